/- Texts of the proof, laid together: CodesB, CodesC. -/
import Derived.KernelRfl
import Derived.Test.YtbldcfbggmjbpaaGreatDoorlawLC4
set_option linter.all false
section
/- The functions asv abstract code,and asv formulas over their values: printed by program out of the translation. -/
set_option linter.unusedVariables false
set_option maxRecDepth 100000
namespace Go.Am
def lY:ACode:=.pr [1,2,5,7,8,14,15,16,27,28,29] (rg [bN 61 .add 29 (cI 1),
mV 29 61] [1,2,5,7,8,14,15,16,27,28,29])
def z4m (C:Hd)(gl:GL)(v1 v2 v5 v7 v8 v14 v15 v16 v27 v28 v29:AV)(h:bA)(x:Esc)(K:KT):Prop:=
 pK (jA .add v29 (AI 1)) fun t1=>
 K .normal ⟨[(1,v1),(2,v2),(5,v5),(7,v7),(8,v8),(14,v14),(15,v15),(16,v16),(27,v27),(28,v28),(29,t1)],h,x⟩
theorem zho {C gl e h x K}:NW C gl lY ⟨e,h,x⟩ K=z4m C gl (aA e 1) (aA e 2) (aA e 5) (aA e 7) (aA e 8) (aA e 14) (aA e 15) (aA e 16) (aA e 27) (aA e 28) (aA e 29) h x K:=by kernel_rfl
def z1a (q1:ACode):ACode:=.pr [1,2,5,7,8,14,15,16,27,28,29] (.seq (rg [bN 30 .lss 29 28] [1,2,5,7,8,14,15,16,27,28,29,30])
(.seq (.cond 30 .skip
(.exit 2))
(.seq (.block 3 (.seq (rg [mV 31 29,
iA 32 (some 4) 27 29,
lD 33 (some 4) 32,
uO 10 (.alloc [.p (.int .i64 0),.p (.str []),.p (.int .i64 0),.p (.int .i64 0)]),
mV 9 31,
wO (.store (some 4) 10 33)] [1,2,5,7,8,9,10,14,15,16,27,28,29])
(.seq (.seq (rg [fA 34 0 none 10,
lD 35 none 34,
bN 36 .neq 35 (cI 1)] [1,2,5,7,8,9,10,14,15,16,27,28,29,36])
(.cond 36 (.exit 3)
.skip))
(.seq (rg [mV 37 8,
mV 38 9,
iA 39 none 37 38,
wO (.store none 39 (.c (.p (.int .u8 49))))] [1,2,5,7,8,9,10,14,15,16,27,28,29])
(.seq (rg [lD 40 (some 3) 2,
fA 41 0 none 7,
lD 42 none 41,
fA 43 1 none 10,
lD 44 none 43,
cL 45 xH [40,42,44],
mV 11 45] [1,2,5,7,8,9,11,14,15,16,27,28,29])
(.seq (rg [mV 46 11,
bN 47 .neq 46 (cS [])] [1,2,5,7,8,9,11,14,15,16,27,28,29,47])
(.cond 47 (.seq (rg [lD 48 (some 3) 2,
mV 49 1,
mV 50 11,
cL 51 uF [48,49,50],
mV 12 51] [1,2,5,7,8,9,12,14,15,16,27,28,29])
(.seq (rg [mV 52 12,
bN 53 .eql 52 (cI 0),
mV 54 53,
gD 55 54 false (.mv 12),
gD 56 54 false (.bin .eql 55 (cI 3)),
uO 57 (.pick 54 cT 56)] [1,2,5,7,8,9,14,15,16,27,28,29,57])
(.cond 57 (rg [mV 58 8,
mV 59 9,
iA 60 none 58 59,
wO (.store none 60 (.c (.p (.int .u8 48))))] [1,2,5,7,8,14,15,16,27,28,29])
.skip)))
.skip)))))))
q1)))
def tL:ACode:=z1a lY
def UV (C:Hd)(gl:GL)(q1:ACode)(v1 v2 v5 v7 v8 v14 v15 v16 v27 v28 v29:AV)(h:bA)(x:Esc)(K:KT):Prop:=
 pK (jA .lss v29 v28) fun t1=>
 oA t1 (pK (tA (some 4) v27 v29 h) fun t2=>
 pK (eA (some 4) t2 h) fun t3=>
 alK [.p (.int .i64 0),.p (.str []),.p (.int .i64 0),.p (.int .i64 0)] h fun t4 h5 y6=>
 wK (OA (some 4) t4 t3 h5) fun t7 h8 y9=>
 pK (mA 0 none t4) fun t10=>
 pK (eA none t10 h8) fun t11=>
 pK (jA .neq t11 (AI 1)) fun t12=>
 oA t12 (NW C gl q1 ⟨[(1,v1),(2,v2),(5,v5),(7,v7),(8,v8),(9,v29),(10,t4),(14,v14),(15,v15),(16,v16),(27,v27),(28,v28),(29,v29),(36,t12)],h8,(y9++(y6++x))⟩ K)
 (pK (tA none v8 v29 h8) fun t13=>
 wK (OA none t13 (.p (.int .u8 49)) h8) fun t14 h15 y16=>
 pK (eA (some 3) v2 h15) fun t17=>
 pK (mA 0 none v7) fun t18=>
 pK (eA none t18 h15) fun t19=>
 pK (mA 1 none t4) fun t20=>
 pK (eA none t20 h15) fun t21=>
 C xH [t17,t19,t21] h15 fun t22 h23 y24=>
 pK (jA .neq t22 (.p (.str []))) fun t25=>
 oA t25 (pK (eA (some 3) v2 h23) fun t26=>
 C uF [t26,v1,t22] h23 fun t27 h28 y29=>
 pK (jA .eql t27 (AI 0)) fun t30=>
 gM t30 false t27 h28 fun t31 h32 y33=>
 gP t30 false (jA .eql t31 (AI 3)) h32 fun t34 h35 y36=>
 pK (MA t30 (AB true) t34) fun t37=>
 oA t37 (pK (tA none v8 v29 h35) fun t38=>
 wK (OA none t38 (.p (.int .u8 48)) h35) fun t39 h40 y41=>
 NW C gl q1 ⟨[(1,v1),(2,v2),(5,v5),(7,v7),(8,v8),(14,v14),(15,v15),(16,v16),(27,v27),(28,v28),(29,v29)],h40,(y41++(y36++(y33++(y29++(y24++(y16++(y9++(y6++x))))))))⟩ K)
 (NW C gl q1 ⟨[(1,v1),(2,v2),(5,v5),(7,v7),(8,v8),(9,v29),(14,v14),(15,v15),(16,v16),(27,v27),(28,v28),(29,v29),(57,t37)],h35,(y36++(y33++(y29++(y24++(y16++(y9++(y6++x)))))))⟩ K))
 (NW C gl q1 ⟨[(1,v1),(2,v2),(5,v5),(7,v7),(8,v8),(9,v29),(11,t22),(14,v14),(15,v15),(16,v16),(27,v27),(28,v28),(29,v29),(47,t25)],h23,(y24++(y16++(y9++(y6++x))))⟩ K)))
 (K (.exit 2) ⟨[(1,v1),(2,v2),(5,v5),(7,v7),(8,v8),(14,v14),(15,v15),(16,v16),(27,v27),(28,v28),(29,v29),(30,t1)],h,x⟩)
theorem zaz {C gl q1 e h x K}:NW C gl (z1a q1) ⟨e,h,x⟩ K=UV C gl q1 (aA e 1) (aA e 2) (aA e 5) (aA e 7) (aA e 8) (aA e 14) (aA e 15) (aA e 16) (aA e 27) (aA e 28) (aA e 29) h x K:=by kernel_rfl
theorem zhp {C gl e h x K}:NW C gl tL ⟨e,h,x⟩ K=UV C gl lY (aA e 1) (aA e 2) (aA e 5) (aA e 7) (aA e 8) (aA e 14) (aA e 15) (aA e 16) (aA e 27) (aA e 28) (aA e 29) h x K:=zaz
theorem zlh {C gl e h x K}:NW C gl (.loop (.scope tL)) ⟨e,h,x⟩ K=GA C gl (.scope tL) K [(1,aA e 1),(2,aA e 2),(5,aA e 5),(7,aA e 7),(8,aA e 8),(14,aA e 14),(15,aA e 15),(16,aA e 16),(27,aA e 27),(28,aA e 28),(29,aA e 29)] h x:=vB
def mY:ACode:=.pr [1,2,5,8,14,15,16] (rg [mV 62 5,
mV 63 8,
uO 64 (.conv .b2s 63),
uO 65 (.bsl false none 1 (.str []) [(0,64)]),
uO 66 (.app none 62 65),
mV 5 66] [1,2,5,14,15,16])
def z4n (C:Hd)(gl:GL)(v1 v2 v5 v8 v14 v15 v16:AV)(h:bA)(x:Esc)(K:KT):Prop:=
 wK (TD .b2s v8 h) fun t1 h2 y3=>
 wK (jB false none 1 (.str []) [(0,t1)] h2) fun t4 h5 y6=>
 wK (LC none v5 t4 h5) fun t7 h8 y9=>
 K .normal ⟨[(1,v1),(2,v2),(5,t7),(14,v14),(15,v15),(16,v16)],h8,(y9++(y6++(y3++x)))⟩
theorem zhq {C gl e h x K}:NW C gl mY ⟨e,h,x⟩ K=z4n C gl (aA e 1) (aA e 2) (aA e 5) (aA e 8) (aA e 14) (aA e 15) (aA e 16) h x K:=by kernel_rfl
def nY:ACode:=.pr [1,2,5,14,15,16] (rg [bN 67 .add 16 (cI 1),
mV 16 67] [1,2,5,14,15,16])
def z4o (C:Hd)(gl:GL)(v1 v2 v5 v14 v15 v16:AV)(h:bA)(x:Esc)(K:KT):Prop:=
 pK (jA .add v16 (AI 1)) fun t1=>
 K .normal ⟨[(1,v1),(2,v2),(5,v5),(14,v14),(15,v15),(16,t1)],h,x⟩
theorem zhr {C gl e h x K}:NW C gl nY ⟨e,h,x⟩ K=z4o C gl (aA e 1) (aA e 2) (aA e 5) (aA e 14) (aA e 15) (aA e 16) h x K:=by kernel_rfl
def z1b (q2 q3 q4:ACode):ACode:=.pr [1,2,5,14,15,16] (.seq (rg [bN 17 .lss 16 15] [1,2,5,14,15,16,17])
(.seq (.cond 17 .skip
(.exit 0))
(.seq (.block 1 (.seq (rg [mV 18 16,
iA 19 (some 2) 14 16,
lD 20 (some 2) 19,
uO 7 (.alloc [.p (.str []),.sl0 (some 4)]),
mV 6 18,
wO (.store (some 2) 7 20)] [1,2,5,6,7,14,15,16])
(.seq (rg [mV 21 1,
mV 22 6,
iA 23 none 21 22,
lD 24 none 23,
uO 25 (.conv .s2b 24),
mV 8 25] [1,2,5,7,8,14,15,16])
(.seq (.seq (rg [fA 26 1 none 7,
lD 27 none 26,
lN 28 27,
mV 29 (cI 0)] [1,2,5,7,8,14,15,16,27,28,29])
(.block 2 (.loop (.scope q2))))
q3))))
q4)))
def uL:ACode:=z1b tL mY nY
def kQ (C:Hd)(gl:GL)(q2 q3 q4:ACode)(v1 v2 v5 v14 v15 v16:AV)(h:bA)(x:Esc)(K:KT):Prop:=
 pK (jA .lss v16 v15) fun t1=>
 oA t1 (pK (tA (some 2) v14 v16 h) fun t2=>
 pK (eA (some 2) t2 h) fun t3=>
 alK [.p (.str []),.sl0 (some 4)] h fun t4 h5 y6=>
 wK (OA (some 2) t4 t3 h5) fun t7 h8 y9=>
 pK (tA none v1 v16 h8) fun t10=>
 pK (eA none t10 h8) fun t11=>
 wK (TD .s2b t11 h8) fun t12 h13 y14=>
 pK (mA 1 none t4) fun t15=>
 pK (eA none t15 h13) fun t16=>
 pK (xA t16) fun t17=>
 NW C gl (.loop (.scope q2)) ⟨[(1,v1),(2,v2),(5,v5),(7,t4),(8,t12),(14,v14),(15,v15),(16,v16),(27,t16),(28,t17),(29,(AI 0))],h13,(y14++(y9++(y6++x)))⟩ (wA 2 (QA C gl q3 (wA 1 (QA C gl q4 K)))))
 (K (.exit 0) ⟨[(1,v1),(2,v2),(5,v5),(14,v14),(15,v15),(16,v16),(17,t1)],h,x⟩)
theorem za0 {C gl q2 q3 q4 e h x K}:NW C gl (z1b q2 q3 q4) ⟨e,h,x⟩ K=kQ C gl q2 q3 q4 (aA e 1) (aA e 2) (aA e 5) (aA e 14) (aA e 15) (aA e 16) h x K:=by kernel_rfl
theorem z5w {C gl e h x K}:NW C gl uL ⟨e,h,x⟩ K=kQ C gl tL mY nY (aA e 1) (aA e 2) (aA e 5) (aA e 14) (aA e 15) (aA e 16) h x K:=za0
theorem zli {C gl e h x K}:NW C gl (.loop (.scope uL)) ⟨e,h,x⟩ K=GA C gl (.scope uL) K [(1,aA e 1),(2,aA e 2),(5,aA e 5),(14,aA e 14),(15,aA e 15),(16,aA e 16)] h x:=vB
def TR:ACode:=.pr [5] (.seq (rg [mV 68 5,
mV 4 68] [4])
.ret)
def z4p (C:Hd)(gl:GL)(v5:AV)(h:bA)(x:Esc)(K:KT):Prop:=
 K .ret ⟨[(4,v5)],h,x⟩
theorem zhs {C gl e h x K}:NW C gl TR ⟨e,h,x⟩ K=z4p C gl (aA e 5) h x K:=by kernel_rfl
def z0Z (q5 q6:ACode):ACode:=(.seq (rg [uO 2 (.box 0),
mV 4 (.c (.p (.sl none [])))] [1,2])
(.seq (rg [uO 5 (.new0 none)] [1,2,5])
(.seq (.seq (rg [fA 13 0 none 2,
lD 14 none 13,
lN 15 14,
mV 16 (cI 0)] [1,2,5,14,15,16])
(.block 0 (.loop (.scope q5))))
q6)))
def RT:AFun:=⟨2,[.t 4],z0Z uL TR,false,false⟩
def jQ (C:Hd)(gl:GL)(q5 q6:ACode)(v0 v1:AV)(h:bA)(x:Esc)(K:KT):Prop:=
 wK (dB v0 h) fun t1 h2 y3=>
 nwK none h2 fun t4 h5 y6=>
 pK (mA 0 none t1) fun t7=>
 pK (eA none t7 h5) fun t8=>
 pK (xA t8) fun t9=>
 NW C gl (.loop (.scope q5)) ⟨[(1,v1),(2,t1),(5,t4),(14,t8),(15,t9),(16,(AI 0))],h5,(y6++(y3++x))⟩ (wA 0 (QA C gl q6 K))
theorem zay {C gl q5 q6 v0 v1 h x K}:NW C gl (z0Z q5 q6) ⟨enter [v0,v1],h,x⟩ K=jQ C gl q5 q6 v0 v1 h x K:=by kernel_rfl
theorem zhn {C gl v0 v1 h x K}:NW C gl RT.body ⟨enter [v0,v1],h,x⟩ K=jQ C gl uL TR v0 v1 h x K:=zay
def zbL:ACode:=(.seq (rg [uO 2 (.box 0),
uO 3 (.box 1),
mV 4 (.c (.p (.sl none [])))] [2,3])
(.seq (rg [lD 5 (some 3) 2,
cL 6 AE [5],
uO 7 (.mkfn fK [2,3]),
cL 8 DH [6,7],
mV 4 8] [4])
.ret))
def ST:AFun:=⟨2,[.t 4],zbL,false,false⟩
def VV (C:Hd)(gl:GL)(v0 v1:AV)(h:bA)(x:Esc)(K:KT):Prop:=
 wK (dB v0 h) fun t1 h2 y3=>
 wK (dB v1 h2) fun t4 h5 y6=>
 pK (eA (some 3) t1 h5) fun t7=>
 C AE [t7] h5 fun t8 h9 y10=>
 C DH [t8,(.fn fK [t1,t4])] h9 fun t11 h12 y13=>
 K .ret ⟨[(4,t11)],h12,(y13++(y10++(y6++(y3++x))))⟩
theorem zht {C gl v0 v1 h x K}:NW C gl ST.body ⟨enter [v0,v1],h,x⟩ K=VV C gl v0 v1 h x K:=by kernel_rfl
def sL:ACode:=.pr [1,3,19,20,21] (.seq (rg [bN 22 .lss 21 20] [1,3,19,20,21,22])
(.seq (.cond 22 .skip
(.exit 0))
(.seq (.block 1 (.seq (rg [iA 23 (some 2) 19 21,
lD 24 (some 2) 23,
uO 5 (.alloc [.p (.str []),.sl0 (some 4)]),
wO (.store (some 2) 5 24)] [1,3,5,19,20,21])
(.seq (.block 2 (.seq (rg [fA 26 0 none 5,
lD 27 none 26,
cL 28 ZF [27],
uO 29 (.un .not 28),
mV 25 29] [1,3,5,19,20,21,25])
(.cond 25 (.seq (rg [mV 2 (cI 5)] [2])
.ret)
(.seq (rg [fA 31 0 none 5,
lD 32 none 31,
mV 33 3,
bN 34 .leq 32 33,
mV 30 34] [1,5,19,20,21,30])
(.cond 30 (.seq (rg [mV 2 (cI 7)] [2])
.ret)
.skip)))))
(.seq (.seq (rg [lD 35 (some 2) 5,
cL 36 oK [35],
mV 6 36] [1,5,6,19,20,21])
(.seq (rg [mV 37 6,
bN 38 .neq 37 (cI 0)] [1,5,6,19,20,21,38])
(.cond 38 (.seq (rg [mV 39 6,
mV 2 39] [2])
.ret)
.skip)))
(rg [fA 40 0 none 5,
lD 41 none 40,
mV 3 41] [1,3,19,20,21])))))
(rg [bN 42 .add 21 (cI 1),
mV 21 42] [1,3,19,20,21]))))
def z4h (C:Hd)(gl:GL)(v1 v3 v19 v20 v21:AV)(h:bA)(x:Esc)(K:KT):Prop:=
 pK (jA .lss v21 v20) fun t1=>
 oA t1 (pK (tA (some 2) v19 v21 h) fun t2=>
 pK (eA (some 2) t2 h) fun t3=>
 alK [.p (.str []),.sl0 (some 4)] h fun t4 h5 y6=>
 wK (OA (some 2) t4 t3 h5) fun t7 h8 y9=>
 pK (mA 0 none t4) fun t10=>
 pK (eA none t10 h8) fun t11=>
 C ZF [t11] h8 fun t12 h13 y14=>
 pK (oUn .not t12) fun t15=>
 oA t15 (K .ret ⟨[(2,(AI 5))],h13,(y14++(y9++(y6++x)))⟩)
 (pK (mA 0 none t4) fun t16=>
 pK (eA none t16 h13) fun t17=>
 pK (jA .leq t17 v3) fun t18=>
 oA t18 (K .ret ⟨[(2,(AI 7))],h13,(y14++(y9++(y6++x)))⟩)
 (pK (eA (some 2) t4 h13) fun t19=>
 C oK [t19] h13 fun t20 h21 y22=>
 pK (jA .neq t20 (AI 0)) fun t23=>
 oA t23 (K .ret ⟨[(2,t20)],h21,(y22++(y14++(y9++(y6++x))))⟩)
 (pK (mA 0 none t4) fun t24=>
 pK (eA none t24 h21) fun t25=>
 pK (jA .add v21 (AI 1)) fun t26=>
 K .normal ⟨[(1,v1),(3,t25),(19,v19),(20,v20),(21,t26)],h21,(y22++(y14++(y9++(y6++x))))⟩))))
 (K (.exit 0) ⟨[(1,v1),(3,v3),(19,v19),(20,v20),(21,v21),(22,t1)],h,x⟩)
theorem zhh {C gl e h x K}:NW C gl sL ⟨e,h,x⟩ K=z4h C gl (aA e 1) (aA e 3) (aA e 19) (aA e 20) (aA e 21) h x K:=by kernel_rfl
theorem zld {C gl e h x K}:NW C gl (.loop (.scope sL)) ⟨e,h,x⟩ K=GA C gl (.scope sL) K [(1,aA e 1),(3,aA e 3),(19,aA e 19),(20,aA e 20),(21,aA e 21)] h x:=vB
def TN:ACode:=.pr [1,48,49,50] (.seq (rg [bN 51 .lss 50 49] [1,48,49,50,51])
(.seq (.cond 51 .skip
(.exit 3))
(.seq (.block 4 (.seq (rg [mV 52 50,
iA 53 (some 3) 48 50,
lD 54 (some 3) 53,
uO 8 (.alloc [.p (.str []),.p (.str []),.p (.str [])]),
mV 7 52,
wO (.store (some 3) 8 54)] [1,7,8,48,49,50])
(.block 5 (.seq (rg [fA 56 0 none 8,
lD 57 none 56,
cL 58 ZF [57],
uO 59 (.un .not 58),
mV 55 59] [1,7,8,48,49,50,55])
(.cond 55 (.seq (rg [mV 2 (cI 5)] [2])
.ret)
(.seq (rg [lD 61 (some 3) 1,
fA 62 1 none 8,
lD 63 none 62,
fA 64 2 none 8,
lD 65 none 64,
cL 66 nK [61,63,65],
uO 67 (.un .not 66),
mV 60 67] [1,7,8,48,49,50,60])
(.cond 60 (.seq (rg [mV 2 (cI 8)] [2])
.ret)
(.seq (dr [dF (mV 69 7) [7],
dF (bN 70 .gtr 69 (cI 0)) [69],
dF (mV 71 70) [70],
dF (gD 72 71 true (.faddr 1 none 1)) [1,71],
dF (gD 73 71 true (.load none 72)) [72,71],
dF (gD 74 71 true (.mv 7)) [7,71],
dF (gD 75 71 true (.bin .sub 74 (cI 1))) [74,71],
dF (gD 76 71 true (.iaddr (some 3) 73 75)) [73,75,71],
dF (gD 77 71 true (.faddr 0 none 76)) [76,71],
dF (gD 78 71 true (.load none 77)) [77,71],
dF (gD 79 71 true (.faddr 1 none 1)) [1,71],
dF (gD 80 71 true (.load none 79)) [79,71],
dF (gD 81 71 true (.mv 7)) [7,71],
dF (gD 82 71 true (.bin .sub 81 (cI 1))) [81,71],
dF (gD 83 71 true (.iaddr (some 3) 80 82)) [80,82,71],
dF (gD 84 71 true (.faddr 1 none 83)) [83,71],
dF (gD 85 71 true (.load none 84)) [84,71],
dF (gD 86 71 true (.faddr 1 none 1)) [1,71],
dF (gD 87 71 true (.load none 86)) [86,71],
dF (gD 88 71 true (.mv 7)) [7,71],
dF (gD 89 71 true (.bin .sub 88 (cI 1))) [88,71],
dF (gD 90 71 true (.iaddr (some 3) 87 89)) [87,89,71],
dF (gD 91 71 true (.faddr 2 none 90)) [90,71],
dF (gD 92 71 true (.load none 91)) [91,71],
dF (gD 93 71 true (.bsl false none 3 (.str []) [(0,78),(1,85),(2,92)])) [78,85,92,71],
dF (gD 94 71 true (.faddr 0 none 8)) [8,71],
dF (gD 95 71 true (.load none 94)) [94,71],
dF (gD 96 71 true (.faddr 1 none 8)) [8,71],
dF (gD 97 71 true (.load none 96)) [96,71],
dF (gD 98 71 true (.faddr 2 none 8)) [8,71],
dF (gD 99 71 true (.load none 98)) [98,71],
dF (gD 100 71 true (.bsl false none 3 (.str []) [(0,95),(1,97),(2,99)])) [95,97,99,71],
dT (gD 101 71 true (.call AH [93,100])) [93,100,71],
dF (gD 102 71 true (.bin .geq 101 (cI 0))) [101,71],
dF (uO 103 (.pick 71 102 cF)) [71,102],
dF (mV 68 103) [103]] [1,48,49,50,68])
(.cond 68 (.seq (rg [mV 2 (cI 7)] [2])
.ret)
.skip)))))))))
(rg [bN 104 .add 50 (cI 1),
mV 50 104] [1,48,49,50]))))
def z4i (C:Hd)(gl:GL)(v1 v48 v49 v50:AV)(h:bA)(x:Esc)(K:KT):Prop:=
 pK (jA .lss v50 v49) fun t1=>
 oA t1 (pK (tA (some 3) v48 v50 h) fun t2=>
 pK (eA (some 3) t2 h) fun t3=>
 alK [.p (.str []),.p (.str []),.p (.str [])] h fun t4 h5 y6=>
 wK (OA (some 3) t4 t3 h5) fun t7 h8 y9=>
 pK (mA 0 none t4) fun t10=>
 pK (eA none t10 h8) fun t11=>
 C ZF [t11] h8 fun t12 h13 y14=>
 pK (oUn .not t12) fun t15=>
 oA t15 (K .ret ⟨[(2,(AI 5))],h13,(y14++(y9++(y6++x)))⟩)
 (pK (eA (some 3) v1 h13) fun t16=>
 pK (mA 1 none t4) fun t17=>
 pK (eA none t17 h13) fun t18=>
 pK (mA 2 none t4) fun t19=>
 pK (eA none t19 h13) fun t20=>
 C nK [t16,t18,t20] h13 fun t21 h22 y23=>
 pK (oUn .not t21) fun t24=>
 oA t24 (K .ret ⟨[(2,(AI 8))],h22,(y23++(y14++(y9++(y6++x))))⟩)
 (pK (jA .gtr v50 (AI 0)) fun t25=>
 gP t25 true (mA 1 none v1) h22 fun t26 h27 y28=>
 gP t25 true (eA none t26 h27) h27 fun t29 h30 y31=>
 gM t25 true v50 h30 fun t32 h33 y34=>
 gP t25 true (jA .sub t32 (AI 1)) h33 fun t35 h36 y37=>
 gP t25 true (tA (some 3) t29 t35 h36) h36 fun t38 h39 y40=>
 gP t25 true (mA 0 none t38) h39 fun t41 h42 y43=>
 gP t25 true (eA none t41 h42) h42 fun t44 h45 y46=>
 gP t25 true (mA 1 none v1) h45 fun t47 h48 y49=>
 gP t25 true (eA none t47 h48) h48 fun t50 h51 y52=>
 gM t25 true v50 h51 fun t53 h54 y55=>
 gP t25 true (jA .sub t53 (AI 1)) h54 fun t56 h57 y58=>
 gP t25 true (tA (some 3) t50 t56 h57) h57 fun t59 h60 y61=>
 gP t25 true (mA 1 none t59) h60 fun t62 h63 y64=>
 gP t25 true (eA none t62 h63) h63 fun t65 h66 y67=>
 gP t25 true (mA 1 none v1) h66 fun t68 h69 y70=>
 gP t25 true (eA none t68 h69) h69 fun t71 h72 y73=>
 gM t25 true v50 h72 fun t74 h75 y76=>
 gP t25 true (jA .sub t74 (AI 1)) h75 fun t77 h78 y79=>
 gP t25 true (tA (some 3) t71 t77 h78) h78 fun t80 h81 y82=>
 gP t25 true (mA 2 none t80) h81 fun t83 h84 y85=>
 gP t25 true (eA none t83 h84) h84 fun t86 h87 y88=>
 gV t25 true h87 (wK (jB false none 3 (.str []) [(0,t44),(1,t65),(2,t86)] h87)) fun t89 h90 y91=>
 (h90=h87∧y91=[])∧(gP t25 true (mA 0 none t4) h90 fun t92 h93 y94=>
 gP t25 true (eA none t92 h93) h93 fun t95 h96 y97=>
 gP t25 true (mA 1 none t4) h96 fun t98 h99 y100=>
 gP t25 true (eA none t98 h99) h99 fun t101 h102 y103=>
 gP t25 true (mA 2 none t4) h102 fun t104 h105 y106=>
 gP t25 true (eA none t104 h105) h105 fun t107 h108 y109=>
 gV t25 true h108 (wK (jB false none 3 (.str []) [(0,t95),(1,t101),(2,t107)] h108)) fun t110 h111 y112=>
 (h111=h108∧y112=[])∧(gV t25 true h111 (DB C AH [t89,t110] h111) fun t113 h114 y115=>
 gP t25 true (jA .geq t113 (AI 0)) h114 fun t116 h117 y118=>
 pK (MA t25 t116 (AB false)) fun t119=>
 oA t119 (K .ret ⟨[(2,(AI 7))],h117,(y118++(y115++(y112++(y109++(y106++(y103++(y100++(y97++(y94++(y91++(y88++(y85++(y82++(y79++(y76++(y73++(y70++(y67++(y64++(y61++(y58++(y55++(y52++(y49++(y46++(y43++(y40++(y37++(y34++(y31++(y28++(y23++(y14++(y9++(y6++x)))))))))))))))))))))))))))))))))))⟩)
 (pK (jA .add v50 (AI 1)) fun t120=>
 K .normal ⟨[(1,v1),(48,v48),(49,v49),(50,t120)],h117,(y118++(y115++(y112++(y109++(y106++(y103++(y100++(y97++(y94++(y91++(y88++(y85++(y82++(y79++(y76++(y73++(y70++(y67++(y64++(y61++(y58++(y55++(y52++(y49++(y46++(y43++(y40++(y37++(y34++(y31++(y28++(y23++(y14++(y9++(y6++x)))))))))))))))))))))))))))))))))))⟩))))))
 (K (.exit 3) ⟨[(1,v1),(48,v48),(49,v49),(50,v50),(51,t1)],h,x⟩)
theorem zhi {C gl e h x K}:NW C gl TN ⟨e,h,x⟩ K=z4i C gl (aA e 1) (aA e 48) (aA e 49) (aA e 50) h x K:=by kernel_rfl
theorem zle {C gl e h x K}:NW C gl (.loop (.scope TN)) ⟨e,h,x⟩ K=GA C gl (.scope TN) K [(1,aA e 1),(48,aA e 48),(49,aA e 49),(50,aA e 50)] h x:=vB
def UN:ACode:=.pr [1,106,107,108] (.seq (rg [bN 109 .lss 108 107] [1,106,107,108,109])
(.seq (.cond 109 .skip
(.exit 6))
(.seq (.block 7 (.seq (rg [mV 110 108,
iA 111 (some 3) 106 108,
lD 112 (some 3) 111,
uO 10 (.alloc [.p (.str []),.p (.str []),.p (.str [])]),
mV 9 110,
wO (.store (some 3) 10 112)] [1,9,10,106,107,108])
(.seq (rg [fA 113 1 none 1,
lD 114 none 113,
mV 115 9,
uO 116 (.slice (some 3) 114 none (some 115) none),
uO 117 (.mkfn yI [10]),
cL 118 rK [116,117]] [1,106,107,108,118])
(.cond 118 (.seq (rg [mV 2 (cI 6)] [2])
.ret)
.skip))))
(rg [bN 119 .add 108 (cI 1),
mV 108 119] [1,106,107,108]))))
def z4j (C:Hd)(gl:GL)(v1 v106 v107 v108:AV)(h:bA)(x:Esc)(K:KT):Prop:=
 pK (jA .lss v108 v107) fun t1=>
 oA t1 (pK (tA (some 3) v106 v108 h) fun t2=>
 pK (eA (some 3) t2 h) fun t3=>
 alK [.p (.str []),.p (.str []),.p (.str [])] h fun t4 h5 y6=>
 wK (OA (some 3) t4 t3 h5) fun t7 h8 y9=>
 pK (mA 1 none v1) fun t10=>
 pK (eA none t10 h8) fun t11=>
 pK (GE (some 3) t11 none (some v108) none h8) fun t12=>
 C rK [t12,(.fn yI [t4])] h8 fun t13 h14 y15=>
 oA t13 (K .ret ⟨[(2,(AI 6))],h14,(y15++(y9++(y6++x)))⟩)
 (pK (jA .add v108 (AI 1)) fun t16=>
 K .normal ⟨[(1,v1),(106,v106),(107,v107),(108,t16)],h14,(y15++(y9++(y6++x)))⟩))
 (K (.exit 6) ⟨[(1,v1),(106,v106),(107,v107),(108,v108),(109,t1)],h,x⟩)
theorem zhj {C gl e h x K}:NW C gl UN ⟨e,h,x⟩ K=z4j C gl (aA e 1) (aA e 106) (aA e 107) (aA e 108) h x K:=by kernel_rfl
theorem zlf {C gl e h x K}:NW C gl (.loop (.scope UN)) ⟨e,h,x⟩ K=GA C gl (.scope UN) K [(1,aA e 1),(106,aA e 106),(107,aA e 107),(108,aA e 108)] h x:=vB
def VN:ACode:=.pr [3,11,126,127,128] (.seq (rg [bN 129 .lss 128 127] [3,11,126,127,128,129])
(.seq (.cond 129 .skip
(.exit 8))
(.seq (.block 9 (.seq (rg [iA 130 (some 2) 126 128,
lD 131 (some 2) 130,
uO 13 (.alloc [.p (.str []),.p (.int .i64 0)]),
wO (.store (some 2) 13 131)] [3,11,13,126,127,128])
(.seq (.block 10 (.seq (rg [mV 133 11,
fA 134 0 none 13,
lD 135 none 134,
cL 136 DG [133,135],
uO 137 (.un .not 136),
mV 132 137] [3,11,13,126,127,128,132])
(.cond 132 (.seq (rg [mV 2 (cI 8)] [2])
.ret)
(.seq (rg [fA 139 1 none 13,
lD 140 none 139,
cL 141 PD [140,(cI 0),(cI 1)],
uO 142 (.un .not 141),
mV 138 142] [3,11,13,126,127,128,138])
(.cond 138 (.seq (rg [mV 2 (cI 1)] [2])
.ret)
(.seq (rg [fA 144 0 none 13,
lD 145 none 144,
mV 146 3,
bN 147 .leq 145 146,
mV 143 147] [11,13,126,127,128,143])
(.cond 143 (.seq (rg [mV 2 (cI 7)] [2])
.ret)
.skip)))))))
(rg [fA 148 0 none 13,
lD 149 none 148,
mV 3 149] [3,11,126,127,128]))))
(rg [bN 150 .add 128 (cI 1),
mV 128 150] [3,11,126,127,128]))))
def z4k (C:Hd)(gl:GL)(v3 v11 v126 v127 v128:AV)(h:bA)(x:Esc)(K:KT):Prop:=
 pK (jA .lss v128 v127) fun t1=>
 oA t1 (pK (tA (some 2) v126 v128 h) fun t2=>
 pK (eA (some 2) t2 h) fun t3=>
 alK [.p (.str []),.p (.int .i64 0)] h fun t4 h5 y6=>
 wK (OA (some 2) t4 t3 h5) fun t7 h8 y9=>
 pK (mA 0 none t4) fun t10=>
 pK (eA none t10 h8) fun t11=>
 C DG [v11,t11] h8 fun t12 h13 y14=>
 pK (oUn .not t12) fun t15=>
 oA t15 (K .ret ⟨[(2,(AI 8))],h13,(y14++(y9++(y6++x)))⟩)
 (pK (mA 1 none t4) fun t16=>
 pK (eA none t16 h13) fun t17=>
 C PD [t17,(AI 0),(AI 1)] h13 fun t18 h19 y20=>
 pK (oUn .not t18) fun t21=>
 oA t21 (K .ret ⟨[(2,(AI 1))],h19,(y20++(y14++(y9++(y6++x))))⟩)
 (pK (mA 0 none t4) fun t22=>
 pK (eA none t22 h19) fun t23=>
 pK (jA .leq t23 v3) fun t24=>
 oA t24 (K .ret ⟨[(2,(AI 7))],h19,(y20++(y14++(y9++(y6++x))))⟩)
 (pK (mA 0 none t4) fun t25=>
 pK (eA none t25 h19) fun t26=>
 pK (jA .add v128 (AI 1)) fun t27=>
 K .normal ⟨[(3,t26),(11,v11),(126,v126),(127,v127),(128,t27)],h19,(y20++(y14++(y9++(y6++x))))⟩))))
 (K (.exit 8) ⟨[(3,v3),(11,v11),(126,v126),(127,v127),(128,v128),(129,t1)],h,x⟩)
theorem zhk {C gl e h x K}:NW C gl VN ⟨e,h,x⟩ K=z4k C gl (aA e 3) (aA e 11) (aA e 126) (aA e 127) (aA e 128) h x K:=by kernel_rfl
theorem zlg {C gl e h x K}:NW C gl (.loop (.scope VN)) ⟨e,h,x⟩ K=GA C gl (.scope VN) K [(3,aA e 3),(11,aA e 11),(126,aA e 126),(127,aA e 127),(128,aA e 128)] h x:=vB
def kY:ACode:=.pr [] (.seq (rg [mV 2 (cI 0)] [2])
.ret)
def z4l (C:Hd)(gl:GL)(h:bA)(x:Esc)(K:KT):Prop:=
 K .ret ⟨[(2,(AI 0))],h,x⟩
theorem zhl {C gl e h x K}:NW C gl kY ⟨e,h,x⟩ K=z4l C gl h x K:=by kernel_rfl
def z0W (q4 q5:ACode):ACode:=.pr [1] (.seq (rg [lD 120 (some 3) 1,
cL 121 AE [120],
mV 11 121] [1,11])
(.seq (.seq (rg [mV 122 11,
lN 123 122,
bN 124 .gtr 123 (cI 100)] [1,11,124])
(.cond 124 (.seq (rg [mV 2 (cI 2)] [2])
.ret)
.skip))
(.seq (rg [mV 3 (cS [])] [1,3,11])
(.seq (.seq (rg [fA 125 2 none 1,
lD 126 none 125,
lN 127 126,
mV 128 (cI 0)] [3,11,126,127,128])
(.block 8 (.loop (.scope q4))))
q5))))
def QR:ACode:=z0W VN kY
def lH (C:Hd)(gl:GL)(q4 q5:ACode)(v1:AV)(h:bA)(x:Esc)(K:KT):Prop:=
 pK (eA (some 3) v1 h) fun t1=>
 C AE [t1] h fun t2 h3 y4=>
 pK (xA t2) fun t5=>
 pK (jA .gtr t5 (AI 100)) fun t6=>
 oA t6 (K .ret ⟨[(2,(AI 2))],h3,(y4++x)⟩)
 (pK (mA 2 none v1) fun t7=>
 pK (eA none t7 h3) fun t8=>
 pK (xA t8) fun t9=>
 NW C gl (.loop (.scope q4)) ⟨[(3,(.p (.str []))),(11,t2),(126,t8),(127,t9),(128,(AI 0))],h3,(y4++x)⟩ (wA 8 (QA C gl q5 K)))
theorem zav {C gl q4 q5 e h x K}:NW C gl (z0W q4 q5) ⟨e,h,x⟩ K=lH C gl q4 q5 (aA e 1) h x K:=by kernel_rfl
theorem KJ {C gl e h x K}:NW C gl QR ⟨e,h,x⟩ K=lH C gl VN kY (aA e 1) h x K:=zav
def z0X (q3 q6:ACode):ACode:=.pr [1] (.seq (.seq (rg [fA 105 1 none 1,
lD 106 none 105,
lN 107 106,
mV 108 (cI 0)] [1,106,107,108])
(.block 6 (.loop (.scope q3))))
q6)
def SR:ACode:=z0X UN QR
def mH (C:Hd)(gl:GL)(q3 q6:ACode)(v1:AV)(h:bA)(x:Esc)(K:KT):Prop:=
 pK (mA 1 none v1) fun t1=>
 pK (eA none t1 h) fun t2=>
 pK (xA t2) fun t3=>
 NW C gl (.loop (.scope q3)) ⟨[(1,v1),(106,t2),(107,t3),(108,(AI 0))],h,x⟩ (wA 6 (QA C gl q6 K))
theorem zaw {C gl q3 q6 e h x K}:NW C gl (z0X q3 q6) ⟨e,h,x⟩ K=mH C gl q3 q6 (aA e 1) h x K:=by kernel_rfl
theorem LJ {C gl e h x K}:NW C gl SR ⟨e,h,x⟩ K=mH C gl UN QR (aA e 1) h x K:=zaw
def z0Y (q2 q7:ACode):ACode:=.pr [1] (.seq (.seq (rg [fA 43 1 none 1,
lD 44 none 43,
lN 45 44,
bN 46 .gtr 45 (cI 1000)] [1,46])
(.cond 46 (.seq (rg [mV 2 (cI 2)] [2])
.ret)
.skip))
(.seq (.seq (rg [fA 47 1 none 1,
lD 48 none 47,
lN 49 48,
mV 50 (cI 0)] [1,48,49,50])
(.block 3 (.loop (.scope q2))))
q7))
def WN:ACode:=z0Y TN SR
def nH (C:Hd)(gl:GL)(q2 q7:ACode)(v1:AV)(h:bA)(x:Esc)(K:KT):Prop:=
 pK (mA 1 none v1) fun t1=>
 pK (eA none t1 h) fun t2=>
 pK (xA t2) fun t3=>
 pK (jA .gtr t3 (AI 1000)) fun t4=>
 oA t4 (K .ret ⟨[(2,(AI 2))],h,x⟩)
 (pK (mA 1 none v1) fun t5=>
 pK (eA none t5 h) fun t6=>
 pK (xA t6) fun t7=>
 NW C gl (.loop (.scope q2)) ⟨[(1,v1),(48,t6),(49,t7),(50,(AI 0))],h,x⟩ (wA 3 (QA C gl q7 K)))
theorem zax {C gl q2 q7 e h x K}:NW C gl (z0Y q2 q7) ⟨e,h,x⟩ K=nH C gl q2 q7 (aA e 1) h x K:=by kernel_rfl
theorem MJ {C gl e h x K}:NW C gl WN ⟨e,h,x⟩ K=nH C gl TN SR (aA e 1) h x K:=zax
def z0V (q1 q8:ACode):ACode:=(.seq (rg [uO 1 (.box 0),
mV 2 (cI 0)] [1])
(.seq (.seq (rg [fA 14 0 none 1,
lD 15 none 14,
lN 16 15,
bN 17 .gtr 16 (cI 40)] [1,17])
(.cond 17 (.seq (rg [mV 2 (cI 2)] [2])
.ret)
.skip))
(.seq (rg [mV 3 (cS [])] [1,3])
(.seq (.seq (rg [fA 18 0 none 1,
lD 19 none 18,
lN 20 19,
mV 21 (cI 0)] [1,3,19,20,21])
(.block 0 (.loop (.scope q1))))
q8))))
def PT:AFun:=⟨1,[.t 2],z0V sL WN,false,false⟩
def RM (C:Hd)(gl:GL)(q1 q8:ACode)(v0:AV)(h:bA)(x:Esc)(K:KT):Prop:=
 wK (dB v0 h) fun t1 h2 y3=>
 pK (mA 0 none t1) fun t4=>
 pK (eA none t4 h2) fun t5=>
 pK (xA t5) fun t6=>
 pK (jA .gtr t6 (AI 40)) fun t7=>
 oA t7 (K .ret ⟨[(2,(AI 2))],h2,(y3++x)⟩)
 (pK (mA 0 none t1) fun t8=>
 pK (eA none t8 h2) fun t9=>
 pK (xA t9) fun t10=>
 NW C gl (.loop (.scope q1)) ⟨[(1,t1),(3,(.p (.str []))),(19,t9),(20,t10),(21,(AI 0))],h2,(y3++x)⟩ (wA 0 (QA C gl q8 K)))
theorem zau {C gl q1 q8 v0 h x K}:NW C gl (z0V q1 q8) ⟨enter [v0],h,x⟩ K=RM C gl q1 q8 v0 h x K:=by kernel_rfl
theorem zhg {C gl v0 h x K}:NW C gl PT.body ⟨enter [v0],h,x⟩ K=RM C gl sL WN v0 h x K:=zau
def oY:ACode:=.pr [3,5,6,10,11,12,22,23,24] (rg [bN 38 .add 24 (cI 1),
mV 24 38] [3,5,6,10,11,12,22,23,24])
def z4w (C:Hd)(gl:GL)(v3 v5 v6 v10 v11 v12 v22 v23 v24:AV)(h:bA)(x:Esc)(K:KT):Prop:=
 pK (jA .add v24 (AI 1)) fun t1=>
 K .normal ⟨[(3,v3),(5,v5),(6,v6),(10,v10),(11,v11),(12,v12),(22,v22),(23,v23),(24,t1)],h,x⟩
theorem zh8 {C gl e h x K}:NW C gl oY ⟨e,h,x⟩ K=z4w C gl (aA e 3) (aA e 5) (aA e 6) (aA e 10) (aA e 11) (aA e 12) (aA e 22) (aA e 23) (aA e 24) h x K:=by kernel_rfl
def z1g (q1:ACode):ACode:=.pr [3,5,6,10,11,12,22,23,24] (.seq (rg [bN 25 .lss 24 23] [3,5,6,10,11,12,22,23,24,25])
(.seq (.cond 25 .skip
(.exit 2))
(.seq (.block 3 (.seq (rg [mV 26 24,
iA 27 (some 4) 22 24,
lD 28 (some 4) 27,
uO 8 (.alloc [.p (.int .i64 0),.p (.str []),.p (.int .i64 0),.p (.int .i64 0)]),
mV 7 26,
wO (.store (some 4) 8 28)] [3,5,6,7,8,10,11,12,22,23,24])
(.seq (rg [fA 29 0 none 8,
lD 30 none 29,
bN 31 .eql 30 (cI 3)] [3,5,6,7,10,11,12,22,23,24,31])
(.cond 31 (rg [mV 32 6,
mV 33 7,
lD 34 (some 2) 5,
mV 35 7,
cL 36 qK [34,35],
iA 37 none 32 33,
wO (.store none 37 36)] [3,5,6,10,11,12,22,23,24])
.skip))))
q1)))
def yL:ACode:=z1g oY
def ZV (C:Hd)(gl:GL)(q1:ACode)(v3 v5 v6 v10 v11 v12 v22 v23 v24:AV)(h:bA)(x:Esc)(K:KT):Prop:=
 pK (jA .lss v24 v23) fun t1=>
 oA t1 (pK (tA (some 4) v22 v24 h) fun t2=>
 pK (eA (some 4) t2 h) fun t3=>
 alK [.p (.int .i64 0),.p (.str []),.p (.int .i64 0),.p (.int .i64 0)] h fun t4 h5 y6=>
 wK (OA (some 4) t4 t3 h5) fun t7 h8 y9=>
 pK (mA 0 none t4) fun t10=>
 pK (eA none t10 h8) fun t11=>
 pK (jA .eql t11 (AI 3)) fun t12=>
 oA t12 (pK (eA (some 2) v5 h8) fun t13=>
 C qK [t13,v24] h8 fun t14 h15 y16=>
 pK (tA none v6 v24 h15) fun t17=>
 wK (OA none t17 t14 h15) fun t18 h19 y20=>
 NW C gl q1 ⟨[(3,v3),(5,v5),(6,v6),(10,v10),(11,v11),(12,v12),(22,v22),(23,v23),(24,v24)],h19,(y20++(y16++(y9++(y6++x))))⟩ K)
 (NW C gl q1 ⟨[(3,v3),(5,v5),(6,v6),(7,v24),(10,v10),(11,v11),(12,v12),(22,v22),(23,v23),(24,v24),(31,t12)],h8,(y9++(y6++x))⟩ K))
 (K (.exit 2) ⟨[(3,v3),(5,v5),(6,v6),(10,v10),(11,v11),(12,v12),(22,v22),(23,v23),(24,v24),(25,t1)],h,x⟩)
theorem za5 {C gl q1 e h x K}:NW C gl (z1g q1) ⟨e,h,x⟩ K=ZV C gl q1 (aA e 3) (aA e 5) (aA e 6) (aA e 10) (aA e 11) (aA e 12) (aA e 22) (aA e 23) (aA e 24) h x K:=by kernel_rfl
theorem zh9 {C gl e h x K}:NW C gl yL ⟨e,h,x⟩ K=ZV C gl oY (aA e 3) (aA e 5) (aA e 6) (aA e 10) (aA e 11) (aA e 12) (aA e 22) (aA e 23) (aA e 24) h x K:=za5
theorem zlm {C gl e h x K}:NW C gl (.loop (.scope yL)) ⟨e,h,x⟩ K=GA C gl (.scope yL) K [(3,aA e 3),(5,aA e 5),(6,aA e 6),(10,aA e 10),(11,aA e 11),(12,aA e 12),(22,aA e 22),(23,aA e 23),(24,aA e 24)] h x:=vB
def pY:ACode:=.pr [3,6,10,11,12] (rg [mV 39 3,
mV 40 6,
uO 41 (.conv .b2s 40),
uO 42 (.bsl false none 1 (.str []) [(0,41)]),
uO 43 (.app none 39 42),
mV 3 43] [3,10,11,12])
def z4x (C:Hd)(gl:GL)(v3 v6 v10 v11 v12:AV)(h:bA)(x:Esc)(K:KT):Prop:=
 wK (TD .b2s v6 h) fun t1 h2 y3=>
 wK (jB false none 1 (.str []) [(0,t1)] h2) fun t4 h5 y6=>
 wK (LC none v3 t4 h5) fun t7 h8 y9=>
 K .normal ⟨[(3,t7),(10,v10),(11,v11),(12,v12)],h8,(y9++(y6++(y3++x)))⟩
theorem zhA {C gl e h x K}:NW C gl pY ⟨e,h,x⟩ K=z4x C gl (aA e 3) (aA e 6) (aA e 10) (aA e 11) (aA e 12) h x K:=by kernel_rfl
def qY:ACode:=.pr [3,10,11,12] (rg [bN 44 .add 12 (cI 1),
mV 12 44] [3,10,11,12])
def z4y (C:Hd)(gl:GL)(v3 v10 v11 v12:AV)(h:bA)(x:Esc)(K:KT):Prop:=
 pK (jA .add v12 (AI 1)) fun t1=>
 K .normal ⟨[(3,v3),(10,v10),(11,v11),(12,t1)],h,x⟩
theorem zhB {C gl e h x K}:NW C gl qY ⟨e,h,x⟩ K=z4y C gl (aA e 3) (aA e 10) (aA e 11) (aA e 12) h x K:=by kernel_rfl
def z1h (q2 q3 q4:ACode):ACode:=.pr [3,10,11,12] (.seq (rg [bN 13 .lss 12 11] [3,10,11,12,13])
(.seq (.cond 13 .skip
(.exit 0))
(.seq (.block 1 (.seq (rg [iA 14 (some 2) 10 12,
lD 15 (some 2) 14,
uO 5 (.alloc [.p (.str []),.sl0 (some 4)]),
wO (.store (some 2) 5 15)] [3,5,10,11,12])
(.seq (rg [fA 16 1 none 5,
lD 17 none 16,
lN 18 17,
cL 19 EH [(cS [48]),18],
uO 20 (.conv .s2b 19),
mV 6 20] [3,5,6,10,11,12])
(.seq (.seq (rg [fA 21 1 none 5,
lD 22 none 21,
lN 23 22,
mV 24 (cI 0)] [3,5,6,10,11,12,22,23,24])
(.block 2 (.loop (.scope q2))))
q3))))
q4)))
def zL:ACode:=z1h yL pY qY
def aW (C:Hd)(gl:GL)(q2 q3 q4:ACode)(v3 v10 v11 v12:AV)(h:bA)(x:Esc)(K:KT):Prop:=
 pK (jA .lss v12 v11) fun t1=>
 oA t1 (pK (tA (some 2) v10 v12 h) fun t2=>
 pK (eA (some 2) t2 h) fun t3=>
 alK [.p (.str []),.sl0 (some 4)] h fun t4 h5 y6=>
 wK (OA (some 2) t4 t3 h5) fun t7 h8 y9=>
 pK (mA 1 none t4) fun t10=>
 pK (eA none t10 h8) fun t11=>
 pK (xA t11) fun t12=>
 C EH [(.p (.str [48])),t12] h8 fun t13 h14 y15=>
 wK (TD .s2b t13 h14) fun t16 h17 y18=>
 pK (mA 1 none t4) fun t19=>
 pK (eA none t19 h17) fun t20=>
 pK (xA t20) fun t21=>
 NW C gl (.loop (.scope q2)) ⟨[(3,v3),(5,t4),(6,t16),(10,v10),(11,v11),(12,v12),(22,t20),(23,t21),(24,(AI 0))],h17,(y18++(y15++(y9++(y6++x))))⟩ (wA 2 (QA C gl q3 (wA 1 (QA C gl q4 K)))))
 (K (.exit 0) ⟨[(3,v3),(10,v10),(11,v11),(12,v12),(13,t1)],h,x⟩)
theorem za6 {C gl q2 q3 q4 e h x K}:NW C gl (z1h q2 q3 q4) ⟨e,h,x⟩ K=aW C gl q2 q3 q4 (aA e 3) (aA e 10) (aA e 11) (aA e 12) h x K:=by kernel_rfl
theorem zhC {C gl e h x K}:NW C gl zL ⟨e,h,x⟩ K=aW C gl yL pY qY (aA e 3) (aA e 10) (aA e 11) (aA e 12) h x K:=za6
theorem zln {C gl e h x K}:NW C gl (.loop (.scope zL)) ⟨e,h,x⟩ K=GA C gl (.scope zL) K [(3,aA e 3),(10,aA e 10),(11,aA e 11),(12,aA e 12)] h x:=vB
def XR:ACode:=.pr [3] (.seq (rg [mV 45 3,
mV 2 45] [2])
.ret)
def z4z (C:Hd)(gl:GL)(v3:AV)(h:bA)(x:Esc)(K:KT):Prop:=
 K .ret ⟨[(2,v3)],h,x⟩
theorem zhD {C gl e h x K}:NW C gl XR ⟨e,h,x⟩ K=z4z C gl (aA e 3) h x K:=by kernel_rfl
def z1f (q5 q6:ACode):ACode:=(.seq (rg [uO 1 (.box 0),
mV 2 (.c (.p (.sl none [])))] [1])
(.seq (rg [uO 3 (.new0 none)] [1,3])
(.seq (.seq (rg [fA 9 0 none 1,
lD 10 none 9,
lN 11 10,
mV 12 (cI 0)] [3,10,11,12])
(.block 0 (.loop (.scope q5))))
q6)))
def aU:AFun:=⟨1,[.t 2],z1f zL XR,false,false⟩
def oQ (C:Hd)(gl:GL)(q5 q6:ACode)(v0:AV)(h:bA)(x:Esc)(K:KT):Prop:=
 wK (dB v0 h) fun t1 h2 y3=>
 nwK none h2 fun t4 h5 y6=>
 pK (mA 0 none t1) fun t7=>
 pK (eA none t7 h5) fun t8=>
 pK (xA t8) fun t9=>
 NW C gl (.loop (.scope q5)) ⟨[(3,t4),(10,t8),(11,t9),(12,(AI 0))],h5,(y6++(y3++x))⟩ (wA 0 (QA C gl q6 K))
theorem za4 {C gl q5 q6 v0 h x K}:NW C gl (z1f q5 q6) ⟨enter [v0],h,x⟩ K=oQ C gl q5 q6 v0 h x K:=by kernel_rfl
theorem zh7 {C gl v0 h x K}:NW C gl aU.body ⟨enter [v0],h,x⟩ K=oQ C gl zL XR v0 h x K:=za4
def TK:ACode:=.pr [2,19,20,21] (.seq (rg [bN 22 .lss 21 20] [2,19,20,21,22])
(.seq (.cond 22 .skip
(.exit 0))
(.seq (.block 1 (.seq (rg [mV 23 21,
iA 24 none 19 21,
lD 25 none 24,
mV 6 23,
mV 7 25] [2,6,7,19,20,21])
(.seq (rg [mV 26 7,
uO 27 (.lens 26),
fA 28 0 none 2,
lD 29 none 28,
mV 30 6,
iA 31 (some 2) 29 30,
fA 32 1 none 31,
lD 33 none 32,
lN 34 33,
bN 35 .neq 27 34,
mV 36 35,
gD 37 36 false (.mv 7),
gD 38 36 false (.call mI [37]),
gD 39 36 false (.un .not 38),
uO 40 (.pick 36 cT 39)] [2,19,20,21,40])
(.cond 40 (.seq (rg [mV 4 (cI 3)] [4])
.ret)
.skip))))
(rg [bN 41 .add 21 (cI 1),
mV 21 41] [2,19,20,21]))))
def z3q (C:Hd)(gl:GL)(v2 v19 v20 v21:AV)(h:bA)(x:Esc)(K:KT):Prop:=
 pK (jA .lss v21 v20) fun t1=>
 oA t1 (pK (tA none v19 v21 h) fun t2=>
 pK (eA none t2 h) fun t3=>
 pK (MG t3) fun t4=>
 pK (mA 0 none v2) fun t5=>
 pK (eA none t5 h) fun t6=>
 pK (tA (some 2) t6 v21 h) fun t7=>
 pK (mA 1 none t7) fun t8=>
 pK (eA none t8 h) fun t9=>
 pK (xA t9) fun t10=>
 pK (jA .neq t4 t10) fun t11=>
 gM t11 false t3 h fun t12 h13 y14=>
 gV t11 false h13 (C mI [t12] h13) fun t15 h16 y17=>
 gP t11 false (oUn .not t15) h16 fun t18 h19 y20=>
 pK (MA t11 (AB true) t18) fun t21=>
 oA t21 (K .ret ⟨[(4,(AI 3))],h19,(y20++(y17++(y14++x)))⟩)
 (pK (jA .add v21 (AI 1)) fun t22=>
 K .normal ⟨[(2,v2),(19,v19),(20,v20),(21,t22)],h19,(y20++(y17++(y14++x)))⟩))
 (K (.exit 0) ⟨[(2,v2),(19,v19),(20,v20),(21,v21),(22,t1)],h,x⟩)
theorem zfq {C gl e h x K}:NW C gl TK ⟨e,h,x⟩ K=z3q C gl (aA e 2) (aA e 19) (aA e 20) (aA e 21) h x K:=by kernel_rfl
theorem zk8 {C gl e h x K}:NW C gl (.loop TK) ⟨e,h,x⟩ K=GA C gl TK K [(2,aA e 2),(19,aA e 19),(20,aA e 20),(21,aA e 21)] h x:=jC
def wR:ACode:=.pr [] (.seq (rg [mV 4 (cI 0)] [4])
.ret)
def z3r (C:Hd)(gl:GL)(h:bA)(x:Esc)(K:KT):Prop:=
 K .ret ⟨[(4,(AI 0))],h,x⟩
theorem zfr {C gl e h x K}:NW C gl wR ⟨e,h,x⟩ K=z3r C gl h x K:=by kernel_rfl
def z0g (q1 q2:ACode):ACode:=(.seq (rg [uO 2 (.box 0),
mV 4 (cI 0)] [1,2])
(.seq (.seq (rg [lD 8 (some 3) 2,
cL 9 BG [8],
mV 5 9] [1,2,5])
(.seq (rg [mV 10 5,
bN 11 .neq 10 (cI 0)] [1,2,5,11])
(.cond 11 (.seq (rg [mV 12 5,
mV 4 12] [4])
.ret)
.skip)))
(.seq (.seq (rg [mV 13 1,
lN 14 13,
fA 15 0 none 2,
lD 16 none 15,
lN 17 16,
bN 18 .neq 14 17] [1,2,18])
(.cond 18 (.seq (rg [mV 4 (cI 3)] [4])
.ret)
.skip))
(.seq (.seq (rg [mV 19 1,
lN 20 19,
mV 21 (cI 0)] [2,19,20,21])
(.block 0 (.loop q1)))
q2))))
def KO:AFun:=⟨2,[.t 4],z0g TK wR,false,false⟩
def yJ (C:Hd)(gl:GL)(q1 q2:ACode)(v0 v1:AV)(h:bA)(x:Esc)(K:KT):Prop:=
 wK (dB v0 h) fun t1 h2 y3=>
 pK (eA (some 3) t1 h2) fun t4=>
 C BG [t4] h2 fun t5 h6 y7=>
 pK (jA .neq t5 (AI 0)) fun t8=>
 oA t8 (K .ret ⟨[(4,t5)],h6,(y7++(y3++x))⟩)
 (pK (xA v1) fun t9=>
 pK (mA 0 none t1) fun t10=>
 pK (eA none t10 h6) fun t11=>
 pK (xA t11) fun t12=>
 pK (jA .neq t9 t12) fun t13=>
 oA t13 (K .ret ⟨[(4,(AI 3))],h6,(y7++(y3++x))⟩)
 (pK (xA v1) fun t14=>
 NW C gl (.loop q1) ⟨[(2,t1),(19,v1),(20,t14),(21,(AI 0))],h6,(y7++(y3++x))⟩ (wA 0 (QA C gl q2 K))))
theorem z95 {C gl q1 q2 v0 v1 h x K}:NW C gl (z0g q1 q2) ⟨enter [v0,v1],h,x⟩ K=yJ C gl q1 q2 v0 v1 h x K:=by kernel_rfl
theorem zfp {C gl v0 v1 h x K}:NW C gl KO.body ⟨enter [v0,v1],h,x⟩ K=yJ C gl TK wR v0 v1 h x K:=z95
def NL:ACode:=.pr [0,1,12,13] (.seq (rg [bN 14 .lss 13 12] [0,1,12,13,14])
(.seq (.cond 14 .skip
(.exit 0))
(.seq (.block 1 (.seq (rg [mV 15 13,
mV 5 15] [0,1,5,12,13])
(.seq (dr [dF (mV 16 0) [0],
dF (mV 17 5) [5],
dF (iA 18 none 16 17) [16,17],
dF (lD 19 none 18) [18],
dF (mV 20 1) [1],
dF (mV 21 5) [5],
dF (iA 22 none 20 21) [20,21],
dF (lD 23 none 22) [22],
dF (bN 24 .neq 19 23) [19,23]] [0,1,12,13,24])
(.cond 24 (.seq (rg [mV 4 cF] [4])
.ret)
.skip))))
(rg [bN 25 .add 13 (cI 1),
mV 13 25] [0,1,12,13]))))
def z4O (C:Hd)(gl:GL)(v0 v1 v12 v13:AV)(h:bA)(x:Esc)(K:KT):Prop:=
 pK (jA .lss v13 v12) fun t1=>
 oA t1 (pK (tA none v0 v13 h) fun t2=>
 pK (eA none t2 h) fun t3=>
 pK (tA none v1 v13 h) fun t4=>
 pK (eA none t4 h) fun t5=>
 pK (jA .neq t3 t5) fun t6=>
 oA t6 (K .ret ⟨[(4,(AB false))],h,x⟩)
 (pK (jA .add v13 (AI 1)) fun t7=>
 K .normal ⟨[(0,v0),(1,v1),(12,v12),(13,t7)],h,x⟩))
 (K (.exit 0) ⟨[(0,v0),(1,v1),(12,v12),(13,v13),(14,t1)],h,x⟩)
theorem zi3 {C gl e h x K}:NW C gl NL ⟨e,h,x⟩ K=z4O C gl (aA e 0) (aA e 1) (aA e 12) (aA e 13) h x K:=by kernel_rfl
theorem zl1 {C gl e h x K}:NW C gl (.loop NL) ⟨e,h,x⟩ K=GA C gl NL K [(0,aA e 0),(1,aA e 1),(12,aA e 12),(13,aA e 13)] h x:=jC
def jS:ACode:=.pr [] (.seq (rg [mV 4 cT] [4])
.ret)
def z4P (C:Hd)(gl:GL)(h:bA)(x:Esc)(K:KT):Prop:=
 K .ret ⟨[(4,(AB true))],h,x⟩
theorem zi4 {C gl e h x K}:NW C gl jS ⟨e,h,x⟩ K=z4P C gl h x K:=by kernel_rfl
def z10 (q1 q2:ACode):ACode:=(.seq (rg [mV 4 cF] [0,1])
(.seq (.seq (rg [mV 6 0,
lN 7 6,
mV 8 1,
lN 9 8,
bN 10 .neq 7 9] [0,1,10])
(.cond 10 (.seq (rg [mV 4 cF] [4])
.ret)
.skip))
(.seq (.seq (rg [mV 11 0,
lN 12 11,
mV 13 (cI 0)] [0,1,12,13])
(.block 0 (.loop q1)))
q2)))
def sU:AFun:=⟨2,[.t 4],z10 NL jS,false,false⟩
def ZM (C:Hd)(gl:GL)(q1 q2:ACode)(v0 v1:AV)(h:bA)(x:Esc)(K:KT):Prop:=
 pK (xA v0) fun t1=>
 pK (xA v1) fun t2=>
 pK (jA .neq t1 t2) fun t3=>
 oA t3 (K .ret ⟨[(4,(AB false))],h,x⟩)
 (pK (xA v0) fun t4=>
 NW C gl (.loop q1) ⟨[(0,v0),(1,v1),(12,t4),(13,(AI 0))],h,x⟩ (wA 0 (QA C gl q2 K)))
theorem zaP {C gl q1 q2 v0 v1 h x K}:NW C gl (z10 q1 q2) ⟨enter [v0,v1],h,x⟩ K=ZM C gl q1 q2 v0 v1 h x K:=by kernel_rfl
theorem zi2 {C gl v0 v1 h x K}:NW C gl sU.body ⟨enter [v0,v1],h,x⟩ K=ZM C gl NL jS v0 v1 h x K:=zaP
def OL:ACode:=.pr [0,1,12,13] (.seq (rg [bN 14 .lss 13 12] [0,1,12,13,14])
(.seq (.cond 14 .skip
(.exit 0))
(.seq (.block 1 (.seq (rg [mV 15 13,
mV 5 15] [0,1,5,12,13])
(.seq (dr [dF (mV 16 0) [0],
dF (mV 17 5) [5],
dF (iA 18 none 16 17) [16,17],
dF (lD 19 none 18) [18],
dF (mV 20 1) [1],
dF (mV 21 5) [5],
dF (iA 22 none 20 21) [20,21],
dF (lD 23 none 22) [22],
dF (bN 24 .neq 19 23) [19,23]] [0,1,12,13,24])
(.cond 24 (.seq (rg [mV 4 cF] [4])
.ret)
.skip))))
(rg [bN 25 .add 13 (cI 1),
mV 13 25] [0,1,12,13]))))
def z4Q (C:Hd)(gl:GL)(v0 v1 v12 v13:AV)(h:bA)(x:Esc)(K:KT):Prop:=
 pK (jA .lss v13 v12) fun t1=>
 oA t1 (pK (tA none v0 v13 h) fun t2=>
 pK (eA none t2 h) fun t3=>
 pK (tA none v1 v13 h) fun t4=>
 pK (eA none t4 h) fun t5=>
 pK (jA .neq t3 t5) fun t6=>
 oA t6 (K .ret ⟨[(4,(AB false))],h,x⟩)
 (pK (jA .add v13 (AI 1)) fun t7=>
 K .normal ⟨[(0,v0),(1,v1),(12,v12),(13,t7)],h,x⟩))
 (K (.exit 0) ⟨[(0,v0),(1,v1),(12,v12),(13,v13),(14,t1)],h,x⟩)
theorem zi6 {C gl e h x K}:NW C gl OL ⟨e,h,x⟩ K=z4Q C gl (aA e 0) (aA e 1) (aA e 12) (aA e 13) h x K:=by kernel_rfl
theorem zl2 {C gl e h x K}:NW C gl (.loop OL) ⟨e,h,x⟩ K=GA C gl OL K [(0,aA e 0),(1,aA e 1),(12,aA e 12),(13,aA e 13)] h x:=jC
def kS:ACode:=.pr [] (.seq (rg [mV 4 cT] [4])
.ret)
def z4R (C:Hd)(gl:GL)(h:bA)(x:Esc)(K:KT):Prop:=
 K .ret ⟨[(4,(AB true))],h,x⟩
theorem zi7 {C gl e h x K}:NW C gl kS ⟨e,h,x⟩ K=z4R C gl h x K:=by kernel_rfl
def z11 (q1 q2:ACode):ACode:=(.seq (rg [mV 4 cF] [0,1])
(.seq (.seq (rg [mV 6 0,
lN 7 6,
mV 8 1,
lN 9 8,
bN 10 .neq 7 9] [0,1,10])
(.cond 10 (.seq (rg [mV 4 cF] [4])
.ret)
.skip))
(.seq (.seq (rg [mV 11 0,
lN 12 11,
mV 13 (cI 0)] [0,1,12,13])
(.block 0 (.loop q1)))
q2)))
def tU:AFun:=⟨2,[.t 4],z11 OL kS,false,false⟩
def yQ (C:Hd)(gl:GL)(q1 q2:ACode)(v0 v1:AV)(h:bA)(x:Esc)(K:KT):Prop:=
 pK (xA v0) fun t1=>
 pK (xA v1) fun t2=>
 pK (jA .neq t1 t2) fun t3=>
 oA t3 (K .ret ⟨[(4,(AB false))],h,x⟩)
 (pK (xA v0) fun t4=>
 NW C gl (.loop q1) ⟨[(0,v0),(1,v1),(12,t4),(13,(AI 0))],h,x⟩ (wA 0 (QA C gl q2 K)))
theorem zaQ {C gl q1 q2 v0 v1 h x K}:NW C gl (z11 q1 q2) ⟨enter [v0,v1],h,x⟩ K=yQ C gl q1 q2 v0 v1 h x K:=by kernel_rfl
theorem zi5 {C gl v0 v1 h x K}:NW C gl tU.body ⟨enter [v0,v1],h,x⟩ K=yQ C gl OL kS v0 v1 h x K:=zaQ
def zbB:ACode:=(.seq (rg [mV 4 cF] [0,1])
(.seq (rg [mV 5 0,
mV 6 1,
cL 7 QB [5,6],
bN 8 .eql 7 (cI 0),
mV 4 8] [4])
.ret))
def DT:AFun:=⟨2,[.t 4],zbB,false,false⟩
def JV (C:Hd)(gl:GL)(v0 v1:AV)(h:bA)(x:Esc)(K:KT):Prop:=
 C QB [v0,v1] h fun t1 h2 y3=>
 pK (jA .eql t1 (AI 0)) fun t4=>
 K .ret ⟨[(4,t4)],h2,(y3++x)⟩
theorem zgK {C gl v0 v1 h x K}:NW C gl DT.body ⟨enter [v0,v1],h,x⟩ K=JV C gl v0 v1 h x K:=by kernel_rfl
def dY:ACode:=.pr [0,3,6,14,15,25,31] (.cond 31 (rg [mV 34 3,
mV 35 6,
uO 36 (.build [.p (.int .i64 0),.p (.str []),.p (.int .i64 0),.p (.int .i64 0)] [(0,1,(cI 1)),(1,1,35),(2,1,(cI (-1)))]),
uO 37 (.bsl false (some 4) 1 (.agg [.int .i64 0,.str [],.int .i64 0,.int .i64 0]) [(0,36)]),
uO 38 (.app (some 4) 34 37),
mV 3 38] [0,3,14,15])
(.seq (rg [bN 40 .eql 25 (cI 2),
mV 39 40] [0,3,6,14,15,25,39])
(.cond 39 (rg [mV 41 3,
mV 42 6,
uO 43 (.build [.p (.int .i64 0),.p (.str []),.p (.int .i64 0),.p (.int .i64 0)] [(0,1,(cI 2)),(1,1,42),(2,1,(cI (-1)))]),
uO 44 (.bsl false (some 4) 1 (.agg [.int .i64 0,.str [],.int .i64 0,.int .i64 0]) [(0,43)]),
uO 45 (.app (some 4) 41 44),
mV 3 45] [0,3,14,15])
(.seq (rg [bN 47 .eql 25 (cI 3),
mV 46 47] [0,3,6,14,15,46])
(.cond 46 (rg [mV 48 3,
uO 49 (.build [.p (.int .i64 0),.p (.str []),.p (.int .i64 0),.p (.int .i64 0)] [(0,1,(cI 3)),(2,1,(cI (-1)))]),
uO 50 (.bsl false (some 4) 1 (.agg [.int .i64 0,.str [],.int .i64 0,.int .i64 0]) [(0,49)]),
uO 51 (.app (some 4) 48 50),
mV 3 51] [0,3,14,15])
(rg [mV 26 3,
mV 27 6,
uO 28 (.build [.p (.int .i64 0),.p (.str []),.p (.int .i64 0),.p (.int .i64 0)] [(0,1,(cI 2)),(1,1,27),(2,1,(cI (-1)))]),
uO 29 (.bsl false (some 4) 1 (.agg [.int .i64 0,.str [],.int .i64 0,.int .i64 0]) [(0,28)]),
uO 30 (.app (some 4) 26 29),
mV 3 30] [0,3,14,15]))))))
def z3Z (C:Hd)(gl:GL)(v0 v3 v6 v14 v15 v25 v31:AV)(h:bA)(x:Esc)(K:KT):Prop:=
 oA v31 (pK (BC [.p (.int .i64 0),.p (.str []),.p (.int .i64 0),.p (.int .i64 0)] [(0,1,(AI 1)),(1,1,v6),(2,1,(AI (-1)))]) fun t1=>
 wK (jB false (some 4) 1 (.agg [.int .i64 0,.str [],.int .i64 0,.int .i64 0]) [(0,t1)] h) fun t2 h3 y4=>
 wK (LC (some 4) v3 t2 h3) fun t5 h6 y7=>
 K .normal ⟨[(0,v0),(3,t5),(14,v14),(15,v15)],h6,(y7++(y4++x))⟩)
 (pK (jA .eql v25 (AI 2)) fun t8=>
 oA t8 (pK (BC [.p (.int .i64 0),.p (.str []),.p (.int .i64 0),.p (.int .i64 0)] [(0,1,(AI 2)),(1,1,v6),(2,1,(AI (-1)))]) fun t9=>
 wK (jB false (some 4) 1 (.agg [.int .i64 0,.str [],.int .i64 0,.int .i64 0]) [(0,t9)] h) fun t10 h11 y12=>
 wK (LC (some 4) v3 t10 h11) fun t13 h14 y15=>
 K .normal ⟨[(0,v0),(3,t13),(14,v14),(15,v15)],h14,(y15++(y12++x))⟩)
 (pK (jA .eql v25 (AI 3)) fun t16=>
 oA t16 (pK (BC [.p (.int .i64 0),.p (.str []),.p (.int .i64 0),.p (.int .i64 0)] [(0,1,(AI 3)),(2,1,(AI (-1)))]) fun t17=>
 wK (jB false (some 4) 1 (.agg [.int .i64 0,.str [],.int .i64 0,.int .i64 0]) [(0,t17)] h) fun t18 h19 y20=>
 wK (LC (some 4) v3 t18 h19) fun t21 h22 y23=>
 K .normal ⟨[(0,v0),(3,t21),(14,v14),(15,v15)],h22,(y23++(y20++x))⟩)
 (pK (BC [.p (.int .i64 0),.p (.str []),.p (.int .i64 0),.p (.int .i64 0)] [(0,1,(AI 2)),(1,1,v6),(2,1,(AI (-1)))]) fun t24=>
 wK (jB false (some 4) 1 (.agg [.int .i64 0,.str [],.int .i64 0,.int .i64 0]) [(0,t24)] h) fun t25 h26 y27=>
 wK (LC (some 4) v3 t25 h26) fun t28 h29 y30=>
 K .normal ⟨[(0,v0),(3,t28),(14,v14),(15,v15)],h29,(y30++(y27++x))⟩)))
theorem zgR {C gl e h x K}:NW C gl dY ⟨e,h,x⟩ K=z3Z C gl (aA e 0) (aA e 3) (aA e 6) (aA e 14) (aA e 15) (aA e 25) (aA e 31) h x K:=by kernel_rfl
def fY:ACode:=.pr [0,3,14,15] (rg [bN 52 .add 15 (cI 1),
mV 15 52] [0,3,14,15])
def z4a (C:Hd)(gl:GL)(v0 v3 v14 v15:AV)(h:bA)(x:Esc)(K:KT):Prop:=
 pK (jA .add v15 (AI 1)) fun t1=>
 K .normal ⟨[(0,v0),(3,v3),(14,v14),(15,t1)],h,x⟩
theorem zgS {C gl e h x K}:NW C gl fY ⟨e,h,x⟩ K=z4a C gl (aA e 0) (aA e 3) (aA e 14) (aA e 15) h x K:=by kernel_rfl
def z0R (q1 q2:ACode):ACode:=.pr [0,3,14,15] (.seq (rg [bN 16 .lss 15 14] [0,3,14,15,16])
(.seq (.cond 16 .skip
(.exit 0))
(.seq (.block 1 (.seq (rg [mV 17 15,
mV 5 17] [0,3,5,14,15])
(.seq (rg [mV 18 5,
bN 19 .rem 18 (cI 4),
bN 20 .add (cI 97) 19,
uO 21 (.conv (.i .i32) 20),
uO 22 (.conv .r2s 21),
bN 23 .add (cS [112]) 22,
mV 6 23] [0,3,6,14,15])
(.seq (rg [mV 24 0,
cL 25 QB [24,(cI 5)]] [0,3,6,14,15,25])
(.block 2 (.seq (.seq (rg [bN 32 .eql 25 (cI 0),
mV 31 32] [0,3,6,14,15,25,31])
(.cond 31 .skip
(rg [bN 33 .eql 25 (cI 1),
mV 31 33] [0,3,6,14,15,25,31])))
q1))))))
q2)))
def UI:ACode:=z0R dY fY
def OV (C:Hd)(gl:GL)(q1 q2:ACode)(v0 v3 v14 v15:AV)(h:bA)(x:Esc)(K:KT):Prop:=
 pK (jA .lss v15 v14) fun t1=>
 oA t1 (pK (jA .rem v15 (AI 4)) fun t2=>
 pK (jA .add (AI 97) t2) fun t3=>
 pK (UD .i32 t3) fun t4=>
 wK (TD .r2s t4 h) fun t5 h6 y7=>
 pK (jA .add (.p (.str [112])) t5) fun t8=>
 C QB [v0,(AI 5)] h6 fun t9 h10 y11=>
 pK (jA .eql t9 (AI 0)) fun t12=>
 oA t12 (NW C gl q1 ⟨[(0,v0),(3,v3),(6,t8),(14,v14),(15,v15),(25,t9),(31,t12)],h10,(y11++(y7++x))⟩ (wA 2 (wA 1 (QA C gl q2 K))))
 (pK (jA .eql t9 (AI 1)) fun t13=>
 NW C gl q1 ⟨[(0,v0),(3,v3),(6,t8),(14,v14),(15,v15),(25,t9),(31,t13)],h10,(y11++(y7++x))⟩ (wA 2 (wA 1 (QA C gl q2 K)))))
 (K (.exit 0) ⟨[(0,v0),(3,v3),(14,v14),(15,v15),(16,t1)],h,x⟩)
theorem zaq {C gl q1 q2 e h x K}:NW C gl (z0R q1 q2) ⟨e,h,x⟩ K=OV C gl q1 q2 (aA e 0) (aA e 3) (aA e 14) (aA e 15) h x K:=by kernel_rfl
theorem zgT {C gl e h x K}:NW C gl UI ⟨e,h,x⟩ K=OV C gl dY fY (aA e 0) (aA e 3) (aA e 14) (aA e 15) h x K:=zaq
theorem zkZ {C gl e h x K}:NW C gl (.loop (.scope UI)) ⟨e,h,x⟩ K=GA C gl (.scope UI) K [(0,aA e 0),(3,aA e 3),(14,aA e 14),(15,aA e 15)] h x:=vB
def gY:ACode:=.pr [0,3,54,55] (rg [bN 89 .add 55 (cI 1),
mV 55 89] [0,3,54,55])
def z4b (C:Hd)(gl:GL)(v0 v3 v54 v55:AV)(h:bA)(x:Esc)(K:KT):Prop:=
 pK (jA .add v55 (AI 1)) fun t1=>
 K .normal ⟨[(0,v0),(3,v3),(54,v54),(55,t1)],h,x⟩
theorem zgU {C gl e h x K}:NW C gl gY ⟨e,h,x⟩ K=z4b C gl (aA e 0) (aA e 3) (aA e 54) (aA e 55) h x K:=by kernel_rfl
def z0S (q4:ACode):ACode:=.pr [0,3,54,55] (.seq (rg [bN 56 .lss 55 54] [0,3,54,55,56])
(.seq (.cond 56 .skip
(.exit 3))
(.seq (.block 4 (.seq (rg [mV 57 55,
mV 7 57] [0,3,7,54,55])
(.seq (rg [mV 58 3,
mV 59 7,
iA 60 (some 4) 58 59,
fA 61 0 none 60,
lD 62 none 61,
bN 63 .eql 62 (cI 2),
mV 64 63,
gD 65 64 true (.mv 0),
gD 66 64 true (.call xC [65,(cI 2)]),
uO 67 (.pick 64 66 cF)] [0,3,7,54,55,67])
(.cond 67 (.seq (rg [mV 68 0,
mV 69 3,
lN 70 69,
cL 71 QB [68,70],
mV 8 71] [0,3,7,8,54,55])
(.seq (rg [mV 72 3,
mV 73 8,
iA 74 (some 4) 72 73,
fA 75 0 none 74,
lD 76 none 75,
bN 77 .eql 76 (cI 3)] [0,3,7,8,54,55,77])
(.cond 77 (rg [mV 78 3,
mV 79 7,
mV 80 3,
mV 81 7,
mV 82 8,
mV 83 0,
cL 84 QB [83,(cI 2)],
iA 85 (some 4) 78 79,
fA 86 2 none 85,
wO (.store none 86 82),
iA 87 (some 4) 80 81,
fA 88 3 none 87,
wO (.store none 88 84)] [0,3,54,55])
.skip)))
.skip))))
q4)))
def pL:ACode:=z0S gY
def RV (C:Hd)(gl:GL)(q4:ACode)(v0 v3 v54 v55:AV)(h:bA)(x:Esc)(K:KT):Prop:=
 pK (jA .lss v55 v54) fun t1=>
 oA t1 (pK (tA (some 4) v3 v55 h) fun t2=>
 pK (mA 0 none t2) fun t3=>
 pK (eA none t3 h) fun t4=>
 pK (jA .eql t4 (AI 2)) fun t5=>
 gM t5 true v0 h fun t6 h7 y8=>
 gV t5 true h7 (C xC [t6,(AI 2)] h7) fun t9 h10 y11=>
 pK (MA t5 t9 (AB false)) fun t12=>
 oA t12 (pK (xA v3) fun t13=>
 C QB [v0,t13] h10 fun t14 h15 y16=>
 pK (tA (some 4) v3 t14 h15) fun t17=>
 pK (mA 0 none t17) fun t18=>
 pK (eA none t18 h15) fun t19=>
 pK (jA .eql t19 (AI 3)) fun t20=>
 oA t20 (C QB [v0,(AI 2)] h15 fun t21 h22 y23=>
 pK (tA (some 4) v3 v55 h22) fun t24=>
 pK (mA 2 none t24) fun t25=>
 wK (OA none t25 t14 h22) fun t26 h27 y28=>
 pK (tA (some 4) v3 v55 h27) fun t29=>
 pK (mA 3 none t29) fun t30=>
 wK (OA none t30 t21 h27) fun t31 h32 y33=>
 NW C gl q4 ⟨[(0,v0),(3,v3),(54,v54),(55,v55)],h32,(y33++(y28++(y23++(y16++(y11++(y8++x))))))⟩ K)
 (NW C gl q4 ⟨[(0,v0),(3,v3),(7,v55),(8,t14),(54,v54),(55,v55),(77,t20)],h15,(y16++(y11++(y8++x)))⟩ K))
 (NW C gl q4 ⟨[(0,v0),(3,v3),(7,v55),(54,v54),(55,v55),(67,t12)],h10,(y11++(y8++x))⟩ K))
 (K (.exit 3) ⟨[(0,v0),(3,v3),(54,v54),(55,v55),(56,t1)],h,x⟩)
theorem zar {C gl q4 e h x K}:NW C gl (z0S q4) ⟨e,h,x⟩ K=RV C gl q4 (aA e 0) (aA e 3) (aA e 54) (aA e 55) h x K:=by kernel_rfl
theorem zgV {C gl e h x K}:NW C gl pL ⟨e,h,x⟩ K=RV C gl gY (aA e 0) (aA e 3) (aA e 54) (aA e 55) h x K:=zar
theorem zla {C gl e h x K}:NW C gl (.loop pL) ⟨e,h,x⟩ K=GA C gl pL K [(0,aA e 0),(3,aA e 3),(54,aA e 54),(55,aA e 55)] h x:=jC
def hY:ACode:=.pr [3,9,11,96,97,98] (rg [mV 114 9,
lD 115 (some 4) 11,
uO 116 (.bsl false (some 4) 1 (.agg [.int .i64 0,.str [],.int .i64 0,.int .i64 0]) [(0,115)]),
uO 117 (.app (some 4) 114 116),
mV 9 117] [3,9,96,97,98])
def z4c (C:Hd)(gl:GL)(v3 v9 v11 v96 v97 v98:AV)(h:bA)(x:Esc)(K:KT):Prop:=
 pK (eA (some 4) v11 h) fun t1=>
 wK (jB false (some 4) 1 (.agg [.int .i64 0,.str [],.int .i64 0,.int .i64 0]) [(0,t1)] h) fun t2 h3 y4=>
 wK (LC (some 4) v9 t2 h3) fun t5 h6 y7=>
 K .normal ⟨[(3,v3),(9,t5),(96,v96),(97,v97),(98,v98)],h6,(y7++(y4++x))⟩
theorem zgW {C gl e h x K}:NW C gl hY ⟨e,h,x⟩ K=z4c C gl (aA e 3) (aA e 9) (aA e 11) (aA e 96) (aA e 97) (aA e 98) h x K:=by kernel_rfl
def iY:ACode:=.pr [3,9,96,97,98] (rg [bN 118 .add 98 (cI 1),
mV 98 118] [3,9,96,97,98])
def z4d (C:Hd)(gl:GL)(v3 v9 v96 v97 v98:AV)(h:bA)(x:Esc)(K:KT):Prop:=
 pK (jA .add v98 (AI 1)) fun t1=>
 K .normal ⟨[(3,v3),(9,v9),(96,v96),(97,v97),(98,t1)],h,x⟩
theorem zgX {C gl e h x K}:NW C gl iY ⟨e,h,x⟩ K=z4d C gl (aA e 3) (aA e 9) (aA e 96) (aA e 97) (aA e 98) h x K:=by kernel_rfl
def z0T (q6 q7:ACode):ACode:=.pr [3,9,96,97,98] (.seq (rg [bN 99 .lss 98 97] [3,9,96,97,98,99])
(.seq (.cond 99 .skip
(.exit 5))
(.seq (.block 6 (.seq (rg [mV 100 98,
iA 101 (some 4) 96 98,
lD 102 (some 4) 101,
uO 11 (.alloc [.p (.int .i64 0),.p (.str []),.p (.int .i64 0),.p (.int .i64 0)]),
mV 10 100,
wO (.store (some 4) 11 102)] [3,9,10,11,96,97,98])
(.seq (.seq (rg [fA 103 1 none 11,
lD 104 none 103,
bN 105 .neq 104 (cS []),
mV 106 105,
gD 107 106 true (.mv 3),
gD 108 106 true (.mv 10),
gD 109 106 true (.slice (some 4) 107 none (some 108) none),
gD 110 106 true (.mkfn xI [11]),
gD 111 106 true (.call DD [109,110]),
uO 112 (.pick 106 111 cF)] [3,9,11,96,97,98,112])
(.cond 112 (rg [uO 113 (.build [.p (.int .i64 0),.p (.str []),.p (.int .i64 0),.p (.int .i64 0)] [(0,1,(cI 4)),(2,1,(cI (-1)))]),
wO (.store (some 4) 11 113)] [3,9,11,96,97,98])
.skip))
q6)))
q7)))
def qL:ACode:=z0T hY iY
def SV (C:Hd)(gl:GL)(q6 q7:ACode)(v3 v9 v96 v97 v98:AV)(h:bA)(x:Esc)(K:KT):Prop:=
 pK (jA .lss v98 v97) fun t1=>
 oA t1 (pK (tA (some 4) v96 v98 h) fun t2=>
 pK (eA (some 4) t2 h) fun t3=>
 alK [.p (.int .i64 0),.p (.str []),.p (.int .i64 0),.p (.int .i64 0)] h fun t4 h5 y6=>
 wK (OA (some 4) t4 t3 h5) fun t7 h8 y9=>
 pK (mA 1 none t4) fun t10=>
 pK (eA none t10 h8) fun t11=>
 pK (jA .neq t11 (.p (.str []))) fun t12=>
 gM t12 true v3 h8 fun t13 h14 y15=>
 gM t12 true v98 h14 fun t16 h17 y18=>
 gP t12 true (GE (some 4) t13 none (some t16) none h17) h17 fun t19 h20 y21=>
 gM t12 true (.fn xI [t4]) h20 fun t22 h23 y24=>
 gV t12 true h23 (C DD [t19,t22] h23) fun t25 h26 y27=>
 pK (MA t12 t25 (AB false)) fun t28=>
 oA t28 (pK (BC [.p (.int .i64 0),.p (.str []),.p (.int .i64 0),.p (.int .i64 0)] [(0,1,(AI 4)),(2,1,(AI (-1)))]) fun t29=>
 wK (OA (some 4) t4 t29 h26) fun t30 h31 y32=>
 NW C gl q6 ⟨[(3,v3),(9,v9),(11,t4),(96,v96),(97,v97),(98,v98)],h31,(y32++(y27++(y24++(y21++(y18++(y15++(y9++(y6++x))))))))⟩ (wA 6 (QA C gl q7 K)))
 (NW C gl q6 ⟨[(3,v3),(9,v9),(11,t4),(96,v96),(97,v97),(98,v98),(112,t28)],h26,(y27++(y24++(y21++(y18++(y15++(y9++(y6++x)))))))⟩ (wA 6 (QA C gl q7 K))))
 (K (.exit 5) ⟨[(3,v3),(9,v9),(96,v96),(97,v97),(98,v98),(99,t1)],h,x⟩)
theorem zas {C gl q6 q7 e h x K}:NW C gl (z0T q6 q7) ⟨e,h,x⟩ K=SV C gl q6 q7 (aA e 3) (aA e 9) (aA e 96) (aA e 97) (aA e 98) h x K:=by kernel_rfl
theorem zgY {C gl e h x K}:NW C gl qL ⟨e,h,x⟩ K=SV C gl hY iY (aA e 3) (aA e 9) (aA e 96) (aA e 97) (aA e 98) h x K:=zas
theorem zlb {C gl e h x K}:NW C gl (.loop (.scope qL)) ⟨e,h,x⟩ K=GA C gl (.scope qL) K [(3,aA e 3),(9,aA e 9),(96,aA e 96),(97,aA e 97),(98,aA e 98)] h x:=vB
def jY:ACode:=.pr [9] (.seq (rg [mV 119 9,
mV 2 119] [2])
.ret)
def z4e (C:Hd)(gl:GL)(v9:AV)(h:bA)(x:Esc)(K:KT):Prop:=
 K .ret ⟨[(2,v9)],h,x⟩
theorem zgZ {C gl e h x K}:NW C gl jY ⟨e,h,x⟩ K=z4e C gl (aA e 9) h x K:=by kernel_rfl
def z0O (q8 q9:ACode):ACode:=.pr [3] (.seq (rg [uO 9 (.new0 (some 4))] [3,9])
(.seq (.seq (rg [mV 96 3,
lN 97 96,
mV 98 (cI 0)] [3,9,96,97,98])
(.block 5 (.loop (.scope q8))))
q9))
def NR:ACode:=z0O qL jY
def PM (C:Hd)(gl:GL)(q8 q9:ACode)(v3:AV)(h:bA)(x:Esc)(K:KT):Prop:=
 nwK (some 4) h fun t1 h2 y3=>
 pK (xA v3) fun t4=>
 NW C gl (.loop (.scope q8)) ⟨[(3,v3),(9,t1),(96,v3),(97,t4),(98,(AI 0))],h2,(y3++x)⟩ (wA 5 (QA C gl q9 K))
theorem zan {C gl q8 q9 e h x K}:NW C gl (z0O q8 q9) ⟨e,h,x⟩ K=PM C gl q8 q9 (aA e 3) h x K:=by kernel_rfl
theorem EW {C gl e h x K}:NW C gl NR ⟨e,h,x⟩ K=PM C gl qL jY (aA e 3) h x K:=zan
def z0P (q10:ACode):ACode:=.pr [0,3] (.seq (.seq (rg [mV 90 0,
cL 91 xC [90,(cI 6)]] [3,91])
(.cond 91 (rg [mV 92 3,
uO 93 (.build [.p (.int .i64 0),.p (.str []),.p (.int .i64 0),.p (.int .i64 0)] [(0,1,(cI 4)),(2,1,(cI (-1)))]),
uO 94 (.bsl false (some 4) 1 (.agg [.int .i64 0,.str [],.int .i64 0,.int .i64 0]) [(0,93)]),
uO 95 (.app (some 4) 92 94),
mV 3 95] [3])
.skip))
q10)
def eY:ACode:=z0P NR
def GJ (C:Hd)(gl:GL)(q10:ACode)(v0 v3:AV)(h:bA)(x:Esc)(K:KT):Prop:=
 C xC [v0,(AI 6)] h fun t1 h2 y3=>
 oA t1 (pK (BC [.p (.int .i64 0),.p (.str []),.p (.int .i64 0),.p (.int .i64 0)] [(0,1,(AI 4)),(2,1,(AI (-1)))]) fun t4=>
 wK (jB false (some 4) 1 (.agg [.int .i64 0,.str [],.int .i64 0,.int .i64 0]) [(0,t4)] h2) fun t5 h6 y7=>
 wK (LC (some 4) v3 t5 h6) fun t8 h9 y10=>
 NW C gl q10 ⟨[(3,t8)],h9,(y10++(y7++(y3++x)))⟩ K)
 (NW C gl q10 ⟨[(3,v3),(91,t1)],h2,(y3++x)⟩ K)
theorem zao {C gl q10 e h x K}:NW C gl (z0P q10) ⟨e,h,x⟩ K=GJ C gl q10 (aA e 0) (aA e 3) h x K:=by kernel_rfl
theorem FW {C gl e h x K}:NW C gl eY ⟨e,h,x⟩ K=GJ C gl NR (aA e 0) (aA e 3) h x K:=zao
def z0Q (q5 q11:ACode):ACode:=.pr [0,3] (.seq (.seq (rg [mV 53 3,
lN 54 53,
mV 55 (cI 0)] [0,3,54,55])
(.block 3 (.loop q5)))
q11)
def OR:ACode:=z0Q pL eY
def QM (C:Hd)(gl:GL)(q5 q11:ACode)(v0 v3:AV)(h:bA)(x:Esc)(K:KT):Prop:=
 pK (xA v3) fun t1=>
 NW C gl (.loop q5) ⟨[(0,v0),(3,v3),(54,t1),(55,(AI 0))],h,x⟩ (wA 3 (QA C gl q11 K))
theorem zap {C gl q5 q11 e h x K}:NW C gl (z0Q q5 q11) ⟨e,h,x⟩ K=QM C gl q5 q11 (aA e 0) (aA e 3) h x K:=by kernel_rfl
theorem GW {C gl e h x K}:NW C gl OR ⟨e,h,x⟩ K=QM C gl pL eY (aA e 0) (aA e 3) h x K:=zap
def z0N (q3 q12:ACode):ACode:=(.seq (rg [mV 2 (.c (.p (.sl (some 4) [])))] [0])
(.seq (rg [uO 3 (.new0 (some 4))] [0,3])
(.seq (rg [mV 12 0,
cL 13 XF [12,(cI 0),(cI 6)],
mV 4 13] [0,3,4])
(.seq (.seq (rg [mV 14 4,
mV 15 (cI 0)] [0,3,14,15])
(.block 0 (.loop (.scope q3))))
q12))))
def JT:AFun:=⟨1,[.t 2],z0N UI OR,false,true⟩
def fQ (C:Hd)(gl:GL)(q3 q12:ACode)(v0:AV)(h:bA)(x:Esc)(K:KT):Prop:=
 nwK (some 4) h fun t1 h2 y3=>
 C XF [v0,(AI 0),(AI 6)] h2 fun t4 h5 y6=>
 NW C gl (.loop (.scope q3)) ⟨[(0,v0),(3,t1),(14,t4),(15,(AI 0))],h5,(y6++(y3++x))⟩ (wA 0 (QA C gl q12 K))
theorem zam {C gl q3 q12 v0 h x K}:NW C gl (z0N q3 q12) ⟨enter [v0],h,x⟩ K=fQ C gl q3 q12 v0 h x K:=by kernel_rfl
theorem zgQ {C gl v0 h x K}:NW C gl JT.body ⟨enter [v0],h,x⟩ K=fQ C gl UI OR v0 h x K:=zam
def zbZ:ACode:=(.seq (rg [uO 3 (.box 1),
mV 4 cF] [0,3])
(.seq (rg [mV 5 0,
lD 6 (some 2) 3,
cL 7 xK [5,6],
bN 8 .geq 7 (cI 0),
mV 4 8] [4])
.ret))
def qU:AFun:=⟨2,[.t 4],zbZ,true,false⟩
def lW (C:Hd)(gl:GL)(v0 v1:AV)(h:bA)(x:Esc)(K:KT):Prop:=
 wK (dB v1 h) fun t1 h2 y3=>
 pK (eA (some 2) t1 h2) fun t4=>
 C xK [v0,t4] h2 fun t5 h6 y7=>
 pK (jA .geq t5 (AI 0)) fun t8=>
 K .ret ⟨[(4,t8)],h6,(y7++(y3++x))⟩
theorem ziw {C gl v0 v1 h x K}:NW C gl qU.body ⟨enter [v0,v1],h,x⟩ K=lW C gl v0 v1 h x K:=by kernel_rfl
def zbG:ACode:=(.seq (rg [mV 4 (cS [])] [0,1])
(.seq (rg [mV 5 1,
mV 6 0,
mV 7 1,
lN 8 7,
cL 9 QB [6,8],
iA 10 none 5 9,
lD 11 none 10,
mV 4 11] [4])
.ret))
def IT:AFun:=⟨2,[.t 4],zbG,false,false⟩
def NV (C:Hd)(gl:GL)(v0 v1:AV)(h:bA)(x:Esc)(K:KT):Prop:=
 pK (xA v1) fun t1=>
 C QB [v0,t1] h fun t2 h3 y4=>
 pK (tA none v1 t2 h3) fun t5=>
 pK (eA none t5 h3) fun t6=>
 K .ret ⟨[(4,t6)],h3,(y4++x)⟩
theorem zgP {C gl v0 v1 h x K}:NW C gl IT.body ⟨enter [v0,v1],h,x⟩ K=NV C gl v0 v1 h x K:=by kernel_rfl
def zcb:ACode:=(.seq (rg [mV 5 0,
lN 6 5,
mV 4 6] [0,1,4])
(rg [mV 7 0,
mV 8 4,
mV 9 4,
uO 10 (.conv (.i .u64) 9),
cL 11 vH [10],
mV 12 1,
cL 13 cG [7,(cI 0),8,11,12]] []))
def yU:AFun:=⟨2,[],zcb,true,false⟩
def oW (C:Hd)(gl:GL)(v0 v1:AV)(h:bA)(x:Esc)(K:KT):Prop:=
 pK (xA v0) fun t1=>
 pK (UD .u64 t1) fun t2=>
 C vH [t2] h fun t3 h4 y5=>
 C cG [v0,(AI 0),t1,t3,v1] h4 fun t6 h7 y8=>
 K .normal ⟨[],h7,(y8++(y5++x))⟩
theorem ziQ {C gl v0 v1 h x K}:NW C gl yU.body ⟨enter [v0,v1],h,x⟩ K=oW C gl v0 v1 h x K:=by kernel_rfl
def zbA:ACode:=(.seq (rg [uO 2 (.box 0),
uO 3 (.box 1),
mV 4 (cI 0)] [2,3])
(.seq (rg [fA 5 0 none 2,
lD 6 none 5,
fA 7 1 none 2,
lD 8 none 7,
fA 9 2 none 2,
lD 10 none 9,
uO 11 (.bsl false none 3 (.str []) [(0,6),(1,8),(2,10)]),
fA 12 0 none 3,
lD 13 none 12,
fA 14 1 none 3,
lD 15 none 14,
fA 16 2 none 3,
lD 17 none 16,
uO 18 (.bsl false none 3 (.str []) [(0,13),(1,15),(2,17)]),
cL 19 AH [11,18],
mV 4 19] [4])
.ret))
def AT:AFun:=⟨2,[.t 4],zbA,false,false⟩
def HV (C:Hd)(gl:GL)(v0 v1:AV)(h:bA)(x:Esc)(K:KT):Prop:=
 wK (dB v0 h) fun t1 h2 y3=>
 wK (dB v1 h2) fun t4 h5 y6=>
 pK (mA 0 none t1) fun t7=>
 pK (eA none t7 h5) fun t8=>
 pK (mA 1 none t1) fun t9=>
 pK (eA none t9 h5) fun t10=>
 pK (mA 2 none t1) fun t11=>
 pK (eA none t11 h5) fun t12=>
 wK (jB false none 3 (.str []) [(0,t8),(1,t10),(2,t12)] h5) fun t13 h14 y15=>
 pK (mA 0 none t4) fun t16=>
 pK (eA none t16 h14) fun t17=>
 pK (mA 1 none t4) fun t18=>
 pK (eA none t18 h14) fun t19=>
 pK (mA 2 none t4) fun t20=>
 pK (eA none t20 h14) fun t21=>
 wK (jB false none 3 (.str []) [(0,t17),(1,t19),(2,t21)] h14) fun t22 h23 y24=>
 C AH [t13,t22] h23 fun t25 h26 y27=>
 K .ret ⟨[(4,t25)],h26,(y27++(y24++(y15++(y6++(y3++x)))))⟩
theorem zgD {C gl v0 v1 h x K}:NW C gl AT.body ⟨enter [v0,v1],h,x⟩ K=HV C gl v0 v1 h x K:=by kernel_rfl
def LL:ACode:=.pr [0,1,9,10,11] (.seq (rg [bN 12 .lss 11 10] [0,1,9,10,11,12])
(.seq (.cond 12 .skip
(.exit 0))
(.seq (.block 1 (.seq (rg [mV 13 11,
iA 14 none 9 11,
lD 15 none 14,
mV 5 13,
mV 6 15] [0,1,5,6,9,10,11])
(.seq (.seq (rg [mV 16 5,
mV 17 1,
lN 18 17,
bN 19 .geq 16 18] [0,1,5,6,9,10,11,19])
(.cond 19 (.seq (rg [mV 4 (cI 1)] [4])
.ret)
.skip))
(.seq (rg [mV 20 1,
mV 21 5,
iA 22 none 20 21,
lD 23 none 22,
mV 7 23] [0,1,6,7,9,10,11])
(.seq (rg [mV 24 6,
mV 25 7,
cL 26 VJ [24,25],
mV 8 26] [0,1,8,9,10,11])
(.seq (rg [mV 27 8,
bN 28 .neq 27 (cI 0)] [0,1,8,9,10,11,28])
(.cond 28 (.seq (rg [mV 29 8,
mV 4 29] [4])
.ret)
.skip)))))))
(rg [bN 30 .add 11 (cI 1),
mV 11 30] [0,1,9,10,11]))))
def z4K (C:Hd)(gl:GL)(v0 v1 v9 v10 v11:AV)(h:bA)(x:Esc)(K:KT):Prop:=
 pK (jA .lss v11 v10) fun t1=>
 oA t1 (pK (tA none v9 v11 h) fun t2=>
 pK (eA none t2 h) fun t3=>
 pK (xA v1) fun t4=>
 pK (jA .geq v11 t4) fun t5=>
 oA t5 (K .ret ⟨[(4,(AI 1))],h,x⟩)
 (pK (tA none v1 v11 h) fun t6=>
 pK (eA none t6 h) fun t7=>
 C VJ [t3,t7] h fun t8 h9 y10=>
 pK (jA .neq t8 (AI 0)) fun t11=>
 oA t11 (K .ret ⟨[(4,t8)],h9,(y10++x)⟩)
 (pK (jA .add v11 (AI 1)) fun t12=>
 K .normal ⟨[(0,v0),(1,v1),(9,v9),(10,v10),(11,t12)],h9,(y10++x)⟩)))
 (K (.exit 0) ⟨[(0,v0),(1,v1),(9,v9),(10,v10),(11,v11),(12,t1)],h,x⟩)
theorem zis {C gl e h x K}:NW C gl LL ⟨e,h,x⟩ K=z4K C gl (aA e 0) (aA e 1) (aA e 9) (aA e 10) (aA e 11) h x K:=by kernel_rfl
theorem zlz {C gl e h x K}:NW C gl (.loop LL) ⟨e,h,x⟩ K=GA C gl LL K [(0,aA e 0),(1,aA e 1),(9,aA e 9),(10,aA e 10),(11,aA e 11)] h x:=jC
def gS:ACode:=.pr [0,1] (.seq (.seq (rg [mV 31 0,
lN 32 31,
mV 33 1,
lN 34 33,
bN 35 .lss 32 34] [35])
(.cond 35 (.seq (rg [mV 4 (cI (-1))] [4])
.ret)
.skip))
(.seq (rg [mV 4 (cI 0)] [4])
.ret))
def z4L (C:Hd)(gl:GL)(v0 v1:AV)(h:bA)(x:Esc)(K:KT):Prop:=
 pK (xA v0) fun t1=>
 pK (xA v1) fun t2=>
 pK (jA .lss t1 t2) fun t3=>
 oA t3 (K .ret ⟨[(4,(AI (-1)))],h,x⟩)
 (K .ret ⟨[(4,(AI 0))],h,x⟩)
theorem zit {C gl e h x K}:NW C gl gS ⟨e,h,x⟩ K=z4L C gl (aA e 0) (aA e 1) h x K:=by kernel_rfl
def z1x (q1 q2:ACode):ACode:=(.seq (rg [mV 4 (cI 0)] [0,1])
(.seq (.seq (rg [mV 9 0,
lN 10 9,
mV 11 (cI 0)] [0,1,9,10,11])
(.block 0 (.loop q1)))
q2))
def oU:AFun:=⟨2,[.t 4],z1x LL gS,false,false⟩
def vQ (C:Hd)(gl:GL)(q1 q2:ACode)(v0 v1:AV)(h:bA)(x:Esc)(K:KT):Prop:=
 pK (xA v0) fun t1=>
 NW C gl (.loop q1) ⟨[(0,v0),(1,v1),(9,v0),(10,t1),(11,(AI 0))],h,x⟩ (wA 0 (QA C gl q2 K))
theorem zaM {C gl q1 q2 v0 v1 h x K}:NW C gl (z1x q1 q2) ⟨enter [v0,v1],h,x⟩ K=vQ C gl q1 q2 v0 v1 h x K:=by kernel_rfl
theorem zir {C gl v0 v1 h x K}:NW C gl oU.body ⟨enter [v0,v1],h,x⟩ K=vQ C gl LL gS v0 v1 h x K:=zaM
end Go.Am
end
section
/- The functions asv abstract code,and asv formulas over their values: printed by program out of the translation. -/
set_option linter.unusedVariables false
set_option maxRecDepth 100000
namespace Go.Am
def xL:ACode:=.pr [3,7,8,9] (.seq (rg [bN 10 .lss 9 8] [3,7,8,9,10])
(.seq (.cond 10 .skip
(.exit 0))
(.seq (.block 1 (.seq (rg [iA 11 (some 3) 7 9,
lD 12 (some 3) 11,
uO 5 (.alloc [.p (.str []),.p (.str []),.p (.str [])]),
wO (.store (some 3) 5 12)] [3,5,7,8,9])
(rg [mV 13 3,
fA 14 0 none 5,
lD 15 none 14,
uO 16 (.bsl false none 1 (.str []) [(0,15)]),
uO 17 (.app none 13 16),
mV 3 17] [3,7,8,9])))
(rg [bN 18 .add 9 (cI 1),
mV 9 18] [3,7,8,9]))))
def z4u (C:Hd)(gl:GL)(v3 v7 v8 v9:AV)(h:bA)(x:Esc)(K:KT):Prop:=
 pK (jA .lss v9 v8) fun t1=>
 oA t1 (pK (tA (some 3) v7 v9 h) fun t2=>
 pK (eA (some 3) t2 h) fun t3=>
 alK [.p (.str []),.p (.str []),.p (.str [])] h fun t4 h5 y6=>
 wK (OA (some 3) t4 t3 h5) fun t7 h8 y9=>
 pK (mA 0 none t4) fun t10=>
 pK (eA none t10 h8) fun t11=>
 wK (jB false none 1 (.str []) [(0,t11)] h8) fun t12 h13 y14=>
 wK (LC none v3 t12 h13) fun t15 h16 y17=>
 pK (jA .add v9 (AI 1)) fun t18=>
 K .normal ⟨[(3,t15),(7,v7),(8,v8),(9,t18)],h16,(y17++(y14++(y9++(y6++x))))⟩)
 (K (.exit 0) ⟨[(3,v3),(7,v7),(8,v8),(9,v9),(10,t1)],h,x⟩)
theorem zh3 {C gl e h x K}:NW C gl xL ⟨e,h,x⟩ K=z4u C gl (aA e 3) (aA e 7) (aA e 8) (aA e 9) h x K:=by kernel_rfl
theorem zll {C gl e h x K}:NW C gl (.loop (.scope xL)) ⟨e,h,x⟩ K=GA C gl (.scope xL) K [(3,aA e 3),(7,aA e 7),(8,aA e 8),(9,aA e 9)] h x:=vB
def WR:ACode:=.pr [3] (.seq (rg [mV 19 3,
cL 20 JI [19]] [3])
(.seq (rg [mV 21 3,
cL 22 bG [21],
mV 2 22] [2])
.ret))
def z4v (C:Hd)(gl:GL)(v3:AV)(h:bA)(x:Esc)(K:KT):Prop:=
 C JI [v3] h fun t1 h2 y3=>
 C bG [v3] h2 fun t4 h5 y6=>
 K .ret ⟨[(2,t4)],h5,(y6++(y3++x))⟩
theorem zh4 {C gl e h x K}:NW C gl WR ⟨e,h,x⟩ K=z4v C gl (aA e 3) h x K:=by kernel_rfl
def z1e (q1 q2:ACode):ACode:=(.seq (rg [uO 1 (.box 0),
mV 2 (.c (.p (.sl none [])))] [1])
(.seq (rg [uO 3 (.new0 none)] [1,3])
(.seq (.seq (rg [fA 6 1 none 1,
lD 7 none 6,
lN 8 7,
mV 9 (cI 0)] [3,7,8,9])
(.block 0 (.loop (.scope q1))))
q2)))
def XT:AFun:=⟨1,[.t 2],z1e xL WR,true,true⟩
def SM (C:Hd)(gl:GL)(q1 q2:ACode)(v0:AV)(h:bA)(x:Esc)(K:KT):Prop:=
 wK (dB v0 h) fun t1 h2 y3=>
 nwK none h2 fun t4 h5 y6=>
 pK (mA 1 none t1) fun t7=>
 pK (eA none t7 h5) fun t8=>
 pK (xA t8) fun t9=>
 NW C gl (.loop (.scope q1)) ⟨[(3,t4),(7,t8),(8,t9),(9,(AI 0))],h5,(y6++(y3++x))⟩ (wA 0 (QA C gl q2 K))
theorem za3 {C gl q1 q2 v0 h x K}:NW C gl (z1e q1 q2) ⟨enter [v0],h,x⟩ K=SM C gl q1 q2 v0 h x K:=by kernel_rfl
theorem zh2 {C gl v0 h x K}:NW C gl XT.body ⟨enter [v0],h,x⟩ K=SM C gl xL WR v0 h x K:=za3
def zbC:ACode:=(.seq (rg [mV 4 (cI 0)] [0,1])
(.seq (rg [mV 7 0,
uO 8 (.nilchk 7),
fA 9 1 none 8,
lD 10 none 9,
bN 11 .add 10 (cI 1),
uO 12 (.nilchk 7),
fA 13 1 none 12,
wO (.store none 13 11)] [0,1])
(.seq (.seq (rg [mV 14 0,
uO 15 (.nilchk 14),
fA 16 0 none 15,
lD 17 none 16,
lN 18 17,
bN 19 .eql 18 (cI 0)] [0,1,19])
(.cond 19 (.seq (rg [mV 20 0,
uO 21 (.nilchk 20),
fA 22 1 none 21,
lD 23 none 22,
bN 24 .mul 23 (cI 7919),
mV 25 1,
cL 26 WF [24,25],
mV 4 26] [4])
.ret)
.skip))
(.seq (dr [dF (mV 27 0) [0],
dF (uO 28 (.nilchk 27)) [27],
dF (fA 29 1 none 28) [28],
dF (lD 30 none 29) [29],
dF (bN 31 .sub 30 (cI 1)) [30],
dF (mV 32 0) [0],
dF (uO 33 (.nilchk 32)) [32],
dF (fA 34 0 none 33) [33],
dF (lD 35 none 34) [34],
dF (lN 36 35) [35],
dF (bN 37 .rem 31 36) [31,36],
dF (mV 5 37) [37]] [0,1,5])
(.seq (dr [dF (mV 38 0) [0],
dF (uO 39 (.nilchk 38)) [38],
dF (fA 40 1 none 39) [39],
dF (lD 41 none 40) [40],
dF (bN 42 .sub 41 (cI 1)) [41],
dF (mV 43 0) [0],
dF (uO 44 (.nilchk 43)) [43],
dF (fA 45 0 none 44) [44],
dF (lD 46 none 45) [45],
dF (lN 47 46) [46],
dF (bN 48 .quo 42 47) [42,47],
dF (mV 6 48) [48]] [0,1,5,6])
(.seq (rg [mV 49 0,
uO 50 (.nilchk 49),
fA 51 0 none 50,
lD 52 none 51,
mV 53 5,
iA 54 none 52 53,
lD 55 none 54,
cL 56 WF [55,(cI 1073741824)],
mV 57 6,
mV 58 5,
bN 59 .add (cI 7919) 58,
bN 60 .mul 57 59,
bN 61 .add 56 60,
mV 62 1,
cL 63 WF [61,62],
mV 4 63] [4])
.ret))))))
def ET:AFun:=⟨2,[.t 4],zbC,false,false⟩
def cQ (C:Hd)(gl:GL)(v0 v1:AV)(h:bA)(x:Esc)(K:KT):Prop:=
 pK (nB v0) fun t1=>
 pK (mA 1 none t1) fun t2=>
 pK (eA none t2 h) fun t3=>
 pK (jA .add t3 (AI 1)) fun t4=>
 pK (nB v0) fun t5=>
 pK (mA 1 none t5) fun t6=>
 wK (OA none t6 t4 h) fun t7 h8 y9=>
 pK (nB v0) fun t10=>
 pK (mA 0 none t10) fun t11=>
 pK (eA none t11 h8) fun t12=>
 pK (xA t12) fun t13=>
 pK (jA .eql t13 (AI 0)) fun t14=>
 oA t14 (pK (nB v0) fun t15=>
 pK (mA 1 none t15) fun t16=>
 pK (eA none t16 h8) fun t17=>
 pK (jA .mul t17 (AI 7919)) fun t18=>
 C WF [t18,v1] h8 fun t19 h20 y21=>
 K .ret ⟨[(4,t19)],h20,(y21++(y9++x))⟩)
 (pK (nB v0) fun t22=>
 pK (mA 1 none t22) fun t23=>
 pK (eA none t23 h8) fun t24=>
 pK (jA .sub t24 (AI 1)) fun t25=>
 pK (nB v0) fun t26=>
 pK (mA 0 none t26) fun t27=>
 pK (eA none t27 h8) fun t28=>
 pK (xA t28) fun t29=>
 pK (jA .rem t25 t29) fun t30=>
 pK (nB v0) fun t31=>
 pK (mA 1 none t31) fun t32=>
 pK (eA none t32 h8) fun t33=>
 pK (jA .sub t33 (AI 1)) fun t34=>
 pK (nB v0) fun t35=>
 pK (mA 0 none t35) fun t36=>
 pK (eA none t36 h8) fun t37=>
 pK (xA t37) fun t38=>
 pK (jA .quo t34 t38) fun t39=>
 pK (nB v0) fun t40=>
 pK (mA 0 none t40) fun t41=>
 pK (eA none t41 h8) fun t42=>
 pK (tA none t42 t30 h8) fun t43=>
 pK (eA none t43 h8) fun t44=>
 C WF [t44,(AI 1073741824)] h8 fun t45 h46 y47=>
 pK (jA .add (AI 7919) t30) fun t48=>
 pK (jA .mul t39 t48) fun t49=>
 pK (jA .add t45 t49) fun t50=>
 C WF [t50,v1] h46 fun t51 h52 y53=>
 K .ret ⟨[(4,t51)],h52,(y53++(y47++(y9++x)))⟩)
theorem zgL {C gl v0 v1 h x K}:NW C gl ET.body ⟨enter [v0,v1],h,x⟩ K=cQ C gl v0 v1 h x K:=by kernel_rfl
def zbI:ACode:=(.seq (rg [mV 8 0,
cL 9 QB [8,(cI 6)]] [0,1,9])
(.block 0 (.seq (rg [bN 103 .eql 9 (cI 0),
mV 102 103] [0,1,9,102])
(.cond 102 (.seq (rg [mV 104 1,
uO 105 (.nilchk 104),
fA 106 0 none 105,
lD 107 none 106,
lN 108 107,
bN 109 .gtr 108 (cI 0)] [0,1,109])
(.cond 109 (dr [dF (mV 110 1) [1],
dF (uO 111 (.nilchk 110)) [110],
dF (fA 112 0 none 111) [111],
dF (lD 113 none 112) [112],
dF (mV 114 0) [0],
dF (mV 115 1) [1],
dF (uO 116 (.nilchk 115)) [115],
dF (fA 117 0 none 116) [116],
dF (lD 118 none 117) [117],
dF (lN 119 118) [118],
dA (cL 120 QB [114,119]) [114,119] true [] [3],
dF (mV 121 0) [0],
dA (uO 122 (.bsl false none 4 (.str []) [(0,(cS [])),(1,(cS [65])),(2,(cS [117])),(3,(cS [122,122]))])) [] false [10] [],
dA (cL 123 IC [121,122]) [121,122] true [] [3],
dF (iA 124 (some 2) 113 120) [113,120],
dF (fA 125 0 none 124) [124],
dT (wO (.store none 125 123)) [125,123]] [])
.skip))
(.seq (rg [bN 127 .eql 9 (cI 1),
mV 126 127] [0,1,9,126])
(.cond 126 (.seq (rg [mV 128 1,
uO 129 (.nilchk 128),
fA 130 1 none 129,
lD 131 none 130,
lN 132 131,
bN 133 .gtr 132 (cI 0)] [0,1,133])
(.cond 133 (.seq (dr [dF (mV 134 1) [1],
dF (uO 135 (.nilchk 134)) [134],
dF (fA 136 1 none 135) [135],
dF (lD 137 none 136) [136],
dF (mV 138 0) [0],
dF (mV 139 1) [1],
dF (uO 140 (.nilchk 139)) [139],
dF (fA 141 1 none 140) [140],
dF (lD 142 none 141) [141],
dF (lN 143 142) [142],
dA (cL 144 QB [138,143]) [138,143] true [] [3],
dF (iA 145 (some 3) 137 144) [137,144],
dF (mV 4 145) [145]] [0,4])
(dr [dF (mV 146 4) [4],
dF (mV 147 4) [4],
dF (mV 148 4) [4],
dF (mV 149 0) [0],
dF (mV 150 4) [4],
dF (uO 151 (.nilchk 150)) [150],
dF (fA 152 0 none 151) [151],
dF (lD 153 none 152) [152],
dF (uO 154 (.bsl false none 3 (.str []) [(0,153),(1,(cS [])),(2,(cS [110,49]))])) [153],
dT (cL 155 IC [149,154]) [149,154],
dF (mV 156 0) [0],
dF (mV 157 4) [4],
dF (uO 158 (.nilchk 157)) [157],
dF (fA 159 1 none 158) [158],
dA (lD 160 none 159) [159] false [9] [],
dA (uO 161 (.bsl false none 3 (.str []) [(0,160),(1,(cS [122,122])),(2,(cS [117]))])) [160] false [9] [],
dT (cL 162 IC [156,161]) [156,161],
dF (mV 163 0) [0],
dF (mV 164 4) [4],
dF (uO 165 (.nilchk 164)) [164],
dF (fA 166 2 none 165) [165],
dA (lD 167 none 166) [166] false [9,16] [],
dA (uO 168 (.bsl false none 3 (.str []) [(0,167),(1,(cS [112,122])),(2,(cS []))])) [167] false [9,16] [],
dT (cL 169 IC [163,168]) [163,168],
dF (uO 170 (.nilchk 146)) [146],
dF (fA 171 0 none 170) [170],
dT (wO (.store none 171 155)) [171,155],
dF (uO 172 (.nilchk 147)) [147],
dF (fA 173 1 none 172) [172],
dT (wO (.store none 173 162)) [173,162],
dF (uO 174 (.nilchk 148)) [148],
dF (fA 175 2 none 174) [174],
dT (wO (.store none 175 169)) [175,169]] []))
.skip))
(.seq (rg [bN 177 .eql 9 (cI 2),
mV 176 177] [0,1,176])
(.cond 176 (.seq (rg [mV 178 1,
uO 179 (.nilchk 178),
fA 180 2 none 179,
lD 181 none 180,
lN 182 181,
bN 183 .gtr 182 (cI 0)] [0,1,183])
(.cond 183 (.seq (dr [dF (mV 184 1) [1],
dF (uO 185 (.nilchk 184)) [184],
dF (fA 186 2 none 185) [185],
dF (lD 187 none 186) [186],
dF (mV 188 0) [0],
dF (mV 189 1) [1],
dF (uO 190 (.nilchk 189)) [189],
dF (fA 191 2 none 190) [190],
dF (lD 192 none 191) [191],
dF (lN 193 192) [192],
dA (cL 194 QB [188,193]) [188,193] true [] [3],
dF (iA 195 (some 2) 187 194) [187,194],
dF (mV 5 195) [195]] [0,5])
(rg [mV 196 5,
mV 197 5,
mV 198 0,
mV 199 5,
uO 200 (.nilchk 199),
fA 201 0 none 200,
lD 202 none 201,
uO 203 (.bsl false none 3 (.str []) [(0,202),(1,(cS [122,122])),(2,(cS [110,49]))]),
cL 204 IC [198,203],
mV 205 0,
cL 206 aK [205,(cI 0),(cI 1)],
uO 207 (.nilchk 196),
fA 208 0 none 207,
wO (.store none 208 204),
uO 209 (.nilchk 197),
fA 210 1 none 209,
wO (.store none 210 206)] []))
.skip))
(.seq (.seq (rg [mV 10 1,
uO 11 (.nilchk 10),
fA 12 0 none 11,
lD 13 none 12,
lN 14 13,
bN 15 .eql 14 (cI 0)] [0,1,15])
(.cond 15 .ret
.skip))
(.seq (dr [dF (mV 16 1) [1],
dF (uO 17 (.nilchk 16)) [16],
dF (fA 18 0 none 17) [17],
dF (lD 19 none 18) [18],
dF (mV 20 0) [0],
dF (mV 21 1) [1],
dF (uO 22 (.nilchk 21)) [21],
dF (fA 23 0 none 22) [22],
dF (lD 24 none 23) [23],
dF (lN 25 24) [24],
dA (cL 26 QB [20,25]) [20,25] true [] [3],
dF (iA 27 (some 2) 19 26) [19,26],
dF (mV 6 27) [27]] [0,6])
(.seq (rg [mV 28 6,
uO 29 (.nilchk 28),
fA 30 1 none 29,
lD 31 none 30,
lN 32 31,
bN 33 .gtr 32 (cI 0)] [0,6,33])
(.cond 33 (.seq (dr [dF (mV 34 6) [6],
dF (uO 35 (.nilchk 34)) [34],
dF (fA 36 1 none 35) [35],
dF (lD 37 none 36) [36],
dF (mV 38 0) [0],
dF (mV 39 6) [6],
dF (uO 40 (.nilchk 39)) [39],
dF (fA 41 1 none 40) [40],
dF (lD 42 none 41) [41],
dF (lN 43 42) [42],
dA (cL 44 QB [38,43]) [38,43] true [] [3],
dF (iA 45 (some 4) 37 44) [37,44],
dF (mV 7 45) [45]] [0,7])
(dr [dF (mV 46 7) [7],
dF (mV 47 7) [7],
dF (mV 48 7) [7],
dF (mV 49 7) [7],
dF (mV 50 0) [0],
dF (mV 51 7) [7],
dF (uO 52 (.nilchk 51)) [51],
dF (fA 53 0 none 52) [52],
dF (lD 54 none 53) [53],
dF (mV 55 7) [7],
dF (uO 56 (.nilchk 55)) [55],
dF (fA 57 0 none 56) [56],
dF (lD 58 none 57) [57],
dF (uO 59 (.bsl false none 5 (.int .i64 0) [(0,54),(1,58),(2,(cI 0)),(3,(cI 5)),(4,(cI 3))])) [54,58],
dT (cL 60 lE [50,59]) [50,59],
dF (mV 61 0) [0],
dF (mV 62 7) [7],
dF (uO 63 (.nilchk 62)) [62],
dF (fA 64 1 none 63) [63],
dA (lD 65 none 64) [64] false [14] [],
dF (mV 66 7) [7],
dF (uO 67 (.nilchk 66)) [66],
dF (fA 68 1 none 67) [67],
dA (lD 69 none 68) [68] false [14] [],
dA (uO 70 (.bsl false none 5 (.str []) [(0,65),(1,69),(2,(cS [])),(3,(cS [112,97])),(4,(cS [65]))])) [65,69] false [14] [],
dT (cL 71 IC [61,70]) [61,70],
dF (mV 72 0) [0],
dF (mV 73 7) [7],
dF (uO 74 (.nilchk 73)) [73],
dF (fA 75 2 none 74) [74],
dA (lD 76 none 75) [75] false [14,25] [],
dF (mV 77 7) [7],
dF (uO 78 (.nilchk 77)) [77],
dF (fA 79 2 none 78) [78],
dA (lD 80 none 79) [79] false [14,25] [],
dA (uO 81 (.bsl false none 7 (.int .i64 0) [(0,76),(1,80),(2,(cI (-1))),(3,(cI (-2))),(4,(cI 0)),(5,(cI 99)),(6,(cI 1099511627776))])) [76,80] false [14,25] [],
dT (cL 82 lE [72,81]) [72,81],
dF (mV 83 0) [0],
dF (mV 84 7) [7],
dF (uO 85 (.nilchk 84)) [84],
dF (fA 86 3 none 85) [85],
dA (lD 87 none 86) [86] false [14,25,36] [],
dF (mV 88 7) [7],
dF (uO 89 (.nilchk 88)) [88],
dF (fA 90 3 none 89) [89],
dA (lD 91 none 90) [90] false [14,25,36] [],
dA (uO 92 (.bsl false none 6 (.int .i64 0) [(0,87),(1,91),(2,(cI 0)),(3,(cI 1)),(4,(cI 2)),(5,(cI (-1)))])) [87,91] false [14,25,36] [],
dT (cL 93 lE [83,92]) [83,92],
dF (uO 94 (.nilchk 46)) [46],
dF (fA 95 0 none 94) [94],
dT (wO (.store none 95 60)) [95,60],
dF (uO 96 (.nilchk 47)) [47],
dF (fA 97 1 none 96) [96],
dT (wO (.store none 97 71)) [97,71],
dF (uO 98 (.nilchk 48)) [48],
dF (fA 99 2 none 98) [98],
dT (wO (.store none 99 82)) [99,82],
dF (uO 100 (.nilchk 49)) [49],
dF (fA 101 3 none 100) [100],
dT (wO (.store none 101 93)) [101,93]] []))
.skip))))))))))))
def MT:AFun:=⟨2,[],zbI,false,false⟩
def pF (C:Hd)(gl:GL)(v0 v1:AV)(h:bA)(x:Esc)(K:KT):Prop:=
 C QB [v0,(AI 6)] h fun t1 h2 y3=>
 pK (jA .eql t1 (AI 0)) fun t4=>
 oA t4 (pK (nB v1) fun t5=>
 pK (mA 0 none t5) fun t6=>
 pK (eA none t6 h2) fun t7=>
 pK (xA t7) fun t8=>
 pK (jA .gtr t8 (AI 0)) fun t9=>
 oA t9 (pK (nB v1) fun t10=>
 pK (mA 0 none t10) fun t11=>
 pK (eA none t11 h2) fun t12=>
 pK (nB v1) fun t13=>
 pK (mA 0 none t13) fun t14=>
 pK (eA none t14 h2) fun t15=>
 pK (xA t15) fun t16=>
 DB C QB [v0,t16] h2 fun t17 h18 y19=>
 (pK (eA none t11 h18) fun v=>(fun u (g1:bA) (y1:Esc)=>u=t12∧g1=h18∧y1=[]) v h18 [])∧(wK (jB false none 4 (.str []) [(0,(.p (.str []))),(1,(.p (.str [65]))),(2,(.p (.str [117]))),(3,(.p (.str [122,122])))] h18) fun t20 h21 y22=>
 (h21=h18∧y22=[])∧((wK (jB false none 4 (.str []) [(0,(.p (.str []))),(1,(.p (.str [65]))),(2,(.p (.str [117]))),(3,(.p (.str [122,122])))] h2) (fun u (g1:bA) (y1:Esc)=>u=t20∧g1=h2∧y1=[]))∧(DB C IC [v0,t20] h21 fun t23 h24 y25=>
 (pK (eA none t11 h24) fun v=>(fun u (g1:bA) (y1:Esc)=>u=t12∧g1=h24∧y1=[]) v h24 [])∧(pK (tA (some 2) t12 t17 h24) fun t26=>
 pK (mA 0 none t26) fun t27=>
 wK (OA none t27 t23 h24) fun t28 h29 y30=>
 K .normal ⟨[],h29,(y30++(y25++(y22++(y19++(y3++x)))))⟩)))))
 (K .normal ⟨[(0,v0),(1,v1),(109,t9)],h2,(y3++x)⟩))
 (pK (jA .eql t1 (AI 1)) fun t31=>
 oA t31 (pK (nB v1) fun t32=>
 pK (mA 1 none t32) fun t33=>
 pK (eA none t33 h2) fun t34=>
 pK (xA t34) fun t35=>
 pK (jA .gtr t35 (AI 0)) fun t36=>
 oA t36 (pK (nB v1) fun t37=>
 pK (mA 1 none t37) fun t38=>
 pK (eA none t38 h2) fun t39=>
 pK (nB v1) fun t40=>
 pK (mA 1 none t40) fun t41=>
 pK (eA none t41 h2) fun t42=>
 pK (xA t42) fun t43=>
 DB C QB [v0,t43] h2 fun t44 h45 y46=>
 (pK (eA none t38 h45) fun v=>(fun u (g1:bA) (y1:Esc)=>u=t39∧g1=h45∧y1=[]) v h45 [])∧(pK (tA (some 3) t39 t44 h45) fun t47=>
 pK (nB t47) fun t48=>
 pK (mA 0 none t48) fun t49=>
 pK (eA none t49 h45) fun t50=>
 wK (jB false none 3 (.str []) [(0,t50),(1,(.p (.str []))),(2,(.p (.str [110,49])))] h45) fun t51 h52 y53=>
 (h52=h45∧y53=[])∧(DB C IC [v0,t51] h52 fun t54 h55 y56=>
 pK (nB t47) fun t57=>
 pK (mA 1 none t57) fun t58=>
 pK (eA none t58 h55) fun t59=>
 (pK (eA none t58 h52) fun v=>(fun u (g1:bA) (y1:Esc)=>u=t59∧g1=h52∧y1=[]) v h52 [])∧(wK (jB false none 3 (.str []) [(0,t59),(1,(.p (.str [122,122]))),(2,(.p (.str [117])))] h55) fun t60 h61 y62=>
 (h61=h55∧y62=[])∧((wK (jB false none 3 (.str []) [(0,t59),(1,(.p (.str [122,122]))),(2,(.p (.str [117])))] h52) (fun u (g1:bA) (y1:Esc)=>u=t60∧g1=h52∧y1=[]))∧(DB C IC [v0,t60] h61 fun t63 h64 y65=>
 pK (nB t47) fun t66=>
 pK (mA 2 none t66) fun t67=>
 pK (eA none t67 h64) fun t68=>
 (pK (eA none t67 h52) fun v=>(fun u (g1:bA) (y1:Esc)=>u=t68∧g1=h52∧y1=[]) v h52 [])∧((pK (eA none t67 h61) fun v=>(fun u (g1:bA) (y1:Esc)=>u=t68∧g1=h61∧y1=[]) v h61 [])∧(wK (jB false none 3 (.str []) [(0,t68),(1,(.p (.str [112,122]))),(2,(.p (.str [])))] h64) fun t69 h70 y71=>
 (h70=h64∧y71=[])∧((wK (jB false none 3 (.str []) [(0,t68),(1,(.p (.str [112,122]))),(2,(.p (.str [])))] h52) (fun u (g1:bA) (y1:Esc)=>u=t69∧g1=h52∧y1=[]))∧((wK (jB false none 3 (.str []) [(0,t68),(1,(.p (.str [112,122]))),(2,(.p (.str [])))] h61) (fun u (g1:bA) (y1:Esc)=>u=t69∧g1=h61∧y1=[]))∧(DB C IC [v0,t69] h70 fun t72 h73 y74=>
 pK (nB t47) fun t75=>
 pK (mA 0 none t75) fun t76=>
 wK (OA none t76 t54 h73) fun t77 h78 y79=>
 pK (nB t47) fun t80=>
 pK (mA 1 none t80) fun t81=>
 wK (OA none t81 t63 h78) fun t82 h83 y84=>
 pK (nB t47) fun t85=>
 pK (mA 2 none t85) fun t86=>
 wK (OA none t86 t72 h83) fun t87 h88 y89=>
 K .normal ⟨[],h88,(y89++(y84++(y79++(y74++(y71++(y65++(y62++(y56++(y53++(y46++(y3++x)))))))))))⟩)))))))))))
 (K .normal ⟨[(0,v0),(1,v1),(133,t36)],h2,(y3++x)⟩))
 (pK (jA .eql t1 (AI 2)) fun t90=>
 oA t90 (pK (nB v1) fun t91=>
 pK (mA 2 none t91) fun t92=>
 pK (eA none t92 h2) fun t93=>
 pK (xA t93) fun t94=>
 pK (jA .gtr t94 (AI 0)) fun t95=>
 oA t95 (pK (nB v1) fun t96=>
 pK (mA 2 none t96) fun t97=>
 pK (eA none t97 h2) fun t98=>
 pK (nB v1) fun t99=>
 pK (mA 2 none t99) fun t100=>
 pK (eA none t100 h2) fun t101=>
 pK (xA t101) fun t102=>
 DB C QB [v0,t102] h2 fun t103 h104 y105=>
 (pK (eA none t97 h104) fun v=>(fun u (g1:bA) (y1:Esc)=>u=t98∧g1=h104∧y1=[]) v h104 [])∧(pK (tA (some 2) t98 t103 h104) fun t106=>
 pK (nB t106) fun t107=>
 pK (mA 0 none t107) fun t108=>
 pK (eA none t108 h104) fun t109=>
 wK (jB false none 3 (.str []) [(0,t109),(1,(.p (.str [122,122]))),(2,(.p (.str [110,49])))] h104) fun t110 h111 y112=>
 C IC [v0,t110] h111 fun t113 h114 y115=>
 C aK [v0,(AI 0),(AI 1)] h114 fun t116 h117 y118=>
 pK (nB t106) fun t119=>
 pK (mA 0 none t119) fun t120=>
 wK (OA none t120 t113 h117) fun t121 h122 y123=>
 pK (nB t106) fun t124=>
 pK (mA 1 none t124) fun t125=>
 wK (OA none t125 t116 h122) fun t126 h127 y128=>
 K .normal ⟨[],h127,(y128++(y123++(y118++(y115++(y112++(y105++(y3++x)))))))⟩))
 (K .normal ⟨[(0,v0),(1,v1),(183,t95)],h2,(y3++x)⟩))
 (pK (nB v1) fun t129=>
 pK (mA 0 none t129) fun t130=>
 pK (eA none t130 h2) fun t131=>
 pK (xA t131) fun t132=>
 pK (jA .eql t132 (AI 0)) fun t133=>
 oA t133 (K .ret ⟨[(0,v0),(1,v1),(15,t133)],h2,(y3++x)⟩)
 (pK (nB v1) fun t134=>
 pK (mA 0 none t134) fun t135=>
 pK (eA none t135 h2) fun t136=>
 pK (nB v1) fun t137=>
 pK (mA 0 none t137) fun t138=>
 pK (eA none t138 h2) fun t139=>
 pK (xA t139) fun t140=>
 DB C QB [v0,t140] h2 fun t141 h142 y143=>
 (pK (eA none t135 h142) fun v=>(fun u (g1:bA) (y1:Esc)=>u=t136∧g1=h142∧y1=[]) v h142 [])∧(pK (tA (some 2) t136 t141 h142) fun t144=>
 pK (nB t144) fun t145=>
 pK (mA 1 none t145) fun t146=>
 pK (eA none t146 h142) fun t147=>
 pK (xA t147) fun t148=>
 pK (jA .gtr t148 (AI 0)) fun t149=>
 oA t149 (pK (nB t144) fun t150=>
 pK (mA 1 none t150) fun t151=>
 pK (eA none t151 h142) fun t152=>
 pK (nB t144) fun t153=>
 pK (mA 1 none t153) fun t154=>
 pK (eA none t154 h142) fun t155=>
 pK (xA t155) fun t156=>
 DB C QB [v0,t156] h142 fun t157 h158 y159=>
 (pK (eA none t151 h158) fun v=>(fun u (g1:bA) (y1:Esc)=>u=t152∧g1=h158∧y1=[]) v h158 [])∧(pK (tA (some 4) t152 t157 h158) fun t160=>
 pK (nB t160) fun t161=>
 pK (mA 0 none t161) fun t162=>
 pK (eA none t162 h158) fun t163=>
 pK (nB t160) fun t164=>
 pK (mA 0 none t164) fun t165=>
 pK (eA none t165 h158) fun t166=>
 wK (jB false none 5 (.int .i64 0) [(0,t163),(1,t166),(2,(AI 0)),(3,(AI 5)),(4,(AI 3))] h158) fun t167 h168 y169=>
 (h168=h158∧y169=[])∧(DB C lE [v0,t167] h168 fun t170 h171 y172=>
 pK (nB t160) fun t173=>
 pK (mA 1 none t173) fun t174=>
 pK (eA none t174 h171) fun t175=>
 (pK (eA none t174 h168) fun v=>(fun u (g1:bA) (y1:Esc)=>u=t175∧g1=h168∧y1=[]) v h168 [])∧(pK (nB t160) fun t176=>
 pK (mA 1 none t176) fun t177=>
 pK (eA none t177 h171) fun t178=>
 (pK (eA none t177 h168) fun v=>(fun u (g1:bA) (y1:Esc)=>u=t178∧g1=h168∧y1=[]) v h168 [])∧(wK (jB false none 5 (.str []) [(0,t175),(1,t178),(2,(.p (.str []))),(3,(.p (.str [112,97]))),(4,(.p (.str [65])))] h171) fun t179 h180 y181=>
 (h180=h171∧y181=[])∧((wK (jB false none 5 (.str []) [(0,t175),(1,t178),(2,(.p (.str []))),(3,(.p (.str [112,97]))),(4,(.p (.str [65])))] h168) (fun u (g1:bA) (y1:Esc)=>u=t179∧g1=h168∧y1=[]))∧(DB C IC [v0,t179] h180 fun t182 h183 y184=>
 pK (nB t160) fun t185=>
 pK (mA 2 none t185) fun t186=>
 pK (eA none t186 h183) fun t187=>
 (pK (eA none t186 h168) fun v=>(fun u (g1:bA) (y1:Esc)=>u=t187∧g1=h168∧y1=[]) v h168 [])∧((pK (eA none t186 h180) fun v=>(fun u (g1:bA) (y1:Esc)=>u=t187∧g1=h180∧y1=[]) v h180 [])∧(pK (nB t160) fun t188=>
 pK (mA 2 none t188) fun t189=>
 pK (eA none t189 h183) fun t190=>
 (pK (eA none t189 h168) fun v=>(fun u (g1:bA) (y1:Esc)=>u=t190∧g1=h168∧y1=[]) v h168 [])∧((pK (eA none t189 h180) fun v=>(fun u (g1:bA) (y1:Esc)=>u=t190∧g1=h180∧y1=[]) v h180 [])∧(wK (jB false none 7 (.int .i64 0) [(0,t187),(1,t190),(2,(AI (-1))),(3,(AI (-2))),(4,(AI 0)),(5,(AI 99)),(6,(AI 1099511627776))] h183) fun t191 h192 y193=>
 (h192=h183∧y193=[])∧((wK (jB false none 7 (.int .i64 0) [(0,t187),(1,t190),(2,(AI (-1))),(3,(AI (-2))),(4,(AI 0)),(5,(AI 99)),(6,(AI 1099511627776))] h168) (fun u (g1:bA) (y1:Esc)=>u=t191∧g1=h168∧y1=[]))∧((wK (jB false none 7 (.int .i64 0) [(0,t187),(1,t190),(2,(AI (-1))),(3,(AI (-2))),(4,(AI 0)),(5,(AI 99)),(6,(AI 1099511627776))] h180) (fun u (g1:bA) (y1:Esc)=>u=t191∧g1=h180∧y1=[]))∧(DB C lE [v0,t191] h192 fun t194 h195 y196=>
 pK (nB t160) fun t197=>
 pK (mA 3 none t197) fun t198=>
 pK (eA none t198 h195) fun t199=>
 (pK (eA none t198 h168) fun v=>(fun u (g1:bA) (y1:Esc)=>u=t199∧g1=h168∧y1=[]) v h168 [])∧((pK (eA none t198 h180) fun v=>(fun u (g1:bA) (y1:Esc)=>u=t199∧g1=h180∧y1=[]) v h180 [])∧((pK (eA none t198 h192) fun v=>(fun u (g1:bA) (y1:Esc)=>u=t199∧g1=h192∧y1=[]) v h192 [])∧(pK (nB t160) fun t200=>
 pK (mA 3 none t200) fun t201=>
 pK (eA none t201 h195) fun t202=>
 (pK (eA none t201 h168) fun v=>(fun u (g1:bA) (y1:Esc)=>u=t202∧g1=h168∧y1=[]) v h168 [])∧((pK (eA none t201 h180) fun v=>(fun u (g1:bA) (y1:Esc)=>u=t202∧g1=h180∧y1=[]) v h180 [])∧((pK (eA none t201 h192) fun v=>(fun u (g1:bA) (y1:Esc)=>u=t202∧g1=h192∧y1=[]) v h192 [])∧(wK (jB false none 6 (.int .i64 0) [(0,t199),(1,t202),(2,(AI 0)),(3,(AI 1)),(4,(AI 2)),(5,(AI (-1)))] h195) fun t203 h204 y205=>
 (h204=h195∧y205=[])∧((wK (jB false none 6 (.int .i64 0) [(0,t199),(1,t202),(2,(AI 0)),(3,(AI 1)),(4,(AI 2)),(5,(AI (-1)))] h168) (fun u (g1:bA) (y1:Esc)=>u=t203∧g1=h168∧y1=[]))∧((wK (jB false none 6 (.int .i64 0) [(0,t199),(1,t202),(2,(AI 0)),(3,(AI 1)),(4,(AI 2)),(5,(AI (-1)))] h180) (fun u (g1:bA) (y1:Esc)=>u=t203∧g1=h180∧y1=[]))∧((wK (jB false none 6 (.int .i64 0) [(0,t199),(1,t202),(2,(AI 0)),(3,(AI 1)),(4,(AI 2)),(5,(AI (-1)))] h192) (fun u (g1:bA) (y1:Esc)=>u=t203∧g1=h192∧y1=[]))∧(DB C lE [v0,t203] h204 fun t206 h207 y208=>
 pK (nB t160) fun t209=>
 pK (mA 0 none t209) fun t210=>
 wK (OA none t210 t170 h207) fun t211 h212 y213=>
 pK (nB t160) fun t214=>
 pK (mA 1 none t214) fun t215=>
 wK (OA none t215 t182 h212) fun t216 h217 y218=>
 pK (nB t160) fun t219=>
 pK (mA 2 none t219) fun t220=>
 wK (OA none t220 t194 h217) fun t221 h222 y223=>
 pK (nB t160) fun t224=>
 pK (mA 3 none t224) fun t225=>
 wK (OA none t225 t206 h222) fun t226 h227 y228=>
 K .normal ⟨[],h227,(y228++(y223++(y218++(y213++(y208++(y205++(y196++(y193++(y184++(y181++(y172++(y169++(y159++(y143++(y3++x)))))))))))))))⟩))))))))))))))))))))))))
 (K .normal ⟨[(0,v0),(6,t144),(33,t149)],h142,(y143++(y3++x))⟩))))))
theorem zhb {C gl v0 v1 h x K}:NW C gl MT.body ⟨enter [v0,v1],h,x⟩ K=pF C gl v0 v1 h x K:=by kernel_rfl
def bL:ACode:=.pr [1,2,5,20,21,22] (.seq (rg [bN 23 .lss 22 21] [1,2,5,20,21,22,23])
(.seq (.cond 23 .skip
(.exit 0))
(.seq (.block 1 (.seq (rg [iA 24 none 20 22,
lD 25 none 24,
mV 7 25] [1,2,5,7,20,21,22])
(rg [mV 26 5,
mV 27 7,
wO (.mupd (none,[2]) 26 27 (cI 2))] [1,2,5,20,21,22])))
(rg [bN 28 .add 22 (cI 1),
mV 22 28] [1,2,5,20,21,22]))))
def z39 (C:Hd)(gl:GL)(v1 v2 v5 v20 v21 v22:AV)(h:bA)(x:Esc)(K:KT):Prop:=
 pK (jA .lss v22 v21) fun t1=>
 oA t1 (pK (tA none v20 v22 h) fun t2=>
 pK (eA none t2 h) fun t3=>
 wK (kB (none,[2]) v5 t3 (AI 2) h) fun t4 h5 y6=>
 pK (jA .add v22 (AI 1)) fun t7=>
 K .normal ⟨[(1,v1),(2,v2),(5,v5),(20,v20),(21,v21),(22,t7)],h5,(y6++x)⟩)
 (K (.exit 0) ⟨[(1,v1),(2,v2),(5,v5),(20,v20),(21,v21),(22,v22),(23,t1)],h,x⟩)
theorem zfO {C gl e h x K}:NW C gl bL ⟨e,h,x⟩ K=z39 C gl (aA e 1) (aA e 2) (aA e 5) (aA e 20) (aA e 21) (aA e 22) h x K:=by kernel_rfl
theorem zkJ {C gl e h x K}:NW C gl (.loop bL) ⟨e,h,x⟩ K=GA C gl bL K [(1,aA e 1),(2,aA e 2),(5,aA e 5),(20,aA e 20),(21,aA e 21),(22,aA e 22)] h x:=jC
def ON:ACode:=.pr [1,2,5,30,31,32] (.seq (rg [bN 33 .lss 32 31] [1,2,5,30,31,32,33])
(.seq (.cond 33 .skip
(.exit 2))
(.seq (.block 3 (.seq (rg [iA 34 (some 2) 30 32,
lD 35 (some 2) 34,
uO 9 (.alloc [.p (.str []),.p (.int .i64 0)]),
wO (.store (some 2) 9 35)] [1,2,5,9,30,31,32])
(rg [mV 36 5,
fA 37 0 none 9,
lD 38 none 37,
fA 39 1 none 9,
lD 40 none 39,
wO (.mupd (none,[2]) 36 38 40)] [1,2,5,30,31,32])))
(rg [bN 41 .add 32 (cI 1),
mV 32 41] [1,2,5,30,31,32]))))
def z3A (C:Hd)(gl:GL)(v1 v2 v5 v30 v31 v32:AV)(h:bA)(x:Esc)(K:KT):Prop:=
 pK (jA .lss v32 v31) fun t1=>
 oA t1 (pK (tA (some 2) v30 v32 h) fun t2=>
 pK (eA (some 2) t2 h) fun t3=>
 alK [.p (.str []),.p (.int .i64 0)] h fun t4 h5 y6=>
 wK (OA (some 2) t4 t3 h5) fun t7 h8 y9=>
 pK (mA 0 none t4) fun t10=>
 pK (eA none t10 h8) fun t11=>
 pK (mA 1 none t4) fun t12=>
 pK (eA none t12 h8) fun t13=>
 wK (kB (none,[2]) v5 t11 t13 h8) fun t14 h15 y16=>
 pK (jA .add v32 (AI 1)) fun t17=>
 K .normal ⟨[(1,v1),(2,v2),(5,v5),(30,v30),(31,v31),(32,t17)],h15,(y16++(y9++(y6++x)))⟩)
 (K (.exit 2) ⟨[(1,v1),(2,v2),(5,v5),(30,v30),(31,v31),(32,v32),(33,t1)],h,x⟩)
theorem zfP {C gl e h x K}:NW C gl ON ⟨e,h,x⟩ K=z3A C gl (aA e 1) (aA e 2) (aA e 5) (aA e 30) (aA e 31) (aA e 32) h x K:=by kernel_rfl
theorem zkK {C gl e h x K}:NW C gl (.loop (.scope ON)) ⟨e,h,x⟩ K=GA C gl (.scope ON) K [(1,aA e 1),(2,aA e 2),(5,aA e 5),(30,aA e 30),(31,aA e 31),(32,aA e 32)] h x:=vB
def LX:ACode:=.pr [1,2,5,10,17,44,50,51,52] (rg [mV 100 5,
mV 101 10,
mV 102 17,
wO (.mupd (none,[2]) 100 101 102),
mV 12 cT] [1,2,5,10,12,44,50,51,52])
def z3B (C:Hd)(gl:GL)(v1 v2 v5 v10 v17 v44 v50 v51 v52:AV)(h:bA)(x:Esc)(K:KT):Prop:=
 wK (kB (none,[2]) v5 v10 v17 h) fun t1 h2 y3=>
 K .normal ⟨[(1,v1),(2,v2),(5,v5),(10,v10),(12,(AB true)),(44,v44),(50,v50),(51,v51),(52,v52)],h2,(y3++x)⟩
theorem zfQ {C gl e h x K}:NW C gl LX ⟨e,h,x⟩ K=z3B C gl (aA e 1) (aA e 2) (aA e 5) (aA e 10) (aA e 17) (aA e 44) (aA e 50) (aA e 51) (aA e 52) h x K:=by kernel_rfl
def MX:ACode:=.pr [1,2,5,10,12,44,50,51,52] (rg [bN 103 .add 52 (cI 1),
mV 52 103] [1,2,5,10,12,44,50,51,52])
def z3C (C:Hd)(gl:GL)(v1 v2 v5 v10 v12 v44 v50 v51 v52:AV)(h:bA)(x:Esc)(K:KT):Prop:=
 pK (jA .add v52 (AI 1)) fun t1=>
 K .normal ⟨[(1,v1),(2,v2),(5,v5),(10,v10),(12,v12),(44,v44),(50,v50),(51,v51),(52,t1)],h,x⟩
theorem zfR {C gl e h x K}:NW C gl MX ⟨e,h,x⟩ K=z3C C gl (aA e 1) (aA e 2) (aA e 5) (aA e 10) (aA e 12) (aA e 44) (aA e 50) (aA e 51) (aA e 52) h x K:=by kernel_rfl
def z0t (q3 q4:ACode):ACode:=.pr [1,2,5,10,12,44,50,51,52] (.seq (rg [bN 53 .lss 52 51] [1,2,5,10,12,44,50,51,52,53])
(.seq (.cond 53 .skip
(.exit 6))
(.seq (.block 7 (.seq (rg [iA 54 (some 2) 50 52,
lD 55 (some 2) 54,
uO 14 (.alloc [.p (.int .i64 0),.p (.int .i64 0)]),
wO (.store (some 2) 14 55)] [1,2,5,10,12,14,44,50,51,52])
(.seq (dr [dF (fA 56 0 none 2) [2],
dF (lD 57 none 56) [56],
dF (fA 58 0 none 14) [14],
dF (lD 59 none 58) [58],
dF (iA 60 (some 2) 57 59) [57,59],
dF (fA 61 1 none 60) [60],
dF (lD 62 none 61) [61],
dF (fA 63 1 none 14) [14],
dF (lD 64 none 63) [63],
dF (iA 65 (some 4) 62 64) [62,64],
dF (lD 66 (some 4) 65) [65],
dF (mV 67 1) [1],
dF (fA 68 0 none 14) [14],
dF (lD 69 none 68) [68],
dF (iA 70 none 67 69) [67,69],
dF (lD 71 none 70) [70],
dA (uO 15 (.alloc [.p (.int .i64 0),.p (.str []),.p (.int .i64 0),.p (.int .i64 0)])) [] true [] [1,3,4,6,8,9,10,13,14,15],
dA (wO (.store (some 4) 15 66)) [15,66] true [] [13,14,15],
dF (mV 16 71) [71]] [1,2,5,10,12,14,15,16,44,50,51,52])
(.seq (.seq (dr [dF (fA 72 2 none 15) [15],
dF (lD 73 none 72) [72],
dF (bN 74 .geq 73 (cI 0)) [73],
dF (mV 75 74) [74],
dF (gD 76 75 true (.mv 16)) [16,75],
dF (gD 77 75 true (.faddr 2 none 15)) [15,75],
dF (gD 78 75 true (.load none 77)) [77,75],
dF (gD 79 75 true (.idxs 76 78)) [76,78,75],
dF (gD 80 75 true (.bin .sub 79 (.c (.p (.int .u8 48))))) [79,75],
dF (gD 81 75 true (.conv (.i .i64) 80)) [80,75],
dF (gD 82 75 true (.faddr 3 none 15)) [15,75],
dF (gD 83 75 true (.load none 82)) [82,75],
dF (gD 84 75 true (.bin .eql 81 83)) [81,83,75],
dF (uO 85 (.pick 75 84 cF)) [75,84]] [1,2,5,10,12,14,16,44,50,51,52,85])
(.cond 85 (.exit 7)
.skip))
(.seq (rg [mV 86 16,
fA 87 1 none 14,
lD 88 none 87,
uO 89 (.idxs 86 88),
bN 90 .sub 89 (.c (.p (.int .u8 48))),
uO 91 (.conv (.i .i64) 90),
mV 17 91] [1,2,5,10,12,17,44,50,51,52])
(.seq (.seq (rg [mV 92 12,
mV 93 92,
gD 94 93 true (.mv 5),
gD 95 93 true (.mv 10),
gD 96 93 true (.look (none,[2]) false (AI 0) 94 95),
gD 97 93 true (.mv 17),
gD 98 93 true (.bin .neq 96 97),
uO 99 (.pick 93 98 cF)] [1,2,5,10,17,44,50,51,52,99])
(.cond 99 (rg [mV 17 (cI 3)] [1,2,5,10,17,44,50,51,52])
.skip))
q3))))))
q4)))
def dL:ACode:=z0t LX MX
def nV (C:Hd)(gl:GL)(q3 q4:ACode)(v1 v2 v5 v10 v12 v44 v50 v51 v52:AV)(h:bA)(x:Esc)(K:KT):Prop:=
 pK (jA .lss v52 v51) fun t1=>
 oA t1 (pK (tA (some 2) v50 v52 h) fun t2=>
 pK (eA (some 2) t2 h) fun t3=>
 alK [.p (.int .i64 0),.p (.int .i64 0)] h fun t4 h5 y6=>
 wK (OA (some 2) t4 t3 h5) fun t7 h8 y9=>
 pK (mA 0 none v2) fun t10=>
 pK (eA none t10 h8) fun t11=>
 pK (mA 0 none t4) fun t12=>
 pK (eA none t12 h8) fun t13=>
 pK (tA (some 2) t11 t13 h8) fun t14=>
 pK (mA 1 none t14) fun t15=>
 pK (eA none t15 h8) fun t16=>
 pK (mA 1 none t4) fun t17=>
 pK (eA none t17 h8) fun t18=>
 pK (tA (some 4) t16 t18 h8) fun t19=>
 pK (eA (some 4) t19 h8) fun t20=>
 pK (mA 0 none t4) fun t21=>
 pK (eA none t21 h8) fun t22=>
 pK (tA none v1 t22 h8) fun t23=>
 pK (eA none t23 h8) fun t24=>
 alK [.p (.int .i64 0),.p (.str []),.p (.int .i64 0),.p (.int .i64 0)] h8 fun t25 h26 y27=>
 (pK (eA none t10 h26) fun v=>(fun u (g1:bA) (y1:Esc)=>u=t11∧g1=h26∧y1=[]) v h26 [])∧((pK (eA none t12 h26) fun v=>(fun u (g1:bA) (y1:Esc)=>u=t13∧g1=h26∧y1=[]) v h26 [])∧((pK (tA (some 2) t11 t13 h26) fun v=>(fun u (g1:bA) (y1:Esc)=>u=t14∧g1=h26∧y1=[]) v h26 [])∧((pK (eA none t15 h26) fun v=>(fun u (g1:bA) (y1:Esc)=>u=t16∧g1=h26∧y1=[]) v h26 [])∧((pK (eA none t17 h26) fun v=>(fun u (g1:bA) (y1:Esc)=>u=t18∧g1=h26∧y1=[]) v h26 [])∧((pK (tA (some 4) t16 t18 h26) fun v=>(fun u (g1:bA) (y1:Esc)=>u=t19∧g1=h26∧y1=[]) v h26 [])∧((pK (eA (some 4) t19 h26) fun v=>(fun u (g1:bA) (y1:Esc)=>u=t20∧g1=h26∧y1=[]) v h26 [])∧((pK (eA none t21 h26) fun v=>(fun u (g1:bA) (y1:Esc)=>u=t22∧g1=h26∧y1=[]) v h26 [])∧((pK (tA none v1 t22 h26) fun v=>(fun u (g1:bA) (y1:Esc)=>u=t23∧g1=h26∧y1=[]) v h26 [])∧((pK (eA none t23 h26) fun v=>(fun u (g1:bA) (y1:Esc)=>u=t24∧g1=h26∧y1=[]) v h26 [])∧(wK (OA (some 4) t25 t20 h26) fun t28 h29 y30=>
 (pK (eA none t21 h29) fun v=>(fun u (g1:bA) (y1:Esc)=>u=t22∧g1=h29∧y1=[]) v h29 [])∧((pK (tA none v1 t22 h29) fun v=>(fun u (g1:bA) (y1:Esc)=>u=t23∧g1=h29∧y1=[]) v h29 [])∧((pK (eA none t23 h29) fun v=>(fun u (g1:bA) (y1:Esc)=>u=t24∧g1=h29∧y1=[]) v h29 [])∧(pK (mA 2 none t25) fun t31=>
 pK (eA none t31 h29) fun t32=>
 pK (jA .geq t32 (AI 0)) fun t33=>
 gM t33 true t24 h29 fun t34 h35 y36=>
 gP t33 true (mA 2 none t25) h35 fun t37 h38 y39=>
 gP t33 true (eA none t37 h38) h38 fun t40 h41 y42=>
 gP t33 true (YE t34 t40) h41 fun t43 h44 y45=>
 gP t33 true (jA .sub t43 (.p (.int .u8 48))) h44 fun t46 h47 y48=>
 gP t33 true (UD .i64 t46) h47 fun t49 h50 y51=>
 (h50=h47∧y51=[])∧(gP t33 true (mA 3 none t25) h50 fun t52 h53 y54=>
 gP t33 true (eA none t52 h53) h53 fun t55 h56 y57=>
 gP t33 true (jA .eql t49 t55) h56 fun t58 h59 y60=>
 pK (MA t33 t58 (AB false)) fun t61=>
 oA t61 (NW C gl q4 ⟨[(1,v1),(2,v2),(5,v5),(10,v10),(12,v12),(14,t4),(16,t24),(44,v44),(50,v50),(51,v51),(52,v52),(85,t61)],h59,(y60++(y57++(y54++(y51++(y48++(y45++(y42++(y39++(y36++(y30++(y27++(y9++(y6++x)))))))))))))⟩ K)
 (pK (mA 1 none t4) fun t62=>
 pK (eA none t62 h59) fun t63=>
 pK (YE t24 t63) fun t64=>
 pK (jA .sub t64 (.p (.int .u8 48))) fun t65=>
 pK (UD .i64 t65) fun t66=>
 gM v12 true v5 h59 fun t67 h68 y69=>
 gM v12 true v10 h68 fun t70 h71 y72=>
 gP v12 true (ZA (none,[2]) false (AI 0) t67 t70 h71) h71 fun t73 h74 y75=>
 gM v12 true t66 h74 fun t76 h77 y78=>
 gP v12 true (jA .neq t73 t76) h77 fun t79 h80 y81=>
 pK (MA v12 t79 (AB false)) fun t82=>
 oA t82 (NW C gl q3 ⟨[(1,v1),(2,v2),(5,v5),(10,v10),(17,(AI 3)),(44,v44),(50,v50),(51,v51),(52,v52)],h80,(y81++(y78++(y75++(y72++(y69++(y60++(y57++(y54++(y51++(y48++(y45++(y42++(y39++(y36++(y30++(y27++(y9++(y6++x))))))))))))))))))⟩ (wA 7 (QA C gl q4 K)))
 (NW C gl q3 ⟨[(1,v1),(2,v2),(5,v5),(10,v10),(17,t66),(44,v44),(50,v50),(51,v51),(52,v52),(99,t82)],h80,(y81++(y78++(y75++(y72++(y69++(y60++(y57++(y54++(y51++(y48++(y45++(y42++(y39++(y36++(y30++(y27++(y9++(y6++x))))))))))))))))))⟩ (wA 7 (QA C gl q4 K)))))))))))))))))))
 (K (.exit 6) ⟨[(1,v1),(2,v2),(5,v5),(10,v10),(12,v12),(44,v44),(50,v50),(51,v51),(52,v52),(53,t1)],h,x⟩)
theorem z9I {C gl q3 q4 e h x K}:NW C gl (z0t q3 q4) ⟨e,h,x⟩ K=nV C gl q3 q4 (aA e 1) (aA e 2) (aA e 5) (aA e 10) (aA e 12) (aA e 44) (aA e 50) (aA e 51) (aA e 52) h x K:=by kernel_rfl
theorem zfS {C gl e h x K}:NW C gl dL ⟨e,h,x⟩ K=nV C gl LX MX (aA e 1) (aA e 2) (aA e 5) (aA e 10) (aA e 12) (aA e 44) (aA e 50) (aA e 51) (aA e 52) h x K:=z9I
theorem zkL {C gl e h x K}:NW C gl (.loop (.scope dL)) ⟨e,h,x⟩ K=GA C gl (.scope dL) K [(1,aA e 1),(2,aA e 2),(5,aA e 5),(10,aA e 10),(12,aA e 12),(44,aA e 44),(50,aA e 50),(51,aA e 51),(52,aA e 52)] h x:=vB
def z0u (q5:ACode):ACode:=.pr [1,2,5,44] (.seq (rg [uO 45 (.mnext none [44]),
eX 46 45 0] [1,2,5,44,46])
(.seq (.cond 46 .skip
(.exit 4))
(.block 5 (.seq (rg [uO 47 (.mentry 44),
eX 48 47 0,
eX 49 47 1,
mV 10 48,
mV 11 49] [1,2,5,10,11,44])
(.seq (rg [mV 12 cF] [1,2,5,10,11,12,44])
(.seq (rg [mV 50 11,
lN 51 50,
mV 52 (cI 0)] [1,2,5,10,12,44,50,51,52])
(.block 6 (.loop (.scope q5)))))))))
def QN:ACode:=z0u dL
def BJ (C:Hd)(gl:GL)(q5:ACode)(v1 v2 v5 v44:AV)(h:bA)(x:Esc)(K:KT):Prop:=
 nxK v44 h fun t1 h2 y3=>
 pK (iC t1 0) fun t4=>
 oA t4 (wK (uB v44 h2) fun t5 h6 y7=>
 pK (iC t5 0) fun t8=>
 pK (iC t5 1) fun t9=>
 pK (xA t9) fun t10=>
 NW C gl (.loop (.scope q5)) ⟨[(1,v1),(2,v2),(5,v5),(10,t8),(12,(AB false)),(44,v44),(50,t9),(51,t10),(52,(AI 0))],h6,(y7++(y3++x))⟩ (wA 6 (wA 5 K)))
 (K (.exit 4) ⟨[(1,v1),(2,v2),(5,v5),(44,v44),(46,t4)],h2,(y3++x)⟩)
theorem z9J {C gl q5 e h x K}:NW C gl (z0u q5) ⟨e,h,x⟩ K=BJ C gl q5 (aA e 1) (aA e 2) (aA e 5) (aA e 44) h x K:=by kernel_rfl
theorem LQ {C gl e h x K}:NW C gl QN ⟨e,h,x⟩ K=BJ C gl dL (aA e 1) (aA e 2) (aA e 5) (aA e 44) h x K:=z9J
theorem zkM {C gl e h x K}:NW C gl (.loop (.scope QN)) ⟨e,h,x⟩ K=GA C gl (.scope QN) K [(1,aA e 1),(2,aA e 2),(5,aA e 5),(44,aA e 44)] h x:=vB
def NX:ACode:=.pr [5] (.seq (rg [mV 104 5,
mV 4 104] [4])
.ret)
def z3D (C:Hd)(gl:GL)(v5:AV)(h:bA)(x:Esc)(K:KT):Prop:=
 K .ret ⟨[(4,v5)],h,x⟩
theorem zfT {C gl e h x K}:NW C gl NX ⟨e,h,x⟩ K=z3D C gl (aA e 5) h x K:=by kernel_rfl
def z0v (q6 q7:ACode):ACode:=.pr [1,2,5] (.seq (.seq (rg [lD 42 (some 3) 2,
cL 43 sH [42,(cI 2)],
uO 44 (.mrange 43)] [1,2,5,44])
(.block 4 (.loop (.scope q6))))
q7)
def OX:ACode:=z0v QN NX
def oV (C:Hd)(gl:GL)(q6 q7:ACode)(v1 v2 v5:AV)(h:bA)(x:Esc)(K:KT):Prop:=
 pK (eA (some 3) v2 h) fun t1=>
 C sH [t1,(AI 2)] h fun t2 h3 y4=>
 wK (wB t2 h3) fun t5 h6 y7=>
 NW C gl (.loop (.scope q6)) ⟨[(1,v1),(2,v2),(5,v5),(44,t5)],h6,(y7++(y4++x))⟩ (wA 4 (QA C gl q7 K))
theorem z9K {C gl q6 q7 e h x K}:NW C gl (z0v q6 q7) ⟨e,h,x⟩ K=oV C gl q6 q7 (aA e 1) (aA e 2) (aA e 5) h x K:=by kernel_rfl
theorem zfU {C gl e h x K}:NW C gl OX ⟨e,h,x⟩ K=oV C gl QN NX (aA e 1) (aA e 2) (aA e 5) h x K:=z9K
def z0w (q2 q8:ACode):ACode:=.pr [1,2,5] (.seq (.seq (rg [fA 29 2 none 2,
lD 30 none 29,
lN 31 30,
mV 32 (cI 0)] [1,2,5,30,31,32])
(.block 2 (.loop (.scope q2))))
q8)
def AR:ACode:=z0w ON OX
def pV (C:Hd)(gl:GL)(q2 q8:ACode)(v1 v2 v5:AV)(h:bA)(x:Esc)(K:KT):Prop:=
 pK (mA 2 none v2) fun t1=>
 pK (eA none t1 h) fun t2=>
 pK (xA t2) fun t3=>
 NW C gl (.loop (.scope q2)) ⟨[(1,v1),(2,v2),(5,v5),(30,t2),(31,t3),(32,(AI 0))],h,x⟩ (wA 2 (QA C gl q8 K))
theorem z9L {C gl q2 q8 e h x K}:NW C gl (z0w q2 q8) ⟨e,h,x⟩ K=pV C gl q2 q8 (aA e 1) (aA e 2) (aA e 5) h x K:=by kernel_rfl
theorem zfV {C gl e h x K}:NW C gl AR ⟨e,h,x⟩ K=pV C gl ON OX (aA e 1) (aA e 2) (aA e 5) h x K:=z9L
def z0s (q1 q9:ACode):ACode:=(.det (.seq (rg [uO 2 (.box 0),
mV 4 (.c (.nilm))] [1,2])
(.seq (rg [uO 18 (.mkmap),
mV 5 18] [1,2,5])
(.seq (.seq (rg [lD 19 (some 3) 2,
cL 20 zE [19],
lN 21 20,
mV 22 (cI 0)] [1,2,5,20,21,22])
(.block 0 (.loop q1)))
q9))))
def YO:AFun:=⟨2,[.t 4],z0s bL AR,false,false⟩
def PP (C:Hd)(gl:GL)(q1 q9:ACode)(v0 v1:AV)(h:bA)(x:Esc)(K:KT):Prop:=
 wK (dB v0 h) fun t1 h2 y3=>
 mmK h2 fun t4 h5 y6=>
 pK (eA (some 3) t1 h5) fun t7=>
 C zE [t7] h5 fun t8 h9 y10=>
 pK (xA t8) fun t11=>
 NW C gl (.loop q1) ⟨[(1,v1),(2,t1),(5,t4),(20,t8),(21,t11),(22,(AI 0))],h9,(y10++(y6++(y3++x)))⟩ (wA 0 (QA C gl q9 K))
theorem z9H {C gl q1 q9 v0 v1 h x K}:NW C gl (z0s q1 q9) ⟨enter [v0,v1],h,x⟩ K=PP C gl q1 q9 v0 v1 h x K:=by kernel_rfl
theorem zfN {C gl v0 v1 h x K}:NW C gl YO.body ⟨enter [v0,v1],h,x⟩ K=PP C gl bL AR v0 v1 h x K:=z9H
def eL:ACode:=.pr [3,7,8,9] (.seq (rg [bN 10 .lss 9 8] [3,7,8,9,10])
(.seq (.cond 10 .skip
(.exit 0))
(.seq (.block 1 (.seq (rg [iA 11 (some 3) 7 9,
lD 12 (some 3) 11,
uO 5 (.alloc [.p (.str []),.p (.str []),.p (.str [])]),
wO (.store (some 3) 5 12)] [3,5,7,8,9])
(rg [mV 13 3,
fA 14 0 none 5,
lD 15 none 14,
uO 16 (.bsl false none 1 (.str []) [(0,15)]),
uO 17 (.app none 13 16),
mV 3 17] [3,7,8,9])))
(rg [bN 18 .add 9 (cI 1),
mV 9 18] [3,7,8,9]))))
def z3E (C:Hd)(gl:GL)(v3 v7 v8 v9:AV)(h:bA)(x:Esc)(K:KT):Prop:=
 pK (jA .lss v9 v8) fun t1=>
 oA t1 (pK (tA (some 3) v7 v9 h) fun t2=>
 pK (eA (some 3) t2 h) fun t3=>
 alK [.p (.str []),.p (.str []),.p (.str [])] h fun t4 h5 y6=>
 wK (OA (some 3) t4 t3 h5) fun t7 h8 y9=>
 pK (mA 0 none t4) fun t10=>
 pK (eA none t10 h8) fun t11=>
 wK (jB false none 1 (.str []) [(0,t11)] h8) fun t12 h13 y14=>
 wK (LC none v3 t12 h13) fun t15 h16 y17=>
 pK (jA .add v9 (AI 1)) fun t18=>
 K .normal ⟨[(3,t15),(7,v7),(8,v8),(9,t18)],h16,(y17++(y14++(y9++(y6++x))))⟩)
 (K (.exit 0) ⟨[(3,v3),(7,v7),(8,v8),(9,v9),(10,t1)],h,x⟩)
theorem zfX {C gl e h x K}:NW C gl eL ⟨e,h,x⟩ K=z3E C gl (aA e 3) (aA e 7) (aA e 8) (aA e 9) h x K:=by kernel_rfl
theorem zkN {C gl e h x K}:NW C gl (.loop (.scope eL)) ⟨e,h,x⟩ K=GA C gl (.scope eL) K [(3,aA e 3),(7,aA e 7),(8,aA e 8),(9,aA e 9)] h x:=vB
def BR:ACode:=.pr [3] (.seq (rg [mV 19 3,
cL 20 bG [19],
mV 2 20] [2])
.ret)
def z3F (C:Hd)(gl:GL)(v3:AV)(h:bA)(x:Esc)(K:KT):Prop:=
 C bG [v3] h fun t1 h2 y3=>
 K .ret ⟨[(2,t1)],h2,(y3++x)⟩
theorem zfY {C gl e h x K}:NW C gl BR ⟨e,h,x⟩ K=z3F C gl (aA e 3) h x K:=by kernel_rfl
def z0x (q1 q2:ACode):ACode:=(.seq (rg [uO 1 (.box 0),
mV 2 (.c (.p (.sl none [])))] [1])
(.seq (rg [uO 3 (.new0 none)] [1,3])
(.seq (.seq (rg [fA 6 1 none 1,
lD 7 none 6,
lN 8 7,
mV 9 (cI 0)] [3,7,8,9])
(.block 0 (.loop (.scope q1))))
q2)))
def ZO:AFun:=⟨1,[.t 2],z0x eL BR,false,true⟩
def QP (C:Hd)(gl:GL)(q1 q2:ACode)(v0:AV)(h:bA)(x:Esc)(K:KT):Prop:=
 wK (dB v0 h) fun t1 h2 y3=>
 nwK none h2 fun t4 h5 y6=>
 pK (mA 1 none t1) fun t7=>
 pK (eA none t7 h5) fun t8=>
 pK (xA t8) fun t9=>
 NW C gl (.loop (.scope q1)) ⟨[(3,t4),(7,t8),(8,t9),(9,(AI 0))],h5,(y6++(y3++x))⟩ (wA 0 (QA C gl q2 K))
theorem z9M {C gl q1 q2 v0 h x K}:NW C gl (z0x q1 q2) ⟨enter [v0],h,x⟩ K=QP C gl q1 q2 v0 h x K:=by kernel_rfl
theorem zfW {C gl v0 h x K}:NW C gl ZO.body ⟨enter [v0],h,x⟩ K=QP C gl eL BR v0 h x K:=z9M
def fL:ACode:=.pr [3,8,9,10] (.seq (rg [bN 11 .lss 10 9] [3,8,9,10,11])
(.seq (.cond 11 .skip
(.exit 0))
(.seq (.block 1 (.seq (rg [iA 12 (some 3) 8 10,
lD 13 (some 3) 12,
uO 5 (.alloc [.p (.str []),.p (.str []),.p (.str [])]),
wO (.store (some 3) 5 13)] [3,5,8,9,10])
(rg [mV 14 3,
fA 15 1 none 5,
lD 16 none 15,
fA 17 2 none 5,
lD 18 none 17,
uO 19 (.build [.p (.str []),.p (.str [])] [(0,1,16),(1,1,18)]),
fA 20 0 none 5,
lD 21 none 20,
wO (.mupd ((some 2),[2,2]) 14 19 21)] [3,8,9,10])))
(rg [bN 22 .add 10 (cI 1),
mV 10 22] [3,8,9,10]))))
def z3G (C:Hd)(gl:GL)(v3 v8 v9 v10:AV)(h:bA)(x:Esc)(K:KT):Prop:=
 pK (jA .lss v10 v9) fun t1=>
 oA t1 (pK (tA (some 3) v8 v10 h) fun t2=>
 pK (eA (some 3) t2 h) fun t3=>
 alK [.p (.str []),.p (.str []),.p (.str [])] h fun t4 h5 y6=>
 wK (OA (some 3) t4 t3 h5) fun t7 h8 y9=>
 pK (mA 1 none t4) fun t10=>
 pK (eA none t10 h8) fun t11=>
 pK (mA 2 none t4) fun t12=>
 pK (eA none t12 h8) fun t13=>
 pK (BC [.p (.str []),.p (.str [])] [(0,1,t11),(1,1,t13)]) fun t14=>
 pK (mA 0 none t4) fun t15=>
 pK (eA none t15 h8) fun t16=>
 wK (kB ((some 2),[2,2]) v3 t14 t16 h8) fun t17 h18 y19=>
 pK (jA .add v10 (AI 1)) fun t20=>
 K .normal ⟨[(3,v3),(8,v8),(9,v9),(10,t20)],h18,(y19++(y9++(y6++x)))⟩)
 (K (.exit 0) ⟨[(3,v3),(8,v8),(9,v9),(10,v10),(11,t1)],h,x⟩)
theorem zga {C gl e h x K}:NW C gl fL ⟨e,h,x⟩ K=z3G C gl (aA e 3) (aA e 8) (aA e 9) (aA e 10) h x K:=by kernel_rfl
theorem zkO {C gl e h x K}:NW C gl (.loop (.scope fL)) ⟨e,h,x⟩ K=GA C gl (.scope fL) K [(3,aA e 3),(8,aA e 8),(9,aA e 9),(10,aA e 10)] h x:=vB
def CR:ACode:=.pr [3] (.seq (rg [mV 23 3,
mV 2 23] [2])
.ret)
def z3H (C:Hd)(gl:GL)(v3:AV)(h:bA)(x:Esc)(K:KT):Prop:=
 K .ret ⟨[(2,v3)],h,x⟩
theorem zgb {C gl e h x K}:NW C gl CR ⟨e,h,x⟩ K=z3H C gl (aA e 3) h x K:=by kernel_rfl
def z0y (q1 q2:ACode):ACode:=(.seq (rg [uO 1 (.box 0),
mV 2 (.c (.nilm))] [1])
(.seq (rg [uO 6 (.mkmap),
mV 3 6] [1,3])
(.seq (.seq (rg [fA 7 1 none 1,
lD 8 none 7,
lN 9 8,
mV 10 (cI 0)] [3,8,9,10])
(.block 0 (.loop (.scope q1))))
q2)))
def aP:AFun:=⟨1,[.t 2],z0y fL CR,false,false⟩
def RP (C:Hd)(gl:GL)(q1 q2:ACode)(v0:AV)(h:bA)(x:Esc)(K:KT):Prop:=
 wK (dB v0 h) fun t1 h2 y3=>
 mmK h2 fun t4 h5 y6=>
 pK (mA 1 none t1) fun t7=>
 pK (eA none t7 h5) fun t8=>
 pK (xA t8) fun t9=>
 NW C gl (.loop (.scope q1)) ⟨[(3,t4),(8,t8),(9,t9),(10,(AI 0))],h5,(y6++(y3++x))⟩ (wA 0 (QA C gl q2 K))
theorem z9N {C gl q1 q2 v0 h x K}:NW C gl (z0y q1 q2) ⟨enter [v0],h,x⟩ K=RP C gl q1 q2 v0 h x K:=by kernel_rfl
theorem zfZ {C gl v0 h x K}:NW C gl aP.body ⟨enter [v0],h,x⟩ K=RP C gl fL CR v0 h x K:=z9N
def AY:ACode:=.pr [0,1,5,6] (rg [mV 20 6,
bN 21 .add 20 (cI 1),
mV 6 21] [0,1,5,6])
def z4M (C:Hd)(gl:GL)(v0 v1 v5 v6:AV)(h:bA)(x:Esc)(K:KT):Prop:=
 pK (jA .add v6 (AI 1)) fun t1=>
 K .normal ⟨[(0,v0),(1,v1),(5,v5),(6,t1)],h,x⟩
theorem ziz {C gl e h x K}:NW C gl AY ⟨e,h,x⟩ K=z4M C gl (aA e 0) (aA e 1) (aA e 5) (aA e 6) h x K:=by kernel_rfl
def z1z (q1:ACode):ACode:=.pr [0,1,5,6] (.seq (.seq (rg [mV 16 6,
mV 17 0,
lN 18 17,
bN 19 .lss 16 18] [0,1,5,6,19])
(.cond 19 .skip
(.exit 0)))
(.seq (.block 1 (.seq (rg [mV 22 0,
mV 23 6,
iA 24 none 22 23,
lD 25 none 24,
mV 7 25] [0,1,5,6,7])
(.seq (rg [mV 26 1,
mV 27 7,
uO 28 (.callv 26 [27]),
uO 29 (.un .not 28)] [0,1,5,6,7,29])
(.cond 29 (.seq (rg [mV 30 0,
mV 31 5,
mV 32 7,
iA 33 none 30 31,
wO (.store none 33 32)] [0,1,5,6])
(rg [mV 34 5,
bN 35 .add 34 (cI 1),
mV 5 35] [0,1,5,6]))
.skip))))
q1))
def ML:ACode:=z1z AY
def nW (C:Hd)(gl:GL)(q1:ACode)(v0 v1 v5 v6:AV)(h:bA)(x:Esc)(K:KT):Prop:=
 pK (xA v0) fun t1=>
 pK (jA .lss v6 t1) fun t2=>
 oA t2 (pK (tA none v0 v6 h) fun t3=>
 pK (eA none t3 h) fun t4=>
 lF C v1 [t4] h fun t5 h6 y7=>
 pK (oUn .not t5) fun t8=>
 oA t8 (pK (tA none v0 v5 h6) fun t9=>
 wK (OA none t9 t4 h6) fun t10 h11 y12=>
 pK (jA .add v5 (AI 1)) fun t13=>
 NW C gl q1 ⟨[(0,v0),(1,v1),(5,t13),(6,v6)],h11,(y12++(y7++x))⟩ K)
 (NW C gl q1 ⟨[(0,v0),(1,v1),(5,v5),(6,v6),(7,t4),(29,t8)],h6,(y7++x)⟩ K))
 (K (.exit 0) ⟨[(0,v0),(1,v1),(5,v5),(6,v6),(19,t2)],h,x⟩)
theorem zaO {C gl q1 e h x K}:NW C gl (z1z q1) ⟨e,h,x⟩ K=nW C gl q1 (aA e 0) (aA e 1) (aA e 5) (aA e 6) h x K:=by kernel_rfl
theorem zi0 {C gl e h x K}:NW C gl ML ⟨e,h,x⟩ K=nW C gl AY (aA e 0) (aA e 1) (aA e 5) (aA e 6) h x K:=zaO
theorem zl0 {C gl e h x K}:NW C gl (.loop ML) ⟨e,h,x⟩ K=GA C gl ML K [(0,aA e 0),(1,aA e 1),(5,aA e 5),(6,aA e 6)] h x:=jC
def iS:ACode:=.pr [0,5] (.seq (rg [mV 36 0,
mV 37 5,
uO 38 (.slice none 36 (some 37) none none),
wO (.clr none (.str []) 38)] [0,5])
(.seq (rg [mV 39 0,
mV 40 5,
uO 41 (.slice none 39 none (some 40) none),
mV 4 41] [4])
.ret))
def z4N (C:Hd)(gl:GL)(v0 v5:AV)(h:bA)(x:Esc)(K:KT):Prop:=
 pK (GE none v0 (some v5) none none h) fun t1=>
 wK (oClr none (.str []) t1 h) fun t2 h3 y4=>
 pK (GE none v0 none (some v5) none h3) fun t5=>
 K .ret ⟨[(4,t5)],h3,(y4++x)⟩
theorem zi1 {C gl e h x K}:NW C gl iS ⟨e,h,x⟩ K=z4N C gl (aA e 0) (aA e 5) h x K:=by kernel_rfl
def z1y (q2 q3:ACode):ACode:=(.seq (rg [mV 4 (.c (.p (.sl none [])))] [0,1])
(.seq (rg [mV 8 0,
mV 9 1,
cL 10 vK [8,9],
mV 5 10] [0,1,5])
(.seq (.seq (rg [mV 11 5,
bN 12 .eql 11 (cI (-1))] [0,1,5,12])
(.cond 12 (.seq (rg [mV 13 0,
mV 4 13] [4])
.ret)
.skip))
(.seq (.seq (rg [mV 14 5,
bN 15 .add 14 (cI 1),
mV 6 15] [0,1,5,6])
(.block 0 (.loop q2)))
q3))))
def rU:AFun:=⟨2,[.t 4],z1y ML iS,true,false⟩
def xQ (C:Hd)(gl:GL)(q2 q3:ACode)(v0 v1:AV)(h:bA)(x:Esc)(K:KT):Prop:=
 C vK [v0,v1] h fun t1 h2 y3=>
 pK (jA .eql t1 (AI (-1))) fun t4=>
 oA t4 (K .ret ⟨[(4,v0)],h2,(y3++x)⟩)
 (pK (jA .add t1 (AI 1)) fun t5=>
 NW C gl (.loop q2) ⟨[(0,v0),(1,v1),(5,t1),(6,t5)],h2,(y3++x)⟩ (wA 0 (QA C gl q3 K)))
theorem zaN {C gl q2 q3 v0 v1 h x K}:NW C gl (z1y q2 q3) ⟨enter [v0,v1],h,x⟩ K=xQ C gl q2 q3 v0 v1 h x K:=by kernel_rfl
theorem ziy {C gl v0 v1 h x K}:NW C gl rU.body ⟨enter [v0,v1],h,x⟩ K=xQ C gl ML iS v0 v1 h x K:=zaN
def zbt:ACode:=(.seq (rg [mV 3 cF] [0,1])
(.seq (rg [lD 4 none 1,
mV 5 0,
uO 6 (.look (none,[2]) false (AI 0) 4 5),
bN 7 .neq 6 (cI 3),
mV 3 7] [3])
.ret))
def oT:AFun:=⟨2,[.t 3],zbt,false,false⟩
def iV (C:Hd)(gl:GL)(v0 v1:AV)(h:bA)(x:Esc)(K:KT):Prop:=
 pK (eA none v1 h) fun t1=>
 pK (ZA (none,[2]) false (AI 0) t1 v0 h) fun t2=>
 pK (jA .neq t2 (AI 3)) fun t3=>
 K .ret ⟨[(3,t3)],h,x⟩
theorem zfx {C gl v0 v1 h x K}:NW C gl oT.body ⟨enter [v0,v1],h,x⟩ K=iV C gl v0 v1 h x K:=by kernel_rfl
def UK:ACode:=.pr [1,15,16,17] (.seq (rg [bN 18 .lss 17 16] [1,15,16,17,18])
(.seq (.cond 18 .skip
(.exit 0))
(.seq (.block 1 (.seq (rg [mV 19 17,
iA 20 (some 2) 15 17,
lD 21 (some 2) 20,
uO 4 (.alloc [.p (.str []),.sl0 (some 4)]),
mV 3 19,
wO (.store (some 2) 4 21)] [1,3,4,15,16,17])
(.seq (.block 2 (.seq (rg [fA 23 0 none 4,
lD 24 none 23,
cL 25 qF [24],
uO 26 (.un .not 25),
mV 22 26] [1,3,4,15,16,17,22])
(.cond 22 (.seq (rg [mV 2 (cI 5)] [2])
.ret)
(.seq (dr [dF (mV 28 3) [3],
dF (bN 29 .gtr 28 (cI 0)) [28],
dF (mV 30 29) [29],
dF (gD 31 30 true (.faddr 0 none 4)) [4,30],
dF (gD 32 30 true (.load none 31)) [31,30],
dF (gD 33 30 true (.faddr 0 none 1)) [1,30],
dF (gD 34 30 true (.load none 33)) [33,30],
dF (gD 35 30 true (.mv 3)) [3,30],
dF (gD 36 30 true (.bin .sub 35 (cI 1))) [35,30],
dF (gD 37 30 true (.iaddr (some 2) 34 36)) [34,36,30],
dF (gD 38 30 true (.faddr 0 none 37)) [37,30],
dF (gD 39 30 true (.load none 38)) [38,30],
dF (gD 40 30 true (.bin .leq 32 39)) [32,39,30],
dF (uO 41 (.pick 30 40 cF)) [30,40],
dF (mV 27 41) [41]] [1,4,15,16,17,27])
(.cond 27 (.seq (rg [mV 2 (cI 7)] [2])
.ret)
.skip)))))
(.seq (rg [lD 42 (some 2) 4,
cL 43 pI [42],
mV 5 43] [1,5,15,16,17])
(.seq (rg [mV 44 5,
bN 45 .neq 44 (cI 0)] [1,5,15,16,17,45])
(.cond 45 (.seq (rg [mV 46 5,
mV 2 46] [2])
.ret)
.skip))))))
(rg [bN 47 .add 17 (cI 1),
mV 17 47] [1,15,16,17]))))
def z3s (C:Hd)(gl:GL)(v1 v15 v16 v17:AV)(h:bA)(x:Esc)(K:KT):Prop:=
 pK (jA .lss v17 v16) fun t1=>
 oA t1 (pK (tA (some 2) v15 v17 h) fun t2=>
 pK (eA (some 2) t2 h) fun t3=>
 alK [.p (.str []),.sl0 (some 4)] h fun t4 h5 y6=>
 wK (OA (some 2) t4 t3 h5) fun t7 h8 y9=>
 pK (mA 0 none t4) fun t10=>
 pK (eA none t10 h8) fun t11=>
 C qF [t11] h8 fun t12 h13 y14=>
 pK (oUn .not t12) fun t15=>
 oA t15 (K .ret ⟨[(2,(AI 5))],h13,(y14++(y9++(y6++x)))⟩)
 (pK (jA .gtr v17 (AI 0)) fun t16=>
 gP t16 true (mA 0 none t4) h13 fun t17 h18 y19=>
 gP t16 true (eA none t17 h18) h18 fun t20 h21 y22=>
 gP t16 true (mA 0 none v1) h21 fun t23 h24 y25=>
 gP t16 true (eA none t23 h24) h24 fun t26 h27 y28=>
 gM t16 true v17 h27 fun t29 h30 y31=>
 gP t16 true (jA .sub t29 (AI 1)) h30 fun t32 h33 y34=>
 gP t16 true (tA (some 2) t26 t32 h33) h33 fun t35 h36 y37=>
 gP t16 true (mA 0 none t35) h36 fun t38 h39 y40=>
 gP t16 true (eA none t38 h39) h39 fun t41 h42 y43=>
 gP t16 true (jA .leq t20 t41) h42 fun t44 h45 y46=>
 pK (MA t16 t44 (AB false)) fun t47=>
 oA t47 (K .ret ⟨[(2,(AI 7))],h45,(y46++(y43++(y40++(y37++(y34++(y31++(y28++(y25++(y22++(y19++(y14++(y9++(y6++x)))))))))))))⟩)
 (pK (eA (some 2) t4 h45) fun t48=>
 C pI [t48] h45 fun t49 h50 y51=>
 pK (jA .neq t49 (AI 0)) fun t52=>
 oA t52 (K .ret ⟨[(2,t49)],h50,(y51++(y46++(y43++(y40++(y37++(y34++(y31++(y28++(y25++(y22++(y19++(y14++(y9++(y6++x))))))))))))))⟩)
 (pK (jA .add v17 (AI 1)) fun t53=>
 K .normal ⟨[(1,v1),(15,v15),(16,v16),(17,t53)],h50,(y51++(y46++(y43++(y40++(y37++(y34++(y31++(y28++(y25++(y22++(y19++(y14++(y9++(y6++x))))))))))))))⟩))))
 (K (.exit 0) ⟨[(1,v1),(15,v15),(16,v16),(17,v17),(18,t1)],h,x⟩)
theorem zft {C gl e h x K}:NW C gl UK ⟨e,h,x⟩ K=z3s C gl (aA e 1) (aA e 15) (aA e 16) (aA e 17) h x K:=by kernel_rfl
theorem zk9 {C gl e h x K}:NW C gl (.loop (.scope UK)) ⟨e,h,x⟩ K=GA C gl (.scope UK) K [(1,aA e 1),(15,aA e 15),(16,aA e 16),(17,aA e 17)] h x:=vB
def GN:ACode:=.pr [1,7,59,60,61] (.seq (rg [bN 62 .lss 61 60] [1,7,59,60,61,62])
(.seq (.cond 62 .skip
(.exit 3))
(.seq (.block 4 (.seq (rg [mV 63 61,
iA 64 (some 2) 59 61,
lD 65 (some 2) 64,
uO 9 (.alloc [.p (.str []),.p (.int .i64 0)]),
mV 8 63,
wO (.store (some 2) 9 65)] [1,7,8,9,59,60,61])
(.block 5 (.seq (rg [mV 67 7,
fA 68 0 none 9,
lD 69 none 68,
cL 70 DG [67,69],
uO 71 (.un .not 70),
mV 66 71] [1,7,8,9,59,60,61,66])
(.cond 66 (.seq (rg [mV 2 (cI 8)] [2])
.ret)
(.seq (rg [fA 73 1 none 9,
lD 74 none 73,
cL 75 kE [74,(cI 0),(cI 1)],
mV 72 75] [1,7,8,9,59,60,61,72])
(.cond 72 (.seq (rg [mV 2 (cI 1)] [2])
.ret)
(.seq (dr [dF (mV 77 8) [8],
dF (bN 78 .gtr 77 (cI 0)) [77],
dF (mV 79 78) [78],
dF (gD 80 79 true (.faddr 0 none 9)) [9,79],
dF (gD 81 79 true (.load none 80)) [80,79],
dF (gD 82 79 true (.faddr 2 none 1)) [1,79],
dF (gD 83 79 true (.load none 82)) [82,79],
dF (gD 84 79 true (.mv 8)) [8,79],
dF (gD 85 79 true (.bin .sub 84 (cI 1))) [84,79],
dF (gD 86 79 true (.iaddr (some 2) 83 85)) [83,85,79],
dF (gD 87 79 true (.faddr 0 none 86)) [86,79],
dF (gD 88 79 true (.load none 87)) [87,79],
dF (gD 89 79 true (.bin .leq 81 88)) [81,88,79],
dF (uO 90 (.pick 79 89 cF)) [79,89],
dF (mV 76 90) [90]] [1,7,59,60,61,76])
(.cond 76 (.seq (rg [mV 2 (cI 7)] [2])
.ret)
.skip)))))))))
(rg [bN 91 .add 61 (cI 1),
mV 61 91] [1,7,59,60,61]))))
def z3t (C:Hd)(gl:GL)(v1 v7 v59 v60 v61:AV)(h:bA)(x:Esc)(K:KT):Prop:=
 pK (jA .lss v61 v60) fun t1=>
 oA t1 (pK (tA (some 2) v59 v61 h) fun t2=>
 pK (eA (some 2) t2 h) fun t3=>
 alK [.p (.str []),.p (.int .i64 0)] h fun t4 h5 y6=>
 wK (OA (some 2) t4 t3 h5) fun t7 h8 y9=>
 pK (mA 0 none t4) fun t10=>
 pK (eA none t10 h8) fun t11=>
 C DG [v7,t11] h8 fun t12 h13 y14=>
 pK (oUn .not t12) fun t15=>
 oA t15 (K .ret ⟨[(2,(AI 8))],h13,(y14++(y9++(y6++x)))⟩)
 (pK (mA 1 none t4) fun t16=>
 pK (eA none t16 h13) fun t17=>
 C kE [t17,(AI 0),(AI 1)] h13 fun t18 h19 y20=>
 oA t18 (K .ret ⟨[(2,(AI 1))],h19,(y20++(y14++(y9++(y6++x))))⟩)
 (pK (jA .gtr v61 (AI 0)) fun t21=>
 gP t21 true (mA 0 none t4) h19 fun t22 h23 y24=>
 gP t21 true (eA none t22 h23) h23 fun t25 h26 y27=>
 gP t21 true (mA 2 none v1) h26 fun t28 h29 y30=>
 gP t21 true (eA none t28 h29) h29 fun t31 h32 y33=>
 gM t21 true v61 h32 fun t34 h35 y36=>
 gP t21 true (jA .sub t34 (AI 1)) h35 fun t37 h38 y39=>
 gP t21 true (tA (some 2) t31 t37 h38) h38 fun t40 h41 y42=>
 gP t21 true (mA 0 none t40) h41 fun t43 h44 y45=>
 gP t21 true (eA none t43 h44) h44 fun t46 h47 y48=>
 gP t21 true (jA .leq t25 t46) h47 fun t49 h50 y51=>
 pK (MA t21 t49 (AB false)) fun t52=>
 oA t52 (K .ret ⟨[(2,(AI 7))],h50,(y51++(y48++(y45++(y42++(y39++(y36++(y33++(y30++(y27++(y24++(y20++(y14++(y9++(y6++x))))))))))))))⟩)
 (pK (jA .add v61 (AI 1)) fun t53=>
 K .normal ⟨[(1,v1),(7,v7),(59,v59),(60,v60),(61,t53)],h50,(y51++(y48++(y45++(y42++(y39++(y36++(y33++(y30++(y27++(y24++(y20++(y14++(y9++(y6++x))))))))))))))⟩))))
 (K (.exit 3) ⟨[(1,v1),(7,v7),(59,v59),(60,v60),(61,v61),(62,t1)],h,x⟩)
theorem zfu {C gl e h x K}:NW C gl GN ⟨e,h,x⟩ K=z3t C gl (aA e 1) (aA e 7) (aA e 59) (aA e 60) (aA e 61) h x K:=by kernel_rfl
theorem zkA {C gl e h x K}:NW C gl (.loop (.scope GN)) ⟨e,h,x⟩ K=GA C gl (.scope GN) K [(1,aA e 1),(7,aA e 7),(59,aA e 59),(60,aA e 60),(61,aA e 61)] h x:=vB
def FX:ACode:=.pr [] (.seq (rg [mV 2 (cI 0)] [2])
.ret)
def z3u (C:Hd)(gl:GL)(h:bA)(x:Esc)(K:KT):Prop:=
 K .ret ⟨[(2,(AI 0))],h,x⟩
theorem zfv {C gl e h x K}:NW C gl FX ⟨e,h,x⟩ K=z3u C gl h x K:=by kernel_rfl
def z0i (q2 q3:ACode):ACode:=.pr [1] (.seq (.seq (rg [lD 48 (some 3) 1,
cL 49 rI [48],
mV 6 49] [1,6])
(.seq (rg [mV 50 6,
bN 51 .neq 50 (cI 0)] [1,6,51])
(.cond 51 (.seq (rg [mV 52 6,
mV 2 52] [2])
.ret)
.skip)))
(.seq (rg [lD 53 (some 3) 1,
cL 54 zE [53],
mV 7 54] [1,7])
(.seq (.seq (rg [mV 55 7,
lN 56 55,
bN 57 .gtr 56 (cI 100)] [1,7,57])
(.cond 57 (.seq (rg [mV 2 (cI 2)] [2])
.ret)
.skip))
(.seq (.seq (rg [fA 58 2 none 1,
lD 59 none 58,
lN 60 59,
mV 61 (cI 0)] [1,7,59,60,61])
(.block 3 (.loop (.scope q2))))
q3))))
def HN:ACode:=z0i GN FX
def zJ (C:Hd)(gl:GL)(q2 q3:ACode)(v1:AV)(h:bA)(x:Esc)(K:KT):Prop:=
 pK (eA (some 3) v1 h) fun t1=>
 C rI [t1] h fun t2 h3 y4=>
 pK (jA .neq t2 (AI 0)) fun t5=>
 oA t5 (K .ret ⟨[(2,t2)],h3,(y4++x)⟩)
 (pK (eA (some 3) v1 h3) fun t6=>
 C zE [t6] h3 fun t7 h8 y9=>
 pK (xA t7) fun t10=>
 pK (jA .gtr t10 (AI 100)) fun t11=>
 oA t11 (K .ret ⟨[(2,(AI 2))],h8,(y9++(y4++x))⟩)
 (pK (mA 2 none v1) fun t12=>
 pK (eA none t12 h8) fun t13=>
 pK (xA t13) fun t14=>
 NW C gl (.loop (.scope q2)) ⟨[(1,v1),(7,t7),(59,t13),(60,t14),(61,(AI 0))],h8,(y9++(y4++x))⟩ (wA 3 (QA C gl q3 K))))
theorem z97 {C gl q2 q3 e h x K}:NW C gl (z0i q2 q3) ⟨e,h,x⟩ K=zJ C gl q2 q3 (aA e 1) h x K:=by kernel_rfl
theorem BW {C gl e h x K}:NW C gl HN ⟨e,h,x⟩ K=zJ C gl GN FX (aA e 1) h x K:=z97
def z0h (q1 q4:ACode):ACode:=(.seq (rg [uO 1 (.box 0),
mV 2 (cI 0)] [1])
(.seq (.seq (rg [fA 10 0 none 1,
lD 11 none 10,
lN 12 11,
bN 13 .gtr 12 (cI 40)] [1,13])
(.cond 13 (.seq (rg [mV 2 (cI 2)] [2])
.ret)
.skip))
(.seq (.seq (rg [fA 14 0 none 1,
lD 15 none 14,
lN 16 15,
mV 17 (cI 0)] [1,15,16,17])
(.block 0 (.loop (.scope q1))))
q4)))
def LO:AFun:=⟨1,[.t 2],z0h UK HN,false,false⟩
def GM (C:Hd)(gl:GL)(q1 q4:ACode)(v0:AV)(h:bA)(x:Esc)(K:KT):Prop:=
 wK (dB v0 h) fun t1 h2 y3=>
 pK (mA 0 none t1) fun t4=>
 pK (eA none t4 h2) fun t5=>
 pK (xA t5) fun t6=>
 pK (jA .gtr t6 (AI 40)) fun t7=>
 oA t7 (K .ret ⟨[(2,(AI 2))],h2,(y3++x)⟩)
 (pK (mA 0 none t1) fun t8=>
 pK (eA none t8 h2) fun t9=>
 pK (xA t9) fun t10=>
 NW C gl (.loop (.scope q1)) ⟨[(1,t1),(15,t9),(16,t10),(17,(AI 0))],h2,(y3++x)⟩ (wA 0 (QA C gl q4 K)))
theorem z96 {C gl q1 q4 v0 h x K}:NW C gl (z0h q1 q4) ⟨enter [v0],h,x⟩ K=GM C gl q1 q4 v0 h x K:=by kernel_rfl
theorem zfs {C gl v0 h x K}:NW C gl LO.body ⟨enter [v0],h,x⟩ K=GM C gl UK HN v0 h x K:=z96
def PX:ACode:=.pr [1,3,4,15,16,17] (rg [bN 39 .add 17 (cI 1),
mV 17 39] [1,3,4,15,16,17])
def z3I (C:Hd)(gl:GL)(v1 v3 v4 v15 v16 v17:AV)(h:bA)(x:Esc)(K:KT):Prop:=
 pK (jA .add v17 (AI 1)) fun t1=>
 K .normal ⟨[(1,v1),(3,v3),(4,v4),(15,v15),(16,v16),(17,t1)],h,x⟩
theorem zgf {C gl e h x K}:NW C gl PX ⟨e,h,x⟩ K=z3I C gl (aA e 1) (aA e 3) (aA e 4) (aA e 15) (aA e 16) (aA e 17) h x K:=by kernel_rfl
def z00 (q1:ACode):ACode:=.pr [1,3,4,15,16,17] (.seq (rg [bN 18 .lss 17 16] [1,3,4,15,16,17,18])
(.seq (.cond 18 .skip
(.exit 0))
(.seq (.block 1 (.seq (rg [iA 19 (some 4) 15 17,
lD 20 (some 4) 19,
uO 6 (.alloc [.p (.int .i64 0),.p (.str []),.p (.int .i64 0),.p (.int .i64 0)]),
wO (.store (some 4) 6 20)] [1,3,4,6,15,16,17])
(.seq (rg [fA 21 0 none 6,
lD 22 none 21,
bN 23 .eql 22 (cI 2),
mV 24 23,
gD 25 24 true (.faddr 2 none 6),
gD 26 24 true (.load none 25),
gD 27 24 true (.bin .geq 26 (cI 0)),
uO 28 (.pick 24 27 cF)] [1,3,4,6,15,16,17,28])
(.cond 28 (dr [dF (mV 29 4) [4],
dF (fA 30 2 none 6) [6],
dF (lD 31 none 30) [30],
dF (fA 32 3 none 6) [6],
dF (lD 33 none 32) [32],
dF (uO 34 (.build [.p (.int .i64 0),.p (.int .i64 0)] [(0,1,31),(1,1,33)])) [31,33],
dF (uO 35 (.look ((some 2),[0,0]) false (AI 0) 29 34)) [29,34],
dF (bN 36 .add 35 (cI 1)) [35],
dA (uO 37 (.ment ((some 2),[0,0]) (AI 0) 29 34)) [29,34] true [] [6],
dF (eX 38 37 1) [37],
dT (wO (.estore 29 38 36)) [29,38,36]] [1,3,4,15,16,17])
.skip))))
q1)))
def gL:ACode:=z00 PX
def qV (C:Hd)(gl:GL)(q1:ACode)(v1 v3 v4 v15 v16 v17:AV)(h:bA)(x:Esc)(K:KT):Prop:=
 pK (jA .lss v17 v16) fun t1=>
 oA t1 (pK (tA (some 4) v15 v17 h) fun t2=>
 pK (eA (some 4) t2 h) fun t3=>
 alK [.p (.int .i64 0),.p (.str []),.p (.int .i64 0),.p (.int .i64 0)] h fun t4 h5 y6=>
 wK (OA (some 4) t4 t3 h5) fun t7 h8 y9=>
 pK (mA 0 none t4) fun t10=>
 pK (eA none t10 h8) fun t11=>
 pK (jA .eql t11 (AI 2)) fun t12=>
 gP t12 true (mA 2 none t4) h8 fun t13 h14 y15=>
 gP t12 true (eA none t13 h14) h14 fun t16 h17 y18=>
 gP t12 true (jA .geq t16 (AI 0)) h17 fun t19 h20 y21=>
 pK (MA t12 t19 (AB false)) fun t22=>
 oA t22 (pK (mA 2 none t4) fun t23=>
 pK (eA none t23 h20) fun t24=>
 pK (mA 3 none t4) fun t25=>
 pK (eA none t25 h20) fun t26=>
 pK (BC [.p (.int .i64 0),.p (.int .i64 0)] [(0,1,t24),(1,1,t26)]) fun t27=>
 pK (ZA ((some 2),[0,0]) false (AI 0) v4 t27 h20) fun t28=>
 pK (jA .add t28 (AI 1)) fun t29=>
 wK (OK ((some 2),[0,0]) (AI 0) v4 t27 h20) fun t30 h31 y32=>
 (pK (ZA ((some 2),[0,0]) false (AI 0) v4 t27 h31) fun v=>(fun u (g1:bA) (y1:Esc)=>u=t28∧g1=h31∧y1=[]) v h31 [])∧(pK (iC t30 1) fun t33=>
 wK (NK v4 t33 t29 h31) fun t34 h35 y36=>
 NW C gl q1 ⟨[(1,v1),(3,v3),(4,v4),(15,v15),(16,v16),(17,v17)],h35,(y36++(y32++(y21++(y18++(y15++(y9++(y6++x)))))))⟩ K))
 (NW C gl q1 ⟨[(1,v1),(3,v3),(4,v4),(6,t4),(15,v15),(16,v16),(17,v17),(28,t22)],h20,(y21++(y18++(y15++(y9++(y6++x)))))⟩ K))
 (K (.exit 0) ⟨[(1,v1),(3,v3),(4,v4),(15,v15),(16,v16),(17,v17),(18,t1)],h,x⟩)
theorem z9P {C gl q1 e h x K}:NW C gl (z00 q1) ⟨e,h,x⟩ K=qV C gl q1 (aA e 1) (aA e 3) (aA e 4) (aA e 15) (aA e 16) (aA e 17) h x K:=by kernel_rfl
theorem zgg {C gl e h x K}:NW C gl gL ⟨e,h,x⟩ K=qV C gl PX (aA e 1) (aA e 3) (aA e 4) (aA e 15) (aA e 16) (aA e 17) h x K:=z9P
theorem zkP {C gl e h x K}:NW C gl (.loop (.scope gL)) ⟨e,h,x⟩ K=GA C gl (.scope gL) K [(1,aA e 1),(3,aA e 3),(4,aA e 4),(15,aA e 15),(16,aA e 16),(17,aA e 17)] h x:=vB
def QX:ACode:=.pr [3,4,42,43] (rg [bN 58 .add 43 (cI 1),
mV 43 58] [3,4,42,43])
def z3J (C:Hd)(gl:GL)(v3 v4 v42 v43:AV)(h:bA)(x:Esc)(K:KT):Prop:=
 pK (jA .add v43 (AI 1)) fun t1=>
 K .normal ⟨[(3,v3),(4,v4),(42,v42),(43,t1)],h,x⟩
theorem zgh {C gl e h x K}:NW C gl QX ⟨e,h,x⟩ K=z3J C gl (aA e 3) (aA e 4) (aA e 42) (aA e 43) h x K:=by kernel_rfl
def z01 (q3:ACode):ACode:=.pr [3,4,42,43] (.seq (rg [bN 44 .lss 43 42] [3,4,42,43,44])
(.seq (.cond 44 .skip
(.exit 2))
(.seq (.block 3 (.seq (rg [mV 45 43,
mV 7 45] [3,4,7,42,43])
(.seq (dr [dF (mV 46 4) [4],
dF (mV 47 7) [7],
dF (uO 48 (.build [.p (.int .i64 0),.p (.int .i64 0)] [(0,1,47),(1,1,(cI 1))])) [47],
dF (uO 49 (.look ((some 2),[0,0]) false (AI 0) 46 48)) [46,48],
dF (mV 50 4) [4],
dF (mV 51 7) [7],
dF (uO 52 (.build [.p (.int .i64 0),.p (.int .i64 0)] [(0,1,51),(1,1,(cI 0))])) [51],
dF (uO 53 (.look ((some 2),[0,0]) false (AI 0) 50 52)) [50,52],
dF (bN 54 .gtr 49 53) [49,53]] [3,4,7,42,43,54])
(.cond 54 (rg [mV 55 3,
mV 56 7,
iA 57 none 55 56,
wO (.store none 57 (.c (.p (.int .u8 49))))] [3,4,42,43])
.skip))))
q3)))
def RN:ACode:=z01 QX
def rV (C:Hd)(gl:GL)(q3:ACode)(v3 v4 v42 v43:AV)(h:bA)(x:Esc)(K:KT):Prop:=
 pK (jA .lss v43 v42) fun t1=>
 oA t1 (pK (BC [.p (.int .i64 0),.p (.int .i64 0)] [(0,1,v43),(1,1,(AI 1))]) fun t2=>
 pK (ZA ((some 2),[0,0]) false (AI 0) v4 t2 h) fun t3=>
 pK (BC [.p (.int .i64 0),.p (.int .i64 0)] [(0,1,v43),(1,1,(AI 0))]) fun t4=>
 pK (ZA ((some 2),[0,0]) false (AI 0) v4 t4 h) fun t5=>
 pK (jA .gtr t3 t5) fun t6=>
 oA t6 (pK (tA none v3 v43 h) fun t7=>
 wK (OA none t7 (.p (.int .u8 49)) h) fun t8 h9 y10=>
 NW C gl q3 ⟨[(3,v3),(4,v4),(42,v42),(43,v43)],h9,(y10++x)⟩ K)
 (NW C gl q3 ⟨[(3,v3),(4,v4),(7,v43),(42,v42),(43,v43),(54,t6)],h,x⟩ K))
 (K (.exit 2) ⟨[(3,v3),(4,v4),(42,v42),(43,v43),(44,t1)],h,x⟩)
theorem z9Q {C gl q3 e h x K}:NW C gl (z01 q3) ⟨e,h,x⟩ K=rV C gl q3 (aA e 3) (aA e 4) (aA e 42) (aA e 43) h x K:=by kernel_rfl
theorem zgi {C gl e h x K}:NW C gl RN ⟨e,h,x⟩ K=rV C gl QX (aA e 3) (aA e 4) (aA e 42) (aA e 43) h x K:=z9Q
theorem zkQ {C gl e h x K}:NW C gl (.loop RN) ⟨e,h,x⟩ K=GA C gl RN K [(3,aA e 3),(4,aA e 4),(42,aA e 42),(43,aA e 43)] h x:=jC
def RX:ACode:=.pr [3] (.seq (rg [mV 59 3,
mV 2 59] [2])
.ret)
def z3K (C:Hd)(gl:GL)(v3:AV)(h:bA)(x:Esc)(K:KT):Prop:=
 K .ret ⟨[(2,v3)],h,x⟩
theorem zgj {C gl e h x K}:NW C gl RX ⟨e,h,x⟩ K=z3K C gl (aA e 3) h x K:=by kernel_rfl
def z02 (q4 q5:ACode):ACode:=.pr [1,3,4] (.seq (.seq (rg [fA 40 1 none 1,
lD 41 none 40,
lN 42 41,
mV 43 (cI 0)] [3,4,42,43])
(.block 2 (.loop q4)))
q5)
def DR:ACode:=z02 RN RX
def sV (C:Hd)(gl:GL)(q4 q5:ACode)(v1 v3 v4:AV)(h:bA)(x:Esc)(K:KT):Prop:=
 pK (mA 1 none v1) fun t1=>
 pK (eA none t1 h) fun t2=>
 pK (xA t2) fun t3=>
 NW C gl (.loop q4) ⟨[(3,v3),(4,v4),(42,t3),(43,(AI 0))],h,x⟩ (wA 2 (QA C gl q5 K))
theorem z9R {C gl q4 q5 e h x K}:NW C gl (z02 q4 q5) ⟨e,h,x⟩ K=sV C gl q4 q5 (aA e 1) (aA e 3) (aA e 4) h x K:=by kernel_rfl
theorem zgk {C gl e h x K}:NW C gl DR ⟨e,h,x⟩ K=sV C gl RN RX (aA e 1) (aA e 3) (aA e 4) h x K:=z9R
def z0z (q2 q6:ACode):ACode:=(.seq (rg [uO 1 (.box 0),
mV 2 (.c (.p (.sl none [])))] [1])
(.seq (rg [fA 8 1 none 1,
lD 9 none 8,
lN 10 9,
cL 11 EH [(cS [48]),10],
uO 12 (.conv .s2b 11),
mV 3 12] [1,3])
(.seq (rg [uO 13 (.mkmap),
mV 4 13] [1,3,4])
(.seq (.seq (rg [fA 14 1 none 1,
lD 15 none 14,
lN 16 15,
mV 17 (cI 0)] [1,3,4,15,16,17])
(.block 0 (.loop (.scope q2))))
q6))))
def qT:AFun:=⟨1,[.t 2],z0z gL DR,false,false⟩
def VP (C:Hd)(gl:GL)(q2 q6:ACode)(v0:AV)(h:bA)(x:Esc)(K:KT):Prop:=
 wK (dB v0 h) fun t1 h2 y3=>
 pK (mA 1 none t1) fun t4=>
 pK (eA none t4 h2) fun t5=>
 pK (xA t5) fun t6=>
 C EH [(.p (.str [48])),t6] h2 fun t7 h8 y9=>
 wK (TD .s2b t7 h8) fun t10 h11 y12=>
 mmK h11 fun t13 h14 y15=>
 pK (mA 1 none t1) fun t16=>
 pK (eA none t16 h14) fun t17=>
 pK (xA t17) fun t18=>
 NW C gl (.loop (.scope q2)) ⟨[(1,t1),(3,t10),(4,t13),(15,t17),(16,t18),(17,(AI 0))],h14,(y15++(y12++(y9++(y3++x))))⟩ (wA 0 (QA C gl q6 K))
theorem z9O {C gl q2 q6 v0 h x K}:NW C gl (z0z q2 q6) ⟨enter [v0],h,x⟩ K=VP C gl q2 q6 v0 h x K:=by kernel_rfl
theorem zge {C gl v0 h x K}:NW C gl qT.body ⟨enter [v0],h,x⟩ K=VP C gl gL DR v0 h x K:=z9O
def zbJ:ACode:=(.seq (rg [mV 2 cF] [0])
(.seq (rg [mV 3 0,
cL 4 aG [3,(cS [48,49])],
mV 2 4] [2])
.ret))
def NT:AFun:=⟨1,[.t 2],zbJ,false,false⟩
def TV (C:Hd)(gl:GL)(v0:AV)(h:bA)(x:Esc)(K:KT):Prop:=
 C aG [v0,(.p (.str [48,49]))] h fun t1 h2 y3=>
 K .ret ⟨[(2,t1)],h2,(y3++x)⟩
theorem zhc {C gl v0 h x K}:NW C gl NT.body ⟨enter [v0],h,x⟩ K=TV C gl v0 h x K:=by kernel_rfl
end Go.Am
end
