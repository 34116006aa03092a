/- Texts of the proof, laid together: CodesD, CodesE. -/
import Derived.KernelRfl
import Derived.Test.YtbldcfbggmjbpaaGreatDoorlawLC5
set_option linter.all false
section
/- The functions asv abstract code,and asv formulas over their values: printed by program out of the translation. -/
set_option linter.unusedVariables false
set_option maxRecDepth 100000
namespace Go.Am
def tY:ACode:=.pr [1,2,3,7,14,15,16] (rg [bN 32 .add 16 (cI 1),
mV 16 32] [1,2,3,7,14,15,16])
def z43 (C:Hd)(gl:GL)(v1 v2 v3 v7 v14 v15 v16:AV)(h:bA)(x:Esc)(K:KT):Prop:=
 pK (jA .add v16 (AI 1)) fun t1=>
 K .normal ⟨[(1,v1),(2,v2),(3,v3),(7,v7),(14,v14),(15,v15),(16,t1)],h,x⟩
theorem zhP {C gl e h x K}:NW C gl tY ⟨e,h,x⟩ K=z43 C gl (aA e 1) (aA e 2) (aA e 3) (aA e 7) (aA e 14) (aA e 15) (aA e 16) h x K:=by kernel_rfl
def z1m (q1:ACode):ACode:=.pr [1,2,3,7,14,15,16] (.seq (rg [bN 17 .lss 16 15] [1,2,3,7,14,15,16,17])
(.seq (.cond 17 .skip
(.exit 0))
(.seq (.block 1 (.seq (rg [iA 18 (some 2) 14 16,
lD 19 (some 2) 18,
uO 9 (.alloc [.p (.str []),.p (.int .i64 0)]),
wO (.store (some 2) 9 19)] [1,2,3,7,9,14,15,16])
(.seq (rg [lD 20 (some 3) 3,
mV 21 1,
lD 22 (some 2) 9,
cL 23 mK [20,21,22]] [1,2,3,7,9,14,15,16,23])
(.cond 23 (rg [lD 24 (some 3) 3,
mV 25 1,
lD 26 (some 2) 9,
cL 27 yH [24,25,26],
uO 28 (.iaddra 2 none 7 27),
lD 29 none 28,
bN 30 .add 29 (cI 1),
uO 31 (.iaddra 2 none 7 27),
wO (.store none 31 30)] [1,2,3,7,14,15,16])
.skip))))
q1)))
def DL:ACode:=z1m tY
def eW (C:Hd)(gl:GL)(q1:ACode)(v1 v2 v3 v7 v14 v15 v16:AV)(h:bA)(x:Esc)(K:KT):Prop:=
 pK (jA .lss v16 v15) fun t1=>
 oA t1 (pK (tA (some 2) v14 v16 h) fun t2=>
 pK (eA (some 2) t2 h) fun t3=>
 alK [.p (.str []),.p (.int .i64 0)] h fun t4 h5 y6=>
 wK (OA (some 2) t4 t3 h5) fun t7 h8 y9=>
 pK (eA (some 3) v3 h8) fun t10=>
 pK (eA (some 2) t4 h8) fun t11=>
 C mK [t10,v1,t11] h8 fun t12 h13 y14=>
 oA t12 (pK (eA (some 3) v3 h13) fun t15=>
 pK (eA (some 2) t4 h13) fun t16=>
 C yH [t15,v1,t16] h13 fun t17 h18 y19=>
 pK (zF 2 none v7 t17) fun t20=>
 pK (eA none t20 h18) fun t21=>
 pK (jA .add t21 (AI 1)) fun t22=>
 pK (zF 2 none v7 t17) fun t23=>
 wK (OA none t23 t22 h18) fun t24 h25 y26=>
 NW C gl q1 ⟨[(1,v1),(2,v2),(3,v3),(7,v7),(14,v14),(15,v15),(16,v16)],h25,(y26++(y19++(y14++(y9++(y6++x)))))⟩ K)
 (NW C gl q1 ⟨[(1,v1),(2,v2),(3,v3),(7,v7),(9,t4),(14,v14),(15,v15),(16,v16),(23,t12)],h13,(y14++(y9++(y6++x)))⟩ K))
 (K (.exit 0) ⟨[(1,v1),(2,v2),(3,v3),(7,v7),(14,v14),(15,v15),(16,v16),(17,t1)],h,x⟩)
theorem zaB {C gl q1 e h x K}:NW C gl (z1m q1) ⟨e,h,x⟩ K=eW C gl q1 (aA e 1) (aA e 2) (aA e 3) (aA e 7) (aA e 14) (aA e 15) (aA e 16) h x K:=by kernel_rfl
theorem zhQ {C gl e h x K}:NW C gl DL ⟨e,h,x⟩ K=eW C gl tY (aA e 1) (aA e 2) (aA e 3) (aA e 7) (aA e 14) (aA e 15) (aA e 16) h x K:=zaB
theorem zlq {C gl e h x K}:NW C gl (.loop (.scope DL)) ⟨e,h,x⟩ K=GA C gl (.scope DL) K [(1,aA e 1),(2,aA e 2),(3,aA e 3),(7,aA e 7),(14,aA e 14),(15,aA e 15),(16,aA e 16)] h x:=vB
def EL:ACode:=.pr [2,51,52,53] (.seq (rg [bN 54 .lss 53 52] [2,51,52,53,54])
(.seq (.cond 54 .skip
(.exit 3))
(.seq (.block 4 (.seq (rg [iA 55 (some 2) 51 53,
lD 56 (some 2) 55,
uO 11 (.alloc [.p (.str []),.p (.int .i64 0)]),
wO (.store (some 2) 11 56)] [2,11,51,52,53])
(.seq (rg [fA 57 0 none 11,
lD 58 none 57,
mV 59 2,
bN 60 .eql 58 59] [2,11,51,52,53,60])
(.cond 60 (.seq (rg [uO 61 (.bsl false none 2 (.int .i64 0) [(0,(cI 0)),(1,(cI 1))]),
fA 62 1 none 11,
lD 63 none 62,
iA 64 none 61 63,
lD 65 none 64,
mV 6 65] [6])
.ret)
.skip))))
(rg [bN 66 .add 53 (cI 1),
mV 53 66] [2,51,52,53]))))
def z44 (C:Hd)(gl:GL)(v2 v51 v52 v53:AV)(h:bA)(x:Esc)(K:KT):Prop:=
 pK (jA .lss v53 v52) fun t1=>
 oA t1 (pK (tA (some 2) v51 v53 h) fun t2=>
 pK (eA (some 2) t2 h) fun t3=>
 alK [.p (.str []),.p (.int .i64 0)] h fun t4 h5 y6=>
 wK (OA (some 2) t4 t3 h5) fun t7 h8 y9=>
 pK (mA 0 none t4) fun t10=>
 pK (eA none t10 h8) fun t11=>
 pK (jA .eql t11 v2) fun t12=>
 oA t12 (wK (jB false none 2 (.int .i64 0) [(0,(AI 0)),(1,(AI 1))] h8) fun t13 h14 y15=>
 pK (mA 1 none t4) fun t16=>
 pK (eA none t16 h14) fun t17=>
 pK (tA none t13 t17 h14) fun t18=>
 pK (eA none t18 h14) fun t19=>
 K .ret ⟨[(6,t19)],h14,(y15++(y9++(y6++x)))⟩)
 (pK (jA .add v53 (AI 1)) fun t20=>
 K .normal ⟨[(2,v2),(51,v51),(52,v52),(53,t20)],h8,(y9++(y6++x))⟩))
 (K (.exit 3) ⟨[(2,v2),(51,v51),(52,v52),(53,v53),(54,t1)],h,x⟩)
theorem zhR {C gl e h x K}:NW C gl EL ⟨e,h,x⟩ K=z44 C gl (aA e 2) (aA e 51) (aA e 52) (aA e 53) h x K:=by kernel_rfl
theorem zlr {C gl e h x K}:NW C gl (.loop (.scope EL)) ⟨e,h,x⟩ K=GA C gl (.scope EL) K [(2,aA e 2),(51,aA e 51),(52,aA e 52),(53,aA e 53)] h x:=vB
def uY:ACode:=.pr [] (.seq (rg [mV 6 (cI 2)] [6])
.ret)
def z45 (C:Hd)(gl:GL)(h:bA)(x:Esc)(K:KT):Prop:=
 K .ret ⟨[(6,(AI 2))],h,x⟩
theorem zhS {C gl e h x K}:NW C gl uY ⟨e,h,x⟩ K=z45 C gl h x K:=by kernel_rfl
def z1n (q3 q4:ACode):ACode:=.pr [2,3,7] (.seq (.block 2 (.seq (rg [uO 34 (.iaddra 2 none 7 (cI 0)),
lD 35 none 34,
bN 36 .gtr 35 (cI 0),
mV 37 36,
gD 38 37 true (.iaddra 2 none 7 (cI 1)),
gD 39 37 true (.load none 38),
gD 40 37 true (.bin .gtr 39 (cI 0)),
uO 41 (.pick 37 40 cF),
mV 33 41] [2,3,7,33])
(.cond 33 (.seq (rg [mV 6 (cI 3)] [6])
.ret)
(.seq (rg [uO 43 (.iaddra 2 none 7 (cI 0)),
lD 44 none 43,
bN 45 .gtr 44 (cI 0),
mV 42 45] [2,3,7,42])
(.cond 42 (.seq (rg [mV 6 (cI 0)] [6])
.ret)
(.seq (rg [uO 47 (.iaddra 2 none 7 (cI 1)),
lD 48 none 47,
bN 49 .gtr 48 (cI 0),
mV 46 49] [2,3,46])
(.cond 46 (.seq (rg [mV 6 (cI 1)] [6])
.ret)
.skip)))))))
(.seq (.seq (rg [fA 50 2 none 3,
lD 51 none 50,
lN 52 51,
mV 53 (cI 0)] [2,51,52,53])
(.block 3 (.loop (.scope q3))))
q4))
def ZR:ACode:=z1n EL uY
def oH (C:Hd)(gl:GL)(q3 q4:ACode)(v2 v3 v7:AV)(h:bA)(x:Esc)(K:KT):Prop:=
 pK (zF 2 none v7 (AI 0)) fun t1=>
 pK (eA none t1 h) fun t2=>
 pK (jA .gtr t2 (AI 0)) fun t3=>
 gP t3 true (zF 2 none v7 (AI 1)) h fun t4 h5 y6=>
 gP t3 true (eA none t4 h5) h5 fun t7 h8 y9=>
 gP t3 true (jA .gtr t7 (AI 0)) h8 fun t10 h11 y12=>
 pK (MA t3 t10 (AB false)) fun t13=>
 oA t13 (K .ret ⟨[(6,(AI 3))],h11,(y12++(y9++(y6++x)))⟩)
 (pK (zF 2 none v7 (AI 0)) fun t14=>
 pK (eA none t14 h11) fun t15=>
 pK (jA .gtr t15 (AI 0)) fun t16=>
 oA t16 (K .ret ⟨[(6,(AI 0))],h11,(y12++(y9++(y6++x)))⟩)
 (pK (zF 2 none v7 (AI 1)) fun t17=>
 pK (eA none t17 h11) fun t18=>
 pK (jA .gtr t18 (AI 0)) fun t19=>
 oA t19 (K .ret ⟨[(6,(AI 1))],h11,(y12++(y9++(y6++x)))⟩)
 (pK (mA 2 none v3) fun t20=>
 pK (eA none t20 h11) fun t21=>
 pK (xA t21) fun t22=>
 NW C gl (.loop (.scope q3)) ⟨[(2,v2),(51,t21),(52,t22),(53,(AI 0))],h11,(y12++(y9++(y6++x)))⟩ (wA 3 (QA C gl q4 K)))))
theorem zaC {C gl q3 q4 e h x K}:NW C gl (z1n q3 q4) ⟨e,h,x⟩ K=oH C gl q3 q4 (aA e 2) (aA e 3) (aA e 7) h x K:=by kernel_rfl
theorem HW {C gl e h x K}:NW C gl ZR ⟨e,h,x⟩ K=oH C gl EL uY (aA e 2) (aA e 3) (aA e 7) h x K:=zaC
def z1l (q2 q5:ACode):ACode:=(.seq (rg [uO 3 (.box 0),
mV 6 (cI 0)] [1,2,3])
(.seq (rg [uO 7 (.alloc [.p (.int .i64 0),.p (.int .i64 0)])] [1,2,3,7])
(.seq (.seq (rg [lD 12 (some 3) 3,
mV 13 2,
cL 14 kK [12,13,(cI 2)],
lN 15 14,
mV 16 (cI 0)] [1,2,3,7,14,15,16])
(.block 0 (.loop (.scope q2))))
q5)))
def iU:AFun:=⟨3,[.t 6],z1l DL ZR,false,false⟩
def qQ (C:Hd)(gl:GL)(q2 q5:ACode)(v0 v1 v2:AV)(h:bA)(x:Esc)(K:KT):Prop:=
 wK (dB v0 h) fun t1 h2 y3=>
 alK [.p (.int .i64 0),.p (.int .i64 0)] h2 fun t4 h5 y6=>
 pK (eA (some 3) t1 h5) fun t7=>
 C kK [t7,v2,(AI 2)] h5 fun t8 h9 y10=>
 pK (xA t8) fun t11=>
 NW C gl (.loop (.scope q2)) ⟨[(1,v1),(2,v2),(3,t1),(7,t4),(14,t8),(15,t11),(16,(AI 0))],h9,(y10++(y6++(y3++x)))⟩ (wA 0 (QA C gl q5 K))
theorem zaA {C gl q2 q5 v0 v1 v2 h x K}:NW C gl (z1l q2 q5) ⟨enter [v0,v1,v2],h,x⟩ K=qQ C gl q2 q5 v0 v1 v2 h x K:=by kernel_rfl
theorem zhO {C gl v0 v1 v2 h x K}:NW C gl iU.body ⟨enter [v0,v1,v2],h,x⟩ K=qQ C gl DL ZR v0 v1 v2 h x K:=zaA
def wL:ACode:=.pr [1,2,10,11,12] (.seq (rg [bN 13 .lss 12 11] [1,2,10,11,12,13])
(.seq (.cond 13 .skip
(.exit 0))
(.seq (.block 1 (.seq (rg [iA 14 (some 3) 10 12,
lD 15 (some 3) 14,
uO 8 (.alloc [.p (.str []),.p (.str []),.p (.str [])]),
wO (.store (some 3) 8 15)] [1,2,8,10,11,12])
(.seq (rg [fA 16 1 none 8,
lD 17 none 16,
mV 18 1,
bN 19 .eql 17 18,
mV 20 19,
gD 21 20 true (.faddr 2 none 8),
gD 22 20 true (.load none 21),
gD 23 20 true (.mv 2),
gD 24 20 true (.bin .eql 22 23),
uO 25 (.pick 20 24 cF)] [1,2,8,10,11,12,25])
(.cond 25 (.seq (rg [fA 26 0 none 8,
lD 27 none 26,
mV 6 27] [6])
.ret)
.skip))))
(rg [bN 28 .add 12 (cI 1),
mV 12 28] [1,2,10,11,12]))))
def z4s (C:Hd)(gl:GL)(v1 v2 v10 v11 v12:AV)(h:bA)(x:Esc)(K:KT):Prop:=
 pK (jA .lss v12 v11) fun t1=>
 oA t1 (pK (tA (some 3) v10 v12 h) fun t2=>
 pK (eA (some 3) t2 h) fun t3=>
 alK [.p (.str []),.p (.str []),.p (.str [])] h fun t4 h5 y6=>
 wK (OA (some 3) t4 t3 h5) fun t7 h8 y9=>
 pK (mA 1 none t4) fun t10=>
 pK (eA none t10 h8) fun t11=>
 pK (jA .eql t11 v1) fun t12=>
 gP t12 true (mA 2 none t4) h8 fun t13 h14 y15=>
 gP t12 true (eA none t13 h14) h14 fun t16 h17 y18=>
 gM t12 true v2 h17 fun t19 h20 y21=>
 gP t12 true (jA .eql t16 t19) h20 fun t22 h23 y24=>
 pK (MA t12 t22 (AB false)) fun t25=>
 oA t25 (pK (mA 0 none t4) fun t26=>
 pK (eA none t26 h23) fun t27=>
 K .ret ⟨[(6,t27)],h23,(y24++(y21++(y18++(y15++(y9++(y6++x))))))⟩)
 (pK (jA .add v12 (AI 1)) fun t28=>
 K .normal ⟨[(1,v1),(2,v2),(10,v10),(11,v11),(12,t28)],h23,(y24++(y21++(y18++(y15++(y9++(y6++x))))))⟩))
 (K (.exit 0) ⟨[(1,v1),(2,v2),(10,v10),(11,v11),(12,v12),(13,t1)],h,x⟩)
theorem zh0 {C gl e h x K}:NW C gl wL ⟨e,h,x⟩ K=z4s C gl (aA e 1) (aA e 2) (aA e 10) (aA e 11) (aA e 12) h x K:=by kernel_rfl
theorem zlk {C gl e h x K}:NW C gl (.loop (.scope wL)) ⟨e,h,x⟩ K=GA C gl (.scope wL) K [(1,aA e 1),(2,aA e 2),(10,aA e 10),(11,aA e 11),(12,aA e 12)] h x:=vB
def VR:ACode:=.pr [] (.seq (rg [mV 6 (cS [])] [6])
.ret)
def z4t (C:Hd)(gl:GL)(h:bA)(x:Esc)(K:KT):Prop:=
 K .ret ⟨[(6,(.p (.str [])))],h,x⟩
theorem zh1 {C gl e h x K}:NW C gl VR ⟨e,h,x⟩ K=z4t C gl h x K:=by kernel_rfl
def z1d (q1 q2:ACode):ACode:=(.seq (rg [uO 3 (.box 0),
mV 6 (cS [])] [1,2,3])
(.seq (.seq (rg [fA 9 1 none 3,
lD 10 none 9,
lN 11 10,
mV 12 (cI 0)] [1,2,10,11,12])
(.block 0 (.loop (.scope q1))))
q2))
def WT:AFun:=⟨3,[.t 6],z1d wL VR,false,false⟩
def nQ (C:Hd)(gl:GL)(q1 q2:ACode)(v0 v1 v2:AV)(h:bA)(x:Esc)(K:KT):Prop:=
 wK (dB v0 h) fun t1 h2 y3=>
 pK (mA 1 none t1) fun t4=>
 pK (eA none t4 h2) fun t5=>
 pK (xA t5) fun t6=>
 NW C gl (.loop (.scope q1)) ⟨[(1,v1),(2,v2),(10,t5),(11,t6),(12,(AI 0))],h2,(y3++x)⟩ (wA 0 (QA C gl q2 K))
theorem za2 {C gl q1 q2 v0 v1 v2 h x K}:NW C gl (z1d q1 q2) ⟨enter [v0,v1,v2],h,x⟩ K=nQ C gl q1 q2 v0 v1 v2 h x K:=by kernel_rfl
theorem zhz {C gl v0 v1 v2 h x K}:NW C gl WT.body ⟨enter [v0,v1,v2],h,x⟩ K=nQ C gl wL VR v0 v1 v2 h x K:=za2
def zbM:ACode:=(.seq (rg [mV 4 cF] [0,1,2])
(.seq (rg [lD 5 (some 3) 1,
lD 6 none 2,
mV 7 0,
cL 8 uF [5,6,7],
bN 9 .neq 8 (cI 3),
mV 4 9] [4])
.ret))
def TT:AFun:=⟨3,[.t 4],zbM,false,false⟩
def WV (C:Hd)(gl:GL)(v0 v1 v2:AV)(h:bA)(x:Esc)(K:KT):Prop:=
 pK (eA (some 3) v1 h) fun t1=>
 pK (eA none v2 h) fun t2=>
 C uF [t1,t2,v0] h fun t3 h4 y5=>
 pK (jA .neq t3 (AI 3)) fun t6=>
 K .ret ⟨[(4,t6)],h4,(y5++x)⟩
theorem zhu {C gl v0 v1 v2 h x K}:NW C gl TT.body ⟨enter [v0,v1,v2],h,x⟩ K=WV C gl v0 v1 v2 h x K:=by kernel_rfl
def zbN:ACode:=(.seq (rg [mV 2 cF] [0])
(.seq (rg [mV 3 0,
uO 4 (.lens 3),
cL 5 PD [4,(cI 1),(cI 40)],
mV 6 5,
gD 7 6 true (.mv 0),
gD 8 6 true (.slstr 7 none (some (cI 1))),
gD 9 6 true (.call aG [8,(cS [97,98,99,100,101,102,103,104,105,106,107,108,109,110,111,112,113,114,115,116,117,118,119,120,121,122])]),
uO 10 (.pick 6 9 cF),
mV 11 10,
gD 12 11 true (.mv 0),
gD 13 11 true (.call aG [12,(cS [97,98,99,100,101,102,103,104,105,106,107,108,109,110,111,112,113,114,115,116,117,118,119,120,121,122,48,49,50,51,52,53,54,55,56,57,45,95])]),
uO 14 (.pick 11 13 cF),
mV 2 14] [2])
.ret))
def UT:AFun:=⟨1,[.t 2],zbN,false,false⟩
def IJ (C:Hd)(gl:GL)(v0:AV)(h:bA)(x:Esc)(K:KT):Prop:=
 pK (MG v0) fun t1=>
 C PD [t1,(AI 1),(AI 40)] h fun t2 h3 y4=>
 gM t2 true v0 h3 fun t5 h6 y7=>
 gP t2 true (rR t5 none (some (AI 1))) h6 fun t8 h9 y10=>
 gV t2 true h9 (C aG [t8,(.p (.str [97,98,99,100,101,102,103,104,105,106,107,108,109,110,111,112,113,114,115,116,117,118,119,120,121,122]))] h9) fun t11 h12 y13=>
 pK (MA t2 t11 (AB false)) fun t14=>
 gM t14 true v0 h12 fun t15 h16 y17=>
 gV t14 true h16 (C aG [t15,(.p (.str [97,98,99,100,101,102,103,104,105,106,107,108,109,110,111,112,113,114,115,116,117,118,119,120,121,122,48,49,50,51,52,53,54,55,56,57,45,95]))] h16) fun t18 h19 y20=>
 pK (MA t14 t18 (AB false)) fun t21=>
 K .ret ⟨[(2,t21)],h19,(y20++(y17++(y13++(y10++(y7++(y4++x))))))⟩
theorem zhv {C gl v0 h x K}:NW C gl UT.body ⟨enter [v0],h,x⟩ K=IJ C gl v0 h x K:=by kernel_rfl
def HL:ACode:=.pr [1,13,14,15] (.seq (rg [bN 16 .lss 15 14] [1,13,14,15,16])
(.seq (.cond 16 .skip
(.exit 0))
(.seq (.block 1 (.seq (rg [iA 17 (some 4) 13 15,
lD 18 (some 4) 17,
uO 4 (.alloc [.p (.int .i64 0),.p (.str []),.p (.int .i64 0),.p (.int .i64 0)]),
wO (.store (some 4) 4 18)] [1,4,13,14,15])
(.seq (rg [fA 19 1 none 1,
lD 20 none 19,
lD 21 (some 4) 4,
cL 22 lK [20,21],
mV 5 22] [1,5,13,14,15])
(.seq (rg [mV 23 5,
bN 24 .neq 23 (cI 0)] [1,5,13,14,15,24])
(.cond 24 (.seq (rg [mV 25 5,
mV 2 25] [2])
.ret)
.skip)))))
(rg [bN 26 .add 15 (cI 1),
mV 15 26] [1,13,14,15]))))
def z49 (C:Hd)(gl:GL)(v1 v13 v14 v15:AV)(h:bA)(x:Esc)(K:KT):Prop:=
 pK (jA .lss v15 v14) fun t1=>
 oA t1 (pK (tA (some 4) v13 v15 h) fun t2=>
 pK (eA (some 4) t2 h) fun t3=>
 alK [.p (.int .i64 0),.p (.str []),.p (.int .i64 0),.p (.int .i64 0)] h fun t4 h5 y6=>
 wK (OA (some 4) t4 t3 h5) fun t7 h8 y9=>
 pK (mA 1 none v1) fun t10=>
 pK (eA none t10 h8) fun t11=>
 pK (eA (some 4) t4 h8) fun t12=>
 C lK [t11,t12] h8 fun t13 h14 y15=>
 pK (jA .neq t13 (AI 0)) fun t16=>
 oA t16 (K .ret ⟨[(2,t13)],h14,(y15++(y9++(y6++x)))⟩)
 (pK (jA .add v15 (AI 1)) fun t17=>
 K .normal ⟨[(1,v1),(13,v13),(14,v14),(15,t17)],h14,(y15++(y9++(y6++x)))⟩))
 (K (.exit 0) ⟨[(1,v1),(13,v13),(14,v14),(15,v15),(16,t1)],h,x⟩)
theorem zhX {C gl e h x K}:NW C gl HL ⟨e,h,x⟩ K=z49 C gl (aA e 1) (aA e 13) (aA e 14) (aA e 15) h x K:=by kernel_rfl
theorem zlt {C gl e h x K}:NW C gl (.loop (.scope HL)) ⟨e,h,x⟩ K=GA C gl (.scope HL) K [(1,aA e 1),(13,aA e 13),(14,aA e 14),(15,aA e 15)] h x:=vB
def XN:ACode:=.pr [1,28,29,30] (.seq (rg [bN 31 .lss 30 29] [1,28,29,30,31])
(.seq (.cond 31 .skip
(.exit 2))
(.seq (.block 3 (.seq (rg [mV 32 30,
iA 33 (some 4) 28 30,
lD 34 (some 4) 33,
uO 7 (.alloc [.p (.int .i64 0),.p (.str []),.p (.int .i64 0),.p (.int .i64 0)]),
mV 6 32,
wO (.store (some 4) 7 34)] [1,6,7,28,29,30])
(.seq (rg [fA 35 1 none 7,
lD 36 none 35,
bN 37 .neq 36 (cS []),
mV 38 37,
gD 39 38 true (.faddr 1 none 1),
gD 40 38 true (.load none 39),
gD 41 38 true (.mv 6),
gD 42 38 true (.slice (some 4) 40 none (some 41) none),
gD 43 38 true (.mkfn CI [7]),
gD 44 38 true (.call DD [42,43]),
uO 45 (.pick 38 44 cF)] [1,28,29,30,45])
(.cond 45 (.seq (rg [mV 2 (cI 6)] [2])
.ret)
.skip))))
(rg [bN 46 .add 30 (cI 1),
mV 30 46] [1,28,29,30]))))
def z4A (C:Hd)(gl:GL)(v1 v28 v29 v30:AV)(h:bA)(x:Esc)(K:KT):Prop:=
 pK (jA .lss v30 v29) fun t1=>
 oA t1 (pK (tA (some 4) v28 v30 h) fun t2=>
 pK (eA (some 4) t2 h) fun t3=>
 alK [.p (.int .i64 0),.p (.str []),.p (.int .i64 0),.p (.int .i64 0)] h fun t4 h5 y6=>
 wK (OA (some 4) t4 t3 h5) fun t7 h8 y9=>
 pK (mA 1 none t4) fun t10=>
 pK (eA none t10 h8) fun t11=>
 pK (jA .neq t11 (.p (.str []))) fun t12=>
 gP t12 true (mA 1 none v1) h8 fun t13 h14 y15=>
 gP t12 true (eA none t13 h14) h14 fun t16 h17 y18=>
 gM t12 true v30 h17 fun t19 h20 y21=>
 gP t12 true (GE (some 4) t16 none (some t19) none h20) h20 fun t22 h23 y24=>
 gM t12 true (.fn CI [t4]) h23 fun t25 h26 y27=>
 gV t12 true h26 (C DD [t22,t25] h26) fun t28 h29 y30=>
 pK (MA t12 t28 (AB false)) fun t31=>
 oA t31 (K .ret ⟨[(2,(AI 6))],h29,(y30++(y27++(y24++(y21++(y18++(y15++(y9++(y6++x))))))))⟩)
 (pK (jA .add v30 (AI 1)) fun t32=>
 K .normal ⟨[(1,v1),(28,v28),(29,v29),(30,t32)],h29,(y30++(y27++(y24++(y21++(y18++(y15++(y9++(y6++x))))))))⟩))
 (K (.exit 2) ⟨[(1,v1),(28,v28),(29,v29),(30,v30),(31,t1)],h,x⟩)
theorem zhY {C gl e h x K}:NW C gl XN ⟨e,h,x⟩ K=z4A C gl (aA e 1) (aA e 28) (aA e 29) (aA e 30) h x K:=by kernel_rfl
theorem zlu {C gl e h x K}:NW C gl (.loop (.scope XN)) ⟨e,h,x⟩ K=GA C gl (.scope XN) K [(1,aA e 1),(28,aA e 28),(29,aA e 29),(30,aA e 30)] h x:=vB
def vY:ACode:=.pr [] (.seq (rg [mV 2 (cI 0)] [2])
.ret)
def z4B (C:Hd)(gl:GL)(h:bA)(x:Esc)(K:KT):Prop:=
 K .ret ⟨[(2,(AI 0))],h,x⟩
theorem zhZ {C gl e h x K}:NW C gl vY ⟨e,h,x⟩ K=z4B C gl h x K:=by kernel_rfl
def z1q (q2 q3:ACode):ACode:=.pr [1] (.seq (.seq (rg [fA 27 1 none 1,
lD 28 none 27,
lN 29 28,
mV 30 (cI 0)] [1,28,29,30])
(.block 2 (.loop (.scope q2))))
q3)
def YN:ACode:=z1q XN vY
def XM (C:Hd)(gl:GL)(q2 q3:ACode)(v1:AV)(h:bA)(x:Esc)(K:KT):Prop:=
 pK (mA 1 none v1) fun t1=>
 pK (eA none t1 h) fun t2=>
 pK (xA t2) fun t3=>
 NW C gl (.loop (.scope q2)) ⟨[(1,v1),(28,t2),(29,t3),(30,(AI 0))],h,x⟩ (wA 2 (QA C gl q3 K))
theorem zaF {C gl q2 q3 e h x K}:NW C gl (z1q q2 q3) ⟨e,h,x⟩ K=XM C gl q2 q3 (aA e 1) h x K:=by kernel_rfl
theorem IW {C gl e h x K}:NW C gl YN ⟨e,h,x⟩ K=XM C gl XN vY (aA e 1) h x K:=zaF
def z1p (q1 q4:ACode):ACode:=(.seq (rg [uO 1 (.box 0),
mV 2 (cI 0)] [1])
(.seq (.seq (rg [fA 8 1 none 1,
lD 9 none 8,
lN 10 9,
bN 11 .gtr 10 (cI 200)] [1,11])
(.cond 11 (.seq (rg [mV 2 (cI 2)] [2])
.ret)
.skip))
(.seq (.seq (rg [fA 12 1 none 1,
lD 13 none 12,
lN 14 13,
mV 15 (cI 0)] [1,13,14,15])
(.block 0 (.loop (.scope q1))))
q4)))
def kU:AFun:=⟨1,[.t 2],z1p HL YN,false,false⟩
def WM (C:Hd)(gl:GL)(q1 q4:ACode)(v0:AV)(h:bA)(x:Esc)(K:KT):Prop:=
 wK (dB v0 h) fun t1 h2 y3=>
 pK (mA 1 none t1) fun t4=>
 pK (eA none t4 h2) fun t5=>
 pK (xA t5) fun t6=>
 pK (jA .gtr t6 (AI 200)) fun t7=>
 oA t7 (K .ret ⟨[(2,(AI 2))],h2,(y3++x)⟩)
 (pK (mA 1 none t1) fun t8=>
 pK (eA none t8 h2) fun t9=>
 pK (xA t9) fun t10=>
 NW C gl (.loop (.scope q1)) ⟨[(1,t1),(13,t9),(14,t10),(15,(AI 0))],h2,(y3++x)⟩ (wA 0 (QA C gl q4 K)))
theorem zaE {C gl q1 q4 v0 h x K}:NW C gl (z1p q1 q4) ⟨enter [v0],h,x⟩ K=WM C gl q1 q4 v0 h x K:=by kernel_rfl
theorem zhW {C gl v0 h x K}:NW C gl kU.body ⟨enter [v0],h,x⟩ K=WM C gl HL YN v0 h x K:=zaE
def zbS:ACode:=(.seq (rg [uO 3 (.box 0),
uO 5 (.box 2),
mV 6 cF] [1,3,5])
(.seq (rg [lD 8 (some 3) 3,
mV 9 1,
cL 10 tF [8,9],
mV 7 10] [3,5,7])
(.seq (rg [mV 11 7,
bN 12 .geq 11 (cI 0),
mV 13 12,
gD 14 13 true (.load none 5),
gD 15 13 true (.bin .neq 14 (cS [])),
uO 16 (.pick 13 15 cF),
mV 17 16,
gD 18 17 true (.faddr 0 none 3),
gD 19 17 true (.load none 18),
gD 20 17 true (.mv 7),
gD 21 17 true (.iaddr (some 2) 19 20),
gD 22 17 true (.faddr 1 none 21),
gD 23 17 true (.load none 22),
gD 24 17 true (.mkfn BI [5]),
gD 25 17 true (.call DD [23,24]),
uO 26 (.pick 17 25 cF),
mV 6 26] [6])
.ret)))
def eU:AFun:=⟨3,[.t 6],zbS,false,false⟩
def UM (C:Hd)(gl:GL)(v0 v1 v2:AV)(h:bA)(x:Esc)(K:KT):Prop:=
 wK (dB v0 h) fun t1 h2 y3=>
 wK (dB v2 h2) fun t4 h5 y6=>
 pK (eA (some 3) t1 h5) fun t7=>
 C tF [t7,v1] h5 fun t8 h9 y10=>
 pK (jA .geq t8 (AI 0)) fun t11=>
 gP t11 true (eA none t4 h9) h9 fun t12 h13 y14=>
 gP t11 true (jA .neq t12 (.p (.str []))) h13 fun t15 h16 y17=>
 pK (MA t11 t15 (AB false)) fun t18=>
 gP t18 true (mA 0 none t1) h16 fun t19 h20 y21=>
 gP t18 true (eA none t19 h20) h20 fun t22 h23 y24=>
 gM t18 true t8 h23 fun t25 h26 y27=>
 gP t18 true (tA (some 2) t22 t25 h26) h26 fun t28 h29 y30=>
 gP t18 true (mA 1 none t28) h29 fun t31 h32 y33=>
 gP t18 true (eA none t31 h32) h32 fun t34 h35 y36=>
 gM t18 true (.fn BI [t4]) h35 fun t37 h38 y39=>
 gV t18 true h38 (C DD [t34,t37] h38) fun t40 h41 y42=>
 pK (MA t18 t40 (AB false)) fun t43=>
 K .ret ⟨[(6,t43)],h41,(y42++(y39++(y36++(y33++(y30++(y27++(y24++(y21++(y17++(y14++(y10++(y6++(y3++x)))))))))))))⟩
theorem zhL {C gl v0 v1 v2 h x K}:NW C gl eU.body ⟨enter [v0,v1,v2],h,x⟩ K=UM C gl v0 v1 v2 h x K:=by kernel_rfl
def zbY:ACode:=(.seq (rg [mV 4 cF] [0,1])
(.seq (rg [mV 5 0,
mV 6 1,
cL 7 uK [5,6],
bN 8 .geq 7 (cI 0),
mV 4 8] [4])
.ret))
def pU:AFun:=⟨2,[.t 4],zbY,true,false⟩
def kW (C:Hd)(gl:GL)(v0 v1:AV)(h:bA)(x:Esc)(K:KT):Prop:=
 C uK [v0,v1] h fun t1 h2 y3=>
 pK (jA .geq t1 (AI 0)) fun t4=>
 K .ret ⟨[(4,t4)],h2,(y3++x)⟩
theorem ziv {C gl v0 v1 h x K}:NW C gl pU.body ⟨enter [v0,v1],h,x⟩ K=kW C gl v0 v1 h x K:=by kernel_rfl
def zbK:ACode:=(.seq (rg [uO 2 (.box 0),
mV 3 cF] [1,2])
(.seq (rg [fA 4 1 none 2,
lD 5 none 4,
fA 6 1 none 1,
lD 7 none 6,
bN 8 .eql 5 7,
mV 9 8,
gD 10 9 true (.faddr 2 none 2),
gD 11 9 true (.load none 10),
gD 12 9 true (.faddr 2 none 1),
gD 13 9 true (.load none 12),
gD 14 9 true (.bin .eql 11 13),
uO 15 (.pick 9 14 cF),
mV 3 15] [3])
.ret))
def QT:AFun:=⟨2,[.t 3],zbK,false,false⟩
def iQ (C:Hd)(gl:GL)(v0 v1:AV)(h:bA)(x:Esc)(K:KT):Prop:=
 wK (dB v0 h) fun t1 h2 y3=>
 pK (mA 1 none t1) fun t4=>
 pK (eA none t4 h2) fun t5=>
 pK (mA 1 none v1) fun t6=>
 pK (eA none t6 h2) fun t7=>
 pK (jA .eql t5 t7) fun t8=>
 gP t8 true (mA 2 none t1) h2 fun t9 h10 y11=>
 gP t8 true (eA none t9 h10) h10 fun t12 h13 y14=>
 gP t8 true (mA 2 none v1) h13 fun t15 h16 y17=>
 gP t8 true (eA none t15 h16) h16 fun t18 h19 y20=>
 gP t8 true (jA .eql t12 t18) h19 fun t21 h22 y23=>
 pK (MA t8 t21 (AB false)) fun t24=>
 K .ret ⟨[(3,t24)],h22,(y23++(y20++(y17++(y14++(y11++(y3++x))))))⟩
theorem zhm {C gl v0 v1 h x K}:NW C gl QT.body ⟨enter [v0,v1],h,x⟩ K=iQ C gl v0 v1 h x K:=by kernel_rfl
def zca:ACode:=(.seq (rg [mV 4 cF] [0,1])
(.seq (rg [mV 5 0,
mV 6 1,
cL 7 HI [5,6],
bN 8 .geq 7 (cI 0),
mV 4 8] [4])
.ret))
def kP:AFun:=⟨2,[.t 4],zca,true,false⟩
def mW (C:Hd)(gl:GL)(v0 v1:AV)(h:bA)(x:Esc)(K:KT):Prop:=
 C HI [v0,v1] h fun t1 h2 y3=>
 pK (jA .geq t1 (AI 0)) fun t4=>
 K .ret ⟨[(4,t4)],h2,(y3++x)⟩
theorem zix {C gl v0 v1 h x K}:NW C gl kP.body ⟨enter [v0,v1],h,x⟩ K=mW C gl v0 v1 h x K:=by kernel_rfl
def zbU:ACode:=(.seq (rg [mV 6 cF] [0,1,2])
(.seq (rg [mV 7 1,
mV 8 0,
bN 9 .leq 7 8,
mV 10 9,
gD 11 10 true (.mv 0),
gD 12 10 true (.mv 2),
gD 13 10 true (.bin .leq 11 12),
uO 14 (.pick 10 13 cF),
mV 6 14] [6])
.ret))
def gU:AFun:=⟨3,[.t 6],zbU,false,false⟩
def dW (C:Hd)(gl:GL)(v0 v1 v2:AV)(h:bA)(x:Esc)(K:KT):Prop:=
 pK (jA .leq v1 v0) fun t1=>
 gM t1 true v0 h fun t2 h3 y4=>
 gM t1 true v2 h3 fun t5 h6 y7=>
 gP t1 true (jA .leq t2 t5) h6 fun t8 h9 y10=>
 pK (MA t1 t8 (AB false)) fun t11=>
 K .ret ⟨[(6,t11)],h9,(y10++(y7++(y4++x)))⟩
theorem zhN {C gl v0 v1 v2 h x K}:NW C gl gU.body ⟨enter [v0,v1,v2],h,x⟩ K=dW C gl v0 v1 v2 h x K:=by kernel_rfl
def wY:ACode:=.pr [1,5,9,10,11] (rg [bN 30 .add 11 (cI 1),
mV 11 30] [1,5,9,10,11])
def z4C (C:Hd)(gl:GL)(v1 v5 v9 v10 v11:AV)(h:bA)(x:Esc)(K:KT):Prop:=
 pK (jA .add v11 (AI 1)) fun t1=>
 K .normal ⟨[(1,v1),(5,v5),(9,v9),(10,v10),(11,t1)],h,x⟩
theorem zic {C gl e h x K}:NW C gl wY ⟨e,h,x⟩ K=z4C C gl (aA e 1) (aA e 5) (aA e 9) (aA e 10) (aA e 11) h x K:=by kernel_rfl
def z1s (q1:ACode):ACode:=.pr [1,5,9,10,11] (.seq (rg [bN 12 .lss 11 10] [1,5,9,10,11,12])
(.seq (.cond 12 .skip
(.exit 0))
(.seq (.block 1 (.seq (rg [iA 13 (some 4) 9 11,
lD 14 (some 4) 13,
uO 7 (.alloc [.p (.int .i64 0),.p (.str []),.p (.int .i64 0),.p (.int .i64 0)]),
wO (.store (some 4) 7 14)] [1,5,7,9,10,11])
(.seq (rg [fA 15 0 none 7,
lD 16 none 15,
bN 17 .eql 16 (cI 2),
mV 18 17,
gD 19 18 true (.faddr 2 none 7),
gD 20 18 true (.load none 19),
gD 21 18 true (.mv 1),
gD 22 18 true (.bin .eql 20 21),
uO 23 (.pick 18 22 cF)] [1,5,7,9,10,11,23])
(.cond 23 (rg [mV 24 5,
fA 25 3 none 7,
lD 26 none 25,
bN 27 .mul (cI 2) 26,
bN 28 .sub 27 (cI 1),
bN 29 .add 24 28,
mV 5 29] [1,5,9,10,11])
.skip))))
q1)))
def IL:ACode:=z1s wY
def fW (C:Hd)(gl:GL)(q1:ACode)(v1 v5 v9 v10 v11:AV)(h:bA)(x:Esc)(K:KT):Prop:=
 pK (jA .lss v11 v10) fun t1=>
 oA t1 (pK (tA (some 4) v9 v11 h) fun t2=>
 pK (eA (some 4) t2 h) fun t3=>
 alK [.p (.int .i64 0),.p (.str []),.p (.int .i64 0),.p (.int .i64 0)] h fun t4 h5 y6=>
 wK (OA (some 4) t4 t3 h5) fun t7 h8 y9=>
 pK (mA 0 none t4) fun t10=>
 pK (eA none t10 h8) fun t11=>
 pK (jA .eql t11 (AI 2)) fun t12=>
 gP t12 true (mA 2 none t4) h8 fun t13 h14 y15=>
 gP t12 true (eA none t13 h14) h14 fun t16 h17 y18=>
 gM t12 true v1 h17 fun t19 h20 y21=>
 gP t12 true (jA .eql t16 t19) h20 fun t22 h23 y24=>
 pK (MA t12 t22 (AB false)) fun t25=>
 oA t25 (pK (mA 3 none t4) fun t26=>
 pK (eA none t26 h23) fun t27=>
 pK (jA .mul (AI 2) t27) fun t28=>
 pK (jA .sub t28 (AI 1)) fun t29=>
 pK (jA .add v5 t29) fun t30=>
 NW C gl q1 ⟨[(1,v1),(5,t30),(9,v9),(10,v10),(11,v11)],h23,(y24++(y21++(y18++(y15++(y9++(y6++x))))))⟩ K)
 (NW C gl q1 ⟨[(1,v1),(5,v5),(7,t4),(9,v9),(10,v10),(11,v11),(23,t25)],h23,(y24++(y21++(y18++(y15++(y9++(y6++x))))))⟩ K))
 (K (.exit 0) ⟨[(1,v1),(5,v5),(9,v9),(10,v10),(11,v11),(12,t1)],h,x⟩)
theorem zaH {C gl q1 e h x K}:NW C gl (z1s q1) ⟨e,h,x⟩ K=fW C gl q1 (aA e 1) (aA e 5) (aA e 9) (aA e 10) (aA e 11) h x K:=by kernel_rfl
theorem zid {C gl e h x K}:NW C gl IL ⟨e,h,x⟩ K=fW C gl wY (aA e 1) (aA e 5) (aA e 9) (aA e 10) (aA e 11) h x K:=zaH
theorem zlv {C gl e h x K}:NW C gl (.loop (.scope IL)) ⟨e,h,x⟩ K=GA C gl (.scope IL) K [(1,aA e 1),(5,aA e 5),(9,aA e 9),(10,aA e 10),(11,aA e 11)] h x:=vB
def bS:ACode:=.pr [5] (.seq (.seq (rg [mV 31 5,
bN 32 .gtr 31 (cI 0)] [32])
(.cond 32 (.seq (rg [mV 4 (.c (.p (.int .u8 49)))] [4])
.ret)
.skip))
(.seq (rg [mV 4 (.c (.p (.int .u8 48)))] [4])
.ret))
def z4D (C:Hd)(gl:GL)(v5:AV)(h:bA)(x:Esc)(K:KT):Prop:=
 pK (jA .gtr v5 (AI 0)) fun t1=>
 oA t1 (K .ret ⟨[(4,(.p (.int .u8 49)))],h,x⟩)
 (K .ret ⟨[(4,(.p (.int .u8 48)))],h,x⟩)
theorem zie {C gl e h x K}:NW C gl bS ⟨e,h,x⟩ K=z4D C gl (aA e 5) h x K:=by kernel_rfl
def z1r (q2 q3:ACode):ACode:=(.seq (rg [uO 2 (.box 0),
mV 4 (.c (.p (.int .u8 0)))] [1,2])
(.seq (rg [mV 5 (cI 0)] [1,2,5])
(.seq (.seq (rg [fA 8 1 none 2,
lD 9 none 8,
lN 10 9,
mV 11 (cI 0)] [1,5,9,10,11])
(.block 0 (.loop (.scope q2))))
q3)))
def mU:AFun:=⟨2,[.t 4],z1r IL bS,false,false⟩
def tQ (C:Hd)(gl:GL)(q2 q3:ACode)(v0 v1:AV)(h:bA)(x:Esc)(K:KT):Prop:=
 wK (dB v0 h) fun t1 h2 y3=>
 pK (mA 1 none t1) fun t4=>
 pK (eA none t4 h2) fun t5=>
 pK (xA t5) fun t6=>
 NW C gl (.loop (.scope q2)) ⟨[(1,v1),(5,(AI 0)),(9,t5),(10,t6),(11,(AI 0))],h2,(y3++x)⟩ (wA 0 (QA C gl q3 K))
theorem zaG {C gl q2 q3 v0 v1 h x K}:NW C gl (z1r q2 q3) ⟨enter [v0,v1],h,x⟩ K=tQ C gl q2 q3 v0 v1 h x K:=by kernel_rfl
theorem zib {C gl v0 v1 h x K}:NW C gl mU.body ⟨enter [v0,v1],h,x⟩ K=tQ C gl IL bS v0 v1 h x K:=zaG
def zbq:ACode:=(.seq (rg [mV 2 cF] [0])
(.seq (rg [mV 3 0,
cL 4 BK [3,(cS [48,49])],
bN 5 .eql 4 (cS []),
mV 2 5] [2])
.ret))
def GO:AFun:=⟨1,[.t 2],zbq,false,false⟩
def dV (C:Hd)(gl:GL)(v0:AV)(h:bA)(x:Esc)(K:KT):Prop:=
 C BK [v0,(.p (.str [48,49]))] h fun t1 h2 y3=>
 pK (jA .eql t1 (.p (.str []))) fun t4=>
 K .ret ⟨[(2,t4)],h2,(y3++x)⟩
theorem zfe {C gl v0 h x K}:NW C gl GO.body ⟨enter [v0],h,x⟩ K=dV C gl v0 h x K:=by kernel_rfl
def zbF:ACode:=(.seq (rg [mV 6 (cI 0)] [0,1,2])
(.seq (.seq (rg [mV 7 2,
mV 8 1,
bN 9 .lss 7 8] [0,1,2,9])
(.cond 9 (.seq (rg [mV 10 1,
mV 6 10] [6])
.ret)
.skip))
(.seq (rg [mV 11 1,
mV 12 0,
mV 13 2,
mV 14 1,
bN 15 .sub 13 14,
bN 16 .add 15 (cI 1),
cL 17 QB [12,16],
bN 18 .add 11 17,
mV 6 18] [6])
.ret)))
def HT:AFun:=⟨3,[.t 6],zbF,false,false⟩
def MV (C:Hd)(gl:GL)(v0 v1 v2:AV)(h:bA)(x:Esc)(K:KT):Prop:=
 pK (jA .lss v2 v1) fun t1=>
 oA t1 (K .ret ⟨[(6,v1)],h,x⟩)
 (pK (jA .sub v2 v1) fun t2=>
 pK (jA .add t2 (AI 1)) fun t3=>
 C QB [v0,t3] h fun t4 h5 y6=>
 pK (jA .add v1 t4) fun t7=>
 K .ret ⟨[(6,t7)],h5,(y6++x)⟩)
theorem zgO {C gl v0 v1 v2 h x K}:NW C gl HT.body ⟨enter [v0,v1,v2],h,x⟩ K=MV C gl v0 v1 v2 h x K:=by kernel_rfl
def zbX:ACode:=(.seq (rg [mV 4 cF] [0,1])
(.seq (rg [mV 5 0,
mV 6 1,
cL 7 GI [5,6],
bN 8 .geq 7 (cI 0),
mV 4 8] [4])
.ret))
def jP:AFun:=⟨2,[.t 4],zbX,true,false⟩
def wQ (C:Hd)(gl:GL)(v0 v1:AV)(h:bA)(x:Esc)(K:KT):Prop:=
 C GI [v0,v1] h fun t1 h2 y3=>
 pK (jA .geq t1 (AI 0)) fun t4=>
 K .ret ⟨[(4,t4)],h2,(y3++x)⟩
theorem ziu {C gl v0 v1 h x K}:NW C gl jP.body ⟨enter [v0,v1],h,x⟩ K=wQ C gl v0 v1 h x K:=by kernel_rfl
def zbH:ACode:=(.seq (rg [uO 2 (.box 0),
mV 3 cF] [1,2])
(.seq (rg [fA 4 0 none 2,
lD 5 none 4,
fA 6 0 none 1,
lD 7 none 6,
bN 8 .eql 5 7,
mV 9 8,
gD 10 9 true (.faddr 1 none 2),
gD 11 9 true (.load none 10),
gD 12 9 true (.faddr 1 none 1),
gD 13 9 true (.load none 12),
gD 14 9 true (.bin .eql 11 13),
uO 15 (.pick 9 14 cF),
mV 3 15] [3])
.ret))
def LT:AFun:=⟨2,[.t 3],zbH,false,false⟩
def gQ (C:Hd)(gl:GL)(v0 v1:AV)(h:bA)(x:Esc)(K:KT):Prop:=
 wK (dB v0 h) fun t1 h2 y3=>
 pK (mA 0 none t1) fun t4=>
 pK (eA none t4 h2) fun t5=>
 pK (mA 0 none v1) fun t6=>
 pK (eA none t6 h2) fun t7=>
 pK (jA .eql t5 t7) fun t8=>
 gP t8 true (mA 1 none t1) h2 fun t9 h10 y11=>
 gP t8 true (eA none t9 h10) h10 fun t12 h13 y14=>
 gP t8 true (mA 1 none v1) h13 fun t15 h16 y17=>
 gP t8 true (eA none t15 h16) h16 fun t18 h19 y20=>
 gP t8 true (jA .eql t12 t18) h19 fun t21 h22 y23=>
 pK (MA t8 t21 (AB false)) fun t24=>
 K .ret ⟨[(3,t24)],h22,(y23++(y20++(y17++(y14++(y11++(y3++x))))))⟩
theorem zha {C gl v0 v1 h x K}:NW C gl LT.body ⟨enter [v0,v1],h,x⟩ K=gQ C gl v0 v1 h x K:=by kernel_rfl
def TL:ACode:=.pr [0,3,7,8] (.seq (rg [bN 9 .lss 8 7] [0,3,7,8,9])
(.seq (.cond 9 .skip
(.exit 0))
(.seq (.block 1 (.seq (rg [mV 10 8,
mV 5 10] [0,3,5,7,8])
(.seq (dr [dF (lD 11 (some 2) 3) [3],
dF (mV 12 0) [0],
dF (mV 13 5) [5],
dF (iA 14 (some 2) 12 13) [12,13],
dF (lD 15 (some 2) 14) [14],
dF (uO 16 (.eqa [2,2] false 11 15)) [11,15]] [0,3,5,7,8,16])
(.cond 16 (.seq (rg [mV 17 5,
mV 4 17] [4])
.ret)
.skip))))
(rg [bN 18 .add 8 (cI 1),
mV 8 18] [0,3,7,8]))))
def z5a (C:Hd)(gl:GL)(v0 v3 v7 v8:AV)(h:bA)(x:Esc)(K:KT):Prop:=
 pK (jA .lss v8 v7) fun t1=>
 oA t1 (pK (eA (some 2) v3 h) fun t2=>
 pK (tA (some 2) v0 v8 h) fun t3=>
 pK (eA (some 2) t3 h) fun t4=>
 pK (oEqa [2,2] false t2 t4) fun t5=>
 oA t5 (K .ret ⟨[(4,v8)],h,x⟩)
 (pK (jA .add v8 (AI 1)) fun t6=>
 K .normal ⟨[(0,v0),(3,v3),(7,v7),(8,t6)],h,x⟩))
 (K (.exit 0) ⟨[(0,v0),(3,v3),(7,v7),(8,v8),(9,t1)],h,x⟩)
theorem ziL {C gl e h x K}:NW C gl TL ⟨e,h,x⟩ K=z5a C gl (aA e 0) (aA e 3) (aA e 7) (aA e 8) h x K:=by kernel_rfl
theorem zl7 {C gl e h x K}:NW C gl (.loop TL) ⟨e,h,x⟩ K=GA C gl TL K [(0,aA e 0),(3,aA e 3),(7,aA e 7),(8,aA e 8)] h x:=jC
def pS:ACode:=.pr [] (.seq (rg [mV 4 (cI (-1))] [4])
.ret)
def z5b (C:Hd)(gl:GL)(h:bA)(x:Esc)(K:KT):Prop:=
 K .ret ⟨[(4,(AI (-1)))],h,x⟩
theorem ziM {C gl e h x K}:NW C gl pS ⟨e,h,x⟩ K=z5b C gl h x K:=by kernel_rfl
def z16 (q1 q2:ACode):ACode:=(.seq (rg [uO 3 (.box 1),
mV 4 (cI 0)] [0,3])
(.seq (.seq (rg [mV 6 0,
lN 7 6,
mV 8 (cI 0)] [0,3,7,8])
(.block 0 (.loop q1)))
q2))
def xU:AFun:=⟨2,[.t 4],z16 TL pS,true,false⟩
def DQ (C:Hd)(gl:GL)(q1 q2:ACode)(v0 v1:AV)(h:bA)(x:Esc)(K:KT):Prop:=
 wK (dB v1 h) fun t1 h2 y3=>
 pK (xA v0) fun t4=>
 NW C gl (.loop q1) ⟨[(0,v0),(3,t1),(7,t4),(8,(AI 0))],h2,(y3++x)⟩ (wA 0 (QA C gl q2 K))
theorem zaV {C gl q1 q2 v0 v1 h x K}:NW C gl (z16 q1 q2) ⟨enter [v0,v1],h,x⟩ K=DQ C gl q1 q2 v0 v1 h x K:=by kernel_rfl
theorem ziK {C gl v0 v1 h x K}:NW C gl xU.body ⟨enter [v0,v1],h,x⟩ K=DQ C gl TL pS v0 v1 h x K:=zaV
def DY:ACode:=.pr [0,1,2,3,4,10,11,12,13] (.seq (.seq (dr [dF (mV 81 1) [1],
dF (bN 82 .gtr 81 (cI 0)) [81],
dF (mV 83 82) [82],
dF (gD 84 83 true (.mv 4)) [4,83],
dF (gD 85 83 true (.mv 0)) [0,83],
dF (gD 86 83 true (.mv 1)) [1,83],
dF (gD 87 83 true (.bin .sub 86 (cI 1))) [86,83],
dF (gD 88 83 true (.iaddr (some 3) 85 87)) [85,87,83],
dF (gD 89 83 true (.load (some 3) 88)) [88,83],
dF (gD 90 83 true (.mv 0)) [0,83],
dF (gD 91 83 true (.mv 13)) [13,83],
dF (gD 92 83 true (.iaddr (some 3) 90 91)) [90,91,83],
dF (gD 93 83 true (.load (some 3) 92)) [92,83],
dT (gD 94 83 true (.callv 84 [89,93])) [84,89,93,83],
dF (gD 95 83 true (.bin .lss 94 (cI 0))) [94,83],
dF (gD 96 83 true (.un .not 95)) [95,83],
dF (uO 97 (.pick 83 96 cF)) [83,96]] [0,1,2,3,4,10,11,12,13,97])
(.cond 97 (.seq (rg [mV 98 0,
mV 99 1,
mV 100 2,
mV 101 13,
mV 102 4,
cL 103 z5R [98,99,100,101,102],
mV 15 103] [0,2,3,4,10,11,15])
(.seq (rg [mV 104 15,
mV 1 104] [0,1,2,3,4,10,11])
(.exit 1)))
.skip))
(.seq (rg [mV 106 0,
mV 107 1,
mV 108 2,
mV 109 13,
mV 110 4,
cL 111 z5Q [106,107,108,109,110],
mV 105 111,
eX 112 105 0,
eX 113 105 1,
mV 16 112,
mV 17 113] [0,1,2,3,4,12,16,17])
(.seq (rg [mV 114 17,
mV 11 114] [0,1,2,3,4,11,12,16])
(.seq (rg [mV 115 16,
mV 116 1,
bN 117 .sub 115 116,
mV 118 2,
mV 119 16,
bN 120 .sub 118 119,
mV 18 117,
mV 19 120] [0,1,2,3,4,11,12,16,18,19])
(.seq (rg [mV 121 12,
bN 122 .quo 121 (cI 8),
mV 20 122] [0,1,2,3,4,11,16,18,19,20])
(.seq (rg [mV 123 18,
mV 124 19,
bN 125 .lss 123 124] [0,1,2,3,4,11,16,18,19,20,125])
(.cond 125 (.seq (rg [mV 126 18,
mV 127 20,
bN 128 .geq 126 127,
mV 10 128] [0,1,2,3,4,10,11,16])
(.seq (rg [mV 129 0,
mV 130 1,
mV 131 16,
mV 132 3,
mV 133 4,
cL 134 cG [129,130,131,132,133]] [0,2,3,4,10,11,16])
(rg [mV 135 16,
bN 136 .add 135 (cI 1),
mV 1 136] [0,1,2,3,4,10,11])))
(.seq (rg [mV 137 19,
mV 138 20,
bN 139 .geq 137 138,
mV 10 139] [0,1,2,3,4,10,11,16])
(.seq (rg [mV 140 0,
mV 141 16,
bN 142 .add 141 (cI 1),
mV 143 2,
mV 144 3,
mV 145 4,
cL 146 cG [140,142,143,144,145]] [0,1,3,4,10,11,16])
(rg [mV 147 16,
mV 2 147] [0,1,2,3,4,10,11]))))))))))
def z5i (C:Hd)(gl:GL)(v0 v1 v2 v3 v4 v10 v11 v12 v13:AV)(h:bA)(x:Esc)(K:KT):Prop:=
 pK (jA .gtr v1 (AI 0)) fun t1=>
 gM t1 true v4 h fun t2 h3 y4=>
 gM t1 true v0 h3 fun t5 h6 y7=>
 gM t1 true v1 h6 fun t8 h9 y10=>
 gP t1 true (jA .sub t8 (AI 1)) h9 fun t11 h12 y13=>
 gP t1 true (tA (some 3) t5 t11 h12) h12 fun t14 h15 y16=>
 gP t1 true (eA (some 3) t14 h15) h15 fun t17 h18 y19=>
 gM t1 true v0 h18 fun t20 h21 y22=>
 gM t1 true v13 h21 fun t23 h24 y25=>
 gP t1 true (tA (some 3) t20 t23 h24) h24 fun t26 h27 y28=>
 gP t1 true (eA (some 3) t26 h27) h27 fun t29 h30 y31=>
 gV t1 true h30 (qJ C t2 [t17,t29] h30) fun t32 h33 y34=>
 gP t1 true (jA .lss t32 (AI 0)) h33 fun t35 h36 y37=>
 gP t1 true (oUn .not t35) h36 fun t38 h39 y40=>
 pK (MA t1 t38 (AB false)) fun t41=>
 oA t41 (C z5R [v0,v1,v2,v13,v4] h39 fun t42 h43 y44=>
 K (.exit 1) ⟨[(0,v0),(1,t42),(2,v2),(3,v3),(4,v4),(10,v10),(11,v11)],h43,(y44++(y40++(y37++(y34++(y31++(y28++(y25++(y22++(y19++(y16++(y13++(y10++(y7++(y4++x))))))))))))))⟩)
 (C z5Q [v0,v1,v2,v13,v4] h39 fun t45 h46 y47=>
 pK (iC t45 0) fun t48=>
 pK (iC t45 1) fun t49=>
 pK (jA .sub t48 v1) fun t50=>
 pK (jA .sub v2 t48) fun t51=>
 pK (jA .quo v12 (AI 8)) fun t52=>
 pK (jA .lss t50 t51) fun t53=>
 oA t53 (pK (jA .geq t50 t52) fun t54=>
 C cG [v0,v1,t48,v3,v4] h46 fun t55 h56 y57=>
 pK (jA .add t48 (AI 1)) fun t58=>
 K .normal ⟨[(0,v0),(1,t58),(2,v2),(3,v3),(4,v4),(10,t54),(11,t49)],h56,(y57++(y47++(y40++(y37++(y34++(y31++(y28++(y25++(y22++(y19++(y16++(y13++(y10++(y7++(y4++x)))))))))))))))⟩)
 (pK (jA .geq t51 t52) fun t59=>
 pK (jA .add t48 (AI 1)) fun t60=>
 C cG [v0,t60,v2,v3,v4] h46 fun t61 h62 y63=>
 K .normal ⟨[(0,v0),(1,v1),(2,t48),(3,v3),(4,v4),(10,t59),(11,t49)],h62,(y63++(y47++(y40++(y37++(y34++(y31++(y28++(y25++(y22++(y19++(y16++(y13++(y10++(y7++(y4++x)))))))))))))))⟩))
theorem zjb {C gl e h x K}:NW C gl DY ⟨e,h,x⟩ K=z5i C gl (aA e 0) (aA e 1) (aA e 2) (aA e 3) (aA e 4) (aA e 10) (aA e 11) (aA e 12) (aA e 13) h x K:=by kernel_rfl
def z1D (q1:ACode):ACode:=.pr [0,1,2,3,4,10,11,12,13,14] (.seq (.seq (rg [mV 68 10,
mV 69 68,
gD 70 69 true (.mv 11),
uO 71 (.pick 69 70 cF),
mV 72 71,
gD 73 72 true (.mv 14),
gD 74 72 true (.bin .eql 73 (cI 1)),
uO 75 (.pick 72 74 cF)] [0,1,2,3,4,10,11,12,13,75])
(.cond 75 (.seq (rg [mV 76 0,
mV 77 1,
mV 78 2,
mV 79 4,
cL 80 z5O [76,77,78,79]] [0,1,2,3,4,10,11,12,13,80])
(.cond 80 .ret
.skip))
.skip))
q1)
def EY:ACode:=z1D DY
def sW (C:Hd)(gl:GL)(q1:ACode)(v0 v1 v2 v3 v4 v10 v11 v12 v13 v14:AV)(h:bA)(x:Esc)(K:KT):Prop:=
 gM v10 true v11 h fun t1 h2 y3=>
 pK (MA v10 t1 (AB false)) fun t4=>
 gM t4 true v14 h2 fun t5 h6 y7=>
 gP t4 true (jA .eql t5 (AI 1)) h6 fun t8 h9 y10=>
 pK (MA t4 t8 (AB false)) fun t11=>
 oA t11 (C z5O [v0,v1,v2,v4] h9 fun t12 h13 y14=>
 oA t12 (K .ret ⟨[(0,v0),(1,v1),(2,v2),(3,v3),(4,v4),(10,v10),(11,v11),(12,v12),(13,v13),(80,t12)],h13,(y14++(y10++(y7++(y3++x))))⟩)
 (NW C gl q1 ⟨[(0,v0),(1,v1),(2,v2),(3,v3),(4,v4),(10,v10),(11,v11),(12,v12),(13,v13),(80,t12)],h13,(y14++(y10++(y7++(y3++x))))⟩ K))
 (NW C gl q1 ⟨[(0,v0),(1,v1),(2,v2),(3,v3),(4,v4),(10,v10),(11,v11),(12,v12),(13,v13),(75,t11)],h9,(y10++(y7++(y3++x)))⟩ K)
theorem zbc {C gl q1 e h x K}:NW C gl (z1D q1) ⟨e,h,x⟩ K=sW C gl q1 (aA e 0) (aA e 1) (aA e 2) (aA e 3) (aA e 4) (aA e 10) (aA e 11) (aA e 12) (aA e 13) (aA e 14) h x K:=by kernel_rfl
theorem zjc {C gl e h x K}:NW C gl EY ⟨e,h,x⟩ K=sW C gl DY (aA e 0) (aA e 1) (aA e 2) (aA e 3) (aA e 4) (aA e 10) (aA e 11) (aA e 12) (aA e 13) (aA e 14) h x K:=zbc
def z1E (q2:ACode):ACode:=.pr [0,1,2,3,4,10,11,12] (.seq (rg [mV 48 0,
mV 49 1,
mV 50 2,
mV 51 4,
cL 52 z5K [48,49,50,51],
mV 47 52,
eX 53 47 0,
eX 54 47 1,
mV 13 53,
mV 14 54] [0,1,2,3,4,10,11,12,13,14])
(.seq (.seq (rg [mV 55 14,
bN 56 .eql 55 (cI 2)] [0,1,2,3,4,10,11,12,13,14,56])
(.cond 56 (.seq (rg [mV 57 0,
mV 58 1,
mV 59 2,
mV 60 4,
cL 61 z5U [57,58,59,60]] [0,1,2,3,4,10,11,12,13])
(.seq (rg [mV 62 2,
bN 63 .sub 62 (cI 1),
mV 64 13,
mV 65 1,
bN 66 .sub 64 65,
bN 67 .sub 63 66,
mV 13 67] [0,1,2,3,4,10,11,12,13])
(rg [mV 14 (cI 1)] [0,1,2,3,4,10,11,12,13,14])))
.skip))
q2))
def FY:ACode:=z1E EY
def tW (C:Hd)(gl:GL)(q2:ACode)(v0 v1 v2 v3 v4 v10 v11 v12:AV)(h:bA)(x:Esc)(K:KT):Prop:=
 C z5K [v0,v1,v2,v4] h fun t1 h2 y3=>
 pK (iC t1 0) fun t4=>
 pK (iC t1 1) fun t5=>
 pK (jA .eql t5 (AI 2)) fun t6=>
 oA t6 (C z5U [v0,v1,v2,v4] h2 fun t7 h8 y9=>
 pK (jA .sub v2 (AI 1)) fun t10=>
 pK (jA .sub t4 v1) fun t11=>
 pK (jA .sub t10 t11) fun t12=>
 NW C gl q2 ⟨[(0,v0),(1,v1),(2,v2),(3,v3),(4,v4),(10,v10),(11,v11),(12,v12),(13,t12),(14,(AI 1))],h8,(y9++(y3++x))⟩ K)
 (NW C gl q2 ⟨[(0,v0),(1,v1),(2,v2),(3,v3),(4,v4),(10,v10),(11,v11),(12,v12),(13,t4),(14,t5),(56,t6)],h2,(y3++x)⟩ K)
theorem zbd {C gl q2 e h x K}:NW C gl (z1E q2) ⟨e,h,x⟩ K=tW C gl q2 (aA e 0) (aA e 1) (aA e 2) (aA e 3) (aA e 4) (aA e 10) (aA e 11) (aA e 12) h x K:=by kernel_rfl
theorem zjd {C gl e h x K}:NW C gl FY ⟨e,h,x⟩ K=tW C gl EY (aA e 0) (aA e 1) (aA e 2) (aA e 3) (aA e 4) (aA e 10) (aA e 11) (aA e 12) h x K:=zbd
def z1F (q3:ACode):ACode:=.pr [0,1,2,3,4,10,11] (.block 1 (.seq (rg [mV 21 2,
mV 22 1,
bN 23 .sub 21 22,
mV 12 23] [0,1,2,3,4,10,11,12])
(.seq (.seq (rg [mV 24 12,
bN 25 .leq 24 (cI 12)] [0,1,2,3,4,10,11,12,25])
(.cond 25 (.seq (rg [mV 26 0,
mV 27 1,
mV 28 2,
mV 29 4,
cL 30 yK [26,27,28,29]] [])
.ret)
.skip))
(.seq (.seq (rg [mV 31 3,
bN 32 .eql 31 (cI 0)] [0,1,2,3,4,10,11,12,32])
(.cond 32 (.seq (rg [mV 33 0,
mV 34 1,
mV 35 2,
mV 36 4,
cL 37 z5M [33,34,35,36]] [])
.ret)
.skip))
(.seq (.seq (rg [mV 38 10,
uO 39 (.un .not 38)] [0,1,2,3,4,10,11,12,39])
(.cond 39 (.seq (rg [mV 40 0,
mV 41 1,
mV 42 2,
mV 43 4,
cL 44 z5I [40,41,42,43]] [0,1,2,3,4,10,11,12])
(rg [mV 45 3,
bN 46 .sub 45 (cI 1),
mV 3 46] [0,1,2,3,4,10,11,12]))
.skip))
q3)))))
def XL:ACode:=z1F FY
def uW (C:Hd)(gl:GL)(q3:ACode)(v0 v1 v2 v3 v4 v10 v11:AV)(h:bA)(x:Esc)(K:KT):Prop:=
 pK (jA .sub v2 v1) fun t1=>
 pK (jA .leq t1 (AI 12)) fun t2=>
 oA t2 (C yK [v0,v1,v2,v4] h fun t3 h4 y5=>
 K .ret ⟨[],h4,(y5++x)⟩)
 (pK (jA .eql v3 (AI 0)) fun t6=>
 oA t6 (C z5M [v0,v1,v2,v4] h fun t7 h8 y9=>
 K .ret ⟨[],h8,(y9++x)⟩)
 (pK (oUn .not v10) fun t10=>
 oA t10 (C z5I [v0,v1,v2,v4] h fun t11 h12 y13=>
 pK (jA .sub v3 (AI 1)) fun t14=>
 NW C gl q3 ⟨[(0,v0),(1,v1),(2,v2),(3,t14),(4,v4),(10,v10),(11,v11),(12,t1)],h12,(y13++x)⟩ (wA 1 K))
 (NW C gl q3 ⟨[(0,v0),(1,v1),(2,v2),(3,v3),(4,v4),(10,v10),(11,v11),(12,t1),(39,t10)],h,x⟩ (wA 1 K))))
theorem zbe {C gl q3 e h x K}:NW C gl (z1F q3) ⟨e,h,x⟩ K=uW C gl q3 (aA e 0) (aA e 1) (aA e 2) (aA e 3) (aA e 4) (aA e 10) (aA e 11) h x K:=by kernel_rfl
theorem zje {C gl e h x K}:NW C gl XL ⟨e,h,x⟩ K=uW C gl FY (aA e 0) (aA e 1) (aA e 2) (aA e 3) (aA e 4) (aA e 10) (aA e 11) h x K:=zbe
theorem zlD {C gl e h x K}:NW C gl (.loop XL) ⟨e,h,x⟩ K=GA C gl XL K [(0,aA e 0),(1,aA e 1),(2,aA e 2),(3,aA e 3),(4,aA e 4),(10,aA e 10),(11,aA e 11)] h x:=jC
def z1C (q4:ACode):ACode:=(.seq (rg [mV 10 cT] [0,1,2,3,4,10])
(.seq (rg [mV 11 cT] [0,1,2,3,4,10,11])
(.block 0 (.loop q4))))
def DU:AFun:=⟨5,[],z1C XL,true,false⟩
def HQ (C:Hd)(gl:GL)(q4:ACode)(v0 v1 v2 v3 v4:AV)(h:bA)(x:Esc)(K:KT):Prop:=
 NW C gl (.loop q4) ⟨[(0,v0),(1,v1),(2,v2),(3,v3),(4,v4),(10,(AB true)),(11,(AB true))],h,x⟩ (wA 0 K)
theorem zbb {C gl q4 v0 v1 v2 v3 v4 h x K}:NW C gl (z1C q4) ⟨enter [v0,v1,v2,v3,v4],h,x⟩ K=HQ C gl q4 v0 v1 v2 v3 v4 h x K:=by kernel_rfl
theorem zja {C gl v0 v1 v2 v3 v4 h x K}:NW C gl DU.body ⟨enter [v0,v1,v2,v3,v4],h,x⟩ K=HQ C gl XL v0 v1 v2 v3 v4 h x K:=zbb
def zb7:ACode:=(.seq (rg [mV 2 (cI 0)] [0])
(.seq (.cond cF (.seq (rg [mV 3 0,
uO 4 (.conv (.i .u32) 3),
cL 5 z5G [4],
mV 2 5] [2])
.ret)
.skip)
(.seq (rg [mV 6 0,
cL 7 XJ [6],
mV 2 7] [2])
.ret)))
def vT:AFun:=⟨1,[.t 2],zb7,false,false⟩
def xV (C:Hd)(gl:GL)(v0:AV)(h:bA)(x:Esc)(K:KT):Prop:=
 oA (AB false) (pK (UD .u32 v0) fun t1=>
 C z5G [t1] h fun t2 h3 y4=>
 K .ret ⟨[(2,t2)],h3,(y4++x)⟩)
 (C XJ [v0] h fun t5 h6 y7=>
 K .ret ⟨[(2,t5)],h6,(y7++x)⟩)
theorem zgt {C gl v0 h x K}:NW C gl vT.body ⟨enter [v0],h,x⟩ K=xV C gl v0 h x K:=by kernel_rfl
def zb2:ACode:=(.seq (rg [mV 4 (cI 0)] [0,1])
(.seq (rg [mV 7 0,
cL 8 TE [7],
mV 5 8] [0,1,5])
(.seq (rg [mV 9 1,
cL 10 TE [9],
mV 6 10] [0,1,5,6])
(.seq (.seq (rg [mV 11 5] [0,1,6,11])
(.cond 11 (.seq (.seq (rg [mV 12 6] [12])
(.cond 12 (.seq (rg [mV 4 (cI 0)] [4])
.ret)
.skip))
(.seq (rg [mV 4 (cI (-1))] [4])
.ret))
.skip))
(.seq (.seq (rg [mV 13 6] [0,1,13])
(.cond 13 (.seq (rg [mV 4 (cI 1)] [4])
.ret)
.skip))
(.seq (.seq (rg [mV 14 0,
mV 15 1,
bN 16 .lss 14 15] [0,1,16])
(.cond 16 (.seq (rg [mV 4 (cI (-1))] [4])
.ret)
.skip))
(.seq (.seq (rg [mV 17 0,
mV 18 1,
bN 19 .gtr 17 18] [19])
(.cond 19 (.seq (rg [mV 4 (cI 1)] [4])
.ret)
.skip))
(.seq (rg [mV 4 (cI 0)] [4])
.ret))))))))
def rT:AFun:=⟨2,[.t 4],zb2,false,false⟩
def MM (C:Hd)(gl:GL)(v0 v1:AV)(h:bA)(x:Esc)(K:KT):Prop:=
 C TE [v0] h fun t1 h2 y3=>
 C TE [v1] h2 fun t4 h5 y6=>
 oA t1 (oA t4 (K .ret ⟨[(4,(AI 0))],h5,(y6++(y3++x))⟩)
 (K .ret ⟨[(4,(AI (-1)))],h5,(y6++(y3++x))⟩))
 (oA t4 (K .ret ⟨[(4,(AI 1))],h5,(y6++(y3++x))⟩)
 (pK (jA .lss v0 v1) fun t7=>
 oA t7 (K .ret ⟨[(4,(AI (-1)))],h5,(y6++(y3++x))⟩)
 (pK (jA .gtr v0 v1) fun t8=>
 oA t8 (K .ret ⟨[(4,(AI 1))],h5,(y6++(y3++x))⟩)
 (K .ret ⟨[(4,(AI 0))],h5,(y6++(y3++x))⟩))))
theorem zgl {C gl v0 v1 h x K}:NW C gl rT.body ⟨enter [v0,v1],h,x⟩ K=MM C gl v0 v1 h x K:=by kernel_rfl
def zcc:ACode:=(.seq (rg [mV 3 0,
lN 4 3,
mV 2 4] [0,2])
(rg [mV 5 0,
mV 6 2,
mV 7 2,
uO 8 (.conv (.i .u64) 7),
cL 9 vH [8],
cL 10 dG [5,(cI 0),6,9]] []))
def zU:AFun:=⟨1,[],zcc,true,false⟩
def pW (C:Hd)(gl:GL)(v0:AV)(h:bA)(x:Esc)(K:KT):Prop:=
 pK (xA v0) fun t1=>
 pK (UD .u64 t1) fun t2=>
 C vH [t2] h fun t3 h4 y5=>
 C dG [v0,(AI 0),t1,t3] h4 fun t6 h7 y8=>
 K .normal ⟨[],h7,(y8++(y5++x))⟩
theorem ziR {C gl v0 h x K}:NW C gl zU.body ⟨enter [v0],h,x⟩ K=pW C gl v0 h x K:=by kernel_rfl
def xY:ACode:=.pr [0,3,4,5] (rg [mV 33 5,
bN 34 .add 33 (cI 1),
mV 5 34] [0,3,4,5])
def z4G (C:Hd)(gl:GL)(v0 v3 v4 v5:AV)(h:bA)(x:Esc)(K:KT):Prop:=
 pK (jA .add v5 (AI 1)) fun t1=>
 K .normal ⟨[(0,v0),(3,v3),(4,v4),(5,t1)],h,x⟩
theorem zik {C gl e h x K}:NW C gl xY ⟨e,h,x⟩ K=z4G C gl (aA e 0) (aA e 3) (aA e 4) (aA e 5) h x K:=by kernel_rfl
def z1v (q1:ACode):ACode:=.pr [0,3,4,5] (.seq (.seq (rg [mV 29 5,
mV 30 4,
lN 31 30,
bN 32 .lss 29 31] [0,3,4,5,32])
(.cond 32 .skip
(.exit 2)))
(.seq (.block 3 (.seq (dr [dF (mV 35 4) [4],
dF (mV 36 5) [5],
dF (iA 37 none 35 36) [35,36],
dF (lD 38 none 37) [37],
dF (mV 39 4) [4],
dF (mV 40 5) [5],
dF (bN 41 .sub 40 (cI 1)) [40],
dF (iA 42 none 39 41) [39,41],
dF (lD 43 none 42) [42],
dF (bN 44 .neq 38 43) [38,43]] [0,3,4,5,44])
(.cond 44 (.seq (rg [mV 45 0,
mV 46 3,
mV 47 4,
mV 48 5,
iA 49 none 47 48,
lD 50 none 49,
iA 51 none 45 46,
wO (.store none 51 50)] [0,3,4,5])
(rg [mV 52 3,
bN 53 .add 52 (cI 1),
mV 3 53] [0,3,4,5]))
.skip)))
q1))
def ZN:ACode:=z1v xY
def iW (C:Hd)(gl:GL)(q1:ACode)(v0 v3 v4 v5:AV)(h:bA)(x:Esc)(K:KT):Prop:=
 pK (xA v4) fun t1=>
 pK (jA .lss v5 t1) fun t2=>
 oA t2 (pK (tA none v4 v5 h) fun t3=>
 pK (eA none t3 h) fun t4=>
 pK (jA .sub v5 (AI 1)) fun t5=>
 pK (tA none v4 t5 h) fun t6=>
 pK (eA none t6 h) fun t7=>
 pK (jA .neq t4 t7) fun t8=>
 oA t8 (pK (tA none v4 v5 h) fun t9=>
 pK (eA none t9 h) fun t10=>
 pK (tA none v0 v3 h) fun t11=>
 wK (OA none t11 t10 h) fun t12 h13 y14=>
 pK (jA .add v3 (AI 1)) fun t15=>
 NW C gl q1 ⟨[(0,v0),(3,t15),(4,v4),(5,v5)],h13,(y14++x)⟩ K)
 (NW C gl q1 ⟨[(0,v0),(3,v3),(4,v4),(5,v5),(44,t8)],h,x⟩ K))
 (K (.exit 2) ⟨[(0,v0),(3,v3),(4,v4),(5,v5),(32,t2)],h,x⟩)
theorem zaK {C gl q1 e h x K}:NW C gl (z1v q1) ⟨e,h,x⟩ K=iW C gl q1 (aA e 0) (aA e 3) (aA e 4) (aA e 5) h x K:=by kernel_rfl
theorem zil {C gl e h x K}:NW C gl ZN ⟨e,h,x⟩ K=iW C gl xY (aA e 0) (aA e 3) (aA e 4) (aA e 5) h x K:=zaK
theorem zlx {C gl e h x K}:NW C gl (.loop ZN) ⟨e,h,x⟩ K=GA C gl ZN K [(0,aA e 0),(3,aA e 3),(4,aA e 4),(5,aA e 5)] h x:=jC
def yY:ACode:=.pr [0,3] (.seq (rg [mV 54 0,
mV 55 3,
uO 56 (.slice none 54 (some 55) none none),
wO (.clr none (.str []) 56)] [0,3])
(.seq (rg [mV 57 0,
mV 58 3,
uO 59 (.slice none 57 none (some 58) none),
mV 2 59] [2])
.ret))
def z4H (C:Hd)(gl:GL)(v0 v3:AV)(h:bA)(x:Esc)(K:KT):Prop:=
 pK (GE none v0 (some v3) none none h) fun t1=>
 wK (oClr none (.str []) t1 h) fun t2 h3 y4=>
 pK (GE none v0 none (some v3) none h3) fun t5=>
 K .ret ⟨[(2,t5)],h3,(y4++x)⟩
theorem zim {C gl e h x K}:NW C gl yY ⟨e,h,x⟩ K=z4H C gl (aA e 0) (aA e 3) h x K:=by kernel_rfl
def zY:ACode:=.pr [0,3] (rg [mV 14 3,
bN 15 .add 14 (cI 1),
mV 3 15] [0,3])
def z4I (C:Hd)(gl:GL)(v0 v3:AV)(h:bA)(x:Esc)(K:KT):Prop:=
 pK (jA .add v3 (AI 1)) fun t1=>
 K .normal ⟨[(0,v0),(3,t1)],h,x⟩
theorem zin {C gl e h x K}:NW C gl zY ⟨e,h,x⟩ K=z4I C gl (aA e 0) (aA e 3) h x K:=by kernel_rfl
def z1w (q2 q3 q4:ACode):ACode:=.pr [0,3] (.seq (.seq (rg [mV 10 3,
mV 11 0,
lN 12 11,
bN 13 .lss 10 12] [0,3,13])
(.cond 13 .skip
(.exit 0)))
(.seq (.block 1 (.seq (dr [dF (mV 16 0) [0],
dF (mV 17 3) [3],
dF (iA 18 none 16 17) [16,17],
dF (lD 19 none 18) [18],
dF (mV 20 0) [0],
dF (mV 21 3) [3],
dF (bN 22 .sub 21 (cI 1)) [21],
dF (iA 23 none 20 22) [20,22],
dF (lD 24 none 23) [23],
dF (bN 25 .eql 19 24) [19,24]] [0,3,25])
(.cond 25 (.seq (rg [mV 26 0,
mV 27 3,
uO 28 (.slice none 26 (some 27) none none),
mV 4 28] [0,3,4])
(.seq (.seq (rg [mV 5 (cI 1)] [0,3,4,5])
(.block 2 (.loop q2)))
q3))
.skip)))
q4))
def KL:ACode:=z1w ZN yY zY
def jW (C:Hd)(gl:GL)(q2 q3 q4:ACode)(v0 v3:AV)(h:bA)(x:Esc)(K:KT):Prop:=
 pK (xA v0) fun t1=>
 pK (jA .lss v3 t1) fun t2=>
 oA t2 (pK (tA none v0 v3 h) fun t3=>
 pK (eA none t3 h) fun t4=>
 pK (jA .sub v3 (AI 1)) fun t5=>
 pK (tA none v0 t5 h) fun t6=>
 pK (eA none t6 h) fun t7=>
 pK (jA .eql t4 t7) fun t8=>
 oA t8 (pK (GE none v0 (some v3) none none h) fun t9=>
 NW C gl (.loop q2) ⟨[(0,v0),(3,v3),(4,t9),(5,(AI 1))],h,x⟩ (wA 2 (QA C gl q3 (wA 1 (QA C gl q4 K)))))
 (NW C gl q4 ⟨[(0,v0),(3,v3),(25,t8)],h,x⟩ K))
 (K (.exit 0) ⟨[(0,v0),(3,v3),(13,t2)],h,x⟩)
theorem zaL {C gl q2 q3 q4 e h x K}:NW C gl (z1w q2 q3 q4) ⟨e,h,x⟩ K=jW C gl q2 q3 q4 (aA e 0) (aA e 3) h x K:=by kernel_rfl
theorem zio {C gl e h x K}:NW C gl KL ⟨e,h,x⟩ K=jW C gl ZN yY zY (aA e 0) (aA e 3) h x K:=zaL
theorem zly {C gl e h x K}:NW C gl (.loop KL) ⟨e,h,x⟩ K=GA C gl KL K [(0,aA e 0),(3,aA e 3)] h x:=jC
def fS:ACode:=.pr [0] (.seq (rg [mV 60 0,
mV 2 60] [2])
.ret)
def z4J (C:Hd)(gl:GL)(v0:AV)(h:bA)(x:Esc)(K:KT):Prop:=
 K .ret ⟨[(2,v0)],h,x⟩
theorem ziq {C gl e h x K}:NW C gl fS ⟨e,h,x⟩ K=z4J C gl (aA e 0) h x K:=by kernel_rfl
def z1u (q5 q6:ACode):ACode:=(.seq (rg [mV 2 (.c (.p (.sl none [])))] [0])
(.seq (.seq (rg [mV 6 0,
lN 7 6,
bN 8 .lss 7 (cI 2)] [0,8])
(.cond 8 (.seq (rg [mV 9 0,
mV 2 9] [2])
.ret)
.skip))
(.seq (.seq (rg [mV 3 (cI 1)] [0,3])
(.block 0 (.loop q5)))
q6)))
def iP:AFun:=⟨1,[.t 2],z1u KL fS,true,false⟩
def YM (C:Hd)(gl:GL)(q5 q6:ACode)(v0:AV)(h:bA)(x:Esc)(K:KT):Prop:=
 pK (xA v0) fun t1=>
 pK (jA .lss t1 (AI 2)) fun t2=>
 oA t2 (K .ret ⟨[(2,v0)],h,x⟩)
 (NW C gl (.loop q5) ⟨[(0,v0),(3,(AI 1))],h,x⟩ (wA 0 (QA C gl q6 K)))
theorem zaJ {C gl q5 q6 v0 h x K}:NW C gl (z1u q5 q6) ⟨enter [v0],h,x⟩ K=YM C gl q5 q6 v0 h x K:=by kernel_rfl
theorem zij {C gl v0 h x K}:NW C gl iP.body ⟨enter [v0],h,x⟩ K=YM C gl KL fS v0 h x K:=zaJ
def HR:ACode:=.pr [0] (.seq (rg [mV 15 0,
mV 4 15] [4])
.ret)
def z3P (C:Hd)(gl:GL)(v0:AV)(h:bA)(x:Esc)(K:KT):Prop:=
 K .ret ⟨[(4,v0)],h,x⟩
theorem zg2 {C gl e h x K}:NW C gl HR ⟨e,h,x⟩ K=z3P C gl (aA e 0) h x K:=by kernel_rfl
def z09 (q1:ACode):ACode:=(.seq (rg [mV 4 (cI 0)] [0,1])
(.seq (.seq (rg [mV 5 1,
bN 6 .lss 5 (cI 1)] [0,1,6])
(.cond 6 (.seq (rg [mV 4 (cI 0)] [4])
.ret)
.skip))
(.seq (rg [mV 7 0,
mV 8 1,
bN 9 .rem 7 8,
mV 0 9] [0,1])
(.seq (.seq (rg [mV 10 0,
bN 11 .lss 10 (cI 0)] [0,1,11])
(.cond 11 (rg [mV 12 0,
mV 13 1,
bN 14 .add 12 13,
mV 0 14] [0])
.skip))
q1))))
def yT:AFun:=⟨2,[.t 4],z09 HR,false,false⟩
def YP (C:Hd)(gl:GL)(q1:ACode)(v0 v1:AV)(h:bA)(x:Esc)(K:KT):Prop:=
 pK (jA .lss v1 (AI 1)) fun t1=>
 oA t1 (K .ret ⟨[(4,(AI 0))],h,x⟩)
 (pK (jA .rem v0 v1) fun t2=>
 pK (jA .lss t2 (AI 0)) fun t3=>
 oA t3 (pK (jA .add t2 v1) fun t4=>
 NW C gl q1 ⟨[(0,t4)],h,x⟩ K)
 (NW C gl q1 ⟨[(0,t2),(1,v1),(11,t3)],h,x⟩ K))
theorem z9Y {C gl q1 v0 v1 h x K}:NW C gl (z09 q1) ⟨enter [v0,v1],h,x⟩ K=YP C gl q1 v0 v1 h x K:=by kernel_rfl
theorem zg1 {C gl v0 v1 h x K}:NW C gl yT.body ⟨enter [v0,v1],h,x⟩ K=YP C gl HR v0 v1 h x K:=z9Y
def zbD:ACode:=(.seq (rg [mV 6 (cI 0)] [0,1,2])
(.seq (.seq (rg [mV 7 0,
cL 8 xC [7,(cI 12)]] [0,1,2,8])
(.cond 8 (.seq (rg [mV 9 0,
mV 10 1,
bN 11 .sub 10 (cI 1),
mV 12 2,
bN 13 .add 12 (cI 1),
mV 14 1,
mV 15 2,
uO 16 (.bsl false none 6 (.int .i64 0) [(0,11),(1,13),(2,14),(3,15),(4,(cI (-1099511627776))),(5,(cI 1099511627776))]),
cL 17 lE [9,16],
mV 6 17] [6])
.ret)
.skip))
(.seq (rg [mV 18 0,
mV 19 1,
mV 20 2,
cL 21 XF [18,19,20],
mV 6 21] [6])
.ret)))
def FT:AFun:=⟨3,[.t 6],zbD,false,false⟩
def dQ (C:Hd)(gl:GL)(v0 v1 v2:AV)(h:bA)(x:Esc)(K:KT):Prop:=
 C xC [v0,(AI 12)] h fun t1 h2 y3=>
 oA t1 (pK (jA .sub v1 (AI 1)) fun t4=>
 pK (jA .add v2 (AI 1)) fun t5=>
 wK (jB false none 6 (.int .i64 0) [(0,t4),(1,t5),(2,v1),(3,v2),(4,(AI (-1099511627776))),(5,(AI 1099511627776))] h2) fun t6 h7 y8=>
 C lE [v0,t6] h7 fun t9 h10 y11=>
 K .ret ⟨[(6,t9)],h10,(y11++(y8++(y3++x)))⟩)
 (C XF [v0,v1,v2] h2 fun t12 h13 y14=>
 K .ret ⟨[(6,t12)],h13,(y14++(y3++x))⟩)
theorem zgM {C gl v0 v1 v2 h x K}:NW C gl FT.body ⟨enter [v0,v1,v2],h,x⟩ K=dQ C gl v0 v1 v2 h x K:=by kernel_rfl
def zbE:ACode:=(.seq (rg [mV 4 (cI 0)] [0,1])
(.seq (rg [mV 5 1,
mV 6 0,
mV 7 1,
lN 8 7,
cL 9 QB [6,8],
iA 10 none 5 9,
lD 11 none 10,
mV 4 11] [4])
.ret))
def GT:AFun:=⟨2,[.t 4],zbE,false,false⟩
def KV (C:Hd)(gl:GL)(v0 v1:AV)(h:bA)(x:Esc)(K:KT):Prop:=
 pK (xA v1) fun t1=>
 C QB [v0,t1] h fun t2 h3 y4=>
 pK (tA none v1 t2 h3) fun t5=>
 pK (eA none t5 h3) fun t6=>
 K .ret ⟨[(4,t6)],h3,(y4++x)⟩
theorem zgN {C gl v0 v1 h x K}:NW C gl GT.body ⟨enter [v0,v1],h,x⟩ K=KV C gl v0 v1 h x K:=by kernel_rfl
def GX:ACode:=.pr [1,5,6,7,8,17,18,19,25,26,27] (rg [bN 57 .add 27 (cI 1),
mV 27 57] [1,5,6,7,8,17,18,19,25,26,27])
def z3z (C:Hd)(gl:GL)(v1 v5 v6 v7 v8 v17 v18 v19 v25 v26 v27:AV)(h:bA)(x:Esc)(K:KT):Prop:=
 pK (jA .add v27 (AI 1)) fun t1=>
 K .normal ⟨[(1,v1),(5,v5),(6,v6),(7,v7),(8,v8),(17,v17),(18,v18),(19,v19),(25,v25),(26,v26),(27,t1)],h,x⟩
theorem zf7 {C gl e h x K}:NW C gl GX ⟨e,h,x⟩ K=z3z C gl (aA e 1) (aA e 5) (aA e 6) (aA e 7) (aA e 8) (aA e 17) (aA e 18) (aA e 19) (aA e 25) (aA e 26) (aA e 27) h x K:=by kernel_rfl
def z0m (q1:ACode):ACode:=.pr [1,5,6,7,8,17,18,19,25,26,27] (.seq (rg [bN 28 .lss 27 26] [1,5,6,7,8,17,18,19,25,26,27,28])
(.seq (.cond 28 .skip
(.exit 2))
(.seq (.block 3 (.seq (rg [mV 29 27,
iA 30 (some 4) 25 27,
lD 31 (some 4) 30,
uO 10 (.alloc [.p (.int .i64 0),.p (.str []),.p (.int .i64 0),.p (.int .i64 0)]),
mV 9 29,
wO (.store (some 4) 10 31)] [1,5,6,7,8,9,10,17,18,19,25,26,27])
(.seq (.seq (rg [fA 32 0 none 10,
lD 33 none 32,
mV 34 1,
bN 35 .neq 33 34] [1,5,6,7,8,9,10,17,18,19,25,26,27,35])
(.cond 35 (.exit 3)
.skip))
(.seq (rg [mV 37 5,
fA 38 0 none 8,
lD 39 none 38,
fA 40 1 none 10,
lD 41 none 40,
uO 42 (.build [.p (.str []),.p (.str [])] [(0,1,39),(1,1,41)]),
uO 43 (.look ((some 2),[2,2]) true (.p (.str [])) 37 42),
mV 36 43,
eX 44 36 0,
eX 45 36 1,
mV 11 44,
mV 12 45] [1,5,6,7,8,9,11,12,17,18,19,25,26,27])
(.seq (rg [mV 46 12] [1,5,6,7,8,9,11,17,18,19,25,26,27,46])
(.cond 46 (rg [mV 47 6,
mV 48 11,
mV 49 6,
mV 50 11,
uO 51 (.look (none,[2]) false (.sl0 (some 2)) 49 50),
mV 52 7,
mV 53 9,
uO 54 (.build [.p (.int .i64 0),.p (.int .i64 0)] [(0,1,52),(1,1,53)]),
uO 55 (.bsl false (some 2) 1 (.agg [.int .i64 0,.int .i64 0]) [(0,54)]),
uO 56 (.app (some 2) 51 55),
wO (.mupd (none,[2]) 47 48 56)] [1,5,6,7,8,17,18,19,25,26,27])
.skip))))))
q1)))
def XK:ACode:=z0m GX
def kV (C:Hd)(gl:GL)(q1:ACode)(v1 v5 v6 v7 v8 v17 v18 v19 v25 v26 v27:AV)(h:bA)(x:Esc)(K:KT):Prop:=
 pK (jA .lss v27 v26) fun t1=>
 oA t1 (pK (tA (some 4) v25 v27 h) fun t2=>
 pK (eA (some 4) t2 h) fun t3=>
 alK [.p (.int .i64 0),.p (.str []),.p (.int .i64 0),.p (.int .i64 0)] h fun t4 h5 y6=>
 wK (OA (some 4) t4 t3 h5) fun t7 h8 y9=>
 pK (mA 0 none t4) fun t10=>
 pK (eA none t10 h8) fun t11=>
 pK (jA .neq t11 v1) fun t12=>
 oA t12 (NW C gl q1 ⟨[(1,v1),(5,v5),(6,v6),(7,v7),(8,v8),(9,v27),(10,t4),(17,v17),(18,v18),(19,v19),(25,v25),(26,v26),(27,v27),(35,t12)],h8,(y9++(y6++x))⟩ K)
 (pK (mA 0 none v8) fun t13=>
 pK (eA none t13 h8) fun t14=>
 pK (mA 1 none t4) fun t15=>
 pK (eA none t15 h8) fun t16=>
 pK (BC [.p (.str []),.p (.str [])] [(0,1,t14),(1,1,t16)]) fun t17=>
 pK (ZA ((some 2),[2,2]) true (.p (.str [])) v5 t17 h8) fun t18=>
 pK (iC t18 0) fun t19=>
 pK (iC t18 1) fun t20=>
 oA t20 (pK (ZA (none,[2]) false (.sl0 (some 2)) v6 t19 h8) fun t21=>
 pK (BC [.p (.int .i64 0),.p (.int .i64 0)] [(0,1,v7),(1,1,v27)]) fun t22=>
 wK (jB false (some 2) 1 (.agg [.int .i64 0,.int .i64 0]) [(0,t22)] h8) fun t23 h24 y25=>
 wK (LC (some 2) t21 t23 h24) fun t26 h27 y28=>
 wK (kB (none,[2]) v6 t19 t26 h27) fun t29 h30 y31=>
 NW C gl q1 ⟨[(1,v1),(5,v5),(6,v6),(7,v7),(8,v8),(17,v17),(18,v18),(19,v19),(25,v25),(26,v26),(27,v27)],h30,(y31++(y28++(y25++(y9++(y6++x)))))⟩ K)
 (NW C gl q1 ⟨[(1,v1),(5,v5),(6,v6),(7,v7),(8,v8),(9,v27),(11,t19),(17,v17),(18,v18),(19,v19),(25,v25),(26,v26),(27,v27),(46,t20)],h8,(y9++(y6++x))⟩ K)))
 (K (.exit 2) ⟨[(1,v1),(5,v5),(6,v6),(7,v7),(8,v8),(17,v17),(18,v18),(19,v19),(25,v25),(26,v26),(27,v27),(28,t1)],h,x⟩)
theorem z9B {C gl q1 e h x K}:NW C gl (z0m q1) ⟨e,h,x⟩ K=kV C gl q1 (aA e 1) (aA e 5) (aA e 6) (aA e 7) (aA e 8) (aA e 17) (aA e 18) (aA e 19) (aA e 25) (aA e 26) (aA e 27) h x K:=by kernel_rfl
theorem zf8 {C gl e h x K}:NW C gl XK ⟨e,h,x⟩ K=kV C gl GX (aA e 1) (aA e 5) (aA e 6) (aA e 7) (aA e 8) (aA e 17) (aA e 18) (aA e 19) (aA e 25) (aA e 26) (aA e 27) h x K:=z9B
theorem zkD {C gl e h x K}:NW C gl (.loop (.scope XK)) ⟨e,h,x⟩ K=GA C gl (.scope XK) K [(1,aA e 1),(5,aA e 5),(6,aA e 6),(7,aA e 7),(8,aA e 8),(17,aA e 17),(18,aA e 18),(19,aA e 19),(25,aA e 25),(26,aA e 26),(27,aA e 27)] h x:=vB
def IX:ACode:=.pr [1,5,6,17,18,19] (rg [bN 58 .add 19 (cI 1),
mV 19 58] [1,5,6,17,18,19])
def z30 (C:Hd)(gl:GL)(v1 v5 v6 v17 v18 v19:AV)(h:bA)(x:Esc)(K:KT):Prop:=
 pK (jA .add v19 (AI 1)) fun t1=>
 K .normal ⟨[(1,v1),(5,v5),(6,v6),(17,v17),(18,v18),(19,t1)],h,x⟩
theorem zf9 {C gl e h x K}:NW C gl IX ⟨e,h,x⟩ K=z30 C gl (aA e 1) (aA e 5) (aA e 6) (aA e 17) (aA e 18) (aA e 19) h x K:=by kernel_rfl
def z0n (q2 q3:ACode):ACode:=.pr [1,5,6,17,18,19] (.seq (rg [bN 20 .lss 19 18] [1,5,6,17,18,19,20])
(.seq (.cond 20 .skip
(.exit 0))
(.seq (.block 1 (.seq (rg [mV 21 19,
iA 22 (some 2) 17 19,
lD 23 (some 2) 22,
uO 8 (.alloc [.p (.str []),.sl0 (some 4)]),
mV 7 21,
wO (.store (some 2) 8 23)] [1,5,6,7,8,17,18,19])
(.seq (rg [fA 24 1 none 8,
lD 25 none 24,
lN 26 25,
mV 27 (cI 0)] [1,5,6,7,8,17,18,19,25,26,27])
(.block 2 (.loop (.scope q2))))))
q3)))
def YK:ACode:=z0n XK IX
def LP (C:Hd)(gl:GL)(q2 q3:ACode)(v1 v5 v6 v17 v18 v19:AV)(h:bA)(x:Esc)(K:KT):Prop:=
 pK (jA .lss v19 v18) fun t1=>
 oA t1 (pK (tA (some 2) v17 v19 h) fun t2=>
 pK (eA (some 2) t2 h) fun t3=>
 alK [.p (.str []),.sl0 (some 4)] h fun t4 h5 y6=>
 wK (OA (some 2) t4 t3 h5) fun t7 h8 y9=>
 pK (mA 1 none t4) fun t10=>
 pK (eA none t10 h8) fun t11=>
 pK (xA t11) fun t12=>
 NW C gl (.loop (.scope q2)) ⟨[(1,v1),(5,v5),(6,v6),(7,v19),(8,t4),(17,v17),(18,v18),(19,v19),(25,t11),(26,t12),(27,(AI 0))],h8,(y9++(y6++x))⟩ (wA 2 (wA 1 (QA C gl q3 K))))
 (K (.exit 0) ⟨[(1,v1),(5,v5),(6,v6),(17,v17),(18,v18),(19,v19),(20,t1)],h,x⟩)
theorem z9C {C gl q2 q3 e h x K}:NW C gl (z0n q2 q3) ⟨e,h,x⟩ K=LP C gl q2 q3 (aA e 1) (aA e 5) (aA e 6) (aA e 17) (aA e 18) (aA e 19) h x K:=by kernel_rfl
theorem z5u {C gl e h x K}:NW C gl YK ⟨e,h,x⟩ K=LP C gl XK IX (aA e 1) (aA e 5) (aA e 6) (aA e 17) (aA e 18) (aA e 19) h x K:=z9C
theorem zkE {C gl e h x K}:NW C gl (.loop (.scope YK)) ⟨e,h,x⟩ K=GA C gl (.scope YK) K [(1,aA e 1),(5,aA e 5),(6,aA e 6),(17,aA e 17),(18,aA e 18),(19,aA e 19)] h x:=vB
def zR:ACode:=.pr [6] (.seq (rg [mV 59 6,
mV 4 59] [4])
.ret)
def z31 (C:Hd)(gl:GL)(v6:AV)(h:bA)(x:Esc)(K:KT):Prop:=
 K .ret ⟨[(4,v6)],h,x⟩
theorem zfA {C gl e h x K}:NW C gl zR ⟨e,h,x⟩ K=z31 C gl (aA e 6) h x K:=by kernel_rfl
def z0l (q4 q5:ACode):ACode:=(.seq (rg [uO 2 (.box 0),
mV 4 (.c (.nilm))] [1,2])
(.seq (rg [lD 13 (some 3) 2,
cL 14 CG [13],
mV 5 14] [1,2,5])
(.seq (rg [uO 15 (.mkmap),
mV 6 15] [1,2,5,6])
(.seq (.seq (rg [fA 16 0 none 2,
lD 17 none 16,
lN 18 17,
mV 19 (cI 0)] [1,5,6,17,18,19])
(.block 0 (.loop (.scope q4))))
q5))))
def PO:AFun:=⟨2,[.t 4],z0l YK zR,false,false⟩
def KP (C:Hd)(gl:GL)(q4 q5:ACode)(v0 v1:AV)(h:bA)(x:Esc)(K:KT):Prop:=
 wK (dB v0 h) fun t1 h2 y3=>
 pK (eA (some 3) t1 h2) fun t4=>
 C CG [t4] h2 fun t5 h6 y7=>
 mmK h6 fun t8 h9 y10=>
 pK (mA 0 none t1) fun t11=>
 pK (eA none t11 h9) fun t12=>
 pK (xA t12) fun t13=>
 NW C gl (.loop (.scope q4)) ⟨[(1,v1),(5,t5),(6,t8),(17,t12),(18,t13),(19,(AI 0))],h9,(y10++(y7++(y3++x)))⟩ (wA 0 (QA C gl q5 K))
theorem z9A {C gl q4 q5 v0 v1 h x K}:NW C gl (z0l q4 q5) ⟨enter [v0,v1],h,x⟩ K=KP C gl q4 q5 v0 v1 h x K:=by kernel_rfl
theorem zf6 {C gl v0 v1 h x K}:NW C gl PO.body ⟨enter [v0,v1],h,x⟩ K=KP C gl YK zR v0 v1 h x K:=z9A
end Go.Am
end
section
/- The functions asv abstract code,and asv formulas over their values: printed by program out of the translation. -/
set_option linter.unusedVariables false
set_option maxRecDepth 100000
namespace Go.Am
def SL:ACode:=.pr [0,1,7,8] (.seq (rg [bN 9 .lss 8 7] [0,1,7,8,9])
(.seq (.cond 9 .skip
(.exit 0))
(.seq (.block 1 (.seq (rg [mV 10 8,
mV 5 10] [0,1,5,7,8])
(.seq (rg [mV 11 1,
mV 12 0,
mV 13 5,
iA 14 none 12 13,
lD 15 none 14,
uO 16 (.callv 11 [15])] [0,1,5,7,8,16])
(.cond 16 (.seq (rg [mV 17 5,
mV 4 17] [4])
.ret)
.skip))))
(rg [bN 18 .add 8 (cI 1),
mV 8 18] [0,1,7,8]))))
def z4Y (C:Hd)(gl:GL)(v0 v1 v7 v8:AV)(h:bA)(x:Esc)(K:KT):Prop:=
 pK (jA .lss v8 v7) fun t1=>
 oA t1 (pK (tA none v0 v8 h) fun t2=>
 pK (eA none t2 h) fun t3=>
 lF C v1 [t3] h fun t4 h5 y6=>
 oA t4 (K .ret ⟨[(4,v8)],h5,(y6++x)⟩)
 (pK (jA .add v8 (AI 1)) fun t7=>
 K .normal ⟨[(0,v0),(1,v1),(7,v7),(8,t7)],h5,(y6++x)⟩))
 (K (.exit 0) ⟨[(0,v0),(1,v1),(7,v7),(8,v8),(9,t1)],h,x⟩)
theorem ziI {C gl e h x K}:NW C gl SL ⟨e,h,x⟩ K=z4Y C gl (aA e 0) (aA e 1) (aA e 7) (aA e 8) h x K:=by kernel_rfl
theorem zl6 {C gl e h x K}:NW C gl (.loop SL) ⟨e,h,x⟩ K=GA C gl SL K [(0,aA e 0),(1,aA e 1),(7,aA e 7),(8,aA e 8)] h x:=jC
def oS:ACode:=.pr [] (.seq (rg [mV 4 (cI (-1))] [4])
.ret)
def z4Z (C:Hd)(gl:GL)(h:bA)(x:Esc)(K:KT):Prop:=
 K .ret ⟨[(4,(AI (-1)))],h,x⟩
theorem ziJ {C gl e h x K}:NW C gl oS ⟨e,h,x⟩ K=z4Z C gl h x K:=by kernel_rfl
def z15 (q1 q2:ACode):ACode:=(.seq (rg [mV 4 (cI 0)] [0,1])
(.seq (.seq (rg [mV 6 0,
lN 7 6,
mV 8 (cI 0)] [0,1,7,8])
(.block 0 (.loop q1)))
q2))
def wU:AFun:=⟨2,[.t 4],z15 SL oS,true,false⟩
def CQ (C:Hd)(gl:GL)(q1 q2:ACode)(v0 v1:AV)(h:bA)(x:Esc)(K:KT):Prop:=
 pK (xA v0) fun t1=>
 NW C gl (.loop q1) ⟨[(0,v0),(1,v1),(7,t1),(8,(AI 0))],h,x⟩ (wA 0 (QA C gl q2 K))
theorem zaU {C gl q1 q2 v0 v1 h x K}:NW C gl (z15 q1 q2) ⟨enter [v0,v1],h,x⟩ K=CQ C gl q1 q2 v0 v1 h x K:=by kernel_rfl
theorem ziH {C gl v0 v1 h x K}:NW C gl wU.body ⟨enter [v0,v1],h,x⟩ K=CQ C gl SL oS v0 v1 h x K:=zaU
def QK:ACode:=.pr [0,23,24] (.seq (rg [bN 25 .lss 24 23] [0,23,24,25])
(.seq (.cond 25 .skip
(.exit 0))
(.seq (.block 1 (.seq (rg [mV 26 24,
mV 3 26] [0,3,23,24])
(.seq (rg [mV 27 0,
mV 28 3,
uO 29 (.idxs 27 28),
mV 4 29] [0,4,23,24])
(.seq (rg [mV 30 4,
bN 31 .geq 30 (.c (.p (.int .u8 97))),
mV 32 31,
gD 33 32 true (.mv 4),
gD 34 32 true (.bin .leq 33 (.c (.p (.int .u8 122)))),
uO 35 (.pick 32 34 cF),
mV 36 35,
gD 37 36 false (.mv 4),
gD 38 36 false (.bin .geq 37 (.c (.p (.int .u8 48)))),
gD 39 36 false (.mv 38),
gD 40 39 true (.mv 4),
gD 41 39 true (.bin .leq 40 (.c (.p (.int .u8 57)))),
gD 42 36 false (.pick 39 41 cF),
uO 43 (.pick 36 cT 42),
mV 44 43,
gD 45 44 false (.mv 4),
gD 46 44 false (.bin .eql 45 (.c (.p (.int .u8 45)))),
uO 47 (.pick 44 cT 46),
mV 48 47,
gD 49 48 false (.mv 4),
gD 50 48 false (.bin .eql 49 (.c (.p (.int .u8 95)))),
uO 51 (.pick 48 cT 50),
uO 52 (.un .not 51)] [0,23,24,52])
(.cond 52 (.seq (rg [mV 2 cF] [2])
.ret)
.skip)))))
(rg [bN 53 .add 24 (cI 1),
mV 24 53] [0,23,24]))))
def z3k (C:Hd)(gl:GL)(v0 v23 v24:AV)(h:bA)(x:Esc)(K:KT):Prop:=
 pK (jA .lss v24 v23) fun t1=>
 oA t1 (pK (YE v0 v24) fun t2=>
 pK (jA .geq t2 (.p (.int .u8 97))) fun t3=>
 gM t3 true t2 h fun t4 h5 y6=>
 gP t3 true (jA .leq t4 (.p (.int .u8 122))) h5 fun t7 h8 y9=>
 pK (MA t3 t7 (AB false)) fun t10=>
 gM t10 false t2 h8 fun t11 h12 y13=>
 gP t10 false (jA .geq t11 (.p (.int .u8 48))) h12 fun t14 h15 y16=>
 gM t10 false t14 h15 fun t17 h18 y19=>
 gM t17 true t2 h18 fun t20 h21 y22=>
 gP t17 true (jA .leq t20 (.p (.int .u8 57))) h21 fun t23 h24 y25=>
 gP t10 false (MA t17 t23 (AB false)) h24 fun t26 h27 y28=>
 pK (MA t10 (AB true) t26) fun t29=>
 gM t29 false t2 h27 fun t30 h31 y32=>
 gP t29 false (jA .eql t30 (.p (.int .u8 45))) h31 fun t33 h34 y35=>
 pK (MA t29 (AB true) t33) fun t36=>
 gM t36 false t2 h34 fun t37 h38 y39=>
 gP t36 false (jA .eql t37 (.p (.int .u8 95))) h38 fun t40 h41 y42=>
 pK (MA t36 (AB true) t40) fun t43=>
 pK (oUn .not t43) fun t44=>
 oA t44 (K .ret ⟨[(2,(AB false))],h41,(y42++(y39++(y35++(y32++(y28++(y25++(y22++(y19++(y16++(y13++(y9++(y6++x))))))))))))⟩)
 (pK (jA .add v24 (AI 1)) fun t45=>
 K .normal ⟨[(0,v0),(23,v23),(24,t45)],h41,(y42++(y39++(y35++(y32++(y28++(y25++(y22++(y19++(y16++(y13++(y9++(y6++x))))))))))))⟩))
 (K (.exit 0) ⟨[(0,v0),(23,v23),(24,v24),(25,t1)],h,x⟩)
theorem zfg {C gl e h x K}:NW C gl QK ⟨e,h,x⟩ K=z3k C gl (aA e 0) (aA e 23) (aA e 24) h x K:=by kernel_rfl
theorem zk5 {C gl e h x K}:NW C gl (.loop QK) ⟨e,h,x⟩ K=GA C gl QK K [(0,aA e 0),(23,aA e 23),(24,aA e 24)] h x:=jC
def uR:ACode:=.pr [] (.seq (rg [mV 2 cT] [2])
.ret)
def z3l (C:Hd)(gl:GL)(h:bA)(x:Esc)(K:KT):Prop:=
 K .ret ⟨[(2,(AB true))],h,x⟩
theorem zfh {C gl e h x K}:NW C gl uR ⟨e,h,x⟩ K=z3l C gl h x K:=by kernel_rfl
def z0c (q1 q2:ACode):ACode:=(.seq (rg [mV 2 cF] [0])
(.seq (.seq (rg [mV 5 0,
bN 6 .eql 5 (cS []),
mV 7 6,
gD 8 7 false (.mv 0),
gD 9 7 false (.lens 8),
gD 10 7 false (.bin .gtr 9 (cI 40)),
uO 11 (.pick 7 cT 10),
mV 12 11,
gD 13 12 false (.mv 0),
gD 14 12 false (.idxs 13 (cI 0)),
gD 15 12 false (.bin .lss 14 (.c (.p (.int .u8 97)))),
uO 16 (.pick 12 cT 15),
mV 17 16,
gD 18 17 false (.mv 0),
gD 19 17 false (.idxs 18 (cI 0)),
gD 20 17 false (.bin .gtr 19 (.c (.p (.int .u8 122)))),
uO 21 (.pick 17 cT 20)] [0,21])
(.cond 21 (.seq (rg [mV 2 cF] [2])
.ret)
.skip))
(.seq (.seq (rg [mV 22 0,
uO 23 (.lens 22),
mV 24 (cI 0)] [0,23,24])
(.block 0 (.loop q1)))
q2)))
def HO:AFun:=⟨1,[.t 2],z0c QK uR,false,false⟩
def jH (C:Hd)(gl:GL)(q1 q2:ACode)(v0:AV)(h:bA)(x:Esc)(K:KT):Prop:=
 pK (jA .eql v0 (.p (.str []))) fun t1=>
 gM t1 false v0 h fun t2 h3 y4=>
 gP t1 false (MG t2) h3 fun t5 h6 y7=>
 gP t1 false (jA .gtr t5 (AI 40)) h6 fun t8 h9 y10=>
 pK (MA t1 (AB true) t8) fun t11=>
 gM t11 false v0 h9 fun t12 h13 y14=>
 gP t11 false (YE t12 (AI 0)) h13 fun t15 h16 y17=>
 gP t11 false (jA .lss t15 (.p (.int .u8 97))) h16 fun t18 h19 y20=>
 pK (MA t11 (AB true) t18) fun t21=>
 gM t21 false v0 h19 fun t22 h23 y24=>
 gP t21 false (YE t22 (AI 0)) h23 fun t25 h26 y27=>
 gP t21 false (jA .gtr t25 (.p (.int .u8 122))) h26 fun t28 h29 y30=>
 pK (MA t21 (AB true) t28) fun t31=>
 oA t31 (K .ret ⟨[(2,(AB false))],h29,(y30++(y27++(y24++(y20++(y17++(y14++(y10++(y7++(y4++x)))))))))⟩)
 (pK (MG v0) fun t32=>
 NW C gl (.loop q1) ⟨[(0,v0),(23,t32),(24,(AI 0))],h29,(y30++(y27++(y24++(y20++(y17++(y14++(y10++(y7++(y4++x)))))))))⟩ (wA 0 (QA C gl q2 K)))
theorem z91 {C gl q1 q2 v0 h x K}:NW C gl (z0c q1 q2) ⟨enter [v0],h,x⟩ K=jH C gl q1 q2 v0 h x K:=by kernel_rfl
theorem zff {C gl v0 h x K}:NW C gl HO.body ⟨enter [v0],h,x⟩ K=jH C gl QK uR v0 h x K:=z91
def ZK:ACode:=.pr [1,13,14,15] (.seq (rg [bN 16 .lss 15 14] [1,13,14,15,16])
(.seq (.cond 16 .skip
(.exit 0))
(.seq (.block 1 (.seq (rg [iA 17 (some 4) 13 15,
lD 18 (some 4) 17,
uO 4 (.alloc [.p (.int .i64 0),.p (.str []),.p (.int .i64 0),.p (.int .i64 0)]),
wO (.store (some 4) 4 18)] [1,4,13,14,15])
(.seq (rg [lD 19 (some 2) 1,
lD 20 (some 4) 4,
cL 21 oI [19,20],
mV 5 21] [1,5,13,14,15])
(.seq (rg [mV 22 5,
bN 23 .neq 22 (cI 0)] [1,5,13,14,15,23])
(.cond 23 (.seq (rg [mV 24 5,
mV 2 24] [2])
.ret)
.skip)))))
(rg [bN 25 .add 15 (cI 1),
mV 15 25] [1,13,14,15]))))
def z32 (C:Hd)(gl:GL)(v1 v13 v14 v15:AV)(h:bA)(x:Esc)(K:KT):Prop:=
 pK (jA .lss v15 v14) fun t1=>
 oA t1 (pK (tA (some 4) v13 v15 h) fun t2=>
 pK (eA (some 4) t2 h) fun t3=>
 alK [.p (.int .i64 0),.p (.str []),.p (.int .i64 0),.p (.int .i64 0)] h fun t4 h5 y6=>
 wK (OA (some 4) t4 t3 h5) fun t7 h8 y9=>
 pK (eA (some 2) v1 h8) fun t10=>
 pK (eA (some 4) t4 h8) fun t11=>
 C oI [t10,t11] h8 fun t12 h13 y14=>
 pK (jA .neq t12 (AI 0)) fun t15=>
 oA t15 (K .ret ⟨[(2,t12)],h13,(y14++(y9++(y6++x)))⟩)
 (pK (jA .add v15 (AI 1)) fun t16=>
 K .normal ⟨[(1,v1),(13,v13),(14,v14),(15,t16)],h13,(y14++(y9++(y6++x)))⟩))
 (K (.exit 0) ⟨[(1,v1),(13,v13),(14,v14),(15,v15),(16,t1)],h,x⟩)
theorem zfC {C gl e h x K}:NW C gl ZK ⟨e,h,x⟩ K=z32 C gl (aA e 1) (aA e 13) (aA e 14) (aA e 15) h x K:=by kernel_rfl
theorem zkF {C gl e h x K}:NW C gl (.loop (.scope ZK)) ⟨e,h,x⟩ K=GA C gl (.scope ZK) K [(1,aA e 1),(13,aA e 13),(14,aA e 14),(15,aA e 15)] h x:=vB
def IN:ACode:=.pr [1,27,28,29] (.seq (rg [bN 30 .lss 29 28] [1,27,28,29,30])
(.seq (.cond 30 .skip
(.exit 2))
(.seq (.block 3 (.seq (rg [mV 31 29,
iA 32 (some 4) 27 29,
lD 33 (some 4) 32,
uO 7 (.alloc [.p (.int .i64 0),.p (.str []),.p (.int .i64 0),.p (.int .i64 0)]),
mV 6 31,
wO (.store (some 4) 7 33)] [1,6,7,27,28,29])
(.seq (rg [lD 34 (some 4) 7,
cL 35 yE [34],
mV 36 35,
gD 37 36 true (.faddr 1 none 1),
gD 38 36 true (.load none 37),
gD 39 36 true (.mv 6),
gD 40 36 true (.slice (some 4) 38 none (some 39) none),
gD 41 36 true (.mkfn tH [7]),
gD 42 36 true (.call DD [40,41]),
uO 43 (.pick 36 42 cF)] [1,27,28,29,43])
(.cond 43 (.seq (rg [mV 2 (cI 6)] [2])
.ret)
.skip))))
(rg [bN 44 .add 29 (cI 1),
mV 29 44] [1,27,28,29]))))
def z33 (C:Hd)(gl:GL)(v1 v27 v28 v29:AV)(h:bA)(x:Esc)(K:KT):Prop:=
 pK (jA .lss v29 v28) fun t1=>
 oA t1 (pK (tA (some 4) v27 v29 h) fun t2=>
 pK (eA (some 4) t2 h) fun t3=>
 alK [.p (.int .i64 0),.p (.str []),.p (.int .i64 0),.p (.int .i64 0)] h fun t4 h5 y6=>
 wK (OA (some 4) t4 t3 h5) fun t7 h8 y9=>
 pK (eA (some 4) t4 h8) fun t10=>
 C yE [t10] h8 fun t11 h12 y13=>
 gP t11 true (mA 1 none v1) h12 fun t14 h15 y16=>
 gP t11 true (eA none t14 h15) h15 fun t17 h18 y19=>
 gM t11 true v29 h18 fun t20 h21 y22=>
 gP t11 true (GE (some 4) t17 none (some t20) none h21) h21 fun t23 h24 y25=>
 gM t11 true (.fn tH [t4]) h24 fun t26 h27 y28=>
 gV t11 true h27 (C DD [t23,t26] h27) fun t29 h30 y31=>
 pK (MA t11 t29 (AB false)) fun t32=>
 oA t32 (K .ret ⟨[(2,(AI 6))],h30,(y31++(y28++(y25++(y22++(y19++(y16++(y13++(y9++(y6++x)))))))))⟩)
 (pK (jA .add v29 (AI 1)) fun t33=>
 K .normal ⟨[(1,v1),(27,v27),(28,v28),(29,t33)],h30,(y31++(y28++(y25++(y22++(y19++(y16++(y13++(y9++(y6++x)))))))))⟩))
 (K (.exit 2) ⟨[(1,v1),(27,v27),(28,v28),(29,v29),(30,t1)],h,x⟩)
theorem zfD {C gl e h x K}:NW C gl IN ⟨e,h,x⟩ K=z33 C gl (aA e 1) (aA e 27) (aA e 28) (aA e 29) h x K:=by kernel_rfl
theorem zkG {C gl e h x K}:NW C gl (.loop (.scope IN)) ⟨e,h,x⟩ K=GA C gl (.scope IN) K [(1,aA e 1),(27,aA e 27),(28,aA e 28),(29,aA e 29)] h x:=vB
def JX:ACode:=.pr [] (.seq (rg [mV 2 (cI 0)] [2])
.ret)
def z34 (C:Hd)(gl:GL)(h:bA)(x:Esc)(K:KT):Prop:=
 K .ret ⟨[(2,(AI 0))],h,x⟩
theorem zfE {C gl e h x K}:NW C gl JX ⟨e,h,x⟩ K=z34 C gl h x K:=by kernel_rfl
def z0p (q2 q3:ACode):ACode:=.pr [1] (.seq (.seq (rg [fA 26 1 none 1,
lD 27 none 26,
lN 28 27,
mV 29 (cI 0)] [1,27,28,29])
(.block 2 (.loop (.scope q2))))
q3)
def JN:ACode:=z0p IN JX
def KM (C:Hd)(gl:GL)(q2 q3:ACode)(v1:AV)(h:bA)(x:Esc)(K:KT):Prop:=
 pK (mA 1 none v1) fun t1=>
 pK (eA none t1 h) fun t2=>
 pK (xA t2) fun t3=>
 NW C gl (.loop (.scope q2)) ⟨[(1,v1),(27,t2),(28,t3),(29,(AI 0))],h,x⟩ (wA 2 (QA C gl q3 K))
theorem z9E {C gl q2 q3 e h x K}:NW C gl (z0p q2 q3) ⟨e,h,x⟩ K=KM C gl q2 q3 (aA e 1) h x K:=by kernel_rfl
theorem CW {C gl e h x K}:NW C gl JN ⟨e,h,x⟩ K=KM C gl IN JX (aA e 1) h x K:=z9E
def z0o (q1 q4:ACode):ACode:=(.seq (rg [uO 1 (.box 0),
mV 2 (cI 0)] [1])
(.seq (.seq (rg [fA 8 1 none 1,
lD 9 none 8,
lN 10 9,
bN 11 .gtr 10 (cI 200)] [1,11])
(.cond 11 (.seq (rg [mV 2 (cI 2)] [2])
.ret)
.skip))
(.seq (.seq (rg [fA 12 1 none 1,
lD 13 none 12,
lN 14 13,
mV 15 (cI 0)] [1,13,14,15])
(.block 0 (.loop (.scope q1))))
q4)))
def QO:AFun:=⟨1,[.t 2],z0o ZK JN,false,false⟩
def JM (C:Hd)(gl:GL)(q1 q4:ACode)(v0:AV)(h:bA)(x:Esc)(K:KT):Prop:=
 wK (dB v0 h) fun t1 h2 y3=>
 pK (mA 1 none t1) fun t4=>
 pK (eA none t4 h2) fun t5=>
 pK (xA t5) fun t6=>
 pK (jA .gtr t6 (AI 200)) fun t7=>
 oA t7 (K .ret ⟨[(2,(AI 2))],h2,(y3++x)⟩)
 (pK (mA 1 none t1) fun t8=>
 pK (eA none t8 h2) fun t9=>
 pK (xA t9) fun t10=>
 NW C gl (.loop (.scope q1)) ⟨[(1,t1),(13,t9),(14,t10),(15,(AI 0))],h2,(y3++x)⟩ (wA 0 (QA C gl q4 K)))
theorem z9D {C gl q1 q4 v0 h x K}:NW C gl (z0o q1 q4) ⟨enter [v0],h,x⟩ K=JM C gl q1 q4 v0 h x K:=by kernel_rfl
theorem zfB {C gl v0 h x K}:NW C gl QO.body ⟨enter [v0],h,x⟩ K=JM C gl ZK JN v0 h x K:=z9D
def aL:ACode:=.pr [1,14,15,16] (.seq (rg [bN 17 .lss 16 15] [1,14,15,16,17])
(.seq (.cond 17 .skip
(.exit 0))
(.seq (.block 1 (.seq (rg [mV 18 16,
iA 19 (some 3) 14 16,
lD 20 (some 3) 19,
uO 4 (.alloc [.p (.str []),.p (.str []),.p (.str [])]),
mV 3 18,
wO (.store (some 3) 4 20)] [1,3,4,14,15,16])
(.block 2 (.seq (rg [fA 22 0 none 4,
lD 23 none 22,
cL 24 qF [23],
uO 25 (.un .not 24),
mV 21 25] [1,3,4,14,15,16,21])
(.cond 21 (.seq (rg [mV 2 (cI 5)] [2])
.ret)
(.seq (rg [lD 27 (some 3) 1,
fA 28 1 none 4,
lD 29 none 28,
fA 30 2 none 4,
lD 31 none 30,
cL 32 sI [27,29,31],
uO 33 (.un .not 32),
mV 26 33] [1,3,4,14,15,16,26])
(.cond 26 (.seq (rg [mV 2 (cI 8)] [2])
.ret)
(.seq (dr [dF (mV 35 3) [3],
dF (bN 36 .gtr 35 (cI 0)) [35],
dF (mV 37 36) [36],
dF (gD 38 37 true (.load (some 3) 4)) [4,37],
dF (gD 39 37 true (.faddr 1 none 1)) [1,37],
dF (gD 40 37 true (.load none 39)) [39,37],
dF (gD 41 37 true (.mv 3)) [3,37],
dF (gD 42 37 true (.bin .sub 41 (cI 1))) [41,37],
dF (gD 43 37 true (.iaddr (some 3) 40 42)) [40,42,37],
dF (gD 44 37 true (.load (some 3) 43)) [43,37],
dT (gD 45 37 true (.call nI [38,44])) [38,44,37],
dF (gD 46 37 true (.bin .leq 45 (cI 0))) [45,37],
dF (uO 47 (.pick 37 46 cF)) [37,46],
dF (mV 34 47) [47]] [1,14,15,16,34])
(.cond 34 (.seq (rg [mV 2 (cI 7)] [2])
.ret)
.skip)))))))))
(rg [bN 48 .add 16 (cI 1),
mV 16 48] [1,14,15,16]))))
def z35 (C:Hd)(gl:GL)(v1 v14 v15 v16:AV)(h:bA)(x:Esc)(K:KT):Prop:=
 pK (jA .lss v16 v15) fun t1=>
 oA t1 (pK (tA (some 3) v14 v16 h) fun t2=>
 pK (eA (some 3) t2 h) fun t3=>
 alK [.p (.str []),.p (.str []),.p (.str [])] h fun t4 h5 y6=>
 wK (OA (some 3) t4 t3 h5) fun t7 h8 y9=>
 pK (mA 0 none t4) fun t10=>
 pK (eA none t10 h8) fun t11=>
 C qF [t11] h8 fun t12 h13 y14=>
 pK (oUn .not t12) fun t15=>
 oA t15 (K .ret ⟨[(2,(AI 5))],h13,(y14++(y9++(y6++x)))⟩)
 (pK (eA (some 3) v1 h13) fun t16=>
 pK (mA 1 none t4) fun t17=>
 pK (eA none t17 h13) fun t18=>
 pK (mA 2 none t4) fun t19=>
 pK (eA none t19 h13) fun t20=>
 C sI [t16,t18,t20] h13 fun t21 h22 y23=>
 pK (oUn .not t21) fun t24=>
 oA t24 (K .ret ⟨[(2,(AI 8))],h22,(y23++(y14++(y9++(y6++x))))⟩)
 (pK (jA .gtr v16 (AI 0)) fun t25=>
 gP t25 true (eA (some 3) t4 h22) h22 fun t26 h27 y28=>
 gP t25 true (mA 1 none v1) h27 fun t29 h30 y31=>
 gP t25 true (eA none t29 h30) h30 fun t32 h33 y34=>
 gM t25 true v16 h33 fun t35 h36 y37=>
 gP t25 true (jA .sub t35 (AI 1)) h36 fun t38 h39 y40=>
 gP t25 true (tA (some 3) t32 t38 h39) h39 fun t41 h42 y43=>
 gP t25 true (eA (some 3) t41 h42) h42 fun t44 h45 y46=>
 gV t25 true h45 (DB C nI [t26,t44] h45) fun t47 h48 y49=>
 gP t25 true (jA .leq t47 (AI 0)) h48 fun t50 h51 y52=>
 pK (MA t25 t50 (AB false)) fun t53=>
 oA t53 (K .ret ⟨[(2,(AI 7))],h51,(y52++(y49++(y46++(y43++(y40++(y37++(y34++(y31++(y28++(y23++(y14++(y9++(y6++x)))))))))))))⟩)
 (pK (jA .add v16 (AI 1)) fun t54=>
 K .normal ⟨[(1,v1),(14,v14),(15,v15),(16,t54)],h51,(y52++(y49++(y46++(y43++(y40++(y37++(y34++(y31++(y28++(y23++(y14++(y9++(y6++x)))))))))))))⟩))))
 (K (.exit 0) ⟨[(1,v1),(14,v14),(15,v15),(16,v16),(17,t1)],h,x⟩)
theorem zfK {C gl e h x K}:NW C gl aL ⟨e,h,x⟩ K=z35 C gl (aA e 1) (aA e 14) (aA e 15) (aA e 16) h x K:=by kernel_rfl
theorem zkH {C gl e h x K}:NW C gl (.loop (.scope aL)) ⟨e,h,x⟩ K=GA C gl (.scope aL) K [(1,aA e 1),(14,aA e 14),(15,aA e 15),(16,aA e 16)] h x:=vB
def KN:ACode:=.pr [5,51,52,53] (.seq (rg [bN 54 .lss 53 52] [5,51,52,53,54])
(.seq (.cond 54 .skip
(.exit 3))
(.seq (.block 4 (.seq (rg [iA 55 (some 3) 51 53,
lD 56 (some 3) 55,
uO 7 (.alloc [.p (.str []),.p (.str []),.p (.str [])]),
wO (.store (some 3) 7 56)] [5,7,51,52,53])
(.seq (rg [fA 57 1 none 7,
lD 58 none 57,
fA 59 2 none 7,
lD 60 none 59,
uO 61 (.build [.p (.str []),.p (.str [])] [(0,1,58),(1,1,60)]),
uO 8 (.alloc [.p (.str []),.p (.str [])]),
wO (.store (some 2) 8 61)] [5,8,51,52,53])
(.seq (.seq (rg [mV 62 5,
lD 63 (some 2) 8,
uO 64 (.look ((some 2),[2,2]) false (AB false) 62 63)] [5,8,51,52,53,64])
(.cond 64 (.seq (rg [mV 2 (cI 6)] [2])
.ret)
.skip))
(rg [mV 65 5,
lD 66 (some 2) 8,
wO (.mupd ((some 2),[2,2]) 65 66 cT)] [5,51,52,53])))))
(rg [bN 67 .add 53 (cI 1),
mV 53 67] [5,51,52,53]))))
def z36 (C:Hd)(gl:GL)(v5 v51 v52 v53:AV)(h:bA)(x:Esc)(K:KT):Prop:=
 pK (jA .lss v53 v52) fun t1=>
 oA t1 (pK (tA (some 3) v51 v53 h) fun t2=>
 pK (eA (some 3) t2 h) fun t3=>
 alK [.p (.str []),.p (.str []),.p (.str [])] h fun t4 h5 y6=>
 wK (OA (some 3) t4 t3 h5) fun t7 h8 y9=>
 pK (mA 1 none t4) fun t10=>
 pK (eA none t10 h8) fun t11=>
 pK (mA 2 none t4) fun t12=>
 pK (eA none t12 h8) fun t13=>
 pK (BC [.p (.str []),.p (.str [])] [(0,1,t11),(1,1,t13)]) fun t14=>
 alK [.p (.str []),.p (.str [])] h8 fun t15 h16 y17=>
 wK (OA (some 2) t15 t14 h16) fun t18 h19 y20=>
 pK (eA (some 2) t15 h19) fun t21=>
 pK (ZA ((some 2),[2,2]) false (AB false) v5 t21 h19) fun t22=>
 oA t22 (K .ret ⟨[(2,(AI 6))],h19,(y20++(y17++(y9++(y6++x))))⟩)
 (pK (eA (some 2) t15 h19) fun t23=>
 wK (kB ((some 2),[2,2]) v5 t23 (AB true) h19) fun t24 h25 y26=>
 pK (jA .add v53 (AI 1)) fun t27=>
 K .normal ⟨[(5,v5),(51,v51),(52,v52),(53,t27)],h25,(y26++(y20++(y17++(y9++(y6++x)))))⟩))
 (K (.exit 3) ⟨[(5,v5),(51,v51),(52,v52),(53,v53),(54,t1)],h,x⟩)
theorem zfL {C gl e h x K}:NW C gl KN ⟨e,h,x⟩ K=z36 C gl (aA e 5) (aA e 51) (aA e 52) (aA e 53) h x K:=by kernel_rfl
theorem zkI {C gl e h x K}:NW C gl (.loop (.scope KN)) ⟨e,h,x⟩ K=GA C gl (.scope KN) K [(5,aA e 5),(51,aA e 51),(52,aA e 52),(53,aA e 53)] h x:=vB
def KX:ACode:=.pr [] (.seq (rg [mV 2 (cI 0)] [2])
.ret)
def z38 (C:Hd)(gl:GL)(h:bA)(x:Esc)(K:KT):Prop:=
 K .ret ⟨[(2,(AI 0))],h,x⟩
theorem zfM {C gl e h x K}:NW C gl KX ⟨e,h,x⟩ K=z38 C gl h x K:=by kernel_rfl
def z0r (q2 q3:ACode):ACode:=.pr [1] (.seq (rg [uO 49 (.mkmap),
mV 5 49] [1,5])
(.seq (.seq (rg [fA 50 1 none 1,
lD 51 none 50,
lN 52 51,
mV 53 (cI 0)] [5,51,52,53])
(.block 3 (.loop (.scope q2))))
q3))
def MN:ACode:=z0r KN KX
def AJ (C:Hd)(gl:GL)(q2 q3:ACode)(v1:AV)(h:bA)(x:Esc)(K:KT):Prop:=
 mmK h fun t1 h2 y3=>
 pK (mA 1 none v1) fun t4=>
 pK (eA none t4 h2) fun t5=>
 pK (xA t5) fun t6=>
 NW C gl (.loop (.scope q2)) ⟨[(5,t1),(51,t5),(52,t6),(53,(AI 0))],h2,(y3++x)⟩ (wA 3 (QA C gl q3 K))
theorem z9G {C gl q2 q3 e h x K}:NW C gl (z0r q2 q3) ⟨e,h,x⟩ K=AJ C gl q2 q3 (aA e 1) h x K:=by kernel_rfl
theorem KQ {C gl e h x K}:NW C gl MN ⟨e,h,x⟩ K=AJ C gl KN KX (aA e 1) h x K:=z9G
def z0q (q1 q4:ACode):ACode:=(.seq (rg [uO 1 (.box 0),
mV 2 (cI 0)] [1])
(.seq (.seq (rg [fA 9 1 none 1,
lD 10 none 9,
lN 11 10,
bN 12 .gtr 11 (cI 1000)] [1,12])
(.cond 12 (.seq (rg [mV 2 (cI 2)] [2])
.ret)
.skip))
(.seq (.seq (rg [fA 13 1 none 1,
lD 14 none 13,
lN 15 14,
mV 16 (cI 0)] [1,14,15,16])
(.block 0 (.loop (.scope q1))))
q4)))
def XO:AFun:=⟨1,[.t 2],z0q aL MN,false,false⟩
def OP (C:Hd)(gl:GL)(q1 q4:ACode)(v0:AV)(h:bA)(x:Esc)(K:KT):Prop:=
 wK (dB v0 h) fun t1 h2 y3=>
 pK (mA 1 none t1) fun t4=>
 pK (eA none t4 h2) fun t5=>
 pK (xA t5) fun t6=>
 pK (jA .gtr t6 (AI 1000)) fun t7=>
 oA t7 (K .ret ⟨[(2,(AI 2))],h2,(y3++x)⟩)
 (pK (mA 1 none t1) fun t8=>
 pK (eA none t8 h2) fun t9=>
 pK (xA t9) fun t10=>
 NW C gl (.loop (.scope q1)) ⟨[(1,t1),(14,t9),(15,t10),(16,(AI 0))],h2,(y3++x)⟩ (wA 0 (QA C gl q4 K)))
theorem z9F {C gl q1 q4 v0 h x K}:NW C gl (z0q q1 q4) ⟨enter [v0],h,x⟩ K=OP C gl q1 q4 v0 h x K:=by kernel_rfl
theorem zfJ {C gl v0 h x K}:NW C gl XO.body ⟨enter [v0],h,x⟩ K=OP C gl aL MN v0 h x K:=z9F
def zbr:ACode:=(.seq (rg [mV 6 cF] [0,1,2])
(.seq (rg [mV 7 0,
mV 8 1,
bN 9 .lss 7 8,
mV 10 9,
gD 11 10 false (.mv 0),
gD 12 10 false (.mv 2),
gD 13 10 false (.bin .gtr 11 12),
uO 14 (.pick 10 cT 13),
mV 6 14] [6])
.ret))
def JO:AFun:=⟨3,[.t 6],zbr,false,false⟩
def eV (C:Hd)(gl:GL)(v0 v1 v2:AV)(h:bA)(x:Esc)(K:KT):Prop:=
 pK (jA .lss v0 v1) fun t1=>
 gM t1 false v0 h fun t2 h3 y4=>
 gM t1 false v2 h3 fun t5 h6 y7=>
 gP t1 false (jA .gtr t2 t5) h6 fun t8 h9 y10=>
 pK (MA t1 (AB true) t8) fun t11=>
 K .ret ⟨[(6,t11)],h9,(y10++(y7++(y4++x)))⟩
theorem zfi {C gl v0 v1 v2 h x K}:NW C gl JO.body ⟨enter [v0,v1,v2],h,x⟩ K=eV C gl v0 v1 v2 h x K:=by kernel_rfl
def FL:ACode:=.pr [0,1,7,8] (.seq (rg [bN 9 .lss 8 7] [0,1,7,8,9])
(.seq (.cond 9 .skip
(.exit 0))
(.seq (.block 1 (.seq (rg [mV 10 8,
mV 5 10] [0,1,5,7,8])
(.seq (rg [mV 11 1,
mV 12 0,
mV 13 5,
uO 14 (.idxs 12 13),
cL 15 AK [11,14],
bN 16 .lss 15 (cI 0)] [0,1,7,8,16])
(.cond 16 (.seq (rg [mV 4 cF] [4])
.ret)
.skip))))
(rg [bN 17 .add 8 (cI 1),
mV 8 17] [0,1,7,8]))))
def z47 (C:Hd)(gl:GL)(v0 v1 v7 v8:AV)(h:bA)(x:Esc)(K:KT):Prop:=
 pK (jA .lss v8 v7) fun t1=>
 oA t1 (pK (YE v0 v8) fun t2=>
 C AK [v1,t2] h fun t3 h4 y5=>
 pK (jA .lss t3 (AI 0)) fun t6=>
 oA t6 (K .ret ⟨[(4,(AB false))],h4,(y5++x)⟩)
 (pK (jA .add v8 (AI 1)) fun t7=>
 K .normal ⟨[(0,v0),(1,v1),(7,v7),(8,t7)],h4,(y5++x)⟩))
 (K (.exit 0) ⟨[(0,v0),(1,v1),(7,v7),(8,v8),(9,t1)],h,x⟩)
theorem zhU {C gl e h x K}:NW C gl FL ⟨e,h,x⟩ K=z47 C gl (aA e 0) (aA e 1) (aA e 7) (aA e 8) h x K:=by kernel_rfl
theorem zls {C gl e h x K}:NW C gl (.loop FL) ⟨e,h,x⟩ K=GA C gl FL K [(0,aA e 0),(1,aA e 1),(7,aA e 7),(8,aA e 8)] h x:=jC
def aS:ACode:=.pr [] (.seq (rg [mV 4 cT] [4])
.ret)
def z48 (C:Hd)(gl:GL)(h:bA)(x:Esc)(K:KT):Prop:=
 K .ret ⟨[(4,(AB true))],h,x⟩
theorem zhV {C gl e h x K}:NW C gl aS ⟨e,h,x⟩ K=z48 C gl h x K:=by kernel_rfl
def z1o (q1 q2:ACode):ACode:=(.seq (rg [mV 4 cF] [0,1])
(.seq (.seq (rg [mV 6 0,
uO 7 (.lens 6),
mV 8 (cI 0)] [0,1,7,8])
(.block 0 (.loop q1)))
q2))
def jU:AFun:=⟨2,[.t 4],z1o FL aS,false,false⟩
def rQ (C:Hd)(gl:GL)(q1 q2:ACode)(v0 v1:AV)(h:bA)(x:Esc)(K:KT):Prop:=
 pK (MG v0) fun t1=>
 NW C gl (.loop q1) ⟨[(0,v0),(1,v1),(7,t1),(8,(AI 0))],h,x⟩ (wA 0 (QA C gl q2 K))
theorem zaD {C gl q1 q2 v0 v1 h x K}:NW C gl (z1o q1 q2) ⟨enter [v0,v1],h,x⟩ K=rQ C gl q1 q2 v0 v1 h x K:=by kernel_rfl
theorem zhT {C gl v0 v1 h x K}:NW C gl jU.body ⟨enter [v0,v1],h,x⟩ K=rQ C gl FL aS v0 v1 h x K:=zaD
def rY:ACode:=.pr [1,2,3,7,9,13,14,15,20,21,22] (rg [bN 52 .add 22 (cI 1),
mV 22 52] [1,2,3,7,9,13,14,15,20,21,22])
def z40 (C:Hd)(gl:GL)(v1 v2 v3 v7 v9 v13 v14 v15 v20 v21 v22:AV)(h:bA)(x:Esc)(K:KT):Prop:=
 pK (jA .add v22 (AI 1)) fun t1=>
 K .normal ⟨[(1,v1),(2,v2),(3,v3),(7,v7),(9,v9),(13,v13),(14,v14),(15,v15),(20,v20),(21,v21),(22,t1)],h,x⟩
theorem zhF {C gl e h x K}:NW C gl rY ⟨e,h,x⟩ K=z40 C gl (aA e 1) (aA e 2) (aA e 3) (aA e 7) (aA e 9) (aA e 13) (aA e 14) (aA e 15) (aA e 20) (aA e 21) (aA e 22) h x K:=by kernel_rfl
def z1j (q1:ACode):ACode:=.pr [1,2,3,7,9,13,14,15,20,21,22] (.seq (rg [bN 23 .lss 22 21] [1,2,3,7,9,13,14,15,20,21,22,23])
(.seq (.cond 23 .skip
(.exit 2))
(.seq (.block 3 (.seq (rg [mV 24 22,
iA 25 (some 4) 20 22,
lD 26 (some 4) 25,
uO 11 (.alloc [.p (.int .i64 0),.p (.str []),.p (.int .i64 0),.p (.int .i64 0)]),
mV 10 24,
wO (.store (some 4) 11 26)] [1,2,3,7,9,10,11,13,14,15,20,21,22])
(.seq (rg [fA 27 0 none 11,
lD 28 none 27,
mV 29 2,
bN 30 .eql 28 29,
mV 31 30,
gD 32 31 true (.mv 1),
gD 33 31 true (.bin .neq 32 (cS [])),
uO 34 (.pick 31 33 cF),
mV 35 34,
gD 36 35 true (.load (some 3) 3),
gD 37 35 true (.faddr 0 none 9),
gD 38 35 true (.load none 37),
gD 39 35 true (.faddr 1 none 11),
gD 40 35 true (.load none 39),
gD 41 35 true (.call xH [36,38,40]),
gD 42 35 true (.mv 1),
gD 43 35 true (.bin .eql 41 42),
uO 44 (.pick 35 43 cF)] [1,2,3,7,9,10,13,14,15,20,21,22,44])
(.cond 44 (rg [mV 45 7,
fA 46 0 none 9,
lD 47 none 46,
mV 48 10,
uO 49 (.build [.p (.str []),.p (.int .i64 0)] [(0,1,47),(1,1,48)]),
uO 50 (.bsl false (some 2) 1 (.agg [.str [],.int .i64 0]) [(0,49)]),
uO 51 (.app (some 2) 45 50),
mV 7 51] [1,2,3,7,9,13,14,15,20,21,22])
.skip))))
q1)))
def BL:ACode:=z1j rY
def bW (C:Hd)(gl:GL)(q1:ACode)(v1 v2 v3 v7 v9 v13 v14 v15 v20 v21 v22:AV)(h:bA)(x:Esc)(K:KT):Prop:=
 pK (jA .lss v22 v21) fun t1=>
 oA t1 (pK (tA (some 4) v20 v22 h) fun t2=>
 pK (eA (some 4) t2 h) fun t3=>
 alK [.p (.int .i64 0),.p (.str []),.p (.int .i64 0),.p (.int .i64 0)] h fun t4 h5 y6=>
 wK (OA (some 4) t4 t3 h5) fun t7 h8 y9=>
 pK (mA 0 none t4) fun t10=>
 pK (eA none t10 h8) fun t11=>
 pK (jA .eql t11 v2) fun t12=>
 gM t12 true v1 h8 fun t13 h14 y15=>
 gP t12 true (jA .neq t13 (.p (.str []))) h14 fun t16 h17 y18=>
 pK (MA t12 t16 (AB false)) fun t19=>
 gP t19 true (eA (some 3) v3 h17) h17 fun t20 h21 y22=>
 gP t19 true (mA 0 none v9) h21 fun t23 h24 y25=>
 gP t19 true (eA none t23 h24) h24 fun t26 h27 y28=>
 gP t19 true (mA 1 none t4) h27 fun t29 h30 y31=>
 gP t19 true (eA none t29 h30) h30 fun t32 h33 y34=>
 gV t19 true h33 (C xH [t20,t26,t32] h33) fun t35 h36 y37=>
 gM t19 true v1 h36 fun t38 h39 y40=>
 gP t19 true (jA .eql t35 t38) h39 fun t41 h42 y43=>
 pK (MA t19 t41 (AB false)) fun t44=>
 oA t44 (pK (mA 0 none v9) fun t45=>
 pK (eA none t45 h42) fun t46=>
 pK (BC [.p (.str []),.p (.int .i64 0)] [(0,1,t46),(1,1,v22)]) fun t47=>
 wK (jB false (some 2) 1 (.agg [.str [],.int .i64 0]) [(0,t47)] h42) fun t48 h49 y50=>
 wK (LC (some 2) v7 t48 h49) fun t51 h52 y53=>
 NW C gl q1 ⟨[(1,v1),(2,v2),(3,v3),(7,t51),(9,v9),(13,v13),(14,v14),(15,v15),(20,v20),(21,v21),(22,v22)],h52,(y53++(y50++(y43++(y40++(y37++(y34++(y31++(y28++(y25++(y22++(y18++(y15++(y9++(y6++x))))))))))))))⟩ K)
 (NW C gl q1 ⟨[(1,v1),(2,v2),(3,v3),(7,v7),(9,v9),(10,v22),(13,v13),(14,v14),(15,v15),(20,v20),(21,v21),(22,v22),(44,t44)],h42,(y43++(y40++(y37++(y34++(y31++(y28++(y25++(y22++(y18++(y15++(y9++(y6++x))))))))))))⟩ K))
 (K (.exit 2) ⟨[(1,v1),(2,v2),(3,v3),(7,v7),(9,v9),(13,v13),(14,v14),(15,v15),(20,v20),(21,v21),(22,v22),(23,t1)],h,x⟩)
theorem za8 {C gl q1 e h x K}:NW C gl (z1j q1) ⟨e,h,x⟩ K=bW C gl q1 (aA e 1) (aA e 2) (aA e 3) (aA e 7) (aA e 9) (aA e 13) (aA e 14) (aA e 15) (aA e 20) (aA e 21) (aA e 22) h x K:=by kernel_rfl
theorem zhG {C gl e h x K}:NW C gl BL ⟨e,h,x⟩ K=bW C gl rY (aA e 1) (aA e 2) (aA e 3) (aA e 7) (aA e 9) (aA e 13) (aA e 14) (aA e 15) (aA e 20) (aA e 21) (aA e 22) h x K:=za8
theorem zlo {C gl e h x K}:NW C gl (.loop (.scope BL)) ⟨e,h,x⟩ K=GA C gl (.scope BL) K [(1,aA e 1),(2,aA e 2),(3,aA e 3),(7,aA e 7),(9,aA e 9),(13,aA e 13),(14,aA e 14),(15,aA e 15),(20,aA e 20),(21,aA e 21),(22,aA e 22)] h x:=vB
def sY:ACode:=.pr [1,2,3,7,13,14,15] (rg [bN 53 .add 15 (cI 1),
mV 15 53] [1,2,3,7,13,14,15])
def z41 (C:Hd)(gl:GL)(v1 v2 v3 v7 v13 v14 v15:AV)(h:bA)(x:Esc)(K:KT):Prop:=
 pK (jA .add v15 (AI 1)) fun t1=>
 K .normal ⟨[(1,v1),(2,v2),(3,v3),(7,v7),(13,v13),(14,v14),(15,t1)],h,x⟩
theorem zhH {C gl e h x K}:NW C gl sY ⟨e,h,x⟩ K=z41 C gl (aA e 1) (aA e 2) (aA e 3) (aA e 7) (aA e 13) (aA e 14) (aA e 15) h x K:=by kernel_rfl
def z1k (q2 q3:ACode):ACode:=.pr [1,2,3,7,13,14,15] (.seq (rg [bN 16 .lss 15 14] [1,2,3,7,13,14,15,16])
(.seq (.cond 16 .skip
(.exit 0))
(.seq (.block 1 (.seq (rg [iA 17 (some 2) 13 15,
lD 18 (some 2) 17,
uO 9 (.alloc [.p (.str []),.sl0 (some 4)]),
wO (.store (some 2) 9 18)] [1,2,3,7,9,13,14,15])
(.seq (rg [fA 19 1 none 9,
lD 20 none 19,
lN 21 20,
mV 22 (cI 0)] [1,2,3,7,9,13,14,15,20,21,22])
(.block 2 (.loop (.scope q2))))))
q3)))
def CL:ACode:=z1k BL sY
def JJ (C:Hd)(gl:GL)(q2 q3:ACode)(v1 v2 v3 v7 v13 v14 v15:AV)(h:bA)(x:Esc)(K:KT):Prop:=
 pK (jA .lss v15 v14) fun t1=>
 oA t1 (pK (tA (some 2) v13 v15 h) fun t2=>
 pK (eA (some 2) t2 h) fun t3=>
 alK [.p (.str []),.sl0 (some 4)] h fun t4 h5 y6=>
 wK (OA (some 2) t4 t3 h5) fun t7 h8 y9=>
 pK (mA 1 none t4) fun t10=>
 pK (eA none t10 h8) fun t11=>
 pK (xA t11) fun t12=>
 NW C gl (.loop (.scope q2)) ⟨[(1,v1),(2,v2),(3,v3),(7,v7),(9,t4),(13,v13),(14,v14),(15,v15),(20,t11),(21,t12),(22,(AI 0))],h8,(y9++(y6++x))⟩ (wA 2 (wA 1 (QA C gl q3 K))))
 (K (.exit 0) ⟨[(1,v1),(2,v2),(3,v3),(7,v7),(13,v13),(14,v14),(15,v15),(16,t1)],h,x⟩)
theorem za9 {C gl q2 q3 e h x K}:NW C gl (z1k q2 q3) ⟨e,h,x⟩ K=JJ C gl q2 q3 (aA e 1) (aA e 2) (aA e 3) (aA e 7) (aA e 13) (aA e 14) (aA e 15) h x K:=by kernel_rfl
theorem RQ {C gl e h x K}:NW C gl CL ⟨e,h,x⟩ K=JJ C gl BL sY (aA e 1) (aA e 2) (aA e 3) (aA e 7) (aA e 13) (aA e 14) (aA e 15) h x K:=za9
theorem zlp {C gl e h x K}:NW C gl (.loop (.scope CL)) ⟨e,h,x⟩ K=GA C gl (.scope CL) K [(1,aA e 1),(2,aA e 2),(3,aA e 3),(7,aA e 7),(13,aA e 13),(14,aA e 14),(15,aA e 15)] h x:=vB
def YR:ACode:=.pr [7] (.seq (rg [mV 54 7,
mV 6 54] [6])
.ret)
def z42 (C:Hd)(gl:GL)(v7:AV)(h:bA)(x:Esc)(K:KT):Prop:=
 K .ret ⟨[(6,v7)],h,x⟩
theorem zhI {C gl e h x K}:NW C gl YR ⟨e,h,x⟩ K=z42 C gl (aA e 7) h x K:=by kernel_rfl
def z1i (q4 q5:ACode):ACode:=(.seq (rg [uO 3 (.box 0),
mV 6 (.c (.p (.sl (some 2) [])))] [1,2,3])
(.seq (rg [uO 7 (.new0 (some 2))] [1,2,3,7])
(.seq (.seq (rg [fA 12 0 none 3,
lD 13 none 12,
lN 14 13,
mV 15 (cI 0)] [1,2,3,7,13,14,15])
(.block 0 (.loop (.scope q4))))
q5)))
def bU:AFun:=⟨3,[.t 6],z1i CL YR,false,false⟩
def pQ (C:Hd)(gl:GL)(q4 q5:ACode)(v0 v1 v2:AV)(h:bA)(x:Esc)(K:KT):Prop:=
 wK (dB v0 h) fun t1 h2 y3=>
 nwK (some 2) h2 fun t4 h5 y6=>
 pK (mA 0 none t1) fun t7=>
 pK (eA none t7 h5) fun t8=>
 pK (xA t8) fun t9=>
 NW C gl (.loop (.scope q4)) ⟨[(1,v1),(2,v2),(3,t1),(7,t4),(13,t8),(14,t9),(15,(AI 0))],h5,(y6++(y3++x))⟩ (wA 0 (QA C gl q5 K))
theorem za7 {C gl q4 q5 v0 v1 v2 h x K}:NW C gl (z1i q4 q5) ⟨enter [v0,v1,v2],h,x⟩ K=pQ C gl q4 q5 v0 v1 v2 h x K:=by kernel_rfl
theorem zhE {C gl v0 v1 v2 h x K}:NW C gl bU.body ⟨enter [v0,v1,v2],h,x⟩ K=pQ C gl CL YR v0 v1 v2 h x K:=za7
def zbR:ACode:=(.seq (rg [uO 3 (.box 0),
uO 5 (.box 2),
mV 6 cF] [1,3,5])
(.seq (dr [dF (fA 8 0 none 3) [3],
dF (lD 9 none 8) [8],
dF (lD 10 (some 3) 3) [3],
dF (fA 11 0 none 5) [5],
dF (lD 12 none 11) [11],
dF (cL 13 tF [10,12]) [10,12],
dF (iA 14 (some 2) 9 13) [9,13],
dF (fA 15 1 none 14) [14],
dF (lD 16 none 15) [15],
dF (fA 17 1 none 5) [5],
dF (lD 18 none 17) [17],
dF (iA 19 (some 4) 16 18) [16,18],
dF (lD 20 (some 4) 19) [19],
dA (uO 7 (.alloc [.p (.int .i64 0),.p (.str []),.p (.int .i64 0),.p (.int .i64 0)])) [] true [] [1,2,4,5,6,8,10,11,12],
dT (wO (.store (some 4) 7 20)) [7,20]] [1,3,5,7])
(.seq (dr [dF (fA 21 2 none 7) [7],
dF (lD 22 none 21) [21],
dF (bN 23 .lss 22 (cI 0)) [22],
dF (mV 24 23) [23],
dF (gD 25 24 false (.load (some 3) 3)) [3,24],
dF (gD 26 24 false (.mv 1)) [1,24],
dF (gD 27 24 false (.faddr 0 none 5)) [5,24],
dF (gD 28 24 false (.load none 27)) [27,24],
dF (gD 29 24 false (.faddr 2 none 7)) [7,24],
dF (gD 30 24 false (.load none 29)) [29,24],
dF (gD 31 24 false (.build [.p (.str []),.p (.int .i64 0)] [(0,1,28),(1,1,30)])) [28,30,24],
dT (gD 32 24 false (.call yH [25,26,31])) [25,26,31,24],
dF (gD 33 24 false (.faddr 3 none 7)) [7,24],
dA (gD 34 24 false (.load none 33)) [33,24] false [11] [],
dF (gD 35 24 false (.bin .neq 32 34)) [32,34,24],
dF (uO 36 (.pick 24 cT 35)) [24,35],
dF (mV 6 36) [36]] [6])
.ret)))
def dU:AFun:=⟨3,[.t 6],zbR,false,false⟩
def TM (C:Hd)(gl:GL)(v0 v1 v2:AV)(h:bA)(x:Esc)(K:KT):Prop:=
 wK (dB v0 h) fun t1 h2 y3=>
 wK (dB v2 h2) fun t4 h5 y6=>
 pK (mA 0 none t1) fun t7=>
 pK (eA none t7 h5) fun t8=>
 pK (eA (some 3) t1 h5) fun t9=>
 pK (mA 0 none t4) fun t10=>
 pK (eA none t10 h5) fun t11=>
 DB C tF [t9,t11] h5 fun t12 h13 y14=>
 (h13=h5∧y14=[])∧(pK (tA (some 2) t8 t12 h13) fun t15=>
 pK (mA 1 none t15) fun t16=>
 pK (eA none t16 h13) fun t17=>
 pK (mA 1 none t4) fun t18=>
 pK (eA none t18 h13) fun t19=>
 pK (tA (some 4) t17 t19 h13) fun t20=>
 pK (eA (some 4) t20 h13) fun t21=>
 alK [.p (.int .i64 0),.p (.str []),.p (.int .i64 0),.p (.int .i64 0)] h13 fun t22 h23 y24=>
 (pK (eA none t7 h23) fun v=>(fun u (g1:bA) (y1:Esc)=>u=t8∧g1=h23∧y1=[]) v h23 [])∧((pK (eA (some 3) t1 h23) fun v=>(fun u (g1:bA) (y1:Esc)=>u=t9∧g1=h23∧y1=[]) v h23 [])∧((pK (eA none t10 h23) fun v=>(fun u (g1:bA) (y1:Esc)=>u=t11∧g1=h23∧y1=[]) v h23 [])∧((DB C tF [t9,t11] h23 (fun u (g1:bA) (y1:Esc)=>u=t12∧g1=h23∧y1=[]))∧((pK (tA (some 2) t8 t12 h23) fun v=>(fun u (g1:bA) (y1:Esc)=>u=t15∧g1=h23∧y1=[]) v h23 [])∧((pK (eA none t16 h23) fun v=>(fun u (g1:bA) (y1:Esc)=>u=t17∧g1=h23∧y1=[]) v h23 [])∧((pK (eA none t18 h23) fun v=>(fun u (g1:bA) (y1:Esc)=>u=t19∧g1=h23∧y1=[]) v h23 [])∧((pK (tA (some 4) t17 t19 h23) fun v=>(fun u (g1:bA) (y1:Esc)=>u=t20∧g1=h23∧y1=[]) v h23 [])∧((pK (eA (some 4) t20 h23) fun v=>(fun u (g1:bA) (y1:Esc)=>u=t21∧g1=h23∧y1=[]) v h23 [])∧(wK (OA (some 4) t22 t21 h23) fun t25 h26 y27=>
 pK (mA 2 none t22) fun t28=>
 pK (eA none t28 h26) fun t29=>
 pK (jA .lss t29 (AI 0)) fun t30=>
 gP t30 false (eA (some 3) t1 h26) h26 fun t31 h32 y33=>
 gM t30 false v1 h32 fun t34 h35 y36=>
 gP t30 false (mA 0 none t4) h35 fun t37 h38 y39=>
 gP t30 false (eA none t37 h38) h38 fun t40 h41 y42=>
 gP t30 false (mA 2 none t22) h41 fun t43 h44 y45=>
 gP t30 false (eA none t43 h44) h44 fun t46 h47 y48=>
 gP t30 false (BC [.p (.str []),.p (.int .i64 0)] [(0,1,t40),(1,1,t46)]) h47 fun t49 h50 y51=>
 gV t30 false h50 (DB C yH [t31,t34,t49] h50) fun t52 h53 y54=>
 gP t30 false (mA 3 none t22) h53 fun t55 h56 y57=>
 gP t30 false (eA none t55 h56) h56 fun t58 h59 y60=>
 (gV t30 false h50 (fun kk=>pK (eA none t55 h50) fun v=>(kk) v h50 []) (fun u (g1:bA) (y1:Esc)=>u=t58∧g1=h50∧y1=[]))∧(gP t30 false (jA .neq t52 t58) h59 fun t61 h62 y63=>
 pK (MA t30 (AB true) t61) fun t64=>
 K .ret ⟨[(6,t64)],h62,(y63++(y60++(y57++(y54++(y51++(y48++(y45++(y42++(y39++(y36++(y33++(y27++(y24++(y14++(y6++(y3++x))))))))))))))))⟩)))))))))))
theorem zhK {C gl v0 v1 v2 h x K}:NW C gl dU.body ⟨enter [v0,v1,v2],h,x⟩ K=TM C gl v0 v1 v2 h x K:=by kernel_rfl
def zbW:ACode:=(.seq (rg [uO 3 (.box 0),
uO 5 (.box 2),
mV 6 (cI 0)] [1,3,5])
(.seq (dr [dF (mV 7 1) [1],
dF (lD 8 (some 3) 3) [3],
dF (fA 9 0 none 5) [5],
dF (lD 10 none 9) [9],
dT (cL 11 tF [8,10]) [8,10],
dF (iA 12 none 7 11) [7,11],
dF (lD 13 none 12) [12],
dF (fA 14 1 none 5) [5],
dA (lD 15 none 14) [14] false [4] [],
dF (uO 16 (.idxs 13 15)) [13,15],
dF (bN 17 .sub 16 (.c (.p (.int .u8 48)))) [16],
dF (uO 18 (.conv (.i .i64) 17)) [17],
dF (mV 6 18) [18]] [6])
.ret))
def nU:AFun:=⟨3,[.t 6],zbW,false,false⟩
def gW (C:Hd)(gl:GL)(v0 v1 v2:AV)(h:bA)(x:Esc)(K:KT):Prop:=
 wK (dB v0 h) fun t1 h2 y3=>
 wK (dB v2 h2) fun t4 h5 y6=>
 pK (eA (some 3) t1 h5) fun t7=>
 pK (mA 0 none t4) fun t8=>
 pK (eA none t8 h5) fun t9=>
 DB C tF [t7,t9] h5 fun t10 h11 y12=>
 pK (tA none v1 t10 h11) fun t13=>
 pK (eA none t13 h11) fun t14=>
 pK (mA 1 none t4) fun t15=>
 pK (eA none t15 h11) fun t16=>
 (pK (eA none t15 h5) fun v=>(fun u (g1:bA) (y1:Esc)=>u=t16∧g1=h5∧y1=[]) v h5 [])∧(pK (YE t14 t16) fun t17=>
 pK (jA .sub t17 (.p (.int .u8 48))) fun t18=>
 pK (UD .i64 t18) fun t19=>
 (h11=h11∧([]:Esc)=[])∧(K .ret ⟨[(6,t19)],h11,(y12++(y6++(y3++x)))⟩))
theorem zif {C gl v0 v1 v2 h x K}:NW C gl nU.body ⟨enter [v0,v1,v2],h,x⟩ K=gW C gl v0 v1 v2 h x K:=by kernel_rfl
def zbQ:ACode:=(.seq (rg [uO 3 (.box 1),
mV 4 (cI 0)] [0,3])
(.seq (rg [fA 6 0 none 3,
lD 7 none 6,
bN 8 .eql 7 (cI 1),
mV 9 8,
gD 10 9 false (.faddr 0 none 3),
gD 11 9 false (.load none 10),
gD 12 9 false (.bin .eql 11 (cI 2)),
uO 13 (.pick 9 cT 12),
mV 5 13] [0,3,5])
(.seq (.block 0 (.seq (rg [fA 15 0 none 3,
lD 16 none 15,
cL 17 PD [16,(cI 1),(cI 4)],
uO 18 (.un .not 17),
mV 14 18] [0,3,5,14])
(.cond 14 (.seq (rg [mV 4 (cI 4)] [4])
.ret)
(.seq (rg [mV 20 5,
mV 21 20,
gD 22 21 true (.faddr 1 none 3),
gD 23 21 true (.load none 22),
gD 24 21 true (.call ZF [23]),
gD 25 21 true (.un .not 24),
uO 26 (.pick 21 25 cF),
mV 19 26] [0,3,5,19])
(.cond 19 (.seq (rg [mV 4 (cI 5)] [4])
.ret)
(.seq (rg [mV 28 5,
uO 29 (.un .not 28),
mV 30 29,
gD 31 30 true (.faddr 1 none 3),
gD 32 30 true (.load none 31),
gD 33 30 true (.bin .neq 32 (cS [])),
uO 34 (.pick 30 33 cF),
mV 27 34] [0,3,27])
(.cond 27 (.seq (rg [mV 4 (cI 3)] [4])
.ret)
(.seq (rg [fA 36 0 none 3,
lD 37 none 36,
bN 38 .neq 37 (cI 2),
mV 39 38,
gD 40 39 true (.faddr 2 none 3),
gD 41 39 true (.load none 40),
gD 42 39 true (.bin .neq 41 (cI (-1))),
gD 43 39 true (.mv 42),
gD 44 43 false (.faddr 3 none 3),
gD 45 43 false (.load none 44),
gD 46 43 false (.bin .neq 45 (cI 0)),
gD 47 39 true (.pick 43 cT 46),
uO 48 (.pick 39 47 cF),
mV 35 48] [0,3,35])
(.cond 35 (.seq (rg [mV 4 (cI 3)] [4])
.ret)
(.seq (rg [fA 50 0 none 3,
lD 51 none 50,
bN 52 .neq 51 (cI 2),
mV 49 52] [0,3,49])
(.cond 49 (.seq (rg [mV 4 (cI 0)] [4])
.ret)
(.seq (rg [fA 54 2 none 3,
lD 55 none 54,
bN 56 .neq 55 (cI (-1)),
mV 57 56,
gD 58 57 true (.faddr 2 none 3),
gD 59 57 true (.load none 58),
gD 60 57 true (.mv 0),
gD 61 57 true (.len 60),
gD 62 57 true (.bin .sub 61 (cI 1)),
gD 63 57 true (.call PD [59,(cI 0),62]),
gD 64 57 true (.un .not 63),
gD 65 57 true (.mv 64),
gD 66 65 false (.mv 0),
gD 67 65 false (.faddr 2 none 3),
gD 68 65 false (.load none 67),
gD 69 65 false (.iaddr (some 4) 66 68),
gD 70 65 false (.faddr 0 none 69),
gD 71 65 false (.load none 70),
gD 72 65 false (.bin .neq 71 (cI 3)),
gD 73 57 true (.pick 65 cT 72),
uO 74 (.pick 57 73 cF),
mV 53 74] [3,53])
(.cond 53 (.seq (rg [mV 4 (cI 8)] [4])
.ret)
(.seq (rg [fA 76 3 none 3,
lD 77 none 76,
cL 78 PD [77,(cI 0),(cI 1)],
uO 79 (.un .not 78),
mV 80 79,
gD 81 80 false (.faddr 2 none 3),
gD 82 80 false (.load none 81),
gD 83 80 false (.bin .eql 82 (cI (-1))),
gD 84 80 false (.mv 83),
gD 85 84 true (.faddr 3 none 3),
gD 86 84 true (.load none 85),
gD 87 84 true (.bin .neq 86 (cI 0)),
gD 88 80 false (.pick 84 87 cF),
uO 89 (.pick 80 cT 88),
mV 75 89] [75])
(.cond 75 (.seq (rg [mV 4 (cI 1)] [4])
.ret)
.skip)))))))))))))))
(.seq (rg [mV 4 (cI 0)] [4])
.ret))))
def cU:AFun:=⟨2,[.t 4],zbQ,false,false⟩
def TC (C:Hd)(gl:GL)(v0 v1:AV)(h:bA)(x:Esc)(K:KT):Prop:=
 wK (dB v1 h) fun t1 h2 y3=>
 pK (mA 0 none t1) fun t4=>
 pK (eA none t4 h2) fun t5=>
 pK (jA .eql t5 (AI 1)) fun t6=>
 gP t6 false (mA 0 none t1) h2 fun t7 h8 y9=>
 gP t6 false (eA none t7 h8) h8 fun t10 h11 y12=>
 gP t6 false (jA .eql t10 (AI 2)) h11 fun t13 h14 y15=>
 pK (MA t6 (AB true) t13) fun t16=>
 pK (mA 0 none t1) fun t17=>
 pK (eA none t17 h14) fun t18=>
 C PD [t18,(AI 1),(AI 4)] h14 fun t19 h20 y21=>
 pK (oUn .not t19) fun t22=>
 oA t22 (K .ret ⟨[(4,(AI 4))],h20,(y21++(y15++(y12++(y9++(y3++x)))))⟩)
 (gP t16 true (mA 1 none t1) h20 fun t23 h24 y25=>
 gP t16 true (eA none t23 h24) h24 fun t26 h27 y28=>
 gV t16 true h27 (C ZF [t26] h27) fun t29 h30 y31=>
 gP t16 true (oUn .not t29) h30 fun t32 h33 y34=>
 pK (MA t16 t32 (AB false)) fun t35=>
 oA t35 (K .ret ⟨[(4,(AI 5))],h33,(y34++(y31++(y28++(y25++(y21++(y15++(y12++(y9++(y3++x)))))))))⟩)
 (pK (oUn .not t16) fun t36=>
 gP t36 true (mA 1 none t1) h33 fun t37 h38 y39=>
 gP t36 true (eA none t37 h38) h38 fun t40 h41 y42=>
 gP t36 true (jA .neq t40 (.p (.str []))) h41 fun t43 h44 y45=>
 pK (MA t36 t43 (AB false)) fun t46=>
 oA t46 (K .ret ⟨[(4,(AI 3))],h44,(y45++(y42++(y39++(y34++(y31++(y28++(y25++(y21++(y15++(y12++(y9++(y3++x))))))))))))⟩)
 (pK (mA 0 none t1) fun t47=>
 pK (eA none t47 h44) fun t48=>
 pK (jA .neq t48 (AI 2)) fun t49=>
 gP t49 true (mA 2 none t1) h44 fun t50 h51 y52=>
 gP t49 true (eA none t50 h51) h51 fun t53 h54 y55=>
 gP t49 true (jA .neq t53 (AI (-1))) h54 fun t56 h57 y58=>
 gM t49 true t56 h57 fun t59 h60 y61=>
 gP t59 false (mA 3 none t1) h60 fun t62 h63 y64=>
 gP t59 false (eA none t62 h63) h63 fun t65 h66 y67=>
 gP t59 false (jA .neq t65 (AI 0)) h66 fun t68 h69 y70=>
 gP t49 true (MA t59 (AB true) t68) h69 fun t71 h72 y73=>
 pK (MA t49 t71 (AB false)) fun t74=>
 oA t74 (K .ret ⟨[(4,(AI 3))],h72,(y73++(y70++(y67++(y64++(y61++(y58++(y55++(y52++(y45++(y42++(y39++(y34++(y31++(y28++(y25++(y21++(y15++(y12++(y9++(y3++x))))))))))))))))))))⟩)
 (pK (mA 0 none t1) fun t75=>
 pK (eA none t75 h72) fun t76=>
 pK (jA .neq t76 (AI 2)) fun t77=>
 oA t77 (K .ret ⟨[(4,(AI 0))],h72,(y73++(y70++(y67++(y64++(y61++(y58++(y55++(y52++(y45++(y42++(y39++(y34++(y31++(y28++(y25++(y21++(y15++(y12++(y9++(y3++x))))))))))))))))))))⟩)
 (pK (mA 2 none t1) fun t78=>
 pK (eA none t78 h72) fun t79=>
 pK (jA .neq t79 (AI (-1))) fun t80=>
 gP t80 true (mA 2 none t1) h72 fun t81 h82 y83=>
 gP t80 true (eA none t81 h82) h82 fun t84 h85 y86=>
 gM t80 true v0 h85 fun t87 h88 y89=>
 gP t80 true (xA t87) h88 fun t90 h91 y92=>
 gP t80 true (jA .sub t90 (AI 1)) h91 fun t93 h94 y95=>
 gV t80 true h94 (C PD [t84,(AI 0),t93] h94) fun t96 h97 y98=>
 gP t80 true (oUn .not t96) h97 fun t99 h100 y101=>
 gM t80 true t99 h100 fun t102 h103 y104=>
 gM t102 false v0 h103 fun t105 h106 y107=>
 gP t102 false (mA 2 none t1) h106 fun t108 h109 y110=>
 gP t102 false (eA none t108 h109) h109 fun t111 h112 y113=>
 gP t102 false (tA (some 4) t105 t111 h112) h112 fun t114 h115 y116=>
 gP t102 false (mA 0 none t114) h115 fun t117 h118 y119=>
 gP t102 false (eA none t117 h118) h118 fun t120 h121 y122=>
 gP t102 false (jA .neq t120 (AI 3)) h121 fun t123 h124 y125=>
 gP t80 true (MA t102 (AB true) t123) h124 fun t126 h127 y128=>
 pK (MA t80 t126 (AB false)) fun t129=>
 oA t129 (K .ret ⟨[(4,(AI 8))],h127,(y128++(y125++(y122++(y119++(y116++(y113++(y110++(y107++(y104++(y101++(y98++(y95++(y92++(y89++(y86++(y83++(y73++(y70++(y67++(y64++(y61++(y58++(y55++(y52++(y45++(y42++(y39++(y34++(y31++(y28++(y25++(y21++(y15++(y12++(y9++(y3++x))))))))))))))))))))))))))))))))))))⟩)
 (pK (mA 3 none t1) fun t130=>
 pK (eA none t130 h127) fun t131=>
 C PD [t131,(AI 0),(AI 1)] h127 fun t132 h133 y134=>
 pK (oUn .not t132) fun t135=>
 gP t135 false (mA 2 none t1) h133 fun t136 h137 y138=>
 gP t135 false (eA none t136 h137) h137 fun t139 h140 y141=>
 gP t135 false (jA .eql t139 (AI (-1))) h140 fun t142 h143 y144=>
 gM t135 false t142 h143 fun t145 h146 y147=>
 gP t145 true (mA 3 none t1) h146 fun t148 h149 y150=>
 gP t145 true (eA none t148 h149) h149 fun t151 h152 y153=>
 gP t145 true (jA .neq t151 (AI 0)) h152 fun t154 h155 y156=>
 gP t135 false (MA t145 t154 (AB false)) h155 fun t157 h158 y159=>
 pK (MA t135 (AB true) t157) fun t160=>
 oA t160 (K .ret ⟨[(4,(AI 1))],h158,(y159++(y156++(y153++(y150++(y147++(y144++(y141++(y138++(y134++(y128++(y125++(y122++(y119++(y116++(y113++(y110++(y107++(y104++(y101++(y98++(y95++(y92++(y89++(y86++(y83++(y73++(y70++(y67++(y64++(y61++(y58++(y55++(y52++(y45++(y42++(y39++(y34++(y31++(y28++(y25++(y21++(y15++(y12++(y9++(y3++x)))))))))))))))))))))))))))))))))))))))))))))⟩)
 (K .ret ⟨[(4,(AI 0))],h158,(y159++(y156++(y153++(y150++(y147++(y144++(y141++(y138++(y134++(y128++(y125++(y122++(y119++(y116++(y113++(y110++(y107++(y104++(y101++(y98++(y95++(y92++(y89++(y86++(y83++(y73++(y70++(y67++(y64++(y61++(y58++(y55++(y52++(y45++(y42++(y39++(y34++(y31++(y28++(y25++(y21++(y15++(y12++(y9++(y3++x)))))))))))))))))))))))))))))))))))))))))))))⟩)))))))
theorem zhJ {C gl v0 v1 h x K}:NW C gl cU.body ⟨enter [v0,v1],h,x⟩ K=TC C gl v0 v1 h x K:=by kernel_rfl
def zbV:ACode:=(.seq (rg [uO 2 (.box 0),
mV 3 cF] [1,2])
(.seq (rg [fA 4 0 none 2,
lD 5 none 4,
fA 6 0 none 1,
lD 7 none 6,
bN 8 .eql 5 7,
mV 9 8,
gD 10 9 true (.faddr 1 none 2),
gD 11 9 true (.load none 10),
gD 12 9 true (.faddr 1 none 1),
gD 13 9 true (.load none 12),
gD 14 9 true (.bin .eql 11 13),
uO 15 (.pick 9 14 cF),
mV 3 15] [3])
.ret))
def lU:AFun:=⟨2,[.t 3],zbV,false,false⟩
def sQ (C:Hd)(gl:GL)(v0 v1:AV)(h:bA)(x:Esc)(K:KT):Prop:=
 wK (dB v0 h) fun t1 h2 y3=>
 pK (mA 0 none t1) fun t4=>
 pK (eA none t4 h2) fun t5=>
 pK (mA 0 none v1) fun t6=>
 pK (eA none t6 h2) fun t7=>
 pK (jA .eql t5 t7) fun t8=>
 gP t8 true (mA 1 none t1) h2 fun t9 h10 y11=>
 gP t8 true (eA none t9 h10) h10 fun t12 h13 y14=>
 gP t8 true (mA 1 none v1) h13 fun t15 h16 y17=>
 gP t8 true (eA none t15 h16) h16 fun t18 h19 y20=>
 gP t8 true (jA .eql t12 t18) h19 fun t21 h22 y23=>
 pK (MA t8 t21 (AB false)) fun t24=>
 K .ret ⟨[(3,t24)],h22,(y23++(y20++(y17++(y14++(y11++(y3++x))))))⟩
theorem zia {C gl v0 v1 h x K}:NW C gl lU.body ⟨enter [v0,v1],h,x⟩ K=sQ C gl v0 v1 h x K:=by kernel_rfl
def zbO:ACode:=(.seq (rg [uO 2 (.box 0),
uO 3 (.box 1),
mV 4 (cI 0)] [2,3])
(.seq (rg [fA 5 0 none 2,
lD 6 none 5,
uO 7 (.mkfn zI [3]),
cL 8 tK [6,7],
mV 4 8] [4])
.ret))
def YT:AFun:=⟨2,[.t 4],zbO,false,false⟩
def XV (C:Hd)(gl:GL)(v0 v1:AV)(h:bA)(x:Esc)(K:KT):Prop:=
 wK (dB v0 h) fun t1 h2 y3=>
 wK (dB v1 h2) fun t4 h5 y6=>
 pK (mA 0 none t1) fun t7=>
 pK (eA none t7 h5) fun t8=>
 C tK [t8,(.fn zI [t4])] h5 fun t9 h10 y11=>
 K .ret ⟨[(4,t9)],h10,(y11++(y6++(y3++x)))⟩
theorem zh5 {C gl v0 v1 h x K}:NW C gl YT.body ⟨enter [v0,v1],h,x⟩ K=XV C gl v0 v1 h x K:=by kernel_rfl
def zbT:ACode:=(.seq (rg [uO 2 (.box 0),
mV 3 cF] [1,2])
(.seq (rg [fA 4 1 none 2,
lD 5 none 4,
lD 6 none 1,
bN 7 .eql 5 6,
mV 3 7] [3])
.ret))
def fU:AFun:=⟨2,[.t 3],zbT,false,false⟩
def cW (C:Hd)(gl:GL)(v0 v1:AV)(h:bA)(x:Esc)(K:KT):Prop:=
 wK (dB v0 h) fun t1 h2 y3=>
 pK (mA 1 none t1) fun t4=>
 pK (eA none t4 h2) fun t5=>
 pK (eA none v1 h2) fun t6=>
 pK (jA .eql t5 t6) fun t7=>
 K .ret ⟨[(3,t7)],h2,(y3++x)⟩
theorem zhM {C gl v0 v1 h x K}:NW C gl fU.body ⟨enter [v0,v1],h,x⟩ K=cW C gl v0 v1 h x K:=by kernel_rfl
def RL:ACode:=.pr [0,1,7,8] (.seq (rg [bN 9 .lss 8 7] [0,1,7,8,9])
(.seq (.cond 9 .skip
(.exit 0))
(.seq (.block 1 (.seq (rg [mV 10 8,
mV 5 10] [0,1,5,7,8])
(.seq (rg [mV 11 1,
mV 12 0,
mV 13 5,
iA 14 (some 3) 12 13,
lD 15 (some 3) 14,
uO 16 (.callv 11 [15])] [0,1,5,7,8,16])
(.cond 16 (.seq (rg [mV 17 5,
mV 4 17] [4])
.ret)
.skip))))
(rg [bN 18 .add 8 (cI 1),
mV 8 18] [0,1,7,8]))))
def z4W (C:Hd)(gl:GL)(v0 v1 v7 v8:AV)(h:bA)(x:Esc)(K:KT):Prop:=
 pK (jA .lss v8 v7) fun t1=>
 oA t1 (pK (tA (some 3) v0 v8 h) fun t2=>
 pK (eA (some 3) t2 h) fun t3=>
 lF C v1 [t3] h fun t4 h5 y6=>
 oA t4 (K .ret ⟨[(4,v8)],h5,(y6++x)⟩)
 (pK (jA .add v8 (AI 1)) fun t7=>
 K .normal ⟨[(0,v0),(1,v1),(7,v7),(8,t7)],h5,(y6++x)⟩))
 (K (.exit 0) ⟨[(0,v0),(1,v1),(7,v7),(8,v8),(9,t1)],h,x⟩)
theorem ziF {C gl e h x K}:NW C gl RL ⟨e,h,x⟩ K=z4W C gl (aA e 0) (aA e 1) (aA e 7) (aA e 8) h x K:=by kernel_rfl
theorem zl5 {C gl e h x K}:NW C gl (.loop RL) ⟨e,h,x⟩ K=GA C gl RL K [(0,aA e 0),(1,aA e 1),(7,aA e 7),(8,aA e 8)] h x:=jC
def nS:ACode:=.pr [] (.seq (rg [mV 4 (cI (-1))] [4])
.ret)
def z4X (C:Hd)(gl:GL)(h:bA)(x:Esc)(K:KT):Prop:=
 K .ret ⟨[(4,(AI (-1)))],h,x⟩
theorem ziG {C gl e h x K}:NW C gl nS ⟨e,h,x⟩ K=z4X C gl h x K:=by kernel_rfl
def z14 (q1 q2:ACode):ACode:=(.seq (rg [mV 4 (cI 0)] [0,1])
(.seq (.seq (rg [mV 6 0,
lN 7 6,
mV 8 (cI 0)] [0,1,7,8])
(.block 0 (.loop q1)))
q2))
def vU:AFun:=⟨2,[.t 4],z14 RL nS,true,false⟩
def BQ (C:Hd)(gl:GL)(q1 q2:ACode)(v0 v1:AV)(h:bA)(x:Esc)(K:KT):Prop:=
 pK (xA v0) fun t1=>
 NW C gl (.loop q1) ⟨[(0,v0),(1,v1),(7,t1),(8,(AI 0))],h,x⟩ (wA 0 (QA C gl q2 K))
theorem zaT {C gl q1 q2 v0 v1 h x K}:NW C gl (z14 q1 q2) ⟨enter [v0,v1],h,x⟩ K=BQ C gl q1 q2 v0 v1 h x K:=by kernel_rfl
theorem ziE {C gl v0 v1 h x K}:NW C gl vU.body ⟨enter [v0,v1],h,x⟩ K=BQ C gl RL nS v0 v1 h x K:=zaT
def UL:ACode:=.pr [0,1,7,8] (.seq (rg [bN 9 .lss 8 7] [0,1,7,8,9])
(.seq (.cond 9 .skip
(.exit 0))
(.seq (.block 1 (.seq (rg [mV 10 8,
mV 5 10] [0,1,5,7,8])
(.seq (rg [mV 11 1,
mV 12 0,
mV 13 5,
iA 14 none 12 13,
lD 15 none 14,
bN 16 .eql 11 15] [0,1,5,7,8,16])
(.cond 16 (.seq (rg [mV 17 5,
mV 4 17] [4])
.ret)
.skip))))
(rg [bN 18 .add 8 (cI 1),
mV 8 18] [0,1,7,8]))))
def z5c (C:Hd)(gl:GL)(v0 v1 v7 v8:AV)(h:bA)(x:Esc)(K:KT):Prop:=
 pK (jA .lss v8 v7) fun t1=>
 oA t1 (pK (tA none v0 v8 h) fun t2=>
 pK (eA none t2 h) fun t3=>
 pK (jA .eql v1 t3) fun t4=>
 oA t4 (K .ret ⟨[(4,v8)],h,x⟩)
 (pK (jA .add v8 (AI 1)) fun t5=>
 K .normal ⟨[(0,v0),(1,v1),(7,v7),(8,t5)],h,x⟩))
 (K (.exit 0) ⟨[(0,v0),(1,v1),(7,v7),(8,v8),(9,t1)],h,x⟩)
theorem ziO {C gl e h x K}:NW C gl UL ⟨e,h,x⟩ K=z5c C gl (aA e 0) (aA e 1) (aA e 7) (aA e 8) h x K:=by kernel_rfl
theorem zl8 {C gl e h x K}:NW C gl (.loop UL) ⟨e,h,x⟩ K=GA C gl UL K [(0,aA e 0),(1,aA e 1),(7,aA e 7),(8,aA e 8)] h x:=jC
def qS:ACode:=.pr [] (.seq (rg [mV 4 (cI (-1))] [4])
.ret)
def z5d (C:Hd)(gl:GL)(h:bA)(x:Esc)(K:KT):Prop:=
 K .ret ⟨[(4,(AI (-1)))],h,x⟩
theorem ziP {C gl e h x K}:NW C gl qS ⟨e,h,x⟩ K=z5d C gl h x K:=by kernel_rfl
def z17 (q1 q2:ACode):ACode:=(.seq (rg [mV 4 (cI 0)] [0,1])
(.seq (.seq (rg [mV 6 0,
lN 7 6,
mV 8 (cI 0)] [0,1,7,8])
(.block 0 (.loop q1)))
q2))
def mP:AFun:=⟨2,[.t 4],z17 UL qS,true,false⟩
def EQ (C:Hd)(gl:GL)(q1 q2:ACode)(v0 v1:AV)(h:bA)(x:Esc)(K:KT):Prop:=
 pK (xA v0) fun t1=>
 NW C gl (.loop q1) ⟨[(0,v0),(1,v1),(7,t1),(8,(AI 0))],h,x⟩ (wA 0 (QA C gl q2 K))
theorem zaW {C gl q1 q2 v0 v1 h x K}:NW C gl (z17 q1 q2) ⟨enter [v0,v1],h,x⟩ K=EQ C gl q1 q2 v0 v1 h x K:=by kernel_rfl
theorem ziN {C gl v0 v1 h x K}:NW C gl mP.body ⟨enter [v0,v1],h,x⟩ K=EQ C gl UL qS v0 v1 h x K:=zaW
def PL:ACode:=.pr [0,1,7,8] (.seq (rg [bN 9 .lss 8 7] [0,1,7,8,9])
(.seq (.cond 9 .skip
(.exit 0))
(.seq (.block 1 (.seq (rg [mV 10 8,
mV 5 10] [0,1,5,7,8])
(.seq (rg [mV 11 1,
mV 12 0,
mV 13 5,
iA 14 (some 4) 12 13,
lD 15 (some 4) 14,
uO 16 (.callv 11 [15])] [0,1,5,7,8,16])
(.cond 16 (.seq (rg [mV 17 5,
mV 4 17] [4])
.ret)
.skip))))
(rg [bN 18 .add 8 (cI 1),
mV 8 18] [0,1,7,8]))))
def z4S (C:Hd)(gl:GL)(v0 v1 v7 v8:AV)(h:bA)(x:Esc)(K:KT):Prop:=
 pK (jA .lss v8 v7) fun t1=>
 oA t1 (pK (tA (some 4) v0 v8 h) fun t2=>
 pK (eA (some 4) t2 h) fun t3=>
 lF C v1 [t3] h fun t4 h5 y6=>
 oA t4 (K .ret ⟨[(4,v8)],h5,(y6++x)⟩)
 (pK (jA .add v8 (AI 1)) fun t7=>
 K .normal ⟨[(0,v0),(1,v1),(7,v7),(8,t7)],h5,(y6++x)⟩))
 (K (.exit 0) ⟨[(0,v0),(1,v1),(7,v7),(8,v8),(9,t1)],h,x⟩)
theorem zi9 {C gl e h x K}:NW C gl PL ⟨e,h,x⟩ K=z4S C gl (aA e 0) (aA e 1) (aA e 7) (aA e 8) h x K:=by kernel_rfl
theorem zl3 {C gl e h x K}:NW C gl (.loop PL) ⟨e,h,x⟩ K=GA C gl PL K [(0,aA e 0),(1,aA e 1),(7,aA e 7),(8,aA e 8)] h x:=jC
def lS:ACode:=.pr [] (.seq (rg [mV 4 (cI (-1))] [4])
.ret)
def z4T (C:Hd)(gl:GL)(h:bA)(x:Esc)(K:KT):Prop:=
 K .ret ⟨[(4,(AI (-1)))],h,x⟩
theorem ziA {C gl e h x K}:NW C gl lS ⟨e,h,x⟩ K=z4T C gl h x K:=by kernel_rfl
def z12 (q1 q2:ACode):ACode:=(.seq (rg [mV 4 (cI 0)] [0,1])
(.seq (.seq (rg [mV 6 0,
lN 7 6,
mV 8 (cI 0)] [0,1,7,8])
(.block 0 (.loop q1)))
q2))
def lP:AFun:=⟨2,[.t 4],z12 PL lS,true,false⟩
def zQ (C:Hd)(gl:GL)(q1 q2:ACode)(v0 v1:AV)(h:bA)(x:Esc)(K:KT):Prop:=
 pK (xA v0) fun t1=>
 NW C gl (.loop q1) ⟨[(0,v0),(1,v1),(7,t1),(8,(AI 0))],h,x⟩ (wA 0 (QA C gl q2 K))
theorem zaR {C gl q1 q2 v0 v1 h x K}:NW C gl (z12 q1 q2) ⟨enter [v0,v1],h,x⟩ K=zQ C gl q1 q2 v0 v1 h x K:=by kernel_rfl
theorem zi8 {C gl v0 v1 h x K}:NW C gl lP.body ⟨enter [v0,v1],h,x⟩ K=zQ C gl PL lS v0 v1 h x K:=zaR
def aO:ACode:=.pr [0,1,2,3,8,9] (.seq (.seq (dr [dF (mV 18 9) [9],
dF (mV 19 1) [1],
dF (bN 20 .gtr 18 19) [18,19],
dF (mV 21 20) [20],
dF (gD 22 21 true (.mv 3)) [3,21],
dF (gD 23 21 true (.mv 0)) [0,21],
dF (gD 24 21 true (.mv 9)) [9,21],
dF (gD 25 21 true (.iaddr (some 3) 23 24)) [23,24,21],
dF (gD 26 21 true (.load (some 3) 25)) [25,21],
dF (gD 27 21 true (.mv 0)) [0,21],
dF (gD 28 21 true (.mv 9)) [9,21],
dF (gD 29 21 true (.bin .sub 28 (cI 1))) [28,21],
dF (gD 30 21 true (.iaddr (some 3) 27 29)) [27,29,21],
dF (gD 31 21 true (.load (some 3) 30)) [30,21],
dT (gD 32 21 true (.callv 22 [26,31])) [22,26,31,21],
dF (gD 33 21 true (.bin .lss 32 (cI 0))) [32,21],
dF (uO 34 (.pick 21 33 cF)) [21,33]] [0,1,2,3,8,9,34])
(.cond 34 .skip
(.exit 2)))
(.seq (.block 3 (dr [dF (mV 37 0) [0],
dF (mV 38 9) [9],
dF (mV 39 0) [0],
dF (mV 40 9) [9],
dF (bN 41 .sub 40 (cI 1)) [40],
dF (mV 42 0) [0],
dF (mV 43 9) [9],
dF (bN 44 .sub 43 (cI 1)) [43],
dF (iA 45 (some 3) 42 44) [42,44],
dF (lD 46 (some 3) 45) [45],
dF (mV 47 0) [0],
dF (mV 48 9) [9],
dF (iA 49 (some 3) 47 48) [47,48],
dF (lD 50 (some 3) 49) [49],
dF (iA 51 (some 3) 37 38) [37,38],
dT (wO (.store (some 3) 51 46)) [51,46],
dF (iA 52 (some 3) 39 41) [39,41],
dT (wO (.store (some 3) 52 50)) [52,50]] [0,1,2,3,8,9]))
(rg [mV 35 9,
bN 36 .sub 35 (cI 1),
mV 9 36] [0,1,2,3,8,9])))
def z5e (C:Hd)(gl:GL)(v0 v1 v2 v3 v8 v9:AV)(h:bA)(x:Esc)(K:KT):Prop:=
 pK (jA .gtr v9 v1) fun t1=>
 gM t1 true v3 h fun t2 h3 y4=>
 gM t1 true v0 h3 fun t5 h6 y7=>
 gM t1 true v9 h6 fun t8 h9 y10=>
 gP t1 true (tA (some 3) t5 t8 h9) h9 fun t11 h12 y13=>
 gP t1 true (eA (some 3) t11 h12) h12 fun t14 h15 y16=>
 gM t1 true v0 h15 fun t17 h18 y19=>
 gM t1 true v9 h18 fun t20 h21 y22=>
 gP t1 true (jA .sub t20 (AI 1)) h21 fun t23 h24 y25=>
 gP t1 true (tA (some 3) t17 t23 h24) h24 fun t26 h27 y28=>
 gP t1 true (eA (some 3) t26 h27) h27 fun t29 h30 y31=>
 gV t1 true h30 (qJ C t2 [t14,t29] h30) fun t32 h33 y34=>
 gP t1 true (jA .lss t32 (AI 0)) h33 fun t35 h36 y37=>
 pK (MA t1 t35 (AB false)) fun t38=>
 oA t38 (pK (jA .sub v9 (AI 1)) fun t39=>
 pK (jA .sub v9 (AI 1)) fun t40=>
 pK (tA (some 3) v0 t40 h36) fun t41=>
 pK (eA (some 3) t41 h36) fun t42=>
 pK (tA (some 3) v0 v9 h36) fun t43=>
 pK (eA (some 3) t43 h36) fun t44=>
 pK (tA (some 3) v0 v9 h36) fun t45=>
 wK (OA (some 3) t45 t42 h36) fun t46 h47 y48=>
 pK (tA (some 3) v0 t39 h47) fun t49=>
 wK (OA (some 3) t49 t44 h47) fun t50 h51 y52=>
 pK (jA .sub v9 (AI 1)) fun t53=>
 K .normal ⟨[(0,v0),(1,v1),(2,v2),(3,v3),(8,v8),(9,t53)],h51,(y52++(y48++(y37++(y34++(y31++(y28++(y25++(y22++(y19++(y16++(y13++(y10++(y7++(y4++x))))))))))))))⟩)
 (K (.exit 2) ⟨[(0,v0),(1,v1),(2,v2),(3,v3),(8,v8),(9,v9),(34,t38)],h36,(y37++(y34++(y31++(y28++(y25++(y22++(y19++(y16++(y13++(y10++(y7++(y4++x))))))))))))⟩)
theorem ziT {C gl e h x K}:NW C gl aO ⟨e,h,x⟩ K=z5e C gl (aA e 0) (aA e 1) (aA e 2) (aA e 3) (aA e 8) (aA e 9) h x K:=by kernel_rfl
theorem zl9 {C gl e h x K}:NW C gl (.loop aO) ⟨e,h,x⟩ K=GA C gl aO K [(0,aA e 0),(1,aA e 1),(2,aA e 2),(3,aA e 3),(8,aA e 8),(9,aA e 9)] h x:=jC
def BY:ACode:=.pr [0,1,2,3,8] (rg [mV 15 8,
bN 16 .add 15 (cI 1),
mV 8 16] [0,1,2,3,8])
def z5f (C:Hd)(gl:GL)(v0 v1 v2 v3 v8:AV)(h:bA)(x:Esc)(K:KT):Prop:=
 pK (jA .add v8 (AI 1)) fun t1=>
 K .normal ⟨[(0,v0),(1,v1),(2,v2),(3,v3),(8,t1)],h,x⟩
theorem ziU {C gl e h x K}:NW C gl BY ⟨e,h,x⟩ K=z5f C gl (aA e 0) (aA e 1) (aA e 2) (aA e 3) (aA e 8) h x K:=by kernel_rfl
def z19 (q1 q2:ACode):ACode:=.pr [0,1,2,3,8] (.seq (.seq (rg [mV 12 8,
mV 13 2,
bN 14 .lss 12 13] [0,1,2,3,8,14])
(.cond 14 .skip
(.exit 0)))
(.seq (.block 1 (.seq (rg [mV 17 8,
mV 9 17] [0,1,2,3,8,9])
(.block 2 (.loop q1))))
q2))
def VL:ACode:=z19 aO BY
def qW (C:Hd)(gl:GL)(q1 q2:ACode)(v0 v1 v2 v3 v8:AV)(h:bA)(x:Esc)(K:KT):Prop:=
 pK (jA .lss v8 v2) fun t1=>
 oA t1 (NW C gl (.loop q1) ⟨[(0,v0),(1,v1),(2,v2),(3,v3),(8,v8),(9,v8)],h,x⟩ (wA 2 (wA 1 (QA C gl q2 K))))
 (K (.exit 0) ⟨[(0,v0),(1,v1),(2,v2),(3,v3),(8,v8),(14,t1)],h,x⟩)
theorem zaY {C gl q1 q2 e h x K}:NW C gl (z19 q1 q2) ⟨e,h,x⟩ K=qW C gl q1 q2 (aA e 0) (aA e 1) (aA e 2) (aA e 3) (aA e 8) h x K:=by kernel_rfl
theorem ziV {C gl e h x K}:NW C gl VL ⟨e,h,x⟩ K=qW C gl aO BY (aA e 0) (aA e 1) (aA e 2) (aA e 3) (aA e 8) h x K:=zaY
theorem zlA {C gl e h x K}:NW C gl (.loop VL) ⟨e,h,x⟩ K=GA C gl VL K [(0,aA e 0),(1,aA e 1),(2,aA e 2),(3,aA e 3),(8,aA e 8)] h x:=jC
def z18 (q3:ACode):ACode:=(.seq (rg [mV 10 1,
bN 11 .add 10 (cI 1),
mV 8 11] [0,1,2,3,8])
(.block 0 (.loop q3)))
def BU:AFun:=⟨4,[],z18 VL,true,false⟩
def FQ (C:Hd)(gl:GL)(q3:ACode)(v0 v1 v2 v3:AV)(h:bA)(x:Esc)(K:KT):Prop:=
 pK (jA .add v1 (AI 1)) fun t1=>
 NW C gl (.loop q3) ⟨[(0,v0),(1,v1),(2,v2),(3,v3),(8,t1)],h,x⟩ (wA 0 K)
theorem zaX {C gl q3 v0 v1 v2 v3 h x K}:NW C gl (z18 q3) ⟨enter [v0,v1,v2,v3],h,x⟩ K=FQ C gl q3 v0 v1 v2 v3 h x K:=by kernel_rfl
theorem ziS {C gl v0 v1 v2 v3 h x K}:NW C gl BU.body ⟨enter [v0,v1,v2,v3],h,x⟩ K=FQ C gl VL v0 v1 v2 v3 h x K:=zaX
def SX:ACode:=.pr [0,2] (.seq (rg [mV 19 2,
mV 20 0,
uO 21 (.conv (.i .u8) 20),
uO 22 (.idxs (cS [0,1,2,2,3,3,3,3,4,4,4,4,4,4,4,4,5,5,5,5,5,5,5,5,5,5,5,5,5,5,5,5,6,6,6,6,6,6,6,6,6,6,6,6,6,6,6,6,6,6,6,6,6,6,6,6,6,6,6,6,6,6,6,6,7,7,7,7,7,7,7,7,7,7,7,7,7,7,7,7,7,7,7,7,7,7,7,7,7,7,7,7,7,7,7,7,7,7,7,7,7,7,7,7,7,7,7,7,7,7,7,7,7,7,7,7,7,7,7,7,7,7,7,7,7,7,7,7,8,8,8,8,8,8,8,8,8,8,8,8,8,8,8,8,8,8,8,8,8,8,8,8,8,8,8,8,8,8,8,8,8,8,8,8,8,8,8,8,8,8,8,8,8,8,8,8,8,8,8,8,8,8,8,8,8,8,8,8,8,8,8,8,8,8,8,8,8,8,8,8,8,8,8,8,8,8,8,8,8,8,8,8,8,8,8,8,8,8,8,8,8,8,8,8,8,8,8,8,8,8,8,8,8,8,8,8,8,8,8,8,8,8,8,8,8,8,8,8,8,8,8,8,8,8,8,8]) 21),
uO 23 (.conv (.i .i64) 22),
bN 24 .add 19 23,
mV 2 24] [2])
.ret)
def z3N (C:Hd)(gl:GL)(v0 v2:AV)(h:bA)(x:Esc)(K:KT):Prop:=
 pK (UD .u8 v0) fun t1=>
 pK (YE (.p (.str [0,1,2,2,3,3,3,3,4,4,4,4,4,4,4,4,5,5,5,5,5,5,5,5,5,5,5,5,5,5,5,5,6,6,6,6,6,6,6,6,6,6,6,6,6,6,6,6,6,6,6,6,6,6,6,6,6,6,6,6,6,6,6,6,7,7,7,7,7,7,7,7,7,7,7,7,7,7,7,7,7,7,7,7,7,7,7,7,7,7,7,7,7,7,7,7,7,7,7,7,7,7,7,7,7,7,7,7,7,7,7,7,7,7,7,7,7,7,7,7,7,7,7,7,7,7,7,7,8,8,8,8,8,8,8,8,8,8,8,8,8,8,8,8,8,8,8,8,8,8,8,8,8,8,8,8,8,8,8,8,8,8,8,8,8,8,8,8,8,8,8,8,8,8,8,8,8,8,8,8,8,8,8,8,8,8,8,8,8,8,8,8,8,8,8,8,8,8,8,8,8,8,8,8,8,8,8,8,8,8,8,8,8,8,8,8,8,8,8,8,8,8,8,8,8,8,8,8,8,8,8,8,8,8,8,8,8,8,8,8,8,8,8,8,8,8,8,8,8,8,8,8,8,8,8,8])) t1) fun t2=>
 pK (UD .i64 t2) fun t3=>
 pK (jA .add v2 t3) fun t4=>
 K .ret ⟨[(2,t4)],h,x⟩
theorem zgv {C gl e h x K}:NW C gl SX ⟨e,h,x⟩ K=z3N C gl (aA e 0) (aA e 2) h x K:=by kernel_rfl
def z05 (q1:ACode):ACode:=.pr [0,2] (.seq (.seq (rg [mV 13 0,
bN 14 .geq 13 (.c (.p (.int .u64 256)))] [0,2,14])
(.cond 14 (.seq (rg [mV 15 0,
bN 16 .shr 15 (.c (.p (.int .u64 8))),
mV 0 16] [0,2])
(rg [mV 17 2,
bN 18 .add 17 (cI 8),
mV 2 18] [0,2]))
.skip))
q1)
def TX:ACode:=z05 SX
def yV (C:Hd)(gl:GL)(q1:ACode)(v0 v2:AV)(h:bA)(x:Esc)(K:KT):Prop:=
 pK (jA .geq v0 (.p (.int .u64 256))) fun t1=>
 oA t1 (pK (jA .shr v0 (.p (.int .u64 8))) fun t2=>
 pK (jA .add v2 (AI 8)) fun t3=>
 NW C gl q1 ⟨[(0,t2),(2,t3)],h,x⟩ K)
 (NW C gl q1 ⟨[(0,v0),(2,v2),(14,t1)],h,x⟩ K)
theorem z9U {C gl q1 e h x K}:NW C gl (z05 q1) ⟨e,h,x⟩ K=yV C gl q1 (aA e 0) (aA e 2) h x K:=by kernel_rfl
theorem zgw {C gl e h x K}:NW C gl TX ⟨e,h,x⟩ K=yV C gl SX (aA e 0) (aA e 2) h x K:=z9U
def z06 (q2:ACode):ACode:=.pr [0,2] (.seq (.seq (rg [mV 7 0,
bN 8 .geq 7 (.c (.p (.int .u64 65536)))] [0,2,8])
(.cond 8 (.seq (rg [mV 9 0,
bN 10 .shr 9 (.c (.p (.int .u64 16))),
mV 0 10] [0,2])
(rg [mV 11 2,
bN 12 .add 11 (cI 16),
mV 2 12] [0,2]))
.skip))
q2)
def FR:ACode:=z06 TX
def zV (C:Hd)(gl:GL)(q2:ACode)(v0 v2:AV)(h:bA)(x:Esc)(K:KT):Prop:=
 pK (jA .geq v0 (.p (.int .u64 65536))) fun t1=>
 oA t1 (pK (jA .shr v0 (.p (.int .u64 16))) fun t2=>
 pK (jA .add v2 (AI 16)) fun t3=>
 NW C gl q2 ⟨[(0,t2),(2,t3)],h,x⟩ K)
 (NW C gl q2 ⟨[(0,v0),(2,v2),(8,t1)],h,x⟩ K)
theorem z9V {C gl q2 e h x K}:NW C gl (z06 q2) ⟨e,h,x⟩ K=zV C gl q2 (aA e 0) (aA e 2) h x K:=by kernel_rfl
theorem zgx {C gl e h x K}:NW C gl FR ⟨e,h,x⟩ K=zV C gl TX (aA e 0) (aA e 2) h x K:=z9V
def z04 (q3:ACode):ACode:=(.seq (rg [mV 2 (cI 0)] [0,2])
(.seq (.seq (rg [mV 3 0,
bN 4 .geq 3 (.c (.p (.int .u64 4294967296)))] [0,2,4])
(.cond 4 (.seq (rg [mV 5 0,
bN 6 .shr 5 (.c (.p (.int .u64 32))),
mV 0 6] [0])
(rg [mV 2 (cI 32)] [0,2]))
.skip))
q3))
def wT:AFun:=⟨1,[.t 2],z04 FR,false,false⟩
def XP (C:Hd)(gl:GL)(q3:ACode)(v0:AV)(h:bA)(x:Esc)(K:KT):Prop:=
 pK (jA .geq v0 (.p (.int .u64 4294967296))) fun t1=>
 oA t1 (pK (jA .shr v0 (.p (.int .u64 32))) fun t2=>
 NW C gl q3 ⟨[(0,t2),(2,(AI 32))],h,x⟩ K)
 (NW C gl q3 ⟨[(0,v0),(2,(AI 0)),(4,t1)],h,x⟩ K)
theorem z9T {C gl q3 v0 h x K}:NW C gl (z04 q3) ⟨enter [v0],h,x⟩ K=XP C gl q3 v0 h x K:=by kernel_rfl
theorem zgu {C gl v0 h x K}:NW C gl wT.body ⟨enter [v0],h,x⟩ K=XP C gl FR v0 h x K:=z9T
def zb4:ACode:=(.seq (rg [mV 2 cF] [0])
(.seq (rg [mV 3 0,
mV 4 0,
bN 5 .neq 3 4,
mV 2 5] [2])
.ret))
def tT:AFun:=⟨1,[.t 2],zb4,false,false⟩
def uV (C:Hd)(gl:GL)(v0:AV)(h:bA)(x:Esc)(K:KT):Prop:=
 pK (jA .neq v0 v0) fun t1=>
 K .ret ⟨[(2,t1)],h,x⟩
theorem zgq {C gl v0 h x K}:NW C gl tT.body ⟨enter [v0],h,x⟩ K=uV C gl v0 h x K:=by kernel_rfl
end Go.Am
end
