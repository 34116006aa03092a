/- Texts of the proof, laid together: CodesC, CodesD, CodesE, AmL, AmC. -/
import Derived.KernelRfl
import Derived.Test.YtnhfefichkmpcaalawEM4
set_option linter.all false
section
/- The functions asv abstract code,and asv formulas AE their values: printed by program out of the translation. -/
set_option linter.unusedVariables false
set_option maxRecDepth 100000
namespace Go.Am
def JU:ACode:=.pr [0,3,4,5] (rg [mV 33 5,
bN 34 .add 33 (cI 1),
mV 5 34] [0,3,4,5])
def DZ (C:Hd)(gl:GL)(v0 v3 v4 v5:AV)(h:aA)(x:Esc)(K:KT):Prop:=
 pK (eA .add v5 (AI 1)) fun t1=>
 K .normal ⟨[(0,v0),(3,v3),(4,v4),(5,t1)],h,x⟩
theorem zc6 {C gl e h x K}:NW C gl JU ⟨e,h,x⟩ K=DZ C gl (bA e 0) (bA e 3) (bA e 4) (bA e 5) h x K:=by kernel_rfl
def fX (q1:ACode):ACode:=.pr [0,3,4,5] (.seq (.seq (rg [mV 29 5,
mV 30 4,
lN 31 30,
bN 32 .lss 29 31] [0,3,4,5,32])
(.cond 32 .skip
(.exit 2)))
(.seq (.block 3 (.seq (dr [dF (mV 35 4) [4],
dF (mV 36 5) [5],
dF (iA 37 (some 8) 35 36) [35,36],
dF (lD 38 (some 8) 37) [37],
dF (mV 39 4) [4],
dF (mV 40 5) [5],
dF (bN 41 .sub 40 (cI 1)) [40],
dF (iA 42 (some 8) 39 41) [39,41],
dF (lD 43 (some 8) 42) [42],
dF (uO 44 (.eqa [2,0,0,0,2,2,2,0] true 38 43)) [38,43]] [0,3,4,5,44])
(.cond 44 (.seq (rg [mV 45 0,
mV 46 3,
mV 47 4,
mV 48 5,
iA 49 (some 8) 47 48,
lD 50 (some 8) 49,
iA 51 (some 8) 45 46,
wO (.store (some 8) 51 50)] [0,3,4,5])
(rg [mV 52 3,
bN 53 .add 52 (cI 1),
mV 3 53] [0,3,4,5]))
.skip)))
q1))
def pM:ACode:=fX JU
def OS (C:Hd)(gl:GL)(q1:ACode)(v0 v3 v4 v5:AV)(h:aA)(x:Esc)(K:KT):Prop:=
 pK (QA v4) fun t1=>
 pK (eA .lss v5 t1) fun t2=>
 qA t2 (pK (uA (some 8) v4 v5 h) fun t3=>
 pK (oA (some 8) t3 h) fun t4=>
 pK (eA .sub v5 (AI 1)) fun t5=>
 pK (uA (some 8) v4 t5 h) fun t6=>
 pK (oA (some 8) t6 h) fun t7=>
 pK (iB [2,0,0,0,2,2,2,0] true t4 t7) fun t8=>
 qA t8 (pK (uA (some 8) v4 v5 h) fun t9=>
 pK (oA (some 8) t9 h) fun t10=>
 pK (uA (some 8) v0 v3 h) fun t11=>
 wK (GA (some 8) t11 t10 h) fun t12 h13 y14=>
 pK (eA .add v3 (AI 1)) fun t15=>
 NW C gl q1 ⟨[(0,v0),(3,t15),(4,v4),(5,v5)],h13,(y14++x)⟩ K)
 (NW C gl q1 ⟨[(0,v0),(3,v3),(4,v4),(5,v5),(44,t8)],h,x⟩ K))
 (K (.exit 2) ⟨[(0,v0),(3,v3),(4,v4),(5,v5),(32,t2)],h,x⟩)
theorem z5V {C gl q1 e h x K}:NW C gl (fX q1) ⟨e,h,x⟩ K=OS C gl q1 (bA e 0) (bA e 3) (bA e 4) (bA e 5) h x K:=by kernel_rfl
theorem zc7 {C gl e h x K}:NW C gl pM ⟨e,h,x⟩ K=OS C gl JU (bA e 0) (bA e 3) (bA e 4) (bA e 5) h x K:=z5V
theorem zfM {C gl e h x K}:NW C gl (.loop pM) ⟨e,h,x⟩ K=YA C gl pM K [(0,bA e 0),(3,bA e 3),(4,bA e 4),(5,bA e 5)] h x:=RB
def KU:ACode:=.pr [0,3] (.seq (rg [mV 54 0,
mV 55 3,
uO 56 (.slice (some 8) 54 (some 55) none none),
wO (.clr (some 8) (.agg [.str [],.int .i64 0,.int .i64 0,.int .i64 0,.str [],.str [],.str [],.int .i64 0]) 56)] [0,3])
(.seq (rg [mV 57 0,
mV 58 3,
uO 59 (.slice (some 8) 57 none (some 58) none),
mV 2 59] [2])
.ret))
def EZ (C:Hd)(gl:GL)(v0 v3:AV)(h:aA)(x:Esc)(K:KT):Prop:=
 pK (QC (some 8) v0 (some v3) none none h) fun t1=>
 wK (oClr (some 8) (.agg [.str [],.int .i64 0,.int .i64 0,.int .i64 0,.str [],.str [],.str [],.int .i64 0]) t1 h) fun t2 h3 y4=>
 pK (QC (some 8) v0 none (some v3) none h3) fun t5=>
 K .ret ⟨[(2,t5)],h3,(y4++x)⟩
theorem zc8 {C gl e h x K}:NW C gl KU ⟨e,h,x⟩ K=EZ C gl (bA e 0) (bA e 3) h x K:=by kernel_rfl
def LU:ACode:=.pr [0,3] (rg [mV 14 3,
bN 15 .add 14 (cI 1),
mV 3 15] [0,3])
def FZ (C:Hd)(gl:GL)(v0 v3:AV)(h:aA)(x:Esc)(K:KT):Prop:=
 pK (eA .add v3 (AI 1)) fun t1=>
 K .normal ⟨[(0,v0),(3,t1)],h,x⟩
theorem zc9 {C gl e h x K}:NW C gl LU ⟨e,h,x⟩ K=FZ C gl (bA e 0) (bA e 3) h x K:=by kernel_rfl
def gX (q2 q3 q4:ACode):ACode:=.pr [0,3] (.seq (.seq (rg [mV 10 3,
mV 11 0,
lN 12 11,
bN 13 .lss 10 12] [0,3,13])
(.cond 13 .skip
(.exit 0)))
(.seq (.block 1 (.seq (dr [dF (mV 16 0) [0],
dF (mV 17 3) [3],
dF (iA 18 (some 8) 16 17) [16,17],
dF (lD 19 (some 8) 18) [18],
dF (mV 20 0) [0],
dF (mV 21 3) [3],
dF (bN 22 .sub 21 (cI 1)) [21],
dF (iA 23 (some 8) 20 22) [20,22],
dF (lD 24 (some 8) 23) [23],
dF (uO 25 (.eqa [2,0,0,0,2,2,2,0] false 19 24)) [19,24]] [0,3,25])
(.cond 25 (.seq (rg [mV 26 0,
mV 27 3,
uO 28 (.slice (some 8) 26 (some 27) none none),
mV 4 28] [0,3,4])
(.seq (.seq (rg [mV 5 (cI 1)] [0,3,4,5])
(.block 2 (.loop q2)))
q3))
.skip)))
q4))
def lK:ACode:=gX pM KU LU
def PS (C:Hd)(gl:GL)(q2 q3 q4:ACode)(v0 v3:AV)(h:aA)(x:Esc)(K:KT):Prop:=
 pK (QA v0) fun t1=>
 pK (eA .lss v3 t1) fun t2=>
 qA t2 (pK (uA (some 8) v0 v3 h) fun t3=>
 pK (oA (some 8) t3 h) fun t4=>
 pK (eA .sub v3 (AI 1)) fun t5=>
 pK (uA (some 8) v0 t5 h) fun t6=>
 pK (oA (some 8) t6 h) fun t7=>
 pK (iB [2,0,0,0,2,2,2,0] false t4 t7) fun t8=>
 qA t8 (pK (QC (some 8) v0 (some v3) none none h) fun t9=>
 NW C gl (.loop q2) ⟨[(0,v0),(3,v3),(4,t9),(5,(AI 1))],h,x⟩ (OA 2 (TA C gl q3 (OA 1 (TA C gl q4 K)))))
 (NW C gl q4 ⟨[(0,v0),(3,v3),(25,t8)],h,x⟩ K))
 (K (.exit 0) ⟨[(0,v0),(3,v3),(13,t2)],h,x⟩)
theorem z5W {C gl q2 q3 q4 e h x K}:NW C gl (gX q2 q3 q4) ⟨e,h,x⟩ K=PS C gl q2 q3 q4 (bA e 0) (bA e 3) h x K:=by kernel_rfl
theorem zcA {C gl e h x K}:NW C gl lK ⟨e,h,x⟩ K=PS C gl pM KU LU (bA e 0) (bA e 3) h x K:=z5W
theorem zfN {C gl e h x K}:NW C gl (.loop lK) ⟨e,h,x⟩ K=YA C gl lK K [(0,bA e 0),(3,bA e 3)] h x:=RB
def IP:ACode:=.pr [0] (.seq (rg [mV 60 0,
mV 2 60] [2])
.ret)
def GZ (C:Hd)(gl:GL)(v0:AV)(h:aA)(x:Esc)(K:KT):Prop:=
 K .ret ⟨[(2,v0)],h,x⟩
theorem zcB {C gl e h x K}:NW C gl IP ⟨e,h,x⟩ K=GZ C gl (bA e 0) h x K:=by kernel_rfl
def dX (q5 q6:ACode):ACode:=(.seq (rg [mV 2 (.c (.p (.sl (some 8) [])))] [0])
(.seq (.seq (rg [mV 6 0,
lN 7 6,
bN 8 .lss 7 (cI 2)] [0,8])
(.cond 8 (.seq (rg [mV 9 0,
mV 2 9] [2])
.ret)
.skip))
(.seq (.seq (rg [mV 3 (cI 1)] [0,3])
(.block 0 (.loop q5)))
q6)))
def wR:AFun:=⟨1,[.t 2],dX lK IP,true,false⟩
def xL (C:Hd)(gl:GL)(q5 q6:ACode)(v0:AV)(h:aA)(x:Esc)(K:KT):Prop:=
 pK (QA v0) fun t1=>
 pK (eA .lss t1 (AI 2)) fun t2=>
 qA t2 (K .ret ⟨[(2,v0)],h,x⟩)
 (NW C gl (.loop q5) ⟨[(0,v0),(3,(AI 1))],h,x⟩ (OA 0 (TA C gl q6 K)))
theorem z5U {C gl q5 q6 v0 h x K}:NW C gl (dX q5 q6) ⟨enter [v0],h,x⟩ K=xL C gl q5 q6 v0 h x K:=by kernel_rfl
theorem zc5 {C gl v0 h x K}:NW C gl wR.body ⟨enter [v0],h,x⟩ K=xL C gl lK IP v0 h x K:=z5U
def HK:ACode:=.pr [3,8,9,10] (.seq (rg [bN 11 .lss 10 9] [3,8,9,10,11])
(.seq (.cond 11 .skip
(.exit 0))
(.seq (.block 1 (.seq (rg [iA 12 (some 8) 8 10,
lD 13 (some 8) 12,
uO 5 (.alloc [.p (.str []),.p (.int .i64 0),.p (.int .i64 0),.p (.int .i64 0),.p (.str []),.p (.str []),.p (.str []),.p (.int .i64 0)]),
wO (.store (some 8) 5 13)] [3,5,8,9,10])
(.seq (rg [fA 14 0 none 5,
lD 15 none 14,
fA 16 1 none 5,
lD 17 none 16,
uO 18 (.build [.p (.str []),.p (.int .i64 0)] [(0,1,15),(1,1,17)]),
uO 6 (.alloc [.p (.str []),.p (.int .i64 0)]),
wO (.store (some 2) 6 18)] [3,6,8,9,10])
(.seq (.seq (rg [mV 19 3,
lD 20 (some 2) 6,
uO 21 (.look ((some 2),[2,0]) false (AB false) 19 20)] [3,6,8,9,10,21])
(.cond 21 (.seq (rg [mV 2 cT] [2])
.ret)
.skip))
(rg [mV 22 3,
lD 23 (some 2) 6,
wO (.mupd ((some 2),[2,0]) 22 23 cT)] [3,8,9,10])))))
(rg [bN 24 .add 10 (cI 1),
mV 10 24] [3,8,9,10]))))
def z0s (C:Hd)(gl:GL)(v3 v8 v9 v10:AV)(h:aA)(x:Esc)(K:KT):Prop:=
 pK (eA .lss v10 v9) fun t1=>
 qA t1 (pK (uA (some 8) v8 v10 h) fun t2=>
 pK (oA (some 8) t2 h) fun t3=>
 alK [.p (.str []),.p (.int .i64 0),.p (.int .i64 0),.p (.int .i64 0),.p (.str []),.p (.str []),.p (.str []),.p (.int .i64 0)] h fun t4 h5 y6=>
 wK (GA (some 8) t4 t3 h5) fun t7 h8 y9=>
 pK (rA 0 none t4) fun t10=>
 pK (oA none t10 h8) fun t11=>
 pK (rA 1 none t4) fun t12=>
 pK (oA none t12 h8) fun t13=>
 pK (mE [.p (.str []),.p (.int .i64 0)] [(0,1,t11),(1,1,t13)]) fun t14=>
 alK [.p (.str []),.p (.int .i64 0)] h8 fun t15 h16 y17=>
 wK (GA (some 2) t15 t14 h16) fun t18 h19 y20=>
 pK (oA (some 2) t15 h19) fun t21=>
 pK (aC ((some 2),[2,0]) false (AB false) v3 t21 h19) fun t22=>
 qA t22 (K .ret ⟨[(2,(AB true))],h19,(y20++(y17++(y9++(y6++x))))⟩)
 (pK (oA (some 2) t15 h19) fun t23=>
 wK (jC ((some 2),[2,0]) v3 t23 (AB true) h19) fun t24 h25 y26=>
 pK (eA .add v10 (AI 1)) fun t27=>
 K .normal ⟨[(3,v3),(8,v8),(9,v9),(10,t27)],h25,(y26++(y20++(y17++(y9++(y6++x)))))⟩))
 (K (.exit 0) ⟨[(3,v3),(8,v8),(9,v9),(10,v10),(11,t1)],h,x⟩)
theorem zdV {C gl e h x K}:NW C gl HK ⟨e,h,x⟩ K=z0s C gl (bA e 3) (bA e 8) (bA e 9) (bA e 10) h x K:=by kernel_rfl
theorem zgq {C gl e h x K}:NW C gl (.loop (.scope HK)) ⟨e,h,x⟩ K=YA C gl (.scope HK) K [(3,bA e 3),(8,bA e 8),(9,bA e 9),(10,bA e 10)] h x:=gE
def aQ:ACode:=.pr [] (.seq (rg [mV 2 cF] [2])
.ret)
def z0t (C:Hd)(gl:GL)(h:aA)(x:Esc)(K:KT):Prop:=
 K .ret ⟨[(2,(AB false))],h,x⟩
theorem zdW {C gl e h x K}:NW C gl aQ ⟨e,h,x⟩ K=z0t C gl h x K:=by kernel_rfl
def UX (q1 q2:ACode):ACode:=(.seq (rg [mV 2 cF] [0])
(.seq (rg [uO 7 (.mkmap),
mV 3 7] [0,3])
(.seq (.seq (rg [mV 8 0,
lN 9 8,
mV 10 (cI 0)] [3,8,9,10])
(.block 0 (.loop (.scope q1))))
q2)))
def iL:AFun:=⟨1,[.t 2],UX HK aQ,false,false⟩
def tO (C:Hd)(gl:GL)(q1 q2:ACode)(v0:AV)(h:aA)(x:Esc)(K:KT):Prop:=
 mmK h fun t1 h2 y3=>
 pK (QA v0) fun t4=>
 NW C gl (.loop (.scope q1)) ⟨[(3,t1),(8,v0),(9,t4),(10,(AI 0))],h2,(y3++x)⟩ (OA 0 (TA C gl q2 K))
theorem z67 {C gl q1 q2 v0 h x K}:NW C gl (UX q1 q2) ⟨enter [v0],h,x⟩ K=tO C gl q1 q2 v0 h x K:=by kernel_rfl
theorem zdU {C gl v0 h x K}:NW C gl iL.body ⟨enter [v0],h,x⟩ K=tO C gl HK aQ v0 h x K:=z67
def z7n:ACode:=(.seq (rg [uO 1 (.box 0),
mV 2 (cI 0)] [1])
(.seq (dr [dF (fA 5 3 none 1) [1],
dF (lD 6 none 5) [5],
dF (bN 7 .eql 6 (cI 7)) [6],
dF (fA 8 3 none 1) [1],
dF (lD 9 none 8) [8],
dF (bN 10 .eql 9 (cI 2)) [9],
dF (mV 3 7) [7],
dF (mV 4 10) [10]] [1,3,4])
(.seq (.block 0 (.seq (rg [fA 12 0 none 1,
lD 13 none 12,
cL 14 pD [13],
uO 15 (.un .not 14),
mV 11 15] [1,3,4,11])
(.cond 11 (.seq (rg [mV 2 (cI 5)] [2])
.ret)
(.seq (rg [fA 17 1 none 1,
lD 18 none 17,
cL 19 qD [18,(cI 1),(cI 1000000)],
mV 20 19,
gD 21 20 false (.faddr 2 none 1),
gD 22 20 false (.load none 21),
gD 23 20 false (.call mG [22]),
gD 24 20 false (.un .not 23),
uO 25 (.pick 20 cT 24),
mV 16 25] [1,3,4,16])
(.cond 16 (.seq (rg [mV 2 (cI 1)] [2])
.ret)
(.seq (rg [fA 27 3 none 1,
lD 28 none 27,
cL 29 qD [28,(cI 1),(cI 7)],
mV 26 29] [1,3,4,26])
(.cond 26 (.seq (rg [mV 2 (cI 4)] [2])
.ret)
(.seq (rg [mV 31 3,
uO 32 (.un .not 31),
mV 33 32,
gD 34 33 true (.faddr 4 none 1),
gD 35 33 true (.load none 34),
gD 36 33 true (.call pD [35]),
gD 37 33 true (.un .not 36),
uO 38 (.pick 33 37 cF),
mV 39 38,
gD 40 39 false (.mv 4),
gD 41 39 false (.mv 40),
gD 42 41 true (.faddr 5 none 1),
gD 43 41 true (.load none 42),
gD 44 41 true (.call pD [43]),
gD 45 41 true (.un .not 44),
gD 46 39 false (.pick 41 45 cF),
uO 47 (.pick 39 cT 46),
mV 48 47,
gD 49 48 false (.mv 3),
gD 50 48 false (.mv 49),
gD 51 50 true (.faddr 6 none 1),
gD 52 50 true (.load none 51),
gD 53 50 true (.call pD [52]),
gD 54 50 true (.un .not 53),
gD 55 48 false (.pick 50 54 cF),
uO 56 (.pick 48 cT 55),
mV 30 56] [1,3,4,30])
(.cond 30 (.seq (rg [mV 2 (cI 5)] [2])
.ret)
(.seq (rg [mV 58 3,
mV 59 58,
gD 60 59 true (.faddr 7 none 1),
gD 61 59 true (.load none 60),
gD 62 59 true (.call qD [61,(cI 1),(cI 1000000)]),
uO 63 (.pick 59 62 cF),
mV 57 63] [1,3,4,57])
(.cond 57 (.seq (rg [mV 2 (cI 1)] [2])
.ret)
(.seq (rg [mV 65 3,
mV 66 65,
gD 67 66 true (.faddr 4 none 1),
gD 68 66 true (.load none 67),
gD 69 66 true (.bin .neq 68 (cS [])),
uO 70 (.pick 66 69 cF),
mV 71 70,
gD 72 71 false (.mv 4),
gD 73 71 false (.un .not 72),
gD 74 71 false (.mv 73),
gD 75 74 true (.faddr 5 none 1),
gD 76 74 true (.load none 75),
gD 77 74 true (.bin .neq 76 (cS [])),
gD 78 71 false (.pick 74 77 cF),
uO 79 (.pick 71 cT 78),
mV 80 79,
gD 81 80 false (.mv 3),
gD 82 80 false (.un .not 81),
gD 83 80 false (.mv 82),
gD 84 83 true (.faddr 6 none 1),
gD 85 83 true (.load none 84),
gD 86 83 true (.bin .neq 85 (cS [])),
gD 87 83 true (.mv 86),
gD 88 87 false (.faddr 7 none 1),
gD 89 87 false (.load none 88),
gD 90 87 false (.bin .neq 89 (cI 0)),
gD 91 83 true (.pick 87 cT 90),
gD 92 80 false (.pick 83 91 cF),
uO 93 (.pick 80 cT 92),
mV 64 93] [64])
(.cond 64 (.seq (rg [mV 2 (cI 3)] [2])
.ret)
.skip)))))))))))))
(.seq (rg [mV 2 (cI 0)] [2])
.ret))))
def pN:AFun:=⟨1,[.t 2],z7n,false,false⟩
def gG (C:Hd)(gl:GL)(v0:AV)(h:aA)(x:Esc)(K:KT):Prop:=
 wK (jD v0 h) fun t1 h2 y3=>
 pK (rA 3 none t1) fun t4=>
 pK (oA none t4 h2) fun t5=>
 pK (eA .eql t5 (AI 7)) fun t6=>
 pK (rA 3 none t1) fun t7=>
 pK (oA none t7 h2) fun t8=>
 pK (eA .eql t8 (AI 2)) fun t9=>
 pK (rA 0 none t1) fun t10=>
 pK (oA none t10 h2) fun t11=>
 C pD [t11] h2 fun t12 h13 y14=>
 pK (oUn .not t12) fun t15=>
 qA t15 (K .ret ⟨[(2,(AI 5))],h13,(y14++(y3++x))⟩)
 (pK (rA 1 none t1) fun t16=>
 pK (oA none t16 h13) fun t17=>
 C qD [t17,(AI 1),(AI 1000000)] h13 fun t18 h19 y20=>
 gP t18 false (rA 2 none t1) h19 fun t21 h22 y23=>
 gP t18 false (oA none t21 h22) h22 fun t24 h25 y26=>
 gV t18 false h25 (C mG [t24] h25) fun t27 h28 y29=>
 gP t18 false (oUn .not t27) h28 fun t30 h31 y32=>
 pK (SA t18 (AB true) t30) fun t33=>
 qA t33 (K .ret ⟨[(2,(AI 1))],h31,(y32++(y29++(y26++(y23++(y20++(y14++(y3++x)))))))⟩)
 (pK (rA 3 none t1) fun t34=>
 pK (oA none t34 h31) fun t35=>
 C qD [t35,(AI 1),(AI 7)] h31 fun t36 h37 y38=>
 qA t36 (K .ret ⟨[(2,(AI 4))],h37,(y38++(y32++(y29++(y26++(y23++(y20++(y14++(y3++x))))))))⟩)
 (pK (oUn .not t6) fun t39=>
 gP t39 true (rA 4 none t1) h37 fun t40 h41 y42=>
 gP t39 true (oA none t40 h41) h41 fun t43 h44 y45=>
 gV t39 true h44 (C pD [t43] h44) fun t46 h47 y48=>
 gP t39 true (oUn .not t46) h47 fun t49 h50 y51=>
 pK (SA t39 t49 (AB false)) fun t52=>
 gM t52 false t9 h50 fun t53 h54 y55=>
 gM t52 false t53 h54 fun t56 h57 y58=>
 gP t56 true (rA 5 none t1) h57 fun t59 h60 y61=>
 gP t56 true (oA none t59 h60) h60 fun t62 h63 y64=>
 gV t56 true h63 (C pD [t62] h63) fun t65 h66 y67=>
 gP t56 true (oUn .not t65) h66 fun t68 h69 y70=>
 gP t52 false (SA t56 t68 (AB false)) h69 fun t71 h72 y73=>
 pK (SA t52 (AB true) t71) fun t74=>
 gM t74 false t6 h72 fun t75 h76 y77=>
 gM t74 false t75 h76 fun t78 h79 y80=>
 gP t78 true (rA 6 none t1) h79 fun t81 h82 y83=>
 gP t78 true (oA none t81 h82) h82 fun t84 h85 y86=>
 gV t78 true h85 (C pD [t84] h85) fun t87 h88 y89=>
 gP t78 true (oUn .not t87) h88 fun t90 h91 y92=>
 gP t74 false (SA t78 t90 (AB false)) h91 fun t93 h94 y95=>
 pK (SA t74 (AB true) t93) fun t96=>
 qA t96 (K .ret ⟨[(2,(AI 5))],h94,(y95++(y92++(y89++(y86++(y83++(y80++(y77++(y73++(y70++(y67++(y64++(y61++(y58++(y55++(y51++(y48++(y45++(y42++(y38++(y32++(y29++(y26++(y23++(y20++(y14++(y3++x))))))))))))))))))))))))))⟩)
 (gP t6 true (rA 7 none t1) h94 fun t97 h98 y99=>
 gP t6 true (oA none t97 h98) h98 fun t100 h101 y102=>
 gV t6 true h101 (C qD [t100,(AI 1),(AI 1000000)] h101) fun t103 h104 y105=>
 pK (SA t6 t103 (AB false)) fun t106=>
 qA t106 (K .ret ⟨[(2,(AI 1))],h104,(y105++(y102++(y99++(y95++(y92++(y89++(y86++(y83++(y80++(y77++(y73++(y70++(y67++(y64++(y61++(y58++(y55++(y51++(y48++(y45++(y42++(y38++(y32++(y29++(y26++(y23++(y20++(y14++(y3++x)))))))))))))))))))))))))))))⟩)
 (gP t6 true (rA 4 none t1) h104 fun t107 h108 y109=>
 gP t6 true (oA none t107 h108) h108 fun t110 h111 y112=>
 gP t6 true (eA .neq t110 (.p (.str []))) h111 fun t113 h114 y115=>
 pK (SA t6 t113 (AB false)) fun t116=>
 gM t116 false t9 h114 fun t117 h118 y119=>
 gP t116 false (oUn .not t117) h118 fun t120 h121 y122=>
 gM t116 false t120 h121 fun t123 h124 y125=>
 gP t123 true (rA 5 none t1) h124 fun t126 h127 y128=>
 gP t123 true (oA none t126 h127) h127 fun t129 h130 y131=>
 gP t123 true (eA .neq t129 (.p (.str []))) h130 fun t132 h133 y134=>
 gP t116 false (SA t123 t132 (AB false)) h133 fun t135 h136 y137=>
 pK (SA t116 (AB true) t135) fun t138=>
 gM t138 false t6 h136 fun t139 h140 y141=>
 gP t138 false (oUn .not t139) h140 fun t142 h143 y144=>
 gM t138 false t142 h143 fun t145 h146 y147=>
 gP t145 true (rA 6 none t1) h146 fun t148 h149 y150=>
 gP t145 true (oA none t148 h149) h149 fun t151 h152 y153=>
 gP t145 true (eA .neq t151 (.p (.str []))) h152 fun t154 h155 y156=>
 gM t145 true t154 h155 fun t157 h158 y159=>
 gP t157 false (rA 7 none t1) h158 fun t160 h161 y162=>
 gP t157 false (oA none t160 h161) h161 fun t163 h164 y165=>
 gP t157 false (eA .neq t163 (AI 0)) h164 fun t166 h167 y168=>
 gP t145 true (SA t157 (AB true) t166) h167 fun t169 h170 y171=>
 gP t138 false (SA t145 t169 (AB false)) h170 fun t172 h173 y174=>
 pK (SA t138 (AB true) t172) fun t175=>
 qA t175 (K .ret ⟨[(2,(AI 3))],h173,(y174++(y171++(y168++(y165++(y162++(y159++(y156++(y153++(y150++(y147++(y144++(y141++(y137++(y134++(y131++(y128++(y125++(y122++(y119++(y115++(y112++(y109++(y105++(y102++(y99++(y95++(y92++(y89++(y86++(y83++(y80++(y77++(y73++(y70++(y67++(y64++(y61++(y58++(y55++(y51++(y48++(y45++(y42++(y38++(y32++(y29++(y26++(y23++(y20++(y14++(y3++x)))))))))))))))))))))))))))))))))))))))))))))))))))⟩)
 (K .ret ⟨[(2,(AI 0))],h173,(y174++(y171++(y168++(y165++(y162++(y159++(y156++(y153++(y150++(y147++(y144++(y141++(y137++(y134++(y131++(y128++(y125++(y122++(y119++(y115++(y112++(y109++(y105++(y102++(y99++(y95++(y92++(y89++(y86++(y83++(y80++(y77++(y73++(y70++(y67++(y64++(y61++(y58++(y55++(y51++(y48++(y45++(y42++(y38++(y32++(y29++(y26++(y23++(y20++(y14++(y3++x)))))))))))))))))))))))))))))))))))))))))))))))))))⟩))))))
theorem zdS {C gl v0 h x K}:NW C gl pN.body ⟨enter [v0],h,x⟩ K=gG C gl v0 h x K:=by kernel_rfl
def z7z:ACode:=(.seq (rg [mV 2 (cI 0)] [0])
(.seq (.seq (rg [mV 3 0,
cL 4 mG [3],
uO 5 (.un .not 4)] [5])
(.cond 5 (.seq (rg [mV 2 (cI 1)] [2])
.ret)
.skip))
(.seq (rg [mV 2 (cI 0)] [2])
.ret)))
def qN:AFun:=⟨1,[.t 2],z7z,false,false⟩
def sO (C:Hd)(gl:GL)(v0:AV)(h:aA)(x:Esc)(K:KT):Prop:=
 C mG [v0] h fun t1 h2 y3=>
 pK (oUn .not t1) fun t4=>
 qA t4 (K .ret ⟨[(2,(AI 1))],h2,(y3++x)⟩)
 (K .ret ⟨[(2,(AI 0))],h2,(y3++x)⟩)
theorem zdT {C gl v0 h x K}:NW C gl qN.body ⟨enter [v0],h,x⟩ K=sO C gl v0 h x K:=by kernel_rfl
def ZU:ACode:=.pr [0,3,4,5] (rg [mV 16 5,
bN 17 .sub 16 (cI 1),
mV 5 17] [0,3,4,5])
def z0q (C:Hd)(gl:GL)(v0 v3 v4 v5:AV)(h:aA)(x:Esc)(K:KT):Prop:=
 pK (eA .sub v5 (AI 1)) fun t1=>
 K .normal ⟨[(0,v0),(3,v3),(4,v4),(5,t1)],h,x⟩
theorem zdP {C gl e h x K}:NW C gl ZU ⟨e,h,x⟩ K=z0q C gl (bA e 0) (bA e 3) (bA e 4) (bA e 5) h x K:=by kernel_rfl
def TX (q1:ACode):ACode:=.pr [0,3,4,5] (.seq (.seq (rg [mV 14 5,
bN 15 .geq 14 (cI 0)] [0,3,4,5,15])
(.cond 15 .skip
(.exit 0)))
(.seq (.block 1 (.seq (rg [mV 18 0,
mV 19 5,
iA 20 (some 8) 18 19,
lD 21 (some 8) 20,
uO 6 (.alloc [.p (.str []),.p (.int .i64 0),.p (.int .i64 0),.p (.int .i64 0),.p (.str []),.p (.str []),.p (.str []),.p (.int .i64 0)]),
wO (.store (some 8) 6 21)] [0,3,4,5,6])
(.seq (rg [mV 22 4,
mV 23 5,
mV 24 3,
fA 25 0 none 6,
lD 26 none 25,
fA 27 1 none 6,
lD 28 none 27,
uO 29 (.build [.p (.str []),.p (.int .i64 0)] [(0,1,26),(1,1,28)]),
uO 30 (.look ((some 2),[2,0]) false (AB false) 24 29),
uO 31 (.un .not 30),
iA 32 none 22 23,
wO (.store none 32 31)] [0,3,4,5,6])
(.seq (rg [mV 33 4,
mV 34 5,
iA 35 none 33 34,
lD 36 none 35,
mV 37 36,
gD 38 37 true (.faddr 3 none 6),
gD 39 37 true (.load none 38),
gD 40 37 true (.bin .eql 39 (cI 7)),
uO 41 (.pick 37 40 cF)] [0,3,4,5,6,41])
(.cond 41 (rg [mV 42 3,
fA 43 6 none 6,
lD 44 none 43,
fA 45 7 none 6,
lD 46 none 45,
uO 47 (.build [.p (.str []),.p (.int .i64 0)] [(0,1,44),(1,1,46)]),
wO (.mupd ((some 2),[2,0]) 42 47 cT)] [0,3,4,5])
.skip)))))
q1))
def GK:ACode:=TX ZU
def mT (C:Hd)(gl:GL)(q1:ACode)(v0 v3 v4 v5:AV)(h:aA)(x:Esc)(K:KT):Prop:=
 pK (eA .geq v5 (AI 0)) fun t1=>
 qA t1 (pK (uA (some 8) v0 v5 h) fun t2=>
 pK (oA (some 8) t2 h) fun t3=>
 alK [.p (.str []),.p (.int .i64 0),.p (.int .i64 0),.p (.int .i64 0),.p (.str []),.p (.str []),.p (.str []),.p (.int .i64 0)] h fun t4 h5 y6=>
 wK (GA (some 8) t4 t3 h5) fun t7 h8 y9=>
 pK (rA 0 none t4) fun t10=>
 pK (oA none t10 h8) fun t11=>
 pK (rA 1 none t4) fun t12=>
 pK (oA none t12 h8) fun t13=>
 pK (mE [.p (.str []),.p (.int .i64 0)] [(0,1,t11),(1,1,t13)]) fun t14=>
 pK (aC ((some 2),[2,0]) false (AB false) v3 t14 h8) fun t15=>
 pK (oUn .not t15) fun t16=>
 pK (uA none v4 v5 h8) fun t17=>
 wK (GA none t17 t16 h8) fun t18 h19 y20=>
 pK (uA none v4 v5 h19) fun t21=>
 pK (oA none t21 h19) fun t22=>
 gP t22 true (rA 3 none t4) h19 fun t23 h24 y25=>
 gP t22 true (oA none t23 h24) h24 fun t26 h27 y28=>
 gP t22 true (eA .eql t26 (AI 7)) h27 fun t29 h30 y31=>
 pK (SA t22 t29 (AB false)) fun t32=>
 qA t32 (pK (rA 6 none t4) fun t33=>
 pK (oA none t33 h30) fun t34=>
 pK (rA 7 none t4) fun t35=>
 pK (oA none t35 h30) fun t36=>
 pK (mE [.p (.str []),.p (.int .i64 0)] [(0,1,t34),(1,1,t36)]) fun t37=>
 wK (jC ((some 2),[2,0]) v3 t37 (AB true) h30) fun t38 h39 y40=>
 NW C gl q1 ⟨[(0,v0),(3,v3),(4,v4),(5,v5)],h39,(y40++(y31++(y28++(y25++(y20++(y9++(y6++x)))))))⟩ K)
 (NW C gl q1 ⟨[(0,v0),(3,v3),(4,v4),(5,v5),(6,t4),(41,t32)],h30,(y31++(y28++(y25++(y20++(y9++(y6++x))))))⟩ K))
 (K (.exit 0) ⟨[(0,v0),(3,v3),(4,v4),(5,v5),(15,t1)],h,x⟩)
theorem z66 {C gl q1 e h x K}:NW C gl (TX q1) ⟨e,h,x⟩ K=mT C gl q1 (bA e 0) (bA e 3) (bA e 4) (bA e 5) h x K:=by kernel_rfl
theorem zdQ {C gl e h x K}:NW C gl GK ⟨e,h,x⟩ K=mT C gl ZU (bA e 0) (bA e 3) (bA e 4) (bA e 5) h x K:=z66
theorem zgp {C gl e h x K}:NW C gl (.loop (.scope GK)) ⟨e,h,x⟩ K=YA C gl (.scope GK) K [(0,bA e 0),(3,bA e 3),(4,bA e 4),(5,bA e 5)] h x:=gE
def ZP:ACode:=.pr [4] (.seq (rg [mV 48 4,
mV 2 48] [2])
.ret)
def z0r (C:Hd)(gl:GL)(v4:AV)(h:aA)(x:Esc)(K:KT):Prop:=
 K .ret ⟨[(2,v4)],h,x⟩
theorem zdR {C gl e h x K}:NW C gl ZP ⟨e,h,x⟩ K=z0r C gl (bA e 4) h x K:=by kernel_rfl
def SX (q2 q3:ACode):ACode:=(.seq (rg [mV 2 (.c (.p (.sl none [])))] [0])
(.seq (rg [uO 7 (.mkmap),
mV 3 7] [0,3])
(.seq (rg [mV 8 0,
lN 9 8,
uO 10 (.mksl none (.bool false) 9 9),
mV 4 10] [0,3,4])
(.seq (.seq (rg [mV 11 0,
lN 12 11,
bN 13 .sub 12 (cI 1),
mV 5 13] [0,3,4,5])
(.block 0 (.loop (.scope q2))))
q3))))
def oN:AFun:=⟨1,[.t 2],SX GK ZP,false,false⟩
def rO (C:Hd)(gl:GL)(q2 q3:ACode)(v0:AV)(h:aA)(x:Esc)(K:KT):Prop:=
 mmK h fun t1 h2 y3=>
 pK (QA v0) fun t4=>
 wK (tU none (.bool false) t4 t4 h2) fun t5 h6 y7=>
 pK (QA v0) fun t8=>
 pK (eA .sub t8 (AI 1)) fun t9=>
 NW C gl (.loop (.scope q2)) ⟨[(0,v0),(3,t1),(4,t5),(5,t9)],h6,(y7++(y3++x))⟩ (OA 0 (TA C gl q3 K))
theorem z65 {C gl q2 q3 v0 h x K}:NW C gl (SX q2 q3) ⟨enter [v0],h,x⟩ K=rO C gl q2 q3 v0 h x K:=by kernel_rfl
theorem zdO {C gl v0 h x K}:NW C gl oN.body ⟨enter [v0],h,x⟩ K=rO C gl GK ZP v0 h x K:=z65
def IK:ACode:=.pr [0,1,5] (.seq (.seq (rg [mV 8 5,
bN 9 .gtr 8 (cI 0),
mV 10 9,
gD 11 10 true (.mv 0),
gD 12 10 true (.mv 5),
gD 13 10 true (.bin .sub 12 (cI 1)),
gD 14 10 true (.iaddr (some 8) 11 13),
gD 15 10 true (.faddr 2 none 14),
gD 16 10 true (.load none 15),
gD 17 10 true (.mv 1),
gD 18 10 true (.bin .gtr 16 17),
uO 19 (.pick 10 18 cF)] [0,1,5,19])
(.cond 19 .skip
(.exit 0)))
(.block 1 (rg [mV 20 5,
bN 21 .sub 20 (cI 1),
mV 5 21] [0,1,5])))
def z0u (C:Hd)(gl:GL)(v0 v1 v5:AV)(h:aA)(x:Esc)(K:KT):Prop:=
 pK (eA .gtr v5 (AI 0)) fun t1=>
 gM t1 true v0 h fun t2 h3 y4=>
 gM t1 true v5 h3 fun t5 h6 y7=>
 gP t1 true (eA .sub t5 (AI 1)) h6 fun t8 h9 y10=>
 gP t1 true (uA (some 8) t2 t8 h9) h9 fun t11 h12 y13=>
 gP t1 true (rA 2 none t11) h12 fun t14 h15 y16=>
 gP t1 true (oA none t14 h15) h15 fun t17 h18 y19=>
 gM t1 true v1 h18 fun t20 h21 y22=>
 gP t1 true (eA .gtr t17 t20) h21 fun t23 h24 y25=>
 pK (SA t1 t23 (AB false)) fun t26=>
 qA t26 (pK (eA .sub v5 (AI 1)) fun t27=>
 K .normal ⟨[(0,v0),(1,v1),(5,t27)],h24,(y25++(y22++(y19++(y16++(y13++(y10++(y7++(y4++x))))))))⟩)
 (K (.exit 0) ⟨[(0,v0),(1,v1),(5,v5),(19,t26)],h24,(y25++(y22++(y19++(y16++(y13++(y10++(y7++(y4++x))))))))⟩)
theorem zdY {C gl e h x K}:NW C gl IK ⟨e,h,x⟩ K=z0u C gl (bA e 0) (bA e 1) (bA e 5) h x K:=by kernel_rfl
theorem zgr {C gl e h x K}:NW C gl (.loop IK) ⟨e,h,x⟩ K=YA C gl IK K [(0,bA e 0),(1,bA e 1),(5,bA e 5)] h x:=RB
def bQ:ACode:=.pr [0,5] (.seq (rg [mV 22 0,
mV 23 5,
uO 24 (.slice (some 8) 22 none (some 23) none),
mV 4 24] [4])
.ret)
def z0v (C:Hd)(gl:GL)(v0 v5:AV)(h:aA)(x:Esc)(K:KT):Prop:=
 pK (QC (some 8) v0 none (some v5) none h) fun t1=>
 K .ret ⟨[(4,t1)],h,x⟩
theorem zdZ {C gl e h x K}:NW C gl bQ ⟨e,h,x⟩ K=z0v C gl (bA e 0) (bA e 5) h x K:=by kernel_rfl
def VX (q1 q2:ACode):ACode:=(.seq (rg [mV 4 (.c (.p (.sl (some 8) [])))] [0,1])
(.seq (rg [mV 6 0,
lN 7 6,
mV 5 7] [0,1,5])
(.seq (.block 0 (.loop q1))
q2)))
def rN:AFun:=⟨2,[.t 4],VX IK bQ,false,false⟩
def vO (C:Hd)(gl:GL)(q1 q2:ACode)(v0 v1:AV)(h:aA)(x:Esc)(K:KT):Prop:=
 pK (QA v0) fun t1=>
 NW C gl (.loop q1) ⟨[(0,v0),(1,v1),(5,t1)],h,x⟩ (OA 0 (TA C gl q2 K))
theorem z68 {C gl q1 q2 v0 v1 h x K}:NW C gl (VX q1 q2) ⟨enter [v0,v1],h,x⟩ K=vO C gl q1 q2 v0 v1 h x K:=by kernel_rfl
theorem zdX {C gl v0 v1 h x K}:NW C gl rN.body ⟨enter [v0,v1],h,x⟩ K=vO C gl IK bQ v0 v1 h x K:=z68
def DP:ACode:=.pr [1,3,4] (.seq (.block 0 (.seq (rg [fA 45 0 none 1,
lD 46 none 45,
cL 47 ZD [46],
uO 48 (.un .not 47),
mV 44 48] [1,3,4,44])
(.cond 44 (.seq (rg [mV 2 (cI 5)] [2])
.ret)
(.seq (rg [fA 50 1 none 1,
lD 51 none 50,
cL 52 iD [51,(cI 1),(cI 1000000)],
uO 53 (.un .not 52),
mV 54 53,
gD 55 54 false (.faddr 2 none 1),
gD 56 54 false (.load none 55),
gD 57 54 false (.call eH [56]),
gD 58 54 false (.un .not 57),
uO 59 (.pick 54 cT 58),
mV 49 59] [1,3,4,49])
(.cond 49 (.seq (rg [mV 2 (cI 1)] [2])
.ret)
(.seq (rg [fA 61 3 none 1,
lD 62 none 61,
cL 63 iD [62,(cI 1),(cI 7)],
uO 64 (.un .not 63),
mV 60 64] [1,3,4,60])
(.cond 60 (.seq (rg [mV 2 (cI 4)] [2])
.ret)
(.seq (rg [mV 66 4,
uO 67 (.un .not 66),
mV 65 67] [1,3,65])
(.cond 65 (.seq (rg [mV 2 (cI 5)] [2])
.ret)
(.seq (rg [fA 69 3 none 1,
lD 70 none 69,
bN 71 .eql 70 (cI 7),
mV 72 71,
gD 73 72 true (.faddr 7 none 1),
gD 74 72 true (.load none 73),
gD 75 72 true (.call iD [74,(cI 1),(cI 1000000)]),
gD 76 72 true (.un .not 75),
uO 77 (.pick 72 76 cF),
mV 68 77] [1,3,68])
(.cond 68 (.seq (rg [mV 2 (cI 1)] [2])
.ret)
(.seq (rg [lD 79 (some 8) 1,
lD 80 (some 8) 3,
uO 81 (.eqa [2,0,0,0,2,2,2,0] true 79 80),
mV 78 81] [78])
(.cond 78 (.seq (rg [mV 2 (cI 3)] [2])
.ret)
.skip)))))))))))))
(.seq (rg [mV 2 (cI 0)] [2])
.ret))
def WD (C:Hd)(gl:GL)(v1 v3 v4:AV)(h:aA)(x:Esc)(K:KT):Prop:=
 pK (rA 0 none v1) fun t1=>
 pK (oA none t1 h) fun t2=>
 C ZD [t2] h fun t3 h4 y5=>
 pK (oUn .not t3) fun t6=>
 qA t6 (K .ret ⟨[(2,(AI 5))],h4,(y5++x)⟩)
 (pK (rA 1 none v1) fun t7=>
 pK (oA none t7 h4) fun t8=>
 C iD [t8,(AI 1),(AI 1000000)] h4 fun t9 h10 y11=>
 pK (oUn .not t9) fun t12=>
 gP t12 false (rA 2 none v1) h10 fun t13 h14 y15=>
 gP t12 false (oA none t13 h14) h14 fun t16 h17 y18=>
 gV t12 false h17 (C eH [t16] h17) fun t19 h20 y21=>
 gP t12 false (oUn .not t19) h20 fun t22 h23 y24=>
 pK (SA t12 (AB true) t22) fun t25=>
 qA t25 (K .ret ⟨[(2,(AI 1))],h23,(y24++(y21++(y18++(y15++(y11++(y5++x))))))⟩)
 (pK (rA 3 none v1) fun t26=>
 pK (oA none t26 h23) fun t27=>
 C iD [t27,(AI 1),(AI 7)] h23 fun t28 h29 y30=>
 pK (oUn .not t28) fun t31=>
 qA t31 (K .ret ⟨[(2,(AI 4))],h29,(y30++(y24++(y21++(y18++(y15++(y11++(y5++x)))))))⟩)
 (pK (oUn .not v4) fun t32=>
 qA t32 (K .ret ⟨[(2,(AI 5))],h29,(y30++(y24++(y21++(y18++(y15++(y11++(y5++x)))))))⟩)
 (pK (rA 3 none v1) fun t33=>
 pK (oA none t33 h29) fun t34=>
 pK (eA .eql t34 (AI 7)) fun t35=>
 gP t35 true (rA 7 none v1) h29 fun t36 h37 y38=>
 gP t35 true (oA none t36 h37) h37 fun t39 h40 y41=>
 gV t35 true h40 (C iD [t39,(AI 1),(AI 1000000)] h40) fun t42 h43 y44=>
 gP t35 true (oUn .not t42) h43 fun t45 h46 y47=>
 pK (SA t35 t45 (AB false)) fun t48=>
 qA t48 (K .ret ⟨[(2,(AI 1))],h46,(y47++(y44++(y41++(y38++(y30++(y24++(y21++(y18++(y15++(y11++(y5++x)))))))))))⟩)
 (pK (oA (some 8) v1 h46) fun t49=>
 pK (oA (some 8) v3 h46) fun t50=>
 pK (iB [2,0,0,0,2,2,2,0] true t49 t50) fun t51=>
 qA t51 (K .ret ⟨[(2,(AI 3))],h46,(y47++(y44++(y41++(y38++(y30++(y24++(y21++(y18++(y15++(y11++(y5++x)))))))))))⟩)
 (K .ret ⟨[(2,(AI 0))],h46,(y47++(y44++(y41++(y38++(y30++(y24++(y21++(y18++(y15++(y11++(y5++x)))))))))))⟩))))))
theorem zcg {C gl e h x K}:NW C gl DP ⟨e,h,x⟩ K=WD C gl (bA e 1) (bA e 3) (bA e 4) h x K:=by kernel_rfl
def VW (q1:ACode):ACode:=(.seq (rg [uO 1 (.box 0),
mV 2 (cI 0)] [1])
(.seq (rg [fA 5 0 none 1,
lD 6 none 5,
fA 7 1 none 1,
lD 8 none 7,
fA 9 2 none 1,
lD 10 none 9,
fA 11 3 none 1,
lD 12 none 11,
uO 13 (.build [.p (.str []),.p (.int .i64 0),.p (.int .i64 0),.p (.int .i64 0),.p (.str []),.p (.str []),.p (.str []),.p (.int .i64 0)] [(0,1,6),(1,1,8),(2,1,10),(3,1,12)]),
uO 3 (.alloc [.p (.str []),.p (.int .i64 0),.p (.int .i64 0),.p (.int .i64 0),.p (.str []),.p (.str []),.p (.str []),.p (.int .i64 0)]),
wO (.store (some 8) 3 13)] [1,3])
(.seq (rg [mV 4 cT] [1,3])
(.seq (.seq (rg [fA 14 3 none 1,
lD 15 none 14,
bN 16 .eql 15 (cI 7)] [1,3,16])
(.cond 16 (dr [dF (fA 17 6 none 1) [1],
dF (lD 18 none 17) [17],
dF (fA 19 7 none 1) [1],
dF (lD 20 none 19) [19],
dF (fA 21 6 none 1) [1],
dF (lD 22 none 21) [21],
dA (cL 23 ZD [22]) [22] true [] [1,3],
dF (fA 24 6 none 3) [3],
dA (wO (.store none 24 18)) [24,18] true [] [3],
dF (fA 25 7 none 3) [3],
dT (wO (.store none 25 20)) [25,20],
dF (mV 4 23) [23]] [1,3,4])
(.seq (dr [dF (fA 26 4 none 1) [1],
dF (lD 27 none 26) [26],
dF (fA 28 4 none 1) [1],
dF (lD 29 none 28) [28],
dA (cL 30 ZD [29]) [29] true [] [1],
dF (fA 31 4 none 3) [3],
dT (wO (.store none 31 27)) [31,27],
dF (mV 4 30) [30]] [1,3,4])
(.seq (rg [fA 32 3 none 1,
lD 33 none 32,
bN 34 .eql 33 (cI 2)] [1,3,4,34])
(.cond 34 (dr [dF (fA 35 5 none 1) [1],
dF (lD 36 none 35) [35],
dF (mV 37 4) [4],
dF (mV 38 37) [37],
dF (gD 39 38 true (.faddr 5 none 1)) [1,38],
dF (gD 40 38 true (.load none 39)) [39,38],
dA (gD 41 38 true (.call ZD [40])) [40,38] true [] [1],
dF (uO 42 (.pick 38 41 cF)) [38,41],
dF (fA 43 5 none 3) [3],
dT (wO (.store none 43 36)) [43,36],
dF (mV 4 42) [42]] [1,3,4])
.skip)))))
q1))))
def gR:AFun:=⟨1,[.t 2],VW DP,false,false⟩
def XG (C:Hd)(gl:GL)(q1:ACode)(v0:AV)(h:aA)(x:Esc)(K:KT):Prop:=
 wK (jD v0 h) fun t1 h2 y3=>
 pK (rA 0 none t1) fun t4=>
 pK (oA none t4 h2) fun t5=>
 pK (rA 1 none t1) fun t6=>
 pK (oA none t6 h2) fun t7=>
 pK (rA 2 none t1) fun t8=>
 pK (oA none t8 h2) fun t9=>
 pK (rA 3 none t1) fun t10=>
 pK (oA none t10 h2) fun t11=>
 pK (mE [.p (.str []),.p (.int .i64 0),.p (.int .i64 0),.p (.int .i64 0),.p (.str []),.p (.str []),.p (.str []),.p (.int .i64 0)] [(0,1,t5),(1,1,t7),(2,1,t9),(3,1,t11)]) fun t12=>
 alK [.p (.str []),.p (.int .i64 0),.p (.int .i64 0),.p (.int .i64 0),.p (.str []),.p (.str []),.p (.str []),.p (.int .i64 0)] h2 fun t13 h14 y15=>
 wK (GA (some 8) t13 t12 h14) fun t16 h17 y18=>
 pK (rA 3 none t1) fun t19=>
 pK (oA none t19 h17) fun t20=>
 pK (eA .eql t20 (AI 7)) fun t21=>
 qA t21 (pK (rA 6 none t1) fun t22=>
 pK (oA none t22 h17) fun t23=>
 pK (rA 7 none t1) fun t24=>
 pK (oA none t24 h17) fun t25=>
 pK (rA 6 none t1) fun t26=>
 pK (oA none t26 h17) fun t27=>
 BB C ZD [t27] h17 fun t28 h29 y30=>
 (pK (oA none t22 h29) fun v=>(fun u (g1:aA) (y1:Esc)=>u=t23∧g1=h29∧y1=[]) v h29 [])∧((pK (oA none t24 h29) fun v=>(fun u (g1:aA) (y1:Esc)=>u=t25∧g1=h29∧y1=[]) v h29 [])∧(pK (rA 6 none t13) fun t31=>
 wK (GA none t31 t23 h29) fun t32 h33 y34=>
 (pK (oA none t24 h33) fun v=>(fun u (g1:aA) (y1:Esc)=>u=t25∧g1=h33∧y1=[]) v h33 [])∧(pK (rA 7 none t13) fun t35=>
 wK (GA none t35 t25 h33) fun t36 h37 y38=>
 NW C gl q1 ⟨[(1,t1),(3,t13),(4,t28)],h37,(y38++(y34++(y30++(y18++(y15++(y3++x))))))⟩ K))))
 (pK (rA 4 none t1) fun t39=>
 pK (oA none t39 h17) fun t40=>
 pK (rA 4 none t1) fun t41=>
 pK (oA none t41 h17) fun t42=>
 BB C ZD [t42] h17 fun t43 h44 y45=>
 (pK (oA none t39 h44) fun v=>(fun u (g1:aA) (y1:Esc)=>u=t40∧g1=h44∧y1=[]) v h44 [])∧(pK (rA 4 none t13) fun t46=>
 wK (GA none t46 t40 h44) fun t47 h48 y49=>
 pK (rA 3 none t1) fun t50=>
 pK (oA none t50 h48) fun t51=>
 pK (eA .eql t51 (AI 2)) fun t52=>
 qA t52 (pK (rA 5 none t1) fun t53=>
 pK (oA none t53 h48) fun t54=>
 gP t43 true (rA 5 none t1) h48 fun t55 h56 y57=>
 gP t43 true (oA none t55 h56) h56 fun t58 h59 y60=>
 gV t43 true h59 (BB C ZD [t58] h59) fun t61 h62 y63=>
 (pK (oA none t53 h62) fun v=>(fun u (g1:aA) (y1:Esc)=>u=t54∧g1=h62∧y1=[]) v h62 [])∧(pK (SA t43 t61 (AB false)) fun t64=>
 pK (rA 5 none t13) fun t65=>
 wK (GA none t65 t54 h62) fun t66 h67 y68=>
 NW C gl q1 ⟨[(1,t1),(3,t13),(4,t64)],h67,(y68++(y63++(y60++(y57++(y49++(y45++(y18++(y15++(y3++x)))))))))⟩ K))
 (NW C gl q1 ⟨[(1,t1),(3,t13),(4,t43),(34,t52)],h48,(y49++(y45++(y18++(y15++(y3++x)))))⟩ K)))
theorem z5M {C gl q1 v0 h x K}:NW C gl (VW q1) ⟨enter [v0],h,x⟩ K=XG C gl q1 v0 h x K:=by kernel_rfl
theorem zcf {C gl v0 h x K}:NW C gl gR.body ⟨enter [v0],h,x⟩ K=XG C gl DP v0 h x K:=z5M
def z7e:ACode:=(.seq (rg [mV 4 cF] [0,1])
(.seq (rg [mV 5 0,
mV 6 1,
cL 7 lH [5,6],
bN 8 .geq 7 (cI 0),
mV 4 8] [4])
.ret))
def zR:AFun:=⟨2,[.t 4],z7e,true,false⟩
def SS (C:Hd)(gl:GL)(v0 v1:AV)(h:aA)(x:Esc)(K:KT):Prop:=
 C lH [v0,v1] h fun t1 h2 y3=>
 pK (eA .geq t1 (AI 0)) fun t4=>
 K .ret ⟨[(4,t4)],h2,(y3++x)⟩
theorem zcM {C gl v0 v1 h x K}:NW C gl zR.body ⟨enter [v0,v1],h,x⟩ K=SS C gl v0 v1 h x K:=by kernel_rfl
def z6U:ACode:=(.seq (rg [uO 2 (.box 0),
mV 3 cF] [1,2])
(.seq (rg [lD 4 (some 8) 2,
lD 5 (some 8) 1,
cL 6 iH [4,5],
mV 3 6] [3])
.ret))
def fR:AFun:=⟨2,[.t 3],z6U,false,false⟩
def GS (C:Hd)(gl:GL)(v0 v1:AV)(h:aA)(x:Esc)(K:KT):Prop:=
 wK (jD v0 h) fun t1 h2 y3=>
 pK (oA (some 8) t1 h2) fun t4=>
 pK (oA (some 8) v1 h2) fun t5=>
 C iH [t4,t5] h2 fun t6 h7 y8=>
 K .ret ⟨[(3,t6)],h7,(y8++(y3++x))⟩
theorem zce {C gl v0 v1 h x K}:NW C gl fR.body ⟨enter [v0,v1],h,x⟩ K=GS C gl v0 v1 h x K:=by kernel_rfl
def z7b:ACode:=(.seq (rg [uO 2 (.box 0),
uO 3 (.box 1),
mV 4 cF] [2,3])
(.seq (rg [fA 5 0 none 2,
lD 6 none 5,
fA 7 0 none 3,
lD 8 none 7,
bN 9 .eql 6 8,
mV 10 9,
gD 11 10 true (.faddr 1 none 2),
gD 12 10 true (.load none 11),
gD 13 10 true (.faddr 1 none 3),
gD 14 10 true (.load none 13),
gD 15 10 true (.bin .eql 12 14),
uO 16 (.pick 10 15 cF),
mV 4 16] [4])
.ret))
def tR:AFun:=⟨2,[.t 4],z7b,false,false⟩
def bO (C:Hd)(gl:GL)(v0 v1:AV)(h:aA)(x:Esc)(K:KT):Prop:=
 wK (jD v0 h) fun t1 h2 y3=>
 wK (jD v1 h2) fun t4 h5 y6=>
 pK (rA 0 none t1) fun t7=>
 pK (oA none t7 h5) fun t8=>
 pK (rA 0 none t4) fun t9=>
 pK (oA none t9 h5) fun t10=>
 pK (eA .eql t8 t10) fun t11=>
 gP t11 true (rA 1 none t1) h5 fun t12 h13 y14=>
 gP t11 true (oA none t12 h13) h13 fun t15 h16 y17=>
 gP t11 true (rA 1 none t4) h16 fun t18 h19 y20=>
 gP t11 true (oA none t18 h19) h19 fun t21 h22 y23=>
 gP t11 true (eA .eql t15 t21) h22 fun t24 h25 y26=>
 pK (SA t11 t24 (AB false)) fun t27=>
 K .ret ⟨[(4,t27)],h25,(y26++(y23++(y20++(y17++(y14++(y6++(y3++x)))))))⟩
theorem zc2 {C gl v0 v1 h x K}:NW C gl tR.body ⟨enter [v0,v1],h,x⟩ K=bO C gl v0 v1 h x K:=by kernel_rfl
def z6Y:ACode:=(.seq (rg [mV 2 cF] [0])
(.seq (rg [mV 3 0,
cL 4 iD [3,(cI 0),(cI 345686399999)],
mV 2 4] [2])
.ret))
def mR:AFun:=⟨1,[.t 2],z6Y,false,false⟩
def KS (C:Hd)(gl:GL)(v0:AV)(h:aA)(x:Esc)(K:KT):Prop:=
 C iD [v0,(AI 0),(AI 345686399999)] h fun t1 h2 y3=>
 K .ret ⟨[(2,t1)],h2,(y3++x)⟩
theorem zcq {C gl v0 h x K}:NW C gl mR.body ⟨enter [v0],h,x⟩ K=KS C gl v0 h x K:=by kernel_rfl
def rK:ACode:=.pr [0,1,7,8] (.seq (rg [bN 9 .lss 8 7] [0,1,7,8,9])
(.seq (.cond 9 .skip
(.exit 0))
(.seq (.block 1 (.seq (rg [mV 10 8,
mV 5 10] [0,1,5,7,8])
(.seq (rg [mV 11 1,
mV 12 0,
mV 13 5,
iA 14 (some 8) 12 13,
lD 15 (some 8) 14,
uO 16 (.callv 11 [15])] [0,1,5,7,8,16])
(.cond 16 (.seq (rg [mV 17 5,
mV 4 17] [4])
.ret)
.skip))))
(rg [bN 18 .add 8 (cI 1),
mV 8 18] [0,1,7,8]))))
def SZ (C:Hd)(gl:GL)(v0 v1 v7 v8:AV)(h:aA)(x:Esc)(K:KT):Prop:=
 pK (eA .lss v8 v7) fun t1=>
 qA t1 (pK (uA (some 8) v0 v8 h) fun t2=>
 pK (oA (some 8) t2 h) fun t3=>
 TH C v1 [t3] h fun t4 h5 y6=>
 qA t4 (K .ret ⟨[(4,v8)],h5,(y6++x)⟩)
 (pK (eA .add v8 (AI 1)) fun t7=>
 K .normal ⟨[(0,v0),(1,v1),(7,v7),(8,t7)],h5,(y6++x)⟩))
 (K (.exit 0) ⟨[(0,v0),(1,v1),(7,v7),(8,v8),(9,t1)],h,x⟩)
theorem zcV {C gl e h x K}:NW C gl rK ⟨e,h,x⟩ K=SZ C gl (bA e 0) (bA e 1) (bA e 7) (bA e 8) h x K:=by kernel_rfl
theorem zfU {C gl e h x K}:NW C gl (.loop rK) ⟨e,h,x⟩ K=YA C gl rK K [(0,bA e 0),(1,bA e 1),(7,bA e 7),(8,bA e 8)] h x:=RB
def NP:ACode:=.pr [] (.seq (rg [mV 4 (cI (-1))] [4])
.ret)
def TZ (C:Hd)(gl:GL)(h:aA)(x:Esc)(K:KT):Prop:=
 K .ret ⟨[(4,(AI (-1)))],h,x⟩
theorem zcW {C gl e h x K}:NW C gl NP ⟨e,h,x⟩ K=TZ C gl h x K:=by kernel_rfl
def oX (q1 q2:ACode):ACode:=(.seq (rg [mV 4 (cI 0)] [0,1])
(.seq (.seq (rg [mV 6 0,
lN 7 6,
mV 8 (cI 0)] [0,1,7,8])
(.block 0 (.loop q1)))
q2))
def CR:AFun:=⟨2,[.t 4],oX rK NP,true,false⟩
def eO (C:Hd)(gl:GL)(q1 q2:ACode)(v0 v1:AV)(h:aA)(x:Esc)(K:KT):Prop:=
 pK (QA v0) fun t1=>
 NW C gl (.loop q1) ⟨[(0,v0),(1,v1),(7,t1),(8,(AI 0))],h,x⟩ (OA 0 (TA C gl q2 K))
theorem z6d {C gl q1 q2 v0 v1 h x K}:NW C gl (oX q1 q2) ⟨enter [v0,v1],h,x⟩ K=eO C gl q1 q2 v0 v1 h x K:=by kernel_rfl
theorem zcU {C gl v0 v1 h x K}:NW C gl CR.body ⟨enter [v0,v1],h,x⟩ K=eO C gl rK NP v0 v1 h x K:=z6d
def z6X:ACode:=(.seq (rg [uO 2 (.box 0),
mV 3 cF] [1,2])
(.seq (rg [lD 4 (some 8) 2,
lD 5 (some 8) 1,
cL 6 iH [4,5],
mV 3 6] [3])
.ret))
def lR:AFun:=⟨2,[.t 3],z6X,false,false⟩
def JS (C:Hd)(gl:GL)(v0 v1:AV)(h:aA)(x:Esc)(K:KT):Prop:=
 wK (jD v0 h) fun t1 h2 y3=>
 pK (oA (some 8) t1 h2) fun t4=>
 pK (oA (some 8) v1 h2) fun t5=>
 C iH [t4,t5] h2 fun t6 h7 y8=>
 K .ret ⟨[(3,t6)],h7,(y8++(y3++x))⟩
theorem zcp {C gl v0 v1 h x K}:NW C gl lR.body ⟨enter [v0,v1],h,x⟩ K=JS C gl v0 v1 h x K:=by kernel_rfl
def z7g:ACode:=(.seq (rg [mV 5 0,
lN 6 5,
mV 4 6] [0,1,4])
(rg [mV 7 0,
mV 8 4,
mV 9 4,
uO 10 (.conv (.i .u64) 9),
cL 11 nI [10],
mV 12 1,
cL 13 vE [7,(cI 0),8,11,12]] []))
def DR:AFun:=⟨2,[],z7g,true,false⟩
def gO (C:Hd)(gl:GL)(v0 v1:AV)(h:aA)(x:Esc)(K:KT):Prop:=
 pK (QA v0) fun t1=>
 pK (CI .u64 t1) fun t2=>
 C nI [t2] h fun t3 h4 y5=>
 C vE [v0,(AI 0),t1,t3,v1] h4 fun t6 h7 y8=>
 K .normal ⟨[],h7,(y8++(y5++x))⟩
theorem zda {C gl v0 v1 h x K}:NW C gl DR.body ⟨enter [v0,v1],h,x⟩ K=gO C gl v0 v1 h x K:=by kernel_rfl
def jK:ACode:=.pr [0,1,2,7] (.seq (.seq (rg [mV 17 7,
mV 18 0,
lN 19 18,
bN 20 .lss 17 19,
mV 21 20,
gD 22 21 true (.mv 0),
gD 23 21 true (.mv 7),
gD 24 21 true (.iaddr (some 8) 22 23),
gD 25 21 true (.faddr 2 none 24),
gD 26 21 true (.load none 25),
gD 27 21 true (.mv 2),
gD 28 21 true (.bin .leq 26 27),
uO 29 (.pick 21 28 cF)] [0,1,2,7,29])
(.cond 29 .skip
(.exit 0)))
(.seq (.block 1 (.seq (dr [dF (mV 32 0) [0],
dF (mV 33 7) [7],
dF (iA 34 (some 8) 32 33) [32,33],
dF (fA 35 3 none 34) [34],
dF (lD 36 none 35) [35],
dF (bN 37 .eql 36 (cI 7)) [36],
dF (mV 38 37) [37],
dF (gD 39 38 true (.mv 0)) [0,38],
dF (gD 40 38 true (.mv 7)) [7,38],
dF (gD 41 38 true (.iaddr (some 8) 39 40)) [39,40,38],
dF (gD 42 38 true (.faddr 6 none 41)) [41,38],
dF (gD 43 38 true (.load none 42)) [42,38],
dF (gD 44 38 true (.mv 0)) [0,38],
dF (gD 45 38 true (.mv 1)) [1,38],
dF (gD 46 38 true (.iaddr (some 8) 44 45)) [44,45,38],
dF (gD 47 38 true (.faddr 0 none 46)) [46,38],
dF (gD 48 38 true (.load none 47)) [47,38],
dF (gD 49 38 true (.bin .eql 43 48)) [43,48,38],
dF (uO 50 (.pick 38 49 cF)) [38,49],
dF (mV 51 50) [50],
dF (gD 52 51 true (.mv 0)) [0,51],
dF (gD 53 51 true (.mv 7)) [7,51],
dF (gD 54 51 true (.iaddr (some 8) 52 53)) [52,53,51],
dF (gD 55 51 true (.faddr 7 none 54)) [54,51],
dF (gD 56 51 true (.load none 55)) [55,51],
dF (gD 57 51 true (.mv 0)) [0,51],
dF (gD 58 51 true (.mv 1)) [1,51],
dF (gD 59 51 true (.iaddr (some 8) 57 58)) [57,58,51],
dF (gD 60 51 true (.faddr 1 none 59)) [59,51],
dF (gD 61 51 true (.load none 60)) [60,51],
dF (gD 62 51 true (.bin .eql 56 61)) [56,61,51],
dF (uO 63 (.pick 51 62 cF)) [51,62],
dF (mV 64 63) [63],
dF (gD 65 64 true (.mv 0)) [0,64],
dF (gD 66 64 true (.mv 7)) [7,64],
dF (gD 67 64 true (.mv 2)) [2,64],
dT (gD 68 64 true (.call fH [65,66,67])) [65,66,67,64],
dF (uO 69 (.pick 64 68 cF)) [64,68]] [0,1,2,7,69])
(.cond 69 (.seq (rg [mV 6 cF] [6])
.ret)
.skip)))
(rg [mV 30 7,
bN 31 .add 30 (cI 1),
mV 7 31] [0,1,2,7])))
def zZ (C:Hd)(gl:GL)(v0 v1 v2 v7:AV)(h:aA)(x:Esc)(K:KT):Prop:=
 pK (QA v0) fun t1=>
 pK (eA .lss v7 t1) fun t2=>
 gM t2 true v0 h fun t3 h4 y5=>
 gM t2 true v7 h4 fun t6 h7 y8=>
 gP t2 true (uA (some 8) t3 t6 h7) h7 fun t9 h10 y11=>
 gP t2 true (rA 2 none t9) h10 fun t12 h13 y14=>
 gP t2 true (oA none t12 h13) h13 fun t15 h16 y17=>
 gM t2 true v2 h16 fun t18 h19 y20=>
 gP t2 true (eA .leq t15 t18) h19 fun t21 h22 y23=>
 pK (SA t2 t21 (AB false)) fun t24=>
 qA t24 (pK (uA (some 8) v0 v7 h22) fun t25=>
 pK (rA 3 none t25) fun t26=>
 pK (oA none t26 h22) fun t27=>
 pK (eA .eql t27 (AI 7)) fun t28=>
 gM t28 true v0 h22 fun t29 h30 y31=>
 gM t28 true v7 h30 fun t32 h33 y34=>
 gP t28 true (uA (some 8) t29 t32 h33) h33 fun t35 h36 y37=>
 gP t28 true (rA 6 none t35) h36 fun t38 h39 y40=>
 gP t28 true (oA none t38 h39) h39 fun t41 h42 y43=>
 gM t28 true v0 h42 fun t44 h45 y46=>
 gM t28 true v1 h45 fun t47 h48 y49=>
 gP t28 true (uA (some 8) t44 t47 h48) h48 fun t50 h51 y52=>
 gP t28 true (rA 0 none t50) h51 fun t53 h54 y55=>
 gP t28 true (oA none t53 h54) h54 fun t56 h57 y58=>
 gP t28 true (eA .eql t41 t56) h57 fun t59 h60 y61=>
 pK (SA t28 t59 (AB false)) fun t62=>
 gM t62 true v0 h60 fun t63 h64 y65=>
 gM t62 true v7 h64 fun t66 h67 y68=>
 gP t62 true (uA (some 8) t63 t66 h67) h67 fun t69 h70 y71=>
 gP t62 true (rA 7 none t69) h70 fun t72 h73 y74=>
 gP t62 true (oA none t72 h73) h73 fun t75 h76 y77=>
 gM t62 true v0 h76 fun t78 h79 y80=>
 gM t62 true v1 h79 fun t81 h82 y83=>
 gP t62 true (uA (some 8) t78 t81 h82) h82 fun t84 h85 y86=>
 gP t62 true (rA 1 none t84) h85 fun t87 h88 y89=>
 gP t62 true (oA none t87 h88) h88 fun t90 h91 y92=>
 gP t62 true (eA .eql t75 t90) h91 fun t93 h94 y95=>
 pK (SA t62 t93 (AB false)) fun t96=>
 gM t96 true v0 h94 fun t97 h98 y99=>
 gM t96 true v7 h98 fun t100 h101 y102=>
 gM t96 true v2 h101 fun t103 h104 y105=>
 gV t96 true h104 (BB C fH [t97,t100,t103] h104) fun t106 h107 y108=>
 pK (SA t96 t106 (AB false)) fun t109=>
 qA t109 (K .ret ⟨[(6,(AB false))],h107,(y108++(y105++(y102++(y99++(y95++(y92++(y89++(y86++(y83++(y80++(y77++(y74++(y71++(y68++(y65++(y61++(y58++(y55++(y52++(y49++(y46++(y43++(y40++(y37++(y34++(y31++(y23++(y20++(y17++(y14++(y11++(y8++(y5++x)))))))))))))))))))))))))))))))))⟩)
 (pK (eA .add v7 (AI 1)) fun t110=>
 K .normal ⟨[(0,v0),(1,v1),(2,v2),(7,t110)],h107,(y108++(y105++(y102++(y99++(y95++(y92++(y89++(y86++(y83++(y80++(y77++(y74++(y71++(y68++(y65++(y61++(y58++(y55++(y52++(y49++(y46++(y43++(y40++(y37++(y34++(y31++(y23++(y20++(y17++(y14++(y11++(y8++(y5++x)))))))))))))))))))))))))))))))))⟩))
 (K (.exit 0) ⟨[(0,v0),(1,v1),(2,v2),(7,v7),(29,t24)],h22,(y23++(y20++(y17++(y14++(y11++(y8++(y5++x)))))))⟩)
theorem zcw {C gl e h x K}:NW C gl jK ⟨e,h,x⟩ K=zZ C gl (bA e 0) (bA e 1) (bA e 2) (bA e 7) h x K:=by kernel_rfl
theorem zfK {C gl e h x K}:NW C gl (.loop jK) ⟨e,h,x⟩ K=YA C gl jK K [(0,bA e 0),(1,bA e 1),(2,bA e 2),(7,bA e 7)] h x:=RB
def GP:ACode:=.pr [] (.seq (rg [mV 6 cT] [6])
.ret)
def AZ (C:Hd)(gl:GL)(h:aA)(x:Esc)(K:KT):Prop:=
 K .ret ⟨[(6,(AB true))],h,x⟩
theorem zcx {C gl e h x K}:NW C gl GP ⟨e,h,x⟩ K=AZ C gl h x K:=by kernel_rfl
def bX (q1 q2:ACode):ACode:=(.seq (rg [mV 6 cF] [0,1,2])
(.seq (.seq (rg [mV 8 0,
mV 9 1,
iA 10 (some 8) 8 9,
fA 11 2 none 10,
lD 12 none 11,
mV 13 2,
bN 14 .gtr 12 13] [0,1,2,14])
(.cond 14 (.seq (rg [mV 6 cF] [6])
.ret)
.skip))
(.seq (.seq (rg [mV 15 1,
bN 16 .add 15 (cI 1),
mV 7 16] [0,1,2,7])
(.block 0 (.loop q1)))
q2)))
def pR:AFun:=⟨3,[.t 6],bX jK GP,false,false⟩
def vL (C:Hd)(gl:GL)(q1 q2:ACode)(v0 v1 v2:AV)(h:aA)(x:Esc)(K:KT):Prop:=
 pK (uA (some 8) v0 v1 h) fun t1=>
 pK (rA 2 none t1) fun t2=>
 pK (oA none t2 h) fun t3=>
 pK (eA .gtr t3 v2) fun t4=>
 qA t4 (K .ret ⟨[(6,(AB false))],h,x⟩)
 (pK (eA .add v1 (AI 1)) fun t5=>
 NW C gl (.loop q1) ⟨[(0,v0),(1,v1),(2,v2),(7,t5)],h,x⟩ (OA 0 (TA C gl q2 K)))
theorem z5S {C gl q1 q2 v0 v1 v2 h x K}:NW C gl (bX q1 q2) ⟨enter [v0,v1,v2],h,x⟩ K=vL C gl q1 q2 v0 v1 v2 h x K:=by kernel_rfl
theorem zcv {C gl v0 v1 v2 h x K}:NW C gl pR.body ⟨enter [v0,v1,v2],h,x⟩ K=vL C gl jK GP v0 v1 v2 h x K:=z5S
def YJ:ACode:=.pr [0,23,24] (.seq (rg [bN 25 .lss 24 23] [0,23,24,25])
(.seq (.cond 25 .skip
(.exit 0))
(.seq (.block 1 (.seq (rg [mV 26 24,
mV 3 26] [0,3,23,24])
(.seq (rg [mV 27 0,
mV 28 3,
uO 29 (.idxs 27 28),
mV 4 29] [0,4,23,24])
(.seq (rg [mV 30 4,
bN 31 .geq 30 (.c (.p (.int .u8 97))),
mV 32 31,
gD 33 32 true (.mv 4),
gD 34 32 true (.bin .leq 33 (.c (.p (.int .u8 122)))),
uO 35 (.pick 32 34 cF),
mV 36 35,
gD 37 36 false (.mv 4),
gD 38 36 false (.bin .geq 37 (.c (.p (.int .u8 48)))),
gD 39 36 false (.mv 38),
gD 40 39 true (.mv 4),
gD 41 39 true (.bin .leq 40 (.c (.p (.int .u8 57)))),
gD 42 36 false (.pick 39 41 cF),
uO 43 (.pick 36 cT 42),
mV 44 43,
gD 45 44 false (.mv 4),
gD 46 44 false (.bin .eql 45 (.c (.p (.int .u8 45)))),
uO 47 (.pick 44 cT 46),
mV 48 47,
gD 49 48 false (.mv 4),
gD 50 48 false (.bin .eql 49 (.c (.p (.int .u8 95)))),
uO 51 (.pick 48 cT 50),
uO 52 (.un .not 51)] [0,23,24,52])
(.cond 52 (.seq (rg [mV 2 cF] [2])
.ret)
.skip)))))
(rg [bN 53 .add 24 (cI 1),
mV 24 53] [0,23,24]))))
def cZ (C:Hd)(gl:GL)(v0 v23 v24:AV)(h:aA)(x:Esc)(K:KT):Prop:=
 pK (eA .lss v24 v23) fun t1=>
 qA t1 (pK (zG v0 v24) fun t2=>
 pK (eA .geq t2 (.p (.int .u8 97))) fun t3=>
 gM t3 true t2 h fun t4 h5 y6=>
 gP t3 true (eA .leq t4 (.p (.int .u8 122))) h5 fun t7 h8 y9=>
 pK (SA t3 t7 (AB false)) fun t10=>
 gM t10 false t2 h8 fun t11 h12 y13=>
 gP t10 false (eA .geq t11 (.p (.int .u8 48))) h12 fun t14 h15 y16=>
 gM t10 false t14 h15 fun t17 h18 y19=>
 gM t17 true t2 h18 fun t20 h21 y22=>
 gP t17 true (eA .leq t20 (.p (.int .u8 57))) h21 fun t23 h24 y25=>
 gP t10 false (SA t17 t23 (AB false)) h24 fun t26 h27 y28=>
 pK (SA t10 (AB true) t26) fun t29=>
 gM t29 false t2 h27 fun t30 h31 y32=>
 gP t29 false (eA .eql t30 (.p (.int .u8 45))) h31 fun t33 h34 y35=>
 pK (SA t29 (AB true) t33) fun t36=>
 gM t36 false t2 h34 fun t37 h38 y39=>
 gP t36 false (eA .eql t37 (.p (.int .u8 95))) h38 fun t40 h41 y42=>
 pK (SA t36 (AB true) t40) fun t43=>
 pK (oUn .not t43) fun t44=>
 qA t44 (K .ret ⟨[(2,(AB false))],h41,(y42++(y39++(y35++(y32++(y28++(y25++(y22++(y19++(y16++(y13++(y9++(y6++x))))))))))))⟩)
 (pK (eA .add v24 (AI 1)) fun t45=>
 K .normal ⟨[(0,v0),(23,v23),(24,t45)],h41,(y42++(y39++(y35++(y32++(y28++(y25++(y22++(y19++(y16++(y13++(y9++(y6++x))))))))))))⟩))
 (K (.exit 0) ⟨[(0,v0),(23,v23),(24,v24),(25,t1)],h,x⟩)
theorem zbt {C gl e h x K}:NW C gl YJ ⟨e,h,x⟩ K=cZ C gl (bA e 0) (bA e 23) (bA e 24) h x K:=by kernel_rfl
theorem zfA {C gl e h x K}:NW C gl (.loop YJ) ⟨e,h,x⟩ K=YA C gl YJ K [(0,bA e 0),(23,bA e 23),(24,bA e 24)] h x:=RB
def qP:ACode:=.pr [] (.seq (rg [mV 2 cT] [2])
.ret)
def dZ (C:Hd)(gl:GL)(h:aA)(x:Esc)(K:KT):Prop:=
 K .ret ⟨[(2,(AB true))],h,x⟩
theorem zbu {C gl e h x K}:NW C gl qP ⟨e,h,x⟩ K=dZ C gl h x K:=by kernel_rfl
def wW (q1 q2:ACode):ACode:=(.seq (rg [mV 2 cF] [0])
(.seq (.seq (rg [mV 5 0,
bN 6 .eql 5 (cS []),
mV 7 6,
gD 8 7 false (.mv 0),
gD 9 7 false (.lens 8),
gD 10 7 false (.bin .gtr 9 (cI 40)),
uO 11 (.pick 7 cT 10),
mV 12 11,
gD 13 12 false (.mv 0),
gD 14 12 false (.idxs 13 (cI 0)),
gD 15 12 false (.bin .lss 14 (.c (.p (.int .u8 97)))),
uO 16 (.pick 12 cT 15),
mV 17 16,
gD 18 17 false (.mv 0),
gD 19 17 false (.idxs 18 (cI 0)),
gD 20 17 false (.bin .gtr 19 (.c (.p (.int .u8 122)))),
uO 21 (.pick 17 cT 20)] [0,21])
(.cond 21 (.seq (rg [mV 2 cF] [2])
.ret)
.skip))
(.seq (.seq (rg [mV 22 0,
uO 23 (.lens 22),
mV 24 (cI 0)] [0,23,24])
(.block 0 (.loop q1)))
q2)))
def ZM:AFun:=⟨1,[.t 2],wW YJ qP,false,false⟩
def WG (C:Hd)(gl:GL)(q1 q2:ACode)(v0:AV)(h:aA)(x:Esc)(K:KT):Prop:=
 pK (eA .eql v0 (.p (.str []))) fun t1=>
 gM t1 false v0 h fun t2 h3 y4=>
 gP t1 false (DI t2) h3 fun t5 h6 y7=>
 gP t1 false (eA .gtr t5 (AI 40)) h6 fun t8 h9 y10=>
 pK (SA t1 (AB true) t8) fun t11=>
 gM t11 false v0 h9 fun t12 h13 y14=>
 gP t11 false (zG t12 (AI 0)) h13 fun t15 h16 y17=>
 gP t11 false (eA .lss t15 (.p (.int .u8 97))) h16 fun t18 h19 y20=>
 pK (SA t11 (AB true) t18) fun t21=>
 gM t21 false v0 h19 fun t22 h23 y24=>
 gP t21 false (zG t22 (AI 0)) h23 fun t25 h26 y27=>
 gP t21 false (eA .gtr t25 (.p (.int .u8 122))) h26 fun t28 h29 y30=>
 pK (SA t21 (AB true) t28) fun t31=>
 qA t31 (K .ret ⟨[(2,(AB false))],h29,(y30++(y27++(y24++(y20++(y17++(y14++(y10++(y7++(y4++x)))))))))⟩)
 (pK (DI v0) fun t32=>
 NW C gl (.loop q1) ⟨[(0,v0),(23,t32),(24,(AI 0))],h29,(y30++(y27++(y24++(y20++(y17++(y14++(y10++(y7++(y4++x)))))))))⟩ (OA 0 (TA C gl q2 K)))
theorem z5z {C gl q1 q2 v0 h x K}:NW C gl (wW q1 q2) ⟨enter [v0],h,x⟩ K=WG C gl q1 q2 v0 h x K:=by kernel_rfl
theorem zbs {C gl v0 h x K}:NW C gl ZM.body ⟨enter [v0],h,x⟩ K=WG C gl YJ qP v0 h x K:=z5z
def z7f:ACode:=(.seq (rg [mV 4 cF] [0,1])
(.seq (rg [mV 5 0,
mV 6 1,
cL 7 mH [5,6],
bN 8 .geq 7 (cI 0),
mV 4 8] [4])
.ret))
def iN:AFun:=⟨2,[.t 4],z7f,true,false⟩
def TS (C:Hd)(gl:GL)(v0 v1:AV)(h:aA)(x:Esc)(K:KT):Prop:=
 C mH [v0,v1] h fun t1 h2 y3=>
 pK (eA .geq t1 (AI 0)) fun t4=>
 K .ret ⟨[(4,t4)],h2,(y3++x)⟩
theorem zcN {C gl v0 v1 h x K}:NW C gl iN.body ⟨enter [v0,v1],h,x⟩ K=TS C gl v0 v1 h x K:=by kernel_rfl
def z6G:ACode:=(.seq (rg [mV 6 cF] [0,1,2])
(.seq (rg [mV 7 0,
mV 8 1,
bN 9 .lss 7 8,
mV 10 9,
gD 11 10 false (.mv 0),
gD 12 10 false (.mv 2),
gD 13 10 false (.bin .gtr 11 12),
uO 14 (.pick 10 cT 13),
mV 6 14] [6])
.ret))
def cN:AFun:=⟨3,[.t 6],z6G,false,false⟩
def rS (C:Hd)(gl:GL)(v0 v1 v2:AV)(h:aA)(x:Esc)(K:KT):Prop:=
 pK (eA .lss v0 v1) fun t1=>
 gM t1 false v0 h fun t2 h3 y4=>
 gM t1 false v2 h3 fun t5 h6 y7=>
 gP t1 false (eA .gtr t2 t5) h6 fun t8 h9 y10=>
 pK (SA t1 (AB true) t8) fun t11=>
 K .ret ⟨[(6,t11)],h9,(y10++(y7++(y4++x)))⟩
theorem zbw {C gl v0 v1 v2 h x K}:NW C gl cN.body ⟨enter [v0,v1,v2],h,x⟩ K=rS C gl v0 v1 v2 h x K:=by kernel_rfl
def z6W:ACode:=(.seq (rg [mV 2 cF] [0])
(.seq (rg [mV 3 0,
uO 4 (.lens 3),
cL 5 iD [4,(cI 1),(cI 40)],
mV 6 5,
gD 7 6 true (.mv 0),
gD 8 6 true (.slstr 7 none (some (cI 1))),
gD 9 6 true (.call gH [8,(cS [97,98,99,100,101,102,103,104,105,106,107,108,109,110,111,112,113,114,115,116,117,118,119,120,121,122])]),
uO 10 (.pick 6 9 cF),
mV 11 10,
gD 12 11 true (.mv 0),
gD 13 11 true (.call gH [12,(cS [97,98,99,100,101,102,103,104,105,106,107,108,109,110,111,112,113,114,115,116,117,118,119,120,121,122,48,49,50,51,52,53,54,55,56,57,45,95])]),
uO 14 (.pick 11 13 cF),
mV 2 14] [2])
.ret))
def kR:AFun:=⟨1,[.t 2],z6W,false,false⟩
def eJ (C:Hd)(gl:GL)(v0:AV)(h:aA)(x:Esc)(K:KT):Prop:=
 pK (DI v0) fun t1=>
 C iD [t1,(AI 1),(AI 40)] h fun t2 h3 y4=>
 gM t2 true v0 h3 fun t5 h6 y7=>
 gP t2 true (mP t5 none (some (AI 1))) h6 fun t8 h9 y10=>
 gV t2 true h9 (C gH [t8,(.p (.str [97,98,99,100,101,102,103,104,105,106,107,108,109,110,111,112,113,114,115,116,117,118,119,120,121,122]))] h9) fun t11 h12 y13=>
 pK (SA t2 t11 (AB false)) fun t14=>
 gM t14 true v0 h12 fun t15 h16 y17=>
 gV t14 true h16 (C gH [t15,(.p (.str [97,98,99,100,101,102,103,104,105,106,107,108,109,110,111,112,113,114,115,116,117,118,119,120,121,122,48,49,50,51,52,53,54,55,56,57,45,95]))] h16) fun t18 h19 y20=>
 pK (SA t14 t18 (AB false)) fun t21=>
 K .ret ⟨[(2,t21)],h19,(y20++(y17++(y13++(y10++(y7++(y4++x))))))⟩
theorem zck {C gl v0 h x K}:NW C gl kR.body ⟨enter [v0],h,x⟩ K=eJ C gl v0 h x K:=by kernel_rfl
def z7a:ACode:=(.seq (rg [mV 6 cF] [0,1,2])
(.seq (rg [mV 7 1,
mV 8 0,
bN 9 .leq 7 8,
mV 10 9,
gD 11 10 true (.mv 0),
gD 12 10 true (.mv 2),
gD 13 10 true (.bin .leq 11 12),
uO 14 (.pick 10 13 cF),
mV 6 14] [6])
.ret))
def qR:AFun:=⟨3,[.t 6],z7a,false,false⟩
def MS (C:Hd)(gl:GL)(v0 v1 v2:AV)(h:aA)(x:Esc)(K:KT):Prop:=
 pK (eA .leq v1 v0) fun t1=>
 gM t1 true v0 h fun t2 h3 y4=>
 gM t1 true v2 h3 fun t5 h6 y7=>
 gP t1 true (eA .leq t2 t5) h6 fun t8 h9 y10=>
 pK (SA t1 t8 (AB false)) fun t11=>
 K .ret ⟨[(6,t11)],h9,(y10++(y7++(y4++x)))⟩
theorem zcy {C gl v0 v1 v2 h x K}:NW C gl qR.body ⟨enter [v0,v1,v2],h,x⟩ K=MS C gl v0 v1 v2 h x K:=by kernel_rfl
def BK:ACode:=.pr [0,1,2,6,7,8] (.seq (.seq (rg [mV 11 8,
mV 12 1,
bN 13 .leq 11 12] [0,1,2,6,7,8,13])
(.cond 13 .skip
(.exit 0)))
(.block 1 (.seq (rg [mV 14 0,
mV 15 7,
mV 16 8,
mV 17 2,
cL 18 aE [14,15,16,17]] [0,1,2,6,8])
(.seq (rg [mV 19 8,
mV 7 19] [0,1,2,6,7,8])
(rg [mV 20 8,
mV 21 6,
bN 22 .add 20 21,
mV 8 22] [0,1,2,6,7,8])))))
def z0h (C:Hd)(gl:GL)(v0 v1 v2 v6 v7 v8:AV)(h:aA)(x:Esc)(K:KT):Prop:=
 pK (eA .leq v8 v1) fun t1=>
 qA t1 (C aE [v0,v7,v8,v2] h fun t2 h3 y4=>
 pK (eA .add v8 v6) fun t5=>
 K .normal ⟨[(0,v0),(1,v1),(2,v2),(6,v6),(7,v8),(8,t5)],h3,(y4++x)⟩)
 (K (.exit 0) ⟨[(0,v0),(1,v1),(2,v2),(6,v6),(7,v7),(8,v8),(13,t1)],h,x⟩)
theorem zd4 {C gl e h x K}:NW C gl BK ⟨e,h,x⟩ K=z0h C gl (bA e 0) (bA e 1) (bA e 2) (bA e 6) (bA e 7) (bA e 8) h x K:=by kernel_rfl
theorem zgi {C gl e h x K}:NW C gl (.loop BK) ⟨e,h,x⟩ K=YA C gl BK K [(0,bA e 0),(1,bA e 1),(2,bA e 2),(6,bA e 6),(7,bA e 7),(8,bA e 8)] h x:=RB
def yM:ACode:=.pr [0,1,2,6,7,8] (.seq (.seq (rg [mV 33 8,
mV 34 1,
bN 35 .leq 33 34] [0,1,2,6,7,8,35])
(.cond 35 .skip
(.exit 4)))
(.block 5 (.seq (rg [mV 36 0,
mV 37 7,
mV 38 7,
mV 39 6,
bN 40 .add 38 39,
mV 41 8,
mV 42 2,
cL 43 MO [36,37,40,41,42]] [0,1,2,6,8])
(.seq (rg [mV 44 8,
mV 7 44] [0,1,2,6,7,8])
(rg [mV 45 8,
mV 46 6,
bN 47 .mul (cI 2) 46,
bN 48 .add 45 47,
mV 8 48] [0,1,2,6,7,8])))))
def z0i (C:Hd)(gl:GL)(v0 v1 v2 v6 v7 v8:AV)(h:aA)(x:Esc)(K:KT):Prop:=
 pK (eA .leq v8 v1) fun t1=>
 qA t1 (pK (eA .add v7 v6) fun t2=>
 C MO [v0,v7,t2,v8,v2] h fun t3 h4 y5=>
 pK (eA .mul (AI 2) v6) fun t6=>
 pK (eA .add v8 t6) fun t7=>
 K .normal ⟨[(0,v0),(1,v1),(2,v2),(6,v6),(7,v8),(8,t7)],h4,(y5++x)⟩)
 (K (.exit 4) ⟨[(0,v0),(1,v1),(2,v2),(6,v6),(7,v7),(8,v8),(35,t1)],h,x⟩)
theorem zd5 {C gl e h x K}:NW C gl yM ⟨e,h,x⟩ K=z0i C gl (bA e 0) (bA e 1) (bA e 2) (bA e 6) (bA e 7) (bA e 8) h x K:=by kernel_rfl
theorem zgj {C gl e h x K}:NW C gl (.loop yM) ⟨e,h,x⟩ K=YA C gl yM K [(0,bA e 0),(1,bA e 1),(2,bA e 2),(6,bA e 6),(7,bA e 7),(8,bA e 8)] h x:=RB
def VU:ACode:=.pr [0,1,2,6] (rg [mV 61 6,
bN 62 .mul 61 (cI 2),
mV 6 62] [0,1,2,6])
def z0j (C:Hd)(gl:GL)(v0 v1 v2 v6:AV)(h:aA)(x:Esc)(K:KT):Prop:=
 pK (eA .mul v6 (AI 2)) fun t1=>
 K .normal ⟨[(0,v0),(1,v1),(2,v2),(6,t1)],h,x⟩
theorem zd6 {C gl e h x K}:NW C gl VU ⟨e,h,x⟩ K=z0j C gl (bA e 0) (bA e 1) (bA e 2) (bA e 6) h x K:=by kernel_rfl
def JX (q3:ACode):ACode:=.pr [0,1,2,6,7] (.seq (.seq (rg [mV 49 7,
mV 50 6,
bN 51 .add 49 50,
mV 9 51] [0,1,2,6,7,9])
(.seq (rg [mV 52 9,
mV 53 1,
bN 54 .lss 52 53] [0,1,2,6,7,9,54])
(.cond 54 (rg [mV 55 0,
mV 56 7,
mV 57 9,
mV 58 1,
mV 59 2,
cL 60 MO [55,56,57,58,59]] [0,1,2,6])
.skip)))
q3)
def WU:ACode:=JX VU
def fT (C:Hd)(gl:GL)(q3:ACode)(v0 v1 v2 v6 v7:AV)(h:aA)(x:Esc)(K:KT):Prop:=
 pK (eA .add v7 v6) fun t1=>
 pK (eA .lss t1 v1) fun t2=>
 qA t2 (C MO [v0,v7,t1,v1,v2] h fun t3 h4 y5=>
 NW C gl q3 ⟨[(0,v0),(1,v1),(2,v2),(6,v6)],h4,(y5++x)⟩ K)
 (NW C gl q3 ⟨[(0,v0),(1,v1),(2,v2),(6,v6),(7,v7),(9,t1),(54,t2)],h,x⟩ K)
theorem z6w {C gl q3 e h x K}:NW C gl (JX q3) ⟨e,h,x⟩ K=fT C gl q3 (bA e 0) (bA e 1) (bA e 2) (bA e 6) (bA e 7) h x K:=by kernel_rfl
theorem zd7 {C gl e h x K}:NW C gl WU ⟨e,h,x⟩ K=fT C gl VU (bA e 0) (bA e 1) (bA e 2) (bA e 6) (bA e 7) h x K:=z6w
def KX (q2 q4:ACode):ACode:=.pr [0,1,2,6] (.seq (.seq (rg [mV 28 6,
mV 29 1,
bN 30 .lss 28 29] [0,1,2,6,30])
(.cond 30 .skip
(.exit 2)))
(.block 3 (.seq (rg [mV 31 6,
bN 32 .mul (cI 2) 31,
mV 7 (cI 0),
mV 8 32] [0,1,2,6,7,8])
(.seq (.block 4 (.loop q2))
q4))))
def zM:ACode:=KX yM WU
def gT (C:Hd)(gl:GL)(q2 q4:ACode)(v0 v1 v2 v6:AV)(h:aA)(x:Esc)(K:KT):Prop:=
 pK (eA .lss v6 v1) fun t1=>
 qA t1 (pK (eA .mul (AI 2) v6) fun t2=>
 NW C gl (.loop q2) ⟨[(0,v0),(1,v1),(2,v2),(6,v6),(7,(AI 0)),(8,t2)],h,x⟩ (OA 4 (TA C gl q4 (OA 3 K))))
 (K (.exit 2) ⟨[(0,v0),(1,v1),(2,v2),(6,v6),(30,t1)],h,x⟩)
theorem z6x {C gl q2 q4 e h x K}:NW C gl (KX q2 q4) ⟨e,h,x⟩ K=gT C gl q2 q4 (bA e 0) (bA e 1) (bA e 2) (bA e 6) h x K:=by kernel_rfl
theorem zd8 {C gl e h x K}:NW C gl zM ⟨e,h,x⟩ K=gT C gl yM WU (bA e 0) (bA e 1) (bA e 2) (bA e 6) h x K:=z6x
theorem zgk {C gl e h x K}:NW C gl (.loop zM) ⟨e,h,x⟩ K=YA C gl zM K [(0,bA e 0),(1,bA e 1),(2,bA e 2),(6,bA e 6)] h x:=RB
def LX (q5:ACode):ACode:=.pr [0,1,2,6,7] (.seq (rg [mV 23 0,
mV 24 7,
mV 25 1,
mV 26 2,
cL 27 aE [23,24,25,26]] [0,1,2,6])
(.block 2 (.loop q5)))
def VP:ACode:=LX zM
def iT (C:Hd)(gl:GL)(q5:ACode)(v0 v1 v2 v6 v7:AV)(h:aA)(x:Esc)(K:KT):Prop:=
 C aE [v0,v7,v1,v2] h fun t1 h2 y3=>
 NW C gl (.loop q5) ⟨[(0,v0),(1,v1),(2,v2),(6,v6)],h2,(y3++x)⟩ (OA 2 K)
theorem z6y {C gl q5 e h x K}:NW C gl (LX q5) ⟨e,h,x⟩ K=iT C gl q5 (bA e 0) (bA e 1) (bA e 2) (bA e 6) (bA e 7) h x K:=by kernel_rfl
theorem zd9 {C gl e h x K}:NW C gl VP ⟨e,h,x⟩ K=iT C gl zM (bA e 0) (bA e 1) (bA e 2) (bA e 6) (bA e 7) h x K:=z6y
def IX (q1 q6:ACode):ACode:=(.seq (rg [mV 6 (cI 20)] [0,1,2,6])
(.seq (rg [mV 10 6,
mV 7 (cI 0),
mV 8 10] [0,1,2,6,7,8])
(.seq (.block 0 (.loop q1))
q6)))
def MR:AFun:=⟨3,[],IX BK VP,true,false⟩
def pO (C:Hd)(gl:GL)(q1 q6:ACode)(v0 v1 v2:AV)(h:aA)(x:Esc)(K:KT):Prop:=
 NW C gl (.loop q1) ⟨[(0,v0),(1,v1),(2,v2),(6,(AI 20)),(7,(AI 0)),(8,(AI 20))],h,x⟩ (OA 0 (TA C gl q6 K))
theorem z6v {C gl q1 q6 v0 v1 v2 h x K}:NW C gl (IX q1 q6) ⟨enter [v0,v1,v2],h,x⟩ K=pO C gl q1 q6 v0 v1 v2 h x K:=by kernel_rfl
theorem zd3 {C gl v0 v1 v2 h x K}:NW C gl MR.body ⟨enter [v0,v1,v2],h,x⟩ K=pO C gl BK VP v0 v1 v2 h x K:=z6v
def z7c:ACode:=(.seq (rg [mV 2 (cI 0)] [0])
(.seq (.block 0 (.seq (rg [mV 4 0,
bN 5 .lss 4 (cI 0),
mV 3 5] [0,3])
(.cond 3 (.seq (rg [mV 2 (cI (-1))] [2])
.ret)
(.seq (rg [mV 7 0,
bN 8 .gtr 7 (cI 0),
mV 6 8] [6])
(.cond 6 (.seq (rg [mV 2 (cI 1)] [2])
.ret)
.skip)))))
(.seq (rg [mV 2 (cI 0)] [2])
.ret)))
def uR:AFun:=⟨1,[.t 2],z7c,false,false⟩
def wL (C:Hd)(gl:GL)(v0:AV)(h:aA)(x:Esc)(K:KT):Prop:=
 pK (eA .lss v0 (AI 0)) fun t1=>
 qA t1 (K .ret ⟨[(2,(AI (-1)))],h,x⟩)
 (pK (eA .gtr v0 (AI 0)) fun t2=>
 qA t2 (K .ret ⟨[(2,(AI 1))],h,x⟩)
 (K .ret ⟨[(2,(AI 0))],h,x⟩))
theorem zc3 {C gl v0 h x K}:NW C gl uR.body ⟨enter [v0],h,x⟩ K=wL C gl v0 h x K:=by kernel_rfl
def z70:ACode:=(.seq (rg [mV 4 (cI 0)] [0,1])
(.seq (rg [mV 5 0,
mV 6 1,
cL 7 mI [5,6],
mV 4 7] [4])
.ret))
def sN:AFun:=⟨2,[.t 4],z70,false,false⟩
def nT (C:Hd)(gl:GL)(v0 v1:AV)(h:aA)(x:Esc)(K:KT):Prop:=
 C mI [v0,v1] h fun t1 h2 y3=>
 K .ret ⟨[(4,t1)],h2,(y3++x)⟩
theorem zea {C gl v0 v1 h x K}:NW C gl sN.body ⟨enter [v0,v1],h,x⟩ K=nT C gl v0 v1 h x K:=by kernel_rfl
def ZJ:ACode:=.pr [3,6,7,8] (.seq (rg [bN 9 .lss 8 7] [3,6,7,8,9])
(.seq (.cond 9 .skip
(.exit 0))
(.seq (.block 1 (.seq (rg [iA 10 none 6 8,
lD 11 none 10,
mV 5 11] [3,5,6,7,8])
(.seq (rg [mV 12 5,
mV 13 3,
bN 14 .neq 12 13] [3,5,6,7,8,14])
(.cond 14 (.seq (rg [mV 15 5,
mV 2 15] [2])
.ret)
.skip))))
(rg [bN 16 .add 8 (cI 1),
mV 8 16] [3,6,7,8]))))
def eZ (C:Hd)(gl:GL)(v3 v6 v7 v8:AV)(h:aA)(x:Esc)(K:KT):Prop:=
 pK (eA .lss v8 v7) fun t1=>
 qA t1 (pK (uA none v6 v8 h) fun t2=>
 pK (oA none t2 h) fun t3=>
 pK (eA .neq t3 v3) fun t4=>
 qA t4 (K .ret ⟨[(2,t3)],h,x⟩)
 (pK (eA .add v8 (AI 1)) fun t5=>
 K .normal ⟨[(3,v3),(6,v6),(7,v7),(8,t5)],h,x⟩))
 (K (.exit 0) ⟨[(3,v3),(6,v6),(7,v7),(8,v8),(9,t1)],h,x⟩)
theorem zbz {C gl e h x K}:NW C gl ZJ ⟨e,h,x⟩ K=eZ C gl (bA e 3) (bA e 6) (bA e 7) (bA e 8) h x K:=by kernel_rfl
theorem zfB {C gl e h x K}:NW C gl (.loop ZJ) ⟨e,h,x⟩ K=YA C gl ZJ K [(3,bA e 3),(6,bA e 6),(7,bA e 7),(8,bA e 8)] h x:=RB
def rP:ACode:=.pr [3] (.seq (rg [mV 17 3,
mV 2 17] [2])
.ret)
def fZ (C:Hd)(gl:GL)(v3:AV)(h:aA)(x:Esc)(K:KT):Prop:=
 K .ret ⟨[(2,v3)],h,x⟩
theorem zb0 {C gl e h x K}:NW C gl rP ⟨e,h,x⟩ K=fZ C gl (bA e 3) h x K:=by kernel_rfl
def xW (q1 q2:ACode):ACode:=(.seq (rg [mV 2 (cI 0)] [0])
(.seq (rg [mV 3 (cI 0)] [0,3])
(.seq (.seq (rg [mV 6 0,
lN 7 6,
mV 8 (cI 0)] [3,6,7,8])
(.block 0 (.loop q1)))
q2)))
def eN:AFun:=⟨1,[.t 2],xW ZJ rP,false,false⟩
def NN (C:Hd)(gl:GL)(q1 q2:ACode)(v0:AV)(h:aA)(x:Esc)(K:KT):Prop:=
 pK (QA v0) fun t1=>
 NW C gl (.loop q1) ⟨[(3,(AI 0)),(6,v0),(7,t1),(8,(AI 0))],h,x⟩ (OA 0 (TA C gl q2 K))
theorem z50 {C gl q1 q2 v0 h x K}:NW C gl (xW q1 q2) ⟨enter [v0],h,x⟩ K=NN C gl q1 q2 v0 h x K:=by kernel_rfl
theorem zby {C gl v0 h x K}:NW C gl eN.body ⟨enter [v0],h,x⟩ K=NN C gl ZJ rP v0 h x K:=z50
end Go.Am
end
section
/- The functions asv abstract code,and asv formulas AE their values: printed by program out of the translation. -/
set_option linter.unusedVariables false
set_option maxRecDepth 100000
namespace Go.Am
def z6H:ACode:=(.seq (rg [mV 4 (cI 0)] [0,1])
(.seq (rg [mV 7 0,
cL 8 oG [7],
mV 5 8] [0,1,5])
(.seq (rg [mV 9 1,
cL 10 oG [9],
mV 6 10] [0,1,5,6])
(.seq (.seq (rg [mV 11 5] [0,1,6,11])
(.cond 11 (.seq (.seq (rg [mV 12 6] [12])
(.cond 12 (.seq (rg [mV 4 (cI 0)] [4])
.ret)
.skip))
(.seq (rg [mV 4 (cI (-1))] [4])
.ret))
.skip))
(.seq (.seq (rg [mV 13 6] [0,1,13])
(.cond 13 (.seq (rg [mV 4 (cI 1)] [4])
.ret)
.skip))
(.seq (.seq (rg [mV 14 0,
mV 15 1,
bN 16 .lss 14 15] [0,1,16])
(.cond 16 (.seq (rg [mV 4 (cI (-1))] [4])
.ret)
.skip))
(.seq (.seq (rg [mV 17 0,
mV 18 1,
bN 19 .gtr 17 18] [19])
(.cond 19 (.seq (rg [mV 4 (cI 1)] [4])
.ret)
.skip))
(.seq (rg [mV 4 (cI 0)] [4])
.ret))))))))
def dN:AFun:=⟨2,[.t 4],z6H,false,false⟩
def qL (C:Hd)(gl:GL)(v0 v1:AV)(h:aA)(x:Esc)(K:KT):Prop:=
 C oG [v0] h fun t1 h2 y3=>
 C oG [v1] h2 fun t4 h5 y6=>
 qA t1 (qA t4 (K .ret ⟨[(4,(AI 0))],h5,(y6++(y3++x))⟩)
 (K .ret ⟨[(4,(AI (-1)))],h5,(y6++(y3++x))⟩))
 (qA t4 (K .ret ⟨[(4,(AI 1))],h5,(y6++(y3++x))⟩)
 (pK (eA .lss v0 v1) fun t7=>
 qA t7 (K .ret ⟨[(4,(AI (-1)))],h5,(y6++(y3++x))⟩)
 (pK (eA .gtr v0 v1) fun t8=>
 qA t8 (K .ret ⟨[(4,(AI 1))],h5,(y6++(y3++x))⟩)
 (K .ret ⟨[(4,(AI 0))],h5,(y6++(y3++x))⟩))))
theorem zbx {C gl v0 v1 h x K}:NW C gl dN.body ⟨enter [v0,v1],h,x⟩ K=qL C gl v0 v1 h x K:=by kernel_rfl
def z6F:ACode:=(.seq (rg [mV 2 cF] [0])
(.seq (rg [mV 3 0,
cL 4 qD [3,(cI 0),(cI 345686399999)],
uO 5 (.un .not 4),
mV 2 5] [2])
.ret))
def aN:AFun:=⟨1,[.t 2],z6F,false,false⟩
def qS (C:Hd)(gl:GL)(v0:AV)(h:aA)(x:Esc)(K:KT):Prop:=
 C qD [v0,(AI 0),(AI 345686399999)] h fun t1 h2 y3=>
 pK (oUn .not t1) fun t4=>
 K .ret ⟨[(2,t4)],h2,(y3++x)⟩
theorem zbv {C gl v0 h x K}:NW C gl aN.body ⟨enter [v0],h,x⟩ K=qS C gl v0 h x K:=by kernel_rfl
def xM:ACode:=.pr [0,1,2,3,4,10,11,12,13] (.seq (.seq (dr [dF (mV 81 1) [1],
dF (bN 82 .gtr 81 (cI 0)) [81],
dF (mV 83 82) [82],
dF (gD 84 83 true (.mv 4)) [4,83],
dF (gD 85 83 true (.mv 0)) [0,83],
dF (gD 86 83 true (.mv 1)) [1,83],
dF (gD 87 83 true (.bin .sub 86 (cI 1))) [86,83],
dF (gD 88 83 true (.iaddr (some 8) 85 87)) [85,87,83],
dF (gD 89 83 true (.load (some 8) 88)) [88,83],
dF (gD 90 83 true (.mv 0)) [0,83],
dF (gD 91 83 true (.mv 13)) [13,83],
dF (gD 92 83 true (.iaddr (some 8) 90 91)) [90,91,83],
dF (gD 93 83 true (.load (some 8) 92)) [92,83],
dT (gD 94 83 true (.callv 84 [89,93])) [84,89,93,83],
dF (gD 95 83 true (.bin .lss 94 (cI 0))) [94,83],
dF (gD 96 83 true (.un .not 95)) [95,83],
dF (uO 97 (.pick 83 96 cF)) [83,96]] [0,1,2,3,4,10,11,12,13,97])
(.cond 97 (.seq (rg [mV 98 0,
mV 99 1,
mV 100 2,
mV 101 13,
mV 102 4,
cL 103 z1a [98,99,100,101,102],
mV 15 103] [0,2,3,4,10,11,15])
(.seq (rg [mV 104 15,
mV 1 104] [0,1,2,3,4,10,11])
(.exit 1)))
.skip))
(.seq (rg [mV 106 0,
mV 107 1,
mV 108 2,
mV 109 13,
mV 110 4,
cL 111 oH [106,107,108,109,110],
mV 105 111,
eX 112 105 0,
eX 113 105 1,
mV 16 112,
mV 17 113] [0,1,2,3,4,12,16,17])
(.seq (rg [mV 114 17,
mV 11 114] [0,1,2,3,4,11,12,16])
(.seq (rg [mV 115 16,
mV 116 1,
bN 117 .sub 115 116,
mV 118 2,
mV 119 16,
bN 120 .sub 118 119,
mV 18 117,
mV 19 120] [0,1,2,3,4,11,12,16,18,19])
(.seq (rg [mV 121 12,
bN 122 .quo 121 (cI 8),
mV 20 122] [0,1,2,3,4,11,16,18,19,20])
(.seq (rg [mV 123 18,
mV 124 19,
bN 125 .lss 123 124] [0,1,2,3,4,11,16,18,19,20,125])
(.cond 125 (.seq (rg [mV 126 18,
mV 127 20,
bN 128 .geq 126 127,
mV 10 128] [0,1,2,3,4,10,11,16])
(.seq (rg [mV 129 0,
mV 130 1,
mV 131 16,
mV 132 3,
mV 133 4,
cL 134 vE [129,130,131,132,133]] [0,2,3,4,10,11,16])
(rg [mV 135 16,
bN 136 .add 135 (cI 1),
mV 1 136] [0,1,2,3,4,10,11])))
(.seq (rg [mV 137 19,
mV 138 20,
bN 139 .geq 137 138,
mV 10 139] [0,1,2,3,4,10,11,16])
(.seq (rg [mV 140 0,
mV 141 16,
bN 142 .add 141 (cI 1),
mV 143 2,
mV 144 3,
mV 145 4,
cL 146 vE [140,142,143,144,145]] [0,1,3,4,10,11,16])
(rg [mV 147 16,
mV 2 147] [0,1,2,3,4,10,11]))))))))))
def IL (C:Hd)(gl:GL)(v0 v1 v2 v3 v4 v10 v11 v12 v13:AV)(h:aA)(x:Esc)(K:KT):Prop:=
 pK (eA .gtr v1 (AI 0)) fun t1=>
 gM t1 true v4 h fun t2 h3 y4=>
 gM t1 true v0 h3 fun t5 h6 y7=>
 gM t1 true v1 h6 fun t8 h9 y10=>
 gP t1 true (eA .sub t8 (AI 1)) h9 fun t11 h12 y13=>
 gP t1 true (uA (some 8) t5 t11 h12) h12 fun t14 h15 y16=>
 gP t1 true (oA (some 8) t14 h15) h15 fun t17 h18 y19=>
 gM t1 true v0 h18 fun t20 h21 y22=>
 gM t1 true v13 h21 fun t23 h24 y25=>
 gP t1 true (uA (some 8) t20 t23 h24) h24 fun t26 h27 y28=>
 gP t1 true (oA (some 8) t26 h27) h27 fun t29 h30 y31=>
 gV t1 true h30 (oD C t2 [t17,t29] h30) fun t32 h33 y34=>
 gP t1 true (eA .lss t32 (AI 0)) h33 fun t35 h36 y37=>
 gP t1 true (oUn .not t35) h36 fun t38 h39 y40=>
 pK (SA t1 t38 (AB false)) fun t41=>
 qA t41 (C z1a [v0,v1,v2,v13,v4] h39 fun t42 h43 y44=>
 K (.exit 1) ⟨[(0,v0),(1,t42),(2,v2),(3,v3),(4,v4),(10,v10),(11,v11)],h43,(y44++(y40++(y37++(y34++(y31++(y28++(y25++(y22++(y19++(y16++(y13++(y10++(y7++(y4++x))))))))))))))⟩)
 (C oH [v0,v1,v2,v13,v4] h39 fun t45 h46 y47=>
 pK (xC t45 0) fun t48=>
 pK (xC t45 1) fun t49=>
 pK (eA .sub t48 v1) fun t50=>
 pK (eA .sub v2 t48) fun t51=>
 pK (eA .quo v12 (AI 8)) fun t52=>
 pK (eA .lss t50 t51) fun t53=>
 qA t53 (pK (eA .geq t50 t52) fun t54=>
 C vE [v0,v1,t48,v3,v4] h46 fun t55 h56 y57=>
 pK (eA .add t48 (AI 1)) fun t58=>
 K .normal ⟨[(0,v0),(1,t58),(2,v2),(3,v3),(4,v4),(10,t54),(11,t49)],h56,(y57++(y47++(y40++(y37++(y34++(y31++(y28++(y25++(y22++(y19++(y16++(y13++(y10++(y7++(y4++x)))))))))))))))⟩)
 (pK (eA .geq t51 t52) fun t59=>
 pK (eA .add t48 (AI 1)) fun t60=>
 C vE [v0,t60,v2,v3,v4] h46 fun t61 h62 y63=>
 K .normal ⟨[(0,v0),(1,v1),(2,t48),(3,v3),(4,v4),(10,t59),(11,t49)],h62,(y63++(y47++(y40++(y37++(y34++(y31++(y28++(y25++(y22++(y19++(y16++(y13++(y10++(y7++(y4++x)))))))))))))))⟩))
theorem zT {C gl e h x K}:NW C gl xM ⟨e,h,x⟩ K=IL C gl (bA e 0) (bA e 1) (bA e 2) (bA e 3) (bA e 4) (bA e 10) (bA e 11) (bA e 12) (bA e 13) h x K:=by kernel_rfl
def DX (q1:ACode):ACode:=.pr [0,1,2,3,4,10,11,12,13,14] (.seq (.seq (rg [mV 68 10,
mV 69 68,
gD 70 69 true (.mv 11),
uO 71 (.pick 69 70 cF),
mV 72 71,
gD 73 72 true (.mv 14),
gD 74 72 true (.bin .eql 73 (cI 1)),
uO 75 (.pick 72 74 cF)] [0,1,2,3,4,10,11,12,13,75])
(.cond 75 (.seq (rg [mV 76 0,
mV 77 1,
mV 78 2,
mV 79 4,
cL 80 uI [76,77,78,79]] [0,1,2,3,4,10,11,12,13,80])
(.cond 80 .ret
.skip))
.skip))
q1)
def TU:ACode:=DX xM
def aT (C:Hd)(gl:GL)(q1:ACode)(v0 v1 v2 v3 v4 v10 v11 v12 v13 v14:AV)(h:aA)(x:Esc)(K:KT):Prop:=
 gM v10 true v11 h fun t1 h2 y3=>
 pK (SA v10 t1 (AB false)) fun t4=>
 gM t4 true v14 h2 fun t5 h6 y7=>
 gP t4 true (eA .eql t5 (AI 1)) h6 fun t8 h9 y10=>
 pK (SA t4 t8 (AB false)) fun t11=>
 qA t11 (C uI [v0,v1,v2,v4] h9 fun t12 h13 y14=>
 qA t12 (K .ret ⟨[(0,v0),(1,v1),(2,v2),(3,v3),(4,v4),(10,v10),(11,v11),(12,v12),(13,v13),(80,t12)],h13,(y14++(y10++(y7++(y3++x))))⟩)
 (NW C gl q1 ⟨[(0,v0),(1,v1),(2,v2),(3,v3),(4,v4),(10,v10),(11,v11),(12,v12),(13,v13),(80,t12)],h13,(y14++(y10++(y7++(y3++x))))⟩ K))
 (NW C gl q1 ⟨[(0,v0),(1,v1),(2,v2),(3,v3),(4,v4),(10,v10),(11,v11),(12,v12),(13,v13),(75,t11)],h9,(y10++(y7++(y3++x)))⟩ K)
theorem z6s {C gl q1 e h x K}:NW C gl (DX q1) ⟨e,h,x⟩ K=aT C gl q1 (bA e 0) (bA e 1) (bA e 2) (bA e 3) (bA e 4) (bA e 10) (bA e 11) (bA e 12) (bA e 13) (bA e 14) h x K:=by kernel_rfl
theorem zd0 {C gl e h x K}:NW C gl TU ⟨e,h,x⟩ K=aT C gl xM (bA e 0) (bA e 1) (bA e 2) (bA e 3) (bA e 4) (bA e 10) (bA e 11) (bA e 12) (bA e 13) (bA e 14) h x K:=z6s
def FX (q2:ACode):ACode:=.pr [0,1,2,3,4,10,11,12] (.seq (rg [mV 48 0,
mV 49 1,
mV 50 2,
mV 51 4,
cL 52 DJ [48,49,50,51],
mV 47 52,
eX 53 47 0,
eX 54 47 1,
mV 13 53,
mV 14 54] [0,1,2,3,4,10,11,12,13,14])
(.seq (.seq (rg [mV 55 14,
bN 56 .eql 55 (cI 2)] [0,1,2,3,4,10,11,12,13,14,56])
(.cond 56 (.seq (rg [mV 57 0,
mV 58 1,
mV 59 2,
mV 60 4,
cL 61 z1b [57,58,59,60]] [0,1,2,3,4,10,11,12,13])
(.seq (rg [mV 62 2,
bN 63 .sub 62 (cI 1),
mV 64 13,
mV 65 1,
bN 66 .sub 64 65,
bN 67 .sub 63 66,
mV 13 67] [0,1,2,3,4,10,11,12,13])
(rg [mV 14 (cI 1)] [0,1,2,3,4,10,11,12,13,14])))
.skip))
q2))
def UU:ACode:=FX TU
def bT (C:Hd)(gl:GL)(q2:ACode)(v0 v1 v2 v3 v4 v10 v11 v12:AV)(h:aA)(x:Esc)(K:KT):Prop:=
 C DJ [v0,v1,v2,v4] h fun t1 h2 y3=>
 pK (xC t1 0) fun t4=>
 pK (xC t1 1) fun t5=>
 pK (eA .eql t5 (AI 2)) fun t6=>
 qA t6 (C z1b [v0,v1,v2,v4] h2 fun t7 h8 y9=>
 pK (eA .sub v2 (AI 1)) fun t10=>
 pK (eA .sub t4 v1) fun t11=>
 pK (eA .sub t10 t11) fun t12=>
 NW C gl q2 ⟨[(0,v0),(1,v1),(2,v2),(3,v3),(4,v4),(10,v10),(11,v11),(12,v12),(13,t12),(14,(AI 1))],h8,(y9++(y3++x))⟩ K)
 (NW C gl q2 ⟨[(0,v0),(1,v1),(2,v2),(3,v3),(4,v4),(10,v10),(11,v11),(12,v12),(13,t4),(14,t5),(56,t6)],h2,(y3++x)⟩ K)
theorem z6t {C gl q2 e h x K}:NW C gl (FX q2) ⟨e,h,x⟩ K=bT C gl q2 (bA e 0) (bA e 1) (bA e 2) (bA e 3) (bA e 4) (bA e 10) (bA e 11) (bA e 12) h x K:=by kernel_rfl
theorem zd1 {C gl e h x K}:NW C gl UU ⟨e,h,x⟩ K=bT C gl TU (bA e 0) (bA e 1) (bA e 2) (bA e 3) (bA e 4) (bA e 10) (bA e 11) (bA e 12) h x K:=z6t
def GX (q3:ACode):ACode:=.pr [0,1,2,3,4,10,11] (.block 1 (.seq (rg [mV 21 2,
mV 22 1,
bN 23 .sub 21 22,
mV 12 23] [0,1,2,3,4,10,11,12])
(.seq (.seq (rg [mV 24 12,
bN 25 .leq 24 (cI 12)] [0,1,2,3,4,10,11,12,25])
(.cond 25 (.seq (rg [mV 26 0,
mV 27 1,
mV 28 2,
mV 29 4,
cL 30 aE [26,27,28,29]] [])
.ret)
.skip))
(.seq (.seq (rg [mV 31 3,
bN 32 .eql 31 (cI 0)] [0,1,2,3,4,10,11,12,32])
(.cond 32 (.seq (rg [mV 33 0,
mV 34 1,
mV 35 2,
mV 36 4,
cL 37 z0Z [33,34,35,36]] [])
.ret)
.skip))
(.seq (.seq (rg [mV 38 10,
uO 39 (.un .not 38)] [0,1,2,3,4,10,11,12,39])
(.cond 39 (.seq (rg [mV 40 0,
mV 41 1,
mV 42 2,
mV 43 4,
cL 44 z0Y [40,41,42,43]] [0,1,2,3,4,10,11,12])
(rg [mV 45 3,
bN 46 .sub 45 (cI 1),
mV 3 46] [0,1,2,3,4,10,11,12]))
.skip))
q3)))))
def AK:ACode:=GX UU
def eT (C:Hd)(gl:GL)(q3:ACode)(v0 v1 v2 v3 v4 v10 v11:AV)(h:aA)(x:Esc)(K:KT):Prop:=
 pK (eA .sub v2 v1) fun t1=>
 pK (eA .leq t1 (AI 12)) fun t2=>
 qA t2 (C aE [v0,v1,v2,v4] h fun t3 h4 y5=>
 K .ret ⟨[],h4,(y5++x)⟩)
 (pK (eA .eql v3 (AI 0)) fun t6=>
 qA t6 (C z0Z [v0,v1,v2,v4] h fun t7 h8 y9=>
 K .ret ⟨[],h8,(y9++x)⟩)
 (pK (oUn .not v10) fun t10=>
 qA t10 (C z0Y [v0,v1,v2,v4] h fun t11 h12 y13=>
 pK (eA .sub v3 (AI 1)) fun t14=>
 NW C gl q3 ⟨[(0,v0),(1,v1),(2,v2),(3,t14),(4,v4),(10,v10),(11,v11),(12,t1)],h12,(y13++x)⟩ (OA 1 K))
 (NW C gl q3 ⟨[(0,v0),(1,v1),(2,v2),(3,v3),(4,v4),(10,v10),(11,v11),(12,t1),(39,t10)],h,x⟩ (OA 1 K))))
theorem z6u {C gl q3 e h x K}:NW C gl (GX q3) ⟨e,h,x⟩ K=eT C gl q3 (bA e 0) (bA e 1) (bA e 2) (bA e 3) (bA e 4) (bA e 10) (bA e 11) h x K:=by kernel_rfl
theorem zd2 {C gl e h x K}:NW C gl AK ⟨e,h,x⟩ K=eT C gl UU (bA e 0) (bA e 1) (bA e 2) (bA e 3) (bA e 4) (bA e 10) (bA e 11) h x K:=z6u
theorem zgh {C gl e h x K}:NW C gl (.loop AK) ⟨e,h,x⟩ K=YA C gl AK K [(0,bA e 0),(1,bA e 1),(2,bA e 2),(3,bA e 3),(4,bA e 4),(10,bA e 10),(11,bA e 11)] h x:=RB
def CX (q4:ACode):ACode:=(.seq (rg [mV 10 cT] [0,1,2,3,4,10])
(.seq (rg [mV 11 cT] [0,1,2,3,4,10,11])
(.block 0 (.loop q4))))
def LR:AFun:=⟨5,[],CX AK,true,false⟩
def hJ (C:Hd)(gl:GL)(q4:ACode)(v0 v1 v2 v3 v4:AV)(h:aA)(x:Esc)(K:KT):Prop:=
 NW C gl (.loop q4) ⟨[(0,v0),(1,v1),(2,v2),(3,v3),(4,v4),(10,(AB true)),(11,(AB true))],h,x⟩ (OA 0 K)
theorem z6r {C gl q4 v0 v1 v2 v3 v4 h x K}:NW C gl (CX q4) ⟨enter [v0,v1,v2,v3,v4],h,x⟩ K=hJ C gl q4 v0 v1 v2 v3 v4 h x K:=by kernel_rfl
theorem zdz {C gl v0 v1 v2 v3 v4 h x K}:NW C gl LR.body ⟨enter [v0,v1,v2,v3,v4],h,x⟩ K=hJ C gl AK v0 v1 v2 v3 v4 h x K:=z6r
def z6L:ACode:=(.seq (rg [mV 2 (cI 0)] [0])
(.seq (.cond cF (.seq (rg [mV 3 0,
uO 4 (.conv (.i .u32) 3),
cL 5 z0X [4],
mV 2 5] [2])
.ret)
.skip)
(.seq (rg [mV 6 0,
cL 7 oI [6],
mV 2 7] [2])
.ret)))
def PQ:AFun:=⟨1,[.t 2],z6L,false,false⟩
def ON (C:Hd)(gl:GL)(v0:AV)(h:aA)(x:Esc)(K:KT):Prop:=
 qA (AB false) (pK (CI .u32 v0) fun t1=>
 C z0X [t1] h fun t2 h3 y4=>
 K .ret ⟨[(2,t2)],h3,(y4++x)⟩)
 (C oI [v0] h fun t5 h6 y7=>
 K .ret ⟨[(2,t5)],h6,(y7++x)⟩)
theorem zb4 {C gl v0 h x K}:NW C gl PQ.body ⟨enter [v0],h,x⟩ K=ON C gl v0 h x K:=by kernel_rfl
def sK:ACode:=.pr [0,1,7,8] (.seq (rg [bN 9 .lss 8 7] [0,1,7,8,9])
(.seq (.cond 9 .skip
(.exit 0))
(.seq (.block 1 (.seq (rg [mV 10 8,
mV 5 10] [0,1,5,7,8])
(.seq (rg [mV 11 1,
mV 12 0,
mV 13 5,
iA 14 none 12 13,
lD 15 none 14,
bN 16 .eql 11 15] [0,1,5,7,8,16])
(.cond 16 (.seq (rg [mV 17 5,
mV 4 17] [4])
.ret)
.skip))))
(rg [bN 18 .add 8 (cI 1),
mV 8 18] [0,1,7,8]))))
def UZ (C:Hd)(gl:GL)(v0 v1 v7 v8:AV)(h:aA)(x:Esc)(K:KT):Prop:=
 pK (eA .lss v8 v7) fun t1=>
 qA t1 (pK (uA none v0 v8 h) fun t2=>
 pK (oA none t2 h) fun t3=>
 pK (eA .eql v1 t3) fun t4=>
 qA t4 (K .ret ⟨[(4,v8)],h,x⟩)
 (pK (eA .add v8 (AI 1)) fun t5=>
 K .normal ⟨[(0,v0),(1,v1),(7,v7),(8,t5)],h,x⟩))
 (K (.exit 0) ⟨[(0,v0),(1,v1),(7,v7),(8,v8),(9,t1)],h,x⟩)
theorem zcY {C gl e h x K}:NW C gl sK ⟨e,h,x⟩ K=UZ C gl (bA e 0) (bA e 1) (bA e 7) (bA e 8) h x K:=by kernel_rfl
theorem zfV {C gl e h x K}:NW C gl (.loop sK) ⟨e,h,x⟩ K=YA C gl sK K [(0,bA e 0),(1,bA e 1),(7,bA e 7),(8,bA e 8)] h x:=RB
def OP:ACode:=.pr [] (.seq (rg [mV 4 (cI (-1))] [4])
.ret)
def VZ (C:Hd)(gl:GL)(h:aA)(x:Esc)(K:KT):Prop:=
 K .ret ⟨[(4,(AI (-1)))],h,x⟩
theorem zcZ {C gl e h x K}:NW C gl OP ⟨e,h,x⟩ K=VZ C gl h x K:=by kernel_rfl
def pX (q1 q2:ACode):ACode:=(.seq (rg [mV 4 (cI 0)] [0,1])
(.seq (.seq (rg [mV 6 0,
lN 7 6,
mV 8 (cI 0)] [0,1,7,8])
(.block 0 (.loop q1)))
q2))
def jN:AFun:=⟨2,[.t 4],pX sK OP,true,false⟩
def fO (C:Hd)(gl:GL)(q1 q2:ACode)(v0 v1:AV)(h:aA)(x:Esc)(K:KT):Prop:=
 pK (QA v0) fun t1=>
 NW C gl (.loop q1) ⟨[(0,v0),(1,v1),(7,t1),(8,(AI 0))],h,x⟩ (OA 0 (TA C gl q2 K))
theorem z6e {C gl q1 q2 v0 v1 h x K}:NW C gl (pX q1 q2) ⟨enter [v0,v1],h,x⟩ K=fO C gl q1 q2 v0 v1 h x K:=by kernel_rfl
theorem zcX {C gl v0 v1 h x K}:NW C gl jN.body ⟨enter [v0,v1],h,x⟩ K=fO C gl sK OP v0 v1 h x K:=z6e
def kK:ACode:=.pr [0,1,7,8] (.seq (rg [bN 9 .lss 8 7] [0,1,7,8,9])
(.seq (.cond 9 .skip
(.exit 0))
(.seq (.block 1 (.seq (rg [mV 10 8,
mV 5 10] [0,1,5,7,8])
(.seq (rg [mV 11 1,
mV 12 0,
mV 13 5,
uO 14 (.idxs 12 13),
cL 15 IJ [11,14],
bN 16 .lss 15 (cI 0)] [0,1,7,8,16])
(.cond 16 (.seq (rg [mV 4 cF] [4])
.ret)
.skip))))
(rg [bN 17 .add 8 (cI 1),
mV 8 17] [0,1,7,8]))))
def BZ (C:Hd)(gl:GL)(v0 v1 v7 v8:AV)(h:aA)(x:Esc)(K:KT):Prop:=
 pK (eA .lss v8 v7) fun t1=>
 qA t1 (pK (zG v0 v8) fun t2=>
 C IJ [v1,t2] h fun t3 h4 y5=>
 pK (eA .lss t3 (AI 0)) fun t6=>
 qA t6 (K .ret ⟨[(4,(AB false))],h4,(y5++x)⟩)
 (pK (eA .add v8 (AI 1)) fun t7=>
 K .normal ⟨[(0,v0),(1,v1),(7,v7),(8,t7)],h4,(y5++x)⟩))
 (K (.exit 0) ⟨[(0,v0),(1,v1),(7,v7),(8,v8),(9,t1)],h,x⟩)
theorem zc0 {C gl e h x K}:NW C gl kK ⟨e,h,x⟩ K=BZ C gl (bA e 0) (bA e 1) (bA e 7) (bA e 8) h x K:=by kernel_rfl
theorem zfL {C gl e h x K}:NW C gl (.loop kK) ⟨e,h,x⟩ K=YA C gl kK K [(0,bA e 0),(1,bA e 1),(7,bA e 7),(8,bA e 8)] h x:=RB
def HP:ACode:=.pr [] (.seq (rg [mV 4 cT] [4])
.ret)
def CZ (C:Hd)(gl:GL)(h:aA)(x:Esc)(K:KT):Prop:=
 K .ret ⟨[(4,(AB true))],h,x⟩
theorem zc1 {C gl e h x K}:NW C gl HP ⟨e,h,x⟩ K=CZ C gl h x K:=by kernel_rfl
def cX (q1 q2:ACode):ACode:=(.seq (rg [mV 4 cF] [0,1])
(.seq (.seq (rg [mV 6 0,
uO 7 (.lens 6),
mV 8 (cI 0)] [0,1,7,8])
(.block 0 (.loop q1)))
q2))
def rR:AFun:=⟨2,[.t 4],cX kK HP,false,false⟩
def aO (C:Hd)(gl:GL)(q1 q2:ACode)(v0 v1:AV)(h:aA)(x:Esc)(K:KT):Prop:=
 pK (DI v0) fun t1=>
 NW C gl (.loop q1) ⟨[(0,v0),(1,v1),(7,t1),(8,(AI 0))],h,x⟩ (OA 0 (TA C gl q2 K))
theorem z5T {C gl q1 q2 v0 v1 h x K}:NW C gl (cX q1 q2) ⟨enter [v0,v1],h,x⟩ K=aO C gl q1 q2 v0 v1 h x K:=by kernel_rfl
theorem zcz {C gl v0 v1 h x K}:NW C gl rR.body ⟨enter [v0,v1],h,x⟩ K=aO C gl kK HP v0 v1 h x K:=z5T
def sM:ACode:=.pr [0,1,2,3,8,9] (.seq (.seq (dr [dF (mV 18 9) [9],
dF (mV 19 1) [1],
dF (bN 20 .gtr 18 19) [18,19],
dF (mV 21 20) [20],
dF (gD 22 21 true (.mv 3)) [3,21],
dF (gD 23 21 true (.mv 0)) [0,21],
dF (gD 24 21 true (.mv 9)) [9,21],
dF (gD 25 21 true (.iaddr (some 8) 23 24)) [23,24,21],
dF (gD 26 21 true (.load (some 8) 25)) [25,21],
dF (gD 27 21 true (.mv 0)) [0,21],
dF (gD 28 21 true (.mv 9)) [9,21],
dF (gD 29 21 true (.bin .sub 28 (cI 1))) [28,21],
dF (gD 30 21 true (.iaddr (some 8) 27 29)) [27,29,21],
dF (gD 31 21 true (.load (some 8) 30)) [30,21],
dT (gD 32 21 true (.callv 22 [26,31])) [22,26,31,21],
dF (gD 33 21 true (.bin .lss 32 (cI 0))) [32,21],
dF (uO 34 (.pick 21 33 cF)) [21,33]] [0,1,2,3,8,9,34])
(.cond 34 .skip
(.exit 2)))
(.seq (.block 3 (dr [dF (mV 37 0) [0],
dF (mV 38 9) [9],
dF (mV 39 0) [0],
dF (mV 40 9) [9],
dF (bN 41 .sub 40 (cI 1)) [40],
dF (mV 42 0) [0],
dF (mV 43 9) [9],
dF (bN 44 .sub 43 (cI 1)) [43],
dF (iA 45 (some 8) 42 44) [42,44],
dF (lD 46 (some 8) 45) [45],
dF (mV 47 0) [0],
dF (mV 48 9) [9],
dF (iA 49 (some 8) 47 48) [47,48],
dF (lD 50 (some 8) 49) [49],
dF (iA 51 (some 8) 37 38) [37,38],
dT (wO (.store (some 8) 51 46)) [51,46],
dF (iA 52 (some 8) 39 41) [39,41],
dT (wO (.store (some 8) 52 50)) [52,50]] [0,1,2,3,8,9]))
(rg [mV 35 9,
bN 36 .sub 35 (cI 1),
mV 9 36] [0,1,2,3,8,9])))
def WZ (C:Hd)(gl:GL)(v0 v1 v2 v3 v8 v9:AV)(h:aA)(x:Esc)(K:KT):Prop:=
 pK (eA .gtr v9 v1) fun t1=>
 gM t1 true v3 h fun t2 h3 y4=>
 gM t1 true v0 h3 fun t5 h6 y7=>
 gM t1 true v9 h6 fun t8 h9 y10=>
 gP t1 true (uA (some 8) t5 t8 h9) h9 fun t11 h12 y13=>
 gP t1 true (oA (some 8) t11 h12) h12 fun t14 h15 y16=>
 gM t1 true v0 h15 fun t17 h18 y19=>
 gM t1 true v9 h18 fun t20 h21 y22=>
 gP t1 true (eA .sub t20 (AI 1)) h21 fun t23 h24 y25=>
 gP t1 true (uA (some 8) t17 t23 h24) h24 fun t26 h27 y28=>
 gP t1 true (oA (some 8) t26 h27) h27 fun t29 h30 y31=>
 gV t1 true h30 (oD C t2 [t14,t29] h30) fun t32 h33 y34=>
 gP t1 true (eA .lss t32 (AI 0)) h33 fun t35 h36 y37=>
 pK (SA t1 t35 (AB false)) fun t38=>
 qA t38 (pK (eA .sub v9 (AI 1)) fun t39=>
 pK (eA .sub v9 (AI 1)) fun t40=>
 pK (uA (some 8) v0 t40 h36) fun t41=>
 pK (oA (some 8) t41 h36) fun t42=>
 pK (uA (some 8) v0 v9 h36) fun t43=>
 pK (oA (some 8) t43 h36) fun t44=>
 pK (uA (some 8) v0 v9 h36) fun t45=>
 wK (GA (some 8) t45 t42 h36) fun t46 h47 y48=>
 pK (uA (some 8) v0 t39 h47) fun t49=>
 wK (GA (some 8) t49 t44 h47) fun t50 h51 y52=>
 pK (eA .sub v9 (AI 1)) fun t53=>
 K .normal ⟨[(0,v0),(1,v1),(2,v2),(3,v3),(8,v8),(9,t53)],h51,(y52++(y48++(y37++(y34++(y31++(y28++(y25++(y22++(y19++(y16++(y13++(y10++(y7++(y4++x))))))))))))))⟩)
 (K (.exit 2) ⟨[(0,v0),(1,v1),(2,v2),(3,v3),(8,v8),(9,v9),(34,t38)],h36,(y37++(y34++(y31++(y28++(y25++(y22++(y19++(y16++(y13++(y10++(y7++(y4++x))))))))))))⟩)
theorem zdg {C gl e h x K}:NW C gl sM ⟨e,h,x⟩ K=WZ C gl (bA e 0) (bA e 1) (bA e 2) (bA e 3) (bA e 8) (bA e 9) h x K:=by kernel_rfl
theorem zfW {C gl e h x K}:NW C gl (.loop sM) ⟨e,h,x⟩ K=YA C gl sM K [(0,bA e 0),(1,bA e 1),(2,bA e 2),(3,bA e 3),(8,bA e 8),(9,bA e 9)] h x:=RB
def OU:ACode:=.pr [0,1,2,3,8] (rg [mV 15 8,
bN 16 .add 15 (cI 1),
mV 8 16] [0,1,2,3,8])
def XZ (C:Hd)(gl:GL)(v0 v1 v2 v3 v8:AV)(h:aA)(x:Esc)(K:KT):Prop:=
 pK (eA .add v8 (AI 1)) fun t1=>
 K .normal ⟨[(0,v0),(1,v1),(2,v2),(3,v3),(8,t1)],h,x⟩
theorem zdh {C gl e h x K}:NW C gl OU ⟨e,h,x⟩ K=XZ C gl (bA e 0) (bA e 1) (bA e 2) (bA e 3) (bA e 8) h x K:=by kernel_rfl
def sX (q1 q2:ACode):ACode:=.pr [0,1,2,3,8] (.seq (.seq (rg [mV 12 8,
mV 13 2,
bN 14 .lss 12 13] [0,1,2,3,8,14])
(.cond 14 .skip
(.exit 0)))
(.seq (.block 1 (.seq (rg [mV 17 8,
mV 9 17] [0,1,2,3,8,9])
(.block 2 (.loop q1))))
q2))
def tK:ACode:=sX sM OU
def VS (C:Hd)(gl:GL)(q1 q2:ACode)(v0 v1 v2 v3 v8:AV)(h:aA)(x:Esc)(K:KT):Prop:=
 pK (eA .lss v8 v2) fun t1=>
 qA t1 (NW C gl (.loop q1) ⟨[(0,v0),(1,v1),(2,v2),(3,v3),(8,v8),(9,v8)],h,x⟩ (OA 2 (OA 1 (TA C gl q2 K))))
 (K (.exit 0) ⟨[(0,v0),(1,v1),(2,v2),(3,v3),(8,v8),(14,t1)],h,x⟩)
theorem z6h {C gl q1 q2 e h x K}:NW C gl (sX q1 q2) ⟨e,h,x⟩ K=VS C gl q1 q2 (bA e 0) (bA e 1) (bA e 2) (bA e 3) (bA e 8) h x K:=by kernel_rfl
theorem zdi {C gl e h x K}:NW C gl tK ⟨e,h,x⟩ K=VS C gl sM OU (bA e 0) (bA e 1) (bA e 2) (bA e 3) (bA e 8) h x K:=z6h
theorem zfX {C gl e h x K}:NW C gl (.loop tK) ⟨e,h,x⟩ K=YA C gl tK K [(0,bA e 0),(1,bA e 1),(2,bA e 2),(3,bA e 3),(8,bA e 8)] h x:=RB
def rX (q3:ACode):ACode:=(.seq (rg [mV 10 1,
bN 11 .add 10 (cI 1),
mV 8 11] [0,1,2,3,8])
(.block 0 (.loop q3)))
def GR:AFun:=⟨4,[],rX tK,true,false⟩
def fJ (C:Hd)(gl:GL)(q3:ACode)(v0 v1 v2 v3:AV)(h:aA)(x:Esc)(K:KT):Prop:=
 pK (eA .add v1 (AI 1)) fun t1=>
 NW C gl (.loop q3) ⟨[(0,v0),(1,v1),(2,v2),(3,v3),(8,t1)],h,x⟩ (OA 0 K)
theorem z6g {C gl q3 v0 v1 v2 v3 h x K}:NW C gl (rX q3) ⟨enter [v0,v1,v2,v3],h,x⟩ K=fJ C gl q3 v0 v1 v2 v3 h x K:=by kernel_rfl
theorem zdf {C gl v0 v1 v2 v3 h x K}:NW C gl GR.body ⟨enter [v0,v1,v2,v3],h,x⟩ K=fJ C gl tK v0 v1 v2 v3 h x K:=z6g
def z6J:ACode:=(.seq (rg [mV 4 (cI 0)] [0,1])
(.seq (rg [mV 5 0,
mV 6 1,
cL 7 DF [5,6],
mV 4 7] [4])
.ret))
def gN:AFun:=⟨2,[.t 4],z6J,false,false⟩
def tS (C:Hd)(gl:GL)(v0 v1:AV)(h:aA)(x:Esc)(K:KT):Prop:=
 C DF [v0,v1] h fun t1 h2 y3=>
 K .ret ⟨[(4,t1)],h2,(y3++x)⟩
theorem zb2 {C gl v0 v1 h x K}:NW C gl gN.body ⟨enter [v0,v1],h,x⟩ K=tS C gl v0 v1 h x K:=by kernel_rfl
def z6I:ACode:=(.seq (rg [mV 2 cF] [0])
(.seq (rg [mV 3 0,
mV 4 0,
bN 5 .neq 3 4,
mV 2 5] [2])
.ret))
def fN:AFun:=⟨1,[.t 2],z6I,false,false⟩
def sS (C:Hd)(gl:GL)(v0:AV)(h:aA)(x:Esc)(K:KT):Prop:=
 pK (eA .neq v0 v0) fun t1=>
 K .ret ⟨[(2,t1)],h,x⟩
theorem zb1 {C gl v0 h x K}:NW C gl fN.body ⟨enter [v0],h,x⟩ K=sS C gl v0 h x K:=by kernel_rfl
def PP:ACode:=.pr [0,3,11,12,13,14] (rg [mV 49 0,
mV 50 12,
mV 51 13,
mV 52 14,
mV 53 3,
cL 54 tI [49,50,51,52,11,53],
mV 13 54] [11,13])
def iO (C:Hd)(gl:GL)(v0 v3 v11 v12 v13 v14:AV)(h:aA)(x:Esc)(K:KT):Prop:=
 C tI [v0,v12,v13,v14,v11,v3] h fun t1 h2 y3=>
 K .normal ⟨[(11,v11),(13,t1)],h2,(y3++x)⟩
theorem zdd {C gl e h x K}:NW C gl PP ⟨e,h,x⟩ K=iO C gl (bA e 0) (bA e 3) (bA e 11) (bA e 12) (bA e 13) (bA e 14) h x K:=by kernel_rfl
def QP:ACode:=.pr [11,13] (.seq (rg [lD 55 none 11] [13,55])
(.block 0 (.seq (rg [bN 58 .eql 55 (cI 0),
mV 57 58] [13,55,57])
(.cond 57 (.seq (rg [mV 59 13,
mV 8 59,
mV 9 (cI 1)] [8,9])
.ret)
(.seq (rg [bN 61 .eql 55 (cI 12),
mV 60 61] [13,60])
(.cond 60 (.seq (rg [mV 62 13,
mV 8 62,
mV 9 (cI 2)] [8,9])
.ret)
(.seq (rg [mV 56 13,
mV 8 56,
mV 9 (cI 0)] [8,9])
.ret)))))))
def jO (C:Hd)(gl:GL)(v11 v13:AV)(h:aA)(x:Esc)(K:KT):Prop:=
 pK (oA none v11 h) fun t1=>
 pK (eA .eql t1 (AI 0)) fun t2=>
 qA t2 (K .ret ⟨[(8,v13),(9,(AI 1))],h,x⟩)
 (pK (eA .eql t1 (AI 12)) fun t3=>
 qA t3 (K .ret ⟨[(8,v13),(9,(AI 2))],h,x⟩)
 (K .ret ⟨[(8,v13),(9,(AI 0))],h,x⟩))
theorem zde {C gl e h x K}:NW C gl QP ⟨e,h,x⟩ K=jO C gl (bA e 11) (bA e 13) h x K:=by kernel_rfl
def qX (q1 q2:ACode):ACode:=(.seq (rg [mV 8 (cI 0),
mV 9 (cI 0)] [0,1,2,3])
(.seq (rg [mV 15 2,
mV 16 1,
bN 17 .sub 15 16,
mV 10 17] [0,1,3,10])
(.seq (rg [uO 11 (.alloc [.p (.int .i64 0)])] [0,1,3,10,11])
(.seq (rg [mV 18 1,
mV 19 10,
bN 20 .quo 19 (cI 4),
bN 21 .mul 20 (cI 1),
bN 22 .add 18 21,
mV 12 22] [0,1,3,10,11,12])
(.seq (rg [mV 23 1,
mV 24 10,
bN 25 .quo 24 (cI 4),
bN 26 .mul 25 (cI 2),
bN 27 .add 23 26,
mV 13 27] [0,1,3,10,11,12,13])
(.seq (rg [mV 28 1,
mV 29 10,
bN 30 .quo 29 (cI 4),
bN 31 .mul 30 (cI 3),
bN 32 .add 28 31,
mV 14 32] [0,3,10,11,12,13,14])
(.seq (.seq (rg [mV 33 10,
bN 34 .geq 33 (cI 8)] [0,3,10,11,12,13,14,34])
(.cond 34 (.seq (.seq (rg [mV 35 10,
bN 36 .geq 35 (cI 50)] [0,3,11,12,13,14,36])
(.cond 36 (.seq (rg [mV 37 0,
mV 38 12,
mV 39 3,
cL 40 EJ [37,38,11,39],
mV 12 40] [0,3,11,12,13,14])
(.seq (rg [mV 41 0,
mV 42 13,
mV 43 3,
cL 44 EJ [41,42,11,43],
mV 13 44] [0,3,11,12,13,14])
(rg [mV 45 0,
mV 46 14,
mV 47 3,
cL 48 EJ [45,46,11,47],
mV 14 48] [0,3,11,12,13,14])))
.skip))
q1)
.skip))
q2)))))))
def FR:AFun:=⟨4,[.t 8,.t 9],qX PP QP,true,false⟩
def BL (C:Hd)(gl:GL)(q1 q2:ACode)(v0 v1 v2 v3:AV)(h:aA)(x:Esc)(K:KT):Prop:=
 pK (eA .sub v2 v1) fun t1=>
 alK [.p (.int .i64 0)] h fun t2 h3 y4=>
 pK (eA .quo t1 (AI 4)) fun t5=>
 pK (eA .mul t5 (AI 1)) fun t6=>
 pK (eA .add v1 t6) fun t7=>
 pK (eA .quo t1 (AI 4)) fun t8=>
 pK (eA .mul t8 (AI 2)) fun t9=>
 pK (eA .add v1 t9) fun t10=>
 pK (eA .quo t1 (AI 4)) fun t11=>
 pK (eA .mul t11 (AI 3)) fun t12=>
 pK (eA .add v1 t12) fun t13=>
 pK (eA .geq t1 (AI 8)) fun t14=>
 qA t14 (pK (eA .geq t1 (AI 50)) fun t15=>
 qA t15 (C EJ [v0,t7,t2,v3] h3 fun t16 h17 y18=>
 C EJ [v0,t10,t2,v3] h17 fun t19 h20 y21=>
 C EJ [v0,t13,t2,v3] h20 fun t22 h23 y24=>
 NW C gl q1 ⟨[(0,v0),(3,v3),(11,t2),(12,t16),(13,t19),(14,t22)],h23,(y24++(y21++(y18++(y4++x))))⟩ (TA C gl q2 K))
 (NW C gl q1 ⟨[(0,v0),(3,v3),(11,t2),(12,t7),(13,t10),(14,t13),(36,t15)],h3,(y4++x)⟩ (TA C gl q2 K)))
 (NW C gl q2 ⟨[(0,v0),(3,v3),(10,t1),(11,t2),(12,t7),(13,t10),(14,t13),(34,t14)],h3,(y4++x)⟩ K)
theorem z6f {C gl q1 q2 v0 v1 v2 v3 h x K}:NW C gl (qX q1 q2) ⟨enter [v0,v1,v2,v3],h,x⟩ K=BL C gl q1 q2 v0 v1 v2 v3 h x K:=by kernel_rfl
theorem zdc {C gl v0 v1 v2 v3 h x K}:NW C gl FR.body ⟨enter [v0,v1,v2,v3],h,x⟩ K=BL C gl PP QP v0 v1 v2 v3 h x K:=z6f
def tM:ACode:=.pr [0,1,2,3,9,10] (.seq (.seq (dr [dF (mV 19 9) [9],
dF (mV 20 2) [2],
dF (bN 21 .lss 19 20) [19,20],
dF (mV 22 21) [21],
dF (gD 23 22 true (.mv 3)) [3,22],
dF (gD 24 22 true (.mv 0)) [0,22],
dF (gD 25 22 true (.mv 9)) [9,22],
dF (gD 26 22 true (.iaddr (some 8) 24 25)) [24,25,22],
dF (gD 27 22 true (.load (some 8) 26)) [26,22],
dF (gD 28 22 true (.mv 0)) [0,22],
dF (gD 29 22 true (.mv 9)) [9,22],
dF (gD 30 22 true (.bin .sub 29 (cI 1))) [29,22],
dF (gD 31 22 true (.iaddr (some 8) 28 30)) [28,30,22],
dF (gD 32 22 true (.load (some 8) 31)) [31,22],
dT (gD 33 22 true (.callv 23 [27,32])) [23,27,32,22],
dF (gD 34 22 true (.bin .lss 33 (cI 0))) [33,22],
dF (gD 35 22 true (.un .not 34)) [34,22],
dF (uO 36 (.pick 22 35 cF)) [22,35]] [0,1,2,3,9,10,36])
(.cond 36 .skip
(.exit 2)))
(.block 3 (rg [mV 37 9,
bN 38 .add 37 (cI 1),
mV 9 38] [0,1,2,3,9,10])))
def YZ (C:Hd)(gl:GL)(v0 v1 v2 v3 v9 v10:AV)(h:aA)(x:Esc)(K:KT):Prop:=
 pK (eA .lss v9 v2) fun t1=>
 gM t1 true v3 h fun t2 h3 y4=>
 gM t1 true v0 h3 fun t5 h6 y7=>
 gM t1 true v9 h6 fun t8 h9 y10=>
 gP t1 true (uA (some 8) t5 t8 h9) h9 fun t11 h12 y13=>
 gP t1 true (oA (some 8) t11 h12) h12 fun t14 h15 y16=>
 gM t1 true v0 h15 fun t17 h18 y19=>
 gM t1 true v9 h18 fun t20 h21 y22=>
 gP t1 true (eA .sub t20 (AI 1)) h21 fun t23 h24 y25=>
 gP t1 true (uA (some 8) t17 t23 h24) h24 fun t26 h27 y28=>
 gP t1 true (oA (some 8) t26 h27) h27 fun t29 h30 y31=>
 gV t1 true h30 (oD C t2 [t14,t29] h30) fun t32 h33 y34=>
 gP t1 true (eA .lss t32 (AI 0)) h33 fun t35 h36 y37=>
 gP t1 true (oUn .not t35) h36 fun t38 h39 y40=>
 pK (SA t1 t38 (AB false)) fun t41=>
 qA t41 (pK (eA .add v9 (AI 1)) fun t42=>
 K .normal ⟨[(0,v0),(1,v1),(2,v2),(3,v3),(9,t42),(10,v10)],h39,(y40++(y37++(y34++(y31++(y28++(y25++(y22++(y19++(y16++(y13++(y10++(y7++(y4++x)))))))))))))⟩)
 (K (.exit 2) ⟨[(0,v0),(1,v1),(2,v2),(3,v3),(9,v9),(10,v10),(36,t41)],h39,(y40++(y37++(y34++(y31++(y28++(y25++(y22++(y19++(y16++(y13++(y10++(y7++(y4++x)))))))))))))⟩)
theorem zdm {C gl e h x K}:NW C gl tM ⟨e,h,x⟩ K=YZ C gl (bA e 0) (bA e 1) (bA e 2) (bA e 3) (bA e 9) (bA e 10) h x K:=by kernel_rfl
theorem zfY {C gl e h x K}:NW C gl (.loop tM) ⟨e,h,x⟩ K=YA C gl tM K [(0,bA e 0),(1,bA e 1),(2,bA e 2),(3,bA e 3),(9,bA e 9),(10,bA e 10)] h x:=RB
def uM:ACode:=.pr [0,1,2,3,9,10,11] (.seq (.seq (rg [mV 68 11,
bN 69 .geq 68 (cI 1)] [0,1,2,3,9,10,11,69])
(.cond 69 .skip
(.exit 4)))
(.seq (.block 5 (.seq (.seq (dr [dF (mV 72 3) [3],
dF (mV 73 0) [0],
dF (mV 74 11) [11],
dF (iA 75 (some 8) 73 74) [73,74],
dF (lD 76 (some 8) 75) [75],
dF (mV 77 0) [0],
dF (mV 78 11) [11],
dF (bN 79 .sub 78 (cI 1)) [78],
dF (iA 80 (some 8) 77 79) [77,79],
dF (lD 81 (some 8) 80) [80],
dT (uO 82 (.callv 72 [76,81])) [72,76,81],
dF (bN 83 .lss 82 (cI 0)) [82],
dF (uO 84 (.un .not 83)) [83]] [0,1,2,3,9,10,11,84])
(.cond 84 (.exit 4)
.skip))
(dr [dF (mV 85 0) [0],
dF (mV 86 11) [11],
dF (mV 87 0) [0],
dF (mV 88 11) [11],
dF (bN 89 .sub 88 (cI 1)) [88],
dF (mV 90 0) [0],
dF (mV 91 11) [11],
dF (bN 92 .sub 91 (cI 1)) [91],
dF (iA 93 (some 8) 90 92) [90,92],
dF (lD 94 (some 8) 93) [93],
dF (mV 95 0) [0],
dF (mV 96 11) [11],
dF (iA 97 (some 8) 95 96) [95,96],
dF (lD 98 (some 8) 97) [97],
dF (iA 99 (some 8) 85 86) [85,86],
dT (wO (.store (some 8) 99 94)) [99,94],
dF (iA 100 (some 8) 87 89) [87,89],
dT (wO (.store (some 8) 100 98)) [100,98]] [0,1,2,3,9,10,11])))
(rg [mV 70 11,
bN 71 .sub 70 (cI 1),
mV 11 71] [0,1,2,3,9,10,11])))
def ZZ (C:Hd)(gl:GL)(v0 v1 v2 v3 v9 v10 v11:AV)(h:aA)(x:Esc)(K:KT):Prop:=
 pK (eA .geq v11 (AI 1)) fun t1=>
 qA t1 (pK (uA (some 8) v0 v11 h) fun t2=>
 pK (oA (some 8) t2 h) fun t3=>
 pK (eA .sub v11 (AI 1)) fun t4=>
 pK (uA (some 8) v0 t4 h) fun t5=>
 pK (oA (some 8) t5 h) fun t6=>
 oD C v3 [t3,t6] h fun t7 h8 y9=>
 pK (eA .lss t7 (AI 0)) fun t10=>
 pK (oUn .not t10) fun t11=>
 qA t11 (K (.exit 4) ⟨[(0,v0),(1,v1),(2,v2),(3,v3),(9,v9),(10,v10),(11,v11),(84,t11)],h8,(y9++x)⟩)
 (pK (eA .sub v11 (AI 1)) fun t12=>
 pK (eA .sub v11 (AI 1)) fun t13=>
 pK (uA (some 8) v0 t13 h8) fun t14=>
 pK (oA (some 8) t14 h8) fun t15=>
 pK (uA (some 8) v0 v11 h8) fun t16=>
 pK (oA (some 8) t16 h8) fun t17=>
 pK (uA (some 8) v0 v11 h8) fun t18=>
 wK (GA (some 8) t18 t15 h8) fun t19 h20 y21=>
 pK (uA (some 8) v0 t12 h20) fun t22=>
 wK (GA (some 8) t22 t17 h20) fun t23 h24 y25=>
 pK (eA .sub v11 (AI 1)) fun t26=>
 K .normal ⟨[(0,v0),(1,v1),(2,v2),(3,v3),(9,v9),(10,v10),(11,t26)],h24,(y25++(y21++(y9++x)))⟩))
 (K (.exit 4) ⟨[(0,v0),(1,v1),(2,v2),(3,v3),(9,v9),(10,v10),(11,v11),(69,t1)],h,x⟩)
theorem zdn {C gl e h x K}:NW C gl uM ⟨e,h,x⟩ K=ZZ C gl (bA e 0) (bA e 1) (bA e 2) (bA e 3) (bA e 9) (bA e 10) (bA e 11) h x K:=by kernel_rfl
theorem zfZ {C gl e h x K}:NW C gl (.loop uM) ⟨e,h,x⟩ K=YA C gl uM K [(0,bA e 0),(1,bA e 1),(2,bA e 2),(3,bA e 3),(9,bA e 9),(10,bA e 10),(11,bA e 11)] h x:=RB
def vM:ACode:=.pr [0,1,2,3,9,10,12] (.seq (.seq (rg [mV 107 12,
mV 108 2,
bN 109 .lss 107 108] [0,1,2,3,9,10,12,109])
(.cond 109 .skip
(.exit 6)))
(.seq (.block 7 (.seq (.seq (dr [dF (mV 112 3) [3],
dF (mV 113 0) [0],
dF (mV 114 12) [12],
dF (iA 115 (some 8) 113 114) [113,114],
dF (lD 116 (some 8) 115) [115],
dF (mV 117 0) [0],
dF (mV 118 12) [12],
dF (bN 119 .sub 118 (cI 1)) [118],
dF (iA 120 (some 8) 117 119) [117,119],
dF (lD 121 (some 8) 120) [120],
dT (uO 122 (.callv 112 [116,121])) [112,116,121],
dF (bN 123 .lss 122 (cI 0)) [122],
dF (uO 124 (.un .not 123)) [123]] [0,1,2,3,9,10,12,124])
(.cond 124 (.exit 6)
.skip))
(dr [dF (mV 125 0) [0],
dF (mV 126 12) [12],
dF (mV 127 0) [0],
dF (mV 128 12) [12],
dF (bN 129 .sub 128 (cI 1)) [128],
dF (mV 130 0) [0],
dF (mV 131 12) [12],
dF (bN 132 .sub 131 (cI 1)) [131],
dF (iA 133 (some 8) 130 132) [130,132],
dF (lD 134 (some 8) 133) [133],
dF (mV 135 0) [0],
dF (mV 136 12) [12],
dF (iA 137 (some 8) 135 136) [135,136],
dF (lD 138 (some 8) 137) [137],
dF (iA 139 (some 8) 125 126) [125,126],
dT (wO (.store (some 8) 139 134)) [139,134],
dF (iA 140 (some 8) 127 129) [127,129],
dT (wO (.store (some 8) 140 138)) [140,138]] [0,1,2,3,9,10,12])))
(rg [mV 110 12,
bN 111 .add 110 (cI 1),
mV 12 111] [0,1,2,3,9,10,12])))
def z0a (C:Hd)(gl:GL)(v0 v1 v2 v3 v9 v10 v12:AV)(h:aA)(x:Esc)(K:KT):Prop:=
 pK (eA .lss v12 v2) fun t1=>
 qA t1 (pK (uA (some 8) v0 v12 h) fun t2=>
 pK (oA (some 8) t2 h) fun t3=>
 pK (eA .sub v12 (AI 1)) fun t4=>
 pK (uA (some 8) v0 t4 h) fun t5=>
 pK (oA (some 8) t5 h) fun t6=>
 oD C v3 [t3,t6] h fun t7 h8 y9=>
 pK (eA .lss t7 (AI 0)) fun t10=>
 pK (oUn .not t10) fun t11=>
 qA t11 (K (.exit 6) ⟨[(0,v0),(1,v1),(2,v2),(3,v3),(9,v9),(10,v10),(12,v12),(124,t11)],h8,(y9++x)⟩)
 (pK (eA .sub v12 (AI 1)) fun t12=>
 pK (eA .sub v12 (AI 1)) fun t13=>
 pK (uA (some 8) v0 t13 h8) fun t14=>
 pK (oA (some 8) t14 h8) fun t15=>
 pK (uA (some 8) v0 v12 h8) fun t16=>
 pK (oA (some 8) t16 h8) fun t17=>
 pK (uA (some 8) v0 v12 h8) fun t18=>
 wK (GA (some 8) t18 t15 h8) fun t19 h20 y21=>
 pK (uA (some 8) v0 t12 h20) fun t22=>
 wK (GA (some 8) t22 t17 h20) fun t23 h24 y25=>
 pK (eA .add v12 (AI 1)) fun t26=>
 K .normal ⟨[(0,v0),(1,v1),(2,v2),(3,v3),(9,v9),(10,v10),(12,t26)],h24,(y25++(y21++(y9++x)))⟩))
 (K (.exit 6) ⟨[(0,v0),(1,v1),(2,v2),(3,v3),(9,v9),(10,v10),(12,v12),(109,t1)],h,x⟩)
theorem zdo {C gl e h x K}:NW C gl vM ⟨e,h,x⟩ K=z0a C gl (bA e 0) (bA e 1) (bA e 2) (bA e 3) (bA e 9) (bA e 10) (bA e 12) h x K:=by kernel_rfl
theorem zga {C gl e h x K}:NW C gl (.loop vM) ⟨e,h,x⟩ K=YA C gl vM K [(0,bA e 0),(1,bA e 1),(2,bA e 2),(3,bA e 3),(9,bA e 9),(10,bA e 10),(12,bA e 12)] h x:=RB
def uX (q3:ACode):ACode:=.pr [0,1,2,3,9,10] (.seq (rg [mV 101 2,
mV 102 9,
bN 103 .sub 101 102,
bN 104 .geq 103 (cI 2)] [0,1,2,3,9,10,104])
(.cond 104 (.seq (rg [mV 105 9,
bN 106 .add 105 (cI 1),
mV 12 106] [0,1,2,3,9,10,12])
(.block 6 (.loop q3)))
.skip))
def PU:ACode:=uX vM
def YS (C:Hd)(gl:GL)(q3:ACode)(v0 v1 v2 v3 v9 v10:AV)(h:aA)(x:Esc)(K:KT):Prop:=
 pK (eA .sub v2 v9) fun t1=>
 pK (eA .geq t1 (AI 2)) fun t2=>
 qA t2 (pK (eA .add v9 (AI 1)) fun t3=>
 NW C gl (.loop q3) ⟨[(0,v0),(1,v1),(2,v2),(3,v3),(9,v9),(10,v10),(12,t3)],h,x⟩ (OA 6 K))
 (K .normal ⟨[(0,v0),(1,v1),(2,v2),(3,v3),(9,v9),(10,v10),(104,t2)],h,x⟩)
theorem z6j {C gl q3 e h x K}:NW C gl (uX q3) ⟨e,h,x⟩ K=YS C gl q3 (bA e 0) (bA e 1) (bA e 2) (bA e 3) (bA e 9) (bA e 10) h x K:=by kernel_rfl
theorem zdp {C gl e h x K}:NW C gl PU ⟨e,h,x⟩ K=YS C gl vM (bA e 0) (bA e 1) (bA e 2) (bA e 3) (bA e 9) (bA e 10) h x K:=z6j
def vX (q2 q4:ACode):ACode:=.pr [0,1,2,3,9,10] (.seq (.seq (rg [mV 39 9,
mV 40 2,
bN 41 .eql 39 40] [0,1,2,3,9,10,41])
(.cond 41 (.seq (rg [mV 8 cT] [8])
.ret)
.skip))
(.seq (.seq (rg [mV 42 2,
mV 43 1,
bN 44 .sub 42 43,
bN 45 .lss 44 (cI 50)] [0,1,2,3,9,10,45])
(.cond 45 (.seq (rg [mV 8 cF] [8])
.ret)
.skip))
(.seq (dr [dF (mV 46 0) [0],
dF (mV 47 9) [9],
dF (mV 48 0) [0],
dF (mV 49 9) [9],
dF (bN 50 .sub 49 (cI 1)) [49],
dF (mV 51 0) [0],
dF (mV 52 9) [9],
dF (bN 53 .sub 52 (cI 1)) [52],
dF (iA 54 (some 8) 51 53) [51,53],
dF (lD 55 (some 8) 54) [54],
dF (mV 56 0) [0],
dF (mV 57 9) [9],
dF (iA 58 (some 8) 56 57) [56,57],
dF (lD 59 (some 8) 58) [58],
dF (iA 60 (some 8) 46 47) [46,47],
dT (wO (.store (some 8) 60 55)) [60,55],
dF (iA 61 (some 8) 48 50) [48,50],
dT (wO (.store (some 8) 61 59)) [61,59]] [0,1,2,3,9,10])
(.seq (.seq (rg [mV 62 9,
mV 63 1,
bN 64 .sub 62 63,
bN 65 .geq 64 (cI 2)] [0,1,2,3,9,10,65])
(.cond 65 (.seq (rg [mV 66 9,
bN 67 .sub 66 (cI 1),
mV 11 67] [0,1,2,3,9,10,11])
(.block 4 (.loop q2)))
.skip))
q4))))
def QU:ACode:=vX uM PU
def mO (C:Hd)(gl:GL)(q2 q4:ACode)(v0 v1 v2 v3 v9 v10:AV)(h:aA)(x:Esc)(K:KT):Prop:=
 pK (eA .eql v9 v2) fun t1=>
 qA t1 (K .ret ⟨[(8,(AB true))],h,x⟩)
 (pK (eA .sub v2 v1) fun t2=>
 pK (eA .lss t2 (AI 50)) fun t3=>
 qA t3 (K .ret ⟨[(8,(AB false))],h,x⟩)
 (pK (eA .sub v9 (AI 1)) fun t4=>
 pK (eA .sub v9 (AI 1)) fun t5=>
 pK (uA (some 8) v0 t5 h) fun t6=>
 pK (oA (some 8) t6 h) fun t7=>
 pK (uA (some 8) v0 v9 h) fun t8=>
 pK (oA (some 8) t8 h) fun t9=>
 pK (uA (some 8) v0 v9 h) fun t10=>
 wK (GA (some 8) t10 t7 h) fun t11 h12 y13=>
 pK (uA (some 8) v0 t4 h12) fun t14=>
 wK (GA (some 8) t14 t9 h12) fun t15 h16 y17=>
 pK (eA .sub v9 v1) fun t18=>
 pK (eA .geq t18 (AI 2)) fun t19=>
 qA t19 (pK (eA .sub v9 (AI 1)) fun t20=>
 NW C gl (.loop q2) ⟨[(0,v0),(1,v1),(2,v2),(3,v3),(9,v9),(10,v10),(11,t20)],h16,(y17++(y13++x))⟩ (OA 4 (TA C gl q4 K)))
 (NW C gl q4 ⟨[(0,v0),(1,v1),(2,v2),(3,v3),(9,v9),(10,v10),(65,t19)],h16,(y17++(y13++x))⟩ K)))
theorem z6k {C gl q2 q4 e h x K}:NW C gl (vX q2 q4) ⟨e,h,x⟩ K=mO C gl q2 q4 (bA e 0) (bA e 1) (bA e 2) (bA e 3) (bA e 9) (bA e 10) h x K:=by kernel_rfl
theorem zdq {C gl e h x K}:NW C gl QU ⟨e,h,x⟩ K=mO C gl uM PU (bA e 0) (bA e 1) (bA e 2) (bA e 3) (bA e 9) (bA e 10) h x K:=z6k
def RU:ACode:=.pr [0,1,2,3,9,10] (rg [mV 17 10,
bN 18 .add 17 (cI 1),
mV 10 18] [0,1,2,3,9,10])
def z0b (C:Hd)(gl:GL)(v0 v1 v2 v3 v9 v10:AV)(h:aA)(x:Esc)(K:KT):Prop:=
 pK (eA .add v10 (AI 1)) fun t1=>
 K .normal ⟨[(0,v0),(1,v1),(2,v2),(3,v3),(9,v9),(10,t1)],h,x⟩
theorem zdr {C gl e h x K}:NW C gl RU ⟨e,h,x⟩ K=z0b C gl (bA e 0) (bA e 1) (bA e 2) (bA e 3) (bA e 9) (bA e 10) h x K:=by kernel_rfl
def wX (q1 q5 q6:ACode):ACode:=.pr [0,1,2,3,9,10] (.seq (.seq (rg [mV 15 10,
bN 16 .lss 15 (cI 5)] [0,1,2,3,9,10,16])
(.cond 16 .skip
(.exit 0)))
(.seq (.block 1 (.seq (.block 2 (.loop q1))
q5))
q6))
def uK:ACode:=wX tM QU RU
def ZS (C:Hd)(gl:GL)(q1 q5 q6:ACode)(v0 v1 v2 v3 v9 v10:AV)(h:aA)(x:Esc)(K:KT):Prop:=
 pK (eA .lss v10 (AI 5)) fun t1=>
 qA t1 (NW C gl (.loop q1) ⟨[(0,v0),(1,v1),(2,v2),(3,v3),(9,v9),(10,v10),(16,t1)],h,x⟩ (OA 2 (TA C gl q5 (OA 1 (TA C gl q6 K)))))
 (K (.exit 0) ⟨[(0,v0),(1,v1),(2,v2),(3,v3),(9,v9),(10,v10),(16,t1)],h,x⟩)
theorem z6l {C gl q1 q5 q6 e h x K}:NW C gl (wX q1 q5 q6) ⟨e,h,x⟩ K=ZS C gl q1 q5 q6 (bA e 0) (bA e 1) (bA e 2) (bA e 3) (bA e 9) (bA e 10) h x K:=by kernel_rfl
theorem zds {C gl e h x K}:NW C gl uK ⟨e,h,x⟩ K=ZS C gl tM QU RU (bA e 0) (bA e 1) (bA e 2) (bA e 3) (bA e 9) (bA e 10) h x K:=z6l
theorem zgb {C gl e h x K}:NW C gl (.loop uK) ⟨e,h,x⟩ K=YA C gl uK K [(0,bA e 0),(1,bA e 1),(2,bA e 2),(3,bA e 3),(9,bA e 9),(10,bA e 10)] h x:=RB
def RP:ACode:=.pr [] (.seq (rg [mV 8 cF] [8])
.ret)
def z0c (C:Hd)(gl:GL)(h:aA)(x:Esc)(K:KT):Prop:=
 K .ret ⟨[(8,(AB false))],h,x⟩
theorem zdt {C gl e h x K}:NW C gl RP ⟨e,h,x⟩ K=z0c C gl h x K:=by kernel_rfl
def tX (q7 q8:ACode):ACode:=(.seq (rg [mV 8 cF] [0,1,2,3])
(.seq (rg [mV 13 1,
bN 14 .add 13 (cI 1),
mV 9 14] [0,1,2,3,9])
(.seq (.seq (rg [mV 10 (cI 0)] [0,1,2,3,9,10])
(.block 0 (.loop q7)))
q8)))
def JR:AFun:=⟨4,[.t 8],tX uK RP,true,false⟩
def lO (C:Hd)(gl:GL)(q7 q8:ACode)(v0 v1 v2 v3:AV)(h:aA)(x:Esc)(K:KT):Prop:=
 pK (eA .add v1 (AI 1)) fun t1=>
 NW C gl (.loop q7) ⟨[(0,v0),(1,v1),(2,v2),(3,v3),(9,t1),(10,(AI 0))],h,x⟩ (OA 0 (TA C gl q8 K))
theorem z6i {C gl q7 q8 v0 v1 v2 v3 h x K}:NW C gl (tX q7 q8) ⟨enter [v0,v1,v2,v3],h,x⟩ K=lO C gl q7 q8 v0 v1 v2 v3 h x K:=by kernel_rfl
theorem zdl {C gl v0 v1 v2 v3 h x K}:NW C gl JR.body ⟨enter [v0,v1,v2,v3],h,x⟩ K=lO C gl uK RP v0 v1 v2 v3 h x K:=z6i
def GI:ACode:=.pr [0,1,4,12,13] (.seq (.seq (dr [dF (mV 32 12) [12],
dF (mV 33 13) [13],
dF (bN 34 .leq 32 33) [32,33],
dF (mV 35 34) [34],
dF (gD 36 35 true (.mv 4)) [4,35],
dF (gD 37 35 true (.mv 0)) [0,35],
dF (gD 38 35 true (.mv 12)) [12,35],
dF (gD 39 35 true (.iaddr (some 8) 37 38)) [37,38,35],
dF (gD 40 35 true (.load (some 8) 39)) [39,35],
dF (gD 41 35 true (.mv 0)) [0,35],
dF (gD 42 35 true (.mv 1)) [1,35],
dF (gD 43 35 true (.iaddr (some 8) 41 42)) [41,42,35],
dF (gD 44 35 true (.load (some 8) 43)) [43,35],
dT (gD 45 35 true (.callv 36 [40,44])) [36,40,44,35],
dF (gD 46 35 true (.bin .lss 45 (cI 0))) [45,35],
dF (uO 47 (.pick 35 46 cF)) [35,46]] [0,1,4,12,13,47])
(.cond 47 .skip
(.exit 0)))
(.block 1 (rg [mV 48 12,
bN 49 .add 48 (cI 1),
mV 12 49] [0,1,4,12,13])))
def z0d (C:Hd)(gl:GL)(v0 v1 v4 v12 v13:AV)(h:aA)(x:Esc)(K:KT):Prop:=
 pK (eA .leq v12 v13) fun t1=>
 gM t1 true v4 h fun t2 h3 y4=>
 gM t1 true v0 h3 fun t5 h6 y7=>
 gM t1 true v12 h6 fun t8 h9 y10=>
 gP t1 true (uA (some 8) t5 t8 h9) h9 fun t11 h12 y13=>
 gP t1 true (oA (some 8) t11 h12) h12 fun t14 h15 y16=>
 gM t1 true v0 h15 fun t17 h18 y19=>
 gM t1 true v1 h18 fun t20 h21 y22=>
 gP t1 true (uA (some 8) t17 t20 h21) h21 fun t23 h24 y25=>
 gP t1 true (oA (some 8) t23 h24) h24 fun t26 h27 y28=>
 gV t1 true h27 (oD C t2 [t14,t26] h27) fun t29 h30 y31=>
 gP t1 true (eA .lss t29 (AI 0)) h30 fun t32 h33 y34=>
 pK (SA t1 t32 (AB false)) fun t35=>
 qA t35 (pK (eA .add v12 (AI 1)) fun t36=>
 K .normal ⟨[(0,v0),(1,v1),(4,v4),(12,t36),(13,v13)],h33,(y34++(y31++(y28++(y25++(y22++(y19++(y16++(y13++(y10++(y7++(y4++x)))))))))))⟩)
 (K (.exit 0) ⟨[(0,v0),(1,v1),(4,v4),(12,v12),(13,v13),(47,t35)],h33,(y34++(y31++(y28++(y25++(y22++(y19++(y16++(y13++(y10++(y7++(y4++x)))))))))))⟩)
theorem zdv {C gl e h x K}:NW C gl GI ⟨e,h,x⟩ K=z0d C gl (bA e 0) (bA e 1) (bA e 4) (bA e 12) (bA e 13) h x K:=by kernel_rfl
theorem zgc {C gl e h x K}:NW C gl (.loop GI) ⟨e,h,x⟩ K=YA C gl GI K [(0,bA e 0),(1,bA e 1),(4,bA e 4),(12,bA e 12),(13,bA e 13)] h x:=RB
def vK:ACode:=.pr [0,1,4,12,13] (.seq (.seq (dr [dF (mV 50 12) [12],
dF (mV 51 13) [13],
dF (bN 52 .leq 50 51) [50,51],
dF (mV 53 52) [52],
dF (gD 54 53 true (.mv 4)) [4,53],
dF (gD 55 53 true (.mv 0)) [0,53],
dF (gD 56 53 true (.mv 13)) [13,53],
dF (gD 57 53 true (.iaddr (some 8) 55 56)) [55,56,53],
dF (gD 58 53 true (.load (some 8) 57)) [57,53],
dF (gD 59 53 true (.mv 0)) [0,53],
dF (gD 60 53 true (.mv 1)) [1,53],
dF (gD 61 53 true (.iaddr (some 8) 59 60)) [59,60,53],
dF (gD 62 53 true (.load (some 8) 61)) [61,53],
dT (gD 63 53 true (.callv 54 [58,62])) [54,58,62,53],
dF (gD 64 53 true (.bin .lss 63 (cI 0))) [63,53],
dF (gD 65 53 true (.un .not 64)) [64,53],
dF (uO 66 (.pick 53 65 cF)) [53,65]] [0,1,4,12,13,66])
(.cond 66 .skip
(.exit 2)))
(.block 3 (rg [mV 67 13,
bN 68 .sub 67 (cI 1),
mV 13 68] [0,1,4,12,13])))
def z0e (C:Hd)(gl:GL)(v0 v1 v4 v12 v13:AV)(h:aA)(x:Esc)(K:KT):Prop:=
 pK (eA .leq v12 v13) fun t1=>
 gM t1 true v4 h fun t2 h3 y4=>
 gM t1 true v0 h3 fun t5 h6 y7=>
 gM t1 true v13 h6 fun t8 h9 y10=>
 gP t1 true (uA (some 8) t5 t8 h9) h9 fun t11 h12 y13=>
 gP t1 true (oA (some 8) t11 h12) h12 fun t14 h15 y16=>
 gM t1 true v0 h15 fun t17 h18 y19=>
 gM t1 true v1 h18 fun t20 h21 y22=>
 gP t1 true (uA (some 8) t17 t20 h21) h21 fun t23 h24 y25=>
 gP t1 true (oA (some 8) t23 h24) h24 fun t26 h27 y28=>
 gV t1 true h27 (oD C t2 [t14,t26] h27) fun t29 h30 y31=>
 gP t1 true (eA .lss t29 (AI 0)) h30 fun t32 h33 y34=>
 gP t1 true (oUn .not t32) h33 fun t35 h36 y37=>
 pK (SA t1 t35 (AB false)) fun t38=>
 qA t38 (pK (eA .sub v13 (AI 1)) fun t39=>
 K .normal ⟨[(0,v0),(1,v1),(4,v4),(12,v12),(13,t39)],h36,(y37++(y34++(y31++(y28++(y25++(y22++(y19++(y16++(y13++(y10++(y7++(y4++x))))))))))))⟩)
 (K (.exit 2) ⟨[(0,v0),(1,v1),(4,v4),(12,v12),(13,v13),(66,t38)],h36,(y37++(y34++(y31++(y28++(y25++(y22++(y19++(y16++(y13++(y10++(y7++(y4++x))))))))))))⟩)
theorem zdw {C gl e h x K}:NW C gl vK ⟨e,h,x⟩ K=z0e C gl (bA e 0) (bA e 1) (bA e 4) (bA e 12) (bA e 13) h x K:=by kernel_rfl
theorem zgd {C gl e h x K}:NW C gl (.loop vK) ⟨e,h,x⟩ K=YA C gl vK K [(0,bA e 0),(1,bA e 1),(4,bA e 4),(12,bA e 12),(13,bA e 13)] h x:=RB
def xK:ACode:=.pr [0,1,4,12,13] (.seq (.seq (dr [dF (mV 105 12) [12],
dF (mV 106 13) [13],
dF (bN 107 .leq 105 106) [105,106],
dF (mV 108 107) [107],
dF (gD 109 108 true (.mv 4)) [4,108],
dF (gD 110 108 true (.mv 0)) [0,108],
dF (gD 111 108 true (.mv 12)) [12,108],
dF (gD 112 108 true (.iaddr (some 8) 110 111)) [110,111,108],
dF (gD 113 108 true (.load (some 8) 112)) [112,108],
dF (gD 114 108 true (.mv 0)) [0,108],
dF (gD 115 108 true (.mv 1)) [1,108],
dF (gD 116 108 true (.iaddr (some 8) 114 115)) [114,115,108],
dF (gD 117 108 true (.load (some 8) 116)) [116,108],
dT (gD 118 108 true (.callv 109 [113,117])) [109,113,117,108],
dF (gD 119 108 true (.bin .lss 118 (cI 0))) [118,108],
dF (uO 120 (.pick 108 119 cF)) [108,119]] [0,1,4,12,13,120])
(.cond 120 .skip
(.exit 6)))
(.block 7 (rg [mV 121 12,
bN 122 .add 121 (cI 1),
mV 12 122] [0,1,4,12,13])))
def z0f (C:Hd)(gl:GL)(v0 v1 v4 v12 v13:AV)(h:aA)(x:Esc)(K:KT):Prop:=
 pK (eA .leq v12 v13) fun t1=>
 gM t1 true v4 h fun t2 h3 y4=>
 gM t1 true v0 h3 fun t5 h6 y7=>
 gM t1 true v12 h6 fun t8 h9 y10=>
 gP t1 true (uA (some 8) t5 t8 h9) h9 fun t11 h12 y13=>
 gP t1 true (oA (some 8) t11 h12) h12 fun t14 h15 y16=>
 gM t1 true v0 h15 fun t17 h18 y19=>
 gM t1 true v1 h18 fun t20 h21 y22=>
 gP t1 true (uA (some 8) t17 t20 h21) h21 fun t23 h24 y25=>
 gP t1 true (oA (some 8) t23 h24) h24 fun t26 h27 y28=>
 gV t1 true h27 (oD C t2 [t14,t26] h27) fun t29 h30 y31=>
 gP t1 true (eA .lss t29 (AI 0)) h30 fun t32 h33 y34=>
 pK (SA t1 t32 (AB false)) fun t35=>
 qA t35 (pK (eA .add v12 (AI 1)) fun t36=>
 K .normal ⟨[(0,v0),(1,v1),(4,v4),(12,t36),(13,v13)],h33,(y34++(y31++(y28++(y25++(y22++(y19++(y16++(y13++(y10++(y7++(y4++x)))))))))))⟩)
 (K (.exit 6) ⟨[(0,v0),(1,v1),(4,v4),(12,v12),(13,v13),(120,t35)],h33,(y34++(y31++(y28++(y25++(y22++(y19++(y16++(y13++(y10++(y7++(y4++x)))))))))))⟩)
theorem zdx {C gl e h x K}:NW C gl xK ⟨e,h,x⟩ K=z0f C gl (bA e 0) (bA e 1) (bA e 4) (bA e 12) (bA e 13) h x K:=by kernel_rfl
theorem zge {C gl e h x K}:NW C gl (.loop xK) ⟨e,h,x⟩ K=YA C gl xK K [(0,bA e 0),(1,bA e 1),(4,bA e 4),(12,bA e 12),(13,bA e 13)] h x:=RB
def yK:ACode:=.pr [0,1,4,12,13] (.seq (.seq (dr [dF (mV 123 12) [12],
dF (mV 124 13) [13],
dF (bN 125 .leq 123 124) [123,124],
dF (mV 126 125) [125],
dF (gD 127 126 true (.mv 4)) [4,126],
dF (gD 128 126 true (.mv 0)) [0,126],
dF (gD 129 126 true (.mv 13)) [13,126],
dF (gD 130 126 true (.iaddr (some 8) 128 129)) [128,129,126],
dF (gD 131 126 true (.load (some 8) 130)) [130,126],
dF (gD 132 126 true (.mv 0)) [0,126],
dF (gD 133 126 true (.mv 1)) [1,126],
dF (gD 134 126 true (.iaddr (some 8) 132 133)) [132,133,126],
dF (gD 135 126 true (.load (some 8) 134)) [134,126],
dT (gD 136 126 true (.callv 127 [131,135])) [127,131,135,126],
dF (gD 137 126 true (.bin .lss 136 (cI 0))) [136,126],
dF (gD 138 126 true (.un .not 137)) [137,126],
dF (uO 139 (.pick 126 138 cF)) [126,138]] [0,1,4,12,13,139])
(.cond 139 .skip
(.exit 8)))
(.block 9 (rg [mV 140 13,
bN 141 .sub 140 (cI 1),
mV 13 141] [0,1,4,12,13])))
def z0g (C:Hd)(gl:GL)(v0 v1 v4 v12 v13:AV)(h:aA)(x:Esc)(K:KT):Prop:=
 pK (eA .leq v12 v13) fun t1=>
 gM t1 true v4 h fun t2 h3 y4=>
 gM t1 true v0 h3 fun t5 h6 y7=>
 gM t1 true v13 h6 fun t8 h9 y10=>
 gP t1 true (uA (some 8) t5 t8 h9) h9 fun t11 h12 y13=>
 gP t1 true (oA (some 8) t11 h12) h12 fun t14 h15 y16=>
 gM t1 true v0 h15 fun t17 h18 y19=>
 gM t1 true v1 h18 fun t20 h21 y22=>
 gP t1 true (uA (some 8) t17 t20 h21) h21 fun t23 h24 y25=>
 gP t1 true (oA (some 8) t23 h24) h24 fun t26 h27 y28=>
 gV t1 true h27 (oD C t2 [t14,t26] h27) fun t29 h30 y31=>
 gP t1 true (eA .lss t29 (AI 0)) h30 fun t32 h33 y34=>
 gP t1 true (oUn .not t32) h33 fun t35 h36 y37=>
 pK (SA t1 t35 (AB false)) fun t38=>
 qA t38 (pK (eA .sub v13 (AI 1)) fun t39=>
 K .normal ⟨[(0,v0),(1,v1),(4,v4),(12,v12),(13,t39)],h36,(y37++(y34++(y31++(y28++(y25++(y22++(y19++(y16++(y13++(y10++(y7++(y4++x))))))))))))⟩)
 (K (.exit 8) ⟨[(0,v0),(1,v1),(4,v4),(12,v12),(13,v13),(139,t38)],h36,(y37++(y34++(y31++(y28++(y25++(y22++(y19++(y16++(y13++(y10++(y7++(y4++x))))))))))))⟩)
theorem zdy {C gl e h x K}:NW C gl yK ⟨e,h,x⟩ K=z0g C gl (bA e 0) (bA e 1) (bA e 4) (bA e 12) (bA e 13) h x K:=by kernel_rfl
theorem zgf {C gl e h x K}:NW C gl (.loop yK) ⟨e,h,x⟩ K=YA C gl yK K [(0,bA e 0),(1,bA e 1),(4,bA e 4),(12,bA e 12),(13,bA e 13)] h x:=RB
def TP:ACode:=.pr [0,1,4,12,13] (.seq (.seq (rg [mV 142 12,
mV 143 13,
bN 144 .gtr 142 143] [0,1,4,12,13,144])
(.cond 144 (.exit 4)
.skip))
(.seq (dr [dF (mV 145 0) [0],
dF (mV 146 12) [12],
dF (mV 147 0) [0],
dF (mV 148 13) [13],
dF (mV 149 0) [0],
dF (mV 150 13) [13],
dF (iA 151 (some 8) 149 150) [149,150],
dF (lD 152 (some 8) 151) [151],
dF (mV 153 0) [0],
dF (mV 154 12) [12],
dF (iA 155 (some 8) 153 154) [153,154],
dF (lD 156 (some 8) 155) [155],
dF (iA 157 (some 8) 145 146) [145,146],
dT (wO (.store (some 8) 157 152)) [157,152],
dF (iA 158 (some 8) 147 148) [147,148],
dT (wO (.store (some 8) 158 156)) [158,156]] [0,1,4,12,13])
(.seq (rg [mV 159 12,
bN 160 .add 159 (cI 1),
mV 12 160] [0,1,4,12,13])
(rg [mV 161 13,
bN 162 .sub 161 (cI 1),
mV 13 162] [0,1,4,12,13]))))
def EL (C:Hd)(gl:GL)(v0 v1 v4 v12 v13:AV)(h:aA)(x:Esc)(K:KT):Prop:=
 pK (eA .gtr v12 v13) fun t1=>
 qA t1 (K (.exit 4) ⟨[(0,v0),(1,v1),(4,v4),(12,v12),(13,v13),(144,t1)],h,x⟩)
 (pK (uA (some 8) v0 v13 h) fun t2=>
 pK (oA (some 8) t2 h) fun t3=>
 pK (uA (some 8) v0 v12 h) fun t4=>
 pK (oA (some 8) t4 h) fun t5=>
 pK (uA (some 8) v0 v12 h) fun t6=>
 wK (GA (some 8) t6 t3 h) fun t7 h8 y9=>
 pK (uA (some 8) v0 v13 h8) fun t10=>
 wK (GA (some 8) t10 t5 h8) fun t11 h12 y13=>
 pK (eA .add v12 (AI 1)) fun t14=>
 pK (eA .sub v13 (AI 1)) fun t15=>
 K .normal ⟨[(0,v0),(1,v1),(4,v4),(12,t14),(13,t15)],h12,(y13++(y9++x))⟩)
theorem uT {C gl e h x K}:NW C gl TP ⟨e,h,x⟩ K=EL C gl (bA e 0) (bA e 1) (bA e 4) (bA e 12) (bA e 13) h x K:=by kernel_rfl
def zX (q4 q5:ACode):ACode:=.pr [0,1,4,12,13] (.seq (.block 8 (.loop q4))
q5)
def SU:ACode:=zX yK TP
def FL (C:Hd)(gl:GL)(q4 q5:ACode)(v0 v1 v4 v12 v13:AV)(h:aA)(x:Esc)(K:KT):Prop:=
 NW C gl (.loop q4) ⟨[(0,v0),(1,v1),(4,v4),(12,v12),(13,v13)],h,x⟩ (OA 8 (TA C gl q5 K))
theorem z6o {C gl q4 q5 e h x K}:NW C gl (zX q4 q5) ⟨e,h,x⟩ K=FL C gl q4 q5 (bA e 0) (bA e 1) (bA e 4) (bA e 12) (bA e 13) h x K:=by kernel_rfl
theorem vT {C gl e h x K}:NW C gl SU ⟨e,h,x⟩ K=FL C gl yK TP (bA e 0) (bA e 1) (bA e 4) (bA e 12) (bA e 13) h x K:=z6o
def AX (q3 q6:ACode):ACode:=.pr [0,1,4,12,13] (.block 5 (.seq (.block 6 (.loop q3))
q6))
def zK:ACode:=AX xK SU
def HL (C:Hd)(gl:GL)(q3 q6:ACode)(v0 v1 v4 v12 v13:AV)(h:aA)(x:Esc)(K:KT):Prop:=
 NW C gl (.loop q3) ⟨[(0,v0),(1,v1),(4,v4),(12,v12),(13,v13)],h,x⟩ (OA 6 (TA C gl q6 (OA 5 K)))
theorem z6p {C gl q3 q6 e h x K}:NW C gl (AX q3 q6) ⟨e,h,x⟩ K=HL C gl q3 q6 (bA e 0) (bA e 1) (bA e 4) (bA e 12) (bA e 13) h x K:=by kernel_rfl
theorem wT {C gl e h x K}:NW C gl zK ⟨e,h,x⟩ K=HL C gl xK SU (bA e 0) (bA e 1) (bA e 4) (bA e 12) (bA e 13) h x K:=z6p
theorem zgg {C gl e h x K}:NW C gl (.loop zK) ⟨e,h,x⟩ K=YA C gl zK K [(0,bA e 0),(1,bA e 1),(4,bA e 4),(12,bA e 12),(13,bA e 13)] h x:=RB
def wM:ACode:=.pr [0,1,13] (.seq (dr [dF (mV 163 0) [0],
dF (mV 164 13) [13],
dF (mV 165 0) [0],
dF (mV 166 1) [1],
dF (mV 167 0) [0],
dF (mV 168 1) [1],
dF (iA 169 (some 8) 167 168) [167,168],
dF (lD 170 (some 8) 169) [169],
dF (mV 171 0) [0],
dF (mV 172 13) [13],
dF (iA 173 (some 8) 171 172) [171,172],
dF (lD 174 (some 8) 173) [173],
dF (iA 175 (some 8) 163 164) [163,164],
dT (wO (.store (some 8) 175 170)) [175,170],
dF (iA 176 (some 8) 165 166) [165,166],
dT (wO (.store (some 8) 176 174)) [176,174]] [13])
(.seq (rg [mV 177 13,
mV 10 177,
mV 11 cF] [10,11])
.ret))
def oO (C:Hd)(gl:GL)(v0 v1 v13:AV)(h:aA)(x:Esc)(K:KT):Prop:=
 pK (uA (some 8) v0 v1 h) fun t1=>
 pK (oA (some 8) t1 h) fun t2=>
 pK (uA (some 8) v0 v13 h) fun t3=>
 pK (oA (some 8) t3 h) fun t4=>
 pK (uA (some 8) v0 v13 h) fun t5=>
 wK (GA (some 8) t5 t2 h) fun t6 h7 y8=>
 pK (uA (some 8) v0 v1 h7) fun t9=>
 wK (GA (some 8) t9 t4 h7) fun t10 h11 y12=>
 K .ret ⟨[(10,v13),(11,(AB false))],h11,(y12++(y8++x))⟩
theorem xT {C gl e h x K}:NW C gl wM ⟨e,h,x⟩ K=oO C gl (bA e 0) (bA e 1) (bA e 13) h x K:=by kernel_rfl
def BX (q7 q8:ACode):ACode:=.pr [0,1,4,12,13] (.seq (.seq (rg [mV 69 12,
mV 70 13,
bN 71 .gtr 69 70] [0,1,4,12,13,71])
(.cond 71 (.seq (dr [dF (mV 72 0) [0],
dF (mV 73 13) [13],
dF (mV 74 0) [0],
dF (mV 75 1) [1],
dF (mV 76 0) [0],
dF (mV 77 1) [1],
dF (iA 78 (some 8) 76 77) [76,77],
dF (lD 79 (some 8) 78) [78],
dF (mV 80 0) [0],
dF (mV 81 13) [13],
dF (iA 82 (some 8) 80 81) [80,81],
dF (lD 83 (some 8) 82) [82],
dF (iA 84 (some 8) 72 73) [72,73],
dT (wO (.store (some 8) 84 79)) [84,79],
dF (iA 85 (some 8) 74 75) [74,75],
dT (wO (.store (some 8) 85 83)) [85,83]] [13])
(.seq (rg [mV 86 13,
mV 10 86,
mV 11 cT] [10,11])
.ret))
.skip))
(.seq (dr [dF (mV 87 0) [0],
dF (mV 88 12) [12],
dF (mV 89 0) [0],
dF (mV 90 13) [13],
dF (mV 91 0) [0],
dF (mV 92 13) [13],
dF (iA 93 (some 8) 91 92) [91,92],
dF (lD 94 (some 8) 93) [93],
dF (mV 95 0) [0],
dF (mV 96 12) [12],
dF (iA 97 (some 8) 95 96) [95,96],
dF (lD 98 (some 8) 97) [97],
dF (iA 99 (some 8) 87 88) [87,88],
dT (wO (.store (some 8) 99 94)) [99,94],
dF (iA 100 (some 8) 89 90) [89,90],
dT (wO (.store (some 8) 100 98)) [100,98]] [0,1,4,12,13])
(.seq (rg [mV 101 12,
bN 102 .add 101 (cI 1),
mV 12 102] [0,1,4,12,13])
(.seq (rg [mV 103 13,
bN 104 .sub 103 (cI 1),
mV 13 104] [0,1,4,12,13])
(.seq (.block 4 (.loop q7))
q8)))))
def UP:ACode:=BX zK wM
def gJ (C:Hd)(gl:GL)(q7 q8:ACode)(v0 v1 v4 v12 v13:AV)(h:aA)(x:Esc)(K:KT):Prop:=
 pK (eA .gtr v12 v13) fun t1=>
 qA t1 (pK (uA (some 8) v0 v1 h) fun t2=>
 pK (oA (some 8) t2 h) fun t3=>
 pK (uA (some 8) v0 v13 h) fun t4=>
 pK (oA (some 8) t4 h) fun t5=>
 pK (uA (some 8) v0 v13 h) fun t6=>
 wK (GA (some 8) t6 t3 h) fun t7 h8 y9=>
 pK (uA (some 8) v0 v1 h8) fun t10=>
 wK (GA (some 8) t10 t5 h8) fun t11 h12 y13=>
 K .ret ⟨[(10,v13),(11,(AB true))],h12,(y13++(y9++x))⟩)
 (pK (uA (some 8) v0 v13 h) fun t14=>
 pK (oA (some 8) t14 h) fun t15=>
 pK (uA (some 8) v0 v12 h) fun t16=>
 pK (oA (some 8) t16 h) fun t17=>
 pK (uA (some 8) v0 v12 h) fun t18=>
 wK (GA (some 8) t18 t15 h) fun t19 h20 y21=>
 pK (uA (some 8) v0 v13 h20) fun t22=>
 wK (GA (some 8) t22 t17 h20) fun t23 h24 y25=>
 pK (eA .add v12 (AI 1)) fun t26=>
 pK (eA .sub v13 (AI 1)) fun t27=>
 NW C gl (.loop q7) ⟨[(0,v0),(1,v1),(4,v4),(12,t26),(13,t27)],h24,(y25++(y21++x))⟩ (OA 4 (TA C gl q8 K)))
theorem z6q {C gl q7 q8 e h x K}:NW C gl (BX q7 q8) ⟨e,h,x⟩ K=gJ C gl q7 q8 (bA e 0) (bA e 1) (bA e 4) (bA e 12) (bA e 13) h x K:=by kernel_rfl
theorem yT {C gl e h x K}:NW C gl UP ⟨e,h,x⟩ K=gJ C gl zK wM (bA e 0) (bA e 1) (bA e 4) (bA e 12) (bA e 13) h x K:=z6q
def yX (q2 q9:ACode):ACode:=.pr [0,1,4,12,13] (.seq (.block 2 (.loop q2))
q9)
def SP:ACode:=yX vK UP
def DL (C:Hd)(gl:GL)(q2 q9:ACode)(v0 v1 v4 v12 v13:AV)(h:aA)(x:Esc)(K:KT):Prop:=
 NW C gl (.loop q2) ⟨[(0,v0),(1,v1),(4,v4),(12,v12),(13,v13)],h,x⟩ (OA 2 (TA C gl q9 K))
theorem z6n {C gl q2 q9 e h x K}:NW C gl (yX q2 q9) ⟨e,h,x⟩ K=DL C gl q2 q9 (bA e 0) (bA e 1) (bA e 4) (bA e 12) (bA e 13) h x K:=by kernel_rfl
theorem tT {C gl e h x K}:NW C gl SP ⟨e,h,x⟩ K=DL C gl vK UP (bA e 0) (bA e 1) (bA e 4) (bA e 12) (bA e 13) h x K:=z6n
def xX (q1 q10:ACode):ACode:=(.seq (rg [mV 10 (cI 0),
mV 11 cF] [0,1,2,3,4])
(.seq (dr [dF (mV 14 0) [0],
dF (mV 15 1) [1],
dF (mV 16 0) [0],
dF (mV 17 3) [3],
dF (mV 18 0) [0],
dF (mV 19 3) [3],
dF (iA 20 (some 8) 18 19) [18,19],
dF (lD 21 (some 8) 20) [20],
dF (mV 22 0) [0],
dF (mV 23 1) [1],
dF (iA 24 (some 8) 22 23) [22,23],
dF (lD 25 (some 8) 24) [24],
dF (iA 26 (some 8) 14 15) [14,15],
dT (wO (.store (some 8) 26 21)) [26,21],
dF (iA 27 (some 8) 16 17) [16,17],
dT (wO (.store (some 8) 27 25)) [27,25]] [0,1,2,4])
(.seq (rg [mV 28 1,
bN 29 .add 28 (cI 1),
mV 30 2,
bN 31 .sub 30 (cI 1),
mV 12 29,
mV 13 31] [0,1,4,12,13])
(.seq (.block 0 (.loop q1))
q10))))
def KR:AFun:=⟨5,[.t 10,.t 11],xX GI SP,true,false⟩
def nO (C:Hd)(gl:GL)(q1 q10:ACode)(v0 v1 v2 v3 v4:AV)(h:aA)(x:Esc)(K:KT):Prop:=
 pK (uA (some 8) v0 v3 h) fun t1=>
 pK (oA (some 8) t1 h) fun t2=>
 pK (uA (some 8) v0 v1 h) fun t3=>
 pK (oA (some 8) t3 h) fun t4=>
 pK (uA (some 8) v0 v1 h) fun t5=>
 wK (GA (some 8) t5 t2 h) fun t6 h7 y8=>
 pK (uA (some 8) v0 v3 h7) fun t9=>
 wK (GA (some 8) t9 t4 h7) fun t10 h11 y12=>
 pK (eA .add v1 (AI 1)) fun t13=>
 pK (eA .sub v2 (AI 1)) fun t14=>
 NW C gl (.loop q1) ⟨[(0,v0),(1,v1),(4,v4),(12,t13),(13,t14)],h11,(y12++(y8++x))⟩ (OA 0 (TA C gl q10 K))
theorem z6m {C gl q1 q10 v0 v1 v2 v3 v4 h x K}:NW C gl (xX q1 q10) ⟨enter [v0,v1,v2,v3,v4],h,x⟩ K=nO C gl q1 q10 v0 v1 v2 v3 v4 h x K:=by kernel_rfl
theorem zdu {C gl v0 v1 v2 v3 v4 h x K}:NW C gl KR.body ⟨enter [v0,v1,v2,v3,v4],h,x⟩ K=nO C gl GI SP v0 v1 v2 v3 v4 h x K:=z6m
end Go.Am
end
section
/- The functions asv abstract code,and asv formulas AE their values: printed by program out of the translation. -/
set_option linter.unusedVariables false
set_option maxRecDepth 100000
namespace Go.Am
def zU:ACode:=.pr [0,2] (.seq (rg [mV 19 2,
mV 20 0,
uO 21 (.conv (.i .u8) 20),
uO 22 (.idxs (cS [0,1,2,2,3,3,3,3,4,4,4,4,4,4,4,4,5,5,5,5,5,5,5,5,5,5,5,5,5,5,5,5,6,6,6,6,6,6,6,6,6,6,6,6,6,6,6,6,6,6,6,6,6,6,6,6,6,6,6,6,6,6,6,6,7,7,7,7,7,7,7,7,7,7,7,7,7,7,7,7,7,7,7,7,7,7,7,7,7,7,7,7,7,7,7,7,7,7,7,7,7,7,7,7,7,7,7,7,7,7,7,7,7,7,7,7,7,7,7,7,7,7,7,7,7,7,7,7,8,8,8,8,8,8,8,8,8,8,8,8,8,8,8,8,8,8,8,8,8,8,8,8,8,8,8,8,8,8,8,8,8,8,8,8,8,8,8,8,8,8,8,8,8,8,8,8,8,8,8,8,8,8,8,8,8,8,8,8,8,8,8,8,8,8,8,8,8,8,8,8,8,8,8,8,8,8,8,8,8,8,8,8,8,8,8,8,8,8,8,8,8,8,8,8,8,8,8,8,8,8,8,8,8,8,8,8,8,8,8,8,8,8,8,8,8,8,8,8,8,8,8,8,8,8,8,8]) 21),
uO 23 (.conv (.i .i64) 22),
bN 24 .add 19 23,
mV 2 24] [2])
.ret)
def gZ (C:Hd)(gl:GL)(v0 v2:AV)(h:aA)(x:Esc)(K:KT):Prop:=
 pK (CI .u8 v0) fun t1=>
 pK (zG (.p (.str [0,1,2,2,3,3,3,3,4,4,4,4,4,4,4,4,5,5,5,5,5,5,5,5,5,5,5,5,5,5,5,5,6,6,6,6,6,6,6,6,6,6,6,6,6,6,6,6,6,6,6,6,6,6,6,6,6,6,6,6,6,6,6,6,7,7,7,7,7,7,7,7,7,7,7,7,7,7,7,7,7,7,7,7,7,7,7,7,7,7,7,7,7,7,7,7,7,7,7,7,7,7,7,7,7,7,7,7,7,7,7,7,7,7,7,7,7,7,7,7,7,7,7,7,7,7,7,7,8,8,8,8,8,8,8,8,8,8,8,8,8,8,8,8,8,8,8,8,8,8,8,8,8,8,8,8,8,8,8,8,8,8,8,8,8,8,8,8,8,8,8,8,8,8,8,8,8,8,8,8,8,8,8,8,8,8,8,8,8,8,8,8,8,8,8,8,8,8,8,8,8,8,8,8,8,8,8,8,8,8,8,8,8,8,8,8,8,8,8,8,8,8,8,8,8,8,8,8,8,8,8,8,8,8,8,8,8,8,8,8,8,8,8,8,8,8,8,8,8,8,8,8,8,8,8,8])) t1) fun t2=>
 pK (CI .i64 t2) fun t3=>
 pK (eA .add v2 t3) fun t4=>
 K .ret ⟨[(2,t4)],h,x⟩
theorem zb6 {C gl e h x K}:NW C gl zU ⟨e,h,x⟩ K=gZ C gl (bA e 0) (bA e 2) h x K:=by kernel_rfl
def zW (q1:ACode):ACode:=.pr [0,2] (.seq (.seq (rg [mV 13 0,
bN 14 .geq 13 (.c (.p (.int .u64 256)))] [0,2,14])
(.cond 14 (.seq (rg [mV 15 0,
bN 16 .shr 15 (.c (.p (.int .u64 8))),
mV 0 16] [0,2])
(rg [mV 17 2,
bN 18 .add 17 (cI 8),
mV 2 18] [0,2]))
.skip))
q1)
def BU:ACode:=zW zU
def vS (C:Hd)(gl:GL)(q1:ACode)(v0 v2:AV)(h:aA)(x:Esc)(K:KT):Prop:=
 pK (eA .geq v0 (.p (.int .u64 256))) fun t1=>
 qA t1 (pK (eA .shr v0 (.p (.int .u64 8))) fun t2=>
 pK (eA .add v2 (AI 8)) fun t3=>
 NW C gl q1 ⟨[(0,t2),(2,t3)],h,x⟩ K)
 (NW C gl q1 ⟨[(0,v0),(2,v2),(14,t1)],h,x⟩ K)
theorem z52 {C gl q1 e h x K}:NW C gl (zW q1) ⟨e,h,x⟩ K=vS C gl q1 (bA e 0) (bA e 2) h x K:=by kernel_rfl
theorem zb7 {C gl e h x K}:NW C gl BU ⟨e,h,x⟩ K=vS C gl zU (bA e 0) (bA e 2) h x K:=z52
def BW (q2:ACode):ACode:=.pr [0,2] (.seq (.seq (rg [mV 7 0,
bN 8 .geq 7 (.c (.p (.int .u64 65536)))] [0,2,8])
(.cond 8 (.seq (rg [mV 9 0,
bN 10 .shr 9 (.c (.p (.int .u64 16))),
mV 0 10] [0,2])
(rg [mV 11 2,
bN 12 .add 11 (cI 16),
mV 2 12] [0,2]))
.skip))
q2)
def sP:ACode:=BW BU
def wS (C:Hd)(gl:GL)(q2:ACode)(v0 v2:AV)(h:aA)(x:Esc)(K:KT):Prop:=
 pK (eA .geq v0 (.p (.int .u64 65536))) fun t1=>
 qA t1 (pK (eA .shr v0 (.p (.int .u64 16))) fun t2=>
 pK (eA .add v2 (AI 16)) fun t3=>
 NW C gl q2 ⟨[(0,t2),(2,t3)],h,x⟩ K)
 (NW C gl q2 ⟨[(0,v0),(2,v2),(8,t1)],h,x⟩ K)
theorem z53 {C gl q2 e h x K}:NW C gl (BW q2) ⟨e,h,x⟩ K=wS C gl q2 (bA e 0) (bA e 2) h x K:=by kernel_rfl
theorem zb8 {C gl e h x K}:NW C gl sP ⟨e,h,x⟩ K=wS C gl BU (bA e 0) (bA e 2) h x K:=z53
def yW (q3:ACode):ACode:=(.seq (rg [mV 2 (cI 0)] [0,2])
(.seq (.seq (rg [mV 3 0,
bN 4 .geq 3 (.c (.p (.int .u64 4294967296)))] [0,2,4])
(.cond 4 (.seq (rg [mV 5 0,
bN 6 .shr 5 (.c (.p (.int .u64 32))),
mV 0 6] [0])
(rg [mV 2 (cI 32)] [0,2]))
.skip))
q3))
def QQ:AFun:=⟨1,[.t 2],yW sP,false,false⟩
def rL (C:Hd)(gl:GL)(q3:ACode)(v0:AV)(h:aA)(x:Esc)(K:KT):Prop:=
 pK (eA .geq v0 (.p (.int .u64 4294967296))) fun t1=>
 qA t1 (pK (eA .shr v0 (.p (.int .u64 32))) fun t2=>
 NW C gl q3 ⟨[(0,t2),(2,(AI 32))],h,x⟩ K)
 (NW C gl q3 ⟨[(0,v0),(2,(AI 0)),(4,t1)],h,x⟩ K)
theorem z51 {C gl q3 v0 h x K}:NW C gl (yW q3) ⟨enter [v0],h,x⟩ K=rL C gl q3 v0 h x K:=by kernel_rfl
theorem zb5 {C gl v0 h x K}:NW C gl QQ.body ⟨enter [v0],h,x⟩ K=rL C gl sP v0 h x K:=z51
def z71:ACode:=(.seq (rg [mV 4 (cI 0)] [0,1])
(.seq (rg [mV 5 0,
mV 6 1,
cL 7 sJ [5,6],
mV 4 7] [4])
.ret))
def PR:AFun:=⟨2,[.t 4],z71,false,false⟩
def oT (C:Hd)(gl:GL)(v0 v1:AV)(h:aA)(x:Esc)(K:KT):Prop:=
 C sJ [v0,v1] h fun t1 h2 y3=>
 K .ret ⟨[(4,t1)],h2,(y3++x)⟩
theorem zeb {C gl v0 v1 h x K}:NW C gl PR.body ⟨enter [v0,v1],h,x⟩ K=oT C gl v0 v1 h x K:=by kernel_rfl
def z7i:ACode:=(.seq (rg [mV 12 (cI 0)] [0,1,2,3,4,5])
(.seq (rg [mV 14 0,
mV 15 1,
mV 16 2,
mV 17 4,
mV 18 5,
cL 19 IF [14,15,16,17,18],
mV 13 19,
eX 20 13 0,
eX 21 13 1,
mV 1 20,
mV 2 21] [0,1,2,3,4,5])
(.seq (rg [mV 23 0,
mV 24 2,
mV 25 3,
mV 26 4,
mV 27 5,
cL 28 IF [23,24,25,26,27],
mV 22 28,
eX 29 22 0,
eX 30 22 1,
mV 2 29,
mV 3 30] [0,1,2,4,5])
(.seq (rg [mV 32 0,
mV 33 1,
mV 34 2,
mV 35 4,
mV 36 5,
cL 37 IF [32,33,34,35,36],
mV 31 37,
eX 38 31 0,
eX 39 31 1,
mV 1 38,
mV 2 39] [2])
(.seq (rg [mV 40 2,
mV 12 40] [12])
.ret)))))
def HR:AFun:=⟨6,[.t 12],z7i,true,false⟩
def WS (C:Hd)(gl:GL)(v0 v1 v2 v3 v4 v5:AV)(h:aA)(x:Esc)(K:KT):Prop:=
 C IF [v0,v1,v2,v4,v5] h fun t1 h2 y3=>
 pK (xC t1 0) fun t4=>
 pK (xC t1 1) fun t5=>
 C IF [v0,t5,v3,v4,v5] h2 fun t6 h7 y8=>
 pK (xC t6 0) fun t9=>
 pK (xC t6 1) fun t10=>
 C IF [v0,t4,t9,v4,v5] h7 fun t11 h12 y13=>
 pK (xC t11 0) fun t14=>
 pK (xC t11 1) fun t15=>
 K .ret ⟨[(12,t15)],h12,(y13++(y8++(y3++x)))⟩
theorem zdj {C gl v0 v1 v2 v3 v4 v5 h x K}:NW C gl HR.body ⟨enter [v0,v1,v2,v3,v4,v5],h,x⟩ K=WS C gl v0 v1 v2 v3 v4 v5 h x K:=by kernel_rfl
def z6K:ACode:=(.seq (rg [mV 4 (cI 0)] [0,1])
(.seq (rg [mV 5 0,
mV 6 1,
cL 7 CF [5,6],
mV 4 7] [4])
.ret))
def OQ:AFun:=⟨2,[.t 4],z6K,false,false⟩
def uS (C:Hd)(gl:GL)(v0 v1:AV)(h:aA)(x:Esc)(K:KT):Prop:=
 C CF [v0,v1] h fun t1 h2 y3=>
 K .ret ⟨[(4,t1)],h2,(y3++x)⟩
theorem zb3 {C gl v0 v1 h x K}:NW C gl OQ.body ⟨enter [v0,v1],h,x⟩ K=uS C gl v0 v1 h x K:=by kernel_rfl
def z7j:ACode:=(.seq (rg [mV 10 (cI 0),
mV 11 (cI 0)] [0,1,2,3,4])
(.seq (.seq (dr [dF (mV 12 4) [4],
dF (mV 13 0) [0],
dF (mV 14 2) [2],
dF (iA 15 (some 8) 13 14) [13,14],
dF (lD 16 (some 8) 15) [15],
dF (mV 17 0) [0],
dF (mV 18 1) [1],
dF (iA 19 (some 8) 17 18) [17,18],
dF (lD 20 (some 8) 19) [19],
dT (uO 21 (.callv 12 [16,20])) [12,16,20],
dF (bN 22 .lss 21 (cI 0)) [21]] [1,2,3,22])
(.cond 22 (.seq (rg [mV 23 3,
uO 24 (.nilchk 23),
lD 25 none 24,
bN 26 .add 25 (cI 1),
uO 27 (.nilchk 23),
wO (.store none 27 26)] [1,2])
(.seq (rg [mV 28 2,
mV 29 1,
mV 10 28,
mV 11 29] [10,11])
.ret))
.skip))
(.seq (rg [mV 30 1,
mV 31 2,
mV 10 30,
mV 11 31] [10,11])
.ret)))
def IR:AFun:=⟨5,[.t 10,.t 11],z7j,true,false⟩
def XS (C:Hd)(gl:GL)(v0 v1 v2 v3 v4:AV)(h:aA)(x:Esc)(K:KT):Prop:=
 pK (uA (some 8) v0 v2 h) fun t1=>
 pK (oA (some 8) t1 h) fun t2=>
 pK (uA (some 8) v0 v1 h) fun t3=>
 pK (oA (some 8) t3 h) fun t4=>
 oD C v4 [t2,t4] h fun t5 h6 y7=>
 pK (eA .lss t5 (AI 0)) fun t8=>
 qA t8 (pK (cD v3) fun t9=>
 pK (oA none t9 h6) fun t10=>
 pK (eA .add t10 (AI 1)) fun t11=>
 pK (cD v3) fun t12=>
 wK (GA none t12 t11 h6) fun t13 h14 y15=>
 K .ret ⟨[(10,v2),(11,v1)],h14,(y15++(y7++x))⟩)
 (K .ret ⟨[(10,v1),(11,v2)],h6,(y7++x)⟩)
theorem zdk {C gl v0 v1 v2 v3 v4 h x K}:NW C gl IR.body ⟨enter [v0,v1,v2,v3,v4],h,x⟩ K=XS C gl v0 v1 v2 v3 v4 h x K:=by kernel_rfl
def z6M:ACode:=(.seq (rg [mV 0 cF] [])
(.seq (rg [uO 4 (.bsl false none 1 (.str []) [(0,(cS [115,99,97,110]))]),
uO 5 (.build [.sl0 none,.p (.int .i64 0)] [(0,1,4),(1,1,(cI 1))]),
uO 6 (.build [.p (.str []),.p (.int .i64 0),.p (.int .i64 0),.p (.int .i64 0),.p (.str []),.p (.str []),.p (.str []),.p (.int .i64 0)] [(0,1,(cS [97])),(1,1,(cI 1)),(3,1,(cI 1)),(4,1,(cS [98]))]),
uO 7 (.bsl false (some 8) 1 (.agg [.str [],.int .i64 0,.int .i64 0,.int .i64 0,.str [],.str [],.str [],.int .i64 0]) [(0,6)]),
cL 8 z1c [5,7,(cS [98]),(cI 0)],
mV 3 8,
eX 9 3 0,
eX 10 3 1,
uO 1 (.alloc [.p (.int .i64 0),.p (.int .i64 0),.p (.str []),.p (.str []),.p (.int .i64 0)]),
wO (.store (some 5) 1 9),
mV 2 10] [1,2])
(.seq (rg [mV 11 2,
bN 12 .eql 11 (cI 0),
mV 13 12,
gD 14 13 true (.faddr 0 none 1),
gD 15 13 true (.load none 14),
gD 16 13 true (.bin .eql 15 (cI 1)),
uO 17 (.pick 13 16 cF),
mV 18 17,
gD 19 18 true (.faddr 2 none 1),
gD 20 18 true (.load none 19),
gD 21 18 true (.bin .eql 20 (cS [115,99,97,110])),
uO 22 (.pick 18 21 cF),
mV 0 22] [0])
.ret)))
def z78:AFun:=⟨0,[.t 0],z6M,false,false⟩
def z7l:ACode:=(.seq (rg [uO 4 (.box 0),
uO 8 (.alloc [.p (.int .i64 0),.p (.int .i64 0),.p (.str []),.p (.str []),.p (.int .i64 0)]),
mV 9 (cI 0)] [1,2,3,4,8])
(.seq (.seq (rg [lD 12 (some 2) 4,
mV 13 1,
mV 14 3,
cL 15 z1d [12,13,14],
mV 10 15] [1,2,3,4,8,10])
(.seq (rg [mV 16 10,
bN 17 .neq 16 (cI 0)] [1,2,3,4,8,10,17])
(.cond 17 (.seq (rg [uO 18 (.build [.p (.int .i64 0),.p (.int .i64 0),.p (.str []),.p (.str []),.p (.int .i64 0)] []),
mV 19 10,
wO (.store (some 5) 8 18),
mV 9 19] [8,9])
.ret)
.skip)))
(.seq (.seq (rg [mV 20 2,
cL 21 pD [20],
uO 22 (.un .not 21)] [1,2,3,4,8,22])
(.cond 22 (.seq (rg [uO 23 (.build [.p (.int .i64 0),.p (.int .i64 0),.p (.str []),.p (.str []),.p (.int .i64 0)] []),
wO (.store (some 5) 8 23),
mV 9 (cI 5)] [8,9])
.ret)
.skip))
(.seq (dr [dF (lD 24 (some 2) 4) [4],
dF (mV 25 1) [1],
dF (mV 26 3) [3],
dA (cL 27 sH [25,26]) [25,26] true [] [0],
dT (cL 28 z1i [24,27]) [24,27],
dF (uO 29 (.nilchk 28)) [28],
dF (fA 30 2 none 29) [29],
dF (lD 31 none 30) [30],
dF (mV 32 2) [2],
dF (uO 33 (.look (none,[2]) false (.nilp) 31 32)) [31,32],
dF (mV 11 33) [33]] [8,11])
(.seq (.seq (rg [mV 34 11,
uO 35 (.isnil 0 false 34)] [8,11,35])
(.cond 35 (.seq (rg [uO 36 (.build [.p (.int .i64 0),.p (.int .i64 0),.p (.str []),.p (.str []),.p (.int .i64 0)] []),
wO (.store (some 5) 8 36),
mV 9 (cI 8)] [8,9])
.ret)
.skip))
(.seq (rg [mV 37 11,
uO 38 (.nilchk 37),
lD 39 (some 5) 38,
wO (.store (some 5) 8 39),
mV 9 (cI 0)] [8,9])
.ret))))))
def z79:AFun:=⟨4,[.cell 8 (some 5),.t 9],z7l,false,false⟩
def z7o:ACode:=(.seq (rg [uO 3 (.box 0),
mV 6 (cI 0)] [1,2,3])
(.seq (rg [lD 7 (some 2) 3,
cL 8 pH [7],
mV 9 1,
cL 10 rD [9],
mV 11 2,
cL 12 rH [11],
uO 13 (.bsl false none 3 (.int .i64 0) [(0,8),(1,10),(2,12)]),
cL 14 EF [13],
mV 6 14] [6])
.ret))
def z7A:AFun:=⟨3,[.t 6],z7o,false,false⟩
def z7p:ACode:=(.seq (rg [mV 4 (cI 0)] [0,1])
(.seq (rg [mV 5 0,
uO 6 (.nilchk 5),
fA 7 0 (some 2) 6,
fA 8 0 none 7,
lD 9 none 8,
mV 10 1,
cL 11 mH [9,10],
mV 4 11] [4])
.ret))
def z7B:AFun:=⟨2,[.t 4],z7p,false,false⟩
def zhs:ACode:=.pr [] (.seq (rg [mV 6 (cI 0)] [6])
.ret)
def zht:ACode:=.pr [] (.seq (rg [mV 6 (cI 0)] [6])
.ret)
def z7r (q2:ACode):ACode:=.pr [0,1] (.seq (rg [mV 98 1,
uO 99 (.nilchk 98),
fA 100 4 none 99,
lD 101 none 100,
bN 102 .add 101 (cI 1),
uO 103 (.nilchk 98),
fA 104 4 none 103,
wO (.store none 104 102)] [0,1])
(.seq (rg [mV 105 1,
uO 106 (.nilchk 105),
fA 107 0 none 106,
wO (.store none 107 (cI 3))] [0,1])
(.seq (.seq (dr [dF (mV 108 1) [1],
dF (uO 109 (.nilchk 108)) [108],
dF (fA 110 4 none 109) [109],
dF (lD 111 none 110) [110],
dF (mV 112 0) [0],
dF (uO 113 (.nilchk 112)) [112],
dF (fA 114 0 (some 2) 113) [113],
dF (fA 115 1 none 114) [114],
dF (lD 116 none 115) [115],
dF (bN 117 .eql 111 116) [111,116]] [1,117])
(.cond 117 (rg [mV 118 1,
uO 119 (.nilchk 118),
fA 120 0 none 119,
wO (.store none 120 (cI 5))] [])
.skip))
q2)))
def zhu:ACode:=z7r zht
def z7q (q1 q3:ACode):ACode:=(.seq (rg [uO 5 (.box 2),
mV 6 (cI 0)] [0,1,5])
(.seq (.block 0 (.seq (rg [mV 10 1,
uO 11 (.nilchk 10),
fA 12 0 none 11,
lD 13 none 12,
bN 14 .neq 13 (cI 2),
mV 9 14] [0,1,5,9])
(.cond 9 (.seq (rg [mV 6 (cI 11)] [6])
.ret)
(.seq (dr [dF (mV 16 1) [1],
dF (uO 17 (.nilchk 16)) [16],
dF (fA 18 3 none 17) [17],
dF (lD 19 none 18) [18],
dF (fA 20 0 none 5) [5],
dF (lD 21 none 20) [20],
dF (bN 22 .neq 19 21) [19,21],
dF (mV 15 22) [22]] [0,1,5,15])
(.cond 15 (.seq (rg [mV 6 (cI 13)] [6])
.ret)
.skip)))))
(.seq (rg [fA 23 3 none 5,
lD 24 none 23,
bN 25 .eql 24 (cI 3),
mV 7 25] [0,1,5,7])
(.seq (dr [dF (mV 26 0) [0],
dF (mV 27 0) [0],
dF (uO 28 (.nilchk 27)) [27],
dF (fA 29 4 none 28) [28],
dF (lD 30 none 29) [29],
dF (fA 31 4 none 5) [5],
dF (lD 32 none 31) [31],
dF (mV 33 1) [1],
dF (uO 34 (.nilchk 33)) [33],
dF (fA 35 2 none 34) [34],
dF (lD 36 none 35) [35],
dF (mV 37 1) [1],
dF (uO 38 (.nilchk 37)) [37],
dF (fA 39 1 none 38) [38],
dF (lD 40 none 39) [39],
dF (fA 41 2 none 5) [5],
dF (lD 42 none 41) [41],
dF (mV 43 7) [7],
dF (uO 44 (.build [.p (.str []),.p (.str []),.p (.int .i64 0),.p (.int .i64 0),.p (.bool false)] [(0,1,32),(1,1,36),(2,1,40),(3,1,42),(4,1,43)])) [32,36,40,42,43],
dF (uO 45 (.bsl false (some 5) 1 (.agg [.str [],.str [],.int .i64 0,.int .i64 0,.bool false]) [(0,44)])) [44],
dT (uO 46 (.app (some 5) 30 45)) [30,45],
dF (uO 47 (.nilchk 26)) [26],
dF (fA 48 4 none 47) [47],
dT (wO (.store none 48 46)) [48,46]] [0,1,5,7])
(.seq (rg [mV 49 0,
mV 50 1,
fA 51 2 none 5,
lD 52 none 51,
cL 53 MT [49,50,52]] [0,1,5,7])
(.seq (rg [mV 54 1,
fA 55 2 none 5,
lD 56 none 55,
uO 57 (.nilchk 54),
fA 58 1 none 57,
wO (.store none 58 56)] [0,1,7])
(.seq (.seq (rg [mV 59 7] [0,1,59])
(.cond 59 (.seq (rg [mV 60 1,
uO 61 (.nilchk 60),
fA 62 4 none 61,
wO (.store none 62 (cI 0))] [0,1])
(.seq (rg [mV 63 0,
mV 64 1,
uO 65 (.nilchk 64),
fA 66 2 none 65,
lD 67 none 66,
cL 68 z1e [63,67],
bN 69 .add 68 (cI 1),
mV 8 69] [0,1,8])
(.seq (.seq (rg [mV 70 8,
mV 71 0,
uO 72 (.nilchk 71),
fA 73 0 (some 2) 72,
fA 74 0 none 73,
lD 75 none 74,
lN 76 75,
bN 77 .eql 70 76] [0,1,8,77])
(.cond 77 (rg [mV 78 1,
mV 79 1,
uO 80 (.nilchk 78),
fA 81 0 none 80,
wO (.store none 81 (cI 4)),
uO 82 (.nilchk 79),
fA 83 2 none 82,
wO (.store none 83 (cS []))] [])
(rg [mV 84 1,
mV 85 1,
mV 86 0,
uO 87 (.nilchk 86),
fA 88 0 (some 2) 87,
fA 89 0 none 88,
lD 90 none 89,
mV 91 8,
iA 92 none 90 91,
lD 93 none 92,
uO 94 (.nilchk 84),
fA 95 0 none 94,
wO (.store none 95 (cI 1)),
uO 96 (.nilchk 85),
fA 97 2 none 96,
wO (.store none 97 93)] [])))
q1)))
.skip))
q3)))))))
def z7C:AFun:=⟨3,[.t 6],z7q zhs zhu,false,false⟩
def zhv:ACode:=.pr [0,1,2,11,12] (rg [bN 47 .add 12 (cI 1),
mV 12 47] [0,1,2,11,12])
def z7t (q1:ACode):ACode:=.pr [0,1,2,11,12] (.seq (rg [bN 13 .lss 12 11] [0,1,2,11,12,13])
(.seq (.cond 13 .skip
(.exit 0))
(.seq (.block 1 (.seq (rg [mV 14 12,
mV 6 14] [0,1,2,6,11,12])
(.seq (dr [dF (mV 15 0) [0],
dF (uO 16 (.nilchk 15)) [15],
dF (fA 17 5 none 16) [16],
dF (lD 18 none 17) [17],
dF (mV 19 6) [6],
dF (iA 20 (some 3) 18 19) [18,19],
dF (fA 21 0 none 20) [20],
dF (lD 22 none 21) [21],
dF (mV 23 1) [1],
dF (uO 24 (.nilchk 23)) [23],
dF (fA 25 3 none 24) [24],
dF (lD 26 none 25) [25],
dF (bN 27 .eql 22 26) [22,26],
dF (mV 28 27) [27],
dF (gD 29 28 true (.mv 0)) [0,28],
dF (gD 30 28 true (.nilchk 29)) [29,28],
dF (gD 31 28 true (.faddr 5 none 30)) [30,28],
dF (gD 32 28 true (.load none 31)) [31,28],
dF (gD 33 28 true (.mv 6)) [6,28],
dF (gD 34 28 true (.iaddr (some 3) 32 33)) [32,33,28],
dF (gD 35 28 true (.faddr 2 none 34)) [34,28],
dF (gD 36 28 true (.load none 35)) [35,28],
dF (gD 37 28 true (.bin .lss 36 (cI 0))) [36,28],
dF (uO 38 (.pick 28 37 cF)) [28,37]] [0,1,2,6,11,12,38])
(.cond 38 (rg [mV 39 0,
uO 40 (.nilchk 39),
fA 41 5 none 40,
lD 42 none 41,
mV 43 6,
mV 44 2,
iA 45 (some 3) 42 43,
fA 46 2 none 45,
wO (.store none 46 44)] [0,1,2,11,12])
.skip))))
q1)))
def zhw:ACode:=z7t zhv
def zhx:ACode:=.pr [0,1] (.seq (dr [dF (mV 48 0) [0],
dF (uO 49 (.nilchk 48)) [48],
dF (fA 50 3 none 49) [49],
dF (lD 51 none 50) [50],
dF (mV 52 1) [1],
dF (uO 53 (.nilchk 52)) [52],
dF (fA 54 3 none 53) [53],
dF (lD 55 none 54) [54],
dT (wO (.mdel (none,[2]) 51 55)) [51,55]] [1])
(rg [mV 56 1,
uO 57 (.nilchk 56),
fA 58 3 none 57,
wO (.store none 58 (cS []))] []))
def z7s (q2 q3:ACode):ACode:=(.seq (.seq (rg [mV 7 0,
uO 8 (.nilchk 7),
fA 9 5 none 8,
lD 10 none 9,
lN 11 10,
mV 12 (cI 0)] [0,1,2,11,12])
(.block 0 (.loop q2)))
q3)
def z7D:AFun:=⟨3,[],z7s zhw zhx,false,false⟩
def z7u:ACode:=(.seq (rg [uO 5 (.box 2),
mV 6 (cI 0)] [0,1,5])
(.seq (dr [dF (mV 10 0) [0],
dF (uO 11 (.nilchk 10)) [10],
dF (fA 12 3 none 11) [11],
dF (lD 13 none 12) [12],
dF (fA 14 0 none 5) [5],
dF (lD 15 none 14) [14],
dF (uO 16 (.look (none,[2]) true (.p (.str [])) 13 15)) [13,15],
dF (mV 9 16) [16],
dF (eX 17 9 0) [9],
dF (eX 18 9 1) [9],
dF (mV 7 17) [17],
dF (mV 8 18) [18]] [0,1,5,8])
(.seq (.block 0 (.seq (rg [mV 20 1,
uO 21 (.nilchk 20),
fA 22 0 none 21,
lD 23 none 22,
bN 24 .neq 23 (cI 1),
mV 19 24] [0,1,5,8,19])
(.cond 19 (.seq (rg [mV 6 (cI 11)] [6])
.ret)
(.seq (dr [dF (fA 26 5 none 5) [5],
dF (lD 27 none 26) [26],
dF (mV 28 1) [1],
dF (uO 29 (.nilchk 28)) [28],
dF (fA 30 2 none 29) [29],
dF (lD 31 none 30) [30],
dF (bN 32 .neq 27 31) [27,31],
dF (mV 25 32) [32]] [0,1,5,8,25])
(.cond 25 (.seq (rg [mV 6 (cI 3)] [6])
.ret)
(.seq (rg [mV 34 8,
mV 33 34] [0,1,5,33])
(.cond 33 (.seq (rg [mV 6 (cI 12)] [6])
.ret)
.skip)))))))
(.seq (dr [dF (mV 35 1) [1],
dF (mV 36 1) [1],
dF (mV 37 1) [1],
dF (fA 38 2 none 5) [5],
dF (lD 39 none 38) [38],
dF (fA 40 0 none 5) [5],
dF (lD 41 none 40) [40],
dF (uO 42 (.nilchk 35)) [35],
dF (fA 43 0 none 42) [42],
dA (wO (.store none 43 (cI 2))) [43] true [] [4,6],
dF (uO 44 (.nilchk 36)) [36],
dF (fA 45 1 none 44) [44],
dA (wO (.store none 45 39)) [45,39] true [] [6],
dF (uO 46 (.nilchk 37)) [37],
dF (fA 47 3 none 46) [46],
dT (wO (.store none 47 41)) [47,41]] [0,5])
(.seq (dr [dF (mV 48 0) [0],
dF (uO 49 (.nilchk 48)) [48],
dF (fA 50 3 none 49) [49],
dF (lD 51 none 50) [50],
dF (fA 52 0 none 5) [5],
dF (lD 53 none 52) [52],
dF (fA 54 4 none 5) [5],
dF (lD 55 none 54) [54],
dT (wO (.mupd (none,[2]) 51 53 55)) [51,53,55]] [0,5])
(.seq (dr [dF (mV 56 0) [0],
dF (mV 57 0) [0],
dF (uO 58 (.nilchk 57)) [57],
dF (fA 59 5 none 58) [58],
dF (lD 60 none 59) [59],
dF (fA 61 0 none 5) [5],
dF (lD 62 none 61) [61],
dF (fA 63 2 none 5) [5],
dF (lD 64 none 63) [63],
dF (uO 65 (.build [.p (.str []),.p (.int .i64 0),.p (.int .i64 0)] [(0,1,62),(1,1,64),(2,1,(cI (-1)))])) [62,64],
dF (uO 66 (.bsl false (some 3) 1 (.agg [.str [],.int .i64 0,.int .i64 0]) [(0,65)])) [65],
dT (uO 67 (.app (some 3) 60 66)) [60,66],
dF (uO 68 (.nilchk 56)) [56],
dF (fA 69 5 none 68) [68],
dT (wO (.store none 69 67)) [69,67]] [])
(.seq (rg [mV 6 (cI 0)] [6])
.ret)))))))
def z7E:AFun:=⟨3,[.t 6],z7u,false,false⟩
def zhy:ACode:=.pr [0,3,5,38,45] (.cond 45 (.seq (rg [mV 48 0,
mV 49 5,
lD 50 (some 8) 3,
cL 51 z1f [48,49,50],
mV 4 51] [4])
.ret)
(.seq (rg [bN 53 .eql 38 (cI 5),
mV 52 53] [0,3,5,52])
(.cond 52 (.seq (.seq (rg [mV 54 5,
uO 55 (.nilchk 54),
fA 56 0 none 55,
lD 57 none 56,
bN 58 .neq 57 (cI 3)] [3,5,58])
(.cond 58 (.seq (rg [mV 4 (cI 11)] [4])
.ret)
.skip))
(.seq (dr [dF (mV 59 5) [5],
dF (mV 60 5) [5],
dF (fA 61 2 none 3) [3],
dF (lD 62 none 61) [61],
dF (uO 63 (.nilchk 59)) [59],
dF (fA 64 0 none 63) [63],
dA (wO (.store none 64 (cI 1))) [64] true [] [3],
dF (uO 65 (.nilchk 60)) [60],
dF (fA 66 1 none 65) [65],
dT (wO (.store none 66 62)) [66,62]] [])
(.seq (rg [mV 4 (cI 0)] [4])
.ret)))
.skip)))
def zhz:ACode:=.pr [3,5] (.seq (dr [dF (mV 89 5) [5],
dF (mV 90 5) [5],
dF (fA 91 2 none 3) [3],
dF (lD 92 none 91) [91],
dF (uO 93 (.nilchk 89)) [89],
dF (fA 94 0 none 93) [93],
dA (wO (.store none 94 (cI 5))) [94] true [] [3],
dF (uO 95 (.nilchk 90)) [90],
dF (fA 96 1 none 95) [95],
dT (wO (.store none 96 92)) [96,92]] [])
(.seq (rg [mV 4 (cI 0)] [4])
.ret))
def z7w (q2:ACode):ACode:=.pr [0,3,5] (.seq (.seq (rg [mV 67 5,
uO 68 (.nilchk 67),
fA 69 0 none 68,
lD 70 none 69,
bN 71 .eql 70 (cI 4),
mV 72 71,
gD 73 72 false (.mv 5),
gD 74 72 false (.nilchk 73),
gD 75 72 false (.faddr 0 none 74),
gD 76 72 false (.load none 75),
gD 77 72 false (.bin .eql 76 (cI 5)),
uO 78 (.pick 72 cT 77)] [0,3,5,78])
(.cond 78 (.seq (rg [mV 4 (cI 11)] [4])
.ret)
.skip))
(.seq (.seq (rg [mV 79 5,
uO 80 (.nilchk 79),
fA 81 0 none 80,
lD 82 none 81,
bN 83 .eql 82 (cI 2)] [0,3,5,83])
(.cond 83 (rg [mV 84 0,
mV 85 5,
fA 86 2 none 3,
lD 87 none 86,
cL 88 MT [84,85,87]] [3,5])
.skip))
q2))
def zh0:ACode:=z7w zhz
def z7v (q1 q3:ACode):ACode:=(.seq (rg [uO 3 (.box 1),
mV 4 (cI 0)] [0,3])
(.seq (dr [dF (mV 6 0) [0],
dF (uO 7 (.nilchk 6)) [6],
dF (fA 8 2 none 7) [7],
dF (lD 9 none 8) [8],
dF (fA 10 4 none 3) [3],
dF (lD 11 none 10) [10],
dF (uO 12 (.look (none,[2]) false (.nilp) 9 11)) [9,11],
dF (mV 5 12) [12]] [0,3,5])
(.seq (.seq (rg [fA 13 3 none 3,
lD 14 none 13,
bN 15 .eql 14 (cI 1)] [0,3,5,15])
(.cond 15 (.seq (.seq (rg [mV 16 5,
uO 17 (.isnil 0 true 16)] [0,3,17])
(.cond 17 (.seq (rg [mV 4 (cI 6)] [4])
.ret)
.skip))
(.seq (dr [dF (mV 18 0) [0],
dF (uO 19 (.nilchk 18)) [18],
dF (fA 20 2 none 19) [19],
dF (lD 21 none 20) [20],
dF (fA 22 4 none 3) [3],
dF (lD 23 none 22) [22],
dF (fA 24 2 none 3) [3],
dF (lD 25 none 24) [24],
dF (mV 26 0) [0],
dF (uO 27 (.nilchk 26)) [26],
dF (fA 28 0 (some 2) 27) [27],
dF (fA 29 0 none 28) [28],
dF (lD 30 none 29) [29],
dF (iA 31 none 30 (cI 0)) [30],
dF (lD 32 none 31) [31],
dF (uO 33 (.build [.p (.int .i64 0),.p (.int .i64 0),.p (.str []),.p (.str []),.p (.int .i64 0)] [(0,1,(cI 1)),(1,1,25),(2,1,32)])) [25,32],
dA (uO 34 (.box 33)) [33] true [] [3,5],
dT (wO (.mupd (none,[2]) 21 23 34)) [21,23,34]] [])
(.seq (rg [mV 4 (cI 0)] [4])
.ret)))
.skip))
(.seq (.seq (rg [mV 35 5,
uO 36 (.isnil 0 false 35)] [0,3,5,36])
(.cond 36 (.seq (rg [mV 4 (cI 8)] [4])
.ret)
.skip))
(.seq (.seq (rg [fA 37 3 none 3,
lD 38 none 37] [0,3,5,38])
(.block 0 (.seq (rg [bN 40 .eql 38 (cI 2),
mV 39 40] [0,3,5,38,39])
(.cond 39 (.seq (rg [mV 41 0,
mV 42 5,
lD 43 (some 8) 3,
cL 44 z1g [41,42,43],
mV 4 44] [4])
.ret)
(.seq (.seq (rg [bN 46 .eql 38 (cI 3),
mV 45 46] [0,3,5,38,45])
(.cond 45 .skip
(rg [bN 47 .eql 38 (cI 4),
mV 45 47] [0,3,5,38,45])))
q1)))))
q3)))))
def z7F:AFun:=⟨2,[.t 4],z7v zhy zh0,false,false⟩
def zh1:ACode:=.pr [5,6,17,18,19] (rg [bN 59 .add 19 (cI 1),
mV 19 59] [5,6,17,18,19])
def z7y (q1:ACode):ACode:=.pr [5,6,17,18,19] (.seq (rg [bN 20 .lss 19 18] [5,6,17,18,19,20])
(.seq (.cond 20 .skip
(.exit 0))
(.seq (.block 1 (.seq (rg [mV 21 19,
iA 22 (some 8) 17 19,
lD 23 (some 8) 22,
uO 8 (.alloc [.p (.str []),.p (.int .i64 0),.p (.int .i64 0),.p (.int .i64 0),.p (.str []),.p (.str []),.p (.str []),.p (.int .i64 0)]),
mV 7 21,
wO (.store (some 8) 8 23)] [5,6,7,8,17,18,19])
(.seq (.seq (rg [mV 24 6,
mV 25 7,
iA 26 none 24 25,
lD 27 none 26,
uO 28 (.un .not 27),
mV 29 28,
gD 30 29 false (.faddr 3 none 8),
gD 31 29 false (.load none 30),
gD 32 29 false (.bin .eql 31 (cI 7)),
uO 33 (.pick 29 cT 32)] [5,6,7,8,17,18,19,33])
(.cond 33 (.exit 1)
.skip))
(.seq (rg [mV 34 5,
lD 35 (some 8) 8,
cL 36 z1h [34,35],
mV 9 36] [5,6,7,9,17,18,19])
(.seq (rg [mV 37 9,
bN 38 .neq 37 (cI 0)] [5,6,7,9,17,18,19,38])
(.cond 38 (.seq (rg [mV 39 5,
mV 40 5,
uO 41 (.nilchk 40),
fA 42 6 none 41,
lD 43 none 42,
mV 44 7,
uO 45 (.bsl false none 1 (.int .i64 0) [(0,44)]),
uO 46 (.app none 43 45),
uO 47 (.nilchk 39),
fA 48 6 none 47,
wO (.store none 48 46)] [5,6,9,17,18,19])
(rg [mV 49 5,
mV 50 5,
uO 51 (.nilchk 50),
fA 52 7 none 51,
lD 53 none 52,
mV 54 9,
uO 55 (.bsl false none 1 (.int .i64 0) [(0,54)]),
uO 56 (.app none 53 55),
uO 57 (.nilchk 49),
fA 58 7 none 57,
wO (.store none 58 56)] [5,6,17,18,19]))
.skip))))))
q1)))
def zh2:ACode:=z7y zh1
def zh3:ACode:=.pr [5] (.seq (rg [mV 60 5,
mV 4 60] [4])
.ret)
def z7x (q2 q3:ACode):ACode:=(.seq (rg [uO 2 (.uns 12 0 [0]),
mV 4 (.c (.nilp))] [1,2])
(.seq (rg [lD 10 (some 2) 2,
uO 11 (.mkmap),
uO 12 (.mkmap),
uO 13 (.build [.sl0 none,.p (.int .i64 0),.nilm,.nilm,.sl0 (some 5),.sl0 (some 3),.sl0 none,.sl0 none] [(0,2,10),(2,1,11),(3,1,12)]),
uO 14 (.uns 12 0 [13]),
mV 5 14] [1,5])
(.seq (rg [mV 15 1,
cL 16 qH [15],
mV 6 16] [1,5,6])
(.seq (.seq (rg [mV 17 1,
lN 18 17,
mV 19 (cI 0)] [5,6,17,18,19])
(.block 0 (.loop (.scope q2))))
q3))))
def z7G:AFun:=⟨2,[.t 4],z7x zh2 zh3,false,false⟩
end Go.Am
end
section
/- The abstract machine,part L: functions of the library that are met by the kit's contracts: plain values in,plain values out,new memory at most. -/
set_option linter.unusedSimpArgs false
set_option linter.unusedVariables false
namespace Go.Am
variable {P:Program} {gl:Nat→Option PV}
structure PureRow (P:Program) (gl:Nat→Option PV) (f:Nat) (spec:List PV→Option AV):Prop where
 enter:∀us w,(callFunc f us).run P w = .ok (.enter f us) w
 run:∀(M:Mem) (w:World) (vs:List PV) (r:AV) (us:List Value),(∀b o v,M.c b o=some v→w.cell? ⟨b,o,none⟩=some v)→(∀b o,M.b b=some o→w.heap[b]?=some o)→SD gl M→vs.length=us.length →
  (∀(j:Nat) (y:PV) (v:Value),vs[j]?=some y→us[j]?=some v→RPV M y v)→spec vs=some r →
  Calls P f us.toArray w fun e w'=>∃x,e = .returned x∧WExt w w'∧RAV (JG M w w') [] [] r x
abbrev KG:=List (Nat × (List PV→Option AV))
def JK:KG→Nat→List AV→aA→Option (AV×aA×Esc)
 | [],_,_,_=>none
 | (g,s)::r,f,asv,h=>bif Nat.beq f g then((unp asv).bind s).map fun v=>(v,h,[]) else JK r f asv h
theorem fV:∀ (gs:KG),(∀g s,(g,s)∈gs→PureRow P gl g s)→∀{f:Nat} {asv:List AV} {h:aA} {v:AV} {h':aA} {x:Esc},JK gs f asv h=some (v,h',x) →
 DC P gl f asv h fun v1 h1 x1=>v1=v∧h1=h'∧x1=x
 | [],_,f,asv,h,v,h',x,H=>by cases H
 | (g,s)::r,hg,f,asv,h,v,h',x,H=>by
  unfold JK at H;cases e1:Nat.beq f g with
  | false=>
   rw[e1]at H;exact fV r (fun g sh hm=>hg g sh (by simp [hm])) H
  | true=>
   rw[e1]at H;have e:=Nat.eq_of_beq_eq_true e1
   subst e;have R:=hg f s (by simp)
   simp only[cond_true]at H;obtain⟨y,hy,e2⟩:=Option.map_eq_some_iff.1 H;simp only[Prod.mk.injEq]at e2;obtain⟨rfl,rfl,rfl⟩:=e2;obtain⟨ps,hps,hs⟩:=Option.bind_eq_some_iff.1 hy;have hm:=YK hps
   subst hm;intro μ w vs Hh Hg hl hr;refine .inl ⟨R.enter _,?_⟩;refine(R.run (imm h μ w) w ps y vs (fun b o v hv=>(ID.1 hv).2) (fun b o hv=>(uH.1 hv).2) Hg (by simpa using hl) (fun j q v hq hv=>(hr j (.p q) v (by simp [hq]) hv).p_inv) hs).mono fun e w' he=>?_
   obtain⟨u,rfl,g1,g2⟩:=he;obtain⟨n1,n2⟩:=Hh.ext g1;have Lq:(JG (imm h μ w) w w').le (imm h μ w'):=by
    refine⟨fun b o v hv=>?_,fun b o hv=>?_,rfl,fun _ _ h=>by cases h⟩
    ·dsimp only[JG]at hv
     split at hv
     ·exact n2.le.c _ _ _ hv
     ·rename_i hb
      exact ID.2 ⟨fun hO=>hb (yU Hh hO),hv⟩
    ·dsimp only[JG]at hv
     cases hv
   exact⟨_,_,_,μ,⟨rfl,rfl,rfl⟩,g2.evo ⟨Lq,Nat.zero_le _,fun id o m h1=>by simp at h1⟩,n1,n2,AA.refl h []⟩
def wH (gs:List (Nat × Sh))(ps:KG)(f:Nat)(asv:List AV)(h:aA):Option (AV×aA×Esc):=match LJ gs f asv h with
 | some y=>some y
 | none=>match JK ps f asv h with
  | some y=>some y
  | none=>match CA h asv with
   | some (asv',h1)=>JK ps f asv' h1
   | none=>none
theorem zhJ {ps:KG}(hp:∀ g s,(g,s)∈ps→PureRow P gl g s){f:Nat}{asv asv':List AV}{h h1:aA}{v:AV}{h':aA}{x:Esc}(hq:CA h asv=some (asv',h1))(H:JK ps f asv' h1=some (v,h',x)) :
 DC P gl f asv h fun v1 h2 x1=>v1=v∧h2=h'∧x1=x:=by
 intro μ w vs Hh Hg hl hr;obtain⟨q1,q2,q3⟩:=iQ asv Hh hl hr hq;rcases fV ps hp H μ w vs q1.1 (Hg.mono q1.2.1.le) q2 q3 with⟨k1,k2⟩|⟨r,w',v2,h2,x2,μ',k1,k2,k3,k4,k5,k6⟩
 ·refine .inl ⟨k1,k2.mono fun e w' he=>?_⟩
  cases e with
  | returned r=>
   obtain⟨v2,h2,x2,μ',k2,k3,k4,k5,k6⟩:=he;exact⟨v2,h2,x2,μ',k2,k3,k4,q1.2.1.trans k5,by simpa using q1.2.2.trans k6⟩
  | panicked _=>exact he
  | outgrown=>exact he
 ·exact .inr ⟨r,w',v2,h2,x2,μ',k1,k2,k3,k4,q1.2.1.trans k5,by simpa using q1.2.2.trans k6⟩
theorem libF_ok {gs:List (Nat × Sh)}{ps:KG}(hg:∀ g sh,(g,sh)∈gs→GrowRow P g sh)(hp:∀ g s,(g,s)∈ps→PureRow P gl g s){f:Nat}{asv:List AV}{h:aA}{v:AV}{h':aA}{x:Esc}(H:wH gs ps f asv h=some (v,h',x)) :
 DC P gl f asv h fun v1 h1 x1=>v1=v∧h1=h'∧x1=x:=by
 unfold wH at H;split at H
 ·rename_i y hy
  cases H;exact z1N gs hg hy
 ·split at H
  ·rename_i y hy
   cases H;exact fV ps hp hy
  ·split at H
   ·rename_i asv' h1 hq
    exact zhJ hp hq H
   ·cases H
theorem fU {X:Ctx}{f:Nat}{asv:List AV}{h h':aA}{v:AV}{x:Esc}{K:jA}(hf:X.fn f=none)(hx:X.ex2 f asv h=some (v,h',x)):cA X f asv h K=K v h' x:=by
 refine propext (cA.eq (cA.fold ?_) K);unfold oC;simp only[hf,hx];exact⟨trivial,trivial,trivial⟩
def UO:List (Nat × Sh)→Nat→Option Sh
 | [],_=>none
 | (g,s)::r,f=>bif Nat.beq f g then some s else UO r f
theorem z1M:∀ {gs:List (Nat × Sh)}{f:Nat}{sh s':Sh}{n:Int}{h:aA},UO gs f=some sh→0≤n→n≤1048576→LJ gs f [.sl0 s',.p (.int .i64 n)] h=some (.own h.length 0 0 0,h++[.row sh [] 0],[])
 | [],f,sh,s',n,h,hm,_,_=>by cases hm
 | (g,s)::r,f,sh,s',n,h,hm,h0,h1=>by
  unfold UO at hm;unfold LJ;cases hq:Nat.beq f g with
  | true=>rw[hq]at hm;cases hm;simp [h0,h1]
  | false=>rw[hq]at hm;exact z1M hm h0 h1
theorem z2h {gs:List (Nat × Sh)}{ps:KG}{f:Nat}{sh s':Sh}{n:Int}{h:aA}(hm:UO gs f=some sh)(h0:0≤n)(h1:n≤1048576):wH gs ps f [.sl0 s',.p (.int .i64 n)] h=some (.own h.length 0 0 0,h++[.row sh [] 0],[]):=by
 unfold wH;rw[z1M hm h0 h1]
def glOf:List (Nat × PV)→Nat→Option PV
 | [],_=>none
 | (g,v)::r,n=>bif Nat.beq n g then some v else glOf r n
theorem zl4 {f:Nat}(h:(match P.funcs[f]? with | some fn=>fn.body.isSome&&fn.name != "runtime.NumGoroutine" | none=>false)=true)(us:Array Value)(w:World):(callFunc f us).run P w = .ok (.enter f us) w:=by
 cases hf:P.funcs[f]? with
 | none=>rw[hf]at h;cases h
 | some fn=>
  rw[hf]at h;simp only[Bool.and_eq_true,bne_iff_ne,ne_eq]at h;cases hb:fn.body with
  | none=>rw[hb]at h;cases h.1
  | some c=>exact DO hf hb h.2 us w
theorem zl6 {M:Mem}:SD (glOf []) M:=fun n v hv=>by cases hv
end Go.Am
end
section
/- The abstract machine,part C: pC calls that say true,asv contracts. -/
set_option linter.all false
namespace Go.Am
variable {P:Program} {gl:Nat→Option PV}
def RV:List PV→Option AV
 | []=>some (AB true)
 | _=>none
theorem RPV.mono' {M M':Mem}(hM:∀ b o v,M.c b o=some v→M'.c b o=some v){v:PV}{x:Value}(H:RPV M v x):RPV M' v x:=by
 induction H with
 | int k n=>exact .int k n
 | bool b=>exact .bool b
 | str s=>exact .str s
 | nilp=>exact .nilp
 | unk k n=>exact .unk k n
 | nils sh a cap=>exact .nils sh a cap
 | sl sh xs b o cap f hne hc he hm hr ih=>exact .sl sh xs b o cap f hne hc he (fun j y hy=>hM _ _ _ (hm j y hy)) ih
 | agg cs vs hl hr ih=>exact .agg cs vs hl ih
theorem SD.mono' {M M':Mem}(hc:∀ b o v,M.c b o=some v→M'.c b o=some v)(hb:∀ b o,M.b b=some o→M'.b b=some o)(H:SD gl M):SD gl M':=fun n v hv=>by
 obtain⟨h1,cs,t,x,h2,h3⟩:=H n v hv;refine⟨?_,cs,t,x,hb _ _ h2,h3⟩;cases h1 with|vp _ _ _ f hm hr=>exact .vp v n 0 f (fun j y hy=>hc _ _ _ (hm j y hy)) (fun j y hy=>(hr j y hy).mono' hc)
theorem zl7 {X:Ctx}(HX:Fits P X){f:Nat}(H:cA X f [] [] fun v h x=>v=AB true∧h=[]∧x=[])(he:∀ us w,(callFunc f us).run P w = .ok (.enter f us) w):PureRow P X.gl f RV:=by
 refine⟨he,fun M w vs r us hc hb hG hl hr hs=>?_⟩
 cases vs with
 | cons a l=>cases hs
 | nil=>
  have hu:us=[]:=List.length_eq_zero_iff.1 (by simpa using hl.symm)
  subst hu;simp only[RV,Option.some.injEq]at hs;subst hs;have hno:∀b o,¬ZF ([]:aA) ([]:Mu) b o:=fun b o ⟨id,n,h1,_⟩=>by simp at h1
  have hnt:∀b,¬QI ([]:Mu) b:=fun b ⟨id,n,h1⟩=>by simp at h1
  have hG':SD X.gl (imm [] [] w):=hG.mono' (fun b o v h=>ID.2 ⟨hno b o,hc b o v h⟩) (fun b o h=>uH.2 ⟨hnt b,hb b o h⟩)
  have hR:HeapRel [] [] w:=⟨rfl,fun id o m h1=>by simp at h1,fun i j b n n' h1=>by simp at h1,fun i b n h1=>by simp at h1⟩
  rcases CY HX H [] w [] hR hG' rfl (fun j y v h1=>by simp at h1) with⟨_,q⟩|⟨r,w',v,h',x,μ',q,_⟩
  ·refine q.mono fun e w' h=>?_
   cases e with
   | panicked _=>exact h.elim
   | outgrown=>exact h.elim
   | returned r=>
    obtain⟨v,h',x,μ',⟨rfl,rfl,rfl⟩,h1,h2,h3,h4⟩:=h;have hm:μ'=[]:=List.length_eq_zero_iff.1 (by simpa using h2.len)
    subst hm;have hbl:∀b o,w.heap[b]?=some o→w'.heap[b]?=some o:=fun b o h=>(uH.1 (h3.le.b b o (uH.2 ⟨hnt b,h⟩))).2
    refine⟨r,rfl,⟨?_,fun b hb=>?_,?_⟩,?_⟩
    ·rcases Nat.lt_or_ge w'.heap.size w.heap.size with q|q
     ·have:=hbl w'.heap.size _ (Array.getElem?_eq_getElem q)
      simp at this
     ·exact q
    ·rw[hbl b _ (Array.getElem?_eq_getElem hb),Array.getElem?_eq_getElem hb]
    ·have:=h3.le.z
     simpa [imm] using this
    ·have:=h1.p_bool
     rw[this];exact .p _ _ (.bool true)
  ·rw[he]at q
   cases q
end Go.Am
end
