/- Texts of the proof, laid together: CodesC, CodesD. -/
import Derived.KernelRfl
import Derived.Test.YtddfpebjibeclaaGreatDoorlawCS4
set_option linter.all false
section
/- The functions asv abstract code,and asv formulas over their values: printed by program out of the translation. -/
set_option linter.unusedVariables false
set_option maxRecDepth 100000
namespace Go.Am
def HK:ACode:=.pr [1,15,16,17] (.seq (rg [bN 18 .lss 17 16] [1,15,16,17,18])
(.seq (.cond 18 .skip
(.exit 0))
(.seq (.block 1 (.seq (rg [mV 19 17,
iA 20 (some 2) 15 17,
lD 21 (some 2) 20,
uO 4 (.alloc [.p (.str []),.sl0 (some 4)]),
mV 3 19,
wO (.store (some 2) 4 21)] [1,3,4,15,16,17])
(.seq (.block 2 (.seq (rg [fA 23 0 none 4,
lD 24 none 23,
cL 25 wD [24],
uO 26 (.un .not 25),
mV 22 26] [1,3,4,15,16,17,22])
(.cond 22 (.seq (rg [mV 2 (cI 5)] [2])
.ret)
(.seq (dr [dF (mV 28 3) [3],
dF (bN 29 .gtr 28 (cI 0)) [28],
dF (mV 30 29) [29],
dF (gD 31 30 true (.faddr 0 none 4)) [4,30],
dF (gD 32 30 true (.load none 31)) [31,30],
dF (gD 33 30 true (.faddr 0 none 1)) [1,30],
dF (gD 34 30 true (.load none 33)) [33,30],
dF (gD 35 30 true (.mv 3)) [3,30],
dF (gD 36 30 true (.bin .sub 35 (cI 1))) [35,30],
dF (gD 37 30 true (.iaddr (some 2) 34 36)) [34,36,30],
dF (gD 38 30 true (.faddr 0 none 37)) [37,30],
dF (gD 39 30 true (.load none 38)) [38,30],
dF (gD 40 30 true (.bin .leq 32 39)) [32,39,30],
dF (uO 41 (.pick 30 40 cF)) [30,40],
dF (mV 27 41) [41]] [1,4,15,16,17,27])
(.cond 27 (.seq (rg [mV 2 (cI 7)] [2])
.ret)
.skip)))))
(.seq (rg [lD 42 (some 2) 4,
cL 43 lI [42],
mV 5 43] [1,5,15,16,17])
(.seq (rg [mV 44 5,
bN 45 .neq 44 (cI 0)] [1,5,15,16,17,45])
(.cond 45 (.seq (rg [mV 46 5,
mV 2 46] [2])
.ret)
.skip))))))
(rg [bN 47 .add 17 (cI 1),
mV 17 47] [1,15,16,17]))))
def z2J (C:Hd)(gl:GL)(v1 v15 v16 v17:AV)(h:bA)(x:Esc)(K:KT):Prop:=
 pK (eA .lss v17 v16) fun t1=>
 nA t1 (pK (uA (some 2) v15 v17 h) fun t2=>
 pK (kA (some 2) t2 h) fun t3=>
 alK [.p (.str []),.sl0 (some 4)] h fun t4 h5 y6=>
 wK (RA (some 2) t4 t3 h5) fun t7 h8 y9=>
 pK (oA 0 none t4) fun t10=>
 pK (kA none t10 h8) fun t11=>
 C wD [t11] h8 fun t12 h13 y14=>
 pK (oUn .not t12) fun t15=>
 nA t15 (K .ret ⟨[(2,(AI 5))],h13,(y14++(y9++(y6++x)))⟩)
 (pK (eA .gtr v17 (AI 0)) fun t16=>
 gP t16 true (oA 0 none t4) h13 fun t17 h18 y19=>
 gP t16 true (kA none t17 h18) h18 fun t20 h21 y22=>
 gP t16 true (oA 0 none v1) h21 fun t23 h24 y25=>
 gP t16 true (kA none t23 h24) h24 fun t26 h27 y28=>
 gM t16 true v17 h27 fun t29 h30 y31=>
 gP t16 true (eA .sub t29 (AI 1)) h30 fun t32 h33 y34=>
 gP t16 true (uA (some 2) t26 t32 h33) h33 fun t35 h36 y37=>
 gP t16 true (oA 0 none t35) h36 fun t38 h39 y40=>
 gP t16 true (kA none t38 h39) h39 fun t41 h42 y43=>
 gP t16 true (eA .leq t20 t41) h42 fun t44 h45 y46=>
 pK (LA t16 t44 (AB false)) fun t47=>
 nA t47 (K .ret ⟨[(2,(AI 7))],h45,(y46++(y43++(y40++(y37++(y34++(y31++(y28++(y25++(y22++(y19++(y14++(y9++(y6++x)))))))))))))⟩)
 (pK (kA (some 2) t4 h45) fun t48=>
 C lI [t48] h45 fun t49 h50 y51=>
 pK (eA .neq t49 (AI 0)) fun t52=>
 nA t52 (K .ret ⟨[(2,t49)],h50,(y51++(y46++(y43++(y40++(y37++(y34++(y31++(y28++(y25++(y22++(y19++(y14++(y9++(y6++x))))))))))))))⟩)
 (pK (eA .add v17 (AI 1)) fun t53=>
 K .normal ⟨[(1,v1),(15,v15),(16,v16),(17,t53)],h50,(y51++(y46++(y43++(y40++(y37++(y34++(y31++(y28++(y25++(y22++(y19++(y14++(y9++(y6++x))))))))))))))⟩))))
 (K (.exit 0) ⟨[(1,v1),(15,v15),(16,v16),(17,v17),(18,t1)],h,x⟩)
theorem zhk {C gl e h x K}:NW C gl HK ⟨e,h,x⟩ K=z2J C gl (aA e 1) (aA e 15) (aA e 16) (aA e 17) h x K:=by kernel_rfl
theorem zmm {C gl e h x K}:NW C gl (.loop (.scope HK)) ⟨e,h,x⟩ K=FA C gl (.scope HK) K [(1,aA e 1),(15,aA e 15),(16,aA e 16),(17,aA e 17)] h x:=RB
def nN:ACode:=.pr [1,7,59,60,61] (.seq (rg [bN 62 .lss 61 60] [1,7,59,60,61,62])
(.seq (.cond 62 .skip
(.exit 3))
(.seq (.block 4 (.seq (rg [mV 63 61,
iA 64 (some 2) 59 61,
lD 65 (some 2) 64,
uO 9 (.alloc [.p (.str []),.p (.int .i64 0)]),
mV 8 63,
wO (.store (some 2) 9 65)] [1,7,8,9,59,60,61])
(.block 5 (.seq (rg [mV 67 7,
fA 68 0 none 9,
lD 69 none 68,
cL 70 nE [67,69],
uO 71 (.un .not 70),
mV 66 71] [1,7,8,9,59,60,61,66])
(.cond 66 (.seq (rg [mV 2 (cI 8)] [2])
.ret)
(.seq (rg [fA 73 1 none 9,
lD 74 none 73,
cL 75 fC [74,(cI 0),(cI 1)],
mV 72 75] [1,7,8,9,59,60,61,72])
(.cond 72 (.seq (rg [mV 2 (cI 1)] [2])
.ret)
(.seq (dr [dF (mV 77 8) [8],
dF (bN 78 .gtr 77 (cI 0)) [77],
dF (mV 79 78) [78],
dF (gD 80 79 true (.faddr 0 none 9)) [9,79],
dF (gD 81 79 true (.load none 80)) [80,79],
dF (gD 82 79 true (.faddr 2 none 1)) [1,79],
dF (gD 83 79 true (.load none 82)) [82,79],
dF (gD 84 79 true (.mv 8)) [8,79],
dF (gD 85 79 true (.bin .sub 84 (cI 1))) [84,79],
dF (gD 86 79 true (.iaddr (some 2) 83 85)) [83,85,79],
dF (gD 87 79 true (.faddr 0 none 86)) [86,79],
dF (gD 88 79 true (.load none 87)) [87,79],
dF (gD 89 79 true (.bin .leq 81 88)) [81,88,79],
dF (uO 90 (.pick 79 89 cF)) [79,89],
dF (mV 76 90) [90]] [1,7,59,60,61,76])
(.cond 76 (.seq (rg [mV 2 (cI 7)] [2])
.ret)
.skip)))))))))
(rg [bN 91 .add 61 (cI 1),
mV 61 91] [1,7,59,60,61]))))
def z2K (C:Hd)(gl:GL)(v1 v7 v59 v60 v61:AV)(h:bA)(x:Esc)(K:KT):Prop:=
 pK (eA .lss v61 v60) fun t1=>
 nA t1 (pK (uA (some 2) v59 v61 h) fun t2=>
 pK (kA (some 2) t2 h) fun t3=>
 alK [.p (.str []),.p (.int .i64 0)] h fun t4 h5 y6=>
 wK (RA (some 2) t4 t3 h5) fun t7 h8 y9=>
 pK (oA 0 none t4) fun t10=>
 pK (kA none t10 h8) fun t11=>
 C nE [v7,t11] h8 fun t12 h13 y14=>
 pK (oUn .not t12) fun t15=>
 nA t15 (K .ret ⟨[(2,(AI 8))],h13,(y14++(y9++(y6++x)))⟩)
 (pK (oA 1 none t4) fun t16=>
 pK (kA none t16 h13) fun t17=>
 C fC [t17,(AI 0),(AI 1)] h13 fun t18 h19 y20=>
 nA t18 (K .ret ⟨[(2,(AI 1))],h19,(y20++(y14++(y9++(y6++x))))⟩)
 (pK (eA .gtr v61 (AI 0)) fun t21=>
 gP t21 true (oA 0 none t4) h19 fun t22 h23 y24=>
 gP t21 true (kA none t22 h23) h23 fun t25 h26 y27=>
 gP t21 true (oA 2 none v1) h26 fun t28 h29 y30=>
 gP t21 true (kA none t28 h29) h29 fun t31 h32 y33=>
 gM t21 true v61 h32 fun t34 h35 y36=>
 gP t21 true (eA .sub t34 (AI 1)) h35 fun t37 h38 y39=>
 gP t21 true (uA (some 2) t31 t37 h38) h38 fun t40 h41 y42=>
 gP t21 true (oA 0 none t40) h41 fun t43 h44 y45=>
 gP t21 true (kA none t43 h44) h44 fun t46 h47 y48=>
 gP t21 true (eA .leq t25 t46) h47 fun t49 h50 y51=>
 pK (LA t21 t49 (AB false)) fun t52=>
 nA t52 (K .ret ⟨[(2,(AI 7))],h50,(y51++(y48++(y45++(y42++(y39++(y36++(y33++(y30++(y27++(y24++(y20++(y14++(y9++(y6++x))))))))))))))⟩)
 (pK (eA .add v61 (AI 1)) fun t53=>
 K .normal ⟨[(1,v1),(7,v7),(59,v59),(60,v60),(61,t53)],h50,(y51++(y48++(y45++(y42++(y39++(y36++(y33++(y30++(y27++(y24++(y20++(y14++(y9++(y6++x))))))))))))))⟩))))
 (K (.exit 3) ⟨[(1,v1),(7,v7),(59,v59),(60,v60),(61,v61),(62,t1)],h,x⟩)
theorem zhl {C gl e h x K}:NW C gl nN ⟨e,h,x⟩ K=z2K C gl (aA e 1) (aA e 7) (aA e 59) (aA e 60) (aA e 61) h x K:=by kernel_rfl
theorem zmn {C gl e h x K}:NW C gl (.loop (.scope nN)) ⟨e,h,x⟩ K=FA C gl (.scope nN) K [(1,aA e 1),(7,aA e 7),(59,aA e 59),(60,aA e 60),(61,aA e 61)] h x:=RB
def oX:ACode:=.pr [] (.seq (rg [mV 2 (cI 0)] [2])
.ret)
def z2L (C:Hd)(gl:GL)(h:bA)(x:Esc)(K:KT):Prop:=
 K .ret ⟨[(2,(AI 0))],h,x⟩
theorem zhm {C gl e h x K}:NW C gl oX ⟨e,h,x⟩ K=z2L C gl h x K:=by kernel_rfl
def KZ (q2 q3:ACode):ACode:=.pr [1] (.seq (.seq (rg [lD 48 (some 3) 1,
cL 49 nI [48],
mV 6 49] [1,6])
(.seq (rg [mV 50 6,
bN 51 .neq 50 (cI 0)] [1,6,51])
(.cond 51 (.seq (rg [mV 52 6,
mV 2 52] [2])
.ret)
.skip)))
(.seq (rg [lD 53 (some 3) 1,
cL 54 xD [53],
mV 7 54] [1,7])
(.seq (.seq (rg [mV 55 7,
lN 56 55,
bN 57 .gtr 56 (cI 100)] [1,7,57])
(.cond 57 (.seq (rg [mV 2 (cI 2)] [2])
.ret)
.skip))
(.seq (.seq (rg [fA 58 2 none 1,
lD 59 none 58,
lN 60 59,
mV 61 (cI 0)] [1,7,59,60,61])
(.block 3 (.loop (.scope q2))))
q3))))
def oN:ACode:=KZ nN oX
def vJ (C:Hd)(gl:GL)(q2 q3:ACode)(v1:AV)(h:bA)(x:Esc)(K:KT):Prop:=
 pK (kA (some 3) v1 h) fun t1=>
 C nI [t1] h fun t2 h3 y4=>
 pK (eA .neq t2 (AI 0)) fun t5=>
 nA t5 (K .ret ⟨[(2,t2)],h3,(y4++x)⟩)
 (pK (kA (some 3) v1 h3) fun t6=>
 C xD [t6] h3 fun t7 h8 y9=>
 pK (yA t7) fun t10=>
 pK (eA .gtr t10 (AI 100)) fun t11=>
 nA t11 (K .ret ⟨[(2,(AI 2))],h8,(y9++(y4++x))⟩)
 (pK (oA 2 none v1) fun t12=>
 pK (kA none t12 h8) fun t13=>
 pK (yA t13) fun t14=>
 NW C gl (.loop (.scope q2)) ⟨[(1,v1),(7,t7),(59,t13),(60,t14),(61,(AI 0))],h8,(y9++(y4++x))⟩ (wA 3 (OA C gl q3 K))))
theorem z9y {C gl q2 q3 e h x K}:NW C gl (KZ q2 q3) ⟨e,h,x⟩ K=vJ C gl q2 q3 (aA e 1) h x K:=by kernel_rfl
theorem eW {C gl e h x K}:NW C gl oN ⟨e,h,x⟩ K=vJ C gl nN oX (aA e 1) h x K:=z9y
def JZ (q1 q4:ACode):ACode:=(.seq (rg [uO 1 (.box 0),
mV 2 (cI 0)] [1])
(.seq (.seq (rg [fA 10 0 none 1,
lD 11 none 10,
lN 12 11,
bN 13 .gtr 12 (cI 40)] [1,13])
(.cond 13 (.seq (rg [mV 2 (cI 2)] [2])
.ret)
.skip))
(.seq (.seq (rg [fA 14 0 none 1,
lD 15 none 14,
lN 16 15,
mV 17 (cI 0)] [1,15,16,17])
(.block 0 (.loop (.scope q1))))
q4)))
def yO:AFun:=⟨1,[.t 2],JZ HK oN,false,false⟩
def kM (C:Hd)(gl:GL)(q1 q4:ACode)(v0:AV)(h:bA)(x:Esc)(K:KT):Prop:=
 wK (qB v0 h) fun t1 h2 y3=>
 pK (oA 0 none t1) fun t4=>
 pK (kA none t4 h2) fun t5=>
 pK (yA t5) fun t6=>
 pK (eA .gtr t6 (AI 40)) fun t7=>
 nA t7 (K .ret ⟨[(2,(AI 2))],h2,(y3++x)⟩)
 (pK (oA 0 none t1) fun t8=>
 pK (kA none t8 h2) fun t9=>
 pK (yA t9) fun t10=>
 NW C gl (.loop (.scope q1)) ⟨[(1,t1),(15,t9),(16,t10),(17,(AI 0))],h2,(y3++x)⟩ (wA 0 (OA C gl q4 K)))
theorem z9x {C gl q1 q4 v0 h x K}:NW C gl (JZ q1 q4) ⟨enter [v0],h,x⟩ K=kM C gl q1 q4 v0 h x K:=by kernel_rfl
theorem zhj {C gl v0 h x K}:NW C gl yO.body ⟨enter [v0],h,x⟩ K=kM C gl HK oN v0 h x K:=z9x
def cY:ACode:=.pr [0,1,5,6] (rg [mV 20 6,
bN 21 .add 20 (cI 1),
mV 6 21] [0,1,5,6])
def z4a (C:Hd)(gl:GL)(v0 v1 v5 v6:AV)(h:bA)(x:Esc)(K:KT):Prop:=
 pK (eA .add v6 (AI 1)) fun t1=>
 K .normal ⟨[(0,v0),(1,v1),(5,v5),(6,t1)],h,x⟩
theorem zjT {C gl e h x K}:NW C gl cY ⟨e,h,x⟩ K=z4a C gl (aA e 0) (aA e 1) (aA e 5) (aA e 6) h x K:=by kernel_rfl
def z0P (q1:ACode):ACode:=.pr [0,1,5,6] (.seq (.seq (rg [mV 16 6,
mV 17 0,
lN 18 17,
bN 19 .lss 16 18] [0,1,5,6,19])
(.cond 19 .skip
(.exit 0)))
(.seq (.block 1 (.seq (rg [mV 22 0,
mV 23 6,
iA 24 none 22 23,
lD 25 none 24,
mV 7 25] [0,1,5,6,7])
(.seq (rg [mV 26 1,
mV 27 7,
uO 28 (.callv 26 [27]),
uO 29 (.un .not 28)] [0,1,5,6,7,29])
(.cond 29 (.seq (rg [mV 30 0,
mV 31 5,
mV 32 7,
iA 33 none 30 31,
wO (.store none 33 32)] [0,1,5,6])
(rg [mV 34 5,
bN 35 .add 34 (cI 1),
mV 5 35] [0,1,5,6]))
.skip))))
q1))
def qL:ACode:=z0P cY
def LV (C:Hd)(gl:GL)(q1:ACode)(v0 v1 v5 v6:AV)(h:bA)(x:Esc)(K:KT):Prop:=
 pK (yA v0) fun t1=>
 pK (eA .lss v6 t1) fun t2=>
 nA t2 (pK (uA none v0 v6 h) fun t3=>
 pK (kA none t3 h) fun t4=>
 bF C v1 [t4] h fun t5 h6 y7=>
 pK (oUn .not t5) fun t8=>
 nA t8 (pK (uA none v0 v5 h6) fun t9=>
 wK (RA none t9 t4 h6) fun t10 h11 y12=>
 pK (eA .add v5 (AI 1)) fun t13=>
 NW C gl q1 ⟨[(0,v0),(1,v1),(5,t13),(6,v6)],h11,(y12++(y7++x))⟩ K)
 (NW C gl q1 ⟨[(0,v0),(1,v1),(5,v5),(6,v6),(7,t4),(29,t8)],h6,(y7++x)⟩ K))
 (K (.exit 0) ⟨[(0,v0),(1,v1),(5,v5),(6,v6),(19,t2)],h,x⟩)
theorem za3 {C gl q1 e h x K}:NW C gl (z0P q1) ⟨e,h,x⟩ K=LV C gl q1 (aA e 0) (aA e 1) (aA e 5) (aA e 6) h x K:=by kernel_rfl
theorem zjU {C gl e h x K}:NW C gl qL ⟨e,h,x⟩ K=LV C gl cY (aA e 0) (aA e 1) (aA e 5) (aA e 6) h x K:=za3
theorem zmY {C gl e h x K}:NW C gl (.loop qL) ⟨e,h,x⟩ K=FA C gl qL K [(0,aA e 0),(1,aA e 1),(5,aA e 5),(6,aA e 6)] h x:=NB
def WR:ACode:=.pr [0,5] (.seq (rg [mV 36 0,
mV 37 5,
uO 38 (.slice none 36 (some 37) none none),
wO (.clr none (.str []) 38)] [0,5])
(.seq (rg [mV 39 0,
mV 40 5,
uO 41 (.slice none 39 none (some 40) none),
mV 4 41] [4])
.ret))
def z4b (C:Hd)(gl:GL)(v0 v5:AV)(h:bA)(x:Esc)(K:KT):Prop:=
 pK (qE none v0 (some v5) none none h) fun t1=>
 wK (oClr none (.str []) t1 h) fun t2 h3 y4=>
 pK (qE none v0 none (some v5) none h3) fun t5=>
 K .ret ⟨[(4,t5)],h3,(y4++x)⟩
theorem zjV {C gl e h x K}:NW C gl WR ⟨e,h,x⟩ K=z4b C gl (aA e 0) (aA e 5) h x K:=by kernel_rfl
def z0O (q2 q3:ACode):ACode:=(.seq (rg [mV 4 (.c (.p (.sl none [])))] [0,1])
(.seq (rg [mV 8 0,
mV 9 1,
cL 10 jK [8,9],
mV 5 10] [0,1,5])
(.seq (.seq (rg [mV 11 5,
bN 12 .eql 11 (cI (-1))] [0,1,5,12])
(.cond 12 (.seq (rg [mV 13 0,
mV 4 13] [4])
.ret)
.skip))
(.seq (.seq (rg [mV 14 5,
bN 15 .add 14 (cI 1),
mV 6 15] [0,1,5,6])
(.block 0 (.loop q2)))
q3))))
def aU:AFun:=⟨2,[.t 4],z0O qL WR,true,false⟩
def nQ (C:Hd)(gl:GL)(q2 q3:ACode)(v0 v1:AV)(h:bA)(x:Esc)(K:KT):Prop:=
 C jK [v0,v1] h fun t1 h2 y3=>
 pK (eA .eql t1 (AI (-1))) fun t4=>
 nA t4 (K .ret ⟨[(4,v0)],h2,(y3++x)⟩)
 (pK (eA .add t1 (AI 1)) fun t5=>
 NW C gl (.loop q2) ⟨[(0,v0),(1,v1),(5,t1),(6,t5)],h2,(y3++x)⟩ (wA 0 (OA C gl q3 K)))
theorem za2 {C gl q2 q3 v0 v1 h x K}:NW C gl (z0O q2 q3) ⟨enter [v0,v1],h,x⟩ K=nQ C gl q2 q3 v0 v1 h x K:=by kernel_rfl
theorem zjS {C gl v0 v1 h x K}:NW C gl aU.body ⟨enter [v0,v1],h,x⟩ K=nQ C gl qL WR v0 v1 h x K:=za2
def zbe:ACode:=(.seq (rg [mV 3 cF] [0,1])
(.seq (rg [lD 4 none 1,
mV 5 0,
uO 6 (.look (none,[2]) false (AI 0) 4 5),
bN 7 .neq 6 (cI 3),
mV 3 7] [3])
.ret))
def ZS:AFun:=⟨2,[.t 3],zbe,false,false⟩
def QU (C:Hd)(gl:GL)(v0 v1:AV)(h:bA)(x:Esc)(K:KT):Prop:=
 pK (kA none v1 h) fun t1=>
 pK (YA (none,[2]) false (AI 0) t1 v0 h) fun t2=>
 pK (eA .neq t2 (AI 3)) fun t3=>
 K .ret ⟨[(3,t3)],h,x⟩
theorem zho {C gl v0 v1 h x K}:NW C gl ZS.body ⟨enter [v0,v1],h,x⟩ K=QU C gl v0 v1 h x K:=by kernel_rfl
def pX:ACode:=.pr [1,5,6,7,8,17,18,19,25,26,27] (rg [bN 57 .add 27 (cI 1),
mV 27 57] [1,5,6,7,8,17,18,19,25,26,27])
def z2P (C:Hd)(gl:GL)(v1 v5 v6 v7 v8 v17 v18 v19 v25 v26 v27:AV)(h:bA)(x:Esc)(K:KT):Prop:=
 pK (eA .add v27 (AI 1)) fun t1=>
 K .normal ⟨[(1,v1),(5,v5),(6,v6),(7,v7),(8,v8),(17,v17),(18,v18),(19,v19),(25,v25),(26,v26),(27,t1)],h,x⟩
theorem zhy {C gl e h x K}:NW C gl pX ⟨e,h,x⟩ K=z2P C gl (aA e 1) (aA e 5) (aA e 6) (aA e 7) (aA e 8) (aA e 17) (aA e 18) (aA e 19) (aA e 25) (aA e 26) (aA e 27) h x K:=by kernel_rfl
def OZ (q1:ACode):ACode:=.pr [1,5,6,7,8,17,18,19,25,26,27] (.seq (rg [bN 28 .lss 27 26] [1,5,6,7,8,17,18,19,25,26,27,28])
(.seq (.cond 28 .skip
(.exit 2))
(.seq (.block 3 (.seq (rg [mV 29 27,
iA 30 (some 4) 25 27,
lD 31 (some 4) 30,
uO 10 (.alloc [.p (.int .i64 0),.p (.str []),.p (.int .i64 0),.p (.int .i64 0)]),
mV 9 29,
wO (.store (some 4) 10 31)] [1,5,6,7,8,9,10,17,18,19,25,26,27])
(.seq (.seq (rg [fA 32 0 none 10,
lD 33 none 32,
mV 34 1,
bN 35 .neq 33 34] [1,5,6,7,8,9,10,17,18,19,25,26,27,35])
(.cond 35 (.exit 3)
.skip))
(.seq (rg [mV 37 5,
fA 38 0 none 8,
lD 39 none 38,
fA 40 1 none 10,
lD 41 none 40,
uO 42 (.build [.p (.str []),.p (.str [])] [(0,1,39),(1,1,41)]),
uO 43 (.look ((some 2),[2,2]) true (.p (.str [])) 37 42),
mV 36 43,
eX 44 36 0,
eX 45 36 1,
mV 11 44,
mV 12 45] [1,5,6,7,8,9,11,12,17,18,19,25,26,27])
(.seq (rg [mV 46 12] [1,5,6,7,8,9,11,17,18,19,25,26,27,46])
(.cond 46 (rg [mV 47 6,
mV 48 11,
mV 49 6,
mV 50 11,
uO 51 (.look (none,[2]) false (.sl0 (some 2)) 49 50),
mV 52 7,
mV 53 9,
uO 54 (.build [.p (.int .i64 0),.p (.int .i64 0)] [(0,1,52),(1,1,53)]),
uO 55 (.bsl false (some 2) 1 (.agg [.int .i64 0,.int .i64 0]) [(0,54)]),
uO 56 (.app (some 2) 51 55),
wO (.mupd (none,[2]) 47 48 56)] [1,5,6,7,8,17,18,19,25,26,27])
.skip))))))
q1)))
def JK:ACode:=OZ pX
def TU (C:Hd)(gl:GL)(q1:ACode)(v1 v5 v6 v7 v8 v17 v18 v19 v25 v26 v27:AV)(h:bA)(x:Esc)(K:KT):Prop:=
 pK (eA .lss v27 v26) fun t1=>
 nA t1 (pK (uA (some 4) v25 v27 h) fun t2=>
 pK (kA (some 4) t2 h) fun t3=>
 alK [.p (.int .i64 0),.p (.str []),.p (.int .i64 0),.p (.int .i64 0)] h fun t4 h5 y6=>
 wK (RA (some 4) t4 t3 h5) fun t7 h8 y9=>
 pK (oA 0 none t4) fun t10=>
 pK (kA none t10 h8) fun t11=>
 pK (eA .neq t11 v1) fun t12=>
 nA t12 (NW C gl q1 ⟨[(1,v1),(5,v5),(6,v6),(7,v7),(8,v8),(9,v27),(10,t4),(17,v17),(18,v18),(19,v19),(25,v25),(26,v26),(27,v27),(35,t12)],h8,(y9++(y6++x))⟩ K)
 (pK (oA 0 none v8) fun t13=>
 pK (kA none t13 h8) fun t14=>
 pK (oA 1 none t4) fun t15=>
 pK (kA none t15 h8) fun t16=>
 pK (DB [.p (.str []),.p (.str [])] [(0,1,t14),(1,1,t16)]) fun t17=>
 pK (YA ((some 2),[2,2]) true (.p (.str [])) v5 t17 h8) fun t18=>
 pK (MB t18 0) fun t19=>
 pK (MB t18 1) fun t20=>
 nA t20 (pK (YA (none,[2]) false (.sl0 (some 2)) v6 t19 h8) fun t21=>
 pK (DB [.p (.int .i64 0),.p (.int .i64 0)] [(0,1,v7),(1,1,v27)]) fun t22=>
 wK (aB false (some 2) 1 (.agg [.int .i64 0,.int .i64 0]) [(0,t22)] h8) fun t23 h24 y25=>
 wK (WC (some 2) t21 t23 h24) fun t26 h27 y28=>
 wK (bB (none,[2]) v6 t19 t26 h27) fun t29 h30 y31=>
 NW C gl q1 ⟨[(1,v1),(5,v5),(6,v6),(7,v7),(8,v8),(17,v17),(18,v18),(19,v19),(25,v25),(26,v26),(27,v27)],h30,(y31++(y28++(y25++(y9++(y6++x)))))⟩ K)
 (NW C gl q1 ⟨[(1,v1),(5,v5),(6,v6),(7,v7),(8,v8),(9,v27),(11,t19),(17,v17),(18,v18),(19,v19),(25,v25),(26,v26),(27,v27),(46,t20)],h8,(y9++(y6++x))⟩ K)))
 (K (.exit 2) ⟨[(1,v1),(5,v5),(6,v6),(7,v7),(8,v8),(17,v17),(18,v18),(19,v19),(25,v25),(26,v26),(27,v27),(28,t1)],h,x⟩)
theorem z92 {C gl q1 e h x K}:NW C gl (OZ q1) ⟨e,h,x⟩ K=TU C gl q1 (aA e 1) (aA e 5) (aA e 6) (aA e 7) (aA e 8) (aA e 17) (aA e 18) (aA e 19) (aA e 25) (aA e 26) (aA e 27) h x K:=by kernel_rfl
theorem zhz {C gl e h x K}:NW C gl JK ⟨e,h,x⟩ K=TU C gl pX (aA e 1) (aA e 5) (aA e 6) (aA e 7) (aA e 8) (aA e 17) (aA e 18) (aA e 19) (aA e 25) (aA e 26) (aA e 27) h x K:=z92
theorem zmq {C gl e h x K}:NW C gl (.loop (.scope JK)) ⟨e,h,x⟩ K=FA C gl (.scope JK) K [(1,aA e 1),(5,aA e 5),(6,aA e 6),(7,aA e 7),(8,aA e 8),(17,aA e 17),(18,aA e 18),(19,aA e 19),(25,aA e 25),(26,aA e 26),(27,aA e 27)] h x:=RB
def qX:ACode:=.pr [1,5,6,17,18,19] (rg [bN 58 .add 19 (cI 1),
mV 19 58] [1,5,6,17,18,19])
def z2Q (C:Hd)(gl:GL)(v1 v5 v6 v17 v18 v19:AV)(h:bA)(x:Esc)(K:KT):Prop:=
 pK (eA .add v19 (AI 1)) fun t1=>
 K .normal ⟨[(1,v1),(5,v5),(6,v6),(17,v17),(18,v18),(19,t1)],h,x⟩
theorem zh0 {C gl e h x K}:NW C gl qX ⟨e,h,x⟩ K=z2Q C gl (aA e 1) (aA e 5) (aA e 6) (aA e 17) (aA e 18) (aA e 19) h x K:=by kernel_rfl
def PZ (q2 q3:ACode):ACode:=.pr [1,5,6,17,18,19] (.seq (rg [bN 20 .lss 19 18] [1,5,6,17,18,19,20])
(.seq (.cond 20 .skip
(.exit 0))
(.seq (.block 1 (.seq (rg [mV 21 19,
iA 22 (some 2) 17 19,
lD 23 (some 2) 22,
uO 8 (.alloc [.p (.str []),.sl0 (some 4)]),
mV 7 21,
wO (.store (some 2) 8 23)] [1,5,6,7,8,17,18,19])
(.seq (rg [fA 24 1 none 8,
lD 25 none 24,
lN 26 25,
mV 27 (cI 0)] [1,5,6,7,8,17,18,19,25,26,27])
(.block 2 (.loop (.scope q2))))))
q3)))
def KK:ACode:=PZ JK qX
def DP (C:Hd)(gl:GL)(q2 q3:ACode)(v1 v5 v6 v17 v18 v19:AV)(h:bA)(x:Esc)(K:KT):Prop:=
 pK (eA .lss v19 v18) fun t1=>
 nA t1 (pK (uA (some 2) v17 v19 h) fun t2=>
 pK (kA (some 2) t2 h) fun t3=>
 alK [.p (.str []),.sl0 (some 4)] h fun t4 h5 y6=>
 wK (RA (some 2) t4 t3 h5) fun t7 h8 y9=>
 pK (oA 1 none t4) fun t10=>
 pK (kA none t10 h8) fun t11=>
 pK (yA t11) fun t12=>
 NW C gl (.loop (.scope q2)) ⟨[(1,v1),(5,v5),(6,v6),(7,v19),(8,t4),(17,v17),(18,v18),(19,v19),(25,t11),(26,t12),(27,(AI 0))],h8,(y9++(y6++x))⟩ (wA 2 (wA 1 (OA C gl q3 K))))
 (K (.exit 0) ⟨[(1,v1),(5,v5),(6,v6),(17,v17),(18,v18),(19,v19),(20,t1)],h,x⟩)
theorem z93 {C gl q2 q3 e h x K}:NW C gl (PZ q2 q3) ⟨e,h,x⟩ K=DP C gl q2 q3 (aA e 1) (aA e 5) (aA e 6) (aA e 17) (aA e 18) (aA e 19) h x K:=by kernel_rfl
theorem z48 {C gl e h x K}:NW C gl KK ⟨e,h,x⟩ K=DP C gl JK qX (aA e 1) (aA e 5) (aA e 6) (aA e 17) (aA e 18) (aA e 19) h x K:=z93
theorem zmr {C gl e h x K}:NW C gl (.loop (.scope KK)) ⟨e,h,x⟩ K=FA C gl (.scope KK) K [(1,aA e 1),(5,aA e 5),(6,aA e 6),(17,aA e 17),(18,aA e 18),(19,aA e 19)] h x:=RB
def rR:ACode:=.pr [6] (.seq (rg [mV 59 6,
mV 4 59] [4])
.ret)
def z2R (C:Hd)(gl:GL)(v6:AV)(h:bA)(x:Esc)(K:KT):Prop:=
 K .ret ⟨[(4,v6)],h,x⟩
theorem zh1 {C gl e h x K}:NW C gl rR ⟨e,h,x⟩ K=z2R C gl (aA e 6) h x K:=by kernel_rfl
def NZ (q4 q5:ACode):ACode:=(.seq (rg [uO 2 (.box 0),
mV 4 (.c (.nilm))] [1,2])
(.seq (rg [lD 13 (some 3) 2,
cL 14 DG [13],
mV 5 14] [1,2,5])
(.seq (rg [uO 15 (.mkmap),
mV 6 15] [1,2,5,6])
(.seq (.seq (rg [fA 16 0 none 2,
lD 17 none 16,
lN 18 17,
mV 19 (cI 0)] [1,5,6,17,18,19])
(.block 0 (.loop (.scope q4))))
q5))))
def FO:AFun:=⟨2,[.t 4],NZ KK rR,false,false⟩
def BP (C:Hd)(gl:GL)(q4 q5:ACode)(v0 v1:AV)(h:bA)(x:Esc)(K:KT):Prop:=
 wK (qB v0 h) fun t1 h2 y3=>
 pK (kA (some 3) t1 h2) fun t4=>
 C DG [t4] h2 fun t5 h6 y7=>
 mmK h6 fun t8 h9 y10=>
 pK (oA 0 none t1) fun t11=>
 pK (kA none t11 h9) fun t12=>
 pK (yA t12) fun t13=>
 NW C gl (.loop (.scope q4)) ⟨[(1,v1),(5,t5),(6,t8),(17,t12),(18,t13),(19,(AI 0))],h9,(y10++(y7++(y3++x)))⟩ (wA 0 (OA C gl q5 K))
theorem z91 {C gl q4 q5 v0 v1 h x K}:NW C gl (NZ q4 q5) ⟨enter [v0,v1],h,x⟩ K=BP C gl q4 q5 v0 v1 h x K:=by kernel_rfl
theorem zhx {C gl v0 v1 h x K}:NW C gl FO.body ⟨enter [v0,v1],h,x⟩ K=BP C gl KK rR v0 v1 h x K:=z91
def zcA:ACode:=(.seq (rg [mV 4 (cI 0)] [0,1])
(.seq (rg [mV 5 0,
mV 6 1,
cL 7 OJ [5,6],
mV 4 7] [4])
.ret))
def oU:AFun:=⟨2,[.t 4],zcA,false,false⟩
def ZV (C:Hd)(gl:GL)(v0 v1:AV)(h:bA)(x:Esc)(K:KT):Prop:=
 C OJ [v0,v1] h fun t1 h2 y3=>
 K .ret ⟨[(4,t1)],h2,(y3++x)⟩
theorem zkD {C gl v0 v1 h x K}:NW C gl oU.body ⟨enter [v0,v1],h,x⟩ K=ZV C gl v0 v1 h x K:=by kernel_rfl
def xL:ACode:=.pr [0,1,7,8] (.seq (rg [bN 9 .lss 8 7] [0,1,7,8,9])
(.seq (.cond 9 .skip
(.exit 0))
(.seq (.block 1 (.seq (rg [mV 10 8,
mV 5 10] [0,1,5,7,8])
(.seq (rg [mV 11 1,
mV 12 0,
mV 13 5,
iA 14 none 12 13,
lD 15 none 14,
bN 16 .eql 11 15] [0,1,5,7,8,16])
(.cond 16 (.seq (rg [mV 17 5,
mV 4 17] [4])
.ret)
.skip))))
(rg [bN 18 .add 8 (cI 1),
mV 8 18] [0,1,7,8]))))
def z4o (C:Hd)(gl:GL)(v0 v1 v7 v8:AV)(h:bA)(x:Esc)(K:KT):Prop:=
 pK (eA .lss v8 v7) fun t1=>
 nA t1 (pK (uA none v0 v8 h) fun t2=>
 pK (kA none t2 h) fun t3=>
 pK (eA .eql v1 t3) fun t4=>
 nA t4 (K .ret ⟨[(4,v8)],h,x⟩)
 (pK (eA .add v8 (AI 1)) fun t5=>
 K .normal ⟨[(0,v0),(1,v1),(7,v7),(8,t5)],h,x⟩))
 (K (.exit 0) ⟨[(0,v0),(1,v1),(7,v7),(8,v8),(9,t1)],h,x⟩)
theorem zkp {C gl e h x K}:NW C gl xL ⟨e,h,x⟩ K=z4o C gl (aA e 0) (aA e 1) (aA e 7) (aA e 8) h x K:=by kernel_rfl
theorem znf {C gl e h x K}:NW C gl (.loop xL) ⟨e,h,x⟩ K=FA C gl xL K [(0,aA e 0),(1,aA e 1),(7,aA e 7),(8,aA e 8)] h x:=NB
def gS:ACode:=.pr [] (.seq (rg [mV 4 (cI (-1))] [4])
.ret)
def z4p (C:Hd)(gl:GL)(h:bA)(x:Esc)(K:KT):Prop:=
 K .ret ⟨[(4,(AI (-1)))],h,x⟩
theorem zkq {C gl e h x K}:NW C gl gS ⟨e,h,x⟩ K=z4p C gl h x K:=by kernel_rfl
def z0W (q1 q2:ACode):ACode:=(.seq (rg [mV 4 (cI 0)] [0,1])
(.seq (.seq (rg [mV 6 0,
lN 7 6,
mV 8 (cI 0)] [0,1,7,8])
(.block 0 (.loop q1)))
q2))
def bP:AFun:=⟨2,[.t 4],z0W xL gS,true,false⟩
def uQ (C:Hd)(gl:GL)(q1 q2:ACode)(v0 v1:AV)(h:bA)(x:Esc)(K:KT):Prop:=
 pK (yA v0) fun t1=>
 NW C gl (.loop q1) ⟨[(0,v0),(1,v1),(7,t1),(8,(AI 0))],h,x⟩ (wA 0 (OA C gl q2 K))
theorem zaA {C gl q1 q2 v0 v1 h x K}:NW C gl (z0W q1 q2) ⟨enter [v0,v1],h,x⟩ K=uQ C gl q1 q2 v0 v1 h x K:=by kernel_rfl
theorem zko {C gl v0 v1 h x K}:NW C gl bP.body ⟨enter [v0,v1],h,x⟩ K=uQ C gl xL gS v0 v1 h x K:=zaA
def QX:ACode:=.pr [0,3,6,14,15,25,31] (.cond 31 (rg [mV 34 3,
mV 35 6,
uO 36 (.build [.p (.int .i64 0),.p (.str []),.p (.int .i64 0),.p (.int .i64 0)] [(0,1,(cI 1)),(1,1,35),(2,1,(cI (-1)))]),
uO 37 (.bsl false (some 4) 1 (.agg [.int .i64 0,.str [],.int .i64 0,.int .i64 0]) [(0,36)]),
uO 38 (.app (some 4) 34 37),
mV 3 38] [0,3,14,15])
(.seq (rg [bN 40 .eql 25 (cI 2),
mV 39 40] [0,3,6,14,15,25,39])
(.cond 39 (rg [mV 41 3,
mV 42 6,
uO 43 (.build [.p (.int .i64 0),.p (.str []),.p (.int .i64 0),.p (.int .i64 0)] [(0,1,(cI 2)),(1,1,42),(2,1,(cI (-1)))]),
uO 44 (.bsl false (some 4) 1 (.agg [.int .i64 0,.str [],.int .i64 0,.int .i64 0]) [(0,43)]),
uO 45 (.app (some 4) 41 44),
mV 3 45] [0,3,14,15])
(.seq (rg [bN 47 .eql 25 (cI 3),
mV 46 47] [0,3,6,14,15,46])
(.cond 46 (rg [mV 48 3,
uO 49 (.build [.p (.int .i64 0),.p (.str []),.p (.int .i64 0),.p (.int .i64 0)] [(0,1,(cI 3)),(2,1,(cI (-1)))]),
uO 50 (.bsl false (some 4) 1 (.agg [.int .i64 0,.str [],.int .i64 0,.int .i64 0]) [(0,49)]),
uO 51 (.app (some 4) 48 50),
mV 3 51] [0,3,14,15])
(rg [mV 26 3,
mV 27 6,
uO 28 (.build [.p (.int .i64 0),.p (.str []),.p (.int .i64 0),.p (.int .i64 0)] [(0,1,(cI 2)),(1,1,27),(2,1,(cI (-1)))]),
uO 29 (.bsl false (some 4) 1 (.agg [.int .i64 0,.str [],.int .i64 0,.int .i64 0]) [(0,28)]),
uO 30 (.app (some 4) 26 29),
mV 3 30] [0,3,14,15]))))))
def z38 (C:Hd)(gl:GL)(v0 v3 v6 v14 v15 v25 v31:AV)(h:bA)(x:Esc)(K:KT):Prop:=
 nA v31 (pK (DB [.p (.int .i64 0),.p (.str []),.p (.int .i64 0),.p (.int .i64 0)] [(0,1,(AI 1)),(1,1,v6),(2,1,(AI (-1)))]) fun t1=>
 wK (aB false (some 4) 1 (.agg [.int .i64 0,.str [],.int .i64 0,.int .i64 0]) [(0,t1)] h) fun t2 h3 y4=>
 wK (WC (some 4) v3 t2 h3) fun t5 h6 y7=>
 K .normal ⟨[(0,v0),(3,t5),(14,v14),(15,v15)],h6,(y7++(y4++x))⟩)
 (pK (eA .eql v25 (AI 2)) fun t8=>
 nA t8 (pK (DB [.p (.int .i64 0),.p (.str []),.p (.int .i64 0),.p (.int .i64 0)] [(0,1,(AI 2)),(1,1,v6),(2,1,(AI (-1)))]) fun t9=>
 wK (aB false (some 4) 1 (.agg [.int .i64 0,.str [],.int .i64 0,.int .i64 0]) [(0,t9)] h) fun t10 h11 y12=>
 wK (WC (some 4) v3 t10 h11) fun t13 h14 y15=>
 K .normal ⟨[(0,v0),(3,t13),(14,v14),(15,v15)],h14,(y15++(y12++x))⟩)
 (pK (eA .eql v25 (AI 3)) fun t16=>
 nA t16 (pK (DB [.p (.int .i64 0),.p (.str []),.p (.int .i64 0),.p (.int .i64 0)] [(0,1,(AI 3)),(2,1,(AI (-1)))]) fun t17=>
 wK (aB false (some 4) 1 (.agg [.int .i64 0,.str [],.int .i64 0,.int .i64 0]) [(0,t17)] h) fun t18 h19 y20=>
 wK (WC (some 4) v3 t18 h19) fun t21 h22 y23=>
 K .normal ⟨[(0,v0),(3,t21),(14,v14),(15,v15)],h22,(y23++(y20++x))⟩)
 (pK (DB [.p (.int .i64 0),.p (.str []),.p (.int .i64 0),.p (.int .i64 0)] [(0,1,(AI 2)),(1,1,v6),(2,1,(AI (-1)))]) fun t24=>
 wK (aB false (some 4) 1 (.agg [.int .i64 0,.str [],.int .i64 0,.int .i64 0]) [(0,t24)] h) fun t25 h26 y27=>
 wK (WC (some 4) v3 t25 h26) fun t28 h29 y30=>
 K .normal ⟨[(0,v0),(3,t28),(14,v14),(15,v15)],h29,(y30++(y27++x))⟩)))
theorem ziX {C gl e h x K}:NW C gl QX ⟨e,h,x⟩ K=z38 C gl (aA e 0) (aA e 3) (aA e 6) (aA e 14) (aA e 15) (aA e 25) (aA e 31) h x K:=by kernel_rfl
def SX:ACode:=.pr [0,3,14,15] (rg [bN 52 .add 15 (cI 1),
mV 15 52] [0,3,14,15])
def z39 (C:Hd)(gl:GL)(v0 v3 v14 v15:AV)(h:bA)(x:Esc)(K:KT):Prop:=
 pK (eA .add v15 (AI 1)) fun t1=>
 K .normal ⟨[(0,v0),(3,v3),(14,v14),(15,t1)],h,x⟩
theorem ziY {C gl e h x K}:NW C gl SX ⟨e,h,x⟩ K=z39 C gl (aA e 0) (aA e 3) (aA e 14) (aA e 15) h x K:=by kernel_rfl
def z07 (q1 q2:ACode):ACode:=.pr [0,3,14,15] (.seq (rg [bN 16 .lss 15 14] [0,3,14,15,16])
(.seq (.cond 16 .skip
(.exit 0))
(.seq (.block 1 (.seq (rg [mV 17 15,
mV 5 17] [0,3,5,14,15])
(.seq (rg [mV 18 5,
bN 19 .rem 18 (cI 4),
bN 20 .add (cI 97) 19,
uO 21 (.conv (.i .i32) 20),
uO 22 (.conv .r2s 21),
bN 23 .add (cS [112]) 22,
mV 6 23] [0,3,6,14,15])
(.seq (rg [mV 24 0,
cL 25 LB [24,(cI 5)]] [0,3,6,14,15,25])
(.block 2 (.seq (.seq (rg [bN 32 .eql 25 (cI 0),
mV 31 32] [0,3,6,14,15,25,31])
(.cond 31 .skip
(rg [bN 33 .eql 25 (cI 1),
mV 31 33] [0,3,6,14,15,25,31])))
q1))))))
q2)))
def RI:ACode:=z07 QX SX
def xV (C:Hd)(gl:GL)(q1 q2:ACode)(v0 v3 v14 v15:AV)(h:bA)(x:Esc)(K:KT):Prop:=
 pK (eA .lss v15 v14) fun t1=>
 nA t1 (pK (eA .rem v15 (AI 4)) fun t2=>
 pK (eA .add (AI 97) t2) fun t3=>
 pK (XC .i32 t3) fun t4=>
 wK (uF .r2s t4 h) fun t5 h6 y7=>
 pK (eA .add (.p (.str [112])) t5) fun t8=>
 C LB [v0,(AI 5)] h6 fun t9 h10 y11=>
 pK (eA .eql t9 (AI 0)) fun t12=>
 nA t12 (NW C gl q1 ⟨[(0,v0),(3,v3),(6,t8),(14,v14),(15,v15),(25,t9),(31,t12)],h10,(y11++(y7++x))⟩ (wA 2 (wA 1 (OA C gl q2 K))))
 (pK (eA .eql t9 (AI 1)) fun t13=>
 NW C gl q1 ⟨[(0,v0),(3,v3),(6,t8),(14,v14),(15,v15),(25,t9),(31,t13)],h10,(y11++(y7++x))⟩ (wA 2 (wA 1 (OA C gl q2 K)))))
 (K (.exit 0) ⟨[(0,v0),(3,v3),(14,v14),(15,v15),(16,t1)],h,x⟩)
theorem zal {C gl q1 q2 e h x K}:NW C gl (z07 q1 q2) ⟨e,h,x⟩ K=xV C gl q1 q2 (aA e 0) (aA e 3) (aA e 14) (aA e 15) h x K:=by kernel_rfl
theorem ziZ {C gl e h x K}:NW C gl RI ⟨e,h,x⟩ K=xV C gl QX SX (aA e 0) (aA e 3) (aA e 14) (aA e 15) h x K:=zal
theorem zmI {C gl e h x K}:NW C gl (.loop (.scope RI)) ⟨e,h,x⟩ K=FA C gl (.scope RI) K [(0,aA e 0),(3,aA e 3),(14,aA e 14),(15,aA e 15)] h x:=RB
def TX:ACode:=.pr [0,3,54,55] (rg [bN 89 .add 55 (cI 1),
mV 55 89] [0,3,54,55])
def z3A (C:Hd)(gl:GL)(v0 v3 v54 v55:AV)(h:bA)(x:Esc)(K:KT):Prop:=
 pK (eA .add v55 (AI 1)) fun t1=>
 K .normal ⟨[(0,v0),(3,v3),(54,v54),(55,t1)],h,x⟩
theorem zja {C gl e h x K}:NW C gl TX ⟨e,h,x⟩ K=z3A C gl (aA e 0) (aA e 3) (aA e 54) (aA e 55) h x K:=by kernel_rfl
def z08 (q4:ACode):ACode:=.pr [0,3,54,55] (.seq (rg [bN 56 .lss 55 54] [0,3,54,55,56])
(.seq (.cond 56 .skip
(.exit 3))
(.seq (.block 4 (.seq (rg [mV 57 55,
mV 7 57] [0,3,7,54,55])
(.seq (rg [mV 58 3,
mV 59 7,
iA 60 (some 4) 58 59,
fA 61 0 none 60,
lD 62 none 61,
bN 63 .eql 62 (cI 2),
mV 64 63,
gD 65 64 true (.mv 0),
gD 66 64 true (.call pC [65,(cI 2)]),
uO 67 (.pick 64 66 cF)] [0,3,7,54,55,67])
(.cond 67 (.seq (rg [mV 68 0,
mV 69 3,
lN 70 69,
cL 71 LB [68,70],
mV 8 71] [0,3,7,8,54,55])
(.seq (rg [mV 72 3,
mV 73 8,
iA 74 (some 4) 72 73,
fA 75 0 none 74,
lD 76 none 75,
bN 77 .eql 76 (cI 3)] [0,3,7,8,54,55,77])
(.cond 77 (rg [mV 78 3,
mV 79 7,
mV 80 3,
mV 81 7,
mV 82 8,
mV 83 0,
cL 84 LB [83,(cI 2)],
iA 85 (some 4) 78 79,
fA 86 2 none 85,
wO (.store none 86 82),
iA 87 (some 4) 80 81,
fA 88 3 none 87,
wO (.store none 88 84)] [0,3,54,55])
.skip)))
.skip))))
q4)))
def fL:ACode:=z08 TX
def yV (C:Hd)(gl:GL)(q4:ACode)(v0 v3 v54 v55:AV)(h:bA)(x:Esc)(K:KT):Prop:=
 pK (eA .lss v55 v54) fun t1=>
 nA t1 (pK (uA (some 4) v3 v55 h) fun t2=>
 pK (oA 0 none t2) fun t3=>
 pK (kA none t3 h) fun t4=>
 pK (eA .eql t4 (AI 2)) fun t5=>
 gM t5 true v0 h fun t6 h7 y8=>
 gV t5 true h7 (C pC [t6,(AI 2)] h7) fun t9 h10 y11=>
 pK (LA t5 t9 (AB false)) fun t12=>
 nA t12 (pK (yA v3) fun t13=>
 C LB [v0,t13] h10 fun t14 h15 y16=>
 pK (uA (some 4) v3 t14 h15) fun t17=>
 pK (oA 0 none t17) fun t18=>
 pK (kA none t18 h15) fun t19=>
 pK (eA .eql t19 (AI 3)) fun t20=>
 nA t20 (C LB [v0,(AI 2)] h15 fun t21 h22 y23=>
 pK (uA (some 4) v3 v55 h22) fun t24=>
 pK (oA 2 none t24) fun t25=>
 wK (RA none t25 t14 h22) fun t26 h27 y28=>
 pK (uA (some 4) v3 v55 h27) fun t29=>
 pK (oA 3 none t29) fun t30=>
 wK (RA none t30 t21 h27) fun t31 h32 y33=>
 NW C gl q4 ⟨[(0,v0),(3,v3),(54,v54),(55,v55)],h32,(y33++(y28++(y23++(y16++(y11++(y8++x))))))⟩ K)
 (NW C gl q4 ⟨[(0,v0),(3,v3),(7,v55),(8,t14),(54,v54),(55,v55),(77,t20)],h15,(y16++(y11++(y8++x)))⟩ K))
 (NW C gl q4 ⟨[(0,v0),(3,v3),(7,v55),(54,v54),(55,v55),(67,t12)],h10,(y11++(y8++x))⟩ K))
 (K (.exit 3) ⟨[(0,v0),(3,v3),(54,v54),(55,v55),(56,t1)],h,x⟩)
theorem zam {C gl q4 e h x K}:NW C gl (z08 q4) ⟨e,h,x⟩ K=yV C gl q4 (aA e 0) (aA e 3) (aA e 54) (aA e 55) h x K:=by kernel_rfl
theorem zjb {C gl e h x K}:NW C gl fL ⟨e,h,x⟩ K=yV C gl TX (aA e 0) (aA e 3) (aA e 54) (aA e 55) h x K:=zam
theorem zmJ {C gl e h x K}:NW C gl (.loop fL) ⟨e,h,x⟩ K=FA C gl fL K [(0,aA e 0),(3,aA e 3),(54,aA e 54),(55,aA e 55)] h x:=NB
def UX:ACode:=.pr [3,9,11,96,97,98] (rg [mV 114 9,
lD 115 (some 4) 11,
uO 116 (.bsl false (some 4) 1 (.agg [.int .i64 0,.str [],.int .i64 0,.int .i64 0]) [(0,115)]),
uO 117 (.app (some 4) 114 116),
mV 9 117] [3,9,96,97,98])
def z3B (C:Hd)(gl:GL)(v3 v9 v11 v96 v97 v98:AV)(h:bA)(x:Esc)(K:KT):Prop:=
 pK (kA (some 4) v11 h) fun t1=>
 wK (aB false (some 4) 1 (.agg [.int .i64 0,.str [],.int .i64 0,.int .i64 0]) [(0,t1)] h) fun t2 h3 y4=>
 wK (WC (some 4) v9 t2 h3) fun t5 h6 y7=>
 K .normal ⟨[(3,v3),(9,t5),(96,v96),(97,v97),(98,v98)],h6,(y7++(y4++x))⟩
theorem zjc {C gl e h x K}:NW C gl UX ⟨e,h,x⟩ K=z3B C gl (aA e 3) (aA e 9) (aA e 11) (aA e 96) (aA e 97) (aA e 98) h x K:=by kernel_rfl
def VX:ACode:=.pr [3,9,96,97,98] (rg [bN 118 .add 98 (cI 1),
mV 98 118] [3,9,96,97,98])
def z3C (C:Hd)(gl:GL)(v3 v9 v96 v97 v98:AV)(h:bA)(x:Esc)(K:KT):Prop:=
 pK (eA .add v98 (AI 1)) fun t1=>
 K .normal ⟨[(3,v3),(9,v9),(96,v96),(97,v97),(98,t1)],h,x⟩
theorem zjd {C gl e h x K}:NW C gl VX ⟨e,h,x⟩ K=z3C C gl (aA e 3) (aA e 9) (aA e 96) (aA e 97) (aA e 98) h x K:=by kernel_rfl
def z09 (q6 q7:ACode):ACode:=.pr [3,9,96,97,98] (.seq (rg [bN 99 .lss 98 97] [3,9,96,97,98,99])
(.seq (.cond 99 .skip
(.exit 5))
(.seq (.block 6 (.seq (rg [mV 100 98,
iA 101 (some 4) 96 98,
lD 102 (some 4) 101,
uO 11 (.alloc [.p (.int .i64 0),.p (.str []),.p (.int .i64 0),.p (.int .i64 0)]),
mV 10 100,
wO (.store (some 4) 11 102)] [3,9,10,11,96,97,98])
(.seq (.seq (rg [fA 103 1 none 11,
lD 104 none 103,
bN 105 .neq 104 (cS []),
mV 106 105,
gD 107 106 true (.mv 3),
gD 108 106 true (.mv 10),
gD 109 106 true (.slice (some 4) 107 none (some 108) none),
gD 110 106 true (.mkfn rI [11]),
gD 111 106 true (.call JD [109,110]),
uO 112 (.pick 106 111 cF)] [3,9,11,96,97,98,112])
(.cond 112 (rg [uO 113 (.build [.p (.int .i64 0),.p (.str []),.p (.int .i64 0),.p (.int .i64 0)] [(0,1,(cI 4)),(2,1,(cI (-1)))]),
wO (.store (some 4) 11 113)] [3,9,11,96,97,98])
.skip))
q6)))
q7)))
def gL:ACode:=z09 UX VX
def zV (C:Hd)(gl:GL)(q6 q7:ACode)(v3 v9 v96 v97 v98:AV)(h:bA)(x:Esc)(K:KT):Prop:=
 pK (eA .lss v98 v97) fun t1=>
 nA t1 (pK (uA (some 4) v96 v98 h) fun t2=>
 pK (kA (some 4) t2 h) fun t3=>
 alK [.p (.int .i64 0),.p (.str []),.p (.int .i64 0),.p (.int .i64 0)] h fun t4 h5 y6=>
 wK (RA (some 4) t4 t3 h5) fun t7 h8 y9=>
 pK (oA 1 none t4) fun t10=>
 pK (kA none t10 h8) fun t11=>
 pK (eA .neq t11 (.p (.str []))) fun t12=>
 gM t12 true v3 h8 fun t13 h14 y15=>
 gM t12 true v98 h14 fun t16 h17 y18=>
 gP t12 true (qE (some 4) t13 none (some t16) none h17) h17 fun t19 h20 y21=>
 gM t12 true (.fn rI [t4]) h20 fun t22 h23 y24=>
 gV t12 true h23 (C JD [t19,t22] h23) fun t25 h26 y27=>
 pK (LA t12 t25 (AB false)) fun t28=>
 nA t28 (pK (DB [.p (.int .i64 0),.p (.str []),.p (.int .i64 0),.p (.int .i64 0)] [(0,1,(AI 4)),(2,1,(AI (-1)))]) fun t29=>
 wK (RA (some 4) t4 t29 h26) fun t30 h31 y32=>
 NW C gl q6 ⟨[(3,v3),(9,v9),(11,t4),(96,v96),(97,v97),(98,v98)],h31,(y32++(y27++(y24++(y21++(y18++(y15++(y9++(y6++x))))))))⟩ (wA 6 (OA C gl q7 K)))
 (NW C gl q6 ⟨[(3,v3),(9,v9),(11,t4),(96,v96),(97,v97),(98,v98),(112,t28)],h26,(y27++(y24++(y21++(y18++(y15++(y9++(y6++x)))))))⟩ (wA 6 (OA C gl q7 K))))
 (K (.exit 5) ⟨[(3,v3),(9,v9),(96,v96),(97,v97),(98,v98),(99,t1)],h,x⟩)
theorem zan {C gl q6 q7 e h x K}:NW C gl (z09 q6 q7) ⟨e,h,x⟩ K=zV C gl q6 q7 (aA e 3) (aA e 9) (aA e 96) (aA e 97) (aA e 98) h x K:=by kernel_rfl
theorem zje {C gl e h x K}:NW C gl gL ⟨e,h,x⟩ K=zV C gl UX VX (aA e 3) (aA e 9) (aA e 96) (aA e 97) (aA e 98) h x K:=zan
theorem zmK {C gl e h x K}:NW C gl (.loop (.scope gL)) ⟨e,h,x⟩ K=FA C gl (.scope gL) K [(3,aA e 3),(9,aA e 9),(96,aA e 96),(97,aA e 97),(98,aA e 98)] h x:=RB
def WX:ACode:=.pr [9] (.seq (rg [mV 119 9,
mV 2 119] [2])
.ret)
def z3D (C:Hd)(gl:GL)(v9:AV)(h:bA)(x:Esc)(K:KT):Prop:=
 K .ret ⟨[(2,v9)],h,x⟩
theorem zjf {C gl e h x K}:NW C gl WX ⟨e,h,x⟩ K=z3D C gl (aA e 9) h x K:=by kernel_rfl
def z04 (q8 q9:ACode):ACode:=.pr [3] (.seq (rg [uO 9 (.new0 (some 4))] [3,9])
(.seq (.seq (rg [mV 96 3,
lN 97 96,
mV 98 (cI 0)] [3,9,96,97,98])
(.block 5 (.loop (.scope q8))))
q9))
def LR:ACode:=z04 gL WX
def tM (C:Hd)(gl:GL)(q8 q9:ACode)(v3:AV)(h:bA)(x:Esc)(K:KT):Prop:=
 nwK (some 4) h fun t1 h2 y3=>
 pK (yA v3) fun t4=>
 NW C gl (.loop (.scope q8)) ⟨[(3,v3),(9,t1),(96,v3),(97,t4),(98,(AI 0))],h2,(y3++x)⟩ (wA 5 (OA C gl q9 K))
theorem zai {C gl q8 q9 e h x K}:NW C gl (z04 q8 q9) ⟨e,h,x⟩ K=tM C gl q8 q9 (aA e 3) h x K:=by kernel_rfl
theorem lW {C gl e h x K}:NW C gl LR ⟨e,h,x⟩ K=tM C gl gL WX (aA e 3) h x K:=zai
def z05 (q10:ACode):ACode:=.pr [0,3] (.seq (.seq (rg [mV 90 0,
cL 91 pC [90,(cI 6)]] [3,91])
(.cond 91 (rg [mV 92 3,
uO 93 (.build [.p (.int .i64 0),.p (.str []),.p (.int .i64 0),.p (.int .i64 0)] [(0,1,(cI 4)),(2,1,(cI (-1)))]),
uO 94 (.bsl false (some 4) 1 (.agg [.int .i64 0,.str [],.int .i64 0,.int .i64 0]) [(0,93)]),
uO 95 (.app (some 4) 92 94),
mV 3 95] [3])
.skip))
q10)
def RX:ACode:=z05 LR
def BJ (C:Hd)(gl:GL)(q10:ACode)(v0 v3:AV)(h:bA)(x:Esc)(K:KT):Prop:=
 C pC [v0,(AI 6)] h fun t1 h2 y3=>
 nA t1 (pK (DB [.p (.int .i64 0),.p (.str []),.p (.int .i64 0),.p (.int .i64 0)] [(0,1,(AI 4)),(2,1,(AI (-1)))]) fun t4=>
 wK (aB false (some 4) 1 (.agg [.int .i64 0,.str [],.int .i64 0,.int .i64 0]) [(0,t4)] h2) fun t5 h6 y7=>
 wK (WC (some 4) v3 t5 h6) fun t8 h9 y10=>
 NW C gl q10 ⟨[(3,t8)],h9,(y10++(y7++(y3++x)))⟩ K)
 (NW C gl q10 ⟨[(3,v3),(91,t1)],h2,(y3++x)⟩ K)
theorem zaj {C gl q10 e h x K}:NW C gl (z05 q10) ⟨e,h,x⟩ K=BJ C gl q10 (aA e 0) (aA e 3) h x K:=by kernel_rfl
theorem mW {C gl e h x K}:NW C gl RX ⟨e,h,x⟩ K=BJ C gl LR (aA e 0) (aA e 3) h x K:=zaj
def z06 (q5 q11:ACode):ACode:=.pr [0,3] (.seq (.seq (rg [mV 53 3,
lN 54 53,
mV 55 (cI 0)] [0,3,54,55])
(.block 3 (.loop q5)))
q11)
def MR:ACode:=z06 fL RX
def uM (C:Hd)(gl:GL)(q5 q11:ACode)(v0 v3:AV)(h:bA)(x:Esc)(K:KT):Prop:=
 pK (yA v3) fun t1=>
 NW C gl (.loop q5) ⟨[(0,v0),(3,v3),(54,t1),(55,(AI 0))],h,x⟩ (wA 3 (OA C gl q11 K))
theorem zak {C gl q5 q11 e h x K}:NW C gl (z06 q5 q11) ⟨e,h,x⟩ K=uM C gl q5 q11 (aA e 0) (aA e 3) h x K:=by kernel_rfl
theorem nW {C gl e h x K}:NW C gl MR ⟨e,h,x⟩ K=uM C gl fL RX (aA e 0) (aA e 3) h x K:=zak
def z03 (q3 q12:ACode):ACode:=(.seq (rg [mV 2 (.c (.p (.sl (some 4) [])))] [0])
(.seq (rg [uO 3 (.new0 (some 4))] [0,3])
(.seq (rg [mV 12 0,
cL 13 XF [12,(cI 0),(cI 6)],
mV 4 13] [0,3,4])
(.seq (.seq (rg [mV 14 4,
mV 15 (cI 0)] [0,3,14,15])
(.block 0 (.loop (.scope q3))))
q12))))
def DT:AFun:=⟨1,[.t 2],z03 RI MR,false,true⟩
def cQ (C:Hd)(gl:GL)(q3 q12:ACode)(v0:AV)(h:bA)(x:Esc)(K:KT):Prop:=
 nwK (some 4) h fun t1 h2 y3=>
 C XF [v0,(AI 0),(AI 6)] h2 fun t4 h5 y6=>
 NW C gl (.loop (.scope q3)) ⟨[(0,v0),(3,t1),(14,t4),(15,(AI 0))],h5,(y6++(y3++x))⟩ (wA 0 (OA C gl q12 K))
theorem zah {C gl q3 q12 v0 h x K}:NW C gl (z03 q3 q12) ⟨enter [v0],h,x⟩ K=cQ C gl q3 q12 v0 h x K:=by kernel_rfl
theorem ziW {C gl v0 h x K}:NW C gl DT.body ⟨enter [v0],h,x⟩ K=cQ C gl RI MR v0 h x K:=zah
def zcg:ACode:=(.seq (rg [uO 3 (.box 1),
mV 4 cF] [0,3])
(.seq (rg [mV 5 0,
lD 6 (some 2) 3,
cL 7 kK [5,6],
bN 8 .geq 7 (cI 0),
mV 4 8] [4])
.ret))
def ZT:AFun:=⟨2,[.t 4],zcg,true,false⟩
def JV (C:Hd)(gl:GL)(v0 v1:AV)(h:bA)(x:Esc)(K:KT):Prop:=
 wK (qB v1 h) fun t1 h2 y3=>
 pK (kA (some 2) t1 h2) fun t4=>
 C kK [v0,t4] h2 fun t5 h6 y7=>
 pK (eA .geq t5 (AI 0)) fun t8=>
 K .ret ⟨[(4,t8)],h6,(y7++(y3++x))⟩
theorem zjQ {C gl v0 v1 h x K}:NW C gl ZT.body ⟨enter [v0,v1],h,x⟩ K=JV C gl v0 v1 h x K:=by kernel_rfl
def zcl:ACode:=(.seq (rg [mV 5 0,
lN 6 5,
mV 4 6] [0,1,4])
(rg [mV 7 0,
mV 8 4,
mV 9 4,
uO 10 (.conv (.i .u64) 9),
cL 11 qH [10],
mV 12 1,
cL 13 bG [7,(cI 0),8,11,12]] []))
def gU:AFun:=⟨2,[],zcl,true,false⟩
def MV (C:Hd)(gl:GL)(v0 v1:AV)(h:bA)(x:Esc)(K:KT):Prop:=
 pK (yA v0) fun t1=>
 pK (XC .u64 t1) fun t2=>
 C qH [t2] h fun t3 h4 y5=>
 C bG [v0,(AI 0),t1,t3,v1] h4 fun t6 h7 y8=>
 K .normal ⟨[],h7,(y8++(y5++x))⟩
theorem zkr {C gl v0 v1 h x K}:NW C gl gU.body ⟨enter [v0,v1],h,x⟩ K=MV C gl v0 v1 h x K:=by kernel_rfl
def zbK:ACode:=(.seq (rg [uO 2 (.box 0),
uO 3 (.box 1),
mV 4 (cI 0)] [2,3])
(.seq (rg [fA 5 0 none 2,
lD 6 none 5,
fA 7 1 none 2,
lD 8 none 7,
fA 9 2 none 2,
lD 10 none 9,
uO 11 (.bsl false none 3 (.str []) [(0,6),(1,8),(2,10)]),
fA 12 0 none 3,
lD 13 none 12,
fA 14 1 none 3,
lD 15 none 14,
fA 16 2 none 3,
lD 17 none 16,
uO 18 (.bsl false none 3 (.str []) [(0,13),(1,15),(2,17)]),
cL 19 uH [11,18],
mV 4 19] [4])
.ret))
def tT:AFun:=⟨2,[.t 4],zbK,false,false⟩
def rV (C:Hd)(gl:GL)(v0 v1:AV)(h:bA)(x:Esc)(K:KT):Prop:=
 wK (qB v0 h) fun t1 h2 y3=>
 wK (qB v1 h2) fun t4 h5 y6=>
 pK (oA 0 none t1) fun t7=>
 pK (kA none t7 h5) fun t8=>
 pK (oA 1 none t1) fun t9=>
 pK (kA none t9 h5) fun t10=>
 pK (oA 2 none t1) fun t11=>
 pK (kA none t11 h5) fun t12=>
 wK (aB false none 3 (.str []) [(0,t8),(1,t10),(2,t12)] h5) fun t13 h14 y15=>
 pK (oA 0 none t4) fun t16=>
 pK (kA none t16 h14) fun t17=>
 pK (oA 1 none t4) fun t18=>
 pK (kA none t18 h14) fun t19=>
 pK (oA 2 none t4) fun t20=>
 pK (kA none t20 h14) fun t21=>
 wK (aB false none 3 (.str []) [(0,t17),(1,t19),(2,t21)] h14) fun t22 h23 y24=>
 C uH [t13,t22] h23 fun t25 h26 y27=>
 K .ret ⟨[(4,t25)],h26,(y27++(y24++(y15++(y6++(y3++x)))))⟩
theorem ziH {C gl v0 v1 h x K}:NW C gl tT.body ⟨enter [v0,v1],h,x⟩ K=rV C gl v0 v1 h x K:=by kernel_rfl
def pL:ACode:=.pr [0,1,9,10,11] (.seq (rg [bN 12 .lss 11 10] [0,1,9,10,11,12])
(.seq (.cond 12 .skip
(.exit 0))
(.seq (.block 1 (.seq (rg [mV 13 11,
iA 14 none 9 11,
lD 15 none 14,
mV 5 13,
mV 6 15] [0,1,5,6,9,10,11])
(.seq (.seq (rg [mV 16 5,
mV 17 1,
lN 18 17,
bN 19 .geq 16 18] [0,1,5,6,9,10,11,19])
(.cond 19 (.seq (rg [mV 4 (cI 1)] [4])
.ret)
.skip))
(.seq (rg [mV 20 1,
mV 21 5,
iA 22 none 20 21,
lD 23 none 22,
mV 7 23] [0,1,6,7,9,10,11])
(.seq (rg [mV 24 6,
mV 25 7,
cL 26 NJ [24,25],
mV 8 26] [0,1,8,9,10,11])
(.seq (rg [mV 27 8,
bN 28 .neq 27 (cI 0)] [0,1,8,9,10,11,28])
(.cond 28 (.seq (rg [mV 29 8,
mV 4 29] [4])
.ret)
.skip)))))))
(rg [bN 30 .add 11 (cI 1),
mV 11 30] [0,1,9,10,11]))))
def z3Y (C:Hd)(gl:GL)(v0 v1 v9 v10 v11:AV)(h:bA)(x:Esc)(K:KT):Prop:=
 pK (eA .lss v11 v10) fun t1=>
 nA t1 (pK (uA none v9 v11 h) fun t2=>
 pK (kA none t2 h) fun t3=>
 pK (yA v1) fun t4=>
 pK (eA .geq v11 t4) fun t5=>
 nA t5 (K .ret ⟨[(4,(AI 1))],h,x⟩)
 (pK (uA none v1 v11 h) fun t6=>
 pK (kA none t6 h) fun t7=>
 C NJ [t3,t7] h fun t8 h9 y10=>
 pK (eA .neq t8 (AI 0)) fun t11=>
 nA t11 (K .ret ⟨[(4,t8)],h9,(y10++x)⟩)
 (pK (eA .add v11 (AI 1)) fun t12=>
 K .normal ⟨[(0,v0),(1,v1),(9,v9),(10,v10),(11,t12)],h9,(y10++x)⟩)))
 (K (.exit 0) ⟨[(0,v0),(1,v1),(9,v9),(10,v10),(11,v11),(12,t1)],h,x⟩)
theorem zjM {C gl e h x K}:NW C gl pL ⟨e,h,x⟩ K=z3Y C gl (aA e 0) (aA e 1) (aA e 9) (aA e 10) (aA e 11) h x K:=by kernel_rfl
theorem zmX {C gl e h x K}:NW C gl (.loop pL) ⟨e,h,x⟩ K=FA C gl pL K [(0,aA e 0),(1,aA e 1),(9,aA e 9),(10,aA e 10),(11,aA e 11)] h x:=NB
def VR:ACode:=.pr [0,1] (.seq (.seq (rg [mV 31 0,
lN 32 31,
mV 33 1,
lN 34 33,
bN 35 .lss 32 34] [35])
(.cond 35 (.seq (rg [mV 4 (cI (-1))] [4])
.ret)
.skip))
(.seq (rg [mV 4 (cI 0)] [4])
.ret))
def z3Z (C:Hd)(gl:GL)(v0 v1:AV)(h:bA)(x:Esc)(K:KT):Prop:=
 pK (yA v0) fun t1=>
 pK (yA v1) fun t2=>
 pK (eA .lss t1 t2) fun t3=>
 nA t3 (K .ret ⟨[(4,(AI (-1)))],h,x⟩)
 (K .ret ⟨[(4,(AI 0))],h,x⟩)
theorem zjN {C gl e h x K}:NW C gl VR ⟨e,h,x⟩ K=z3Z C gl (aA e 0) (aA e 1) h x K:=by kernel_rfl
def z0N (q1 q2:ACode):ACode:=(.seq (rg [mV 4 (cI 0)] [0,1])
(.seq (.seq (rg [mV 9 0,
lN 10 9,
mV 11 (cI 0)] [0,1,9,10,11])
(.block 0 (.loop q1)))
q2))
def XT:AFun:=⟨2,[.t 4],z0N pL VR,false,false⟩
def kQ (C:Hd)(gl:GL)(q1 q2:ACode)(v0 v1:AV)(h:bA)(x:Esc)(K:KT):Prop:=
 pK (yA v0) fun t1=>
 NW C gl (.loop q1) ⟨[(0,v0),(1,v1),(9,v0),(10,t1),(11,(AI 0))],h,x⟩ (wA 0 (OA C gl q2 K))
theorem za1 {C gl q1 q2 v0 v1 h x K}:NW C gl (z0N q1 q2) ⟨enter [v0,v1],h,x⟩ K=kQ C gl q1 q2 v0 v1 h x K:=by kernel_rfl
theorem zjL {C gl v0 v1 h x K}:NW C gl XT.body ⟨enter [v0,v1],h,x⟩ K=kQ C gl pL VR v0 v1 h x K:=za1
def kL:ACode:=.pr [3,7,8,9] (.seq (rg [bN 10 .lss 9 8] [3,7,8,9,10])
(.seq (.cond 10 .skip
(.exit 0))
(.seq (.block 1 (.seq (rg [iA 11 (some 3) 7 9,
lD 12 (some 3) 11,
uO 5 (.alloc [.p (.str []),.p (.str []),.p (.str [])]),
wO (.store (some 3) 5 12)] [3,5,7,8,9])
(rg [mV 13 3,
fA 14 0 none 5,
lD 15 none 14,
uO 16 (.bsl false none 1 (.str []) [(0,15)]),
uO 17 (.app none 13 16),
mV 3 17] [3,7,8,9])))
(rg [bN 18 .add 9 (cI 1),
mV 9 18] [3,7,8,9]))))
def z3L (C:Hd)(gl:GL)(v3 v7 v8 v9:AV)(h:bA)(x:Esc)(K:KT):Prop:=
 pK (eA .lss v9 v8) fun t1=>
 nA t1 (pK (uA (some 3) v7 v9 h) fun t2=>
 pK (kA (some 3) t2 h) fun t3=>
 alK [.p (.str []),.p (.str []),.p (.str [])] h fun t4 h5 y6=>
 wK (RA (some 3) t4 t3 h5) fun t7 h8 y9=>
 pK (oA 0 none t4) fun t10=>
 pK (kA none t10 h8) fun t11=>
 wK (aB false none 1 (.str []) [(0,t11)] h8) fun t12 h13 y14=>
 wK (WC none v3 t12 h13) fun t15 h16 y17=>
 pK (eA .add v9 (AI 1)) fun t18=>
 K .normal ⟨[(3,t15),(7,v7),(8,v8),(9,t18)],h16,(y17++(y14++(y9++(y6++x))))⟩)
 (K (.exit 0) ⟨[(3,v3),(7,v7),(8,v8),(9,v9),(10,t1)],h,x⟩)
theorem zjv {C gl e h x K}:NW C gl kL ⟨e,h,x⟩ K=z3L C gl (aA e 3) (aA e 7) (aA e 8) (aA e 9) h x K:=by kernel_rfl
theorem zmQ {C gl e h x K}:NW C gl (.loop (.scope kL)) ⟨e,h,x⟩ K=FA C gl (.scope kL) K [(3,aA e 3),(7,aA e 7),(8,aA e 8),(9,aA e 9)] h x:=RB
def QR:ACode:=.pr [3] (.seq (rg [mV 19 3,
cL 20 yI [19]] [3])
(.seq (rg [mV 21 3,
cL 22 aG [21],
mV 2 22] [2])
.ret))
def z3M (C:Hd)(gl:GL)(v3:AV)(h:bA)(x:Esc)(K:KT):Prop:=
 C yI [v3] h fun t1 h2 y3=>
 C aG [v3] h2 fun t4 h5 y6=>
 K .ret ⟨[(2,t4)],h5,(y6++(y3++x))⟩
theorem zjw {C gl e h x K}:NW C gl QR ⟨e,h,x⟩ K=z3M C gl (aA e 3) h x K:=by kernel_rfl
def z0F (q1 q2:ACode):ACode:=(.seq (rg [uO 1 (.box 0),
mV 2 (.c (.p (.sl none [])))] [1])
(.seq (rg [uO 3 (.new0 none)] [1,3])
(.seq (.seq (rg [fA 6 1 none 1,
lD 7 none 6,
lN 8 7,
mV 9 (cI 0)] [3,7,8,9])
(.block 0 (.loop (.scope q1))))
q2)))
def MT:AFun:=⟨1,[.t 2],z0F kL QR,true,true⟩
def wM (C:Hd)(gl:GL)(q1 q2:ACode)(v0:AV)(h:bA)(x:Esc)(K:KT):Prop:=
 wK (qB v0 h) fun t1 h2 y3=>
 nwK none h2 fun t4 h5 y6=>
 pK (oA 1 none t1) fun t7=>
 pK (kA none t7 h5) fun t8=>
 pK (yA t8) fun t9=>
 NW C gl (.loop (.scope q1)) ⟨[(3,t4),(7,t8),(8,t9),(9,(AI 0))],h5,(y6++(y3++x))⟩ (wA 0 (OA C gl q2 K))
theorem zat {C gl q1 q2 v0 h x K}:NW C gl (z0F q1 q2) ⟨enter [v0],h,x⟩ K=wM C gl q1 q2 v0 h x K:=by kernel_rfl
theorem zju {C gl v0 h x K}:NW C gl MT.body ⟨enter [v0],h,x⟩ K=wM C gl kL QR v0 h x K:=zat
end Go.Am
end
section
/- The functions asv abstract code,and asv formulas over their values: printed by program out of the translation. -/
set_option linter.unusedVariables false
set_option maxRecDepth 100000
namespace Go.Am
def zbS:ACode:=(.seq (rg [mV 8 0,
cL 9 LB [8,(cI 6)]] [0,1,9])
(.block 0 (.seq (rg [bN 103 .eql 9 (cI 0),
mV 102 103] [0,1,9,102])
(.cond 102 (.seq (rg [mV 104 1,
uO 105 (.nilchk 104),
fA 106 0 none 105,
lD 107 none 106,
lN 108 107,
bN 109 .gtr 108 (cI 0)] [0,1,109])
(.cond 109 (dr [dF (mV 110 1) [1],
dF (uO 111 (.nilchk 110)) [110],
dF (fA 112 0 none 111) [111],
dF (lD 113 none 112) [112],
dF (mV 114 0) [0],
dF (mV 115 1) [1],
dF (uO 116 (.nilchk 115)) [115],
dF (fA 117 0 none 116) [116],
dF (lD 118 none 117) [117],
dF (lN 119 118) [118],
dA (cL 120 LB [114,119]) [114,119] true [] [3],
dF (mV 121 0) [0],
dA (uO 122 (.bsl false none 4 (.str []) [(0,(cS [])),(1,(cS [65])),(2,(cS [117])),(3,(cS [122,122]))])) [] false [10] [],
dA (cL 123 wC [121,122]) [121,122] true [] [3],
dF (iA 124 (some 2) 113 120) [113,120],
dF (fA 125 0 none 124) [124],
dT (wO (.store none 125 123)) [125,123]] [])
.skip))
(.seq (rg [bN 127 .eql 9 (cI 1),
mV 126 127] [0,1,9,126])
(.cond 126 (.seq (rg [mV 128 1,
uO 129 (.nilchk 128),
fA 130 1 none 129,
lD 131 none 130,
lN 132 131,
bN 133 .gtr 132 (cI 0)] [0,1,133])
(.cond 133 (.seq (dr [dF (mV 134 1) [1],
dF (uO 135 (.nilchk 134)) [134],
dF (fA 136 1 none 135) [135],
dF (lD 137 none 136) [136],
dF (mV 138 0) [0],
dF (mV 139 1) [1],
dF (uO 140 (.nilchk 139)) [139],
dF (fA 141 1 none 140) [140],
dF (lD 142 none 141) [141],
dF (lN 143 142) [142],
dA (cL 144 LB [138,143]) [138,143] true [] [3],
dF (iA 145 (some 3) 137 144) [137,144],
dF (mV 4 145) [145]] [0,4])
(dr [dF (mV 146 4) [4],
dF (mV 147 4) [4],
dF (mV 148 4) [4],
dF (mV 149 0) [0],
dF (mV 150 4) [4],
dF (uO 151 (.nilchk 150)) [150],
dF (fA 152 0 none 151) [151],
dF (lD 153 none 152) [152],
dF (uO 154 (.bsl false none 3 (.str []) [(0,153),(1,(cS [])),(2,(cS [110,49]))])) [153],
dT (cL 155 wC [149,154]) [149,154],
dF (mV 156 0) [0],
dF (mV 157 4) [4],
dF (uO 158 (.nilchk 157)) [157],
dF (fA 159 1 none 158) [158],
dA (lD 160 none 159) [159] false [9] [],
dA (uO 161 (.bsl false none 3 (.str []) [(0,160),(1,(cS [122,122])),(2,(cS [117]))])) [160] false [9] [],
dT (cL 162 wC [156,161]) [156,161],
dF (mV 163 0) [0],
dF (mV 164 4) [4],
dF (uO 165 (.nilchk 164)) [164],
dF (fA 166 2 none 165) [165],
dA (lD 167 none 166) [166] false [9,16] [],
dA (uO 168 (.bsl false none 3 (.str []) [(0,167),(1,(cS [112,122])),(2,(cS []))])) [167] false [9,16] [],
dT (cL 169 wC [163,168]) [163,168],
dF (uO 170 (.nilchk 146)) [146],
dF (fA 171 0 none 170) [170],
dT (wO (.store none 171 155)) [171,155],
dF (uO 172 (.nilchk 147)) [147],
dF (fA 173 1 none 172) [172],
dT (wO (.store none 173 162)) [173,162],
dF (uO 174 (.nilchk 148)) [148],
dF (fA 175 2 none 174) [174],
dT (wO (.store none 175 169)) [175,169]] []))
.skip))
(.seq (rg [bN 177 .eql 9 (cI 2),
mV 176 177] [0,1,176])
(.cond 176 (.seq (rg [mV 178 1,
uO 179 (.nilchk 178),
fA 180 2 none 179,
lD 181 none 180,
lN 182 181,
bN 183 .gtr 182 (cI 0)] [0,1,183])
(.cond 183 (.seq (dr [dF (mV 184 1) [1],
dF (uO 185 (.nilchk 184)) [184],
dF (fA 186 2 none 185) [185],
dF (lD 187 none 186) [186],
dF (mV 188 0) [0],
dF (mV 189 1) [1],
dF (uO 190 (.nilchk 189)) [189],
dF (fA 191 2 none 190) [190],
dF (lD 192 none 191) [191],
dF (lN 193 192) [192],
dA (cL 194 LB [188,193]) [188,193] true [] [3],
dF (iA 195 (some 2) 187 194) [187,194],
dF (mV 5 195) [195]] [0,5])
(rg [mV 196 5,
mV 197 5,
mV 198 0,
mV 199 5,
uO 200 (.nilchk 199),
fA 201 0 none 200,
lD 202 none 201,
uO 203 (.bsl false none 3 (.str []) [(0,202),(1,(cS [122,122])),(2,(cS [110,49]))]),
cL 204 wC [198,203],
mV 205 0,
cL 206 TJ [205,(cI 0),(cI 1)],
uO 207 (.nilchk 196),
fA 208 0 none 207,
wO (.store none 208 204),
uO 209 (.nilchk 197),
fA 210 1 none 209,
wO (.store none 210 206)] []))
.skip))
(.seq (.seq (rg [mV 10 1,
uO 11 (.nilchk 10),
fA 12 0 none 11,
lD 13 none 12,
lN 14 13,
bN 15 .eql 14 (cI 0)] [0,1,15])
(.cond 15 .ret
.skip))
(.seq (dr [dF (mV 16 1) [1],
dF (uO 17 (.nilchk 16)) [16],
dF (fA 18 0 none 17) [17],
dF (lD 19 none 18) [18],
dF (mV 20 0) [0],
dF (mV 21 1) [1],
dF (uO 22 (.nilchk 21)) [21],
dF (fA 23 0 none 22) [22],
dF (lD 24 none 23) [23],
dF (lN 25 24) [24],
dA (cL 26 LB [20,25]) [20,25] true [] [3],
dF (iA 27 (some 2) 19 26) [19,26],
dF (mV 6 27) [27]] [0,6])
(.seq (rg [mV 28 6,
uO 29 (.nilchk 28),
fA 30 1 none 29,
lD 31 none 30,
lN 32 31,
bN 33 .gtr 32 (cI 0)] [0,6,33])
(.cond 33 (.seq (dr [dF (mV 34 6) [6],
dF (uO 35 (.nilchk 34)) [34],
dF (fA 36 1 none 35) [35],
dF (lD 37 none 36) [36],
dF (mV 38 0) [0],
dF (mV 39 6) [6],
dF (uO 40 (.nilchk 39)) [39],
dF (fA 41 1 none 40) [40],
dF (lD 42 none 41) [41],
dF (lN 43 42) [42],
dA (cL 44 LB [38,43]) [38,43] true [] [3],
dF (iA 45 (some 4) 37 44) [37,44],
dF (mV 7 45) [45]] [0,7])
(dr [dF (mV 46 7) [7],
dF (mV 47 7) [7],
dF (mV 48 7) [7],
dF (mV 49 7) [7],
dF (mV 50 0) [0],
dF (mV 51 7) [7],
dF (uO 52 (.nilchk 51)) [51],
dF (fA 53 0 none 52) [52],
dF (lD 54 none 53) [53],
dF (mV 55 7) [7],
dF (uO 56 (.nilchk 55)) [55],
dF (fA 57 0 none 56) [56],
dF (lD 58 none 57) [57],
dF (uO 59 (.bsl false none 5 (.int .i64 0) [(0,54),(1,58),(2,(cI 0)),(3,(cI 5)),(4,(cI 3))])) [54,58],
dT (cL 60 mE [50,59]) [50,59],
dF (mV 61 0) [0],
dF (mV 62 7) [7],
dF (uO 63 (.nilchk 62)) [62],
dF (fA 64 1 none 63) [63],
dA (lD 65 none 64) [64] false [14] [],
dF (mV 66 7) [7],
dF (uO 67 (.nilchk 66)) [66],
dF (fA 68 1 none 67) [67],
dA (lD 69 none 68) [68] false [14] [],
dA (uO 70 (.bsl false none 5 (.str []) [(0,65),(1,69),(2,(cS [])),(3,(cS [112,97])),(4,(cS [65]))])) [65,69] false [14] [],
dT (cL 71 wC [61,70]) [61,70],
dF (mV 72 0) [0],
dF (mV 73 7) [7],
dF (uO 74 (.nilchk 73)) [73],
dF (fA 75 2 none 74) [74],
dA (lD 76 none 75) [75] false [14,25] [],
dF (mV 77 7) [7],
dF (uO 78 (.nilchk 77)) [77],
dF (fA 79 2 none 78) [78],
dA (lD 80 none 79) [79] false [14,25] [],
dA (uO 81 (.bsl false none 7 (.int .i64 0) [(0,76),(1,80),(2,(cI (-1))),(3,(cI (-2))),(4,(cI 0)),(5,(cI 99)),(6,(cI 1099511627776))])) [76,80] false [14,25] [],
dT (cL 82 mE [72,81]) [72,81],
dF (mV 83 0) [0],
dF (mV 84 7) [7],
dF (uO 85 (.nilchk 84)) [84],
dF (fA 86 3 none 85) [85],
dA (lD 87 none 86) [86] false [14,25,36] [],
dF (mV 88 7) [7],
dF (uO 89 (.nilchk 88)) [88],
dF (fA 90 3 none 89) [89],
dA (lD 91 none 90) [90] false [14,25,36] [],
dA (uO 92 (.bsl false none 6 (.int .i64 0) [(0,87),(1,91),(2,(cI 0)),(3,(cI 1)),(4,(cI 2)),(5,(cI (-1)))])) [87,91] false [14,25,36] [],
dT (cL 93 mE [83,92]) [83,92],
dF (uO 94 (.nilchk 46)) [46],
dF (fA 95 0 none 94) [94],
dT (wO (.store none 95 60)) [95,60],
dF (uO 96 (.nilchk 47)) [47],
dF (fA 97 1 none 96) [96],
dT (wO (.store none 97 71)) [97,71],
dF (uO 98 (.nilchk 48)) [48],
dF (fA 99 2 none 98) [98],
dT (wO (.store none 99 82)) [99,82],
dF (uO 100 (.nilchk 49)) [49],
dF (fA 101 3 none 100) [100],
dT (wO (.store none 101 93)) [101,93]] []))
.skip))))))))))))
def FT:AFun:=⟨2,[],zbS,false,false⟩
def jF (C:Hd)(gl:GL)(v0 v1:AV)(h:bA)(x:Esc)(K:KT):Prop:=
 C LB [v0,(AI 6)] h fun t1 h2 y3=>
 pK (eA .eql t1 (AI 0)) fun t4=>
 nA t4 (pK (jB v1) fun t5=>
 pK (oA 0 none t5) fun t6=>
 pK (kA none t6 h2) fun t7=>
 pK (yA t7) fun t8=>
 pK (eA .gtr t8 (AI 0)) fun t9=>
 nA t9 (pK (jB v1) fun t10=>
 pK (oA 0 none t10) fun t11=>
 pK (kA none t11 h2) fun t12=>
 pK (jB v1) fun t13=>
 pK (oA 0 none t13) fun t14=>
 pK (kA none t14 h2) fun t15=>
 pK (yA t15) fun t16=>
 GB C LB [v0,t16] h2 fun t17 h18 y19=>
 (pK (kA none t11 h18) fun v=>(fun u (g1:bA) (y1:Esc)=>u=t12∧g1=h18∧y1=[]) v h18 [])∧(wK (aB false none 4 (.str []) [(0,(.p (.str []))),(1,(.p (.str [65]))),(2,(.p (.str [117]))),(3,(.p (.str [122,122])))] h18) fun t20 h21 y22=>
 (h21=h18∧y22=[])∧((wK (aB false none 4 (.str []) [(0,(.p (.str []))),(1,(.p (.str [65]))),(2,(.p (.str [117]))),(3,(.p (.str [122,122])))] h2) (fun u (g1:bA) (y1:Esc)=>u=t20∧g1=h2∧y1=[]))∧(GB C wC [v0,t20] h21 fun t23 h24 y25=>
 (pK (kA none t11 h24) fun v=>(fun u (g1:bA) (y1:Esc)=>u=t12∧g1=h24∧y1=[]) v h24 [])∧(pK (uA (some 2) t12 t17 h24) fun t26=>
 pK (oA 0 none t26) fun t27=>
 wK (RA none t27 t23 h24) fun t28 h29 y30=>
 K .normal ⟨[],h29,(y30++(y25++(y22++(y19++(y3++x)))))⟩)))))
 (K .normal ⟨[(0,v0),(1,v1),(109,t9)],h2,(y3++x)⟩))
 (pK (eA .eql t1 (AI 1)) fun t31=>
 nA t31 (pK (jB v1) fun t32=>
 pK (oA 1 none t32) fun t33=>
 pK (kA none t33 h2) fun t34=>
 pK (yA t34) fun t35=>
 pK (eA .gtr t35 (AI 0)) fun t36=>
 nA t36 (pK (jB v1) fun t37=>
 pK (oA 1 none t37) fun t38=>
 pK (kA none t38 h2) fun t39=>
 pK (jB v1) fun t40=>
 pK (oA 1 none t40) fun t41=>
 pK (kA none t41 h2) fun t42=>
 pK (yA t42) fun t43=>
 GB C LB [v0,t43] h2 fun t44 h45 y46=>
 (pK (kA none t38 h45) fun v=>(fun u (g1:bA) (y1:Esc)=>u=t39∧g1=h45∧y1=[]) v h45 [])∧(pK (uA (some 3) t39 t44 h45) fun t47=>
 pK (jB t47) fun t48=>
 pK (oA 0 none t48) fun t49=>
 pK (kA none t49 h45) fun t50=>
 wK (aB false none 3 (.str []) [(0,t50),(1,(.p (.str []))),(2,(.p (.str [110,49])))] h45) fun t51 h52 y53=>
 (h52=h45∧y53=[])∧(GB C wC [v0,t51] h52 fun t54 h55 y56=>
 pK (jB t47) fun t57=>
 pK (oA 1 none t57) fun t58=>
 pK (kA none t58 h55) fun t59=>
 (pK (kA none t58 h52) fun v=>(fun u (g1:bA) (y1:Esc)=>u=t59∧g1=h52∧y1=[]) v h52 [])∧(wK (aB false none 3 (.str []) [(0,t59),(1,(.p (.str [122,122]))),(2,(.p (.str [117])))] h55) fun t60 h61 y62=>
 (h61=h55∧y62=[])∧((wK (aB false none 3 (.str []) [(0,t59),(1,(.p (.str [122,122]))),(2,(.p (.str [117])))] h52) (fun u (g1:bA) (y1:Esc)=>u=t60∧g1=h52∧y1=[]))∧(GB C wC [v0,t60] h61 fun t63 h64 y65=>
 pK (jB t47) fun t66=>
 pK (oA 2 none t66) fun t67=>
 pK (kA none t67 h64) fun t68=>
 (pK (kA none t67 h52) fun v=>(fun u (g1:bA) (y1:Esc)=>u=t68∧g1=h52∧y1=[]) v h52 [])∧((pK (kA none t67 h61) fun v=>(fun u (g1:bA) (y1:Esc)=>u=t68∧g1=h61∧y1=[]) v h61 [])∧(wK (aB false none 3 (.str []) [(0,t68),(1,(.p (.str [112,122]))),(2,(.p (.str [])))] h64) fun t69 h70 y71=>
 (h70=h64∧y71=[])∧((wK (aB false none 3 (.str []) [(0,t68),(1,(.p (.str [112,122]))),(2,(.p (.str [])))] h52) (fun u (g1:bA) (y1:Esc)=>u=t69∧g1=h52∧y1=[]))∧((wK (aB false none 3 (.str []) [(0,t68),(1,(.p (.str [112,122]))),(2,(.p (.str [])))] h61) (fun u (g1:bA) (y1:Esc)=>u=t69∧g1=h61∧y1=[]))∧(GB C wC [v0,t69] h70 fun t72 h73 y74=>
 pK (jB t47) fun t75=>
 pK (oA 0 none t75) fun t76=>
 wK (RA none t76 t54 h73) fun t77 h78 y79=>
 pK (jB t47) fun t80=>
 pK (oA 1 none t80) fun t81=>
 wK (RA none t81 t63 h78) fun t82 h83 y84=>
 pK (jB t47) fun t85=>
 pK (oA 2 none t85) fun t86=>
 wK (RA none t86 t72 h83) fun t87 h88 y89=>
 K .normal ⟨[],h88,(y89++(y84++(y79++(y74++(y71++(y65++(y62++(y56++(y53++(y46++(y3++x)))))))))))⟩)))))))))))
 (K .normal ⟨[(0,v0),(1,v1),(133,t36)],h2,(y3++x)⟩))
 (pK (eA .eql t1 (AI 2)) fun t90=>
 nA t90 (pK (jB v1) fun t91=>
 pK (oA 2 none t91) fun t92=>
 pK (kA none t92 h2) fun t93=>
 pK (yA t93) fun t94=>
 pK (eA .gtr t94 (AI 0)) fun t95=>
 nA t95 (pK (jB v1) fun t96=>
 pK (oA 2 none t96) fun t97=>
 pK (kA none t97 h2) fun t98=>
 pK (jB v1) fun t99=>
 pK (oA 2 none t99) fun t100=>
 pK (kA none t100 h2) fun t101=>
 pK (yA t101) fun t102=>
 GB C LB [v0,t102] h2 fun t103 h104 y105=>
 (pK (kA none t97 h104) fun v=>(fun u (g1:bA) (y1:Esc)=>u=t98∧g1=h104∧y1=[]) v h104 [])∧(pK (uA (some 2) t98 t103 h104) fun t106=>
 pK (jB t106) fun t107=>
 pK (oA 0 none t107) fun t108=>
 pK (kA none t108 h104) fun t109=>
 wK (aB false none 3 (.str []) [(0,t109),(1,(.p (.str [122,122]))),(2,(.p (.str [110,49])))] h104) fun t110 h111 y112=>
 C wC [v0,t110] h111 fun t113 h114 y115=>
 C TJ [v0,(AI 0),(AI 1)] h114 fun t116 h117 y118=>
 pK (jB t106) fun t119=>
 pK (oA 0 none t119) fun t120=>
 wK (RA none t120 t113 h117) fun t121 h122 y123=>
 pK (jB t106) fun t124=>
 pK (oA 1 none t124) fun t125=>
 wK (RA none t125 t116 h122) fun t126 h127 y128=>
 K .normal ⟨[],h127,(y128++(y123++(y118++(y115++(y112++(y105++(y3++x)))))))⟩))
 (K .normal ⟨[(0,v0),(1,v1),(183,t95)],h2,(y3++x)⟩))
 (pK (jB v1) fun t129=>
 pK (oA 0 none t129) fun t130=>
 pK (kA none t130 h2) fun t131=>
 pK (yA t131) fun t132=>
 pK (eA .eql t132 (AI 0)) fun t133=>
 nA t133 (K .ret ⟨[(0,v0),(1,v1),(15,t133)],h2,(y3++x)⟩)
 (pK (jB v1) fun t134=>
 pK (oA 0 none t134) fun t135=>
 pK (kA none t135 h2) fun t136=>
 pK (jB v1) fun t137=>
 pK (oA 0 none t137) fun t138=>
 pK (kA none t138 h2) fun t139=>
 pK (yA t139) fun t140=>
 GB C LB [v0,t140] h2 fun t141 h142 y143=>
 (pK (kA none t135 h142) fun v=>(fun u (g1:bA) (y1:Esc)=>u=t136∧g1=h142∧y1=[]) v h142 [])∧(pK (uA (some 2) t136 t141 h142) fun t144=>
 pK (jB t144) fun t145=>
 pK (oA 1 none t145) fun t146=>
 pK (kA none t146 h142) fun t147=>
 pK (yA t147) fun t148=>
 pK (eA .gtr t148 (AI 0)) fun t149=>
 nA t149 (pK (jB t144) fun t150=>
 pK (oA 1 none t150) fun t151=>
 pK (kA none t151 h142) fun t152=>
 pK (jB t144) fun t153=>
 pK (oA 1 none t153) fun t154=>
 pK (kA none t154 h142) fun t155=>
 pK (yA t155) fun t156=>
 GB C LB [v0,t156] h142 fun t157 h158 y159=>
 (pK (kA none t151 h158) fun v=>(fun u (g1:bA) (y1:Esc)=>u=t152∧g1=h158∧y1=[]) v h158 [])∧(pK (uA (some 4) t152 t157 h158) fun t160=>
 pK (jB t160) fun t161=>
 pK (oA 0 none t161) fun t162=>
 pK (kA none t162 h158) fun t163=>
 pK (jB t160) fun t164=>
 pK (oA 0 none t164) fun t165=>
 pK (kA none t165 h158) fun t166=>
 wK (aB false none 5 (.int .i64 0) [(0,t163),(1,t166),(2,(AI 0)),(3,(AI 5)),(4,(AI 3))] h158) fun t167 h168 y169=>
 (h168=h158∧y169=[])∧(GB C mE [v0,t167] h168 fun t170 h171 y172=>
 pK (jB t160) fun t173=>
 pK (oA 1 none t173) fun t174=>
 pK (kA none t174 h171) fun t175=>
 (pK (kA none t174 h168) fun v=>(fun u (g1:bA) (y1:Esc)=>u=t175∧g1=h168∧y1=[]) v h168 [])∧(pK (jB t160) fun t176=>
 pK (oA 1 none t176) fun t177=>
 pK (kA none t177 h171) fun t178=>
 (pK (kA none t177 h168) fun v=>(fun u (g1:bA) (y1:Esc)=>u=t178∧g1=h168∧y1=[]) v h168 [])∧(wK (aB false none 5 (.str []) [(0,t175),(1,t178),(2,(.p (.str []))),(3,(.p (.str [112,97]))),(4,(.p (.str [65])))] h171) fun t179 h180 y181=>
 (h180=h171∧y181=[])∧((wK (aB false none 5 (.str []) [(0,t175),(1,t178),(2,(.p (.str []))),(3,(.p (.str [112,97]))),(4,(.p (.str [65])))] h168) (fun u (g1:bA) (y1:Esc)=>u=t179∧g1=h168∧y1=[]))∧(GB C wC [v0,t179] h180 fun t182 h183 y184=>
 pK (jB t160) fun t185=>
 pK (oA 2 none t185) fun t186=>
 pK (kA none t186 h183) fun t187=>
 (pK (kA none t186 h168) fun v=>(fun u (g1:bA) (y1:Esc)=>u=t187∧g1=h168∧y1=[]) v h168 [])∧((pK (kA none t186 h180) fun v=>(fun u (g1:bA) (y1:Esc)=>u=t187∧g1=h180∧y1=[]) v h180 [])∧(pK (jB t160) fun t188=>
 pK (oA 2 none t188) fun t189=>
 pK (kA none t189 h183) fun t190=>
 (pK (kA none t189 h168) fun v=>(fun u (g1:bA) (y1:Esc)=>u=t190∧g1=h168∧y1=[]) v h168 [])∧((pK (kA none t189 h180) fun v=>(fun u (g1:bA) (y1:Esc)=>u=t190∧g1=h180∧y1=[]) v h180 [])∧(wK (aB false none 7 (.int .i64 0) [(0,t187),(1,t190),(2,(AI (-1))),(3,(AI (-2))),(4,(AI 0)),(5,(AI 99)),(6,(AI 1099511627776))] h183) fun t191 h192 y193=>
 (h192=h183∧y193=[])∧((wK (aB false none 7 (.int .i64 0) [(0,t187),(1,t190),(2,(AI (-1))),(3,(AI (-2))),(4,(AI 0)),(5,(AI 99)),(6,(AI 1099511627776))] h168) (fun u (g1:bA) (y1:Esc)=>u=t191∧g1=h168∧y1=[]))∧((wK (aB false none 7 (.int .i64 0) [(0,t187),(1,t190),(2,(AI (-1))),(3,(AI (-2))),(4,(AI 0)),(5,(AI 99)),(6,(AI 1099511627776))] h180) (fun u (g1:bA) (y1:Esc)=>u=t191∧g1=h180∧y1=[]))∧(GB C mE [v0,t191] h192 fun t194 h195 y196=>
 pK (jB t160) fun t197=>
 pK (oA 3 none t197) fun t198=>
 pK (kA none t198 h195) fun t199=>
 (pK (kA none t198 h168) fun v=>(fun u (g1:bA) (y1:Esc)=>u=t199∧g1=h168∧y1=[]) v h168 [])∧((pK (kA none t198 h180) fun v=>(fun u (g1:bA) (y1:Esc)=>u=t199∧g1=h180∧y1=[]) v h180 [])∧((pK (kA none t198 h192) fun v=>(fun u (g1:bA) (y1:Esc)=>u=t199∧g1=h192∧y1=[]) v h192 [])∧(pK (jB t160) fun t200=>
 pK (oA 3 none t200) fun t201=>
 pK (kA none t201 h195) fun t202=>
 (pK (kA none t201 h168) fun v=>(fun u (g1:bA) (y1:Esc)=>u=t202∧g1=h168∧y1=[]) v h168 [])∧((pK (kA none t201 h180) fun v=>(fun u (g1:bA) (y1:Esc)=>u=t202∧g1=h180∧y1=[]) v h180 [])∧((pK (kA none t201 h192) fun v=>(fun u (g1:bA) (y1:Esc)=>u=t202∧g1=h192∧y1=[]) v h192 [])∧(wK (aB false none 6 (.int .i64 0) [(0,t199),(1,t202),(2,(AI 0)),(3,(AI 1)),(4,(AI 2)),(5,(AI (-1)))] h195) fun t203 h204 y205=>
 (h204=h195∧y205=[])∧((wK (aB false none 6 (.int .i64 0) [(0,t199),(1,t202),(2,(AI 0)),(3,(AI 1)),(4,(AI 2)),(5,(AI (-1)))] h168) (fun u (g1:bA) (y1:Esc)=>u=t203∧g1=h168∧y1=[]))∧((wK (aB false none 6 (.int .i64 0) [(0,t199),(1,t202),(2,(AI 0)),(3,(AI 1)),(4,(AI 2)),(5,(AI (-1)))] h180) (fun u (g1:bA) (y1:Esc)=>u=t203∧g1=h180∧y1=[]))∧((wK (aB false none 6 (.int .i64 0) [(0,t199),(1,t202),(2,(AI 0)),(3,(AI 1)),(4,(AI 2)),(5,(AI (-1)))] h192) (fun u (g1:bA) (y1:Esc)=>u=t203∧g1=h192∧y1=[]))∧(GB C mE [v0,t203] h204 fun t206 h207 y208=>
 pK (jB t160) fun t209=>
 pK (oA 0 none t209) fun t210=>
 wK (RA none t210 t170 h207) fun t211 h212 y213=>
 pK (jB t160) fun t214=>
 pK (oA 1 none t214) fun t215=>
 wK (RA none t215 t182 h212) fun t216 h217 y218=>
 pK (jB t160) fun t219=>
 pK (oA 2 none t219) fun t220=>
 wK (RA none t220 t194 h217) fun t221 h222 y223=>
 pK (jB t160) fun t224=>
 pK (oA 3 none t224) fun t225=>
 wK (RA none t225 t206 h222) fun t226 h227 y228=>
 K .normal ⟨[],h227,(y228++(y223++(y218++(y213++(y208++(y205++(y196++(y193++(y184++(y181++(y172++(y169++(y159++(y143++(y3++x)))))))))))))))⟩))))))))))))))))))))))))
 (K .normal ⟨[(0,v0),(6,t144),(33,t149)],h142,(y143++(y3++x))⟩))))))
theorem zjh {C gl v0 v1 h x K}:NW C gl FT.body ⟨enter [v0,v1],h,x⟩ K=jF C gl v0 v1 h x K:=by kernel_rfl
def zbV:ACode:=(.seq (rg [mV 2 cF] [0])
(.seq (rg [mV 3 0,
uO 4 (.lens 3),
cL 5 UD [4,(cI 1),(cI 40)],
mV 6 5,
gD 7 6 true (.mv 0),
gD 8 6 true (.slstr 7 none (some (cI 1))),
gD 9 6 true (.call ZF [8,(cS [97,98,99,100,101,102,103,104,105,106,107,108,109,110,111,112,113,114,115,116,117,118,119,120,121,122])]),
uO 10 (.pick 6 9 cF),
mV 11 10,
gD 12 11 true (.mv 0),
gD 13 11 true (.call ZF [12,(cS [97,98,99,100,101,102,103,104,105,106,107,108,109,110,111,112,113,114,115,116,117,118,119,120,121,122,48,49,50,51,52,53,54,55,56,57,45,95])]),
uO 14 (.pick 11 13 cF),
mV 2 14] [2])
.ret))
def LT:AFun:=⟨1,[.t 2],zbV,false,false⟩
def DJ (C:Hd)(gl:GL)(v0:AV)(h:bA)(x:Esc)(K:KT):Prop:=
 pK (CD v0) fun t1=>
 C UD [t1,(AI 1),(AI 40)] h fun t2 h3 y4=>
 gM t2 true v0 h3 fun t5 h6 y7=>
 gP t2 true (jG t5 none (some (AI 1))) h6 fun t8 h9 y10=>
 gV t2 true h9 (C ZF [t8,(.p (.str [97,98,99,100,101,102,103,104,105,106,107,108,109,110,111,112,113,114,115,116,117,118,119,120,121,122]))] h9) fun t11 h12 y13=>
 pK (LA t2 t11 (AB false)) fun t14=>
 gM t14 true v0 h12 fun t15 h16 y17=>
 gV t14 true h16 (C ZF [t15,(.p (.str [97,98,99,100,101,102,103,104,105,106,107,108,109,110,111,112,113,114,115,116,117,118,119,120,121,122,48,49,50,51,52,53,54,55,56,57,45,95]))] h16) fun t18 h19 y20=>
 pK (LA t14 t18 (AB false)) fun t21=>
 K .ret ⟨[(2,t21)],h19,(y20++(y17++(y13++(y10++(y7++(y4++x))))))⟩
theorem zjt {C gl v0 h x K}:NW C gl LT.body ⟨enter [v0],h,x⟩ K=DJ C gl v0 h x K:=by kernel_rfl
def mL:ACode:=.pr [1,13,14,15] (.seq (rg [bN 16 .lss 15 14] [1,13,14,15,16])
(.seq (.cond 16 .skip
(.exit 0))
(.seq (.block 1 (.seq (rg [iA 17 (some 4) 13 15,
lD 18 (some 4) 17,
uO 4 (.alloc [.p (.int .i64 0),.p (.str []),.p (.int .i64 0),.p (.int .i64 0)]),
wO (.store (some 4) 4 18)] [1,4,13,14,15])
(.seq (rg [fA 19 1 none 1,
lD 20 none 19,
lD 21 (some 4) 4,
cL 22 YJ [20,21],
mV 5 22] [1,5,13,14,15])
(.seq (rg [mV 23 5,
bN 24 .neq 23 (cI 0)] [1,5,13,14,15,24])
(.cond 24 (.seq (rg [mV 25 5,
mV 2 25] [2])
.ret)
.skip)))))
(rg [bN 26 .add 15 (cI 1),
mV 15 26] [1,13,14,15]))))
def z3P (C:Hd)(gl:GL)(v1 v13 v14 v15:AV)(h:bA)(x:Esc)(K:KT):Prop:=
 pK (eA .lss v15 v14) fun t1=>
 nA t1 (pK (uA (some 4) v13 v15 h) fun t2=>
 pK (kA (some 4) t2 h) fun t3=>
 alK [.p (.int .i64 0),.p (.str []),.p (.int .i64 0),.p (.int .i64 0)] h fun t4 h5 y6=>
 wK (RA (some 4) t4 t3 h5) fun t7 h8 y9=>
 pK (oA 1 none v1) fun t10=>
 pK (kA none t10 h8) fun t11=>
 pK (kA (some 4) t4 h8) fun t12=>
 C YJ [t11,t12] h8 fun t13 h14 y15=>
 pK (eA .neq t13 (AI 0)) fun t16=>
 nA t16 (K .ret ⟨[(2,t13)],h14,(y15++(y9++(y6++x)))⟩)
 (pK (eA .add v15 (AI 1)) fun t17=>
 K .normal ⟨[(1,v1),(13,v13),(14,v14),(15,t17)],h14,(y15++(y9++(y6++x)))⟩))
 (K (.exit 0) ⟨[(1,v1),(13,v13),(14,v14),(15,v15),(16,t1)],h,x⟩)
theorem zj7 {C gl e h x K}:NW C gl mL ⟨e,h,x⟩ K=z3P C gl (aA e 1) (aA e 13) (aA e 14) (aA e 15) h x K:=by kernel_rfl
theorem zmS {C gl e h x K}:NW C gl (.loop (.scope mL)) ⟨e,h,x⟩ K=FA C gl (.scope mL) K [(1,aA e 1),(13,aA e 13),(14,aA e 14),(15,aA e 15)] h x:=RB
def EN:ACode:=.pr [1,28,29,30] (.seq (rg [bN 31 .lss 30 29] [1,28,29,30,31])
(.seq (.cond 31 .skip
(.exit 2))
(.seq (.block 3 (.seq (rg [mV 32 30,
iA 33 (some 4) 28 30,
lD 34 (some 4) 33,
uO 7 (.alloc [.p (.int .i64 0),.p (.str []),.p (.int .i64 0),.p (.int .i64 0)]),
mV 6 32,
wO (.store (some 4) 7 34)] [1,6,7,28,29,30])
(.seq (rg [fA 35 1 none 7,
lD 36 none 35,
bN 37 .neq 36 (cS []),
mV 38 37,
gD 39 38 true (.faddr 1 none 1),
gD 40 38 true (.load none 39),
gD 41 38 true (.mv 6),
gD 42 38 true (.slice (some 4) 40 none (some 41) none),
gD 43 38 true (.mkfn vI [7]),
gD 44 38 true (.call JD [42,43]),
uO 45 (.pick 38 44 cF)] [1,28,29,30,45])
(.cond 45 (.seq (rg [mV 2 (cI 6)] [2])
.ret)
.skip))))
(rg [bN 46 .add 30 (cI 1),
mV 30 46] [1,28,29,30]))))
def z3Q (C:Hd)(gl:GL)(v1 v28 v29 v30:AV)(h:bA)(x:Esc)(K:KT):Prop:=
 pK (eA .lss v30 v29) fun t1=>
 nA t1 (pK (uA (some 4) v28 v30 h) fun t2=>
 pK (kA (some 4) t2 h) fun t3=>
 alK [.p (.int .i64 0),.p (.str []),.p (.int .i64 0),.p (.int .i64 0)] h fun t4 h5 y6=>
 wK (RA (some 4) t4 t3 h5) fun t7 h8 y9=>
 pK (oA 1 none t4) fun t10=>
 pK (kA none t10 h8) fun t11=>
 pK (eA .neq t11 (.p (.str []))) fun t12=>
 gP t12 true (oA 1 none v1) h8 fun t13 h14 y15=>
 gP t12 true (kA none t13 h14) h14 fun t16 h17 y18=>
 gM t12 true v30 h17 fun t19 h20 y21=>
 gP t12 true (qE (some 4) t16 none (some t19) none h20) h20 fun t22 h23 y24=>
 gM t12 true (.fn vI [t4]) h23 fun t25 h26 y27=>
 gV t12 true h26 (C JD [t22,t25] h26) fun t28 h29 y30=>
 pK (LA t12 t28 (AB false)) fun t31=>
 nA t31 (K .ret ⟨[(2,(AI 6))],h29,(y30++(y27++(y24++(y21++(y18++(y15++(y9++(y6++x))))))))⟩)
 (pK (eA .add v30 (AI 1)) fun t32=>
 K .normal ⟨[(1,v1),(28,v28),(29,v29),(30,t32)],h29,(y30++(y27++(y24++(y21++(y18++(y15++(y9++(y6++x))))))))⟩))
 (K (.exit 2) ⟨[(1,v1),(28,v28),(29,v29),(30,v30),(31,t1)],h,x⟩)
theorem zj8 {C gl e h x K}:NW C gl EN ⟨e,h,x⟩ K=z3Q C gl (aA e 1) (aA e 28) (aA e 29) (aA e 30) h x K:=by kernel_rfl
theorem zmT {C gl e h x K}:NW C gl (.loop (.scope EN)) ⟨e,h,x⟩ K=FA C gl (.scope EN) K [(1,aA e 1),(28,aA e 28),(29,aA e 29),(30,aA e 30)] h x:=RB
def YX:ACode:=.pr [] (.seq (rg [mV 2 (cI 0)] [2])
.ret)
def z3R (C:Hd)(gl:GL)(h:bA)(x:Esc)(K:KT):Prop:=
 K .ret ⟨[(2,(AI 0))],h,x⟩
theorem zj9 {C gl e h x K}:NW C gl YX ⟨e,h,x⟩ K=z3R C gl h x K:=by kernel_rfl
def z0I (q2 q3:ACode):ACode:=.pr [1] (.seq (.seq (rg [fA 27 1 none 1,
lD 28 none 27,
lN 29 28,
mV 30 (cI 0)] [1,28,29,30])
(.block 2 (.loop (.scope q2))))
q3)
def FN:ACode:=z0I EN YX
def zM (C:Hd)(gl:GL)(q2 q3:ACode)(v1:AV)(h:bA)(x:Esc)(K:KT):Prop:=
 pK (oA 1 none v1) fun t1=>
 pK (kA none t1 h) fun t2=>
 pK (yA t2) fun t3=>
 NW C gl (.loop (.scope q2)) ⟨[(1,v1),(28,t2),(29,t3),(30,(AI 0))],h,x⟩ (wA 2 (OA C gl q3 K))
theorem zaw {C gl q2 q3 e h x K}:NW C gl (z0I q2 q3) ⟨e,h,x⟩ K=zM C gl q2 q3 (aA e 1) h x K:=by kernel_rfl
theorem oW {C gl e h x K}:NW C gl FN ⟨e,h,x⟩ K=zM C gl EN YX (aA e 1) h x K:=zaw
def z0H (q1 q4:ACode):ACode:=(.seq (rg [uO 1 (.box 0),
mV 2 (cI 0)] [1])
(.seq (.seq (rg [fA 8 1 none 1,
lD 9 none 8,
lN 10 9,
bN 11 .gtr 10 (cI 200)] [1,11])
(.cond 11 (.seq (rg [mV 2 (cI 2)] [2])
.ret)
.skip))
(.seq (.seq (rg [fA 12 1 none 1,
lD 13 none 12,
lN 14 13,
mV 15 (cI 0)] [1,13,14,15])
(.block 0 (.loop (.scope q1))))
q4)))
def VT:AFun:=⟨1,[.t 2],z0H mL FN,false,false⟩
def yM (C:Hd)(gl:GL)(q1 q4:ACode)(v0:AV)(h:bA)(x:Esc)(K:KT):Prop:=
 wK (qB v0 h) fun t1 h2 y3=>
 pK (oA 1 none t1) fun t4=>
 pK (kA none t4 h2) fun t5=>
 pK (yA t5) fun t6=>
 pK (eA .gtr t6 (AI 200)) fun t7=>
 nA t7 (K .ret ⟨[(2,(AI 2))],h2,(y3++x)⟩)
 (pK (oA 1 none t1) fun t8=>
 pK (kA none t8 h2) fun t9=>
 pK (yA t9) fun t10=>
 NW C gl (.loop (.scope q1)) ⟨[(1,t1),(13,t9),(14,t10),(15,(AI 0))],h2,(y3++x)⟩ (wA 0 (OA C gl q4 K)))
theorem zav {C gl q1 q4 v0 h x K}:NW C gl (z0H q1 q4) ⟨enter [v0],h,x⟩ K=yM C gl q1 q4 v0 h x K:=by kernel_rfl
theorem zj6 {C gl v0 h x K}:NW C gl VT.body ⟨enter [v0],h,x⟩ K=yM C gl mL FN v0 h x K:=zav
def zbZ:ACode:=(.seq (rg [uO 3 (.box 0),
uO 5 (.box 2),
mV 6 cF] [1,3,5])
(.seq (rg [lD 8 (some 3) 3,
mV 9 1,
cL 10 XJ [8,9],
mV 7 10] [3,5,7])
(.seq (rg [mV 11 7,
bN 12 .geq 11 (cI 0),
mV 13 12,
gD 14 13 true (.load none 5),
gD 15 13 true (.bin .neq 14 (cS [])),
uO 16 (.pick 13 15 cF),
mV 17 16,
gD 18 17 true (.faddr 0 none 3),
gD 19 17 true (.load none 18),
gD 20 17 true (.mv 7),
gD 21 17 true (.iaddr (some 2) 19 20),
gD 22 17 true (.faddr 1 none 21),
gD 23 17 true (.load none 22),
gD 24 17 true (.mkfn uI [5]),
gD 25 17 true (.call JD [23,24]),
uO 26 (.pick 17 25 cF),
mV 6 26] [6])
.ret)))
def QT:AFun:=⟨3,[.t 6],zbZ,false,false⟩
def xM (C:Hd)(gl:GL)(v0 v1 v2:AV)(h:bA)(x:Esc)(K:KT):Prop:=
 wK (qB v0 h) fun t1 h2 y3=>
 wK (qB v2 h2) fun t4 h5 y6=>
 pK (kA (some 3) t1 h5) fun t7=>
 C XJ [t7,v1] h5 fun t8 h9 y10=>
 pK (eA .geq t8 (AI 0)) fun t11=>
 gP t11 true (kA none t4 h9) h9 fun t12 h13 y14=>
 gP t11 true (eA .neq t12 (.p (.str []))) h13 fun t15 h16 y17=>
 pK (LA t11 t15 (AB false)) fun t18=>
 gP t18 true (oA 0 none t1) h16 fun t19 h20 y21=>
 gP t18 true (kA none t19 h20) h20 fun t22 h23 y24=>
 gM t18 true t8 h23 fun t25 h26 y27=>
 gP t18 true (uA (some 2) t22 t25 h26) h26 fun t28 h29 y30=>
 gP t18 true (oA 1 none t28) h29 fun t31 h32 y33=>
 gP t18 true (kA none t31 h32) h32 fun t34 h35 y36=>
 gM t18 true (.fn uI [t4]) h35 fun t37 h38 y39=>
 gV t18 true h38 (C JD [t34,t37] h38) fun t40 h41 y42=>
 pK (LA t18 t40 (AB false)) fun t43=>
 K .ret ⟨[(6,t43)],h41,(y42++(y39++(y36++(y33++(y30++(y27++(y24++(y21++(y17++(y14++(y10++(y6++(y3++x)))))))))))))⟩
theorem zj0 {C gl v0 v1 v2 h x K}:NW C gl QT.body ⟨enter [v0,v1,v2],h,x⟩ K=xM C gl v0 v1 v2 h x K:=by kernel_rfl
def zce:ACode:=(.seq (rg [mV 4 cF] [0,1])
(.seq (rg [mV 5 0,
mV 6 1,
cL 7 iK [5,6],
bN 8 .geq 7 (cI 0),
mV 4 8] [4])
.ret))
def YT:AFun:=⟨2,[.t 4],zce,true,false⟩
def IV (C:Hd)(gl:GL)(v0 v1:AV)(h:bA)(x:Esc)(K:KT):Prop:=
 C iK [v0,v1] h fun t1 h2 y3=>
 pK (eA .geq t1 (AI 0)) fun t4=>
 K .ret ⟨[(4,t4)],h2,(y3++x)⟩
theorem zjP {C gl v0 v1 h x K}:NW C gl YT.body ⟨enter [v0,v1],h,x⟩ K=IV C gl v0 v1 h x K:=by kernel_rfl
def zbU:ACode:=(.seq (rg [uO 2 (.box 0),
mV 3 cF] [1,2])
(.seq (rg [fA 4 1 none 2,
lD 5 none 4,
fA 6 1 none 1,
lD 7 none 6,
bN 8 .eql 5 7,
mV 9 8,
gD 10 9 true (.faddr 2 none 2),
gD 11 9 true (.load none 10),
gD 12 9 true (.faddr 2 none 1),
gD 13 9 true (.load none 12),
gD 14 9 true (.bin .eql 11 13),
uO 15 (.pick 9 14 cF),
mV 3 15] [3])
.ret))
def JT:AFun:=⟨2,[.t 3],zbU,false,false⟩
def fQ (C:Hd)(gl:GL)(v0 v1:AV)(h:bA)(x:Esc)(K:KT):Prop:=
 wK (qB v0 h) fun t1 h2 y3=>
 pK (oA 1 none t1) fun t4=>
 pK (kA none t4 h2) fun t5=>
 pK (oA 1 none v1) fun t6=>
 pK (kA none t6 h2) fun t7=>
 pK (eA .eql t5 t7) fun t8=>
 gP t8 true (oA 2 none t1) h2 fun t9 h10 y11=>
 gP t8 true (kA none t9 h10) h10 fun t12 h13 y14=>
 gP t8 true (oA 2 none v1) h13 fun t15 h16 y17=>
 gP t8 true (kA none t15 h16) h16 fun t18 h19 y20=>
 gP t8 true (eA .eql t12 t18) h19 fun t21 h22 y23=>
 pK (LA t8 t21 (AB false)) fun t24=>
 K .ret ⟨[(3,t24)],h22,(y23++(y20++(y17++(y14++(y11++(y3++x))))))⟩
theorem zjs {C gl v0 v1 h x K}:NW C gl JT.body ⟨enter [v0,v1],h,x⟩ K=fQ C gl v0 v1 h x K:=by kernel_rfl
def zcb:ACode:=(.seq (rg [mV 6 cF] [0,1,2])
(.seq (rg [mV 7 1,
mV 8 0,
bN 9 .leq 7 8,
mV 10 9,
gD 11 10 true (.mv 0),
gD 12 10 true (.mv 2),
gD 13 10 true (.bin .leq 11 12),
uO 14 (.pick 10 13 cF),
mV 6 14] [6])
.ret))
def TT:AFun:=⟨3,[.t 6],zcb,false,false⟩
def FV (C:Hd)(gl:GL)(v0 v1 v2:AV)(h:bA)(x:Esc)(K:KT):Prop:=
 pK (eA .leq v1 v0) fun t1=>
 gM t1 true v0 h fun t2 h3 y4=>
 gM t1 true v2 h3 fun t5 h6 y7=>
 gP t1 true (eA .leq t2 t5) h6 fun t8 h9 y10=>
 pK (LA t1 t8 (AB false)) fun t11=>
 K .ret ⟨[(6,t11)],h9,(y10++(y7++(y4++x)))⟩
theorem zj2 {C gl v0 v1 v2 h x K}:NW C gl TT.body ⟨enter [v0,v1,v2],h,x⟩ K=FV C gl v0 v1 v2 h x K:=by kernel_rfl
def DR:ACode:=.pr [0] (.seq (rg [mV 15 0,
mV 4 15] [4])
.ret)
def z3x (C:Hd)(gl:GL)(v0:AV)(h:bA)(x:Esc)(K:KT):Prop:=
 K .ret ⟨[(4,v0)],h,x⟩
theorem zi6 {C gl e h x K}:NW C gl DR ⟨e,h,x⟩ K=z3x C gl (aA e 0) h x K:=by kernel_rfl
def z0o (q1:ACode):ACode:=(.seq (rg [mV 4 (cI 0)] [0,1])
(.seq (.seq (rg [mV 5 1,
bN 6 .lss 5 (cI 1)] [0,1,6])
(.cond 6 (.seq (rg [mV 4 (cI 0)] [4])
.ret)
.skip))
(.seq (rg [mV 7 0,
mV 8 1,
bN 9 .rem 7 8,
mV 0 9] [0,1])
(.seq (.seq (rg [mV 10 0,
bN 11 .lss 10 (cI 0)] [0,1,11])
(.cond 11 (rg [mV 12 0,
mV 13 1,
bN 14 .add 12 13,
mV 0 14] [0])
.skip))
q1))))
def rT:AFun:=⟨2,[.t 4],z0o DR,false,false⟩
def UP (C:Hd)(gl:GL)(q1:ACode)(v0 v1:AV)(h:bA)(x:Esc)(K:KT):Prop:=
 pK (eA .lss v1 (AI 1)) fun t1=>
 nA t1 (K .ret ⟨[(4,(AI 0))],h,x⟩)
 (pK (eA .rem v0 v1) fun t2=>
 pK (eA .lss t2 (AI 0)) fun t3=>
 nA t3 (pK (eA .add t2 v1) fun t4=>
 NW C gl q1 ⟨[(0,t4)],h,x⟩ K)
 (NW C gl q1 ⟨[(0,t2),(1,v1),(11,t3)],h,x⟩ K))
theorem z9S {C gl q1 v0 v1 h x K}:NW C gl (z0o q1) ⟨enter [v0,v1],h,x⟩ K=UP C gl q1 v0 v1 h x K:=by kernel_rfl
theorem zi5 {C gl v0 v1 h x K}:NW C gl rT.body ⟨enter [v0,v1],h,x⟩ K=UP C gl DR v0 v1 h x K:=z9S
def lL:ACode:=.pr [0,1,7,8] (.seq (rg [bN 9 .lss 8 7] [0,1,7,8,9])
(.seq (.cond 9 .skip
(.exit 0))
(.seq (.block 1 (.seq (rg [mV 10 8,
mV 5 10] [0,1,5,7,8])
(.seq (rg [mV 11 1,
mV 12 0,
mV 13 5,
uO 14 (.idxs 12 13),
cL 15 oK [11,14],
bN 16 .lss 15 (cI 0)] [0,1,7,8,16])
(.cond 16 (.seq (rg [mV 4 cF] [4])
.ret)
.skip))))
(rg [bN 17 .add 8 (cI 1),
mV 8 17] [0,1,7,8]))))
def z3N (C:Hd)(gl:GL)(v0 v1 v7 v8:AV)(h:bA)(x:Esc)(K:KT):Prop:=
 pK (eA .lss v8 v7) fun t1=>
 nA t1 (pK (BC v0 v8) fun t2=>
 C oK [v1,t2] h fun t3 h4 y5=>
 pK (eA .lss t3 (AI 0)) fun t6=>
 nA t6 (K .ret ⟨[(4,(AB false))],h4,(y5++x)⟩)
 (pK (eA .add v8 (AI 1)) fun t7=>
 K .normal ⟨[(0,v0),(1,v1),(7,v7),(8,t7)],h4,(y5++x)⟩))
 (K (.exit 0) ⟨[(0,v0),(1,v1),(7,v7),(8,v8),(9,t1)],h,x⟩)
theorem zj4 {C gl e h x K}:NW C gl lL ⟨e,h,x⟩ K=z3N C gl (aA e 0) (aA e 1) (aA e 7) (aA e 8) h x K:=by kernel_rfl
theorem zmR {C gl e h x K}:NW C gl (.loop lL) ⟨e,h,x⟩ K=FA C gl lL K [(0,aA e 0),(1,aA e 1),(7,aA e 7),(8,aA e 8)] h x:=NB
def SR:ACode:=.pr [] (.seq (rg [mV 4 cT] [4])
.ret)
def z3O (C:Hd)(gl:GL)(h:bA)(x:Esc)(K:KT):Prop:=
 K .ret ⟨[(4,(AB true))],h,x⟩
theorem zj5 {C gl e h x K}:NW C gl SR ⟨e,h,x⟩ K=z3O C gl h x K:=by kernel_rfl
def z0G (q1 q2:ACode):ACode:=(.seq (rg [mV 4 cF] [0,1])
(.seq (.seq (rg [mV 6 0,
uO 7 (.lens 6),
mV 8 (cI 0)] [0,1,7,8])
(.block 0 (.loop q1)))
q2))
def UT:AFun:=⟨2,[.t 4],z0G lL SR,false,false⟩
def gQ (C:Hd)(gl:GL)(q1 q2:ACode)(v0 v1:AV)(h:bA)(x:Esc)(K:KT):Prop:=
 pK (CD v0) fun t1=>
 NW C gl (.loop q1) ⟨[(0,v0),(1,v1),(7,t1),(8,(AI 0))],h,x⟩ (wA 0 (OA C gl q2 K))
theorem zau {C gl q1 q2 v0 v1 h x K}:NW C gl (z0G q1 q2) ⟨enter [v0,v1],h,x⟩ K=gQ C gl q1 q2 v0 v1 h x K:=by kernel_rfl
theorem zj3 {C gl v0 v1 h x K}:NW C gl UT.body ⟨enter [v0,v1],h,x⟩ K=gQ C gl lL SR v0 v1 h x K:=zau
def DK:ACode:=.pr [0,23,24] (.seq (rg [bN 25 .lss 24 23] [0,23,24,25])
(.seq (.cond 25 .skip
(.exit 0))
(.seq (.block 1 (.seq (rg [mV 26 24,
mV 3 26] [0,3,23,24])
(.seq (rg [mV 27 0,
mV 28 3,
uO 29 (.idxs 27 28),
mV 4 29] [0,4,23,24])
(.seq (rg [mV 30 4,
bN 31 .geq 30 (.c (.p (.int .u8 97))),
mV 32 31,
gD 33 32 true (.mv 4),
gD 34 32 true (.bin .leq 33 (.c (.p (.int .u8 122)))),
uO 35 (.pick 32 34 cF),
mV 36 35,
gD 37 36 false (.mv 4),
gD 38 36 false (.bin .geq 37 (.c (.p (.int .u8 48)))),
gD 39 36 false (.mv 38),
gD 40 39 true (.mv 4),
gD 41 39 true (.bin .leq 40 (.c (.p (.int .u8 57)))),
gD 42 36 false (.pick 39 41 cF),
uO 43 (.pick 36 cT 42),
mV 44 43,
gD 45 44 false (.mv 4),
gD 46 44 false (.bin .eql 45 (.c (.p (.int .u8 45)))),
uO 47 (.pick 44 cT 46),
mV 48 47,
gD 49 48 false (.mv 4),
gD 50 48 false (.bin .eql 49 (.c (.p (.int .u8 95)))),
uO 51 (.pick 48 cT 50),
uO 52 (.un .not 51)] [0,23,24,52])
(.cond 52 (.seq (rg [mV 2 cF] [2])
.ret)
.skip)))))
(rg [bN 53 .add 24 (cI 1),
mV 24 53] [0,23,24]))))
def z2B (C:Hd)(gl:GL)(v0 v23 v24:AV)(h:bA)(x:Esc)(K:KT):Prop:=
 pK (eA .lss v24 v23) fun t1=>
 nA t1 (pK (BC v0 v24) fun t2=>
 pK (eA .geq t2 (.p (.int .u8 97))) fun t3=>
 gM t3 true t2 h fun t4 h5 y6=>
 gP t3 true (eA .leq t4 (.p (.int .u8 122))) h5 fun t7 h8 y9=>
 pK (LA t3 t7 (AB false)) fun t10=>
 gM t10 false t2 h8 fun t11 h12 y13=>
 gP t10 false (eA .geq t11 (.p (.int .u8 48))) h12 fun t14 h15 y16=>
 gM t10 false t14 h15 fun t17 h18 y19=>
 gM t17 true t2 h18 fun t20 h21 y22=>
 gP t17 true (eA .leq t20 (.p (.int .u8 57))) h21 fun t23 h24 y25=>
 gP t10 false (LA t17 t23 (AB false)) h24 fun t26 h27 y28=>
 pK (LA t10 (AB true) t26) fun t29=>
 gM t29 false t2 h27 fun t30 h31 y32=>
 gP t29 false (eA .eql t30 (.p (.int .u8 45))) h31 fun t33 h34 y35=>
 pK (LA t29 (AB true) t33) fun t36=>
 gM t36 false t2 h34 fun t37 h38 y39=>
 gP t36 false (eA .eql t37 (.p (.int .u8 95))) h38 fun t40 h41 y42=>
 pK (LA t36 (AB true) t40) fun t43=>
 pK (oUn .not t43) fun t44=>
 nA t44 (K .ret ⟨[(2,(AB false))],h41,(y42++(y39++(y35++(y32++(y28++(y25++(y22++(y19++(y16++(y13++(y9++(y6++x))))))))))))⟩)
 (pK (eA .add v24 (AI 1)) fun t45=>
 K .normal ⟨[(0,v0),(23,v23),(24,t45)],h41,(y42++(y39++(y35++(y32++(y28++(y25++(y22++(y19++(y16++(y13++(y9++(y6++x))))))))))))⟩))
 (K (.exit 0) ⟨[(0,v0),(23,v23),(24,v24),(25,t1)],h,x⟩)
theorem zgX {C gl e h x K}:NW C gl DK ⟨e,h,x⟩ K=z2B C gl (aA e 0) (aA e 23) (aA e 24) h x K:=by kernel_rfl
theorem zmi {C gl e h x K}:NW C gl (.loop DK) ⟨e,h,x⟩ K=FA C gl DK K [(0,aA e 0),(23,aA e 23),(24,aA e 24)] h x:=NB
def nR:ACode:=.pr [] (.seq (rg [mV 2 cT] [2])
.ret)
def z2C (C:Hd)(gl:GL)(h:bA)(x:Esc)(K:KT):Prop:=
 K .ret ⟨[(2,(AB true))],h,x⟩
theorem zgY {C gl e h x K}:NW C gl nR ⟨e,h,x⟩ K=z2C C gl h x K:=by kernel_rfl
def DZ (q1 q2:ACode):ACode:=(.seq (rg [mV 2 cF] [0])
(.seq (.seq (rg [mV 5 0,
bN 6 .eql 5 (cS []),
mV 7 6,
gD 8 7 false (.mv 0),
gD 9 7 false (.lens 8),
gD 10 7 false (.bin .gtr 9 (cI 40)),
uO 11 (.pick 7 cT 10),
mV 12 11,
gD 13 12 false (.mv 0),
gD 14 12 false (.idxs 13 (cI 0)),
gD 15 12 false (.bin .lss 14 (.c (.p (.int .u8 97)))),
uO 16 (.pick 12 cT 15),
mV 17 16,
gD 18 17 false (.mv 0),
gD 19 17 false (.idxs 18 (cI 0)),
gD 20 17 false (.bin .gtr 19 (.c (.p (.int .u8 122)))),
uO 21 (.pick 17 cT 20)] [0,21])
(.cond 21 (.seq (rg [mV 2 cF] [2])
.ret)
.skip))
(.seq (.seq (rg [mV 22 0,
uO 23 (.lens 22),
mV 24 (cI 0)] [0,23,24])
(.block 0 (.loop q1)))
q2)))
def tO:AFun:=⟨1,[.t 2],DZ DK nR,false,false⟩
def dH (C:Hd)(gl:GL)(q1 q2:ACode)(v0:AV)(h:bA)(x:Esc)(K:KT):Prop:=
 pK (eA .eql v0 (.p (.str []))) fun t1=>
 gM t1 false v0 h fun t2 h3 y4=>
 gP t1 false (CD t2) h3 fun t5 h6 y7=>
 gP t1 false (eA .gtr t5 (AI 40)) h6 fun t8 h9 y10=>
 pK (LA t1 (AB true) t8) fun t11=>
 gM t11 false v0 h9 fun t12 h13 y14=>
 gP t11 false (BC t12 (AI 0)) h13 fun t15 h16 y17=>
 gP t11 false (eA .lss t15 (.p (.int .u8 97))) h16 fun t18 h19 y20=>
 pK (LA t11 (AB true) t18) fun t21=>
 gM t21 false v0 h19 fun t22 h23 y24=>
 gP t21 false (BC t22 (AI 0)) h23 fun t25 h26 y27=>
 gP t21 false (eA .gtr t25 (.p (.int .u8 122))) h26 fun t28 h29 y30=>
 pK (LA t21 (AB true) t28) fun t31=>
 nA t31 (K .ret ⟨[(2,(AB false))],h29,(y30++(y27++(y24++(y20++(y17++(y14++(y10++(y7++(y4++x)))))))))⟩)
 (pK (CD v0) fun t32=>
 NW C gl (.loop q1) ⟨[(0,v0),(23,t32),(24,(AI 0))],h29,(y30++(y27++(y24++(y20++(y17++(y14++(y10++(y7++(y4++x)))))))))⟩ (wA 0 (OA C gl q2 K)))
theorem z9s {C gl q1 q2 v0 h x K}:NW C gl (DZ q1 q2) ⟨enter [v0],h,x⟩ K=dH C gl q1 q2 v0 h x K:=by kernel_rfl
theorem zgW {C gl v0 h x K}:NW C gl tO.body ⟨enter [v0],h,x⟩ K=dH C gl DK nR v0 h x K:=z9s
def zaX:ACode:=(.seq (rg [mV 2 cF] [0])
(.seq (rg [mV 3 0,
cL 4 qK [3,(cS [48,49])],
bN 5 .eql 4 (cS []),
mV 2 5] [2])
.ret))
def rO:AFun:=⟨1,[.t 2],zaX,false,false⟩
def NU (C:Hd)(gl:GL)(v0:AV)(h:bA)(x:Esc)(K:KT):Prop:=
 C qK [v0,(.p (.str [48,49]))] h fun t1 h2 y3=>
 pK (eA .eql t1 (.p (.str []))) fun t4=>
 K .ret ⟨[(2,t4)],h2,(y3++x)⟩
theorem zgV {C gl v0 h x K}:NW C gl rO.body ⟨enter [v0],h,x⟩ K=NU C gl v0 h x K:=by kernel_rfl
def ZX:ACode:=.pr [0,3,4,5] (rg [mV 33 5,
bN 34 .add 33 (cI 1),
mV 5 34] [0,3,4,5])
def z3U (C:Hd)(gl:GL)(v0 v3 v4 v5:AV)(h:bA)(x:Esc)(K:KT):Prop:=
 pK (eA .add v5 (AI 1)) fun t1=>
 K .normal ⟨[(0,v0),(3,v3),(4,v4),(5,t1)],h,x⟩
theorem zjF {C gl e h x K}:NW C gl ZX ⟨e,h,x⟩ K=z3U C gl (aA e 0) (aA e 3) (aA e 4) (aA e 5) h x K:=by kernel_rfl
def z0L (q1:ACode):ACode:=.pr [0,3,4,5] (.seq (.seq (rg [mV 29 5,
mV 30 4,
lN 31 30,
bN 32 .lss 29 31] [0,3,4,5,32])
(.cond 32 .skip
(.exit 2)))
(.seq (.block 3 (.seq (dr [dF (mV 35 4) [4],
dF (mV 36 5) [5],
dF (iA 37 none 35 36) [35,36],
dF (lD 38 none 37) [37],
dF (mV 39 4) [4],
dF (mV 40 5) [5],
dF (bN 41 .sub 40 (cI 1)) [40],
dF (iA 42 none 39 41) [39,41],
dF (lD 43 none 42) [42],
dF (bN 44 .neq 38 43) [38,43]] [0,3,4,5,44])
(.cond 44 (.seq (rg [mV 45 0,
mV 46 3,
mV 47 4,
mV 48 5,
iA 49 none 47 48,
lD 50 none 49,
iA 51 none 45 46,
wO (.store none 51 50)] [0,3,4,5])
(rg [mV 52 3,
bN 53 .add 52 (cI 1),
mV 3 53] [0,3,4,5]))
.skip)))
q1))
def GN:ACode:=z0L ZX
def GV (C:Hd)(gl:GL)(q1:ACode)(v0 v3 v4 v5:AV)(h:bA)(x:Esc)(K:KT):Prop:=
 pK (yA v4) fun t1=>
 pK (eA .lss v5 t1) fun t2=>
 nA t2 (pK (uA none v4 v5 h) fun t3=>
 pK (kA none t3 h) fun t4=>
 pK (eA .sub v5 (AI 1)) fun t5=>
 pK (uA none v4 t5 h) fun t6=>
 pK (kA none t6 h) fun t7=>
 pK (eA .neq t4 t7) fun t8=>
 nA t8 (pK (uA none v4 v5 h) fun t9=>
 pK (kA none t9 h) fun t10=>
 pK (uA none v0 v3 h) fun t11=>
 wK (RA none t11 t10 h) fun t12 h13 y14=>
 pK (eA .add v3 (AI 1)) fun t15=>
 NW C gl q1 ⟨[(0,v0),(3,t15),(4,v4),(5,v5)],h13,(y14++x)⟩ K)
 (NW C gl q1 ⟨[(0,v0),(3,v3),(4,v4),(5,v5),(44,t8)],h,x⟩ K))
 (K (.exit 2) ⟨[(0,v0),(3,v3),(4,v4),(5,v5),(32,t2)],h,x⟩)
theorem zaz {C gl q1 e h x K}:NW C gl (z0L q1) ⟨e,h,x⟩ K=GV C gl q1 (aA e 0) (aA e 3) (aA e 4) (aA e 5) h x K:=by kernel_rfl
theorem zjG {C gl e h x K}:NW C gl GN ⟨e,h,x⟩ K=GV C gl ZX (aA e 0) (aA e 3) (aA e 4) (aA e 5) h x K:=zaz
theorem zmV {C gl e h x K}:NW C gl (.loop GN) ⟨e,h,x⟩ K=FA C gl GN K [(0,aA e 0),(3,aA e 3),(4,aA e 4),(5,aA e 5)] h x:=NB
def aY:ACode:=.pr [0,3] (.seq (rg [mV 54 0,
mV 55 3,
uO 56 (.slice none 54 (some 55) none none),
wO (.clr none (.str []) 56)] [0,3])
(.seq (rg [mV 57 0,
mV 58 3,
uO 59 (.slice none 57 none (some 58) none),
mV 2 59] [2])
.ret))
def z3V (C:Hd)(gl:GL)(v0 v3:AV)(h:bA)(x:Esc)(K:KT):Prop:=
 pK (qE none v0 (some v3) none none h) fun t1=>
 wK (oClr none (.str []) t1 h) fun t2 h3 y4=>
 pK (qE none v0 none (some v3) none h3) fun t5=>
 K .ret ⟨[(2,t5)],h3,(y4++x)⟩
theorem zjH {C gl e h x K}:NW C gl aY ⟨e,h,x⟩ K=z3V C gl (aA e 0) (aA e 3) h x K:=by kernel_rfl
def bY:ACode:=.pr [0,3] (rg [mV 14 3,
bN 15 .add 14 (cI 1),
mV 3 15] [0,3])
def z3W (C:Hd)(gl:GL)(v0 v3:AV)(h:bA)(x:Esc)(K:KT):Prop:=
 pK (eA .add v3 (AI 1)) fun t1=>
 K .normal ⟨[(0,v0),(3,t1)],h,x⟩
theorem zjI {C gl e h x K}:NW C gl bY ⟨e,h,x⟩ K=z3W C gl (aA e 0) (aA e 3) h x K:=by kernel_rfl
def z0M (q2 q3 q4:ACode):ACode:=.pr [0,3] (.seq (.seq (rg [mV 10 3,
mV 11 0,
lN 12 11,
bN 13 .lss 10 12] [0,3,13])
(.cond 13 .skip
(.exit 0)))
(.seq (.block 1 (.seq (dr [dF (mV 16 0) [0],
dF (mV 17 3) [3],
dF (iA 18 none 16 17) [16,17],
dF (lD 19 none 18) [18],
dF (mV 20 0) [0],
dF (mV 21 3) [3],
dF (bN 22 .sub 21 (cI 1)) [21],
dF (iA 23 none 20 22) [20,22],
dF (lD 24 none 23) [23],
dF (bN 25 .eql 19 24) [19,24]] [0,3,25])
(.cond 25 (.seq (rg [mV 26 0,
mV 27 3,
uO 28 (.slice none 26 (some 27) none none),
mV 4 28] [0,3,4])
(.seq (.seq (rg [mV 5 (cI 1)] [0,3,4,5])
(.block 2 (.loop q2)))
q3))
.skip)))
q4))
def oL:ACode:=z0M GN aY bY
def HV (C:Hd)(gl:GL)(q2 q3 q4:ACode)(v0 v3:AV)(h:bA)(x:Esc)(K:KT):Prop:=
 pK (yA v0) fun t1=>
 pK (eA .lss v3 t1) fun t2=>
 nA t2 (pK (uA none v0 v3 h) fun t3=>
 pK (kA none t3 h) fun t4=>
 pK (eA .sub v3 (AI 1)) fun t5=>
 pK (uA none v0 t5 h) fun t6=>
 pK (kA none t6 h) fun t7=>
 pK (eA .eql t4 t7) fun t8=>
 nA t8 (pK (qE none v0 (some v3) none none h) fun t9=>
 NW C gl (.loop q2) ⟨[(0,v0),(3,v3),(4,t9),(5,(AI 1))],h,x⟩ (wA 2 (OA C gl q3 (wA 1 (OA C gl q4 K)))))
 (NW C gl q4 ⟨[(0,v0),(3,v3),(25,t8)],h,x⟩ K))
 (K (.exit 0) ⟨[(0,v0),(3,v3),(13,t2)],h,x⟩)
theorem za0 {C gl q2 q3 q4 e h x K}:NW C gl (z0M q2 q3 q4) ⟨e,h,x⟩ K=HV C gl q2 q3 q4 (aA e 0) (aA e 3) h x K:=by kernel_rfl
theorem zjJ {C gl e h x K}:NW C gl oL ⟨e,h,x⟩ K=HV C gl GN aY bY (aA e 0) (aA e 3) h x K:=za0
theorem zmW {C gl e h x K}:NW C gl (.loop oL) ⟨e,h,x⟩ K=FA C gl oL K [(0,aA e 0),(3,aA e 3)] h x:=NB
def UR:ACode:=.pr [0] (.seq (rg [mV 60 0,
mV 2 60] [2])
.ret)
def z3X (C:Hd)(gl:GL)(v0:AV)(h:bA)(x:Esc)(K:KT):Prop:=
 K .ret ⟨[(2,v0)],h,x⟩
theorem zjK {C gl e h x K}:NW C gl UR ⟨e,h,x⟩ K=z3X C gl (aA e 0) h x K:=by kernel_rfl
def z0K (q5 q6:ACode):ACode:=(.seq (rg [mV 2 (.c (.p (.sl none [])))] [0])
(.seq (.seq (rg [mV 6 0,
lN 7 6,
bN 8 .lss 7 (cI 2)] [0,8])
(.cond 8 (.seq (rg [mV 9 0,
mV 2 9] [2])
.ret)
.skip))
(.seq (.seq (rg [mV 3 (cI 1)] [0,3])
(.block 0 (.loop q5)))
q6)))
def XO:AFun:=⟨1,[.t 2],z0K oL UR,true,false⟩
def AM (C:Hd)(gl:GL)(q5 q6:ACode)(v0:AV)(h:bA)(x:Esc)(K:KT):Prop:=
 pK (yA v0) fun t1=>
 pK (eA .lss t1 (AI 2)) fun t2=>
 nA t2 (K .ret ⟨[(2,v0)],h,x⟩)
 (NW C gl (.loop q5) ⟨[(0,v0),(3,(AI 1))],h,x⟩ (wA 0 (OA C gl q6 K)))
theorem zay {C gl q5 q6 v0 h x K}:NW C gl (z0K q5 q6) ⟨enter [v0],h,x⟩ K=AM C gl q5 q6 v0 h x K:=by kernel_rfl
theorem zjE {C gl v0 h x K}:NW C gl XO.body ⟨enter [v0],h,x⟩ K=AM C gl oL UR v0 h x K:=zay
def LK:ACode:=.pr [1,13,14,15] (.seq (rg [bN 16 .lss 15 14] [1,13,14,15,16])
(.seq (.cond 16 .skip
(.exit 0))
(.seq (.block 1 (.seq (rg [iA 17 (some 4) 13 15,
lD 18 (some 4) 17,
uO 4 (.alloc [.p (.int .i64 0),.p (.str []),.p (.int .i64 0),.p (.int .i64 0)]),
wO (.store (some 4) 4 18)] [1,4,13,14,15])
(.seq (rg [lD 19 (some 2) 1,
lD 20 (some 4) 4,
cL 21 kI [19,20],
mV 5 21] [1,5,13,14,15])
(.seq (rg [mV 22 5,
bN 23 .neq 22 (cI 0)] [1,5,13,14,15,23])
(.cond 23 (.seq (rg [mV 24 5,
mV 2 24] [2])
.ret)
.skip)))))
(rg [bN 25 .add 15 (cI 1),
mV 15 25] [1,13,14,15]))))
def z2S (C:Hd)(gl:GL)(v1 v13 v14 v15:AV)(h:bA)(x:Esc)(K:KT):Prop:=
 pK (eA .lss v15 v14) fun t1=>
 nA t1 (pK (uA (some 4) v13 v15 h) fun t2=>
 pK (kA (some 4) t2 h) fun t3=>
 alK [.p (.int .i64 0),.p (.str []),.p (.int .i64 0),.p (.int .i64 0)] h fun t4 h5 y6=>
 wK (RA (some 4) t4 t3 h5) fun t7 h8 y9=>
 pK (kA (some 2) v1 h8) fun t10=>
 pK (kA (some 4) t4 h8) fun t11=>
 C kI [t10,t11] h8 fun t12 h13 y14=>
 pK (eA .neq t12 (AI 0)) fun t15=>
 nA t15 (K .ret ⟨[(2,t12)],h13,(y14++(y9++(y6++x)))⟩)
 (pK (eA .add v15 (AI 1)) fun t16=>
 K .normal ⟨[(1,v1),(13,v13),(14,v14),(15,t16)],h13,(y14++(y9++(y6++x)))⟩))
 (K (.exit 0) ⟨[(1,v1),(13,v13),(14,v14),(15,v15),(16,t1)],h,x⟩)
theorem zh3 {C gl e h x K}:NW C gl LK ⟨e,h,x⟩ K=z2S C gl (aA e 1) (aA e 13) (aA e 14) (aA e 15) h x K:=by kernel_rfl
theorem zms {C gl e h x K}:NW C gl (.loop (.scope LK)) ⟨e,h,x⟩ K=FA C gl (.scope LK) K [(1,aA e 1),(13,aA e 13),(14,aA e 14),(15,aA e 15)] h x:=RB
def qN:ACode:=.pr [1,27,28,29] (.seq (rg [bN 30 .lss 29 28] [1,27,28,29,30])
(.seq (.cond 30 .skip
(.exit 2))
(.seq (.block 3 (.seq (rg [mV 31 29,
iA 32 (some 4) 27 29,
lD 33 (some 4) 32,
uO 7 (.alloc [.p (.int .i64 0),.p (.str []),.p (.int .i64 0),.p (.int .i64 0)]),
mV 6 31,
wO (.store (some 4) 7 33)] [1,6,7,27,28,29])
(.seq (rg [lD 34 (some 4) 7,
cL 35 BE [34],
mV 36 35,
gD 37 36 true (.faddr 1 none 1),
gD 38 36 true (.load none 37),
gD 39 36 true (.mv 6),
gD 40 36 true (.slice (some 4) 38 none (some 39) none),
gD 41 36 true (.mkfn nH [7]),
gD 42 36 true (.call JD [40,41]),
uO 43 (.pick 36 42 cF)] [1,27,28,29,43])
(.cond 43 (.seq (rg [mV 2 (cI 6)] [2])
.ret)
.skip))))
(rg [bN 44 .add 29 (cI 1),
mV 29 44] [1,27,28,29]))))
def z2T (C:Hd)(gl:GL)(v1 v27 v28 v29:AV)(h:bA)(x:Esc)(K:KT):Prop:=
 pK (eA .lss v29 v28) fun t1=>
 nA t1 (pK (uA (some 4) v27 v29 h) fun t2=>
 pK (kA (some 4) t2 h) fun t3=>
 alK [.p (.int .i64 0),.p (.str []),.p (.int .i64 0),.p (.int .i64 0)] h fun t4 h5 y6=>
 wK (RA (some 4) t4 t3 h5) fun t7 h8 y9=>
 pK (kA (some 4) t4 h8) fun t10=>
 C BE [t10] h8 fun t11 h12 y13=>
 gP t11 true (oA 1 none v1) h12 fun t14 h15 y16=>
 gP t11 true (kA none t14 h15) h15 fun t17 h18 y19=>
 gM t11 true v29 h18 fun t20 h21 y22=>
 gP t11 true (qE (some 4) t17 none (some t20) none h21) h21 fun t23 h24 y25=>
 gM t11 true (.fn nH [t4]) h24 fun t26 h27 y28=>
 gV t11 true h27 (C JD [t23,t26] h27) fun t29 h30 y31=>
 pK (LA t11 t29 (AB false)) fun t32=>
 nA t32 (K .ret ⟨[(2,(AI 6))],h30,(y31++(y28++(y25++(y22++(y19++(y16++(y13++(y9++(y6++x)))))))))⟩)
 (pK (eA .add v29 (AI 1)) fun t33=>
 K .normal ⟨[(1,v1),(27,v27),(28,v28),(29,t33)],h30,(y31++(y28++(y25++(y22++(y19++(y16++(y13++(y9++(y6++x)))))))))⟩))
 (K (.exit 2) ⟨[(1,v1),(27,v27),(28,v28),(29,v29),(30,t1)],h,x⟩)
theorem zh4 {C gl e h x K}:NW C gl qN ⟨e,h,x⟩ K=z2T C gl (aA e 1) (aA e 27) (aA e 28) (aA e 29) h x K:=by kernel_rfl
theorem zmt {C gl e h x K}:NW C gl (.loop (.scope qN)) ⟨e,h,x⟩ K=FA C gl (.scope qN) K [(1,aA e 1),(27,aA e 27),(28,aA e 28),(29,aA e 29)] h x:=RB
def rX:ACode:=.pr [] (.seq (rg [mV 2 (cI 0)] [2])
.ret)
def z2U (C:Hd)(gl:GL)(h:bA)(x:Esc)(K:KT):Prop:=
 K .ret ⟨[(2,(AI 0))],h,x⟩
theorem zh5 {C gl e h x K}:NW C gl rX ⟨e,h,x⟩ K=z2U C gl h x K:=by kernel_rfl
def RZ (q2 q3:ACode):ACode:=.pr [1] (.seq (.seq (rg [fA 26 1 none 1,
lD 27 none 26,
lN 28 27,
mV 29 (cI 0)] [1,27,28,29])
(.block 2 (.loop (.scope q2))))
q3)
def rN:ACode:=RZ qN rX
def oM (C:Hd)(gl:GL)(q2 q3:ACode)(v1:AV)(h:bA)(x:Esc)(K:KT):Prop:=
 pK (oA 1 none v1) fun t1=>
 pK (kA none t1 h) fun t2=>
 pK (yA t2) fun t3=>
 NW C gl (.loop (.scope q2)) ⟨[(1,v1),(27,t2),(28,t3),(29,(AI 0))],h,x⟩ (wA 2 (OA C gl q3 K))
theorem z95 {C gl q2 q3 e h x K}:NW C gl (RZ q2 q3) ⟨e,h,x⟩ K=oM C gl q2 q3 (aA e 1) h x K:=by kernel_rfl
theorem gW {C gl e h x K}:NW C gl rN ⟨e,h,x⟩ K=oM C gl qN rX (aA e 1) h x K:=z95
def QZ (q1 q4:ACode):ACode:=(.seq (rg [uO 1 (.box 0),
mV 2 (cI 0)] [1])
(.seq (.seq (rg [fA 8 1 none 1,
lD 9 none 8,
lN 10 9,
bN 11 .gtr 10 (cI 200)] [1,11])
(.cond 11 (.seq (rg [mV 2 (cI 2)] [2])
.ret)
.skip))
(.seq (.seq (rg [fA 12 1 none 1,
lD 13 none 12,
lN 14 13,
mV 15 (cI 0)] [1,13,14,15])
(.block 0 (.loop (.scope q1))))
q4)))
def GO:AFun:=⟨1,[.t 2],QZ LK rN,false,false⟩
def nM (C:Hd)(gl:GL)(q1 q4:ACode)(v0:AV)(h:bA)(x:Esc)(K:KT):Prop:=
 wK (qB v0 h) fun t1 h2 y3=>
 pK (oA 1 none t1) fun t4=>
 pK (kA none t4 h2) fun t5=>
 pK (yA t5) fun t6=>
 pK (eA .gtr t6 (AI 200)) fun t7=>
 nA t7 (K .ret ⟨[(2,(AI 2))],h2,(y3++x)⟩)
 (pK (oA 1 none t1) fun t8=>
 pK (kA none t8 h2) fun t9=>
 pK (yA t9) fun t10=>
 NW C gl (.loop (.scope q1)) ⟨[(1,t1),(13,t9),(14,t10),(15,(AI 0))],h2,(y3++x)⟩ (wA 0 (OA C gl q4 K)))
theorem z94 {C gl q1 q4 v0 h x K}:NW C gl (QZ q1 q4) ⟨enter [v0],h,x⟩ K=nM C gl q1 q4 v0 h x K:=by kernel_rfl
theorem zh2 {C gl v0 h x K}:NW C gl GO.body ⟨enter [v0],h,x⟩ K=nM C gl LK rN v0 h x K:=z94
def NK:ACode:=.pr [1,14,15,16] (.seq (rg [bN 17 .lss 16 15] [1,14,15,16,17])
(.seq (.cond 17 .skip
(.exit 0))
(.seq (.block 1 (.seq (rg [mV 18 16,
iA 19 (some 3) 14 16,
lD 20 (some 3) 19,
uO 4 (.alloc [.p (.str []),.p (.str []),.p (.str [])]),
mV 3 18,
wO (.store (some 3) 4 20)] [1,3,4,14,15,16])
(.block 2 (.seq (rg [fA 22 0 none 4,
lD 23 none 22,
cL 24 wD [23],
uO 25 (.un .not 24),
mV 21 25] [1,3,4,14,15,16,21])
(.cond 21 (.seq (rg [mV 2 (cI 5)] [2])
.ret)
(.seq (rg [lD 27 (some 3) 1,
fA 28 1 none 4,
lD 29 none 28,
fA 30 2 none 4,
lD 31 none 30,
cL 32 oI [27,29,31],
uO 33 (.un .not 32),
mV 26 33] [1,3,4,14,15,16,26])
(.cond 26 (.seq (rg [mV 2 (cI 8)] [2])
.ret)
(.seq (dr [dF (mV 35 3) [3],
dF (bN 36 .gtr 35 (cI 0)) [35],
dF (mV 37 36) [36],
dF (gD 38 37 true (.load (some 3) 4)) [4,37],
dF (gD 39 37 true (.faddr 1 none 1)) [1,37],
dF (gD 40 37 true (.load none 39)) [39,37],
dF (gD 41 37 true (.mv 3)) [3,37],
dF (gD 42 37 true (.bin .sub 41 (cI 1))) [41,37],
dF (gD 43 37 true (.iaddr (some 3) 40 42)) [40,42,37],
dF (gD 44 37 true (.load (some 3) 43)) [43,37],
dT (gD 45 37 true (.call jI [38,44])) [38,44,37],
dF (gD 46 37 true (.bin .leq 45 (cI 0))) [45,37],
dF (uO 47 (.pick 37 46 cF)) [37,46],
dF (mV 34 47) [47]] [1,14,15,16,34])
(.cond 34 (.seq (rg [mV 2 (cI 7)] [2])
.ret)
.skip)))))))))
(rg [bN 48 .add 16 (cI 1),
mV 16 48] [1,14,15,16]))))
def z2V (C:Hd)(gl:GL)(v1 v14 v15 v16:AV)(h:bA)(x:Esc)(K:KT):Prop:=
 pK (eA .lss v16 v15) fun t1=>
 nA t1 (pK (uA (some 3) v14 v16 h) fun t2=>
 pK (kA (some 3) t2 h) fun t3=>
 alK [.p (.str []),.p (.str []),.p (.str [])] h fun t4 h5 y6=>
 wK (RA (some 3) t4 t3 h5) fun t7 h8 y9=>
 pK (oA 0 none t4) fun t10=>
 pK (kA none t10 h8) fun t11=>
 C wD [t11] h8 fun t12 h13 y14=>
 pK (oUn .not t12) fun t15=>
 nA t15 (K .ret ⟨[(2,(AI 5))],h13,(y14++(y9++(y6++x)))⟩)
 (pK (kA (some 3) v1 h13) fun t16=>
 pK (oA 1 none t4) fun t17=>
 pK (kA none t17 h13) fun t18=>
 pK (oA 2 none t4) fun t19=>
 pK (kA none t19 h13) fun t20=>
 C oI [t16,t18,t20] h13 fun t21 h22 y23=>
 pK (oUn .not t21) fun t24=>
 nA t24 (K .ret ⟨[(2,(AI 8))],h22,(y23++(y14++(y9++(y6++x))))⟩)
 (pK (eA .gtr v16 (AI 0)) fun t25=>
 gP t25 true (kA (some 3) t4 h22) h22 fun t26 h27 y28=>
 gP t25 true (oA 1 none v1) h27 fun t29 h30 y31=>
 gP t25 true (kA none t29 h30) h30 fun t32 h33 y34=>
 gM t25 true v16 h33 fun t35 h36 y37=>
 gP t25 true (eA .sub t35 (AI 1)) h36 fun t38 h39 y40=>
 gP t25 true (uA (some 3) t32 t38 h39) h39 fun t41 h42 y43=>
 gP t25 true (kA (some 3) t41 h42) h42 fun t44 h45 y46=>
 gV t25 true h45 (GB C jI [t26,t44] h45) fun t47 h48 y49=>
 gP t25 true (eA .leq t47 (AI 0)) h48 fun t50 h51 y52=>
 pK (LA t25 t50 (AB false)) fun t53=>
 nA t53 (K .ret ⟨[(2,(AI 7))],h51,(y52++(y49++(y46++(y43++(y40++(y37++(y34++(y31++(y28++(y23++(y14++(y9++(y6++x)))))))))))))⟩)
 (pK (eA .add v16 (AI 1)) fun t54=>
 K .normal ⟨[(1,v1),(14,v14),(15,v15),(16,t54)],h51,(y52++(y49++(y46++(y43++(y40++(y37++(y34++(y31++(y28++(y23++(y14++(y9++(y6++x)))))))))))))⟩))))
 (K (.exit 0) ⟨[(1,v1),(14,v14),(15,v15),(16,v16),(17,t1)],h,x⟩)
theorem zhB {C gl e h x K}:NW C gl NK ⟨e,h,x⟩ K=z2V C gl (aA e 1) (aA e 14) (aA e 15) (aA e 16) h x K:=by kernel_rfl
theorem zmu {C gl e h x K}:NW C gl (.loop (.scope NK)) ⟨e,h,x⟩ K=FA C gl (.scope NK) K [(1,aA e 1),(14,aA e 14),(15,aA e 15),(16,aA e 16)] h x:=RB
def sN:ACode:=.pr [5,51,52,53] (.seq (rg [bN 54 .lss 53 52] [5,51,52,53,54])
(.seq (.cond 54 .skip
(.exit 3))
(.seq (.block 4 (.seq (rg [iA 55 (some 3) 51 53,
lD 56 (some 3) 55,
uO 7 (.alloc [.p (.str []),.p (.str []),.p (.str [])]),
wO (.store (some 3) 7 56)] [5,7,51,52,53])
(.seq (rg [fA 57 1 none 7,
lD 58 none 57,
fA 59 2 none 7,
lD 60 none 59,
uO 61 (.build [.p (.str []),.p (.str [])] [(0,1,58),(1,1,60)]),
uO 8 (.alloc [.p (.str []),.p (.str [])]),
wO (.store (some 2) 8 61)] [5,8,51,52,53])
(.seq (.seq (rg [mV 62 5,
lD 63 (some 2) 8,
uO 64 (.look ((some 2),[2,2]) false (AB false) 62 63)] [5,8,51,52,53,64])
(.cond 64 (.seq (rg [mV 2 (cI 6)] [2])
.ret)
.skip))
(rg [mV 65 5,
lD 66 (some 2) 8,
wO (.mupd ((some 2),[2,2]) 65 66 cT)] [5,51,52,53])))))
(rg [bN 67 .add 53 (cI 1),
mV 53 67] [5,51,52,53]))))
def z2W (C:Hd)(gl:GL)(v5 v51 v52 v53:AV)(h:bA)(x:Esc)(K:KT):Prop:=
 pK (eA .lss v53 v52) fun t1=>
 nA t1 (pK (uA (some 3) v51 v53 h) fun t2=>
 pK (kA (some 3) t2 h) fun t3=>
 alK [.p (.str []),.p (.str []),.p (.str [])] h fun t4 h5 y6=>
 wK (RA (some 3) t4 t3 h5) fun t7 h8 y9=>
 pK (oA 1 none t4) fun t10=>
 pK (kA none t10 h8) fun t11=>
 pK (oA 2 none t4) fun t12=>
 pK (kA none t12 h8) fun t13=>
 pK (DB [.p (.str []),.p (.str [])] [(0,1,t11),(1,1,t13)]) fun t14=>
 alK [.p (.str []),.p (.str [])] h8 fun t15 h16 y17=>
 wK (RA (some 2) t15 t14 h16) fun t18 h19 y20=>
 pK (kA (some 2) t15 h19) fun t21=>
 pK (YA ((some 2),[2,2]) false (AB false) v5 t21 h19) fun t22=>
 nA t22 (K .ret ⟨[(2,(AI 6))],h19,(y20++(y17++(y9++(y6++x))))⟩)
 (pK (kA (some 2) t15 h19) fun t23=>
 wK (bB ((some 2),[2,2]) v5 t23 (AB true) h19) fun t24 h25 y26=>
 pK (eA .add v53 (AI 1)) fun t27=>
 K .normal ⟨[(5,v5),(51,v51),(52,v52),(53,t27)],h25,(y26++(y20++(y17++(y9++(y6++x)))))⟩))
 (K (.exit 3) ⟨[(5,v5),(51,v51),(52,v52),(53,v53),(54,t1)],h,x⟩)
theorem zhC {C gl e h x K}:NW C gl sN ⟨e,h,x⟩ K=z2W C gl (aA e 5) (aA e 51) (aA e 52) (aA e 53) h x K:=by kernel_rfl
theorem zmv {C gl e h x K}:NW C gl (.loop (.scope sN)) ⟨e,h,x⟩ K=FA C gl (.scope sN) K [(5,aA e 5),(51,aA e 51),(52,aA e 52),(53,aA e 53)] h x:=RB
def tX:ACode:=.pr [] (.seq (rg [mV 2 (cI 0)] [2])
.ret)
def z2X (C:Hd)(gl:GL)(h:bA)(x:Esc)(K:KT):Prop:=
 K .ret ⟨[(2,(AI 0))],h,x⟩
theorem zhD {C gl e h x K}:NW C gl tX ⟨e,h,x⟩ K=z2X C gl h x K:=by kernel_rfl
def TZ (q2 q3:ACode):ACode:=.pr [1] (.seq (rg [uO 49 (.mkmap),
mV 5 49] [1,5])
(.seq (.seq (rg [fA 50 1 none 1,
lD 51 none 50,
lN 52 51,
mV 53 (cI 0)] [5,51,52,53])
(.block 3 (.loop (.scope q2))))
q3))
def tN:ACode:=TZ sN tX
def wJ (C:Hd)(gl:GL)(q2 q3:ACode)(v1:AV)(h:bA)(x:Esc)(K:KT):Prop:=
 mmK h fun t1 h2 y3=>
 pK (oA 1 none v1) fun t4=>
 pK (kA none t4 h2) fun t5=>
 pK (yA t5) fun t6=>
 NW C gl (.loop (.scope q2)) ⟨[(5,t1),(51,t5),(52,t6),(53,(AI 0))],h2,(y3++x)⟩ (wA 3 (OA C gl q3 K))
theorem z97 {C gl q2 q3 e h x K}:NW C gl (TZ q2 q3) ⟨e,h,x⟩ K=wJ C gl q2 q3 (aA e 1) h x K:=by kernel_rfl
theorem BQ {C gl e h x K}:NW C gl tN ⟨e,h,x⟩ K=wJ C gl sN tX (aA e 1) h x K:=z97
def SZ (q1 q4:ACode):ACode:=(.seq (rg [uO 1 (.box 0),
mV 2 (cI 0)] [1])
(.seq (.seq (rg [fA 9 1 none 1,
lD 10 none 9,
lN 11 10,
bN 12 .gtr 11 (cI 1000)] [1,12])
(.cond 12 (.seq (rg [mV 2 (cI 2)] [2])
.ret)
.skip))
(.seq (.seq (rg [fA 13 1 none 1,
lD 14 none 13,
lN 15 14,
mV 16 (cI 0)] [1,14,15,16])
(.block 0 (.loop (.scope q1))))
q4)))
def MO:AFun:=⟨1,[.t 2],SZ NK tN,false,false⟩
def GP (C:Hd)(gl:GL)(q1 q4:ACode)(v0:AV)(h:bA)(x:Esc)(K:KT):Prop:=
 wK (qB v0 h) fun t1 h2 y3=>
 pK (oA 1 none t1) fun t4=>
 pK (kA none t4 h2) fun t5=>
 pK (yA t5) fun t6=>
 pK (eA .gtr t6 (AI 1000)) fun t7=>
 nA t7 (K .ret ⟨[(2,(AI 2))],h2,(y3++x)⟩)
 (pK (oA 1 none t1) fun t8=>
 pK (kA none t8 h2) fun t9=>
 pK (yA t9) fun t10=>
 NW C gl (.loop (.scope q1)) ⟨[(1,t1),(14,t9),(15,t10),(16,(AI 0))],h2,(y3++x)⟩ (wA 0 (OA C gl q4 K)))
theorem z96 {C gl q1 q4 v0 h x K}:NW C gl (SZ q1 q4) ⟨enter [v0],h,x⟩ K=GP C gl q1 q4 v0 h x K:=by kernel_rfl
theorem zhA {C gl v0 h x K}:NW C gl MO.body ⟨enter [v0],h,x⟩ K=GP C gl NK tN v0 h x K:=z96
def zbc:ACode:=(.seq (rg [mV 6 cF] [0,1,2])
(.seq (rg [mV 7 0,
mV 8 1,
bN 9 .lss 7 8,
mV 10 9,
gD 11 10 false (.mv 0),
gD 12 10 false (.mv 2),
gD 13 10 false (.bin .gtr 11 12),
uO 14 (.pick 10 cT 13),
mV 6 14] [6])
.ret))
def vO:AFun:=⟨3,[.t 6],zbc,false,false⟩
def OU (C:Hd)(gl:GL)(v0 v1 v2:AV)(h:bA)(x:Esc)(K:KT):Prop:=
 pK (eA .lss v0 v1) fun t1=>
 gM t1 false v0 h fun t2 h3 y4=>
 gM t1 false v2 h3 fun t5 h6 y7=>
 gP t1 false (eA .gtr t2 t5) h6 fun t8 h9 y10=>
 pK (LA t1 (AB true) t8) fun t11=>
 K .ret ⟨[(6,t11)],h9,(y10++(y7++(y4++x)))⟩
theorem zgZ {C gl v0 v1 v2 h x K}:NW C gl vO.body ⟨enter [v0,v1,v2],h,x⟩ K=OU C gl v0 v1 v2 h x K:=by kernel_rfl
def vL:ACode:=.pr [0,1,7,8] (.seq (rg [bN 9 .lss 8 7] [0,1,7,8,9])
(.seq (.cond 9 .skip
(.exit 0))
(.seq (.block 1 (.seq (rg [mV 10 8,
mV 5 10] [0,1,5,7,8])
(.seq (rg [mV 11 1,
mV 12 0,
mV 13 5,
iA 14 none 12 13,
lD 15 none 14,
uO 16 (.callv 11 [15])] [0,1,5,7,8,16])
(.cond 16 (.seq (rg [mV 17 5,
mV 4 17] [4])
.ret)
.skip))))
(rg [bN 18 .add 8 (cI 1),
mV 8 18] [0,1,7,8]))))
def z4k (C:Hd)(gl:GL)(v0 v1 v7 v8:AV)(h:bA)(x:Esc)(K:KT):Prop:=
 pK (eA .lss v8 v7) fun t1=>
 nA t1 (pK (uA none v0 v8 h) fun t2=>
 pK (kA none t2 h) fun t3=>
 bF C v1 [t3] h fun t4 h5 y6=>
 nA t4 (K .ret ⟨[(4,v8)],h5,(y6++x)⟩)
 (pK (eA .add v8 (AI 1)) fun t7=>
 K .normal ⟨[(0,v0),(1,v1),(7,v7),(8,t7)],h5,(y6++x)⟩))
 (K (.exit 0) ⟨[(0,v0),(1,v1),(7,v7),(8,v8),(9,t1)],h,x⟩)
theorem zkj {C gl e h x K}:NW C gl vL ⟨e,h,x⟩ K=z4k C gl (aA e 0) (aA e 1) (aA e 7) (aA e 8) h x K:=by kernel_rfl
theorem znd {C gl e h x K}:NW C gl (.loop vL) ⟨e,h,x⟩ K=FA C gl vL K [(0,aA e 0),(1,aA e 1),(7,aA e 7),(8,aA e 8)] h x:=NB
def dS:ACode:=.pr [] (.seq (rg [mV 4 (cI (-1))] [4])
.ret)
def z4l (C:Hd)(gl:GL)(h:bA)(x:Esc)(K:KT):Prop:=
 K .ret ⟨[(4,(AI (-1)))],h,x⟩
theorem zkk {C gl e h x K}:NW C gl dS ⟨e,h,x⟩ K=z4l C gl h x K:=by kernel_rfl
def z0U (q1 q2:ACode):ACode:=(.seq (rg [mV 4 (cI 0)] [0,1])
(.seq (.seq (rg [mV 6 0,
lN 7 6,
mV 8 (cI 0)] [0,1,7,8])
(.block 0 (.loop q1)))
q2))
def eU:AFun:=⟨2,[.t 4],z0U vL dS,true,false⟩
def sQ (C:Hd)(gl:GL)(q1 q2:ACode)(v0 v1:AV)(h:bA)(x:Esc)(K:KT):Prop:=
 pK (yA v0) fun t1=>
 NW C gl (.loop q1) ⟨[(0,v0),(1,v1),(7,t1),(8,(AI 0))],h,x⟩ (wA 0 (OA C gl q2 K))
theorem za8 {C gl q1 q2 v0 v1 h x K}:NW C gl (z0U q1 q2) ⟨enter [v0,v1],h,x⟩ K=sQ C gl q1 q2 v0 v1 h x K:=by kernel_rfl
theorem zki {C gl v0 v1 h x K}:NW C gl eU.body ⟨enter [v0,v1],h,x⟩ K=sQ C gl vL dS v0 v1 h x K:=za8
end Go.Am
end
