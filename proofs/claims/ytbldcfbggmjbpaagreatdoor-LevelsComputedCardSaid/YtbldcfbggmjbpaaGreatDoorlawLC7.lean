/- Texts of the proof, laid together: CodesF, AmL, AmC, Ctx, SpStream, MathFrac, SpBase, SpList, PSort, SpShp, SpStr, SpFind, SpLimD, PBrd, SpBrd1, SpBrd1q, SpBrdT, SpBrd2. -/
import Derived.KernelRfl
import Derived.Test.YtbldcfbggmjbpaaGreatDoorlawLC6
set_option linter.all false
section
/- The functions asv abstract code,and asv formulas over their values: printed by program out of the translation. -/
set_option linter.unusedVariables false
set_option maxRecDepth 100000
namespace Go.Am
def GY:ACode:=.pr [0,1,2,3,8,9,10,11] (.seq (.seq (dr [dF (mV 73 1) [1],
dF (bN 74 .gtr 73 (cI 0)) [73],
dF (mV 75 74) [74],
dF (gD 76 75 true (.mv 0)) [0,75],
dF (gD 77 75 true (.mv 1)) [1,75],
dF (gD 78 75 true (.bin .sub 77 (cI 1))) [77,75],
dF (gD 79 75 true (.iaddr none 76 78)) [76,78,75],
dF (gD 80 75 true (.load none 79)) [79,75],
dF (gD 81 75 true (.mv 0)) [0,75],
dF (gD 82 75 true (.mv 11)) [11,75],
dF (gD 83 75 true (.iaddr none 81 82)) [81,82,75],
dF (gD 84 75 true (.load none 83)) [83,75],
dT (gD 85 75 true (.call rF [80,84])) [80,84,75],
dF (gD 86 75 true (.un .not 85)) [85,75],
dF (uO 87 (.pick 75 86 cF)) [75,86]] [0,1,2,3,8,9,10,11,87])
(.cond 87 (.seq (rg [mV 88 0,
mV 89 1,
mV 90 2,
mV 91 11,
cL 92 z5S [88,89,90,91],
mV 13 92] [0,2,3,8,9,13])
(.seq (rg [mV 93 13,
mV 1 93] [0,1,2,3,8,9])
(.exit 1)))
.skip))
(.seq (rg [mV 95 0,
mV 96 1,
mV 97 2,
mV 98 11,
cL 99 z5T [95,96,97,98],
mV 94 99,
eX 100 94 0,
eX 101 94 1,
mV 14 100,
mV 15 101] [0,1,2,3,10,14,15])
(.seq (rg [mV 102 15,
mV 9 102] [0,1,2,3,9,10,14])
(.seq (rg [mV 103 14,
mV 104 1,
bN 105 .sub 103 104,
mV 106 2,
mV 107 14,
bN 108 .sub 106 107,
mV 16 105,
mV 17 108] [0,1,2,3,9,10,14,16,17])
(.seq (rg [mV 109 10,
bN 110 .quo 109 (cI 8),
mV 18 110] [0,1,2,3,9,14,16,17,18])
(.seq (rg [mV 111 16,
mV 112 17,
bN 113 .lss 111 112] [0,1,2,3,9,14,16,17,18,113])
(.cond 113 (.seq (rg [mV 114 16,
mV 115 18,
bN 116 .geq 114 115,
mV 8 116] [0,1,2,3,8,9,14])
(.seq (rg [mV 117 0,
mV 118 1,
mV 119 14,
mV 120 3,
cL 121 dG [117,118,119,120]] [0,2,3,8,9,14])
(rg [mV 122 14,
bN 123 .add 122 (cI 1),
mV 1 123] [0,1,2,3,8,9])))
(.seq (rg [mV 124 17,
mV 125 18,
bN 126 .geq 124 125,
mV 8 126] [0,1,2,3,8,9,14])
(.seq (rg [mV 127 0,
mV 128 14,
bN 129 .add 128 (cI 1),
mV 130 2,
mV 131 3,
cL 132 dG [127,129,130,131]] [0,1,3,8,9,14])
(rg [mV 133 14,
mV 2 133] [0,1,2,3,8,9]))))))))))
def z5j (C:Hd)(gl:GL)(v0 v1 v2 v3 v8 v9 v10 v11:AV)(h:bA)(x:Esc)(K:KT):Prop:=
 pK (jA .gtr v1 (AI 0)) fun t1=>
 gM t1 true v0 h fun t2 h3 y4=>
 gM t1 true v1 h3 fun t5 h6 y7=>
 gP t1 true (jA .sub t5 (AI 1)) h6 fun t8 h9 y10=>
 gP t1 true (tA none t2 t8 h9) h9 fun t11 h12 y13=>
 gP t1 true (eA none t11 h12) h12 fun t14 h15 y16=>
 gM t1 true v0 h15 fun t17 h18 y19=>
 gM t1 true v11 h18 fun t20 h21 y22=>
 gP t1 true (tA none t17 t20 h21) h21 fun t23 h24 y25=>
 gP t1 true (eA none t23 h24) h24 fun t26 h27 y28=>
 gV t1 true h27 (DB C rF [t14,t26] h27) fun t29 h30 y31=>
 gP t1 true (oUn .not t29) h30 fun t32 h33 y34=>
 pK (MA t1 t32 (AB false)) fun t35=>
 oA t35 (C z5S [v0,v1,v2,v11] h33 fun t36 h37 y38=>
 K (.exit 1) ⟨[(0,v0),(1,t36),(2,v2),(3,v3),(8,v8),(9,v9)],h37,(y38++(y34++(y31++(y28++(y25++(y22++(y19++(y16++(y13++(y10++(y7++(y4++x))))))))))))⟩)
 (C z5T [v0,v1,v2,v11] h33 fun t39 h40 y41=>
 pK (iC t39 0) fun t42=>
 pK (iC t39 1) fun t43=>
 pK (jA .sub t42 v1) fun t44=>
 pK (jA .sub v2 t42) fun t45=>
 pK (jA .quo v10 (AI 8)) fun t46=>
 pK (jA .lss t44 t45) fun t47=>
 oA t47 (pK (jA .geq t44 t46) fun t48=>
 C dG [v0,v1,t42,v3] h40 fun t49 h50 y51=>
 pK (jA .add t42 (AI 1)) fun t52=>
 K .normal ⟨[(0,v0),(1,t52),(2,v2),(3,v3),(8,t48),(9,t43)],h50,(y51++(y41++(y34++(y31++(y28++(y25++(y22++(y19++(y16++(y13++(y10++(y7++(y4++x)))))))))))))⟩)
 (pK (jA .geq t45 t46) fun t53=>
 pK (jA .add t42 (AI 1)) fun t54=>
 C dG [v0,t54,v2,v3] h40 fun t55 h56 y57=>
 K .normal ⟨[(0,v0),(1,v1),(2,t42),(3,v3),(8,t53),(9,t43)],h56,(y57++(y41++(y34++(y31++(y28++(y25++(y22++(y19++(y16++(y13++(y10++(y7++(y4++x)))))))))))))⟩))
theorem zjg {C gl e h x K}:NW C gl GY ⟨e,h,x⟩ K=z5j C gl (aA e 0) (aA e 1) (aA e 2) (aA e 3) (aA e 8) (aA e 9) (aA e 10) (aA e 11) h x K:=by kernel_rfl
def z1H (q1:ACode):ACode:=.pr [0,1,2,3,8,9,10,11,12] (.seq (.seq (rg [mV 61 8,
mV 62 61,
gD 63 62 true (.mv 9),
uO 64 (.pick 62 63 cF),
mV 65 64,
gD 66 65 true (.mv 12),
gD 67 65 true (.bin .eql 66 (cI 1)),
uO 68 (.pick 65 67 cF)] [0,1,2,3,8,9,10,11,68])
(.cond 68 (.seq (rg [mV 69 0,
mV 70 1,
mV 71 2,
cL 72 z5P [69,70,71]] [0,1,2,3,8,9,10,11,72])
(.cond 72 .ret
.skip))
.skip))
q1)
def HY:ACode:=z1H GY
def vW (C:Hd)(gl:GL)(q1:ACode)(v0 v1 v2 v3 v8 v9 v10 v11 v12:AV)(h:bA)(x:Esc)(K:KT):Prop:=
 gM v8 true v9 h fun t1 h2 y3=>
 pK (MA v8 t1 (AB false)) fun t4=>
 gM t4 true v12 h2 fun t5 h6 y7=>
 gP t4 true (jA .eql t5 (AI 1)) h6 fun t8 h9 y10=>
 pK (MA t4 t8 (AB false)) fun t11=>
 oA t11 (C z5P [v0,v1,v2] h9 fun t12 h13 y14=>
 oA t12 (K .ret ⟨[(0,v0),(1,v1),(2,v2),(3,v3),(8,v8),(9,v9),(10,v10),(11,v11),(72,t12)],h13,(y14++(y10++(y7++(y3++x))))⟩)
 (NW C gl q1 ⟨[(0,v0),(1,v1),(2,v2),(3,v3),(8,v8),(9,v9),(10,v10),(11,v11),(72,t12)],h13,(y14++(y10++(y7++(y3++x))))⟩ K))
 (NW C gl q1 ⟨[(0,v0),(1,v1),(2,v2),(3,v3),(8,v8),(9,v9),(10,v10),(11,v11),(68,t11)],h9,(y10++(y7++(y3++x)))⟩ K)
theorem zbg {C gl q1 e h x K}:NW C gl (z1H q1) ⟨e,h,x⟩ K=vW C gl q1 (aA e 0) (aA e 1) (aA e 2) (aA e 3) (aA e 8) (aA e 9) (aA e 10) (aA e 11) (aA e 12) h x K:=by kernel_rfl
theorem zjh {C gl e h x K}:NW C gl HY ⟨e,h,x⟩ K=vW C gl GY (aA e 0) (aA e 1) (aA e 2) (aA e 3) (aA e 8) (aA e 9) (aA e 10) (aA e 11) (aA e 12) h x K:=zbg
def z1I (q2:ACode):ACode:=.pr [0,1,2,3,8,9,10] (.seq (rg [mV 43 0,
mV 44 1,
mV 45 2,
cL 46 z5L [43,44,45],
mV 42 46,
eX 47 42 0,
eX 48 42 1,
mV 11 47,
mV 12 48] [0,1,2,3,8,9,10,11,12])
(.seq (.seq (rg [mV 49 12,
bN 50 .eql 49 (cI 2)] [0,1,2,3,8,9,10,11,12,50])
(.cond 50 (.seq (rg [mV 51 0,
mV 52 1,
mV 53 2,
cL 54 z5V [51,52,53]] [0,1,2,3,8,9,10,11])
(.seq (rg [mV 55 2,
bN 56 .sub 55 (cI 1),
mV 57 11,
mV 58 1,
bN 59 .sub 57 58,
bN 60 .sub 56 59,
mV 11 60] [0,1,2,3,8,9,10,11])
(rg [mV 12 (cI 1)] [0,1,2,3,8,9,10,11,12])))
.skip))
q2))
def IY:ACode:=z1I HY
def wW (C:Hd)(gl:GL)(q2:ACode)(v0 v1 v2 v3 v8 v9 v10:AV)(h:bA)(x:Esc)(K:KT):Prop:=
 C z5L [v0,v1,v2] h fun t1 h2 y3=>
 pK (iC t1 0) fun t4=>
 pK (iC t1 1) fun t5=>
 pK (jA .eql t5 (AI 2)) fun t6=>
 oA t6 (C z5V [v0,v1,v2] h2 fun t7 h8 y9=>
 pK (jA .sub v2 (AI 1)) fun t10=>
 pK (jA .sub t4 v1) fun t11=>
 pK (jA .sub t10 t11) fun t12=>
 NW C gl q2 ⟨[(0,v0),(1,v1),(2,v2),(3,v3),(8,v8),(9,v9),(10,v10),(11,t12),(12,(AI 1))],h8,(y9++(y3++x))⟩ K)
 (NW C gl q2 ⟨[(0,v0),(1,v1),(2,v2),(3,v3),(8,v8),(9,v9),(10,v10),(11,t4),(12,t5),(50,t6)],h2,(y3++x)⟩ K)
theorem zbh {C gl q2 e h x K}:NW C gl (z1I q2) ⟨e,h,x⟩ K=wW C gl q2 (aA e 0) (aA e 1) (aA e 2) (aA e 3) (aA e 8) (aA e 9) (aA e 10) h x K:=by kernel_rfl
theorem zji {C gl e h x K}:NW C gl IY ⟨e,h,x⟩ K=wW C gl HY (aA e 0) (aA e 1) (aA e 2) (aA e 3) (aA e 8) (aA e 9) (aA e 10) h x K:=zbh
def z1J (q3:ACode):ACode:=.pr [0,1,2,3,8,9] (.block 1 (.seq (rg [mV 19 2,
mV 20 1,
bN 21 .sub 19 20,
mV 10 21] [0,1,2,3,8,9,10])
(.seq (.seq (rg [mV 22 10,
bN 23 .leq 22 (cI 12)] [0,1,2,3,8,9,10,23])
(.cond 23 (.seq (rg [mV 24 0,
mV 25 1,
mV 26 2,
cL 27 zK [24,25,26]] [])
.ret)
.skip))
(.seq (.seq (rg [mV 28 3,
bN 29 .eql 28 (cI 0)] [0,1,2,3,8,9,10,29])
(.cond 29 (.seq (rg [mV 30 0,
mV 31 1,
mV 32 2,
cL 33 z5N [30,31,32]] [])
.ret)
.skip))
(.seq (.seq (rg [mV 34 8,
uO 35 (.un .not 34)] [0,1,2,3,8,9,10,35])
(.cond 35 (.seq (rg [mV 36 0,
mV 37 1,
mV 38 2,
cL 39 z5J [36,37,38]] [0,1,2,3,8,9,10])
(rg [mV 40 3,
bN 41 .sub 40 (cI 1),
mV 3 41] [0,1,2,3,8,9,10]))
.skip))
q3)))))
def YL:ACode:=z1J IY
def xW (C:Hd)(gl:GL)(q3:ACode)(v0 v1 v2 v3 v8 v9:AV)(h:bA)(x:Esc)(K:KT):Prop:=
 pK (jA .sub v2 v1) fun t1=>
 pK (jA .leq t1 (AI 12)) fun t2=>
 oA t2 (C zK [v0,v1,v2] h fun t3 h4 y5=>
 K .ret ⟨[],h4,(y5++x)⟩)
 (pK (jA .eql v3 (AI 0)) fun t6=>
 oA t6 (C z5N [v0,v1,v2] h fun t7 h8 y9=>
 K .ret ⟨[],h8,(y9++x)⟩)
 (pK (oUn .not v8) fun t10=>
 oA t10 (C z5J [v0,v1,v2] h fun t11 h12 y13=>
 pK (jA .sub v3 (AI 1)) fun t14=>
 NW C gl q3 ⟨[(0,v0),(1,v1),(2,v2),(3,t14),(8,v8),(9,v9),(10,t1)],h12,(y13++x)⟩ (wA 1 K))
 (NW C gl q3 ⟨[(0,v0),(1,v1),(2,v2),(3,v3),(8,v8),(9,v9),(10,t1),(35,t10)],h,x⟩ (wA 1 K))))
theorem zbi {C gl q3 e h x K}:NW C gl (z1J q3) ⟨e,h,x⟩ K=xW C gl q3 (aA e 0) (aA e 1) (aA e 2) (aA e 3) (aA e 8) (aA e 9) h x K:=by kernel_rfl
theorem zjj {C gl e h x K}:NW C gl YL ⟨e,h,x⟩ K=xW C gl IY (aA e 0) (aA e 1) (aA e 2) (aA e 3) (aA e 8) (aA e 9) h x K:=zbi
theorem zlE {C gl e h x K}:NW C gl (.loop YL) ⟨e,h,x⟩ K=GA C gl YL K [(0,aA e 0),(1,aA e 1),(2,aA e 2),(3,aA e 3),(8,aA e 8),(9,aA e 9)] h x:=jC
def z1G (q4:ACode):ACode:=(.seq (rg [mV 8 cT] [0,1,2,3,8])
(.seq (rg [mV 9 cT] [0,1,2,3,8,9])
(.block 0 (.loop q4))))
def EU:AFun:=⟨4,[],z1G YL,true,false⟩
def IQ (C:Hd)(gl:GL)(q4:ACode)(v0 v1 v2 v3:AV)(h:bA)(x:Esc)(K:KT):Prop:=
 NW C gl (.loop q4) ⟨[(0,v0),(1,v1),(2,v2),(3,v3),(8,(AB true)),(9,(AB true))],h,x⟩ (wA 0 K)
theorem zbf {C gl q4 v0 v1 v2 v3 h x K}:NW C gl (z1G q4) ⟨enter [v0,v1,v2,v3],h,x⟩ K=IQ C gl q4 v0 v1 v2 v3 h x K:=by kernel_rfl
theorem zjf {C gl v0 v1 v2 v3 h x K}:NW C gl EU.body ⟨enter [v0,v1,v2,v3],h,x⟩ K=IQ C gl YL v0 v1 v2 v3 h x K:=zbf
def zbv:ACode:=(.seq (rg [uO 2 (.box 0),
uO 3 (.box 1),
mV 4 (cI 0)] [2,3])
(.seq (.block 0 (.seq (rg [fA 6 0 none 3,
lD 7 none 6,
cL 8 kE [7,(cI 1),(cI 4)],
mV 5 8] [2,3,5])
(.cond 5 (.seq (rg [mV 4 (cI 4)] [4])
.ret)
(.seq (rg [lD 10 (some 4) 3,
cL 11 yE [10],
mV 12 11,
gD 13 12 true (.faddr 1 none 3),
gD 14 12 true (.load none 13),
gD 15 12 true (.call qF [14]),
gD 16 12 true (.un .not 15),
uO 17 (.pick 12 16 cF),
mV 9 17] [2,3,9])
(.cond 9 (.seq (rg [mV 4 (cI 5)] [4])
.ret)
(.seq (rg [lD 19 (some 4) 3,
cL 20 yE [19],
uO 21 (.un .not 20),
mV 22 21,
gD 23 22 true (.faddr 1 none 3),
gD 24 22 true (.load none 23),
gD 25 22 true (.bin .neq 24 (cS [])),
uO 26 (.pick 22 25 cF),
mV 18 26] [2,3,18])
(.cond 18 (.seq (rg [mV 4 (cI 3)] [4])
.ret)
.skip)))))))
(.seq (.seq (rg [fA 27 0 none 3,
lD 28 none 27,
bN 29 .neq 28 (cI 2)] [2,3,29])
(.cond 29 (.seq (.seq (rg [fA 30 2 none 3,
lD 31 none 30,
bN 32 .neq 31 (cI (-1)),
mV 33 32,
gD 34 33 false (.faddr 3 none 3),
gD 35 33 false (.load none 34),
gD 36 33 false (.bin .neq 35 (cI 0)),
uO 37 (.pick 33 cT 36)] [37])
(.cond 37 (.seq (rg [mV 4 (cI 3)] [4])
.ret)
.skip))
(.seq (rg [mV 4 (cI 0)] [4])
.ret))
.skip))
(.seq (.block 1 (.seq (rg [fA 39 2 none 3,
lD 40 none 39,
bN 41 .neq 40 (cI (-1)),
mV 42 41,
gD 43 42 true (.faddr 2 none 3),
gD 44 42 true (.load none 43),
gD 45 42 true (.faddr 1 none 2),
gD 46 42 true (.load none 45),
gD 47 42 true (.len 46),
gD 48 42 true (.bin .sub 47 (cI 1)),
gD 49 42 true (.call kE [44,(cI 0),48]),
gD 50 42 true (.mv 49),
gD 51 50 false (.faddr 1 none 2),
gD 52 50 false (.load none 51),
gD 53 50 false (.faddr 2 none 3),
gD 54 50 false (.load none 53),
gD 55 50 false (.iaddr (some 4) 52 54),
gD 56 50 false (.faddr 0 none 55),
gD 57 50 false (.load none 56),
gD 58 50 false (.bin .neq 57 (cI 3)),
gD 59 42 true (.pick 50 cT 58),
uO 60 (.pick 42 59 cF),
mV 38 60] [3,38])
(.cond 38 (.seq (rg [mV 4 (cI 8)] [4])
.ret)
(.seq (rg [fA 62 3 none 3,
lD 63 none 62,
cL 64 kE [63,(cI 0),(cI 1)],
mV 65 64,
gD 66 65 false (.faddr 2 none 3),
gD 67 65 false (.load none 66),
gD 68 65 false (.bin .eql 67 (cI (-1))),
gD 69 65 false (.mv 68),
gD 70 69 true (.faddr 3 none 3),
gD 71 69 true (.load none 70),
gD 72 69 true (.bin .neq 71 (cI 0)),
gD 73 65 false (.pick 69 72 cF),
uO 74 (.pick 65 cT 73),
mV 61 74] [61])
(.cond 61 (.seq (rg [mV 4 (cI 1)] [4])
.ret)
.skip)))))
(.seq (rg [mV 4 (cI 0)] [4])
.ret)))))
def OO:AFun:=⟨2,[.t 4],zbv,false,false⟩
def oD (C:Hd)(gl:GL)(v0 v1:AV)(h:bA)(x:Esc)(K:KT):Prop:=
 wK (dB v0 h) fun t1 h2 y3=>
 wK (dB v1 h2) fun t4 h5 y6=>
 pK (mA 0 none t4) fun t7=>
 pK (eA none t7 h5) fun t8=>
 C kE [t8,(AI 1),(AI 4)] h5 fun t9 h10 y11=>
 oA t9 (K .ret ⟨[(4,(AI 4))],h10,(y11++(y6++(y3++x)))⟩)
 (pK (eA (some 4) t4 h10) fun t12=>
 C yE [t12] h10 fun t13 h14 y15=>
 gP t13 true (mA 1 none t4) h14 fun t16 h17 y18=>
 gP t13 true (eA none t16 h17) h17 fun t19 h20 y21=>
 gV t13 true h20 (C qF [t19] h20) fun t22 h23 y24=>
 gP t13 true (oUn .not t22) h23 fun t25 h26 y27=>
 pK (MA t13 t25 (AB false)) fun t28=>
 oA t28 (K .ret ⟨[(4,(AI 5))],h26,(y27++(y24++(y21++(y18++(y15++(y11++(y6++(y3++x))))))))⟩)
 (pK (eA (some 4) t4 h26) fun t29=>
 C yE [t29] h26 fun t30 h31 y32=>
 pK (oUn .not t30) fun t33=>
 gP t33 true (mA 1 none t4) h31 fun t34 h35 y36=>
 gP t33 true (eA none t34 h35) h35 fun t37 h38 y39=>
 gP t33 true (jA .neq t37 (.p (.str []))) h38 fun t40 h41 y42=>
 pK (MA t33 t40 (AB false)) fun t43=>
 oA t43 (K .ret ⟨[(4,(AI 3))],h41,(y42++(y39++(y36++(y32++(y27++(y24++(y21++(y18++(y15++(y11++(y6++(y3++x))))))))))))⟩)
 (pK (mA 0 none t4) fun t44=>
 pK (eA none t44 h41) fun t45=>
 pK (jA .neq t45 (AI 2)) fun t46=>
 oA t46 (pK (mA 2 none t4) fun t47=>
 pK (eA none t47 h41) fun t48=>
 pK (jA .neq t48 (AI (-1))) fun t49=>
 gP t49 false (mA 3 none t4) h41 fun t50 h51 y52=>
 gP t49 false (eA none t50 h51) h51 fun t53 h54 y55=>
 gP t49 false (jA .neq t53 (AI 0)) h54 fun t56 h57 y58=>
 pK (MA t49 (AB true) t56) fun t59=>
 oA t59 (K .ret ⟨[(4,(AI 3))],h57,(y58++(y55++(y52++(y42++(y39++(y36++(y32++(y27++(y24++(y21++(y18++(y15++(y11++(y6++(y3++x)))))))))))))))⟩)
 (K .ret ⟨[(4,(AI 0))],h57,(y58++(y55++(y52++(y42++(y39++(y36++(y32++(y27++(y24++(y21++(y18++(y15++(y11++(y6++(y3++x)))))))))))))))⟩))
 (pK (mA 2 none t4) fun t60=>
 pK (eA none t60 h41) fun t61=>
 pK (jA .neq t61 (AI (-1))) fun t62=>
 gP t62 true (mA 2 none t4) h41 fun t63 h64 y65=>
 gP t62 true (eA none t63 h64) h64 fun t66 h67 y68=>
 gP t62 true (mA 1 none t1) h67 fun t69 h70 y71=>
 gP t62 true (eA none t69 h70) h70 fun t72 h73 y74=>
 gP t62 true (xA t72) h73 fun t75 h76 y77=>
 gP t62 true (jA .sub t75 (AI 1)) h76 fun t78 h79 y80=>
 gV t62 true h79 (C kE [t66,(AI 0),t78] h79) fun t81 h82 y83=>
 gM t62 true t81 h82 fun t84 h85 y86=>
 gP t84 false (mA 1 none t1) h85 fun t87 h88 y89=>
 gP t84 false (eA none t87 h88) h88 fun t90 h91 y92=>
 gP t84 false (mA 2 none t4) h91 fun t93 h94 y95=>
 gP t84 false (eA none t93 h94) h94 fun t96 h97 y98=>
 gP t84 false (tA (some 4) t90 t96 h97) h97 fun t99 h100 y101=>
 gP t84 false (mA 0 none t99) h100 fun t102 h103 y104=>
 gP t84 false (eA none t102 h103) h103 fun t105 h106 y107=>
 gP t84 false (jA .neq t105 (AI 3)) h106 fun t108 h109 y110=>
 gP t62 true (MA t84 (AB true) t108) h109 fun t111 h112 y113=>
 pK (MA t62 t111 (AB false)) fun t114=>
 oA t114 (K .ret ⟨[(4,(AI 8))],h112,(y113++(y110++(y107++(y104++(y101++(y98++(y95++(y92++(y89++(y86++(y83++(y80++(y77++(y74++(y71++(y68++(y65++(y42++(y39++(y36++(y32++(y27++(y24++(y21++(y18++(y15++(y11++(y6++(y3++x)))))))))))))))))))))))))))))⟩)
 (pK (mA 3 none t4) fun t115=>
 pK (eA none t115 h112) fun t116=>
 C kE [t116,(AI 0),(AI 1)] h112 fun t117 h118 y119=>
 gP t117 false (mA 2 none t4) h118 fun t120 h121 y122=>
 gP t117 false (eA none t120 h121) h121 fun t123 h124 y125=>
 gP t117 false (jA .eql t123 (AI (-1))) h124 fun t126 h127 y128=>
 gM t117 false t126 h127 fun t129 h130 y131=>
 gP t129 true (mA 3 none t4) h130 fun t132 h133 y134=>
 gP t129 true (eA none t132 h133) h133 fun t135 h136 y137=>
 gP t129 true (jA .neq t135 (AI 0)) h136 fun t138 h139 y140=>
 gP t117 false (MA t129 t138 (AB false)) h139 fun t141 h142 y143=>
 pK (MA t117 (AB true) t141) fun t144=>
 oA t144 (K .ret ⟨[(4,(AI 1))],h142,(y143++(y140++(y137++(y134++(y131++(y128++(y125++(y122++(y119++(y113++(y110++(y107++(y104++(y101++(y98++(y95++(y92++(y89++(y86++(y83++(y80++(y77++(y74++(y71++(y68++(y65++(y42++(y39++(y36++(y32++(y27++(y24++(y21++(y18++(y15++(y11++(y6++(y3++x))))))))))))))))))))))))))))))))))))))⟩)
 (K .ret ⟨[(4,(AI 0))],h142,(y143++(y140++(y137++(y134++(y131++(y128++(y125++(y122++(y119++(y113++(y110++(y107++(y104++(y101++(y98++(y95++(y92++(y89++(y86++(y83++(y80++(y77++(y74++(y71++(y68++(y65++(y42++(y39++(y36++(y32++(y27++(y24++(y21++(y18++(y15++(y11++(y6++(y3++x))))))))))))))))))))))))))))))))))))))⟩))))))
theorem zf5 {C gl v0 v1 h x K}:NW C gl OO.body ⟨enter [v0,v1],h,x⟩ K=oD C gl v0 v1 h x K:=by kernel_rfl
def zbz:ACode:=(.seq (rg [uO 1 (.box 0),
mV 2 cF] [1])
(.seq (rg [fA 3 0 none 1,
lD 4 none 3,
bN 5 .eql 4 (cI 1),
mV 6 5,
gD 7 6 false (.faddr 0 none 1),
gD 8 6 false (.load none 7),
gD 9 6 false (.bin .eql 8 (cI 2)),
uO 10 (.pick 6 cT 9),
mV 2 10] [2])
.ret))
def WO:AFun:=⟨1,[.t 2],zbz,false,false⟩
def LM (C:Hd)(gl:GL)(v0:AV)(h:bA)(x:Esc)(K:KT):Prop:=
 wK (dB v0 h) fun t1 h2 y3=>
 pK (mA 0 none t1) fun t4=>
 pK (eA none t4 h2) fun t5=>
 pK (jA .eql t5 (AI 1)) fun t6=>
 gP t6 false (mA 0 none t1) h2 fun t7 h8 y9=>
 gP t6 false (eA none t7 h8) h8 fun t10 h11 y12=>
 gP t6 false (jA .eql t10 (AI 2)) h11 fun t13 h14 y15=>
 pK (MA t6 (AB true) t13) fun t16=>
 K .ret ⟨[(2,t16)],h14,(y15++(y12++(y9++(y3++x))))⟩
theorem zfI {C gl v0 h x K}:NW C gl WO.body ⟨enter [v0],h,x⟩ K=LM C gl v0 h x K:=by kernel_rfl
def zbw:ACode:=(.seq (rg [uO 2 (.box 0),
mV 3 cF] [1,2])
(.seq (rg [fA 4 0 none 2,
lD 5 none 4,
fA 6 0 none 1,
lD 7 none 6,
bN 8 .eql 5 7,
mV 9 8,
gD 10 9 true (.faddr 1 none 2),
gD 11 9 true (.load none 10),
gD 12 9 true (.faddr 1 none 1),
gD 13 9 true (.load none 12),
gD 14 9 true (.bin .eql 11 13),
uO 15 (.pick 9 14 cF),
mV 3 15] [3])
.ret))
def RO:AFun:=⟨2,[.t 3],zbw,false,false⟩
def MP (C:Hd)(gl:GL)(v0 v1:AV)(h:bA)(x:Esc)(K:KT):Prop:=
 wK (dB v0 h) fun t1 h2 y3=>
 pK (mA 0 none t1) fun t4=>
 pK (eA none t4 h2) fun t5=>
 pK (mA 0 none v1) fun t6=>
 pK (eA none t6 h2) fun t7=>
 pK (jA .eql t5 t7) fun t8=>
 gP t8 true (mA 1 none t1) h2 fun t9 h10 y11=>
 gP t8 true (eA none t9 h10) h10 fun t12 h13 y14=>
 gP t8 true (mA 1 none v1) h13 fun t15 h16 y17=>
 gP t8 true (eA none t15 h16) h16 fun t18 h19 y20=>
 gP t8 true (jA .eql t12 t18) h19 fun t21 h22 y23=>
 pK (MA t8 t21 (AB false)) fun t24=>
 K .ret ⟨[(3,t24)],h22,(y23++(y20++(y17++(y14++(y11++(y3++x))))))⟩
theorem zfF {C gl v0 v1 h x K}:NW C gl RO.body ⟨enter [v0,v1],h,x⟩ K=MP C gl v0 v1 h x K:=by kernel_rfl
def zb0:ACode:=(.seq (rg [uO 3 (.box 0),
uO 5 (.box 2),
mV 6 cF] [1,3,5])
(.seq (rg [lD 8 (some 3) 3,
mV 9 1,
cL 10 qI [8,9],
mV 7 10] [3,5,7])
(.seq (rg [mV 11 7,
bN 12 .geq 11 (cI 0),
mV 13 12,
gD 14 13 true (.faddr 0 none 3),
gD 15 13 true (.load none 14),
gD 16 13 true (.mv 7),
gD 17 13 true (.iaddr (some 2) 15 16),
gD 18 13 true (.faddr 1 none 17),
gD 19 13 true (.load none 18),
gD 20 13 true (.mkfn uH [5]),
gD 21 13 true (.call DD [19,20]),
uO 22 (.pick 13 21 cF),
mV 6 22] [6])
.ret)))
def bP:AFun:=⟨3,[.t 6],zb0,false,false⟩
def TP (C:Hd)(gl:GL)(v0 v1 v2:AV)(h:bA)(x:Esc)(K:KT):Prop:=
 wK (dB v0 h) fun t1 h2 y3=>
 wK (dB v2 h2) fun t4 h5 y6=>
 pK (eA (some 3) t1 h5) fun t7=>
 C qI [t7,v1] h5 fun t8 h9 y10=>
 pK (jA .geq t8 (AI 0)) fun t11=>
 gP t11 true (mA 0 none t1) h9 fun t12 h13 y14=>
 gP t11 true (eA none t12 h13) h13 fun t15 h16 y17=>
 gM t11 true t8 h16 fun t18 h19 y20=>
 gP t11 true (tA (some 2) t15 t18 h19) h19 fun t21 h22 y23=>
 gP t11 true (mA 1 none t21) h22 fun t24 h25 y26=>
 gP t11 true (eA none t24 h25) h25 fun t27 h28 y29=>
 gM t11 true (.fn uH [t4]) h28 fun t30 h31 y32=>
 gV t11 true h31 (C DD [t27,t30] h31) fun t33 h34 y35=>
 pK (MA t11 t33 (AB false)) fun t36=>
 K .ret ⟨[(6,t36)],h34,(y35++(y32++(y29++(y26++(y23++(y20++(y17++(y14++(y10++(y6++(y3++x)))))))))))⟩
theorem zgc {C gl v0 v1 v2 h x K}:NW C gl bP.body ⟨enter [v0,v1,v2],h,x⟩ K=TP C gl v0 v1 v2 h x K:=by kernel_rfl
def zbu:ACode:=(.seq (rg [uO 2 (.box 0),
uO 3 (.box 1),
mV 4 (cI 0)] [2,3])
(.seq (dr [dF (fA 5 0 none 2) [2],
dF (lD 6 none 5) [5],
dF (fA 7 0 none 3) [3],
dF (lD 8 none 7) [7],
dT (cL 9 BE [6,8]) [6,8],
dF (fA 10 1 none 2) [2],
dA (lD 11 none 10) [10] false [4] [],
dF (fA 12 1 none 3) [3],
dA (lD 13 none 12) [12] false [4] [],
dT (cL 14 BE [11,13]) [11,13],
dF (fA 15 2 none 2) [2],
dA (lD 16 none 15) [15] false [4,9] [],
dF (fA 17 2 none 3) [3],
dA (lD 18 none 17) [17] false [4,9] [],
dT (cL 19 BE [16,18]) [16,18],
dF (uO 20 (.bsl false none 3 (.int .i64 0) [(0,9),(1,14),(2,19)])) [9,14,19],
dT (cL 21 tI [20]) [20],
dF (mV 4 21) [21]] [4])
.ret))
def NO:AFun:=⟨2,[.t 4],zbu,false,false⟩
def jV (C:Hd)(gl:GL)(v0 v1:AV)(h:bA)(x:Esc)(K:KT):Prop:=
 wK (dB v0 h) fun t1 h2 y3=>
 wK (dB v1 h2) fun t4 h5 y6=>
 pK (mA 0 none t1) fun t7=>
 pK (eA none t7 h5) fun t8=>
 pK (mA 0 none t4) fun t9=>
 pK (eA none t9 h5) fun t10=>
 DB C BE [t8,t10] h5 fun t11 h12 y13=>
 pK (mA 1 none t1) fun t14=>
 pK (eA none t14 h12) fun t15=>
 (pK (eA none t14 h5) fun v=>(fun u (g1:bA) (y1:Esc)=>u=t15∧g1=h5∧y1=[]) v h5 [])∧(pK (mA 1 none t4) fun t16=>
 pK (eA none t16 h12) fun t17=>
 (pK (eA none t16 h5) fun v=>(fun u (g1:bA) (y1:Esc)=>u=t17∧g1=h5∧y1=[]) v h5 [])∧(DB C BE [t15,t17] h12 fun t18 h19 y20=>
 pK (mA 2 none t1) fun t21=>
 pK (eA none t21 h19) fun t22=>
 (pK (eA none t21 h5) fun v=>(fun u (g1:bA) (y1:Esc)=>u=t22∧g1=h5∧y1=[]) v h5 [])∧((pK (eA none t21 h12) fun v=>(fun u (g1:bA) (y1:Esc)=>u=t22∧g1=h12∧y1=[]) v h12 [])∧(pK (mA 2 none t4) fun t23=>
 pK (eA none t23 h19) fun t24=>
 (pK (eA none t23 h5) fun v=>(fun u (g1:bA) (y1:Esc)=>u=t24∧g1=h5∧y1=[]) v h5 [])∧((pK (eA none t23 h12) fun v=>(fun u (g1:bA) (y1:Esc)=>u=t24∧g1=h12∧y1=[]) v h12 [])∧(DB C BE [t22,t24] h19 fun t25 h26 y27=>
 wK (jB false none 3 (.int .i64 0) [(0,t11),(1,t18),(2,t25)] h26) fun t28 h29 y30=>
 (h29=h26∧y30=[])∧(DB C tI [t28] h29 fun t31 h32 y33=>
 K .ret ⟨[(4,t31)],h32,(y33++(y30++(y27++(y20++(y13++(y6++(y3++x)))))))⟩)))))))
theorem zf4 {C gl v0 v1 h x K}:NW C gl NO.body ⟨enter [v0,v1],h,x⟩ K=jV C gl v0 v1 h x K:=by kernel_rfl
def zce:ACode:=(.seq (rg [mV 4 (cI 0)] [0,1])
(.seq (rg [mV 5 0,
mV 6 1,
cL 7 WJ [5,6],
mV 4 7] [4])
.ret))
def FU:AFun:=⟨2,[.t 4],zce,false,false⟩
def zW (C:Hd)(gl:GL)(v0 v1:AV)(h:bA)(x:Esc)(K:KT):Prop:=
 C WJ [v0,v1] h fun t1 h2 y3=>
 K .ret ⟨[(4,t1)],h2,(y3++x)⟩
theorem zjl {C gl v0 v1 h x K}:NW C gl FU.body ⟨enter [v0,v1],h,x⟩ K=zW C gl v0 v1 h x K:=by kernel_rfl
def QL:ACode:=.pr [0,1,7,8] (.seq (rg [bN 9 .lss 8 7] [0,1,7,8,9])
(.seq (.cond 9 .skip
(.exit 0))
(.seq (.block 1 (.seq (rg [mV 10 8,
mV 5 10] [0,1,5,7,8])
(.seq (rg [mV 11 1,
mV 12 0,
mV 13 5,
iA 14 (some 2) 12 13,
lD 15 (some 2) 14,
uO 16 (.callv 11 [15])] [0,1,5,7,8,16])
(.cond 16 (.seq (rg [mV 17 5,
mV 4 17] [4])
.ret)
.skip))))
(rg [bN 18 .add 8 (cI 1),
mV 8 18] [0,1,7,8]))))
def z4U (C:Hd)(gl:GL)(v0 v1 v7 v8:AV)(h:bA)(x:Esc)(K:KT):Prop:=
 pK (jA .lss v8 v7) fun t1=>
 oA t1 (pK (tA (some 2) v0 v8 h) fun t2=>
 pK (eA (some 2) t2 h) fun t3=>
 lF C v1 [t3] h fun t4 h5 y6=>
 oA t4 (K .ret ⟨[(4,v8)],h5,(y6++x)⟩)
 (pK (jA .add v8 (AI 1)) fun t7=>
 K .normal ⟨[(0,v0),(1,v1),(7,v7),(8,t7)],h5,(y6++x)⟩))
 (K (.exit 0) ⟨[(0,v0),(1,v1),(7,v7),(8,v8),(9,t1)],h,x⟩)
theorem ziC {C gl e h x K}:NW C gl QL ⟨e,h,x⟩ K=z4U C gl (aA e 0) (aA e 1) (aA e 7) (aA e 8) h x K:=by kernel_rfl
theorem zl4 {C gl e h x K}:NW C gl (.loop QL) ⟨e,h,x⟩ K=GA C gl QL K [(0,aA e 0),(1,aA e 1),(7,aA e 7),(8,aA e 8)] h x:=jC
def mS:ACode:=.pr [] (.seq (rg [mV 4 (cI (-1))] [4])
.ret)
def z4V (C:Hd)(gl:GL)(h:bA)(x:Esc)(K:KT):Prop:=
 K .ret ⟨[(4,(AI (-1)))],h,x⟩
theorem ziD {C gl e h x K}:NW C gl mS ⟨e,h,x⟩ K=z4V C gl h x K:=by kernel_rfl
def z13 (q1 q2:ACode):ACode:=(.seq (rg [mV 4 (cI 0)] [0,1])
(.seq (.seq (rg [mV 6 0,
lN 7 6,
mV 8 (cI 0)] [0,1,7,8])
(.block 0 (.loop q1)))
q2))
def uU:AFun:=⟨2,[.t 4],z13 QL mS,true,false⟩
def AQ (C:Hd)(gl:GL)(q1 q2:ACode)(v0 v1:AV)(h:bA)(x:Esc)(K:KT):Prop:=
 pK (xA v0) fun t1=>
 NW C gl (.loop q1) ⟨[(0,v0),(1,v1),(7,t1),(8,(AI 0))],h,x⟩ (wA 0 (QA C gl q2 K))
theorem zaS {C gl q1 q2 v0 v1 h x K}:NW C gl (z13 q1 q2) ⟨enter [v0,v1],h,x⟩ K=AQ C gl q1 q2 v0 v1 h x K:=by kernel_rfl
theorem ziB {C gl v0 v1 h x K}:NW C gl uU.body ⟨enter [v0,v1],h,x⟩ K=AQ C gl QL mS v0 v1 h x K:=zaS
def zbP:ACode:=(.seq (rg [uO 2 (.box 0),
mV 3 cF] [1,2])
(.seq (rg [fA 4 0 none 2,
lD 5 none 4,
lD 6 none 1,
bN 7 .eql 5 6,
mV 3 7] [3])
.ret))
def ZT:AFun:=⟨2,[.t 3],zbP,false,false⟩
def YV (C:Hd)(gl:GL)(v0 v1:AV)(h:bA)(x:Esc)(K:KT):Prop:=
 wK (dB v0 h) fun t1 h2 y3=>
 pK (mA 0 none t1) fun t4=>
 pK (eA none t4 h2) fun t5=>
 pK (eA none v1 h2) fun t6=>
 pK (jA .eql t5 t6) fun t7=>
 K .ret ⟨[(3,t7)],h2,(y3++x)⟩
theorem zh6 {C gl v0 v1 h x K}:NW C gl ZT.body ⟨enter [v0,v1],h,x⟩ K=YV C gl v0 v1 h x K:=by kernel_rfl
def bO:ACode:=.pr [0,1,2,6,7] (.seq (.seq (dr [dF (mV 16 7) [7],
dF (mV 17 1) [1],
dF (bN 18 .gtr 16 17) [16,17],
dF (mV 19 18) [18],
dF (gD 20 19 true (.mv 0)) [0,19],
dF (gD 21 19 true (.mv 7)) [7,19],
dF (gD 22 19 true (.iaddr none 20 21)) [20,21,19],
dF (gD 23 19 true (.load none 22)) [22,19],
dF (gD 24 19 true (.mv 0)) [0,19],
dF (gD 25 19 true (.mv 7)) [7,19],
dF (gD 26 19 true (.bin .sub 25 (cI 1))) [25,19],
dF (gD 27 19 true (.iaddr none 24 26)) [24,26,19],
dF (gD 28 19 true (.load none 27)) [27,19],
dT (gD 29 19 true (.call rF [23,28])) [23,28,19],
dF (uO 30 (.pick 19 29 cF)) [19,29]] [0,1,2,6,7,30])
(.cond 30 .skip
(.exit 2)))
(.seq (.block 3 (dr [dF (mV 33 0) [0],
dF (mV 34 7) [7],
dF (mV 35 0) [0],
dF (mV 36 7) [7],
dF (bN 37 .sub 36 (cI 1)) [36],
dF (mV 38 0) [0],
dF (mV 39 7) [7],
dF (bN 40 .sub 39 (cI 1)) [39],
dF (iA 41 none 38 40) [38,40],
dF (lD 42 none 41) [41],
dF (mV 43 0) [0],
dF (mV 44 7) [7],
dF (iA 45 none 43 44) [43,44],
dF (lD 46 none 45) [45],
dF (iA 47 none 33 34) [33,34],
dT (wO (.store none 47 42)) [47,42],
dF (iA 48 none 35 37) [35,37],
dT (wO (.store none 48 46)) [48,46]] [0,1,2,6,7]))
(rg [mV 31 7,
bN 32 .sub 31 (cI 1),
mV 7 32] [0,1,2,6,7])))
def z5g (C:Hd)(gl:GL)(v0 v1 v2 v6 v7:AV)(h:bA)(x:Esc)(K:KT):Prop:=
 pK (jA .gtr v7 v1) fun t1=>
 gM t1 true v0 h fun t2 h3 y4=>
 gM t1 true v7 h3 fun t5 h6 y7=>
 gP t1 true (tA none t2 t5 h6) h6 fun t8 h9 y10=>
 gP t1 true (eA none t8 h9) h9 fun t11 h12 y13=>
 gM t1 true v0 h12 fun t14 h15 y16=>
 gM t1 true v7 h15 fun t17 h18 y19=>
 gP t1 true (jA .sub t17 (AI 1)) h18 fun t20 h21 y22=>
 gP t1 true (tA none t14 t20 h21) h21 fun t23 h24 y25=>
 gP t1 true (eA none t23 h24) h24 fun t26 h27 y28=>
 gV t1 true h27 (DB C rF [t11,t26] h27) fun t29 h30 y31=>
 pK (MA t1 t29 (AB false)) fun t32=>
 oA t32 (pK (jA .sub v7 (AI 1)) fun t33=>
 pK (jA .sub v7 (AI 1)) fun t34=>
 pK (tA none v0 t34 h30) fun t35=>
 pK (eA none t35 h30) fun t36=>
 pK (tA none v0 v7 h30) fun t37=>
 pK (eA none t37 h30) fun t38=>
 pK (tA none v0 v7 h30) fun t39=>
 wK (OA none t39 t36 h30) fun t40 h41 y42=>
 pK (tA none v0 t33 h41) fun t43=>
 wK (OA none t43 t38 h41) fun t44 h45 y46=>
 pK (jA .sub v7 (AI 1)) fun t47=>
 K .normal ⟨[(0,v0),(1,v1),(2,v2),(6,v6),(7,t47)],h45,(y46++(y42++(y31++(y28++(y25++(y22++(y19++(y16++(y13++(y10++(y7++(y4++x))))))))))))⟩)
 (K (.exit 2) ⟨[(0,v0),(1,v1),(2,v2),(6,v6),(7,v7),(30,t32)],h30,(y31++(y28++(y25++(y22++(y19++(y16++(y13++(y10++(y7++(y4++x))))))))))⟩)
theorem ziX {C gl e h x K}:NW C gl bO ⟨e,h,x⟩ K=z5g C gl (aA e 0) (aA e 1) (aA e 2) (aA e 6) (aA e 7) h x K:=by kernel_rfl
theorem zlB {C gl e h x K}:NW C gl (.loop bO) ⟨e,h,x⟩ K=GA C gl bO K [(0,aA e 0),(1,aA e 1),(2,aA e 2),(6,aA e 6),(7,aA e 7)] h x:=jC
def CY:ACode:=.pr [0,1,2,6] (rg [mV 13 6,
bN 14 .add 13 (cI 1),
mV 6 14] [0,1,2,6])
def z5h (C:Hd)(gl:GL)(v0 v1 v2 v6:AV)(h:bA)(x:Esc)(K:KT):Prop:=
 pK (jA .add v6 (AI 1)) fun t1=>
 K .normal ⟨[(0,v0),(1,v1),(2,v2),(6,t1)],h,x⟩
theorem ziY {C gl e h x K}:NW C gl CY ⟨e,h,x⟩ K=z5h C gl (aA e 0) (aA e 1) (aA e 2) (aA e 6) h x K:=by kernel_rfl
def z1B (q1 q2:ACode):ACode:=.pr [0,1,2,6] (.seq (.seq (rg [mV 10 6,
mV 11 2,
bN 12 .lss 10 11] [0,1,2,6,12])
(.cond 12 .skip
(.exit 0)))
(.seq (.block 1 (.seq (rg [mV 15 6,
mV 7 15] [0,1,2,6,7])
(.block 2 (.loop q1))))
q2))
def WL:ACode:=z1B bO CY
def rW (C:Hd)(gl:GL)(q1 q2:ACode)(v0 v1 v2 v6:AV)(h:bA)(x:Esc)(K:KT):Prop:=
 pK (jA .lss v6 v2) fun t1=>
 oA t1 (NW C gl (.loop q1) ⟨[(0,v0),(1,v1),(2,v2),(6,v6),(7,v6)],h,x⟩ (wA 2 (wA 1 (QA C gl q2 K))))
 (K (.exit 0) ⟨[(0,v0),(1,v1),(2,v2),(6,v6),(12,t1)],h,x⟩)
theorem zba {C gl q1 q2 e h x K}:NW C gl (z1B q1 q2) ⟨e,h,x⟩ K=rW C gl q1 q2 (aA e 0) (aA e 1) (aA e 2) (aA e 6) h x K:=by kernel_rfl
theorem ziZ {C gl e h x K}:NW C gl WL ⟨e,h,x⟩ K=rW C gl bO CY (aA e 0) (aA e 1) (aA e 2) (aA e 6) h x K:=zba
theorem zlC {C gl e h x K}:NW C gl (.loop WL) ⟨e,h,x⟩ K=GA C gl WL K [(0,aA e 0),(1,aA e 1),(2,aA e 2),(6,aA e 6)] h x:=jC
def z1A (q3:ACode):ACode:=(.seq (rg [mV 8 1,
bN 9 .add 8 (cI 1),
mV 6 9] [0,1,2,6])
(.block 0 (.loop q3)))
def CU:AFun:=⟨3,[],z1A WL,true,false⟩
def GQ (C:Hd)(gl:GL)(q3:ACode)(v0 v1 v2:AV)(h:bA)(x:Esc)(K:KT):Prop:=
 pK (jA .add v1 (AI 1)) fun t1=>
 NW C gl (.loop q3) ⟨[(0,v0),(1,v1),(2,v2),(6,t1)],h,x⟩ (wA 0 K)
theorem zaZ {C gl q3 v0 v1 v2 h x K}:NW C gl (z1A q3) ⟨enter [v0,v1,v2],h,x⟩ K=GQ C gl q3 v0 v1 v2 h x K:=by kernel_rfl
theorem ziW {C gl v0 v1 v2 h x K}:NW C gl CU.body ⟨enter [v0,v1,v2],h,x⟩ K=GQ C gl WL v0 v1 v2 h x K:=zaZ
def zb3:ACode:=(.seq (rg [mV 4 cF] [0,1])
(.seq (rg [mV 5 0,
cL 6 TE [5],
mV 7 6,
gD 8 7 true (.mv 1),
gD 9 7 true (.call TE [8]),
gD 10 7 true (.un .not 9),
uO 11 (.pick 7 10 cF),
mV 12 11,
gD 13 12 false (.mv 0),
gD 14 12 false (.mv 1),
gD 15 12 false (.bin .lss 13 14),
uO 16 (.pick 12 cT 15),
mV 4 16] [4])
.ret))
def sT:AFun:=⟨2,[.t 4],zb3,false,false⟩
def tV (C:Hd)(gl:GL)(v0 v1:AV)(h:bA)(x:Esc)(K:KT):Prop:=
 C TE [v0] h fun t1 h2 y3=>
 gM t1 true v1 h2 fun t4 h5 y6=>
 gV t1 true h5 (C TE [t4] h5) fun t7 h8 y9=>
 gP t1 true (oUn .not t7) h8 fun t10 h11 y12=>
 pK (MA t1 t10 (AB false)) fun t13=>
 gM t13 false v0 h11 fun t14 h15 y16=>
 gM t13 false v1 h15 fun t17 h18 y19=>
 gP t13 false (jA .lss t14 t17) h18 fun t20 h21 y22=>
 pK (MA t13 (AB true) t20) fun t23=>
 K .ret ⟨[(4,t23)],h21,(y22++(y19++(y16++(y12++(y9++(y6++(y3++x)))))))⟩
theorem zgm {C gl v0 v1 h x K}:NW C gl sT.body ⟨enter [v0,v1],h,x⟩ K=tV C gl v0 v1 h x K:=by kernel_rfl
def zbx:ACode:=(.seq (rg [uO 2 (.box 0),
mV 4 (cI 0)] [1,2])
(.seq (rg [fA 8 0 none 2,
lD 9 none 8,
mV 10 1,
cL 11 zH [9,10,(.f VF)],
mV 7 11,
eX 12 7 0,
eX 13 7 1,
mV 5 12,
mV 6 13] [5,6])
(.seq (.seq (rg [mV 14 6,
uO 15 (.un .not 14)] [5,15])
(.cond 15 (.seq (rg [mV 4 (cI (-1))] [4])
.ret)
.skip))
(.seq (rg [mV 16 5,
mV 4 16] [4])
.ret))))
def TO:AFun:=⟨2,[.t 4],zbx,false,false⟩
def NP (C:Hd)(gl:GL)(v0 v1:AV)(h:bA)(x:Esc)(K:KT):Prop:=
 wK (dB v0 h) fun t1 h2 y3=>
 pK (mA 0 none t1) fun t4=>
 pK (eA none t4 h2) fun t5=>
 C zH [t5,v1,(.fn VF [])] h2 fun t6 h7 y8=>
 pK (iC t6 0) fun t9=>
 pK (iC t6 1) fun t10=>
 pK (oUn .not t10) fun t11=>
 oA t11 (K .ret ⟨[(4,(AI (-1)))],h7,(y8++(y3++x))⟩)
 (K .ret ⟨[(4,t9)],h7,(y8++(y3++x))⟩)
theorem zfG {C gl v0 v1 h x K}:NW C gl TO.body ⟨enter [v0,v1],h,x⟩ K=NP C gl v0 v1 h x K:=by kernel_rfl
def zb1:ACode:=(.seq (rg [uO 2 (.box 0),
mV 3 cF] [1,2])
(.seq (rg [lD 4 (some 4) 2,
cL 5 yE [4],
mV 6 5,
gD 7 6 true (.faddr 1 none 2),
gD 8 6 true (.load none 7),
gD 9 6 true (.load none 1),
gD 10 6 true (.bin .eql 8 9),
uO 11 (.pick 6 10 cF),
mV 3 11] [3])
.ret))
def cP:AFun:=⟨2,[.t 3],zb1,false,false⟩
def UP (C:Hd)(gl:GL)(v0 v1:AV)(h:bA)(x:Esc)(K:KT):Prop:=
 wK (dB v0 h) fun t1 h2 y3=>
 pK (eA (some 4) t1 h2) fun t4=>
 C yE [t4] h2 fun t5 h6 y7=>
 gP t5 true (mA 1 none t1) h6 fun t8 h9 y10=>
 gP t5 true (eA none t8 h9) h9 fun t11 h12 y13=>
 gP t5 true (eA none v1 h12) h12 fun t14 h15 y16=>
 gP t5 true (jA .eql t11 t14) h15 fun t17 h18 y19=>
 pK (MA t5 t17 (AB false)) fun t20=>
 K .ret ⟨[(3,t20)],h18,(y19++(y16++(y13++(y10++(y7++(y3++x))))))⟩
theorem zgd {C gl v0 v1 h x K}:NW C gl cP.body ⟨enter [v0,v1],h,x⟩ K=UP C gl v0 v1 h x K:=by kernel_rfl
def iL:ACode:=.pr [3,6,7,8] (.seq (rg [bN 9 .lss 8 7] [3,6,7,8,9])
(.seq (.cond 9 .skip
(.exit 0))
(.seq (.block 1 (.seq (rg [iA 10 none 6 8,
lD 11 none 10,
mV 5 11] [3,5,6,7,8])
(.seq (rg [mV 12 5,
mV 13 3,
bN 14 .neq 12 13] [3,5,6,7,8,14])
(.cond 14 (.seq (rg [mV 15 5,
mV 2 15] [2])
.ret)
.skip))))
(rg [bN 16 .add 8 (cI 1),
mV 8 16] [3,6,7,8]))))
def z3L (C:Hd)(gl:GL)(v3 v6 v7 v8:AV)(h:bA)(x:Esc)(K:KT):Prop:=
 pK (jA .lss v8 v7) fun t1=>
 oA t1 (pK (tA none v6 v8 h) fun t2=>
 pK (eA none t2 h) fun t3=>
 pK (jA .neq t3 v3) fun t4=>
 oA t4 (K .ret ⟨[(2,t3)],h,x⟩)
 (pK (jA .add v8 (AI 1)) fun t5=>
 K .normal ⟨[(3,v3),(6,v6),(7,v7),(8,t5)],h,x⟩))
 (K (.exit 0) ⟨[(3,v3),(6,v6),(7,v7),(8,v8),(9,t1)],h,x⟩)
theorem zgo {C gl e h x K}:NW C gl iL ⟨e,h,x⟩ K=z3L C gl (aA e 3) (aA e 6) (aA e 7) (aA e 8) h x K:=by kernel_rfl
theorem zkR {C gl e h x K}:NW C gl (.loop iL) ⟨e,h,x⟩ K=GA C gl iL K [(3,aA e 3),(6,aA e 6),(7,aA e 7),(8,aA e 8)] h x:=jC
def ER:ACode:=.pr [3] (.seq (rg [mV 17 3,
mV 2 17] [2])
.ret)
def z3M (C:Hd)(gl:GL)(v3:AV)(h:bA)(x:Esc)(K:KT):Prop:=
 K .ret ⟨[(2,v3)],h,x⟩
theorem zgp {C gl e h x K}:NW C gl ER ⟨e,h,x⟩ K=z3M C gl (aA e 3) h x K:=by kernel_rfl
def z03 (q1 q2:ACode):ACode:=(.seq (rg [mV 2 (cI 0)] [0])
(.seq (rg [mV 3 (cI 0)] [0,3])
(.seq (.seq (rg [mV 6 0,
lN 7 6,
mV 8 (cI 0)] [3,6,7,8])
(.block 0 (.loop q1)))
q2)))
def dP:AFun:=⟨1,[.t 2],z03 iL ER,false,false⟩
def WP (C:Hd)(gl:GL)(q1 q2:ACode)(v0:AV)(h:bA)(x:Esc)(K:KT):Prop:=
 pK (xA v0) fun t1=>
 NW C gl (.loop q1) ⟨[(3,(AI 0)),(6,v0),(7,t1),(8,(AI 0))],h,x⟩ (wA 0 (QA C gl q2 K))
theorem z9S {C gl q1 q2 v0 h x K}:NW C gl (z03 q1 q2) ⟨enter [v0],h,x⟩ K=WP C gl q1 q2 v0 h x K:=by kernel_rfl
theorem zgn {C gl v0 h x K}:NW C gl dP.body ⟨enter [v0],h,x⟩ K=WP C gl iL ER v0 h x K:=z9S
def zcd:ACode:=(.seq (rg [mV 4 (cI 0)] [0,1])
(.seq (rg [mV 5 0,
mV 6 1,
cL 7 uI [5,6],
mV 4 7] [4])
.ret))
def nP:AFun:=⟨2,[.t 4],zcd,false,false⟩
def yW (C:Hd)(gl:GL)(v0 v1:AV)(h:bA)(x:Esc)(K:KT):Prop:=
 C uI [v0,v1] h fun t1 h2 y3=>
 K .ret ⟨[(4,t1)],h2,(y3++x)⟩
theorem zjk {C gl v0 v1 h x K}:NW C gl nP.body ⟨enter [v0,v1],h,x⟩ K=yW C gl v0 v1 h x K:=by kernel_rfl
def zb6:ACode:=(.seq (rg [mV 4 (cI 0)] [0,1])
(.seq (rg [mV 5 0,
mV 6 1,
cL 7 TF [5,6],
mV 4 7] [4])
.ret))
def uT:AFun:=⟨2,[.t 4],zb6,false,false⟩
def wV (C:Hd)(gl:GL)(v0 v1:AV)(h:bA)(x:Esc)(K:KT):Prop:=
 C TF [v0,v1] h fun t1 h2 y3=>
 K .ret ⟨[(4,t1)],h2,(y3++x)⟩
theorem zgs {C gl v0 v1 h x K}:NW C gl uT.body ⟨enter [v0,v1],h,x⟩ K=wV C gl v0 v1 h x K:=by kernel_rfl
def JL:ACode:=.pr [0,1,2,8,9,10] (.seq (.seq (rg [mV 15 9,
mV 16 10,
bN 17 .lss 15 16] [0,1,2,8,9,10,17])
(.cond 17 .skip
(.exit 0)))
(.block 1 (.seq (rg [mV 18 9,
mV 19 10,
bN 20 .add 18 19,
uO 21 (.conv (.i .u64) 20),
bN 22 .shr 21 (.c (.p (.int .u64 1))),
uO 23 (.conv (.i .i64) 22),
mV 11 23] [0,1,2,8,9,10,11])
(.seq (rg [mV 24 2,
mV 25 0,
mV 26 11,
iA 27 (some 2) 25 26,
lD 28 (some 2) 27,
mV 29 1,
uO 30 (.callv 24 [28,29]),
bN 31 .lss 30 (cI 0)] [0,1,2,8,9,10,11,31])
(.cond 31 (rg [mV 32 11,
bN 33 .add 32 (cI 1),
mV 9 33] [0,1,2,8,9,10])
(rg [mV 34 11,
mV 10 34] [0,1,2,8,9,10]))))))
def z4E (C:Hd)(gl:GL)(v0 v1 v2 v8 v9 v10:AV)(h:bA)(x:Esc)(K:KT):Prop:=
 pK (jA .lss v9 v10) fun t1=>
 oA t1 (pK (jA .add v9 v10) fun t2=>
 pK (UD .u64 t2) fun t3=>
 pK (jA .shr t3 (.p (.int .u64 1))) fun t4=>
 pK (UD .i64 t4) fun t5=>
 pK (tA (some 2) v0 t5 h) fun t6=>
 pK (eA (some 2) t6 h) fun t7=>
 lF C v2 [t7,v1] h fun t8 h9 y10=>
 pK (jA .lss t8 (AI 0)) fun t11=>
 oA t11 (pK (jA .add t5 (AI 1)) fun t12=>
 K .normal ⟨[(0,v0),(1,v1),(2,v2),(8,v8),(9,t12),(10,v10)],h9,(y10++x)⟩)
 (K .normal ⟨[(0,v0),(1,v1),(2,v2),(8,v8),(9,v9),(10,t5)],h9,(y10++x)⟩))
 (K (.exit 0) ⟨[(0,v0),(1,v1),(2,v2),(8,v8),(9,v9),(10,v10),(17,t1)],h,x⟩)
theorem zih {C gl e h x K}:NW C gl JL ⟨e,h,x⟩ K=z4E C gl (aA e 0) (aA e 1) (aA e 2) (aA e 8) (aA e 9) (aA e 10) h x K:=by kernel_rfl
theorem zlw {C gl e h x K}:NW C gl (.loop JL) ⟨e,h,x⟩ K=GA C gl JL K [(0,aA e 0),(1,aA e 1),(2,aA e 2),(8,aA e 8),(9,aA e 9),(10,aA e 10)] h x:=jC
def dS:ACode:=.pr [0,1,2,8,9] (.seq (rg [mV 35 9,
mV 36 9,
mV 37 8,
bN 38 .lss 36 37,
mV 39 38,
gD 40 39 true (.mv 2),
gD 41 39 true (.mv 0),
gD 42 39 true (.mv 9),
gD 43 39 true (.iaddr (some 2) 41 42),
gD 44 39 true (.load (some 2) 43),
gD 45 39 true (.mv 1),
gD 46 39 true (.callv 40 [44,45]),
gD 47 39 true (.bin .eql 46 (cI 0)),
uO 48 (.pick 39 47 cF),
mV 6 35,
mV 7 48] [6,7])
.ret)
def z4F (C:Hd)(gl:GL)(v0 v1 v2 v8 v9:AV)(h:bA)(x:Esc)(K:KT):Prop:=
 pK (jA .lss v9 v8) fun t1=>
 gM t1 true v2 h fun t2 h3 y4=>
 gM t1 true v0 h3 fun t5 h6 y7=>
 gM t1 true v9 h6 fun t8 h9 y10=>
 gP t1 true (tA (some 2) t5 t8 h9) h9 fun t11 h12 y13=>
 gP t1 true (eA (some 2) t11 h12) h12 fun t14 h15 y16=>
 gM t1 true v1 h15 fun t17 h18 y19=>
 gV t1 true h18 (lF C t2 [t14,t17] h18) fun t20 h21 y22=>
 gP t1 true (jA .eql t20 (AI 0)) h21 fun t23 h24 y25=>
 pK (MA t1 t23 (AB false)) fun t26=>
 K .ret ⟨[(6,v9),(7,t26)],h24,(y25++(y22++(y19++(y16++(y13++(y10++(y7++(y4++x))))))))⟩
theorem zii {C gl e h x K}:NW C gl dS ⟨e,h,x⟩ K=z4F C gl (aA e 0) (aA e 1) (aA e 2) (aA e 8) (aA e 9) h x K:=by kernel_rfl
def z1t (q1 q2:ACode):ACode:=(.seq (rg [mV 6 (cI 0),
mV 7 cF] [0,1,2])
(.seq (rg [mV 12 0,
lN 13 12,
mV 8 13] [0,1,2,8])
(.seq (rg [mV 14 8,
mV 9 (cI 0),
mV 10 14] [0,1,2,8,9,10])
(.seq (.block 0 (.loop q1))
q2))))
def fP:AFun:=⟨3,[.t 6,.t 7],z1t JL dS,false,false⟩
def uQ (C:Hd)(gl:GL)(q1 q2:ACode)(v0 v1 v2:AV)(h:bA)(x:Esc)(K:KT):Prop:=
 pK (xA v0) fun t1=>
 NW C gl (.loop q1) ⟨[(0,v0),(1,v1),(2,v2),(8,t1),(9,(AI 0)),(10,t1)],h,x⟩ (wA 0 (QA C gl q2 K))
theorem zaI {C gl q1 q2 v0 v1 v2 h x K}:NW C gl (z1t q1 q2) ⟨enter [v0,v1,v2],h,x⟩ K=uQ C gl q1 q2 v0 v1 v2 h x K:=by kernel_rfl
theorem zig {C gl v0 v1 v2 h x K}:NW C gl fP.body ⟨enter [v0,v1,v2],h,x⟩ K=uQ C gl JL dS v0 v1 v2 h x K:=zaI
def zby:ACode:=(.seq (rg [uO 2 (.box 0),
mV 4 (cI 0)] [1,2])
(.seq (rg [fA 5 0 none 2,
lD 6 none 5,
mV 7 1,
cL 8 BE [6,7],
mV 4 8] [4])
.ret))
def UO:AFun:=⟨2,[.t 4],zby,false,false⟩
def lV (C:Hd)(gl:GL)(v0 v1:AV)(h:bA)(x:Esc)(K:KT):Prop:=
 wK (dB v0 h) fun t1 h2 y3=>
 pK (mA 0 none t1) fun t4=>
 pK (eA none t4 h2) fun t5=>
 C BE [t5,v1] h2 fun t6 h7 y8=>
 K .ret ⟨[(4,t6)],h7,(y8++(y3++x))⟩
theorem zfH {C gl v0 v1 h x K}:NW C gl UO.body ⟨enter [v0,v1],h,x⟩ K=lV C gl v0 v1 h x K:=by kernel_rfl
def zb5:ACode:=(.seq (rg [mV 4 (cI 0)] [0,1])
(.seq (rg [mV 5 0,
mV 6 1,
cL 7 UF [5,6],
mV 4 7] [4])
.ret))
def eP:AFun:=⟨2,[.t 4],zb5,false,false⟩
def vV (C:Hd)(gl:GL)(v0 v1:AV)(h:bA)(x:Esc)(K:KT):Prop:=
 C UF [v0,v1] h fun t1 h2 y3=>
 K .ret ⟨[(4,t1)],h2,(y3++x)⟩
theorem zgr {C gl v0 v1 h x K}:NW C gl eP.body ⟨enter [v0,v1],h,x⟩ K=vV C gl v0 v1 h x K:=by kernel_rfl
def zb8:ACode:=(.seq (rg [mV 0 cF] [])
(.seq (rg [cL 4 z5H [],
uO 5 (.bsl false none 1 (.str []) [(0,(cS [49]))]),
cL 6 rH [4,5],
mV 3 6,
eX 7 3 0,
eX 8 3 1,
mV 1 7,
mV 2 8] [1,2])
(.seq (rg [mV 9 2,
bN 10 .eql 9 (cI 0),
mV 11 10,
gD 12 11 true (.mv 1),
gD 13 11 true (.len 12),
gD 14 11 true (.bin .eql 13 (cI 1)),
uO 15 (.pick 11 14 cF),
mV 16 15,
gD 17 16 true (.mv 1),
gD 18 16 true (.iaddr none 17 (cI 0)),
gD 19 16 true (.load none 18),
gD 20 16 true (.bin .eql 19 (cI 1)),
uO 21 (.pick 16 20 cF),
mV 0 21] [0])
.ret)))
def zcl:AFun:=⟨0,[.t 0],zb8,false,false⟩
def zb9:ACode:=(.seq (rg [uO 0 (.alloc [.sl0 (some 2),.sl0 (some 3),.sl0 (some 2)])] [0])
(.seq (rg [uO 1 (.build [.p (.int .i64 0),.p (.str []),.p (.int .i64 0),.p (.int .i64 0)] [(0,1,(cI 2)),(1,1,(cS [97])),(2,1,(cI (-1)))]),
uO 2 (.bsl false (some 4) 1 (.agg [.int .i64 0,.str [],.int .i64 0,.int .i64 0]) [(0,1)]),
uO 3 (.build [.p (.str []),.sl0 (some 4)] [(0,1,(cS [117])),(1,1,2)]),
uO 4 (.bsl false (some 2) 1 (.agg [.str [],.sl (some 4) []]) [(0,3)]),
uO 5 (.build [.p (.str []),.p (.str []),.p (.str [])] [(0,1,(cS [110])),(1,1,(cS [117])),(2,1,(cS [97]))]),
uO 6 (.bsl false (some 3) 1 (.agg [.str [],.str [],.str []]) [(0,5)]),
uO 7 (.build [.sl0 (some 2),.sl0 (some 3),.sl0 (some 2)] [(0,1,4),(1,1,6)]),
wO (.store (some 3) 0 7)] [0])
.ret))
def zcm:AFun:=⟨0,[.cell 0 (some 3)],zb9,false,false⟩
end Go.Am
end
section
/- The abstract machine,part L: functions of the library that are met by the kit's contracts: plain values in,plain values out,new memory at most. -/
set_option linter.unusedSimpArgs false
set_option linter.unusedVariables false
namespace Go.Am
variable {P:Program} {gl:Nat→Option PV}
structure PureRow (P:Program) (gl:Nat→Option PV) (f:Nat) (spec:List PV→Option AV):Prop where
 enter:∀us w,(callFunc f us).run P w = .ok (.enter f us) w
 run:∀(M:Mem) (w:World) (vs:List PV) (r:AV) (us:List Value),(∀b o v,M.c b o=some v→w.cell? ⟨b,o,none⟩=some v)→(∀b o,M.b b=some o→w.heap[b]?=some o)→cE gl M→vs.length=us.length →
  (∀(j:Nat) (y:PV) (v:Value),vs[j]?=some y→us[j]?=some v→RPV M y v)→spec vs=some r →
  Calls P f us.toArray w fun e w'=>∃x,e = .returned x∧WExt w w'∧RAV (aH M w w') [] [] r x
abbrev MF:=List (Nat × (List PV→Option AV))
def QH:MF→Nat→List AV→bA→Option (AV×bA×Esc)
 | [],_,_,_=>none
 | (g,s)::r,f,asv,h=>bif Nat.beq f g then((unp asv).bind s).map fun v=>(v,h,[]) else QH r f asv h
theorem UY:∀ (gs:MF),(∀g s,(g,s)∈gs→PureRow P gl g s)→∀{f:Nat} {asv:List AV} {h:bA} {v:AV} {h':bA} {x:Esc},QH gs f asv h=some (v,h',x) →
 QC P gl f asv h fun v1 h1 x1=>v1=v∧h1=h'∧x1=x
 | [],_,f,asv,h,v,h',x,H=>by cases H
 | (g,s)::r,hg,f,asv,h,v,h',x,H=>by
  unfold QH at H;cases e1:Nat.beq f g with
  | false=>
   rw[e1]at H;exact UY r (fun g sh hm=>hg g sh (by simp [hm])) H
  | true=>
   rw[e1]at H;have e:=Nat.eq_of_beq_eq_true e1
   subst e;have R:=hg f s (by simp)
   simp only[cond_true]at H;obtain⟨y,hy,e2⟩:=Option.map_eq_some_iff.1 H;simp only[Prod.mk.injEq]at e2;obtain⟨rfl,rfl,rfl⟩:=e2;obtain⟨ps,hps,hs⟩:=Option.bind_eq_some_iff.1 hy;have hm:=pM hps
   subst hm;intro μ w vs Hh Hg hl hr;refine .inl ⟨R.enter _,?_⟩;refine(R.run (imm h μ w) w ps y vs (fun b o v hv=>(RD.1 hv).2) (fun b o hv=>(GH.1 hv).2) Hg (by simpa using hl) (fun j q v hq hv=>(hr j (.p q) v (by simp [hq]) hv).p_inv) hs).mono fun e w' he=>?_
   obtain⟨u,rfl,g1,g2⟩:=he;obtain⟨n1,n2⟩:=Hh.ext g1;have Lq:(aH (imm h μ w) w w').le (imm h μ w'):=by
    refine⟨fun b o v hv=>?_,fun b o hv=>?_,rfl,fun _ _ h=>by cases h⟩
    ·dsimp only[aH]at hv
     split at hv
     ·exact n2.le.c _ _ _ hv
     ·rename_i hb
      exact RD.2 ⟨fun hO=>hb (AX Hh hO),hv⟩
    ·dsimp only[aH]at hv
     cases hv
   exact⟨_,_,_,μ,⟨rfl,rfl,rfl⟩,g2.evo ⟨Lq,Nat.zero_le _,fun id o m h1=>by simp at h1⟩,n1,n2,DA.refl h []⟩
def KH (gs:List (Nat × Sh))(ps:MF)(f:Nat)(asv:List AV)(h:bA):Option (AV×bA×Esc):=match DK gs f asv h with
 | some y=>some y
 | none=>match QH ps f asv h with
  | some y=>some y
  | none=>match AA h asv with
   | some (asv',h1)=>QH ps f asv' h1
   | none=>none
theorem zmX {ps:MF}(hp:∀ g s,(g,s)∈ps→PureRow P gl g s){f:Nat}{asv asv':List AV}{h h1:bA}{v:AV}{h':bA}{x:Esc}(hq:AA h asv=some (asv',h1))(H:QH ps f asv' h1=some (v,h',x)) :
 QC P gl f asv h fun v1 h2 x1=>v1=v∧h2=h'∧x1=x:=by
 intro μ w vs Hh Hg hl hr;obtain⟨q1,q2,q3⟩:=vS asv Hh hl hr hq;rcases UY ps hp H μ w vs q1.1 (Hg.mono q1.2.1.le) q2 q3 with⟨k1,k2⟩|⟨r,w',v2,h2,x2,μ',k1,k2,k3,k4,k5,k6⟩
 ·refine .inl ⟨k1,k2.mono fun e w' he=>?_⟩
  cases e with
  | returned r=>
   obtain⟨v2,h2,x2,μ',k2,k3,k4,k5,k6⟩:=he;exact⟨v2,h2,x2,μ',k2,k3,k4,q1.2.1.trans k5,by simpa using q1.2.2.trans k6⟩
  | panicked _=>exact he
  | outgrown=>exact he
 ·exact .inr ⟨r,w',v2,h2,x2,μ',k1,k2,k3,k4,q1.2.1.trans k5,by simpa using q1.2.2.trans k6⟩
theorem libF_ok {gs:List (Nat × Sh)}{ps:MF}(hg:∀ g sh,(g,sh)∈gs→GrowRow P g sh)(hp:∀ g s,(g,s)∈ps→PureRow P gl g s){f:Nat}{asv:List AV}{h:bA}{v:AV}{h':bA}{x:Esc}(H:KH gs ps f asv h=some (v,h',x)) :
 QC P gl f asv h fun v1 h1 x1=>v1=v∧h1=h'∧x1=x:=by
 unfold KH at H;split at H
 ·rename_i y hy
  cases H;exact z6A gs hg hy
 ·split at H
  ·rename_i y hy
   cases H;exact UY ps hp hy
  ·split at H
   ·rename_i asv' h1 hq
    exact zmX hp hq H
   ·cases H
theorem oX {X:Ctx}{f:Nat}{asv:List AV}{h h':bA}{v:AV}{x:Esc}{K:nA}(hf:X.fn f=none)(hx:X.ex2 f asv h=some (v,h',x)):kA X f asv h K=K v h' x:=by
 refine propext (kA.eq (kA.fold ?_) K);unfold uC;simp only[hf,hx];exact⟨trivial,trivial,trivial⟩
def aR:List (Nat × Sh)→Nat→Option Sh
 | [],_=>none
 | (g,s)::r,f=>bif Nat.beq f g then some s else aR r f
theorem z69:∀ {gs:List (Nat × Sh)}{f:Nat}{asv:List AV}{h:bA},aR gs f=none→DK gs f asv h=none
 | [],f,asv,h,_=>rfl
 | (g,s)::r,f,asv,h,hm=>by
  unfold aR at hm;unfold DK;cases hq:Nat.beq f g with
  | true=>rw[hq]at hm;cases hm
  | false=>rw[hq]at hm;exact z69 hm
def wS:MF→Nat→Option (List PV→Option AV)
 | [],_=>none
 | (g,s)::r,f=>bif Nat.beq f g then some s else wS r f
theorem z7Q:∀ {gs:MF}{f:Nat}{s:List PV→Option AV}{asv:List AV}{h:bA},wS gs f=some s→QH gs f asv h=((unp asv).bind s).map fun v=>(v,h,[])
 | [],f,s,asv,h,hm=>by cases hm
 | (g,s')::r,f,s,asv,h,hm=>by
  unfold wS at hm;unfold QH;cases hq:Nat.beq f g with
  | true=>rw[hq]at hm;cases hm;rfl
  | false=>rw[hq]at hm;exact z7Q hm
theorem z7b {gs:List (Nat × Sh)}{ps:MF}{f:Nat}{s:List PV→Option AV}{asv:List AV}{vs:List PV}{v:AV}{h:bA}(hg:aR gs f=none)(hm:wS ps f=some s)(hu:unp asv=some vs)(hv:s vs=some v):KH gs ps f asv h=some (v,h,[]):=by
 unfold KH;rw[z69 hg,z7Q hm,hu];simp [hv]
def glOf:List (Nat × PV)→Nat→Option PV
 | [],_=>none
 | (g,v)::r,n=>bif Nat.beq n g then some v else glOf r n
theorem zr3 {f:Nat}(h:(match P.funcs[f]? with | some fn=>fn.body.isSome&&fn.name != "runtime.NumGoroutine" | none=>false)=true)(us:Array Value)(w:World):(callFunc f us).run P w = .ok (.enter f us) w:=by
 cases hf:P.funcs[f]? with
 | none=>rw[hf]at h;cases h
 | some fn=>
  rw[hf]at h;simp only[Bool.and_eq_true,bne_iff_ne,ne_eq]at h;cases hb:fn.body with
  | none=>rw[hb]at h;cases h.1
  | some c=>exact JW hf hb h.2 us w
theorem zr5 {M:Mem}:cE (glOf []) M:=fun n v hv=>by cases hv
def TH (s:List UInt8):Nat→List UInt8
 | 0=>[]
 | c+1=>s++TH s c
def dM:List PV→Option AV
 | [.str s,.int .i64 c]=>if 0≤c∧s.length*c.toNat≤1000000∧c≤1000000 then some (.p (.str (TH s c.toNat))) else none
 | _=>none
def yO (s cs:List UInt8):List UInt8:=(s.reverse.dropWhile (cs.contains ·)).reverse.dropWhile (cs.contains ·)
def trimS:List PV→Option AV
 | [.str s,.str cs]=>if s.length≤1000000∧cs.length≤1000∧cs.all (fun b=>decide (b.toNat<128))=true then some (.p (.str (yO s cs))) else none
 | _=>none
end Go.Am
end
section
/- The abstract machine,part C: fC calls that say true,asv contracts. -/
set_option linter.all false
namespace Go.Am
variable {P:Program} {gl:Nat→Option PV}
def BZ:List PV→Option AV
 | []=>some (AB true)
 | _=>none
theorem RPV.mono' {M M':Mem}(hM:∀ b o v,M.c b o=some v→M'.c b o=some v){v:PV}{x:Value}(H:RPV M v x):RPV M' v x:=by
 induction H with
 | int k n=>exact .int k n
 | bool b=>exact .bool b
 | str s=>exact .str s
 | nilp=>exact .nilp
 | unk k n=>exact .unk k n
 | nils sh a cap=>exact .nils sh a cap
 | sl sh xs b o cap f hne hc he hm hr ih=>exact .sl sh xs b o cap f hne hc he (fun j y hy=>hM _ _ _ (hm j y hy)) ih
 | agg cs vs hl hr ih=>exact .agg cs vs hl ih
theorem cE.mono' {M M':Mem}(hc:∀ b o v,M.c b o=some v→M'.c b o=some v)(hb:∀ b o,M.b b=some o→M'.b b=some o)(H:cE gl M):cE gl M':=fun n v hv=>by
 obtain⟨h1,cs,t,x,h2,h3⟩:=H n v hv;refine⟨?_,cs,t,x,hb _ _ h2,h3⟩;cases h1 with|vp _ _ _ f hm hr=>exact .vp v n 0 f (fun j y hy=>hc _ _ _ (hm j y hy)) (fun j y hy=>(hr j y hy).mono' hc)
theorem zr6 {X:Ctx}(HX:Fits P X){f:Nat}(H:kA X f [] [] fun v h x=>v=AB true∧h=[]∧x=[])(he:∀ us w,(callFunc f us).run P w = .ok (.enter f us) w):PureRow P X.gl f BZ:=by
 refine⟨he,fun M w vs r us hc hb hG hl hr hs=>?_⟩
 cases vs with
 | cons a l=>cases hs
 | nil=>
  have hu:us=[]:=List.length_eq_zero_iff.1 (by simpa using hl.symm)
  subst hu;simp only[BZ,Option.some.injEq]at hs;subst hs;have hno:∀b o,¬sG ([]:bA) ([]:Mu) b o:=fun b o ⟨id,n,h1,_⟩=>by simp at h1
  have hnt:∀b,¬jJ ([]:Mu) b:=fun b ⟨id,n,h1⟩=>by simp at h1
  have hG':cE X.gl (imm [] [] w):=hG.mono' (fun b o v h=>RD.2 ⟨hno b o,hc b o v h⟩) (fun b o h=>GH.2 ⟨hnt b,hb b o h⟩)
  have hR:HeapRel [] [] w:=⟨rfl,fun id o m h1=>by simp at h1,fun i j b n n' h1=>by simp at h1,fun i b n h1=>by simp at h1⟩
  rcases z22 HX H [] w [] hR hG' rfl (fun j y v h1=>by simp at h1) with⟨_,q⟩|⟨r,w',v,h',x,μ',q,_⟩
  ·refine q.mono fun e w' h=>?_
   cases e with
   | panicked _=>exact h.elim
   | outgrown=>exact h.elim
   | returned r=>
    obtain⟨v,h',x,μ',⟨rfl,rfl,rfl⟩,h1,h2,h3,h4⟩:=h;have hm:μ'=[]:=List.length_eq_zero_iff.1 (by simpa using h2.len)
    subst hm;have hbl:∀b o,w.heap[b]?=some o→w'.heap[b]?=some o:=fun b o h=>(GH.1 (h3.le.b b o (GH.2 ⟨hnt b,h⟩))).2
    refine⟨r,rfl,⟨?_,fun b hb=>?_,?_⟩,?_⟩
    ·rcases Nat.lt_or_ge w'.heap.size w.heap.size with q|q
     ·have:=hbl w'.heap.size _ (Array.getElem?_eq_getElem q)
      simp at this
     ·exact q
    ·rw[hbl b _ (Array.getElem?_eq_getElem hb),Array.getElem?_eq_getElem hb]
    ·have:=h3.le.z
     simpa [imm] using this
    ·have:=h1.p_bool
     rw[this];exact .p _ _ (.bool true)
  ·rw[he]at q
   cases q
end Go.Am
end
section
/- The functions together. -/
set_option linter.unusedVariables false
set_option maxRecDepth 100000
namespace Go.Am
def fns:List (Nat × AFun):=[(WQ,xT),(YJ,zT),(ZJ,BT),(rH,MO),(PJ,mT),(QJ,nT),(TJ,pT),(cK,OT),(iK,VT),(dK,RT),(eK,ST),(YF,PT),(jK,aU),(xE,KO),(DI,sU),(vF,tU),(xC,DT),(wI,JT),(sK,qU),(IC,IT),(II,yU),(wH,AT),(AH,oU),(AE,XT),(QB,ET),(sF,MT),(SE,YO),(zE,ZO),(CG,aP),(DH,rU),(RJ,oT),(BG,LO),(UJ,qT),(bK,NT),(uF,iU),(xH,WT),(fK,TT),(ZF,UT),(oK,kU),(nK,eU),(rK,pU),(yI,QT),(DG,kP),(PD,gU),(qK,mU),(mI,GO),(XF,HT),(DD,jP),(xI,LT),(xK,xU),(cG,DU),(vH,vT),(VJ,rT),(JI,zU),(bG,iP),(WF,yT),(aK,FT),(lE,GT),(sH,PO),(vK,wU),(qF,HO),(pI,QO),(rI,XO),(kE,JO),(aG,jU),(kK,bU),(mK,dU),(yH,nU),(lK,cU),(CI,lU),(tF,YT),(BI,fU),(uK,vU),(HI,mP),(GI,lP),(yK,BU),(XJ,wT),(TE,tT),(dG,EU),(oI,OO),(yE,WO),(tH,RO),(sI,bP),(nI,NO),(AK,FU),(tK,uU),(zI,ZT),(zK,CU),(rF,sT),(qI,TO),(uH,cP),(tI,dP),(BE,nP),(WJ,uT),(zH,fP),(VF,UO),(uI,eP)]
def GRL:List (Nat × Sh):=[]
def PRL:MF:=[(EH,dM),(BK,trimS),(vI,BZ)]
def GLL:List (Nat × PV):=[]
def oN:List (Nat × AFun)→Nat→Option AFun
 | [],_=>none
 | (k,F)::r,n=>bif Nat.beq k n then some F else oN r n
def X:Ctx:=⟨oN fns,glOf GLL,lI TF UF,KH GRL PRL⟩
theorem z6h {p:Nat→AFun→Bool}:∀(l:List (Nat×AFun)),(l.all fun y=>p y.1 y.2)=true→∀n F,oN l n=some F→p n F=true
 | [],_,n,F,h=>by cases h
 | (k,G)::r,ha,n,F,h=>by
  simp only[List.all_cons,Bool.and_eq_true]at ha;simp only[oN]at h;cases hk:Nat.beq k n with
  | true=>
   rw[hk]at h;have:=Nat.eq_of_beq_eq_true hk;simp only[cond_true,Option.some.injEq]at h;subst this;subst h;exact ha.1
  | false=>
   rw[hk]at h;exact z6h r ha.2 n F h
def fns0:List (Nat × AFun):=[(rH,MO),(xE,KO),(vI,zcl),(SE,YO),(zE,ZO),(CG,aP),(BG,LO),(DG,kP),(mI,GO),(z5H,zcm),(DD,jP),(bG,iP),(sH,PO),(qF,HO),(pI,QO),(rI,XO),(kE,JO),(HI,mP),(GI,lP),(oI,OO),(yE,WO),(tH,RO),(sI,bP),(nI,NO),(qI,TO),(uH,cP),(tI,dP),(BE,nP),(zH,fP),(VF,UO),(uI,eP)]
def PRL0:MF:=[(EH,dM),(BK,trimS)]
def X0:Ctx:=⟨oN fns0,glOf GLL,lI TF UF,KH GRL PRL0⟩
theorem uM:X.NoNext:=fun f F h=>z6h (p:=fun _ F=>F.isDet||F.body.noNext) fns (by kernel_rfl) f F h
theorem zq0:X.fn WQ=some xT:=by kernel_rfl
theorem zd8 {u0 v0:AV}{h h1:bA}{P:nA}(hp:AA h [u0]=some ([v0],h1)):kA X WQ [u0] h P=CJ (kA X) X.gl GR v0 h1 [] (yA [.t 2] false h.length P):=by rw[SA zq0 rfl hp rfl];exact zgy
theorem zq2:X.fn YJ=some zT:=by kernel_rfl
theorem zdA {u0 v0:AV}{h h1:bA}{P:nA}(hp:AA h [u0]=some ([v0],h1)):kA X YJ [u0] h P=ZP (kA X) X.gl TI SN v0 h1 [] (yA [.cell 2 (some 3)] false h.length P):=by rw[SA zq2 rfl hp rfl];exact zg3
theorem zq4:X.fn ZJ=some BT:=by kernel_rfl
theorem zdC {u0 u1 v0 v1:AV}{h h1:bA}{P:nA}(hp:AA h [u0,u1]=some ([v0,v1],h1)):kA X ZJ [u0,u1] h P=bQ (kA X) X.gl oL MR v0 v1 h1 [] (yA [.t 4] false h.length P):=by rw[SA zq4 rfl hp rfl];exact zgE
theorem zqb:X.fn rH=some MO:=by kernel_rfl
theorem zdj {u0 u1 v0 v1:AV}{h h1:bA}{P:nA}(hp:AA h [u0,u1]=some ([v0,v1],h1)):kA X rH [u0,u1] h P=HM (kA X) X.gl VK xR v0 v1 h1 [] (yA [.t 4,.t 5] false h.length P):=by rw[SA zqb rfl hp rfl];exact zfy
theorem zpW:X.fn PJ=some mT:=by kernel_rfl
theorem zde {u0 u1 v0 v1:AV}{h h1:bA}{P:nA}(hp:AA h [u0,u1]=some ([v0,v1],h1)):kA X PJ [u0,u1] h P=FM (kA X) X.gl SK vR v0 v1 h1 [] (yA [.t 4,.t 5] false h.length P):=by rw[SA zpW rfl hp rfl];exact zfj
theorem zpZ:X.fn QJ=some nT:=by kernel_rfl
theorem zdh {u0 u1 v0 v1:AV}{h h1:bA}{P:nA}(hp:AA h [u0,u1]=some ([v0,v1],h1)):kA X QJ [u0,u1] h P=JP (kA X) X.gl v0 v1 h1 [] (yA [.t 4,.t 5] false h.length P):=by rw[SA zpZ rfl hp rfl];exact zfw
theorem zqc:X.fn TJ=some pT:=by kernel_rfl
theorem zdk {u0 v0:AV}{h h1:bA}{P:nA}(hp:AA h [u0]=some ([v0],h1)):kA X TJ [u0] h P=IM (kA X) X.gl WK yR v0 h1 [] (yA [.t 2,.t 3] false h.length P):=by rw[SA zqc rfl hp rfl];exact zf1
theorem zqF:X.fn cK=some OT:=by kernel_rfl
theorem zdL {u0 u1 v0 v1:AV}{h h1:bA}{P:nA}(hp:AA h [u0,u1]=some ([v0,v1],h1)):kA X cK [u0,u1] h P=HJ (kA X) X.gl rL PR v0 v1 h1 [] (yA [.t 4] false h.length P):=by rw[SA zqF rfl hp rfl];exact zhd
theorem zqM:X.fn iK=some VT:=by kernel_rfl
theorem zdS {u0 u1 v0 v1:AV}{h h1:bA}{P:nA}(hp:AA h [u0,u1]=some ([v0,v1],h1)):kA X iK [u0,u1] h P=mQ (kA X) X.gl vL UR v0 v1 h1 [] (yA [.t 4] false h.length P):=by rw[SA zqM rfl hp rfl];exact zhw
theorem zqI:X.fn dK=some RT:=by kernel_rfl
theorem zdO {u0 u1 v0 v1:AV}{h h1:bA}{P:nA}(hp:AA h [u0,u1]=some ([v0,v1],h1)):kA X dK [u0,u1] h P=jQ (kA X) X.gl uL TR v0 v1 h1 [] (yA [.t 4] false h.length P):=by rw[SA zqI rfl hp rfl];exact zhn
theorem zqJ:X.fn eK=some ST:=by kernel_rfl
theorem zdP {u0 u1 v0 v1:AV}{h h1:bA}{P:nA}(hp:AA h [u0,u1]=some ([v0,v1],h1)):kA X eK [u0,u1] h P=VV (kA X) X.gl v0 v1 h1 [] (yA [.t 4] false h.length P):=by rw[SA zqJ rfl hp rfl];exact zht
theorem zqG:X.fn YF=some PT:=by kernel_rfl
theorem zdM {u0 v0:AV}{h h1:bA}{P:nA}(hp:AA h [u0]=some ([v0],h1)):kA X YF [u0] h P=RM (kA X) X.gl sL WN v0 h1 [] (yA [.t 2] false h.length P):=by rw[SA zqG rfl hp rfl];exact zhg
theorem zqR:X.fn jK=some aU:=by kernel_rfl
theorem zdW {u0 v0:AV}{h h1:bA}{P:nA}(hp:AA h [u0]=some ([v0],h1)):kA X jK [u0] h P=oQ (kA X) X.gl zL XR v0 h1 [] (yA [.t 2] false h.length P):=by rw[SA zqR rfl hp rfl];exact zh7
theorem zpX:X.fn xE=some KO:=by kernel_rfl
theorem zdf {u0 u1 v0 v1:AV}{h h1:bA}{P:nA}(hp:AA h [u0,u1]=some ([v0,v1],h1)):kA X xE [u0,u1] h P=yJ (kA X) X.gl TK wR v0 v1 h1 [] (yA [.t 4] false h.length P):=by rw[SA zpX rfl hp rfl];exact zfp
theorem zrm:X.fn DI=some sU:=by kernel_rfl
theorem zer {u0 u1 v0 v1:AV}{h h1:bA}{P:nA}(hp:AA h [u0,u1]=some ([v0,v1],h1)):kA X DI [u0,u1] h P=ZM (kA X) X.gl NL jS v0 v1 h1 [] (yA [.t 4] false h.length P):=by rw[SA zrm rfl hp rfl];exact zi2
theorem zrn:X.fn vF=some tU:=by kernel_rfl
theorem zes {u0 u1 v0 v1:AV}{h h1:bA}{P:nA}(hp:AA h [u0,u1]=some ([v0,v1],h1)):kA X vF [u0,u1] h P=yQ (kA X) X.gl OL kS v0 v1 h1 [] (yA [.t 4] false h.length P):=by rw[SA zrn rfl hp rfl];exact zi5
theorem zq5:X.fn xC=some DT:=by kernel_rfl
theorem zdD {u0 u1 v0 v1:AV}{h h1:bA}{P:nA}(hp:AA h [u0,u1]=some ([v0,v1],h1)):kA X xC [u0,u1] h P=JV (kA X) X.gl v0 v1 h1 [] (yA [.t 4] false h.length P):=by rw[SA zq5 rfl hp rfl];exact zgK
theorem zqB:X.fn wI=some JT:=by kernel_rfl
theorem zdI {u0 v0:AV}{h h1:bA}{P:nA}(hp:AA h [u0]=some ([v0],h1)):kA X wI [u0] h P=fQ (kA X) X.gl UI OR v0 h1 [] (yA [.t 2] true h.length P):=by rw[SA zqB rfl hp rfl];exact zgQ
theorem zrj:X.fn sK=some qU:=by kernel_rfl
theorem zeo {u0 u1 h P}:kA X sK [u0,u1] h P=lW (kA X) X.gl u0 u1 h [] (yA [.t 4] false h.length P):=by rw[ZC zrj rfl rfl];exact ziw
theorem zqA:X.fn IC=some IT:=by kernel_rfl
theorem zdH {u0 u1 v0 v1:AV}{h h1:bA}{P:nA}(hp:AA h [u0,u1]=some ([v0,v1],h1)):kA X IC [u0,u1] h P=NV (kA X) X.gl v0 v1 h1 [] (yA [.t 4] false h.length P):=by rw[SA zqA rfl hp rfl];exact zgP
theorem zru:X.fn II=some yU:=by kernel_rfl
theorem zez {u0 u1 h P}:kA X II [u0,u1] h P=oW (kA X) X.gl u0 u1 h [] (yA [] false h.length P):=by rw[ZC zru rfl rfl];exact ziQ
theorem zq3:X.fn wH=some AT:=by kernel_rfl
theorem zdB {u0 u1 v0 v1:AV}{h h1:bA}{P:nA}(hp:AA h [u0,u1]=some ([v0,v1],h1)):kA X wH [u0,u1] h P=HV (kA X) X.gl v0 v1 h1 [] (yA [.t 4] false h.length P):=by rw[SA zq3 rfl hp rfl];exact zgD
theorem zrg:X.fn AH=some oU:=by kernel_rfl
theorem zem {u0 u1 v0 v1:AV}{h h1:bA}{P:nA}(hp:AA h [u0,u1]=some ([v0,v1],h1)):kA X AH [u0,u1] h P=vQ (kA X) X.gl LL gS v0 v1 h1 [] (yA [.t 4] false h.length P):=by rw[SA zrg rfl hp rfl];exact zir
theorem zqO:X.fn AE=some XT:=by kernel_rfl
theorem z2y {u0 h P}:kA X AE [u0] h P=SM (kA X) X.gl xL WR u0 h [] (yA [.t 2] true h.length P):=by rw[ZC zqO rfl rfl];exact zh2
theorem zq6:X.fn QB=some ET:=by kernel_rfl
theorem zdE {u0 u1 v0 v1:AV}{h h1:bA}{P:nA}(hp:AA h [u0,u1]=some ([v0,v1],h1)):kA X QB [u0,u1] h P=cQ (kA X) X.gl v0 v1 h1 [] (yA [.t 4] false h.length P):=by rw[SA zq6 rfl hp rfl];exact zgL
theorem zqD:X.fn sF=some MT:=by kernel_rfl
theorem rP {u0 u1 v0 v1:AV}{h h1:bA}{P:nA}(hp:AA h [u0,u1]=some ([v0,v1],h1)):kA X sF [u0,u1] h P=pF (kA X) X.gl v0 v1 h1 [] (yA [] false h.length P):=by rw[SA zqD rfl hp rfl];exact zhb
theorem zqm:X.fn SE=some YO:=by kernel_rfl
theorem zdu {u0 u1 v0 v1:AV}{h h1:bA}{P:nA}(hp:AA h [u0,u1]=some ([v0,v1],h1)):kA X SE [u0,u1] h P = ∃v h' x,P v h' x∧PP (kA X) X.gl bL AR v0 v1 h1 [] (yA [.t 4] false h.length fun v1 h1 x1=>v1=v∧h1=h'∧x1=x):=by rw[ze8 zqm rfl hp rfl];exact zjw fun v h' x=>congrArg (And (P v h' x)) zfN
theorem zqn:X.fn zE=some ZO:=by kernel_rfl
theorem zdv {u0 v0:AV}{h h1:bA}{P:nA}(hp:AA h [u0]=some ([v0],h1)):kA X zE [u0] h P=QP (kA X) X.gl eL BR v0 h1 [] (yA [.t 2] true h.length P):=by rw[SA zqn rfl hp rfl];exact zfW
theorem zqo:X.fn CG=some aP:=by kernel_rfl
theorem zdw {u0 v0:AV}{h h1:bA}{P:nA}(hp:AA h [u0]=some ([v0],h1)):kA X CG [u0] h P=RP (kA X) X.gl fL CR v0 h1 [] (yA [.t 2] false h.length P):=by rw[SA zqo rfl hp rfl];exact zfZ
theorem zrl:X.fn DH=some rU:=by kernel_rfl
theorem zeq {u0 u1 h P}:kA X DH [u0,u1] h P=xQ (kA X) X.gl ML iS u0 u1 h [] (yA [.t 4] false h.length P):=by rw[ZC zrl rfl rfl];exact ziy
theorem zqa:X.fn RJ=some oT:=by kernel_rfl
theorem zdi {u0 u1 v0 v1:AV}{h h1:bA}{P:nA}(hp:AA h [u0,u1]=some ([v0,v1],h1)):kA X RJ [u0,u1] h P=iV (kA X) X.gl v0 v1 h1 [] (yA [.t 3] false h.length P):=by rw[SA zqa rfl hp rfl];exact zfx
theorem zpY:X.fn BG=some LO:=by kernel_rfl
theorem zdg {u0 v0:AV}{h h1:bA}{P:nA}(hp:AA h [u0]=some ([v0],h1)):kA X BG [u0] h P=GM (kA X) X.gl UK HN v0 h1 [] (yA [.t 2] false h.length P):=by rw[SA zpY rfl hp rfl];exact zfs
theorem zqr:X.fn UJ=some qT:=by kernel_rfl
theorem zdz {u0 v0:AV}{h h1:bA}{P:nA}(hp:AA h [u0]=some ([v0],h1)):kA X UJ [u0] h P=VP (kA X) X.gl gL DR v0 h1 [] (yA [.t 2] false h.length P):=by rw[SA zqr rfl hp rfl];exact zge
theorem zqE:X.fn bK=some NT:=by kernel_rfl
theorem zdK {u0 v0:AV}{h h1:bA}{P:nA}(hp:AA h [u0]=some ([v0],h1)):kA X bK [u0] h P=TV (kA X) X.gl v0 h1 [] (yA [.t 2] false h.length P):=by rw[SA zqE rfl hp rfl];exact zhc
theorem zqY:X.fn uF=some iU:=by kernel_rfl
theorem zee {u0 u1 u2 v0 v1 v2:AV}{h h1:bA}{P:nA}(hp:AA h [u0,u1,u2]=some ([v0,v1,v2],h1)):kA X uF [u0,u1,u2] h P=qQ (kA X) X.gl DL ZR v0 v1 v2 h1 [] (yA [.t 6] false h.length P):=by rw[SA zqY rfl hp rfl];exact zhO
theorem zqN:X.fn xH=some WT:=by kernel_rfl
theorem zdT {u0 u1 u2 v0 v1 v2:AV}{h h1:bA}{P:nA}(hp:AA h [u0,u1,u2]=some ([v0,v1,v2],h1)):kA X xH [u0,u1,u2] h P=nQ (kA X) X.gl wL VR v0 v1 v2 h1 [] (yA [.t 6] false h.length P):=by rw[SA zqN rfl hp rfl];exact zhz
theorem zqK:X.fn fK=some TT:=by kernel_rfl
theorem zdQ {u0 u1 u2 v0 v1 v2:AV}{h h1:bA}{P:nA}(hp:AA h [u0,u1,u2]=some ([v0,v1,v2],h1)):kA X fK [u0,u1,u2] h P=WV (kA X) X.gl v0 v1 v2 h1 [] (yA [.t 4] false h.length P):=by rw[SA zqK rfl hp rfl];exact zhu
theorem zqL:X.fn ZF=some UT:=by kernel_rfl
theorem zdR {u0 v0:AV}{h h1:bA}{P:nA}(hp:AA h [u0]=some ([v0],h1)):kA X ZF [u0] h P=IJ (kA X) X.gl v0 h1 [] (yA [.t 2] false h.length P):=by rw[SA zqL rfl hp rfl];exact zhv
theorem zra:X.fn oK=some kU:=by kernel_rfl
theorem zeg {u0 v0:AV}{h h1:bA}{P:nA}(hp:AA h [u0]=some ([v0],h1)):kA X oK [u0] h P=WM (kA X) X.gl HL YN v0 h1 [] (yA [.t 2] false h.length P):=by rw[SA zra rfl hp rfl];exact zhW
theorem zqV:X.fn nK=some eU:=by kernel_rfl
theorem zea {u0 u1 u2 v0 v1 v2:AV}{h h1:bA}{P:nA}(hp:AA h [u0,u1,u2]=some ([v0,v1,v2],h1)):kA X nK [u0,u1,u2] h P=UM (kA X) X.gl v0 v1 v2 h1 [] (yA [.t 6] false h.length P):=by rw[SA zqV rfl hp rfl];exact zhL
theorem zri:X.fn rK=some pU:=by kernel_rfl
theorem zen {u0 u1 h P}:kA X rK [u0,u1] h P=kW (kA X) X.gl u0 u1 h [] (yA [.t 4] false h.length P):=by rw[ZC zri rfl rfl];exact ziv
theorem zqH:X.fn yI=some QT:=by kernel_rfl
theorem zdN {u0 u1 v0 v1:AV}{h h1:bA}{P:nA}(hp:AA h [u0,u1]=some ([v0,v1],h1)):kA X yI [u0,u1] h P=iQ (kA X) X.gl v0 v1 h1 [] (yA [.t 3] false h.length P):=by rw[SA zqH rfl hp rfl];exact zhm
theorem zrk:X.fn DG=some kP:=by kernel_rfl
theorem zep {u0 u1 h P}:kA X DG [u0,u1] h P=mW (kA X) X.gl u0 u1 h [] (yA [.t 4] false h.length P):=by rw[ZC zrk rfl rfl];exact zix
theorem zqX:X.fn PD=some gU:=by kernel_rfl
theorem zec {u0 u1 u2 v0 v1 v2:AV}{h h1:bA}{P:nA}(hp:AA h [u0,u1,u2]=some ([v0,v1,v2],h1)):kA X PD [u0,u1,u2] h P=dW (kA X) X.gl v0 v1 v2 h1 [] (yA [.t 6] false h.length P):=by rw[SA zqX rfl hp rfl];exact zhN
theorem zrc:X.fn qK=some mU:=by kernel_rfl
theorem zei {u0 u1 v0 v1:AV}{h h1:bA}{P:nA}(hp:AA h [u0,u1]=some ([v0,v1],h1)):kA X qK [u0,u1] h P=tQ (kA X) X.gl IL bS v0 v1 h1 [] (yA [.t 4] false h.length P):=by rw[SA zrc rfl hp rfl];exact zib
theorem zpT:X.fn mI=some GO:=by kernel_rfl
theorem zdb {u0 v0:AV}{h h1:bA}{P:nA}(hp:AA h [u0]=some ([v0],h1)):kA X mI [u0] h P=dV (kA X) X.gl v0 h1 [] (yA [.t 2] false h.length P):=by rw[SA zpT rfl hp rfl];exact zfe
theorem zq9:X.fn XF=some HT:=by kernel_rfl
theorem zdG {u0 u1 u2 v0 v1 v2:AV}{h h1:bA}{P:nA}(hp:AA h [u0,u1,u2]=some ([v0,v1,v2],h1)):kA X XF [u0,u1,u2] h P=MV (kA X) X.gl v0 v1 v2 h1 [] (yA [.t 6] false h.length P):=by rw[SA zq9 rfl hp rfl];exact zgO
theorem zrh:X.fn DD=some jP:=by kernel_rfl
theorem z2z {u0 u1 h P}:kA X DD [u0,u1] h P=wQ (kA X) X.gl u0 u1 h [] (yA [.t 4] false h.length P):=by rw[ZC zrh rfl rfl];exact ziu
theorem zqC:X.fn xI=some LT:=by kernel_rfl
theorem zdJ {u0 u1 v0 v1:AV}{h h1:bA}{P:nA}(hp:AA h [u0,u1]=some ([v0,v1],h1)):kA X xI [u0,u1] h P=gQ (kA X) X.gl v0 v1 h1 [] (yA [.t 3] false h.length P):=by rw[SA zqC rfl hp rfl];exact zha
theorem zrs:X.fn xK=some xU:=by kernel_rfl
theorem zex {u0 u1 h P}:kA X xK [u0,u1] h P=DQ (kA X) X.gl TL pS u0 u1 h [] (yA [.t 4] false h.length P):=by rw[ZC zrs rfl rfl];exact ziK
theorem zry:X.fn cG=some DU:=by kernel_rfl
theorem ze3 {u0 u1 u2 u3 u4 h P}:kA X cG [u0,u1,u2,u3,u4] h P=HQ (kA X) X.gl XL u0 u1 u2 u3 u4 h [] (yA [] false h.length P):=by rw[ZC zry rfl rfl];exact zja
theorem zqy:X.fn vH=some vT:=by kernel_rfl
theorem zd6 {u0 v0:AV}{h h1:bA}{P:nA}(hp:AA h [u0]=some ([v0],h1)):kA X vH [u0] h P=xV (kA X) X.gl v0 h1 [] (yA [.t 2] false h.length P):=by rw[SA zqy rfl hp rfl];exact zgt
theorem zqs:X.fn VJ=some rT:=by kernel_rfl
theorem zd0 {u0 u1 v0 v1:AV}{h h1:bA}{P:nA}(hp:AA h [u0,u1]=some ([v0,v1],h1)):kA X VJ [u0,u1] h P=MM (kA X) X.gl v0 v1 h1 [] (yA [.t 4] false h.length P):=by rw[SA zqs rfl hp rfl];exact zgl
theorem zrv:X.fn JI=some zU:=by kernel_rfl
theorem ze0 {u0 h P}:kA X JI [u0] h P=pW (kA X) X.gl u0 h [] (yA [] false h.length P):=by rw[ZC zrv rfl rfl];exact ziR
theorem zrf:X.fn bG=some iP:=by kernel_rfl
theorem zel {u0 h P}:kA X bG [u0] h P=YM (kA X) X.gl KL fS u0 h [] (yA [.t 2] false h.length P):=by rw[ZC zrf rfl rfl];exact zij
theorem zq1:X.fn WF=some yT:=by kernel_rfl
theorem zd9 {u0 u1 v0 v1:AV}{h h1:bA}{P:nA}(hp:AA h [u0,u1]=some ([v0,v1],h1)):kA X WF [u0,u1] h P=YP (kA X) X.gl HR v0 v1 h1 [] (yA [.t 4] false h.length P):=by rw[SA zq1 rfl hp rfl];exact zg1
theorem zq7:X.fn aK=some FT:=by kernel_rfl
theorem z2x {u0 u1 u2 v0 v1 v2:AV}{h h1:bA}{P:nA}(hp:AA h [u0,u1,u2]=some ([v0,v1,v2],h1)):kA X aK [u0,u1,u2] h P=dQ (kA X) X.gl v0 v1 v2 h1 [] (yA [.t 6] false h.length P):=by rw[SA zq7 rfl hp rfl];exact zgM
theorem zq8:X.fn lE=some GT:=by kernel_rfl
theorem zdF {u0 u1 v0 v1:AV}{h h1:bA}{P:nA}(hp:AA h [u0,u1]=some ([v0,v1],h1)):kA X lE [u0,u1] h P=KV (kA X) X.gl v0 v1 h1 [] (yA [.t 4] false h.length P):=by rw[SA zq8 rfl hp rfl];exact zgN
theorem zqf:X.fn sH=some PO:=by kernel_rfl
theorem zdn {u0 u1 v0 v1:AV}{h h1:bA}{P:nA}(hp:AA h [u0,u1]=some ([v0,v1],h1)):kA X sH [u0,u1] h P=KP (kA X) X.gl YK zR v0 v1 h1 [] (yA [.t 4] false h.length P):=by rw[SA zqf rfl hp rfl];exact zf6
theorem zrr:X.fn vK=some wU:=by kernel_rfl
theorem zew {u0 u1 h P}:kA X vK [u0,u1] h P=CQ (kA X) X.gl SL oS u0 u1 h [] (yA [.t 4] false h.length P):=by rw[ZC zrr rfl rfl];exact ziH
theorem zpU:X.fn qF=some HO:=by kernel_rfl
theorem zdc {u0 v0:AV}{h h1:bA}{P:nA}(hp:AA h [u0]=some ([v0],h1)):kA X qF [u0] h P=jH (kA X) X.gl QK uR v0 h1 [] (yA [.t 2] false h.length P):=by rw[SA zpU rfl hp rfl];exact zff
theorem zqg:X.fn pI=some QO:=by kernel_rfl
theorem zdo {u0 v0:AV}{h h1:bA}{P:nA}(hp:AA h [u0]=some ([v0],h1)):kA X pI [u0] h P=JM (kA X) X.gl ZK JN v0 h1 [] (yA [.t 2] false h.length P):=by rw[SA zqg rfl hp rfl];exact zfB
theorem zql:X.fn rI=some XO:=by kernel_rfl
theorem zdt {u0 v0:AV}{h h1:bA}{P:nA}(hp:AA h [u0]=some ([v0],h1)):kA X rI [u0] h P=OP (kA X) X.gl aL MN v0 h1 [] (yA [.t 2] false h.length P):=by rw[SA zql rfl hp rfl];exact zfJ
theorem zpV:X.fn kE=some JO:=by kernel_rfl
theorem zdd {u0 u1 u2 v0 v1 v2:AV}{h h1:bA}{P:nA}(hp:AA h [u0,u1,u2]=some ([v0,v1,v2],h1)):kA X kE [u0,u1,u2] h P=eV (kA X) X.gl v0 v1 v2 h1 [] (yA [.t 6] false h.length P):=by rw[SA zpV rfl hp rfl];exact zfi
theorem zqZ:X.fn aG=some jU:=by kernel_rfl
theorem zef {u0 u1 v0 v1:AV}{h h1:bA}{P:nA}(hp:AA h [u0,u1]=some ([v0,v1],h1)):kA X aG [u0,u1] h P=rQ (kA X) X.gl FL aS v0 v1 h1 [] (yA [.t 4] false h.length P):=by rw[SA zqZ rfl hp rfl];exact zhT
theorem zqS:X.fn kK=some bU:=by kernel_rfl
theorem zdX {u0 u1 u2 v0 v1 v2:AV}{h h1:bA}{P:nA}(hp:AA h [u0,u1,u2]=some ([v0,v1,v2],h1)):kA X kK [u0,u1,u2] h P=pQ (kA X) X.gl CL YR v0 v1 v2 h1 [] (yA [.t 6] false h.length P):=by rw[SA zqS rfl hp rfl];exact zhE
theorem zqU:X.fn mK=some dU:=by kernel_rfl
theorem zdZ {u0 u1 u2 v0 v1 v2:AV}{h h1:bA}{P:nA}(hp:AA h [u0,u1,u2]=some ([v0,v1,v2],h1)):kA X mK [u0,u1,u2] h P=TM (kA X) X.gl v0 v1 v2 h1 [] (yA [.t 6] false h.length P):=by rw[SA zqU rfl hp rfl];exact zhK
theorem zrd:X.fn yH=some nU:=by kernel_rfl
theorem zej {u0 u1 u2 v0 v1 v2:AV}{h h1:bA}{P:nA}(hp:AA h [u0,u1,u2]=some ([v0,v1,v2],h1)):kA X yH [u0,u1,u2] h P=gW (kA X) X.gl v0 v1 v2 h1 [] (yA [.t 6] false h.length P):=by rw[SA zrd rfl hp rfl];exact zif
theorem zqT:X.fn lK=some cU:=by kernel_rfl
theorem zdY {u0 u1 v0 v1:AV}{h h1:bA}{P:nA}(hp:AA h [u0,u1]=some ([v0,v1],h1)):kA X lK [u0,u1] h P=TC (kA X) X.gl v0 v1 h1 [] (yA [.t 4] false h.length P):=by rw[SA zqT rfl hp rfl];exact zhJ
theorem zrb:X.fn CI=some lU:=by kernel_rfl
theorem zeh {u0 u1 v0 v1:AV}{h h1:bA}{P:nA}(hp:AA h [u0,u1]=some ([v0,v1],h1)):kA X CI [u0,u1] h P=sQ (kA X) X.gl v0 v1 h1 [] (yA [.t 3] false h.length P):=by rw[SA zrb rfl hp rfl];exact zia
theorem zqP:X.fn tF=some YT:=by kernel_rfl
theorem zdU {u0 u1 v0 v1:AV}{h h1:bA}{P:nA}(hp:AA h [u0,u1]=some ([v0,v1],h1)):kA X tF [u0,u1] h P=XV (kA X) X.gl v0 v1 h1 [] (yA [.t 4] false h.length P):=by rw[SA zqP rfl hp rfl];exact zh5
theorem zqW:X.fn BI=some fU:=by kernel_rfl
theorem zeb {u0 u1 v0 v1:AV}{h h1:bA}{P:nA}(hp:AA h [u0,u1]=some ([v0,v1],h1)):kA X BI [u0,u1] h P=cW (kA X) X.gl v0 v1 h1 [] (yA [.t 3] false h.length P):=by rw[SA zqW rfl hp rfl];exact zhM
theorem zrq:X.fn uK=some vU:=by kernel_rfl
theorem zev {u0 u1 h P}:kA X uK [u0,u1] h P=BQ (kA X) X.gl RL nS u0 u1 h [] (yA [.t 4] false h.length P):=by rw[ZC zrq rfl rfl];exact ziE
theorem zrt:X.fn HI=some mP:=by kernel_rfl
theorem zey {u0 u1 h P}:kA X HI [u0,u1] h P=EQ (kA X) X.gl UL qS u0 u1 h [] (yA [.t 4] false h.length P):=by rw[ZC zrt rfl rfl];exact ziN
theorem zro:X.fn GI=some lP:=by kernel_rfl
theorem zet {u0 u1 h P}:kA X GI [u0,u1] h P=zQ (kA X) X.gl PL lS u0 u1 h [] (yA [.t 4] false h.length P):=by rw[ZC zro rfl rfl];exact zi8
theorem zrw:X.fn yK=some BU:=by kernel_rfl
theorem ze1 {u0 u1 u2 u3 h P}:kA X yK [u0,u1,u2,u3] h P=FQ (kA X) X.gl VL u0 u1 u2 u3 h [] (yA [] false h.length P):=by rw[ZC zrw rfl rfl];exact ziS
theorem zqz:X.fn XJ=some wT:=by kernel_rfl
theorem zd7 {u0 v0:AV}{h h1:bA}{P:nA}(hp:AA h [u0]=some ([v0],h1)):kA X XJ [u0] h P=XP (kA X) X.gl FR v0 h1 [] (yA [.t 2] false h.length P):=by rw[SA zqz rfl hp rfl];exact zgu
theorem zqv:X.fn TE=some tT:=by kernel_rfl
theorem zd3 {u0 v0:AV}{h h1:bA}{P:nA}(hp:AA h [u0]=some ([v0],h1)):kA X TE [u0] h P=uV (kA X) X.gl v0 h1 [] (yA [.t 2] false h.length P):=by rw[SA zqv rfl hp rfl];exact zgq
theorem zrz:X.fn dG=some EU:=by kernel_rfl
theorem ze4 {u0 u1 u2 u3 h P}:kA X dG [u0,u1,u2,u3] h P=IQ (kA X) X.gl YL u0 u1 u2 u3 h [] (yA [] false h.length P):=by rw[ZC zrz rfl rfl];exact zjf
theorem zqe:X.fn oI=some OO:=by kernel_rfl
theorem zdm {u0 u1 v0 v1:AV}{h h1:bA}{P:nA}(hp:AA h [u0,u1]=some ([v0,v1],h1)):kA X oI [u0,u1] h P=oD (kA X) X.gl v0 v1 h1 [] (yA [.t 4] false h.length P):=by rw[SA zqe rfl hp rfl];exact zf5
theorem zqk:X.fn yE=some WO:=by kernel_rfl
theorem zds {u0 v0:AV}{h h1:bA}{P:nA}(hp:AA h [u0]=some ([v0],h1)):kA X yE [u0] h P=LM (kA X) X.gl v0 h1 [] (yA [.t 2] false h.length P):=by rw[SA zqk rfl hp rfl];exact zfI
theorem zqh:X.fn tH=some RO:=by kernel_rfl
theorem zdp {u0 u1 v0 v1:AV}{h h1:bA}{P:nA}(hp:AA h [u0,u1]=some ([v0,v1],h1)):kA X tH [u0,u1] h P=MP (kA X) X.gl v0 v1 h1 [] (yA [.t 3] false h.length P):=by rw[SA zqh rfl hp rfl];exact zfF
theorem zqp:X.fn sI=some bP:=by kernel_rfl
theorem zdx {u0 u1 u2 v0 v1 v2:AV}{h h1:bA}{P:nA}(hp:AA h [u0,u1,u2]=some ([v0,v1,v2],h1)):kA X sI [u0,u1,u2] h P=TP (kA X) X.gl v0 v1 v2 h1 [] (yA [.t 6] false h.length P):=by rw[SA zqp rfl hp rfl];exact zgc
theorem zqd:X.fn nI=some NO:=by kernel_rfl
theorem zdl {u0 u1 v0 v1:AV}{h h1:bA}{P:nA}(hp:AA h [u0,u1]=some ([v0,v1],h1)):kA X nI [u0,u1] h P=jV (kA X) X.gl v0 v1 h1 [] (yA [.t 4] false h.length P):=by rw[SA zqd rfl hp rfl];exact zf4
theorem zr1:X.fn AK=some FU:=by kernel_rfl
theorem ze6 {u0 u1 v0 v1:AV}{h h1:bA}{P:nA}(hp:AA h [u0,u1]=some ([v0,v1],h1)):kA X AK [u0,u1] h P=zW (kA X) X.gl v0 v1 h1 [] (yA [.t 4] false h.length P):=by rw[SA zr1 rfl hp rfl];exact zjl
theorem zrp:X.fn tK=some uU:=by kernel_rfl
theorem zeu {u0 u1 h P}:kA X tK [u0,u1] h P=AQ (kA X) X.gl QL mS u0 u1 h [] (yA [.t 4] false h.length P):=by rw[ZC zrp rfl rfl];exact ziB
theorem zqQ:X.fn zI=some ZT:=by kernel_rfl
theorem zdV {u0 u1 v0 v1:AV}{h h1:bA}{P:nA}(hp:AA h [u0,u1]=some ([v0,v1],h1)):kA X zI [u0,u1] h P=YV (kA X) X.gl v0 v1 h1 [] (yA [.t 3] false h.length P):=by rw[SA zqQ rfl hp rfl];exact zh6
theorem zrx:X.fn zK=some CU:=by kernel_rfl
theorem ze2 {u0 u1 u2 h P}:kA X zK [u0,u1,u2] h P=GQ (kA X) X.gl WL u0 u1 u2 h [] (yA [] false h.length P):=by rw[ZC zrx rfl rfl];exact ziW
theorem zqt:X.fn rF=some sT:=by kernel_rfl
theorem zd1 {u0 u1 v0 v1:AV}{h h1:bA}{P:nA}(hp:AA h [u0,u1]=some ([v0,v1],h1)):kA X rF [u0,u1] h P=tV (kA X) X.gl v0 v1 h1 [] (yA [.t 4] false h.length P):=by rw[SA zqt rfl hp rfl];exact zgm
theorem zqi:X.fn qI=some TO:=by kernel_rfl
theorem zdq {u0 u1 v0 v1:AV}{h h1:bA}{P:nA}(hp:AA h [u0,u1]=some ([v0,v1],h1)):kA X qI [u0,u1] h P=NP (kA X) X.gl v0 v1 h1 [] (yA [.t 4] false h.length P):=by rw[SA zqi rfl hp rfl];exact zfG
theorem zqq:X.fn uH=some cP:=by kernel_rfl
theorem zdy {u0 u1 v0 v1:AV}{h h1:bA}{P:nA}(hp:AA h [u0,u1]=some ([v0,v1],h1)):kA X uH [u0,u1] h P=UP (kA X) X.gl v0 v1 h1 [] (yA [.t 3] false h.length P):=by rw[SA zqq rfl hp rfl];exact zgd
theorem zqu:X.fn tI=some dP:=by kernel_rfl
theorem zd2 {u0 v0:AV}{h h1:bA}{P:nA}(hp:AA h [u0]=some ([v0],h1)):kA X tI [u0] h P=WP (kA X) X.gl iL ER v0 h1 [] (yA [.t 2] false h.length P):=by rw[SA zqu rfl hp rfl];exact zgn
theorem zr0:X.fn BE=some nP:=by kernel_rfl
theorem ze5 {u0 u1 v0 v1:AV}{h h1:bA}{P:nA}(hp:AA h [u0,u1]=some ([v0,v1],h1)):kA X BE [u0,u1] h P=yW (kA X) X.gl v0 v1 h1 [] (yA [.t 4] false h.length P):=by rw[SA zr0 rfl hp rfl];exact zjk
theorem zqx:X.fn WJ=some uT:=by kernel_rfl
theorem zd5 {u0 u1 v0 v1:AV}{h h1:bA}{P:nA}(hp:AA h [u0,u1]=some ([v0,v1],h1)):kA X WJ [u0,u1] h P=wV (kA X) X.gl v0 v1 h1 [] (yA [.t 4] false h.length P):=by rw[SA zqx rfl hp rfl];exact zgs
theorem zre:X.fn zH=some fP:=by kernel_rfl
theorem zek {u0 u1 u2 v0 v1 v2:AV}{h h1:bA}{P:nA}(hp:AA h [u0,u1,u2]=some ([v0,v1,v2],h1)):kA X zH [u0,u1,u2] h P=uQ (kA X) X.gl JL dS v0 v1 v2 h1 [] (yA [.t 6,.t 7] false h.length P):=by rw[SA zre rfl hp rfl];exact zig
theorem zqj:X.fn VF=some UO:=by kernel_rfl
theorem zdr {u0 u1 v0 v1:AV}{h h1:bA}{P:nA}(hp:AA h [u0,u1]=some ([v0,v1],h1)):kA X VF [u0,u1] h P=lV (kA X) X.gl v0 v1 h1 [] (yA [.t 4] false h.length P):=by rw[SA zqj rfl hp rfl];exact zfH
theorem zqw:X.fn uI=some eP:=by kernel_rfl
theorem zd4 {u0 u1 v0 v1:AV}{h h1:bA}{P:nA}(hp:AA h [u0,u1]=some ([v0,v1],h1)):kA X uI [u0,u1] h P=vV (kA X) X.gl v0 v1 h1 [] (yA [.t 4] false h.length P):=by rw[SA zqw rfl hp rfl];exact zgr
attribute [go_sem] zgz zg0 z3O BV zg4 zg6 zg7 z5v zg8 zg9 zgA zgB zgC zg5 MQ NQ OQ PQ QQ zkT zkU zkV zkW zkS z3Q EV z3R aQ z3S FV z3T GV z3U CV OM kI DJ EJ FJ zgF
attribute [go_sem] zgG zgH zgI zgJ DW zkX zkY z3V z3W z3X IV z3Y kH zfz zf0 zkB z3v z3w zfk zfl zfm zfn z5t zfo zk6 zk7 z3m fV z3n z3o IP z3p zf2 zf3 zkC z3x z3y zhe zhf zlc
attribute [go_sem] z4f z4g zhx zhy zlj z4q z4r zho zhp zhq zhr z5w zhs zlh zli z4m UV z4n z4o kQ z4p zhh zhi zhj zhk zhl KJ LJ MJ zld zle zlf zlg z4h z4i z4j z4k z4l lH mH
attribute [go_sem] nH zh8 zh9 zhA zhB zhC zhD zlm zln z4w ZV z4x z4y aW z4z zfq zfr zk8 z3q z3r zi3 zi4 zl1 z4O z4P zi6 zi7 zl2 z4Q z4R zgR zgS zgT zgU zgV zgW zgX zgY zgZ EW
attribute [go_sem] FW GW zkZ zla zlb z3Z z4a OV z4b RV z4c z4d SV z4e PM GJ QM zis zit zlz z4K z4L zh3 zh4 zll z4u z4v zfO zfP zfQ zfR zfS LQ zfT zfU zfV zkJ zkK zkL zkM
attribute [go_sem] z39 z3A z3B z3C nV BJ z3D oV pV zfX zfY zkN z3E z3F zga zgb zkO z3G z3H ziz zi0 zi1 zl0 z4M nW z4N zft zfu zfv BW zk9 zkA z3s z3t z3u zJ zgf zgg zgh zgi
attribute [go_sem] zgj zgk zkP zkQ z3I qV z3J rV z3K sV zhP zhQ zhR zhS HW zlq zlr z43 eW z44 z45 oH zh0 zh1 zlk z4s z4t zhX zhY zhZ IW zlt zlu z49 z4A z4B XM zic zid zie
attribute [go_sem] zlv z4C fW z4D ziL ziM zl7 z5a z5b zjb zjc zjd zje zlD z5i sW tW uW zik zil zim zin zio ziq zlx zly z4G iW z4H z4I jW z4J zg2 z3P zf7 zf8 zf9 z5u zfA zkD
attribute [go_sem] zkE z3z kV z30 LP z31 ziI ziJ zl6 z4Y z4Z zfg zfh zk5 z3k z3l zfC zfD zfE CW zkF zkG z32 z33 z34 KM zfK zfL zfM KQ zkH zkI z35 z36 z38 AJ zhU zhV zls z47
attribute [go_sem] z48 zhF zhG zhH RQ zhI zlo zlp z40 bW z41 JJ z42 ziF ziG zl5 z4W z4X ziO ziP zl8 z5c z5d zi9 ziA zl3 z4S z4T ziT ziU ziV zl9 zlA z5e z5f qW zgv zgw zgx z3N
attribute [go_sem] yV zV zjg zjh zji zjj zlE z5j vW wW xW ziC ziD zl4 z4U z4V ziX ziY ziZ zlB zlC z5g z5h rW zgo zgp zkR z3L z3M zih zii zlw z4E z4F
end Go.Am
end
section
/- The stream of numbers out of which the laws draw. -/
open Go
namespace Go.Am
abbrev eI (n:Int):PV:=.int .i64 n
abbrev AL (l:List Int):AV:=.p (.sl none (l.map eI))
abbrev EA (L:List Int)(a:Int):Obj:=.box [AL L,AI a]
def cH (x n:Int):Int:=if n<1 then 0 else if x.tmod n<0 then IntKind.i64.wrap (x.tmod n+n) else x.tmod n
theorem z8o (x n:Int)(h:bA)(K:nA):kA X WF [AI x,AI n] h K=K (AI (cH x n)) h []:=by
 refine IA ?_;rw[zd9 rfl];simp only[YP,go_sem];unfold cH;by_cases h1:n<1
 ·simp only[h1,if_true]
 ·simp only[h1,if_false,show ¬n=0 by omega]
  split <;> rfl
theorem zcC (x n:Int)(h1:1≤n)(h2:n≤4611686018427387904):0≤cH x n∧cH x n<n:=by
 unfold cH;rw[if_neg (by omega)]
 have:=Int.tmod_lt_of_pos x (show 0<n by omega)
 have h3 : -n<x.tmod n:=by
  have:=Int.lt_tmod_of_pos x (show 0<n by omega)
  exact this
 split
 ·rw[CA _ (by omega) (by omega)];omega
 ·omega
def FA (L:List Int)(a n:Int):Int:=
 if L.length=0 then cH (IntKind.i64.wrap ((a+1)*7919)) n
 else cH (IntKind.i64.wrap (cH (L.getD (a.tmod L.length).toNat 0) 1073741824+IntKind.i64.wrap (IntKind.i64.wrap (a.tdiv L.length)*IntKind.i64.wrap (7919+a.tmod L.length)))) n
theorem FE (L:List Int)(a n:Int)(h1:1≤n)(h2:n≤4611686018427387904):0≤FA L a n∧FA L a n<n:=by
 unfold FA;split <;> exact zcC _ _ h1 h2
theorem VG {h:bA}{id:Nat}{o':Obj}(hid:id<h.length):(h.set id o')[id]?=some o':=by simp [hid]
theorem JB {h:bA}{id:Nat}{o:Obj}(hh:h[id]?=some o):id<h.length:=(List.getElem?_eq_some_iff.1 hh).1
def uA (n:Nat)(a:Int):Prop:=0≤a∧a+n<4611686018427387904
theorem z7K {a:Int}(H:uA 14 a):uA 0 (a)∧uA 0 (a+1)∧uA 0 (a+1+1)∧uA 0 (a+1+1+1)∧uA 0 (a+1+1+1+1)∧uA 0 (a+1+1+1+1+1)∧uA 0 (a+1+1+1+1+1+1)∧uA 0 (a+1+1+1+1+1+1+1)∧uA 0 (a+1+1+1+1+1+1+1+1)∧uA 0 (a+1+1+1+1+1+1+1+1+1)∧uA 0 (a+1+1+1+1+1+1+1+1+1+1)∧uA 0 (a+1+1+1+1+1+1+1+1+1+1+1)∧uA 0 (a+1+1+1+1+1+1+1+1+1+1+1+1)∧uA 0 (a+1+1+1+1+1+1+1+1+1+1+1+1+1)∧uA 0 (a+1+1+1+1+1+1+1+1+1+1+1+1+1+1):=by
 unfold uA at *;omega
def Gen (f:Nat)(args:List AV)(L:List Int)(a a2:Int)(v:AV):Prop:=∀(h:bA) (id:Nat) (K:nA),h[id]?=some (EA L a)→kA X f (.ref id 0::args) h K=K v (h.set id (EA L a2)) []
section
variable {f:Nat} {args:List AV} {L:List Int} {a a2:Int} {v:AV} {h l:bA} {id:Nat} {K:nA}
theorem Gen.set (g:Gen f args L a a2 v)(hid:id<h.length):kA X f (.ref id 0::args) (h.set id (EA L a)) K=K v (h.set id (EA L a2)) []:=by
 rw[g _ _ _ (VG hid),List.set_set]
theorem Gen.app (g:Gen f args L a a2 v)(hid:id<h.length):kA X f (.ref id 0::args) (h.set id (EA L a)++l) K=K v (h.set id (EA L a2)++l) []:=by
 rw[g _ _ _ (by rw[z64 (by simpa using hid)];exact VG hid),OS (by simpa using hid),List.set_set]
theorem Gen.hd (g:Gen f args L a a2 v):kA X f (.ref 0 0::args) (EA L a::l) K=K v (EA L a2::l) []:=by
 rw[g _ _ _ rfl];rfl
theorem Gen.of (H:∀ (h:bA) (id:Nat),id<h.length→kA X f (.ref id 0::args) (h.set id (EA L a)) fun v1 h1 x1=>v1=v∧h1=h.set id (EA L a2)∧x1=[]):Gen f args L a a2 v:=by
 intro h id K hh;have hid:=JB hh
 have:h.set id (EA L a)=h:=by
  apply List.ext_getElem?
  intro i;rw[List.getElem?_set];split
  ·rename_i e;subst e;rw[hh]
  ·rfl
 have k:=H h id hid
 rw[this]at k;exact IA k
end
def LF (f:Nat)(args:List AV)(L:List Int)(a:Int)(Q:AV→Int→Prop):Prop:=∀(h:bA) (id:Nat),h[id]?=some (EA L a)→∃v a2,Q v a2∧∀K:nA,kA X f (.ref id 0::args) h K=K v (h.set id (EA L a2)) []
section
variable {f:Nat} {args:List AV} {L:List Int} {a:Int} {Q:AV→Int→Prop}
theorem LF.set (g:LF f args L a Q){h:bA}{id:Nat}(hid:id<h.length):∃v a2,Q v a2∧∀K:nA,kA X f (.ref id 0::args) (h.set id (EA L a)) K=K v (h.set id (EA L a2)) []:=by
 obtain⟨v,a2,q,r⟩:=g _ _ (VG hid);exact⟨v,a2,q,fun K=>by rw[r,List.set_set]⟩
theorem LF.app (g:LF f args L a Q){h l:bA}{id:Nat}(hid:id<h.length):∃v a2,Q v a2∧∀K:nA,kA X f (.ref id 0::args) (h.set id (EA L a)++l) K=K v (h.set id (EA L a2)++l) []:=by
 obtain⟨v,a2,q,r⟩:=g (h.set id (EA L a)++l) id (by rw[z64 (by simpa using hid)];exact VG hid)
 exact⟨v,a2,q,fun K=>by rw[r,OS (by simpa using hid),List.set_set]⟩
theorem LF.hd (g:LF f args L a Q){l:bA}:∃v a2,Q v a2∧∀K:nA,kA X f (.ref 0 0::args) (EA L a::l) K=K v (EA L a2::l) []:=g (EA L a::l) 0 rfl
theorem LF.of (H:∀ (h:bA) (id:Nat),id<h.length→kA X f (.ref id 0::args) (h.set id (EA L a)) fun v1 h1 x1=>∃ a2,Q v1 a2∧h1=h.set id (EA L a2)∧x1=[]):LF f args L a Q:=by
 intro h id hh;have hid:=JB hh
 have:h.set id (EA L a)=h:=by
  apply List.ext_getElem?
  intro i;rw[List.getElem?_set];split
  ·rename_i e;subst e;rw[hh]
  ·rfl
 have k:=H h id hid
 rw[this]at k;obtain⟨v,h',x,⟨a2,q,e1,e2⟩,r⟩:=kA.one uM k;subst e1;subst e2
 exact⟨v,a2,q,r⟩
end
def BF (l:List Int)(L:List Int)(a:Int):Int:=l.getD (FA L a l.length).toNat 0
theorem zmJ {l L:List Int}{a:Int}(hl:0<l.length)(hl2:l.length<4611686018427387904):BF l L a∈l:=by
 obtain⟨b1,b2⟩:=FE L a l.length (by omega) (by omega)
 unfold BF;have:(FA L a l.length).toNat<l.length:=by omega
 simp only[List.getD,List.getElem?_eq_getElem this,Option.getD_some];exact List.getElem_mem _
def isI:PV→Bool
 | .int .i64 _=>true
 | _=>false
def unI:PV→Int
 | .int _ n=>n
 | _=>0
theorem zpF {xs:List PV}(h:xs.all isI=true):xs=(xs.map unI).map eI:=by
 induction xs with
 | nil=>rfl
 | cons x r ih=>
  simp only[List.all_cons,Bool.and_eq_true]at h;simp only[List.map_cons];rw[←ih h.2];cases x with
  | int k n=>cases k <;> first|rfl|cases h.1
  | _=>cases h.1
set_option maxHeartbeats 400000 in
theorem z60 (L:List Int)(a n:Int)(hp:uA 0 a):Gen QB [AI n] L a (a+1) (AI (FA L a n)):=by
 refine Gen.of fun h id hid=>?_
 rw[zdE rfl];obtain⟨h0,h1⟩:=hp;have w1:IntKind.i64.wrap (a+1)=a+1:=CA _ (by omega) (by omega)
 have w2:IntKind.i64.wrap (a+1-1)=a:=by rw[CA _ (by omega) (by omega)];omega
 have hs:∀o',(h.set id o')[id]?=some o':=fun o'=>VG hid
 rcases Nat.eq_zero_or_pos L.length with hl|hl
 ·simp only[cQ,go_sem,hs,z8o,hl,w1]
  simp only[FA,hl,if_true]
 ·have e1:((L.length:Int)=0)=False:=by simp only[eq_iff_iff,iff_false];omega
  have e2:0≤a.tmod L.length:=Int.tmod_nonneg _ h0
  have e3:a.tmod L.length<L.length:=Int.tmod_lt_of_pos _ (by omega)
  have e4:=yF (k:=.i64) e2
  have e5:(L.map eI)[(a.tmod L.length).toNat]?=some (eI (L.getD (a.tmod L.length).toNat 0)):=by
   rw[XA eI (show(a.tmod L.length).toNat<L.length by omega)]
   simp [List.getD,show(a.tmod L.length).toNat<L.length by omega]
  simp only[cQ,go_sem,hs,z8o,e1,w1,w2,e4,e5];simp only[FA,show ¬L.length=0 by omega,if_false]
section
variable {L:List Int} {a:Int} {h l:bA} {id:Nat} {K:nA}
theorem iM (hid:id<h.length)(hp:uA 0 a)(n:Int):kA X QB [.ref id 0,AI n] (h.set id (EA L a)) K=K (AI (FA L a n)) (h.set id (EA L (a+1))) []:=(z60 L a n hp).set hid
theorem z8x (hid:id<h.length)(hp:uA 0 a)(n:Int):kA X QB [.ref id 0,AI n] (h.set id (EA L a)++l) K=K (AI (FA L a n)) (h.set id (EA L (a+1))++l) []:=(z60 L a n hp).app hid
theorem z6z (hp:uA 0 a)(n:Int):Gen xC [AI n] L a (a+1) (AB (decide (FA L a n=0))):=by
 refine Gen.of fun h id hid=>?_
 rw[zdD rfl];simp only[JV,go_sem,iM hid hp]
theorem z8u (hid:id<h.length)(hp:uA 0 a)(n:Int):kA X xC [.ref id 0,AI n] (h.set id (EA L a)) K=K (AB (decide (FA L a n=0))) (h.set id (EA L (a+1))) []:=(z6z hp n).set hid
theorem z8t (hid:id<h.length)(hp:uA 0 a)(n:Int):kA X xC [.ref id 0,AI n] (h.set id (EA L a)++l) K=K (AB (decide (FA L a n=0))) (h.set id (EA L (a+1))++l) []:=(z6z hp n).app hid
theorem z61 (hp:uA 0 a)(xs:List PV)(hx:xs.all isI=true)(hl:0<xs.length)(hl2:xs.length<4611686018427387904) :
 Gen lE [.p (.sl none xs)] L a (a+1) (AI (BF (xs.map unI) L a)):=by
 refine Gen.of fun h id hid=>?_
 rw[zdF rfl];obtain⟨b1,b2⟩:=FE L a xs.length (by omega) (by omega)
 have e4:=yF (k:=.i64) b1
 have e5:xs[(FA L a xs.length).toNat]?=some (eI (BF (xs.map unI) L a)):=by
  have hm:=zpF hx
  generalize hq:xs.map unI=q at *;subst hm;simp only[List.length_map]at *;rw[XA eI (show(FA L a q.length).toNat<q.length by omega)]
  simp [BF,List.getD,show(FA L a q.length).toNat<q.length by omega]
 simp only[KV,go_sem,iM hid hp,e4,e5]
theorem z8y (hid:id<h.length)(hp:uA 0 a){xs:List PV}(hx:xs.all isI=true)(hl:0<xs.length)(hl2:xs.length<4611686018427387904) :
 kA X lE [.ref id 0,.p (.sl none xs)] (h.set id (EA L a)) K=K (AI (BF (xs.map unI) L a)) (h.set id (EA L (a+1))) []:=(z61 hp xs hx hl hl2).set hid
theorem nO (hid:id<h.length)(hp:uA 0 a){xs:List PV}(hx:xs.all isI=true)(hl:0<xs.length)(hl2:xs.length<4611686018427387904) :
 kA X lE [.ref id 0,.p (.sl none xs)] (h.set id (EA L a)++l) K=K (AI (BF (xs.map unI) L a)) (h.set id (EA L (a+1))++l) []:=(z61 hp xs hx hl hl2).app hid
def SG (u v:Int)(L:List Int)(a:Int):Int:=u+FA L a (v-u+1)
theorem VY {u v:Int}(L:List Int)(a:Int)(h1:u≤v)(h2:v≤u+4611686018427387900):u≤SG u v L a∧SG u v L a≤v:=by
 have:=FE L a (v-u+1) (by omega) (by omega)
 unfold SG;omega
theorem z62 (hp:uA 0 a)(u v:Int)(huv:u≤v)(hu : -1152921504606846976≤u)(hv:v≤1152921504606846976) :
 Gen XF [AI u,AI v] L a (a+1) (AI (SG u v L a)):=by
 refine Gen.of fun h id hid=>?_
 rw[zdG rfl];obtain⟨b1,b2⟩:=VY L a huv (by omega)
 have w1:IntKind.i64.wrap (v-u)=v-u:=CA _ (by omega) (by omega)
 have w2:IntKind.i64.wrap (v-u+1)=v-u+1:=CA _ (by omega) (by omega)
 have w3:IntKind.i64.wrap (u+FA L a (v-u+1))=SG u v L a:=CA (SG u v L a) (by omega) (by omega)
 simp only[MV,go_sem,show ¬v<u by omega,w1,w2,iM hid hp,w3]
theorem z81 (hid:id<h.length)(hp:uA 0 a){u v:Int}(huv:u≤v)(hu : -1152921504606846976≤u)(hv:v≤1152921504606846976) :
 kA X XF [.ref id 0,AI u,AI v] (h.set id (EA L a)) K=K (AI (SG u v L a)) (h.set id (EA L (a+1))) []:=(z62 hp u v huv hu hv).set hid
theorem z80 (hid:id<h.length)(hp:uA 0 a){u v:Int}(huv:u≤v)(hu : -1152921504606846976≤u)(hv:v≤1152921504606846976) :
 kA X XF [.ref id 0,AI u,AI v] (h.set id (EA L a)++l) K=K (AI (SG u v L a)) (h.set id (EA L (a+1))++l) []:=(z62 hp u v huv hu hv).app hid
end
attribute [go_sem ↓] iM z8x z8u z8t z8y nO z81 z80
attribute [go_sem] iM z8x z8u z8t z8y nO z81 z80 isI unI
end Go.Am
end
section
/- Plain laws of fractions in lowest terms. -/
namespace Go.Am
end Go.Am
end
section
/- Small functions of numbers and of lists of numbers. -/
open Go
namespace Go.Am
variable {h:bA} {K:nA}
theorem s_Out (n a b:Int):kA X kE [AI n,AI a,AI b] h K=K (AB (decide (n<a)||decide (b<n))) h []:=by
 refine IA ?_;rw[zdd rfl];by_cases h1:n<a <;> simp only[eV,go_sem,h1]
theorem oO (n a b:Int):kA X PD [AI n,AI a,AI b] h K=K (AB (decide (a≤n)&&decide (n≤b))) h []:=by
 refine IA ?_;rw[zec rfl];by_cases h1:a≤n <;> simp only[dW,go_sem,h1]
theorem zmC (n a b:Int):(decide (n<a)||decide (b<n)) = !(decide (a≤n)&&decide (n≤b)):=by
 rw[Bool.eq_iff_iff];simp
theorem EZ (n:Int)(h1:0≤n)(h2:n<18446744073709551616):IntKind.u64.wrap n=n:=by
 simp [IntKind.wrap,IntKind.bits,IntKind.signed];omega
abbrev AU (n:Int):AV:=.p (.int .u64 n)
end Go.Am
end
section
/- Functions of lists. -/
open Go
namespace Go.Am
variable {h:bA} {K:nA}
theorem zpu (l:List Int)(a b:Int)(hv:∀ n∈l,a≤n∧n≤b):(l.length:Int)*a≤l.sum∧l.sum≤(l.length:Int)*b:=by
 induction l with
 | nil=>simp
 | cons x r ih=>
  obtain⟨i1,i2⟩:=ih (fun n hn=>hv n (by simp [hn]))
  obtain⟨x1,x2⟩:=hv x (by simp)
  simp only[List.length_cons,List.sum_cons,Int.natCast_add,Int.add_mul];omega
theorem zpv {l:List Int}{B:Int}(hv:∀ n∈l,-B≤n∧n≤B){N:Nat}(hl:l.length≤N)(hB:0≤B) : -(N*B)≤l.sum∧l.sum≤N*B:=by
 obtain⟨h1,h2⟩:=zpu l (-B) B hv;have:(l.length:Int)*B≤N*B:=Int.mul_le_mul_of_nonneg_right (by omega) hB
 rw[Int.mul_neg]at h1;omega
theorem zpw {l:List Int}{B:Int}(hv:∀ n∈l,-B≤n∧n≤B){N:Nat}(hl:l.length≤N)(hB:0≤B)(k:Nat) : -(N*B)≤(l.take k).sum∧(l.take k).sum≤N*B:=
 zpv (fun n hn=>hv n (List.mem_of_mem_take hn)) (by simp;omega) hB
theorem z8s (l m:List Int)(hl:l.length≤1000000000):kA X DI [AL l,AL m] h K=K (AB (decide (l=m))) h []:=by
 refine IA ?_;rw[zer rfl];by_cases hlen:l.length=m.length
 ·simp only[ZM,go_sem,hlen]
  refine VA (fun k:Nat=>⟨[(0,AL l),(1,AL m),(12,AI m.length),(13,AI k)],h,[]⟩) (fun k=>k≤m.length∧l.take k=m.take k) (fun k=>m.length-k) 0 rfl (by simp) ?_
  rintro k ⟨hk,hp⟩
  rcases Nat.lt_or_ge k m.length with hlt|hge
  ·have hg1:=XA eI (show k<l.length by omega)
   have hg2:=XA eI hlt
   have w2:IntKind.i64.wrap ((k:Int)+1)=((k+1:Nat):Int):=CA _ (by omega) (by omega)
   by_cases he:l[k]=m[k]
   ·simp only[go_sem,hlt,hg1,hg2,w2,he]
    exact⟨k+1,rfl,⟨by omega,by rw[List.take_succ_eq_append_getElem (by omega),List.take_succ_eq_append_getElem hlt,hp,he]⟩,by omega⟩
   ·simp only[go_sem,hlt,hg1,hg2,w2,he]
    have:¬l=m:=fun h=>he (by simp only[h])
    simp [this]
  ·have e1:k=m.length:=by omega
   have e2:l=m:=by rw[←List.take_length (l:=l),←List.take_length (l:=m),hlen,←e1,hp]
   subst e1;simp only[go_sem,Nat.lt_irrefl];simp [e2]
 ·have e1:((l.length:Int)=m.length)=False:=by simp only[eq_iff_iff,iff_false];omega
  simp only[ZM,go_sem,e1];have:¬l=m:=fun h=>hlen (by rw[h])
  simp [this]
def fE (g:Nat)(caps:List AV)(p:PV→Bool)(xs:List PV)(h:bA):Prop:=∀x∈xs,∀K:nA,kA X g (.p x::caps) h K=K (AB (p x)) h []
def WC (p:PV→Bool)(xs:List PV):Int:=if xs.findIdx p<xs.length then(xs.findIdx p:Int) else -1
theorem aX (p:PV→Bool)(xs:List PV):decide (0≤WC p xs)=xs.any p:=by
 unfold WC;rw[Bool.eq_iff_iff];by_cases h:xs.findIdx p<xs.length
 ·rw[if_pos h];simp only[decide_eq_true_eq,List.any_eq_true]
  exact⟨fun _=>⟨_,List.getElem_mem h,List.findIdx_getElem⟩,fun _=>by omega⟩
 ·rw[if_neg h];simp only[decide_eq_true_eq,List.any_eq_true]
  refine⟨fun h=>by omega,fun⟨x,hx,hp⟩=>absurd (List.findIdx_lt_length_of_exists ⟨x,hx,hp⟩) h⟩
end Go.Am
end
section
/- Plain lists: insertion sort asv Go's package slices does it on short lists;deleting;compacting. -/
namespace Go.Am
variable {α:Type}
def gC (lt:α→α→Bool)(x:α):List α→List α
 | []=>[x]
 | y::r=>bif lt x y then y::gC lt x r else x::y::r
def vD (lt:α→α→Bool)(l:List α):List α:=l.foldl (fun r x=>gC lt x r) []
def XB (lt:α→α→Bool)(l:List α):List α:=(vD lt l).reverse
theorem cX (lt:α→α→Bool)(x:α):∀r:List α,(gC lt x r).Perm (x::r)
 | []=>.refl _
 | y::r=>by
  unfold gC;cases lt x y with
  | true=>exact((cX lt x r).cons y).trans (.swap _ _ _)
  | false=>exact .refl _
theorem z6L (lt:α→α→Bool):∀(l r:List α),(l.foldl (fun r x=>gC lt x r) r).Perm (l++r)
 | [],r=>.refl _
 | x::l,r=>by
  simp only[List.foldl_cons,List.cons_append];refine(z6L lt l _).trans ?_;exact((cX lt x r).append_left l).trans (List.perm_middle)
theorem eR (lt:α→α→Bool)(l:List α):(vD lt l).Perm l:=by
 have:=z6L lt l [];rwa [List.append_nil]at this
theorem z6Q (lt:α→α→Bool)(l:List α):(XB lt l).Perm l:=(List.reverse_perm _).trans (eR lt l)
theorem zkr (lt:α→α→Bool)(l:List α):(XB lt l).length=l.length:=(z6Q lt l).length_eq
theorem zks {lt:α→α→Bool}{l:List α}{x:α}:x∈XB lt l↔x∈l:=(z6Q lt l).mem_iff
theorem z6K (lt:α→α→Bool)(l:List α):(vD lt l).length=l.length:=(eR lt l).length_eq
structure Weak (lt:α→α→Bool):Prop where
 asym:∀a b,lt a b=true→lt b a=false
 ntrans:∀a b c,lt b a=false→lt c b=false→lt c a=false
theorem z6E {lt:α→α→Bool}(w:Weak lt)(x:α):∀r:List α,r.Pairwise (fun a b=>lt a b=false)→(gC lt x r).Pairwise (fun a b=>lt a b=false)
 | [],_=>by simp [gC]
 | y::r,h=>by
  unfold gC;rw[List.pairwise_cons]at h;cases hxy:lt x y with
  | true=>
   rw[cond_true,List.pairwise_cons];refine⟨fun z hz=>?_,z6E w x r h.2⟩
   rcases List.mem_cons.1 ((cX lt x r).mem_iff.1 hz) with rfl|hz
   ·exact w.asym _ _ hxy
   ·exact h.1 z hz
  | false=>
   rw[cond_false,List.pairwise_cons,List.pairwise_cons];refine⟨fun z hz=>?_,h⟩
   rcases List.mem_cons.1 hz with rfl|hz
   ·exact hxy
   ·exact w.ntrans _ _ _ (h.1 z hz) hxy
theorem z6M {lt:α→α→Bool}(w:Weak lt):∀(l r:List α),r.Pairwise (fun a b=>lt a b=false)→(l.foldl (fun r x=>gC lt x r) r).Pairwise (fun a b=>lt a b=false)
 | [],r,h=>h
 | x::l,r,h=>z6M w l _ (z6E w x r h)
theorem zkt {lt:α→α→Bool}(w:Weak lt)(l:List α):(XB lt l).Pairwise (fun a b=>lt b a=false):=by
 unfold XB;rw[List.pairwise_reverse];exact z6M w l [] .nil
theorem z6N (lt:α→α→Bool)(l:List α)(k:Nat)(hk:k<l.length):vD lt (l.take (k+1))=gC lt l[k] (vD lt (l.take k)):=by
 rw[List.take_succ_eq_append_getElem hk];unfold vD;rw[List.foldl_append];rfl
theorem z7j {β:Type}(f:α→β){lt:α→α→Bool}{lt':β→β→Bool}(h:∀ a b,lt' (f a) (f b)=lt a b)(x:α):∀r:List α,gC lt' (f x) (r.map f)=(gC lt x r).map f
 | []=>rfl
 | y::r=>by
  simp only[List.map_cons,gC,h];cases lt x y with
  | true=>simp only[cond_true,List.map_cons,z7j f h x r]
  | false=>rfl
theorem z6F (lt:α→α→Bool)(x:α)(A:List α):∀B:List α,(∀b∈B,lt x b=true)→gC lt x (B++A)=B++gC lt x A
 | [],_=>rfl
 | b::B,h=>by
  simp only[List.cons_append,gC,h b (by simp),cond_true]
  rw[z6F lt x A B (fun b hb=>h b (by simp [hb]))]
theorem z6G (A C:List α)(x:α):(A.reverse++x::C)[A.length]?=some x:=by
 rw[List.getElem?_append_right (by simp)];simp
theorem z6H (A C:List α)(x y:α):((y::A).reverse++x::C)[A.length]?=some y:=by
 rw[List.getElem?_append_left (by simp)];simp
theorem z6I (A C:List α)(x y:α):(((y::A).reverse++x::C).set (A.length+1) y).set A.length x=A.reverse++x::y::C:=by
 have e:(y::A).reverse++x::C=A.reverse++y::x::C:=by simp
 rw[e,List.set_append_right _ _ (by simp),List.length_reverse,Nat.add_sub_cancel_left,List.set_append_right _ _ (by simp),List.length_reverse,Nat.sub_self]
 rfl
theorem dR (lt:α→α→Bool)(x:α)(A B:List α)(hB:∀ b∈B,lt x b=true)(hA:∀ y r,A=y::r→lt x y=false):gC lt x (B++A)=B++x::A:=by
 rw[z6F lt x A B hB];cases A with
 | nil=>rfl
 | cons y r=>simp only[gC,hA y r rfl,cond_false]
theorem z6O {β:Type}(f:α→β){lt:α→α→Bool}{lt':β→β→Bool}(h:∀ a b,lt' (f a) (f b)=lt a b)(l:List α):XB lt' (l.map f)=(XB lt l).map f:=by
 have key:∀(l r:List α),(l.map f).foldl (fun r x=>gC lt' x r) (r.map f)=(l.foldl (fun r x=>gC lt x r) r).map f:=by
  intro l;induction l with
  | nil=>intro r;rfl
  | cons x l ih=>intro r;simp only[List.map_cons,List.foldl_cons,z7j f h,ih]
 unfold XB vD;have:=key l [];simp only[List.map_nil]at this;rw[this,List.map_reverse]
end Go.Am
namespace Go.Am
variable {α:Type}
def CD (q:α→α→Bool)(prev:α):List α→List α
 | []=>[]
 | x::r=>bif q x prev then CD q x r else x::CD q x r
def bC (q:α→α→Bool):List α→List α
 | []=>[]
 | x::r=>x::CD q x r
theorem z2Y (q:α→α→Bool):∀(l:List α) (p:α),(CD q p l).length≤l.length
 | [],_=>Nat.le_refl _
 | x::r,p=>by
  unfold CD;have:=z2Y q r x;cases q x p with
  | true=>simp only[cond_true,List.length_cons];omega
  | false=>simp only[cond_false,List.length_cons];omega
theorem z3a (q:α→α→Bool)(l:List α):(bC q l).length≤l.length:=by
 cases l with
 | nil=>exact Nat.le_refl _
 | cons x r=>have:=z2Y q r x;simp only[bC,List.length_cons];omega
theorem aV (q:α→α→Bool):∀(l:List α) (p:α),∀x∈CD q p l,x∈l
 | [],_,x,h=>h
 | y::r,p,x,h=>by
  unfold CD at h;cases hq:q y p with
  | true=>rw[hq]at h;exact List.mem_cons_of_mem _ (aV q r y x h)
  | false=>
   rw[hq]at h;rcases List.mem_cons.1 h with rfl|h
   ·simp
   ·exact List.mem_cons_of_mem _ (aV q r y x h)
theorem zeM {q:α→α→Bool}{l:List α}{x:α}(h:x∈bC q l):x∈l:=by
 cases l with
 | nil=>exact h
 | cons y r=>
  rcases List.mem_cons.1 h with rfl|h
  ·simp
  ·exact List.mem_cons_of_mem _ (aV q r y x h)
theorem z2Z (q:α→α→Bool)(z:α):∀(l:List α) (p:α),CD q p (l++[z])=CD q p l++(bif q z ((p::l).getLast (by simp)) then [] else [z])
 | [],p=>by simp only[List.nil_append,CD,List.getLast_singleton]
 | x::r,p=>by
  simp only[List.cons_append,CD,z2Z q z r x];have e:(p::x::r).getLast (by simp)=(x::r).getLast (by simp):=List.getLast_cons (by simp)
  rw[e];cases q x p <;> rfl
theorem z3b (q:α→α→Bool)(l:List α)(k:Nat)(hk:k+1<l.length):bC q (l.take (k+1+1))=bC q (l.take (k+1))++(bif q l[k+1] l[k] then [] else [l[k+1]]):=by
 rw[List.take_succ_eq_append_getElem hk];cases l with
 | nil=>simp at hk
 | cons x r=>
  simp only[List.take_succ_cons,List.cons_append,bC,z2Z];have e:(x::r.take k).getLast (by simp)=(x::r)[k]:=by
   have:x::r.take k=(x::r).take (k+1):=rfl
   simp only[this];rw[List.getLast_eq_getElem];simp only[List.getElem_take];congr 1
   simp only[List.length_take,List.length_cons]at hk ⊢;omega
  rw[e]
theorem zeL {β:Type}(f:α→β){q:α→α→Bool}{q':β→β→Bool}(h:∀ a b,q' (f a) (f b)=q a b)(l:List α):bC q' (l.map f)=(bC q l).map f:=by
 have key:∀(l:List α) (p:α),CD q' (f p) (l.map f)=(CD q p l).map f:=by
  intro l;induction l with
  | nil=>intro p;rfl
  | cons x r ih=>
   intro p;simp only[List.map_cons,CD,h,ih];cases q x p <;> rfl
 cases l with
 | nil=>rfl
 | cons x r=>simp only[List.map_cons,bC,key]
end Go.Am
end
section
/- Values of a shape: loads and stores in rows. -/
open Go
namespace Go.Am
variable {h:bA} {K:nA}
theorem HF {sh:Sh}{x:PV}(hx:x.shp sh=true):LA sh 0 x=some x:=by
 cases sh with
 | none=>exact zeV hx
 | some n=>
  cases x with
  | agg cs=>
   simp only[PV.shp,Bool.and_eq_true,beq_iff_eq]at hx;simp [LA,hx.1];exact List.take_of_length_le (by omega)
  | _=>cases hx
theorem kM {sh:Sh}{x:PV}(hx:x.shp sh=true):x.cells.length=lA sh:=by
 cases sh with
 | none=>cases x <;> first|rfl|cases hx
 | some n=>
  cases x with
  | agg cs=>simp only[PV.shp,Bool.and_eq_true,beq_iff_eq]at hx;exact hx.1
  | _=>cases hx
theorem jM {sh:Sh}{x:PV}(hx:x.shp sh=true):x.cells.all PV.sc=true:=by
 cases sh with
 | none=>cases x <;> first|rfl|cases hx
 | some n=>
  cases x with
  | agg cs=>simp only[PV.shp,Bool.and_eq_true,beq_iff_eq]at hx;exact hx.2
  | _=>cases hx
theorem mM {sh:Sh}{x y:PV}(hx:x.shp sh=true)(hy:y.shp sh=true)(id i fz:Nat)(xs:List PV)(h1:bA):stE sh id i 0 fz sh xs x h1 (some y)=some (.und,h1.set id (.row sh (xs.set i x) fz),[]):=by
 cases sh with
 | none=>
  cases y with
  | agg cs=>cases hy
  | _=>simp only[PV.shp]at hx;simp [stE,hx]
 | some n=>
  cases y with
  | agg cs=>
   cases x with
   | agg ds=>
    simp only[PV.shp,Bool.and_eq_true,beq_iff_eq]at hx hy;simp [stE,PV.cells,splice,hx.1,hy.1,show cs.drop n=[] from List.drop_of_length_le (by omega)]
   | _=>cases hx
  | _=>cases hy
def ZB (sh:Sh)(xs:List PV):Prop:=∀x∈xs,x.shp sh=true
theorem XG {sh:Sh}{xs:List PV}(hx:ZB sh xs){i:Nat}(hi:i<xs.length):xs[i].shp sh=true:=hx _ (List.getElem_mem hi)
theorem WG {h:bA}{id:Nat}{o:Obj}(hh:h[id]?=some o):h.set id o=h:=by
 apply List.ext_getElem?
 intro i;rw[List.getElem?_set];split
 ·rename_i e;subst e;rw[hh];simp [JB hh]
 ·rfl
def Cmps (g:Nat)(caps:List AV)(c:PV→PV→Int)(xs:List PV)(id:Nat)(h:bA):Prop:=∀(o:Obj) (x:PV),x∈xs→∀y,y∈xs→∀K:nA,kA X g (.p x :: .p y::caps) (h.set id o) K=K (AI (c x y)) (h.set id o) []
def ltC (c:PV→PV→Int)(a b:PV):Bool:=decide (c a b<0)
structure Shows (sh:Sh) (v:AV) (xs:List PV) (h:bA):Prop where
 len:xA v=some (AI xs.length)
 get:∀(k:Nat) (hk:k<xs.length),∃a,tA sh v (AI k) h=some a∧eA sh a h=some (.p xs[k])
theorem wZ {sh:Sh}{xs:List PV}(hs:ZB sh xs):Shows sh (.p (.sl sh xs)) xs h:=by
 refine⟨rfl,fun k hk=>⟨.vp xs[k],?_,?_⟩⟩
 ·simp [tA,BB,hk]
 ·simp only[z7e,HF (XG hs hk)];rfl
theorem qO {sh:Sh}{id off len fz:Nat}{xs:List PV}(hs:ZB sh xs)(hh:h[id]?=some (.row sh xs fz))(hl:off+len≤xs.length):Shows sh (.own id xs.length off len) (win xs off len) h:=by
 have hw:(win xs off len).length=len:=by simp [win];omega
 refine⟨by rw[hw];rfl,fun k hk=>⟨.rref id xs.length (off+k) 0,?_,?_⟩⟩
 ·rw[hw]at hk
  simp [tA,BB,hh,hl,hk]
 ·have hk':off+k<xs.length:=by rw[hw]at hk;omega
  have e:(win xs off len)[k]=xs[off+k]:=by simp [win]
  rw[e];simp only[z7d,hh,z6X,if_true,List.getElem?_eq_getElem hk',Option.bind_some,HF (XG hs hk'),Option.map_some]
theorem zoI {sh:Sh}{id fz:Nat}{xs:List PV}(hs:ZB sh xs)(hh:h[id]?=some (.row sh xs fz)):Shows sh (.own id xs.length 0 xs.length) xs h:=by
 have:=qO hs hh (off:=0) (len:=xs.length) (by omega)
 rwa [z9j]at this
theorem zoJ {sh:Sh}{xs ys:List PV}(hx:ZB sh xs)(hy:ZB sh ys):ZB sh (xs++ys):=fun x h=>by
 rcases List.mem_append.1 h with h|h
 ·exact hx x h
 ·exact hy x h
def lT (g:Nat)(caps:List AV)(p:PV→Bool)(xs:List PV)(id:Nat)(h:bA):Prop:=∀(o:Obj) (x:PV),x∈xs→∀K:nA,kA X g (.p x::caps) (h.set id o) K=K (AB (p x)) (h.set id o) []
end Go.Am
end
section
/- Strings: keys,the library's functions without text. -/
open Go
set_option linter.unusedSimpArgs false
namespace Go.Am
variable {h:bA} {K:nA}
abbrev AS (s:List UInt8):AV:=.p (.str s)
theorem z1O:X.ext=lI TF UF:=rfl
theorem zop (s:List UInt8)(c:UInt8):kA X TF [AS s,.p (.int .u8 c.toNat)] h K=K (AI (xF s c)) h []:=by
 have:=z5F (X:=X) (f:=TF) (asv:=[AS s,.p (.int .u8 c.toNat)]) (vs:=[.str s,.int .u8 c.toNat]) (h:=h) (h1:=h) (r:=.int .i64 (xF s c)) (K:=K) (by kernel_rfl) rfl rfl rfl ?_
 ·exact this
 ·rw[z1O]
  unfold lI;rw[show Nat.beq TF TF=true from by kernel_rfl]
  simp
theorem zoj (a b:List UInt8):kA X UF [AS a,AS b] h K=K (AI (vA a b)) h []:=by
 have:=z5F (X:=X) (f:=UF) (asv:=[AS a,AS b]) (vs:=[.str a,.str b]) (h:=h) (h1:=h) (r:=.int .i64 (vA a b)) (K:=K) (by kernel_rfl) rfl rfl rfl ?_
 ·exact this
 ·rw[z1O]
  unfold lI;rw[show Nat.beq UF TF=false from by kernel_rfl,show Nat.beq UF UF=true from by kernel_rfl]
  rfl
theorem NS (a b:List UInt8):kA X BE [AS a,AS b] h K=K (AI (vA a b)) h []:=by
 have key:∀(h:bA) (K:nA),kA X uI [AS a,AS b] h K=K (AI (vA a b)) h []:=by
  intro h K;refine IA ?_;rw[zd4 rfl];simp only[vV,go_sem,zoj]
 refine IA ?_;rw[ze5 rfl];simp only[yW,go_sem,key]
theorem z8v (s:List UInt8)(c:UInt8):kA X AK [AS s,.p (.int .u8 c.toNat)] h K=K (AI (xF s c)) h []:=by
 have key:∀(h:bA) (K:nA),kA X WJ [AS s,.p (.int .u8 c.toNat)] h K=K (AI (xF s c)) h []:=by
  intro h K;refine IA ?_;rw[zd5 rfl];simp only[wV,go_sem,zop]
 refine IA ?_;rw[ze6 rfl];simp only[zW,go_sem,key]
theorem QF:∀ {a b:List UInt8},vA a b=0→a=b
 | [],[],_=>rfl
 | [],_::_,h=>by simp [vA]at h
 | _::_,[],h=>by simp [vA]at h
 | x::a,y::b,h=>by
  simp only[vA]at h;split at h
  ·cases h
  ·split at h
   ·cases h
   ·rename_i h1 h2
    have:x=y:=UInt8.le_antisymm (UInt8.not_lt.1 h2) (UInt8.not_lt.1 h1)
    rw[this,QF h]
theorem wE:∀ a b,vA b a = - vA a b
 | [],[]=>rfl
 | [],_::_=>rfl
 | _::_,[]=>rfl
 | x::a,y::b=>by
  simp only[vA];by_cases h1:x<y
  ·have h2:¬y<x:=UInt8.lt_asymm h1
   simp [h1,h2]
  ·by_cases h2:y<x
   ·simp [h1,h2]
   ·simp [h1,h2,wE a b]
theorem z2X:∀ a b,vA a b = -1∨vA a b=0∨vA a b=1
 | [],[]=>.inr (.inl rfl)
 | [],_::_=>.inl rfl
 | _::_,[]=>.inr (.inr rfl)
 | x::a,y::b=>by
  simp only[vA];split
  ·exact .inl rfl
  ·split
   ·exact .inr (.inr rfl)
   ·exact z2X a b
theorem jI:∀ {a b c:List UInt8},vA a b<0→vA b c<0→vA a c<0
 | [],[],_,h,_=>by simp [vA]at h
 | [],_::_,[],_,h=>by simp [vA]at h
 | [],_::_,_::_,_,_=>by simp [vA]
 | _::_,[],_,h,_=>by simp [vA]at h
 | _::_,_::_,[],_,h=>by simp [vA]at h
 | x::a,y::b,z::c,h1,h2=>by
  simp only[vA]at h1 h2 ⊢;by_cases hxy:x<y
  ·by_cases hyz:y<z
   ·simp [UInt8.lt_trans hxy hyz]
   ·by_cases hzy:z<y
    ·simp [hyz,hzy]at h2
    ·have:y=z:=UInt8.le_antisymm (UInt8.not_lt.1 hzy) (UInt8.not_lt.1 hyz)
     subst this;simp [hxy]
  ·by_cases hyx:y<x
   ·simp [hxy,hyx]at h1
   ·have:x=y:=UInt8.le_antisymm (UInt8.not_lt.1 hyx) (UInt8.not_lt.1 hxy)
    subst this;simp only[UInt8.lt_irrefl,if_false]at h1;by_cases hyz:x<z
    ·simp [hyz]
    ·by_cases hzy:z<x
     ·simp [hyz,hzy]at h2
     ·simp only[hyz,hzy,if_false]at h2 ⊢
      exact jI h1 h2
def UE (c:UInt8):Bool:=decide ((97:Int)≤c.toNat)&&decide ((c.toNat:Int)≤122)||decide ((48:Int)≤c.toNat)&&decide ((c.toNat:Int)≤57)||decide ((c.toNat:Int)=45)||decide ((c.toNat:Int)=95)
def TB (s:List UInt8):Bool:=match s with
 | []=>false
 | c::r=>decide (r.length<40)&&(decide ((97:Int)≤c.toNat)&&decide ((c.toNat:Int)≤122))&&(c::r).all UE
theorem iZ (s:List UInt8)(hl:s.length≤1000000000):kA X qF [AS s] h K=K (AB (TB s)) h []:=by
 refine IA ?_;rw[zdc rfl];cases s with
 | nil=>simp only[jH,go_sem,TB]
 | cons c r=>
  have n0:((c::r)=[])=False:=by simp
  have e1:(((r.length+1:Nat):Int)≤40)=(r.length<40):=by simp only[eq_iff_iff];omega
  by_cases h1:(40:Int)<((r.length+1:Nat):Int)
  ·have:¬r.length<40:=by omega
   simp only[jH,go_sem,n0,h1,TB,this]
  have h1':r.length<40:=by omega
  by_cases h2:(c.toNat:Int)<97
  ·have:¬(97:Int)≤c.toNat:=by omega
   simp only[jH,go_sem,n0,h1,h2,TB,this,h1']
  have h2':(97:Int)≤c.toNat:=by omega
  by_cases h3:(122:Int)<c.toNat
  ·have:¬(c.toNat:Int)≤122:=by omega
   simp only[jH,go_sem,n0,h1,h2,h3,TB,this,h1',h2']
  have h3':(c.toNat:Int)≤122:=by omega
  have ek:TB (c::r)=(c::r).all UE:=by simp [TB,h1',h2',h3']
  rw[ek];generalize hB:(c::r).all UE=B;simp only[jH,go_sem,n0,h1,h2,h3];have hlen:(c::r).length=r.length+1:=rfl
  rw[←hlen];generalize c::r=s at *;refine VA (fun k:Nat=>⟨[(0,AS s),(23,AI s.length),(24,AI k)],h,[]⟩) (fun k=>k≤s.length∧(s.take k).all UE=true) (fun k=>s.length-k) 0 rfl ⟨by omega,rfl⟩ ?_
  rintro k ⟨hk,hp⟩
  rcases Nat.lt_or_ge k s.length with hlt|hge
  ·have hg:s[k]?=some s[k]:=List.getElem?_eq_getElem hlt
   have w2:IntKind.i64.wrap ((k:Int)+1)=((k+1:Nat):Int):=CA _ (by omega) (by omega)
   generalize hc:s[k]=c at *;have key:(decide ((97:Int)≤c.toNat)&&decide ((c.toNat:Int)≤122)||decide ((48:Int)≤c.toNat)&&decide ((c.toNat:Int)≤57)||decide ((c.toNat:Int)=45)||decide ((c.toNat:Int)=95))=UE c:=rfl
   cases hkc:UE c with
   | true=>
    rw[hkc]at key;have hn:(s.take (k+1)).all UE=true:=by rw[List.take_succ_eq_append_getElem hlt,List.all_append,hp,hc];simp [hkc]
    by_cases b1:(97:Int)≤c.toNat <;> by_cases b2:(c.toNat:Int)≤122 <;> by_cases b3:(48:Int)≤c.toNat <;> by_cases b4:(c.toNat:Int)≤57 <;> by_cases b5:(c.toNat:Int)=45 <;> by_cases b6:(c.toNat:Int)=95
    all_goals first
     | (simp only[b1,b2,b3,b4,b5,b6,decide_true,decide_false,Bool.and_self,Bool.and_true,Bool.and_false,Bool.or_self,Bool.or_true,Bool.or_false,Bool.true_or,Bool.false_or,Bool.false_and,reduceCtorEq]at key;done)
     | (exfalso;omega)
     | (simp only[go_sem,hlt,hg,w2,b1,b2,b3,b4,b5,b6];exact⟨k+1,rfl,⟨by omega,hn⟩,by omega⟩)
   | false=>
    rw[hkc]at key;have hn:s.all UE=false:=by rw[List.all_eq_false];exact⟨_,List.getElem_mem hlt,by rw[hc,hkc];simp⟩
    rw[hn]at hB;subst hB;by_cases b1:(97:Int)≤c.toNat <;> by_cases b2:(c.toNat:Int)≤122 <;> by_cases b3:(48:Int)≤c.toNat <;> by_cases b4:(c.toNat:Int)≤57 <;> by_cases b5:(c.toNat:Int)=45 <;> by_cases b6:(c.toNat:Int)=95
    all_goals first
     | (simp only[b1,b2,b3,b4,b5,b6,decide_true,decide_false,Bool.and_self,Bool.and_true,Bool.and_false,Bool.or_self,Bool.or_true,Bool.or_false,Bool.true_or,Bool.false_or,Bool.false_and,reduceCtorEq]at key;done)
     | (exfalso;omega)
     | (simp only[go_sem,hlt,hg,b1,b2,b3,b4,b5,b6])
  ·have ek:k=s.length:=by omega
   subst ek;rw[List.take_length,hB]at hp;subst hp;simp only[go_sem,Nat.lt_irrefl]
theorem zkc (s:List UInt8)(c:UInt8):decide (xF s c<0) = !s.contains c:=by
 unfold xF;rw[Bool.eq_iff_iff];by_cases hf:s.findIdx (· == c)<s.length
 ·rw[if_pos hf]
  have:=List.findIdx_getElem (w:=hf);simp only[beq_iff_eq]at this;have hm:c∈s:=by rw[←this];exact List.getElem_mem hf
  simp [hm]
 ·rw[if_neg hf]
  have hm:¬c∈s:=fun hm=>hf (List.findIdx_lt_length_of_exists ⟨c,hm,by simp⟩)
  simp [hm]
theorem pZ (s t:List UInt8)(hl:s.length≤1000000000):kA X aG [AS s,AS t] h K=K (AB (s.all fun c=>t.contains c)) h []:=by
 refine IA ?_;rw[zef rfl];simp only[rQ,go_sem];refine VA (fun k:Nat=>⟨[(0,AS s),(1,AS t),(7,AI s.length),(8,AI k)],h,[]⟩) (fun k=>k≤s.length∧(s.take k).all (fun c=>t.contains c)=true) (fun k=>s.length-k) 0 rfl ⟨by omega,rfl⟩ ?_
 rintro k ⟨hk,hp⟩
 rcases Nat.lt_or_ge k s.length with hlt|hge
 ·have hg:s[k]?=some s[k]:=List.getElem?_eq_getElem hlt
  have w2:IntKind.i64.wrap ((k:Int)+1)=((k+1:Nat):Int):=CA _ (by omega) (by omega)
  have hi:=zkc t s[k]
  by_cases hc:xF t s[k]<0
  ·have:s.all (fun c=>t.contains c)=false:=by
    rw[List.all_eq_false];refine⟨_,List.getElem_mem hlt,?_⟩;rw[decide_eq_true hc]at hi;cases hq:t.contains s[k]with
    | true=>rw[hq]at hi;cases hi
    | false=>simp
   simp only[go_sem,hlt,hg,z8v,hc,this]
  ·rw[decide_eq_false hc]at hi
   have hq:t.contains s[k]=true:=by cases hq:t.contains s[k]with|true=>rfl|false=>rw[hq]at hi;cases hi
   simp only[go_sem,hlt,hg,z8v,hc,w2];exact⟨k+1,rfl,⟨by omega,by rw[List.take_succ_eq_append_getElem hlt,List.all_append,hp];simp only[List.all_cons,List.all_nil,hq];rfl⟩,by omega⟩
 ·have ek:k=s.length:=by omega
  subst ek;rw[List.take_length]at hp;simp only[go_sem,Nat.lt_irrefl,hp]
def rO:List UInt8:=[97,98,99,100,101,102,103,104,105,106,107,108,109,110,111,112,113,114,115,116,117,118,119,120,121,122]
def vN:List UInt8:=[97,98,99,100,101,102,103,104,105,106,107,108,109,110,111,112,113,114,115,116,117,118,119,120,121,122,48,49,50,51,52,53,54,55,56,57,45,95]
theorem z8Y {p:UInt8→Bool}(h:((List.range 256).all fun n=>p (UInt8.ofNat n))=true)(c:UInt8):p c=true:=by
 have:=List.all_eq_true.1 h c.toNat (by simp;exact c.toNat_lt)
 rwa [UInt8.ofNat_toNat]at this
theorem zoP (c:UInt8):rO.contains c=(decide ((97:Int)≤c.toNat)&&decide ((c.toNat:Int)≤122)):=by
 have:=z8Y (p:=fun c=>rO.contains c==(decide ((97:Int)≤c.toNat)&&decide ((c.toNat:Int)≤122))) (by kernel_rfl) c
 simpa using this
theorem zk3 (c:UInt8):vN.contains c=UE c:=by
 have:=z8Y (p:=fun c=>vN.contains c==UE c) (by kernel_rfl) c
 simpa using this
theorem qZ (s:List UInt8)(hl:s.length≤1000000000):kA X ZF [AS s] h K=K (AB (TB s)) h []:=by
 refine IA ?_;rw[zdR rfl];have o1:=fun h K=>pZ (h:=h) (K:=K) s vN hl
 have e2:(s.all fun c=>vN.contains c)=s.all UE:=by congr 1;funext c;exact zk3 c
 rw[e2]at o1;unfold vN at o1;cases s with
 | nil=>simp only[IJ,go_sem,oO,TB]
 | cons c r=>
  have o2:=fun h K=>pZ (h:=h) (K:=K) [c] rO (by simp)
  have e3:([c].all fun c=>rO.contains c)=(decide ((97:Int)≤c.toNat)&&decide ((c.toNat:Int)≤122)):=by simp only[List.all_cons,List.all_nil,Bool.and_true];exact zoP c
  rw[e3]at o2;unfold rO at o2;have q1:(1:Int)≤((r.length+1:Nat):Int):=by omega
  have q2:1≤r.length+1:=by omega
  by_cases h1:r.length<40
  ·have h1':((r.length+1:Nat):Int)≤40:=by omega
   cases h2:(decide ((97:Int)≤c.toNat)&&decide ((c.toNat:Int)≤122)) with
   | true=>
    have ek:TB (c::r)=(c::r).all UE:=by
     simp only[TB,h1,decide_true,Bool.true_and,h2]
    rw[ek];simp only[IJ,go_sem,oO,h1',q1,q2,win,↓o2,o2,h2,↓o1,o1]
   | false=>
    have ek:TB (c::r)=false:=by simp only[TB,h1,decide_true,Bool.true_and,h2,Bool.false_and]
    rw[ek];simp only[IJ,go_sem,oO,h1',q1,q2,win,↓o2,o2,h2]
  ·have h1':¬((r.length+1:Nat):Int)≤40:=by omega
   have ek:TB (c::r)=false:=by simp only[TB,h1,decide_false,Bool.false_and]
   rw[ek];simp only[IJ,go_sem,oO,h1',q1]
end Go.Am
end
section
/- Finding values in lists: printed by program. -/
open Go
set_option linter.unusedSimpArgs false
namespace Go.Am
attribute [-go_sem] PV.cells
variable {h:bA} {K:nA}
end Go.Am
end
section
/- Limits: what they are,what is wrong with them. -/
open Go
namespace Go.Am
variable {h:bA} {K:nA}
structure Lim where
 key:List UInt8
 lo:Int
 hi:Int
 bin:Int
def Lim.pv (x:Lim):PV:=.agg [.str x.key,eI x.lo,eI x.hi,eI x.bin]
def inB (a n b:Int):Bool:=decide (a≤n)&&decide (n≤b)
theorem JS (n a b:Int):kA X kE [AI n,AI a,AI b] h K=K (AB (!inB a n b)) h []:=by rw[s_Out,zmC];rfl
theorem KS (n a b:Int):kA X PD [AI n,AI a,AI b] h K=K (AB (inB a n b)) h []:=oO n a b
end Go.Am
end
section
/- Boards,plainly: what is wrong with them. -/
set_option linter.all false
namespace Go.Am
structure Cel where
 kind:Int
 pin:List UInt8
 ctl:Int
 off:Int
 deriving DecidableEq
structure Prt where
 key:List UInt8
 cells:List Cel
 deriving DecidableEq
structure Jon where
 net:List UInt8
 part:List UInt8
 pin:List UInt8
 deriving DecidableEq
structure Pul where
 net:List UInt8
 level:Int
 deriving DecidableEq
structure Brd where
 parts:List Prt
 joins:List Jon
 pulls:List Pul
 deriving DecidableEq
def Cel.pv (c:Cel):PV:=.agg [eI c.kind,.str c.pin,eI c.ctl,eI c.off]
def Prt.pv (p:Prt):PV:=.agg [.str p.key,.sl (some 4) (p.cells.map Cel.pv)]
def Jon.pv (j:Jon):PV:=.agg [.str j.net,.str j.part,.str j.pin]
def Pul.pv (p:Pul):PV:=.agg [.str p.net,eI p.level]
def Brd.pv (b:Brd):PV:=.agg [.sl (some 2) (b.parts.map Prt.pv),.sl (some 3) (b.joins.map Jon.pv),.sl (some 2) (b.pulls.map Pul.pv)]
def dC (c:Cel):Bool:=decide (c.kind=1)||decide (c.kind=2)
def DE (l:List Cel)(i:Int):Int:=((l[i.toNat]?).map Cel.kind).getD 0
def FB (b1 b2 b3 b4 b5 b6 b7 b8 b9 bp:Bool):Int:=
 bif !b1 then 4 else bif b2 && !b3 then 5 else bif !b2 && !bp then 3
 else bif !b4 then(bif !b5 || !b9 then 3 else 0)
 else bif !b5&&(!b6 || !b7) then 8 else bif !b8||(b5 && !b9) then 1 else 0
def tC (l:List Cel)(c:Cel):Int:=
 FB (inB 1 c.kind 4) (dC c) (TB c.pin) (decide (c.kind=2)) (decide (c.ctl = -1)) (inB 0 c.ctl (l.length-1)) (decide (DE l c.ctl=3)) (inB 0 c.off 1) (decide (c.off=0)) (decide (c.pin=[]))
def pD {α:Type}(f:α→Int):List α→Int
 | []=>0
 | x::r=>if f x≠0 then f x else pD f r
theorem CK {α:Type}{f:α→Int}:∀{l:List α},pD f l=0→∀x∈l,f x=0
 | [],_,_,h=>by cases h
 | y::r,h,x,hx=>by
  unfold pD at h;by_cases hy:f y=0
  ·rw[if_neg (by simp [hy])]at h
   rcases List.mem_cons.1 hx with e|hx
   ·rw[e];exact hy
   ·exact CK h x hx
  ·rw[if_pos hy]at h;exact absurd h hy
def XC (c d:Cel):Bool:=decide (d.kind=c.kind)&&decide (d.pin=c.pin)
def twC (P:Cel→Bool)(seen:List Cel):List Cel→Bool
 | []=>false
 | c::r=>if P c&&seen.any (XC c) then true else twC P (seen++[c]) r
def nD (l:List Cel):Int:=if(200:Int)<l.length then 2 else if pD (tC l) l≠0 then pD (tC l) l else if twC dC [] l then 6 else 0
def ED (c:Cel):Bool:=!decide (c.pin=[])
theorem z28 {l:List Cel}{c:Cel}(h:tC l c=0):ED c=dC c:=by
 unfold tC at h;unfold ED;cases h1:inB 1 c.kind 4 with
 | false=>rw[h1]at h;cases h
 | true=>
  cases h2:dC c with
  | true=>
   cases h3:TB c.pin with
   | false=>rw[h1,h2,h3]at h;cases h
   | true=>
    have:c.pin≠[]:=fun e=>by rw[e]at h3;cases h3
    simp [this]
  | false=>
   cases h3:decide (c.pin=[]) with
   | true=>rfl
   | false=>rw[h1,h2,h3]at h;cases h
theorem z8V {P Q:Cel→Bool}:∀{l seen:List Cel},(∀c∈l,P c=Q c)→twC P seen l=twC Q seen l
 | [],_,_=>rfl
 | c::r,seen,h=>by
  unfold twC;rw[h c (by simp),z8V (l:=r) fun d hd=>h d (by simp [hd])]
theorem zeF (l:List Cel):nD l=if(200:Int)<l.length then 2 else if pD (tC l) l≠0 then pD (tC l) l else if twC ED [] l then 6 else 0:=by
 unfold nD;split
 ·rfl
 ·split
  ·rfl
  ·rename_i h1 h2
   rw[z8V (P:=dC) (Q:=ED) fun c hc=>(z28 (CK (by simpa using h2) c hc)).symm]
def NC:Option Prt→List Prt→Int
 | _,[]=>0
 | p,x::r=>if TB x.key=false then 5 else if(match p with|some q=>decide (vA x.key q.key≤0)|none=>false)=true then 7 else if nD x.cells≠0 then nD x.cells else NC (some x) r
def JY (b:Brd)(key:List UInt8):Option Prt:=b.parts[b.parts.findIdx fun p=>decide (p.key=key)]?
def OG (b:Brd)(part pin:List UInt8):Bool:=match JY b part with
 | some p=>p.cells.any fun c=>dC c&&decide (c.pin=pin)
 | none=>false
def GB (x y:Jon):Int:=if vA x.net y.net≠0 then vA x.net y.net else if vA x.part y.part≠0 then vA x.part y.part else vA x.pin y.pin
def dD (b:Brd):Option Jon→List Jon→Int
 | _,[]=>0
 | p,x::r=>if TB x.net=false then 5 else if OG b x.part x.pin=false then 8 else if(match p with|some q=>decide (GB x q≤0)|none=>false)=true then 7 else dD b (some x) r
def iD (x y:Jon):Bool:=decide (y.part=x.part)&&decide (y.pin=x.pin)
def twJ (seen:List Jon):List Jon→Bool
 | []=>false
 | x::r=>if seen.any (iD x) then true else twJ (seen++[x]) r
def SD (b:Brd):Int:=if(1000:Int)<b.joins.length then 2 else if dD b none b.joins≠0 then dD b none b.joins else if twJ [] b.joins then 6 else 0
def eqN (x y:List UInt8):Bool:=decide (x=y)
def sA (b:Brd):List (List UInt8):=bC eqN (b.joins.map Jon.net)
def HE (nets:List (List UInt8)):Option Pul→List Pul→Int
 | _,[]=>0
 | p,x::r=>if nets.contains x.net=false then 8 else if inB 0 x.level 1=false then 1 else if(match p with|some q=>decide (vA x.net q.net≤0)|none=>false)=true then 7 else HE nets (some x) r
def PC (b:Brd):Int:=
 if(40:Int)<b.parts.length then 2 else if NC none b.parts≠0 then NC none b.parts
 else if SD b≠0 then SD b else if(100:Int)<(sA b).length then 2 else HE (sA b) none b.pulls
end Go.Am
end
section
/- A board's cells: what is wrong with one,both ways. -/
open Go
set_option linter.all false
namespace Go.Am
variable {h:bA} {K:nA}
theorem lZ (c:Cel):kA X yE [.p c.pv] h K=K (AB (dC c)) h []:=by
 refine IA ?_;rw[zds rfl];unfold dC;by_cases h1:c.kind=1
 ·simp only[LM,Cel.pv,eI,go_sem,h1]
 ·by_cases h2:c.kind=2
  ·simp only[LM,Cel.pv,eI,go_sem,h1,h2]
  ·simp only[LM,Cel.pv,eI,go_sem,h1,h2]
theorem z6W {l:List Cel}{i:Int}(h:inB 0 i (l.length-1)=true):∃(n:Nat) (d:Cel),i=n∧n<l.length∧(l.map Cel.pv)[n]?=some d.pv∧DE l i=d.kind:=by
 unfold inB at h;simp only[Bool.and_eq_true,decide_eq_true_eq]at h;have hn:i.toNat<l.length:=by omega
 refine⟨i.toNat,l[i.toNat],by omega,hn,XA Cel.pv hn,?_⟩
 unfold DE;rw[List.getElem?_eq_getElem hn];rfl
set_option maxHeartbeats 4000000 in
theorem znX (p:Prt)(c:Cel)(hp:c.pin.length≤1000000)(hl:p.cells.length≤100000):kA X oI [.p p.pv,.p c.pv] h K=K (AI (tC p.cells c)) h []:=by
 refine IA ?_;rw[zdm rfl];unfold tC;have H1:=fun h K=>lZ (h:=h) (K:=K) c
 have H2:=fun h K=>iZ (h:=h) (K:=K) c.pin (by omega)
 have H3:=fun h K=>JS (h:=h) (K:=K) c.kind 1 4
 have H4:=fun h K=>JS (h:=h) (K:=K) c.ctl 0 ((p.cells.length:Int)-1)
 have H5:=fun h K=>JS (h:=h) (K:=K) c.off 0 1
 simp only[Cel.pv,eI]at H1;have w:IntKind.i64.wrap ((p.cells.length:Int)-1)=(p.cells.length:Int)-1:=CA _ (by omega) (by omega)
 have ln:(p.cells.map Cel.pv).length=p.cells.length:=List.length_map ..
 have pk2:c.kind=2→dC c=true:=fun e=>by unfold dC;simp [e]
 obtain⟨b4,k4⟩:∃b,decide (c.kind=2)=b:=⟨_,rfl⟩;obtain⟨b5,k5⟩:∃b,decide (c.ctl = -1)=b:=⟨_,rfl⟩;obtain⟨b9,k9⟩:∃b,decide (c.off=0)=b:=⟨_,rfl⟩;obtain⟨bp,kp⟩:∃b,decide (c.pin=[])=b:=⟨_,rfl⟩;obtain⟨b1,k1⟩:∃b,inB 1 c.kind 4=b:=⟨_,rfl⟩;obtain⟨b2,k2⟩:∃b,dC c=b:=⟨_,rfl⟩;obtain⟨b3,k3⟩:∃b,TB c.pin=b:=⟨_,rfl⟩;obtain⟨b8,k8⟩:∃b,inB 0 c.off 1=b:=⟨_,rfl⟩;obtain⟨b6,k6⟩:∃b,inB 0 c.ctl ((p.cells.length:Int)-1)=b:=⟨_,rfl⟩;obtain⟨b7,k7⟩:∃b,decide (DE p.cells c.ctl=3)=b:=⟨_,rfl⟩;rw[k2]at H1;rw[k3]at H2;rw[k1]at H3;rw[k6]at H4;rw[k8]at H5;have n42:b4=true→b2=true:=fun e=>by rw[←k2];exact pk2 (by rw[e]at k4;simpa using k4)
 rw[k1,k2,k3,k4,k5,k6,k7,k8,k9,kp];cases b1
 ·simp only[oD,Prt.pv,Cel.pv,eI,go_sem,↓H1,H1,↓H2,H2,↓H3,H3,↓H4,H4,↓H5,H5,k4,k5,k9,kp,w,ln,FB]
 cases b2
 ·cases b4
  ·cases bp
   ·simp only[oD,Prt.pv,Cel.pv,eI,go_sem,↓H1,H1,↓H2,H2,↓H3,H3,↓H4,H4,↓H5,H5,k4,k5,k9,kp,w,ln,FB]
   cases b5
   ·simp only[oD,Prt.pv,Cel.pv,eI,go_sem,↓H1,H1,↓H2,H2,↓H3,H3,↓H4,H4,↓H5,H5,k4,k5,k9,kp,w,ln,FB]
   cases b9
   ·simp only[oD,Prt.pv,Cel.pv,eI,go_sem,↓H1,H1,↓H2,H2,↓H3,H3,↓H4,H4,↓H5,H5,k4,k5,k9,kp,w,ln,FB]
   ·simp only[oD,Prt.pv,Cel.pv,eI,go_sem,↓H1,H1,↓H2,H2,↓H3,H3,↓H4,H4,↓H5,H5,k4,k5,k9,kp,w,ln,FB]
  ·cases n42 rfl
 cases b3
 ·simp only[oD,Prt.pv,Cel.pv,eI,go_sem,↓H1,H1,↓H2,H2,↓H3,H3,↓H4,H4,↓H5,H5,k4,k5,k9,kp,w,ln,FB]
 cases b4
 ·cases b5
  ·simp only[oD,Prt.pv,Cel.pv,eI,go_sem,↓H1,H1,↓H2,H2,↓H3,H3,↓H4,H4,↓H5,H5,k4,k5,k9,kp,w,ln,FB]
  cases b9
  ·simp only[oD,Prt.pv,Cel.pv,eI,go_sem,↓H1,H1,↓H2,H2,↓H3,H3,↓H4,H4,↓H5,H5,k4,k5,k9,kp,w,ln,FB]
  ·simp only[oD,Prt.pv,Cel.pv,eI,go_sem,↓H1,H1,↓H2,H2,↓H3,H3,↓H4,H4,↓H5,H5,k4,k5,k9,kp,w,ln,FB]
 cases b5
 ·cases b6
  ·simp only[oD,Prt.pv,Cel.pv,eI,go_sem,↓H1,H1,↓H2,H2,↓H3,H3,↓H4,H4,↓H5,H5,k4,k5,k9,kp,w,ln,FB]
  obtain⟨n,d,e1,e2,e3,e4⟩:=z6W k6;have c1:LA none 0 d.pv=some (eI d.kind):=rfl
  have hn:BB (.p (.int .i64 c.ctl))=some n:=by rw[e1];exact AN
  rw[e4]at k7;simp only[eI]at c1;cases b7
  ·simp only[oD,Prt.pv,Cel.pv,eI,go_sem,↓H1,H1,↓H2,H2,↓H3,H3,↓H4,H4,↓H5,H5,k4,k5,k9,kp,w,ln,hn,e2,e3,c1,k7,FB]
  cases b8
  ·simp only[oD,Prt.pv,Cel.pv,eI,go_sem,↓H1,H1,↓H2,H2,↓H3,H3,↓H4,H4,↓H5,H5,k4,k5,k9,kp,w,ln,hn,e2,e3,c1,k7,FB]
  ·simp only[oD,Prt.pv,Cel.pv,eI,go_sem,↓H1,H1,↓H2,H2,↓H3,H3,↓H4,H4,↓H5,H5,k4,k5,k9,kp,w,ln,hn,e2,e3,c1,k7,FB]
 cases b8
 ·simp only[oD,Prt.pv,Cel.pv,eI,go_sem,↓H1,H1,↓H2,H2,↓H3,H3,↓H4,H4,↓H5,H5,k4,k5,k9,kp,w,ln,FB]
 cases b9
 ·simp only[oD,Prt.pv,Cel.pv,eI,go_sem,↓H1,H1,↓H2,H2,↓H3,H3,↓H4,H4,↓H5,H5,k4,k5,k9,kp,w,ln,FB]
 ·simp only[oD,Prt.pv,Cel.pv,eI,go_sem,↓H1,H1,↓H2,H2,↓H3,H3,↓H4,H4,↓H5,H5,k4,k5,k9,kp,w,ln,FB]
end Go.Am
end
section
/- A board's cells: what is wrong with one: the reference. -/
open Go
set_option linter.all false
namespace Go.Am
variable {h:bA} {K:nA}
set_option maxHeartbeats 4000000 in
theorem znY (l:List Cel)(c:Cel)(hp:c.pin.length≤1000000)(hl:l.length≤100000):kA X lK [.p (.sl (some 4) (l.map Cel.pv)),.p c.pv] h K=K (AI (tC l c)) h []:=by
 refine IA ?_;rw[zdY rfl];unfold tC;have H2:=fun h K=>qZ (h:=h) (K:=K) c.pin (by omega)
 have H3:=fun h K=>KS (h:=h) (K:=K) c.kind 1 4
 have H4:=fun h K=>KS (h:=h) (K:=K) c.ctl 0 ((l.length:Int)-1)
 have H5:=fun h K=>KS (h:=h) (K:=K) c.off 0 1
 have w:IntKind.i64.wrap ((l.length:Int)-1)=(l.length:Int)-1:=CA _ (by omega) (by omega)
 have ln:(l.map Cel.pv).length=l.length:=List.length_map ..
 obtain⟨b4,k4⟩:∃b,decide (c.kind=2)=b:=⟨_,rfl⟩;obtain⟨b5,k5⟩:∃b,decide (c.ctl = -1)=b:=⟨_,rfl⟩;obtain⟨b9,k9⟩:∃b,decide (c.off=0)=b:=⟨_,rfl⟩;obtain⟨bp,kp⟩:∃b,decide (c.pin=[])=b:=⟨_,rfl⟩;obtain⟨ba,ka⟩:∃b,decide (c.kind=1)=b:=⟨_,rfl⟩;obtain⟨b1,k1⟩:∃b,inB 1 c.kind 4=b:=⟨_,rfl⟩;obtain⟨b2,k2⟩:∃b,dC c=b:=⟨_,rfl⟩;obtain⟨b3,k3⟩:∃b,TB c.pin=b:=⟨_,rfl⟩;obtain⟨b8,k8⟩:∃b,inB 0 c.off 1=b:=⟨_,rfl⟩;obtain⟨b6,k6⟩:∃b,inB 0 c.ctl ((l.length:Int)-1)=b:=⟨_,rfl⟩;obtain⟨b7,k7⟩:∃b,decide (DE l c.ctl=3)=b:=⟨_,rfl⟩;rw[k3]at H2;rw[k1]at H3;rw[k6]at H4;rw[k8]at H5;have e2:b2=(ba||b4):=by rw[←k2,←ka,←k4];rfl
 subst e2;rw[k1,k2,k3,k4,k5,k6,k7,k8,k9,kp];clear k2;cases b4
 ·cases ba
  ·cases b1
   ·simp only[TC,Cel.pv,eI,go_sem,↓H2,H2,↓H3,H3,↓H4,H4,↓H5,H5,ka,k4,k5,k9,kp,w,ln,FB]
   cases bp
   ·simp only[TC,Cel.pv,eI,go_sem,↓H2,H2,↓H3,H3,↓H4,H4,↓H5,H5,ka,k4,k5,k9,kp,w,ln,FB]
   cases b5
   ·simp only[TC,Cel.pv,eI,go_sem,↓H2,H2,↓H3,H3,↓H4,H4,↓H5,H5,ka,k4,k5,k9,kp,w,ln,FB]
   cases b9
   ·simp only[TC,Cel.pv,eI,go_sem,↓H2,H2,↓H3,H3,↓H4,H4,↓H5,H5,ka,k4,k5,k9,kp,w,ln,FB]
   ·simp only[TC,Cel.pv,eI,go_sem,↓H2,H2,↓H3,H3,↓H4,H4,↓H5,H5,ka,k4,k5,k9,kp,w,ln,FB]
  ·cases b1
   ·simp only[TC,Cel.pv,eI,go_sem,↓H2,H2,↓H3,H3,↓H4,H4,↓H5,H5,ka,k4,k5,k9,kp,w,ln,FB]
   cases b3
   ·simp only[TC,Cel.pv,eI,go_sem,↓H2,H2,↓H3,H3,↓H4,H4,↓H5,H5,ka,k4,k5,k9,kp,w,ln,FB]
   cases b5
   ·simp only[TC,Cel.pv,eI,go_sem,↓H2,H2,↓H3,H3,↓H4,H4,↓H5,H5,ka,k4,k5,k9,kp,w,ln,FB]
   cases b9
   ·simp only[TC,Cel.pv,eI,go_sem,↓H2,H2,↓H3,H3,↓H4,H4,↓H5,H5,ka,k4,k5,k9,kp,w,ln,FB]
   ·simp only[TC,Cel.pv,eI,go_sem,↓H2,H2,↓H3,H3,↓H4,H4,↓H5,H5,ka,k4,k5,k9,kp,w,ln,FB]
 ·cases ba
  ·cases b1
   ·simp only[TC,Cel.pv,eI,go_sem,↓H2,H2,↓H3,H3,↓H4,H4,↓H5,H5,ka,k4,k5,k9,kp,w,ln,FB]
   cases b3
   ·simp only[TC,Cel.pv,eI,go_sem,↓H2,H2,↓H3,H3,↓H4,H4,↓H5,H5,ka,k4,k5,k9,kp,w,ln,FB]
   cases b5
   ·cases b6
    ·simp only[TC,Cel.pv,eI,go_sem,↓H2,H2,↓H3,H3,↓H4,H4,↓H5,H5,ka,k4,k5,k9,kp,w,ln,FB]
    obtain⟨n,d,e1,e2,e3,e4⟩:=z6W k6;have c1:LA none 0 d.pv=some (eI d.kind):=rfl
    have hn:BB (.p (.int .i64 c.ctl))=some n:=by rw[e1];exact AN
    rw[e4]at k7;simp only[eI]at c1;cases b7
    ·simp only[TC,Cel.pv,eI,go_sem,↓H2,H2,↓H3,H3,↓H4,H4,↓H5,H5,ka,k4,k5,k9,kp,w,ln,hn,e2,e3,c1,k7,FB]
    cases b8
    ·simp only[TC,Cel.pv,eI,go_sem,↓H2,H2,↓H3,H3,↓H4,H4,↓H5,H5,ka,k4,k5,k9,kp,w,ln,hn,e2,e3,c1,k7,FB]
    ·simp only[TC,Cel.pv,eI,go_sem,↓H2,H2,↓H3,H3,↓H4,H4,↓H5,H5,ka,k4,k5,k9,kp,w,ln,hn,e2,e3,c1,k7,FB]
   cases b8
   ·simp only[TC,Cel.pv,eI,go_sem,↓H2,H2,↓H3,H3,↓H4,H4,↓H5,H5,ka,k4,k5,k9,kp,w,ln,FB]
   cases b9
   ·simp only[TC,Cel.pv,eI,go_sem,↓H2,H2,↓H3,H3,↓H4,H4,↓H5,H5,ka,k4,k5,k9,kp,w,ln,FB]
   ·simp only[TC,Cel.pv,eI,go_sem,↓H2,H2,↓H3,H3,↓H4,H4,↓H5,H5,ka,k4,k5,k9,kp,w,ln,FB]
  ·simp only[decide_eq_true_eq]at k4 ka
   omega
end Go.Am
end
section
/- Lists of cells,joins,parts: looked through: printed by program. -/
open Go
set_option linter.unusedSimpArgs false
namespace Go.Am
attribute [-go_sem] PV.cells splice
variable {h:bA} {K:nA}
theorem ZZ {v:AV}{g:Nat}{caps:List AV}{p:PV→Bool}{xs:List PV}(hv:Shows (some 4) v xs h)(hp:fE g caps p xs h)(hl:xs.length≤1000000000) :
 kA X GI [v,.fn g caps] h K=K (AI (WC p xs)) h []:=by
 refine IA ?_;rw[zet];have vl:=hv.len
 simp only[zQ,go_sem,vl];refine VA (fun k:Nat=>⟨[(0,v),(1,.fn g caps),(7,AI xs.length),(8,AI k)],h,[]⟩) (fun k=>k≤xs.length∧∀x∈xs.take k,p x=false) (fun k=>xs.length-k) 0 rfl (by simp) ?_
 rintro k ⟨hk,hn⟩
 rcases Nat.lt_or_ge k xs.length with hlt|hge
 ·obtain⟨a,ha,hb⟩:=hv.get k hlt
  have w2:IntKind.i64.wrap ((k:Int)+1)=((k+1:Nat):Int):=CA _ (by omega) (by omega)
  have ht:=hp _ (List.getElem_mem hlt)
  cases hpk:p xs[k]with
  | true=>
   have hf:xs.findIdx p=k:=by
    rw[List.findIdx_eq hlt];refine⟨hpk,fun j hj=>?_⟩
    have:=hn xs[j] (by rw[List.mem_take_iff_getElem];exact⟨j,by omega,rfl⟩)
    simpa using this
   simp only[go_sem,hlt,ha,hb,ht,hpk,w2];simp only[WC,hf,hlt,if_true]
  | false=>
   simp only[go_sem,hlt,ha,hb,ht,hpk,w2];refine⟨k+1,rfl,⟨by omega,fun x hx=>?_⟩,by omega⟩
   rw[List.take_succ_eq_append_getElem hlt,List.mem_append,List.mem_singleton]at hx;rcases hx with hx|hx
   ·exact hn x hx
   ·rw[hx];exact hpk
 ·have e1:k=xs.length:=by omega
  subst e1;simp only[go_sem,Nat.lt_irrefl];rw[List.take_length]at hn;have:¬xs.findIdx p<xs.length:=by
   rw[Nat.not_lt,Nat.le_iff_lt_or_eq];right
   exact(List.findIdx_eq_length.2 (fun x hx=>by simp [hn x hx])).symm
  simp [WC,this]
theorem EO {g:Nat}{caps:List AV}{p:PV→Bool}{xs:List PV}(hp:fE g caps p xs h)(hs:ZB (some 4) xs)(hl:xs.length≤1000000000) :
 kA X DD [.p (.sl (some 4) xs),.fn g caps] h K=K (AB (xs.any p)) h []:=by
 refine IA ?_;rw[z2z];have vi:=fun K=>ZZ (h:=h) (K:=K) (wZ hs) hp hl
 simp only[wQ,go_sem,vi,aX]
theorem zbk {v:AV}{g:Nat}{caps:List AV}{p:PV→Bool}{xs:List PV}(hv:Shows (some 3) v xs h)(hp:fE g caps p xs h)(hl:xs.length≤1000000000) :
 kA X uK [v,.fn g caps] h K=K (AI (WC p xs)) h []:=by
 refine IA ?_;rw[zev];have vl:=hv.len
 simp only[BQ,go_sem,vl];refine VA (fun k:Nat=>⟨[(0,v),(1,.fn g caps),(7,AI xs.length),(8,AI k)],h,[]⟩) (fun k=>k≤xs.length∧∀x∈xs.take k,p x=false) (fun k=>xs.length-k) 0 rfl (by simp) ?_
 rintro k ⟨hk,hn⟩
 rcases Nat.lt_or_ge k xs.length with hlt|hge
 ·obtain⟨a,ha,hb⟩:=hv.get k hlt
  have w2:IntKind.i64.wrap ((k:Int)+1)=((k+1:Nat):Int):=CA _ (by omega) (by omega)
  have ht:=hp _ (List.getElem_mem hlt)
  cases hpk:p xs[k]with
  | true=>
   have hf:xs.findIdx p=k:=by
    rw[List.findIdx_eq hlt];refine⟨hpk,fun j hj=>?_⟩
    have:=hn xs[j] (by rw[List.mem_take_iff_getElem];exact⟨j,by omega,rfl⟩)
    simpa using this
   simp only[go_sem,hlt,ha,hb,ht,hpk,w2];simp only[WC,hf,hlt,if_true]
  | false=>
   simp only[go_sem,hlt,ha,hb,ht,hpk,w2];refine⟨k+1,rfl,⟨by omega,fun x hx=>?_⟩,by omega⟩
   rw[List.take_succ_eq_append_getElem hlt,List.mem_append,List.mem_singleton]at hx;rcases hx with hx|hx
   ·exact hn x hx
   ·rw[hx];exact hpk
 ·have e1:k=xs.length:=by omega
  subst e1;simp only[go_sem,Nat.lt_irrefl];rw[List.take_length]at hn;have:¬xs.findIdx p<xs.length:=by
   rw[Nat.not_lt,Nat.le_iff_lt_or_eq];right
   exact(List.findIdx_eq_length.2 (fun x hx=>by simp [hn x hx])).symm
  simp [WC,this]
theorem z90 {g:Nat}{caps:List AV}{p:PV→Bool}{xs:List PV}(hp:fE g caps p xs h)(hs:ZB (some 3) xs)(hl:xs.length≤1000000000) :
 kA X rK [.p (.sl (some 3) xs),.fn g caps] h K=K (AB (xs.any p)) h []:=by
 refine IA ?_;rw[zen];have vi:=fun K=>zbk (h:=h) (K:=K) (wZ hs) hp hl
 simp only[kW,go_sem,vi,aX]
theorem zbj {v:AV}{g:Nat}{caps:List AV}{p:PV→Bool}{xs:List PV}(hv:Shows (some 2) v xs h)(hp:fE g caps p xs h)(hl:xs.length≤1000000000) :
 kA X tK [v,.fn g caps] h K=K (AI (WC p xs)) h []:=by
 refine IA ?_;rw[zeu];have vl:=hv.len
 simp only[AQ,go_sem,vl];refine VA (fun k:Nat=>⟨[(0,v),(1,.fn g caps),(7,AI xs.length),(8,AI k)],h,[]⟩) (fun k=>k≤xs.length∧∀x∈xs.take k,p x=false) (fun k=>xs.length-k) 0 rfl (by simp) ?_
 rintro k ⟨hk,hn⟩
 rcases Nat.lt_or_ge k xs.length with hlt|hge
 ·obtain⟨a,ha,hb⟩:=hv.get k hlt
  have w2:IntKind.i64.wrap ((k:Int)+1)=((k+1:Nat):Int):=CA _ (by omega) (by omega)
  have ht:=hp _ (List.getElem_mem hlt)
  cases hpk:p xs[k]with
  | true=>
   have hf:xs.findIdx p=k:=by
    rw[List.findIdx_eq hlt];refine⟨hpk,fun j hj=>?_⟩
    have:=hn xs[j] (by rw[List.mem_take_iff_getElem];exact⟨j,by omega,rfl⟩)
    simpa using this
   simp only[go_sem,hlt,ha,hb,ht,hpk,w2];simp only[WC,hf,hlt,if_true]
  | false=>
   simp only[go_sem,hlt,ha,hb,ht,hpk,w2];refine⟨k+1,rfl,⟨by omega,fun x hx=>?_⟩,by omega⟩
   rw[List.take_succ_eq_append_getElem hlt,List.mem_append,List.mem_singleton]at hx;rcases hx with hx|hx
   ·exact hn x hx
   ·rw[hx];exact hpk
 ·have e1:k=xs.length:=by omega
  subst e1;simp only[go_sem,Nat.lt_irrefl];rw[List.take_length]at hn;have:¬xs.findIdx p<xs.length:=by
   rw[Nat.not_lt,Nat.le_iff_lt_or_eq];right
   exact(List.findIdx_eq_length.2 (fun x hx=>by simp [hn x hx])).symm
  simp [WC,this]
end Go.Am
end
section
/- A board's cells: what is wrong with some,both ways. -/
open Go
set_option linter.all false
namespace Go.Am
variable {h:bA} {K:nA}
abbrev qC (l:List Cel):AV:=.p (.sl (some 4) (l.map Cel.pv))
def Cel.bx (c:Cel):Obj:=.box [AI c.kind,AS c.pin,AI c.ctl,AI c.off]
def Prt.bx (p:Prt):Obj:=.box [AS p.key,qC p.cells]
def aE:PV→Cel
 | .agg [.int _ a,.str b,.int _ c,.int _ d]=>⟨a,b,c,d⟩
 | _=>⟨0,[],0,0⟩
theorem BO (c:Cel):aE c.pv=c:=rfl
theorem AM {l:List Cel}:ZB (some 4) (l.map Cel.pv):=fun x hx=>by obtain⟨e,_,rfl⟩:=List.mem_map.1 hx;rfl
theorem z8W (P:Cel→Bool)(seen:List Cel)(c:Cel)(r:List Cel):twC P seen (c::r)=if(P c&&seen.any (XC c))=true then true else twC P (seen++[c]) r:=rfl
theorem zoc (c d:Cel)(id:Nat)(hc:h[id]?=some c.bx):kA X tH [.p d.pv,.ref id 0] h K=K (AB (XC c d)) h []:=by
 refine IA ?_;rw[zdp rfl];have hl:=JB hc
 have hc2:∀t,(h++t)[id]?=some c.bx:=fun t=>by rw[List.getElem?_append_left hl];exact hc
 unfold Cel.bx at hc hc2;unfold XC;by_cases h1:d.kind=c.kind
 ·have h1p:=eq_true h1
  simp only[MP,Cel.pv,eI,go_sem,hc,hc2,h1p]
 ·simp only[MP,Cel.pv,eI,go_sem,hc,hc2,h1]
attribute [-go_sem] CW KM
theorem zod {K:Ex→St→Prop}(p:Prt)(hl:p.cells.length≤100000)(b:List (Nat × AV))(b1:aA b 1 = .ref h.length 0)
 (f6:twC dC [] p.cells=true→∀H,K .ret ⟨[(2,AI 6)],h++H,[]⟩) (f0:twC dC [] p.cells=false→∀H,K .ret ⟨[(2,AI 0)],h++H,[]⟩) :
 NW (kA X) X.gl JN ⟨b,h++[p.bx],[]⟩ K:=by
 rw[CW];have ln:(p.cells.map Cel.pv).length=p.cells.length:=List.length_map ..
 unfold Prt.bx;simp only[KM,b1,go_sem,ln];refine VA (fun k:Nat=>⟨[(1,.ref h.length 0),(27,qC p.cells),(28,AI p.cells.length),(29,AI k)],h++[p.bx],[]⟩) (fun k=>k≤p.cells.length∧twC dC (p.cells.take k) (p.cells.drop k)=twC dC [] p.cells) (fun k=>p.cells.length-k) 0 rfl ⟨by omega,rfl⟩ ?_
 rintro k ⟨hk,hp⟩
 unfold Prt.bx;rcases Nat.lt_or_ge k p.cells.length with hlt|hge
 ·have g:=XA Cel.pv hlt
  have c1:LA (some 4) 0 p.cells[k].pv=some p.cells[k].pv:=rfl
  have w2:IntKind.i64.wrap ((k:Int)+1)=((k+1:Nat):Int):=CA _ (by omega) (by omega)
  rw[List.drop_eq_getElem_cons hlt,z8W]at hp;have tk:p.cells.take (k+1)=p.cells.take k++[p.cells[k]]:=List.take_succ_eq_append_getElem hlt
  rw[←tk]at hp;have hw:win (p.cells.map Cel.pv) 0 k=(p.cells.take k).map Cel.pv:=by simp [win,List.map_take]
  have hkl:k≤p.cells.length:=hk
  generalize hcc:p.cells[k]=c at *;have HP:=fun h K=>lZ (h:=h) (K:=K) c
  simp only[Cel.pv,eI]at HP;have tells:∀o:Obj,fE tH [.ref (h.length+1) 0] (fun y=>XC c (aE y)) ((p.cells.take k).map Cel.pv) (h++[o,c.bx]):=fun o y hy K=>by
   obtain⟨d,_,rfl⟩:=List.mem_map.1 hy;dsimp only;rw[BO];exact zoc c d (h.length+1) (by simp)
  have CF:=fun(o:Obj) K=>EO (h:=h++[o,c.bx]) (K:=K) (tells o) AM (by simp;omega)
  have ea:((p.cells.take k).map Cel.pv).any (fun y=>XC c (aE y))=(p.cells.take k).any (XC c):=by rw[List.any_map];rfl
  simp only[ea]at CF;unfold Cel.bx at CF;simp only[Cel.pv,eI]at g c1;cases hq:dC c with
  | false=>
   rw[hq]at hp;rw[hq]at HP;simp only[go_sem,hlt,g,c1,w2,↓HP,HP];exact⟨k+1,rfl,⟨by omega,hp⟩,by omega⟩
  | true=>
   rw[hq]at hp;rw[hq]at HP;cases ha:(p.cells.take k).any (XC c) with
   | true=>
    rw[ha]at hp CF;simp only[go_sem,hlt,g,c1,w2,↓HP,HP,ln,hkl,hw,↓CF,CF];exact f6 hp.symm _
   | false=>
    rw[ha]at hp CF;simp only[go_sem,hlt,g,c1,w2,↓HP,HP,ln,hkl,hw,↓CF,CF];exact⟨k+1,rfl,⟨by omega,hp⟩,by omega⟩
 ·have e:k=p.cells.length:=by omega
  subst e;rw[List.drop_length,List.take_length]at hp;simp only[go_sem,Nat.lt_irrefl];exact f0 hp.symm _
theorem zob (p:Prt)(hc:∀ c∈p.cells,c.pin.length≤1000000)(hl:p.cells.length≤100000):kA X pI [.p p.pv] h K=K (AI (nD p.cells)) h []:=by
 refine IA ?_;rw[zdo rfl];have ln:(p.cells.map Cel.pv).length=p.cells.length:=List.length_map ..
 rw[nD];by_cases h2:(200:Int)<p.cells.length
 ·rw[if_pos h2]
  simp only[JM,Prt.pv,go_sem,ln,h2]
 rw[if_neg h2];simp only[JM,Prt.pv,go_sem,ln,h2];refine VA (fun k:Nat=>⟨[(1,.ref h.length 0),(13,qC p.cells),(14,AI p.cells.length),(15,AI k)],h++[p.bx],[]⟩) (fun k=>k≤p.cells.length∧pD (tC p.cells) (p.cells.drop k)=pD (tC p.cells) p.cells) (fun k=>p.cells.length-k) 0 rfl ⟨by omega,rfl⟩ ?_
 rintro k ⟨hk,hp⟩
 unfold Prt.bx;rcases Nat.lt_or_ge k p.cells.length with hlt|hge
 ·have g:=XA Cel.pv hlt
  have c1:LA (some 4) 0 p.cells[k].pv=some p.cells[k].pv:=rfl
  have w2:IntKind.i64.wrap ((k:Int)+1)=((k+1:Nat):Int):=CA _ (by omega) (by omega)
  rw[List.drop_eq_getElem_cons hlt,pD]at hp;have hcl:=hc _ (List.getElem_mem hlt)
  generalize hcc:p.cells[k]=c at *;have CE:=fun h K=>znX (h:=h) (K:=K) p c hcl hl
  simp only[Prt.pv,Cel.pv,eI]at CE g c1;by_cases hz:tC p.cells c=0
  ·rw[if_neg (by simp [hz])]at hp
   rw[hz]at CE;simp only[go_sem,hlt,g,c1,w2,↓CE,CE];exact⟨k+1,rfl,⟨by omega,hp⟩,by omega⟩
  ·rw[if_pos hz]at hp
   rw[if_pos (by rw[←hp];exact hz),←hp]
   have e12:jA .neq (.p (.int .i64 (tC p.cells c))) (.p (.int .i64 0))=some (AB true):=by simp only[go_sem,hz]
   simp only[go_sem,hlt,g,c1,w2,↓CE,CE,↓e12]
 ·have e:k=p.cells.length:=by omega
  subst e;rw[List.drop_length]at hp;rw[if_neg (by rw[←hp];simp [pD])]
  simp only[go_sem,Nat.lt_irrefl];refine zod p hl _ rfl (fun ht H=>?_) (fun ht H=>?_)
  ·rw[ht];simp only[go_sem]
  ·rw[ht];simp only[go_sem]
theorem zow (c d:Cel)(id:Nat)(hc:h[id]?=some c.bx):kA X CI [.p d.pv,.ref id 0] h K=K (AB (XC c d)) h []:=by
 refine IA ?_;rw[zeh rfl];have hl:=JB hc
 have hc2:∀t,(h++t)[id]?=some c.bx:=fun t=>by rw[List.getElem?_append_left hl];exact hc
 unfold Cel.bx at hc hc2;unfold XC;by_cases h1:d.kind=c.kind
 ·have h1p:=eq_true h1
  simp only[sQ,Cel.pv,eI,go_sem,hc,hc2,h1p]
 ·simp only[sQ,Cel.pv,eI,go_sem,hc,hc2,h1]
attribute [-go_sem] IW XM
theorem zox {K:Ex→St→Prop}(p:Prt)(hl:p.cells.length≤100000)(b:List (Nat × AV))(b1:aA b 1 = .ref h.length 0)
 (f6:twC ED [] p.cells=true→∀H,K .ret ⟨[(2,AI 6)],h++H,[]⟩) (f0:twC ED [] p.cells=false→∀H,K .ret ⟨[(2,AI 0)],h++H,[]⟩) :
 NW (kA X) X.gl YN ⟨b,h++[p.bx],[]⟩ K:=by
 rw[IW];have ln:(p.cells.map Cel.pv).length=p.cells.length:=List.length_map ..
 unfold Prt.bx;simp only[XM,b1,go_sem,ln];refine VA (fun k:Nat=>⟨[(1,.ref h.length 0),(28,qC p.cells),(29,AI p.cells.length),(30,AI k)],h++[p.bx],[]⟩) (fun k=>k≤p.cells.length∧twC ED (p.cells.take k) (p.cells.drop k)=twC ED [] p.cells) (fun k=>p.cells.length-k) 0 rfl ⟨by omega,rfl⟩ ?_
 rintro k ⟨hk,hp⟩
 unfold Prt.bx;rcases Nat.lt_or_ge k p.cells.length with hlt|hge
 ·have g:=XA Cel.pv hlt
  have c1:LA (some 4) 0 p.cells[k].pv=some p.cells[k].pv:=rfl
  have w2:IntKind.i64.wrap ((k:Int)+1)=((k+1:Nat):Int):=CA _ (by omega) (by omega)
  rw[List.drop_eq_getElem_cons hlt,z8W]at hp;have tk:p.cells.take (k+1)=p.cells.take k++[p.cells[k]]:=List.take_succ_eq_append_getElem hlt
  rw[←tk]at hp;have hw:win (p.cells.map Cel.pv) 0 k=(p.cells.take k).map Cel.pv:=by simp [win,List.map_take]
  have hkl:k≤p.cells.length:=hk
  generalize hcc:p.cells[k]=c at *;have tells:∀o:Obj,fE CI [.ref (h.length+1) 0] (fun y=>XC c (aE y)) ((p.cells.take k).map Cel.pv) (h++[o,c.bx]):=fun o y hy K=>by
   obtain⟨d,_,rfl⟩:=List.mem_map.1 hy;dsimp only;rw[BO];exact zow c d (h.length+1) (by simp)
  have CF:=fun(o:Obj) K=>EO (h:=h++[o,c.bx]) (K:=K) (tells o) AM (by simp;omega)
  have ea:((p.cells.take k).map Cel.pv).any (fun y=>XC c (aE y))=(p.cells.take k).any (XC c):=by rw[List.any_map];rfl
  simp only[ea]at CF;unfold Cel.bx at CF;simp only[Cel.pv,eI]at g c1;cases hq:ED c with
  | false=>
   rw[hq]at hp;have he:decide (c.pin=[])=true:=by unfold ED at hq;simpa using hq
   simp only[go_sem,hlt,g,c1,w2,he];exact⟨k+1,rfl,⟨by omega,hp⟩,by omega⟩
  | true=>
   rw[hq]at hp;have he:decide (c.pin=[])=false:=by unfold ED at hq;simpa using hq
   cases ha:(p.cells.take k).any (XC c) with
   | true=>
    rw[ha]at hp CF;simp only[go_sem,hlt,g,c1,w2,he,ln,hkl,hw,↓CF,CF];exact f6 hp.symm _
   | false=>
    rw[ha]at hp CF;simp only[go_sem,hlt,g,c1,w2,he,ln,hkl,hw,↓CF,CF];exact⟨k+1,rfl,⟨by omega,hp⟩,by omega⟩
 ·have e:k=p.cells.length:=by omega
  subst e;rw[List.drop_length,List.take_length]at hp;simp only[go_sem,Nat.lt_irrefl];exact f0 hp.symm _
theorem zov (p:Prt)(hc:∀ c∈p.cells,c.pin.length≤1000000)(hl:p.cells.length≤100000):kA X oK [.p p.pv] h K=K (AI (nD p.cells)) h []:=by
 refine IA ?_;rw[zeg rfl];have ln:(p.cells.map Cel.pv).length=p.cells.length:=List.length_map ..
 rw[zeF];by_cases h2:(200:Int)<p.cells.length
 ·rw[if_pos h2]
  simp only[WM,Prt.pv,go_sem,ln,h2]
 rw[if_neg h2];simp only[WM,Prt.pv,go_sem,ln,h2];refine VA (fun k:Nat=>⟨[(1,.ref h.length 0),(13,qC p.cells),(14,AI p.cells.length),(15,AI k)],h++[p.bx],[]⟩) (fun k=>k≤p.cells.length∧pD (tC p.cells) (p.cells.drop k)=pD (tC p.cells) p.cells) (fun k=>p.cells.length-k) 0 rfl ⟨by omega,rfl⟩ ?_
 rintro k ⟨hk,hp⟩
 unfold Prt.bx;rcases Nat.lt_or_ge k p.cells.length with hlt|hge
 ·have g:=XA Cel.pv hlt
  have c1:LA (some 4) 0 p.cells[k].pv=some p.cells[k].pv:=rfl
  have w2:IntKind.i64.wrap ((k:Int)+1)=((k+1:Nat):Int):=CA _ (by omega) (by omega)
  rw[List.drop_eq_getElem_cons hlt,pD]at hp;have hcl:=hc _ (List.getElem_mem hlt)
  generalize hcc:p.cells[k]=c at *;have CE:=fun h K=>znY (h:=h) (K:=K) p.cells c hcl hl
  simp only[Prt.pv,Cel.pv,eI]at CE g c1;by_cases hz:tC p.cells c=0
  ·rw[if_neg (by simp [hz])]at hp
   rw[hz]at CE;simp only[go_sem,hlt,g,c1,w2,↓CE,CE];exact⟨k+1,rfl,⟨by omega,hp⟩,by omega⟩
  ·rw[if_pos hz]at hp
   rw[if_pos (by rw[←hp];exact hz),←hp]
   have e12:jA .neq (.p (.int .i64 (tC p.cells c))) (.p (.int .i64 0))=some (AB true):=by simp only[go_sem,hz]
   simp only[go_sem,hlt,g,c1,w2,↓CE,CE,↓e12]
 ·have e:k=p.cells.length:=by omega
  subst e;rw[List.drop_length]at hp;rw[if_neg (by rw[←hp];simp [pD])]
  simp only[go_sem,Nat.lt_irrefl];refine zox p hl _ rfl (fun ht H=>?_) (fun ht H=>?_)
  ·rw[ht];simp only[go_sem]
  ·rw[ht];simp only[go_sem]
end Go.Am
end
