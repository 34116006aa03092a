/- Texts of the proof, laid together: CodesB, CodesC. -/
import Derived.KernelRfl
import Derived.Test.YtchkjlekjaclpaaGreatDoorlawTS4
set_option linter.all false
section
/- The functions asv abstract code,and asv formulas over their values: printed by program out of the translation. -/
set_option linter.unusedVariables false
set_option maxRecDepth 100000
namespace Go.Am
def NG:ACode:=.pr [1,15,16,17] (.seq (rg [bN 18 .lss 17 16] [1,15,16,17,18])
(.seq (.cond 18 .skip
(.exit 0))
(.seq (.block 1 (.seq (rg [mV 19 17,
iA 20 (some 2) 15 17,
lD 21 (some 2) 20,
uO 4 (.alloc [.p (.str []),.sl0 (some 4)]),
mV 3 19,
wO (.store (some 2) 4 21)] [1,3,4,15,16,17])
(.seq (.block 2 (.seq (rg [fA 23 0 none 4,
lD 24 none 23,
cL 25 bC [24],
uO 26 (.un .not 25),
mV 22 26] [1,3,4,15,16,17,22])
(.cond 22 (.seq (rg [mV 2 (cI 5)] [2])
.ret)
(.seq (dr [dF (mV 28 3) [3],
dF (bN 29 .gtr 28 (cI 0)) [28],
dF (mV 30 29) [29],
dF (gD 31 30 true (.faddr 0 none 4)) [4,30],
dF (gD 32 30 true (.load none 31)) [31,30],
dF (gD 33 30 true (.faddr 0 none 1)) [1,30],
dF (gD 34 30 true (.load none 33)) [33,30],
dF (gD 35 30 true (.mv 3)) [3,30],
dF (gD 36 30 true (.bin .sub 35 (cI 1))) [35,30],
dF (gD 37 30 true (.iaddr (some 2) 34 36)) [34,36,30],
dF (gD 38 30 true (.faddr 0 none 37)) [37,30],
dF (gD 39 30 true (.load none 38)) [38,30],
dF (gD 40 30 true (.bin .leq 32 39)) [32,39,30],
dF (uO 41 (.pick 30 40 cF)) [30,40],
dF (mV 27 41) [41]] [1,4,15,16,17,27])
(.cond 27 (.seq (rg [mV 2 (cI 7)] [2])
.ret)
.skip)))))
(.seq (rg [lD 42 (some 2) 4,
cL 43 jG [42],
mV 5 43] [1,5,15,16,17])
(.seq (rg [mV 44 5,
bN 45 .neq 44 (cI 0)] [1,5,15,16,17,45])
(.cond 45 (.seq (rg [mV 46 5,
mV 2 46] [2])
.ret)
.skip))))))
(rg [bN 47 .add 17 (cI 1),
mV 17 47] [1,15,16,17]))))
def aS (C:Hd)(gl:GL)(v1 v15 v16 v17:AV)(h:aA)(x:Esc)(K:KT):Prop:=
 pK (eA .lss v17 v16) fun t1=>
 mA t1 (pK (sA (some 2) v15 v17 h) fun t2=>
 pK (jA (some 2) t2 h) fun t3=>
 alK [.p (.str []),.sl0 (some 4)] h fun t4 h5 y6=>
 wK (XA (some 2) t4 t3 h5) fun t7 h8 y9=>
 pK (nA 0 none t4) fun t10=>
 pK (jA none t10 h8) fun t11=>
 C bC [t11] h8 fun t12 h13 y14=>
 pK (oUn .not t12) fun t15=>
 mA t15 (K .ret ⟨[(2,(AI 5))],h13,(y14++(y9++(y6++x)))⟩)
 (pK (eA .gtr v17 (AI 0)) fun t16=>
 gP t16 true (nA 0 none t4) h13 fun t17 h18 y19=>
 gP t16 true (jA none t17 h18) h18 fun t20 h21 y22=>
 gP t16 true (nA 0 none v1) h21 fun t23 h24 y25=>
 gP t16 true (jA none t23 h24) h24 fun t26 h27 y28=>
 gM t16 true v17 h27 fun t29 h30 y31=>
 gP t16 true (eA .sub t29 (AI 1)) h30 fun t32 h33 y34=>
 gP t16 true (sA (some 2) t26 t32 h33) h33 fun t35 h36 y37=>
 gP t16 true (nA 0 none t35) h36 fun t38 h39 y40=>
 gP t16 true (jA none t38 h39) h39 fun t41 h42 y43=>
 gP t16 true (eA .leq t20 t41) h42 fun t44 h45 y46=>
 pK (QA t16 t44 (AB false)) fun t47=>
 mA t47 (K .ret ⟨[(2,(AI 7))],h45,(y46++(y43++(y40++(y37++(y34++(y31++(y28++(y25++(y22++(y19++(y14++(y9++(y6++x)))))))))))))⟩)
 (pK (jA (some 2) t4 h45) fun t48=>
 C jG [t48] h45 fun t49 h50 y51=>
 pK (eA .neq t49 (AI 0)) fun t52=>
 mA t52 (K .ret ⟨[(2,t49)],h50,(y51++(y46++(y43++(y40++(y37++(y34++(y31++(y28++(y25++(y22++(y19++(y14++(y9++(y6++x))))))))))))))⟩)
 (pK (eA .add v17 (AI 1)) fun t53=>
 K .normal ⟨[(1,v1),(15,v15),(16,v16),(17,t53)],h50,(y51++(y46++(y43++(y40++(y37++(y34++(y31++(y28++(y25++(y22++(y19++(y14++(y9++(y6++x))))))))))))))⟩))))
 (K (.exit 0) ⟨[(1,v1),(15,v15),(16,v16),(17,v17),(18,t1)],h,x⟩)
theorem z52 {C gl e h x K}:NW C gl NG ⟨e,h,x⟩ K=aS C gl (bA e 1) (bA e 15) (bA e 16) (bA e 17) h x K:=by kernel_rfl
theorem z8L {C gl e h x K}:NW C gl (.loop (.scope NG)) ⟨e,h,x⟩ K=GA C gl (.scope NG) K [(1,bA e 1),(15,bA e 15),(16,bA e 16),(17,bA e 17)] h x:=LB
def mI:ACode:=.pr [1,7,59,60,61] (.seq (rg [bN 62 .lss 61 60] [1,7,59,60,61,62])
(.seq (.cond 62 .skip
(.exit 3))
(.seq (.block 4 (.seq (rg [mV 63 61,
iA 64 (some 2) 59 61,
lD 65 (some 2) 64,
uO 9 (.alloc [.p (.str []),.p (.int .i64 0)]),
mV 8 63,
wO (.store (some 2) 9 65)] [1,7,8,9,59,60,61])
(.block 5 (.seq (rg [mV 67 7,
fA 68 0 none 9,
lD 69 none 68,
cL 70 EE [67,69],
uO 71 (.un .not 70),
mV 66 71] [1,7,8,9,59,60,61,66])
(.cond 66 (.seq (rg [mV 2 (cI 8)] [2])
.ret)
(.seq (rg [fA 73 1 none 9,
lD 74 none 73,
cL 75 ZA [74,(cI 0),(cI 1)],
mV 72 75] [1,7,8,9,59,60,61,72])
(.cond 72 (.seq (rg [mV 2 (cI 1)] [2])
.ret)
(.seq (dr [dF (mV 77 8) [8],
dF (bN 78 .gtr 77 (cI 0)) [77],
dF (mV 79 78) [78],
dF (gD 80 79 true (.faddr 0 none 9)) [9,79],
dF (gD 81 79 true (.load none 80)) [80,79],
dF (gD 82 79 true (.faddr 2 none 1)) [1,79],
dF (gD 83 79 true (.load none 82)) [82,79],
dF (gD 84 79 true (.mv 8)) [8,79],
dF (gD 85 79 true (.bin .sub 84 (cI 1))) [84,79],
dF (gD 86 79 true (.iaddr (some 2) 83 85)) [83,85,79],
dF (gD 87 79 true (.faddr 0 none 86)) [86,79],
dF (gD 88 79 true (.load none 87)) [87,79],
dF (gD 89 79 true (.bin .leq 81 88)) [81,88,79],
dF (uO 90 (.pick 79 89 cF)) [79,89],
dF (mV 76 90) [90]] [1,7,59,60,61,76])
(.cond 76 (.seq (rg [mV 2 (cI 7)] [2])
.ret)
.skip)))))))))
(rg [bN 91 .add 61 (cI 1),
mV 61 91] [1,7,59,60,61]))))
def bS (C:Hd)(gl:GL)(v1 v7 v59 v60 v61:AV)(h:aA)(x:Esc)(K:KT):Prop:=
 pK (eA .lss v61 v60) fun t1=>
 mA t1 (pK (sA (some 2) v59 v61 h) fun t2=>
 pK (jA (some 2) t2 h) fun t3=>
 alK [.p (.str []),.p (.int .i64 0)] h fun t4 h5 y6=>
 wK (XA (some 2) t4 t3 h5) fun t7 h8 y9=>
 pK (nA 0 none t4) fun t10=>
 pK (jA none t10 h8) fun t11=>
 C EE [v7,t11] h8 fun t12 h13 y14=>
 pK (oUn .not t12) fun t15=>
 mA t15 (K .ret ⟨[(2,(AI 8))],h13,(y14++(y9++(y6++x)))⟩)
 (pK (nA 1 none t4) fun t16=>
 pK (jA none t16 h13) fun t17=>
 C ZA [t17,(AI 0),(AI 1)] h13 fun t18 h19 y20=>
 mA t18 (K .ret ⟨[(2,(AI 1))],h19,(y20++(y14++(y9++(y6++x))))⟩)
 (pK (eA .gtr v61 (AI 0)) fun t21=>
 gP t21 true (nA 0 none t4) h19 fun t22 h23 y24=>
 gP t21 true (jA none t22 h23) h23 fun t25 h26 y27=>
 gP t21 true (nA 2 none v1) h26 fun t28 h29 y30=>
 gP t21 true (jA none t28 h29) h29 fun t31 h32 y33=>
 gM t21 true v61 h32 fun t34 h35 y36=>
 gP t21 true (eA .sub t34 (AI 1)) h35 fun t37 h38 y39=>
 gP t21 true (sA (some 2) t31 t37 h38) h38 fun t40 h41 y42=>
 gP t21 true (nA 0 none t40) h41 fun t43 h44 y45=>
 gP t21 true (jA none t43 h44) h44 fun t46 h47 y48=>
 gP t21 true (eA .leq t25 t46) h47 fun t49 h50 y51=>
 pK (QA t21 t49 (AB false)) fun t52=>
 mA t52 (K .ret ⟨[(2,(AI 7))],h50,(y51++(y48++(y45++(y42++(y39++(y36++(y33++(y30++(y27++(y24++(y20++(y14++(y9++(y6++x))))))))))))))⟩)
 (pK (eA .add v61 (AI 1)) fun t53=>
 K .normal ⟨[(1,v1),(7,v7),(59,v59),(60,v60),(61,t53)],h50,(y51++(y48++(y45++(y42++(y39++(y36++(y33++(y30++(y27++(y24++(y20++(y14++(y9++(y6++x))))))))))))))⟩))))
 (K (.exit 3) ⟨[(1,v1),(7,v7),(59,v59),(60,v60),(61,v61),(62,t1)],h,x⟩)
theorem z53 {C gl e h x K}:NW C gl mI ⟨e,h,x⟩ K=bS C gl (bA e 1) (bA e 7) (bA e 59) (bA e 60) (bA e 61) h x K:=by kernel_rfl
theorem z8M {C gl e h x K}:NW C gl (.loop (.scope mI)) ⟨e,h,x⟩ K=GA C gl (.scope mI) K [(1,bA e 1),(7,bA e 7),(59,bA e 59),(60,bA e 60),(61,bA e 61)] h x:=LB
def tO:ACode:=.pr [] (.seq (rg [mV 2 (cI 0)] [2])
.ret)
def dS (C:Hd)(gl:GL)(h:aA)(x:Esc)(K:KT):Prop:=
 K .ret ⟨[(2,(AI 0))],h,x⟩
theorem z54 {C gl e h x K}:NW C gl tO ⟨e,h,x⟩ K=dS C gl h x K:=by kernel_rfl
def WP (q2 q3:ACode):ACode:=.pr [1] (.seq (.seq (rg [lD 48 (some 3) 1,
cL 49 lG [48],
mV 6 49] [1,6])
(.seq (rg [mV 50 6,
bN 51 .neq 50 (cI 0)] [1,6,51])
(.cond 51 (.seq (rg [mV 52 6,
mV 2 52] [2])
.ret)
.skip)))
(.seq (rg [lD 53 (some 3) 1,
cL 54 AD [53],
mV 7 54] [1,7])
(.seq (.seq (rg [mV 55 7,
lN 56 55,
bN 57 .gtr 56 (cI 100)] [1,7,57])
(.cond 57 (.seq (rg [mV 2 (cI 2)] [2])
.ret)
.skip))
(.seq (.seq (rg [fA 58 2 none 1,
lD 59 none 58,
lN 60 59,
mV 61 (cI 0)] [1,7,59,60,61])
(.block 3 (.loop (.scope q2))))
q3))))
def nI:ACode:=WP mI tO
def bG (C:Hd)(gl:GL)(q2 q3:ACode)(v1:AV)(h:aA)(x:Esc)(K:KT):Prop:=
 pK (jA (some 3) v1 h) fun t1=>
 C lG [t1] h fun t2 h3 y4=>
 pK (eA .neq t2 (AI 0)) fun t5=>
 mA t5 (K .ret ⟨[(2,t2)],h3,(y4++x)⟩)
 (pK (jA (some 3) v1 h3) fun t6=>
 C AD [t6] h3 fun t7 h8 y9=>
 pK (zA t7) fun t10=>
 pK (eA .gtr t10 (AI 100)) fun t11=>
 mA t11 (K .ret ⟨[(2,(AI 2))],h8,(y9++(y4++x))⟩)
 (pK (nA 2 none v1) fun t12=>
 pK (jA none t12 h8) fun t13=>
 pK (zA t13) fun t14=>
 NW C gl (.loop (.scope q2)) ⟨[(1,v1),(7,t7),(59,t13),(60,t14),(61,(AI 0))],h8,(y9++(y4++x))⟩ (CA 3 (FA C gl q3 K))))
theorem lZ {C gl q2 q3 e h x K}:NW C gl (WP q2 q3) ⟨e,h,x⟩ K=bG C gl q2 q3 (bA e 1) h x K:=by kernel_rfl
theorem yN {C gl e h x K}:NW C gl nI ⟨e,h,x⟩ K=bG C gl mI tO (bA e 1) h x K:=lZ
def VP (q1 q4:ACode):ACode:=(.seq (rg [uO 1 (.box 0),
mV 2 (cI 0)] [1])
(.seq (.seq (rg [fA 10 0 none 1,
lD 11 none 10,
lN 12 11,
bN 13 .gtr 12 (cI 40)] [1,13])
(.cond 13 (.seq (rg [mV 2 (cI 2)] [2])
.ret)
.skip))
(.seq (.seq (rg [fA 14 0 none 1,
lD 15 none 14,
lN 16 15,
mV 17 (cI 0)] [1,15,16,17])
(.block 0 (.loop (.scope q1))))
q4)))
def IL:AFun:=⟨1,[.t 2],VP NG nI,false,false⟩
def KH (C:Hd)(gl:GL)(q1 q4:ACode)(v0:AV)(h:aA)(x:Esc)(K:KT):Prop:=
 wK (iB v0 h) fun t1 h2 y3=>
 pK (nA 0 none t1) fun t4=>
 pK (jA none t4 h2) fun t5=>
 pK (zA t5) fun t6=>
 pK (eA .gtr t6 (AI 40)) fun t7=>
 mA t7 (K .ret ⟨[(2,(AI 2))],h2,(y3++x)⟩)
 (pK (nA 0 none t1) fun t8=>
 pK (jA none t8 h2) fun t9=>
 pK (zA t9) fun t10=>
 NW C gl (.loop (.scope q1)) ⟨[(1,t1),(15,t9),(16,t10),(17,(AI 0))],h2,(y3++x)⟩ (CA 0 (FA C gl q4 K)))
theorem kZ {C gl q1 q4 v0 h x K}:NW C gl (VP q1 q4) ⟨enter [v0],h,x⟩ K=KH C gl q1 q4 v0 h x K:=by kernel_rfl
theorem z51 {C gl v0 h x K}:NW C gl IL.body ⟨enter [v0],h,x⟩ K=KH C gl NG nI v0 h x K:=kZ
def z0k:ACode:=(.seq (rg [mV 2 cF] [0])
(.seq (rg [mV 3 0,
cL 4 jK [3,(cS [48,49])],
bN 5 .eql 4 (cS []),
mV 2 5] [2])
.ret))
def bJ:AFun:=⟨1,[.t 2],z0k,false,false⟩
def QR (C:Hd)(gl:GL)(v0:AV)(h:aA)(x:Esc)(K:KT):Prop:=
 C jK [v0,(.p (.str [48,49]))] h fun t1 h2 y3=>
 pK (eA .eql t1 (.p (.str []))) fun t4=>
 K .ret ⟨[(2,t4)],h2,(y3++x)⟩
theorem z5m {C gl v0 h x K}:NW C gl bJ.body ⟨enter [v0],h,x⟩ K=QR C gl v0 h x K:=by kernel_rfl
def vO:ACode:=.pr [1,5,6,7,8,17,18,19,25,26,27] (rg [bN 57 .add 27 (cI 1),
mV 27 57] [1,5,6,7,8,17,18,19,25,26,27])
def gS (C:Hd)(gl:GL)(v1 v5 v6 v7 v8 v17 v18 v19 v25 v26 v27:AV)(h:aA)(x:Esc)(K:KT):Prop:=
 pK (eA .add v27 (AI 1)) fun t1=>
 K .normal ⟨[(1,v1),(5,v5),(6,v6),(7,v7),(8,v8),(17,v17),(18,v18),(19,v19),(25,v25),(26,v26),(27,t1)],h,x⟩
theorem z5A {C gl e h x K}:NW C gl vO ⟨e,h,x⟩ K=gS C gl (bA e 1) (bA e 5) (bA e 6) (bA e 7) (bA e 8) (bA e 17) (bA e 18) (bA e 19) (bA e 25) (bA e 26) (bA e 27) h x K:=by kernel_rfl
def YP (q1:ACode):ACode:=.pr [1,5,6,7,8,17,18,19,25,26,27] (.seq (rg [bN 28 .lss 27 26] [1,5,6,7,8,17,18,19,25,26,27,28])
(.seq (.cond 28 .skip
(.exit 2))
(.seq (.block 3 (.seq (rg [mV 29 27,
iA 30 (some 4) 25 27,
lD 31 (some 4) 30,
uO 10 (.alloc [.p (.int .i64 0),.p (.str []),.p (.int .i64 0),.p (.int .i64 0)]),
mV 9 29,
wO (.store (some 4) 10 31)] [1,5,6,7,8,9,10,17,18,19,25,26,27])
(.seq (.seq (rg [fA 32 0 none 10,
lD 33 none 32,
mV 34 1,
bN 35 .neq 33 34] [1,5,6,7,8,9,10,17,18,19,25,26,27,35])
(.cond 35 (.exit 3)
.skip))
(.seq (rg [mV 37 5,
fA 38 0 none 8,
lD 39 none 38,
fA 40 1 none 10,
lD 41 none 40,
uO 42 (.build [.p (.str []),.p (.str [])] [(0,1,39),(1,1,41)]),
uO 43 (.look ((some 2),[2,2]) true (.p (.str [])) 37 42),
mV 36 43,
eX 44 36 0,
eX 45 36 1,
mV 11 44,
mV 12 45] [1,5,6,7,8,9,11,12,17,18,19,25,26,27])
(.seq (rg [mV 46 12] [1,5,6,7,8,9,11,17,18,19,25,26,27,46])
(.cond 46 (rg [mV 47 6,
mV 48 11,
mV 49 6,
mV 50 11,
uO 51 (.look (none,[2]) false (.sl0 (some 2)) 49 50),
mV 52 7,
mV 53 9,
uO 54 (.build [.p (.int .i64 0),.p (.int .i64 0)] [(0,1,52),(1,1,53)]),
uO 55 (.bsl false (some 2) 1 (.agg [.int .i64 0,.int .i64 0]) [(0,54)]),
uO 56 (.app (some 2) 51 55),
wO (.mupd (none,[2]) 47 48 56)] [1,5,6,7,8,17,18,19,25,26,27])
.skip))))))
q1)))
def oI:ACode:=YP vO
def JM (C:Hd)(gl:GL)(q1:ACode)(v1 v5 v6 v7 v8 v17 v18 v19 v25 v26 v27:AV)(h:aA)(x:Esc)(K:KT):Prop:=
 pK (eA .lss v27 v26) fun t1=>
 mA t1 (pK (sA (some 4) v25 v27 h) fun t2=>
 pK (jA (some 4) t2 h) fun t3=>
 alK [.p (.int .i64 0),.p (.str []),.p (.int .i64 0),.p (.int .i64 0)] h fun t4 h5 y6=>
 wK (XA (some 4) t4 t3 h5) fun t7 h8 y9=>
 pK (nA 0 none t4) fun t10=>
 pK (jA none t10 h8) fun t11=>
 pK (eA .neq t11 v1) fun t12=>
 mA t12 (NW C gl q1 ⟨[(1,v1),(5,v5),(6,v6),(7,v7),(8,v8),(9,v27),(10,t4),(17,v17),(18,v18),(19,v19),(25,v25),(26,v26),(27,v27),(35,t12)],h8,(y9++(y6++x))⟩ K)
 (pK (nA 0 none v8) fun t13=>
 pK (jA none t13 h8) fun t14=>
 pK (nA 1 none t4) fun t15=>
 pK (jA none t15 h8) fun t16=>
 pK (WA [.p (.str []),.p (.str [])] [(0,1,t14),(1,1,t16)]) fun t17=>
 pK (yB ((some 2),[2,2]) true (.p (.str [])) v5 t17 h8) fun t18=>
 pK (xB t18 0) fun t19=>
 pK (xB t18 1) fun t20=>
 mA t20 (pK (yB (none,[2]) false (.sl0 (some 2)) v6 t19 h8) fun t21=>
 pK (WA [.p (.int .i64 0),.p (.int .i64 0)] [(0,1,v7),(1,1,v27)]) fun t22=>
 wK (wB false (some 2) 1 (.agg [.int .i64 0,.int .i64 0]) [(0,t22)] h8) fun t23 h24 y25=>
 wK (HF (some 2) t21 t23 h24) fun t26 h27 y28=>
 wK (gC (none,[2]) v6 t19 t26 h27) fun t29 h30 y31=>
 NW C gl q1 ⟨[(1,v1),(5,v5),(6,v6),(7,v7),(8,v8),(17,v17),(18,v18),(19,v19),(25,v25),(26,v26),(27,v27)],h30,(y31++(y28++(y25++(y9++(y6++x)))))⟩ K)
 (NW C gl q1 ⟨[(1,v1),(5,v5),(6,v6),(7,v7),(8,v8),(9,v27),(11,t19),(17,v17),(18,v18),(19,v19),(25,v25),(26,v26),(27,v27),(46,t20)],h8,(y9++(y6++x))⟩ K)))
 (K (.exit 2) ⟨[(1,v1),(5,v5),(6,v6),(7,v7),(8,v8),(17,v17),(18,v18),(19,v19),(25,v25),(26,v26),(27,v27),(28,t1)],h,x⟩)
theorem nZ {C gl q1 e h x K}:NW C gl (YP q1) ⟨e,h,x⟩ K=JM C gl q1 (bA e 1) (bA e 5) (bA e 6) (bA e 7) (bA e 8) (bA e 17) (bA e 18) (bA e 19) (bA e 25) (bA e 26) (bA e 27) h x K:=by kernel_rfl
theorem z5B {C gl e h x K}:NW C gl oI ⟨e,h,x⟩ K=JM C gl vO (bA e 1) (bA e 5) (bA e 6) (bA e 7) (bA e 8) (bA e 17) (bA e 18) (bA e 19) (bA e 25) (bA e 26) (bA e 27) h x K:=nZ
theorem z8N {C gl e h x K}:NW C gl (.loop (.scope oI)) ⟨e,h,x⟩ K=GA C gl (.scope oI) K [(1,bA e 1),(5,bA e 5),(6,bA e 6),(7,bA e 7),(8,bA e 8),(17,bA e 17),(18,bA e 18),(19,bA e 19),(25,bA e 25),(26,bA e 26),(27,bA e 27)] h x:=LB
def xO:ACode:=.pr [1,5,6,17,18,19] (rg [bN 58 .add 19 (cI 1),
mV 19 58] [1,5,6,17,18,19])
def iS (C:Hd)(gl:GL)(v1 v5 v6 v17 v18 v19:AV)(h:aA)(x:Esc)(K:KT):Prop:=
 pK (eA .add v19 (AI 1)) fun t1=>
 K .normal ⟨[(1,v1),(5,v5),(6,v6),(17,v17),(18,v18),(19,t1)],h,x⟩
theorem z5C {C gl e h x K}:NW C gl xO ⟨e,h,x⟩ K=iS C gl (bA e 1) (bA e 5) (bA e 6) (bA e 17) (bA e 18) (bA e 19) h x K:=by kernel_rfl
def ZP (q2 q3:ACode):ACode:=.pr [1,5,6,17,18,19] (.seq (rg [bN 20 .lss 19 18] [1,5,6,17,18,19,20])
(.seq (.cond 20 .skip
(.exit 0))
(.seq (.block 1 (.seq (rg [mV 21 19,
iA 22 (some 2) 17 19,
lD 23 (some 2) 22,
uO 8 (.alloc [.p (.str []),.sl0 (some 4)]),
mV 7 21,
wO (.store (some 2) 8 23)] [1,5,6,7,8,17,18,19])
(.seq (rg [fA 24 1 none 8,
lD 25 none 24,
lN 26 25,
mV 27 (cI 0)] [1,5,6,7,8,17,18,19,25,26,27])
(.block 2 (.loop (.scope q2))))))
q3)))
def OG:ACode:=ZP oI xO
def KM (C:Hd)(gl:GL)(q2 q3:ACode)(v1 v5 v6 v17 v18 v19:AV)(h:aA)(x:Esc)(K:KT):Prop:=
 pK (eA .lss v19 v18) fun t1=>
 mA t1 (pK (sA (some 2) v17 v19 h) fun t2=>
 pK (jA (some 2) t2 h) fun t3=>
 alK [.p (.str []),.sl0 (some 4)] h fun t4 h5 y6=>
 wK (XA (some 2) t4 t3 h5) fun t7 h8 y9=>
 pK (nA 1 none t4) fun t10=>
 pK (jA none t10 h8) fun t11=>
 pK (zA t11) fun t12=>
 NW C gl (.loop (.scope q2)) ⟨[(1,v1),(5,v5),(6,v6),(7,v19),(8,t4),(17,v17),(18,v18),(19,v19),(25,t11),(26,t12),(27,(AI 0))],h8,(y9++(y6++x))⟩ (CA 2 (CA 1 (FA C gl q3 K))))
 (K (.exit 0) ⟨[(1,v1),(5,v5),(6,v6),(17,v17),(18,v18),(19,v19),(20,t1)],h,x⟩)
theorem oZ {C gl q2 q3 e h x K}:NW C gl (ZP q2 q3) ⟨e,h,x⟩ K=KM C gl q2 q3 (bA e 1) (bA e 5) (bA e 6) (bA e 17) (bA e 18) (bA e 19) h x K:=by kernel_rfl
theorem z5D {C gl e h x K}:NW C gl OG ⟨e,h,x⟩ K=KM C gl oI xO (bA e 1) (bA e 5) (bA e 6) (bA e 17) (bA e 18) (bA e 19) h x K:=oZ
theorem z8O {C gl e h x K}:NW C gl (.loop (.scope OG)) ⟨e,h,x⟩ K=GA C gl (.scope OG) K [(1,bA e 1),(5,bA e 5),(6,bA e 6),(17,bA e 17),(18,bA e 18),(19,bA e 19)] h x:=LB
def FK:ACode:=.pr [6] (.seq (rg [mV 59 6,
mV 4 59] [4])
.ret)
def jS (C:Hd)(gl:GL)(v6:AV)(h:aA)(x:Esc)(K:KT):Prop:=
 K .ret ⟨[(4,v6)],h,x⟩
theorem z5E {C gl e h x K}:NW C gl FK ⟨e,h,x⟩ K=jS C gl (bA e 6) h x K:=by kernel_rfl
def XP (q4 q5:ACode):ACode:=(.seq (rg [uO 2 (.box 0),
mV 4 (.c (.nilm))] [1,2])
(.seq (rg [lD 13 (some 3) 2,
cL 14 sF [13],
mV 5 14] [1,2,5])
(.seq (rg [uO 15 (.mkmap),
mV 6 15] [1,2,5,6])
(.seq (.seq (rg [fA 16 0 none 2,
lD 17 none 16,
lN 18 17,
mV 19 (cI 0)] [1,5,6,17,18,19])
(.block 0 (.loop (.scope q4))))
q5))))
def NL:AFun:=⟨2,[.t 4],XP OG FK,false,false⟩
def IM (C:Hd)(gl:GL)(q4 q5:ACode)(v0 v1:AV)(h:aA)(x:Esc)(K:KT):Prop:=
 wK (iB v0 h) fun t1 h2 y3=>
 pK (jA (some 3) t1 h2) fun t4=>
 C sF [t4] h2 fun t5 h6 y7=>
 mmK h6 fun t8 h9 y10=>
 pK (nA 0 none t1) fun t11=>
 pK (jA none t11 h9) fun t12=>
 pK (zA t12) fun t13=>
 NW C gl (.loop (.scope q4)) ⟨[(1,v1),(5,t5),(6,t8),(17,t12),(18,t13),(19,(AI 0))],h9,(y10++(y7++(y3++x)))⟩ (CA 0 (FA C gl q5 K))
theorem mZ {C gl q4 q5 v0 v1 h x K}:NW C gl (XP q4 q5) ⟨enter [v0,v1],h,x⟩ K=IM C gl q4 q5 v0 v1 h x K:=by kernel_rfl
theorem z59 {C gl v0 v1 h x K}:NW C gl NL.body ⟨enter [v0,v1],h,x⟩ K=IM C gl OG FK v0 v1 h x K:=mZ
def YG:ACode:=.pr [0,14,15,16] (.seq (rg [bN 17 .lss 16 15] [0,14,15,16,17])
(.seq (.cond 17 .skip
(.exit 0))
(.seq (.block 1 (.seq (rg [iA 18 (some 2) 14 16,
lD 19 (some 2) 18,
uO 7 (.alloc [.p (.int .i64 0),.sl0 none]),
wO (.store (some 2) 7 19)] [0,7,14,15,16])
(.seq (rg [mV 20 0,
lN 21 20,
lD 22 (some 2) 7,
cL 23 nG [21,22],
mV 8 23] [0,8,14,15,16])
(.seq (rg [mV 24 8,
bN 25 .neq 24 (cI 0)] [0,8,14,15,16,25])
(.cond 25 (.seq (rg [mV 26 8,
mV 4 26] [4])
.ret)
.skip)))))
(rg [bN 27 .add 16 (cI 1),
mV 16 27] [0,14,15,16]))))
def LS (C:Hd)(gl:GL)(v0 v14 v15 v16:AV)(h:aA)(x:Esc)(K:KT):Prop:=
 pK (eA .lss v16 v15) fun t1=>
 mA t1 (pK (sA (some 2) v14 v16 h) fun t2=>
 pK (jA (some 2) t2 h) fun t3=>
 alK [.p (.int .i64 0),.sl0 none] h fun t4 h5 y6=>
 wK (XA (some 2) t4 t3 h5) fun t7 h8 y9=>
 pK (zA v0) fun t10=>
 pK (jA (some 2) t4 h8) fun t11=>
 C nG [t10,t11] h8 fun t12 h13 y14=>
 pK (eA .neq t12 (AI 0)) fun t15=>
 mA t15 (K .ret ⟨[(4,t12)],h13,(y14++(y9++(y6++x)))⟩)
 (pK (eA .add v16 (AI 1)) fun t16=>
 K .normal ⟨[(0,v0),(14,v14),(15,v15),(16,t16)],h13,(y14++(y9++(y6++x)))⟩))
 (K (.exit 0) ⟨[(0,v0),(14,v14),(15,v15),(16,v16),(17,t1)],h,x⟩)
theorem z60 {C gl e h x K}:NW C gl YG ⟨e,h,x⟩ K=LS C gl (bA e 0) (bA e 14) (bA e 15) (bA e 16) h x K:=by kernel_rfl
theorem z9e {C gl e h x K}:NW C gl (.loop (.scope YG)) ⟨e,h,x⟩ K=GA C gl (.scope YG) K [(0,bA e 0),(14,bA e 14),(15,bA e 15),(16,bA e 16)] h x:=LB
def NK:ACode:=.pr [] (.seq (rg [mV 4 (cI 0)] [4])
.ret)
def MS (C:Hd)(gl:GL)(h:aA)(x:Esc)(K:KT):Prop:=
 K .ret ⟨[(4,(AI 0))],h,x⟩
theorem z61 {C gl e h x K}:NW C gl NK ⟨e,h,x⟩ K=MS C gl h x K:=by kernel_rfl
def sQ (q1 q2:ACode):ACode:=(.seq (rg [mV 4 (cI 0)] [0,1])
(.seq (.seq (rg [mV 9 0,
cL 10 oG [9],
mV 5 10] [0,1,5])
(.seq (rg [mV 11 5,
bN 12 .neq 11 (cI 0)] [0,1,5,12])
(.cond 12 (.seq (rg [mV 13 5,
mV 4 13] [4])
.ret)
.skip)))
(.seq (.seq (rg [mV 14 1,
lN 15 14,
mV 16 (cI 0)] [0,14,15,16])
(.block 0 (.loop (.scope q1))))
q2)))
def jJ:AFun:=⟨2,[.t 4],sQ YG NK,false,false⟩
def XM (C:Hd)(gl:GL)(q1 q2:ACode)(v0 v1:AV)(h:aA)(x:Esc)(K:KT):Prop:=
 C oG [v0] h fun t1 h2 y3=>
 pK (eA .neq t1 (AI 0)) fun t4=>
 mA t4 (K .ret ⟨[(4,t1)],h2,(y3++x)⟩)
 (pK (zA v1) fun t5=>
 NW C gl (.loop (.scope q1)) ⟨[(0,v0),(14,v1),(15,t5),(16,(AI 0))],h2,(y3++x)⟩ (CA 0 (FA C gl q2 K)))
theorem GZ {C gl q1 q2 v0 v1 h x K}:NW C gl (sQ q1 q2) ⟨enter [v0,v1],h,x⟩ K=XM C gl q1 q2 v0 v1 h x K:=by kernel_rfl
theorem z6z {C gl v0 v1 h x K}:NW C gl jJ.body ⟨enter [v0,v1],h,x⟩ K=XM C gl YG NK v0 v1 h x K:=GZ
def xI:ACode:=.pr [3,5,6,8,9,10,15,16] (.seq (rg [bN 17 .lss 16 15] [3,5,6,8,9,10,15,16,17])
(.seq (.cond 17 .skip
(.exit 2))
(.seq (.block 3 (.seq (rg [mV 18 16,
mV 7 18] [3,5,6,7,8,9,10,15,16])
(rg [mV 19 6,
mV 20 5,
mV 21 7,
uO 22 (.idxs 20 21),
bN 23 .sub 22 (.c (.p (.int .u8 48))),
uO 24 (.conv (.i .u64) 23),
mV 25 7,
bN 26 .shl 24 25,
bN 27 .or 19 26,
mV 6 27] [3,5,6,8,9,10,15,16])))
(rg [bN 28 .add 16 (cI 1),
mV 16 28] [3,5,6,8,9,10,15,16]))))
def OS (C:Hd)(gl:GL)(v3 v5 v6 v8 v9 v10 v15 v16:AV)(h:aA)(x:Esc)(K:KT):Prop:=
 pK (eA .lss v16 v15) fun t1=>
 mA t1 (pK (FD v5 v16) fun t2=>
 pK (eA .sub t2 (.p (.int .u8 48))) fun t3=>
 pK (ED .u64 t3) fun t4=>
 pK (eA .shl t4 v16) fun t5=>
 pK (eA .or v6 t5) fun t6=>
 pK (eA .add v16 (AI 1)) fun t7=>
 K .normal ⟨[(3,v3),(5,v5),(6,t6),(8,v8),(9,v9),(10,v10),(15,v15),(16,t7)],h,x⟩)
 (K (.exit 2) ⟨[(3,v3),(5,v5),(6,v6),(8,v8),(9,v9),(10,v10),(15,v15),(16,v16),(17,t1)],h,x⟩)
theorem z64 {C gl e h x K}:NW C gl xI ⟨e,h,x⟩ K=OS C gl (bA e 3) (bA e 5) (bA e 6) (bA e 8) (bA e 9) (bA e 10) (bA e 15) (bA e 16) h x K:=by kernel_rfl
theorem z9f {C gl e h x K}:NW C gl (.loop xI) ⟨e,h,x⟩ K=GA C gl xI K [(3,bA e 3),(5,bA e 5),(6,bA e 6),(8,bA e 8),(9,bA e 9),(10,bA e 10),(15,bA e 15),(16,bA e 16)] h x:=uB
def HO:ACode:=.pr [3,6,8,9,10] (rg [mV 29 3,
mV 30 6,
uO 31 (.bsl false none 1 (.int .u64 0) [(0,30)]),
uO 32 (.app none 29 31),
mV 3 32] [3,8,9,10])
def PS (C:Hd)(gl:GL)(v3 v6 v8 v9 v10:AV)(h:aA)(x:Esc)(K:KT):Prop:=
 wK (wB false none 1 (.int .u64 0) [(0,v6)] h) fun t1 h2 y3=>
 wK (HF none v3 t1 h2) fun t4 h5 y6=>
 K .normal ⟨[(3,t4),(8,v8),(9,v9),(10,v10)],h5,(y6++(y3++x))⟩
theorem z65 {C gl e h x K}:NW C gl HO ⟨e,h,x⟩ K=PS C gl (bA e 3) (bA e 6) (bA e 8) (bA e 9) (bA e 10) h x K:=by kernel_rfl
def JO:ACode:=.pr [3,8,9,10] (rg [bN 33 .add 10 (cI 1),
mV 10 33] [3,8,9,10])
def QS (C:Hd)(gl:GL)(v3 v8 v9 v10:AV)(h:aA)(x:Esc)(K:KT):Prop:=
 pK (eA .add v10 (AI 1)) fun t1=>
 K .normal ⟨[(3,v3),(8,v8),(9,v9),(10,t1)],h,x⟩
theorem z66 {C gl e h x K}:NW C gl JO ⟨e,h,x⟩ K=QS C gl (bA e 3) (bA e 8) (bA e 9) (bA e 10) h x K:=by kernel_rfl
def uQ (q1 q2 q3:ACode):ACode:=.pr [3,8,9,10] (.seq (rg [bN 11 .lss 10 9] [3,8,9,10,11])
(.seq (.cond 11 .skip
(.exit 0))
(.seq (.block 1 (.seq (rg [iA 12 none 8 10,
lD 13 none 12,
mV 5 13] [3,5,8,9,10])
(.seq (rg [mV 6 (.c (.p (.int .u64 0)))] [3,5,6,8,9,10])
(.seq (.seq (rg [mV 14 5,
uO 15 (.lens 14),
mV 16 (cI 0)] [3,5,6,8,9,10,15,16])
(.block 2 (.loop q1)))
q2))))
q3)))
def ZG:ACode:=uQ xI HO JO
def ZM (C:Hd)(gl:GL)(q1 q2 q3:ACode)(v3 v8 v9 v10:AV)(h:aA)(x:Esc)(K:KT):Prop:=
 pK (eA .lss v10 v9) fun t1=>
 mA t1 (pK (sA none v8 v10 h) fun t2=>
 pK (jA none t2 h) fun t3=>
 pK (XC t3) fun t4=>
 NW C gl (.loop q1) ⟨[(3,v3),(5,t3),(6,(.p (.int .u64 0))),(8,v8),(9,v9),(10,v10),(15,t4),(16,(AI 0))],h,x⟩ (CA 2 (FA C gl q2 (CA 1 (FA C gl q3 K)))))
 (K (.exit 0) ⟨[(3,v3),(8,v8),(9,v9),(10,v10),(11,t1)],h,x⟩)
theorem JZ {C gl q1 q2 q3 e h x K}:NW C gl (uQ q1 q2 q3) ⟨e,h,x⟩ K=ZM C gl q1 q2 q3 (bA e 3) (bA e 8) (bA e 9) (bA e 10) h x K:=by kernel_rfl
theorem z67 {C gl e h x K}:NW C gl ZG ⟨e,h,x⟩ K=ZM C gl xI HO JO (bA e 3) (bA e 8) (bA e 9) (bA e 10) h x K:=JZ
theorem z9g {C gl e h x K}:NW C gl (.loop (.scope ZG)) ⟨e,h,x⟩ K=GA C gl (.scope ZG) K [(3,bA e 3),(8,bA e 8),(9,bA e 9),(10,bA e 10)] h x:=LB
def OK:ACode:=.pr [3] (.seq (rg [mV 34 3,
mV 2 34] [2])
.ret)
def RS (C:Hd)(gl:GL)(v3:AV)(h:aA)(x:Esc)(K:KT):Prop:=
 K .ret ⟨[(2,v3)],h,x⟩
theorem z68 {C gl e h x K}:NW C gl OK ⟨e,h,x⟩ K=RS C gl (bA e 3) h x K:=by kernel_rfl
def tQ (q4 q5:ACode):ACode:=(.seq (rg [mV 2 (.c (.p (.sl none [])))] [0])
(.seq (rg [uO 3 (.new0 none)] [0,3])
(.seq (.seq (rg [mV 8 0,
lN 9 8,
mV 10 (cI 0)] [3,8,9,10])
(.block 0 (.loop (.scope q4))))
q5)))
def lJ:AFun:=⟨1,[.t 2],tQ ZG OK,false,true⟩
def YM (C:Hd)(gl:GL)(q4 q5:ACode)(v0:AV)(h:aA)(x:Esc)(K:KT):Prop:=
 nwK none h fun t1 h2 y3=>
 pK (zA v0) fun t4=>
 NW C gl (.loop (.scope q4)) ⟨[(3,t1),(8,v0),(9,t4),(10,(AI 0))],h2,(y3++x)⟩ (CA 0 (FA C gl q5 K))
theorem IZ {C gl q4 q5 v0 h x K}:NW C gl (tQ q4 q5) ⟨enter [v0],h,x⟩ K=YM C gl q4 q5 v0 h x K:=by kernel_rfl
theorem z63 {C gl v0 h x K}:NW C gl lJ.body ⟨enter [v0],h,x⟩ K=YM C gl ZG OK v0 h x K:=IZ
def zI:ACode:=.pr [0,4,6,31,32,33] (.seq (rg [bN 34 .lss 33 32] [0,4,6,31,32,33,34])
(.seq (.cond 34 .skip
(.exit 1))
(.seq (.block 2 (.seq (rg [iA 35 none 31 33,
lD 36 none 35,
mV 8 36] [0,4,6,8,31,32,33])
(rg [mV 37 6,
mV 38 0,
mV 39 8,
iA 40 none 38 39,
lD 41 none 40,
bN 42 .and 37 41,
mV 6 42] [0,4,6,31,32,33])))
(rg [bN 43 .add 33 (cI 1),
mV 33 43] [0,4,6,31,32,33]))))
def XS (C:Hd)(gl:GL)(v0 v4 v6 v31 v32 v33:AV)(h:aA)(x:Esc)(K:KT):Prop:=
 pK (eA .lss v33 v32) fun t1=>
 mA t1 (pK (sA none v31 v33 h) fun t2=>
 pK (jA none t2 h) fun t3=>
 pK (sA none v0 t3 h) fun t4=>
 pK (jA none t4 h) fun t5=>
 pK (eA .and v6 t5) fun t6=>
 pK (eA .add v33 (AI 1)) fun t7=>
 K .normal ⟨[(0,v0),(4,v4),(6,t6),(31,v31),(32,v32),(33,t7)],h,x⟩)
 (K (.exit 1) ⟨[(0,v0),(4,v4),(6,v6),(31,v31),(32,v32),(33,v33),(34,t1)],h,x⟩)
theorem z6H {C gl e h x K}:NW C gl zI ⟨e,h,x⟩ K=XS C gl (bA e 0) (bA e 4) (bA e 6) (bA e 31) (bA e 32) (bA e 33) h x K:=by kernel_rfl
theorem z9j {C gl e h x K}:NW C gl (.loop zI) ⟨e,h,x⟩ K=GA C gl zI K [(0,bA e 0),(4,bA e 4),(6,bA e 6),(31,bA e 31),(32,bA e 32),(33,bA e 33)] h x:=uB
def BI:ACode:=.pr [0,4,6,47,48,49] (.seq (rg [bN 50 .lss 49 48] [0,4,6,47,48,49,50])
(.seq (.cond 50 .skip
(.exit 3))
(.seq (.block 4 (.seq (rg [iA 51 none 47 49,
lD 52 none 51,
mV 10 52] [0,4,6,10,47,48,49])
(rg [mV 53 6,
mV 54 0,
mV 55 10,
iA 56 none 54 55,
lD 57 none 56,
bN 58 .or 53 57,
mV 6 58] [0,4,6,47,48,49])))
(rg [bN 59 .add 49 (cI 1),
mV 49 59] [0,4,6,47,48,49]))))
def YS (C:Hd)(gl:GL)(v0 v4 v6 v47 v48 v49:AV)(h:aA)(x:Esc)(K:KT):Prop:=
 pK (eA .lss v49 v48) fun t1=>
 mA t1 (pK (sA none v47 v49 h) fun t2=>
 pK (jA none t2 h) fun t3=>
 pK (sA none v0 t3 h) fun t4=>
 pK (jA none t4 h) fun t5=>
 pK (eA .or v6 t5) fun t6=>
 pK (eA .add v49 (AI 1)) fun t7=>
 K .normal ⟨[(0,v0),(4,v4),(6,t6),(47,v47),(48,v48),(49,t7)],h,x⟩)
 (K (.exit 3) ⟨[(0,v0),(4,v4),(6,v6),(47,v47),(48,v48),(49,v49),(50,t1)],h,x⟩)
theorem z6I {C gl e h x K}:NW C gl BI ⟨e,h,x⟩ K=YS C gl (bA e 0) (bA e 4) (bA e 6) (bA e 47) (bA e 48) (bA e 49) h x K:=by kernel_rfl
theorem z9k {C gl e h x K}:NW C gl (.loop BI) ⟨e,h,x⟩ K=GA C gl BI K [(0,bA e 0),(4,bA e 4),(6,bA e 6),(47,bA e 47),(48,bA e 48),(49,bA e 49)] h x:=uB
def yQ (q1 q2:ACode):ACode:=.pr [0,2,4,6,21,24] (.cond 24 (rg [mV 27 2,
mV 6 27] [0,4,6])
(.seq (rg [bN 29 .eql 21 (cI 3),
mV 28 29] [0,4,6,21,28])
(.cond 28 (.seq (rg [fA 30 1 none 4,
lD 31 none 30,
lN 32 31,
mV 33 (cI 0)] [0,4,6,31,32,33])
(.block 1 (.loop q1)))
(.seq (rg [bN 45 .eql 21 (cI 4),
mV 44 45] [0,4,6,44])
(.cond 44 (.seq (rg [fA 46 1 none 4,
lD 47 none 46,
lN 48 47,
mV 49 (cI 0)] [0,4,6,47,48,49])
(.block 3 (.loop q2)))
.skip)))))
def QK:ACode:=yQ zI BI
def eN (C:Hd)(gl:GL)(q1 q2:ACode)(v0 v2 v4 v6 v21 v24:AV)(h:aA)(x:Esc)(K:KT):Prop:=
 mA v24 (K .normal ⟨[(0,v0),(4,v4),(6,v2)],h,x⟩)
 (pK (eA .eql v21 (AI 3)) fun t1=>
 mA t1 (pK (nA 1 none v4) fun t2=>
 pK (jA none t2 h) fun t3=>
 pK (zA t3) fun t4=>
 NW C gl (.loop q1) ⟨[(0,v0),(4,v4),(6,v6),(31,t3),(32,t4),(33,(AI 0))],h,x⟩ (CA 1 K))
 (pK (eA .eql v21 (AI 4)) fun t5=>
 mA t5 (pK (nA 1 none v4) fun t6=>
 pK (jA none t6 h) fun t7=>
 pK (zA t7) fun t8=>
 NW C gl (.loop q2) ⟨[(0,v0),(4,v4),(6,v6),(47,t7),(48,t8),(49,(AI 0))],h,x⟩ (CA 3 K))
 (K .normal ⟨[(0,v0),(4,v4),(6,v6),(44,t5)],h,x⟩)))
theorem NZ {C gl q1 q2 e h x K}:NW C gl (yQ q1 q2) ⟨e,h,x⟩ K=eN C gl q1 q2 (bA e 0) (bA e 2) (bA e 4) (bA e 6) (bA e 21) (bA e 24) h x K:=by kernel_rfl
theorem z6J {C gl e h x K}:NW C gl QK ⟨e,h,x⟩ K=eN C gl zI BI (bA e 0) (bA e 2) (bA e 4) (bA e 6) (bA e 21) (bA e 24) h x K:=NZ
def CI:ACode:=.pr [0,6,61,62,63] (.seq (rg [bN 64 .lss 63 62] [0,6,61,62,63,64])
(.seq (.cond 64 .skip
(.exit 5))
(.seq (.block 6 (.seq (rg [iA 65 none 61 63,
lD 66 none 65,
mV 12 66] [0,6,12,61,62,63])
(rg [mV 67 0,
mV 68 12,
mV 69 6,
iA 70 none 67 68,
wO (.store none 70 69)] [0,6,61,62,63])))
(rg [bN 71 .add 63 (cI 1),
mV 63 71] [0,6,61,62,63]))))
def ZS (C:Hd)(gl:GL)(v0 v6 v61 v62 v63:AV)(h:aA)(x:Esc)(K:KT):Prop:=
 pK (eA .lss v63 v62) fun t1=>
 mA t1 (pK (sA none v61 v63 h) fun t2=>
 pK (jA none t2 h) fun t3=>
 pK (sA none v0 t3 h) fun t4=>
 wK (XA none t4 v6 h) fun t5 h6 y7=>
 pK (eA .add v63 (AI 1)) fun t8=>
 K .normal ⟨[(0,v0),(6,v6),(61,v61),(62,v62),(63,t8)],h6,(y7++x)⟩)
 (K (.exit 5) ⟨[(0,v0),(6,v6),(61,v61),(62,v62),(63,v63),(64,t1)],h,x⟩)
theorem z6K {C gl e h x K}:NW C gl CI ⟨e,h,x⟩ K=ZS C gl (bA e 0) (bA e 6) (bA e 61) (bA e 62) (bA e 63) h x K:=by kernel_rfl
theorem z9l {C gl e h x K}:NW C gl (.loop CI) ⟨e,h,x⟩ K=GA C gl CI K [(0,bA e 0),(6,bA e 6),(61,bA e 61),(62,bA e 62),(63,bA e 63)] h x:=uB
def zQ (q4:ACode):ACode:=.pr [0,4,6] (.seq (rg [fA 60 1 none 4,
lD 61 none 60,
lN 62 61,
mV 63 (cI 0)] [0,6,61,62,63])
(.block 5 (.loop q4)))
def RK:ACode:=zQ CI
def fN (C:Hd)(gl:GL)(q4:ACode)(v0 v4 v6:AV)(h:aA)(x:Esc)(K:KT):Prop:=
 pK (nA 1 none v4) fun t1=>
 pK (jA none t1 h) fun t2=>
 pK (zA t2) fun t3=>
 NW C gl (.loop q4) ⟨[(0,v0),(6,v6),(61,t2),(62,t3),(63,(AI 0))],h,x⟩ (CA 5 K)
theorem OZ {C gl q4 e h x K}:NW C gl (zQ q4) ⟨e,h,x⟩ K=fN C gl q4 (bA e 0) (bA e 4) (bA e 6) h x K:=by kernel_rfl
theorem z6L {C gl e h x K}:NW C gl RK ⟨e,h,x⟩ K=fN C gl CI (bA e 0) (bA e 4) (bA e 6) h x K:=OZ
def xQ (q3 q5:ACode):ACode:=(.seq (rg [uO 4 (.box 1)] [0,2,4])
(.seq (rg [mV 13 0,
fA 14 1 none 4,
lD 15 none 14,
iA 16 none 15 (cI 0),
lD 17 none 16,
iA 18 none 13 17,
lD 19 none 18,
mV 6 19] [0,2,4,6])
(.seq (.seq (rg [fA 20 0 none 4,
lD 21 none 20] [0,2,4,6,21])
(.block 0 (.seq (rg [bN 23 .eql 21 (cI 1),
mV 22 23] [0,2,4,6,21,22])
(.cond 22 (rg [mV 6 (.c (.p (.int .u64 0)))] [0,4,6])
(.seq (.seq (rg [bN 25 .eql 21 (cI 2),
mV 24 25] [0,2,4,6,21,24])
(.cond 24 .skip
(rg [bN 26 .eql 21 (cI 6),
mV 24 26] [0,2,4,6,21,24])))
q3)))))
q5)))
def oJ:AFun:=⟨3,[],xQ QK RK,true,false⟩
def dN (C:Hd)(gl:GL)(q3 q5:ACode)(v0 v1 v2:AV)(h:aA)(x:Esc)(K:KT):Prop:=
 wK (iB v1 h) fun t1 h2 y3=>
 pK (nA 1 none t1) fun t4=>
 pK (jA none t4 h2) fun t5=>
 pK (sA none t5 (AI 0) h2) fun t6=>
 pK (jA none t6 h2) fun t7=>
 pK (sA none v0 t7 h2) fun t8=>
 pK (jA none t8 h2) fun t9=>
 pK (nA 0 none t1) fun t10=>
 pK (jA none t10 h2) fun t11=>
 pK (eA .eql t11 (AI 1)) fun t12=>
 mA t12 (NW C gl q5 ⟨[(0,v0),(4,t1),(6,(.p (.int .u64 0)))],h2,(y3++x)⟩ K)
 (pK (eA .eql t11 (AI 2)) fun t13=>
 mA t13 (NW C gl q3 ⟨[(0,v0),(2,v2),(4,t1),(6,t9),(21,t11),(24,t13)],h2,(y3++x)⟩ (CA 0 (FA C gl q5 K)))
 (pK (eA .eql t11 (AI 6)) fun t14=>
 NW C gl q3 ⟨[(0,v0),(2,v2),(4,t1),(6,t9),(21,t11),(24,t14)],h2,(y3++x)⟩ (CA 0 (FA C gl q5 K))))
theorem MZ {C gl q3 q5 v0 v1 v2 h x K}:NW C gl (xQ q3 q5) ⟨enter [v0,v1,v2],h,x⟩ K=dN C gl q3 q5 v0 v1 v2 h x K:=by kernel_rfl
theorem z6G {C gl v0 v1 v2 h x K}:NW C gl oJ.body ⟨enter [v0,v1,v2],h,x⟩ K=dN C gl QK RK v0 v1 v2 h x K:=MZ
def z04:ACode:=(.seq (rg [mV 2 (.c (.p (.int .u64 0)))] [0])
(.seq (rg [mV 3 0,
bN 4 .shl (.c (.p (.int .u64 1))) 3,
bN 5 .sub 4 (.c (.p (.int .u64 1))),
mV 2 5] [2])
.ret))
def nJ:AFun:=⟨1,[.t 2],z04,false,false⟩
def WS (C:Hd)(gl:GL)(v0:AV)(h:aA)(x:Esc)(K:KT):Prop:=
 pK (eA .shl (.p (.int .u64 1)) v0) fun t1=>
 pK (eA .sub t1 (.p (.int .u64 1))) fun t2=>
 K .ret ⟨[(2,t2)],h,x⟩
theorem z6F {C gl v0 h x K}:NW C gl nJ.body ⟨enter [v0],h,x⟩ K=WS C gl v0 h x K:=by kernel_rfl
def yI:ACode:=.pr [1,5,7,8,10,11,12,19,20] (.seq (rg [bN 21 .lss 20 19] [1,5,7,8,10,11,12,19,20,21])
(.seq (.cond 21 .skip
(.exit 2))
(.seq (.block 3 (.seq (rg [mV 22 20,
mV 9 22] [1,5,7,8,9,10,11,12,19,20])
(rg [mV 23 8,
mV 24 9,
mV 25 7,
mV 26 9,
bN 27 .shr 25 26,
bN 28 .and 27 (.c (.p (.int .u64 1))),
bN 29 .add (.c (.p (.int .u64 48))) 28,
uO 30 (.conv (.i .u8) 29),
iA 31 none 23 24,
wO (.store none 31 30)] [1,5,7,8,10,11,12,19,20])))
(rg [bN 32 .add 20 (cI 1),
mV 20 32] [1,5,7,8,10,11,12,19,20]))))
def SS (C:Hd)(gl:GL)(v1 v5 v7 v8 v10 v11 v12 v19 v20:AV)(h:aA)(x:Esc)(K:KT):Prop:=
 pK (eA .lss v20 v19) fun t1=>
 mA t1 (pK (eA .shr v7 v20) fun t2=>
 pK (eA .and t2 (.p (.int .u64 1))) fun t3=>
 pK (eA .add (.p (.int .u64 48)) t3) fun t4=>
 pK (ED .u8 t4) fun t5=>
 pK (sA none v8 v20 h) fun t6=>
 wK (XA none t6 t5 h) fun t7 h8 y9=>
 pK (eA .add v20 (AI 1)) fun t10=>
 K .normal ⟨[(1,v1),(5,v5),(7,v7),(8,v8),(10,v10),(11,v11),(12,v12),(19,v19),(20,t10)],h8,(y9++x)⟩)
 (K (.exit 2) ⟨[(1,v1),(5,v5),(7,v7),(8,v8),(10,v10),(11,v11),(12,v12),(19,v19),(20,v20),(21,t1)],h,x⟩)
theorem z6A {C gl e h x K}:NW C gl yI ⟨e,h,x⟩ K=SS C gl (bA e 1) (bA e 5) (bA e 7) (bA e 8) (bA e 10) (bA e 11) (bA e 12) (bA e 19) (bA e 20) h x K:=by kernel_rfl
theorem z9h {C gl e h x K}:NW C gl (.loop yI) ⟨e,h,x⟩ K=GA C gl yI K [(1,bA e 1),(5,bA e 5),(7,bA e 7),(8,bA e 8),(10,bA e 10),(11,bA e 11),(12,bA e 12),(19,bA e 19),(20,bA e 20)] h x:=uB
def KO:ACode:=.pr [1,5,8,10,11,12] (rg [mV 33 5,
mV 34 8,
uO 35 (.conv .b2s 34),
uO 36 (.bsl false none 1 (.str []) [(0,35)]),
uO 37 (.app none 33 36),
mV 5 37] [1,5,10,11,12])
def TS (C:Hd)(gl:GL)(v1 v5 v8 v10 v11 v12:AV)(h:aA)(x:Esc)(K:KT):Prop:=
 wK (jE .b2s v8 h) fun t1 h2 y3=>
 wK (wB false none 1 (.str []) [(0,t1)] h2) fun t4 h5 y6=>
 wK (HF none v5 t4 h5) fun t7 h8 y9=>
 K .normal ⟨[(1,v1),(5,t7),(10,v10),(11,v11),(12,v12)],h8,(y9++(y6++(y3++x)))⟩
theorem z6B {C gl e h x K}:NW C gl KO ⟨e,h,x⟩ K=TS C gl (bA e 1) (bA e 5) (bA e 8) (bA e 10) (bA e 11) (bA e 12) h x K:=by kernel_rfl
def LO:ACode:=.pr [1,5,10,11,12] (rg [bN 38 .add 12 (cI 1),
mV 12 38] [1,5,10,11,12])
def US (C:Hd)(gl:GL)(v1 v5 v10 v11 v12:AV)(h:aA)(x:Esc)(K:KT):Prop:=
 pK (eA .add v12 (AI 1)) fun t1=>
 K .normal ⟨[(1,v1),(5,v5),(10,v10),(11,v11),(12,t1)],h,x⟩
theorem z6C {C gl e h x K}:NW C gl LO ⟨e,h,x⟩ K=US C gl (bA e 1) (bA e 5) (bA e 10) (bA e 11) (bA e 12) h x K:=by kernel_rfl
def wQ (q1 q2 q3:ACode):ACode:=.pr [1,5,10,11,12] (.seq (rg [bN 13 .lss 12 11] [1,5,10,11,12,13])
(.seq (.cond 13 .skip
(.exit 0))
(.seq (.block 1 (.seq (rg [iA 14 none 10 12,
lD 15 none 14,
mV 7 15] [1,5,7,10,11,12])
(.seq (rg [mV 16 1,
uO 17 (.mksl none (.int .u8 0) 16 16),
mV 8 17] [1,5,7,8,10,11,12])
(.seq (.seq (rg [mV 18 8,
lN 19 18,
mV 20 (cI 0)] [1,5,7,8,10,11,12,19,20])
(.block 2 (.loop q1)))
q2))))
q3)))
def aH:ACode:=wQ yI KO LO
def cN (C:Hd)(gl:GL)(q1 q2 q3:ACode)(v1 v5 v10 v11 v12:AV)(h:aA)(x:Esc)(K:KT):Prop:=
 pK (eA .lss v12 v11) fun t1=>
 mA t1 (pK (sA none v10 v12 h) fun t2=>
 pK (jA none t2 h) fun t3=>
 wK (lO none (.int .u8 0) v1 v1 h) fun t4 h5 y6=>
 pK (zA t4) fun t7=>
 NW C gl (.loop q1) ⟨[(1,v1),(5,v5),(7,t3),(8,t4),(10,v10),(11,v11),(12,v12),(19,t7),(20,(AI 0))],h5,(y6++x)⟩ (CA 2 (FA C gl q2 (CA 1 (FA C gl q3 K)))))
 (K (.exit 0) ⟨[(1,v1),(5,v5),(10,v10),(11,v11),(12,v12),(13,t1)],h,x⟩)
theorem LZ {C gl q1 q2 q3 e h x K}:NW C gl (wQ q1 q2 q3) ⟨e,h,x⟩ K=cN C gl q1 q2 q3 (bA e 1) (bA e 5) (bA e 10) (bA e 11) (bA e 12) h x K:=by kernel_rfl
theorem z6D {C gl e h x K}:NW C gl aH ⟨e,h,x⟩ K=cN C gl yI KO LO (bA e 1) (bA e 5) (bA e 10) (bA e 11) (bA e 12) h x K:=LZ
theorem z9i {C gl e h x K}:NW C gl (.loop (.scope aH)) ⟨e,h,x⟩ K=GA C gl (.scope aH) K [(1,bA e 1),(5,bA e 5),(10,bA e 10),(11,bA e 11),(12,bA e 12)] h x:=LB
def PK:ACode:=.pr [5] (.seq (rg [mV 39 5,
mV 4 39] [4])
.ret)
def VS (C:Hd)(gl:GL)(v5:AV)(h:aA)(x:Esc)(K:KT):Prop:=
 K .ret ⟨[(4,v5)],h,x⟩
theorem z6E {C gl e h x K}:NW C gl PK ⟨e,h,x⟩ K=VS C gl (bA e 5) h x K:=by kernel_rfl
def vQ (q4 q5:ACode):ACode:=(.seq (rg [mV 4 (.c (.p (.sl none [])))] [0,1])
(.seq (rg [uO 5 (.new0 none)] [0,1,5])
(.seq (.seq (rg [mV 10 0,
lN 11 10,
mV 12 (cI 0)] [1,5,10,11,12])
(.block 0 (.loop (.scope q4))))
q5)))
def mJ:AFun:=⟨2,[.t 4],vQ aH PK,false,false⟩
def aN (C:Hd)(gl:GL)(q4 q5:ACode)(v0 v1:AV)(h:aA)(x:Esc)(K:KT):Prop:=
 nwK none h fun t1 h2 y3=>
 pK (zA v0) fun t4=>
 NW C gl (.loop (.scope q4)) ⟨[(1,v1),(5,t1),(10,v0),(11,t4),(12,(AI 0))],h2,(y3++x)⟩ (CA 0 (FA C gl q5 K))
theorem KZ {C gl q4 q5 v0 v1 h x K}:NW C gl (vQ q4 q5) ⟨enter [v0,v1],h,x⟩ K=aN C gl q4 q5 v0 v1 h x K:=by kernel_rfl
theorem z69 {C gl v0 v1 h x K}:NW C gl mJ.body ⟨enter [v0,v1],h,x⟩ K=aN C gl aH PK v0 v1 h x K:=KZ
def fH:ACode:=.pr [0,1,7,8] (.seq (rg [bN 9 .lss 8 7] [0,1,7,8,9])
(.seq (.cond 9 .skip
(.exit 0))
(.seq (.block 1 (.seq (rg [mV 10 8,
mV 5 10] [0,1,5,7,8])
(.seq (rg [mV 11 1,
mV 12 0,
mV 13 5,
iA 14 none 12 13,
lD 15 none 14,
uO 16 (.callv 11 [15])] [0,1,5,7,8,16])
(.cond 16 (.seq (rg [mV 17 5,
mV 4 17] [4])
.ret)
.skip))))
(rg [bN 18 .add 8 (cI 1),
mV 8 18] [0,1,7,8]))))
def pT (C:Hd)(gl:GL)(v0 v1 v7 v8:AV)(h:aA)(x:Esc)(K:KT):Prop:=
 pK (eA .lss v8 v7) fun t1=>
 mA t1 (pK (sA none v0 v8 h) fun t2=>
 pK (jA none t2 h) fun t3=>
 pC C v1 [t3] h fun t4 h5 y6=>
 mA t4 (K .ret ⟨[(4,v8)],h5,(y6++x)⟩)
 (pK (eA .add v8 (AI 1)) fun t7=>
 K .normal ⟨[(0,v0),(1,v1),(7,v7),(8,t7)],h5,(y6++x)⟩))
 (K (.exit 0) ⟨[(0,v0),(1,v1),(7,v7),(8,v8),(9,t1)],h,x⟩)
theorem z7o {C gl e h x K}:NW C gl fH ⟨e,h,x⟩ K=pT C gl (bA e 0) (bA e 1) (bA e 7) (bA e 8) h x K:=by kernel_rfl
theorem z9r {C gl e h x K}:NW C gl (.loop fH) ⟨e,h,x⟩ K=GA C gl fH K [(0,bA e 0),(1,bA e 1),(7,bA e 7),(8,bA e 8)] h x:=uB
def XK:ACode:=.pr [] (.seq (rg [mV 4 (cI (-1))] [4])
.ret)
def qT (C:Hd)(gl:GL)(h:aA)(x:Esc)(K:KT):Prop:=
 K .ret ⟨[(4,(AI (-1)))],h,x⟩
theorem z7p {C gl e h x K}:NW C gl XK ⟨e,h,x⟩ K=qT C gl h x K:=by kernel_rfl
def IQ (q1 q2:ACode):ACode:=(.seq (rg [mV 4 (cI 0)] [0,1])
(.seq (.seq (rg [mV 6 0,
lN 7 6,
mV 8 (cI 0)] [0,1,7,8])
(.block 0 (.loop q1)))
q2))
def lM:AFun:=⟨2,[.t 4],IQ fH XK,true,false⟩
def sN (C:Hd)(gl:GL)(q1 q2:ACode)(v0 v1:AV)(h:aA)(x:Esc)(K:KT):Prop:=
 pK (zA v0) fun t1=>
 NW C gl (.loop q1) ⟨[(0,v0),(1,v1),(7,t1),(8,(AI 0))],h,x⟩ (CA 0 (FA C gl q2 K))
theorem XZ {C gl q1 q2 v0 v1 h x K}:NW C gl (IQ q1 q2) ⟨enter [v0,v1],h,x⟩ K=sN C gl q1 q2 v0 v1 h x K:=by kernel_rfl
theorem z7n {C gl v0 v1 h x K}:NW C gl lM.body ⟨enter [v0,v1],h,x⟩ K=sN C gl fH XK v0 v1 h x K:=XZ
def MO:ACode:=.pr [0,3,4,5] (rg [mV 33 5,
bN 34 .add 33 (cI 1),
mV 5 34] [0,3,4,5])
def fT (C:Hd)(gl:GL)(v0 v3 v4 v5:AV)(h:aA)(x:Esc)(K:KT):Prop:=
 pK (eA .add v5 (AI 1)) fun t1=>
 K .normal ⟨[(0,v0),(3,v3),(4,v4),(5,t1)],h,x⟩
theorem z6X {C gl e h x K}:NW C gl MO ⟨e,h,x⟩ K=fT C gl (bA e 0) (bA e 3) (bA e 4) (bA e 5) h x K:=by kernel_rfl
def DQ (q1:ACode):ACode:=.pr [0,3,4,5] (.seq (.seq (rg [mV 29 5,
mV 30 4,
lN 31 30,
bN 32 .lss 29 31] [0,3,4,5,32])
(.cond 32 .skip
(.exit 2)))
(.seq (.block 3 (.seq (dr [dF (mV 35 4) [4],
dF (mV 36 5) [5],
dF (iA 37 none 35 36) [35,36],
dF (lD 38 none 37) [37],
dF (mV 39 4) [4],
dF (mV 40 5) [5],
dF (bN 41 .sub 40 (cI 1)) [40],
dF (iA 42 none 39 41) [39,41],
dF (lD 43 none 42) [42],
dF (bN 44 .neq 38 43) [38,43]] [0,3,4,5,44])
(.cond 44 (.seq (rg [mV 45 0,
mV 46 3,
mV 47 4,
mV 48 5,
iA 49 none 47 48,
lD 50 none 49,
iA 51 none 45 46,
wO (.store none 51 50)] [0,3,4,5])
(rg [mV 52 3,
bN 53 .add 52 (cI 1),
mV 3 53] [0,3,4,5]))
.skip)))
q1))
def DI:ACode:=DQ MO
def mN (C:Hd)(gl:GL)(q1:ACode)(v0 v3 v4 v5:AV)(h:aA)(x:Esc)(K:KT):Prop:=
 pK (zA v4) fun t1=>
 pK (eA .lss v5 t1) fun t2=>
 mA t2 (pK (sA none v4 v5 h) fun t3=>
 pK (jA none t3 h) fun t4=>
 pK (eA .sub v5 (AI 1)) fun t5=>
 pK (sA none v4 t5 h) fun t6=>
 pK (jA none t6 h) fun t7=>
 pK (eA .neq t4 t7) fun t8=>
 mA t8 (pK (sA none v4 v5 h) fun t9=>
 pK (jA none t9 h) fun t10=>
 pK (sA none v0 v3 h) fun t11=>
 wK (XA none t11 t10 h) fun t12 h13 y14=>
 pK (eA .add v3 (AI 1)) fun t15=>
 NW C gl q1 ⟨[(0,v0),(3,t15),(4,v4),(5,v5)],h13,(y14++x)⟩ K)
 (NW C gl q1 ⟨[(0,v0),(3,v3),(4,v4),(5,v5),(44,t8)],h,x⟩ K))
 (K (.exit 2) ⟨[(0,v0),(3,v3),(4,v4),(5,v5),(32,t2)],h,x⟩)
theorem SZ {C gl q1 e h x K}:NW C gl (DQ q1) ⟨e,h,x⟩ K=mN C gl q1 (bA e 0) (bA e 3) (bA e 4) (bA e 5) h x K:=by kernel_rfl
theorem z6Y {C gl e h x K}:NW C gl DI ⟨e,h,x⟩ K=mN C gl MO (bA e 0) (bA e 3) (bA e 4) (bA e 5) h x K:=SZ
theorem z9n {C gl e h x K}:NW C gl (.loop DI) ⟨e,h,x⟩ K=GA C gl DI K [(0,bA e 0),(3,bA e 3),(4,bA e 4),(5,bA e 5)] h x:=uB
def NO:ACode:=.pr [0,3] (.seq (rg [mV 54 0,
mV 55 3,
uO 56 (.slice none 54 (some 55) none none),
wO (.clr none (.str []) 56)] [0,3])
(.seq (rg [mV 57 0,
mV 58 3,
uO 59 (.slice none 57 none (some 58) none),
mV 2 59] [2])
.ret))
def gT (C:Hd)(gl:GL)(v0 v3:AV)(h:aA)(x:Esc)(K:KT):Prop:=
 pK (YC none v0 (some v3) none none h) fun t1=>
 wK (oClr none (.str []) t1 h) fun t2 h3 y4=>
 pK (YC none v0 none (some v3) none h3) fun t5=>
 K .ret ⟨[(2,t5)],h3,(y4++x)⟩
theorem z6Z {C gl e h x K}:NW C gl NO ⟨e,h,x⟩ K=gT C gl (bA e 0) (bA e 3) h x K:=by kernel_rfl
def OO:ACode:=.pr [0,3] (rg [mV 14 3,
bN 15 .add 14 (cI 1),
mV 3 15] [0,3])
def iT (C:Hd)(gl:GL)(v0 v3:AV)(h:aA)(x:Esc)(K:KT):Prop:=
 pK (eA .add v3 (AI 1)) fun t1=>
 K .normal ⟨[(0,v0),(3,t1)],h,x⟩
theorem z7a {C gl e h x K}:NW C gl OO ⟨e,h,x⟩ K=iT C gl (bA e 0) (bA e 3) h x K:=by kernel_rfl
def EQ (q2 q3 q4:ACode):ACode:=.pr [0,3] (.seq (.seq (rg [mV 10 3,
mV 11 0,
lN 12 11,
bN 13 .lss 10 12] [0,3,13])
(.cond 13 .skip
(.exit 0)))
(.seq (.block 1 (.seq (dr [dF (mV 16 0) [0],
dF (mV 17 3) [3],
dF (iA 18 none 16 17) [16,17],
dF (lD 19 none 18) [18],
dF (mV 20 0) [0],
dF (mV 21 3) [3],
dF (bN 22 .sub 21 (cI 1)) [21],
dF (iA 23 none 20 22) [20,22],
dF (lD 24 none 23) [23],
dF (bN 25 .eql 19 24) [19,24]] [0,3,25])
(.cond 25 (.seq (rg [mV 26 0,
mV 27 3,
uO 28 (.slice none 26 (some 27) none none),
mV 4 28] [0,3,4])
(.seq (.seq (rg [mV 5 (cI 1)] [0,3,4,5])
(.block 2 (.loop q2)))
q3))
.skip)))
q4))
def cH:ACode:=EQ DI NO OO
def nN (C:Hd)(gl:GL)(q2 q3 q4:ACode)(v0 v3:AV)(h:aA)(x:Esc)(K:KT):Prop:=
 pK (zA v0) fun t1=>
 pK (eA .lss v3 t1) fun t2=>
 mA t2 (pK (sA none v0 v3 h) fun t3=>
 pK (jA none t3 h) fun t4=>
 pK (eA .sub v3 (AI 1)) fun t5=>
 pK (sA none v0 t5 h) fun t6=>
 pK (jA none t6 h) fun t7=>
 pK (eA .eql t4 t7) fun t8=>
 mA t8 (pK (YC none v0 (some v3) none none h) fun t9=>
 NW C gl (.loop q2) ⟨[(0,v0),(3,v3),(4,t9),(5,(AI 1))],h,x⟩ (CA 2 (FA C gl q3 (CA 1 (FA C gl q4 K)))))
 (NW C gl q4 ⟨[(0,v0),(3,v3),(25,t8)],h,x⟩ K))
 (K (.exit 0) ⟨[(0,v0),(3,v3),(13,t2)],h,x⟩)
theorem TZ {C gl q2 q3 q4 e h x K}:NW C gl (EQ q2 q3 q4) ⟨e,h,x⟩ K=nN C gl q2 q3 q4 (bA e 0) (bA e 3) h x K:=by kernel_rfl
theorem z7b {C gl e h x K}:NW C gl cH ⟨e,h,x⟩ K=nN C gl DI NO OO (bA e 0) (bA e 3) h x K:=TZ
theorem z9o {C gl e h x K}:NW C gl (.loop cH) ⟨e,h,x⟩ K=GA C gl cH K [(0,bA e 0),(3,bA e 3)] h x:=uB
def UK:ACode:=.pr [0] (.seq (rg [mV 60 0,
mV 2 60] [2])
.ret)
def jT (C:Hd)(gl:GL)(v0:AV)(h:aA)(x:Esc)(K:KT):Prop:=
 K .ret ⟨[(2,v0)],h,x⟩
theorem z7c {C gl e h x K}:NW C gl UK ⟨e,h,x⟩ K=jT C gl (bA e 0) h x K:=by kernel_rfl
def CQ (q5 q6:ACode):ACode:=(.seq (rg [mV 2 (.c (.p (.sl none [])))] [0])
(.seq (.seq (rg [mV 6 0,
lN 7 6,
bN 8 .lss 7 (cI 2)] [0,8])
(.cond 8 (.seq (rg [mV 9 0,
mV 2 9] [2])
.ret)
.skip))
(.seq (.seq (rg [mV 3 (cI 1)] [0,3])
(.block 0 (.loop q5)))
q6)))
def fM:AFun:=⟨1,[.t 2],CQ cH UK,true,false⟩
def OH (C:Hd)(gl:GL)(q5 q6:ACode)(v0:AV)(h:aA)(x:Esc)(K:KT):Prop:=
 pK (zA v0) fun t1=>
 pK (eA .lss t1 (AI 2)) fun t2=>
 mA t2 (K .ret ⟨[(2,v0)],h,x⟩)
 (NW C gl (.loop q5) ⟨[(0,v0),(3,(AI 1))],h,x⟩ (CA 0 (FA C gl q6 K)))
theorem RZ {C gl q5 q6 v0 h x K}:NW C gl (CQ q5 q6) ⟨enter [v0],h,x⟩ K=OH C gl q5 q6 v0 h x K:=by kernel_rfl
theorem z6W {C gl v0 h x K}:NW C gl fM.body ⟨enter [v0],h,x⟩ K=OH C gl cH UK v0 h x K:=RZ
def KG:ACode:=.pr [0,23,24] (.seq (rg [bN 25 .lss 24 23] [0,23,24,25])
(.seq (.cond 25 .skip
(.exit 0))
(.seq (.block 1 (.seq (rg [mV 26 24,
mV 3 26] [0,3,23,24])
(.seq (rg [mV 27 0,
mV 28 3,
uO 29 (.idxs 27 28),
mV 4 29] [0,4,23,24])
(.seq (rg [mV 30 4,
bN 31 .geq 30 (.c (.p (.int .u8 97))),
mV 32 31,
gD 33 32 true (.mv 4),
gD 34 32 true (.bin .leq 33 (.c (.p (.int .u8 122)))),
uO 35 (.pick 32 34 cF),
mV 36 35,
gD 37 36 false (.mv 4),
gD 38 36 false (.bin .geq 37 (.c (.p (.int .u8 48)))),
gD 39 36 false (.mv 38),
gD 40 39 true (.mv 4),
gD 41 39 true (.bin .leq 40 (.c (.p (.int .u8 57)))),
gD 42 36 false (.pick 39 41 cF),
uO 43 (.pick 36 cT 42),
mV 44 43,
gD 45 44 false (.mv 4),
gD 46 44 false (.bin .eql 45 (.c (.p (.int .u8 45)))),
uO 47 (.pick 44 cT 46),
mV 48 47,
gD 49 48 false (.mv 4),
gD 50 48 false (.bin .eql 49 (.c (.p (.int .u8 95)))),
uO 51 (.pick 48 cT 50),
uO 52 (.un .not 51)] [0,23,24,52])
(.cond 52 (.seq (rg [mV 2 cF] [2])
.ret)
.skip)))))
(rg [bN 53 .add 24 (cI 1),
mV 24 53] [0,23,24]))))
def SR (C:Hd)(gl:GL)(v0 v23 v24:AV)(h:aA)(x:Esc)(K:KT):Prop:=
 pK (eA .lss v24 v23) fun t1=>
 mA t1 (pK (FD v0 v24) fun t2=>
 pK (eA .geq t2 (.p (.int .u8 97))) fun t3=>
 gM t3 true t2 h fun t4 h5 y6=>
 gP t3 true (eA .leq t4 (.p (.int .u8 122))) h5 fun t7 h8 y9=>
 pK (QA t3 t7 (AB false)) fun t10=>
 gM t10 false t2 h8 fun t11 h12 y13=>
 gP t10 false (eA .geq t11 (.p (.int .u8 48))) h12 fun t14 h15 y16=>
 gM t10 false t14 h15 fun t17 h18 y19=>
 gM t17 true t2 h18 fun t20 h21 y22=>
 gP t17 true (eA .leq t20 (.p (.int .u8 57))) h21 fun t23 h24 y25=>
 gP t10 false (QA t17 t23 (AB false)) h24 fun t26 h27 y28=>
 pK (QA t10 (AB true) t26) fun t29=>
 gM t29 false t2 h27 fun t30 h31 y32=>
 gP t29 false (eA .eql t30 (.p (.int .u8 45))) h31 fun t33 h34 y35=>
 pK (QA t29 (AB true) t33) fun t36=>
 gM t36 false t2 h34 fun t37 h38 y39=>
 gP t36 false (eA .eql t37 (.p (.int .u8 95))) h38 fun t40 h41 y42=>
 pK (QA t36 (AB true) t40) fun t43=>
 pK (oUn .not t43) fun t44=>
 mA t44 (K .ret ⟨[(2,(AB false))],h41,(y42++(y39++(y35++(y32++(y28++(y25++(y22++(y19++(y16++(y13++(y9++(y6++x))))))))))))⟩)
 (pK (eA .add v24 (AI 1)) fun t45=>
 K .normal ⟨[(0,v0),(23,v23),(24,t45)],h41,(y42++(y39++(y35++(y32++(y28++(y25++(y22++(y19++(y16++(y13++(y9++(y6++x))))))))))))⟩))
 (K (.exit 0) ⟨[(0,v0),(23,v23),(24,v24),(25,t1)],h,x⟩)
theorem z5o {C gl e h x K}:NW C gl KG ⟨e,h,x⟩ K=SR C gl (bA e 0) (bA e 23) (bA e 24) h x K:=by kernel_rfl
theorem z8H {C gl e h x K}:NW C gl (.loop KG) ⟨e,h,x⟩ K=GA C gl KG K [(0,bA e 0),(23,bA e 23),(24,bA e 24)] h x:=uB
def CK:ACode:=.pr [] (.seq (rg [mV 2 cT] [2])
.ret)
def TR (C:Hd)(gl:GL)(h:aA)(x:Esc)(K:KT):Prop:=
 K .ret ⟨[(2,(AB true))],h,x⟩
theorem z5p {C gl e h x K}:NW C gl CK ⟨e,h,x⟩ K=TR C gl h x K:=by kernel_rfl
def QP (q1 q2:ACode):ACode:=(.seq (rg [mV 2 cF] [0])
(.seq (.seq (rg [mV 5 0,
bN 6 .eql 5 (cS []),
mV 7 6,
gD 8 7 false (.mv 0),
gD 9 7 false (.lens 8),
gD 10 7 false (.bin .gtr 9 (cI 40)),
uO 11 (.pick 7 cT 10),
mV 12 11,
gD 13 12 false (.mv 0),
gD 14 12 false (.idxs 13 (cI 0)),
gD 15 12 false (.bin .lss 14 (.c (.p (.int .u8 97)))),
uO 16 (.pick 12 cT 15),
mV 17 16,
gD 18 17 false (.mv 0),
gD 19 17 false (.idxs 18 (cI 0)),
gD 20 17 false (.bin .gtr 19 (.c (.p (.int .u8 122)))),
uO 21 (.pick 17 cT 20)] [0,21])
(.cond 21 (.seq (rg [mV 2 cF] [2])
.ret)
.skip))
(.seq (.seq (rg [mV 22 0,
uO 23 (.lens 22),
mV 24 (cI 0)] [0,23,24])
(.block 0 (.loop q1)))
q2)))
def cJ:AFun:=⟨1,[.t 2],QP KG CK,false,false⟩
def yE (C:Hd)(gl:GL)(q1 q2:ACode)(v0:AV)(h:aA)(x:Esc)(K:KT):Prop:=
 pK (eA .eql v0 (.p (.str []))) fun t1=>
 gM t1 false v0 h fun t2 h3 y4=>
 gP t1 false (XC t2) h3 fun t5 h6 y7=>
 gP t1 false (eA .gtr t5 (AI 40)) h6 fun t8 h9 y10=>
 pK (QA t1 (AB true) t8) fun t11=>
 gM t11 false v0 h9 fun t12 h13 y14=>
 gP t11 false (FD t12 (AI 0)) h13 fun t15 h16 y17=>
 gP t11 false (eA .lss t15 (.p (.int .u8 97))) h16 fun t18 h19 y20=>
 pK (QA t11 (AB true) t18) fun t21=>
 gM t21 false v0 h19 fun t22 h23 y24=>
 gP t21 false (FD t22 (AI 0)) h23 fun t25 h26 y27=>
 gP t21 false (eA .gtr t25 (.p (.int .u8 122))) h26 fun t28 h29 y30=>
 pK (QA t21 (AB true) t28) fun t31=>
 mA t31 (K .ret ⟨[(2,(AB false))],h29,(y30++(y27++(y24++(y20++(y17++(y14++(y10++(y7++(y4++x)))))))))⟩)
 (pK (XC v0) fun t32=>
 NW C gl (.loop q1) ⟨[(0,v0),(23,t32),(24,(AI 0))],h29,(y30++(y27++(y24++(y20++(y17++(y14++(y10++(y7++(y4++x)))))))))⟩ (CA 0 (FA C gl q2 K)))
theorem fZ {C gl q1 q2 v0 h x K}:NW C gl (QP q1 q2) ⟨enter [v0],h,x⟩ K=yE C gl q1 q2 v0 h x K:=by kernel_rfl
theorem z5n {C gl v0 h x K}:NW C gl cJ.body ⟨enter [v0],h,x⟩ K=yE C gl KG CK v0 h x K:=fZ
def PG:ACode:=.pr [1,13,14,15] (.seq (rg [bN 16 .lss 15 14] [1,13,14,15,16])
(.seq (.cond 16 .skip
(.exit 0))
(.seq (.block 1 (.seq (rg [iA 17 (some 4) 13 15,
lD 18 (some 4) 17,
uO 4 (.alloc [.p (.int .i64 0),.p (.str []),.p (.int .i64 0),.p (.int .i64 0)]),
wO (.store (some 4) 4 18)] [1,4,13,14,15])
(.seq (rg [lD 19 (some 2) 1,
lD 20 (some 4) 4,
cL 21 iG [19,20],
mV 5 21] [1,5,13,14,15])
(.seq (rg [mV 22 5,
bN 23 .neq 22 (cI 0)] [1,5,13,14,15,23])
(.cond 23 (.seq (rg [mV 24 5,
mV 2 24] [2])
.ret)
.skip)))))
(rg [bN 25 .add 15 (cI 1),
mV 15 25] [1,13,14,15]))))
def kS (C:Hd)(gl:GL)(v1 v13 v14 v15:AV)(h:aA)(x:Esc)(K:KT):Prop:=
 pK (eA .lss v15 v14) fun t1=>
 mA t1 (pK (sA (some 4) v13 v15 h) fun t2=>
 pK (jA (some 4) t2 h) fun t3=>
 alK [.p (.int .i64 0),.p (.str []),.p (.int .i64 0),.p (.int .i64 0)] h fun t4 h5 y6=>
 wK (XA (some 4) t4 t3 h5) fun t7 h8 y9=>
 pK (jA (some 2) v1 h8) fun t10=>
 pK (jA (some 4) t4 h8) fun t11=>
 C iG [t10,t11] h8 fun t12 h13 y14=>
 pK (eA .neq t12 (AI 0)) fun t15=>
 mA t15 (K .ret ⟨[(2,t12)],h13,(y14++(y9++(y6++x)))⟩)
 (pK (eA .add v15 (AI 1)) fun t16=>
 K .normal ⟨[(1,v1),(13,v13),(14,v14),(15,t16)],h13,(y14++(y9++(y6++x)))⟩))
 (K (.exit 0) ⟨[(1,v1),(13,v13),(14,v14),(15,v15),(16,t1)],h,x⟩)
theorem z5G {C gl e h x K}:NW C gl PG ⟨e,h,x⟩ K=kS C gl (bA e 1) (bA e 13) (bA e 14) (bA e 15) h x K:=by kernel_rfl
theorem z8P {C gl e h x K}:NW C gl (.loop (.scope PG)) ⟨e,h,x⟩ K=GA C gl (.scope PG) K [(1,bA e 1),(13,bA e 13),(14,bA e 14),(15,bA e 15)] h x:=LB
def pI:ACode:=.pr [1,27,28,29] (.seq (rg [bN 30 .lss 29 28] [1,27,28,29,30])
(.seq (.cond 30 .skip
(.exit 2))
(.seq (.block 3 (.seq (rg [mV 31 29,
iA 32 (some 4) 27 29,
lD 33 (some 4) 32,
uO 7 (.alloc [.p (.int .i64 0),.p (.str []),.p (.int .i64 0),.p (.int .i64 0)]),
mV 6 31,
wO (.store (some 4) 7 33)] [1,6,7,27,28,29])
(.seq (rg [lD 34 (some 4) 7,
cL 35 VC [34],
mV 36 35,
gD 37 36 true (.faddr 1 none 1),
gD 38 36 true (.load none 37),
gD 39 36 true (.mv 6),
gD 40 36 true (.slice (some 4) 38 none (some 39) none),
gD 41 36 true (.mkfn qF [7]),
gD 42 36 true (.call DE [40,41]),
uO 43 (.pick 36 42 cF)] [1,27,28,29,43])
(.cond 43 (.seq (rg [mV 2 (cI 6)] [2])
.ret)
.skip))))
(rg [bN 44 .add 29 (cI 1),
mV 29 44] [1,27,28,29]))))
def lS (C:Hd)(gl:GL)(v1 v27 v28 v29:AV)(h:aA)(x:Esc)(K:KT):Prop:=
 pK (eA .lss v29 v28) fun t1=>
 mA t1 (pK (sA (some 4) v27 v29 h) fun t2=>
 pK (jA (some 4) t2 h) fun t3=>
 alK [.p (.int .i64 0),.p (.str []),.p (.int .i64 0),.p (.int .i64 0)] h fun t4 h5 y6=>
 wK (XA (some 4) t4 t3 h5) fun t7 h8 y9=>
 pK (jA (some 4) t4 h8) fun t10=>
 C VC [t10] h8 fun t11 h12 y13=>
 gP t11 true (nA 1 none v1) h12 fun t14 h15 y16=>
 gP t11 true (jA none t14 h15) h15 fun t17 h18 y19=>
 gM t11 true v29 h18 fun t20 h21 y22=>
 gP t11 true (YC (some 4) t17 none (some t20) none h21) h21 fun t23 h24 y25=>
 gM t11 true (.fn qF [t4]) h24 fun t26 h27 y28=>
 gV t11 true h27 (C DE [t23,t26] h27) fun t29 h30 y31=>
 pK (QA t11 t29 (AB false)) fun t32=>
 mA t32 (K .ret ⟨[(2,(AI 6))],h30,(y31++(y28++(y25++(y22++(y19++(y16++(y13++(y9++(y6++x)))))))))⟩)
 (pK (eA .add v29 (AI 1)) fun t33=>
 K .normal ⟨[(1,v1),(27,v27),(28,v28),(29,t33)],h30,(y31++(y28++(y25++(y22++(y19++(y16++(y13++(y9++(y6++x)))))))))⟩))
 (K (.exit 2) ⟨[(1,v1),(27,v27),(28,v28),(29,v29),(30,t1)],h,x⟩)
theorem z5H {C gl e h x K}:NW C gl pI ⟨e,h,x⟩ K=lS C gl (bA e 1) (bA e 27) (bA e 28) (bA e 29) h x K:=by kernel_rfl
theorem z8Q {C gl e h x K}:NW C gl (.loop (.scope pI)) ⟨e,h,x⟩ K=GA C gl (.scope pI) K [(1,bA e 1),(27,bA e 27),(28,bA e 28),(29,bA e 29)] h x:=LB
def yO:ACode:=.pr [] (.seq (rg [mV 2 (cI 0)] [2])
.ret)
def mS (C:Hd)(gl:GL)(h:aA)(x:Esc)(K:KT):Prop:=
 K .ret ⟨[(2,(AI 0))],h,x⟩
theorem z5I {C gl e h x K}:NW C gl yO ⟨e,h,x⟩ K=mS C gl h x K:=by kernel_rfl
def bQ (q2 q3:ACode):ACode:=.pr [1] (.seq (.seq (rg [fA 26 1 none 1,
lD 27 none 26,
lN 28 27,
mV 29 (cI 0)] [1,27,28,29])
(.block 2 (.loop (.scope q2))))
q3)
def qI:ACode:=bQ pI yO
def MH (C:Hd)(gl:GL)(q2 q3:ACode)(v1:AV)(h:aA)(x:Esc)(K:KT):Prop:=
 pK (nA 1 none v1) fun t1=>
 pK (jA none t1 h) fun t2=>
 pK (zA t2) fun t3=>
 NW C gl (.loop (.scope q2)) ⟨[(1,v1),(27,t2),(28,t3),(29,(AI 0))],h,x⟩ (CA 2 (FA C gl q3 K))
theorem qZ {C gl q2 q3 e h x K}:NW C gl (bQ q2 q3) ⟨e,h,x⟩ K=MH C gl q2 q3 (bA e 1) h x K:=by kernel_rfl
theorem zN {C gl e h x K}:NW C gl qI ⟨e,h,x⟩ K=MH C gl pI yO (bA e 1) h x K:=qZ
def aQ (q1 q4:ACode):ACode:=(.seq (rg [uO 1 (.box 0),
mV 2 (cI 0)] [1])
(.seq (.seq (rg [fA 8 1 none 1,
lD 9 none 8,
lN 10 9,
bN 11 .gtr 10 (cI 200)] [1,11])
(.cond 11 (.seq (rg [mV 2 (cI 2)] [2])
.ret)
.skip))
(.seq (.seq (rg [fA 12 1 none 1,
lD 13 none 12,
lN 14 13,
mV 15 (cI 0)] [1,13,14,15])
(.block 0 (.loop (.scope q1))))
q4)))
def OL:AFun:=⟨1,[.t 2],aQ PG qI,false,false⟩
def LH (C:Hd)(gl:GL)(q1 q4:ACode)(v0:AV)(h:aA)(x:Esc)(K:KT):Prop:=
 wK (iB v0 h) fun t1 h2 y3=>
 pK (nA 1 none t1) fun t4=>
 pK (jA none t4 h2) fun t5=>
 pK (zA t5) fun t6=>
 pK (eA .gtr t6 (AI 200)) fun t7=>
 mA t7 (K .ret ⟨[(2,(AI 2))],h2,(y3++x)⟩)
 (pK (nA 1 none t1) fun t8=>
 pK (jA none t8 h2) fun t9=>
 pK (zA t9) fun t10=>
 NW C gl (.loop (.scope q1)) ⟨[(1,t1),(13,t9),(14,t10),(15,(AI 0))],h2,(y3++x)⟩ (CA 0 (FA C gl q4 K)))
theorem pZ {C gl q1 q4 v0 h x K}:NW C gl (aQ q1 q4) ⟨enter [v0],h,x⟩ K=LH C gl q1 q4 v0 h x K:=by kernel_rfl
theorem z5F {C gl v0 h x K}:NW C gl OL.body ⟨enter [v0],h,x⟩ K=LH C gl PG qI v0 h x K:=pZ
def QG:ACode:=.pr [1,14,15,16] (.seq (rg [bN 17 .lss 16 15] [1,14,15,16,17])
(.seq (.cond 17 .skip
(.exit 0))
(.seq (.block 1 (.seq (rg [mV 18 16,
iA 19 (some 3) 14 16,
lD 20 (some 3) 19,
uO 4 (.alloc [.p (.str []),.p (.str []),.p (.str [])]),
mV 3 18,
wO (.store (some 3) 4 20)] [1,3,4,14,15,16])
(.block 2 (.seq (rg [fA 22 0 none 4,
lD 23 none 22,
cL 24 bC [23],
uO 25 (.un .not 24),
mV 21 25] [1,3,4,14,15,16,21])
(.cond 21 (.seq (rg [mV 2 (cI 5)] [2])
.ret)
(.seq (rg [lD 27 (some 3) 1,
fA 28 1 none 4,
lD 29 none 28,
fA 30 2 none 4,
lD 31 none 30,
cL 32 mG [27,29,31],
uO 33 (.un .not 32),
mV 26 33] [1,3,4,14,15,16,26])
(.cond 26 (.seq (rg [mV 2 (cI 8)] [2])
.ret)
(.seq (dr [dF (mV 35 3) [3],
dF (bN 36 .gtr 35 (cI 0)) [35],
dF (mV 37 36) [36],
dF (gD 38 37 true (.load (some 3) 4)) [4,37],
dF (gD 39 37 true (.faddr 1 none 1)) [1,37],
dF (gD 40 37 true (.load none 39)) [39,37],
dF (gD 41 37 true (.mv 3)) [3,37],
dF (gD 42 37 true (.bin .sub 41 (cI 1))) [41,37],
dF (gD 43 37 true (.iaddr (some 3) 40 42)) [40,42,37],
dF (gD 44 37 true (.load (some 3) 43)) [43,37],
dT (gD 45 37 true (.call gG [38,44])) [38,44,37],
dF (gD 46 37 true (.bin .leq 45 (cI 0))) [45,37],
dF (uO 47 (.pick 37 46 cF)) [37,46],
dF (mV 34 47) [47]] [1,14,15,16,34])
(.cond 34 (.seq (rg [mV 2 (cI 7)] [2])
.ret)
.skip)))))))))
(rg [bN 48 .add 16 (cI 1),
mV 16 48] [1,14,15,16]))))
def nS (C:Hd)(gl:GL)(v1 v14 v15 v16:AV)(h:aA)(x:Esc)(K:KT):Prop:=
 pK (eA .lss v16 v15) fun t1=>
 mA t1 (pK (sA (some 3) v14 v16 h) fun t2=>
 pK (jA (some 3) t2 h) fun t3=>
 alK [.p (.str []),.p (.str []),.p (.str [])] h fun t4 h5 y6=>
 wK (XA (some 3) t4 t3 h5) fun t7 h8 y9=>
 pK (nA 0 none t4) fun t10=>
 pK (jA none t10 h8) fun t11=>
 C bC [t11] h8 fun t12 h13 y14=>
 pK (oUn .not t12) fun t15=>
 mA t15 (K .ret ⟨[(2,(AI 5))],h13,(y14++(y9++(y6++x)))⟩)
 (pK (jA (some 3) v1 h13) fun t16=>
 pK (nA 1 none t4) fun t17=>
 pK (jA none t17 h13) fun t18=>
 pK (nA 2 none t4) fun t19=>
 pK (jA none t19 h13) fun t20=>
 C mG [t16,t18,t20] h13 fun t21 h22 y23=>
 pK (oUn .not t21) fun t24=>
 mA t24 (K .ret ⟨[(2,(AI 8))],h22,(y23++(y14++(y9++(y6++x))))⟩)
 (pK (eA .gtr v16 (AI 0)) fun t25=>
 gP t25 true (jA (some 3) t4 h22) h22 fun t26 h27 y28=>
 gP t25 true (nA 1 none v1) h27 fun t29 h30 y31=>
 gP t25 true (jA none t29 h30) h30 fun t32 h33 y34=>
 gM t25 true v16 h33 fun t35 h36 y37=>
 gP t25 true (eA .sub t35 (AI 1)) h36 fun t38 h39 y40=>
 gP t25 true (sA (some 3) t32 t38 h39) h39 fun t41 h42 y43=>
 gP t25 true (jA (some 3) t41 h42) h42 fun t44 h45 y46=>
 gV t25 true h45 (MB C gG [t26,t44] h45) fun t47 h48 y49=>
 gP t25 true (eA .leq t47 (AI 0)) h48 fun t50 h51 y52=>
 pK (QA t25 t50 (AB false)) fun t53=>
 mA t53 (K .ret ⟨[(2,(AI 7))],h51,(y52++(y49++(y46++(y43++(y40++(y37++(y34++(y31++(y28++(y23++(y14++(y9++(y6++x)))))))))))))⟩)
 (pK (eA .add v16 (AI 1)) fun t54=>
 K .normal ⟨[(1,v1),(14,v14),(15,v15),(16,t54)],h51,(y52++(y49++(y46++(y43++(y40++(y37++(y34++(y31++(y28++(y23++(y14++(y9++(y6++x)))))))))))))⟩))))
 (K (.exit 0) ⟨[(1,v1),(14,v14),(15,v15),(16,v16),(17,t1)],h,x⟩)
theorem z5O {C gl e h x K}:NW C gl QG ⟨e,h,x⟩ K=nS C gl (bA e 1) (bA e 14) (bA e 15) (bA e 16) h x K:=by kernel_rfl
theorem z8R {C gl e h x K}:NW C gl (.loop (.scope QG)) ⟨e,h,x⟩ K=GA C gl (.scope QG) K [(1,bA e 1),(14,bA e 14),(15,bA e 15),(16,bA e 16)] h x:=LB
def rI:ACode:=.pr [5,51,52,53] (.seq (rg [bN 54 .lss 53 52] [5,51,52,53,54])
(.seq (.cond 54 .skip
(.exit 3))
(.seq (.block 4 (.seq (rg [iA 55 (some 3) 51 53,
lD 56 (some 3) 55,
uO 7 (.alloc [.p (.str []),.p (.str []),.p (.str [])]),
wO (.store (some 3) 7 56)] [5,7,51,52,53])
(.seq (rg [fA 57 1 none 7,
lD 58 none 57,
fA 59 2 none 7,
lD 60 none 59,
uO 61 (.build [.p (.str []),.p (.str [])] [(0,1,58),(1,1,60)]),
uO 8 (.alloc [.p (.str []),.p (.str [])]),
wO (.store (some 2) 8 61)] [5,8,51,52,53])
(.seq (.seq (rg [mV 62 5,
lD 63 (some 2) 8,
uO 64 (.look ((some 2),[2,2]) false (AB false) 62 63)] [5,8,51,52,53,64])
(.cond 64 (.seq (rg [mV 2 (cI 6)] [2])
.ret)
.skip))
(rg [mV 65 5,
lD 66 (some 2) 8,
wO (.mupd ((some 2),[2,2]) 65 66 cT)] [5,51,52,53])))))
(rg [bN 67 .add 53 (cI 1),
mV 53 67] [5,51,52,53]))))
def oS (C:Hd)(gl:GL)(v5 v51 v52 v53:AV)(h:aA)(x:Esc)(K:KT):Prop:=
 pK (eA .lss v53 v52) fun t1=>
 mA t1 (pK (sA (some 3) v51 v53 h) fun t2=>
 pK (jA (some 3) t2 h) fun t3=>
 alK [.p (.str []),.p (.str []),.p (.str [])] h fun t4 h5 y6=>
 wK (XA (some 3) t4 t3 h5) fun t7 h8 y9=>
 pK (nA 1 none t4) fun t10=>
 pK (jA none t10 h8) fun t11=>
 pK (nA 2 none t4) fun t12=>
 pK (jA none t12 h8) fun t13=>
 pK (WA [.p (.str []),.p (.str [])] [(0,1,t11),(1,1,t13)]) fun t14=>
 alK [.p (.str []),.p (.str [])] h8 fun t15 h16 y17=>
 wK (XA (some 2) t15 t14 h16) fun t18 h19 y20=>
 pK (jA (some 2) t15 h19) fun t21=>
 pK (yB ((some 2),[2,2]) false (AB false) v5 t21 h19) fun t22=>
 mA t22 (K .ret ⟨[(2,(AI 6))],h19,(y20++(y17++(y9++(y6++x))))⟩)
 (pK (jA (some 2) t15 h19) fun t23=>
 wK (gC ((some 2),[2,2]) v5 t23 (AB true) h19) fun t24 h25 y26=>
 pK (eA .add v53 (AI 1)) fun t27=>
 K .normal ⟨[(5,v5),(51,v51),(52,v52),(53,t27)],h25,(y26++(y20++(y17++(y9++(y6++x)))))⟩))
 (K (.exit 3) ⟨[(5,v5),(51,v51),(52,v52),(53,v53),(54,t1)],h,x⟩)
theorem z5P {C gl e h x K}:NW C gl rI ⟨e,h,x⟩ K=oS C gl (bA e 5) (bA e 51) (bA e 52) (bA e 53) h x K:=by kernel_rfl
theorem z8S {C gl e h x K}:NW C gl (.loop (.scope rI)) ⟨e,h,x⟩ K=GA C gl (.scope rI) K [(5,bA e 5),(51,bA e 51),(52,bA e 52),(53,bA e 53)] h x:=LB
def zO:ACode:=.pr [] (.seq (rg [mV 2 (cI 0)] [2])
.ret)
def pS (C:Hd)(gl:GL)(h:aA)(x:Esc)(K:KT):Prop:=
 K .ret ⟨[(2,(AI 0))],h,x⟩
theorem z5Q {C gl e h x K}:NW C gl zO ⟨e,h,x⟩ K=pS C gl h x K:=by kernel_rfl
def dQ (q2 q3:ACode):ACode:=.pr [1] (.seq (rg [uO 49 (.mkmap),
mV 5 49] [1,5])
(.seq (.seq (rg [fA 50 1 none 1,
lD 51 none 50,
lN 52 51,
mV 53 (cI 0)] [5,51,52,53])
(.block 3 (.loop (.scope q2))))
q3))
def sI:ACode:=dQ rI zO
def cG (C:Hd)(gl:GL)(q2 q3:ACode)(v1:AV)(h:aA)(x:Esc)(K:KT):Prop:=
 mmK h fun t1 h2 y3=>
 pK (nA 1 none v1) fun t4=>
 pK (jA none t4 h2) fun t5=>
 pK (zA t5) fun t6=>
 NW C gl (.loop (.scope q2)) ⟨[(5,t1),(51,t5),(52,t6),(53,(AI 0))],h2,(y3++x)⟩ (CA 3 (FA C gl q3 K))
theorem sZ {C gl q2 q3 e h x K}:NW C gl (dQ q2 q3) ⟨e,h,x⟩ K=cG C gl q2 q3 (bA e 1) h x K:=by kernel_rfl
theorem ZJ {C gl e h x K}:NW C gl sI ⟨e,h,x⟩ K=cG C gl rI zO (bA e 1) h x K:=sZ
def cQ (q1 q4:ACode):ACode:=(.seq (rg [uO 1 (.box 0),
mV 2 (cI 0)] [1])
(.seq (.seq (rg [fA 9 1 none 1,
lD 10 none 9,
lN 11 10,
bN 12 .gtr 11 (cI 1000)] [1,12])
(.cond 12 (.seq (rg [mV 2 (cI 2)] [2])
.ret)
.skip))
(.seq (.seq (rg [fA 13 1 none 1,
lD 14 none 13,
lN 15 14,
mV 16 (cI 0)] [1,14,15,16])
(.block 0 (.loop (.scope q1))))
q4)))
def TL:AFun:=⟨1,[.t 2],cQ QG sI,false,false⟩
def MJ (C:Hd)(gl:GL)(q1 q4:ACode)(v0:AV)(h:aA)(x:Esc)(K:KT):Prop:=
 wK (iB v0 h) fun t1 h2 y3=>
 pK (nA 1 none t1) fun t4=>
 pK (jA none t4 h2) fun t5=>
 pK (zA t5) fun t6=>
 pK (eA .gtr t6 (AI 1000)) fun t7=>
 mA t7 (K .ret ⟨[(2,(AI 2))],h2,(y3++x)⟩)
 (pK (nA 1 none t1) fun t8=>
 pK (jA none t8 h2) fun t9=>
 pK (zA t9) fun t10=>
 NW C gl (.loop (.scope q1)) ⟨[(1,t1),(14,t9),(15,t10),(16,(AI 0))],h2,(y3++x)⟩ (CA 0 (FA C gl q4 K)))
theorem rZ {C gl q1 q4 v0 h x K}:NW C gl (cQ q1 q4) ⟨enter [v0],h,x⟩ K=MJ C gl q1 q4 v0 h x K:=by kernel_rfl
theorem z5N {C gl v0 h x K}:NW C gl TL.body ⟨enter [v0],h,x⟩ K=MJ C gl QG sI v0 h x K:=rZ
def z0J:ACode:=(.seq (rg [mV 4 cF] [0,1])
(.seq (rg [mV 5 0,
mV 6 1,
cL 7 FE [5,6],
bN 8 .geq 7 (cI 0),
mV 4 8] [4])
.ret))
def rJ:AFun:=⟨2,[.t 4],z0J,true,false⟩
def pN (C:Hd)(gl:GL)(v0 v1:AV)(h:aA)(x:Esc)(K:KT):Prop:=
 C FE [v0,v1] h fun t1 h2 y3=>
 pK (eA .geq t1 (AI 0)) fun t4=>
 K .ret ⟨[(4,t4)],h2,(y3++x)⟩
theorem z7f {C gl v0 v1 h x K}:NW C gl rJ.body ⟨enter [v0,v1],h,x⟩ K=pN C gl v0 v1 h x K:=by kernel_rfl
def z0p:ACode:=(.seq (rg [mV 6 cF] [0,1,2])
(.seq (rg [mV 7 0,
mV 8 1,
bN 9 .lss 7 8,
mV 10 9,
gD 11 10 false (.mv 0),
gD 12 10 false (.mv 2),
gD 13 10 false (.bin .gtr 11 12),
uO 14 (.pick 10 cT 13),
mV 6 14] [6])
.ret))
def dJ:AFun:=⟨3,[.t 6],z0p,false,false⟩
def CM (C:Hd)(gl:GL)(v0 v1 v2:AV)(h:aA)(x:Esc)(K:KT):Prop:=
 pK (eA .lss v0 v1) fun t1=>
 gM t1 false v0 h fun t2 h3 y4=>
 gM t1 false v2 h3 fun t5 h6 y7=>
 gP t1 false (eA .gtr t2 t5) h6 fun t8 h9 y10=>
 pK (QA t1 (AB true) t8) fun t11=>
 K .ret ⟨[(6,t11)],h9,(y10++(y7++(y4++x)))⟩
theorem z5q {C gl v0 v1 v2 h x K}:NW C gl dJ.body ⟨enter [v0,v1,v2],h,x⟩ K=CM C gl v0 v1 v2 h x K:=by kernel_rfl
end Go.Am
end
section
/- The functions asv abstract code,and asv formulas over their values: printed by program out of the translation. -/
set_option linter.unusedVariables false
set_option maxRecDepth 100000
namespace Go.Am
def WG:ACode:=.pr [0,13,14,15] (.seq (rg [bN 16 .lss 15 14] [0,13,14,15,16])
(.seq (.cond 16 .skip
(.exit 1))
(.seq (.block 2 (.seq (rg [iA 17 none 13 15,
lD 18 none 17,
mV 4 18] [0,4,13,14,15])
(.block 3 (.seq (rg [mV 20 4,
cL 21 UC [20],
uO 22 (.un .not 21),
mV 19 22] [0,4,13,14,15,19])
(.cond 19 (.seq (rg [mV 2 (cI 3)] [2])
.ret)
(.seq (rg [mV 24 4,
uO 25 (.lens 24),
bN 26 .gtr 25 (cI 64),
mV 23 26] [0,4,13,14,15,23])
(.cond 23 (.seq (rg [mV 2 (cI 2)] [2])
.ret)
(.seq (rg [mV 28 4,
uO 29 (.lens 28),
mV 30 0,
iA 31 none 30 (cI 0),
lD 32 none 31,
uO 33 (.lens 32),
bN 34 .neq 29 33,
mV 27 34] [0,13,14,15,27])
(.cond 27 (.seq (rg [mV 2 (cI 3)] [2])
.ret)
.skip)))))))))
(rg [bN 35 .add 15 (cI 1),
mV 15 35] [0,13,14,15]))))
def FS (C:Hd)(gl:GL)(v0 v13 v14 v15:AV)(h:aA)(x:Esc)(K:KT):Prop:=
 pK (eA .lss v15 v14) fun t1=>
 mA t1 (pK (sA none v13 v15 h) fun t2=>
 pK (jA none t2 h) fun t3=>
 C UC [t3] h fun t4 h5 y6=>
 pK (oUn .not t4) fun t7=>
 mA t7 (K .ret ⟨[(2,(AI 3))],h5,(y6++x)⟩)
 (pK (XC t3) fun t8=>
 pK (eA .gtr t8 (AI 64)) fun t9=>
 mA t9 (K .ret ⟨[(2,(AI 2))],h5,(y6++x)⟩)
 (pK (XC t3) fun t10=>
 pK (sA none v0 (AI 0) h5) fun t11=>
 pK (jA none t11 h5) fun t12=>
 pK (XC t12) fun t13=>
 pK (eA .neq t10 t13) fun t14=>
 mA t14 (K .ret ⟨[(2,(AI 3))],h5,(y6++x)⟩)
 (pK (eA .add v15 (AI 1)) fun t15=>
 K .normal ⟨[(0,v0),(13,v13),(14,v14),(15,t15)],h5,(y6++x)⟩))))
 (K (.exit 1) ⟨[(0,v0),(13,v13),(14,v14),(15,v15),(16,t1)],h,x⟩)
theorem z6t {C gl e h x K}:NW C gl WG ⟨e,h,x⟩ K=FS C gl (bA e 0) (bA e 13) (bA e 14) (bA e 15) h x K:=by kernel_rfl
theorem z9c {C gl e h x K}:NW C gl (.loop WG) ⟨e,h,x⟩ K=GA C gl WG K [(0,bA e 0),(13,bA e 13),(14,bA e 14),(15,bA e 15)] h x:=uB
def LK:ACode:=.pr [] (.seq (rg [mV 2 (cI 0)] [2])
.ret)
def GS (C:Hd)(gl:GL)(h:aA)(x:Esc)(K:KT):Prop:=
 K .ret ⟨[(2,(AI 0))],h,x⟩
theorem z6u {C gl e h x K}:NW C gl LK ⟨e,h,x⟩ K=GS C gl h x K:=by kernel_rfl
def qQ (q1 q2:ACode):ACode:=(.seq (rg [mV 2 (cI 0)] [0])
(.seq (.block 0 (.seq (rg [mV 6 0,
lN 7 6,
bN 8 .eql 7 (cI 0),
mV 5 8] [0,5])
(.cond 5 (.seq (rg [mV 2 (cI 8)] [2])
.ret)
(.seq (rg [mV 10 0,
lN 11 10,
bN 12 .gtr 11 (cI 100),
mV 9 12] [0,9])
(.cond 9 (.seq (rg [mV 2 (cI 2)] [2])
.ret)
.skip)))))
(.seq (.seq (rg [mV 13 0,
lN 14 13,
mV 15 (cI 0)] [0,13,14,15])
(.block 1 (.loop q1)))
q2)))
def gJ:AFun:=⟨1,[.t 2],qQ WG LK,false,false⟩
def VM (C:Hd)(gl:GL)(q1 q2:ACode)(v0:AV)(h:aA)(x:Esc)(K:KT):Prop:=
 pK (zA v0) fun t1=>
 pK (eA .eql t1 (AI 0)) fun t2=>
 mA t2 (K .ret ⟨[(2,(AI 8))],h,x⟩)
 (pK (zA v0) fun t3=>
 pK (eA .gtr t3 (AI 100)) fun t4=>
 mA t4 (K .ret ⟨[(2,(AI 2))],h,x⟩)
 (pK (zA v0) fun t5=>
 NW C gl (.loop q1) ⟨[(0,v0),(13,v0),(14,t5),(15,(AI 0))],h,x⟩ (CA 1 (FA C gl q2 K))))
theorem EZ {C gl q1 q2 v0 h x K}:NW C gl (qQ q1 q2) ⟨enter [v0],h,x⟩ K=VM C gl q1 q2 v0 h x K:=by kernel_rfl
theorem z6s {C gl v0 h x K}:NW C gl gJ.body ⟨enter [v0],h,x⟩ K=VM C gl WG LK v0 h x K:=EZ
def VG:ACode:=.pr [0,3,27,28,29] (.seq (rg [bN 30 .lss 29 28] [0,3,27,28,29,30])
(.seq (.cond 30 .skip
(.exit 1))
(.seq (.block 2 (.seq (rg [iA 31 none 27 29,
lD 32 none 31,
mV 6 32] [0,3,6,27,28,29])
(.seq (rg [mV 33 6,
mV 34 0,
bN 35 .sub 34 (cI 1),
cL 36 ZA [33,(cI 0),35]] [0,3,27,28,29,36])
(.cond 36 (.seq (rg [mV 4 (cI 1)] [4])
.ret)
.skip))))
(rg [bN 37 .add 29 (cI 1),
mV 29 37] [0,3,27,28,29]))))
def CS (C:Hd)(gl:GL)(v0 v3 v27 v28 v29:AV)(h:aA)(x:Esc)(K:KT):Prop:=
 pK (eA .lss v29 v28) fun t1=>
 mA t1 (pK (sA none v27 v29 h) fun t2=>
 pK (jA none t2 h) fun t3=>
 pK (eA .sub v0 (AI 1)) fun t4=>
 C ZA [t3,(AI 0),t4] h fun t5 h6 y7=>
 mA t5 (K .ret ⟨[(4,(AI 1))],h6,(y7++x)⟩)
 (pK (eA .add v29 (AI 1)) fun t8=>
 K .normal ⟨[(0,v0),(3,v3),(27,v27),(28,v28),(29,t8)],h6,(y7++x)⟩))
 (K (.exit 1) ⟨[(0,v0),(3,v3),(27,v27),(28,v28),(29,v29),(30,t1)],h,x⟩)
theorem z6n {C gl e h x K}:NW C gl VG ⟨e,h,x⟩ K=CS C gl (bA e 0) (bA e 3) (bA e 27) (bA e 28) (bA e 29) h x K:=by kernel_rfl
theorem z9a {C gl e h x K}:NW C gl (.loop VG) ⟨e,h,x⟩ K=GA C gl VG K [(0,bA e 0),(3,bA e 3),(27,bA e 27),(28,bA e 28),(29,bA e 29)] h x:=uB
def wI:ACode:=.pr [3,7,8] (.seq (.seq (rg [mV 53 8,
mV 54 7,
lN 55 54,
bN 56 .lss 53 55] [3,7,8,56])
(.cond 56 .skip
(.exit 3)))
(.seq (.block 4 (.seq (dr [dF (mV 59 7) [7],
dF (mV 60 8) [8],
dF (iA 61 none 59 60) [59,60],
dF (lD 62 none 61) [61],
dF (mV 63 7) [7],
dF (mV 64 8) [8],
dF (bN 65 .sub 64 (cI 1)) [64],
dF (iA 66 none 63 65) [63,65],
dF (lD 67 none 66) [66],
dF (bN 68 .leq 62 67) [62,67]] [3,7,8,68])
(.cond 68 (.seq (rg [mV 4 (cI 7)] [4])
.ret)
.skip)))
(rg [mV 57 8,
bN 58 .add 57 (cI 1),
mV 8 58] [3,7,8])))
def DS (C:Hd)(gl:GL)(v3 v7 v8:AV)(h:aA)(x:Esc)(K:KT):Prop:=
 pK (zA v7) fun t1=>
 pK (eA .lss v8 t1) fun t2=>
 mA t2 (pK (sA none v7 v8 h) fun t3=>
 pK (jA none t3 h) fun t4=>
 pK (eA .sub v8 (AI 1)) fun t5=>
 pK (sA none v7 t5 h) fun t6=>
 pK (jA none t6 h) fun t7=>
 pK (eA .leq t4 t7) fun t8=>
 mA t8 (K .ret ⟨[(4,(AI 7))],h,x⟩)
 (pK (eA .add v8 (AI 1)) fun t9=>
 K .normal ⟨[(3,v3),(7,v7),(8,t9)],h,x⟩))
 (K (.exit 3) ⟨[(3,v3),(7,v7),(8,v8),(56,t2)],h,x⟩)
theorem z6o {C gl e h x K}:NW C gl wI ⟨e,h,x⟩ K=DS C gl (bA e 3) (bA e 7) (bA e 8) h x K:=by kernel_rfl
theorem z9b {C gl e h x K}:NW C gl (.loop wI) ⟨e,h,x⟩ K=GA C gl wI K [(3,bA e 3),(7,bA e 7),(8,bA e 8)] h x:=uB
def FO:ACode:=.pr [3,7] (.seq (.seq (rg [fA 69 0 none 3,
lD 70 none 69,
bN 71 .eql 70 (cI 5),
mV 72 71,
gD 73 72 true (.mv 7),
gD 74 72 true (.faddr 1 none 3),
gD 75 72 true (.load none 74),
gD 76 72 true (.iaddr none 75 (cI 0)),
gD 77 72 true (.load none 76),
gD 78 72 true (.call wG [73,77]),
uO 79 (.pick 72 78 cF)] [79])
(.cond 79 (.seq (rg [mV 4 (cI 6)] [4])
.ret)
.skip))
(.seq (rg [mV 4 (cI 0)] [4])
.ret))
def ES (C:Hd)(gl:GL)(v3 v7:AV)(h:aA)(x:Esc)(K:KT):Prop:=
 pK (nA 0 none v3) fun t1=>
 pK (jA none t1 h) fun t2=>
 pK (eA .eql t2 (AI 5)) fun t3=>
 gM t3 true v7 h fun t4 h5 y6=>
 gP t3 true (nA 1 none v3) h5 fun t7 h8 y9=>
 gP t3 true (jA none t7 h8) h8 fun t10 h11 y12=>
 gP t3 true (sA none t10 (AI 0) h11) h11 fun t13 h14 y15=>
 gP t3 true (jA none t13 h14) h14 fun t16 h17 y18=>
 gV t3 true h17 (C wG [t4,t16] h17) fun t19 h20 y21=>
 pK (QA t3 t19 (AB false)) fun t22=>
 mA t22 (K .ret ⟨[(4,(AI 6))],h20,(y21++(y18++(y15++(y12++(y9++(y6++x))))))⟩)
 (K .ret ⟨[(4,(AI 0))],h20,(y21++(y18++(y15++(y12++(y9++(y6++x))))))⟩)
theorem z6p {C gl e h x K}:NW C gl FO ⟨e,h,x⟩ K=ES C gl (bA e 3) (bA e 7) h x K:=by kernel_rfl
def oQ (q2 q3:ACode):ACode:=.pr [3,7] (.seq (.seq (rg [mV 8 (cI 1)] [3,7,8])
(.block 3 (.loop q2)))
q3)
def GO:ACode:=oQ wI FO
def RJ (C:Hd)(gl:GL)(q2 q3:ACode)(v3 v7:AV)(h:aA)(x:Esc)(K:KT):Prop:=
 NW C gl (.loop q2) ⟨[(3,v3),(7,v7),(8,(AI 1))],h,x⟩ (CA 3 (FA C gl q3 K))
theorem CZ {C gl q2 q3 e h x K}:NW C gl (oQ q2 q3) ⟨e,h,x⟩ K=RJ C gl q2 q3 (bA e 3) (bA e 7) h x K:=by kernel_rfl
theorem z6q {C gl e h x K}:NW C gl GO ⟨e,h,x⟩ K=RJ C gl wI FO (bA e 3) (bA e 7) h x K:=CZ
def pQ (q4:ACode):ACode:=.pr [3] (.seq (.seq (dr [dF (fA 38 0 none 3) [3],
dF (lD 39 none 38) [38],
dT (cL 40 rG [39]) [39],
dF (fA 41 1 none 3) [3],
dA (lD 42 none 41) [41] false [2] [],
dF (lN 43 42) [42],
dF (bN 44 .gtr 43 (cI 1)) [43],
dF (uO 45 (.eqa [] true 40 44)) [40,44]] [3,45])
(.cond 45 (.seq (rg [mV 4 (cI 3)] [4])
.ret)
.skip))
(.seq (rg [fA 46 1 none 3,
lD 47 none 46,
mV 7 47] [3,7])
(.seq (.seq (rg [fA 48 0 none 3,
lD 49 none 48,
bN 50 .eql 49 (cI 5)] [3,7,50])
(.cond 50 (rg [mV 51 7,
uO 52 (.slice none 51 (some (cI 1)) none none),
mV 7 52] [3,7])
.skip))
q4)))
def KK:ACode:=pQ GO
def UM (C:Hd)(gl:GL)(q4:ACode)(v3:AV)(h:aA)(x:Esc)(K:KT):Prop:=
 pK (nA 0 none v3) fun t1=>
 pK (jA none t1 h) fun t2=>
 MB C rG [t2] h fun t3 h4 y5=>
 pK (nA 1 none v3) fun t6=>
 pK (jA none t6 h4) fun t7=>
 (pK (jA none t6 h) fun v=>(fun u (g1:aA) (y1:Esc)=>u=t7∧g1=h∧y1=[]) v h [])∧(pK (zA t7) fun t8=>
 pK (eA .gtr t8 (AI 1)) fun t9=>
 pK (iI [] true t3 t9) fun t10=>
 mA t10 (K .ret ⟨[(4,(AI 3))],h4,(y5++x)⟩)
 (pK (nA 1 none v3) fun t11=>
 pK (jA none t11 h4) fun t12=>
 pK (nA 0 none v3) fun t13=>
 pK (jA none t13 h4) fun t14=>
 pK (eA .eql t14 (AI 5)) fun t15=>
 mA t15 (pK (YC none t12 (some (AI 1)) none none h4) fun t16=>
 NW C gl q4 ⟨[(3,v3),(7,t16)],h4,(y5++x)⟩ K)
 (NW C gl q4 ⟨[(3,v3),(7,t12),(50,t15)],h4,(y5++x)⟩ K)))
theorem DZ {C gl q4 e h x K}:NW C gl (pQ q4) ⟨e,h,x⟩ K=UM C gl q4 (bA e 3) h x K:=by kernel_rfl
theorem z6r {C gl e h x K}:NW C gl KK ⟨e,h,x⟩ K=UM C gl GO (bA e 3) h x K:=DZ
def nQ (q1 q5:ACode):ACode:=(.seq (rg [uO 3 (.box 1),
mV 4 (cI 0)] [0,3])
(.seq (.block 0 (.seq (rg [mV 10 0,
cL 11 ZA [10,(cI 1),(cI 100)],
mV 9 11] [0,3,9])
(.cond 9 (.seq (rg [mV 4 (cI 1)] [4])
.ret)
(.seq (rg [fA 13 0 none 3,
lD 14 none 13,
cL 15 ZA [14,(cI 1),(cI 6)],
mV 12 15] [0,3,12])
(.cond 12 (.seq (rg [mV 4 (cI 4)] [4])
.ret)
(.seq (rg [fA 17 1 none 3,
lD 18 none 17,
lN 19 18,
bN 20 .eql 19 (cI 0),
mV 16 20] [0,3,16])
(.cond 16 (.seq (rg [mV 4 (cI 8)] [4])
.ret)
(.seq (rg [fA 22 1 none 3,
lD 23 none 22,
lN 24 23,
bN 25 .gtr 24 (cI 6),
mV 21 25] [0,3,21])
(.cond 21 (.seq (rg [mV 4 (cI 2)] [4])
.ret)
.skip)))))))))
(.seq (.seq (rg [fA 26 1 none 3,
lD 27 none 26,
lN 28 27,
mV 29 (cI 0)] [0,3,27,28,29])
(.block 1 (.loop q1)))
q5)))
def fJ:AFun:=⟨2,[.t 4],nQ VG KK,false,false⟩
def TM (C:Hd)(gl:GL)(q1 q5:ACode)(v0 v1:AV)(h:aA)(x:Esc)(K:KT):Prop:=
 wK (iB v1 h) fun t1 h2 y3=>
 C ZA [v0,(AI 1),(AI 100)] h2 fun t4 h5 y6=>
 mA t4 (K .ret ⟨[(4,(AI 1))],h5,(y6++(y3++x))⟩)
 (pK (nA 0 none t1) fun t7=>
 pK (jA none t7 h5) fun t8=>
 C ZA [t8,(AI 1),(AI 6)] h5 fun t9 h10 y11=>
 mA t9 (K .ret ⟨[(4,(AI 4))],h10,(y11++(y6++(y3++x)))⟩)
 (pK (nA 1 none t1) fun t12=>
 pK (jA none t12 h10) fun t13=>
 pK (zA t13) fun t14=>
 pK (eA .eql t14 (AI 0)) fun t15=>
 mA t15 (K .ret ⟨[(4,(AI 8))],h10,(y11++(y6++(y3++x)))⟩)
 (pK (nA 1 none t1) fun t16=>
 pK (jA none t16 h10) fun t17=>
 pK (zA t17) fun t18=>
 pK (eA .gtr t18 (AI 6)) fun t19=>
 mA t19 (K .ret ⟨[(4,(AI 2))],h10,(y11++(y6++(y3++x)))⟩)
 (pK (nA 1 none t1) fun t20=>
 pK (jA none t20 h10) fun t21=>
 pK (zA t21) fun t22=>
 NW C gl (.loop q1) ⟨[(0,v0),(3,t1),(27,t21),(28,t22),(29,(AI 0))],h10,(y11++(y6++(y3++x)))⟩ (CA 1 (FA C gl q5 K))))))
theorem BZ {C gl q1 q5 v0 v1 h x K}:NW C gl (nQ q1 q5) ⟨enter [v0,v1],h,x⟩ K=TM C gl q1 q5 v0 v1 h x K:=by kernel_rfl
theorem z6m {C gl v0 v1 h x K}:NW C gl fJ.body ⟨enter [v0,v1],h,x⟩ K=TM C gl VG KK v0 v1 h x K:=BZ
def z0t:ACode:=(.seq (rg [uO 2 (.box 0),
uO 3 (.box 1),
mV 4 (cI 0)] [2,3])
(.seq (.block 0 (.seq (rg [fA 6 0 none 3,
lD 7 none 6,
cL 8 ZA [7,(cI 1),(cI 4)],
mV 5 8] [2,3,5])
(.cond 5 (.seq (rg [mV 4 (cI 4)] [4])
.ret)
(.seq (rg [lD 10 (some 4) 3,
cL 11 VC [10],
mV 12 11,
gD 13 12 true (.faddr 1 none 3),
gD 14 12 true (.load none 13),
gD 15 12 true (.call bC [14]),
gD 16 12 true (.un .not 15),
uO 17 (.pick 12 16 cF),
mV 9 17] [2,3,9])
(.cond 9 (.seq (rg [mV 4 (cI 5)] [4])
.ret)
(.seq (rg [lD 19 (some 4) 3,
cL 20 VC [19],
uO 21 (.un .not 20),
mV 22 21,
gD 23 22 true (.faddr 1 none 3),
gD 24 22 true (.load none 23),
gD 25 22 true (.bin .neq 24 (cS [])),
uO 26 (.pick 22 25 cF),
mV 18 26] [2,3,18])
(.cond 18 (.seq (rg [mV 4 (cI 3)] [4])
.ret)
.skip)))))))
(.seq (.seq (rg [fA 27 0 none 3,
lD 28 none 27,
bN 29 .neq 28 (cI 2)] [2,3,29])
(.cond 29 (.seq (.seq (rg [fA 30 2 none 3,
lD 31 none 30,
bN 32 .neq 31 (cI (-1)),
mV 33 32,
gD 34 33 false (.faddr 3 none 3),
gD 35 33 false (.load none 34),
gD 36 33 false (.bin .neq 35 (cI 0)),
uO 37 (.pick 33 cT 36)] [37])
(.cond 37 (.seq (rg [mV 4 (cI 3)] [4])
.ret)
.skip))
(.seq (rg [mV 4 (cI 0)] [4])
.ret))
.skip))
(.seq (.block 1 (.seq (rg [fA 39 2 none 3,
lD 40 none 39,
bN 41 .neq 40 (cI (-1)),
mV 42 41,
gD 43 42 true (.faddr 2 none 3),
gD 44 42 true (.load none 43),
gD 45 42 true (.faddr 1 none 2),
gD 46 42 true (.load none 45),
gD 47 42 true (.len 46),
gD 48 42 true (.bin .sub 47 (cI 1)),
gD 49 42 true (.call ZA [44,(cI 0),48]),
gD 50 42 true (.mv 49),
gD 51 50 false (.faddr 1 none 2),
gD 52 50 false (.load none 51),
gD 53 50 false (.faddr 2 none 3),
gD 54 50 false (.load none 53),
gD 55 50 false (.iaddr (some 4) 52 54),
gD 56 50 false (.faddr 0 none 55),
gD 57 50 false (.load none 56),
gD 58 50 false (.bin .neq 57 (cI 3)),
gD 59 42 true (.pick 50 cT 58),
uO 60 (.pick 42 59 cF),
mV 38 60] [3,38])
(.cond 38 (.seq (rg [mV 4 (cI 8)] [4])
.ret)
(.seq (rg [fA 62 3 none 3,
lD 63 none 62,
cL 64 ZA [63,(cI 0),(cI 1)],
mV 65 64,
gD 66 65 false (.faddr 2 none 3),
gD 67 65 false (.load none 66),
gD 68 65 false (.bin .eql 67 (cI (-1))),
gD 69 65 false (.mv 68),
gD 70 69 true (.faddr 3 none 3),
gD 71 69 true (.load none 70),
gD 72 69 true (.bin .neq 71 (cI 0)),
gD 73 65 false (.pick 69 72 cF),
uO 74 (.pick 65 cT 73),
mV 61 74] [61])
(.cond 61 (.seq (rg [mV 4 (cI 1)] [4])
.ret)
.skip)))))
(.seq (rg [mV 4 (cI 0)] [4])
.ret)))))
def ML:AFun:=⟨2,[.t 4],z0t,false,false⟩
def SB (C:Hd)(gl:GL)(v0 v1:AV)(h:aA)(x:Esc)(K:KT):Prop:=
 wK (iB v0 h) fun t1 h2 y3=>
 wK (iB v1 h2) fun t4 h5 y6=>
 pK (nA 0 none t4) fun t7=>
 pK (jA none t7 h5) fun t8=>
 C ZA [t8,(AI 1),(AI 4)] h5 fun t9 h10 y11=>
 mA t9 (K .ret ⟨[(4,(AI 4))],h10,(y11++(y6++(y3++x)))⟩)
 (pK (jA (some 4) t4 h10) fun t12=>
 C VC [t12] h10 fun t13 h14 y15=>
 gP t13 true (nA 1 none t4) h14 fun t16 h17 y18=>
 gP t13 true (jA none t16 h17) h17 fun t19 h20 y21=>
 gV t13 true h20 (C bC [t19] h20) fun t22 h23 y24=>
 gP t13 true (oUn .not t22) h23 fun t25 h26 y27=>
 pK (QA t13 t25 (AB false)) fun t28=>
 mA t28 (K .ret ⟨[(4,(AI 5))],h26,(y27++(y24++(y21++(y18++(y15++(y11++(y6++(y3++x))))))))⟩)
 (pK (jA (some 4) t4 h26) fun t29=>
 C VC [t29] h26 fun t30 h31 y32=>
 pK (oUn .not t30) fun t33=>
 gP t33 true (nA 1 none t4) h31 fun t34 h35 y36=>
 gP t33 true (jA none t34 h35) h35 fun t37 h38 y39=>
 gP t33 true (eA .neq t37 (.p (.str []))) h38 fun t40 h41 y42=>
 pK (QA t33 t40 (AB false)) fun t43=>
 mA t43 (K .ret ⟨[(4,(AI 3))],h41,(y42++(y39++(y36++(y32++(y27++(y24++(y21++(y18++(y15++(y11++(y6++(y3++x))))))))))))⟩)
 (pK (nA 0 none t4) fun t44=>
 pK (jA none t44 h41) fun t45=>
 pK (eA .neq t45 (AI 2)) fun t46=>
 mA t46 (pK (nA 2 none t4) fun t47=>
 pK (jA none t47 h41) fun t48=>
 pK (eA .neq t48 (AI (-1))) fun t49=>
 gP t49 false (nA 3 none t4) h41 fun t50 h51 y52=>
 gP t49 false (jA none t50 h51) h51 fun t53 h54 y55=>
 gP t49 false (eA .neq t53 (AI 0)) h54 fun t56 h57 y58=>
 pK (QA t49 (AB true) t56) fun t59=>
 mA t59 (K .ret ⟨[(4,(AI 3))],h57,(y58++(y55++(y52++(y42++(y39++(y36++(y32++(y27++(y24++(y21++(y18++(y15++(y11++(y6++(y3++x)))))))))))))))⟩)
 (K .ret ⟨[(4,(AI 0))],h57,(y58++(y55++(y52++(y42++(y39++(y36++(y32++(y27++(y24++(y21++(y18++(y15++(y11++(y6++(y3++x)))))))))))))))⟩))
 (pK (nA 2 none t4) fun t60=>
 pK (jA none t60 h41) fun t61=>
 pK (eA .neq t61 (AI (-1))) fun t62=>
 gP t62 true (nA 2 none t4) h41 fun t63 h64 y65=>
 gP t62 true (jA none t63 h64) h64 fun t66 h67 y68=>
 gP t62 true (nA 1 none t1) h67 fun t69 h70 y71=>
 gP t62 true (jA none t69 h70) h70 fun t72 h73 y74=>
 gP t62 true (zA t72) h73 fun t75 h76 y77=>
 gP t62 true (eA .sub t75 (AI 1)) h76 fun t78 h79 y80=>
 gV t62 true h79 (C ZA [t66,(AI 0),t78] h79) fun t81 h82 y83=>
 gM t62 true t81 h82 fun t84 h85 y86=>
 gP t84 false (nA 1 none t1) h85 fun t87 h88 y89=>
 gP t84 false (jA none t87 h88) h88 fun t90 h91 y92=>
 gP t84 false (nA 2 none t4) h91 fun t93 h94 y95=>
 gP t84 false (jA none t93 h94) h94 fun t96 h97 y98=>
 gP t84 false (sA (some 4) t90 t96 h97) h97 fun t99 h100 y101=>
 gP t84 false (nA 0 none t99) h100 fun t102 h103 y104=>
 gP t84 false (jA none t102 h103) h103 fun t105 h106 y107=>
 gP t84 false (eA .neq t105 (AI 3)) h106 fun t108 h109 y110=>
 gP t62 true (QA t84 (AB true) t108) h109 fun t111 h112 y113=>
 pK (QA t62 t111 (AB false)) fun t114=>
 mA t114 (K .ret ⟨[(4,(AI 8))],h112,(y113++(y110++(y107++(y104++(y101++(y98++(y95++(y92++(y89++(y86++(y83++(y80++(y77++(y74++(y71++(y68++(y65++(y42++(y39++(y36++(y32++(y27++(y24++(y21++(y18++(y15++(y11++(y6++(y3++x)))))))))))))))))))))))))))))⟩)
 (pK (nA 3 none t4) fun t115=>
 pK (jA none t115 h112) fun t116=>
 C ZA [t116,(AI 0),(AI 1)] h112 fun t117 h118 y119=>
 gP t117 false (nA 2 none t4) h118 fun t120 h121 y122=>
 gP t117 false (jA none t120 h121) h121 fun t123 h124 y125=>
 gP t117 false (eA .eql t123 (AI (-1))) h124 fun t126 h127 y128=>
 gM t117 false t126 h127 fun t129 h130 y131=>
 gP t129 true (nA 3 none t4) h130 fun t132 h133 y134=>
 gP t129 true (jA none t132 h133) h133 fun t135 h136 y137=>
 gP t129 true (eA .neq t135 (AI 0)) h136 fun t138 h139 y140=>
 gP t117 false (QA t129 t138 (AB false)) h139 fun t141 h142 y143=>
 pK (QA t117 (AB true) t141) fun t144=>
 mA t144 (K .ret ⟨[(4,(AI 1))],h142,(y143++(y140++(y137++(y134++(y131++(y128++(y125++(y122++(y119++(y113++(y110++(y107++(y104++(y101++(y98++(y95++(y92++(y89++(y86++(y83++(y80++(y77++(y74++(y71++(y68++(y65++(y42++(y39++(y36++(y32++(y27++(y24++(y21++(y18++(y15++(y11++(y6++(y3++x))))))))))))))))))))))))))))))))))))))⟩)
 (K .ret ⟨[(4,(AI 0))],h142,(y143++(y140++(y137++(y134++(y131++(y128++(y125++(y122++(y119++(y113++(y110++(y107++(y104++(y101++(y98++(y95++(y92++(y89++(y86++(y83++(y80++(y77++(y74++(y71++(y68++(y65++(y42++(y39++(y36++(y32++(y27++(y24++(y21++(y18++(y15++(y11++(y6++(y3++x))))))))))))))))))))))))))))))))))))))⟩))))))
theorem z58 {C gl v0 v1 h x K}:NW C gl ML.body ⟨enter [v0,v1],h,x⟩ K=SB C gl v0 v1 h x K:=by kernel_rfl
def z0x:ACode:=(.seq (rg [uO 1 (.box 0),
mV 2 cF] [1])
(.seq (rg [fA 3 0 none 1,
lD 4 none 3,
bN 5 .eql 4 (cI 1),
mV 6 5,
gD 7 6 false (.faddr 0 none 1),
gD 8 6 false (.load none 7),
gD 9 6 false (.bin .eql 8 (cI 2)),
uO 10 (.pick 6 cT 9),
mV 2 10] [2])
.ret))
def SL:AFun:=⟨1,[.t 2],z0x,false,false⟩
def NH (C:Hd)(gl:GL)(v0:AV)(h:aA)(x:Esc)(K:KT):Prop:=
 wK (iB v0 h) fun t1 h2 y3=>
 pK (nA 0 none t1) fun t4=>
 pK (jA none t4 h2) fun t5=>
 pK (eA .eql t5 (AI 1)) fun t6=>
 gP t6 false (nA 0 none t1) h2 fun t7 h8 y9=>
 gP t6 false (jA none t7 h8) h8 fun t10 h11 y12=>
 gP t6 false (eA .eql t10 (AI 2)) h11 fun t13 h14 y15=>
 pK (QA t6 (AB true) t13) fun t16=>
 K .ret ⟨[(2,t16)],h14,(y15++(y12++(y9++(y3++x))))⟩
theorem z5M {C gl v0 h x K}:NW C gl SL.body ⟨enter [v0],h,x⟩ K=NH C gl v0 h x K:=by kernel_rfl
def z0G:ACode:=(.seq (rg [mV 4 cF] [0,1])
(.seq (rg [mV 5 0,
mV 6 1,
cL 7 xG [5,6],
bN 8 .geq 7 (cI 0),
mV 4 8] [4])
.ret))
def iM:AFun:=⟨2,[.t 4],z0G,true,false⟩
def oN (C:Hd)(gl:GL)(v0 v1:AV)(h:aA)(x:Esc)(K:KT):Prop:=
 C xG [v0,v1] h fun t1 h2 y3=>
 pK (eA .geq t1 (AI 0)) fun t4=>
 K .ret ⟨[(4,t4)],h2,(y3++x)⟩
theorem z7d {C gl v0 v1 h x K}:NW C gl iM.body ⟨enter [v0,v1],h,x⟩ K=oN C gl v0 v1 h x K:=by kernel_rfl
def z0u:ACode:=(.seq (rg [uO 2 (.box 0),
mV 3 cF] [1,2])
(.seq (rg [fA 4 0 none 2,
lD 5 none 4,
fA 6 0 none 1,
lD 7 none 6,
bN 8 .eql 5 7,
mV 9 8,
gD 10 9 true (.faddr 1 none 2),
gD 11 9 true (.load none 10),
gD 12 9 true (.faddr 1 none 1),
gD 13 9 true (.load none 12),
gD 14 9 true (.bin .eql 11 13),
uO 15 (.pick 9 14 cF),
mV 3 15] [3])
.ret))
def PL:AFun:=⟨2,[.t 3],z0u,false,false⟩
def KJ (C:Hd)(gl:GL)(v0 v1:AV)(h:aA)(x:Esc)(K:KT):Prop:=
 wK (iB v0 h) fun t1 h2 y3=>
 pK (nA 0 none t1) fun t4=>
 pK (jA none t4 h2) fun t5=>
 pK (nA 0 none v1) fun t6=>
 pK (jA none t6 h2) fun t7=>
 pK (eA .eql t5 t7) fun t8=>
 gP t8 true (nA 1 none t1) h2 fun t9 h10 y11=>
 gP t8 true (jA none t9 h10) h10 fun t12 h13 y14=>
 gP t8 true (nA 1 none v1) h13 fun t15 h16 y17=>
 gP t8 true (jA none t15 h16) h16 fun t18 h19 y20=>
 gP t8 true (eA .eql t12 t18) h19 fun t21 h22 y23=>
 pK (QA t8 t21 (AB false)) fun t24=>
 K .ret ⟨[(3,t24)],h22,(y23++(y20++(y17++(y14++(y11++(y3++x))))))⟩
theorem z5J {C gl v0 v1 h x K}:NW C gl PL.body ⟨enter [v0,v1],h,x⟩ K=KJ C gl v0 v1 h x K:=by kernel_rfl
def z0y:ACode:=(.seq (rg [uO 3 (.box 0),
uO 5 (.box 2),
mV 6 cF] [1,3,5])
(.seq (rg [lD 8 (some 3) 3,
mV 9 1,
cL 10 kG [8,9],
mV 7 10] [3,5,7])
(.seq (rg [mV 11 7,
bN 12 .geq 11 (cI 0),
mV 13 12,
gD 14 13 true (.faddr 0 none 3),
gD 15 13 true (.load none 14),
gD 16 13 true (.mv 7),
gD 17 13 true (.iaddr (some 2) 15 16),
gD 18 13 true (.faddr 1 none 17),
gD 19 13 true (.load none 18),
gD 20 13 true (.mkfn tF [5]),
gD 21 13 true (.call DE [19,20]),
uO 22 (.pick 13 21 cF),
mV 6 22] [6])
.ret)))
def XL:AFun:=⟨3,[.t 6],z0y,false,false⟩
def OJ (C:Hd)(gl:GL)(v0 v1 v2:AV)(h:aA)(x:Esc)(K:KT):Prop:=
 wK (iB v0 h) fun t1 h2 y3=>
 wK (iB v2 h2) fun t4 h5 y6=>
 pK (jA (some 3) t1 h5) fun t7=>
 C kG [t7,v1] h5 fun t8 h9 y10=>
 pK (eA .geq t8 (AI 0)) fun t11=>
 gP t11 true (nA 0 none t1) h9 fun t12 h13 y14=>
 gP t11 true (jA none t12 h13) h13 fun t15 h16 y17=>
 gM t11 true t8 h16 fun t18 h19 y20=>
 gP t11 true (sA (some 2) t15 t18 h19) h19 fun t21 h22 y23=>
 gP t11 true (nA 1 none t21) h22 fun t24 h25 y26=>
 gP t11 true (jA none t24 h25) h25 fun t27 h28 y29=>
 gM t11 true (.fn tF [t4]) h28 fun t30 h31 y32=>
 gV t11 true h31 (C DE [t27,t30] h31) fun t33 h34 y35=>
 pK (QA t11 t33 (AB false)) fun t36=>
 K .ret ⟨[(6,t36)],h34,(y35++(y32++(y29++(y26++(y23++(y20++(y17++(y14++(y10++(y6++(y3++x)))))))))))⟩
theorem z6h {C gl v0 v1 v2 h x K}:NW C gl XL.body ⟨enter [v0,v1,v2],h,x⟩ K=OJ C gl v0 v1 v2 h x K:=by kernel_rfl
def z0s:ACode:=(.seq (rg [uO 2 (.box 0),
uO 3 (.box 1),
mV 4 (cI 0)] [2,3])
(.seq (dr [dF (fA 5 0 none 2) [2],
dF (lD 6 none 5) [5],
dF (fA 7 0 none 3) [3],
dF (lD 8 none 7) [7],
dT (cL 9 FC [6,8]) [6,8],
dF (fA 10 1 none 2) [2],
dA (lD 11 none 10) [10] false [4] [],
dF (fA 12 1 none 3) [3],
dA (lD 13 none 12) [12] false [4] [],
dT (cL 14 FC [11,13]) [11,13],
dF (fA 15 2 none 2) [2],
dA (lD 16 none 15) [15] false [4,9] [],
dF (fA 17 2 none 3) [3],
dA (lD 18 none 17) [17] false [4,9] [],
dT (cL 19 FC [16,18]) [16,18],
dF (uO 20 (.bsl false none 3 (.int .i64 0) [(0,9),(1,14),(2,19)])) [9,14,19],
dT (cL 21 BE [20]) [20],
dF (mV 4 21) [21]] [4])
.ret))
def LL:AFun:=⟨2,[.t 4],z0s,false,false⟩
def HM (C:Hd)(gl:GL)(v0 v1:AV)(h:aA)(x:Esc)(K:KT):Prop:=
 wK (iB v0 h) fun t1 h2 y3=>
 wK (iB v1 h2) fun t4 h5 y6=>
 pK (nA 0 none t1) fun t7=>
 pK (jA none t7 h5) fun t8=>
 pK (nA 0 none t4) fun t9=>
 pK (jA none t9 h5) fun t10=>
 MB C FC [t8,t10] h5 fun t11 h12 y13=>
 pK (nA 1 none t1) fun t14=>
 pK (jA none t14 h12) fun t15=>
 (pK (jA none t14 h5) fun v=>(fun u (g1:aA) (y1:Esc)=>u=t15∧g1=h5∧y1=[]) v h5 [])∧(pK (nA 1 none t4) fun t16=>
 pK (jA none t16 h12) fun t17=>
 (pK (jA none t16 h5) fun v=>(fun u (g1:aA) (y1:Esc)=>u=t17∧g1=h5∧y1=[]) v h5 [])∧(MB C FC [t15,t17] h12 fun t18 h19 y20=>
 pK (nA 2 none t1) fun t21=>
 pK (jA none t21 h19) fun t22=>
 (pK (jA none t21 h5) fun v=>(fun u (g1:aA) (y1:Esc)=>u=t22∧g1=h5∧y1=[]) v h5 [])∧((pK (jA none t21 h12) fun v=>(fun u (g1:aA) (y1:Esc)=>u=t22∧g1=h12∧y1=[]) v h12 [])∧(pK (nA 2 none t4) fun t23=>
 pK (jA none t23 h19) fun t24=>
 (pK (jA none t23 h5) fun v=>(fun u (g1:aA) (y1:Esc)=>u=t24∧g1=h5∧y1=[]) v h5 [])∧((pK (jA none t23 h12) fun v=>(fun u (g1:aA) (y1:Esc)=>u=t24∧g1=h12∧y1=[]) v h12 [])∧(MB C FC [t22,t24] h19 fun t25 h26 y27=>
 wK (wB false none 3 (.int .i64 0) [(0,t11),(1,t18),(2,t25)] h26) fun t28 h29 y30=>
 (h29=h26∧y30=[])∧(MB C BE [t28] h29 fun t31 h32 y33=>
 K .ret ⟨[(4,t31)],h32,(y33++(y30++(y27++(y20++(y13++(y6++(y3++x)))))))⟩)))))))
theorem z57 {C gl v0 v1 h x K}:NW C gl LL.body ⟨enter [v0,v1],h,x⟩ K=HM C gl v0 v1 h x K:=by kernel_rfl
def iH:ACode:=.pr [0,1,7,8] (.seq (rg [bN 9 .lss 8 7] [0,1,7,8,9])
(.seq (.cond 9 .skip
(.exit 0))
(.seq (.block 1 (.seq (rg [mV 10 8,
mV 5 10] [0,1,5,7,8])
(.seq (rg [mV 11 1,
mV 12 0,
mV 13 5,
iA 14 none 12 13,
lD 15 none 14,
bN 16 .eql 11 15] [0,1,5,7,8,16])
(.cond 16 (.seq (rg [mV 17 5,
mV 4 17] [4])
.ret)
.skip))))
(rg [bN 18 .add 8 (cI 1),
mV 8 18] [0,1,7,8]))))
def tT (C:Hd)(gl:GL)(v0 v1 v7 v8:AV)(h:aA)(x:Esc)(K:KT):Prop:=
 pK (eA .lss v8 v7) fun t1=>
 mA t1 (pK (sA none v0 v8 h) fun t2=>
 pK (jA none t2 h) fun t3=>
 pK (eA .eql v1 t3) fun t4=>
 mA t4 (K .ret ⟨[(4,v8)],h,x⟩)
 (pK (eA .add v8 (AI 1)) fun t5=>
 K .normal ⟨[(0,v0),(1,v1),(7,v7),(8,t5)],h,x⟩))
 (K (.exit 0) ⟨[(0,v0),(1,v1),(7,v7),(8,v8),(9,t1)],h,x⟩)
theorem z7u {C gl e h x K}:NW C gl iH ⟨e,h,x⟩ K=tT C gl (bA e 0) (bA e 1) (bA e 7) (bA e 8) h x K:=by kernel_rfl
theorem z9t {C gl e h x K}:NW C gl (.loop iH) ⟨e,h,x⟩ K=GA C gl iH K [(0,bA e 0),(1,bA e 1),(7,bA e 7),(8,bA e 8)] h x:=uB
def ZK:ACode:=.pr [] (.seq (rg [mV 4 (cI (-1))] [4])
.ret)
def uT (C:Hd)(gl:GL)(h:aA)(x:Esc)(K:KT):Prop:=
 K .ret ⟨[(4,(AI (-1)))],h,x⟩
theorem z7v {C gl e h x K}:NW C gl ZK ⟨e,h,x⟩ K=uT C gl h x K:=by kernel_rfl
def KQ (q1 q2:ACode):ACode:=(.seq (rg [mV 4 (cI 0)] [0,1])
(.seq (.seq (rg [mV 6 0,
lN 7 6,
mV 8 (cI 0)] [0,1,7,8])
(.block 0 (.loop q1)))
q2))
def tJ:AFun:=⟨2,[.t 4],KQ iH ZK,true,false⟩
def WJ (C:Hd)(gl:GL)(q1 q2:ACode)(v0 v1:AV)(h:aA)(x:Esc)(K:KT):Prop:=
 pK (zA v0) fun t1=>
 NW C gl (.loop q1) ⟨[(0,v0),(1,v1),(7,t1),(8,(AI 0))],h,x⟩ (CA 0 (FA C gl q2 K))
theorem ZZ {C gl q1 q2 v0 v1 h x K}:NW C gl (KQ q1 q2) ⟨enter [v0,v1],h,x⟩ K=WJ C gl q1 q2 v0 v1 h x K:=by kernel_rfl
theorem z7t {C gl v0 v1 h x K}:NW C gl tJ.body ⟨enter [v0,v1],h,x⟩ K=WJ C gl iH ZK v0 v1 h x K:=ZZ
def z03:ACode:=(.seq (rg [mV 2 cF] [0])
(.seq (rg [mV 3 0,
cL 4 ZA [3,(cI 3),(cI 5)],
uO 5 (.un .not 4),
mV 2 5] [2])
.ret))
def kJ:AFun:=⟨1,[.t 2],z03,false,false⟩
def NS (C:Hd)(gl:GL)(v0:AV)(h:aA)(x:Esc)(K:KT):Prop:=
 C ZA [v0,(AI 3),(AI 5)] h fun t1 h2 y3=>
 pK (oUn .not t1) fun t4=>
 K .ret ⟨[(2,t4)],h2,(y3++x)⟩
theorem z62 {C gl v0 h x K}:NW C gl kJ.body ⟨enter [v0],h,x⟩ K=NS C gl v0 h x K:=by kernel_rfl
def z0I:ACode:=(.seq (rg [mV 4 cF] [0,1])
(.seq (rg [mV 5 0,
mV 6 1,
cL 7 yG [5,6],
bN 8 .geq 7 (cI 0),
mV 4 8] [4])
.ret))
def qJ:AFun:=⟨2,[.t 4],z0I,true,false⟩
def kT (C:Hd)(gl:GL)(v0 v1:AV)(h:aA)(x:Esc)(K:KT):Prop:=
 C yG [v0,v1] h fun t1 h2 y3=>
 pK (eA .geq t1 (AI 0)) fun t4=>
 K .ret ⟨[(4,t4)],h2,(y3++x)⟩
theorem z7e {C gl v0 v1 h x K}:NW C gl qJ.body ⟨enter [v0,v1],h,x⟩ K=kT C gl v0 v1 h x K:=by kernel_rfl
def eH:ACode:=.pr [0,1,7,8] (.seq (rg [bN 9 .lss 8 7] [0,1,7,8,9])
(.seq (.cond 9 .skip
(.exit 0))
(.seq (.block 1 (.seq (rg [mV 10 8,
mV 5 10] [0,1,5,7,8])
(.seq (rg [mV 11 1,
mV 12 0,
mV 13 5,
iA 14 (some 4) 12 13,
lD 15 (some 4) 14,
uO 16 (.callv 11 [15])] [0,1,5,7,8,16])
(.cond 16 (.seq (rg [mV 17 5,
mV 4 17] [4])
.ret)
.skip))))
(rg [bN 18 .add 8 (cI 1),
mV 8 18] [0,1,7,8]))))
def nT (C:Hd)(gl:GL)(v0 v1 v7 v8:AV)(h:aA)(x:Esc)(K:KT):Prop:=
 pK (eA .lss v8 v7) fun t1=>
 mA t1 (pK (sA (some 4) v0 v8 h) fun t2=>
 pK (jA (some 4) t2 h) fun t3=>
 pC C v1 [t3] h fun t4 h5 y6=>
 mA t4 (K .ret ⟨[(4,v8)],h5,(y6++x)⟩)
 (pK (eA .add v8 (AI 1)) fun t7=>
 K .normal ⟨[(0,v0),(1,v1),(7,v7),(8,t7)],h5,(y6++x)⟩))
 (K (.exit 0) ⟨[(0,v0),(1,v1),(7,v7),(8,v8),(9,t1)],h,x⟩)
theorem z7l {C gl e h x K}:NW C gl eH ⟨e,h,x⟩ K=nT C gl (bA e 0) (bA e 1) (bA e 7) (bA e 8) h x K:=by kernel_rfl
theorem z9q {C gl e h x K}:NW C gl (.loop eH) ⟨e,h,x⟩ K=GA C gl eH K [(0,bA e 0),(1,bA e 1),(7,bA e 7),(8,bA e 8)] h x:=uB
def WK:ACode:=.pr [] (.seq (rg [mV 4 (cI (-1))] [4])
.ret)
def oT (C:Hd)(gl:GL)(h:aA)(x:Esc)(K:KT):Prop:=
 K .ret ⟨[(4,(AI (-1)))],h,x⟩
theorem z7m {C gl e h x K}:NW C gl WK ⟨e,h,x⟩ K=oT C gl h x K:=by kernel_rfl
def HQ (q1 q2:ACode):ACode:=(.seq (rg [mV 4 (cI 0)] [0,1])
(.seq (.seq (rg [mV 6 0,
lN 7 6,
mV 8 (cI 0)] [0,1,7,8])
(.block 0 (.loop q1)))
q2))
def kM:AFun:=⟨2,[.t 4],HQ eH WK,true,false⟩
def VJ (C:Hd)(gl:GL)(q1 q2:ACode)(v0 v1:AV)(h:aA)(x:Esc)(K:KT):Prop:=
 pK (zA v0) fun t1=>
 NW C gl (.loop q1) ⟨[(0,v0),(1,v1),(7,t1),(8,(AI 0))],h,x⟩ (CA 0 (FA C gl q2 K))
theorem WZ {C gl q1 q2 v0 v1 h x K}:NW C gl (HQ q1 q2) ⟨enter [v0,v1],h,x⟩ K=VJ C gl q1 q2 v0 v1 h x K:=by kernel_rfl
theorem z7k {C gl v0 v1 h x K}:NW C gl kM.body ⟨enter [v0,v1],h,x⟩ K=VJ C gl eH WK v0 v1 h x K:=WZ
def z0v:ACode:=(.seq (rg [uO 2 (.box 0),
mV 4 (cI 0)] [1,2])
(.seq (rg [fA 8 0 none 2,
lD 9 none 8,
mV 10 1,
cL 11 wF [9,10,(.f bE)],
mV 7 11,
eX 12 7 0,
eX 13 7 1,
mV 5 12,
mV 6 13] [5,6])
(.seq (.seq (rg [mV 14 6,
uO 15 (.un .not 14)] [5,15])
(.cond 15 (.seq (rg [mV 4 (cI (-1))] [4])
.ret)
.skip))
(.seq (rg [mV 16 5,
mV 4 16] [4])
.ret))))
def QL:AFun:=⟨2,[.t 4],z0v,false,false⟩
def LJ (C:Hd)(gl:GL)(v0 v1:AV)(h:aA)(x:Esc)(K:KT):Prop:=
 wK (iB v0 h) fun t1 h2 y3=>
 pK (nA 0 none t1) fun t4=>
 pK (jA none t4 h2) fun t5=>
 C wF [t5,v1,(.fn bE [])] h2 fun t6 h7 y8=>
 pK (xB t6 0) fun t9=>
 pK (xB t6 1) fun t10=>
 pK (oUn .not t10) fun t11=>
 mA t11 (K .ret ⟨[(4,(AI (-1)))],h7,(y8++(y3++x))⟩)
 (K .ret ⟨[(4,t9)],h7,(y8++(y3++x))⟩)
theorem z5K {C gl v0 v1 h x K}:NW C gl QL.body ⟨enter [v0,v1],h,x⟩ K=LJ C gl v0 v1 h x K:=by kernel_rfl
def z0z:ACode:=(.seq (rg [uO 2 (.box 0),
mV 3 cF] [1,2])
(.seq (rg [lD 4 (some 4) 2,
cL 5 VC [4],
mV 6 5,
gD 7 6 true (.faddr 1 none 2),
gD 8 6 true (.load none 7),
gD 9 6 true (.load none 1),
gD 10 6 true (.bin .eql 8 9),
uO 11 (.pick 6 10 cF),
mV 3 11] [3])
.ret))
def YL:AFun:=⟨2,[.t 3],z0z,false,false⟩
def PJ (C:Hd)(gl:GL)(v0 v1:AV)(h:aA)(x:Esc)(K:KT):Prop:=
 wK (iB v0 h) fun t1 h2 y3=>
 pK (jA (some 4) t1 h2) fun t4=>
 C VC [t4] h2 fun t5 h6 y7=>
 gP t5 true (nA 1 none t1) h6 fun t8 h9 y10=>
 gP t5 true (jA none t8 h9) h9 fun t11 h12 y13=>
 gP t5 true (jA none v1 h12) h12 fun t14 h15 y16=>
 gP t5 true (eA .eql t11 t14) h15 fun t17 h18 y19=>
 pK (QA t5 t17 (AB false)) fun t20=>
 K .ret ⟨[(3,t20)],h18,(y19++(y16++(y13++(y10++(y7++(y3++x))))))⟩
theorem z6i {C gl v0 v1 h x K}:NW C gl YL.body ⟨enter [v0,v1],h,x⟩ K=PJ C gl v0 v1 h x K:=by kernel_rfl
def UG:ACode:=.pr [3,6,7,8] (.seq (rg [bN 9 .lss 8 7] [3,6,7,8,9])
(.seq (.cond 9 .skip
(.exit 0))
(.seq (.block 1 (.seq (rg [iA 10 none 6 8,
lD 11 none 10,
mV 5 11] [3,5,6,7,8])
(.seq (rg [mV 12 5,
mV 13 3,
bN 14 .neq 12 13] [3,5,6,7,8,14])
(.cond 14 (.seq (rg [mV 15 5,
mV 2 15] [2])
.ret)
.skip))))
(rg [bN 16 .add 8 (cI 1),
mV 8 16] [3,6,7,8]))))
def zS (C:Hd)(gl:GL)(v3 v6 v7 v8:AV)(h:aA)(x:Esc)(K:KT):Prop:=
 pK (eA .lss v8 v7) fun t1=>
 mA t1 (pK (sA none v6 v8 h) fun t2=>
 pK (jA none t2 h) fun t3=>
 pK (eA .neq t3 v3) fun t4=>
 mA t4 (K .ret ⟨[(2,t3)],h,x⟩)
 (pK (eA .add v8 (AI 1)) fun t5=>
 K .normal ⟨[(3,v3),(6,v6),(7,v7),(8,t5)],h,x⟩))
 (K (.exit 0) ⟨[(3,v3),(6,v6),(7,v7),(8,v8),(9,t1)],h,x⟩)
theorem z6k {C gl e h x K}:NW C gl UG ⟨e,h,x⟩ K=zS C gl (bA e 3) (bA e 6) (bA e 7) (bA e 8) h x K:=by kernel_rfl
theorem z8Z {C gl e h x K}:NW C gl (.loop UG) ⟨e,h,x⟩ K=GA C gl UG K [(3,bA e 3),(6,bA e 6),(7,bA e 7),(8,bA e 8)] h x:=uB
def JK:ACode:=.pr [3] (.seq (rg [mV 17 3,
mV 2 17] [2])
.ret)
def BS (C:Hd)(gl:GL)(v3:AV)(h:aA)(x:Esc)(K:KT):Prop:=
 K .ret ⟨[(2,v3)],h,x⟩
theorem z6l {C gl e h x K}:NW C gl JK ⟨e,h,x⟩ K=BS C gl (bA e 3) h x K:=by kernel_rfl
def mQ (q1 q2:ACode):ACode:=(.seq (rg [mV 2 (cI 0)] [0])
(.seq (rg [mV 3 (cI 0)] [0,3])
(.seq (.seq (rg [mV 6 0,
lN 7 6,
mV 8 (cI 0)] [3,6,7,8])
(.block 0 (.loop q1)))
q2)))
def eJ:AFun:=⟨1,[.t 2],mQ UG JK,false,false⟩
def QJ (C:Hd)(gl:GL)(q1 q2:ACode)(v0:AV)(h:aA)(x:Esc)(K:KT):Prop:=
 pK (zA v0) fun t1=>
 NW C gl (.loop q1) ⟨[(3,(AI 0)),(6,v0),(7,t1),(8,(AI 0))],h,x⟩ (CA 0 (FA C gl q2 K))
theorem AZ {C gl q1 q2 v0 h x K}:NW C gl (mQ q1 q2) ⟨enter [v0],h,x⟩ K=QJ C gl q1 q2 v0 h x K:=by kernel_rfl
theorem z6j {C gl v0 h x K}:NW C gl eJ.body ⟨enter [v0],h,x⟩ K=QJ C gl UG JK v0 h x K:=AZ
def z1g:ACode:=(.seq (rg [mV 4 (cI 0)] [0,1])
(.seq (rg [mV 5 0,
mV 6 1,
cL 7 uF [5,6],
mV 4 7] [4])
.ret))
def uJ:AFun:=⟨2,[.t 4],z1g,false,false⟩
def uN (C:Hd)(gl:GL)(v0 v1:AV)(h:aA)(x:Esc)(K:KT):Prop:=
 C uF [v0,v1] h fun t1 h2 y3=>
 K .ret ⟨[(4,t1)],h2,(y3++x)⟩
theorem z7w {C gl v0 v1 h x K}:NW C gl uJ.body ⟨enter [v0,v1],h,x⟩ K=uN C gl v0 v1 h x K:=by kernel_rfl
def gH:ACode:=.pr [0,1,7,8] (.seq (rg [bN 9 .lss 8 7] [0,1,7,8,9])
(.seq (.cond 9 .skip
(.exit 0))
(.seq (.block 1 (.seq (rg [mV 10 8,
mV 5 10] [0,1,5,7,8])
(.seq (rg [mV 11 1,
mV 12 0,
mV 13 5,
iA 14 none 12 13,
lD 15 none 14,
bN 16 .eql 11 15] [0,1,5,7,8,16])
(.cond 16 (.seq (rg [mV 17 5,
mV 4 17] [4])
.ret)
.skip))))
(rg [bN 18 .add 8 (cI 1),
mV 8 18] [0,1,7,8]))))
def rT (C:Hd)(gl:GL)(v0 v1 v7 v8:AV)(h:aA)(x:Esc)(K:KT):Prop:=
 pK (eA .lss v8 v7) fun t1=>
 mA t1 (pK (sA none v0 v8 h) fun t2=>
 pK (jA none t2 h) fun t3=>
 pK (eA .eql v1 t3) fun t4=>
 mA t4 (K .ret ⟨[(4,v8)],h,x⟩)
 (pK (eA .add v8 (AI 1)) fun t5=>
 K .normal ⟨[(0,v0),(1,v1),(7,v7),(8,t5)],h,x⟩))
 (K (.exit 0) ⟨[(0,v0),(1,v1),(7,v7),(8,v8),(9,t1)],h,x⟩)
theorem z7r {C gl e h x K}:NW C gl gH ⟨e,h,x⟩ K=rT C gl (bA e 0) (bA e 1) (bA e 7) (bA e 8) h x K:=by kernel_rfl
theorem z9s {C gl e h x K}:NW C gl (.loop gH) ⟨e,h,x⟩ K=GA C gl gH K [(0,bA e 0),(1,bA e 1),(7,bA e 7),(8,bA e 8)] h x:=uB
def YK:ACode:=.pr [] (.seq (rg [mV 4 (cI (-1))] [4])
.ret)
def sT (C:Hd)(gl:GL)(h:aA)(x:Esc)(K:KT):Prop:=
 K .ret ⟨[(4,(AI (-1)))],h,x⟩
theorem z7s {C gl e h x K}:NW C gl YK ⟨e,h,x⟩ K=sT C gl h x K:=by kernel_rfl
def JQ (q1 q2:ACode):ACode:=(.seq (rg [mV 4 (cI 0)] [0,1])
(.seq (.seq (rg [mV 6 0,
lN 7 6,
mV 8 (cI 0)] [0,1,7,8])
(.block 0 (.loop q1)))
q2))
def sJ:AFun:=⟨2,[.t 4],JQ gH YK,true,false⟩
def tN (C:Hd)(gl:GL)(q1 q2:ACode)(v0 v1:AV)(h:aA)(x:Esc)(K:KT):Prop:=
 pK (zA v0) fun t1=>
 NW C gl (.loop q1) ⟨[(0,v0),(1,v1),(7,t1),(8,(AI 0))],h,x⟩ (CA 0 (FA C gl q2 K))
theorem YZ {C gl q1 q2 v0 v1 h x K}:NW C gl (JQ q1 q2) ⟨enter [v0,v1],h,x⟩ K=tN C gl q1 q2 v0 v1 h x K:=by kernel_rfl
theorem z7q {C gl v0 v1 h x K}:NW C gl sJ.body ⟨enter [v0,v1],h,x⟩ K=tN C gl gH YK v0 v1 h x K:=YZ
def bH:ACode:=.pr [0,1,2,8,9,10] (.seq (.seq (rg [mV 15 9,
mV 16 10,
bN 17 .lss 15 16] [0,1,2,8,9,10,17])
(.cond 17 .skip
(.exit 0)))
(.block 1 (.seq (rg [mV 18 9,
mV 19 10,
bN 20 .add 18 19,
uO 21 (.conv (.i .u64) 20),
bN 22 .shr 21 (.c (.p (.int .u64 1))),
uO 23 (.conv (.i .i64) 22),
mV 11 23] [0,1,2,8,9,10,11])
(.seq (rg [mV 24 2,
mV 25 0,
mV 26 11,
iA 27 (some 2) 25 26,
lD 28 (some 2) 27,
mV 29 1,
uO 30 (.callv 24 [28,29]),
bN 31 .lss 30 (cI 0)] [0,1,2,8,9,10,11,31])
(.cond 31 (rg [mV 32 11,
bN 33 .add 32 (cI 1),
mV 9 33] [0,1,2,8,9,10])
(rg [mV 34 11,
mV 10 34] [0,1,2,8,9,10]))))))
def bT (C:Hd)(gl:GL)(v0 v1 v2 v8 v9 v10:AV)(h:aA)(x:Esc)(K:KT):Prop:=
 pK (eA .lss v9 v10) fun t1=>
 mA t1 (pK (eA .add v9 v10) fun t2=>
 pK (ED .u64 t2) fun t3=>
 pK (eA .shr t3 (.p (.int .u64 1))) fun t4=>
 pK (ED .i64 t4) fun t5=>
 pK (sA (some 2) v0 t5 h) fun t6=>
 pK (jA (some 2) t6 h) fun t7=>
 pC C v2 [t7,v1] h fun t8 h9 y10=>
 pK (eA .lss t8 (AI 0)) fun t11=>
 mA t11 (pK (eA .add t5 (AI 1)) fun t12=>
 K .normal ⟨[(0,v0),(1,v1),(2,v2),(8,v8),(9,t12),(10,v10)],h9,(y10++x)⟩)
 (K .normal ⟨[(0,v0),(1,v1),(2,v2),(8,v8),(9,v9),(10,t5)],h9,(y10++x)⟩))
 (K (.exit 0) ⟨[(0,v0),(1,v1),(2,v2),(8,v8),(9,v9),(10,v10),(17,t1)],h,x⟩)
theorem z6U {C gl e h x K}:NW C gl bH ⟨e,h,x⟩ K=bT C gl (bA e 0) (bA e 1) (bA e 2) (bA e 8) (bA e 9) (bA e 10) h x K:=by kernel_rfl
theorem z9m {C gl e h x K}:NW C gl (.loop bH) ⟨e,h,x⟩ K=GA C gl bH K [(0,bA e 0),(1,bA e 1),(2,bA e 2),(8,bA e 8),(9,bA e 9),(10,bA e 10)] h x:=uB
def TK:ACode:=.pr [0,1,2,8,9] (.seq (rg [mV 35 9,
mV 36 9,
mV 37 8,
bN 38 .lss 36 37,
mV 39 38,
gD 40 39 true (.mv 2),
gD 41 39 true (.mv 0),
gD 42 39 true (.mv 9),
gD 43 39 true (.iaddr (some 2) 41 42),
gD 44 39 true (.load (some 2) 43),
gD 45 39 true (.mv 1),
gD 46 39 true (.callv 40 [44,45]),
gD 47 39 true (.bin .eql 46 (cI 0)),
uO 48 (.pick 39 47 cF),
mV 6 35,
mV 7 48] [6,7])
.ret)
def eT (C:Hd)(gl:GL)(v0 v1 v2 v8 v9:AV)(h:aA)(x:Esc)(K:KT):Prop:=
 pK (eA .lss v9 v8) fun t1=>
 gM t1 true v2 h fun t2 h3 y4=>
 gM t1 true v0 h3 fun t5 h6 y7=>
 gM t1 true v9 h6 fun t8 h9 y10=>
 gP t1 true (sA (some 2) t5 t8 h9) h9 fun t11 h12 y13=>
 gP t1 true (jA (some 2) t11 h12) h12 fun t14 h15 y16=>
 gM t1 true v1 h15 fun t17 h18 y19=>
 gV t1 true h18 (pC C t2 [t14,t17] h18) fun t20 h21 y22=>
 gP t1 true (eA .eql t20 (AI 0)) h21 fun t23 h24 y25=>
 pK (QA t1 t23 (AB false)) fun t26=>
 K .ret ⟨[(6,v9),(7,t26)],h24,(y25++(y22++(y19++(y16++(y13++(y10++(y7++(y4++x))))))))⟩
theorem z6V {C gl e h x K}:NW C gl TK ⟨e,h,x⟩ K=eT C gl (bA e 0) (bA e 1) (bA e 2) (bA e 8) (bA e 9) h x K:=by kernel_rfl
def BQ (q1 q2:ACode):ACode:=(.seq (rg [mV 6 (cI 0),
mV 7 cF] [0,1,2])
(.seq (rg [mV 12 0,
lN 13 12,
mV 8 13] [0,1,2,8])
(.seq (rg [mV 14 8,
mV 9 (cI 0),
mV 10 14] [0,1,2,8,9,10])
(.seq (.block 0 (.loop q1))
q2))))
def eM:AFun:=⟨3,[.t 6,.t 7],BQ bH TK,false,false⟩
def UJ (C:Hd)(gl:GL)(q1 q2:ACode)(v0 v1 v2:AV)(h:aA)(x:Esc)(K:KT):Prop:=
 pK (zA v0) fun t1=>
 NW C gl (.loop q1) ⟨[(0,v0),(1,v1),(2,v2),(8,t1),(9,(AI 0)),(10,t1)],h,x⟩ (CA 0 (FA C gl q2 K))
theorem QZ {C gl q1 q2 v0 v1 v2 h x K}:NW C gl (BQ q1 q2) ⟨enter [v0,v1,v2],h,x⟩ K=UJ C gl q1 q2 v0 v1 v2 h x K:=by kernel_rfl
theorem z6T {C gl v0 v1 v2 h x K}:NW C gl eM.body ⟨enter [v0,v1,v2],h,x⟩ K=UJ C gl bH TK v0 v1 v2 h x K:=QZ
def z0w:ACode:=(.seq (rg [uO 2 (.box 0),
mV 4 (cI 0)] [1,2])
(.seq (rg [fA 5 0 none 2,
lD 6 none 5,
mV 7 1,
cL 8 FC [6,7],
mV 4 8] [4])
.ret))
def RL:AFun:=⟨2,[.t 4],z0w,false,false⟩
def LM (C:Hd)(gl:GL)(v0 v1:AV)(h:aA)(x:Esc)(K:KT):Prop:=
 wK (iB v0 h) fun t1 h2 y3=>
 pK (nA 0 none t1) fun t4=>
 pK (jA none t4 h2) fun t5=>
 C FC [t5,v1] h2 fun t6 h7 y8=>
 K .ret ⟨[(4,t6)],h7,(y8++(y3++x))⟩
theorem z5L {C gl v0 v1 h x K}:NW C gl RL.body ⟨enter [v0,v1],h,x⟩ K=LM C gl v0 v1 h x K:=by kernel_rfl
def z05:ACode:=(.seq (rg [mV 4 (cI 0)] [0,1])
(.seq (rg [mV 5 0,
mV 6 1,
cL 7 zD [5,6],
mV 4 7] [4])
.ret))
def pJ:AFun:=⟨2,[.t 4],z05,false,false⟩
def gN (C:Hd)(gl:GL)(v0 v1:AV)(h:aA)(x:Esc)(K:KT):Prop:=
 C zD [v0,v1] h fun t1 h2 y3=>
 K .ret ⟨[(4,t1)],h2,(y3++x)⟩
theorem z6M {C gl v0 v1 h x K}:NW C gl pJ.body ⟨enter [v0,v1],h,x⟩ K=gN C gl v0 v1 h x K:=by kernel_rfl
def zau:ACode:=.pr [5,6,7] (.seq (rg [bN 8 .lss 7 6] [5,6,7,8])
(.seq (.cond 8 .skip
(.exit 0))
(.seq (.block 1 (.seq (rg [iA 9 none 5 7,
lD 10 none 9,
mV 4 10] [4,5,6,7])
(.seq (rg [mV 11 4,
bN 12 .neq 11 (cI 0)] [4,5,6,7,12])
(.cond 12 (.seq (rg [mV 13 4,
mV 2 13] [2])
.ret)
.skip))))
(rg [bN 14 .add 7 (cI 1),
mV 7 14] [5,6,7]))))
def zav:ACode:=.pr [] (.seq (rg [mV 2 (cI 0)] [2])
.ret)
def z0l (q1 q2:ACode):ACode:=(.seq (rg [mV 2 (cI 0)] [0])
(.seq (.seq (rg [mV 5 0,
lN 6 5,
mV 7 (cI 0)] [5,6,7])
(.block 0 (.loop q1)))
q2))
def z16:AFun:=⟨1,[.t 2],z0l zau zav,false,false⟩
def z0m:ACode:=(.seq (rg [uO 4 (.alloc [.p (.int .i64 0),.p (.int .i64 0)])] [0,1,4])
(.seq (rg [mV 6 0,
mV 7 0,
uO 8 (.un .neg 7),
uO 9 (.mx [6,8]),
mV 10 1,
cL 11 ZT [9,10],
mV 5 11] [0,1,4,5])
(.seq (dr [dF (mV 12 0) [0],
dF (mV 13 5) [5],
dF (bN 14 .quo 12 13) [12,13],
dF (mV 15 1) [1],
dF (mV 16 5) [5],
dF (bN 17 .quo 15 16) [15,16],
dF (uO 18 (.build [.p (.int .i64 0),.p (.int .i64 0)] [(0,1,14),(1,1,17)])) [14,17],
dT (wO (.store (some 2) 4 18)) [4,18]] [4])
.ret)))
def z17:AFun:=⟨2,[.cell 4 (some 2)],z0m,false,false⟩
def zaw:ACode:=.pr [0,1] (.seq (.seq (rg [mV 5 1,
bN 6 .neq 5 (cI 0)] [0,1,6])
(.cond 6 .skip
(.exit 0)))
(.block 1 (dr [dF (mV 7 1) [1],
dF (mV 8 0) [0],
dF (mV 9 1) [1],
dF (bN 10 .rem 8 9) [8,9],
dF (mV 0 7) [7],
dF (mV 1 10) [10]] [0,1])))
def zax:ACode:=.pr [0] (.seq (rg [mV 11 0,
mV 4 11] [4])
.ret)
def z0n (q1 q2:ACode):ACode:=(.seq (rg [mV 4 (cI 0)] [0,1])
(.seq (.block 0 (.loop q1))
q2))
def z18:AFun:=⟨2,[.t 4],z0n zaw zax,false,false⟩
def z0o:ACode:=(.seq (rg [mV 2 cF] [0])
(.seq (rg [mV 3 0,
cL 4 ZA [3,(cI 0),(cI 345686399999)],
uO 5 (.un .not 4),
mV 2 5] [2])
.ret))
def z19:AFun:=⟨1,[.t 2],z0o,false,false⟩
def z00:ACode:=(.seq (rg [mV 4 (cI 0)] [0,1])
(.seq (rg [mV 7 0,
cL 8 LN [7],
mV 5 8] [0,1,5])
(.seq (rg [mV 9 1,
cL 10 LN [9],
mV 6 10] [0,1,5,6])
(.seq (.seq (rg [mV 11 5] [0,1,6,11])
(.cond 11 (.seq (.seq (rg [mV 12 6] [12])
(.cond 12 (.seq (rg [mV 4 (cI 0)] [4])
.ret)
.skip))
(.seq (rg [mV 4 (cI (-1))] [4])
.ret))
.skip))
(.seq (.seq (rg [mV 13 6] [0,1,13])
(.cond 13 (.seq (rg [mV 4 (cI 1)] [4])
.ret)
.skip))
(.seq (.seq (rg [mV 14 0,
mV 15 1,
bN 16 .lss 14 15] [0,1,16])
(.cond 16 (.seq (rg [mV 4 (cI (-1))] [4])
.ret)
.skip))
(.seq (.seq (rg [mV 17 0,
mV 18 1,
bN 19 .gtr 17 18] [19])
(.cond 19 (.seq (rg [mV 4 (cI 1)] [4])
.ret)
.skip))
(.seq (rg [mV 4 (cI 0)] [4])
.ret))))))))
def z1A:AFun:=⟨2,[.t 4],z00,false,false⟩
def z01:ACode:=(.seq (rg [mV 2 cF] [0])
(.seq (rg [mV 3 0,
mV 4 0,
bN 5 .neq 3 4,
mV 2 5] [2])
.ret))
def z1B:AFun:=⟨1,[.t 2],z01,false,false⟩
def z06:ACode:=(.seq (rg [uO 2 (.alloc [.p (.int .i64 0),.p (.int .i64 0)]),
uO 3 (.alloc [.p (.int .i64 0),.p (.int .i64 0)]),
mV 4 (cI 0)] [0,2,3])
(.seq (.seq (rg [mV 9 0,
cL 10 dU [9,(cI 1)],
mV 5 10] [0,2,3,5])
(.seq (rg [mV 11 5,
bN 12 .neq 11 (cI 0)] [0,2,3,5,12])
(.cond 12 (.seq (rg [uO 13 (.build [.p (.int .i64 0),.p (.int .i64 0)] []),
uO 14 (.build [.p (.int .i64 0),.p (.int .i64 0)] []),
mV 15 5,
wO (.store (some 2) 2 13),
wO (.store (some 2) 3 14),
mV 4 15] [2,3,4])
.ret)
.skip)))
(.seq (rg [mV 17 0,
cL 18 cU [17],
mV 16 18,
eX 19 16 0,
eX 20 16 1,
mV 6 19,
mV 7 20] [0,2,3,6,7])
(.seq (rg [mV 21 0,
lN 22 21,
mV 8 22] [2,3,6,7,8])
(.seq (rg [mV 23 6,
mV 24 8,
cL 25 IN [23,24],
mV 26 7,
mV 27 8,
mV 28 8,
bN 29 .mul 27 28,
cL 30 IN [26,29],
wO (.store (some 2) 2 25),
wO (.store (some 2) 3 30),
mV 4 (cI 0)] [2,3,4])
.ret)))))
def z1C:AFun:=⟨1,[.cell 2 (some 2),.cell 3 (some 2),.t 4],z06,false,false⟩
def z07:ACode:=(.seq (rg [mV 2 cF] [0])
(.seq (rg [mV 3 0,
cL 4 ZA [3,(cI (-100000)),(cI 100000)],
uO 5 (.un .not 4),
mV 2 5] [2])
.ret))
def z1D:AFun:=⟨1,[.t 2],z07,false,false⟩
def zay:ACode:=.pr [0,2,4,7,8,9] (.seq (rg [bN 10 .lss 9 8] [0,2,4,7,8,9,10])
(.seq (.cond 10 .skip
(.exit 0))
(.seq (.block 1 (.seq (rg [iA 11 none 7 9,
lD 12 none 11,
mV 6 12] [0,2,4,6,7,8,9])
(.seq (rg [mV 13 2,
mV 14 6,
bN 15 .add 13 14,
mV 2 15] [0,2,4,6,7,8,9])
(rg [mV 16 4,
mV 17 6,
mV 18 6,
bN 19 .mul 17 18,
bN 20 .add 16 19,
mV 4 20] [0,2,4,7,8,9]))))
(rg [bN 21 .add 9 (cI 1),
mV 9 21] [0,2,4,7,8,9]))))
def zaz:ACode:=.pr [0,2,4] (.seq (rg [mV 22 2,
mV 23 0,
lN 24 23,
mV 25 4,
bN 26 .mul 24 25,
mV 27 2,
mV 28 2,
bN 29 .mul 27 28,
bN 30 .sub 26 29,
mV 2 22,
mV 3 30] [2,3])
.ret)
def z08 (q1 q2:ACode):ACode:=(.seq (rg [mV 2 (cI 0),
mV 3 (cI 0)] [0,2])
(.seq (rg [mV 4 (cI 0)] [0,2,4])
(.seq (.seq (rg [mV 7 0,
lN 8 7,
mV 9 (cI 0)] [0,2,4,7,8,9])
(.block 0 (.loop q1)))
q2)))
def z1E:AFun:=⟨1,[.t 2,.t 3],z08 zay zaz,false,false⟩
def z09:ACode:=(.seq (rg [mV 4 (cI 0)] [0,1])
(.seq (.block 0 (.seq (rg [mV 6 0,
lN 7 6,
mV 8 1,
bN 9 .lss 7 8,
mV 5 9] [0,5])
(.cond 5 (.seq (rg [mV 4 (cI 8)] [4])
.ret)
(.seq (rg [mV 11 0,
lN 12 11,
bN 13 .gtr 12 (cI 5000),
mV 10 13] [0,10])
(.cond 10 (.seq (rg [mV 4 (cI 2)] [4])
.ret)
(.seq (rg [mV 15 0,
cL 16 fU [15,(.f eU)],
mV 14 16] [14])
(.cond 14 (.seq (rg [mV 4 (cI 1)] [4])
.ret)
.skip)))))))
(.seq (rg [mV 4 (cI 0)] [4])
.ret)))
def z1F:AFun:=⟨2,[.t 4],z09,false,false⟩
def z0A:ACode:=(.seq (rg [mV 2 cF] [0])
(.seq (rg [mV 3 0,
cL 4 bU [3],
uO 5 (.un .not 4),
mV 2 5] [2])
.ret))
def z1G:AFun:=⟨1,[.t 2],z0A,false,false⟩
def z0F:ACode:=(.seq (rg [mV 0 cF] [])
(.seq (rg [uO 11 (.bsl false none 1 (.str []) [(0,(cS [48,49]))]),
uO 12 (.bsl false none 1 (.int .i64 0) [(0,(cI 0))]),
uO 13 (.build [.p (.int .i64 0),.sl0 none] [(0,1,(cI 2)),(1,1,12)]),
cL 14 jD [11,13],
mV 10 14,
eX 15 10 0,
eX 16 10 1,
mV 1 15,
mV 2 16] [1,2])
(.seq (rg [uO 18 (.build [.p (.int .i64 0),.p (.int .i64 0),.p (.int .i64 0),.p (.str []),.p (.str []),.p (.str [])] [(0,1,(cI 7)),(3,1,(cS [49,48]))]),
uO 19 (.bsl false (some 6) 1 (.agg [.int .i64 0,.int .i64 0,.int .i64 0,.str [],.str [],.str []]) [(0,18)]),
cL 20 zU [19],
mV 17 20,
eX 21 17 0,
eX 22 17 1,
mV 3 21,
mV 4 22] [1,2,3,4])
(.seq (rg [uO 24 (.bsl false none 2 (.int .i64 0) [(0,(cI 1)),(1,(cI 3))]),
cL 25 aU [24],
mV 23 25,
eX 26 23 0,
eX 27 23 1,
eX 28 23 2,
uO 5 (.alloc [.p (.int .i64 0),.p (.int .i64 0)]),
uO 6 (.alloc [.p (.int .i64 0),.p (.int .i64 0)]),
wO (.store (some 2) 5 26),
wO (.store (some 2) 6 27),
mV 7 28] [1,2,3,4,5,7])
(.seq (rg [uO 30 (.bsl false none 1 (.str []) [(0,(cS [115,99,97,110]))]),
uO 31 (.build [.sl0 none,.p (.int .i64 0)] [(0,1,30),(1,1,(cI 1))]),
uO 32 (.build [.p (.str []),.p (.int .i64 0),.p (.int .i64 0),.p (.int .i64 0),.p (.str []),.p (.str []),.p (.str []),.p (.int .i64 0)] [(0,1,(cS [97])),(1,1,(cI 1)),(3,1,(cI 1)),(4,1,(cS [98]))]),
uO 33 (.bsl false (some 8) 1 (.agg [.str [],.int .i64 0,.int .i64 0,.int .i64 0,.str [],.str [],.str [],.int .i64 0]) [(0,32)]),
cL 34 kU [31,33,(cS [98]),(cI 0)],
mV 29 34,
eX 35 29 0,
eX 36 29 1,
uO 8 (.alloc [.p (.int .i64 0),.p (.int .i64 0),.p (.str []),.p (.str []),.p (.int .i64 0)]),
wO (.store (some 5) 8 35),
mV 9 36] [1,2,3,4,5,7,8,9])
(.seq (rg [mV 37 2,
bN 38 .eql 37 (cI 0),
mV 39 38,
gD 40 39 true (.mv 4),
gD 41 39 true (.bin .eql 40 (cI 0)),
uO 42 (.pick 39 41 cF),
mV 43 42,
gD 44 43 true (.mv 7),
gD 45 43 true (.bin .eql 44 (cI 0)),
uO 46 (.pick 43 45 cF),
mV 47 46,
gD 48 47 true (.mv 9),
gD 49 47 true (.bin .eql 48 (cI 0)),
uO 50 (.pick 47 49 cF),
mV 51 50,
gD 52 51 true (.mv 1),
gD 53 51 true (.len 52),
gD 54 51 true (.bin .eql 53 (cI 1)),
uO 55 (.pick 51 54 cF),
mV 56 55,
gD 57 56 true (.mv 1),
gD 58 56 true (.iaddr none 57 (cI 0)),
gD 59 56 true (.load none 58),
gD 60 56 true (.bin .eql 59 (cS [49,49])),
uO 61 (.pick 56 60 cF),
mV 62 61,
gD 63 62 true (.mv 3),
gD 64 62 true (.bin .eql 63 (cI 9)),
uO 65 (.pick 62 64 cF),
mV 66 65,
gD 67 66 true (.faddr 0 none 5),
gD 68 66 true (.load none 67),
gD 69 66 true (.bin .eql 68 (cI 2)),
uO 70 (.pick 66 69 cF),
mV 71 70,
gD 72 71 true (.faddr 0 none 8),
gD 73 71 true (.load none 72),
gD 74 71 true (.bin .eql 73 (cI 1)),
uO 75 (.pick 71 74 cF),
mV 0 75] [0])
.ret))))))
def z1H:AFun:=⟨0,[.t 0],z0F,false,false⟩
def z0H:ACode:=(.seq (rg [mV 4 cF] [0,1])
(.seq (rg [mV 5 0,
mV 6 1,
cL 7 gU [5,6],
bN 8 .geq 7 (cI 0),
mV 4 8] [4])
.ret))
def z1I:AFun:=⟨2,[.t 4],z0H,true,false⟩
def za0:ACode:=.pr [0,1,7,8] (.seq (rg [bN 9 .lss 8 7] [0,1,7,8,9])
(.seq (.cond 9 .skip
(.exit 0))
(.seq (.block 1 (.seq (rg [mV 10 8,
mV 5 10] [0,1,5,7,8])
(.seq (rg [mV 11 1,
mV 12 0,
mV 13 5,
iA 14 none 12 13,
lD 15 none 14,
uO 16 (.callv 11 [15])] [0,1,5,7,8,16])
(.cond 16 (.seq (rg [mV 17 5,
mV 4 17] [4])
.ret)
.skip))))
(rg [bN 18 .add 8 (cI 1),
mV 8 18] [0,1,7,8]))))
def za1:ACode:=.pr [] (.seq (rg [mV 4 (cI (-1))] [4])
.ret)
def z0K (q1 q2:ACode):ACode:=(.seq (rg [mV 4 (cI 0)] [0,1])
(.seq (.seq (rg [mV 6 0,
lN 7 6,
mV 8 (cI 0)] [0,1,7,8])
(.block 0 (.loop q1)))
q2))
def z1J:AFun:=⟨2,[.t 4],z0K za0 za1,true,false⟩
def za2:ACode:=.pr [0,9,10,11] (.seq (rg [bN 12 .lss 11 10] [0,9,10,11,12])
(.seq (.cond 12 .skip
(.exit 0))
(.seq (.block 1 (.seq (rg [mV 13 11,
iA 14 (some 8) 9 11,
lD 15 (some 8) 14,
uO 4 (.alloc [.p (.str []),.p (.int .i64 0),.p (.int .i64 0),.p (.int .i64 0),.p (.str []),.p (.str []),.p (.str []),.p (.int .i64 0)]),
mV 3 13,
wO (.store (some 8) 4 15)] [0,3,4,9,10,11])
(.seq (.seq (rg [lD 16 (some 8) 4,
cL 17 nU [16],
mV 5 17] [0,3,4,5,9,10,11])
(.seq (rg [mV 18 5,
bN 19 .neq 18 (cI 0)] [0,3,4,5,9,10,11,19])
(.cond 19 (.seq (rg [mV 20 5,
mV 2 20] [2])
.ret)
.skip)))
(.seq (dr [dF (mV 21 3) [3],
dF (bN 22 .gtr 21 (cI 0)) [21],
dF (mV 23 22) [22],
dF (gD 24 23 true (.load (some 8) 4)) [4,23],
dF (gD 25 23 true (.mv 0)) [0,23],
dF (gD 26 23 true (.mv 3)) [3,23],
dF (gD 27 23 true (.bin .sub 26 (cI 1))) [26,23],
dF (gD 28 23 true (.iaddr (some 8) 25 27)) [25,27,23],
dF (gD 29 23 true (.load (some 8) 28)) [28,23],
dT (gD 30 23 true (.call lU [24,29])) [24,29,23],
dF (gD 31 23 true (.bin .leq 30 (cI 0))) [30,23],
dF (uO 32 (.pick 23 31 cF)) [23,31]] [0,9,10,11,32])
(.cond 32 (.seq (rg [mV 2 (cI 7)] [2])
.ret)
.skip)))))
(rg [bN 33 .add 11 (cI 1),
mV 11 33] [0,9,10,11]))))
def za3:ACode:=.pr [0] (.seq (.seq (rg [mV 34 0,
cL 35 vU [34]] [35])
(.cond 35 (.seq (rg [mV 2 (cI 6)] [2])
.ret)
.skip))
(.seq (rg [mV 2 (cI 0)] [2])
.ret))
def z0L (q1 q2:ACode):ACode:=(.seq (rg [mV 2 (cI 0)] [0])
(.seq (.seq (rg [mV 6 0,
lN 7 6,
bN 8 .gtr 7 (cI 2000)] [0,8])
(.cond 8 (.seq (rg [mV 2 (cI 2)] [2])
.ret)
.skip))
(.seq (.seq (rg [mV 9 0,
lN 10 9,
mV 11 (cI 0)] [0,9,10,11])
(.block 0 (.loop (.scope q1))))
q2)))
def z1K:AFun:=⟨1,[.t 2],z0L za2 za3,false,false⟩
def za4:ACode:=.pr [1,16,17,18] (.seq (rg [bN 19 .lss 18 17] [1,16,17,18,19])
(.seq (.cond 19 .skip
(.exit 1))
(.seq (.block 2 (.seq (rg [mV 20 18,
iA 21 none 16 18,
lD 22 none 21,
mV 3 20,
mV 4 22] [1,3,4,16,17,18])
(.block 3 (.seq (rg [mV 24 4,
cL 25 bC [24],
uO 26 (.un .not 25),
mV 23 26] [1,3,4,16,17,18,23])
(.cond 23 (.seq (rg [mV 2 (cI 5)] [2])
.ret)
(.seq (rg [fA 28 0 none 1,
lD 29 none 28,
mV 30 3,
uO 31 (.slice none 29 none (some 30) none),
mV 32 4,
cL 33 EE [31,32],
mV 27 33] [1,16,17,18,27])
(.cond 27 (.seq (rg [mV 2 (cI 6)] [2])
.ret)
.skip)))))))
(rg [bN 34 .add 18 (cI 1),
mV 18 34] [1,16,17,18]))))
def za5:ACode:=.pr [1] (.seq (.seq (rg [fA 35 1 none 1,
lD 36 none 35,
cL 37 ZA [36,(cI 1),(cI 10)]] [37])
(.cond 37 (.seq (rg [mV 2 (cI 1)] [2])
.ret)
.skip))
(.seq (rg [mV 2 (cI 0)] [2])
.ret))
def z0M (q1 q2:ACode):ACode:=(.seq (rg [uO 1 (.box 0),
mV 2 (cI 0)] [1])
(.seq (.block 0 (.seq (rg [fA 6 0 none 1,
lD 7 none 6,
lN 8 7,
bN 9 .eql 8 (cI 0),
mV 5 9] [1,5])
(.cond 5 (.seq (rg [mV 2 (cI 8)] [2])
.ret)
(.seq (rg [fA 11 0 none 1,
lD 12 none 11,
lN 13 12,
bN 14 .gtr 13 (cI 20),
mV 10 14] [1,10])
(.cond 10 (.seq (rg [mV 2 (cI 2)] [2])
.ret)
.skip)))))
(.seq (.seq (rg [fA 15 0 none 1,
lD 16 none 15,
lN 17 16,
mV 18 (cI 0)] [1,16,17,18])
(.block 1 (.loop q1)))
q2)))
def z1L:AFun:=⟨1,[.t 2],z0M za4 za5,false,false⟩
def z0N:ACode:=(.seq (rg [uO 4 (.box 0),
uO 8 (.alloc [.p (.int .i64 0),.p (.int .i64 0),.p (.str []),.p (.str []),.p (.int .i64 0)]),
mV 9 (cI 0)] [1,2,3,4,8])
(.seq (.seq (rg [lD 12 (some 2) 4,
mV 13 1,
mV 14 3,
cL 15 oU [12,13,14],
mV 10 15] [1,2,3,4,8,10])
(.seq (rg [mV 16 10,
bN 17 .neq 16 (cI 0)] [1,2,3,4,8,10,17])
(.cond 17 (.seq (rg [uO 18 (.build [.p (.int .i64 0),.p (.int .i64 0),.p (.str []),.p (.str []),.p (.int .i64 0)] []),
mV 19 10,
wO (.store (some 5) 8 18),
mV 9 19] [8,9])
.ret)
.skip)))
(.seq (.seq (rg [mV 20 2,
cL 21 bC [20],
uO 22 (.un .not 21)] [1,2,3,4,8,22])
(.cond 22 (.seq (rg [uO 23 (.build [.p (.int .i64 0),.p (.int .i64 0),.p (.str []),.p (.str []),.p (.int .i64 0)] []),
wO (.store (some 5) 8 23),
mV 9 (cI 5)] [8,9])
.ret)
.skip))
(.seq (dr [dF (lD 24 (some 2) 4) [4],
dF (mV 25 1) [1],
dF (mV 26 3) [3],
dA (cL 27 wU [25,26]) [25,26] true [] [0],
dT (cL 28 tU [24,27]) [24,27],
dF (uO 29 (.nilchk 28)) [28],
dF (fA 30 2 none 29) [29],
dF (lD 31 none 30) [30],
dF (mV 32 2) [2],
dF (uO 33 (.look (none,[2]) false (.nilp) 31 32)) [31,32],
dF (mV 11 33) [33]] [8,11])
(.seq (.seq (rg [mV 34 11,
uO 35 (.isnil 0 false 34)] [8,11,35])
(.cond 35 (.seq (rg [uO 36 (.build [.p (.int .i64 0),.p (.int .i64 0),.p (.str []),.p (.str []),.p (.int .i64 0)] []),
wO (.store (some 5) 8 36),
mV 9 (cI 8)] [8,9])
.ret)
.skip))
(.seq (rg [mV 37 11,
uO 38 (.nilchk 37),
lD 39 (some 5) 38,
wO (.store (some 5) 8 39),
mV 9 (cI 0)] [8,9])
.ret))))))
def z1M:AFun:=⟨4,[.cell 8 (some 5),.t 9],z0N,false,false⟩
def z0O:ACode:=(.seq (rg [uO 2 (.box 0),
uO 3 (.box 1),
mV 4 (cI 0)] [2,3])
(.seq (dr [dF (fA 5 2 none 2) [2],
dF (lD 6 none 5) [5],
dF (fA 7 2 none 3) [3],
dF (lD 8 none 7) [7],
dT (cL 9 KN [6,8]) [6,8],
dF (fA 10 0 none 2) [2],
dA (lD 11 none 10) [10] false [4] [],
dF (fA 12 0 none 3) [3],
dA (lD 13 none 12) [12] false [4] [],
dT (cL 14 FC [11,13]) [11,13],
dF (fA 15 1 none 2) [2],
dA (lD 16 none 15) [15] false [4,9] [],
dF (fA 17 1 none 3) [3],
dA (lD 18 none 17) [17] false [4,9] [],
dT (cL 19 KN [16,18]) [16,18],
dF (uO 20 (.bsl false none 3 (.int .i64 0) [(0,9),(1,14),(2,19)])) [9,14,19],
dT (cL 21 BE [20]) [20],
dF (mV 4 21) [21]] [4])
.ret))
def z1N:AFun:=⟨2,[.t 4],z0O,false,false⟩
def za6:ACode:=.pr [0,3,4,5] (rg [mV 16 5,
bN 17 .sub 16 (cI 1),
mV 5 17] [0,3,4,5])
def z0Q (q1:ACode):ACode:=.pr [0,3,4,5] (.seq (.seq (rg [mV 14 5,
bN 15 .geq 14 (cI 0)] [0,3,4,5,15])
(.cond 15 .skip
(.exit 0)))
(.seq (.block 1 (.seq (rg [mV 18 0,
mV 19 5,
iA 20 (some 8) 18 19,
lD 21 (some 8) 20,
uO 6 (.alloc [.p (.str []),.p (.int .i64 0),.p (.int .i64 0),.p (.int .i64 0),.p (.str []),.p (.str []),.p (.str []),.p (.int .i64 0)]),
wO (.store (some 8) 6 21)] [0,3,4,5,6])
(.seq (rg [mV 22 4,
mV 23 5,
mV 24 3,
fA 25 0 none 6,
lD 26 none 25,
fA 27 1 none 6,
lD 28 none 27,
uO 29 (.build [.p (.str []),.p (.int .i64 0)] [(0,1,26),(1,1,28)]),
uO 30 (.look ((some 2),[2,0]) false (AB false) 24 29),
uO 31 (.un .not 30),
iA 32 none 22 23,
wO (.store none 32 31)] [0,3,4,5,6])
(.seq (rg [mV 33 4,
mV 34 5,
iA 35 none 33 34,
lD 36 none 35,
mV 37 36,
gD 38 37 true (.faddr 3 none 6),
gD 39 37 true (.load none 38),
gD 40 37 true (.bin .eql 39 (cI 7)),
uO 41 (.pick 37 40 cF)] [0,3,4,5,6,41])
(.cond 41 (rg [mV 42 3,
fA 43 6 none 6,
lD 44 none 43,
fA 45 7 none 6,
lD 46 none 45,
uO 47 (.build [.p (.str []),.p (.int .i64 0)] [(0,1,44),(1,1,46)]),
wO (.mupd ((some 2),[2,0]) 42 47 cT)] [0,3,4,5])
.skip)))))
q1))
def za7:ACode:=z0Q za6
def za8:ACode:=.pr [4] (.seq (rg [mV 48 4,
mV 2 48] [2])
.ret)
def z0P (q2 q3:ACode):ACode:=(.seq (rg [mV 2 (.c (.p (.sl none [])))] [0])
(.seq (rg [uO 7 (.mkmap),
mV 3 7] [0,3])
(.seq (rg [mV 8 0,
lN 9 8,
uO 10 (.mksl none (.bool false) 9 9),
mV 4 10] [0,3,4])
(.seq (.seq (rg [mV 11 0,
lN 12 11,
bN 13 .sub 12 (cI 1),
mV 5 13] [0,3,4,5])
(.block 0 (.loop (.scope q2))))
q3))))
def z1O:AFun:=⟨1,[.t 2],z0P za7 za8,false,false⟩
end Go.Am
end
