/- Texts of the proof, laid together: CodesE, CodesF, AmL, AmC, AmK, Ctx. -/
import Derived.KernelRfl
import Derived.Test.YtpmepdkfbangiaaGreatDoorlawBF5
set_option linter.all false
section
/- The functions asv abstract code,and asv formulas PE their values: printed by program out of the translation. -/
set_option linter.unusedVariables false
set_option maxRecDepth 100000
namespace Go.Am
def zcV:ACode:=(.seq (rg [uO 1 (.box 0),
mV 2 (cI 0)] [1])
(.seq (dr [dF (fA 5 3 none 1) [1],
dF (lD 6 none 5) [5],
dF (bN 7 .eql 6 (cI 7)) [6],
dF (fA 8 3 none 1) [1],
dF (lD 9 none 8) [8],
dF (bN 10 .eql 9 (cI 2)) [9],
dF (mV 3 7) [7],
dF (mV 4 10) [10]] [1,3,4])
(.seq (.block 0 (.seq (rg [fA 12 0 none 1,
lD 13 none 12,
cL 14 pD [13],
uO 15 (.un .not 14),
mV 11 15] [1,3,4,11])
(.cond 11 (.seq (rg [mV 2 (cI 5)] [2])
.ret)
(.seq (rg [fA 17 1 none 1,
lD 18 none 17,
cL 19 zD [18,(cI 1),(cI 1000000)],
mV 20 19,
gD 21 20 false (.faddr 2 none 1),
gD 22 20 false (.load none 21),
gD 23 20 false (.call rH [22]),
gD 24 20 false (.un .not 23),
uO 25 (.pick 20 cT 24),
mV 16 25] [1,3,4,16])
(.cond 16 (.seq (rg [mV 2 (cI 1)] [2])
.ret)
(.seq (rg [fA 27 3 none 1,
lD 28 none 27,
cL 29 zD [28,(cI 1),(cI 7)],
mV 26 29] [1,3,4,26])
(.cond 26 (.seq (rg [mV 2 (cI 4)] [2])
.ret)
(.seq (rg [mV 31 3,
uO 32 (.un .not 31),
mV 33 32,
gD 34 33 true (.faddr 4 none 1),
gD 35 33 true (.load none 34),
gD 36 33 true (.call pD [35]),
gD 37 33 true (.un .not 36),
uO 38 (.pick 33 37 cF),
mV 39 38,
gD 40 39 false (.mv 4),
gD 41 39 false (.mv 40),
gD 42 41 true (.faddr 5 none 1),
gD 43 41 true (.load none 42),
gD 44 41 true (.call pD [43]),
gD 45 41 true (.un .not 44),
gD 46 39 false (.pick 41 45 cF),
uO 47 (.pick 39 cT 46),
mV 48 47,
gD 49 48 false (.mv 3),
gD 50 48 false (.mv 49),
gD 51 50 true (.faddr 6 none 1),
gD 52 50 true (.load none 51),
gD 53 50 true (.call pD [52]),
gD 54 50 true (.un .not 53),
gD 55 48 false (.pick 50 54 cF),
uO 56 (.pick 48 cT 55),
mV 30 56] [1,3,4,30])
(.cond 30 (.seq (rg [mV 2 (cI 5)] [2])
.ret)
(.seq (rg [mV 58 3,
mV 59 58,
gD 60 59 true (.faddr 7 none 1),
gD 61 59 true (.load none 60),
gD 62 59 true (.call zD [61,(cI 1),(cI 1000000)]),
uO 63 (.pick 59 62 cF),
mV 57 63] [1,3,4,57])
(.cond 57 (.seq (rg [mV 2 (cI 1)] [2])
.ret)
(.seq (rg [mV 65 3,
mV 66 65,
gD 67 66 true (.faddr 4 none 1),
gD 68 66 true (.load none 67),
gD 69 66 true (.bin .neq 68 (cS [])),
uO 70 (.pick 66 69 cF),
mV 71 70,
gD 72 71 false (.mv 4),
gD 73 71 false (.un .not 72),
gD 74 71 false (.mv 73),
gD 75 74 true (.faddr 5 none 1),
gD 76 74 true (.load none 75),
gD 77 74 true (.bin .neq 76 (cS [])),
gD 78 71 false (.pick 74 77 cF),
uO 79 (.pick 71 cT 78),
mV 80 79,
gD 81 80 false (.mv 3),
gD 82 80 false (.un .not 81),
gD 83 80 false (.mv 82),
gD 84 83 true (.faddr 6 none 1),
gD 85 83 true (.load none 84),
gD 86 83 true (.bin .neq 85 (cS [])),
gD 87 83 true (.mv 86),
gD 88 87 false (.faddr 7 none 1),
gD 89 87 false (.load none 88),
gD 90 87 false (.bin .neq 89 (cI 0)),
gD 91 83 true (.pick 87 cT 90),
gD 92 80 false (.pick 83 91 cF),
uO 93 (.pick 80 cT 92),
mV 64 93] [64])
(.cond 64 (.seq (rg [mV 2 (cI 3)] [2])
.ret)
.skip)))))))))))))
(.seq (rg [mV 2 (cI 0)] [2])
.ret))))
def BQ:AFun:=⟨1,[.t 2],zcV,false,false⟩
def kH (C:Hd)(gl:GL)(v0:AV)(h:aA)(x:Esc)(K:KT):Prop:=
 wK (vB v0 h) fun t1 h2 y3=>
 pK (jA 3 none t1) fun t4=>
 pK (eA none t4 h2) fun t5=>
 pK (gA .eql t5 (AI 7)) fun t6=>
 pK (jA 3 none t1) fun t7=>
 pK (eA none t7 h2) fun t8=>
 pK (gA .eql t8 (AI 2)) fun t9=>
 pK (jA 0 none t1) fun t10=>
 pK (eA none t10 h2) fun t11=>
 C pD [t11] h2 fun t12 h13 y14=>
 pK (oUn .not t12) fun t15=>
 mA t15 (K .ret ⟨[(2,(AI 5))],h13,(y14++(y3++x))⟩)
 (pK (jA 1 none t1) fun t16=>
 pK (eA none t16 h13) fun t17=>
 C zD [t17,(AI 1),(AI 1000000)] h13 fun t18 h19 y20=>
 gP t18 false (jA 2 none t1) h19 fun t21 h22 y23=>
 gP t18 false (eA none t21 h22) h22 fun t24 h25 y26=>
 gV t18 false h25 (C rH [t24] h25) fun t27 h28 y29=>
 gP t18 false (oUn .not t27) h28 fun t30 h31 y32=>
 pK (DA t18 (AB true) t30) fun t33=>
 mA t33 (K .ret ⟨[(2,(AI 1))],h31,(y32++(y29++(y26++(y23++(y20++(y14++(y3++x)))))))⟩)
 (pK (jA 3 none t1) fun t34=>
 pK (eA none t34 h31) fun t35=>
 C zD [t35,(AI 1),(AI 7)] h31 fun t36 h37 y38=>
 mA t36 (K .ret ⟨[(2,(AI 4))],h37,(y38++(y32++(y29++(y26++(y23++(y20++(y14++(y3++x))))))))⟩)
 (pK (oUn .not t6) fun t39=>
 gP t39 true (jA 4 none t1) h37 fun t40 h41 y42=>
 gP t39 true (eA none t40 h41) h41 fun t43 h44 y45=>
 gV t39 true h44 (C pD [t43] h44) fun t46 h47 y48=>
 gP t39 true (oUn .not t46) h47 fun t49 h50 y51=>
 pK (DA t39 t49 (AB false)) fun t52=>
 gM t52 false t9 h50 fun t53 h54 y55=>
 gM t52 false t53 h54 fun t56 h57 y58=>
 gP t56 true (jA 5 none t1) h57 fun t59 h60 y61=>
 gP t56 true (eA none t59 h60) h60 fun t62 h63 y64=>
 gV t56 true h63 (C pD [t62] h63) fun t65 h66 y67=>
 gP t56 true (oUn .not t65) h66 fun t68 h69 y70=>
 gP t52 false (DA t56 t68 (AB false)) h69 fun t71 h72 y73=>
 pK (DA t52 (AB true) t71) fun t74=>
 gM t74 false t6 h72 fun t75 h76 y77=>
 gM t74 false t75 h76 fun t78 h79 y80=>
 gP t78 true (jA 6 none t1) h79 fun t81 h82 y83=>
 gP t78 true (eA none t81 h82) h82 fun t84 h85 y86=>
 gV t78 true h85 (C pD [t84] h85) fun t87 h88 y89=>
 gP t78 true (oUn .not t87) h88 fun t90 h91 y92=>
 gP t74 false (DA t78 t90 (AB false)) h91 fun t93 h94 y95=>
 pK (DA t74 (AB true) t93) fun t96=>
 mA t96 (K .ret ⟨[(2,(AI 5))],h94,(y95++(y92++(y89++(y86++(y83++(y80++(y77++(y73++(y70++(y67++(y64++(y61++(y58++(y55++(y51++(y48++(y45++(y42++(y38++(y32++(y29++(y26++(y23++(y20++(y14++(y3++x))))))))))))))))))))))))))⟩)
 (gP t6 true (jA 7 none t1) h94 fun t97 h98 y99=>
 gP t6 true (eA none t97 h98) h98 fun t100 h101 y102=>
 gV t6 true h101 (C zD [t100,(AI 1),(AI 1000000)] h101) fun t103 h104 y105=>
 pK (DA t6 t103 (AB false)) fun t106=>
 mA t106 (K .ret ⟨[(2,(AI 1))],h104,(y105++(y102++(y99++(y95++(y92++(y89++(y86++(y83++(y80++(y77++(y73++(y70++(y67++(y64++(y61++(y58++(y55++(y51++(y48++(y45++(y42++(y38++(y32++(y29++(y26++(y23++(y20++(y14++(y3++x)))))))))))))))))))))))))))))⟩)
 (gP t6 true (jA 4 none t1) h104 fun t107 h108 y109=>
 gP t6 true (eA none t107 h108) h108 fun t110 h111 y112=>
 gP t6 true (gA .neq t110 (.p (.str []))) h111 fun t113 h114 y115=>
 pK (DA t6 t113 (AB false)) fun t116=>
 gM t116 false t9 h114 fun t117 h118 y119=>
 gP t116 false (oUn .not t117) h118 fun t120 h121 y122=>
 gM t116 false t120 h121 fun t123 h124 y125=>
 gP t123 true (jA 5 none t1) h124 fun t126 h127 y128=>
 gP t123 true (eA none t126 h127) h127 fun t129 h130 y131=>
 gP t123 true (gA .neq t129 (.p (.str []))) h130 fun t132 h133 y134=>
 gP t116 false (DA t123 t132 (AB false)) h133 fun t135 h136 y137=>
 pK (DA t116 (AB true) t135) fun t138=>
 gM t138 false t6 h136 fun t139 h140 y141=>
 gP t138 false (oUn .not t139) h140 fun t142 h143 y144=>
 gM t138 false t142 h143 fun t145 h146 y147=>
 gP t145 true (jA 6 none t1) h146 fun t148 h149 y150=>
 gP t145 true (eA none t148 h149) h149 fun t151 h152 y153=>
 gP t145 true (gA .neq t151 (.p (.str []))) h152 fun t154 h155 y156=>
 gM t145 true t154 h155 fun t157 h158 y159=>
 gP t157 false (jA 7 none t1) h158 fun t160 h161 y162=>
 gP t157 false (eA none t160 h161) h161 fun t163 h164 y165=>
 gP t157 false (gA .neq t163 (AI 0)) h164 fun t166 h167 y168=>
 gP t145 true (DA t157 (AB true) t166) h167 fun t169 h170 y171=>
 gP t138 false (DA t145 t169 (AB false)) h170 fun t172 h173 y174=>
 pK (DA t138 (AB true) t172) fun t175=>
 mA t175 (K .ret ⟨[(2,(AI 3))],h173,(y174++(y171++(y168++(y165++(y162++(y159++(y156++(y153++(y150++(y147++(y144++(y141++(y137++(y134++(y131++(y128++(y125++(y122++(y119++(y115++(y112++(y109++(y105++(y102++(y99++(y95++(y92++(y89++(y86++(y83++(y80++(y77++(y73++(y70++(y67++(y64++(y61++(y58++(y55++(y51++(y48++(y45++(y42++(y38++(y32++(y29++(y26++(y23++(y20++(y14++(y3++x)))))))))))))))))))))))))))))))))))))))))))))))))))⟩)
 (K .ret ⟨[(2,(AI 0))],h173,(y174++(y171++(y168++(y165++(y162++(y159++(y156++(y153++(y150++(y147++(y144++(y141++(y137++(y134++(y131++(y128++(y125++(y122++(y119++(y115++(y112++(y109++(y105++(y102++(y99++(y95++(y92++(y89++(y86++(y83++(y80++(y77++(y73++(y70++(y67++(y64++(y61++(y58++(y55++(y51++(y48++(y45++(y42++(y38++(y32++(y29++(y26++(y23++(y20++(y14++(y3++x)))))))))))))))))))))))))))))))))))))))))))))))))))⟩))))))
theorem zjT {C gl v0 h x K}:NW C gl BQ.body ⟨enter [v0],h,x⟩ K=kH C gl v0 h x K:=by kernel_rfl
def zcU:ACode:=(.seq (rg [uO 2 (.box 0),
uO 3 (.box 1),
mV 4 (cI 0)] [2,3])
(.seq (dr [dF (fA 5 2 none 2) [2],
dF (lD 6 none 5) [5],
dF (fA 7 2 none 3) [3],
dF (lD 8 none 7) [7],
dT (cL 9 TF [6,8]) [6,8],
dF (fA 10 0 none 2) [2],
dA (lD 11 none 10) [10] false [4] [],
dF (fA 12 0 none 3) [3],
dA (lD 13 none 12) [12] false [4] [],
dT (cL 14 LE [11,13]) [11,13],
dF (fA 15 1 none 2) [2],
dA (lD 16 none 15) [15] false [4,9] [],
dF (fA 17 1 none 3) [3],
dA (lD 18 none 17) [17] false [4,9] [],
dT (cL 19 TF [16,18]) [16,18],
dF (uO 20 (.bsl false none 3 (.int .i64 0) [(0,9),(1,14),(2,19)])) [9,14,19],
dT (cL 21 sH [20]) [20],
dF (mV 4 21) [21]] [4])
.ret))
def zQ:AFun:=⟨2,[.t 4],zcU,false,false⟩
def IY (C:Hd)(gl:GL)(v0 v1:AV)(h:aA)(x:Esc)(K:KT):Prop:=
 wK (vB v0 h) fun t1 h2 y3=>
 wK (vB v1 h2) fun t4 h5 y6=>
 pK (jA 2 none t1) fun t7=>
 pK (eA none t7 h5) fun t8=>
 pK (jA 2 none t4) fun t9=>
 pK (eA none t9 h5) fun t10=>
 YA C TF [t8,t10] h5 fun t11 h12 y13=>
 pK (jA 0 none t1) fun t14=>
 pK (eA none t14 h12) fun t15=>
 (pK (eA none t14 h5) fun v=>(fun u (g1:aA) (y1:Esc)=>u=t15∧g1=h5∧y1=[]) v h5 [])∧(pK (jA 0 none t4) fun t16=>
 pK (eA none t16 h12) fun t17=>
 (pK (eA none t16 h5) fun v=>(fun u (g1:aA) (y1:Esc)=>u=t17∧g1=h5∧y1=[]) v h5 [])∧(YA C LE [t15,t17] h12 fun t18 h19 y20=>
 pK (jA 1 none t1) fun t21=>
 pK (eA none t21 h19) fun t22=>
 (pK (eA none t21 h5) fun v=>(fun u (g1:aA) (y1:Esc)=>u=t22∧g1=h5∧y1=[]) v h5 [])∧((pK (eA none t21 h12) fun v=>(fun u (g1:aA) (y1:Esc)=>u=t22∧g1=h12∧y1=[]) v h12 [])∧(pK (jA 1 none t4) fun t23=>
 pK (eA none t23 h19) fun t24=>
 (pK (eA none t23 h5) fun v=>(fun u (g1:aA) (y1:Esc)=>u=t24∧g1=h5∧y1=[]) v h5 [])∧((pK (eA none t23 h12) fun v=>(fun u (g1:aA) (y1:Esc)=>u=t24∧g1=h12∧y1=[]) v h12 [])∧(YA C TF [t22,t24] h19 fun t25 h26 y27=>
 wK (RA false none 3 (.int .i64 0) [(0,t11),(1,t18),(2,t25)] h26) fun t28 h29 y30=>
 (h29=h26∧y30=[])∧(YA C sH [t28] h29 fun t31 h32 y33=>
 K .ret ⟨[(4,t31)],h32,(y33++(y30++(y27++(y20++(y13++(y6++(y3++x)))))))⟩)))))))
theorem zjO {C gl v0 v1 h x K}:NW C gl zQ.body ⟨enter [v0,v1],h,x⟩ K=IY C gl v0 v1 h x K:=by kernel_rfl
def xN:ACode:=.pr [3,8,9,10] (.seq (rg [bN 11 .lss 10 9] [3,8,9,10,11])
(.seq (.cond 11 .skip
(.exit 0))
(.seq (.block 1 (.seq (rg [iA 12 (some 8) 8 10,
lD 13 (some 8) 12,
uO 5 (.alloc [.p (.str []),.p (.int .i64 0),.p (.int .i64 0),.p (.int .i64 0),.p (.str []),.p (.str []),.p (.str []),.p (.int .i64 0)]),
wO (.store (some 8) 5 13)] [3,5,8,9,10])
(.seq (rg [fA 14 0 none 5,
lD 15 none 14,
fA 16 1 none 5,
lD 17 none 16,
uO 18 (.build [.p (.str []),.p (.int .i64 0)] [(0,1,15),(1,1,17)]),
uO 6 (.alloc [.p (.str []),.p (.int .i64 0)]),
wO (.store (some 2) 6 18)] [3,6,8,9,10])
(.seq (.seq (rg [mV 19 3,
lD 20 (some 2) 6,
uO 21 (.look ((some 2),[2,0]) false (AB false) 19 20)] [3,6,8,9,10,21])
(.cond 21 (.seq (rg [mV 2 cT] [2])
.ret)
.skip))
(rg [mV 22 3,
lD 23 (some 2) 6,
wO (.mupd ((some 2),[2,0]) 22 23 cT)] [3,8,9,10])))))
(rg [bN 24 .add 10 (cI 1),
mV 10 24] [3,8,9,10]))))
def z5S (C:Hd)(gl:GL)(v3 v8 v9 v10:AV)(h:aA)(x:Esc)(K:KT):Prop:=
 pK (gA .lss v10 v9) fun t1=>
 mA t1 (pK (wA (some 8) v8 v10 h) fun t2=>
 pK (eA (some 8) t2 h) fun t3=>
 alK [.p (.str []),.p (.int .i64 0),.p (.int .i64 0),.p (.int .i64 0),.p (.str []),.p (.str []),.p (.str []),.p (.int .i64 0)] h fun t4 h5 y6=>
 wK (tA (some 8) t4 t3 h5) fun t7 h8 y9=>
 pK (jA 0 none t4) fun t10=>
 pK (eA none t10 h8) fun t11=>
 pK (jA 1 none t4) fun t12=>
 pK (eA none t12 h8) fun t13=>
 pK (RB [.p (.str []),.p (.int .i64 0)] [(0,1,t11),(1,1,t13)]) fun t14=>
 alK [.p (.str []),.p (.int .i64 0)] h8 fun t15 h16 y17=>
 wK (tA (some 2) t15 t14 h16) fun t18 h19 y20=>
 pK (eA (some 2) t15 h19) fun t21=>
 pK (QA ((some 2),[2,0]) false (AB false) v3 t21 h19) fun t22=>
 mA t22 (K .ret ⟨[(2,(AB true))],h19,(y20++(y17++(y9++(y6++x))))⟩)
 (pK (eA (some 2) t15 h19) fun t23=>
 wK (oB ((some 2),[2,0]) v3 t23 (AB true) h19) fun t24 h25 y26=>
 pK (gA .add v10 (AI 1)) fun t27=>
 K .normal ⟨[(3,v3),(8,v8),(9,v9),(10,t27)],h25,(y26++(y20++(y17++(y9++(y6++x)))))⟩))
 (K (.exit 0) ⟨[(3,v3),(8,v8),(9,v9),(10,v10),(11,t1)],h,x⟩)
theorem zkw {C gl e h x K}:NW C gl xN ⟨e,h,x⟩ K=z5S C gl (bA e 3) (bA e 8) (bA e 9) (bA e 10) h x K:=by kernel_rfl
theorem zmF {C gl e h x K}:NW C gl (.loop (.scope xN)) ⟨e,h,x⟩ K=PA C gl (.scope xN) K [(3,bA e 3),(8,bA e 8),(9,bA e 9),(10,bA e 10)] h x:=ZC
def mU:ACode:=.pr [] (.seq (rg [mV 2 cF] [2])
.ret)
def z5T (C:Hd)(gl:GL)(h:aA)(x:Esc)(K:KT):Prop:=
 K .ret ⟨[(2,(AB false))],h,x⟩
theorem zkx {C gl e h x K}:NW C gl mU ⟨e,h,x⟩ K=z5T C gl h x K:=by kernel_rfl
def z3a (q1 q2:ACode):ACode:=(.seq (rg [mV 2 cF] [0])
(.seq (rg [uO 7 (.mkmap),
mV 3 7] [0,3])
(.seq (.seq (rg [mV 8 0,
lN 9 8,
mV 10 (cI 0)] [3,8,9,10])
(.block 0 (.loop (.scope q1))))
q2)))
def KQ:AFun:=⟨1,[.t 2],z3a xN mU,false,false⟩
def iS (C:Hd)(gl:GL)(q1 q2:ACode)(v0:AV)(h:aA)(x:Esc)(K:KT):Prop:=
 mmK h fun t1 h2 y3=>
 pK (OA v0) fun t4=>
 NW C gl (.loop (.scope q1)) ⟨[(3,t1),(8,v0),(9,t4),(10,(AI 0))],h2,(y3++x)⟩ (yA 0 (NA C gl q2 K))
theorem zbV {C gl q1 q2 v0 h x K}:NW C gl (z3a q1 q2) ⟨enter [v0],h,x⟩ K=iS C gl q1 q2 v0 h x K:=by kernel_rfl
theorem zkv {C gl v0 h x K}:NW C gl KQ.body ⟨enter [v0],h,x⟩ K=iS C gl xN mU v0 h x K:=zbV
def zcj:ACode:=(.seq (rg [mV 2 cF] [0])
(.seq (rg [mV 3 0,
cL 4 zD [3,(cI 0),(cI 345686399999)],
uO 5 (.un .not 4),
mV 2 5] [2])
.ret))
def oQ:AFun:=⟨1,[.t 2],zcj,false,false⟩
def vX (C:Hd)(gl:GL)(v0:AV)(h:aA)(x:Esc)(K:KT):Prop:=
 C zD [v0,(AI 0),(AI 345686399999)] h fun t1 h2 y3=>
 pK (oUn .not t1) fun t4=>
 K .ret ⟨[(2,t4)],h2,(y3++x)⟩
theorem zg5 {C gl v0 h x K}:NW C gl oQ.body ⟨enter [v0],h,x⟩ K=vX C gl v0 h x K:=by kernel_rfl
def zcY:ACode:=(.seq (rg [uO 5 (.box 2),
mV 6 (cI 0)] [0,1,5])
(.seq (dr [dF (mV 10 0) [0],
dF (uO 11 (.nilchk 10)) [10],
dF (fA 12 3 none 11) [11],
dF (lD 13 none 12) [12],
dF (fA 14 0 none 5) [5],
dF (lD 15 none 14) [14],
dF (uO 16 (.look (none,[2]) true (.p (.str [])) 13 15)) [13,15],
dF (mV 9 16) [16],
dF (eX 17 9 0) [9],
dF (eX 18 9 1) [9],
dF (mV 7 17) [17],
dF (mV 8 18) [18]] [0,1,5,8])
(.seq (.block 0 (.seq (rg [mV 20 1,
uO 21 (.nilchk 20),
fA 22 0 none 21,
lD 23 none 22,
bN 24 .neq 23 (cI 1),
mV 19 24] [0,1,5,8,19])
(.cond 19 (.seq (rg [mV 6 (cI 11)] [6])
.ret)
(.seq (dr [dF (fA 26 5 none 5) [5],
dF (lD 27 none 26) [26],
dF (mV 28 1) [1],
dF (uO 29 (.nilchk 28)) [28],
dF (fA 30 2 none 29) [29],
dF (lD 31 none 30) [30],
dF (bN 32 .neq 27 31) [27,31],
dF (mV 25 32) [32]] [0,1,5,8,25])
(.cond 25 (.seq (rg [mV 6 (cI 3)] [6])
.ret)
(.seq (rg [mV 34 8,
mV 33 34] [0,1,5,33])
(.cond 33 (.seq (rg [mV 6 (cI 12)] [6])
.ret)
.skip)))))))
(.seq (dr [dF (mV 35 1) [1],
dF (mV 36 1) [1],
dF (mV 37 1) [1],
dF (fA 38 2 none 5) [5],
dF (lD 39 none 38) [38],
dF (fA 40 0 none 5) [5],
dF (lD 41 none 40) [40],
dF (uO 42 (.nilchk 35)) [35],
dF (fA 43 0 none 42) [42],
dA (wO (.store none 43 (cI 2))) [43] true [] [4,6],
dF (uO 44 (.nilchk 36)) [36],
dF (fA 45 1 none 44) [44],
dA (wO (.store none 45 39)) [45,39] true [] [6],
dF (uO 46 (.nilchk 37)) [37],
dF (fA 47 3 none 46) [46],
dT (wO (.store none 47 41)) [47,41]] [0,5])
(.seq (dr [dF (mV 48 0) [0],
dF (uO 49 (.nilchk 48)) [48],
dF (fA 50 3 none 49) [49],
dF (lD 51 none 50) [50],
dF (fA 52 0 none 5) [5],
dF (lD 53 none 52) [52],
dF (fA 54 4 none 5) [5],
dF (lD 55 none 54) [54],
dT (wO (.mupd (none,[2]) 51 53 55)) [51,53,55]] [0,5])
(.seq (dr [dF (mV 56 0) [0],
dF (mV 57 0) [0],
dF (uO 58 (.nilchk 57)) [57],
dF (fA 59 5 none 58) [58],
dF (lD 60 none 59) [59],
dF (fA 61 0 none 5) [5],
dF (lD 62 none 61) [61],
dF (fA 63 2 none 5) [5],
dF (lD 64 none 63) [63],
dF (uO 65 (.build [.p (.str []),.p (.int .i64 0),.p (.int .i64 0)] [(0,1,62),(1,1,64),(2,1,(cI (-1)))])) [62,64],
dF (uO 66 (.bsl false (some 3) 1 (.agg [.str [],.int .i64 0,.int .i64 0]) [(0,65)])) [65],
dT (uO 67 (.app (some 3) 60 66)) [60,66],
dF (uO 68 (.nilchk 56)) [56],
dF (fA 69 5 none 68) [68],
dT (wO (.store none 69 67)) [69,67]] [])
(.seq (rg [mV 6 (cI 0)] [6])
.ret)))))))
def GQ:AFun:=⟨3,[.t 6],zcY,false,false⟩
def ZK (C:Hd)(gl:GL)(v0 v1 v2:AV)(h:aA)(x:Esc)(K:KT):Prop:=
 wK (vB v2 h) fun t1 h2 y3=>
 pK (rA v0) fun t4=>
 pK (jA 3 none t4) fun t5=>
 pK (eA none t5 h2) fun t6=>
 pK (jA 0 none t1) fun t7=>
 pK (eA none t7 h2) fun t8=>
 pK (QA (none,[2]) true (.p (.str [])) t6 t8 h2) fun t9=>
 pK (jB t9 0) fun t10=>
 pK (jB t9 1) fun t11=>
 pK (rA v1) fun t12=>
 pK (jA 0 none t12) fun t13=>
 pK (eA none t13 h2) fun t14=>
 pK (gA .neq t14 (AI 1)) fun t15=>
 mA t15 (K .ret ⟨[(6,(AI 11))],h2,(y3++x)⟩)
 (pK (jA 5 none t1) fun t16=>
 pK (eA none t16 h2) fun t17=>
 pK (rA v1) fun t18=>
 pK (jA 2 none t18) fun t19=>
 pK (eA none t19 h2) fun t20=>
 pK (gA .neq t17 t20) fun t21=>
 mA t21 (K .ret ⟨[(6,(AI 3))],h2,(y3++x)⟩)
 (mA t11 (K .ret ⟨[(6,(AI 12))],h2,(y3++x)⟩)
 (pK (jA 2 none t1) fun t22=>
 pK (eA none t22 h2) fun t23=>
 pK (jA 0 none t1) fun t24=>
 pK (eA none t24 h2) fun t25=>
 pK (rA v1) fun t26=>
 pK (jA 0 none t26) fun t27=>
 wK (tA none t27 (AI 2) h2) fun t28 h29 y30=>
 (pK (eA none t22 h29) fun v=>(fun u (g1:aA) (y1:Esc)=>u=t23∧g1=h29∧y1=[]) v h29 [])∧((pK (eA none t24 h29) fun v=>(fun u (g1:aA) (y1:Esc)=>u=t25∧g1=h29∧y1=[]) v h29 [])∧(pK (rA v1) fun t31=>
 pK (jA 1 none t31) fun t32=>
 wK (tA none t32 t23 h29) fun t33 h34 y35=>
 (pK (eA none t24 h34) fun v=>(fun u (g1:aA) (y1:Esc)=>u=t25∧g1=h34∧y1=[]) v h34 [])∧(pK (rA v1) fun t36=>
 pK (jA 3 none t36) fun t37=>
 wK (tA none t37 t25 h34) fun t38 h39 y40=>
 pK (rA v0) fun t41=>
 pK (jA 3 none t41) fun t42=>
 pK (eA none t42 h39) fun t43=>
 pK (jA 0 none t1) fun t44=>
 pK (eA none t44 h39) fun t45=>
 pK (jA 4 none t1) fun t46=>
 pK (eA none t46 h39) fun t47=>
 wK (oB (none,[2]) t43 t45 t47 h39) fun t48 h49 y50=>
 pK (rA v0) fun t51=>
 pK (jA 5 none t51) fun t52=>
 pK (eA none t52 h49) fun t53=>
 pK (jA 0 none t1) fun t54=>
 pK (eA none t54 h49) fun t55=>
 pK (jA 2 none t1) fun t56=>
 pK (eA none t56 h49) fun t57=>
 pK (RB [.p (.str []),.p (.int .i64 0),.p (.int .i64 0)] [(0,1,t55),(1,1,t57),(2,1,(AI (-1)))]) fun t58=>
 wK (RA false (some 3) 1 (.agg [.str [],.int .i64 0,.int .i64 0]) [(0,t58)] h49) fun t59 h60 y61=>
 (h60=h49∧y61=[])∧(wK (dD (some 3) t53 t59 h60) fun t62 h63 y64=>
 pK (rA v0) fun t65=>
 pK (jA 5 none t65) fun t66=>
 wK (tA none t66 t62 h63) fun t67 h68 y69=>
 K .ret ⟨[(6,(AI 0))],h68,(y69++(y64++(y61++(y50++(y40++(y35++(y30++(y3++x))))))))⟩)))))))
theorem zke {C gl v0 v1 v2 h x K}:NW C gl GQ.body ⟨enter [v0,v1,v2],h,x⟩ K=ZK C gl v0 v1 v2 h x K:=by kernel_rfl
def dU:ACode:=.pr [] (.seq (rg [mV 6 (cI 0)] [6])
.ret)
def z5H (C:Hd)(gl:GL)(h:aA)(x:Esc)(K:KT):Prop:=
 K .ret ⟨[(6,(AI 0))],h,x⟩
theorem zjX {C gl e h x K}:NW C gl dU ⟨e,h,x⟩ K=z5H C gl h x K:=by kernel_rfl
def z0s:ACode:=.pr [] (.seq (rg [mV 6 (cI 0)] [6])
.ret)
def z5I (C:Hd)(gl:GL)(h:aA)(x:Esc)(K:KT):Prop:=
 K .ret ⟨[(6,(AI 0))],h,x⟩
theorem zjY {C gl e h x K}:NW C gl z0s ⟨e,h,x⟩ K=z5I C gl h x K:=by kernel_rfl
def z2R (q2:ACode):ACode:=.pr [0,1] (.seq (rg [mV 98 1,
uO 99 (.nilchk 98),
fA 100 4 none 99,
lD 101 none 100,
bN 102 .add 101 (cI 1),
uO 103 (.nilchk 98),
fA 104 4 none 103,
wO (.store none 104 102)] [0,1])
(.seq (rg [mV 105 1,
uO 106 (.nilchk 105),
fA 107 0 none 106,
wO (.store none 107 (cI 3))] [0,1])
(.seq (.seq (dr [dF (mV 108 1) [1],
dF (uO 109 (.nilchk 108)) [108],
dF (fA 110 4 none 109) [109],
dF (lD 111 none 110) [110],
dF (mV 112 0) [0],
dF (uO 113 (.nilchk 112)) [112],
dF (fA 114 0 (some 2) 113) [113],
dF (fA 115 1 none 114) [114],
dF (lD 116 none 115) [115],
dF (bN 117 .eql 111 116) [111,116]] [1,117])
(.cond 117 (rg [mV 118 1,
uO 119 (.nilchk 118),
fA 120 0 none 119,
wO (.store none 120 (cI 5))] [])
.skip))
q2)))
def eU:ACode:=z2R z0s
def MY (C:Hd)(gl:GL)(q2:ACode)(v0 v1:AV)(h:aA)(x:Esc)(K:KT):Prop:=
 pK (rA v1) fun t1=>
 pK (jA 4 none t1) fun t2=>
 pK (eA none t2 h) fun t3=>
 pK (gA .add t3 (AI 1)) fun t4=>
 pK (rA v1) fun t5=>
 pK (jA 4 none t5) fun t6=>
 wK (tA none t6 t4 h) fun t7 h8 y9=>
 pK (rA v1) fun t10=>
 pK (jA 0 none t10) fun t11=>
 wK (tA none t11 (AI 3) h8) fun t12 h13 y14=>
 pK (rA v1) fun t15=>
 pK (jA 4 none t15) fun t16=>
 pK (eA none t16 h13) fun t17=>
 pK (rA v0) fun t18=>
 pK (jA 0 (some 2) t18) fun t19=>
 pK (jA 1 none t19) fun t20=>
 pK (eA none t20 h13) fun t21=>
 pK (gA .eql t17 t21) fun t22=>
 mA t22 (pK (rA v1) fun t23=>
 pK (jA 0 none t23) fun t24=>
 wK (tA none t24 (AI 5) h13) fun t25 h26 y27=>
 NW C gl q2 ⟨[],h26,(y27++(y14++(y9++x)))⟩ K)
 (NW C gl q2 ⟨[(1,v1),(117,t22)],h13,(y14++(y9++x))⟩ K)
theorem zbM {C gl q2 e h x K}:NW C gl (z2R q2) ⟨e,h,x⟩ K=MY C gl q2 (bA e 0) (bA e 1) h x K:=by kernel_rfl
theorem zjZ {C gl e h x K}:NW C gl eU ⟨e,h,x⟩ K=MY C gl z0s (bA e 0) (bA e 1) h x K:=zbM
def z2Q (q1 q3:ACode):ACode:=(.seq (rg [uO 5 (.box 2),
mV 6 (cI 0)] [0,1,5])
(.seq (.block 0 (.seq (rg [mV 10 1,
uO 11 (.nilchk 10),
fA 12 0 none 11,
lD 13 none 12,
bN 14 .neq 13 (cI 2),
mV 9 14] [0,1,5,9])
(.cond 9 (.seq (rg [mV 6 (cI 11)] [6])
.ret)
(.seq (dr [dF (mV 16 1) [1],
dF (uO 17 (.nilchk 16)) [16],
dF (fA 18 3 none 17) [17],
dF (lD 19 none 18) [18],
dF (fA 20 0 none 5) [5],
dF (lD 21 none 20) [20],
dF (bN 22 .neq 19 21) [19,21],
dF (mV 15 22) [22]] [0,1,5,15])
(.cond 15 (.seq (rg [mV 6 (cI 13)] [6])
.ret)
.skip)))))
(.seq (rg [fA 23 3 none 5,
lD 24 none 23,
bN 25 .eql 24 (cI 3),
mV 7 25] [0,1,5,7])
(.seq (dr [dF (mV 26 0) [0],
dF (mV 27 0) [0],
dF (uO 28 (.nilchk 27)) [27],
dF (fA 29 4 none 28) [28],
dF (lD 30 none 29) [29],
dF (fA 31 4 none 5) [5],
dF (lD 32 none 31) [31],
dF (mV 33 1) [1],
dF (uO 34 (.nilchk 33)) [33],
dF (fA 35 2 none 34) [34],
dF (lD 36 none 35) [35],
dF (mV 37 1) [1],
dF (uO 38 (.nilchk 37)) [37],
dF (fA 39 1 none 38) [38],
dF (lD 40 none 39) [39],
dF (fA 41 2 none 5) [5],
dF (lD 42 none 41) [41],
dF (mV 43 7) [7],
dF (uO 44 (.build [.p (.str []),.p (.str []),.p (.int .i64 0),.p (.int .i64 0),.p (.bool false)] [(0,1,32),(1,1,36),(2,1,40),(3,1,42),(4,1,43)])) [32,36,40,42,43],
dF (uO 45 (.bsl false (some 5) 1 (.agg [.str [],.str [],.int .i64 0,.int .i64 0,.bool false]) [(0,44)])) [44],
dT (uO 46 (.app (some 5) 30 45)) [30,45],
dF (uO 47 (.nilchk 26)) [26],
dF (fA 48 4 none 47) [47],
dT (wO (.store none 48 46)) [48,46]] [0,1,5,7])
(.seq (rg [mV 49 0,
mV 50 1,
fA 51 2 none 5,
lD 52 none 51,
cL 53 uH [49,50,52]] [0,1,5,7])
(.seq (rg [mV 54 1,
fA 55 2 none 5,
lD 56 none 55,
uO 57 (.nilchk 54),
fA 58 1 none 57,
wO (.store none 58 56)] [0,1,7])
(.seq (.seq (rg [mV 59 7] [0,1,59])
(.cond 59 (.seq (rg [mV 60 1,
uO 61 (.nilchk 60),
fA 62 4 none 61,
wO (.store none 62 (cI 0))] [0,1])
(.seq (rg [mV 63 0,
mV 64 1,
uO 65 (.nilchk 64),
fA 66 2 none 65,
lD 67 none 66,
cL 68 UJ [63,67],
bN 69 .add 68 (cI 1),
mV 8 69] [0,1,8])
(.seq (.seq (rg [mV 70 8,
mV 71 0,
uO 72 (.nilchk 71),
fA 73 0 (some 2) 72,
fA 74 0 none 73,
lD 75 none 74,
lN 76 75,
bN 77 .eql 70 76] [0,1,8,77])
(.cond 77 (rg [mV 78 1,
mV 79 1,
uO 80 (.nilchk 78),
fA 81 0 none 80,
wO (.store none 81 (cI 4)),
uO 82 (.nilchk 79),
fA 83 2 none 82,
wO (.store none 83 (cS []))] [])
(rg [mV 84 1,
mV 85 1,
mV 86 0,
uO 87 (.nilchk 86),
fA 88 0 (some 2) 87,
fA 89 0 none 88,
lD 90 none 89,
mV 91 8,
iA 92 none 90 91,
lD 93 none 92,
uO 94 (.nilchk 84),
fA 95 0 none 94,
wO (.store none 95 (cI 1)),
uO 96 (.nilchk 85),
fA 97 2 none 96,
wO (.store none 97 93)] [])))
q1)))
.skip))
q3)))))))
def EQ:AFun:=⟨3,[.t 6],z2Q dU eU,false,false⟩
def lH (C:Hd)(gl:GL)(q1 q3:ACode)(v0 v1 v2:AV)(h:aA)(x:Esc)(K:KT):Prop:=
 wK (vB v2 h) fun t1 h2 y3=>
 pK (rA v1) fun t4=>
 pK (jA 0 none t4) fun t5=>
 pK (eA none t5 h2) fun t6=>
 pK (gA .neq t6 (AI 2)) fun t7=>
 mA t7 (K .ret ⟨[(6,(AI 11))],h2,(y3++x)⟩)
 (pK (rA v1) fun t8=>
 pK (jA 3 none t8) fun t9=>
 pK (eA none t9 h2) fun t10=>
 pK (jA 0 none t1) fun t11=>
 pK (eA none t11 h2) fun t12=>
 pK (gA .neq t10 t12) fun t13=>
 mA t13 (K .ret ⟨[(6,(AI 13))],h2,(y3++x)⟩)
 (pK (jA 3 none t1) fun t14=>
 pK (eA none t14 h2) fun t15=>
 pK (gA .eql t15 (AI 3)) fun t16=>
 pK (rA v0) fun t17=>
 pK (jA 4 none t17) fun t18=>
 pK (eA none t18 h2) fun t19=>
 pK (jA 4 none t1) fun t20=>
 pK (eA none t20 h2) fun t21=>
 pK (rA v1) fun t22=>
 pK (jA 2 none t22) fun t23=>
 pK (eA none t23 h2) fun t24=>
 pK (rA v1) fun t25=>
 pK (jA 1 none t25) fun t26=>
 pK (eA none t26 h2) fun t27=>
 pK (jA 2 none t1) fun t28=>
 pK (eA none t28 h2) fun t29=>
 pK (RB [.p (.str []),.p (.str []),.p (.int .i64 0),.p (.int .i64 0),.p (.bool false)] [(0,1,t21),(1,1,t24),(2,1,t27),(3,1,t29),(4,1,t16)]) fun t30=>
 wK (RA false (some 5) 1 (.agg [.str [],.str [],.int .i64 0,.int .i64 0,.bool false]) [(0,t30)] h2) fun t31 h32 y33=>
 (h32=h2∧y33=[])∧(wK (dD (some 5) t19 t31 h32) fun t34 h35 y36=>
 pK (rA v0) fun t37=>
 pK (jA 4 none t37) fun t38=>
 wK (tA none t38 t34 h35) fun t39 h40 y41=>
 pK (jA 2 none t1) fun t42=>
 pK (eA none t42 h40) fun t43=>
 C uH [v0,v1,t43] h40 fun t44 h45 y46=>
 pK (jA 2 none t1) fun t47=>
 pK (eA none t47 h45) fun t48=>
 pK (rA v1) fun t49=>
 pK (jA 1 none t49) fun t50=>
 wK (tA none t50 t48 h45) fun t51 h52 y53=>
 mA t16 (pK (rA v1) fun t54=>
 pK (jA 4 none t54) fun t55=>
 wK (tA none t55 (AI 0) h52) fun t56 h57 y58=>
 pK (rA v1) fun t59=>
 pK (jA 2 none t59) fun t60=>
 pK (eA none t60 h57) fun t61=>
 C UJ [v0,t61] h57 fun t62 h63 y64=>
 pK (gA .add t62 (AI 1)) fun t65=>
 pK (rA v0) fun t66=>
 pK (jA 0 (some 2) t66) fun t67=>
 pK (jA 0 none t67) fun t68=>
 pK (eA none t68 h63) fun t69=>
 pK (OA t69) fun t70=>
 pK (gA .eql t65 t70) fun t71=>
 mA t71 (pK (rA v1) fun t72=>
 pK (jA 0 none t72) fun t73=>
 wK (tA none t73 (AI 4) h63) fun t74 h75 y76=>
 pK (rA v1) fun t77=>
 pK (jA 2 none t77) fun t78=>
 wK (tA none t78 (.p (.str [])) h75) fun t79 h80 y81=>
 NW C gl q1 ⟨[],h80,(y81++(y76++(y64++(y58++(y53++(y46++(y41++(y36++(y33++(y3++x))))))))))⟩ (NA C gl q3 K))
 (pK (rA v0) fun t82=>
 pK (jA 0 (some 2) t82) fun t83=>
 pK (jA 0 none t83) fun t84=>
 pK (eA none t84 h63) fun t85=>
 pK (wA none t85 t65 h63) fun t86=>
 pK (eA none t86 h63) fun t87=>
 pK (rA v1) fun t88=>
 pK (jA 0 none t88) fun t89=>
 wK (tA none t89 (AI 1) h63) fun t90 h91 y92=>
 pK (rA v1) fun t93=>
 pK (jA 2 none t93) fun t94=>
 wK (tA none t94 t87 h91) fun t95 h96 y97=>
 NW C gl q1 ⟨[],h96,(y97++(y92++(y64++(y58++(y53++(y46++(y41++(y36++(y33++(y3++x))))))))))⟩ (NA C gl q3 K)))
 (NW C gl q3 ⟨[(0,v0),(1,v1),(59,t16)],h52,(y53++(y46++(y41++(y36++(y33++(y3++x))))))⟩ K))))
theorem zbL {C gl q1 q3 v0 v1 v2 h x K}:NW C gl (z2Q q1 q3) ⟨enter [v0,v1,v2],h,x⟩ K=lH C gl q1 q3 v0 v1 v2 h x K:=by kernel_rfl
theorem zjW {C gl v0 v1 v2 h x K}:NW C gl EQ.body ⟨enter [v0,v1,v2],h,x⟩ K=lH C gl dU eU v0 v1 v2 h x K:=zbL
def z0t:ACode:=.pr [0,1,2,11,12] (rg [bN 47 .add 12 (cI 1),
mV 12 47] [0,1,2,11,12])
def z5J (C:Hd)(gl:GL)(v0 v1 v2 v11 v12:AV)(h:aA)(x:Esc)(K:KT):Prop:=
 pK (gA .add v12 (AI 1)) fun t1=>
 K .normal ⟨[(0,v0),(1,v1),(2,v2),(11,v11),(12,t1)],h,x⟩
theorem zkb {C gl e h x K}:NW C gl z0t ⟨e,h,x⟩ K=z5J C gl (bA e 0) (bA e 1) (bA e 2) (bA e 11) (bA e 12) h x K:=by kernel_rfl
def z2T (q1:ACode):ACode:=.pr [0,1,2,11,12] (.seq (rg [bN 13 .lss 12 11] [0,1,2,11,12,13])
(.seq (.cond 13 .skip
(.exit 0))
(.seq (.block 1 (.seq (rg [mV 14 12,
mV 6 14] [0,1,2,6,11,12])
(.seq (dr [dF (mV 15 0) [0],
dF (uO 16 (.nilchk 15)) [15],
dF (fA 17 5 none 16) [16],
dF (lD 18 none 17) [17],
dF (mV 19 6) [6],
dF (iA 20 (some 3) 18 19) [18,19],
dF (fA 21 0 none 20) [20],
dF (lD 22 none 21) [21],
dF (mV 23 1) [1],
dF (uO 24 (.nilchk 23)) [23],
dF (fA 25 3 none 24) [24],
dF (lD 26 none 25) [25],
dF (bN 27 .eql 22 26) [22,26],
dF (mV 28 27) [27],
dF (gD 29 28 true (.mv 0)) [0,28],
dF (gD 30 28 true (.nilchk 29)) [29,28],
dF (gD 31 28 true (.faddr 5 none 30)) [30,28],
dF (gD 32 28 true (.load none 31)) [31,28],
dF (gD 33 28 true (.mv 6)) [6,28],
dF (gD 34 28 true (.iaddr (some 3) 32 33)) [32,33,28],
dF (gD 35 28 true (.faddr 2 none 34)) [34,28],
dF (gD 36 28 true (.load none 35)) [35,28],
dF (gD 37 28 true (.bin .lss 36 (cI 0))) [36,28],
dF (uO 38 (.pick 28 37 cF)) [28,37]] [0,1,2,6,11,12,38])
(.cond 38 (rg [mV 39 0,
uO 40 (.nilchk 39),
fA 41 5 none 40,
lD 42 none 41,
mV 43 6,
mV 44 2,
iA 45 (some 3) 42 43,
fA 46 2 none 45,
wO (.store none 46 44)] [0,1,2,11,12])
.skip))))
q1)))
def uN:ACode:=z2T z0t
def NY (C:Hd)(gl:GL)(q1:ACode)(v0 v1 v2 v11 v12:AV)(h:aA)(x:Esc)(K:KT):Prop:=
 pK (gA .lss v12 v11) fun t1=>
 mA t1 (pK (rA v0) fun t2=>
 pK (jA 5 none t2) fun t3=>
 pK (eA none t3 h) fun t4=>
 pK (wA (some 3) t4 v12 h) fun t5=>
 pK (jA 0 none t5) fun t6=>
 pK (eA none t6 h) fun t7=>
 pK (rA v1) fun t8=>
 pK (jA 3 none t8) fun t9=>
 pK (eA none t9 h) fun t10=>
 pK (gA .eql t7 t10) fun t11=>
 gM t11 true v0 h fun t12 h13 y14=>
 gP t11 true (rA t12) h13 fun t15 h16 y17=>
 gP t11 true (jA 5 none t15) h16 fun t18 h19 y20=>
 gP t11 true (eA none t18 h19) h19 fun t21 h22 y23=>
 gM t11 true v12 h22 fun t24 h25 y26=>
 gP t11 true (wA (some 3) t21 t24 h25) h25 fun t27 h28 y29=>
 gP t11 true (jA 2 none t27) h28 fun t30 h31 y32=>
 gP t11 true (eA none t30 h31) h31 fun t33 h34 y35=>
 gP t11 true (gA .lss t33 (AI 0)) h34 fun t36 h37 y38=>
 pK (DA t11 t36 (AB false)) fun t39=>
 mA t39 (pK (rA v0) fun t40=>
 pK (jA 5 none t40) fun t41=>
 pK (eA none t41 h37) fun t42=>
 pK (wA (some 3) t42 v12 h37) fun t43=>
 pK (jA 2 none t43) fun t44=>
 wK (tA none t44 v2 h37) fun t45 h46 y47=>
 NW C gl q1 ⟨[(0,v0),(1,v1),(2,v2),(11,v11),(12,v12)],h46,(y47++(y38++(y35++(y32++(y29++(y26++(y23++(y20++(y17++(y14++x))))))))))⟩ K)
 (NW C gl q1 ⟨[(0,v0),(1,v1),(2,v2),(6,v12),(11,v11),(12,v12),(38,t39)],h37,(y38++(y35++(y32++(y29++(y26++(y23++(y20++(y17++(y14++x)))))))))⟩ K))
 (K (.exit 0) ⟨[(0,v0),(1,v1),(2,v2),(11,v11),(12,v12),(13,t1)],h,x⟩)
theorem zbO {C gl q1 e h x K}:NW C gl (z2T q1) ⟨e,h,x⟩ K=NY C gl q1 (bA e 0) (bA e 1) (bA e 2) (bA e 11) (bA e 12) h x K:=by kernel_rfl
theorem zkc {C gl e h x K}:NW C gl uN ⟨e,h,x⟩ K=NY C gl z0t (bA e 0) (bA e 1) (bA e 2) (bA e 11) (bA e 12) h x K:=zbO
theorem zmC {C gl e h x K}:NW C gl (.loop uN) ⟨e,h,x⟩ K=PA C gl uN K [(0,bA e 0),(1,bA e 1),(2,bA e 2),(11,bA e 11),(12,bA e 12)] h x:=wB
def fU:ACode:=.pr [0,1] (.seq (dr [dF (mV 48 0) [0],
dF (uO 49 (.nilchk 48)) [48],
dF (fA 50 3 none 49) [49],
dF (lD 51 none 50) [50],
dF (mV 52 1) [1],
dF (uO 53 (.nilchk 52)) [52],
dF (fA 54 3 none 53) [53],
dF (lD 55 none 54) [54],
dT (wO (.mdel (none,[2]) 51 55)) [51,55]] [1])
(rg [mV 56 1,
uO 57 (.nilchk 56),
fA 58 3 none 57,
wO (.store none 58 (cS []))] []))
def z5K (C:Hd)(gl:GL)(v0 v1:AV)(h:aA)(x:Esc)(K:KT):Prop:=
 pK (rA v0) fun t1=>
 pK (jA 3 none t1) fun t2=>
 pK (eA none t2 h) fun t3=>
 pK (rA v1) fun t4=>
 pK (jA 3 none t4) fun t5=>
 pK (eA none t5 h) fun t6=>
 wK (TB (none,[2]) t3 t6 h) fun t7 h8 y9=>
 pK (rA v1) fun t10=>
 pK (jA 3 none t10) fun t11=>
 wK (tA none t11 (.p (.str [])) h8) fun t12 h13 y14=>
 K .normal ⟨[],h13,(y14++(y9++x))⟩
theorem zkd {C gl e h x K}:NW C gl fU ⟨e,h,x⟩ K=z5K C gl (bA e 0) (bA e 1) h x K:=by kernel_rfl
def z2S (q2 q3:ACode):ACode:=(.seq (.seq (rg [mV 7 0,
uO 8 (.nilchk 7),
fA 9 5 none 8,
lD 10 none 9,
lN 11 10,
mV 12 (cI 0)] [0,1,2,11,12])
(.block 0 (.loop q2)))
q3)
def FQ:AFun:=⟨3,[],z2S uN fU,false,false⟩
def bS (C:Hd)(gl:GL)(q2 q3:ACode)(v0 v1 v2:AV)(h:aA)(x:Esc)(K:KT):Prop:=
 pK (rA v0) fun t1=>
 pK (jA 5 none t1) fun t2=>
 pK (eA none t2 h) fun t3=>
 pK (OA t3) fun t4=>
 NW C gl (.loop q2) ⟨[(0,v0),(1,v1),(2,v2),(11,t4),(12,(AI 0))],h,x⟩ (yA 0 (NA C gl q3 K))
theorem zbN {C gl q2 q3 v0 v1 v2 h x K}:NW C gl (z2S q2 q3) ⟨enter [v0,v1,v2],h,x⟩ K=bS C gl q2 q3 v0 v1 v2 h x K:=by kernel_rfl
theorem zka {C gl v0 v1 v2 h x K}:NW C gl FQ.body ⟨enter [v0,v1,v2],h,x⟩ K=bS C gl uN fU v0 v1 v2 h x K:=zbN
def z0g:ACode:=.pr [0,1,2,3,4,10,11,12,13] (.seq (.seq (dr [dF (mV 81 1) [1],
dF (bN 82 .gtr 81 (cI 0)) [81],
dF (mV 83 82) [82],
dF (gD 84 83 true (.mv 4)) [4,83],
dF (gD 85 83 true (.mv 0)) [0,83],
dF (gD 86 83 true (.mv 1)) [1,83],
dF (gD 87 83 true (.bin .sub 86 (cI 1))) [86,83],
dF (gD 88 83 true (.iaddr none 85 87)) [85,87,83],
dF (gD 89 83 true (.load none 88)) [88,83],
dF (gD 90 83 true (.mv 0)) [0,83],
dF (gD 91 83 true (.mv 13)) [13,83],
dF (gD 92 83 true (.iaddr none 90 91)) [90,91,83],
dF (gD 93 83 true (.load none 92)) [92,83],
dT (gD 94 83 true (.callv 84 [89,93])) [84,89,93,83],
dF (gD 95 83 true (.bin .lss 94 (cI 0))) [94,83],
dF (gD 96 83 true (.un .not 95)) [95,83],
dF (uO 97 (.pick 83 96 cF)) [83,96]] [0,1,2,3,4,10,11,12,13,97])
(.cond 97 (.seq (rg [mV 98 0,
mV 99 1,
mV 100 2,
mV 101 13,
mV 102 4,
cL 103 z6O [98,99,100,101,102],
mV 15 103] [0,2,3,4,10,11,15])
(.seq (rg [mV 104 15,
mV 1 104] [0,1,2,3,4,10,11])
(.exit 1)))
.skip))
(.seq (rg [mV 106 0,
mV 107 1,
mV 108 2,
mV 109 13,
mV 110 4,
cL 111 z6M [106,107,108,109,110],
mV 105 111,
eX 112 105 0,
eX 113 105 1,
mV 16 112,
mV 17 113] [0,1,2,3,4,12,16,17])
(.seq (rg [mV 114 17,
mV 11 114] [0,1,2,3,4,11,12,16])
(.seq (rg [mV 115 16,
mV 116 1,
bN 117 .sub 115 116,
mV 118 2,
mV 119 16,
bN 120 .sub 118 119,
mV 18 117,
mV 19 120] [0,1,2,3,4,11,12,16,18,19])
(.seq (rg [mV 121 12,
bN 122 .quo 121 (cI 8),
mV 20 122] [0,1,2,3,4,11,16,18,19,20])
(.seq (rg [mV 123 18,
mV 124 19,
bN 125 .lss 123 124] [0,1,2,3,4,11,16,18,19,20,125])
(.cond 125 (.seq (rg [mV 126 18,
mV 127 20,
bN 128 .geq 126 127,
mV 10 128] [0,1,2,3,4,10,11,16])
(.seq (rg [mV 129 0,
mV 130 1,
mV 131 16,
mV 132 3,
mV 133 4,
cL 134 EG [129,130,131,132,133]] [0,2,3,4,10,11,16])
(rg [mV 135 16,
bN 136 .add 135 (cI 1),
mV 1 136] [0,1,2,3,4,10,11])))
(.seq (rg [mV 137 19,
mV 138 20,
bN 139 .geq 137 138,
mV 10 139] [0,1,2,3,4,10,11,16])
(.seq (rg [mV 140 0,
mV 141 16,
bN 142 .add 141 (cI 1),
mV 143 2,
mV 144 3,
mV 145 4,
cL 146 EG [140,142,143,144,145]] [0,1,3,4,10,11,16])
(rg [mV 147 16,
mV 2 147] [0,1,2,3,4,10,11]))))))))))
def z5w (C:Hd)(gl:GL)(v0 v1 v2 v3 v4 v10 v11 v12 v13:AV)(h:aA)(x:Esc)(K:KT):Prop:=
 pK (gA .gtr v1 (AI 0)) fun t1=>
 gM t1 true v4 h fun t2 h3 y4=>
 gM t1 true v0 h3 fun t5 h6 y7=>
 gM t1 true v1 h6 fun t8 h9 y10=>
 gP t1 true (gA .sub t8 (AI 1)) h9 fun t11 h12 y13=>
 gP t1 true (wA none t5 t11 h12) h12 fun t14 h15 y16=>
 gP t1 true (eA none t14 h15) h15 fun t17 h18 y19=>
 gM t1 true v0 h18 fun t20 h21 y22=>
 gM t1 true v13 h21 fun t23 h24 y25=>
 gP t1 true (wA none t20 t23 h24) h24 fun t26 h27 y28=>
 gP t1 true (eA none t26 h27) h27 fun t29 h30 y31=>
 gV t1 true h30 (eH C t2 [t17,t29] h30) fun t32 h33 y34=>
 gP t1 true (gA .lss t32 (AI 0)) h33 fun t35 h36 y37=>
 gP t1 true (oUn .not t35) h36 fun t38 h39 y40=>
 pK (DA t1 t38 (AB false)) fun t41=>
 mA t41 (C z6O [v0,v1,v2,v13,v4] h39 fun t42 h43 y44=>
 K (.exit 1) ⟨[(0,v0),(1,t42),(2,v2),(3,v3),(4,v4),(10,v10),(11,v11)],h43,(y44++(y40++(y37++(y34++(y31++(y28++(y25++(y22++(y19++(y16++(y13++(y10++(y7++(y4++x))))))))))))))⟩)
 (C z6M [v0,v1,v2,v13,v4] h39 fun t45 h46 y47=>
 pK (jB t45 0) fun t48=>
 pK (jB t45 1) fun t49=>
 pK (gA .sub t48 v1) fun t50=>
 pK (gA .sub v2 t48) fun t51=>
 pK (gA .quo v12 (AI 8)) fun t52=>
 pK (gA .lss t50 t51) fun t53=>
 mA t53 (pK (gA .geq t50 t52) fun t54=>
 C EG [v0,v1,t48,v3,v4] h46 fun t55 h56 y57=>
 pK (gA .add t48 (AI 1)) fun t58=>
 K .normal ⟨[(0,v0),(1,t58),(2,v2),(3,v3),(4,v4),(10,t54),(11,t49)],h56,(y57++(y47++(y40++(y37++(y34++(y31++(y28++(y25++(y22++(y19++(y16++(y13++(y10++(y7++(y4++x)))))))))))))))⟩)
 (pK (gA .geq t51 t52) fun t59=>
 pK (gA .add t48 (AI 1)) fun t60=>
 C EG [v0,t60,v2,v3,v4] h46 fun t61 h62 y63=>
 K .normal ⟨[(0,v0),(1,v1),(2,t48),(3,v3),(4,v4),(10,t59),(11,t49)],h62,(y63++(y47++(y40++(y37++(y34++(y31++(y28++(y25++(y22++(y19++(y16++(y13++(y10++(y7++(y4++x)))))))))))))))⟩))
theorem zjl {C gl e h x K}:NW C gl z0g ⟨e,h,x⟩ K=z5w C gl (bA e 0) (bA e 1) (bA e 2) (bA e 3) (bA e 4) (bA e 10) (bA e 11) (bA e 12) (bA e 13) h x K:=by kernel_rfl
def z2w (q1:ACode):ACode:=.pr [0,1,2,3,4,10,11,12,13,14] (.seq (.seq (rg [mV 68 10,
mV 69 68,
gD 70 69 true (.mv 11),
uO 71 (.pick 69 70 cF),
mV 72 71,
gD 73 72 true (.mv 14),
gD 74 72 true (.bin .eql 73 (cI 1)),
uO 75 (.pick 72 74 cF)] [0,1,2,3,4,10,11,12,13,75])
(.cond 75 (.seq (rg [mV 76 0,
mV 77 1,
mV 78 2,
mV 79 4,
cL 80 z6J [76,77,78,79]] [0,1,2,3,4,10,11,12,13,80])
(.cond 80 .ret
.skip))
.skip))
q1)
def z0h:ACode:=z2w z0g
def vY (C:Hd)(gl:GL)(q1:ACode)(v0 v1 v2 v3 v4 v10 v11 v12 v13 v14:AV)(h:aA)(x:Esc)(K:KT):Prop:=
 gM v10 true v11 h fun t1 h2 y3=>
 pK (DA v10 t1 (AB false)) fun t4=>
 gM t4 true v14 h2 fun t5 h6 y7=>
 gP t4 true (gA .eql t5 (AI 1)) h6 fun t8 h9 y10=>
 pK (DA t4 t8 (AB false)) fun t11=>
 mA t11 (C z6J [v0,v1,v2,v4] h9 fun t12 h13 y14=>
 mA t12 (K .ret ⟨[(0,v0),(1,v1),(2,v2),(3,v3),(4,v4),(10,v10),(11,v11),(12,v12),(13,v13),(80,t12)],h13,(y14++(y10++(y7++(y3++x))))⟩)
 (NW C gl q1 ⟨[(0,v0),(1,v1),(2,v2),(3,v3),(4,v4),(10,v10),(11,v11),(12,v12),(13,v13),(80,t12)],h13,(y14++(y10++(y7++(y3++x))))⟩ K))
 (NW C gl q1 ⟨[(0,v0),(1,v1),(2,v2),(3,v3),(4,v4),(10,v10),(11,v11),(12,v12),(13,v13),(75,t11)],h9,(y10++(y7++(y3++x)))⟩ K)
theorem zbz {C gl q1 e h x K}:NW C gl (z2w q1) ⟨e,h,x⟩ K=vY C gl q1 (bA e 0) (bA e 1) (bA e 2) (bA e 3) (bA e 4) (bA e 10) (bA e 11) (bA e 12) (bA e 13) (bA e 14) h x K:=by kernel_rfl
theorem zjm {C gl e h x K}:NW C gl z0h ⟨e,h,x⟩ K=vY C gl z0g (bA e 0) (bA e 1) (bA e 2) (bA e 3) (bA e 4) (bA e 10) (bA e 11) (bA e 12) (bA e 13) (bA e 14) h x K:=zbz
def z2x (q2:ACode):ACode:=.pr [0,1,2,3,4,10,11,12] (.seq (rg [mV 48 0,
mV 49 1,
mV 50 2,
mV 51 4,
cL 52 z6D [48,49,50,51],
mV 47 52,
eX 53 47 0,
eX 54 47 1,
mV 13 53,
mV 14 54] [0,1,2,3,4,10,11,12,13,14])
(.seq (.seq (rg [mV 55 14,
bN 56 .eql 55 (cI 2)] [0,1,2,3,4,10,11,12,13,14,56])
(.cond 56 (.seq (rg [mV 57 0,
mV 58 1,
mV 59 2,
mV 60 4,
cL 61 z6S [57,58,59,60]] [0,1,2,3,4,10,11,12,13])
(.seq (rg [mV 62 2,
bN 63 .sub 62 (cI 1),
mV 64 13,
mV 65 1,
bN 66 .sub 64 65,
bN 67 .sub 63 66,
mV 13 67] [0,1,2,3,4,10,11,12,13])
(rg [mV 14 (cI 1)] [0,1,2,3,4,10,11,12,13,14])))
.skip))
q2))
def z0i:ACode:=z2x z0h
def wY (C:Hd)(gl:GL)(q2:ACode)(v0 v1 v2 v3 v4 v10 v11 v12:AV)(h:aA)(x:Esc)(K:KT):Prop:=
 C z6D [v0,v1,v2,v4] h fun t1 h2 y3=>
 pK (jB t1 0) fun t4=>
 pK (jB t1 1) fun t5=>
 pK (gA .eql t5 (AI 2)) fun t6=>
 mA t6 (C z6S [v0,v1,v2,v4] h2 fun t7 h8 y9=>
 pK (gA .sub v2 (AI 1)) fun t10=>
 pK (gA .sub t4 v1) fun t11=>
 pK (gA .sub t10 t11) fun t12=>
 NW C gl q2 ⟨[(0,v0),(1,v1),(2,v2),(3,v3),(4,v4),(10,v10),(11,v11),(12,v12),(13,t12),(14,(AI 1))],h8,(y9++(y3++x))⟩ K)
 (NW C gl q2 ⟨[(0,v0),(1,v1),(2,v2),(3,v3),(4,v4),(10,v10),(11,v11),(12,v12),(13,t4),(14,t5),(56,t6)],h2,(y3++x)⟩ K)
theorem zb0 {C gl q2 e h x K}:NW C gl (z2x q2) ⟨e,h,x⟩ K=wY C gl q2 (bA e 0) (bA e 1) (bA e 2) (bA e 3) (bA e 4) (bA e 10) (bA e 11) (bA e 12) h x K:=by kernel_rfl
theorem zjn {C gl e h x K}:NW C gl z0i ⟨e,h,x⟩ K=wY C gl z0h (bA e 0) (bA e 1) (bA e 2) (bA e 3) (bA e 4) (bA e 10) (bA e 11) (bA e 12) h x K:=zb0
def z2y (q3:ACode):ACode:=.pr [0,1,2,3,4,10,11] (.block 1 (.seq (rg [mV 21 2,
mV 22 1,
bN 23 .sub 21 22,
mV 12 23] [0,1,2,3,4,10,11,12])
(.seq (.seq (rg [mV 24 12,
bN 25 .leq 24 (cI 12)] [0,1,2,3,4,10,11,12,25])
(.cond 25 (.seq (rg [mV 26 0,
mV 27 1,
mV 28 2,
mV 29 4,
cL 30 CG [26,27,28,29]] [])
.ret)
.skip))
(.seq (.seq (rg [mV 31 3,
bN 32 .eql 31 (cI 0)] [0,1,2,3,4,10,11,12,32])
(.cond 32 (.seq (rg [mV 33 0,
mV 34 1,
mV 35 2,
mV 36 4,
cL 37 z6G [33,34,35,36]] [])
.ret)
.skip))
(.seq (.seq (rg [mV 38 10,
uO 39 (.un .not 38)] [0,1,2,3,4,10,11,12,39])
(.cond 39 (.seq (rg [mV 40 0,
mV 41 1,
mV 42 2,
mV 43 4,
cL 44 z6A [40,41,42,43]] [0,1,2,3,4,10,11,12])
(rg [mV 45 3,
bN 46 .sub 45 (cI 1),
mV 3 46] [0,1,2,3,4,10,11,12]))
.skip))
q3)))))
def kN:ACode:=z2y z0i
def xY (C:Hd)(gl:GL)(q3:ACode)(v0 v1 v2 v3 v4 v10 v11:AV)(h:aA)(x:Esc)(K:KT):Prop:=
 pK (gA .sub v2 v1) fun t1=>
 pK (gA .leq t1 (AI 12)) fun t2=>
 mA t2 (C CG [v0,v1,v2,v4] h fun t3 h4 y5=>
 K .ret ⟨[],h4,(y5++x)⟩)
 (pK (gA .eql v3 (AI 0)) fun t6=>
 mA t6 (C z6G [v0,v1,v2,v4] h fun t7 h8 y9=>
 K .ret ⟨[],h8,(y9++x)⟩)
 (pK (oUn .not v10) fun t10=>
 mA t10 (C z6A [v0,v1,v2,v4] h fun t11 h12 y13=>
 pK (gA .sub v3 (AI 1)) fun t14=>
 NW C gl q3 ⟨[(0,v0),(1,v1),(2,v2),(3,t14),(4,v4),(10,v10),(11,v11),(12,t1)],h12,(y13++x)⟩ (yA 1 K))
 (NW C gl q3 ⟨[(0,v0),(1,v1),(2,v2),(3,v3),(4,v4),(10,v10),(11,v11),(12,t1),(39,t10)],h,x⟩ (yA 1 K))))
theorem zb1 {C gl q3 e h x K}:NW C gl (z2y q3) ⟨e,h,x⟩ K=xY C gl q3 (bA e 0) (bA e 1) (bA e 2) (bA e 3) (bA e 4) (bA e 10) (bA e 11) h x K:=by kernel_rfl
theorem zjo {C gl e h x K}:NW C gl kN ⟨e,h,x⟩ K=xY C gl z0i (bA e 0) (bA e 1) (bA e 2) (bA e 3) (bA e 4) (bA e 10) (bA e 11) h x K:=zb1
theorem zmy {C gl e h x K}:NW C gl (.loop kN) ⟨e,h,x⟩ K=PA C gl kN K [(0,bA e 0),(1,bA e 1),(2,bA e 2),(3,bA e 3),(4,bA e 4),(10,bA e 10),(11,bA e 11)] h x:=wB
def z2v (q4:ACode):ACode:=(.seq (rg [mV 10 cT] [0,1,2,3,4,10])
(.seq (rg [mV 11 cT] [0,1,2,3,4,10,11])
(.block 0 (.loop q4))))
def PW:AFun:=⟨5,[],z2v kN,true,false⟩
def SR (C:Hd)(gl:GL)(q4:ACode)(v0 v1 v2 v3 v4:AV)(h:aA)(x:Esc)(K:KT):Prop:=
 NW C gl (.loop q4) ⟨[(0,v0),(1,v1),(2,v2),(3,v3),(4,v4),(10,(AB true)),(11,(AB true))],h,x⟩ (yA 0 K)
theorem zby {C gl q4 v0 v1 v2 v3 v4 h x K}:NW C gl (z2v q4) ⟨enter [v0,v1,v2,v3,v4],h,x⟩ K=SR C gl q4 v0 v1 v2 v3 v4 h x K:=by kernel_rfl
theorem zjk {C gl v0 v1 v2 v3 v4 h x K}:NW C gl PW.body ⟨enter [v0,v1,v2,v3,v4],h,x⟩ K=SR C gl kN v0 v1 v2 v3 v4 h x K:=zby
def zcn:ACode:=(.seq (rg [mV 2 cF] [0])
(.seq (rg [mV 3 0,
mV 4 0,
bN 5 .neq 3 4,
mV 2 5] [2])
.ret))
def sQ:AFun:=⟨1,[.t 2],zcn,false,false⟩
def yX (C:Hd)(gl:GL)(v0:AV)(h:aA)(x:Esc)(K:KT):Prop:=
 pK (gA .neq v0 v0) fun t1=>
 K .ret ⟨[(2,t1)],h,x⟩
theorem zgC {C gl v0 h x K}:NW C gl sQ.body ⟨enter [v0],h,x⟩ K=yX C gl v0 h x K:=by kernel_rfl
def z0j:ACode:=.pr [0,1,2,3,8,9,10,11] (.seq (.seq (dr [dF (mV 73 1) [1],
dF (bN 74 .gtr 73 (cI 0)) [73],
dF (mV 75 74) [74],
dF (gD 76 75 true (.mv 0)) [0,75],
dF (gD 77 75 true (.mv 1)) [1,75],
dF (gD 78 75 true (.bin .sub 77 (cI 1))) [77,75],
dF (gD 79 75 true (.iaddr none 76 78)) [76,78,75],
dF (gD 80 75 true (.load none 79)) [79,75],
dF (gD 81 75 true (.mv 0)) [0,75],
dF (gD 82 75 true (.mv 11)) [11,75],
dF (gD 83 75 true (.iaddr none 81 82)) [81,82,75],
dF (gD 84 75 true (.load none 83)) [83,75],
dT (gD 85 75 true (.call UF [80,84])) [80,84,75],
dF (gD 86 75 true (.un .not 85)) [85,75],
dF (uO 87 (.pick 75 86 cF)) [75,86]] [0,1,2,3,8,9,10,11,87])
(.cond 87 (.seq (rg [mV 88 0,
mV 89 1,
mV 90 2,
mV 91 11,
cL 92 z6P [88,89,90,91],
mV 13 92] [0,2,3,8,9,13])
(.seq (rg [mV 93 13,
mV 1 93] [0,1,2,3,8,9])
(.exit 1)))
.skip))
(.seq (rg [mV 95 0,
mV 96 1,
mV 97 2,
mV 98 11,
cL 99 z6Q [95,96,97,98],
mV 94 99,
eX 100 94 0,
eX 101 94 1,
mV 14 100,
mV 15 101] [0,1,2,3,10,14,15])
(.seq (rg [mV 102 15,
mV 9 102] [0,1,2,3,9,10,14])
(.seq (rg [mV 103 14,
mV 104 1,
bN 105 .sub 103 104,
mV 106 2,
mV 107 14,
bN 108 .sub 106 107,
mV 16 105,
mV 17 108] [0,1,2,3,9,10,14,16,17])
(.seq (rg [mV 109 10,
bN 110 .quo 109 (cI 8),
mV 18 110] [0,1,2,3,9,14,16,17,18])
(.seq (rg [mV 111 16,
mV 112 17,
bN 113 .lss 111 112] [0,1,2,3,9,14,16,17,18,113])
(.cond 113 (.seq (rg [mV 114 16,
mV 115 18,
bN 116 .geq 114 115,
mV 8 116] [0,1,2,3,8,9,14])
(.seq (rg [mV 117 0,
mV 118 1,
mV 119 14,
mV 120 3,
cL 121 FG [117,118,119,120]] [0,2,3,8,9,14])
(rg [mV 122 14,
bN 123 .add 122 (cI 1),
mV 1 123] [0,1,2,3,8,9])))
(.seq (rg [mV 124 17,
mV 125 18,
bN 126 .geq 124 125,
mV 8 126] [0,1,2,3,8,9,14])
(.seq (rg [mV 127 0,
mV 128 14,
bN 129 .add 128 (cI 1),
mV 130 2,
mV 131 3,
cL 132 FG [127,129,130,131]] [0,1,3,8,9,14])
(rg [mV 133 14,
mV 2 133] [0,1,2,3,8,9]))))))))))
def z5x (C:Hd)(gl:GL)(v0 v1 v2 v3 v8 v9 v10 v11:AV)(h:aA)(x:Esc)(K:KT):Prop:=
 pK (gA .gtr v1 (AI 0)) fun t1=>
 gM t1 true v0 h fun t2 h3 y4=>
 gM t1 true v1 h3 fun t5 h6 y7=>
 gP t1 true (gA .sub t5 (AI 1)) h6 fun t8 h9 y10=>
 gP t1 true (wA none t2 t8 h9) h9 fun t11 h12 y13=>
 gP t1 true (eA none t11 h12) h12 fun t14 h15 y16=>
 gM t1 true v0 h15 fun t17 h18 y19=>
 gM t1 true v11 h18 fun t20 h21 y22=>
 gP t1 true (wA none t17 t20 h21) h21 fun t23 h24 y25=>
 gP t1 true (eA none t23 h24) h24 fun t26 h27 y28=>
 gV t1 true h27 (YA C UF [t14,t26] h27) fun t29 h30 y31=>
 gP t1 true (oUn .not t29) h30 fun t32 h33 y34=>
 pK (DA t1 t32 (AB false)) fun t35=>
 mA t35 (C z6P [v0,v1,v2,v11] h33 fun t36 h37 y38=>
 K (.exit 1) ⟨[(0,v0),(1,t36),(2,v2),(3,v3),(8,v8),(9,v9)],h37,(y38++(y34++(y31++(y28++(y25++(y22++(y19++(y16++(y13++(y10++(y7++(y4++x))))))))))))⟩)
 (C z6Q [v0,v1,v2,v11] h33 fun t39 h40 y41=>
 pK (jB t39 0) fun t42=>
 pK (jB t39 1) fun t43=>
 pK (gA .sub t42 v1) fun t44=>
 pK (gA .sub v2 t42) fun t45=>
 pK (gA .quo v10 (AI 8)) fun t46=>
 pK (gA .lss t44 t45) fun t47=>
 mA t47 (pK (gA .geq t44 t46) fun t48=>
 C FG [v0,v1,t42,v3] h40 fun t49 h50 y51=>
 pK (gA .add t42 (AI 1)) fun t52=>
 K .normal ⟨[(0,v0),(1,t52),(2,v2),(3,v3),(8,t48),(9,t43)],h50,(y51++(y41++(y34++(y31++(y28++(y25++(y22++(y19++(y16++(y13++(y10++(y7++(y4++x)))))))))))))⟩)
 (pK (gA .geq t45 t46) fun t53=>
 pK (gA .add t42 (AI 1)) fun t54=>
 C FG [v0,t54,v2,v3] h40 fun t55 h56 y57=>
 K .normal ⟨[(0,v0),(1,v1),(2,t42),(3,v3),(8,t53),(9,t43)],h56,(y57++(y41++(y34++(y31++(y28++(y25++(y22++(y19++(y16++(y13++(y10++(y7++(y4++x)))))))))))))⟩))
theorem zjq {C gl e h x K}:NW C gl z0j ⟨e,h,x⟩ K=z5x C gl (bA e 0) (bA e 1) (bA e 2) (bA e 3) (bA e 8) (bA e 9) (bA e 10) (bA e 11) h x K:=by kernel_rfl
def z21 (q1:ACode):ACode:=.pr [0,1,2,3,8,9,10,11,12] (.seq (.seq (rg [mV 61 8,
mV 62 61,
gD 63 62 true (.mv 9),
uO 64 (.pick 62 63 cF),
mV 65 64,
gD 66 65 true (.mv 12),
gD 67 65 true (.bin .eql 66 (cI 1)),
uO 68 (.pick 65 67 cF)] [0,1,2,3,8,9,10,11,68])
(.cond 68 (.seq (rg [mV 69 0,
mV 70 1,
mV 71 2,
cL 72 z6K [69,70,71]] [0,1,2,3,8,9,10,11,72])
(.cond 72 .ret
.skip))
.skip))
q1)
def z0k:ACode:=z21 z0j
def yY (C:Hd)(gl:GL)(q1:ACode)(v0 v1 v2 v3 v8 v9 v10 v11 v12:AV)(h:aA)(x:Esc)(K:KT):Prop:=
 gM v8 true v9 h fun t1 h2 y3=>
 pK (DA v8 t1 (AB false)) fun t4=>
 gM t4 true v12 h2 fun t5 h6 y7=>
 gP t4 true (gA .eql t5 (AI 1)) h6 fun t8 h9 y10=>
 pK (DA t4 t8 (AB false)) fun t11=>
 mA t11 (C z6K [v0,v1,v2] h9 fun t12 h13 y14=>
 mA t12 (K .ret ⟨[(0,v0),(1,v1),(2,v2),(3,v3),(8,v8),(9,v9),(10,v10),(11,v11),(72,t12)],h13,(y14++(y10++(y7++(y3++x))))⟩)
 (NW C gl q1 ⟨[(0,v0),(1,v1),(2,v2),(3,v3),(8,v8),(9,v9),(10,v10),(11,v11),(72,t12)],h13,(y14++(y10++(y7++(y3++x))))⟩ K))
 (NW C gl q1 ⟨[(0,v0),(1,v1),(2,v2),(3,v3),(8,v8),(9,v9),(10,v10),(11,v11),(68,t11)],h9,(y10++(y7++(y3++x)))⟩ K)
theorem zb3 {C gl q1 e h x K}:NW C gl (z21 q1) ⟨e,h,x⟩ K=yY C gl q1 (bA e 0) (bA e 1) (bA e 2) (bA e 3) (bA e 8) (bA e 9) (bA e 10) (bA e 11) (bA e 12) h x K:=by kernel_rfl
theorem zjr {C gl e h x K}:NW C gl z0k ⟨e,h,x⟩ K=yY C gl z0j (bA e 0) (bA e 1) (bA e 2) (bA e 3) (bA e 8) (bA e 9) (bA e 10) (bA e 11) (bA e 12) h x K:=zb3
def z25 (q2:ACode):ACode:=.pr [0,1,2,3,8,9,10] (.seq (rg [mV 43 0,
mV 44 1,
mV 45 2,
cL 46 z6E [43,44,45],
mV 42 46,
eX 47 42 0,
eX 48 42 1,
mV 11 47,
mV 12 48] [0,1,2,3,8,9,10,11,12])
(.seq (.seq (rg [mV 49 12,
bN 50 .eql 49 (cI 2)] [0,1,2,3,8,9,10,11,12,50])
(.cond 50 (.seq (rg [mV 51 0,
mV 52 1,
mV 53 2,
cL 54 z6T [51,52,53]] [0,1,2,3,8,9,10,11])
(.seq (rg [mV 55 2,
bN 56 .sub 55 (cI 1),
mV 57 11,
mV 58 1,
bN 59 .sub 57 58,
bN 60 .sub 56 59,
mV 11 60] [0,1,2,3,8,9,10,11])
(rg [mV 12 (cI 1)] [0,1,2,3,8,9,10,11,12])))
.skip))
q2))
def z0l:ACode:=z25 z0k
def zY (C:Hd)(gl:GL)(q2:ACode)(v0 v1 v2 v3 v8 v9 v10:AV)(h:aA)(x:Esc)(K:KT):Prop:=
 C z6E [v0,v1,v2] h fun t1 h2 y3=>
 pK (jB t1 0) fun t4=>
 pK (jB t1 1) fun t5=>
 pK (gA .eql t5 (AI 2)) fun t6=>
 mA t6 (C z6T [v0,v1,v2] h2 fun t7 h8 y9=>
 pK (gA .sub v2 (AI 1)) fun t10=>
 pK (gA .sub t4 v1) fun t11=>
 pK (gA .sub t10 t11) fun t12=>
 NW C gl q2 ⟨[(0,v0),(1,v1),(2,v2),(3,v3),(8,v8),(9,v9),(10,v10),(11,t12),(12,(AI 1))],h8,(y9++(y3++x))⟩ K)
 (NW C gl q2 ⟨[(0,v0),(1,v1),(2,v2),(3,v3),(8,v8),(9,v9),(10,v10),(11,t4),(12,t5),(50,t6)],h2,(y3++x)⟩ K)
theorem zb4 {C gl q2 e h x K}:NW C gl (z25 q2) ⟨e,h,x⟩ K=zY C gl q2 (bA e 0) (bA e 1) (bA e 2) (bA e 3) (bA e 8) (bA e 9) (bA e 10) h x K:=by kernel_rfl
theorem zjs {C gl e h x K}:NW C gl z0l ⟨e,h,x⟩ K=zY C gl z0k (bA e 0) (bA e 1) (bA e 2) (bA e 3) (bA e 8) (bA e 9) (bA e 10) h x K:=zb4
def z2A (q3:ACode):ACode:=.pr [0,1,2,3,8,9] (.block 1 (.seq (rg [mV 19 2,
mV 20 1,
bN 21 .sub 19 20,
mV 10 21] [0,1,2,3,8,9,10])
(.seq (.seq (rg [mV 22 10,
bN 23 .leq 22 (cI 12)] [0,1,2,3,8,9,10,23])
(.cond 23 (.seq (rg [mV 24 0,
mV 25 1,
mV 26 2,
cL 27 aM [24,25,26]] [])
.ret)
.skip))
(.seq (.seq (rg [mV 28 3,
bN 29 .eql 28 (cI 0)] [0,1,2,3,8,9,10,29])
(.cond 29 (.seq (rg [mV 30 0,
mV 31 1,
mV 32 2,
cL 33 z6H [30,31,32]] [])
.ret)
.skip))
(.seq (.seq (rg [mV 34 8,
uO 35 (.un .not 34)] [0,1,2,3,8,9,10,35])
(.cond 35 (.seq (rg [mV 36 0,
mV 37 1,
mV 38 2,
cL 39 z6B [36,37,38]] [0,1,2,3,8,9,10])
(rg [mV 40 3,
bN 41 .sub 40 (cI 1),
mV 3 41] [0,1,2,3,8,9,10]))
.skip))
q3)))))
def mN:ACode:=z2A z0l
def AY (C:Hd)(gl:GL)(q3:ACode)(v0 v1 v2 v3 v8 v9:AV)(h:aA)(x:Esc)(K:KT):Prop:=
 pK (gA .sub v2 v1) fun t1=>
 pK (gA .leq t1 (AI 12)) fun t2=>
 mA t2 (C aM [v0,v1,v2] h fun t3 h4 y5=>
 K .ret ⟨[],h4,(y5++x)⟩)
 (pK (gA .eql v3 (AI 0)) fun t6=>
 mA t6 (C z6H [v0,v1,v2] h fun t7 h8 y9=>
 K .ret ⟨[],h8,(y9++x)⟩)
 (pK (oUn .not v8) fun t10=>
 mA t10 (C z6B [v0,v1,v2] h fun t11 h12 y13=>
 pK (gA .sub v3 (AI 1)) fun t14=>
 NW C gl q3 ⟨[(0,v0),(1,v1),(2,v2),(3,t14),(8,v8),(9,v9),(10,t1)],h12,(y13++x)⟩ (yA 1 K))
 (NW C gl q3 ⟨[(0,v0),(1,v1),(2,v2),(3,v3),(8,v8),(9,v9),(10,t1),(35,t10)],h,x⟩ (yA 1 K))))
theorem zb5 {C gl q3 e h x K}:NW C gl (z2A q3) ⟨e,h,x⟩ K=AY C gl q3 (bA e 0) (bA e 1) (bA e 2) (bA e 3) (bA e 8) (bA e 9) h x K:=by kernel_rfl
theorem zjt {C gl e h x K}:NW C gl mN ⟨e,h,x⟩ K=AY C gl z0l (bA e 0) (bA e 1) (bA e 2) (bA e 3) (bA e 8) (bA e 9) h x K:=zb5
theorem zmz {C gl e h x K}:NW C gl (.loop mN) ⟨e,h,x⟩ K=PA C gl mN K [(0,bA e 0),(1,bA e 1),(2,bA e 2),(3,bA e 3),(8,bA e 8),(9,bA e 9)] h x:=wB
def z2z (q4:ACode):ACode:=(.seq (rg [mV 8 cT] [0,1,2,3,8])
(.seq (rg [mV 9 cT] [0,1,2,3,8,9])
(.block 0 (.loop q4))))
def RW:AFun:=⟨4,[],z2z mN,true,false⟩
def TR (C:Hd)(gl:GL)(q4:ACode)(v0 v1 v2 v3:AV)(h:aA)(x:Esc)(K:KT):Prop:=
 NW C gl (.loop q4) ⟨[(0,v0),(1,v1),(2,v2),(3,v3),(8,(AB true)),(9,(AB true))],h,x⟩ (yA 0 K)
theorem zb2 {C gl q4 v0 v1 v2 v3 h x K}:NW C gl (z2z q4) ⟨enter [v0,v1,v2,v3],h,x⟩ K=TR C gl q4 v0 v1 v2 v3 h x K:=by kernel_rfl
theorem zjp {C gl v0 v1 v2 v3 h x K}:NW C gl RW.body ⟨enter [v0,v1,v2,v3],h,x⟩ K=TR C gl mN v0 v1 v2 v3 h x K:=zb2
def aN:ACode:=.pr [0,1,7,8] (.seq (rg [bN 9 .lss 8 7] [0,1,7,8,9])
(.seq (.cond 9 .skip
(.exit 0))
(.seq (.block 1 (.seq (rg [mV 10 8,
mV 5 10] [0,1,5,7,8])
(.seq (rg [mV 11 1,
mV 12 0,
mV 13 5,
iA 14 (some 8) 12 13,
lD 15 (some 8) 14,
uO 16 (.callv 11 [15])] [0,1,5,7,8,16])
(.cond 16 (.seq (rg [mV 17 5,
mV 4 17] [4])
.ret)
.skip))))
(rg [bN 18 .add 8 (cI 1),
mV 8 18] [0,1,7,8]))))
def z5h (C:Hd)(gl:GL)(v0 v1 v7 v8:AV)(h:aA)(x:Esc)(K:KT):Prop:=
 pK (gA .lss v8 v7) fun t1=>
 mA t1 (pK (wA (some 8) v0 v8 h) fun t2=>
 pK (eA (some 8) t2 h) fun t3=>
 sJ C v1 [t3] h fun t4 h5 y6=>
 mA t4 (K .ret ⟨[(4,v8)],h5,(y6++x)⟩)
 (pK (gA .add v8 (AI 1)) fun t7=>
 K .normal ⟨[(0,v0),(1,v1),(7,v7),(8,t7)],h5,(y6++x)⟩))
 (K (.exit 0) ⟨[(0,v0),(1,v1),(7,v7),(8,v8),(9,t1)],h,x⟩)
theorem ziC {C gl e h x K}:NW C gl aN ⟨e,h,x⟩ K=z5h C gl (bA e 0) (bA e 1) (bA e 7) (bA e 8) h x K:=by kernel_rfl
theorem zmm {C gl e h x K}:NW C gl (.loop aN) ⟨e,h,x⟩ K=PA C gl aN K [(0,bA e 0),(1,bA e 1),(7,bA e 7),(8,bA e 8)] h x:=wB
def TT:ACode:=.pr [] (.seq (rg [mV 4 (cI (-1))] [4])
.ret)
def z5i (C:Hd)(gl:GL)(h:aA)(x:Esc)(K:KT):Prop:=
 K .ret ⟨[(4,(AI (-1)))],h,x⟩
theorem ziD {C gl e h x K}:NW C gl TT ⟨e,h,x⟩ K=z5i C gl h x K:=by kernel_rfl
def z2g (q1 q2:ACode):ACode:=(.seq (rg [mV 4 (cI 0)] [0,1])
(.seq (.seq (rg [mV 6 0,
lN 7 6,
mV 8 (cI 0)] [0,1,7,8])
(.block 0 (.loop q1)))
q2))
def CW:AFun:=⟨2,[.t 4],z2g aN TT,true,false⟩
def JR (C:Hd)(gl:GL)(q1 q2:ACode)(v0 v1:AV)(h:aA)(x:Esc)(K:KT):Prop:=
 pK (OA v0) fun t1=>
 NW C gl (.loop q1) ⟨[(0,v0),(1,v1),(7,t1),(8,(AI 0))],h,x⟩ (yA 0 (NA C gl q2 K))
theorem zbj {C gl q1 q2 v0 v1 h x K}:NW C gl (z2g q1 q2) ⟨enter [v0,v1],h,x⟩ K=JR C gl q1 q2 v0 v1 h x K:=by kernel_rfl
theorem ziB {C gl v0 v1 h x K}:NW C gl CW.body ⟨enter [v0,v1],h,x⟩ K=JR C gl aN TT v0 v1 h x K:=zbj
def zdd:ACode:=(.seq (rg [mV 4 (cI 0)] [0,1])
(.seq (rg [mV 5 0,
mV 6 1,
cL 7 kL [5,6],
mV 4 7] [4])
.ret))
def cX:AFun:=⟨2,[.t 4],zdd,false,false⟩
def SY (C:Hd)(gl:GL)(v0 v1:AV)(h:aA)(x:Esc)(K:KT):Prop:=
 C kL [v0,v1] h fun t1 h2 y3=>
 K .ret ⟨[(4,t1)],h2,(y3++x)⟩
theorem zk2 {C gl v0 v1 h x K}:NW C gl cX.body ⟨enter [v0,v1],h,x⟩ K=SY C gl v0 v1 h x K:=by kernel_rfl
def MM:ACode:=.pr [0,1,2,7] (.seq (.seq (rg [mV 17 7,
mV 18 0,
lN 19 18,
bN 20 .lss 17 19,
mV 21 20,
gD 22 21 true (.mv 0),
gD 23 21 true (.mv 7),
gD 24 21 true (.iaddr (some 8) 22 23),
gD 25 21 true (.faddr 2 none 24),
gD 26 21 true (.load none 25),
gD 27 21 true (.mv 2),
gD 28 21 true (.bin .leq 26 27),
uO 29 (.pick 21 28 cF)] [0,1,2,7,29])
(.cond 29 .skip
(.exit 0)))
(.seq (.block 1 (.seq (dr [dF (mV 32 0) [0],
dF (mV 33 7) [7],
dF (iA 34 (some 8) 32 33) [32,33],
dF (fA 35 3 none 34) [34],
dF (lD 36 none 35) [35],
dF (bN 37 .eql 36 (cI 7)) [36],
dF (mV 38 37) [37],
dF (gD 39 38 true (.mv 0)) [0,38],
dF (gD 40 38 true (.mv 7)) [7,38],
dF (gD 41 38 true (.iaddr (some 8) 39 40)) [39,40,38],
dF (gD 42 38 true (.faddr 6 none 41)) [41,38],
dF (gD 43 38 true (.load none 42)) [42,38],
dF (gD 44 38 true (.mv 0)) [0,38],
dF (gD 45 38 true (.mv 1)) [1,38],
dF (gD 46 38 true (.iaddr (some 8) 44 45)) [44,45,38],
dF (gD 47 38 true (.faddr 0 none 46)) [46,38],
dF (gD 48 38 true (.load none 47)) [47,38],
dF (gD 49 38 true (.bin .eql 43 48)) [43,48,38],
dF (uO 50 (.pick 38 49 cF)) [38,49],
dF (mV 51 50) [50],
dF (gD 52 51 true (.mv 0)) [0,51],
dF (gD 53 51 true (.mv 7)) [7,51],
dF (gD 54 51 true (.iaddr (some 8) 52 53)) [52,53,51],
dF (gD 55 51 true (.faddr 7 none 54)) [54,51],
dF (gD 56 51 true (.load none 55)) [55,51],
dF (gD 57 51 true (.mv 0)) [0,51],
dF (gD 58 51 true (.mv 1)) [1,51],
dF (gD 59 51 true (.iaddr (some 8) 57 58)) [57,58,51],
dF (gD 60 51 true (.faddr 1 none 59)) [59,51],
dF (gD 61 51 true (.load none 60)) [60,51],
dF (gD 62 51 true (.bin .eql 56 61)) [56,61,51],
dF (uO 63 (.pick 51 62 cF)) [51,62],
dF (mV 64 63) [63],
dF (gD 65 64 true (.mv 0)) [0,64],
dF (gD 66 64 true (.mv 7)) [7,64],
dF (gD 67 64 true (.mv 2)) [2,64],
dT (gD 68 64 true (.call CI [65,66,67])) [65,66,67,64],
dF (uO 69 (.pick 64 68 cF)) [64,68]] [0,1,2,7,69])
(.cond 69 (.seq (rg [mV 6 cF] [6])
.ret)
.skip)))
(rg [mV 30 7,
bN 31 .add 30 (cI 1),
mV 7 31] [0,1,2,7])))
def z4F (C:Hd)(gl:GL)(v0 v1 v2 v7:AV)(h:aA)(x:Esc)(K:KT):Prop:=
 pK (OA v0) fun t1=>
 pK (gA .lss v7 t1) fun t2=>
 gM t2 true v0 h fun t3 h4 y5=>
 gM t2 true v7 h4 fun t6 h7 y8=>
 gP t2 true (wA (some 8) t3 t6 h7) h7 fun t9 h10 y11=>
 gP t2 true (jA 2 none t9) h10 fun t12 h13 y14=>
 gP t2 true (eA none t12 h13) h13 fun t15 h16 y17=>
 gM t2 true v2 h16 fun t18 h19 y20=>
 gP t2 true (gA .leq t15 t18) h19 fun t21 h22 y23=>
 pK (DA t2 t21 (AB false)) fun t24=>
 mA t24 (pK (wA (some 8) v0 v7 h22) fun t25=>
 pK (jA 3 none t25) fun t26=>
 pK (eA none t26 h22) fun t27=>
 pK (gA .eql t27 (AI 7)) fun t28=>
 gM t28 true v0 h22 fun t29 h30 y31=>
 gM t28 true v7 h30 fun t32 h33 y34=>
 gP t28 true (wA (some 8) t29 t32 h33) h33 fun t35 h36 y37=>
 gP t28 true (jA 6 none t35) h36 fun t38 h39 y40=>
 gP t28 true (eA none t38 h39) h39 fun t41 h42 y43=>
 gM t28 true v0 h42 fun t44 h45 y46=>
 gM t28 true v1 h45 fun t47 h48 y49=>
 gP t28 true (wA (some 8) t44 t47 h48) h48 fun t50 h51 y52=>
 gP t28 true (jA 0 none t50) h51 fun t53 h54 y55=>
 gP t28 true (eA none t53 h54) h54 fun t56 h57 y58=>
 gP t28 true (gA .eql t41 t56) h57 fun t59 h60 y61=>
 pK (DA t28 t59 (AB false)) fun t62=>
 gM t62 true v0 h60 fun t63 h64 y65=>
 gM t62 true v7 h64 fun t66 h67 y68=>
 gP t62 true (wA (some 8) t63 t66 h67) h67 fun t69 h70 y71=>
 gP t62 true (jA 7 none t69) h70 fun t72 h73 y74=>
 gP t62 true (eA none t72 h73) h73 fun t75 h76 y77=>
 gM t62 true v0 h76 fun t78 h79 y80=>
 gM t62 true v1 h79 fun t81 h82 y83=>
 gP t62 true (wA (some 8) t78 t81 h82) h82 fun t84 h85 y86=>
 gP t62 true (jA 1 none t84) h85 fun t87 h88 y89=>
 gP t62 true (eA none t87 h88) h88 fun t90 h91 y92=>
 gP t62 true (gA .eql t75 t90) h91 fun t93 h94 y95=>
 pK (DA t62 t93 (AB false)) fun t96=>
 gM t96 true v0 h94 fun t97 h98 y99=>
 gM t96 true v7 h98 fun t100 h101 y102=>
 gM t96 true v2 h101 fun t103 h104 y105=>
 gV t96 true h104 (YA C CI [t97,t100,t103] h104) fun t106 h107 y108=>
 pK (DA t96 t106 (AB false)) fun t109=>
 mA t109 (K .ret ⟨[(6,(AB false))],h107,(y108++(y105++(y102++(y99++(y95++(y92++(y89++(y86++(y83++(y80++(y77++(y74++(y71++(y68++(y65++(y61++(y58++(y55++(y52++(y49++(y46++(y43++(y40++(y37++(y34++(y31++(y23++(y20++(y17++(y14++(y11++(y8++(y5++x)))))))))))))))))))))))))))))))))⟩)
 (pK (gA .add v7 (AI 1)) fun t110=>
 K .normal ⟨[(0,v0),(1,v1),(2,v2),(7,t110)],h107,(y108++(y105++(y102++(y99++(y95++(y92++(y89++(y86++(y83++(y80++(y77++(y74++(y71++(y68++(y65++(y61++(y58++(y55++(y52++(y49++(y46++(y43++(y40++(y37++(y34++(y31++(y23++(y20++(y17++(y14++(y11++(y8++(y5++x)))))))))))))))))))))))))))))))))⟩))
 (K (.exit 0) ⟨[(0,v0),(1,v1),(2,v2),(7,v7),(29,t24)],h22,(y23++(y20++(y17++(y14++(y11++(y8++(y5++x)))))))⟩)
theorem zhJ {C gl e h x K}:NW C gl MM ⟨e,h,x⟩ K=z4F C gl (bA e 0) (bA e 1) (bA e 2) (bA e 7) h x K:=by kernel_rfl
theorem zlY {C gl e h x K}:NW C gl (.loop MM) ⟨e,h,x⟩ K=PA C gl MM K [(0,bA e 0),(1,bA e 1),(2,bA e 2),(7,bA e 7)] h x:=wB
def DT:ACode:=.pr [] (.seq (rg [mV 6 cT] [6])
.ret)
def z4G (C:Hd)(gl:GL)(h:aA)(x:Esc)(K:KT):Prop:=
 K .ret ⟨[(6,(AB true))],h,x⟩
theorem zhK {C gl e h x K}:NW C gl DT ⟨e,h,x⟩ K=z4G C gl h x K:=by kernel_rfl
def z1M (q1 q2:ACode):ACode:=(.seq (rg [mV 6 cF] [0,1,2])
(.seq (.seq (rg [mV 8 0,
mV 9 1,
iA 10 (some 8) 8 9,
fA 11 2 none 10,
lD 12 none 11,
mV 13 2,
bN 14 .gtr 12 13] [0,1,2,14])
(.cond 14 (.seq (rg [mV 6 cF] [6])
.ret)
.skip))
(.seq (.seq (rg [mV 15 1,
bN 16 .add 15 (cI 1),
mV 7 16] [0,1,2,7])
(.block 0 (.loop q1)))
q2)))
def gW:AFun:=⟨3,[.t 6],z1M MM DT,false,false⟩
def oO (C:Hd)(gl:GL)(q1 q2:ACode)(v0 v1 v2:AV)(h:aA)(x:Esc)(K:KT):Prop:=
 pK (wA (some 8) v0 v1 h) fun t1=>
 pK (jA 2 none t1) fun t2=>
 pK (eA none t2 h) fun t3=>
 pK (gA .gtr t3 v2) fun t4=>
 mA t4 (K .ret ⟨[(6,(AB false))],h,x⟩)
 (pK (gA .add v1 (AI 1)) fun t5=>
 NW C gl (.loop q1) ⟨[(0,v0),(1,v1),(2,v2),(7,t5)],h,x⟩ (yA 0 (NA C gl q2 K)))
theorem zaP {C gl q1 q2 v0 v1 v2 h x K}:NW C gl (z1M q1 q2) ⟨enter [v0,v1,v2],h,x⟩ K=oO C gl q1 q2 v0 v1 v2 h x K:=by kernel_rfl
theorem zhI {C gl v0 v1 v2 h x K}:NW C gl gW.body ⟨enter [v0,v1,v2],h,x⟩ K=oO C gl MM DT v0 v1 v2 h x K:=zaP
end Go.Am
end
section
/- The functions asv abstract code,and asv formulas PE their values: printed by program out of the translation. -/
set_option linter.unusedVariables false
set_option maxRecDepth 100000
namespace Go.Am
def QM:ACode:=.pr [1,11] (.seq (rg [uO 12 (.mnext none [11]),
eX 13 12 0] [1,11,13])
(.seq (.cond 13 .skip
(.exit 0))
(.block 1 (.seq (rg [uO 14 (.mentry 11),
eX 15 14 0,
eX 16 14 1,
uO 6 (.alloc [.p (.int .i64 0),.p (.int .i64 0),.p (.str []),.p (.str []),.p (.int .i64 0)]),
mV 5 15,
wO (.store (some 5) 6 16)] [1,5,6,11])
(.seq (rg [fA 17 0 none 6,
lD 18 none 17,
bN 19 .eql 18 (cI 2),
mV 20 19,
gD 21 20 true (.faddr 3 none 6),
gD 22 20 true (.load none 21),
gD 23 20 true (.mv 1),
gD 24 20 true (.bin .eql 22 23),
uO 25 (.pick 20 24 cF)] [1,5,11,25])
(.cond 25 (.seq (rg [mV 26 5,
mV 4 26] [4])
.ret)
.skip))))))
def z4N (C:Hd)(gl:GL)(v1 v11:AV)(h:aA)(x:Esc)(K:KT):Prop:=
 nxK v11 h fun t1 h2 y3=>
 pK (jB t1 0) fun t4=>
 mA t4 (wK (IC v11 h2) fun t5 h6 y7=>
 pK (jB t5 0) fun t8=>
 pK (jB t5 1) fun t9=>
 alK [.p (.int .i64 0),.p (.int .i64 0),.p (.str []),.p (.str []),.p (.int .i64 0)] h6 fun t10 h11 y12=>
 wK (tA (some 5) t10 t9 h11) fun t13 h14 y15=>
 pK (jA 0 none t10) fun t16=>
 pK (eA none t16 h14) fun t17=>
 pK (gA .eql t17 (AI 2)) fun t18=>
 gP t18 true (jA 3 none t10) h14 fun t19 h20 y21=>
 gP t18 true (eA none t19 h20) h20 fun t22 h23 y24=>
 gM t18 true v1 h23 fun t25 h26 y27=>
 gP t18 true (gA .eql t22 t25) h26 fun t28 h29 y30=>
 pK (DA t18 t28 (AB false)) fun t31=>
 mA t31 (K .ret ⟨[(4,t8)],h29,(y30++(y27++(y24++(y21++(y15++(y12++(y7++(y3++x))))))))⟩)
 (K .normal ⟨[(1,v1),(5,t8),(11,v11),(25,t31)],h29,(y30++(y27++(y24++(y21++(y15++(y12++(y7++(y3++x))))))))⟩))
 (K (.exit 0) ⟨[(1,v1),(11,v11),(13,t4)],h2,(y3++x)⟩)
theorem zhX {C gl e h x K}:NW C gl QM ⟨e,h,x⟩ K=z4N C gl (bA e 1) (bA e 11) h x K:=by kernel_rfl
theorem zmb {C gl e h x K}:NW C gl (.loop (.scope QM)) ⟨e,h,x⟩ K=PA C gl (.scope QM) K [(1,bA e 1),(11,bA e 11)] h x:=ZC
def JT:ACode:=.pr [] (.seq (rg [mV 4 (cS [])] [4])
.ret)
def z4O (C:Hd)(gl:GL)(h:aA)(x:Esc)(K:KT):Prop:=
 K .ret ⟨[(4,(.p (.str [])))],h,x⟩
theorem zhY {C gl e h x K}:NW C gl JT ⟨e,h,x⟩ K=z4O C gl h x K:=by kernel_rfl
def z1S (q1 q2:ACode):ACode:=(.det (.seq (rg [mV 4 (cS [])] [0,1])
(.seq (.seq (rg [mV 7 0,
uO 8 (.nilchk 7),
fA 9 2 none 8,
lD 10 none 9,
uO 11 (.mrange 10)] [1,11])
(.block 0 (.loop (.scope q1))))
q2)))
def mW:AFun:=⟨2,[.t 4],z1S QM JT,false,false⟩
def zR (C:Hd)(gl:GL)(q1 q2:ACode)(v0 v1:AV)(h:aA)(x:Esc)(K:KT):Prop:=
 pK (rA v0) fun t1=>
 pK (jA 2 none t1) fun t2=>
 pK (eA none t2 h) fun t3=>
 wK (JC t3 h) fun t4 h5 y6=>
 NW C gl (.loop (.scope q1)) ⟨[(1,v1),(11,t4)],h5,(y6++x)⟩ (yA 0 (NA C gl q2 K))
theorem zaV {C gl q1 q2 v0 v1 h x K}:NW C gl (z1S q1 q2) ⟨enter [v0,v1],h,x⟩ K=zR C gl q1 q2 v0 v1 h x K:=by kernel_rfl
theorem zhW {C gl v0 v1 h x K}:NW C gl mW.body ⟨enter [v0,v1],h,x⟩ K=zR C gl QM JT v0 v1 h x K:=zaV
def UZ:ACode:=.pr [0,1,2,3,13,14] (rg [bN 54 .add 14 (cI 1),
mV 14 54] [0,1,2,3,13,14])
def z4K (C:Hd)(gl:GL)(v0 v1 v2 v3 v13 v14:AV)(h:aA)(x:Esc)(K:KT):Prop:=
 pK (gA .add v14 (AI 1)) fun t1=>
 K .normal ⟨[(0,v0),(1,v1),(2,v2),(3,v3),(13,v13),(14,t1)],h,x⟩
theorem zhR {C gl e h x K}:NW C gl UZ ⟨e,h,x⟩ K=z4K C gl (bA e 0) (bA e 1) (bA e 2) (bA e 3) (bA e 13) (bA e 14) h x K:=by kernel_rfl
def z1Q (q1:ACode):ACode:=.pr [0,1,2,3,13,14] (.seq (rg [bN 15 .lss 14 13] [0,1,2,3,13,14,15])
(.seq (.cond 15 .skip
(.exit 0))
(.seq (.block 1 (.seq (rg [mV 16 14,
mV 8 16] [0,1,2,3,8,13,14])
(.seq (rg [mV 17 0,
uO 18 (.nilchk 17),
fA 19 3 none 18,
lD 20 none 19,
mV 21 8,
iA 22 (some 6) 20 21,
fA 23 0 none 22,
lD 24 none 23,
mV 25 1,
bN 26 .eql 24 25,
mV 27 26,
gD 28 27 true (.mv 0),
gD 29 27 true (.nilchk 28),
gD 30 27 true (.faddr 3 none 29),
gD 31 27 true (.load none 30),
gD 32 27 true (.mv 8),
gD 33 27 true (.iaddr (some 6) 31 32),
gD 34 27 true (.faddr 4 none 33),
gD 35 27 true (.load none 34),
gD 36 27 true (.bin .lss 35 (cI 0)),
uO 37 (.pick 27 36 cF)] [0,1,2,3,8,13,14,37])
(.cond 37 (dr [dF (mV 38 0) [0],
dF (uO 39 (.nilchk 38)) [38],
dF (fA 40 3 none 39) [39],
dF (lD 41 none 40) [40],
dF (mV 42 8) [8],
dF (mV 43 0) [0],
dF (uO 44 (.nilchk 43)) [43],
dF (fA 45 3 none 44) [44],
dF (lD 46 none 45) [45],
dF (mV 47 8) [8],
dF (mV 48 2) [2],
dF (mV 49 3) [3],
dF (iA 50 (some 6) 41 42) [41,42],
dF (fA 51 4 none 50) [50],
dT (wO (.store none 51 48)) [51,48],
dF (iA 52 (some 6) 46 47) [46,47],
dF (fA 53 5 none 52) [52],
dT (wO (.store none 53 49)) [53,49]] [0,1,2,3,13,14])
.skip))))
q1)))
def OM:ACode:=z1Q UZ
def aY (C:Hd)(gl:GL)(q1:ACode)(v0 v1 v2 v3 v13 v14:AV)(h:aA)(x:Esc)(K:KT):Prop:=
 pK (gA .lss v14 v13) fun t1=>
 mA t1 (pK (rA v0) fun t2=>
 pK (jA 3 none t2) fun t3=>
 pK (eA none t3 h) fun t4=>
 pK (wA (some 6) t4 v14 h) fun t5=>
 pK (jA 0 none t5) fun t6=>
 pK (eA none t6 h) fun t7=>
 pK (gA .eql t7 v1) fun t8=>
 gM t8 true v0 h fun t9 h10 y11=>
 gP t8 true (rA t9) h10 fun t12 h13 y14=>
 gP t8 true (jA 3 none t12) h13 fun t15 h16 y17=>
 gP t8 true (eA none t15 h16) h16 fun t18 h19 y20=>
 gM t8 true v14 h19 fun t21 h22 y23=>
 gP t8 true (wA (some 6) t18 t21 h22) h22 fun t24 h25 y26=>
 gP t8 true (jA 4 none t24) h25 fun t27 h28 y29=>
 gP t8 true (eA none t27 h28) h28 fun t30 h31 y32=>
 gP t8 true (gA .lss t30 (AI 0)) h31 fun t33 h34 y35=>
 pK (DA t8 t33 (AB false)) fun t36=>
 mA t36 (pK (rA v0) fun t37=>
 pK (jA 3 none t37) fun t38=>
 pK (eA none t38 h34) fun t39=>
 pK (rA v0) fun t40=>
 pK (jA 3 none t40) fun t41=>
 pK (eA none t41 h34) fun t42=>
 pK (wA (some 6) t39 v14 h34) fun t43=>
 pK (jA 4 none t43) fun t44=>
 wK (tA none t44 v2 h34) fun t45 h46 y47=>
 pK (wA (some 6) t42 v14 h46) fun t48=>
 pK (jA 5 none t48) fun t49=>
 wK (tA none t49 v3 h46) fun t50 h51 y52=>
 NW C gl q1 ⟨[(0,v0),(1,v1),(2,v2),(3,v3),(13,v13),(14,v14)],h51,(y52++(y47++(y35++(y32++(y29++(y26++(y23++(y20++(y17++(y14++(y11++x)))))))))))⟩ K)
 (NW C gl q1 ⟨[(0,v0),(1,v1),(2,v2),(3,v3),(8,v14),(13,v13),(14,v14),(37,t36)],h34,(y35++(y32++(y29++(y26++(y23++(y20++(y17++(y14++(y11++x)))))))))⟩ K))
 (K (.exit 0) ⟨[(0,v0),(1,v1),(2,v2),(3,v3),(13,v13),(14,v14),(15,t1)],h,x⟩)
theorem zaT {C gl q1 e h x K}:NW C gl (z1Q q1) ⟨e,h,x⟩ K=aY C gl q1 (bA e 0) (bA e 1) (bA e 2) (bA e 3) (bA e 13) (bA e 14) h x K:=by kernel_rfl
theorem zhS {C gl e h x K}:NW C gl OM ⟨e,h,x⟩ K=aY C gl UZ (bA e 0) (bA e 1) (bA e 2) (bA e 3) (bA e 13) (bA e 14) h x K:=zaT
theorem zlZ {C gl e h x K}:NW C gl (.loop OM) ⟨e,h,x⟩ K=PA C gl OM K [(0,bA e 0),(1,bA e 1),(2,bA e 2),(3,bA e 3),(13,bA e 13),(14,bA e 14)] h x:=wB
def z1P (q2:ACode):ACode:=(.seq (rg [mV 9 0,
uO 10 (.nilchk 9),
fA 11 3 none 10,
lD 12 none 11,
lN 13 12,
mV 14 (cI 0)] [0,1,2,3,13,14])
(.block 0 (.loop q2)))
def kW:AFun:=⟨4,[],z1P OM,false,false⟩
def xR (C:Hd)(gl:GL)(q2:ACode)(v0 v1 v2 v3:AV)(h:aA)(x:Esc)(K:KT):Prop:=
 pK (rA v0) fun t1=>
 pK (jA 3 none t1) fun t2=>
 pK (eA none t2 h) fun t3=>
 pK (OA t3) fun t4=>
 NW C gl (.loop q2) ⟨[(0,v0),(1,v1),(2,v2),(3,v3),(13,t4),(14,(AI 0))],h,x⟩ (yA 0 K)
theorem zaS {C gl q2 v0 v1 v2 v3 h x K}:NW C gl (z1P q2) ⟨enter [v0,v1,v2,v3],h,x⟩ K=xR C gl q2 v0 v1 v2 v3 h x K:=by kernel_rfl
theorem zhQ {C gl v0 v1 v2 v3 h x K}:NW C gl kW.body ⟨enter [v0,v1,v2,v3],h,x⟩ K=xR C gl OM v0 v1 v2 v3 h x K:=zaS
def ET:ACode:=.pr [5,8] (.seq (rg [lD 29 (some 5) 5,
wO (.store (some 5) 8 29)] [8])
.ret)
def z4H (C:Hd)(gl:GL)(v5 v8:AV)(h:aA)(x:Esc)(K:KT):Prop:=
 pK (eA (some 5) v5 h) fun t1=>
 wK (tA (some 5) v8 t1 h) fun t2 h3 y4=>
 K .ret ⟨[(8,v8)],h3,(y4++x)⟩
theorem zhM {C gl e h x K}:NW C gl ET ⟨e,h,x⟩ K=z4H C gl (bA e 5) (bA e 8) h x K:=by kernel_rfl
def FT:ACode:=.pr [0,2,5,8] (.seq (dr [dF (mV 30 0) [0],
dF (uO 31 (.nilchk 30)) [30],
dF (fA 32 0 (some 2) 31) [31],
dF (fA 33 0 none 32) [32],
dF (lD 34 none 33) [33],
dF (fA 35 2 none 5) [5],
dF (lD 36 none 35) [35],
dT (cL 37 VF [34,36]) [34,36],
dF (bN 38 .add 37 (cI 1)) [37],
dF (mV 9 38) [38]] [0,2,8,9])
(.seq (.seq (rg [mV 39 9,
mV 40 0,
uO 41 (.nilchk 40),
fA 42 0 (some 2) 41,
fA 43 0 none 42,
lD 44 none 43,
lN 45 44,
bN 46 .eql 39 45] [0,2,8,9,46])
(.cond 46 (.seq (rg [mV 47 2,
uO 48 (.build [.p (.int .i64 0),.p (.int .i64 0),.p (.str []),.p (.str []),.p (.int .i64 0)] [(0,1,(cI 4)),(1,1,47)]),
wO (.store (some 5) 8 48)] [8])
.ret)
.skip))
(.seq (rg [mV 49 2,
mV 50 0,
uO 51 (.nilchk 50),
fA 52 0 (some 2) 51,
fA 53 0 none 52,
lD 54 none 53,
mV 55 9,
iA 56 none 54 55,
lD 57 none 56,
uO 58 (.build [.p (.int .i64 0),.p (.int .i64 0),.p (.str []),.p (.str []),.p (.int .i64 0)] [(0,1,(cI 1)),(1,1,49),(2,1,57)]),
wO (.store (some 5) 8 58)] [8])
.ret)))
def z4I (C:Hd)(gl:GL)(v0 v2 v5 v8:AV)(h:aA)(x:Esc)(K:KT):Prop:=
 pK (rA v0) fun t1=>
 pK (jA 0 (some 2) t1) fun t2=>
 pK (jA 0 none t2) fun t3=>
 pK (eA none t3 h) fun t4=>
 pK (jA 2 none v5) fun t5=>
 pK (eA none t5 h) fun t6=>
 YA C VF [t4,t6] h fun t7 h8 y9=>
 pK (gA .add t7 (AI 1)) fun t10=>
 pK (rA v0) fun t11=>
 pK (jA 0 (some 2) t11) fun t12=>
 pK (jA 0 none t12) fun t13=>
 pK (eA none t13 h8) fun t14=>
 pK (OA t14) fun t15=>
 pK (gA .eql t10 t15) fun t16=>
 mA t16 (pK (RB [.p (.int .i64 0),.p (.int .i64 0),.p (.str []),.p (.str []),.p (.int .i64 0)] [(0,1,(AI 4)),(1,1,v2)]) fun t17=>
 wK (tA (some 5) v8 t17 h8) fun t18 h19 y20=>
 K .ret ⟨[(8,v8)],h19,(y20++(y9++x))⟩)
 (pK (rA v0) fun t21=>
 pK (jA 0 (some 2) t21) fun t22=>
 pK (jA 0 none t22) fun t23=>
 pK (eA none t23 h8) fun t24=>
 pK (wA none t24 t10 h8) fun t25=>
 pK (eA none t25 h8) fun t26=>
 pK (RB [.p (.int .i64 0),.p (.int .i64 0),.p (.str []),.p (.str []),.p (.int .i64 0)] [(0,1,(AI 1)),(1,1,v2),(2,1,t26)]) fun t27=>
 wK (tA (some 5) v8 t27 h8) fun t28 h29 y30=>
 K .ret ⟨[(8,v8)],h29,(y30++(y9++x))⟩)
theorem zhN {C gl e h x K}:NW C gl FT ⟨e,h,x⟩ K=z4I C gl (bA e 0) (bA e 2) (bA e 5) (bA e 8) h x K:=by kernel_rfl
def z1N (q1 q2:ACode):ACode:=(.seq (rg [uO 5 (.box 1),
uO 8 (.alloc [.p (.int .i64 0),.p (.int .i64 0),.p (.str []),.p (.str []),.p (.int .i64 0)])] [0,2,3,5,8])
(.seq (.seq (rg [mV 10 3,
uO 11 (.un .not 10)] [0,2,5,8,11])
(.cond 11 (.seq (rg [fA 12 4 none 5,
lD 13 none 12,
bN 14 .add 13 (cI 1),
fA 15 4 none 5,
wO (.store none 15 14)] [0,2,5,8])
(.seq (rg [mV 16 2,
fA 17 0 none 5,
wO (.store none 17 (cI 3)),
fA 18 1 none 5,
wO (.store none 18 16),
fA 19 3 none 5,
wO (.store none 19 (cS []))] [0,5,8])
(.seq (.seq (dr [dF (fA 20 4 none 5) [5],
dF (lD 21 none 20) [20],
dF (mV 22 0) [0],
dF (uO 23 (.nilchk 22)) [22],
dF (fA 24 0 (some 2) 23) [23],
dF (fA 25 1 none 24) [24],
dF (lD 26 none 25) [25],
dF (bN 27 .eql 21 26) [21,26]] [5,8,27])
(.cond 27 (rg [fA 28 0 none 5,
wO (.store none 28 (cI 5))] [5,8])
.skip))
q1)))
.skip))
q2))
def iW:AFun:=⟨4,[.cell 8 (some 5)],z1N ET FT,false,false⟩
def EJ (C:Hd)(gl:GL)(q1 q2:ACode)(v0 v1 v2 v3:AV)(h:aA)(x:Esc)(K:KT):Prop:=
 wK (vB v1 h) fun t1 h2 y3=>
 alK [.p (.int .i64 0),.p (.int .i64 0),.p (.str []),.p (.str []),.p (.int .i64 0)] h2 fun t4 h5 y6=>
 pK (oUn .not v3) fun t7=>
 mA t7 (pK (jA 4 none t1) fun t8=>
 pK (eA none t8 h5) fun t9=>
 pK (gA .add t9 (AI 1)) fun t10=>
 pK (jA 4 none t1) fun t11=>
 wK (tA none t11 t10 h5) fun t12 h13 y14=>
 pK (jA 0 none t1) fun t15=>
 wK (tA none t15 (AI 3) h13) fun t16 h17 y18=>
 pK (jA 1 none t1) fun t19=>
 wK (tA none t19 v2 h17) fun t20 h21 y22=>
 pK (jA 3 none t1) fun t23=>
 wK (tA none t23 (.p (.str [])) h21) fun t24 h25 y26=>
 pK (jA 4 none t1) fun t27=>
 pK (eA none t27 h25) fun t28=>
 pK (rA v0) fun t29=>
 pK (jA 0 (some 2) t29) fun t30=>
 pK (jA 1 none t30) fun t31=>
 pK (eA none t31 h25) fun t32=>
 pK (gA .eql t28 t32) fun t33=>
 mA t33 (pK (jA 0 none t1) fun t34=>
 wK (tA none t34 (AI 5) h25) fun t35 h36 y37=>
 NW C gl q1 ⟨[(5,t1),(8,t4)],h36,(y37++(y26++(y22++(y18++(y14++(y6++(y3++x)))))))⟩ (NA C gl q2 K))
 (NW C gl q1 ⟨[(5,t1),(8,t4),(27,t33)],h25,(y26++(y22++(y18++(y14++(y6++(y3++x))))))⟩ (NA C gl q2 K)))
 (NW C gl q2 ⟨[(0,v0),(2,v2),(5,t1),(8,t4),(11,t7)],h5,(y6++(y3++x))⟩ K)
theorem zaQ {C gl q1 q2 v0 v1 v2 v3 h x K}:NW C gl (z1N q1 q2) ⟨enter [v0,v1,v2,v3],h,x⟩ K=EJ C gl q1 q2 v0 v1 v2 v3 h x K:=by kernel_rfl
theorem zhL {C gl v0 v1 v2 v3 h x K}:NW C gl iW.body ⟨enter [v0,v1,v2,v3],h,x⟩ K=EJ C gl ET FT v0 v1 v2 v3 h x K:=zaQ
def VZ:ACode:=.pr [0,3,9,10] (rg [bN 51 .add 10 (cI 1),
mV 10 51] [0,3,9,10])
def z4P (C:Hd)(gl:GL)(v0 v3 v9 v10:AV)(h:aA)(x:Esc)(K:KT):Prop:=
 pK (gA .add v10 (AI 1)) fun t1=>
 K .normal ⟨[(0,v0),(3,v3),(9,v9),(10,t1)],h,x⟩
theorem zia {C gl e h x K}:NW C gl VZ ⟨e,h,x⟩ K=z4P C gl (bA e 0) (bA e 3) (bA e 9) (bA e 10) h x K:=by kernel_rfl
def z1U (q1:ACode):ACode:=.pr [0,3,9,10] (.seq (rg [bN 11 .lss 10 9] [0,3,9,10,11])
(.seq (.cond 11 .skip
(.exit 0))
(.seq (.block 1 (.seq (rg [mV 12 10,
mV 4 12] [0,3,4,9,10])
(.seq (dr [dF (mV 13 0) [0],
dF (uO 14 (.nilchk 13)) [13],
dF (fA 15 3 none 14) [14],
dF (lD 16 none 15) [15],
dF (mV 17 4) [4],
dF (iA 18 (some 6) 16 17) [16,17],
dF (fA 19 0 none 18) [18],
dF (lD 20 none 19) [19],
dF (fA 21 4 none 3) [3],
dF (lD 22 none 21) [21],
dF (bN 23 .eql 20 22) [20,22],
dF (mV 24 23) [23],
dF (gD 25 24 true (.mv 0)) [0,24],
dF (gD 26 24 true (.nilchk 25)) [25,24],
dF (gD 27 24 true (.faddr 3 none 26)) [26,24],
dF (gD 28 24 true (.load none 27)) [27,24],
dF (gD 29 24 true (.mv 4)) [4,24],
dF (gD 30 24 true (.iaddr (some 6) 28 29)) [28,29,24],
dF (gD 31 24 true (.faddr 4 none 30)) [30,24],
dF (gD 32 24 true (.load none 31)) [31,24],
dF (gD 33 24 true (.bin .lss 32 (cI 0))) [32,24],
dF (uO 34 (.pick 24 33 cF)) [24,33]] [0,3,4,9,10,34])
(.cond 34 (dr [dF (mV 35 0) [0],
dF (uO 36 (.nilchk 35)) [35],
dF (fA 37 3 none 36) [36],
dF (lD 38 none 37) [37],
dF (mV 39 4) [4],
dF (mV 40 0) [0],
dF (uO 41 (.nilchk 40)) [40],
dF (fA 42 3 none 41) [41],
dF (lD 43 none 42) [42],
dF (mV 44 4) [4],
dF (fA 45 2 none 3) [3],
dF (lD 46 none 45) [45],
dF (iA 47 (some 6) 38 39) [38,39],
dF (fA 48 4 none 47) [47],
dT (wO (.store none 48 46)) [48,46],
dF (iA 49 (some 6) 43 44) [43,44],
dF (fA 50 0 none 49) [49],
dT (wO (.store none 50 (cS []))) [50]] [0,3,9,10])
.skip))))
q1)))
def RM:ACode:=z1U VZ
def bY (C:Hd)(gl:GL)(q1:ACode)(v0 v3 v9 v10:AV)(h:aA)(x:Esc)(K:KT):Prop:=
 pK (gA .lss v10 v9) fun t1=>
 mA t1 (pK (rA v0) fun t2=>
 pK (jA 3 none t2) fun t3=>
 pK (eA none t3 h) fun t4=>
 pK (wA (some 6) t4 v10 h) fun t5=>
 pK (jA 0 none t5) fun t6=>
 pK (eA none t6 h) fun t7=>
 pK (jA 4 none v3) fun t8=>
 pK (eA none t8 h) fun t9=>
 pK (gA .eql t7 t9) fun t10=>
 gM t10 true v0 h fun t11 h12 y13=>
 gP t10 true (rA t11) h12 fun t14 h15 y16=>
 gP t10 true (jA 3 none t14) h15 fun t17 h18 y19=>
 gP t10 true (eA none t17 h18) h18 fun t20 h21 y22=>
 gM t10 true v10 h21 fun t23 h24 y25=>
 gP t10 true (wA (some 6) t20 t23 h24) h24 fun t26 h27 y28=>
 gP t10 true (jA 4 none t26) h27 fun t29 h30 y31=>
 gP t10 true (eA none t29 h30) h30 fun t32 h33 y34=>
 gP t10 true (gA .lss t32 (AI 0)) h33 fun t35 h36 y37=>
 pK (DA t10 t35 (AB false)) fun t38=>
 mA t38 (pK (rA v0) fun t39=>
 pK (jA 3 none t39) fun t40=>
 pK (eA none t40 h36) fun t41=>
 pK (rA v0) fun t42=>
 pK (jA 3 none t42) fun t43=>
 pK (eA none t43 h36) fun t44=>
 pK (jA 2 none v3) fun t45=>
 pK (eA none t45 h36) fun t46=>
 pK (wA (some 6) t41 v10 h36) fun t47=>
 pK (jA 4 none t47) fun t48=>
 wK (tA none t48 t46 h36) fun t49 h50 y51=>
 pK (wA (some 6) t44 v10 h50) fun t52=>
 pK (jA 0 none t52) fun t53=>
 wK (tA none t53 (.p (.str [])) h50) fun t54 h55 y56=>
 NW C gl q1 ⟨[(0,v0),(3,v3),(9,v9),(10,v10)],h55,(y56++(y51++(y37++(y34++(y31++(y28++(y25++(y22++(y19++(y16++(y13++x)))))))))))⟩ K)
 (NW C gl q1 ⟨[(0,v0),(3,v3),(4,v10),(9,v9),(10,v10),(34,t38)],h36,(y37++(y34++(y31++(y28++(y25++(y22++(y19++(y16++(y13++x)))))))))⟩ K))
 (K (.exit 0) ⟨[(0,v0),(3,v3),(9,v9),(10,v10),(11,t1)],h,x⟩)
theorem zaX {C gl q1 e h x K}:NW C gl (z1U q1) ⟨e,h,x⟩ K=bY C gl q1 (bA e 0) (bA e 3) (bA e 9) (bA e 10) h x K:=by kernel_rfl
theorem zib {C gl e h x K}:NW C gl RM ⟨e,h,x⟩ K=bY C gl VZ (bA e 0) (bA e 3) (bA e 9) (bA e 10) h x K:=zaX
theorem zmc {C gl e h x K}:NW C gl (.loop RM) ⟨e,h,x⟩ K=PA C gl RM K [(0,bA e 0),(3,bA e 3),(9,bA e 9),(10,bA e 10)] h x:=wB
def z1T (q2:ACode):ACode:=(.seq (rg [uO 3 (.box 1)] [0,3])
(.seq (rg [mV 5 0,
uO 6 (.nilchk 5),
fA 7 3 none 6,
lD 8 none 7,
lN 9 8,
mV 10 (cI 0)] [0,3,9,10])
(.block 0 (.loop q2))))
def nW:AFun:=⟨2,[],z1T RM,false,false⟩
def AR (C:Hd)(gl:GL)(q2:ACode)(v0 v1:AV)(h:aA)(x:Esc)(K:KT):Prop:=
 wK (vB v1 h) fun t1 h2 y3=>
 pK (rA v0) fun t4=>
 pK (jA 3 none t4) fun t5=>
 pK (eA none t5 h2) fun t6=>
 pK (OA t6) fun t7=>
 NW C gl (.loop q2) ⟨[(0,v0),(3,t1),(9,t7),(10,(AI 0))],h2,(y3++x)⟩ (yA 0 K)
theorem zaW {C gl q2 v0 v1 h x K}:NW C gl (z1T q2) ⟨enter [v0,v1],h,x⟩ K=AR C gl q2 v0 v1 h x K:=by kernel_rfl
theorem zhZ {C gl v0 v1 h x K}:NW C gl nW.body ⟨enter [v0,v1],h,x⟩ K=AR C gl RM v0 v1 h x K:=zaW
def xP:ACode:=.pr [0,1,2,3,8,9] (.seq (.seq (dr [dF (mV 18 9) [9],
dF (mV 19 1) [1],
dF (bN 20 .gtr 18 19) [18,19],
dF (mV 21 20) [20],
dF (gD 22 21 true (.mv 3)) [3,21],
dF (gD 23 21 true (.mv 0)) [0,21],
dF (gD 24 21 true (.mv 9)) [9,21],
dF (gD 25 21 true (.iaddr (some 2) 23 24)) [23,24,21],
dF (gD 26 21 true (.load (some 2) 25)) [25,21],
dF (gD 27 21 true (.mv 0)) [0,21],
dF (gD 28 21 true (.mv 9)) [9,21],
dF (gD 29 21 true (.bin .sub 28 (cI 1))) [28,21],
dF (gD 30 21 true (.iaddr (some 2) 27 29)) [27,29,21],
dF (gD 31 21 true (.load (some 2) 30)) [30,21],
dT (gD 32 21 true (.callv 22 [26,31])) [22,26,31,21],
dF (gD 33 21 true (.bin .lss 32 (cI 0))) [32,21],
dF (uO 34 (.pick 21 33 cF)) [21,33]] [0,1,2,3,8,9,34])
(.cond 34 .skip
(.exit 2)))
(.seq (.block 3 (dr [dF (mV 37 0) [0],
dF (mV 38 9) [9],
dF (mV 39 0) [0],
dF (mV 40 9) [9],
dF (bN 41 .sub 40 (cI 1)) [40],
dF (mV 42 0) [0],
dF (mV 43 9) [9],
dF (bN 44 .sub 43 (cI 1)) [43],
dF (iA 45 (some 2) 42 44) [42,44],
dF (lD 46 (some 2) 45) [45],
dF (mV 47 0) [0],
dF (mV 48 9) [9],
dF (iA 49 (some 2) 47 48) [47,48],
dF (lD 50 (some 2) 49) [49],
dF (iA 51 (some 2) 37 38) [37,38],
dT (wO (.store (some 2) 51 46)) [51,46],
dF (iA 52 (some 2) 39 41) [39,41],
dT (wO (.store (some 2) 52 50)) [52,50]] [0,1,2,3,8,9]))
(rg [mV 35 9,
bN 36 .sub 35 (cI 1),
mV 9 36] [0,1,2,3,8,9])))
def z5p (C:Hd)(gl:GL)(v0 v1 v2 v3 v8 v9:AV)(h:aA)(x:Esc)(K:KT):Prop:=
 pK (gA .gtr v9 v1) fun t1=>
 gM t1 true v3 h fun t2 h3 y4=>
 gM t1 true v0 h3 fun t5 h6 y7=>
 gM t1 true v9 h6 fun t8 h9 y10=>
 gP t1 true (wA (some 2) t5 t8 h9) h9 fun t11 h12 y13=>
 gP t1 true (eA (some 2) t11 h12) h12 fun t14 h15 y16=>
 gM t1 true v0 h15 fun t17 h18 y19=>
 gM t1 true v9 h18 fun t20 h21 y22=>
 gP t1 true (gA .sub t20 (AI 1)) h21 fun t23 h24 y25=>
 gP t1 true (wA (some 2) t17 t23 h24) h24 fun t26 h27 y28=>
 gP t1 true (eA (some 2) t26 h27) h27 fun t29 h30 y31=>
 gV t1 true h30 (eH C t2 [t14,t29] h30) fun t32 h33 y34=>
 gP t1 true (gA .lss t32 (AI 0)) h33 fun t35 h36 y37=>
 pK (DA t1 t35 (AB false)) fun t38=>
 mA t38 (pK (gA .sub v9 (AI 1)) fun t39=>
 pK (gA .sub v9 (AI 1)) fun t40=>
 pK (wA (some 2) v0 t40 h36) fun t41=>
 pK (eA (some 2) t41 h36) fun t42=>
 pK (wA (some 2) v0 v9 h36) fun t43=>
 pK (eA (some 2) t43 h36) fun t44=>
 pK (wA (some 2) v0 v9 h36) fun t45=>
 wK (tA (some 2) t45 t42 h36) fun t46 h47 y48=>
 pK (wA (some 2) v0 t39 h47) fun t49=>
 wK (tA (some 2) t49 t44 h47) fun t50 h51 y52=>
 pK (gA .sub v9 (AI 1)) fun t53=>
 K .normal ⟨[(0,v0),(1,v1),(2,v2),(3,v3),(8,v8),(9,t53)],h51,(y52++(y48++(y37++(y34++(y31++(y28++(y25++(y22++(y19++(y16++(y13++(y10++(y7++(y4++x))))))))))))))⟩)
 (K (.exit 2) ⟨[(0,v0),(1,v1),(2,v2),(3,v3),(8,v8),(9,v9),(34,t38)],h36,(y37++(y34++(y31++(y28++(y25++(y22++(y19++(y16++(y13++(y10++(y7++(y4++x))))))))))))⟩)
theorem ziU {C gl e h x K}:NW C gl xP ⟨e,h,x⟩ K=z5p C gl (bA e 0) (bA e 1) (bA e 2) (bA e 3) (bA e 8) (bA e 9) h x K:=by kernel_rfl
theorem zmr {C gl e h x K}:NW C gl (.loop xP) ⟨e,h,x⟩ K=PA C gl xP K [(0,bA e 0),(1,bA e 1),(2,bA e 2),(3,bA e 3),(8,bA e 8),(9,bA e 9)] h x:=wB
def z0a:ACode:=.pr [0,1,2,3,8] (rg [mV 15 8,
bN 16 .add 15 (cI 1),
mV 8 16] [0,1,2,3,8])
def z5q (C:Hd)(gl:GL)(v0 v1 v2 v3 v8:AV)(h:aA)(x:Esc)(K:KT):Prop:=
 pK (gA .add v8 (AI 1)) fun t1=>
 K .normal ⟨[(0,v0),(1,v1),(2,v2),(3,v3),(8,t1)],h,x⟩
theorem ziV {C gl e h x K}:NW C gl z0a ⟨e,h,x⟩ K=z5q C gl (bA e 0) (bA e 1) (bA e 2) (bA e 3) (bA e 8) h x K:=by kernel_rfl
def z2m (q1 q2:ACode):ACode:=.pr [0,1,2,3,8] (.seq (.seq (rg [mV 12 8,
mV 13 2,
bN 14 .lss 12 13] [0,1,2,3,8,14])
(.cond 14 .skip
(.exit 0)))
(.seq (.block 1 (.seq (rg [mV 17 8,
mV 9 17] [0,1,2,3,8,9])
(.block 2 (.loop q1))))
q2))
def fN:ACode:=z2m xP z0a
def pY (C:Hd)(gl:GL)(q1 q2:ACode)(v0 v1 v2 v3 v8:AV)(h:aA)(x:Esc)(K:KT):Prop:=
 pK (gA .lss v8 v2) fun t1=>
 mA t1 (NW C gl (.loop q1) ⟨[(0,v0),(1,v1),(2,v2),(3,v3),(8,v8),(9,v8)],h,x⟩ (yA 2 (yA 1 (NA C gl q2 K))))
 (K (.exit 0) ⟨[(0,v0),(1,v1),(2,v2),(3,v3),(8,v8),(14,t1)],h,x⟩)
theorem zbp {C gl q1 q2 e h x K}:NW C gl (z2m q1 q2) ⟨e,h,x⟩ K=pY C gl q1 q2 (bA e 0) (bA e 1) (bA e 2) (bA e 3) (bA e 8) h x K:=by kernel_rfl
theorem ziW {C gl e h x K}:NW C gl fN ⟨e,h,x⟩ K=pY C gl xP z0a (bA e 0) (bA e 1) (bA e 2) (bA e 3) (bA e 8) h x K:=zbp
theorem zms {C gl e h x K}:NW C gl (.loop fN) ⟨e,h,x⟩ K=PA C gl fN K [(0,bA e 0),(1,bA e 1),(2,bA e 2),(3,bA e 3),(8,bA e 8)] h x:=wB
def z2l (q3:ACode):ACode:=(.seq (rg [mV 10 1,
bN 11 .add 10 (cI 1),
mV 8 11] [0,1,2,3,8])
(.block 0 (.loop q3)))
def KW:AFun:=⟨4,[],z2l fN,true,false⟩
def MR (C:Hd)(gl:GL)(q3:ACode)(v0 v1 v2 v3:AV)(h:aA)(x:Esc)(K:KT):Prop:=
 pK (gA .add v1 (AI 1)) fun t1=>
 NW C gl (.loop q3) ⟨[(0,v0),(1,v1),(2,v2),(3,v3),(8,t1)],h,x⟩ (yA 0 K)
theorem zbo {C gl q3 v0 v1 v2 v3 h x K}:NW C gl (z2l q3) ⟨enter [v0,v1,v2,v3],h,x⟩ K=MR C gl q3 v0 v1 v2 v3 h x K:=by kernel_rfl
theorem ziT {C gl v0 v1 v2 v3 h x K}:NW C gl KW.body ⟨enter [v0,v1,v2,v3],h,x⟩ K=MR C gl fN v0 v1 v2 v3 h x K:=zbo
def LZ:ACode:=.pr [0,2] (.seq (rg [mV 19 2,
mV 20 0,
uO 21 (.conv (.i .u8) 20),
uO 22 (.idxs (cS [0,1,2,2,3,3,3,3,4,4,4,4,4,4,4,4,5,5,5,5,5,5,5,5,5,5,5,5,5,5,5,5,6,6,6,6,6,6,6,6,6,6,6,6,6,6,6,6,6,6,6,6,6,6,6,6,6,6,6,6,6,6,6,6,7,7,7,7,7,7,7,7,7,7,7,7,7,7,7,7,7,7,7,7,7,7,7,7,7,7,7,7,7,7,7,7,7,7,7,7,7,7,7,7,7,7,7,7,7,7,7,7,7,7,7,7,7,7,7,7,7,7,7,7,7,7,7,7,8,8,8,8,8,8,8,8,8,8,8,8,8,8,8,8,8,8,8,8,8,8,8,8,8,8,8,8,8,8,8,8,8,8,8,8,8,8,8,8,8,8,8,8,8,8,8,8,8,8,8,8,8,8,8,8,8,8,8,8,8,8,8,8,8,8,8,8,8,8,8,8,8,8,8,8,8,8,8,8,8,8,8,8,8,8,8,8,8,8,8,8,8,8,8,8,8,8,8,8,8,8,8,8,8,8,8,8,8,8,8,8,8,8,8,8,8,8,8,8,8,8,8,8,8,8,8,8]) 21),
uO 23 (.conv (.i .i64) 22),
bN 24 .add 19 23,
mV 2 24] [2])
.ret)
def z4r (C:Hd)(gl:GL)(v0 v2:AV)(h:aA)(x:Esc)(K:KT):Prop:=
 pK (DH .u8 v0) fun t1=>
 pK (GH (.p (.str [0,1,2,2,3,3,3,3,4,4,4,4,4,4,4,4,5,5,5,5,5,5,5,5,5,5,5,5,5,5,5,5,6,6,6,6,6,6,6,6,6,6,6,6,6,6,6,6,6,6,6,6,6,6,6,6,6,6,6,6,6,6,6,6,7,7,7,7,7,7,7,7,7,7,7,7,7,7,7,7,7,7,7,7,7,7,7,7,7,7,7,7,7,7,7,7,7,7,7,7,7,7,7,7,7,7,7,7,7,7,7,7,7,7,7,7,7,7,7,7,7,7,7,7,7,7,7,7,8,8,8,8,8,8,8,8,8,8,8,8,8,8,8,8,8,8,8,8,8,8,8,8,8,8,8,8,8,8,8,8,8,8,8,8,8,8,8,8,8,8,8,8,8,8,8,8,8,8,8,8,8,8,8,8,8,8,8,8,8,8,8,8,8,8,8,8,8,8,8,8,8,8,8,8,8,8,8,8,8,8,8,8,8,8,8,8,8,8,8,8,8,8,8,8,8,8,8,8,8,8,8,8,8,8,8,8,8,8,8,8,8,8,8,8,8,8,8,8,8,8,8,8,8,8,8,8])) t1) fun t2=>
 pK (DH .i64 t2) fun t3=>
 pK (gA .add v2 t3) fun t4=>
 K .ret ⟨[(2,t4)],h,x⟩
theorem zgJ {C gl e h x K}:NW C gl LZ ⟨e,h,x⟩ K=z4r C gl (bA e 0) (bA e 2) h x K:=by kernel_rfl
def z1y (q1:ACode):ACode:=.pr [0,2] (.seq (.seq (rg [mV 13 0,
bN 14 .geq 13 (.c (.p (.int .u64 256)))] [0,2,14])
(.cond 14 (.seq (rg [mV 15 0,
bN 16 .shr 15 (.c (.p (.int .u64 8))),
mV 0 16] [0,2])
(rg [mV 17 2,
bN 18 .add 17 (cI 8),
mV 2 18] [0,2]))
.skip))
q1)
def MZ:ACode:=z1y LZ
def EX (C:Hd)(gl:GL)(q1:ACode)(v0 v2:AV)(h:aA)(x:Esc)(K:KT):Prop:=
 pK (gA .geq v0 (.p (.int .u64 256))) fun t1=>
 mA t1 (pK (gA .shr v0 (.p (.int .u64 8))) fun t2=>
 pK (gA .add v2 (AI 8)) fun t3=>
 NW C gl q1 ⟨[(0,t2),(2,t3)],h,x⟩ K)
 (NW C gl q1 ⟨[(0,v0),(2,v2),(14,t1)],h,x⟩ K)
theorem za1 {C gl q1 e h x K}:NW C gl (z1y q1) ⟨e,h,x⟩ K=EX C gl q1 (bA e 0) (bA e 2) h x K:=by kernel_rfl
theorem zgK {C gl e h x K}:NW C gl MZ ⟨e,h,x⟩ K=EX C gl LZ (bA e 0) (bA e 2) h x K:=za1
def z1z (q2:ACode):ACode:=.pr [0,2] (.seq (.seq (rg [mV 7 0,
bN 8 .geq 7 (.c (.p (.int .u64 65536)))] [0,2,8])
(.cond 8 (.seq (rg [mV 9 0,
bN 10 .shr 9 (.c (.p (.int .u64 16))),
mV 0 10] [0,2])
(rg [mV 11 2,
bN 12 .add 11 (cI 16),
mV 2 12] [0,2]))
.skip))
q2)
def oT:ACode:=z1z MZ
def FX (C:Hd)(gl:GL)(q2:ACode)(v0 v2:AV)(h:aA)(x:Esc)(K:KT):Prop:=
 pK (gA .geq v0 (.p (.int .u64 65536))) fun t1=>
 mA t1 (pK (gA .shr v0 (.p (.int .u64 16))) fun t2=>
 pK (gA .add v2 (AI 16)) fun t3=>
 NW C gl q2 ⟨[(0,t2),(2,t3)],h,x⟩ K)
 (NW C gl q2 ⟨[(0,v0),(2,v2),(8,t1)],h,x⟩ K)
theorem za2 {C gl q2 e h x K}:NW C gl (z1z q2) ⟨e,h,x⟩ K=FX C gl q2 (bA e 0) (bA e 2) h x K:=by kernel_rfl
theorem zgL {C gl e h x K}:NW C gl oT ⟨e,h,x⟩ K=FX C gl MZ (bA e 0) (bA e 2) h x K:=za2
def z1x (q3:ACode):ACode:=(.seq (rg [mV 2 (cI 0)] [0,2])
(.seq (.seq (rg [mV 3 0,
bN 4 .geq 3 (.c (.p (.int .u64 4294967296)))] [0,2,4])
(.cond 4 (.seq (rg [mV 5 0,
bN 6 .shr 5 (.c (.p (.int .u64 32))),
mV 0 6] [0])
(rg [mV 2 (cI 32)] [0,2]))
.skip))
q3))
def wV:AFun:=⟨1,[.t 2],z1x oT,false,false⟩
def iR (C:Hd)(gl:GL)(q3:ACode)(v0:AV)(h:aA)(x:Esc)(K:KT):Prop:=
 pK (gA .geq v0 (.p (.int .u64 4294967296))) fun t1=>
 mA t1 (pK (gA .shr v0 (.p (.int .u64 32))) fun t2=>
 NW C gl q3 ⟨[(0,t2),(2,(AI 32))],h,x⟩ K)
 (NW C gl q3 ⟨[(0,v0),(2,(AI 0)),(4,t1)],h,x⟩ K)
theorem za0 {C gl q3 v0 h x K}:NW C gl (z1x q3) ⟨enter [v0],h,x⟩ K=iR C gl q3 v0 h x K:=by kernel_rfl
theorem zgI {C gl v0 h x K}:NW C gl wV.body ⟨enter [v0],h,x⟩ K=iR C gl oT v0 h x K:=za0
def yP:ACode:=.pr [0,1,2,3,8,9] (.seq (.seq (dr [dF (mV 18 9) [9],
dF (mV 19 1) [1],
dF (bN 20 .gtr 18 19) [18,19],
dF (mV 21 20) [20],
dF (gD 22 21 true (.mv 3)) [3,21],
dF (gD 23 21 true (.mv 0)) [0,21],
dF (gD 24 21 true (.mv 9)) [9,21],
dF (gD 25 21 true (.iaddr none 23 24)) [23,24,21],
dF (gD 26 21 true (.load none 25)) [25,21],
dF (gD 27 21 true (.mv 0)) [0,21],
dF (gD 28 21 true (.mv 9)) [9,21],
dF (gD 29 21 true (.bin .sub 28 (cI 1))) [28,21],
dF (gD 30 21 true (.iaddr none 27 29)) [27,29,21],
dF (gD 31 21 true (.load none 30)) [30,21],
dT (gD 32 21 true (.callv 22 [26,31])) [22,26,31,21],
dF (gD 33 21 true (.bin .lss 32 (cI 0))) [32,21],
dF (uO 34 (.pick 21 33 cF)) [21,33]] [0,1,2,3,8,9,34])
(.cond 34 .skip
(.exit 2)))
(.seq (.block 3 (dr [dF (mV 37 0) [0],
dF (mV 38 9) [9],
dF (mV 39 0) [0],
dF (mV 40 9) [9],
dF (bN 41 .sub 40 (cI 1)) [40],
dF (mV 42 0) [0],
dF (mV 43 9) [9],
dF (bN 44 .sub 43 (cI 1)) [43],
dF (iA 45 none 42 44) [42,44],
dF (lD 46 none 45) [45],
dF (mV 47 0) [0],
dF (mV 48 9) [9],
dF (iA 49 none 47 48) [47,48],
dF (lD 50 none 49) [49],
dF (iA 51 none 37 38) [37,38],
dT (wO (.store none 51 46)) [51,46],
dF (iA 52 none 39 41) [39,41],
dT (wO (.store none 52 50)) [52,50]] [0,1,2,3,8,9]))
(rg [mV 35 9,
bN 36 .sub 35 (cI 1),
mV 9 36] [0,1,2,3,8,9])))
def z5r (C:Hd)(gl:GL)(v0 v1 v2 v3 v8 v9:AV)(h:aA)(x:Esc)(K:KT):Prop:=
 pK (gA .gtr v9 v1) fun t1=>
 gM t1 true v3 h fun t2 h3 y4=>
 gM t1 true v0 h3 fun t5 h6 y7=>
 gM t1 true v9 h6 fun t8 h9 y10=>
 gP t1 true (wA none t5 t8 h9) h9 fun t11 h12 y13=>
 gP t1 true (eA none t11 h12) h12 fun t14 h15 y16=>
 gM t1 true v0 h15 fun t17 h18 y19=>
 gM t1 true v9 h18 fun t20 h21 y22=>
 gP t1 true (gA .sub t20 (AI 1)) h21 fun t23 h24 y25=>
 gP t1 true (wA none t17 t23 h24) h24 fun t26 h27 y28=>
 gP t1 true (eA none t26 h27) h27 fun t29 h30 y31=>
 gV t1 true h30 (eH C t2 [t14,t29] h30) fun t32 h33 y34=>
 gP t1 true (gA .lss t32 (AI 0)) h33 fun t35 h36 y37=>
 pK (DA t1 t35 (AB false)) fun t38=>
 mA t38 (pK (gA .sub v9 (AI 1)) fun t39=>
 pK (gA .sub v9 (AI 1)) fun t40=>
 pK (wA none v0 t40 h36) fun t41=>
 pK (eA none t41 h36) fun t42=>
 pK (wA none v0 v9 h36) fun t43=>
 pK (eA none t43 h36) fun t44=>
 pK (wA none v0 v9 h36) fun t45=>
 wK (tA none t45 t42 h36) fun t46 h47 y48=>
 pK (wA none v0 t39 h47) fun t49=>
 wK (tA none t49 t44 h47) fun t50 h51 y52=>
 pK (gA .sub v9 (AI 1)) fun t53=>
 K .normal ⟨[(0,v0),(1,v1),(2,v2),(3,v3),(8,v8),(9,t53)],h51,(y52++(y48++(y37++(y34++(y31++(y28++(y25++(y22++(y19++(y16++(y13++(y10++(y7++(y4++x))))))))))))))⟩)
 (K (.exit 2) ⟨[(0,v0),(1,v1),(2,v2),(3,v3),(8,v8),(9,v9),(34,t38)],h36,(y37++(y34++(y31++(y28++(y25++(y22++(y19++(y16++(y13++(y10++(y7++(y4++x))))))))))))⟩)
theorem ziY {C gl e h x K}:NW C gl yP ⟨e,h,x⟩ K=z5r C gl (bA e 0) (bA e 1) (bA e 2) (bA e 3) (bA e 8) (bA e 9) h x K:=by kernel_rfl
theorem zmt {C gl e h x K}:NW C gl (.loop yP) ⟨e,h,x⟩ K=PA C gl yP K [(0,bA e 0),(1,bA e 1),(2,bA e 2),(3,bA e 3),(8,bA e 8),(9,bA e 9)] h x:=wB
def z0b:ACode:=.pr [0,1,2,3,8] (rg [mV 15 8,
bN 16 .add 15 (cI 1),
mV 8 16] [0,1,2,3,8])
def z5s (C:Hd)(gl:GL)(v0 v1 v2 v3 v8:AV)(h:aA)(x:Esc)(K:KT):Prop:=
 pK (gA .add v8 (AI 1)) fun t1=>
 K .normal ⟨[(0,v0),(1,v1),(2,v2),(3,v3),(8,t1)],h,x⟩
theorem ziZ {C gl e h x K}:NW C gl z0b ⟨e,h,x⟩ K=z5s C gl (bA e 0) (bA e 1) (bA e 2) (bA e 3) (bA e 8) h x K:=by kernel_rfl
def z2o (q1 q2:ACode):ACode:=.pr [0,1,2,3,8] (.seq (.seq (rg [mV 12 8,
mV 13 2,
bN 14 .lss 12 13] [0,1,2,3,8,14])
(.cond 14 .skip
(.exit 0)))
(.seq (.block 1 (.seq (rg [mV 17 8,
mV 9 17] [0,1,2,3,8,9])
(.block 2 (.loop q1))))
q2))
def gN:ACode:=z2o yP z0b
def qY (C:Hd)(gl:GL)(q1 q2:ACode)(v0 v1 v2 v3 v8:AV)(h:aA)(x:Esc)(K:KT):Prop:=
 pK (gA .lss v8 v2) fun t1=>
 mA t1 (NW C gl (.loop q1) ⟨[(0,v0),(1,v1),(2,v2),(3,v3),(8,v8),(9,v8)],h,x⟩ (yA 2 (yA 1 (NA C gl q2 K))))
 (K (.exit 0) ⟨[(0,v0),(1,v1),(2,v2),(3,v3),(8,v8),(14,t1)],h,x⟩)
theorem zbr {C gl q1 q2 e h x K}:NW C gl (z2o q1 q2) ⟨e,h,x⟩ K=qY C gl q1 q2 (bA e 0) (bA e 1) (bA e 2) (bA e 3) (bA e 8) h x K:=by kernel_rfl
theorem zja {C gl e h x K}:NW C gl gN ⟨e,h,x⟩ K=qY C gl yP z0b (bA e 0) (bA e 1) (bA e 2) (bA e 3) (bA e 8) h x K:=zbr
theorem zmu {C gl e h x K}:NW C gl (.loop gN) ⟨e,h,x⟩ K=PA C gl gN K [(0,bA e 0),(1,bA e 1),(2,bA e 2),(3,bA e 3),(8,bA e 8)] h x:=wB
def z2n (q3:ACode):ACode:=(.seq (rg [mV 10 1,
bN 11 .add 10 (cI 1),
mV 8 11] [0,1,2,3,8])
(.block 0 (.loop q3)))
def LW:AFun:=⟨4,[],z2n gN,true,false⟩
def NR (C:Hd)(gl:GL)(q3:ACode)(v0 v1 v2 v3:AV)(h:aA)(x:Esc)(K:KT):Prop:=
 pK (gA .add v1 (AI 1)) fun t1=>
 NW C gl (.loop q3) ⟨[(0,v0),(1,v1),(2,v2),(3,v3),(8,t1)],h,x⟩ (yA 0 K)
theorem zbq {C gl q3 v0 v1 v2 v3 h x K}:NW C gl (z2n q3) ⟨enter [v0,v1,v2,v3],h,x⟩ K=NR C gl q3 v0 v1 v2 v3 h x K:=by kernel_rfl
theorem ziX {C gl v0 v1 v2 v3 h x K}:NW C gl LW.body ⟨enter [v0,v1,v2,v3],h,x⟩ K=NR C gl gN v0 v1 v2 v3 h x K:=zbq
def zcX:ACode:=(.seq (rg [mV 4 (cI 0)] [0,1])
(.seq (rg [mV 5 0,
uO 6 (.nilchk 5),
fA 7 0 (some 2) 6,
fA 8 0 none 7,
lD 9 none 8,
mV 10 1,
cL 11 VF [9,10],
mV 4 11] [4])
.ret))
def DQ:AFun:=⟨2,[.t 4],zcX,false,false⟩
def LY (C:Hd)(gl:GL)(v0 v1:AV)(h:aA)(x:Esc)(K:KT):Prop:=
 pK (rA v0) fun t1=>
 pK (jA 0 (some 2) t1) fun t2=>
 pK (jA 0 none t2) fun t3=>
 pK (eA none t3 h) fun t4=>
 C VF [t4,v1] h fun t5 h6 y7=>
 K .ret ⟨[(4,t5)],h6,(y7++x)⟩
theorem zjV {C gl v0 v1 h x K}:NW C gl DQ.body ⟨enter [v0,v1],h,x⟩ K=LY C gl v0 v1 h x K:=by kernel_rfl
def zP:ACode:=.pr [0,1,2,6,7] (.seq (.seq (dr [dF (mV 16 7) [7],
dF (mV 17 1) [1],
dF (bN 18 .gtr 16 17) [16,17],
dF (mV 19 18) [18],
dF (gD 20 19 true (.mv 0)) [0,19],
dF (gD 21 19 true (.mv 7)) [7,19],
dF (gD 22 19 true (.iaddr none 20 21)) [20,21,19],
dF (gD 23 19 true (.load none 22)) [22,19],
dF (gD 24 19 true (.mv 0)) [0,19],
dF (gD 25 19 true (.mv 7)) [7,19],
dF (gD 26 19 true (.bin .sub 25 (cI 1))) [25,19],
dF (gD 27 19 true (.iaddr none 24 26)) [24,26,19],
dF (gD 28 19 true (.load none 27)) [27,19],
dT (gD 29 19 true (.call UF [23,28])) [23,28,19],
dF (uO 30 (.pick 19 29 cF)) [19,29]] [0,1,2,6,7,30])
(.cond 30 .skip
(.exit 2)))
(.seq (.block 3 (dr [dF (mV 33 0) [0],
dF (mV 34 7) [7],
dF (mV 35 0) [0],
dF (mV 36 7) [7],
dF (bN 37 .sub 36 (cI 1)) [36],
dF (mV 38 0) [0],
dF (mV 39 7) [7],
dF (bN 40 .sub 39 (cI 1)) [39],
dF (iA 41 none 38 40) [38,40],
dF (lD 42 none 41) [41],
dF (mV 43 0) [0],
dF (mV 44 7) [7],
dF (iA 45 none 43 44) [43,44],
dF (lD 46 none 45) [45],
dF (iA 47 none 33 34) [33,34],
dT (wO (.store none 47 42)) [47,42],
dF (iA 48 none 35 37) [35,37],
dT (wO (.store none 48 46)) [48,46]] [0,1,2,6,7]))
(rg [mV 31 7,
bN 32 .sub 31 (cI 1),
mV 7 32] [0,1,2,6,7])))
def z5t (C:Hd)(gl:GL)(v0 v1 v2 v6 v7:AV)(h:aA)(x:Esc)(K:KT):Prop:=
 pK (gA .gtr v7 v1) fun t1=>
 gM t1 true v0 h fun t2 h3 y4=>
 gM t1 true v7 h3 fun t5 h6 y7=>
 gP t1 true (wA none t2 t5 h6) h6 fun t8 h9 y10=>
 gP t1 true (eA none t8 h9) h9 fun t11 h12 y13=>
 gM t1 true v0 h12 fun t14 h15 y16=>
 gM t1 true v7 h15 fun t17 h18 y19=>
 gP t1 true (gA .sub t17 (AI 1)) h18 fun t20 h21 y22=>
 gP t1 true (wA none t14 t20 h21) h21 fun t23 h24 y25=>
 gP t1 true (eA none t23 h24) h24 fun t26 h27 y28=>
 gV t1 true h27 (YA C UF [t11,t26] h27) fun t29 h30 y31=>
 pK (DA t1 t29 (AB false)) fun t32=>
 mA t32 (pK (gA .sub v7 (AI 1)) fun t33=>
 pK (gA .sub v7 (AI 1)) fun t34=>
 pK (wA none v0 t34 h30) fun t35=>
 pK (eA none t35 h30) fun t36=>
 pK (wA none v0 v7 h30) fun t37=>
 pK (eA none t37 h30) fun t38=>
 pK (wA none v0 v7 h30) fun t39=>
 wK (tA none t39 t36 h30) fun t40 h41 y42=>
 pK (wA none v0 t33 h41) fun t43=>
 wK (tA none t43 t38 h41) fun t44 h45 y46=>
 pK (gA .sub v7 (AI 1)) fun t47=>
 K .normal ⟨[(0,v0),(1,v1),(2,v2),(6,v6),(7,t47)],h45,(y46++(y42++(y31++(y28++(y25++(y22++(y19++(y16++(y13++(y10++(y7++(y4++x))))))))))))⟩)
 (K (.exit 2) ⟨[(0,v0),(1,v1),(2,v2),(6,v6),(7,v7),(30,t32)],h30,(y31++(y28++(y25++(y22++(y19++(y16++(y13++(y10++(y7++(y4++x))))))))))⟩)
theorem zjc {C gl e h x K}:NW C gl zP ⟨e,h,x⟩ K=z5t C gl (bA e 0) (bA e 1) (bA e 2) (bA e 6) (bA e 7) h x K:=by kernel_rfl
theorem zmv {C gl e h x K}:NW C gl (.loop zP) ⟨e,h,x⟩ K=PA C gl zP K [(0,bA e 0),(1,bA e 1),(2,bA e 2),(6,bA e 6),(7,bA e 7)] h x:=wB
def z0c:ACode:=.pr [0,1,2,6] (rg [mV 13 6,
bN 14 .add 13 (cI 1),
mV 6 14] [0,1,2,6])
def z5u (C:Hd)(gl:GL)(v0 v1 v2 v6:AV)(h:aA)(x:Esc)(K:KT):Prop:=
 pK (gA .add v6 (AI 1)) fun t1=>
 K .normal ⟨[(0,v0),(1,v1),(2,v2),(6,t1)],h,x⟩
theorem zjd {C gl e h x K}:NW C gl z0c ⟨e,h,x⟩ K=z5u C gl (bA e 0) (bA e 1) (bA e 2) (bA e 6) h x K:=by kernel_rfl
def z2q (q1 q2:ACode):ACode:=.pr [0,1,2,6] (.seq (.seq (rg [mV 10 6,
mV 11 2,
bN 12 .lss 10 11] [0,1,2,6,12])
(.cond 12 .skip
(.exit 0)))
(.seq (.block 1 (.seq (rg [mV 15 6,
mV 7 15] [0,1,2,6,7])
(.block 2 (.loop q1))))
q2))
def iN:ACode:=z2q zP z0c
def rY (C:Hd)(gl:GL)(q1 q2:ACode)(v0 v1 v2 v6:AV)(h:aA)(x:Esc)(K:KT):Prop:=
 pK (gA .lss v6 v2) fun t1=>
 mA t1 (NW C gl (.loop q1) ⟨[(0,v0),(1,v1),(2,v2),(6,v6),(7,v6)],h,x⟩ (yA 2 (yA 1 (NA C gl q2 K))))
 (K (.exit 0) ⟨[(0,v0),(1,v1),(2,v2),(6,v6),(12,t1)],h,x⟩)
theorem zbt {C gl q1 q2 e h x K}:NW C gl (z2q q1 q2) ⟨e,h,x⟩ K=rY C gl q1 q2 (bA e 0) (bA e 1) (bA e 2) (bA e 6) h x K:=by kernel_rfl
theorem zje {C gl e h x K}:NW C gl iN ⟨e,h,x⟩ K=rY C gl zP z0c (bA e 0) (bA e 1) (bA e 2) (bA e 6) h x K:=zbt
theorem zmw {C gl e h x K}:NW C gl (.loop iN) ⟨e,h,x⟩ K=PA C gl iN K [(0,bA e 0),(1,bA e 1),(2,bA e 2),(6,bA e 6)] h x:=wB
def z2p (q3:ACode):ACode:=(.seq (rg [mV 8 1,
bN 9 .add 8 (cI 1),
mV 6 9] [0,1,2,6])
(.block 0 (.loop q3)))
def MW:AFun:=⟨3,[],z2p iN,true,false⟩
def OR (C:Hd)(gl:GL)(q3:ACode)(v0 v1 v2:AV)(h:aA)(x:Esc)(K:KT):Prop:=
 pK (gA .add v1 (AI 1)) fun t1=>
 NW C gl (.loop q3) ⟨[(0,v0),(1,v1),(2,v2),(6,t1)],h,x⟩ (yA 0 K)
theorem zbs {C gl q3 v0 v1 v2 h x K}:NW C gl (z2p q3) ⟨enter [v0,v1,v2],h,x⟩ K=OR C gl q3 v0 v1 v2 h x K:=by kernel_rfl
theorem zjb {C gl v0 v1 v2 h x K}:NW C gl MW.body ⟨enter [v0,v1,v2],h,x⟩ K=OR C gl iN v0 v1 v2 h x K:=zbs
def zcm:ACode:=(.seq (rg [mV 4 cF] [0,1])
(.seq (rg [mV 5 0,
cL 6 xI [5],
mV 7 6,
gD 8 7 true (.mv 1),
gD 9 7 true (.call xI [8]),
gD 10 7 true (.un .not 9),
uO 11 (.pick 7 10 cF),
mV 12 11,
gD 13 12 false (.mv 0),
gD 14 12 false (.mv 1),
gD 15 12 false (.bin .lss 13 14),
uO 16 (.pick 12 cT 15),
mV 4 16] [4])
.ret))
def rV:AFun:=⟨2,[.t 4],zcm,false,false⟩
def xX (C:Hd)(gl:GL)(v0 v1:AV)(h:aA)(x:Esc)(K:KT):Prop:=
 C xI [v0] h fun t1 h2 y3=>
 gM t1 true v1 h2 fun t4 h5 y6=>
 gV t1 true h5 (C xI [t4] h5) fun t7 h8 y9=>
 gP t1 true (oUn .not t7) h8 fun t10 h11 y12=>
 pK (DA t1 t10 (AB false)) fun t13=>
 gM t13 false v0 h11 fun t14 h15 y16=>
 gM t13 false v1 h15 fun t17 h18 y19=>
 gP t13 false (gA .lss t14 t17) h18 fun t20 h21 y22=>
 pK (DA t13 (AB true) t20) fun t23=>
 K .ret ⟨[(4,t23)],h21,(y22++(y19++(y16++(y12++(y9++(y6++(y3++x)))))))⟩
theorem zg8 {C gl v0 v1 h x K}:NW C gl rV.body ⟨enter [v0,v1],h,x⟩ K=xX C gl v0 v1 h x K:=by kernel_rfl
def zcq:ACode:=(.seq (rg [mV 4 (cI 0)] [0,1])
(.seq (rg [mV 5 0,
mV 6 1,
cL 7 wG [5,6],
mV 4 7] [4])
.ret))
def tV:AFun:=⟨2,[.t 4],zcq,false,false⟩
def BX (C:Hd)(gl:GL)(v0 v1:AV)(h:aA)(x:Esc)(K:KT):Prop:=
 C wG [v0,v1] h fun t1 h2 y3=>
 K .ret ⟨[(4,t1)],h2,(y3++x)⟩
theorem zgF {C gl v0 v1 h x K}:NW C gl tV.body ⟨enter [v0,v1],h,x⟩ K=BX C gl v0 v1 h x K:=by kernel_rfl
def zco:ACode:=(.seq (rg [mV 2 cF] [0])
(.seq (rg [mV 3 0,
mV 4 0,
bN 5 .neq 3 4,
mV 2 5] [2])
.ret))
def sV:AFun:=⟨1,[.t 2],zco,false,false⟩
def zX (C:Hd)(gl:GL)(v0:AV)(h:aA)(x:Esc)(K:KT):Prop:=
 pK (gA .neq v0 v0) fun t1=>
 K .ret ⟨[(2,t1)],h,x⟩
theorem zgD {C gl v0 h x K}:NW C gl sV.body ⟨enter [v0],h,x⟩ K=zX C gl v0 h x K:=by kernel_rfl
def zcv:ACode:=(.seq (rg [mV 0 cF] [])
(.seq (rg [uO 4 (.bsl false none 1 (.str []) [(0,(cS [115,99,97,110]))]),
uO 5 (.build [.sl0 none,.p (.int .i64 0)] [(0,1,4),(1,1,(cI 1))]),
uO 6 (.build [.p (.str []),.p (.int .i64 0),.p (.int .i64 0),.p (.int .i64 0),.p (.str []),.p (.str []),.p (.str []),.p (.int .i64 0)] [(0,1,(cS [97])),(1,1,(cI 1)),(3,1,(cI 1)),(4,1,(cS [98]))]),
uO 7 (.bsl false (some 8) 1 (.agg [.str [],.int .i64 0,.int .i64 0,.int .i64 0,.str [],.str [],.str [],.int .i64 0]) [(0,6)]),
cL 8 GI [5,7,(cS [98]),(cI 0)],
mV 3 8,
eX 9 3 0,
eX 10 3 1,
uO 1 (.alloc [.p (.int .i64 0),.p (.int .i64 0),.p (.str []),.p (.str []),.p (.int .i64 0)]),
wO (.store (some 5) 1 9),
mV 2 10] [1,2])
(.seq (rg [mV 11 2,
bN 12 .eql 11 (cI 0),
mV 13 12,
gD 14 13 true (.faddr 0 none 1),
gD 15 13 true (.load none 14),
gD 16 13 true (.bin .eql 15 (cI 1)),
uO 17 (.pick 13 16 cF),
mV 18 17,
gD 19 18 true (.faddr 2 none 1),
gD 20 18 true (.load none 19),
gD 21 18 true (.bin .eql 20 (cS [115,99,97,110])),
uO 22 (.pick 18 21 cF),
mV 0 22] [0])
.ret)))
def zdm:AFun:=⟨0,[.t 0],zcv,false,false⟩
end Go.Am
end
section
/- The abstract machine,part L: functions of the library that are met by the kit's contracts: plain values in,plain values out,new memory at most. -/
set_option linter.unusedSimpArgs false
set_option linter.unusedVariables false
namespace Go.Am
variable {P:Program} {gl:Nat→Option PV}
structure PureRow (P:Program) (gl:Nat→Option PV) (f:Nat) (spec:List PV→Option AV):Prop where
 enter:∀us w,(callFunc f us).run P w = .ok (.enter f us) w
 run:∀(M:Mem) (w:World) (vs:List PV) (r:AV) (us:List Value),(∀b o v,M.c b o=some v→w.cell? ⟨b,o,none⟩=some v)→(∀b o,M.b b=some o→w.heap[b]?=some o)→GD gl M→vs.length=us.length →
  (∀(j:Nat) (y:PV) (v:Value),vs[j]?=some y→us[j]?=some v→RPV M y v)→spec vs=some r →
  Calls P f us.toArray w fun e w'=>∃x,e = .returned x∧WExt w w'∧RAV (mE M w w') [] [] r x
abbrev pE:=List (Nat × (List PV→Option AV))
def YI:pE→Nat→List AV→aA→Option (AV×aA×Esc)
 | [],_,_,_=>none
 | (g,s)::r,f,asv,h=>bif Nat.beq f g then((unp asv).bind s).map fun v=>(v,h,[]) else YI r f asv h
theorem z01:∀ (gs:pE),(∀g s,(g,s)∈gs→PureRow P gl g s)→∀{f:Nat} {asv:List AV} {h:aA} {v:AV} {h':aA} {x:Esc},YI gs f asv h=some (v,h',x) →
 uC P gl f asv h fun v1 h1 x1=>v1=v∧h1=h'∧x1=x
 | [],_,f,asv,h,v,h',x,H=>by cases H
 | (g,s)::r,hg,f,asv,h,v,h',x,H=>by
  unfold YI at H;cases e1:Nat.beq f g with
  | false=>
   rw[e1]at H;exact z01 r (fun g sh hm=>hg g sh (by simp [hm])) H
  | true=>
   rw[e1]at H;have e:=Nat.eq_of_beq_eq_true e1
   subst e;have R:=hg f s (by simp)
   simp only[cond_true]at H;obtain⟨y,hy,e2⟩:=Option.map_eq_some_iff.1 H;simp only[Prod.mk.injEq]at e2;obtain⟨rfl,rfl,rfl⟩:=e2;obtain⟨ps,hps,hs⟩:=Option.bind_eq_some_iff.1 hy;have hm:=NN hps
   subst hm;intro μ w vs Hh Hg hl hr;refine .inl ⟨R.enter _,?_⟩;refine(R.run (imm h μ w) w ps y vs (fun b o v hv=>(ED.1 hv).2) (fun b o hv=>(MI.1 hv).2) Hg (by simpa using hl) (fun j q v hq hv=>(hr j (.p q) v (by simp [hq]) hv).p_inv) hs).mono fun e w' he=>?_
   obtain⟨u,rfl,g1,g2⟩:=he;obtain⟨n1,n2⟩:=Hh.ext g1;have Lq:(mE (imm h μ w) w w').le (imm h μ w'):=by
    refine⟨fun b o v hv=>?_,fun b o hv=>?_,rfl,fun _ _ h=>by cases h⟩
    ·dsimp only[mE]at hv
     split at hv
     ·exact n2.le.c _ _ _ hv
     ·rename_i hb
      exact ED.2 ⟨fun hO=>hb (kT Hh hO),hv⟩
    ·dsimp only[mE]at hv
     cases hv
   exact⟨_,_,_,μ,⟨rfl,rfl,rfl⟩,g2.evo ⟨Lq,Nat.zero_le _,fun id o m h1=>by simp at h1⟩,n1,n2,xA.refl h []⟩
def IG (gs:List (Nat × Sh))(ps:pE)(f:Nat)(asv:List AV)(h:aA):Option (AV×aA×Esc):=match KI gs f asv h with
 | some y=>some y
 | none=>match YI ps f asv h with
  | some y=>some y
  | none=>match sA h asv with
   | some (asv',h1)=>YI ps f asv' h1
   | none=>none
theorem znE {ps:pE}(hp:∀ g s,(g,s)∈ps→PureRow P gl g s){f:Nat}{asv asv':List AV}{h h1:aA}{v:AV}{h':aA}{x:Esc}(hq:sA h asv=some (asv',h1))(H:YI ps f asv' h1=some (v,h',x)) :
 uC P gl f asv h fun v1 h2 x1=>v1=v∧h2=h'∧x1=x:=by
 intro μ w vs Hh Hg hl hr;obtain⟨q1,q2,q3⟩:=tU asv Hh hl hr hq;rcases z01 ps hp H μ w vs q1.1 (Hg.mono q1.2.1.le) q2 q3 with⟨k1,k2⟩|⟨r,w',v2,h2,x2,μ',k1,k2,k3,k4,k5,k6⟩
 ·refine .inl ⟨k1,k2.mono fun e w' he=>?_⟩
  cases e with
  | returned r=>
   obtain⟨v2,h2,x2,μ',k2,k3,k4,k5,k6⟩:=he;exact⟨v2,h2,x2,μ',k2,k3,k4,q1.2.1.trans k5,by simpa using q1.2.2.trans k6⟩
  | panicked _=>exact he
  | outgrown=>exact he
 ·exact .inr ⟨r,w',v2,h2,x2,μ',k1,k2,k3,k4,q1.2.1.trans k5,by simpa using q1.2.2.trans k6⟩
theorem zmR {gs:List (Nat × Sh)}{ps:pE}(hg:∀ g sh,(g,sh)∈gs→GrowRow P g sh)(hp:∀ g s,(g,s)∈ps→PureRow P gl g s){f:Nat}{asv:List AV}{h:aA}{v:AV}{h':aA}{x:Esc}(H:IG gs ps f asv h=some (v,h',x)) :
 uC P gl f asv h fun v1 h1 x1=>v1=v∧h1=h'∧x1=x:=by
 unfold IG at H;split at H
 ·rename_i y hy
  cases H;exact z7F gs hg hy
 ·split at H
  ·rename_i y hy
   cases H;exact z01 ps hp hy
  ·split at H
   ·rename_i asv' h1 hq
    exact znE hp hq H
   ·cases H
theorem WS {X:Ctx}{f:Nat}{asv:List AV}{h h':aA}{v:AV}{x:Esc}{K:lA}(hf:X.fn f=none)(hx:X.ex2 f asv h=some (v,h',x)):cA X f asv h K=K v h' x:=by
 refine propext (cA.eq (cA.fold ?_) K);unfold nC;simp only[hf,hx];exact⟨trivial,trivial,trivial⟩
def dK:List (Nat × Sh)→Nat→Option Sh
 | [],_=>none
 | (g,s)::r,f=>bif Nat.beq f g then some s else dK r f
theorem z7D:∀ {gs:List (Nat × Sh)}{f:Nat}{sh s':Sh}{n:Int}{h:aA},dK gs f=some sh→0≤n→n≤1048576→KI gs f [.sl0 s',.p (.int .i64 n)] h=some (.own h.length 0 0 0,h++[.row sh [] 0],[])
 | [],f,sh,s',n,h,hm,_,_=>by cases hm
 | (g,s)::r,f,sh,s',n,h,hm,h0,h1=>by
  unfold dK at hm;unfold KI;cases hq:Nat.beq f g with
  | true=>rw[hq]at hm;cases hm;simp [h0,h1]
  | false=>rw[hq]at hm;exact z7D hm h0 h1
theorem z7E:∀ {gs:List (Nat × Sh)}{f:Nat}{asv:List AV}{h:aA},dK gs f=none→KI gs f asv h=none
 | [],f,asv,h,_=>rfl
 | (g,s)::r,f,asv,h,hm=>by
  unfold dK at hm;unfold KI;cases hq:Nat.beq f g with
  | true=>rw[hq]at hm;cases hm
  | false=>rw[hq]at hm;exact z7E hm
def uU:pE→Nat→Option (List PV→Option AV)
 | [],_=>none
 | (g,s)::r,f=>bif Nat.beq f g then some s else uU r f
theorem z8J:∀ {gs:pE}{f:Nat}{s:List PV→Option AV}{asv:List AV}{h:aA},uU gs f=some s→YI gs f asv h=((unp asv).bind s).map fun v=>(v,h,[])
 | [],f,s,asv,h,hm=>by cases hm
 | (g,s')::r,f,s,asv,h,hm=>by
  unfold uU at hm;unfold YI;cases hq:Nat.beq f g with
  | true=>rw[hq]at hm;cases hm;rfl
  | false=>rw[hq]at hm;exact z8J hm
theorem zmQ {gs:List (Nat × Sh)}{ps:pE}{f:Nat}{sh s':Sh}{n:Int}{h:aA}(hm:dK gs f=some sh)(h0:0≤n)(h1:n≤1048576):IG gs ps f [.sl0 s',.p (.int .i64 n)] h=some (.own h.length 0 0 0,h++[.row sh [] 0],[]):=by
 unfold IG;rw[z7D hm h0 h1]
theorem zmS {gs:List (Nat × Sh)}{ps:pE}{f:Nat}{s:List PV→Option AV}{asv:List AV}{vs:List PV}{v:AV}{h:aA}(hg:dK gs f=none)(hm:uU ps f=some s)(hu:unp asv=some vs)(hv:s vs=some v):IG gs ps f asv h=some (v,h,[]):=by
 unfold IG;rw[z7E hg,z8J hm,hu];simp [hv]
def LO:List (Nat × PV)→Nat→Option PV
 | [],_=>none
 | (g,v)::r,n=>bif Nat.beq n g then some v else LO r n
theorem zs0 {f:Nat}(h:(match P.funcs[f]? with | some fn=>fn.body.isSome&&fn.name != "runtime.NumGoroutine" | none=>false)=true)(us:Array Value)(w:World):(callFunc f us).run P w = .ok (.enter f us) w:=by
 cases hf:P.funcs[f]? with
 | none=>rw[hf]at h;cases h
 | some fn=>
  rw[hf]at h;simp only[Bool.and_eq_true,bne_iff_ne,ne_eq]at h;cases hb:fn.body with
  | none=>rw[hb]at h;cases h.1
  | some c=>exact oS hf hb h.2 us w
def digC (n:Nat):UInt8:=UInt8.ofNat (48+n)
def vO (n:Nat):List UInt8:=if n<10 then [digC n] else vO (n / 10)++[digC (n%10)]
termination_by n
decreasing_by omega
def itoa (n:Int):List UInt8:=if n<0 then 45::vO n.natAbs else vO n.natAbs
def qM:List PV→Option AV
 | [.int .i64 n]=>bif decide (-9223372036854775808≤n)&&decide (n≤9223372036854775807) then some (.p (.str (itoa n))) else none
 | _=>none
def rU:PV:=.agg ((List.range 20).map fun i=>.int .u64 ((10^i:Nat):Int))
end Go.Am
end
section
/- The abstract machine,part C: FB calls that say true,asv contracts. -/
set_option linter.all false
namespace Go.Am
variable {P:Program} {gl:Nat→Option PV}
def z0O:List PV→Option AV
 | []=>some (AB true)
 | _=>none
theorem RPV.mono' {M M':Mem}(hM:∀ b o v,M.c b o=some v→M'.c b o=some v){v:PV}{x:Value}(H:RPV M v x):RPV M' v x:=by
 induction H with
 | int k n=>exact .int k n
 | bool b=>exact .bool b
 | str s=>exact .str s
 | nilp=>exact .nilp
 | unk k n=>exact .unk k n
 | nils sh a cap=>exact .nils sh a cap
 | sl sh xs b o cap f hne hc he hm hr ih=>exact .sl sh xs b o cap f hne hc he (fun j y hy=>hM _ _ _ (hm j y hy)) ih
 | agg cs vs hl hr ih=>exact .agg cs vs hl ih
theorem GD.mono' {M M':Mem}(hc:∀ b o v,M.c b o=some v→M'.c b o=some v)(hb:∀ b o,M.b b=some o→M'.b b=some o)(H:GD gl M):GD gl M':=fun n v hv=>by
 obtain⟨h1,cs,t,x,h2,h3⟩:=H n v hv;refine⟨?_,cs,t,x,hb _ _ h2,h3⟩;cases h1 with|vp _ _ _ f hm hr=>exact .vp v n 0 f (fun j y hy=>hc _ _ _ (hm j y hy)) (fun j y hy=>(hr j y hy).mono' hc)
theorem zs2 {X:Ctx}(HX:Fits P X){f:Nat}(H:cA X f [] [] fun v h x=>v=AB true∧h=[]∧x=[])(he:∀ us w,(callFunc f us).run P w = .ok (.enter f us) w):PureRow P X.gl f z0O:=by
 refine⟨he,fun M w vs r us hc hb hG hl hr hs=>?_⟩
 cases vs with
 | cons a l=>cases hs
 | nil=>
  have hu:us=[]:=List.length_eq_zero_iff.1 (by simpa using hl.symm)
  subst hu;simp only[z0O,Option.some.injEq]at hs;subst hs;have hno:∀b o,¬YG ([]:aA) ([]:Mu) b o:=fun b o ⟨id,n,h1,_⟩=>by simp at h1
  have hnt:∀b,¬IK ([]:Mu) b:=fun b ⟨id,n,h1⟩=>by simp at h1
  have hG':GD X.gl (imm [] [] w):=hG.mono' (fun b o v h=>ED.2 ⟨hno b o,hc b o v h⟩) (fun b o h=>MI.2 ⟨hnt b,hb b o h⟩)
  have hR:HeapRel [] [] w:=⟨rfl,fun id o m h1=>by simp at h1,fun i j b n n' h1=>by simp at h1,fun i b n h1=>by simp at h1⟩
  rcases z3N HX H [] w [] hR hG' rfl (fun j y v h1=>by simp at h1) with⟨_,q⟩|⟨r,w',v,h',x,μ',q,_⟩
  ·refine q.mono fun e w' h=>?_
   cases e with
   | panicked _=>exact h.elim
   | outgrown=>exact h.elim
   | returned r=>
    obtain⟨v,h',x,μ',⟨rfl,rfl,rfl⟩,h1,h2,h3,h4⟩:=h;have hm:μ'=[]:=List.length_eq_zero_iff.1 (by simpa using h2.len)
    subst hm;have hbl:∀b o,w.heap[b]?=some o→w'.heap[b]?=some o:=fun b o h=>(MI.1 (h3.le.b b o (MI.2 ⟨hnt b,h⟩))).2
    refine⟨r,rfl,⟨?_,fun b hb=>?_,?_⟩,?_⟩
    ·rcases Nat.lt_or_ge w'.heap.size w.heap.size with q|q
     ·have:=hbl w'.heap.size _ (Array.getElem?_eq_getElem q)
      simp at this
     ·exact q
    ·rw[hbl b _ (Array.getElem?_eq_getElem hb),Array.getElem?_eq_getElem hb]
    ·have:=h3.le.z
     simpa [imm] using this
    ·have:=h1.p_bool
     rw[this];exact .p _ _ (.bool true)
  ·rw[he]at q
   cases q
end Go.Am
end
section
/- The abstract machine,part K: slices.Sorted(maps.Keys(m)) at a map keyed by strings: its keys,sorted;met by the kit's contract. -/
set_option linter.all false
namespace Go.Am
variable {P:Program} {gl:Nat→Option PV}
def SH (ss:List (List UInt8)):List (List UInt8):=ss.mergeSort fun x y=>decide (x≤y)
def sM:List ME→Option (List (List UInt8))
 | []=>some []
 | e::r=>match e.key with
  | .str s=>(sM r).map (s :: ·)
  | _=>none
theorem z7X:∀ {es:List ME}{ss:List (List UInt8)},sM es=some ss→es.map (·.key)=ss.map .str
 | [],ss,h=>by cases h;rfl
 | e::r,ss,h=>by
  unfold sM at h;split at h
  ·rename_i s hs
   obtain⟨t,ht,rfl⟩:=Option.map_eq_some_iff.1 h;simp [hs,z7X ht]
  ·cases h
def aO (w w':World)(x:Value)(ss:List (List UInt8)):Prop:=(ss=[]∧x = .slice none 0 0) ∨
 ∃b cap,x = .slice (some ⟨b,0,none⟩) ss.length cap∧w.heap.size≤b∧ss.length≤cap∧∀(j:Nat) (s:List UInt8),ss[j]?=some s→w'.cell? ⟨b,j,none⟩=some (.string ⟨s.toArray⟩)
theorem aO.rpv {M:Mem}{w w':World}{x:Value}{ss:List (List UInt8)}(h:aO w w' x ss):RPV (mE M w w') (.sl none (ss.map .str)) x:=by
 rcases h with⟨rfl,rfl⟩|⟨b,cap,rfl,hb,hc,hx⟩
 ·exact .nils _ _ _
 ·cases hs:ss with
  | nil=>exact .nils _ _ _
  | cons s0 r=>
   rw[←hs];have hne:ss≠[]:=by rw[hs];simp
   have hfl:(ss.map PV.str).flatMap PV.cells=ss.map PV.str:=by
    rw[List.flatMap_map];clear hx hc hne hs;induction ss with
    | nil=>rfl
    | cons a t ih=>rw[List.flatMap_cons,ih];rfl
   have:=RPV.sl (M:=mE M w w') none (ss.map .str) b 0 cap (fun j=>.string ⟨(ss.getD j []).toArray⟩) (by simpa using hne) (by simpa using hc) (fun x hx=>by
    obtain⟨s,_,rfl⟩:=List.mem_map.1 hx;rfl) (fun j y hy=>by
    rw[hfl,List.getElem?_map]at hy;obtain⟨s,hs,rfl⟩:=Option.map_eq_some_iff.1 hy;show(if b<w.heap.size then M.c b (0+j) else w'.cell? ⟨b,0+j,none⟩)=_
    rw[if_neg (by omega),Nat.zero_add,hx j s hs]
    simp [List.getD,hs]) (fun j y hy=>by
    rw[hfl,List.getElem?_map]at hy;obtain⟨s,hs,rfl⟩:=Option.map_eq_some_iff.1 hy;simp only[List.getD,hs,Option.getD_some];exact .str s)
   simpa using this
structure KeysRow (P:Program) (f g:Nat):Prop where
 enter:∀us w,(callFunc f us).run P w = .ok (.enter f us) w
 run:∀(w:World) (bq bm clk:Nat) (ces:Array MapEntry) (ss:List (List UInt8)),w.cell? ⟨bq,0,none⟩=some (.map (some bm))→w.heap[bm]?=some (.map ces clk) →
  ces.toList.map (·.key)=ss.map (fun s=>Value.string ⟨s.toArray⟩)→(∀x∈ces.toList,x.born<clk)→(ces.toList.map (·.born)).Nodup→ss.Nodup→(∀s∈ss,s.length≤maxLen)→ss.length≤1000000 →
  Calls P f #[.func (.func g) #[] #[.pointer (some ⟨bq,0,none⟩)]] w fun e w'=>∃x,e = .returned x∧WExt w w'∧aO w w' x (SH ss)
 nil:∀(w:World) (bq:Nat),w.cell? ⟨bq,0,none⟩=some (.map none) →
  Calls P f #[.func (.func g) #[] #[.pointer (some ⟨bq,0,none⟩)]] w fun e w'=>∃x,e = .returned x∧WExt w w'∧aO w w' x []
def fK (es:List ME):Option (List (List UInt8)):=match sM es with
 | some ss=>if ss.Nodup∧(es.map (·.born)).Nodup∧ss.length≤1000000∧∀s∈ss,s.length≤maxLen then some (SH ss) else none
 | none=>none
abbrev WH:=List (Nat × Nat)
def tM:WH→Nat→List AV→aA→Option (AV×aA×Esc)
 | [],_,_,_=>none
 | (g,m)::r,f,asv,h=>bif Nat.beq f g&&(match asv with
  | [.fn k [.ref _ 0]]=>Nat.beq k m
  | _=>false) then(match asv with
  | [.fn _ [.ref q 0]]=>(match h[q]? with
   | some (.box [.mp id])=>(match h[id]? with
    | some (.amap es _)=>(fK es).map fun ss=>(.p (.sl none (ss.map .str)),h,[])
    | _=>none)
   | some (.box [.nilm])=>some (.p (.sl none []),h,[])
   | _=>none)
  | _=>none) else tM r f asv h
theorem z8a:∀ (gs:WH),(∀g m,(g,m)∈gs→KeysRow P g m)→∀{f:Nat} {asv:List AV} {h:aA} {v:AV} {h':aA} {x:Esc},tM gs f asv h=some (v,h',x) →
 uC P gl f asv h fun v1 h1 x1=>v1=v∧h1=h'∧x1=x
 | [],_,f,asv,h,v,h',x,H=>by cases H
 | (g,m)::r,hg,f,asv,h,v,h',x,H=>by
  unfold tM at H;rw[Bool.cond_eq_ite]at H;generalize hbb:(Nat.beq f g&&_)=bb at H;cases bb with
  | true=>
   rw[if_pos rfl]at H;rw[Bool.and_eq_true]at hbb;obtain⟨hf,hb⟩:=hbb;have e:=Nat.eq_of_beq_eq_true hf
   subst e;split at hb
   ·rename_i k q
    have e:=Nat.eq_of_beq_eq_true hb
    subst e;have R:=hg f k (by simp)
    have key:∃ss:List (List UInt8),(v,h',x)=(.p (.sl none (ss.map .str)),h,[])∧∀(μ:Mu) (w:World) (u:Value),HeapRel h μ w→RAV (imm h μ w) h μ (.fn k [.ref q 0]) u →
     Calls P f #[u] w fun e w'=>∃x,e = .returned x∧WExt w w'∧aO w w' x ss:=by
     have arg:∀(μ:Mu) (w:World) (u:Value) (cs:List AV),h[q]?=some (.box cs)→HeapRel h μ w→RAV (imm h μ w) h μ (.fn k [.ref q 0]) u →
      ∀a,cs[0]?=some a→∃b v,u = .func (.func k) #[] #[.pointer (some ⟨b,0,none⟩)]∧w.cell? ⟨b,0,none⟩=some v∧RAV (imm h μ w) h μ a v:=by
      intro μ w u cs hq Hh hu a ha;cases hu with
      | fn _ _ vs hl hr=>
       match vs,hl with
       | [u0],_=>
        have q0:=hr 0 _ u0 rfl rfl
        cases q0 with
        | ref _ _ b n cs' ho hm=>
         have O:=Hh.obj q _ _ hq hm
         obtain⟨b',c,e1,B,hc⟩:=O;cases e1;obtain⟨_,v,hv,hR⟩:=hc 0 a ha;obtain⟨_,E,lo,hi,hB,_⟩:=B;refine⟨b,v,rfl,?_,hR⟩;simp only[World.cell?,hB];simpa using hv
     split at H;case h_2=>cases H
     rename_i k' q' hq0;cases hq0;split at H
     ·rename_i id hq
      split at H
      ·rename_i es c hid
       obtain⟨ss,hk,e2⟩:=Option.map_eq_some_iff.1 H;refine⟨ss,e2.symm,fun μ w u Hh hu=>?_⟩
       obtain⟨b,v,rfl,hcell,hR⟩:=arg μ w u _ hq Hh hu _ rfl;unfold fK at hk;split at hk
       ·rename_i s0 hs0
        split at hk
        ·rename_i hc
         cases hk;obtain⟨k1,k2,k3,k4⟩:=hc
         cases hR with
         | mp _ bm nm es' c' ho hm=>
          rw[hid]at ho;cases ho;have O:=Hh.obj id _ _ hid hm
          obtain⟨b',n',ces,e1,hblk,hsz,hborn,hes⟩:=O;cases e1;have hkeys:=z7X hs0
          have hlen:es.length=s0.length:=by simpa using congrArg List.length hkeys
          refine R.run w b bm c ces s0 hcell hblk ?_ ?_ ?_ k1 k4 k3
          ·apply List.ext_getElem?
           intro i;simp only[List.getElem?_map,Array.getElem?_toList];by_cases hi:i<es.length
           ·have h1:es[i]?=some es[i]:=List.getElem?_eq_getElem hi
            have h2:ces[i]?=some (ces[i]'(by omega)):=Array.getElem?_eq_getElem (by omega)
            have h3:s0[i]?=some (s0[i]'(by omega)):=List.getElem?_eq_getElem (by omega)
            obtain⟨r1,_⟩:=hes i _ _ h1 h2;have h4:=congrArg (·[i]?) hkeys
            simp only[List.getElem?_map,h1,h3,Option.map_some,Option.some.injEq]at h4;rw[h4]at r1;rw[h2,h3];simp only[Option.map_some];revert r1
            generalize ces[i].key=kk;intro r1;cases r1;rfl
           ·rw[Array.getElem?_eq_none (by omega),List.getElem?_eq_none (by omega)]
            rfl
          ·intro x hx
           obtain⟨i,hi,rfl⟩:=List.mem_iff_getElem.1 hx;have hi':i<ces.size:=by simpa using hi
           have h1:es[i]?=some (es[i]'(by omega)):=List.getElem?_eq_getElem (by omega)
           have h2:ces[i]?=some ces[i]:=Array.getElem?_eq_getElem hi'
           obtain⟨_,_,_,r4⟩:=hes i _ _ h1 h2;have:=hborn _ (List.getElem_mem (l:=es) (n:=i) (by omega))
           simp only[Array.getElem_toList];omega
          ·have:ces.toList.map (·.born)=es.map (·.born):=by
            apply List.ext_getElem?
            intro i;simp only[List.getElem?_map,Array.getElem?_toList];by_cases hi:i<es.length
            ·have h1:es[i]?=some es[i]:=List.getElem?_eq_getElem hi
             have h2:ces[i]?=some (ces[i]'(by omega)):=Array.getElem?_eq_getElem (by omega)
             obtain⟨_,_,_,r4⟩:=hes i _ _ h1 h2;rw[h1,h2];simp [r4]
            ·rw[Array.getElem?_eq_none (by omega),List.getElem?_eq_none (by omega)]
             rfl
           rw[this];exact k2
        ·cases hk
       ·cases hk
      ·cases H
     ·rename_i hq
      refine⟨[],(Option.some.inj H).symm,fun μ w u Hh hu=>?_⟩
      obtain⟨b,v,rfl,hcell,hR⟩:=arg μ w u _ hq Hh hu _ rfl;cases hR;exact R.nil w b hcell
     ·cases H
    obtain⟨ss,e3,hrun⟩:=key;cases e3;intro μ w vs Hh Hg hl hr;match vs,hl with
    | [u],_=>
     refine .inl ⟨R.enter _,(hrun μ w u Hh (hr 0 _ u rfl rfl)).mono fun e w' he=>?_⟩
     obtain⟨u,rfl,g1,g2⟩:=he;obtain⟨n1,n2⟩:=Hh.ext g1;have Lq:(mE (imm h μ w) w w').le (imm h μ w'):=by
      refine⟨fun b o v hv=>?_,fun b o hv=>?_,rfl,fun _ _ h=>by cases h⟩
      ·dsimp only[mE]at hv
       split at hv
       ·exact n2.le.c _ _ _ hv
       ·rename_i hb
        exact ED.2 ⟨fun hO=>hb (kT Hh hO),hv⟩
      ·dsimp only[mE]at hv
       cases hv
     have g3:RAV (mE (imm h μ w) w w') [] [] (.p (.sl none (ss.map .str))) u:=.p _ _ g2.rpv
     exact⟨_,_,_,μ,⟨rfl,rfl,rfl⟩,g3.evo ⟨Lq,Nat.zero_le _,fun id o m h1=>by simp at h1⟩,n1,n2,xA.refl h []⟩
   ·cases hb
  | false=>
   rw[if_neg (by simp)]at H
   exact z8a r (fun g m hm=>hg g m (by simp [hm])) H
def UO (ks:WH)(gs:List (Nat × Sh))(ps:pE)(f:Nat)(asv:List AV)(h:aA):Option (AV×aA×Esc):=match tM ks f asv h with
 | some y=>some y
 | none=>IG gs ps f asv h
theorem libK_ok {ks:WH}{gs:List (Nat × Sh)}{ps:pE}(hk:∀ g m,(g,m)∈ks→KeysRow P g m)(hg:∀ g sh,(g,sh)∈gs→GrowRow P g sh)(hp:∀ g s,(g,s)∈ps→PureRow P gl g s){f:Nat}{asv:List AV}{h:aA}{v:AV}{h':aA}{x:Esc}(H:UO ks gs ps f asv h=some (v,h',x)) :
 uC P gl f asv h fun v1 h1 x1=>v1=v∧h1=h'∧x1=x:=by
 unfold UO at H;split at H
 ·rename_i y hy
  cases H;exact z8a ks hk hy
 ·exact zmR hg hp H
def VS:WH→Nat→Nat→Bool
 | [],_,_=>false
 | (g,m)::r,f,k=>(Nat.beq f g&&Nat.beq k m)||VS r f k
theorem z7Z:∀ {ks:WH}{f m q id c:Nat}{h:aA}{es:List ME}{ss:List (List UInt8)},VS ks f m=true→h[q]?=some (.box [.mp id])→h[id]?=some (.amap es c)→fK es=some ss →
 tM ks f [.fn m [.ref q 0]] h=some (.p (.sl none (ss.map .str)),h,[])
 | [],f,m,q,id,c,h,es,ss,hk,_,_,_=>by cases hk
 | (g,k)::r,f,m,q,id,c,h,es,ss,hk,h1,h2,h3=>by
  unfold VS at hk;unfold tM;cases hb:Nat.beq f g&&Nat.beq m k with
  | true=>simp [hb,h1,h2,h3]
  | false=>rw[hb]at hk;simp only[hb,cond_false];exact z7Z (by simpa using hk) h1 h2 h3
theorem zmT {ks:WH}{gs:List (Nat × Sh)}{ps:pE}{f m q id c:Nat}{h:aA}{es:List ME}{ss:List (List UInt8)}(hk:VS ks f m=true)(h1:h[q]?=some (.box [.mp id]))(h2:h[id]?=some (.amap es c))(h3:fK es=some ss) :
 UO ks gs ps f [.fn m [.ref q 0]] h=some (.p (.sl none (ss.map .str)),h,[]):=by
 unfold UO;rw[z7Z hk h1 h2 h3]
end Go.Am
end
section
/- The functions together. -/
set_option linter.unusedVariables false
set_option maxRecDepth 100000
namespace Go.Am
def fns:List (Nat × AFun):=[(uS,xV),(qL,FV),(rL,GV),(lC,MV),(sL,HV),(aC,NV),(eM,VW),(GI,yQ),(iM,XW),(fM,WW),(dM,UW),(fF,yV),(nL,zV),(yL,YV),(oL,BV),(pL,CV),(zL,ZV),(BL,aW),(uL,QV),(CL,cW),(DL,dW),(RL,zW),(PL,xW),(SL,BW),(FI,yW),(vE,IV),(ML,uW),(VD,KV),(wE,LV),(AD,JV),(XL,GW),(AG,UV),(WD,CQ),(FC,IQ),(XD,LQ),(pD,nQ),(lM,bX),(jM,YW),(lL,uV),(kM,aX),(xL,VV),(vL,RV),(zI,XV),(yI,DV),(BD,WV),(KE,uQ),(UC,qW),(DI,lW),(VL,EW),(LJ,bW),(LE,MQ),(LL,tW),(OL,wW),(MJ,eW),(YL,HW),(NJ,fW),(BG,sW),(zG,EV),(bM,SW),(HJ,mQ),(QJ,xQ),(PJ,wQ),(YJ,JQ),(SJ,AQ),(XF,HQ),(WL,FW),(XJ,ZW),(sH,rQ),(TF,qQ),(OJ,IW),(qD,oW),(wL,TV),(NL,vW),(KJ,SV),(KL,rW),(EI,pW),(VF,vQ),(tL,OV),(FL,jW),(DG,OW),(yG,vV),(IJ,tQ),(UL,DW),(cM,TW),(WF,JW),(zD,pQ),(TJ,BQ),(RJ,zQ),(ZJ,KQ),(rH,oQ),(WJ,GQ),(VJ,EQ),(uH,FQ),(EG,PW),(tH,sQ),(FG,RW),(TL,CW),(mM,cX),(CI,gW),(IL,mW),(HL,kW),(EL,iW),(JL,nW),(ZL,KW),(mL,wV),(CG,LW),(UJ,DQ),(aM,MW),(UF,rV),(kL,tV),(xI,sV)]
def GRL:List (Nat × Sh):=[(EO,none)]
def PRL:pE:=[(HI,qM),(JJ,z0O)]
def GLL:List (Nat × PV):=[(1,rU)]
def KRL:WH:=[(vS,BO)]
def HO:List (Nat × AFun)→Nat→Option AFun
 | [],_=>none
 | (k,F)::r,n=>bif Nat.beq k n then some F else HO r n
def X:Ctx:=⟨HO fns,LO GLL,GJ wG xG,UO KRL GRL PRL⟩
theorem z7h {p:Nat→AFun→Bool}:∀(l:List (Nat×AFun)),(l.all fun y=>p y.1 y.2)=true→∀n F,HO l n=some F→p n F=true
 | [],_,n,F,h=>by cases h
 | (k,G)::r,ha,n,F,h=>by
  simp only[List.all_cons,Bool.and_eq_true]at ha;simp only[HO]at h;cases hk:Nat.beq k n with
  | true=>
   rw[hk]at h;have:=Nat.eq_of_beq_eq_true hk;simp only[cond_true,Option.some.injEq]at h;subst this;subst h;exact ha.1
  | false=>
   rw[hk]at h;exact z7h r ha.2 n F h
def fns0:List (Nat × AFun):=[(GI,yQ),(JJ,zdm),(WD,CQ),(FC,IQ),(XD,LQ),(pD,nQ),(KE,uQ),(LE,MQ),(HJ,mQ),(QJ,xQ),(PJ,wQ),(YJ,JQ),(SJ,AQ),(XF,HQ),(sH,rQ),(TF,qQ),(VF,vQ),(IJ,tQ),(zD,pQ),(TJ,BQ),(RJ,zQ),(ZJ,KQ),(rH,oQ),(WJ,GQ),(VJ,EQ),(uH,FQ),(tH,sQ),(UJ,DQ)]
def PRL0:pE:=[(HI,qM)]
def X0:Ctx:=⟨HO fns0,LO GLL,GJ wG xG,IG GRL PRL0⟩
theorem z3m:X.NoNext:=fun f F h=>z7h (p:=fun _ F=>F.isDet||F.body.noNext) fns (by kernel_rfl) f F h
theorem zqR:X.fn uS=some xV:=by kernel_rfl
theorem zeo {u0 v0:AV}{h h1:aA}{P:lA}(hp:sA h [u0]=some ([v0],h1)):cA X uS [u0] h P=lO (cA X) X.gl rT v0 h1 [] (qA [.t 2] false h.length P):=by rw[zA zqR rfl hp rfl];exact zgM
theorem zqY:X.fn qL=some FV:=by kernel_rfl
theorem zev {u0 v0:AV}{h h1:aA}{P:lA}(hp:sA h [u0]=some ([v0],h1)):cA X qL [u0] h P = ∃v h' x,P v h' x∧nR (cA X) X.gl oP v0 h1 [] (qA [.cell 2 (some 2)] false h.length fun v1 h1 x1=>v1=v∧h1=h'∧x1=x):=by rw[MK zqY rfl hp rfl];exact jL fun v h' x=>congrArg (And (P v h' x)) zgW
theorem zqZ:X.fn rL=some GV:=by kernel_rfl
theorem zew {u0 u1 v0 v1:AV}{h h1:aA}{P:lA}(hp:sA h [u0,u1]=some ([v0,v1],h1)):cA X rL [u0,u1] h P=oR (cA X) X.gl GM rP v0 v1 h1 [] (qA [.t 4] false h.length P):=by rw[zA zqZ rfl hp rfl];exact zgZ
theorem zrf:X.fn lC=some MV:=by kernel_rfl
theorem ze1 {u0 u1 u2 v0 v1 v2:AV}{h h1:aA}{P:lA}(hp:sA h [u0,u1,u2]=some ([v0,v1,v2],h1)):cA X lC [u0,u1,u2] h P=PX (cA X) X.gl v0 v1 v2 h1 [] (qA [.t 6] false h.length P):=by rw[zA zrf rfl hp rfl];exact zhj
theorem zra:X.fn sL=some HV:=by kernel_rfl
theorem zex {u0 v0:AV}{h h1:aA}{P:lA}(hp:sA h [u0]=some ([v0],h1)):cA X sL [u0] h P=MX (cA X) X.gl v0 h1 [] (qA [.t 2] false h.length P):=by rw[zA zra rfl hp rfl];exact zhe
theorem zrg:X.fn aC=some NV:=by kernel_rfl
theorem ze2 {u0 u1 v0 v1:AV}{h h1:aA}{P:lA}(hp:sA h [u0,u1]=some ([v0,v1],h1)):cA X aC [u0,u1] h P=QX (cA X) X.gl v0 v1 h1 [] (qA [.t 4] false h.length P):=by rw[zA zrg rfl hp rfl];exact zhk
theorem zse:X.fn eM=some VW:=by kernel_rfl
theorem zfy {u0 u1 u2 v0 v1 v2:AV}{h h1:aA}{P:lA}(hp:sA h [u0,u1,u2]=some ([v0,v1,v2],h1)):cA X eM [u0,u1,u2] h P=YR (cA X) X.gl v0 v1 v2 h1 [] (qA [.t 6,.t 7,.t 8] false h.length P):=by rw[zA zse rfl hp rfl];exact zjJ
theorem zsd:X.fn GI=some yQ:=by kernel_rfl
theorem zfx {u0 u1 u2 u3 v0 v1 v2 v3:AV}{h h1:aA}{P:lA}(hp:sA h [u0,u1,u2,u3]=some ([v0,v1,v2,v3],h1)):cA X GI [u0,u1,u2,u3] h P=YK (cA X) X.gl v0 v1 v2 v3 h1 [] (qA [.cell 8 (some 5),.t 9] false h.length P):=by rw[zA zsd rfl hp rfl];exact zjI
theorem zsg:X.fn iM=some XW:=by kernel_rfl
theorem zf0 {u0 u1 u2 u3 v0 v1 v2 v3:AV}{h h1:aA}{P:lA}(hp:sA h [u0,u1,u2,u3]=some ([v0,v1,v2,v3],h1)):cA X iM [u0,u1,u2,u3] h P=ZR (cA X) X.gl v0 v1 v2 v3 h1 [] (qA [.t 8,.t 9] false h.length P):=by rw[zA zsg rfl hp rfl];exact zjN
theorem zsf:X.fn fM=some WW:=by kernel_rfl
theorem zfz {u0 u1 u2 v0 v1 v2:AV}{h h1:aA}{P:lA}(hp:sA h [u0,u1,u2]=some ([v0,v1,v2],h1)):cA X fM [u0,u1,u2] h P=tO (cA X) X.gl sN bU v0 v1 v2 h1 [] (qA [.t 6,.t 7] false h.length P):=by rw[zA zsf rfl hp rfl];exact zjK
theorem zsc:X.fn dM=some UW:=by kernel_rfl
theorem zfw {u0 u1 u2 v0 v1 v2:AV}{h h1:aA}{P:lA}(hp:sA h [u0,u1,u2]=some ([v0,v1,v2],h1)):cA X dM [u0,u1,u2] h P = ∃v h' x,P v h' x∧XR (cA X) X.gl rN aU v0 v1 v2 h1 [] (qA [.t 6,.t 7] false h.length fun v1 h1 x1=>v1=v∧h1=h'∧x1=x):=by rw[MK zsc rfl hp rfl];exact jL fun v h' x=>congrArg (And (P v h' x)) zjD
theorem zqS:X.fn fF=some yV:=by kernel_rfl
theorem zep {u0 v0:AV}{h h1:aA}{P:lA}(hp:sA h [u0]=some ([v0],h1)):cA X fF [u0] h P=jR (cA X) X.gl FM sT v0 h1 [] (qA [.t 2] false h.length P):=by rw[zA zqS rfl hp rfl];exact zgN
theorem zqT:X.fn nL=some zV:=by kernel_rfl
theorem zeq {u0 u1 v0 v1:AV}{h h1:aA}{P:lA}(hp:sA h [u0,u1]=some ([v0,v1],h1)):cA X nL [u0,u1] h P=IX (cA X) X.gl v0 v1 h1 [] (qA [.t 4] false h.length P):=by rw[zA zqT rfl hp rfl];exact zgQ
theorem zrq:X.fn yL=some YV:=by kernel_rfl
theorem zeB {u0 v0:AV}{h h1:aA}{P:lA}(hp:sA h [u0]=some ([v0],h1)):cA X yL [u0] h P=uR (cA X) X.gl v0 h1 [] (qA [.t 2] false h.length P):=by rw[zA zrq rfl hp rfl];exact zh7
theorem zqU:X.fn oL=some BV:=by kernel_rfl
theorem zer {u0 v0:AV}{h h1:aA}{P:lA}(hp:sA h [u0]=some ([v0],h1)):cA X oL [u0] h P=kR (cA X) X.gl v0 h1 [] (qA [.t 2] false h.length P):=by rw[zA zqU rfl hp rfl];exact zgR
theorem zqV:X.fn pL=some CV:=by kernel_rfl
theorem zes {u0 u1 v0 v1:AV}{h h1:aA}{P:lA}(hp:sA h [u0,u1]=some ([v0,v1],h1)):cA X pL [u0,u1] h P=lR (cA X) X.gl v0 v1 h1 [] (qA [.t 4] false h.length P):=by rw[zA zqV rfl hp rfl];exact zgS
theorem zrr:X.fn zL=some ZV:=by kernel_rfl
theorem zeC {u0 u1 u2 v0 v1 v2:AV}{h h1:aA}{P:lA}(hp:sA h [u0,u1,u2]=some ([v0,v1,v2],h1)):cA X zL [u0,u1,u2] h P=VX (cA X) X.gl v0 v1 v2 h1 [] (qA [.t 6,.t 7] false h.length P):=by rw[zA zrr rfl hp rfl];exact zh8
theorem zrs:X.fn BL=some aW:=by kernel_rfl
theorem zeD {u0 u1 u2 v0 v1 v2:AV}{h h1:aA}{P:lA}(hp:sA h [u0,u1,u2]=some ([v0,v1,v2],h1)):cA X BL [u0,u1,u2] h P=vR (cA X) X.gl LM CT v0 v1 v2 h1 [] (qA [.t 6] false h.length P):=by rw[zA zrs rfl hp rfl];exact zh9
theorem zri:X.fn uL=some QV:=by kernel_rfl
theorem ze4 {u0 u1 u2 v0 v1 v2:AV}{h h1:aA}{P:lA}(hp:sA h [u0,u1,u2]=some ([v0,v1,v2],h1)):cA X uL [u0,u1,u2] h P = ∃v h' x,P v h' x∧rR (cA X) X.gl IM yT v0 v1 v2 h1 [] (qA [.t 6] false h.length fun v1 h1 x1=>v1=v∧h1=h'∧x1=x):=by rw[MK zri rfl hp rfl];exact jL fun v h' x=>congrArg (And (P v h' x)) zhp
theorem zru:X.fn CL=some cW:=by kernel_rfl
theorem zeF {u0 u1 u2 u3 v0 v1 v2 v3:AV}{h h1:aA}{P:lA}(hp:sA h [u0,u1,u2,u3]=some ([v0,v1,v2,v3],h1)):cA X CL [u0,u1,u2,u3] h P=wR (cA X) X.gl v0 v1 v2 v3 h1 [] (qA [.cell 8 (some 5),.t 9] false h.length P):=by rw[zA zru rfl hp rfl];exact zhE
theorem zrv:X.fn DL=some dW:=by kernel_rfl
theorem zeG {u0 u1 u2 u3 v0 v1 v2 v3:AV}{h h1:aA}{P:lA}(hp:sA h [u0,u1,u2,u3]=some ([v0,v1,v2,v3],h1)):cA X DL [u0,u1,u2,u3] h P=YX (cA X) X.gl v0 v1 v2 v3 h1 [] (qA [.t 8] false h.length P):=by rw[zA zrv rfl hp rfl];exact zhF
theorem zrH:X.fn RL=some zW:=by kernel_rfl
theorem zfc {u0 u1 v0 v1:AV}{h h1:aA}{P:lA}(hp:sA h [u0,u1]=some ([v0,v1],h1)):cA X RL [u0,u1] h P=qO (cA X) X.gl YM RT v0 v1 h1 [] (qA [.t 4] false h.length P):=by rw[zA zrH rfl hp rfl];exact zi5
theorem zrF:X.fn PL=some xW:=by kernel_rfl
theorem zfa {u0 u1 v0 v1:AV}{h h1:aA}{P:lA}(hp:sA h [u0,u1]=some ([v0,v1],h1)):cA X PL [u0,u1] h P=GR (cA X) X.gl WM PT v0 v1 h1 [] (qA [.t 4] false h.length P):=by rw[zA zrF rfl hp rfl];exact ziz
theorem zrI:X.fn SL=some BW:=by kernel_rfl
theorem zfd {u0 u1 v0 v1:AV}{h h1:aA}{P:lA}(hp:sA h [u0,u1]=some ([v0,v1],h1)):cA X SL [u0,u1] h P=IR (cA X) X.gl ZM ST v0 v1 h1 [] (qA [.t 4] false h.length P):=by rw[zA zrI rfl hp rfl];exact zi8
theorem zrG:X.fn FI=some yW:=by kernel_rfl
theorem zfb {u0 u1 v0 v1:AV}{h h1:aA}{P:lA}(hp:sA h [u0,u1]=some ([v0,v1],h1)):cA X FI [u0,u1] h P=HR (cA X) X.gl XM QT v0 v1 h1 [] (qA [.t 4] false h.length P):=by rw[zA zrG rfl hp rfl];exact zi2
theorem zrb:X.fn vE=some IV:=by kernel_rfl
theorem zey {u0 u1 v0 v1:AV}{h h1:aA}{P:lA}(hp:sA h [u0,u1]=some ([v0,v1],h1)):cA X vE [u0,u1] h P=NX (cA X) X.gl v0 v1 h1 [] (qA [.t 4] false h.length P):=by rw[zA zrb rfl hp rfl];exact zhf
theorem zrB:X.fn ML=some uW:=by kernel_rfl
theorem zeW {u0 v0:AV}{h h1:aA}{P:lA}(hp:sA h [u0]=some ([v0],h1)):cA X ML [u0] h P=ER (cA X) X.gl UM NT v0 h1 [] (qA [.t 2] true h.length P):=by rw[zA zrB rfl hp rfl];exact zin
theorem zrd:X.fn VD=some KV:=by kernel_rfl
theorem PQ {u0 u1 u2 v0 v1 v2:AV}{h h1:aA}{P:lA}(hp:sA h [u0,u1,u2]=some ([v0,v1,v2],h1)):cA X VD [u0,u1,u2] h P=UK (cA X) X.gl v0 v1 v2 h1 [] (qA [.t 6] false h.length P):=by rw[zA zrd rfl hp rfl];exact zhh
theorem zre:X.fn wE=some LV:=by kernel_rfl
theorem ze0 {u0 u1 v0 v1:AV}{h h1:aA}{P:lA}(hp:sA h [u0,u1]=some ([v0,v1],h1)):cA X wE [u0,u1] h P=OX (cA X) X.gl v0 v1 h1 [] (qA [.t 4] false h.length P):=by rw[zA zre rfl hp rfl];exact zhi
theorem zrc:X.fn AD=some JV:=by kernel_rfl
theorem zez {u0 u1 v0 v1:AV}{h h1:aA}{P:lA}(hp:sA h [u0,u1]=some ([v0,v1],h1)):cA X AD [u0,u1] h P=pR (cA X) X.gl v0 v1 h1 [] (qA [.t 4] false h.length P):=by rw[zA zrc rfl hp rfl];exact zhg
theorem zrO:X.fn XL=some GW:=by kernel_rfl
theorem zfj {u0 u1 h P}:cA X XL [u0,u1] h P=lY (cA X) X.gl u0 u1 h [] (qA [] false h.length P):=by rw[NC zrO rfl rfl];exact ziM
theorem zrm:X.fn AG=some UV:=by kernel_rfl
theorem z3L {u0 u1 v0 v1:AV}{h h1:aA}{P:lA}(hp:sA h [u0,u1]=some ([v0,v1],h1)):cA X AG [u0,u1] h P=vI (cA X) X.gl v0 v1 h1 [] (qA [.t 4] false h.length P):=by rw[zA zrm rfl hp rfl];exact zh2
theorem zsk:X.fn WD=some CQ:=by kernel_rfl
theorem zf4 {u0 u1 u2 v0 v1 v2:AV}{h h1:aA}{P:lA}(hp:sA h [u0,u1,u2]=some ([v0,v1,v2],h1)):cA X WD [u0,u1,u2] h P=KY (cA X) X.gl v0 v1 v2 h1 [] (qA [.t 6] false h.length P):=by rw[zA zsk rfl hp rfl];exact zjU
theorem zss:X.fn FC=some IQ:=by kernel_rfl
theorem zfB {u0 u1 v0 v1:AV}{h h1:aA}{P:lA}(hp:sA h [u0,u1]=some ([v0,v1],h1)):cA X FC [u0,u1] h P=fS (cA X) X.gl wN kU v0 v1 h1 [] (qA [.t 4] false h.length P):=by rw[zA zss rfl hp rfl];exact zkn
theorem zsx:X.fn XD=some LQ:=by kernel_rfl
theorem zfG {u0 u1 v0 v1:AV}{h h1:aA}{P:lA}(hp:sA h [u0,u1]=some ([v0,v1],h1)):cA X XD [u0,u1] h P=jS (cA X) X.gl yN nU v0 v1 h1 [] (qA [.t 4] false h.length P):=by rw[zA zsx rfl hp rfl];exact zky
theorem zqE:X.fn pD=some nQ:=by kernel_rfl
theorem zea {u0 v0:AV}{h h1:aA}{P:lA}(hp:sA h [u0]=some ([v0],h1)):cA X pD [u0] h P=tI (cA X) X.gl DM mT v0 h1 [] (qA [.t 2] false h.length P):=by rw[zA zqE rfl hp rfl];exact zg2
theorem zsv:X.fn lM=some bX:=by kernel_rfl
theorem zfE {u0 u1 u2 u3 v0 v1 v2 v3:AV}{h h1:aA}{P:lA}(hp:sA h [u0,u1,u2,u3]=some ([v0,v1,v2,v3],h1)):cA X lM [u0,u1,u2,u3] h P=aL (cA X) X.gl lU v0 v1 v2 v3 h1 [] (qA [.t 8] false h.length P):=by rw[zA zsv rfl hp rfl];exact zkt
theorem zsq:X.fn jM=some YW:=by kernel_rfl
theorem zf9 {u0 u1 v0 v1:AV}{h h1:aA}{P:lA}(hp:sA h [u0,u1]=some ([v0,v1],h1)):cA X jM [u0,u1] h P = ∃v h' x,P v h' x∧dS (cA X) X.gl vN jU v0 v1 h1 [] (qA [.t 4] false h.length fun v1 h1 x1=>v1=v∧h1=h'∧x1=x):=by rw[MK zsq rfl hp rfl];exact jL fun v h' x=>congrArg (And (P v h' x)) zkj
theorem zqO:X.fn lL=some uV:=by kernel_rfl
theorem zel {u0 v0:AV}{h h1:aA}{P:lA}(hp:sA h [u0]=some ([v0],h1)):cA X lL [u0] h P=CX (cA X) X.gl v0 h1 [] (qA [.t 2] false h.length P):=by rw[zA zqO rfl hp rfl];exact zgG
theorem zsu:X.fn kM=some aX:=by kernel_rfl
theorem zfD {u0 v0:AV}{h h1:aA}{P:lA}(hp:sA h [u0]=some ([v0],h1)):cA X kM [u0] h P=FJ (cA X) X.gl v0 h1 [] (qA [.t 2] false h.length P):=by rw[zA zsu rfl hp rfl];exact zks
theorem zrn:X.fn xL=some VV:=by kernel_rfl
theorem ze8 {u0 v0:AV}{h h1:aA}{P:lA}(hp:sA h [u0]=some ([v0],h1)):cA X xL [u0] h P=VK (cA X) X.gl KM BT v0 h1 [] (qA [.t 2] false h.length P):=by rw[zA zrn rfl hp rfl];exact zh3
theorem zrj:X.fn vL=some RV:=by kernel_rfl
theorem ze5 {u0 v0:AV}{h h1:aA}{P:lA}(hp:sA h [u0]=some ([v0],h1)):cA X vL [u0] h P=mO (cA X) X.gl JM zT v0 h1 [] (qA [.t 2] false h.length P):=by rw[zA zrj rfl hp rfl];exact zhv
theorem zrp:X.fn zI=some XV:=by kernel_rfl
theorem zeA {u0 v0:AV}{h h1:aA}{P:lA}(hp:sA h [u0]=some ([v0],h1)):cA X zI [u0] h P=UX (cA X) X.gl v0 h1 [] (qA [.t 2] false h.length P):=by rw[zA zrp rfl hp rfl];exact zh6
theorem zqW:X.fn yI=some DV:=by kernel_rfl
theorem zet {u0 u1 v0 v1:AV}{h h1:aA}{P:lA}(hp:sA h [u0,u1]=some ([v0,v1],h1)):cA X yI [u0,u1] h P=JX (cA X) X.gl v0 v1 h1 [] (qA [.t 4] false h.length P):=by rw[zA zqW rfl hp rfl];exact zgT
theorem zro:X.fn BD=some WV:=by kernel_rfl
theorem ze9 {u0 v0:AV}{h h1:aA}{P:lA}(hp:sA h [u0]=some ([v0],h1)):cA X BD [u0] h P=WK (cA X) X.gl v0 h1 [] (qA [.t 2] false h.length P):=by rw[zA zro rfl hp rfl];exact zh5
theorem zrD:X.fn KE=some uQ:=by kernel_rfl
theorem zeY {u0 u1 h P}:cA X KE [u0,u1] h P=hY (cA X) X.gl u0 u1 h [] (qA [.t 4] false h.length P):=by rw[NC zrD rfl rfl];exact ziu
theorem zr7:X.fn UC=some qW:=by kernel_rfl
theorem zeS {u0 u1 u2 v0 v1 v2:AV}{h h1:aA}{P:lA}(hp:sA h [u0,u1,u2]=some ([v0,v1,v2],h1)):cA X UC [u0,u1,u2] h P=CR (cA X) X.gl TM MT v0 v1 v2 h1 [] (qA [.t 6] false h.length P):=by rw[zA zr7 rfl hp rfl];exact zig
theorem zr2:X.fn DI=some lW:=by kernel_rfl
theorem zeN {u0 v0:AV}{h h1:aA}{P:lA}(hp:sA h [u0]=some ([v0],h1)):cA X DI [u0] h P = ∃v h' x,P v h' x∧yR (cA X) X.gl PM HT v0 h1 [] (qA [.t 2] true h.length fun v1 h1 x1=>v1=v∧h1=h'∧x1=x):=by rw[MK zr2 rfl hp rfl];exact jL fun v h' x=>congrArg (And (P v h' x)) zhT
theorem zrM:X.fn VL=some EW:=by kernel_rfl
theorem zfh {u0 u1 h P}:cA X VL [u0,u1] h P=jY (cA X) X.gl u0 u1 h [] (qA [] false h.length P):=by rw[NC zrM rfl rfl];exact ziK
theorem zrt:X.fn LJ=some bW:=by kernel_rfl
theorem zeE {u0 u1 v0 v1:AV}{h h1:aA}{P:lA}(hp:sA h [u0,u1]=some ([v0,v1],h1)):cA X LJ [u0,u1] h P=XX (cA X) X.gl v0 v1 h1 [] (qA [.t 4] false h.length P):=by rw[zA zrt rfl hp rfl];exact zhD
theorem zsy:X.fn LE=some MQ:=by kernel_rfl
theorem zfH {u0 u1 v0 v1:AV}{h h1:aA}{P:lA}(hp:sA h [u0,u1]=some ([v0,v1],h1)):cA X LE [u0,u1] h P=RY (cA X) X.gl v0 v1 h1 [] (qA [.t 4] false h.length P):=by rw[zA zsy rfl hp rfl];exact zk1
theorem zrA:X.fn LL=some tW:=by kernel_rfl
theorem zeV {h h1:aA}{P:lA}(hp:sA h []=some ([],h1)):cA X LL [] h P=eY (cA X) X.gl  h1 [] (qA [.t 0] false h.length P):=by rw[zA zrA rfl hp rfl];exact zim
theorem zrE:X.fn OL=some wW:=by kernel_rfl
theorem zeZ {u0 u1 h P}:cA X OL [u0,u1] h P=FR (cA X) X.gl VM OT u0 u1 h [] (qA [.t 4] false h.length P):=by rw[NC zrE rfl rfl];exact ziv
theorem zrw:X.fn MJ=some eW:=by kernel_rfl
theorem zeH {u0 u1 u2 v0 v1 v2:AV}{h h1:aA}{P:lA}(hp:sA h [u0,u1,u2]=some ([v0,v1,v2],h1)):cA X MJ [u0,u1,u2] h P=nO (cA X) X.gl v0 v1 v2 h1 [] (qA [.t 4] false h.length P):=by rw[zA zrw rfl hp rfl];exact zhG
theorem zrP:X.fn YL=some HW:=by kernel_rfl
theorem zfk {u0 u1 h P}:cA X YL [u0,u1] h P=mY (cA X) X.gl u0 u1 h [] (qA [] false h.length P):=by rw[NC zrP rfl rfl];exact ziN
theorem zrx:X.fn NJ=some fW:=by kernel_rfl
theorem zeI {u0 u1 u2 v0 v1 v2:AV}{h h1:aA}{P:lA}(hp:sA h [u0,u1,u2]=some ([v0,v1,v2],h1)):cA X NJ [u0,u1,u2] h P=ZX (cA X) X.gl v0 v1 v2 h1 [] (qA [.t 5] false h.length P):=by rw[zA zrx rfl hp rfl];exact zhH
theorem zr9:X.fn BG=some sW:=by kernel_rfl
theorem zeU {u0 v0:AV}{h h1:aA}{P:lA}(hp:sA h [u0]=some ([v0],h1)):cA X BG [u0] h P=pO (cA X) X.gl v0 h1 [] (qA [.t 2] false h.length P):=by rw[zA zr9 rfl hp rfl];exact zil
theorem zqX:X.fn zG=some EV:=by kernel_rfl
theorem zeu {u0 u1 v0 v1:AV}{h h1:aA}{P:lA}(hp:sA h [u0,u1]=some ([v0,v1],h1)):cA X zG [u0,u1] h P=mR (cA X) X.gl tT v0 v1 h1 [] (qA [.t 4] false h.length P):=by rw[zA zqX rfl hp rfl];exact zgU
theorem zrY:X.fn bM=some SW:=by kernel_rfl
theorem zfs {u0 u1 u2 h P}:cA X bM [u0,u1,u2] h P=UR (cA X) X.gl nN WT u0 u1 u2 h [] (qA [] false h.length P):=by rw[NC zrY rfl rfl];exact zju
theorem zqD:X.fn HJ=some mQ:=by kernel_rfl
theorem zdZ {u0 v0:AV}{h h1:aA}{P:lA}(hp:sA h [u0]=some ([v0],h1)):cA X HJ [u0] h P=fR (cA X) X.gl CM lT v0 h1 [] (qA [.t 2] false h.length P):=by rw[zA zqD rfl hp rfl];exact zgz
theorem zsb:X.fn QJ=some xQ:=by kernel_rfl
theorem zfv {u0 v0:AV}{h h1:aA}{P:lA}(hp:sA h [u0]=some ([v0],h1)):cA X QJ [u0] h P=XK (cA X) X.gl qN ZT v0 h1 [] (qA [.t 2] false h.length P):=by rw[zA zsb rfl hp rfl];exact zjB
theorem zsa:X.fn PJ=some wQ:=by kernel_rfl
theorem zfu {u0 v0:AV}{h h1:aA}{P:lA}(hp:sA h [u0]=some ([v0],h1)):cA X PJ [u0] h P=sO (cA X) X.gl pN YT v0 h1 [] (qA [.t 2] false h.length P):=by rw[zA zsa rfl hp rfl];exact zj8
theorem zst:X.fn YJ=some JQ:=by kernel_rfl
theorem zfC {u0 v0:AV}{h h1:aA}{P:lA}(hp:sA h [u0]=some ([v0],h1)):cA X YJ [u0] h P=gS (cA X) X.gl v0 h1 [] (qA [.t 2] false h.length P):=by rw[zA zst rfl hp rfl];exact zkr
theorem zsi:X.fn SJ=some AQ:=by kernel_rfl
theorem zf2 {u0 v0:AV}{h h1:aA}{P:lA}(hp:sA h [u0]=some ([v0],h1)):cA X SJ [u0] h P=aS (cA X) X.gl tN cU v0 h1 [] (qA [.t 2] false h.length P):=by rw[zA zsi rfl hp rfl];exact zjP
theorem zsp:X.fn XF=some HQ:=by kernel_rfl
theorem QQ {u0 u1 v0 v1:AV}{h h1:aA}{P:lA}(hp:sA h [u0,u1]=some ([v0,v1],h1)):cA X XF [u0,u1] h P=TD (cA X) X.gl gU iU v0 v1 h1 [] (qA [.t 4] false h.length P):=by rw[zA zsp rfl hp rfl];exact zkf
theorem zrN:X.fn WL=some FW:=by kernel_rfl
theorem zfi {u0 u1 h P}:cA X WL [u0,u1] h P=kY (cA X) X.gl u0 u1 h [] (qA [] false h.length P):=by rw[NC zrN rfl rfl];exact ziL
theorem zsr:X.fn XJ=some ZW:=by kernel_rfl
theorem zfA {u0 u1 u2 v0 v1 v2:AV}{h h1:aA}{P:lA}(hp:sA h [u0,u1,u2]=some ([v0,v1,v2],h1)):cA X XJ [u0,u1,u2] h P=PY (cA X) X.gl v0 v1 v2 h1 [] (qA [.t 5] false h.length P):=by rw[zA zsr rfl hp rfl];exact zkm
theorem zqJ:X.fn sH=some rQ:=by kernel_rfl
theorem zeg {u0 v0:AV}{h h1:aA}{P:lA}(hp:sA h [u0]=some ([v0],h1)):cA X sH [u0] h P=gR (cA X) X.gl EM nT v0 h1 [] (qA [.t 2] false h.length P):=by rw[zA zqJ rfl hp rfl];exact zg9
theorem zqH:X.fn TF=some qQ:=by kernel_rfl
theorem zee {u0 u1 v0 v1:AV}{h h1:aA}{P:lA}(hp:sA h [u0,u1]=some ([v0,v1],h1)):cA X TF [u0,u1] h P=jO (cA X) X.gl v0 v1 h1 [] (qA [.t 4] false h.length P):=by rw[zA zqH rfl hp rfl];exact zg7
theorem zrQ:X.fn OJ=some IW:=by kernel_rfl
theorem zfl {u0 h P}:cA X OJ [u0] h P=nY (cA X) X.gl u0 h [] (qA [] false h.length P):=by rw[NC zrQ rfl rfl];exact ziO
theorem zr5:X.fn qD=some oW:=by kernel_rfl
theorem zeQ {u0 u1 u2 v0 v1 v2:AV}{h h1:aA}{P:lA}(hp:sA h [u0,u1,u2]=some ([v0,v1,v2],h1)):cA X qD [u0,u1,u2] h P=cY (cA X) X.gl v0 v1 v2 h1 [] (qA [.t 6] false h.length P):=by rw[zA zr5 rfl hp rfl];exact zic
theorem zrl:X.fn wL=some TV:=by kernel_rfl
theorem ze7 {u0 v0:AV}{h h1:aA}{P:lA}(hp:sA h [u0]=some ([v0],h1)):cA X wL [u0] h P=uI (cA X) X.gl AT v0 h1 [] (qA [.t 2] false h.length P):=by rw[zA zrl rfl hp rfl];exact zh0
theorem zrC:X.fn NL=some vW:=by kernel_rfl
theorem zeX {u0 u1 h P}:cA X NL [u0,u1] h P=gY (cA X) X.gl u0 u1 h [] (qA [.t 4] false h.length P):=by rw[NC zrC rfl rfl];exact zit
theorem zrk:X.fn KJ=some SV:=by kernel_rfl
theorem ze6 {u0 u1 v0 v1:AV}{h h1:aA}{P:lA}(hp:sA h [u0,u1]=some ([v0,v1],h1)):cA X KJ [u0,u1] h P=TX (cA X) X.gl v0 v1 h1 [] (qA [.t 3] false h.length P):=by rw[zA zrk rfl hp rfl];exact zhz
theorem zr8:X.fn KL=some rW:=by kernel_rfl
theorem zeT {u0 u1 v0 v1:AV}{h h1:aA}{P:lA}(hp:sA h [u0,u1]=some ([v0,v1],h1)):cA X KL [u0,u1] h P=DR (cA X) X.gl v0 v1 h1 [] (qA [.t 4] false h.length P):=by rw[zA zr8 rfl hp rfl];exact zik
theorem zr6:X.fn EI=some pW:=by kernel_rfl
theorem zeR {u0 u1 v0 v1:AV}{h h1:aA}{P:lA}(hp:sA h [u0,u1]=some ([v0,v1],h1)):cA X EI [u0,u1] h P=BR (cA X) X.gl SM LT v0 v1 h1 [] (qA [.t 4] false h.length P):=by rw[zA zr6 rfl hp rfl];exact zid
theorem zrL:X.fn VF=some vQ:=by kernel_rfl
theorem zfg {u0 u1 h P}:cA X VF [u0,u1] h P=LR (cA X) X.gl dN VT u0 u1 h [] (qA [.t 4] false h.length P):=by rw[NC zrL rfl rfl];exact ziH
theorem zrh:X.fn tL=some OV:=by kernel_rfl
theorem ze3 {u0 u1 v0 v1:AV}{h h1:aA}{P:lA}(hp:sA h [u0,u1]=some ([v0,v1],h1)):cA X tL [u0,u1] h P=qR (cA X) X.gl HM xT v0 v1 h1 [] (qA [.t 4] false h.length P):=by rw[zA zrh rfl hp rfl];exact zhl
theorem zr0:X.fn FL=some jW:=by kernel_rfl
theorem zeL {u0 u1 v0 v1:AV}{h h1:aA}{P:lA}(hp:sA h [u0,u1]=some ([v0,v1],h1)):cA X FL [u0,u1] h P=SD (cA X) X.gl uP GT v0 v1 h1 [] (qA [.t 4] false h.length P):=by rw[zA zr0 rfl hp rfl];exact zhO
theorem zrV:X.fn DG=some OW:=by kernel_rfl
theorem zfp {u0 u1 u2 u3 u4 h P}:cA X DG [u0,u1,u2,u3,u4] h P=PR (cA X) X.gl jN u0 u1 u2 u3 u4 h [] (qA [] false h.length P):=by rw[NC zrV rfl rfl];exact zjf
theorem zqP:X.fn yG=some vV:=by kernel_rfl
theorem zem {u0 v0:AV}{h h1:aA}{P:lA}(hp:sA h [u0]=some ([v0],h1)):cA X yG [u0] h P=DX (cA X) X.gl v0 h1 [] (qA [.t 2] false h.length P):=by rw[zA zqP rfl hp rfl];exact zgH
theorem zqM:X.fn IJ=some tQ:=by kernel_rfl
theorem zej {u0 u1 v0 v1:AV}{h h1:aA}{P:lA}(hp:sA h [u0,u1]=some ([v0,v1],h1)):cA X IJ [u0,u1] h P=AX (cA X) X.gl v0 v1 h1 [] (qA [.t 4] false h.length P):=by rw[zA zqM rfl hp rfl];exact zgE
theorem zrK:X.fn UL=some DW:=by kernel_rfl
theorem zff {u0 u1 h P}:cA X UL [u0,u1] h P=KR (cA X) X.gl cN UT u0 u1 h [] (qA [.t 4] false h.length P):=by rw[NC zrK rfl rfl];exact ziE
theorem zrZ:X.fn cM=some TW:=by kernel_rfl
theorem zft {u0 u1 u2 h P}:cA X cM [u0,u1,u2] h P=VR (cA X) X.gl oN XT u0 u1 u2 h [] (qA [] false h.length P):=by rw[NC zrZ rfl rfl];exact zj1
theorem zrR:X.fn WF=some JW:=by kernel_rfl
theorem z3M {u0 u1 u2 u3 h P}:cA X WF [u0,u1,u2,u3] h P=rO (cA X) X.gl eN u0 u1 u2 u3 h [] (qA [] false h.length P):=by rw[NC zrR rfl rfl];exact ziP
theorem zqG:X.fn zD=some pQ:=by kernel_rfl
theorem zec {u0 u1 u2 v0 v1 v2:AV}{h h1:aA}{P:lA}(hp:sA h [u0,u1,u2]=some ([v0,v1,v2],h1)):cA X zD [u0,u1,u2] h P=wX (cA X) X.gl v0 v1 v2 h1 [] (qA [.t 6] false h.length P):=by rw[zA zqG rfl hp rfl];exact zg6
theorem zsj:X.fn TJ=some BQ:=by kernel_rfl
theorem zf3 {u0 v0:AV}{h h1:aA}{P:lA}(hp:sA h [u0]=some ([v0],h1)):cA X TJ [u0] h P=kH (cA X) X.gl v0 h1 [] (qA [.t 2] false h.length P):=by rw[zA zsj rfl hp rfl];exact zjT
theorem zsh:X.fn RJ=some zQ:=by kernel_rfl
theorem zf1 {u0 u1 v0 v1:AV}{h h1:aA}{P:lA}(hp:sA h [u0,u1]=some ([v0,v1],h1)):cA X RJ [u0,u1] h P=IY (cA X) X.gl v0 v1 h1 [] (qA [.t 4] false h.length P):=by rw[zA zsh rfl hp rfl];exact zjO
theorem zsw:X.fn ZJ=some KQ:=by kernel_rfl
theorem zfF {u0 v0:AV}{h h1:aA}{P:lA}(hp:sA h [u0]=some ([v0],h1)):cA X ZJ [u0] h P=iS (cA X) X.gl xN mU v0 h1 [] (qA [.t 2] false h.length P):=by rw[zA zsw rfl hp rfl];exact zkv
theorem zqF:X.fn rH=some oQ:=by kernel_rfl
theorem zeb {u0 v0:AV}{h h1:aA}{P:lA}(hp:sA h [u0]=some ([v0],h1)):cA X rH [u0] h P=vX (cA X) X.gl v0 h1 [] (qA [.t 2] false h.length P):=by rw[zA zqF rfl hp rfl];exact zg5
theorem zso:X.fn WJ=some GQ:=by kernel_rfl
theorem zf8 {u0 u1 u2 v0 v1 v2:AV}{h h1:aA}{P:lA}(hp:sA h [u0,u1,u2]=some ([v0,v1,v2],h1)):cA X WJ [u0,u1,u2] h P=ZK (cA X) X.gl v0 v1 v2 h1 [] (qA [.t 6] false h.length P):=by rw[zA zso rfl hp rfl];exact zke
theorem zsm:X.fn VJ=some EQ:=by kernel_rfl
theorem zf6 {u0 u1 u2 v0 v1 v2:AV}{h h1:aA}{P:lA}(hp:sA h [u0,u1,u2]=some ([v0,v1,v2],h1)):cA X VJ [u0,u1,u2] h P=lH (cA X) X.gl dU eU v0 v1 v2 h1 [] (qA [.t 6] false h.length P):=by rw[zA zsm rfl hp rfl];exact zjW
theorem zsn:X.fn uH=some FQ:=by kernel_rfl
theorem zf7 {u0 u1 u2 v0 v1 v2:AV}{h h1:aA}{P:lA}(hp:sA h [u0,u1,u2]=some ([v0,v1,v2],h1)):cA X uH [u0,u1,u2] h P=bS (cA X) X.gl uN fU v0 v1 v2 h1 [] (qA [] false h.length P):=by rw[zA zsn rfl hp rfl];exact zka
theorem zrW:X.fn EG=some PW:=by kernel_rfl
theorem zfq {u0 u1 u2 u3 u4 h P}:cA X EG [u0,u1,u2,u3,u4] h P=SR (cA X) X.gl kN u0 u1 u2 u3 u4 h [] (qA [] false h.length P):=by rw[NC zrW rfl rfl];exact zjk
theorem zqK:X.fn tH=some sQ:=by kernel_rfl
theorem zeh {u0 v0:AV}{h h1:aA}{P:lA}(hp:sA h [u0]=some ([v0],h1)):cA X tH [u0] h P=yX (cA X) X.gl v0 h1 [] (qA [.t 2] false h.length P):=by rw[zA zqK rfl hp rfl];exact zgC
theorem zrX:X.fn FG=some RW:=by kernel_rfl
theorem zfr {u0 u1 u2 u3 h P}:cA X FG [u0,u1,u2,u3] h P=TR (cA X) X.gl mN u0 u1 u2 u3 h [] (qA [] false h.length P):=by rw[NC zrX rfl rfl];exact zjp
theorem zrJ:X.fn TL=some CW:=by kernel_rfl
theorem zfe {u0 u1 h P}:cA X TL [u0,u1] h P=JR (cA X) X.gl aN TT u0 u1 h [] (qA [.t 4] false h.length P):=by rw[NC zrJ rfl rfl];exact ziB
theorem zsz:X.fn mM=some cX:=by kernel_rfl
theorem zfI {u0 u1 v0 v1:AV}{h h1:aA}{P:lA}(hp:sA h [u0,u1]=some ([v0,v1],h1)):cA X mM [u0,u1] h P=SY (cA X) X.gl v0 v1 h1 [] (qA [.t 4] false h.length P):=by rw[zA zsz rfl hp rfl];exact zk2
theorem zry:X.fn CI=some gW:=by kernel_rfl
theorem zeJ {u0 u1 u2 v0 v1 v2:AV}{h h1:aA}{P:lA}(hp:sA h [u0,u1,u2]=some ([v0,v1,v2],h1)):cA X CI [u0,u1,u2] h P=oO (cA X) X.gl MM DT v0 v1 v2 h1 [] (qA [.t 6] false h.length P):=by rw[zA zry rfl hp rfl];exact zhI
theorem zr3:X.fn IL=some mW:=by kernel_rfl
theorem zeO {u0 u1 v0 v1:AV}{h h1:aA}{P:lA}(hp:sA h [u0,u1]=some ([v0,v1],h1)):cA X IL [u0,u1] h P = ∃v h' x,P v h' x∧zR (cA X) X.gl QM JT v0 v1 h1 [] (qA [.t 4] false h.length fun v1 h1 x1=>v1=v∧h1=h'∧x1=x):=by rw[MK zr3 rfl hp rfl];exact jL fun v h' x=>congrArg (And (P v h' x)) zhW
theorem zr1:X.fn HL=some kW:=by kernel_rfl
theorem zeM {u0 u1 u2 u3 v0 v1 v2 v3:AV}{h h1:aA}{P:lA}(hp:sA h [u0,u1,u2,u3]=some ([v0,v1,v2,v3],h1)):cA X HL [u0,u1,u2,u3] h P=xR (cA X) X.gl OM v0 v1 v2 v3 h1 [] (qA [] false h.length P):=by rw[zA zr1 rfl hp rfl];exact zhQ
theorem zrz:X.fn EL=some iW:=by kernel_rfl
theorem zeK {u0 u1 u2 u3 v0 v1 v2 v3:AV}{h h1:aA}{P:lA}(hp:sA h [u0,u1,u2,u3]=some ([v0,v1,v2,v3],h1)):cA X EL [u0,u1,u2,u3] h P=EJ (cA X) X.gl ET FT v0 v1 v2 v3 h1 [] (qA [.cell 8 (some 5)] false h.length P):=by rw[zA zrz rfl hp rfl];exact zhL
theorem zr4:X.fn JL=some nW:=by kernel_rfl
theorem zeP {u0 u1 v0 v1:AV}{h h1:aA}{P:lA}(hp:sA h [u0,u1]=some ([v0,v1],h1)):cA X JL [u0,u1] h P=AR (cA X) X.gl RM v0 v1 h1 [] (qA [] false h.length P):=by rw[zA zr4 rfl hp rfl];exact zhZ
theorem zrS:X.fn ZL=some KW:=by kernel_rfl
theorem zfm {u0 u1 u2 u3 h P}:cA X ZL [u0,u1,u2,u3] h P=MR (cA X) X.gl fN u0 u1 u2 u3 h [] (qA [] false h.length P):=by rw[NC zrS rfl rfl];exact ziT
theorem zqQ:X.fn mL=some wV:=by kernel_rfl
theorem zen {u0 v0:AV}{h h1:aA}{P:lA}(hp:sA h [u0]=some ([v0],h1)):cA X mL [u0] h P=iR (cA X) X.gl oT v0 h1 [] (qA [.t 2] false h.length P):=by rw[zA zqQ rfl hp rfl];exact zgI
theorem zrT:X.fn CG=some LW:=by kernel_rfl
theorem zfn {u0 u1 u2 u3 h P}:cA X CG [u0,u1,u2,u3] h P=NR (cA X) X.gl gN u0 u1 u2 u3 h [] (qA [] false h.length P):=by rw[NC zrT rfl rfl];exact ziX
theorem zsl:X.fn UJ=some DQ:=by kernel_rfl
theorem zf5 {u0 u1 v0 v1:AV}{h h1:aA}{P:lA}(hp:sA h [u0,u1]=some ([v0,v1],h1)):cA X UJ [u0,u1] h P=LY (cA X) X.gl v0 v1 h1 [] (qA [.t 4] false h.length P):=by rw[zA zsl rfl hp rfl];exact zjV
theorem zrU:X.fn aM=some MW:=by kernel_rfl
theorem zfo {u0 u1 u2 h P}:cA X aM [u0,u1,u2] h P=OR (cA X) X.gl iN u0 u1 u2 h [] (qA [] false h.length P):=by rw[NC zrU rfl rfl];exact zjb
theorem zqI:X.fn UF=some rV:=by kernel_rfl
theorem zef {u0 u1 v0 v1:AV}{h h1:aA}{P:lA}(hp:sA h [u0,u1]=some ([v0,v1],h1)):cA X UF [u0,u1] h P=xX (cA X) X.gl v0 v1 h1 [] (qA [.t 4] false h.length P):=by rw[zA zqI rfl hp rfl];exact zg8
theorem zqN:X.fn kL=some tV:=by kernel_rfl
theorem zek {u0 u1 v0 v1:AV}{h h1:aA}{P:lA}(hp:sA h [u0,u1]=some ([v0,v1],h1)):cA X kL [u0,u1] h P=BX (cA X) X.gl v0 v1 h1 [] (qA [.t 4] false h.length P):=by rw[zA zqN rfl hp rfl];exact zgF
theorem zqL:X.fn xI=some sV:=by kernel_rfl
theorem zei {u0 v0:AV}{h h1:aA}{P:lA}(hp:sA h [u0]=some ([v0],h1)):cA X xI [u0] h P=zX (cA X) X.gl v0 h1 [] (qA [.t 2] false h.length P):=by rw[zA zqL rfl hp rfl];exact zgD
attribute [go_sem] TY lS mS GX TK BJ zgX zgY dL z4v KX CJ UY zha eL VY zhb zhc zhd zlQ z4w z4x uG DJ z4y LX z4z zjL zjM zmA z5D z5E zjE zjF zjG zjH zm8 zm9 z5A z5B
attribute [go_sem] z5C HY zgO zgP zlP z4s z4t zhA zhB zhC zlX z4D WX z4E zhq zhr zhs zht zhu zlS zlT z43 z45 z47 SX z48 zi6 zi7 zmk z5d z5e zi0 zi1 zmi z4Z z5a zi9 ziA zml z5f
attribute [go_sem] z5g zi3 zi4 zmj z5b z5c zio ziq zir zis zmf zmg z4U z4V z4W fY zko zkp zkq zmE z5P QY z5Q zkz zk0 zmG z5U z5V zg3 zg4 zlN z4n z4o zku z5R zkk zkl zmD z5N z5O
attribute [go_sem] zh4 XY zlW z4C tR zhw zhx zhy WY zlU zlV z49 z4A z4B sR zih zii zij zme z4S dY z4T zhU zhV zma z4L z4M ziw zix ziy zmh z4X iY z4Y zgV z4u zjv zjw zjx zjy
attribute [go_sem] zjz zj0 zm0 zm1 zm2 z5y z5z z50 BY CY DY zg0 zg1 zlM z4l z4m zjC ZY zm7 z59 WR zj9 zjA zm6 z56 z58 zjQ zjR zjS zmB z5F JY z5G zkg zkh zki z5L z5M OY zgA
attribute [go_sem] zgB zlO z4p z4q zh1 sE zie zif zmd z4Q z4R ziI ziJ zmo z5l z5m zhm zhn zho zlR z40 RX z42 YY zhP QF z4J zjg zjh zji zjj zmx z5v sY tY uY ziF ziG zmn z5j
attribute [go_sem] z5k zj2 zj3 zj4 zj5 zj6 zj7 zm3 zm4 zm5 z52 z54 z55 EY FY GY ziQ ziR ziS zmp zmq z5n z5o oY zkw zkx zmF z5S z5T zjX zjY zjZ z5H z5I MY zkb zkc zkd zmC z5J
attribute [go_sem] NY z5K zjl zjm zjn zjo zmy z5w vY wY xY zjq zjr zjs zjt zmz z5x yY zY AY ziC ziD zmm z5h z5i zhJ zhK zlY z4F z4G zhX zhY zmb z4N z4O zhR zhS zlZ z4K aY
attribute [go_sem] zhM zhN z4H z4I zia zib zmc z4P bY ziU ziV ziW zmr zms z5p z5q pY zgJ zgK zgL z4r EX FX ziY ziZ zja zmt zmu z5r z5s qY zjc zjd zje zmv zmw z5t z5u rY
end Go.Am
end
