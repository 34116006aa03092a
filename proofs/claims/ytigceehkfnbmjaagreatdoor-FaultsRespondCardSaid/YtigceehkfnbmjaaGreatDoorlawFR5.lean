/- Texts of the proof, laid together: CodesA, CodesB. -/
import Derived.KernelRfl
import Derived.Test.YtigceehkfnbmjaaGreatDoorlawFR4
set_option linter.all false
section
/- The functions asv abstract code,and asv formulas over their values: printed by program out of the translation. -/
set_option linter.unusedVariables false
set_option maxRecDepth 100000
namespace Go.Am
def p_q01x_k1 : ACode:=.pr [4,5,6,7,8,9,10,11,12,13,14,15,16,17,18,78,79,80] (rg [bN 90 .add 80 (cI 1),
mV 80 90] [4,5,6,7,8,9,10,11,12,13,14,15,16,17,18,78,79,80])
def d_q01x_k1 (C : Hd) (gl : GL) (v4 v5 v6 v7 v8 v9 v10 v11 v12 v13 v14 v15 v16 v17 v18 v78 v79 v80 : AV) (h : Heap) (x : Esc) (K : KT) : Prop:=
 pK (oBin .add v80 (AI 1)) fun t1=>
 K .normal ⟨[(4,v4),(5,v5),(6,v6),(7,v7),(8,v8),(9,v9),(10,v10),(11,v11),(12,v12),(13,v13),(14,v14),(15,v15),(16,v16),(17,v17),(18,v18),(78,v78),(79,v79),(80,t1)],h,x⟩
theorem e_q01x_k1 {C gl e h x K} : NW C gl p_q01x_k1 ⟨e,h,x⟩ K = d_q01x_k1 C gl (aget e 4) (aget e 5) (aget e 6) (aget e 7) (aget e 8) (aget e 9) (aget e 10) (aget e 11) (aget e 12) (aget e 13) (aget e 14) (aget e 15) (aget e 16) (aget e 17) (aget e 18) (aget e 78) (aget e 79) (aget e 80) h x K:=by kernel_rfl
def P_q01x_k2 (q1 : ACode) : ACode:=.pr [4,5,6,7,8,9,10,11,12,13,14,15,16,17,18,78,79,80] (.seq (rg [bN 81 .lss 80 79] [4,5,6,7,8,9,10,11,12,13,14,15,16,17,18,78,79,80,81])
(.seq (.cond 81 .skip
(.exit 0))
(.seq (.block 1 (.seq (rg [iA 82 (some 2) 78 80,
lD 83 (some 2) 82,
uO 20 (.alloc [.p (.int .i64 0),.sl0 none]),
wO (.store (some 2) 20 83)] [4,5,6,7,8,9,10,11,12,13,14,15,16,17,18,20,78,79,80])
(.seq (rg [mV 84 18,
bN 85 .eql 84 (cI 0)] [4,5,6,7,8,9,10,11,12,13,14,15,16,17,18,20,78,79,80,85])
(.cond 85 (rg [mV 86 4,
lN 87 86,
lD 88 (some 2) 20,
cL 89 f_q02e [87,88],
mV 18 89] [4,5,6,7,8,9,10,11,12,13,14,15,16,17,18,78,79,80])
.skip))))
q1)))
def p_q01x_k2 : ACode:=P_q01x_k2 p_q01x_k1
def d_q01x_k2 (C : Hd) (gl : GL) (q1 : ACode) (v4 v5 v6 v7 v8 v9 v10 v11 v12 v13 v14 v15 v16 v17 v18 v78 v79 v80 : AV) (h : Heap) (x : Esc) (K : KT) : Prop:=
 pK (oBin .lss v80 v79) fun t1=>
 condB t1 (pK (oIaddr (some 2) v78 v80 h) fun t2=>
 pK (oLoad (some 2) t2 h) fun t3=>
 alK [.p (.int .i64 0),.sl0 none] h fun t4 h5 y6=>
 wK (oStore (some 2) t4 t3 h5) fun t7 h8 y9=>
 pK (oBin .eql v18 (AI 0)) fun t10=>
 condB t10 (pK (oLen v4) fun t11=>
 pK (oLoad (some 2) t4 h8) fun t12=>
 C f_q02e [t11,t12] h8 fun t13 h14 y15=>
 NW C gl q1 ⟨[(4,v4),(5,v5),(6,v6),(7,v7),(8,v8),(9,v9),(10,v10),(11,v11),(12,v12),(13,v13),(14,v14),(15,v15),(16,v16),(17,v17),(18,t13),(78,v78),(79,v79),(80,v80)],h14,(y15 ++ (y9 ++ (y6 ++ x)))⟩ K)
 (NW C gl q1 ⟨[(4,v4),(5,v5),(6,v6),(7,v7),(8,v8),(9,v9),(10,v10),(11,v11),(12,v12),(13,v13),(14,v14),(15,v15),(16,v16),(17,v17),(18,v18),(20,t4),(78,v78),(79,v79),(80,v80),(85,t10)],h8,(y9 ++ (y6 ++ x))⟩ K))
 (K (.exit 0) ⟨[(4,v4),(5,v5),(6,v6),(7,v7),(8,v8),(9,v9),(10,v10),(11,v11),(12,v12),(13,v13),(14,v14),(15,v15),(16,v16),(17,v17),(18,v18),(78,v78),(79,v79),(80,v80),(81,t1)],h,x⟩)
theorem E_q01x_k2 {C gl q1 e h x K} : NW C gl (P_q01x_k2 q1) ⟨e,h,x⟩ K = d_q01x_k2 C gl q1 (aget e 4) (aget e 5) (aget e 6) (aget e 7) (aget e 8) (aget e 9) (aget e 10) (aget e 11) (aget e 12) (aget e 13) (aget e 14) (aget e 15) (aget e 16) (aget e 17) (aget e 18) (aget e 78) (aget e 79) (aget e 80) h x K:=by kernel_rfl
theorem e_q01x_k2 {C gl e h x K} : NW C gl p_q01x_k2 ⟨e,h,x⟩ K = d_q01x_k2 C gl p_q01x_k1 (aget e 4) (aget e 5) (aget e 6) (aget e 7) (aget e 8) (aget e 9) (aget e 10) (aget e 11) (aget e 12) (aget e 13) (aget e 14) (aget e 15) (aget e 16) (aget e 17) (aget e 18) (aget e 78) (aget e 79) (aget e 80) h x K:=E_q01x_k2
theorem l_q01x_k2 {C gl e h x K} : NW C gl (.loop (.scope p_q01x_k2)) ⟨e,h,x⟩ K = NLoop C gl (.scope p_q01x_k2) K [(4,aget e 4),(5,aget e 5),(6,aget e 6),(7,aget e 7),(8,aget e 8),(9,aget e 9),(10,aget e 10),(11,aget e 11),(12,aget e 12),(13,aget e 13),(14,aget e 14),(15,aget e 15),(16,aget e 16),(17,aget e 17),(18,aget e 18),(78,aget e 78),(79,aget e 79),(80,aget e 80)] h x:=NLoop_sc
def p_q01x_k3 : ACode:=.pr [4,5,6,8,9,10,11,12,13,14,15,16,17,18,21,22,23,24] (.seq (dr [dF (mV 107 4) [4],
dT (cL 108 f_q00w [107]) [107],
dF (mV 109 4) [4],
dT (cL 110 f_q02j [109]) [109],
dF (bN 111 .eql 108 110) [108,110],
dF (mV 112 111) [111],
dF (gD 113 112 true (.mv 5)) [5,112],
dF (gD 114 112 true (.load (some 2) 6)) [6,112],
dT (gD 115 112 true (.call f_q00v [113,114])) [113,114,112],
dF (gD 116 112 true (.mv 5)) [5,112],
dA (gD 117 112 true (.load (some 2) 6)) [6,112] false [8] [],
dT (gD 118 112 true (.call f_q02e [116,117])) [116,117,112],
dF (gD 119 112 true (.bin .eql 115 118)) [115,118,112],
dF (uO 120 (.pick 112 119 cF)) [112,119],
dF (mV 121 120) [120],
dF (gD 122 121 true (.mv 9)) [9,121],
dF (gD 123 121 true (.mv 17)) [17,121],
dF (gD 124 121 true (.bin .eql 122 123)) [122,123,121],
dF (uO 125 (.pick 121 124 cF)) [121,124],
dF (mV 126 125) [125],
dF (gD 127 126 true (.mv 8)) [8,126],
dF (gD 128 126 true (.mv 21)) [21,126],
dT (gD 129 126 true (.call f_q032 [127,128])) [127,128,126],
dF (uO 130 (.pick 126 129 cF)) [126,129],
dF (mV 131 130) [130],
dF (gD 132 131 true (.mv 11)) [11,131],
dF (gD 133 131 true (.mv 18)) [18,131],
dF (gD 134 131 true (.bin .eql 132 133)) [132,133,131],
dF (uO 135 (.pick 131 134 cF)) [131,134],
dF (mV 136 135) [135],
dF (gD 137 136 true (.mv 10)) [10,136],
dF (gD 138 136 true (.mv 22)) [22,136],
dT (gD 139 136 true (.call f_q032 [137,138])) [137,138,136],
dF (uO 140 (.pick 136 139 cF)) [136,139],
dF (mV 141 140) [140],
dF (gD 142 141 true (.mv 13)) [13,141],
dF (gD 143 141 true (.mv 17)) [17,141],
dF (gD 144 141 true (.bin .eql 142 143)) [142,143,141],
dF (uO 145 (.pick 141 144 cF)) [141,144],
dF (mV 146 145) [145],
dF (gD 147 146 true (.mv 12)) [12,146],
dF (gD 148 146 true (.mv 24)) [24,146],
dF (gD 149 146 true (.eqa [] false 147 148)) [147,148,146],
dF (uO 150 (.pick 146 149 cF)) [146,149],
dF (mV 151 150) [150],
dF (gD 152 151 true (.mv 16)) [16,151],
dF (gD 153 151 true (.mv 17)) [17,151],
dF (gD 154 151 true (.bin .eql 152 153)) [152,153,151],
dF (uO 155 (.pick 151 154 cF)) [151,154],
dF (mV 156 155) [155],
dF (gD 157 156 true (.mv 14)) [14,156],
dF (gD 158 156 true (.mv 23)) [23,156],
dF (gD 159 156 true (.bin .eql 157 158)) [157,158,156],
dF (uO 160 (.pick 156 159 cF)) [156,159],
dF (mV 161 160) [160],
dF (gD 162 161 true (.mv 15)) [15,161],
dF (gD 163 161 true (.mv 24)) [24,161],
dF (gD 164 161 true (.eqa [] false 162 163)) [162,163,161],
dF (uO 165 (.pick 161 164 cF)) [161,164],
dF (mV 166 165) [165],
dT (gD 167 166 true (.call f_q01y [])) [166],
dF (uO 168 (.pick 166 167 cF)) [166,167],
dF (mV 2 168) [168]] [2])
.ret)
def d_q01x_k3 (C : Hd) (gl : GL) (v4 v5 v6 v8 v9 v10 v11 v12 v13 v14 v15 v16 v17 v18 v21 v22 v23 v24 : AV) (h : Heap) (x : Esc) (K : KT) : Prop:=
 callE C f_q00w [v4] h fun t1 h2 y3=>
 callE C f_q02j [v4] h2 fun t4 h5 y6=>
 pK (oBin .eql t1 t4) fun t7=>
 gM t7 true v5 h5 fun t8 h9 y10=>
 gP t7 true (oLoad (some 2) v6 h9) h9 fun t11 h12 y13=>
 gV t7 true h12 (callE C f_q00v [t8,t11] h12) fun t14 h15 y16=>
 gM t7 true v5 h15 fun t17 h18 y19=>
 gP t7 true (oLoad (some 2) v6 h18) h18 fun t20 h21 y22=>
 (gV t7 true h12 (fun kk=>pK (oLoad (some 2) v6 h12) fun v=>(kk) v h12 []) (fun u (g1 : Heap) (y1 : Esc)=>u = t20 ∧ g1 = h12 ∧ y1 = [])) ∧ (gV t7 true h21 (callE C f_q02e [t17,t20] h21) fun t23 h24 y25=>
 gP t7 true (oBin .eql t14 t23) h24 fun t26 h27 y28=>
 pK (oPick t7 t26 (AB false)) fun t29=>
 gM t29 true v9 h27 fun t30 h31 y32=>
 gM t29 true v17 h31 fun t33 h34 y35=>
 gP t29 true (oBin .eql t30 t33) h34 fun t36 h37 y38=>
 pK (oPick t29 t36 (AB false)) fun t39=>
 gM t39 true v8 h37 fun t40 h41 y42=>
 gM t39 true v21 h41 fun t43 h44 y45=>
 gV t39 true h44 (callE C f_q032 [t40,t43] h44) fun t46 h47 y48=>
 pK (oPick t39 t46 (AB false)) fun t49=>
 gM t49 true v11 h47 fun t50 h51 y52=>
 gM t49 true v18 h51 fun t53 h54 y55=>
 gP t49 true (oBin .eql t50 t53) h54 fun t56 h57 y58=>
 pK (oPick t49 t56 (AB false)) fun t59=>
 gM t59 true v10 h57 fun t60 h61 y62=>
 gM t59 true v22 h61 fun t63 h64 y65=>
 gV t59 true h64 (callE C f_q032 [t60,t63] h64) fun t66 h67 y68=>
 pK (oPick t59 t66 (AB false)) fun t69=>
 gM t69 true v13 h67 fun t70 h71 y72=>
 gM t69 true v17 h71 fun t73 h74 y75=>
 gP t69 true (oBin .eql t70 t73) h74 fun t76 h77 y78=>
 pK (oPick t69 t76 (AB false)) fun t79=>
 gM t79 true v12 h77 fun t80 h81 y82=>
 gM t79 true v24 h81 fun t83 h84 y85=>
 gP t79 true (oEqa [] false t80 t83) h84 fun t86 h87 y88=>
 pK (oPick t79 t86 (AB false)) fun t89=>
 gM t89 true v16 h87 fun t90 h91 y92=>
 gM t89 true v17 h91 fun t93 h94 y95=>
 gP t89 true (oBin .eql t90 t93) h94 fun t96 h97 y98=>
 pK (oPick t89 t96 (AB false)) fun t99=>
 gM t99 true v14 h97 fun t100 h101 y102=>
 gM t99 true v23 h101 fun t103 h104 y105=>
 gP t99 true (oBin .eql t100 t103) h104 fun t106 h107 y108=>
 pK (oPick t99 t106 (AB false)) fun t109=>
 gM t109 true v15 h107 fun t110 h111 y112=>
 gM t109 true v24 h111 fun t113 h114 y115=>
 gP t109 true (oEqa [] false t110 t113) h114 fun t116 h117 y118=>
 pK (oPick t109 t116 (AB false)) fun t119=>
 gV t119 true h117 (callE C f_q01y [] h117) fun t120 h121 y122=>
 pK (oPick t119 t120 (AB false)) fun t123=>
 K .ret ⟨[(2,t123)],h121,(y122 ++ (y118 ++ (y115 ++ (y112 ++ (y108 ++ (y105 ++ (y102 ++ (y98 ++ (y95 ++ (y92 ++ (y88 ++ (y85 ++ (y82 ++ (y78 ++ (y75 ++ (y72 ++ (y68 ++ (y65 ++ (y62 ++ (y58 ++ (y55 ++ (y52 ++ (y48 ++ (y45 ++ (y42 ++ (y38 ++ (y35 ++ (y32 ++ (y28 ++ (y25 ++ (y22 ++ (y19 ++ (y16 ++ (y13 ++ (y10 ++ (y6 ++ (y3 ++ x)))))))))))))))))))))))))))))))))))))⟩)
theorem e_q01x_k3 {C gl e h x K} : NW C gl p_q01x_k3 ⟨e,h,x⟩ K = d_q01x_k3 C gl (aget e 4) (aget e 5) (aget e 6) (aget e 8) (aget e 9) (aget e 10) (aget e 11) (aget e 12) (aget e 13) (aget e 14) (aget e 15) (aget e 16) (aget e 17) (aget e 18) (aget e 21) (aget e 22) (aget e 23) (aget e 24) h x K:=by kernel_rfl
def P_q01x_k4 (q3 : ACode) : ACode:=.pr [4,5,6,7,8,9,10,11,12,13,14,15,16,17,18,21,22,23,24] (.seq (.seq (rg [mV 102 18,
bN 103 .eql 102 (cI 0)] [4,5,6,7,8,9,10,11,12,13,14,15,16,17,18,21,22,23,24,103])
(.cond 103 (rg [mV 104 4,
mV 105 7,
cL 106 f_q02d [104,105],
mV 22 106] [4,5,6,8,9,10,11,12,13,14,15,16,17,18,21,22,23,24])
.skip))
q3)
def p_q01x_k4 : ACode:=P_q01x_k4 p_q01x_k3
def d_q01x_k4 (C : Hd) (gl : GL) (q3 : ACode) (v4 v5 v6 v7 v8 v9 v10 v11 v12 v13 v14 v15 v16 v17 v18 v21 v22 v23 v24 : AV) (h : Heap) (x : Esc) (K : KT) : Prop:=
 pK (oBin .eql v18 (AI 0)) fun t1=>
 condB t1 (C f_q02d [v4,v7] h fun t2 h3 y4=>
 NW C gl q3 ⟨[(4,v4),(5,v5),(6,v6),(8,v8),(9,v9),(10,v10),(11,v11),(12,v12),(13,v13),(14,v14),(15,v15),(16,v16),(17,v17),(18,v18),(21,v21),(22,t2),(23,v23),(24,v24)],h3,(y4 ++ x)⟩ K)
 (NW C gl q3 ⟨[(4,v4),(5,v5),(6,v6),(7,v7),(8,v8),(9,v9),(10,v10),(11,v11),(12,v12),(13,v13),(14,v14),(15,v15),(16,v16),(17,v17),(18,v18),(21,v21),(22,v22),(23,v23),(24,v24),(103,t1)],h,x⟩ K)
theorem E_q01x_k4 {C gl q3 e h x K} : NW C gl (P_q01x_k4 q3) ⟨e,h,x⟩ K = d_q01x_k4 C gl q3 (aget e 4) (aget e 5) (aget e 6) (aget e 7) (aget e 8) (aget e 9) (aget e 10) (aget e 11) (aget e 12) (aget e 13) (aget e 14) (aget e 15) (aget e 16) (aget e 17) (aget e 18) (aget e 21) (aget e 22) (aget e 23) (aget e 24) h x K:=by kernel_rfl
theorem e_q01x_k4 {C gl e h x K} : NW C gl p_q01x_k4 ⟨e,h,x⟩ K = d_q01x_k4 C gl p_q01x_k3 (aget e 4) (aget e 5) (aget e 6) (aget e 7) (aget e 8) (aget e 9) (aget e 10) (aget e 11) (aget e 12) (aget e 13) (aget e 14) (aget e 15) (aget e 16) (aget e 17) (aget e 18) (aget e 21) (aget e 22) (aget e 23) (aget e 24) h x K:=E_q01x_k4
def P_q01x_k5 (q4 : ACode) : ACode:=.pr [4,5,6,7,8,9,10,11,12,13,14,15,16,17,18] (.seq (rg [mV 21 (.c (.p (.sl none []))),
mV 22 (.c (.p (.sl none [])))] [4,5,6,7,8,9,10,11,12,13,14,15,16,17,18,21,22])
(.seq (rg [mV 23 (cI 0),
mV 24 cF] [4,5,6,7,8,9,10,11,12,13,14,15,16,17,18,21,22,23,24])
(.seq (.seq (rg [mV 91 17,
bN 92 .eql 91 (cI 0)] [4,5,6,7,8,9,10,11,12,13,14,15,16,17,18,21,22,23,24,92])
(.cond 92 (.seq (rg [mV 93 4,
lD 94 (some 2) 6,
cL 95 f_q02i [93,94],
mV 21 95] [4,5,6,7,8,9,10,11,12,13,14,15,16,17,18,21,22])
(rg [mV 97 4,
lD 98 (some 2) 6,
cL 99 f_q02h [97,98],
mV 96 99,
eX 100 96 0,
eX 101 96 1,
mV 23 100,
mV 24 101] [4,5,6,7,8,9,10,11,12,13,14,15,16,17,18,21,22,23,24]))
.skip))
q4)))
def p_q01x_k5 : ACode:=P_q01x_k5 p_q01x_k4
def d_q01x_k5 (C : Hd) (gl : GL) (q4 : ACode) (v4 v5 v6 v7 v8 v9 v10 v11 v12 v13 v14 v15 v16 v17 v18 : AV) (h : Heap) (x : Esc) (K : KT) : Prop:=
 pK (oBin .eql v17 (AI 0)) fun t1=>
 condB t1 (pK (oLoad (some 2) v6 h) fun t2=>
 C f_q02i [v4,t2] h fun t3 h4 y5=>
 pK (oLoad (some 2) v6 h4) fun t6=>
 C f_q02h [v4,t6] h4 fun t7 h8 y9=>
 pK (oExt t7 0) fun t10=>
 pK (oExt t7 1) fun t11=>
 NW C gl q4 ⟨[(4,v4),(5,v5),(6,v6),(7,v7),(8,v8),(9,v9),(10,v10),(11,v11),(12,v12),(13,v13),(14,v14),(15,v15),(16,v16),(17,v17),(18,v18),(21,t3),(22,(.p (.sl none []))),(23,t10),(24,t11)],h8,(y9 ++ (y5 ++ x))⟩ K)
 (NW C gl q4 ⟨[(4,v4),(5,v5),(6,v6),(7,v7),(8,v8),(9,v9),(10,v10),(11,v11),(12,v12),(13,v13),(14,v14),(15,v15),(16,v16),(17,v17),(18,v18),(21,(.p (.sl none []))),(22,(.p (.sl none []))),(23,(AI 0)),(24,(AB false)),(92,t1)],h,x⟩ K)
theorem E_q01x_k5 {C gl q4 e h x K} : NW C gl (P_q01x_k5 q4) ⟨e,h,x⟩ K = d_q01x_k5 C gl q4 (aget e 4) (aget e 5) (aget e 6) (aget e 7) (aget e 8) (aget e 9) (aget e 10) (aget e 11) (aget e 12) (aget e 13) (aget e 14) (aget e 15) (aget e 16) (aget e 17) (aget e 18) h x K:=by kernel_rfl
theorem e_q01x_k5 {C gl e h x K} : NW C gl p_q01x_k5 ⟨e,h,x⟩ K = d_q01x_k5 C gl p_q01x_k4 (aget e 4) (aget e 5) (aget e 6) (aget e 7) (aget e 8) (aget e 9) (aget e 10) (aget e 11) (aget e 12) (aget e 13) (aget e 14) (aget e 15) (aget e 16) (aget e 17) (aget e 18) h x K:=E_q01x_k5
def P_q01x (q2 q5 : ACode) : ACode:=(.seq (rg [mV 2 cF] [0])
(.seq (rg [mV 25 0,
uO 26 (.build [.sl0 none,.p (.int .i64 0)] [(0,1,25)]),
uO 27 (.box 26),
mV 3 27] [3])
(.seq (rg [mV 28 3,
cL 29 f_q022 [28],
mV 4 29] [3,4])
(.seq (rg [mV 30 3,
mV 31 4,
lN 32 31,
mV 33 4,
lN 34 33,
mV 35 4,
lN 36 35,
uO 37 (.bsl false none 7 (.int .i64 0) [(0,32),(1,34),(2,36),(3,(cI 3)),(4,(cI 0)),(5,(cI 100)),(6,(cI 101))]),
cL 38 f_q028 [30,37],
mV 5 38] [3,4,5])
(.seq (rg [mV 39 3,
mV 40 4,
lN 41 40,
cL 42 f_q021 [39,41],
mV 43 3,
mV 44 4,
lN 45 44,
cL 46 f_q023 [43,45],
uO 6 (.alloc [.p (.int .i64 0),.sl0 none]),
wO (.store (some 2) 6 42),
mV 7 46] [4,5,6,7])
(.seq (rg [mV 48 4,
lD 49 (some 2) 6,
cL 50 f_q010 [48,49],
mV 47 50,
eX 51 47 0,
eX 52 47 1,
mV 8 51,
mV 9 52] [4,5,6,7,8,9])
(.seq (rg [mV 54 4,
mV 55 7,
cL 56 f_q00x [54,55],
mV 53 56,
eX 57 53 0,
eX 58 53 1,
mV 10 57,
mV 11 58] [4,5,6,7,8,9,10,11])
(.seq (rg [mV 60 4,
lD 61 (some 2) 6,
cL 62 f_q00y [60,61],
mV 59 62,
eX 63 59 0,
eX 64 59 1,
mV 12 63,
mV 13 64] [4,5,6,7,8,9,10,11,12,13])
(.seq (rg [mV 66 4,
lD 67 (some 2) 6,
cL 68 f_q00z [66,67],
mV 65 68,
eX 69 65 0,
eX 70 65 1,
eX 71 65 2,
mV 14 69,
mV 15 70,
mV 16 71] [4,5,6,7,8,9,10,11,12,13,14,15,16])
(.seq (rg [mV 72 4,
lD 73 (some 2) 6,
uO 74 (.bsl false (some 2) 1 (.agg [.int .i64 0,.sl none []]) [(0,73)]),
cL 75 f_q01z [72,74],
mV 17 75] [4,5,6,7,8,9,10,11,12,13,14,15,16,17])
(.seq (rg [mV 76 4,
cL 77 f_q02j [76],
mV 18 77] [4,5,6,7,8,9,10,11,12,13,14,15,16,17,18])
(.seq (.seq (rg [mV 78 7,
lN 79 78,
mV 80 (cI 0)] [4,5,6,7,8,9,10,11,12,13,14,15,16,17,18,78,79,80])
(.block 0 (.loop (.scope q2))))
q5))))))))))))
def a_q01x : AFun:=⟨1,[.t 2],P_q01x p_q01x_k2 p_q01x_k5,false,false⟩
def d_q01x (C : Hd) (gl : GL) (q2 q5 : ACode) (v0 : AV) (h : Heap) (x : Esc) (K : KT) : Prop:=
 pK (oBuild [.sl0 none,.p (.int .i64 0)] [(0,1,v0)]) fun t1=>
 wK (oBox t1 h) fun t2 h3 y4=>
 C f_q022 [t2] h3 fun t5 h6 y7=>
 pK (oLen t5) fun t8=>
 pK (oLen t5) fun t9=>
 pK (oLen t5) fun t10=>
 wK (oBsl false none 7 (.int .i64 0) [(0,t8),(1,t9),(2,t10),(3,(AI 3)),(4,(AI 0)),(5,(AI 100)),(6,(AI 101))] h6) fun t11 h12 y13=>
 C f_q028 [t2,t11] h12 fun t14 h15 y16=>
 pK (oLen t5) fun t17=>
 C f_q021 [t2,t17] h15 fun t18 h19 y20=>
 pK (oLen t5) fun t21=>
 C f_q023 [t2,t21] h19 fun t22 h23 y24=>
 alK [.p (.int .i64 0),.sl0 none] h23 fun t25 h26 y27=>
 wK (oStore (some 2) t25 t18 h26) fun t28 h29 y30=>
 pK (oLoad (some 2) t25 h29) fun t31=>
 C f_q010 [t5,t31] h29 fun t32 h33 y34=>
 pK (oExt t32 0) fun t35=>
 pK (oExt t32 1) fun t36=>
 C f_q00x [t5,t22] h33 fun t37 h38 y39=>
 pK (oExt t37 0) fun t40=>
 pK (oExt t37 1) fun t41=>
 pK (oLoad (some 2) t25 h38) fun t42=>
 C f_q00y [t5,t42] h38 fun t43 h44 y45=>
 pK (oExt t43 0) fun t46=>
 pK (oExt t43 1) fun t47=>
 pK (oLoad (some 2) t25 h44) fun t48=>
 C f_q00z [t5,t48] h44 fun t49 h50 y51=>
 pK (oExt t49 0) fun t52=>
 pK (oExt t49 1) fun t53=>
 pK (oExt t49 2) fun t54=>
 pK (oLoad (some 2) t25 h50) fun t55=>
 wK (oBsl false (some 2) 1 (.agg [.int .i64 0,.sl none []]) [(0,t55)] h50) fun t56 h57 y58=>
 C f_q01z [t5,t56] h57 fun t59 h60 y61=>
 C f_q02j [t5] h60 fun t62 h63 y64=>
 pK (oLen t22) fun t65=>
 NW C gl (.loop (.scope q2)) ⟨[(4,t5),(5,t14),(6,t25),(7,t22),(8,t35),(9,t36),(10,t40),(11,t41),(12,t46),(13,t47),(14,t52),(15,t53),(16,t54),(17,t59),(18,t62),(78,t22),(79,t65),(80,(AI 0))],h63,(y64 ++ (y61 ++ (y58 ++ (y51 ++ (y45 ++ (y39 ++ (y34 ++ (y30 ++ (y27 ++ (y24 ++ (y20 ++ (y16 ++ (y13 ++ (y7 ++ (y4 ++ x)))))))))))))))⟩ (blockN 0 (seqN C gl q5 K))
theorem E_q01x {C gl q2 q5 v0 h x K} : NW C gl (P_q01x q2 q5) ⟨enter [v0],h,x⟩ K = d_q01x C gl q2 q5 v0 h x K:=by kernel_rfl
theorem e_q01x {C gl v0 h x K} : NW C gl a_q01x.body ⟨enter [v0],h,x⟩ K = d_q01x C gl p_q01x_k2 p_q01x_k5 v0 h x K:=E_q01x
def p_q022_k1 : ACode:=.pr [0,3,4,5,11,12,14,15] (.seq (rg [bN 16 .lss 15 14] [0,3,4,5,11,12,14,15,16])
(.seq (.cond 16 .skip
(.exit 2))
(.seq (.block 3 (rg [mV 17 5,
mV 18 0,
uO 19 (.bsl false none 2 (.str []) [(0,(cS [48])),(1,(cS [49]))]),
cL 20 f_q02b [18,19],
bN 21 .add 17 20,
mV 5 21] [0,3,4,5,11,12,14,15]))
(rg [bN 22 .add 15 (cI 1),
mV 15 22] [0,3,4,5,11,12,14,15]))))
def d_q022_k1 (C : Hd) (gl : GL) (v0 v3 v4 v5 v11 v12 v14 v15 : AV) (h : Heap) (x : Esc) (K : KT) : Prop:=
 pK (oBin .lss v15 v14) fun t1=>
 condB t1 (wK (oBsl false none 2 (.str []) [(0,(.p (.str [48]))),(1,(.p (.str [49])))] h) fun t2 h3 y4=>
 C f_q02b [v0,t2] h3 fun t5 h6 y7=>
 pK (oBin .add v5 t5) fun t8=>
 pK (oBin .add v15 (AI 1)) fun t9=>
 K .normal ⟨[(0,v0),(3,v3),(4,v4),(5,t8),(11,v11),(12,v12),(14,v14),(15,t9)],h6,(y7 ++ (y4 ++ x))⟩)
 (K (.exit 2) ⟨[(0,v0),(3,v3),(4,v4),(5,v5),(11,v11),(12,v12),(14,v14),(15,v15),(16,t1)],h,x⟩)
theorem e_q022_k1 {C gl e h x K} : NW C gl p_q022_k1 ⟨e,h,x⟩ K = d_q022_k1 C gl (aget e 0) (aget e 3) (aget e 4) (aget e 5) (aget e 11) (aget e 12) (aget e 14) (aget e 15) h x K:=by kernel_rfl
theorem l_q022_k1 {C gl e h x K} : NW C gl (.loop p_q022_k1) ⟨e,h,x⟩ K = NLoop C gl p_q022_k1 K [(0,aget e 0),(3,aget e 3),(4,aget e 4),(5,aget e 5),(11,aget e 11),(12,aget e 12),(14,aget e 14),(15,aget e 15)] h x:=NLoop_pr
def p_q022_k2 : ACode:=.pr [0,3,4,5,11,12] (rg [mV 23 3,
mV 24 5,
uO 25 (.bsl false none 1 (.str []) [(0,24)]),
uO 26 (.app none 23 25),
mV 3 26] [0,3,4,11,12])
def d_q022_k2 (C : Hd) (gl : GL) (v0 v3 v4 v5 v11 v12 : AV) (h : Heap) (x : Esc) (K : KT) : Prop:=
 wK (oBsl false none 1 (.str []) [(0,v5)] h) fun t1 h2 y3=>
 wK (oApp none v3 t1 h2) fun t4 h5 y6=>
 K .normal ⟨[(0,v0),(3,t4),(4,v4),(11,v11),(12,v12)],h5,(y6 ++ (y3 ++ x))⟩
theorem e_q022_k2 {C gl e h x K} : NW C gl p_q022_k2 ⟨e,h,x⟩ K = d_q022_k2 C gl (aget e 0) (aget e 3) (aget e 4) (aget e 5) (aget e 11) (aget e 12) h x K:=by kernel_rfl
def p_q022_k3 : ACode:=.pr [0,3,4,11,12] (rg [bN 27 .add 12 (cI 1),
mV 12 27] [0,3,4,11,12])
def d_q022_k3 (C : Hd) (gl : GL) (v0 v3 v4 v11 v12 : AV) (h : Heap) (x : Esc) (K : KT) : Prop:=
 pK (oBin .add v12 (AI 1)) fun t1=>
 K .normal ⟨[(0,v0),(3,v3),(4,v4),(11,v11),(12,t1)],h,x⟩
theorem e_q022_k3 {C gl e h x K} : NW C gl p_q022_k3 ⟨e,h,x⟩ K = d_q022_k3 C gl (aget e 0) (aget e 3) (aget e 4) (aget e 11) (aget e 12) h x K:=by kernel_rfl
def P_q022_k4 (q1 q2 q3 : ACode) : ACode:=.pr [0,3,4,11,12] (.seq (rg [bN 13 .lss 12 11] [0,3,4,11,12,13])
(.seq (.cond 13 .skip
(.exit 0))
(.seq (.block 1 (.seq (rg [mV 5 (cS [])] [0,3,4,5,11,12])
(.seq (.seq (rg [mV 14 4,
mV 15 (cI 0)] [0,3,4,5,11,12,14,15])
(.block 2 (.loop q1)))
q2)))
q3)))
def p_q022_k4 : ACode:=P_q022_k4 p_q022_k1 p_q022_k2 p_q022_k3
def d_q022_k4 (C : Hd) (gl : GL) (q1 q2 q3 : ACode) (v0 v3 v4 v11 v12 : AV) (h : Heap) (x : Esc) (K : KT) : Prop:=
 pK (oBin .lss v12 v11) fun t1=>
 condB t1 (NW C gl (.loop q1) ⟨[(0,v0),(3,v3),(4,v4),(5,(.p (.str []))),(11,v11),(12,v12),(14,v4),(15,(AI 0))],h,x⟩ (blockN 2 (seqN C gl q2 (blockN 1 (seqN C gl q3 K)))))
 (K (.exit 0) ⟨[(0,v0),(3,v3),(4,v4),(11,v11),(12,v12),(13,t1)],h,x⟩)
theorem E_q022_k4 {C gl q1 q2 q3 e h x K} : NW C gl (P_q022_k4 q1 q2 q3) ⟨e,h,x⟩ K = d_q022_k4 C gl q1 q2 q3 (aget e 0) (aget e 3) (aget e 4) (aget e 11) (aget e 12) h x K:=by kernel_rfl
theorem e_q022_k4 {C gl e h x K} : NW C gl p_q022_k4 ⟨e,h,x⟩ K = d_q022_k4 C gl p_q022_k1 p_q022_k2 p_q022_k3 (aget e 0) (aget e 3) (aget e 4) (aget e 11) (aget e 12) h x K:=E_q022_k4
theorem l_q022_k4 {C gl e h x K} : NW C gl (.loop (.scope p_q022_k4)) ⟨e,h,x⟩ K = NLoop C gl (.scope p_q022_k4) K [(0,aget e 0),(3,aget e 3),(4,aget e 4),(11,aget e 11),(12,aget e 12)] h x:=NLoop_sc
def p_q022_k5 : ACode:=.pr [0,3,50,51] (.seq (rg [bN 52 .lss 51 50] [0,3,50,51,52])
(.seq (.cond 52 .skip
(.exit 5))
(.seq (.block 6 (.seq (rg [mV 53 51,
mV 6 53] [0,3,6,50,51])
(rg [mV 54 3,
mV 55 6,
mV 56 0,
uO 57 (.bsl false none 3 (.str []) [(0,(cS [48])),(1,(cS [49])),(2,(cS [48,49]))]),
cL 58 f_q02b [56,57],
mV 59 0,
cL 60 f_q029 [59,(cI 0),(cI 1)],
bN 61 .add (cI 32) 60,
cL 62 f_q04f [58,61],
mV 63 0,
cL 64 f_q029 [63,(cI 0),(cI 32)],
cL 65 f_q04f [(cS [49]),64],
bN 66 .add 62 65,
iA 67 none 54 55,
wO (.store none 67 66)] [0,3,50,51])))
(rg [bN 68 .add 51 (cI 1),
mV 51 68] [0,3,50,51]))))
def d_q022_k5 (C : Hd) (gl : GL) (v0 v3 v50 v51 : AV) (h : Heap) (x : Esc) (K : KT) : Prop:=
 pK (oBin .lss v51 v50) fun t1=>
 condB t1 (wK (oBsl false none 3 (.str []) [(0,(.p (.str [48]))),(1,(.p (.str [49]))),(2,(.p (.str [48,49])))] h) fun t2 h3 y4=>
 C f_q02b [v0,t2] h3 fun t5 h6 y7=>
 C f_q029 [v0,(AI 0),(AI 1)] h6 fun t8 h9 y10=>
 pK (oBin .add (AI 32) t8) fun t11=>
 C f_q04f [t5,t11] h9 fun t12 h13 y14=>
 C f_q029 [v0,(AI 0),(AI 32)] h13 fun t15 h16 y17=>
 C f_q04f [(.p (.str [49])),t15] h16 fun t18 h19 y20=>
 pK (oBin .add t12 t18) fun t21=>
 pK (oIaddr none v3 v51 h19) fun t22=>
 wK (oStore none t22 t21 h19) fun t23 h24 y25=>
 pK (oBin .add v51 (AI 1)) fun t26=>
 K .normal ⟨[(0,v0),(3,v3),(50,v50),(51,t26)],h24,(y25 ++ (y20 ++ (y17 ++ (y14 ++ (y10 ++ (y7 ++ (y4 ++ x)))))))⟩)
 (K (.exit 5) ⟨[(0,v0),(3,v3),(50,v50),(51,v51),(52,t1)],h,x⟩)
theorem e_q022_k5 {C gl e h x K} : NW C gl p_q022_k5 ⟨e,h,x⟩ K = d_q022_k5 C gl (aget e 0) (aget e 3) (aget e 50) (aget e 51) h x K:=by kernel_rfl
theorem l_q022_k5 {C gl e h x K} : NW C gl (.loop p_q022_k5) ⟨e,h,x⟩ K = NLoop C gl p_q022_k5 K [(0,aget e 0),(3,aget e 3),(50,aget e 50),(51,aget e 51)] h x:=NLoop_pr
def p_q022_k6 : ACode:=.pr [3] (.seq (rg [mV 69 3,
mV 2 69] [2])
.ret)
def d_q022_k6 (C : Hd) (gl : GL) (v3 : AV) (h : Heap) (x : Esc) (K : KT) : Prop:=
 K .ret ⟨[(2,v3)],h,x⟩
theorem e_q022_k6 {C gl e h x K} : NW C gl p_q022_k6 ⟨e,h,x⟩ K = d_q022_k6 C gl (aget e 3) h x K:=by kernel_rfl
def P_q022_k7 (q5 q6 : ACode) : ACode:=.pr [0,3] (.seq (.block 4 (.seq (rg [mV 29 0,
cL 30 f_q024 [29,(cI 20)],
mV 28 30] [0,3,28])
(.cond 28 (dr [dF (mV 31 3) [3],
dF (mV 32 0) [0],
dF (mV 33 3) [3],
dF (lN 34 33) [33],
dT (cL 35 f_q025 [32,34]) [32,34],
dF (iA 36 none 31 35) [31,35],
dF (lD 37 none 36) [36],
dF (mV 38 0) [0],
dA (uO 39 (.bsl false none 2 (.str []) [(0,(cS [48])),(1,(cS [120]))])) [] false [4] [],
dA (cL 40 f_q02b [38,39]) [38,39] true [] [5,6],
dF (bN 41 .add 37 40) [37,40],
dF (iA 42 none 31 35) [31,35],
dT (wO (.store none 42 41)) [42,41]] [3])
(.seq (rg [mV 44 0,
cL 45 f_q024 [44,(cI 40)],
mV 43 45] [0,3,43])
(.cond 43 (.seq (rg [mV 2 (.c (.p (.sl none [])))] [2])
.ret)
(.seq (rg [mV 47 0,
cL 48 f_q024 [47,(cI 40)],
mV 46 48] [0,3,46])
(.cond 46 (.seq (rg [mV 49 3,
lN 50 49,
mV 51 (cI 0)] [0,3,50,51])
(.block 5 (.loop q5)))
.skip)))))))
q6)
def p_q022_k7 : ACode:=P_q022_k7 p_q022_k5 p_q022_k6
def d_q022_k7 (C : Hd) (gl : GL) (q5 q6 : ACode) (v0 v3 : AV) (h : Heap) (x : Esc) (K : KT) : Prop:=
 C f_q024 [v0,(AI 20)] h fun t1 h2 y3=>
 condB t1 (pK (oLen v3) fun t4=>
 callE C f_q025 [v0,t4] h2 fun t5 h6 y7=>
 pK (oIaddr none v3 t5 h6) fun t8=>
 pK (oLoad none t8 h6) fun t9=>
 wK (oBsl false none 2 (.str []) [(0,(.p (.str [48]))),(1,(.p (.str [120])))] h6) fun t10 h11 y12=>
 (h11 = h6 ∧ y12 = []) ∧ ((wK (oBsl false none 2 (.str []) [(0,(.p (.str [48]))),(1,(.p (.str [120])))] h2) (fun u (g1 : Heap) (y1 : Esc)=>u = t10 ∧ g1 = h2 ∧ y1 = [])) ∧ (callE C f_q02b [v0,t10] h11 fun t13 h14 y15=>
 (pK (oIaddr none v3 t5 h14) fun v=>(fun u (g1 : Heap) (y1 : Esc)=>u = t8 ∧ g1 = h14 ∧ y1 = []) v h14 []) ∧ ((pK (oLoad none t8 h14) fun v=>(fun u (g1 : Heap) (y1 : Esc)=>u = t9 ∧ g1 = h14 ∧ y1 = []) v h14 []) ∧ (pK (oBin .add t9 t13) fun t16=>
 pK (oIaddr none v3 t5 h14) fun t17=>
 wK (oStore none t17 t16 h14) fun t18 h19 y20=>
 NW C gl q6 ⟨[(3,v3)],h19,(y20 ++ (y15 ++ (y12 ++ (y7 ++ (y3 ++ x)))))⟩ K)))))
 (C f_q024 [v0,(AI 40)] h2 fun t21 h22 y23=>
 condB t21 (K .ret ⟨[(2,(.p (.sl none [])))],h22,(y23 ++ (y3 ++ x))⟩)
 (C f_q024 [v0,(AI 40)] h22 fun t24 h25 y26=>
 condB t24 (pK (oLen v3) fun t27=>
 NW C gl (.loop q5) ⟨[(0,v0),(3,v3),(50,t27),(51,(AI 0))],h25,(y26 ++ (y23 ++ (y3 ++ x)))⟩ (blockN 5 (blockN 4 (seqN C gl q6 K))))
 (NW C gl q6 ⟨[(0,v0),(3,v3),(46,t24)],h25,(y26 ++ (y23 ++ (y3 ++ x)))⟩ K)))
theorem E_q022_k7 {C gl q5 q6 e h x K} : NW C gl (P_q022_k7 q5 q6) ⟨e,h,x⟩ K = d_q022_k7 C gl q5 q6 (aget e 0) (aget e 3) h x K:=by kernel_rfl
theorem e_q022_k7 {C gl e h x K} : NW C gl p_q022_k7 ⟨e,h,x⟩ K = d_q022_k7 C gl p_q022_k5 p_q022_k6 (aget e 0) (aget e 3) h x K:=E_q022_k7
def P_q022 (q4 q7 : ACode) : ACode:=(.seq (rg [mV 2 (.c (.p (.sl none [])))] [0])
(.seq (rg [uO 3 (.new0 none)] [0,3])
(.seq (rg [mV 7 0,
uO 8 (.bsl false none 6 (.int .i64 0) [(0,(cI 0)),(1,(cI 1)),(2,(cI 2)),(3,(cI 3)),(4,(cI 4)),(5,(cI 5))]),
cL 9 f_q028 [7,8],
mV 4 9] [0,3,4])
(.seq (.seq (rg [mV 10 0,
cL 11 f_q029 [10,(cI 1),(cI 5)],
mV 12 (cI 0)] [0,3,4,11,12])
(.block 0 (.loop (.scope q4))))
q7))))
def a_q022 : AFun:=⟨1,[.t 2],P_q022 p_q022_k4 p_q022_k7,false,false⟩
def d_q022 (C : Hd) (gl : GL) (q4 q7 : ACode) (v0 : AV) (h : Heap) (x : Esc) (K : KT) : Prop:=
 nwK none h fun t1 h2 y3=>
 wK (oBsl false none 6 (.int .i64 0) [(0,(AI 0)),(1,(AI 1)),(2,(AI 2)),(3,(AI 3)),(4,(AI 4)),(5,(AI 5))] h2) fun t4 h5 y6=>
 C f_q028 [v0,t4] h5 fun t7 h8 y9=>
 C f_q029 [v0,(AI 1),(AI 5)] h8 fun t10 h11 y12=>
 NW C gl (.loop (.scope q4)) ⟨[(0,v0),(3,t1),(4,t7),(11,t10),(12,(AI 0))],h11,(y12 ++ (y9 ++ (y6 ++ (y3 ++ x))))⟩ (blockN 0 (seqN C gl q7 K))
theorem E_q022 {C gl q4 q7 v0 h x K} : NW C gl (P_q022 q4 q7) ⟨enter [v0],h,x⟩ K = d_q022 C gl q4 q7 v0 h x K:=by kernel_rfl
theorem e_q022 {C gl v0 h x K} : NW C gl a_q022.body ⟨enter [v0],h,x⟩ K = d_q022 C gl p_q022_k4 p_q022_k7 v0 h x K:=E_q022
def P_q028 : ACode:=(.seq (rg [mV 4 (cI 0)] [0,1])
(.seq (rg [mV 5 1,
mV 6 0,
mV 7 1,
lN 8 7,
cL 9 f_q025 [6,8],
iA 10 none 5 9,
lD 11 none 10,
mV 4 11] [4])
.ret))
def a_q028 : AFun:=⟨2,[.t 4],P_q028,false,false⟩
def d_q028 (C : Hd) (gl : GL) (v0 v1 : AV) (h : Heap) (x : Esc) (K : KT) : Prop:=
 pK (oLen v1) fun t1=>
 C f_q025 [v0,t1] h fun t2 h3 y4=>
 pK (oIaddr none v1 t2 h3) fun t5=>
 pK (oLoad none t5 h3) fun t6=>
 K .ret ⟨[(4,t6)],h3,(y4 ++ x)⟩
theorem e_q028 {C gl v0 v1 h x K} : NW C gl a_q028.body ⟨enter [v0,v1],h,x⟩ K = d_q028 C gl v0 v1 h x K:=by kernel_rfl
def p_q021_k1 : ACode:=.pr [4,5] (.seq (rg [lD 76 (some 2) 5,
wO (.store (some 2) 4 76)] [4])
.ret)
def d_q021_k1 (C : Hd) (gl : GL) (v4 v5 : AV) (h : Heap) (x : Esc) (K : KT) : Prop:=
 pK (oLoad (some 2) v5 h) fun t1=>
 wK (oStore (some 2) v4 t1 h) fun t2 h3 y4=>
 K .ret ⟨[(4,v4)],h3,(y4 ++ x)⟩
theorem e_q021_k1 {C gl e h x K} : NW C gl p_q021_k1 ⟨e,h,x⟩ K = d_q021_k1 C gl (aget e 4) (aget e 5) h x K:=by kernel_rfl
def P_q021_k2 (q1 : ACode) : ACode:=.pr [0,1,4,5] (.seq (.seq (rg [mV 44 0,
cL 45 f_q024 [44,(cI 30)]] [0,1,4,5,45])
(.cond 45 (.seq (rg [mV 46 0,
cL 47 f_q025 [46,(cI 4)]] [0,1,4,5,47])
(.block 0 (.seq (rg [bN 54 .eql 47 (cI 0),
mV 53 54] [0,1,4,5,47,53])
(.cond 53 (rg [mV 55 0,
cL 56 f_q026 [55,(cI 1),(cI 6)],
fA 57 0 none 5,
wO (.store none 57 56)] [4,5])
(.seq (rg [bN 59 .eql 47 (cI 1),
mV 58 59] [0,1,4,5,47,58])
(.cond 58 (dr [dF (fA 60 1 none 5) [5],
dF (lD 61 none 60) [60],
dF (mV 62 0) [0],
dF (mV 63 1) [1],
dF (fA 64 1 none 5) [5],
dF (lD 65 none 64) [64],
dF (iA 66 none 65 (cI 0)) [65],
dF (lD 67 none 66) [66],
dF (uO 68 (.bsl false none 5 (.int .i64 0) [(0,(cI 0)),(1,(cI 1)),(2,(cI (-1))),(3,63),(4,67)])) [63,67],
dA (cL 69 f_q028 [62,68]) [62,68] true [] [1],
dF (uO 70 (.bsl false none 1 (.int .i64 0) [(0,69)])) [69],
dT (uO 71 (.app none 61 70)) [61,70],
dF (fA 72 1 none 5) [5],
dT (wO (.store none 72 71)) [72,71]] [4,5])
(.seq (rg [bN 74 .eql 47 (cI 2),
mV 73 74] [0,4,5,73])
(.cond 73 (rg [fA 75 1 none 5,
wO (.store none 75 (.c (.p (.sl none []))))] [4,5])
(rg [uO 48 (.bsl false none 7 (.int .i64 0) [(0,(cI 0)),(1,(cI 1)),(2,(cI 2)),(3,(cI 3)),(4,(cI 4)),(5,(cI 5)),(6,(cI 6))]),
mV 49 0,
cL 50 f_q029 [49,(cI 5),(cI 7)],
uO 51 (.slice none 48 none (some 50) none),
fA 52 1 none 5,
wO (.store none 52 51)] [4,5])))))))))
.skip))
q1)
def p_q021_k2 : ACode:=P_q021_k2 p_q021_k1
def d_q021_k2 (C : Hd) (gl : GL) (q1 : ACode) (v0 v1 v4 v5 : AV) (h : Heap) (x : Esc) (K : KT) : Prop:=
 C f_q024 [v0,(AI 30)] h fun t1 h2 y3=>
 condB t1 (C f_q025 [v0,(AI 4)] h2 fun t4 h5 y6=>
 pK (oBin .eql t4 (AI 0)) fun t7=>
 condB t7 (C f_q026 [v0,(AI 1),(AI 6)] h5 fun t8 h9 y10=>
 pK (oFaddr 0 none v5) fun t11=>
 wK (oStore none t11 t8 h9) fun t12 h13 y14=>
 NW C gl q1 ⟨[(4,v4),(5,v5)],h13,(y14 ++ (y10 ++ (y6 ++ (y3 ++ x))))⟩ K)
 (pK (oBin .eql t4 (AI 1)) fun t15=>
 condB t15 (pK (oFaddr 1 none v5) fun t16=>
 pK (oLoad none t16 h5) fun t17=>
 pK (oFaddr 1 none v5) fun t18=>
 pK (oLoad none t18 h5) fun t19=>
 pK (oIaddr none t19 (AI 0) h5) fun t20=>
 pK (oLoad none t20 h5) fun t21=>
 wK (oBsl false none 5 (.int .i64 0) [(0,(AI 0)),(1,(AI 1)),(2,(AI (-1))),(3,v1),(4,t21)] h5) fun t22 h23 y24=>
 (h23 = h5 ∧ y24 = []) ∧ (callE C f_q028 [v0,t22] h23 fun t25 h26 y27=>
 (pK (oLoad none t16 h26) fun v=>(fun u (g1 : Heap) (y1 : Esc)=>u = t17 ∧ g1 = h26 ∧ y1 = []) v h26 []) ∧ (wK (oBsl false none 1 (.int .i64 0) [(0,t25)] h26) fun t28 h29 y30=>
 (h29 = h26 ∧ y30 = []) ∧ (wK (oApp none t17 t28 h29) fun t31 h32 y33=>
 pK (oFaddr 1 none v5) fun t34=>
 wK (oStore none t34 t31 h32) fun t35 h36 y37=>
 NW C gl q1 ⟨[(4,v4),(5,v5)],h36,(y37 ++ (y33 ++ (y30 ++ (y27 ++ (y24 ++ (y6 ++ (y3 ++ x)))))))⟩ K))))
 (pK (oBin .eql t4 (AI 2)) fun t38=>
 condB t38 (pK (oFaddr 1 none v5) fun t39=>
 wK (oStore none t39 (.p (.sl none [])) h5) fun t40 h41 y42=>
 NW C gl q1 ⟨[(4,v4),(5,v5)],h41,(y42 ++ (y6 ++ (y3 ++ x)))⟩ K)
 (wK (oBsl false none 7 (.int .i64 0) [(0,(AI 0)),(1,(AI 1)),(2,(AI 2)),(3,(AI 3)),(4,(AI 4)),(5,(AI 5)),(6,(AI 6))] h5) fun t43 h44 y45=>
 C f_q029 [v0,(AI 5),(AI 7)] h44 fun t46 h47 y48=>
 pK (oSlice none t43 none (some t46) none h47) fun t49=>
 pK (oFaddr 1 none v5) fun t50=>
 wK (oStore none t50 t49 h47) fun t51 h52 y53=>
 NW C gl q1 ⟨[(4,v4),(5,v5)],h52,(y53 ++ (y48 ++ (y45 ++ (y6 ++ (y3 ++ x)))))⟩ K))))
 (NW C gl q1 ⟨[(0,v0),(1,v1),(4,v4),(5,v5),(45,t1)],h2,(y3 ++ x)⟩ K)
theorem E_q021_k2 {C gl q1 e h x K} : NW C gl (P_q021_k2 q1) ⟨e,h,x⟩ K = d_q021_k2 C gl q1 (aget e 0) (aget e 1) (aget e 4) (aget e 5) h x K:=by kernel_rfl
theorem e_q021_k2 {C gl e h x K} : NW C gl p_q021_k2 ⟨e,h,x⟩ K = d_q021_k2 C gl p_q021_k1 (aget e 0) (aget e 1) (aget e 4) (aget e 5) h x K:=E_q021_k2
def P_q021_k3 (q2 : ACode) : ACode:=.pr [0,1,4,5,6,7] (.seq (rg [mV 29 6,
mV 30 7,
mV 31 7,
uO 32 (.slice none 29 none (some 30) (some 31)),
fA 33 1 none 5,
wO (.store none 33 32)] [0,1,4,5])
(.seq (.seq (rg [fA 34 0 none 5,
lD 35 none 34,
bN 36 .eql 35 (cI 5)] [0,1,4,5,36])
(.cond 36 (rg [fA 37 1 none 5,
lD 38 none 37,
uO 39 (.slice none 38 (some (cI 1)) none none),
cL 40 f_q038 [39]] [0,1,4,5])
(rg [fA 41 1 none 5,
lD 42 none 41,
cL 43 f_q038 [42]] [0,1,4,5])))
q2))
def p_q021_k3 : ACode:=P_q021_k3 p_q021_k2
def d_q021_k3 (C : Hd) (gl : GL) (q2 : ACode) (v0 v1 v4 v5 v6 v7 : AV) (h : Heap) (x : Esc) (K : KT) : Prop:=
 pK (oSlice none v6 none (some v7) (some v7) h) fun t1=>
 pK (oFaddr 1 none v5) fun t2=>
 wK (oStore none t2 t1 h) fun t3 h4 y5=>
 pK (oFaddr 0 none v5) fun t6=>
 pK (oLoad none t6 h4) fun t7=>
 pK (oBin .eql t7 (AI 5)) fun t8=>
 condB t8 (pK (oFaddr 1 none v5) fun t9=>
 pK (oLoad none t9 h4) fun t10=>
 pK (oSlice none t10 (some (AI 1)) none none h4) fun t11=>
 C f_q038 [t11] h4 fun t12 h13 y14=>
 NW C gl q2 ⟨[(0,v0),(1,v1),(4,v4),(5,v5)],h13,(y14 ++ (y5 ++ x))⟩ K)
 (pK (oFaddr 1 none v5) fun t15=>
 pK (oLoad none t15 h4) fun t16=>
 C f_q038 [t16] h4 fun t17 h18 y19=>
 NW C gl q2 ⟨[(0,v0),(1,v1),(4,v4),(5,v5)],h18,(y19 ++ (y5 ++ x))⟩ K)
theorem E_q021_k3 {C gl q2 e h x K} : NW C gl (P_q021_k3 q2) ⟨e,h,x⟩ K = d_q021_k3 C gl q2 (aget e 0) (aget e 1) (aget e 4) (aget e 5) (aget e 6) (aget e 7) h x K:=by kernel_rfl
theorem e_q021_k3 {C gl e h x K} : NW C gl p_q021_k3 ⟨e,h,x⟩ K = d_q021_k3 C gl p_q021_k2 (aget e 0) (aget e 1) (aget e 4) (aget e 5) (aget e 6) (aget e 7) h x K:=E_q021_k3
def P_q021 (q3 : ACode) : ACode:=(.seq (rg [uO 4 (.alloc [.p (.int .i64 0),.sl0 none])] [0,1,4])
(.seq (rg [mV 8 0,
cL 9 f_q029 [8,(cI 1),(cI 6)],
uO 10 (.build [.p (.int .i64 0),.sl0 none] [(0,1,9)]),
uO 5 (.alloc [.p (.int .i64 0),.sl0 none]),
wO (.store (some 2) 5 10)] [0,1,4,5])
(.seq (rg [mV 11 0,
mV 12 1,
uO 13 (.mx [12,(cI 1)]),
cL 14 f_q027 [11,13],
mV 6 14] [0,1,4,5,6])
(.seq (rg [mV 7 (cI 1)] [0,1,4,5,6,7])
(.seq (.seq (rg [fA 15 0 none 5,
lD 16 none 15,
bN 17 .geq 16 (cI 3),
mV 18 17,
gD 19 18 true (.faddr 0 none 5),
gD 20 18 true (.load none 19),
gD 21 18 true (.bin .leq 20 (cI 5)),
uO 22 (.pick 18 21 cF)] [0,1,4,5,6,7,22])
(.cond 22 (rg [mV 23 0,
uO 24 (.bsl false none 3 (.int .i64 0) [(0,(cI 2)),(1,(cI 2)),(2,(cI 3))]),
cL 25 f_q028 [23,24],
mV 26 6,
lN 27 26,
uO 28 (.mn [25,27]),
mV 7 28] [0,1,4,5,6,7])
.skip))
q3)))))
def a_q021 : AFun:=⟨2,[.cell 4 (some 2)],P_q021 p_q021_k3,false,false⟩
def d_q021 (C : Hd) (gl : GL) (q3 : ACode) (v0 v1 : AV) (h : Heap) (x : Esc) (K : KT) : Prop:=
 alK [.p (.int .i64 0),.sl0 none] h fun t1 h2 y3=>
 C f_q029 [v0,(AI 1),(AI 6)] h2 fun t4 h5 y6=>
 pK (oBuild [.p (.int .i64 0),.sl0 none] [(0,1,t4)]) fun t7=>
 alK [.p (.int .i64 0),.sl0 none] h5 fun t8 h9 y10=>
 wK (oStore (some 2) t8 t7 h9) fun t11 h12 y13=>
 pK (oMx [v1,(AI 1)]) fun t14=>
 C f_q027 [v0,t14] h12 fun t15 h16 y17=>
 pK (oFaddr 0 none t8) fun t18=>
 pK (oLoad none t18 h16) fun t19=>
 pK (oBin .geq t19 (AI 3)) fun t20=>
 gP t20 true (oFaddr 0 none t8) h16 fun t21 h22 y23=>
 gP t20 true (oLoad none t21 h22) h22 fun t24 h25 y26=>
 gP t20 true (oBin .leq t24 (AI 5)) h25 fun t27 h28 y29=>
 pK (oPick t20 t27 (AB false)) fun t30=>
 condB t30 (wK (oBsl false none 3 (.int .i64 0) [(0,(AI 2)),(1,(AI 2)),(2,(AI 3))] h28) fun t31 h32 y33=>
 C f_q028 [v0,t31] h32 fun t34 h35 y36=>
 pK (oLen t15) fun t37=>
 pK (oMn [t34,t37]) fun t38=>
 NW C gl q3 ⟨[(0,v0),(1,v1),(4,t1),(5,t8),(6,t15),(7,t38)],h35,(y36 ++ (y33 ++ (y29 ++ (y26 ++ (y23 ++ (y17 ++ (y13 ++ (y10 ++ (y6 ++ (y3 ++ x))))))))))⟩ K)
 (NW C gl q3 ⟨[(0,v0),(1,v1),(4,t1),(5,t8),(6,t15),(7,(AI 1)),(22,t30)],h28,(y29 ++ (y26 ++ (y23 ++ (y17 ++ (y13 ++ (y10 ++ (y6 ++ (y3 ++ x))))))))⟩ K)
theorem E_q021 {C gl q3 v0 v1 h x K} : NW C gl (P_q021 q3) ⟨enter [v0,v1],h,x⟩ K = d_q021 C gl q3 v0 v1 h x K:=by kernel_rfl
theorem e_q021 {C gl v0 v1 h x K} : NW C gl a_q021.body ⟨enter [v0,v1],h,x⟩ K = d_q021 C gl p_q021_k3 v0 v1 h x K:=E_q021
def p_q023_k1 : ACode:=.pr [0,1,5,8,9] (.seq (rg [bN 10 .lss 9 8] [0,1,5,8,9,10])
(.seq (.cond 10 .skip
(.exit 0))
(.seq (.block 1 (.seq (rg [mV 11 0,
mV 12 1,
cL 13 f_q021 [11,12],
uO 6 (.alloc [.p (.int .i64 0),.sl0 none]),
wO (.store (some 2) 6 13)] [0,1,5,6,8,9])
(.seq (rg [fA 14 1 none 6,
lD 15 none 14,
cL 16 f_q02t [15],
fA 17 1 none 6,
wO (.store none 17 16)] [0,1,5,6,8,9])
(rg [mV 18 5,
lD 19 (some 2) 6,
uO 20 (.bsl false (some 2) 1 (.agg [.int .i64 0,.sl none []]) [(0,19)]),
uO 21 (.app (some 2) 18 20),
mV 5 21] [0,1,5,8,9]))))
(rg [bN 22 .add 9 (cI 1),
mV 9 22] [0,1,5,8,9]))))
def d_q023_k1 (C : Hd) (gl : GL) (v0 v1 v5 v8 v9 : AV) (h : Heap) (x : Esc) (K : KT) : Prop:=
 pK (oBin .lss v9 v8) fun t1=>
 condB t1 (C f_q021 [v0,v1] h fun t2 h3 y4=>
 alK [.p (.int .i64 0),.sl0 none] h3 fun t5 h6 y7=>
 wK (oStore (some 2) t5 t2 h6) fun t8 h9 y10=>
 pK (oFaddr 1 none t5) fun t11=>
 pK (oLoad none t11 h9) fun t12=>
 C f_q02t [t12] h9 fun t13 h14 y15=>
 pK (oFaddr 1 none t5) fun t16=>
 wK (oStore none t16 t13 h14) fun t17 h18 y19=>
 pK (oLoad (some 2) t5 h18) fun t20=>
 wK (oBsl false (some 2) 1 (.agg [.int .i64 0,.sl none []]) [(0,t20)] h18) fun t21 h22 y23=>
 wK (oApp (some 2) v5 t21 h22) fun t24 h25 y26=>
 pK (oBin .add v9 (AI 1)) fun t27=>
 K .normal ⟨[(0,v0),(1,v1),(5,t24),(8,v8),(9,t27)],h25,(y26 ++ (y23 ++ (y19 ++ (y15 ++ (y10 ++ (y7 ++ (y4 ++ x)))))))⟩)
 (K (.exit 0) ⟨[(0,v0),(1,v1),(5,v5),(8,v8),(9,v9),(10,t1)],h,x⟩)
theorem e_q023_k1 {C gl e h x K} : NW C gl p_q023_k1 ⟨e,h,x⟩ K = d_q023_k1 C gl (aget e 0) (aget e 1) (aget e 5) (aget e 8) (aget e 9) h x K:=by kernel_rfl
theorem l_q023_k1 {C gl e h x K} : NW C gl (.loop (.scope p_q023_k1)) ⟨e,h,x⟩ K = NLoop C gl (.scope p_q023_k1) K [(0,aget e 0),(1,aget e 1),(5,aget e 5),(8,aget e 8),(9,aget e 9)] h x:=NLoop_sc
def p_q023_k2 : ACode:=.pr [5] (.seq (rg [mV 23 5,
mV 4 23] [4])
.ret)
def d_q023_k2 (C : Hd) (gl : GL) (v5 : AV) (h : Heap) (x : Esc) (K : KT) : Prop:=
 K .ret ⟨[(4,v5)],h,x⟩
theorem e_q023_k2 {C gl e h x K} : NW C gl p_q023_k2 ⟨e,h,x⟩ K = d_q023_k2 C gl (aget e 5) h x K:=by kernel_rfl
def P_q023 (q1 q2 : ACode) : ACode:=(.seq (rg [mV 4 (.c (.p (.sl (some 2) [])))] [0,1])
(.seq (rg [uO 5 (.new0 (some 2))] [0,1,5])
(.seq (.seq (rg [mV 7 0,
cL 8 f_q029 [7,(cI 0),(cI 6)],
mV 9 (cI 0)] [0,1,5,8,9])
(.block 0 (.loop (.scope q1))))
q2)))
def a_q023 : AFun:=⟨2,[.t 4],P_q023 p_q023_k1 p_q023_k2,false,false⟩
def d_q023 (C : Hd) (gl : GL) (q1 q2 : ACode) (v0 v1 : AV) (h : Heap) (x : Esc) (K : KT) : Prop:=
 nwK (some 2) h fun t1 h2 y3=>
 C f_q029 [v0,(AI 0),(AI 6)] h2 fun t4 h5 y6=>
 NW C gl (.loop (.scope q1)) ⟨[(0,v0),(1,v1),(5,t1),(8,t4),(9,(AI 0))],h5,(y6 ++ (y3 ++ x))⟩ (blockN 0 (seqN C gl q2 K))
theorem E_q023 {C gl q1 q2 v0 v1 h x K} : NW C gl (P_q023 q1 q2) ⟨enter [v0,v1],h,x⟩ K = d_q023 C gl q1 q2 v0 v1 h x K:=by kernel_rfl
theorem e_q023 {C gl v0 v1 h x K} : NW C gl a_q023.body ⟨enter [v0,v1],h,x⟩ K = d_q023 C gl p_q023_k1 p_q023_k2 v0 v1 h x K:=E_q023
def P_q010 : ACode:=(.seq (rg [uO 3 (.box 1),
mV 4 (.c (.p (.sl none []))),
mV 5 (cI 0)] [0,3])
(.seq (rg [mV 6 0,
lD 7 (some 2) 3,
uO 8 (.bsl false (some 2) 1 (.agg [.int .i64 0,.sl none []]) [(0,7)]),
cL 9 f_q00x [6,8],
eX 10 9 0,
eX 11 9 1,
mV 4 10,
mV 5 11] [4,5])
.ret))
def a_q010 : AFun:=⟨2,[.t 4,.t 5],P_q010,false,false⟩
def d_q010 (C : Hd) (gl : GL) (v0 v1 : AV) (h : Heap) (x : Esc) (K : KT) : Prop:=
 wK (oBox v1 h) fun t1 h2 y3=>
 pK (oLoad (some 2) t1 h2) fun t4=>
 wK (oBsl false (some 2) 1 (.agg [.int .i64 0,.sl none []]) [(0,t4)] h2) fun t5 h6 y7=>
 C f_q00x [v0,t5] h6 fun t8 h9 y10=>
 pK (oExt t8 0) fun t11=>
 pK (oExt t8 1) fun t12=>
 K .ret ⟨[(4,t11),(5,t12)],h9,(y10 ++ (y7 ++ (y3 ++ x)))⟩
theorem e_q010 {C gl v0 v1 h x K} : NW C gl a_q010.body ⟨enter [v0,v1],h,x⟩ K = d_q010 C gl v0 v1 h x K:=by kernel_rfl
def p_q00x_k1 : ACode:=.pr [0,7,18,19,20] (.seq (rg [bN 21 .lss 20 19] [0,7,18,19,20,21])
(.seq (.cond 21 .skip
(.exit 0))
(.seq (.block 1 (.seq (rg [iA 22 (some 2) 18 20,
lD 23 (some 2) 22,
uO 9 (.alloc [.p (.int .i64 0),.sl0 none]),
wO (.store (some 2) 9 23)] [0,7,9,18,19,20])
(dr [dF (mV 24 7) [7],
dF (lD 25 (some 2) 9) [9],
dF (mV 26 0) [0],
dF (iA 27 none 26 (cI 0)) [26],
dF (lD 28 none 27) [27],
dF (uO 29 (.lens 28)) [28],
dA (cL 30 f_q017 [29]) [29] true [] [1],
dT (cL 31 f_q018 [24,25,30]) [24,25,30]] [0,7,18,19,20])))
(rg [bN 32 .add 20 (cI 1),
mV 20 32] [0,7,18,19,20]))))
def d_q00x_k1 (C : Hd) (gl : GL) (v0 v7 v18 v19 v20 : AV) (h : Heap) (x : Esc) (K : KT) : Prop:=
 pK (oBin .lss v20 v19) fun t1=>
 condB t1 (pK (oIaddr (some 2) v18 v20 h) fun t2=>
 pK (oLoad (some 2) t2 h) fun t3=>
 alK [.p (.int .i64 0),.sl0 none] h fun t4 h5 y6=>
 wK (oStore (some 2) t4 t3 h5) fun t7 h8 y9=>
 pK (oLoad (some 2) t4 h8) fun t10=>
 pK (oIaddr none v0 (AI 0) h8) fun t11=>
 pK (oLoad none t11 h8) fun t12=>
 pK (oLens t12) fun t13=>
 callE C f_q017 [t13] h8 fun t14 h15 y16=>
 (pK (oLoad (some 2) t4 h15) fun v=>(fun u (g1 : Heap) (y1 : Esc)=>u = t10 ∧ g1 = h15 ∧ y1 = []) v h15 []) ∧ (callE C f_q018 [v7,t10,t14] h15 fun t17 h18 y19=>
 pK (oBin .add v20 (AI 1)) fun t20=>
 K .normal ⟨[(0,v0),(7,v7),(18,v18),(19,v19),(20,t20)],h18,(y19 ++ (y16 ++ (y9 ++ (y6 ++ x))))⟩))
 (K (.exit 0) ⟨[(0,v0),(7,v7),(18,v18),(19,v19),(20,v20),(21,t1)],h,x⟩)
theorem e_q00x_k1 {C gl e h x K} : NW C gl p_q00x_k1 ⟨e,h,x⟩ K = d_q00x_k1 C gl (aget e 0) (aget e 7) (aget e 18) (aget e 19) (aget e 20) h x K:=by kernel_rfl
theorem l_q00x_k1 {C gl e h x K} : NW C gl (.loop (.scope p_q00x_k1)) ⟨e,h,x⟩ K = NLoop C gl (.scope p_q00x_k1) K [(0,aget e 0),(7,aget e 7),(18,aget e 18),(19,aget e 19),(20,aget e 20)] h x:=NLoop_sc
def p_q00x_k2 : ACode:=.pr [0,7] (.seq (rg [mV 33 7,
mV 34 0,
iA 35 none 34 (cI 0),
lD 36 none 35,
uO 37 (.lens 36),
cL 38 f_q016 [33,37],
mV 4 38,
mV 5 (cI 0)] [4,5])
.ret)
def d_q00x_k2 (C : Hd) (gl : GL) (v0 v7 : AV) (h : Heap) (x : Esc) (K : KT) : Prop:=
 pK (oIaddr none v0 (AI 0) h) fun t1=>
 pK (oLoad none t1 h) fun t2=>
 pK (oLens t2) fun t3=>
 C f_q016 [v7,t3] h fun t4 h5 y6=>
 K .ret ⟨[(4,t4),(5,(AI 0))],h5,(y6 ++ x)⟩
theorem e_q00x_k2 {C gl e h x K} : NW C gl p_q00x_k2 ⟨e,h,x⟩ K = d_q00x_k2 C gl (aget e 0) (aget e 7) h x K:=by kernel_rfl
def P_q00x (q1 q2 : ACode) : ACode:=(.seq (rg [mV 4 (.c (.p (.sl none []))),
mV 5 (cI 0)] [0,1])
(.seq (.seq (rg [mV 10 0,
mV 11 1,
cL 12 f_q012 [10,11],
mV 6 12] [0,1,6])
(.seq (rg [mV 13 6,
bN 14 .neq 13 (cI 0)] [0,1,6,14])
(.cond 14 (.seq (rg [mV 15 6,
mV 4 (.c (.p (.sl none []))),
mV 5 15] [4,5])
.ret)
.skip)))
(.seq (rg [mV 16 0,
cL 17 f_q015 [16],
mV 7 17] [0,1,7])
(.seq (.seq (rg [mV 18 1,
lN 19 18,
mV 20 (cI 0)] [0,7,18,19,20])
(.block 0 (.loop (.scope q1))))
q2))))
def a_q00x : AFun:=⟨2,[.t 4,.t 5],P_q00x p_q00x_k1 p_q00x_k2,false,false⟩
def d_q00x (C : Hd) (gl : GL) (q1 q2 : ACode) (v0 v1 : AV) (h : Heap) (x : Esc) (K : KT) : Prop:=
 C f_q012 [v0,v1] h fun t1 h2 y3=>
 pK (oBin .neq t1 (AI 0)) fun t4=>
 condB t4 (K .ret ⟨[(4,(.p (.sl none []))),(5,t1)],h2,(y3 ++ x)⟩)
 (C f_q015 [v0] h2 fun t5 h6 y7=>
 pK (oLen v1) fun t8=>
 NW C gl (.loop (.scope q1)) ⟨[(0,v0),(7,t5),(18,v1),(19,t8),(20,(AI 0))],h6,(y7 ++ (y3 ++ x))⟩ (blockN 0 (seqN C gl q2 K)))
theorem E_q00x {C gl q1 q2 v0 v1 h x K} : NW C gl (P_q00x q1 q2) ⟨enter [v0,v1],h,x⟩ K = d_q00x C gl q1 q2 v0 v1 h x K:=by kernel_rfl
theorem e_q00x {C gl v0 v1 h x K} : NW C gl a_q00x.body ⟨enter [v0,v1],h,x⟩ K = d_q00x C gl p_q00x_k1 p_q00x_k2 v0 v1 h x K:=E_q00x
def P_q00y : ACode:=(.seq (rg [uO 3 (.box 1),
mV 4 cF,
mV 5 (cI 0)] [0,3])
(.seq (.seq (rg [mV 7 0,
lD 8 (some 2) 3,
uO 9 (.bsl false (some 2) 1 (.agg [.int .i64 0,.sl none []]) [(0,8)]),
cL 10 f_q012 [7,9],
mV 6 10] [0,3,6])
(.seq (rg [mV 11 6,
bN 12 .neq 11 (cI 0)] [0,3,6,12])
(.cond 12 (.seq (rg [mV 13 6,
mV 4 cF,
mV 5 13] [4,5])
.ret)
.skip)))
(.seq (dr [dF (mV 14 0) [0],
dT (cL 15 f_q015 [14]) [14],
dA (lD 16 (some 2) 3) [3] false [1] [],
dF (mV 17 0) [0],
dA (iA 18 none 17 (cI 0)) [17] false [1] [],
dA (lD 19 none 18) [18] false [1] [],
dF (uO 20 (.lens 19)) [19],
dT (cL 21 f_q011 [15,16,20]) [15,16,20],
dF (bN 22 .neq 21 (.c (.p (.int .u64 0)))) [21],
dF (mV 4 22) [22],
dF (mV 5 (cI 0)) []] [4,5])
.ret)))
def a_q00y : AFun:=⟨2,[.t 4,.t 5],P_q00y,false,false⟩
def d_q00y (C : Hd) (gl : GL) (v0 v1 : AV) (h : Heap) (x : Esc) (K : KT) : Prop:=
 wK (oBox v1 h) fun t1 h2 y3=>
 pK (oLoad (some 2) t1 h2) fun t4=>
 wK (oBsl false (some 2) 1 (.agg [.int .i64 0,.sl none []]) [(0,t4)] h2) fun t5 h6 y7=>
 C f_q012 [v0,t5] h6 fun t8 h9 y10=>
 pK (oBin .neq t8 (AI 0)) fun t11=>
 condB t11 (K .ret ⟨[(4,(AB false)),(5,t8)],h9,(y10 ++ (y7 ++ (y3 ++ x)))⟩)
 (callE C f_q015 [v0] h9 fun t12 h13 y14=>
 pK (oLoad (some 2) t1 h13) fun t15=>
 (pK (oLoad (some 2) t1 h9) fun v=>(fun u (g1 : Heap) (y1 : Esc)=>u = t15 ∧ g1 = h9 ∧ y1 = []) v h9 []) ∧ (pK (oIaddr none v0 (AI 0) h13) fun t16=>
 (pK (oIaddr none v0 (AI 0) h9) fun v=>(fun u (g1 : Heap) (y1 : Esc)=>u = t16 ∧ g1 = h9 ∧ y1 = []) v h9 []) ∧ (pK (oLoad none t16 h13) fun t17=>
 (pK (oLoad none t16 h9) fun v=>(fun u (g1 : Heap) (y1 : Esc)=>u = t17 ∧ g1 = h9 ∧ y1 = []) v h9 []) ∧ (pK (oLens t17) fun t18=>
 callE C f_q011 [t12,t15,t18] h13 fun t19 h20 y21=>
 pK (oBin .neq t19 (.p (.int .u64 0))) fun t22=>
 K .ret ⟨[(4,t22),(5,(AI 0))],h20,(y21 ++ (y14 ++ (y10 ++ (y7 ++ (y3 ++ x)))))⟩))))
theorem e_q00y {C gl v0 v1 h x K} : NW C gl a_q00y.body ⟨enter [v0,v1],h,x⟩ K = d_q00y C gl v0 v1 h x K:=by kernel_rfl
def P_q00z : ACode:=(.seq (rg [uO 3 (.box 1),
mV 4 (cI 0),
mV 5 cF,
mV 6 (cI 0)] [0,3])
(.seq (.seq (rg [mV 9 0,
lD 10 (some 2) 3,
uO 11 (.bsl false (some 2) 1 (.agg [.int .i64 0,.sl none []]) [(0,10)]),
cL 12 f_q012 [9,11],
mV 7 12] [0,3,7])
(.seq (rg [mV 13 7,
bN 14 .neq 13 (cI 0)] [0,3,7,14])
(.cond 14 (.seq (rg [mV 15 7,
mV 4 (cI 0),
mV 5 cF,
mV 6 15] [4,5,6])
.ret)
.skip)))
(.seq (dr [dF (mV 16 0) [0],
dT (cL 17 f_q015 [16]) [16],
dA (lD 18 (some 2) 3) [3] false [1] [],
dF (mV 19 0) [0],
dA (iA 20 none 19 (cI 0)) [19] false [1] [],
dA (lD 21 none 20) [20] false [1] [],
dF (uO 22 (.lens 21)) [21],
dT (cL 23 f_q011 [17,18,22]) [17,18,22],
dF (mV 8 23) [23]] [8])
(.seq (.seq (rg [mV 24 8,
bN 25 .eql 24 (.c (.p (.int .u64 0)))] [8,25])
(.cond 25 (.seq (rg [mV 4 (cI 0),
mV 5 cF,
mV 6 (cI 0)] [4,5,6])
.ret)
.skip))
(.seq (rg [mV 26 8,
cL 27 f_q01r [26],
mV 4 27,
mV 5 cT,
mV 6 (cI 0)] [4,5,6])
.ret)))))
def a_q00z : AFun:=⟨2,[.t 4,.t 5,.t 6],P_q00z,false,false⟩
def d_q00z (C : Hd) (gl : GL) (v0 v1 : AV) (h : Heap) (x : Esc) (K : KT) : Prop:=
 wK (oBox v1 h) fun t1 h2 y3=>
 pK (oLoad (some 2) t1 h2) fun t4=>
 wK (oBsl false (some 2) 1 (.agg [.int .i64 0,.sl none []]) [(0,t4)] h2) fun t5 h6 y7=>
 C f_q012 [v0,t5] h6 fun t8 h9 y10=>
 pK (oBin .neq t8 (AI 0)) fun t11=>
 condB t11 (K .ret ⟨[(4,(AI 0)),(5,(AB false)),(6,t8)],h9,(y10 ++ (y7 ++ (y3 ++ x)))⟩)
 (callE C f_q015 [v0] h9 fun t12 h13 y14=>
 pK (oLoad (some 2) t1 h13) fun t15=>
 (pK (oLoad (some 2) t1 h9) fun v=>(fun u (g1 : Heap) (y1 : Esc)=>u = t15 ∧ g1 = h9 ∧ y1 = []) v h9 []) ∧ (pK (oIaddr none v0 (AI 0) h13) fun t16=>
 (pK (oIaddr none v0 (AI 0) h9) fun v=>(fun u (g1 : Heap) (y1 : Esc)=>u = t16 ∧ g1 = h9 ∧ y1 = []) v h9 []) ∧ (pK (oLoad none t16 h13) fun t17=>
 (pK (oLoad none t16 h9) fun v=>(fun u (g1 : Heap) (y1 : Esc)=>u = t17 ∧ g1 = h9 ∧ y1 = []) v h9 []) ∧ (pK (oLens t17) fun t18=>
 callE C f_q011 [t12,t15,t18] h13 fun t19 h20 y21=>
 pK (oBin .eql t19 (.p (.int .u64 0))) fun t22=>
 condB t22 (K .ret ⟨[(4,(AI 0)),(5,(AB false)),(6,(AI 0))],h20,(y21 ++ (y14 ++ (y10 ++ (y7 ++ (y3 ++ x)))))⟩)
 (C f_q01r [t19] h20 fun t23 h24 y25=>
 K .ret ⟨[(4,t23),(5,(AB true)),(6,(AI 0))],h24,(y25 ++ (y21 ++ (y14 ++ (y10 ++ (y7 ++ (y3 ++ x))))))⟩)))))
theorem e_q00z {C gl v0 v1 h x K} : NW C gl a_q00z.body ⟨enter [v0,v1],h,x⟩ K = d_q00z C gl v0 v1 h x K:=by kernel_rfl
def P_q01z : ACode:=(.seq (rg [mV 4 (cI 0)] [0,1])
(.seq (.seq (rg [mV 6 0,
cL 7 f_q02j [6],
mV 5 7] [0,1,5])
(.seq (rg [mV 8 5,
bN 9 .neq 8 (cI 0)] [0,1,5,9])
(.cond 9 (.seq (rg [mV 10 5,
mV 4 10] [4])
.ret)
.skip)))
(.seq (rg [mV 11 0,
lN 12 11,
mV 13 1,
cL 14 f_q02g [12,13],
mV 4 14] [4])
.ret)))
def a_q01z : AFun:=⟨2,[.t 4],P_q01z,false,false⟩
def d_q01z (C : Hd) (gl : GL) (v0 v1 : AV) (h : Heap) (x : Esc) (K : KT) : Prop:=
 C f_q02j [v0] h fun t1 h2 y3=>
 pK (oBin .neq t1 (AI 0)) fun t4=>
 condB t4 (K .ret ⟨[(4,t1)],h2,(y3 ++ x)⟩)
 (pK (oLen v0) fun t5=>
 C f_q02g [t5,v1] h2 fun t6 h7 y8=>
 K .ret ⟨[(4,t6)],h7,(y8 ++ (y3 ++ x))⟩)
theorem e_q01z {C gl v0 v1 h x K} : NW C gl a_q01z.body ⟨enter [v0,v1],h,x⟩ K = d_q01z C gl v0 v1 h x K:=by kernel_rfl
def p_q02j_k1 : ACode:=.pr [0,13,14,15] (.seq (rg [bN 16 .lss 15 14] [0,13,14,15,16])
(.seq (.cond 16 .skip
(.exit 1))
(.seq (.block 2 (.seq (rg [iA 17 none 13 15,
lD 18 none 17,
mV 4 18] [0,4,13,14,15])
(.block 3 (.seq (rg [mV 20 4,
cL 21 f_q02c [20],
uO 22 (.un .not 21),
mV 19 22] [0,4,13,14,15,19])
(.cond 19 (.seq (rg [mV 2 (cI 3)] [2])
.ret)
(.seq (rg [mV 24 4,
uO 25 (.lens 24),
bN 26 .gtr 25 (cI 64),
mV 23 26] [0,4,13,14,15,23])
(.cond 23 (.seq (rg [mV 2 (cI 2)] [2])
.ret)
(.seq (rg [mV 28 4,
uO 29 (.lens 28),
mV 30 0,
iA 31 none 30 (cI 0),
lD 32 none 31,
uO 33 (.lens 32),
bN 34 .neq 29 33,
mV 27 34] [0,13,14,15,27])
(.cond 27 (.seq (rg [mV 2 (cI 3)] [2])
.ret)
.skip)))))))))
(rg [bN 35 .add 15 (cI 1),
mV 15 35] [0,13,14,15]))))
def d_q02j_k1 (C : Hd) (gl : GL) (v0 v13 v14 v15 : AV) (h : Heap) (x : Esc) (K : KT) : Prop:=
 pK (oBin .lss v15 v14) fun t1=>
 condB t1 (pK (oIaddr none v13 v15 h) fun t2=>
 pK (oLoad none t2 h) fun t3=>
 C f_q02c [t3] h fun t4 h5 y6=>
 pK (oUn .not t4) fun t7=>
 condB t7 (K .ret ⟨[(2,(AI 3))],h5,(y6 ++ x)⟩)
 (pK (oLens t3) fun t8=>
 pK (oBin .gtr t8 (AI 64)) fun t9=>
 condB t9 (K .ret ⟨[(2,(AI 2))],h5,(y6 ++ x)⟩)
 (pK (oLens t3) fun t10=>
 pK (oIaddr none v0 (AI 0) h5) fun t11=>
 pK (oLoad none t11 h5) fun t12=>
 pK (oLens t12) fun t13=>
 pK (oBin .neq t10 t13) fun t14=>
 condB t14 (K .ret ⟨[(2,(AI 3))],h5,(y6 ++ x)⟩)
 (pK (oBin .add v15 (AI 1)) fun t15=>
 K .normal ⟨[(0,v0),(13,v13),(14,v14),(15,t15)],h5,(y6 ++ x)⟩))))
 (K (.exit 1) ⟨[(0,v0),(13,v13),(14,v14),(15,v15),(16,t1)],h,x⟩)
theorem e_q02j_k1 {C gl e h x K} : NW C gl p_q02j_k1 ⟨e,h,x⟩ K = d_q02j_k1 C gl (aget e 0) (aget e 13) (aget e 14) (aget e 15) h x K:=by kernel_rfl
theorem l_q02j_k1 {C gl e h x K} : NW C gl (.loop p_q02j_k1) ⟨e,h,x⟩ K = NLoop C gl p_q02j_k1 K [(0,aget e 0),(13,aget e 13),(14,aget e 14),(15,aget e 15)] h x:=NLoop_pr
def p_q02j_k2 : ACode:=.pr [] (.seq (rg [mV 2 (cI 0)] [2])
.ret)
def d_q02j_k2 (C : Hd) (gl : GL) (h : Heap) (x : Esc) (K : KT) : Prop:=
 K .ret ⟨[(2,(AI 0))],h,x⟩
theorem e_q02j_k2 {C gl e h x K} : NW C gl p_q02j_k2 ⟨e,h,x⟩ K = d_q02j_k2 C gl h x K:=by kernel_rfl
def P_q02j (q1 q2 : ACode) : ACode:=(.seq (rg [mV 2 (cI 0)] [0])
(.seq (.block 0 (.seq (rg [mV 6 0,
lN 7 6,
bN 8 .eql 7 (cI 0),
mV 5 8] [0,5])
(.cond 5 (.seq (rg [mV 2 (cI 8)] [2])
.ret)
(.seq (rg [mV 10 0,
lN 11 10,
bN 12 .gtr 11 (cI 100),
mV 9 12] [0,9])
(.cond 9 (.seq (rg [mV 2 (cI 2)] [2])
.ret)
.skip)))))
(.seq (.seq (rg [mV 13 0,
lN 14 13,
mV 15 (cI 0)] [0,13,14,15])
(.block 1 (.loop q1)))
q2)))
def a_q02j : AFun:=⟨1,[.t 2],P_q02j p_q02j_k1 p_q02j_k2,false,false⟩
def d_q02j (C : Hd) (gl : GL) (q1 q2 : ACode) (v0 : AV) (h : Heap) (x : Esc) (K : KT) : Prop:=
 pK (oLen v0) fun t1=>
 pK (oBin .eql t1 (AI 0)) fun t2=>
 condB t2 (K .ret ⟨[(2,(AI 8))],h,x⟩)
 (pK (oLen v0) fun t3=>
 pK (oBin .gtr t3 (AI 100)) fun t4=>
 condB t4 (K .ret ⟨[(2,(AI 2))],h,x⟩)
 (pK (oLen v0) fun t5=>
 NW C gl (.loop q1) ⟨[(0,v0),(13,v0),(14,t5),(15,(AI 0))],h,x⟩ (blockN 1 (seqN C gl q2 K))))
theorem E_q02j {C gl q1 q2 v0 h x K} : NW C gl (P_q02j q1 q2) ⟨enter [v0],h,x⟩ K = d_q02j C gl q1 q2 v0 h x K:=by kernel_rfl
theorem e_q02j {C gl v0 h x K} : NW C gl a_q02j.body ⟨enter [v0],h,x⟩ K = d_q02j C gl p_q02j_k1 p_q02j_k2 v0 h x K:=E_q02j
def p_q02e_k1 : ACode:=.pr [3,5,6] (.seq (.seq (rg [mV 48 6,
mV 49 5,
lN 50 49,
bN 51 .lss 48 50] [3,5,6,51])
(.cond 51 .skip
(.exit 1)))
(.seq (.block 2 (.seq (dr [dF (mV 54 5) [5],
dF (mV 55 6) [6],
dF (iA 56 none 54 55) [54,55],
dF (lD 57 none 56) [56],
dF (mV 58 5) [5],
dF (mV 59 6) [6],
dF (bN 60 .sub 59 (cI 1)) [59],
dF (iA 61 none 58 60) [58,60],
dF (lD 62 none 61) [61],
dF (bN 63 .leq 57 62) [57,62]] [3,5,6,63])
(.cond 63 (.seq (rg [mV 4 (cI 7)] [4])
.ret)
.skip)))
(rg [mV 52 6,
bN 53 .add 52 (cI 1),
mV 6 53] [3,5,6])))
def d_q02e_k1 (C : Hd) (gl : GL) (v3 v5 v6 : AV) (h : Heap) (x : Esc) (K : KT) : Prop:=
 pK (oLen v5) fun t1=>
 pK (oBin .lss v6 t1) fun t2=>
 condB t2 (pK (oIaddr none v5 v6 h) fun t3=>
 pK (oLoad none t3 h) fun t4=>
 pK (oBin .sub v6 (AI 1)) fun t5=>
 pK (oIaddr none v5 t5 h) fun t6=>
 pK (oLoad none t6 h) fun t7=>
 pK (oBin .leq t4 t7) fun t8=>
 condB t8 (K .ret ⟨[(4,(AI 7))],h,x⟩)
 (pK (oBin .add v6 (AI 1)) fun t9=>
 K .normal ⟨[(3,v3),(5,v5),(6,t9)],h,x⟩))
 (K (.exit 1) ⟨[(3,v3),(5,v5),(6,v6),(51,t2)],h,x⟩)
theorem e_q02e_k1 {C gl e h x K} : NW C gl p_q02e_k1 ⟨e,h,x⟩ K = d_q02e_k1 C gl (aget e 3) (aget e 5) (aget e 6) h x K:=by kernel_rfl
theorem l_q02e_k1 {C gl e h x K} : NW C gl (.loop p_q02e_k1) ⟨e,h,x⟩ K = NLoop C gl p_q02e_k1 K [(3,aget e 3),(5,aget e 5),(6,aget e 6)] h x:=NLoop_pr
def p_q02e_k2 : ACode:=.pr [3,5] (.seq (.seq (rg [fA 64 0 none 3,
lD 65 none 64,
bN 66 .eql 65 (cI 5),
mV 67 66,
gD 68 67 true (.mv 5),
gD 69 67 true (.faddr 1 none 3),
gD 70 67 true (.load none 69),
gD 71 67 true (.iaddr none 70 (cI 0)),
gD 72 67 true (.load none 71),
gD 73 67 true (.call f_q02z [68,72]),
uO 74 (.pick 67 73 cF)] [74])
(.cond 74 (.seq (rg [mV 4 (cI 6)] [4])
.ret)
.skip))
(.seq (rg [mV 4 (cI 0)] [4])
.ret))
def d_q02e_k2 (C : Hd) (gl : GL) (v3 v5 : AV) (h : Heap) (x : Esc) (K : KT) : Prop:=
 pK (oFaddr 0 none v3) fun t1=>
 pK (oLoad none t1 h) fun t2=>
 pK (oBin .eql t2 (AI 5)) fun t3=>
 gM t3 true v5 h fun t4 h5 y6=>
 gP t3 true (oFaddr 1 none v3) h5 fun t7 h8 y9=>
 gP t3 true (oLoad none t7 h8) h8 fun t10 h11 y12=>
 gP t3 true (oIaddr none t10 (AI 0) h11) h11 fun t13 h14 y15=>
 gP t3 true (oLoad none t13 h14) h14 fun t16 h17 y18=>
 gV t3 true h17 (C f_q02z [t4,t16] h17) fun t19 h20 y21=>
 pK (oPick t3 t19 (AB false)) fun t22=>
 condB t22 (K .ret ⟨[(4,(AI 6))],h20,(y21 ++ (y18 ++ (y15 ++ (y12 ++ (y9 ++ (y6 ++ x))))))⟩)
 (K .ret ⟨[(4,(AI 0))],h20,(y21 ++ (y18 ++ (y15 ++ (y12 ++ (y9 ++ (y6 ++ x))))))⟩)
theorem e_q02e_k2 {C gl e h x K} : NW C gl p_q02e_k2 ⟨e,h,x⟩ K = d_q02e_k2 C gl (aget e 3) (aget e 5) h x K:=by kernel_rfl
def P_q02e_k3 (q1 q2 : ACode) : ACode:=.pr [3,5] (.seq (.seq (rg [mV 6 (cI 1)] [3,5,6])
(.block 1 (.loop q1)))
q2)
def p_q02e_k3 : ACode:=P_q02e_k3 p_q02e_k1 p_q02e_k2
def d_q02e_k3 (C : Hd) (gl : GL) (q1 q2 : ACode) (v3 v5 : AV) (h : Heap) (x : Esc) (K : KT) : Prop:=
 NW C gl (.loop q1) ⟨[(3,v3),(5,v5),(6,(AI 1))],h,x⟩ (blockN 1 (seqN C gl q2 K))
theorem E_q02e_k3 {C gl q1 q2 e h x K} : NW C gl (P_q02e_k3 q1 q2) ⟨e,h,x⟩ K = d_q02e_k3 C gl q1 q2 (aget e 3) (aget e 5) h x K:=by kernel_rfl
theorem e_q02e_k3 {C gl e h x K} : NW C gl p_q02e_k3 ⟨e,h,x⟩ K = d_q02e_k3 C gl p_q02e_k1 p_q02e_k2 (aget e 3) (aget e 5) h x K:=E_q02e_k3
def P_q02e (q3 : ACode) : ACode:=(.seq (rg [uO 2 (.box 0),
uO 3 (.box 1),
mV 4 (cI 0)] [2,3])
(.seq (.block 0 (.seq (rg [lD 8 none 2,
cL 9 f_q02l [8,(cI 1),(cI 100)],
uO 10 (.un .not 9),
mV 7 10] [2,3,7])
(.cond 7 (.seq (rg [mV 4 (cI 1)] [4])
.ret)
(.seq (rg [fA 12 0 none 3,
lD 13 none 12,
cL 14 f_q02l [13,(cI 1),(cI 6)],
uO 15 (.un .not 14),
mV 11 15] [2,3,11])
(.cond 11 (.seq (rg [mV 4 (cI 4)] [4])
.ret)
(.seq (rg [fA 17 1 none 3,
lD 18 none 17,
lN 19 18,
bN 20 .eql 19 (cI 0),
mV 16 20] [2,3,16])
(.cond 16 (.seq (rg [mV 4 (cI 8)] [4])
.ret)
(.seq (rg [fA 22 1 none 3,
lD 23 none 22,
lN 24 23,
bN 25 .gtr 24 (cI 6),
mV 21 25] [2,3,21])
(.cond 21 (.seq (rg [mV 4 (cI 2)] [4])
.ret)
(.seq (rg [fA 27 1 none 3,
lD 28 none 27,
uO 29 (.mkfn f_q02f [2]),
cL 30 f_q02y [28,29],
mV 26 30] [3,26])
(.cond 26 (.seq (rg [mV 4 (cI 1)] [4])
.ret)
(.seq (dr [dF (fA 32 0 none 3) [3],
dF (lD 33 none 32) [32],
dT (cL 34 f_q02o [33]) [33],
dF (fA 35 1 none 3) [3],
dA (lD 36 none 35) [35] false [2] [],
dF (lN 37 36) [36],
dF (bN 38 .gtr 37 (cI 1)) [37],
dF (uO 39 (.eqa [] true 34 38)) [34,38],
dF (mV 31 39) [39]] [3,31])
(.cond 31 (.seq (rg [mV 4 (cI 3)] [4])
.ret)
.skip)))))))))))))
(.seq (rg [fA 40 1 none 3,
lD 41 none 40,
mV 5 41] [3,5])
(.seq (.seq (rg [fA 42 0 none 3,
lD 43 none 42,
bN 44 .eql 43 (cI 5)] [3,5,44])
(.cond 44 (rg [fA 45 1 none 3,
lD 46 none 45,
uO 47 (.slice none 46 (some (cI 1)) none none),
mV 5 47] [3,5])
.skip))
q3))))
def a_q02e : AFun:=⟨2,[.t 4],P_q02e p_q02e_k3,false,false⟩
def d_q02e (C : Hd) (gl : GL) (q3 : ACode) (v0 v1 : AV) (h : Heap) (x : Esc) (K : KT) : Prop:=
 wK (oBox v0 h) fun t1 h2 y3=>
 wK (oBox v1 h2) fun t4 h5 y6=>
 pK (oLoad none t1 h5) fun t7=>
 C f_q02l [t7,(AI 1),(AI 100)] h5 fun t8 h9 y10=>
 pK (oUn .not t8) fun t11=>
 condB t11 (K .ret ⟨[(4,(AI 1))],h9,(y10 ++ (y6 ++ (y3 ++ x)))⟩)
 (pK (oFaddr 0 none t4) fun t12=>
 pK (oLoad none t12 h9) fun t13=>
 C f_q02l [t13,(AI 1),(AI 6)] h9 fun t14 h15 y16=>
 pK (oUn .not t14) fun t17=>
 condB t17 (K .ret ⟨[(4,(AI 4))],h15,(y16 ++ (y10 ++ (y6 ++ (y3 ++ x))))⟩)
 (pK (oFaddr 1 none t4) fun t18=>
 pK (oLoad none t18 h15) fun t19=>
 pK (oLen t19) fun t20=>
 pK (oBin .eql t20 (AI 0)) fun t21=>
 condB t21 (K .ret ⟨[(4,(AI 8))],h15,(y16 ++ (y10 ++ (y6 ++ (y3 ++ x))))⟩)
 (pK (oFaddr 1 none t4) fun t22=>
 pK (oLoad none t22 h15) fun t23=>
 pK (oLen t23) fun t24=>
 pK (oBin .gtr t24 (AI 6)) fun t25=>
 condB t25 (K .ret ⟨[(4,(AI 2))],h15,(y16 ++ (y10 ++ (y6 ++ (y3 ++ x))))⟩)
 (pK (oFaddr 1 none t4) fun t26=>
 pK (oLoad none t26 h15) fun t27=>
 C f_q02y [t27,(.fn f_q02f [t1])] h15 fun t28 h29 y30=>
 condB t28 (K .ret ⟨[(4,(AI 1))],h29,(y30 ++ (y16 ++ (y10 ++ (y6 ++ (y3 ++ x)))))⟩)
 (pK (oFaddr 0 none t4) fun t31=>
 pK (oLoad none t31 h29) fun t32=>
 callE C f_q02o [t32] h29 fun t33 h34 y35=>
 pK (oFaddr 1 none t4) fun t36=>
 pK (oLoad none t36 h34) fun t37=>
 (pK (oLoad none t36 h29) fun v=>(fun u (g1 : Heap) (y1 : Esc)=>u = t37 ∧ g1 = h29 ∧ y1 = []) v h29 []) ∧ (pK (oLen t37) fun t38=>
 pK (oBin .gtr t38 (AI 1)) fun t39=>
 pK (oEqa [] true t33 t39) fun t40=>
 condB t40 (K .ret ⟨[(4,(AI 3))],h34,(y35 ++ (y30 ++ (y16 ++ (y10 ++ (y6 ++ (y3 ++ x))))))⟩)
 (pK (oFaddr 1 none t4) fun t41=>
 pK (oLoad none t41 h34) fun t42=>
 pK (oFaddr 0 none t4) fun t43=>
 pK (oLoad none t43 h34) fun t44=>
 pK (oBin .eql t44 (AI 5)) fun t45=>
 condB t45 (pK (oFaddr 1 none t4) fun t46=>
 pK (oLoad none t46 h34) fun t47=>
 pK (oSlice none t47 (some (AI 1)) none none h34) fun t48=>
 NW C gl q3 ⟨[(3,t4),(5,t48)],h34,(y35 ++ (y30 ++ (y16 ++ (y10 ++ (y6 ++ (y3 ++ x))))))⟩ K)
 (NW C gl q3 ⟨[(3,t4),(5,t42),(44,t45)],h34,(y35 ++ (y30 ++ (y16 ++ (y10 ++ (y6 ++ (y3 ++ x))))))⟩ K))))))))
theorem E_q02e {C gl q3 v0 v1 h x K} : NW C gl (P_q02e q3) ⟨enter [v0,v1],h,x⟩ K = d_q02e C gl q3 v0 v1 h x K:=by kernel_rfl
theorem e_q02e {C gl v0 v1 h x K} : NW C gl a_q02e.body ⟨enter [v0,v1],h,x⟩ K = d_q02e C gl p_q02e_k3 v0 v1 h x K:=E_q02e
def p_q02i_k1 : ACode:=.pr [0,3,5,6,7,10,11,18,19] (.seq (rg [bN 20 .lss 19 18] [0,3,5,6,7,10,11,18,19,20])
(.seq (.cond 20 .skip
(.exit 2))
(.seq (.block 3 (.seq (rg [mV 21 19,
mV 8 21] [0,3,5,6,7,8,10,11,18,19])
(rg [mV 22 7,
mV 23 0,
lD 24 (some 2) 3,
mV 25 6,
mV 26 8,
cL 27 f_q02n [23,24,25,26],
uO 28 (.bsl false none 1 (.int .u8 0) [(0,27)]),
uO 29 (.app none 22 28),
mV 7 29] [0,3,5,6,7,10,11,18,19])))
(rg [bN 30 .add 19 (cI 1),
mV 19 30] [0,3,5,6,7,10,11,18,19]))))
def d_q02i_k1 (C : Hd) (gl : GL) (v0 v3 v5 v6 v7 v10 v11 v18 v19 : AV) (h : Heap) (x : Esc) (K : KT) : Prop:=
 pK (oBin .lss v19 v18) fun t1=>
 condB t1 (pK (oLoad (some 2) v3 h) fun t2=>
 C f_q02n [v0,t2,v6,v19] h fun t3 h4 y5=>
 wK (oBsl false none 1 (.int .u8 0) [(0,t3)] h4) fun t6 h7 y8=>
 wK (oApp none v7 t6 h7) fun t9 h10 y11=>
 pK (oBin .add v19 (AI 1)) fun t12=>
 K .normal ⟨[(0,v0),(3,v3),(5,v5),(6,v6),(7,t9),(10,v10),(11,v11),(18,v18),(19,t12)],h10,(y11 ++ (y8 ++ (y5 ++ x)))⟩)
 (K (.exit 2) ⟨[(0,v0),(3,v3),(5,v5),(6,v6),(7,v7),(10,v10),(11,v11),(18,v18),(19,v19),(20,t1)],h,x⟩)
theorem e_q02i_k1 {C gl e h x K} : NW C gl p_q02i_k1 ⟨e,h,x⟩ K = d_q02i_k1 C gl (aget e 0) (aget e 3) (aget e 5) (aget e 6) (aget e 7) (aget e 10) (aget e 11) (aget e 18) (aget e 19) h x K:=by kernel_rfl
theorem l_q02i_k1 {C gl e h x K} : NW C gl (.loop (.scope p_q02i_k1)) ⟨e,h,x⟩ K = NLoop C gl (.scope p_q02i_k1) K [(0,aget e 0),(3,aget e 3),(5,aget e 5),(6,aget e 6),(7,aget e 7),(10,aget e 10),(11,aget e 11),(18,aget e 18),(19,aget e 19)] h x:=NLoop_sc
def p_q02i_k2 : ACode:=.pr [0,3,5,7,10,11] (rg [mV 31 5,
mV 32 7,
uO 33 (.conv .b2s 32),
uO 34 (.bsl false none 1 (.str []) [(0,33)]),
uO 35 (.app none 31 34),
mV 5 35] [0,3,5,10,11])
def d_q02i_k2 (C : Hd) (gl : GL) (v0 v3 v5 v7 v10 v11 : AV) (h : Heap) (x : Esc) (K : KT) : Prop:=
 wK (oConv .b2s v7 h) fun t1 h2 y3=>
 wK (oBsl false none 1 (.str []) [(0,t1)] h2) fun t4 h5 y6=>
 wK (oApp none v5 t4 h5) fun t7 h8 y9=>
 K .normal ⟨[(0,v0),(3,v3),(5,t7),(10,v10),(11,v11)],h8,(y9 ++ (y6 ++ (y3 ++ x)))⟩
theorem e_q02i_k2 {C gl e h x K} : NW C gl p_q02i_k2 ⟨e,h,x⟩ K = d_q02i_k2 C gl (aget e 0) (aget e 3) (aget e 5) (aget e 7) (aget e 10) (aget e 11) h x K:=by kernel_rfl
def p_q02i_k3 : ACode:=.pr [0,3,5,10,11] (rg [bN 36 .add 11 (cI 1),
mV 11 36] [0,3,5,10,11])
def d_q02i_k3 (C : Hd) (gl : GL) (v0 v3 v5 v10 v11 : AV) (h : Heap) (x : Esc) (K : KT) : Prop:=
 pK (oBin .add v11 (AI 1)) fun t1=>
 K .normal ⟨[(0,v0),(3,v3),(5,v5),(10,v10),(11,t1)],h,x⟩
theorem e_q02i_k3 {C gl e h x K} : NW C gl p_q02i_k3 ⟨e,h,x⟩ K = d_q02i_k3 C gl (aget e 0) (aget e 3) (aget e 5) (aget e 10) (aget e 11) h x K:=by kernel_rfl
def P_q02i_k4 (q1 q2 q3 : ACode) : ACode:=.pr [0,3,5,10,11] (.seq (rg [bN 12 .lss 11 10] [0,3,5,10,11,12])
(.seq (.cond 12 .skip
(.exit 0))
(.seq (.block 1 (.seq (rg [mV 13 11,
mV 6 13] [0,3,5,6,10,11])
(.seq (rg [uO 7 (.new0 none)] [0,3,5,6,7,10,11])
(.seq (.seq (rg [mV 14 0,
mV 15 6,
iA 16 none 14 15,
lD 17 none 16,
uO 18 (.lens 17),
mV 19 (cI 0)] [0,3,5,6,7,10,11,18,19])
(.block 2 (.loop (.scope q1))))
q2))))
q3)))
def p_q02i_k4 : ACode:=P_q02i_k4 p_q02i_k1 p_q02i_k2 p_q02i_k3
def d_q02i_k4 (C : Hd) (gl : GL) (q1 q2 q3 : ACode) (v0 v3 v5 v10 v11 : AV) (h : Heap) (x : Esc) (K : KT) : Prop:=
 pK (oBin .lss v11 v10) fun t1=>
 condB t1 (nwK none h fun t2 h3 y4=>
 pK (oIaddr none v0 v11 h3) fun t5=>
 pK (oLoad none t5 h3) fun t6=>
 pK (oLens t6) fun t7=>
 NW C gl (.loop (.scope q1)) ⟨[(0,v0),(3,v3),(5,v5),(6,v11),(7,t2),(10,v10),(11,v11),(18,t7),(19,(AI 0))],h3,(y4 ++ x)⟩ (blockN 2 (seqN C gl q2 (blockN 1 (seqN C gl q3 K)))))
 (K (.exit 0) ⟨[(0,v0),(3,v3),(5,v5),(10,v10),(11,v11),(12,t1)],h,x⟩)
theorem E_q02i_k4 {C gl q1 q2 q3 e h x K} : NW C gl (P_q02i_k4 q1 q2 q3) ⟨e,h,x⟩ K = d_q02i_k4 C gl q1 q2 q3 (aget e 0) (aget e 3) (aget e 5) (aget e 10) (aget e 11) h x K:=by kernel_rfl
theorem e_q02i_k4 {C gl e h x K} : NW C gl p_q02i_k4 ⟨e,h,x⟩ K = d_q02i_k4 C gl p_q02i_k1 p_q02i_k2 p_q02i_k3 (aget e 0) (aget e 3) (aget e 5) (aget e 10) (aget e 11) h x K:=E_q02i_k4
theorem l_q02i_k4 {C gl e h x K} : NW C gl (.loop (.scope p_q02i_k4)) ⟨e,h,x⟩ K = NLoop C gl (.scope p_q02i_k4) K [(0,aget e 0),(3,aget e 3),(5,aget e 5),(10,aget e 10),(11,aget e 11)] h x:=NLoop_sc
def p_q02i_k5 : ACode:=.pr [5] (.seq (rg [mV 37 5,
mV 4 37] [4])
.ret)
def d_q02i_k5 (C : Hd) (gl : GL) (v5 : AV) (h : Heap) (x : Esc) (K : KT) : Prop:=
 K .ret ⟨[(4,v5)],h,x⟩
theorem e_q02i_k5 {C gl e h x K} : NW C gl p_q02i_k5 ⟨e,h,x⟩ K = d_q02i_k5 C gl (aget e 5) h x K:=by kernel_rfl
def P_q02i (q4 q5 : ACode) : ACode:=(.seq (rg [uO 3 (.box 1),
mV 4 (.c (.p (.sl none [])))] [0,3])
(.seq (rg [uO 5 (.new0 none)] [0,3,5])
(.seq (.seq (rg [mV 9 0,
lN 10 9,
mV 11 (cI 0)] [0,3,5,10,11])
(.block 0 (.loop (.scope q4))))
q5)))
def a_q02i : AFun:=⟨2,[.t 4],P_q02i p_q02i_k4 p_q02i_k5,false,false⟩
def d_q02i (C : Hd) (gl : GL) (q4 q5 : ACode) (v0 v1 : AV) (h : Heap) (x : Esc) (K : KT) : Prop:=
 wK (oBox v1 h) fun t1 h2 y3=>
 nwK none h2 fun t4 h5 y6=>
 pK (oLen v0) fun t7=>
 NW C gl (.loop (.scope q4)) ⟨[(0,v0),(3,t1),(5,t4),(10,t7),(11,(AI 0))],h5,(y6 ++ (y3 ++ x))⟩ (blockN 0 (seqN C gl q5 K))
theorem E_q02i {C gl q4 q5 v0 v1 h x K} : NW C gl (P_q02i q4 q5) ⟨enter [v0,v1],h,x⟩ K = d_q02i C gl q4 q5 v0 v1 h x K:=by kernel_rfl
theorem e_q02i {C gl v0 v1 h x K} : NW C gl a_q02i.body ⟨enter [v0,v1],h,x⟩ K = d_q02i C gl p_q02i_k4 p_q02i_k5 v0 v1 h x K:=E_q02i
def P_q02h : ACode:=(.seq (rg [uO 3 (.box 1),
mV 4 (cI 0),
mV 5 cF] [0,3])
(.seq (rg [mV 7 0,
lD 8 (some 2) 3,
cL 9 f_q02k [7,8],
mV 6 9] [6])
(.seq (.seq (rg [mV 10 6,
lN 11 10,
bN 12 .eql 11 (cI 0)] [6,12])
(.cond 12 (.seq (rg [mV 4 (cI 0),
mV 5 cF] [4,5])
.ret)
.skip))
(.seq (rg [mV 13 6,
iA 14 none 13 (cI 0),
lD 15 none 14,
mV 4 15,
mV 5 cT] [4,5])
.ret))))
def a_q02h : AFun:=⟨2,[.t 4,.t 5],P_q02h,false,false⟩
def d_q02h (C : Hd) (gl : GL) (v0 v1 : AV) (h : Heap) (x : Esc) (K : KT) : Prop:=
 wK (oBox v1 h) fun t1 h2 y3=>
 pK (oLoad (some 2) t1 h2) fun t4=>
 C f_q02k [v0,t4] h2 fun t5 h6 y7=>
 pK (oLen t5) fun t8=>
 pK (oBin .eql t8 (AI 0)) fun t9=>
 condB t9 (K .ret ⟨[(4,(AI 0)),(5,(AB false))],h6,(y7 ++ (y3 ++ x))⟩)
 (pK (oIaddr none t5 (AI 0) h6) fun t10=>
 pK (oLoad none t10 h6) fun t11=>
 K .ret ⟨[(4,t11),(5,(AB true))],h6,(y7 ++ (y3 ++ x))⟩)
theorem e_q02h {C gl v0 v1 h x K} : NW C gl a_q02h.body ⟨enter [v0,v1],h,x⟩ K = d_q02h C gl v0 v1 h x K:=by kernel_rfl
def p_q02d_k1 : ACode:=.pr [5,10,11,12] (.seq (rg [bN 13 .lss 12 11] [5,10,11,12,13])
(.seq (.cond 13 .skip
(.exit 0))
(.seq (.block 1 (.seq (rg [iA 14 (some 2) 10 12,
lD 15 (some 2) 14,
uO 7 (.alloc [.p (.int .i64 0),.sl0 none]),
wO (.store (some 2) 7 15)] [5,7,10,11,12])
(rg [mV 16 5,
lD 17 (some 2) 7,
cL 18 f_q02i [16,17],
mV 5 18] [5,10,11,12])))
(rg [bN 19 .add 12 (cI 1),
mV 12 19] [5,10,11,12]))))
def d_q02d_k1 (C : Hd) (gl : GL) (v5 v10 v11 v12 : AV) (h : Heap) (x : Esc) (K : KT) : Prop:=
 pK (oBin .lss v12 v11) fun t1=>
 condB t1 (pK (oIaddr (some 2) v10 v12 h) fun t2=>
 pK (oLoad (some 2) t2 h) fun t3=>
 alK [.p (.int .i64 0),.sl0 none] h fun t4 h5 y6=>
 wK (oStore (some 2) t4 t3 h5) fun t7 h8 y9=>
 pK (oLoad (some 2) t4 h8) fun t10=>
 C f_q02i [v5,t10] h8 fun t11 h12 y13=>
 pK (oBin .add v12 (AI 1)) fun t14=>
 K .normal ⟨[(5,t11),(10,v10),(11,v11),(12,t14)],h12,(y13 ++ (y9 ++ (y6 ++ x)))⟩)
 (K (.exit 0) ⟨[(5,v5),(10,v10),(11,v11),(12,v12),(13,t1)],h,x⟩)
theorem e_q02d_k1 {C gl e h x K} : NW C gl p_q02d_k1 ⟨e,h,x⟩ K = d_q02d_k1 C gl (aget e 5) (aget e 10) (aget e 11) (aget e 12) h x K:=by kernel_rfl
theorem l_q02d_k1 {C gl e h x K} : NW C gl (.loop (.scope p_q02d_k1)) ⟨e,h,x⟩ K = NLoop C gl (.scope p_q02d_k1) K [(5,aget e 5),(10,aget e 10),(11,aget e 11),(12,aget e 12)] h x:=NLoop_sc
def p_q02d_k2 : ACode:=.pr [5] (.seq (rg [mV 20 5,
mV 4 20] [4])
.ret)
def d_q02d_k2 (C : Hd) (gl : GL) (v5 : AV) (h : Heap) (x : Esc) (K : KT) : Prop:=
 K .ret ⟨[(4,v5)],h,x⟩
theorem e_q02d_k2 {C gl e h x K} : NW C gl p_q02d_k2 ⟨e,h,x⟩ K = d_q02d_k2 C gl (aget e 5) h x K:=by kernel_rfl
def P_q02d (q1 q2 : ACode) : ACode:=(.seq (rg [mV 4 (.c (.p (.sl none [])))] [0,1])
(.seq (rg [mV 8 0,
cL 9 f_q02u [8],
mV 5 9] [1,5])
(.seq (.seq (rg [mV 10 1,
lN 11 10,
mV 12 (cI 0)] [5,10,11,12])
(.block 0 (.loop (.scope q1))))
q2)))
def a_q02d : AFun:=⟨2,[.t 4],P_q02d p_q02d_k1 p_q02d_k2,false,false⟩
def d_q02d (C : Hd) (gl : GL) (q1 q2 : ACode) (v0 v1 : AV) (h : Heap) (x : Esc) (K : KT) : Prop:=
 C f_q02u [v0] h fun t1 h2 y3=>
 pK (oLen v1) fun t4=>
 NW C gl (.loop (.scope q1)) ⟨[(5,t1),(10,v1),(11,t4),(12,(AI 0))],h2,(y3 ++ x)⟩ (blockN 0 (seqN C gl q2 K))
theorem E_q02d {C gl q1 q2 v0 v1 h x K} : NW C gl (P_q02d q1 q2) ⟨enter [v0,v1],h,x⟩ K = d_q02d C gl q1 q2 v0 v1 h x K:=by kernel_rfl
theorem e_q02d {C gl v0 v1 h x K} : NW C gl a_q02d.body ⟨enter [v0,v1],h,x⟩ K = d_q02d C gl p_q02d_k1 p_q02d_k2 v0 v1 h x K:=E_q02d
end Go.Am
end
section
/- The functions asv abstract code,and asv formulas over their values: printed by program out of the translation. -/
set_option linter.unusedVariables false
set_option maxRecDepth 100000
namespace Go.Am
def p_q00w_k1 : ACode:=.pr [0,13,14,15] (.seq (rg [bN 16 .lss 15 14] [0,13,14,15,16])
(.seq (.cond 16 .skip
(.exit 1))
(.seq (.block 2 (.seq (rg [iA 17 none 13 15,
lD 18 none 17,
mV 4 18] [0,4,13,14,15])
(.block 3 (.seq (rg [mV 20 4,
cL 21 f_q000 [20],
uO 22 (.un .not 21),
mV 19 22] [0,4,13,14,15,19])
(.cond 19 (.seq (rg [mV 2 (cI 3)] [2])
.ret)
(.seq (rg [mV 24 4,
uO 25 (.lens 24),
bN 26 .gtr 25 (cI 64),
mV 23 26] [0,4,13,14,15,23])
(.cond 23 (.seq (rg [mV 2 (cI 2)] [2])
.ret)
(.seq (rg [mV 28 4,
uO 29 (.lens 28),
mV 30 0,
iA 31 none 30 (cI 0),
lD 32 none 31,
uO 33 (.lens 32),
bN 34 .neq 29 33,
mV 27 34] [0,13,14,15,27])
(.cond 27 (.seq (rg [mV 2 (cI 3)] [2])
.ret)
.skip)))))))))
(rg [bN 35 .add 15 (cI 1),
mV 15 35] [0,13,14,15]))))
def d_q00w_k1 (C : Hd) (gl : GL) (v0 v13 v14 v15 : AV) (h : Heap) (x : Esc) (K : KT) : Prop:=
 pK (oBin .lss v15 v14) fun t1=>
 condB t1 (pK (oIaddr none v13 v15 h) fun t2=>
 pK (oLoad none t2 h) fun t3=>
 C f_q000 [t3] h fun t4 h5 y6=>
 pK (oUn .not t4) fun t7=>
 condB t7 (K .ret ⟨[(2,(AI 3))],h5,(y6 ++ x)⟩)
 (pK (oLens t3) fun t8=>
 pK (oBin .gtr t8 (AI 64)) fun t9=>
 condB t9 (K .ret ⟨[(2,(AI 2))],h5,(y6 ++ x)⟩)
 (pK (oLens t3) fun t10=>
 pK (oIaddr none v0 (AI 0) h5) fun t11=>
 pK (oLoad none t11 h5) fun t12=>
 pK (oLens t12) fun t13=>
 pK (oBin .neq t10 t13) fun t14=>
 condB t14 (K .ret ⟨[(2,(AI 3))],h5,(y6 ++ x)⟩)
 (pK (oBin .add v15 (AI 1)) fun t15=>
 K .normal ⟨[(0,v0),(13,v13),(14,v14),(15,t15)],h5,(y6 ++ x)⟩))))
 (K (.exit 1) ⟨[(0,v0),(13,v13),(14,v14),(15,v15),(16,t1)],h,x⟩)
theorem e_q00w_k1 {C gl e h x K} : NW C gl p_q00w_k1 ⟨e,h,x⟩ K = d_q00w_k1 C gl (aget e 0) (aget e 13) (aget e 14) (aget e 15) h x K:=by kernel_rfl
theorem l_q00w_k1 {C gl e h x K} : NW C gl (.loop p_q00w_k1) ⟨e,h,x⟩ K = NLoop C gl p_q00w_k1 K [(0,aget e 0),(13,aget e 13),(14,aget e 14),(15,aget e 15)] h x:=NLoop_pr
def p_q00w_k2 : ACode:=.pr [] (.seq (rg [mV 2 (cI 0)] [2])
.ret)
def d_q00w_k2 (C : Hd) (gl : GL) (h : Heap) (x : Esc) (K : KT) : Prop:=
 K .ret ⟨[(2,(AI 0))],h,x⟩
theorem e_q00w_k2 {C gl e h x K} : NW C gl p_q00w_k2 ⟨e,h,x⟩ K = d_q00w_k2 C gl h x K:=by kernel_rfl
def P_q00w (q1 q2 : ACode) : ACode:=(.seq (rg [mV 2 (cI 0)] [0])
(.seq (.block 0 (.seq (rg [mV 6 0,
lN 7 6,
bN 8 .eql 7 (cI 0),
mV 5 8] [0,5])
(.cond 5 (.seq (rg [mV 2 (cI 8)] [2])
.ret)
(.seq (rg [mV 10 0,
lN 11 10,
bN 12 .gtr 11 (cI 100),
mV 9 12] [0,9])
(.cond 9 (.seq (rg [mV 2 (cI 2)] [2])
.ret)
.skip)))))
(.seq (.seq (rg [mV 13 0,
lN 14 13,
mV 15 (cI 0)] [0,13,14,15])
(.block 1 (.loop q1)))
q2)))
def a_q00w : AFun:=⟨1,[.t 2],P_q00w p_q00w_k1 p_q00w_k2,false,false⟩
def d_q00w (C : Hd) (gl : GL) (q1 q2 : ACode) (v0 : AV) (h : Heap) (x : Esc) (K : KT) : Prop:=
 pK (oLen v0) fun t1=>
 pK (oBin .eql t1 (AI 0)) fun t2=>
 condB t2 (K .ret ⟨[(2,(AI 8))],h,x⟩)
 (pK (oLen v0) fun t3=>
 pK (oBin .gtr t3 (AI 100)) fun t4=>
 condB t4 (K .ret ⟨[(2,(AI 2))],h,x⟩)
 (pK (oLen v0) fun t5=>
 NW C gl (.loop q1) ⟨[(0,v0),(13,v0),(14,t5),(15,(AI 0))],h,x⟩ (blockN 1 (seqN C gl q2 K))))
theorem E_q00w {C gl q1 q2 v0 h x K} : NW C gl (P_q00w q1 q2) ⟨enter [v0],h,x⟩ K = d_q00w C gl q1 q2 v0 h x K:=by kernel_rfl
theorem e_q00w {C gl v0 h x K} : NW C gl a_q00w.body ⟨enter [v0],h,x⟩ K = d_q00w C gl p_q00w_k1 p_q00w_k2 v0 h x K:=E_q00w
def p_q00v_k1 : ACode:=.pr [0,3,27,28,29] (.seq (rg [bN 30 .lss 29 28] [0,3,27,28,29,30])
(.seq (.cond 30 .skip
(.exit 1))
(.seq (.block 2 (.seq (rg [iA 31 none 27 29,
lD 32 none 31,
mV 6 32] [0,3,6,27,28,29])
(.seq (rg [mV 33 6,
mV 34 0,
bN 35 .sub 34 (cI 1),
cL 36 f_q006 [33,(cI 0),35]] [0,3,27,28,29,36])
(.cond 36 (.seq (rg [mV 4 (cI 1)] [4])
.ret)
.skip))))
(rg [bN 37 .add 29 (cI 1),
mV 29 37] [0,3,27,28,29]))))
def d_q00v_k1 (C : Hd) (gl : GL) (v0 v3 v27 v28 v29 : AV) (h : Heap) (x : Esc) (K : KT) : Prop:=
 pK (oBin .lss v29 v28) fun t1=>
 condB t1 (pK (oIaddr none v27 v29 h) fun t2=>
 pK (oLoad none t2 h) fun t3=>
 pK (oBin .sub v0 (AI 1)) fun t4=>
 C f_q006 [t3,(AI 0),t4] h fun t5 h6 y7=>
 condB t5 (K .ret ⟨[(4,(AI 1))],h6,(y7 ++ x)⟩)
 (pK (oBin .add v29 (AI 1)) fun t8=>
 K .normal ⟨[(0,v0),(3,v3),(27,v27),(28,v28),(29,t8)],h6,(y7 ++ x)⟩))
 (K (.exit 1) ⟨[(0,v0),(3,v3),(27,v27),(28,v28),(29,v29),(30,t1)],h,x⟩)
theorem e_q00v_k1 {C gl e h x K} : NW C gl p_q00v_k1 ⟨e,h,x⟩ K = d_q00v_k1 C gl (aget e 0) (aget e 3) (aget e 27) (aget e 28) (aget e 29) h x K:=by kernel_rfl
theorem l_q00v_k1 {C gl e h x K} : NW C gl (.loop p_q00v_k1) ⟨e,h,x⟩ K = NLoop C gl p_q00v_k1 K [(0,aget e 0),(3,aget e 3),(27,aget e 27),(28,aget e 28),(29,aget e 29)] h x:=NLoop_pr
def p_q00v_k2 : ACode:=.pr [3,7,8] (.seq (.seq (rg [mV 53 8,
mV 54 7,
lN 55 54,
bN 56 .lss 53 55] [3,7,8,56])
(.cond 56 .skip
(.exit 3)))
(.seq (.block 4 (.seq (dr [dF (mV 59 7) [7],
dF (mV 60 8) [8],
dF (iA 61 none 59 60) [59,60],
dF (lD 62 none 61) [61],
dF (mV 63 7) [7],
dF (mV 64 8) [8],
dF (bN 65 .sub 64 (cI 1)) [64],
dF (iA 66 none 63 65) [63,65],
dF (lD 67 none 66) [66],
dF (bN 68 .leq 62 67) [62,67]] [3,7,8,68])
(.cond 68 (.seq (rg [mV 4 (cI 7)] [4])
.ret)
.skip)))
(rg [mV 57 8,
bN 58 .add 57 (cI 1),
mV 8 58] [3,7,8])))
def d_q00v_k2 (C : Hd) (gl : GL) (v3 v7 v8 : AV) (h : Heap) (x : Esc) (K : KT) : Prop:=
 pK (oLen v7) fun t1=>
 pK (oBin .lss v8 t1) fun t2=>
 condB t2 (pK (oIaddr none v7 v8 h) fun t3=>
 pK (oLoad none t3 h) fun t4=>
 pK (oBin .sub v8 (AI 1)) fun t5=>
 pK (oIaddr none v7 t5 h) fun t6=>
 pK (oLoad none t6 h) fun t7=>
 pK (oBin .leq t4 t7) fun t8=>
 condB t8 (K .ret ⟨[(4,(AI 7))],h,x⟩)
 (pK (oBin .add v8 (AI 1)) fun t9=>
 K .normal ⟨[(3,v3),(7,v7),(8,t9)],h,x⟩))
 (K (.exit 3) ⟨[(3,v3),(7,v7),(8,v8),(56,t2)],h,x⟩)
theorem e_q00v_k2 {C gl e h x K} : NW C gl p_q00v_k2 ⟨e,h,x⟩ K = d_q00v_k2 C gl (aget e 3) (aget e 7) (aget e 8) h x K:=by kernel_rfl
theorem l_q00v_k2 {C gl e h x K} : NW C gl (.loop p_q00v_k2) ⟨e,h,x⟩ K = NLoop C gl p_q00v_k2 K [(3,aget e 3),(7,aget e 7),(8,aget e 8)] h x:=NLoop_pr
def p_q00v_k3 : ACode:=.pr [3,7] (.seq (.seq (rg [fA 69 0 none 3,
lD 70 none 69,
bN 71 .eql 70 (cI 5),
mV 72 71,
gD 73 72 true (.mv 7),
gD 74 72 true (.faddr 1 none 3),
gD 75 72 true (.load none 74),
gD 76 72 true (.iaddr none 75 (cI 0)),
gD 77 72 true (.load none 76),
gD 78 72 true (.call f_q02z [73,77]),
uO 79 (.pick 72 78 cF)] [79])
(.cond 79 (.seq (rg [mV 4 (cI 6)] [4])
.ret)
.skip))
(.seq (rg [mV 4 (cI 0)] [4])
.ret))
def d_q00v_k3 (C : Hd) (gl : GL) (v3 v7 : AV) (h : Heap) (x : Esc) (K : KT) : Prop:=
 pK (oFaddr 0 none v3) fun t1=>
 pK (oLoad none t1 h) fun t2=>
 pK (oBin .eql t2 (AI 5)) fun t3=>
 gM t3 true v7 h fun t4 h5 y6=>
 gP t3 true (oFaddr 1 none v3) h5 fun t7 h8 y9=>
 gP t3 true (oLoad none t7 h8) h8 fun t10 h11 y12=>
 gP t3 true (oIaddr none t10 (AI 0) h11) h11 fun t13 h14 y15=>
 gP t3 true (oLoad none t13 h14) h14 fun t16 h17 y18=>
 gV t3 true h17 (C f_q02z [t4,t16] h17) fun t19 h20 y21=>
 pK (oPick t3 t19 (AB false)) fun t22=>
 condB t22 (K .ret ⟨[(4,(AI 6))],h20,(y21 ++ (y18 ++ (y15 ++ (y12 ++ (y9 ++ (y6 ++ x))))))⟩)
 (K .ret ⟨[(4,(AI 0))],h20,(y21 ++ (y18 ++ (y15 ++ (y12 ++ (y9 ++ (y6 ++ x))))))⟩)
theorem e_q00v_k3 {C gl e h x K} : NW C gl p_q00v_k3 ⟨e,h,x⟩ K = d_q00v_k3 C gl (aget e 3) (aget e 7) h x K:=by kernel_rfl
def P_q00v_k4 (q2 q3 : ACode) : ACode:=.pr [3,7] (.seq (.seq (rg [mV 8 (cI 1)] [3,7,8])
(.block 3 (.loop q2)))
q3)
def p_q00v_k4 : ACode:=P_q00v_k4 p_q00v_k2 p_q00v_k3
def d_q00v_k4 (C : Hd) (gl : GL) (q2 q3 : ACode) (v3 v7 : AV) (h : Heap) (x : Esc) (K : KT) : Prop:=
 NW C gl (.loop q2) ⟨[(3,v3),(7,v7),(8,(AI 1))],h,x⟩ (blockN 3 (seqN C gl q3 K))
theorem E_q00v_k4 {C gl q2 q3 e h x K} : NW C gl (P_q00v_k4 q2 q3) ⟨e,h,x⟩ K = d_q00v_k4 C gl q2 q3 (aget e 3) (aget e 7) h x K:=by kernel_rfl
theorem e_q00v_k4 {C gl e h x K} : NW C gl p_q00v_k4 ⟨e,h,x⟩ K = d_q00v_k4 C gl p_q00v_k2 p_q00v_k3 (aget e 3) (aget e 7) h x K:=E_q00v_k4
def P_q00v_k5 (q4 : ACode) : ACode:=.pr [3] (.seq (.seq (dr [dF (fA 38 0 none 3) [3],
dF (lD 39 none 38) [38],
dT (cL 40 f_q013 [39]) [39],
dF (fA 41 1 none 3) [3],
dA (lD 42 none 41) [41] false [2] [],
dF (lN 43 42) [42],
dF (bN 44 .gtr 43 (cI 1)) [43],
dF (uO 45 (.eqa [] true 40 44)) [40,44]] [3,45])
(.cond 45 (.seq (rg [mV 4 (cI 3)] [4])
.ret)
.skip))
(.seq (rg [fA 46 1 none 3,
lD 47 none 46,
mV 7 47] [3,7])
(.seq (.seq (rg [fA 48 0 none 3,
lD 49 none 48,
bN 50 .eql 49 (cI 5)] [3,7,50])
(.cond 50 (rg [mV 51 7,
uO 52 (.slice none 51 (some (cI 1)) none none),
mV 7 52] [3,7])
.skip))
q4)))
def p_q00v_k5 : ACode:=P_q00v_k5 p_q00v_k4
def d_q00v_k5 (C : Hd) (gl : GL) (q4 : ACode) (v3 : AV) (h : Heap) (x : Esc) (K : KT) : Prop:=
 pK (oFaddr 0 none v3) fun t1=>
 pK (oLoad none t1 h) fun t2=>
 callE C f_q013 [t2] h fun t3 h4 y5=>
 pK (oFaddr 1 none v3) fun t6=>
 pK (oLoad none t6 h4) fun t7=>
 (pK (oLoad none t6 h) fun v=>(fun u (g1 : Heap) (y1 : Esc)=>u = t7 ∧ g1 = h ∧ y1 = []) v h []) ∧ (pK (oLen t7) fun t8=>
 pK (oBin .gtr t8 (AI 1)) fun t9=>
 pK (oEqa [] true t3 t9) fun t10=>
 condB t10 (K .ret ⟨[(4,(AI 3))],h4,(y5 ++ x)⟩)
 (pK (oFaddr 1 none v3) fun t11=>
 pK (oLoad none t11 h4) fun t12=>
 pK (oFaddr 0 none v3) fun t13=>
 pK (oLoad none t13 h4) fun t14=>
 pK (oBin .eql t14 (AI 5)) fun t15=>
 condB t15 (pK (oSlice none t12 (some (AI 1)) none none h4) fun t16=>
 NW C gl q4 ⟨[(3,v3),(7,t16)],h4,(y5 ++ x)⟩ K)
 (NW C gl q4 ⟨[(3,v3),(7,t12),(50,t15)],h4,(y5 ++ x)⟩ K)))
theorem E_q00v_k5 {C gl q4 e h x K} : NW C gl (P_q00v_k5 q4) ⟨e,h,x⟩ K = d_q00v_k5 C gl q4 (aget e 3) h x K:=by kernel_rfl
theorem e_q00v_k5 {C gl e h x K} : NW C gl p_q00v_k5 ⟨e,h,x⟩ K = d_q00v_k5 C gl p_q00v_k4 (aget e 3) h x K:=E_q00v_k5
def P_q00v (q1 q5 : ACode) : ACode:=(.seq (rg [uO 3 (.box 1),
mV 4 (cI 0)] [0,3])
(.seq (.block 0 (.seq (rg [mV 10 0,
cL 11 f_q006 [10,(cI 1),(cI 100)],
mV 9 11] [0,3,9])
(.cond 9 (.seq (rg [mV 4 (cI 1)] [4])
.ret)
(.seq (rg [fA 13 0 none 3,
lD 14 none 13,
cL 15 f_q006 [14,(cI 1),(cI 6)],
mV 12 15] [0,3,12])
(.cond 12 (.seq (rg [mV 4 (cI 4)] [4])
.ret)
(.seq (rg [fA 17 1 none 3,
lD 18 none 17,
lN 19 18,
bN 20 .eql 19 (cI 0),
mV 16 20] [0,3,16])
(.cond 16 (.seq (rg [mV 4 (cI 8)] [4])
.ret)
(.seq (rg [fA 22 1 none 3,
lD 23 none 22,
lN 24 23,
bN 25 .gtr 24 (cI 6),
mV 21 25] [0,3,21])
(.cond 21 (.seq (rg [mV 4 (cI 2)] [4])
.ret)
.skip)))))))))
(.seq (.seq (rg [fA 26 1 none 3,
lD 27 none 26,
lN 28 27,
mV 29 (cI 0)] [0,3,27,28,29])
(.block 1 (.loop q1)))
q5)))
def a_q00v : AFun:=⟨2,[.t 4],P_q00v p_q00v_k1 p_q00v_k5,false,false⟩
def d_q00v (C : Hd) (gl : GL) (q1 q5 : ACode) (v0 v1 : AV) (h : Heap) (x : Esc) (K : KT) : Prop:=
 wK (oBox v1 h) fun t1 h2 y3=>
 C f_q006 [v0,(AI 1),(AI 100)] h2 fun t4 h5 y6=>
 condB t4 (K .ret ⟨[(4,(AI 1))],h5,(y6 ++ (y3 ++ x))⟩)
 (pK (oFaddr 0 none t1) fun t7=>
 pK (oLoad none t7 h5) fun t8=>
 C f_q006 [t8,(AI 1),(AI 6)] h5 fun t9 h10 y11=>
 condB t9 (K .ret ⟨[(4,(AI 4))],h10,(y11 ++ (y6 ++ (y3 ++ x)))⟩)
 (pK (oFaddr 1 none t1) fun t12=>
 pK (oLoad none t12 h10) fun t13=>
 pK (oLen t13) fun t14=>
 pK (oBin .eql t14 (AI 0)) fun t15=>
 condB t15 (K .ret ⟨[(4,(AI 8))],h10,(y11 ++ (y6 ++ (y3 ++ x)))⟩)
 (pK (oFaddr 1 none t1) fun t16=>
 pK (oLoad none t16 h10) fun t17=>
 pK (oLen t17) fun t18=>
 pK (oBin .gtr t18 (AI 6)) fun t19=>
 condB t19 (K .ret ⟨[(4,(AI 2))],h10,(y11 ++ (y6 ++ (y3 ++ x)))⟩)
 (pK (oFaddr 1 none t1) fun t20=>
 pK (oLoad none t20 h10) fun t21=>
 pK (oLen t21) fun t22=>
 NW C gl (.loop q1) ⟨[(0,v0),(3,t1),(27,t21),(28,t22),(29,(AI 0))],h10,(y11 ++ (y6 ++ (y3 ++ x)))⟩ (blockN 1 (seqN C gl q5 K))))))
theorem E_q00v {C gl q1 q5 v0 v1 h x K} : NW C gl (P_q00v q1 q5) ⟨enter [v0,v1],h,x⟩ K = d_q00v C gl q1 q5 v0 v1 h x K:=by kernel_rfl
theorem e_q00v {C gl v0 v1 h x K} : NW C gl a_q00v.body ⟨enter [v0,v1],h,x⟩ K = d_q00v C gl p_q00v_k1 p_q00v_k5 v0 v1 h x K:=E_q00v
def p_q032_k1 : ACode:=.pr [0,1,12,13] (.seq (rg [bN 14 .lss 13 12] [0,1,12,13,14])
(.seq (.cond 14 .skip
(.exit 0))
(.seq (.block 1 (.seq (rg [mV 15 13,
mV 5 15] [0,1,5,12,13])
(.seq (dr [dF (mV 16 0) [0],
dF (mV 17 5) [5],
dF (iA 18 none 16 17) [16,17],
dF (lD 19 none 18) [18],
dF (mV 20 1) [1],
dF (mV 21 5) [5],
dF (iA 22 none 20 21) [20,21],
dF (lD 23 none 22) [22],
dF (bN 24 .neq 19 23) [19,23]] [0,1,12,13,24])
(.cond 24 (.seq (rg [mV 4 cF] [4])
.ret)
.skip))))
(rg [bN 25 .add 13 (cI 1),
mV 13 25] [0,1,12,13]))))
def d_q032_k1 (C : Hd) (gl : GL) (v0 v1 v12 v13 : AV) (h : Heap) (x : Esc) (K : KT) : Prop:=
 pK (oBin .lss v13 v12) fun t1=>
 condB t1 (pK (oIaddr none v0 v13 h) fun t2=>
 pK (oLoad none t2 h) fun t3=>
 pK (oIaddr none v1 v13 h) fun t4=>
 pK (oLoad none t4 h) fun t5=>
 pK (oBin .neq t3 t5) fun t6=>
 condB t6 (K .ret ⟨[(4,(AB false))],h,x⟩)
 (pK (oBin .add v13 (AI 1)) fun t7=>
 K .normal ⟨[(0,v0),(1,v1),(12,v12),(13,t7)],h,x⟩))
 (K (.exit 0) ⟨[(0,v0),(1,v1),(12,v12),(13,v13),(14,t1)],h,x⟩)
theorem e_q032_k1 {C gl e h x K} : NW C gl p_q032_k1 ⟨e,h,x⟩ K = d_q032_k1 C gl (aget e 0) (aget e 1) (aget e 12) (aget e 13) h x K:=by kernel_rfl
theorem l_q032_k1 {C gl e h x K} : NW C gl (.loop p_q032_k1) ⟨e,h,x⟩ K = NLoop C gl p_q032_k1 K [(0,aget e 0),(1,aget e 1),(12,aget e 12),(13,aget e 13)] h x:=NLoop_pr
def p_q032_k2 : ACode:=.pr [] (.seq (rg [mV 4 cT] [4])
.ret)
def d_q032_k2 (C : Hd) (gl : GL) (h : Heap) (x : Esc) (K : KT) : Prop:=
 K .ret ⟨[(4,(AB true))],h,x⟩
theorem e_q032_k2 {C gl e h x K} : NW C gl p_q032_k2 ⟨e,h,x⟩ K = d_q032_k2 C gl h x K:=by kernel_rfl
def P_q032 (q1 q2 : ACode) : ACode:=(.seq (rg [mV 4 cF] [0,1])
(.seq (.seq (rg [mV 6 0,
lN 7 6,
mV 8 1,
lN 9 8,
bN 10 .neq 7 9] [0,1,10])
(.cond 10 (.seq (rg [mV 4 cF] [4])
.ret)
.skip))
(.seq (.seq (rg [mV 11 0,
lN 12 11,
mV 13 (cI 0)] [0,1,12,13])
(.block 0 (.loop q1)))
q2)))
def a_q032 : AFun:=⟨2,[.t 4],P_q032 p_q032_k1 p_q032_k2,false,false⟩
def d_q032 (C : Hd) (gl : GL) (q1 q2 : ACode) (v0 v1 : AV) (h : Heap) (x : Esc) (K : KT) : Prop:=
 pK (oLen v0) fun t1=>
 pK (oLen v1) fun t2=>
 pK (oBin .neq t1 t2) fun t3=>
 condB t3 (K .ret ⟨[(4,(AB false))],h,x⟩)
 (pK (oLen v0) fun t4=>
 NW C gl (.loop q1) ⟨[(0,v0),(1,v1),(12,t4),(13,(AI 0))],h,x⟩ (blockN 0 (seqN C gl q2 K)))
theorem E_q032 {C gl q1 q2 v0 v1 h x K} : NW C gl (P_q032 q1 q2) ⟨enter [v0,v1],h,x⟩ K = d_q032 C gl q1 q2 v0 v1 h x K:=by kernel_rfl
theorem e_q032 {C gl v0 v1 h x K} : NW C gl a_q032.body ⟨enter [v0,v1],h,x⟩ K = d_q032 C gl p_q032_k1 p_q032_k2 v0 v1 h x K:=E_q032
def P_q01y : ACode:=(.seq (rg [mV 0 cF] [])
(.seq (rg [uO 4 (.bsl false none 1 (.str []) [(0,(cS [48,49]))]),
uO 5 (.bsl false none 1 (.int .i64 0) [(0,(cI 0))]),
uO 6 (.build [.p (.int .i64 0),.sl0 none] [(0,1,(cI 2)),(1,1,5)]),
cL 7 f_q010 [4,6],
mV 3 7,
eX 8 3 0,
eX 9 3 1,
mV 1 8,
mV 2 9] [1,2])
(.seq (rg [mV 10 2,
bN 11 .eql 10 (cI 0),
mV 12 11,
gD 13 12 true (.mv 1),
gD 14 12 true (.len 13),
gD 15 12 true (.bin .eql 14 (cI 1)),
uO 16 (.pick 12 15 cF),
mV 17 16,
gD 18 17 true (.mv 1),
gD 19 17 true (.iaddr none 18 (cI 0)),
gD 20 17 true (.load none 19),
gD 21 17 true (.bin .eql 20 (cS [49,49])),
uO 22 (.pick 17 21 cF),
mV 0 22] [0])
.ret)))
def a_q01y : AFun:=⟨0,[.t 0],P_q01y,false,false⟩
def d_q01y (C : Hd) (gl : GL) (h : Heap) (x : Esc) (K : KT) : Prop:=
 wK (oBsl false none 1 (.str []) [(0,(.p (.str [48,49])))] h) fun t1 h2 y3=>
 wK (oBsl false none 1 (.int .i64 0) [(0,(AI 0))] h2) fun t4 h5 y6=>
 pK (oBuild [.p (.int .i64 0),.sl0 none] [(0,1,(AI 2)),(1,1,t4)]) fun t7=>
 C f_q010 [t1,t7] h5 fun t8 h9 y10=>
 pK (oExt t8 0) fun t11=>
 pK (oExt t8 1) fun t12=>
 pK (oBin .eql t12 (AI 0)) fun t13=>
 gM t13 true t11 h9 fun t14 h15 y16=>
 gP t13 true (oLen t14) h15 fun t17 h18 y19=>
 gP t13 true (oBin .eql t17 (AI 1)) h18 fun t20 h21 y22=>
 pK (oPick t13 t20 (AB false)) fun t23=>
 gM t23 true t11 h21 fun t24 h25 y26=>
 gP t23 true (oIaddr none t24 (AI 0) h25) h25 fun t27 h28 y29=>
 gP t23 true (oLoad none t27 h28) h28 fun t30 h31 y32=>
 gP t23 true (oBin .eql t30 (.p (.str [49,49]))) h31 fun t33 h34 y35=>
 pK (oPick t23 t33 (AB false)) fun t36=>
 K .ret ⟨[(0,t36)],h34,(y35 ++ (y32 ++ (y29 ++ (y26 ++ (y22 ++ (y19 ++ (y16 ++ (y10 ++ (y6 ++ (y3 ++ x))))))))))⟩
theorem e_q01y {C gl h x K} : NW C gl a_q01y.body ⟨enter [],h,x⟩ K = d_q01y C gl h x K:=by kernel_rfl
def p_q027_k1 : ACode:=.pr [0,1,5,9,10] (.seq (rg [bN 11 .lss 10 9] [0,1,5,9,10,11])
(.seq (.cond 11 .skip
(.exit 0))
(.seq (.block 1 (.seq (rg [mV 12 10,
mV 6 12] [0,1,5,6,9,10])
(rg [mV 13 5,
mV 14 6,
uO 15 (.bsl false none 1 (.int .i64 0) [(0,14)]),
uO 16 (.app none 13 15),
mV 5 16] [0,1,5,9,10])))
(rg [bN 17 .add 10 (cI 1),
mV 10 17] [0,1,5,9,10]))))
def d_q027_k1 (C : Hd) (gl : GL) (v0 v1 v5 v9 v10 : AV) (h : Heap) (x : Esc) (K : KT) : Prop:=
 pK (oBin .lss v10 v9) fun t1=>
 condB t1 (wK (oBsl false none 1 (.int .i64 0) [(0,v10)] h) fun t2 h3 y4=>
 wK (oApp none v5 t2 h3) fun t5 h6 y7=>
 pK (oBin .add v10 (AI 1)) fun t8=>
 K .normal ⟨[(0,v0),(1,v1),(5,t5),(9,v9),(10,t8)],h6,(y7 ++ (y4 ++ x))⟩)
 (K (.exit 0) ⟨[(0,v0),(1,v1),(5,v5),(9,v9),(10,v10),(11,t1)],h,x⟩)
theorem e_q027_k1 {C gl e h x K} : NW C gl p_q027_k1 ⟨e,h,x⟩ K = d_q027_k1 C gl (aget e 0) (aget e 1) (aget e 5) (aget e 9) (aget e 10) h x K:=by kernel_rfl
theorem l_q027_k1 {C gl e h x K} : NW C gl (.loop (.scope p_q027_k1)) ⟨e,h,x⟩ K = NLoop C gl (.scope p_q027_k1) K [(0,aget e 0),(1,aget e 1),(5,aget e 5),(9,aget e 9),(10,aget e 10)] h x:=NLoop_sc
def p_q027_k2 : ACode:=.pr [0,5,7] (.seq (.seq (rg [mV 20 7,
bN 21 .gtr 20 (cI 0)] [0,5,7,21])
(.cond 21 .skip
(.exit 2)))
(.seq (.block 3 (.seq (rg [mV 24 0,
mV 25 7,
bN 26 .add 25 (cI 1),
cL 27 f_q025 [24,26],
mV 8 27] [0,5,7,8])
(dr [dF (mV 28 5) [5],
dF (mV 29 7) [7],
dF (mV 30 5) [5],
dF (mV 31 8) [8],
dF (mV 32 5) [5],
dF (mV 33 8) [8],
dF (iA 34 none 32 33) [32,33],
dF (lD 35 none 34) [34],
dF (mV 36 5) [5],
dF (mV 37 7) [7],
dF (iA 38 none 36 37) [36,37],
dF (lD 39 none 38) [38],
dF (iA 40 none 28 29) [28,29],
dT (wO (.store none 40 35)) [40,35],
dF (iA 41 none 30 31) [30,31],
dT (wO (.store none 41 39)) [41,39]] [0,5,7])))
(rg [mV 22 7,
bN 23 .sub 22 (cI 1),
mV 7 23] [0,5,7])))
def d_q027_k2 (C : Hd) (gl : GL) (v0 v5 v7 : AV) (h : Heap) (x : Esc) (K : KT) : Prop:=
 pK (oBin .gtr v7 (AI 0)) fun t1=>
 condB t1 (pK (oBin .add v7 (AI 1)) fun t2=>
 C f_q025 [v0,t2] h fun t3 h4 y5=>
 pK (oIaddr none v5 t3 h4) fun t6=>
 pK (oLoad none t6 h4) fun t7=>
 pK (oIaddr none v5 v7 h4) fun t8=>
 pK (oLoad none t8 h4) fun t9=>
 pK (oIaddr none v5 v7 h4) fun t10=>
 wK (oStore none t10 t7 h4) fun t11 h12 y13=>
 pK (oIaddr none v5 t3 h12) fun t14=>
 wK (oStore none t14 t9 h12) fun t15 h16 y17=>
 pK (oBin .sub v7 (AI 1)) fun t18=>
 K .normal ⟨[(0,v0),(5,v5),(7,t18)],h16,(y17 ++ (y13 ++ (y5 ++ x)))⟩)
 (K (.exit 2) ⟨[(0,v0),(5,v5),(7,v7),(21,t1)],h,x⟩)
theorem e_q027_k2 {C gl e h x K} : NW C gl p_q027_k2 ⟨e,h,x⟩ K = d_q027_k2 C gl (aget e 0) (aget e 5) (aget e 7) h x K:=by kernel_rfl
theorem l_q027_k2 {C gl e h x K} : NW C gl (.loop p_q027_k2) ⟨e,h,x⟩ K = NLoop C gl p_q027_k2 K [(0,aget e 0),(5,aget e 5),(7,aget e 7)] h x:=NLoop_pr
def p_q027_k3 : ACode:=.pr [5] (.seq (rg [mV 42 5,
mV 4 42] [4])
.ret)
def d_q027_k3 (C : Hd) (gl : GL) (v5 : AV) (h : Heap) (x : Esc) (K : KT) : Prop:=
 K .ret ⟨[(4,v5)],h,x⟩
theorem e_q027_k3 {C gl e h x K} : NW C gl p_q027_k3 ⟨e,h,x⟩ K = d_q027_k3 C gl (aget e 5) h x K:=by kernel_rfl
def P_q027_k4 (q2 q3 : ACode) : ACode:=.pr [0,1,5] (.seq (.seq (rg [mV 18 1,
bN 19 .sub 18 (cI 1),
mV 7 19] [0,5,7])
(.block 2 (.loop q2)))
q3)
def p_q027_k4 : ACode:=P_q027_k4 p_q027_k2 p_q027_k3
def d_q027_k4 (C : Hd) (gl : GL) (q2 q3 : ACode) (v0 v1 v5 : AV) (h : Heap) (x : Esc) (K : KT) : Prop:=
 pK (oBin .sub v1 (AI 1)) fun t1=>
 NW C gl (.loop q2) ⟨[(0,v0),(5,v5),(7,t1)],h,x⟩ (blockN 2 (seqN C gl q3 K))
theorem E_q027_k4 {C gl q2 q3 e h x K} : NW C gl (P_q027_k4 q2 q3) ⟨e,h,x⟩ K = d_q027_k4 C gl q2 q3 (aget e 0) (aget e 1) (aget e 5) h x K:=by kernel_rfl
theorem e_q027_k4 {C gl e h x K} : NW C gl p_q027_k4 ⟨e,h,x⟩ K = d_q027_k4 C gl p_q027_k2 p_q027_k3 (aget e 0) (aget e 1) (aget e 5) h x K:=E_q027_k4
def P_q027 (q1 q4 : ACode) : ACode:=(.seq (rg [mV 4 (.c (.p (.sl none [])))] [0,1])
(.seq (rg [uO 5 (.new0 none)] [0,1,5])
(.seq (.seq (rg [mV 9 1,
mV 10 (cI 0)] [0,1,5,9,10])
(.block 0 (.loop (.scope q1))))
q4)))
def a_q027 : AFun:=⟨2,[.t 4],P_q027 p_q027_k1 p_q027_k4,false,true⟩
def d_q027 (C : Hd) (gl : GL) (q1 q4 : ACode) (v0 v1 : AV) (h : Heap) (x : Esc) (K : KT) : Prop:=
 nwK none h fun t1 h2 y3=>
 NW C gl (.loop (.scope q1)) ⟨[(0,v0),(1,v1),(5,t1),(9,v1),(10,(AI 0))],h2,(y3 ++ x)⟩ (blockN 0 (seqN C gl q4 K))
theorem E_q027 {C gl q1 q4 v0 v1 h x K} : NW C gl (P_q027 q1 q4) ⟨enter [v0,v1],h,x⟩ K = d_q027 C gl q1 q4 v0 v1 h x K:=by kernel_rfl
theorem e_q027 {C gl v0 v1 h x K} : NW C gl a_q027.body ⟨enter [v0,v1],h,x⟩ K = d_q027 C gl p_q027_k1 p_q027_k4 v0 v1 h x K:=E_q027
def P_q02z : ACode:=(.seq (rg [mV 4 cF] [0,1])
(.seq (rg [mV 5 0,
mV 6 1,
cL 7 f_q036 [5,6],
bN 8 .geq 7 (cI 0),
mV 4 8] [4])
.ret))
def a_q02z : AFun:=⟨2,[.t 4],P_q02z,true,false⟩
def d_q02z (C : Hd) (gl : GL) (v0 v1 : AV) (h : Heap) (x : Esc) (K : KT) : Prop:=
 C f_q036 [v0,v1] h fun t1 h2 y3=>
 pK (oBin .geq t1 (AI 0)) fun t4=>
 K .ret ⟨[(4,t4)],h2,(y3 ++ x)⟩
theorem e_q02z {C gl v0 v1 h x K} : NW C gl a_q02z.body ⟨enter [v0,v1],h,x⟩ K = d_q02z C gl v0 v1 h x K:=by kernel_rfl
def P_q029 : ACode:=(.seq (rg [mV 6 (cI 0)] [0,1,2])
(.seq (.seq (rg [mV 7 2,
mV 8 1,
bN 9 .lss 7 8] [0,1,2,9])
(.cond 9 (.seq (rg [mV 10 1,
mV 6 10] [6])
.ret)
.skip))
(.seq (rg [mV 11 1,
mV 12 0,
mV 13 2,
mV 14 1,
bN 15 .sub 13 14,
bN 16 .add 15 (cI 1),
cL 17 f_q025 [12,16],
bN 18 .add 11 17,
mV 6 18] [6])
.ret)))
def a_q029 : AFun:=⟨3,[.t 6],P_q029,false,false⟩
def d_q029 (C : Hd) (gl : GL) (v0 v1 v2 : AV) (h : Heap) (x : Esc) (K : KT) : Prop:=
 pK (oBin .lss v2 v1) fun t1=>
 condB t1 (K .ret ⟨[(6,v1)],h,x⟩)
 (pK (oBin .sub v2 v1) fun t2=>
 pK (oBin .add t2 (AI 1)) fun t3=>
 C f_q025 [v0,t3] h fun t4 h5 y6=>
 pK (oBin .add v1 t4) fun t7=>
 K .ret ⟨[(6,t7)],h5,(y6 ++ x)⟩)
theorem e_q029 {C gl v0 v1 v2 h x K} : NW C gl a_q029.body ⟨enter [v0,v1,v2],h,x⟩ K = d_q029 C gl v0 v1 v2 h x K:=by kernel_rfl
def P_q02b : ACode:=(.seq (rg [mV 4 (cS [])] [0,1])
(.seq (rg [mV 5 1,
mV 6 0,
mV 7 1,
lN 8 7,
cL 9 f_q025 [6,8],
iA 10 none 5 9,
lD 11 none 10,
mV 4 11] [4])
.ret))
def a_q02b : AFun:=⟨2,[.t 4],P_q02b,false,false⟩
def d_q02b (C : Hd) (gl : GL) (v0 v1 : AV) (h : Heap) (x : Esc) (K : KT) : Prop:=
 pK (oLen v1) fun t1=>
 C f_q025 [v0,t1] h fun t2 h3 y4=>
 pK (oIaddr none v1 t2 h3) fun t5=>
 pK (oLoad none t5 h3) fun t6=>
 K .ret ⟨[(4,t6)],h3,(y4 ++ x)⟩
theorem e_q02b {C gl v0 v1 h x K} : NW C gl a_q02b.body ⟨enter [v0,v1],h,x⟩ K = d_q02b C gl v0 v1 h x K:=by kernel_rfl
def P_q024 : ACode:=(.seq (rg [mV 4 cF] [0,1])
(.seq (rg [mV 5 0,
mV 6 1,
cL 7 f_q025 [5,6],
bN 8 .eql 7 (cI 0),
mV 4 8] [4])
.ret))
def a_q024 : AFun:=⟨2,[.t 4],P_q024,false,false⟩
def d_q024 (C : Hd) (gl : GL) (v0 v1 : AV) (h : Heap) (x : Esc) (K : KT) : Prop:=
 C f_q025 [v0,v1] h fun t1 h2 y3=>
 pK (oBin .eql t1 (AI 0)) fun t4=>
 K .ret ⟨[(4,t4)],h2,(y3 ++ x)⟩
theorem e_q024 {C gl v0 v1 h x K} : NW C gl a_q024.body ⟨enter [v0,v1],h,x⟩ K = d_q024 C gl v0 v1 h x K:=by kernel_rfl
def P_q025 : ACode:=(.seq (rg [mV 4 (cI 0)] [0,1])
(.seq (rg [mV 7 0,
uO 8 (.nilchk 7),
fA 9 1 none 8,
lD 10 none 9,
bN 11 .add 10 (cI 1),
uO 12 (.nilchk 7),
fA 13 1 none 12,
wO (.store none 13 11)] [0,1])
(.seq (.seq (rg [mV 14 0,
uO 15 (.nilchk 14),
fA 16 0 none 15,
lD 17 none 16,
lN 18 17,
bN 19 .eql 18 (cI 0)] [0,1,19])
(.cond 19 (.seq (rg [mV 20 0,
uO 21 (.nilchk 20),
fA 22 1 none 21,
lD 23 none 22,
bN 24 .mul 23 (cI 7919),
mV 25 1,
cL 26 f_q020 [24,25],
mV 4 26] [4])
.ret)
.skip))
(.seq (dr [dF (mV 27 0) [0],
dF (uO 28 (.nilchk 27)) [27],
dF (fA 29 1 none 28) [28],
dF (lD 30 none 29) [29],
dF (bN 31 .sub 30 (cI 1)) [30],
dF (mV 32 0) [0],
dF (uO 33 (.nilchk 32)) [32],
dF (fA 34 0 none 33) [33],
dF (lD 35 none 34) [34],
dF (lN 36 35) [35],
dF (bN 37 .rem 31 36) [31,36],
dF (mV 5 37) [37]] [0,1,5])
(.seq (dr [dF (mV 38 0) [0],
dF (uO 39 (.nilchk 38)) [38],
dF (fA 40 1 none 39) [39],
dF (lD 41 none 40) [40],
dF (bN 42 .sub 41 (cI 1)) [41],
dF (mV 43 0) [0],
dF (uO 44 (.nilchk 43)) [43],
dF (fA 45 0 none 44) [44],
dF (lD 46 none 45) [45],
dF (lN 47 46) [46],
dF (bN 48 .quo 42 47) [42,47],
dF (mV 6 48) [48]] [0,1,5,6])
(.seq (rg [mV 49 0,
uO 50 (.nilchk 49),
fA 51 0 none 50,
lD 52 none 51,
mV 53 5,
iA 54 none 52 53,
lD 55 none 54,
cL 56 f_q020 [55,(cI 1073741824)],
mV 57 6,
mV 58 5,
bN 59 .add (cI 7919) 58,
bN 60 .mul 57 59,
bN 61 .add 56 60,
mV 62 1,
cL 63 f_q020 [61,62],
mV 4 63] [4])
.ret))))))
def a_q025 : AFun:=⟨2,[.t 4],P_q025,false,false⟩
def d_q025 (C : Hd) (gl : GL) (v0 v1 : AV) (h : Heap) (x : Esc) (K : KT) : Prop:=
 pK (oNil v0) fun t1=>
 pK (oFaddr 1 none t1) fun t2=>
 pK (oLoad none t2 h) fun t3=>
 pK (oBin .add t3 (AI 1)) fun t4=>
 pK (oNil v0) fun t5=>
 pK (oFaddr 1 none t5) fun t6=>
 wK (oStore none t6 t4 h) fun t7 h8 y9=>
 pK (oNil v0) fun t10=>
 pK (oFaddr 0 none t10) fun t11=>
 pK (oLoad none t11 h8) fun t12=>
 pK (oLen t12) fun t13=>
 pK (oBin .eql t13 (AI 0)) fun t14=>
 condB t14 (pK (oNil v0) fun t15=>
 pK (oFaddr 1 none t15) fun t16=>
 pK (oLoad none t16 h8) fun t17=>
 pK (oBin .mul t17 (AI 7919)) fun t18=>
 C f_q020 [t18,v1] h8 fun t19 h20 y21=>
 K .ret ⟨[(4,t19)],h20,(y21 ++ (y9 ++ x))⟩)
 (pK (oNil v0) fun t22=>
 pK (oFaddr 1 none t22) fun t23=>
 pK (oLoad none t23 h8) fun t24=>
 pK (oBin .sub t24 (AI 1)) fun t25=>
 pK (oNil v0) fun t26=>
 pK (oFaddr 0 none t26) fun t27=>
 pK (oLoad none t27 h8) fun t28=>
 pK (oLen t28) fun t29=>
 pK (oBin .rem t25 t29) fun t30=>
 pK (oNil v0) fun t31=>
 pK (oFaddr 1 none t31) fun t32=>
 pK (oLoad none t32 h8) fun t33=>
 pK (oBin .sub t33 (AI 1)) fun t34=>
 pK (oNil v0) fun t35=>
 pK (oFaddr 0 none t35) fun t36=>
 pK (oLoad none t36 h8) fun t37=>
 pK (oLen t37) fun t38=>
 pK (oBin .quo t34 t38) fun t39=>
 pK (oNil v0) fun t40=>
 pK (oFaddr 0 none t40) fun t41=>
 pK (oLoad none t41 h8) fun t42=>
 pK (oIaddr none t42 t30 h8) fun t43=>
 pK (oLoad none t43 h8) fun t44=>
 C f_q020 [t44,(AI 1073741824)] h8 fun t45 h46 y47=>
 pK (oBin .add (AI 7919) t30) fun t48=>
 pK (oBin .mul t39 t48) fun t49=>
 pK (oBin .add t45 t49) fun t50=>
 C f_q020 [t50,v1] h46 fun t51 h52 y53=>
 K .ret ⟨[(4,t51)],h52,(y53 ++ (y47 ++ (y9 ++ x)))⟩)
theorem e_q025 {C gl v0 v1 h x K} : NW C gl a_q025.body ⟨enter [v0,v1],h,x⟩ K = d_q025 C gl v0 v1 h x K:=by kernel_rfl
def P_q038 : ACode:=(.seq (rg [mV 3 0,
lN 4 3,
mV 2 4] [0,2])
(rg [mV 5 0,
mV 6 2,
mV 7 2,
uO 8 (.conv (.i .u64) 7),
cL 9 f_q01l [8],
cL 10 f_q03k [5,(cI 0),6,9]] []))
def a_q038 : AFun:=⟨1,[],P_q038,true,false⟩
def d_q038 (C : Hd) (gl : GL) (v0 : AV) (h : Heap) (x : Esc) (K : KT) : Prop:=
 pK (oLen v0) fun t1=>
 pK (oConvI .u64 t1) fun t2=>
 C f_q01l [t2] h fun t3 h4 y5=>
 C f_q03k [v0,(AI 0),t1,t3] h4 fun t6 h7 y8=>
 K .normal ⟨[],h7,(y8 ++ (y5 ++ x))⟩
theorem e_q038 {C gl v0 h x K} : NW C gl a_q038.body ⟨enter [v0],h,x⟩ K = d_q038 C gl v0 h x K:=by kernel_rfl
def P_q026 : ACode:=(.seq (rg [mV 6 (cI 0)] [0,1,2])
(.seq (.seq (rg [mV 7 0,
cL 8 f_q024 [7,(cI 12)]] [0,1,2,8])
(.cond 8 (.seq (rg [mV 9 0,
mV 10 1,
bN 11 .sub 10 (cI 1),
mV 12 2,
bN 13 .add 12 (cI 1),
mV 14 1,
mV 15 2,
uO 16 (.bsl false none 6 (.int .i64 0) [(0,11),(1,13),(2,14),(3,15),(4,(cI (-1099511627776))),(5,(cI 1099511627776))]),
cL 17 f_q028 [9,16],
mV 6 17] [6])
.ret)
.skip))
(.seq (rg [mV 18 0,
mV 19 1,
mV 20 2,
cL 21 f_q029 [18,19,20],
mV 6 21] [6])
.ret)))
def a_q026 : AFun:=⟨3,[.t 6],P_q026,false,false⟩
def d_q026 (C : Hd) (gl : GL) (v0 v1 v2 : AV) (h : Heap) (x : Esc) (K : KT) : Prop:=
 C f_q024 [v0,(AI 12)] h fun t1 h2 y3=>
 condB t1 (pK (oBin .sub v1 (AI 1)) fun t4=>
 pK (oBin .add v2 (AI 1)) fun t5=>
 wK (oBsl false none 6 (.int .i64 0) [(0,t4),(1,t5),(2,v1),(3,v2),(4,(AI (-1099511627776))),(5,(AI 1099511627776))] h2) fun t6 h7 y8=>
 C f_q028 [v0,t6] h7 fun t9 h10 y11=>
 K .ret ⟨[(6,t9)],h10,(y11 ++ (y8 ++ (y3 ++ x)))⟩)
 (C f_q029 [v0,v1,v2] h2 fun t12 h13 y14=>
 K .ret ⟨[(6,t12)],h13,(y14 ++ (y3 ++ x))⟩)
theorem e_q026 {C gl v0 v1 v2 h x K} : NW C gl a_q026.body ⟨enter [v0,v1,v2],h,x⟩ K = d_q026 C gl v0 v1 v2 h x K:=by kernel_rfl
def P_q02t : ACode:=(.det (.seq (rg [mV 2 (.c (.p (.sl none [])))] [0])
(.seq (.seq (rg [mV 3 0,
uO 4 (.isnil 4 false 3)] [0,4])
(.condu 4 (.seq (rg [uO 2 (.new0 none)] [2])
.ret)
.skip))
(.seq (rg [uO 5 (.bsl true none 0 (.int .i64 0) []),
mV 6 0,
uO 7 (.app none 5 6),
mV 2 7] [2])
.ret))))
def a_q02t : AFun:=⟨1,[.t 2],P_q02t,false,true⟩
def d_q02t (C : Hd) (gl : GL) (v0 : AV) (h : Heap) (x : Esc) (K : KT) : Prop:=
 pK (oIsnil 4 false v0) fun t1=>
 condU t1 (nwK none h fun t2 h3 y4=>
 K .ret ⟨[(2,t2)],h3,(y4 ++ x)⟩)
 (wK (oBsl true none 0 (.int .i64 0) [] h) fun t5 h6 y7=>
 wK (oApp none t5 v0 h6) fun t8 h9 y10=>
 K .ret ⟨[(2,t8)],h9,(y10 ++ (y7 ++ x))⟩)
theorem e_q02t {C gl v0 h x K} : NW C gl a_q02t.body ⟨enter [v0],h,x⟩ K = d_q02t C gl v0 h x K:=by kernel_rfl
def p_q012_k1 : ACode:=.pr [0,14,15,16] (.seq (rg [bN 17 .lss 16 15] [0,14,15,16,17])
(.seq (.cond 17 .skip
(.exit 0))
(.seq (.block 1 (.seq (rg [iA 18 (some 2) 14 16,
lD 19 (some 2) 18,
uO 7 (.alloc [.p (.int .i64 0),.sl0 none]),
wO (.store (some 2) 7 19)] [0,7,14,15,16])
(.seq (rg [mV 20 0,
lN 21 20,
lD 22 (some 2) 7,
cL 23 f_q00v [21,22],
mV 8 23] [0,8,14,15,16])
(.seq (rg [mV 24 8,
bN 25 .neq 24 (cI 0)] [0,8,14,15,16,25])
(.cond 25 (.seq (rg [mV 26 8,
mV 4 26] [4])
.ret)
.skip)))))
(rg [bN 27 .add 16 (cI 1),
mV 16 27] [0,14,15,16]))))
def d_q012_k1 (C : Hd) (gl : GL) (v0 v14 v15 v16 : AV) (h : Heap) (x : Esc) (K : KT) : Prop:=
 pK (oBin .lss v16 v15) fun t1=>
 condB t1 (pK (oIaddr (some 2) v14 v16 h) fun t2=>
 pK (oLoad (some 2) t2 h) fun t3=>
 alK [.p (.int .i64 0),.sl0 none] h fun t4 h5 y6=>
 wK (oStore (some 2) t4 t3 h5) fun t7 h8 y9=>
 pK (oLen v0) fun t10=>
 pK (oLoad (some 2) t4 h8) fun t11=>
 C f_q00v [t10,t11] h8 fun t12 h13 y14=>
 pK (oBin .neq t12 (AI 0)) fun t15=>
 condB t15 (K .ret ⟨[(4,t12)],h13,(y14 ++ (y9 ++ (y6 ++ x)))⟩)
 (pK (oBin .add v16 (AI 1)) fun t16=>
 K .normal ⟨[(0,v0),(14,v14),(15,v15),(16,t16)],h13,(y14 ++ (y9 ++ (y6 ++ x)))⟩))
 (K (.exit 0) ⟨[(0,v0),(14,v14),(15,v15),(16,v16),(17,t1)],h,x⟩)
theorem e_q012_k1 {C gl e h x K} : NW C gl p_q012_k1 ⟨e,h,x⟩ K = d_q012_k1 C gl (aget e 0) (aget e 14) (aget e 15) (aget e 16) h x K:=by kernel_rfl
theorem l_q012_k1 {C gl e h x K} : NW C gl (.loop (.scope p_q012_k1)) ⟨e,h,x⟩ K = NLoop C gl (.scope p_q012_k1) K [(0,aget e 0),(14,aget e 14),(15,aget e 15),(16,aget e 16)] h x:=NLoop_sc
def p_q012_k2 : ACode:=.pr [] (.seq (rg [mV 4 (cI 0)] [4])
.ret)
def d_q012_k2 (C : Hd) (gl : GL) (h : Heap) (x : Esc) (K : KT) : Prop:=
 K .ret ⟨[(4,(AI 0))],h,x⟩
theorem e_q012_k2 {C gl e h x K} : NW C gl p_q012_k2 ⟨e,h,x⟩ K = d_q012_k2 C gl h x K:=by kernel_rfl
def P_q012 (q1 q2 : ACode) : ACode:=(.seq (rg [mV 4 (cI 0)] [0,1])
(.seq (.seq (rg [mV 9 0,
cL 10 f_q00w [9],
mV 5 10] [0,1,5])
(.seq (rg [mV 11 5,
bN 12 .neq 11 (cI 0)] [0,1,5,12])
(.cond 12 (.seq (rg [mV 13 5,
mV 4 13] [4])
.ret)
.skip)))
(.seq (.seq (rg [mV 14 1,
lN 15 14,
mV 16 (cI 0)] [0,14,15,16])
(.block 0 (.loop (.scope q1))))
q2)))
def a_q012 : AFun:=⟨2,[.t 4],P_q012 p_q012_k1 p_q012_k2,false,false⟩
def d_q012 (C : Hd) (gl : GL) (q1 q2 : ACode) (v0 v1 : AV) (h : Heap) (x : Esc) (K : KT) : Prop:=
 C f_q00w [v0] h fun t1 h2 y3=>
 pK (oBin .neq t1 (AI 0)) fun t4=>
 condB t4 (K .ret ⟨[(4,t1)],h2,(y3 ++ x)⟩)
 (pK (oLen v1) fun t5=>
 NW C gl (.loop (.scope q1)) ⟨[(0,v0),(14,v1),(15,t5),(16,(AI 0))],h2,(y3 ++ x)⟩ (blockN 0 (seqN C gl q2 K)))
theorem E_q012 {C gl q1 q2 v0 v1 h x K} : NW C gl (P_q012 q1 q2) ⟨enter [v0,v1],h,x⟩ K = d_q012 C gl q1 q2 v0 v1 h x K:=by kernel_rfl
theorem e_q012 {C gl v0 v1 h x K} : NW C gl a_q012.body ⟨enter [v0,v1],h,x⟩ K = d_q012 C gl p_q012_k1 p_q012_k2 v0 v1 h x K:=E_q012
def p_q015_k1 : ACode:=.pr [3,5,6,8,9,10,15,16] (.seq (rg [bN 17 .lss 16 15] [3,5,6,8,9,10,15,16,17])
(.seq (.cond 17 .skip
(.exit 2))
(.seq (.block 3 (.seq (rg [mV 18 16,
mV 7 18] [3,5,6,7,8,9,10,15,16])
(rg [mV 19 6,
mV 20 5,
mV 21 7,
uO 22 (.idxs 20 21),
bN 23 .sub 22 (.c (.p (.int .u8 48))),
uO 24 (.conv (.i .u64) 23),
mV 25 7,
bN 26 .shl 24 25,
bN 27 .or 19 26,
mV 6 27] [3,5,6,8,9,10,15,16])))
(rg [bN 28 .add 16 (cI 1),
mV 16 28] [3,5,6,8,9,10,15,16]))))
def d_q015_k1 (C : Hd) (gl : GL) (v3 v5 v6 v8 v9 v10 v15 v16 : AV) (h : Heap) (x : Esc) (K : KT) : Prop:=
 pK (oBin .lss v16 v15) fun t1=>
 condB t1 (pK (oIdxs v5 v16) fun t2=>
 pK (oBin .sub t2 (.p (.int .u8 48))) fun t3=>
 pK (oConvI .u64 t3) fun t4=>
 pK (oBin .shl t4 v16) fun t5=>
 pK (oBin .or v6 t5) fun t6=>
 pK (oBin .add v16 (AI 1)) fun t7=>
 K .normal ⟨[(3,v3),(5,v5),(6,t6),(8,v8),(9,v9),(10,v10),(15,v15),(16,t7)],h,x⟩)
 (K (.exit 2) ⟨[(3,v3),(5,v5),(6,v6),(8,v8),(9,v9),(10,v10),(15,v15),(16,v16),(17,t1)],h,x⟩)
theorem e_q015_k1 {C gl e h x K} : NW C gl p_q015_k1 ⟨e,h,x⟩ K = d_q015_k1 C gl (aget e 3) (aget e 5) (aget e 6) (aget e 8) (aget e 9) (aget e 10) (aget e 15) (aget e 16) h x K:=by kernel_rfl
theorem l_q015_k1 {C gl e h x K} : NW C gl (.loop p_q015_k1) ⟨e,h,x⟩ K = NLoop C gl p_q015_k1 K [(3,aget e 3),(5,aget e 5),(6,aget e 6),(8,aget e 8),(9,aget e 9),(10,aget e 10),(15,aget e 15),(16,aget e 16)] h x:=NLoop_pr
def p_q015_k2 : ACode:=.pr [3,6,8,9,10] (rg [mV 29 3,
mV 30 6,
uO 31 (.bsl false none 1 (.int .u64 0) [(0,30)]),
uO 32 (.app none 29 31),
mV 3 32] [3,8,9,10])
def d_q015_k2 (C : Hd) (gl : GL) (v3 v6 v8 v9 v10 : AV) (h : Heap) (x : Esc) (K : KT) : Prop:=
 wK (oBsl false none 1 (.int .u64 0) [(0,v6)] h) fun t1 h2 y3=>
 wK (oApp none v3 t1 h2) fun t4 h5 y6=>
 K .normal ⟨[(3,t4),(8,v8),(9,v9),(10,v10)],h5,(y6 ++ (y3 ++ x))⟩
theorem e_q015_k2 {C gl e h x K} : NW C gl p_q015_k2 ⟨e,h,x⟩ K = d_q015_k2 C gl (aget e 3) (aget e 6) (aget e 8) (aget e 9) (aget e 10) h x K:=by kernel_rfl
def p_q015_k3 : ACode:=.pr [3,8,9,10] (rg [bN 33 .add 10 (cI 1),
mV 10 33] [3,8,9,10])
def d_q015_k3 (C : Hd) (gl : GL) (v3 v8 v9 v10 : AV) (h : Heap) (x : Esc) (K : KT) : Prop:=
 pK (oBin .add v10 (AI 1)) fun t1=>
 K .normal ⟨[(3,v3),(8,v8),(9,v9),(10,t1)],h,x⟩
theorem e_q015_k3 {C gl e h x K} : NW C gl p_q015_k3 ⟨e,h,x⟩ K = d_q015_k3 C gl (aget e 3) (aget e 8) (aget e 9) (aget e 10) h x K:=by kernel_rfl
def P_q015_k4 (q1 q2 q3 : ACode) : ACode:=.pr [3,8,9,10] (.seq (rg [bN 11 .lss 10 9] [3,8,9,10,11])
(.seq (.cond 11 .skip
(.exit 0))
(.seq (.block 1 (.seq (rg [iA 12 none 8 10,
lD 13 none 12,
mV 5 13] [3,5,8,9,10])
(.seq (rg [mV 6 (.c (.p (.int .u64 0)))] [3,5,6,8,9,10])
(.seq (.seq (rg [mV 14 5,
uO 15 (.lens 14),
mV 16 (cI 0)] [3,5,6,8,9,10,15,16])
(.block 2 (.loop q1)))
q2))))
q3)))
def p_q015_k4 : ACode:=P_q015_k4 p_q015_k1 p_q015_k2 p_q015_k3
def d_q015_k4 (C : Hd) (gl : GL) (q1 q2 q3 : ACode) (v3 v8 v9 v10 : AV) (h : Heap) (x : Esc) (K : KT) : Prop:=
 pK (oBin .lss v10 v9) fun t1=>
 condB t1 (pK (oIaddr none v8 v10 h) fun t2=>
 pK (oLoad none t2 h) fun t3=>
 pK (oLens t3) fun t4=>
 NW C gl (.loop q1) ⟨[(3,v3),(5,t3),(6,(.p (.int .u64 0))),(8,v8),(9,v9),(10,v10),(15,t4),(16,(AI 0))],h,x⟩ (blockN 2 (seqN C gl q2 (blockN 1 (seqN C gl q3 K)))))
 (K (.exit 0) ⟨[(3,v3),(8,v8),(9,v9),(10,v10),(11,t1)],h,x⟩)
theorem E_q015_k4 {C gl q1 q2 q3 e h x K} : NW C gl (P_q015_k4 q1 q2 q3) ⟨e,h,x⟩ K = d_q015_k4 C gl q1 q2 q3 (aget e 3) (aget e 8) (aget e 9) (aget e 10) h x K:=by kernel_rfl
theorem e_q015_k4 {C gl e h x K} : NW C gl p_q015_k4 ⟨e,h,x⟩ K = d_q015_k4 C gl p_q015_k1 p_q015_k2 p_q015_k3 (aget e 3) (aget e 8) (aget e 9) (aget e 10) h x K:=E_q015_k4
theorem l_q015_k4 {C gl e h x K} : NW C gl (.loop (.scope p_q015_k4)) ⟨e,h,x⟩ K = NLoop C gl (.scope p_q015_k4) K [(3,aget e 3),(8,aget e 8),(9,aget e 9),(10,aget e 10)] h x:=NLoop_sc
def p_q015_k5 : ACode:=.pr [3] (.seq (rg [mV 34 3,
mV 2 34] [2])
.ret)
def d_q015_k5 (C : Hd) (gl : GL) (v3 : AV) (h : Heap) (x : Esc) (K : KT) : Prop:=
 K .ret ⟨[(2,v3)],h,x⟩
theorem e_q015_k5 {C gl e h x K} : NW C gl p_q015_k5 ⟨e,h,x⟩ K = d_q015_k5 C gl (aget e 3) h x K:=by kernel_rfl
def P_q015 (q4 q5 : ACode) : ACode:=(.seq (rg [mV 2 (.c (.p (.sl none [])))] [0])
(.seq (rg [uO 3 (.new0 none)] [0,3])
(.seq (.seq (rg [mV 8 0,
lN 9 8,
mV 10 (cI 0)] [3,8,9,10])
(.block 0 (.loop (.scope q4))))
q5)))
def a_q015 : AFun:=⟨1,[.t 2],P_q015 p_q015_k4 p_q015_k5,false,true⟩
def d_q015 (C : Hd) (gl : GL) (q4 q5 : ACode) (v0 : AV) (h : Heap) (x : Esc) (K : KT) : Prop:=
 nwK none h fun t1 h2 y3=>
 pK (oLen v0) fun t4=>
 NW C gl (.loop (.scope q4)) ⟨[(3,t1),(8,v0),(9,t4),(10,(AI 0))],h2,(y3 ++ x)⟩ (blockN 0 (seqN C gl q5 K))
theorem E_q015 {C gl q4 q5 v0 h x K} : NW C gl (P_q015 q4 q5) ⟨enter [v0],h,x⟩ K = d_q015 C gl q4 q5 v0 h x K:=by kernel_rfl
theorem e_q015 {C gl v0 h x K} : NW C gl a_q015.body ⟨enter [v0],h,x⟩ K = d_q015 C gl p_q015_k4 p_q015_k5 v0 h x K:=E_q015
def p_q018_k1 : ACode:=.pr [0,4,6,31,32,33] (.seq (rg [bN 34 .lss 33 32] [0,4,6,31,32,33,34])
(.seq (.cond 34 .skip
(.exit 1))
(.seq (.block 2 (.seq (rg [iA 35 none 31 33,
lD 36 none 35,
mV 8 36] [0,4,6,8,31,32,33])
(rg [mV 37 6,
mV 38 0,
mV 39 8,
iA 40 none 38 39,
lD 41 none 40,
bN 42 .and 37 41,
mV 6 42] [0,4,6,31,32,33])))
(rg [bN 43 .add 33 (cI 1),
mV 33 43] [0,4,6,31,32,33]))))
def d_q018_k1 (C : Hd) (gl : GL) (v0 v4 v6 v31 v32 v33 : AV) (h : Heap) (x : Esc) (K : KT) : Prop:=
 pK (oBin .lss v33 v32) fun t1=>
 condB t1 (pK (oIaddr none v31 v33 h) fun t2=>
 pK (oLoad none t2 h) fun t3=>
 pK (oIaddr none v0 t3 h) fun t4=>
 pK (oLoad none t4 h) fun t5=>
 pK (oBin .and v6 t5) fun t6=>
 pK (oBin .add v33 (AI 1)) fun t7=>
 K .normal ⟨[(0,v0),(4,v4),(6,t6),(31,v31),(32,v32),(33,t7)],h,x⟩)
 (K (.exit 1) ⟨[(0,v0),(4,v4),(6,v6),(31,v31),(32,v32),(33,v33),(34,t1)],h,x⟩)
theorem e_q018_k1 {C gl e h x K} : NW C gl p_q018_k1 ⟨e,h,x⟩ K = d_q018_k1 C gl (aget e 0) (aget e 4) (aget e 6) (aget e 31) (aget e 32) (aget e 33) h x K:=by kernel_rfl
theorem l_q018_k1 {C gl e h x K} : NW C gl (.loop p_q018_k1) ⟨e,h,x⟩ K = NLoop C gl p_q018_k1 K [(0,aget e 0),(4,aget e 4),(6,aget e 6),(31,aget e 31),(32,aget e 32),(33,aget e 33)] h x:=NLoop_pr
def p_q018_k2 : ACode:=.pr [0,4,6,47,48,49] (.seq (rg [bN 50 .lss 49 48] [0,4,6,47,48,49,50])
(.seq (.cond 50 .skip
(.exit 3))
(.seq (.block 4 (.seq (rg [iA 51 none 47 49,
lD 52 none 51,
mV 10 52] [0,4,6,10,47,48,49])
(rg [mV 53 6,
mV 54 0,
mV 55 10,
iA 56 none 54 55,
lD 57 none 56,
bN 58 .or 53 57,
mV 6 58] [0,4,6,47,48,49])))
(rg [bN 59 .add 49 (cI 1),
mV 49 59] [0,4,6,47,48,49]))))
def d_q018_k2 (C : Hd) (gl : GL) (v0 v4 v6 v47 v48 v49 : AV) (h : Heap) (x : Esc) (K : KT) : Prop:=
 pK (oBin .lss v49 v48) fun t1=>
 condB t1 (pK (oIaddr none v47 v49 h) fun t2=>
 pK (oLoad none t2 h) fun t3=>
 pK (oIaddr none v0 t3 h) fun t4=>
 pK (oLoad none t4 h) fun t5=>
 pK (oBin .or v6 t5) fun t6=>
 pK (oBin .add v49 (AI 1)) fun t7=>
 K .normal ⟨[(0,v0),(4,v4),(6,t6),(47,v47),(48,v48),(49,t7)],h,x⟩)
 (K (.exit 3) ⟨[(0,v0),(4,v4),(6,v6),(47,v47),(48,v48),(49,v49),(50,t1)],h,x⟩)
theorem e_q018_k2 {C gl e h x K} : NW C gl p_q018_k2 ⟨e,h,x⟩ K = d_q018_k2 C gl (aget e 0) (aget e 4) (aget e 6) (aget e 47) (aget e 48) (aget e 49) h x K:=by kernel_rfl
theorem l_q018_k2 {C gl e h x K} : NW C gl (.loop p_q018_k2) ⟨e,h,x⟩ K = NLoop C gl p_q018_k2 K [(0,aget e 0),(4,aget e 4),(6,aget e 6),(47,aget e 47),(48,aget e 48),(49,aget e 49)] h x:=NLoop_pr
def P_q018_k3 (q1 q2 : ACode) : ACode:=.pr [0,2,4,6,21,24] (.cond 24 (rg [mV 27 2,
mV 6 27] [0,4,6])
(.seq (rg [bN 29 .eql 21 (cI 3),
mV 28 29] [0,4,6,21,28])
(.cond 28 (.seq (rg [fA 30 1 none 4,
lD 31 none 30,
lN 32 31,
mV 33 (cI 0)] [0,4,6,31,32,33])
(.block 1 (.loop q1)))
(.seq (rg [bN 45 .eql 21 (cI 4),
mV 44 45] [0,4,6,44])
(.cond 44 (.seq (rg [fA 46 1 none 4,
lD 47 none 46,
lN 48 47,
mV 49 (cI 0)] [0,4,6,47,48,49])
(.block 3 (.loop q2)))
.skip)))))
def p_q018_k3 : ACode:=P_q018_k3 p_q018_k1 p_q018_k2
def d_q018_k3 (C : Hd) (gl : GL) (q1 q2 : ACode) (v0 v2 v4 v6 v21 v24 : AV) (h : Heap) (x : Esc) (K : KT) : Prop:=
 condB v24 (K .normal ⟨[(0,v0),(4,v4),(6,v2)],h,x⟩)
 (pK (oBin .eql v21 (AI 3)) fun t1=>
 condB t1 (pK (oFaddr 1 none v4) fun t2=>
 pK (oLoad none t2 h) fun t3=>
 pK (oLen t3) fun t4=>
 NW C gl (.loop q1) ⟨[(0,v0),(4,v4),(6,v6),(31,t3),(32,t4),(33,(AI 0))],h,x⟩ (blockN 1 K))
 (pK (oBin .eql v21 (AI 4)) fun t5=>
 condB t5 (pK (oFaddr 1 none v4) fun t6=>
 pK (oLoad none t6 h) fun t7=>
 pK (oLen t7) fun t8=>
 NW C gl (.loop q2) ⟨[(0,v0),(4,v4),(6,v6),(47,t7),(48,t8),(49,(AI 0))],h,x⟩ (blockN 3 K))
 (K .normal ⟨[(0,v0),(4,v4),(6,v6),(44,t5)],h,x⟩)))
theorem E_q018_k3 {C gl q1 q2 e h x K} : NW C gl (P_q018_k3 q1 q2) ⟨e,h,x⟩ K = d_q018_k3 C gl q1 q2 (aget e 0) (aget e 2) (aget e 4) (aget e 6) (aget e 21) (aget e 24) h x K:=by kernel_rfl
theorem e_q018_k3 {C gl e h x K} : NW C gl p_q018_k3 ⟨e,h,x⟩ K = d_q018_k3 C gl p_q018_k1 p_q018_k2 (aget e 0) (aget e 2) (aget e 4) (aget e 6) (aget e 21) (aget e 24) h x K:=E_q018_k3
def p_q018_k4 : ACode:=.pr [0,6,61,62,63] (.seq (rg [bN 64 .lss 63 62] [0,6,61,62,63,64])
(.seq (.cond 64 .skip
(.exit 5))
(.seq (.block 6 (.seq (rg [iA 65 none 61 63,
lD 66 none 65,
mV 12 66] [0,6,12,61,62,63])
(rg [mV 67 0,
mV 68 12,
mV 69 6,
iA 70 none 67 68,
wO (.store none 70 69)] [0,6,61,62,63])))
(rg [bN 71 .add 63 (cI 1),
mV 63 71] [0,6,61,62,63]))))
def d_q018_k4 (C : Hd) (gl : GL) (v0 v6 v61 v62 v63 : AV) (h : Heap) (x : Esc) (K : KT) : Prop:=
 pK (oBin .lss v63 v62) fun t1=>
 condB t1 (pK (oIaddr none v61 v63 h) fun t2=>
 pK (oLoad none t2 h) fun t3=>
 pK (oIaddr none v0 t3 h) fun t4=>
 wK (oStore none t4 v6 h) fun t5 h6 y7=>
 pK (oBin .add v63 (AI 1)) fun t8=>
 K .normal ⟨[(0,v0),(6,v6),(61,v61),(62,v62),(63,t8)],h6,(y7 ++ x)⟩)
 (K (.exit 5) ⟨[(0,v0),(6,v6),(61,v61),(62,v62),(63,v63),(64,t1)],h,x⟩)
theorem e_q018_k4 {C gl e h x K} : NW C gl p_q018_k4 ⟨e,h,x⟩ K = d_q018_k4 C gl (aget e 0) (aget e 6) (aget e 61) (aget e 62) (aget e 63) h x K:=by kernel_rfl
theorem l_q018_k4 {C gl e h x K} : NW C gl (.loop p_q018_k4) ⟨e,h,x⟩ K = NLoop C gl p_q018_k4 K [(0,aget e 0),(6,aget e 6),(61,aget e 61),(62,aget e 62),(63,aget e 63)] h x:=NLoop_pr
def P_q018_k5 (q4 : ACode) : ACode:=.pr [0,4,6] (.seq (rg [fA 60 1 none 4,
lD 61 none 60,
lN 62 61,
mV 63 (cI 0)] [0,6,61,62,63])
(.block 5 (.loop q4)))
def p_q018_k5 : ACode:=P_q018_k5 p_q018_k4
def d_q018_k5 (C : Hd) (gl : GL) (q4 : ACode) (v0 v4 v6 : AV) (h : Heap) (x : Esc) (K : KT) : Prop:=
 pK (oFaddr 1 none v4) fun t1=>
 pK (oLoad none t1 h) fun t2=>
 pK (oLen t2) fun t3=>
 NW C gl (.loop q4) ⟨[(0,v0),(6,v6),(61,t2),(62,t3),(63,(AI 0))],h,x⟩ (blockN 5 K)
theorem E_q018_k5 {C gl q4 e h x K} : NW C gl (P_q018_k5 q4) ⟨e,h,x⟩ K = d_q018_k5 C gl q4 (aget e 0) (aget e 4) (aget e 6) h x K:=by kernel_rfl
theorem e_q018_k5 {C gl e h x K} : NW C gl p_q018_k5 ⟨e,h,x⟩ K = d_q018_k5 C gl p_q018_k4 (aget e 0) (aget e 4) (aget e 6) h x K:=E_q018_k5
def P_q018 (q3 q5 : ACode) : ACode:=(.seq (rg [uO 4 (.box 1)] [0,2,4])
(.seq (rg [mV 13 0,
fA 14 1 none 4,
lD 15 none 14,
iA 16 none 15 (cI 0),
lD 17 none 16,
iA 18 none 13 17,
lD 19 none 18,
mV 6 19] [0,2,4,6])
(.seq (.seq (rg [fA 20 0 none 4,
lD 21 none 20] [0,2,4,6,21])
(.block 0 (.seq (rg [bN 23 .eql 21 (cI 1),
mV 22 23] [0,2,4,6,21,22])
(.cond 22 (rg [mV 6 (.c (.p (.int .u64 0)))] [0,4,6])
(.seq (.seq (rg [bN 25 .eql 21 (cI 2),
mV 24 25] [0,2,4,6,21,24])
(.cond 24 .skip
(rg [bN 26 .eql 21 (cI 6),
mV 24 26] [0,2,4,6,21,24])))
q3)))))
q5)))
def a_q018 : AFun:=⟨3,[],P_q018 p_q018_k3 p_q018_k5,true,false⟩
def d_q018 (C : Hd) (gl : GL) (q3 q5 : ACode) (v0 v1 v2 : AV) (h : Heap) (x : Esc) (K : KT) : Prop:=
 wK (oBox v1 h) fun t1 h2 y3=>
 pK (oFaddr 1 none t1) fun t4=>
 pK (oLoad none t4 h2) fun t5=>
 pK (oIaddr none t5 (AI 0) h2) fun t6=>
 pK (oLoad none t6 h2) fun t7=>
 pK (oIaddr none v0 t7 h2) fun t8=>
 pK (oLoad none t8 h2) fun t9=>
 pK (oFaddr 0 none t1) fun t10=>
 pK (oLoad none t10 h2) fun t11=>
 pK (oBin .eql t11 (AI 1)) fun t12=>
 condB t12 (NW C gl q5 ⟨[(0,v0),(4,t1),(6,(.p (.int .u64 0)))],h2,(y3 ++ x)⟩ K)
 (pK (oBin .eql t11 (AI 2)) fun t13=>
 condB t13 (NW C gl q3 ⟨[(0,v0),(2,v2),(4,t1),(6,t9),(21,t11),(24,t13)],h2,(y3 ++ x)⟩ (blockN 0 (seqN C gl q5 K)))
 (pK (oBin .eql t11 (AI 6)) fun t14=>
 NW C gl q3 ⟨[(0,v0),(2,v2),(4,t1),(6,t9),(21,t11),(24,t14)],h2,(y3 ++ x)⟩ (blockN 0 (seqN C gl q5 K))))
theorem E_q018 {C gl q3 q5 v0 v1 v2 h x K} : NW C gl (P_q018 q3 q5) ⟨enter [v0,v1,v2],h,x⟩ K = d_q018 C gl q3 q5 v0 v1 v2 h x K:=by kernel_rfl
theorem e_q018 {C gl v0 v1 v2 h x K} : NW C gl a_q018.body ⟨enter [v0,v1,v2],h,x⟩ K = d_q018 C gl p_q018_k3 p_q018_k5 v0 v1 v2 h x K:=E_q018
def P_q017 : ACode:=(.seq (rg [mV 2 (.c (.p (.int .u64 0)))] [0])
(.seq (rg [mV 3 0,
bN 4 .shl (.c (.p (.int .u64 1))) 3,
bN 5 .sub 4 (.c (.p (.int .u64 1))),
mV 2 5] [2])
.ret))
def a_q017 : AFun:=⟨1,[.t 2],P_q017,false,false⟩
def d_q017 (C : Hd) (gl : GL) (v0 : AV) (h : Heap) (x : Esc) (K : KT) : Prop:=
 pK (oBin .shl (.p (.int .u64 1)) v0) fun t1=>
 pK (oBin .sub t1 (.p (.int .u64 1))) fun t2=>
 K .ret ⟨[(2,t2)],h,x⟩
theorem e_q017 {C gl v0 h x K} : NW C gl a_q017.body ⟨enter [v0],h,x⟩ K = d_q017 C gl v0 h x K:=by kernel_rfl
def p_q016_k1 : ACode:=.pr [1,5,7,8,10,11,12,19,20] (.seq (rg [bN 21 .lss 20 19] [1,5,7,8,10,11,12,19,20,21])
(.seq (.cond 21 .skip
(.exit 2))
(.seq (.block 3 (.seq (rg [mV 22 20,
mV 9 22] [1,5,7,8,9,10,11,12,19,20])
(rg [mV 23 8,
mV 24 9,
mV 25 7,
mV 26 9,
bN 27 .shr 25 26,
bN 28 .and 27 (.c (.p (.int .u64 1))),
bN 29 .add (.c (.p (.int .u64 48))) 28,
uO 30 (.conv (.i .u8) 29),
iA 31 none 23 24,
wO (.store none 31 30)] [1,5,7,8,10,11,12,19,20])))
(rg [bN 32 .add 20 (cI 1),
mV 20 32] [1,5,7,8,10,11,12,19,20]))))
def d_q016_k1 (C : Hd) (gl : GL) (v1 v5 v7 v8 v10 v11 v12 v19 v20 : AV) (h : Heap) (x : Esc) (K : KT) : Prop:=
 pK (oBin .lss v20 v19) fun t1=>
 condB t1 (pK (oBin .shr v7 v20) fun t2=>
 pK (oBin .and t2 (.p (.int .u64 1))) fun t3=>
 pK (oBin .add (.p (.int .u64 48)) t3) fun t4=>
 pK (oConvI .u8 t4) fun t5=>
 pK (oIaddr none v8 v20 h) fun t6=>
 wK (oStore none t6 t5 h) fun t7 h8 y9=>
 pK (oBin .add v20 (AI 1)) fun t10=>
 K .normal ⟨[(1,v1),(5,v5),(7,v7),(8,v8),(10,v10),(11,v11),(12,v12),(19,v19),(20,t10)],h8,(y9 ++ x)⟩)
 (K (.exit 2) ⟨[(1,v1),(5,v5),(7,v7),(8,v8),(10,v10),(11,v11),(12,v12),(19,v19),(20,v20),(21,t1)],h,x⟩)
theorem e_q016_k1 {C gl e h x K} : NW C gl p_q016_k1 ⟨e,h,x⟩ K = d_q016_k1 C gl (aget e 1) (aget e 5) (aget e 7) (aget e 8) (aget e 10) (aget e 11) (aget e 12) (aget e 19) (aget e 20) h x K:=by kernel_rfl
theorem l_q016_k1 {C gl e h x K} : NW C gl (.loop p_q016_k1) ⟨e,h,x⟩ K = NLoop C gl p_q016_k1 K [(1,aget e 1),(5,aget e 5),(7,aget e 7),(8,aget e 8),(10,aget e 10),(11,aget e 11),(12,aget e 12),(19,aget e 19),(20,aget e 20)] h x:=NLoop_pr
def p_q016_k2 : ACode:=.pr [1,5,8,10,11,12] (rg [mV 33 5,
mV 34 8,
uO 35 (.conv .b2s 34),
uO 36 (.bsl false none 1 (.str []) [(0,35)]),
uO 37 (.app none 33 36),
mV 5 37] [1,5,10,11,12])
def d_q016_k2 (C : Hd) (gl : GL) (v1 v5 v8 v10 v11 v12 : AV) (h : Heap) (x : Esc) (K : KT) : Prop:=
 wK (oConv .b2s v8 h) fun t1 h2 y3=>
 wK (oBsl false none 1 (.str []) [(0,t1)] h2) fun t4 h5 y6=>
 wK (oApp none v5 t4 h5) fun t7 h8 y9=>
 K .normal ⟨[(1,v1),(5,t7),(10,v10),(11,v11),(12,v12)],h8,(y9 ++ (y6 ++ (y3 ++ x)))⟩
theorem e_q016_k2 {C gl e h x K} : NW C gl p_q016_k2 ⟨e,h,x⟩ K = d_q016_k2 C gl (aget e 1) (aget e 5) (aget e 8) (aget e 10) (aget e 11) (aget e 12) h x K:=by kernel_rfl
def p_q016_k3 : ACode:=.pr [1,5,10,11,12] (rg [bN 38 .add 12 (cI 1),
mV 12 38] [1,5,10,11,12])
def d_q016_k3 (C : Hd) (gl : GL) (v1 v5 v10 v11 v12 : AV) (h : Heap) (x : Esc) (K : KT) : Prop:=
 pK (oBin .add v12 (AI 1)) fun t1=>
 K .normal ⟨[(1,v1),(5,v5),(10,v10),(11,v11),(12,t1)],h,x⟩
theorem e_q016_k3 {C gl e h x K} : NW C gl p_q016_k3 ⟨e,h,x⟩ K = d_q016_k3 C gl (aget e 1) (aget e 5) (aget e 10) (aget e 11) (aget e 12) h x K:=by kernel_rfl
def P_q016_k4 (q1 q2 q3 : ACode) : ACode:=.pr [1,5,10,11,12] (.seq (rg [bN 13 .lss 12 11] [1,5,10,11,12,13])
(.seq (.cond 13 .skip
(.exit 0))
(.seq (.block 1 (.seq (rg [iA 14 none 10 12,
lD 15 none 14,
mV 7 15] [1,5,7,10,11,12])
(.seq (rg [mV 16 1,
uO 17 (.mksl none (.int .u8 0) 16 16),
mV 8 17] [1,5,7,8,10,11,12])
(.seq (.seq (rg [mV 18 8,
lN 19 18,
mV 20 (cI 0)] [1,5,7,8,10,11,12,19,20])
(.block 2 (.loop q1)))
q2))))
q3)))
def p_q016_k4 : ACode:=P_q016_k4 p_q016_k1 p_q016_k2 p_q016_k3
def d_q016_k4 (C : Hd) (gl : GL) (q1 q2 q3 : ACode) (v1 v5 v10 v11 v12 : AV) (h : Heap) (x : Esc) (K : KT) : Prop:=
 pK (oBin .lss v12 v11) fun t1=>
 condB t1 (pK (oIaddr none v10 v12 h) fun t2=>
 pK (oLoad none t2 h) fun t3=>
 wK (oMksl none (.int .u8 0) v1 v1 h) fun t4 h5 y6=>
 pK (oLen t4) fun t7=>
 NW C gl (.loop q1) ⟨[(1,v1),(5,v5),(7,t3),(8,t4),(10,v10),(11,v11),(12,v12),(19,t7),(20,(AI 0))],h5,(y6 ++ x)⟩ (blockN 2 (seqN C gl q2 (blockN 1 (seqN C gl q3 K)))))
 (K (.exit 0) ⟨[(1,v1),(5,v5),(10,v10),(11,v11),(12,v12),(13,t1)],h,x⟩)
theorem E_q016_k4 {C gl q1 q2 q3 e h x K} : NW C gl (P_q016_k4 q1 q2 q3) ⟨e,h,x⟩ K = d_q016_k4 C gl q1 q2 q3 (aget e 1) (aget e 5) (aget e 10) (aget e 11) (aget e 12) h x K:=by kernel_rfl
theorem e_q016_k4 {C gl e h x K} : NW C gl p_q016_k4 ⟨e,h,x⟩ K = d_q016_k4 C gl p_q016_k1 p_q016_k2 p_q016_k3 (aget e 1) (aget e 5) (aget e 10) (aget e 11) (aget e 12) h x K:=E_q016_k4
theorem l_q016_k4 {C gl e h x K} : NW C gl (.loop (.scope p_q016_k4)) ⟨e,h,x⟩ K = NLoop C gl (.scope p_q016_k4) K [(1,aget e 1),(5,aget e 5),(10,aget e 10),(11,aget e 11),(12,aget e 12)] h x:=NLoop_sc
def p_q016_k5 : ACode:=.pr [5] (.seq (rg [mV 39 5,
mV 4 39] [4])
.ret)
def d_q016_k5 (C : Hd) (gl : GL) (v5 : AV) (h : Heap) (x : Esc) (K : KT) : Prop:=
 K .ret ⟨[(4,v5)],h,x⟩
theorem e_q016_k5 {C gl e h x K} : NW C gl p_q016_k5 ⟨e,h,x⟩ K = d_q016_k5 C gl (aget e 5) h x K:=by kernel_rfl
def P_q016 (q4 q5 : ACode) : ACode:=(.seq (rg [mV 4 (.c (.p (.sl none [])))] [0,1])
(.seq (rg [uO 5 (.new0 none)] [0,1,5])
(.seq (.seq (rg [mV 10 0,
lN 11 10,
mV 12 (cI 0)] [1,5,10,11,12])
(.block 0 (.loop (.scope q4))))
q5)))
def a_q016 : AFun:=⟨2,[.t 4],P_q016 p_q016_k4 p_q016_k5,false,false⟩
def d_q016 (C : Hd) (gl : GL) (q4 q5 : ACode) (v0 v1 : AV) (h : Heap) (x : Esc) (K : KT) : Prop:=
 nwK none h fun t1 h2 y3=>
 pK (oLen v0) fun t4=>
 NW C gl (.loop (.scope q4)) ⟨[(1,v1),(5,t1),(10,v0),(11,t4),(12,(AI 0))],h2,(y3 ++ x)⟩ (blockN 0 (seqN C gl q5 K))
theorem E_q016 {C gl q4 q5 v0 v1 h x K} : NW C gl (P_q016 q4 q5) ⟨enter [v0,v1],h,x⟩ K = d_q016 C gl q4 q5 v0 v1 h x K:=by kernel_rfl
theorem e_q016 {C gl v0 v1 h x K} : NW C gl a_q016.body ⟨enter [v0,v1],h,x⟩ K = d_q016 C gl p_q016_k4 p_q016_k5 v0 v1 h x K:=E_q016
def p_q011_k1 : ACode:=.pr [0,7,13,14,15] (.seq (rg [bN 16 .lss 15 14] [0,7,13,14,15,16])
(.seq (.cond 16 .skip
(.exit 0))
(.seq (.block 1 (.seq (rg [mV 17 15,
iA 18 none 13 15,
lD 19 none 18,
mV 8 17,
mV 9 19] [0,7,8,9,13,14,15])
(rg [mV 20 7,
mV 21 9,
mV 22 0,
mV 23 8,
iA 24 none 22 23,
lD 25 none 24,
bN 26 .xor 21 25,
bN 27 .or 20 26,
mV 7 27] [0,7,13,14,15])))
(rg [bN 28 .add 15 (cI 1),
mV 15 28] [0,7,13,14,15]))))
def d_q011_k1 (C : Hd) (gl : GL) (v0 v7 v13 v14 v15 : AV) (h : Heap) (x : Esc) (K : KT) : Prop:=
 pK (oBin .lss v15 v14) fun t1=>
 condB t1 (pK (oIaddr none v13 v15 h) fun t2=>
 pK (oLoad none t2 h) fun t3=>
 pK (oIaddr none v0 v15 h) fun t4=>
 pK (oLoad none t4 h) fun t5=>
 pK (oBin .xor t3 t5) fun t6=>
 pK (oBin .or v7 t6) fun t7=>
 pK (oBin .add v15 (AI 1)) fun t8=>
 K .normal ⟨[(0,v0),(7,t7),(13,v13),(14,v14),(15,t8)],h,x⟩)
 (K (.exit 0) ⟨[(0,v0),(7,v7),(13,v13),(14,v14),(15,v15),(16,t1)],h,x⟩)
theorem e_q011_k1 {C gl e h x K} : NW C gl p_q011_k1 ⟨e,h,x⟩ K = d_q011_k1 C gl (aget e 0) (aget e 7) (aget e 13) (aget e 14) (aget e 15) h x K:=by kernel_rfl
theorem l_q011_k1 {C gl e h x K} : NW C gl (.loop p_q011_k1) ⟨e,h,x⟩ K = NLoop C gl p_q011_k1 K [(0,aget e 0),(7,aget e 7),(13,aget e 13),(14,aget e 14),(15,aget e 15)] h x:=NLoop_pr
def p_q011_k2 : ACode:=.pr [7] (.seq (rg [mV 29 7,
mV 6 29] [6])
.ret)
def d_q011_k2 (C : Hd) (gl : GL) (v7 : AV) (h : Heap) (x : Esc) (K : KT) : Prop:=
 K .ret ⟨[(6,v7)],h,x⟩
theorem e_q011_k2 {C gl e h x K} : NW C gl p_q011_k2 ⟨e,h,x⟩ K = d_q011_k2 C gl (aget e 7) h x K:=by kernel_rfl
def P_q011 (q1 q2 : ACode) : ACode:=(.seq (rg [uO 4 (.box 1),
mV 6 (.c (.p (.int .u64 0)))] [0,2,4])
(.seq (rg [mV 7 (.c (.p (.int .u64 0)))] [0,2,4,7])
(.seq (.seq (rg [mV 10 0,
lD 11 (some 2) 4,
mV 12 2,
cL 13 f_q014 [10,11,12],
lN 14 13,
mV 15 (cI 0)] [0,7,13,14,15])
(.block 0 (.loop q1)))
q2)))
def a_q011 : AFun:=⟨3,[.t 6],P_q011 p_q011_k1 p_q011_k2,false,false⟩
def d_q011 (C : Hd) (gl : GL) (q1 q2 : ACode) (v0 v1 v2 : AV) (h : Heap) (x : Esc) (K : KT) : Prop:=
 wK (oBox v1 h) fun t1 h2 y3=>
 pK (oLoad (some 2) t1 h2) fun t4=>
 C f_q014 [v0,t4,v2] h2 fun t5 h6 y7=>
 pK (oLen t5) fun t8=>
 NW C gl (.loop q1) ⟨[(0,v0),(7,(.p (.int .u64 0))),(13,t5),(14,t8),(15,(AI 0))],h6,(y7 ++ (y3 ++ x))⟩ (blockN 0 (seqN C gl q2 K))
theorem E_q011 {C gl q1 q2 v0 v1 v2 h x K} : NW C gl (P_q011 q1 q2) ⟨enter [v0,v1,v2],h,x⟩ K = d_q011 C gl q1 q2 v0 v1 v2 h x K:=by kernel_rfl
theorem e_q011 {C gl v0 v1 v2 h x K} : NW C gl a_q011.body ⟨enter [v0,v1,v2],h,x⟩ K = d_q011 C gl p_q011_k1 p_q011_k2 v0 v1 v2 h x K:=E_q011
def p_q02g_k1 : ACode:=.pr [0,11,12,13] (.seq (rg [bN 14 .lss 13 12] [0,11,12,13,14])
(.seq (.cond 14 .skip
(.exit 0))
(.seq (.block 1 (.seq (rg [iA 15 (some 2) 11 13,
lD 16 (some 2) 15,
uO 6 (.alloc [.p (.int .i64 0),.sl0 none]),
wO (.store (some 2) 6 16)] [0,6,11,12,13])
(.seq (rg [mV 17 0,
lD 18 (some 2) 6,
cL 19 f_q02e [17,18],
mV 7 19] [0,7,11,12,13])
(.seq (rg [mV 20 7,
bN 21 .neq 20 (cI 0)] [0,7,11,12,13,21])
(.cond 21 (.seq (rg [mV 22 7,
mV 4 22] [4])
.ret)
.skip)))))
(rg [bN 23 .add 13 (cI 1),
mV 13 23] [0,11,12,13]))))
def d_q02g_k1 (C : Hd) (gl : GL) (v0 v11 v12 v13 : AV) (h : Heap) (x : Esc) (K : KT) : Prop:=
 pK (oBin .lss v13 v12) fun t1=>
 condB t1 (pK (oIaddr (some 2) v11 v13 h) fun t2=>
 pK (oLoad (some 2) t2 h) fun t3=>
 alK [.p (.int .i64 0),.sl0 none] h fun t4 h5 y6=>
 wK (oStore (some 2) t4 t3 h5) fun t7 h8 y9=>
 pK (oLoad (some 2) t4 h8) fun t10=>
 C f_q02e [v0,t10] h8 fun t11 h12 y13=>
 pK (oBin .neq t11 (AI 0)) fun t14=>
 condB t14 (K .ret ⟨[(4,t11)],h12,(y13 ++ (y9 ++ (y6 ++ x)))⟩)
 (pK (oBin .add v13 (AI 1)) fun t15=>
 K .normal ⟨[(0,v0),(11,v11),(12,v12),(13,t15)],h12,(y13 ++ (y9 ++ (y6 ++ x)))⟩))
 (K (.exit 0) ⟨[(0,v0),(11,v11),(12,v12),(13,v13),(14,t1)],h,x⟩)
theorem e_q02g_k1 {C gl e h x K} : NW C gl p_q02g_k1 ⟨e,h,x⟩ K = d_q02g_k1 C gl (aget e 0) (aget e 11) (aget e 12) (aget e 13) h x K:=by kernel_rfl
theorem l_q02g_k1 {C gl e h x K} : NW C gl (.loop (.scope p_q02g_k1)) ⟨e,h,x⟩ K = NLoop C gl (.scope p_q02g_k1) K [(0,aget e 0),(11,aget e 11),(12,aget e 12),(13,aget e 13)] h x:=NLoop_sc
def p_q02g_k2 : ACode:=.pr [] (.seq (rg [mV 4 (cI 0)] [4])
.ret)
def d_q02g_k2 (C : Hd) (gl : GL) (h : Heap) (x : Esc) (K : KT) : Prop:=
 K .ret ⟨[(4,(AI 0))],h,x⟩
theorem e_q02g_k2 {C gl e h x K} : NW C gl p_q02g_k2 ⟨e,h,x⟩ K = d_q02g_k2 C gl h x K:=by kernel_rfl
def P_q02g (q1 q2 : ACode) : ACode:=(.seq (rg [mV 4 (cI 0)] [0,1])
(.seq (.seq (rg [mV 8 1,
lN 9 8,
bN 10 .gtr 9 (cI 20000)] [0,1,10])
(.cond 10 (.seq (rg [mV 4 (cI 2)] [4])
.ret)
.skip))
(.seq (.seq (rg [mV 11 1,
lN 12 11,
mV 13 (cI 0)] [0,11,12,13])
(.block 0 (.loop (.scope q1))))
q2)))
def a_q02g : AFun:=⟨2,[.t 4],P_q02g p_q02g_k1 p_q02g_k2,false,false⟩
def d_q02g (C : Hd) (gl : GL) (q1 q2 : ACode) (v0 v1 : AV) (h : Heap) (x : Esc) (K : KT) : Prop:=
 pK (oLen v1) fun t1=>
 pK (oBin .gtr t1 (AI 20000)) fun t2=>
 condB t2 (K .ret ⟨[(4,(AI 2))],h,x⟩)
 (pK (oLen v1) fun t3=>
 NW C gl (.loop (.scope q1)) ⟨[(0,v0),(11,v1),(12,t3),(13,(AI 0))],h,x⟩ (blockN 0 (seqN C gl q2 K)))
theorem E_q02g {C gl q1 q2 v0 v1 h x K} : NW C gl (P_q02g q1 q2) ⟨enter [v0,v1],h,x⟩ K = d_q02g C gl q1 q2 v0 v1 h x K:=by kernel_rfl
theorem e_q02g {C gl v0 v1 h x K} : NW C gl a_q02g.body ⟨enter [v0,v1],h,x⟩ K = d_q02g C gl p_q02g_k1 p_q02g_k2 v0 v1 h x K:=E_q02g
def P_q02c : ACode:=(.seq (rg [mV 2 cF] [0])
(.seq (rg [mV 3 0,
cL 4 f_q02m [3,(cS [48,49])],
mV 2 4] [2])
.ret))
def a_q02c : AFun:=⟨1,[.t 2],P_q02c,false,false⟩
def d_q02c (C : Hd) (gl : GL) (v0 : AV) (h : Heap) (x : Esc) (K : KT) : Prop:=
 C f_q02m [v0,(.p (.str [48,49]))] h fun t1 h2 y3=>
 K .ret ⟨[(2,t1)],h2,(y3 ++ x)⟩
theorem e_q02c {C gl v0 h x K} : NW C gl a_q02c.body ⟨enter [v0],h,x⟩ K = d_q02c C gl v0 h x K:=by kernel_rfl
def P_q02l : ACode:=(.seq (rg [mV 6 cF] [0,1,2])
(.seq (rg [mV 7 1,
mV 8 0,
bN 9 .leq 7 8,
mV 10 9,
gD 11 10 true (.mv 0),
gD 12 10 true (.mv 2),
gD 13 10 true (.bin .leq 11 12),
uO 14 (.pick 10 13 cF),
mV 6 14] [6])
.ret))
def a_q02l : AFun:=⟨3,[.t 6],P_q02l,false,false⟩
def d_q02l (C : Hd) (gl : GL) (v0 v1 v2 : AV) (h : Heap) (x : Esc) (K : KT) : Prop:=
 pK (oBin .leq v1 v0) fun t1=>
 gM t1 true v0 h fun t2 h3 y4=>
 gM t1 true v2 h3 fun t5 h6 y7=>
 gP t1 true (oBin .leq t2 t5) h6 fun t8 h9 y10=>
 pK (oPick t1 t8 (AB false)) fun t11=>
 K .ret ⟨[(6,t11)],h9,(y10 ++ (y7 ++ (y4 ++ x)))⟩
theorem e_q02l {C gl v0 v1 v2 h x K} : NW C gl a_q02l.body ⟨enter [v0,v1,v2],h,x⟩ K = d_q02l C gl v0 v1 v2 h x K:=by kernel_rfl
def P_q02y : ACode:=(.seq (rg [mV 4 cF] [0,1])
(.seq (rg [mV 5 0,
mV 6 1,
cL 7 f_q034 [5,6],
bN 8 .geq 7 (cI 0),
mV 4 8] [4])
.ret))
def a_q02y : AFun:=⟨2,[.t 4],P_q02y,true,false⟩
def d_q02y (C : Hd) (gl : GL) (v0 v1 : AV) (h : Heap) (x : Esc) (K : KT) : Prop:=
 C f_q034 [v0,v1] h fun t1 h2 y3=>
 pK (oBin .geq t1 (AI 0)) fun t4=>
 K .ret ⟨[(4,t4)],h2,(y3 ++ x)⟩
theorem e_q02y {C gl v0 v1 h x K} : NW C gl a_q02y.body ⟨enter [v0,v1],h,x⟩ K = d_q02y C gl v0 v1 h x K:=by kernel_rfl
def P_q02f : ACode:=(.seq (rg [mV 3 cF] [0,1])
(.seq (rg [mV 4 0,
lD 5 none 1,
bN 6 .sub 5 (cI 1),
cL 7 f_q02l [4,(cI 0),6],
uO 8 (.un .not 7),
mV 3 8] [3])
.ret))
def a_q02f : AFun:=⟨2,[.t 3],P_q02f,false,false⟩
def d_q02f (C : Hd) (gl : GL) (v0 v1 : AV) (h : Heap) (x : Esc) (K : KT) : Prop:=
 pK (oLoad none v1 h) fun t1=>
 pK (oBin .sub t1 (AI 1)) fun t2=>
 C f_q02l [v0,(AI 0),t2] h fun t3 h4 y5=>
 pK (oUn .not t3) fun t6=>
 K .ret ⟨[(3,t6)],h4,(y5 ++ x)⟩
theorem e_q02f {C gl v0 v1 h x K} : NW C gl a_q02f.body ⟨enter [v0,v1],h,x⟩ K = d_q02f C gl v0 v1 h x K:=by kernel_rfl
def P_q02o : ACode:=(.seq (rg [mV 2 cF] [0])
(.seq (rg [mV 3 0,
cL 4 f_q02l [3,(cI 3),(cI 5)],
mV 2 4] [2])
.ret))
def a_q02o : AFun:=⟨1,[.t 2],P_q02o,false,false⟩
def d_q02o (C : Hd) (gl : GL) (v0 : AV) (h : Heap) (x : Esc) (K : KT) : Prop:=
 C f_q02l [v0,(AI 3),(AI 5)] h fun t1 h2 y3=>
 K .ret ⟨[(2,t1)],h2,(y3 ++ x)⟩
theorem e_q02o {C gl v0 h x K} : NW C gl a_q02o.body ⟨enter [v0],h,x⟩ K = d_q02o C gl v0 h x K:=by kernel_rfl
def p_q02n_k1 : ACode:=.pr [0,3,5,9,25,26,27] (.seq (rg [bN 28 .lss 27 26] [0,3,5,9,25,26,27,28])
(.seq (.cond 28 .skip
(.exit 0))
(.seq (.block 1 (.seq (rg [iA 29 none 25 27,
lD 30 none 29,
mV 11 30] [0,3,5,9,11,25,26,27])
(rg [mV 31 9,
mV 32 0,
mV 33 11,
iA 34 none 32 33,
lD 35 none 34,
mV 36 3,
uO 37 (.idxs 35 36),
bN 38 .sub 37 (.c (.p (.int .u8 48))),
uO 39 (.conv (.i .i64) 38),
bN 40 .add 31 39,
mV 9 40] [0,3,5,9,25,26,27])))
(rg [bN 41 .add 27 (cI 1),
mV 27 41] [0,3,5,9,25,26,27]))))
def d_q02n_k1 (C : Hd) (gl : GL) (v0 v3 v5 v9 v25 v26 v27 : AV) (h : Heap) (x : Esc) (K : KT) : Prop:=
 pK (oBin .lss v27 v26) fun t1=>
 condB t1 (pK (oIaddr none v25 v27 h) fun t2=>
 pK (oLoad none t2 h) fun t3=>
 pK (oIaddr none v0 t3 h) fun t4=>
 pK (oLoad none t4 h) fun t5=>
 pK (oIdxs t5 v3) fun t6=>
 pK (oBin .sub t6 (.p (.int .u8 48))) fun t7=>
 pK (oConvI .i64 t7) fun t8=>
 pK (oBin .add v9 t8) fun t9=>
 pK (oBin .add v27 (AI 1)) fun t10=>
 K .normal ⟨[(0,v0),(3,v3),(5,v5),(9,t9),(25,v25),(26,v26),(27,t10)],h,x⟩)
 (K (.exit 0) ⟨[(0,v0),(3,v3),(5,v5),(9,v9),(25,v25),(26,v26),(27,v27),(28,t1)],h,x⟩)
theorem e_q02n_k1 {C gl e h x K} : NW C gl p_q02n_k1 ⟨e,h,x⟩ K = d_q02n_k1 C gl (aget e 0) (aget e 3) (aget e 5) (aget e 9) (aget e 25) (aget e 26) (aget e 27) h x K:=by kernel_rfl
theorem l_q02n_k1 {C gl e h x K} : NW C gl (.loop p_q02n_k1) ⟨e,h,x⟩ K = NLoop C gl p_q02n_k1 K [(0,aget e 0),(3,aget e 3),(5,aget e 5),(9,aget e 9),(25,aget e 25),(26,aget e 26),(27,aget e 27)] h x:=NLoop_pr
def p_q02n_k2 : ACode:=.pr [0,3,5,9,12,43,44] (.cond 44 (rg [mV 12 cT] [12])
(.seq (rg [bN 48 .eql 43 (cI 3),
mV 47 48] [0,3,5,9,12,43,47])
(.cond 47 (rg [mV 49 9,
fA 50 1 none 5,
lD 51 none 50,
lN 52 51,
bN 53 .eql 49 52,
mV 12 53] [12])
(.seq (rg [bN 55 .eql 43 (cI 4),
mV 54 55] [0,3,5,9,12,43,54])
(.cond 54 (rg [mV 56 9,
bN 57 .gtr 56 (cI 0),
mV 12 57] [12])
(.seq (rg [bN 59 .eql 43 (cI 5),
mV 58 59] [0,3,5,12,58])
(.cond 58 (.seq (rg [mV 60 0,
fA 61 1 none 5,
lD 62 none 61,
iA 63 none 62 (cI 0),
lD 64 none 63,
iA 65 none 60 64,
lD 66 none 65,
mV 67 3,
uO 68 (.idxs 66 67),
mV 8 68] [8])
.ret)
.skip)))))))
def d_q02n_k2 (C : Hd) (gl : GL) (v0 v3 v5 v9 v12 v43 v44 : AV) (h : Heap) (x : Esc) (K : KT) : Prop:=
 condB v44 (K .normal ⟨[(12,(AB true))],h,x⟩)
 (pK (oBin .eql v43 (AI 3)) fun t1=>
 condB t1 (pK (oFaddr 1 none v5) fun t2=>
 pK (oLoad none t2 h) fun t3=>
 pK (oLen t3) fun t4=>
 pK (oBin .eql v9 t4) fun t5=>
 K .normal ⟨[(12,t5)],h,x⟩)
 (pK (oBin .eql v43 (AI 4)) fun t6=>
 condB t6 (pK (oBin .gtr v9 (AI 0)) fun t7=>
 K .normal ⟨[(12,t7)],h,x⟩)
 (pK (oBin .eql v43 (AI 5)) fun t8=>
 condB t8 (pK (oFaddr 1 none v5) fun t9=>
 pK (oLoad none t9 h) fun t10=>
 pK (oIaddr none t10 (AI 0) h) fun t11=>
 pK (oLoad none t11 h) fun t12=>
 pK (oIaddr none v0 t12 h) fun t13=>
 pK (oLoad none t13 h) fun t14=>
 pK (oIdxs t14 v3) fun t15=>
 K .ret ⟨[(8,t15)],h,x⟩)
 (K .normal ⟨[(0,v0),(3,v3),(5,v5),(12,v12),(58,t8)],h,x⟩))))
theorem e_q02n_k2 {C gl e h x K} : NW C gl p_q02n_k2 ⟨e,h,x⟩ K = d_q02n_k2 C gl (aget e 0) (aget e 3) (aget e 5) (aget e 9) (aget e 12) (aget e 43) (aget e 44) h x K:=by kernel_rfl
def p_q02n_k3 : ACode:=.pr [12] (.seq (.seq (rg [mV 69 12] [69])
(.cond 69 (.seq (rg [mV 8 (.c (.p (.int .u8 49)))] [8])
.ret)
.skip))
(.seq (rg [mV 8 (.c (.p (.int .u8 48)))] [8])
.ret))
def d_q02n_k3 (C : Hd) (gl : GL) (v12 : AV) (h : Heap) (x : Esc) (K : KT) : Prop:=
 condB v12 (K .ret ⟨[(8,(.p (.int .u8 49)))],h,x⟩)
 (K .ret ⟨[(8,(.p (.int .u8 48)))],h,x⟩)
theorem e_q02n_k3 {C gl e h x K} : NW C gl p_q02n_k3 ⟨e,h,x⟩ K = d_q02n_k3 C gl (aget e 12) h x K:=by kernel_rfl
def P_q02n_k4 (q2 q3 : ACode) : ACode:=.pr [0,3,5,9] (.seq (rg [mV 12 cF] [0,3,5,9,12])
(.seq (.seq (rg [fA 42 0 none 5,
lD 43 none 42] [0,3,5,9,12,43])
(.block 2 (.seq (.seq (rg [bN 45 .eql 43 (cI 2),
mV 44 45] [0,3,5,9,12,43,44])
(.cond 44 .skip
(rg [bN 46 .eql 43 (cI 6),
mV 44 46] [0,3,5,9,12,43,44])))
q2)))
q3))
def p_q02n_k4 : ACode:=P_q02n_k4 p_q02n_k2 p_q02n_k3
def d_q02n_k4 (C : Hd) (gl : GL) (q2 q3 : ACode) (v0 v3 v5 v9 : AV) (h : Heap) (x : Esc) (K : KT) : Prop:=
 pK (oFaddr 0 none v5) fun t1=>
 pK (oLoad none t1 h) fun t2=>
 pK (oBin .eql t2 (AI 2)) fun t3=>
 condB t3 (NW C gl q2 ⟨[(0,v0),(3,v3),(5,v5),(9,v9),(12,(AB false)),(43,t2),(44,t3)],h,x⟩ (blockN 2 (seqN C gl q3 K)))
 (pK (oBin .eql t2 (AI 6)) fun t4=>
 NW C gl q2 ⟨[(0,v0),(3,v3),(5,v5),(9,v9),(12,(AB false)),(43,t2),(44,t4)],h,x⟩ (blockN 2 (seqN C gl q3 K)))
theorem E_q02n_k4 {C gl q2 q3 e h x K} : NW C gl (P_q02n_k4 q2 q3) ⟨e,h,x⟩ K = d_q02n_k4 C gl q2 q3 (aget e 0) (aget e 3) (aget e 5) (aget e 9) h x K:=by kernel_rfl
theorem e_q02n_k4 {C gl e h x K} : NW C gl p_q02n_k4 ⟨e,h,x⟩ K = d_q02n_k4 C gl p_q02n_k2 p_q02n_k3 (aget e 0) (aget e 3) (aget e 5) (aget e 9) h x K:=E_q02n_k4
def P_q02n (q1 q4 : ACode) : ACode:=(.seq (rg [uO 5 (.box 1),
mV 8 (.c (.p (.int .u8 0)))] [0,2,3,5])
(.seq (.seq (rg [fA 13 1 none 5,
lD 14 none 13,
mV 15 2,
cL 16 f_q02z [14,15],
uO 17 (.un .not 16)] [0,2,3,5,17])
(.cond 17 (.seq (rg [mV 18 0,
mV 19 2,
iA 20 none 18 19,
lD 21 none 20,
mV 22 3,
uO 23 (.idxs 21 22),
mV 8 23] [8])
.ret)
.skip))
(.seq (rg [mV 9 (cI 0)] [0,3,5,9])
(.seq (.seq (rg [fA 24 1 none 5,
lD 25 none 24,
lN 26 25,
mV 27 (cI 0)] [0,3,5,9,25,26,27])
(.block 0 (.loop q1)))
q4))))
def a_q02n : AFun:=⟨4,[.t 8],P_q02n p_q02n_k1 p_q02n_k4,false,false⟩
def d_q02n (C : Hd) (gl : GL) (q1 q4 : ACode) (v0 v1 v2 v3 : AV) (h : Heap) (x : Esc) (K : KT) : Prop:=
 wK (oBox v1 h) fun t1 h2 y3=>
 pK (oFaddr 1 none t1) fun t4=>
 pK (oLoad none t4 h2) fun t5=>
 C f_q02z [t5,v2] h2 fun t6 h7 y8=>
 pK (oUn .not t6) fun t9=>
 condB t9 (pK (oIaddr none v0 v2 h7) fun t10=>
 pK (oLoad none t10 h7) fun t11=>
 pK (oIdxs t11 v3) fun t12=>
 K .ret ⟨[(8,t12)],h7,(y8 ++ (y3 ++ x))⟩)
 (pK (oFaddr 1 none t1) fun t13=>
 pK (oLoad none t13 h7) fun t14=>
 pK (oLen t14) fun t15=>
 NW C gl (.loop q1) ⟨[(0,v0),(3,v3),(5,t1),(9,(AI 0)),(25,t14),(26,t15),(27,(AI 0))],h7,(y8 ++ (y3 ++ x))⟩ (blockN 0 (seqN C gl q4 K)))
theorem E_q02n {C gl q1 q4 v0 v1 v2 v3 h x K} : NW C gl (P_q02n q1 q4) ⟨enter [v0,v1,v2,v3],h,x⟩ K = d_q02n C gl q1 q4 v0 v1 v2 v3 h x K:=by kernel_rfl
theorem e_q02n {C gl v0 v1 v2 v3 h x K} : NW C gl a_q02n.body ⟨enter [v0,v1,v2,v3],h,x⟩ K = d_q02n C gl p_q02n_k1 p_q02n_k4 v0 v1 v2 v3 h x K:=E_q02n
end Go.Am
end
