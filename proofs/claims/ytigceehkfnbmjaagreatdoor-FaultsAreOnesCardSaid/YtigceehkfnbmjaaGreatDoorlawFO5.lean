/- Texts of the proof, laid together: CodesA, CodesB. -/
import Derived.KernelRfl
import Derived.Test.YtigceehkfnbmjaaGreatDoorlawFO4
set_option linter.all false
section
/- The functions asv abstract code,and asv formulas over their values: printed by program out of the translation. -/
set_option linter.unusedVariables false
set_option maxRecDepth 100000
namespace Go.Am
def p_q01s_k1 : ACode:=.pr [4,5,6,12,13,95,96] (.seq (rg [bN 97 .lss 96 95] [4,5,6,12,13,95,96,97])
(.seq (.cond 97 .skip
(.exit 0))
(.seq (.block 1 (.seq (rg [mV 98 96,
mV 15 98] [4,5,6,12,13,15,95,96])
(.seq (dr [dF (mV 99 6) [6],
dF (mV 100 15) [15],
dF (iA 101 none 99 100) [99,100],
dF (lD 102 none 101) [101],
dF (uO 103 (.lens 102)) [102],
dF (mV 104 4) [4],
dF (mV 105 15) [15],
dF (iA 106 none 104 105) [104,105],
dF (lD 107 none 106) [106],
dF (uO 108 (.lens 107)) [107],
dF (bN 109 .neq 103 108) [103,108],
dF (mV 110 109) [109],
dF (gD 111 110 false (.faddr 1 none 5)) [5,110],
dF (gD 112 110 false (.load none 111)) [111,110],
dF (gD 113 110 false (.mv 15)) [15,110],
dT (gD 114 110 false (.call f_q02z [112,113])) [112,113,110],
dF (gD 115 110 false (.un .not 114)) [114,110],
dF (gD 116 110 false (.mv 115)) [115,110],
dF (gD 117 116 true (.mv 6)) [6,116],
dF (gD 118 116 true (.mv 15)) [15,116],
dF (gD 119 116 true (.iaddr none 117 118)) [117,118,116],
dF (gD 120 116 true (.load none 119)) [119,116],
dF (gD 121 116 true (.mv 4)) [4,116],
dF (gD 122 116 true (.mv 15)) [15,116],
dF (gD 123 116 true (.iaddr none 121 122)) [121,122,116],
dF (gD 124 116 true (.load none 123)) [123,116],
dF (gD 125 116 true (.bin .neq 120 124)) [120,124,116],
dF (gD 126 110 false (.pick 116 125 cF)) [116,125,110],
dF (uO 127 (.pick 110 cT 126)) [110,126],
dF (mV 128 127) [127],
dF (gD 129 128 false (.mv 13)) [13,128],
dF (gD 130 128 false (.mv 129)) [129,128],
dF (gD 131 130 true (.mv 6)) [6,130],
dF (gD 132 130 true (.mv 15)) [15,130],
dF (gD 133 130 true (.iaddr none 131 132)) [131,132,130],
dF (gD 134 130 true (.load none 133)) [133,130],
dF (gD 135 130 true (.mv 12)) [12,130],
dF (gD 136 130 true (.mv 6)) [6,130],
dF (gD 137 130 true (.mv 15)) [15,130],
dF (gD 138 130 true (.iaddr none 136 137)) [136,137,130],
dF (gD 139 130 true (.load none 138)) [138,130],
dF (gD 140 130 true (.lens 139)) [139,130],
dF (gD 141 130 true (.mn [135,140])) [135,140,130],
dF (gD 142 130 true (.slstr 134 none (some 141))) [134,141,130],
dF (gD 143 130 true (.mv 4)) [4,130],
dF (gD 144 130 true (.mv 15)) [15,130],
dF (gD 145 130 true (.iaddr none 143 144)) [143,144,130],
dF (gD 146 130 true (.load none 145)) [145,130],
dF (gD 147 130 true (.mv 12)) [12,130],
dF (gD 148 130 true (.mv 4)) [4,130],
dF (gD 149 130 true (.mv 15)) [15,130],
dF (gD 150 130 true (.iaddr none 148 149)) [148,149,130],
dF (gD 151 130 true (.load none 150)) [150,130],
dF (gD 152 130 true (.lens 151)) [151,130],
dF (gD 153 130 true (.mn [147,152])) [147,152,130],
dF (gD 154 130 true (.slstr 146 none (some 153))) [146,153,130],
dF (gD 155 130 true (.bin .neq 142 154)) [142,154,130],
dF (gD 156 128 false (.pick 130 155 cF)) [130,155,128],
dF (uO 157 (.pick 128 cT 156)) [128,156]] [4,5,6,12,13,95,96,157])
(.cond 157 (.seq (rg [mV 2 cF] [2])
.ret)
.skip))))
(rg [bN 158 .add 96 (cI 1),
mV 96 158] [4,5,6,12,13,95,96]))))
def d_q01s_k1 (C : Hd) (gl : GL) (v4 v5 v6 v12 v13 v95 v96 : AV) (h : Heap) (x : Esc) (K : KT) : Prop:=
 pK (oBin .lss v96 v95) fun t1=>
 condB t1 (pK (oIaddr none v6 v96 h) fun t2=>
 pK (oLoad none t2 h) fun t3=>
 pK (oLens t3) fun t4=>
 pK (oIaddr none v4 v96 h) fun t5=>
 pK (oLoad none t5 h) fun t6=>
 pK (oLens t6) fun t7=>
 pK (oBin .neq t4 t7) fun t8=>
 gP t8 false (oFaddr 1 none v5) h fun t9 h10 y11=>
 gP t8 false (oLoad none t9 h10) h10 fun t12 h13 y14=>
 gM t8 false v96 h13 fun t15 h16 y17=>
 gV t8 false h16 (callE C f_q02z [t12,t15] h16) fun t18 h19 y20=>
 gP t8 false (oUn .not t18) h19 fun t21 h22 y23=>
 gM t8 false t21 h22 fun t24 h25 y26=>
 gM t24 true v6 h25 fun t27 h28 y29=>
 gM t24 true v96 h28 fun t30 h31 y32=>
 gP t24 true (oIaddr none t27 t30 h31) h31 fun t33 h34 y35=>
 gP t24 true (oLoad none t33 h34) h34 fun t36 h37 y38=>
 gM t24 true v4 h37 fun t39 h40 y41=>
 gM t24 true v96 h40 fun t42 h43 y44=>
 gP t24 true (oIaddr none t39 t42 h43) h43 fun t45 h46 y47=>
 gP t24 true (oLoad none t45 h46) h46 fun t48 h49 y50=>
 gP t24 true (oBin .neq t36 t48) h49 fun t51 h52 y53=>
 gP t8 false (oPick t24 t51 (AB false)) h52 fun t54 h55 y56=>
 pK (oPick t8 (AB true) t54) fun t57=>
 gM t57 false v13 h55 fun t58 h59 y60=>
 gM t57 false t58 h59 fun t61 h62 y63=>
 gM t61 true v6 h62 fun t64 h65 y66=>
 gM t61 true v96 h65 fun t67 h68 y69=>
 gP t61 true (oIaddr none t64 t67 h68) h68 fun t70 h71 y72=>
 gP t61 true (oLoad none t70 h71) h71 fun t73 h74 y75=>
 gM t61 true v12 h74 fun t76 h77 y78=>
 gM t61 true v6 h77 fun t79 h80 y81=>
 gM t61 true v96 h80 fun t82 h83 y84=>
 gP t61 true (oIaddr none t79 t82 h83) h83 fun t85 h86 y87=>
 gP t61 true (oLoad none t85 h86) h86 fun t88 h89 y90=>
 gP t61 true (oLens t88) h89 fun t91 h92 y93=>
 gP t61 true (oMn [t76,t91]) h92 fun t94 h95 y96=>
 gP t61 true (oSlstr t73 none (some t94)) h95 fun t97 h98 y99=>
 gM t61 true v4 h98 fun t100 h101 y102=>
 gM t61 true v96 h101 fun t103 h104 y105=>
 gP t61 true (oIaddr none t100 t103 h104) h104 fun t106 h107 y108=>
 gP t61 true (oLoad none t106 h107) h107 fun t109 h110 y111=>
 gM t61 true v12 h110 fun t112 h113 y114=>
 gM t61 true v4 h113 fun t115 h116 y117=>
 gM t61 true v96 h116 fun t118 h119 y120=>
 gP t61 true (oIaddr none t115 t118 h119) h119 fun t121 h122 y123=>
 gP t61 true (oLoad none t121 h122) h122 fun t124 h125 y126=>
 gP t61 true (oLens t124) h125 fun t127 h128 y129=>
 gP t61 true (oMn [t112,t127]) h128 fun t130 h131 y132=>
 gP t61 true (oSlstr t109 none (some t130)) h131 fun t133 h134 y135=>
 gP t61 true (oBin .neq t97 t133) h134 fun t136 h137 y138=>
 gP t57 false (oPick t61 t136 (AB false)) h137 fun t139 h140 y141=>
 pK (oPick t57 (AB true) t139) fun t142=>
 condB t142 (K .ret ⟨[(2,(AB false))],h140,(y141 ++ (y138 ++ (y135 ++ (y132 ++ (y129 ++ (y126 ++ (y123 ++ (y120 ++ (y117 ++ (y114 ++ (y111 ++ (y108 ++ (y105 ++ (y102 ++ (y99 ++ (y96 ++ (y93 ++ (y90 ++ (y87 ++ (y84 ++ (y81 ++ (y78 ++ (y75 ++ (y72 ++ (y69 ++ (y66 ++ (y63 ++ (y60 ++ (y56 ++ (y53 ++ (y50 ++ (y47 ++ (y44 ++ (y41 ++ (y38 ++ (y35 ++ (y32 ++ (y29 ++ (y26 ++ (y23 ++ (y20 ++ (y17 ++ (y14 ++ (y11 ++ x))))))))))))))))))))))))))))))))))))))))))))⟩)
 (pK (oBin .add v96 (AI 1)) fun t143=>
 K .normal ⟨[(4,v4),(5,v5),(6,v6),(12,v12),(13,v13),(95,v95),(96,t143)],h140,(y141 ++ (y138 ++ (y135 ++ (y132 ++ (y129 ++ (y126 ++ (y123 ++ (y120 ++ (y117 ++ (y114 ++ (y111 ++ (y108 ++ (y105 ++ (y102 ++ (y99 ++ (y96 ++ (y93 ++ (y90 ++ (y87 ++ (y84 ++ (y81 ++ (y78 ++ (y75 ++ (y72 ++ (y69 ++ (y66 ++ (y63 ++ (y60 ++ (y56 ++ (y53 ++ (y50 ++ (y47 ++ (y44 ++ (y41 ++ (y38 ++ (y35 ++ (y32 ++ (y29 ++ (y26 ++ (y23 ++ (y20 ++ (y17 ++ (y14 ++ (y11 ++ x))))))))))))))))))))))))))))))))))))))))))))⟩))
 (K (.exit 0) ⟨[(4,v4),(5,v5),(6,v6),(12,v12),(13,v13),(95,v95),(96,v96),(97,t1)],h,x⟩)
theorem e_q01s_k1 {C gl e h x K} : NW C gl p_q01s_k1 ⟨e,h,x⟩ K = d_q01s_k1 C gl (aget e 4) (aget e 5) (aget e 6) (aget e 12) (aget e 13) (aget e 95) (aget e 96) h x K:=by kernel_rfl
theorem l_q01s_k1 {C gl e h x K} : NW C gl (.loop p_q01s_k1) ⟨e,h,x⟩ K = NLoop C gl p_q01s_k1 K [(4,aget e 4),(5,aget e 5),(6,aget e 6),(12,aget e 12),(13,aget e 13),(95,aget e 95),(96,aget e 96)] h x:=NLoop_pr
def p_q01s_k2 : ACode:=.pr [] (.seq (rg [cL 159 f_q01v [],
mV 2 159] [2])
.ret)
def d_q01s_k2 (C : Hd) (gl : GL) (h : Heap) (x : Esc) (K : KT) : Prop:=
 C f_q01v [] h fun t1 h2 y3=>
 K .ret ⟨[(2,t1)],h2,(y3 ++ x)⟩
theorem e_q01s_k2 {C gl e h x K} : NW C gl p_q01s_k2 ⟨e,h,x⟩ K = d_q01s_k2 C gl h x K:=by kernel_rfl
def P_q01s (q1 q2 : ACode) : ACode:=(.seq (rg [mV 2 cF] [0])
(.seq (rg [mV 16 0,
uO 17 (.build [.sl0 none,.p (.int .i64 0)] [(0,1,16)]),
uO 18 (.box 17),
mV 3 18] [3])
(.seq (rg [mV 19 3,
cL 20 f_q02a [19],
mV 4 20] [3,4])
(.seq (rg [mV 21 3,
mV 22 4,
lN 23 22,
cL 24 f_q021 [21,23],
uO 5 (.alloc [.p (.int .i64 0),.sl0 none]),
wO (.store (some 2) 5 24)] [4,5])
(.seq (rg [mV 26 4,
lD 27 (some 2) 5,
cL 28 f_q010 [26,27],
mV 25 28,
eX 29 25 0,
eX 30 25 1,
mV 6 29,
mV 7 30] [4,5,6,7])
(.seq (.seq (rg [mV 31 7,
bN 32 .neq 31 (cI 0)] [4,5,6,7,32])
(.cond 32 (.seq (rg [mV 33 4,
lN 34 33,
lD 35 (some 2) 5,
cL 36 f_q02e [34,35],
mV 37 7,
bN 38 .eql 36 37,
mV 39 38,
gD 40 39 true (.call f_q01v []),
uO 41 (.pick 39 40 cF),
mV 2 41] [2])
.ret)
.skip))
(.seq (rg [mV 43 4,
lD 44 (some 2) 5,
lD 45 (some 2) 5,
uO 46 (.bsl false (some 2) 2 (.agg [.int .i64 0,.sl none []]) [(0,44),(1,45)]),
cL 47 f_q00x [43,46],
mV 42 47,
eX 48 42 0,
eX 49 42 1,
mV 8 48,
mV 9 49] [4,5,6,8,9])
(.seq (rg [mV 51 4,
lD 52 (some 2) 5,
cL 53 f_q00y [51,52],
mV 50 53,
eX 54 50 0,
eX 55 50 1,
mV 10 54,
mV 11 55] [4,5,6,8,9,10,11])
(.seq (rg [mV 57 4,
lD 58 (some 2) 5,
cL 59 f_q00z [57,58],
mV 56 59,
eX 60 56 0,
eX 61 56 1,
eX 62 56 2,
mV 12 60,
mV 13 61,
mV 14 62] [4,5,6,8,9,10,11,12,13,14])
(.seq (.seq (rg [mV 63 9,
mV 64 11,
mV 65 14,
uO 66 (.bsl false none 3 (.int .i64 0) [(0,63),(1,64),(2,65)]),
cL 67 f_q01u [66],
bN 68 .neq 67 (cI 0),
mV 69 68,
gD 70 69 false (.mv 8),
gD 71 69 false (.mv 6),
gD 72 69 false (.call f_q032 [70,71]),
gD 73 69 false (.un .not 72),
uO 74 (.pick 69 cT 73),
mV 75 74,
gD 76 75 false (.mv 10),
gD 77 75 false (.mv 13),
gD 78 75 false (.eqa [] true 76 77),
uO 79 (.pick 75 cT 78),
mV 80 79,
gD 81 80 false (.mv 10),
gD 82 80 false (.mv 6),
gD 83 80 false (.mv 4),
gD 84 80 false (.call f_q032 [82,83]),
gD 85 80 false (.eqa [] false 81 84),
uO 86 (.pick 80 cT 85),
mV 87 86,
gD 88 87 false (.mv 6),
gD 89 87 false (.len 88),
gD 90 87 false (.mv 4),
gD 91 87 false (.len 90),
gD 92 87 false (.bin .neq 89 91),
uO 93 (.pick 87 cT 92)] [4,5,6,12,13,93])
(.cond 93 (.seq (rg [mV 2 cF] [2])
.ret)
.skip))
(.seq (.seq (rg [mV 94 4,
lN 95 94,
mV 96 (cI 0)] [4,5,6,12,13,95,96])
(.block 0 (.loop q1)))
q2)))))))))))
def a_q01s : AFun:=⟨1,[.t 2],P_q01s p_q01s_k1 p_q01s_k2,false,false⟩
def d_q01s (C : Hd) (gl : GL) (q1 q2 : ACode) (v0 : AV) (h : Heap) (x : Esc) (K : KT) : Prop:=
 pK (oBuild [.sl0 none,.p (.int .i64 0)] [(0,1,v0)]) fun t1=>
 wK (oBox t1 h) fun t2 h3 y4=>
 C f_q02a [t2] h3 fun t5 h6 y7=>
 pK (oLen t5) fun t8=>
 C f_q021 [t2,t8] h6 fun t9 h10 y11=>
 alK [.p (.int .i64 0),.sl0 none] h10 fun t12 h13 y14=>
 wK (oStore (some 2) t12 t9 h13) fun t15 h16 y17=>
 pK (oLoad (some 2) t12 h16) fun t18=>
 C f_q010 [t5,t18] h16 fun t19 h20 y21=>
 pK (oExt t19 0) fun t22=>
 pK (oExt t19 1) fun t23=>
 pK (oBin .neq t23 (AI 0)) fun t24=>
 condB t24 (pK (oLen t5) fun t25=>
 pK (oLoad (some 2) t12 h20) fun t26=>
 C f_q02e [t25,t26] h20 fun t27 h28 y29=>
 pK (oBin .eql t27 t23) fun t30=>
 gV t30 true h28 (C f_q01v [] h28) fun t31 h32 y33=>
 pK (oPick t30 t31 (AB false)) fun t34=>
 K .ret ⟨[(2,t34)],h32,(y33 ++ (y29 ++ (y21 ++ (y17 ++ (y14 ++ (y11 ++ (y7 ++ (y4 ++ x))))))))⟩)
 (pK (oLoad (some 2) t12 h20) fun t35=>
 pK (oLoad (some 2) t12 h20) fun t36=>
 wK (oBsl false (some 2) 2 (.agg [.int .i64 0,.sl none []]) [(0,t35),(1,t36)] h20) fun t37 h38 y39=>
 C f_q00x [t5,t37] h38 fun t40 h41 y42=>
 pK (oExt t40 0) fun t43=>
 pK (oExt t40 1) fun t44=>
 pK (oLoad (some 2) t12 h41) fun t45=>
 C f_q00y [t5,t45] h41 fun t46 h47 y48=>
 pK (oExt t46 0) fun t49=>
 pK (oExt t46 1) fun t50=>
 pK (oLoad (some 2) t12 h47) fun t51=>
 C f_q00z [t5,t51] h47 fun t52 h53 y54=>
 pK (oExt t52 0) fun t55=>
 pK (oExt t52 1) fun t56=>
 pK (oExt t52 2) fun t57=>
 wK (oBsl false none 3 (.int .i64 0) [(0,t44),(1,t50),(2,t57)] h53) fun t58 h59 y60=>
 C f_q01u [t58] h59 fun t61 h62 y63=>
 pK (oBin .neq t61 (AI 0)) fun t64=>
 gM t64 false t43 h62 fun t65 h66 y67=>
 gM t64 false t22 h66 fun t68 h69 y70=>
 gV t64 false h69 (C f_q032 [t65,t68] h69) fun t71 h72 y73=>
 gP t64 false (oUn .not t71) h72 fun t74 h75 y76=>
 pK (oPick t64 (AB true) t74) fun t77=>
 gM t77 false t49 h75 fun t78 h79 y80=>
 gM t77 false t56 h79 fun t81 h82 y83=>
 gP t77 false (oEqa [] true t78 t81) h82 fun t84 h85 y86=>
 pK (oPick t77 (AB true) t84) fun t87=>
 gM t87 false t49 h85 fun t88 h89 y90=>
 gM t87 false t22 h89 fun t91 h92 y93=>
 gM t87 false t5 h92 fun t94 h95 y96=>
 gV t87 false h95 (C f_q032 [t91,t94] h95) fun t97 h98 y99=>
 gP t87 false (oEqa [] false t88 t97) h98 fun t100 h101 y102=>
 pK (oPick t87 (AB true) t100) fun t103=>
 gM t103 false t22 h101 fun t104 h105 y106=>
 gP t103 false (oLen t104) h105 fun t107 h108 y109=>
 gM t103 false t5 h108 fun t110 h111 y112=>
 gP t103 false (oLen t110) h111 fun t113 h114 y115=>
 gP t103 false (oBin .neq t107 t113) h114 fun t116 h117 y118=>
 pK (oPick t103 (AB true) t116) fun t119=>
 condB t119 (K .ret ⟨[(2,(AB false))],h117,(y118 ++ (y115 ++ (y112 ++ (y109 ++ (y106 ++ (y102 ++ (y99 ++ (y96 ++ (y93 ++ (y90 ++ (y86 ++ (y83 ++ (y80 ++ (y76 ++ (y73 ++ (y70 ++ (y67 ++ (y63 ++ (y60 ++ (y54 ++ (y48 ++ (y42 ++ (y39 ++ (y21 ++ (y17 ++ (y14 ++ (y11 ++ (y7 ++ (y4 ++ x)))))))))))))))))))))))))))))⟩)
 (pK (oLen t5) fun t120=>
 NW C gl (.loop q1) ⟨[(4,t5),(5,t12),(6,t22),(12,t55),(13,t56),(95,t120),(96,(AI 0))],h117,(y118 ++ (y115 ++ (y112 ++ (y109 ++ (y106 ++ (y102 ++ (y99 ++ (y96 ++ (y93 ++ (y90 ++ (y86 ++ (y83 ++ (y80 ++ (y76 ++ (y73 ++ (y70 ++ (y67 ++ (y63 ++ (y60 ++ (y54 ++ (y48 ++ (y42 ++ (y39 ++ (y21 ++ (y17 ++ (y14 ++ (y11 ++ (y7 ++ (y4 ++ x)))))))))))))))))))))))))))))⟩ (blockN 0 (seqN C gl q2 K))))
theorem E_q01s {C gl q1 q2 v0 h x K} : NW C gl (P_q01s q1 q2) ⟨enter [v0],h,x⟩ K = d_q01s C gl q1 q2 v0 h x K:=by kernel_rfl
theorem e_q01s {C gl v0 h x K} : NW C gl a_q01s.body ⟨enter [v0],h,x⟩ K = d_q01s C gl p_q01s_k1 p_q01s_k2 v0 h x K:=E_q01s
def p_q022_k1 : ACode:=.pr [0,3,4,5,11,12,14,15] (.seq (rg [bN 16 .lss 15 14] [0,3,4,5,11,12,14,15,16])
(.seq (.cond 16 .skip
(.exit 2))
(.seq (.block 3 (rg [mV 17 5,
mV 18 0,
uO 19 (.bsl false none 2 (.str []) [(0,(cS [48])),(1,(cS [49]))]),
cL 20 f_q02b [18,19],
bN 21 .add 17 20,
mV 5 21] [0,3,4,5,11,12,14,15]))
(rg [bN 22 .add 15 (cI 1),
mV 15 22] [0,3,4,5,11,12,14,15]))))
def d_q022_k1 (C : Hd) (gl : GL) (v0 v3 v4 v5 v11 v12 v14 v15 : AV) (h : Heap) (x : Esc) (K : KT) : Prop:=
 pK (oBin .lss v15 v14) fun t1=>
 condB t1 (wK (oBsl false none 2 (.str []) [(0,(.p (.str [48]))),(1,(.p (.str [49])))] h) fun t2 h3 y4=>
 C f_q02b [v0,t2] h3 fun t5 h6 y7=>
 pK (oBin .add v5 t5) fun t8=>
 pK (oBin .add v15 (AI 1)) fun t9=>
 K .normal ⟨[(0,v0),(3,v3),(4,v4),(5,t8),(11,v11),(12,v12),(14,v14),(15,t9)],h6,(y7 ++ (y4 ++ x))⟩)
 (K (.exit 2) ⟨[(0,v0),(3,v3),(4,v4),(5,v5),(11,v11),(12,v12),(14,v14),(15,v15),(16,t1)],h,x⟩)
theorem e_q022_k1 {C gl e h x K} : NW C gl p_q022_k1 ⟨e,h,x⟩ K = d_q022_k1 C gl (aget e 0) (aget e 3) (aget e 4) (aget e 5) (aget e 11) (aget e 12) (aget e 14) (aget e 15) h x K:=by kernel_rfl
theorem l_q022_k1 {C gl e h x K} : NW C gl (.loop p_q022_k1) ⟨e,h,x⟩ K = NLoop C gl p_q022_k1 K [(0,aget e 0),(3,aget e 3),(4,aget e 4),(5,aget e 5),(11,aget e 11),(12,aget e 12),(14,aget e 14),(15,aget e 15)] h x:=NLoop_pr
def p_q022_k2 : ACode:=.pr [0,3,4,5,11,12] (rg [mV 23 3,
mV 24 5,
uO 25 (.bsl false none 1 (.str []) [(0,24)]),
uO 26 (.app none 23 25),
mV 3 26] [0,3,4,11,12])
def d_q022_k2 (C : Hd) (gl : GL) (v0 v3 v4 v5 v11 v12 : AV) (h : Heap) (x : Esc) (K : KT) : Prop:=
 wK (oBsl false none 1 (.str []) [(0,v5)] h) fun t1 h2 y3=>
 wK (oApp none v3 t1 h2) fun t4 h5 y6=>
 K .normal ⟨[(0,v0),(3,t4),(4,v4),(11,v11),(12,v12)],h5,(y6 ++ (y3 ++ x))⟩
theorem e_q022_k2 {C gl e h x K} : NW C gl p_q022_k2 ⟨e,h,x⟩ K = d_q022_k2 C gl (aget e 0) (aget e 3) (aget e 4) (aget e 5) (aget e 11) (aget e 12) h x K:=by kernel_rfl
def p_q022_k3 : ACode:=.pr [0,3,4,11,12] (rg [bN 27 .add 12 (cI 1),
mV 12 27] [0,3,4,11,12])
def d_q022_k3 (C : Hd) (gl : GL) (v0 v3 v4 v11 v12 : AV) (h : Heap) (x : Esc) (K : KT) : Prop:=
 pK (oBin .add v12 (AI 1)) fun t1=>
 K .normal ⟨[(0,v0),(3,v3),(4,v4),(11,v11),(12,t1)],h,x⟩
theorem e_q022_k3 {C gl e h x K} : NW C gl p_q022_k3 ⟨e,h,x⟩ K = d_q022_k3 C gl (aget e 0) (aget e 3) (aget e 4) (aget e 11) (aget e 12) h x K:=by kernel_rfl
def P_q022_k4 (q1 q2 q3 : ACode) : ACode:=.pr [0,3,4,11,12] (.seq (rg [bN 13 .lss 12 11] [0,3,4,11,12,13])
(.seq (.cond 13 .skip
(.exit 0))
(.seq (.block 1 (.seq (rg [mV 5 (cS [])] [0,3,4,5,11,12])
(.seq (.seq (rg [mV 14 4,
mV 15 (cI 0)] [0,3,4,5,11,12,14,15])
(.block 2 (.loop q1)))
q2)))
q3)))
def p_q022_k4 : ACode:=P_q022_k4 p_q022_k1 p_q022_k2 p_q022_k3
def d_q022_k4 (C : Hd) (gl : GL) (q1 q2 q3 : ACode) (v0 v3 v4 v11 v12 : AV) (h : Heap) (x : Esc) (K : KT) : Prop:=
 pK (oBin .lss v12 v11) fun t1=>
 condB t1 (NW C gl (.loop q1) ⟨[(0,v0),(3,v3),(4,v4),(5,(.p (.str []))),(11,v11),(12,v12),(14,v4),(15,(AI 0))],h,x⟩ (blockN 2 (seqN C gl q2 (blockN 1 (seqN C gl q3 K)))))
 (K (.exit 0) ⟨[(0,v0),(3,v3),(4,v4),(11,v11),(12,v12),(13,t1)],h,x⟩)
theorem E_q022_k4 {C gl q1 q2 q3 e h x K} : NW C gl (P_q022_k4 q1 q2 q3) ⟨e,h,x⟩ K = d_q022_k4 C gl q1 q2 q3 (aget e 0) (aget e 3) (aget e 4) (aget e 11) (aget e 12) h x K:=by kernel_rfl
theorem e_q022_k4 {C gl e h x K} : NW C gl p_q022_k4 ⟨e,h,x⟩ K = d_q022_k4 C gl p_q022_k1 p_q022_k2 p_q022_k3 (aget e 0) (aget e 3) (aget e 4) (aget e 11) (aget e 12) h x K:=E_q022_k4
theorem l_q022_k4 {C gl e h x K} : NW C gl (.loop (.scope p_q022_k4)) ⟨e,h,x⟩ K = NLoop C gl (.scope p_q022_k4) K [(0,aget e 0),(3,aget e 3),(4,aget e 4),(11,aget e 11),(12,aget e 12)] h x:=NLoop_sc
def p_q022_k5 : ACode:=.pr [0,3,50,51] (.seq (rg [bN 52 .lss 51 50] [0,3,50,51,52])
(.seq (.cond 52 .skip
(.exit 5))
(.seq (.block 6 (.seq (rg [mV 53 51,
mV 6 53] [0,3,6,50,51])
(rg [mV 54 3,
mV 55 6,
mV 56 0,
uO 57 (.bsl false none 3 (.str []) [(0,(cS [48])),(1,(cS [49])),(2,(cS [48,49]))]),
cL 58 f_q02b [56,57],
mV 59 0,
cL 60 f_q029 [59,(cI 0),(cI 1)],
bN 61 .add (cI 32) 60,
cL 62 f_q04f [58,61],
mV 63 0,
cL 64 f_q029 [63,(cI 0),(cI 32)],
cL 65 f_q04f [(cS [49]),64],
bN 66 .add 62 65,
iA 67 none 54 55,
wO (.store none 67 66)] [0,3,50,51])))
(rg [bN 68 .add 51 (cI 1),
mV 51 68] [0,3,50,51]))))
def d_q022_k5 (C : Hd) (gl : GL) (v0 v3 v50 v51 : AV) (h : Heap) (x : Esc) (K : KT) : Prop:=
 pK (oBin .lss v51 v50) fun t1=>
 condB t1 (wK (oBsl false none 3 (.str []) [(0,(.p (.str [48]))),(1,(.p (.str [49]))),(2,(.p (.str [48,49])))] h) fun t2 h3 y4=>
 C f_q02b [v0,t2] h3 fun t5 h6 y7=>
 C f_q029 [v0,(AI 0),(AI 1)] h6 fun t8 h9 y10=>
 pK (oBin .add (AI 32) t8) fun t11=>
 C f_q04f [t5,t11] h9 fun t12 h13 y14=>
 C f_q029 [v0,(AI 0),(AI 32)] h13 fun t15 h16 y17=>
 C f_q04f [(.p (.str [49])),t15] h16 fun t18 h19 y20=>
 pK (oBin .add t12 t18) fun t21=>
 pK (oIaddr none v3 v51 h19) fun t22=>
 wK (oStore none t22 t21 h19) fun t23 h24 y25=>
 pK (oBin .add v51 (AI 1)) fun t26=>
 K .normal ⟨[(0,v0),(3,v3),(50,v50),(51,t26)],h24,(y25 ++ (y20 ++ (y17 ++ (y14 ++ (y10 ++ (y7 ++ (y4 ++ x)))))))⟩)
 (K (.exit 5) ⟨[(0,v0),(3,v3),(50,v50),(51,v51),(52,t1)],h,x⟩)
theorem e_q022_k5 {C gl e h x K} : NW C gl p_q022_k5 ⟨e,h,x⟩ K = d_q022_k5 C gl (aget e 0) (aget e 3) (aget e 50) (aget e 51) h x K:=by kernel_rfl
theorem l_q022_k5 {C gl e h x K} : NW C gl (.loop p_q022_k5) ⟨e,h,x⟩ K = NLoop C gl p_q022_k5 K [(0,aget e 0),(3,aget e 3),(50,aget e 50),(51,aget e 51)] h x:=NLoop_pr
def p_q022_k6 : ACode:=.pr [3] (.seq (rg [mV 69 3,
mV 2 69] [2])
.ret)
def d_q022_k6 (C : Hd) (gl : GL) (v3 : AV) (h : Heap) (x : Esc) (K : KT) : Prop:=
 K .ret ⟨[(2,v3)],h,x⟩
theorem e_q022_k6 {C gl e h x K} : NW C gl p_q022_k6 ⟨e,h,x⟩ K = d_q022_k6 C gl (aget e 3) h x K:=by kernel_rfl
def P_q022_k7 (q5 q6 : ACode) : ACode:=.pr [0,3] (.seq (.block 4 (.seq (rg [mV 29 0,
cL 30 f_q024 [29,(cI 20)],
mV 28 30] [0,3,28])
(.cond 28 (dr [dF (mV 31 3) [3],
dF (mV 32 0) [0],
dF (mV 33 3) [3],
dF (lN 34 33) [33],
dT (cL 35 f_q025 [32,34]) [32,34],
dF (iA 36 none 31 35) [31,35],
dF (lD 37 none 36) [36],
dF (mV 38 0) [0],
dA (uO 39 (.bsl false none 2 (.str []) [(0,(cS [48])),(1,(cS [120]))])) [] false [4] [],
dA (cL 40 f_q02b [38,39]) [38,39] true [] [5,6],
dF (bN 41 .add 37 40) [37,40],
dF (iA 42 none 31 35) [31,35],
dT (wO (.store none 42 41)) [42,41]] [3])
(.seq (rg [mV 44 0,
cL 45 f_q024 [44,(cI 40)],
mV 43 45] [0,3,43])
(.cond 43 (.seq (rg [mV 2 (.c (.p (.sl none [])))] [2])
.ret)
(.seq (rg [mV 47 0,
cL 48 f_q024 [47,(cI 40)],
mV 46 48] [0,3,46])
(.cond 46 (.seq (rg [mV 49 3,
lN 50 49,
mV 51 (cI 0)] [0,3,50,51])
(.block 5 (.loop q5)))
.skip)))))))
q6)
def p_q022_k7 : ACode:=P_q022_k7 p_q022_k5 p_q022_k6
def d_q022_k7 (C : Hd) (gl : GL) (q5 q6 : ACode) (v0 v3 : AV) (h : Heap) (x : Esc) (K : KT) : Prop:=
 C f_q024 [v0,(AI 20)] h fun t1 h2 y3=>
 condB t1 (pK (oLen v3) fun t4=>
 callE C f_q025 [v0,t4] h2 fun t5 h6 y7=>
 pK (oIaddr none v3 t5 h6) fun t8=>
 pK (oLoad none t8 h6) fun t9=>
 wK (oBsl false none 2 (.str []) [(0,(.p (.str [48]))),(1,(.p (.str [120])))] h6) fun t10 h11 y12=>
 (h11 = h6 ∧ y12 = []) ∧ ((wK (oBsl false none 2 (.str []) [(0,(.p (.str [48]))),(1,(.p (.str [120])))] h2) (fun u (g1 : Heap) (y1 : Esc)=>u = t10 ∧ g1 = h2 ∧ y1 = [])) ∧ (callE C f_q02b [v0,t10] h11 fun t13 h14 y15=>
 (pK (oIaddr none v3 t5 h14) fun v=>(fun u (g1 : Heap) (y1 : Esc)=>u = t8 ∧ g1 = h14 ∧ y1 = []) v h14 []) ∧ ((pK (oLoad none t8 h14) fun v=>(fun u (g1 : Heap) (y1 : Esc)=>u = t9 ∧ g1 = h14 ∧ y1 = []) v h14 []) ∧ (pK (oBin .add t9 t13) fun t16=>
 pK (oIaddr none v3 t5 h14) fun t17=>
 wK (oStore none t17 t16 h14) fun t18 h19 y20=>
 NW C gl q6 ⟨[(3,v3)],h19,(y20 ++ (y15 ++ (y12 ++ (y7 ++ (y3 ++ x)))))⟩ K)))))
 (C f_q024 [v0,(AI 40)] h2 fun t21 h22 y23=>
 condB t21 (K .ret ⟨[(2,(.p (.sl none [])))],h22,(y23 ++ (y3 ++ x))⟩)
 (C f_q024 [v0,(AI 40)] h22 fun t24 h25 y26=>
 condB t24 (pK (oLen v3) fun t27=>
 NW C gl (.loop q5) ⟨[(0,v0),(3,v3),(50,t27),(51,(AI 0))],h25,(y26 ++ (y23 ++ (y3 ++ x)))⟩ (blockN 5 (blockN 4 (seqN C gl q6 K))))
 (NW C gl q6 ⟨[(0,v0),(3,v3),(46,t24)],h25,(y26 ++ (y23 ++ (y3 ++ x)))⟩ K)))
theorem E_q022_k7 {C gl q5 q6 e h x K} : NW C gl (P_q022_k7 q5 q6) ⟨e,h,x⟩ K = d_q022_k7 C gl q5 q6 (aget e 0) (aget e 3) h x K:=by kernel_rfl
theorem e_q022_k7 {C gl e h x K} : NW C gl p_q022_k7 ⟨e,h,x⟩ K = d_q022_k7 C gl p_q022_k5 p_q022_k6 (aget e 0) (aget e 3) h x K:=E_q022_k7
def P_q022 (q4 q7 : ACode) : ACode:=(.seq (rg [mV 2 (.c (.p (.sl none [])))] [0])
(.seq (rg [uO 3 (.new0 none)] [0,3])
(.seq (rg [mV 7 0,
uO 8 (.bsl false none 6 (.int .i64 0) [(0,(cI 0)),(1,(cI 1)),(2,(cI 2)),(3,(cI 3)),(4,(cI 4)),(5,(cI 5))]),
cL 9 f_q028 [7,8],
mV 4 9] [0,3,4])
(.seq (.seq (rg [mV 10 0,
cL 11 f_q029 [10,(cI 1),(cI 5)],
mV 12 (cI 0)] [0,3,4,11,12])
(.block 0 (.loop (.scope q4))))
q7))))
def a_q022 : AFun:=⟨1,[.t 2],P_q022 p_q022_k4 p_q022_k7,false,false⟩
def d_q022 (C : Hd) (gl : GL) (q4 q7 : ACode) (v0 : AV) (h : Heap) (x : Esc) (K : KT) : Prop:=
 nwK none h fun t1 h2 y3=>
 wK (oBsl false none 6 (.int .i64 0) [(0,(AI 0)),(1,(AI 1)),(2,(AI 2)),(3,(AI 3)),(4,(AI 4)),(5,(AI 5))] h2) fun t4 h5 y6=>
 C f_q028 [v0,t4] h5 fun t7 h8 y9=>
 C f_q029 [v0,(AI 1),(AI 5)] h8 fun t10 h11 y12=>
 NW C gl (.loop (.scope q4)) ⟨[(0,v0),(3,t1),(4,t7),(11,t10),(12,(AI 0))],h11,(y12 ++ (y9 ++ (y6 ++ (y3 ++ x))))⟩ (blockN 0 (seqN C gl q7 K))
theorem E_q022 {C gl q4 q7 v0 h x K} : NW C gl (P_q022 q4 q7) ⟨enter [v0],h,x⟩ K = d_q022 C gl q4 q7 v0 h x K:=by kernel_rfl
theorem e_q022 {C gl v0 h x K} : NW C gl a_q022.body ⟨enter [v0],h,x⟩ K = d_q022 C gl p_q022_k4 p_q022_k7 v0 h x K:=E_q022
def P_q028 : ACode:=(.seq (rg [mV 4 (cI 0)] [0,1])
(.seq (rg [mV 5 1,
mV 6 0,
mV 7 1,
lN 8 7,
cL 9 f_q025 [6,8],
iA 10 none 5 9,
lD 11 none 10,
mV 4 11] [4])
.ret))
def a_q028 : AFun:=⟨2,[.t 4],P_q028,false,false⟩
def d_q028 (C : Hd) (gl : GL) (v0 v1 : AV) (h : Heap) (x : Esc) (K : KT) : Prop:=
 pK (oLen v1) fun t1=>
 C f_q025 [v0,t1] h fun t2 h3 y4=>
 pK (oIaddr none v1 t2 h3) fun t5=>
 pK (oLoad none t5 h3) fun t6=>
 K .ret ⟨[(4,t6)],h3,(y4 ++ x)⟩
theorem e_q028 {C gl v0 v1 h x K} : NW C gl a_q028.body ⟨enter [v0,v1],h,x⟩ K = d_q028 C gl v0 v1 h x K:=by kernel_rfl
def p_q021_k1 : ACode:=.pr [4,5] (.seq (rg [lD 76 (some 2) 5,
wO (.store (some 2) 4 76)] [4])
.ret)
def d_q021_k1 (C : Hd) (gl : GL) (v4 v5 : AV) (h : Heap) (x : Esc) (K : KT) : Prop:=
 pK (oLoad (some 2) v5 h) fun t1=>
 wK (oStore (some 2) v4 t1 h) fun t2 h3 y4=>
 K .ret ⟨[(4,v4)],h3,(y4 ++ x)⟩
theorem e_q021_k1 {C gl e h x K} : NW C gl p_q021_k1 ⟨e,h,x⟩ K = d_q021_k1 C gl (aget e 4) (aget e 5) h x K:=by kernel_rfl
def P_q021_k2 (q1 : ACode) : ACode:=.pr [0,1,4,5] (.seq (.seq (rg [mV 44 0,
cL 45 f_q024 [44,(cI 30)]] [0,1,4,5,45])
(.cond 45 (.seq (rg [mV 46 0,
cL 47 f_q025 [46,(cI 4)]] [0,1,4,5,47])
(.block 0 (.seq (rg [bN 54 .eql 47 (cI 0),
mV 53 54] [0,1,4,5,47,53])
(.cond 53 (rg [mV 55 0,
cL 56 f_q026 [55,(cI 1),(cI 6)],
fA 57 0 none 5,
wO (.store none 57 56)] [4,5])
(.seq (rg [bN 59 .eql 47 (cI 1),
mV 58 59] [0,1,4,5,47,58])
(.cond 58 (dr [dF (fA 60 1 none 5) [5],
dF (lD 61 none 60) [60],
dF (mV 62 0) [0],
dF (mV 63 1) [1],
dF (fA 64 1 none 5) [5],
dF (lD 65 none 64) [64],
dF (iA 66 none 65 (cI 0)) [65],
dF (lD 67 none 66) [66],
dF (uO 68 (.bsl false none 5 (.int .i64 0) [(0,(cI 0)),(1,(cI 1)),(2,(cI (-1))),(3,63),(4,67)])) [63,67],
dA (cL 69 f_q028 [62,68]) [62,68] true [] [1],
dF (uO 70 (.bsl false none 1 (.int .i64 0) [(0,69)])) [69],
dT (uO 71 (.app none 61 70)) [61,70],
dF (fA 72 1 none 5) [5],
dT (wO (.store none 72 71)) [72,71]] [4,5])
(.seq (rg [bN 74 .eql 47 (cI 2),
mV 73 74] [0,4,5,73])
(.cond 73 (rg [fA 75 1 none 5,
wO (.store none 75 (.c (.p (.sl none []))))] [4,5])
(rg [uO 48 (.bsl false none 7 (.int .i64 0) [(0,(cI 0)),(1,(cI 1)),(2,(cI 2)),(3,(cI 3)),(4,(cI 4)),(5,(cI 5)),(6,(cI 6))]),
mV 49 0,
cL 50 f_q029 [49,(cI 5),(cI 7)],
uO 51 (.slice none 48 none (some 50) none),
fA 52 1 none 5,
wO (.store none 52 51)] [4,5])))))))))
.skip))
q1)
def p_q021_k2 : ACode:=P_q021_k2 p_q021_k1
def d_q021_k2 (C : Hd) (gl : GL) (q1 : ACode) (v0 v1 v4 v5 : AV) (h : Heap) (x : Esc) (K : KT) : Prop:=
 C f_q024 [v0,(AI 30)] h fun t1 h2 y3=>
 condB t1 (C f_q025 [v0,(AI 4)] h2 fun t4 h5 y6=>
 pK (oBin .eql t4 (AI 0)) fun t7=>
 condB t7 (C f_q026 [v0,(AI 1),(AI 6)] h5 fun t8 h9 y10=>
 pK (oFaddr 0 none v5) fun t11=>
 wK (oStore none t11 t8 h9) fun t12 h13 y14=>
 NW C gl q1 ⟨[(4,v4),(5,v5)],h13,(y14 ++ (y10 ++ (y6 ++ (y3 ++ x))))⟩ K)
 (pK (oBin .eql t4 (AI 1)) fun t15=>
 condB t15 (pK (oFaddr 1 none v5) fun t16=>
 pK (oLoad none t16 h5) fun t17=>
 pK (oFaddr 1 none v5) fun t18=>
 pK (oLoad none t18 h5) fun t19=>
 pK (oIaddr none t19 (AI 0) h5) fun t20=>
 pK (oLoad none t20 h5) fun t21=>
 wK (oBsl false none 5 (.int .i64 0) [(0,(AI 0)),(1,(AI 1)),(2,(AI (-1))),(3,v1),(4,t21)] h5) fun t22 h23 y24=>
 (h23 = h5 ∧ y24 = []) ∧ (callE C f_q028 [v0,t22] h23 fun t25 h26 y27=>
 (pK (oLoad none t16 h26) fun v=>(fun u (g1 : Heap) (y1 : Esc)=>u = t17 ∧ g1 = h26 ∧ y1 = []) v h26 []) ∧ (wK (oBsl false none 1 (.int .i64 0) [(0,t25)] h26) fun t28 h29 y30=>
 (h29 = h26 ∧ y30 = []) ∧ (wK (oApp none t17 t28 h29) fun t31 h32 y33=>
 pK (oFaddr 1 none v5) fun t34=>
 wK (oStore none t34 t31 h32) fun t35 h36 y37=>
 NW C gl q1 ⟨[(4,v4),(5,v5)],h36,(y37 ++ (y33 ++ (y30 ++ (y27 ++ (y24 ++ (y6 ++ (y3 ++ x)))))))⟩ K))))
 (pK (oBin .eql t4 (AI 2)) fun t38=>
 condB t38 (pK (oFaddr 1 none v5) fun t39=>
 wK (oStore none t39 (.p (.sl none [])) h5) fun t40 h41 y42=>
 NW C gl q1 ⟨[(4,v4),(5,v5)],h41,(y42 ++ (y6 ++ (y3 ++ x)))⟩ K)
 (wK (oBsl false none 7 (.int .i64 0) [(0,(AI 0)),(1,(AI 1)),(2,(AI 2)),(3,(AI 3)),(4,(AI 4)),(5,(AI 5)),(6,(AI 6))] h5) fun t43 h44 y45=>
 C f_q029 [v0,(AI 5),(AI 7)] h44 fun t46 h47 y48=>
 pK (oSlice none t43 none (some t46) none h47) fun t49=>
 pK (oFaddr 1 none v5) fun t50=>
 wK (oStore none t50 t49 h47) fun t51 h52 y53=>
 NW C gl q1 ⟨[(4,v4),(5,v5)],h52,(y53 ++ (y48 ++ (y45 ++ (y6 ++ (y3 ++ x)))))⟩ K))))
 (NW C gl q1 ⟨[(0,v0),(1,v1),(4,v4),(5,v5),(45,t1)],h2,(y3 ++ x)⟩ K)
theorem E_q021_k2 {C gl q1 e h x K} : NW C gl (P_q021_k2 q1) ⟨e,h,x⟩ K = d_q021_k2 C gl q1 (aget e 0) (aget e 1) (aget e 4) (aget e 5) h x K:=by kernel_rfl
theorem e_q021_k2 {C gl e h x K} : NW C gl p_q021_k2 ⟨e,h,x⟩ K = d_q021_k2 C gl p_q021_k1 (aget e 0) (aget e 1) (aget e 4) (aget e 5) h x K:=E_q021_k2
def P_q021_k3 (q2 : ACode) : ACode:=.pr [0,1,4,5,6,7] (.seq (rg [mV 29 6,
mV 30 7,
mV 31 7,
uO 32 (.slice none 29 none (some 30) (some 31)),
fA 33 1 none 5,
wO (.store none 33 32)] [0,1,4,5])
(.seq (.seq (rg [fA 34 0 none 5,
lD 35 none 34,
bN 36 .eql 35 (cI 5)] [0,1,4,5,36])
(.cond 36 (rg [fA 37 1 none 5,
lD 38 none 37,
uO 39 (.slice none 38 (some (cI 1)) none none),
cL 40 f_q038 [39]] [0,1,4,5])
(rg [fA 41 1 none 5,
lD 42 none 41,
cL 43 f_q038 [42]] [0,1,4,5])))
q2))
def p_q021_k3 : ACode:=P_q021_k3 p_q021_k2
def d_q021_k3 (C : Hd) (gl : GL) (q2 : ACode) (v0 v1 v4 v5 v6 v7 : AV) (h : Heap) (x : Esc) (K : KT) : Prop:=
 pK (oSlice none v6 none (some v7) (some v7) h) fun t1=>
 pK (oFaddr 1 none v5) fun t2=>
 wK (oStore none t2 t1 h) fun t3 h4 y5=>
 pK (oFaddr 0 none v5) fun t6=>
 pK (oLoad none t6 h4) fun t7=>
 pK (oBin .eql t7 (AI 5)) fun t8=>
 condB t8 (pK (oFaddr 1 none v5) fun t9=>
 pK (oLoad none t9 h4) fun t10=>
 pK (oSlice none t10 (some (AI 1)) none none h4) fun t11=>
 C f_q038 [t11] h4 fun t12 h13 y14=>
 NW C gl q2 ⟨[(0,v0),(1,v1),(4,v4),(5,v5)],h13,(y14 ++ (y5 ++ x))⟩ K)
 (pK (oFaddr 1 none v5) fun t15=>
 pK (oLoad none t15 h4) fun t16=>
 C f_q038 [t16] h4 fun t17 h18 y19=>
 NW C gl q2 ⟨[(0,v0),(1,v1),(4,v4),(5,v5)],h18,(y19 ++ (y5 ++ x))⟩ K)
theorem E_q021_k3 {C gl q2 e h x K} : NW C gl (P_q021_k3 q2) ⟨e,h,x⟩ K = d_q021_k3 C gl q2 (aget e 0) (aget e 1) (aget e 4) (aget e 5) (aget e 6) (aget e 7) h x K:=by kernel_rfl
theorem e_q021_k3 {C gl e h x K} : NW C gl p_q021_k3 ⟨e,h,x⟩ K = d_q021_k3 C gl p_q021_k2 (aget e 0) (aget e 1) (aget e 4) (aget e 5) (aget e 6) (aget e 7) h x K:=E_q021_k3
def P_q021 (q3 : ACode) : ACode:=(.seq (rg [uO 4 (.alloc [.p (.int .i64 0),.sl0 none])] [0,1,4])
(.seq (rg [mV 8 0,
cL 9 f_q029 [8,(cI 1),(cI 6)],
uO 10 (.build [.p (.int .i64 0),.sl0 none] [(0,1,9)]),
uO 5 (.alloc [.p (.int .i64 0),.sl0 none]),
wO (.store (some 2) 5 10)] [0,1,4,5])
(.seq (rg [mV 11 0,
mV 12 1,
uO 13 (.mx [12,(cI 1)]),
cL 14 f_q027 [11,13],
mV 6 14] [0,1,4,5,6])
(.seq (rg [mV 7 (cI 1)] [0,1,4,5,6,7])
(.seq (.seq (rg [fA 15 0 none 5,
lD 16 none 15,
bN 17 .geq 16 (cI 3),
mV 18 17,
gD 19 18 true (.faddr 0 none 5),
gD 20 18 true (.load none 19),
gD 21 18 true (.bin .leq 20 (cI 5)),
uO 22 (.pick 18 21 cF)] [0,1,4,5,6,7,22])
(.cond 22 (rg [mV 23 0,
uO 24 (.bsl false none 3 (.int .i64 0) [(0,(cI 2)),(1,(cI 2)),(2,(cI 3))]),
cL 25 f_q028 [23,24],
mV 26 6,
lN 27 26,
uO 28 (.mn [25,27]),
mV 7 28] [0,1,4,5,6,7])
.skip))
q3)))))
def a_q021 : AFun:=⟨2,[.cell 4 (some 2)],P_q021 p_q021_k3,false,false⟩
def d_q021 (C : Hd) (gl : GL) (q3 : ACode) (v0 v1 : AV) (h : Heap) (x : Esc) (K : KT) : Prop:=
 alK [.p (.int .i64 0),.sl0 none] h fun t1 h2 y3=>
 C f_q029 [v0,(AI 1),(AI 6)] h2 fun t4 h5 y6=>
 pK (oBuild [.p (.int .i64 0),.sl0 none] [(0,1,t4)]) fun t7=>
 alK [.p (.int .i64 0),.sl0 none] h5 fun t8 h9 y10=>
 wK (oStore (some 2) t8 t7 h9) fun t11 h12 y13=>
 pK (oMx [v1,(AI 1)]) fun t14=>
 C f_q027 [v0,t14] h12 fun t15 h16 y17=>
 pK (oFaddr 0 none t8) fun t18=>
 pK (oLoad none t18 h16) fun t19=>
 pK (oBin .geq t19 (AI 3)) fun t20=>
 gP t20 true (oFaddr 0 none t8) h16 fun t21 h22 y23=>
 gP t20 true (oLoad none t21 h22) h22 fun t24 h25 y26=>
 gP t20 true (oBin .leq t24 (AI 5)) h25 fun t27 h28 y29=>
 pK (oPick t20 t27 (AB false)) fun t30=>
 condB t30 (wK (oBsl false none 3 (.int .i64 0) [(0,(AI 2)),(1,(AI 2)),(2,(AI 3))] h28) fun t31 h32 y33=>
 C f_q028 [v0,t31] h32 fun t34 h35 y36=>
 pK (oLen t15) fun t37=>
 pK (oMn [t34,t37]) fun t38=>
 NW C gl q3 ⟨[(0,v0),(1,v1),(4,t1),(5,t8),(6,t15),(7,t38)],h35,(y36 ++ (y33 ++ (y29 ++ (y26 ++ (y23 ++ (y17 ++ (y13 ++ (y10 ++ (y6 ++ (y3 ++ x))))))))))⟩ K)
 (NW C gl q3 ⟨[(0,v0),(1,v1),(4,t1),(5,t8),(6,t15),(7,(AI 1)),(22,t30)],h28,(y29 ++ (y26 ++ (y23 ++ (y17 ++ (y13 ++ (y10 ++ (y6 ++ (y3 ++ x))))))))⟩ K)
theorem E_q021 {C gl q3 v0 v1 h x K} : NW C gl (P_q021 q3) ⟨enter [v0,v1],h,x⟩ K = d_q021 C gl q3 v0 v1 h x K:=by kernel_rfl
theorem e_q021 {C gl v0 v1 h x K} : NW C gl a_q021.body ⟨enter [v0,v1],h,x⟩ K = d_q021 C gl p_q021_k3 v0 v1 h x K:=E_q021
def P_q010 : ACode:=(.seq (rg [uO 3 (.box 1),
mV 4 (.c (.p (.sl none []))),
mV 5 (cI 0)] [0,3])
(.seq (rg [mV 6 0,
lD 7 (some 2) 3,
uO 8 (.bsl false (some 2) 1 (.agg [.int .i64 0,.sl none []]) [(0,7)]),
cL 9 f_q00x [6,8],
eX 10 9 0,
eX 11 9 1,
mV 4 10,
mV 5 11] [4,5])
.ret))
def a_q010 : AFun:=⟨2,[.t 4,.t 5],P_q010,false,false⟩
def d_q010 (C : Hd) (gl : GL) (v0 v1 : AV) (h : Heap) (x : Esc) (K : KT) : Prop:=
 wK (oBox v1 h) fun t1 h2 y3=>
 pK (oLoad (some 2) t1 h2) fun t4=>
 wK (oBsl false (some 2) 1 (.agg [.int .i64 0,.sl none []]) [(0,t4)] h2) fun t5 h6 y7=>
 C f_q00x [v0,t5] h6 fun t8 h9 y10=>
 pK (oExt t8 0) fun t11=>
 pK (oExt t8 1) fun t12=>
 K .ret ⟨[(4,t11),(5,t12)],h9,(y10 ++ (y7 ++ (y3 ++ x)))⟩
theorem e_q010 {C gl v0 v1 h x K} : NW C gl a_q010.body ⟨enter [v0,v1],h,x⟩ K = d_q010 C gl v0 v1 h x K:=by kernel_rfl
def p_q00x_k1 : ACode:=.pr [0,7,18,19,20] (.seq (rg [bN 21 .lss 20 19] [0,7,18,19,20,21])
(.seq (.cond 21 .skip
(.exit 0))
(.seq (.block 1 (.seq (rg [iA 22 (some 2) 18 20,
lD 23 (some 2) 22,
uO 9 (.alloc [.p (.int .i64 0),.sl0 none]),
wO (.store (some 2) 9 23)] [0,7,9,18,19,20])
(dr [dF (mV 24 7) [7],
dF (lD 25 (some 2) 9) [9],
dF (mV 26 0) [0],
dF (iA 27 none 26 (cI 0)) [26],
dF (lD 28 none 27) [27],
dF (uO 29 (.lens 28)) [28],
dA (cL 30 f_q017 [29]) [29] true [] [1],
dT (cL 31 f_q018 [24,25,30]) [24,25,30]] [0,7,18,19,20])))
(rg [bN 32 .add 20 (cI 1),
mV 20 32] [0,7,18,19,20]))))
def d_q00x_k1 (C : Hd) (gl : GL) (v0 v7 v18 v19 v20 : AV) (h : Heap) (x : Esc) (K : KT) : Prop:=
 pK (oBin .lss v20 v19) fun t1=>
 condB t1 (pK (oIaddr (some 2) v18 v20 h) fun t2=>
 pK (oLoad (some 2) t2 h) fun t3=>
 alK [.p (.int .i64 0),.sl0 none] h fun t4 h5 y6=>
 wK (oStore (some 2) t4 t3 h5) fun t7 h8 y9=>
 pK (oLoad (some 2) t4 h8) fun t10=>
 pK (oIaddr none v0 (AI 0) h8) fun t11=>
 pK (oLoad none t11 h8) fun t12=>
 pK (oLens t12) fun t13=>
 callE C f_q017 [t13] h8 fun t14 h15 y16=>
 (pK (oLoad (some 2) t4 h15) fun v=>(fun u (g1 : Heap) (y1 : Esc)=>u = t10 ∧ g1 = h15 ∧ y1 = []) v h15 []) ∧ (callE C f_q018 [v7,t10,t14] h15 fun t17 h18 y19=>
 pK (oBin .add v20 (AI 1)) fun t20=>
 K .normal ⟨[(0,v0),(7,v7),(18,v18),(19,v19),(20,t20)],h18,(y19 ++ (y16 ++ (y9 ++ (y6 ++ x))))⟩))
 (K (.exit 0) ⟨[(0,v0),(7,v7),(18,v18),(19,v19),(20,v20),(21,t1)],h,x⟩)
theorem e_q00x_k1 {C gl e h x K} : NW C gl p_q00x_k1 ⟨e,h,x⟩ K = d_q00x_k1 C gl (aget e 0) (aget e 7) (aget e 18) (aget e 19) (aget e 20) h x K:=by kernel_rfl
theorem l_q00x_k1 {C gl e h x K} : NW C gl (.loop (.scope p_q00x_k1)) ⟨e,h,x⟩ K = NLoop C gl (.scope p_q00x_k1) K [(0,aget e 0),(7,aget e 7),(18,aget e 18),(19,aget e 19),(20,aget e 20)] h x:=NLoop_sc
def p_q00x_k2 : ACode:=.pr [0,7] (.seq (rg [mV 33 7,
mV 34 0,
iA 35 none 34 (cI 0),
lD 36 none 35,
uO 37 (.lens 36),
cL 38 f_q016 [33,37],
mV 4 38,
mV 5 (cI 0)] [4,5])
.ret)
def d_q00x_k2 (C : Hd) (gl : GL) (v0 v7 : AV) (h : Heap) (x : Esc) (K : KT) : Prop:=
 pK (oIaddr none v0 (AI 0) h) fun t1=>
 pK (oLoad none t1 h) fun t2=>
 pK (oLens t2) fun t3=>
 C f_q016 [v7,t3] h fun t4 h5 y6=>
 K .ret ⟨[(4,t4),(5,(AI 0))],h5,(y6 ++ x)⟩
theorem e_q00x_k2 {C gl e h x K} : NW C gl p_q00x_k2 ⟨e,h,x⟩ K = d_q00x_k2 C gl (aget e 0) (aget e 7) h x K:=by kernel_rfl
def P_q00x (q1 q2 : ACode) : ACode:=(.seq (rg [mV 4 (.c (.p (.sl none []))),
mV 5 (cI 0)] [0,1])
(.seq (.seq (rg [mV 10 0,
mV 11 1,
cL 12 f_q012 [10,11],
mV 6 12] [0,1,6])
(.seq (rg [mV 13 6,
bN 14 .neq 13 (cI 0)] [0,1,6,14])
(.cond 14 (.seq (rg [mV 15 6,
mV 4 (.c (.p (.sl none []))),
mV 5 15] [4,5])
.ret)
.skip)))
(.seq (rg [mV 16 0,
cL 17 f_q015 [16],
mV 7 17] [0,1,7])
(.seq (.seq (rg [mV 18 1,
lN 19 18,
mV 20 (cI 0)] [0,7,18,19,20])
(.block 0 (.loop (.scope q1))))
q2))))
def a_q00x : AFun:=⟨2,[.t 4,.t 5],P_q00x p_q00x_k1 p_q00x_k2,false,false⟩
def d_q00x (C : Hd) (gl : GL) (q1 q2 : ACode) (v0 v1 : AV) (h : Heap) (x : Esc) (K : KT) : Prop:=
 C f_q012 [v0,v1] h fun t1 h2 y3=>
 pK (oBin .neq t1 (AI 0)) fun t4=>
 condB t4 (K .ret ⟨[(4,(.p (.sl none []))),(5,t1)],h2,(y3 ++ x)⟩)
 (C f_q015 [v0] h2 fun t5 h6 y7=>
 pK (oLen v1) fun t8=>
 NW C gl (.loop (.scope q1)) ⟨[(0,v0),(7,t5),(18,v1),(19,t8),(20,(AI 0))],h6,(y7 ++ (y3 ++ x))⟩ (blockN 0 (seqN C gl q2 K)))
theorem E_q00x {C gl q1 q2 v0 v1 h x K} : NW C gl (P_q00x q1 q2) ⟨enter [v0,v1],h,x⟩ K = d_q00x C gl q1 q2 v0 v1 h x K:=by kernel_rfl
theorem e_q00x {C gl v0 v1 h x K} : NW C gl a_q00x.body ⟨enter [v0,v1],h,x⟩ K = d_q00x C gl p_q00x_k1 p_q00x_k2 v0 v1 h x K:=E_q00x
def P_q00y : ACode:=(.seq (rg [uO 3 (.box 1),
mV 4 cF,
mV 5 (cI 0)] [0,3])
(.seq (.seq (rg [mV 7 0,
lD 8 (some 2) 3,
uO 9 (.bsl false (some 2) 1 (.agg [.int .i64 0,.sl none []]) [(0,8)]),
cL 10 f_q012 [7,9],
mV 6 10] [0,3,6])
(.seq (rg [mV 11 6,
bN 12 .neq 11 (cI 0)] [0,3,6,12])
(.cond 12 (.seq (rg [mV 13 6,
mV 4 cF,
mV 5 13] [4,5])
.ret)
.skip)))
(.seq (dr [dF (mV 14 0) [0],
dT (cL 15 f_q015 [14]) [14],
dA (lD 16 (some 2) 3) [3] false [1] [],
dF (mV 17 0) [0],
dA (iA 18 none 17 (cI 0)) [17] false [1] [],
dA (lD 19 none 18) [18] false [1] [],
dF (uO 20 (.lens 19)) [19],
dT (cL 21 f_q011 [15,16,20]) [15,16,20],
dF (bN 22 .neq 21 (.c (.p (.int .u64 0)))) [21],
dF (mV 4 22) [22],
dF (mV 5 (cI 0)) []] [4,5])
.ret)))
def a_q00y : AFun:=⟨2,[.t 4,.t 5],P_q00y,false,false⟩
def d_q00y (C : Hd) (gl : GL) (v0 v1 : AV) (h : Heap) (x : Esc) (K : KT) : Prop:=
 wK (oBox v1 h) fun t1 h2 y3=>
 pK (oLoad (some 2) t1 h2) fun t4=>
 wK (oBsl false (some 2) 1 (.agg [.int .i64 0,.sl none []]) [(0,t4)] h2) fun t5 h6 y7=>
 C f_q012 [v0,t5] h6 fun t8 h9 y10=>
 pK (oBin .neq t8 (AI 0)) fun t11=>
 condB t11 (K .ret ⟨[(4,(AB false)),(5,t8)],h9,(y10 ++ (y7 ++ (y3 ++ x)))⟩)
 (callE C f_q015 [v0] h9 fun t12 h13 y14=>
 pK (oLoad (some 2) t1 h13) fun t15=>
 (pK (oLoad (some 2) t1 h9) fun v=>(fun u (g1 : Heap) (y1 : Esc)=>u = t15 ∧ g1 = h9 ∧ y1 = []) v h9 []) ∧ (pK (oIaddr none v0 (AI 0) h13) fun t16=>
 (pK (oIaddr none v0 (AI 0) h9) fun v=>(fun u (g1 : Heap) (y1 : Esc)=>u = t16 ∧ g1 = h9 ∧ y1 = []) v h9 []) ∧ (pK (oLoad none t16 h13) fun t17=>
 (pK (oLoad none t16 h9) fun v=>(fun u (g1 : Heap) (y1 : Esc)=>u = t17 ∧ g1 = h9 ∧ y1 = []) v h9 []) ∧ (pK (oLens t17) fun t18=>
 callE C f_q011 [t12,t15,t18] h13 fun t19 h20 y21=>
 pK (oBin .neq t19 (.p (.int .u64 0))) fun t22=>
 K .ret ⟨[(4,t22),(5,(AI 0))],h20,(y21 ++ (y14 ++ (y10 ++ (y7 ++ (y3 ++ x)))))⟩))))
theorem e_q00y {C gl v0 v1 h x K} : NW C gl a_q00y.body ⟨enter [v0,v1],h,x⟩ K = d_q00y C gl v0 v1 h x K:=by kernel_rfl
def P_q00z : ACode:=(.seq (rg [uO 3 (.box 1),
mV 4 (cI 0),
mV 5 cF,
mV 6 (cI 0)] [0,3])
(.seq (.seq (rg [mV 9 0,
lD 10 (some 2) 3,
uO 11 (.bsl false (some 2) 1 (.agg [.int .i64 0,.sl none []]) [(0,10)]),
cL 12 f_q012 [9,11],
mV 7 12] [0,3,7])
(.seq (rg [mV 13 7,
bN 14 .neq 13 (cI 0)] [0,3,7,14])
(.cond 14 (.seq (rg [mV 15 7,
mV 4 (cI 0),
mV 5 cF,
mV 6 15] [4,5,6])
.ret)
.skip)))
(.seq (dr [dF (mV 16 0) [0],
dT (cL 17 f_q015 [16]) [16],
dA (lD 18 (some 2) 3) [3] false [1] [],
dF (mV 19 0) [0],
dA (iA 20 none 19 (cI 0)) [19] false [1] [],
dA (lD 21 none 20) [20] false [1] [],
dF (uO 22 (.lens 21)) [21],
dT (cL 23 f_q011 [17,18,22]) [17,18,22],
dF (mV 8 23) [23]] [8])
(.seq (.seq (rg [mV 24 8,
bN 25 .eql 24 (.c (.p (.int .u64 0)))] [8,25])
(.cond 25 (.seq (rg [mV 4 (cI 0),
mV 5 cF,
mV 6 (cI 0)] [4,5,6])
.ret)
.skip))
(.seq (rg [mV 26 8,
cL 27 f_q01r [26],
mV 4 27,
mV 5 cT,
mV 6 (cI 0)] [4,5,6])
.ret)))))
def a_q00z : AFun:=⟨2,[.t 4,.t 5,.t 6],P_q00z,false,false⟩
def d_q00z (C : Hd) (gl : GL) (v0 v1 : AV) (h : Heap) (x : Esc) (K : KT) : Prop:=
 wK (oBox v1 h) fun t1 h2 y3=>
 pK (oLoad (some 2) t1 h2) fun t4=>
 wK (oBsl false (some 2) 1 (.agg [.int .i64 0,.sl none []]) [(0,t4)] h2) fun t5 h6 y7=>
 C f_q012 [v0,t5] h6 fun t8 h9 y10=>
 pK (oBin .neq t8 (AI 0)) fun t11=>
 condB t11 (K .ret ⟨[(4,(AI 0)),(5,(AB false)),(6,t8)],h9,(y10 ++ (y7 ++ (y3 ++ x)))⟩)
 (callE C f_q015 [v0] h9 fun t12 h13 y14=>
 pK (oLoad (some 2) t1 h13) fun t15=>
 (pK (oLoad (some 2) t1 h9) fun v=>(fun u (g1 : Heap) (y1 : Esc)=>u = t15 ∧ g1 = h9 ∧ y1 = []) v h9 []) ∧ (pK (oIaddr none v0 (AI 0) h13) fun t16=>
 (pK (oIaddr none v0 (AI 0) h9) fun v=>(fun u (g1 : Heap) (y1 : Esc)=>u = t16 ∧ g1 = h9 ∧ y1 = []) v h9 []) ∧ (pK (oLoad none t16 h13) fun t17=>
 (pK (oLoad none t16 h9) fun v=>(fun u (g1 : Heap) (y1 : Esc)=>u = t17 ∧ g1 = h9 ∧ y1 = []) v h9 []) ∧ (pK (oLens t17) fun t18=>
 callE C f_q011 [t12,t15,t18] h13 fun t19 h20 y21=>
 pK (oBin .eql t19 (.p (.int .u64 0))) fun t22=>
 condB t22 (K .ret ⟨[(4,(AI 0)),(5,(AB false)),(6,(AI 0))],h20,(y21 ++ (y14 ++ (y10 ++ (y7 ++ (y3 ++ x)))))⟩)
 (C f_q01r [t19] h20 fun t23 h24 y25=>
 K .ret ⟨[(4,t23),(5,(AB true)),(6,(AI 0))],h24,(y25 ++ (y21 ++ (y14 ++ (y10 ++ (y7 ++ (y3 ++ x))))))⟩)))))
theorem e_q00z {C gl v0 v1 h x K} : NW C gl a_q00z.body ⟨enter [v0,v1],h,x⟩ K = d_q00z C gl v0 v1 h x K:=by kernel_rfl
def p_q02j_k1 : ACode:=.pr [0,13,14,15] (.seq (rg [bN 16 .lss 15 14] [0,13,14,15,16])
(.seq (.cond 16 .skip
(.exit 1))
(.seq (.block 2 (.seq (rg [iA 17 none 13 15,
lD 18 none 17,
mV 4 18] [0,4,13,14,15])
(.block 3 (.seq (rg [mV 20 4,
cL 21 f_q02c [20],
uO 22 (.un .not 21),
mV 19 22] [0,4,13,14,15,19])
(.cond 19 (.seq (rg [mV 2 (cI 3)] [2])
.ret)
(.seq (rg [mV 24 4,
uO 25 (.lens 24),
bN 26 .gtr 25 (cI 64),
mV 23 26] [0,4,13,14,15,23])
(.cond 23 (.seq (rg [mV 2 (cI 2)] [2])
.ret)
(.seq (rg [mV 28 4,
uO 29 (.lens 28),
mV 30 0,
iA 31 none 30 (cI 0),
lD 32 none 31,
uO 33 (.lens 32),
bN 34 .neq 29 33,
mV 27 34] [0,13,14,15,27])
(.cond 27 (.seq (rg [mV 2 (cI 3)] [2])
.ret)
.skip)))))))))
(rg [bN 35 .add 15 (cI 1),
mV 15 35] [0,13,14,15]))))
def d_q02j_k1 (C : Hd) (gl : GL) (v0 v13 v14 v15 : AV) (h : Heap) (x : Esc) (K : KT) : Prop:=
 pK (oBin .lss v15 v14) fun t1=>
 condB t1 (pK (oIaddr none v13 v15 h) fun t2=>
 pK (oLoad none t2 h) fun t3=>
 C f_q02c [t3] h fun t4 h5 y6=>
 pK (oUn .not t4) fun t7=>
 condB t7 (K .ret ⟨[(2,(AI 3))],h5,(y6 ++ x)⟩)
 (pK (oLens t3) fun t8=>
 pK (oBin .gtr t8 (AI 64)) fun t9=>
 condB t9 (K .ret ⟨[(2,(AI 2))],h5,(y6 ++ x)⟩)
 (pK (oLens t3) fun t10=>
 pK (oIaddr none v0 (AI 0) h5) fun t11=>
 pK (oLoad none t11 h5) fun t12=>
 pK (oLens t12) fun t13=>
 pK (oBin .neq t10 t13) fun t14=>
 condB t14 (K .ret ⟨[(2,(AI 3))],h5,(y6 ++ x)⟩)
 (pK (oBin .add v15 (AI 1)) fun t15=>
 K .normal ⟨[(0,v0),(13,v13),(14,v14),(15,t15)],h5,(y6 ++ x)⟩))))
 (K (.exit 1) ⟨[(0,v0),(13,v13),(14,v14),(15,v15),(16,t1)],h,x⟩)
theorem e_q02j_k1 {C gl e h x K} : NW C gl p_q02j_k1 ⟨e,h,x⟩ K = d_q02j_k1 C gl (aget e 0) (aget e 13) (aget e 14) (aget e 15) h x K:=by kernel_rfl
theorem l_q02j_k1 {C gl e h x K} : NW C gl (.loop p_q02j_k1) ⟨e,h,x⟩ K = NLoop C gl p_q02j_k1 K [(0,aget e 0),(13,aget e 13),(14,aget e 14),(15,aget e 15)] h x:=NLoop_pr
def p_q02j_k2 : ACode:=.pr [] (.seq (rg [mV 2 (cI 0)] [2])
.ret)
def d_q02j_k2 (C : Hd) (gl : GL) (h : Heap) (x : Esc) (K : KT) : Prop:=
 K .ret ⟨[(2,(AI 0))],h,x⟩
theorem e_q02j_k2 {C gl e h x K} : NW C gl p_q02j_k2 ⟨e,h,x⟩ K = d_q02j_k2 C gl h x K:=by kernel_rfl
def P_q02j (q1 q2 : ACode) : ACode:=(.seq (rg [mV 2 (cI 0)] [0])
(.seq (.block 0 (.seq (rg [mV 6 0,
lN 7 6,
bN 8 .eql 7 (cI 0),
mV 5 8] [0,5])
(.cond 5 (.seq (rg [mV 2 (cI 8)] [2])
.ret)
(.seq (rg [mV 10 0,
lN 11 10,
bN 12 .gtr 11 (cI 100),
mV 9 12] [0,9])
(.cond 9 (.seq (rg [mV 2 (cI 2)] [2])
.ret)
.skip)))))
(.seq (.seq (rg [mV 13 0,
lN 14 13,
mV 15 (cI 0)] [0,13,14,15])
(.block 1 (.loop q1)))
q2)))
def a_q02j : AFun:=⟨1,[.t 2],P_q02j p_q02j_k1 p_q02j_k2,false,false⟩
def d_q02j (C : Hd) (gl : GL) (q1 q2 : ACode) (v0 : AV) (h : Heap) (x : Esc) (K : KT) : Prop:=
 pK (oLen v0) fun t1=>
 pK (oBin .eql t1 (AI 0)) fun t2=>
 condB t2 (K .ret ⟨[(2,(AI 8))],h,x⟩)
 (pK (oLen v0) fun t3=>
 pK (oBin .gtr t3 (AI 100)) fun t4=>
 condB t4 (K .ret ⟨[(2,(AI 2))],h,x⟩)
 (pK (oLen v0) fun t5=>
 NW C gl (.loop q1) ⟨[(0,v0),(13,v0),(14,t5),(15,(AI 0))],h,x⟩ (blockN 1 (seqN C gl q2 K))))
theorem E_q02j {C gl q1 q2 v0 h x K} : NW C gl (P_q02j q1 q2) ⟨enter [v0],h,x⟩ K = d_q02j C gl q1 q2 v0 h x K:=by kernel_rfl
theorem e_q02j {C gl v0 h x K} : NW C gl a_q02j.body ⟨enter [v0],h,x⟩ K = d_q02j C gl p_q02j_k1 p_q02j_k2 v0 h x K:=E_q02j
def p_q02e_k1 : ACode:=.pr [3,5,6] (.seq (.seq (rg [mV 48 6,
mV 49 5,
lN 50 49,
bN 51 .lss 48 50] [3,5,6,51])
(.cond 51 .skip
(.exit 1)))
(.seq (.block 2 (.seq (dr [dF (mV 54 5) [5],
dF (mV 55 6) [6],
dF (iA 56 none 54 55) [54,55],
dF (lD 57 none 56) [56],
dF (mV 58 5) [5],
dF (mV 59 6) [6],
dF (bN 60 .sub 59 (cI 1)) [59],
dF (iA 61 none 58 60) [58,60],
dF (lD 62 none 61) [61],
dF (bN 63 .leq 57 62) [57,62]] [3,5,6,63])
(.cond 63 (.seq (rg [mV 4 (cI 7)] [4])
.ret)
.skip)))
(rg [mV 52 6,
bN 53 .add 52 (cI 1),
mV 6 53] [3,5,6])))
def d_q02e_k1 (C : Hd) (gl : GL) (v3 v5 v6 : AV) (h : Heap) (x : Esc) (K : KT) : Prop:=
 pK (oLen v5) fun t1=>
 pK (oBin .lss v6 t1) fun t2=>
 condB t2 (pK (oIaddr none v5 v6 h) fun t3=>
 pK (oLoad none t3 h) fun t4=>
 pK (oBin .sub v6 (AI 1)) fun t5=>
 pK (oIaddr none v5 t5 h) fun t6=>
 pK (oLoad none t6 h) fun t7=>
 pK (oBin .leq t4 t7) fun t8=>
 condB t8 (K .ret ⟨[(4,(AI 7))],h,x⟩)
 (pK (oBin .add v6 (AI 1)) fun t9=>
 K .normal ⟨[(3,v3),(5,v5),(6,t9)],h,x⟩))
 (K (.exit 1) ⟨[(3,v3),(5,v5),(6,v6),(51,t2)],h,x⟩)
theorem e_q02e_k1 {C gl e h x K} : NW C gl p_q02e_k1 ⟨e,h,x⟩ K = d_q02e_k1 C gl (aget e 3) (aget e 5) (aget e 6) h x K:=by kernel_rfl
theorem l_q02e_k1 {C gl e h x K} : NW C gl (.loop p_q02e_k1) ⟨e,h,x⟩ K = NLoop C gl p_q02e_k1 K [(3,aget e 3),(5,aget e 5),(6,aget e 6)] h x:=NLoop_pr
def p_q02e_k2 : ACode:=.pr [3,5] (.seq (.seq (rg [fA 64 0 none 3,
lD 65 none 64,
bN 66 .eql 65 (cI 5),
mV 67 66,
gD 68 67 true (.mv 5),
gD 69 67 true (.faddr 1 none 3),
gD 70 67 true (.load none 69),
gD 71 67 true (.iaddr none 70 (cI 0)),
gD 72 67 true (.load none 71),
gD 73 67 true (.call f_q02z [68,72]),
uO 74 (.pick 67 73 cF)] [74])
(.cond 74 (.seq (rg [mV 4 (cI 6)] [4])
.ret)
.skip))
(.seq (rg [mV 4 (cI 0)] [4])
.ret))
def d_q02e_k2 (C : Hd) (gl : GL) (v3 v5 : AV) (h : Heap) (x : Esc) (K : KT) : Prop:=
 pK (oFaddr 0 none v3) fun t1=>
 pK (oLoad none t1 h) fun t2=>
 pK (oBin .eql t2 (AI 5)) fun t3=>
 gM t3 true v5 h fun t4 h5 y6=>
 gP t3 true (oFaddr 1 none v3) h5 fun t7 h8 y9=>
 gP t3 true (oLoad none t7 h8) h8 fun t10 h11 y12=>
 gP t3 true (oIaddr none t10 (AI 0) h11) h11 fun t13 h14 y15=>
 gP t3 true (oLoad none t13 h14) h14 fun t16 h17 y18=>
 gV t3 true h17 (C f_q02z [t4,t16] h17) fun t19 h20 y21=>
 pK (oPick t3 t19 (AB false)) fun t22=>
 condB t22 (K .ret ⟨[(4,(AI 6))],h20,(y21 ++ (y18 ++ (y15 ++ (y12 ++ (y9 ++ (y6 ++ x))))))⟩)
 (K .ret ⟨[(4,(AI 0))],h20,(y21 ++ (y18 ++ (y15 ++ (y12 ++ (y9 ++ (y6 ++ x))))))⟩)
theorem e_q02e_k2 {C gl e h x K} : NW C gl p_q02e_k2 ⟨e,h,x⟩ K = d_q02e_k2 C gl (aget e 3) (aget e 5) h x K:=by kernel_rfl
def P_q02e_k3 (q1 q2 : ACode) : ACode:=.pr [3,5] (.seq (.seq (rg [mV 6 (cI 1)] [3,5,6])
(.block 1 (.loop q1)))
q2)
def p_q02e_k3 : ACode:=P_q02e_k3 p_q02e_k1 p_q02e_k2
def d_q02e_k3 (C : Hd) (gl : GL) (q1 q2 : ACode) (v3 v5 : AV) (h : Heap) (x : Esc) (K : KT) : Prop:=
 NW C gl (.loop q1) ⟨[(3,v3),(5,v5),(6,(AI 1))],h,x⟩ (blockN 1 (seqN C gl q2 K))
theorem E_q02e_k3 {C gl q1 q2 e h x K} : NW C gl (P_q02e_k3 q1 q2) ⟨e,h,x⟩ K = d_q02e_k3 C gl q1 q2 (aget e 3) (aget e 5) h x K:=by kernel_rfl
theorem e_q02e_k3 {C gl e h x K} : NW C gl p_q02e_k3 ⟨e,h,x⟩ K = d_q02e_k3 C gl p_q02e_k1 p_q02e_k2 (aget e 3) (aget e 5) h x K:=E_q02e_k3
def P_q02e (q3 : ACode) : ACode:=(.seq (rg [uO 2 (.box 0),
uO 3 (.box 1),
mV 4 (cI 0)] [2,3])
(.seq (.block 0 (.seq (rg [lD 8 none 2,
cL 9 f_q02l [8,(cI 1),(cI 100)],
uO 10 (.un .not 9),
mV 7 10] [2,3,7])
(.cond 7 (.seq (rg [mV 4 (cI 1)] [4])
.ret)
(.seq (rg [fA 12 0 none 3,
lD 13 none 12,
cL 14 f_q02l [13,(cI 1),(cI 6)],
uO 15 (.un .not 14),
mV 11 15] [2,3,11])
(.cond 11 (.seq (rg [mV 4 (cI 4)] [4])
.ret)
(.seq (rg [fA 17 1 none 3,
lD 18 none 17,
lN 19 18,
bN 20 .eql 19 (cI 0),
mV 16 20] [2,3,16])
(.cond 16 (.seq (rg [mV 4 (cI 8)] [4])
.ret)
(.seq (rg [fA 22 1 none 3,
lD 23 none 22,
lN 24 23,
bN 25 .gtr 24 (cI 6),
mV 21 25] [2,3,21])
(.cond 21 (.seq (rg [mV 4 (cI 2)] [4])
.ret)
(.seq (rg [fA 27 1 none 3,
lD 28 none 27,
uO 29 (.mkfn f_q02f [2]),
cL 30 f_q02y [28,29],
mV 26 30] [3,26])
(.cond 26 (.seq (rg [mV 4 (cI 1)] [4])
.ret)
(.seq (dr [dF (fA 32 0 none 3) [3],
dF (lD 33 none 32) [32],
dT (cL 34 f_q02o [33]) [33],
dF (fA 35 1 none 3) [3],
dA (lD 36 none 35) [35] false [2] [],
dF (lN 37 36) [36],
dF (bN 38 .gtr 37 (cI 1)) [37],
dF (uO 39 (.eqa [] true 34 38)) [34,38],
dF (mV 31 39) [39]] [3,31])
(.cond 31 (.seq (rg [mV 4 (cI 3)] [4])
.ret)
.skip)))))))))))))
(.seq (rg [fA 40 1 none 3,
lD 41 none 40,
mV 5 41] [3,5])
(.seq (.seq (rg [fA 42 0 none 3,
lD 43 none 42,
bN 44 .eql 43 (cI 5)] [3,5,44])
(.cond 44 (rg [fA 45 1 none 3,
lD 46 none 45,
uO 47 (.slice none 46 (some (cI 1)) none none),
mV 5 47] [3,5])
.skip))
q3))))
def a_q02e : AFun:=⟨2,[.t 4],P_q02e p_q02e_k3,false,false⟩
def d_q02e (C : Hd) (gl : GL) (q3 : ACode) (v0 v1 : AV) (h : Heap) (x : Esc) (K : KT) : Prop:=
 wK (oBox v0 h) fun t1 h2 y3=>
 wK (oBox v1 h2) fun t4 h5 y6=>
 pK (oLoad none t1 h5) fun t7=>
 C f_q02l [t7,(AI 1),(AI 100)] h5 fun t8 h9 y10=>
 pK (oUn .not t8) fun t11=>
 condB t11 (K .ret ⟨[(4,(AI 1))],h9,(y10 ++ (y6 ++ (y3 ++ x)))⟩)
 (pK (oFaddr 0 none t4) fun t12=>
 pK (oLoad none t12 h9) fun t13=>
 C f_q02l [t13,(AI 1),(AI 6)] h9 fun t14 h15 y16=>
 pK (oUn .not t14) fun t17=>
 condB t17 (K .ret ⟨[(4,(AI 4))],h15,(y16 ++ (y10 ++ (y6 ++ (y3 ++ x))))⟩)
 (pK (oFaddr 1 none t4) fun t18=>
 pK (oLoad none t18 h15) fun t19=>
 pK (oLen t19) fun t20=>
 pK (oBin .eql t20 (AI 0)) fun t21=>
 condB t21 (K .ret ⟨[(4,(AI 8))],h15,(y16 ++ (y10 ++ (y6 ++ (y3 ++ x))))⟩)
 (pK (oFaddr 1 none t4) fun t22=>
 pK (oLoad none t22 h15) fun t23=>
 pK (oLen t23) fun t24=>
 pK (oBin .gtr t24 (AI 6)) fun t25=>
 condB t25 (K .ret ⟨[(4,(AI 2))],h15,(y16 ++ (y10 ++ (y6 ++ (y3 ++ x))))⟩)
 (pK (oFaddr 1 none t4) fun t26=>
 pK (oLoad none t26 h15) fun t27=>
 C f_q02y [t27,(.fn f_q02f [t1])] h15 fun t28 h29 y30=>
 condB t28 (K .ret ⟨[(4,(AI 1))],h29,(y30 ++ (y16 ++ (y10 ++ (y6 ++ (y3 ++ x)))))⟩)
 (pK (oFaddr 0 none t4) fun t31=>
 pK (oLoad none t31 h29) fun t32=>
 callE C f_q02o [t32] h29 fun t33 h34 y35=>
 pK (oFaddr 1 none t4) fun t36=>
 pK (oLoad none t36 h34) fun t37=>
 (pK (oLoad none t36 h29) fun v=>(fun u (g1 : Heap) (y1 : Esc)=>u = t37 ∧ g1 = h29 ∧ y1 = []) v h29 []) ∧ (pK (oLen t37) fun t38=>
 pK (oBin .gtr t38 (AI 1)) fun t39=>
 pK (oEqa [] true t33 t39) fun t40=>
 condB t40 (K .ret ⟨[(4,(AI 3))],h34,(y35 ++ (y30 ++ (y16 ++ (y10 ++ (y6 ++ (y3 ++ x))))))⟩)
 (pK (oFaddr 1 none t4) fun t41=>
 pK (oLoad none t41 h34) fun t42=>
 pK (oFaddr 0 none t4) fun t43=>
 pK (oLoad none t43 h34) fun t44=>
 pK (oBin .eql t44 (AI 5)) fun t45=>
 condB t45 (pK (oFaddr 1 none t4) fun t46=>
 pK (oLoad none t46 h34) fun t47=>
 pK (oSlice none t47 (some (AI 1)) none none h34) fun t48=>
 NW C gl q3 ⟨[(3,t4),(5,t48)],h34,(y35 ++ (y30 ++ (y16 ++ (y10 ++ (y6 ++ (y3 ++ x))))))⟩ K)
 (NW C gl q3 ⟨[(3,t4),(5,t42),(44,t45)],h34,(y35 ++ (y30 ++ (y16 ++ (y10 ++ (y6 ++ (y3 ++ x))))))⟩ K))))))))
theorem E_q02e {C gl q3 v0 v1 h x K} : NW C gl (P_q02e q3) ⟨enter [v0,v1],h,x⟩ K = d_q02e C gl q3 v0 v1 h x K:=by kernel_rfl
theorem e_q02e {C gl v0 v1 h x K} : NW C gl a_q02e.body ⟨enter [v0,v1],h,x⟩ K = d_q02e C gl p_q02e_k3 v0 v1 h x K:=E_q02e
def p_q00w_k1 : ACode:=.pr [0,13,14,15] (.seq (rg [bN 16 .lss 15 14] [0,13,14,15,16])
(.seq (.cond 16 .skip
(.exit 1))
(.seq (.block 2 (.seq (rg [iA 17 none 13 15,
lD 18 none 17,
mV 4 18] [0,4,13,14,15])
(.block 3 (.seq (rg [mV 20 4,
cL 21 f_q000 [20],
uO 22 (.un .not 21),
mV 19 22] [0,4,13,14,15,19])
(.cond 19 (.seq (rg [mV 2 (cI 3)] [2])
.ret)
(.seq (rg [mV 24 4,
uO 25 (.lens 24),
bN 26 .gtr 25 (cI 64),
mV 23 26] [0,4,13,14,15,23])
(.cond 23 (.seq (rg [mV 2 (cI 2)] [2])
.ret)
(.seq (rg [mV 28 4,
uO 29 (.lens 28),
mV 30 0,
iA 31 none 30 (cI 0),
lD 32 none 31,
uO 33 (.lens 32),
bN 34 .neq 29 33,
mV 27 34] [0,13,14,15,27])
(.cond 27 (.seq (rg [mV 2 (cI 3)] [2])
.ret)
.skip)))))))))
(rg [bN 35 .add 15 (cI 1),
mV 15 35] [0,13,14,15]))))
def d_q00w_k1 (C : Hd) (gl : GL) (v0 v13 v14 v15 : AV) (h : Heap) (x : Esc) (K : KT) : Prop:=
 pK (oBin .lss v15 v14) fun t1=>
 condB t1 (pK (oIaddr none v13 v15 h) fun t2=>
 pK (oLoad none t2 h) fun t3=>
 C f_q000 [t3] h fun t4 h5 y6=>
 pK (oUn .not t4) fun t7=>
 condB t7 (K .ret ⟨[(2,(AI 3))],h5,(y6 ++ x)⟩)
 (pK (oLens t3) fun t8=>
 pK (oBin .gtr t8 (AI 64)) fun t9=>
 condB t9 (K .ret ⟨[(2,(AI 2))],h5,(y6 ++ x)⟩)
 (pK (oLens t3) fun t10=>
 pK (oIaddr none v0 (AI 0) h5) fun t11=>
 pK (oLoad none t11 h5) fun t12=>
 pK (oLens t12) fun t13=>
 pK (oBin .neq t10 t13) fun t14=>
 condB t14 (K .ret ⟨[(2,(AI 3))],h5,(y6 ++ x)⟩)
 (pK (oBin .add v15 (AI 1)) fun t15=>
 K .normal ⟨[(0,v0),(13,v13),(14,v14),(15,t15)],h5,(y6 ++ x)⟩))))
 (K (.exit 1) ⟨[(0,v0),(13,v13),(14,v14),(15,v15),(16,t1)],h,x⟩)
theorem e_q00w_k1 {C gl e h x K} : NW C gl p_q00w_k1 ⟨e,h,x⟩ K = d_q00w_k1 C gl (aget e 0) (aget e 13) (aget e 14) (aget e 15) h x K:=by kernel_rfl
theorem l_q00w_k1 {C gl e h x K} : NW C gl (.loop p_q00w_k1) ⟨e,h,x⟩ K = NLoop C gl p_q00w_k1 K [(0,aget e 0),(13,aget e 13),(14,aget e 14),(15,aget e 15)] h x:=NLoop_pr
def p_q00w_k2 : ACode:=.pr [] (.seq (rg [mV 2 (cI 0)] [2])
.ret)
def d_q00w_k2 (C : Hd) (gl : GL) (h : Heap) (x : Esc) (K : KT) : Prop:=
 K .ret ⟨[(2,(AI 0))],h,x⟩
theorem e_q00w_k2 {C gl e h x K} : NW C gl p_q00w_k2 ⟨e,h,x⟩ K = d_q00w_k2 C gl h x K:=by kernel_rfl
def P_q00w (q1 q2 : ACode) : ACode:=(.seq (rg [mV 2 (cI 0)] [0])
(.seq (.block 0 (.seq (rg [mV 6 0,
lN 7 6,
bN 8 .eql 7 (cI 0),
mV 5 8] [0,5])
(.cond 5 (.seq (rg [mV 2 (cI 8)] [2])
.ret)
(.seq (rg [mV 10 0,
lN 11 10,
bN 12 .gtr 11 (cI 100),
mV 9 12] [0,9])
(.cond 9 (.seq (rg [mV 2 (cI 2)] [2])
.ret)
.skip)))))
(.seq (.seq (rg [mV 13 0,
lN 14 13,
mV 15 (cI 0)] [0,13,14,15])
(.block 1 (.loop q1)))
q2)))
def a_q00w : AFun:=⟨1,[.t 2],P_q00w p_q00w_k1 p_q00w_k2,false,false⟩
def d_q00w (C : Hd) (gl : GL) (q1 q2 : ACode) (v0 : AV) (h : Heap) (x : Esc) (K : KT) : Prop:=
 pK (oLen v0) fun t1=>
 pK (oBin .eql t1 (AI 0)) fun t2=>
 condB t2 (K .ret ⟨[(2,(AI 8))],h,x⟩)
 (pK (oLen v0) fun t3=>
 pK (oBin .gtr t3 (AI 100)) fun t4=>
 condB t4 (K .ret ⟨[(2,(AI 2))],h,x⟩)
 (pK (oLen v0) fun t5=>
 NW C gl (.loop q1) ⟨[(0,v0),(13,v0),(14,t5),(15,(AI 0))],h,x⟩ (blockN 1 (seqN C gl q2 K))))
theorem E_q00w {C gl q1 q2 v0 h x K} : NW C gl (P_q00w q1 q2) ⟨enter [v0],h,x⟩ K = d_q00w C gl q1 q2 v0 h x K:=by kernel_rfl
theorem e_q00w {C gl v0 h x K} : NW C gl a_q00w.body ⟨enter [v0],h,x⟩ K = d_q00w C gl p_q00w_k1 p_q00w_k2 v0 h x K:=E_q00w
def p_q00v_k1 : ACode:=.pr [0,3,27,28,29] (.seq (rg [bN 30 .lss 29 28] [0,3,27,28,29,30])
(.seq (.cond 30 .skip
(.exit 1))
(.seq (.block 2 (.seq (rg [iA 31 none 27 29,
lD 32 none 31,
mV 6 32] [0,3,6,27,28,29])
(.seq (rg [mV 33 6,
mV 34 0,
bN 35 .sub 34 (cI 1),
cL 36 f_q006 [33,(cI 0),35]] [0,3,27,28,29,36])
(.cond 36 (.seq (rg [mV 4 (cI 1)] [4])
.ret)
.skip))))
(rg [bN 37 .add 29 (cI 1),
mV 29 37] [0,3,27,28,29]))))
def d_q00v_k1 (C : Hd) (gl : GL) (v0 v3 v27 v28 v29 : AV) (h : Heap) (x : Esc) (K : KT) : Prop:=
 pK (oBin .lss v29 v28) fun t1=>
 condB t1 (pK (oIaddr none v27 v29 h) fun t2=>
 pK (oLoad none t2 h) fun t3=>
 pK (oBin .sub v0 (AI 1)) fun t4=>
 C f_q006 [t3,(AI 0),t4] h fun t5 h6 y7=>
 condB t5 (K .ret ⟨[(4,(AI 1))],h6,(y7 ++ x)⟩)
 (pK (oBin .add v29 (AI 1)) fun t8=>
 K .normal ⟨[(0,v0),(3,v3),(27,v27),(28,v28),(29,t8)],h6,(y7 ++ x)⟩))
 (K (.exit 1) ⟨[(0,v0),(3,v3),(27,v27),(28,v28),(29,v29),(30,t1)],h,x⟩)
theorem e_q00v_k1 {C gl e h x K} : NW C gl p_q00v_k1 ⟨e,h,x⟩ K = d_q00v_k1 C gl (aget e 0) (aget e 3) (aget e 27) (aget e 28) (aget e 29) h x K:=by kernel_rfl
theorem l_q00v_k1 {C gl e h x K} : NW C gl (.loop p_q00v_k1) ⟨e,h,x⟩ K = NLoop C gl p_q00v_k1 K [(0,aget e 0),(3,aget e 3),(27,aget e 27),(28,aget e 28),(29,aget e 29)] h x:=NLoop_pr
def p_q00v_k2 : ACode:=.pr [3,7,8] (.seq (.seq (rg [mV 53 8,
mV 54 7,
lN 55 54,
bN 56 .lss 53 55] [3,7,8,56])
(.cond 56 .skip
(.exit 3)))
(.seq (.block 4 (.seq (dr [dF (mV 59 7) [7],
dF (mV 60 8) [8],
dF (iA 61 none 59 60) [59,60],
dF (lD 62 none 61) [61],
dF (mV 63 7) [7],
dF (mV 64 8) [8],
dF (bN 65 .sub 64 (cI 1)) [64],
dF (iA 66 none 63 65) [63,65],
dF (lD 67 none 66) [66],
dF (bN 68 .leq 62 67) [62,67]] [3,7,8,68])
(.cond 68 (.seq (rg [mV 4 (cI 7)] [4])
.ret)
.skip)))
(rg [mV 57 8,
bN 58 .add 57 (cI 1),
mV 8 58] [3,7,8])))
def d_q00v_k2 (C : Hd) (gl : GL) (v3 v7 v8 : AV) (h : Heap) (x : Esc) (K : KT) : Prop:=
 pK (oLen v7) fun t1=>
 pK (oBin .lss v8 t1) fun t2=>
 condB t2 (pK (oIaddr none v7 v8 h) fun t3=>
 pK (oLoad none t3 h) fun t4=>
 pK (oBin .sub v8 (AI 1)) fun t5=>
 pK (oIaddr none v7 t5 h) fun t6=>
 pK (oLoad none t6 h) fun t7=>
 pK (oBin .leq t4 t7) fun t8=>
 condB t8 (K .ret ⟨[(4,(AI 7))],h,x⟩)
 (pK (oBin .add v8 (AI 1)) fun t9=>
 K .normal ⟨[(3,v3),(7,v7),(8,t9)],h,x⟩))
 (K (.exit 3) ⟨[(3,v3),(7,v7),(8,v8),(56,t2)],h,x⟩)
theorem e_q00v_k2 {C gl e h x K} : NW C gl p_q00v_k2 ⟨e,h,x⟩ K = d_q00v_k2 C gl (aget e 3) (aget e 7) (aget e 8) h x K:=by kernel_rfl
theorem l_q00v_k2 {C gl e h x K} : NW C gl (.loop p_q00v_k2) ⟨e,h,x⟩ K = NLoop C gl p_q00v_k2 K [(3,aget e 3),(7,aget e 7),(8,aget e 8)] h x:=NLoop_pr
def p_q00v_k3 : ACode:=.pr [3,7] (.seq (.seq (rg [fA 69 0 none 3,
lD 70 none 69,
bN 71 .eql 70 (cI 5),
mV 72 71,
gD 73 72 true (.mv 7),
gD 74 72 true (.faddr 1 none 3),
gD 75 72 true (.load none 74),
gD 76 72 true (.iaddr none 75 (cI 0)),
gD 77 72 true (.load none 76),
gD 78 72 true (.call f_q02z [73,77]),
uO 79 (.pick 72 78 cF)] [79])
(.cond 79 (.seq (rg [mV 4 (cI 6)] [4])
.ret)
.skip))
(.seq (rg [mV 4 (cI 0)] [4])
.ret))
def d_q00v_k3 (C : Hd) (gl : GL) (v3 v7 : AV) (h : Heap) (x : Esc) (K : KT) : Prop:=
 pK (oFaddr 0 none v3) fun t1=>
 pK (oLoad none t1 h) fun t2=>
 pK (oBin .eql t2 (AI 5)) fun t3=>
 gM t3 true v7 h fun t4 h5 y6=>
 gP t3 true (oFaddr 1 none v3) h5 fun t7 h8 y9=>
 gP t3 true (oLoad none t7 h8) h8 fun t10 h11 y12=>
 gP t3 true (oIaddr none t10 (AI 0) h11) h11 fun t13 h14 y15=>
 gP t3 true (oLoad none t13 h14) h14 fun t16 h17 y18=>
 gV t3 true h17 (C f_q02z [t4,t16] h17) fun t19 h20 y21=>
 pK (oPick t3 t19 (AB false)) fun t22=>
 condB t22 (K .ret ⟨[(4,(AI 6))],h20,(y21 ++ (y18 ++ (y15 ++ (y12 ++ (y9 ++ (y6 ++ x))))))⟩)
 (K .ret ⟨[(4,(AI 0))],h20,(y21 ++ (y18 ++ (y15 ++ (y12 ++ (y9 ++ (y6 ++ x))))))⟩)
theorem e_q00v_k3 {C gl e h x K} : NW C gl p_q00v_k3 ⟨e,h,x⟩ K = d_q00v_k3 C gl (aget e 3) (aget e 7) h x K:=by kernel_rfl
def P_q00v_k4 (q2 q3 : ACode) : ACode:=.pr [3,7] (.seq (.seq (rg [mV 8 (cI 1)] [3,7,8])
(.block 3 (.loop q2)))
q3)
def p_q00v_k4 : ACode:=P_q00v_k4 p_q00v_k2 p_q00v_k3
def d_q00v_k4 (C : Hd) (gl : GL) (q2 q3 : ACode) (v3 v7 : AV) (h : Heap) (x : Esc) (K : KT) : Prop:=
 NW C gl (.loop q2) ⟨[(3,v3),(7,v7),(8,(AI 1))],h,x⟩ (blockN 3 (seqN C gl q3 K))
theorem E_q00v_k4 {C gl q2 q3 e h x K} : NW C gl (P_q00v_k4 q2 q3) ⟨e,h,x⟩ K = d_q00v_k4 C gl q2 q3 (aget e 3) (aget e 7) h x K:=by kernel_rfl
theorem e_q00v_k4 {C gl e h x K} : NW C gl p_q00v_k4 ⟨e,h,x⟩ K = d_q00v_k4 C gl p_q00v_k2 p_q00v_k3 (aget e 3) (aget e 7) h x K:=E_q00v_k4
def P_q00v_k5 (q4 : ACode) : ACode:=.pr [3] (.seq (.seq (dr [dF (fA 38 0 none 3) [3],
dF (lD 39 none 38) [38],
dT (cL 40 f_q013 [39]) [39],
dF (fA 41 1 none 3) [3],
dA (lD 42 none 41) [41] false [2] [],
dF (lN 43 42) [42],
dF (bN 44 .gtr 43 (cI 1)) [43],
dF (uO 45 (.eqa [] true 40 44)) [40,44]] [3,45])
(.cond 45 (.seq (rg [mV 4 (cI 3)] [4])
.ret)
.skip))
(.seq (rg [fA 46 1 none 3,
lD 47 none 46,
mV 7 47] [3,7])
(.seq (.seq (rg [fA 48 0 none 3,
lD 49 none 48,
bN 50 .eql 49 (cI 5)] [3,7,50])
(.cond 50 (rg [mV 51 7,
uO 52 (.slice none 51 (some (cI 1)) none none),
mV 7 52] [3,7])
.skip))
q4)))
def p_q00v_k5 : ACode:=P_q00v_k5 p_q00v_k4
def d_q00v_k5 (C : Hd) (gl : GL) (q4 : ACode) (v3 : AV) (h : Heap) (x : Esc) (K : KT) : Prop:=
 pK (oFaddr 0 none v3) fun t1=>
 pK (oLoad none t1 h) fun t2=>
 callE C f_q013 [t2] h fun t3 h4 y5=>
 pK (oFaddr 1 none v3) fun t6=>
 pK (oLoad none t6 h4) fun t7=>
 (pK (oLoad none t6 h) fun v=>(fun u (g1 : Heap) (y1 : Esc)=>u = t7 ∧ g1 = h ∧ y1 = []) v h []) ∧ (pK (oLen t7) fun t8=>
 pK (oBin .gtr t8 (AI 1)) fun t9=>
 pK (oEqa [] true t3 t9) fun t10=>
 condB t10 (K .ret ⟨[(4,(AI 3))],h4,(y5 ++ x)⟩)
 (pK (oFaddr 1 none v3) fun t11=>
 pK (oLoad none t11 h4) fun t12=>
 pK (oFaddr 0 none v3) fun t13=>
 pK (oLoad none t13 h4) fun t14=>
 pK (oBin .eql t14 (AI 5)) fun t15=>
 condB t15 (pK (oSlice none t12 (some (AI 1)) none none h4) fun t16=>
 NW C gl q4 ⟨[(3,v3),(7,t16)],h4,(y5 ++ x)⟩ K)
 (NW C gl q4 ⟨[(3,v3),(7,t12),(50,t15)],h4,(y5 ++ x)⟩ K)))
theorem E_q00v_k5 {C gl q4 e h x K} : NW C gl (P_q00v_k5 q4) ⟨e,h,x⟩ K = d_q00v_k5 C gl q4 (aget e 3) h x K:=by kernel_rfl
theorem e_q00v_k5 {C gl e h x K} : NW C gl p_q00v_k5 ⟨e,h,x⟩ K = d_q00v_k5 C gl p_q00v_k4 (aget e 3) h x K:=E_q00v_k5
def P_q00v (q1 q5 : ACode) : ACode:=(.seq (rg [uO 3 (.box 1),
mV 4 (cI 0)] [0,3])
(.seq (.block 0 (.seq (rg [mV 10 0,
cL 11 f_q006 [10,(cI 1),(cI 100)],
mV 9 11] [0,3,9])
(.cond 9 (.seq (rg [mV 4 (cI 1)] [4])
.ret)
(.seq (rg [fA 13 0 none 3,
lD 14 none 13,
cL 15 f_q006 [14,(cI 1),(cI 6)],
mV 12 15] [0,3,12])
(.cond 12 (.seq (rg [mV 4 (cI 4)] [4])
.ret)
(.seq (rg [fA 17 1 none 3,
lD 18 none 17,
lN 19 18,
bN 20 .eql 19 (cI 0),
mV 16 20] [0,3,16])
(.cond 16 (.seq (rg [mV 4 (cI 8)] [4])
.ret)
(.seq (rg [fA 22 1 none 3,
lD 23 none 22,
lN 24 23,
bN 25 .gtr 24 (cI 6),
mV 21 25] [0,3,21])
(.cond 21 (.seq (rg [mV 4 (cI 2)] [4])
.ret)
.skip)))))))))
(.seq (.seq (rg [fA 26 1 none 3,
lD 27 none 26,
lN 28 27,
mV 29 (cI 0)] [0,3,27,28,29])
(.block 1 (.loop q1)))
q5)))
def a_q00v : AFun:=⟨2,[.t 4],P_q00v p_q00v_k1 p_q00v_k5,false,false⟩
def d_q00v (C : Hd) (gl : GL) (q1 q5 : ACode) (v0 v1 : AV) (h : Heap) (x : Esc) (K : KT) : Prop:=
 wK (oBox v1 h) fun t1 h2 y3=>
 C f_q006 [v0,(AI 1),(AI 100)] h2 fun t4 h5 y6=>
 condB t4 (K .ret ⟨[(4,(AI 1))],h5,(y6 ++ (y3 ++ x))⟩)
 (pK (oFaddr 0 none t1) fun t7=>
 pK (oLoad none t7 h5) fun t8=>
 C f_q006 [t8,(AI 1),(AI 6)] h5 fun t9 h10 y11=>
 condB t9 (K .ret ⟨[(4,(AI 4))],h10,(y11 ++ (y6 ++ (y3 ++ x)))⟩)
 (pK (oFaddr 1 none t1) fun t12=>
 pK (oLoad none t12 h10) fun t13=>
 pK (oLen t13) fun t14=>
 pK (oBin .eql t14 (AI 0)) fun t15=>
 condB t15 (K .ret ⟨[(4,(AI 8))],h10,(y11 ++ (y6 ++ (y3 ++ x)))⟩)
 (pK (oFaddr 1 none t1) fun t16=>
 pK (oLoad none t16 h10) fun t17=>
 pK (oLen t17) fun t18=>
 pK (oBin .gtr t18 (AI 6)) fun t19=>
 condB t19 (K .ret ⟨[(4,(AI 2))],h10,(y11 ++ (y6 ++ (y3 ++ x)))⟩)
 (pK (oFaddr 1 none t1) fun t20=>
 pK (oLoad none t20 h10) fun t21=>
 pK (oLen t21) fun t22=>
 NW C gl (.loop q1) ⟨[(0,v0),(3,t1),(27,t21),(28,t22),(29,(AI 0))],h10,(y11 ++ (y6 ++ (y3 ++ x)))⟩ (blockN 1 (seqN C gl q5 K))))))
theorem E_q00v {C gl q1 q5 v0 v1 h x K} : NW C gl (P_q00v q1 q5) ⟨enter [v0,v1],h,x⟩ K = d_q00v C gl q1 q5 v0 v1 h x K:=by kernel_rfl
theorem e_q00v {C gl v0 v1 h x K} : NW C gl a_q00v.body ⟨enter [v0,v1],h,x⟩ K = d_q00v C gl p_q00v_k1 p_q00v_k5 v0 v1 h x K:=E_q00v
def p_q032_k1 : ACode:=.pr [0,1,12,13] (.seq (rg [bN 14 .lss 13 12] [0,1,12,13,14])
(.seq (.cond 14 .skip
(.exit 0))
(.seq (.block 1 (.seq (rg [mV 15 13,
mV 5 15] [0,1,5,12,13])
(.seq (dr [dF (mV 16 0) [0],
dF (mV 17 5) [5],
dF (iA 18 none 16 17) [16,17],
dF (lD 19 none 18) [18],
dF (mV 20 1) [1],
dF (mV 21 5) [5],
dF (iA 22 none 20 21) [20,21],
dF (lD 23 none 22) [22],
dF (bN 24 .neq 19 23) [19,23]] [0,1,12,13,24])
(.cond 24 (.seq (rg [mV 4 cF] [4])
.ret)
.skip))))
(rg [bN 25 .add 13 (cI 1),
mV 13 25] [0,1,12,13]))))
def d_q032_k1 (C : Hd) (gl : GL) (v0 v1 v12 v13 : AV) (h : Heap) (x : Esc) (K : KT) : Prop:=
 pK (oBin .lss v13 v12) fun t1=>
 condB t1 (pK (oIaddr none v0 v13 h) fun t2=>
 pK (oLoad none t2 h) fun t3=>
 pK (oIaddr none v1 v13 h) fun t4=>
 pK (oLoad none t4 h) fun t5=>
 pK (oBin .neq t3 t5) fun t6=>
 condB t6 (K .ret ⟨[(4,(AB false))],h,x⟩)
 (pK (oBin .add v13 (AI 1)) fun t7=>
 K .normal ⟨[(0,v0),(1,v1),(12,v12),(13,t7)],h,x⟩))
 (K (.exit 0) ⟨[(0,v0),(1,v1),(12,v12),(13,v13),(14,t1)],h,x⟩)
theorem e_q032_k1 {C gl e h x K} : NW C gl p_q032_k1 ⟨e,h,x⟩ K = d_q032_k1 C gl (aget e 0) (aget e 1) (aget e 12) (aget e 13) h x K:=by kernel_rfl
theorem l_q032_k1 {C gl e h x K} : NW C gl (.loop p_q032_k1) ⟨e,h,x⟩ K = NLoop C gl p_q032_k1 K [(0,aget e 0),(1,aget e 1),(12,aget e 12),(13,aget e 13)] h x:=NLoop_pr
def p_q032_k2 : ACode:=.pr [] (.seq (rg [mV 4 cT] [4])
.ret)
def d_q032_k2 (C : Hd) (gl : GL) (h : Heap) (x : Esc) (K : KT) : Prop:=
 K .ret ⟨[(4,(AB true))],h,x⟩
theorem e_q032_k2 {C gl e h x K} : NW C gl p_q032_k2 ⟨e,h,x⟩ K = d_q032_k2 C gl h x K:=by kernel_rfl
def P_q032 (q1 q2 : ACode) : ACode:=(.seq (rg [mV 4 cF] [0,1])
(.seq (.seq (rg [mV 6 0,
lN 7 6,
mV 8 1,
lN 9 8,
bN 10 .neq 7 9] [0,1,10])
(.cond 10 (.seq (rg [mV 4 cF] [4])
.ret)
.skip))
(.seq (.seq (rg [mV 11 0,
lN 12 11,
mV 13 (cI 0)] [0,1,12,13])
(.block 0 (.loop q1)))
q2)))
def a_q032 : AFun:=⟨2,[.t 4],P_q032 p_q032_k1 p_q032_k2,false,false⟩
def d_q032 (C : Hd) (gl : GL) (q1 q2 : ACode) (v0 v1 : AV) (h : Heap) (x : Esc) (K : KT) : Prop:=
 pK (oLen v0) fun t1=>
 pK (oLen v1) fun t2=>
 pK (oBin .neq t1 t2) fun t3=>
 condB t3 (K .ret ⟨[(4,(AB false))],h,x⟩)
 (pK (oLen v0) fun t4=>
 NW C gl (.loop q1) ⟨[(0,v0),(1,v1),(12,t4),(13,(AI 0))],h,x⟩ (blockN 0 (seqN C gl q2 K)))
theorem E_q032 {C gl q1 q2 v0 v1 h x K} : NW C gl (P_q032 q1 q2) ⟨enter [v0,v1],h,x⟩ K = d_q032 C gl q1 q2 v0 v1 h x K:=by kernel_rfl
theorem e_q032 {C gl v0 v1 h x K} : NW C gl a_q032.body ⟨enter [v0,v1],h,x⟩ K = d_q032 C gl p_q032_k1 p_q032_k2 v0 v1 h x K:=E_q032
end Go.Am
end
section
/- The functions asv abstract code,and asv formulas over their values: printed by program out of the translation. -/
set_option linter.unusedVariables false
set_option maxRecDepth 100000
namespace Go.Am
def p_q02a_k1 : ACode:=.pr [0,4] (.seq (rg [bN 5 .lss 4 (cI 6)] [0,4,5])
(.seq (.cond 5 .skip
(.exit 0))
(.seq (.block 1 (.seq (rg [mV 6 0,
cL 7 f_q022 [6],
mV 3 7] [0,3,4])
(.seq (rg [mV 8 3,
cL 9 f_q02j [8],
bN 10 .eql 9 (cI 0),
mV 11 10,
gD 12 11 true (.mv 3),
gD 13 11 true (.iaddr none 12 (cI 0)),
gD 14 11 true (.load none 13),
gD 15 11 true (.lens 14),
gD 16 11 true (.bin .lss 15 (cI 20)),
uO 17 (.pick 11 16 cF)] [0,3,4,17])
(.cond 17 (.seq (rg [mV 18 3,
mV 2 18] [2])
.ret)
.skip))))
(rg [bN 19 .add 4 (cI 1),
mV 4 19] [0,4]))))
def d_q02a_k1 (C : Hd) (gl : GL) (v0 v4 : AV) (h : Heap) (x : Esc) (K : KT) : Prop:=
 pK (oBin .lss v4 (AI 6)) fun t1=>
 condB t1 (C f_q022 [v0] h fun t2 h3 y4=>
 C f_q02j [t2] h3 fun t5 h6 y7=>
 pK (oBin .eql t5 (AI 0)) fun t8=>
 gM t8 true t2 h6 fun t9 h10 y11=>
 gP t8 true (oIaddr none t9 (AI 0) h10) h10 fun t12 h13 y14=>
 gP t8 true (oLoad none t12 h13) h13 fun t15 h16 y17=>
 gP t8 true (oLens t15) h16 fun t18 h19 y20=>
 gP t8 true (oBin .lss t18 (AI 20)) h19 fun t21 h22 y23=>
 pK (oPick t8 t21 (AB false)) fun t24=>
 condB t24 (K .ret ⟨[(2,t2)],h22,(y23 ++ (y20 ++ (y17 ++ (y14 ++ (y11 ++ (y7 ++ (y4 ++ x)))))))⟩)
 (pK (oBin .add v4 (AI 1)) fun t25=>
 K .normal ⟨[(0,v0),(4,t25)],h22,(y23 ++ (y20 ++ (y17 ++ (y14 ++ (y11 ++ (y7 ++ (y4 ++ x)))))))⟩))
 (K (.exit 0) ⟨[(0,v0),(4,v4),(5,t1)],h,x⟩)
theorem e_q02a_k1 {C gl e h x K} : NW C gl p_q02a_k1 ⟨e,h,x⟩ K = d_q02a_k1 C gl (aget e 0) (aget e 4) h x K:=by kernel_rfl
theorem l_q02a_k1 {C gl e h x K} : NW C gl (.loop p_q02a_k1) ⟨e,h,x⟩ K = NLoop C gl p_q02a_k1 K [(0,aget e 0),(4,aget e 4)] h x:=NLoop_pr
def p_q02a_k2 : ACode:=.pr [] (.seq (rg [uO 20 (.bsl false none 2 (.str []) [(0,(cS [48,49])),(1,(cS [49,48]))]),
mV 2 20] [2])
.ret)
def d_q02a_k2 (C : Hd) (gl : GL) (h : Heap) (x : Esc) (K : KT) : Prop:=
 wK (oBsl false none 2 (.str []) [(0,(.p (.str [48,49]))),(1,(.p (.str [49,48])))] h) fun t1 h2 y3=>
 K .ret ⟨[(2,t1)],h2,(y3 ++ x)⟩
theorem e_q02a_k2 {C gl e h x K} : NW C gl p_q02a_k2 ⟨e,h,x⟩ K = d_q02a_k2 C gl h x K:=by kernel_rfl
def P_q02a (q1 q2 : ACode) : ACode:=(.seq (rg [mV 2 (.c (.p (.sl none [])))] [0])
(.seq (.seq (rg [mV 4 (cI 0)] [0,4])
(.block 0 (.loop q1)))
q2))
def a_q02a : AFun:=⟨1,[.t 2],P_q02a p_q02a_k1 p_q02a_k2,false,false⟩
def d_q02a (C : Hd) (gl : GL) (q1 q2 : ACode) (v0 : AV) (h : Heap) (x : Esc) (K : KT) : Prop:=
 NW C gl (.loop q1) ⟨[(0,v0),(4,(AI 0))],h,x⟩ (blockN 0 (seqN C gl q2 K))
theorem E_q02a {C gl q1 q2 v0 h x K} : NW C gl (P_q02a q1 q2) ⟨enter [v0],h,x⟩ K = d_q02a C gl q1 q2 v0 h x K:=by kernel_rfl
theorem e_q02a {C gl v0 h x K} : NW C gl a_q02a.body ⟨enter [v0],h,x⟩ K = d_q02a C gl p_q02a_k1 p_q02a_k2 v0 h x K:=E_q02a
def p_q027_k1 : ACode:=.pr [0,1,5,9,10] (.seq (rg [bN 11 .lss 10 9] [0,1,5,9,10,11])
(.seq (.cond 11 .skip
(.exit 0))
(.seq (.block 1 (.seq (rg [mV 12 10,
mV 6 12] [0,1,5,6,9,10])
(rg [mV 13 5,
mV 14 6,
uO 15 (.bsl false none 1 (.int .i64 0) [(0,14)]),
uO 16 (.app none 13 15),
mV 5 16] [0,1,5,9,10])))
(rg [bN 17 .add 10 (cI 1),
mV 10 17] [0,1,5,9,10]))))
def d_q027_k1 (C : Hd) (gl : GL) (v0 v1 v5 v9 v10 : AV) (h : Heap) (x : Esc) (K : KT) : Prop:=
 pK (oBin .lss v10 v9) fun t1=>
 condB t1 (wK (oBsl false none 1 (.int .i64 0) [(0,v10)] h) fun t2 h3 y4=>
 wK (oApp none v5 t2 h3) fun t5 h6 y7=>
 pK (oBin .add v10 (AI 1)) fun t8=>
 K .normal ⟨[(0,v0),(1,v1),(5,t5),(9,v9),(10,t8)],h6,(y7 ++ (y4 ++ x))⟩)
 (K (.exit 0) ⟨[(0,v0),(1,v1),(5,v5),(9,v9),(10,v10),(11,t1)],h,x⟩)
theorem e_q027_k1 {C gl e h x K} : NW C gl p_q027_k1 ⟨e,h,x⟩ K = d_q027_k1 C gl (aget e 0) (aget e 1) (aget e 5) (aget e 9) (aget e 10) h x K:=by kernel_rfl
theorem l_q027_k1 {C gl e h x K} : NW C gl (.loop (.scope p_q027_k1)) ⟨e,h,x⟩ K = NLoop C gl (.scope p_q027_k1) K [(0,aget e 0),(1,aget e 1),(5,aget e 5),(9,aget e 9),(10,aget e 10)] h x:=NLoop_sc
def p_q027_k2 : ACode:=.pr [0,5,7] (.seq (.seq (rg [mV 20 7,
bN 21 .gtr 20 (cI 0)] [0,5,7,21])
(.cond 21 .skip
(.exit 2)))
(.seq (.block 3 (.seq (rg [mV 24 0,
mV 25 7,
bN 26 .add 25 (cI 1),
cL 27 f_q025 [24,26],
mV 8 27] [0,5,7,8])
(dr [dF (mV 28 5) [5],
dF (mV 29 7) [7],
dF (mV 30 5) [5],
dF (mV 31 8) [8],
dF (mV 32 5) [5],
dF (mV 33 8) [8],
dF (iA 34 none 32 33) [32,33],
dF (lD 35 none 34) [34],
dF (mV 36 5) [5],
dF (mV 37 7) [7],
dF (iA 38 none 36 37) [36,37],
dF (lD 39 none 38) [38],
dF (iA 40 none 28 29) [28,29],
dT (wO (.store none 40 35)) [40,35],
dF (iA 41 none 30 31) [30,31],
dT (wO (.store none 41 39)) [41,39]] [0,5,7])))
(rg [mV 22 7,
bN 23 .sub 22 (cI 1),
mV 7 23] [0,5,7])))
def d_q027_k2 (C : Hd) (gl : GL) (v0 v5 v7 : AV) (h : Heap) (x : Esc) (K : KT) : Prop:=
 pK (oBin .gtr v7 (AI 0)) fun t1=>
 condB t1 (pK (oBin .add v7 (AI 1)) fun t2=>
 C f_q025 [v0,t2] h fun t3 h4 y5=>
 pK (oIaddr none v5 t3 h4) fun t6=>
 pK (oLoad none t6 h4) fun t7=>
 pK (oIaddr none v5 v7 h4) fun t8=>
 pK (oLoad none t8 h4) fun t9=>
 pK (oIaddr none v5 v7 h4) fun t10=>
 wK (oStore none t10 t7 h4) fun t11 h12 y13=>
 pK (oIaddr none v5 t3 h12) fun t14=>
 wK (oStore none t14 t9 h12) fun t15 h16 y17=>
 pK (oBin .sub v7 (AI 1)) fun t18=>
 K .normal ⟨[(0,v0),(5,v5),(7,t18)],h16,(y17 ++ (y13 ++ (y5 ++ x)))⟩)
 (K (.exit 2) ⟨[(0,v0),(5,v5),(7,v7),(21,t1)],h,x⟩)
theorem e_q027_k2 {C gl e h x K} : NW C gl p_q027_k2 ⟨e,h,x⟩ K = d_q027_k2 C gl (aget e 0) (aget e 5) (aget e 7) h x K:=by kernel_rfl
theorem l_q027_k2 {C gl e h x K} : NW C gl (.loop p_q027_k2) ⟨e,h,x⟩ K = NLoop C gl p_q027_k2 K [(0,aget e 0),(5,aget e 5),(7,aget e 7)] h x:=NLoop_pr
def p_q027_k3 : ACode:=.pr [5] (.seq (rg [mV 42 5,
mV 4 42] [4])
.ret)
def d_q027_k3 (C : Hd) (gl : GL) (v5 : AV) (h : Heap) (x : Esc) (K : KT) : Prop:=
 K .ret ⟨[(4,v5)],h,x⟩
theorem e_q027_k3 {C gl e h x K} : NW C gl p_q027_k3 ⟨e,h,x⟩ K = d_q027_k3 C gl (aget e 5) h x K:=by kernel_rfl
def P_q027_k4 (q2 q3 : ACode) : ACode:=.pr [0,1,5] (.seq (.seq (rg [mV 18 1,
bN 19 .sub 18 (cI 1),
mV 7 19] [0,5,7])
(.block 2 (.loop q2)))
q3)
def p_q027_k4 : ACode:=P_q027_k4 p_q027_k2 p_q027_k3
def d_q027_k4 (C : Hd) (gl : GL) (q2 q3 : ACode) (v0 v1 v5 : AV) (h : Heap) (x : Esc) (K : KT) : Prop:=
 pK (oBin .sub v1 (AI 1)) fun t1=>
 NW C gl (.loop q2) ⟨[(0,v0),(5,v5),(7,t1)],h,x⟩ (blockN 2 (seqN C gl q3 K))
theorem E_q027_k4 {C gl q2 q3 e h x K} : NW C gl (P_q027_k4 q2 q3) ⟨e,h,x⟩ K = d_q027_k4 C gl q2 q3 (aget e 0) (aget e 1) (aget e 5) h x K:=by kernel_rfl
theorem e_q027_k4 {C gl e h x K} : NW C gl p_q027_k4 ⟨e,h,x⟩ K = d_q027_k4 C gl p_q027_k2 p_q027_k3 (aget e 0) (aget e 1) (aget e 5) h x K:=E_q027_k4
def P_q027 (q1 q4 : ACode) : ACode:=(.seq (rg [mV 4 (.c (.p (.sl none [])))] [0,1])
(.seq (rg [uO 5 (.new0 none)] [0,1,5])
(.seq (.seq (rg [mV 9 1,
mV 10 (cI 0)] [0,1,5,9,10])
(.block 0 (.loop (.scope q1))))
q4)))
def a_q027 : AFun:=⟨2,[.t 4],P_q027 p_q027_k1 p_q027_k4,false,true⟩
def d_q027 (C : Hd) (gl : GL) (q1 q4 : ACode) (v0 v1 : AV) (h : Heap) (x : Esc) (K : KT) : Prop:=
 nwK none h fun t1 h2 y3=>
 NW C gl (.loop (.scope q1)) ⟨[(0,v0),(1,v1),(5,t1),(9,v1),(10,(AI 0))],h2,(y3 ++ x)⟩ (blockN 0 (seqN C gl q4 K))
theorem E_q027 {C gl q1 q4 v0 v1 h x K} : NW C gl (P_q027 q1 q4) ⟨enter [v0,v1],h,x⟩ K = d_q027 C gl q1 q4 v0 v1 h x K:=by kernel_rfl
theorem e_q027 {C gl v0 v1 h x K} : NW C gl a_q027.body ⟨enter [v0,v1],h,x⟩ K = d_q027 C gl p_q027_k1 p_q027_k4 v0 v1 h x K:=E_q027
def p_q01u_k1 : ACode:=.pr [5,6,7] (.seq (rg [bN 8 .lss 7 6] [5,6,7,8])
(.seq (.cond 8 .skip
(.exit 0))
(.seq (.block 1 (.seq (rg [iA 9 none 5 7,
lD 10 none 9,
mV 4 10] [4,5,6,7])
(.seq (rg [mV 11 4,
bN 12 .neq 11 (cI 0)] [4,5,6,7,12])
(.cond 12 (.seq (rg [mV 13 4,
mV 2 13] [2])
.ret)
.skip))))
(rg [bN 14 .add 7 (cI 1),
mV 7 14] [5,6,7]))))
def d_q01u_k1 (C : Hd) (gl : GL) (v5 v6 v7 : AV) (h : Heap) (x : Esc) (K : KT) : Prop:=
 pK (oBin .lss v7 v6) fun t1=>
 condB t1 (pK (oIaddr none v5 v7 h) fun t2=>
 pK (oLoad none t2 h) fun t3=>
 pK (oBin .neq t3 (AI 0)) fun t4=>
 condB t4 (K .ret ⟨[(2,t3)],h,x⟩)
 (pK (oBin .add v7 (AI 1)) fun t5=>
 K .normal ⟨[(5,v5),(6,v6),(7,t5)],h,x⟩))
 (K (.exit 0) ⟨[(5,v5),(6,v6),(7,v7),(8,t1)],h,x⟩)
theorem e_q01u_k1 {C gl e h x K} : NW C gl p_q01u_k1 ⟨e,h,x⟩ K = d_q01u_k1 C gl (aget e 5) (aget e 6) (aget e 7) h x K:=by kernel_rfl
theorem l_q01u_k1 {C gl e h x K} : NW C gl (.loop p_q01u_k1) ⟨e,h,x⟩ K = NLoop C gl p_q01u_k1 K [(5,aget e 5),(6,aget e 6),(7,aget e 7)] h x:=NLoop_pr
def p_q01u_k2 : ACode:=.pr [] (.seq (rg [mV 2 (cI 0)] [2])
.ret)
def d_q01u_k2 (C : Hd) (gl : GL) (h : Heap) (x : Esc) (K : KT) : Prop:=
 K .ret ⟨[(2,(AI 0))],h,x⟩
theorem e_q01u_k2 {C gl e h x K} : NW C gl p_q01u_k2 ⟨e,h,x⟩ K = d_q01u_k2 C gl h x K:=by kernel_rfl
def P_q01u (q1 q2 : ACode) : ACode:=(.seq (rg [mV 2 (cI 0)] [0])
(.seq (.seq (rg [mV 5 0,
lN 6 5,
mV 7 (cI 0)] [5,6,7])
(.block 0 (.loop q1)))
q2))
def a_q01u : AFun:=⟨1,[.t 2],P_q01u p_q01u_k1 p_q01u_k2,false,false⟩
def d_q01u (C : Hd) (gl : GL) (q1 q2 : ACode) (v0 : AV) (h : Heap) (x : Esc) (K : KT) : Prop:=
 pK (oLen v0) fun t1=>
 NW C gl (.loop q1) ⟨[(5,v0),(6,t1),(7,(AI 0))],h,x⟩ (blockN 0 (seqN C gl q2 K))
theorem E_q01u {C gl q1 q2 v0 h x K} : NW C gl (P_q01u q1 q2) ⟨enter [v0],h,x⟩ K = d_q01u C gl q1 q2 v0 h x K:=by kernel_rfl
theorem e_q01u {C gl v0 h x K} : NW C gl a_q01u.body ⟨enter [v0],h,x⟩ K = d_q01u C gl p_q01u_k1 p_q01u_k2 v0 h x K:=E_q01u
def P_q02z : ACode:=(.seq (rg [mV 4 cF] [0,1])
(.seq (rg [mV 5 0,
mV 6 1,
cL 7 f_q036 [5,6],
bN 8 .geq 7 (cI 0),
mV 4 8] [4])
.ret))
def a_q02z : AFun:=⟨2,[.t 4],P_q02z,true,false⟩
def d_q02z (C : Hd) (gl : GL) (v0 v1 : AV) (h : Heap) (x : Esc) (K : KT) : Prop:=
 C f_q036 [v0,v1] h fun t1 h2 y3=>
 pK (oBin .geq t1 (AI 0)) fun t4=>
 K .ret ⟨[(4,t4)],h2,(y3 ++ x)⟩
theorem e_q02z {C gl v0 v1 h x K} : NW C gl a_q02z.body ⟨enter [v0,v1],h,x⟩ K = d_q02z C gl v0 v1 h x K:=by kernel_rfl
def P_q029 : ACode:=(.seq (rg [mV 6 (cI 0)] [0,1,2])
(.seq (.seq (rg [mV 7 2,
mV 8 1,
bN 9 .lss 7 8] [0,1,2,9])
(.cond 9 (.seq (rg [mV 10 1,
mV 6 10] [6])
.ret)
.skip))
(.seq (rg [mV 11 1,
mV 12 0,
mV 13 2,
mV 14 1,
bN 15 .sub 13 14,
bN 16 .add 15 (cI 1),
cL 17 f_q025 [12,16],
bN 18 .add 11 17,
mV 6 18] [6])
.ret)))
def a_q029 : AFun:=⟨3,[.t 6],P_q029,false,false⟩
def d_q029 (C : Hd) (gl : GL) (v0 v1 v2 : AV) (h : Heap) (x : Esc) (K : KT) : Prop:=
 pK (oBin .lss v2 v1) fun t1=>
 condB t1 (K .ret ⟨[(6,v1)],h,x⟩)
 (pK (oBin .sub v2 v1) fun t2=>
 pK (oBin .add t2 (AI 1)) fun t3=>
 C f_q025 [v0,t3] h fun t4 h5 y6=>
 pK (oBin .add v1 t4) fun t7=>
 K .ret ⟨[(6,t7)],h5,(y6 ++ x)⟩)
theorem e_q029 {C gl v0 v1 v2 h x K} : NW C gl a_q029.body ⟨enter [v0,v1,v2],h,x⟩ K = d_q029 C gl v0 v1 v2 h x K:=by kernel_rfl
def P_q02b : ACode:=(.seq (rg [mV 4 (cS [])] [0,1])
(.seq (rg [mV 5 1,
mV 6 0,
mV 7 1,
lN 8 7,
cL 9 f_q025 [6,8],
iA 10 none 5 9,
lD 11 none 10,
mV 4 11] [4])
.ret))
def a_q02b : AFun:=⟨2,[.t 4],P_q02b,false,false⟩
def d_q02b (C : Hd) (gl : GL) (v0 v1 : AV) (h : Heap) (x : Esc) (K : KT) : Prop:=
 pK (oLen v1) fun t1=>
 C f_q025 [v0,t1] h fun t2 h3 y4=>
 pK (oIaddr none v1 t2 h3) fun t5=>
 pK (oLoad none t5 h3) fun t6=>
 K .ret ⟨[(4,t6)],h3,(y4 ++ x)⟩
theorem e_q02b {C gl v0 v1 h x K} : NW C gl a_q02b.body ⟨enter [v0,v1],h,x⟩ K = d_q02b C gl v0 v1 h x K:=by kernel_rfl
def P_q024 : ACode:=(.seq (rg [mV 4 cF] [0,1])
(.seq (rg [mV 5 0,
mV 6 1,
cL 7 f_q025 [5,6],
bN 8 .eql 7 (cI 0),
mV 4 8] [4])
.ret))
def a_q024 : AFun:=⟨2,[.t 4],P_q024,false,false⟩
def d_q024 (C : Hd) (gl : GL) (v0 v1 : AV) (h : Heap) (x : Esc) (K : KT) : Prop:=
 C f_q025 [v0,v1] h fun t1 h2 y3=>
 pK (oBin .eql t1 (AI 0)) fun t4=>
 K .ret ⟨[(4,t4)],h2,(y3 ++ x)⟩
theorem e_q024 {C gl v0 v1 h x K} : NW C gl a_q024.body ⟨enter [v0,v1],h,x⟩ K = d_q024 C gl v0 v1 h x K:=by kernel_rfl
def P_q025 : ACode:=(.seq (rg [mV 4 (cI 0)] [0,1])
(.seq (rg [mV 7 0,
uO 8 (.nilchk 7),
fA 9 1 none 8,
lD 10 none 9,
bN 11 .add 10 (cI 1),
uO 12 (.nilchk 7),
fA 13 1 none 12,
wO (.store none 13 11)] [0,1])
(.seq (.seq (rg [mV 14 0,
uO 15 (.nilchk 14),
fA 16 0 none 15,
lD 17 none 16,
lN 18 17,
bN 19 .eql 18 (cI 0)] [0,1,19])
(.cond 19 (.seq (rg [mV 20 0,
uO 21 (.nilchk 20),
fA 22 1 none 21,
lD 23 none 22,
bN 24 .mul 23 (cI 7919),
mV 25 1,
cL 26 f_q020 [24,25],
mV 4 26] [4])
.ret)
.skip))
(.seq (dr [dF (mV 27 0) [0],
dF (uO 28 (.nilchk 27)) [27],
dF (fA 29 1 none 28) [28],
dF (lD 30 none 29) [29],
dF (bN 31 .sub 30 (cI 1)) [30],
dF (mV 32 0) [0],
dF (uO 33 (.nilchk 32)) [32],
dF (fA 34 0 none 33) [33],
dF (lD 35 none 34) [34],
dF (lN 36 35) [35],
dF (bN 37 .rem 31 36) [31,36],
dF (mV 5 37) [37]] [0,1,5])
(.seq (dr [dF (mV 38 0) [0],
dF (uO 39 (.nilchk 38)) [38],
dF (fA 40 1 none 39) [39],
dF (lD 41 none 40) [40],
dF (bN 42 .sub 41 (cI 1)) [41],
dF (mV 43 0) [0],
dF (uO 44 (.nilchk 43)) [43],
dF (fA 45 0 none 44) [44],
dF (lD 46 none 45) [45],
dF (lN 47 46) [46],
dF (bN 48 .quo 42 47) [42,47],
dF (mV 6 48) [48]] [0,1,5,6])
(.seq (rg [mV 49 0,
uO 50 (.nilchk 49),
fA 51 0 none 50,
lD 52 none 51,
mV 53 5,
iA 54 none 52 53,
lD 55 none 54,
cL 56 f_q020 [55,(cI 1073741824)],
mV 57 6,
mV 58 5,
bN 59 .add (cI 7919) 58,
bN 60 .mul 57 59,
bN 61 .add 56 60,
mV 62 1,
cL 63 f_q020 [61,62],
mV 4 63] [4])
.ret))))))
def a_q025 : AFun:=⟨2,[.t 4],P_q025,false,false⟩
def d_q025 (C : Hd) (gl : GL) (v0 v1 : AV) (h : Heap) (x : Esc) (K : KT) : Prop:=
 pK (oNil v0) fun t1=>
 pK (oFaddr 1 none t1) fun t2=>
 pK (oLoad none t2 h) fun t3=>
 pK (oBin .add t3 (AI 1)) fun t4=>
 pK (oNil v0) fun t5=>
 pK (oFaddr 1 none t5) fun t6=>
 wK (oStore none t6 t4 h) fun t7 h8 y9=>
 pK (oNil v0) fun t10=>
 pK (oFaddr 0 none t10) fun t11=>
 pK (oLoad none t11 h8) fun t12=>
 pK (oLen t12) fun t13=>
 pK (oBin .eql t13 (AI 0)) fun t14=>
 condB t14 (pK (oNil v0) fun t15=>
 pK (oFaddr 1 none t15) fun t16=>
 pK (oLoad none t16 h8) fun t17=>
 pK (oBin .mul t17 (AI 7919)) fun t18=>
 C f_q020 [t18,v1] h8 fun t19 h20 y21=>
 K .ret ⟨[(4,t19)],h20,(y21 ++ (y9 ++ x))⟩)
 (pK (oNil v0) fun t22=>
 pK (oFaddr 1 none t22) fun t23=>
 pK (oLoad none t23 h8) fun t24=>
 pK (oBin .sub t24 (AI 1)) fun t25=>
 pK (oNil v0) fun t26=>
 pK (oFaddr 0 none t26) fun t27=>
 pK (oLoad none t27 h8) fun t28=>
 pK (oLen t28) fun t29=>
 pK (oBin .rem t25 t29) fun t30=>
 pK (oNil v0) fun t31=>
 pK (oFaddr 1 none t31) fun t32=>
 pK (oLoad none t32 h8) fun t33=>
 pK (oBin .sub t33 (AI 1)) fun t34=>
 pK (oNil v0) fun t35=>
 pK (oFaddr 0 none t35) fun t36=>
 pK (oLoad none t36 h8) fun t37=>
 pK (oLen t37) fun t38=>
 pK (oBin .quo t34 t38) fun t39=>
 pK (oNil v0) fun t40=>
 pK (oFaddr 0 none t40) fun t41=>
 pK (oLoad none t41 h8) fun t42=>
 pK (oIaddr none t42 t30 h8) fun t43=>
 pK (oLoad none t43 h8) fun t44=>
 C f_q020 [t44,(AI 1073741824)] h8 fun t45 h46 y47=>
 pK (oBin .add (AI 7919) t30) fun t48=>
 pK (oBin .mul t39 t48) fun t49=>
 pK (oBin .add t45 t49) fun t50=>
 C f_q020 [t50,v1] h46 fun t51 h52 y53=>
 K .ret ⟨[(4,t51)],h52,(y53 ++ (y47 ++ (y9 ++ x)))⟩)
theorem e_q025 {C gl v0 v1 h x K} : NW C gl a_q025.body ⟨enter [v0,v1],h,x⟩ K = d_q025 C gl v0 v1 h x K:=by kernel_rfl
def P_q038 : ACode:=(.seq (rg [mV 3 0,
lN 4 3,
mV 2 4] [0,2])
(rg [mV 5 0,
mV 6 2,
mV 7 2,
uO 8 (.conv (.i .u64) 7),
cL 9 f_q01l [8],
cL 10 f_q03k [5,(cI 0),6,9]] []))
def a_q038 : AFun:=⟨1,[],P_q038,true,false⟩
def d_q038 (C : Hd) (gl : GL) (v0 : AV) (h : Heap) (x : Esc) (K : KT) : Prop:=
 pK (oLen v0) fun t1=>
 pK (oConvI .u64 t1) fun t2=>
 C f_q01l [t2] h fun t3 h4 y5=>
 C f_q03k [v0,(AI 0),t1,t3] h4 fun t6 h7 y8=>
 K .normal ⟨[],h7,(y8 ++ (y5 ++ x))⟩
theorem e_q038 {C gl v0 h x K} : NW C gl a_q038.body ⟨enter [v0],h,x⟩ K = d_q038 C gl v0 h x K:=by kernel_rfl
def P_q026 : ACode:=(.seq (rg [mV 6 (cI 0)] [0,1,2])
(.seq (.seq (rg [mV 7 0,
cL 8 f_q024 [7,(cI 12)]] [0,1,2,8])
(.cond 8 (.seq (rg [mV 9 0,
mV 10 1,
bN 11 .sub 10 (cI 1),
mV 12 2,
bN 13 .add 12 (cI 1),
mV 14 1,
mV 15 2,
uO 16 (.bsl false none 6 (.int .i64 0) [(0,11),(1,13),(2,14),(3,15),(4,(cI (-1099511627776))),(5,(cI 1099511627776))]),
cL 17 f_q028 [9,16],
mV 6 17] [6])
.ret)
.skip))
(.seq (rg [mV 18 0,
mV 19 1,
mV 20 2,
cL 21 f_q029 [18,19,20],
mV 6 21] [6])
.ret)))
def a_q026 : AFun:=⟨3,[.t 6],P_q026,false,false⟩
def d_q026 (C : Hd) (gl : GL) (v0 v1 v2 : AV) (h : Heap) (x : Esc) (K : KT) : Prop:=
 C f_q024 [v0,(AI 12)] h fun t1 h2 y3=>
 condB t1 (pK (oBin .sub v1 (AI 1)) fun t4=>
 pK (oBin .add v2 (AI 1)) fun t5=>
 wK (oBsl false none 6 (.int .i64 0) [(0,t4),(1,t5),(2,v1),(3,v2),(4,(AI (-1099511627776))),(5,(AI 1099511627776))] h2) fun t6 h7 y8=>
 C f_q028 [v0,t6] h7 fun t9 h10 y11=>
 K .ret ⟨[(6,t9)],h10,(y11 ++ (y8 ++ (y3 ++ x)))⟩)
 (C f_q029 [v0,v1,v2] h2 fun t12 h13 y14=>
 K .ret ⟨[(6,t12)],h13,(y14 ++ (y3 ++ x))⟩)
theorem e_q026 {C gl v0 v1 v2 h x K} : NW C gl a_q026.body ⟨enter [v0,v1,v2],h,x⟩ K = d_q026 C gl v0 v1 v2 h x K:=by kernel_rfl
def p_q012_k1 : ACode:=.pr [0,14,15,16] (.seq (rg [bN 17 .lss 16 15] [0,14,15,16,17])
(.seq (.cond 17 .skip
(.exit 0))
(.seq (.block 1 (.seq (rg [iA 18 (some 2) 14 16,
lD 19 (some 2) 18,
uO 7 (.alloc [.p (.int .i64 0),.sl0 none]),
wO (.store (some 2) 7 19)] [0,7,14,15,16])
(.seq (rg [mV 20 0,
lN 21 20,
lD 22 (some 2) 7,
cL 23 f_q00v [21,22],
mV 8 23] [0,8,14,15,16])
(.seq (rg [mV 24 8,
bN 25 .neq 24 (cI 0)] [0,8,14,15,16,25])
(.cond 25 (.seq (rg [mV 26 8,
mV 4 26] [4])
.ret)
.skip)))))
(rg [bN 27 .add 16 (cI 1),
mV 16 27] [0,14,15,16]))))
def d_q012_k1 (C : Hd) (gl : GL) (v0 v14 v15 v16 : AV) (h : Heap) (x : Esc) (K : KT) : Prop:=
 pK (oBin .lss v16 v15) fun t1=>
 condB t1 (pK (oIaddr (some 2) v14 v16 h) fun t2=>
 pK (oLoad (some 2) t2 h) fun t3=>
 alK [.p (.int .i64 0),.sl0 none] h fun t4 h5 y6=>
 wK (oStore (some 2) t4 t3 h5) fun t7 h8 y9=>
 pK (oLen v0) fun t10=>
 pK (oLoad (some 2) t4 h8) fun t11=>
 C f_q00v [t10,t11] h8 fun t12 h13 y14=>
 pK (oBin .neq t12 (AI 0)) fun t15=>
 condB t15 (K .ret ⟨[(4,t12)],h13,(y14 ++ (y9 ++ (y6 ++ x)))⟩)
 (pK (oBin .add v16 (AI 1)) fun t16=>
 K .normal ⟨[(0,v0),(14,v14),(15,v15),(16,t16)],h13,(y14 ++ (y9 ++ (y6 ++ x)))⟩))
 (K (.exit 0) ⟨[(0,v0),(14,v14),(15,v15),(16,v16),(17,t1)],h,x⟩)
theorem e_q012_k1 {C gl e h x K} : NW C gl p_q012_k1 ⟨e,h,x⟩ K = d_q012_k1 C gl (aget e 0) (aget e 14) (aget e 15) (aget e 16) h x K:=by kernel_rfl
theorem l_q012_k1 {C gl e h x K} : NW C gl (.loop (.scope p_q012_k1)) ⟨e,h,x⟩ K = NLoop C gl (.scope p_q012_k1) K [(0,aget e 0),(14,aget e 14),(15,aget e 15),(16,aget e 16)] h x:=NLoop_sc
def p_q012_k2 : ACode:=.pr [] (.seq (rg [mV 4 (cI 0)] [4])
.ret)
def d_q012_k2 (C : Hd) (gl : GL) (h : Heap) (x : Esc) (K : KT) : Prop:=
 K .ret ⟨[(4,(AI 0))],h,x⟩
theorem e_q012_k2 {C gl e h x K} : NW C gl p_q012_k2 ⟨e,h,x⟩ K = d_q012_k2 C gl h x K:=by kernel_rfl
def P_q012 (q1 q2 : ACode) : ACode:=(.seq (rg [mV 4 (cI 0)] [0,1])
(.seq (.seq (rg [mV 9 0,
cL 10 f_q00w [9],
mV 5 10] [0,1,5])
(.seq (rg [mV 11 5,
bN 12 .neq 11 (cI 0)] [0,1,5,12])
(.cond 12 (.seq (rg [mV 13 5,
mV 4 13] [4])
.ret)
.skip)))
(.seq (.seq (rg [mV 14 1,
lN 15 14,
mV 16 (cI 0)] [0,14,15,16])
(.block 0 (.loop (.scope q1))))
q2)))
def a_q012 : AFun:=⟨2,[.t 4],P_q012 p_q012_k1 p_q012_k2,false,false⟩
def d_q012 (C : Hd) (gl : GL) (q1 q2 : ACode) (v0 v1 : AV) (h : Heap) (x : Esc) (K : KT) : Prop:=
 C f_q00w [v0] h fun t1 h2 y3=>
 pK (oBin .neq t1 (AI 0)) fun t4=>
 condB t4 (K .ret ⟨[(4,t1)],h2,(y3 ++ x)⟩)
 (pK (oLen v1) fun t5=>
 NW C gl (.loop (.scope q1)) ⟨[(0,v0),(14,v1),(15,t5),(16,(AI 0))],h2,(y3 ++ x)⟩ (blockN 0 (seqN C gl q2 K)))
theorem E_q012 {C gl q1 q2 v0 v1 h x K} : NW C gl (P_q012 q1 q2) ⟨enter [v0,v1],h,x⟩ K = d_q012 C gl q1 q2 v0 v1 h x K:=by kernel_rfl
theorem e_q012 {C gl v0 v1 h x K} : NW C gl a_q012.body ⟨enter [v0,v1],h,x⟩ K = d_q012 C gl p_q012_k1 p_q012_k2 v0 v1 h x K:=E_q012
def p_q015_k1 : ACode:=.pr [3,5,6,8,9,10,15,16] (.seq (rg [bN 17 .lss 16 15] [3,5,6,8,9,10,15,16,17])
(.seq (.cond 17 .skip
(.exit 2))
(.seq (.block 3 (.seq (rg [mV 18 16,
mV 7 18] [3,5,6,7,8,9,10,15,16])
(rg [mV 19 6,
mV 20 5,
mV 21 7,
uO 22 (.idxs 20 21),
bN 23 .sub 22 (.c (.p (.int .u8 48))),
uO 24 (.conv (.i .u64) 23),
mV 25 7,
bN 26 .shl 24 25,
bN 27 .or 19 26,
mV 6 27] [3,5,6,8,9,10,15,16])))
(rg [bN 28 .add 16 (cI 1),
mV 16 28] [3,5,6,8,9,10,15,16]))))
def d_q015_k1 (C : Hd) (gl : GL) (v3 v5 v6 v8 v9 v10 v15 v16 : AV) (h : Heap) (x : Esc) (K : KT) : Prop:=
 pK (oBin .lss v16 v15) fun t1=>
 condB t1 (pK (oIdxs v5 v16) fun t2=>
 pK (oBin .sub t2 (.p (.int .u8 48))) fun t3=>
 pK (oConvI .u64 t3) fun t4=>
 pK (oBin .shl t4 v16) fun t5=>
 pK (oBin .or v6 t5) fun t6=>
 pK (oBin .add v16 (AI 1)) fun t7=>
 K .normal ⟨[(3,v3),(5,v5),(6,t6),(8,v8),(9,v9),(10,v10),(15,v15),(16,t7)],h,x⟩)
 (K (.exit 2) ⟨[(3,v3),(5,v5),(6,v6),(8,v8),(9,v9),(10,v10),(15,v15),(16,v16),(17,t1)],h,x⟩)
theorem e_q015_k1 {C gl e h x K} : NW C gl p_q015_k1 ⟨e,h,x⟩ K = d_q015_k1 C gl (aget e 3) (aget e 5) (aget e 6) (aget e 8) (aget e 9) (aget e 10) (aget e 15) (aget e 16) h x K:=by kernel_rfl
theorem l_q015_k1 {C gl e h x K} : NW C gl (.loop p_q015_k1) ⟨e,h,x⟩ K = NLoop C gl p_q015_k1 K [(3,aget e 3),(5,aget e 5),(6,aget e 6),(8,aget e 8),(9,aget e 9),(10,aget e 10),(15,aget e 15),(16,aget e 16)] h x:=NLoop_pr
def p_q015_k2 : ACode:=.pr [3,6,8,9,10] (rg [mV 29 3,
mV 30 6,
uO 31 (.bsl false none 1 (.int .u64 0) [(0,30)]),
uO 32 (.app none 29 31),
mV 3 32] [3,8,9,10])
def d_q015_k2 (C : Hd) (gl : GL) (v3 v6 v8 v9 v10 : AV) (h : Heap) (x : Esc) (K : KT) : Prop:=
 wK (oBsl false none 1 (.int .u64 0) [(0,v6)] h) fun t1 h2 y3=>
 wK (oApp none v3 t1 h2) fun t4 h5 y6=>
 K .normal ⟨[(3,t4),(8,v8),(9,v9),(10,v10)],h5,(y6 ++ (y3 ++ x))⟩
theorem e_q015_k2 {C gl e h x K} : NW C gl p_q015_k2 ⟨e,h,x⟩ K = d_q015_k2 C gl (aget e 3) (aget e 6) (aget e 8) (aget e 9) (aget e 10) h x K:=by kernel_rfl
def p_q015_k3 : ACode:=.pr [3,8,9,10] (rg [bN 33 .add 10 (cI 1),
mV 10 33] [3,8,9,10])
def d_q015_k3 (C : Hd) (gl : GL) (v3 v8 v9 v10 : AV) (h : Heap) (x : Esc) (K : KT) : Prop:=
 pK (oBin .add v10 (AI 1)) fun t1=>
 K .normal ⟨[(3,v3),(8,v8),(9,v9),(10,t1)],h,x⟩
theorem e_q015_k3 {C gl e h x K} : NW C gl p_q015_k3 ⟨e,h,x⟩ K = d_q015_k3 C gl (aget e 3) (aget e 8) (aget e 9) (aget e 10) h x K:=by kernel_rfl
def P_q015_k4 (q1 q2 q3 : ACode) : ACode:=.pr [3,8,9,10] (.seq (rg [bN 11 .lss 10 9] [3,8,9,10,11])
(.seq (.cond 11 .skip
(.exit 0))
(.seq (.block 1 (.seq (rg [iA 12 none 8 10,
lD 13 none 12,
mV 5 13] [3,5,8,9,10])
(.seq (rg [mV 6 (.c (.p (.int .u64 0)))] [3,5,6,8,9,10])
(.seq (.seq (rg [mV 14 5,
uO 15 (.lens 14),
mV 16 (cI 0)] [3,5,6,8,9,10,15,16])
(.block 2 (.loop q1)))
q2))))
q3)))
def p_q015_k4 : ACode:=P_q015_k4 p_q015_k1 p_q015_k2 p_q015_k3
def d_q015_k4 (C : Hd) (gl : GL) (q1 q2 q3 : ACode) (v3 v8 v9 v10 : AV) (h : Heap) (x : Esc) (K : KT) : Prop:=
 pK (oBin .lss v10 v9) fun t1=>
 condB t1 (pK (oIaddr none v8 v10 h) fun t2=>
 pK (oLoad none t2 h) fun t3=>
 pK (oLens t3) fun t4=>
 NW C gl (.loop q1) ⟨[(3,v3),(5,t3),(6,(.p (.int .u64 0))),(8,v8),(9,v9),(10,v10),(15,t4),(16,(AI 0))],h,x⟩ (blockN 2 (seqN C gl q2 (blockN 1 (seqN C gl q3 K)))))
 (K (.exit 0) ⟨[(3,v3),(8,v8),(9,v9),(10,v10),(11,t1)],h,x⟩)
theorem E_q015_k4 {C gl q1 q2 q3 e h x K} : NW C gl (P_q015_k4 q1 q2 q3) ⟨e,h,x⟩ K = d_q015_k4 C gl q1 q2 q3 (aget e 3) (aget e 8) (aget e 9) (aget e 10) h x K:=by kernel_rfl
theorem e_q015_k4 {C gl e h x K} : NW C gl p_q015_k4 ⟨e,h,x⟩ K = d_q015_k4 C gl p_q015_k1 p_q015_k2 p_q015_k3 (aget e 3) (aget e 8) (aget e 9) (aget e 10) h x K:=E_q015_k4
theorem l_q015_k4 {C gl e h x K} : NW C gl (.loop (.scope p_q015_k4)) ⟨e,h,x⟩ K = NLoop C gl (.scope p_q015_k4) K [(3,aget e 3),(8,aget e 8),(9,aget e 9),(10,aget e 10)] h x:=NLoop_sc
def p_q015_k5 : ACode:=.pr [3] (.seq (rg [mV 34 3,
mV 2 34] [2])
.ret)
def d_q015_k5 (C : Hd) (gl : GL) (v3 : AV) (h : Heap) (x : Esc) (K : KT) : Prop:=
 K .ret ⟨[(2,v3)],h,x⟩
theorem e_q015_k5 {C gl e h x K} : NW C gl p_q015_k5 ⟨e,h,x⟩ K = d_q015_k5 C gl (aget e 3) h x K:=by kernel_rfl
def P_q015 (q4 q5 : ACode) : ACode:=(.seq (rg [mV 2 (.c (.p (.sl none [])))] [0])
(.seq (rg [uO 3 (.new0 none)] [0,3])
(.seq (.seq (rg [mV 8 0,
lN 9 8,
mV 10 (cI 0)] [3,8,9,10])
(.block 0 (.loop (.scope q4))))
q5)))
def a_q015 : AFun:=⟨1,[.t 2],P_q015 p_q015_k4 p_q015_k5,false,true⟩
def d_q015 (C : Hd) (gl : GL) (q4 q5 : ACode) (v0 : AV) (h : Heap) (x : Esc) (K : KT) : Prop:=
 nwK none h fun t1 h2 y3=>
 pK (oLen v0) fun t4=>
 NW C gl (.loop (.scope q4)) ⟨[(3,t1),(8,v0),(9,t4),(10,(AI 0))],h2,(y3 ++ x)⟩ (blockN 0 (seqN C gl q5 K))
theorem E_q015 {C gl q4 q5 v0 h x K} : NW C gl (P_q015 q4 q5) ⟨enter [v0],h,x⟩ K = d_q015 C gl q4 q5 v0 h x K:=by kernel_rfl
theorem e_q015 {C gl v0 h x K} : NW C gl a_q015.body ⟨enter [v0],h,x⟩ K = d_q015 C gl p_q015_k4 p_q015_k5 v0 h x K:=E_q015
def p_q018_k1 : ACode:=.pr [0,4,6,31,32,33] (.seq (rg [bN 34 .lss 33 32] [0,4,6,31,32,33,34])
(.seq (.cond 34 .skip
(.exit 1))
(.seq (.block 2 (.seq (rg [iA 35 none 31 33,
lD 36 none 35,
mV 8 36] [0,4,6,8,31,32,33])
(rg [mV 37 6,
mV 38 0,
mV 39 8,
iA 40 none 38 39,
lD 41 none 40,
bN 42 .and 37 41,
mV 6 42] [0,4,6,31,32,33])))
(rg [bN 43 .add 33 (cI 1),
mV 33 43] [0,4,6,31,32,33]))))
def d_q018_k1 (C : Hd) (gl : GL) (v0 v4 v6 v31 v32 v33 : AV) (h : Heap) (x : Esc) (K : KT) : Prop:=
 pK (oBin .lss v33 v32) fun t1=>
 condB t1 (pK (oIaddr none v31 v33 h) fun t2=>
 pK (oLoad none t2 h) fun t3=>
 pK (oIaddr none v0 t3 h) fun t4=>
 pK (oLoad none t4 h) fun t5=>
 pK (oBin .and v6 t5) fun t6=>
 pK (oBin .add v33 (AI 1)) fun t7=>
 K .normal ⟨[(0,v0),(4,v4),(6,t6),(31,v31),(32,v32),(33,t7)],h,x⟩)
 (K (.exit 1) ⟨[(0,v0),(4,v4),(6,v6),(31,v31),(32,v32),(33,v33),(34,t1)],h,x⟩)
theorem e_q018_k1 {C gl e h x K} : NW C gl p_q018_k1 ⟨e,h,x⟩ K = d_q018_k1 C gl (aget e 0) (aget e 4) (aget e 6) (aget e 31) (aget e 32) (aget e 33) h x K:=by kernel_rfl
theorem l_q018_k1 {C gl e h x K} : NW C gl (.loop p_q018_k1) ⟨e,h,x⟩ K = NLoop C gl p_q018_k1 K [(0,aget e 0),(4,aget e 4),(6,aget e 6),(31,aget e 31),(32,aget e 32),(33,aget e 33)] h x:=NLoop_pr
def p_q018_k2 : ACode:=.pr [0,4,6,47,48,49] (.seq (rg [bN 50 .lss 49 48] [0,4,6,47,48,49,50])
(.seq (.cond 50 .skip
(.exit 3))
(.seq (.block 4 (.seq (rg [iA 51 none 47 49,
lD 52 none 51,
mV 10 52] [0,4,6,10,47,48,49])
(rg [mV 53 6,
mV 54 0,
mV 55 10,
iA 56 none 54 55,
lD 57 none 56,
bN 58 .or 53 57,
mV 6 58] [0,4,6,47,48,49])))
(rg [bN 59 .add 49 (cI 1),
mV 49 59] [0,4,6,47,48,49]))))
def d_q018_k2 (C : Hd) (gl : GL) (v0 v4 v6 v47 v48 v49 : AV) (h : Heap) (x : Esc) (K : KT) : Prop:=
 pK (oBin .lss v49 v48) fun t1=>
 condB t1 (pK (oIaddr none v47 v49 h) fun t2=>
 pK (oLoad none t2 h) fun t3=>
 pK (oIaddr none v0 t3 h) fun t4=>
 pK (oLoad none t4 h) fun t5=>
 pK (oBin .or v6 t5) fun t6=>
 pK (oBin .add v49 (AI 1)) fun t7=>
 K .normal ⟨[(0,v0),(4,v4),(6,t6),(47,v47),(48,v48),(49,t7)],h,x⟩)
 (K (.exit 3) ⟨[(0,v0),(4,v4),(6,v6),(47,v47),(48,v48),(49,v49),(50,t1)],h,x⟩)
theorem e_q018_k2 {C gl e h x K} : NW C gl p_q018_k2 ⟨e,h,x⟩ K = d_q018_k2 C gl (aget e 0) (aget e 4) (aget e 6) (aget e 47) (aget e 48) (aget e 49) h x K:=by kernel_rfl
theorem l_q018_k2 {C gl e h x K} : NW C gl (.loop p_q018_k2) ⟨e,h,x⟩ K = NLoop C gl p_q018_k2 K [(0,aget e 0),(4,aget e 4),(6,aget e 6),(47,aget e 47),(48,aget e 48),(49,aget e 49)] h x:=NLoop_pr
def P_q018_k3 (q1 q2 : ACode) : ACode:=.pr [0,2,4,6,21,24] (.cond 24 (rg [mV 27 2,
mV 6 27] [0,4,6])
(.seq (rg [bN 29 .eql 21 (cI 3),
mV 28 29] [0,4,6,21,28])
(.cond 28 (.seq (rg [fA 30 1 none 4,
lD 31 none 30,
lN 32 31,
mV 33 (cI 0)] [0,4,6,31,32,33])
(.block 1 (.loop q1)))
(.seq (rg [bN 45 .eql 21 (cI 4),
mV 44 45] [0,4,6,44])
(.cond 44 (.seq (rg [fA 46 1 none 4,
lD 47 none 46,
lN 48 47,
mV 49 (cI 0)] [0,4,6,47,48,49])
(.block 3 (.loop q2)))
.skip)))))
def p_q018_k3 : ACode:=P_q018_k3 p_q018_k1 p_q018_k2
def d_q018_k3 (C : Hd) (gl : GL) (q1 q2 : ACode) (v0 v2 v4 v6 v21 v24 : AV) (h : Heap) (x : Esc) (K : KT) : Prop:=
 condB v24 (K .normal ⟨[(0,v0),(4,v4),(6,v2)],h,x⟩)
 (pK (oBin .eql v21 (AI 3)) fun t1=>
 condB t1 (pK (oFaddr 1 none v4) fun t2=>
 pK (oLoad none t2 h) fun t3=>
 pK (oLen t3) fun t4=>
 NW C gl (.loop q1) ⟨[(0,v0),(4,v4),(6,v6),(31,t3),(32,t4),(33,(AI 0))],h,x⟩ (blockN 1 K))
 (pK (oBin .eql v21 (AI 4)) fun t5=>
 condB t5 (pK (oFaddr 1 none v4) fun t6=>
 pK (oLoad none t6 h) fun t7=>
 pK (oLen t7) fun t8=>
 NW C gl (.loop q2) ⟨[(0,v0),(4,v4),(6,v6),(47,t7),(48,t8),(49,(AI 0))],h,x⟩ (blockN 3 K))
 (K .normal ⟨[(0,v0),(4,v4),(6,v6),(44,t5)],h,x⟩)))
theorem E_q018_k3 {C gl q1 q2 e h x K} : NW C gl (P_q018_k3 q1 q2) ⟨e,h,x⟩ K = d_q018_k3 C gl q1 q2 (aget e 0) (aget e 2) (aget e 4) (aget e 6) (aget e 21) (aget e 24) h x K:=by kernel_rfl
theorem e_q018_k3 {C gl e h x K} : NW C gl p_q018_k3 ⟨e,h,x⟩ K = d_q018_k3 C gl p_q018_k1 p_q018_k2 (aget e 0) (aget e 2) (aget e 4) (aget e 6) (aget e 21) (aget e 24) h x K:=E_q018_k3
def p_q018_k4 : ACode:=.pr [0,6,61,62,63] (.seq (rg [bN 64 .lss 63 62] [0,6,61,62,63,64])
(.seq (.cond 64 .skip
(.exit 5))
(.seq (.block 6 (.seq (rg [iA 65 none 61 63,
lD 66 none 65,
mV 12 66] [0,6,12,61,62,63])
(rg [mV 67 0,
mV 68 12,
mV 69 6,
iA 70 none 67 68,
wO (.store none 70 69)] [0,6,61,62,63])))
(rg [bN 71 .add 63 (cI 1),
mV 63 71] [0,6,61,62,63]))))
def d_q018_k4 (C : Hd) (gl : GL) (v0 v6 v61 v62 v63 : AV) (h : Heap) (x : Esc) (K : KT) : Prop:=
 pK (oBin .lss v63 v62) fun t1=>
 condB t1 (pK (oIaddr none v61 v63 h) fun t2=>
 pK (oLoad none t2 h) fun t3=>
 pK (oIaddr none v0 t3 h) fun t4=>
 wK (oStore none t4 v6 h) fun t5 h6 y7=>
 pK (oBin .add v63 (AI 1)) fun t8=>
 K .normal ⟨[(0,v0),(6,v6),(61,v61),(62,v62),(63,t8)],h6,(y7 ++ x)⟩)
 (K (.exit 5) ⟨[(0,v0),(6,v6),(61,v61),(62,v62),(63,v63),(64,t1)],h,x⟩)
theorem e_q018_k4 {C gl e h x K} : NW C gl p_q018_k4 ⟨e,h,x⟩ K = d_q018_k4 C gl (aget e 0) (aget e 6) (aget e 61) (aget e 62) (aget e 63) h x K:=by kernel_rfl
theorem l_q018_k4 {C gl e h x K} : NW C gl (.loop p_q018_k4) ⟨e,h,x⟩ K = NLoop C gl p_q018_k4 K [(0,aget e 0),(6,aget e 6),(61,aget e 61),(62,aget e 62),(63,aget e 63)] h x:=NLoop_pr
def P_q018_k5 (q4 : ACode) : ACode:=.pr [0,4,6] (.seq (rg [fA 60 1 none 4,
lD 61 none 60,
lN 62 61,
mV 63 (cI 0)] [0,6,61,62,63])
(.block 5 (.loop q4)))
def p_q018_k5 : ACode:=P_q018_k5 p_q018_k4
def d_q018_k5 (C : Hd) (gl : GL) (q4 : ACode) (v0 v4 v6 : AV) (h : Heap) (x : Esc) (K : KT) : Prop:=
 pK (oFaddr 1 none v4) fun t1=>
 pK (oLoad none t1 h) fun t2=>
 pK (oLen t2) fun t3=>
 NW C gl (.loop q4) ⟨[(0,v0),(6,v6),(61,t2),(62,t3),(63,(AI 0))],h,x⟩ (blockN 5 K)
theorem E_q018_k5 {C gl q4 e h x K} : NW C gl (P_q018_k5 q4) ⟨e,h,x⟩ K = d_q018_k5 C gl q4 (aget e 0) (aget e 4) (aget e 6) h x K:=by kernel_rfl
theorem e_q018_k5 {C gl e h x K} : NW C gl p_q018_k5 ⟨e,h,x⟩ K = d_q018_k5 C gl p_q018_k4 (aget e 0) (aget e 4) (aget e 6) h x K:=E_q018_k5
def P_q018 (q3 q5 : ACode) : ACode:=(.seq (rg [uO 4 (.box 1)] [0,2,4])
(.seq (rg [mV 13 0,
fA 14 1 none 4,
lD 15 none 14,
iA 16 none 15 (cI 0),
lD 17 none 16,
iA 18 none 13 17,
lD 19 none 18,
mV 6 19] [0,2,4,6])
(.seq (.seq (rg [fA 20 0 none 4,
lD 21 none 20] [0,2,4,6,21])
(.block 0 (.seq (rg [bN 23 .eql 21 (cI 1),
mV 22 23] [0,2,4,6,21,22])
(.cond 22 (rg [mV 6 (.c (.p (.int .u64 0)))] [0,4,6])
(.seq (.seq (rg [bN 25 .eql 21 (cI 2),
mV 24 25] [0,2,4,6,21,24])
(.cond 24 .skip
(rg [bN 26 .eql 21 (cI 6),
mV 24 26] [0,2,4,6,21,24])))
q3)))))
q5)))
def a_q018 : AFun:=⟨3,[],P_q018 p_q018_k3 p_q018_k5,true,false⟩
def d_q018 (C : Hd) (gl : GL) (q3 q5 : ACode) (v0 v1 v2 : AV) (h : Heap) (x : Esc) (K : KT) : Prop:=
 wK (oBox v1 h) fun t1 h2 y3=>
 pK (oFaddr 1 none t1) fun t4=>
 pK (oLoad none t4 h2) fun t5=>
 pK (oIaddr none t5 (AI 0) h2) fun t6=>
 pK (oLoad none t6 h2) fun t7=>
 pK (oIaddr none v0 t7 h2) fun t8=>
 pK (oLoad none t8 h2) fun t9=>
 pK (oFaddr 0 none t1) fun t10=>
 pK (oLoad none t10 h2) fun t11=>
 pK (oBin .eql t11 (AI 1)) fun t12=>
 condB t12 (NW C gl q5 ⟨[(0,v0),(4,t1),(6,(.p (.int .u64 0)))],h2,(y3 ++ x)⟩ K)
 (pK (oBin .eql t11 (AI 2)) fun t13=>
 condB t13 (NW C gl q3 ⟨[(0,v0),(2,v2),(4,t1),(6,t9),(21,t11),(24,t13)],h2,(y3 ++ x)⟩ (blockN 0 (seqN C gl q5 K)))
 (pK (oBin .eql t11 (AI 6)) fun t14=>
 NW C gl q3 ⟨[(0,v0),(2,v2),(4,t1),(6,t9),(21,t11),(24,t14)],h2,(y3 ++ x)⟩ (blockN 0 (seqN C gl q5 K))))
theorem E_q018 {C gl q3 q5 v0 v1 v2 h x K} : NW C gl (P_q018 q3 q5) ⟨enter [v0,v1,v2],h,x⟩ K = d_q018 C gl q3 q5 v0 v1 v2 h x K:=by kernel_rfl
theorem e_q018 {C gl v0 v1 v2 h x K} : NW C gl a_q018.body ⟨enter [v0,v1,v2],h,x⟩ K = d_q018 C gl p_q018_k3 p_q018_k5 v0 v1 v2 h x K:=E_q018
def P_q017 : ACode:=(.seq (rg [mV 2 (.c (.p (.int .u64 0)))] [0])
(.seq (rg [mV 3 0,
bN 4 .shl (.c (.p (.int .u64 1))) 3,
bN 5 .sub 4 (.c (.p (.int .u64 1))),
mV 2 5] [2])
.ret))
def a_q017 : AFun:=⟨1,[.t 2],P_q017,false,false⟩
def d_q017 (C : Hd) (gl : GL) (v0 : AV) (h : Heap) (x : Esc) (K : KT) : Prop:=
 pK (oBin .shl (.p (.int .u64 1)) v0) fun t1=>
 pK (oBin .sub t1 (.p (.int .u64 1))) fun t2=>
 K .ret ⟨[(2,t2)],h,x⟩
theorem e_q017 {C gl v0 h x K} : NW C gl a_q017.body ⟨enter [v0],h,x⟩ K = d_q017 C gl v0 h x K:=by kernel_rfl
def p_q016_k1 : ACode:=.pr [1,5,7,8,10,11,12,19,20] (.seq (rg [bN 21 .lss 20 19] [1,5,7,8,10,11,12,19,20,21])
(.seq (.cond 21 .skip
(.exit 2))
(.seq (.block 3 (.seq (rg [mV 22 20,
mV 9 22] [1,5,7,8,9,10,11,12,19,20])
(rg [mV 23 8,
mV 24 9,
mV 25 7,
mV 26 9,
bN 27 .shr 25 26,
bN 28 .and 27 (.c (.p (.int .u64 1))),
bN 29 .add (.c (.p (.int .u64 48))) 28,
uO 30 (.conv (.i .u8) 29),
iA 31 none 23 24,
wO (.store none 31 30)] [1,5,7,8,10,11,12,19,20])))
(rg [bN 32 .add 20 (cI 1),
mV 20 32] [1,5,7,8,10,11,12,19,20]))))
def d_q016_k1 (C : Hd) (gl : GL) (v1 v5 v7 v8 v10 v11 v12 v19 v20 : AV) (h : Heap) (x : Esc) (K : KT) : Prop:=
 pK (oBin .lss v20 v19) fun t1=>
 condB t1 (pK (oBin .shr v7 v20) fun t2=>
 pK (oBin .and t2 (.p (.int .u64 1))) fun t3=>
 pK (oBin .add (.p (.int .u64 48)) t3) fun t4=>
 pK (oConvI .u8 t4) fun t5=>
 pK (oIaddr none v8 v20 h) fun t6=>
 wK (oStore none t6 t5 h) fun t7 h8 y9=>
 pK (oBin .add v20 (AI 1)) fun t10=>
 K .normal ⟨[(1,v1),(5,v5),(7,v7),(8,v8),(10,v10),(11,v11),(12,v12),(19,v19),(20,t10)],h8,(y9 ++ x)⟩)
 (K (.exit 2) ⟨[(1,v1),(5,v5),(7,v7),(8,v8),(10,v10),(11,v11),(12,v12),(19,v19),(20,v20),(21,t1)],h,x⟩)
theorem e_q016_k1 {C gl e h x K} : NW C gl p_q016_k1 ⟨e,h,x⟩ K = d_q016_k1 C gl (aget e 1) (aget e 5) (aget e 7) (aget e 8) (aget e 10) (aget e 11) (aget e 12) (aget e 19) (aget e 20) h x K:=by kernel_rfl
theorem l_q016_k1 {C gl e h x K} : NW C gl (.loop p_q016_k1) ⟨e,h,x⟩ K = NLoop C gl p_q016_k1 K [(1,aget e 1),(5,aget e 5),(7,aget e 7),(8,aget e 8),(10,aget e 10),(11,aget e 11),(12,aget e 12),(19,aget e 19),(20,aget e 20)] h x:=NLoop_pr
def p_q016_k2 : ACode:=.pr [1,5,8,10,11,12] (rg [mV 33 5,
mV 34 8,
uO 35 (.conv .b2s 34),
uO 36 (.bsl false none 1 (.str []) [(0,35)]),
uO 37 (.app none 33 36),
mV 5 37] [1,5,10,11,12])
def d_q016_k2 (C : Hd) (gl : GL) (v1 v5 v8 v10 v11 v12 : AV) (h : Heap) (x : Esc) (K : KT) : Prop:=
 wK (oConv .b2s v8 h) fun t1 h2 y3=>
 wK (oBsl false none 1 (.str []) [(0,t1)] h2) fun t4 h5 y6=>
 wK (oApp none v5 t4 h5) fun t7 h8 y9=>
 K .normal ⟨[(1,v1),(5,t7),(10,v10),(11,v11),(12,v12)],h8,(y9 ++ (y6 ++ (y3 ++ x)))⟩
theorem e_q016_k2 {C gl e h x K} : NW C gl p_q016_k2 ⟨e,h,x⟩ K = d_q016_k2 C gl (aget e 1) (aget e 5) (aget e 8) (aget e 10) (aget e 11) (aget e 12) h x K:=by kernel_rfl
def p_q016_k3 : ACode:=.pr [1,5,10,11,12] (rg [bN 38 .add 12 (cI 1),
mV 12 38] [1,5,10,11,12])
def d_q016_k3 (C : Hd) (gl : GL) (v1 v5 v10 v11 v12 : AV) (h : Heap) (x : Esc) (K : KT) : Prop:=
 pK (oBin .add v12 (AI 1)) fun t1=>
 K .normal ⟨[(1,v1),(5,v5),(10,v10),(11,v11),(12,t1)],h,x⟩
theorem e_q016_k3 {C gl e h x K} : NW C gl p_q016_k3 ⟨e,h,x⟩ K = d_q016_k3 C gl (aget e 1) (aget e 5) (aget e 10) (aget e 11) (aget e 12) h x K:=by kernel_rfl
def P_q016_k4 (q1 q2 q3 : ACode) : ACode:=.pr [1,5,10,11,12] (.seq (rg [bN 13 .lss 12 11] [1,5,10,11,12,13])
(.seq (.cond 13 .skip
(.exit 0))
(.seq (.block 1 (.seq (rg [iA 14 none 10 12,
lD 15 none 14,
mV 7 15] [1,5,7,10,11,12])
(.seq (rg [mV 16 1,
uO 17 (.mksl none (.int .u8 0) 16 16),
mV 8 17] [1,5,7,8,10,11,12])
(.seq (.seq (rg [mV 18 8,
lN 19 18,
mV 20 (cI 0)] [1,5,7,8,10,11,12,19,20])
(.block 2 (.loop q1)))
q2))))
q3)))
def p_q016_k4 : ACode:=P_q016_k4 p_q016_k1 p_q016_k2 p_q016_k3
def d_q016_k4 (C : Hd) (gl : GL) (q1 q2 q3 : ACode) (v1 v5 v10 v11 v12 : AV) (h : Heap) (x : Esc) (K : KT) : Prop:=
 pK (oBin .lss v12 v11) fun t1=>
 condB t1 (pK (oIaddr none v10 v12 h) fun t2=>
 pK (oLoad none t2 h) fun t3=>
 wK (oMksl none (.int .u8 0) v1 v1 h) fun t4 h5 y6=>
 pK (oLen t4) fun t7=>
 NW C gl (.loop q1) ⟨[(1,v1),(5,v5),(7,t3),(8,t4),(10,v10),(11,v11),(12,v12),(19,t7),(20,(AI 0))],h5,(y6 ++ x)⟩ (blockN 2 (seqN C gl q2 (blockN 1 (seqN C gl q3 K)))))
 (K (.exit 0) ⟨[(1,v1),(5,v5),(10,v10),(11,v11),(12,v12),(13,t1)],h,x⟩)
theorem E_q016_k4 {C gl q1 q2 q3 e h x K} : NW C gl (P_q016_k4 q1 q2 q3) ⟨e,h,x⟩ K = d_q016_k4 C gl q1 q2 q3 (aget e 1) (aget e 5) (aget e 10) (aget e 11) (aget e 12) h x K:=by kernel_rfl
theorem e_q016_k4 {C gl e h x K} : NW C gl p_q016_k4 ⟨e,h,x⟩ K = d_q016_k4 C gl p_q016_k1 p_q016_k2 p_q016_k3 (aget e 1) (aget e 5) (aget e 10) (aget e 11) (aget e 12) h x K:=E_q016_k4
theorem l_q016_k4 {C gl e h x K} : NW C gl (.loop (.scope p_q016_k4)) ⟨e,h,x⟩ K = NLoop C gl (.scope p_q016_k4) K [(1,aget e 1),(5,aget e 5),(10,aget e 10),(11,aget e 11),(12,aget e 12)] h x:=NLoop_sc
def p_q016_k5 : ACode:=.pr [5] (.seq (rg [mV 39 5,
mV 4 39] [4])
.ret)
def d_q016_k5 (C : Hd) (gl : GL) (v5 : AV) (h : Heap) (x : Esc) (K : KT) : Prop:=
 K .ret ⟨[(4,v5)],h,x⟩
theorem e_q016_k5 {C gl e h x K} : NW C gl p_q016_k5 ⟨e,h,x⟩ K = d_q016_k5 C gl (aget e 5) h x K:=by kernel_rfl
def P_q016 (q4 q5 : ACode) : ACode:=(.seq (rg [mV 4 (.c (.p (.sl none [])))] [0,1])
(.seq (rg [uO 5 (.new0 none)] [0,1,5])
(.seq (.seq (rg [mV 10 0,
lN 11 10,
mV 12 (cI 0)] [1,5,10,11,12])
(.block 0 (.loop (.scope q4))))
q5)))
def a_q016 : AFun:=⟨2,[.t 4],P_q016 p_q016_k4 p_q016_k5,false,false⟩
def d_q016 (C : Hd) (gl : GL) (q4 q5 : ACode) (v0 v1 : AV) (h : Heap) (x : Esc) (K : KT) : Prop:=
 nwK none h fun t1 h2 y3=>
 pK (oLen v0) fun t4=>
 NW C gl (.loop (.scope q4)) ⟨[(1,v1),(5,t1),(10,v0),(11,t4),(12,(AI 0))],h2,(y3 ++ x)⟩ (blockN 0 (seqN C gl q5 K))
theorem E_q016 {C gl q4 q5 v0 v1 h x K} : NW C gl (P_q016 q4 q5) ⟨enter [v0,v1],h,x⟩ K = d_q016 C gl q4 q5 v0 v1 h x K:=by kernel_rfl
theorem e_q016 {C gl v0 v1 h x K} : NW C gl a_q016.body ⟨enter [v0,v1],h,x⟩ K = d_q016 C gl p_q016_k4 p_q016_k5 v0 v1 h x K:=E_q016
def p_q011_k1 : ACode:=.pr [0,7,13,14,15] (.seq (rg [bN 16 .lss 15 14] [0,7,13,14,15,16])
(.seq (.cond 16 .skip
(.exit 0))
(.seq (.block 1 (.seq (rg [mV 17 15,
iA 18 none 13 15,
lD 19 none 18,
mV 8 17,
mV 9 19] [0,7,8,9,13,14,15])
(rg [mV 20 7,
mV 21 9,
mV 22 0,
mV 23 8,
iA 24 none 22 23,
lD 25 none 24,
bN 26 .xor 21 25,
bN 27 .or 20 26,
mV 7 27] [0,7,13,14,15])))
(rg [bN 28 .add 15 (cI 1),
mV 15 28] [0,7,13,14,15]))))
def d_q011_k1 (C : Hd) (gl : GL) (v0 v7 v13 v14 v15 : AV) (h : Heap) (x : Esc) (K : KT) : Prop:=
 pK (oBin .lss v15 v14) fun t1=>
 condB t1 (pK (oIaddr none v13 v15 h) fun t2=>
 pK (oLoad none t2 h) fun t3=>
 pK (oIaddr none v0 v15 h) fun t4=>
 pK (oLoad none t4 h) fun t5=>
 pK (oBin .xor t3 t5) fun t6=>
 pK (oBin .or v7 t6) fun t7=>
 pK (oBin .add v15 (AI 1)) fun t8=>
 K .normal ⟨[(0,v0),(7,t7),(13,v13),(14,v14),(15,t8)],h,x⟩)
 (K (.exit 0) ⟨[(0,v0),(7,v7),(13,v13),(14,v14),(15,v15),(16,t1)],h,x⟩)
theorem e_q011_k1 {C gl e h x K} : NW C gl p_q011_k1 ⟨e,h,x⟩ K = d_q011_k1 C gl (aget e 0) (aget e 7) (aget e 13) (aget e 14) (aget e 15) h x K:=by kernel_rfl
theorem l_q011_k1 {C gl e h x K} : NW C gl (.loop p_q011_k1) ⟨e,h,x⟩ K = NLoop C gl p_q011_k1 K [(0,aget e 0),(7,aget e 7),(13,aget e 13),(14,aget e 14),(15,aget e 15)] h x:=NLoop_pr
def p_q011_k2 : ACode:=.pr [7] (.seq (rg [mV 29 7,
mV 6 29] [6])
.ret)
def d_q011_k2 (C : Hd) (gl : GL) (v7 : AV) (h : Heap) (x : Esc) (K : KT) : Prop:=
 K .ret ⟨[(6,v7)],h,x⟩
theorem e_q011_k2 {C gl e h x K} : NW C gl p_q011_k2 ⟨e,h,x⟩ K = d_q011_k2 C gl (aget e 7) h x K:=by kernel_rfl
def P_q011 (q1 q2 : ACode) : ACode:=(.seq (rg [uO 4 (.box 1),
mV 6 (.c (.p (.int .u64 0)))] [0,2,4])
(.seq (rg [mV 7 (.c (.p (.int .u64 0)))] [0,2,4,7])
(.seq (.seq (rg [mV 10 0,
lD 11 (some 2) 4,
mV 12 2,
cL 13 f_q014 [10,11,12],
lN 14 13,
mV 15 (cI 0)] [0,7,13,14,15])
(.block 0 (.loop q1)))
q2)))
def a_q011 : AFun:=⟨3,[.t 6],P_q011 p_q011_k1 p_q011_k2,false,false⟩
def d_q011 (C : Hd) (gl : GL) (q1 q2 : ACode) (v0 v1 v2 : AV) (h : Heap) (x : Esc) (K : KT) : Prop:=
 wK (oBox v1 h) fun t1 h2 y3=>
 pK (oLoad (some 2) t1 h2) fun t4=>
 C f_q014 [v0,t4,v2] h2 fun t5 h6 y7=>
 pK (oLen t5) fun t8=>
 NW C gl (.loop q1) ⟨[(0,v0),(7,(.p (.int .u64 0))),(13,t5),(14,t8),(15,(AI 0))],h6,(y7 ++ (y3 ++ x))⟩ (blockN 0 (seqN C gl q2 K))
theorem E_q011 {C gl q1 q2 v0 v1 v2 h x K} : NW C gl (P_q011 q1 q2) ⟨enter [v0,v1,v2],h,x⟩ K = d_q011 C gl q1 q2 v0 v1 v2 h x K:=by kernel_rfl
theorem e_q011 {C gl v0 v1 v2 h x K} : NW C gl a_q011.body ⟨enter [v0,v1,v2],h,x⟩ K = d_q011 C gl p_q011_k1 p_q011_k2 v0 v1 v2 h x K:=E_q011
def P_q02c : ACode:=(.seq (rg [mV 2 cF] [0])
(.seq (rg [mV 3 0,
cL 4 f_q02m [3,(cS [48,49])],
mV 2 4] [2])
.ret))
def a_q02c : AFun:=⟨1,[.t 2],P_q02c,false,false⟩
def d_q02c (C : Hd) (gl : GL) (v0 : AV) (h : Heap) (x : Esc) (K : KT) : Prop:=
 C f_q02m [v0,(.p (.str [48,49]))] h fun t1 h2 y3=>
 K .ret ⟨[(2,t1)],h2,(y3 ++ x)⟩
theorem e_q02c {C gl v0 h x K} : NW C gl a_q02c.body ⟨enter [v0],h,x⟩ K = d_q02c C gl v0 h x K:=by kernel_rfl
def P_q02l : ACode:=(.seq (rg [mV 6 cF] [0,1,2])
(.seq (rg [mV 7 1,
mV 8 0,
bN 9 .leq 7 8,
mV 10 9,
gD 11 10 true (.mv 0),
gD 12 10 true (.mv 2),
gD 13 10 true (.bin .leq 11 12),
uO 14 (.pick 10 13 cF),
mV 6 14] [6])
.ret))
def a_q02l : AFun:=⟨3,[.t 6],P_q02l,false,false⟩
def d_q02l (C : Hd) (gl : GL) (v0 v1 v2 : AV) (h : Heap) (x : Esc) (K : KT) : Prop:=
 pK (oBin .leq v1 v0) fun t1=>
 gM t1 true v0 h fun t2 h3 y4=>
 gM t1 true v2 h3 fun t5 h6 y7=>
 gP t1 true (oBin .leq t2 t5) h6 fun t8 h9 y10=>
 pK (oPick t1 t8 (AB false)) fun t11=>
 K .ret ⟨[(6,t11)],h9,(y10 ++ (y7 ++ (y4 ++ x)))⟩
theorem e_q02l {C gl v0 v1 v2 h x K} : NW C gl a_q02l.body ⟨enter [v0,v1,v2],h,x⟩ K = d_q02l C gl v0 v1 v2 h x K:=by kernel_rfl
def P_q02y : ACode:=(.seq (rg [mV 4 cF] [0,1])
(.seq (rg [mV 5 0,
mV 6 1,
cL 7 f_q034 [5,6],
bN 8 .geq 7 (cI 0),
mV 4 8] [4])
.ret))
def a_q02y : AFun:=⟨2,[.t 4],P_q02y,true,false⟩
def d_q02y (C : Hd) (gl : GL) (v0 v1 : AV) (h : Heap) (x : Esc) (K : KT) : Prop:=
 C f_q034 [v0,v1] h fun t1 h2 y3=>
 pK (oBin .geq t1 (AI 0)) fun t4=>
 K .ret ⟨[(4,t4)],h2,(y3 ++ x)⟩
theorem e_q02y {C gl v0 v1 h x K} : NW C gl a_q02y.body ⟨enter [v0,v1],h,x⟩ K = d_q02y C gl v0 v1 h x K:=by kernel_rfl
def P_q02f : ACode:=(.seq (rg [mV 3 cF] [0,1])
(.seq (rg [mV 4 0,
lD 5 none 1,
bN 6 .sub 5 (cI 1),
cL 7 f_q02l [4,(cI 0),6],
uO 8 (.un .not 7),
mV 3 8] [3])
.ret))
def a_q02f : AFun:=⟨2,[.t 3],P_q02f,false,false⟩
def d_q02f (C : Hd) (gl : GL) (v0 v1 : AV) (h : Heap) (x : Esc) (K : KT) : Prop:=
 pK (oLoad none v1 h) fun t1=>
 pK (oBin .sub t1 (AI 1)) fun t2=>
 C f_q02l [v0,(AI 0),t2] h fun t3 h4 y5=>
 pK (oUn .not t3) fun t6=>
 K .ret ⟨[(3,t6)],h4,(y5 ++ x)⟩
theorem e_q02f {C gl v0 v1 h x K} : NW C gl a_q02f.body ⟨enter [v0,v1],h,x⟩ K = d_q02f C gl v0 v1 h x K:=by kernel_rfl
def P_q02o : ACode:=(.seq (rg [mV 2 cF] [0])
(.seq (rg [mV 3 0,
cL 4 f_q02l [3,(cI 3),(cI 5)],
mV 2 4] [2])
.ret))
def a_q02o : AFun:=⟨1,[.t 2],P_q02o,false,false⟩
def d_q02o (C : Hd) (gl : GL) (v0 : AV) (h : Heap) (x : Esc) (K : KT) : Prop:=
 C f_q02l [v0,(AI 3),(AI 5)] h fun t1 h2 y3=>
 K .ret ⟨[(2,t1)],h2,(y3 ++ x)⟩
theorem e_q02o {C gl v0 h x K} : NW C gl a_q02o.body ⟨enter [v0],h,x⟩ K = d_q02o C gl v0 h x K:=by kernel_rfl
def P_q000 : ACode:=(.seq (rg [mV 2 cF] [0])
(.seq (rg [mV 3 0,
cL 4 f_q04g [3,(cS [48,49])],
bN 5 .eql 4 (cS []),
mV 2 5] [2])
.ret))
def a_q000 : AFun:=⟨1,[.t 2],P_q000,false,false⟩
def d_q000 (C : Hd) (gl : GL) (v0 : AV) (h : Heap) (x : Esc) (K : KT) : Prop:=
 C f_q04g [v0,(.p (.str [48,49]))] h fun t1 h2 y3=>
 pK (oBin .eql t1 (.p (.str []))) fun t4=>
 K .ret ⟨[(2,t4)],h2,(y3 ++ x)⟩
theorem e_q000 {C gl v0 h x K} : NW C gl a_q000.body ⟨enter [v0],h,x⟩ K = d_q000 C gl v0 h x K:=by kernel_rfl
def P_q006 : ACode:=(.seq (rg [mV 6 cF] [0,1,2])
(.seq (rg [mV 7 0,
mV 8 1,
bN 9 .lss 7 8,
mV 10 9,
gD 11 10 false (.mv 0),
gD 12 10 false (.mv 2),
gD 13 10 false (.bin .gtr 11 12),
uO 14 (.pick 10 cT 13),
mV 6 14] [6])
.ret))
def a_q006 : AFun:=⟨3,[.t 6],P_q006,false,false⟩
def d_q006 (C : Hd) (gl : GL) (v0 v1 v2 : AV) (h : Heap) (x : Esc) (K : KT) : Prop:=
 pK (oBin .lss v0 v1) fun t1=>
 gM t1 false v0 h fun t2 h3 y4=>
 gM t1 false v2 h3 fun t5 h6 y7=>
 gP t1 false (oBin .gtr t2 t5) h6 fun t8 h9 y10=>
 pK (oPick t1 (AB true) t8) fun t11=>
 K .ret ⟨[(6,t11)],h9,(y10 ++ (y7 ++ (y4 ++ x)))⟩
theorem e_q006 {C gl v0 v1 v2 h x K} : NW C gl a_q006.body ⟨enter [v0,v1,v2],h,x⟩ K = d_q006 C gl v0 v1 v2 h x K:=by kernel_rfl
def P_q013 : ACode:=(.seq (rg [mV 2 cF] [0])
(.seq (rg [mV 3 0,
cL 4 f_q006 [3,(cI 3),(cI 5)],
uO 5 (.un .not 4),
mV 2 5] [2])
.ret))
def a_q013 : AFun:=⟨1,[.t 2],P_q013,false,false⟩
def d_q013 (C : Hd) (gl : GL) (v0 : AV) (h : Heap) (x : Esc) (K : KT) : Prop:=
 C f_q006 [v0,(AI 3),(AI 5)] h fun t1 h2 y3=>
 pK (oUn .not t1) fun t4=>
 K .ret ⟨[(2,t4)],h2,(y3 ++ x)⟩
theorem e_q013 {C gl v0 h x K} : NW C gl a_q013.body ⟨enter [v0],h,x⟩ K = d_q013 C gl v0 h x K:=by kernel_rfl
def p_q036_k1 : ACode:=.pr [0,1,7,8] (.seq (rg [bN 9 .lss 8 7] [0,1,7,8,9])
(.seq (.cond 9 .skip
(.exit 0))
(.seq (.block 1 (.seq (rg [mV 10 8,
mV 5 10] [0,1,5,7,8])
(.seq (rg [mV 11 1,
mV 12 0,
mV 13 5,
iA 14 none 12 13,
lD 15 none 14,
bN 16 .eql 11 15] [0,1,5,7,8,16])
(.cond 16 (.seq (rg [mV 17 5,
mV 4 17] [4])
.ret)
.skip))))
(rg [bN 18 .add 8 (cI 1),
mV 8 18] [0,1,7,8]))))
def d_q036_k1 (C : Hd) (gl : GL) (v0 v1 v7 v8 : AV) (h : Heap) (x : Esc) (K : KT) : Prop:=
 pK (oBin .lss v8 v7) fun t1=>
 condB t1 (pK (oIaddr none v0 v8 h) fun t2=>
 pK (oLoad none t2 h) fun t3=>
 pK (oBin .eql v1 t3) fun t4=>
 condB t4 (K .ret ⟨[(4,v8)],h,x⟩)
 (pK (oBin .add v8 (AI 1)) fun t5=>
 K .normal ⟨[(0,v0),(1,v1),(7,v7),(8,t5)],h,x⟩))
 (K (.exit 0) ⟨[(0,v0),(1,v1),(7,v7),(8,v8),(9,t1)],h,x⟩)
theorem e_q036_k1 {C gl e h x K} : NW C gl p_q036_k1 ⟨e,h,x⟩ K = d_q036_k1 C gl (aget e 0) (aget e 1) (aget e 7) (aget e 8) h x K:=by kernel_rfl
theorem l_q036_k1 {C gl e h x K} : NW C gl (.loop p_q036_k1) ⟨e,h,x⟩ K = NLoop C gl p_q036_k1 K [(0,aget e 0),(1,aget e 1),(7,aget e 7),(8,aget e 8)] h x:=NLoop_pr
def p_q036_k2 : ACode:=.pr [] (.seq (rg [mV 4 (cI (-1))] [4])
.ret)
def d_q036_k2 (C : Hd) (gl : GL) (h : Heap) (x : Esc) (K : KT) : Prop:=
 K .ret ⟨[(4,(AI (-1)))],h,x⟩
theorem e_q036_k2 {C gl e h x K} : NW C gl p_q036_k2 ⟨e,h,x⟩ K = d_q036_k2 C gl h x K:=by kernel_rfl
def P_q036 (q1 q2 : ACode) : ACode:=(.seq (rg [mV 4 (cI 0)] [0,1])
(.seq (.seq (rg [mV 6 0,
lN 7 6,
mV 8 (cI 0)] [0,1,7,8])
(.block 0 (.loop q1)))
q2))
def a_q036 : AFun:=⟨2,[.t 4],P_q036 p_q036_k1 p_q036_k2,true,false⟩
def d_q036 (C : Hd) (gl : GL) (q1 q2 : ACode) (v0 v1 : AV) (h : Heap) (x : Esc) (K : KT) : Prop:=
 pK (oLen v0) fun t1=>
 NW C gl (.loop q1) ⟨[(0,v0),(1,v1),(7,t1),(8,(AI 0))],h,x⟩ (blockN 0 (seqN C gl q2 K))
theorem E_q036 {C gl q1 q2 v0 v1 h x K} : NW C gl (P_q036 q1 q2) ⟨enter [v0,v1],h,x⟩ K = d_q036 C gl q1 q2 v0 v1 h x K:=by kernel_rfl
theorem e_q036 {C gl v0 v1 h x K} : NW C gl a_q036.body ⟨enter [v0,v1],h,x⟩ K = d_q036 C gl p_q036_k1 p_q036_k2 v0 v1 h x K:=E_q036
def p_q020_k1 : ACode:=.pr [0] (.seq (rg [mV 15 0,
mV 4 15] [4])
.ret)
def d_q020_k1 (C : Hd) (gl : GL) (v0 : AV) (h : Heap) (x : Esc) (K : KT) : Prop:=
 K .ret ⟨[(4,v0)],h,x⟩
theorem e_q020_k1 {C gl e h x K} : NW C gl p_q020_k1 ⟨e,h,x⟩ K = d_q020_k1 C gl (aget e 0) h x K:=by kernel_rfl
def P_q020 (q1 : ACode) : ACode:=(.seq (rg [mV 4 (cI 0)] [0,1])
(.seq (.seq (rg [mV 5 1,
bN 6 .lss 5 (cI 1)] [0,1,6])
(.cond 6 (.seq (rg [mV 4 (cI 0)] [4])
.ret)
.skip))
(.seq (rg [mV 7 0,
mV 8 1,
bN 9 .rem 7 8,
mV 0 9] [0,1])
(.seq (.seq (rg [mV 10 0,
bN 11 .lss 10 (cI 0)] [0,1,11])
(.cond 11 (rg [mV 12 0,
mV 13 1,
bN 14 .add 12 13,
mV 0 14] [0])
.skip))
q1))))
def a_q020 : AFun:=⟨2,[.t 4],P_q020 p_q020_k1,false,false⟩
def d_q020 (C : Hd) (gl : GL) (q1 : ACode) (v0 v1 : AV) (h : Heap) (x : Esc) (K : KT) : Prop:=
 pK (oBin .lss v1 (AI 1)) fun t1=>
 condB t1 (K .ret ⟨[(4,(AI 0))],h,x⟩)
 (pK (oBin .rem v0 v1) fun t2=>
 pK (oBin .lss t2 (AI 0)) fun t3=>
 condB t3 (pK (oBin .add t2 v1) fun t4=>
 NW C gl q1 ⟨[(0,t4)],h,x⟩ K)
 (NW C gl q1 ⟨[(0,t2),(1,v1),(11,t3)],h,x⟩ K))
theorem E_q020 {C gl q1 v0 v1 h x K} : NW C gl (P_q020 q1) ⟨enter [v0,v1],h,x⟩ K = d_q020 C gl q1 v0 v1 h x K:=by kernel_rfl
theorem e_q020 {C gl v0 v1 h x K} : NW C gl a_q020.body ⟨enter [v0,v1],h,x⟩ K = d_q020 C gl p_q020_k1 v0 v1 h x K:=E_q020
def p_q03k_k1 : ACode:=.pr [0,1,2,3,8,9,10,11] (.seq (.seq (dr [dF (mV 73 1) [1],
dF (bN 74 .gtr 73 (cI 0)) [73],
dF (mV 75 74) [74],
dF (gD 76 75 true (.mv 0)) [0,75],
dF (gD 77 75 true (.mv 1)) [1,75],
dF (gD 78 75 true (.bin .sub 77 (cI 1))) [77,75],
dF (gD 79 75 true (.iaddr none 76 78)) [76,78,75],
dF (gD 80 75 true (.load none 79)) [79,75],
dF (gD 81 75 true (.mv 0)) [0,75],
dF (gD 82 75 true (.mv 11)) [11,75],
dF (gD 83 75 true (.iaddr none 81 82)) [81,82,75],
dF (gD 84 75 true (.load none 83)) [83,75],
dT (gD 85 75 true (.call f_q00s [80,84])) [80,84,75],
dF (gD 86 75 true (.un .not 85)) [85,75],
dF (uO 87 (.pick 75 86 cF)) [75,86]] [0,1,2,3,8,9,10,11,87])
(.cond 87 (.seq (rg [mV 88 0,
mV 89 1,
mV 90 2,
mV 91 11,
cL 92 f_q03i [88,89,90,91],
mV 13 92] [0,2,3,8,9,13])
(.seq (rg [mV 93 13,
mV 1 93] [0,1,2,3,8,9])
(.exit 1)))
.skip))
(.seq (rg [mV 95 0,
mV 96 1,
mV 97 2,
mV 98 11,
cL 99 f_q03j [95,96,97,98],
mV 94 99,
eX 100 94 0,
eX 101 94 1,
mV 14 100,
mV 15 101] [0,1,2,3,10,14,15])
(.seq (rg [mV 102 15,
mV 9 102] [0,1,2,3,9,10,14])
(.seq (rg [mV 103 14,
mV 104 1,
bN 105 .sub 103 104,
mV 106 2,
mV 107 14,
bN 108 .sub 106 107,
mV 16 105,
mV 17 108] [0,1,2,3,9,10,14,16,17])
(.seq (rg [mV 109 10,
bN 110 .quo 109 (cI 8),
mV 18 110] [0,1,2,3,9,14,16,17,18])
(.seq (rg [mV 111 16,
mV 112 17,
bN 113 .lss 111 112] [0,1,2,3,9,14,16,17,18,113])
(.cond 113 (.seq (rg [mV 114 16,
mV 115 18,
bN 116 .geq 114 115,
mV 8 116] [0,1,2,3,8,9,14])
(.seq (rg [mV 117 0,
mV 118 1,
mV 119 14,
mV 120 3,
cL 121 f_q03k [117,118,119,120]] [0,2,3,8,9,14])
(rg [mV 122 14,
bN 123 .add 122 (cI 1),
mV 1 123] [0,1,2,3,8,9])))
(.seq (rg [mV 124 17,
mV 125 18,
bN 126 .geq 124 125,
mV 8 126] [0,1,2,3,8,9,14])
(.seq (rg [mV 127 0,
mV 128 14,
bN 129 .add 128 (cI 1),
mV 130 2,
mV 131 3,
cL 132 f_q03k [127,129,130,131]] [0,1,3,8,9,14])
(rg [mV 133 14,
mV 2 133] [0,1,2,3,8,9]))))))))))
def d_q03k_k1 (C : Hd) (gl : GL) (v0 v1 v2 v3 v8 v9 v10 v11 : AV) (h : Heap) (x : Esc) (K : KT) : Prop:=
 pK (oBin .gtr v1 (AI 0)) fun t1=>
 gM t1 true v0 h fun t2 h3 y4=>
 gM t1 true v1 h3 fun t5 h6 y7=>
 gP t1 true (oBin .sub t5 (AI 1)) h6 fun t8 h9 y10=>
 gP t1 true (oIaddr none t2 t8 h9) h9 fun t11 h12 y13=>
 gP t1 true (oLoad none t11 h12) h12 fun t14 h15 y16=>
 gM t1 true v0 h15 fun t17 h18 y19=>
 gM t1 true v11 h18 fun t20 h21 y22=>
 gP t1 true (oIaddr none t17 t20 h21) h21 fun t23 h24 y25=>
 gP t1 true (oLoad none t23 h24) h24 fun t26 h27 y28=>
 gV t1 true h27 (callE C f_q00s [t14,t26] h27) fun t29 h30 y31=>
 gP t1 true (oUn .not t29) h30 fun t32 h33 y34=>
 pK (oPick t1 t32 (AB false)) fun t35=>
 condB t35 (C f_q03i [v0,v1,v2,v11] h33 fun t36 h37 y38=>
 K (.exit 1) ⟨[(0,v0),(1,t36),(2,v2),(3,v3),(8,v8),(9,v9)],h37,(y38 ++ (y34 ++ (y31 ++ (y28 ++ (y25 ++ (y22 ++ (y19 ++ (y16 ++ (y13 ++ (y10 ++ (y7 ++ (y4 ++ x))))))))))))⟩)
 (C f_q03j [v0,v1,v2,v11] h33 fun t39 h40 y41=>
 pK (oExt t39 0) fun t42=>
 pK (oExt t39 1) fun t43=>
 pK (oBin .sub t42 v1) fun t44=>
 pK (oBin .sub v2 t42) fun t45=>
 pK (oBin .quo v10 (AI 8)) fun t46=>
 pK (oBin .lss t44 t45) fun t47=>
 condB t47 (pK (oBin .geq t44 t46) fun t48=>
 C f_q03k [v0,v1,t42,v3] h40 fun t49 h50 y51=>
 pK (oBin .add t42 (AI 1)) fun t52=>
 K .normal ⟨[(0,v0),(1,t52),(2,v2),(3,v3),(8,t48),(9,t43)],h50,(y51 ++ (y41 ++ (y34 ++ (y31 ++ (y28 ++ (y25 ++ (y22 ++ (y19 ++ (y16 ++ (y13 ++ (y10 ++ (y7 ++ (y4 ++ x)))))))))))))⟩)
 (pK (oBin .geq t45 t46) fun t53=>
 pK (oBin .add t42 (AI 1)) fun t54=>
 C f_q03k [v0,t54,v2,v3] h40 fun t55 h56 y57=>
 K .normal ⟨[(0,v0),(1,v1),(2,t42),(3,v3),(8,t53),(9,t43)],h56,(y57 ++ (y41 ++ (y34 ++ (y31 ++ (y28 ++ (y25 ++ (y22 ++ (y19 ++ (y16 ++ (y13 ++ (y10 ++ (y7 ++ (y4 ++ x)))))))))))))⟩))
theorem e_q03k_k1 {C gl e h x K} : NW C gl p_q03k_k1 ⟨e,h,x⟩ K = d_q03k_k1 C gl (aget e 0) (aget e 1) (aget e 2) (aget e 3) (aget e 8) (aget e 9) (aget e 10) (aget e 11) h x K:=by kernel_rfl
def P_q03k_k2 (q1 : ACode) : ACode:=.pr [0,1,2,3,8,9,10,11,12] (.seq (.seq (rg [mV 61 8,
mV 62 61,
gD 63 62 true (.mv 9),
uO 64 (.pick 62 63 cF),
mV 65 64,
gD 66 65 true (.mv 12),
gD 67 65 true (.bin .eql 66 (cI 1)),
uO 68 (.pick 65 67 cF)] [0,1,2,3,8,9,10,11,68])
(.cond 68 (.seq (rg [mV 69 0,
mV 70 1,
mV 71 2,
cL 72 f_q03h [69,70,71]] [0,1,2,3,8,9,10,11,72])
(.cond 72 .ret
.skip))
.skip))
q1)
def p_q03k_k2 : ACode:=P_q03k_k2 p_q03k_k1
def d_q03k_k2 (C : Hd) (gl : GL) (q1 : ACode) (v0 v1 v2 v3 v8 v9 v10 v11 v12 : AV) (h : Heap) (x : Esc) (K : KT) : Prop:=
 gM v8 true v9 h fun t1 h2 y3=>
 pK (oPick v8 t1 (AB false)) fun t4=>
 gM t4 true v12 h2 fun t5 h6 y7=>
 gP t4 true (oBin .eql t5 (AI 1)) h6 fun t8 h9 y10=>
 pK (oPick t4 t8 (AB false)) fun t11=>
 condB t11 (C f_q03h [v0,v1,v2] h9 fun t12 h13 y14=>
 condB t12 (K .ret ⟨[(0,v0),(1,v1),(2,v2),(3,v3),(8,v8),(9,v9),(10,v10),(11,v11),(72,t12)],h13,(y14 ++ (y10 ++ (y7 ++ (y3 ++ x))))⟩)
 (NW C gl q1 ⟨[(0,v0),(1,v1),(2,v2),(3,v3),(8,v8),(9,v9),(10,v10),(11,v11),(72,t12)],h13,(y14 ++ (y10 ++ (y7 ++ (y3 ++ x))))⟩ K))
 (NW C gl q1 ⟨[(0,v0),(1,v1),(2,v2),(3,v3),(8,v8),(9,v9),(10,v10),(11,v11),(68,t11)],h9,(y10 ++ (y7 ++ (y3 ++ x)))⟩ K)
theorem E_q03k_k2 {C gl q1 e h x K} : NW C gl (P_q03k_k2 q1) ⟨e,h,x⟩ K = d_q03k_k2 C gl q1 (aget e 0) (aget e 1) (aget e 2) (aget e 3) (aget e 8) (aget e 9) (aget e 10) (aget e 11) (aget e 12) h x K:=by kernel_rfl
theorem e_q03k_k2 {C gl e h x K} : NW C gl p_q03k_k2 ⟨e,h,x⟩ K = d_q03k_k2 C gl p_q03k_k1 (aget e 0) (aget e 1) (aget e 2) (aget e 3) (aget e 8) (aget e 9) (aget e 10) (aget e 11) (aget e 12) h x K:=E_q03k_k2
def P_q03k_k3 (q2 : ACode) : ACode:=.pr [0,1,2,3,8,9,10] (.seq (rg [mV 43 0,
mV 44 1,
mV 45 2,
cL 46 f_q03a [43,44,45],
mV 42 46,
eX 47 42 0,
eX 48 42 1,
mV 11 47,
mV 12 48] [0,1,2,3,8,9,10,11,12])
(.seq (.seq (rg [mV 49 12,
bN 50 .eql 49 (cI 2)] [0,1,2,3,8,9,10,11,12,50])
(.cond 50 (.seq (rg [mV 51 0,
mV 52 1,
mV 53 2,
cL 54 f_q03l [51,52,53]] [0,1,2,3,8,9,10,11])
(.seq (rg [mV 55 2,
bN 56 .sub 55 (cI 1),
mV 57 11,
mV 58 1,
bN 59 .sub 57 58,
bN 60 .sub 56 59,
mV 11 60] [0,1,2,3,8,9,10,11])
(rg [mV 12 (cI 1)] [0,1,2,3,8,9,10,11,12])))
.skip))
q2))
def p_q03k_k3 : ACode:=P_q03k_k3 p_q03k_k2
def d_q03k_k3 (C : Hd) (gl : GL) (q2 : ACode) (v0 v1 v2 v3 v8 v9 v10 : AV) (h : Heap) (x : Esc) (K : KT) : Prop:=
 C f_q03a [v0,v1,v2] h fun t1 h2 y3=>
 pK (oExt t1 0) fun t4=>
 pK (oExt t1 1) fun t5=>
 pK (oBin .eql t5 (AI 2)) fun t6=>
 condB t6 (C f_q03l [v0,v1,v2] h2 fun t7 h8 y9=>
 pK (oBin .sub v2 (AI 1)) fun t10=>
 pK (oBin .sub t4 v1) fun t11=>
 pK (oBin .sub t10 t11) fun t12=>
 NW C gl q2 ⟨[(0,v0),(1,v1),(2,v2),(3,v3),(8,v8),(9,v9),(10,v10),(11,t12),(12,(AI 1))],h8,(y9 ++ (y3 ++ x))⟩ K)
 (NW C gl q2 ⟨[(0,v0),(1,v1),(2,v2),(3,v3),(8,v8),(9,v9),(10,v10),(11,t4),(12,t5),(50,t6)],h2,(y3 ++ x)⟩ K)
theorem E_q03k_k3 {C gl q2 e h x K} : NW C gl (P_q03k_k3 q2) ⟨e,h,x⟩ K = d_q03k_k3 C gl q2 (aget e 0) (aget e 1) (aget e 2) (aget e 3) (aget e 8) (aget e 9) (aget e 10) h x K:=by kernel_rfl
theorem e_q03k_k3 {C gl e h x K} : NW C gl p_q03k_k3 ⟨e,h,x⟩ K = d_q03k_k3 C gl p_q03k_k2 (aget e 0) (aget e 1) (aget e 2) (aget e 3) (aget e 8) (aget e 9) (aget e 10) h x K:=E_q03k_k3
def P_q03k_k4 (q3 : ACode) : ACode:=.pr [0,1,2,3,8,9] (.block 1 (.seq (rg [mV 19 2,
mV 20 1,
bN 21 .sub 19 20,
mV 10 21] [0,1,2,3,8,9,10])
(.seq (.seq (rg [mV 22 10,
bN 23 .leq 22 (cI 12)] [0,1,2,3,8,9,10,23])
(.cond 23 (.seq (rg [mV 24 0,
mV 25 1,
mV 26 2,
cL 27 f_q03c [24,25,26]] [])
.ret)
.skip))
(.seq (.seq (rg [mV 28 3,
bN 29 .eql 28 (cI 0)] [0,1,2,3,8,9,10,29])
(.cond 29 (.seq (rg [mV 30 0,
mV 31 1,
mV 32 2,
cL 33 f_q03b [30,31,32]] [])
.ret)
.skip))
(.seq (.seq (rg [mV 34 8,
uO 35 (.un .not 34)] [0,1,2,3,8,9,10,35])
(.cond 35 (.seq (rg [mV 36 0,
mV 37 1,
mV 38 2,
cL 39 f_q039 [36,37,38]] [0,1,2,3,8,9,10])
(rg [mV 40 3,
bN 41 .sub 40 (cI 1),
mV 3 41] [0,1,2,3,8,9,10]))
.skip))
q3)))))
def p_q03k_k4 : ACode:=P_q03k_k4 p_q03k_k3
def d_q03k_k4 (C : Hd) (gl : GL) (q3 : ACode) (v0 v1 v2 v3 v8 v9 : AV) (h : Heap) (x : Esc) (K : KT) : Prop:=
 pK (oBin .sub v2 v1) fun t1=>
 pK (oBin .leq t1 (AI 12)) fun t2=>
 condB t2 (C f_q03c [v0,v1,v2] h fun t3 h4 y5=>
 K .ret ⟨[],h4,(y5 ++ x)⟩)
 (pK (oBin .eql v3 (AI 0)) fun t6=>
 condB t6 (C f_q03b [v0,v1,v2] h fun t7 h8 y9=>
 K .ret ⟨[],h8,(y9 ++ x)⟩)
 (pK (oUn .not v8) fun t10=>
 condB t10 (C f_q039 [v0,v1,v2] h fun t11 h12 y13=>
 pK (oBin .sub v3 (AI 1)) fun t14=>
 NW C gl q3 ⟨[(0,v0),(1,v1),(2,v2),(3,t14),(8,v8),(9,v9),(10,t1)],h12,(y13 ++ x)⟩ (blockN 1 K))
 (NW C gl q3 ⟨[(0,v0),(1,v1),(2,v2),(3,v3),(8,v8),(9,v9),(10,t1),(35,t10)],h,x⟩ (blockN 1 K))))
theorem E_q03k_k4 {C gl q3 e h x K} : NW C gl (P_q03k_k4 q3) ⟨e,h,x⟩ K = d_q03k_k4 C gl q3 (aget e 0) (aget e 1) (aget e 2) (aget e 3) (aget e 8) (aget e 9) h x K:=by kernel_rfl
theorem e_q03k_k4 {C gl e h x K} : NW C gl p_q03k_k4 ⟨e,h,x⟩ K = d_q03k_k4 C gl p_q03k_k3 (aget e 0) (aget e 1) (aget e 2) (aget e 3) (aget e 8) (aget e 9) h x K:=E_q03k_k4
theorem l_q03k_k4 {C gl e h x K} : NW C gl (.loop p_q03k_k4) ⟨e,h,x⟩ K = NLoop C gl p_q03k_k4 K [(0,aget e 0),(1,aget e 1),(2,aget e 2),(3,aget e 3),(8,aget e 8),(9,aget e 9)] h x:=NLoop_pr
def P_q03k (q4 : ACode) : ACode:=(.seq (rg [mV 8 cT] [0,1,2,3,8])
(.seq (rg [mV 9 cT] [0,1,2,3,8,9])
(.block 0 (.loop q4))))
def a_q03k : AFun:=⟨4,[],P_q03k p_q03k_k4,true,false⟩
def d_q03k (C : Hd) (gl : GL) (q4 : ACode) (v0 v1 v2 v3 : AV) (h : Heap) (x : Esc) (K : KT) : Prop:=
 NW C gl (.loop q4) ⟨[(0,v0),(1,v1),(2,v2),(3,v3),(8,(AB true)),(9,(AB true))],h,x⟩ (blockN 0 K)
theorem E_q03k {C gl q4 v0 v1 v2 v3 h x K} : NW C gl (P_q03k q4) ⟨enter [v0,v1,v2,v3],h,x⟩ K = d_q03k C gl q4 v0 v1 v2 v3 h x K:=by kernel_rfl
theorem e_q03k {C gl v0 v1 v2 v3 h x K} : NW C gl a_q03k.body ⟨enter [v0,v1,v2,v3],h,x⟩ K = d_q03k C gl p_q03k_k4 v0 v1 v2 v3 h x K:=E_q03k
def P_q01l : ACode:=(.seq (rg [mV 2 (cI 0)] [0])
(.seq (.cond cF (.seq (rg [mV 3 0,
uO 4 (.conv (.i .u32) 3),
cL 5 f_q01m [4],
mV 2 5] [2])
.ret)
.skip)
(.seq (rg [mV 6 0,
cL 7 f_q01n [6],
mV 2 7] [2])
.ret)))
def a_q01l : AFun:=⟨1,[.t 2],P_q01l,false,false⟩
def d_q01l (C : Hd) (gl : GL) (v0 : AV) (h : Heap) (x : Esc) (K : KT) : Prop:=
 condB (AB false) (pK (oConvI .u32 v0) fun t1=>
 C f_q01m [t1] h fun t2 h3 y4=>
 K .ret ⟨[(2,t2)],h3,(y4 ++ x)⟩)
 (C f_q01n [v0] h fun t5 h6 y7=>
 K .ret ⟨[(2,t5)],h6,(y7 ++ x)⟩)
theorem e_q01l {C gl v0 h x K} : NW C gl a_q01l.body ⟨enter [v0],h,x⟩ K = d_q01l C gl v0 h x K:=by kernel_rfl
def P_q014 : ACode:=(.seq (rg [uO 4 (.box 1),
mV 6 (.c (.p (.sl none [])))] [0,2,4])
(.seq (rg [mV 8 0,
cL 9 f_q02v [8],
mV 7 9] [2,4,7])
(.seq (dr [dF (mV 10 7) [7],
dF (lD 11 (some 2) 4) [4],
dF (mV 12 2) [2],
dA (cL 13 f_q017 [12]) [12] true [] [1],
dT (cL 14 f_q018 [10,11,13]) [10,11,13]] [7])
(.seq (rg [mV 15 7,
mV 6 15] [6])
.ret))))
def a_q014 : AFun:=⟨3,[.t 6],P_q014,false,false⟩
def d_q014 (C : Hd) (gl : GL) (v0 v1 v2 : AV) (h : Heap) (x : Esc) (K : KT) : Prop:=
 wK (oBox v1 h) fun t1 h2 y3=>
 C f_q02v [v0] h2 fun t4 h5 y6=>
 pK (oLoad (some 2) t1 h5) fun t7=>
 callE C f_q017 [v2] h5 fun t8 h9 y10=>
 (pK (oLoad (some 2) t1 h9) fun v=>(fun u (g1 : Heap) (y1 : Esc)=>u = t7 ∧ g1 = h9 ∧ y1 = []) v h9 []) ∧ (callE C f_q018 [t4,t7,t8] h9 fun t11 h12 y13=>
 K .ret ⟨[(6,t4)],h12,(y13 ++ (y10 ++ (y6 ++ (y3 ++ x))))⟩)
theorem e_q014 {C gl v0 v1 v2 h x K} : NW C gl a_q014.body ⟨enter [v0,v1,v2],h,x⟩ K = d_q014 C gl v0 v1 v2 h x K:=by kernel_rfl
def p_q02m_k1 : ACode:=.pr [0,1,7,8] (.seq (rg [bN 9 .lss 8 7] [0,1,7,8,9])
(.seq (.cond 9 .skip
(.exit 0))
(.seq (.block 1 (.seq (rg [mV 10 8,
mV 5 10] [0,1,5,7,8])
(.seq (rg [mV 11 1,
mV 12 0,
mV 13 5,
uO 14 (.idxs 12 13),
cL 15 f_q04d [11,14],
bN 16 .lss 15 (cI 0)] [0,1,7,8,16])
(.cond 16 (.seq (rg [mV 4 cF] [4])
.ret)
.skip))))
(rg [bN 17 .add 8 (cI 1),
mV 8 17] [0,1,7,8]))))
def d_q02m_k1 (C : Hd) (gl : GL) (v0 v1 v7 v8 : AV) (h : Heap) (x : Esc) (K : KT) : Prop:=
 pK (oBin .lss v8 v7) fun t1=>
 condB t1 (pK (oIdxs v0 v8) fun t2=>
 C f_q04d [v1,t2] h fun t3 h4 y5=>
 pK (oBin .lss t3 (AI 0)) fun t6=>
 condB t6 (K .ret ⟨[(4,(AB false))],h4,(y5 ++ x)⟩)
 (pK (oBin .add v8 (AI 1)) fun t7=>
 K .normal ⟨[(0,v0),(1,v1),(7,v7),(8,t7)],h4,(y5 ++ x)⟩))
 (K (.exit 0) ⟨[(0,v0),(1,v1),(7,v7),(8,v8),(9,t1)],h,x⟩)
theorem e_q02m_k1 {C gl e h x K} : NW C gl p_q02m_k1 ⟨e,h,x⟩ K = d_q02m_k1 C gl (aget e 0) (aget e 1) (aget e 7) (aget e 8) h x K:=by kernel_rfl
theorem l_q02m_k1 {C gl e h x K} : NW C gl (.loop p_q02m_k1) ⟨e,h,x⟩ K = NLoop C gl p_q02m_k1 K [(0,aget e 0),(1,aget e 1),(7,aget e 7),(8,aget e 8)] h x:=NLoop_pr
def p_q02m_k2 : ACode:=.pr [] (.seq (rg [mV 4 cT] [4])
.ret)
def d_q02m_k2 (C : Hd) (gl : GL) (h : Heap) (x : Esc) (K : KT) : Prop:=
 K .ret ⟨[(4,(AB true))],h,x⟩
theorem e_q02m_k2 {C gl e h x K} : NW C gl p_q02m_k2 ⟨e,h,x⟩ K = d_q02m_k2 C gl h x K:=by kernel_rfl
def P_q02m (q1 q2 : ACode) : ACode:=(.seq (rg [mV 4 cF] [0,1])
(.seq (.seq (rg [mV 6 0,
uO 7 (.lens 6),
mV 8 (cI 0)] [0,1,7,8])
(.block 0 (.loop q1)))
q2))
def a_q02m : AFun:=⟨2,[.t 4],P_q02m p_q02m_k1 p_q02m_k2,false,false⟩
def d_q02m (C : Hd) (gl : GL) (q1 q2 : ACode) (v0 v1 : AV) (h : Heap) (x : Esc) (K : KT) : Prop:=
 pK (oLens v0) fun t1=>
 NW C gl (.loop q1) ⟨[(0,v0),(1,v1),(7,t1),(8,(AI 0))],h,x⟩ (blockN 0 (seqN C gl q2 K))
theorem E_q02m {C gl q1 q2 v0 v1 h x K} : NW C gl (P_q02m q1 q2) ⟨enter [v0,v1],h,x⟩ K = d_q02m C gl q1 q2 v0 v1 h x K:=by kernel_rfl
theorem e_q02m {C gl v0 v1 h x K} : NW C gl a_q02m.body ⟨enter [v0,v1],h,x⟩ K = d_q02m C gl p_q02m_k1 p_q02m_k2 v0 v1 h x K:=E_q02m
def p_q034_k1 : ACode:=.pr [0,1,7,8] (.seq (rg [bN 9 .lss 8 7] [0,1,7,8,9])
(.seq (.cond 9 .skip
(.exit 0))
(.seq (.block 1 (.seq (rg [mV 10 8,
mV 5 10] [0,1,5,7,8])
(.seq (rg [mV 11 1,
mV 12 0,
mV 13 5,
iA 14 none 12 13,
lD 15 none 14,
uO 16 (.callv 11 [15])] [0,1,5,7,8,16])
(.cond 16 (.seq (rg [mV 17 5,
mV 4 17] [4])
.ret)
.skip))))
(rg [bN 18 .add 8 (cI 1),
mV 8 18] [0,1,7,8]))))
def d_q034_k1 (C : Hd) (gl : GL) (v0 v1 v7 v8 : AV) (h : Heap) (x : Esc) (K : KT) : Prop:=
 pK (oBin .lss v8 v7) fun t1=>
 condB t1 (pK (oIaddr none v0 v8 h) fun t2=>
 pK (oLoad none t2 h) fun t3=>
 callvK C v1 [t3] h fun t4 h5 y6=>
 condB t4 (K .ret ⟨[(4,v8)],h5,(y6 ++ x)⟩)
 (pK (oBin .add v8 (AI 1)) fun t7=>
 K .normal ⟨[(0,v0),(1,v1),(7,v7),(8,t7)],h5,(y6 ++ x)⟩))
 (K (.exit 0) ⟨[(0,v0),(1,v1),(7,v7),(8,v8),(9,t1)],h,x⟩)
theorem e_q034_k1 {C gl e h x K} : NW C gl p_q034_k1 ⟨e,h,x⟩ K = d_q034_k1 C gl (aget e 0) (aget e 1) (aget e 7) (aget e 8) h x K:=by kernel_rfl
theorem l_q034_k1 {C gl e h x K} : NW C gl (.loop p_q034_k1) ⟨e,h,x⟩ K = NLoop C gl p_q034_k1 K [(0,aget e 0),(1,aget e 1),(7,aget e 7),(8,aget e 8)] h x:=NLoop_pr
def p_q034_k2 : ACode:=.pr [] (.seq (rg [mV 4 (cI (-1))] [4])
.ret)
def d_q034_k2 (C : Hd) (gl : GL) (h : Heap) (x : Esc) (K : KT) : Prop:=
 K .ret ⟨[(4,(AI (-1)))],h,x⟩
theorem e_q034_k2 {C gl e h x K} : NW C gl p_q034_k2 ⟨e,h,x⟩ K = d_q034_k2 C gl h x K:=by kernel_rfl
def P_q034 (q1 q2 : ACode) : ACode:=(.seq (rg [mV 4 (cI 0)] [0,1])
(.seq (.seq (rg [mV 6 0,
lN 7 6,
mV 8 (cI 0)] [0,1,7,8])
(.block 0 (.loop q1)))
q2))
def a_q034 : AFun:=⟨2,[.t 4],P_q034 p_q034_k1 p_q034_k2,true,false⟩
def d_q034 (C : Hd) (gl : GL) (q1 q2 : ACode) (v0 v1 : AV) (h : Heap) (x : Esc) (K : KT) : Prop:=
 pK (oLen v0) fun t1=>
 NW C gl (.loop q1) ⟨[(0,v0),(1,v1),(7,t1),(8,(AI 0))],h,x⟩ (blockN 0 (seqN C gl q2 K))
theorem E_q034 {C gl q1 q2 v0 v1 h x K} : NW C gl (P_q034 q1 q2) ⟨enter [v0,v1],h,x⟩ K = d_q034 C gl q1 q2 v0 v1 h x K:=by kernel_rfl
theorem e_q034 {C gl v0 v1 h x K} : NW C gl a_q034.body ⟨enter [v0,v1],h,x⟩ K = d_q034 C gl p_q034_k1 p_q034_k2 v0 v1 h x K:=E_q034
end Go.Am
end
