/- Texts of the proof, laid together: CodesA, CodesB. -/
import Derived.KernelRfl
import Derived.Test.YtdjkfcdognndjaaGreatDoorlawFA4
set_option linter.all false
section
/- The functions asv abstract code,and asv formulas over their values: printed by program out of the translation. -/
set_option linter.unusedVariables false
set_option maxRecDepth 100000
namespace Go.Am
def p_q03l_k1 : ACode:=.pr [5,7,11,13,15,17,19,20,96,97,98] (rg [bN 107 .add 98 (cI 1),
mV 98 107] [5,7,11,13,15,17,19,20,96,97,98])
def d_q03l_k1 (C : Hd) (gl : GL) (v5 v7 v11 v13 v15 v17 v19 v20 v96 v97 v98 : AV) (h : Heap) (x : Esc) (K : KT) : Prop:=
 pK (oBin .add v98 (AI 1)) fun t1=>
 K .normal ⟨[(5,v5),(7,v7),(11,v11),(13,v13),(15,v15),(17,v17),(19,v19),(20,v20),(96,v96),(97,v97),(98,t1)],h,x⟩
theorem e_q03l_k1 {C gl e h x K} : NW C gl p_q03l_k1 ⟨e,h,x⟩ K = d_q03l_k1 C gl (aget e 5) (aget e 7) (aget e 11) (aget e 13) (aget e 15) (aget e 17) (aget e 19) (aget e 20) (aget e 96) (aget e 97) (aget e 98) h x K:=by kernel_rfl
def P_q03l_k2 (q1 : ACode) : ACode:=.pr [5,7,11,13,15,17,19,20,96,97,98] (.seq (rg [bN 99 .lss 98 97] [5,7,11,13,15,17,19,20,96,97,98,99])
(.seq (.cond 99 .skip
(.exit 0))
(.seq (.block 1 (.seq (rg [iA 100 (some 2) 96 98,
lD 101 (some 2) 100,
uO 22 (.alloc [.p (.str []),.p (.str [])]),
wO (.store (some 2) 22 101)] [5,7,11,13,15,17,19,20,22,96,97,98])
(.seq (rg [fA 102 1 none 22,
lD 103 none 102,
bN 104 .neq 103 (cS [49])] [5,7,11,13,15,17,19,20,96,97,98,104])
(.cond 104 (rg [mV 105 19,
bN 106 .add 105 (cI 1),
mV 19 106] [5,7,11,13,15,17,19,20,96,97,98])
.skip))))
q1)))
def p_q03l_k2 : ACode:=P_q03l_k2 p_q03l_k1
def d_q03l_k2 (C : Hd) (gl : GL) (q1 : ACode) (v5 v7 v11 v13 v15 v17 v19 v20 v96 v97 v98 : AV) (h : Heap) (x : Esc) (K : KT) : Prop:=
 pK (oBin .lss v98 v97) fun t1=>
 condB t1 (pK (oIaddr (some 2) v96 v98 h) fun t2=>
 pK (oLoad (some 2) t2 h) fun t3=>
 alK [.p (.str []),.p (.str [])] h fun t4 h5 y6=>
 wK (oStore (some 2) t4 t3 h5) fun t7 h8 y9=>
 pK (oFaddr 1 none t4) fun t10=>
 pK (oLoad none t10 h8) fun t11=>
 pK (oBin .neq t11 (.p (.str [49]))) fun t12=>
 condB t12 (pK (oBin .add v19 (AI 1)) fun t13=>
 NW C gl q1 ⟨[(5,v5),(7,v7),(11,v11),(13,v13),(15,v15),(17,v17),(19,t13),(20,v20),(96,v96),(97,v97),(98,v98)],h8,(y9 ++ (y6 ++ x))⟩ K)
 (NW C gl q1 ⟨[(5,v5),(7,v7),(11,v11),(13,v13),(15,v15),(17,v17),(19,v19),(20,v20),(96,v96),(97,v97),(98,v98),(104,t12)],h8,(y9 ++ (y6 ++ x))⟩ K))
 (K (.exit 0) ⟨[(5,v5),(7,v7),(11,v11),(13,v13),(15,v15),(17,v17),(19,v19),(20,v20),(96,v96),(97,v97),(98,v98),(99,t1)],h,x⟩)
theorem E_q03l_k2 {C gl q1 e h x K} : NW C gl (P_q03l_k2 q1) ⟨e,h,x⟩ K = d_q03l_k2 C gl q1 (aget e 5) (aget e 7) (aget e 11) (aget e 13) (aget e 15) (aget e 17) (aget e 19) (aget e 20) (aget e 96) (aget e 97) (aget e 98) h x K:=by kernel_rfl
theorem e_q03l_k2 {C gl e h x K} : NW C gl p_q03l_k2 ⟨e,h,x⟩ K = d_q03l_k2 C gl p_q03l_k1 (aget e 5) (aget e 7) (aget e 11) (aget e 13) (aget e 15) (aget e 17) (aget e 19) (aget e 20) (aget e 96) (aget e 97) (aget e 98) h x K:=E_q03l_k2
theorem l_q03l_k2 {C gl e h x K} : NW C gl (.loop (.scope p_q03l_k2)) ⟨e,h,x⟩ K = NLoop C gl (.scope p_q03l_k2) K [(5,aget e 5),(7,aget e 7),(11,aget e 11),(13,aget e 13),(15,aget e 15),(17,aget e 17),(19,aget e 19),(20,aget e 20),(96,aget e 96),(97,aget e 97),(98,aget e 98)] h x:=NLoop_sc
def p_q03l_k3 : ACode:=.pr [5,11,13,15,17,19,20,108,109,110] (.seq (rg [bN 111 .lss 110 109] [5,11,13,15,17,19,20,108,109,110,111])
(.seq (.cond 111 .skip
(.exit 2))
(.seq (.block 3 (.seq (rg [iA 112 (some 2) 108 110,
lD 113 (some 2) 112,
uO 24 (.alloc [.p (.str []),.p (.str [])]),
wO (.store (some 2) 24 113)] [5,11,13,15,17,19,20,24,108,109,110])
(.seq (rg [fA 115 1 none 24,
lD 116 none 115,
cL 117 f_q08h [116],
mV 114 117,
eX 118 114 0,
eX 119 114 1,
mV 25 118,
mV 26 119] [5,11,13,15,17,19,20,25,108,109,110])
(rg [mV 120 20,
mV 121 25,
bN 122 .add 120 121,
mV 20 122] [5,11,13,15,17,19,20,108,109,110]))))
(rg [bN 123 .add 110 (cI 1),
mV 110 123] [5,11,13,15,17,19,20,108,109,110]))))
def d_q03l_k3 (C : Hd) (gl : GL) (v5 v11 v13 v15 v17 v19 v20 v108 v109 v110 : AV) (h : Heap) (x : Esc) (K : KT) : Prop:=
 pK (oBin .lss v110 v109) fun t1=>
 condB t1 (pK (oIaddr (some 2) v108 v110 h) fun t2=>
 pK (oLoad (some 2) t2 h) fun t3=>
 alK [.p (.str []),.p (.str [])] h fun t4 h5 y6=>
 wK (oStore (some 2) t4 t3 h5) fun t7 h8 y9=>
 pK (oFaddr 1 none t4) fun t10=>
 pK (oLoad none t10 h8) fun t11=>
 C f_q08h [t11] h8 fun t12 h13 y14=>
 pK (oExt t12 0) fun t15=>
 pK (oExt t12 1) fun t16=>
 pK (oBin .add v20 t15) fun t17=>
 pK (oBin .add v110 (AI 1)) fun t18=>
 K .normal ⟨[(5,v5),(11,v11),(13,v13),(15,v15),(17,v17),(19,v19),(20,t17),(108,v108),(109,v109),(110,t18)],h13,(y14 ++ (y9 ++ (y6 ++ x)))⟩)
 (K (.exit 2) ⟨[(5,v5),(11,v11),(13,v13),(15,v15),(17,v17),(19,v19),(20,v20),(108,v108),(109,v109),(110,v110),(111,t1)],h,x⟩)
theorem e_q03l_k3 {C gl e h x K} : NW C gl p_q03l_k3 ⟨e,h,x⟩ K = d_q03l_k3 C gl (aget e 5) (aget e 11) (aget e 13) (aget e 15) (aget e 17) (aget e 19) (aget e 20) (aget e 108) (aget e 109) (aget e 110) h x K:=by kernel_rfl
theorem l_q03l_k3 {C gl e h x K} : NW C gl (.loop (.scope p_q03l_k3)) ⟨e,h,x⟩ K = NLoop C gl (.scope p_q03l_k3) K [(5,aget e 5),(11,aget e 11),(13,aget e 13),(15,aget e 15),(17,aget e 17),(19,aget e 19),(20,aget e 20),(108,aget e 108),(109,aget e 109),(110,aget e 110)] h x:=NLoop_sc
def p_q03l_k4 : ACode:=.pr [5,11,15,17,19,20,27,124,125,126] (.seq (rg [bN 127 .lss 126 125] [5,11,15,17,19,20,27,124,125,126,127])
(.seq (.cond 127 .skip
(.exit 4))
(.seq (.block 5 (.seq (rg [iA 128 (some 2) 124 126,
lD 129 (some 2) 128,
uO 29 (.alloc [.p (.str []),.p (.str [])]),
wO (.store (some 2) 29 129)] [5,11,15,17,19,20,27,29,124,125,126])
(.seq (rg [fA 131 1 none 29,
lD 132 none 131,
cL 133 f_q08w [132,(cS [47])],
mV 130 133,
eX 134 130 0,
eX 135 130 1,
eX 136 130 2,
mV 30 134,
mV 31 135,
mV 32 136] [5,11,15,17,19,20,27,31,124,125,126])
(.seq (rg [mV 138 31,
cL 139 f_q08h [138],
mV 137 139,
eX 140 137 0,
eX 141 137 1,
mV 33 140,
mV 34 141] [5,11,15,17,19,20,27,33,124,125,126])
(rg [mV 142 27,
mV 143 33,
bN 144 .add 142 143,
mV 27 144] [5,11,15,17,19,20,27,124,125,126])))))
(rg [bN 145 .add 126 (cI 1),
mV 126 145] [5,11,15,17,19,20,27,124,125,126]))))
def d_q03l_k4 (C : Hd) (gl : GL) (v5 v11 v15 v17 v19 v20 v27 v124 v125 v126 : AV) (h : Heap) (x : Esc) (K : KT) : Prop:=
 pK (oBin .lss v126 v125) fun t1=>
 condB t1 (pK (oIaddr (some 2) v124 v126 h) fun t2=>
 pK (oLoad (some 2) t2 h) fun t3=>
 alK [.p (.str []),.p (.str [])] h fun t4 h5 y6=>
 wK (oStore (some 2) t4 t3 h5) fun t7 h8 y9=>
 pK (oFaddr 1 none t4) fun t10=>
 pK (oLoad none t10 h8) fun t11=>
 C f_q08w [t11,(.p (.str [47]))] h8 fun t12 h13 y14=>
 pK (oExt t12 0) fun t15=>
 pK (oExt t12 1) fun t16=>
 pK (oExt t12 2) fun t17=>
 C f_q08h [t16] h13 fun t18 h19 y20=>
 pK (oExt t18 0) fun t21=>
 pK (oExt t18 1) fun t22=>
 pK (oBin .add v27 t21) fun t23=>
 pK (oBin .add v126 (AI 1)) fun t24=>
 K .normal ⟨[(5,v5),(11,v11),(15,v15),(17,v17),(19,v19),(20,v20),(27,t23),(124,v124),(125,v125),(126,t24)],h19,(y20 ++ (y14 ++ (y9 ++ (y6 ++ x))))⟩)
 (K (.exit 4) ⟨[(5,v5),(11,v11),(15,v15),(17,v17),(19,v19),(20,v20),(27,v27),(124,v124),(125,v125),(126,v126),(127,t1)],h,x⟩)
theorem e_q03l_k4 {C gl e h x K} : NW C gl p_q03l_k4 ⟨e,h,x⟩ K = d_q03l_k4 C gl (aget e 5) (aget e 11) (aget e 15) (aget e 17) (aget e 19) (aget e 20) (aget e 27) (aget e 124) (aget e 125) (aget e 126) h x K:=by kernel_rfl
theorem l_q03l_k4 {C gl e h x K} : NW C gl (.loop (.scope p_q03l_k4)) ⟨e,h,x⟩ K = NLoop C gl (.scope p_q03l_k4) K [(5,aget e 5),(11,aget e 11),(15,aget e 15),(17,aget e 17),(19,aget e 19),(20,aget e 20),(27,aget e 27),(124,aget e 124),(125,aget e 125),(126,aget e 126)] h x:=NLoop_sc
def p_q03l_k5 : ACode:=.pr [5,15,17,19,20,27,146,147,148] (.seq (rg [bN 149 .lss 148 147] [5,15,17,19,20,27,146,147,148,149])
(.seq (.cond 149 .skip
(.exit 6))
(.seq (.block 7 (.seq (rg [iA 150 none 146 148,
lD 151 none 150,
mV 36 151] [5,15,17,19,20,27,36,146,147,148])
(.seq (rg [mV 152 15,
mV 153 36,
uO 154 (.build [.p (.str []),.p (.str [])] [(0,1,153),(1,1,(cS [49]))]),
cL 155 f_q05x [152,154],
mV 156 155,
gD 157 156 false (.mv 17),
gD 158 156 false (.mv 36),
gD 159 156 false (.build [.p (.str []),.p (.str [])] [(0,1,158),(1,1,(cS [49]))]),
gD 160 156 false (.call f_q05x [157,159]),
gD 161 156 false (.un .not 160),
uO 162 (.pick 156 cT 161)] [5,15,17,19,20,27,146,147,148,162])
(.cond 162 (.seq (rg [mV 2 cF] [2])
.ret)
.skip))))
(rg [bN 163 .add 148 (cI 1),
mV 148 163] [5,15,17,19,20,27,146,147,148]))))
def d_q03l_k5 (C : Hd) (gl : GL) (v5 v15 v17 v19 v20 v27 v146 v147 v148 : AV) (h : Heap) (x : Esc) (K : KT) : Prop:=
 pK (oBin .lss v148 v147) fun t1=>
 condB t1 (pK (oIaddr none v146 v148 h) fun t2=>
 pK (oLoad none t2 h) fun t3=>
 pK (oBuild [.p (.str []),.p (.str [])] [(0,1,t3),(1,1,(.p (.str [49])))]) fun t4=>
 C f_q05x [v15,t4] h fun t5 h6 y7=>
 gM t5 false v17 h6 fun t8 h9 y10=>
 gM t5 false t3 h9 fun t11 h12 y13=>
 gP t5 false (oBuild [.p (.str []),.p (.str [])] [(0,1,t11),(1,1,(.p (.str [49])))]) h12 fun t14 h15 y16=>
 gV t5 false h15 (C f_q05x [t8,t14] h15) fun t17 h18 y19=>
 gP t5 false (oUn .not t17) h18 fun t20 h21 y22=>
 pK (oPick t5 (AB true) t20) fun t23=>
 condB t23 (K .ret ⟨[(2,(AB false))],h21,(y22 ++ (y19 ++ (y16 ++ (y13 ++ (y10 ++ (y7 ++ x))))))⟩)
 (pK (oBin .add v148 (AI 1)) fun t24=>
 K .normal ⟨[(5,v5),(15,v15),(17,v17),(19,v19),(20,v20),(27,v27),(146,v146),(147,v147),(148,t24)],h21,(y22 ++ (y19 ++ (y16 ++ (y13 ++ (y10 ++ (y7 ++ x))))))⟩))
 (K (.exit 6) ⟨[(5,v5),(15,v15),(17,v17),(19,v19),(20,v20),(27,v27),(146,v146),(147,v147),(148,v148),(149,t1)],h,x⟩)
theorem e_q03l_k5 {C gl e h x K} : NW C gl p_q03l_k5 ⟨e,h,x⟩ K = d_q03l_k5 C gl (aget e 5) (aget e 15) (aget e 17) (aget e 19) (aget e 20) (aget e 27) (aget e 146) (aget e 147) (aget e 148) h x K:=by kernel_rfl
theorem l_q03l_k5 {C gl e h x K} : NW C gl (.loop p_q03l_k5) ⟨e,h,x⟩ K = NLoop C gl p_q03l_k5 K [(5,aget e 5),(15,aget e 15),(17,aget e 17),(19,aget e 19),(20,aget e 20),(27,aget e 27),(146,aget e 146),(147,aget e 147),(148,aget e 148)] h x:=NLoop_pr
def p_q03l_k6 : ACode:=.pr [5,19,20,27] (.seq (rg [mV 164 19,
mV 165 20,
bN 166 .eql 164 165,
mV 167 166,
gD 168 167 true (.mv 27),
gD 169 167 true (.mv 5),
gD 170 167 true (.len 169),
gD 171 167 true (.bin .eql 168 170),
uO 172 (.pick 167 171 cF),
mV 173 172,
gD 174 173 true (.call f_q03s []),
uO 175 (.pick 173 174 cF),
mV 2 175] [2])
.ret)
def d_q03l_k6 (C : Hd) (gl : GL) (v5 v19 v20 v27 : AV) (h : Heap) (x : Esc) (K : KT) : Prop:=
 pK (oBin .eql v19 v20) fun t1=>
 gM t1 true v27 h fun t2 h3 y4=>
 gM t1 true v5 h3 fun t5 h6 y7=>
 gP t1 true (oLen t5) h6 fun t8 h9 y10=>
 gP t1 true (oBin .eql t2 t8) h9 fun t11 h12 y13=>
 pK (oPick t1 t11 (AB false)) fun t14=>
 gV t14 true h12 (C f_q03s [] h12) fun t15 h16 y17=>
 pK (oPick t14 t15 (AB false)) fun t18=>
 K .ret ⟨[(2,t18)],h16,(y17 ++ (y13 ++ (y10 ++ (y7 ++ (y4 ++ x)))))⟩
theorem e_q03l_k6 {C gl e h x K} : NW C gl p_q03l_k6 ⟨e,h,x⟩ K = d_q03l_k6 C gl (aget e 5) (aget e 19) (aget e 20) (aget e 27) h x K:=by kernel_rfl
def P_q03l_k7 (q5 q6 : ACode) : ACode:=.pr [5,11,15,17,19,20,27] (.seq (.seq (rg [mV 146 11,
lN 147 146,
mV 148 (cI 0)] [5,15,17,19,20,27,146,147,148])
(.block 6 (.loop q5)))
q6)
def p_q03l_k7 : ACode:=P_q03l_k7 p_q03l_k5 p_q03l_k6
def d_q03l_k7 (C : Hd) (gl : GL) (q5 q6 : ACode) (v5 v11 v15 v17 v19 v20 v27 : AV) (h : Heap) (x : Esc) (K : KT) : Prop:=
 pK (oLen v11) fun t1=>
 NW C gl (.loop q5) ⟨[(5,v5),(15,v15),(17,v17),(19,v19),(20,v20),(27,v27),(146,v11),(147,t1),(148,(AI 0))],h,x⟩ (blockN 6 (seqN C gl q6 K))
theorem E_q03l_k7 {C gl q5 q6 e h x K} : NW C gl (P_q03l_k7 q5 q6) ⟨e,h,x⟩ K = d_q03l_k7 C gl q5 q6 (aget e 5) (aget e 11) (aget e 15) (aget e 17) (aget e 19) (aget e 20) (aget e 27) h x K:=by kernel_rfl
theorem e_q03l_k7 {C gl e h x K} : NW C gl p_q03l_k7 ⟨e,h,x⟩ K = d_q03l_k7 C gl p_q03l_k5 p_q03l_k6 (aget e 5) (aget e 11) (aget e 15) (aget e 17) (aget e 19) (aget e 20) (aget e 27) h x K:=E_q03l_k7
def P_q03l_k8 (q4 q7 : ACode) : ACode:=.pr [5,11,13,15,17,19,20] (.seq (rg [mV 27 (cI 0)] [5,11,13,15,17,19,20,27])
(.seq (.seq (rg [mV 124 13,
lN 125 124,
mV 126 (cI 0)] [5,11,15,17,19,20,27,124,125,126])
(.block 4 (.loop (.scope q4))))
q7))
def p_q03l_k8 : ACode:=P_q03l_k8 p_q03l_k4 p_q03l_k7
def d_q03l_k8 (C : Hd) (gl : GL) (q4 q7 : ACode) (v5 v11 v13 v15 v17 v19 v20 : AV) (h : Heap) (x : Esc) (K : KT) : Prop:=
 pK (oLen v13) fun t1=>
 NW C gl (.loop (.scope q4)) ⟨[(5,v5),(11,v11),(15,v15),(17,v17),(19,v19),(20,v20),(27,(AI 0)),(124,v13),(125,t1),(126,(AI 0))],h,x⟩ (blockN 4 (seqN C gl q7 K))
theorem E_q03l_k8 {C gl q4 q7 e h x K} : NW C gl (P_q03l_k8 q4 q7) ⟨e,h,x⟩ K = d_q03l_k8 C gl q4 q7 (aget e 5) (aget e 11) (aget e 13) (aget e 15) (aget e 17) (aget e 19) (aget e 20) h x K:=by kernel_rfl
theorem e_q03l_k8 {C gl e h x K} : NW C gl p_q03l_k8 ⟨e,h,x⟩ K = d_q03l_k8 C gl p_q03l_k4 p_q03l_k7 (aget e 5) (aget e 11) (aget e 13) (aget e 15) (aget e 17) (aget e 19) (aget e 20) h x K:=E_q03l_k8
def P_q03l_k9 (q3 q8 : ACode) : ACode:=.pr [5,7,11,13,15,17,19,20] (.seq (.seq (rg [mV 108 7,
lN 109 108,
mV 110 (cI 0)] [5,11,13,15,17,19,20,108,109,110])
(.block 2 (.loop (.scope q3))))
q8)
def p_q03l_k9 : ACode:=P_q03l_k9 p_q03l_k3 p_q03l_k8
def d_q03l_k9 (C : Hd) (gl : GL) (q3 q8 : ACode) (v5 v7 v11 v13 v15 v17 v19 v20 : AV) (h : Heap) (x : Esc) (K : KT) : Prop:=
 pK (oLen v7) fun t1=>
 NW C gl (.loop (.scope q3)) ⟨[(5,v5),(11,v11),(13,v13),(15,v15),(17,v17),(19,v19),(20,v20),(108,v7),(109,t1),(110,(AI 0))],h,x⟩ (blockN 2 (seqN C gl q8 K))
theorem E_q03l_k9 {C gl q3 q8 e h x K} : NW C gl (P_q03l_k9 q3 q8) ⟨e,h,x⟩ K = d_q03l_k9 C gl q3 q8 (aget e 5) (aget e 7) (aget e 11) (aget e 13) (aget e 15) (aget e 17) (aget e 19) (aget e 20) h x K:=by kernel_rfl
theorem e_q03l_k9 {C gl e h x K} : NW C gl p_q03l_k9 ⟨e,h,x⟩ K = d_q03l_k9 C gl p_q03l_k3 p_q03l_k8 (aget e 5) (aget e 7) (aget e 11) (aget e 13) (aget e 15) (aget e 17) (aget e 19) (aget e 20) h x K:=E_q03l_k9
def P_q03l (q2 q9 : ACode) : ACode:=(.seq (rg [mV 2 cF] [0])
(.seq (rg [mV 37 0,
uO 38 (.build [.sl0 none,.p (.int .i64 0)] [(0,1,37)]),
uO 39 (.box 38),
mV 3 39] [3])
(.seq (rg [mV 40 3,
cL 41 f_q04e [40],
mV 4 41] [3,4])
(.seq (rg [mV 42 3,
mV 43 4,
mV 44 3,
cL 45 f_q04a [44,(cI 0),(cI 12)],
cL 46 f_q04f [42,43,45],
mV 47 3,
cL 48 f_q04a [47,(cI 1),(cI 3)],
mV 5 46,
mV 6 48] [4,5,6])
(.seq (rg [mV 50 4,
mV 51 5,
mV 52 6,
cL 53 f_q028 [50,51,52],
mV 49 53,
eX 54 49 0,
eX 55 49 1,
mV 7 54,
mV 8 55] [4,5,6,7,8])
(.seq (rg [mV 57 4,
mV 58 5,
mV 59 6,
cL 60 f_q025 [57,58,59],
mV 56 60,
eX 61 56 0,
eX 62 56 1,
mV 9 61,
mV 10 62] [4,5,7,8,9,10])
(.seq (rg [mV 64 4,
mV 65 5,
cL 66 f_q02a [64,65],
mV 63 66,
eX 67 63 0,
eX 68 63 1,
mV 11 67,
mV 12 68] [4,5,7,8,9,10,11,12])
(.seq (rg [mV 70 4,
mV 71 5,
cL 72 f_q021 [70,71],
mV 69 72,
eX 73 69 0,
eX 74 69 1,
mV 13 73,
mV 14 74] [4,5,7,8,9,10,11,12,13,14])
(.seq (rg [mV 76 4,
mV 77 5,
cL 78 f_q025 [76,77,(cI 1)],
mV 75 78,
eX 79 75 0,
eX 80 75 1,
mV 15 79,
mV 16 80] [4,5,7,8,9,10,11,12,13,14,15,16])
(.seq (rg [mV 82 4,
mV 83 5,
cL 84 f_q025 [82,83,(cI 3)],
mV 81 84,
eX 85 81 0,
eX 86 81 1,
mV 17 85,
mV 18 86] [5,7,8,9,10,11,12,13,14,15,16,17,18])
(.seq (.seq (rg [mV 87 8,
mV 88 10,
mV 89 12,
mV 90 14,
mV 91 16,
mV 92 18,
uO 93 (.bsl false none 6 (.int .i64 0) [(0,87),(1,88),(2,89),(3,90),(4,91),(5,92)]),
cL 94 f_q03q [93],
bN 95 .neq 94 (cI 0)] [5,7,9,11,13,15,17,95])
(.cond 95 (.seq (rg [mV 2 cF] [2])
.ret)
.skip))
(.seq (rg [mV 19 (cI 0),
mV 20 (cI 0)] [5,7,9,11,13,15,17,19,20])
(.seq (.seq (rg [mV 96 9,
lN 97 96,
mV 98 (cI 0)] [5,7,11,13,15,17,19,20,96,97,98])
(.block 0 (.loop (.scope q2))))
q9)))))))))))))
def a_q03l : AFun:=⟨1,[.t 2],P_q03l p_q03l_k2 p_q03l_k9,false,false⟩
def d_q03l (C : Hd) (gl : GL) (q2 q9 : ACode) (v0 : AV) (h : Heap) (x : Esc) (K : KT) : Prop:=
 pK (oBuild [.sl0 none,.p (.int .i64 0)] [(0,1,v0)]) fun t1=>
 wK (oBox t1 h) fun t2 h3 y4=>
 C f_q04e [t2] h3 fun t5 h6 y7=>
 C f_q04a [t2,(AI 0),(AI 12)] h6 fun t8 h9 y10=>
 C f_q04f [t2,t5,t8] h9 fun t11 h12 y13=>
 C f_q04a [t2,(AI 1),(AI 3)] h12 fun t14 h15 y16=>
 C f_q028 [t5,t11,t14] h15 fun t17 h18 y19=>
 pK (oExt t17 0) fun t20=>
 pK (oExt t17 1) fun t21=>
 C f_q025 [t5,t11,t14] h18 fun t22 h23 y24=>
 pK (oExt t22 0) fun t25=>
 pK (oExt t22 1) fun t26=>
 C f_q02a [t5,t11] h23 fun t27 h28 y29=>
 pK (oExt t27 0) fun t30=>
 pK (oExt t27 1) fun t31=>
 C f_q021 [t5,t11] h28 fun t32 h33 y34=>
 pK (oExt t32 0) fun t35=>
 pK (oExt t32 1) fun t36=>
 C f_q025 [t5,t11,(AI 1)] h33 fun t37 h38 y39=>
 pK (oExt t37 0) fun t40=>
 pK (oExt t37 1) fun t41=>
 C f_q025 [t5,t11,(AI 3)] h38 fun t42 h43 y44=>
 pK (oExt t42 0) fun t45=>
 pK (oExt t42 1) fun t46=>
 wK (oBsl false none 6 (.int .i64 0) [(0,t21),(1,t26),(2,t31),(3,t36),(4,t41),(5,t46)] h43) fun t47 h48 y49=>
 C f_q03q [t47] h48 fun t50 h51 y52=>
 pK (oBin .neq t50 (AI 0)) fun t53=>
 condB t53 (K .ret ⟨[(2,(AB false))],h51,(y52 ++ (y49 ++ (y44 ++ (y39 ++ (y34 ++ (y29 ++ (y24 ++ (y19 ++ (y16 ++ (y13 ++ (y10 ++ (y7 ++ (y4 ++ x)))))))))))))⟩)
 (pK (oLen t25) fun t54=>
 NW C gl (.loop (.scope q2)) ⟨[(5,t11),(7,t20),(11,t30),(13,t35),(15,t40),(17,t45),(19,(AI 0)),(20,(AI 0)),(96,t25),(97,t54),(98,(AI 0))],h51,(y52 ++ (y49 ++ (y44 ++ (y39 ++ (y34 ++ (y29 ++ (y24 ++ (y19 ++ (y16 ++ (y13 ++ (y10 ++ (y7 ++ (y4 ++ x)))))))))))))⟩ (blockN 0 (seqN C gl q9 K)))
theorem E_q03l {C gl q2 q9 v0 h x K} : NW C gl (P_q03l q2 q9) ⟨enter [v0],h,x⟩ K = d_q03l C gl q2 q9 v0 h x K:=by kernel_rfl
theorem e_q03l {C gl v0 h x K} : NW C gl a_q03l.body ⟨enter [v0],h,x⟩ K = d_q03l C gl p_q03l_k2 p_q03l_k9 v0 h x K:=E_q03l
def P_q04a : ACode:=(.seq (rg [mV 6 (cI 0)] [0,1,2])
(.seq (.seq (rg [mV 7 2,
mV 8 1,
bN 9 .lss 7 8] [0,1,2,9])
(.cond 9 (.seq (rg [mV 10 1,
mV 6 10] [6])
.ret)
.skip))
(.seq (rg [mV 11 1,
mV 12 0,
mV 13 2,
mV 14 1,
bN 15 .sub 13 14,
bN 16 .add 15 (cI 1),
cL 17 f_q047 [12,16],
bN 18 .add 11 17,
mV 6 18] [6])
.ret)))
def a_q04a : AFun:=⟨3,[.t 6],P_q04a,false,false⟩
def d_q04a (C : Hd) (gl : GL) (v0 v1 v2 : AV) (h : Heap) (x : Esc) (K : KT) : Prop:=
 pK (oBin .lss v2 v1) fun t1=>
 condB t1 (K .ret ⟨[(6,v1)],h,x⟩)
 (pK (oBin .sub v2 v1) fun t2=>
 pK (oBin .add t2 (AI 1)) fun t3=>
 C f_q047 [v0,t3] h fun t4 h5 y6=>
 pK (oBin .add v1 t4) fun t7=>
 K .ret ⟨[(6,t7)],h5,(y6 ++ x)⟩)
theorem e_q04a {C gl v0 v1 v2 h x K} : NW C gl a_q04a.body ⟨enter [v0,v1,v2],h,x⟩ K = d_q04a C gl v0 v1 v2 h x K:=by kernel_rfl
def p_q03q_k1 : ACode:=.pr [5,6,7] (.seq (rg [bN 8 .lss 7 6] [5,6,7,8])
(.seq (.cond 8 .skip
(.exit 0))
(.seq (.block 1 (.seq (rg [iA 9 none 5 7,
lD 10 none 9,
mV 4 10] [4,5,6,7])
(.seq (rg [mV 11 4,
bN 12 .neq 11 (cI 0)] [4,5,6,7,12])
(.cond 12 (.seq (rg [mV 13 4,
mV 2 13] [2])
.ret)
.skip))))
(rg [bN 14 .add 7 (cI 1),
mV 7 14] [5,6,7]))))
def d_q03q_k1 (C : Hd) (gl : GL) (v5 v6 v7 : AV) (h : Heap) (x : Esc) (K : KT) : Prop:=
 pK (oBin .lss v7 v6) fun t1=>
 condB t1 (pK (oIaddr none v5 v7 h) fun t2=>
 pK (oLoad none t2 h) fun t3=>
 pK (oBin .neq t3 (AI 0)) fun t4=>
 condB t4 (K .ret ⟨[(2,t3)],h,x⟩)
 (pK (oBin .add v7 (AI 1)) fun t5=>
 K .normal ⟨[(5,v5),(6,v6),(7,t5)],h,x⟩))
 (K (.exit 0) ⟨[(5,v5),(6,v6),(7,v7),(8,t1)],h,x⟩)
theorem e_q03q_k1 {C gl e h x K} : NW C gl p_q03q_k1 ⟨e,h,x⟩ K = d_q03q_k1 C gl (aget e 5) (aget e 6) (aget e 7) h x K:=by kernel_rfl
theorem l_q03q_k1 {C gl e h x K} : NW C gl (.loop p_q03q_k1) ⟨e,h,x⟩ K = NLoop C gl p_q03q_k1 K [(5,aget e 5),(6,aget e 6),(7,aget e 7)] h x:=NLoop_pr
def p_q03q_k2 : ACode:=.pr [] (.seq (rg [mV 2 (cI 0)] [2])
.ret)
def d_q03q_k2 (C : Hd) (gl : GL) (h : Heap) (x : Esc) (K : KT) : Prop:=
 K .ret ⟨[(2,(AI 0))],h,x⟩
theorem e_q03q_k2 {C gl e h x K} : NW C gl p_q03q_k2 ⟨e,h,x⟩ K = d_q03q_k2 C gl h x K:=by kernel_rfl
def P_q03q (q1 q2 : ACode) : ACode:=(.seq (rg [mV 2 (cI 0)] [0])
(.seq (.seq (rg [mV 5 0,
lN 6 5,
mV 7 (cI 0)] [5,6,7])
(.block 0 (.loop q1)))
q2))
def a_q03q : AFun:=⟨1,[.t 2],P_q03q p_q03q_k1 p_q03q_k2,false,false⟩
def d_q03q (C : Hd) (gl : GL) (q1 q2 : ACode) (v0 : AV) (h : Heap) (x : Esc) (K : KT) : Prop:=
 pK (oLen v0) fun t1=>
 NW C gl (.loop q1) ⟨[(5,v0),(6,t1),(7,(AI 0))],h,x⟩ (blockN 0 (seqN C gl q2 K))
theorem E_q03q {C gl q1 q2 v0 h x K} : NW C gl (P_q03q q1 q2) ⟨enter [v0],h,x⟩ K = d_q03q C gl q1 q2 v0 h x K:=by kernel_rfl
theorem e_q03q {C gl v0 h x K} : NW C gl a_q03q.body ⟨enter [v0],h,x⟩ K = d_q03q C gl p_q03q_k1 p_q03q_k2 v0 h x K:=E_q03q
def p_q04e_k1 : ACode:=.pr [0,4] (.seq (rg [bN 5 .lss 4 (cI 6)] [0,4,5])
(.seq (.cond 5 .skip
(.exit 0))
(.seq (.block 1 (.seq (rg [mV 6 0,
cL 7 f_q046 [6],
mV 3 7] [0,3,4])
(.seq (rg [mV 8 3,
cL 9 f_q04q [8],
bN 10 .eql 9 (cI 0)] [0,3,4,10])
(.cond 10 (.seq (rg [mV 11 3,
mV 2 11] [2])
.ret)
.skip))))
(rg [bN 12 .add 4 (cI 1),
mV 4 12] [0,4]))))
def d_q04e_k1 (C : Hd) (gl : GL) (v0 v4 : AV) (h : Heap) (x : Esc) (K : KT) : Prop:=
 pK (oBin .lss v4 (AI 6)) fun t1=>
 condB t1 (C f_q046 [v0] h fun t2 h3 y4=>
 C f_q04q [t2] h3 fun t5 h6 y7=>
 pK (oBin .eql t5 (AI 0)) fun t8=>
 condB t8 (K .ret ⟨[(2,t2)],h6,(y7 ++ (y4 ++ x))⟩)
 (pK (oBin .add v4 (AI 1)) fun t9=>
 K .normal ⟨[(0,v0),(4,t9)],h6,(y7 ++ (y4 ++ x))⟩))
 (K (.exit 0) ⟨[(0,v0),(4,v4),(5,t1)],h,x⟩)
theorem e_q04e_k1 {C gl e h x K} : NW C gl p_q04e_k1 ⟨e,h,x⟩ K = d_q04e_k1 C gl (aget e 0) (aget e 4) h x K:=by kernel_rfl
theorem l_q04e_k1 {C gl e h x K} : NW C gl (.loop p_q04e_k1) ⟨e,h,x⟩ K = NLoop C gl p_q04e_k1 K [(0,aget e 0),(4,aget e 4)] h x:=NLoop_pr
def p_q04e_k2 : ACode:=.pr [] (.seq (rg [uO 13 (.build [.p (.str []),.p (.int .i64 0),.p (.int .i64 0),.p (.int .i64 0)] [(0,1,(cS [118,111,108,116])),(2,1,(cI 10)),(3,1,(cI 5))]),
uO 14 (.bsl false (some 4) 1 (.agg [.str [],.int .i64 0,.int .i64 0,.int .i64 0]) [(0,13)]),
mV 2 14] [2])
.ret)
def d_q04e_k2 (C : Hd) (gl : GL) (h : Heap) (x : Esc) (K : KT) : Prop:=
 pK (oBuild [.p (.str []),.p (.int .i64 0),.p (.int .i64 0),.p (.int .i64 0)] [(0,1,(.p (.str [118,111,108,116]))),(2,1,(AI 10)),(3,1,(AI 5))]) fun t1=>
 wK (oBsl false (some 4) 1 (.agg [.str [],.int .i64 0,.int .i64 0,.int .i64 0]) [(0,t1)] h) fun t2 h3 y4=>
 K .ret ⟨[(2,t2)],h3,(y4 ++ x)⟩
theorem e_q04e_k2 {C gl e h x K} : NW C gl p_q04e_k2 ⟨e,h,x⟩ K = d_q04e_k2 C gl h x K:=by kernel_rfl
def P_q04e (q1 q2 : ACode) : ACode:=(.seq (rg [mV 2 (.c (.p (.sl (some 4) [])))] [0])
(.seq (.seq (rg [mV 4 (cI 0)] [0,4])
(.block 0 (.loop q1)))
q2))
def a_q04e : AFun:=⟨1,[.t 2],P_q04e p_q04e_k1 p_q04e_k2,false,false⟩
def d_q04e (C : Hd) (gl : GL) (q1 q2 : ACode) (v0 : AV) (h : Heap) (x : Esc) (K : KT) : Prop:=
 NW C gl (.loop q1) ⟨[(0,v0),(4,(AI 0))],h,x⟩ (blockN 0 (seqN C gl q2 K))
theorem E_q04e {C gl q1 q2 v0 h x K} : NW C gl (P_q04e q1 q2) ⟨enter [v0],h,x⟩ K = d_q04e C gl q1 q2 v0 h x K:=by kernel_rfl
theorem e_q04e {C gl v0 h x K} : NW C gl a_q04e.body ⟨enter [v0],h,x⟩ K = d_q04e C gl p_q04e_k1 p_q04e_k2 v0 h x K:=E_q04e
def p_q04f_k1 : ACode:=.pr [0,1,2,8] (.seq (rg [bN 9 .lss 8 (cI 6)] [0,1,2,8,9])
(.seq (.cond 9 .skip
(.exit 0))
(.seq (.block 1 (.seq (rg [mV 10 0,
mV 11 1,
mV 12 2,
cL 13 f_q04b [10,11,12],
mV 7 13] [0,1,2,7,8])
(.seq (rg [mV 14 1,
mV 15 7,
cL 16 f_q04t [14,15],
bN 17 .eql 16 (cI 0)] [0,1,2,7,8,17])
(.cond 17 (.seq (rg [mV 18 7,
mV 6 18] [6])
.ret)
.skip))))
(rg [bN 19 .add 8 (cI 1),
mV 8 19] [0,1,2,8]))))
def d_q04f_k1 (C : Hd) (gl : GL) (v0 v1 v2 v8 : AV) (h : Heap) (x : Esc) (K : KT) : Prop:=
 pK (oBin .lss v8 (AI 6)) fun t1=>
 condB t1 (C f_q04b [v0,v1,v2] h fun t2 h3 y4=>
 C f_q04t [v1,t2] h3 fun t5 h6 y7=>
 pK (oBin .eql t5 (AI 0)) fun t8=>
 condB t8 (K .ret ⟨[(6,t2)],h6,(y7 ++ (y4 ++ x))⟩)
 (pK (oBin .add v8 (AI 1)) fun t9=>
 K .normal ⟨[(0,v0),(1,v1),(2,v2),(8,t9)],h6,(y7 ++ (y4 ++ x))⟩))
 (K (.exit 0) ⟨[(0,v0),(1,v1),(2,v2),(8,v8),(9,t1)],h,x⟩)
theorem e_q04f_k1 {C gl e h x K} : NW C gl p_q04f_k1 ⟨e,h,x⟩ K = d_q04f_k1 C gl (aget e 0) (aget e 1) (aget e 2) (aget e 8) h x K:=by kernel_rfl
theorem l_q04f_k1 {C gl e h x K} : NW C gl (.loop p_q04f_k1) ⟨e,h,x⟩ K = NLoop C gl p_q04f_k1 K [(0,aget e 0),(1,aget e 1),(2,aget e 2),(8,aget e 8)] h x:=NLoop_pr
def p_q04f_k2 : ACode:=.pr [] (.seq (rg [mV 6 (.c (.p (.sl (some 4) [])))] [6])
.ret)
def d_q04f_k2 (C : Hd) (gl : GL) (h : Heap) (x : Esc) (K : KT) : Prop:=
 K .ret ⟨[(6,(.p (.sl (some 4) [])))],h,x⟩
theorem e_q04f_k2 {C gl e h x K} : NW C gl p_q04f_k2 ⟨e,h,x⟩ K = d_q04f_k2 C gl h x K:=by kernel_rfl
def P_q04f (q1 q2 : ACode) : ACode:=(.seq (rg [mV 6 (.c (.p (.sl (some 4) [])))] [0,1,2])
(.seq (.seq (rg [mV 8 (cI 0)] [0,1,2,8])
(.block 0 (.loop q1)))
q2))
def a_q04f : AFun:=⟨3,[.t 6],P_q04f p_q04f_k1 p_q04f_k2,false,false⟩
def d_q04f (C : Hd) (gl : GL) (q1 q2 : ACode) (v0 v1 v2 : AV) (h : Heap) (x : Esc) (K : KT) : Prop:=
 NW C gl (.loop q1) ⟨[(0,v0),(1,v1),(2,v2),(8,(AI 0))],h,x⟩ (blockN 0 (seqN C gl q2 K))
theorem E_q04f {C gl q1 q2 v0 v1 v2 h x K} : NW C gl (P_q04f q1 q2) ⟨enter [v0,v1,v2],h,x⟩ K = d_q04f C gl q1 q2 v0 v1 v2 h x K:=by kernel_rfl
theorem e_q04f {C gl v0 v1 v2 h x K} : NW C gl a_q04f.body ⟨enter [v0,v1,v2],h,x⟩ K = d_q04f C gl p_q04f_k1 p_q04f_k2 v0 v1 v2 h x K:=E_q04f
def p_q025_k1 : ACode:=.pr [0,9,22,23,24] (.seq (rg [bN 25 .lss 24 23] [0,9,22,23,24,25])
(.seq (.cond 25 .skip
(.exit 0))
(.seq (.block 1 (.seq (rg [iA 26 (some 4) 22 24,
lD 27 (some 4) 26,
uO 11 (.alloc [.p (.str []),.p (.int .i64 0),.p (.str []),.sl0 none]),
wO (.store (some 4) 11 27)] [0,9,11,22,23,24])
(dr [dF (mV 28 9) [9],
dF (fA 29 0 none 11) [11],
dF (lD 30 none 29) [29],
dF (mV 31 0) [0],
dF (lD 32 (some 4) 11) [11],
dA (cL 33 f_q02i [31,32]) [31,32] true [] [2],
dT (cL 34 f_q02x [30,33]) [30,33],
dF (uO 35 (.bsl false (some 2) 1 (.agg [.str [],.str []]) [(0,34)])) [34],
dT (uO 36 (.app (some 2) 28 35)) [28,35],
dF (mV 9 36) [36]] [0,9,22,23,24])))
(rg [bN 37 .add 24 (cI 1),
mV 24 37] [0,9,22,23,24]))))
def d_q025_k1 (C : Hd) (gl : GL) (v0 v9 v22 v23 v24 : AV) (h : Heap) (x : Esc) (K : KT) : Prop:=
 pK (oBin .lss v24 v23) fun t1=>
 condB t1 (pK (oIaddr (some 4) v22 v24 h) fun t2=>
 pK (oLoad (some 4) t2 h) fun t3=>
 alK [.p (.str []),.p (.int .i64 0),.p (.str []),.sl0 none] h fun t4 h5 y6=>
 wK (oStore (some 4) t4 t3 h5) fun t7 h8 y9=>
 pK (oFaddr 0 none t4) fun t10=>
 pK (oLoad none t10 h8) fun t11=>
 pK (oLoad (some 4) t4 h8) fun t12=>
 callE C f_q02i [v0,t12] h8 fun t13 h14 y15=>
 (pK (oLoad none t10 h14) fun v=>(fun u (g1 : Heap) (y1 : Esc)=>u = t11 ∧ g1 = h14 ∧ y1 = []) v h14 []) ∧ (callE C f_q02x [t11,t13] h14 fun t16 h17 y18=>
 wK (oBsl false (some 2) 1 (.agg [.str [],.str []]) [(0,t16)] h17) fun t19 h20 y21=>
 (h20 = h17 ∧ y21 = []) ∧ (wK (oApp (some 2) v9 t19 h20) fun t22 h23 y24=>
 pK (oBin .add v24 (AI 1)) fun t25=>
 K .normal ⟨[(0,v0),(9,t22),(22,v22),(23,v23),(24,t25)],h23,(y24 ++ (y21 ++ (y18 ++ (y15 ++ (y9 ++ (y6 ++ x))))))⟩)))
 (K (.exit 0) ⟨[(0,v0),(9,v9),(22,v22),(23,v23),(24,v24),(25,t1)],h,x⟩)
theorem e_q025_k1 {C gl e h x K} : NW C gl p_q025_k1 ⟨e,h,x⟩ K = d_q025_k1 C gl (aget e 0) (aget e 9) (aget e 22) (aget e 23) (aget e 24) h x K:=by kernel_rfl
theorem l_q025_k1 {C gl e h x K} : NW C gl (.loop (.scope p_q025_k1)) ⟨e,h,x⟩ K = NLoop C gl (.scope p_q025_k1) K [(0,aget e 0),(9,aget e 9),(22,aget e 22),(23,aget e 23),(24,aget e 24)] h x:=NLoop_sc
def p_q025_k2 : ACode:=.pr [9] (.seq (rg [mV 38 9,
mV 6 38,
mV 7 (cI 0)] [6,7])
.ret)
def d_q025_k2 (C : Hd) (gl : GL) (v9 : AV) (h : Heap) (x : Esc) (K : KT) : Prop:=
 K .ret ⟨[(6,v9),(7,(AI 0))],h,x⟩
theorem e_q025_k2 {C gl e h x K} : NW C gl p_q025_k2 ⟨e,h,x⟩ K = d_q025_k2 C gl (aget e 9) h x K:=by kernel_rfl
def P_q025 (q1 q2 : ACode) : ACode:=(.seq (rg [mV 6 (.c (.p (.sl (some 2) []))),
mV 7 (cI 0)] [0,1,2])
(.seq (.seq (rg [mV 12 0,
mV 13 1,
mV 14 2,
cL 15 f_q031 [12,13,14],
mV 8 15] [0,1,2,8])
(.seq (rg [mV 16 8,
bN 17 .neq 16 (cI 0)] [0,1,2,8,17])
(.cond 17 (.seq (rg [mV 18 8,
mV 6 (.c (.p (.sl (some 2) []))),
mV 7 18] [6,7])
.ret)
.skip)))
(.seq (rg [uO 9 (.new0 (some 2))] [0,1,2,9])
(.seq (.seq (rg [mV 19 0,
mV 20 1,
mV 21 2,
cL 22 f_q02q [19,20,21],
lN 23 22,
mV 24 (cI 0)] [0,9,22,23,24])
(.block 0 (.loop (.scope q1))))
q2))))
def a_q025 : AFun:=⟨3,[.t 6,.t 7],P_q025 p_q025_k1 p_q025_k2,false,false⟩
def d_q025 (C : Hd) (gl : GL) (q1 q2 : ACode) (v0 v1 v2 : AV) (h : Heap) (x : Esc) (K : KT) : Prop:=
 C f_q031 [v0,v1,v2] h fun t1 h2 y3=>
 pK (oBin .neq t1 (AI 0)) fun t4=>
 condB t4 (K .ret ⟨[(6,(.p (.sl (some 2) []))),(7,t1)],h2,(y3 ++ x)⟩)
 (nwK (some 2) h2 fun t5 h6 y7=>
 C f_q02q [v0,v1,v2] h6 fun t8 h9 y10=>
 pK (oLen t8) fun t11=>
 NW C gl (.loop (.scope q1)) ⟨[(0,v0),(9,t5),(22,t8),(23,t11),(24,(AI 0))],h9,(y10 ++ (y7 ++ (y3 ++ x)))⟩ (blockN 0 (seqN C gl q2 K)))
theorem E_q025 {C gl q1 q2 v0 v1 v2 h x K} : NW C gl (P_q025 q1 q2) ⟨enter [v0,v1,v2],h,x⟩ K = d_q025 C gl q1 q2 v0 v1 v2 h x K:=by kernel_rfl
theorem e_q025 {C gl v0 v1 v2 h x K} : NW C gl a_q025.body ⟨enter [v0,v1,v2],h,x⟩ K = d_q025 C gl p_q025_k1 p_q025_k2 v0 v1 v2 h x K:=E_q025
def p_q028_k1 : ACode:=.pr [0,9,32,33,34] (rg [bN 49 .add 34 (cI 1),
mV 34 49] [0,9,32,33,34])
def d_q028_k1 (C : Hd) (gl : GL) (v0 v9 v32 v33 v34 : AV) (h : Heap) (x : Esc) (K : KT) : Prop:=
 pK (oBin .add v34 (AI 1)) fun t1=>
 K .normal ⟨[(0,v0),(9,v9),(32,v32),(33,v33),(34,t1)],h,x⟩
theorem e_q028_k1 {C gl e h x K} : NW C gl p_q028_k1 ⟨e,h,x⟩ K = d_q028_k1 C gl (aget e 0) (aget e 9) (aget e 32) (aget e 33) (aget e 34) h x K:=by kernel_rfl
def P_q028_k2 (q1 : ACode) : ACode:=.pr [0,9,32,33,34] (.seq (rg [bN 35 .lss 34 33] [0,9,32,33,34,35])
(.seq (.cond 35 .skip
(.exit 0))
(.seq (.block 1 (.seq (rg [iA 36 (some 4) 32 34,
lD 37 (some 4) 36,
uO 11 (.alloc [.p (.str []),.p (.int .i64 0),.p (.str []),.sl0 none]),
wO (.store (some 4) 11 37)] [0,9,11,32,33,34])
(.seq (rg [mV 38 0,
lD 39 (some 4) 11,
cL 40 f_q02p [38,39],
mV 12 40] [0,9,12,32,33,34])
(.seq (rg [mV 41 12,
bN 42 .geq 41 (cI 0)] [0,9,12,32,33,34,42])
(.cond 42 (rg [lD 43 none 9,
mV 44 12,
iA 45 none 43 44,
lD 46 none 45,
bN 47 .add 46 (cI 1),
iA 48 none 43 44,
wO (.store none 48 47)] [0,9,32,33,34])
.skip)))))
q1)))
def p_q028_k2 : ACode:=P_q028_k2 p_q028_k1
def d_q028_k2 (C : Hd) (gl : GL) (q1 : ACode) (v0 v9 v32 v33 v34 : AV) (h : Heap) (x : Esc) (K : KT) : Prop:=
 pK (oBin .lss v34 v33) fun t1=>
 condB t1 (pK (oIaddr (some 4) v32 v34 h) fun t2=>
 pK (oLoad (some 4) t2 h) fun t3=>
 alK [.p (.str []),.p (.int .i64 0),.p (.str []),.sl0 none] h fun t4 h5 y6=>
 wK (oStore (some 4) t4 t3 h5) fun t7 h8 y9=>
 pK (oLoad (some 4) t4 h8) fun t10=>
 C f_q02p [v0,t10] h8 fun t11 h12 y13=>
 pK (oBin .geq t11 (AI 0)) fun t14=>
 condB t14 (pK (oLoad none v9 h12) fun t15=>
 pK (oIaddr none t15 t11 h12) fun t16=>
 pK (oLoad none t16 h12) fun t17=>
 pK (oBin .add t17 (AI 1)) fun t18=>
 pK (oIaddr none t15 t11 h12) fun t19=>
 wK (oStore none t19 t18 h12) fun t20 h21 y22=>
 NW C gl q1 ⟨[(0,v0),(9,v9),(32,v32),(33,v33),(34,v34)],h21,(y22 ++ (y13 ++ (y9 ++ (y6 ++ x))))⟩ K)
 (NW C gl q1 ⟨[(0,v0),(9,v9),(12,t11),(32,v32),(33,v33),(34,v34),(42,t14)],h12,(y13 ++ (y9 ++ (y6 ++ x)))⟩ K))
 (K (.exit 0) ⟨[(0,v0),(9,v9),(32,v32),(33,v33),(34,v34),(35,t1)],h,x⟩)
theorem E_q028_k2 {C gl q1 e h x K} : NW C gl (P_q028_k2 q1) ⟨e,h,x⟩ K = d_q028_k2 C gl q1 (aget e 0) (aget e 9) (aget e 32) (aget e 33) (aget e 34) h x K:=by kernel_rfl
theorem e_q028_k2 {C gl e h x K} : NW C gl p_q028_k2 ⟨e,h,x⟩ K = d_q028_k2 C gl p_q028_k1 (aget e 0) (aget e 9) (aget e 32) (aget e 33) (aget e 34) h x K:=E_q028_k2
theorem l_q028_k2 {C gl e h x K} : NW C gl (.loop (.scope p_q028_k2)) ⟨e,h,x⟩ K = NLoop C gl (.scope p_q028_k2) K [(0,aget e 0),(9,aget e 9),(32,aget e 32),(33,aget e 33),(34,aget e 34)] h x:=NLoop_sc
def p_q028_k3 : ACode:=.pr [0,9,13,50,51,52] (rg [bN 63 .add 52 (cI 1),
mV 52 63] [0,9,13,50,51,52])
def d_q028_k3 (C : Hd) (gl : GL) (v0 v9 v13 v50 v51 v52 : AV) (h : Heap) (x : Esc) (K : KT) : Prop:=
 pK (oBin .add v52 (AI 1)) fun t1=>
 K .normal ⟨[(0,v0),(9,v9),(13,v13),(50,v50),(51,v51),(52,t1)],h,x⟩
theorem e_q028_k3 {C gl e h x K} : NW C gl p_q028_k3 ⟨e,h,x⟩ K = d_q028_k3 C gl (aget e 0) (aget e 9) (aget e 13) (aget e 50) (aget e 51) (aget e 52) h x K:=by kernel_rfl
def P_q028_k4 (q3 : ACode) : ACode:=.pr [0,9,13,50,51,52] (.seq (rg [bN 53 .lss 52 51] [0,9,13,50,51,52,53])
(.seq (.cond 53 .skip
(.exit 2))
(.seq (.block 3 (.seq (rg [mV 54 52,
iA 55 none 50 52,
lD 56 none 55,
mV 14 54,
mV 15 56] [0,9,13,14,15,50,51,52])
(.seq (rg [mV 57 15,
bN 58 .gtr 57 (cI 0)] [0,9,13,14,50,51,52,58])
(.cond 58 (rg [mV 59 13,
mV 60 14,
uO 61 (.bsl false none 1 (.int .i64 0) [(0,60)]),
uO 62 (.app none 59 61),
mV 13 62] [0,9,13,50,51,52])
.skip))))
q3)))
def p_q028_k4 : ACode:=P_q028_k4 p_q028_k3
def d_q028_k4 (C : Hd) (gl : GL) (q3 : ACode) (v0 v9 v13 v50 v51 v52 : AV) (h : Heap) (x : Esc) (K : KT) : Prop:=
 pK (oBin .lss v52 v51) fun t1=>
 condB t1 (pK (oIaddr none v50 v52 h) fun t2=>
 pK (oLoad none t2 h) fun t3=>
 pK (oBin .gtr t3 (AI 0)) fun t4=>
 condB t4 (wK (oBsl false none 1 (.int .i64 0) [(0,v52)] h) fun t5 h6 y7=>
 wK (oApp none v13 t5 h6) fun t8 h9 y10=>
 NW C gl q3 ⟨[(0,v0),(9,v9),(13,t8),(50,v50),(51,v51),(52,v52)],h9,(y10 ++ (y7 ++ x))⟩ K)
 (NW C gl q3 ⟨[(0,v0),(9,v9),(13,v13),(14,v52),(50,v50),(51,v51),(52,v52),(58,t4)],h,x⟩ K))
 (K (.exit 2) ⟨[(0,v0),(9,v9),(13,v13),(50,v50),(51,v51),(52,v52),(53,t1)],h,x⟩)
theorem E_q028_k4 {C gl q3 e h x K} : NW C gl (P_q028_k4 q3) ⟨e,h,x⟩ K = d_q028_k4 C gl q3 (aget e 0) (aget e 9) (aget e 13) (aget e 50) (aget e 51) (aget e 52) h x K:=by kernel_rfl
theorem e_q028_k4 {C gl e h x K} : NW C gl p_q028_k4 ⟨e,h,x⟩ K = d_q028_k4 C gl p_q028_k3 (aget e 0) (aget e 9) (aget e 13) (aget e 50) (aget e 51) (aget e 52) h x K:=E_q028_k4
theorem l_q028_k4 {C gl e h x K} : NW C gl (.loop (.scope p_q028_k4)) ⟨e,h,x⟩ K = NLoop C gl (.scope p_q028_k4) K [(0,aget e 0),(9,aget e 9),(13,aget e 13),(50,aget e 50),(51,aget e 51),(52,aget e 52)] h x:=NLoop_sc
def p_q028_k5 : ACode:=.pr [0,9,16,67,68,69] (.seq (rg [bN 70 .lss 69 68] [0,9,16,67,68,69,70])
(.seq (.cond 70 .skip
(.exit 4))
(.seq (.block 5 (.seq (rg [iA 71 none 67 69,
lD 72 none 71,
mV 18 72] [0,9,16,18,67,68,69])
(dr [dF (mV 73 16) [16],
dF (mV 74 0) [0],
dF (mV 75 18) [18],
dF (iA 76 (some 4) 74 75) [74,75],
dF (fA 77 0 none 76) [76],
dF (lD 78 none 77) [77],
dF (lD 79 none 9) [9],
dF (mV 80 18) [18],
dF (iA 81 none 79 80) [79,80],
dF (lD 82 none 81) [81],
dT (cL 83 f_q02x [78,82]) [78,82],
dF (uO 84 (.bsl false (some 2) 1 (.agg [.str [],.str []]) [(0,83)])) [83],
dT (uO 85 (.app (some 2) 73 84)) [73,84],
dF (mV 16 85) [85]] [0,9,16,67,68,69])))
(rg [bN 86 .add 69 (cI 1),
mV 69 86] [0,9,16,67,68,69]))))
def d_q028_k5 (C : Hd) (gl : GL) (v0 v9 v16 v67 v68 v69 : AV) (h : Heap) (x : Esc) (K : KT) : Prop:=
 pK (oBin .lss v69 v68) fun t1=>
 condB t1 (pK (oIaddr none v67 v69 h) fun t2=>
 pK (oLoad none t2 h) fun t3=>
 pK (oIaddr (some 4) v0 t3 h) fun t4=>
 pK (oFaddr 0 none t4) fun t5=>
 pK (oLoad none t5 h) fun t6=>
 pK (oLoad none v9 h) fun t7=>
 pK (oIaddr none t7 t3 h) fun t8=>
 pK (oLoad none t8 h) fun t9=>
 callE C f_q02x [t6,t9] h fun t10 h11 y12=>
 wK (oBsl false (some 2) 1 (.agg [.str [],.str []]) [(0,t10)] h11) fun t13 h14 y15=>
 (h14 = h11 ∧ y15 = []) ∧ (wK (oApp (some 2) v16 t13 h14) fun t16 h17 y18=>
 pK (oBin .add v69 (AI 1)) fun t19=>
 K .normal ⟨[(0,v0),(9,v9),(16,t16),(67,v67),(68,v68),(69,t19)],h17,(y18 ++ (y15 ++ (y12 ++ x)))⟩))
 (K (.exit 4) ⟨[(0,v0),(9,v9),(16,v16),(67,v67),(68,v68),(69,v69),(70,t1)],h,x⟩)
theorem e_q028_k5 {C gl e h x K} : NW C gl p_q028_k5 ⟨e,h,x⟩ K = d_q028_k5 C gl (aget e 0) (aget e 9) (aget e 16) (aget e 67) (aget e 68) (aget e 69) h x K:=by kernel_rfl
theorem l_q028_k5 {C gl e h x K} : NW C gl (.loop (.scope p_q028_k5)) ⟨e,h,x⟩ K = NLoop C gl (.scope p_q028_k5) K [(0,aget e 0),(9,aget e 9),(16,aget e 16),(67,aget e 67),(68,aget e 68),(69,aget e 69)] h x:=NLoop_sc
def p_q028_k6 : ACode:=.pr [16] (.seq (rg [mV 87 16,
mV 6 87,
mV 7 (cI 0)] [6,7])
.ret)
def d_q028_k6 (C : Hd) (gl : GL) (v16 : AV) (h : Heap) (x : Esc) (K : KT) : Prop:=
 K .ret ⟨[(6,v16),(7,(AI 0))],h,x⟩
theorem e_q028_k6 {C gl e h x K} : NW C gl p_q028_k6 ⟨e,h,x⟩ K = d_q028_k6 C gl (aget e 16) h x K:=by kernel_rfl
def P_q028_k7 (q5 q6 : ACode) : ACode:=.pr [0,9,13] (.seq (rg [mV 64 13,
uO 65 (.mkfn f_q029 [9]),
cL 66 f_q06i [64,65]] [0,9,13])
(.seq (rg [uO 16 (.new0 (some 2))] [0,9,13,16])
(.seq (.seq (rg [mV 67 13,
lN 68 67,
mV 69 (cI 0)] [0,9,16,67,68,69])
(.block 4 (.loop (.scope q5))))
q6)))
def p_q028_k7 : ACode:=P_q028_k7 p_q028_k5 p_q028_k6
def d_q028_k7 (C : Hd) (gl : GL) (q5 q6 : ACode) (v0 v9 v13 : AV) (h : Heap) (x : Esc) (K : KT) : Prop:=
 C f_q06i [v13,(.fn f_q029 [v9])] h fun t1 h2 y3=>
 nwK (some 2) h2 fun t4 h5 y6=>
 pK (oLen v13) fun t7=>
 NW C gl (.loop (.scope q5)) ⟨[(0,v0),(9,v9),(16,t4),(67,v13),(68,t7),(69,(AI 0))],h5,(y6 ++ (y3 ++ x))⟩ (blockN 4 (seqN C gl q6 K))
theorem E_q028_k7 {C gl q5 q6 e h x K} : NW C gl (P_q028_k7 q5 q6) ⟨e,h,x⟩ K = d_q028_k7 C gl q5 q6 (aget e 0) (aget e 9) (aget e 13) h x K:=by kernel_rfl
theorem e_q028_k7 {C gl e h x K} : NW C gl p_q028_k7 ⟨e,h,x⟩ K = d_q028_k7 C gl p_q028_k5 p_q028_k6 (aget e 0) (aget e 9) (aget e 13) h x K:=E_q028_k7
def P_q028_k8 (q4 q7 : ACode) : ACode:=.pr [0,9] (.seq (rg [uO 13 (.new0 none)] [0,9,13])
(.seq (.seq (rg [lD 50 none 9,
lN 51 50,
mV 52 (cI 0)] [0,9,13,50,51,52])
(.block 2 (.loop (.scope q4))))
q7))
def p_q028_k8 : ACode:=P_q028_k8 p_q028_k4 p_q028_k7
def d_q028_k8 (C : Hd) (gl : GL) (q4 q7 : ACode) (v0 v9 : AV) (h : Heap) (x : Esc) (K : KT) : Prop:=
 nwK none h fun t1 h2 y3=>
 pK (oLoad none v9 h2) fun t4=>
 pK (oLen t4) fun t5=>
 NW C gl (.loop (.scope q4)) ⟨[(0,v0),(9,v9),(13,t1),(50,t4),(51,t5),(52,(AI 0))],h2,(y3 ++ x)⟩ (blockN 2 (seqN C gl q7 K))
theorem E_q028_k8 {C gl q4 q7 e h x K} : NW C gl (P_q028_k8 q4 q7) ⟨e,h,x⟩ K = d_q028_k8 C gl q4 q7 (aget e 0) (aget e 9) h x K:=by kernel_rfl
theorem e_q028_k8 {C gl e h x K} : NW C gl p_q028_k8 ⟨e,h,x⟩ K = d_q028_k8 C gl p_q028_k4 p_q028_k7 (aget e 0) (aget e 9) h x K:=E_q028_k8
def P_q028 (q2 q8 : ACode) : ACode:=(.seq (rg [mV 6 (.c (.p (.sl (some 2) []))),
mV 7 (cI 0)] [0,1,2])
(.seq (.seq (rg [mV 19 0,
mV 20 1,
mV 21 2,
cL 22 f_q031 [19,20,21],
mV 8 22] [0,1,2,8])
(.seq (rg [mV 23 8,
bN 24 .neq 23 (cI 0)] [0,1,2,8,24])
(.cond 24 (.seq (rg [mV 25 8,
mV 6 (.c (.p (.sl (some 2) []))),
mV 7 25] [6,7])
.ret)
.skip)))
(.seq (rg [mV 26 0,
lN 27 26,
uO 28 (.mksl none (.int .i64 0) 27 27),
uO 9 (.alloc [.sl0 none]),
wO (.store none 9 28)] [0,1,2,9])
(.seq (.seq (rg [mV 29 0,
mV 30 1,
mV 31 2,
cL 32 f_q02q [29,30,31],
lN 33 32,
mV 34 (cI 0)] [0,9,32,33,34])
(.block 0 (.loop (.scope q2))))
q8))))
def a_q028 : AFun:=⟨3,[.t 6,.t 7],P_q028 p_q028_k2 p_q028_k8,false,false⟩
def d_q028 (C : Hd) (gl : GL) (q2 q8 : ACode) (v0 v1 v2 : AV) (h : Heap) (x : Esc) (K : KT) : Prop:=
 C f_q031 [v0,v1,v2] h fun t1 h2 y3=>
 pK (oBin .neq t1 (AI 0)) fun t4=>
 condB t4 (K .ret ⟨[(6,(.p (.sl (some 2) []))),(7,t1)],h2,(y3 ++ x)⟩)
 (pK (oLen v0) fun t5=>
 wK (oMksl none (.int .i64 0) t5 t5 h2) fun t6 h7 y8=>
 alK [.sl0 none] h7 fun t9 h10 y11=>
 wK (oStore none t9 t6 h10) fun t12 h13 y14=>
 C f_q02q [v0,v1,v2] h13 fun t15 h16 y17=>
 pK (oLen t15) fun t18=>
 NW C gl (.loop (.scope q2)) ⟨[(0,v0),(9,t9),(32,t15),(33,t18),(34,(AI 0))],h16,(y17 ++ (y14 ++ (y11 ++ (y8 ++ (y3 ++ x)))))⟩ (blockN 0 (seqN C gl q8 K)))
theorem E_q028 {C gl q2 q8 v0 v1 v2 h x K} : NW C gl (P_q028 q2 q8) ⟨enter [v0,v1,v2],h,x⟩ K = d_q028 C gl q2 q8 v0 v1 v2 h x K:=by kernel_rfl
theorem e_q028 {C gl v0 v1 v2 h x K} : NW C gl a_q028.body ⟨enter [v0,v1,v2],h,x⟩ K = d_q028 C gl p_q028_k2 p_q028_k8 v0 v1 v2 h x K:=E_q028
def p_q02a_k1 : ACode:=.pr [0,7,8,10,11,13,24,25,26] (.seq (rg [mV 47 11,
mV 48 47,
gD 49 48 true (.mv 13),
gD 50 48 true (.un .not 49),
uO 51 (.pick 48 50 cF)] [0,7,8,10,24,25,26,51])
(.cond 51 (rg [mV 52 8,
fA 53 0 none 10,
lD 54 none 53,
wO (.mupd (none,[2]) 52 54 cT)] [0,7,8,24,25,26])
.skip))
def d_q02a_k1 (C : Hd) (gl : GL) (v0 v7 v8 v10 v11 v13 v24 v25 v26 : AV) (h : Heap) (x : Esc) (K : KT) : Prop:=
 gM v11 true v13 h fun t1 h2 y3=>
 gP v11 true (oUn .not t1) h2 fun t4 h5 y6=>
 pK (oPick v11 t4 (AB false)) fun t7=>
 condB t7 (pK (oFaddr 0 none v10) fun t8=>
 pK (oLoad none t8 h5) fun t9=>
 wK (oMupd (none,[2]) v8 t9 (AB true) h5) fun t10 h11 y12=>
 K .normal ⟨[(0,v0),(7,v7),(8,v8),(24,v24),(25,v25),(26,v26)],h11,(y12 ++ (y6 ++ (y3 ++ x)))⟩)
 (K .normal ⟨[(0,v0),(7,v7),(8,v8),(10,v10),(24,v24),(25,v25),(26,v26),(51,t7)],h5,(y6 ++ (y3 ++ x))⟩)
theorem e_q02a_k1 {C gl e h x K} : NW C gl p_q02a_k1 ⟨e,h,x⟩ K = d_q02a_k1 C gl (aget e 0) (aget e 7) (aget e 8) (aget e 10) (aget e 11) (aget e 13) (aget e 24) (aget e 25) (aget e 26) h x K:=by kernel_rfl
def p_q02a_k2 : ACode:=.pr [0,7,8,24,25,26] (rg [bN 55 .add 26 (cI 1),
mV 26 55] [0,7,8,24,25,26])
def d_q02a_k2 (C : Hd) (gl : GL) (v0 v7 v8 v24 v25 v26 : AV) (h : Heap) (x : Esc) (K : KT) : Prop:=
 pK (oBin .add v26 (AI 1)) fun t1=>
 K .normal ⟨[(0,v0),(7,v7),(8,v8),(24,v24),(25,v25),(26,t1)],h,x⟩
theorem e_q02a_k2 {C gl e h x K} : NW C gl p_q02a_k2 ⟨e,h,x⟩ K = d_q02a_k2 C gl (aget e 0) (aget e 7) (aget e 8) (aget e 24) (aget e 25) (aget e 26) h x K:=by kernel_rfl
def P_q02a_k3 (q1 q2 : ACode) : ACode:=.pr [0,7,8,24,25,26] (.seq (rg [bN 27 .lss 26 25] [0,7,8,24,25,26,27])
(.seq (.cond 27 .skip
(.exit 0))
(.seq (.block 1 (.seq (rg [iA 28 (some 4) 24 26,
lD 29 (some 4) 28,
uO 10 (.alloc [.p (.str []),.p (.int .i64 0),.p (.str []),.sl0 none]),
wO (.store (some 4) 10 29)] [0,7,8,10,24,25,26])
(.seq (rg [mV 31 7,
fA 32 0 none 10,
lD 33 none 32,
uO 34 (.look (none,[2]) true (AB false) 31 33),
mV 30 34,
eX 35 30 0,
eX 36 30 1,
mV 11 35,
mV 12 36] [0,7,8,10,11,12,24,25,26])
(.seq (rg [mV 37 0,
lD 38 (some 4) 10,
cL 39 f_q02p [37,38],
bN 40 .geq 39 (cI 0),
mV 13 40] [0,7,8,10,11,12,13,24,25,26])
(.seq (.seq (rg [mV 41 12,
uO 42 (.un .not 41)] [0,7,8,10,11,13,24,25,26,42])
(.cond 42 (rg [mV 43 7,
fA 44 0 none 10,
lD 45 none 44,
mV 46 13,
wO (.mupd (none,[2]) 43 45 46)] [0,7,8,10,11,13,24,25,26])
.skip))
q1)))))
q2)))
def p_q02a_k3 : ACode:=P_q02a_k3 p_q02a_k1 p_q02a_k2
def d_q02a_k3 (C : Hd) (gl : GL) (q1 q2 : ACode) (v0 v7 v8 v24 v25 v26 : AV) (h : Heap) (x : Esc) (K : KT) : Prop:=
 pK (oBin .lss v26 v25) fun t1=>
 condB t1 (pK (oIaddr (some 4) v24 v26 h) fun t2=>
 pK (oLoad (some 4) t2 h) fun t3=>
 alK [.p (.str []),.p (.int .i64 0),.p (.str []),.sl0 none] h fun t4 h5 y6=>
 wK (oStore (some 4) t4 t3 h5) fun t7 h8 y9=>
 pK (oFaddr 0 none t4) fun t10=>
 pK (oLoad none t10 h8) fun t11=>
 pK (oLook (none,[2]) true (AB false) v7 t11 h8) fun t12=>
 pK (oExt t12 0) fun t13=>
 pK (oExt t12 1) fun t14=>
 pK (oLoad (some 4) t4 h8) fun t15=>
 C f_q02p [v0,t15] h8 fun t16 h17 y18=>
 pK (oBin .geq t16 (AI 0)) fun t19=>
 pK (oUn .not t14) fun t20=>
 condB t20 (pK (oFaddr 0 none t4) fun t21=>
 pK (oLoad none t21 h17) fun t22=>
 wK (oMupd (none,[2]) v7 t22 t19 h17) fun t23 h24 y25=>
 NW C gl q1 ⟨[(0,v0),(7,v7),(8,v8),(10,t4),(11,t13),(13,t19),(24,v24),(25,v25),(26,v26)],h24,(y25 ++ (y18 ++ (y9 ++ (y6 ++ x))))⟩ (blockN 1 (seqN C gl q2 K)))
 (NW C gl q1 ⟨[(0,v0),(7,v7),(8,v8),(10,t4),(11,t13),(13,t19),(24,v24),(25,v25),(26,v26),(42,t20)],h17,(y18 ++ (y9 ++ (y6 ++ x)))⟩ (blockN 1 (seqN C gl q2 K))))
 (K (.exit 0) ⟨[(0,v0),(7,v7),(8,v8),(24,v24),(25,v25),(26,v26),(27,t1)],h,x⟩)
theorem E_q02a_k3 {C gl q1 q2 e h x K} : NW C gl (P_q02a_k3 q1 q2) ⟨e,h,x⟩ K = d_q02a_k3 C gl q1 q2 (aget e 0) (aget e 7) (aget e 8) (aget e 24) (aget e 25) (aget e 26) h x K:=by kernel_rfl
theorem e_q02a_k3 {C gl e h x K} : NW C gl p_q02a_k3 ⟨e,h,x⟩ K = d_q02a_k3 C gl p_q02a_k1 p_q02a_k2 (aget e 0) (aget e 7) (aget e 8) (aget e 24) (aget e 25) (aget e 26) h x K:=E_q02a_k3
theorem l_q02a_k3 {C gl e h x K} : NW C gl (.loop (.scope p_q02a_k3)) ⟨e,h,x⟩ K = NLoop C gl (.scope p_q02a_k3) K [(0,aget e 0),(7,aget e 7),(8,aget e 8),(24,aget e 24),(25,aget e 25),(26,aget e 26)] h x:=NLoop_sc
def p_q02a_k4 : ACode:=.pr [14,57] (.seq (rg [uO 58 (.mnext none [57]),
eX 59 58 0] [14,57,59])
(.seq (.cond 59 .skip
(.exit 2))
(.block 3 (.seq (rg [uO 60 (.mentry 57),
eX 61 60 0,
mV 15 61] [14,15,57])
(rg [mV 62 14,
mV 63 15,
uO 64 (.bsl false none 1 (.str []) [(0,63)]),
uO 65 (.app none 62 64),
mV 14 65] [14,57])))))
def d_q02a_k4 (C : Hd) (gl : GL) (v14 v57 : AV) (h : Heap) (x : Esc) (K : KT) : Prop:=
 nxK v57 h fun t1 h2 y3=>
 pK (oExt t1 0) fun t4=>
 condB t4 (wK (oMentry v57 h2) fun t5 h6 y7=>
 pK (oExt t5 0) fun t8=>
 wK (oBsl false none 1 (.str []) [(0,t8)] h6) fun t9 h10 y11=>
 wK (oApp none v14 t9 h10) fun t12 h13 y14=>
 K .normal ⟨[(14,t12),(57,v57)],h13,(y14 ++ (y11 ++ (y7 ++ (y3 ++ x))))⟩)
 (K (.exit 2) ⟨[(14,v14),(57,v57),(59,t4)],h2,(y3 ++ x)⟩)
theorem e_q02a_k4 {C gl e h x K} : NW C gl p_q02a_k4 ⟨e,h,x⟩ K = d_q02a_k4 C gl (aget e 14) (aget e 57) h x K:=by kernel_rfl
theorem l_q02a_k4 {C gl e h x K} : NW C gl (.loop (.scope p_q02a_k4)) ⟨e,h,x⟩ K = NLoop C gl (.scope p_q02a_k4) K [(14,aget e 14),(57,aget e 57)] h x:=NLoop_sc
def p_q02a_k5 : ACode:=.pr [14] (.seq (rg [mV 66 14,
cL 67 f_q06k [66]] [14])
(.seq (rg [mV 68 14,
mV 4 68,
mV 5 (cI 0)] [4,5])
.ret))
def d_q02a_k5 (C : Hd) (gl : GL) (v14 : AV) (h : Heap) (x : Esc) (K : KT) : Prop:=
 C f_q06k [v14] h fun t1 h2 y3=>
 K .ret ⟨[(4,v14),(5,(AI 0))],h2,(y3 ++ x)⟩
theorem e_q02a_k5 {C gl e h x K} : NW C gl p_q02a_k5 ⟨e,h,x⟩ K = d_q02a_k5 C gl (aget e 14) h x K:=by kernel_rfl
def P_q02a_k6 (q4 q5 : ACode) : ACode:=.pr [8] (.seq (rg [uO 14 (.new0 none)] [8,14])
(.seq (.seq (rg [mV 56 8,
uO 57 (.mrange 56)] [14,57])
(.block 2 (.loop (.scope q4))))
q5))
def p_q02a_k6 : ACode:=P_q02a_k6 p_q02a_k4 p_q02a_k5
def d_q02a_k6 (C : Hd) (gl : GL) (q4 q5 : ACode) (v8 : AV) (h : Heap) (x : Esc) (K : KT) : Prop:=
 nwK none h fun t1 h2 y3=>
 wK (oMrange v8 h2) fun t4 h5 y6=>
 NW C gl (.loop (.scope q4)) ⟨[(14,t1),(57,t4)],h5,(y6 ++ (y3 ++ x))⟩ (blockN 2 (seqN C gl q5 K))
theorem E_q02a_k6 {C gl q4 q5 e h x K} : NW C gl (P_q02a_k6 q4 q5) ⟨e,h,x⟩ K = d_q02a_k6 C gl q4 q5 (aget e 8) h x K:=by kernel_rfl
theorem e_q02a_k6 {C gl e h x K} : NW C gl p_q02a_k6 ⟨e,h,x⟩ K = d_q02a_k6 C gl p_q02a_k4 p_q02a_k5 (aget e 8) h x K:=E_q02a_k6
def P_q02a (q3 q6 : ACode) : ACode:=(.det (.seq (rg [mV 4 (.c (.p (.sl none []))),
mV 5 (cI 0)] [0,1])
(.seq (.seq (rg [mV 16 0,
mV 17 1,
cL 18 f_q024 [16,17],
mV 6 18] [0,1,6])
(.seq (rg [mV 19 6,
bN 20 .neq 19 (cI 0)] [0,1,6,20])
(.cond 20 (.seq (rg [mV 21 6,
mV 4 (.c (.p (.sl none []))),
mV 5 21] [4,5])
.ret)
.skip)))
(.seq (rg [uO 22 (.mkmap),
uO 23 (.mkmap),
mV 7 22,
mV 8 23] [0,1,7,8])
(.seq (.seq (rg [mV 24 1,
lN 25 24,
mV 26 (cI 0)] [0,7,8,24,25,26])
(.block 0 (.loop (.scope q3))))
q6)))))
def a_q02a : AFun:=⟨2,[.t 4,.t 5],P_q02a p_q02a_k3 p_q02a_k6,false,false⟩
def d_q02a (C : Hd) (gl : GL) (q3 q6 : ACode) (v0 v1 : AV) (h : Heap) (x : Esc) (K : KT) : Prop:=
 C f_q024 [v0,v1] h fun t1 h2 y3=>
 pK (oBin .neq t1 (AI 0)) fun t4=>
 condB t4 (K .ret ⟨[(4,(.p (.sl none []))),(5,t1)],h2,(y3 ++ x)⟩)
 (mmK h2 fun t5 h6 y7=>
 mmK h6 fun t8 h9 y10=>
 pK (oLen v1) fun t11=>
 NW C gl (.loop (.scope q3)) ⟨[(0,v0),(7,t5),(8,t8),(24,v1),(25,t11),(26,(AI 0))],h9,(y10 ++ (y7 ++ (y3 ++ x)))⟩ (blockN 0 (seqN C gl q6 K)))
theorem E_q02a {C gl q3 q6 v0 v1 h x K} : NW C gl (P_q02a q3 q6) ⟨enter [v0,v1],h,x⟩ K = d_q02a C gl q3 q6 v0 v1 h x K:=by kernel_rfl
theorem e_q02a {C gl v0 v1 h x K} : NW C gl a_q02a.body ⟨enter [v0,v1],h,x⟩ K = d_q02a C gl p_q02a_k3 p_q02a_k6 v0 v1 h x K:=E_q02a
def p_q021_k1 : ACode:=.pr [0,7,8,9,11,23,24,25] (.seq (rg [mV 39 8,
fA 40 2 none 11,
lD 41 none 40,
uO 42 (.look (none,[2]) false (AI 0) 39 41),
bN 43 .add 42 (cI 1),
wO (.mupd (none,[2]) 39 41 43)] [0,7,8,9,11,23,24,25])
(.seq (rg [mV 44 0,
lD 45 (some 4) 11,
cL 46 f_q02p [44,45],
bN 47 .lss 46 (cI 0)] [0,7,8,9,11,23,24,25,47])
(.cond 47 (rg [mV 48 7,
fA 49 2 none 11,
lD 50 none 49,
uO 51 (.look (none,[2]) false (AI 0) 48 50),
bN 52 .add 51 (cI 1),
wO (.mupd (none,[2]) 48 50 52)] [0,7,8,9,23,24,25])
.skip)))
def d_q021_k1 (C : Hd) (gl : GL) (v0 v7 v8 v9 v11 v23 v24 v25 : AV) (h : Heap) (x : Esc) (K : KT) : Prop:=
 pK (oFaddr 2 none v11) fun t1=>
 pK (oLoad none t1 h) fun t2=>
 pK (oLook (none,[2]) false (AI 0) v8 t2 h) fun t3=>
 pK (oBin .add t3 (AI 1)) fun t4=>
 wK (oMupd (none,[2]) v8 t2 t4 h) fun t5 h6 y7=>
 pK (oLoad (some 4) v11 h6) fun t8=>
 C f_q02p [v0,t8] h6 fun t9 h10 y11=>
 pK (oBin .lss t9 (AI 0)) fun t12=>
 condB t12 (pK (oFaddr 2 none v11) fun t13=>
 pK (oLoad none t13 h10) fun t14=>
 pK (oLook (none,[2]) false (AI 0) v7 t14 h10) fun t15=>
 pK (oBin .add t15 (AI 1)) fun t16=>
 wK (oMupd (none,[2]) v7 t14 t16 h10) fun t17 h18 y19=>
 K .normal ⟨[(0,v0),(7,v7),(8,v8),(9,v9),(23,v23),(24,v24),(25,v25)],h18,(y19 ++ (y11 ++ (y7 ++ x)))⟩)
 (K .normal ⟨[(0,v0),(7,v7),(8,v8),(9,v9),(11,v11),(23,v23),(24,v24),(25,v25),(47,t12)],h10,(y11 ++ (y7 ++ x))⟩)
theorem e_q021_k1 {C gl e h x K} : NW C gl p_q021_k1 ⟨e,h,x⟩ K = d_q021_k1 C gl (aget e 0) (aget e 7) (aget e 8) (aget e 9) (aget e 11) (aget e 23) (aget e 24) (aget e 25) h x K:=by kernel_rfl
def p_q021_k2 : ACode:=.pr [0,7,8,9,23,24,25] (rg [bN 53 .add 25 (cI 1),
mV 25 53] [0,7,8,9,23,24,25])
def d_q021_k2 (C : Hd) (gl : GL) (v0 v7 v8 v9 v23 v24 v25 : AV) (h : Heap) (x : Esc) (K : KT) : Prop:=
 pK (oBin .add v25 (AI 1)) fun t1=>
 K .normal ⟨[(0,v0),(7,v7),(8,v8),(9,v9),(23,v23),(24,v24),(25,t1)],h,x⟩
theorem e_q021_k2 {C gl e h x K} : NW C gl p_q021_k2 ⟨e,h,x⟩ K = d_q021_k2 C gl (aget e 0) (aget e 7) (aget e 8) (aget e 9) (aget e 23) (aget e 24) (aget e 25) h x K:=by kernel_rfl
def P_q021_k3 (q1 q2 : ACode) : ACode:=.pr [0,7,8,9,23,24,25] (.seq (rg [bN 26 .lss 25 24] [0,7,8,9,23,24,25,26])
(.seq (.cond 26 .skip
(.exit 0))
(.seq (.block 1 (.seq (rg [iA 27 (some 4) 23 25,
lD 28 (some 4) 27,
uO 11 (.alloc [.p (.str []),.p (.int .i64 0),.p (.str []),.sl0 none]),
wO (.store (some 4) 11 28)] [0,7,8,9,11,23,24,25])
(.seq (.seq (rg [mV 29 8,
fA 30 2 none 11,
lD 31 none 30,
uO 32 (.look (none,[2]) false (AI 0) 29 31),
bN 33 .eql 32 (cI 0)] [0,7,8,9,11,23,24,25,33])
(.cond 33 (rg [mV 34 9,
fA 35 2 none 11,
lD 36 none 35,
uO 37 (.bsl false none 1 (.str []) [(0,36)]),
uO 38 (.app none 34 37),
mV 9 38] [0,7,8,9,11,23,24,25])
.skip))
q1)))
q2)))
def p_q021_k3 : ACode:=P_q021_k3 p_q021_k1 p_q021_k2
def d_q021_k3 (C : Hd) (gl : GL) (q1 q2 : ACode) (v0 v7 v8 v9 v23 v24 v25 : AV) (h : Heap) (x : Esc) (K : KT) : Prop:=
 pK (oBin .lss v25 v24) fun t1=>
 condB t1 (pK (oIaddr (some 4) v23 v25 h) fun t2=>
 pK (oLoad (some 4) t2 h) fun t3=>
 alK [.p (.str []),.p (.int .i64 0),.p (.str []),.sl0 none] h fun t4 h5 y6=>
 wK (oStore (some 4) t4 t3 h5) fun t7 h8 y9=>
 pK (oFaddr 2 none t4) fun t10=>
 pK (oLoad none t10 h8) fun t11=>
 pK (oLook (none,[2]) false (AI 0) v8 t11 h8) fun t12=>
 pK (oBin .eql t12 (AI 0)) fun t13=>
 condB t13 (pK (oFaddr 2 none t4) fun t14=>
 pK (oLoad none t14 h8) fun t15=>
 wK (oBsl false none 1 (.str []) [(0,t15)] h8) fun t16 h17 y18=>
 wK (oApp none v9 t16 h17) fun t19 h20 y21=>
 NW C gl q1 ⟨[(0,v0),(7,v7),(8,v8),(9,t19),(11,t4),(23,v23),(24,v24),(25,v25)],h20,(y21 ++ (y18 ++ (y9 ++ (y6 ++ x))))⟩ (blockN 1 (seqN C gl q2 K)))
 (NW C gl q1 ⟨[(0,v0),(7,v7),(8,v8),(9,v9),(11,t4),(23,v23),(24,v24),(25,v25),(33,t13)],h8,(y9 ++ (y6 ++ x))⟩ (blockN 1 (seqN C gl q2 K))))
 (K (.exit 0) ⟨[(0,v0),(7,v7),(8,v8),(9,v9),(23,v23),(24,v24),(25,v25),(26,t1)],h,x⟩)
theorem E_q021_k3 {C gl q1 q2 e h x K} : NW C gl (P_q021_k3 q1 q2) ⟨e,h,x⟩ K = d_q021_k3 C gl q1 q2 (aget e 0) (aget e 7) (aget e 8) (aget e 9) (aget e 23) (aget e 24) (aget e 25) h x K:=by kernel_rfl
theorem e_q021_k3 {C gl e h x K} : NW C gl p_q021_k3 ⟨e,h,x⟩ K = d_q021_k3 C gl p_q021_k1 p_q021_k2 (aget e 0) (aget e 7) (aget e 8) (aget e 9) (aget e 23) (aget e 24) (aget e 25) h x K:=E_q021_k3
theorem l_q021_k3 {C gl e h x K} : NW C gl (.loop (.scope p_q021_k3)) ⟨e,h,x⟩ K = NLoop C gl (.scope p_q021_k3) K [(0,aget e 0),(7,aget e 7),(8,aget e 8),(9,aget e 9),(23,aget e 23),(24,aget e 24),(25,aget e 25)] h x:=NLoop_sc
def p_q021_k4 : ACode:=.pr [7,8,12,56,57,58] (.seq (rg [bN 59 .lss 58 57] [7,8,12,56,57,58,59])
(.seq (.cond 59 .skip
(.exit 2))
(.seq (.block 3 (.seq (rg [iA 60 none 56 58,
lD 61 none 60,
mV 14 61] [7,8,12,14,56,57,58])
(dr [dF (mV 62 12) [12],
dF (mV 63 14) [14],
dF (mV 64 7) [7],
dF (mV 65 14) [14],
dF (uO 66 (.look (none,[2]) false (AI 0) 64 65)) [64,65],
dT (cL 67 f_q08i [66]) [66],
dF (bN 68 .add 67 (cS [47])) [67],
dF (mV 69 8) [8],
dF (mV 70 14) [14],
dA (uO 71 (.look (none,[2]) false (AI 0) 69 70)) [69,70] false [5] [],
dT (cL 72 f_q08i [71]) [71],
dF (bN 73 .add 68 72) [68,72],
dF (uO 74 (.build [.p (.str []),.p (.str [])] [(0,1,63),(1,1,73)])) [63,73],
dF (uO 75 (.bsl false (some 2) 1 (.agg [.str [],.str []]) [(0,74)])) [74],
dT (uO 76 (.app (some 2) 62 75)) [62,75],
dF (mV 12 76) [76]] [7,8,12,56,57,58])))
(rg [bN 77 .add 58 (cI 1),
mV 58 77] [7,8,12,56,57,58]))))
def d_q021_k4 (C : Hd) (gl : GL) (v7 v8 v12 v56 v57 v58 : AV) (h : Heap) (x : Esc) (K : KT) : Prop:=
 pK (oBin .lss v58 v57) fun t1=>
 condB t1 (pK (oIaddr none v56 v58 h) fun t2=>
 pK (oLoad none t2 h) fun t3=>
 pK (oLook (none,[2]) false (AI 0) v7 t3 h) fun t4=>
 callE C f_q08i [t4] h fun t5 h6 y7=>
 pK (oBin .add t5 (.p (.str [47]))) fun t8=>
 pK (oLook (none,[2]) false (AI 0) v8 t3 h6) fun t9=>
 (pK (oLook (none,[2]) false (AI 0) v8 t3 h) fun v=>(fun u (g1 : Heap) (y1 : Esc)=>u = t9 ∧ g1 = h ∧ y1 = []) v h []) ∧ (callE C f_q08i [t9] h6 fun t10 h11 y12=>
 pK (oBin .add t8 t10) fun t13=>
 pK (oBuild [.p (.str []),.p (.str [])] [(0,1,t3),(1,1,t13)]) fun t14=>
 wK (oBsl false (some 2) 1 (.agg [.str [],.str []]) [(0,t14)] h11) fun t15 h16 y17=>
 (h16 = h11 ∧ y17 = []) ∧ (wK (oApp (some 2) v12 t15 h16) fun t18 h19 y20=>
 pK (oBin .add v58 (AI 1)) fun t21=>
 K .normal ⟨[(7,v7),(8,v8),(12,t18),(56,v56),(57,v57),(58,t21)],h19,(y20 ++ (y17 ++ (y12 ++ (y7 ++ x))))⟩)))
 (K (.exit 2) ⟨[(7,v7),(8,v8),(12,v12),(56,v56),(57,v57),(58,v58),(59,t1)],h,x⟩)
theorem e_q021_k4 {C gl e h x K} : NW C gl p_q021_k4 ⟨e,h,x⟩ K = d_q021_k4 C gl (aget e 7) (aget e 8) (aget e 12) (aget e 56) (aget e 57) (aget e 58) h x K:=by kernel_rfl
theorem l_q021_k4 {C gl e h x K} : NW C gl (.loop (.scope p_q021_k4)) ⟨e,h,x⟩ K = NLoop C gl (.scope p_q021_k4) K [(7,aget e 7),(8,aget e 8),(12,aget e 12),(56,aget e 56),(57,aget e 57),(58,aget e 58)] h x:=NLoop_sc
def p_q021_k5 : ACode:=.pr [12] (.seq (rg [mV 78 12,
mV 4 78,
mV 5 (cI 0)] [4,5])
.ret)
def d_q021_k5 (C : Hd) (gl : GL) (v12 : AV) (h : Heap) (x : Esc) (K : KT) : Prop:=
 K .ret ⟨[(4,v12),(5,(AI 0))],h,x⟩
theorem e_q021_k5 {C gl e h x K} : NW C gl p_q021_k5 ⟨e,h,x⟩ K = d_q021_k5 C gl (aget e 12) h x K:=by kernel_rfl
def P_q021_k6 (q4 q5 : ACode) : ACode:=.pr [7,8,9] (.seq (rg [mV 54 9,
cL 55 f_q06k [54]] [7,8,9])
(.seq (rg [uO 12 (.new0 (some 2))] [7,8,9,12])
(.seq (.seq (rg [mV 56 9,
lN 57 56,
mV 58 (cI 0)] [7,8,12,56,57,58])
(.block 2 (.loop (.scope q4))))
q5)))
def p_q021_k6 : ACode:=P_q021_k6 p_q021_k4 p_q021_k5
def d_q021_k6 (C : Hd) (gl : GL) (q4 q5 : ACode) (v7 v8 v9 : AV) (h : Heap) (x : Esc) (K : KT) : Prop:=
 C f_q06k [v9] h fun t1 h2 y3=>
 nwK (some 2) h2 fun t4 h5 y6=>
 pK (oLen v9) fun t7=>
 NW C gl (.loop (.scope q4)) ⟨[(7,v7),(8,v8),(12,t4),(56,v9),(57,t7),(58,(AI 0))],h5,(y6 ++ (y3 ++ x))⟩ (blockN 2 (seqN C gl q5 K))
theorem E_q021_k6 {C gl q4 q5 e h x K} : NW C gl (P_q021_k6 q4 q5) ⟨e,h,x⟩ K = d_q021_k6 C gl q4 q5 (aget e 7) (aget e 8) (aget e 9) h x K:=by kernel_rfl
theorem e_q021_k6 {C gl e h x K} : NW C gl p_q021_k6 ⟨e,h,x⟩ K = d_q021_k6 C gl p_q021_k4 p_q021_k5 (aget e 7) (aget e 8) (aget e 9) h x K:=E_q021_k6
def P_q021 (q3 q6 : ACode) : ACode:=(.seq (rg [mV 4 (.c (.p (.sl (some 2) []))),
mV 5 (cI 0)] [0,1])
(.seq (.seq (rg [mV 15 0,
mV 16 1,
cL 17 f_q024 [15,16],
mV 6 17] [0,1,6])
(.seq (rg [mV 18 6,
bN 19 .neq 18 (cI 0)] [0,1,6,19])
(.cond 19 (.seq (rg [mV 20 6,
mV 4 (.c (.p (.sl (some 2) []))),
mV 5 20] [4,5])
.ret)
.skip)))
(.seq (rg [uO 21 (.mkmap),
uO 22 (.mkmap),
mV 7 21,
mV 8 22] [0,1,7,8])
(.seq (rg [uO 9 (.new0 none)] [0,1,7,8,9])
(.seq (.seq (rg [mV 23 1,
lN 24 23,
mV 25 (cI 0)] [0,7,8,9,23,24,25])
(.block 0 (.loop (.scope q3))))
q6)))))
def a_q021 : AFun:=⟨2,[.t 4,.t 5],P_q021 p_q021_k3 p_q021_k6,false,false⟩
def d_q021 (C : Hd) (gl : GL) (q3 q6 : ACode) (v0 v1 : AV) (h : Heap) (x : Esc) (K : KT) : Prop:=
 C f_q024 [v0,v1] h fun t1 h2 y3=>
 pK (oBin .neq t1 (AI 0)) fun t4=>
 condB t4 (K .ret ⟨[(4,(.p (.sl (some 2) []))),(5,t1)],h2,(y3 ++ x)⟩)
 (mmK h2 fun t5 h6 y7=>
 mmK h6 fun t8 h9 y10=>
 nwK none h9 fun t11 h12 y13=>
 pK (oLen v1) fun t14=>
 NW C gl (.loop (.scope q3)) ⟨[(0,v0),(7,t5),(8,t8),(9,t11),(23,v1),(24,t14),(25,(AI 0))],h12,(y13 ++ (y10 ++ (y7 ++ (y3 ++ x))))⟩ (blockN 0 (seqN C gl q6 K)))
theorem E_q021 {C gl q3 q6 v0 v1 h x K} : NW C gl (P_q021 q3 q6) ⟨enter [v0,v1],h,x⟩ K = d_q021 C gl q3 q6 v0 v1 h x K:=by kernel_rfl
theorem e_q021 {C gl v0 v1 h x K} : NW C gl a_q021.body ⟨enter [v0,v1],h,x⟩ K = d_q021 C gl p_q021_k3 p_q021_k6 v0 v1 h x K:=E_q021
def P_q08w : ACode:=(.seq (rg [mV 4 (cS []),
mV 5 (cS []),
mV 6 cF] [0,1])
(.seq (rg [mV 7 0,
mV 8 1,
cL 9 f_q01w [7,8],
eX 10 9 0,
eX 11 9 1,
eX 12 9 2,
mV 4 10,
mV 5 11,
mV 6 12] [4,5,6])
.ret))
def a_q08w : AFun:=⟨2,[.t 4,.t 5,.t 6],P_q08w,false,false⟩
def d_q08w (C : Hd) (gl : GL) (v0 v1 : AV) (h : Heap) (x : Esc) (K : KT) : Prop:=
 C f_q01w [v0,v1] h fun t1 h2 y3=>
 pK (oExt t1 0) fun t4=>
 pK (oExt t1 1) fun t5=>
 pK (oExt t1 2) fun t6=>
 K .ret ⟨[(4,t4),(5,t5),(6,t6)],h2,(y3 ++ x)⟩
theorem e_q08w {C gl v0 v1 h x K} : NW C gl a_q08w.body ⟨enter [v0,v1],h,x⟩ K = d_q08w C gl v0 v1 h x K:=by kernel_rfl
def P_q05x : ACode:=(.seq (rg [uO 3 (.box 1),
mV 4 cF] [0,3])
(.seq (rg [mV 5 0,
lD 6 (some 2) 3,
cL 7 f_q06b [5,6],
bN 8 .geq 7 (cI 0),
mV 4 8] [4])
.ret))
def a_q05x : AFun:=⟨2,[.t 4],P_q05x,true,false⟩
def d_q05x (C : Hd) (gl : GL) (v0 v1 : AV) (h : Heap) (x : Esc) (K : KT) : Prop:=
 wK (oBox v1 h) fun t1 h2 y3=>
 pK (oLoad (some 2) t1 h2) fun t4=>
 C f_q06b [v0,t4] h2 fun t5 h6 y7=>
 pK (oBin .geq t5 (AI 0)) fun t8=>
 K .ret ⟨[(4,t8)],h6,(y7 ++ (y3 ++ x))⟩
theorem e_q05x {C gl v0 v1 h x K} : NW C gl a_q05x.body ⟨enter [v0,v1],h,x⟩ K = d_q05x C gl v0 v1 h x K:=by kernel_rfl
def P_q047 : ACode:=(.seq (rg [mV 4 (cI 0)] [0,1])
(.seq (rg [mV 7 0,
uO 8 (.nilchk 7),
fA 9 1 none 8,
lD 10 none 9,
bN 11 .add 10 (cI 1),
uO 12 (.nilchk 7),
fA 13 1 none 12,
wO (.store none 13 11)] [0,1])
(.seq (.seq (rg [mV 14 0,
uO 15 (.nilchk 14),
fA 16 0 none 15,
lD 17 none 16,
lN 18 17,
bN 19 .eql 18 (cI 0)] [0,1,19])
(.cond 19 (.seq (rg [mV 20 0,
uO 21 (.nilchk 20),
fA 22 1 none 21,
lD 23 none 22,
bN 24 .mul 23 (cI 7919),
mV 25 1,
cL 26 f_q042 [24,25],
mV 4 26] [4])
.ret)
.skip))
(.seq (dr [dF (mV 27 0) [0],
dF (uO 28 (.nilchk 27)) [27],
dF (fA 29 1 none 28) [28],
dF (lD 30 none 29) [29],
dF (bN 31 .sub 30 (cI 1)) [30],
dF (mV 32 0) [0],
dF (uO 33 (.nilchk 32)) [32],
dF (fA 34 0 none 33) [33],
dF (lD 35 none 34) [34],
dF (lN 36 35) [35],
dF (bN 37 .rem 31 36) [31,36],
dF (mV 5 37) [37]] [0,1,5])
(.seq (dr [dF (mV 38 0) [0],
dF (uO 39 (.nilchk 38)) [38],
dF (fA 40 1 none 39) [39],
dF (lD 41 none 40) [40],
dF (bN 42 .sub 41 (cI 1)) [41],
dF (mV 43 0) [0],
dF (uO 44 (.nilchk 43)) [43],
dF (fA 45 0 none 44) [44],
dF (lD 46 none 45) [45],
dF (lN 47 46) [46],
dF (bN 48 .quo 42 47) [42,47],
dF (mV 6 48) [48]] [0,1,5,6])
(.seq (rg [mV 49 0,
uO 50 (.nilchk 49),
fA 51 0 none 50,
lD 52 none 51,
mV 53 5,
iA 54 none 52 53,
lD 55 none 54,
cL 56 f_q042 [55,(cI 1073741824)],
mV 57 6,
mV 58 5,
bN 59 .add (cI 7919) 58,
bN 60 .mul 57 59,
bN 61 .add 56 60,
mV 62 1,
cL 63 f_q042 [61,62],
mV 4 63] [4])
.ret))))))
def a_q047 : AFun:=⟨2,[.t 4],P_q047,false,false⟩
def d_q047 (C : Hd) (gl : GL) (v0 v1 : AV) (h : Heap) (x : Esc) (K : KT) : Prop:=
 pK (oNil v0) fun t1=>
 pK (oFaddr 1 none t1) fun t2=>
 pK (oLoad none t2 h) fun t3=>
 pK (oBin .add t3 (AI 1)) fun t4=>
 pK (oNil v0) fun t5=>
 pK (oFaddr 1 none t5) fun t6=>
 wK (oStore none t6 t4 h) fun t7 h8 y9=>
 pK (oNil v0) fun t10=>
 pK (oFaddr 0 none t10) fun t11=>
 pK (oLoad none t11 h8) fun t12=>
 pK (oLen t12) fun t13=>
 pK (oBin .eql t13 (AI 0)) fun t14=>
 condB t14 (pK (oNil v0) fun t15=>
 pK (oFaddr 1 none t15) fun t16=>
 pK (oLoad none t16 h8) fun t17=>
 pK (oBin .mul t17 (AI 7919)) fun t18=>
 C f_q042 [t18,v1] h8 fun t19 h20 y21=>
 K .ret ⟨[(4,t19)],h20,(y21 ++ (y9 ++ x))⟩)
 (pK (oNil v0) fun t22=>
 pK (oFaddr 1 none t22) fun t23=>
 pK (oLoad none t23 h8) fun t24=>
 pK (oBin .sub t24 (AI 1)) fun t25=>
 pK (oNil v0) fun t26=>
 pK (oFaddr 0 none t26) fun t27=>
 pK (oLoad none t27 h8) fun t28=>
 pK (oLen t28) fun t29=>
 pK (oBin .rem t25 t29) fun t30=>
 pK (oNil v0) fun t31=>
 pK (oFaddr 1 none t31) fun t32=>
 pK (oLoad none t32 h8) fun t33=>
 pK (oBin .sub t33 (AI 1)) fun t34=>
 pK (oNil v0) fun t35=>
 pK (oFaddr 0 none t35) fun t36=>
 pK (oLoad none t36 h8) fun t37=>
 pK (oLen t37) fun t38=>
 pK (oBin .quo t34 t38) fun t39=>
 pK (oNil v0) fun t40=>
 pK (oFaddr 0 none t40) fun t41=>
 pK (oLoad none t41 h8) fun t42=>
 pK (oIaddr none t42 t30 h8) fun t43=>
 pK (oLoad none t43 h8) fun t44=>
 C f_q042 [t44,(AI 1073741824)] h8 fun t45 h46 y47=>
 pK (oBin .add (AI 7919) t30) fun t48=>
 pK (oBin .mul t39 t48) fun t49=>
 pK (oBin .add t45 t49) fun t50=>
 C f_q042 [t50,v1] h46 fun t51 h52 y53=>
 K .ret ⟨[(4,t51)],h52,(y53 ++ (y47 ++ (y9 ++ x)))⟩)
theorem e_q047 {C gl v0 v1 h x K} : NW C gl a_q047.body ⟨enter [v0,v1],h,x⟩ K = d_q047 C gl v0 v1 h x K:=by kernel_rfl
def p_q046_k1 : ACode:=.pr [3] (.seq (rg [mV 34 3,
mV 2 34] [2])
.ret)
def d_q046_k1 (C : Hd) (gl : GL) (v3 : AV) (h : Heap) (x : Esc) (K : KT) : Prop:=
 K .ret ⟨[(2,v3)],h,x⟩
theorem e_q046_k1 {C gl e h x K} : NW C gl p_q046_k1 ⟨e,h,x⟩ K = d_q046_k1 C gl (aget e 3) h x K:=by kernel_rfl
def P_q046 (q1 : ACode) : ACode:=(.seq (rg [mV 2 (.c (.p (.sl (some 4) [])))] [0])
(.seq (rg [uO 4 (.build [.p (.str []),.p (.int .i64 0),.p (.int .i64 0),.p (.int .i64 0)] [(0,1,(cS [118,111,108,116])),(2,1,(cI 10)),(3,1,(cI 5))]),
mV 5 0,
uO 6 (.bsl false none 3 (.int .i64 0) [(0,(cI 5)),(1,(cI 6)),(2,(cI 2))]),
cL 7 f_q049 [5,6],
uO 8 (.build [.p (.str []),.p (.int .i64 0),.p (.int .i64 0),.p (.int .i64 0)] [(0,1,(cS [97,109,112])),(1,1,(cI (-5))),(2,1,(cI 5)),(3,1,7)]),
uO 9 (.build [.p (.str []),.p (.int .i64 0),.p (.int .i64 0),.p (.int .i64 0)] [(0,1,(cS [104,122])),(1,1,(cI 3)),(2,1,(cI 8)),(3,1,(cI 9))]),
uO 10 (.bsl true (some 4) 3 (.agg [.str [],.int .i64 0,.int .i64 0,.int .i64 0]) [(0,4),(1,8),(2,9)]),
mV 11 0,
cL 12 f_q04a [11,(cI 1),(cI 3)],
uO 13 (.slice (some 4) 10 none (some 12) none),
mV 3 13] [0,3])
(.seq (.seq (rg [mV 14 0,
cL 15 f_q045 [14,(cI 15)]] [0,3,15])
(.cond 15 (rg [mV 16 3,
mV 17 0,
mV 18 3,
lN 19 18,
cL 20 f_q047 [17,19],
mV 21 0,
uO 22 (.bsl false none 3 (.str []) [(0,(cS [118,111,108,116])),(1,(cS [])),(2,(cS [122]))]),
cL 23 f_q04g [21,22],
mV 24 0,
uO 25 (.bsl false none 4 (.int .i64 0) [(0,(cI 0)),(1,(cI (-100000))),(2,(cI (-100001))),(3,(cI 20))]),
cL 26 f_q049 [24,25],
mV 27 0,
uO 28 (.bsl false none 3 (.int .i64 0) [(0,(cI 10)),(1,(cI 100000)),(2,(cI 100001))]),
cL 29 f_q049 [27,28],
mV 30 0,
cL 31 f_q048 [30,(cI 2),(cI 100)],
uO 32 (.build [.p (.str []),.p (.int .i64 0),.p (.int .i64 0),.p (.int .i64 0)] [(0,1,23),(1,1,26),(2,1,29),(3,1,31)]),
iA 33 (some 4) 16 20,
wO (.store (some 4) 33 32)] [3])
.skip))
q1)))
def a_q046 : AFun:=⟨1,[.t 2],P_q046 p_q046_k1,false,false⟩
def d_q046 (C : Hd) (gl : GL) (q1 : ACode) (v0 : AV) (h : Heap) (x : Esc) (K : KT) : Prop:=
 pK (oBuild [.p (.str []),.p (.int .i64 0),.p (.int .i64 0),.p (.int .i64 0)] [(0,1,(.p (.str [118,111,108,116]))),(2,1,(AI 10)),(3,1,(AI 5))]) fun t1=>
 wK (oBsl false none 3 (.int .i64 0) [(0,(AI 5)),(1,(AI 6)),(2,(AI 2))] h) fun t2 h3 y4=>
 C f_q049 [v0,t2] h3 fun t5 h6 y7=>
 pK (oBuild [.p (.str []),.p (.int .i64 0),.p (.int .i64 0),.p (.int .i64 0)] [(0,1,(.p (.str [97,109,112]))),(1,1,(AI (-5))),(2,1,(AI 5)),(3,1,t5)]) fun t8=>
 pK (oBuild [.p (.str []),.p (.int .i64 0),.p (.int .i64 0),.p (.int .i64 0)] [(0,1,(.p (.str [104,122]))),(1,1,(AI 3)),(2,1,(AI 8)),(3,1,(AI 9))]) fun t9=>
 wK (oBsl true (some 4) 3 (.agg [.str [],.int .i64 0,.int .i64 0,.int .i64 0]) [(0,t1),(1,t8),(2,t9)] h6) fun t10 h11 y12=>
 C f_q04a [v0,(AI 1),(AI 3)] h11 fun t13 h14 y15=>
 pK (oSlice (some 4) t10 none (some t13) none h14) fun t16=>
 C f_q045 [v0,(AI 15)] h14 fun t17 h18 y19=>
 condB t17 (pK (oLen t16) fun t20=>
 C f_q047 [v0,t20] h18 fun t21 h22 y23=>
 wK (oBsl false none 3 (.str []) [(0,(.p (.str [118,111,108,116]))),(1,(.p (.str []))),(2,(.p (.str [122])))] h22) fun t24 h25 y26=>
 C f_q04g [v0,t24] h25 fun t27 h28 y29=>
 wK (oBsl false none 4 (.int .i64 0) [(0,(AI 0)),(1,(AI (-100000))),(2,(AI (-100001))),(3,(AI 20))] h28) fun t30 h31 y32=>
 C f_q049 [v0,t30] h31 fun t33 h34 y35=>
 wK (oBsl false none 3 (.int .i64 0) [(0,(AI 10)),(1,(AI 100000)),(2,(AI 100001))] h34) fun t36 h37 y38=>
 C f_q049 [v0,t36] h37 fun t39 h40 y41=>
 C f_q048 [v0,(AI 2),(AI 100)] h40 fun t42 h43 y44=>
 pK (oBuild [.p (.str []),.p (.int .i64 0),.p (.int .i64 0),.p (.int .i64 0)] [(0,1,t27),(1,1,t33),(2,1,t39),(3,1,t42)]) fun t45=>
 pK (oIaddr (some 4) t16 t21 h43) fun t46=>
 wK (oStore (some 4) t46 t45 h43) fun t47 h48 y49=>
 NW C gl q1 ⟨[(3,t16)],h48,(y49 ++ (y44 ++ (y41 ++ (y38 ++ (y35 ++ (y32 ++ (y29 ++ (y26 ++ (y23 ++ (y19 ++ (y15 ++ (y12 ++ (y7 ++ (y4 ++ x))))))))))))))⟩ K)
 (NW C gl q1 ⟨[(0,v0),(3,t16),(15,t17)],h18,(y19 ++ (y15 ++ (y12 ++ (y7 ++ (y4 ++ x)))))⟩ K)
theorem E_q046 {C gl q1 v0 h x K} : NW C gl (P_q046 q1) ⟨enter [v0],h,x⟩ K = d_q046 C gl q1 v0 h x K:=by kernel_rfl
theorem e_q046 {C gl v0 h x K} : NW C gl a_q046.body ⟨enter [v0],h,x⟩ K = d_q046 C gl p_q046_k1 v0 h x K:=E_q046
end Go.Am
end
section
/- The functions asv abstract code,and asv formulas over their values: printed by program out of the translation. -/
set_option linter.unusedVariables false
set_option maxRecDepth 100000
namespace Go.Am
def p_q04q_k1 : ACode:=.pr [0,13,14,15] (.seq (rg [bN 16 .lss 15 14] [0,13,14,15,16])
(.seq (.cond 16 .skip
(.exit 1))
(.seq (.block 2 (.seq (rg [mV 17 15,
iA 18 (some 4) 13 15,
lD 19 (some 4) 18,
uO 4 (.alloc [.p (.str []),.p (.int .i64 0),.p (.int .i64 0),.p (.int .i64 0)]),
mV 3 17,
wO (.store (some 4) 4 19)] [0,3,4,13,14,15])
(.block 3 (.seq (rg [fA 21 0 none 4,
lD 22 none 21,
cL 23 f_q04p [22],
uO 24 (.un .not 23),
mV 20 24] [0,3,4,13,14,15,20])
(.cond 20 (.seq (rg [mV 2 (cI 5)] [2])
.ret)
(.seq (dr [dF (mV 26 0) [0],
dF (mV 27 3) [3],
dF (uO 28 (.slice (some 4) 26 none (some 27) none)) [26,27],
dF (fA 29 0 none 4) [4],
dF (lD 30 none 29) [29],
dT (cL 31 f_q04z [28,30]) [28,30],
dF (bN 32 .geq 31 (cI 0)) [31],
dF (mV 25 32) [32]] [0,4,13,14,15,25])
(.cond 25 (.seq (rg [mV 2 (cI 6)] [2])
.ret)
(.seq (rg [fA 34 1 none 4,
lD 35 none 34,
fA 36 2 none 4,
lD 37 none 36,
cL 38 f_q05a [35,(cI (-100000)),37],
uO 39 (.un .not 38),
mV 40 39,
gD 41 40 false (.faddr 2 none 4),
gD 42 40 false (.load none 41),
gD 43 40 false (.bin .gtr 42 (cI 100000)),
uO 44 (.pick 40 cT 43),
mV 45 44,
gD 46 45 false (.faddr 3 none 4),
gD 47 45 false (.load none 46),
gD 48 45 false (.call f_q05a [47,(cI 2),(cI 100)]),
gD 49 45 false (.un .not 48),
uO 50 (.pick 45 cT 49),
mV 33 50] [0,13,14,15,33])
(.cond 33 (.seq (rg [mV 2 (cI 1)] [2])
.ret)
.skip)))))))))
(rg [bN 51 .add 15 (cI 1),
mV 15 51] [0,13,14,15]))))
def d_q04q_k1 (C : Hd) (gl : GL) (v0 v13 v14 v15 : AV) (h : Heap) (x : Esc) (K : KT) : Prop:=
 pK (oBin .lss v15 v14) fun t1=>
 condB t1 (pK (oIaddr (some 4) v13 v15 h) fun t2=>
 pK (oLoad (some 4) t2 h) fun t3=>
 alK [.p (.str []),.p (.int .i64 0),.p (.int .i64 0),.p (.int .i64 0)] h fun t4 h5 y6=>
 wK (oStore (some 4) t4 t3 h5) fun t7 h8 y9=>
 pK (oFaddr 0 none t4) fun t10=>
 pK (oLoad none t10 h8) fun t11=>
 C f_q04p [t11] h8 fun t12 h13 y14=>
 pK (oUn .not t12) fun t15=>
 condB t15 (K .ret ⟨[(2,(AI 5))],h13,(y14 ++ (y9 ++ (y6 ++ x)))⟩)
 (pK (oSlice (some 4) v0 none (some v15) none h13) fun t16=>
 pK (oFaddr 0 none t4) fun t17=>
 pK (oLoad none t17 h13) fun t18=>
 callE C f_q04z [t16,t18] h13 fun t19 h20 y21=>
 pK (oBin .geq t19 (AI 0)) fun t22=>
 condB t22 (K .ret ⟨[(2,(AI 6))],h20,(y21 ++ (y14 ++ (y9 ++ (y6 ++ x))))⟩)
 (pK (oFaddr 1 none t4) fun t23=>
 pK (oLoad none t23 h20) fun t24=>
 pK (oFaddr 2 none t4) fun t25=>
 pK (oLoad none t25 h20) fun t26=>
 C f_q05a [t24,(AI (-100000)),t26] h20 fun t27 h28 y29=>
 pK (oUn .not t27) fun t30=>
 gP t30 false (oFaddr 2 none t4) h28 fun t31 h32 y33=>
 gP t30 false (oLoad none t31 h32) h32 fun t34 h35 y36=>
 gP t30 false (oBin .gtr t34 (AI 100000)) h35 fun t37 h38 y39=>
 pK (oPick t30 (AB true) t37) fun t40=>
 gP t40 false (oFaddr 3 none t4) h38 fun t41 h42 y43=>
 gP t40 false (oLoad none t41 h42) h42 fun t44 h45 y46=>
 gV t40 false h45 (C f_q05a [t44,(AI 2),(AI 100)] h45) fun t47 h48 y49=>
 gP t40 false (oUn .not t47) h48 fun t50 h51 y52=>
 pK (oPick t40 (AB true) t50) fun t53=>
 condB t53 (K .ret ⟨[(2,(AI 1))],h51,(y52 ++ (y49 ++ (y46 ++ (y43 ++ (y39 ++ (y36 ++ (y33 ++ (y29 ++ (y21 ++ (y14 ++ (y9 ++ (y6 ++ x))))))))))))⟩)
 (pK (oBin .add v15 (AI 1)) fun t54=>
 K .normal ⟨[(0,v0),(13,v13),(14,v14),(15,t54)],h51,(y52 ++ (y49 ++ (y46 ++ (y43 ++ (y39 ++ (y36 ++ (y33 ++ (y29 ++ (y21 ++ (y14 ++ (y9 ++ (y6 ++ x))))))))))))⟩))))
 (K (.exit 1) ⟨[(0,v0),(13,v13),(14,v14),(15,v15),(16,t1)],h,x⟩)
theorem e_q04q_k1 {C gl e h x K} : NW C gl p_q04q_k1 ⟨e,h,x⟩ K = d_q04q_k1 C gl (aget e 0) (aget e 13) (aget e 14) (aget e 15) h x K:=by kernel_rfl
theorem l_q04q_k1 {C gl e h x K} : NW C gl (.loop (.scope p_q04q_k1)) ⟨e,h,x⟩ K = NLoop C gl (.scope p_q04q_k1) K [(0,aget e 0),(13,aget e 13),(14,aget e 14),(15,aget e 15)] h x:=NLoop_sc
def p_q04q_k2 : ACode:=.pr [] (.seq (rg [mV 2 (cI 0)] [2])
.ret)
def d_q04q_k2 (C : Hd) (gl : GL) (h : Heap) (x : Esc) (K : KT) : Prop:=
 K .ret ⟨[(2,(AI 0))],h,x⟩
theorem e_q04q_k2 {C gl e h x K} : NW C gl p_q04q_k2 ⟨e,h,x⟩ K = d_q04q_k2 C gl h x K:=by kernel_rfl
def P_q04q (q1 q2 : ACode) : ACode:=(.seq (rg [mV 2 (cI 0)] [0])
(.seq (.block 0 (.seq (rg [mV 6 0,
lN 7 6,
bN 8 .eql 7 (cI 0),
mV 5 8] [0,5])
(.cond 5 (.seq (rg [mV 2 (cI 8)] [2])
.ret)
(.seq (rg [mV 10 0,
lN 11 10,
bN 12 .gtr 11 (cI 100),
mV 9 12] [0,9])
(.cond 9 (.seq (rg [mV 2 (cI 2)] [2])
.ret)
.skip)))))
(.seq (.seq (rg [mV 13 0,
lN 14 13,
mV 15 (cI 0)] [0,13,14,15])
(.block 1 (.loop (.scope q1))))
q2)))
def a_q04q : AFun:=⟨1,[.t 2],P_q04q p_q04q_k1 p_q04q_k2,false,false⟩
def d_q04q (C : Hd) (gl : GL) (q1 q2 : ACode) (v0 : AV) (h : Heap) (x : Esc) (K : KT) : Prop:=
 pK (oLen v0) fun t1=>
 pK (oBin .eql t1 (AI 0)) fun t2=>
 condB t2 (K .ret ⟨[(2,(AI 8))],h,x⟩)
 (pK (oLen v0) fun t3=>
 pK (oBin .gtr t3 (AI 100)) fun t4=>
 condB t4 (K .ret ⟨[(2,(AI 2))],h,x⟩)
 (pK (oLen v0) fun t5=>
 NW C gl (.loop (.scope q1)) ⟨[(0,v0),(13,v0),(14,t5),(15,(AI 0))],h,x⟩ (blockN 1 (seqN C gl q2 K))))
theorem E_q04q {C gl q1 q2 v0 h x K} : NW C gl (P_q04q q1 q2) ⟨enter [v0],h,x⟩ K = d_q04q C gl q1 q2 v0 h x K:=by kernel_rfl
theorem e_q04q {C gl v0 h x K} : NW C gl a_q04q.body ⟨enter [v0],h,x⟩ K = d_q04q C gl p_q04q_k1 p_q04q_k2 v0 h x K:=E_q04q
def p_q04b_k1 : ACode:=.pr [0,1,7,8,9,11,12,13,14,29,30,31] (.seq (rg [fA 71 3 none 9,
lD 72 none 71,
mV 73 12,
uO 74 (.bsl false none 1 (.int .i64 0) [(0,73)]),
uO 75 (.app none 72 74),
fA 76 3 none 9,
wO (.store none 76 75)] [0,1,7,8,9,11,12,13,14,29,30,31])
(.seq (rg [mV 77 12,
fA 78 1 none 11,
lD 79 none 78,
bN 80 .lss 77 79,
mV 81 80,
gD 82 81 false (.mv 12),
gD 83 81 false (.faddr 2 none 11),
gD 84 81 false (.load none 83),
gD 85 81 false (.bin .gtr 82 84),
uO 86 (.pick 81 cT 85)] [0,1,7,8,9,13,14,29,30,31,86])
(.cond 86 (.exit 2)
.skip)))
def d_q04b_k1 (C : Hd) (gl : GL) (v0 v1 v7 v8 v9 v11 v12 v13 v14 v29 v30 v31 : AV) (h : Heap) (x : Esc) (K : KT) : Prop:=
 pK (oFaddr 3 none v9) fun t1=>
 pK (oLoad none t1 h) fun t2=>
 wK (oBsl false none 1 (.int .i64 0) [(0,v12)] h) fun t3 h4 y5=>
 wK (oApp none t2 t3 h4) fun t6 h7 y8=>
 pK (oFaddr 3 none v9) fun t9=>
 wK (oStore none t9 t6 h7) fun t10 h11 y12=>
 pK (oFaddr 1 none v11) fun t13=>
 pK (oLoad none t13 h11) fun t14=>
 pK (oBin .lss v12 t14) fun t15=>
 gM t15 false v12 h11 fun t16 h17 y18=>
 gP t15 false (oFaddr 2 none v11) h17 fun t19 h20 y21=>
 gP t15 false (oLoad none t19 h20) h20 fun t22 h23 y24=>
 gP t15 false (oBin .gtr t16 t22) h23 fun t25 h26 y27=>
 pK (oPick t15 (AB true) t25) fun t28=>
 condB t28 (K (.exit 2) ⟨[(0,v0),(1,v1),(7,v7),(8,v8),(9,v9),(13,v13),(14,v14),(29,v29),(30,v30),(31,v31),(86,t28)],h26,(y27 ++ (y24 ++ (y21 ++ (y18 ++ (y12 ++ (y8 ++ (y5 ++ x)))))))⟩)
 (K .normal ⟨[(0,v0),(1,v1),(7,v7),(8,v8),(9,v9),(13,v13),(14,v14),(29,v29),(30,v30),(31,v31),(86,t28)],h26,(y27 ++ (y24 ++ (y21 ++ (y18 ++ (y12 ++ (y8 ++ (y5 ++ x)))))))⟩)
theorem e_q04b_k1 {C gl e h x K} : NW C gl p_q04b_k1 ⟨e,h,x⟩ K = d_q04b_k1 C gl (aget e 0) (aget e 1) (aget e 7) (aget e 8) (aget e 9) (aget e 11) (aget e 12) (aget e 13) (aget e 14) (aget e 29) (aget e 30) (aget e 31) h x K:=by kernel_rfl
def p_q04b_k2 : ACode:=.pr [0,1,7,8,9,13,14,29,30,31] (rg [bN 87 .add 31 (cI 1),
mV 31 87] [0,1,7,8,9,13,14,29,30,31])
def d_q04b_k2 (C : Hd) (gl : GL) (v0 v1 v7 v8 v9 v13 v14 v29 v30 v31 : AV) (h : Heap) (x : Esc) (K : KT) : Prop:=
 pK (oBin .add v31 (AI 1)) fun t1=>
 K .normal ⟨[(0,v0),(1,v1),(7,v7),(8,v8),(9,v9),(13,v13),(14,v14),(29,v29),(30,v30),(31,t1)],h,x⟩
theorem e_q04b_k2 {C gl e h x K} : NW C gl p_q04b_k2 ⟨e,h,x⟩ K = d_q04b_k2 C gl (aget e 0) (aget e 1) (aget e 7) (aget e 8) (aget e 9) (aget e 13) (aget e 14) (aget e 29) (aget e 30) (aget e 31) h x K:=by kernel_rfl
def P_q04b_k3 (q1 q2 : ACode) : ACode:=.pr [0,1,7,8,9,13,14,29,30,31] (.seq (rg [bN 32 .lss 31 30] [0,1,7,8,9,13,14,29,30,31,32])
(.seq (.cond 32 .skip
(.exit 2))
(.seq (.block 3 (.seq (rg [iA 33 (some 4) 29 31,
lD 34 (some 4) 33,
uO 11 (.alloc [.p (.str []),.p (.int .i64 0),.p (.int .i64 0),.p (.int .i64 0)]),
wO (.store (some 4) 11 34)] [0,1,7,8,9,11,13,14,29,30,31])
(.seq (rg [mV 35 0,
fA 36 1 none 11,
lD 37 none 36,
fA 38 2 none 11,
lD 39 none 38,
fA 40 1 none 11,
lD 41 none 40,
fA 42 2 none 11,
lD 43 none 42,
bN 44 .add 41 43,
bN 45 .quo 44 (cI 2),
fA 46 1 none 11,
lD 47 none 46,
fA 48 2 none 11,
lD 49 none 48,
bN 50 .add 47 49,
bN 51 .quo 50 (cI 2),
fA 52 1 none 11,
lD 53 none 52,
bN 54 .add 53 (cI 1),
uO 55 (.bsl false none 5 (.int .i64 0) [(0,37),(1,39),(2,45),(3,51),(4,54)]),
cL 56 f_q049 [35,55],
mV 12 56] [0,1,7,8,9,11,12,13,14,29,30,31])
(.seq (.seq (rg [mV 57 0,
cL 58 f_q045 [57,(cI 5)]] [0,1,7,8,9,11,12,13,14,29,30,31,58])
(.cond 58 (rg [mV 59 0,
fA 60 1 none 11,
lD 61 none 60,
bN 62 .sub 61 (cI 1),
fA 63 2 none 11,
lD 64 none 63,
bN 65 .add 64 (cI 1),
fA 66 2 none 11,
lD 67 none 66,
bN 68 .add 67 (cI 7),
uO 69 (.bsl false none 3 (.int .i64 0) [(0,62),(1,65),(2,68)]),
cL 70 f_q049 [59,69],
mV 12 70] [0,1,7,8,9,11,12,13,14,29,30,31])
.skip))
q1))))
q2)))
def p_q04b_k3 : ACode:=P_q04b_k3 p_q04b_k1 p_q04b_k2
def d_q04b_k3 (C : Hd) (gl : GL) (q1 q2 : ACode) (v0 v1 v7 v8 v9 v13 v14 v29 v30 v31 : AV) (h : Heap) (x : Esc) (K : KT) : Prop:=
 pK (oBin .lss v31 v30) fun t1=>
 condB t1 (pK (oIaddr (some 4) v29 v31 h) fun t2=>
 pK (oLoad (some 4) t2 h) fun t3=>
 alK [.p (.str []),.p (.int .i64 0),.p (.int .i64 0),.p (.int .i64 0)] h fun t4 h5 y6=>
 wK (oStore (some 4) t4 t3 h5) fun t7 h8 y9=>
 pK (oFaddr 1 none t4) fun t10=>
 pK (oLoad none t10 h8) fun t11=>
 pK (oFaddr 2 none t4) fun t12=>
 pK (oLoad none t12 h8) fun t13=>
 pK (oFaddr 1 none t4) fun t14=>
 pK (oLoad none t14 h8) fun t15=>
 pK (oFaddr 2 none t4) fun t16=>
 pK (oLoad none t16 h8) fun t17=>
 pK (oBin .add t15 t17) fun t18=>
 pK (oBin .quo t18 (AI 2)) fun t19=>
 pK (oFaddr 1 none t4) fun t20=>
 pK (oLoad none t20 h8) fun t21=>
 pK (oFaddr 2 none t4) fun t22=>
 pK (oLoad none t22 h8) fun t23=>
 pK (oBin .add t21 t23) fun t24=>
 pK (oBin .quo t24 (AI 2)) fun t25=>
 pK (oFaddr 1 none t4) fun t26=>
 pK (oLoad none t26 h8) fun t27=>
 pK (oBin .add t27 (AI 1)) fun t28=>
 wK (oBsl false none 5 (.int .i64 0) [(0,t11),(1,t13),(2,t19),(3,t25),(4,t28)] h8) fun t29 h30 y31=>
 C f_q049 [v0,t29] h30 fun t32 h33 y34=>
 C f_q045 [v0,(AI 5)] h33 fun t35 h36 y37=>
 condB t35 (pK (oFaddr 1 none t4) fun t38=>
 pK (oLoad none t38 h36) fun t39=>
 pK (oBin .sub t39 (AI 1)) fun t40=>
 pK (oFaddr 2 none t4) fun t41=>
 pK (oLoad none t41 h36) fun t42=>
 pK (oBin .add t42 (AI 1)) fun t43=>
 pK (oFaddr 2 none t4) fun t44=>
 pK (oLoad none t44 h36) fun t45=>
 pK (oBin .add t45 (AI 7)) fun t46=>
 wK (oBsl false none 3 (.int .i64 0) [(0,t40),(1,t43),(2,t46)] h36) fun t47 h48 y49=>
 C f_q049 [v0,t47] h48 fun t50 h51 y52=>
 NW C gl q1 ⟨[(0,v0),(1,v1),(7,v7),(8,v8),(9,v9),(11,t4),(12,t50),(13,v13),(14,v14),(29,v29),(30,v30),(31,v31)],h51,(y52 ++ (y49 ++ (y37 ++ (y34 ++ (y31 ++ (y9 ++ (y6 ++ x)))))))⟩ (blockN 3 (seqN C gl q2 K)))
 (NW C gl q1 ⟨[(0,v0),(1,v1),(7,v7),(8,v8),(9,v9),(11,t4),(12,t32),(13,v13),(14,v14),(29,v29),(30,v30),(31,v31),(58,t35)],h36,(y37 ++ (y34 ++ (y31 ++ (y9 ++ (y6 ++ x)))))⟩ (blockN 3 (seqN C gl q2 K))))
 (K (.exit 2) ⟨[(0,v0),(1,v1),(7,v7),(8,v8),(9,v9),(13,v13),(14,v14),(29,v29),(30,v30),(31,v31),(32,t1)],h,x⟩)
theorem E_q04b_k3 {C gl q1 q2 e h x K} : NW C gl (P_q04b_k3 q1 q2) ⟨e,h,x⟩ K = d_q04b_k3 C gl q1 q2 (aget e 0) (aget e 1) (aget e 7) (aget e 8) (aget e 9) (aget e 13) (aget e 14) (aget e 29) (aget e 30) (aget e 31) h x K:=by kernel_rfl
theorem e_q04b_k3 {C gl e h x K} : NW C gl p_q04b_k3 ⟨e,h,x⟩ K = d_q04b_k3 C gl p_q04b_k1 p_q04b_k2 (aget e 0) (aget e 1) (aget e 7) (aget e 8) (aget e 9) (aget e 13) (aget e 14) (aget e 29) (aget e 30) (aget e 31) h x K:=E_q04b_k3
theorem l_q04b_k3 {C gl e h x K} : NW C gl (.loop (.scope p_q04b_k3)) ⟨e,h,x⟩ K = NLoop C gl (.scope p_q04b_k3) K [(0,aget e 0),(1,aget e 1),(7,aget e 7),(8,aget e 8),(9,aget e 9),(13,aget e 13),(14,aget e 14),(29,aget e 29),(30,aget e 30),(31,aget e 31)] h x:=NLoop_sc
def p_q04b_k4 : ACode:=.pr [0,1,7,8,9,13,14] (rg [mV 125 7,
lD 126 (some 4) 9,
uO 127 (.bsl false (some 4) 1 (.agg [.str [],.int .i64 0,.str [],.sl none []]) [(0,126)]),
uO 128 (.app (some 4) 125 127),
mV 7 128] [0,1,7,8,13,14])
def d_q04b_k4 (C : Hd) (gl : GL) (v0 v1 v7 v8 v9 v13 v14 : AV) (h : Heap) (x : Esc) (K : KT) : Prop:=
 pK (oLoad (some 4) v9 h) fun t1=>
 wK (oBsl false (some 4) 1 (.agg [.str [],.int .i64 0,.str [],.sl none []]) [(0,t1)] h) fun t2 h3 y4=>
 wK (oApp (some 4) v7 t2 h3) fun t5 h6 y7=>
 K .normal ⟨[(0,v0),(1,v1),(7,t5),(8,v8),(13,v13),(14,v14)],h6,(y7 ++ (y4 ++ x))⟩
theorem e_q04b_k4 {C gl e h x K} : NW C gl p_q04b_k4 ⟨e,h,x⟩ K = d_q04b_k4 C gl (aget e 0) (aget e 1) (aget e 7) (aget e 8) (aget e 9) (aget e 13) (aget e 14) h x K:=by kernel_rfl
def P_q04b_k5 (q4 : ACode) : ACode:=.pr [0,1,7,8,9,13,14] (.seq (.seq (rg [mV 88 0,
cL 89 f_q045 [88,(cI 60)]] [0,1,7,8,9,13,14,89])
(.cond 89 (.seq (rg [mV 90 0,
cL 91 f_q047 [90,(cI 3)]] [0,1,7,8,9,13,14,91])
(.block 4 (.seq (rg [bN 103 .eql 91 (cI 0),
mV 102 103] [0,1,7,8,9,13,14,91,102])
(.cond 102 (rg [mV 104 0,
uO 105 (.bsl false none 2 (.str []) [(0,(cS [])),(1,(cS [117,49]))]),
cL 106 f_q04g [104,105],
mV 107 0,
uO 108 (.bsl false none 2 (.str []) [(0,(cS [65])),(1,(cS [115,49]))]),
cL 109 f_q04g [107,108],
mV 110 0,
cL 111 f_q048 [110,(cI 0),(cI 50)],
fA 112 0 none 9,
wO (.store none 112 106),
fA 113 2 none 9,
wO (.store none 113 109),
fA 114 1 none 9,
wO (.store none 114 111)] [0,1,7,8,9,13,14])
(.seq (rg [bN 116 .eql 91 (cI 1),
mV 115 116] [0,1,7,8,9,13,14,115])
(.cond 115 (dr [dF (fA 117 3 none 9) [9],
dF (lD 118 none 117) [117],
dF (mV 119 0) [0],
dF (uO 120 (.bsl false none 3 (.int .i64 0) [(0,(cI 0)),(1,(cI 100001)),(2,(cI (-100001)))])) [],
dA (cL 121 f_q049 [119,120]) [119,120] true [] [1],
dF (uO 122 (.bsl false none 1 (.int .i64 0) [(0,121)])) [121],
dT (uO 123 (.app none 118 122)) [118,122],
dF (fA 124 3 none 9) [9],
dT (wO (.store none 124 123)) [124,123]] [0,1,7,8,9,13,14])
(dr [dF (fA 92 3 none 9) [9],
dF (lD 93 none 92) [92],
dF (mV 94 0) [0],
dF (fA 95 3 none 9) [9],
dF (lD 96 none 95) [95],
dF (lN 97 96) [96],
dF (bN 98 .add 97 (cI 1)) [97],
dA (cL 99 f_q047 [94,98]) [94,98] true [] [1],
dF (uO 100 (.slice none 93 none (some 99) none)) [93,99],
dF (fA 101 3 none 9) [9],
dT (wO (.store none 101 100)) [101,100]] [0,1,7,8,9,13,14])))))))
.skip))
q4)
def p_q04b_k5 : ACode:=P_q04b_k5 p_q04b_k4
def d_q04b_k5 (C : Hd) (gl : GL) (q4 : ACode) (v0 v1 v7 v8 v9 v13 v14 : AV) (h : Heap) (x : Esc) (K : KT) : Prop:=
 C f_q045 [v0,(AI 60)] h fun t1 h2 y3=>
 condB t1 (C f_q047 [v0,(AI 3)] h2 fun t4 h5 y6=>
 pK (oBin .eql t4 (AI 0)) fun t7=>
 condB t7 (wK (oBsl false none 2 (.str []) [(0,(.p (.str []))),(1,(.p (.str [117,49])))] h5) fun t8 h9 y10=>
 C f_q04g [v0,t8] h9 fun t11 h12 y13=>
 wK (oBsl false none 2 (.str []) [(0,(.p (.str [65]))),(1,(.p (.str [115,49])))] h12) fun t14 h15 y16=>
 C f_q04g [v0,t14] h15 fun t17 h18 y19=>
 C f_q048 [v0,(AI 0),(AI 50)] h18 fun t20 h21 y22=>
 pK (oFaddr 0 none v9) fun t23=>
 wK (oStore none t23 t11 h21) fun t24 h25 y26=>
 pK (oFaddr 2 none v9) fun t27=>
 wK (oStore none t27 t17 h25) fun t28 h29 y30=>
 pK (oFaddr 1 none v9) fun t31=>
 wK (oStore none t31 t20 h29) fun t32 h33 y34=>
 NW C gl q4 ⟨[(0,v0),(1,v1),(7,v7),(8,v8),(9,v9),(13,v13),(14,v14)],h33,(y34 ++ (y30 ++ (y26 ++ (y22 ++ (y19 ++ (y16 ++ (y13 ++ (y10 ++ (y6 ++ (y3 ++ x))))))))))⟩ K)
 (pK (oBin .eql t4 (AI 1)) fun t35=>
 condB t35 (pK (oFaddr 3 none v9) fun t36=>
 pK (oLoad none t36 h5) fun t37=>
 wK (oBsl false none 3 (.int .i64 0) [(0,(AI 0)),(1,(AI 100001)),(2,(AI (-100001)))] h5) fun t38 h39 y40=>
 (h39 = h5 ∧ y40 = []) ∧ (callE C f_q049 [v0,t38] h39 fun t41 h42 y43=>
 (pK (oLoad none t36 h42) fun v=>(fun u (g1 : Heap) (y1 : Esc)=>u = t37 ∧ g1 = h42 ∧ y1 = []) v h42 []) ∧ (wK (oBsl false none 1 (.int .i64 0) [(0,t41)] h42) fun t44 h45 y46=>
 (h45 = h42 ∧ y46 = []) ∧ (wK (oApp none t37 t44 h45) fun t47 h48 y49=>
 pK (oFaddr 3 none v9) fun t50=>
 wK (oStore none t50 t47 h48) fun t51 h52 y53=>
 NW C gl q4 ⟨[(0,v0),(1,v1),(7,v7),(8,v8),(9,v9),(13,v13),(14,v14)],h52,(y53 ++ (y49 ++ (y46 ++ (y43 ++ (y40 ++ (y6 ++ (y3 ++ x)))))))⟩ K))))
 (pK (oFaddr 3 none v9) fun t54=>
 pK (oLoad none t54 h5) fun t55=>
 pK (oFaddr 3 none v9) fun t56=>
 pK (oLoad none t56 h5) fun t57=>
 pK (oLen t57) fun t58=>
 pK (oBin .add t58 (AI 1)) fun t59=>
 callE C f_q047 [v0,t59] h5 fun t60 h61 y62=>
 (pK (oLoad none t54 h61) fun v=>(fun u (g1 : Heap) (y1 : Esc)=>u = t55 ∧ g1 = h61 ∧ y1 = []) v h61 []) ∧ (pK (oSlice none t55 none (some t60) none h61) fun t63=>
 pK (oFaddr 3 none v9) fun t64=>
 wK (oStore none t64 t63 h61) fun t65 h66 y67=>
 NW C gl q4 ⟨[(0,v0),(1,v1),(7,v7),(8,v8),(9,v9),(13,v13),(14,v14)],h66,(y67 ++ (y62 ++ (y6 ++ (y3 ++ x))))⟩ K))))
 (NW C gl q4 ⟨[(0,v0),(1,v1),(7,v7),(8,v8),(9,v9),(13,v13),(14,v14),(89,t1)],h2,(y3 ++ x)⟩ K)
theorem E_q04b_k5 {C gl q4 e h x K} : NW C gl (P_q04b_k5 q4) ⟨e,h,x⟩ K = d_q04b_k5 C gl q4 (aget e 0) (aget e 1) (aget e 7) (aget e 8) (aget e 9) (aget e 13) (aget e 14) h x K:=by kernel_rfl
theorem e_q04b_k5 {C gl e h x K} : NW C gl p_q04b_k5 ⟨e,h,x⟩ K = d_q04b_k5 C gl p_q04b_k4 (aget e 0) (aget e 1) (aget e 7) (aget e 8) (aget e 9) (aget e 13) (aget e 14) h x K:=E_q04b_k5
def p_q04b_k6 : ACode:=.pr [0,1,7,8,13,14] (rg [bN 129 .add 14 (cI 1),
mV 14 129] [0,1,7,8,13,14])
def d_q04b_k6 (C : Hd) (gl : GL) (v0 v1 v7 v8 v13 v14 : AV) (h : Heap) (x : Esc) (K : KT) : Prop:=
 pK (oBin .add v14 (AI 1)) fun t1=>
 K .normal ⟨[(0,v0),(1,v1),(7,v7),(8,v8),(13,v13),(14,t1)],h,x⟩
theorem e_q04b_k6 {C gl e h x K} : NW C gl p_q04b_k6 ⟨e,h,x⟩ K = d_q04b_k6 C gl (aget e 0) (aget e 1) (aget e 7) (aget e 8) (aget e 13) (aget e 14) h x K:=by kernel_rfl
def P_q04b_k7 (q3 q5 q6 : ACode) : ACode:=.pr [0,1,7,8,13,14] (.seq (rg [bN 15 .lss 14 13] [0,1,7,8,13,14,15])
(.seq (.cond 15 .skip
(.exit 0))
(.seq (.block 1 (.seq (rg [mV 16 8,
mV 17 0,
uO 18 (.bsl false none 4 (.int .i64 0) [(0,(cI 1)),(1,(cI 1)),(2,(cI 5)),(3,(cI 0))]),
cL 19 f_q049 [17,18],
bN 20 .add 16 19,
mV 8 20] [0,1,7,8,13,14])
(.seq (rg [mV 21 0,
uO 22 (.bsl false none 4 (.str []) [(0,(cS [117,49])),(1,(cS [117,50])),(2,(cS [117,51])),(3,(cS [117,52]))]),
cL 23 f_q04g [21,22],
mV 24 8,
mV 25 0,
uO 26 (.bsl false none 3 (.str []) [(0,(cS [115,49])),(1,(cS [115,49])),(2,(cS [115,50]))]),
cL 27 f_q04g [25,26],
uO 28 (.build [.p (.str []),.p (.int .i64 0),.p (.str []),.sl0 none] [(0,1,23),(1,1,24),(2,1,27)]),
uO 9 (.alloc [.p (.str []),.p (.int .i64 0),.p (.str []),.sl0 none]),
wO (.store (some 4) 9 28)] [0,1,7,8,9,13,14])
(.seq (.seq (rg [mV 29 1,
lN 30 29,
mV 31 (cI 0)] [0,1,7,8,9,13,14,29,30,31])
(.block 2 (.loop (.scope q3))))
q5))))
q6)))
def p_q04b_k7 : ACode:=P_q04b_k7 p_q04b_k3 p_q04b_k5 p_q04b_k6
def d_q04b_k7 (C : Hd) (gl : GL) (q3 q5 q6 : ACode) (v0 v1 v7 v8 v13 v14 : AV) (h : Heap) (x : Esc) (K : KT) : Prop:=
 pK (oBin .lss v14 v13) fun t1=>
 condB t1 (wK (oBsl false none 4 (.int .i64 0) [(0,(AI 1)),(1,(AI 1)),(2,(AI 5)),(3,(AI 0))] h) fun t2 h3 y4=>
 C f_q049 [v0,t2] h3 fun t5 h6 y7=>
 pK (oBin .add v8 t5) fun t8=>
 wK (oBsl false none 4 (.str []) [(0,(.p (.str [117,49]))),(1,(.p (.str [117,50]))),(2,(.p (.str [117,51]))),(3,(.p (.str [117,52])))] h6) fun t9 h10 y11=>
 C f_q04g [v0,t9] h10 fun t12 h13 y14=>
 wK (oBsl false none 3 (.str []) [(0,(.p (.str [115,49]))),(1,(.p (.str [115,49]))),(2,(.p (.str [115,50])))] h13) fun t15 h16 y17=>
 C f_q04g [v0,t15] h16 fun t18 h19 y20=>
 pK (oBuild [.p (.str []),.p (.int .i64 0),.p (.str []),.sl0 none] [(0,1,t12),(1,1,t8),(2,1,t18)]) fun t21=>
 alK [.p (.str []),.p (.int .i64 0),.p (.str []),.sl0 none] h19 fun t22 h23 y24=>
 wK (oStore (some 4) t22 t21 h23) fun t25 h26 y27=>
 pK (oLen v1) fun t28=>
 NW C gl (.loop (.scope q3)) ⟨[(0,v0),(1,v1),(7,v7),(8,t8),(9,t22),(13,v13),(14,v14),(29,v1),(30,t28),(31,(AI 0))],h26,(y27 ++ (y24 ++ (y20 ++ (y17 ++ (y14 ++ (y11 ++ (y7 ++ (y4 ++ x))))))))⟩ (blockN 2 (seqN C gl q5 (blockN 1 (seqN C gl q6 K)))))
 (K (.exit 0) ⟨[(0,v0),(1,v1),(7,v7),(8,v8),(13,v13),(14,v14),(15,t1)],h,x⟩)
theorem E_q04b_k7 {C gl q3 q5 q6 e h x K} : NW C gl (P_q04b_k7 q3 q5 q6) ⟨e,h,x⟩ K = d_q04b_k7 C gl q3 q5 q6 (aget e 0) (aget e 1) (aget e 7) (aget e 8) (aget e 13) (aget e 14) h x K:=by kernel_rfl
theorem e_q04b_k7 {C gl e h x K} : NW C gl p_q04b_k7 ⟨e,h,x⟩ K = d_q04b_k7 C gl p_q04b_k3 p_q04b_k5 p_q04b_k6 (aget e 0) (aget e 1) (aget e 7) (aget e 8) (aget e 13) (aget e 14) h x K:=E_q04b_k7
theorem l_q04b_k7 {C gl e h x K} : NW C gl (.loop (.scope p_q04b_k7)) ⟨e,h,x⟩ K = NLoop C gl (.scope p_q04b_k7) K [(0,aget e 0),(1,aget e 1),(7,aget e 7),(8,aget e 8),(13,aget e 13),(14,aget e 14)] h x:=NLoop_sc
def p_q04b_k8 : ACode:=.pr [7] (.seq (rg [mV 130 7,
cL 131 f_q06h [130,(.f f_q04c)]] [7])
(.seq (rg [mV 132 7,
cL 133 f_q05s [132,(.f f_q04d)],
mV 6 133] [6])
.ret))
def d_q04b_k8 (C : Hd) (gl : GL) (v7 : AV) (h : Heap) (x : Esc) (K : KT) : Prop:=
 C f_q06h [v7,(.fn f_q04c [])] h fun t1 h2 y3=>
 C f_q05s [v7,(.fn f_q04d [])] h2 fun t4 h5 y6=>
 K .ret ⟨[(6,t4)],h5,(y6 ++ (y3 ++ x))⟩
theorem e_q04b_k8 {C gl e h x K} : NW C gl p_q04b_k8 ⟨e,h,x⟩ K = d_q04b_k8 C gl (aget e 7) h x K:=by kernel_rfl
def P_q04b (q7 q8 : ACode) : ACode:=(.seq (rg [mV 6 (.c (.p (.sl (some 4) [])))] [0,1,2])
(.seq (rg [uO 7 (.new0 (some 4))] [0,1,2,7])
(.seq (rg [mV 8 (cI 0)] [0,1,2,7,8])
(.seq (.seq (rg [mV 13 2,
mV 14 (cI 0)] [0,1,7,8,13,14])
(.block 0 (.loop (.scope q7))))
q8))))
def a_q04b : AFun:=⟨3,[.t 6],P_q04b p_q04b_k7 p_q04b_k8,false,false⟩
def d_q04b (C : Hd) (gl : GL) (q7 q8 : ACode) (v0 v1 v2 : AV) (h : Heap) (x : Esc) (K : KT) : Prop:=
 nwK (some 4) h fun t1 h2 y3=>
 NW C gl (.loop (.scope q7)) ⟨[(0,v0),(1,v1),(7,t1),(8,(AI 0)),(13,v2),(14,(AI 0))],h2,(y3 ++ x)⟩ (blockN 0 (seqN C gl q8 K))
theorem E_q04b {C gl q7 q8 v0 v1 v2 h x K} : NW C gl (P_q04b q7 q8) ⟨enter [v0,v1,v2],h,x⟩ K = d_q04b C gl q7 q8 v0 v1 v2 h x K:=by kernel_rfl
theorem e_q04b {C gl v0 v1 v2 h x K} : NW C gl a_q04b.body ⟨enter [v0,v1,v2],h,x⟩ K = d_q04b C gl p_q04b_k7 p_q04b_k8 v0 v1 v2 h x K:=E_q04b
def p_q04t_k1 : ACode:=.pr [0,1,17,18,19] (.seq (rg [bN 20 .lss 19 18] [0,1,17,18,19,20])
(.seq (.cond 20 .skip
(.exit 0))
(.seq (.block 1 (.seq (rg [mV 21 19,
iA 22 (some 4) 17 19,
lD 23 (some 4) 22,
uO 7 (.alloc [.p (.str []),.p (.int .i64 0),.p (.str []),.sl0 none]),
mV 6 21,
wO (.store (some 4) 7 23)] [0,1,6,7,17,18,19])
(.seq (.seq (rg [mV 24 0,
lD 25 (some 4) 7,
cL 26 f_q05f [24,25],
mV 8 26] [0,1,6,7,8,17,18,19])
(.seq (rg [mV 27 8,
bN 28 .neq 27 (cI 0)] [0,1,6,7,8,17,18,19,28])
(.cond 28 (.seq (rg [mV 29 8,
mV 4 29] [4])
.ret)
.skip)))
(.seq (dr [dF (mV 30 6) [6],
dF (bN 31 .gtr 30 (cI 0)) [30],
dF (mV 32 31) [31],
dF (gD 33 32 true (.mv 1)) [1,32],
dF (gD 34 32 true (.mv 6)) [6,32],
dF (gD 35 32 true (.bin .sub 34 (cI 1))) [34,32],
dF (gD 36 32 true (.iaddr (some 4) 33 35)) [33,35,32],
dF (gD 37 32 true (.load (some 4) 36)) [36,32],
dF (gD 38 32 true (.load (some 4) 7)) [7,32],
dT (gD 39 32 true (.call f_q05h [37,38])) [37,38,32],
dF (gD 40 32 true (.bin .geq 39 (cI 0))) [39,32],
dF (uO 41 (.pick 32 40 cF)) [32,40]] [0,1,17,18,19,41])
(.cond 41 (.seq (rg [mV 4 (cI 7)] [4])
.ret)
.skip)))))
(rg [bN 42 .add 19 (cI 1),
mV 19 42] [0,1,17,18,19]))))
def d_q04t_k1 (C : Hd) (gl : GL) (v0 v1 v17 v18 v19 : AV) (h : Heap) (x : Esc) (K : KT) : Prop:=
 pK (oBin .lss v19 v18) fun t1=>
 condB t1 (pK (oIaddr (some 4) v17 v19 h) fun t2=>
 pK (oLoad (some 4) t2 h) fun t3=>
 alK [.p (.str []),.p (.int .i64 0),.p (.str []),.sl0 none] h fun t4 h5 y6=>
 wK (oStore (some 4) t4 t3 h5) fun t7 h8 y9=>
 pK (oLoad (some 4) t4 h8) fun t10=>
 C f_q05f [v0,t10] h8 fun t11 h12 y13=>
 pK (oBin .neq t11 (AI 0)) fun t14=>
 condB t14 (K .ret ⟨[(4,t11)],h12,(y13 ++ (y9 ++ (y6 ++ x)))⟩)
 (pK (oBin .gtr v19 (AI 0)) fun t15=>
 gM t15 true v1 h12 fun t16 h17 y18=>
 gM t15 true v19 h17 fun t19 h20 y21=>
 gP t15 true (oBin .sub t19 (AI 1)) h20 fun t22 h23 y24=>
 gP t15 true (oIaddr (some 4) t16 t22 h23) h23 fun t25 h26 y27=>
 gP t15 true (oLoad (some 4) t25 h26) h26 fun t28 h29 y30=>
 gP t15 true (oLoad (some 4) t4 h29) h29 fun t31 h32 y33=>
 gV t15 true h32 (callE C f_q05h [t28,t31] h32) fun t34 h35 y36=>
 gP t15 true (oBin .geq t34 (AI 0)) h35 fun t37 h38 y39=>
 pK (oPick t15 t37 (AB false)) fun t40=>
 condB t40 (K .ret ⟨[(4,(AI 7))],h38,(y39 ++ (y36 ++ (y33 ++ (y30 ++ (y27 ++ (y24 ++ (y21 ++ (y18 ++ (y13 ++ (y9 ++ (y6 ++ x)))))))))))⟩)
 (pK (oBin .add v19 (AI 1)) fun t41=>
 K .normal ⟨[(0,v0),(1,v1),(17,v17),(18,v18),(19,t41)],h38,(y39 ++ (y36 ++ (y33 ++ (y30 ++ (y27 ++ (y24 ++ (y21 ++ (y18 ++ (y13 ++ (y9 ++ (y6 ++ x)))))))))))⟩)))
 (K (.exit 0) ⟨[(0,v0),(1,v1),(17,v17),(18,v18),(19,v19),(20,t1)],h,x⟩)
theorem e_q04t_k1 {C gl e h x K} : NW C gl p_q04t_k1 ⟨e,h,x⟩ K = d_q04t_k1 C gl (aget e 0) (aget e 1) (aget e 17) (aget e 18) (aget e 19) h x K:=by kernel_rfl
theorem l_q04t_k1 {C gl e h x K} : NW C gl (.loop (.scope p_q04t_k1)) ⟨e,h,x⟩ K = NLoop C gl (.scope p_q04t_k1) K [(0,aget e 0),(1,aget e 1),(17,aget e 17),(18,aget e 18),(19,aget e 19)] h x:=NLoop_sc
def p_q04t_k2 : ACode:=.pr [] (.seq (rg [mV 4 (cI 0)] [4])
.ret)
def d_q04t_k2 (C : Hd) (gl : GL) (h : Heap) (x : Esc) (K : KT) : Prop:=
 K .ret ⟨[(4,(AI 0))],h,x⟩
theorem e_q04t_k2 {C gl e h x K} : NW C gl p_q04t_k2 ⟨e,h,x⟩ K = d_q04t_k2 C gl h x K:=by kernel_rfl
def P_q04t (q1 q2 : ACode) : ACode:=(.seq (rg [mV 4 (cI 0)] [0,1])
(.seq (.seq (rg [mV 9 0,
cL 10 f_q04q [9],
mV 5 10] [0,1,5])
(.seq (rg [mV 11 5,
bN 12 .neq 11 (cI 0)] [0,1,5,12])
(.cond 12 (.seq (rg [mV 13 5,
mV 4 13] [4])
.ret)
.skip)))
(.seq (.seq (rg [mV 14 1,
lN 15 14,
bN 16 .gtr 15 (cI 5000)] [0,1,16])
(.cond 16 (.seq (rg [mV 4 (cI 2)] [4])
.ret)
.skip))
(.seq (.seq (rg [mV 17 1,
lN 18 17,
mV 19 (cI 0)] [0,1,17,18,19])
(.block 0 (.loop (.scope q1))))
q2))))
def a_q04t : AFun:=⟨2,[.t 4],P_q04t p_q04t_k1 p_q04t_k2,false,false⟩
def d_q04t (C : Hd) (gl : GL) (q1 q2 : ACode) (v0 v1 : AV) (h : Heap) (x : Esc) (K : KT) : Prop:=
 C f_q04q [v0] h fun t1 h2 y3=>
 pK (oBin .neq t1 (AI 0)) fun t4=>
 condB t4 (K .ret ⟨[(4,t1)],h2,(y3 ++ x)⟩)
 (pK (oLen v1) fun t5=>
 pK (oBin .gtr t5 (AI 5000)) fun t6=>
 condB t6 (K .ret ⟨[(4,(AI 2))],h2,(y3 ++ x)⟩)
 (pK (oLen v1) fun t7=>
 NW C gl (.loop (.scope q1)) ⟨[(0,v0),(1,v1),(17,v1),(18,t7),(19,(AI 0))],h2,(y3 ++ x)⟩ (blockN 0 (seqN C gl q2 K))))
theorem E_q04t {C gl q1 q2 v0 v1 h x K} : NW C gl (P_q04t q1 q2) ⟨enter [v0,v1],h,x⟩ K = d_q04t C gl q1 q2 v0 v1 h x K:=by kernel_rfl
theorem e_q04t {C gl v0 v1 h x K} : NW C gl a_q04t.body ⟨enter [v0,v1],h,x⟩ K = d_q04t C gl p_q04t_k1 p_q04t_k2 v0 v1 h x K:=E_q04t
def P_q024 : ACode:=(.seq (rg [mV 4 (cI 0)] [0,1])
(.seq (.seq (rg [mV 6 0,
cL 7 f_q023 [6],
mV 5 7] [0,1,5])
(.seq (rg [mV 8 5,
bN 9 .neq 8 (cI 0)] [0,1,5,9])
(.cond 9 (.seq (rg [mV 10 5,
mV 4 10] [4])
.ret)
.skip)))
(.seq (rg [mV 11 0,
mV 12 1,
cL 13 f_q030 [11,12],
mV 4 13] [4])
.ret)))
def a_q024 : AFun:=⟨2,[.t 4],P_q024,false,false⟩
def d_q024 (C : Hd) (gl : GL) (v0 v1 : AV) (h : Heap) (x : Esc) (K : KT) : Prop:=
 C f_q023 [v0] h fun t1 h2 y3=>
 pK (oBin .neq t1 (AI 0)) fun t4=>
 condB t4 (K .ret ⟨[(4,t1)],h2,(y3 ++ x)⟩)
 (C f_q030 [v0,v1] h2 fun t5 h6 y7=>
 K .ret ⟨[(4,t5)],h6,(y7 ++ (y3 ++ x))⟩)
theorem e_q024 {C gl v0 v1 h x K} : NW C gl a_q024.body ⟨enter [v0,v1],h,x⟩ K = d_q024 C gl v0 v1 h x K:=by kernel_rfl
def P_q06h : ACode:=(rg [mV 4 0,
mV 5 0,
lN 6 5,
mV 7 1,
cL 8 f_q07s [4,6,7]] [])
def a_q06h : AFun:=⟨2,[],P_q06h,true,false⟩
def d_q06h (C : Hd) (gl : GL) (v0 v1 : AV) (h : Heap) (x : Esc) (K : KT) : Prop:=
 pK (oLen v0) fun t1=>
 C f_q07s [v0,t1,v1] h fun t2 h3 y4=>
 K .normal ⟨[],h3,(y4 ++ x)⟩
theorem e_q06h {C gl v0 v1 h x K} : NW C gl a_q06h.body ⟨enter [v0,v1],h,x⟩ K = d_q06h C gl v0 v1 h x K:=by kernel_rfl
def P_q02j : ACode:=(.seq (rg [uO 2 (.box 0),
uO 3 (.box 1),
mV 4 (cI 0)] [2,3])
(.seq (dr [dF (fA 5 1 none 2) [2],
dF (lD 6 none 5) [5],
dF (fA 7 1 none 3) [3],
dF (lD 8 none 7) [7],
dT (cL 9 f_q00s [6,8]) [6,8],
dF (fA 10 0 none 2) [2],
dA (lD 11 none 10) [10] false [4] [],
dF (fA 12 0 none 3) [3],
dA (lD 13 none 12) [12] false [4] [],
dT (cL 14 f_q08u [11,13]) [11,13],
dF (uO 15 (.bsl false none 2 (.int .i64 0) [(0,9),(1,14)])) [9,14],
dT (cL 16 f_q00v [15]) [15],
dF (mV 4 16) [16]] [4])
.ret))
def a_q02j : AFun:=⟨2,[.t 4],P_q02j,false,false⟩
def d_q02j (C : Hd) (gl : GL) (v0 v1 : AV) (h : Heap) (x : Esc) (K : KT) : Prop:=
 wK (oBox v0 h) fun t1 h2 y3=>
 wK (oBox v1 h2) fun t4 h5 y6=>
 pK (oFaddr 1 none t1) fun t7=>
 pK (oLoad none t7 h5) fun t8=>
 pK (oFaddr 1 none t4) fun t9=>
 pK (oLoad none t9 h5) fun t10=>
 callE C f_q00s [t8,t10] h5 fun t11 h12 y13=>
 pK (oFaddr 0 none t1) fun t14=>
 pK (oLoad none t14 h12) fun t15=>
 (pK (oLoad none t14 h5) fun v=>(fun u (g1 : Heap) (y1 : Esc)=>u = t15 ∧ g1 = h5 ∧ y1 = []) v h5 []) ∧ (pK (oFaddr 0 none t4) fun t16=>
 pK (oLoad none t16 h12) fun t17=>
 (pK (oLoad none t16 h5) fun v=>(fun u (g1 : Heap) (y1 : Esc)=>u = t17 ∧ g1 = h5 ∧ y1 = []) v h5 []) ∧ (callE C f_q08u [t15,t17] h12 fun t18 h19 y20=>
 wK (oBsl false none 2 (.int .i64 0) [(0,t11),(1,t18)] h19) fun t21 h22 y23=>
 (h22 = h19 ∧ y23 = []) ∧ (callE C f_q00v [t21] h22 fun t24 h25 y26=>
 K .ret ⟨[(4,t24)],h25,(y26 ++ (y23 ++ (y20 ++ (y13 ++ (y6 ++ (y3 ++ x))))))⟩)))
theorem e_q02j {C gl v0 v1 h x K} : NW C gl a_q02j.body ⟨enter [v0,v1],h,x⟩ K = d_q02j C gl v0 v1 h x K:=by kernel_rfl
def p_q05s_k1 : ACode:=.pr [0,1,5,6,7] (rg [mV 36 7,
bN 37 .add 36 (cI 1),
mV 7 37] [0,1,5,6,7])
def d_q05s_k1 (C : Hd) (gl : GL) (v0 v1 v5 v6 v7 : AV) (h : Heap) (x : Esc) (K : KT) : Prop:=
 pK (oBin .add v7 (AI 1)) fun t1=>
 K .normal ⟨[(0,v0),(1,v1),(5,v5),(6,v6),(7,t1)],h,x⟩
theorem e_q05s_k1 {C gl e h x K} : NW C gl p_q05s_k1 ⟨e,h,x⟩ K = d_q05s_k1 C gl (aget e 0) (aget e 1) (aget e 5) (aget e 6) (aget e 7) h x K:=by kernel_rfl
def P_q05s_k2 (q1 : ACode) : ACode:=.pr [0,1,5,6,7] (.seq (.seq (rg [mV 32 7,
mV 33 6,
lN 34 33,
bN 35 .lss 32 34] [0,1,5,6,7,35])
(.cond 35 .skip
(.exit 2)))
(.seq (.block 3 (.seq (dr [dF (mV 38 1) [1],
dF (mV 39 6) [6],
dF (mV 40 7) [7],
dF (iA 41 (some 4) 39 40) [39,40],
dF (lD 42 (some 4) 41) [41],
dF (mV 43 6) [6],
dF (mV 44 7) [7],
dF (bN 45 .sub 44 (cI 1)) [44],
dF (iA 46 (some 4) 43 45) [43,45],
dF (lD 47 (some 4) 46) [46],
dT (uO 48 (.callv 38 [42,47])) [38,42,47],
dF (uO 49 (.un .not 48)) [48]] [0,1,5,6,7,49])
(.cond 49 (.seq (rg [mV 50 0,
mV 51 5,
mV 52 6,
mV 53 7,
iA 54 (some 4) 52 53,
lD 55 (some 4) 54,
iA 56 (some 4) 50 51,
wO (.store (some 4) 56 55)] [0,1,5,6,7])
(rg [mV 57 5,
bN 58 .add 57 (cI 1),
mV 5 58] [0,1,5,6,7]))
.skip)))
q1))
def p_q05s_k2 : ACode:=P_q05s_k2 p_q05s_k1
def d_q05s_k2 (C : Hd) (gl : GL) (q1 : ACode) (v0 v1 v5 v6 v7 : AV) (h : Heap) (x : Esc) (K : KT) : Prop:=
 pK (oLen v6) fun t1=>
 pK (oBin .lss v7 t1) fun t2=>
 condB t2 (pK (oIaddr (some 4) v6 v7 h) fun t3=>
 pK (oLoad (some 4) t3 h) fun t4=>
 pK (oBin .sub v7 (AI 1)) fun t5=>
 pK (oIaddr (some 4) v6 t5 h) fun t6=>
 pK (oLoad (some 4) t6 h) fun t7=>
 callvE C v1 [t4,t7] h fun t8 h9 y10=>
 pK (oUn .not t8) fun t11=>
 condB t11 (pK (oIaddr (some 4) v6 v7 h9) fun t12=>
 pK (oLoad (some 4) t12 h9) fun t13=>
 pK (oIaddr (some 4) v0 v5 h9) fun t14=>
 wK (oStore (some 4) t14 t13 h9) fun t15 h16 y17=>
 pK (oBin .add v5 (AI 1)) fun t18=>
 NW C gl q1 ⟨[(0,v0),(1,v1),(5,t18),(6,v6),(7,v7)],h16,(y17 ++ (y10 ++ x))⟩ K)
 (NW C gl q1 ⟨[(0,v0),(1,v1),(5,v5),(6,v6),(7,v7),(49,t11)],h9,(y10 ++ x)⟩ K))
 (K (.exit 2) ⟨[(0,v0),(1,v1),(5,v5),(6,v6),(7,v7),(35,t2)],h,x⟩)
theorem E_q05s_k2 {C gl q1 e h x K} : NW C gl (P_q05s_k2 q1) ⟨e,h,x⟩ K = d_q05s_k2 C gl q1 (aget e 0) (aget e 1) (aget e 5) (aget e 6) (aget e 7) h x K:=by kernel_rfl
theorem e_q05s_k2 {C gl e h x K} : NW C gl p_q05s_k2 ⟨e,h,x⟩ K = d_q05s_k2 C gl p_q05s_k1 (aget e 0) (aget e 1) (aget e 5) (aget e 6) (aget e 7) h x K:=E_q05s_k2
theorem l_q05s_k2 {C gl e h x K} : NW C gl (.loop p_q05s_k2) ⟨e,h,x⟩ K = NLoop C gl p_q05s_k2 K [(0,aget e 0),(1,aget e 1),(5,aget e 5),(6,aget e 6),(7,aget e 7)] h x:=NLoop_pr
def p_q05s_k3 : ACode:=.pr [0,5] (.seq (rg [mV 59 0,
mV 60 5,
uO 61 (.slice (some 4) 59 (some 60) none none),
wO (.clr (some 4) (.agg [.str [],.int .i64 0,.str [],.sl none []]) 61)] [0,5])
(.seq (rg [mV 62 0,
mV 63 5,
uO 64 (.slice (some 4) 62 none (some 63) none),
mV 4 64] [4])
.ret))
def d_q05s_k3 (C : Hd) (gl : GL) (v0 v5 : AV) (h : Heap) (x : Esc) (K : KT) : Prop:=
 pK (oSlice (some 4) v0 (some v5) none none h) fun t1=>
 wK (oClr (some 4) (.agg [.str [],.int .i64 0,.str [],.sl none []]) t1 h) fun t2 h3 y4=>
 pK (oSlice (some 4) v0 none (some v5) none h3) fun t5=>
 K .ret ⟨[(4,t5)],h3,(y4 ++ x)⟩
theorem e_q05s_k3 {C gl e h x K} : NW C gl p_q05s_k3 ⟨e,h,x⟩ K = d_q05s_k3 C gl (aget e 0) (aget e 5) h x K:=by kernel_rfl
def p_q05s_k4 : ACode:=.pr [0,1,5] (rg [mV 16 5,
bN 17 .add 16 (cI 1),
mV 5 17] [0,1,5])
def d_q05s_k4 (C : Hd) (gl : GL) (v0 v1 v5 : AV) (h : Heap) (x : Esc) (K : KT) : Prop:=
 pK (oBin .add v5 (AI 1)) fun t1=>
 K .normal ⟨[(0,v0),(1,v1),(5,t1)],h,x⟩
theorem e_q05s_k4 {C gl e h x K} : NW C gl p_q05s_k4 ⟨e,h,x⟩ K = d_q05s_k4 C gl (aget e 0) (aget e 1) (aget e 5) h x K:=by kernel_rfl
def P_q05s_k5 (q2 q3 q4 : ACode) : ACode:=.pr [0,1,5] (.seq (.seq (rg [mV 12 5,
mV 13 0,
lN 14 13,
bN 15 .lss 12 14] [0,1,5,15])
(.cond 15 .skip
(.exit 0)))
(.seq (.block 1 (.seq (dr [dF (mV 18 1) [1],
dF (mV 19 0) [0],
dF (mV 20 5) [5],
dF (iA 21 (some 4) 19 20) [19,20],
dF (lD 22 (some 4) 21) [21],
dF (mV 23 0) [0],
dF (mV 24 5) [5],
dF (bN 25 .sub 24 (cI 1)) [24],
dF (iA 26 (some 4) 23 25) [23,25],
dF (lD 27 (some 4) 26) [26],
dT (uO 28 (.callv 18 [22,27])) [18,22,27]] [0,1,5,28])
(.cond 28 (.seq (rg [mV 29 0,
mV 30 5,
uO 31 (.slice (some 4) 29 (some 30) none none),
mV 6 31] [0,1,5,6])
(.seq (.seq (rg [mV 7 (cI 1)] [0,1,5,6,7])
(.block 2 (.loop q2)))
q3))
.skip)))
q4))
def p_q05s_k5 : ACode:=P_q05s_k5 p_q05s_k2 p_q05s_k3 p_q05s_k4
def d_q05s_k5 (C : Hd) (gl : GL) (q2 q3 q4 : ACode) (v0 v1 v5 : AV) (h : Heap) (x : Esc) (K : KT) : Prop:=
 pK (oLen v0) fun t1=>
 pK (oBin .lss v5 t1) fun t2=>
 condB t2 (pK (oIaddr (some 4) v0 v5 h) fun t3=>
 pK (oLoad (some 4) t3 h) fun t4=>
 pK (oBin .sub v5 (AI 1)) fun t5=>
 pK (oIaddr (some 4) v0 t5 h) fun t6=>
 pK (oLoad (some 4) t6 h) fun t7=>
 callvE C v1 [t4,t7] h fun t8 h9 y10=>
 condB t8 (pK (oSlice (some 4) v0 (some v5) none none h9) fun t11=>
 NW C gl (.loop q2) ⟨[(0,v0),(1,v1),(5,v5),(6,t11),(7,(AI 1))],h9,(y10 ++ x)⟩ (blockN 2 (seqN C gl q3 (blockN 1 (seqN C gl q4 K)))))
 (NW C gl q4 ⟨[(0,v0),(1,v1),(5,v5),(28,t8)],h9,(y10 ++ x)⟩ K))
 (K (.exit 0) ⟨[(0,v0),(1,v1),(5,v5),(15,t2)],h,x⟩)
theorem E_q05s_k5 {C gl q2 q3 q4 e h x K} : NW C gl (P_q05s_k5 q2 q3 q4) ⟨e,h,x⟩ K = d_q05s_k5 C gl q2 q3 q4 (aget e 0) (aget e 1) (aget e 5) h x K:=by kernel_rfl
theorem e_q05s_k5 {C gl e h x K} : NW C gl p_q05s_k5 ⟨e,h,x⟩ K = d_q05s_k5 C gl p_q05s_k2 p_q05s_k3 p_q05s_k4 (aget e 0) (aget e 1) (aget e 5) h x K:=E_q05s_k5
theorem l_q05s_k5 {C gl e h x K} : NW C gl (.loop p_q05s_k5) ⟨e,h,x⟩ K = NLoop C gl p_q05s_k5 K [(0,aget e 0),(1,aget e 1),(5,aget e 5)] h x:=NLoop_pr
def p_q05s_k6 : ACode:=.pr [0] (.seq (rg [mV 65 0,
mV 4 65] [4])
.ret)
def d_q05s_k6 (C : Hd) (gl : GL) (v0 : AV) (h : Heap) (x : Esc) (K : KT) : Prop:=
 K .ret ⟨[(4,v0)],h,x⟩
theorem e_q05s_k6 {C gl e h x K} : NW C gl p_q05s_k6 ⟨e,h,x⟩ K = d_q05s_k6 C gl (aget e 0) h x K:=by kernel_rfl
def P_q05s (q5 q6 : ACode) : ACode:=(.seq (rg [mV 4 (.c (.p (.sl (some 4) [])))] [0,1])
(.seq (.seq (rg [mV 8 0,
lN 9 8,
bN 10 .lss 9 (cI 2)] [0,1,10])
(.cond 10 (.seq (rg [mV 11 0,
mV 4 11] [4])
.ret)
.skip))
(.seq (.seq (rg [mV 5 (cI 1)] [0,1,5])
(.block 0 (.loop q5)))
q6)))
def a_q05s : AFun:=⟨2,[.t 4],P_q05s p_q05s_k5 p_q05s_k6,true,false⟩
def d_q05s (C : Hd) (gl : GL) (q5 q6 : ACode) (v0 v1 : AV) (h : Heap) (x : Esc) (K : KT) : Prop:=
 pK (oLen v0) fun t1=>
 pK (oBin .lss t1 (AI 2)) fun t2=>
 condB t2 (K .ret ⟨[(4,v0)],h,x⟩)
 (NW C gl (.loop q5) ⟨[(0,v0),(1,v1),(5,(AI 1))],h,x⟩ (blockN 0 (seqN C gl q6 K)))
theorem E_q05s {C gl q5 q6 v0 v1 h x K} : NW C gl (P_q05s q5 q6) ⟨enter [v0,v1],h,x⟩ K = d_q05s C gl q5 q6 v0 v1 h x K:=by kernel_rfl
theorem e_q05s {C gl v0 v1 h x K} : NW C gl a_q05s.body ⟨enter [v0,v1],h,x⟩ K = d_q05s C gl p_q05s_k5 p_q05s_k6 v0 v1 h x K:=E_q05s
def p_q031_k1 : ACode:=.pr [7] (.seq (rg [mV 17 7,
mV 6 17] [6])
.ret)
def d_q031_k1 (C : Hd) (gl : GL) (v7 : AV) (h : Heap) (x : Esc) (K : KT) : Prop:=
 K .ret ⟨[(6,v7)],h,x⟩
theorem e_q031_k1 {C gl e h x K} : NW C gl p_q031_k1 ⟨e,h,x⟩ K = d_q031_k1 C gl (aget e 7) h x K:=by kernel_rfl
def P_q031 (q1 : ACode) : ACode:=(.seq (rg [mV 6 (cI 0)] [0,1,2])
(.seq (rg [mV 8 0,
mV 9 1,
cL 10 f_q024 [8,9],
mV 7 10] [2,7])
(.seq (.seq (rg [mV 11 7,
bN 12 .eql 11 (cI 0),
mV 13 12,
gD 14 13 true (.mv 2),
gD 15 13 true (.call f_q008 [14,(cI 1),(cI 3)]),
uO 16 (.pick 13 15 cF)] [7,16])
(.cond 16 (rg [mV 7 (cI 4)] [7])
.skip))
q1)))
def a_q031 : AFun:=⟨3,[.t 6],P_q031 p_q031_k1,false,false⟩
def d_q031 (C : Hd) (gl : GL) (q1 : ACode) (v0 v1 v2 : AV) (h : Heap) (x : Esc) (K : KT) : Prop:=
 C f_q024 [v0,v1] h fun t1 h2 y3=>
 pK (oBin .eql t1 (AI 0)) fun t4=>
 gM t4 true v2 h2 fun t5 h6 y7=>
 gV t4 true h6 (C f_q008 [t5,(AI 1),(AI 3)] h6) fun t8 h9 y10=>
 pK (oPick t4 t8 (AB false)) fun t11=>
 condB t11 (NW C gl q1 ⟨[(7,(AI 4))],h9,(y10 ++ (y7 ++ (y3 ++ x)))⟩ K)
 (NW C gl q1 ⟨[(7,t1),(16,t11)],h9,(y10 ++ (y7 ++ (y3 ++ x)))⟩ K)
theorem E_q031 {C gl q1 v0 v1 v2 h x K} : NW C gl (P_q031 q1) ⟨enter [v0,v1,v2],h,x⟩ K = d_q031 C gl q1 v0 v1 v2 h x K:=by kernel_rfl
theorem e_q031 {C gl v0 v1 v2 h x K} : NW C gl a_q031.body ⟨enter [v0,v1,v2],h,x⟩ K = d_q031 C gl p_q031_k1 v0 v1 v2 h x K:=E_q031
def p_q02q_k1 : ACode:=.pr [0,2,7,8,14,15,16] (rg [bN 57 .add 16 (cI 1),
mV 16 57] [0,2,7,8,14,15,16])
def d_q02q_k1 (C : Hd) (gl : GL) (v0 v2 v7 v8 v14 v15 v16 : AV) (h : Heap) (x : Esc) (K : KT) : Prop:=
 pK (oBin .add v16 (AI 1)) fun t1=>
 K .normal ⟨[(0,v0),(2,v2),(7,v7),(8,v8),(14,v14),(15,v15),(16,t1)],h,x⟩
theorem e_q02q_k1 {C gl e h x K} : NW C gl p_q02q_k1 ⟨e,h,x⟩ K = d_q02q_k1 C gl (aget e 0) (aget e 2) (aget e 7) (aget e 8) (aget e 14) (aget e 15) (aget e 16) h x K:=by kernel_rfl
def P_q02q_k2 (q1 : ACode) : ACode:=.pr [0,2,7,8,14,15,16] (.seq (rg [bN 17 .lss 16 15] [0,2,7,8,14,15,16,17])
(.seq (.cond 17 .skip
(.exit 0))
(.seq (.block 1 (.seq (rg [iA 18 (some 4) 14 16,
lD 19 (some 4) 18,
uO 10 (.alloc [.p (.str []),.p (.int .i64 0),.p (.str []),.sl0 none]),
wO (.store (some 4) 10 19)] [0,2,7,8,10,14,15,16])
(.seq (rg [mV 21 7,
fA 22 0 none 10,
lD 23 none 22,
uO 24 (.look (none,[2]) true (AI 0) 21 23),
mV 20 24,
eX 25 20 0,
eX 26 20 1,
mV 11 25,
mV 12 26] [0,2,7,8,10,11,12,14,15,16])
(.seq (.seq (rg [mV 27 12,
uO 28 (.un .not 27)] [0,2,7,8,10,11,14,15,16,28])
(.cond 28 (.seq (rg [mV 29 7,
fA 30 0 none 10,
lD 31 none 30,
mV 32 8,
lN 33 32,
wO (.mupd (none,[2]) 29 31 33)] [0,2,7,8,10,14,15,16])
(.seq (rg [mV 34 8,
lD 35 (some 4) 10,
uO 36 (.bsl false (some 4) 1 (.agg [.str [],.int .i64 0,.str [],.sl none []]) [(0,35)]),
uO 37 (.app (some 4) 34 36),
mV 8 37] [0,2,7,8,14,15,16])
(.exit 1)))
.skip))
(.seq (rg [mV 38 2,
bN 39 .eql 38 (cI 2),
mV 40 39,
gD 41 40 false (.mv 2),
gD 42 40 false (.bin .eql 41 (cI 3)),
gD 43 40 false (.mv 42),
gD 44 43 true (.mv 0),
gD 45 43 true (.mv 8),
gD 46 43 true (.mv 11),
gD 47 43 true (.iaddr (some 4) 45 46),
gD 48 43 true (.load (some 4) 47),
gD 49 43 true (.call f_q02p [44,48]),
gD 50 43 true (.bin .geq 49 (cI 0)),
gD 51 40 false (.pick 43 50 cF),
uO 52 (.pick 40 cT 51)] [0,2,7,8,10,11,14,15,16,52])
(.cond 52 (rg [mV 53 8,
mV 54 11,
lD 55 (some 4) 10,
iA 56 (some 4) 53 54,
wO (.store (some 4) 56 55)] [0,2,7,8,14,15,16])
.skip))))))
q1)))
def p_q02q_k2 : ACode:=P_q02q_k2 p_q02q_k1
def d_q02q_k2 (C : Hd) (gl : GL) (q1 : ACode) (v0 v2 v7 v8 v14 v15 v16 : AV) (h : Heap) (x : Esc) (K : KT) : Prop:=
 pK (oBin .lss v16 v15) fun t1=>
 condB t1 (pK (oIaddr (some 4) v14 v16 h) fun t2=>
 pK (oLoad (some 4) t2 h) fun t3=>
 alK [.p (.str []),.p (.int .i64 0),.p (.str []),.sl0 none] h fun t4 h5 y6=>
 wK (oStore (some 4) t4 t3 h5) fun t7 h8 y9=>
 pK (oFaddr 0 none t4) fun t10=>
 pK (oLoad none t10 h8) fun t11=>
 pK (oLook (none,[2]) true (AI 0) v7 t11 h8) fun t12=>
 pK (oExt t12 0) fun t13=>
 pK (oExt t12 1) fun t14=>
 pK (oUn .not t14) fun t15=>
 condB t15 (pK (oFaddr 0 none t4) fun t16=>
 pK (oLoad none t16 h8) fun t17=>
 pK (oLen v8) fun t18=>
 wK (oMupd (none,[2]) v7 t17 t18 h8) fun t19 h20 y21=>
 pK (oLoad (some 4) t4 h20) fun t22=>
 wK (oBsl false (some 4) 1 (.agg [.str [],.int .i64 0,.str [],.sl none []]) [(0,t22)] h20) fun t23 h24 y25=>
 wK (oApp (some 4) v8 t23 h24) fun t26 h27 y28=>
 NW C gl q1 ⟨[(0,v0),(2,v2),(7,v7),(8,t26),(14,v14),(15,v15),(16,v16)],h27,(y28 ++ (y25 ++ (y21 ++ (y9 ++ (y6 ++ x)))))⟩ K)
 (pK (oBin .eql v2 (AI 2)) fun t29=>
 gM t29 false v2 h8 fun t30 h31 y32=>
 gP t29 false (oBin .eql t30 (AI 3)) h31 fun t33 h34 y35=>
 gM t29 false t33 h34 fun t36 h37 y38=>
 gM t36 true v0 h37 fun t39 h40 y41=>
 gM t36 true v8 h40 fun t42 h43 y44=>
 gM t36 true t13 h43 fun t45 h46 y47=>
 gP t36 true (oIaddr (some 4) t42 t45 h46) h46 fun t48 h49 y50=>
 gP t36 true (oLoad (some 4) t48 h49) h49 fun t51 h52 y53=>
 gV t36 true h52 (C f_q02p [t39,t51] h52) fun t54 h55 y56=>
 gP t36 true (oBin .geq t54 (AI 0)) h55 fun t57 h58 y59=>
 gP t29 false (oPick t36 t57 (AB false)) h58 fun t60 h61 y62=>
 pK (oPick t29 (AB true) t60) fun t63=>
 condB t63 (pK (oLoad (some 4) t4 h61) fun t64=>
 pK (oIaddr (some 4) v8 t13 h61) fun t65=>
 wK (oStore (some 4) t65 t64 h61) fun t66 h67 y68=>
 NW C gl q1 ⟨[(0,v0),(2,v2),(7,v7),(8,v8),(14,v14),(15,v15),(16,v16)],h67,(y68 ++ (y62 ++ (y59 ++ (y56 ++ (y53 ++ (y50 ++ (y47 ++ (y44 ++ (y41 ++ (y38 ++ (y35 ++ (y32 ++ (y9 ++ (y6 ++ x))))))))))))))⟩ K)
 (NW C gl q1 ⟨[(0,v0),(2,v2),(7,v7),(8,v8),(10,t4),(11,t13),(14,v14),(15,v15),(16,v16),(52,t63)],h61,(y62 ++ (y59 ++ (y56 ++ (y53 ++ (y50 ++ (y47 ++ (y44 ++ (y41 ++ (y38 ++ (y35 ++ (y32 ++ (y9 ++ (y6 ++ x)))))))))))))⟩ K)))
 (K (.exit 0) ⟨[(0,v0),(2,v2),(7,v7),(8,v8),(14,v14),(15,v15),(16,v16),(17,t1)],h,x⟩)
theorem E_q02q_k2 {C gl q1 e h x K} : NW C gl (P_q02q_k2 q1) ⟨e,h,x⟩ K = d_q02q_k2 C gl q1 (aget e 0) (aget e 2) (aget e 7) (aget e 8) (aget e 14) (aget e 15) (aget e 16) h x K:=by kernel_rfl
theorem e_q02q_k2 {C gl e h x K} : NW C gl p_q02q_k2 ⟨e,h,x⟩ K = d_q02q_k2 C gl p_q02q_k1 (aget e 0) (aget e 2) (aget e 7) (aget e 8) (aget e 14) (aget e 15) (aget e 16) h x K:=E_q02q_k2
theorem l_q02q_k2 {C gl e h x K} : NW C gl (.loop (.scope p_q02q_k2)) ⟨e,h,x⟩ K = NLoop C gl (.scope p_q02q_k2) K [(0,aget e 0),(2,aget e 2),(7,aget e 7),(8,aget e 8),(14,aget e 14),(15,aget e 15),(16,aget e 16)] h x:=NLoop_sc
def p_q02q_k3 : ACode:=.pr [8] (.seq (rg [mV 58 8,
cL 59 f_q06g [58,(.f f_q02r)]] [8])
(.seq (rg [mV 60 8,
mV 6 60] [6])
.ret))
def d_q02q_k3 (C : Hd) (gl : GL) (v8 : AV) (h : Heap) (x : Esc) (K : KT) : Prop:=
 C f_q06g [v8,(.fn f_q02r [])] h fun t1 h2 y3=>
 K .ret ⟨[(6,v8)],h2,(y3 ++ x)⟩
theorem e_q02q_k3 {C gl e h x K} : NW C gl p_q02q_k3 ⟨e,h,x⟩ K = d_q02q_k3 C gl (aget e 8) h x K:=by kernel_rfl
def P_q02q (q2 q3 : ACode) : ACode:=(.seq (rg [mV 6 (.c (.p (.sl (some 4) [])))] [0,1,2])
(.seq (rg [uO 13 (.mkmap),
mV 7 13] [0,1,2,7])
(.seq (rg [uO 8 (.new0 (some 4))] [0,1,2,7,8])
(.seq (.seq (rg [mV 14 1,
lN 15 14,
mV 16 (cI 0)] [0,2,7,8,14,15,16])
(.block 0 (.loop (.scope q2))))
q3))))
def a_q02q : AFun:=⟨3,[.t 6],P_q02q p_q02q_k2 p_q02q_k3,false,false⟩
def d_q02q (C : Hd) (gl : GL) (q2 q3 : ACode) (v0 v1 v2 : AV) (h : Heap) (x : Esc) (K : KT) : Prop:=
 mmK h fun t1 h2 y3=>
 nwK (some 4) h2 fun t4 h5 y6=>
 pK (oLen v1) fun t7=>
 NW C gl (.loop (.scope q2)) ⟨[(0,v0),(2,v2),(7,t1),(8,t4),(14,v1),(15,t7),(16,(AI 0))],h5,(y6 ++ (y3 ++ x))⟩ (blockN 0 (seqN C gl q3 K))
theorem E_q02q {C gl q2 q3 v0 v1 v2 h x K} : NW C gl (P_q02q q2 q3) ⟨enter [v0,v1,v2],h,x⟩ K = d_q02q C gl q2 q3 v0 v1 v2 h x K:=by kernel_rfl
theorem e_q02q {C gl v0 v1 v2 h x K} : NW C gl a_q02q.body ⟨enter [v0,v1,v2],h,x⟩ K = d_q02q C gl p_q02q_k2 p_q02q_k3 v0 v1 v2 h x K:=E_q02q
def P_q02i : ACode:=(.seq (rg [uO 3 (.box 1),
mV 4 (cI 0)] [0,3])
(.seq (.seq (rg [mV 6 0,
lD 7 (some 4) 3,
cL 8 f_q02p [6,7],
mV 5 8] [0,5])
(.seq (rg [mV 9 5,
bN 10 .geq 9 (cI 0)] [0,5,10])
(.cond 10 (.seq (rg [mV 11 0,
mV 12 5,
iA 13 (some 4) 11 12,
fA 14 3 none 13,
lD 15 none 14,
mV 4 15] [4])
.ret)
.skip)))
(.seq (rg [mV 4 (cI 1)] [4])
.ret)))
def a_q02i : AFun:=⟨2,[.t 4],P_q02i,false,false⟩
def d_q02i (C : Hd) (gl : GL) (v0 v1 : AV) (h : Heap) (x : Esc) (K : KT) : Prop:=
 wK (oBox v1 h) fun t1 h2 y3=>
 pK (oLoad (some 4) t1 h2) fun t4=>
 C f_q02p [v0,t4] h2 fun t5 h6 y7=>
 pK (oBin .geq t5 (AI 0)) fun t8=>
 condB t8 (pK (oIaddr (some 4) v0 t5 h6) fun t9=>
 pK (oFaddr 3 none t9) fun t10=>
 pK (oLoad none t10 h6) fun t11=>
 K .ret ⟨[(4,t11)],h6,(y7 ++ (y3 ++ x))⟩)
 (K .ret ⟨[(4,(AI 1))],h6,(y7 ++ (y3 ++ x))⟩)
theorem e_q02i {C gl v0 v1 h x K} : NW C gl a_q02i.body ⟨enter [v0,v1],h,x⟩ K = d_q02i C gl v0 v1 h x K:=by kernel_rfl
def P_q02x : ACode:=(.seq (rg [uO 4 (.alloc [.p (.str []),.p (.str [])])] [0,1,4])
(.seq (rg [mV 5 0,
mV 6 1,
cL 7 f_q08i [6],
uO 8 (.build [.p (.str []),.p (.str [])] [(0,1,5),(1,1,7)]),
wO (.store (some 2) 4 8)] [4])
.ret))
def a_q02x : AFun:=⟨2,[.cell 4 (some 2)],P_q02x,false,false⟩
def d_q02x (C : Hd) (gl : GL) (v0 v1 : AV) (h : Heap) (x : Esc) (K : KT) : Prop:=
 alK [.p (.str []),.p (.str [])] h fun t1 h2 y3=>
 C f_q08i [v1] h2 fun t4 h5 y6=>
 pK (oBuild [.p (.str []),.p (.str [])] [(0,1,v0),(1,1,t4)]) fun t7=>
 wK (oStore (some 2) t1 t7 h5) fun t8 h9 y10=>
 K .ret ⟨[(4,t1)],h9,(y10 ++ (y6 ++ (y3 ++ x)))⟩
theorem e_q02x {C gl v0 v1 h x K} : NW C gl a_q02x.body ⟨enter [v0,v1],h,x⟩ K = d_q02x C gl v0 v1 h x K:=by kernel_rfl
def P_q02p : ACode:=(.seq (rg [uO 3 (.box 1),
mV 4 (cI 0)] [0,3])
(.seq (rg [fA 6 3 none 3,
lD 7 none 6,
lN 8 7,
bN 9 .sub 8 (cI 1),
mV 5 9] [0,3,5])
(.seq (.seq (dr [dF (mV 10 0) [0],
dF (mV 11 5) [5],
dF (iA 12 (some 4) 10 11) [10,11],
dF (lD 13 (some 4) 12) [12],
dF (fA 14 3 none 3) [3],
dF (lD 15 none 14) [14],
dF (mV 16 5) [5],
dF (iA 17 none 15 16) [15,16],
dF (lD 18 none 17) [17],
dT (cL 19 f_q02u [13,18]) [13,18]] [5,19])
(.cond 19 (.seq (rg [mV 4 (cI (-1))] [4])
.ret)
.skip))
(.seq (rg [mV 20 5,
mV 4 20] [4])
.ret))))
def a_q02p : AFun:=⟨2,[.t 4],P_q02p,false,false⟩
def d_q02p (C : Hd) (gl : GL) (v0 v1 : AV) (h : Heap) (x : Esc) (K : KT) : Prop:=
 wK (oBox v1 h) fun t1 h2 y3=>
 pK (oFaddr 3 none t1) fun t4=>
 pK (oLoad none t4 h2) fun t5=>
 pK (oLen t5) fun t6=>
 pK (oBin .sub t6 (AI 1)) fun t7=>
 pK (oIaddr (some 4) v0 t7 h2) fun t8=>
 pK (oLoad (some 4) t8 h2) fun t9=>
 pK (oFaddr 3 none t1) fun t10=>
 pK (oLoad none t10 h2) fun t11=>
 pK (oIaddr none t11 t7 h2) fun t12=>
 pK (oLoad none t12 h2) fun t13=>
 callE C f_q02u [t9,t13] h2 fun t14 h15 y16=>
 condB t14 (K .ret ⟨[(4,(AI (-1)))],h15,(y16 ++ (y3 ++ x))⟩)
 (K .ret ⟨[(4,t7)],h15,(y16 ++ (y3 ++ x))⟩)
theorem e_q02p {C gl v0 v1 h x K} : NW C gl a_q02p.body ⟨enter [v0,v1],h,x⟩ K = d_q02p C gl v0 v1 h x K:=by kernel_rfl
def P_q06i : ACode:=(rg [mV 4 0,
mV 5 0,
lN 6 5,
mV 7 1,
cL 8 f_q07t [4,6,7]] [])
def a_q06i : AFun:=⟨2,[],P_q06i,true,false⟩
def d_q06i (C : Hd) (gl : GL) (v0 v1 : AV) (h : Heap) (x : Esc) (K : KT) : Prop:=
 pK (oLen v0) fun t1=>
 C f_q07t [v0,t1,v1] h fun t2 h3 y4=>
 K .normal ⟨[],h3,(y4 ++ x)⟩
theorem e_q06i {C gl v0 v1 h x K} : NW C gl a_q06i.body ⟨enter [v0,v1],h,x⟩ K = d_q06i C gl v0 v1 h x K:=by kernel_rfl
def P_q029 : ACode:=(.seq (rg [mV 5 (cI 0)] [0,1,2])
(.seq (dr [dF (lD 6 none 2) [2],
dF (mV 7 1) [1],
dF (iA 8 none 6 7) [6,7],
dF (lD 9 none 8) [8],
dF (lD 10 none 2) [2],
dF (mV 11 0) [0],
dF (iA 12 none 10 11) [10,11],
dF (lD 13 none 12) [12],
dT (cL 14 f_q00s [9,13]) [9,13],
dF (mV 5 14) [14]] [5])
.ret))
def a_q029 : AFun:=⟨3,[.t 5],P_q029,false,false⟩
def d_q029 (C : Hd) (gl : GL) (v0 v1 v2 : AV) (h : Heap) (x : Esc) (K : KT) : Prop:=
 pK (oLoad none v2 h) fun t1=>
 pK (oIaddr none t1 v1 h) fun t2=>
 pK (oLoad none t2 h) fun t3=>
 pK (oLoad none v2 h) fun t4=>
 pK (oIaddr none t4 v0 h) fun t5=>
 pK (oLoad none t5 h) fun t6=>
 callE C f_q00s [t3,t6] h fun t7 h8 y9=>
 K .ret ⟨[(5,t7)],h8,(y9 ++ x)⟩
theorem e_q029 {C gl v0 v1 v2 h x K} : NW C gl a_q029.body ⟨enter [v0,v1,v2],h,x⟩ K = d_q029 C gl v0 v1 v2 h x K:=by kernel_rfl
def P_q00s : ACode:=(.seq (rg [mV 4 (cI 0)] [0,1])
(.seq (rg [mV 7 0,
cL 8 f_q00w [7],
mV 5 8] [0,1,5])
(.seq (rg [mV 9 1,
cL 10 f_q00w [9],
mV 6 10] [0,1,5,6])
(.seq (.seq (rg [mV 11 5] [0,1,6,11])
(.cond 11 (.seq (.seq (rg [mV 12 6] [12])
(.cond 12 (.seq (rg [mV 4 (cI 0)] [4])
.ret)
.skip))
(.seq (rg [mV 4 (cI (-1))] [4])
.ret))
.skip))
(.seq (.seq (rg [mV 13 6] [0,1,13])
(.cond 13 (.seq (rg [mV 4 (cI 1)] [4])
.ret)
.skip))
(.seq (.seq (rg [mV 14 0,
mV 15 1,
bN 16 .lss 14 15] [0,1,16])
(.cond 16 (.seq (rg [mV 4 (cI (-1))] [4])
.ret)
.skip))
(.seq (.seq (rg [mV 17 0,
mV 18 1,
bN 19 .gtr 17 18] [19])
(.cond 19 (.seq (rg [mV 4 (cI 1)] [4])
.ret)
.skip))
(.seq (rg [mV 4 (cI 0)] [4])
.ret))))))))
def a_q00s : AFun:=⟨2,[.t 4],P_q00s,false,false⟩
def d_q00s (C : Hd) (gl : GL) (v0 v1 : AV) (h : Heap) (x : Esc) (K : KT) : Prop:=
 C f_q00w [v0] h fun t1 h2 y3=>
 C f_q00w [v1] h2 fun t4 h5 y6=>
 condB t1 (condB t4 (K .ret ⟨[(4,(AI 0))],h5,(y6 ++ (y3 ++ x))⟩)
 (K .ret ⟨[(4,(AI (-1)))],h5,(y6 ++ (y3 ++ x))⟩))
 (condB t4 (K .ret ⟨[(4,(AI 1))],h5,(y6 ++ (y3 ++ x))⟩)
 (pK (oBin .lss v0 v1) fun t7=>
 condB t7 (K .ret ⟨[(4,(AI (-1)))],h5,(y6 ++ (y3 ++ x))⟩)
 (pK (oBin .gtr v0 v1) fun t8=>
 condB t8 (K .ret ⟨[(4,(AI 1))],h5,(y6 ++ (y3 ++ x))⟩)
 (K .ret ⟨[(4,(AI 0))],h5,(y6 ++ (y3 ++ x))⟩))))
theorem e_q00s {C gl v0 v1 h x K} : NW C gl a_q00s.body ⟨enter [v0,v1],h,x⟩ K = d_q00s C gl v0 v1 h x K:=by kernel_rfl
def P_q06k : ACode:=(.seq (rg [mV 3 0,
lN 4 3,
mV 2 4] [0,2])
(rg [mV 5 0,
mV 6 2,
mV 7 2,
uO 8 (.conv (.i .u64) 7),
cL 9 f_q03a [8],
cL 10 f_q07j [5,(cI 0),6,9]] []))
def a_q06k : AFun:=⟨1,[],P_q06k,true,false⟩
def d_q06k (C : Hd) (gl : GL) (v0 : AV) (h : Heap) (x : Esc) (K : KT) : Prop:=
 pK (oLen v0) fun t1=>
 pK (oConvI .u64 t1) fun t2=>
 C f_q03a [t2] h fun t3 h4 y5=>
 C f_q07j [v0,(AI 0),t1,t3] h4 fun t6 h7 y8=>
 K .normal ⟨[],h7,(y8 ++ (y5 ++ x))⟩
theorem e_q06k {C gl v0 h x K} : NW C gl a_q06k.body ⟨enter [v0],h,x⟩ K = d_q06k C gl v0 h x K:=by kernel_rfl
def P_q01w : ACode:=(.seq (rg [mV 4 (cS []),
mV 5 (cS []),
mV 6 cF] [0,1])
(.seq (.seq (rg [mV 8 0,
mV 9 1,
cL 10 f_q01y [8,9],
mV 7 10] [0,1,7])
(.seq (rg [mV 11 7,
bN 12 .geq 11 (cI 0)] [0,1,7,12])
(.cond 12 (.seq (dr [dF (mV 13 0) [0],
dF (mV 14 7) [7],
dF (uO 15 (.slstr 13 none (some 14))) [13,14],
dF (mV 16 0) [0],
dF (mV 17 7) [7],
dF (mV 18 1) [1],
dF (uO 19 (.lens 18)) [18],
dF (bN 20 .add 17 19) [17,19],
dF (uO 21 (.slstr 16 (some 20) none)) [16,20],
dF (mV 4 15) [15],
dF (mV 5 21) [21],
dF (mV 6 cT) []] [4,5,6])
.ret)
.skip)))
(.seq (rg [mV 22 0,
mV 4 22,
mV 5 (cS []),
mV 6 cF] [4,5,6])
.ret)))
def a_q01w : AFun:=⟨2,[.t 4,.t 5,.t 6],P_q01w,false,false⟩
def d_q01w (C : Hd) (gl : GL) (v0 v1 : AV) (h : Heap) (x : Esc) (K : KT) : Prop:=
 C f_q01y [v0,v1] h fun t1 h2 y3=>
 pK (oBin .geq t1 (AI 0)) fun t4=>
 condB t4 (pK (oSlstr v0 none (some t1)) fun t5=>
 pK (oLens v1) fun t6=>
 pK (oBin .add t1 t6) fun t7=>
 pK (oSlstr v0 (some t7) none) fun t8=>
 K .ret ⟨[(4,t5),(5,t8),(6,(AB true))],h2,(y3 ++ x)⟩)
 (K .ret ⟨[(4,v0),(5,(.p (.str []))),(6,(AB false))],h2,(y3 ++ x)⟩)
theorem e_q01w {C gl v0 v1 h x K} : NW C gl a_q01w.body ⟨enter [v0,v1],h,x⟩ K = d_q01w C gl v0 v1 h x K:=by kernel_rfl
def p_q06b_k1 : ACode:=.pr [0,3,7,8] (.seq (rg [bN 9 .lss 8 7] [0,3,7,8,9])
(.seq (.cond 9 .skip
(.exit 0))
(.seq (.block 1 (.seq (rg [mV 10 8,
mV 5 10] [0,3,5,7,8])
(.seq (dr [dF (lD 11 (some 2) 3) [3],
dF (mV 12 0) [0],
dF (mV 13 5) [5],
dF (iA 14 (some 2) 12 13) [12,13],
dF (lD 15 (some 2) 14) [14],
dF (uO 16 (.eqa [2,2] false 11 15)) [11,15]] [0,3,5,7,8,16])
(.cond 16 (.seq (rg [mV 17 5,
mV 4 17] [4])
.ret)
.skip))))
(rg [bN 18 .add 8 (cI 1),
mV 8 18] [0,3,7,8]))))
def d_q06b_k1 (C : Hd) (gl : GL) (v0 v3 v7 v8 : AV) (h : Heap) (x : Esc) (K : KT) : Prop:=
 pK (oBin .lss v8 v7) fun t1=>
 condB t1 (pK (oLoad (some 2) v3 h) fun t2=>
 pK (oIaddr (some 2) v0 v8 h) fun t3=>
 pK (oLoad (some 2) t3 h) fun t4=>
 pK (oEqa [2,2] false t2 t4) fun t5=>
 condB t5 (K .ret ⟨[(4,v8)],h,x⟩)
 (pK (oBin .add v8 (AI 1)) fun t6=>
 K .normal ⟨[(0,v0),(3,v3),(7,v7),(8,t6)],h,x⟩))
 (K (.exit 0) ⟨[(0,v0),(3,v3),(7,v7),(8,v8),(9,t1)],h,x⟩)
theorem e_q06b_k1 {C gl e h x K} : NW C gl p_q06b_k1 ⟨e,h,x⟩ K = d_q06b_k1 C gl (aget e 0) (aget e 3) (aget e 7) (aget e 8) h x K:=by kernel_rfl
theorem l_q06b_k1 {C gl e h x K} : NW C gl (.loop p_q06b_k1) ⟨e,h,x⟩ K = NLoop C gl p_q06b_k1 K [(0,aget e 0),(3,aget e 3),(7,aget e 7),(8,aget e 8)] h x:=NLoop_pr
def p_q06b_k2 : ACode:=.pr [] (.seq (rg [mV 4 (cI (-1))] [4])
.ret)
def d_q06b_k2 (C : Hd) (gl : GL) (h : Heap) (x : Esc) (K : KT) : Prop:=
 K .ret ⟨[(4,(AI (-1)))],h,x⟩
theorem e_q06b_k2 {C gl e h x K} : NW C gl p_q06b_k2 ⟨e,h,x⟩ K = d_q06b_k2 C gl h x K:=by kernel_rfl
def P_q06b (q1 q2 : ACode) : ACode:=(.seq (rg [uO 3 (.box 1),
mV 4 (cI 0)] [0,3])
(.seq (.seq (rg [mV 6 0,
lN 7 6,
mV 8 (cI 0)] [0,3,7,8])
(.block 0 (.loop q1)))
q2))
def a_q06b : AFun:=⟨2,[.t 4],P_q06b p_q06b_k1 p_q06b_k2,true,false⟩
def d_q06b (C : Hd) (gl : GL) (q1 q2 : ACode) (v0 v1 : AV) (h : Heap) (x : Esc) (K : KT) : Prop:=
 wK (oBox v1 h) fun t1 h2 y3=>
 pK (oLen v0) fun t4=>
 NW C gl (.loop q1) ⟨[(0,v0),(3,t1),(7,t4),(8,(AI 0))],h2,(y3 ++ x)⟩ (blockN 0 (seqN C gl q2 K))
theorem E_q06b {C gl q1 q2 v0 v1 h x K} : NW C gl (P_q06b q1 q2) ⟨enter [v0,v1],h,x⟩ K = d_q06b C gl q1 q2 v0 v1 h x K:=by kernel_rfl
theorem e_q06b {C gl v0 v1 h x K} : NW C gl a_q06b.body ⟨enter [v0,v1],h,x⟩ K = d_q06b C gl p_q06b_k1 p_q06b_k2 v0 v1 h x K:=E_q06b
def p_q042_k1 : ACode:=.pr [0] (.seq (rg [mV 15 0,
mV 4 15] [4])
.ret)
def d_q042_k1 (C : Hd) (gl : GL) (v0 : AV) (h : Heap) (x : Esc) (K : KT) : Prop:=
 K .ret ⟨[(4,v0)],h,x⟩
theorem e_q042_k1 {C gl e h x K} : NW C gl p_q042_k1 ⟨e,h,x⟩ K = d_q042_k1 C gl (aget e 0) h x K:=by kernel_rfl
def P_q042 (q1 : ACode) : ACode:=(.seq (rg [mV 4 (cI 0)] [0,1])
(.seq (.seq (rg [mV 5 1,
bN 6 .lss 5 (cI 1)] [0,1,6])
(.cond 6 (.seq (rg [mV 4 (cI 0)] [4])
.ret)
.skip))
(.seq (rg [mV 7 0,
mV 8 1,
bN 9 .rem 7 8,
mV 0 9] [0,1])
(.seq (.seq (rg [mV 10 0,
bN 11 .lss 10 (cI 0)] [0,1,11])
(.cond 11 (rg [mV 12 0,
mV 13 1,
bN 14 .add 12 13,
mV 0 14] [0])
.skip))
q1))))
def a_q042 : AFun:=⟨2,[.t 4],P_q042 p_q042_k1,false,false⟩
def d_q042 (C : Hd) (gl : GL) (q1 : ACode) (v0 v1 : AV) (h : Heap) (x : Esc) (K : KT) : Prop:=
 pK (oBin .lss v1 (AI 1)) fun t1=>
 condB t1 (K .ret ⟨[(4,(AI 0))],h,x⟩)
 (pK (oBin .rem v0 v1) fun t2=>
 pK (oBin .lss t2 (AI 0)) fun t3=>
 condB t3 (pK (oBin .add t2 v1) fun t4=>
 NW C gl q1 ⟨[(0,t4)],h,x⟩ K)
 (NW C gl q1 ⟨[(0,t2),(1,v1),(11,t3)],h,x⟩ K))
theorem E_q042 {C gl q1 v0 v1 h x K} : NW C gl (P_q042 q1) ⟨enter [v0,v1],h,x⟩ K = d_q042 C gl q1 v0 v1 h x K:=by kernel_rfl
theorem e_q042 {C gl v0 v1 h x K} : NW C gl a_q042.body ⟨enter [v0,v1],h,x⟩ K = d_q042 C gl p_q042_k1 v0 v1 h x K:=E_q042
def P_q02s : ACode:=(.seq (rg [uO 3 (.box 1),
mV 4 (cI 0)] [0,3])
(.seq (rg [mV 5 0,
uO 6 (.mkfn f_q02t [3]),
cL 7 f_q068 [5,6],
mV 4 7] [4])
.ret))
def a_q02s : AFun:=⟨2,[.t 4],P_q02s,false,false⟩
def d_q02s (C : Hd) (gl : GL) (v0 v1 : AV) (h : Heap) (x : Esc) (K : KT) : Prop:=
 wK (oBox v1 h) fun t1 h2 y3=>
 C f_q068 [v0,(.fn f_q02t [t1])] h2 fun t4 h5 y6=>
 K .ret ⟨[(4,t4)],h5,(y6 ++ (y3 ++ x))⟩
theorem e_q02s {C gl v0 v1 h x K} : NW C gl a_q02s.body ⟨enter [v0,v1],h,x⟩ K = d_q02s C gl v0 v1 h x K:=by kernel_rfl
def P_q008 : ACode:=(.seq (rg [mV 6 cF] [0,1,2])
(.seq (rg [mV 7 0,
mV 8 1,
bN 9 .lss 7 8,
mV 10 9,
gD 11 10 false (.mv 0),
gD 12 10 false (.mv 2),
gD 13 10 false (.bin .gtr 11 12),
uO 14 (.pick 10 cT 13),
mV 6 14] [6])
.ret))
def a_q008 : AFun:=⟨3,[.t 6],P_q008,false,false⟩
def d_q008 (C : Hd) (gl : GL) (v0 v1 v2 : AV) (h : Heap) (x : Esc) (K : KT) : Prop:=
 pK (oBin .lss v0 v1) fun t1=>
 gM t1 false v0 h fun t2 h3 y4=>
 gM t1 false v2 h3 fun t5 h6 y7=>
 gP t1 false (oBin .gtr t2 t5) h6 fun t8 h9 y10=>
 pK (oPick t1 (AB true) t8) fun t11=>
 K .ret ⟨[(6,t11)],h9,(y10 ++ (y7 ++ (y4 ++ x)))⟩
theorem e_q008 {C gl v0 v1 v2 h x K} : NW C gl a_q008.body ⟨enter [v0,v1,v2],h,x⟩ K = d_q008 C gl v0 v1 v2 h x K:=by kernel_rfl
def P_q02u : ACode:=(.seq (rg [uO 2 (.box 0),
mV 4 cF] [1,2])
(.seq (rg [mV 5 1,
fA 6 1 none 2,
lD 7 none 6,
fA 8 2 none 2,
lD 9 none 8,
cL 10 f_q008 [5,7,9],
uO 11 (.un .not 10),
mV 4 11] [4])
.ret))
def a_q02u : AFun:=⟨2,[.t 4],P_q02u,false,false⟩
def d_q02u (C : Hd) (gl : GL) (v0 v1 : AV) (h : Heap) (x : Esc) (K : KT) : Prop:=
 wK (oBox v0 h) fun t1 h2 y3=>
 pK (oFaddr 1 none t1) fun t4=>
 pK (oLoad none t4 h2) fun t5=>
 pK (oFaddr 2 none t1) fun t6=>
 pK (oLoad none t6 h2) fun t7=>
 C f_q008 [v1,t5,t7] h2 fun t8 h9 y10=>
 pK (oUn .not t8) fun t11=>
 K .ret ⟨[(4,t11)],h9,(y10 ++ (y3 ++ x))⟩
theorem e_q02u {C gl v0 v1 h x K} : NW C gl a_q02u.body ⟨enter [v0,v1],h,x⟩ K = d_q02u C gl v0 v1 h x K:=by kernel_rfl
def p_q06a_k1 : ACode:=.pr [0,1,7,8] (.seq (rg [bN 9 .lss 8 7] [0,1,7,8,9])
(.seq (.cond 9 .skip
(.exit 0))
(.seq (.block 1 (.seq (rg [mV 10 8,
mV 5 10] [0,1,5,7,8])
(.seq (rg [mV 11 1,
mV 12 0,
mV 13 5,
iA 14 none 12 13,
lD 15 none 14,
uO 16 (.callv 11 [15])] [0,1,5,7,8,16])
(.cond 16 (.seq (rg [mV 17 5,
mV 4 17] [4])
.ret)
.skip))))
(rg [bN 18 .add 8 (cI 1),
mV 8 18] [0,1,7,8]))))
def d_q06a_k1 (C : Hd) (gl : GL) (v0 v1 v7 v8 : AV) (h : Heap) (x : Esc) (K : KT) : Prop:=
 pK (oBin .lss v8 v7) fun t1=>
 condB t1 (pK (oIaddr none v0 v8 h) fun t2=>
 pK (oLoad none t2 h) fun t3=>
 callvK C v1 [t3] h fun t4 h5 y6=>
 condB t4 (K .ret ⟨[(4,v8)],h5,(y6 ++ x)⟩)
 (pK (oBin .add v8 (AI 1)) fun t7=>
 K .normal ⟨[(0,v0),(1,v1),(7,v7),(8,t7)],h5,(y6 ++ x)⟩))
 (K (.exit 0) ⟨[(0,v0),(1,v1),(7,v7),(8,v8),(9,t1)],h,x⟩)
theorem e_q06a_k1 {C gl e h x K} : NW C gl p_q06a_k1 ⟨e,h,x⟩ K = d_q06a_k1 C gl (aget e 0) (aget e 1) (aget e 7) (aget e 8) h x K:=by kernel_rfl
theorem l_q06a_k1 {C gl e h x K} : NW C gl (.loop p_q06a_k1) ⟨e,h,x⟩ K = NLoop C gl p_q06a_k1 K [(0,aget e 0),(1,aget e 1),(7,aget e 7),(8,aget e 8)] h x:=NLoop_pr
def p_q06a_k2 : ACode:=.pr [] (.seq (rg [mV 4 (cI (-1))] [4])
.ret)
def d_q06a_k2 (C : Hd) (gl : GL) (h : Heap) (x : Esc) (K : KT) : Prop:=
 K .ret ⟨[(4,(AI (-1)))],h,x⟩
theorem e_q06a_k2 {C gl e h x K} : NW C gl p_q06a_k2 ⟨e,h,x⟩ K = d_q06a_k2 C gl h x K:=by kernel_rfl
def P_q06a (q1 q2 : ACode) : ACode:=(.seq (rg [mV 4 (cI 0)] [0,1])
(.seq (.seq (rg [mV 6 0,
lN 7 6,
mV 8 (cI 0)] [0,1,7,8])
(.block 0 (.loop q1)))
q2))
def a_q06a : AFun:=⟨2,[.t 4],P_q06a p_q06a_k1 p_q06a_k2,true,false⟩
def d_q06a (C : Hd) (gl : GL) (q1 q2 : ACode) (v0 v1 : AV) (h : Heap) (x : Esc) (K : KT) : Prop:=
 pK (oLen v0) fun t1=>
 NW C gl (.loop q1) ⟨[(0,v0),(1,v1),(7,t1),(8,(AI 0))],h,x⟩ (blockN 0 (seqN C gl q2 K))
theorem E_q06a {C gl q1 q2 v0 v1 h x K} : NW C gl (P_q06a q1 q2) ⟨enter [v0,v1],h,x⟩ K = d_q06a C gl q1 q2 v0 v1 h x K:=by kernel_rfl
theorem e_q06a {C gl v0 v1 h x K} : NW C gl a_q06a.body ⟨enter [v0,v1],h,x⟩ K = d_q06a C gl p_q06a_k1 p_q06a_k2 v0 v1 h x K:=E_q06a
def P_q05w : ACode:=(.seq (rg [mV 4 cF] [0,1])
(.seq (rg [mV 5 0,
mV 6 1,
cL 7 f_q06a [5,6],
bN 8 .geq 7 (cI 0),
mV 4 8] [4])
.ret))
def a_q05w : AFun:=⟨2,[.t 4],P_q05w,true,false⟩
def d_q05w (C : Hd) (gl : GL) (v0 v1 : AV) (h : Heap) (x : Esc) (K : KT) : Prop:=
 C f_q06a [v0,v1] h fun t1 h2 y3=>
 pK (oBin .geq t1 (AI 0)) fun t4=>
 K .ret ⟨[(4,t4)],h2,(y3 ++ x)⟩
theorem e_q05w {C gl v0 v1 h x K} : NW C gl a_q05w.body ⟨enter [v0,v1],h,x⟩ K = d_q05w C gl v0 v1 h x K:=by kernel_rfl
def P_q02w : ACode:=(.seq (rg [mV 2 cF] [0])
(.seq (rg [mV 3 0,
cL 4 f_q008 [3,(cI (-100000)),(cI 100000)],
uO 5 (.un .not 4),
mV 2 5] [2])
.ret))
def a_q02w : AFun:=⟨1,[.t 2],P_q02w,false,false⟩
def d_q02w (C : Hd) (gl : GL) (v0 : AV) (h : Heap) (x : Esc) (K : KT) : Prop:=
 C f_q008 [v0,(AI (-100000)),(AI 100000)] h fun t1 h2 y3=>
 pK (oUn .not t1) fun t4=>
 K .ret ⟨[(2,t4)],h2,(y3 ++ x)⟩
theorem e_q02w {C gl v0 h x K} : NW C gl a_q02w.body ⟨enter [v0],h,x⟩ K = d_q02w C gl v0 h x K:=by kernel_rfl
def p_q006_k1 : ACode:=.pr [0,23,24] (.seq (rg [bN 25 .lss 24 23] [0,23,24,25])
(.seq (.cond 25 .skip
(.exit 0))
(.seq (.block 1 (.seq (rg [mV 26 24,
mV 3 26] [0,3,23,24])
(.seq (rg [mV 27 0,
mV 28 3,
uO 29 (.idxs 27 28),
mV 4 29] [0,4,23,24])
(.seq (rg [mV 30 4,
bN 31 .geq 30 (.c (.p (.int .u8 97))),
mV 32 31,
gD 33 32 true (.mv 4),
gD 34 32 true (.bin .leq 33 (.c (.p (.int .u8 122)))),
uO 35 (.pick 32 34 cF),
mV 36 35,
gD 37 36 false (.mv 4),
gD 38 36 false (.bin .geq 37 (.c (.p (.int .u8 48)))),
gD 39 36 false (.mv 38),
gD 40 39 true (.mv 4),
gD 41 39 true (.bin .leq 40 (.c (.p (.int .u8 57)))),
gD 42 36 false (.pick 39 41 cF),
uO 43 (.pick 36 cT 42),
mV 44 43,
gD 45 44 false (.mv 4),
gD 46 44 false (.bin .eql 45 (.c (.p (.int .u8 45)))),
uO 47 (.pick 44 cT 46),
mV 48 47,
gD 49 48 false (.mv 4),
gD 50 48 false (.bin .eql 49 (.c (.p (.int .u8 95)))),
uO 51 (.pick 48 cT 50),
uO 52 (.un .not 51)] [0,23,24,52])
(.cond 52 (.seq (rg [mV 2 cF] [2])
.ret)
.skip)))))
(rg [bN 53 .add 24 (cI 1),
mV 24 53] [0,23,24]))))
def d_q006_k1 (C : Hd) (gl : GL) (v0 v23 v24 : AV) (h : Heap) (x : Esc) (K : KT) : Prop:=
 pK (oBin .lss v24 v23) fun t1=>
 condB t1 (pK (oIdxs v0 v24) fun t2=>
 pK (oBin .geq t2 (.p (.int .u8 97))) fun t3=>
 gM t3 true t2 h fun t4 h5 y6=>
 gP t3 true (oBin .leq t4 (.p (.int .u8 122))) h5 fun t7 h8 y9=>
 pK (oPick t3 t7 (AB false)) fun t10=>
 gM t10 false t2 h8 fun t11 h12 y13=>
 gP t10 false (oBin .geq t11 (.p (.int .u8 48))) h12 fun t14 h15 y16=>
 gM t10 false t14 h15 fun t17 h18 y19=>
 gM t17 true t2 h18 fun t20 h21 y22=>
 gP t17 true (oBin .leq t20 (.p (.int .u8 57))) h21 fun t23 h24 y25=>
 gP t10 false (oPick t17 t23 (AB false)) h24 fun t26 h27 y28=>
 pK (oPick t10 (AB true) t26) fun t29=>
 gM t29 false t2 h27 fun t30 h31 y32=>
 gP t29 false (oBin .eql t30 (.p (.int .u8 45))) h31 fun t33 h34 y35=>
 pK (oPick t29 (AB true) t33) fun t36=>
 gM t36 false t2 h34 fun t37 h38 y39=>
 gP t36 false (oBin .eql t37 (.p (.int .u8 95))) h38 fun t40 h41 y42=>
 pK (oPick t36 (AB true) t40) fun t43=>
 pK (oUn .not t43) fun t44=>
 condB t44 (K .ret ⟨[(2,(AB false))],h41,(y42 ++ (y39 ++ (y35 ++ (y32 ++ (y28 ++ (y25 ++ (y22 ++ (y19 ++ (y16 ++ (y13 ++ (y9 ++ (y6 ++ x))))))))))))⟩)
 (pK (oBin .add v24 (AI 1)) fun t45=>
 K .normal ⟨[(0,v0),(23,v23),(24,t45)],h41,(y42 ++ (y39 ++ (y35 ++ (y32 ++ (y28 ++ (y25 ++ (y22 ++ (y19 ++ (y16 ++ (y13 ++ (y9 ++ (y6 ++ x))))))))))))⟩))
 (K (.exit 0) ⟨[(0,v0),(23,v23),(24,v24),(25,t1)],h,x⟩)
theorem e_q006_k1 {C gl e h x K} : NW C gl p_q006_k1 ⟨e,h,x⟩ K = d_q006_k1 C gl (aget e 0) (aget e 23) (aget e 24) h x K:=by kernel_rfl
theorem l_q006_k1 {C gl e h x K} : NW C gl (.loop p_q006_k1) ⟨e,h,x⟩ K = NLoop C gl p_q006_k1 K [(0,aget e 0),(23,aget e 23),(24,aget e 24)] h x:=NLoop_pr
def p_q006_k2 : ACode:=.pr [] (.seq (rg [mV 2 cT] [2])
.ret)
def d_q006_k2 (C : Hd) (gl : GL) (h : Heap) (x : Esc) (K : KT) : Prop:=
 K .ret ⟨[(2,(AB true))],h,x⟩
theorem e_q006_k2 {C gl e h x K} : NW C gl p_q006_k2 ⟨e,h,x⟩ K = d_q006_k2 C gl h x K:=by kernel_rfl
def P_q006 (q1 q2 : ACode) : ACode:=(.seq (rg [mV 2 cF] [0])
(.seq (.seq (rg [mV 5 0,
bN 6 .eql 5 (cS []),
mV 7 6,
gD 8 7 false (.mv 0),
gD 9 7 false (.lens 8),
gD 10 7 false (.bin .gtr 9 (cI 40)),
uO 11 (.pick 7 cT 10),
mV 12 11,
gD 13 12 false (.mv 0),
gD 14 12 false (.idxs 13 (cI 0)),
gD 15 12 false (.bin .lss 14 (.c (.p (.int .u8 97)))),
uO 16 (.pick 12 cT 15),
mV 17 16,
gD 18 17 false (.mv 0),
gD 19 17 false (.idxs 18 (cI 0)),
gD 20 17 false (.bin .gtr 19 (.c (.p (.int .u8 122)))),
uO 21 (.pick 17 cT 20)] [0,21])
(.cond 21 (.seq (rg [mV 2 cF] [2])
.ret)
.skip))
(.seq (.seq (rg [mV 22 0,
uO 23 (.lens 22),
mV 24 (cI 0)] [0,23,24])
(.block 0 (.loop q1)))
q2)))
def a_q006 : AFun:=⟨1,[.t 2],P_q006 p_q006_k1 p_q006_k2,false,false⟩
def d_q006 (C : Hd) (gl : GL) (q1 q2 : ACode) (v0 : AV) (h : Heap) (x : Esc) (K : KT) : Prop:=
 pK (oBin .eql v0 (.p (.str []))) fun t1=>
 gM t1 false v0 h fun t2 h3 y4=>
 gP t1 false (oLens t2) h3 fun t5 h6 y7=>
 gP t1 false (oBin .gtr t5 (AI 40)) h6 fun t8 h9 y10=>
 pK (oPick t1 (AB true) t8) fun t11=>
 gM t11 false v0 h9 fun t12 h13 y14=>
 gP t11 false (oIdxs t12 (AI 0)) h13 fun t15 h16 y17=>
 gP t11 false (oBin .lss t15 (.p (.int .u8 97))) h16 fun t18 h19 y20=>
 pK (oPick t11 (AB true) t18) fun t21=>
 gM t21 false v0 h19 fun t22 h23 y24=>
 gP t21 false (oIdxs t22 (AI 0)) h23 fun t25 h26 y27=>
 gP t21 false (oBin .gtr t25 (.p (.int .u8 122))) h26 fun t28 h29 y30=>
 pK (oPick t21 (AB true) t28) fun t31=>
 condB t31 (K .ret ⟨[(2,(AB false))],h29,(y30 ++ (y27 ++ (y24 ++ (y20 ++ (y17 ++ (y14 ++ (y10 ++ (y7 ++ (y4 ++ x)))))))))⟩)
 (pK (oLens v0) fun t32=>
 NW C gl (.loop q1) ⟨[(0,v0),(23,t32),(24,(AI 0))],h29,(y30 ++ (y27 ++ (y24 ++ (y20 ++ (y17 ++ (y14 ++ (y10 ++ (y7 ++ (y4 ++ x)))))))))⟩ (blockN 0 (seqN C gl q2 K)))
theorem E_q006 {C gl q1 q2 v0 h x K} : NW C gl (P_q006 q1 q2) ⟨enter [v0],h,x⟩ K = d_q006 C gl q1 q2 v0 h x K:=by kernel_rfl
theorem e_q006 {C gl v0 h x K} : NW C gl a_q006.body ⟨enter [v0],h,x⟩ K = d_q006 C gl p_q006_k1 p_q006_k2 v0 h x K:=E_q006
end Go.Am
end
