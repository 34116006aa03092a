/- Texts of the proof, laid together: CodesA, CodesB. -/
import Derived.KernelRfl
import Derived.Test.YtigceehkfnbmjaaGreatDoorlawSA4
set_option linter.all false
section
/- The functions asv abstract code,and asv formulas over their values: printed by program out of the translation. -/
set_option linter.unusedVariables false
set_option maxRecDepth 100000
namespace Go.Am
def p_q01t_k1 : ACode:=.pr [4,5,6,8,10,12,107,108,152,153] (.seq (rg [bN 154 .lss 153 152] [4,5,6,8,10,12,107,108,152,153,154])
(.seq (.cond 154 .skip
(.exit 2))
(.seq (.block 3 (.seq (rg [mV 155 153,
mV 13 155] [4,5,6,8,10,12,13,107,108,152,153])
(.seq (dr [dF (mV 156 6) [6],
dF (mV 157 12) [12],
dF (iA 158 none 156 157) [156,157],
dF (lD 159 none 158) [158],
dF (mV 160 13) [13],
dF (uO 161 (.idxs 159 160)) [159,160],
dF (mV 162 10) [10],
dF (mV 163 12) [12],
dF (iA 164 none 162 163) [162,163],
dF (lD 165 none 164) [164],
dF (mV 166 13) [13],
dF (uO 167 (.idxs 165 166)) [165,166],
dF (bN 168 .gtr 161 167) [161,167],
dF (mV 169 168) [168],
dF (gD 170 169 false (.mv 10)) [10,169],
dF (gD 171 169 false (.mv 12)) [12,169],
dF (gD 172 169 false (.iaddr none 170 171)) [170,171,169],
dF (gD 173 169 false (.load none 172)) [172,169],
dF (gD 174 169 false (.mv 13)) [13,169],
dF (gD 175 169 false (.idxs 173 174)) [173,174,169],
dF (gD 176 169 false (.mv 8)) [8,169],
dF (gD 177 169 false (.mv 12)) [12,169],
dF (gD 178 169 false (.iaddr none 176 177)) [176,177,169],
dF (gD 179 169 false (.load none 178)) [178,169],
dF (gD 180 169 false (.mv 13)) [13,169],
dF (gD 181 169 false (.idxs 179 180)) [179,180,169],
dF (gD 182 169 false (.bin .gtr 175 181)) [175,181,169],
dF (uO 183 (.pick 169 cT 182)) [169,182]] [4,5,6,8,10,12,107,108,152,153,183])
(.cond 183 (.seq (rg [mV 2 cF] [2])
.ret)
.skip))))
(rg [bN 184 .add 153 (cI 1),
mV 153 184] [4,5,6,8,10,12,107,108,152,153]))))
def d_q01t_k1 (C : Hd) (gl : GL) (v4 v5 v6 v8 v10 v12 v107 v108 v152 v153 : AV) (h : Heap) (x : Esc) (K : KT) : Prop:=
 pK (oBin .lss v153 v152) fun t1=>
 condB t1 (pK (oIaddr none v6 v12 h) fun t2=>
 pK (oLoad none t2 h) fun t3=>
 pK (oIdxs t3 v153) fun t4=>
 pK (oIaddr none v10 v12 h) fun t5=>
 pK (oLoad none t5 h) fun t6=>
 pK (oIdxs t6 v153) fun t7=>
 pK (oBin .gtr t4 t7) fun t8=>
 gM t8 false v10 h fun t9 h10 y11=>
 gM t8 false v12 h10 fun t12 h13 y14=>
 gP t8 false (oIaddr none t9 t12 h13) h13 fun t15 h16 y17=>
 gP t8 false (oLoad none t15 h16) h16 fun t18 h19 y20=>
 gM t8 false v153 h19 fun t21 h22 y23=>
 gP t8 false (oIdxs t18 t21) h22 fun t24 h25 y26=>
 gM t8 false v8 h25 fun t27 h28 y29=>
 gM t8 false v12 h28 fun t30 h31 y32=>
 gP t8 false (oIaddr none t27 t30 h31) h31 fun t33 h34 y35=>
 gP t8 false (oLoad none t33 h34) h34 fun t36 h37 y38=>
 gM t8 false v153 h37 fun t39 h40 y41=>
 gP t8 false (oIdxs t36 t39) h40 fun t42 h43 y44=>
 gP t8 false (oBin .gtr t24 t42) h43 fun t45 h46 y47=>
 pK (oPick t8 (AB true) t45) fun t48=>
 condB t48 (K .ret ⟨[(2,(AB false))],h46,(y47 ++ (y44 ++ (y41 ++ (y38 ++ (y35 ++ (y32 ++ (y29 ++ (y26 ++ (y23 ++ (y20 ++ (y17 ++ (y14 ++ (y11 ++ x)))))))))))))⟩)
 (pK (oBin .add v153 (AI 1)) fun t49=>
 K .normal ⟨[(4,v4),(5,v5),(6,v6),(8,v8),(10,v10),(12,v12),(107,v107),(108,v108),(152,v152),(153,t49)],h46,(y47 ++ (y44 ++ (y41 ++ (y38 ++ (y35 ++ (y32 ++ (y29 ++ (y26 ++ (y23 ++ (y20 ++ (y17 ++ (y14 ++ (y11 ++ x)))))))))))))⟩))
 (K (.exit 2) ⟨[(4,v4),(5,v5),(6,v6),(8,v8),(10,v10),(12,v12),(107,v107),(108,v108),(152,v152),(153,v153),(154,t1)],h,x⟩)
theorem e_q01t_k1 {C gl e h x K} : NW C gl p_q01t_k1 ⟨e,h,x⟩ K = d_q01t_k1 C gl (aget e 4) (aget e 5) (aget e 6) (aget e 8) (aget e 10) (aget e 12) (aget e 107) (aget e 108) (aget e 152) (aget e 153) h x K:=by kernel_rfl
theorem l_q01t_k1 {C gl e h x K} : NW C gl (.loop p_q01t_k1) ⟨e,h,x⟩ K = NLoop C gl p_q01t_k1 K [(4,aget e 4),(5,aget e 5),(6,aget e 6),(8,aget e 8),(10,aget e 10),(12,aget e 12),(107,aget e 107),(108,aget e 108),(152,aget e 152),(153,aget e 153)] h x:=NLoop_pr
def p_q01t_k2 : ACode:=.pr [4,5,6,8,10,107,108] (rg [bN 185 .add 108 (cI 1),
mV 108 185] [4,5,6,8,10,107,108])
def d_q01t_k2 (C : Hd) (gl : GL) (v4 v5 v6 v8 v10 v107 v108 : AV) (h : Heap) (x : Esc) (K : KT) : Prop:=
 pK (oBin .add v108 (AI 1)) fun t1=>
 K .normal ⟨[(4,v4),(5,v5),(6,v6),(8,v8),(10,v10),(107,v107),(108,t1)],h,x⟩
theorem e_q01t_k2 {C gl e h x K} : NW C gl p_q01t_k2 ⟨e,h,x⟩ K = d_q01t_k2 C gl (aget e 4) (aget e 5) (aget e 6) (aget e 8) (aget e 10) (aget e 107) (aget e 108) h x K:=by kernel_rfl
def P_q01t_k3 (q1 q2 : ACode) : ACode:=.pr [4,5,6,8,10,107,108] (.seq (rg [bN 109 .lss 108 107] [4,5,6,8,10,107,108,109])
(.seq (.cond 109 .skip
(.exit 0))
(.seq (.block 1 (.seq (rg [mV 110 108,
mV 12 110] [4,5,6,8,10,12,107,108])
(.seq (.seq (dr [dF (mV 111 6) [6],
dF (mV 112 12) [12],
dF (iA 113 none 111 112) [111,112],
dF (lD 114 none 113) [113],
dF (uO 115 (.lens 114)) [114],
dF (mV 116 4) [4],
dF (mV 117 12) [12],
dF (iA 118 none 116 117) [116,117],
dF (lD 119 none 118) [118],
dF (uO 120 (.lens 119)) [119],
dF (bN 121 .neq 115 120) [115,120],
dF (mV 122 121) [121],
dF (gD 123 122 false (.mv 8)) [8,122],
dF (gD 124 122 false (.mv 12)) [12,122],
dF (gD 125 122 false (.iaddr none 123 124)) [123,124,122],
dF (gD 126 122 false (.load none 125)) [125,122],
dF (gD 127 122 false (.lens 126)) [126,122],
dF (gD 128 122 false (.mv 4)) [4,122],
dF (gD 129 122 false (.mv 12)) [12,122],
dF (gD 130 122 false (.iaddr none 128 129)) [128,129,122],
dF (gD 131 122 false (.load none 130)) [130,122],
dF (gD 132 122 false (.lens 131)) [131,122],
dF (gD 133 122 false (.bin .neq 127 132)) [127,132,122],
dF (uO 134 (.pick 122 cT 133)) [122,133],
dF (mV 135 134) [134],
dF (gD 136 135 false (.mv 10)) [10,135],
dF (gD 137 135 false (.mv 12)) [12,135],
dF (gD 138 135 false (.iaddr none 136 137)) [136,137,135],
dF (gD 139 135 false (.load none 138)) [138,135],
dF (gD 140 135 false (.lens 139)) [139,135],
dF (gD 141 135 false (.mv 4)) [4,135],
dF (gD 142 135 false (.mv 12)) [12,135],
dF (gD 143 135 false (.iaddr none 141 142)) [141,142,135],
dF (gD 144 135 false (.load none 143)) [143,135],
dF (gD 145 135 false (.lens 144)) [144,135],
dF (gD 146 135 false (.bin .neq 140 145)) [140,145,135],
dF (uO 147 (.pick 135 cT 146)) [135,146]] [4,5,6,8,10,12,107,108,147])
(.cond 147 (.seq (rg [mV 2 cF] [2])
.ret)
.skip))
(.seq (rg [mV 148 4,
mV 149 12,
iA 150 none 148 149,
lD 151 none 150,
uO 152 (.lens 151),
mV 153 (cI 0)] [4,5,6,8,10,12,107,108,152,153])
(.block 2 (.loop q1))))))
q2)))
def p_q01t_k3 : ACode:=P_q01t_k3 p_q01t_k1 p_q01t_k2
def d_q01t_k3 (C : Hd) (gl : GL) (q1 q2 : ACode) (v4 v5 v6 v8 v10 v107 v108 : AV) (h : Heap) (x : Esc) (K : KT) : Prop:=
 pK (oBin .lss v108 v107) fun t1=>
 condB t1 (pK (oIaddr none v6 v108 h) fun t2=>
 pK (oLoad none t2 h) fun t3=>
 pK (oLens t3) fun t4=>
 pK (oIaddr none v4 v108 h) fun t5=>
 pK (oLoad none t5 h) fun t6=>
 pK (oLens t6) fun t7=>
 pK (oBin .neq t4 t7) fun t8=>
 gM t8 false v8 h fun t9 h10 y11=>
 gM t8 false v108 h10 fun t12 h13 y14=>
 gP t8 false (oIaddr none t9 t12 h13) h13 fun t15 h16 y17=>
 gP t8 false (oLoad none t15 h16) h16 fun t18 h19 y20=>
 gP t8 false (oLens t18) h19 fun t21 h22 y23=>
 gM t8 false v4 h22 fun t24 h25 y26=>
 gM t8 false v108 h25 fun t27 h28 y29=>
 gP t8 false (oIaddr none t24 t27 h28) h28 fun t30 h31 y32=>
 gP t8 false (oLoad none t30 h31) h31 fun t33 h34 y35=>
 gP t8 false (oLens t33) h34 fun t36 h37 y38=>
 gP t8 false (oBin .neq t21 t36) h37 fun t39 h40 y41=>
 pK (oPick t8 (AB true) t39) fun t42=>
 gM t42 false v10 h40 fun t43 h44 y45=>
 gM t42 false v108 h44 fun t46 h47 y48=>
 gP t42 false (oIaddr none t43 t46 h47) h47 fun t49 h50 y51=>
 gP t42 false (oLoad none t49 h50) h50 fun t52 h53 y54=>
 gP t42 false (oLens t52) h53 fun t55 h56 y57=>
 gM t42 false v4 h56 fun t58 h59 y60=>
 gM t42 false v108 h59 fun t61 h62 y63=>
 gP t42 false (oIaddr none t58 t61 h62) h62 fun t64 h65 y66=>
 gP t42 false (oLoad none t64 h65) h65 fun t67 h68 y69=>
 gP t42 false (oLens t67) h68 fun t70 h71 y72=>
 gP t42 false (oBin .neq t55 t70) h71 fun t73 h74 y75=>
 pK (oPick t42 (AB true) t73) fun t76=>
 condB t76 (K .ret ⟨[(2,(AB false))],h74,(y75 ++ (y72 ++ (y69 ++ (y66 ++ (y63 ++ (y60 ++ (y57 ++ (y54 ++ (y51 ++ (y48 ++ (y45 ++ (y41 ++ (y38 ++ (y35 ++ (y32 ++ (y29 ++ (y26 ++ (y23 ++ (y20 ++ (y17 ++ (y14 ++ (y11 ++ x))))))))))))))))))))))⟩)
 (pK (oIaddr none v4 v108 h74) fun t77=>
 pK (oLoad none t77 h74) fun t78=>
 pK (oLens t78) fun t79=>
 NW C gl (.loop q1) ⟨[(4,v4),(5,v5),(6,v6),(8,v8),(10,v10),(12,v108),(107,v107),(108,v108),(152,t79),(153,(AI 0))],h74,(y75 ++ (y72 ++ (y69 ++ (y66 ++ (y63 ++ (y60 ++ (y57 ++ (y54 ++ (y51 ++ (y48 ++ (y45 ++ (y41 ++ (y38 ++ (y35 ++ (y32 ++ (y29 ++ (y26 ++ (y23 ++ (y20 ++ (y17 ++ (y14 ++ (y11 ++ x))))))))))))))))))))))⟩ (blockN 2 (blockN 1 (seqN C gl q2 K)))))
 (K (.exit 0) ⟨[(4,v4),(5,v5),(6,v6),(8,v8),(10,v10),(107,v107),(108,v108),(109,t1)],h,x⟩)
theorem E_q01t_k3 {C gl q1 q2 e h x K} : NW C gl (P_q01t_k3 q1 q2) ⟨e,h,x⟩ K = d_q01t_k3 C gl q1 q2 (aget e 4) (aget e 5) (aget e 6) (aget e 8) (aget e 10) (aget e 107) (aget e 108) h x K:=by kernel_rfl
theorem e_q01t_k3 {C gl e h x K} : NW C gl p_q01t_k3 ⟨e,h,x⟩ K = d_q01t_k3 C gl p_q01t_k1 p_q01t_k2 (aget e 4) (aget e 5) (aget e 6) (aget e 8) (aget e 10) (aget e 107) (aget e 108) h x K:=E_q01t_k3
theorem l_q01t_k3 {C gl e h x K} : NW C gl (.loop p_q01t_k3) ⟨e,h,x⟩ K = NLoop C gl p_q01t_k3 K [(4,aget e 4),(5,aget e 5),(6,aget e 6),(8,aget e 8),(10,aget e 10),(107,aget e 107),(108,aget e 108)] h x:=NLoop_pr
def p_q01t_k4 : ACode:=.pr [5,189,190,191] (.seq (rg [bN 192 .lss 191 190] [5,189,190,191,192])
(.seq (.cond 192 .skip
(.exit 4))
(.seq (.block 5 (.seq (rg [iA 193 none 189 191,
lD 194 none 193,
mV 15 194] [5,15,189,190,191])
(.seq (dr [dF (mV 195 15) [15],
dF (mV 196 5) [5],
dF (iA 197 none 196 (cI 0)) [196],
dF (lD 198 none 197) [197],
dF (iA 199 none 195 198) [195,198],
dF (lD 200 none 199) [199],
dF (mV 201 15) [15],
dF (mV 202 5) [5],
dF (iA 203 none 202 (cI 1)) [202],
dF (lD 204 none 203) [203],
dF (iA 205 none 201 204) [201,204],
dF (lD 206 none 205) [205],
dF (bN 207 .neq 200 206) [200,206]] [5,189,190,191,207])
(.cond 207 (.seq (rg [mV 2 cF] [2])
.ret)
.skip))))
(rg [bN 208 .add 191 (cI 1),
mV 191 208] [5,189,190,191]))))
def d_q01t_k4 (C : Hd) (gl : GL) (v5 v189 v190 v191 : AV) (h : Heap) (x : Esc) (K : KT) : Prop:=
 pK (oBin .lss v191 v190) fun t1=>
 condB t1 (pK (oIaddr none v189 v191 h) fun t2=>
 pK (oLoad none t2 h) fun t3=>
 pK (oIaddr none v5 (AI 0) h) fun t4=>
 pK (oLoad none t4 h) fun t5=>
 pK (oIaddr none t3 t5 h) fun t6=>
 pK (oLoad none t6 h) fun t7=>
 pK (oIaddr none v5 (AI 1) h) fun t8=>
 pK (oLoad none t8 h) fun t9=>
 pK (oIaddr none t3 t9 h) fun t10=>
 pK (oLoad none t10 h) fun t11=>
 pK (oBin .neq t7 t11) fun t12=>
 condB t12 (K .ret ⟨[(2,(AB false))],h,x⟩)
 (pK (oBin .add v191 (AI 1)) fun t13=>
 K .normal ⟨[(5,v5),(189,v189),(190,v190),(191,t13)],h,x⟩))
 (K (.exit 4) ⟨[(5,v5),(189,v189),(190,v190),(191,v191),(192,t1)],h,x⟩)
theorem e_q01t_k4 {C gl e h x K} : NW C gl p_q01t_k4 ⟨e,h,x⟩ K = d_q01t_k4 C gl (aget e 5) (aget e 189) (aget e 190) (aget e 191) h x K:=by kernel_rfl
theorem l_q01t_k4 {C gl e h x K} : NW C gl (.loop p_q01t_k4) ⟨e,h,x⟩ K = NLoop C gl p_q01t_k4 K [(5,aget e 5),(189,aget e 189),(190,aget e 190),(191,aget e 191)] h x:=NLoop_pr
def p_q01t_k5 : ACode:=.pr [] (.seq (rg [cL 209 f_q01v [],
mV 2 209] [2])
.ret)
def d_q01t_k5 (C : Hd) (gl : GL) (h : Heap) (x : Esc) (K : KT) : Prop:=
 C f_q01v [] h fun t1 h2 y3=>
 K .ret ⟨[(2,t1)],h2,(y3 ++ x)⟩
theorem e_q01t_k5 {C gl e h x K} : NW C gl p_q01t_k5 ⟨e,h,x⟩ K = d_q01t_k5 C gl h x K:=by kernel_rfl
def P_q01t_k6 (q4 q5 : ACode) : ACode:=.pr [5,6,8,10] (.seq (.seq (rg [mV 186 6,
mV 187 8,
mV 188 10,
uO 189 (.bsl false none 3 (.sl none []) [(0,186),(1,187),(2,188)]),
lN 190 189,
mV 191 (cI 0)] [5,189,190,191])
(.block 4 (.loop q4)))
q5)
def p_q01t_k6 : ACode:=P_q01t_k6 p_q01t_k4 p_q01t_k5
def d_q01t_k6 (C : Hd) (gl : GL) (q4 q5 : ACode) (v5 v6 v8 v10 : AV) (h : Heap) (x : Esc) (K : KT) : Prop:=
 wK (oBsl false none 3 (.sl none []) [(0,v6),(1,v8),(2,v10)] h) fun t1 h2 y3=>
 pK (oLen t1) fun t4=>
 NW C gl (.loop q4) ⟨[(5,v5),(189,t1),(190,t4),(191,(AI 0))],h2,(y3 ++ x)⟩ (blockN 4 (seqN C gl q5 K))
theorem E_q01t_k6 {C gl q4 q5 e h x K} : NW C gl (P_q01t_k6 q4 q5) ⟨e,h,x⟩ K = d_q01t_k6 C gl q4 q5 (aget e 5) (aget e 6) (aget e 8) (aget e 10) h x K:=by kernel_rfl
theorem e_q01t_k6 {C gl e h x K} : NW C gl p_q01t_k6 ⟨e,h,x⟩ K = d_q01t_k6 C gl p_q01t_k4 p_q01t_k5 (aget e 5) (aget e 6) (aget e 8) (aget e 10) h x K:=E_q01t_k6
def P_q01t (q3 q6 : ACode) : ACode:=(.seq (rg [mV 2 cF] [0])
(.seq (rg [mV 16 0,
uO 17 (.build [.sl0 none,.p (.int .i64 0)] [(0,1,16)]),
uO 18 (.box 17),
mV 3 18] [3])
(.seq (rg [mV 19 3,
cL 20 f_q02a [19],
mV 4 20] [3,4])
(.seq (.seq (rg [mV 21 4,
lN 22 21,
bN 23 .lss 22 (cI 2)] [3,4,23])
(.cond 23 (.seq (rg [cL 24 f_q01v [],
mV 2 24] [2])
.ret)
.skip))
(.seq (rg [mV 25 3,
mV 26 4,
lN 27 26,
cL 28 f_q027 [25,27],
uO 29 (.slice none 28 none (some (cI 2)) none),
mV 5 29] [4,5])
(.seq (dr [dF (mV 31 4) [4],
dF (mV 32 5) [5],
dF (iA 33 none 32 (cI 0)) [32],
dF (lD 34 none 33) [33],
dF (mV 35 5) [5],
dF (iA 36 none 35 (cI 1)) [35],
dF (lD 37 none 36) [36],
dF (uO 38 (.mn [34,37])) [34,37],
dF (mV 39 5) [5],
dF (iA 40 none 39 (cI 0)) [39],
dF (lD 41 none 40) [40],
dF (mV 42 5) [5],
dF (iA 43 none 42 (cI 1)) [42],
dF (lD 44 none 43) [43],
dF (uO 45 (.mx [41,44])) [41,44],
dF (uO 46 (.bsl false none 2 (.int .i64 0) [(0,38),(1,45)])) [38,45],
dF (uO 47 (.build [.p (.int .i64 0),.sl0 none] [(0,1,(cI 3)),(1,1,46)])) [46],
dT (cL 48 f_q010 [31,47]) [31,47],
dF (mV 30 48) [48],
dF (eX 49 30 0) [30],
dF (eX 50 30 1) [30],
dF (mV 6 49) [49],
dF (mV 7 50) [50]] [4,5,6,7])
(.seq (dr [dF (mV 52 4) [4],
dF (mV 53 5) [5],
dF (iA 54 none 53 (cI 0)) [53],
dF (lD 55 none 54) [54],
dF (mV 56 5) [5],
dF (iA 57 none 56 (cI 1)) [56],
dF (lD 58 none 57) [57],
dF (uO 59 (.mn [55,58])) [55,58],
dF (mV 60 5) [5],
dF (iA 61 none 60 (cI 0)) [60],
dF (lD 62 none 61) [61],
dF (mV 63 5) [5],
dF (iA 64 none 63 (cI 1)) [63],
dF (lD 65 none 64) [64],
dF (uO 66 (.mx [62,65])) [62,65],
dF (uO 67 (.bsl false none 2 (.int .i64 0) [(0,59),(1,66)])) [59,66],
dF (uO 68 (.build [.p (.int .i64 0),.sl0 none] [(0,1,(cI 4)),(1,1,67)])) [67],
dT (cL 69 f_q010 [52,68]) [52,68],
dF (mV 51 69) [69],
dF (eX 70 51 0) [51],
dF (eX 71 51 1) [51],
dF (mV 8 70) [70],
dF (mV 9 71) [71]] [4,5,6,7,8,9])
(.seq (rg [mV 73 4,
mV 74 5,
uO 75 (.build [.p (.int .i64 0),.sl0 none] [(0,1,(cI 5)),(1,1,74)]),
cL 76 f_q010 [73,75],
mV 72 76,
eX 77 72 0,
eX 78 72 1,
mV 10 77,
mV 11 78] [4,5,6,7,8,9,10,11])
(.seq (.seq (rg [mV 79 7,
mV 80 9,
mV 81 11,
uO 82 (.bsl false none 3 (.int .i64 0) [(0,79),(1,80),(2,81)]),
cL 83 f_q01u [82],
bN 84 .neq 83 (cI 0),
mV 85 84,
gD 86 85 false (.mv 6),
gD 87 85 false (.len 86),
gD 88 85 false (.mv 4),
gD 89 85 false (.len 88),
gD 90 85 false (.bin .neq 87 89),
uO 91 (.pick 85 cT 90),
mV 92 91,
gD 93 92 false (.mv 8),
gD 94 92 false (.len 93),
gD 95 92 false (.mv 4),
gD 96 92 false (.len 95),
gD 97 92 false (.bin .neq 94 96),
uO 98 (.pick 92 cT 97),
mV 99 98,
gD 100 99 false (.mv 10),
gD 101 99 false (.len 100),
gD 102 99 false (.mv 4),
gD 103 99 false (.len 102),
gD 104 99 false (.bin .neq 101 103),
uO 105 (.pick 99 cT 104)] [4,5,6,8,10,105])
(.cond 105 (.seq (rg [mV 2 cF] [2])
.ret)
.skip))
(.seq (.seq (rg [mV 106 4,
lN 107 106,
mV 108 (cI 0)] [4,5,6,8,10,107,108])
(.block 0 (.loop q3)))
q6))))))))))
def a_q01t : AFun:=⟨1,[.t 2],P_q01t p_q01t_k3 p_q01t_k6,false,false⟩
def d_q01t (C : Hd) (gl : GL) (q3 q6 : ACode) (v0 : AV) (h : Heap) (x : Esc) (K : KT) : Prop:=
 pK (oBuild [.sl0 none,.p (.int .i64 0)] [(0,1,v0)]) fun t1=>
 wK (oBox t1 h) fun t2 h3 y4=>
 C f_q02a [t2] h3 fun t5 h6 y7=>
 pK (oLen t5) fun t8=>
 pK (oBin .lss t8 (AI 2)) fun t9=>
 condB t9 (C f_q01v [] h6 fun t10 h11 y12=>
 K .ret ⟨[(2,t10)],h11,(y12 ++ (y7 ++ (y4 ++ x)))⟩)
 (pK (oLen t5) fun t13=>
 C f_q027 [t2,t13] h6 fun t14 h15 y16=>
 pK (oSlice none t14 none (some (AI 2)) none h15) fun t17=>
 pK (oIaddr none t17 (AI 0) h15) fun t18=>
 pK (oLoad none t18 h15) fun t19=>
 pK (oIaddr none t17 (AI 1) h15) fun t20=>
 pK (oLoad none t20 h15) fun t21=>
 pK (oMn [t19,t21]) fun t22=>
 pK (oIaddr none t17 (AI 0) h15) fun t23=>
 pK (oLoad none t23 h15) fun t24=>
 pK (oIaddr none t17 (AI 1) h15) fun t25=>
 pK (oLoad none t25 h15) fun t26=>
 pK (oMx [t24,t26]) fun t27=>
 wK (oBsl false none 2 (.int .i64 0) [(0,t22),(1,t27)] h15) fun t28 h29 y30=>
 (h29 = h15 ∧ y30 = []) ∧ (pK (oBuild [.p (.int .i64 0),.sl0 none] [(0,1,(AI 3)),(1,1,t28)]) fun t31=>
 callE C f_q010 [t5,t31] h29 fun t32 h33 y34=>
 pK (oExt t32 0) fun t35=>
 pK (oExt t32 1) fun t36=>
 pK (oIaddr none t17 (AI 0) h33) fun t37=>
 pK (oLoad none t37 h33) fun t38=>
 pK (oIaddr none t17 (AI 1) h33) fun t39=>
 pK (oLoad none t39 h33) fun t40=>
 pK (oMn [t38,t40]) fun t41=>
 pK (oIaddr none t17 (AI 0) h33) fun t42=>
 pK (oLoad none t42 h33) fun t43=>
 pK (oIaddr none t17 (AI 1) h33) fun t44=>
 pK (oLoad none t44 h33) fun t45=>
 pK (oMx [t43,t45]) fun t46=>
 wK (oBsl false none 2 (.int .i64 0) [(0,t41),(1,t46)] h33) fun t47 h48 y49=>
 (h48 = h33 ∧ y49 = []) ∧ (pK (oBuild [.p (.int .i64 0),.sl0 none] [(0,1,(AI 4)),(1,1,t47)]) fun t50=>
 callE C f_q010 [t5,t50] h48 fun t51 h52 y53=>
 pK (oExt t51 0) fun t54=>
 pK (oExt t51 1) fun t55=>
 pK (oBuild [.p (.int .i64 0),.sl0 none] [(0,1,(AI 5)),(1,1,t17)]) fun t56=>
 C f_q010 [t5,t56] h52 fun t57 h58 y59=>
 pK (oExt t57 0) fun t60=>
 pK (oExt t57 1) fun t61=>
 wK (oBsl false none 3 (.int .i64 0) [(0,t36),(1,t55),(2,t61)] h58) fun t62 h63 y64=>
 C f_q01u [t62] h63 fun t65 h66 y67=>
 pK (oBin .neq t65 (AI 0)) fun t68=>
 gM t68 false t35 h66 fun t69 h70 y71=>
 gP t68 false (oLen t69) h70 fun t72 h73 y74=>
 gM t68 false t5 h73 fun t75 h76 y77=>
 gP t68 false (oLen t75) h76 fun t78 h79 y80=>
 gP t68 false (oBin .neq t72 t78) h79 fun t81 h82 y83=>
 pK (oPick t68 (AB true) t81) fun t84=>
 gM t84 false t54 h82 fun t85 h86 y87=>
 gP t84 false (oLen t85) h86 fun t88 h89 y90=>
 gM t84 false t5 h89 fun t91 h92 y93=>
 gP t84 false (oLen t91) h92 fun t94 h95 y96=>
 gP t84 false (oBin .neq t88 t94) h95 fun t97 h98 y99=>
 pK (oPick t84 (AB true) t97) fun t100=>
 gM t100 false t60 h98 fun t101 h102 y103=>
 gP t100 false (oLen t101) h102 fun t104 h105 y106=>
 gM t100 false t5 h105 fun t107 h108 y109=>
 gP t100 false (oLen t107) h108 fun t110 h111 y112=>
 gP t100 false (oBin .neq t104 t110) h111 fun t113 h114 y115=>
 pK (oPick t100 (AB true) t113) fun t116=>
 condB t116 (K .ret ⟨[(2,(AB false))],h114,(y115 ++ (y112 ++ (y109 ++ (y106 ++ (y103 ++ (y99 ++ (y96 ++ (y93 ++ (y90 ++ (y87 ++ (y83 ++ (y80 ++ (y77 ++ (y74 ++ (y71 ++ (y67 ++ (y64 ++ (y59 ++ (y53 ++ (y49 ++ (y34 ++ (y30 ++ (y16 ++ (y7 ++ (y4 ++ x)))))))))))))))))))))))))⟩)
 (pK (oLen t5) fun t117=>
 NW C gl (.loop q3) ⟨[(4,t5),(5,t17),(6,t35),(8,t54),(10,t60),(107,t117),(108,(AI 0))],h114,(y115 ++ (y112 ++ (y109 ++ (y106 ++ (y103 ++ (y99 ++ (y96 ++ (y93 ++ (y90 ++ (y87 ++ (y83 ++ (y80 ++ (y77 ++ (y74 ++ (y71 ++ (y67 ++ (y64 ++ (y59 ++ (y53 ++ (y49 ++ (y34 ++ (y30 ++ (y16 ++ (y7 ++ (y4 ++ x)))))))))))))))))))))))))⟩ (blockN 0 (seqN C gl q6 K))))))
theorem E_q01t {C gl q3 q6 v0 h x K} : NW C gl (P_q01t q3 q6) ⟨enter [v0],h,x⟩ K = d_q01t C gl q3 q6 v0 h x K:=by kernel_rfl
theorem e_q01t {C gl v0 h x K} : NW C gl a_q01t.body ⟨enter [v0],h,x⟩ K = d_q01t C gl p_q01t_k3 p_q01t_k6 v0 h x K:=E_q01t
def p_q022_k1 : ACode:=.pr [0,3,4,5,11,12,14,15] (.seq (rg [bN 16 .lss 15 14] [0,3,4,5,11,12,14,15,16])
(.seq (.cond 16 .skip
(.exit 2))
(.seq (.block 3 (rg [mV 17 5,
mV 18 0,
uO 19 (.bsl false none 2 (.str []) [(0,(cS [48])),(1,(cS [49]))]),
cL 20 f_q02b [18,19],
bN 21 .add 17 20,
mV 5 21] [0,3,4,5,11,12,14,15]))
(rg [bN 22 .add 15 (cI 1),
mV 15 22] [0,3,4,5,11,12,14,15]))))
def d_q022_k1 (C : Hd) (gl : GL) (v0 v3 v4 v5 v11 v12 v14 v15 : AV) (h : Heap) (x : Esc) (K : KT) : Prop:=
 pK (oBin .lss v15 v14) fun t1=>
 condB t1 (wK (oBsl false none 2 (.str []) [(0,(.p (.str [48]))),(1,(.p (.str [49])))] h) fun t2 h3 y4=>
 C f_q02b [v0,t2] h3 fun t5 h6 y7=>
 pK (oBin .add v5 t5) fun t8=>
 pK (oBin .add v15 (AI 1)) fun t9=>
 K .normal ⟨[(0,v0),(3,v3),(4,v4),(5,t8),(11,v11),(12,v12),(14,v14),(15,t9)],h6,(y7 ++ (y4 ++ x))⟩)
 (K (.exit 2) ⟨[(0,v0),(3,v3),(4,v4),(5,v5),(11,v11),(12,v12),(14,v14),(15,v15),(16,t1)],h,x⟩)
theorem e_q022_k1 {C gl e h x K} : NW C gl p_q022_k1 ⟨e,h,x⟩ K = d_q022_k1 C gl (aget e 0) (aget e 3) (aget e 4) (aget e 5) (aget e 11) (aget e 12) (aget e 14) (aget e 15) h x K:=by kernel_rfl
theorem l_q022_k1 {C gl e h x K} : NW C gl (.loop p_q022_k1) ⟨e,h,x⟩ K = NLoop C gl p_q022_k1 K [(0,aget e 0),(3,aget e 3),(4,aget e 4),(5,aget e 5),(11,aget e 11),(12,aget e 12),(14,aget e 14),(15,aget e 15)] h x:=NLoop_pr
def p_q022_k2 : ACode:=.pr [0,3,4,5,11,12] (rg [mV 23 3,
mV 24 5,
uO 25 (.bsl false none 1 (.str []) [(0,24)]),
uO 26 (.app none 23 25),
mV 3 26] [0,3,4,11,12])
def d_q022_k2 (C : Hd) (gl : GL) (v0 v3 v4 v5 v11 v12 : AV) (h : Heap) (x : Esc) (K : KT) : Prop:=
 wK (oBsl false none 1 (.str []) [(0,v5)] h) fun t1 h2 y3=>
 wK (oApp none v3 t1 h2) fun t4 h5 y6=>
 K .normal ⟨[(0,v0),(3,t4),(4,v4),(11,v11),(12,v12)],h5,(y6 ++ (y3 ++ x))⟩
theorem e_q022_k2 {C gl e h x K} : NW C gl p_q022_k2 ⟨e,h,x⟩ K = d_q022_k2 C gl (aget e 0) (aget e 3) (aget e 4) (aget e 5) (aget e 11) (aget e 12) h x K:=by kernel_rfl
def p_q022_k3 : ACode:=.pr [0,3,4,11,12] (rg [bN 27 .add 12 (cI 1),
mV 12 27] [0,3,4,11,12])
def d_q022_k3 (C : Hd) (gl : GL) (v0 v3 v4 v11 v12 : AV) (h : Heap) (x : Esc) (K : KT) : Prop:=
 pK (oBin .add v12 (AI 1)) fun t1=>
 K .normal ⟨[(0,v0),(3,v3),(4,v4),(11,v11),(12,t1)],h,x⟩
theorem e_q022_k3 {C gl e h x K} : NW C gl p_q022_k3 ⟨e,h,x⟩ K = d_q022_k3 C gl (aget e 0) (aget e 3) (aget e 4) (aget e 11) (aget e 12) h x K:=by kernel_rfl
def P_q022_k4 (q1 q2 q3 : ACode) : ACode:=.pr [0,3,4,11,12] (.seq (rg [bN 13 .lss 12 11] [0,3,4,11,12,13])
(.seq (.cond 13 .skip
(.exit 0))
(.seq (.block 1 (.seq (rg [mV 5 (cS [])] [0,3,4,5,11,12])
(.seq (.seq (rg [mV 14 4,
mV 15 (cI 0)] [0,3,4,5,11,12,14,15])
(.block 2 (.loop q1)))
q2)))
q3)))
def p_q022_k4 : ACode:=P_q022_k4 p_q022_k1 p_q022_k2 p_q022_k3
def d_q022_k4 (C : Hd) (gl : GL) (q1 q2 q3 : ACode) (v0 v3 v4 v11 v12 : AV) (h : Heap) (x : Esc) (K : KT) : Prop:=
 pK (oBin .lss v12 v11) fun t1=>
 condB t1 (NW C gl (.loop q1) ⟨[(0,v0),(3,v3),(4,v4),(5,(.p (.str []))),(11,v11),(12,v12),(14,v4),(15,(AI 0))],h,x⟩ (blockN 2 (seqN C gl q2 (blockN 1 (seqN C gl q3 K)))))
 (K (.exit 0) ⟨[(0,v0),(3,v3),(4,v4),(11,v11),(12,v12),(13,t1)],h,x⟩)
theorem E_q022_k4 {C gl q1 q2 q3 e h x K} : NW C gl (P_q022_k4 q1 q2 q3) ⟨e,h,x⟩ K = d_q022_k4 C gl q1 q2 q3 (aget e 0) (aget e 3) (aget e 4) (aget e 11) (aget e 12) h x K:=by kernel_rfl
theorem e_q022_k4 {C gl e h x K} : NW C gl p_q022_k4 ⟨e,h,x⟩ K = d_q022_k4 C gl p_q022_k1 p_q022_k2 p_q022_k3 (aget e 0) (aget e 3) (aget e 4) (aget e 11) (aget e 12) h x K:=E_q022_k4
theorem l_q022_k4 {C gl e h x K} : NW C gl (.loop (.scope p_q022_k4)) ⟨e,h,x⟩ K = NLoop C gl (.scope p_q022_k4) K [(0,aget e 0),(3,aget e 3),(4,aget e 4),(11,aget e 11),(12,aget e 12)] h x:=NLoop_sc
def p_q022_k5 : ACode:=.pr [0,3,50,51] (.seq (rg [bN 52 .lss 51 50] [0,3,50,51,52])
(.seq (.cond 52 .skip
(.exit 5))
(.seq (.block 6 (.seq (rg [mV 53 51,
mV 6 53] [0,3,6,50,51])
(rg [mV 54 3,
mV 55 6,
mV 56 0,
uO 57 (.bsl false none 3 (.str []) [(0,(cS [48])),(1,(cS [49])),(2,(cS [48,49]))]),
cL 58 f_q02b [56,57],
mV 59 0,
cL 60 f_q029 [59,(cI 0),(cI 1)],
bN 61 .add (cI 32) 60,
cL 62 f_q04f [58,61],
mV 63 0,
cL 64 f_q029 [63,(cI 0),(cI 32)],
cL 65 f_q04f [(cS [49]),64],
bN 66 .add 62 65,
iA 67 none 54 55,
wO (.store none 67 66)] [0,3,50,51])))
(rg [bN 68 .add 51 (cI 1),
mV 51 68] [0,3,50,51]))))
def d_q022_k5 (C : Hd) (gl : GL) (v0 v3 v50 v51 : AV) (h : Heap) (x : Esc) (K : KT) : Prop:=
 pK (oBin .lss v51 v50) fun t1=>
 condB t1 (wK (oBsl false none 3 (.str []) [(0,(.p (.str [48]))),(1,(.p (.str [49]))),(2,(.p (.str [48,49])))] h) fun t2 h3 y4=>
 C f_q02b [v0,t2] h3 fun t5 h6 y7=>
 C f_q029 [v0,(AI 0),(AI 1)] h6 fun t8 h9 y10=>
 pK (oBin .add (AI 32) t8) fun t11=>
 C f_q04f [t5,t11] h9 fun t12 h13 y14=>
 C f_q029 [v0,(AI 0),(AI 32)] h13 fun t15 h16 y17=>
 C f_q04f [(.p (.str [49])),t15] h16 fun t18 h19 y20=>
 pK (oBin .add t12 t18) fun t21=>
 pK (oIaddr none v3 v51 h19) fun t22=>
 wK (oStore none t22 t21 h19) fun t23 h24 y25=>
 pK (oBin .add v51 (AI 1)) fun t26=>
 K .normal ⟨[(0,v0),(3,v3),(50,v50),(51,t26)],h24,(y25 ++ (y20 ++ (y17 ++ (y14 ++ (y10 ++ (y7 ++ (y4 ++ x)))))))⟩)
 (K (.exit 5) ⟨[(0,v0),(3,v3),(50,v50),(51,v51),(52,t1)],h,x⟩)
theorem e_q022_k5 {C gl e h x K} : NW C gl p_q022_k5 ⟨e,h,x⟩ K = d_q022_k5 C gl (aget e 0) (aget e 3) (aget e 50) (aget e 51) h x K:=by kernel_rfl
theorem l_q022_k5 {C gl e h x K} : NW C gl (.loop p_q022_k5) ⟨e,h,x⟩ K = NLoop C gl p_q022_k5 K [(0,aget e 0),(3,aget e 3),(50,aget e 50),(51,aget e 51)] h x:=NLoop_pr
def p_q022_k6 : ACode:=.pr [3] (.seq (rg [mV 69 3,
mV 2 69] [2])
.ret)
def d_q022_k6 (C : Hd) (gl : GL) (v3 : AV) (h : Heap) (x : Esc) (K : KT) : Prop:=
 K .ret ⟨[(2,v3)],h,x⟩
theorem e_q022_k6 {C gl e h x K} : NW C gl p_q022_k6 ⟨e,h,x⟩ K = d_q022_k6 C gl (aget e 3) h x K:=by kernel_rfl
def P_q022_k7 (q5 q6 : ACode) : ACode:=.pr [0,3] (.seq (.block 4 (.seq (rg [mV 29 0,
cL 30 f_q024 [29,(cI 20)],
mV 28 30] [0,3,28])
(.cond 28 (dr [dF (mV 31 3) [3],
dF (mV 32 0) [0],
dF (mV 33 3) [3],
dF (lN 34 33) [33],
dT (cL 35 f_q025 [32,34]) [32,34],
dF (iA 36 none 31 35) [31,35],
dF (lD 37 none 36) [36],
dF (mV 38 0) [0],
dA (uO 39 (.bsl false none 2 (.str []) [(0,(cS [48])),(1,(cS [120]))])) [] false [4] [],
dA (cL 40 f_q02b [38,39]) [38,39] true [] [5,6],
dF (bN 41 .add 37 40) [37,40],
dF (iA 42 none 31 35) [31,35],
dT (wO (.store none 42 41)) [42,41]] [3])
(.seq (rg [mV 44 0,
cL 45 f_q024 [44,(cI 40)],
mV 43 45] [0,3,43])
(.cond 43 (.seq (rg [mV 2 (.c (.p (.sl none [])))] [2])
.ret)
(.seq (rg [mV 47 0,
cL 48 f_q024 [47,(cI 40)],
mV 46 48] [0,3,46])
(.cond 46 (.seq (rg [mV 49 3,
lN 50 49,
mV 51 (cI 0)] [0,3,50,51])
(.block 5 (.loop q5)))
.skip)))))))
q6)
def p_q022_k7 : ACode:=P_q022_k7 p_q022_k5 p_q022_k6
def d_q022_k7 (C : Hd) (gl : GL) (q5 q6 : ACode) (v0 v3 : AV) (h : Heap) (x : Esc) (K : KT) : Prop:=
 C f_q024 [v0,(AI 20)] h fun t1 h2 y3=>
 condB t1 (pK (oLen v3) fun t4=>
 callE C f_q025 [v0,t4] h2 fun t5 h6 y7=>
 pK (oIaddr none v3 t5 h6) fun t8=>
 pK (oLoad none t8 h6) fun t9=>
 wK (oBsl false none 2 (.str []) [(0,(.p (.str [48]))),(1,(.p (.str [120])))] h6) fun t10 h11 y12=>
 (h11 = h6 ∧ y12 = []) ∧ ((wK (oBsl false none 2 (.str []) [(0,(.p (.str [48]))),(1,(.p (.str [120])))] h2) (fun u (g1 : Heap) (y1 : Esc)=>u = t10 ∧ g1 = h2 ∧ y1 = [])) ∧ (callE C f_q02b [v0,t10] h11 fun t13 h14 y15=>
 (pK (oIaddr none v3 t5 h14) fun v=>(fun u (g1 : Heap) (y1 : Esc)=>u = t8 ∧ g1 = h14 ∧ y1 = []) v h14 []) ∧ ((pK (oLoad none t8 h14) fun v=>(fun u (g1 : Heap) (y1 : Esc)=>u = t9 ∧ g1 = h14 ∧ y1 = []) v h14 []) ∧ (pK (oBin .add t9 t13) fun t16=>
 pK (oIaddr none v3 t5 h14) fun t17=>
 wK (oStore none t17 t16 h14) fun t18 h19 y20=>
 NW C gl q6 ⟨[(3,v3)],h19,(y20 ++ (y15 ++ (y12 ++ (y7 ++ (y3 ++ x)))))⟩ K)))))
 (C f_q024 [v0,(AI 40)] h2 fun t21 h22 y23=>
 condB t21 (K .ret ⟨[(2,(.p (.sl none [])))],h22,(y23 ++ (y3 ++ x))⟩)
 (C f_q024 [v0,(AI 40)] h22 fun t24 h25 y26=>
 condB t24 (pK (oLen v3) fun t27=>
 NW C gl (.loop q5) ⟨[(0,v0),(3,v3),(50,t27),(51,(AI 0))],h25,(y26 ++ (y23 ++ (y3 ++ x)))⟩ (blockN 5 (blockN 4 (seqN C gl q6 K))))
 (NW C gl q6 ⟨[(0,v0),(3,v3),(46,t24)],h25,(y26 ++ (y23 ++ (y3 ++ x)))⟩ K)))
theorem E_q022_k7 {C gl q5 q6 e h x K} : NW C gl (P_q022_k7 q5 q6) ⟨e,h,x⟩ K = d_q022_k7 C gl q5 q6 (aget e 0) (aget e 3) h x K:=by kernel_rfl
theorem e_q022_k7 {C gl e h x K} : NW C gl p_q022_k7 ⟨e,h,x⟩ K = d_q022_k7 C gl p_q022_k5 p_q022_k6 (aget e 0) (aget e 3) h x K:=E_q022_k7
def P_q022 (q4 q7 : ACode) : ACode:=(.seq (rg [mV 2 (.c (.p (.sl none [])))] [0])
(.seq (rg [uO 3 (.new0 none)] [0,3])
(.seq (rg [mV 7 0,
uO 8 (.bsl false none 6 (.int .i64 0) [(0,(cI 0)),(1,(cI 1)),(2,(cI 2)),(3,(cI 3)),(4,(cI 4)),(5,(cI 5))]),
cL 9 f_q028 [7,8],
mV 4 9] [0,3,4])
(.seq (.seq (rg [mV 10 0,
cL 11 f_q029 [10,(cI 1),(cI 5)],
mV 12 (cI 0)] [0,3,4,11,12])
(.block 0 (.loop (.scope q4))))
q7))))
def a_q022 : AFun:=⟨1,[.t 2],P_q022 p_q022_k4 p_q022_k7,false,false⟩
def d_q022 (C : Hd) (gl : GL) (q4 q7 : ACode) (v0 : AV) (h : Heap) (x : Esc) (K : KT) : Prop:=
 nwK none h fun t1 h2 y3=>
 wK (oBsl false none 6 (.int .i64 0) [(0,(AI 0)),(1,(AI 1)),(2,(AI 2)),(3,(AI 3)),(4,(AI 4)),(5,(AI 5))] h2) fun t4 h5 y6=>
 C f_q028 [v0,t4] h5 fun t7 h8 y9=>
 C f_q029 [v0,(AI 1),(AI 5)] h8 fun t10 h11 y12=>
 NW C gl (.loop (.scope q4)) ⟨[(0,v0),(3,t1),(4,t7),(11,t10),(12,(AI 0))],h11,(y12 ++ (y9 ++ (y6 ++ (y3 ++ x))))⟩ (blockN 0 (seqN C gl q7 K))
theorem E_q022 {C gl q4 q7 v0 h x K} : NW C gl (P_q022 q4 q7) ⟨enter [v0],h,x⟩ K = d_q022 C gl q4 q7 v0 h x K:=by kernel_rfl
theorem e_q022 {C gl v0 h x K} : NW C gl a_q022.body ⟨enter [v0],h,x⟩ K = d_q022 C gl p_q022_k4 p_q022_k7 v0 h x K:=E_q022
def P_q028 : ACode:=(.seq (rg [mV 4 (cI 0)] [0,1])
(.seq (rg [mV 5 1,
mV 6 0,
mV 7 1,
lN 8 7,
cL 9 f_q025 [6,8],
iA 10 none 5 9,
lD 11 none 10,
mV 4 11] [4])
.ret))
def a_q028 : AFun:=⟨2,[.t 4],P_q028,false,false⟩
def d_q028 (C : Hd) (gl : GL) (v0 v1 : AV) (h : Heap) (x : Esc) (K : KT) : Prop:=
 pK (oLen v1) fun t1=>
 C f_q025 [v0,t1] h fun t2 h3 y4=>
 pK (oIaddr none v1 t2 h3) fun t5=>
 pK (oLoad none t5 h3) fun t6=>
 K .ret ⟨[(4,t6)],h3,(y4 ++ x)⟩
theorem e_q028 {C gl v0 v1 h x K} : NW C gl a_q028.body ⟨enter [v0,v1],h,x⟩ K = d_q028 C gl v0 v1 h x K:=by kernel_rfl
def P_q010 : ACode:=(.seq (rg [uO 3 (.box 1),
mV 4 (.c (.p (.sl none []))),
mV 5 (cI 0)] [0,3])
(.seq (rg [mV 6 0,
lD 7 (some 2) 3,
uO 8 (.bsl false (some 2) 1 (.agg [.int .i64 0,.sl none []]) [(0,7)]),
cL 9 f_q00x [6,8],
eX 10 9 0,
eX 11 9 1,
mV 4 10,
mV 5 11] [4,5])
.ret))
def a_q010 : AFun:=⟨2,[.t 4,.t 5],P_q010,false,false⟩
def d_q010 (C : Hd) (gl : GL) (v0 v1 : AV) (h : Heap) (x : Esc) (K : KT) : Prop:=
 wK (oBox v1 h) fun t1 h2 y3=>
 pK (oLoad (some 2) t1 h2) fun t4=>
 wK (oBsl false (some 2) 1 (.agg [.int .i64 0,.sl none []]) [(0,t4)] h2) fun t5 h6 y7=>
 C f_q00x [v0,t5] h6 fun t8 h9 y10=>
 pK (oExt t8 0) fun t11=>
 pK (oExt t8 1) fun t12=>
 K .ret ⟨[(4,t11),(5,t12)],h9,(y10 ++ (y7 ++ (y3 ++ x)))⟩
theorem e_q010 {C gl v0 v1 h x K} : NW C gl a_q010.body ⟨enter [v0,v1],h,x⟩ K = d_q010 C gl v0 v1 h x K:=by kernel_rfl
def p_q00x_k1 : ACode:=.pr [0,7,18,19,20] (.seq (rg [bN 21 .lss 20 19] [0,7,18,19,20,21])
(.seq (.cond 21 .skip
(.exit 0))
(.seq (.block 1 (.seq (rg [iA 22 (some 2) 18 20,
lD 23 (some 2) 22,
uO 9 (.alloc [.p (.int .i64 0),.sl0 none]),
wO (.store (some 2) 9 23)] [0,7,9,18,19,20])
(dr [dF (mV 24 7) [7],
dF (lD 25 (some 2) 9) [9],
dF (mV 26 0) [0],
dF (iA 27 none 26 (cI 0)) [26],
dF (lD 28 none 27) [27],
dF (uO 29 (.lens 28)) [28],
dA (cL 30 f_q017 [29]) [29] true [] [1],
dT (cL 31 f_q018 [24,25,30]) [24,25,30]] [0,7,18,19,20])))
(rg [bN 32 .add 20 (cI 1),
mV 20 32] [0,7,18,19,20]))))
def d_q00x_k1 (C : Hd) (gl : GL) (v0 v7 v18 v19 v20 : AV) (h : Heap) (x : Esc) (K : KT) : Prop:=
 pK (oBin .lss v20 v19) fun t1=>
 condB t1 (pK (oIaddr (some 2) v18 v20 h) fun t2=>
 pK (oLoad (some 2) t2 h) fun t3=>
 alK [.p (.int .i64 0),.sl0 none] h fun t4 h5 y6=>
 wK (oStore (some 2) t4 t3 h5) fun t7 h8 y9=>
 pK (oLoad (some 2) t4 h8) fun t10=>
 pK (oIaddr none v0 (AI 0) h8) fun t11=>
 pK (oLoad none t11 h8) fun t12=>
 pK (oLens t12) fun t13=>
 callE C f_q017 [t13] h8 fun t14 h15 y16=>
 (pK (oLoad (some 2) t4 h15) fun v=>(fun u (g1 : Heap) (y1 : Esc)=>u = t10 ∧ g1 = h15 ∧ y1 = []) v h15 []) ∧ (callE C f_q018 [v7,t10,t14] h15 fun t17 h18 y19=>
 pK (oBin .add v20 (AI 1)) fun t20=>
 K .normal ⟨[(0,v0),(7,v7),(18,v18),(19,v19),(20,t20)],h18,(y19 ++ (y16 ++ (y9 ++ (y6 ++ x))))⟩))
 (K (.exit 0) ⟨[(0,v0),(7,v7),(18,v18),(19,v19),(20,v20),(21,t1)],h,x⟩)
theorem e_q00x_k1 {C gl e h x K} : NW C gl p_q00x_k1 ⟨e,h,x⟩ K = d_q00x_k1 C gl (aget e 0) (aget e 7) (aget e 18) (aget e 19) (aget e 20) h x K:=by kernel_rfl
theorem l_q00x_k1 {C gl e h x K} : NW C gl (.loop (.scope p_q00x_k1)) ⟨e,h,x⟩ K = NLoop C gl (.scope p_q00x_k1) K [(0,aget e 0),(7,aget e 7),(18,aget e 18),(19,aget e 19),(20,aget e 20)] h x:=NLoop_sc
def p_q00x_k2 : ACode:=.pr [0,7] (.seq (rg [mV 33 7,
mV 34 0,
iA 35 none 34 (cI 0),
lD 36 none 35,
uO 37 (.lens 36),
cL 38 f_q016 [33,37],
mV 4 38,
mV 5 (cI 0)] [4,5])
.ret)
def d_q00x_k2 (C : Hd) (gl : GL) (v0 v7 : AV) (h : Heap) (x : Esc) (K : KT) : Prop:=
 pK (oIaddr none v0 (AI 0) h) fun t1=>
 pK (oLoad none t1 h) fun t2=>
 pK (oLens t2) fun t3=>
 C f_q016 [v7,t3] h fun t4 h5 y6=>
 K .ret ⟨[(4,t4),(5,(AI 0))],h5,(y6 ++ x)⟩
theorem e_q00x_k2 {C gl e h x K} : NW C gl p_q00x_k2 ⟨e,h,x⟩ K = d_q00x_k2 C gl (aget e 0) (aget e 7) h x K:=by kernel_rfl
def P_q00x (q1 q2 : ACode) : ACode:=(.seq (rg [mV 4 (.c (.p (.sl none []))),
mV 5 (cI 0)] [0,1])
(.seq (.seq (rg [mV 10 0,
mV 11 1,
cL 12 f_q012 [10,11],
mV 6 12] [0,1,6])
(.seq (rg [mV 13 6,
bN 14 .neq 13 (cI 0)] [0,1,6,14])
(.cond 14 (.seq (rg [mV 15 6,
mV 4 (.c (.p (.sl none []))),
mV 5 15] [4,5])
.ret)
.skip)))
(.seq (rg [mV 16 0,
cL 17 f_q015 [16],
mV 7 17] [0,1,7])
(.seq (.seq (rg [mV 18 1,
lN 19 18,
mV 20 (cI 0)] [0,7,18,19,20])
(.block 0 (.loop (.scope q1))))
q2))))
def a_q00x : AFun:=⟨2,[.t 4,.t 5],P_q00x p_q00x_k1 p_q00x_k2,false,false⟩
def d_q00x (C : Hd) (gl : GL) (q1 q2 : ACode) (v0 v1 : AV) (h : Heap) (x : Esc) (K : KT) : Prop:=
 C f_q012 [v0,v1] h fun t1 h2 y3=>
 pK (oBin .neq t1 (AI 0)) fun t4=>
 condB t4 (K .ret ⟨[(4,(.p (.sl none []))),(5,t1)],h2,(y3 ++ x)⟩)
 (C f_q015 [v0] h2 fun t5 h6 y7=>
 pK (oLen v1) fun t8=>
 NW C gl (.loop (.scope q1)) ⟨[(0,v0),(7,t5),(18,v1),(19,t8),(20,(AI 0))],h6,(y7 ++ (y3 ++ x))⟩ (blockN 0 (seqN C gl q2 K)))
theorem E_q00x {C gl q1 q2 v0 v1 h x K} : NW C gl (P_q00x q1 q2) ⟨enter [v0,v1],h,x⟩ K = d_q00x C gl q1 q2 v0 v1 h x K:=by kernel_rfl
theorem e_q00x {C gl v0 v1 h x K} : NW C gl a_q00x.body ⟨enter [v0,v1],h,x⟩ K = d_q00x C gl p_q00x_k1 p_q00x_k2 v0 v1 h x K:=E_q00x
def p_q02j_k1 : ACode:=.pr [0,13,14,15] (.seq (rg [bN 16 .lss 15 14] [0,13,14,15,16])
(.seq (.cond 16 .skip
(.exit 1))
(.seq (.block 2 (.seq (rg [iA 17 none 13 15,
lD 18 none 17,
mV 4 18] [0,4,13,14,15])
(.block 3 (.seq (rg [mV 20 4,
cL 21 f_q02c [20],
uO 22 (.un .not 21),
mV 19 22] [0,4,13,14,15,19])
(.cond 19 (.seq (rg [mV 2 (cI 3)] [2])
.ret)
(.seq (rg [mV 24 4,
uO 25 (.lens 24),
bN 26 .gtr 25 (cI 64),
mV 23 26] [0,4,13,14,15,23])
(.cond 23 (.seq (rg [mV 2 (cI 2)] [2])
.ret)
(.seq (rg [mV 28 4,
uO 29 (.lens 28),
mV 30 0,
iA 31 none 30 (cI 0),
lD 32 none 31,
uO 33 (.lens 32),
bN 34 .neq 29 33,
mV 27 34] [0,13,14,15,27])
(.cond 27 (.seq (rg [mV 2 (cI 3)] [2])
.ret)
.skip)))))))))
(rg [bN 35 .add 15 (cI 1),
mV 15 35] [0,13,14,15]))))
def d_q02j_k1 (C : Hd) (gl : GL) (v0 v13 v14 v15 : AV) (h : Heap) (x : Esc) (K : KT) : Prop:=
 pK (oBin .lss v15 v14) fun t1=>
 condB t1 (pK (oIaddr none v13 v15 h) fun t2=>
 pK (oLoad none t2 h) fun t3=>
 C f_q02c [t3] h fun t4 h5 y6=>
 pK (oUn .not t4) fun t7=>
 condB t7 (K .ret ⟨[(2,(AI 3))],h5,(y6 ++ x)⟩)
 (pK (oLens t3) fun t8=>
 pK (oBin .gtr t8 (AI 64)) fun t9=>
 condB t9 (K .ret ⟨[(2,(AI 2))],h5,(y6 ++ x)⟩)
 (pK (oLens t3) fun t10=>
 pK (oIaddr none v0 (AI 0) h5) fun t11=>
 pK (oLoad none t11 h5) fun t12=>
 pK (oLens t12) fun t13=>
 pK (oBin .neq t10 t13) fun t14=>
 condB t14 (K .ret ⟨[(2,(AI 3))],h5,(y6 ++ x)⟩)
 (pK (oBin .add v15 (AI 1)) fun t15=>
 K .normal ⟨[(0,v0),(13,v13),(14,v14),(15,t15)],h5,(y6 ++ x)⟩))))
 (K (.exit 1) ⟨[(0,v0),(13,v13),(14,v14),(15,v15),(16,t1)],h,x⟩)
theorem e_q02j_k1 {C gl e h x K} : NW C gl p_q02j_k1 ⟨e,h,x⟩ K = d_q02j_k1 C gl (aget e 0) (aget e 13) (aget e 14) (aget e 15) h x K:=by kernel_rfl
theorem l_q02j_k1 {C gl e h x K} : NW C gl (.loop p_q02j_k1) ⟨e,h,x⟩ K = NLoop C gl p_q02j_k1 K [(0,aget e 0),(13,aget e 13),(14,aget e 14),(15,aget e 15)] h x:=NLoop_pr
def p_q02j_k2 : ACode:=.pr [] (.seq (rg [mV 2 (cI 0)] [2])
.ret)
def d_q02j_k2 (C : Hd) (gl : GL) (h : Heap) (x : Esc) (K : KT) : Prop:=
 K .ret ⟨[(2,(AI 0))],h,x⟩
theorem e_q02j_k2 {C gl e h x K} : NW C gl p_q02j_k2 ⟨e,h,x⟩ K = d_q02j_k2 C gl h x K:=by kernel_rfl
def P_q02j (q1 q2 : ACode) : ACode:=(.seq (rg [mV 2 (cI 0)] [0])
(.seq (.block 0 (.seq (rg [mV 6 0,
lN 7 6,
bN 8 .eql 7 (cI 0),
mV 5 8] [0,5])
(.cond 5 (.seq (rg [mV 2 (cI 8)] [2])
.ret)
(.seq (rg [mV 10 0,
lN 11 10,
bN 12 .gtr 11 (cI 100),
mV 9 12] [0,9])
(.cond 9 (.seq (rg [mV 2 (cI 2)] [2])
.ret)
.skip)))))
(.seq (.seq (rg [mV 13 0,
lN 14 13,
mV 15 (cI 0)] [0,13,14,15])
(.block 1 (.loop q1)))
q2)))
def a_q02j : AFun:=⟨1,[.t 2],P_q02j p_q02j_k1 p_q02j_k2,false,false⟩
def d_q02j (C : Hd) (gl : GL) (q1 q2 : ACode) (v0 : AV) (h : Heap) (x : Esc) (K : KT) : Prop:=
 pK (oLen v0) fun t1=>
 pK (oBin .eql t1 (AI 0)) fun t2=>
 condB t2 (K .ret ⟨[(2,(AI 8))],h,x⟩)
 (pK (oLen v0) fun t3=>
 pK (oBin .gtr t3 (AI 100)) fun t4=>
 condB t4 (K .ret ⟨[(2,(AI 2))],h,x⟩)
 (pK (oLen v0) fun t5=>
 NW C gl (.loop q1) ⟨[(0,v0),(13,v0),(14,t5),(15,(AI 0))],h,x⟩ (blockN 1 (seqN C gl q2 K))))
theorem E_q02j {C gl q1 q2 v0 h x K} : NW C gl (P_q02j q1 q2) ⟨enter [v0],h,x⟩ K = d_q02j C gl q1 q2 v0 h x K:=by kernel_rfl
theorem e_q02j {C gl v0 h x K} : NW C gl a_q02j.body ⟨enter [v0],h,x⟩ K = d_q02j C gl p_q02j_k1 p_q02j_k2 v0 h x K:=E_q02j
def p_q00w_k1 : ACode:=.pr [0,13,14,15] (.seq (rg [bN 16 .lss 15 14] [0,13,14,15,16])
(.seq (.cond 16 .skip
(.exit 1))
(.seq (.block 2 (.seq (rg [iA 17 none 13 15,
lD 18 none 17,
mV 4 18] [0,4,13,14,15])
(.block 3 (.seq (rg [mV 20 4,
cL 21 f_q000 [20],
uO 22 (.un .not 21),
mV 19 22] [0,4,13,14,15,19])
(.cond 19 (.seq (rg [mV 2 (cI 3)] [2])
.ret)
(.seq (rg [mV 24 4,
uO 25 (.lens 24),
bN 26 .gtr 25 (cI 64),
mV 23 26] [0,4,13,14,15,23])
(.cond 23 (.seq (rg [mV 2 (cI 2)] [2])
.ret)
(.seq (rg [mV 28 4,
uO 29 (.lens 28),
mV 30 0,
iA 31 none 30 (cI 0),
lD 32 none 31,
uO 33 (.lens 32),
bN 34 .neq 29 33,
mV 27 34] [0,13,14,15,27])
(.cond 27 (.seq (rg [mV 2 (cI 3)] [2])
.ret)
.skip)))))))))
(rg [bN 35 .add 15 (cI 1),
mV 15 35] [0,13,14,15]))))
def d_q00w_k1 (C : Hd) (gl : GL) (v0 v13 v14 v15 : AV) (h : Heap) (x : Esc) (K : KT) : Prop:=
 pK (oBin .lss v15 v14) fun t1=>
 condB t1 (pK (oIaddr none v13 v15 h) fun t2=>
 pK (oLoad none t2 h) fun t3=>
 C f_q000 [t3] h fun t4 h5 y6=>
 pK (oUn .not t4) fun t7=>
 condB t7 (K .ret ⟨[(2,(AI 3))],h5,(y6 ++ x)⟩)
 (pK (oLens t3) fun t8=>
 pK (oBin .gtr t8 (AI 64)) fun t9=>
 condB t9 (K .ret ⟨[(2,(AI 2))],h5,(y6 ++ x)⟩)
 (pK (oLens t3) fun t10=>
 pK (oIaddr none v0 (AI 0) h5) fun t11=>
 pK (oLoad none t11 h5) fun t12=>
 pK (oLens t12) fun t13=>
 pK (oBin .neq t10 t13) fun t14=>
 condB t14 (K .ret ⟨[(2,(AI 3))],h5,(y6 ++ x)⟩)
 (pK (oBin .add v15 (AI 1)) fun t15=>
 K .normal ⟨[(0,v0),(13,v13),(14,v14),(15,t15)],h5,(y6 ++ x)⟩))))
 (K (.exit 1) ⟨[(0,v0),(13,v13),(14,v14),(15,v15),(16,t1)],h,x⟩)
theorem e_q00w_k1 {C gl e h x K} : NW C gl p_q00w_k1 ⟨e,h,x⟩ K = d_q00w_k1 C gl (aget e 0) (aget e 13) (aget e 14) (aget e 15) h x K:=by kernel_rfl
theorem l_q00w_k1 {C gl e h x K} : NW C gl (.loop p_q00w_k1) ⟨e,h,x⟩ K = NLoop C gl p_q00w_k1 K [(0,aget e 0),(13,aget e 13),(14,aget e 14),(15,aget e 15)] h x:=NLoop_pr
def p_q00w_k2 : ACode:=.pr [] (.seq (rg [mV 2 (cI 0)] [2])
.ret)
def d_q00w_k2 (C : Hd) (gl : GL) (h : Heap) (x : Esc) (K : KT) : Prop:=
 K .ret ⟨[(2,(AI 0))],h,x⟩
theorem e_q00w_k2 {C gl e h x K} : NW C gl p_q00w_k2 ⟨e,h,x⟩ K = d_q00w_k2 C gl h x K:=by kernel_rfl
def P_q00w (q1 q2 : ACode) : ACode:=(.seq (rg [mV 2 (cI 0)] [0])
(.seq (.block 0 (.seq (rg [mV 6 0,
lN 7 6,
bN 8 .eql 7 (cI 0),
mV 5 8] [0,5])
(.cond 5 (.seq (rg [mV 2 (cI 8)] [2])
.ret)
(.seq (rg [mV 10 0,
lN 11 10,
bN 12 .gtr 11 (cI 100),
mV 9 12] [0,9])
(.cond 9 (.seq (rg [mV 2 (cI 2)] [2])
.ret)
.skip)))))
(.seq (.seq (rg [mV 13 0,
lN 14 13,
mV 15 (cI 0)] [0,13,14,15])
(.block 1 (.loop q1)))
q2)))
def a_q00w : AFun:=⟨1,[.t 2],P_q00w p_q00w_k1 p_q00w_k2,false,false⟩
def d_q00w (C : Hd) (gl : GL) (q1 q2 : ACode) (v0 : AV) (h : Heap) (x : Esc) (K : KT) : Prop:=
 pK (oLen v0) fun t1=>
 pK (oBin .eql t1 (AI 0)) fun t2=>
 condB t2 (K .ret ⟨[(2,(AI 8))],h,x⟩)
 (pK (oLen v0) fun t3=>
 pK (oBin .gtr t3 (AI 100)) fun t4=>
 condB t4 (K .ret ⟨[(2,(AI 2))],h,x⟩)
 (pK (oLen v0) fun t5=>
 NW C gl (.loop q1) ⟨[(0,v0),(13,v0),(14,t5),(15,(AI 0))],h,x⟩ (blockN 1 (seqN C gl q2 K))))
theorem E_q00w {C gl q1 q2 v0 h x K} : NW C gl (P_q00w q1 q2) ⟨enter [v0],h,x⟩ K = d_q00w C gl q1 q2 v0 h x K:=by kernel_rfl
theorem e_q00w {C gl v0 h x K} : NW C gl a_q00w.body ⟨enter [v0],h,x⟩ K = d_q00w C gl p_q00w_k1 p_q00w_k2 v0 h x K:=E_q00w
def p_q00v_k1 : ACode:=.pr [0,3,27,28,29] (.seq (rg [bN 30 .lss 29 28] [0,3,27,28,29,30])
(.seq (.cond 30 .skip
(.exit 1))
(.seq (.block 2 (.seq (rg [iA 31 none 27 29,
lD 32 none 31,
mV 6 32] [0,3,6,27,28,29])
(.seq (rg [mV 33 6,
mV 34 0,
bN 35 .sub 34 (cI 1),
cL 36 f_q006 [33,(cI 0),35]] [0,3,27,28,29,36])
(.cond 36 (.seq (rg [mV 4 (cI 1)] [4])
.ret)
.skip))))
(rg [bN 37 .add 29 (cI 1),
mV 29 37] [0,3,27,28,29]))))
def d_q00v_k1 (C : Hd) (gl : GL) (v0 v3 v27 v28 v29 : AV) (h : Heap) (x : Esc) (K : KT) : Prop:=
 pK (oBin .lss v29 v28) fun t1=>
 condB t1 (pK (oIaddr none v27 v29 h) fun t2=>
 pK (oLoad none t2 h) fun t3=>
 pK (oBin .sub v0 (AI 1)) fun t4=>
 C f_q006 [t3,(AI 0),t4] h fun t5 h6 y7=>
 condB t5 (K .ret ⟨[(4,(AI 1))],h6,(y7 ++ x)⟩)
 (pK (oBin .add v29 (AI 1)) fun t8=>
 K .normal ⟨[(0,v0),(3,v3),(27,v27),(28,v28),(29,t8)],h6,(y7 ++ x)⟩))
 (K (.exit 1) ⟨[(0,v0),(3,v3),(27,v27),(28,v28),(29,v29),(30,t1)],h,x⟩)
theorem e_q00v_k1 {C gl e h x K} : NW C gl p_q00v_k1 ⟨e,h,x⟩ K = d_q00v_k1 C gl (aget e 0) (aget e 3) (aget e 27) (aget e 28) (aget e 29) h x K:=by kernel_rfl
theorem l_q00v_k1 {C gl e h x K} : NW C gl (.loop p_q00v_k1) ⟨e,h,x⟩ K = NLoop C gl p_q00v_k1 K [(0,aget e 0),(3,aget e 3),(27,aget e 27),(28,aget e 28),(29,aget e 29)] h x:=NLoop_pr
def p_q00v_k2 : ACode:=.pr [3,7,8] (.seq (.seq (rg [mV 53 8,
mV 54 7,
lN 55 54,
bN 56 .lss 53 55] [3,7,8,56])
(.cond 56 .skip
(.exit 3)))
(.seq (.block 4 (.seq (dr [dF (mV 59 7) [7],
dF (mV 60 8) [8],
dF (iA 61 none 59 60) [59,60],
dF (lD 62 none 61) [61],
dF (mV 63 7) [7],
dF (mV 64 8) [8],
dF (bN 65 .sub 64 (cI 1)) [64],
dF (iA 66 none 63 65) [63,65],
dF (lD 67 none 66) [66],
dF (bN 68 .leq 62 67) [62,67]] [3,7,8,68])
(.cond 68 (.seq (rg [mV 4 (cI 7)] [4])
.ret)
.skip)))
(rg [mV 57 8,
bN 58 .add 57 (cI 1),
mV 8 58] [3,7,8])))
def d_q00v_k2 (C : Hd) (gl : GL) (v3 v7 v8 : AV) (h : Heap) (x : Esc) (K : KT) : Prop:=
 pK (oLen v7) fun t1=>
 pK (oBin .lss v8 t1) fun t2=>
 condB t2 (pK (oIaddr none v7 v8 h) fun t3=>
 pK (oLoad none t3 h) fun t4=>
 pK (oBin .sub v8 (AI 1)) fun t5=>
 pK (oIaddr none v7 t5 h) fun t6=>
 pK (oLoad none t6 h) fun t7=>
 pK (oBin .leq t4 t7) fun t8=>
 condB t8 (K .ret ⟨[(4,(AI 7))],h,x⟩)
 (pK (oBin .add v8 (AI 1)) fun t9=>
 K .normal ⟨[(3,v3),(7,v7),(8,t9)],h,x⟩))
 (K (.exit 3) ⟨[(3,v3),(7,v7),(8,v8),(56,t2)],h,x⟩)
theorem e_q00v_k2 {C gl e h x K} : NW C gl p_q00v_k2 ⟨e,h,x⟩ K = d_q00v_k2 C gl (aget e 3) (aget e 7) (aget e 8) h x K:=by kernel_rfl
theorem l_q00v_k2 {C gl e h x K} : NW C gl (.loop p_q00v_k2) ⟨e,h,x⟩ K = NLoop C gl p_q00v_k2 K [(3,aget e 3),(7,aget e 7),(8,aget e 8)] h x:=NLoop_pr
def p_q00v_k3 : ACode:=.pr [3,7] (.seq (.seq (rg [fA 69 0 none 3,
lD 70 none 69,
bN 71 .eql 70 (cI 5),
mV 72 71,
gD 73 72 true (.mv 7),
gD 74 72 true (.faddr 1 none 3),
gD 75 72 true (.load none 74),
gD 76 72 true (.iaddr none 75 (cI 0)),
gD 77 72 true (.load none 76),
gD 78 72 true (.call f_q02z [73,77]),
uO 79 (.pick 72 78 cF)] [79])
(.cond 79 (.seq (rg [mV 4 (cI 6)] [4])
.ret)
.skip))
(.seq (rg [mV 4 (cI 0)] [4])
.ret))
def d_q00v_k3 (C : Hd) (gl : GL) (v3 v7 : AV) (h : Heap) (x : Esc) (K : KT) : Prop:=
 pK (oFaddr 0 none v3) fun t1=>
 pK (oLoad none t1 h) fun t2=>
 pK (oBin .eql t2 (AI 5)) fun t3=>
 gM t3 true v7 h fun t4 h5 y6=>
 gP t3 true (oFaddr 1 none v3) h5 fun t7 h8 y9=>
 gP t3 true (oLoad none t7 h8) h8 fun t10 h11 y12=>
 gP t3 true (oIaddr none t10 (AI 0) h11) h11 fun t13 h14 y15=>
 gP t3 true (oLoad none t13 h14) h14 fun t16 h17 y18=>
 gV t3 true h17 (C f_q02z [t4,t16] h17) fun t19 h20 y21=>
 pK (oPick t3 t19 (AB false)) fun t22=>
 condB t22 (K .ret ⟨[(4,(AI 6))],h20,(y21 ++ (y18 ++ (y15 ++ (y12 ++ (y9 ++ (y6 ++ x))))))⟩)
 (K .ret ⟨[(4,(AI 0))],h20,(y21 ++ (y18 ++ (y15 ++ (y12 ++ (y9 ++ (y6 ++ x))))))⟩)
theorem e_q00v_k3 {C gl e h x K} : NW C gl p_q00v_k3 ⟨e,h,x⟩ K = d_q00v_k3 C gl (aget e 3) (aget e 7) h x K:=by kernel_rfl
def P_q00v_k4 (q2 q3 : ACode) : ACode:=.pr [3,7] (.seq (.seq (rg [mV 8 (cI 1)] [3,7,8])
(.block 3 (.loop q2)))
q3)
def p_q00v_k4 : ACode:=P_q00v_k4 p_q00v_k2 p_q00v_k3
def d_q00v_k4 (C : Hd) (gl : GL) (q2 q3 : ACode) (v3 v7 : AV) (h : Heap) (x : Esc) (K : KT) : Prop:=
 NW C gl (.loop q2) ⟨[(3,v3),(7,v7),(8,(AI 1))],h,x⟩ (blockN 3 (seqN C gl q3 K))
theorem E_q00v_k4 {C gl q2 q3 e h x K} : NW C gl (P_q00v_k4 q2 q3) ⟨e,h,x⟩ K = d_q00v_k4 C gl q2 q3 (aget e 3) (aget e 7) h x K:=by kernel_rfl
theorem e_q00v_k4 {C gl e h x K} : NW C gl p_q00v_k4 ⟨e,h,x⟩ K = d_q00v_k4 C gl p_q00v_k2 p_q00v_k3 (aget e 3) (aget e 7) h x K:=E_q00v_k4
def P_q00v_k5 (q4 : ACode) : ACode:=.pr [3] (.seq (.seq (dr [dF (fA 38 0 none 3) [3],
dF (lD 39 none 38) [38],
dT (cL 40 f_q013 [39]) [39],
dF (fA 41 1 none 3) [3],
dA (lD 42 none 41) [41] false [2] [],
dF (lN 43 42) [42],
dF (bN 44 .gtr 43 (cI 1)) [43],
dF (uO 45 (.eqa [] true 40 44)) [40,44]] [3,45])
(.cond 45 (.seq (rg [mV 4 (cI 3)] [4])
.ret)
.skip))
(.seq (rg [fA 46 1 none 3,
lD 47 none 46,
mV 7 47] [3,7])
(.seq (.seq (rg [fA 48 0 none 3,
lD 49 none 48,
bN 50 .eql 49 (cI 5)] [3,7,50])
(.cond 50 (rg [mV 51 7,
uO 52 (.slice none 51 (some (cI 1)) none none),
mV 7 52] [3,7])
.skip))
q4)))
def p_q00v_k5 : ACode:=P_q00v_k5 p_q00v_k4
def d_q00v_k5 (C : Hd) (gl : GL) (q4 : ACode) (v3 : AV) (h : Heap) (x : Esc) (K : KT) : Prop:=
 pK (oFaddr 0 none v3) fun t1=>
 pK (oLoad none t1 h) fun t2=>
 callE C f_q013 [t2] h fun t3 h4 y5=>
 pK (oFaddr 1 none v3) fun t6=>
 pK (oLoad none t6 h4) fun t7=>
 (pK (oLoad none t6 h) fun v=>(fun u (g1 : Heap) (y1 : Esc)=>u = t7 ∧ g1 = h ∧ y1 = []) v h []) ∧ (pK (oLen t7) fun t8=>
 pK (oBin .gtr t8 (AI 1)) fun t9=>
 pK (oEqa [] true t3 t9) fun t10=>
 condB t10 (K .ret ⟨[(4,(AI 3))],h4,(y5 ++ x)⟩)
 (pK (oFaddr 1 none v3) fun t11=>
 pK (oLoad none t11 h4) fun t12=>
 pK (oFaddr 0 none v3) fun t13=>
 pK (oLoad none t13 h4) fun t14=>
 pK (oBin .eql t14 (AI 5)) fun t15=>
 condB t15 (pK (oSlice none t12 (some (AI 1)) none none h4) fun t16=>
 NW C gl q4 ⟨[(3,v3),(7,t16)],h4,(y5 ++ x)⟩ K)
 (NW C gl q4 ⟨[(3,v3),(7,t12),(50,t15)],h4,(y5 ++ x)⟩ K)))
theorem E_q00v_k5 {C gl q4 e h x K} : NW C gl (P_q00v_k5 q4) ⟨e,h,x⟩ K = d_q00v_k5 C gl q4 (aget e 3) h x K:=by kernel_rfl
theorem e_q00v_k5 {C gl e h x K} : NW C gl p_q00v_k5 ⟨e,h,x⟩ K = d_q00v_k5 C gl p_q00v_k4 (aget e 3) h x K:=E_q00v_k5
def P_q00v (q1 q5 : ACode) : ACode:=(.seq (rg [uO 3 (.box 1),
mV 4 (cI 0)] [0,3])
(.seq (.block 0 (.seq (rg [mV 10 0,
cL 11 f_q006 [10,(cI 1),(cI 100)],
mV 9 11] [0,3,9])
(.cond 9 (.seq (rg [mV 4 (cI 1)] [4])
.ret)
(.seq (rg [fA 13 0 none 3,
lD 14 none 13,
cL 15 f_q006 [14,(cI 1),(cI 6)],
mV 12 15] [0,3,12])
(.cond 12 (.seq (rg [mV 4 (cI 4)] [4])
.ret)
(.seq (rg [fA 17 1 none 3,
lD 18 none 17,
lN 19 18,
bN 20 .eql 19 (cI 0),
mV 16 20] [0,3,16])
(.cond 16 (.seq (rg [mV 4 (cI 8)] [4])
.ret)
(.seq (rg [fA 22 1 none 3,
lD 23 none 22,
lN 24 23,
bN 25 .gtr 24 (cI 6),
mV 21 25] [0,3,21])
(.cond 21 (.seq (rg [mV 4 (cI 2)] [4])
.ret)
.skip)))))))))
(.seq (.seq (rg [fA 26 1 none 3,
lD 27 none 26,
lN 28 27,
mV 29 (cI 0)] [0,3,27,28,29])
(.block 1 (.loop q1)))
q5)))
def a_q00v : AFun:=⟨2,[.t 4],P_q00v p_q00v_k1 p_q00v_k5,false,false⟩
def d_q00v (C : Hd) (gl : GL) (q1 q5 : ACode) (v0 v1 : AV) (h : Heap) (x : Esc) (K : KT) : Prop:=
 wK (oBox v1 h) fun t1 h2 y3=>
 C f_q006 [v0,(AI 1),(AI 100)] h2 fun t4 h5 y6=>
 condB t4 (K .ret ⟨[(4,(AI 1))],h5,(y6 ++ (y3 ++ x))⟩)
 (pK (oFaddr 0 none t1) fun t7=>
 pK (oLoad none t7 h5) fun t8=>
 C f_q006 [t8,(AI 1),(AI 6)] h5 fun t9 h10 y11=>
 condB t9 (K .ret ⟨[(4,(AI 4))],h10,(y11 ++ (y6 ++ (y3 ++ x)))⟩)
 (pK (oFaddr 1 none t1) fun t12=>
 pK (oLoad none t12 h10) fun t13=>
 pK (oLen t13) fun t14=>
 pK (oBin .eql t14 (AI 0)) fun t15=>
 condB t15 (K .ret ⟨[(4,(AI 8))],h10,(y11 ++ (y6 ++ (y3 ++ x)))⟩)
 (pK (oFaddr 1 none t1) fun t16=>
 pK (oLoad none t16 h10) fun t17=>
 pK (oLen t17) fun t18=>
 pK (oBin .gtr t18 (AI 6)) fun t19=>
 condB t19 (K .ret ⟨[(4,(AI 2))],h10,(y11 ++ (y6 ++ (y3 ++ x)))⟩)
 (pK (oFaddr 1 none t1) fun t20=>
 pK (oLoad none t20 h10) fun t21=>
 pK (oLen t21) fun t22=>
 NW C gl (.loop q1) ⟨[(0,v0),(3,t1),(27,t21),(28,t22),(29,(AI 0))],h10,(y11 ++ (y6 ++ (y3 ++ x)))⟩ (blockN 1 (seqN C gl q5 K))))))
theorem E_q00v {C gl q1 q5 v0 v1 h x K} : NW C gl (P_q00v q1 q5) ⟨enter [v0,v1],h,x⟩ K = d_q00v C gl q1 q5 v0 v1 h x K:=by kernel_rfl
theorem e_q00v {C gl v0 v1 h x K} : NW C gl a_q00v.body ⟨enter [v0,v1],h,x⟩ K = d_q00v C gl p_q00v_k1 p_q00v_k5 v0 v1 h x K:=E_q00v
def p_q02a_k1 : ACode:=.pr [0,4] (.seq (rg [bN 5 .lss 4 (cI 6)] [0,4,5])
(.seq (.cond 5 .skip
(.exit 0))
(.seq (.block 1 (.seq (rg [mV 6 0,
cL 7 f_q022 [6],
mV 3 7] [0,3,4])
(.seq (rg [mV 8 3,
cL 9 f_q02j [8],
bN 10 .eql 9 (cI 0),
mV 11 10,
gD 12 11 true (.mv 3),
gD 13 11 true (.iaddr none 12 (cI 0)),
gD 14 11 true (.load none 13),
gD 15 11 true (.lens 14),
gD 16 11 true (.bin .lss 15 (cI 20)),
uO 17 (.pick 11 16 cF)] [0,3,4,17])
(.cond 17 (.seq (rg [mV 18 3,
mV 2 18] [2])
.ret)
.skip))))
(rg [bN 19 .add 4 (cI 1),
mV 4 19] [0,4]))))
def d_q02a_k1 (C : Hd) (gl : GL) (v0 v4 : AV) (h : Heap) (x : Esc) (K : KT) : Prop:=
 pK (oBin .lss v4 (AI 6)) fun t1=>
 condB t1 (C f_q022 [v0] h fun t2 h3 y4=>
 C f_q02j [t2] h3 fun t5 h6 y7=>
 pK (oBin .eql t5 (AI 0)) fun t8=>
 gM t8 true t2 h6 fun t9 h10 y11=>
 gP t8 true (oIaddr none t9 (AI 0) h10) h10 fun t12 h13 y14=>
 gP t8 true (oLoad none t12 h13) h13 fun t15 h16 y17=>
 gP t8 true (oLens t15) h16 fun t18 h19 y20=>
 gP t8 true (oBin .lss t18 (AI 20)) h19 fun t21 h22 y23=>
 pK (oPick t8 t21 (AB false)) fun t24=>
 condB t24 (K .ret ⟨[(2,t2)],h22,(y23 ++ (y20 ++ (y17 ++ (y14 ++ (y11 ++ (y7 ++ (y4 ++ x)))))))⟩)
 (pK (oBin .add v4 (AI 1)) fun t25=>
 K .normal ⟨[(0,v0),(4,t25)],h22,(y23 ++ (y20 ++ (y17 ++ (y14 ++ (y11 ++ (y7 ++ (y4 ++ x)))))))⟩))
 (K (.exit 0) ⟨[(0,v0),(4,v4),(5,t1)],h,x⟩)
theorem e_q02a_k1 {C gl e h x K} : NW C gl p_q02a_k1 ⟨e,h,x⟩ K = d_q02a_k1 C gl (aget e 0) (aget e 4) h x K:=by kernel_rfl
theorem l_q02a_k1 {C gl e h x K} : NW C gl (.loop p_q02a_k1) ⟨e,h,x⟩ K = NLoop C gl p_q02a_k1 K [(0,aget e 0),(4,aget e 4)] h x:=NLoop_pr
def p_q02a_k2 : ACode:=.pr [] (.seq (rg [uO 20 (.bsl false none 2 (.str []) [(0,(cS [48,49])),(1,(cS [49,48]))]),
mV 2 20] [2])
.ret)
def d_q02a_k2 (C : Hd) (gl : GL) (h : Heap) (x : Esc) (K : KT) : Prop:=
 wK (oBsl false none 2 (.str []) [(0,(.p (.str [48,49]))),(1,(.p (.str [49,48])))] h) fun t1 h2 y3=>
 K .ret ⟨[(2,t1)],h2,(y3 ++ x)⟩
theorem e_q02a_k2 {C gl e h x K} : NW C gl p_q02a_k2 ⟨e,h,x⟩ K = d_q02a_k2 C gl h x K:=by kernel_rfl
def P_q02a (q1 q2 : ACode) : ACode:=(.seq (rg [mV 2 (.c (.p (.sl none [])))] [0])
(.seq (.seq (rg [mV 4 (cI 0)] [0,4])
(.block 0 (.loop q1)))
q2))
def a_q02a : AFun:=⟨1,[.t 2],P_q02a p_q02a_k1 p_q02a_k2,false,false⟩
def d_q02a (C : Hd) (gl : GL) (q1 q2 : ACode) (v0 : AV) (h : Heap) (x : Esc) (K : KT) : Prop:=
 NW C gl (.loop q1) ⟨[(0,v0),(4,(AI 0))],h,x⟩ (blockN 0 (seqN C gl q2 K))
theorem E_q02a {C gl q1 q2 v0 h x K} : NW C gl (P_q02a q1 q2) ⟨enter [v0],h,x⟩ K = d_q02a C gl q1 q2 v0 h x K:=by kernel_rfl
theorem e_q02a {C gl v0 h x K} : NW C gl a_q02a.body ⟨enter [v0],h,x⟩ K = d_q02a C gl p_q02a_k1 p_q02a_k2 v0 h x K:=E_q02a
def p_q027_k1 : ACode:=.pr [0,1,5,9,10] (.seq (rg [bN 11 .lss 10 9] [0,1,5,9,10,11])
(.seq (.cond 11 .skip
(.exit 0))
(.seq (.block 1 (.seq (rg [mV 12 10,
mV 6 12] [0,1,5,6,9,10])
(rg [mV 13 5,
mV 14 6,
uO 15 (.bsl false none 1 (.int .i64 0) [(0,14)]),
uO 16 (.app none 13 15),
mV 5 16] [0,1,5,9,10])))
(rg [bN 17 .add 10 (cI 1),
mV 10 17] [0,1,5,9,10]))))
def d_q027_k1 (C : Hd) (gl : GL) (v0 v1 v5 v9 v10 : AV) (h : Heap) (x : Esc) (K : KT) : Prop:=
 pK (oBin .lss v10 v9) fun t1=>
 condB t1 (wK (oBsl false none 1 (.int .i64 0) [(0,v10)] h) fun t2 h3 y4=>
 wK (oApp none v5 t2 h3) fun t5 h6 y7=>
 pK (oBin .add v10 (AI 1)) fun t8=>
 K .normal ⟨[(0,v0),(1,v1),(5,t5),(9,v9),(10,t8)],h6,(y7 ++ (y4 ++ x))⟩)
 (K (.exit 0) ⟨[(0,v0),(1,v1),(5,v5),(9,v9),(10,v10),(11,t1)],h,x⟩)
theorem e_q027_k1 {C gl e h x K} : NW C gl p_q027_k1 ⟨e,h,x⟩ K = d_q027_k1 C gl (aget e 0) (aget e 1) (aget e 5) (aget e 9) (aget e 10) h x K:=by kernel_rfl
theorem l_q027_k1 {C gl e h x K} : NW C gl (.loop (.scope p_q027_k1)) ⟨e,h,x⟩ K = NLoop C gl (.scope p_q027_k1) K [(0,aget e 0),(1,aget e 1),(5,aget e 5),(9,aget e 9),(10,aget e 10)] h x:=NLoop_sc
def p_q027_k2 : ACode:=.pr [0,5,7] (.seq (.seq (rg [mV 20 7,
bN 21 .gtr 20 (cI 0)] [0,5,7,21])
(.cond 21 .skip
(.exit 2)))
(.seq (.block 3 (.seq (rg [mV 24 0,
mV 25 7,
bN 26 .add 25 (cI 1),
cL 27 f_q025 [24,26],
mV 8 27] [0,5,7,8])
(dr [dF (mV 28 5) [5],
dF (mV 29 7) [7],
dF (mV 30 5) [5],
dF (mV 31 8) [8],
dF (mV 32 5) [5],
dF (mV 33 8) [8],
dF (iA 34 none 32 33) [32,33],
dF (lD 35 none 34) [34],
dF (mV 36 5) [5],
dF (mV 37 7) [7],
dF (iA 38 none 36 37) [36,37],
dF (lD 39 none 38) [38],
dF (iA 40 none 28 29) [28,29],
dT (wO (.store none 40 35)) [40,35],
dF (iA 41 none 30 31) [30,31],
dT (wO (.store none 41 39)) [41,39]] [0,5,7])))
(rg [mV 22 7,
bN 23 .sub 22 (cI 1),
mV 7 23] [0,5,7])))
def d_q027_k2 (C : Hd) (gl : GL) (v0 v5 v7 : AV) (h : Heap) (x : Esc) (K : KT) : Prop:=
 pK (oBin .gtr v7 (AI 0)) fun t1=>
 condB t1 (pK (oBin .add v7 (AI 1)) fun t2=>
 C f_q025 [v0,t2] h fun t3 h4 y5=>
 pK (oIaddr none v5 t3 h4) fun t6=>
 pK (oLoad none t6 h4) fun t7=>
 pK (oIaddr none v5 v7 h4) fun t8=>
 pK (oLoad none t8 h4) fun t9=>
 pK (oIaddr none v5 v7 h4) fun t10=>
 wK (oStore none t10 t7 h4) fun t11 h12 y13=>
 pK (oIaddr none v5 t3 h12) fun t14=>
 wK (oStore none t14 t9 h12) fun t15 h16 y17=>
 pK (oBin .sub v7 (AI 1)) fun t18=>
 K .normal ⟨[(0,v0),(5,v5),(7,t18)],h16,(y17 ++ (y13 ++ (y5 ++ x)))⟩)
 (K (.exit 2) ⟨[(0,v0),(5,v5),(7,v7),(21,t1)],h,x⟩)
theorem e_q027_k2 {C gl e h x K} : NW C gl p_q027_k2 ⟨e,h,x⟩ K = d_q027_k2 C gl (aget e 0) (aget e 5) (aget e 7) h x K:=by kernel_rfl
theorem l_q027_k2 {C gl e h x K} : NW C gl (.loop p_q027_k2) ⟨e,h,x⟩ K = NLoop C gl p_q027_k2 K [(0,aget e 0),(5,aget e 5),(7,aget e 7)] h x:=NLoop_pr
def p_q027_k3 : ACode:=.pr [5] (.seq (rg [mV 42 5,
mV 4 42] [4])
.ret)
def d_q027_k3 (C : Hd) (gl : GL) (v5 : AV) (h : Heap) (x : Esc) (K : KT) : Prop:=
 K .ret ⟨[(4,v5)],h,x⟩
theorem e_q027_k3 {C gl e h x K} : NW C gl p_q027_k3 ⟨e,h,x⟩ K = d_q027_k3 C gl (aget e 5) h x K:=by kernel_rfl
def P_q027_k4 (q2 q3 : ACode) : ACode:=.pr [0,1,5] (.seq (.seq (rg [mV 18 1,
bN 19 .sub 18 (cI 1),
mV 7 19] [0,5,7])
(.block 2 (.loop q2)))
q3)
def p_q027_k4 : ACode:=P_q027_k4 p_q027_k2 p_q027_k3
def d_q027_k4 (C : Hd) (gl : GL) (q2 q3 : ACode) (v0 v1 v5 : AV) (h : Heap) (x : Esc) (K : KT) : Prop:=
 pK (oBin .sub v1 (AI 1)) fun t1=>
 NW C gl (.loop q2) ⟨[(0,v0),(5,v5),(7,t1)],h,x⟩ (blockN 2 (seqN C gl q3 K))
theorem E_q027_k4 {C gl q2 q3 e h x K} : NW C gl (P_q027_k4 q2 q3) ⟨e,h,x⟩ K = d_q027_k4 C gl q2 q3 (aget e 0) (aget e 1) (aget e 5) h x K:=by kernel_rfl
theorem e_q027_k4 {C gl e h x K} : NW C gl p_q027_k4 ⟨e,h,x⟩ K = d_q027_k4 C gl p_q027_k2 p_q027_k3 (aget e 0) (aget e 1) (aget e 5) h x K:=E_q027_k4
def P_q027 (q1 q4 : ACode) : ACode:=(.seq (rg [mV 4 (.c (.p (.sl none [])))] [0,1])
(.seq (rg [uO 5 (.new0 none)] [0,1,5])
(.seq (.seq (rg [mV 9 1,
mV 10 (cI 0)] [0,1,5,9,10])
(.block 0 (.loop (.scope q1))))
q4)))
def a_q027 : AFun:=⟨2,[.t 4],P_q027 p_q027_k1 p_q027_k4,false,true⟩
def d_q027 (C : Hd) (gl : GL) (q1 q4 : ACode) (v0 v1 : AV) (h : Heap) (x : Esc) (K : KT) : Prop:=
 nwK none h fun t1 h2 y3=>
 NW C gl (.loop (.scope q1)) ⟨[(0,v0),(1,v1),(5,t1),(9,v1),(10,(AI 0))],h2,(y3 ++ x)⟩ (blockN 0 (seqN C gl q4 K))
theorem E_q027 {C gl q1 q4 v0 v1 h x K} : NW C gl (P_q027 q1 q4) ⟨enter [v0,v1],h,x⟩ K = d_q027 C gl q1 q4 v0 v1 h x K:=by kernel_rfl
theorem e_q027 {C gl v0 v1 h x K} : NW C gl a_q027.body ⟨enter [v0,v1],h,x⟩ K = d_q027 C gl p_q027_k1 p_q027_k4 v0 v1 h x K:=E_q027
def p_q01u_k1 : ACode:=.pr [5,6,7] (.seq (rg [bN 8 .lss 7 6] [5,6,7,8])
(.seq (.cond 8 .skip
(.exit 0))
(.seq (.block 1 (.seq (rg [iA 9 none 5 7,
lD 10 none 9,
mV 4 10] [4,5,6,7])
(.seq (rg [mV 11 4,
bN 12 .neq 11 (cI 0)] [4,5,6,7,12])
(.cond 12 (.seq (rg [mV 13 4,
mV 2 13] [2])
.ret)
.skip))))
(rg [bN 14 .add 7 (cI 1),
mV 7 14] [5,6,7]))))
def d_q01u_k1 (C : Hd) (gl : GL) (v5 v6 v7 : AV) (h : Heap) (x : Esc) (K : KT) : Prop:=
 pK (oBin .lss v7 v6) fun t1=>
 condB t1 (pK (oIaddr none v5 v7 h) fun t2=>
 pK (oLoad none t2 h) fun t3=>
 pK (oBin .neq t3 (AI 0)) fun t4=>
 condB t4 (K .ret ⟨[(2,t3)],h,x⟩)
 (pK (oBin .add v7 (AI 1)) fun t5=>
 K .normal ⟨[(5,v5),(6,v6),(7,t5)],h,x⟩))
 (K (.exit 0) ⟨[(5,v5),(6,v6),(7,v7),(8,t1)],h,x⟩)
theorem e_q01u_k1 {C gl e h x K} : NW C gl p_q01u_k1 ⟨e,h,x⟩ K = d_q01u_k1 C gl (aget e 5) (aget e 6) (aget e 7) h x K:=by kernel_rfl
theorem l_q01u_k1 {C gl e h x K} : NW C gl (.loop p_q01u_k1) ⟨e,h,x⟩ K = NLoop C gl p_q01u_k1 K [(5,aget e 5),(6,aget e 6),(7,aget e 7)] h x:=NLoop_pr
def p_q01u_k2 : ACode:=.pr [] (.seq (rg [mV 2 (cI 0)] [2])
.ret)
def d_q01u_k2 (C : Hd) (gl : GL) (h : Heap) (x : Esc) (K : KT) : Prop:=
 K .ret ⟨[(2,(AI 0))],h,x⟩
theorem e_q01u_k2 {C gl e h x K} : NW C gl p_q01u_k2 ⟨e,h,x⟩ K = d_q01u_k2 C gl h x K:=by kernel_rfl
def P_q01u (q1 q2 : ACode) : ACode:=(.seq (rg [mV 2 (cI 0)] [0])
(.seq (.seq (rg [mV 5 0,
lN 6 5,
mV 7 (cI 0)] [5,6,7])
(.block 0 (.loop q1)))
q2))
def a_q01u : AFun:=⟨1,[.t 2],P_q01u p_q01u_k1 p_q01u_k2,false,false⟩
def d_q01u (C : Hd) (gl : GL) (q1 q2 : ACode) (v0 : AV) (h : Heap) (x : Esc) (K : KT) : Prop:=
 pK (oLen v0) fun t1=>
 NW C gl (.loop q1) ⟨[(5,v0),(6,t1),(7,(AI 0))],h,x⟩ (blockN 0 (seqN C gl q2 K))
theorem E_q01u {C gl q1 q2 v0 h x K} : NW C gl (P_q01u q1 q2) ⟨enter [v0],h,x⟩ K = d_q01u C gl q1 q2 v0 h x K:=by kernel_rfl
theorem e_q01u {C gl v0 h x K} : NW C gl a_q01u.body ⟨enter [v0],h,x⟩ K = d_q01u C gl p_q01u_k1 p_q01u_k2 v0 h x K:=E_q01u
def P_q02z : ACode:=(.seq (rg [mV 4 cF] [0,1])
(.seq (rg [mV 5 0,
mV 6 1,
cL 7 f_q036 [5,6],
bN 8 .geq 7 (cI 0),
mV 4 8] [4])
.ret))
def a_q02z : AFun:=⟨2,[.t 4],P_q02z,true,false⟩
def d_q02z (C : Hd) (gl : GL) (v0 v1 : AV) (h : Heap) (x : Esc) (K : KT) : Prop:=
 C f_q036 [v0,v1] h fun t1 h2 y3=>
 pK (oBin .geq t1 (AI 0)) fun t4=>
 K .ret ⟨[(4,t4)],h2,(y3 ++ x)⟩
theorem e_q02z {C gl v0 v1 h x K} : NW C gl a_q02z.body ⟨enter [v0,v1],h,x⟩ K = d_q02z C gl v0 v1 h x K:=by kernel_rfl
def P_q029 : ACode:=(.seq (rg [mV 6 (cI 0)] [0,1,2])
(.seq (.seq (rg [mV 7 2,
mV 8 1,
bN 9 .lss 7 8] [0,1,2,9])
(.cond 9 (.seq (rg [mV 10 1,
mV 6 10] [6])
.ret)
.skip))
(.seq (rg [mV 11 1,
mV 12 0,
mV 13 2,
mV 14 1,
bN 15 .sub 13 14,
bN 16 .add 15 (cI 1),
cL 17 f_q025 [12,16],
bN 18 .add 11 17,
mV 6 18] [6])
.ret)))
def a_q029 : AFun:=⟨3,[.t 6],P_q029,false,false⟩
def d_q029 (C : Hd) (gl : GL) (v0 v1 v2 : AV) (h : Heap) (x : Esc) (K : KT) : Prop:=
 pK (oBin .lss v2 v1) fun t1=>
 condB t1 (K .ret ⟨[(6,v1)],h,x⟩)
 (pK (oBin .sub v2 v1) fun t2=>
 pK (oBin .add t2 (AI 1)) fun t3=>
 C f_q025 [v0,t3] h fun t4 h5 y6=>
 pK (oBin .add v1 t4) fun t7=>
 K .ret ⟨[(6,t7)],h5,(y6 ++ x)⟩)
theorem e_q029 {C gl v0 v1 v2 h x K} : NW C gl a_q029.body ⟨enter [v0,v1,v2],h,x⟩ K = d_q029 C gl v0 v1 v2 h x K:=by kernel_rfl
def P_q02b : ACode:=(.seq (rg [mV 4 (cS [])] [0,1])
(.seq (rg [mV 5 1,
mV 6 0,
mV 7 1,
lN 8 7,
cL 9 f_q025 [6,8],
iA 10 none 5 9,
lD 11 none 10,
mV 4 11] [4])
.ret))
def a_q02b : AFun:=⟨2,[.t 4],P_q02b,false,false⟩
def d_q02b (C : Hd) (gl : GL) (v0 v1 : AV) (h : Heap) (x : Esc) (K : KT) : Prop:=
 pK (oLen v1) fun t1=>
 C f_q025 [v0,t1] h fun t2 h3 y4=>
 pK (oIaddr none v1 t2 h3) fun t5=>
 pK (oLoad none t5 h3) fun t6=>
 K .ret ⟨[(4,t6)],h3,(y4 ++ x)⟩
theorem e_q02b {C gl v0 v1 h x K} : NW C gl a_q02b.body ⟨enter [v0,v1],h,x⟩ K = d_q02b C gl v0 v1 h x K:=by kernel_rfl
def P_q024 : ACode:=(.seq (rg [mV 4 cF] [0,1])
(.seq (rg [mV 5 0,
mV 6 1,
cL 7 f_q025 [5,6],
bN 8 .eql 7 (cI 0),
mV 4 8] [4])
.ret))
def a_q024 : AFun:=⟨2,[.t 4],P_q024,false,false⟩
def d_q024 (C : Hd) (gl : GL) (v0 v1 : AV) (h : Heap) (x : Esc) (K : KT) : Prop:=
 C f_q025 [v0,v1] h fun t1 h2 y3=>
 pK (oBin .eql t1 (AI 0)) fun t4=>
 K .ret ⟨[(4,t4)],h2,(y3 ++ x)⟩
theorem e_q024 {C gl v0 v1 h x K} : NW C gl a_q024.body ⟨enter [v0,v1],h,x⟩ K = d_q024 C gl v0 v1 h x K:=by kernel_rfl
def P_q025 : ACode:=(.seq (rg [mV 4 (cI 0)] [0,1])
(.seq (rg [mV 7 0,
uO 8 (.nilchk 7),
fA 9 1 none 8,
lD 10 none 9,
bN 11 .add 10 (cI 1),
uO 12 (.nilchk 7),
fA 13 1 none 12,
wO (.store none 13 11)] [0,1])
(.seq (.seq (rg [mV 14 0,
uO 15 (.nilchk 14),
fA 16 0 none 15,
lD 17 none 16,
lN 18 17,
bN 19 .eql 18 (cI 0)] [0,1,19])
(.cond 19 (.seq (rg [mV 20 0,
uO 21 (.nilchk 20),
fA 22 1 none 21,
lD 23 none 22,
bN 24 .mul 23 (cI 7919),
mV 25 1,
cL 26 f_q020 [24,25],
mV 4 26] [4])
.ret)
.skip))
(.seq (dr [dF (mV 27 0) [0],
dF (uO 28 (.nilchk 27)) [27],
dF (fA 29 1 none 28) [28],
dF (lD 30 none 29) [29],
dF (bN 31 .sub 30 (cI 1)) [30],
dF (mV 32 0) [0],
dF (uO 33 (.nilchk 32)) [32],
dF (fA 34 0 none 33) [33],
dF (lD 35 none 34) [34],
dF (lN 36 35) [35],
dF (bN 37 .rem 31 36) [31,36],
dF (mV 5 37) [37]] [0,1,5])
(.seq (dr [dF (mV 38 0) [0],
dF (uO 39 (.nilchk 38)) [38],
dF (fA 40 1 none 39) [39],
dF (lD 41 none 40) [40],
dF (bN 42 .sub 41 (cI 1)) [41],
dF (mV 43 0) [0],
dF (uO 44 (.nilchk 43)) [43],
dF (fA 45 0 none 44) [44],
dF (lD 46 none 45) [45],
dF (lN 47 46) [46],
dF (bN 48 .quo 42 47) [42,47],
dF (mV 6 48) [48]] [0,1,5,6])
(.seq (rg [mV 49 0,
uO 50 (.nilchk 49),
fA 51 0 none 50,
lD 52 none 51,
mV 53 5,
iA 54 none 52 53,
lD 55 none 54,
cL 56 f_q020 [55,(cI 1073741824)],
mV 57 6,
mV 58 5,
bN 59 .add (cI 7919) 58,
bN 60 .mul 57 59,
bN 61 .add 56 60,
mV 62 1,
cL 63 f_q020 [61,62],
mV 4 63] [4])
.ret))))))
def a_q025 : AFun:=⟨2,[.t 4],P_q025,false,false⟩
def d_q025 (C : Hd) (gl : GL) (v0 v1 : AV) (h : Heap) (x : Esc) (K : KT) : Prop:=
 pK (oNil v0) fun t1=>
 pK (oFaddr 1 none t1) fun t2=>
 pK (oLoad none t2 h) fun t3=>
 pK (oBin .add t3 (AI 1)) fun t4=>
 pK (oNil v0) fun t5=>
 pK (oFaddr 1 none t5) fun t6=>
 wK (oStore none t6 t4 h) fun t7 h8 y9=>
 pK (oNil v0) fun t10=>
 pK (oFaddr 0 none t10) fun t11=>
 pK (oLoad none t11 h8) fun t12=>
 pK (oLen t12) fun t13=>
 pK (oBin .eql t13 (AI 0)) fun t14=>
 condB t14 (pK (oNil v0) fun t15=>
 pK (oFaddr 1 none t15) fun t16=>
 pK (oLoad none t16 h8) fun t17=>
 pK (oBin .mul t17 (AI 7919)) fun t18=>
 C f_q020 [t18,v1] h8 fun t19 h20 y21=>
 K .ret ⟨[(4,t19)],h20,(y21 ++ (y9 ++ x))⟩)
 (pK (oNil v0) fun t22=>
 pK (oFaddr 1 none t22) fun t23=>
 pK (oLoad none t23 h8) fun t24=>
 pK (oBin .sub t24 (AI 1)) fun t25=>
 pK (oNil v0) fun t26=>
 pK (oFaddr 0 none t26) fun t27=>
 pK (oLoad none t27 h8) fun t28=>
 pK (oLen t28) fun t29=>
 pK (oBin .rem t25 t29) fun t30=>
 pK (oNil v0) fun t31=>
 pK (oFaddr 1 none t31) fun t32=>
 pK (oLoad none t32 h8) fun t33=>
 pK (oBin .sub t33 (AI 1)) fun t34=>
 pK (oNil v0) fun t35=>
 pK (oFaddr 0 none t35) fun t36=>
 pK (oLoad none t36 h8) fun t37=>
 pK (oLen t37) fun t38=>
 pK (oBin .quo t34 t38) fun t39=>
 pK (oNil v0) fun t40=>
 pK (oFaddr 0 none t40) fun t41=>
 pK (oLoad none t41 h8) fun t42=>
 pK (oIaddr none t42 t30 h8) fun t43=>
 pK (oLoad none t43 h8) fun t44=>
 C f_q020 [t44,(AI 1073741824)] h8 fun t45 h46 y47=>
 pK (oBin .add (AI 7919) t30) fun t48=>
 pK (oBin .mul t39 t48) fun t49=>
 pK (oBin .add t45 t49) fun t50=>
 C f_q020 [t50,v1] h46 fun t51 h52 y53=>
 K .ret ⟨[(4,t51)],h52,(y53 ++ (y47 ++ (y9 ++ x)))⟩)
theorem e_q025 {C gl v0 v1 h x K} : NW C gl a_q025.body ⟨enter [v0,v1],h,x⟩ K = d_q025 C gl v0 v1 h x K:=by kernel_rfl
end Go.Am
end
section
/- The functions asv abstract code,and asv formulas over their values: printed by program out of the translation. -/
set_option linter.unusedVariables false
set_option maxRecDepth 100000
namespace Go.Am
def p_q012_k1 : ACode:=.pr [0,14,15,16] (.seq (rg [bN 17 .lss 16 15] [0,14,15,16,17])
(.seq (.cond 17 .skip
(.exit 0))
(.seq (.block 1 (.seq (rg [iA 18 (some 2) 14 16,
lD 19 (some 2) 18,
uO 7 (.alloc [.p (.int .i64 0),.sl0 none]),
wO (.store (some 2) 7 19)] [0,7,14,15,16])
(.seq (rg [mV 20 0,
lN 21 20,
lD 22 (some 2) 7,
cL 23 f_q00v [21,22],
mV 8 23] [0,8,14,15,16])
(.seq (rg [mV 24 8,
bN 25 .neq 24 (cI 0)] [0,8,14,15,16,25])
(.cond 25 (.seq (rg [mV 26 8,
mV 4 26] [4])
.ret)
.skip)))))
(rg [bN 27 .add 16 (cI 1),
mV 16 27] [0,14,15,16]))))
def d_q012_k1 (C : Hd) (gl : GL) (v0 v14 v15 v16 : AV) (h : Heap) (x : Esc) (K : KT) : Prop:=
 pK (oBin .lss v16 v15) fun t1=>
 condB t1 (pK (oIaddr (some 2) v14 v16 h) fun t2=>
 pK (oLoad (some 2) t2 h) fun t3=>
 alK [.p (.int .i64 0),.sl0 none] h fun t4 h5 y6=>
 wK (oStore (some 2) t4 t3 h5) fun t7 h8 y9=>
 pK (oLen v0) fun t10=>
 pK (oLoad (some 2) t4 h8) fun t11=>
 C f_q00v [t10,t11] h8 fun t12 h13 y14=>
 pK (oBin .neq t12 (AI 0)) fun t15=>
 condB t15 (K .ret ⟨[(4,t12)],h13,(y14 ++ (y9 ++ (y6 ++ x)))⟩)
 (pK (oBin .add v16 (AI 1)) fun t16=>
 K .normal ⟨[(0,v0),(14,v14),(15,v15),(16,t16)],h13,(y14 ++ (y9 ++ (y6 ++ x)))⟩))
 (K (.exit 0) ⟨[(0,v0),(14,v14),(15,v15),(16,v16),(17,t1)],h,x⟩)
theorem e_q012_k1 {C gl e h x K} : NW C gl p_q012_k1 ⟨e,h,x⟩ K = d_q012_k1 C gl (aget e 0) (aget e 14) (aget e 15) (aget e 16) h x K:=by kernel_rfl
theorem l_q012_k1 {C gl e h x K} : NW C gl (.loop (.scope p_q012_k1)) ⟨e,h,x⟩ K = NLoop C gl (.scope p_q012_k1) K [(0,aget e 0),(14,aget e 14),(15,aget e 15),(16,aget e 16)] h x:=NLoop_sc
def p_q012_k2 : ACode:=.pr [] (.seq (rg [mV 4 (cI 0)] [4])
.ret)
def d_q012_k2 (C : Hd) (gl : GL) (h : Heap) (x : Esc) (K : KT) : Prop:=
 K .ret ⟨[(4,(AI 0))],h,x⟩
theorem e_q012_k2 {C gl e h x K} : NW C gl p_q012_k2 ⟨e,h,x⟩ K = d_q012_k2 C gl h x K:=by kernel_rfl
def P_q012 (q1 q2 : ACode) : ACode:=(.seq (rg [mV 4 (cI 0)] [0,1])
(.seq (.seq (rg [mV 9 0,
cL 10 f_q00w [9],
mV 5 10] [0,1,5])
(.seq (rg [mV 11 5,
bN 12 .neq 11 (cI 0)] [0,1,5,12])
(.cond 12 (.seq (rg [mV 13 5,
mV 4 13] [4])
.ret)
.skip)))
(.seq (.seq (rg [mV 14 1,
lN 15 14,
mV 16 (cI 0)] [0,14,15,16])
(.block 0 (.loop (.scope q1))))
q2)))
def a_q012 : AFun:=⟨2,[.t 4],P_q012 p_q012_k1 p_q012_k2,false,false⟩
def d_q012 (C : Hd) (gl : GL) (q1 q2 : ACode) (v0 v1 : AV) (h : Heap) (x : Esc) (K : KT) : Prop:=
 C f_q00w [v0] h fun t1 h2 y3=>
 pK (oBin .neq t1 (AI 0)) fun t4=>
 condB t4 (K .ret ⟨[(4,t1)],h2,(y3 ++ x)⟩)
 (pK (oLen v1) fun t5=>
 NW C gl (.loop (.scope q1)) ⟨[(0,v0),(14,v1),(15,t5),(16,(AI 0))],h2,(y3 ++ x)⟩ (blockN 0 (seqN C gl q2 K)))
theorem E_q012 {C gl q1 q2 v0 v1 h x K} : NW C gl (P_q012 q1 q2) ⟨enter [v0,v1],h,x⟩ K = d_q012 C gl q1 q2 v0 v1 h x K:=by kernel_rfl
theorem e_q012 {C gl v0 v1 h x K} : NW C gl a_q012.body ⟨enter [v0,v1],h,x⟩ K = d_q012 C gl p_q012_k1 p_q012_k2 v0 v1 h x K:=E_q012
def p_q015_k1 : ACode:=.pr [3,5,6,8,9,10,15,16] (.seq (rg [bN 17 .lss 16 15] [3,5,6,8,9,10,15,16,17])
(.seq (.cond 17 .skip
(.exit 2))
(.seq (.block 3 (.seq (rg [mV 18 16,
mV 7 18] [3,5,6,7,8,9,10,15,16])
(rg [mV 19 6,
mV 20 5,
mV 21 7,
uO 22 (.idxs 20 21),
bN 23 .sub 22 (.c (.p (.int .u8 48))),
uO 24 (.conv (.i .u64) 23),
mV 25 7,
bN 26 .shl 24 25,
bN 27 .or 19 26,
mV 6 27] [3,5,6,8,9,10,15,16])))
(rg [bN 28 .add 16 (cI 1),
mV 16 28] [3,5,6,8,9,10,15,16]))))
def d_q015_k1 (C : Hd) (gl : GL) (v3 v5 v6 v8 v9 v10 v15 v16 : AV) (h : Heap) (x : Esc) (K : KT) : Prop:=
 pK (oBin .lss v16 v15) fun t1=>
 condB t1 (pK (oIdxs v5 v16) fun t2=>
 pK (oBin .sub t2 (.p (.int .u8 48))) fun t3=>
 pK (oConvI .u64 t3) fun t4=>
 pK (oBin .shl t4 v16) fun t5=>
 pK (oBin .or v6 t5) fun t6=>
 pK (oBin .add v16 (AI 1)) fun t7=>
 K .normal ⟨[(3,v3),(5,v5),(6,t6),(8,v8),(9,v9),(10,v10),(15,v15),(16,t7)],h,x⟩)
 (K (.exit 2) ⟨[(3,v3),(5,v5),(6,v6),(8,v8),(9,v9),(10,v10),(15,v15),(16,v16),(17,t1)],h,x⟩)
theorem e_q015_k1 {C gl e h x K} : NW C gl p_q015_k1 ⟨e,h,x⟩ K = d_q015_k1 C gl (aget e 3) (aget e 5) (aget e 6) (aget e 8) (aget e 9) (aget e 10) (aget e 15) (aget e 16) h x K:=by kernel_rfl
theorem l_q015_k1 {C gl e h x K} : NW C gl (.loop p_q015_k1) ⟨e,h,x⟩ K = NLoop C gl p_q015_k1 K [(3,aget e 3),(5,aget e 5),(6,aget e 6),(8,aget e 8),(9,aget e 9),(10,aget e 10),(15,aget e 15),(16,aget e 16)] h x:=NLoop_pr
def p_q015_k2 : ACode:=.pr [3,6,8,9,10] (rg [mV 29 3,
mV 30 6,
uO 31 (.bsl false none 1 (.int .u64 0) [(0,30)]),
uO 32 (.app none 29 31),
mV 3 32] [3,8,9,10])
def d_q015_k2 (C : Hd) (gl : GL) (v3 v6 v8 v9 v10 : AV) (h : Heap) (x : Esc) (K : KT) : Prop:=
 wK (oBsl false none 1 (.int .u64 0) [(0,v6)] h) fun t1 h2 y3=>
 wK (oApp none v3 t1 h2) fun t4 h5 y6=>
 K .normal ⟨[(3,t4),(8,v8),(9,v9),(10,v10)],h5,(y6 ++ (y3 ++ x))⟩
theorem e_q015_k2 {C gl e h x K} : NW C gl p_q015_k2 ⟨e,h,x⟩ K = d_q015_k2 C gl (aget e 3) (aget e 6) (aget e 8) (aget e 9) (aget e 10) h x K:=by kernel_rfl
def p_q015_k3 : ACode:=.pr [3,8,9,10] (rg [bN 33 .add 10 (cI 1),
mV 10 33] [3,8,9,10])
def d_q015_k3 (C : Hd) (gl : GL) (v3 v8 v9 v10 : AV) (h : Heap) (x : Esc) (K : KT) : Prop:=
 pK (oBin .add v10 (AI 1)) fun t1=>
 K .normal ⟨[(3,v3),(8,v8),(9,v9),(10,t1)],h,x⟩
theorem e_q015_k3 {C gl e h x K} : NW C gl p_q015_k3 ⟨e,h,x⟩ K = d_q015_k3 C gl (aget e 3) (aget e 8) (aget e 9) (aget e 10) h x K:=by kernel_rfl
def P_q015_k4 (q1 q2 q3 : ACode) : ACode:=.pr [3,8,9,10] (.seq (rg [bN 11 .lss 10 9] [3,8,9,10,11])
(.seq (.cond 11 .skip
(.exit 0))
(.seq (.block 1 (.seq (rg [iA 12 none 8 10,
lD 13 none 12,
mV 5 13] [3,5,8,9,10])
(.seq (rg [mV 6 (.c (.p (.int .u64 0)))] [3,5,6,8,9,10])
(.seq (.seq (rg [mV 14 5,
uO 15 (.lens 14),
mV 16 (cI 0)] [3,5,6,8,9,10,15,16])
(.block 2 (.loop q1)))
q2))))
q3)))
def p_q015_k4 : ACode:=P_q015_k4 p_q015_k1 p_q015_k2 p_q015_k3
def d_q015_k4 (C : Hd) (gl : GL) (q1 q2 q3 : ACode) (v3 v8 v9 v10 : AV) (h : Heap) (x : Esc) (K : KT) : Prop:=
 pK (oBin .lss v10 v9) fun t1=>
 condB t1 (pK (oIaddr none v8 v10 h) fun t2=>
 pK (oLoad none t2 h) fun t3=>
 pK (oLens t3) fun t4=>
 NW C gl (.loop q1) ⟨[(3,v3),(5,t3),(6,(.p (.int .u64 0))),(8,v8),(9,v9),(10,v10),(15,t4),(16,(AI 0))],h,x⟩ (blockN 2 (seqN C gl q2 (blockN 1 (seqN C gl q3 K)))))
 (K (.exit 0) ⟨[(3,v3),(8,v8),(9,v9),(10,v10),(11,t1)],h,x⟩)
theorem E_q015_k4 {C gl q1 q2 q3 e h x K} : NW C gl (P_q015_k4 q1 q2 q3) ⟨e,h,x⟩ K = d_q015_k4 C gl q1 q2 q3 (aget e 3) (aget e 8) (aget e 9) (aget e 10) h x K:=by kernel_rfl
theorem e_q015_k4 {C gl e h x K} : NW C gl p_q015_k4 ⟨e,h,x⟩ K = d_q015_k4 C gl p_q015_k1 p_q015_k2 p_q015_k3 (aget e 3) (aget e 8) (aget e 9) (aget e 10) h x K:=E_q015_k4
theorem l_q015_k4 {C gl e h x K} : NW C gl (.loop (.scope p_q015_k4)) ⟨e,h,x⟩ K = NLoop C gl (.scope p_q015_k4) K [(3,aget e 3),(8,aget e 8),(9,aget e 9),(10,aget e 10)] h x:=NLoop_sc
def p_q015_k5 : ACode:=.pr [3] (.seq (rg [mV 34 3,
mV 2 34] [2])
.ret)
def d_q015_k5 (C : Hd) (gl : GL) (v3 : AV) (h : Heap) (x : Esc) (K : KT) : Prop:=
 K .ret ⟨[(2,v3)],h,x⟩
theorem e_q015_k5 {C gl e h x K} : NW C gl p_q015_k5 ⟨e,h,x⟩ K = d_q015_k5 C gl (aget e 3) h x K:=by kernel_rfl
def P_q015 (q4 q5 : ACode) : ACode:=(.seq (rg [mV 2 (.c (.p (.sl none [])))] [0])
(.seq (rg [uO 3 (.new0 none)] [0,3])
(.seq (.seq (rg [mV 8 0,
lN 9 8,
mV 10 (cI 0)] [3,8,9,10])
(.block 0 (.loop (.scope q4))))
q5)))
def a_q015 : AFun:=⟨1,[.t 2],P_q015 p_q015_k4 p_q015_k5,false,true⟩
def d_q015 (C : Hd) (gl : GL) (q4 q5 : ACode) (v0 : AV) (h : Heap) (x : Esc) (K : KT) : Prop:=
 nwK none h fun t1 h2 y3=>
 pK (oLen v0) fun t4=>
 NW C gl (.loop (.scope q4)) ⟨[(3,t1),(8,v0),(9,t4),(10,(AI 0))],h2,(y3 ++ x)⟩ (blockN 0 (seqN C gl q5 K))
theorem E_q015 {C gl q4 q5 v0 h x K} : NW C gl (P_q015 q4 q5) ⟨enter [v0],h,x⟩ K = d_q015 C gl q4 q5 v0 h x K:=by kernel_rfl
theorem e_q015 {C gl v0 h x K} : NW C gl a_q015.body ⟨enter [v0],h,x⟩ K = d_q015 C gl p_q015_k4 p_q015_k5 v0 h x K:=E_q015
def p_q018_k1 : ACode:=.pr [0,4,6,31,32,33] (.seq (rg [bN 34 .lss 33 32] [0,4,6,31,32,33,34])
(.seq (.cond 34 .skip
(.exit 1))
(.seq (.block 2 (.seq (rg [iA 35 none 31 33,
lD 36 none 35,
mV 8 36] [0,4,6,8,31,32,33])
(rg [mV 37 6,
mV 38 0,
mV 39 8,
iA 40 none 38 39,
lD 41 none 40,
bN 42 .and 37 41,
mV 6 42] [0,4,6,31,32,33])))
(rg [bN 43 .add 33 (cI 1),
mV 33 43] [0,4,6,31,32,33]))))
def d_q018_k1 (C : Hd) (gl : GL) (v0 v4 v6 v31 v32 v33 : AV) (h : Heap) (x : Esc) (K : KT) : Prop:=
 pK (oBin .lss v33 v32) fun t1=>
 condB t1 (pK (oIaddr none v31 v33 h) fun t2=>
 pK (oLoad none t2 h) fun t3=>
 pK (oIaddr none v0 t3 h) fun t4=>
 pK (oLoad none t4 h) fun t5=>
 pK (oBin .and v6 t5) fun t6=>
 pK (oBin .add v33 (AI 1)) fun t7=>
 K .normal ⟨[(0,v0),(4,v4),(6,t6),(31,v31),(32,v32),(33,t7)],h,x⟩)
 (K (.exit 1) ⟨[(0,v0),(4,v4),(6,v6),(31,v31),(32,v32),(33,v33),(34,t1)],h,x⟩)
theorem e_q018_k1 {C gl e h x K} : NW C gl p_q018_k1 ⟨e,h,x⟩ K = d_q018_k1 C gl (aget e 0) (aget e 4) (aget e 6) (aget e 31) (aget e 32) (aget e 33) h x K:=by kernel_rfl
theorem l_q018_k1 {C gl e h x K} : NW C gl (.loop p_q018_k1) ⟨e,h,x⟩ K = NLoop C gl p_q018_k1 K [(0,aget e 0),(4,aget e 4),(6,aget e 6),(31,aget e 31),(32,aget e 32),(33,aget e 33)] h x:=NLoop_pr
def p_q018_k2 : ACode:=.pr [0,4,6,47,48,49] (.seq (rg [bN 50 .lss 49 48] [0,4,6,47,48,49,50])
(.seq (.cond 50 .skip
(.exit 3))
(.seq (.block 4 (.seq (rg [iA 51 none 47 49,
lD 52 none 51,
mV 10 52] [0,4,6,10,47,48,49])
(rg [mV 53 6,
mV 54 0,
mV 55 10,
iA 56 none 54 55,
lD 57 none 56,
bN 58 .or 53 57,
mV 6 58] [0,4,6,47,48,49])))
(rg [bN 59 .add 49 (cI 1),
mV 49 59] [0,4,6,47,48,49]))))
def d_q018_k2 (C : Hd) (gl : GL) (v0 v4 v6 v47 v48 v49 : AV) (h : Heap) (x : Esc) (K : KT) : Prop:=
 pK (oBin .lss v49 v48) fun t1=>
 condB t1 (pK (oIaddr none v47 v49 h) fun t2=>
 pK (oLoad none t2 h) fun t3=>
 pK (oIaddr none v0 t3 h) fun t4=>
 pK (oLoad none t4 h) fun t5=>
 pK (oBin .or v6 t5) fun t6=>
 pK (oBin .add v49 (AI 1)) fun t7=>
 K .normal ⟨[(0,v0),(4,v4),(6,t6),(47,v47),(48,v48),(49,t7)],h,x⟩)
 (K (.exit 3) ⟨[(0,v0),(4,v4),(6,v6),(47,v47),(48,v48),(49,v49),(50,t1)],h,x⟩)
theorem e_q018_k2 {C gl e h x K} : NW C gl p_q018_k2 ⟨e,h,x⟩ K = d_q018_k2 C gl (aget e 0) (aget e 4) (aget e 6) (aget e 47) (aget e 48) (aget e 49) h x K:=by kernel_rfl
theorem l_q018_k2 {C gl e h x K} : NW C gl (.loop p_q018_k2) ⟨e,h,x⟩ K = NLoop C gl p_q018_k2 K [(0,aget e 0),(4,aget e 4),(6,aget e 6),(47,aget e 47),(48,aget e 48),(49,aget e 49)] h x:=NLoop_pr
def P_q018_k3 (q1 q2 : ACode) : ACode:=.pr [0,2,4,6,21,24] (.cond 24 (rg [mV 27 2,
mV 6 27] [0,4,6])
(.seq (rg [bN 29 .eql 21 (cI 3),
mV 28 29] [0,4,6,21,28])
(.cond 28 (.seq (rg [fA 30 1 none 4,
lD 31 none 30,
lN 32 31,
mV 33 (cI 0)] [0,4,6,31,32,33])
(.block 1 (.loop q1)))
(.seq (rg [bN 45 .eql 21 (cI 4),
mV 44 45] [0,4,6,44])
(.cond 44 (.seq (rg [fA 46 1 none 4,
lD 47 none 46,
lN 48 47,
mV 49 (cI 0)] [0,4,6,47,48,49])
(.block 3 (.loop q2)))
.skip)))))
def p_q018_k3 : ACode:=P_q018_k3 p_q018_k1 p_q018_k2
def d_q018_k3 (C : Hd) (gl : GL) (q1 q2 : ACode) (v0 v2 v4 v6 v21 v24 : AV) (h : Heap) (x : Esc) (K : KT) : Prop:=
 condB v24 (K .normal ⟨[(0,v0),(4,v4),(6,v2)],h,x⟩)
 (pK (oBin .eql v21 (AI 3)) fun t1=>
 condB t1 (pK (oFaddr 1 none v4) fun t2=>
 pK (oLoad none t2 h) fun t3=>
 pK (oLen t3) fun t4=>
 NW C gl (.loop q1) ⟨[(0,v0),(4,v4),(6,v6),(31,t3),(32,t4),(33,(AI 0))],h,x⟩ (blockN 1 K))
 (pK (oBin .eql v21 (AI 4)) fun t5=>
 condB t5 (pK (oFaddr 1 none v4) fun t6=>
 pK (oLoad none t6 h) fun t7=>
 pK (oLen t7) fun t8=>
 NW C gl (.loop q2) ⟨[(0,v0),(4,v4),(6,v6),(47,t7),(48,t8),(49,(AI 0))],h,x⟩ (blockN 3 K))
 (K .normal ⟨[(0,v0),(4,v4),(6,v6),(44,t5)],h,x⟩)))
theorem E_q018_k3 {C gl q1 q2 e h x K} : NW C gl (P_q018_k3 q1 q2) ⟨e,h,x⟩ K = d_q018_k3 C gl q1 q2 (aget e 0) (aget e 2) (aget e 4) (aget e 6) (aget e 21) (aget e 24) h x K:=by kernel_rfl
theorem e_q018_k3 {C gl e h x K} : NW C gl p_q018_k3 ⟨e,h,x⟩ K = d_q018_k3 C gl p_q018_k1 p_q018_k2 (aget e 0) (aget e 2) (aget e 4) (aget e 6) (aget e 21) (aget e 24) h x K:=E_q018_k3
def p_q018_k4 : ACode:=.pr [0,6,61,62,63] (.seq (rg [bN 64 .lss 63 62] [0,6,61,62,63,64])
(.seq (.cond 64 .skip
(.exit 5))
(.seq (.block 6 (.seq (rg [iA 65 none 61 63,
lD 66 none 65,
mV 12 66] [0,6,12,61,62,63])
(rg [mV 67 0,
mV 68 12,
mV 69 6,
iA 70 none 67 68,
wO (.store none 70 69)] [0,6,61,62,63])))
(rg [bN 71 .add 63 (cI 1),
mV 63 71] [0,6,61,62,63]))))
def d_q018_k4 (C : Hd) (gl : GL) (v0 v6 v61 v62 v63 : AV) (h : Heap) (x : Esc) (K : KT) : Prop:=
 pK (oBin .lss v63 v62) fun t1=>
 condB t1 (pK (oIaddr none v61 v63 h) fun t2=>
 pK (oLoad none t2 h) fun t3=>
 pK (oIaddr none v0 t3 h) fun t4=>
 wK (oStore none t4 v6 h) fun t5 h6 y7=>
 pK (oBin .add v63 (AI 1)) fun t8=>
 K .normal ⟨[(0,v0),(6,v6),(61,v61),(62,v62),(63,t8)],h6,(y7 ++ x)⟩)
 (K (.exit 5) ⟨[(0,v0),(6,v6),(61,v61),(62,v62),(63,v63),(64,t1)],h,x⟩)
theorem e_q018_k4 {C gl e h x K} : NW C gl p_q018_k4 ⟨e,h,x⟩ K = d_q018_k4 C gl (aget e 0) (aget e 6) (aget e 61) (aget e 62) (aget e 63) h x K:=by kernel_rfl
theorem l_q018_k4 {C gl e h x K} : NW C gl (.loop p_q018_k4) ⟨e,h,x⟩ K = NLoop C gl p_q018_k4 K [(0,aget e 0),(6,aget e 6),(61,aget e 61),(62,aget e 62),(63,aget e 63)] h x:=NLoop_pr
def P_q018_k5 (q4 : ACode) : ACode:=.pr [0,4,6] (.seq (rg [fA 60 1 none 4,
lD 61 none 60,
lN 62 61,
mV 63 (cI 0)] [0,6,61,62,63])
(.block 5 (.loop q4)))
def p_q018_k5 : ACode:=P_q018_k5 p_q018_k4
def d_q018_k5 (C : Hd) (gl : GL) (q4 : ACode) (v0 v4 v6 : AV) (h : Heap) (x : Esc) (K : KT) : Prop:=
 pK (oFaddr 1 none v4) fun t1=>
 pK (oLoad none t1 h) fun t2=>
 pK (oLen t2) fun t3=>
 NW C gl (.loop q4) ⟨[(0,v0),(6,v6),(61,t2),(62,t3),(63,(AI 0))],h,x⟩ (blockN 5 K)
theorem E_q018_k5 {C gl q4 e h x K} : NW C gl (P_q018_k5 q4) ⟨e,h,x⟩ K = d_q018_k5 C gl q4 (aget e 0) (aget e 4) (aget e 6) h x K:=by kernel_rfl
theorem e_q018_k5 {C gl e h x K} : NW C gl p_q018_k5 ⟨e,h,x⟩ K = d_q018_k5 C gl p_q018_k4 (aget e 0) (aget e 4) (aget e 6) h x K:=E_q018_k5
def P_q018 (q3 q5 : ACode) : ACode:=(.seq (rg [uO 4 (.box 1)] [0,2,4])
(.seq (rg [mV 13 0,
fA 14 1 none 4,
lD 15 none 14,
iA 16 none 15 (cI 0),
lD 17 none 16,
iA 18 none 13 17,
lD 19 none 18,
mV 6 19] [0,2,4,6])
(.seq (.seq (rg [fA 20 0 none 4,
lD 21 none 20] [0,2,4,6,21])
(.block 0 (.seq (rg [bN 23 .eql 21 (cI 1),
mV 22 23] [0,2,4,6,21,22])
(.cond 22 (rg [mV 6 (.c (.p (.int .u64 0)))] [0,4,6])
(.seq (.seq (rg [bN 25 .eql 21 (cI 2),
mV 24 25] [0,2,4,6,21,24])
(.cond 24 .skip
(rg [bN 26 .eql 21 (cI 6),
mV 24 26] [0,2,4,6,21,24])))
q3)))))
q5)))
def a_q018 : AFun:=⟨3,[],P_q018 p_q018_k3 p_q018_k5,true,false⟩
def d_q018 (C : Hd) (gl : GL) (q3 q5 : ACode) (v0 v1 v2 : AV) (h : Heap) (x : Esc) (K : KT) : Prop:=
 wK (oBox v1 h) fun t1 h2 y3=>
 pK (oFaddr 1 none t1) fun t4=>
 pK (oLoad none t4 h2) fun t5=>
 pK (oIaddr none t5 (AI 0) h2) fun t6=>
 pK (oLoad none t6 h2) fun t7=>
 pK (oIaddr none v0 t7 h2) fun t8=>
 pK (oLoad none t8 h2) fun t9=>
 pK (oFaddr 0 none t1) fun t10=>
 pK (oLoad none t10 h2) fun t11=>
 pK (oBin .eql t11 (AI 1)) fun t12=>
 condB t12 (NW C gl q5 ⟨[(0,v0),(4,t1),(6,(.p (.int .u64 0)))],h2,(y3 ++ x)⟩ K)
 (pK (oBin .eql t11 (AI 2)) fun t13=>
 condB t13 (NW C gl q3 ⟨[(0,v0),(2,v2),(4,t1),(6,t9),(21,t11),(24,t13)],h2,(y3 ++ x)⟩ (blockN 0 (seqN C gl q5 K)))
 (pK (oBin .eql t11 (AI 6)) fun t14=>
 NW C gl q3 ⟨[(0,v0),(2,v2),(4,t1),(6,t9),(21,t11),(24,t14)],h2,(y3 ++ x)⟩ (blockN 0 (seqN C gl q5 K))))
theorem E_q018 {C gl q3 q5 v0 v1 v2 h x K} : NW C gl (P_q018 q3 q5) ⟨enter [v0,v1,v2],h,x⟩ K = d_q018 C gl q3 q5 v0 v1 v2 h x K:=by kernel_rfl
theorem e_q018 {C gl v0 v1 v2 h x K} : NW C gl a_q018.body ⟨enter [v0,v1,v2],h,x⟩ K = d_q018 C gl p_q018_k3 p_q018_k5 v0 v1 v2 h x K:=E_q018
def P_q017 : ACode:=(.seq (rg [mV 2 (.c (.p (.int .u64 0)))] [0])
(.seq (rg [mV 3 0,
bN 4 .shl (.c (.p (.int .u64 1))) 3,
bN 5 .sub 4 (.c (.p (.int .u64 1))),
mV 2 5] [2])
.ret))
def a_q017 : AFun:=⟨1,[.t 2],P_q017,false,false⟩
def d_q017 (C : Hd) (gl : GL) (v0 : AV) (h : Heap) (x : Esc) (K : KT) : Prop:=
 pK (oBin .shl (.p (.int .u64 1)) v0) fun t1=>
 pK (oBin .sub t1 (.p (.int .u64 1))) fun t2=>
 K .ret ⟨[(2,t2)],h,x⟩
theorem e_q017 {C gl v0 h x K} : NW C gl a_q017.body ⟨enter [v0],h,x⟩ K = d_q017 C gl v0 h x K:=by kernel_rfl
def p_q016_k1 : ACode:=.pr [1,5,7,8,10,11,12,19,20] (.seq (rg [bN 21 .lss 20 19] [1,5,7,8,10,11,12,19,20,21])
(.seq (.cond 21 .skip
(.exit 2))
(.seq (.block 3 (.seq (rg [mV 22 20,
mV 9 22] [1,5,7,8,9,10,11,12,19,20])
(rg [mV 23 8,
mV 24 9,
mV 25 7,
mV 26 9,
bN 27 .shr 25 26,
bN 28 .and 27 (.c (.p (.int .u64 1))),
bN 29 .add (.c (.p (.int .u64 48))) 28,
uO 30 (.conv (.i .u8) 29),
iA 31 none 23 24,
wO (.store none 31 30)] [1,5,7,8,10,11,12,19,20])))
(rg [bN 32 .add 20 (cI 1),
mV 20 32] [1,5,7,8,10,11,12,19,20]))))
def d_q016_k1 (C : Hd) (gl : GL) (v1 v5 v7 v8 v10 v11 v12 v19 v20 : AV) (h : Heap) (x : Esc) (K : KT) : Prop:=
 pK (oBin .lss v20 v19) fun t1=>
 condB t1 (pK (oBin .shr v7 v20) fun t2=>
 pK (oBin .and t2 (.p (.int .u64 1))) fun t3=>
 pK (oBin .add (.p (.int .u64 48)) t3) fun t4=>
 pK (oConvI .u8 t4) fun t5=>
 pK (oIaddr none v8 v20 h) fun t6=>
 wK (oStore none t6 t5 h) fun t7 h8 y9=>
 pK (oBin .add v20 (AI 1)) fun t10=>
 K .normal ⟨[(1,v1),(5,v5),(7,v7),(8,v8),(10,v10),(11,v11),(12,v12),(19,v19),(20,t10)],h8,(y9 ++ x)⟩)
 (K (.exit 2) ⟨[(1,v1),(5,v5),(7,v7),(8,v8),(10,v10),(11,v11),(12,v12),(19,v19),(20,v20),(21,t1)],h,x⟩)
theorem e_q016_k1 {C gl e h x K} : NW C gl p_q016_k1 ⟨e,h,x⟩ K = d_q016_k1 C gl (aget e 1) (aget e 5) (aget e 7) (aget e 8) (aget e 10) (aget e 11) (aget e 12) (aget e 19) (aget e 20) h x K:=by kernel_rfl
theorem l_q016_k1 {C gl e h x K} : NW C gl (.loop p_q016_k1) ⟨e,h,x⟩ K = NLoop C gl p_q016_k1 K [(1,aget e 1),(5,aget e 5),(7,aget e 7),(8,aget e 8),(10,aget e 10),(11,aget e 11),(12,aget e 12),(19,aget e 19),(20,aget e 20)] h x:=NLoop_pr
def p_q016_k2 : ACode:=.pr [1,5,8,10,11,12] (rg [mV 33 5,
mV 34 8,
uO 35 (.conv .b2s 34),
uO 36 (.bsl false none 1 (.str []) [(0,35)]),
uO 37 (.app none 33 36),
mV 5 37] [1,5,10,11,12])
def d_q016_k2 (C : Hd) (gl : GL) (v1 v5 v8 v10 v11 v12 : AV) (h : Heap) (x : Esc) (K : KT) : Prop:=
 wK (oConv .b2s v8 h) fun t1 h2 y3=>
 wK (oBsl false none 1 (.str []) [(0,t1)] h2) fun t4 h5 y6=>
 wK (oApp none v5 t4 h5) fun t7 h8 y9=>
 K .normal ⟨[(1,v1),(5,t7),(10,v10),(11,v11),(12,v12)],h8,(y9 ++ (y6 ++ (y3 ++ x)))⟩
theorem e_q016_k2 {C gl e h x K} : NW C gl p_q016_k2 ⟨e,h,x⟩ K = d_q016_k2 C gl (aget e 1) (aget e 5) (aget e 8) (aget e 10) (aget e 11) (aget e 12) h x K:=by kernel_rfl
def p_q016_k3 : ACode:=.pr [1,5,10,11,12] (rg [bN 38 .add 12 (cI 1),
mV 12 38] [1,5,10,11,12])
def d_q016_k3 (C : Hd) (gl : GL) (v1 v5 v10 v11 v12 : AV) (h : Heap) (x : Esc) (K : KT) : Prop:=
 pK (oBin .add v12 (AI 1)) fun t1=>
 K .normal ⟨[(1,v1),(5,v5),(10,v10),(11,v11),(12,t1)],h,x⟩
theorem e_q016_k3 {C gl e h x K} : NW C gl p_q016_k3 ⟨e,h,x⟩ K = d_q016_k3 C gl (aget e 1) (aget e 5) (aget e 10) (aget e 11) (aget e 12) h x K:=by kernel_rfl
def P_q016_k4 (q1 q2 q3 : ACode) : ACode:=.pr [1,5,10,11,12] (.seq (rg [bN 13 .lss 12 11] [1,5,10,11,12,13])
(.seq (.cond 13 .skip
(.exit 0))
(.seq (.block 1 (.seq (rg [iA 14 none 10 12,
lD 15 none 14,
mV 7 15] [1,5,7,10,11,12])
(.seq (rg [mV 16 1,
uO 17 (.mksl none (.int .u8 0) 16 16),
mV 8 17] [1,5,7,8,10,11,12])
(.seq (.seq (rg [mV 18 8,
lN 19 18,
mV 20 (cI 0)] [1,5,7,8,10,11,12,19,20])
(.block 2 (.loop q1)))
q2))))
q3)))
def p_q016_k4 : ACode:=P_q016_k4 p_q016_k1 p_q016_k2 p_q016_k3
def d_q016_k4 (C : Hd) (gl : GL) (q1 q2 q3 : ACode) (v1 v5 v10 v11 v12 : AV) (h : Heap) (x : Esc) (K : KT) : Prop:=
 pK (oBin .lss v12 v11) fun t1=>
 condB t1 (pK (oIaddr none v10 v12 h) fun t2=>
 pK (oLoad none t2 h) fun t3=>
 wK (oMksl none (.int .u8 0) v1 v1 h) fun t4 h5 y6=>
 pK (oLen t4) fun t7=>
 NW C gl (.loop q1) ⟨[(1,v1),(5,v5),(7,t3),(8,t4),(10,v10),(11,v11),(12,v12),(19,t7),(20,(AI 0))],h5,(y6 ++ x)⟩ (blockN 2 (seqN C gl q2 (blockN 1 (seqN C gl q3 K)))))
 (K (.exit 0) ⟨[(1,v1),(5,v5),(10,v10),(11,v11),(12,v12),(13,t1)],h,x⟩)
theorem E_q016_k4 {C gl q1 q2 q3 e h x K} : NW C gl (P_q016_k4 q1 q2 q3) ⟨e,h,x⟩ K = d_q016_k4 C gl q1 q2 q3 (aget e 1) (aget e 5) (aget e 10) (aget e 11) (aget e 12) h x K:=by kernel_rfl
theorem e_q016_k4 {C gl e h x K} : NW C gl p_q016_k4 ⟨e,h,x⟩ K = d_q016_k4 C gl p_q016_k1 p_q016_k2 p_q016_k3 (aget e 1) (aget e 5) (aget e 10) (aget e 11) (aget e 12) h x K:=E_q016_k4
theorem l_q016_k4 {C gl e h x K} : NW C gl (.loop (.scope p_q016_k4)) ⟨e,h,x⟩ K = NLoop C gl (.scope p_q016_k4) K [(1,aget e 1),(5,aget e 5),(10,aget e 10),(11,aget e 11),(12,aget e 12)] h x:=NLoop_sc
def p_q016_k5 : ACode:=.pr [5] (.seq (rg [mV 39 5,
mV 4 39] [4])
.ret)
def d_q016_k5 (C : Hd) (gl : GL) (v5 : AV) (h : Heap) (x : Esc) (K : KT) : Prop:=
 K .ret ⟨[(4,v5)],h,x⟩
theorem e_q016_k5 {C gl e h x K} : NW C gl p_q016_k5 ⟨e,h,x⟩ K = d_q016_k5 C gl (aget e 5) h x K:=by kernel_rfl
def P_q016 (q4 q5 : ACode) : ACode:=(.seq (rg [mV 4 (.c (.p (.sl none [])))] [0,1])
(.seq (rg [uO 5 (.new0 none)] [0,1,5])
(.seq (.seq (rg [mV 10 0,
lN 11 10,
mV 12 (cI 0)] [1,5,10,11,12])
(.block 0 (.loop (.scope q4))))
q5)))
def a_q016 : AFun:=⟨2,[.t 4],P_q016 p_q016_k4 p_q016_k5,false,false⟩
def d_q016 (C : Hd) (gl : GL) (q4 q5 : ACode) (v0 v1 : AV) (h : Heap) (x : Esc) (K : KT) : Prop:=
 nwK none h fun t1 h2 y3=>
 pK (oLen v0) fun t4=>
 NW C gl (.loop (.scope q4)) ⟨[(1,v1),(5,t1),(10,v0),(11,t4),(12,(AI 0))],h2,(y3 ++ x)⟩ (blockN 0 (seqN C gl q5 K))
theorem E_q016 {C gl q4 q5 v0 v1 h x K} : NW C gl (P_q016 q4 q5) ⟨enter [v0,v1],h,x⟩ K = d_q016 C gl q4 q5 v0 v1 h x K:=by kernel_rfl
theorem e_q016 {C gl v0 v1 h x K} : NW C gl a_q016.body ⟨enter [v0,v1],h,x⟩ K = d_q016 C gl p_q016_k4 p_q016_k5 v0 v1 h x K:=E_q016
def P_q02c : ACode:=(.seq (rg [mV 2 cF] [0])
(.seq (rg [mV 3 0,
cL 4 f_q02m [3,(cS [48,49])],
mV 2 4] [2])
.ret))
def a_q02c : AFun:=⟨1,[.t 2],P_q02c,false,false⟩
def d_q02c (C : Hd) (gl : GL) (v0 : AV) (h : Heap) (x : Esc) (K : KT) : Prop:=
 C f_q02m [v0,(.p (.str [48,49]))] h fun t1 h2 y3=>
 K .ret ⟨[(2,t1)],h2,(y3 ++ x)⟩
theorem e_q02c {C gl v0 h x K} : NW C gl a_q02c.body ⟨enter [v0],h,x⟩ K = d_q02c C gl v0 h x K:=by kernel_rfl
def P_q000 : ACode:=(.seq (rg [mV 2 cF] [0])
(.seq (rg [mV 3 0,
cL 4 f_q04g [3,(cS [48,49])],
bN 5 .eql 4 (cS []),
mV 2 5] [2])
.ret))
def a_q000 : AFun:=⟨1,[.t 2],P_q000,false,false⟩
def d_q000 (C : Hd) (gl : GL) (v0 : AV) (h : Heap) (x : Esc) (K : KT) : Prop:=
 C f_q04g [v0,(.p (.str [48,49]))] h fun t1 h2 y3=>
 pK (oBin .eql t1 (.p (.str []))) fun t4=>
 K .ret ⟨[(2,t4)],h2,(y3 ++ x)⟩
theorem e_q000 {C gl v0 h x K} : NW C gl a_q000.body ⟨enter [v0],h,x⟩ K = d_q000 C gl v0 h x K:=by kernel_rfl
def P_q006 : ACode:=(.seq (rg [mV 6 cF] [0,1,2])
(.seq (rg [mV 7 0,
mV 8 1,
bN 9 .lss 7 8,
mV 10 9,
gD 11 10 false (.mv 0),
gD 12 10 false (.mv 2),
gD 13 10 false (.bin .gtr 11 12),
uO 14 (.pick 10 cT 13),
mV 6 14] [6])
.ret))
def a_q006 : AFun:=⟨3,[.t 6],P_q006,false,false⟩
def d_q006 (C : Hd) (gl : GL) (v0 v1 v2 : AV) (h : Heap) (x : Esc) (K : KT) : Prop:=
 pK (oBin .lss v0 v1) fun t1=>
 gM t1 false v0 h fun t2 h3 y4=>
 gM t1 false v2 h3 fun t5 h6 y7=>
 gP t1 false (oBin .gtr t2 t5) h6 fun t8 h9 y10=>
 pK (oPick t1 (AB true) t8) fun t11=>
 K .ret ⟨[(6,t11)],h9,(y10 ++ (y7 ++ (y4 ++ x)))⟩
theorem e_q006 {C gl v0 v1 v2 h x K} : NW C gl a_q006.body ⟨enter [v0,v1,v2],h,x⟩ K = d_q006 C gl v0 v1 v2 h x K:=by kernel_rfl
def P_q013 : ACode:=(.seq (rg [mV 2 cF] [0])
(.seq (rg [mV 3 0,
cL 4 f_q006 [3,(cI 3),(cI 5)],
uO 5 (.un .not 4),
mV 2 5] [2])
.ret))
def a_q013 : AFun:=⟨1,[.t 2],P_q013,false,false⟩
def d_q013 (C : Hd) (gl : GL) (v0 : AV) (h : Heap) (x : Esc) (K : KT) : Prop:=
 C f_q006 [v0,(AI 3),(AI 5)] h fun t1 h2 y3=>
 pK (oUn .not t1) fun t4=>
 K .ret ⟨[(2,t4)],h2,(y3 ++ x)⟩
theorem e_q013 {C gl v0 h x K} : NW C gl a_q013.body ⟨enter [v0],h,x⟩ K = d_q013 C gl v0 h x K:=by kernel_rfl
def p_q036_k1 : ACode:=.pr [0,1,7,8] (.seq (rg [bN 9 .lss 8 7] [0,1,7,8,9])
(.seq (.cond 9 .skip
(.exit 0))
(.seq (.block 1 (.seq (rg [mV 10 8,
mV 5 10] [0,1,5,7,8])
(.seq (rg [mV 11 1,
mV 12 0,
mV 13 5,
iA 14 none 12 13,
lD 15 none 14,
bN 16 .eql 11 15] [0,1,5,7,8,16])
(.cond 16 (.seq (rg [mV 17 5,
mV 4 17] [4])
.ret)
.skip))))
(rg [bN 18 .add 8 (cI 1),
mV 8 18] [0,1,7,8]))))
def d_q036_k1 (C : Hd) (gl : GL) (v0 v1 v7 v8 : AV) (h : Heap) (x : Esc) (K : KT) : Prop:=
 pK (oBin .lss v8 v7) fun t1=>
 condB t1 (pK (oIaddr none v0 v8 h) fun t2=>
 pK (oLoad none t2 h) fun t3=>
 pK (oBin .eql v1 t3) fun t4=>
 condB t4 (K .ret ⟨[(4,v8)],h,x⟩)
 (pK (oBin .add v8 (AI 1)) fun t5=>
 K .normal ⟨[(0,v0),(1,v1),(7,v7),(8,t5)],h,x⟩))
 (K (.exit 0) ⟨[(0,v0),(1,v1),(7,v7),(8,v8),(9,t1)],h,x⟩)
theorem e_q036_k1 {C gl e h x K} : NW C gl p_q036_k1 ⟨e,h,x⟩ K = d_q036_k1 C gl (aget e 0) (aget e 1) (aget e 7) (aget e 8) h x K:=by kernel_rfl
theorem l_q036_k1 {C gl e h x K} : NW C gl (.loop p_q036_k1) ⟨e,h,x⟩ K = NLoop C gl p_q036_k1 K [(0,aget e 0),(1,aget e 1),(7,aget e 7),(8,aget e 8)] h x:=NLoop_pr
def p_q036_k2 : ACode:=.pr [] (.seq (rg [mV 4 (cI (-1))] [4])
.ret)
def d_q036_k2 (C : Hd) (gl : GL) (h : Heap) (x : Esc) (K : KT) : Prop:=
 K .ret ⟨[(4,(AI (-1)))],h,x⟩
theorem e_q036_k2 {C gl e h x K} : NW C gl p_q036_k2 ⟨e,h,x⟩ K = d_q036_k2 C gl h x K:=by kernel_rfl
def P_q036 (q1 q2 : ACode) : ACode:=(.seq (rg [mV 4 (cI 0)] [0,1])
(.seq (.seq (rg [mV 6 0,
lN 7 6,
mV 8 (cI 0)] [0,1,7,8])
(.block 0 (.loop q1)))
q2))
def a_q036 : AFun:=⟨2,[.t 4],P_q036 p_q036_k1 p_q036_k2,true,false⟩
def d_q036 (C : Hd) (gl : GL) (q1 q2 : ACode) (v0 v1 : AV) (h : Heap) (x : Esc) (K : KT) : Prop:=
 pK (oLen v0) fun t1=>
 NW C gl (.loop q1) ⟨[(0,v0),(1,v1),(7,t1),(8,(AI 0))],h,x⟩ (blockN 0 (seqN C gl q2 K))
theorem E_q036 {C gl q1 q2 v0 v1 h x K} : NW C gl (P_q036 q1 q2) ⟨enter [v0,v1],h,x⟩ K = d_q036 C gl q1 q2 v0 v1 h x K:=by kernel_rfl
theorem e_q036 {C gl v0 v1 h x K} : NW C gl a_q036.body ⟨enter [v0,v1],h,x⟩ K = d_q036 C gl p_q036_k1 p_q036_k2 v0 v1 h x K:=E_q036
def p_q020_k1 : ACode:=.pr [0] (.seq (rg [mV 15 0,
mV 4 15] [4])
.ret)
def d_q020_k1 (C : Hd) (gl : GL) (v0 : AV) (h : Heap) (x : Esc) (K : KT) : Prop:=
 K .ret ⟨[(4,v0)],h,x⟩
theorem e_q020_k1 {C gl e h x K} : NW C gl p_q020_k1 ⟨e,h,x⟩ K = d_q020_k1 C gl (aget e 0) h x K:=by kernel_rfl
def P_q020 (q1 : ACode) : ACode:=(.seq (rg [mV 4 (cI 0)] [0,1])
(.seq (.seq (rg [mV 5 1,
bN 6 .lss 5 (cI 1)] [0,1,6])
(.cond 6 (.seq (rg [mV 4 (cI 0)] [4])
.ret)
.skip))
(.seq (rg [mV 7 0,
mV 8 1,
bN 9 .rem 7 8,
mV 0 9] [0,1])
(.seq (.seq (rg [mV 10 0,
bN 11 .lss 10 (cI 0)] [0,1,11])
(.cond 11 (rg [mV 12 0,
mV 13 1,
bN 14 .add 12 13,
mV 0 14] [0])
.skip))
q1))))
def a_q020 : AFun:=⟨2,[.t 4],P_q020 p_q020_k1,false,false⟩
def d_q020 (C : Hd) (gl : GL) (q1 : ACode) (v0 v1 : AV) (h : Heap) (x : Esc) (K : KT) : Prop:=
 pK (oBin .lss v1 (AI 1)) fun t1=>
 condB t1 (K .ret ⟨[(4,(AI 0))],h,x⟩)
 (pK (oBin .rem v0 v1) fun t2=>
 pK (oBin .lss t2 (AI 0)) fun t3=>
 condB t3 (pK (oBin .add t2 v1) fun t4=>
 NW C gl q1 ⟨[(0,t4)],h,x⟩ K)
 (NW C gl q1 ⟨[(0,t2),(1,v1),(11,t3)],h,x⟩ K))
theorem E_q020 {C gl q1 v0 v1 h x K} : NW C gl (P_q020 q1) ⟨enter [v0,v1],h,x⟩ K = d_q020 C gl q1 v0 v1 h x K:=by kernel_rfl
theorem e_q020 {C gl v0 v1 h x K} : NW C gl a_q020.body ⟨enter [v0,v1],h,x⟩ K = d_q020 C gl p_q020_k1 v0 v1 h x K:=E_q020
def p_q02m_k1 : ACode:=.pr [0,1,7,8] (.seq (rg [bN 9 .lss 8 7] [0,1,7,8,9])
(.seq (.cond 9 .skip
(.exit 0))
(.seq (.block 1 (.seq (rg [mV 10 8,
mV 5 10] [0,1,5,7,8])
(.seq (rg [mV 11 1,
mV 12 0,
mV 13 5,
uO 14 (.idxs 12 13),
cL 15 f_q04d [11,14],
bN 16 .lss 15 (cI 0)] [0,1,7,8,16])
(.cond 16 (.seq (rg [mV 4 cF] [4])
.ret)
.skip))))
(rg [bN 17 .add 8 (cI 1),
mV 8 17] [0,1,7,8]))))
def d_q02m_k1 (C : Hd) (gl : GL) (v0 v1 v7 v8 : AV) (h : Heap) (x : Esc) (K : KT) : Prop:=
 pK (oBin .lss v8 v7) fun t1=>
 condB t1 (pK (oIdxs v0 v8) fun t2=>
 C f_q04d [v1,t2] h fun t3 h4 y5=>
 pK (oBin .lss t3 (AI 0)) fun t6=>
 condB t6 (K .ret ⟨[(4,(AB false))],h4,(y5 ++ x)⟩)
 (pK (oBin .add v8 (AI 1)) fun t7=>
 K .normal ⟨[(0,v0),(1,v1),(7,v7),(8,t7)],h4,(y5 ++ x)⟩))
 (K (.exit 0) ⟨[(0,v0),(1,v1),(7,v7),(8,v8),(9,t1)],h,x⟩)
theorem e_q02m_k1 {C gl e h x K} : NW C gl p_q02m_k1 ⟨e,h,x⟩ K = d_q02m_k1 C gl (aget e 0) (aget e 1) (aget e 7) (aget e 8) h x K:=by kernel_rfl
theorem l_q02m_k1 {C gl e h x K} : NW C gl (.loop p_q02m_k1) ⟨e,h,x⟩ K = NLoop C gl p_q02m_k1 K [(0,aget e 0),(1,aget e 1),(7,aget e 7),(8,aget e 8)] h x:=NLoop_pr
def p_q02m_k2 : ACode:=.pr [] (.seq (rg [mV 4 cT] [4])
.ret)
def d_q02m_k2 (C : Hd) (gl : GL) (h : Heap) (x : Esc) (K : KT) : Prop:=
 K .ret ⟨[(4,(AB true))],h,x⟩
theorem e_q02m_k2 {C gl e h x K} : NW C gl p_q02m_k2 ⟨e,h,x⟩ K = d_q02m_k2 C gl h x K:=by kernel_rfl
def P_q02m (q1 q2 : ACode) : ACode:=(.seq (rg [mV 4 cF] [0,1])
(.seq (.seq (rg [mV 6 0,
uO 7 (.lens 6),
mV 8 (cI 0)] [0,1,7,8])
(.block 0 (.loop q1)))
q2))
def a_q02m : AFun:=⟨2,[.t 4],P_q02m p_q02m_k1 p_q02m_k2,false,false⟩
def d_q02m (C : Hd) (gl : GL) (q1 q2 : ACode) (v0 v1 : AV) (h : Heap) (x : Esc) (K : KT) : Prop:=
 pK (oLens v0) fun t1=>
 NW C gl (.loop q1) ⟨[(0,v0),(1,v1),(7,t1),(8,(AI 0))],h,x⟩ (blockN 0 (seqN C gl q2 K))
theorem E_q02m {C gl q1 q2 v0 v1 h x K} : NW C gl (P_q02m q1 q2) ⟨enter [v0,v1],h,x⟩ K = d_q02m C gl q1 q2 v0 v1 h x K:=by kernel_rfl
theorem e_q02m {C gl v0 v1 h x K} : NW C gl a_q02m.body ⟨enter [v0,v1],h,x⟩ K = d_q02m C gl p_q02m_k1 p_q02m_k2 v0 v1 h x K:=E_q02m
def P_q04d : ACode:=(.seq (rg [mV 4 (cI 0)] [0,1])
(.seq (rg [mV 5 0,
mV 6 1,
cL 7 f_q01e [5,6],
mV 4 7] [4])
.ret))
def a_q04d : AFun:=⟨2,[.t 4],P_q04d,false,false⟩
def d_q04d (C : Hd) (gl : GL) (v0 v1 : AV) (h : Heap) (x : Esc) (K : KT) : Prop:=
 C f_q01e [v0,v1] h fun t1 h2 y3=>
 K .ret ⟨[(4,t1)],h2,(y3 ++ x)⟩
theorem e_q04d {C gl v0 v1 h x K} : NW C gl a_q04d.body ⟨enter [v0,v1],h,x⟩ K = d_q04d C gl v0 v1 h x K:=by kernel_rfl
def P_q01e : ACode:=(.seq (rg [mV 4 (cI 0)] [0,1])
(.seq (rg [mV 5 0,
mV 6 1,
cL 7 f_internal_bytealg_IndexByteString [5,6],
mV 4 7] [4])
.ret))
def a_q01e : AFun:=⟨2,[.t 4],P_q01e,false,false⟩
def d_q01e (C : Hd) (gl : GL) (v0 v1 : AV) (h : Heap) (x : Esc) (K : KT) : Prop:=
 C f_internal_bytealg_IndexByteString [v0,v1] h fun t1 h2 y3=>
 K .ret ⟨[(4,t1)],h2,(y3 ++ x)⟩
theorem e_q01e {C gl v0 v1 h x K} : NW C gl a_q01e.body ⟨enter [v0,v1],h,x⟩ K = d_q01e C gl v0 v1 h x K:=by kernel_rfl
def p_q001_k1 : ACode:=.pr [5,6,7] (.seq (rg [bN 8 .lss 7 6] [5,6,7,8])
(.seq (.cond 8 .skip
(.exit 0))
(.seq (.block 1 (.seq (rg [iA 9 none 5 7,
lD 10 none 9,
mV 4 10] [4,5,6,7])
(.seq (rg [mV 11 4,
bN 12 .neq 11 (cI 0)] [4,5,6,7,12])
(.cond 12 (.seq (rg [mV 13 4,
mV 2 13] [2])
.ret)
.skip))))
(rg [bN 14 .add 7 (cI 1),
mV 7 14] [5,6,7]))))
def p_q001_k2 : ACode:=.pr [] (.seq (rg [mV 2 (cI 0)] [2])
.ret)
def P_q001 (q1 q2 : ACode) : ACode:=(.seq (rg [mV 2 (cI 0)] [0])
(.seq (.seq (rg [mV 5 0,
lN 6 5,
mV 7 (cI 0)] [5,6,7])
(.block 0 (.loop q1)))
q2))
def a_q001 : AFun:=⟨1,[.t 2],P_q001 p_q001_k1 p_q001_k2,false,false⟩
def P_q002 : ACode:=(.seq (rg [uO 4 (.alloc [.p (.int .i64 0),.p (.int .i64 0)])] [0,1,4])
(.seq (rg [mV 6 0,
mV 7 0,
uO 8 (.un .neg 7),
uO 9 (.mx [6,8]),
mV 10 1,
cL 11 f_q003 [9,10],
mV 5 11] [0,1,4,5])
(.seq (dr [dF (mV 12 0) [0],
dF (mV 13 5) [5],
dF (bN 14 .quo 12 13) [12,13],
dF (mV 15 1) [1],
dF (mV 16 5) [5],
dF (bN 17 .quo 15 16) [15,16],
dF (uO 18 (.build [.p (.int .i64 0),.p (.int .i64 0)] [(0,1,14),(1,1,17)])) [14,17],
dT (wO (.store (some 2) 4 18)) [4,18]] [4])
.ret)))
def a_q002 : AFun:=⟨2,[.cell 4 (some 2)],P_q002,false,false⟩
def p_q003_k1 : ACode:=.pr [0,1] (.seq (.seq (rg [mV 5 1,
bN 6 .neq 5 (cI 0)] [0,1,6])
(.cond 6 .skip
(.exit 0)))
(.block 1 (dr [dF (mV 7 1) [1],
dF (mV 8 0) [0],
dF (mV 9 1) [1],
dF (bN 10 .rem 8 9) [8,9],
dF (mV 0 7) [7],
dF (mV 1 10) [10]] [0,1])))
def p_q003_k2 : ACode:=.pr [0] (.seq (rg [mV 11 0,
mV 4 11] [4])
.ret)
def P_q003 (q1 q2 : ACode) : ACode:=(.seq (rg [mV 4 (cI 0)] [0,1])
(.seq (.block 0 (.loop q1))
q2))
def a_q003 : AFun:=⟨2,[.t 4],P_q003 p_q003_k1 p_q003_k2,false,false⟩
def p_q004_k1 : ACode:=.pr [0,23,24] (.seq (rg [bN 25 .lss 24 23] [0,23,24,25])
(.seq (.cond 25 .skip
(.exit 0))
(.seq (.block 1 (.seq (rg [mV 26 24,
mV 3 26] [0,3,23,24])
(.seq (rg [mV 27 0,
mV 28 3,
uO 29 (.idxs 27 28),
mV 4 29] [0,4,23,24])
(.seq (rg [mV 30 4,
bN 31 .geq 30 (.c (.p (.int .u8 97))),
mV 32 31,
gD 33 32 true (.mv 4),
gD 34 32 true (.bin .leq 33 (.c (.p (.int .u8 122)))),
uO 35 (.pick 32 34 cF),
mV 36 35,
gD 37 36 false (.mv 4),
gD 38 36 false (.bin .geq 37 (.c (.p (.int .u8 48)))),
gD 39 36 false (.mv 38),
gD 40 39 true (.mv 4),
gD 41 39 true (.bin .leq 40 (.c (.p (.int .u8 57)))),
gD 42 36 false (.pick 39 41 cF),
uO 43 (.pick 36 cT 42),
mV 44 43,
gD 45 44 false (.mv 4),
gD 46 44 false (.bin .eql 45 (.c (.p (.int .u8 45)))),
uO 47 (.pick 44 cT 46),
mV 48 47,
gD 49 48 false (.mv 4),
gD 50 48 false (.bin .eql 49 (.c (.p (.int .u8 95)))),
uO 51 (.pick 48 cT 50),
uO 52 (.un .not 51)] [0,23,24,52])
(.cond 52 (.seq (rg [mV 2 cF] [2])
.ret)
.skip)))))
(rg [bN 53 .add 24 (cI 1),
mV 24 53] [0,23,24]))))
def p_q004_k2 : ACode:=.pr [] (.seq (rg [mV 2 cT] [2])
.ret)
def P_q004 (q1 q2 : ACode) : ACode:=(.seq (rg [mV 2 cF] [0])
(.seq (.seq (rg [mV 5 0,
bN 6 .eql 5 (cS []),
mV 7 6,
gD 8 7 false (.mv 0),
gD 9 7 false (.lens 8),
gD 10 7 false (.bin .gtr 9 (cI 40)),
uO 11 (.pick 7 cT 10),
mV 12 11,
gD 13 12 false (.mv 0),
gD 14 12 false (.idxs 13 (cI 0)),
gD 15 12 false (.bin .lss 14 (.c (.p (.int .u8 97)))),
uO 16 (.pick 12 cT 15),
mV 17 16,
gD 18 17 false (.mv 0),
gD 19 17 false (.idxs 18 (cI 0)),
gD 20 17 false (.bin .gtr 19 (.c (.p (.int .u8 122)))),
uO 21 (.pick 17 cT 20)] [0,21])
(.cond 21 (.seq (rg [mV 2 cF] [2])
.ret)
.skip))
(.seq (.seq (rg [mV 22 0,
uO 23 (.lens 22),
mV 24 (cI 0)] [0,23,24])
(.block 0 (.loop q1)))
q2)))
def a_q004 : AFun:=⟨1,[.t 2],P_q004 p_q004_k1 p_q004_k2,false,false⟩
def P_q005 : ACode:=(.seq (rg [mV 2 cF] [0])
(.seq (rg [mV 3 0,
cL 4 f_q006 [3,(cI 0),(cI 345686399999)],
uO 5 (.un .not 4),
mV 2 5] [2])
.ret))
def a_q005 : AFun:=⟨1,[.t 2],P_q005,false,false⟩
def p_q008_k1 : ACode:=.pr [2,19,20,21] (.seq (rg [bN 22 .lss 21 20] [2,19,20,21,22])
(.seq (.cond 22 .skip
(.exit 0))
(.seq (.block 1 (.seq (rg [mV 23 21,
iA 24 none 19 21,
lD 25 none 24,
mV 6 23,
mV 7 25] [2,6,7,19,20,21])
(.seq (rg [mV 26 7,
uO 27 (.lens 26),
fA 28 0 none 2,
lD 29 none 28,
mV 30 6,
iA 31 (some 2) 29 30,
fA 32 1 none 31,
lD 33 none 32,
lN 34 33,
bN 35 .neq 27 34,
mV 36 35,
gD 37 36 false (.mv 7),
gD 38 36 false (.call f_q000 [37]),
gD 39 36 false (.un .not 38),
uO 40 (.pick 36 cT 39)] [2,19,20,21,40])
(.cond 40 (.seq (rg [mV 4 (cI 3)] [4])
.ret)
.skip))))
(rg [bN 41 .add 21 (cI 1),
mV 21 41] [2,19,20,21]))))
def p_q008_k2 : ACode:=.pr [] (.seq (rg [mV 4 (cI 0)] [4])
.ret)
def P_q008 (q1 q2 : ACode) : ACode:=(.seq (rg [uO 2 (.box 0),
mV 4 (cI 0)] [1,2])
(.seq (.seq (rg [lD 8 (some 3) 2,
cL 9 f_q009 [8],
mV 5 9] [1,2,5])
(.seq (rg [mV 10 5,
bN 11 .neq 10 (cI 0)] [1,2,5,11])
(.cond 11 (.seq (rg [mV 12 5,
mV 4 12] [4])
.ret)
.skip)))
(.seq (.seq (rg [mV 13 1,
lN 14 13,
fA 15 0 none 2,
lD 16 none 15,
lN 17 16,
bN 18 .neq 14 17] [1,2,18])
(.cond 18 (.seq (rg [mV 4 (cI 3)] [4])
.ret)
.skip))
(.seq (.seq (rg [mV 19 1,
lN 20 19,
mV 21 (cI 0)] [2,19,20,21])
(.block 0 (.loop q1)))
q2))))
def a_q008 : AFun:=⟨2,[.t 4],P_q008 p_q008_k1 p_q008_k2,false,false⟩
def p_q009_k1 : ACode:=.pr [1,15,16,17] (.seq (rg [bN 18 .lss 17 16] [1,15,16,17,18])
(.seq (.cond 18 .skip
(.exit 0))
(.seq (.block 1 (.seq (rg [mV 19 17,
iA 20 (some 2) 15 17,
lD 21 (some 2) 20,
uO 4 (.alloc [.p (.str []),.sl0 (some 4)]),
mV 3 19,
wO (.store (some 2) 4 21)] [1,3,4,15,16,17])
(.seq (.block 2 (.seq (rg [fA 23 0 none 4,
lD 24 none 23,
cL 25 f_q004 [24],
uO 26 (.un .not 25),
mV 22 26] [1,3,4,15,16,17,22])
(.cond 22 (.seq (rg [mV 2 (cI 5)] [2])
.ret)
(.seq (dr [dF (mV 28 3) [3],
dF (bN 29 .gtr 28 (cI 0)) [28],
dF (mV 30 29) [29],
dF (gD 31 30 true (.faddr 0 none 4)) [4,30],
dF (gD 32 30 true (.load none 31)) [31,30],
dF (gD 33 30 true (.faddr 0 none 1)) [1,30],
dF (gD 34 30 true (.load none 33)) [33,30],
dF (gD 35 30 true (.mv 3)) [3,30],
dF (gD 36 30 true (.bin .sub 35 (cI 1))) [35,30],
dF (gD 37 30 true (.iaddr (some 2) 34 36)) [34,36,30],
dF (gD 38 30 true (.faddr 0 none 37)) [37,30],
dF (gD 39 30 true (.load none 38)) [38,30],
dF (gD 40 30 true (.bin .leq 32 39)) [32,39,30],
dF (uO 41 (.pick 30 40 cF)) [30,40],
dF (mV 27 41) [41]] [1,4,15,16,17,27])
(.cond 27 (.seq (rg [mV 2 (cI 7)] [2])
.ret)
.skip)))))
(.seq (rg [lD 42 (some 2) 4,
cL 43 f_q00g [42],
mV 5 43] [1,5,15,16,17])
(.seq (rg [mV 44 5,
bN 45 .neq 44 (cI 0)] [1,5,15,16,17,45])
(.cond 45 (.seq (rg [mV 46 5,
mV 2 46] [2])
.ret)
.skip))))))
(rg [bN 47 .add 17 (cI 1),
mV 17 47] [1,15,16,17]))))
def p_q009_k2 : ACode:=.pr [1,7,59,60,61] (.seq (rg [bN 62 .lss 61 60] [1,7,59,60,61,62])
(.seq (.cond 62 .skip
(.exit 3))
(.seq (.block 4 (.seq (rg [mV 63 61,
iA 64 (some 2) 59 61,
lD 65 (some 2) 64,
uO 9 (.alloc [.p (.str []),.p (.int .i64 0)]),
mV 8 63,
wO (.store (some 2) 9 65)] [1,7,8,9,59,60,61])
(.block 5 (.seq (rg [mV 67 7,
fA 68 0 none 9,
lD 69 none 68,
cL 70 f_q030 [67,69],
uO 71 (.un .not 70),
mV 66 71] [1,7,8,9,59,60,61,66])
(.cond 66 (.seq (rg [mV 2 (cI 8)] [2])
.ret)
(.seq (rg [fA 73 1 none 9,
lD 74 none 73,
cL 75 f_q006 [74,(cI 0),(cI 1)],
mV 72 75] [1,7,8,9,59,60,61,72])
(.cond 72 (.seq (rg [mV 2 (cI 1)] [2])
.ret)
(.seq (dr [dF (mV 77 8) [8],
dF (bN 78 .gtr 77 (cI 0)) [77],
dF (mV 79 78) [78],
dF (gD 80 79 true (.faddr 0 none 9)) [9,79],
dF (gD 81 79 true (.load none 80)) [80,79],
dF (gD 82 79 true (.faddr 2 none 1)) [1,79],
dF (gD 83 79 true (.load none 82)) [82,79],
dF (gD 84 79 true (.mv 8)) [8,79],
dF (gD 85 79 true (.bin .sub 84 (cI 1))) [84,79],
dF (gD 86 79 true (.iaddr (some 2) 83 85)) [83,85,79],
dF (gD 87 79 true (.faddr 0 none 86)) [86,79],
dF (gD 88 79 true (.load none 87)) [87,79],
dF (gD 89 79 true (.bin .leq 81 88)) [81,88,79],
dF (uO 90 (.pick 79 89 cF)) [79,89],
dF (mV 76 90) [90]] [1,7,59,60,61,76])
(.cond 76 (.seq (rg [mV 2 (cI 7)] [2])
.ret)
.skip)))))))))
(rg [bN 91 .add 61 (cI 1),
mV 61 91] [1,7,59,60,61]))))
def p_q009_k3 : ACode:=.pr [] (.seq (rg [mV 2 (cI 0)] [2])
.ret)
def P_q009_k4 (q2 q3 : ACode) : ACode:=.pr [1] (.seq (.seq (rg [lD 48 (some 3) 1,
cL 49 f_q00l [48],
mV 6 49] [1,6])
(.seq (rg [mV 50 6,
bN 51 .neq 50 (cI 0)] [1,6,51])
(.cond 51 (.seq (rg [mV 52 6,
mV 2 52] [2])
.ret)
.skip)))
(.seq (rg [lD 53 (some 3) 1,
cL 54 f_q00n [53],
mV 7 54] [1,7])
(.seq (.seq (rg [mV 55 7,
lN 56 55,
bN 57 .gtr 56 (cI 100)] [1,7,57])
(.cond 57 (.seq (rg [mV 2 (cI 2)] [2])
.ret)
.skip))
(.seq (.seq (rg [fA 58 2 none 1,
lD 59 none 58,
lN 60 59,
mV 61 (cI 0)] [1,7,59,60,61])
(.block 3 (.loop (.scope q2))))
q3))))
def p_q009_k4 : ACode:=P_q009_k4 p_q009_k2 p_q009_k3
def P_q009 (q1 q4 : ACode) : ACode:=(.seq (rg [uO 1 (.box 0),
mV 2 (cI 0)] [1])
(.seq (.seq (rg [fA 10 0 none 1,
lD 11 none 10,
lN 12 11,
bN 13 .gtr 12 (cI 40)] [1,13])
(.cond 13 (.seq (rg [mV 2 (cI 2)] [2])
.ret)
.skip))
(.seq (.seq (rg [fA 14 0 none 1,
lD 15 none 14,
lN 16 15,
mV 17 (cI 0)] [1,15,16,17])
(.block 0 (.loop (.scope q1))))
q4)))
def a_q009 : AFun:=⟨1,[.t 2],P_q009 p_q009_k1 p_q009_k4,false,false⟩
def p_q00c_k1 : ACode:=.pr [7,8,21,22,23] (.seq (rg [bN 24 .lss 23 22] [7,8,21,22,23,24])
(.seq (.cond 24 .skip
(.exit 0))
(.seq (.block 1 (.seq (rg [iA 25 none 21 23,
lD 26 none 25,
mV 10 26] [7,8,10,21,22,23])
(rg [mV 27 8,
mV 28 7,
mV 29 10,
uO 30 (.look (none,[2]) false (AI 0) 28 29),
uO 31 (.bsl false none 1 (.int .i64 0) [(0,30)]),
uO 32 (.app none 27 31),
mV 8 32] [7,8,21,22,23])))
(rg [bN 33 .add 23 (cI 1),
mV 23 33] [7,8,21,22,23]))))
def p_q00c_k2 : ACode:=.pr [8] (.seq (rg [mV 34 8,
mV 4 34,
mV 5 (cI 0)] [4,5])
.ret)
def P_q00c (q1 q2 : ACode) : ACode:=(.seq (rg [uO 2 (.box 0),
mV 4 (.c (.p (.sl none []))),
mV 5 (cI 0)] [1,2])
(.seq (.seq (rg [lD 11 (some 3) 2,
mV 12 1,
cL 13 f_q008 [11,12],
mV 6 13] [1,2,6])
(.seq (rg [mV 14 6,
bN 15 .neq 14 (cI 0)] [1,2,6,15])
(.cond 15 (.seq (rg [mV 16 6,
mV 4 (.c (.p (.sl none []))),
mV 5 16] [4,5])
.ret)
.skip)))
(.seq (rg [lD 17 (some 3) 2,
mV 18 1,
cL 19 f_q00m [17,18],
mV 7 19] [2,7])
(.seq (rg [uO 8 (.new0 none)] [2,7,8])
(.seq (.seq (rg [lD 20 (some 3) 2,
cL 21 f_q00n [20],
lN 22 21,
mV 23 (cI 0)] [7,8,21,22,23])
(.block 0 (.loop (.scope q1))))
q2)))))
def a_q00c : AFun:=⟨2,[.t 4,.t 5],P_q00c p_q00c_k1 p_q00c_k2,false,false⟩
def P_q00d : ACode:=(.seq (rg [uO 2 (.box 0),
uO 3 (.box 1),
mV 4 (cI 0)] [2,3])
(.seq (dr [dF (fA 5 0 none 2) [2],
dF (lD 6 none 5) [5],
dF (fA 7 0 none 3) [3],
dF (lD 8 none 7) [7],
dT (cL 9 f_q04a [6,8]) [6,8],
dF (fA 10 1 none 2) [2],
dA (lD 11 none 10) [10] false [4] [],
dF (fA 12 1 none 3) [3],
dA (lD 13 none 12) [12] false [4] [],
dT (cL 14 f_q04a [11,13]) [11,13],
dF (fA 15 2 none 2) [2],
dA (lD 16 none 15) [15] false [4,9] [],
dF (fA 17 2 none 3) [3],
dA (lD 18 none 17) [17] false [4,9] [],
dT (cL 19 f_q04a [16,18]) [16,18],
dF (uO 20 (.bsl false none 3 (.int .i64 0) [(0,9),(1,14),(2,19)])) [9,14,19],
dT (cL 21 f_q00t [20]) [20],
dF (mV 4 21) [21]] [4])
.ret))
def a_q00d : AFun:=⟨2,[.t 4],P_q00d,false,false⟩
def P_q00e : ACode:=(.seq (rg [uO 2 (.box 0),
uO 3 (.box 1),
mV 4 (cI 0)] [2,3])
(.seq (.block 0 (.seq (rg [fA 6 0 none 3,
lD 7 none 6,
cL 8 f_q006 [7,(cI 1),(cI 4)],
mV 5 8] [2,3,5])
(.cond 5 (.seq (rg [mV 4 (cI 4)] [4])
.ret)
(.seq (rg [lD 10 (some 4) 3,
cL 11 f_q00k [10],
mV 12 11,
gD 13 12 true (.faddr 1 none 3),
gD 14 12 true (.load none 13),
gD 15 12 true (.call f_q004 [14]),
gD 16 12 true (.un .not 15),
uO 17 (.pick 12 16 cF),
mV 9 17] [2,3,9])
(.cond 9 (.seq (rg [mV 4 (cI 5)] [4])
.ret)
(.seq (rg [lD 19 (some 4) 3,
cL 20 f_q00k [19],
uO 21 (.un .not 20),
mV 22 21,
gD 23 22 true (.faddr 1 none 3),
gD 24 22 true (.load none 23),
gD 25 22 true (.bin .neq 24 (cS [])),
uO 26 (.pick 22 25 cF),
mV 18 26] [2,3,18])
(.cond 18 (.seq (rg [mV 4 (cI 3)] [4])
.ret)
.skip)))))))
(.seq (.seq (rg [fA 27 0 none 3,
lD 28 none 27,
bN 29 .neq 28 (cI 2)] [2,3,29])
(.cond 29 (.seq (.seq (rg [fA 30 2 none 3,
lD 31 none 30,
bN 32 .neq 31 (cI (-1)),
mV 33 32,
gD 34 33 false (.faddr 3 none 3),
gD 35 33 false (.load none 34),
gD 36 33 false (.bin .neq 35 (cI 0)),
uO 37 (.pick 33 cT 36)] [37])
(.cond 37 (.seq (rg [mV 4 (cI 3)] [4])
.ret)
.skip))
(.seq (rg [mV 4 (cI 0)] [4])
.ret))
.skip))
(.seq (.block 1 (.seq (rg [fA 39 2 none 3,
lD 40 none 39,
bN 41 .neq 40 (cI (-1)),
mV 42 41,
gD 43 42 true (.faddr 2 none 3),
gD 44 42 true (.load none 43),
gD 45 42 true (.faddr 1 none 2),
gD 46 42 true (.load none 45),
gD 47 42 true (.len 46),
gD 48 42 true (.bin .sub 47 (cI 1)),
gD 49 42 true (.call f_q006 [44,(cI 0),48]),
gD 50 42 true (.mv 49),
gD 51 50 false (.faddr 1 none 2),
gD 52 50 false (.load none 51),
gD 53 50 false (.faddr 2 none 3),
gD 54 50 false (.load none 53),
gD 55 50 false (.iaddr (some 4) 52 54),
gD 56 50 false (.faddr 0 none 55),
gD 57 50 false (.load none 56),
gD 58 50 false (.bin .neq 57 (cI 3)),
gD 59 42 true (.pick 50 cT 58),
uO 60 (.pick 42 59 cF),
mV 38 60] [3,38])
(.cond 38 (.seq (rg [mV 4 (cI 8)] [4])
.ret)
(.seq (rg [fA 62 3 none 3,
lD 63 none 62,
cL 64 f_q006 [63,(cI 0),(cI 1)],
mV 65 64,
gD 66 65 false (.faddr 2 none 3),
gD 67 65 false (.load none 66),
gD 68 65 false (.bin .eql 67 (cI (-1))),
gD 69 65 false (.mv 68),
gD 70 69 true (.faddr 3 none 3),
gD 71 69 true (.load none 70),
gD 72 69 true (.bin .neq 71 (cI 0)),
gD 73 65 false (.pick 69 72 cF),
uO 74 (.pick 65 cT 73),
mV 61 74] [61])
(.cond 61 (.seq (rg [mV 4 (cI 1)] [4])
.ret)
.skip)))))
(.seq (rg [mV 4 (cI 0)] [4])
.ret)))))
def a_q00e : AFun:=⟨2,[.t 4],P_q00e,false,false⟩
def p_q00f_k1 : ACode:=.pr [1,5,6,7,8,17,18,19,25,26,27] (rg [bN 57 .add 27 (cI 1),
mV 27 57] [1,5,6,7,8,17,18,19,25,26,27])
def P_q00f_k2 (q1 : ACode) : ACode:=.pr [1,5,6,7,8,17,18,19,25,26,27] (.seq (rg [bN 28 .lss 27 26] [1,5,6,7,8,17,18,19,25,26,27,28])
(.seq (.cond 28 .skip
(.exit 2))
(.seq (.block 3 (.seq (rg [mV 29 27,
iA 30 (some 4) 25 27,
lD 31 (some 4) 30,
uO 10 (.alloc [.p (.int .i64 0),.p (.str []),.p (.int .i64 0),.p (.int .i64 0)]),
mV 9 29,
wO (.store (some 4) 10 31)] [1,5,6,7,8,9,10,17,18,19,25,26,27])
(.seq (.seq (rg [fA 32 0 none 10,
lD 33 none 32,
mV 34 1,
bN 35 .neq 33 34] [1,5,6,7,8,9,10,17,18,19,25,26,27,35])
(.cond 35 (.exit 3)
.skip))
(.seq (rg [mV 37 5,
fA 38 0 none 8,
lD 39 none 38,
fA 40 1 none 10,
lD 41 none 40,
uO 42 (.build [.p (.str []),.p (.str [])] [(0,1,39),(1,1,41)]),
uO 43 (.look ((some 2),[2,2]) true (.p (.str [])) 37 42),
mV 36 43,
eX 44 36 0,
eX 45 36 1,
mV 11 44,
mV 12 45] [1,5,6,7,8,9,11,12,17,18,19,25,26,27])
(.seq (rg [mV 46 12] [1,5,6,7,8,9,11,17,18,19,25,26,27,46])
(.cond 46 (rg [mV 47 6,
mV 48 11,
mV 49 6,
mV 50 11,
uO 51 (.look (none,[2]) false (.sl0 (some 2)) 49 50),
mV 52 7,
mV 53 9,
uO 54 (.build [.p (.int .i64 0),.p (.int .i64 0)] [(0,1,52),(1,1,53)]),
uO 55 (.bsl false (some 2) 1 (.agg [.int .i64 0,.int .i64 0]) [(0,54)]),
uO 56 (.app (some 2) 51 55),
wO (.mupd (none,[2]) 47 48 56)] [1,5,6,7,8,17,18,19,25,26,27])
.skip))))))
q1)))
def p_q00f_k2 : ACode:=P_q00f_k2 p_q00f_k1
def p_q00f_k3 : ACode:=.pr [1,5,6,17,18,19] (rg [bN 58 .add 19 (cI 1),
mV 19 58] [1,5,6,17,18,19])
def P_q00f_k4 (q2 q3 : ACode) : ACode:=.pr [1,5,6,17,18,19] (.seq (rg [bN 20 .lss 19 18] [1,5,6,17,18,19,20])
(.seq (.cond 20 .skip
(.exit 0))
(.seq (.block 1 (.seq (rg [mV 21 19,
iA 22 (some 2) 17 19,
lD 23 (some 2) 22,
uO 8 (.alloc [.p (.str []),.sl0 (some 4)]),
mV 7 21,
wO (.store (some 2) 8 23)] [1,5,6,7,8,17,18,19])
(.seq (rg [fA 24 1 none 8,
lD 25 none 24,
lN 26 25,
mV 27 (cI 0)] [1,5,6,7,8,17,18,19,25,26,27])
(.block 2 (.loop (.scope q2))))))
q3)))
def p_q00f_k4 : ACode:=P_q00f_k4 p_q00f_k2 p_q00f_k3
def p_q00f_k5 : ACode:=.pr [6] (.seq (rg [mV 59 6,
mV 4 59] [4])
.ret)
def P_q00f (q4 q5 : ACode) : ACode:=(.seq (rg [uO 2 (.box 0),
mV 4 (.c (.nilm))] [1,2])
(.seq (rg [lD 13 (some 3) 2,
cL 14 f_q00o [13],
mV 5 14] [1,2,5])
(.seq (rg [uO 15 (.mkmap),
mV 6 15] [1,2,5,6])
(.seq (.seq (rg [fA 16 0 none 2,
lD 17 none 16,
lN 18 17,
mV 19 (cI 0)] [1,5,6,17,18,19])
(.block 0 (.loop (.scope q4))))
q5))))
def a_q00f : AFun:=⟨2,[.t 4],P_q00f p_q00f_k4 p_q00f_k5,false,false⟩
def p_q00g_k1 : ACode:=.pr [1,13,14,15] (.seq (rg [bN 16 .lss 15 14] [1,13,14,15,16])
(.seq (.cond 16 .skip
(.exit 0))
(.seq (.block 1 (.seq (rg [iA 17 (some 4) 13 15,
lD 18 (some 4) 17,
uO 4 (.alloc [.p (.int .i64 0),.p (.str []),.p (.int .i64 0),.p (.int .i64 0)]),
wO (.store (some 4) 4 18)] [1,4,13,14,15])
(.seq (rg [lD 19 (some 2) 1,
lD 20 (some 4) 4,
cL 21 f_q00e [19,20],
mV 5 21] [1,5,13,14,15])
(.seq (rg [mV 22 5,
bN 23 .neq 22 (cI 0)] [1,5,13,14,15,23])
(.cond 23 (.seq (rg [mV 24 5,
mV 2 24] [2])
.ret)
.skip)))))
(rg [bN 25 .add 15 (cI 1),
mV 15 25] [1,13,14,15]))))
def p_q00g_k2 : ACode:=.pr [1,27,28,29] (.seq (rg [bN 30 .lss 29 28] [1,27,28,29,30])
(.seq (.cond 30 .skip
(.exit 2))
(.seq (.block 3 (.seq (rg [mV 31 29,
iA 32 (some 4) 27 29,
lD 33 (some 4) 32,
uO 7 (.alloc [.p (.int .i64 0),.p (.str []),.p (.int .i64 0),.p (.int .i64 0)]),
mV 6 31,
wO (.store (some 4) 7 33)] [1,6,7,27,28,29])
(.seq (rg [lD 34 (some 4) 7,
cL 35 f_q00k [34],
mV 36 35,
gD 37 36 true (.faddr 1 none 1),
gD 38 36 true (.load none 37),
gD 39 36 true (.mv 6),
gD 40 36 true (.slice (some 4) 38 none (some 39) none),
gD 41 36 true (.mkfn f_q00h [7]),
gD 42 36 true (.call f_q02x [40,41]),
uO 43 (.pick 36 42 cF)] [1,27,28,29,43])
(.cond 43 (.seq (rg [mV 2 (cI 6)] [2])
.ret)
.skip))))
(rg [bN 44 .add 29 (cI 1),
mV 29 44] [1,27,28,29]))))
def p_q00g_k3 : ACode:=.pr [] (.seq (rg [mV 2 (cI 0)] [2])
.ret)
def P_q00g_k4 (q2 q3 : ACode) : ACode:=.pr [1] (.seq (.seq (rg [fA 26 1 none 1,
lD 27 none 26,
lN 28 27,
mV 29 (cI 0)] [1,27,28,29])
(.block 2 (.loop (.scope q2))))
q3)
def p_q00g_k4 : ACode:=P_q00g_k4 p_q00g_k2 p_q00g_k3
def P_q00g (q1 q4 : ACode) : ACode:=(.seq (rg [uO 1 (.box 0),
mV 2 (cI 0)] [1])
(.seq (.seq (rg [fA 8 1 none 1,
lD 9 none 8,
lN 10 9,
bN 11 .gtr 10 (cI 200)] [1,11])
(.cond 11 (.seq (rg [mV 2 (cI 2)] [2])
.ret)
.skip))
(.seq (.seq (rg [fA 12 1 none 1,
lD 13 none 12,
lN 14 13,
mV 15 (cI 0)] [1,13,14,15])
(.block 0 (.loop (.scope q1))))
q4)))
def a_q00g : AFun:=⟨1,[.t 2],P_q00g p_q00g_k1 p_q00g_k4,false,false⟩
def P_q00h : ACode:=(.seq (rg [uO 2 (.box 0),
mV 3 cF] [1,2])
(.seq (rg [fA 4 0 none 2,
lD 5 none 4,
fA 6 0 none 1,
lD 7 none 6,
bN 8 .eql 5 7,
mV 9 8,
gD 10 9 true (.faddr 1 none 2),
gD 11 9 true (.load none 10),
gD 12 9 true (.faddr 1 none 1),
gD 13 9 true (.load none 12),
gD 14 9 true (.bin .eql 11 13),
uO 15 (.pick 9 14 cF),
mV 3 15] [3])
.ret))
def a_q00h : AFun:=⟨2,[.t 3],P_q00h,false,false⟩
def P_q00i : ACode:=(.seq (rg [uO 2 (.box 0),
mV 4 (cI 0)] [1,2])
(.seq (rg [fA 8 0 none 2,
lD 9 none 8,
mV 10 1,
cL 11 f_q02s [9,10,(.f f_q00j)],
mV 7 11,
eX 12 7 0,
eX 13 7 1,
mV 5 12,
mV 6 13] [5,6])
(.seq (.seq (rg [mV 14 6,
uO 15 (.un .not 14)] [5,15])
(.cond 15 (.seq (rg [mV 4 (cI (-1))] [4])
.ret)
.skip))
(.seq (rg [mV 16 5,
mV 4 16] [4])
.ret))))
def a_q00i : AFun:=⟨2,[.t 4],P_q00i,false,false⟩
def P_q00j : ACode:=(.seq (rg [uO 2 (.box 0),
mV 4 (cI 0)] [1,2])
(.seq (rg [fA 5 0 none 2,
lD 6 none 5,
mV 7 1,
cL 8 f_q04a [6,7],
mV 4 8] [4])
.ret))
def a_q00j : AFun:=⟨2,[.t 4],P_q00j,false,false⟩
def P_q00k : ACode:=(.seq (rg [uO 1 (.box 0),
mV 2 cF] [1])
(.seq (rg [fA 3 0 none 1,
lD 4 none 3,
bN 5 .eql 4 (cI 1),
mV 6 5,
gD 7 6 false (.faddr 0 none 1),
gD 8 6 false (.load none 7),
gD 9 6 false (.bin .eql 8 (cI 2)),
uO 10 (.pick 6 cT 9),
mV 2 10] [2])
.ret))
def a_q00k : AFun:=⟨1,[.t 2],P_q00k,false,false⟩
def p_q00l_k1 : ACode:=.pr [1,14,15,16] (.seq (rg [bN 17 .lss 16 15] [1,14,15,16,17])
(.seq (.cond 17 .skip
(.exit 0))
(.seq (.block 1 (.seq (rg [mV 18 16,
iA 19 (some 3) 14 16,
lD 20 (some 3) 19,
uO 4 (.alloc [.p (.str []),.p (.str []),.p (.str [])]),
mV 3 18,
wO (.store (some 3) 4 20)] [1,3,4,14,15,16])
(.block 2 (.seq (rg [fA 22 0 none 4,
lD 23 none 22,
cL 24 f_q004 [23],
uO 25 (.un .not 24),
mV 21 25] [1,3,4,14,15,16,21])
(.cond 21 (.seq (rg [mV 2 (cI 5)] [2])
.ret)
(.seq (rg [lD 27 (some 3) 1,
fA 28 1 none 4,
lD 29 none 28,
fA 30 2 none 4,
lD 31 none 30,
cL 32 f_q00p [27,29,31],
uO 33 (.un .not 32),
mV 26 33] [1,3,4,14,15,16,26])
(.cond 26 (.seq (rg [mV 2 (cI 8)] [2])
.ret)
(.seq (dr [dF (mV 35 3) [3],
dF (bN 36 .gtr 35 (cI 0)) [35],
dF (mV 37 36) [36],
dF (gD 38 37 true (.load (some 3) 4)) [4,37],
dF (gD 39 37 true (.faddr 1 none 1)) [1,37],
dF (gD 40 37 true (.load none 39)) [39,37],
dF (gD 41 37 true (.mv 3)) [3,37],
dF (gD 42 37 true (.bin .sub 41 (cI 1))) [41,37],
dF (gD 43 37 true (.iaddr (some 3) 40 42)) [40,42,37],
dF (gD 44 37 true (.load (some 3) 43)) [43,37],
dT (gD 45 37 true (.call f_q00d [38,44])) [38,44,37],
dF (gD 46 37 true (.bin .leq 45 (cI 0))) [45,37],
dF (uO 47 (.pick 37 46 cF)) [37,46],
dF (mV 34 47) [47]] [1,14,15,16,34])
(.cond 34 (.seq (rg [mV 2 (cI 7)] [2])
.ret)
.skip)))))))))
(rg [bN 48 .add 16 (cI 1),
mV 16 48] [1,14,15,16]))))
def p_q00l_k2 : ACode:=.pr [5,51,52,53] (.seq (rg [bN 54 .lss 53 52] [5,51,52,53,54])
(.seq (.cond 54 .skip
(.exit 3))
(.seq (.block 4 (.seq (rg [iA 55 (some 3) 51 53,
lD 56 (some 3) 55,
uO 7 (.alloc [.p (.str []),.p (.str []),.p (.str [])]),
wO (.store (some 3) 7 56)] [5,7,51,52,53])
(.seq (rg [fA 57 1 none 7,
lD 58 none 57,
fA 59 2 none 7,
lD 60 none 59,
uO 61 (.build [.p (.str []),.p (.str [])] [(0,1,58),(1,1,60)]),
uO 8 (.alloc [.p (.str []),.p (.str [])]),
wO (.store (some 2) 8 61)] [5,8,51,52,53])
(.seq (.seq (rg [mV 62 5,
lD 63 (some 2) 8,
uO 64 (.look ((some 2),[2,2]) false (AB false) 62 63)] [5,8,51,52,53,64])
(.cond 64 (.seq (rg [mV 2 (cI 6)] [2])
.ret)
.skip))
(rg [mV 65 5,
lD 66 (some 2) 8,
wO (.mupd ((some 2),[2,2]) 65 66 cT)] [5,51,52,53])))))
(rg [bN 67 .add 53 (cI 1),
mV 53 67] [5,51,52,53]))))
def p_q00l_k3 : ACode:=.pr [] (.seq (rg [mV 2 (cI 0)] [2])
.ret)
def P_q00l_k4 (q2 q3 : ACode) : ACode:=.pr [1] (.seq (rg [uO 49 (.mkmap),
mV 5 49] [1,5])
(.seq (.seq (rg [fA 50 1 none 1,
lD 51 none 50,
lN 52 51,
mV 53 (cI 0)] [5,51,52,53])
(.block 3 (.loop (.scope q2))))
q3))
def p_q00l_k4 : ACode:=P_q00l_k4 p_q00l_k2 p_q00l_k3
def P_q00l (q1 q4 : ACode) : ACode:=(.seq (rg [uO 1 (.box 0),
mV 2 (cI 0)] [1])
(.seq (.seq (rg [fA 9 1 none 1,
lD 10 none 9,
lN 11 10,
bN 12 .gtr 11 (cI 1000)] [1,12])
(.cond 12 (.seq (rg [mV 2 (cI 2)] [2])
.ret)
.skip))
(.seq (.seq (rg [fA 13 1 none 1,
lD 14 none 13,
lN 15 14,
mV 16 (cI 0)] [1,14,15,16])
(.block 0 (.loop (.scope q1))))
q4)))
def a_q00l : AFun:=⟨1,[.t 2],P_q00l p_q00l_k1 p_q00l_k4,false,false⟩
def p_q00m_k1 : ACode:=.pr [1,2,5,20,21,22] (.seq (rg [bN 23 .lss 22 21] [1,2,5,20,21,22,23])
(.seq (.cond 23 .skip
(.exit 0))
(.seq (.block 1 (.seq (rg [iA 24 none 20 22,
lD 25 none 24,
mV 7 25] [1,2,5,7,20,21,22])
(rg [mV 26 5,
mV 27 7,
wO (.mupd (none,[2]) 26 27 (cI 2))] [1,2,5,20,21,22])))
(rg [bN 28 .add 22 (cI 1),
mV 22 28] [1,2,5,20,21,22]))))
def p_q00m_k2 : ACode:=.pr [1,2,5,30,31,32] (.seq (rg [bN 33 .lss 32 31] [1,2,5,30,31,32,33])
(.seq (.cond 33 .skip
(.exit 2))
(.seq (.block 3 (.seq (rg [iA 34 (some 2) 30 32,
lD 35 (some 2) 34,
uO 9 (.alloc [.p (.str []),.p (.int .i64 0)]),
wO (.store (some 2) 9 35)] [1,2,5,9,30,31,32])
(rg [mV 36 5,
fA 37 0 none 9,
lD 38 none 37,
fA 39 1 none 9,
lD 40 none 39,
wO (.mupd (none,[2]) 36 38 40)] [1,2,5,30,31,32])))
(rg [bN 41 .add 32 (cI 1),
mV 32 41] [1,2,5,30,31,32]))))
def p_q00m_k3 : ACode:=.pr [1,2,5,10,17,44,50,51,52] (rg [mV 100 5,
mV 101 10,
mV 102 17,
wO (.mupd (none,[2]) 100 101 102),
mV 12 cT] [1,2,5,10,12,44,50,51,52])
def p_q00m_k4 : ACode:=.pr [1,2,5,10,12,44,50,51,52] (rg [bN 103 .add 52 (cI 1),
mV 52 103] [1,2,5,10,12,44,50,51,52])
def P_q00m_k5 (q3 q4 : ACode) : ACode:=.pr [1,2,5,10,12,44,50,51,52] (.seq (rg [bN 53 .lss 52 51] [1,2,5,10,12,44,50,51,52,53])
(.seq (.cond 53 .skip
(.exit 6))
(.seq (.block 7 (.seq (rg [iA 54 (some 2) 50 52,
lD 55 (some 2) 54,
uO 14 (.alloc [.p (.int .i64 0),.p (.int .i64 0)]),
wO (.store (some 2) 14 55)] [1,2,5,10,12,14,44,50,51,52])
(.seq (dr [dF (fA 56 0 none 2) [2],
dF (lD 57 none 56) [56],
dF (fA 58 0 none 14) [14],
dF (lD 59 none 58) [58],
dF (iA 60 (some 2) 57 59) [57,59],
dF (fA 61 1 none 60) [60],
dF (lD 62 none 61) [61],
dF (fA 63 1 none 14) [14],
dF (lD 64 none 63) [63],
dF (iA 65 (some 4) 62 64) [62,64],
dF (lD 66 (some 4) 65) [65],
dF (mV 67 1) [1],
dF (fA 68 0 none 14) [14],
dF (lD 69 none 68) [68],
dF (iA 70 none 67 69) [67,69],
dF (lD 71 none 70) [70],
dA (uO 15 (.alloc [.p (.int .i64 0),.p (.str []),.p (.int .i64 0),.p (.int .i64 0)])) [] true [] [1,3,4,6,8,9,10,13,14,15],
dA (wO (.store (some 4) 15 66)) [15,66] true [] [13,14,15],
dF (mV 16 71) [71]] [1,2,5,10,12,14,15,16,44,50,51,52])
(.seq (.seq (dr [dF (fA 72 2 none 15) [15],
dF (lD 73 none 72) [72],
dF (bN 74 .geq 73 (cI 0)) [73],
dF (mV 75 74) [74],
dF (gD 76 75 true (.mv 16)) [16,75],
dF (gD 77 75 true (.faddr 2 none 15)) [15,75],
dF (gD 78 75 true (.load none 77)) [77,75],
dF (gD 79 75 true (.idxs 76 78)) [76,78,75],
dF (gD 80 75 true (.bin .sub 79 (.c (.p (.int .u8 48))))) [79,75],
dF (gD 81 75 true (.conv (.i .i64) 80)) [80,75],
dF (gD 82 75 true (.faddr 3 none 15)) [15,75],
dF (gD 83 75 true (.load none 82)) [82,75],
dF (gD 84 75 true (.bin .eql 81 83)) [81,83,75],
dF (uO 85 (.pick 75 84 cF)) [75,84]] [1,2,5,10,12,14,16,44,50,51,52,85])
(.cond 85 (.exit 7)
.skip))
(.seq (rg [mV 86 16,
fA 87 1 none 14,
lD 88 none 87,
uO 89 (.idxs 86 88),
bN 90 .sub 89 (.c (.p (.int .u8 48))),
uO 91 (.conv (.i .i64) 90),
mV 17 91] [1,2,5,10,12,17,44,50,51,52])
(.seq (.seq (rg [mV 92 12,
mV 93 92,
gD 94 93 true (.mv 5),
gD 95 93 true (.mv 10),
gD 96 93 true (.look (none,[2]) false (AI 0) 94 95),
gD 97 93 true (.mv 17),
gD 98 93 true (.bin .neq 96 97),
uO 99 (.pick 93 98 cF)] [1,2,5,10,17,44,50,51,52,99])
(.cond 99 (rg [mV 17 (cI 3)] [1,2,5,10,17,44,50,51,52])
.skip))
q3))))))
q4)))
def p_q00m_k5 : ACode:=P_q00m_k5 p_q00m_k3 p_q00m_k4
def P_q00m_k6 (q5 : ACode) : ACode:=.pr [1,2,5,44] (.seq (rg [uO 45 (.mnext none [44]),
eX 46 45 0] [1,2,5,44,46])
(.seq (.cond 46 .skip
(.exit 4))
(.block 5 (.seq (rg [uO 47 (.mentry 44),
eX 48 47 0,
eX 49 47 1,
mV 10 48,
mV 11 49] [1,2,5,10,11,44])
(.seq (rg [mV 12 cF] [1,2,5,10,11,12,44])
(.seq (rg [mV 50 11,
lN 51 50,
mV 52 (cI 0)] [1,2,5,10,12,44,50,51,52])
(.block 6 (.loop (.scope q5)))))))))
def p_q00m_k6 : ACode:=P_q00m_k6 p_q00m_k5
def p_q00m_k7 : ACode:=.pr [5] (.seq (rg [mV 104 5,
mV 4 104] [4])
.ret)
def P_q00m_k8 (q6 q7 : ACode) : ACode:=.pr [1,2,5] (.seq (.seq (rg [lD 42 (some 3) 2,
cL 43 f_q00f [42,(cI 2)],
uO 44 (.mrange 43)] [1,2,5,44])
(.block 4 (.loop (.scope q6))))
q7)
def p_q00m_k8 : ACode:=P_q00m_k8 p_q00m_k6 p_q00m_k7
def P_q00m_k9 (q2 q8 : ACode) : ACode:=.pr [1,2,5] (.seq (.seq (rg [fA 29 2 none 2,
lD 30 none 29,
lN 31 30,
mV 32 (cI 0)] [1,2,5,30,31,32])
(.block 2 (.loop (.scope q2))))
q8)
def p_q00m_k9 : ACode:=P_q00m_k9 p_q00m_k2 p_q00m_k8
def P_q00m (q1 q9 : ACode) : ACode:=(.det (.seq (rg [uO 2 (.box 0),
mV 4 (.c (.nilm))] [1,2])
(.seq (rg [uO 18 (.mkmap),
mV 5 18] [1,2,5])
(.seq (.seq (rg [lD 19 (some 3) 2,
cL 20 f_q00n [19],
lN 21 20,
mV 22 (cI 0)] [1,2,5,20,21,22])
(.block 0 (.loop q1)))
q9))))
def a_q00m : AFun:=⟨2,[.t 4],P_q00m p_q00m_k1 p_q00m_k9,false,false⟩
def p_q00n_k1 : ACode:=.pr [3,7,8,9] (.seq (rg [bN 10 .lss 9 8] [3,7,8,9,10])
(.seq (.cond 10 .skip
(.exit 0))
(.seq (.block 1 (.seq (rg [iA 11 (some 3) 7 9,
lD 12 (some 3) 11,
uO 5 (.alloc [.p (.str []),.p (.str []),.p (.str [])]),
wO (.store (some 3) 5 12)] [3,5,7,8,9])
(rg [mV 13 3,
fA 14 0 none 5,
lD 15 none 14,
uO 16 (.bsl false none 1 (.str []) [(0,15)]),
uO 17 (.app none 13 16),
mV 3 17] [3,7,8,9])))
(rg [bN 18 .add 9 (cI 1),
mV 9 18] [3,7,8,9]))))
def p_q00n_k2 : ACode:=.pr [3] (.seq (rg [mV 19 3,
cL 20 f_q02w [19],
mV 2 20] [2])
.ret)
def P_q00n (q1 q2 : ACode) : ACode:=(.seq (rg [uO 1 (.box 0),
mV 2 (.c (.p (.sl none [])))] [1])
(.seq (rg [uO 3 (.new0 none)] [1,3])
(.seq (.seq (rg [fA 6 1 none 1,
lD 7 none 6,
lN 8 7,
mV 9 (cI 0)] [3,7,8,9])
(.block 0 (.loop (.scope q1))))
q2)))
def a_q00n : AFun:=⟨1,[.t 2],P_q00n p_q00n_k1 p_q00n_k2,false,true⟩
def p_q00o_k1 : ACode:=.pr [3,8,9,10] (.seq (rg [bN 11 .lss 10 9] [3,8,9,10,11])
(.seq (.cond 11 .skip
(.exit 0))
(.seq (.block 1 (.seq (rg [iA 12 (some 3) 8 10,
lD 13 (some 3) 12,
uO 5 (.alloc [.p (.str []),.p (.str []),.p (.str [])]),
wO (.store (some 3) 5 13)] [3,5,8,9,10])
(rg [mV 14 3,
fA 15 1 none 5,
lD 16 none 15,
fA 17 2 none 5,
lD 18 none 17,
uO 19 (.build [.p (.str []),.p (.str [])] [(0,1,16),(1,1,18)]),
fA 20 0 none 5,
lD 21 none 20,
wO (.mupd ((some 2),[2,2]) 14 19 21)] [3,8,9,10])))
(rg [bN 22 .add 10 (cI 1),
mV 10 22] [3,8,9,10]))))
def p_q00o_k2 : ACode:=.pr [3] (.seq (rg [mV 23 3,
mV 2 23] [2])
.ret)
def P_q00o (q1 q2 : ACode) : ACode:=(.seq (rg [uO 1 (.box 0),
mV 2 (.c (.nilm))] [1])
(.seq (rg [uO 6 (.mkmap),
mV 3 6] [1,3])
(.seq (.seq (rg [fA 7 1 none 1,
lD 8 none 7,
lN 9 8,
mV 10 (cI 0)] [3,8,9,10])
(.block 0 (.loop (.scope q1))))
q2)))
def a_q00o : AFun:=⟨1,[.t 2],P_q00o p_q00o_k1 p_q00o_k2,false,false⟩
def P_q00p : ACode:=(.seq (rg [uO 3 (.box 0),
uO 5 (.box 2),
mV 6 cF] [1,3,5])
(.seq (rg [lD 8 (some 3) 3,
mV 9 1,
cL 10 f_q00i [8,9],
mV 7 10] [3,5,7])
(.seq (rg [mV 11 7,
bN 12 .geq 11 (cI 0),
mV 13 12,
gD 14 13 true (.faddr 0 none 3),
gD 15 13 true (.load none 14),
gD 16 13 true (.mv 7),
gD 17 13 true (.iaddr (some 2) 15 16),
gD 18 13 true (.faddr 1 none 17),
gD 19 13 true (.load none 18),
gD 20 13 true (.mkfn f_q00q [5]),
gD 21 13 true (.call f_q02x [19,20]),
uO 22 (.pick 13 21 cF),
mV 6 22] [6])
.ret)))
def a_q00p : AFun:=⟨3,[.t 6],P_q00p,false,false⟩
def P_q00q : ACode:=(.seq (rg [uO 2 (.box 0),
mV 3 cF] [1,2])
(.seq (rg [lD 4 (some 4) 2,
cL 5 f_q00k [4],
mV 6 5,
gD 7 6 true (.faddr 1 none 2),
gD 8 6 true (.load none 7),
gD 9 6 true (.load none 1),
gD 10 6 true (.bin .eql 8 9),
uO 11 (.pick 6 10 cF),
mV 3 11] [3])
.ret))
def a_q00q : AFun:=⟨2,[.t 3],P_q00q,false,false⟩
end Go.Am
end
