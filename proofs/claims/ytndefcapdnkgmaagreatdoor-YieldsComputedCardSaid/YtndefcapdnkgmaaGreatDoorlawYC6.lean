/- Texts of the proof, laid together: CodesD, CodesE, AmL, AmC, Ctx, SpStream, MathFrac. -/
import Derived.KernelRfl
import Derived.Test.YtndefcapdnkgmaaGreatDoorlawYC5
set_option linter.all false
section
/- The functions asv abstract code,and asv formulas over their values: printed by program out of the translation. -/
set_option linter.unusedVariables false
set_option maxRecDepth 100000
namespace Go.Am
def p_q04r_k1 : ACode:=.pr [0,7,8,9] (.seq (rg [bN 10 .lss 9 8] [0,7,8,9,10])
(.seq (.cond 10 .skip
(.exit 0))
(.seq (.block 1 (.seq (rg [mV 11 9,
iA 12 none 7 9,
lD 13 none 12,
mV 5 11,
mV 6 13] [0,5,6,7,8,9])
(.seq (dr [dF (mV 14 5) [5],
dF (mV 15 0) [0],
dF (lN 16 15) [15],
dF (bN 17 .lss 14 16) [14,16],
dF (mV 18 17) [17],
dF (gD 19 18 true (.mv 6)) [6,18],
dF (gD 20 18 true (.mv 0)) [0,18],
dF (gD 21 18 true (.mv 5)) [5,18],
dF (gD 22 18 true (.iaddr (some 4) 20 21)) [20,21,18],
dF (gD 23 18 true (.faddr 1 none 22)) [22,18],
dF (gD 24 18 true (.load none 23)) [23,18],
dF (gD 25 18 true (.mv 0)) [0,18],
dF (gD 26 18 true (.mv 5)) [5,18],
dF (gD 27 18 true (.iaddr (some 4) 25 26)) [25,26,18],
dF (gD 28 18 true (.faddr 2 none 27)) [27,18],
dF (gD 29 18 true (.load none 28)) [28,18],
dT (gD 30 18 true (.call f_q04s [19,24,29])) [19,24,29,18],
dF (gD 31 18 true (.un .not 30)) [30,18],
dF (uO 32 (.pick 18 31 cF)) [18,31]] [0,5,7,8,9,32])
(.cond 32 (.seq (rg [mV 33 5,
mV 4 33] [4])
.ret)
.skip))))
(rg [bN 34 .add 9 (cI 1),
mV 9 34] [0,7,8,9]))))
def d_q04r_k1 (C : Hd) (gl : GL) (v0 v7 v8 v9 : AV) (h : Heap) (x : Esc) (K : KT) : Prop:=
 pK (oBin .lss v9 v8) fun t1=>
 condB t1 (pK (oIaddr none v7 v9 h) fun t2=>
 pK (oLoad none t2 h) fun t3=>
 pK (oLen v0) fun t4=>
 pK (oBin .lss v9 t4) fun t5=>
 gM t5 true t3 h fun t6 h7 y8=>
 gM t5 true v0 h7 fun t9 h10 y11=>
 gM t5 true v9 h10 fun t12 h13 y14=>
 gP t5 true (oIaddr (some 4) t9 t12 h13) h13 fun t15 h16 y17=>
 gP t5 true (oFaddr 1 none t15) h16 fun t18 h19 y20=>
 gP t5 true (oLoad none t18 h19) h19 fun t21 h22 y23=>
 gM t5 true v0 h22 fun t24 h25 y26=>
 gM t5 true v9 h25 fun t27 h28 y29=>
 gP t5 true (oIaddr (some 4) t24 t27 h28) h28 fun t30 h31 y32=>
 gP t5 true (oFaddr 2 none t30) h31 fun t33 h34 y35=>
 gP t5 true (oLoad none t33 h34) h34 fun t36 h37 y38=>
 gV t5 true h37 (callE C f_q04s [t6,t21,t36] h37) fun t39 h40 y41=>
 gP t5 true (oUn .not t39) h40 fun t42 h43 y44=>
 pK (oPick t5 t42 (AB false)) fun t45=>
 condB t45 (K .ret ⟨[(4,v9)],h43,(y44 ++ (y41 ++ (y38 ++ (y35 ++ (y32 ++ (y29 ++ (y26 ++ (y23 ++ (y20 ++ (y17 ++ (y14 ++ (y11 ++ (y8 ++ x)))))))))))))⟩)
 (pK (oBin .add v9 (AI 1)) fun t46=>
 K .normal ⟨[(0,v0),(7,v7),(8,v8),(9,t46)],h43,(y44 ++ (y41 ++ (y38 ++ (y35 ++ (y32 ++ (y29 ++ (y26 ++ (y23 ++ (y20 ++ (y17 ++ (y14 ++ (y11 ++ (y8 ++ x)))))))))))))⟩))
 (K (.exit 0) ⟨[(0,v0),(7,v7),(8,v8),(9,v9),(10,t1)],h,x⟩)
theorem e_q04r_k1 {C gl e h x K} : NW C gl p_q04r_k1 ⟨e,h,x⟩ K = d_q04r_k1 C gl (aget e 0) (aget e 7) (aget e 8) (aget e 9) h x K:=by kernel_rfl
theorem l_q04r_k1 {C gl e h x K} : NW C gl (.loop p_q04r_k1) ⟨e,h,x⟩ K = NLoop C gl p_q04r_k1 K [(0,aget e 0),(7,aget e 7),(8,aget e 8),(9,aget e 9)] h x:=NLoop_pr
def p_q04r_k2 : ACode:=.pr [] (.seq (rg [mV 4 (cI (-1))] [4])
.ret)
def d_q04r_k2 (C : Hd) (gl : GL) (h : Heap) (x : Esc) (K : KT) : Prop:=
 K .ret ⟨[(4,(AI (-1)))],h,x⟩
theorem e_q04r_k2 {C gl e h x K} : NW C gl p_q04r_k2 ⟨e,h,x⟩ K = d_q04r_k2 C gl h x K:=by kernel_rfl
def P_q04r (q1 q2 : ACode) : ACode:=(.seq (rg [mV 4 (cI 0)] [0,1])
(.seq (.seq (rg [mV 7 1,
lN 8 7,
mV 9 (cI 0)] [0,7,8,9])
(.block 0 (.loop q1)))
q2))
def a_q04r : AFun:=⟨2,[.t 4],P_q04r p_q04r_k1 p_q04r_k2,false,false⟩
def d_q04r (C : Hd) (gl : GL) (q1 q2 : ACode) (v0 v1 : AV) (h : Heap) (x : Esc) (K : KT) : Prop:=
 pK (oLen v1) fun t1=>
 NW C gl (.loop q1) ⟨[(0,v0),(7,v1),(8,t1),(9,(AI 0))],h,x⟩ (blockN 0 (seqN C gl q2 K))
theorem E_q04r {C gl q1 q2 v0 v1 h x K} : NW C gl (P_q04r q1 q2) ⟨enter [v0,v1],h,x⟩ K = d_q04r C gl q1 q2 v0 v1 h x K:=by kernel_rfl
theorem e_q04r {C gl v0 v1 h x K} : NW C gl a_q04r.body ⟨enter [v0,v1],h,x⟩ K = d_q04r C gl p_q04r_k1 p_q04r_k2 v0 v1 h x K:=E_q04r
def P_q04y : ACode:=(.seq (rg [mV 2 (cI 0)] [0])
(.seq (.block 0 (.seq (rg [mV 4 0,
bN 5 .lss 4 (cI 0),
mV 3 5] [0,3])
(.cond 3 (.seq (rg [mV 2 (cI (-1))] [2])
.ret)
(.seq (rg [mV 7 0,
bN 8 .gtr 7 (cI 0),
mV 6 8] [6])
(.cond 6 (.seq (rg [mV 2 (cI 1)] [2])
.ret)
.skip)))))
(.seq (rg [mV 2 (cI 0)] [2])
.ret)))
def a_q04y : AFun:=⟨1,[.t 2],P_q04y,false,false⟩
def d_q04y (C : Hd) (gl : GL) (v0 : AV) (h : Heap) (x : Esc) (K : KT) : Prop:=
 pK (oBin .lss v0 (AI 0)) fun t1=>
 condB t1 (K .ret ⟨[(2,(AI (-1)))],h,x⟩)
 (pK (oBin .gtr v0 (AI 0)) fun t2=>
 condB t2 (K .ret ⟨[(2,(AI 1))],h,x⟩)
 (K .ret ⟨[(2,(AI 0))],h,x⟩))
theorem e_q04y {C gl v0 h x K} : NW C gl a_q04y.body ⟨enter [v0],h,x⟩ K = d_q04y C gl v0 h x K:=by kernel_rfl
def P_q05v : ACode:=(.seq (rg [mV 3 0,
lN 4 3,
mV 2 4] [0,2])
(rg [mV 5 0,
mV 6 2,
mV 7 2,
uO 8 (.conv (.i .u64) 7),
cL 9 f_q039 [8],
cL 10 f_q06u [5,(cI 0),6,9]] []))
def a_q05v : AFun:=⟨1,[],P_q05v,true,false⟩
def d_q05v (C : Hd) (gl : GL) (v0 : AV) (h : Heap) (x : Esc) (K : KT) : Prop:=
 pK (oLen v0) fun t1=>
 pK (oConvI .u64 t1) fun t2=>
 C f_q039 [t2] h fun t3 h4 y5=>
 C f_q06u [v0,(AI 0),t1,t3] h4 fun t6 h7 y8=>
 K .normal ⟨[],h7,(y8 ++ (y5 ++ x))⟩
theorem e_q05v {C gl v0 h x K} : NW C gl a_q05v.body ⟨enter [v0],h,x⟩ K = d_q05v C gl v0 h x K:=by kernel_rfl
def p_q054_k1 : ACode:=.pr [0,3,4,5] (rg [mV 33 5,
bN 34 .add 33 (cI 1),
mV 5 34] [0,3,4,5])
def d_q054_k1 (C : Hd) (gl : GL) (v0 v3 v4 v5 : AV) (h : Heap) (x : Esc) (K : KT) : Prop:=
 pK (oBin .add v5 (AI 1)) fun t1=>
 K .normal ⟨[(0,v0),(3,v3),(4,v4),(5,t1)],h,x⟩
theorem e_q054_k1 {C gl e h x K} : NW C gl p_q054_k1 ⟨e,h,x⟩ K = d_q054_k1 C gl (aget e 0) (aget e 3) (aget e 4) (aget e 5) h x K:=by kernel_rfl
def P_q054_k2 (q1 : ACode) : ACode:=.pr [0,3,4,5] (.seq (.seq (rg [mV 29 5,
mV 30 4,
lN 31 30,
bN 32 .lss 29 31] [0,3,4,5,32])
(.cond 32 .skip
(.exit 2)))
(.seq (.block 3 (.seq (dr [dF (mV 35 4) [4],
dF (mV 36 5) [5],
dF (iA 37 none 35 36) [35,36],
dF (lD 38 none 37) [37],
dF (mV 39 4) [4],
dF (mV 40 5) [5],
dF (bN 41 .sub 40 (cI 1)) [40],
dF (iA 42 none 39 41) [39,41],
dF (lD 43 none 42) [42],
dF (bN 44 .neq 38 43) [38,43]] [0,3,4,5,44])
(.cond 44 (.seq (rg [mV 45 0,
mV 46 3,
mV 47 4,
mV 48 5,
iA 49 none 47 48,
lD 50 none 49,
iA 51 none 45 46,
wO (.store none 51 50)] [0,3,4,5])
(rg [mV 52 3,
bN 53 .add 52 (cI 1),
mV 3 53] [0,3,4,5]))
.skip)))
q1))
def p_q054_k2 : ACode:=P_q054_k2 p_q054_k1
def d_q054_k2 (C : Hd) (gl : GL) (q1 : ACode) (v0 v3 v4 v5 : AV) (h : Heap) (x : Esc) (K : KT) : Prop:=
 pK (oLen v4) fun t1=>
 pK (oBin .lss v5 t1) fun t2=>
 condB t2 (pK (oIaddr none v4 v5 h) fun t3=>
 pK (oLoad none t3 h) fun t4=>
 pK (oBin .sub v5 (AI 1)) fun t5=>
 pK (oIaddr none v4 t5 h) fun t6=>
 pK (oLoad none t6 h) fun t7=>
 pK (oBin .neq t4 t7) fun t8=>
 condB t8 (pK (oIaddr none v4 v5 h) fun t9=>
 pK (oLoad none t9 h) fun t10=>
 pK (oIaddr none v0 v3 h) fun t11=>
 wK (oStore none t11 t10 h) fun t12 h13 y14=>
 pK (oBin .add v3 (AI 1)) fun t15=>
 NW C gl q1 ⟨[(0,v0),(3,t15),(4,v4),(5,v5)],h13,(y14 ++ x)⟩ K)
 (NW C gl q1 ⟨[(0,v0),(3,v3),(4,v4),(5,v5),(44,t8)],h,x⟩ K))
 (K (.exit 2) ⟨[(0,v0),(3,v3),(4,v4),(5,v5),(32,t2)],h,x⟩)
theorem E_q054_k2 {C gl q1 e h x K} : NW C gl (P_q054_k2 q1) ⟨e,h,x⟩ K = d_q054_k2 C gl q1 (aget e 0) (aget e 3) (aget e 4) (aget e 5) h x K:=by kernel_rfl
theorem e_q054_k2 {C gl e h x K} : NW C gl p_q054_k2 ⟨e,h,x⟩ K = d_q054_k2 C gl p_q054_k1 (aget e 0) (aget e 3) (aget e 4) (aget e 5) h x K:=E_q054_k2
theorem l_q054_k2 {C gl e h x K} : NW C gl (.loop p_q054_k2) ⟨e,h,x⟩ K = NLoop C gl p_q054_k2 K [(0,aget e 0),(3,aget e 3),(4,aget e 4),(5,aget e 5)] h x:=NLoop_pr
def p_q054_k3 : ACode:=.pr [0,3] (.seq (rg [mV 54 0,
mV 55 3,
uO 56 (.slice none 54 (some 55) none none),
wO (.clr none (.str []) 56)] [0,3])
(.seq (rg [mV 57 0,
mV 58 3,
uO 59 (.slice none 57 none (some 58) none),
mV 2 59] [2])
.ret))
def d_q054_k3 (C : Hd) (gl : GL) (v0 v3 : AV) (h : Heap) (x : Esc) (K : KT) : Prop:=
 pK (oSlice none v0 (some v3) none none h) fun t1=>
 wK (oClr none (.str []) t1 h) fun t2 h3 y4=>
 pK (oSlice none v0 none (some v3) none h3) fun t5=>
 K .ret ⟨[(2,t5)],h3,(y4 ++ x)⟩
theorem e_q054_k3 {C gl e h x K} : NW C gl p_q054_k3 ⟨e,h,x⟩ K = d_q054_k3 C gl (aget e 0) (aget e 3) h x K:=by kernel_rfl
def p_q054_k4 : ACode:=.pr [0,3] (rg [mV 14 3,
bN 15 .add 14 (cI 1),
mV 3 15] [0,3])
def d_q054_k4 (C : Hd) (gl : GL) (v0 v3 : AV) (h : Heap) (x : Esc) (K : KT) : Prop:=
 pK (oBin .add v3 (AI 1)) fun t1=>
 K .normal ⟨[(0,v0),(3,t1)],h,x⟩
theorem e_q054_k4 {C gl e h x K} : NW C gl p_q054_k4 ⟨e,h,x⟩ K = d_q054_k4 C gl (aget e 0) (aget e 3) h x K:=by kernel_rfl
def P_q054_k5 (q2 q3 q4 : ACode) : ACode:=.pr [0,3] (.seq (.seq (rg [mV 10 3,
mV 11 0,
lN 12 11,
bN 13 .lss 10 12] [0,3,13])
(.cond 13 .skip
(.exit 0)))
(.seq (.block 1 (.seq (dr [dF (mV 16 0) [0],
dF (mV 17 3) [3],
dF (iA 18 none 16 17) [16,17],
dF (lD 19 none 18) [18],
dF (mV 20 0) [0],
dF (mV 21 3) [3],
dF (bN 22 .sub 21 (cI 1)) [21],
dF (iA 23 none 20 22) [20,22],
dF (lD 24 none 23) [23],
dF (bN 25 .eql 19 24) [19,24]] [0,3,25])
(.cond 25 (.seq (rg [mV 26 0,
mV 27 3,
uO 28 (.slice none 26 (some 27) none none),
mV 4 28] [0,3,4])
(.seq (.seq (rg [mV 5 (cI 1)] [0,3,4,5])
(.block 2 (.loop q2)))
q3))
.skip)))
q4))
def p_q054_k5 : ACode:=P_q054_k5 p_q054_k2 p_q054_k3 p_q054_k4
def d_q054_k5 (C : Hd) (gl : GL) (q2 q3 q4 : ACode) (v0 v3 : AV) (h : Heap) (x : Esc) (K : KT) : Prop:=
 pK (oLen v0) fun t1=>
 pK (oBin .lss v3 t1) fun t2=>
 condB t2 (pK (oIaddr none v0 v3 h) fun t3=>
 pK (oLoad none t3 h) fun t4=>
 pK (oBin .sub v3 (AI 1)) fun t5=>
 pK (oIaddr none v0 t5 h) fun t6=>
 pK (oLoad none t6 h) fun t7=>
 pK (oBin .eql t4 t7) fun t8=>
 condB t8 (pK (oSlice none v0 (some v3) none none h) fun t9=>
 NW C gl (.loop q2) ⟨[(0,v0),(3,v3),(4,t9),(5,(AI 1))],h,x⟩ (blockN 2 (seqN C gl q3 (blockN 1 (seqN C gl q4 K)))))
 (NW C gl q4 ⟨[(0,v0),(3,v3),(25,t8)],h,x⟩ K))
 (K (.exit 0) ⟨[(0,v0),(3,v3),(13,t2)],h,x⟩)
theorem E_q054_k5 {C gl q2 q3 q4 e h x K} : NW C gl (P_q054_k5 q2 q3 q4) ⟨e,h,x⟩ K = d_q054_k5 C gl q2 q3 q4 (aget e 0) (aget e 3) h x K:=by kernel_rfl
theorem e_q054_k5 {C gl e h x K} : NW C gl p_q054_k5 ⟨e,h,x⟩ K = d_q054_k5 C gl p_q054_k2 p_q054_k3 p_q054_k4 (aget e 0) (aget e 3) h x K:=E_q054_k5
theorem l_q054_k5 {C gl e h x K} : NW C gl (.loop p_q054_k5) ⟨e,h,x⟩ K = NLoop C gl p_q054_k5 K [(0,aget e 0),(3,aget e 3)] h x:=NLoop_pr
def p_q054_k6 : ACode:=.pr [0] (.seq (rg [mV 60 0,
mV 2 60] [2])
.ret)
def d_q054_k6 (C : Hd) (gl : GL) (v0 : AV) (h : Heap) (x : Esc) (K : KT) : Prop:=
 K .ret ⟨[(2,v0)],h,x⟩
theorem e_q054_k6 {C gl e h x K} : NW C gl p_q054_k6 ⟨e,h,x⟩ K = d_q054_k6 C gl (aget e 0) h x K:=by kernel_rfl
def P_q054 (q5 q6 : ACode) : ACode:=(.seq (rg [mV 2 (.c (.p (.sl none [])))] [0])
(.seq (.seq (rg [mV 6 0,
lN 7 6,
bN 8 .lss 7 (cI 2)] [0,8])
(.cond 8 (.seq (rg [mV 9 0,
mV 2 9] [2])
.ret)
.skip))
(.seq (.seq (rg [mV 3 (cI 1)] [0,3])
(.block 0 (.loop q5)))
q6)))
def a_q054 : AFun:=⟨1,[.t 2],P_q054 p_q054_k5 p_q054_k6,true,false⟩
def d_q054 (C : Hd) (gl : GL) (q5 q6 : ACode) (v0 : AV) (h : Heap) (x : Esc) (K : KT) : Prop:=
 pK (oLen v0) fun t1=>
 pK (oBin .lss t1 (AI 2)) fun t2=>
 condB t2 (K .ret ⟨[(2,v0)],h,x⟩)
 (NW C gl (.loop q5) ⟨[(0,v0),(3,(AI 1))],h,x⟩ (blockN 0 (seqN C gl q6 K)))
theorem E_q054 {C gl q5 q6 v0 h x K} : NW C gl (P_q054 q5 q6) ⟨enter [v0],h,x⟩ K = d_q054 C gl q5 q6 v0 h x K:=by kernel_rfl
theorem e_q054 {C gl v0 h x K} : NW C gl a_q054.body ⟨enter [v0],h,x⟩ K = d_q054 C gl p_q054_k5 p_q054_k6 v0 h x K:=E_q054
def p_q05b_k1 : ACode:=.pr [0,1,5,6] (rg [mV 20 6,
bN 21 .add 20 (cI 1),
mV 6 21] [0,1,5,6])
def d_q05b_k1 (C : Hd) (gl : GL) (v0 v1 v5 v6 : AV) (h : Heap) (x : Esc) (K : KT) : Prop:=
 pK (oBin .add v6 (AI 1)) fun t1=>
 K .normal ⟨[(0,v0),(1,v1),(5,v5),(6,t1)],h,x⟩
theorem e_q05b_k1 {C gl e h x K} : NW C gl p_q05b_k1 ⟨e,h,x⟩ K = d_q05b_k1 C gl (aget e 0) (aget e 1) (aget e 5) (aget e 6) h x K:=by kernel_rfl
def P_q05b_k2 (q1 : ACode) : ACode:=.pr [0,1,5,6] (.seq (.seq (rg [mV 16 6,
mV 17 0,
lN 18 17,
bN 19 .lss 16 18] [0,1,5,6,19])
(.cond 19 .skip
(.exit 0)))
(.seq (.block 1 (.seq (rg [mV 22 0,
mV 23 6,
iA 24 (some 4) 22 23,
lD 25 (some 4) 24,
uO 7 (.alloc [.p (.str []),.p (.int .i64 0),.p (.str []),.sl0 none]),
wO (.store (some 4) 7 25)] [0,1,5,6,7])
(.seq (rg [mV 26 1,
lD 27 (some 4) 7,
uO 28 (.callv 26 [27]),
uO 29 (.un .not 28)] [0,1,5,6,7,29])
(.cond 29 (.seq (rg [mV 30 0,
mV 31 5,
lD 32 (some 4) 7,
iA 33 (some 4) 30 31,
wO (.store (some 4) 33 32)] [0,1,5,6])
(rg [mV 34 5,
bN 35 .add 34 (cI 1),
mV 5 35] [0,1,5,6]))
.skip))))
q1))
def p_q05b_k2 : ACode:=P_q05b_k2 p_q05b_k1
def d_q05b_k2 (C : Hd) (gl : GL) (q1 : ACode) (v0 v1 v5 v6 : AV) (h : Heap) (x : Esc) (K : KT) : Prop:=
 pK (oLen v0) fun t1=>
 pK (oBin .lss v6 t1) fun t2=>
 condB t2 (pK (oIaddr (some 4) v0 v6 h) fun t3=>
 pK (oLoad (some 4) t3 h) fun t4=>
 alK [.p (.str []),.p (.int .i64 0),.p (.str []),.sl0 none] h fun t5 h6 y7=>
 wK (oStore (some 4) t5 t4 h6) fun t8 h9 y10=>
 pK (oLoad (some 4) t5 h9) fun t11=>
 callvK C v1 [t11] h9 fun t12 h13 y14=>
 pK (oUn .not t12) fun t15=>
 condB t15 (pK (oLoad (some 4) t5 h13) fun t16=>
 pK (oIaddr (some 4) v0 v5 h13) fun t17=>
 wK (oStore (some 4) t17 t16 h13) fun t18 h19 y20=>
 pK (oBin .add v5 (AI 1)) fun t21=>
 NW C gl q1 ⟨[(0,v0),(1,v1),(5,t21),(6,v6)],h19,(y20 ++ (y14 ++ (y10 ++ (y7 ++ x))))⟩ K)
 (NW C gl q1 ⟨[(0,v0),(1,v1),(5,v5),(6,v6),(7,t5),(29,t15)],h13,(y14 ++ (y10 ++ (y7 ++ x)))⟩ K))
 (K (.exit 0) ⟨[(0,v0),(1,v1),(5,v5),(6,v6),(19,t2)],h,x⟩)
theorem E_q05b_k2 {C gl q1 e h x K} : NW C gl (P_q05b_k2 q1) ⟨e,h,x⟩ K = d_q05b_k2 C gl q1 (aget e 0) (aget e 1) (aget e 5) (aget e 6) h x K:=by kernel_rfl
theorem e_q05b_k2 {C gl e h x K} : NW C gl p_q05b_k2 ⟨e,h,x⟩ K = d_q05b_k2 C gl p_q05b_k1 (aget e 0) (aget e 1) (aget e 5) (aget e 6) h x K:=E_q05b_k2
theorem l_q05b_k2 {C gl e h x K} : NW C gl (.loop (.scope p_q05b_k2)) ⟨e,h,x⟩ K = NLoop C gl (.scope p_q05b_k2) K [(0,aget e 0),(1,aget e 1),(5,aget e 5),(6,aget e 6)] h x:=NLoop_sc
def p_q05b_k3 : ACode:=.pr [0,5] (.seq (rg [mV 36 0,
mV 37 5,
uO 38 (.slice (some 4) 36 (some 37) none none),
wO (.clr (some 4) (.agg [.str [],.int .i64 0,.str [],.sl none []]) 38)] [0,5])
(.seq (rg [mV 39 0,
mV 40 5,
uO 41 (.slice (some 4) 39 none (some 40) none),
mV 4 41] [4])
.ret))
def d_q05b_k3 (C : Hd) (gl : GL) (v0 v5 : AV) (h : Heap) (x : Esc) (K : KT) : Prop:=
 pK (oSlice (some 4) v0 (some v5) none none h) fun t1=>
 wK (oClr (some 4) (.agg [.str [],.int .i64 0,.str [],.sl none []]) t1 h) fun t2 h3 y4=>
 pK (oSlice (some 4) v0 none (some v5) none h3) fun t5=>
 K .ret ⟨[(4,t5)],h3,(y4 ++ x)⟩
theorem e_q05b_k3 {C gl e h x K} : NW C gl p_q05b_k3 ⟨e,h,x⟩ K = d_q05b_k3 C gl (aget e 0) (aget e 5) h x K:=by kernel_rfl
def P_q05b (q2 q3 : ACode) : ACode:=(.seq (rg [mV 4 (.c (.p (.sl (some 4) [])))] [0,1])
(.seq (rg [mV 8 0,
mV 9 1,
cL 10 f_q05k [8,9],
mV 5 10] [0,1,5])
(.seq (.seq (rg [mV 11 5,
bN 12 .eql 11 (cI (-1))] [0,1,5,12])
(.cond 12 (.seq (rg [mV 13 0,
mV 4 13] [4])
.ret)
.skip))
(.seq (.seq (rg [mV 14 5,
bN 15 .add 14 (cI 1),
mV 6 15] [0,1,5,6])
(.block 0 (.loop (.scope q2))))
q3))))
def a_q05b : AFun:=⟨2,[.t 4],P_q05b p_q05b_k2 p_q05b_k3,true,false⟩
def d_q05b (C : Hd) (gl : GL) (q2 q3 : ACode) (v0 v1 : AV) (h : Heap) (x : Esc) (K : KT) : Prop:=
 C f_q05k [v0,v1] h fun t1 h2 y3=>
 pK (oBin .eql t1 (AI (-1))) fun t4=>
 condB t4 (K .ret ⟨[(4,v0)],h2,(y3 ++ x)⟩)
 (pK (oBin .add t1 (AI 1)) fun t5=>
 NW C gl (.loop (.scope q2)) ⟨[(0,v0),(1,v1),(5,t1),(6,t5)],h2,(y3 ++ x)⟩ (blockN 0 (seqN C gl q3 K)))
theorem E_q05b {C gl q2 q3 v0 v1 h x K} : NW C gl (P_q05b q2 q3) ⟨enter [v0,v1],h,x⟩ K = d_q05b C gl q2 q3 v0 v1 h x K:=by kernel_rfl
theorem e_q05b {C gl v0 v1 h x K} : NW C gl a_q05b.body ⟨enter [v0,v1],h,x⟩ K = d_q05b C gl p_q05b_k2 p_q05b_k3 v0 v1 h x K:=E_q05b
def P_q051 : ACode:=(.det (.seq (rg [mV 2 (.c (.p (.sl (some 4) [])))] [0])
(.seq (.seq (rg [mV 3 0,
uO 4 (.isnil 4 false 3)] [0,4])
(.condu 4 (.seq (rg [uO 2 (.new0 (some 4))] [2])
.ret)
.skip))
(.seq (rg [uO 5 (.bsl true (some 4) 0 (.agg [.str [],.int .i64 0,.str [],.sl none []]) []),
mV 6 0,
uO 7 (.app (some 4) 5 6),
mV 2 7] [2])
.ret))))
def a_q051 : AFun:=⟨1,[.t 2],P_q051,false,true⟩
def d_q051 (C : Hd) (gl : GL) (v0 : AV) (h : Heap) (x : Esc) (K : KT) : Prop:=
 pK (oIsnil 4 false v0) fun t1=>
 condU t1 (nwK (some 4) h fun t2 h3 y4=>
 K .ret ⟨[(2,t2)],h3,(y4 ++ x)⟩)
 (wK (oBsl true (some 4) 0 (.agg [.str [],.int .i64 0,.str [],.sl none []]) [] h) fun t5 h6 y7=>
 wK (oApp (some 4) t5 v0 h6) fun t8 h9 y10=>
 K .ret ⟨[(2,t8)],h9,(y10 ++ (y7 ++ x))⟩)
theorem e_q051 {C gl v0 h x K} : NW C gl a_q051.body ⟨enter [v0],h,x⟩ K = d_q051 C gl v0 h x K:=by kernel_rfl
def P_q04o : ACode:=(.seq (rg [uO 2 (.box 0),
mV 3 cF] [1,2])
(.seq (rg [fA 4 0 none 2,
lD 5 none 4,
lD 6 none 1,
bN 7 .neq 5 6,
mV 3 7] [3])
.ret))
def a_q04o : AFun:=⟨2,[.t 3],P_q04o,false,false⟩
def d_q04o (C : Hd) (gl : GL) (v0 v1 : AV) (h : Heap) (x : Esc) (K : KT) : Prop:=
 wK (oBox v0 h) fun t1 h2 y3=>
 pK (oFaddr 0 none t1) fun t4=>
 pK (oLoad none t4 h2) fun t5=>
 pK (oLoad none v1 h2) fun t6=>
 pK (oBin .neq t5 t6) fun t7=>
 K .ret ⟨[(3,t7)],h2,(y3 ++ x)⟩
theorem e_q04o {C gl v0 v1 h x K} : NW C gl a_q04o.body ⟨enter [v0,v1],h,x⟩ K = d_q04o C gl v0 v1 h x K:=by kernel_rfl
def p_q05k_k1 : ACode:=.pr [0,1,7,8] (.seq (rg [bN 9 .lss 8 7] [0,1,7,8,9])
(.seq (.cond 9 .skip
(.exit 0))
(.seq (.block 1 (.seq (rg [mV 10 8,
mV 5 10] [0,1,5,7,8])
(.seq (rg [mV 11 1,
mV 12 0,
mV 13 5,
iA 14 (some 4) 12 13,
lD 15 (some 4) 14,
uO 16 (.callv 11 [15])] [0,1,5,7,8,16])
(.cond 16 (.seq (rg [mV 17 5,
mV 4 17] [4])
.ret)
.skip))))
(rg [bN 18 .add 8 (cI 1),
mV 8 18] [0,1,7,8]))))
def d_q05k_k1 (C : Hd) (gl : GL) (v0 v1 v7 v8 : AV) (h : Heap) (x : Esc) (K : KT) : Prop:=
 pK (oBin .lss v8 v7) fun t1=>
 condB t1 (pK (oIaddr (some 4) v0 v8 h) fun t2=>
 pK (oLoad (some 4) t2 h) fun t3=>
 callvK C v1 [t3] h fun t4 h5 y6=>
 condB t4 (K .ret ⟨[(4,v8)],h5,(y6 ++ x)⟩)
 (pK (oBin .add v8 (AI 1)) fun t7=>
 K .normal ⟨[(0,v0),(1,v1),(7,v7),(8,t7)],h5,(y6 ++ x)⟩))
 (K (.exit 0) ⟨[(0,v0),(1,v1),(7,v7),(8,v8),(9,t1)],h,x⟩)
theorem e_q05k_k1 {C gl e h x K} : NW C gl p_q05k_k1 ⟨e,h,x⟩ K = d_q05k_k1 C gl (aget e 0) (aget e 1) (aget e 7) (aget e 8) h x K:=by kernel_rfl
theorem l_q05k_k1 {C gl e h x K} : NW C gl (.loop p_q05k_k1) ⟨e,h,x⟩ K = NLoop C gl p_q05k_k1 K [(0,aget e 0),(1,aget e 1),(7,aget e 7),(8,aget e 8)] h x:=NLoop_pr
def p_q05k_k2 : ACode:=.pr [] (.seq (rg [mV 4 (cI (-1))] [4])
.ret)
def d_q05k_k2 (C : Hd) (gl : GL) (h : Heap) (x : Esc) (K : KT) : Prop:=
 K .ret ⟨[(4,(AI (-1)))],h,x⟩
theorem e_q05k_k2 {C gl e h x K} : NW C gl p_q05k_k2 ⟨e,h,x⟩ K = d_q05k_k2 C gl h x K:=by kernel_rfl
def P_q05k (q1 q2 : ACode) : ACode:=(.seq (rg [mV 4 (cI 0)] [0,1])
(.seq (.seq (rg [mV 6 0,
lN 7 6,
mV 8 (cI 0)] [0,1,7,8])
(.block 0 (.loop q1)))
q2))
def a_q05k : AFun:=⟨2,[.t 4],P_q05k p_q05k_k1 p_q05k_k2,true,false⟩
def d_q05k (C : Hd) (gl : GL) (q1 q2 : ACode) (v0 v1 : AV) (h : Heap) (x : Esc) (K : KT) : Prop:=
 pK (oLen v0) fun t1=>
 NW C gl (.loop q1) ⟨[(0,v0),(1,v1),(7,t1),(8,(AI 0))],h,x⟩ (blockN 0 (seqN C gl q2 K))
theorem E_q05k {C gl q1 q2 v0 v1 h x K} : NW C gl (P_q05k q1 q2) ⟨enter [v0,v1],h,x⟩ K = d_q05k C gl q1 q2 v0 v1 h x K:=by kernel_rfl
theorem e_q05k {C gl v0 v1 h x K} : NW C gl a_q05k.body ⟨enter [v0,v1],h,x⟩ K = d_q05k C gl p_q05k_k1 p_q05k_k2 v0 v1 h x K:=E_q05k
def P_q04p : ACode:=(.seq (rg [uO 2 (.box 0),
mV 3 cF] [1,2])
(.seq (rg [lD 4 none 1,
fA 5 3 none 2,
lD 6 none 5,
cL 7 f_q04r [4,6],
bN 8 .lss 7 (cI 0),
mV 3 8] [3])
.ret))
def a_q04p : AFun:=⟨2,[.t 3],P_q04p,false,false⟩
def d_q04p (C : Hd) (gl : GL) (v0 v1 : AV) (h : Heap) (x : Esc) (K : KT) : Prop:=
 wK (oBox v0 h) fun t1 h2 y3=>
 pK (oLoad none v1 h2) fun t4=>
 pK (oFaddr 3 none t1) fun t5=>
 pK (oLoad none t5 h2) fun t6=>
 C f_q04r [t4,t6] h2 fun t7 h8 y9=>
 pK (oBin .lss t7 (AI 0)) fun t10=>
 K .ret ⟨[(3,t10)],h8,(y9 ++ (y3 ++ x))⟩
theorem e_q04p {C gl v0 v1 h x K} : NW C gl a_q04p.body ⟨enter [v0,v1],h,x⟩ K = d_q04p C gl v0 v1 h x K:=by kernel_rfl
def p_q04q_k1 : ACode:=.pr [0,1] (.seq (.seq (rg [mV 5 1,
bN 6 .neq 5 (cI 0)] [0,1,6])
(.cond 6 .skip
(.exit 0)))
(.block 1 (dr [dF (mV 7 1) [1],
dF (mV 8 0) [0],
dF (mV 9 1) [1],
dF (bN 10 .rem 8 9) [8,9],
dF (mV 0 7) [7],
dF (mV 1 10) [10]] [0,1])))
def d_q04q_k1 (C : Hd) (gl : GL) (v0 v1 : AV) (h : Heap) (x : Esc) (K : KT) : Prop:=
 pK (oBin .neq v1 (AI 0)) fun t1=>
 condB t1 (pK (oBin .rem v0 v1) fun t2=>
 K .normal ⟨[(0,v1),(1,t2)],h,x⟩)
 (K (.exit 0) ⟨[(0,v0),(1,v1),(6,t1)],h,x⟩)
theorem e_q04q_k1 {C gl e h x K} : NW C gl p_q04q_k1 ⟨e,h,x⟩ K = d_q04q_k1 C gl (aget e 0) (aget e 1) h x K:=by kernel_rfl
theorem l_q04q_k1 {C gl e h x K} : NW C gl (.loop p_q04q_k1) ⟨e,h,x⟩ K = NLoop C gl p_q04q_k1 K [(0,aget e 0),(1,aget e 1)] h x:=NLoop_pr
def p_q04q_k2 : ACode:=.pr [0] (.seq (rg [mV 11 0,
mV 12 0,
uO 13 (.un .neg 12),
uO 14 (.mx [11,13]),
mV 4 14] [4])
.ret)
def d_q04q_k2 (C : Hd) (gl : GL) (v0 : AV) (h : Heap) (x : Esc) (K : KT) : Prop:=
 pK (oUn .neg v0) fun t1=>
 pK (oMx [v0,t1]) fun t2=>
 K .ret ⟨[(4,t2)],h,x⟩
theorem e_q04q_k2 {C gl e h x K} : NW C gl p_q04q_k2 ⟨e,h,x⟩ K = d_q04q_k2 C gl (aget e 0) h x K:=by kernel_rfl
def P_q04q (q1 q2 : ACode) : ACode:=(.seq (rg [mV 4 (cI 0)] [0,1])
(.seq (.block 0 (.loop q1))
q2))
def a_q04q : AFun:=⟨2,[.t 4],P_q04q p_q04q_k1 p_q04q_k2,false,false⟩
def d_q04q (C : Hd) (gl : GL) (q1 q2 : ACode) (v0 v1 : AV) (h : Heap) (x : Esc) (K : KT) : Prop:=
 NW C gl (.loop q1) ⟨[(0,v0),(1,v1)],h,x⟩ (blockN 0 (seqN C gl q2 K))
theorem E_q04q {C gl q1 q2 v0 v1 h x K} : NW C gl (P_q04q q1 q2) ⟨enter [v0,v1],h,x⟩ K = d_q04q C gl q1 q2 v0 v1 h x K:=by kernel_rfl
theorem e_q04q {C gl v0 v1 h x K} : NW C gl a_q04q.body ⟨enter [v0,v1],h,x⟩ K = d_q04q C gl p_q04q_k1 p_q04q_k2 v0 v1 h x K:=E_q04q
def P_q035 : ACode:=(.seq (rg [mV 4 (cI 0)] [0,1])
(.seq (.block 0 (.seq (rg [mV 6 0,
lN 7 6,
mV 8 1,
bN 9 .lss 7 8,
mV 5 9] [0,5])
(.cond 5 (.seq (rg [mV 4 (cI 8)] [4])
.ret)
(.seq (rg [mV 11 0,
lN 12 11,
bN 13 .gtr 12 (cI 5000),
mV 10 13] [0,10])
(.cond 10 (.seq (rg [mV 4 (cI 2)] [4])
.ret)
(.seq (rg [mV 15 0,
cL 16 f_q057 [15,(.f f_q036)],
mV 14 16] [14])
(.cond 14 (.seq (rg [mV 4 (cI 1)] [4])
.ret)
.skip)))))))
(.seq (rg [mV 4 (cI 0)] [4])
.ret)))
def a_q035 : AFun:=⟨2,[.t 4],P_q035,false,false⟩
def d_q035 (C : Hd) (gl : GL) (v0 v1 : AV) (h : Heap) (x : Esc) (K : KT) : Prop:=
 pK (oLen v0) fun t1=>
 pK (oBin .lss t1 v1) fun t2=>
 condB t2 (K .ret ⟨[(4,(AI 8))],h,x⟩)
 (pK (oLen v0) fun t3=>
 pK (oBin .gtr t3 (AI 5000)) fun t4=>
 condB t4 (K .ret ⟨[(4,(AI 2))],h,x⟩)
 (C f_q057 [v0,(.fn f_q036 [])] h fun t5 h6 y7=>
 condB t5 (K .ret ⟨[(4,(AI 1))],h6,(y7 ++ x)⟩)
 (K .ret ⟨[(4,(AI 0))],h6,(y7 ++ x)⟩)))
theorem e_q035 {C gl v0 v1 h x K} : NW C gl a_q035.body ⟨enter [v0,v1],h,x⟩ K = d_q035 C gl v0 v1 h x K:=by kernel_rfl
def p_q032_k1 : ACode:=.pr [0,2,4,7,8,9] (.seq (rg [bN 10 .lss 9 8] [0,2,4,7,8,9,10])
(.seq (.cond 10 .skip
(.exit 0))
(.seq (.block 1 (.seq (rg [iA 11 none 7 9,
lD 12 none 11,
mV 6 12] [0,2,4,6,7,8,9])
(.seq (rg [mV 13 2,
mV 14 6,
bN 15 .add 13 14,
mV 2 15] [0,2,4,6,7,8,9])
(rg [mV 16 4,
mV 17 6,
mV 18 6,
bN 19 .mul 17 18,
bN 20 .add 16 19,
mV 4 20] [0,2,4,7,8,9]))))
(rg [bN 21 .add 9 (cI 1),
mV 9 21] [0,2,4,7,8,9]))))
def d_q032_k1 (C : Hd) (gl : GL) (v0 v2 v4 v7 v8 v9 : AV) (h : Heap) (x : Esc) (K : KT) : Prop:=
 pK (oBin .lss v9 v8) fun t1=>
 condB t1 (pK (oIaddr none v7 v9 h) fun t2=>
 pK (oLoad none t2 h) fun t3=>
 pK (oBin .add v2 t3) fun t4=>
 pK (oBin .mul t3 t3) fun t5=>
 pK (oBin .add v4 t5) fun t6=>
 pK (oBin .add v9 (AI 1)) fun t7=>
 K .normal ⟨[(0,v0),(2,t4),(4,t6),(7,v7),(8,v8),(9,t7)],h,x⟩)
 (K (.exit 0) ⟨[(0,v0),(2,v2),(4,v4),(7,v7),(8,v8),(9,v9),(10,t1)],h,x⟩)
theorem e_q032_k1 {C gl e h x K} : NW C gl p_q032_k1 ⟨e,h,x⟩ K = d_q032_k1 C gl (aget e 0) (aget e 2) (aget e 4) (aget e 7) (aget e 8) (aget e 9) h x K:=by kernel_rfl
theorem l_q032_k1 {C gl e h x K} : NW C gl (.loop p_q032_k1) ⟨e,h,x⟩ K = NLoop C gl p_q032_k1 K [(0,aget e 0),(2,aget e 2),(4,aget e 4),(7,aget e 7),(8,aget e 8),(9,aget e 9)] h x:=NLoop_pr
def p_q032_k2 : ACode:=.pr [0,2,4] (.seq (rg [mV 22 2,
mV 23 0,
lN 24 23,
mV 25 4,
bN 26 .mul 24 25,
mV 27 2,
mV 28 2,
bN 29 .mul 27 28,
bN 30 .sub 26 29,
mV 2 22,
mV 3 30] [2,3])
.ret)
def d_q032_k2 (C : Hd) (gl : GL) (v0 v2 v4 : AV) (h : Heap) (x : Esc) (K : KT) : Prop:=
 pK (oLen v0) fun t1=>
 pK (oBin .mul t1 v4) fun t2=>
 pK (oBin .mul v2 v2) fun t3=>
 pK (oBin .sub t2 t3) fun t4=>
 K .ret ⟨[(2,v2),(3,t4)],h,x⟩
theorem e_q032_k2 {C gl e h x K} : NW C gl p_q032_k2 ⟨e,h,x⟩ K = d_q032_k2 C gl (aget e 0) (aget e 2) (aget e 4) h x K:=by kernel_rfl
def P_q032 (q1 q2 : ACode) : ACode:=(.seq (rg [mV 2 (cI 0),
mV 3 (cI 0)] [0,2])
(.seq (rg [mV 4 (cI 0)] [0,2,4])
(.seq (.seq (rg [mV 7 0,
lN 8 7,
mV 9 (cI 0)] [0,2,4,7,8,9])
(.block 0 (.loop q1)))
q2)))
def a_q032 : AFun:=⟨1,[.t 2,.t 3],P_q032 p_q032_k1 p_q032_k2,false,false⟩
def d_q032 (C : Hd) (gl : GL) (q1 q2 : ACode) (v0 : AV) (h : Heap) (x : Esc) (K : KT) : Prop:=
 pK (oLen v0) fun t1=>
 NW C gl (.loop q1) ⟨[(0,v0),(2,(AI 0)),(4,(AI 0)),(7,v0),(8,t1),(9,(AI 0))],h,x⟩ (blockN 0 (seqN C gl q2 K))
theorem E_q032 {C gl q1 q2 v0 h x K} : NW C gl (P_q032 q1 q2) ⟨enter [v0],h,x⟩ K = d_q032 C gl q1 q2 v0 h x K:=by kernel_rfl
theorem e_q032 {C gl v0 h x K} : NW C gl a_q032.body ⟨enter [v0],h,x⟩ K = d_q032 C gl p_q032_k1 p_q032_k2 v0 h x K:=E_q032
def p_q065_k1 : ACode:=.pr [0,1,2,3,8,9] (.seq (.seq (dr [dF (mV 18 9) [9],
dF (mV 19 1) [1],
dF (bN 20 .gtr 18 19) [18,19],
dF (mV 21 20) [20],
dF (gD 22 21 true (.mv 3)) [3,21],
dF (gD 23 21 true (.mv 0)) [0,21],
dF (gD 24 21 true (.mv 9)) [9,21],
dF (gD 25 21 true (.iaddr (some 4) 23 24)) [23,24,21],
dF (gD 26 21 true (.load (some 4) 25)) [25,21],
dF (gD 27 21 true (.mv 0)) [0,21],
dF (gD 28 21 true (.mv 9)) [9,21],
dF (gD 29 21 true (.bin .sub 28 (cI 1))) [28,21],
dF (gD 30 21 true (.iaddr (some 4) 27 29)) [27,29,21],
dF (gD 31 21 true (.load (some 4) 30)) [30,21],
dT (gD 32 21 true (.callv 22 [26,31])) [22,26,31,21],
dF (gD 33 21 true (.bin .lss 32 (cI 0))) [32,21],
dF (uO 34 (.pick 21 33 cF)) [21,33]] [0,1,2,3,8,9,34])
(.cond 34 .skip
(.exit 2)))
(.seq (.block 3 (dr [dF (mV 37 0) [0],
dF (mV 38 9) [9],
dF (mV 39 0) [0],
dF (mV 40 9) [9],
dF (bN 41 .sub 40 (cI 1)) [40],
dF (mV 42 0) [0],
dF (mV 43 9) [9],
dF (bN 44 .sub 43 (cI 1)) [43],
dF (iA 45 (some 4) 42 44) [42,44],
dF (lD 46 (some 4) 45) [45],
dF (mV 47 0) [0],
dF (mV 48 9) [9],
dF (iA 49 (some 4) 47 48) [47,48],
dF (lD 50 (some 4) 49) [49],
dF (iA 51 (some 4) 37 38) [37,38],
dT (wO (.store (some 4) 51 46)) [51,46],
dF (iA 52 (some 4) 39 41) [39,41],
dT (wO (.store (some 4) 52 50)) [52,50]] [0,1,2,3,8,9]))
(rg [mV 35 9,
bN 36 .sub 35 (cI 1),
mV 9 36] [0,1,2,3,8,9])))
def d_q065_k1 (C : Hd) (gl : GL) (v0 v1 v2 v3 v8 v9 : AV) (h : Heap) (x : Esc) (K : KT) : Prop:=
 pK (oBin .gtr v9 v1) fun t1=>
 gM t1 true v3 h fun t2 h3 y4=>
 gM t1 true v0 h3 fun t5 h6 y7=>
 gM t1 true v9 h6 fun t8 h9 y10=>
 gP t1 true (oIaddr (some 4) t5 t8 h9) h9 fun t11 h12 y13=>
 gP t1 true (oLoad (some 4) t11 h12) h12 fun t14 h15 y16=>
 gM t1 true v0 h15 fun t17 h18 y19=>
 gM t1 true v9 h18 fun t20 h21 y22=>
 gP t1 true (oBin .sub t20 (AI 1)) h21 fun t23 h24 y25=>
 gP t1 true (oIaddr (some 4) t17 t23 h24) h24 fun t26 h27 y28=>
 gP t1 true (oLoad (some 4) t26 h27) h27 fun t29 h30 y31=>
 gV t1 true h30 (callvE C t2 [t14,t29] h30) fun t32 h33 y34=>
 gP t1 true (oBin .lss t32 (AI 0)) h33 fun t35 h36 y37=>
 pK (oPick t1 t35 (AB false)) fun t38=>
 condB t38 (pK (oBin .sub v9 (AI 1)) fun t39=>
 pK (oBin .sub v9 (AI 1)) fun t40=>
 pK (oIaddr (some 4) v0 t40 h36) fun t41=>
 pK (oLoad (some 4) t41 h36) fun t42=>
 pK (oIaddr (some 4) v0 v9 h36) fun t43=>
 pK (oLoad (some 4) t43 h36) fun t44=>
 pK (oIaddr (some 4) v0 v9 h36) fun t45=>
 wK (oStore (some 4) t45 t42 h36) fun t46 h47 y48=>
 pK (oIaddr (some 4) v0 t39 h47) fun t49=>
 wK (oStore (some 4) t49 t44 h47) fun t50 h51 y52=>
 pK (oBin .sub v9 (AI 1)) fun t53=>
 K .normal ⟨[(0,v0),(1,v1),(2,v2),(3,v3),(8,v8),(9,t53)],h51,(y52 ++ (y48 ++ (y37 ++ (y34 ++ (y31 ++ (y28 ++ (y25 ++ (y22 ++ (y19 ++ (y16 ++ (y13 ++ (y10 ++ (y7 ++ (y4 ++ x))))))))))))))⟩)
 (K (.exit 2) ⟨[(0,v0),(1,v1),(2,v2),(3,v3),(8,v8),(9,v9),(34,t38)],h36,(y37 ++ (y34 ++ (y31 ++ (y28 ++ (y25 ++ (y22 ++ (y19 ++ (y16 ++ (y13 ++ (y10 ++ (y7 ++ (y4 ++ x))))))))))))⟩)
theorem e_q065_k1 {C gl e h x K} : NW C gl p_q065_k1 ⟨e,h,x⟩ K = d_q065_k1 C gl (aget e 0) (aget e 1) (aget e 2) (aget e 3) (aget e 8) (aget e 9) h x K:=by kernel_rfl
theorem l_q065_k1 {C gl e h x K} : NW C gl (.loop p_q065_k1) ⟨e,h,x⟩ K = NLoop C gl p_q065_k1 K [(0,aget e 0),(1,aget e 1),(2,aget e 2),(3,aget e 3),(8,aget e 8),(9,aget e 9)] h x:=NLoop_pr
def p_q065_k2 : ACode:=.pr [0,1,2,3,8] (rg [mV 15 8,
bN 16 .add 15 (cI 1),
mV 8 16] [0,1,2,3,8])
def d_q065_k2 (C : Hd) (gl : GL) (v0 v1 v2 v3 v8 : AV) (h : Heap) (x : Esc) (K : KT) : Prop:=
 pK (oBin .add v8 (AI 1)) fun t1=>
 K .normal ⟨[(0,v0),(1,v1),(2,v2),(3,v3),(8,t1)],h,x⟩
theorem e_q065_k2 {C gl e h x K} : NW C gl p_q065_k2 ⟨e,h,x⟩ K = d_q065_k2 C gl (aget e 0) (aget e 1) (aget e 2) (aget e 3) (aget e 8) h x K:=by kernel_rfl
def P_q065_k3 (q1 q2 : ACode) : ACode:=.pr [0,1,2,3,8] (.seq (.seq (rg [mV 12 8,
mV 13 2,
bN 14 .lss 12 13] [0,1,2,3,8,14])
(.cond 14 .skip
(.exit 0)))
(.seq (.block 1 (.seq (rg [mV 17 8,
mV 9 17] [0,1,2,3,8,9])
(.block 2 (.loop q1))))
q2))
def p_q065_k3 : ACode:=P_q065_k3 p_q065_k1 p_q065_k2
def d_q065_k3 (C : Hd) (gl : GL) (q1 q2 : ACode) (v0 v1 v2 v3 v8 : AV) (h : Heap) (x : Esc) (K : KT) : Prop:=
 pK (oBin .lss v8 v2) fun t1=>
 condB t1 (NW C gl (.loop q1) ⟨[(0,v0),(1,v1),(2,v2),(3,v3),(8,v8),(9,v8)],h,x⟩ (blockN 2 (blockN 1 (seqN C gl q2 K))))
 (K (.exit 0) ⟨[(0,v0),(1,v1),(2,v2),(3,v3),(8,v8),(14,t1)],h,x⟩)
theorem E_q065_k3 {C gl q1 q2 e h x K} : NW C gl (P_q065_k3 q1 q2) ⟨e,h,x⟩ K = d_q065_k3 C gl q1 q2 (aget e 0) (aget e 1) (aget e 2) (aget e 3) (aget e 8) h x K:=by kernel_rfl
theorem e_q065_k3 {C gl e h x K} : NW C gl p_q065_k3 ⟨e,h,x⟩ K = d_q065_k3 C gl p_q065_k1 p_q065_k2 (aget e 0) (aget e 1) (aget e 2) (aget e 3) (aget e 8) h x K:=E_q065_k3
theorem l_q065_k3 {C gl e h x K} : NW C gl (.loop p_q065_k3) ⟨e,h,x⟩ K = NLoop C gl p_q065_k3 K [(0,aget e 0),(1,aget e 1),(2,aget e 2),(3,aget e 3),(8,aget e 8)] h x:=NLoop_pr
def P_q065 (q3 : ACode) : ACode:=(.seq (rg [mV 10 1,
bN 11 .add 10 (cI 1),
mV 8 11] [0,1,2,3,8])
(.block 0 (.loop q3)))
def a_q065 : AFun:=⟨4,[],P_q065 p_q065_k3,true,false⟩
def d_q065 (C : Hd) (gl : GL) (q3 : ACode) (v0 v1 v2 v3 : AV) (h : Heap) (x : Esc) (K : KT) : Prop:=
 pK (oBin .add v1 (AI 1)) fun t1=>
 NW C gl (.loop q3) ⟨[(0,v0),(1,v1),(2,v2),(3,v3),(8,t1)],h,x⟩ (blockN 0 K)
theorem E_q065 {C gl q3 v0 v1 v2 v3 h x K} : NW C gl (P_q065 q3) ⟨enter [v0,v1,v2,v3],h,x⟩ K = d_q065 C gl q3 v0 v1 v2 v3 h x K:=by kernel_rfl
theorem e_q065 {C gl v0 v1 v2 v3 h x K} : NW C gl a_q065.body ⟨enter [v0,v1,v2,v3],h,x⟩ K = d_q065 C gl p_q065_k3 v0 v1 v2 v3 h x K:=E_q065
def p_q06s_k1 : ACode:=.pr [0,1,2,3,4,10,11,12,13] (.seq (.seq (dr [dF (mV 81 1) [1],
dF (bN 82 .gtr 81 (cI 0)) [81],
dF (mV 83 82) [82],
dF (gD 84 83 true (.mv 4)) [4,83],
dF (gD 85 83 true (.mv 0)) [0,83],
dF (gD 86 83 true (.mv 1)) [1,83],
dF (gD 87 83 true (.bin .sub 86 (cI 1))) [86,83],
dF (gD 88 83 true (.iaddr (some 4) 85 87)) [85,87,83],
dF (gD 89 83 true (.load (some 4) 88)) [88,83],
dF (gD 90 83 true (.mv 0)) [0,83],
dF (gD 91 83 true (.mv 13)) [13,83],
dF (gD 92 83 true (.iaddr (some 4) 90 91)) [90,91,83],
dF (gD 93 83 true (.load (some 4) 92)) [92,83],
dT (gD 94 83 true (.callv 84 [89,93])) [84,89,93,83],
dF (gD 95 83 true (.bin .lss 94 (cI 0))) [94,83],
dF (gD 96 83 true (.un .not 95)) [95,83],
dF (uO 97 (.pick 83 96 cF)) [83,96]] [0,1,2,3,4,10,11,12,13,97])
(.cond 97 (.seq (rg [mV 98 0,
mV 99 1,
mV 100 2,
mV 101 13,
mV 102 4,
cL 103 f_q06n [98,99,100,101,102],
mV 15 103] [0,2,3,4,10,11,15])
(.seq (rg [mV 104 15,
mV 1 104] [0,1,2,3,4,10,11])
(.exit 1)))
.skip))
(.seq (rg [mV 106 0,
mV 107 1,
mV 108 2,
mV 109 13,
mV 110 4,
cL 111 f_q06m [106,107,108,109,110],
mV 105 111,
eX 112 105 0,
eX 113 105 1,
mV 16 112,
mV 17 113] [0,1,2,3,4,12,16,17])
(.seq (rg [mV 114 17,
mV 11 114] [0,1,2,3,4,11,12,16])
(.seq (rg [mV 115 16,
mV 116 1,
bN 117 .sub 115 116,
mV 118 2,
mV 119 16,
bN 120 .sub 118 119,
mV 18 117,
mV 19 120] [0,1,2,3,4,11,12,16,18,19])
(.seq (rg [mV 121 12,
bN 122 .quo 121 (cI 8),
mV 20 122] [0,1,2,3,4,11,16,18,19,20])
(.seq (rg [mV 123 18,
mV 124 19,
bN 125 .lss 123 124] [0,1,2,3,4,11,16,18,19,20,125])
(.cond 125 (.seq (rg [mV 126 18,
mV 127 20,
bN 128 .geq 126 127,
mV 10 128] [0,1,2,3,4,10,11,16])
(.seq (rg [mV 129 0,
mV 130 1,
mV 131 16,
mV 132 3,
mV 133 4,
cL 134 f_q06s [129,130,131,132,133]] [0,2,3,4,10,11,16])
(rg [mV 135 16,
bN 136 .add 135 (cI 1),
mV 1 136] [0,1,2,3,4,10,11])))
(.seq (rg [mV 137 19,
mV 138 20,
bN 139 .geq 137 138,
mV 10 139] [0,1,2,3,4,10,11,16])
(.seq (rg [mV 140 0,
mV 141 16,
bN 142 .add 141 (cI 1),
mV 143 2,
mV 144 3,
mV 145 4,
cL 146 f_q06s [140,142,143,144,145]] [0,1,3,4,10,11,16])
(rg [mV 147 16,
mV 2 147] [0,1,2,3,4,10,11]))))))))))
def d_q06s_k1 (C : Hd) (gl : GL) (v0 v1 v2 v3 v4 v10 v11 v12 v13 : AV) (h : Heap) (x : Esc) (K : KT) : Prop:=
 pK (oBin .gtr v1 (AI 0)) fun t1=>
 gM t1 true v4 h fun t2 h3 y4=>
 gM t1 true v0 h3 fun t5 h6 y7=>
 gM t1 true v1 h6 fun t8 h9 y10=>
 gP t1 true (oBin .sub t8 (AI 1)) h9 fun t11 h12 y13=>
 gP t1 true (oIaddr (some 4) t5 t11 h12) h12 fun t14 h15 y16=>
 gP t1 true (oLoad (some 4) t14 h15) h15 fun t17 h18 y19=>
 gM t1 true v0 h18 fun t20 h21 y22=>
 gM t1 true v13 h21 fun t23 h24 y25=>
 gP t1 true (oIaddr (some 4) t20 t23 h24) h24 fun t26 h27 y28=>
 gP t1 true (oLoad (some 4) t26 h27) h27 fun t29 h30 y31=>
 gV t1 true h30 (callvE C t2 [t17,t29] h30) fun t32 h33 y34=>
 gP t1 true (oBin .lss t32 (AI 0)) h33 fun t35 h36 y37=>
 gP t1 true (oUn .not t35) h36 fun t38 h39 y40=>
 pK (oPick t1 t38 (AB false)) fun t41=>
 condB t41 (C f_q06n [v0,v1,v2,v13,v4] h39 fun t42 h43 y44=>
 K (.exit 1) ⟨[(0,v0),(1,t42),(2,v2),(3,v3),(4,v4),(10,v10),(11,v11)],h43,(y44 ++ (y40 ++ (y37 ++ (y34 ++ (y31 ++ (y28 ++ (y25 ++ (y22 ++ (y19 ++ (y16 ++ (y13 ++ (y10 ++ (y7 ++ (y4 ++ x))))))))))))))⟩)
 (C f_q06m [v0,v1,v2,v13,v4] h39 fun t45 h46 y47=>
 pK (oExt t45 0) fun t48=>
 pK (oExt t45 1) fun t49=>
 pK (oBin .sub t48 v1) fun t50=>
 pK (oBin .sub v2 t48) fun t51=>
 pK (oBin .quo v12 (AI 8)) fun t52=>
 pK (oBin .lss t50 t51) fun t53=>
 condB t53 (pK (oBin .geq t50 t52) fun t54=>
 C f_q06s [v0,v1,t48,v3,v4] h46 fun t55 h56 y57=>
 pK (oBin .add t48 (AI 1)) fun t58=>
 K .normal ⟨[(0,v0),(1,t58),(2,v2),(3,v3),(4,v4),(10,t54),(11,t49)],h56,(y57 ++ (y47 ++ (y40 ++ (y37 ++ (y34 ++ (y31 ++ (y28 ++ (y25 ++ (y22 ++ (y19 ++ (y16 ++ (y13 ++ (y10 ++ (y7 ++ (y4 ++ x)))))))))))))))⟩)
 (pK (oBin .geq t51 t52) fun t59=>
 pK (oBin .add t48 (AI 1)) fun t60=>
 C f_q06s [v0,t60,v2,v3,v4] h46 fun t61 h62 y63=>
 K .normal ⟨[(0,v0),(1,v1),(2,t48),(3,v3),(4,v4),(10,t59),(11,t49)],h62,(y63 ++ (y47 ++ (y40 ++ (y37 ++ (y34 ++ (y31 ++ (y28 ++ (y25 ++ (y22 ++ (y19 ++ (y16 ++ (y13 ++ (y10 ++ (y7 ++ (y4 ++ x)))))))))))))))⟩))
theorem e_q06s_k1 {C gl e h x K} : NW C gl p_q06s_k1 ⟨e,h,x⟩ K = d_q06s_k1 C gl (aget e 0) (aget e 1) (aget e 2) (aget e 3) (aget e 4) (aget e 10) (aget e 11) (aget e 12) (aget e 13) h x K:=by kernel_rfl
def P_q06s_k2 (q1 : ACode) : ACode:=.pr [0,1,2,3,4,10,11,12,13,14] (.seq (.seq (rg [mV 68 10,
mV 69 68,
gD 70 69 true (.mv 11),
uO 71 (.pick 69 70 cF),
mV 72 71,
gD 73 72 true (.mv 14),
gD 74 72 true (.bin .eql 73 (cI 1)),
uO 75 (.pick 72 74 cF)] [0,1,2,3,4,10,11,12,13,75])
(.cond 75 (.seq (rg [mV 76 0,
mV 77 1,
mV 78 2,
mV 79 4,
cL 80 f_q06j [76,77,78,79]] [0,1,2,3,4,10,11,12,13,80])
(.cond 80 .ret
.skip))
.skip))
q1)
def p_q06s_k2 : ACode:=P_q06s_k2 p_q06s_k1
def d_q06s_k2 (C : Hd) (gl : GL) (q1 : ACode) (v0 v1 v2 v3 v4 v10 v11 v12 v13 v14 : AV) (h : Heap) (x : Esc) (K : KT) : Prop:=
 gM v10 true v11 h fun t1 h2 y3=>
 pK (oPick v10 t1 (AB false)) fun t4=>
 gM t4 true v14 h2 fun t5 h6 y7=>
 gP t4 true (oBin .eql t5 (AI 1)) h6 fun t8 h9 y10=>
 pK (oPick t4 t8 (AB false)) fun t11=>
 condB t11 (C f_q06j [v0,v1,v2,v4] h9 fun t12 h13 y14=>
 condB t12 (K .ret ⟨[(0,v0),(1,v1),(2,v2),(3,v3),(4,v4),(10,v10),(11,v11),(12,v12),(13,v13),(80,t12)],h13,(y14 ++ (y10 ++ (y7 ++ (y3 ++ x))))⟩)
 (NW C gl q1 ⟨[(0,v0),(1,v1),(2,v2),(3,v3),(4,v4),(10,v10),(11,v11),(12,v12),(13,v13),(80,t12)],h13,(y14 ++ (y10 ++ (y7 ++ (y3 ++ x))))⟩ K))
 (NW C gl q1 ⟨[(0,v0),(1,v1),(2,v2),(3,v3),(4,v4),(10,v10),(11,v11),(12,v12),(13,v13),(75,t11)],h9,(y10 ++ (y7 ++ (y3 ++ x)))⟩ K)
theorem E_q06s_k2 {C gl q1 e h x K} : NW C gl (P_q06s_k2 q1) ⟨e,h,x⟩ K = d_q06s_k2 C gl q1 (aget e 0) (aget e 1) (aget e 2) (aget e 3) (aget e 4) (aget e 10) (aget e 11) (aget e 12) (aget e 13) (aget e 14) h x K:=by kernel_rfl
theorem e_q06s_k2 {C gl e h x K} : NW C gl p_q06s_k2 ⟨e,h,x⟩ K = d_q06s_k2 C gl p_q06s_k1 (aget e 0) (aget e 1) (aget e 2) (aget e 3) (aget e 4) (aget e 10) (aget e 11) (aget e 12) (aget e 13) (aget e 14) h x K:=E_q06s_k2
def P_q06s_k3 (q2 : ACode) : ACode:=.pr [0,1,2,3,4,10,11,12] (.seq (rg [mV 48 0,
mV 49 1,
mV 50 2,
mV 51 4,
cL 52 f_q05z [48,49,50,51],
mV 47 52,
eX 53 47 0,
eX 54 47 1,
mV 13 53,
mV 14 54] [0,1,2,3,4,10,11,12,13,14])
(.seq (.seq (rg [mV 55 14,
bN 56 .eql 55 (cI 2)] [0,1,2,3,4,10,11,12,13,14,56])
(.cond 56 (.seq (rg [mV 57 0,
mV 58 1,
mV 59 2,
mV 60 4,
cL 61 f_q06v [57,58,59,60]] [0,1,2,3,4,10,11,12,13])
(.seq (rg [mV 62 2,
bN 63 .sub 62 (cI 1),
mV 64 13,
mV 65 1,
bN 66 .sub 64 65,
bN 67 .sub 63 66,
mV 13 67] [0,1,2,3,4,10,11,12,13])
(rg [mV 14 (cI 1)] [0,1,2,3,4,10,11,12,13,14])))
.skip))
q2))
def p_q06s_k3 : ACode:=P_q06s_k3 p_q06s_k2
def d_q06s_k3 (C : Hd) (gl : GL) (q2 : ACode) (v0 v1 v2 v3 v4 v10 v11 v12 : AV) (h : Heap) (x : Esc) (K : KT) : Prop:=
 C f_q05z [v0,v1,v2,v4] h fun t1 h2 y3=>
 pK (oExt t1 0) fun t4=>
 pK (oExt t1 1) fun t5=>
 pK (oBin .eql t5 (AI 2)) fun t6=>
 condB t6 (C f_q06v [v0,v1,v2,v4] h2 fun t7 h8 y9=>
 pK (oBin .sub v2 (AI 1)) fun t10=>
 pK (oBin .sub t4 v1) fun t11=>
 pK (oBin .sub t10 t11) fun t12=>
 NW C gl q2 ⟨[(0,v0),(1,v1),(2,v2),(3,v3),(4,v4),(10,v10),(11,v11),(12,v12),(13,t12),(14,(AI 1))],h8,(y9 ++ (y3 ++ x))⟩ K)
 (NW C gl q2 ⟨[(0,v0),(1,v1),(2,v2),(3,v3),(4,v4),(10,v10),(11,v11),(12,v12),(13,t4),(14,t5),(56,t6)],h2,(y3 ++ x)⟩ K)
theorem E_q06s_k3 {C gl q2 e h x K} : NW C gl (P_q06s_k3 q2) ⟨e,h,x⟩ K = d_q06s_k3 C gl q2 (aget e 0) (aget e 1) (aget e 2) (aget e 3) (aget e 4) (aget e 10) (aget e 11) (aget e 12) h x K:=by kernel_rfl
theorem e_q06s_k3 {C gl e h x K} : NW C gl p_q06s_k3 ⟨e,h,x⟩ K = d_q06s_k3 C gl p_q06s_k2 (aget e 0) (aget e 1) (aget e 2) (aget e 3) (aget e 4) (aget e 10) (aget e 11) (aget e 12) h x K:=E_q06s_k3
def P_q06s_k4 (q3 : ACode) : ACode:=.pr [0,1,2,3,4,10,11] (.block 1 (.seq (rg [mV 21 2,
mV 22 1,
bN 23 .sub 21 22,
mV 12 23] [0,1,2,3,4,10,11,12])
(.seq (.seq (rg [mV 24 12,
bN 25 .leq 24 (cI 12)] [0,1,2,3,4,10,11,12,25])
(.cond 25 (.seq (rg [mV 26 0,
mV 27 1,
mV 28 2,
mV 29 4,
cL 30 f_q065 [26,27,28,29]] [])
.ret)
.skip))
(.seq (.seq (rg [mV 31 3,
bN 32 .eql 31 (cI 0)] [0,1,2,3,4,10,11,12,32])
(.cond 32 (.seq (rg [mV 33 0,
mV 34 1,
mV 35 2,
mV 36 4,
cL 37 f_q062 [33,34,35,36]] [])
.ret)
.skip))
(.seq (.seq (rg [mV 38 10,
uO 39 (.un .not 38)] [0,1,2,3,4,10,11,12,39])
(.cond 39 (.seq (rg [mV 40 0,
mV 41 1,
mV 42 2,
mV 43 4,
cL 44 f_q05w [40,41,42,43]] [0,1,2,3,4,10,11,12])
(rg [mV 45 3,
bN 46 .sub 45 (cI 1),
mV 3 46] [0,1,2,3,4,10,11,12]))
.skip))
q3)))))
def p_q06s_k4 : ACode:=P_q06s_k4 p_q06s_k3
def d_q06s_k4 (C : Hd) (gl : GL) (q3 : ACode) (v0 v1 v2 v3 v4 v10 v11 : AV) (h : Heap) (x : Esc) (K : KT) : Prop:=
 pK (oBin .sub v2 v1) fun t1=>
 pK (oBin .leq t1 (AI 12)) fun t2=>
 condB t2 (C f_q065 [v0,v1,v2,v4] h fun t3 h4 y5=>
 K .ret ⟨[],h4,(y5 ++ x)⟩)
 (pK (oBin .eql v3 (AI 0)) fun t6=>
 condB t6 (C f_q062 [v0,v1,v2,v4] h fun t7 h8 y9=>
 K .ret ⟨[],h8,(y9 ++ x)⟩)
 (pK (oUn .not v10) fun t10=>
 condB t10 (C f_q05w [v0,v1,v2,v4] h fun t11 h12 y13=>
 pK (oBin .sub v3 (AI 1)) fun t14=>
 NW C gl q3 ⟨[(0,v0),(1,v1),(2,v2),(3,t14),(4,v4),(10,v10),(11,v11),(12,t1)],h12,(y13 ++ x)⟩ (blockN 1 K))
 (NW C gl q3 ⟨[(0,v0),(1,v1),(2,v2),(3,v3),(4,v4),(10,v10),(11,v11),(12,t1),(39,t10)],h,x⟩ (blockN 1 K))))
theorem E_q06s_k4 {C gl q3 e h x K} : NW C gl (P_q06s_k4 q3) ⟨e,h,x⟩ K = d_q06s_k4 C gl q3 (aget e 0) (aget e 1) (aget e 2) (aget e 3) (aget e 4) (aget e 10) (aget e 11) h x K:=by kernel_rfl
theorem e_q06s_k4 {C gl e h x K} : NW C gl p_q06s_k4 ⟨e,h,x⟩ K = d_q06s_k4 C gl p_q06s_k3 (aget e 0) (aget e 1) (aget e 2) (aget e 3) (aget e 4) (aget e 10) (aget e 11) h x K:=E_q06s_k4
theorem l_q06s_k4 {C gl e h x K} : NW C gl (.loop p_q06s_k4) ⟨e,h,x⟩ K = NLoop C gl p_q06s_k4 K [(0,aget e 0),(1,aget e 1),(2,aget e 2),(3,aget e 3),(4,aget e 4),(10,aget e 10),(11,aget e 11)] h x:=NLoop_pr
def P_q06s (q4 : ACode) : ACode:=(.seq (rg [mV 10 cT] [0,1,2,3,4,10])
(.seq (rg [mV 11 cT] [0,1,2,3,4,10,11])
(.block 0 (.loop q4))))
def a_q06s : AFun:=⟨5,[],P_q06s p_q06s_k4,true,false⟩
def d_q06s (C : Hd) (gl : GL) (q4 : ACode) (v0 v1 v2 v3 v4 : AV) (h : Heap) (x : Esc) (K : KT) : Prop:=
 NW C gl (.loop q4) ⟨[(0,v0),(1,v1),(2,v2),(3,v3),(4,v4),(10,(AB true)),(11,(AB true))],h,x⟩ (blockN 0 K)
theorem E_q06s {C gl q4 v0 v1 v2 v3 v4 h x K} : NW C gl (P_q06s q4) ⟨enter [v0,v1,v2,v3,v4],h,x⟩ K = d_q06s C gl q4 v0 v1 v2 v3 v4 h x K:=by kernel_rfl
theorem e_q06s {C gl v0 v1 v2 v3 v4 h x K} : NW C gl a_q06s.body ⟨enter [v0,v1,v2,v3,v4],h,x⟩ K = d_q06s C gl p_q06s_k4 v0 v1 v2 v3 v4 h x K:=E_q06s
def P_q039 : ACode:=(.seq (rg [mV 2 (cI 0)] [0])
(.seq (.cond cF (.seq (rg [mV 3 0,
uO 4 (.conv (.i .u32) 3),
cL 5 f_q03a [4],
mV 2 5] [2])
.ret)
.skip)
(.seq (rg [mV 6 0,
cL 7 f_q03b [6],
mV 2 7] [2])
.ret)))
def a_q039 : AFun:=⟨1,[.t 2],P_q039,false,false⟩
def d_q039 (C : Hd) (gl : GL) (v0 : AV) (h : Heap) (x : Esc) (K : KT) : Prop:=
 condB (AB false) (pK (oConvI .u32 v0) fun t1=>
 C f_q03a [t1] h fun t2 h3 y4=>
 K .ret ⟨[(2,t2)],h3,(y4 ++ x)⟩)
 (C f_q03b [v0] h fun t5 h6 y7=>
 K .ret ⟨[(2,t5)],h6,(y7 ++ x)⟩)
theorem e_q039 {C gl v0 h x K} : NW C gl a_q039.body ⟨enter [v0],h,x⟩ K = d_q039 C gl v0 h x K:=by kernel_rfl
def p_q006_k1 : ACode:=.pr [0,23,24] (.seq (rg [bN 25 .lss 24 23] [0,23,24,25])
(.seq (.cond 25 .skip
(.exit 0))
(.seq (.block 1 (.seq (rg [mV 26 24,
mV 3 26] [0,3,23,24])
(.seq (rg [mV 27 0,
mV 28 3,
uO 29 (.idxs 27 28),
mV 4 29] [0,4,23,24])
(.seq (rg [mV 30 4,
bN 31 .geq 30 (.c (.p (.int .u8 97))),
mV 32 31,
gD 33 32 true (.mv 4),
gD 34 32 true (.bin .leq 33 (.c (.p (.int .u8 122)))),
uO 35 (.pick 32 34 cF),
mV 36 35,
gD 37 36 false (.mv 4),
gD 38 36 false (.bin .geq 37 (.c (.p (.int .u8 48)))),
gD 39 36 false (.mv 38),
gD 40 39 true (.mv 4),
gD 41 39 true (.bin .leq 40 (.c (.p (.int .u8 57)))),
gD 42 36 false (.pick 39 41 cF),
uO 43 (.pick 36 cT 42),
mV 44 43,
gD 45 44 false (.mv 4),
gD 46 44 false (.bin .eql 45 (.c (.p (.int .u8 45)))),
uO 47 (.pick 44 cT 46),
mV 48 47,
gD 49 48 false (.mv 4),
gD 50 48 false (.bin .eql 49 (.c (.p (.int .u8 95)))),
uO 51 (.pick 48 cT 50),
uO 52 (.un .not 51)] [0,23,24,52])
(.cond 52 (.seq (rg [mV 2 cF] [2])
.ret)
.skip)))))
(rg [bN 53 .add 24 (cI 1),
mV 24 53] [0,23,24]))))
def d_q006_k1 (C : Hd) (gl : GL) (v0 v23 v24 : AV) (h : Heap) (x : Esc) (K : KT) : Prop:=
 pK (oBin .lss v24 v23) fun t1=>
 condB t1 (pK (oIdxs v0 v24) fun t2=>
 pK (oBin .geq t2 (.p (.int .u8 97))) fun t3=>
 gM t3 true t2 h fun t4 h5 y6=>
 gP t3 true (oBin .leq t4 (.p (.int .u8 122))) h5 fun t7 h8 y9=>
 pK (oPick t3 t7 (AB false)) fun t10=>
 gM t10 false t2 h8 fun t11 h12 y13=>
 gP t10 false (oBin .geq t11 (.p (.int .u8 48))) h12 fun t14 h15 y16=>
 gM t10 false t14 h15 fun t17 h18 y19=>
 gM t17 true t2 h18 fun t20 h21 y22=>
 gP t17 true (oBin .leq t20 (.p (.int .u8 57))) h21 fun t23 h24 y25=>
 gP t10 false (oPick t17 t23 (AB false)) h24 fun t26 h27 y28=>
 pK (oPick t10 (AB true) t26) fun t29=>
 gM t29 false t2 h27 fun t30 h31 y32=>
 gP t29 false (oBin .eql t30 (.p (.int .u8 45))) h31 fun t33 h34 y35=>
 pK (oPick t29 (AB true) t33) fun t36=>
 gM t36 false t2 h34 fun t37 h38 y39=>
 gP t36 false (oBin .eql t37 (.p (.int .u8 95))) h38 fun t40 h41 y42=>
 pK (oPick t36 (AB true) t40) fun t43=>
 pK (oUn .not t43) fun t44=>
 condB t44 (K .ret ⟨[(2,(AB false))],h41,(y42 ++ (y39 ++ (y35 ++ (y32 ++ (y28 ++ (y25 ++ (y22 ++ (y19 ++ (y16 ++ (y13 ++ (y9 ++ (y6 ++ x))))))))))))⟩)
 (pK (oBin .add v24 (AI 1)) fun t45=>
 K .normal ⟨[(0,v0),(23,v23),(24,t45)],h41,(y42 ++ (y39 ++ (y35 ++ (y32 ++ (y28 ++ (y25 ++ (y22 ++ (y19 ++ (y16 ++ (y13 ++ (y9 ++ (y6 ++ x))))))))))))⟩))
 (K (.exit 0) ⟨[(0,v0),(23,v23),(24,v24),(25,t1)],h,x⟩)
theorem e_q006_k1 {C gl e h x K} : NW C gl p_q006_k1 ⟨e,h,x⟩ K = d_q006_k1 C gl (aget e 0) (aget e 23) (aget e 24) h x K:=by kernel_rfl
theorem l_q006_k1 {C gl e h x K} : NW C gl (.loop p_q006_k1) ⟨e,h,x⟩ K = NLoop C gl p_q006_k1 K [(0,aget e 0),(23,aget e 23),(24,aget e 24)] h x:=NLoop_pr
def p_q006_k2 : ACode:=.pr [] (.seq (rg [mV 2 cT] [2])
.ret)
def d_q006_k2 (C : Hd) (gl : GL) (h : Heap) (x : Esc) (K : KT) : Prop:=
 K .ret ⟨[(2,(AB true))],h,x⟩
theorem e_q006_k2 {C gl e h x K} : NW C gl p_q006_k2 ⟨e,h,x⟩ K = d_q006_k2 C gl h x K:=by kernel_rfl
def P_q006 (q1 q2 : ACode) : ACode:=(.seq (rg [mV 2 cF] [0])
(.seq (.seq (rg [mV 5 0,
bN 6 .eql 5 (cS []),
mV 7 6,
gD 8 7 false (.mv 0),
gD 9 7 false (.lens 8),
gD 10 7 false (.bin .gtr 9 (cI 40)),
uO 11 (.pick 7 cT 10),
mV 12 11,
gD 13 12 false (.mv 0),
gD 14 12 false (.idxs 13 (cI 0)),
gD 15 12 false (.bin .lss 14 (.c (.p (.int .u8 97)))),
uO 16 (.pick 12 cT 15),
mV 17 16,
gD 18 17 false (.mv 0),
gD 19 17 false (.idxs 18 (cI 0)),
gD 20 17 false (.bin .gtr 19 (.c (.p (.int .u8 122)))),
uO 21 (.pick 17 cT 20)] [0,21])
(.cond 21 (.seq (rg [mV 2 cF] [2])
.ret)
.skip))
(.seq (.seq (rg [mV 22 0,
uO 23 (.lens 22),
mV 24 (cI 0)] [0,23,24])
(.block 0 (.loop q1)))
q2)))
def a_q006 : AFun:=⟨1,[.t 2],P_q006 p_q006_k1 p_q006_k2,false,false⟩
def d_q006 (C : Hd) (gl : GL) (q1 q2 : ACode) (v0 : AV) (h : Heap) (x : Esc) (K : KT) : Prop:=
 pK (oBin .eql v0 (.p (.str []))) fun t1=>
 gM t1 false v0 h fun t2 h3 y4=>
 gP t1 false (oLens t2) h3 fun t5 h6 y7=>
 gP t1 false (oBin .gtr t5 (AI 40)) h6 fun t8 h9 y10=>
 pK (oPick t1 (AB true) t8) fun t11=>
 gM t11 false v0 h9 fun t12 h13 y14=>
 gP t11 false (oIdxs t12 (AI 0)) h13 fun t15 h16 y17=>
 gP t11 false (oBin .lss t15 (.p (.int .u8 97))) h16 fun t18 h19 y20=>
 pK (oPick t11 (AB true) t18) fun t21=>
 gM t21 false v0 h19 fun t22 h23 y24=>
 gP t21 false (oIdxs t22 (AI 0)) h23 fun t25 h26 y27=>
 gP t21 false (oBin .gtr t25 (.p (.int .u8 122))) h26 fun t28 h29 y30=>
 pK (oPick t21 (AB true) t28) fun t31=>
 condB t31 (K .ret ⟨[(2,(AB false))],h29,(y30 ++ (y27 ++ (y24 ++ (y20 ++ (y17 ++ (y14 ++ (y10 ++ (y7 ++ (y4 ++ x)))))))))⟩)
 (pK (oLens v0) fun t32=>
 NW C gl (.loop q1) ⟨[(0,v0),(23,t32),(24,(AI 0))],h29,(y30 ++ (y27 ++ (y24 ++ (y20 ++ (y17 ++ (y14 ++ (y10 ++ (y7 ++ (y4 ++ x)))))))))⟩ (blockN 0 (seqN C gl q2 K)))
theorem E_q006 {C gl q1 q2 v0 h x K} : NW C gl (P_q006 q1 q2) ⟨enter [v0],h,x⟩ K = d_q006 C gl q1 q2 v0 h x K:=by kernel_rfl
theorem e_q006 {C gl v0 h x K} : NW C gl a_q006.body ⟨enter [v0],h,x⟩ K = d_q006 C gl p_q006_k1 p_q006_k2 v0 h x K:=E_q006
def P_q02r : ACode:=(.seq (rg [uO 3 (.box 1),
mV 4 (cI 0)] [0,3])
(.seq (rg [mV 5 0,
uO 6 (.mkfn f_q02s [3]),
cL 7 f_q05j [5,6],
mV 4 7] [4])
.ret))
def a_q02r : AFun:=⟨2,[.t 4],P_q02r,false,false⟩
def d_q02r (C : Hd) (gl : GL) (v0 v1 : AV) (h : Heap) (x : Esc) (K : KT) : Prop:=
 wK (oBox v1 h) fun t1 h2 y3=>
 C f_q05j [v0,(.fn f_q02s [t1])] h2 fun t4 h5 y6=>
 K .ret ⟨[(4,t4)],h5,(y6 ++ (y3 ++ x))⟩
theorem e_q02r {C gl v0 v1 h x K} : NW C gl a_q02r.body ⟨enter [v0,v1],h,x⟩ K = d_q02r C gl v0 v1 h x K:=by kernel_rfl
def P_q02x : ACode:=(.seq (rg [uO 3 (.box 1),
mV 4 (cI 0)] [0,3])
(.seq (.block 0 (.seq (rg [fA 6 0 none 3,
lD 7 none 6,
cL 8 f_q006 [7],
uO 9 (.un .not 8),
mV 10 9,
gD 11 10 false (.faddr 2 none 3),
gD 12 10 false (.load none 11),
gD 13 10 false (.call f_q006 [12]),
gD 14 10 false (.un .not 13),
uO 15 (.pick 10 cT 14),
mV 5 15] [0,3,5])
(.cond 5 (.seq (rg [mV 4 (cI 5)] [4])
.ret)
(.seq (rg [fA 17 1 none 3,
lD 18 none 17,
cL 19 f_q007 [18],
uO 20 (.un .not 19),
mV 21 20,
gD 22 21 false (.faddr 3 none 3),
gD 23 21 false (.load none 22),
gD 24 21 false (.call f_q057 [23,(.f f_q02y)]),
uO 25 (.pick 21 cT 24),
mV 16 25] [0,3,16])
(.cond 16 (.seq (rg [mV 4 (cI 1)] [4])
.ret)
(.seq (rg [mV 27 0,
lD 28 (some 4) 3,
cL 29 f_q02l [27,28],
uO 30 (.un .not 29),
mV 26 30] [26])
(.cond 26 (.seq (rg [mV 4 (cI 3)] [4])
.ret)
.skip)))))))
(.seq (rg [mV 4 (cI 0)] [4])
.ret)))
def a_q02x : AFun:=⟨2,[.t 4],P_q02x,false,false⟩
def d_q02x (C : Hd) (gl : GL) (v0 v1 : AV) (h : Heap) (x : Esc) (K : KT) : Prop:=
 wK (oBox v1 h) fun t1 h2 y3=>
 pK (oFaddr 0 none t1) fun t4=>
 pK (oLoad none t4 h2) fun t5=>
 C f_q006 [t5] h2 fun t6 h7 y8=>
 pK (oUn .not t6) fun t9=>
 gP t9 false (oFaddr 2 none t1) h7 fun t10 h11 y12=>
 gP t9 false (oLoad none t10 h11) h11 fun t13 h14 y15=>
 gV t9 false h14 (C f_q006 [t13] h14) fun t16 h17 y18=>
 gP t9 false (oUn .not t16) h17 fun t19 h20 y21=>
 pK (oPick t9 (AB true) t19) fun t22=>
 condB t22 (K .ret ⟨[(4,(AI 5))],h20,(y21 ++ (y18 ++ (y15 ++ (y12 ++ (y8 ++ (y3 ++ x))))))⟩)
 (pK (oFaddr 1 none t1) fun t23=>
 pK (oLoad none t23 h20) fun t24=>
 C f_q007 [t24] h20 fun t25 h26 y27=>
 pK (oUn .not t25) fun t28=>
 gP t28 false (oFaddr 3 none t1) h26 fun t29 h30 y31=>
 gP t28 false (oLoad none t29 h30) h30 fun t32 h33 y34=>
 gV t28 false h33 (C f_q057 [t32,(.fn f_q02y [])] h33) fun t35 h36 y37=>
 pK (oPick t28 (AB true) t35) fun t38=>
 condB t38 (K .ret ⟨[(4,(AI 1))],h36,(y37 ++ (y34 ++ (y31 ++ (y27 ++ (y21 ++ (y18 ++ (y15 ++ (y12 ++ (y8 ++ (y3 ++ x))))))))))⟩)
 (pK (oLoad (some 4) t1 h36) fun t39=>
 C f_q02l [v0,t39] h36 fun t40 h41 y42=>
 pK (oUn .not t40) fun t43=>
 condB t43 (K .ret ⟨[(4,(AI 3))],h41,(y42 ++ (y37 ++ (y34 ++ (y31 ++ (y27 ++ (y21 ++ (y18 ++ (y15 ++ (y12 ++ (y8 ++ (y3 ++ x)))))))))))⟩)
 (K .ret ⟨[(4,(AI 0))],h41,(y42 ++ (y37 ++ (y34 ++ (y31 ++ (y27 ++ (y21 ++ (y18 ++ (y15 ++ (y12 ++ (y8 ++ (y3 ++ x)))))))))))⟩)))
theorem e_q02x {C gl v0 v1 h x K} : NW C gl a_q02x.body ⟨enter [v0,v1],h,x⟩ K = d_q02x C gl v0 v1 h x K:=by kernel_rfl
def P_q02i : ACode:=(.seq (rg [uO 2 (.box 0),
uO 3 (.box 1),
mV 4 (cI 0)] [2,3])
(.seq (dr [dF (fA 5 1 none 2) [2],
dF (lD 6 none 5) [5],
dF (fA 7 1 none 3) [3],
dF (lD 8 none 7) [7],
dT (cL 9 f_q00s [6,8]) [6,8],
dF (fA 10 0 none 2) [2],
dA (lD 11 none 10) [10] false [4] [],
dF (fA 12 0 none 3) [3],
dA (lD 13 none 12) [12] false [4] [],
dT (cL 14 f_q07x [11,13]) [11,13],
dF (uO 15 (.bsl false none 2 (.int .i64 0) [(0,9),(1,14)])) [9,14],
dT (cL 16 f_q00v [15]) [15],
dF (mV 4 16) [16]] [4])
.ret))
def a_q02i : AFun:=⟨2,[.t 4],P_q02i,false,false⟩
def d_q02i (C : Hd) (gl : GL) (v0 v1 : AV) (h : Heap) (x : Esc) (K : KT) : Prop:=
 wK (oBox v0 h) fun t1 h2 y3=>
 wK (oBox v1 h2) fun t4 h5 y6=>
 pK (oFaddr 1 none t1) fun t7=>
 pK (oLoad none t7 h5) fun t8=>
 pK (oFaddr 1 none t4) fun t9=>
 pK (oLoad none t9 h5) fun t10=>
 callE C f_q00s [t8,t10] h5 fun t11 h12 y13=>
 pK (oFaddr 0 none t1) fun t14=>
 pK (oLoad none t14 h12) fun t15=>
 (pK (oLoad none t14 h5) fun v=>(fun u (g1 : Heap) (y1 : Esc)=>u = t15 ∧ g1 = h5 ∧ y1 = []) v h5 []) ∧ (pK (oFaddr 0 none t4) fun t16=>
 pK (oLoad none t16 h12) fun t17=>
 (pK (oLoad none t16 h5) fun v=>(fun u (g1 : Heap) (y1 : Esc)=>u = t17 ∧ g1 = h5 ∧ y1 = []) v h5 []) ∧ (callE C f_q07x [t15,t17] h12 fun t18 h19 y20=>
 wK (oBsl false none 2 (.int .i64 0) [(0,t11),(1,t18)] h19) fun t21 h22 y23=>
 (h22 = h19 ∧ y23 = []) ∧ (callE C f_q00v [t21] h22 fun t24 h25 y26=>
 K .ret ⟨[(4,t24)],h25,(y26 ++ (y23 ++ (y20 ++ (y13 ++ (y6 ++ (y3 ++ x))))))⟩)))
theorem e_q02i {C gl v0 v1 h x K} : NW C gl a_q02i.body ⟨enter [v0,v1],h,x⟩ K = d_q02i C gl v0 v1 h x K:=by kernel_rfl
def p_q04t_k1 : ACode:=.pr [0,1,7,8] (.seq (rg [bN 9 .lss 8 7] [0,1,7,8,9])
(.seq (.cond 9 .skip
(.exit 0))
(.seq (.block 1 (.seq (rg [mV 10 8,
mV 5 10] [0,1,5,7,8])
(.seq (rg [mV 11 1,
mV 12 0,
mV 13 5,
uO 14 (.idxs 12 13),
cL 15 f_q080 [11,14],
bN 16 .lss 15 (cI 0)] [0,1,7,8,16])
(.cond 16 (.seq (rg [mV 4 cF] [4])
.ret)
.skip))))
(rg [bN 17 .add 8 (cI 1),
mV 8 17] [0,1,7,8]))))
def d_q04t_k1 (C : Hd) (gl : GL) (v0 v1 v7 v8 : AV) (h : Heap) (x : Esc) (K : KT) : Prop:=
 pK (oBin .lss v8 v7) fun t1=>
 condB t1 (pK (oIdxs v0 v8) fun t2=>
 C f_q080 [v1,t2] h fun t3 h4 y5=>
 pK (oBin .lss t3 (AI 0)) fun t6=>
 condB t6 (K .ret ⟨[(4,(AB false))],h4,(y5 ++ x)⟩)
 (pK (oBin .add v8 (AI 1)) fun t7=>
 K .normal ⟨[(0,v0),(1,v1),(7,v7),(8,t7)],h4,(y5 ++ x)⟩))
 (K (.exit 0) ⟨[(0,v0),(1,v1),(7,v7),(8,v8),(9,t1)],h,x⟩)
theorem e_q04t_k1 {C gl e h x K} : NW C gl p_q04t_k1 ⟨e,h,x⟩ K = d_q04t_k1 C gl (aget e 0) (aget e 1) (aget e 7) (aget e 8) h x K:=by kernel_rfl
theorem l_q04t_k1 {C gl e h x K} : NW C gl (.loop p_q04t_k1) ⟨e,h,x⟩ K = NLoop C gl p_q04t_k1 K [(0,aget e 0),(1,aget e 1),(7,aget e 7),(8,aget e 8)] h x:=NLoop_pr
def p_q04t_k2 : ACode:=.pr [] (.seq (rg [mV 4 cT] [4])
.ret)
def d_q04t_k2 (C : Hd) (gl : GL) (h : Heap) (x : Esc) (K : KT) : Prop:=
 K .ret ⟨[(4,(AB true))],h,x⟩
theorem e_q04t_k2 {C gl e h x K} : NW C gl p_q04t_k2 ⟨e,h,x⟩ K = d_q04t_k2 C gl h x K:=by kernel_rfl
def P_q04t (q1 q2 : ACode) : ACode:=(.seq (rg [mV 4 cF] [0,1])
(.seq (.seq (rg [mV 6 0,
uO 7 (.lens 6),
mV 8 (cI 0)] [0,1,7,8])
(.block 0 (.loop q1)))
q2))
def a_q04t : AFun:=⟨2,[.t 4],P_q04t p_q04t_k1 p_q04t_k2,false,false⟩
def d_q04t (C : Hd) (gl : GL) (q1 q2 : ACode) (v0 v1 : AV) (h : Heap) (x : Esc) (K : KT) : Prop:=
 pK (oLens v0) fun t1=>
 NW C gl (.loop q1) ⟨[(0,v0),(1,v1),(7,t1),(8,(AI 0))],h,x⟩ (blockN 0 (seqN C gl q2 K))
theorem E_q04t {C gl q1 q2 v0 v1 h x K} : NW C gl (P_q04t q1 q2) ⟨enter [v0,v1],h,x⟩ K = d_q04t C gl q1 q2 v0 v1 h x K:=by kernel_rfl
theorem e_q04t {C gl v0 v1 h x K} : NW C gl a_q04t.body ⟨enter [v0,v1],h,x⟩ K = d_q04t C gl p_q04t_k1 p_q04t_k2 v0 v1 h x K:=E_q04t
def p_q05j_k1 : ACode:=.pr [0,1,7,8] (.seq (rg [bN 9 .lss 8 7] [0,1,7,8,9])
(.seq (.cond 9 .skip
(.exit 0))
(.seq (.block 1 (.seq (rg [mV 10 8,
mV 5 10] [0,1,5,7,8])
(.seq (rg [mV 11 1,
mV 12 0,
mV 13 5,
iA 14 (some 4) 12 13,
lD 15 (some 4) 14,
uO 16 (.callv 11 [15])] [0,1,5,7,8,16])
(.cond 16 (.seq (rg [mV 17 5,
mV 4 17] [4])
.ret)
.skip))))
(rg [bN 18 .add 8 (cI 1),
mV 8 18] [0,1,7,8]))))
def d_q05j_k1 (C : Hd) (gl : GL) (v0 v1 v7 v8 : AV) (h : Heap) (x : Esc) (K : KT) : Prop:=
 pK (oBin .lss v8 v7) fun t1=>
 condB t1 (pK (oIaddr (some 4) v0 v8 h) fun t2=>
 pK (oLoad (some 4) t2 h) fun t3=>
 callvK C v1 [t3] h fun t4 h5 y6=>
 condB t4 (K .ret ⟨[(4,v8)],h5,(y6 ++ x)⟩)
 (pK (oBin .add v8 (AI 1)) fun t7=>
 K .normal ⟨[(0,v0),(1,v1),(7,v7),(8,t7)],h5,(y6 ++ x)⟩))
 (K (.exit 0) ⟨[(0,v0),(1,v1),(7,v7),(8,v8),(9,t1)],h,x⟩)
theorem e_q05j_k1 {C gl e h x K} : NW C gl p_q05j_k1 ⟨e,h,x⟩ K = d_q05j_k1 C gl (aget e 0) (aget e 1) (aget e 7) (aget e 8) h x K:=by kernel_rfl
theorem l_q05j_k1 {C gl e h x K} : NW C gl (.loop p_q05j_k1) ⟨e,h,x⟩ K = NLoop C gl p_q05j_k1 K [(0,aget e 0),(1,aget e 1),(7,aget e 7),(8,aget e 8)] h x:=NLoop_pr
def p_q05j_k2 : ACode:=.pr [] (.seq (rg [mV 4 (cI (-1))] [4])
.ret)
def d_q05j_k2 (C : Hd) (gl : GL) (h : Heap) (x : Esc) (K : KT) : Prop:=
 K .ret ⟨[(4,(AI (-1)))],h,x⟩
theorem e_q05j_k2 {C gl e h x K} : NW C gl p_q05j_k2 ⟨e,h,x⟩ K = d_q05j_k2 C gl h x K:=by kernel_rfl
def P_q05j (q1 q2 : ACode) : ACode:=(.seq (rg [mV 4 (cI 0)] [0,1])
(.seq (.seq (rg [mV 6 0,
lN 7 6,
mV 8 (cI 0)] [0,1,7,8])
(.block 0 (.loop q1)))
q2))
def a_q05j : AFun:=⟨2,[.t 4],P_q05j p_q05j_k1 p_q05j_k2,true,false⟩
def d_q05j (C : Hd) (gl : GL) (q1 q2 : ACode) (v0 v1 : AV) (h : Heap) (x : Esc) (K : KT) : Prop:=
 pK (oLen v0) fun t1=>
 NW C gl (.loop q1) ⟨[(0,v0),(1,v1),(7,t1),(8,(AI 0))],h,x⟩ (blockN 0 (seqN C gl q2 K))
theorem E_q05j {C gl q1 q2 v0 v1 h x K} : NW C gl (P_q05j q1 q2) ⟨enter [v0,v1],h,x⟩ K = d_q05j C gl q1 q2 v0 v1 h x K:=by kernel_rfl
theorem e_q05j {C gl v0 v1 h x K} : NW C gl a_q05j.body ⟨enter [v0,v1],h,x⟩ K = d_q05j C gl p_q05j_k1 p_q05j_k2 v0 v1 h x K:=E_q05j
def P_q04k : ACode:=(.seq (rg [uO 2 (.box 0),
mV 3 cF] [1,2])
(.seq (rg [fA 4 0 none 2,
lD 5 none 4,
lD 6 none 1,
bN 7 .eql 5 6,
mV 3 7] [3])
.ret))
def a_q04k : AFun:=⟨2,[.t 3],P_q04k,false,false⟩
def d_q04k (C : Hd) (gl : GL) (v0 v1 : AV) (h : Heap) (x : Esc) (K : KT) : Prop:=
 wK (oBox v0 h) fun t1 h2 y3=>
 pK (oFaddr 0 none t1) fun t4=>
 pK (oLoad none t4 h2) fun t5=>
 pK (oLoad none v1 h2) fun t6=>
 pK (oBin .eql t5 t6) fun t7=>
 K .ret ⟨[(3,t7)],h2,(y3 ++ x)⟩
theorem e_q04k {C gl v0 v1 h x K} : NW C gl a_q04k.body ⟨enter [v0,v1],h,x⟩ K = d_q04k C gl v0 v1 h x K:=by kernel_rfl
def p_q05l_k1 : ACode:=.pr [0,1,7,8] (.seq (rg [bN 9 .lss 8 7] [0,1,7,8,9])
(.seq (.cond 9 .skip
(.exit 0))
(.seq (.block 1 (.seq (rg [mV 10 8,
mV 5 10] [0,1,5,7,8])
(.seq (rg [mV 11 1,
mV 12 0,
mV 13 5,
iA 14 none 12 13,
lD 15 none 14,
uO 16 (.callv 11 [15])] [0,1,5,7,8,16])
(.cond 16 (.seq (rg [mV 17 5,
mV 4 17] [4])
.ret)
.skip))))
(rg [bN 18 .add 8 (cI 1),
mV 8 18] [0,1,7,8]))))
def d_q05l_k1 (C : Hd) (gl : GL) (v0 v1 v7 v8 : AV) (h : Heap) (x : Esc) (K : KT) : Prop:=
 pK (oBin .lss v8 v7) fun t1=>
 condB t1 (pK (oIaddr none v0 v8 h) fun t2=>
 pK (oLoad none t2 h) fun t3=>
 callvK C v1 [t3] h fun t4 h5 y6=>
 condB t4 (K .ret ⟨[(4,v8)],h5,(y6 ++ x)⟩)
 (pK (oBin .add v8 (AI 1)) fun t7=>
 K .normal ⟨[(0,v0),(1,v1),(7,v7),(8,t7)],h5,(y6 ++ x)⟩))
 (K (.exit 0) ⟨[(0,v0),(1,v1),(7,v7),(8,v8),(9,t1)],h,x⟩)
theorem e_q05l_k1 {C gl e h x K} : NW C gl p_q05l_k1 ⟨e,h,x⟩ K = d_q05l_k1 C gl (aget e 0) (aget e 1) (aget e 7) (aget e 8) h x K:=by kernel_rfl
theorem l_q05l_k1 {C gl e h x K} : NW C gl (.loop p_q05l_k1) ⟨e,h,x⟩ K = NLoop C gl p_q05l_k1 K [(0,aget e 0),(1,aget e 1),(7,aget e 7),(8,aget e 8)] h x:=NLoop_pr
def p_q05l_k2 : ACode:=.pr [] (.seq (rg [mV 4 (cI (-1))] [4])
.ret)
def d_q05l_k2 (C : Hd) (gl : GL) (h : Heap) (x : Esc) (K : KT) : Prop:=
 K .ret ⟨[(4,(AI (-1)))],h,x⟩
theorem e_q05l_k2 {C gl e h x K} : NW C gl p_q05l_k2 ⟨e,h,x⟩ K = d_q05l_k2 C gl h x K:=by kernel_rfl
def P_q05l (q1 q2 : ACode) : ACode:=(.seq (rg [mV 4 (cI 0)] [0,1])
(.seq (.seq (rg [mV 6 0,
lN 7 6,
mV 8 (cI 0)] [0,1,7,8])
(.block 0 (.loop q1)))
q2))
def a_q05l : AFun:=⟨2,[.t 4],P_q05l p_q05l_k1 p_q05l_k2,true,false⟩
def d_q05l (C : Hd) (gl : GL) (q1 q2 : ACode) (v0 v1 : AV) (h : Heap) (x : Esc) (K : KT) : Prop:=
 pK (oLen v0) fun t1=>
 NW C gl (.loop q1) ⟨[(0,v0),(1,v1),(7,t1),(8,(AI 0))],h,x⟩ (blockN 0 (seqN C gl q2 K))
theorem E_q05l {C gl q1 q2 v0 v1 h x K} : NW C gl (P_q05l q1 q2) ⟨enter [v0,v1],h,x⟩ K = d_q05l C gl q1 q2 v0 v1 h x K:=by kernel_rfl
theorem e_q05l {C gl v0 v1 h x K} : NW C gl a_q05l.body ⟨enter [v0,v1],h,x⟩ K = d_q05l C gl p_q05l_k1 p_q05l_k2 v0 v1 h x K:=E_q05l
end Go.Am
end
section
/- The functions asv abstract code,and asv formulas over their values: printed by program out of the translation. -/
set_option linter.unusedVariables false
set_option maxRecDepth 100000
namespace Go.Am
def p_q06u_k1 : ACode:=.pr [0,1,2,3,8,9,10,11] (.seq (.seq (dr [dF (mV 73 1) [1],
dF (bN 74 .gtr 73 (cI 0)) [73],
dF (mV 75 74) [74],
dF (gD 76 75 true (.mv 0)) [0,75],
dF (gD 77 75 true (.mv 1)) [1,75],
dF (gD 78 75 true (.bin .sub 77 (cI 1))) [77,75],
dF (gD 79 75 true (.iaddr none 76 78)) [76,78,75],
dF (gD 80 75 true (.load none 79)) [79,75],
dF (gD 81 75 true (.mv 0)) [0,75],
dF (gD 82 75 true (.mv 11)) [11,75],
dF (gD 83 75 true (.iaddr none 81 82)) [81,82,75],
dF (gD 84 75 true (.load none 83)) [83,75],
dT (gD 85 75 true (.call f_q00u [80,84])) [80,84,75],
dF (gD 86 75 true (.un .not 85)) [85,75],
dF (uO 87 (.pick 75 86 cF)) [75,86]] [0,1,2,3,8,9,10,11,87])
(.cond 87 (.seq (rg [mV 88 0,
mV 89 1,
mV 90 2,
mV 91 11,
cL 92 f_q06p [88,89,90,91],
mV 13 92] [0,2,3,8,9,13])
(.seq (rg [mV 93 13,
mV 1 93] [0,1,2,3,8,9])
(.exit 1)))
.skip))
(.seq (rg [mV 95 0,
mV 96 1,
mV 97 2,
mV 98 11,
cL 99 f_q06r [95,96,97,98],
mV 94 99,
eX 100 94 0,
eX 101 94 1,
mV 14 100,
mV 15 101] [0,1,2,3,10,14,15])
(.seq (rg [mV 102 15,
mV 9 102] [0,1,2,3,9,10,14])
(.seq (rg [mV 103 14,
mV 104 1,
bN 105 .sub 103 104,
mV 106 2,
mV 107 14,
bN 108 .sub 106 107,
mV 16 105,
mV 17 108] [0,1,2,3,9,10,14,16,17])
(.seq (rg [mV 109 10,
bN 110 .quo 109 (cI 8),
mV 18 110] [0,1,2,3,9,14,16,17,18])
(.seq (rg [mV 111 16,
mV 112 17,
bN 113 .lss 111 112] [0,1,2,3,9,14,16,17,18,113])
(.cond 113 (.seq (rg [mV 114 16,
mV 115 18,
bN 116 .geq 114 115,
mV 8 116] [0,1,2,3,8,9,14])
(.seq (rg [mV 117 0,
mV 118 1,
mV 119 14,
mV 120 3,
cL 121 f_q06u [117,118,119,120]] [0,2,3,8,9,14])
(rg [mV 122 14,
bN 123 .add 122 (cI 1),
mV 1 123] [0,1,2,3,8,9])))
(.seq (rg [mV 124 17,
mV 125 18,
bN 126 .geq 124 125,
mV 8 126] [0,1,2,3,8,9,14])
(.seq (rg [mV 127 0,
mV 128 14,
bN 129 .add 128 (cI 1),
mV 130 2,
mV 131 3,
cL 132 f_q06u [127,129,130,131]] [0,1,3,8,9,14])
(rg [mV 133 14,
mV 2 133] [0,1,2,3,8,9]))))))))))
def d_q06u_k1 (C : Hd) (gl : GL) (v0 v1 v2 v3 v8 v9 v10 v11 : AV) (h : Heap) (x : Esc) (K : KT) : Prop:=
 pK (oBin .gtr v1 (AI 0)) fun t1=>
 gM t1 true v0 h fun t2 h3 y4=>
 gM t1 true v1 h3 fun t5 h6 y7=>
 gP t1 true (oBin .sub t5 (AI 1)) h6 fun t8 h9 y10=>
 gP t1 true (oIaddr none t2 t8 h9) h9 fun t11 h12 y13=>
 gP t1 true (oLoad none t11 h12) h12 fun t14 h15 y16=>
 gM t1 true v0 h15 fun t17 h18 y19=>
 gM t1 true v11 h18 fun t20 h21 y22=>
 gP t1 true (oIaddr none t17 t20 h21) h21 fun t23 h24 y25=>
 gP t1 true (oLoad none t23 h24) h24 fun t26 h27 y28=>
 gV t1 true h27 (callE C f_q00u [t14,t26] h27) fun t29 h30 y31=>
 gP t1 true (oUn .not t29) h30 fun t32 h33 y34=>
 pK (oPick t1 t32 (AB false)) fun t35=>
 condB t35 (C f_q06p [v0,v1,v2,v11] h33 fun t36 h37 y38=>
 K (.exit 1) ⟨[(0,v0),(1,t36),(2,v2),(3,v3),(8,v8),(9,v9)],h37,(y38 ++ (y34 ++ (y31 ++ (y28 ++ (y25 ++ (y22 ++ (y19 ++ (y16 ++ (y13 ++ (y10 ++ (y7 ++ (y4 ++ x))))))))))))⟩)
 (C f_q06r [v0,v1,v2,v11] h33 fun t39 h40 y41=>
 pK (oExt t39 0) fun t42=>
 pK (oExt t39 1) fun t43=>
 pK (oBin .sub t42 v1) fun t44=>
 pK (oBin .sub v2 t42) fun t45=>
 pK (oBin .quo v10 (AI 8)) fun t46=>
 pK (oBin .lss t44 t45) fun t47=>
 condB t47 (pK (oBin .geq t44 t46) fun t48=>
 C f_q06u [v0,v1,t42,v3] h40 fun t49 h50 y51=>
 pK (oBin .add t42 (AI 1)) fun t52=>
 K .normal ⟨[(0,v0),(1,t52),(2,v2),(3,v3),(8,t48),(9,t43)],h50,(y51 ++ (y41 ++ (y34 ++ (y31 ++ (y28 ++ (y25 ++ (y22 ++ (y19 ++ (y16 ++ (y13 ++ (y10 ++ (y7 ++ (y4 ++ x)))))))))))))⟩)
 (pK (oBin .geq t45 t46) fun t53=>
 pK (oBin .add t42 (AI 1)) fun t54=>
 C f_q06u [v0,t54,v2,v3] h40 fun t55 h56 y57=>
 K .normal ⟨[(0,v0),(1,v1),(2,t42),(3,v3),(8,t53),(9,t43)],h56,(y57 ++ (y41 ++ (y34 ++ (y31 ++ (y28 ++ (y25 ++ (y22 ++ (y19 ++ (y16 ++ (y13 ++ (y10 ++ (y7 ++ (y4 ++ x)))))))))))))⟩))
theorem e_q06u_k1 {C gl e h x K} : NW C gl p_q06u_k1 ⟨e,h,x⟩ K = d_q06u_k1 C gl (aget e 0) (aget e 1) (aget e 2) (aget e 3) (aget e 8) (aget e 9) (aget e 10) (aget e 11) h x K:=by kernel_rfl
def P_q06u_k2 (q1 : ACode) : ACode:=.pr [0,1,2,3,8,9,10,11,12] (.seq (.seq (rg [mV 61 8,
mV 62 61,
gD 63 62 true (.mv 9),
uO 64 (.pick 62 63 cF),
mV 65 64,
gD 66 65 true (.mv 12),
gD 67 65 true (.bin .eql 66 (cI 1)),
uO 68 (.pick 65 67 cF)] [0,1,2,3,8,9,10,11,68])
(.cond 68 (.seq (rg [mV 69 0,
mV 70 1,
mV 71 2,
cL 72 f_q06l [69,70,71]] [0,1,2,3,8,9,10,11,72])
(.cond 72 .ret
.skip))
.skip))
q1)
def p_q06u_k2 : ACode:=P_q06u_k2 p_q06u_k1
def d_q06u_k2 (C : Hd) (gl : GL) (q1 : ACode) (v0 v1 v2 v3 v8 v9 v10 v11 v12 : AV) (h : Heap) (x : Esc) (K : KT) : Prop:=
 gM v8 true v9 h fun t1 h2 y3=>
 pK (oPick v8 t1 (AB false)) fun t4=>
 gM t4 true v12 h2 fun t5 h6 y7=>
 gP t4 true (oBin .eql t5 (AI 1)) h6 fun t8 h9 y10=>
 pK (oPick t4 t8 (AB false)) fun t11=>
 condB t11 (C f_q06l [v0,v1,v2] h9 fun t12 h13 y14=>
 condB t12 (K .ret ⟨[(0,v0),(1,v1),(2,v2),(3,v3),(8,v8),(9,v9),(10,v10),(11,v11),(72,t12)],h13,(y14 ++ (y10 ++ (y7 ++ (y3 ++ x))))⟩)
 (NW C gl q1 ⟨[(0,v0),(1,v1),(2,v2),(3,v3),(8,v8),(9,v9),(10,v10),(11,v11),(72,t12)],h13,(y14 ++ (y10 ++ (y7 ++ (y3 ++ x))))⟩ K))
 (NW C gl q1 ⟨[(0,v0),(1,v1),(2,v2),(3,v3),(8,v8),(9,v9),(10,v10),(11,v11),(68,t11)],h9,(y10 ++ (y7 ++ (y3 ++ x)))⟩ K)
theorem E_q06u_k2 {C gl q1 e h x K} : NW C gl (P_q06u_k2 q1) ⟨e,h,x⟩ K = d_q06u_k2 C gl q1 (aget e 0) (aget e 1) (aget e 2) (aget e 3) (aget e 8) (aget e 9) (aget e 10) (aget e 11) (aget e 12) h x K:=by kernel_rfl
theorem e_q06u_k2 {C gl e h x K} : NW C gl p_q06u_k2 ⟨e,h,x⟩ K = d_q06u_k2 C gl p_q06u_k1 (aget e 0) (aget e 1) (aget e 2) (aget e 3) (aget e 8) (aget e 9) (aget e 10) (aget e 11) (aget e 12) h x K:=E_q06u_k2
def P_q06u_k3 (q2 : ACode) : ACode:=.pr [0,1,2,3,8,9,10] (.seq (rg [mV 43 0,
mV 44 1,
mV 45 2,
cL 46 f_q061 [43,44,45],
mV 42 46,
eX 47 42 0,
eX 48 42 1,
mV 11 47,
mV 12 48] [0,1,2,3,8,9,10,11,12])
(.seq (.seq (rg [mV 49 12,
bN 50 .eql 49 (cI 2)] [0,1,2,3,8,9,10,11,12,50])
(.cond 50 (.seq (rg [mV 51 0,
mV 52 1,
mV 53 2,
cL 54 f_q06x [51,52,53]] [0,1,2,3,8,9,10,11])
(.seq (rg [mV 55 2,
bN 56 .sub 55 (cI 1),
mV 57 11,
mV 58 1,
bN 59 .sub 57 58,
bN 60 .sub 56 59,
mV 11 60] [0,1,2,3,8,9,10,11])
(rg [mV 12 (cI 1)] [0,1,2,3,8,9,10,11,12])))
.skip))
q2))
def p_q06u_k3 : ACode:=P_q06u_k3 p_q06u_k2
def d_q06u_k3 (C : Hd) (gl : GL) (q2 : ACode) (v0 v1 v2 v3 v8 v9 v10 : AV) (h : Heap) (x : Esc) (K : KT) : Prop:=
 C f_q061 [v0,v1,v2] h fun t1 h2 y3=>
 pK (oExt t1 0) fun t4=>
 pK (oExt t1 1) fun t5=>
 pK (oBin .eql t5 (AI 2)) fun t6=>
 condB t6 (C f_q06x [v0,v1,v2] h2 fun t7 h8 y9=>
 pK (oBin .sub v2 (AI 1)) fun t10=>
 pK (oBin .sub t4 v1) fun t11=>
 pK (oBin .sub t10 t11) fun t12=>
 NW C gl q2 ⟨[(0,v0),(1,v1),(2,v2),(3,v3),(8,v8),(9,v9),(10,v10),(11,t12),(12,(AI 1))],h8,(y9 ++ (y3 ++ x))⟩ K)
 (NW C gl q2 ⟨[(0,v0),(1,v1),(2,v2),(3,v3),(8,v8),(9,v9),(10,v10),(11,t4),(12,t5),(50,t6)],h2,(y3 ++ x)⟩ K)
theorem E_q06u_k3 {C gl q2 e h x K} : NW C gl (P_q06u_k3 q2) ⟨e,h,x⟩ K = d_q06u_k3 C gl q2 (aget e 0) (aget e 1) (aget e 2) (aget e 3) (aget e 8) (aget e 9) (aget e 10) h x K:=by kernel_rfl
theorem e_q06u_k3 {C gl e h x K} : NW C gl p_q06u_k3 ⟨e,h,x⟩ K = d_q06u_k3 C gl p_q06u_k2 (aget e 0) (aget e 1) (aget e 2) (aget e 3) (aget e 8) (aget e 9) (aget e 10) h x K:=E_q06u_k3
def P_q06u_k4 (q3 : ACode) : ACode:=.pr [0,1,2,3,8,9] (.block 1 (.seq (rg [mV 19 2,
mV 20 1,
bN 21 .sub 19 20,
mV 10 21] [0,1,2,3,8,9,10])
(.seq (.seq (rg [mV 22 10,
bN 23 .leq 22 (cI 12)] [0,1,2,3,8,9,10,23])
(.cond 23 (.seq (rg [mV 24 0,
mV 25 1,
mV 26 2,
cL 27 f_q068 [24,25,26]] [])
.ret)
.skip))
(.seq (.seq (rg [mV 28 3,
bN 29 .eql 28 (cI 0)] [0,1,2,3,8,9,10,29])
(.cond 29 (.seq (rg [mV 30 0,
mV 31 1,
mV 32 2,
cL 33 f_q064 [30,31,32]] [])
.ret)
.skip))
(.seq (.seq (rg [mV 34 8,
uO 35 (.un .not 34)] [0,1,2,3,8,9,10,35])
(.cond 35 (.seq (rg [mV 36 0,
mV 37 1,
mV 38 2,
cL 39 f_q05y [36,37,38]] [0,1,2,3,8,9,10])
(rg [mV 40 3,
bN 41 .sub 40 (cI 1),
mV 3 41] [0,1,2,3,8,9,10]))
.skip))
q3)))))
def p_q06u_k4 : ACode:=P_q06u_k4 p_q06u_k3
def d_q06u_k4 (C : Hd) (gl : GL) (q3 : ACode) (v0 v1 v2 v3 v8 v9 : AV) (h : Heap) (x : Esc) (K : KT) : Prop:=
 pK (oBin .sub v2 v1) fun t1=>
 pK (oBin .leq t1 (AI 12)) fun t2=>
 condB t2 (C f_q068 [v0,v1,v2] h fun t3 h4 y5=>
 K .ret ⟨[],h4,(y5 ++ x)⟩)
 (pK (oBin .eql v3 (AI 0)) fun t6=>
 condB t6 (C f_q064 [v0,v1,v2] h fun t7 h8 y9=>
 K .ret ⟨[],h8,(y9 ++ x)⟩)
 (pK (oUn .not v8) fun t10=>
 condB t10 (C f_q05y [v0,v1,v2] h fun t11 h12 y13=>
 pK (oBin .sub v3 (AI 1)) fun t14=>
 NW C gl q3 ⟨[(0,v0),(1,v1),(2,v2),(3,t14),(8,v8),(9,v9),(10,t1)],h12,(y13 ++ x)⟩ (blockN 1 K))
 (NW C gl q3 ⟨[(0,v0),(1,v1),(2,v2),(3,v3),(8,v8),(9,v9),(10,t1),(35,t10)],h,x⟩ (blockN 1 K))))
theorem E_q06u_k4 {C gl q3 e h x K} : NW C gl (P_q06u_k4 q3) ⟨e,h,x⟩ K = d_q06u_k4 C gl q3 (aget e 0) (aget e 1) (aget e 2) (aget e 3) (aget e 8) (aget e 9) h x K:=by kernel_rfl
theorem e_q06u_k4 {C gl e h x K} : NW C gl p_q06u_k4 ⟨e,h,x⟩ K = d_q06u_k4 C gl p_q06u_k3 (aget e 0) (aget e 1) (aget e 2) (aget e 3) (aget e 8) (aget e 9) h x K:=E_q06u_k4
theorem l_q06u_k4 {C gl e h x K} : NW C gl (.loop p_q06u_k4) ⟨e,h,x⟩ K = NLoop C gl p_q06u_k4 K [(0,aget e 0),(1,aget e 1),(2,aget e 2),(3,aget e 3),(8,aget e 8),(9,aget e 9)] h x:=NLoop_pr
def P_q06u (q4 : ACode) : ACode:=(.seq (rg [mV 8 cT] [0,1,2,3,8])
(.seq (rg [mV 9 cT] [0,1,2,3,8,9])
(.block 0 (.loop q4))))
def a_q06u : AFun:=⟨4,[],P_q06u p_q06u_k4,true,false⟩
def d_q06u (C : Hd) (gl : GL) (q4 : ACode) (v0 v1 v2 v3 : AV) (h : Heap) (x : Esc) (K : KT) : Prop:=
 NW C gl (.loop q4) ⟨[(0,v0),(1,v1),(2,v2),(3,v3),(8,(AB true)),(9,(AB true))],h,x⟩ (blockN 0 K)
theorem E_q06u {C gl q4 v0 v1 v2 v3 h x K} : NW C gl (P_q06u q4) ⟨enter [v0,v1,v2,v3],h,x⟩ K = d_q06u C gl q4 v0 v1 v2 v3 h x K:=by kernel_rfl
theorem e_q06u {C gl v0 v1 v2 v3 h x K} : NW C gl a_q06u.body ⟨enter [v0,v1,v2,v3],h,x⟩ K = d_q06u C gl p_q06u_k4 v0 v1 v2 v3 h x K:=E_q06u
def P_q036 : ACode:=(.seq (rg [mV 2 cF] [0])
(.seq (rg [mV 3 0,
cL 4 f_q02v [3],
uO 5 (.un .not 4),
mV 2 5] [2])
.ret))
def a_q036 : AFun:=⟨1,[.t 2],P_q036,false,false⟩
def d_q036 (C : Hd) (gl : GL) (v0 : AV) (h : Heap) (x : Esc) (K : KT) : Prop:=
 C f_q02v [v0] h fun t1 h2 y3=>
 pK (oUn .not t1) fun t4=>
 K .ret ⟨[(2,t4)],h2,(y3 ++ x)⟩
theorem e_q036 {C gl v0 h x K} : NW C gl a_q036.body ⟨enter [v0],h,x⟩ K = d_q036 C gl v0 h x K:=by kernel_rfl
def P_q02v : ACode:=(.seq (rg [mV 2 cF] [0])
(.seq (rg [mV 3 0,
cL 4 f_q008 [3,(cI (-100000)),(cI 100000)],
uO 5 (.un .not 4),
mV 2 5] [2])
.ret))
def a_q02v : AFun:=⟨1,[.t 2],P_q02v,false,false⟩
def d_q02v (C : Hd) (gl : GL) (v0 : AV) (h : Heap) (x : Esc) (K : KT) : Prop:=
 C f_q008 [v0,(AI (-100000)),(AI 100000)] h fun t1 h2 y3=>
 pK (oUn .not t1) fun t4=>
 K .ret ⟨[(2,t4)],h2,(y3 ++ x)⟩
theorem e_q02v {C gl v0 h x K} : NW C gl a_q02v.body ⟨enter [v0],h,x⟩ K = d_q02v C gl v0 h x K:=by kernel_rfl
def p_q03b_k1 : ACode:=.pr [0,2] (.seq (rg [mV 19 2,
mV 20 0,
uO 21 (.conv (.i .u8) 20),
uO 22 (.idxs (cS [0,1,2,2,3,3,3,3,4,4,4,4,4,4,4,4,5,5,5,5,5,5,5,5,5,5,5,5,5,5,5,5,6,6,6,6,6,6,6,6,6,6,6,6,6,6,6,6,6,6,6,6,6,6,6,6,6,6,6,6,6,6,6,6,7,7,7,7,7,7,7,7,7,7,7,7,7,7,7,7,7,7,7,7,7,7,7,7,7,7,7,7,7,7,7,7,7,7,7,7,7,7,7,7,7,7,7,7,7,7,7,7,7,7,7,7,7,7,7,7,7,7,7,7,7,7,7,7,8,8,8,8,8,8,8,8,8,8,8,8,8,8,8,8,8,8,8,8,8,8,8,8,8,8,8,8,8,8,8,8,8,8,8,8,8,8,8,8,8,8,8,8,8,8,8,8,8,8,8,8,8,8,8,8,8,8,8,8,8,8,8,8,8,8,8,8,8,8,8,8,8,8,8,8,8,8,8,8,8,8,8,8,8,8,8,8,8,8,8,8,8,8,8,8,8,8,8,8,8,8,8,8,8,8,8,8,8,8,8,8,8,8,8,8,8,8,8,8,8,8,8,8,8,8,8,8]) 21),
uO 23 (.conv (.i .i64) 22),
bN 24 .add 19 23,
mV 2 24] [2])
.ret)
def d_q03b_k1 (C : Hd) (gl : GL) (v0 v2 : AV) (h : Heap) (x : Esc) (K : KT) : Prop:=
 pK (oConvI .u8 v0) fun t1=>
 pK (oIdxs (.p (.str [0,1,2,2,3,3,3,3,4,4,4,4,4,4,4,4,5,5,5,5,5,5,5,5,5,5,5,5,5,5,5,5,6,6,6,6,6,6,6,6,6,6,6,6,6,6,6,6,6,6,6,6,6,6,6,6,6,6,6,6,6,6,6,6,7,7,7,7,7,7,7,7,7,7,7,7,7,7,7,7,7,7,7,7,7,7,7,7,7,7,7,7,7,7,7,7,7,7,7,7,7,7,7,7,7,7,7,7,7,7,7,7,7,7,7,7,7,7,7,7,7,7,7,7,7,7,7,7,8,8,8,8,8,8,8,8,8,8,8,8,8,8,8,8,8,8,8,8,8,8,8,8,8,8,8,8,8,8,8,8,8,8,8,8,8,8,8,8,8,8,8,8,8,8,8,8,8,8,8,8,8,8,8,8,8,8,8,8,8,8,8,8,8,8,8,8,8,8,8,8,8,8,8,8,8,8,8,8,8,8,8,8,8,8,8,8,8,8,8,8,8,8,8,8,8,8,8,8,8,8,8,8,8,8,8,8,8,8,8,8,8,8,8,8,8,8,8,8,8,8,8,8,8,8,8,8])) t1) fun t2=>
 pK (oConvI .i64 t2) fun t3=>
 pK (oBin .add v2 t3) fun t4=>
 K .ret ⟨[(2,t4)],h,x⟩
theorem e_q03b_k1 {C gl e h x K} : NW C gl p_q03b_k1 ⟨e,h,x⟩ K = d_q03b_k1 C gl (aget e 0) (aget e 2) h x K:=by kernel_rfl
def P_q03b_k2 (q1 : ACode) : ACode:=.pr [0,2] (.seq (.seq (rg [mV 13 0,
bN 14 .geq 13 (.c (.p (.int .u64 256)))] [0,2,14])
(.cond 14 (.seq (rg [mV 15 0,
bN 16 .shr 15 (.c (.p (.int .u64 8))),
mV 0 16] [0,2])
(rg [mV 17 2,
bN 18 .add 17 (cI 8),
mV 2 18] [0,2]))
.skip))
q1)
def p_q03b_k2 : ACode:=P_q03b_k2 p_q03b_k1
def d_q03b_k2 (C : Hd) (gl : GL) (q1 : ACode) (v0 v2 : AV) (h : Heap) (x : Esc) (K : KT) : Prop:=
 pK (oBin .geq v0 (.p (.int .u64 256))) fun t1=>
 condB t1 (pK (oBin .shr v0 (.p (.int .u64 8))) fun t2=>
 pK (oBin .add v2 (AI 8)) fun t3=>
 NW C gl q1 ⟨[(0,t2),(2,t3)],h,x⟩ K)
 (NW C gl q1 ⟨[(0,v0),(2,v2),(14,t1)],h,x⟩ K)
theorem E_q03b_k2 {C gl q1 e h x K} : NW C gl (P_q03b_k2 q1) ⟨e,h,x⟩ K = d_q03b_k2 C gl q1 (aget e 0) (aget e 2) h x K:=by kernel_rfl
theorem e_q03b_k2 {C gl e h x K} : NW C gl p_q03b_k2 ⟨e,h,x⟩ K = d_q03b_k2 C gl p_q03b_k1 (aget e 0) (aget e 2) h x K:=E_q03b_k2
def P_q03b_k3 (q2 : ACode) : ACode:=.pr [0,2] (.seq (.seq (rg [mV 7 0,
bN 8 .geq 7 (.c (.p (.int .u64 65536)))] [0,2,8])
(.cond 8 (.seq (rg [mV 9 0,
bN 10 .shr 9 (.c (.p (.int .u64 16))),
mV 0 10] [0,2])
(rg [mV 11 2,
bN 12 .add 11 (cI 16),
mV 2 12] [0,2]))
.skip))
q2)
def p_q03b_k3 : ACode:=P_q03b_k3 p_q03b_k2
def d_q03b_k3 (C : Hd) (gl : GL) (q2 : ACode) (v0 v2 : AV) (h : Heap) (x : Esc) (K : KT) : Prop:=
 pK (oBin .geq v0 (.p (.int .u64 65536))) fun t1=>
 condB t1 (pK (oBin .shr v0 (.p (.int .u64 16))) fun t2=>
 pK (oBin .add v2 (AI 16)) fun t3=>
 NW C gl q2 ⟨[(0,t2),(2,t3)],h,x⟩ K)
 (NW C gl q2 ⟨[(0,v0),(2,v2),(8,t1)],h,x⟩ K)
theorem E_q03b_k3 {C gl q2 e h x K} : NW C gl (P_q03b_k3 q2) ⟨e,h,x⟩ K = d_q03b_k3 C gl q2 (aget e 0) (aget e 2) h x K:=by kernel_rfl
theorem e_q03b_k3 {C gl e h x K} : NW C gl p_q03b_k3 ⟨e,h,x⟩ K = d_q03b_k3 C gl p_q03b_k2 (aget e 0) (aget e 2) h x K:=E_q03b_k3
def P_q03b (q3 : ACode) : ACode:=(.seq (rg [mV 2 (cI 0)] [0,2])
(.seq (.seq (rg [mV 3 0,
bN 4 .geq 3 (.c (.p (.int .u64 4294967296)))] [0,2,4])
(.cond 4 (.seq (rg [mV 5 0,
bN 6 .shr 5 (.c (.p (.int .u64 32))),
mV 0 6] [0])
(rg [mV 2 (cI 32)] [0,2]))
.skip))
q3))
def a_q03b : AFun:=⟨1,[.t 2],P_q03b p_q03b_k3,false,false⟩
def d_q03b (C : Hd) (gl : GL) (q3 : ACode) (v0 : AV) (h : Heap) (x : Esc) (K : KT) : Prop:=
 pK (oBin .geq v0 (.p (.int .u64 4294967296))) fun t1=>
 condB t1 (pK (oBin .shr v0 (.p (.int .u64 32))) fun t2=>
 NW C gl q3 ⟨[(0,t2),(2,(AI 32))],h,x⟩ K)
 (NW C gl q3 ⟨[(0,v0),(2,(AI 0)),(4,t1)],h,x⟩ K)
theorem E_q03b {C gl q3 v0 h x K} : NW C gl (P_q03b q3) ⟨enter [v0],h,x⟩ K = d_q03b C gl q3 v0 h x K:=by kernel_rfl
theorem e_q03b {C gl v0 h x K} : NW C gl a_q03b.body ⟨enter [v0],h,x⟩ K = d_q03b C gl p_q03b_k3 v0 h x K:=E_q03b
def P_q02s : ACode:=(.seq (rg [uO 2 (.box 0),
mV 3 cF] [1,2])
(.seq (rg [fA 4 0 none 2,
lD 5 none 4,
lD 6 none 1,
bN 7 .eql 5 6,
mV 3 7] [3])
.ret))
def a_q02s : AFun:=⟨2,[.t 3],P_q02s,false,false⟩
def d_q02s (C : Hd) (gl : GL) (v0 v1 : AV) (h : Heap) (x : Esc) (K : KT) : Prop:=
 wK (oBox v0 h) fun t1 h2 y3=>
 pK (oFaddr 0 none t1) fun t4=>
 pK (oLoad none t4 h2) fun t5=>
 pK (oLoad none v1 h2) fun t6=>
 pK (oBin .eql t5 t6) fun t7=>
 K .ret ⟨[(3,t7)],h2,(y3 ++ x)⟩
theorem e_q02s {C gl v0 v1 h x K} : NW C gl a_q02s.body ⟨enter [v0,v1],h,x⟩ K = d_q02s C gl v0 v1 h x K:=by kernel_rfl
def P_q007 : ACode:=(.seq (rg [mV 2 cF] [0])
(.seq (rg [mV 3 0,
cL 4 f_q008 [3,(cI 0),(cI 345686399999)],
uO 5 (.un .not 4),
mV 2 5] [2])
.ret))
def a_q007 : AFun:=⟨1,[.t 2],P_q007,false,false⟩
def d_q007 (C : Hd) (gl : GL) (v0 : AV) (h : Heap) (x : Esc) (K : KT) : Prop:=
 C f_q008 [v0,(AI 0),(AI 345686399999)] h fun t1 h2 y3=>
 pK (oUn .not t1) fun t4=>
 K .ret ⟨[(2,t4)],h2,(y3 ++ x)⟩
theorem e_q007 {C gl v0 h x K} : NW C gl a_q007.body ⟨enter [v0],h,x⟩ K = d_q007 C gl v0 h x K:=by kernel_rfl
def P_q02y : ACode:=(.seq (rg [mV 2 cF] [0])
(.seq (rg [mV 3 0,
cL 4 f_q02v [3],
uO 5 (.un .not 4),
mV 2 5] [2])
.ret))
def a_q02y : AFun:=⟨1,[.t 2],P_q02y,false,false⟩
def d_q02y (C : Hd) (gl : GL) (v0 : AV) (h : Heap) (x : Esc) (K : KT) : Prop:=
 C f_q02v [v0] h fun t1 h2 y3=>
 pK (oUn .not t1) fun t4=>
 K .ret ⟨[(2,t4)],h2,(y3 ++ x)⟩
theorem e_q02y {C gl v0 h x K} : NW C gl a_q02y.body ⟨enter [v0],h,x⟩ K = d_q02y C gl v0 h x K:=by kernel_rfl
def p_q02l_k1 : ACode:=.pr [0,3,5,23,24,25] (.seq (rg [bN 26 .lss 25 24] [0,3,5,23,24,25,26])
(.seq (.cond 26 .skip
(.exit 0))
(.seq (.block 1 (.seq (rg [mV 27 25,
iA 28 none 23 25,
lD 29 none 28,
mV 6 27,
mV 7 29] [0,3,5,6,7,23,24,25])
(.seq (rg [mV 30 0,
mV 31 6,
iA 32 (some 4) 30 31,
lD 33 (some 4) 32,
mV 34 7,
cL 35 f_q02t [33,34],
uO 36 (.un .not 35)] [0,3,5,23,24,25,36])
(.cond 36 (.seq (rg [mV 4 cF] [4])
.ret)
.skip))))
(rg [bN 37 .add 25 (cI 1),
mV 25 37] [0,3,5,23,24,25]))))
def d_q02l_k1 (C : Hd) (gl : GL) (v0 v3 v5 v23 v24 v25 : AV) (h : Heap) (x : Esc) (K : KT) : Prop:=
 pK (oBin .lss v25 v24) fun t1=>
 condB t1 (pK (oIaddr none v23 v25 h) fun t2=>
 pK (oLoad none t2 h) fun t3=>
 pK (oIaddr (some 4) v0 v25 h) fun t4=>
 pK (oLoad (some 4) t4 h) fun t5=>
 C f_q02t [t5,t3] h fun t6 h7 y8=>
 pK (oUn .not t6) fun t9=>
 condB t9 (K .ret ⟨[(4,(AB false))],h7,(y8 ++ x)⟩)
 (pK (oBin .add v25 (AI 1)) fun t10=>
 K .normal ⟨[(0,v0),(3,v3),(5,v5),(23,v23),(24,v24),(25,t10)],h7,(y8 ++ x)⟩))
 (K (.exit 0) ⟨[(0,v0),(3,v3),(5,v5),(23,v23),(24,v24),(25,v25),(26,t1)],h,x⟩)
theorem e_q02l_k1 {C gl e h x K} : NW C gl p_q02l_k1 ⟨e,h,x⟩ K = d_q02l_k1 C gl (aget e 0) (aget e 3) (aget e 5) (aget e 23) (aget e 24) (aget e 25) h x K:=by kernel_rfl
theorem l_q02l_k1 {C gl e h x K} : NW C gl (.loop p_q02l_k1) ⟨e,h,x⟩ K = NLoop C gl p_q02l_k1 K [(0,aget e 0),(3,aget e 3),(5,aget e 5),(23,aget e 23),(24,aget e 24),(25,aget e 25)] h x:=NLoop_pr
def p_q02l_k2 : ACode:=.pr [0,3,5] (.seq (rg [mV 38 5,
mV 39 0,
lN 40 39,
bN 41 .eql 38 40,
mV 42 41,
gD 43 42 false (.mv 0),
gD 44 42 false (.load (some 4) 3),
gD 45 42 false (.call f_q02o [43,44]),
gD 46 42 false (.bin .geq 45 (cI 0)),
uO 47 (.pick 42 cT 46),
mV 4 47] [4])
.ret)
def d_q02l_k2 (C : Hd) (gl : GL) (v0 v3 v5 : AV) (h : Heap) (x : Esc) (K : KT) : Prop:=
 pK (oLen v0) fun t1=>
 pK (oBin .eql v5 t1) fun t2=>
 gM t2 false v0 h fun t3 h4 y5=>
 gP t2 false (oLoad (some 4) v3 h4) h4 fun t6 h7 y8=>
 gV t2 false h7 (C f_q02o [t3,t6] h7) fun t9 h10 y11=>
 gP t2 false (oBin .geq t9 (AI 0)) h10 fun t12 h13 y14=>
 pK (oPick t2 (AB true) t12) fun t15=>
 K .ret ⟨[(4,t15)],h13,(y14 ++ (y11 ++ (y8 ++ (y5 ++ x))))⟩
theorem e_q02l_k2 {C gl e h x K} : NW C gl p_q02l_k2 ⟨e,h,x⟩ K = d_q02l_k2 C gl (aget e 0) (aget e 3) (aget e 5) h x K:=by kernel_rfl
def P_q02l (q1 q2 : ACode) : ACode:=(.seq (rg [uO 3 (.box 1),
mV 4 cF] [0,3])
(.seq (rg [fA 8 3 none 3,
lD 9 none 8,
lN 10 9,
mV 5 10] [0,3,5])
(.seq (.seq (rg [mV 11 5,
bN 12 .eql 11 (cI 0),
mV 13 12,
gD 14 13 false (.mv 5),
gD 15 13 false (.mv 0),
gD 16 13 false (.len 15),
gD 17 13 false (.bin .gtr 14 16),
uO 18 (.pick 13 cT 17)] [0,3,5,18])
(.cond 18 (.seq (rg [mV 4 cF] [4])
.ret)
.skip))
(.seq (.seq (rg [fA 19 3 none 3,
lD 20 none 19,
mV 21 5,
bN 22 .sub 21 (cI 1),
uO 23 (.slice none 20 none (some 22) none),
lN 24 23,
mV 25 (cI 0)] [0,3,5,23,24,25])
(.block 0 (.loop q1)))
q2))))
def a_q02l : AFun:=⟨2,[.t 4],P_q02l p_q02l_k1 p_q02l_k2,false,false⟩
def d_q02l (C : Hd) (gl : GL) (q1 q2 : ACode) (v0 v1 : AV) (h : Heap) (x : Esc) (K : KT) : Prop:=
 wK (oBox v1 h) fun t1 h2 y3=>
 pK (oFaddr 3 none t1) fun t4=>
 pK (oLoad none t4 h2) fun t5=>
 pK (oLen t5) fun t6=>
 pK (oBin .eql t6 (AI 0)) fun t7=>
 gM t7 false t6 h2 fun t8 h9 y10=>
 gM t7 false v0 h9 fun t11 h12 y13=>
 gP t7 false (oLen t11) h12 fun t14 h15 y16=>
 gP t7 false (oBin .gtr t8 t14) h15 fun t17 h18 y19=>
 pK (oPick t7 (AB true) t17) fun t20=>
 condB t20 (K .ret ⟨[(4,(AB false))],h18,(y19 ++ (y16 ++ (y13 ++ (y10 ++ (y3 ++ x)))))⟩)
 (pK (oFaddr 3 none t1) fun t21=>
 pK (oLoad none t21 h18) fun t22=>
 pK (oBin .sub t6 (AI 1)) fun t23=>
 pK (oSlice none t22 none (some t23) none h18) fun t24=>
 pK (oLen t24) fun t25=>
 NW C gl (.loop q1) ⟨[(0,v0),(3,t1),(5,t6),(23,t24),(24,t25),(25,(AI 0))],h18,(y19 ++ (y16 ++ (y13 ++ (y10 ++ (y3 ++ x)))))⟩ (blockN 0 (seqN C gl q2 K)))
theorem E_q02l {C gl q1 q2 v0 v1 h x K} : NW C gl (P_q02l q1 q2) ⟨enter [v0,v1],h,x⟩ K = d_q02l C gl q1 q2 v0 v1 h x K:=by kernel_rfl
theorem e_q02l {C gl v0 v1 h x K} : NW C gl a_q02l.body ⟨enter [v0,v1],h,x⟩ K = d_q02l C gl p_q02l_k1 p_q02l_k2 v0 v1 h x K:=E_q02l
def P_q080 : ACode:=(.seq (rg [mV 4 (cI 0)] [0,1])
(.seq (rg [mV 5 0,
mV 6 1,
cL 7 f_q01y [5,6],
mV 4 7] [4])
.ret))
def a_q080 : AFun:=⟨2,[.t 4],P_q080,false,false⟩
def d_q080 (C : Hd) (gl : GL) (v0 v1 : AV) (h : Heap) (x : Esc) (K : KT) : Prop:=
 C f_q01y [v0,v1] h fun t1 h2 y3=>
 K .ret ⟨[(4,t1)],h2,(y3 ++ x)⟩
theorem e_q080 {C gl v0 v1 h x K} : NW C gl a_q080.body ⟨enter [v0,v1],h,x⟩ K = d_q080 C gl v0 v1 h x K:=by kernel_rfl
def p_q068_k1 : ACode:=.pr [0,1,2,6,7] (.seq (.seq (dr [dF (mV 16 7) [7],
dF (mV 17 1) [1],
dF (bN 18 .gtr 16 17) [16,17],
dF (mV 19 18) [18],
dF (gD 20 19 true (.mv 0)) [0,19],
dF (gD 21 19 true (.mv 7)) [7,19],
dF (gD 22 19 true (.iaddr none 20 21)) [20,21,19],
dF (gD 23 19 true (.load none 22)) [22,19],
dF (gD 24 19 true (.mv 0)) [0,19],
dF (gD 25 19 true (.mv 7)) [7,19],
dF (gD 26 19 true (.bin .sub 25 (cI 1))) [25,19],
dF (gD 27 19 true (.iaddr none 24 26)) [24,26,19],
dF (gD 28 19 true (.load none 27)) [27,19],
dT (gD 29 19 true (.call f_q00u [23,28])) [23,28,19],
dF (uO 30 (.pick 19 29 cF)) [19,29]] [0,1,2,6,7,30])
(.cond 30 .skip
(.exit 2)))
(.seq (.block 3 (dr [dF (mV 33 0) [0],
dF (mV 34 7) [7],
dF (mV 35 0) [0],
dF (mV 36 7) [7],
dF (bN 37 .sub 36 (cI 1)) [36],
dF (mV 38 0) [0],
dF (mV 39 7) [7],
dF (bN 40 .sub 39 (cI 1)) [39],
dF (iA 41 none 38 40) [38,40],
dF (lD 42 none 41) [41],
dF (mV 43 0) [0],
dF (mV 44 7) [7],
dF (iA 45 none 43 44) [43,44],
dF (lD 46 none 45) [45],
dF (iA 47 none 33 34) [33,34],
dT (wO (.store none 47 42)) [47,42],
dF (iA 48 none 35 37) [35,37],
dT (wO (.store none 48 46)) [48,46]] [0,1,2,6,7]))
(rg [mV 31 7,
bN 32 .sub 31 (cI 1),
mV 7 32] [0,1,2,6,7])))
def d_q068_k1 (C : Hd) (gl : GL) (v0 v1 v2 v6 v7 : AV) (h : Heap) (x : Esc) (K : KT) : Prop:=
 pK (oBin .gtr v7 v1) fun t1=>
 gM t1 true v0 h fun t2 h3 y4=>
 gM t1 true v7 h3 fun t5 h6 y7=>
 gP t1 true (oIaddr none t2 t5 h6) h6 fun t8 h9 y10=>
 gP t1 true (oLoad none t8 h9) h9 fun t11 h12 y13=>
 gM t1 true v0 h12 fun t14 h15 y16=>
 gM t1 true v7 h15 fun t17 h18 y19=>
 gP t1 true (oBin .sub t17 (AI 1)) h18 fun t20 h21 y22=>
 gP t1 true (oIaddr none t14 t20 h21) h21 fun t23 h24 y25=>
 gP t1 true (oLoad none t23 h24) h24 fun t26 h27 y28=>
 gV t1 true h27 (callE C f_q00u [t11,t26] h27) fun t29 h30 y31=>
 pK (oPick t1 t29 (AB false)) fun t32=>
 condB t32 (pK (oBin .sub v7 (AI 1)) fun t33=>
 pK (oBin .sub v7 (AI 1)) fun t34=>
 pK (oIaddr none v0 t34 h30) fun t35=>
 pK (oLoad none t35 h30) fun t36=>
 pK (oIaddr none v0 v7 h30) fun t37=>
 pK (oLoad none t37 h30) fun t38=>
 pK (oIaddr none v0 v7 h30) fun t39=>
 wK (oStore none t39 t36 h30) fun t40 h41 y42=>
 pK (oIaddr none v0 t33 h41) fun t43=>
 wK (oStore none t43 t38 h41) fun t44 h45 y46=>
 pK (oBin .sub v7 (AI 1)) fun t47=>
 K .normal ⟨[(0,v0),(1,v1),(2,v2),(6,v6),(7,t47)],h45,(y46 ++ (y42 ++ (y31 ++ (y28 ++ (y25 ++ (y22 ++ (y19 ++ (y16 ++ (y13 ++ (y10 ++ (y7 ++ (y4 ++ x))))))))))))⟩)
 (K (.exit 2) ⟨[(0,v0),(1,v1),(2,v2),(6,v6),(7,v7),(30,t32)],h30,(y31 ++ (y28 ++ (y25 ++ (y22 ++ (y19 ++ (y16 ++ (y13 ++ (y10 ++ (y7 ++ (y4 ++ x))))))))))⟩)
theorem e_q068_k1 {C gl e h x K} : NW C gl p_q068_k1 ⟨e,h,x⟩ K = d_q068_k1 C gl (aget e 0) (aget e 1) (aget e 2) (aget e 6) (aget e 7) h x K:=by kernel_rfl
theorem l_q068_k1 {C gl e h x K} : NW C gl (.loop p_q068_k1) ⟨e,h,x⟩ K = NLoop C gl p_q068_k1 K [(0,aget e 0),(1,aget e 1),(2,aget e 2),(6,aget e 6),(7,aget e 7)] h x:=NLoop_pr
def p_q068_k2 : ACode:=.pr [0,1,2,6] (rg [mV 13 6,
bN 14 .add 13 (cI 1),
mV 6 14] [0,1,2,6])
def d_q068_k2 (C : Hd) (gl : GL) (v0 v1 v2 v6 : AV) (h : Heap) (x : Esc) (K : KT) : Prop:=
 pK (oBin .add v6 (AI 1)) fun t1=>
 K .normal ⟨[(0,v0),(1,v1),(2,v2),(6,t1)],h,x⟩
theorem e_q068_k2 {C gl e h x K} : NW C gl p_q068_k2 ⟨e,h,x⟩ K = d_q068_k2 C gl (aget e 0) (aget e 1) (aget e 2) (aget e 6) h x K:=by kernel_rfl
def P_q068_k3 (q1 q2 : ACode) : ACode:=.pr [0,1,2,6] (.seq (.seq (rg [mV 10 6,
mV 11 2,
bN 12 .lss 10 11] [0,1,2,6,12])
(.cond 12 .skip
(.exit 0)))
(.seq (.block 1 (.seq (rg [mV 15 6,
mV 7 15] [0,1,2,6,7])
(.block 2 (.loop q1))))
q2))
def p_q068_k3 : ACode:=P_q068_k3 p_q068_k1 p_q068_k2
def d_q068_k3 (C : Hd) (gl : GL) (q1 q2 : ACode) (v0 v1 v2 v6 : AV) (h : Heap) (x : Esc) (K : KT) : Prop:=
 pK (oBin .lss v6 v2) fun t1=>
 condB t1 (NW C gl (.loop q1) ⟨[(0,v0),(1,v1),(2,v2),(6,v6),(7,v6)],h,x⟩ (blockN 2 (blockN 1 (seqN C gl q2 K))))
 (K (.exit 0) ⟨[(0,v0),(1,v1),(2,v2),(6,v6),(12,t1)],h,x⟩)
theorem E_q068_k3 {C gl q1 q2 e h x K} : NW C gl (P_q068_k3 q1 q2) ⟨e,h,x⟩ K = d_q068_k3 C gl q1 q2 (aget e 0) (aget e 1) (aget e 2) (aget e 6) h x K:=by kernel_rfl
theorem e_q068_k3 {C gl e h x K} : NW C gl p_q068_k3 ⟨e,h,x⟩ K = d_q068_k3 C gl p_q068_k1 p_q068_k2 (aget e 0) (aget e 1) (aget e 2) (aget e 6) h x K:=E_q068_k3
theorem l_q068_k3 {C gl e h x K} : NW C gl (.loop p_q068_k3) ⟨e,h,x⟩ K = NLoop C gl p_q068_k3 K [(0,aget e 0),(1,aget e 1),(2,aget e 2),(6,aget e 6)] h x:=NLoop_pr
def P_q068 (q3 : ACode) : ACode:=(.seq (rg [mV 8 1,
bN 9 .add 8 (cI 1),
mV 6 9] [0,1,2,6])
(.block 0 (.loop q3)))
def a_q068 : AFun:=⟨3,[],P_q068 p_q068_k3,true,false⟩
def d_q068 (C : Hd) (gl : GL) (q3 : ACode) (v0 v1 v2 : AV) (h : Heap) (x : Esc) (K : KT) : Prop:=
 pK (oBin .add v1 (AI 1)) fun t1=>
 NW C gl (.loop q3) ⟨[(0,v0),(1,v1),(2,v2),(6,t1)],h,x⟩ (blockN 0 K)
theorem E_q068 {C gl q3 v0 v1 v2 h x K} : NW C gl (P_q068 q3) ⟨enter [v0,v1,v2],h,x⟩ K = d_q068 C gl q3 v0 v1 v2 h x K:=by kernel_rfl
theorem e_q068 {C gl v0 v1 v2 h x K} : NW C gl a_q068.body ⟨enter [v0,v1,v2],h,x⟩ K = d_q068 C gl p_q068_k3 v0 v1 v2 h x K:=E_q068
def P_q00u : ACode:=(.seq (rg [mV 4 cF] [0,1])
(.seq (rg [mV 5 0,
cL 6 f_q00x [5],
mV 7 6,
gD 8 7 true (.mv 1),
gD 9 7 true (.call f_q00x [8]),
gD 10 7 true (.un .not 9),
uO 11 (.pick 7 10 cF),
mV 12 11,
gD 13 12 false (.mv 0),
gD 14 12 false (.mv 1),
gD 15 12 false (.bin .lss 13 14),
uO 16 (.pick 12 cT 15),
mV 4 16] [4])
.ret))
def a_q00u : AFun:=⟨2,[.t 4],P_q00u,false,false⟩
def d_q00u (C : Hd) (gl : GL) (v0 v1 : AV) (h : Heap) (x : Esc) (K : KT) : Prop:=
 C f_q00x [v0] h fun t1 h2 y3=>
 gM t1 true v1 h2 fun t4 h5 y6=>
 gV t1 true h5 (C f_q00x [t4] h5) fun t7 h8 y9=>
 gP t1 true (oUn .not t7) h8 fun t10 h11 y12=>
 pK (oPick t1 t10 (AB false)) fun t13=>
 gM t13 false v0 h11 fun t14 h15 y16=>
 gM t13 false v1 h15 fun t17 h18 y19=>
 gP t13 false (oBin .lss t14 t17) h18 fun t20 h21 y22=>
 pK (oPick t13 (AB true) t20) fun t23=>
 K .ret ⟨[(4,t23)],h21,(y22 ++ (y19 ++ (y16 ++ (y12 ++ (y9 ++ (y6 ++ (y3 ++ x)))))))⟩
theorem e_q00u {C gl v0 v1 h x K} : NW C gl a_q00u.body ⟨enter [v0,v1],h,x⟩ K = d_q00u C gl v0 v1 h x K:=by kernel_rfl
def P_q01y : ACode:=(.seq (rg [mV 4 (cI 0)] [0,1])
(.seq (rg [mV 5 0,
mV 6 1,
cL 7 f_internal_bytealg_IndexByteString [5,6],
mV 4 7] [4])
.ret))
def a_q01y : AFun:=⟨2,[.t 4],P_q01y,false,false⟩
def d_q01y (C : Hd) (gl : GL) (v0 v1 : AV) (h : Heap) (x : Esc) (K : KT) : Prop:=
 C f_internal_bytealg_IndexByteString [v0,v1] h fun t1 h2 y3=>
 K .ret ⟨[(4,t1)],h2,(y3 ++ x)⟩
theorem e_q01y {C gl v0 v1 h x K} : NW C gl a_q01y.body ⟨enter [v0,v1],h,x⟩ K = d_q01y C gl v0 v1 h x K:=by kernel_rfl
def P_q00x : ACode:=(.seq (rg [mV 2 cF] [0])
(.seq (rg [mV 3 0,
mV 4 0,
bN 5 .neq 3 4,
mV 2 5] [2])
.ret))
def a_q00x : AFun:=⟨1,[.t 2],P_q00x,false,false⟩
def d_q00x (C : Hd) (gl : GL) (v0 : AV) (h : Heap) (x : Esc) (K : KT) : Prop:=
 pK (oBin .neq v0 v0) fun t1=>
 K .ret ⟨[(2,t1)],h,x⟩
theorem e_q00x {C gl v0 h x K} : NW C gl a_q00x.body ⟨enter [v0],h,x⟩ K = d_q00x C gl v0 h x K:=by kernel_rfl
end Go.Am
end
section
/- The abstract machine,part L: functions of the library that are met by the kit's contracts: plain values in,plain values out,new memory at most. -/
set_option linter.unusedSimpArgs false
set_option linter.unusedVariables false
namespace Go.Am
variable {P : Program} {gl : Nat → Option PV}
structure PureRow (P : Program) (gl : Nat → Option PV) (f : Nat) (spec : List PV → Option AV) : Prop where
  enter : ∀ us w,(callFunc f us).run P w = .ok (.enter f us) w
  run : ∀ (M : Mem) (w : World) (vs : List PV) (r : AV) (us : List Value),(∀ b o v,M.c b o = some v → w.cell? ⟨b,o,none⟩ = some v) → (∀ b o,M.b b = some o → w.heap[b]? = some o) → GInv gl M → vs.length = us.length →
    (∀ (j : Nat) (y : PV) (v : Value),vs[j]? = some y → us[j]? = some v → RPV M y v) → spec vs = some r →
    Calls P f us.toArray w fun e w'=>∃ x,e = .returned x ∧ WExt w w' ∧ RAV (ExtM M w w') [] [] r x
abbrev PureT:=List (Nat × (List PV → Option AV))
def pureF : PureT → Nat → List AV → Heap → Option (AV × Heap × Esc)
  | [],_,_,_=>none
  | (g,s) :: r,f,asv,h=>bif Nat.beq f g then ((unp asv).bind s).map fun v=>(v,h,[]) else pureF r f asv h
theorem pureF_ok : ∀ (gs : PureT),(∀ g s,(g,s) ∈ gs → PureRow P gl g s) → ∀ {f : Nat} {asv : List AV} {h : Heap} {v : AV} {h' : Heap} {x : Esc},pureF gs f asv h = some (v,h',x) →
    CallOk P gl f asv h fun v1 h1 x1=>v1 = v ∧ h1 = h' ∧ x1 = x
  | [],_,f,asv,h,v,h',x,H=>by cases H
  | (g,s) :: r,hg,f,asv,h,v,h',x,H=>by
    unfold pureF at H
    cases e1 : Nat.beq f g with
    | false=>
      rw [e1] at H
      exact pureF_ok r (fun g sh hm=>hg g sh (by simp [hm])) H
    | true=>
      rw [e1] at H
      have e:=Nat.eq_of_beq_eq_true e1
      subst e
      have R:=hg f s (by simp)
      simp only [cond_true] at H
      obtain ⟨y,hy,e2⟩:=Option.map_eq_some_iff.1 H
      simp only [Prod.mk.injEq] at e2
      obtain ⟨rfl,rfl,rfl⟩:=e2
      obtain ⟨ps,hps,hs⟩:=Option.bind_eq_some_iff.1 hy
      have hm:=unp_spec hps
      subst hm
      intro μ w vs Hh Hg hl hr
      refine .inl ⟨R.enter _,?_⟩
      refine (R.run (imm h μ w) w ps y vs (fun b o v hv=>(imm_some.1 hv).2) (fun b o hv=>(imm_blk.1 hv).2) Hg (by simpa using hl) (fun j q v hq hv=>(hr j (.p q) v (by simp [hq]) hv).p_inv) hs).mono fun e w' he=>?_
      obtain ⟨u,rfl,g1,g2⟩:=he
      obtain ⟨n1,n2⟩:=Hh.ext g1
      have Lq : (ExtM (imm h μ w) w w').le (imm h μ w'):=by
        refine ⟨fun b o v hv=>?_,fun b o hv=>?_,rfl⟩
        · dsimp only [ExtM] at hv
          split at hv
          · exact n2.le.c _ _ _ hv
          · rename_i hb
            exact imm_some.2 ⟨fun hO=>hb (owned_lt Hh hO),hv⟩
        · dsimp only [ExtM] at hv
          cases hv
      exact ⟨_,_,_,μ,⟨rfl,rfl,rfl⟩,g2.evo ⟨Lq,Nat.zero_le _,fun id o m h1=>by simp at h1⟩,n1,n2,EscInv.refl h []⟩
def libF (gs : List (Nat × Sh)) (ps : PureT) (f : Nat) (asv : List AV) (h : Heap) : Option (AV × Heap × Esc):=match growF gs f asv h with
  | some y=>some y
  | none=>pureF ps f asv h
theorem libF_ok {gs : List (Nat × Sh)} {ps : PureT} (hg : ∀ g sh,(g,sh) ∈ gs → GrowRow P g sh) (hp : ∀ g s,(g,s) ∈ ps → PureRow P gl g s) {f : Nat} {asv : List AV} {h : Heap} {v : AV} {h' : Heap} {x : Esc} (H : libF gs ps f asv h = some (v,h',x)) :
    CallOk P gl f asv h fun v1 h1 x1=>v1 = v ∧ h1 = h' ∧ x1 = x:=by
  unfold libF at H
  split at H
  · rename_i y hy
    cases H
    exact growF_ok gs hg hy
  · exact pureF_ok ps hp H
theorem lib_call {X : Ctx} {f : Nat} {asv : List AV} {h h' : Heap} {v : AV} {x : Esc} {K : Post} (hf : X.fn f = none) (hx : X.ex2 f asv h = some (v,h',x)) : ACall X f asv h K = K v h' x:=by
  refine propext (ACall.eq (ACall.fold ?_) K)
  unfold Step
  simp only [hf,hx]
  exact ⟨trivial,trivial,trivial⟩
def growSh : List (Nat × Sh) → Nat → Option Sh
  | [],_=>none
  | (g,s) :: r,f=>bif Nat.beq f g then some s else growSh r f
theorem growF_miss : ∀ {gs : List (Nat × Sh)} {f : Nat} {asv : List AV} {h : Heap},growSh gs f = none → growF gs f asv h = none
  | [],f,asv,h,_=>rfl
  | (g,s) :: r,f,asv,h,hm=>by
    unfold growSh at hm
    unfold growF
    cases hq : Nat.beq f g with
    | true=>rw [hq] at hm; cases hm
    | false=>rw [hq] at hm; exact growF_miss hm
def pureSp : PureT → Nat → Option (List PV → Option AV)
  | [],_=>none
  | (g,s) :: r,f=>bif Nat.beq f g then some s else pureSp r f
theorem pureF_hit : ∀ {gs : PureT} {f : Nat} {s : List PV → Option AV} {asv : List AV} {h : Heap},pureSp gs f = some s → pureF gs f asv h = ((unp asv).bind s).map fun v=>(v,h,[])
  | [],f,s,asv,h,hm=>by cases hm
  | (g,s') :: r,f,s,asv,h,hm=>by
    unfold pureSp at hm
    unfold pureF
    cases hq : Nat.beq f g with
    | true=>rw [hq] at hm; cases hm; rfl
    | false=>rw [hq] at hm; exact pureF_hit hm
theorem libF_pure {gs : List (Nat × Sh)} {ps : PureT} {f : Nat} {s : List PV → Option AV} {asv : List AV} {vs : List PV} {v : AV} {h : Heap} (hg : growSh gs f = none) (hm : pureSp ps f = some s) (hu : unp asv = some vs) (hv : s vs = some v) : libF gs ps f asv h = some (v,h,[]):=by
  unfold libF; rw [growF_miss hg,pureF_hit hm,hu]; simp [hv]
def glOf : List (Nat × PV) → Nat → Option PV
  | [],_=>none
  | (g,v) :: r,n=>bif Nat.beq n g then some v else glOf r n
theorem enters_chk {f : Nat} (h : (match P.funcs[f]? with | some fn=>fn.body.isSome && fn.name != "runtime.NumGoroutine" | none=>false) = true) (us : Array Value) (w : World) : (callFunc f us).run P w = .ok (.enter f us) w:=by
  cases hf : P.funcs[f]? with
  | none=>rw [hf] at h; cases h
  | some fn=>
    rw [hf] at h
    simp only [Bool.and_eq_true,bne_iff_ne,ne_eq] at h
    cases hb : fn.body with
    | none=>rw [hb] at h; cases h.1
    | some c=>exact enters hf hb h.2 us w
def digC (n : Nat) : UInt8:=UInt8.ofNat (48 + n)
def decN (n : Nat) : List UInt8:=if n < 10 then [digC n] else decN (n / 10) ++ [digC (n % 10)]
termination_by n
decreasing_by omega
def itoa (n : Int) : List UInt8:=if n < 0 then 45 :: decN n.natAbs else decN n.natAbs
theorem decN_lt {n : Nat} (h : n < 10) : decN n = [digC n]:=by rw [decN,if_pos h]
theorem decN_ge {n : Nat} (h : 10 ≤ n) : decN n = decN (n / 10) ++ [digC (n % 10)]:=by rw [decN,if_neg (by omega)]
def itoaS : List PV → Option AV
  | [.int .i64 n]=>bif decide (-9223372036854775808 ≤ n) && decide (n ≤ 9223372036854775807) then some (.p (.str (itoa n))) else none
  | _=>none
def pow10PV : PV:=.agg ((List.range 20).map fun i=>.int .u64 ((10 ^ i : Nat) : Int))
end Go.Am
end
section
/- The abstract machine,part C: closed calls that say true,asv contracts. -/
set_option linter.all false
namespace Go.Am
variable {P : Program} {gl : Nat → Option PV}
end Go.Am
end
section
/- The functions together. -/
set_option linter.unusedVariables false
set_option maxRecDepth 100000
namespace Go.Am
def fns : List (Nat × AFun):=[(f_q03u,a_q03u),(f_q03z,a_q03z),(f_q044,a_q044),(f_q043,a_q043),(f_q041,a_q041),(f_q024,a_q024),(f_q02g,a_q02g),(f_q025,a_q025),(f_q02c,a_q02c),(f_q04g,a_q04g),(f_q03w,a_q03w),(f_q04h,a_q04h),(f_q04b,a_q04b),(f_q04m,a_q04m),(f_q04l,a_q04l),(f_q05f,a_q05f),(f_q03v,a_q03v),(f_q042,a_q042),(f_q03y,a_q03y),(f_q049,a_q049),(f_q040,a_q040),(f_q05s,a_q05s),(f_q045,a_q045),(f_q00v,a_q00v),(f_q00s,a_q00s),(f_q07x,a_q07x),(f_q053,a_q053),(f_q046,a_q046),(f_q030,a_q030),(f_q02p,a_q02p),(f_q02w,a_q02w),(f_q02h,a_q02h),(f_q02o,a_q02o),(f_q004,a_q004),(f_q023,a_q023),(f_q02t,a_q02t),(f_q009,a_q009),(f_q04d,a_q04d),(f_q04v,a_q04v),(f_q04x,a_q04x),(f_q04s,a_q04s),(f_q04z,a_q04z),(f_q04a,a_q04a),(f_q04n,a_q04n),(f_q04e,a_q04e),(f_q04u,a_q04u),(f_q02b,a_q02b),(f_q03x,a_q03x),(f_q073,a_q073),(f_q00w,a_q00w),(f_q01d,a_q01d),(f_q008,a_q008),(f_q05r,a_q05r),(f_q02q,a_q02q),(f_q005,a_q005),(f_q022,a_q022),(f_q02z,a_q02z),(f_q00a,a_q00a),(f_q04c,a_q04c),(f_q04j,a_q04j),(f_q04f,a_q04f),(f_q057,a_q057),(f_q04w,a_q04w),(f_q04r,a_q04r),(f_q04y,a_q04y),(f_q05v,a_q05v),(f_q054,a_q054),(f_q05b,a_q05b),(f_q051,a_q051),(f_q04o,a_q04o),(f_q05k,a_q05k),(f_q04p,a_q04p),(f_q04q,a_q04q),(f_q035,a_q035),(f_q032,a_q032),(f_q065,a_q065),(f_q06s,a_q06s),(f_q039,a_q039),(f_q006,a_q006),(f_q02r,a_q02r),(f_q02x,a_q02x),(f_q02i,a_q02i),(f_q04t,a_q04t),(f_q05j,a_q05j),(f_q04k,a_q04k),(f_q05l,a_q05l),(f_q06u,a_q06u),(f_q036,a_q036),(f_q02v,a_q02v),(f_q03b,a_q03b),(f_q02s,a_q02s),(f_q007,a_q007),(f_q02y,a_q02y),(f_q02l,a_q02l),(f_q080,a_q080),(f_q068,a_q068),(f_q00u,a_q00u),(f_q01y,a_q01y),(f_q00x,a_q00x)]
def GRL : List (Nat × Sh):=[]
def PRL : PureT:=[(f_q07r,itoaS)]
def GLL : List (Nat × PV):=[(1,pow10PV)]
def fnOf : List (Nat × AFun) → Nat → Option AFun
  | [],_=>none
  | (k,F) :: r,n=>bif Nat.beq k n then some F else fnOf r n
def X : Ctx:=⟨fnOf fns,glOf GLL,extF f_internal_bytealg_IndexByteString f_internal_bytealg_abigen_runtime_cmpstring,libF GRL PRL⟩
theorem fnOf_all {p : Nat → AFun → Bool} : ∀ (l : List (Nat × AFun)),(l.all fun y=>p y.1 y.2) = true → ∀ n F,fnOf l n = some F → p n F = true
  | [],_,n,F,h=>by cases h
  | (k,G) :: r,ha,n,F,h=>by
    simp only [List.all_cons,Bool.and_eq_true] at ha
    simp only [fnOf] at h
    cases hk : Nat.beq k n with
    | true=>
      rw [hk] at h
      have:=Nat.eq_of_beq_eq_true hk
      simp only [cond_true,Option.some.injEq] at h
      subst this; subst h; exact ha.1
    | false=>
      rw [hk] at h
      exact fnOf_all r ha.2 n F h
theorem X_noNext : X.NoNext:=fun f F h=>fnOf_all (p:=fun _ F=>F.isDet || F.body.noNext) fns (by kernel_rfl) f F h
theorem x_q03u : X.fn f_q03u = some a_q03u:=by kernel_rfl
theorem c_q03u {u0 v0 : AV} {h h1 : Heap} {P : Post} (hp : puras h [u0] = some ([v0],h1)) : ACall X f_q03u [u0] h P = d_q03u (ACall X) X.gl p_q03u_k2 v0 h1 [] (finR [.t 2] false h.length P):=by rw [call_val x_q03u rfl hp rfl]; exact e_q03u
theorem x_q03z : X.fn f_q03z = some a_q03z:=by kernel_rfl
theorem c_q03z {u0 v0 : AV} {h h1 : Heap} {P : Post} (hp : puras h [u0] = some ([v0],h1)) : ACall X f_q03z [u0] h P = d_q03z (ACall X) X.gl p_q03z_k1 v0 h1 [] (finR [.t 2] false h.length P):=by rw [call_val x_q03z rfl hp rfl]; exact e_q03z
theorem x_q044 : X.fn f_q044 = some a_q044:=by kernel_rfl
theorem c_q044 {u0 u1 u2 v0 v1 v2 : AV} {h h1 : Heap} {P : Post} (hp : puras h [u0,u1,u2] = some ([v0,v1,v2],h1)) : ACall X f_q044 [u0,u1,u2] h P = d_q044 (ACall X) X.gl p_q044_k7 p_q044_k8 v0 v1 v2 h1 [] (finR [.t 6] false h.length P):=by rw [call_val x_q044 rfl hp rfl]; exact e_q044
theorem x_q043 : X.fn f_q043 = some a_q043:=by kernel_rfl
theorem c_q043 {u0 u1 u2 v0 v1 v2 : AV} {h h1 : Heap} {P : Post} (hp : puras h [u0,u1,u2] = some ([v0,v1,v2],h1)) : ACall X f_q043 [u0,u1,u2] h P = d_q043 (ACall X) X.gl v0 v1 v2 h1 [] (finR [.t 6] false h.length P):=by rw [call_val x_q043 rfl hp rfl]; exact e_q043
theorem x_q041 : X.fn f_q041 = some a_q041:=by kernel_rfl
theorem c_q041 {u0 u1 u2 v0 v1 v2 : AV} {h h1 : Heap} {P : Post} (hp : puras h [u0,u1,u2] = some ([v0,v1,v2],h1)) : ACall X f_q041 [u0,u1,u2] h P = d_q041 (ACall X) X.gl v0 v1 v2 h1 [] (finR [.t 6] false h.length P):=by rw [call_val x_q041 rfl hp rfl]; exact e_q041
theorem x_q024 : X.fn f_q024 = some a_q024:=by kernel_rfl
theorem c_q024 {u0 u1 u2 v0 v1 v2 : AV} {h h1 : Heap} {P : Post} (hp : puras h [u0,u1,u2] = some ([v0,v1,v2],h1)) : ACall X f_q024 [u0,u1,u2] h P = d_q024 (ACall X) X.gl p_q024_k1 p_q024_k2 v0 v1 v2 h1 [] (finR [.t 6,.t 7] false h.length P):=by rw [call_val x_q024 rfl hp rfl]; exact e_q024
theorem x_q02g : X.fn f_q02g = some a_q02g:=by kernel_rfl
theorem c_q02g {u0 u1 u2 v0 v1 v2 : AV} {h h1 : Heap} {P : Post} (hp : puras h [u0,u1,u2] = some ([v0,v1,v2],h1)) : ACall X f_q02g [u0,u1,u2] h P = d_q02g (ACall X) X.gl p_q02g_k4 v0 v1 v2 h1 [] (finR [.cell 6 (some 2),.t 7] false h.length P):=by rw [call_val x_q02g rfl hp rfl]; exact e_q02g
theorem x_q025 : X.fn f_q025 = some a_q025:=by kernel_rfl
theorem c_q025 {u0 u1 v0 v1 : AV} {h h1 : Heap} {P : Post} (hp : puras h [u0,u1] = some ([v0,v1],h1)) : ACall X f_q025 [u0,u1] h P = d_q025 (ACall X) X.gl v0 v1 h1 [] (finR [.cell 4 (some 2),.t 5] false h.length P):=by rw [call_val x_q025 rfl hp rfl]; exact e_q025
theorem x_q02c : X.fn f_q02c = some a_q02c:=by kernel_rfl
theorem c_q02c {u0 u1 v0 v1 : AV} {h h1 : Heap} {P : Post} (hp : puras h [u0,u1] = some ([v0,v1],h1)) : ACall X f_q02c [u0,u1] h P = d_q02c (ACall X) X.gl p_q02c_k7 v0 v1 h1 [] (finR [.cell 4 (some 2),.t 5] false h.length P):=by rw [call_val x_q02c rfl hp rfl]; exact e_q02c
theorem x_q04g : X.fn f_q04g = some a_q04g:=by kernel_rfl
theorem c_q04g {u0 u1 v0 v1 : AV} {h h1 : Heap} {P : Post} (hp : puras h [u0,u1] = some ([v0,v1],h1)) : ACall X f_q04g [u0,u1] h P = d_q04g (ACall X) X.gl p_q04g_k1 p_q04g_k2 v0 v1 h1 [] (finR [.t 4] false h.length P):=by rw [call_val x_q04g rfl hp rfl]; exact e_q04g
theorem x_q03w : X.fn f_q03w = some a_q03w:=by kernel_rfl
theorem c_q03w {u0 v0 : AV} {h h1 : Heap} {P : Post} (hp : puras h [u0] = some ([v0],h1)) : ACall X f_q03w [u0] h P = d_q03w (ACall X) X.gl p_q03w_k1 p_q03w_k2 v0 h1 [] (finR [.t 2] false h.length P):=by rw [call_val x_q03w rfl hp rfl]; exact e_q03w
theorem x_q04h : X.fn f_q04h = some a_q04h:=by kernel_rfl
theorem c_q04h {u0 v0 : AV} {h h1 : Heap} {P : Post} (hp : puras h [u0] = some ([v0],h1)) : ACall X f_q04h [u0] h P = d_q04h (ACall X) X.gl v0 h1 [] (finR [.t 2] false h.length P):=by rw [call_val x_q04h rfl hp rfl]; exact e_q04h
theorem x_q04b : X.fn f_q04b = some a_q04b:=by kernel_rfl
theorem c_q04b {u0 u1 u2 v0 v1 v2 : AV} {h h1 : Heap} {P : Post} (hp : puras h [u0,u1,u2] = some ([v0,v1,v2],h1)) : ACall X f_q04b [u0,u1,u2] h P = d_q04b (ACall X) X.gl p_q04b_k1 p_q04b_k2 v0 v1 v2 h1 [] (finR [.t 6] false h.length P):=by rw [call_val x_q04b rfl hp rfl]; exact e_q04b
theorem x_q04m : X.fn f_q04m = some a_q04m:=by kernel_rfl
theorem c_q04m {u0 u1 u2 v0 v1 v2 : AV} {h h1 : Heap} {P : Post} (hp : puras h [u0,u1,u2] = some ([v0,v1,v2],h1)) : ACall X f_q04m [u0,u1,u2] h P = d_q04m (ACall X) X.gl p_q04m_k2 p_q04m_k3 v0 v1 v2 h1 [] (finR [.cell 6 (some 2),.t 7] false h.length P):=by rw [call_val x_q04m rfl hp rfl]; exact e_q04m
theorem x_q04l : X.fn f_q04l = some a_q04l:=by kernel_rfl
theorem c_q04l {u0 u1 v0 v1 : AV} {h h1 : Heap} {P : Post} (hp : puras h [u0,u1] = some ([v0,v1],h1)) : ACall X f_q04l [u0,u1] h P = d_q04l (ACall X) X.gl p_q04l_k5 p_q04l_k6 v0 v1 h1 [] (finR [.cell 4 (some 2),.t 5] false h.length P):=by rw [call_val x_q04l rfl hp rfl]; exact e_q04l
theorem x_q05f : X.fn f_q05f = some a_q05f:=by kernel_rfl
theorem c_q05f {u0 u1 v0 v1 : AV} {h h1 : Heap} {P : Post} (hp : puras h [u0,u1] = some ([v0,v1],h1)) : ACall X f_q05f [u0,u1] h P = d_q05f (ACall X) X.gl p_q05f_k1 p_q05f_k2 v0 v1 h1 [] (finR [.t 4] false h.length P):=by rw [call_val x_q05f rfl hp rfl]; exact e_q05f
theorem x_q03v : X.fn f_q03v = some a_q03v:=by kernel_rfl
theorem c_q03v {h h1 : Heap} {P : Post} (hp : puras h [] = some ([],h1)) : ACall X f_q03v [] h P = d_q03v (ACall X) X.gl  h1 [] (finR [.t 0] false h.length P):=by rw [call_val x_q03v rfl hp rfl]; exact e_q03v
theorem x_q042 : X.fn f_q042 = some a_q042:=by kernel_rfl
theorem c_q042 {u0 u1 v0 v1 : AV} {h h1 : Heap} {P : Post} (hp : puras h [u0,u1] = some ([v0,v1],h1)) : ACall X f_q042 [u0,u1] h P = d_q042 (ACall X) X.gl v0 v1 h1 [] (finR [.t 4] false h.length P):=by rw [call_val x_q042 rfl hp rfl]; exact e_q042
theorem x_q03y : X.fn f_q03y = some a_q03y:=by kernel_rfl
theorem c_q03y {u0 u1 v0 v1 : AV} {h h1 : Heap} {P : Post} (hp : puras h [u0,u1] = some ([v0,v1],h1)) : ACall X f_q03y [u0,u1] h P = d_q03y (ACall X) X.gl v0 v1 h1 [] (finR [.t 4] false h.length P):=by rw [call_val x_q03y rfl hp rfl]; exact e_q03y
theorem x_q049 : X.fn f_q049 = some a_q049:=by kernel_rfl
theorem c_q049 {u0 u1 v0 v1 : AV} {h h1 : Heap} {P : Post} (hp : puras h [u0,u1] = some ([v0,v1],h1)) : ACall X f_q049 [u0,u1] h P = d_q049 (ACall X) X.gl v0 v1 h1 [] (finR [.t 4] false h.length P):=by rw [call_val x_q049 rfl hp rfl]; exact e_q049
theorem x_q040 : X.fn f_q040 = some a_q040:=by kernel_rfl
theorem c_q040 {u0 u1 v0 v1 : AV} {h h1 : Heap} {P : Post} (hp : puras h [u0,u1] = some ([v0,v1],h1)) : ACall X f_q040 [u0,u1] h P = d_q040 (ACall X) X.gl v0 v1 h1 [] (finR [.t 4] false h.length P):=by rw [call_val x_q040 rfl hp rfl]; exact e_q040
theorem x_q05s : X.fn f_q05s = some a_q05s:=by kernel_rfl
theorem c_q05s {u0 u1 h P} : ACall X f_q05s [u0,u1] h P = d_q05s (ACall X) X.gl u0 u1 h [] (finR [] false h.length P):=by rw [call_ref x_q05s rfl rfl]; exact e_q05s
theorem x_q045 : X.fn f_q045 = some a_q045:=by kernel_rfl
theorem c_q045 {u0 u1 v0 v1 : AV} {h h1 : Heap} {P : Post} (hp : puras h [u0,u1] = some ([v0,v1],h1)) : ACall X f_q045 [u0,u1] h P = d_q045 (ACall X) X.gl v0 v1 h1 [] (finR [.t 4] false h.length P):=by rw [call_val x_q045 rfl hp rfl]; exact e_q045
theorem x_q00v : X.fn f_q00v = some a_q00v:=by kernel_rfl
theorem c_q00v {u0 v0 : AV} {h h1 : Heap} {P : Post} (hp : puras h [u0] = some ([v0],h1)) : ACall X f_q00v [u0] h P = d_q00v (ACall X) X.gl p_q00v_k1 p_q00v_k2 v0 h1 [] (finR [.t 2] false h.length P):=by rw [call_val x_q00v rfl hp rfl]; exact e_q00v
theorem x_q00s : X.fn f_q00s = some a_q00s:=by kernel_rfl
theorem c_q00s {u0 u1 v0 v1 : AV} {h h1 : Heap} {P : Post} (hp : puras h [u0,u1] = some ([v0,v1],h1)) : ACall X f_q00s [u0,u1] h P = d_q00s (ACall X) X.gl v0 v1 h1 [] (finR [.t 4] false h.length P):=by rw [call_val x_q00s rfl hp rfl]; exact e_q00s
theorem x_q07x : X.fn f_q07x = some a_q07x:=by kernel_rfl
theorem c_q07x {u0 u1 v0 v1 : AV} {h h1 : Heap} {P : Post} (hp : puras h [u0,u1] = some ([v0,v1],h1)) : ACall X f_q07x [u0,u1] h P = d_q07x (ACall X) X.gl v0 v1 h1 [] (finR [.t 4] false h.length P):=by rw [call_val x_q07x rfl hp rfl]; exact e_q07x
theorem x_q053 : X.fn f_q053 = some a_q053:=by kernel_rfl
theorem c_q053 {u0 u1 h P} : ACall X f_q053 [u0,u1] h P = d_q053 (ACall X) X.gl p_q053_k5 p_q053_k6 u0 u1 h [] (finR [.t 4] false h.length P):=by rw [call_ref x_q053 rfl rfl]; exact e_q053
theorem x_q046 : X.fn f_q046 = some a_q046:=by kernel_rfl
theorem c_q046 {u0 u1 v0 v1 : AV} {h h1 : Heap} {P : Post} (hp : puras h [u0,u1] = some ([v0,v1],h1)) : ACall X f_q046 [u0,u1] h P = d_q046 (ACall X) X.gl v0 v1 h1 [] (finR [.t 4] false h.length P):=by rw [call_val x_q046 rfl hp rfl]; exact e_q046
theorem x_q030 : X.fn f_q030 = some a_q030:=by kernel_rfl
theorem c_q030 {u0 u1 u2 v0 v1 v2 : AV} {h h1 : Heap} {P : Post} (hp : puras h [u0,u1,u2] = some ([v0,v1,v2],h1)) : ACall X f_q030 [u0,u1,u2] h P = d_q030 (ACall X) X.gl p_q030_k1 v0 v1 v2 h1 [] (finR [.t 6] false h.length P):=by rw [call_val x_q030 rfl hp rfl]; exact e_q030
theorem x_q02p : X.fn f_q02p = some a_q02p:=by kernel_rfl
theorem c_q02p {u0 u1 u2 v0 v1 v2 : AV} {h h1 : Heap} {P : Post} (hp : puras h [u0,u1,u2] = some ([v0,v1,v2],h1)) : ACall X f_q02p [u0,u1,u2] h P = d_q02p (ACall X) X.gl p_q02p_k2 p_q02p_k3 v0 v1 v2 h1 [] (finR [.t 6] false h.length P):=by rw [call_val x_q02p rfl hp rfl]; exact e_q02p
theorem x_q02w : X.fn f_q02w = some a_q02w:=by kernel_rfl
theorem c_q02w {u0 u1 v0 v1 : AV} {h h1 : Heap} {P : Post} (hp : puras h [u0,u1] = some ([v0,v1],h1)) : ACall X f_q02w [u0,u1] h P = d_q02w (ACall X) X.gl v0 v1 h1 [] (finR [.cell 4 (some 2)] false h.length P):=by rw [call_val x_q02w rfl hp rfl]; exact e_q02w
theorem x_q02h : X.fn f_q02h = some a_q02h:=by kernel_rfl
theorem c_q02h {u0 u1 v0 v1 : AV} {h h1 : Heap} {P : Post} (hp : puras h [u0,u1] = some ([v0,v1],h1)) : ACall X f_q02h [u0,u1] h P = d_q02h (ACall X) X.gl v0 v1 h1 [] (finR [.t 4] false h.length P):=by rw [call_val x_q02h rfl hp rfl]; exact e_q02h
theorem x_q02o : X.fn f_q02o = some a_q02o:=by kernel_rfl
theorem c_q02o {u0 u1 v0 v1 : AV} {h h1 : Heap} {P : Post} (hp : puras h [u0,u1] = some ([v0,v1],h1)) : ACall X f_q02o [u0,u1] h P = d_q02o (ACall X) X.gl v0 v1 h1 [] (finR [.t 4] false h.length P):=by rw [call_val x_q02o rfl hp rfl]; exact e_q02o
theorem x_q004 : X.fn f_q004 = some a_q004:=by kernel_rfl
theorem c_q004 {u0 u1 v0 v1 : AV} {h h1 : Heap} {P : Post} (hp : puras h [u0,u1] = some ([v0,v1],h1)) : ACall X f_q004 [u0,u1] h P = d_q004 (ACall X) X.gl v0 v1 h1 [] (finR [.cell 4 (some 2)] false h.length P):=by rw [call_val x_q004 rfl hp rfl]; exact e_q004
theorem x_q023 : X.fn f_q023 = some a_q023:=by kernel_rfl
theorem c_q023 {u0 u1 v0 v1 : AV} {h h1 : Heap} {P : Post} (hp : puras h [u0,u1] = some ([v0,v1],h1)) : ACall X f_q023 [u0,u1] h P = d_q023 (ACall X) X.gl v0 v1 h1 [] (finR [.t 4] false h.length P):=by rw [call_val x_q023 rfl hp rfl]; exact e_q023
theorem x_q02t : X.fn f_q02t = some a_q02t:=by kernel_rfl
theorem c_q02t {u0 u1 v0 v1 : AV} {h h1 : Heap} {P : Post} (hp : puras h [u0,u1] = some ([v0,v1],h1)) : ACall X f_q02t [u0,u1] h P = d_q02t (ACall X) X.gl v0 v1 h1 [] (finR [.t 4] false h.length P):=by rw [call_val x_q02t rfl hp rfl]; exact e_q02t
theorem x_q009 : X.fn f_q009 = some a_q009:=by kernel_rfl
theorem c_q009 {u0 v0 : AV} {h h1 : Heap} {P : Post} (hp : puras h [u0] = some ([v0],h1)) : ACall X f_q009 [u0] h P = ∃ v h' x,P v h' x ∧ d_q009 (ACall X) X.gl p_q009_k1 p_q009_k8 v0 h1 [] (finR [.cell 2 (some 2),.t 3] false h.length fun v1 h1 x1=>v1 = v ∧ h1 = h' ∧ x1 = x):=by rw [call_val_det x_q009 rfl hp rfl]; exact ex3_congr fun v h' x=>congrArg (And (P v h' x)) e_q009
theorem x_q04d : X.fn f_q04d = some a_q04d:=by kernel_rfl
theorem c_q04d {u0 v0 : AV} {h h1 : Heap} {P : Post} (hp : puras h [u0] = some ([v0],h1)) : ACall X f_q04d [u0] h P = d_q04d (ACall X) X.gl p_q04d_k1 p_q04d_k2 v0 h1 [] (finR [.t 2] false h.length P):=by rw [call_val x_q04d rfl hp rfl]; exact e_q04d
theorem x_q04v : X.fn f_q04v = some a_q04v:=by kernel_rfl
theorem c_q04v {u0 u1 v0 v1 : AV} {h h1 : Heap} {P : Post} (hp : puras h [u0,u1] = some ([v0,v1],h1)) : ACall X f_q04v [u0,u1] h P = d_q04v (ACall X) X.gl v0 v1 h1 [] (finR [.t 4] false h.length P):=by rw [call_val x_q04v rfl hp rfl]; exact e_q04v
theorem x_q04x : X.fn f_q04x = some a_q04x:=by kernel_rfl
theorem c_q04x {u0 u1 v0 v1 : AV} {h h1 : Heap} {P : Post} (hp : puras h [u0,u1] = some ([v0,v1],h1)) : ACall X f_q04x [u0,u1] h P = d_q04x (ACall X) X.gl v0 v1 h1 [] (finR [.t 4] false h.length P):=by rw [call_val x_q04x rfl hp rfl]; exact e_q04x
theorem x_q04s : X.fn f_q04s = some a_q04s:=by kernel_rfl
theorem c_q04s {u0 u1 u2 v0 v1 v2 : AV} {h h1 : Heap} {P : Post} (hp : puras h [u0,u1,u2] = some ([v0,v1,v2],h1)) : ACall X f_q04s [u0,u1,u2] h P = d_q04s (ACall X) X.gl v0 v1 v2 h1 [] (finR [.t 6] false h.length P):=by rw [call_val x_q04s rfl hp rfl]; exact e_q04s
theorem x_q04z : X.fn f_q04z = some a_q04z:=by kernel_rfl
theorem c_q04z {u0 v0 : AV} {h h1 : Heap} {P : Post} (hp : puras h [u0] = some ([v0],h1)) : ACall X f_q04z [u0] h P = d_q04z (ACall X) X.gl p_q04z_k1 p_q04z_k2 v0 h1 [] (finR [.t 2] true h.length P):=by rw [call_val x_q04z rfl hp rfl]; exact e_q04z
theorem x_q04a : X.fn f_q04a = some a_q04a:=by kernel_rfl
theorem c_q04a {u0 u1 v0 v1 : AV} {h h1 : Heap} {P : Post} (hp : puras h [u0,u1] = some ([v0,v1],h1)) : ACall X f_q04a [u0,u1] h P = d_q04a (ACall X) X.gl v0 v1 h1 [] (finR [.t 4,.t 5] false h.length P):=by rw [call_val x_q04a rfl hp rfl]; exact e_q04a
theorem x_q04n : X.fn f_q04n = some a_q04n:=by kernel_rfl
theorem c_q04n {u0 u1 u2 u3 v0 v1 v2 v3 : AV} {h h1 : Heap} {P : Post} (hp : puras h [u0,u1,u2,u3] = some ([v0,v1,v2,v3],h1)) : ACall X f_q04n [u0,u1,u2,u3] h P = d_q04n (ACall X) X.gl v0 v1 v2 v3 h1 [] (finR [.cell 8 (some 4)] false h.length P):=by rw [call_val x_q04n rfl hp rfl]; exact e_q04n
theorem x_q04e : X.fn f_q04e = some a_q04e:=by kernel_rfl
theorem c_q04e {u0 u1 v0 v1 : AV} {h h1 : Heap} {P : Post} (hp : puras h [u0,u1] = some ([v0,v1],h1)) : ACall X f_q04e [u0,u1] h P = d_q04e (ACall X) X.gl v0 v1 h1 [] (finR [.cell 4 (some 2)] false h.length P):=by rw [call_val x_q04e rfl hp rfl]; exact e_q04e
theorem x_q04u : X.fn f_q04u = some a_q04u:=by kernel_rfl
theorem c_q04u {u0 u1 v0 v1 : AV} {h h1 : Heap} {P : Post} (hp : puras h [u0,u1] = some ([v0,v1],h1)) : ACall X f_q04u [u0,u1] h P = ∃ v h' x,P v h' x ∧ d_q04u (ACall X) X.gl p_q04u_k7 p_q04u_k16 v0 v1 h1 [] (finR [.cell 4 (some 2),.t 5] false h.length fun v1 h1 x1=>v1 = v ∧ h1 = h' ∧ x1 = x):=by rw [call_val_det x_q04u rfl hp rfl]; exact ex3_congr fun v h' x=>congrArg (And (P v h' x)) e_q04u
theorem x_q02b : X.fn f_q02b = some a_q02b:=by kernel_rfl
theorem c_q02b {u0 v0 : AV} {h h1 : Heap} {P : Post} (hp : puras h [u0] = some ([v0],h1)) : ACall X f_q02b [u0] h P = d_q02b (ACall X) X.gl v0 h1 [] (finR [.cell 2 (some 2),.cell 3 (some 2),.t 4] false h.length P):=by rw [call_val x_q02b rfl hp rfl]; exact e_q02b
theorem x_q03x : X.fn f_q03x = some a_q03x:=by kernel_rfl
theorem c_q03x {u0 u1 v0 v1 : AV} {h h1 : Heap} {P : Post} (hp : puras h [u0,u1] = some ([v0,v1],h1)) : ACall X f_q03x [u0,u1] h P = d_q03x (ACall X) X.gl p_q03x_k1 v0 v1 h1 [] (finR [.t 4] false h.length P):=by rw [call_val x_q03x rfl hp rfl]; exact e_q03x
theorem x_q073 : X.fn f_q073 = some a_q073:=by kernel_rfl
theorem c_q073 {u0 u1 u2 h P} : ACall X f_q073 [u0,u1,u2] h P = d_q073 (ACall X) X.gl p_q073_k1 p_q073_k6 u0 u1 u2 h [] (finR [] false h.length P):=by rw [call_ref x_q073 rfl rfl]; exact e_q073
theorem x_q00w : X.fn f_q00w = some a_q00w:=by kernel_rfl
theorem c_q00w {u0 v0 : AV} {h h1 : Heap} {P : Post} (hp : puras h [u0] = some ([v0],h1)) : ACall X f_q00w [u0] h P = d_q00w (ACall X) X.gl v0 h1 [] (finR [.t 2] false h.length P):=by rw [call_val x_q00w rfl hp rfl]; exact e_q00w
theorem x_q01d : X.fn f_q01d = some a_q01d:=by kernel_rfl
theorem c_q01d {u0 u1 v0 v1 : AV} {h h1 : Heap} {P : Post} (hp : puras h [u0,u1] = some ([v0,v1],h1)) : ACall X f_q01d [u0,u1] h P = d_q01d (ACall X) X.gl v0 v1 h1 [] (finR [.t 4] false h.length P):=by rw [call_val x_q01d rfl hp rfl]; exact e_q01d
theorem x_q008 : X.fn f_q008 = some a_q008:=by kernel_rfl
theorem c_q008 {u0 u1 u2 v0 v1 v2 : AV} {h h1 : Heap} {P : Post} (hp : puras h [u0,u1,u2] = some ([v0,v1,v2],h1)) : ACall X f_q008 [u0,u1,u2] h P = d_q008 (ACall X) X.gl v0 v1 v2 h1 [] (finR [.t 6] false h.length P):=by rw [call_val x_q008 rfl hp rfl]; exact e_q008
theorem x_q05r : X.fn f_q05r = some a_q05r:=by kernel_rfl
theorem c_q05r {u0 u1 h P} : ACall X f_q05r [u0,u1] h P = d_q05r (ACall X) X.gl u0 u1 h [] (finR [] false h.length P):=by rw [call_ref x_q05r rfl rfl]; exact e_q05r
theorem x_q02q : X.fn f_q02q = some a_q02q:=by kernel_rfl
theorem c_q02q {u0 u1 v0 v1 : AV} {h h1 : Heap} {P : Post} (hp : puras h [u0,u1] = some ([v0,v1],h1)) : ACall X f_q02q [u0,u1] h P = d_q02q (ACall X) X.gl v0 v1 h1 [] (finR [.t 4] false h.length P):=by rw [call_val x_q02q rfl hp rfl]; exact e_q02q
theorem x_q005 : X.fn f_q005 = some a_q005:=by kernel_rfl
theorem c_q005 {u0 u1 v0 v1 : AV} {h h1 : Heap} {P : Post} (hp : puras h [u0,u1] = some ([v0,v1],h1)) : ACall X f_q005 [u0,u1] h P = d_q005 (ACall X) X.gl p_q005_k1 p_q005_k2 v0 v1 h1 [] (finR [.t 4] false h.length P):=by rw [call_val x_q005 rfl hp rfl]; exact e_q005
theorem x_q022 : X.fn f_q022 = some a_q022:=by kernel_rfl
theorem c_q022 {u0 v0 : AV} {h h1 : Heap} {P : Post} (hp : puras h [u0] = some ([v0],h1)) : ACall X f_q022 [u0] h P = d_q022 (ACall X) X.gl p_q022_k1 p_q022_k2 v0 h1 [] (finR [.t 2] false h.length P):=by rw [call_val x_q022 rfl hp rfl]; exact e_q022
theorem x_q02z : X.fn f_q02z = some a_q02z:=by kernel_rfl
theorem c_q02z {u0 u1 v0 v1 : AV} {h h1 : Heap} {P : Post} (hp : puras h [u0,u1] = some ([v0,v1],h1)) : ACall X f_q02z [u0,u1] h P = d_q02z (ACall X) X.gl p_q02z_k1 p_q02z_k2 v0 v1 h1 [] (finR [.t 4] false h.length P):=by rw [call_val x_q02z rfl hp rfl]; exact e_q02z
theorem x_q00a : X.fn f_q00a = some a_q00a:=by kernel_rfl
theorem c_q00a {u0 u1 u2 v0 v1 v2 : AV} {h h1 : Heap} {P : Post} (hp : puras h [u0,u1,u2] = some ([v0,v1,v2],h1)) : ACall X f_q00a [u0,u1,u2] h P = d_q00a (ACall X) X.gl p_q00a_k3 v0 v1 v2 h1 [] (finR [] false h.length P):=by rw [call_val x_q00a rfl hp rfl]; exact e_q00a
theorem x_q04c : X.fn f_q04c = some a_q04c:=by kernel_rfl
theorem c_q04c {u0 v0 : AV} {h h1 : Heap} {P : Post} (hp : puras h [u0] = some ([v0],h1)) : ACall X f_q04c [u0] h P = d_q04c (ACall X) X.gl v0 h1 [] (finR [.t 2] false h.length P):=by rw [call_val x_q04c rfl hp rfl]; exact e_q04c
theorem x_q04j : X.fn f_q04j = some a_q04j:=by kernel_rfl
theorem c_q04j {u0 u1 v0 v1 : AV} {h h1 : Heap} {P : Post} (hp : puras h [u0,u1] = some ([v0,v1],h1)) : ACall X f_q04j [u0,u1] h P = d_q04j (ACall X) X.gl v0 v1 h1 [] (finR [.t 4] false h.length P):=by rw [call_val x_q04j rfl hp rfl]; exact e_q04j
theorem x_q04f : X.fn f_q04f = some a_q04f:=by kernel_rfl
theorem c_q04f {u0 v0 : AV} {h h1 : Heap} {P : Post} (hp : puras h [u0] = some ([v0],h1)) : ACall X f_q04f [u0] h P = d_q04f (ACall X) X.gl v0 h1 [] (finR [.t 2] false h.length P):=by rw [call_val x_q04f rfl hp rfl]; exact e_q04f
theorem x_q057 : X.fn f_q057 = some a_q057:=by kernel_rfl
theorem c_q057 {u0 u1 h P} : ACall X f_q057 [u0,u1] h P = d_q057 (ACall X) X.gl u0 u1 h [] (finR [.t 4] false h.length P):=by rw [call_ref x_q057 rfl rfl]; exact e_q057
theorem x_q04w : X.fn f_q04w = some a_q04w:=by kernel_rfl
theorem c_q04w {u0 v0 : AV} {h h1 : Heap} {P : Post} (hp : puras h [u0] = some ([v0],h1)) : ACall X f_q04w [u0] h P = d_q04w (ACall X) X.gl v0 h1 [] (finR [.t 2] false h.length P):=by rw [call_val x_q04w rfl hp rfl]; exact e_q04w
theorem x_q04r : X.fn f_q04r = some a_q04r:=by kernel_rfl
theorem c_q04r {u0 u1 v0 v1 : AV} {h h1 : Heap} {P : Post} (hp : puras h [u0,u1] = some ([v0,v1],h1)) : ACall X f_q04r [u0,u1] h P = d_q04r (ACall X) X.gl p_q04r_k1 p_q04r_k2 v0 v1 h1 [] (finR [.t 4] false h.length P):=by rw [call_val x_q04r rfl hp rfl]; exact e_q04r
theorem x_q04y : X.fn f_q04y = some a_q04y:=by kernel_rfl
theorem c_q04y {u0 v0 : AV} {h h1 : Heap} {P : Post} (hp : puras h [u0] = some ([v0],h1)) : ACall X f_q04y [u0] h P = d_q04y (ACall X) X.gl v0 h1 [] (finR [.t 2] false h.length P):=by rw [call_val x_q04y rfl hp rfl]; exact e_q04y
theorem x_q05v : X.fn f_q05v = some a_q05v:=by kernel_rfl
theorem c_q05v {u0 h P} : ACall X f_q05v [u0] h P = d_q05v (ACall X) X.gl u0 h [] (finR [] false h.length P):=by rw [call_ref x_q05v rfl rfl]; exact e_q05v
theorem x_q054 : X.fn f_q054 = some a_q054:=by kernel_rfl
theorem c_q054 {u0 h P} : ACall X f_q054 [u0] h P = d_q054 (ACall X) X.gl p_q054_k5 p_q054_k6 u0 h [] (finR [.t 2] false h.length P):=by rw [call_ref x_q054 rfl rfl]; exact e_q054
theorem x_q05b : X.fn f_q05b = some a_q05b:=by kernel_rfl
theorem c_q05b {u0 u1 h P} : ACall X f_q05b [u0,u1] h P = d_q05b (ACall X) X.gl p_q05b_k2 p_q05b_k3 u0 u1 h [] (finR [.t 4] false h.length P):=by rw [call_ref x_q05b rfl rfl]; exact e_q05b
theorem x_q051 : X.fn f_q051 = some a_q051:=by kernel_rfl
theorem c_q051 {u0 v0 : AV} {h h1 : Heap} {P : Post} (hp : puras h [u0] = some ([v0],h1)) : ACall X f_q051 [u0] h P = ∃ v h' x,P v h' x ∧ d_q051 (ACall X) X.gl v0 h1 [] (finR [.t 2] true h.length fun v1 h1 x1=>v1 = v ∧ h1 = h' ∧ x1 = x):=by rw [call_val_det x_q051 rfl hp rfl]; exact ex3_congr fun v h' x=>congrArg (And (P v h' x)) e_q051
theorem x_q04o : X.fn f_q04o = some a_q04o:=by kernel_rfl
theorem c_q04o {u0 u1 v0 v1 : AV} {h h1 : Heap} {P : Post} (hp : puras h [u0,u1] = some ([v0,v1],h1)) : ACall X f_q04o [u0,u1] h P = d_q04o (ACall X) X.gl v0 v1 h1 [] (finR [.t 3] false h.length P):=by rw [call_val x_q04o rfl hp rfl]; exact e_q04o
theorem x_q05k : X.fn f_q05k = some a_q05k:=by kernel_rfl
theorem c_q05k {u0 u1 h P} : ACall X f_q05k [u0,u1] h P = d_q05k (ACall X) X.gl p_q05k_k1 p_q05k_k2 u0 u1 h [] (finR [.t 4] false h.length P):=by rw [call_ref x_q05k rfl rfl]; exact e_q05k
theorem x_q04p : X.fn f_q04p = some a_q04p:=by kernel_rfl
theorem c_q04p {u0 u1 v0 v1 : AV} {h h1 : Heap} {P : Post} (hp : puras h [u0,u1] = some ([v0,v1],h1)) : ACall X f_q04p [u0,u1] h P = d_q04p (ACall X) X.gl v0 v1 h1 [] (finR [.t 3] false h.length P):=by rw [call_val x_q04p rfl hp rfl]; exact e_q04p
theorem x_q04q : X.fn f_q04q = some a_q04q:=by kernel_rfl
theorem c_q04q {u0 u1 v0 v1 : AV} {h h1 : Heap} {P : Post} (hp : puras h [u0,u1] = some ([v0,v1],h1)) : ACall X f_q04q [u0,u1] h P = d_q04q (ACall X) X.gl p_q04q_k1 p_q04q_k2 v0 v1 h1 [] (finR [.t 4] false h.length P):=by rw [call_val x_q04q rfl hp rfl]; exact e_q04q
theorem x_q035 : X.fn f_q035 = some a_q035:=by kernel_rfl
theorem c_q035 {u0 u1 v0 v1 : AV} {h h1 : Heap} {P : Post} (hp : puras h [u0,u1] = some ([v0,v1],h1)) : ACall X f_q035 [u0,u1] h P = d_q035 (ACall X) X.gl v0 v1 h1 [] (finR [.t 4] false h.length P):=by rw [call_val x_q035 rfl hp rfl]; exact e_q035
theorem x_q032 : X.fn f_q032 = some a_q032:=by kernel_rfl
theorem c_q032 {u0 v0 : AV} {h h1 : Heap} {P : Post} (hp : puras h [u0] = some ([v0],h1)) : ACall X f_q032 [u0] h P = d_q032 (ACall X) X.gl p_q032_k1 p_q032_k2 v0 h1 [] (finR [.t 2,.t 3] false h.length P):=by rw [call_val x_q032 rfl hp rfl]; exact e_q032
theorem x_q065 : X.fn f_q065 = some a_q065:=by kernel_rfl
theorem c_q065 {u0 u1 u2 u3 h P} : ACall X f_q065 [u0,u1,u2,u3] h P = d_q065 (ACall X) X.gl p_q065_k3 u0 u1 u2 u3 h [] (finR [] false h.length P):=by rw [call_ref x_q065 rfl rfl]; exact e_q065
theorem x_q06s : X.fn f_q06s = some a_q06s:=by kernel_rfl
theorem c_q06s {u0 u1 u2 u3 u4 h P} : ACall X f_q06s [u0,u1,u2,u3,u4] h P = d_q06s (ACall X) X.gl p_q06s_k4 u0 u1 u2 u3 u4 h [] (finR [] false h.length P):=by rw [call_ref x_q06s rfl rfl]; exact e_q06s
theorem x_q039 : X.fn f_q039 = some a_q039:=by kernel_rfl
theorem c_q039 {u0 v0 : AV} {h h1 : Heap} {P : Post} (hp : puras h [u0] = some ([v0],h1)) : ACall X f_q039 [u0] h P = d_q039 (ACall X) X.gl v0 h1 [] (finR [.t 2] false h.length P):=by rw [call_val x_q039 rfl hp rfl]; exact e_q039
theorem x_q006 : X.fn f_q006 = some a_q006:=by kernel_rfl
theorem c_q006 {u0 v0 : AV} {h h1 : Heap} {P : Post} (hp : puras h [u0] = some ([v0],h1)) : ACall X f_q006 [u0] h P = d_q006 (ACall X) X.gl p_q006_k1 p_q006_k2 v0 h1 [] (finR [.t 2] false h.length P):=by rw [call_val x_q006 rfl hp rfl]; exact e_q006
theorem x_q02r : X.fn f_q02r = some a_q02r:=by kernel_rfl
theorem c_q02r {u0 u1 v0 v1 : AV} {h h1 : Heap} {P : Post} (hp : puras h [u0,u1] = some ([v0,v1],h1)) : ACall X f_q02r [u0,u1] h P = d_q02r (ACall X) X.gl v0 v1 h1 [] (finR [.t 4] false h.length P):=by rw [call_val x_q02r rfl hp rfl]; exact e_q02r
theorem x_q02x : X.fn f_q02x = some a_q02x:=by kernel_rfl
theorem c_q02x {u0 u1 v0 v1 : AV} {h h1 : Heap} {P : Post} (hp : puras h [u0,u1] = some ([v0,v1],h1)) : ACall X f_q02x [u0,u1] h P = d_q02x (ACall X) X.gl v0 v1 h1 [] (finR [.t 4] false h.length P):=by rw [call_val x_q02x rfl hp rfl]; exact e_q02x
theorem x_q02i : X.fn f_q02i = some a_q02i:=by kernel_rfl
theorem c_q02i {u0 u1 v0 v1 : AV} {h h1 : Heap} {P : Post} (hp : puras h [u0,u1] = some ([v0,v1],h1)) : ACall X f_q02i [u0,u1] h P = d_q02i (ACall X) X.gl v0 v1 h1 [] (finR [.t 4] false h.length P):=by rw [call_val x_q02i rfl hp rfl]; exact e_q02i
theorem x_q04t : X.fn f_q04t = some a_q04t:=by kernel_rfl
theorem c_q04t {u0 u1 v0 v1 : AV} {h h1 : Heap} {P : Post} (hp : puras h [u0,u1] = some ([v0,v1],h1)) : ACall X f_q04t [u0,u1] h P = d_q04t (ACall X) X.gl p_q04t_k1 p_q04t_k2 v0 v1 h1 [] (finR [.t 4] false h.length P):=by rw [call_val x_q04t rfl hp rfl]; exact e_q04t
theorem x_q05j : X.fn f_q05j = some a_q05j:=by kernel_rfl
theorem c_q05j {u0 u1 h P} : ACall X f_q05j [u0,u1] h P = d_q05j (ACall X) X.gl p_q05j_k1 p_q05j_k2 u0 u1 h [] (finR [.t 4] false h.length P):=by rw [call_ref x_q05j rfl rfl]; exact e_q05j
theorem x_q04k : X.fn f_q04k = some a_q04k:=by kernel_rfl
theorem c_q04k {u0 u1 v0 v1 : AV} {h h1 : Heap} {P : Post} (hp : puras h [u0,u1] = some ([v0,v1],h1)) : ACall X f_q04k [u0,u1] h P = d_q04k (ACall X) X.gl v0 v1 h1 [] (finR [.t 3] false h.length P):=by rw [call_val x_q04k rfl hp rfl]; exact e_q04k
theorem x_q05l : X.fn f_q05l = some a_q05l:=by kernel_rfl
theorem c_q05l {u0 u1 h P} : ACall X f_q05l [u0,u1] h P = d_q05l (ACall X) X.gl p_q05l_k1 p_q05l_k2 u0 u1 h [] (finR [.t 4] false h.length P):=by rw [call_ref x_q05l rfl rfl]; exact e_q05l
theorem x_q06u : X.fn f_q06u = some a_q06u:=by kernel_rfl
theorem c_q06u {u0 u1 u2 u3 h P} : ACall X f_q06u [u0,u1,u2,u3] h P = d_q06u (ACall X) X.gl p_q06u_k4 u0 u1 u2 u3 h [] (finR [] false h.length P):=by rw [call_ref x_q06u rfl rfl]; exact e_q06u
theorem x_q036 : X.fn f_q036 = some a_q036:=by kernel_rfl
theorem c_q036 {u0 v0 : AV} {h h1 : Heap} {P : Post} (hp : puras h [u0] = some ([v0],h1)) : ACall X f_q036 [u0] h P = d_q036 (ACall X) X.gl v0 h1 [] (finR [.t 2] false h.length P):=by rw [call_val x_q036 rfl hp rfl]; exact e_q036
theorem x_q02v : X.fn f_q02v = some a_q02v:=by kernel_rfl
theorem c_q02v {u0 v0 : AV} {h h1 : Heap} {P : Post} (hp : puras h [u0] = some ([v0],h1)) : ACall X f_q02v [u0] h P = d_q02v (ACall X) X.gl v0 h1 [] (finR [.t 2] false h.length P):=by rw [call_val x_q02v rfl hp rfl]; exact e_q02v
theorem x_q03b : X.fn f_q03b = some a_q03b:=by kernel_rfl
theorem c_q03b {u0 v0 : AV} {h h1 : Heap} {P : Post} (hp : puras h [u0] = some ([v0],h1)) : ACall X f_q03b [u0] h P = d_q03b (ACall X) X.gl p_q03b_k3 v0 h1 [] (finR [.t 2] false h.length P):=by rw [call_val x_q03b rfl hp rfl]; exact e_q03b
theorem x_q02s : X.fn f_q02s = some a_q02s:=by kernel_rfl
theorem c_q02s {u0 u1 v0 v1 : AV} {h h1 : Heap} {P : Post} (hp : puras h [u0,u1] = some ([v0,v1],h1)) : ACall X f_q02s [u0,u1] h P = d_q02s (ACall X) X.gl v0 v1 h1 [] (finR [.t 3] false h.length P):=by rw [call_val x_q02s rfl hp rfl]; exact e_q02s
theorem x_q007 : X.fn f_q007 = some a_q007:=by kernel_rfl
theorem c_q007 {u0 v0 : AV} {h h1 : Heap} {P : Post} (hp : puras h [u0] = some ([v0],h1)) : ACall X f_q007 [u0] h P = d_q007 (ACall X) X.gl v0 h1 [] (finR [.t 2] false h.length P):=by rw [call_val x_q007 rfl hp rfl]; exact e_q007
theorem x_q02y : X.fn f_q02y = some a_q02y:=by kernel_rfl
theorem c_q02y {u0 v0 : AV} {h h1 : Heap} {P : Post} (hp : puras h [u0] = some ([v0],h1)) : ACall X f_q02y [u0] h P = d_q02y (ACall X) X.gl v0 h1 [] (finR [.t 2] false h.length P):=by rw [call_val x_q02y rfl hp rfl]; exact e_q02y
theorem x_q02l : X.fn f_q02l = some a_q02l:=by kernel_rfl
theorem c_q02l {u0 u1 v0 v1 : AV} {h h1 : Heap} {P : Post} (hp : puras h [u0,u1] = some ([v0,v1],h1)) : ACall X f_q02l [u0,u1] h P = d_q02l (ACall X) X.gl p_q02l_k1 p_q02l_k2 v0 v1 h1 [] (finR [.t 4] false h.length P):=by rw [call_val x_q02l rfl hp rfl]; exact e_q02l
theorem x_q080 : X.fn f_q080 = some a_q080:=by kernel_rfl
theorem c_q080 {u0 u1 v0 v1 : AV} {h h1 : Heap} {P : Post} (hp : puras h [u0,u1] = some ([v0,v1],h1)) : ACall X f_q080 [u0,u1] h P = d_q080 (ACall X) X.gl v0 v1 h1 [] (finR [.t 4] false h.length P):=by rw [call_val x_q080 rfl hp rfl]; exact e_q080
theorem x_q068 : X.fn f_q068 = some a_q068:=by kernel_rfl
theorem c_q068 {u0 u1 u2 h P} : ACall X f_q068 [u0,u1,u2] h P = d_q068 (ACall X) X.gl p_q068_k3 u0 u1 u2 h [] (finR [] false h.length P):=by rw [call_ref x_q068 rfl rfl]; exact e_q068
theorem x_q00u : X.fn f_q00u = some a_q00u:=by kernel_rfl
theorem c_q00u {u0 u1 v0 v1 : AV} {h h1 : Heap} {P : Post} (hp : puras h [u0,u1] = some ([v0,v1],h1)) : ACall X f_q00u [u0,u1] h P = d_q00u (ACall X) X.gl v0 v1 h1 [] (finR [.t 4] false h.length P):=by rw [call_val x_q00u rfl hp rfl]; exact e_q00u
theorem x_q01y : X.fn f_q01y = some a_q01y:=by kernel_rfl
theorem c_q01y {u0 u1 v0 v1 : AV} {h h1 : Heap} {P : Post} (hp : puras h [u0,u1] = some ([v0,v1],h1)) : ACall X f_q01y [u0,u1] h P = d_q01y (ACall X) X.gl v0 v1 h1 [] (finR [.t 4] false h.length P):=by rw [call_val x_q01y rfl hp rfl]; exact e_q01y
theorem x_q00x : X.fn f_q00x = some a_q00x:=by kernel_rfl
theorem c_q00x {u0 v0 : AV} {h h1 : Heap} {P : Post} (hp : puras h [u0] = some ([v0],h1)) : ACall X f_q00x [u0] h P = d_q00x (ACall X) X.gl v0 h1 [] (finR [.t 2] false h.length P):=by rw [call_val x_q00x rfl hp rfl]; exact e_q00x
attribute [go_sem] e_q03u_k1 e_q03u_k2 d_q03u_k1 d_q03u_k2 e_q03z_k1 d_q03z_k1 e_q044_k1 e_q044_k2 e_q044_k3 e_q044_k4 e_q044_k5 e_q044_k6 e_q044_k7 e_q044_k8 l_q044_k3 l_q044_k7 d_q044_k1 d_q044_k2 d_q044_k3 d_q044_k4 d_q044_k5 d_q044_k6 d_q044_k7 d_q044_k8 e_q024_k1 e_q024_k2 l_q024_k1 d_q024_k1 d_q024_k2 e_q02g_k1 e_q02g_k2 e_q02g_k3 e_q02g_k4 l_q02g_k2 d_q02g_k1 d_q02g_k2 d_q02g_k3 d_q02g_k4 e_q02c_k1 e_q02c_k2
attribute [go_sem] e_q02c_k3 e_q02c_k4 e_q02c_k5 e_q02c_k6 e_q02c_k7 l_q02c_k2 l_q02c_k5 d_q02c_k1 d_q02c_k2 d_q02c_k3 d_q02c_k4 d_q02c_k5 d_q02c_k6 d_q02c_k7 e_q04g_k1 e_q04g_k2 l_q04g_k1 d_q04g_k1 d_q04g_k2 e_q03w_k1 e_q03w_k2 l_q03w_k1 d_q03w_k1 d_q03w_k2 e_q04b_k1 e_q04b_k2 l_q04b_k1 d_q04b_k1 d_q04b_k2 e_q04m_k1 e_q04m_k2 e_q04m_k3 l_q04m_k2 d_q04m_k1 d_q04m_k2 d_q04m_k3 e_q04l_k1 e_q04l_k2 e_q04l_k3 e_q04l_k4
attribute [go_sem] e_q04l_k5 e_q04l_k6 l_q04l_k2 l_q04l_k5 d_q04l_k1 d_q04l_k2 d_q04l_k3 d_q04l_k4 d_q04l_k5 d_q04l_k6 e_q05f_k1 e_q05f_k2 l_q05f_k1 d_q05f_k1 d_q05f_k2 e_q00v_k1 e_q00v_k2 l_q00v_k1 d_q00v_k1 d_q00v_k2 e_q053_k1 e_q053_k2 e_q053_k3 e_q053_k4 e_q053_k5 e_q053_k6 l_q053_k2 l_q053_k5 d_q053_k1 d_q053_k2 d_q053_k3 d_q053_k4 d_q053_k5 d_q053_k6 e_q030_k1 d_q030_k1 e_q02p_k1 e_q02p_k2 e_q02p_k3 l_q02p_k2
attribute [go_sem] d_q02p_k1 d_q02p_k2 d_q02p_k3 e_q009_k1 e_q009_k2 e_q009_k3 e_q009_k4 e_q009_k5 e_q009_k6 e_q009_k7 e_q009_k8 l_q009_k1 l_q009_k2 l_q009_k3 l_q009_k4 l_q009_k5 d_q009_k1 d_q009_k2 d_q009_k3 d_q009_k4 d_q009_k5 d_q009_k6 d_q009_k7 d_q009_k8 e_q04d_k1 e_q04d_k2 l_q04d_k1 d_q04d_k1 d_q04d_k2 e_q04z_k1 e_q04z_k2 l_q04z_k1 d_q04z_k1 d_q04z_k2 e_q04u_k1 e_q04u_k2 e_q04u_k3 e_q04u_k4 e_q04u_k5 e_q04u_k6
attribute [go_sem] e_q04u_k7 e_q04u_k8 e_q04u_k9 e_q04u_k10 e_q04u_k11 e_q04u_k12 e_q04u_k13 e_q04u_k14 e_q04u_k15 e_q04u_k16 l_q04u_k1 l_q04u_k3 l_q04u_k4 l_q04u_k7 l_q04u_k8 l_q04u_k10 l_q04u_k11 l_q04u_k13 d_q04u_k1 d_q04u_k2 d_q04u_k3 d_q04u_k4 d_q04u_k5 d_q04u_k6 d_q04u_k7 d_q04u_k8 d_q04u_k9 d_q04u_k10 d_q04u_k11 d_q04u_k12 d_q04u_k13 d_q04u_k14 d_q04u_k15 d_q04u_k16 e_q03x_k1 d_q03x_k1 e_q073_k1 e_q073_k2 e_q073_k3 e_q073_k4
attribute [go_sem] e_q073_k5 e_q073_k6 l_q073_k1 l_q073_k2 l_q073_k5 d_q073_k1 d_q073_k2 d_q073_k3 d_q073_k4 d_q073_k5 d_q073_k6 e_q005_k1 e_q005_k2 l_q005_k1 d_q005_k1 d_q005_k2 e_q022_k1 e_q022_k2 l_q022_k1 d_q022_k1 d_q022_k2 e_q02z_k1 e_q02z_k2 l_q02z_k1 d_q02z_k1 d_q02z_k2 e_q00a_k1 e_q00a_k2 e_q00a_k3 l_q00a_k1 l_q00a_k3 d_q00a_k1 d_q00a_k2 d_q00a_k3 e_q04r_k1 e_q04r_k2 l_q04r_k1 d_q04r_k1 d_q04r_k2 e_q054_k1
attribute [go_sem] e_q054_k2 e_q054_k3 e_q054_k4 e_q054_k5 e_q054_k6 l_q054_k2 l_q054_k5 d_q054_k1 d_q054_k2 d_q054_k3 d_q054_k4 d_q054_k5 d_q054_k6 e_q05b_k1 e_q05b_k2 e_q05b_k3 l_q05b_k2 d_q05b_k1 d_q05b_k2 d_q05b_k3 e_q05k_k1 e_q05k_k2 l_q05k_k1 d_q05k_k1 d_q05k_k2 e_q04q_k1 e_q04q_k2 l_q04q_k1 d_q04q_k1 d_q04q_k2 e_q032_k1 e_q032_k2 l_q032_k1 d_q032_k1 d_q032_k2 e_q065_k1 e_q065_k2 e_q065_k3 l_q065_k1 l_q065_k3
attribute [go_sem] d_q065_k1 d_q065_k2 d_q065_k3 e_q06s_k1 e_q06s_k2 e_q06s_k3 e_q06s_k4 l_q06s_k4 d_q06s_k1 d_q06s_k2 d_q06s_k3 d_q06s_k4 e_q006_k1 e_q006_k2 l_q006_k1 d_q006_k1 d_q006_k2 e_q04t_k1 e_q04t_k2 l_q04t_k1 d_q04t_k1 d_q04t_k2 e_q05j_k1 e_q05j_k2 l_q05j_k1 d_q05j_k1 d_q05j_k2 e_q05l_k1 e_q05l_k2 l_q05l_k1 d_q05l_k1 d_q05l_k2 e_q06u_k1 e_q06u_k2 e_q06u_k3 e_q06u_k4 l_q06u_k4 d_q06u_k1 d_q06u_k2 d_q06u_k3
attribute [go_sem] d_q06u_k4 e_q03b_k1 e_q03b_k2 e_q03b_k3 d_q03b_k1 d_q03b_k2 d_q03b_k3 e_q02l_k1 e_q02l_k2 l_q02l_k1 d_q02l_k1 d_q02l_k2 e_q068_k1 e_q068_k2 e_q068_k3 l_q068_k1 l_q068_k3 d_q068_k1 d_q068_k2 d_q068_k3
end Go.Am
end
section
/- The stream of numbers out of which the laws draw. -/
open Go
namespace Go.Am
abbrev eI (n : Int) : PV:=.int .i64 n
abbrev AL (l : List Int) : AV:=.p (.sl none (l.map eI))
abbrev strm (L : List Int) (a : Int) : Obj:=.box [AL L,AI a]
def below (x n : Int) : Int:=if n < 1 then 0 else if x.tmod n < 0 then IntKind.i64.wrap (x.tmod n + n) else x.tmod n
theorem s_Below (x n : Int) (h : Heap) (K : Post) : ACall X f_q03x [AI x,AI n] h K = K (AI (below x n)) h []:=by
  refine rule ?_
  rw [c_q03x rfl]
  simp only [d_q03x,go_sem]
  unfold below
  by_cases h1 : n < 1
  · simp only [h1,if_true]
  · simp only [h1, if_false, show ¬ n = 0 by omega]
    split <;> rfl
theorem below_bd (x n : Int) (h1 : 1 ≤ n) (h2 : n ≤ 4611686018427387904) : 0 ≤ below x n ∧ below x n < n:=by
  unfold below
  rw [if_neg (by omega)]
  have:=Int.tmod_lt_of_pos x (show 0 < n by omega)
  have h3 : -n < x.tmod n:=by
    have:=Int.lt_tmod_of_pos x (show 0 < n by omega)
    exact this
  split
  · rw [i64_wrap _ (by omega) (by omega)]; omega
  · omega
def nextV (L : List Int) (a n : Int) : Int:=
  if L.length = 0 then below (IntKind.i64.wrap ((a + 1) * 7919)) n
  else below (IntKind.i64.wrap (below (L.getD (a.tmod L.length).toNat 0) 1073741824 + IntKind.i64.wrap (IntKind.i64.wrap (a.tdiv L.length) * IntKind.i64.wrap (7919 + a.tmod L.length)))) n
theorem nextV_bd (L : List Int) (a n : Int) (h1 : 1 ≤ n) (h2 : n ≤ 4611686018427387904) : 0 ≤ nextV L a n ∧ nextV L a n < n:=by
  unfold nextV
  split <;> exact below_bd _ _ h1 h2
theorem set_get' {h : Heap} {id : Nat} {o' : Obj} (hid : id < h.length) : (h.set id o')[id]? = some o':=by simp [hid]
theorem get_lt {h : Heap} {id : Nat} {o : Obj} (hh : h[id]? = some o) : id < h.length:=(List.getElem?_eq_some_iff.1 hh).1
def posN (n : Nat) (a : Int) : Prop:=0 ≤ a ∧ a + n < 4611686018427387904
theorem posN_le {n m : Nat} {a b : Int} (H : posN m a) (h : a ≤ b) (hn : b + n ≤ a + m) : posN n b:=by unfold posN at *; omega
theorem posAll {a : Int} (H : posN 14 a) : posN 0 (a) ∧ posN 0 (a + 1) ∧ posN 0 (a + 1 + 1) ∧ posN 0 (a + 1 + 1 + 1) ∧ posN 0 (a + 1 + 1 + 1 + 1) ∧ posN 0 (a + 1 + 1 + 1 + 1 + 1) ∧ posN 0 (a + 1 + 1 + 1 + 1 + 1 + 1) ∧ posN 0 (a + 1 + 1 + 1 + 1 + 1 + 1 + 1) ∧ posN 0 (a + 1 + 1 + 1 + 1 + 1 + 1 + 1 + 1) ∧ posN 0 (a + 1 + 1 + 1 + 1 + 1 + 1 + 1 + 1 + 1) ∧ posN 0 (a + 1 + 1 + 1 + 1 + 1 + 1 + 1 + 1 + 1 + 1) ∧ posN 0 (a + 1 + 1 + 1 + 1 + 1 + 1 + 1 + 1 + 1 + 1 + 1) ∧ posN 0 (a + 1 + 1 + 1 + 1 + 1 + 1 + 1 + 1 + 1 + 1 + 1 + 1) ∧ posN 0 (a + 1 + 1 + 1 + 1 + 1 + 1 + 1 + 1 + 1 + 1 + 1 + 1 + 1) ∧ posN 0 (a + 1 + 1 + 1 + 1 + 1 + 1 + 1 + 1 + 1 + 1 + 1 + 1 + 1 + 1):=by
  unfold posN at *; omega
def Gen (f : Nat) (args : List AV) (L : List Int) (a a2 : Int) (v : AV) : Prop:=∀ (h : Heap) (id : Nat) (K : Post),h[id]? = some (strm L a) → ACall X f (.ref id 0 :: args) h K = K v (h.set id (strm L a2)) []
section
variable {f : Nat} {args : List AV} {L : List Int} {a a2 : Int} {v : AV} {h l : Heap} {id : Nat} {K : Post}
theorem Gen.set (g : Gen f args L a a2 v) (hid : id < h.length) : ACall X f (.ref id 0 :: args) (h.set id (strm L a)) K = K v (h.set id (strm L a2)) []:=by
  rw [g _ _ _ (set_get' hid),List.set_set]
theorem Gen.app (g : Gen f args L a a2 v) (hid : id < h.length) : ACall X f (.ref id 0 :: args) (h.set id (strm L a) ++ l) K = K v (h.set id (strm L a2) ++ l) []:=by
  rw [g _ _ _ (by rw [get_app (by simpa using hid)]; exact set_get' hid),set_app (by simpa using hid),List.set_set]
theorem Gen.hd (g : Gen f args L a a2 v) : ACall X f (.ref 0 0 :: args) (strm L a :: l) K = K v (strm L a2 :: l) []:=by
  rw [g _ _ _ rfl]; rfl
theorem Gen.of (H : ∀ (h : Heap) (id : Nat),id < h.length → ACall X f (.ref id 0 :: args) (h.set id (strm L a)) fun v1 h1 x1=>v1 = v ∧ h1 = h.set id (strm L a2) ∧ x1 = []) : Gen f args L a a2 v:=by
  intro h id K hh
  have hid:=get_lt hh
  have : h.set id (strm L a) = h:=by
    apply List.ext_getElem?
    intro i
    rw [List.getElem?_set]
    split
    · rename_i e; subst e; rw [hh]
    · rfl
  have k:=H h id hid
  rw [this] at k
  exact rule k
end
def GenE (f : Nat) (args : List AV) (L : List Int) (a : Int) (Q : AV → Int → Prop) : Prop:=∀ (h : Heap) (id : Nat),h[id]? = some (strm L a) → ∃ v a2,Q v a2 ∧ ∀ K : Post,ACall X f (.ref id 0 :: args) h K = K v (h.set id (strm L a2)) []
section
variable {f : Nat} {args : List AV} {L : List Int} {a : Int} {Q : AV → Int → Prop}
theorem GenE.set (g : GenE f args L a Q) {h : Heap} {id : Nat} (hid : id < h.length) : ∃ v a2,Q v a2 ∧ ∀ K : Post,ACall X f (.ref id 0 :: args) (h.set id (strm L a)) K = K v (h.set id (strm L a2)) []:=by
  obtain ⟨v,a2,q,r⟩:=g _ _ (set_get' hid)
  exact ⟨v,a2,q,fun K=>by rw [r,List.set_set]⟩
theorem GenE.app (g : GenE f args L a Q) {h l : Heap} {id : Nat} (hid : id < h.length) : ∃ v a2,Q v a2 ∧ ∀ K : Post,ACall X f (.ref id 0 :: args) (h.set id (strm L a) ++ l) K = K v (h.set id (strm L a2) ++ l) []:=by
  obtain ⟨v,a2,q,r⟩:=g (h.set id (strm L a) ++ l) id (by rw [get_app (by simpa using hid)]; exact set_get' hid)
  exact ⟨v,a2,q,fun K=>by rw [r,set_app (by simpa using hid),List.set_set]⟩
theorem GenE.hd (g : GenE f args L a Q) {l : Heap} : ∃ v a2,Q v a2 ∧ ∀ K : Post,ACall X f (.ref 0 0 :: args) (strm L a :: l) K = K v (strm L a2 :: l) []:=g (strm L a :: l) 0 rfl
theorem GenE.of (H : ∀ (h : Heap) (id : Nat),id < h.length → ACall X f (.ref id 0 :: args) (h.set id (strm L a)) fun v1 h1 x1=>∃ a2,Q v1 a2 ∧ h1 = h.set id (strm L a2) ∧ x1 = []) : GenE f args L a Q:=by
  intro h id hh
  have hid:=get_lt hh
  have : h.set id (strm L a) = h:=by
    apply List.ext_getElem?
    intro i
    rw [List.getElem?_set]
    split
    · rename_i e; subst e; rw [hh]
    · rfl
  have k:=H h id hid
  rw [this] at k
  obtain ⟨v,h',x,⟨a2,q,e1,e2⟩,r⟩:=ACall.one X_noNext k
  subst e1; subst e2
  exact ⟨v,a2,q,r⟩
end
def pickV (l : List Int) (L : List Int) (a : Int) : Int:=l.getD (nextV L a l.length).toNat 0
theorem pickV_mem {l L : List Int} {a : Int} (hl : 0 < l.length) (hl2 : l.length < 4611686018427387904) : pickV l L a ∈ l:=by
  obtain ⟨b1,b2⟩:=nextV_bd L a l.length (by omega) (by omega)
  unfold pickV
  have : (nextV L a l.length).toNat < l.length:=by omega
  simp only [List.getD,List.getElem?_eq_getElem this,Option.getD_some]
  exact List.getElem_mem _
def isI : PV → Bool
  | .int .i64 _=>true
  | _=>false
def unI : PV → Int
  | .int _ n=>n
  | _=>0
theorem unI_map {xs : List PV} (h : xs.all isI = true) : xs = (xs.map unI).map eI:=by
  induction xs with
  | nil=>rfl
  | cons x r ih=>
    simp only [List.all_cons,Bool.and_eq_true] at h
    simp only [List.map_cons]
    rw [← ih h.2]
    cases x with
    | int k n=>cases k <;> first | rfl | cases h.1
    | _=>cases h.1
set_option maxHeartbeats 400000 in
theorem g_Next (L : List Int) (a n : Int) (hp : posN 0 a) : Gen f_q040 [AI n] L a (a + 1) (AI (nextV L a n)):=by
  refine Gen.of fun h id hid=>?_
  rw [c_q040 rfl]
  obtain ⟨h0,h1⟩:=hp
  have w1 : IntKind.i64.wrap (a + 1) = a + 1:=i64_wrap _ (by omega) (by omega)
  have w2 : IntKind.i64.wrap (a + 1 - 1) = a:=by rw [i64_wrap _ (by omega) (by omega)]; omega
  have hs : ∀ o',(h.set id o')[id]? = some o':=fun o'=>set_get' hid
  rcases Nat.eq_zero_or_pos L.length with hl | hl
  · simp only [d_q040, go_sem, hs, s_Below, hl, w1]
    simp only [nextV,hl,if_true]
  · have e1 : ((L.length : Int) = 0) = False := by simp only [eq_iff_iff, iff_false]; omega
    have e2 : 0 ≤ a.tmod L.length:=Int.tmod_nonneg _ h0
    have e3 : a.tmod L.length < L.length:=Int.tmod_lt_of_pos _ (by omega)
    have e4:=natOf_int (k:=.i64) e2
    have e5 : (L.map eI)[(a.tmod L.length).toNat]? = some (eI (L.getD (a.tmod L.length).toNat 0)):=by
      rw [map_get eI (show (a.tmod L.length).toNat < L.length by omega)]
      simp [List.getD,show (a.tmod L.length).toNat < L.length by omega]
    simp only [d_q040,go_sem,hs,s_Below,e1,w1,w2,e4,e5]
    simp only [nextV,show ¬ L.length = 0 by omega,if_false]
section
variable {L : List Int} {a : Int} {h l : Heap} {id : Nat} {K : Post}
theorem s_Next_set (hid : id < h.length) (hp : posN 0 a) (n : Int) : ACall X f_q040 [.ref id 0,AI n] (h.set id (strm L a)) K = K (AI (nextV L a n)) (h.set id (strm L (a + 1))) []:=(g_Next L a n hp).set hid
theorem s_Next_app (hid : id < h.length) (hp : posN 0 a) (n : Int) : ACall X f_q040 [.ref id 0,AI n] (h.set id (strm L a) ++ l) K = K (AI (nextV L a n)) (h.set id (strm L (a + 1)) ++ l) []:=(g_Next L a n hp).app hid
theorem s_Next_hd (hp : posN 0 a) (n : Int) : ACall X f_q040 [.ref 0 0,AI n] (strm L a :: l) K = K (AI (nextV L a n)) (strm L (a + 1) :: l) []:=(g_Next L a n hp).hd
theorem g_Flip (hp : posN 0 a) (n : Int) : Gen f_q03y [AI n] L a (a + 1) (AB (decide (nextV L a n = 0))):=by
  refine Gen.of fun h id hid=>?_
  rw [c_q03y rfl]
  simp only [d_q03y,go_sem,s_Next_set hid hp]
theorem s_Flip_set (hid : id < h.length) (hp : posN 0 a) (n : Int) : ACall X f_q03y [.ref id 0,AI n] (h.set id (strm L a)) K = K (AB (decide (nextV L a n = 0))) (h.set id (strm L (a + 1))) []:=(g_Flip hp n).set hid
theorem s_Flip_app (hid : id < h.length) (hp : posN 0 a) (n : Int) : ACall X f_q03y [.ref id 0,AI n] (h.set id (strm L a) ++ l) K = K (AB (decide (nextV L a n = 0))) (h.set id (strm L (a + 1)) ++ l) []:=(g_Flip hp n).app hid
theorem s_Flip_hd (hp : posN 0 a) (n : Int) : ACall X f_q03y [.ref 0 0,AI n] (strm L a :: l) K = K (AB (decide (nextV L a n = 0))) (strm L (a + 1) :: l) []:=(g_Flip hp n).hd
theorem g_Pick (hp : posN 0 a) (xs : List PV) (hx : xs.all isI = true) (hl : 0 < xs.length) (hl2 : xs.length < 4611686018427387904) :
    Gen f_q042 [.p (.sl none xs)] L a (a + 1) (AI (pickV (xs.map unI) L a)):=by
  refine Gen.of fun h id hid=>?_
  rw [c_q042 rfl]
  obtain ⟨b1,b2⟩:=nextV_bd L a xs.length (by omega) (by omega)
  have e4:=natOf_int (k:=.i64) b1
  have e5 : xs[(nextV L a xs.length).toNat]? = some (eI (pickV (xs.map unI) L a)):=by
      have hm:=unI_map hx
      generalize hq : xs.map unI = q at *
      subst hm
      simp only [List.length_map] at *
      rw [map_get eI (show (nextV L a q.length).toNat < q.length by omega)]
      simp [pickV,List.getD,show (nextV L a q.length).toNat < q.length by omega]
  simp only [d_q042,go_sem,s_Next_set hid hp,e4,e5]
theorem s_Pick_set (hid : id < h.length) (hp : posN 0 a) {xs : List PV} (hx : xs.all isI = true) (hl : 0 < xs.length) (hl2 : xs.length < 4611686018427387904) :
    ACall X f_q042 [.ref id 0,.p (.sl none xs)] (h.set id (strm L a)) K = K (AI (pickV (xs.map unI) L a)) (h.set id (strm L (a + 1))) []:=(g_Pick hp xs hx hl hl2).set hid
theorem s_Pick_app (hid : id < h.length) (hp : posN 0 a) {xs : List PV} (hx : xs.all isI = true) (hl : 0 < xs.length) (hl2 : xs.length < 4611686018427387904) :
    ACall X f_q042 [.ref id 0,.p (.sl none xs)] (h.set id (strm L a) ++ l) K = K (AI (pickV (xs.map unI) L a)) (h.set id (strm L (a + 1)) ++ l) []:=(g_Pick hp xs hx hl hl2).app hid
theorem s_Pick_hd (hp : posN 0 a) {xs : List PV} (hx : xs.all isI = true) (hl : 0 < xs.length) (hl2 : xs.length < 4611686018427387904) :
    ACall X f_q042 [.ref 0 0,.p (.sl none xs)] (strm L a :: l) K = K (AI (pickV (xs.map unI) L a)) (strm L (a + 1) :: l) []:=(g_Pick hp xs hx hl hl2).hd
def rangeV (u v : Int) (L : List Int) (a : Int) : Int:=u + nextV L a (v - u + 1)
theorem rangeV_bd {u v : Int} (L : List Int) (a : Int) (h1 : u ≤ v) (h2 : v ≤ u + 4611686018427387900) : u ≤ rangeV u v L a ∧ rangeV u v L a ≤ v:=by
  have:=nextV_bd L a (v - u + 1) (by omega) (by omega)
  unfold rangeV; omega
theorem g_Range (hp : posN 0 a) (u v : Int) (huv : u ≤ v) (hu : -1152921504606846976 ≤ u) (hv : v ≤ 1152921504606846976) :
    Gen f_q043 [AI u,AI v] L a (a + 1) (AI (rangeV u v L a)):=by
  refine Gen.of fun h id hid=>?_
  rw [c_q043 rfl]
  obtain ⟨b1,b2⟩:=rangeV_bd L a huv (by omega)
  have w1 : IntKind.i64.wrap (v - u) = v - u:=i64_wrap _ (by omega) (by omega)
  have w2 : IntKind.i64.wrap (v - u + 1) = v - u + 1:=i64_wrap _ (by omega) (by omega)
  have w3 : IntKind.i64.wrap (u + nextV L a (v - u + 1)) = rangeV u v L a:=i64_wrap (rangeV u v L a) (by omega) (by omega)
  simp only [d_q043,go_sem,show ¬ v < u by omega,w1,w2,s_Next_set hid hp,w3]
theorem s_Range_set (hid : id < h.length) (hp : posN 0 a) {u v : Int} (huv : u ≤ v) (hu : -1152921504606846976 ≤ u) (hv : v ≤ 1152921504606846976) :
    ACall X f_q043 [.ref id 0,AI u,AI v] (h.set id (strm L a)) K = K (AI (rangeV u v L a)) (h.set id (strm L (a + 1))) []:=(g_Range hp u v huv hu hv).set hid
theorem s_Range_app (hid : id < h.length) (hp : posN 0 a) {u v : Int} (huv : u ≤ v) (hu : -1152921504606846976 ≤ u) (hv : v ≤ 1152921504606846976) :
    ACall X f_q043 [.ref id 0,AI u,AI v] (h.set id (strm L a) ++ l) K = K (AI (rangeV u v L a)) (h.set id (strm L (a + 1)) ++ l) []:=(g_Range hp u v huv hu hv).app hid
theorem s_Range_hd (hp : posN 0 a) {u v : Int} (huv : u ≤ v) (hu : -1152921504606846976 ≤ u) (hv : v ≤ 1152921504606846976) :
    ACall X f_q043 [.ref 0 0,AI u,AI v] (strm L a :: l) K = K (AI (rangeV u v L a)) (strm L (a + 1) :: l) []:=(g_Range hp u v huv hu hv).hd
end
attribute [go_sem ↓] s_Next_set s_Next_app s_Next_hd s_Flip_set s_Flip_app s_Flip_hd s_Pick_set s_Pick_app s_Pick_hd s_Range_set s_Range_app s_Range_hd
attribute [go_sem] s_Next_set s_Next_app s_Next_hd s_Flip_set s_Flip_app s_Flip_hd s_Pick_set s_Pick_app s_Pick_hd s_Range_set s_Range_app s_Range_hd isI unI
end Go.Am
end
section
/- Plain laws of fractions in lowest terms. -/
namespace Go.Am
def low (a b : Int) : Int × Int:=(a.tdiv (Int.gcd a b),b.tdiv (Int.gcd a b))
theorem gcd_pos (a b : Int) (hb : 0 < b) : 0 < (Int.gcd a b : Int):=by
  have : Int.gcd a b ≠ 0:=by
    intro h
    have:=(Int.gcd_eq_zero_iff.1 h).2
    omega
  omega
theorem low_num (a b : Int) : (low a b).1 * (Int.gcd a b : Int) = a:=by
  unfold low
  exact Int.tdiv_mul_cancel (Int.gcd_dvd_left ..)
theorem low_den (a b : Int) : (low a b).2 * (Int.gcd a b : Int) = b:=by
  unfold low
  exact Int.tdiv_mul_cancel (Int.gcd_dvd_right ..)
theorem low_den_pos (a b : Int) (hb : 0 < b) : 0 < (low a b).2:=by
  have h1:=low_den a b
  have h2:=gcd_pos a b hb
  rcases Int.lt_trichotomy (low a b).2 0 with h | h | h
  · have:=Int.mul_neg_of_neg_of_pos h h2; omega
  · rw [h] at h1; omega
  · exact h
theorem low_den_le (a b : Int) (hb : 0 < b) : (low a b).2 ≤ b:=by
  have h1:=low_den a b
  have h2:=gcd_pos a b hb
  have h3:=low_den_pos a b hb
  have : (low a b).2 * 1 ≤ (low a b).2 * (Int.gcd a b : Int):=Int.mul_le_mul_of_nonneg_left (by omega) (by omega)
  omega
theorem low_abs (a b : Int) (hb : 0 < b) : (low a b).1.natAbs ≤ a.natAbs:=by
  have h1:=low_num a b
  have h2:=gcd_pos a b hb
  have h3 : ((low a b).1 * (Int.gcd a b : Int)).natAbs = a.natAbs:=by rw [h1]
  rw [Int.natAbs_mul] at h3
  rw [← h3]
  exact Nat.le_mul_of_pos_right _ (by omega)
end Go.Am
end
