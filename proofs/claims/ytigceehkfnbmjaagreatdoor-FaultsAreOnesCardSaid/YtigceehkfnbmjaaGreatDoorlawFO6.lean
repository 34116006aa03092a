/- Texts of the proof, laid together: CodesC, CodesD, CodesE, AmC, Ctx. -/
import Derived.KernelRfl
import Derived.Test.YtigceehkfnbmjaaGreatDoorlawFO5
set_option linter.all false
section
/- The functions asv abstract code,and asv formulas over their values: printed by program out of the translation. -/
set_option linter.unusedVariables false
set_option maxRecDepth 100000
namespace Go.Am
def p_q03c_k1 : ACode:=.pr [0,1,2,6,7] (.seq (.seq (dr [dF (mV 16 7) [7],
dF (mV 17 1) [1],
dF (bN 18 .gtr 16 17) [16,17],
dF (mV 19 18) [18],
dF (gD 20 19 true (.mv 0)) [0,19],
dF (gD 21 19 true (.mv 7)) [7,19],
dF (gD 22 19 true (.iaddr none 20 21)) [20,21,19],
dF (gD 23 19 true (.load none 22)) [22,19],
dF (gD 24 19 true (.mv 0)) [0,19],
dF (gD 25 19 true (.mv 7)) [7,19],
dF (gD 26 19 true (.bin .sub 25 (cI 1))) [25,19],
dF (gD 27 19 true (.iaddr none 24 26)) [24,26,19],
dF (gD 28 19 true (.load none 27)) [27,19],
dT (gD 29 19 true (.call f_q00s [23,28])) [23,28,19],
dF (uO 30 (.pick 19 29 cF)) [19,29]] [0,1,2,6,7,30])
(.cond 30 .skip
(.exit 2)))
(.seq (.block 3 (dr [dF (mV 33 0) [0],
dF (mV 34 7) [7],
dF (mV 35 0) [0],
dF (mV 36 7) [7],
dF (bN 37 .sub 36 (cI 1)) [36],
dF (mV 38 0) [0],
dF (mV 39 7) [7],
dF (bN 40 .sub 39 (cI 1)) [39],
dF (iA 41 none 38 40) [38,40],
dF (lD 42 none 41) [41],
dF (mV 43 0) [0],
dF (mV 44 7) [7],
dF (iA 45 none 43 44) [43,44],
dF (lD 46 none 45) [45],
dF (iA 47 none 33 34) [33,34],
dT (wO (.store none 47 42)) [47,42],
dF (iA 48 none 35 37) [35,37],
dT (wO (.store none 48 46)) [48,46]] [0,1,2,6,7]))
(rg [mV 31 7,
bN 32 .sub 31 (cI 1),
mV 7 32] [0,1,2,6,7])))
def d_q03c_k1 (C : Hd) (gl : GL) (v0 v1 v2 v6 v7 : AV) (h : Heap) (x : Esc) (K : KT) : Prop:=
 pK (oBin .gtr v7 v1) fun t1=>
 gM t1 true v0 h fun t2 h3 y4=>
 gM t1 true v7 h3 fun t5 h6 y7=>
 gP t1 true (oIaddr none t2 t5 h6) h6 fun t8 h9 y10=>
 gP t1 true (oLoad none t8 h9) h9 fun t11 h12 y13=>
 gM t1 true v0 h12 fun t14 h15 y16=>
 gM t1 true v7 h15 fun t17 h18 y19=>
 gP t1 true (oBin .sub t17 (AI 1)) h18 fun t20 h21 y22=>
 gP t1 true (oIaddr none t14 t20 h21) h21 fun t23 h24 y25=>
 gP t1 true (oLoad none t23 h24) h24 fun t26 h27 y28=>
 gV t1 true h27 (callE C f_q00s [t11,t26] h27) fun t29 h30 y31=>
 pK (oPick t1 t29 (AB false)) fun t32=>
 condB t32 (pK (oBin .sub v7 (AI 1)) fun t33=>
 pK (oBin .sub v7 (AI 1)) fun t34=>
 pK (oIaddr none v0 t34 h30) fun t35=>
 pK (oLoad none t35 h30) fun t36=>
 pK (oIaddr none v0 v7 h30) fun t37=>
 pK (oLoad none t37 h30) fun t38=>
 pK (oIaddr none v0 v7 h30) fun t39=>
 wK (oStore none t39 t36 h30) fun t40 h41 y42=>
 pK (oIaddr none v0 t33 h41) fun t43=>
 wK (oStore none t43 t38 h41) fun t44 h45 y46=>
 pK (oBin .sub v7 (AI 1)) fun t47=>
 K .normal ⟨[(0,v0),(1,v1),(2,v2),(6,v6),(7,t47)],h45,(y46 ++ (y42 ++ (y31 ++ (y28 ++ (y25 ++ (y22 ++ (y19 ++ (y16 ++ (y13 ++ (y10 ++ (y7 ++ (y4 ++ x))))))))))))⟩)
 (K (.exit 2) ⟨[(0,v0),(1,v1),(2,v2),(6,v6),(7,v7),(30,t32)],h30,(y31 ++ (y28 ++ (y25 ++ (y22 ++ (y19 ++ (y16 ++ (y13 ++ (y10 ++ (y7 ++ (y4 ++ x))))))))))⟩)
theorem e_q03c_k1 {C gl e h x K} : NW C gl p_q03c_k1 ⟨e,h,x⟩ K = d_q03c_k1 C gl (aget e 0) (aget e 1) (aget e 2) (aget e 6) (aget e 7) h x K:=by kernel_rfl
theorem l_q03c_k1 {C gl e h x K} : NW C gl (.loop p_q03c_k1) ⟨e,h,x⟩ K = NLoop C gl p_q03c_k1 K [(0,aget e 0),(1,aget e 1),(2,aget e 2),(6,aget e 6),(7,aget e 7)] h x:=NLoop_pr
def p_q03c_k2 : ACode:=.pr [0,1,2,6] (rg [mV 13 6,
bN 14 .add 13 (cI 1),
mV 6 14] [0,1,2,6])
def d_q03c_k2 (C : Hd) (gl : GL) (v0 v1 v2 v6 : AV) (h : Heap) (x : Esc) (K : KT) : Prop:=
 pK (oBin .add v6 (AI 1)) fun t1=>
 K .normal ⟨[(0,v0),(1,v1),(2,v2),(6,t1)],h,x⟩
theorem e_q03c_k2 {C gl e h x K} : NW C gl p_q03c_k2 ⟨e,h,x⟩ K = d_q03c_k2 C gl (aget e 0) (aget e 1) (aget e 2) (aget e 6) h x K:=by kernel_rfl
def P_q03c_k3 (q1 q2 : ACode) : ACode:=.pr [0,1,2,6] (.seq (.seq (rg [mV 10 6,
mV 11 2,
bN 12 .lss 10 11] [0,1,2,6,12])
(.cond 12 .skip
(.exit 0)))
(.seq (.block 1 (.seq (rg [mV 15 6,
mV 7 15] [0,1,2,6,7])
(.block 2 (.loop q1))))
q2))
def p_q03c_k3 : ACode:=P_q03c_k3 p_q03c_k1 p_q03c_k2
def d_q03c_k3 (C : Hd) (gl : GL) (q1 q2 : ACode) (v0 v1 v2 v6 : AV) (h : Heap) (x : Esc) (K : KT) : Prop:=
 pK (oBin .lss v6 v2) fun t1=>
 condB t1 (NW C gl (.loop q1) ⟨[(0,v0),(1,v1),(2,v2),(6,v6),(7,v6)],h,x⟩ (blockN 2 (blockN 1 (seqN C gl q2 K))))
 (K (.exit 0) ⟨[(0,v0),(1,v1),(2,v2),(6,v6),(12,t1)],h,x⟩)
theorem E_q03c_k3 {C gl q1 q2 e h x K} : NW C gl (P_q03c_k3 q1 q2) ⟨e,h,x⟩ K = d_q03c_k3 C gl q1 q2 (aget e 0) (aget e 1) (aget e 2) (aget e 6) h x K:=by kernel_rfl
theorem e_q03c_k3 {C gl e h x K} : NW C gl p_q03c_k3 ⟨e,h,x⟩ K = d_q03c_k3 C gl p_q03c_k1 p_q03c_k2 (aget e 0) (aget e 1) (aget e 2) (aget e 6) h x K:=E_q03c_k3
theorem l_q03c_k3 {C gl e h x K} : NW C gl (.loop p_q03c_k3) ⟨e,h,x⟩ K = NLoop C gl p_q03c_k3 K [(0,aget e 0),(1,aget e 1),(2,aget e 2),(6,aget e 6)] h x:=NLoop_pr
def P_q03c (q3 : ACode) : ACode:=(.seq (rg [mV 8 1,
bN 9 .add 8 (cI 1),
mV 6 9] [0,1,2,6])
(.block 0 (.loop q3)))
def a_q03c : AFun:=⟨3,[],P_q03c p_q03c_k3,true,false⟩
def d_q03c (C : Hd) (gl : GL) (q3 : ACode) (v0 v1 v2 : AV) (h : Heap) (x : Esc) (K : KT) : Prop:=
 pK (oBin .add v1 (AI 1)) fun t1=>
 NW C gl (.loop q3) ⟨[(0,v0),(1,v1),(2,v2),(6,t1)],h,x⟩ (blockN 0 K)
theorem E_q03c {C gl q3 v0 v1 v2 h x K} : NW C gl (P_q03c q3) ⟨enter [v0,v1,v2],h,x⟩ K = d_q03c C gl q3 v0 v1 v2 h x K:=by kernel_rfl
theorem e_q03c {C gl v0 v1 v2 h x K} : NW C gl a_q03c.body ⟨enter [v0,v1,v2],h,x⟩ K = d_q03c C gl p_q03c_k3 v0 v1 v2 h x K:=E_q03c
def P_q00s : ACode:=(.seq (rg [mV 4 cF] [0,1])
(.seq (rg [mV 5 0,
cL 6 f_q00u [5],
mV 7 6,
gD 8 7 true (.mv 1),
gD 9 7 true (.call f_q00u [8]),
gD 10 7 true (.un .not 9),
uO 11 (.pick 7 10 cF),
mV 12 11,
gD 13 12 false (.mv 0),
gD 14 12 false (.mv 1),
gD 15 12 false (.bin .lss 13 14),
uO 16 (.pick 12 cT 15),
mV 4 16] [4])
.ret))
def a_q00s : AFun:=⟨2,[.t 4],P_q00s,false,false⟩
def d_q00s (C : Hd) (gl : GL) (v0 v1 : AV) (h : Heap) (x : Esc) (K : KT) : Prop:=
 C f_q00u [v0] h fun t1 h2 y3=>
 gM t1 true v1 h2 fun t4 h5 y6=>
 gV t1 true h5 (C f_q00u [t4] h5) fun t7 h8 y9=>
 gP t1 true (oUn .not t7) h8 fun t10 h11 y12=>
 pK (oPick t1 t10 (AB false)) fun t13=>
 gM t13 false v0 h11 fun t14 h15 y16=>
 gM t13 false v1 h15 fun t17 h18 y19=>
 gP t13 false (oBin .lss t14 t17) h18 fun t20 h21 y22=>
 pK (oPick t13 (AB true) t20) fun t23=>
 K .ret ⟨[(4,t23)],h21,(y22 ++ (y19 ++ (y16 ++ (y12 ++ (y9 ++ (y6 ++ (y3 ++ x)))))))⟩
theorem e_q00s {C gl v0 v1 h x K} : NW C gl a_q00s.body ⟨enter [v0,v1],h,x⟩ K = d_q00s C gl v0 v1 h x K:=by kernel_rfl
def p_q01n_k1 : ACode:=.pr [0,2] (.seq (rg [mV 19 2,
mV 20 0,
uO 21 (.conv (.i .u8) 20),
uO 22 (.idxs (cS [0,1,2,2,3,3,3,3,4,4,4,4,4,4,4,4,5,5,5,5,5,5,5,5,5,5,5,5,5,5,5,5,6,6,6,6,6,6,6,6,6,6,6,6,6,6,6,6,6,6,6,6,6,6,6,6,6,6,6,6,6,6,6,6,7,7,7,7,7,7,7,7,7,7,7,7,7,7,7,7,7,7,7,7,7,7,7,7,7,7,7,7,7,7,7,7,7,7,7,7,7,7,7,7,7,7,7,7,7,7,7,7,7,7,7,7,7,7,7,7,7,7,7,7,7,7,7,7,8,8,8,8,8,8,8,8,8,8,8,8,8,8,8,8,8,8,8,8,8,8,8,8,8,8,8,8,8,8,8,8,8,8,8,8,8,8,8,8,8,8,8,8,8,8,8,8,8,8,8,8,8,8,8,8,8,8,8,8,8,8,8,8,8,8,8,8,8,8,8,8,8,8,8,8,8,8,8,8,8,8,8,8,8,8,8,8,8,8,8,8,8,8,8,8,8,8,8,8,8,8,8,8,8,8,8,8,8,8,8,8,8,8,8,8,8,8,8,8,8,8,8,8,8,8,8,8]) 21),
uO 23 (.conv (.i .i64) 22),
bN 24 .add 19 23,
mV 2 24] [2])
.ret)
def d_q01n_k1 (C : Hd) (gl : GL) (v0 v2 : AV) (h : Heap) (x : Esc) (K : KT) : Prop:=
 pK (oConvI .u8 v0) fun t1=>
 pK (oIdxs (.p (.str [0,1,2,2,3,3,3,3,4,4,4,4,4,4,4,4,5,5,5,5,5,5,5,5,5,5,5,5,5,5,5,5,6,6,6,6,6,6,6,6,6,6,6,6,6,6,6,6,6,6,6,6,6,6,6,6,6,6,6,6,6,6,6,6,7,7,7,7,7,7,7,7,7,7,7,7,7,7,7,7,7,7,7,7,7,7,7,7,7,7,7,7,7,7,7,7,7,7,7,7,7,7,7,7,7,7,7,7,7,7,7,7,7,7,7,7,7,7,7,7,7,7,7,7,7,7,7,7,8,8,8,8,8,8,8,8,8,8,8,8,8,8,8,8,8,8,8,8,8,8,8,8,8,8,8,8,8,8,8,8,8,8,8,8,8,8,8,8,8,8,8,8,8,8,8,8,8,8,8,8,8,8,8,8,8,8,8,8,8,8,8,8,8,8,8,8,8,8,8,8,8,8,8,8,8,8,8,8,8,8,8,8,8,8,8,8,8,8,8,8,8,8,8,8,8,8,8,8,8,8,8,8,8,8,8,8,8,8,8,8,8,8,8,8,8,8,8,8,8,8,8,8,8,8,8,8])) t1) fun t2=>
 pK (oConvI .i64 t2) fun t3=>
 pK (oBin .add v2 t3) fun t4=>
 K .ret ⟨[(2,t4)],h,x⟩
theorem e_q01n_k1 {C gl e h x K} : NW C gl p_q01n_k1 ⟨e,h,x⟩ K = d_q01n_k1 C gl (aget e 0) (aget e 2) h x K:=by kernel_rfl
def P_q01n_k2 (q1 : ACode) : ACode:=.pr [0,2] (.seq (.seq (rg [mV 13 0,
bN 14 .geq 13 (.c (.p (.int .u64 256)))] [0,2,14])
(.cond 14 (.seq (rg [mV 15 0,
bN 16 .shr 15 (.c (.p (.int .u64 8))),
mV 0 16] [0,2])
(rg [mV 17 2,
bN 18 .add 17 (cI 8),
mV 2 18] [0,2]))
.skip))
q1)
def p_q01n_k2 : ACode:=P_q01n_k2 p_q01n_k1
def d_q01n_k2 (C : Hd) (gl : GL) (q1 : ACode) (v0 v2 : AV) (h : Heap) (x : Esc) (K : KT) : Prop:=
 pK (oBin .geq v0 (.p (.int .u64 256))) fun t1=>
 condB t1 (pK (oBin .shr v0 (.p (.int .u64 8))) fun t2=>
 pK (oBin .add v2 (AI 8)) fun t3=>
 NW C gl q1 ⟨[(0,t2),(2,t3)],h,x⟩ K)
 (NW C gl q1 ⟨[(0,v0),(2,v2),(14,t1)],h,x⟩ K)
theorem E_q01n_k2 {C gl q1 e h x K} : NW C gl (P_q01n_k2 q1) ⟨e,h,x⟩ K = d_q01n_k2 C gl q1 (aget e 0) (aget e 2) h x K:=by kernel_rfl
theorem e_q01n_k2 {C gl e h x K} : NW C gl p_q01n_k2 ⟨e,h,x⟩ K = d_q01n_k2 C gl p_q01n_k1 (aget e 0) (aget e 2) h x K:=E_q01n_k2
def P_q01n_k3 (q2 : ACode) : ACode:=.pr [0,2] (.seq (.seq (rg [mV 7 0,
bN 8 .geq 7 (.c (.p (.int .u64 65536)))] [0,2,8])
(.cond 8 (.seq (rg [mV 9 0,
bN 10 .shr 9 (.c (.p (.int .u64 16))),
mV 0 10] [0,2])
(rg [mV 11 2,
bN 12 .add 11 (cI 16),
mV 2 12] [0,2]))
.skip))
q2)
def p_q01n_k3 : ACode:=P_q01n_k3 p_q01n_k2
def d_q01n_k3 (C : Hd) (gl : GL) (q2 : ACode) (v0 v2 : AV) (h : Heap) (x : Esc) (K : KT) : Prop:=
 pK (oBin .geq v0 (.p (.int .u64 65536))) fun t1=>
 condB t1 (pK (oBin .shr v0 (.p (.int .u64 16))) fun t2=>
 pK (oBin .add v2 (AI 16)) fun t3=>
 NW C gl q2 ⟨[(0,t2),(2,t3)],h,x⟩ K)
 (NW C gl q2 ⟨[(0,v0),(2,v2),(8,t1)],h,x⟩ K)
theorem E_q01n_k3 {C gl q2 e h x K} : NW C gl (P_q01n_k3 q2) ⟨e,h,x⟩ K = d_q01n_k3 C gl q2 (aget e 0) (aget e 2) h x K:=by kernel_rfl
theorem e_q01n_k3 {C gl e h x K} : NW C gl p_q01n_k3 ⟨e,h,x⟩ K = d_q01n_k3 C gl p_q01n_k2 (aget e 0) (aget e 2) h x K:=E_q01n_k3
def P_q01n (q3 : ACode) : ACode:=(.seq (rg [mV 2 (cI 0)] [0,2])
(.seq (.seq (rg [mV 3 0,
bN 4 .geq 3 (.c (.p (.int .u64 4294967296)))] [0,2,4])
(.cond 4 (.seq (rg [mV 5 0,
bN 6 .shr 5 (.c (.p (.int .u64 32))),
mV 0 6] [0])
(rg [mV 2 (cI 32)] [0,2]))
.skip))
q3))
def a_q01n : AFun:=⟨1,[.t 2],P_q01n p_q01n_k3,false,false⟩
def d_q01n (C : Hd) (gl : GL) (q3 : ACode) (v0 : AV) (h : Heap) (x : Esc) (K : KT) : Prop:=
 pK (oBin .geq v0 (.p (.int .u64 4294967296))) fun t1=>
 condB t1 (pK (oBin .shr v0 (.p (.int .u64 32))) fun t2=>
 NW C gl q3 ⟨[(0,t2),(2,(AI 32))],h,x⟩ K)
 (NW C gl q3 ⟨[(0,v0),(2,(AI 0)),(4,t1)],h,x⟩ K)
theorem E_q01n {C gl q3 v0 h x K} : NW C gl (P_q01n q3) ⟨enter [v0],h,x⟩ K = d_q01n C gl q3 v0 h x K:=by kernel_rfl
theorem e_q01n {C gl v0 h x K} : NW C gl a_q01n.body ⟨enter [v0],h,x⟩ K = d_q01n C gl p_q01n_k3 v0 h x K:=E_q01n
def P_q02v : ACode:=(.det (.seq (rg [mV 2 (.c (.p (.sl none [])))] [0])
(.seq (.seq (rg [mV 3 0,
uO 4 (.isnil 4 false 3)] [0,4])
(.condu 4 (.seq (rg [uO 2 (.new0 none)] [2])
.ret)
.skip))
(.seq (rg [uO 5 (.bsl true none 0 (.int .u64 0) []),
mV 6 0,
uO 7 (.app none 5 6),
mV 2 7] [2])
.ret))))
def a_q02v : AFun:=⟨1,[.t 2],P_q02v,false,true⟩
def d_q02v (C : Hd) (gl : GL) (v0 : AV) (h : Heap) (x : Esc) (K : KT) : Prop:=
 pK (oIsnil 4 false v0) fun t1=>
 condU t1 (nwK none h fun t2 h3 y4=>
 K .ret ⟨[(2,t2)],h3,(y4 ++ x)⟩)
 (wK (oBsl true none 0 (.int .u64 0) [] h) fun t5 h6 y7=>
 wK (oApp none t5 v0 h6) fun t8 h9 y10=>
 K .ret ⟨[(2,t8)],h9,(y10 ++ (y7 ++ x))⟩)
theorem e_q02v {C gl v0 h x K} : NW C gl a_q02v.body ⟨enter [v0],h,x⟩ K = d_q02v C gl v0 h x K:=by kernel_rfl
def P_q04d : ACode:=(.seq (rg [mV 4 (cI 0)] [0,1])
(.seq (rg [mV 5 0,
mV 6 1,
cL 7 f_q01e [5,6],
mV 4 7] [4])
.ret))
def a_q04d : AFun:=⟨2,[.t 4],P_q04d,false,false⟩
def d_q04d (C : Hd) (gl : GL) (v0 v1 : AV) (h : Heap) (x : Esc) (K : KT) : Prop:=
 C f_q01e [v0,v1] h fun t1 h2 y3=>
 K .ret ⟨[(4,t1)],h2,(y3 ++ x)⟩
theorem e_q04d {C gl v0 v1 h x K} : NW C gl a_q04d.body ⟨enter [v0,v1],h,x⟩ K = d_q04d C gl v0 v1 h x K:=by kernel_rfl
def P_q00u : ACode:=(.seq (rg [mV 2 cF] [0])
(.seq (rg [mV 3 0,
mV 4 0,
bN 5 .neq 3 4,
mV 2 5] [2])
.ret))
def a_q00u : AFun:=⟨1,[.t 2],P_q00u,false,false⟩
def d_q00u (C : Hd) (gl : GL) (v0 : AV) (h : Heap) (x : Esc) (K : KT) : Prop:=
 pK (oBin .neq v0 v0) fun t1=>
 K .ret ⟨[(2,t1)],h,x⟩
theorem e_q00u {C gl v0 h x K} : NW C gl a_q00u.body ⟨enter [v0],h,x⟩ K = d_q00u C gl v0 h x K:=by kernel_rfl
def P_q01e : ACode:=(.seq (rg [mV 4 (cI 0)] [0,1])
(.seq (rg [mV 5 0,
mV 6 1,
cL 7 f_internal_bytealg_IndexByteString [5,6],
mV 4 7] [4])
.ret))
def a_q01e : AFun:=⟨2,[.t 4],P_q01e,false,false⟩
def d_q01e (C : Hd) (gl : GL) (v0 v1 : AV) (h : Heap) (x : Esc) (K : KT) : Prop:=
 C f_internal_bytealg_IndexByteString [v0,v1] h fun t1 h2 y3=>
 K .ret ⟨[(4,t1)],h2,(y3 ++ x)⟩
theorem e_q01e {C gl v0 v1 h x K} : NW C gl a_q01e.body ⟨enter [v0,v1],h,x⟩ K = d_q01e C gl v0 v1 h x K:=by kernel_rfl
def p_q001_k1 : ACode:=.pr [5,6,7] (.seq (rg [bN 8 .lss 7 6] [5,6,7,8])
(.seq (.cond 8 .skip
(.exit 0))
(.seq (.block 1 (.seq (rg [iA 9 none 5 7,
lD 10 none 9,
mV 4 10] [4,5,6,7])
(.seq (rg [mV 11 4,
bN 12 .neq 11 (cI 0)] [4,5,6,7,12])
(.cond 12 (.seq (rg [mV 13 4,
mV 2 13] [2])
.ret)
.skip))))
(rg [bN 14 .add 7 (cI 1),
mV 7 14] [5,6,7]))))
def p_q001_k2 : ACode:=.pr [] (.seq (rg [mV 2 (cI 0)] [2])
.ret)
def P_q001 (q1 q2 : ACode) : ACode:=(.seq (rg [mV 2 (cI 0)] [0])
(.seq (.seq (rg [mV 5 0,
lN 6 5,
mV 7 (cI 0)] [5,6,7])
(.block 0 (.loop q1)))
q2))
def a_q001 : AFun:=⟨1,[.t 2],P_q001 p_q001_k1 p_q001_k2,false,false⟩
def P_q002 : ACode:=(.seq (rg [uO 4 (.alloc [.p (.int .i64 0),.p (.int .i64 0)])] [0,1,4])
(.seq (rg [mV 6 0,
mV 7 0,
uO 8 (.un .neg 7),
uO 9 (.mx [6,8]),
mV 10 1,
cL 11 f_q003 [9,10],
mV 5 11] [0,1,4,5])
(.seq (dr [dF (mV 12 0) [0],
dF (mV 13 5) [5],
dF (bN 14 .quo 12 13) [12,13],
dF (mV 15 1) [1],
dF (mV 16 5) [5],
dF (bN 17 .quo 15 16) [15,16],
dF (uO 18 (.build [.p (.int .i64 0),.p (.int .i64 0)] [(0,1,14),(1,1,17)])) [14,17],
dT (wO (.store (some 2) 4 18)) [4,18]] [4])
.ret)))
def a_q002 : AFun:=⟨2,[.cell 4 (some 2)],P_q002,false,false⟩
def p_q003_k1 : ACode:=.pr [0,1] (.seq (.seq (rg [mV 5 1,
bN 6 .neq 5 (cI 0)] [0,1,6])
(.cond 6 .skip
(.exit 0)))
(.block 1 (dr [dF (mV 7 1) [1],
dF (mV 8 0) [0],
dF (mV 9 1) [1],
dF (bN 10 .rem 8 9) [8,9],
dF (mV 0 7) [7],
dF (mV 1 10) [10]] [0,1])))
def p_q003_k2 : ACode:=.pr [0] (.seq (rg [mV 11 0,
mV 4 11] [4])
.ret)
def P_q003 (q1 q2 : ACode) : ACode:=(.seq (rg [mV 4 (cI 0)] [0,1])
(.seq (.block 0 (.loop q1))
q2))
def a_q003 : AFun:=⟨2,[.t 4],P_q003 p_q003_k1 p_q003_k2,false,false⟩
def p_q004_k1 : ACode:=.pr [0,23,24] (.seq (rg [bN 25 .lss 24 23] [0,23,24,25])
(.seq (.cond 25 .skip
(.exit 0))
(.seq (.block 1 (.seq (rg [mV 26 24,
mV 3 26] [0,3,23,24])
(.seq (rg [mV 27 0,
mV 28 3,
uO 29 (.idxs 27 28),
mV 4 29] [0,4,23,24])
(.seq (rg [mV 30 4,
bN 31 .geq 30 (.c (.p (.int .u8 97))),
mV 32 31,
gD 33 32 true (.mv 4),
gD 34 32 true (.bin .leq 33 (.c (.p (.int .u8 122)))),
uO 35 (.pick 32 34 cF),
mV 36 35,
gD 37 36 false (.mv 4),
gD 38 36 false (.bin .geq 37 (.c (.p (.int .u8 48)))),
gD 39 36 false (.mv 38),
gD 40 39 true (.mv 4),
gD 41 39 true (.bin .leq 40 (.c (.p (.int .u8 57)))),
gD 42 36 false (.pick 39 41 cF),
uO 43 (.pick 36 cT 42),
mV 44 43,
gD 45 44 false (.mv 4),
gD 46 44 false (.bin .eql 45 (.c (.p (.int .u8 45)))),
uO 47 (.pick 44 cT 46),
mV 48 47,
gD 49 48 false (.mv 4),
gD 50 48 false (.bin .eql 49 (.c (.p (.int .u8 95)))),
uO 51 (.pick 48 cT 50),
uO 52 (.un .not 51)] [0,23,24,52])
(.cond 52 (.seq (rg [mV 2 cF] [2])
.ret)
.skip)))))
(rg [bN 53 .add 24 (cI 1),
mV 24 53] [0,23,24]))))
def p_q004_k2 : ACode:=.pr [] (.seq (rg [mV 2 cT] [2])
.ret)
def P_q004 (q1 q2 : ACode) : ACode:=(.seq (rg [mV 2 cF] [0])
(.seq (.seq (rg [mV 5 0,
bN 6 .eql 5 (cS []),
mV 7 6,
gD 8 7 false (.mv 0),
gD 9 7 false (.lens 8),
gD 10 7 false (.bin .gtr 9 (cI 40)),
uO 11 (.pick 7 cT 10),
mV 12 11,
gD 13 12 false (.mv 0),
gD 14 12 false (.idxs 13 (cI 0)),
gD 15 12 false (.bin .lss 14 (.c (.p (.int .u8 97)))),
uO 16 (.pick 12 cT 15),
mV 17 16,
gD 18 17 false (.mv 0),
gD 19 17 false (.idxs 18 (cI 0)),
gD 20 17 false (.bin .gtr 19 (.c (.p (.int .u8 122)))),
uO 21 (.pick 17 cT 20)] [0,21])
(.cond 21 (.seq (rg [mV 2 cF] [2])
.ret)
.skip))
(.seq (.seq (rg [mV 22 0,
uO 23 (.lens 22),
mV 24 (cI 0)] [0,23,24])
(.block 0 (.loop q1)))
q2)))
def a_q004 : AFun:=⟨1,[.t 2],P_q004 p_q004_k1 p_q004_k2,false,false⟩
def P_q005 : ACode:=(.seq (rg [mV 2 cF] [0])
(.seq (rg [mV 3 0,
cL 4 f_q006 [3,(cI 0),(cI 345686399999)],
uO 5 (.un .not 4),
mV 2 5] [2])
.ret))
def a_q005 : AFun:=⟨1,[.t 2],P_q005,false,false⟩
def p_q008_k1 : ACode:=.pr [2,19,20,21] (.seq (rg [bN 22 .lss 21 20] [2,19,20,21,22])
(.seq (.cond 22 .skip
(.exit 0))
(.seq (.block 1 (.seq (rg [mV 23 21,
iA 24 none 19 21,
lD 25 none 24,
mV 6 23,
mV 7 25] [2,6,7,19,20,21])
(.seq (rg [mV 26 7,
uO 27 (.lens 26),
fA 28 0 none 2,
lD 29 none 28,
mV 30 6,
iA 31 (some 2) 29 30,
fA 32 1 none 31,
lD 33 none 32,
lN 34 33,
bN 35 .neq 27 34,
mV 36 35,
gD 37 36 false (.mv 7),
gD 38 36 false (.call f_q000 [37]),
gD 39 36 false (.un .not 38),
uO 40 (.pick 36 cT 39)] [2,19,20,21,40])
(.cond 40 (.seq (rg [mV 4 (cI 3)] [4])
.ret)
.skip))))
(rg [bN 41 .add 21 (cI 1),
mV 21 41] [2,19,20,21]))))
def p_q008_k2 : ACode:=.pr [] (.seq (rg [mV 4 (cI 0)] [4])
.ret)
def P_q008 (q1 q2 : ACode) : ACode:=(.seq (rg [uO 2 (.box 0),
mV 4 (cI 0)] [1,2])
(.seq (.seq (rg [lD 8 (some 3) 2,
cL 9 f_q009 [8],
mV 5 9] [1,2,5])
(.seq (rg [mV 10 5,
bN 11 .neq 10 (cI 0)] [1,2,5,11])
(.cond 11 (.seq (rg [mV 12 5,
mV 4 12] [4])
.ret)
.skip)))
(.seq (.seq (rg [mV 13 1,
lN 14 13,
fA 15 0 none 2,
lD 16 none 15,
lN 17 16,
bN 18 .neq 14 17] [1,2,18])
(.cond 18 (.seq (rg [mV 4 (cI 3)] [4])
.ret)
.skip))
(.seq (.seq (rg [mV 19 1,
lN 20 19,
mV 21 (cI 0)] [2,19,20,21])
(.block 0 (.loop q1)))
q2))))
def a_q008 : AFun:=⟨2,[.t 4],P_q008 p_q008_k1 p_q008_k2,false,false⟩
def p_q009_k1 : ACode:=.pr [1,15,16,17] (.seq (rg [bN 18 .lss 17 16] [1,15,16,17,18])
(.seq (.cond 18 .skip
(.exit 0))
(.seq (.block 1 (.seq (rg [mV 19 17,
iA 20 (some 2) 15 17,
lD 21 (some 2) 20,
uO 4 (.alloc [.p (.str []),.sl0 (some 4)]),
mV 3 19,
wO (.store (some 2) 4 21)] [1,3,4,15,16,17])
(.seq (.block 2 (.seq (rg [fA 23 0 none 4,
lD 24 none 23,
cL 25 f_q004 [24],
uO 26 (.un .not 25),
mV 22 26] [1,3,4,15,16,17,22])
(.cond 22 (.seq (rg [mV 2 (cI 5)] [2])
.ret)
(.seq (dr [dF (mV 28 3) [3],
dF (bN 29 .gtr 28 (cI 0)) [28],
dF (mV 30 29) [29],
dF (gD 31 30 true (.faddr 0 none 4)) [4,30],
dF (gD 32 30 true (.load none 31)) [31,30],
dF (gD 33 30 true (.faddr 0 none 1)) [1,30],
dF (gD 34 30 true (.load none 33)) [33,30],
dF (gD 35 30 true (.mv 3)) [3,30],
dF (gD 36 30 true (.bin .sub 35 (cI 1))) [35,30],
dF (gD 37 30 true (.iaddr (some 2) 34 36)) [34,36,30],
dF (gD 38 30 true (.faddr 0 none 37)) [37,30],
dF (gD 39 30 true (.load none 38)) [38,30],
dF (gD 40 30 true (.bin .leq 32 39)) [32,39,30],
dF (uO 41 (.pick 30 40 cF)) [30,40],
dF (mV 27 41) [41]] [1,4,15,16,17,27])
(.cond 27 (.seq (rg [mV 2 (cI 7)] [2])
.ret)
.skip)))))
(.seq (rg [lD 42 (some 2) 4,
cL 43 f_q00g [42],
mV 5 43] [1,5,15,16,17])
(.seq (rg [mV 44 5,
bN 45 .neq 44 (cI 0)] [1,5,15,16,17,45])
(.cond 45 (.seq (rg [mV 46 5,
mV 2 46] [2])
.ret)
.skip))))))
(rg [bN 47 .add 17 (cI 1),
mV 17 47] [1,15,16,17]))))
def p_q009_k2 : ACode:=.pr [1,7,59,60,61] (.seq (rg [bN 62 .lss 61 60] [1,7,59,60,61,62])
(.seq (.cond 62 .skip
(.exit 3))
(.seq (.block 4 (.seq (rg [mV 63 61,
iA 64 (some 2) 59 61,
lD 65 (some 2) 64,
uO 9 (.alloc [.p (.str []),.p (.int .i64 0)]),
mV 8 63,
wO (.store (some 2) 9 65)] [1,7,8,9,59,60,61])
(.block 5 (.seq (rg [mV 67 7,
fA 68 0 none 9,
lD 69 none 68,
cL 70 f_q030 [67,69],
uO 71 (.un .not 70),
mV 66 71] [1,7,8,9,59,60,61,66])
(.cond 66 (.seq (rg [mV 2 (cI 8)] [2])
.ret)
(.seq (rg [fA 73 1 none 9,
lD 74 none 73,
cL 75 f_q006 [74,(cI 0),(cI 1)],
mV 72 75] [1,7,8,9,59,60,61,72])
(.cond 72 (.seq (rg [mV 2 (cI 1)] [2])
.ret)
(.seq (dr [dF (mV 77 8) [8],
dF (bN 78 .gtr 77 (cI 0)) [77],
dF (mV 79 78) [78],
dF (gD 80 79 true (.faddr 0 none 9)) [9,79],
dF (gD 81 79 true (.load none 80)) [80,79],
dF (gD 82 79 true (.faddr 2 none 1)) [1,79],
dF (gD 83 79 true (.load none 82)) [82,79],
dF (gD 84 79 true (.mv 8)) [8,79],
dF (gD 85 79 true (.bin .sub 84 (cI 1))) [84,79],
dF (gD 86 79 true (.iaddr (some 2) 83 85)) [83,85,79],
dF (gD 87 79 true (.faddr 0 none 86)) [86,79],
dF (gD 88 79 true (.load none 87)) [87,79],
dF (gD 89 79 true (.bin .leq 81 88)) [81,88,79],
dF (uO 90 (.pick 79 89 cF)) [79,89],
dF (mV 76 90) [90]] [1,7,59,60,61,76])
(.cond 76 (.seq (rg [mV 2 (cI 7)] [2])
.ret)
.skip)))))))))
(rg [bN 91 .add 61 (cI 1),
mV 61 91] [1,7,59,60,61]))))
def p_q009_k3 : ACode:=.pr [] (.seq (rg [mV 2 (cI 0)] [2])
.ret)
def P_q009_k4 (q2 q3 : ACode) : ACode:=.pr [1] (.seq (.seq (rg [lD 48 (some 3) 1,
cL 49 f_q00l [48],
mV 6 49] [1,6])
(.seq (rg [mV 50 6,
bN 51 .neq 50 (cI 0)] [1,6,51])
(.cond 51 (.seq (rg [mV 52 6,
mV 2 52] [2])
.ret)
.skip)))
(.seq (rg [lD 53 (some 3) 1,
cL 54 f_q00n [53],
mV 7 54] [1,7])
(.seq (.seq (rg [mV 55 7,
lN 56 55,
bN 57 .gtr 56 (cI 100)] [1,7,57])
(.cond 57 (.seq (rg [mV 2 (cI 2)] [2])
.ret)
.skip))
(.seq (.seq (rg [fA 58 2 none 1,
lD 59 none 58,
lN 60 59,
mV 61 (cI 0)] [1,7,59,60,61])
(.block 3 (.loop (.scope q2))))
q3))))
def p_q009_k4 : ACode:=P_q009_k4 p_q009_k2 p_q009_k3
def P_q009 (q1 q4 : ACode) : ACode:=(.seq (rg [uO 1 (.box 0),
mV 2 (cI 0)] [1])
(.seq (.seq (rg [fA 10 0 none 1,
lD 11 none 10,
lN 12 11,
bN 13 .gtr 12 (cI 40)] [1,13])
(.cond 13 (.seq (rg [mV 2 (cI 2)] [2])
.ret)
.skip))
(.seq (.seq (rg [fA 14 0 none 1,
lD 15 none 14,
lN 16 15,
mV 17 (cI 0)] [1,15,16,17])
(.block 0 (.loop (.scope q1))))
q4)))
def a_q009 : AFun:=⟨1,[.t 2],P_q009 p_q009_k1 p_q009_k4,false,false⟩
def p_q00c_k1 : ACode:=.pr [7,8,21,22,23] (.seq (rg [bN 24 .lss 23 22] [7,8,21,22,23,24])
(.seq (.cond 24 .skip
(.exit 0))
(.seq (.block 1 (.seq (rg [iA 25 none 21 23,
lD 26 none 25,
mV 10 26] [7,8,10,21,22,23])
(rg [mV 27 8,
mV 28 7,
mV 29 10,
uO 30 (.look (none,[2]) false (AI 0) 28 29),
uO 31 (.bsl false none 1 (.int .i64 0) [(0,30)]),
uO 32 (.app none 27 31),
mV 8 32] [7,8,21,22,23])))
(rg [bN 33 .add 23 (cI 1),
mV 23 33] [7,8,21,22,23]))))
def p_q00c_k2 : ACode:=.pr [8] (.seq (rg [mV 34 8,
mV 4 34,
mV 5 (cI 0)] [4,5])
.ret)
def P_q00c (q1 q2 : ACode) : ACode:=(.seq (rg [uO 2 (.box 0),
mV 4 (.c (.p (.sl none []))),
mV 5 (cI 0)] [1,2])
(.seq (.seq (rg [lD 11 (some 3) 2,
mV 12 1,
cL 13 f_q008 [11,12],
mV 6 13] [1,2,6])
(.seq (rg [mV 14 6,
bN 15 .neq 14 (cI 0)] [1,2,6,15])
(.cond 15 (.seq (rg [mV 16 6,
mV 4 (.c (.p (.sl none []))),
mV 5 16] [4,5])
.ret)
.skip)))
(.seq (rg [lD 17 (some 3) 2,
mV 18 1,
cL 19 f_q00m [17,18],
mV 7 19] [2,7])
(.seq (rg [uO 8 (.new0 none)] [2,7,8])
(.seq (.seq (rg [lD 20 (some 3) 2,
cL 21 f_q00n [20],
lN 22 21,
mV 23 (cI 0)] [7,8,21,22,23])
(.block 0 (.loop (.scope q1))))
q2)))))
def a_q00c : AFun:=⟨2,[.t 4,.t 5],P_q00c p_q00c_k1 p_q00c_k2,false,false⟩
def P_q00d : ACode:=(.seq (rg [uO 2 (.box 0),
uO 3 (.box 1),
mV 4 (cI 0)] [2,3])
(.seq (dr [dF (fA 5 0 none 2) [2],
dF (lD 6 none 5) [5],
dF (fA 7 0 none 3) [3],
dF (lD 8 none 7) [7],
dT (cL 9 f_q04a [6,8]) [6,8],
dF (fA 10 1 none 2) [2],
dA (lD 11 none 10) [10] false [4] [],
dF (fA 12 1 none 3) [3],
dA (lD 13 none 12) [12] false [4] [],
dT (cL 14 f_q04a [11,13]) [11,13],
dF (fA 15 2 none 2) [2],
dA (lD 16 none 15) [15] false [4,9] [],
dF (fA 17 2 none 3) [3],
dA (lD 18 none 17) [17] false [4,9] [],
dT (cL 19 f_q04a [16,18]) [16,18],
dF (uO 20 (.bsl false none 3 (.int .i64 0) [(0,9),(1,14),(2,19)])) [9,14,19],
dT (cL 21 f_q00t [20]) [20],
dF (mV 4 21) [21]] [4])
.ret))
def a_q00d : AFun:=⟨2,[.t 4],P_q00d,false,false⟩
def P_q00e : ACode:=(.seq (rg [uO 2 (.box 0),
uO 3 (.box 1),
mV 4 (cI 0)] [2,3])
(.seq (.block 0 (.seq (rg [fA 6 0 none 3,
lD 7 none 6,
cL 8 f_q006 [7,(cI 1),(cI 4)],
mV 5 8] [2,3,5])
(.cond 5 (.seq (rg [mV 4 (cI 4)] [4])
.ret)
(.seq (rg [lD 10 (some 4) 3,
cL 11 f_q00k [10],
mV 12 11,
gD 13 12 true (.faddr 1 none 3),
gD 14 12 true (.load none 13),
gD 15 12 true (.call f_q004 [14]),
gD 16 12 true (.un .not 15),
uO 17 (.pick 12 16 cF),
mV 9 17] [2,3,9])
(.cond 9 (.seq (rg [mV 4 (cI 5)] [4])
.ret)
(.seq (rg [lD 19 (some 4) 3,
cL 20 f_q00k [19],
uO 21 (.un .not 20),
mV 22 21,
gD 23 22 true (.faddr 1 none 3),
gD 24 22 true (.load none 23),
gD 25 22 true (.bin .neq 24 (cS [])),
uO 26 (.pick 22 25 cF),
mV 18 26] [2,3,18])
(.cond 18 (.seq (rg [mV 4 (cI 3)] [4])
.ret)
.skip)))))))
(.seq (.seq (rg [fA 27 0 none 3,
lD 28 none 27,
bN 29 .neq 28 (cI 2)] [2,3,29])
(.cond 29 (.seq (.seq (rg [fA 30 2 none 3,
lD 31 none 30,
bN 32 .neq 31 (cI (-1)),
mV 33 32,
gD 34 33 false (.faddr 3 none 3),
gD 35 33 false (.load none 34),
gD 36 33 false (.bin .neq 35 (cI 0)),
uO 37 (.pick 33 cT 36)] [37])
(.cond 37 (.seq (rg [mV 4 (cI 3)] [4])
.ret)
.skip))
(.seq (rg [mV 4 (cI 0)] [4])
.ret))
.skip))
(.seq (.block 1 (.seq (rg [fA 39 2 none 3,
lD 40 none 39,
bN 41 .neq 40 (cI (-1)),
mV 42 41,
gD 43 42 true (.faddr 2 none 3),
gD 44 42 true (.load none 43),
gD 45 42 true (.faddr 1 none 2),
gD 46 42 true (.load none 45),
gD 47 42 true (.len 46),
gD 48 42 true (.bin .sub 47 (cI 1)),
gD 49 42 true (.call f_q006 [44,(cI 0),48]),
gD 50 42 true (.mv 49),
gD 51 50 false (.faddr 1 none 2),
gD 52 50 false (.load none 51),
gD 53 50 false (.faddr 2 none 3),
gD 54 50 false (.load none 53),
gD 55 50 false (.iaddr (some 4) 52 54),
gD 56 50 false (.faddr 0 none 55),
gD 57 50 false (.load none 56),
gD 58 50 false (.bin .neq 57 (cI 3)),
gD 59 42 true (.pick 50 cT 58),
uO 60 (.pick 42 59 cF),
mV 38 60] [3,38])
(.cond 38 (.seq (rg [mV 4 (cI 8)] [4])
.ret)
(.seq (rg [fA 62 3 none 3,
lD 63 none 62,
cL 64 f_q006 [63,(cI 0),(cI 1)],
mV 65 64,
gD 66 65 false (.faddr 2 none 3),
gD 67 65 false (.load none 66),
gD 68 65 false (.bin .eql 67 (cI (-1))),
gD 69 65 false (.mv 68),
gD 70 69 true (.faddr 3 none 3),
gD 71 69 true (.load none 70),
gD 72 69 true (.bin .neq 71 (cI 0)),
gD 73 65 false (.pick 69 72 cF),
uO 74 (.pick 65 cT 73),
mV 61 74] [61])
(.cond 61 (.seq (rg [mV 4 (cI 1)] [4])
.ret)
.skip)))))
(.seq (rg [mV 4 (cI 0)] [4])
.ret)))))
def a_q00e : AFun:=⟨2,[.t 4],P_q00e,false,false⟩
def p_q00f_k1 : ACode:=.pr [1,5,6,7,8,17,18,19,25,26,27] (rg [bN 57 .add 27 (cI 1),
mV 27 57] [1,5,6,7,8,17,18,19,25,26,27])
def P_q00f_k2 (q1 : ACode) : ACode:=.pr [1,5,6,7,8,17,18,19,25,26,27] (.seq (rg [bN 28 .lss 27 26] [1,5,6,7,8,17,18,19,25,26,27,28])
(.seq (.cond 28 .skip
(.exit 2))
(.seq (.block 3 (.seq (rg [mV 29 27,
iA 30 (some 4) 25 27,
lD 31 (some 4) 30,
uO 10 (.alloc [.p (.int .i64 0),.p (.str []),.p (.int .i64 0),.p (.int .i64 0)]),
mV 9 29,
wO (.store (some 4) 10 31)] [1,5,6,7,8,9,10,17,18,19,25,26,27])
(.seq (.seq (rg [fA 32 0 none 10,
lD 33 none 32,
mV 34 1,
bN 35 .neq 33 34] [1,5,6,7,8,9,10,17,18,19,25,26,27,35])
(.cond 35 (.exit 3)
.skip))
(.seq (rg [mV 37 5,
fA 38 0 none 8,
lD 39 none 38,
fA 40 1 none 10,
lD 41 none 40,
uO 42 (.build [.p (.str []),.p (.str [])] [(0,1,39),(1,1,41)]),
uO 43 (.look ((some 2),[2,2]) true (.p (.str [])) 37 42),
mV 36 43,
eX 44 36 0,
eX 45 36 1,
mV 11 44,
mV 12 45] [1,5,6,7,8,9,11,12,17,18,19,25,26,27])
(.seq (rg [mV 46 12] [1,5,6,7,8,9,11,17,18,19,25,26,27,46])
(.cond 46 (rg [mV 47 6,
mV 48 11,
mV 49 6,
mV 50 11,
uO 51 (.look (none,[2]) false (.sl0 (some 2)) 49 50),
mV 52 7,
mV 53 9,
uO 54 (.build [.p (.int .i64 0),.p (.int .i64 0)] [(0,1,52),(1,1,53)]),
uO 55 (.bsl false (some 2) 1 (.agg [.int .i64 0,.int .i64 0]) [(0,54)]),
uO 56 (.app (some 2) 51 55),
wO (.mupd (none,[2]) 47 48 56)] [1,5,6,7,8,17,18,19,25,26,27])
.skip))))))
q1)))
def p_q00f_k2 : ACode:=P_q00f_k2 p_q00f_k1
def p_q00f_k3 : ACode:=.pr [1,5,6,17,18,19] (rg [bN 58 .add 19 (cI 1),
mV 19 58] [1,5,6,17,18,19])
def P_q00f_k4 (q2 q3 : ACode) : ACode:=.pr [1,5,6,17,18,19] (.seq (rg [bN 20 .lss 19 18] [1,5,6,17,18,19,20])
(.seq (.cond 20 .skip
(.exit 0))
(.seq (.block 1 (.seq (rg [mV 21 19,
iA 22 (some 2) 17 19,
lD 23 (some 2) 22,
uO 8 (.alloc [.p (.str []),.sl0 (some 4)]),
mV 7 21,
wO (.store (some 2) 8 23)] [1,5,6,7,8,17,18,19])
(.seq (rg [fA 24 1 none 8,
lD 25 none 24,
lN 26 25,
mV 27 (cI 0)] [1,5,6,7,8,17,18,19,25,26,27])
(.block 2 (.loop (.scope q2))))))
q3)))
def p_q00f_k4 : ACode:=P_q00f_k4 p_q00f_k2 p_q00f_k3
def p_q00f_k5 : ACode:=.pr [6] (.seq (rg [mV 59 6,
mV 4 59] [4])
.ret)
def P_q00f (q4 q5 : ACode) : ACode:=(.seq (rg [uO 2 (.box 0),
mV 4 (.c (.nilm))] [1,2])
(.seq (rg [lD 13 (some 3) 2,
cL 14 f_q00o [13],
mV 5 14] [1,2,5])
(.seq (rg [uO 15 (.mkmap),
mV 6 15] [1,2,5,6])
(.seq (.seq (rg [fA 16 0 none 2,
lD 17 none 16,
lN 18 17,
mV 19 (cI 0)] [1,5,6,17,18,19])
(.block 0 (.loop (.scope q4))))
q5))))
def a_q00f : AFun:=⟨2,[.t 4],P_q00f p_q00f_k4 p_q00f_k5,false,false⟩
def p_q00g_k1 : ACode:=.pr [1,13,14,15] (.seq (rg [bN 16 .lss 15 14] [1,13,14,15,16])
(.seq (.cond 16 .skip
(.exit 0))
(.seq (.block 1 (.seq (rg [iA 17 (some 4) 13 15,
lD 18 (some 4) 17,
uO 4 (.alloc [.p (.int .i64 0),.p (.str []),.p (.int .i64 0),.p (.int .i64 0)]),
wO (.store (some 4) 4 18)] [1,4,13,14,15])
(.seq (rg [lD 19 (some 2) 1,
lD 20 (some 4) 4,
cL 21 f_q00e [19,20],
mV 5 21] [1,5,13,14,15])
(.seq (rg [mV 22 5,
bN 23 .neq 22 (cI 0)] [1,5,13,14,15,23])
(.cond 23 (.seq (rg [mV 24 5,
mV 2 24] [2])
.ret)
.skip)))))
(rg [bN 25 .add 15 (cI 1),
mV 15 25] [1,13,14,15]))))
def p_q00g_k2 : ACode:=.pr [1,27,28,29] (.seq (rg [bN 30 .lss 29 28] [1,27,28,29,30])
(.seq (.cond 30 .skip
(.exit 2))
(.seq (.block 3 (.seq (rg [mV 31 29,
iA 32 (some 4) 27 29,
lD 33 (some 4) 32,
uO 7 (.alloc [.p (.int .i64 0),.p (.str []),.p (.int .i64 0),.p (.int .i64 0)]),
mV 6 31,
wO (.store (some 4) 7 33)] [1,6,7,27,28,29])
(.seq (rg [lD 34 (some 4) 7,
cL 35 f_q00k [34],
mV 36 35,
gD 37 36 true (.faddr 1 none 1),
gD 38 36 true (.load none 37),
gD 39 36 true (.mv 6),
gD 40 36 true (.slice (some 4) 38 none (some 39) none),
gD 41 36 true (.mkfn f_q00h [7]),
gD 42 36 true (.call f_q02x [40,41]),
uO 43 (.pick 36 42 cF)] [1,27,28,29,43])
(.cond 43 (.seq (rg [mV 2 (cI 6)] [2])
.ret)
.skip))))
(rg [bN 44 .add 29 (cI 1),
mV 29 44] [1,27,28,29]))))
def p_q00g_k3 : ACode:=.pr [] (.seq (rg [mV 2 (cI 0)] [2])
.ret)
def P_q00g_k4 (q2 q3 : ACode) : ACode:=.pr [1] (.seq (.seq (rg [fA 26 1 none 1,
lD 27 none 26,
lN 28 27,
mV 29 (cI 0)] [1,27,28,29])
(.block 2 (.loop (.scope q2))))
q3)
def p_q00g_k4 : ACode:=P_q00g_k4 p_q00g_k2 p_q00g_k3
def P_q00g (q1 q4 : ACode) : ACode:=(.seq (rg [uO 1 (.box 0),
mV 2 (cI 0)] [1])
(.seq (.seq (rg [fA 8 1 none 1,
lD 9 none 8,
lN 10 9,
bN 11 .gtr 10 (cI 200)] [1,11])
(.cond 11 (.seq (rg [mV 2 (cI 2)] [2])
.ret)
.skip))
(.seq (.seq (rg [fA 12 1 none 1,
lD 13 none 12,
lN 14 13,
mV 15 (cI 0)] [1,13,14,15])
(.block 0 (.loop (.scope q1))))
q4)))
def a_q00g : AFun:=⟨1,[.t 2],P_q00g p_q00g_k1 p_q00g_k4,false,false⟩
def P_q00h : ACode:=(.seq (rg [uO 2 (.box 0),
mV 3 cF] [1,2])
(.seq (rg [fA 4 0 none 2,
lD 5 none 4,
fA 6 0 none 1,
lD 7 none 6,
bN 8 .eql 5 7,
mV 9 8,
gD 10 9 true (.faddr 1 none 2),
gD 11 9 true (.load none 10),
gD 12 9 true (.faddr 1 none 1),
gD 13 9 true (.load none 12),
gD 14 9 true (.bin .eql 11 13),
uO 15 (.pick 9 14 cF),
mV 3 15] [3])
.ret))
def a_q00h : AFun:=⟨2,[.t 3],P_q00h,false,false⟩
def P_q00i : ACode:=(.seq (rg [uO 2 (.box 0),
mV 4 (cI 0)] [1,2])
(.seq (rg [fA 8 0 none 2,
lD 9 none 8,
mV 10 1,
cL 11 f_q02s [9,10,(.f f_q00j)],
mV 7 11,
eX 12 7 0,
eX 13 7 1,
mV 5 12,
mV 6 13] [5,6])
(.seq (.seq (rg [mV 14 6,
uO 15 (.un .not 14)] [5,15])
(.cond 15 (.seq (rg [mV 4 (cI (-1))] [4])
.ret)
.skip))
(.seq (rg [mV 16 5,
mV 4 16] [4])
.ret))))
def a_q00i : AFun:=⟨2,[.t 4],P_q00i,false,false⟩
def P_q00j : ACode:=(.seq (rg [uO 2 (.box 0),
mV 4 (cI 0)] [1,2])
(.seq (rg [fA 5 0 none 2,
lD 6 none 5,
mV 7 1,
cL 8 f_q04a [6,7],
mV 4 8] [4])
.ret))
def a_q00j : AFun:=⟨2,[.t 4],P_q00j,false,false⟩
def P_q00k : ACode:=(.seq (rg [uO 1 (.box 0),
mV 2 cF] [1])
(.seq (rg [fA 3 0 none 1,
lD 4 none 3,
bN 5 .eql 4 (cI 1),
mV 6 5,
gD 7 6 false (.faddr 0 none 1),
gD 8 6 false (.load none 7),
gD 9 6 false (.bin .eql 8 (cI 2)),
uO 10 (.pick 6 cT 9),
mV 2 10] [2])
.ret))
def a_q00k : AFun:=⟨1,[.t 2],P_q00k,false,false⟩
def p_q00l_k1 : ACode:=.pr [1,14,15,16] (.seq (rg [bN 17 .lss 16 15] [1,14,15,16,17])
(.seq (.cond 17 .skip
(.exit 0))
(.seq (.block 1 (.seq (rg [mV 18 16,
iA 19 (some 3) 14 16,
lD 20 (some 3) 19,
uO 4 (.alloc [.p (.str []),.p (.str []),.p (.str [])]),
mV 3 18,
wO (.store (some 3) 4 20)] [1,3,4,14,15,16])
(.block 2 (.seq (rg [fA 22 0 none 4,
lD 23 none 22,
cL 24 f_q004 [23],
uO 25 (.un .not 24),
mV 21 25] [1,3,4,14,15,16,21])
(.cond 21 (.seq (rg [mV 2 (cI 5)] [2])
.ret)
(.seq (rg [lD 27 (some 3) 1,
fA 28 1 none 4,
lD 29 none 28,
fA 30 2 none 4,
lD 31 none 30,
cL 32 f_q00p [27,29,31],
uO 33 (.un .not 32),
mV 26 33] [1,3,4,14,15,16,26])
(.cond 26 (.seq (rg [mV 2 (cI 8)] [2])
.ret)
(.seq (dr [dF (mV 35 3) [3],
dF (bN 36 .gtr 35 (cI 0)) [35],
dF (mV 37 36) [36],
dF (gD 38 37 true (.load (some 3) 4)) [4,37],
dF (gD 39 37 true (.faddr 1 none 1)) [1,37],
dF (gD 40 37 true (.load none 39)) [39,37],
dF (gD 41 37 true (.mv 3)) [3,37],
dF (gD 42 37 true (.bin .sub 41 (cI 1))) [41,37],
dF (gD 43 37 true (.iaddr (some 3) 40 42)) [40,42,37],
dF (gD 44 37 true (.load (some 3) 43)) [43,37],
dT (gD 45 37 true (.call f_q00d [38,44])) [38,44,37],
dF (gD 46 37 true (.bin .leq 45 (cI 0))) [45,37],
dF (uO 47 (.pick 37 46 cF)) [37,46],
dF (mV 34 47) [47]] [1,14,15,16,34])
(.cond 34 (.seq (rg [mV 2 (cI 7)] [2])
.ret)
.skip)))))))))
(rg [bN 48 .add 16 (cI 1),
mV 16 48] [1,14,15,16]))))
def p_q00l_k2 : ACode:=.pr [5,51,52,53] (.seq (rg [bN 54 .lss 53 52] [5,51,52,53,54])
(.seq (.cond 54 .skip
(.exit 3))
(.seq (.block 4 (.seq (rg [iA 55 (some 3) 51 53,
lD 56 (some 3) 55,
uO 7 (.alloc [.p (.str []),.p (.str []),.p (.str [])]),
wO (.store (some 3) 7 56)] [5,7,51,52,53])
(.seq (rg [fA 57 1 none 7,
lD 58 none 57,
fA 59 2 none 7,
lD 60 none 59,
uO 61 (.build [.p (.str []),.p (.str [])] [(0,1,58),(1,1,60)]),
uO 8 (.alloc [.p (.str []),.p (.str [])]),
wO (.store (some 2) 8 61)] [5,8,51,52,53])
(.seq (.seq (rg [mV 62 5,
lD 63 (some 2) 8,
uO 64 (.look ((some 2),[2,2]) false (AB false) 62 63)] [5,8,51,52,53,64])
(.cond 64 (.seq (rg [mV 2 (cI 6)] [2])
.ret)
.skip))
(rg [mV 65 5,
lD 66 (some 2) 8,
wO (.mupd ((some 2),[2,2]) 65 66 cT)] [5,51,52,53])))))
(rg [bN 67 .add 53 (cI 1),
mV 53 67] [5,51,52,53]))))
def p_q00l_k3 : ACode:=.pr [] (.seq (rg [mV 2 (cI 0)] [2])
.ret)
def P_q00l_k4 (q2 q3 : ACode) : ACode:=.pr [1] (.seq (rg [uO 49 (.mkmap),
mV 5 49] [1,5])
(.seq (.seq (rg [fA 50 1 none 1,
lD 51 none 50,
lN 52 51,
mV 53 (cI 0)] [5,51,52,53])
(.block 3 (.loop (.scope q2))))
q3))
def p_q00l_k4 : ACode:=P_q00l_k4 p_q00l_k2 p_q00l_k3
def P_q00l (q1 q4 : ACode) : ACode:=(.seq (rg [uO 1 (.box 0),
mV 2 (cI 0)] [1])
(.seq (.seq (rg [fA 9 1 none 1,
lD 10 none 9,
lN 11 10,
bN 12 .gtr 11 (cI 1000)] [1,12])
(.cond 12 (.seq (rg [mV 2 (cI 2)] [2])
.ret)
.skip))
(.seq (.seq (rg [fA 13 1 none 1,
lD 14 none 13,
lN 15 14,
mV 16 (cI 0)] [1,14,15,16])
(.block 0 (.loop (.scope q1))))
q4)))
def a_q00l : AFun:=⟨1,[.t 2],P_q00l p_q00l_k1 p_q00l_k4,false,false⟩
def p_q00m_k1 : ACode:=.pr [1,2,5,20,21,22] (.seq (rg [bN 23 .lss 22 21] [1,2,5,20,21,22,23])
(.seq (.cond 23 .skip
(.exit 0))
(.seq (.block 1 (.seq (rg [iA 24 none 20 22,
lD 25 none 24,
mV 7 25] [1,2,5,7,20,21,22])
(rg [mV 26 5,
mV 27 7,
wO (.mupd (none,[2]) 26 27 (cI 2))] [1,2,5,20,21,22])))
(rg [bN 28 .add 22 (cI 1),
mV 22 28] [1,2,5,20,21,22]))))
def p_q00m_k2 : ACode:=.pr [1,2,5,30,31,32] (.seq (rg [bN 33 .lss 32 31] [1,2,5,30,31,32,33])
(.seq (.cond 33 .skip
(.exit 2))
(.seq (.block 3 (.seq (rg [iA 34 (some 2) 30 32,
lD 35 (some 2) 34,
uO 9 (.alloc [.p (.str []),.p (.int .i64 0)]),
wO (.store (some 2) 9 35)] [1,2,5,9,30,31,32])
(rg [mV 36 5,
fA 37 0 none 9,
lD 38 none 37,
fA 39 1 none 9,
lD 40 none 39,
wO (.mupd (none,[2]) 36 38 40)] [1,2,5,30,31,32])))
(rg [bN 41 .add 32 (cI 1),
mV 32 41] [1,2,5,30,31,32]))))
def p_q00m_k3 : ACode:=.pr [1,2,5,10,17,44,50,51,52] (rg [mV 100 5,
mV 101 10,
mV 102 17,
wO (.mupd (none,[2]) 100 101 102),
mV 12 cT] [1,2,5,10,12,44,50,51,52])
def p_q00m_k4 : ACode:=.pr [1,2,5,10,12,44,50,51,52] (rg [bN 103 .add 52 (cI 1),
mV 52 103] [1,2,5,10,12,44,50,51,52])
def P_q00m_k5 (q3 q4 : ACode) : ACode:=.pr [1,2,5,10,12,44,50,51,52] (.seq (rg [bN 53 .lss 52 51] [1,2,5,10,12,44,50,51,52,53])
(.seq (.cond 53 .skip
(.exit 6))
(.seq (.block 7 (.seq (rg [iA 54 (some 2) 50 52,
lD 55 (some 2) 54,
uO 14 (.alloc [.p (.int .i64 0),.p (.int .i64 0)]),
wO (.store (some 2) 14 55)] [1,2,5,10,12,14,44,50,51,52])
(.seq (dr [dF (fA 56 0 none 2) [2],
dF (lD 57 none 56) [56],
dF (fA 58 0 none 14) [14],
dF (lD 59 none 58) [58],
dF (iA 60 (some 2) 57 59) [57,59],
dF (fA 61 1 none 60) [60],
dF (lD 62 none 61) [61],
dF (fA 63 1 none 14) [14],
dF (lD 64 none 63) [63],
dF (iA 65 (some 4) 62 64) [62,64],
dF (lD 66 (some 4) 65) [65],
dF (mV 67 1) [1],
dF (fA 68 0 none 14) [14],
dF (lD 69 none 68) [68],
dF (iA 70 none 67 69) [67,69],
dF (lD 71 none 70) [70],
dA (uO 15 (.alloc [.p (.int .i64 0),.p (.str []),.p (.int .i64 0),.p (.int .i64 0)])) [] true [] [1,3,4,6,8,9,10,13,14,15],
dA (wO (.store (some 4) 15 66)) [15,66] true [] [13,14,15],
dF (mV 16 71) [71]] [1,2,5,10,12,14,15,16,44,50,51,52])
(.seq (.seq (dr [dF (fA 72 2 none 15) [15],
dF (lD 73 none 72) [72],
dF (bN 74 .geq 73 (cI 0)) [73],
dF (mV 75 74) [74],
dF (gD 76 75 true (.mv 16)) [16,75],
dF (gD 77 75 true (.faddr 2 none 15)) [15,75],
dF (gD 78 75 true (.load none 77)) [77,75],
dF (gD 79 75 true (.idxs 76 78)) [76,78,75],
dF (gD 80 75 true (.bin .sub 79 (.c (.p (.int .u8 48))))) [79,75],
dF (gD 81 75 true (.conv (.i .i64) 80)) [80,75],
dF (gD 82 75 true (.faddr 3 none 15)) [15,75],
dF (gD 83 75 true (.load none 82)) [82,75],
dF (gD 84 75 true (.bin .eql 81 83)) [81,83,75],
dF (uO 85 (.pick 75 84 cF)) [75,84]] [1,2,5,10,12,14,16,44,50,51,52,85])
(.cond 85 (.exit 7)
.skip))
(.seq (rg [mV 86 16,
fA 87 1 none 14,
lD 88 none 87,
uO 89 (.idxs 86 88),
bN 90 .sub 89 (.c (.p (.int .u8 48))),
uO 91 (.conv (.i .i64) 90),
mV 17 91] [1,2,5,10,12,17,44,50,51,52])
(.seq (.seq (rg [mV 92 12,
mV 93 92,
gD 94 93 true (.mv 5),
gD 95 93 true (.mv 10),
gD 96 93 true (.look (none,[2]) false (AI 0) 94 95),
gD 97 93 true (.mv 17),
gD 98 93 true (.bin .neq 96 97),
uO 99 (.pick 93 98 cF)] [1,2,5,10,17,44,50,51,52,99])
(.cond 99 (rg [mV 17 (cI 3)] [1,2,5,10,17,44,50,51,52])
.skip))
q3))))))
q4)))
def p_q00m_k5 : ACode:=P_q00m_k5 p_q00m_k3 p_q00m_k4
def P_q00m_k6 (q5 : ACode) : ACode:=.pr [1,2,5,44] (.seq (rg [uO 45 (.mnext none [44]),
eX 46 45 0] [1,2,5,44,46])
(.seq (.cond 46 .skip
(.exit 4))
(.block 5 (.seq (rg [uO 47 (.mentry 44),
eX 48 47 0,
eX 49 47 1,
mV 10 48,
mV 11 49] [1,2,5,10,11,44])
(.seq (rg [mV 12 cF] [1,2,5,10,11,12,44])
(.seq (rg [mV 50 11,
lN 51 50,
mV 52 (cI 0)] [1,2,5,10,12,44,50,51,52])
(.block 6 (.loop (.scope q5)))))))))
def p_q00m_k6 : ACode:=P_q00m_k6 p_q00m_k5
def p_q00m_k7 : ACode:=.pr [5] (.seq (rg [mV 104 5,
mV 4 104] [4])
.ret)
def P_q00m_k8 (q6 q7 : ACode) : ACode:=.pr [1,2,5] (.seq (.seq (rg [lD 42 (some 3) 2,
cL 43 f_q00f [42,(cI 2)],
uO 44 (.mrange 43)] [1,2,5,44])
(.block 4 (.loop (.scope q6))))
q7)
def p_q00m_k8 : ACode:=P_q00m_k8 p_q00m_k6 p_q00m_k7
def P_q00m_k9 (q2 q8 : ACode) : ACode:=.pr [1,2,5] (.seq (.seq (rg [fA 29 2 none 2,
lD 30 none 29,
lN 31 30,
mV 32 (cI 0)] [1,2,5,30,31,32])
(.block 2 (.loop (.scope q2))))
q8)
def p_q00m_k9 : ACode:=P_q00m_k9 p_q00m_k2 p_q00m_k8
def P_q00m (q1 q9 : ACode) : ACode:=(.det (.seq (rg [uO 2 (.box 0),
mV 4 (.c (.nilm))] [1,2])
(.seq (rg [uO 18 (.mkmap),
mV 5 18] [1,2,5])
(.seq (.seq (rg [lD 19 (some 3) 2,
cL 20 f_q00n [19],
lN 21 20,
mV 22 (cI 0)] [1,2,5,20,21,22])
(.block 0 (.loop q1)))
q9))))
def a_q00m : AFun:=⟨2,[.t 4],P_q00m p_q00m_k1 p_q00m_k9,false,false⟩
def p_q00n_k1 : ACode:=.pr [3,7,8,9] (.seq (rg [bN 10 .lss 9 8] [3,7,8,9,10])
(.seq (.cond 10 .skip
(.exit 0))
(.seq (.block 1 (.seq (rg [iA 11 (some 3) 7 9,
lD 12 (some 3) 11,
uO 5 (.alloc [.p (.str []),.p (.str []),.p (.str [])]),
wO (.store (some 3) 5 12)] [3,5,7,8,9])
(rg [mV 13 3,
fA 14 0 none 5,
lD 15 none 14,
uO 16 (.bsl false none 1 (.str []) [(0,15)]),
uO 17 (.app none 13 16),
mV 3 17] [3,7,8,9])))
(rg [bN 18 .add 9 (cI 1),
mV 9 18] [3,7,8,9]))))
def p_q00n_k2 : ACode:=.pr [3] (.seq (rg [mV 19 3,
cL 20 f_q02w [19],
mV 2 20] [2])
.ret)
def P_q00n (q1 q2 : ACode) : ACode:=(.seq (rg [uO 1 (.box 0),
mV 2 (.c (.p (.sl none [])))] [1])
(.seq (rg [uO 3 (.new0 none)] [1,3])
(.seq (.seq (rg [fA 6 1 none 1,
lD 7 none 6,
lN 8 7,
mV 9 (cI 0)] [3,7,8,9])
(.block 0 (.loop (.scope q1))))
q2)))
def a_q00n : AFun:=⟨1,[.t 2],P_q00n p_q00n_k1 p_q00n_k2,false,true⟩
def p_q00o_k1 : ACode:=.pr [3,8,9,10] (.seq (rg [bN 11 .lss 10 9] [3,8,9,10,11])
(.seq (.cond 11 .skip
(.exit 0))
(.seq (.block 1 (.seq (rg [iA 12 (some 3) 8 10,
lD 13 (some 3) 12,
uO 5 (.alloc [.p (.str []),.p (.str []),.p (.str [])]),
wO (.store (some 3) 5 13)] [3,5,8,9,10])
(rg [mV 14 3,
fA 15 1 none 5,
lD 16 none 15,
fA 17 2 none 5,
lD 18 none 17,
uO 19 (.build [.p (.str []),.p (.str [])] [(0,1,16),(1,1,18)]),
fA 20 0 none 5,
lD 21 none 20,
wO (.mupd ((some 2),[2,2]) 14 19 21)] [3,8,9,10])))
(rg [bN 22 .add 10 (cI 1),
mV 10 22] [3,8,9,10]))))
def p_q00o_k2 : ACode:=.pr [3] (.seq (rg [mV 23 3,
mV 2 23] [2])
.ret)
def P_q00o (q1 q2 : ACode) : ACode:=(.seq (rg [uO 1 (.box 0),
mV 2 (.c (.nilm))] [1])
(.seq (rg [uO 6 (.mkmap),
mV 3 6] [1,3])
(.seq (.seq (rg [fA 7 1 none 1,
lD 8 none 7,
lN 9 8,
mV 10 (cI 0)] [3,8,9,10])
(.block 0 (.loop (.scope q1))))
q2)))
def a_q00o : AFun:=⟨1,[.t 2],P_q00o p_q00o_k1 p_q00o_k2,false,false⟩
def P_q00p : ACode:=(.seq (rg [uO 3 (.box 0),
uO 5 (.box 2),
mV 6 cF] [1,3,5])
(.seq (rg [lD 8 (some 3) 3,
mV 9 1,
cL 10 f_q00i [8,9],
mV 7 10] [3,5,7])
(.seq (rg [mV 11 7,
bN 12 .geq 11 (cI 0),
mV 13 12,
gD 14 13 true (.faddr 0 none 3),
gD 15 13 true (.load none 14),
gD 16 13 true (.mv 7),
gD 17 13 true (.iaddr (some 2) 15 16),
gD 18 13 true (.faddr 1 none 17),
gD 19 13 true (.load none 18),
gD 20 13 true (.mkfn f_q00q [5]),
gD 21 13 true (.call f_q02x [19,20]),
uO 22 (.pick 13 21 cF),
mV 6 22] [6])
.ret)))
def a_q00p : AFun:=⟨3,[.t 6],P_q00p,false,false⟩
def P_q00q : ACode:=(.seq (rg [uO 2 (.box 0),
mV 3 cF] [1,2])
(.seq (rg [lD 4 (some 4) 2,
cL 5 f_q00k [4],
mV 6 5,
gD 7 6 true (.faddr 1 none 2),
gD 8 6 true (.load none 7),
gD 9 6 true (.load none 1),
gD 10 6 true (.bin .eql 8 9),
uO 11 (.pick 6 10 cF),
mV 3 11] [3])
.ret))
def a_q00q : AFun:=⟨2,[.t 3],P_q00q,false,false⟩
def P_q00r : ACode:=(.seq (rg [mV 4 (cI 0)] [0,1])
(.seq (rg [mV 7 0,
cL 8 f_q00u [7],
mV 5 8] [0,1,5])
(.seq (rg [mV 9 1,
cL 10 f_q00u [9],
mV 6 10] [0,1,5,6])
(.seq (.seq (rg [mV 11 5] [0,1,6,11])
(.cond 11 (.seq (.seq (rg [mV 12 6] [12])
(.cond 12 (.seq (rg [mV 4 (cI 0)] [4])
.ret)
.skip))
(.seq (rg [mV 4 (cI (-1))] [4])
.ret))
.skip))
(.seq (.seq (rg [mV 13 6] [0,1,13])
(.cond 13 (.seq (rg [mV 4 (cI 1)] [4])
.ret)
.skip))
(.seq (.seq (rg [mV 14 0,
mV 15 1,
bN 16 .lss 14 15] [0,1,16])
(.cond 16 (.seq (rg [mV 4 (cI (-1))] [4])
.ret)
.skip))
(.seq (.seq (rg [mV 17 0,
mV 18 1,
bN 19 .gtr 17 18] [19])
(.cond 19 (.seq (rg [mV 4 (cI 1)] [4])
.ret)
.skip))
(.seq (rg [mV 4 (cI 0)] [4])
.ret))))))))
def a_q00r : AFun:=⟨2,[.t 4],P_q00r,false,false⟩
def p_q00t_k1 : ACode:=.pr [3,6,7,8] (.seq (rg [bN 9 .lss 8 7] [3,6,7,8,9])
(.seq (.cond 9 .skip
(.exit 0))
(.seq (.block 1 (.seq (rg [iA 10 none 6 8,
lD 11 none 10,
mV 5 11] [3,5,6,7,8])
(.seq (rg [mV 12 5,
mV 13 3,
bN 14 .neq 12 13] [3,5,6,7,8,14])
(.cond 14 (.seq (rg [mV 15 5,
mV 2 15] [2])
.ret)
.skip))))
(rg [bN 16 .add 8 (cI 1),
mV 8 16] [3,6,7,8]))))
def p_q00t_k2 : ACode:=.pr [3] (.seq (rg [mV 17 3,
mV 2 17] [2])
.ret)
def P_q00t (q1 q2 : ACode) : ACode:=(.seq (rg [mV 2 (cI 0)] [0])
(.seq (rg [mV 3 (cI 0)] [0,3])
(.seq (.seq (rg [mV 6 0,
lN 7 6,
mV 8 (cI 0)] [3,6,7,8])
(.block 0 (.loop q1)))
q2)))
def a_q00t : AFun:=⟨1,[.t 2],P_q00t p_q00t_k1 p_q00t_k2,false,false⟩
def P_q01b : ACode:=(.seq (rg [mV 4 (cI 0)] [0,1])
(.seq (rg [mV 5 0,
mV 6 1,
cL 7 f_internal_bytealg_abigen_runtime_cmpstring [5,6],
mV 4 7] [4])
.ret))
def a_q01b : AFun:=⟨2,[.t 4],P_q01b,false,false⟩
def P_q01f : ACode:=(.seq (rg [uO 2 (.alloc [.p (.int .i64 0),.p (.int .i64 0)]),
uO 3 (.alloc [.p (.int .i64 0),.p (.int .i64 0)]),
mV 4 (cI 0)] [0,2,3])
(.seq (.seq (rg [mV 9 0,
cL 10 f_q01i [9,(cI 1)],
mV 5 10] [0,2,3,5])
(.seq (rg [mV 11 5,
bN 12 .neq 11 (cI 0)] [0,2,3,5,12])
(.cond 12 (.seq (rg [uO 13 (.build [.p (.int .i64 0),.p (.int .i64 0)] []),
uO 14 (.build [.p (.int .i64 0),.p (.int .i64 0)] []),
mV 15 5,
wO (.store (some 2) 2 13),
wO (.store (some 2) 3 14),
mV 4 15] [2,3,4])
.ret)
.skip)))
(.seq (rg [mV 17 0,
cL 18 f_q01h [17],
mV 16 18,
eX 19 16 0,
eX 20 16 1,
mV 6 19,
mV 7 20] [0,2,3,6,7])
(.seq (rg [mV 21 0,
lN 22 21,
mV 8 22] [2,3,6,7,8])
(.seq (rg [mV 23 6,
mV 24 8,
cL 25 f_q002 [23,24],
mV 26 7,
mV 27 8,
mV 28 8,
bN 29 .mul 27 28,
cL 30 f_q002 [26,29],
wO (.store (some 2) 2 25),
wO (.store (some 2) 3 30),
mV 4 (cI 0)] [2,3,4])
.ret)))))
def a_q01f : AFun:=⟨1,[.cell 2 (some 2),.cell 3 (some 2),.t 4],P_q01f,false,false⟩
def P_q01g : ACode:=(.seq (rg [mV 2 cF] [0])
(.seq (rg [mV 3 0,
cL 4 f_q006 [3,(cI (-100000)),(cI 100000)],
uO 5 (.un .not 4),
mV 2 5] [2])
.ret))
def a_q01g : AFun:=⟨1,[.t 2],P_q01g,false,false⟩
def p_q01h_k1 : ACode:=.pr [0,2,4,7,8,9] (.seq (rg [bN 10 .lss 9 8] [0,2,4,7,8,9,10])
(.seq (.cond 10 .skip
(.exit 0))
(.seq (.block 1 (.seq (rg [iA 11 none 7 9,
lD 12 none 11,
mV 6 12] [0,2,4,6,7,8,9])
(.seq (rg [mV 13 2,
mV 14 6,
bN 15 .add 13 14,
mV 2 15] [0,2,4,6,7,8,9])
(rg [mV 16 4,
mV 17 6,
mV 18 6,
bN 19 .mul 17 18,
bN 20 .add 16 19,
mV 4 20] [0,2,4,7,8,9]))))
(rg [bN 21 .add 9 (cI 1),
mV 9 21] [0,2,4,7,8,9]))))
def p_q01h_k2 : ACode:=.pr [0,2,4] (.seq (rg [mV 22 2,
mV 23 0,
lN 24 23,
mV 25 4,
bN 26 .mul 24 25,
mV 27 2,
mV 28 2,
bN 29 .mul 27 28,
bN 30 .sub 26 29,
mV 2 22,
mV 3 30] [2,3])
.ret)
def P_q01h (q1 q2 : ACode) : ACode:=(.seq (rg [mV 2 (cI 0),
mV 3 (cI 0)] [0,2])
(.seq (rg [mV 4 (cI 0)] [0,2,4])
(.seq (.seq (rg [mV 7 0,
lN 8 7,
mV 9 (cI 0)] [0,2,4,7,8,9])
(.block 0 (.loop q1)))
q2)))
def a_q01h : AFun:=⟨1,[.t 2,.t 3],P_q01h p_q01h_k1 p_q01h_k2,false,false⟩
def P_q01i : ACode:=(.seq (rg [mV 4 (cI 0)] [0,1])
(.seq (.block 0 (.seq (rg [mV 6 0,
lN 7 6,
mV 8 1,
bN 9 .lss 7 8,
mV 5 9] [0,5])
(.cond 5 (.seq (rg [mV 4 (cI 8)] [4])
.ret)
(.seq (rg [mV 11 0,
lN 12 11,
bN 13 .gtr 12 (cI 5000),
mV 10 13] [0,10])
(.cond 10 (.seq (rg [mV 4 (cI 2)] [4])
.ret)
(.seq (rg [mV 15 0,
cL 16 f_q02y [15,(.f f_q01j)],
mV 14 16] [14])
(.cond 14 (.seq (rg [mV 4 (cI 1)] [4])
.ret)
.skip)))))))
(.seq (rg [mV 4 (cI 0)] [4])
.ret)))
def a_q01i : AFun:=⟨2,[.t 4],P_q01i,false,false⟩
def P_q01j : ACode:=(.seq (rg [mV 2 cF] [0])
(.seq (rg [mV 3 0,
cL 4 f_q01g [3],
uO 5 (.un .not 4),
mV 2 5] [2])
.ret))
def a_q01j : AFun:=⟨1,[.t 2],P_q01j,false,false⟩
def P_q01v : ACode:=(.seq (rg [mV 0 cF] [])
(.seq (rg [cL 13 f_q01w [],
uO 14 (.bsl false none 1 (.str []) [(0,(cS [49]))]),
cL 15 f_q00c [13,14],
mV 12 15,
eX 16 12 0,
eX 17 12 1,
mV 1 16,
mV 2 17] [1,2])
(.seq (rg [uO 19 (.bsl false none 1 (.str []) [(0,(cS [48,49]))]),
uO 20 (.bsl false none 1 (.int .i64 0) [(0,(cI 0))]),
uO 21 (.build [.p (.int .i64 0),.sl0 none] [(0,1,(cI 2)),(1,1,20)]),
cL 22 f_q010 [19,21],
mV 18 22,
eX 23 18 0,
eX 24 18 1,
mV 3 23,
mV 4 24] [1,2,3,4])
(.seq (rg [uO 26 (.build [.p (.int .i64 0),.p (.int .i64 0),.p (.int .i64 0),.p (.str []),.p (.str []),.p (.str [])] [(0,1,(cI 7)),(3,1,(cS [49,48]))]),
uO 27 (.bsl false (some 6) 1 (.agg [.int .i64 0,.int .i64 0,.int .i64 0,.str [],.str [],.str []]) [(0,26)]),
cL 28 f_q051 [27],
mV 25 28,
eX 29 25 0,
eX 30 25 1,
mV 5 29,
mV 6 30] [1,2,3,4,5,6])
(.seq (rg [uO 32 (.bsl false none 2 (.int .i64 0) [(0,(cI 1)),(1,(cI 3))]),
cL 33 f_q01f [32],
mV 31 33,
eX 34 31 0,
eX 35 31 1,
eX 36 31 2,
uO 7 (.alloc [.p (.int .i64 0),.p (.int .i64 0)]),
uO 8 (.alloc [.p (.int .i64 0),.p (.int .i64 0)]),
wO (.store (some 2) 7 34),
wO (.store (some 2) 8 35),
mV 9 36] [1,2,3,4,5,6,7,9])
(.seq (rg [uO 38 (.bsl false none 1 (.str []) [(0,(cS [115,99,97,110]))]),
uO 39 (.build [.sl0 none,.p (.int .i64 0)] [(0,1,38),(1,1,(cI 1))]),
uO 40 (.build [.p (.str []),.p (.int .i64 0),.p (.int .i64 0),.p (.int .i64 0),.p (.str []),.p (.str []),.p (.str []),.p (.int .i64 0)] [(0,1,(cS [97])),(1,1,(cI 1)),(3,1,(cI 1)),(4,1,(cS [98]))]),
uO 41 (.bsl false (some 8) 1 (.agg [.str [],.int .i64 0,.int .i64 0,.int .i64 0,.str [],.str [],.str [],.int .i64 0]) [(0,40)]),
cL 42 f_q03q [39,41,(cS [98]),(cI 0)],
mV 37 42,
eX 43 37 0,
eX 44 37 1,
uO 10 (.alloc [.p (.int .i64 0),.p (.int .i64 0),.p (.str []),.p (.str []),.p (.int .i64 0)]),
wO (.store (some 5) 10 43),
mV 11 44] [1,2,3,4,5,6,7,9,10,11])
(.seq (rg [mV 45 2,
mV 46 4,
mV 47 6,
mV 48 9,
mV 49 11,
uO 50 (.bsl false none 5 (.int .i64 0) [(0,45),(1,46),(2,47),(3,48),(4,49)]),
cL 51 f_q01u [50],
bN 52 .eql 51 (cI 0),
mV 53 52,
gD 54 53 true (.mv 1),
gD 55 53 true (.len 54),
gD 56 53 true (.bin .eql 55 (cI 1)),
uO 57 (.pick 53 56 cF),
mV 58 57,
gD 59 58 true (.mv 1),
gD 60 58 true (.iaddr none 59 (cI 0)),
gD 61 58 true (.load none 60),
gD 62 58 true (.bin .eql 61 (cI 1)),
uO 63 (.pick 58 62 cF),
mV 64 63,
gD 65 64 true (.mv 3),
gD 66 64 true (.len 65),
gD 67 64 true (.bin .eql 66 (cI 1)),
uO 68 (.pick 64 67 cF),
mV 69 68,
gD 70 69 true (.mv 3),
gD 71 69 true (.iaddr none 70 (cI 0)),
gD 72 69 true (.load none 71),
gD 73 69 true (.bin .eql 72 (cS [49,49])),
uO 74 (.pick 69 73 cF),
mV 75 74,
gD 76 75 true (.mv 5),
gD 77 75 true (.bin .eql 76 (cI 9)),
uO 78 (.pick 75 77 cF),
mV 79 78,
gD 80 79 true (.faddr 0 none 7),
gD 81 79 true (.load none 80),
gD 82 79 true (.bin .eql 81 (cI 2)),
uO 83 (.pick 79 82 cF),
mV 84 83,
gD 85 84 true (.faddr 0 none 10),
gD 86 84 true (.load none 85),
gD 87 84 true (.bin .eql 86 (cI 1)),
uO 88 (.pick 84 87 cF),
mV 0 88] [0])
.ret)))))))
def a_q01v : AFun:=⟨0,[.t 0],P_q01v,false,false⟩
def P_q01w : ACode:=(.seq (rg [uO 0 (.alloc [.sl0 (some 2),.sl0 (some 3),.sl0 (some 2)])] [0])
(.seq (rg [uO 1 (.build [.p (.int .i64 0),.p (.str []),.p (.int .i64 0),.p (.int .i64 0)] [(0,1,(cI 2)),(1,1,(cS [97])),(2,1,(cI (-1)))]),
uO 2 (.bsl false (some 4) 1 (.agg [.int .i64 0,.str [],.int .i64 0,.int .i64 0]) [(0,1)]),
uO 3 (.build [.p (.str []),.sl0 (some 4)] [(0,1,(cS [117])),(1,1,2)]),
uO 4 (.bsl false (some 2) 1 (.agg [.str [],.sl (some 4) []]) [(0,3)]),
uO 5 (.build [.p (.str []),.p (.str []),.p (.str [])] [(0,1,(cS [110])),(1,1,(cS [117])),(2,1,(cS [97]))]),
uO 6 (.bsl false (some 3) 1 (.agg [.str [],.str [],.str []]) [(0,5)]),
uO 7 (.build [.sl0 (some 2),.sl0 (some 3),.sl0 (some 2)] [(0,1,4),(1,1,6)]),
wO (.store (some 3) 0 7)] [0])
.ret))
def a_q01w : AFun:=⟨0,[.cell 0 (some 3)],P_q01w,false,false⟩
def p_q02s_k1 : ACode:=.pr [0,1,2,8,9,10] (.seq (.seq (rg [mV 15 9,
mV 16 10,
bN 17 .lss 15 16] [0,1,2,8,9,10,17])
(.cond 17 .skip
(.exit 0)))
(.block 1 (.seq (rg [mV 18 9,
mV 19 10,
bN 20 .add 18 19,
uO 21 (.conv (.i .u64) 20),
bN 22 .shr 21 (.c (.p (.int .u64 1))),
uO 23 (.conv (.i .i64) 22),
mV 11 23] [0,1,2,8,9,10,11])
(.seq (rg [mV 24 2,
mV 25 0,
mV 26 11,
iA 27 (some 2) 25 26,
lD 28 (some 2) 27,
mV 29 1,
uO 30 (.callv 24 [28,29]),
bN 31 .lss 30 (cI 0)] [0,1,2,8,9,10,11,31])
(.cond 31 (rg [mV 32 11,
bN 33 .add 32 (cI 1),
mV 9 33] [0,1,2,8,9,10])
(rg [mV 34 11,
mV 10 34] [0,1,2,8,9,10]))))))
def p_q02s_k2 : ACode:=.pr [0,1,2,8,9] (.seq (rg [mV 35 9,
mV 36 9,
mV 37 8,
bN 38 .lss 36 37,
mV 39 38,
gD 40 39 true (.mv 2),
gD 41 39 true (.mv 0),
gD 42 39 true (.mv 9),
gD 43 39 true (.iaddr (some 2) 41 42),
gD 44 39 true (.load (some 2) 43),
gD 45 39 true (.mv 1),
gD 46 39 true (.callv 40 [44,45]),
gD 47 39 true (.bin .eql 46 (cI 0)),
uO 48 (.pick 39 47 cF),
mV 6 35,
mV 7 48] [6,7])
.ret)
def P_q02s (q1 q2 : ACode) : ACode:=(.seq (rg [mV 6 (cI 0),
mV 7 cF] [0,1,2])
(.seq (rg [mV 12 0,
lN 13 12,
mV 8 13] [0,1,2,8])
(.seq (rg [mV 14 8,
mV 9 (cI 0),
mV 10 14] [0,1,2,8,9,10])
(.seq (.block 0 (.loop q1))
q2))))
def a_q02s : AFun:=⟨3,[.t 6,.t 7],P_q02s p_q02s_k1 p_q02s_k2,false,false⟩
def p_q02w_k1 : ACode:=.pr [0,3,4,5] (rg [mV 33 5,
bN 34 .add 33 (cI 1),
mV 5 34] [0,3,4,5])
def P_q02w_k2 (q1 : ACode) : ACode:=.pr [0,3,4,5] (.seq (.seq (rg [mV 29 5,
mV 30 4,
lN 31 30,
bN 32 .lss 29 31] [0,3,4,5,32])
(.cond 32 .skip
(.exit 2)))
(.seq (.block 3 (.seq (dr [dF (mV 35 4) [4],
dF (mV 36 5) [5],
dF (iA 37 none 35 36) [35,36],
dF (lD 38 none 37) [37],
dF (mV 39 4) [4],
dF (mV 40 5) [5],
dF (bN 41 .sub 40 (cI 1)) [40],
dF (iA 42 none 39 41) [39,41],
dF (lD 43 none 42) [42],
dF (bN 44 .neq 38 43) [38,43]] [0,3,4,5,44])
(.cond 44 (.seq (rg [mV 45 0,
mV 46 3,
mV 47 4,
mV 48 5,
iA 49 none 47 48,
lD 50 none 49,
iA 51 none 45 46,
wO (.store none 51 50)] [0,3,4,5])
(rg [mV 52 3,
bN 53 .add 52 (cI 1),
mV 3 53] [0,3,4,5]))
.skip)))
q1))
def p_q02w_k2 : ACode:=P_q02w_k2 p_q02w_k1
def p_q02w_k3 : ACode:=.pr [0,3] (.seq (rg [mV 54 0,
mV 55 3,
uO 56 (.slice none 54 (some 55) none none),
wO (.clr none (.str []) 56)] [0,3])
(.seq (rg [mV 57 0,
mV 58 3,
uO 59 (.slice none 57 none (some 58) none),
mV 2 59] [2])
.ret))
def p_q02w_k4 : ACode:=.pr [0,3] (rg [mV 14 3,
bN 15 .add 14 (cI 1),
mV 3 15] [0,3])
def P_q02w_k5 (q2 q3 q4 : ACode) : ACode:=.pr [0,3] (.seq (.seq (rg [mV 10 3,
mV 11 0,
lN 12 11,
bN 13 .lss 10 12] [0,3,13])
(.cond 13 .skip
(.exit 0)))
(.seq (.block 1 (.seq (dr [dF (mV 16 0) [0],
dF (mV 17 3) [3],
dF (iA 18 none 16 17) [16,17],
dF (lD 19 none 18) [18],
dF (mV 20 0) [0],
dF (mV 21 3) [3],
dF (bN 22 .sub 21 (cI 1)) [21],
dF (iA 23 none 20 22) [20,22],
dF (lD 24 none 23) [23],
dF (bN 25 .eql 19 24) [19,24]] [0,3,25])
(.cond 25 (.seq (rg [mV 26 0,
mV 27 3,
uO 28 (.slice none 26 (some 27) none none),
mV 4 28] [0,3,4])
(.seq (.seq (rg [mV 5 (cI 1)] [0,3,4,5])
(.block 2 (.loop q2)))
q3))
.skip)))
q4))
def p_q02w_k5 : ACode:=P_q02w_k5 p_q02w_k2 p_q02w_k3 p_q02w_k4
def p_q02w_k6 : ACode:=.pr [0] (.seq (rg [mV 60 0,
mV 2 60] [2])
.ret)
def P_q02w (q5 q6 : ACode) : ACode:=(.seq (rg [mV 2 (.c (.p (.sl none [])))] [0])
(.seq (.seq (rg [mV 6 0,
lN 7 6,
bN 8 .lss 7 (cI 2)] [0,8])
(.cond 8 (.seq (rg [mV 9 0,
mV 2 9] [2])
.ret)
.skip))
(.seq (.seq (rg [mV 3 (cI 1)] [0,3])
(.block 0 (.loop q5)))
q6)))
def a_q02w : AFun:=⟨1,[.t 2],P_q02w p_q02w_k5 p_q02w_k6,true,false⟩
def P_q02x : ACode:=(.seq (rg [mV 4 cF] [0,1])
(.seq (rg [mV 5 0,
mV 6 1,
cL 7 f_q033 [5,6],
bN 8 .geq 7 (cI 0),
mV 4 8] [4])
.ret))
def a_q02x : AFun:=⟨2,[.t 4],P_q02x,true,false⟩
def P_q030 : ACode:=(.seq (rg [mV 4 cF] [0,1])
(.seq (rg [mV 5 0,
mV 6 1,
cL 7 f_q037 [5,6],
bN 8 .geq 7 (cI 0),
mV 4 8] [4])
.ret))
def a_q030 : AFun:=⟨2,[.t 4],P_q030,true,false⟩
end Go.Am
end
section
/- The functions asv abstract code,and asv formulas over their values: printed by program out of the translation. -/
set_option linter.unusedVariables false
set_option maxRecDepth 100000
namespace Go.Am
def p_q033_k1 : ACode:=.pr [0,1,7,8] (.seq (rg [bN 9 .lss 8 7] [0,1,7,8,9])
(.seq (.cond 9 .skip
(.exit 0))
(.seq (.block 1 (.seq (rg [mV 10 8,
mV 5 10] [0,1,5,7,8])
(.seq (rg [mV 11 1,
mV 12 0,
mV 13 5,
iA 14 (some 4) 12 13,
lD 15 (some 4) 14,
uO 16 (.callv 11 [15])] [0,1,5,7,8,16])
(.cond 16 (.seq (rg [mV 17 5,
mV 4 17] [4])
.ret)
.skip))))
(rg [bN 18 .add 8 (cI 1),
mV 8 18] [0,1,7,8]))))
def p_q033_k2 : ACode:=.pr [] (.seq (rg [mV 4 (cI (-1))] [4])
.ret)
def P_q033 (q1 q2 : ACode) : ACode:=(.seq (rg [mV 4 (cI 0)] [0,1])
(.seq (.seq (rg [mV 6 0,
lN 7 6,
mV 8 (cI 0)] [0,1,7,8])
(.block 0 (.loop q1)))
q2))
def a_q033 : AFun:=⟨2,[.t 4],P_q033 p_q033_k1 p_q033_k2,true,false⟩
def p_q037_k1 : ACode:=.pr [0,1,7,8] (.seq (rg [bN 9 .lss 8 7] [0,1,7,8,9])
(.seq (.cond 9 .skip
(.exit 0))
(.seq (.block 1 (.seq (rg [mV 10 8,
mV 5 10] [0,1,5,7,8])
(.seq (rg [mV 11 1,
mV 12 0,
mV 13 5,
iA 14 none 12 13,
lD 15 none 14,
bN 16 .eql 11 15] [0,1,5,7,8,16])
(.cond 16 (.seq (rg [mV 17 5,
mV 4 17] [4])
.ret)
.skip))))
(rg [bN 18 .add 8 (cI 1),
mV 8 18] [0,1,7,8]))))
def p_q037_k2 : ACode:=.pr [] (.seq (rg [mV 4 (cI (-1))] [4])
.ret)
def P_q037 (q1 q2 : ACode) : ACode:=(.seq (rg [mV 4 (cI 0)] [0,1])
(.seq (.seq (rg [mV 6 0,
lN 7 6,
mV 8 (cI 0)] [0,1,7,8])
(.block 0 (.loop q1)))
q2))
def a_q037 : AFun:=⟨2,[.t 4],P_q037 p_q037_k1 p_q037_k2,true,false⟩
def p_q03o_k1 : ACode:=.pr [0,9,10,11] (.seq (rg [bN 12 .lss 11 10] [0,9,10,11,12])
(.seq (.cond 12 .skip
(.exit 0))
(.seq (.block 1 (.seq (rg [mV 13 11,
iA 14 (some 8) 9 11,
lD 15 (some 8) 14,
uO 4 (.alloc [.p (.str []),.p (.int .i64 0),.p (.int .i64 0),.p (.int .i64 0),.p (.str []),.p (.str []),.p (.str []),.p (.int .i64 0)]),
mV 3 13,
wO (.store (some 8) 4 15)] [0,3,4,9,10,11])
(.seq (.seq (rg [lD 16 (some 8) 4,
cL 17 f_q03t [16],
mV 5 17] [0,3,4,5,9,10,11])
(.seq (rg [mV 18 5,
bN 19 .neq 18 (cI 0)] [0,3,4,5,9,10,11,19])
(.cond 19 (.seq (rg [mV 20 5,
mV 2 20] [2])
.ret)
.skip)))
(.seq (dr [dF (mV 21 3) [3],
dF (bN 22 .gtr 21 (cI 0)) [21],
dF (mV 23 22) [22],
dF (gD 24 23 true (.load (some 8) 4)) [4,23],
dF (gD 25 23 true (.mv 0)) [0,23],
dF (gD 26 23 true (.mv 3)) [3,23],
dF (gD 27 23 true (.bin .sub 26 (cI 1))) [26,23],
dF (gD 28 23 true (.iaddr (some 8) 25 27)) [25,27,23],
dF (gD 29 23 true (.load (some 8) 28)) [28,23],
dT (gD 30 23 true (.call f_q03r [24,29])) [24,29,23],
dF (gD 31 23 true (.bin .leq 30 (cI 0))) [30,23],
dF (uO 32 (.pick 23 31 cF)) [23,31]] [0,9,10,11,32])
(.cond 32 (.seq (rg [mV 2 (cI 7)] [2])
.ret)
.skip)))))
(rg [bN 33 .add 11 (cI 1),
mV 11 33] [0,9,10,11]))))
def p_q03o_k2 : ACode:=.pr [0] (.seq (.seq (rg [mV 34 0,
cL 35 f_q042 [34]] [35])
(.cond 35 (.seq (rg [mV 2 (cI 6)] [2])
.ret)
.skip))
(.seq (rg [mV 2 (cI 0)] [2])
.ret))
def P_q03o (q1 q2 : ACode) : ACode:=(.seq (rg [mV 2 (cI 0)] [0])
(.seq (.seq (rg [mV 6 0,
lN 7 6,
bN 8 .gtr 7 (cI 2000)] [0,8])
(.cond 8 (.seq (rg [mV 2 (cI 2)] [2])
.ret)
.skip))
(.seq (.seq (rg [mV 9 0,
lN 10 9,
mV 11 (cI 0)] [0,9,10,11])
(.block 0 (.loop (.scope q1))))
q2)))
def a_q03o : AFun:=⟨1,[.t 2],P_q03o p_q03o_k1 p_q03o_k2,false,false⟩
def p_q03p_k1 : ACode:=.pr [1,16,17,18] (.seq (rg [bN 19 .lss 18 17] [1,16,17,18,19])
(.seq (.cond 19 .skip
(.exit 1))
(.seq (.block 2 (.seq (rg [mV 20 18,
iA 21 none 16 18,
lD 22 none 21,
mV 3 20,
mV 4 22] [1,3,4,16,17,18])
(.block 3 (.seq (rg [mV 24 4,
cL 25 f_q004 [24],
uO 26 (.un .not 25),
mV 23 26] [1,3,4,16,17,18,23])
(.cond 23 (.seq (rg [mV 2 (cI 5)] [2])
.ret)
(.seq (rg [fA 28 0 none 1,
lD 29 none 28,
mV 30 3,
uO 31 (.slice none 29 none (some 30) none),
mV 32 4,
cL 33 f_q030 [31,32],
mV 27 33] [1,16,17,18,27])
(.cond 27 (.seq (rg [mV 2 (cI 6)] [2])
.ret)
.skip)))))))
(rg [bN 34 .add 18 (cI 1),
mV 18 34] [1,16,17,18]))))
def p_q03p_k2 : ACode:=.pr [1] (.seq (.seq (rg [fA 35 1 none 1,
lD 36 none 35,
cL 37 f_q006 [36,(cI 1),(cI 10)]] [37])
(.cond 37 (.seq (rg [mV 2 (cI 1)] [2])
.ret)
.skip))
(.seq (rg [mV 2 (cI 0)] [2])
.ret))
def P_q03p (q1 q2 : ACode) : ACode:=(.seq (rg [uO 1 (.box 0),
mV 2 (cI 0)] [1])
(.seq (.block 0 (.seq (rg [fA 6 0 none 1,
lD 7 none 6,
lN 8 7,
bN 9 .eql 8 (cI 0),
mV 5 9] [1,5])
(.cond 5 (.seq (rg [mV 2 (cI 8)] [2])
.ret)
(.seq (rg [fA 11 0 none 1,
lD 12 none 11,
lN 13 12,
bN 14 .gtr 13 (cI 20),
mV 10 14] [1,10])
(.cond 10 (.seq (rg [mV 2 (cI 2)] [2])
.ret)
.skip)))))
(.seq (.seq (rg [fA 15 0 none 1,
lD 16 none 15,
lN 17 16,
mV 18 (cI 0)] [1,16,17,18])
(.block 1 (.loop q1)))
q2)))
def a_q03p : AFun:=⟨1,[.t 2],P_q03p p_q03p_k1 p_q03p_k2,false,false⟩
def P_q03q : ACode:=(.seq (rg [uO 4 (.box 0),
uO 8 (.alloc [.p (.int .i64 0),.p (.int .i64 0),.p (.str []),.p (.str []),.p (.int .i64 0)]),
mV 9 (cI 0)] [1,2,3,4,8])
(.seq (.seq (rg [lD 12 (some 2) 4,
mV 13 1,
mV 14 3,
cL 15 f_q03u [12,13,14],
mV 10 15] [1,2,3,4,8,10])
(.seq (rg [mV 16 10,
bN 17 .neq 16 (cI 0)] [1,2,3,4,8,10,17])
(.cond 17 (.seq (rg [uO 18 (.build [.p (.int .i64 0),.p (.int .i64 0),.p (.str []),.p (.str []),.p (.int .i64 0)] []),
mV 19 10,
wO (.store (some 5) 8 18),
mV 9 19] [8,9])
.ret)
.skip)))
(.seq (.seq (rg [mV 20 2,
cL 21 f_q004 [20],
uO 22 (.un .not 21)] [1,2,3,4,8,22])
(.cond 22 (.seq (rg [uO 23 (.build [.p (.int .i64 0),.p (.int .i64 0),.p (.str []),.p (.str []),.p (.int .i64 0)] []),
wO (.store (some 5) 8 23),
mV 9 (cI 5)] [8,9])
.ret)
.skip))
(.seq (dr [dF (lD 24 (some 2) 4) [4],
dF (mV 25 1) [1],
dF (mV 26 3) [3],
dA (cL 27 f_q043 [25,26]) [25,26] true [] [0],
dT (cL 28 f_q040 [24,27]) [24,27],
dF (uO 29 (.nilchk 28)) [28],
dF (fA 30 2 none 29) [29],
dF (lD 31 none 30) [30],
dF (mV 32 2) [2],
dF (uO 33 (.look (none,[2]) false (.nilp) 31 32)) [31,32],
dF (mV 11 33) [33]] [8,11])
(.seq (.seq (rg [mV 34 11,
uO 35 (.isnil 0 false 34)] [8,11,35])
(.cond 35 (.seq (rg [uO 36 (.build [.p (.int .i64 0),.p (.int .i64 0),.p (.str []),.p (.str []),.p (.int .i64 0)] []),
wO (.store (some 5) 8 36),
mV 9 (cI 8)] [8,9])
.ret)
.skip))
(.seq (rg [mV 37 11,
uO 38 (.nilchk 37),
lD 39 (some 5) 38,
wO (.store (some 5) 8 39),
mV 9 (cI 0)] [8,9])
.ret))))))
def a_q03q : AFun:=⟨4,[.cell 8 (some 5),.t 9],P_q03q,false,false⟩
def P_q03r : ACode:=(.seq (rg [uO 2 (.box 0),
uO 3 (.box 1),
mV 4 (cI 0)] [2,3])
(.seq (dr [dF (fA 5 2 none 2) [2],
dF (lD 6 none 5) [5],
dF (fA 7 2 none 3) [3],
dF (lD 8 none 7) [7],
dT (cL 9 f_q00r [6,8]) [6,8],
dF (fA 10 0 none 2) [2],
dA (lD 11 none 10) [10] false [4] [],
dF (fA 12 0 none 3) [3],
dA (lD 13 none 12) [12] false [4] [],
dT (cL 14 f_q04a [11,13]) [11,13],
dF (fA 15 1 none 2) [2],
dA (lD 16 none 15) [15] false [4,9] [],
dF (fA 17 1 none 3) [3],
dA (lD 18 none 17) [17] false [4,9] [],
dT (cL 19 f_q00r [16,18]) [16,18],
dF (uO 20 (.bsl false none 3 (.int .i64 0) [(0,9),(1,14),(2,19)])) [9,14,19],
dT (cL 21 f_q00t [20]) [20],
dF (mV 4 21) [21]] [4])
.ret))
def a_q03r : AFun:=⟨2,[.t 4],P_q03r,false,false⟩
def p_q03s_k1 : ACode:=.pr [0,3,4,5] (rg [mV 16 5,
bN 17 .sub 16 (cI 1),
mV 5 17] [0,3,4,5])
def P_q03s_k2 (q1 : ACode) : ACode:=.pr [0,3,4,5] (.seq (.seq (rg [mV 14 5,
bN 15 .geq 14 (cI 0)] [0,3,4,5,15])
(.cond 15 .skip
(.exit 0)))
(.seq (.block 1 (.seq (rg [mV 18 0,
mV 19 5,
iA 20 (some 8) 18 19,
lD 21 (some 8) 20,
uO 6 (.alloc [.p (.str []),.p (.int .i64 0),.p (.int .i64 0),.p (.int .i64 0),.p (.str []),.p (.str []),.p (.str []),.p (.int .i64 0)]),
wO (.store (some 8) 6 21)] [0,3,4,5,6])
(.seq (rg [mV 22 4,
mV 23 5,
mV 24 3,
fA 25 0 none 6,
lD 26 none 25,
fA 27 1 none 6,
lD 28 none 27,
uO 29 (.build [.p (.str []),.p (.int .i64 0)] [(0,1,26),(1,1,28)]),
uO 30 (.look ((some 2),[2,0]) false (AB false) 24 29),
uO 31 (.un .not 30),
iA 32 none 22 23,
wO (.store none 32 31)] [0,3,4,5,6])
(.seq (rg [mV 33 4,
mV 34 5,
iA 35 none 33 34,
lD 36 none 35,
mV 37 36,
gD 38 37 true (.faddr 3 none 6),
gD 39 37 true (.load none 38),
gD 40 37 true (.bin .eql 39 (cI 7)),
uO 41 (.pick 37 40 cF)] [0,3,4,5,6,41])
(.cond 41 (rg [mV 42 3,
fA 43 6 none 6,
lD 44 none 43,
fA 45 7 none 6,
lD 46 none 45,
uO 47 (.build [.p (.str []),.p (.int .i64 0)] [(0,1,44),(1,1,46)]),
wO (.mupd ((some 2),[2,0]) 42 47 cT)] [0,3,4,5])
.skip)))))
q1))
def p_q03s_k2 : ACode:=P_q03s_k2 p_q03s_k1
def p_q03s_k3 : ACode:=.pr [4] (.seq (rg [mV 48 4,
mV 2 48] [2])
.ret)
def P_q03s (q2 q3 : ACode) : ACode:=(.seq (rg [mV 2 (.c (.p (.sl none [])))] [0])
(.seq (rg [uO 7 (.mkmap),
mV 3 7] [0,3])
(.seq (rg [mV 8 0,
lN 9 8,
uO 10 (.mksl none (.bool false) 9 9),
mV 4 10] [0,3,4])
(.seq (.seq (rg [mV 11 0,
lN 12 11,
bN 13 .sub 12 (cI 1),
mV 5 13] [0,3,4,5])
(.block 0 (.loop (.scope q2))))
q3))))
def a_q03s : AFun:=⟨1,[.t 2],P_q03s p_q03s_k2 p_q03s_k3,false,false⟩
def P_q03t : ACode:=(.seq (rg [uO 1 (.box 0),
mV 2 (cI 0)] [1])
(.seq (dr [dF (fA 5 3 none 1) [1],
dF (lD 6 none 5) [5],
dF (bN 7 .eql 6 (cI 7)) [6],
dF (fA 8 3 none 1) [1],
dF (lD 9 none 8) [8],
dF (bN 10 .eql 9 (cI 2)) [9],
dF (mV 3 7) [7],
dF (mV 4 10) [10]] [1,3,4])
(.seq (.block 0 (.seq (rg [fA 12 0 none 1,
lD 13 none 12,
cL 14 f_q004 [13],
uO 15 (.un .not 14),
mV 11 15] [1,3,4,11])
(.cond 11 (.seq (rg [mV 2 (cI 5)] [2])
.ret)
(.seq (rg [fA 17 1 none 1,
lD 18 none 17,
cL 19 f_q006 [18,(cI 1),(cI 1000000)],
mV 20 19,
gD 21 20 false (.faddr 2 none 1),
gD 22 20 false (.load none 21),
gD 23 20 false (.call f_q005 [22]),
gD 24 20 false (.un .not 23),
uO 25 (.pick 20 cT 24),
mV 16 25] [1,3,4,16])
(.cond 16 (.seq (rg [mV 2 (cI 1)] [2])
.ret)
(.seq (rg [fA 27 3 none 1,
lD 28 none 27,
cL 29 f_q006 [28,(cI 1),(cI 7)],
mV 26 29] [1,3,4,26])
(.cond 26 (.seq (rg [mV 2 (cI 4)] [2])
.ret)
(.seq (rg [mV 31 3,
uO 32 (.un .not 31),
mV 33 32,
gD 34 33 true (.faddr 4 none 1),
gD 35 33 true (.load none 34),
gD 36 33 true (.call f_q004 [35]),
gD 37 33 true (.un .not 36),
uO 38 (.pick 33 37 cF),
mV 39 38,
gD 40 39 false (.mv 4),
gD 41 39 false (.mv 40),
gD 42 41 true (.faddr 5 none 1),
gD 43 41 true (.load none 42),
gD 44 41 true (.call f_q004 [43]),
gD 45 41 true (.un .not 44),
gD 46 39 false (.pick 41 45 cF),
uO 47 (.pick 39 cT 46),
mV 48 47,
gD 49 48 false (.mv 3),
gD 50 48 false (.mv 49),
gD 51 50 true (.faddr 6 none 1),
gD 52 50 true (.load none 51),
gD 53 50 true (.call f_q004 [52]),
gD 54 50 true (.un .not 53),
gD 55 48 false (.pick 50 54 cF),
uO 56 (.pick 48 cT 55),
mV 30 56] [1,3,4,30])
(.cond 30 (.seq (rg [mV 2 (cI 5)] [2])
.ret)
(.seq (rg [mV 58 3,
mV 59 58,
gD 60 59 true (.faddr 7 none 1),
gD 61 59 true (.load none 60),
gD 62 59 true (.call f_q006 [61,(cI 1),(cI 1000000)]),
uO 63 (.pick 59 62 cF),
mV 57 63] [1,3,4,57])
(.cond 57 (.seq (rg [mV 2 (cI 1)] [2])
.ret)
(.seq (rg [mV 65 3,
mV 66 65,
gD 67 66 true (.faddr 4 none 1),
gD 68 66 true (.load none 67),
gD 69 66 true (.bin .neq 68 (cS [])),
uO 70 (.pick 66 69 cF),
mV 71 70,
gD 72 71 false (.mv 4),
gD 73 71 false (.un .not 72),
gD 74 71 false (.mv 73),
gD 75 74 true (.faddr 5 none 1),
gD 76 74 true (.load none 75),
gD 77 74 true (.bin .neq 76 (cS [])),
gD 78 71 false (.pick 74 77 cF),
uO 79 (.pick 71 cT 78),
mV 80 79,
gD 81 80 false (.mv 3),
gD 82 80 false (.un .not 81),
gD 83 80 false (.mv 82),
gD 84 83 true (.faddr 6 none 1),
gD 85 83 true (.load none 84),
gD 86 83 true (.bin .neq 85 (cS [])),
gD 87 83 true (.mv 86),
gD 88 87 false (.faddr 7 none 1),
gD 89 87 false (.load none 88),
gD 90 87 false (.bin .neq 89 (cI 0)),
gD 91 83 true (.pick 87 cT 90),
gD 92 80 false (.pick 83 91 cF),
uO 93 (.pick 80 cT 92),
mV 64 93] [64])
(.cond 64 (.seq (rg [mV 2 (cI 3)] [2])
.ret)
.skip)))))))))))))
(.seq (rg [mV 2 (cI 0)] [2])
.ret))))
def a_q03t : AFun:=⟨1,[.t 2],P_q03t,false,false⟩
def P_q03u : ACode:=(.seq (rg [uO 3 (.box 0),
mV 6 (cI 0)] [1,2,3])
(.seq (rg [lD 7 (some 2) 3,
cL 8 f_q03p [7],
mV 9 1,
cL 10 f_q03o [9],
mV 11 2,
cL 12 f_q041 [11],
uO 13 (.bsl false none 3 (.int .i64 0) [(0,8),(1,10),(2,12)]),
cL 14 f_q001 [13],
mV 6 14] [6])
.ret))
def a_q03u : AFun:=⟨3,[.t 6],P_q03u,false,false⟩
def P_q03v : ACode:=(.seq (rg [mV 4 (cI 0)] [0,1])
(.seq (rg [mV 5 0,
uO 6 (.nilchk 5),
fA 7 0 (some 2) 6,
fA 8 0 none 7,
lD 9 none 8,
mV 10 1,
cL 11 f_q037 [9,10],
mV 4 11] [4])
.ret))
def a_q03v : AFun:=⟨2,[.t 4],P_q03v,false,false⟩
def p_q03w_k1 : ACode:=.pr [] (.seq (rg [mV 6 (cI 0)] [6])
.ret)
def p_q03w_k2 : ACode:=.pr [] (.seq (rg [mV 6 (cI 0)] [6])
.ret)
def P_q03w_k3 (q2 : ACode) : ACode:=.pr [0,1] (.seq (rg [mV 98 1,
uO 99 (.nilchk 98),
fA 100 4 none 99,
lD 101 none 100,
bN 102 .add 101 (cI 1),
uO 103 (.nilchk 98),
fA 104 4 none 103,
wO (.store none 104 102)] [0,1])
(.seq (rg [mV 105 1,
uO 106 (.nilchk 105),
fA 107 0 none 106,
wO (.store none 107 (cI 3))] [0,1])
(.seq (.seq (dr [dF (mV 108 1) [1],
dF (uO 109 (.nilchk 108)) [108],
dF (fA 110 4 none 109) [109],
dF (lD 111 none 110) [110],
dF (mV 112 0) [0],
dF (uO 113 (.nilchk 112)) [112],
dF (fA 114 0 (some 2) 113) [113],
dF (fA 115 1 none 114) [114],
dF (lD 116 none 115) [115],
dF (bN 117 .eql 111 116) [111,116]] [1,117])
(.cond 117 (rg [mV 118 1,
uO 119 (.nilchk 118),
fA 120 0 none 119,
wO (.store none 120 (cI 5))] [])
.skip))
q2)))
def p_q03w_k3 : ACode:=P_q03w_k3 p_q03w_k2
def P_q03w (q1 q3 : ACode) : ACode:=(.seq (rg [uO 5 (.box 2),
mV 6 (cI 0)] [0,1,5])
(.seq (.block 0 (.seq (rg [mV 10 1,
uO 11 (.nilchk 10),
fA 12 0 none 11,
lD 13 none 12,
bN 14 .neq 13 (cI 2),
mV 9 14] [0,1,5,9])
(.cond 9 (.seq (rg [mV 6 (cI 11)] [6])
.ret)
(.seq (dr [dF (mV 16 1) [1],
dF (uO 17 (.nilchk 16)) [16],
dF (fA 18 3 none 17) [17],
dF (lD 19 none 18) [18],
dF (fA 20 0 none 5) [5],
dF (lD 21 none 20) [20],
dF (bN 22 .neq 19 21) [19,21],
dF (mV 15 22) [22]] [0,1,5,15])
(.cond 15 (.seq (rg [mV 6 (cI 13)] [6])
.ret)
.skip)))))
(.seq (rg [fA 23 3 none 5,
lD 24 none 23,
bN 25 .eql 24 (cI 3),
mV 7 25] [0,1,5,7])
(.seq (dr [dF (mV 26 0) [0],
dF (mV 27 0) [0],
dF (uO 28 (.nilchk 27)) [27],
dF (fA 29 4 none 28) [28],
dF (lD 30 none 29) [29],
dF (fA 31 4 none 5) [5],
dF (lD 32 none 31) [31],
dF (mV 33 1) [1],
dF (uO 34 (.nilchk 33)) [33],
dF (fA 35 2 none 34) [34],
dF (lD 36 none 35) [35],
dF (mV 37 1) [1],
dF (uO 38 (.nilchk 37)) [37],
dF (fA 39 1 none 38) [38],
dF (lD 40 none 39) [39],
dF (fA 41 2 none 5) [5],
dF (lD 42 none 41) [41],
dF (mV 43 7) [7],
dF (uO 44 (.build [.p (.str []),.p (.str []),.p (.int .i64 0),.p (.int .i64 0),.p (.bool false)] [(0,1,32),(1,1,36),(2,1,40),(3,1,42),(4,1,43)])) [32,36,40,42,43],
dF (uO 45 (.bsl false (some 5) 1 (.agg [.str [],.str [],.int .i64 0,.int .i64 0,.bool false]) [(0,44)])) [44],
dT (uO 46 (.app (some 5) 30 45)) [30,45],
dF (uO 47 (.nilchk 26)) [26],
dF (fA 48 4 none 47) [47],
dT (wO (.store none 48 46)) [48,46]] [0,1,5,7])
(.seq (rg [mV 49 0,
mV 50 1,
fA 51 2 none 5,
lD 52 none 51,
cL 53 f_q03x [49,50,52]] [0,1,5,7])
(.seq (rg [mV 54 1,
fA 55 2 none 5,
lD 56 none 55,
uO 57 (.nilchk 54),
fA 58 1 none 57,
wO (.store none 58 56)] [0,1,7])
(.seq (.seq (rg [mV 59 7] [0,1,59])
(.cond 59 (.seq (rg [mV 60 1,
uO 61 (.nilchk 60),
fA 62 4 none 61,
wO (.store none 62 (cI 0))] [0,1])
(.seq (rg [mV 63 0,
mV 64 1,
uO 65 (.nilchk 64),
fA 66 2 none 65,
lD 67 none 66,
cL 68 f_q03v [63,67],
bN 69 .add 68 (cI 1),
mV 8 69] [0,1,8])
(.seq (.seq (rg [mV 70 8,
mV 71 0,
uO 72 (.nilchk 71),
fA 73 0 (some 2) 72,
fA 74 0 none 73,
lD 75 none 74,
lN 76 75,
bN 77 .eql 70 76] [0,1,8,77])
(.cond 77 (rg [mV 78 1,
mV 79 1,
uO 80 (.nilchk 78),
fA 81 0 none 80,
wO (.store none 81 (cI 4)),
uO 82 (.nilchk 79),
fA 83 2 none 82,
wO (.store none 83 (cS []))] [])
(rg [mV 84 1,
mV 85 1,
mV 86 0,
uO 87 (.nilchk 86),
fA 88 0 (some 2) 87,
fA 89 0 none 88,
lD 90 none 89,
mV 91 8,
iA 92 none 90 91,
lD 93 none 92,
uO 94 (.nilchk 84),
fA 95 0 none 94,
wO (.store none 95 (cI 1)),
uO 96 (.nilchk 85),
fA 97 2 none 96,
wO (.store none 97 93)] [])))
q1)))
.skip))
q3)))))))
def a_q03w : AFun:=⟨3,[.t 6],P_q03w p_q03w_k1 p_q03w_k3,false,false⟩
def p_q03x_k1 : ACode:=.pr [0,1,2,11,12] (rg [bN 47 .add 12 (cI 1),
mV 12 47] [0,1,2,11,12])
def P_q03x_k2 (q1 : ACode) : ACode:=.pr [0,1,2,11,12] (.seq (rg [bN 13 .lss 12 11] [0,1,2,11,12,13])
(.seq (.cond 13 .skip
(.exit 0))
(.seq (.block 1 (.seq (rg [mV 14 12,
mV 6 14] [0,1,2,6,11,12])
(.seq (dr [dF (mV 15 0) [0],
dF (uO 16 (.nilchk 15)) [15],
dF (fA 17 5 none 16) [16],
dF (lD 18 none 17) [17],
dF (mV 19 6) [6],
dF (iA 20 (some 3) 18 19) [18,19],
dF (fA 21 0 none 20) [20],
dF (lD 22 none 21) [21],
dF (mV 23 1) [1],
dF (uO 24 (.nilchk 23)) [23],
dF (fA 25 3 none 24) [24],
dF (lD 26 none 25) [25],
dF (bN 27 .eql 22 26) [22,26],
dF (mV 28 27) [27],
dF (gD 29 28 true (.mv 0)) [0,28],
dF (gD 30 28 true (.nilchk 29)) [29,28],
dF (gD 31 28 true (.faddr 5 none 30)) [30,28],
dF (gD 32 28 true (.load none 31)) [31,28],
dF (gD 33 28 true (.mv 6)) [6,28],
dF (gD 34 28 true (.iaddr (some 3) 32 33)) [32,33,28],
dF (gD 35 28 true (.faddr 2 none 34)) [34,28],
dF (gD 36 28 true (.load none 35)) [35,28],
dF (gD 37 28 true (.bin .lss 36 (cI 0))) [36,28],
dF (uO 38 (.pick 28 37 cF)) [28,37]] [0,1,2,6,11,12,38])
(.cond 38 (rg [mV 39 0,
uO 40 (.nilchk 39),
fA 41 5 none 40,
lD 42 none 41,
mV 43 6,
mV 44 2,
iA 45 (some 3) 42 43,
fA 46 2 none 45,
wO (.store none 46 44)] [0,1,2,11,12])
.skip))))
q1)))
def p_q03x_k2 : ACode:=P_q03x_k2 p_q03x_k1
def p_q03x_k3 : ACode:=.pr [0,1] (.seq (dr [dF (mV 48 0) [0],
dF (uO 49 (.nilchk 48)) [48],
dF (fA 50 3 none 49) [49],
dF (lD 51 none 50) [50],
dF (mV 52 1) [1],
dF (uO 53 (.nilchk 52)) [52],
dF (fA 54 3 none 53) [53],
dF (lD 55 none 54) [54],
dT (wO (.mdel (none,[2]) 51 55)) [51,55]] [1])
(rg [mV 56 1,
uO 57 (.nilchk 56),
fA 58 3 none 57,
wO (.store none 58 (cS []))] []))
def P_q03x (q2 q3 : ACode) : ACode:=(.seq (.seq (rg [mV 7 0,
uO 8 (.nilchk 7),
fA 9 5 none 8,
lD 10 none 9,
lN 11 10,
mV 12 (cI 0)] [0,1,2,11,12])
(.block 0 (.loop q2)))
q3)
def a_q03x : AFun:=⟨3,[],P_q03x p_q03x_k2 p_q03x_k3,false,false⟩
def P_q03y : ACode:=(.seq (rg [uO 5 (.box 2),
mV 6 (cI 0)] [0,1,5])
(.seq (dr [dF (mV 10 0) [0],
dF (uO 11 (.nilchk 10)) [10],
dF (fA 12 3 none 11) [11],
dF (lD 13 none 12) [12],
dF (fA 14 0 none 5) [5],
dF (lD 15 none 14) [14],
dF (uO 16 (.look (none,[2]) true (.p (.str [])) 13 15)) [13,15],
dF (mV 9 16) [16],
dF (eX 17 9 0) [9],
dF (eX 18 9 1) [9],
dF (mV 7 17) [17],
dF (mV 8 18) [18]] [0,1,5,8])
(.seq (.block 0 (.seq (rg [mV 20 1,
uO 21 (.nilchk 20),
fA 22 0 none 21,
lD 23 none 22,
bN 24 .neq 23 (cI 1),
mV 19 24] [0,1,5,8,19])
(.cond 19 (.seq (rg [mV 6 (cI 11)] [6])
.ret)
(.seq (dr [dF (fA 26 5 none 5) [5],
dF (lD 27 none 26) [26],
dF (mV 28 1) [1],
dF (uO 29 (.nilchk 28)) [28],
dF (fA 30 2 none 29) [29],
dF (lD 31 none 30) [30],
dF (bN 32 .neq 27 31) [27,31],
dF (mV 25 32) [32]] [0,1,5,8,25])
(.cond 25 (.seq (rg [mV 6 (cI 3)] [6])
.ret)
(.seq (rg [mV 34 8,
mV 33 34] [0,1,5,33])
(.cond 33 (.seq (rg [mV 6 (cI 12)] [6])
.ret)
.skip)))))))
(.seq (dr [dF (mV 35 1) [1],
dF (mV 36 1) [1],
dF (mV 37 1) [1],
dF (fA 38 2 none 5) [5],
dF (lD 39 none 38) [38],
dF (fA 40 0 none 5) [5],
dF (lD 41 none 40) [40],
dF (uO 42 (.nilchk 35)) [35],
dF (fA 43 0 none 42) [42],
dA (wO (.store none 43 (cI 2))) [43] true [] [4,6],
dF (uO 44 (.nilchk 36)) [36],
dF (fA 45 1 none 44) [44],
dA (wO (.store none 45 39)) [45,39] true [] [6],
dF (uO 46 (.nilchk 37)) [37],
dF (fA 47 3 none 46) [46],
dT (wO (.store none 47 41)) [47,41]] [0,5])
(.seq (dr [dF (mV 48 0) [0],
dF (uO 49 (.nilchk 48)) [48],
dF (fA 50 3 none 49) [49],
dF (lD 51 none 50) [50],
dF (fA 52 0 none 5) [5],
dF (lD 53 none 52) [52],
dF (fA 54 4 none 5) [5],
dF (lD 55 none 54) [54],
dT (wO (.mupd (none,[2]) 51 53 55)) [51,53,55]] [0,5])
(.seq (dr [dF (mV 56 0) [0],
dF (mV 57 0) [0],
dF (uO 58 (.nilchk 57)) [57],
dF (fA 59 5 none 58) [58],
dF (lD 60 none 59) [59],
dF (fA 61 0 none 5) [5],
dF (lD 62 none 61) [61],
dF (fA 63 2 none 5) [5],
dF (lD 64 none 63) [63],
dF (uO 65 (.build [.p (.str []),.p (.int .i64 0),.p (.int .i64 0)] [(0,1,62),(1,1,64),(2,1,(cI (-1)))])) [62,64],
dF (uO 66 (.bsl false (some 3) 1 (.agg [.str [],.int .i64 0,.int .i64 0]) [(0,65)])) [65],
dT (uO 67 (.app (some 3) 60 66)) [60,66],
dF (uO 68 (.nilchk 56)) [56],
dF (fA 69 5 none 68) [68],
dT (wO (.store none 69 67)) [69,67]] [])
(.seq (rg [mV 6 (cI 0)] [6])
.ret)))))))
def a_q03y : AFun:=⟨3,[.t 6],P_q03y,false,false⟩
def p_q03z_k1 : ACode:=.pr [0,3,5,38,45] (.cond 45 (.seq (rg [mV 48 0,
mV 49 5,
lD 50 (some 8) 3,
cL 51 f_q03w [48,49,50],
mV 4 51] [4])
.ret)
(.seq (rg [bN 53 .eql 38 (cI 5),
mV 52 53] [0,3,5,52])
(.cond 52 (.seq (.seq (rg [mV 54 5,
uO 55 (.nilchk 54),
fA 56 0 none 55,
lD 57 none 56,
bN 58 .neq 57 (cI 3)] [3,5,58])
(.cond 58 (.seq (rg [mV 4 (cI 11)] [4])
.ret)
.skip))
(.seq (dr [dF (mV 59 5) [5],
dF (mV 60 5) [5],
dF (fA 61 2 none 3) [3],
dF (lD 62 none 61) [61],
dF (uO 63 (.nilchk 59)) [59],
dF (fA 64 0 none 63) [63],
dA (wO (.store none 64 (cI 1))) [64] true [] [3],
dF (uO 65 (.nilchk 60)) [60],
dF (fA 66 1 none 65) [65],
dT (wO (.store none 66 62)) [66,62]] [])
(.seq (rg [mV 4 (cI 0)] [4])
.ret)))
.skip)))
def p_q03z_k2 : ACode:=.pr [3,5] (.seq (dr [dF (mV 89 5) [5],
dF (mV 90 5) [5],
dF (fA 91 2 none 3) [3],
dF (lD 92 none 91) [91],
dF (uO 93 (.nilchk 89)) [89],
dF (fA 94 0 none 93) [93],
dA (wO (.store none 94 (cI 5))) [94] true [] [3],
dF (uO 95 (.nilchk 90)) [90],
dF (fA 96 1 none 95) [95],
dT (wO (.store none 96 92)) [96,92]] [])
(.seq (rg [mV 4 (cI 0)] [4])
.ret))
def P_q03z_k3 (q2 : ACode) : ACode:=.pr [0,3,5] (.seq (.seq (rg [mV 67 5,
uO 68 (.nilchk 67),
fA 69 0 none 68,
lD 70 none 69,
bN 71 .eql 70 (cI 4),
mV 72 71,
gD 73 72 false (.mv 5),
gD 74 72 false (.nilchk 73),
gD 75 72 false (.faddr 0 none 74),
gD 76 72 false (.load none 75),
gD 77 72 false (.bin .eql 76 (cI 5)),
uO 78 (.pick 72 cT 77)] [0,3,5,78])
(.cond 78 (.seq (rg [mV 4 (cI 11)] [4])
.ret)
.skip))
(.seq (.seq (rg [mV 79 5,
uO 80 (.nilchk 79),
fA 81 0 none 80,
lD 82 none 81,
bN 83 .eql 82 (cI 2)] [0,3,5,83])
(.cond 83 (rg [mV 84 0,
mV 85 5,
fA 86 2 none 3,
lD 87 none 86,
cL 88 f_q03x [84,85,87]] [3,5])
.skip))
q2))
def p_q03z_k3 : ACode:=P_q03z_k3 p_q03z_k2
def P_q03z (q1 q3 : ACode) : ACode:=(.seq (rg [uO 3 (.box 1),
mV 4 (cI 0)] [0,3])
(.seq (dr [dF (mV 6 0) [0],
dF (uO 7 (.nilchk 6)) [6],
dF (fA 8 2 none 7) [7],
dF (lD 9 none 8) [8],
dF (fA 10 4 none 3) [3],
dF (lD 11 none 10) [10],
dF (uO 12 (.look (none,[2]) false (.nilp) 9 11)) [9,11],
dF (mV 5 12) [12]] [0,3,5])
(.seq (.seq (rg [fA 13 3 none 3,
lD 14 none 13,
bN 15 .eql 14 (cI 1)] [0,3,5,15])
(.cond 15 (.seq (.seq (rg [mV 16 5,
uO 17 (.isnil 0 true 16)] [0,3,17])
(.cond 17 (.seq (rg [mV 4 (cI 6)] [4])
.ret)
.skip))
(.seq (dr [dF (mV 18 0) [0],
dF (uO 19 (.nilchk 18)) [18],
dF (fA 20 2 none 19) [19],
dF (lD 21 none 20) [20],
dF (fA 22 4 none 3) [3],
dF (lD 23 none 22) [22],
dF (fA 24 2 none 3) [3],
dF (lD 25 none 24) [24],
dF (mV 26 0) [0],
dF (uO 27 (.nilchk 26)) [26],
dF (fA 28 0 (some 2) 27) [27],
dF (fA 29 0 none 28) [28],
dF (lD 30 none 29) [29],
dF (iA 31 none 30 (cI 0)) [30],
dF (lD 32 none 31) [31],
dF (uO 33 (.build [.p (.int .i64 0),.p (.int .i64 0),.p (.str []),.p (.str []),.p (.int .i64 0)] [(0,1,(cI 1)),(1,1,25),(2,1,32)])) [25,32],
dA (uO 34 (.box 33)) [33] true [] [3,5],
dT (wO (.mupd (none,[2]) 21 23 34)) [21,23,34]] [])
(.seq (rg [mV 4 (cI 0)] [4])
.ret)))
.skip))
(.seq (.seq (rg [mV 35 5,
uO 36 (.isnil 0 false 35)] [0,3,5,36])
(.cond 36 (.seq (rg [mV 4 (cI 8)] [4])
.ret)
.skip))
(.seq (.seq (rg [fA 37 3 none 3,
lD 38 none 37] [0,3,5,38])
(.block 0 (.seq (rg [bN 40 .eql 38 (cI 2),
mV 39 40] [0,3,5,38,39])
(.cond 39 (.seq (rg [mV 41 0,
mV 42 5,
lD 43 (some 8) 3,
cL 44 f_q03y [41,42,43],
mV 4 44] [4])
.ret)
(.seq (.seq (rg [bN 46 .eql 38 (cI 3),
mV 45 46] [0,3,5,38,45])
(.cond 45 .skip
(rg [bN 47 .eql 38 (cI 4),
mV 45 47] [0,3,5,38,45])))
q1)))))
q3)))))
def a_q03z : AFun:=⟨2,[.t 4],P_q03z p_q03z_k1 p_q03z_k3,false,false⟩
def p_q040_k1 : ACode:=.pr [5,6,17,18,19] (rg [bN 59 .add 19 (cI 1),
mV 19 59] [5,6,17,18,19])
def P_q040_k2 (q1 : ACode) : ACode:=.pr [5,6,17,18,19] (.seq (rg [bN 20 .lss 19 18] [5,6,17,18,19,20])
(.seq (.cond 20 .skip
(.exit 0))
(.seq (.block 1 (.seq (rg [mV 21 19,
iA 22 (some 8) 17 19,
lD 23 (some 8) 22,
uO 8 (.alloc [.p (.str []),.p (.int .i64 0),.p (.int .i64 0),.p (.int .i64 0),.p (.str []),.p (.str []),.p (.str []),.p (.int .i64 0)]),
mV 7 21,
wO (.store (some 8) 8 23)] [5,6,7,8,17,18,19])
(.seq (.seq (rg [mV 24 6,
mV 25 7,
iA 26 none 24 25,
lD 27 none 26,
uO 28 (.un .not 27),
mV 29 28,
gD 30 29 false (.faddr 3 none 8),
gD 31 29 false (.load none 30),
gD 32 29 false (.bin .eql 31 (cI 7)),
uO 33 (.pick 29 cT 32)] [5,6,7,8,17,18,19,33])
(.cond 33 (.exit 1)
.skip))
(.seq (rg [mV 34 5,
lD 35 (some 8) 8,
cL 36 f_q03z [34,35],
mV 9 36] [5,6,7,9,17,18,19])
(.seq (rg [mV 37 9,
bN 38 .neq 37 (cI 0)] [5,6,7,9,17,18,19,38])
(.cond 38 (.seq (rg [mV 39 5,
mV 40 5,
uO 41 (.nilchk 40),
fA 42 6 none 41,
lD 43 none 42,
mV 44 7,
uO 45 (.bsl false none 1 (.int .i64 0) [(0,44)]),
uO 46 (.app none 43 45),
uO 47 (.nilchk 39),
fA 48 6 none 47,
wO (.store none 48 46)] [5,6,9,17,18,19])
(rg [mV 49 5,
mV 50 5,
uO 51 (.nilchk 50),
fA 52 7 none 51,
lD 53 none 52,
mV 54 9,
uO 55 (.bsl false none 1 (.int .i64 0) [(0,54)]),
uO 56 (.app none 53 55),
uO 57 (.nilchk 49),
fA 58 7 none 57,
wO (.store none 58 56)] [5,6,17,18,19]))
.skip))))))
q1)))
def p_q040_k2 : ACode:=P_q040_k2 p_q040_k1
def p_q040_k3 : ACode:=.pr [5] (.seq (rg [mV 60 5,
mV 4 60] [4])
.ret)
def P_q040 (q2 q3 : ACode) : ACode:=(.seq (rg [uO 2 (.box 0),
mV 4 (.c (.nilp))] [1,2])
(.seq (rg [lD 10 (some 2) 2,
uO 11 (.mkmap),
uO 12 (.mkmap),
uO 13 (.build [.sl0 none,.p (.int .i64 0),.nilm,.nilm,.sl0 (some 5),.sl0 (some 3),.sl0 none,.sl0 none] [(0,2,10),(2,1,11),(3,1,12)]),
uO 14 (.box 13),
mV 5 14] [1,5])
(.seq (rg [mV 15 1,
cL 16 f_q03s [15],
mV 6 16] [1,5,6])
(.seq (.seq (rg [mV 17 1,
lN 18 17,
mV 19 (cI 0)] [5,6,17,18,19])
(.block 0 (.loop (.scope q2))))
q3))))
def a_q040 : AFun:=⟨2,[.t 4],P_q040 p_q040_k2 p_q040_k3,false,false⟩
def P_q041 : ACode:=(.seq (rg [mV 2 (cI 0)] [0])
(.seq (.seq (rg [mV 3 0,
cL 4 f_q005 [3],
uO 5 (.un .not 4)] [5])
(.cond 5 (.seq (rg [mV 2 (cI 1)] [2])
.ret)
.skip))
(.seq (rg [mV 2 (cI 0)] [2])
.ret)))
def a_q041 : AFun:=⟨1,[.t 2],P_q041,false,false⟩
def p_q042_k1 : ACode:=.pr [3,8,9,10] (.seq (rg [bN 11 .lss 10 9] [3,8,9,10,11])
(.seq (.cond 11 .skip
(.exit 0))
(.seq (.block 1 (.seq (rg [iA 12 (some 8) 8 10,
lD 13 (some 8) 12,
uO 5 (.alloc [.p (.str []),.p (.int .i64 0),.p (.int .i64 0),.p (.int .i64 0),.p (.str []),.p (.str []),.p (.str []),.p (.int .i64 0)]),
wO (.store (some 8) 5 13)] [3,5,8,9,10])
(.seq (rg [fA 14 0 none 5,
lD 15 none 14,
fA 16 1 none 5,
lD 17 none 16,
uO 18 (.build [.p (.str []),.p (.int .i64 0)] [(0,1,15),(1,1,17)]),
uO 6 (.alloc [.p (.str []),.p (.int .i64 0)]),
wO (.store (some 2) 6 18)] [3,6,8,9,10])
(.seq (.seq (rg [mV 19 3,
lD 20 (some 2) 6,
uO 21 (.look ((some 2),[2,0]) false (AB false) 19 20)] [3,6,8,9,10,21])
(.cond 21 (.seq (rg [mV 2 cT] [2])
.ret)
.skip))
(rg [mV 22 3,
lD 23 (some 2) 6,
wO (.mupd ((some 2),[2,0]) 22 23 cT)] [3,8,9,10])))))
(rg [bN 24 .add 10 (cI 1),
mV 10 24] [3,8,9,10]))))
def p_q042_k2 : ACode:=.pr [] (.seq (rg [mV 2 cF] [2])
.ret)
def P_q042 (q1 q2 : ACode) : ACode:=(.seq (rg [mV 2 cF] [0])
(.seq (rg [uO 7 (.mkmap),
mV 3 7] [0,3])
(.seq (.seq (rg [mV 8 0,
lN 9 8,
mV 10 (cI 0)] [3,8,9,10])
(.block 0 (.loop (.scope q1))))
q2)))
def a_q042 : AFun:=⟨1,[.t 2],P_q042 p_q042_k1 p_q042_k2,false,false⟩
def p_q043_k1 : ACode:=.pr [0,1,5] (.seq (.seq (rg [mV 8 5,
bN 9 .gtr 8 (cI 0),
mV 10 9,
gD 11 10 true (.mv 0),
gD 12 10 true (.mv 5),
gD 13 10 true (.bin .sub 12 (cI 1)),
gD 14 10 true (.iaddr (some 8) 11 13),
gD 15 10 true (.faddr 2 none 14),
gD 16 10 true (.load none 15),
gD 17 10 true (.mv 1),
gD 18 10 true (.bin .gtr 16 17),
uO 19 (.pick 10 18 cF)] [0,1,5,19])
(.cond 19 .skip
(.exit 0)))
(.block 1 (rg [mV 20 5,
bN 21 .sub 20 (cI 1),
mV 5 21] [0,1,5])))
def p_q043_k2 : ACode:=.pr [0,5] (.seq (rg [mV 22 0,
mV 23 5,
uO 24 (.slice (some 8) 22 none (some 23) none),
mV 4 24] [4])
.ret)
def P_q043 (q1 q2 : ACode) : ACode:=(.seq (rg [mV 4 (.c (.p (.sl (some 8) [])))] [0,1])
(.seq (rg [mV 6 0,
lN 7 6,
mV 5 7] [0,1,5])
(.seq (.block 0 (.loop q1))
q2)))
def a_q043 : AFun:=⟨2,[.t 4],P_q043 p_q043_k1 p_q043_k2,false,false⟩
def P_q04a : ACode:=(.seq (rg [mV 4 (cI 0)] [0,1])
(.seq (rg [mV 5 0,
mV 6 1,
cL 7 f_q01b [5,6],
mV 4 7] [4])
.ret))
def a_q04a : AFun:=⟨2,[.t 4],P_q04a,false,false⟩
def P_q04p : ACode:=(.seq (rg [mV 4 (cS []),
mV 5 (cI 0)] [0,1])
(.seq (.seq (rg [mV 6 0,
cL 7 f_q04q [6],
uO 8 (.un .not 7),
mV 9 8,
gD 10 9 false (.mv 1),
gD 11 9 false (.call f_q04q [10]),
gD 12 9 false (.un .not 11),
uO 13 (.pick 9 cT 12)] [0,1,13])
(.cond 13 (.seq (rg [mV 4 (cS []),
mV 5 (cI 1)] [4,5])
.ret)
.skip))
(.seq (rg [mV 14 0,
mV 15 1,
cL 16 f_q04s [14,15],
mV 4 16,
mV 5 (cI 0)] [4,5])
.ret)))
def a_q04p : AFun:=⟨2,[.t 4,.t 5],P_q04p,false,false⟩
def P_q04q : ACode:=(.seq (rg [mV 2 cF] [0])
(.seq (rg [mV 3 0,
cL 4 f_q006 [3,(cI 0),(cI 15)],
uO 5 (.un .not 4),
mV 2 5] [2])
.ret))
def a_q04q : AFun:=⟨1,[.t 2],P_q04q,false,false⟩
def P_q04r : ACode:=(.seq (rg [mV 4 (cI 0)] [0,1])
(.seq (rg [uO 6 (.build [.p (.int .i64 0),.p (.int .i64 0)] [(0,1,(cI 1)),(1,1,(cI 0))]),
uO 7 (.build [.p (.int .i64 0),.p (.int .i64 0)] [(0,1,(cI 1)),(1,1,(cI 2))]),
uO 8 (.build [.p (.int .i64 0),.p (.int .i64 0)] [(0,1,(cI 3)),(1,1,(cI 9))]),
uO 9 (.build [.p (.int .i64 0),.p (.int .i64 0)] [(0,1,(cI 4)),(1,1,(cI 5))]),
uO 10 (.build [.p (.int .i64 0),.p (.int .i64 0)] [(0,1,(cI 4)),(1,1,(cI 5))]),
uO 11 (.build [.p (.int .i64 0),.p (.int .i64 0)] [(0,1,(cI 6)),(1,1,(cI 8))]),
uO 12 (.build [.p (.int .i64 0),.p (.int .i64 0)] [(0,1,(cI 6)),(1,1,(cI 7))]),
uO 13 (.build [.p (.int .i64 0),.p (.int .i64 0)] [(0,1,(cI 4)),(1,1,(cI 8))]),
uO 14 (.build [.p (.int .i64 0),.p (.int .i64 0)] [(0,1,(cI 1)),(1,1,(cI 2))]),
uO 15 (.build [.p (.int .i64 0),.p (.int .i64 0)] [(0,1,(cI 10)),(1,1,(cI 0))]),
uO 16 (.build [.p (.int .i64 0),.p (.int .i64 0)] [(0,1,(cI 11)),(1,1,(cI 12))]),
uO 17 (.build [.p (.int .i64 0),.p (.int .i64 0)] [(0,1,(cI 11)),(1,1,(cI 12))]),
uO 18 (.build [.p (.int .i64 0),.p (.int .i64 0)] [(0,1,(cI 13)),(1,1,(cI 15))]),
uO 19 (.build [.p (.int .i64 0),.p (.int .i64 0)] [(0,1,(cI 13)),(1,1,(cI 14))]),
uO 20 (.build [.p (.int .i64 0),.p (.int .i64 0)] [(0,1,(cI 11)),(1,1,(cI 15))]),
uO 21 (.build [.p (.int .i64 0),.p (.int .i64 0)] [(0,1,(cI 1)),(1,1,(cI 2))]),
uO 22 (.build [.p (.int .i64 0),.p (.int .i64 0),.p (.int .i64 0),.p (.int .i64 0),.p (.int .i64 0),.p (.int .i64 0),.p (.int .i64 0),.p (.int .i64 0),.p (.int .i64 0),.p (.int .i64 0),.p (.int .i64 0),.p (.int .i64 0),.p (.int .i64 0),.p (.int .i64 0),.p (.int .i64 0),.p (.int .i64 0),.p (.int .i64 0),.p (.int .i64 0),.p (.int .i64 0),.p (.int .i64 0),.p (.int .i64 0),.p (.int .i64 0),.p (.int .i64 0),.p (.int .i64 0),.p (.int .i64 0),.p (.int .i64 0),.p (.int .i64 0),.p (.int .i64 0),.p (.int .i64 0),.p (.int .i64 0),.p (.int .i64 0),.p (.int .i64 0)] [(0,2,6),(2,2,7),(4,2,8),(6,2,9),(8,2,10),(10,2,11),(12,2,12),(14,2,13),(16,2,14),(18,2,15),(20,2,16),(22,2,17),(24,2,18),(26,2,19),(28,2,20),(30,2,21)]),
uO 5 (.alloc [.p (.int .i64 0),.p (.int .i64 0),.p (.int .i64 0),.p (.int .i64 0),.p (.int .i64 0),.p (.int .i64 0),.p (.int .i64 0),.p (.int .i64 0),.p (.int .i64 0),.p (.int .i64 0),.p (.int .i64 0),.p (.int .i64 0),.p (.int .i64 0),.p (.int .i64 0),.p (.int .i64 0),.p (.int .i64 0),.p (.int .i64 0),.p (.int .i64 0),.p (.int .i64 0),.p (.int .i64 0),.p (.int .i64 0),.p (.int .i64 0),.p (.int .i64 0),.p (.int .i64 0),.p (.int .i64 0),.p (.int .i64 0),.p (.int .i64 0),.p (.int .i64 0),.p (.int .i64 0),.p (.int .i64 0),.p (.int .i64 0),.p (.int .i64 0)]),
wO (.store (some 32) 5 22)] [0,1,5])
(.seq (rg [mV 23 0,
mV 24 1,
uO 25 (.iaddra 16 (some 2) 5 23),
uO 26 (.iaddra 2 none 25 24),
lD 27 none 26,
mV 4 27] [4])
.ret)))
def a_q04r : AFun:=⟨2,[.t 4],P_q04r,false,false⟩
def d_q04r (C : Hd) (gl : GL) (v0 v1 : AV) (h : Heap) (x : Esc) (K : KT) : Prop:=
 pK (oBuild [.p (.int .i64 0),.p (.int .i64 0)] [(0,1,(AI 1)),(1,1,(AI 0))]) fun t1=>
 pK (oBuild [.p (.int .i64 0),.p (.int .i64 0)] [(0,1,(AI 1)),(1,1,(AI 2))]) fun t2=>
 pK (oBuild [.p (.int .i64 0),.p (.int .i64 0)] [(0,1,(AI 3)),(1,1,(AI 9))]) fun t3=>
 pK (oBuild [.p (.int .i64 0),.p (.int .i64 0)] [(0,1,(AI 4)),(1,1,(AI 5))]) fun t4=>
 pK (oBuild [.p (.int .i64 0),.p (.int .i64 0)] [(0,1,(AI 4)),(1,1,(AI 5))]) fun t5=>
 pK (oBuild [.p (.int .i64 0),.p (.int .i64 0)] [(0,1,(AI 6)),(1,1,(AI 8))]) fun t6=>
 pK (oBuild [.p (.int .i64 0),.p (.int .i64 0)] [(0,1,(AI 6)),(1,1,(AI 7))]) fun t7=>
 pK (oBuild [.p (.int .i64 0),.p (.int .i64 0)] [(0,1,(AI 4)),(1,1,(AI 8))]) fun t8=>
 pK (oBuild [.p (.int .i64 0),.p (.int .i64 0)] [(0,1,(AI 1)),(1,1,(AI 2))]) fun t9=>
 pK (oBuild [.p (.int .i64 0),.p (.int .i64 0)] [(0,1,(AI 10)),(1,1,(AI 0))]) fun t10=>
 pK (oBuild [.p (.int .i64 0),.p (.int .i64 0)] [(0,1,(AI 11)),(1,1,(AI 12))]) fun t11=>
 pK (oBuild [.p (.int .i64 0),.p (.int .i64 0)] [(0,1,(AI 11)),(1,1,(AI 12))]) fun t12=>
 pK (oBuild [.p (.int .i64 0),.p (.int .i64 0)] [(0,1,(AI 13)),(1,1,(AI 15))]) fun t13=>
 pK (oBuild [.p (.int .i64 0),.p (.int .i64 0)] [(0,1,(AI 13)),(1,1,(AI 14))]) fun t14=>
 pK (oBuild [.p (.int .i64 0),.p (.int .i64 0)] [(0,1,(AI 11)),(1,1,(AI 15))]) fun t15=>
 pK (oBuild [.p (.int .i64 0),.p (.int .i64 0)] [(0,1,(AI 1)),(1,1,(AI 2))]) fun t16=>
 pK (oBuild [.p (.int .i64 0),.p (.int .i64 0),.p (.int .i64 0),.p (.int .i64 0),.p (.int .i64 0),.p (.int .i64 0),.p (.int .i64 0),.p (.int .i64 0),.p (.int .i64 0),.p (.int .i64 0),.p (.int .i64 0),.p (.int .i64 0),.p (.int .i64 0),.p (.int .i64 0),.p (.int .i64 0),.p (.int .i64 0),.p (.int .i64 0),.p (.int .i64 0),.p (.int .i64 0),.p (.int .i64 0),.p (.int .i64 0),.p (.int .i64 0),.p (.int .i64 0),.p (.int .i64 0),.p (.int .i64 0),.p (.int .i64 0),.p (.int .i64 0),.p (.int .i64 0),.p (.int .i64 0),.p (.int .i64 0),.p (.int .i64 0),.p (.int .i64 0)] [(0,2,t1),(2,2,t2),(4,2,t3),(6,2,t4),(8,2,t5),(10,2,t6),(12,2,t7),(14,2,t8),(16,2,t9),(18,2,t10),(20,2,t11),(22,2,t12),(24,2,t13),(26,2,t14),(28,2,t15),(30,2,t16)]) fun t17=>
 alK [.p (.int .i64 0),.p (.int .i64 0),.p (.int .i64 0),.p (.int .i64 0),.p (.int .i64 0),.p (.int .i64 0),.p (.int .i64 0),.p (.int .i64 0),.p (.int .i64 0),.p (.int .i64 0),.p (.int .i64 0),.p (.int .i64 0),.p (.int .i64 0),.p (.int .i64 0),.p (.int .i64 0),.p (.int .i64 0),.p (.int .i64 0),.p (.int .i64 0),.p (.int .i64 0),.p (.int .i64 0),.p (.int .i64 0),.p (.int .i64 0),.p (.int .i64 0),.p (.int .i64 0),.p (.int .i64 0),.p (.int .i64 0),.p (.int .i64 0),.p (.int .i64 0),.p (.int .i64 0),.p (.int .i64 0),.p (.int .i64 0),.p (.int .i64 0)] h fun t18 h19 y20=>
 wK (oStore (some 32) t18 t17 h19) fun t21 h22 y23=>
 pK (oIaddra 16 (some 2) t18 v0) fun t24=>
 pK (oIaddra 2 none t24 v1) fun t25=>
 pK (oLoad none t25 h22) fun t26=>
 K .ret ⟨[(4,t26)],h22,(y23 ++ (y20 ++ x))⟩
theorem e_q04r {C gl v0 v1 h x K} : NW C gl a_q04r.body ⟨enter [v0,v1],h,x⟩ K = d_q04r C gl v0 v1 h x K:=by kernel_rfl
def p_q04s_k1 : ACode:=.pr [1,5,6,7,25] (rg [bN 53 .add 25 (cI 1),
mV 25 53] [1,5,6,7,25])
def d_q04s_k1 (C : Hd) (gl : GL) (v1 v5 v6 v7 v25 : AV) (h : Heap) (x : Esc) (K : KT) : Prop:=
 pK (oBin .add v25 (AI 1)) fun t1=>
 K .normal ⟨[(1,v1),(5,v5),(6,v6),(7,v7),(25,t1)],h,x⟩
theorem e_q04s_k1 {C gl e h x K} : NW C gl p_q04s_k1 ⟨e,h,x⟩ K = d_q04s_k1 C gl (aget e 1) (aget e 5) (aget e 6) (aget e 7) (aget e 25) h x K:=by kernel_rfl
def P_q04s_k2 (q1 : ACode) : ACode:=.pr [1,5,6,7,25] (.seq (rg [bN 26 .lss 25 (cI 2)] [1,5,6,7,25,26])
(.seq (.cond 26 .skip
(.exit 2))
(.seq (.block 3 (.seq (rg [mV 27 25,
mV 8 27] [1,5,6,7,8,25])
(.seq (rg [mV 28 7,
mV 29 8,
cL 30 f_q04r [28,29],
mV 9 30] [1,5,6,7,8,9,25])
(.seq (rg [mV 32 5,
mV 33 9,
uO 34 (.look (none,[0]) true (.p (.str [])) 32 33),
mV 31 34,
eX 35 31 0,
eX 36 31 1,
mV 10 35,
mV 11 36] [1,5,6,7,8,9,11,25])
(.seq (rg [mV 37 11,
uO 38 (.un .not 37)] [1,5,6,7,8,9,25,38])
(.cond 38 (.seq (rg [mV 39 5,
mV 40 9,
mV 41 5,
mV 42 7,
uO 43 (.look (none,[0]) false (.p (.str [])) 41 42),
mV 44 8,
bN 45 .add (cI 48) 44,
uO 46 (.conv (.i .i32) 45),
uO 47 (.conv .r2s 46),
bN 48 .add 43 47,
wO (.mupd (none,[0]) 39 40 48)] [1,5,6,7,9,25])
(rg [mV 49 6,
mV 50 9,
uO 51 (.bsl false none 1 (.int .i64 0) [(0,50)]),
uO 52 (.mnext (some none) [49,51]),
mV 6 52] [1,5,6,7,25]))
.skip))))))
q1)))
def p_q04s_k2 : ACode:=P_q04s_k2 p_q04s_k1
def d_q04s_k2 (C : Hd) (gl : GL) (q1 : ACode) (v1 v5 v6 v7 v25 : AV) (h : Heap) (x : Esc) (K : KT) : Prop:=
 pK (oBin .lss v25 (AI 2)) fun t1=>
 condB t1 (C f_q04r [v7,v25] h fun t2 h3 y4=>
 pK (oLook (none,[0]) true (.p (.str [])) v5 t2 h3) fun t5=>
 pK (oExt t5 0) fun t6=>
 pK (oExt t5 1) fun t7=>
 pK (oUn .not t7) fun t8=>
 condB t8 (pK (oLook (none,[0]) false (.p (.str [])) v5 v7 h3) fun t9=>
 pK (oBin .add (AI 48) v25) fun t10=>
 pK (oConvI .i32 t10) fun t11=>
 wK (oConv .r2s t11 h3) fun t12 h13 y14=>
 pK (oBin .add t9 t12) fun t15=>
 wK (oMupd (none,[0]) v5 t2 t15 h13) fun t16 h17 y18=>
 wK (oBsl false none 1 (.int .i64 0) [(0,t2)] h17) fun t19 h20 y21=>
 nqK (some none) [v6,t19] h20 fun t22 h23 y24=>
 NW C gl q1 ⟨[(1,v1),(5,v5),(6,t22),(7,v7),(25,v25)],h23,(y24 ++ (y21 ++ (y18 ++ (y14 ++ (y4 ++ x)))))⟩ K)
 (NW C gl q1 ⟨[(1,v1),(5,v5),(6,v6),(7,v7),(8,v25),(9,t2),(25,v25),(38,t8)],h3,(y4 ++ x)⟩ K))
 (K (.exit 2) ⟨[(1,v1),(5,v5),(6,v6),(7,v7),(25,v25),(26,t1)],h,x⟩)
theorem E_q04s_k2 {C gl q1 e h x K} : NW C gl (P_q04s_k2 q1) ⟨e,h,x⟩ K = d_q04s_k2 C gl q1 (aget e 1) (aget e 5) (aget e 6) (aget e 7) (aget e 25) h x K:=by kernel_rfl
theorem e_q04s_k2 {C gl e h x K} : NW C gl p_q04s_k2 ⟨e,h,x⟩ K = d_q04s_k2 C gl p_q04s_k1 (aget e 1) (aget e 5) (aget e 6) (aget e 7) (aget e 25) h x K:=E_q04s_k2
theorem l_q04s_k2 {C gl e h x K} : NW C gl (.loop p_q04s_k2) ⟨e,h,x⟩ K = NLoop C gl p_q04s_k2 K [(1,aget e 1),(5,aget e 5),(6,aget e 6),(7,aget e 7),(25,aget e 25)] h x:=NLoop_pr
def P_q04s_k3 (q2 : ACode) : ACode:=.pr [1,5,6] (.seq (.seq (rg [mV 17 6,
lN 18 17,
bN 19 .gtr 18 (cI 0)] [1,5,6,19])
(.cond 19 .skip
(.exit 0)))
(.block 1 (.seq (rg [mV 20 6,
iA 21 none 20 (cI 0),
lD 22 none 21,
mV 7 22] [1,5,6,7])
(.seq (rg [mV 23 6,
uO 24 (.slice none 23 (some (cI 1)) none none),
mV 6 24] [1,5,6,7])
(.seq (rg [mV 25 (cI 0)] [1,5,6,7,25])
(.block 2 (.loop q2)))))))
def p_q04s_k3 : ACode:=P_q04s_k3 p_q04s_k2
def d_q04s_k3 (C : Hd) (gl : GL) (q2 : ACode) (v1 v5 v6 : AV) (h : Heap) (x : Esc) (K : KT) : Prop:=
 pK (oLen v6) fun t1=>
 pK (oBin .gtr t1 (AI 0)) fun t2=>
 condB t2 (pK (oIaddr none v6 (AI 0) h) fun t3=>
 pK (oLoad none t3 h) fun t4=>
 pK (oSlice none v6 (some (AI 1)) none none h) fun t5=>
 NW C gl (.loop q2) ⟨[(1,v1),(5,v5),(6,t5),(7,t4),(25,(AI 0))],h,x⟩ (blockN 2 (blockN 1 K)))
 (K (.exit 0) ⟨[(1,v1),(5,v5),(6,v6),(19,t2)],h,x⟩)
theorem E_q04s_k3 {C gl q2 e h x K} : NW C gl (P_q04s_k3 q2) ⟨e,h,x⟩ K = d_q04s_k3 C gl q2 (aget e 1) (aget e 5) (aget e 6) h x K:=by kernel_rfl
theorem e_q04s_k3 {C gl e h x K} : NW C gl p_q04s_k3 ⟨e,h,x⟩ K = d_q04s_k3 C gl p_q04s_k2 (aget e 1) (aget e 5) (aget e 6) h x K:=E_q04s_k3
theorem l_q04s_k3 {C gl e h x K} : NW C gl (.loop p_q04s_k3) ⟨e,h,x⟩ K = NLoop C gl p_q04s_k3 K [(1,aget e 1),(5,aget e 5),(6,aget e 6)] h x:=NLoop_pr
def p_q04s_k4 : ACode:=.pr [1,5] (.seq (rg [mV 54 5,
mV 55 1,
uO 56 (.look (none,[0]) false (.p (.str [])) 54 55),
mV 4 56] [4])
.ret)
def d_q04s_k4 (C : Hd) (gl : GL) (v1 v5 : AV) (h : Heap) (x : Esc) (K : KT) : Prop:=
 pK (oLook (none,[0]) false (.p (.str [])) v5 v1 h) fun t1=>
 K .ret ⟨[(4,t1)],h,x⟩
theorem e_q04s_k4 {C gl e h x K} : NW C gl p_q04s_k4 ⟨e,h,x⟩ K = d_q04s_k4 C gl (aget e 1) (aget e 5) h x K:=by kernel_rfl
def P_q04s (q3 q4 : ACode) : ACode:=(.det (.seq (rg [mV 4 (cS [])] [0,1])
(.seq (rg [uO 12 (.mkmap),
mV 13 0,
wO (.mupd (none,[0]) 12 13 (cS [])),
mV 14 12,
mV 5 14] [0,1,5])
(.seq (rg [mV 15 0,
uO 16 (.bsl true none 1 (.int .i64 0) [(0,15)]),
mV 6 16] [1,5,6])
(.seq (.block 0 (.loop q3))
q4)))))
def a_q04s : AFun:=⟨2,[.t 4],P_q04s p_q04s_k3 p_q04s_k4,false,false⟩
def d_q04s (C : Hd) (gl : GL) (q3 q4 : ACode) (v0 v1 : AV) (h : Heap) (x : Esc) (K : KT) : Prop:=
 mmK h fun t1 h2 y3=>
 wK (oMupd (none,[0]) t1 v0 (.p (.str [])) h2) fun t4 h5 y6=>
 wK (oBsl true none 1 (.int .i64 0) [(0,v0)] h5) fun t7 h8 y9=>
 NW C gl (.loop q3) ⟨[(1,v1),(5,t1),(6,t7)],h8,(y9 ++ (y6 ++ (y3 ++ x)))⟩ (blockN 0 (seqN C gl q4 K))
theorem E_q04s {C gl q3 q4 v0 v1 h x K} : NW C gl (P_q04s q3 q4) ⟨enter [v0,v1],h,x⟩ K = d_q04s C gl q3 q4 v0 v1 h x K:=by kernel_rfl
theorem e_q04s {C gl v0 v1 h x K} : NW C gl a_q04s.body ⟨enter [v0,v1],h,x⟩ K = d_q04s C gl p_q04s_k3 p_q04s_k4 v0 v1 h x K:=E_q04s
def p_q050_k1 : ACode:=.pr [0,10,11,12] (.seq (rg [bN 13 .lss 12 11] [0,10,11,12,13])
(.seq (.cond 13 .skip
(.exit 0))
(.seq (.block 1 (.seq (rg [iA 14 (some 6) 10 12,
lD 15 (some 6) 14,
uO 4 (.alloc [.p (.int .i64 0),.p (.int .i64 0),.p (.int .i64 0),.p (.str []),.p (.str []),.p (.str [])]),
wO (.store (some 6) 4 15)] [0,4,10,11,12])
(.seq (.seq (rg [fA 16 0 none 4,
lD 17 none 16,
cL 18 f_q006 [17,(cI 1),(cI 10)]] [0,4,10,11,12,18])
(.cond 18 (.seq (rg [mV 2 (cI 4)] [2])
.ret)
.skip))
(.seq (rg [lD 20 (some 6) 4,
cL 21 f_q054 [20],
mV 19 21,
eX 22 19 0,
eX 23 19 1,
uO 5 (.alloc [.p (.int .i64 0),.p (.int .i64 0),.p (.int .i64 0),.p (.str []),.p (.str []),.p (.str [])]),
wO (.store (some 6) 5 22),
mV 6 23] [0,4,5,6,10,11,12])
(.block 2 (.seq (rg [mV 25 6,
bN 26 .neq 25 (cI 0),
mV 24 26] [0,4,5,6,10,11,12,24])
(.cond 24 (.seq (rg [mV 27 6,
mV 2 27] [2])
.ret)
(.seq (rg [lD 29 (some 6) 5,
fA 30 0 none 4,
lD 31 none 30,
uO 32 (.build [.p (.int .i64 0),.p (.int .i64 0),.p (.int .i64 0),.p (.str []),.p (.str []),.p (.str [])] [(0,1,31)]),
uO 33 (.eqa [0,0,0,2,2,2] true 29 32),
mV 28 33] [0,10,11,12,28])
(.cond 28 (.seq (rg [mV 2 (cI 3)] [2])
.ret)
.skip)))))))))
(rg [bN 34 .add 12 (cI 1),
mV 12 34] [0,10,11,12]))))
def p_q050_k2 : ACode:=.pr [0] (.seq (.seq (rg [mV 35 0,
cL 36 f_q055 [35,(.c (.nilp))],
uO 37 (.nilchk 36),
fA 38 37 none 37,
lD 39 none 38,
bN 40 .gtr 39 (cI 20000)] [40])
(.cond 40 (.seq (rg [mV 2 (cI 2)] [2])
.ret)
.skip))
(.seq (rg [mV 2 (cI 0)] [2])
.ret))
def P_q050 (q1 q2 : ACode) : ACode:=(.seq (rg [mV 2 (cI 0)] [0])
(.seq (.seq (rg [mV 7 0,
lN 8 7,
bN 9 .gtr 8 (cI 1000)] [0,9])
(.cond 9 (.seq (rg [mV 2 (cI 2)] [2])
.ret)
.skip))
(.seq (.seq (rg [mV 10 0,
lN 11 10,
mV 12 (cI 0)] [0,10,11,12])
(.block 0 (.loop (.scope q1))))
q2)))
def a_q050 : AFun:=⟨1,[.t 2],P_q050 p_q050_k1 p_q050_k2,false,false⟩
def P_q051 : ACode:=(.seq (rg [mV 2 (cI 0),
mV 3 (cI 0)] [0])
(.seq (.seq (rg [mV 5 0,
cL 6 f_q050 [5],
mV 4 6] [0,4])
(.seq (rg [mV 7 4,
bN 8 .neq 7 (cI 0)] [0,4,8])
(.cond 8 (.seq (rg [mV 9 4,
mV 2 (cI 0),
mV 3 9] [2,3])
.ret)
.skip)))
(.seq (rg [mV 10 0,
cL 11 f_q055 [10,(.c (.nilp))],
uO 12 (.nilchk 11),
fA 13 37 none 12,
lD 14 none 13,
mV 2 14,
mV 3 (cI 0)] [2,3])
.ret)))
def a_q051 : AFun:=⟨1,[.t 2,.t 3],P_q051,false,false⟩
def P_q052 : ACode:=(.seq (rg [mV 2 cF] [0])
(.seq (rg [mV 3 0,
bN 4 .eql 3 (cI 7),
mV 5 4,
gD 6 5 false (.mv 0),
gD 7 5 false (.bin .eql 6 (cI 8)),
uO 8 (.pick 5 cT 7),
mV 2 8] [2])
.ret))
def a_q052 : AFun:=⟨1,[.t 2],P_q052,false,false⟩
def P_q053 : ACode:=(.seq (rg [mV 2 cF] [0])
(.seq (rg [mV 3 0,
cL 4 f_q006 [3,(cI 1),(cI 6)],
uO 5 (.un .not 4),
mV 2 5] [2])
.ret))
def a_q053 : AFun:=⟨1,[.t 2],P_q053,false,false⟩
def p_q054_k1 : ACode:=.pr [2,4] (.seq (rg [lD 56 (some 6) 4,
wO (.store (some 6) 2 56),
mV 3 (cI 0)] [2,3])
.ret)
def P_q054 (q1 : ACode) : ACode:=(.seq (rg [uO 1 (.box 0),
uO 2 (.alloc [.p (.int .i64 0),.p (.int .i64 0),.p (.int .i64 0),.p (.str []),.p (.str []),.p (.str [])]),
mV 3 (cI 0)] [1,2])
(.seq (rg [lD 5 (some 6) 1,
uO 4 (.alloc [.p (.int .i64 0),.p (.int .i64 0),.p (.int .i64 0),.p (.str []),.p (.str []),.p (.str [])]),
wO (.store (some 6) 4 5)] [1,2,4])
(.seq (.block 0 (.seq (rg [fA 18 0 none 1,
lD 19 none 18,
bN 20 .eql 19 (cI 1),
mV 21 20,
gD 22 21 false (.faddr 0 none 1),
gD 23 21 false (.load none 22),
gD 24 21 false (.bin .eql 23 (cI 2)),
uO 25 (.pick 21 cT 24),
mV 26 25,
gD 27 26 false (.faddr 0 none 1),
gD 28 26 false (.load none 27),
gD 29 26 false (.bin .eql 28 (cI 10)),
uO 30 (.pick 26 cT 29),
mV 17 30] [1,2,4,17])
(.cond 17 (.seq (rg [fA 31 1 none 4,
wO (.store none 31 (cI 0))] [1,2,4])
(.seq (rg [fA 32 1 none 1,
lD 33 none 32,
cL 34 f_q05c [33],
uO 35 (.un .not 34)] [2,4,35])
(.cond 35 (.seq (rg [lD 36 (some 6) 4,
wO (.store (some 6) 2 36),
mV 3 (cI 1)] [2,3])
.ret)
.skip)))
(.seq (rg [fA 38 0 none 1,
lD 39 none 38,
bN 40 .eql 39 (cI 9),
mV 37 40] [1,2,4,37])
(.cond 37 (.seq (rg [fA 41 2 none 4,
wO (.store none 41 (cI 0))] [1,2,4])
(.seq (rg [fA 42 2 none 1,
lD 43 none 42,
cL 44 f_q006 [43,(cI 0),(cI 20000)]] [2,4,44])
(.cond 44 (.seq (rg [lD 45 (some 6) 4,
wO (.store (some 6) 2 45),
mV 3 (cI 1)] [2,3])
.ret)
.skip)))
(.seq (rg [fA 47 0 none 1,
lD 48 none 47,
cL 49 f_q052 [48],
mV 46 49] [1,2,4,46])
(.cond 46 (.seq (rg [fA 50 3 none 4,
wO (.store none 50 (cS [])),
fA 51 4 none 4,
wO (.store none 51 (cS [])),
fA 52 5 none 4,
wO (.store none 52 (cS []))] [1,2,4])
(.seq (dr [dF (lD 53 (some 6) 4) [4],
dF (lD 54 (some 6) 1) [1],
dA (cL 55 f_q05a [54]) [54] true [] [0],
dT (wO (.store (some 6) 2 53)) [2,53],
dF (mV 3 55) [55]] [2,3])
.ret))
(.seq (rg [fA 6 3 none 4,
wO (.store none 6 (cS []))] [1,2,4])
(.seq (.seq (rg [fA 7 3 none 1,
lD 8 none 7,
cL 9 f_q000 [8],
uO 10 (.un .not 9)] [1,2,4,10])
(.cond 10 (.seq (rg [lD 11 (some 6) 4,
wO (.store (some 6) 2 11),
mV 3 (cI 9)] [2,3])
.ret)
.skip))
(.seq (rg [fA 12 3 none 1,
lD 13 none 12,
uO 14 (.lens 13),
bN 15 .gtr 14 (cI 2000)] [2,4,15])
(.cond 15 (.seq (rg [lD 16 (some 6) 4,
wO (.store (some 6) 2 16),
mV 3 (cI 2)] [2,3])
.ret)
.skip)))))))))))
q1)))
def a_q054 : AFun:=⟨1,[.cell 2 (some 6),.t 3],P_q054 p_q054_k1,false,false⟩
def p_q055_k1 : ACode:=.pr [5,13,14,15] (.seq (rg [bN 16 .lss 15 14] [5,13,14,15,16])
(.seq (.cond 16 .skip
(.exit 0))
(.seq (.block 1 (.seq (rg [iA 17 (some 6) 13 15,
lD 18 (some 6) 17,
uO 7 (.alloc [.p (.int .i64 0),.p (.int .i64 0),.p (.int .i64 0),.p (.str []),.p (.str []),.p (.str [])]),
wO (.store (some 6) 7 18)] [5,7,13,14,15])
(.seq (.seq (rg [mV 19 5,
uO 20 (.nilchk 19),
fA 21 37 none 20,
lD 22 none 21,
bN 23 .gtr 22 (cI 20000)] [5,7,13,14,15,23])
(.cond 23 (.exit 0)
.skip))
(rg [mV 24 5,
lD 25 (some 6) 7,
cL 26 f_q058 [24,25]] [5,13,14,15]))))
(rg [bN 27 .add 15 (cI 1),
mV 15 27] [5,13,14,15]))))
def p_q055_k2 : ACode:=.pr [5] (.seq (rg [mV 28 5,
mV 4 28] [4])
.ret)
def P_q055 (q1 q2 : ACode) : ACode:=(.seq (rg [mV 4 (.c (.nilp))] [0,1])
(.seq (rg [cL 8 f_q05d [],
mV 9 1,
uO 10 (.isnil 0 true 9),
uO 11 (.build [.p (.int .i64 0),.p (.int .i64 0),.p (.int .i64 0),.p (.str []),.p (.str []),.p (.str []),.p (.int .i64 0),.p (.int .i64 0),.p (.int .i64 0),.p (.str []),.p (.str []),.p (.str []),.p (.int .i64 0),.p (.int .i64 0),.p (.int .i64 0),.p (.str []),.p (.str []),.p (.str []),.p (.int .i64 0),.p (.int .i64 0),.p (.int .i64 0),.p (.str []),.p (.str []),.p (.str []),.p (.int .i64 0),.p (.int .i64 0),.p (.int .i64 0),.p (.str []),.p (.str []),.p (.str []),.p (.int .i64 0),.p (.int .i64 0),.p (.int .i64 0),.p (.str []),.p (.str []),.p (.str []),.p (.int .i64 0),.p (.int .i64 0),.p (.int .i64 0),.p (.int .i64 0),.sl0 none,.sl0 none,.sl0 none,.sl0 none,.sl0 none,.p (.bool false)] [(0,36,8),(36,1,(cI 0)),(45,1,10)]),
uO 12 (.box 11),
mV 5 12] [0,5])
(.seq (.seq (rg [mV 13 0,
lN 14 13,
mV 15 (cI 0)] [5,13,14,15])
(.block 0 (.loop (.scope q1))))
q2)))
def a_q055 : AFun:=⟨2,[.t 4],P_q055 p_q055_k1 p_q055_k2,false,false⟩
def P_q056 : ACode:=(.seq (rg [mV 8 0,
uO 9 (.nilchk 8),
fA 10 37 none 9,
lD 11 none 10,
bN 12 .add 11 (cI 1),
uO 13 (.nilchk 8),
fA 14 37 none 13,
wO (.store none 14 12)] [0,1,2,3])
(.seq (rg [mV 15 0,
uO 16 (.nilchk 15),
fA 17 45 none 16,
lD 18 none 17] [0,1,2,3,18])
(.cond 18 (dr [dF (mV 19 0) [0],
dF (mV 20 0) [0],
dF (mV 21 0) [0],
dF (mV 22 0) [0],
dF (uO 23 (.nilchk 22)) [22],
dF (fA 24 42 none 23) [23],
dF (lD 25 none 24) [24],
dF (mV 26 1) [1],
dF (uO 27 (.bsl false none 1 (.int .u8 0) [(0,26)])) [26],
dT (uO 28 (.app none 25 27)) [25,27],
dF (mV 29 0) [0],
dF (uO 30 (.nilchk 29)) [29],
dF (fA 31 43 none 30) [30],
dA (lD 32 none 31) [31] false [9] [],
dF (mV 33 2) [2],
dA (uO 34 (.bsl false none 1 (.int .u8 0) [(0,33)])) [33] false [9] [],
dT (uO 35 (.app none 32 34)) [32,34],
dF (mV 36 0) [0],
dF (uO 37 (.nilchk 36)) [36],
dF (fA 38 44 none 37) [37],
dA (lD 39 none 38) [38] false [9,16] [],
dF (mV 40 3) [3],
dA (uO 41 (.bsl false none 1 (.int .u8 0) [(0,40)])) [40] false [9,16] [],
dT (uO 42 (.app none 39 41)) [39,41],
dF (uO 43 (.nilchk 19)) [19],
dF (fA 44 42 none 43) [43],
dT (wO (.store none 44 28)) [44,28],
dF (uO 45 (.nilchk 20)) [20],
dF (fA 46 43 none 45) [45],
dT (wO (.store none 46 35)) [46,35],
dF (uO 47 (.nilchk 21)) [21],
dF (fA 48 44 none 47) [47],
dT (wO (.store none 48 42)) [48,42]] [])
.skip)))
def a_q056 : AFun:=⟨4,[],P_q056,false,false⟩
def p_q057_k1 : ACode:=.pr [0,3,5,7,9,10,11,12,13,14,93,94] (rg [mV 126 0,
mV 127 13,
mV 128 10,
mV 129 12,
uO 130 (.idxs 128 129),
mV 131 14,
cL 132 f_q056 [126,127,130,131]] [0,3,5,7,9,10,11,93,94])
def P_q057_k2 (q1 : ACode) : ACode:=.pr [0,3,5,7,9,10,11,12,13,14,93,94] (.seq (.seq (rg [mV 102 12,
mV 103 5,
uO 104 (.lens 103),
bN 105 .sub 102 104,
mV 15 105] [0,3,5,7,9,10,11,12,13,14,15,93,94])
(.seq (rg [mV 106 15,
bN 107 .geq 106 (cI 0),
mV 108 107,
gD 109 108 true (.mv 15),
gD 110 108 true (.faddr 5 none 3),
gD 111 108 true (.load none 110),
gD 112 108 true (.lens 111),
gD 113 108 true (.bin .lss 109 112),
uO 114 (.pick 108 113 cF),
mV 115 114,
gD 116 115 true (.faddr 5 none 3),
gD 117 115 true (.load none 116),
gD 118 115 true (.mv 15),
gD 119 115 true (.idxs 117 118),
gD 120 115 true (.bin .eql 119 (.c (.p (.int .u8 49)))),
uO 121 (.pick 115 120 cF)] [0,3,5,7,9,10,11,12,13,14,15,93,94,121])
(.cond 121 (rg [fA 122 4 none 3,
lD 123 none 122,
mV 124 15,
uO 125 (.idxs 123 124),
mV 14 125] [0,3,5,7,9,10,11,12,13,14,93,94])
.skip)))
q1)
def p_q057_k2 : ACode:=P_q057_k2 p_q057_k1
def p_q057_k3 : ACode:=.pr [0,3,5,7,9,10,11,93,94] (rg [bN 133 .add 94 (cI 1),
mV 94 133] [0,3,5,7,9,10,11,93,94])
def P_q057_k4 (q2 q3 : ACode) : ACode:=.pr [0,3,5,7,9,10,11,93,94] (.seq (rg [bN 95 .lss 94 93] [0,3,5,7,9,10,11,93,94,95])
(.seq (.cond 95 .skip
(.exit 0))
(.seq (.block 1 (.seq (rg [mV 96 94,
mV 12 96] [0,3,5,7,9,10,11,12,93,94])
(.seq (rg [mV 13 (.c (.p (.int .u8 48))),
mV 14 (.c (.p (.int .u8 120)))] [0,3,5,7,9,10,11,12,13,14,93,94])
(.seq (.seq (rg [mV 97 12,
mV 98 10,
uO 99 (.lens 98),
bN 100 .sub 99 (cI 1),
bN 101 .eql 97 100] [0,3,5,7,9,10,11,12,13,14,93,94,101])
(.cond 101 (rg [mV 13 (.c (.p (.int .u8 49)))] [0,3,5,7,9,10,11,12,13,14,93,94])
.skip))
q2))))
q3)))
def p_q057_k4 : ACode:=P_q057_k4 p_q057_k2 p_q057_k3
def p_q057_k5 : ACode:=.pr [0,7,9,11] (.seq (rg [mV 134 0,
mV 135 9,
uO 136 (.nilchk 134),
fA 137 36 none 136,
wO (.store none 137 135)] [0,7,11])
(.seq (rg [mV 138 0,
mV 139 7,
cL 140 f_q059 [138,139]] [11])
(.seq (rg [mV 141 11,
mV 4 141] [4])
.ret)))
def P_q057_k6 (q4 q5 : ACode) : ACode:=.pr [0,3,5,7,9,10] (.seq (rg [mV 85 0,
uO 86 (.nilchk 85),
fA 87 37 none 86,
lD 88 none 87,
mV 89 5,
uO 90 (.lens 89),
bN 91 .add 88 90,
mV 11 91] [0,3,5,7,9,10,11])
(.seq (.seq (rg [mV 92 10,
uO 93 (.lens 92),
mV 94 (cI 0)] [0,3,5,7,9,10,11,93,94])
(.block 0 (.loop q4)))
q5))
def p_q057_k6 : ACode:=P_q057_k6 p_q057_k4 p_q057_k5
def P_q057_k7 (q6 : ACode) : ACode:=.pr [0,3,5,6,7,8,9] (.seq (rg [mV 55 0,
mV 56 8,
cL 57 f_q059 [55,56]] [0,3,5,6,7,9])
(.seq (rg [mV 58 5,
fA 59 3 none 3,
lD 60 none 59,
bN 61 .add 58 60,
mV 62 6,
bN 63 .add 61 62,
mV 10 63] [0,3,5,7,9,10])
(.seq (.seq (rg [fA 64 0 none 3,
lD 65 none 64,
bN 66 .eql 65 (cI 7)] [0,3,5,7,9,10,66])
(.cond 66 (rg [mV 67 0,
uO 68 (.nilchk 67),
fA 69 38 none 68,
lD 70 none 69,
mV 71 10,
uO 72 (.lens 71),
bN 73 .add 70 72,
uO 74 (.nilchk 67),
fA 75 38 none 74,
wO (.store none 75 73)] [0,3,5,7,9,10])
(rg [mV 76 0,
uO 77 (.nilchk 76),
fA 78 39 none 77,
lD 79 none 78,
mV 80 10,
uO 81 (.lens 80),
bN 82 .add 79 81,
uO 83 (.nilchk 76),
fA 84 39 none 83,
wO (.store none 84 82)] [0,3,5,7,9,10])))
q6)))
def p_q057_k7 : ACode:=P_q057_k7 p_q057_k6
def P_q057 (q7 : ACode) : ACode:=(.seq (rg [uO 3 (.box 1),
mV 4 (cI 0)] [0,3])
(.seq (dr [dF (mV 16 0) [0],
dF (uO 17 (.nilchk 16)) [16],
dF (fA 18 0 (some 36) 17) [17],
dF (fA 19 24 (some 6) 18) [18],
dF (fA 20 3 none 19) [19],
dF (lD 21 none 20) [20],
dF (mV 22 0) [0],
dF (uO 23 (.nilchk 22)) [22],
dF (fA 24 0 (some 36) 23) [23],
dF (fA 25 30 (some 6) 24) [24],
dF (fA 26 3 none 25) [25],
dF (lD 27 none 26) [26],
dF (mV 28 0) [0],
dF (uO 29 (.nilchk 28)) [28],
dF (fA 30 0 (some 36) 29) [29],
dF (fA 31 6 (some 6) 30) [30],
dF (fA 32 1 none 31) [31],
dF (lD 33 none 32) [32],
dF (mV 5 21) [21],
dF (mV 6 27) [27],
dF (mV 7 33) [33],
dF (mV 8 (cI 4)) [],
dF (mV 9 (cI 5)) []] [0,3,5,6,7,8,9])
(.seq (.seq (rg [fA 34 0 none 3,
lD 35 none 34,
bN 36 .eql 35 (cI 7)] [0,3,5,6,7,8,9,36])
(.cond 36 (dr [dF (mV 37 0) [0],
dF (uO 38 (.nilchk 37)) [37],
dF (fA 39 0 (some 36) 38) [38],
dF (fA 40 12 (some 6) 39) [39],
dF (fA 41 3 none 40) [40],
dF (lD 42 none 41) [41],
dF (mV 43 0) [0],
dF (uO 44 (.nilchk 43)) [43],
dF (fA 45 0 (some 36) 44) [44],
dF (fA 46 18 (some 6) 45) [45],
dF (fA 47 3 none 46) [46],
dF (lD 48 none 47) [47],
dF (mV 49 0) [0],
dF (uO 50 (.nilchk 49)) [49],
dF (fA 51 0 (some 36) 50) [50],
dF (fA 52 0 (some 6) 51) [51],
dF (fA 53 1 none 52) [52],
dF (lD 54 none 53) [53],
dF (mV 5 42) [42],
dF (mV 6 48) [48],
dF (mV 7 54) [54],
dF (mV 8 (cI 11)) [],
dF (mV 9 (cI 12)) []] [0,3,5,6,7,8,9])
.skip))
q7)))
def a_q057 : AFun:=⟨2,[.t 4],P_q057 p_q057_k7,false,false⟩
end Go.Am
end
section
/- The functions asv abstract code,and asv formulas over their values: printed by program out of the translation. -/
set_option linter.unusedVariables false
set_option maxRecDepth 100000
namespace Go.Am
def p_q058_k1 : ACode:=.pr [0,4,35,36] (.seq (rg [bN 37 .lss 36 35] [0,4,35,36,37])
(.seq (.cond 37 .skip
(.exit 1))
(.seq (.block 2 (rg [mV 38 0,
cL 39 f_q056 [38,(.c (.p (.int .u8 48))),(.c (.p (.int .u8 48))),(.c (.p (.int .u8 120)))]] [0,4,35,36]))
(rg [bN 40 .add 36 (cI 1),
mV 36 40] [0,4,35,36]))))
def p_q058_k2 : ACode:=.pr [0,4] (.seq (dr [dF (mV 41 0) [0],
dF (mV 42 0) [0],
dF (uO 43 (.nilchk 42)) [42],
dF (fA 44 40 none 43) [43],
dF (lD 45 none 44) [44],
dF (mV 46 0) [0],
dF (uO 47 (.nilchk 46)) [46],
dF (fA 48 36 none 47) [47],
dF (lD 49 none 48) [48],
dF (uO 50 (.bsl false none 1 (.int .i64 0) [(0,49)])) [49],
dT (uO 51 (.app none 45 50)) [45,50],
dF (uO 52 (.nilchk 41)) [41],
dF (fA 53 40 none 52) [52],
dT (wO (.store none 53 51)) [53,51]] [0,4])
(rg [mV 54 0,
mV 55 0,
uO 56 (.nilchk 55),
fA 57 41 none 56,
lD 58 none 57,
mV 59 4,
uO 60 (.bsl false none 1 (.int .i64 0) [(0,59)]),
uO 61 (.app none 58 60),
uO 62 (.nilchk 54),
fA 63 41 none 62,
wO (.store none 63 61)] []))
def P_q058 (q1 q2 : ACode) : ACode:=(.seq (rg [uO 3 (.box 1)] [0,3])
(.seq (rg [mV 4 (cI 0)] [0,3,4])
(.seq (.block 0 (.seq (rg [fA 10 0 none 3,
lD 11 none 10,
cL 12 f_q053 [11],
mV 9 12] [0,3,4,9])
(.cond 9 (dr [dF (mV 13 0) [0],
dF (uO 14 (.nilchk 13)) [13],
dF (fA 15 0 (some 36) 14) [14],
dF (fA 16 0 none 3) [3],
dF (lD 17 none 16) [16],
dT (cL 18 f_q05b [15,17]) [15,17],
dA (lD 19 (some 6) 3) [3] false [5] [],
dF (uO 20 (.nilchk 18)) [18],
dT (wO (.store (some 6) 20 19)) [20,19]] [0,4])
(.seq (rg [fA 22 0 none 3,
lD 23 none 22,
cL 24 f_q052 [23],
mV 21 24] [0,3,4,21])
(.cond 21 (rg [mV 25 0,
lD 26 (some 6) 3,
cL 27 f_q057 [25,26],
mV 4 27] [0,4])
(.seq (rg [fA 29 0 none 3,
lD 30 none 29,
bN 31 .eql 30 (cI 9),
mV 28 31] [0,3,4,28])
(.cond 28 (.seq (rg [mV 32 0,
cL 33 f_q059 [32,(cI 1)]] [0,3,4])
(.seq (rg [fA 34 2 none 3,
lD 35 none 34,
mV 36 (cI 0)] [0,4,35,36])
(.block 1 (.loop q1))))
(rg [mV 5 0,
fA 6 1 none 3,
lD 7 none 6,
cL 8 f_q059 [5,7]] [0,4]))))))))
q2)))
def a_q058 : AFun:=⟨2,[],P_q058 p_q058_k1 p_q058_k2,false,false⟩
def p_q059_k1 : ACode:=.pr [0,1,4,17,18] (.seq (rg [bN 19 .lss 18 17] [0,1,4,17,18,19])
(.seq (.cond 19 .skip
(.exit 0))
(.seq (.block 1 (.seq (rg [mV 20 18,
mV 6 20] [0,1,4,6,17,18])
(rg [mV 21 0,
mV 22 4,
mV 23 6,
uO 24 (.idxs 22 23),
cL 25 f_q056 [21,24,(.c (.p (.int .u8 48))),(.c (.p (.int .u8 120)))]] [0,1,4,17,18])))
(rg [bN 26 .add 18 (cI 1),
mV 18 26] [0,1,4,17,18]))))
def p_q059_k2 : ACode:=.pr [0,1] (rg [mV 27 0,
mV 28 1,
uO 29 (.nilchk 27),
fA 30 36 none 29,
wO (.store none 30 28)] [])
def P_q059 (q1 q2 : ACode) : ACode:=(.seq (rg [mV 8 0,
uO 9 (.nilchk 8),
fA 10 36 none 9,
lD 11 none 10,
mV 12 1,
cL 13 f_q04p [11,12],
mV 7 13,
eX 14 7 0,
eX 15 7 1,
mV 4 14,
mV 5 15] [0,1,4])
(.seq (.seq (rg [mV 16 4,
uO 17 (.lens 16),
mV 18 (cI 0)] [0,1,4,17,18])
(.block 0 (.loop q1)))
q2))
def a_q059 : AFun:=⟨2,[],P_q059 p_q059_k1 p_q059_k2,false,false⟩
def P_q05a : ACode:=(.seq (rg [uO 1 (.box 0),
mV 2 (cI 0)] [1])
(.seq (.block 0 (.seq (rg [fA 4 3 none 1,
lD 5 none 4,
bN 6 .eql 5 (cS []),
mV 3 6] [1,3])
(.cond 3 (.seq (rg [mV 2 (cI 8)] [2])
.ret)
(.seq (rg [fA 8 3 none 1,
lD 9 none 8,
cL 10 f_q000 [9],
uO 11 (.un .not 10),
mV 7 11] [1,7])
(.cond 7 (.seq (rg [mV 2 (cI 9)] [2])
.ret)
(.seq (rg [fA 13 3 none 1,
lD 14 none 13,
uO 15 (.lens 14),
bN 16 .gtr 15 (cI 2000),
mV 12 16] [1,12])
(.cond 12 (.seq (rg [mV 2 (cI 2)] [2])
.ret)
(.seq (rg [fA 18 4 none 1,
lD 19 none 18,
bN 20 .neq 19 (cS []),
mV 21 20,
gD 22 21 true (.faddr 4 none 1),
gD 23 21 true (.load none 22),
gD 24 21 true (.lens 23),
gD 25 21 true (.faddr 3 none 1),
gD 26 21 true (.load none 25),
gD 27 21 true (.lens 26),
gD 28 21 true (.bin .neq 24 27),
gD 29 21 true (.mv 28),
gD 30 29 false (.faddr 5 none 1),
gD 31 29 false (.load none 30),
gD 32 29 false (.lens 31),
gD 33 29 false (.faddr 3 none 1),
gD 34 29 false (.load none 33),
gD 35 29 false (.lens 34),
gD 36 29 false (.bin .neq 32 35),
gD 37 21 true (.pick 29 cT 36),
uO 38 (.pick 21 37 cF),
mV 17 38] [1,17])
(.cond 17 (.seq (rg [mV 2 (cI 3)] [2])
.ret)
(.seq (rg [fA 40 4 none 1,
lD 41 none 40,
cL 42 f_q000 [41],
uO 43 (.un .not 42),
mV 44 43,
gD 45 44 false (.faddr 5 none 1),
gD 46 44 false (.load none 45),
gD 47 44 false (.call f_q000 [46]),
gD 48 44 false (.un .not 47),
uO 49 (.pick 44 cT 48),
mV 39 49] [1,39])
(.cond 39 (.seq (rg [mV 2 (cI 9)] [2])
.ret)
(.seq (rg [fA 51 4 none 1,
lD 52 none 51,
bN 53 .eql 52 (cS []),
mV 54 53,
gD 55 54 true (.faddr 5 none 1),
gD 56 54 true (.load none 55),
gD 57 54 true (.bin .neq 56 (cS [])),
uO 58 (.pick 54 57 cF),
mV 50 58] [50])
(.cond 50 (.seq (rg [mV 2 (cI 3)] [2])
.ret)
.skip)))))))))))))
(.seq (rg [mV 2 (cI 0)] [2])
.ret)))
def a_q05a : AFun:=⟨1,[.t 2],P_q05a,false,false⟩
def P_q05b : ACode:=(.seq (rg [mV 4 (.c (.nilp))] [0,1])
(.seq (.seq (rg [mV 5 1] [0,5])
(.block 0 (.seq (rg [bN 7 .eql 5 (cI 1),
mV 6 7] [0,5,6])
(.cond 6 (.seq (rg [mV 8 0,
uO 9 (.nilchk 8),
fA 10 0 (some 6) 9,
mV 4 10] [4])
.ret)
(.seq (rg [bN 12 .eql 5 (cI 2),
mV 11 12] [0,5,11])
(.cond 11 (.seq (rg [mV 13 0,
uO 14 (.nilchk 13),
fA 15 6 (some 6) 14,
mV 4 15] [4])
.ret)
(.seq (rg [bN 17 .eql 5 (cI 3),
mV 16 17] [0,5,16])
(.cond 16 (.seq (rg [mV 18 0,
uO 19 (.nilchk 18),
fA 20 12 (some 6) 19,
mV 4 20] [4])
.ret)
(.seq (rg [bN 22 .eql 5 (cI 4),
mV 21 22] [0,5,21])
(.cond 21 (.seq (rg [mV 23 0,
uO 24 (.nilchk 23),
fA 25 18 (some 6) 24,
mV 4 25] [4])
.ret)
(.seq (rg [bN 27 .eql 5 (cI 5),
mV 26 27] [0,26])
(.cond 26 (.seq (rg [mV 28 0,
uO 29 (.nilchk 28),
fA 30 24 (some 6) 29,
mV 4 30] [4])
.ret)
.skip))))))))))))
(.seq (rg [mV 31 0,
uO 32 (.nilchk 31),
fA 33 30 (some 6) 32,
mV 4 33] [4])
.ret)))
def a_q05b : AFun:=⟨2,[.t 4],P_q05b,false,false⟩
def P_q05c : ACode:=(.seq (rg [mV 2 cF] [0])
(.seq (rg [mV 3 0,
bN 4 .eql 3 (cI 0),
mV 5 4,
gD 6 5 false (.mv 0),
gD 7 5 false (.bin .eql 6 (cI 1)),
uO 8 (.pick 5 cT 7),
mV 9 8,
gD 10 9 false (.mv 0),
gD 11 9 false (.bin .eql 10 (cI 6)),
uO 12 (.pick 9 cT 11),
mV 13 12,
gD 14 13 false (.mv 0),
gD 15 13 false (.bin .eql 14 (cI 13)),
uO 16 (.pick 13 cT 15),
mV 2 16] [2])
.ret))
def a_q05c : AFun:=⟨1,[.t 2],P_q05c,false,false⟩
def P_q05d : ACode:=(.seq (rg [uO 0 (.alloc [.p (.int .i64 0),.p (.int .i64 0),.p (.int .i64 0),.p (.str []),.p (.str []),.p (.str []),.p (.int .i64 0),.p (.int .i64 0),.p (.int .i64 0),.p (.str []),.p (.str []),.p (.str []),.p (.int .i64 0),.p (.int .i64 0),.p (.int .i64 0),.p (.str []),.p (.str []),.p (.str []),.p (.int .i64 0),.p (.int .i64 0),.p (.int .i64 0),.p (.str []),.p (.str []),.p (.str []),.p (.int .i64 0),.p (.int .i64 0),.p (.int .i64 0),.p (.str []),.p (.str []),.p (.str []),.p (.int .i64 0),.p (.int .i64 0),.p (.int .i64 0),.p (.str []),.p (.str []),.p (.str [])])] [0])
(.seq (rg [uO 1 (.build [.p (.int .i64 0),.p (.int .i64 0),.p (.int .i64 0),.p (.str []),.p (.str []),.p (.str [])] [(0,1,(cI 1)),(1,1,(cI 1))]),
uO 2 (.build [.p (.int .i64 0),.p (.int .i64 0),.p (.int .i64 0),.p (.str []),.p (.str []),.p (.str [])] [(0,1,(cI 2)),(1,1,(cI 1))]),
uO 3 (.build [.p (.int .i64 0),.p (.int .i64 0),.p (.int .i64 0),.p (.str []),.p (.str []),.p (.str [])] [(0,1,(cI 3))]),
uO 4 (.build [.p (.int .i64 0),.p (.int .i64 0),.p (.int .i64 0),.p (.str []),.p (.str []),.p (.str [])] [(0,1,(cI 4))]),
uO 5 (.build [.p (.int .i64 0),.p (.int .i64 0),.p (.int .i64 0),.p (.str []),.p (.str []),.p (.str [])] [(0,1,(cI 5))]),
uO 6 (.build [.p (.int .i64 0),.p (.int .i64 0),.p (.int .i64 0),.p (.str []),.p (.str []),.p (.str [])] [(0,1,(cI 6))]),
uO 7 (.build [.p (.int .i64 0),.p (.int .i64 0),.p (.int .i64 0),.p (.str []),.p (.str []),.p (.str []),.p (.int .i64 0),.p (.int .i64 0),.p (.int .i64 0),.p (.str []),.p (.str []),.p (.str []),.p (.int .i64 0),.p (.int .i64 0),.p (.int .i64 0),.p (.str []),.p (.str []),.p (.str []),.p (.int .i64 0),.p (.int .i64 0),.p (.int .i64 0),.p (.str []),.p (.str []),.p (.str []),.p (.int .i64 0),.p (.int .i64 0),.p (.int .i64 0),.p (.str []),.p (.str []),.p (.str []),.p (.int .i64 0),.p (.int .i64 0),.p (.int .i64 0),.p (.str []),.p (.str []),.p (.str [])] [(0,6,1),(6,6,2),(12,6,3),(18,6,4),(24,6,5),(30,6,6)]),
wO (.store (some 36) 0 7)] [0])
.ret))
def a_q05d : AFun:=⟨0,[.cell 0 (some 36)],P_q05d,false,false⟩
end Go.Am
end
section
/- The abstract machine,part C: closed calls that say true,asv contracts. -/
set_option linter.all false
namespace Go.Am
variable {P : Program} {gl : Nat → Option PV}
def trueS : List PV → Option AV
  | []=>some (AB true)
  | _=>none
theorem RPV.mono' {M M' : Mem} (hM : ∀ b o v,M.c b o = some v → M'.c b o = some v) {v : PV} {x : Value} (H : RPV M v x) : RPV M' v x:=by
  induction H with
  | int k n=>exact .int k n
  | bool b=>exact .bool b
  | str s=>exact .str s
  | nilp=>exact .nilp
  | unk k n=>exact .unk k n
  | nils sh a cap=>exact .nils sh a cap
  | sl sh xs b o cap f hne hc he hm hr ih=>exact .sl sh xs b o cap f hne hc he (fun j y hy=>hM _ _ _ (hm j y hy)) ih
  | agg cs vs hl hr ih=>exact .agg cs vs hl ih
theorem GInv.mono' {M M' : Mem} (hc : ∀ b o v,M.c b o = some v → M'.c b o = some v) (hb : ∀ b o,M.b b = some o → M'.b b = some o) (H : GInv gl M) : GInv gl M':=fun n v hv=>by
  obtain ⟨h1,cs,t,x,h2,h3⟩:=H n v hv
  refine ⟨?_,cs,t,x,hb _ _ h2,h3⟩
  cases h1 with | vp _ _ _ f hm hr=>exact .vp v n 0 f (fun j y hy=>hc _ _ _ (hm j y hy)) (fun j y hy=>(hr j y hy).mono' hc)
theorem pureRow_closed {X : Ctx} (HX : Fits P X) {f : Nat} (H : ACall X f [] [] fun v h x=>v = AB true ∧ h = [] ∧ x = []) (he : ∀ us w,(callFunc f us).run P w = .ok (.enter f us) w) : PureRow P X.gl f trueS:=by
  refine ⟨he,fun M w vs r us hc hb hG hl hr hs=>?_⟩
  cases vs with
  | cons a l=>cases hs
  | nil=>
    have hu : us = []:=List.length_eq_zero_iff.1 (by simpa using hl.symm)
    subst hu
    simp only [trueS,Option.some.injEq] at hs
    subst hs
    have hno : ∀ b o,¬ Owned ([] : Heap) ([] : Mu) b o:=fun b o ⟨id,n,h1,_⟩=>by simp at h1
    have hnt : ∀ b,¬ Taken ([] : Mu) b:=fun b ⟨id,n,h1⟩=>by simp at h1
    have hG' : GInv X.gl (imm [] [] w):=hG.mono' (fun b o v h=>imm_some.2 ⟨hno b o,hc b o v h⟩) (fun b o h=>imm_blk.2 ⟨hnt b,hb b o h⟩)
    have hR : HeapRel [] [] w:=⟨rfl,fun id o m h1=>by simp at h1,fun i j b n n' h1=>by simp at h1,fun i b n h1=>by simp at h1⟩
    rcases call_sound HX H [] w [] hR hG' rfl (fun j y v h1=>by simp at h1) with ⟨_,q⟩ | ⟨r,w',v,h',x,μ',q,_⟩
    · refine q.mono fun e w' h => ?_
      cases e with
      | panicked _=>exact h.elim
      | outgrown=>exact h.elim
      | returned r=>
        obtain ⟨v,h',x,μ',⟨rfl,rfl,rfl⟩,h1,h2,h3,h4⟩:=h
        have hm : μ' = []:=List.length_eq_zero_iff.1 (by simpa using h2.len)
        subst hm
        have hbl : ∀ b o,w.heap[b]? = some o → w'.heap[b]? = some o:=fun b o h=>(imm_blk.1 (h3.le.b b o (imm_blk.2 ⟨hnt b,h⟩))).2
        refine ⟨r,rfl,⟨?_,fun b hb=>?_,?_⟩,?_⟩
        · rcases Nat.lt_or_ge w'.heap.size w.heap.size with q | q
          · have := hbl w'.heap.size _ (Array.getElem?_eq_getElem q)
            simp at this
          · exact q
        · rw [hbl b _ (Array.getElem?_eq_getElem hb),Array.getElem?_eq_getElem hb]
        · have := h3.le.z
          simpa [imm] using this
        · have := h1.p_bool
          rw [this]
          exact .p _ _ (.bool true)
    · rw [he] at q
      cases q
end Go.Am
end
section
/- The functions together. -/
set_option linter.unusedVariables false
set_option maxRecDepth 100000
namespace Go.Am
def fns : List (Nat × AFun):=[(f_q01s,a_q01s),(f_q022,a_q022),(f_q028,a_q028),(f_q021,a_q021),(f_q010,a_q010),(f_q00x,a_q00x),(f_q00y,a_q00y),(f_q00z,a_q00z),(f_q02j,a_q02j),(f_q02e,a_q02e),(f_q00w,a_q00w),(f_q00v,a_q00v),(f_q032,a_q032),(f_q02a,a_q02a),(f_q027,a_q027),(f_q01u,a_q01u),(f_q02z,a_q02z),(f_q029,a_q029),(f_q02b,a_q02b),(f_q024,a_q024),(f_q025,a_q025),(f_q038,a_q038),(f_q026,a_q026),(f_q012,a_q012),(f_q015,a_q015),(f_q018,a_q018),(f_q017,a_q017),(f_q016,a_q016),(f_q011,a_q011),(f_q02c,a_q02c),(f_q02l,a_q02l),(f_q02y,a_q02y),(f_q02f,a_q02f),(f_q02o,a_q02o),(f_q000,a_q000),(f_q006,a_q006),(f_q013,a_q013),(f_q036,a_q036),(f_q020,a_q020),(f_q03k,a_q03k),(f_q01l,a_q01l),(f_q014,a_q014),(f_q02m,a_q02m),(f_q034,a_q034),(f_q03c,a_q03c),(f_q00s,a_q00s),(f_q01n,a_q01n),(f_q02v,a_q02v),(f_q04d,a_q04d),(f_q00u,a_q00u),(f_q01e,a_q01e)]
def GRL : List (Nat × Sh):=[]
def PRL : PureT:=[(f_q01r,ctzS),(f_q04f,repeatS),(f_q04g,trimS),(f_q01v,trueS)]
def GLL : List (Nat × PV):=[(0,bruijnPV)]
def fnOf : List (Nat × AFun) → Nat → Option AFun
  | [],_=>none
  | (k,F) :: r,n=>bif Nat.beq k n then some F else fnOf r n
def X : Ctx:=⟨fnOf fns,glOf GLL,extF f_internal_bytealg_IndexByteString f_internal_bytealg_abigen_runtime_cmpstring,libF GRL PRL⟩
theorem fnOf_all {p : Nat → AFun → Bool} : ∀ (l : List (Nat × AFun)),(l.all fun y=>p y.1 y.2) = true → ∀ n F,fnOf l n = some F → p n F = true
  | [],_,n,F,h=>by cases h
  | (k,G) :: r,ha,n,F,h=>by
    simp only [List.all_cons,Bool.and_eq_true] at ha
    simp only [fnOf] at h
    cases hk : Nat.beq k n with
    | true=>
      rw [hk] at h
      have:=Nat.eq_of_beq_eq_true hk
      simp only [cond_true,Option.some.injEq] at h
      subst this; subst h; exact ha.1
    | false=>
      rw [hk] at h
      exact fnOf_all r ha.2 n F h
def fns0 : List (Nat × AFun):=[(f_q010,a_q010),(f_q00x,a_q00x),(f_q00w,a_q00w),(f_q00v,a_q00v),(f_q01v,a_q01v),(f_q01u,a_q01u),(f_q02z,a_q02z),(f_q012,a_q012),(f_q015,a_q015),(f_q018,a_q018),(f_q017,a_q017),(f_q016,a_q016),(f_q02y,a_q02y),(f_q000,a_q000),(f_q006,a_q006),(f_q013,a_q013),(f_q00c,a_q00c),(f_q01w,a_q01w),(f_q051,a_q051),(f_q01f,a_q01f),(f_q03q,a_q03q),(f_q036,a_q036),(f_q034,a_q034),(f_q008,a_q008),(f_q00m,a_q00m),(f_q00n,a_q00n),(f_q050,a_q050),(f_q055,a_q055),(f_q01i,a_q01i),(f_q01h,a_q01h),(f_q002,a_q002),(f_q03u,a_q03u),(f_q004,a_q004),(f_q040,a_q040),(f_q043,a_q043),(f_q009,a_q009),(f_q00f,a_q00f),(f_q02w,a_q02w),(f_q054,a_q054),(f_q05d,a_q05d),(f_q058,a_q058),(f_q01j,a_q01j),(f_q01g,a_q01g),(f_q003,a_q003),(f_q001,a_q001),(f_q03p,a_q03p),(f_q03o,a_q03o),(f_q041,a_q041),(f_q03s,a_q03s),(f_q03z,a_q03z),(f_q00u,a_q00u),(f_q00g,a_q00g),(f_q00l,a_q00l),(f_q030,a_q030),(f_q00o,a_q00o),(f_q05c,a_q05c),(f_q052,a_q052),(f_q05a,a_q05a),(f_q053,a_q053),(f_q05b,a_q05b),(f_q057,a_q057),(f_q059,a_q059),(f_q056,a_q056),(f_q03t,a_q03t),(f_q03r,a_q03r),(f_q042,a_q042),(f_q005,a_q005),(f_q03y,a_q03y),(f_q03w,a_q03w),(f_q03x,a_q03x),(f_q00e,a_q00e),(f_q00k,a_q00k),(f_q02x,a_q02x),(f_q00h,a_q00h),(f_q00p,a_q00p),(f_q00d,a_q00d),(f_q037,a_q037),(f_q04p,a_q04p),(f_q00t,a_q00t),(f_q00r,a_q00r),(f_q04a,a_q04a),(f_q03v,a_q03v),(f_q033,a_q033),(f_q00i,a_q00i),(f_q00q,a_q00q),(f_q04q,a_q04q),(f_q04s,a_q04s),(f_q01b,a_q01b),(f_q02s,a_q02s),(f_q00j,a_q00j),(f_q04r,a_q04r)]
def PRL0 : PureT:=[(f_q01r,ctzS),(f_q04f,repeatS),(f_q04g,trimS)]
def X0 : Ctx:=⟨fnOf fns0,glOf GLL,extF f_internal_bytealg_IndexByteString f_internal_bytealg_abigen_runtime_cmpstring,libF GRL PRL0⟩
theorem x0_tap_path : X0.fn f_q04s = some a_q04s:=by kernel_rfl
theorem x0_tap_next : X0.fn f_q04r = some a_q04r:=by kernel_rfl
theorem X_noNext : X.NoNext:=fun f F h=>fnOf_all (p:=fun _ F=>F.isDet || F.body.noNext) fns (by kernel_rfl) f F h
theorem x_q01s : X.fn f_q01s = some a_q01s:=by kernel_rfl
theorem c_q01s {u0 v0 : AV} {h h1 : Heap} {P : Post} (hp : puras h [u0] = some ([v0],h1)) : ACall X f_q01s [u0] h P = d_q01s (ACall X) X.gl p_q01s_k1 p_q01s_k2 v0 h1 [] (finR [.t 2] false h.length P):=by rw [call_val x_q01s rfl hp rfl]; exact e_q01s
theorem x_q022 : X.fn f_q022 = some a_q022:=by kernel_rfl
theorem c_q022 {u0 v0 : AV} {h h1 : Heap} {P : Post} (hp : puras h [u0] = some ([v0],h1)) : ACall X f_q022 [u0] h P = d_q022 (ACall X) X.gl p_q022_k4 p_q022_k7 v0 h1 [] (finR [.t 2] false h.length P):=by rw [call_val x_q022 rfl hp rfl]; exact e_q022
theorem x_q028 : X.fn f_q028 = some a_q028:=by kernel_rfl
theorem c_q028 {u0 u1 v0 v1 : AV} {h h1 : Heap} {P : Post} (hp : puras h [u0,u1] = some ([v0,v1],h1)) : ACall X f_q028 [u0,u1] h P = d_q028 (ACall X) X.gl v0 v1 h1 [] (finR [.t 4] false h.length P):=by rw [call_val x_q028 rfl hp rfl]; exact e_q028
theorem x_q021 : X.fn f_q021 = some a_q021:=by kernel_rfl
theorem c_q021 {u0 u1 v0 v1 : AV} {h h1 : Heap} {P : Post} (hp : puras h [u0,u1] = some ([v0,v1],h1)) : ACall X f_q021 [u0,u1] h P = d_q021 (ACall X) X.gl p_q021_k3 v0 v1 h1 [] (finR [.cell 4 (some 2)] false h.length P):=by rw [call_val x_q021 rfl hp rfl]; exact e_q021
theorem x_q010 : X.fn f_q010 = some a_q010:=by kernel_rfl
theorem c_q010 {u0 u1 v0 v1 : AV} {h h1 : Heap} {P : Post} (hp : puras h [u0,u1] = some ([v0,v1],h1)) : ACall X f_q010 [u0,u1] h P = d_q010 (ACall X) X.gl v0 v1 h1 [] (finR [.t 4,.t 5] false h.length P):=by rw [call_val x_q010 rfl hp rfl]; exact e_q010
theorem x_q00x : X.fn f_q00x = some a_q00x:=by kernel_rfl
theorem c_q00x {u0 u1 v0 v1 : AV} {h h1 : Heap} {P : Post} (hp : puras h [u0,u1] = some ([v0,v1],h1)) : ACall X f_q00x [u0,u1] h P = d_q00x (ACall X) X.gl p_q00x_k1 p_q00x_k2 v0 v1 h1 [] (finR [.t 4,.t 5] false h.length P):=by rw [call_val x_q00x rfl hp rfl]; exact e_q00x
theorem x_q00y : X.fn f_q00y = some a_q00y:=by kernel_rfl
theorem c_q00y {u0 u1 v0 v1 : AV} {h h1 : Heap} {P : Post} (hp : puras h [u0,u1] = some ([v0,v1],h1)) : ACall X f_q00y [u0,u1] h P = d_q00y (ACall X) X.gl v0 v1 h1 [] (finR [.t 4,.t 5] false h.length P):=by rw [call_val x_q00y rfl hp rfl]; exact e_q00y
theorem x_q00z : X.fn f_q00z = some a_q00z:=by kernel_rfl
theorem c_q00z {u0 u1 v0 v1 : AV} {h h1 : Heap} {P : Post} (hp : puras h [u0,u1] = some ([v0,v1],h1)) : ACall X f_q00z [u0,u1] h P = d_q00z (ACall X) X.gl v0 v1 h1 [] (finR [.t 4,.t 5,.t 6] false h.length P):=by rw [call_val x_q00z rfl hp rfl]; exact e_q00z
theorem x_q02j : X.fn f_q02j = some a_q02j:=by kernel_rfl
theorem c_q02j {u0 v0 : AV} {h h1 : Heap} {P : Post} (hp : puras h [u0] = some ([v0],h1)) : ACall X f_q02j [u0] h P = d_q02j (ACall X) X.gl p_q02j_k1 p_q02j_k2 v0 h1 [] (finR [.t 2] false h.length P):=by rw [call_val x_q02j rfl hp rfl]; exact e_q02j
theorem x_q02e : X.fn f_q02e = some a_q02e:=by kernel_rfl
theorem c_q02e {u0 u1 v0 v1 : AV} {h h1 : Heap} {P : Post} (hp : puras h [u0,u1] = some ([v0,v1],h1)) : ACall X f_q02e [u0,u1] h P = d_q02e (ACall X) X.gl p_q02e_k3 v0 v1 h1 [] (finR [.t 4] false h.length P):=by rw [call_val x_q02e rfl hp rfl]; exact e_q02e
theorem x_q00w : X.fn f_q00w = some a_q00w:=by kernel_rfl
theorem c_q00w {u0 v0 : AV} {h h1 : Heap} {P : Post} (hp : puras h [u0] = some ([v0],h1)) : ACall X f_q00w [u0] h P = d_q00w (ACall X) X.gl p_q00w_k1 p_q00w_k2 v0 h1 [] (finR [.t 2] false h.length P):=by rw [call_val x_q00w rfl hp rfl]; exact e_q00w
theorem x_q00v : X.fn f_q00v = some a_q00v:=by kernel_rfl
theorem c_q00v {u0 u1 v0 v1 : AV} {h h1 : Heap} {P : Post} (hp : puras h [u0,u1] = some ([v0,v1],h1)) : ACall X f_q00v [u0,u1] h P = d_q00v (ACall X) X.gl p_q00v_k1 p_q00v_k5 v0 v1 h1 [] (finR [.t 4] false h.length P):=by rw [call_val x_q00v rfl hp rfl]; exact e_q00v
theorem x_q032 : X.fn f_q032 = some a_q032:=by kernel_rfl
theorem c_q032 {u0 u1 v0 v1 : AV} {h h1 : Heap} {P : Post} (hp : puras h [u0,u1] = some ([v0,v1],h1)) : ACall X f_q032 [u0,u1] h P = d_q032 (ACall X) X.gl p_q032_k1 p_q032_k2 v0 v1 h1 [] (finR [.t 4] false h.length P):=by rw [call_val x_q032 rfl hp rfl]; exact e_q032
theorem x_q02a : X.fn f_q02a = some a_q02a:=by kernel_rfl
theorem c_q02a {u0 v0 : AV} {h h1 : Heap} {P : Post} (hp : puras h [u0] = some ([v0],h1)) : ACall X f_q02a [u0] h P = d_q02a (ACall X) X.gl p_q02a_k1 p_q02a_k2 v0 h1 [] (finR [.t 2] false h.length P):=by rw [call_val x_q02a rfl hp rfl]; exact e_q02a
theorem x_q027 : X.fn f_q027 = some a_q027:=by kernel_rfl
theorem c_q027 {u0 u1 v0 v1 : AV} {h h1 : Heap} {P : Post} (hp : puras h [u0,u1] = some ([v0,v1],h1)) : ACall X f_q027 [u0,u1] h P = d_q027 (ACall X) X.gl p_q027_k1 p_q027_k4 v0 v1 h1 [] (finR [.t 4] true h.length P):=by rw [call_val x_q027 rfl hp rfl]; exact e_q027
theorem x_q01u : X.fn f_q01u = some a_q01u:=by kernel_rfl
theorem c_q01u {u0 v0 : AV} {h h1 : Heap} {P : Post} (hp : puras h [u0] = some ([v0],h1)) : ACall X f_q01u [u0] h P = d_q01u (ACall X) X.gl p_q01u_k1 p_q01u_k2 v0 h1 [] (finR [.t 2] false h.length P):=by rw [call_val x_q01u rfl hp rfl]; exact e_q01u
theorem x_q02z : X.fn f_q02z = some a_q02z:=by kernel_rfl
theorem c_q02z {u0 u1 h P} : ACall X f_q02z [u0,u1] h P = d_q02z (ACall X) X.gl u0 u1 h [] (finR [.t 4] false h.length P):=by rw [call_ref x_q02z rfl rfl]; exact e_q02z
theorem x_q029 : X.fn f_q029 = some a_q029:=by kernel_rfl
theorem c_q029 {u0 u1 u2 v0 v1 v2 : AV} {h h1 : Heap} {P : Post} (hp : puras h [u0,u1,u2] = some ([v0,v1,v2],h1)) : ACall X f_q029 [u0,u1,u2] h P = d_q029 (ACall X) X.gl v0 v1 v2 h1 [] (finR [.t 6] false h.length P):=by rw [call_val x_q029 rfl hp rfl]; exact e_q029
theorem x_q02b : X.fn f_q02b = some a_q02b:=by kernel_rfl
theorem c_q02b {u0 u1 v0 v1 : AV} {h h1 : Heap} {P : Post} (hp : puras h [u0,u1] = some ([v0,v1],h1)) : ACall X f_q02b [u0,u1] h P = d_q02b (ACall X) X.gl v0 v1 h1 [] (finR [.t 4] false h.length P):=by rw [call_val x_q02b rfl hp rfl]; exact e_q02b
theorem x_q024 : X.fn f_q024 = some a_q024:=by kernel_rfl
theorem c_q024 {u0 u1 v0 v1 : AV} {h h1 : Heap} {P : Post} (hp : puras h [u0,u1] = some ([v0,v1],h1)) : ACall X f_q024 [u0,u1] h P = d_q024 (ACall X) X.gl v0 v1 h1 [] (finR [.t 4] false h.length P):=by rw [call_val x_q024 rfl hp rfl]; exact e_q024
theorem x_q025 : X.fn f_q025 = some a_q025:=by kernel_rfl
theorem c_q025 {u0 u1 v0 v1 : AV} {h h1 : Heap} {P : Post} (hp : puras h [u0,u1] = some ([v0,v1],h1)) : ACall X f_q025 [u0,u1] h P = d_q025 (ACall X) X.gl v0 v1 h1 [] (finR [.t 4] false h.length P):=by rw [call_val x_q025 rfl hp rfl]; exact e_q025
theorem x_q038 : X.fn f_q038 = some a_q038:=by kernel_rfl
theorem c_q038 {u0 h P} : ACall X f_q038 [u0] h P = d_q038 (ACall X) X.gl u0 h [] (finR [] false h.length P):=by rw [call_ref x_q038 rfl rfl]; exact e_q038
theorem x_q026 : X.fn f_q026 = some a_q026:=by kernel_rfl
theorem c_q026 {u0 u1 u2 v0 v1 v2 : AV} {h h1 : Heap} {P : Post} (hp : puras h [u0,u1,u2] = some ([v0,v1,v2],h1)) : ACall X f_q026 [u0,u1,u2] h P = d_q026 (ACall X) X.gl v0 v1 v2 h1 [] (finR [.t 6] false h.length P):=by rw [call_val x_q026 rfl hp rfl]; exact e_q026
theorem x_q012 : X.fn f_q012 = some a_q012:=by kernel_rfl
theorem c_q012 {u0 u1 v0 v1 : AV} {h h1 : Heap} {P : Post} (hp : puras h [u0,u1] = some ([v0,v1],h1)) : ACall X f_q012 [u0,u1] h P = d_q012 (ACall X) X.gl p_q012_k1 p_q012_k2 v0 v1 h1 [] (finR [.t 4] false h.length P):=by rw [call_val x_q012 rfl hp rfl]; exact e_q012
theorem x_q015 : X.fn f_q015 = some a_q015:=by kernel_rfl
theorem c_q015 {u0 v0 : AV} {h h1 : Heap} {P : Post} (hp : puras h [u0] = some ([v0],h1)) : ACall X f_q015 [u0] h P = d_q015 (ACall X) X.gl p_q015_k4 p_q015_k5 v0 h1 [] (finR [.t 2] true h.length P):=by rw [call_val x_q015 rfl hp rfl]; exact e_q015
theorem x_q018 : X.fn f_q018 = some a_q018:=by kernel_rfl
theorem c_q018 {u0 u1 u2 h P} : ACall X f_q018 [u0,u1,u2] h P = d_q018 (ACall X) X.gl p_q018_k3 p_q018_k5 u0 u1 u2 h [] (finR [] false h.length P):=by rw [call_ref x_q018 rfl rfl]; exact e_q018
theorem x_q017 : X.fn f_q017 = some a_q017:=by kernel_rfl
theorem c_q017 {u0 v0 : AV} {h h1 : Heap} {P : Post} (hp : puras h [u0] = some ([v0],h1)) : ACall X f_q017 [u0] h P = d_q017 (ACall X) X.gl v0 h1 [] (finR [.t 2] false h.length P):=by rw [call_val x_q017 rfl hp rfl]; exact e_q017
theorem x_q016 : X.fn f_q016 = some a_q016:=by kernel_rfl
theorem c_q016 {u0 u1 v0 v1 : AV} {h h1 : Heap} {P : Post} (hp : puras h [u0,u1] = some ([v0,v1],h1)) : ACall X f_q016 [u0,u1] h P = d_q016 (ACall X) X.gl p_q016_k4 p_q016_k5 v0 v1 h1 [] (finR [.t 4] false h.length P):=by rw [call_val x_q016 rfl hp rfl]; exact e_q016
theorem x_q011 : X.fn f_q011 = some a_q011:=by kernel_rfl
theorem c_q011 {u0 u1 u2 v0 v1 v2 : AV} {h h1 : Heap} {P : Post} (hp : puras h [u0,u1,u2] = some ([v0,v1,v2],h1)) : ACall X f_q011 [u0,u1,u2] h P = d_q011 (ACall X) X.gl p_q011_k1 p_q011_k2 v0 v1 v2 h1 [] (finR [.t 6] false h.length P):=by rw [call_val x_q011 rfl hp rfl]; exact e_q011
theorem x_q02c : X.fn f_q02c = some a_q02c:=by kernel_rfl
theorem c_q02c {u0 v0 : AV} {h h1 : Heap} {P : Post} (hp : puras h [u0] = some ([v0],h1)) : ACall X f_q02c [u0] h P = d_q02c (ACall X) X.gl v0 h1 [] (finR [.t 2] false h.length P):=by rw [call_val x_q02c rfl hp rfl]; exact e_q02c
theorem x_q02l : X.fn f_q02l = some a_q02l:=by kernel_rfl
theorem c_q02l {u0 u1 u2 v0 v1 v2 : AV} {h h1 : Heap} {P : Post} (hp : puras h [u0,u1,u2] = some ([v0,v1,v2],h1)) : ACall X f_q02l [u0,u1,u2] h P = d_q02l (ACall X) X.gl v0 v1 v2 h1 [] (finR [.t 6] false h.length P):=by rw [call_val x_q02l rfl hp rfl]; exact e_q02l
theorem x_q02y : X.fn f_q02y = some a_q02y:=by kernel_rfl
theorem c_q02y {u0 u1 h P} : ACall X f_q02y [u0,u1] h P = d_q02y (ACall X) X.gl u0 u1 h [] (finR [.t 4] false h.length P):=by rw [call_ref x_q02y rfl rfl]; exact e_q02y
theorem x_q02f : X.fn f_q02f = some a_q02f:=by kernel_rfl
theorem c_q02f {u0 u1 v0 v1 : AV} {h h1 : Heap} {P : Post} (hp : puras h [u0,u1] = some ([v0,v1],h1)) : ACall X f_q02f [u0,u1] h P = d_q02f (ACall X) X.gl v0 v1 h1 [] (finR [.t 3] false h.length P):=by rw [call_val x_q02f rfl hp rfl]; exact e_q02f
theorem x_q02o : X.fn f_q02o = some a_q02o:=by kernel_rfl
theorem c_q02o {u0 v0 : AV} {h h1 : Heap} {P : Post} (hp : puras h [u0] = some ([v0],h1)) : ACall X f_q02o [u0] h P = d_q02o (ACall X) X.gl v0 h1 [] (finR [.t 2] false h.length P):=by rw [call_val x_q02o rfl hp rfl]; exact e_q02o
theorem x_q000 : X.fn f_q000 = some a_q000:=by kernel_rfl
theorem c_q000 {u0 v0 : AV} {h h1 : Heap} {P : Post} (hp : puras h [u0] = some ([v0],h1)) : ACall X f_q000 [u0] h P = d_q000 (ACall X) X.gl v0 h1 [] (finR [.t 2] false h.length P):=by rw [call_val x_q000 rfl hp rfl]; exact e_q000
theorem x_q006 : X.fn f_q006 = some a_q006:=by kernel_rfl
theorem c_q006 {u0 u1 u2 v0 v1 v2 : AV} {h h1 : Heap} {P : Post} (hp : puras h [u0,u1,u2] = some ([v0,v1,v2],h1)) : ACall X f_q006 [u0,u1,u2] h P = d_q006 (ACall X) X.gl v0 v1 v2 h1 [] (finR [.t 6] false h.length P):=by rw [call_val x_q006 rfl hp rfl]; exact e_q006
theorem x_q013 : X.fn f_q013 = some a_q013:=by kernel_rfl
theorem c_q013 {u0 v0 : AV} {h h1 : Heap} {P : Post} (hp : puras h [u0] = some ([v0],h1)) : ACall X f_q013 [u0] h P = d_q013 (ACall X) X.gl v0 h1 [] (finR [.t 2] false h.length P):=by rw [call_val x_q013 rfl hp rfl]; exact e_q013
theorem x_q036 : X.fn f_q036 = some a_q036:=by kernel_rfl
theorem c_q036 {u0 u1 h P} : ACall X f_q036 [u0,u1] h P = d_q036 (ACall X) X.gl p_q036_k1 p_q036_k2 u0 u1 h [] (finR [.t 4] false h.length P):=by rw [call_ref x_q036 rfl rfl]; exact e_q036
theorem x_q020 : X.fn f_q020 = some a_q020:=by kernel_rfl
theorem c_q020 {u0 u1 v0 v1 : AV} {h h1 : Heap} {P : Post} (hp : puras h [u0,u1] = some ([v0,v1],h1)) : ACall X f_q020 [u0,u1] h P = d_q020 (ACall X) X.gl p_q020_k1 v0 v1 h1 [] (finR [.t 4] false h.length P):=by rw [call_val x_q020 rfl hp rfl]; exact e_q020
theorem x_q03k : X.fn f_q03k = some a_q03k:=by kernel_rfl
theorem c_q03k {u0 u1 u2 u3 h P} : ACall X f_q03k [u0,u1,u2,u3] h P = d_q03k (ACall X) X.gl p_q03k_k4 u0 u1 u2 u3 h [] (finR [] false h.length P):=by rw [call_ref x_q03k rfl rfl]; exact e_q03k
theorem x_q01l : X.fn f_q01l = some a_q01l:=by kernel_rfl
theorem c_q01l {u0 v0 : AV} {h h1 : Heap} {P : Post} (hp : puras h [u0] = some ([v0],h1)) : ACall X f_q01l [u0] h P = d_q01l (ACall X) X.gl v0 h1 [] (finR [.t 2] false h.length P):=by rw [call_val x_q01l rfl hp rfl]; exact e_q01l
theorem x_q014 : X.fn f_q014 = some a_q014:=by kernel_rfl
theorem c_q014 {u0 u1 u2 v0 v1 v2 : AV} {h h1 : Heap} {P : Post} (hp : puras h [u0,u1,u2] = some ([v0,v1,v2],h1)) : ACall X f_q014 [u0,u1,u2] h P = d_q014 (ACall X) X.gl v0 v1 v2 h1 [] (finR [.t 6] false h.length P):=by rw [call_val x_q014 rfl hp rfl]; exact e_q014
theorem x_q02m : X.fn f_q02m = some a_q02m:=by kernel_rfl
theorem c_q02m {u0 u1 v0 v1 : AV} {h h1 : Heap} {P : Post} (hp : puras h [u0,u1] = some ([v0,v1],h1)) : ACall X f_q02m [u0,u1] h P = d_q02m (ACall X) X.gl p_q02m_k1 p_q02m_k2 v0 v1 h1 [] (finR [.t 4] false h.length P):=by rw [call_val x_q02m rfl hp rfl]; exact e_q02m
theorem x_q034 : X.fn f_q034 = some a_q034:=by kernel_rfl
theorem c_q034 {u0 u1 h P} : ACall X f_q034 [u0,u1] h P = d_q034 (ACall X) X.gl p_q034_k1 p_q034_k2 u0 u1 h [] (finR [.t 4] false h.length P):=by rw [call_ref x_q034 rfl rfl]; exact e_q034
theorem x_q03c : X.fn f_q03c = some a_q03c:=by kernel_rfl
theorem c_q03c {u0 u1 u2 h P} : ACall X f_q03c [u0,u1,u2] h P = d_q03c (ACall X) X.gl p_q03c_k3 u0 u1 u2 h [] (finR [] false h.length P):=by rw [call_ref x_q03c rfl rfl]; exact e_q03c
theorem x_q00s : X.fn f_q00s = some a_q00s:=by kernel_rfl
theorem c_q00s {u0 u1 v0 v1 : AV} {h h1 : Heap} {P : Post} (hp : puras h [u0,u1] = some ([v0,v1],h1)) : ACall X f_q00s [u0,u1] h P = d_q00s (ACall X) X.gl v0 v1 h1 [] (finR [.t 4] false h.length P):=by rw [call_val x_q00s rfl hp rfl]; exact e_q00s
theorem x_q01n : X.fn f_q01n = some a_q01n:=by kernel_rfl
theorem c_q01n {u0 v0 : AV} {h h1 : Heap} {P : Post} (hp : puras h [u0] = some ([v0],h1)) : ACall X f_q01n [u0] h P = d_q01n (ACall X) X.gl p_q01n_k3 v0 h1 [] (finR [.t 2] false h.length P):=by rw [call_val x_q01n rfl hp rfl]; exact e_q01n
theorem x_q02v : X.fn f_q02v = some a_q02v:=by kernel_rfl
theorem c_q02v {u0 v0 : AV} {h h1 : Heap} {P : Post} (hp : puras h [u0] = some ([v0],h1)) : ACall X f_q02v [u0] h P = ∃ v h' x,P v h' x ∧ d_q02v (ACall X) X.gl v0 h1 [] (finR [.t 2] true h.length fun v1 h1 x1=>v1 = v ∧ h1 = h' ∧ x1 = x):=by rw [call_val_det x_q02v rfl hp rfl]; exact ex3_congr fun v h' x=>congrArg (And (P v h' x)) e_q02v
theorem x_q04d : X.fn f_q04d = some a_q04d:=by kernel_rfl
theorem c_q04d {u0 u1 v0 v1 : AV} {h h1 : Heap} {P : Post} (hp : puras h [u0,u1] = some ([v0,v1],h1)) : ACall X f_q04d [u0,u1] h P = d_q04d (ACall X) X.gl v0 v1 h1 [] (finR [.t 4] false h.length P):=by rw [call_val x_q04d rfl hp rfl]; exact e_q04d
theorem x_q00u : X.fn f_q00u = some a_q00u:=by kernel_rfl
theorem c_q00u {u0 v0 : AV} {h h1 : Heap} {P : Post} (hp : puras h [u0] = some ([v0],h1)) : ACall X f_q00u [u0] h P = d_q00u (ACall X) X.gl v0 h1 [] (finR [.t 2] false h.length P):=by rw [call_val x_q00u rfl hp rfl]; exact e_q00u
theorem x_q01e : X.fn f_q01e = some a_q01e:=by kernel_rfl
theorem c_q01e {u0 u1 v0 v1 : AV} {h h1 : Heap} {P : Post} (hp : puras h [u0,u1] = some ([v0,v1],h1)) : ACall X f_q01e [u0,u1] h P = d_q01e (ACall X) X.gl v0 v1 h1 [] (finR [.t 4] false h.length P):=by rw [call_val x_q01e rfl hp rfl]; exact e_q01e
attribute [go_sem] e_q01s_k1 e_q01s_k2 l_q01s_k1 d_q01s_k1 d_q01s_k2 e_q022_k1 e_q022_k2 e_q022_k3 e_q022_k4 e_q022_k5 e_q022_k6 e_q022_k7 l_q022_k1 l_q022_k4 l_q022_k5 d_q022_k1 d_q022_k2 d_q022_k3 d_q022_k4 d_q022_k5 d_q022_k6 d_q022_k7 e_q021_k1 e_q021_k2 e_q021_k3 d_q021_k1 d_q021_k2 d_q021_k3 e_q00x_k1 e_q00x_k2 l_q00x_k1 d_q00x_k1 d_q00x_k2 e_q02j_k1 e_q02j_k2 l_q02j_k1 d_q02j_k1 d_q02j_k2 e_q02e_k1 e_q02e_k2
attribute [go_sem] e_q02e_k3 l_q02e_k1 d_q02e_k1 d_q02e_k2 d_q02e_k3 e_q00w_k1 e_q00w_k2 l_q00w_k1 d_q00w_k1 d_q00w_k2 e_q00v_k1 e_q00v_k2 e_q00v_k3 e_q00v_k4 e_q00v_k5 l_q00v_k1 l_q00v_k2 d_q00v_k1 d_q00v_k2 d_q00v_k3 d_q00v_k4 d_q00v_k5 e_q032_k1 e_q032_k2 l_q032_k1 d_q032_k1 d_q032_k2 e_q02a_k1 e_q02a_k2 l_q02a_k1 d_q02a_k1 d_q02a_k2 e_q027_k1 e_q027_k2 e_q027_k3 e_q027_k4 l_q027_k1 l_q027_k2 d_q027_k1 d_q027_k2
attribute [go_sem] d_q027_k3 d_q027_k4 e_q01u_k1 e_q01u_k2 l_q01u_k1 d_q01u_k1 d_q01u_k2 e_q012_k1 e_q012_k2 l_q012_k1 d_q012_k1 d_q012_k2 e_q015_k1 e_q015_k2 e_q015_k3 e_q015_k4 e_q015_k5 l_q015_k1 l_q015_k4 d_q015_k1 d_q015_k2 d_q015_k3 d_q015_k4 d_q015_k5 e_q018_k1 e_q018_k2 e_q018_k3 e_q018_k4 e_q018_k5 l_q018_k1 l_q018_k2 l_q018_k4 d_q018_k1 d_q018_k2 d_q018_k3 d_q018_k4 d_q018_k5 e_q016_k1 e_q016_k2 e_q016_k3
attribute [go_sem] e_q016_k4 e_q016_k5 l_q016_k1 l_q016_k4 d_q016_k1 d_q016_k2 d_q016_k3 d_q016_k4 d_q016_k5 e_q011_k1 e_q011_k2 l_q011_k1 d_q011_k1 d_q011_k2 e_q036_k1 e_q036_k2 l_q036_k1 d_q036_k1 d_q036_k2 e_q020_k1 d_q020_k1 e_q03k_k1 e_q03k_k2 e_q03k_k3 e_q03k_k4 l_q03k_k4 d_q03k_k1 d_q03k_k2 d_q03k_k3 d_q03k_k4 e_q02m_k1 e_q02m_k2 l_q02m_k1 d_q02m_k1 d_q02m_k2 e_q034_k1 e_q034_k2 l_q034_k1 d_q034_k1 d_q034_k2
attribute [go_sem] e_q03c_k1 e_q03c_k2 e_q03c_k3 l_q03c_k1 l_q03c_k3 d_q03c_k1 d_q03c_k2 d_q03c_k3 e_q01n_k1 e_q01n_k2 e_q01n_k3 d_q01n_k1 d_q01n_k2 d_q01n_k3 e_q04s_k1 e_q04s_k2 e_q04s_k3 e_q04s_k4 l_q04s_k2 l_q04s_k3 d_q04s_k1 d_q04s_k2 d_q04s_k3 d_q04s_k4
end Go.Am
end
