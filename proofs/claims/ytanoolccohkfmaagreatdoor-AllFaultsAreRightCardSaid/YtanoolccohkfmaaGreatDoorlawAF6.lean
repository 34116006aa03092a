/- Texts of the proof, laid together: CodesB, CodesC. -/
import Derived.KernelRfl
import Derived.Test.YtanoolccohkfmaaGreatDoorlawAF5
set_option linter.all false
section
/- The functions asv abstract code,and asv formulas over their values: printed by program out of the translation. -/
set_option linter.unusedVariables false
set_option maxRecDepth 100000
namespace Go.Am
def p_q001_k1 : ACode:=.pr [1,6,7,15,16,17] (.seq (rg [bN 18 .lss 17 16] [1,6,7,15,16,17,18])
(.seq (.cond 18 .skip
(.exit 0))
(.seq (.block 1 (.seq (rg [mV 19 17,
iA 20 none 15 17,
lD 21 none 20,
mV 8 19,
mV 9 21] [1,6,7,8,9,15,16,17])
(.seq (rg [mV 22 7,
uO 23 (.un .not 22),
mV 24 23,
gD 25 24 true (.mv 8),
gD 26 24 true (.mv 6),
gD 27 24 true (.len 26),
gD 28 24 true (.bin .sub 27 (cI 1)),
gD 29 24 true (.bin .eql 25 28),
uO 30 (.pick 24 29 cF),
mV 31 30,
gD 32 31 false (.mv 1),
gD 33 31 false (.mv 9),
gD 34 31 false (.callv 32 [33]),
gD 35 31 false (.un .not 34),
uO 36 (.pick 31 cT 35)] [1,6,7,8,15,16,17,36])
(.cond 36 (.seq (rg [mV 37 8,
mV 4 37,
mV 5 cF] [4,5])
.ret)
.skip))))
(rg [bN 38 .add 17 (cI 1),
mV 17 38] [1,6,7,15,16,17]))))
def d_q001_k1 (C : Hd) (gl : GL) (v1 v6 v7 v15 v16 v17 : AV) (h : Heap) (x : Esc) (K : KT) : Prop:=
 pK (oBin .lss v17 v16) fun t1=>
 condB t1 (pK (oIaddr none v15 v17 h) fun t2=>
 pK (oLoad none t2 h) fun t3=>
 pK (oUn .not v7) fun t4=>
 gM t4 true v17 h fun t5 h6 y7=>
 gM t4 true v6 h6 fun t8 h9 y10=>
 gP t4 true (oLen t8) h9 fun t11 h12 y13=>
 gP t4 true (oBin .sub t11 (AI 1)) h12 fun t14 h15 y16=>
 gP t4 true (oBin .eql t5 t14) h15 fun t17 h18 y19=>
 pK (oPick t4 t17 (AB false)) fun t20=>
 gM t20 false v1 h18 fun t21 h22 y23=>
 gM t20 false t3 h22 fun t24 h25 y26=>
 gV t20 false h25 (callvK C t21 [t24] h25) fun t27 h28 y29=>
 gP t20 false (oUn .not t27) h28 fun t30 h31 y32=>
 pK (oPick t20 (AB true) t30) fun t33=>
 condB t33 (K .ret ⟨[(4,v17),(5,(AB false))],h31,(y32 ++ (y29 ++ (y26 ++ (y23 ++ (y19 ++ (y16 ++ (y13 ++ (y10 ++ (y7 ++ x)))))))))⟩)
 (pK (oBin .add v17 (AI 1)) fun t34=>
 K .normal ⟨[(1,v1),(6,v6),(7,v7),(15,v15),(16,v16),(17,t34)],h31,(y32 ++ (y29 ++ (y26 ++ (y23 ++ (y19 ++ (y16 ++ (y13 ++ (y10 ++ (y7 ++ x)))))))))⟩))
 (K (.exit 0) ⟨[(1,v1),(6,v6),(7,v7),(15,v15),(16,v16),(17,v17),(18,t1)],h,x⟩)
theorem e_q001_k1 {C gl e h x K} : NW C gl p_q001_k1 ⟨e,h,x⟩ K = d_q001_k1 C gl (aget e 1) (aget e 6) (aget e 7) (aget e 15) (aget e 16) (aget e 17) h x K:=by kernel_rfl
theorem l_q001_k1 {C gl e h x K} : NW C gl (.loop p_q001_k1) ⟨e,h,x⟩ K = NLoop C gl p_q001_k1 K [(1,aget e 1),(6,aget e 6),(7,aget e 7),(15,aget e 15),(16,aget e 16),(17,aget e 17)] h x:=NLoop_pr
def p_q001_k2 : ACode:=.pr [] (.seq (rg [mV 4 (cI 0),
mV 5 cT] [4,5])
.ret)
def d_q001_k2 (C : Hd) (gl : GL) (h : Heap) (x : Esc) (K : KT) : Prop:=
 K .ret ⟨[(4,(AI 0)),(5,(AB true))],h,x⟩
theorem e_q001_k2 {C gl e h x K} : NW C gl p_q001_k2 ⟨e,h,x⟩ K = d_q001_k2 C gl h x K:=by kernel_rfl
def P_q001 (q1 q2 : ACode) : ACode:=(.seq (rg [mV 4 (cI 0),
mV 5 cF] [0,1])
(.seq (rg [mV 11 0,
cL 12 f_q006 [11],
mV 10 12,
eX 13 10 0,
eX 14 10 1,
mV 6 13,
mV 7 14] [1,6,7])
(.seq (.seq (rg [mV 15 6,
lN 16 15,
mV 17 (cI 0)] [1,6,7,15,16,17])
(.block 0 (.loop q1)))
q2)))
def a_q001 : AFun:=⟨2,[.t 4,.t 5],P_q001 p_q001_k1 p_q001_k2,false,false⟩
def d_q001 (C : Hd) (gl : GL) (q1 q2 : ACode) (v0 v1 : AV) (h : Heap) (x : Esc) (K : KT) : Prop:=
 C f_q006 [v0] h fun t1 h2 y3=>
 pK (oExt t1 0) fun t4=>
 pK (oExt t1 1) fun t5=>
 pK (oLen t4) fun t6=>
 NW C gl (.loop q1) ⟨[(1,v1),(6,t4),(7,t5),(15,t4),(16,t6),(17,(AI 0))],h2,(y3 ++ x)⟩ (blockN 0 (seqN C gl q2 K))
theorem E_q001 {C gl q1 q2 v0 v1 h x K} : NW C gl (P_q001 q1 q2) ⟨enter [v0,v1],h,x⟩ K = d_q001 C gl q1 q2 v0 v1 h x K:=by kernel_rfl
theorem e_q001 {C gl v0 v1 h x K} : NW C gl a_q001.body ⟨enter [v0,v1],h,x⟩ K = d_q001 C gl p_q001_k1 p_q001_k2 v0 v1 h x K:=E_q001
def P_q01b : ACode:=(.seq (rg [mV 3 cF] [0,1])
(.seq (rg [mV 7 0,
cL 8 f_q01r [7],
mV 6 8,
eX 9 6 0,
eX 10 6 1,
uO 4 (.alloc [.p (.int .i64 0),.sl0 none]),
wO (.store (some 2) 4 9),
mV 5 10] [1,4,5])
(.seq (rg [lD 11 none 1,
lD 12 (some 2) 4,
uO 13 (.bsl false (some 2) 1 (.agg [.int .i64 0,.sl none []]) [(0,12)]),
uO 14 (.app (some 2) 11 13),
wO (.store none 1 14)] [5])
(.seq (rg [mV 15 5,
mV 3 15] [3])
.ret))))
def a_q01b : AFun:=⟨2,[.t 3],P_q01b,false,false⟩
def d_q01b (C : Hd) (gl : GL) (v0 v1 : AV) (h : Heap) (x : Esc) (K : KT) : Prop:=
 C f_q01r [v0] h fun t1 h2 y3=>
 pK (oExt t1 0) fun t4=>
 pK (oExt t1 1) fun t5=>
 alK [.p (.int .i64 0),.sl0 none] h2 fun t6 h7 y8=>
 wK (oStore (some 2) t6 t4 h7) fun t9 h10 y11=>
 pK (oLoad none v1 h10) fun t12=>
 pK (oLoad (some 2) t6 h10) fun t13=>
 wK (oBsl false (some 2) 1 (.agg [.int .i64 0,.sl none []]) [(0,t13)] h10) fun t14 h15 y16=>
 wK (oApp (some 2) t12 t14 h15) fun t17 h18 y19=>
 wK (oStore none v1 t17 h18) fun t20 h21 y22=>
 K .ret ⟨[(3,t5)],h21,(y22 ++ (y19 ++ (y16 ++ (y11 ++ (y8 ++ (y3 ++ x))))))⟩
theorem e_q01b {C gl v0 v1 h x K} : NW C gl a_q01b.body ⟨enter [v0,v1],h,x⟩ K = d_q01b C gl v0 v1 h x K:=by kernel_rfl
def p_q01r_k1 : ACode:=.pr [2,4,5,7] (.seq (.seq (rg [mV 24 7,
bN 25 .leq 24 (cI 6)] [2,4,5,7,25])
(.cond 25 .skip
(.exit 0)))
(.seq (.block 1 (.seq (dr [dF (mV 28 7) [7],
dT (cL 29 f_q01x [28]) [28],
dF (mV 30 4) [4],
dA (iA 31 none 30 (cI 0)) [30] false [1] [],
dA (lD 32 none 31) [31] false [1] [],
dF (bN 33 .eql 29 32) [29,32]] [2,4,5,7,33])
(.cond 33 (.seq (rg [mV 34 7,
mV 35 5,
uO 36 (.build [.p (.int .i64 0),.sl0 none] [(0,1,34),(1,1,35)]),
wO (.store (some 2) 2 36),
mV 3 cT] [2,3])
.ret)
.skip)))
(rg [mV 26 7,
bN 27 .add 26 (cI 1),
mV 7 27] [2,4,5,7])))
def d_q01r_k1 (C : Hd) (gl : GL) (v2 v4 v5 v7 : AV) (h : Heap) (x : Esc) (K : KT) : Prop:=
 pK (oBin .leq v7 (AI 6)) fun t1=>
 condB t1 (callE C f_q01x [v7] h fun t2 h3 y4=>
 pK (oIaddr none v4 (AI 0) h3) fun t5=>
 (pK (oIaddr none v4 (AI 0) h) fun v=>(fun u (g1 : Heap) (y1 : Esc)=>u = t5 ∧ g1 = h ∧ y1 = []) v h []) ∧ (pK (oLoad none t5 h3) fun t6=>
 (pK (oLoad none t5 h) fun v=>(fun u (g1 : Heap) (y1 : Esc)=>u = t6 ∧ g1 = h ∧ y1 = []) v h []) ∧ (pK (oBin .eql t2 t6) fun t7=>
 condB t7 (pK (oBuild [.p (.int .i64 0),.sl0 none] [(0,1,v7),(1,1,v5)]) fun t8=>
 wK (oStore (some 2) v2 t8 h3) fun t9 h10 y11=>
 K .ret ⟨[(2,v2),(3,(AB true))],h10,(y11 ++ (y4 ++ x))⟩)
 (pK (oBin .add v7 (AI 1)) fun t12=>
 K .normal ⟨[(2,v2),(4,v4),(5,v5),(7,t12)],h3,(y4 ++ x)⟩))))
 (K (.exit 0) ⟨[(2,v2),(4,v4),(5,v5),(7,v7),(25,t1)],h,x⟩)
theorem e_q01r_k1 {C gl e h x K} : NW C gl p_q01r_k1 ⟨e,h,x⟩ K = d_q01r_k1 C gl (aget e 2) (aget e 4) (aget e 5) (aget e 7) h x K:=by kernel_rfl
theorem l_q01r_k1 {C gl e h x K} : NW C gl (.loop p_q01r_k1) ⟨e,h,x⟩ K = NLoop C gl p_q01r_k1 K [(2,aget e 2),(4,aget e 4),(5,aget e 5),(7,aget e 7)] h x:=NLoop_pr
def p_q01r_k2 : ACode:=.pr [2] (.seq (rg [uO 37 (.build [.p (.int .i64 0),.sl0 none] []),
wO (.store (some 2) 2 37),
mV 3 cF] [2,3])
.ret)
def d_q01r_k2 (C : Hd) (gl : GL) (v2 : AV) (h : Heap) (x : Esc) (K : KT) : Prop:=
 pK (oBuild [.p (.int .i64 0),.sl0 none] []) fun t1=>
 wK (oStore (some 2) v2 t1 h) fun t2 h3 y4=>
 K .ret ⟨[(2,v2),(3,(AB false))],h3,(y4 ++ x)⟩
theorem e_q01r_k2 {C gl e h x K} : NW C gl p_q01r_k2 ⟨e,h,x⟩ K = d_q01r_k2 C gl (aget e 2) h x K:=by kernel_rfl
def P_q01r (q1 q2 : ACode) : ACode:=(.seq (rg [uO 2 (.alloc [.p (.int .i64 0),.sl0 none]),
mV 3 cF] [0,2])
(.seq (rg [mV 8 0,
cL 9 f_q08e [8,(cS [32])],
mV 4 9] [2,4])
(.seq (rg [mV 11 4,
uO 12 (.slice none 11 (some (cI 1)) none none),
cL 13 f_q009 [12,(cI 15)],
mV 10 13,
eX 14 10 0,
eX 15 10 1,
mV 5 14,
mV 6 15] [2,4,5,6])
(.seq (.seq (rg [mV 16 6,
uO 17 (.un .not 16),
mV 18 17,
gD 19 18 false (.mv 5),
gD 20 18 false (.len 19),
gD 21 18 false (.bin .eql 20 (cI 0)),
uO 22 (.pick 18 cT 21)] [2,4,5,22])
(.cond 22 (.seq (rg [uO 23 (.build [.p (.int .i64 0),.sl0 none] []),
wO (.store (some 2) 2 23),
mV 3 cF] [2,3])
.ret)
.skip))
(.seq (.seq (rg [mV 7 (cI 1)] [2,4,5,7])
(.block 0 (.loop q1)))
q2)))))
def a_q01r : AFun:=⟨1,[.cell 2 (some 2),.t 3],P_q01r p_q01r_k1 p_q01r_k2,false,false⟩
def d_q01r (C : Hd) (gl : GL) (q1 q2 : ACode) (v0 : AV) (h : Heap) (x : Esc) (K : KT) : Prop:=
 alK [.p (.int .i64 0),.sl0 none] h fun t1 h2 y3=>
 C f_q08e [v0,(.p (.str [32]))] h2 fun t4 h5 y6=>
 pK (oSlice none t4 (some (AI 1)) none none h5) fun t7=>
 C f_q009 [t7,(AI 15)] h5 fun t8 h9 y10=>
 pK (oExt t8 0) fun t11=>
 pK (oExt t8 1) fun t12=>
 pK (oUn .not t12) fun t13=>
 gM t13 false t11 h9 fun t14 h15 y16=>
 gP t13 false (oLen t14) h15 fun t17 h18 y19=>
 gP t13 false (oBin .eql t17 (AI 0)) h18 fun t20 h21 y22=>
 pK (oPick t13 (AB true) t20) fun t23=>
 condB t23 (pK (oBuild [.p (.int .i64 0),.sl0 none] []) fun t24=>
 wK (oStore (some 2) t1 t24 h21) fun t25 h26 y27=>
 K .ret ⟨[(2,t1),(3,(AB false))],h26,(y27 ++ (y22 ++ (y19 ++ (y16 ++ (y10 ++ (y6 ++ (y3 ++ x)))))))⟩)
 (NW C gl (.loop q1) ⟨[(2,t1),(4,t4),(5,t11),(7,(AI 1))],h21,(y22 ++ (y19 ++ (y16 ++ (y10 ++ (y6 ++ (y3 ++ x))))))⟩ (blockN 0 (seqN C gl q2 K)))
theorem E_q01r {C gl q1 q2 v0 h x K} : NW C gl (P_q01r q1 q2) ⟨enter [v0],h,x⟩ K = d_q01r C gl q1 q2 v0 h x K:=by kernel_rfl
theorem e_q01r {C gl v0 h x K} : NW C gl a_q01r.body ⟨enter [v0],h,x⟩ K = d_q01r C gl p_q01r_k1 p_q01r_k2 v0 h x K:=E_q01r
def p_q066_k1 : ACode:=.pr [0,1,7,8] (.seq (rg [bN 9 .lss 8 7] [0,1,7,8,9])
(.seq (.cond 9 .skip
(.exit 0))
(.seq (.block 1 (.seq (rg [mV 10 8,
mV 5 10] [0,1,5,7,8])
(.seq (rg [mV 11 1,
mV 12 0,
mV 13 5,
iA 14 none 12 13,
lD 15 none 14,
bN 16 .eql 11 15] [0,1,5,7,8,16])
(.cond 16 (.seq (rg [mV 17 5,
mV 4 17] [4])
.ret)
.skip))))
(rg [bN 18 .add 8 (cI 1),
mV 8 18] [0,1,7,8]))))
def d_q066_k1 (C : Hd) (gl : GL) (v0 v1 v7 v8 : AV) (h : Heap) (x : Esc) (K : KT) : Prop:=
 pK (oBin .lss v8 v7) fun t1=>
 condB t1 (pK (oIaddr none v0 v8 h) fun t2=>
 pK (oLoad none t2 h) fun t3=>
 pK (oBin .eql v1 t3) fun t4=>
 condB t4 (K .ret ⟨[(4,v8)],h,x⟩)
 (pK (oBin .add v8 (AI 1)) fun t5=>
 K .normal ⟨[(0,v0),(1,v1),(7,v7),(8,t5)],h,x⟩))
 (K (.exit 0) ⟨[(0,v0),(1,v1),(7,v7),(8,v8),(9,t1)],h,x⟩)
theorem e_q066_k1 {C gl e h x K} : NW C gl p_q066_k1 ⟨e,h,x⟩ K = d_q066_k1 C gl (aget e 0) (aget e 1) (aget e 7) (aget e 8) h x K:=by kernel_rfl
theorem l_q066_k1 {C gl e h x K} : NW C gl (.loop p_q066_k1) ⟨e,h,x⟩ K = NLoop C gl p_q066_k1 K [(0,aget e 0),(1,aget e 1),(7,aget e 7),(8,aget e 8)] h x:=NLoop_pr
def p_q066_k2 : ACode:=.pr [] (.seq (rg [mV 4 (cI (-1))] [4])
.ret)
def d_q066_k2 (C : Hd) (gl : GL) (h : Heap) (x : Esc) (K : KT) : Prop:=
 K .ret ⟨[(4,(AI (-1)))],h,x⟩
theorem e_q066_k2 {C gl e h x K} : NW C gl p_q066_k2 ⟨e,h,x⟩ K = d_q066_k2 C gl h x K:=by kernel_rfl
def P_q066 (q1 q2 : ACode) : ACode:=(.seq (rg [mV 4 (cI 0)] [0,1])
(.seq (.seq (rg [mV 6 0,
lN 7 6,
mV 8 (cI 0)] [0,1,7,8])
(.block 0 (.loop q1)))
q2))
def a_q066 : AFun:=⟨2,[.t 4],P_q066 p_q066_k1 p_q066_k2,true,false⟩
def d_q066 (C : Hd) (gl : GL) (q1 q2 : ACode) (v0 v1 : AV) (h : Heap) (x : Esc) (K : KT) : Prop:=
 pK (oLen v0) fun t1=>
 NW C gl (.loop q1) ⟨[(0,v0),(1,v1),(7,t1),(8,(AI 0))],h,x⟩ (blockN 0 (seqN C gl q2 K))
theorem E_q066 {C gl q1 q2 v0 v1 h x K} : NW C gl (P_q066 q1 q2) ⟨enter [v0,v1],h,x⟩ K = d_q066 C gl q1 q2 v0 v1 h x K:=by kernel_rfl
theorem e_q066 {C gl v0 v1 h x K} : NW C gl a_q066.body ⟨enter [v0,v1],h,x⟩ K = d_q066 C gl p_q066_k1 p_q066_k2 v0 v1 h x K:=E_q066
def p_q062_k1 : ACode:=.pr [0,1,7,8] (.seq (rg [bN 9 .lss 8 7] [0,1,7,8,9])
(.seq (.cond 9 .skip
(.exit 0))
(.seq (.block 1 (.seq (rg [mV 10 8,
mV 5 10] [0,1,5,7,8])
(.seq (rg [mV 11 1,
mV 12 0,
mV 13 5,
iA 14 (some 2) 12 13,
lD 15 (some 2) 14,
uO 16 (.callv 11 [15])] [0,1,5,7,8,16])
(.cond 16 (.seq (rg [mV 17 5,
mV 4 17] [4])
.ret)
.skip))))
(rg [bN 18 .add 8 (cI 1),
mV 8 18] [0,1,7,8]))))
def d_q062_k1 (C : Hd) (gl : GL) (v0 v1 v7 v8 : AV) (h : Heap) (x : Esc) (K : KT) : Prop:=
 pK (oBin .lss v8 v7) fun t1=>
 condB t1 (pK (oIaddr (some 2) v0 v8 h) fun t2=>
 pK (oLoad (some 2) t2 h) fun t3=>
 callvK C v1 [t3] h fun t4 h5 y6=>
 condB t4 (K .ret ⟨[(4,v8)],h5,(y6 ++ x)⟩)
 (pK (oBin .add v8 (AI 1)) fun t7=>
 K .normal ⟨[(0,v0),(1,v1),(7,v7),(8,t7)],h5,(y6 ++ x)⟩))
 (K (.exit 0) ⟨[(0,v0),(1,v1),(7,v7),(8,v8),(9,t1)],h,x⟩)
theorem e_q062_k1 {C gl e h x K} : NW C gl p_q062_k1 ⟨e,h,x⟩ K = d_q062_k1 C gl (aget e 0) (aget e 1) (aget e 7) (aget e 8) h x K:=by kernel_rfl
theorem l_q062_k1 {C gl e h x K} : NW C gl (.loop p_q062_k1) ⟨e,h,x⟩ K = NLoop C gl p_q062_k1 K [(0,aget e 0),(1,aget e 1),(7,aget e 7),(8,aget e 8)] h x:=NLoop_pr
def p_q062_k2 : ACode:=.pr [] (.seq (rg [mV 4 (cI (-1))] [4])
.ret)
def d_q062_k2 (C : Hd) (gl : GL) (h : Heap) (x : Esc) (K : KT) : Prop:=
 K .ret ⟨[(4,(AI (-1)))],h,x⟩
theorem e_q062_k2 {C gl e h x K} : NW C gl p_q062_k2 ⟨e,h,x⟩ K = d_q062_k2 C gl h x K:=by kernel_rfl
def P_q062 (q1 q2 : ACode) : ACode:=(.seq (rg [mV 4 (cI 0)] [0,1])
(.seq (.seq (rg [mV 6 0,
lN 7 6,
mV 8 (cI 0)] [0,1,7,8])
(.block 0 (.loop q1)))
q2))
def a_q062 : AFun:=⟨2,[.t 4],P_q062 p_q062_k1 p_q062_k2,true,false⟩
def d_q062 (C : Hd) (gl : GL) (q1 q2 : ACode) (v0 v1 : AV) (h : Heap) (x : Esc) (K : KT) : Prop:=
 pK (oLen v0) fun t1=>
 NW C gl (.loop q1) ⟨[(0,v0),(1,v1),(7,t1),(8,(AI 0))],h,x⟩ (blockN 0 (seqN C gl q2 K))
theorem E_q062 {C gl q1 q2 v0 v1 h x K} : NW C gl (P_q062 q1 q2) ⟨enter [v0,v1],h,x⟩ K = d_q062 C gl q1 q2 v0 v1 h x K:=by kernel_rfl
theorem e_q062 {C gl v0 v1 h x K} : NW C gl a_q062.body ⟨enter [v0,v1],h,x⟩ K = d_q062 C gl p_q062_k1 p_q062_k2 v0 v1 h x K:=E_q062
def p_q03o_k1 : ACode:=.pr [0] (.seq (rg [mV 15 0,
mV 4 15] [4])
.ret)
def d_q03o_k1 (C : Hd) (gl : GL) (v0 : AV) (h : Heap) (x : Esc) (K : KT) : Prop:=
 K .ret ⟨[(4,v0)],h,x⟩
theorem e_q03o_k1 {C gl e h x K} : NW C gl p_q03o_k1 ⟨e,h,x⟩ K = d_q03o_k1 C gl (aget e 0) h x K:=by kernel_rfl
def P_q03o (q1 : ACode) : ACode:=(.seq (rg [mV 4 (cI 0)] [0,1])
(.seq (.seq (rg [mV 5 1,
bN 6 .lss 5 (cI 1)] [0,1,6])
(.cond 6 (.seq (rg [mV 4 (cI 0)] [4])
.ret)
.skip))
(.seq (rg [mV 7 0,
mV 8 1,
bN 9 .rem 7 8,
mV 0 9] [0,1])
(.seq (.seq (rg [mV 10 0,
bN 11 .lss 10 (cI 0)] [0,1,11])
(.cond 11 (rg [mV 12 0,
mV 13 1,
bN 14 .add 12 13,
mV 0 14] [0])
.skip))
q1))))
def a_q03o : AFun:=⟨2,[.t 4],P_q03o p_q03o_k1,false,false⟩
def d_q03o (C : Hd) (gl : GL) (q1 : ACode) (v0 v1 : AV) (h : Heap) (x : Esc) (K : KT) : Prop:=
 pK (oBin .lss v1 (AI 1)) fun t1=>
 condB t1 (K .ret ⟨[(4,(AI 0))],h,x⟩)
 (pK (oBin .rem v0 v1) fun t2=>
 pK (oBin .lss t2 (AI 0)) fun t3=>
 condB t3 (pK (oBin .add t2 v1) fun t4=>
 NW C gl q1 ⟨[(0,t4)],h,x⟩ K)
 (NW C gl q1 ⟨[(0,t2),(1,v1),(11,t3)],h,x⟩ K))
theorem E_q03o {C gl q1 v0 v1 h x K} : NW C gl (P_q03o q1) ⟨enter [v0,v1],h,x⟩ K = d_q03o C gl q1 v0 v1 h x K:=by kernel_rfl
theorem e_q03o {C gl v0 v1 h x K} : NW C gl a_q03o.body ⟨enter [v0,v1],h,x⟩ K = d_q03o C gl p_q03o_k1 v0 v1 h x K:=E_q03o
def P_q081 : ACode:=(.seq (rg [mV 2 0,
uO 3 (.nilchk 2),
fA 4 0 none 3,
lD 5 none 4,
uO 6 (.isnil 0 false 5)] [0,6])
(.cond 6 (rg [mV 7 0,
mV 8 0,
uO 9 (.uns 1 111 [8]),
uO 10 (.uns 7 f_internal_abi_NoEscape [(.f f_internal_abi_NoEscape),9]),
uO 11 (.uns 1 111 [10]),
uO 12 (.nilchk 7),
fA 13 0 none 12,
wO (.store none 13 11)] [])
(.seq (rg [mV 14 0,
uO 15 (.nilchk 14),
fA 16 0 none 15,
lD 17 none 16,
mV 18 0,
uO 19 (.uns 2 0 [17,18])] [19])
(.cond 19 .bad
.skip))))
def a_q081 : AFun:=⟨1,[],P_q081,false,false⟩
def d_q081 (C : Hd) (gl : GL) (v0 : AV) (h : Heap) (x : Esc) (K : KT) : Prop:=
 pK (oNil v0) fun t1=>
 pK (oFaddr 0 none t1) fun t2=>
 pK (oLoad none t2 h) fun t3=>
 pK (oIsnil 0 false t3) fun t4=>
 condB t4 (wK (unsOp 1 111 [v0] h) fun t5 h6 y7=>
 wK (unsOp 7 f_internal_abi_NoEscape [(.fn f_internal_abi_NoEscape []),t5] h6) fun t8 h9 y10=>
 wK (unsOp 1 111 [t8] h9) fun t11 h12 y13=>
 pK (oNil v0) fun t14=>
 pK (oFaddr 0 none t14) fun t15=>
 wK (oStore none t15 t11 h12) fun t16 h17 y18=>
 K .normal ⟨[],h17,(y18 ++ (y13 ++ (y10 ++ (y7 ++ x))))⟩)
 (pK (oNil v0) fun t19=>
 pK (oFaddr 0 none t19) fun t20=>
 pK (oLoad none t20 h) fun t21=>
 wK (unsOp 2 0 [t21,v0] h) fun t22 h23 y24=>
 condB t22 (False)
 (K .normal ⟨[(19,t22)],h23,(y24 ++ x)⟩))
theorem e_q081 {C gl v0 h x K} : NW C gl a_q081.body ⟨enter [v0],h,x⟩ K = d_q081 C gl v0 h x K:=by kernel_rfl
def P_q006 : ACode:=(.seq (rg [mV 2 (.c (.p (.sl none []))),
mV 3 cF] [0])
(.seq (.seq (rg [mV 5 0,
bN 6 .eql 5 (cS [])] [0,6])
(.cond 6 (.seq (rg [mV 2 (.c (.p (.sl none []))),
mV 3 cT] [2,3])
.ret)
.skip))
(.seq (rg [mV 8 0,
cL 9 f_q087 [8,(cS [10])],
mV 7 9,
eX 10 7 0,
eX 11 7 1,
mV 4 10,
mV 3 11] [3,4])
(.seq (rg [mV 12 4,
cL 13 f_q08e [12,(cS [10])],
mV 14 3,
mV 2 13,
mV 3 14] [2,3])
.ret))))
def a_q006 : AFun:=⟨1,[.t 2,.t 3],P_q006,false,false⟩
def d_q006 (C : Hd) (gl : GL) (v0 : AV) (h : Heap) (x : Esc) (K : KT) : Prop:=
 pK (oBin .eql v0 (.p (.str []))) fun t1=>
 condB t1 (K .ret ⟨[(2,(.p (.sl none []))),(3,(AB true))],h,x⟩)
 (C f_q087 [v0,(.p (.str [10]))] h fun t2 h3 y4=>
 pK (oExt t2 0) fun t5=>
 pK (oExt t2 1) fun t6=>
 C f_q08e [t5,(.p (.str [10]))] h3 fun t7 h8 y9=>
 K .ret ⟨[(2,t7),(3,t6)],h8,(y9 ++ (y4 ++ x))⟩)
theorem e_q006 {C gl v0 h x K} : NW C gl a_q006.body ⟨enter [v0],h,x⟩ K = d_q006 C gl v0 h x K:=by kernel_rfl
def P_q08e : ACode:=(.seq (rg [mV 4 (.c (.p (.sl none [])))] [0,1])
(.seq (rg [mV 5 0,
mV 6 1,
cL 7 f_q08j [5,6,(cI 0),(cI (-1))],
mV 4 7] [4])
.ret))
def a_q08e : AFun:=⟨2,[.t 4],P_q08e,false,false⟩
def d_q08e (C : Hd) (gl : GL) (v0 v1 : AV) (h : Heap) (x : Esc) (K : KT) : Prop:=
 C f_q08j [v0,v1,(AI 0),(AI (-1))] h fun t1 h2 y3=>
 K .ret ⟨[(4,t1)],h2,(y3 ++ x)⟩
theorem e_q08e {C gl v0 v1 h x K} : NW C gl a_q08e.body ⟨enter [v0,v1],h,x⟩ K = d_q08e C gl v0 v1 h x K:=by kernel_rfl
def p_q009_k1 : ACode:=.pr [1,6,11,12,13] (.seq (rg [bN 14 .lss 13 12] [1,6,11,12,13,14])
(.seq (.cond 14 .skip
(.exit 0))
(.seq (.block 1 (.seq (rg [iA 15 none 11 13,
lD 16 none 15,
mV 8 16] [1,6,8,11,12,13])
(.seq (rg [mV 18 8,
mV 19 1,
cL 20 f_q008 [18,19],
mV 17 20,
eX 21 17 0,
eX 22 17 1,
mV 9 21,
mV 10 22] [1,6,9,10,11,12,13])
(.seq (.seq (rg [mV 23 10,
uO 24 (.un .not 23)] [1,6,9,11,12,13,24])
(.cond 24 (.seq (rg [mV 4 (.c (.p (.sl none []))),
mV 5 cF] [4,5])
.ret)
.skip))
(rg [mV 25 6,
mV 26 9,
uO 27 (.bsl false none 1 (.int .i64 0) [(0,26)]),
uO 28 (.app none 25 27),
mV 6 28] [1,6,11,12,13])))))
(rg [bN 29 .add 13 (cI 1),
mV 13 29] [1,6,11,12,13]))))
def d_q009_k1 (C : Hd) (gl : GL) (v1 v6 v11 v12 v13 : AV) (h : Heap) (x : Esc) (K : KT) : Prop:=
 pK (oBin .lss v13 v12) fun t1=>
 condB t1 (pK (oIaddr none v11 v13 h) fun t2=>
 pK (oLoad none t2 h) fun t3=>
 C f_q008 [t3,v1] h fun t4 h5 y6=>
 pK (oExt t4 0) fun t7=>
 pK (oExt t4 1) fun t8=>
 pK (oUn .not t8) fun t9=>
 condB t9 (K .ret ⟨[(4,(.p (.sl none []))),(5,(AB false))],h5,(y6 ++ x)⟩)
 (wK (oBsl false none 1 (.int .i64 0) [(0,t7)] h5) fun t10 h11 y12=>
 wK (oApp none v6 t10 h11) fun t13 h14 y15=>
 pK (oBin .add v13 (AI 1)) fun t16=>
 K .normal ⟨[(1,v1),(6,t13),(11,v11),(12,v12),(13,t16)],h14,(y15 ++ (y12 ++ (y6 ++ x)))⟩))
 (K (.exit 0) ⟨[(1,v1),(6,v6),(11,v11),(12,v12),(13,v13),(14,t1)],h,x⟩)
theorem e_q009_k1 {C gl e h x K} : NW C gl p_q009_k1 ⟨e,h,x⟩ K = d_q009_k1 C gl (aget e 1) (aget e 6) (aget e 11) (aget e 12) (aget e 13) h x K:=by kernel_rfl
theorem l_q009_k1 {C gl e h x K} : NW C gl (.loop (.scope p_q009_k1)) ⟨e,h,x⟩ K = NLoop C gl (.scope p_q009_k1) K [(1,aget e 1),(6,aget e 6),(11,aget e 11),(12,aget e 12),(13,aget e 13)] h x:=NLoop_sc
def p_q009_k2 : ACode:=.pr [6] (.seq (rg [mV 30 6,
mV 4 30,
mV 5 cT] [4,5])
.ret)
def d_q009_k2 (C : Hd) (gl : GL) (v6 : AV) (h : Heap) (x : Esc) (K : KT) : Prop:=
 K .ret ⟨[(4,v6),(5,(AB true))],h,x⟩
theorem e_q009_k2 {C gl e h x K} : NW C gl p_q009_k2 ⟨e,h,x⟩ K = d_q009_k2 C gl (aget e 6) h x K:=by kernel_rfl
def P_q009 (q1 q2 : ACode) : ACode:=(.seq (rg [mV 4 (.c (.p (.sl none []))),
mV 5 cF] [0,1])
(.seq (rg [uO 6 (.new0 none)] [0,1,6])
(.seq (.seq (rg [mV 11 0,
lN 12 11,
mV 13 (cI 0)] [1,6,11,12,13])
(.block 0 (.loop (.scope q1))))
q2)))
def a_q009 : AFun:=⟨2,[.t 4,.t 5],P_q009 p_q009_k1 p_q009_k2,false,false⟩
def d_q009 (C : Hd) (gl : GL) (q1 q2 : ACode) (v0 v1 : AV) (h : Heap) (x : Esc) (K : KT) : Prop:=
 nwK none h fun t1 h2 y3=>
 pK (oLen v0) fun t4=>
 NW C gl (.loop (.scope q1)) ⟨[(1,v1),(6,t1),(11,v0),(12,t4),(13,(AI 0))],h2,(y3 ++ x)⟩ (blockN 0 (seqN C gl q2 K))
theorem E_q009 {C gl q1 q2 v0 v1 h x K} : NW C gl (P_q009 q1 q2) ⟨enter [v0,v1],h,x⟩ K = d_q009 C gl q1 q2 v0 v1 h x K:=by kernel_rfl
theorem e_q009 {C gl v0 v1 h x K} : NW C gl a_q009.body ⟨enter [v0,v1],h,x⟩ K = d_q009 C gl p_q009_k1 p_q009_k2 v0 v1 h x K:=E_q009
def P_q02n : ACode:=(.seq (rg [mV 4 cF] [0,1])
(.seq (rg [mV 5 0,
uO 6 (.lens 5),
mV 7 1,
uO 8 (.lens 7),
bN 9 .geq 6 8,
mV 10 9,
gD 11 10 true (.mv 0),
gD 12 10 true (.mv 1),
gD 13 10 true (.lens 12),
gD 14 10 true (.slstr 11 none (some 13)),
gD 15 10 true (.mv 1),
gD 16 10 true (.bin .eql 14 15),
uO 17 (.pick 10 16 cF),
mV 4 17] [4])
.ret))
def a_q02n : AFun:=⟨2,[.t 4],P_q02n,false,false⟩
def d_q02n (C : Hd) (gl : GL) (v0 v1 : AV) (h : Heap) (x : Esc) (K : KT) : Prop:=
 pK (oLens v0) fun t1=>
 pK (oLens v1) fun t2=>
 pK (oBin .geq t1 t2) fun t3=>
 gM t3 true v0 h fun t4 h5 y6=>
 gM t3 true v1 h5 fun t7 h8 y9=>
 gP t3 true (oLens t7) h8 fun t10 h11 y12=>
 gP t3 true (oSlstr t4 none (some t10)) h11 fun t13 h14 y15=>
 gM t3 true v1 h14 fun t16 h17 y18=>
 gP t3 true (oBin .eql t13 t16) h17 fun t19 h20 y21=>
 pK (oPick t3 t19 (AB false)) fun t22=>
 K .ret ⟨[(4,t22)],h20,(y21 ++ (y18 ++ (y15 ++ (y12 ++ (y9 ++ (y6 ++ x))))))⟩
theorem e_q02n {C gl v0 v1 h x K} : NW C gl a_q02n.body ⟨enter [v0,v1],h,x⟩ K = d_q02n C gl v0 v1 h x K:=by kernel_rfl
def P_q087 : ACode:=(.seq (rg [mV 4 (cS []),
mV 5 cF] [0,1])
(.seq (rg [mV 6 0,
mV 7 1,
cL 8 f_q02m [6,7],
eX 9 8 0,
eX 10 8 1,
mV 4 9,
mV 5 10] [4,5])
.ret))
def a_q087 : AFun:=⟨2,[.t 4,.t 5],P_q087,false,false⟩
def d_q087 (C : Hd) (gl : GL) (v0 v1 : AV) (h : Heap) (x : Esc) (K : KT) : Prop:=
 C f_q02m [v0,v1] h fun t1 h2 y3=>
 pK (oExt t1 0) fun t4=>
 pK (oExt t1 1) fun t5=>
 K .ret ⟨[(4,t4),(5,t5)],h2,(y3 ++ x)⟩
theorem e_q087 {C gl v0 v1 h x K} : NW C gl a_q087.body ⟨enter [v0,v1],h,x⟩ K = d_q087 C gl v0 v1 h x K:=by kernel_rfl
def p_q08j_k1 : ACode:=.pr [0,1,2,3,9,10] (.seq (.seq (rg [mV 34 10,
mV 35 3,
bN 36 .lss 34 35] [0,1,2,3,9,10,36])
(.cond 36 .skip
(.exit 0)))
(.block 1 (.seq (rg [mV 37 0,
mV 38 1,
cL 39 f_q089 [37,38],
mV 11 39] [0,1,2,3,9,10,11])
(.seq (.seq (rg [mV 40 11,
bN 41 .lss 40 (cI 0)] [0,1,2,3,9,10,11,41])
(.cond 41 (.exit 0)
.skip))
(.seq (rg [mV 42 9,
mV 43 10,
mV 44 0,
mV 45 11,
mV 46 2,
bN 47 .add 45 46,
uO 48 (.slstr 44 none (some 47)),
iA 49 none 42 43,
wO (.store none 49 48)] [0,1,2,3,9,10,11])
(.seq (rg [mV 50 0,
mV 51 11,
mV 52 1,
uO 53 (.lens 52),
bN 54 .add 51 53,
uO 55 (.slstr 50 (some 54) none),
mV 0 55] [0,1,2,3,9,10])
(rg [mV 56 10,
bN 57 .add 56 (cI 1),
mV 10 57] [0,1,2,3,9,10])))))))
def d_q08j_k1 (C : Hd) (gl : GL) (v0 v1 v2 v3 v9 v10 : AV) (h : Heap) (x : Esc) (K : KT) : Prop:=
 pK (oBin .lss v10 v3) fun t1=>
 condB t1 (C f_q089 [v0,v1] h fun t2 h3 y4=>
 pK (oBin .lss t2 (AI 0)) fun t5=>
 condB t5 (K (.exit 0) ⟨[(0,v0),(1,v1),(2,v2),(3,v3),(9,v9),(10,v10),(11,t2),(41,t5)],h3,(y4 ++ x)⟩)
 (pK (oBin .add t2 v2) fun t6=>
 pK (oSlstr v0 none (some t6)) fun t7=>
 pK (oIaddr none v9 v10 h3) fun t8=>
 wK (oStore none t8 t7 h3) fun t9 h10 y11=>
 pK (oLens v1) fun t12=>
 pK (oBin .add t2 t12) fun t13=>
 pK (oSlstr v0 (some t13) none) fun t14=>
 pK (oBin .add v10 (AI 1)) fun t15=>
 K .normal ⟨[(0,t14),(1,v1),(2,v2),(3,v3),(9,v9),(10,t15)],h10,(y11 ++ (y4 ++ x))⟩))
 (K (.exit 0) ⟨[(0,v0),(1,v1),(2,v2),(3,v3),(9,v9),(10,v10),(36,t1)],h,x⟩)
theorem e_q08j_k1 {C gl e h x K} : NW C gl p_q08j_k1 ⟨e,h,x⟩ K = d_q08j_k1 C gl (aget e 0) (aget e 1) (aget e 2) (aget e 3) (aget e 9) (aget e 10) h x K:=by kernel_rfl
theorem l_q08j_k1 {C gl e h x K} : NW C gl (.loop p_q08j_k1) ⟨e,h,x⟩ K = NLoop C gl p_q08j_k1 K [(0,aget e 0),(1,aget e 1),(2,aget e 2),(3,aget e 3),(9,aget e 9),(10,aget e 10)] h x:=NLoop_pr
def p_q08j_k2 : ACode:=.pr [0,9,10] (.seq (rg [mV 58 9,
mV 59 10,
mV 60 0,
iA 61 none 58 59,
wO (.store none 61 60)] [9,10])
(.seq (rg [mV 62 9,
mV 63 10,
bN 64 .add 63 (cI 1),
uO 65 (.slice none 62 none (some 64) none),
mV 8 65] [8])
.ret))
def d_q08j_k2 (C : Hd) (gl : GL) (v0 v9 v10 : AV) (h : Heap) (x : Esc) (K : KT) : Prop:=
 pK (oIaddr none v9 v10 h) fun t1=>
 wK (oStore none t1 v0 h) fun t2 h3 y4=>
 pK (oBin .add v10 (AI 1)) fun t5=>
 pK (oSlice none v9 none (some t5) none h3) fun t6=>
 K .ret ⟨[(8,t6)],h3,(y4 ++ x)⟩
theorem e_q08j_k2 {C gl e h x K} : NW C gl p_q08j_k2 ⟨e,h,x⟩ K = d_q08j_k2 C gl (aget e 0) (aget e 9) (aget e 10) h x K:=by kernel_rfl
def P_q08j_k3 (q1 q2 : ACode) : ACode:=.pr [0,1,2,3] (.seq (rg [mV 25 3,
mV 26 0,
uO 27 (.lens 26),
bN 28 .add 27 (cI 1),
uO 29 (.mn [25,28]),
mV 3 29] [0,1,2,3])
(.seq (rg [mV 30 3,
uO 31 (.mksl none (.str []) 30 30),
mV 9 31] [0,1,2,3,9])
(.seq (rg [mV 32 3,
bN 33 .sub 32 (cI 1),
mV 3 33] [0,1,2,3,9])
(.seq (rg [mV 10 (cI 0)] [0,1,2,3,9,10])
(.seq (.block 0 (.loop q1))
q2)))))
def p_q08j_k3 : ACode:=P_q08j_k3 p_q08j_k1 p_q08j_k2
def d_q08j_k3 (C : Hd) (gl : GL) (q1 q2 : ACode) (v0 v1 v2 v3 : AV) (h : Heap) (x : Esc) (K : KT) : Prop:=
 pK (oLens v0) fun t1=>
 pK (oBin .add t1 (AI 1)) fun t2=>
 pK (oMn [v3,t2]) fun t3=>
 wK (oMksl none (.str []) t3 t3 h) fun t4 h5 y6=>
 pK (oBin .sub t3 (AI 1)) fun t7=>
 NW C gl (.loop q1) ⟨[(0,v0),(1,v1),(2,v2),(3,t7),(9,t4),(10,(AI 0))],h5,(y6 ++ x)⟩ (blockN 0 (seqN C gl q2 K))
theorem E_q08j_k3 {C gl q1 q2 e h x K} : NW C gl (P_q08j_k3 q1 q2) ⟨e,h,x⟩ K = d_q08j_k3 C gl q1 q2 (aget e 0) (aget e 1) (aget e 2) (aget e 3) h x K:=by kernel_rfl
theorem e_q08j_k3 {C gl e h x K} : NW C gl p_q08j_k3 ⟨e,h,x⟩ K = d_q08j_k3 C gl p_q08j_k1 p_q08j_k2 (aget e 0) (aget e 1) (aget e 2) (aget e 3) h x K:=E_q08j_k3
def P_q08j (q3 : ACode) : ACode:=(.seq (rg [mV 8 (.c (.p (.sl none [])))] [0,1,2,3])
(.seq (.seq (rg [mV 12 3,
bN 13 .eql 12 (cI 0)] [0,1,2,3,13])
(.cond 13 (.seq (rg [mV 8 (.c (.p (.sl none [])))] [8])
.ret)
.skip))
(.seq (.seq (rg [mV 14 1,
bN 15 .eql 14 (cS [])] [0,1,2,3,15])
(.cond 15 (.seq (rg [mV 16 0,
mV 17 3,
cL 18 f_q08i [16,17],
mV 8 18] [8])
.ret)
.skip))
(.seq (.seq (rg [mV 19 3,
bN 20 .lss 19 (cI 0)] [0,1,2,3,20])
(.cond 20 (rg [mV 21 0,
mV 22 1,
cL 23 f_q085 [21,22],
bN 24 .add 23 (cI 1),
mV 3 24] [0,1,2,3])
.skip))
q3))))
def a_q08j : AFun:=⟨4,[.t 8],P_q08j p_q08j_k3,false,false⟩
def d_q08j (C : Hd) (gl : GL) (q3 : ACode) (v0 v1 v2 v3 : AV) (h : Heap) (x : Esc) (K : KT) : Prop:=
 pK (oBin .eql v3 (AI 0)) fun t1=>
 condB t1 (K .ret ⟨[(8,(.p (.sl none [])))],h,x⟩)
 (pK (oBin .eql v1 (.p (.str []))) fun t2=>
 condB t2 (C f_q08i [v0,v3] h fun t3 h4 y5=>
 K .ret ⟨[(8,t3)],h4,(y5 ++ x)⟩)
 (pK (oBin .lss v3 (AI 0)) fun t6=>
 condB t6 (C f_q085 [v0,v1] h fun t7 h8 y9=>
 pK (oBin .add t7 (AI 1)) fun t10=>
 NW C gl q3 ⟨[(0,v0),(1,v1),(2,v2),(3,t10)],h8,(y9 ++ x)⟩ K)
 (NW C gl q3 ⟨[(0,v0),(1,v1),(2,v2),(3,v3),(20,t6)],h,x⟩ K)))
theorem E_q08j {C gl q3 v0 v1 v2 v3 h x K} : NW C gl (P_q08j q3) ⟨enter [v0,v1,v2,v3],h,x⟩ K = d_q08j C gl q3 v0 v1 v2 v3 h x K:=by kernel_rfl
theorem e_q08j {C gl v0 v1 v2 v3 h x K} : NW C gl a_q08j.body ⟨enter [v0,v1,v2,v3],h,x⟩ K = d_q08j C gl p_q08j_k3 v0 v1 v2 v3 h x K:=E_q08j
def p_q008_k1 : ACode:=.pr [0,6,38,39] (.seq (rg [bN 40 .lss 39 38] [0,6,38,39,40])
(.seq (.cond 40 .skip
(.exit 0))
(.seq (.block 1 (.seq (rg [mV 41 39,
mV 7 41] [0,6,7,38,39])
(.seq (rg [mV 42 6,
mV 43 7,
uO 44 (.idxs 42 43),
bN 45 .lss 44 (.c (.p (.int .u8 48))),
mV 46 45,
gD 47 46 false (.mv 6),
gD 48 46 false (.mv 7),
gD 49 46 false (.idxs 47 48),
gD 50 46 false (.bin .gtr 49 (.c (.p (.int .u8 57)))),
uO 51 (.pick 46 cT 50)] [0,6,38,39,51])
(.cond 51 (.seq (rg [mV 4 (cI 0),
mV 5 cF] [4,5])
.ret)
.skip))))
(rg [bN 52 .add 39 (cI 1),
mV 39 52] [0,6,38,39]))))
def d_q008_k1 (C : Hd) (gl : GL) (v0 v6 v38 v39 : AV) (h : Heap) (x : Esc) (K : KT) : Prop:=
 pK (oBin .lss v39 v38) fun t1=>
 condB t1 (pK (oIdxs v6 v39) fun t2=>
 pK (oBin .lss t2 (.p (.int .u8 48))) fun t3=>
 gM t3 false v6 h fun t4 h5 y6=>
 gM t3 false v39 h5 fun t7 h8 y9=>
 gP t3 false (oIdxs t4 t7) h8 fun t10 h11 y12=>
 gP t3 false (oBin .gtr t10 (.p (.int .u8 57))) h11 fun t13 h14 y15=>
 pK (oPick t3 (AB true) t13) fun t16=>
 condB t16 (K .ret ⟨[(4,(AI 0)),(5,(AB false))],h14,(y15 ++ (y12 ++ (y9 ++ (y6 ++ x))))⟩)
 (pK (oBin .add v39 (AI 1)) fun t17=>
 K .normal ⟨[(0,v0),(6,v6),(38,v38),(39,t17)],h14,(y15 ++ (y12 ++ (y9 ++ (y6 ++ x))))⟩))
 (K (.exit 0) ⟨[(0,v0),(6,v6),(38,v38),(39,v39),(40,t1)],h,x⟩)
theorem e_q008_k1 {C gl e h x K} : NW C gl p_q008_k1 ⟨e,h,x⟩ K = d_q008_k1 C gl (aget e 0) (aget e 6) (aget e 38) (aget e 39) h x K:=by kernel_rfl
theorem l_q008_k1 {C gl e h x K} : NW C gl (.loop p_q008_k1) ⟨e,h,x⟩ K = NLoop C gl p_q008_k1 K [(0,aget e 0),(6,aget e 6),(38,aget e 38),(39,aget e 39)] h x:=NLoop_pr
def p_q008_k2 : ACode:=.pr [0] (.seq (rg [mV 54 0,
cL 55 f_q07p [54],
mV 53 55,
eX 56 53 0,
eX 57 53 1,
mV 8 56,
mV 9 57] [8,9])
(.seq (dr [dF (mV 58 8) [8],
dF (mV 59 9) [9],
dF (uO 60 (.isnil 3 false 59)) [59],
dF (mV 4 58) [58],
dF (mV 5 60) [60]] [4,5])
.ret))
def d_q008_k2 (C : Hd) (gl : GL) (v0 : AV) (h : Heap) (x : Esc) (K : KT) : Prop:=
 C f_q07p [v0] h fun t1 h2 y3=>
 pK (oExt t1 0) fun t4=>
 pK (oExt t1 1) fun t5=>
 pK (oIsnil 3 false t5) fun t6=>
 K .ret ⟨[(4,t4),(5,t6)],h2,(y3 ++ x)⟩
theorem e_q008_k2 {C gl e h x K} : NW C gl p_q008_k2 ⟨e,h,x⟩ K = d_q008_k2 C gl (aget e 0) h x K:=by kernel_rfl
def P_q008 (q1 q2 : ACode) : ACode:=(.seq (rg [mV 4 (cI 0),
mV 5 cF] [0,1])
(.seq (rg [mV 10 0,
cL 11 f_q08g [10,(cS [45])],
mV 6 11] [0,1,6])
(.seq (.seq (rg [mV 12 6,
bN 13 .eql 12 (cS []),
mV 14 13,
gD 15 14 false (.mv 6),
gD 16 14 false (.lens 15),
gD 17 14 false (.mv 1),
gD 18 14 false (.bin .gtr 16 17),
uO 19 (.pick 14 cT 18),
mV 20 19,
gD 21 20 false (.mv 6),
gD 22 20 false (.idxs 21 (cI 0)),
gD 23 20 false (.bin .eql 22 (.c (.p (.int .u8 48)))),
gD 24 20 false (.mv 23),
gD 25 24 true (.mv 6),
gD 26 24 true (.lens 25),
gD 27 24 true (.bin .gtr 26 (cI 1)),
gD 28 24 true (.mv 27),
gD 29 28 false (.mv 0),
gD 30 28 false (.lens 29),
gD 31 28 false (.mv 6),
gD 32 28 false (.lens 31),
gD 33 28 false (.bin .gtr 30 32),
gD 34 24 true (.pick 28 cT 33),
gD 35 20 false (.pick 24 34 cF),
uO 36 (.pick 20 cT 35)] [0,6,36])
(.cond 36 (.seq (rg [mV 4 (cI 0),
mV 5 cF] [4,5])
.ret)
.skip))
(.seq (.seq (rg [mV 37 6,
uO 38 (.lens 37),
mV 39 (cI 0)] [0,6,38,39])
(.block 0 (.loop q1)))
q2))))
def a_q008 : AFun:=⟨2,[.t 4,.t 5],P_q008 p_q008_k1 p_q008_k2,false,false⟩
def d_q008 (C : Hd) (gl : GL) (q1 q2 : ACode) (v0 v1 : AV) (h : Heap) (x : Esc) (K : KT) : Prop:=
 C f_q08g [v0,(.p (.str [45]))] h fun t1 h2 y3=>
 pK (oBin .eql t1 (.p (.str []))) fun t4=>
 gM t4 false t1 h2 fun t5 h6 y7=>
 gP t4 false (oLens t5) h6 fun t8 h9 y10=>
 gM t4 false v1 h9 fun t11 h12 y13=>
 gP t4 false (oBin .gtr t8 t11) h12 fun t14 h15 y16=>
 pK (oPick t4 (AB true) t14) fun t17=>
 gM t17 false t1 h15 fun t18 h19 y20=>
 gP t17 false (oIdxs t18 (AI 0)) h19 fun t21 h22 y23=>
 gP t17 false (oBin .eql t21 (.p (.int .u8 48))) h22 fun t24 h25 y26=>
 gM t17 false t24 h25 fun t27 h28 y29=>
 gM t27 true t1 h28 fun t30 h31 y32=>
 gP t27 true (oLens t30) h31 fun t33 h34 y35=>
 gP t27 true (oBin .gtr t33 (AI 1)) h34 fun t36 h37 y38=>
 gM t27 true t36 h37 fun t39 h40 y41=>
 gM t39 false v0 h40 fun t42 h43 y44=>
 gP t39 false (oLens t42) h43 fun t45 h46 y47=>
 gM t39 false t1 h46 fun t48 h49 y50=>
 gP t39 false (oLens t48) h49 fun t51 h52 y53=>
 gP t39 false (oBin .gtr t45 t51) h52 fun t54 h55 y56=>
 gP t27 true (oPick t39 (AB true) t54) h55 fun t57 h58 y59=>
 gP t17 false (oPick t27 t57 (AB false)) h58 fun t60 h61 y62=>
 pK (oPick t17 (AB true) t60) fun t63=>
 condB t63 (K .ret ⟨[(4,(AI 0)),(5,(AB false))],h61,(y62 ++ (y59 ++ (y56 ++ (y53 ++ (y50 ++ (y47 ++ (y44 ++ (y41 ++ (y38 ++ (y35 ++ (y32 ++ (y29 ++ (y26 ++ (y23 ++ (y20 ++ (y16 ++ (y13 ++ (y10 ++ (y7 ++ (y3 ++ x))))))))))))))))))))⟩)
 (pK (oLens t1) fun t64=>
 NW C gl (.loop q1) ⟨[(0,v0),(6,t1),(38,t64),(39,(AI 0))],h61,(y62 ++ (y59 ++ (y56 ++ (y53 ++ (y50 ++ (y47 ++ (y44 ++ (y41 ++ (y38 ++ (y35 ++ (y32 ++ (y29 ++ (y26 ++ (y23 ++ (y20 ++ (y16 ++ (y13 ++ (y10 ++ (y7 ++ (y3 ++ x))))))))))))))))))))⟩ (blockN 0 (seqN C gl q2 K)))
theorem E_q008 {C gl q1 q2 v0 v1 h x K} : NW C gl (P_q008 q1 q2) ⟨enter [v0,v1],h,x⟩ K = d_q008 C gl q1 q2 v0 v1 h x K:=by kernel_rfl
theorem e_q008 {C gl v0 v1 h x K} : NW C gl a_q008.body ⟨enter [v0,v1],h,x⟩ K = d_q008 C gl p_q008_k1 p_q008_k2 v0 v1 h x K:=E_q008
def P_q08g : ACode:=(.seq (rg [mV 4 (cS [])] [0,1])
(.seq (rg [mV 5 0,
mV 6 1,
cL 7 f_q02r [5,6],
mV 4 7] [4])
.ret))
def a_q08g : AFun:=⟨2,[.t 4],P_q08g,false,false⟩
def d_q08g (C : Hd) (gl : GL) (v0 v1 : AV) (h : Heap) (x : Esc) (K : KT) : Prop:=
 C f_q02r [v0,v1] h fun t1 h2 y3=>
 K .ret ⟨[(4,t1)],h2,(y3 ++ x)⟩
theorem e_q08g {C gl v0 v1 h x K} : NW C gl a_q08g.body ⟨enter [v0,v1],h,x⟩ K = d_q08g C gl v0 v1 h x K:=by kernel_rfl
def P_q02m : ACode:=(.seq (rg [mV 4 (cS []),
mV 5 cF] [0,1])
(.seq (.seq (rg [mV 6 0,
mV 7 1,
cL 8 f_q02o [6,7],
uO 9 (.un .not 8)] [0,1,9])
(.cond 9 (.seq (rg [mV 10 0,
mV 4 10,
mV 5 cF] [4,5])
.ret)
.skip))
(.seq (rg [mV 11 0,
mV 12 0,
uO 13 (.lens 12),
mV 14 1,
uO 15 (.lens 14),
bN 16 .sub 13 15,
uO 17 (.slstr 11 none (some 16)),
mV 4 17,
mV 5 cT] [4,5])
.ret)))
def a_q02m : AFun:=⟨2,[.t 4,.t 5],P_q02m,false,false⟩
def d_q02m (C : Hd) (gl : GL) (v0 v1 : AV) (h : Heap) (x : Esc) (K : KT) : Prop:=
 C f_q02o [v0,v1] h fun t1 h2 y3=>
 pK (oUn .not t1) fun t4=>
 condB t4 (K .ret ⟨[(4,v0),(5,(AB false))],h2,(y3 ++ x)⟩)
 (pK (oLens v0) fun t5=>
 pK (oLens v1) fun t6=>
 pK (oBin .sub t5 t6) fun t7=>
 pK (oSlstr v0 none (some t7)) fun t8=>
 K .ret ⟨[(4,t8),(5,(AB true))],h2,(y3 ++ x)⟩)
theorem e_q02m {C gl v0 v1 h x K} : NW C gl a_q02m.body ⟨enter [v0,v1],h,x⟩ K = d_q02m C gl v0 v1 h x K:=by kernel_rfl
def p_q08i_k1 : ACode:=.pr [0,1,6,7] (.seq (.seq (rg [mV 22 7,
mV 23 1,
bN 24 .sub 23 (cI 1),
bN 25 .lss 22 24] [0,1,6,7,25])
(.cond 25 .skip
(.exit 0)))
(.seq (.block 1 (.seq (rg [mV 29 0,
cL 30 f_q08y [29],
mV 28 30,
eX 31 28 0,
eX 32 28 1,
mV 8 31,
mV 9 32] [0,1,6,7,9])
(.seq (rg [mV 33 6,
mV 34 7,
mV 35 0,
mV 36 9,
uO 37 (.slstr 35 none (some 36)),
iA 38 none 33 34,
wO (.store none 38 37)] [0,1,6,7,9])
(rg [mV 39 0,
mV 40 9,
uO 41 (.slstr 39 (some 40) none),
mV 0 41] [0,1,6,7]))))
(rg [mV 26 7,
bN 27 .add 26 (cI 1),
mV 7 27] [0,1,6,7])))
def d_q08i_k1 (C : Hd) (gl : GL) (v0 v1 v6 v7 : AV) (h : Heap) (x : Esc) (K : KT) : Prop:=
 pK (oBin .sub v1 (AI 1)) fun t1=>
 pK (oBin .lss v7 t1) fun t2=>
 condB t2 (C f_q08y [v0] h fun t3 h4 y5=>
 pK (oExt t3 0) fun t6=>
 pK (oExt t3 1) fun t7=>
 pK (oSlstr v0 none (some t7)) fun t8=>
 pK (oIaddr none v6 v7 h4) fun t9=>
 wK (oStore none t9 t8 h4) fun t10 h11 y12=>
 pK (oSlstr v0 (some t7) none) fun t13=>
 pK (oBin .add v7 (AI 1)) fun t14=>
 K .normal ⟨[(0,t13),(1,v1),(6,v6),(7,t14)],h11,(y12 ++ (y5 ++ x))⟩)
 (K (.exit 0) ⟨[(0,v0),(1,v1),(6,v6),(7,v7),(25,t2)],h,x⟩)
theorem e_q08i_k1 {C gl e h x K} : NW C gl p_q08i_k1 ⟨e,h,x⟩ K = d_q08i_k1 C gl (aget e 0) (aget e 1) (aget e 6) (aget e 7) h x K:=by kernel_rfl
theorem l_q08i_k1 {C gl e h x K} : NW C gl (.loop p_q08i_k1) ⟨e,h,x⟩ K = NLoop C gl p_q08i_k1 K [(0,aget e 0),(1,aget e 1),(6,aget e 6),(7,aget e 7)] h x:=NLoop_pr
def p_q08i_k2 : ACode:=.pr [6] (.seq (rg [mV 49 6,
mV 4 49] [4])
.ret)
def d_q08i_k2 (C : Hd) (gl : GL) (v6 : AV) (h : Heap) (x : Esc) (K : KT) : Prop:=
 K .ret ⟨[(4,v6)],h,x⟩
theorem e_q08i_k2 {C gl e h x K} : NW C gl p_q08i_k2 ⟨e,h,x⟩ K = d_q08i_k2 C gl (aget e 6) h x K:=by kernel_rfl
def P_q08i_k3 (q2 : ACode) : ACode:=.pr [0,1,6] (.seq (.seq (rg [mV 42 1,
bN 43 .gtr 42 (cI 0)] [0,1,6,43])
(.cond 43 (rg [mV 44 6,
mV 45 1,
bN 46 .sub 45 (cI 1),
mV 47 0,
iA 48 none 44 46,
wO (.store none 48 47)] [6])
.skip))
q2)
def p_q08i_k3 : ACode:=P_q08i_k3 p_q08i_k2
def d_q08i_k3 (C : Hd) (gl : GL) (q2 : ACode) (v0 v1 v6 : AV) (h : Heap) (x : Esc) (K : KT) : Prop:=
 pK (oBin .gtr v1 (AI 0)) fun t1=>
 condB t1 (pK (oBin .sub v1 (AI 1)) fun t2=>
 pK (oIaddr none v6 t2 h) fun t3=>
 wK (oStore none t3 v0 h) fun t4 h5 y6=>
 NW C gl q2 ⟨[(6,v6)],h5,(y6 ++ x)⟩ K)
 (NW C gl q2 ⟨[(0,v0),(1,v1),(6,v6),(43,t1)],h,x⟩ K)
theorem E_q08i_k3 {C gl q2 e h x K} : NW C gl (P_q08i_k3 q2) ⟨e,h,x⟩ K = d_q08i_k3 C gl q2 (aget e 0) (aget e 1) (aget e 6) h x K:=by kernel_rfl
theorem e_q08i_k3 {C gl e h x K} : NW C gl p_q08i_k3 ⟨e,h,x⟩ K = d_q08i_k3 C gl p_q08i_k2 (aget e 0) (aget e 1) (aget e 6) h x K:=E_q08i_k3
def P_q08i_k4 (q1 q3 : ACode) : ACode:=.pr [0,1] (.seq (rg [mV 20 1,
uO 21 (.mksl none (.str []) 20 20),
mV 6 21] [0,1,6])
(.seq (.seq (rg [mV 7 (cI 0)] [0,1,6,7])
(.block 0 (.loop q1)))
q3))
def p_q08i_k4 : ACode:=P_q08i_k4 p_q08i_k1 p_q08i_k3
def d_q08i_k4 (C : Hd) (gl : GL) (q1 q3 : ACode) (v0 v1 : AV) (h : Heap) (x : Esc) (K : KT) : Prop:=
 wK (oMksl none (.str []) v1 v1 h) fun t1 h2 y3=>
 NW C gl (.loop q1) ⟨[(0,v0),(1,v1),(6,t1),(7,(AI 0))],h2,(y3 ++ x)⟩ (blockN 0 (seqN C gl q3 K))
theorem E_q08i_k4 {C gl q1 q3 e h x K} : NW C gl (P_q08i_k4 q1 q3) ⟨e,h,x⟩ K = d_q08i_k4 C gl q1 q3 (aget e 0) (aget e 1) h x K:=by kernel_rfl
theorem e_q08i_k4 {C gl e h x K} : NW C gl p_q08i_k4 ⟨e,h,x⟩ K = d_q08i_k4 C gl p_q08i_k1 p_q08i_k3 (aget e 0) (aget e 1) h x K:=E_q08i_k4
def P_q08i (q4 : ACode) : ACode:=(.seq (rg [mV 4 (.c (.p (.sl none [])))] [0,1])
(.seq (rg [mV 10 0,
cL 11 f_q08z [10],
mV 5 11] [0,1,5])
(.seq (.seq (rg [mV 12 1,
bN 13 .lss 12 (cI 0),
mV 14 13,
gD 15 14 false (.mv 1),
gD 16 14 false (.mv 5),
gD 17 14 false (.bin .gtr 15 16),
uO 18 (.pick 14 cT 17)] [0,1,5,18])
(.cond 18 (rg [mV 19 5,
mV 1 19] [0,1])
.skip))
q4)))
def a_q08i : AFun:=⟨2,[.t 4],P_q08i p_q08i_k4,false,false⟩
def d_q08i (C : Hd) (gl : GL) (q4 : ACode) (v0 v1 : AV) (h : Heap) (x : Esc) (K : KT) : Prop:=
 C f_q08z [v0] h fun t1 h2 y3=>
 pK (oBin .lss v1 (AI 0)) fun t4=>
 gM t4 false v1 h2 fun t5 h6 y7=>
 gM t4 false t1 h6 fun t8 h9 y10=>
 gP t4 false (oBin .gtr t5 t8) h9 fun t11 h12 y13=>
 pK (oPick t4 (AB true) t11) fun t14=>
 condB t14 (NW C gl q4 ⟨[(0,v0),(1,t1)],h12,(y13 ++ (y10 ++ (y7 ++ (y3 ++ x))))⟩ K)
 (NW C gl q4 ⟨[(0,v0),(1,v1),(5,t1),(18,t14)],h12,(y13 ++ (y10 ++ (y7 ++ (y3 ++ x))))⟩ K)
theorem E_q08i {C gl q4 v0 v1 h x K} : NW C gl (P_q08i q4) ⟨enter [v0,v1],h,x⟩ K = d_q08i C gl q4 v0 v1 h x K:=by kernel_rfl
theorem e_q08i {C gl v0 v1 h x K} : NW C gl a_q08i.body ⟨enter [v0,v1],h,x⟩ K = d_q08i C gl p_q08i_k4 v0 v1 h x K:=E_q08i
def P_q089 : ACode:=(.seq (rg [mV 4 (cI 0)] [0,1])
(.seq (rg [mV 5 0,
mV 6 1,
cL 7 f_q02p [5,6],
mV 4 7] [4])
.ret))
def a_q089 : AFun:=⟨2,[.t 4],P_q089,false,false⟩
def d_q089 (C : Hd) (gl : GL) (v0 v1 : AV) (h : Heap) (x : Esc) (K : KT) : Prop:=
 C f_q02p [v0,v1] h fun t1 h2 y3=>
 K .ret ⟨[(4,t1)],h2,(y3 ++ x)⟩
theorem e_q089 {C gl v0 v1 h x K} : NW C gl a_q089.body ⟨enter [v0,v1],h,x⟩ K = d_q089 C gl v0 v1 h x K:=by kernel_rfl
def p_q02p_k1 : ACode:=.pr [0,1,5,6,7,8,9,10] (.seq (.seq (rg [mV 78 0,
mV 79 8,
bN 80 .add 79 (cI 1),
uO 81 (.idxs 78 80),
mV 82 7,
bN 83 .eql 81 82,
mV 84 83,
gD 85 84 true (.mv 0),
gD 86 84 true (.mv 8),
gD 87 84 true (.mv 8),
gD 88 84 true (.mv 5),
gD 89 84 true (.bin .add 87 88),
gD 90 84 true (.slstr 85 (some 86) (some 89)),
gD 91 84 true (.mv 1),
gD 92 84 true (.bin .eql 90 91),
uO 93 (.pick 84 92 cF)] [0,1,5,6,7,8,9,10,93])
(.cond 93 (.seq (rg [mV 94 8,
mV 4 94] [4])
.ret)
.skip))
(.seq (rg [mV 95 8,
bN 96 .add 95 (cI 1),
mV 8 96] [0,1,5,6,7,8,9,10])
(.seq (rg [mV 97 10,
bN 98 .add 97 (cI 1),
mV 10 98] [0,1,5,6,7,8,9,10])
(.seq (rg [mV 99 5,
lD 100 none (.g 0),
bN 101 .leq 99 100,
mV 102 101,
gD 103 102 true (.mv 10),
gD 104 102 true (.mv 8),
gD 105 102 true (.call f_q022 [104]),
gD 106 102 true (.bin .gtr 103 105),
uO 107 (.pick 102 106 cF)] [0,1,5,6,7,8,9,10,107])
(.cond 107 (.seq (rg [mV 108 0,
mV 109 8,
uO 110 (.slstr 108 (some 109) none),
mV 111 1,
cL 112 f_internal_bytealg_IndexString [110,111],
mV 12 112] [8,12])
(.seq (.seq (rg [mV 113 12,
bN 114 .geq 113 (cI 0)] [8,12,114])
(.cond 114 (.seq (rg [mV 115 12,
mV 116 8,
bN 117 .add 115 116,
mV 4 117] [4])
.ret)
.skip))
(.seq (rg [mV 4 (cI (-1))] [4])
.ret)))
(.seq (rg [mV 118 5,
lD 119 none (.g 0),
bN 120 .gtr 118 119,
mV 121 120,
gD 122 121 true (.mv 10),
gD 123 121 true (.mv 8),
gD 124 121 true (.bin .shr 123 (.c (.p (.int .u64 4)))),
gD 125 121 true (.bin .add (cI 4) 124),
gD 126 121 true (.bin .geq 122 125),
uO 127 (.pick 121 126 cF),
mV 128 127,
gD 129 128 true (.mv 8),
gD 130 128 true (.mv 9),
gD 131 128 true (.bin .lss 129 130),
uO 132 (.pick 128 131 cF)] [0,1,5,6,7,8,9,10,132])
(.cond 132 (.seq (rg [mV 133 0,
mV 134 8,
uO 135 (.slstr 133 (some 134) none),
mV 136 1,
cL 137 f_q023 [135,136],
mV 13 137] [8,13])
(.seq (.seq (rg [mV 138 13,
bN 139 .lss 138 (cI 0)] [8,13,139])
(.cond 139 (.seq (rg [mV 4 (cI (-1))] [4])
.ret)
.skip))
(.seq (rg [mV 140 8,
mV 141 13,
bN 142 .add 140 141,
mV 4 142] [4])
.ret)))
.skip)))))))
def d_q02p_k1 (C : Hd) (gl : GL) (v0 v1 v5 v6 v7 v8 v9 v10 : AV) (h : Heap) (x : Esc) (K : KT) : Prop:=
 pK (oBin .add v8 (AI 1)) fun t1=>
 pK (oIdxs v0 t1) fun t2=>
 pK (oBin .eql t2 v7) fun t3=>
 gM t3 true v0 h fun t4 h5 y6=>
 gM t3 true v8 h5 fun t7 h8 y9=>
 gM t3 true v8 h8 fun t10 h11 y12=>
 gM t3 true v5 h11 fun t13 h14 y15=>
 gP t3 true (oBin .add t10 t13) h14 fun t16 h17 y18=>
 gP t3 true (oSlstr t4 (some t7) (some t16)) h17 fun t19 h20 y21=>
 gM t3 true v1 h20 fun t22 h23 y24=>
 gP t3 true (oBin .eql t19 t22) h23 fun t25 h26 y27=>
 pK (oPick t3 t25 (AB false)) fun t28=>
 condB t28 (K .ret ⟨[(4,v8)],h26,(y27 ++ (y24 ++ (y21 ++ (y18 ++ (y15 ++ (y12 ++ (y9 ++ (y6 ++ x))))))))⟩)
 (pK (oBin .add v8 (AI 1)) fun t29=>
 pK (oBin .add v10 (AI 1)) fun t30=>
 pK (oLoad none (gv gl 0) h26) fun t31=>
 pK (oBin .leq v5 t31) fun t32=>
 gM t32 true t30 h26 fun t33 h34 y35=>
 gM t32 true t29 h34 fun t36 h37 y38=>
 gV t32 true h37 (C f_q022 [t36] h37) fun t39 h40 y41=>
 gP t32 true (oBin .gtr t33 t39) h40 fun t42 h43 y44=>
 pK (oPick t32 t42 (AB false)) fun t45=>
 condB t45 (pK (oSlstr v0 (some t29) none) fun t46=>
 C f_internal_bytealg_IndexString [t46,v1] h43 fun t47 h48 y49=>
 pK (oBin .geq t47 (AI 0)) fun t50=>
 condB t50 (pK (oBin .add t47 t29) fun t51=>
 K .ret ⟨[(4,t51)],h48,(y49 ++ (y44 ++ (y41 ++ (y38 ++ (y35 ++ (y27 ++ (y24 ++ (y21 ++ (y18 ++ (y15 ++ (y12 ++ (y9 ++ (y6 ++ x)))))))))))))⟩)
 (K .ret ⟨[(4,(AI (-1)))],h48,(y49 ++ (y44 ++ (y41 ++ (y38 ++ (y35 ++ (y27 ++ (y24 ++ (y21 ++ (y18 ++ (y15 ++ (y12 ++ (y9 ++ (y6 ++ x)))))))))))))⟩))
 (pK (oLoad none (gv gl 0) h43) fun t52=>
 pK (oBin .gtr v5 t52) fun t53=>
 gM t53 true t30 h43 fun t54 h55 y56=>
 gM t53 true t29 h55 fun t57 h58 y59=>
 gP t53 true (oBin .shr t57 (.p (.int .u64 4))) h58 fun t60 h61 y62=>
 gP t53 true (oBin .add (AI 4) t60) h61 fun t63 h64 y65=>
 gP t53 true (oBin .geq t54 t63) h64 fun t66 h67 y68=>
 pK (oPick t53 t66 (AB false)) fun t69=>
 gM t69 true t29 h67 fun t70 h71 y72=>
 gM t69 true v9 h71 fun t73 h74 y75=>
 gP t69 true (oBin .lss t70 t73) h74 fun t76 h77 y78=>
 pK (oPick t69 t76 (AB false)) fun t79=>
 condB t79 (pK (oSlstr v0 (some t29) none) fun t80=>
 C f_q023 [t80,v1] h77 fun t81 h82 y83=>
 pK (oBin .lss t81 (AI 0)) fun t84=>
 condB t84 (K .ret ⟨[(4,(AI (-1)))],h82,(y83 ++ (y78 ++ (y75 ++ (y72 ++ (y68 ++ (y65 ++ (y62 ++ (y59 ++ (y56 ++ (y44 ++ (y41 ++ (y38 ++ (y35 ++ (y27 ++ (y24 ++ (y21 ++ (y18 ++ (y15 ++ (y12 ++ (y9 ++ (y6 ++ x)))))))))))))))))))))⟩)
 (pK (oBin .add t29 t81) fun t85=>
 K .ret ⟨[(4,t85)],h82,(y83 ++ (y78 ++ (y75 ++ (y72 ++ (y68 ++ (y65 ++ (y62 ++ (y59 ++ (y56 ++ (y44 ++ (y41 ++ (y38 ++ (y35 ++ (y27 ++ (y24 ++ (y21 ++ (y18 ++ (y15 ++ (y12 ++ (y9 ++ (y6 ++ x)))))))))))))))))))))⟩))
 (K .normal ⟨[(0,v0),(1,v1),(5,v5),(6,v6),(7,v7),(8,t29),(9,v9),(10,t30),(132,t79)],h77,(y78 ++ (y75 ++ (y72 ++ (y68 ++ (y65 ++ (y62 ++ (y59 ++ (y56 ++ (y44 ++ (y41 ++ (y38 ++ (y35 ++ (y27 ++ (y24 ++ (y21 ++ (y18 ++ (y15 ++ (y12 ++ (y9 ++ (y6 ++ x))))))))))))))))))))⟩)))
theorem e_q02p_k1 {C gl e h x K} : NW C gl p_q02p_k1 ⟨e,h,x⟩ K = d_q02p_k1 C gl (aget e 0) (aget e 1) (aget e 5) (aget e 6) (aget e 7) (aget e 8) (aget e 9) (aget e 10) h x K:=by kernel_rfl
def P_q02p_k2 (q1 : ACode) : ACode:=.pr [0,1,5,6,7,8,9,10] (.seq (.seq (rg [mV 57 8,
mV 58 9,
bN 59 .lss 57 58] [0,1,5,6,7,8,9,10,59])
(.cond 59 .skip
(.exit 1)))
(.block 2 (.seq (.seq (rg [mV 60 0,
mV 61 8,
uO 62 (.idxs 60 61),
mV 63 6,
bN 64 .neq 62 63] [0,1,5,6,7,8,9,10,64])
(.cond 64 (.seq (rg [mV 65 0,
mV 66 8,
bN 67 .add 66 (cI 1),
mV 68 9,
uO 69 (.slstr 65 (some 67) (some 68)),
mV 70 6,
cL 71 f_q02q [69,70],
mV 11 71] [0,1,5,6,7,8,9,10,11])
(.seq (.seq (rg [mV 72 11,
bN 73 .lss 72 (cI 0)] [0,1,5,6,7,8,9,10,11,73])
(.cond 73 (.seq (rg [mV 4 (cI (-1))] [4])
.ret)
.skip))
(rg [mV 74 8,
mV 75 11,
bN 76 .add 75 (cI 1),
bN 77 .add 74 76,
mV 8 77] [0,1,5,6,7,8,9,10])))
.skip))
q1)))
def p_q02p_k2 : ACode:=P_q02p_k2 p_q02p_k1
def d_q02p_k2 (C : Hd) (gl : GL) (q1 : ACode) (v0 v1 v5 v6 v7 v8 v9 v10 : AV) (h : Heap) (x : Esc) (K : KT) : Prop:=
 pK (oBin .lss v8 v9) fun t1=>
 condB t1 (pK (oIdxs v0 v8) fun t2=>
 pK (oBin .neq t2 v6) fun t3=>
 condB t3 (pK (oBin .add v8 (AI 1)) fun t4=>
 pK (oSlstr v0 (some t4) (some v9)) fun t5=>
 C f_q02q [t5,v6] h fun t6 h7 y8=>
 pK (oBin .lss t6 (AI 0)) fun t9=>
 condB t9 (K .ret ⟨[(4,(AI (-1)))],h7,(y8 ++ x)⟩)
 (pK (oBin .add t6 (AI 1)) fun t10=>
 pK (oBin .add v8 t10) fun t11=>
 NW C gl q1 ⟨[(0,v0),(1,v1),(5,v5),(6,v6),(7,v7),(8,t11),(9,v9),(10,v10)],h7,(y8 ++ x)⟩ (blockN 2 K)))
 (NW C gl q1 ⟨[(0,v0),(1,v1),(5,v5),(6,v6),(7,v7),(8,v8),(9,v9),(10,v10),(64,t3)],h,x⟩ (blockN 2 K)))
 (K (.exit 1) ⟨[(0,v0),(1,v1),(5,v5),(6,v6),(7,v7),(8,v8),(9,v9),(10,v10),(59,t1)],h,x⟩)
theorem E_q02p_k2 {C gl q1 e h x K} : NW C gl (P_q02p_k2 q1) ⟨e,h,x⟩ K = d_q02p_k2 C gl q1 (aget e 0) (aget e 1) (aget e 5) (aget e 6) (aget e 7) (aget e 8) (aget e 9) (aget e 10) h x K:=by kernel_rfl
theorem e_q02p_k2 {C gl e h x K} : NW C gl p_q02p_k2 ⟨e,h,x⟩ K = d_q02p_k2 C gl p_q02p_k1 (aget e 0) (aget e 1) (aget e 5) (aget e 6) (aget e 7) (aget e 8) (aget e 9) (aget e 10) h x K:=E_q02p_k2
theorem l_q02p_k2 {C gl e h x K} : NW C gl (.loop p_q02p_k2) ⟨e,h,x⟩ K = NLoop C gl p_q02p_k2 K [(0,aget e 0),(1,aget e 1),(5,aget e 5),(6,aget e 6),(7,aget e 7),(8,aget e 8),(9,aget e 9),(10,aget e 10)] h x:=NLoop_pr
def p_q02p_k3 : ACode:=.pr [] (.seq (rg [mV 4 (cI (-1))] [4])
.ret)
def d_q02p_k3 (C : Hd) (gl : GL) (h : Heap) (x : Esc) (K : KT) : Prop:=
 K .ret ⟨[(4,(AI (-1)))],h,x⟩
theorem e_q02p_k3 {C gl e h x K} : NW C gl p_q02p_k3 ⟨e,h,x⟩ K = d_q02p_k3 C gl h x K:=by kernel_rfl
def P_q02p (q2 q3 : ACode) : ACode:=(.seq (rg [mV 4 (cI 0)] [0,1])
(.seq (rg [mV 14 1,
uO 15 (.lens 14),
mV 5 15] [0,1,5])
(.seq (.block 0 (.seq (rg [mV 17 5,
bN 18 .eql 17 (cI 0),
mV 19 18,
gD 20 19 false (.mv 1),
gD 21 19 false (.mv 0),
gD 22 19 false (.bin .eql 20 21),
uO 23 (.pick 19 cT 22),
mV 16 23] [0,1,5,16])
(.cond 16 (.seq (rg [mV 4 (cI 0)] [4])
.ret)
(.seq (rg [mV 25 5,
bN 26 .eql 25 (cI 1),
mV 24 26] [0,1,5,24])
(.cond 24 (.seq (rg [mV 27 0,
mV 28 1,
uO 29 (.idxs 28 (cI 0)),
cL 30 f_q02q [27,29],
mV 4 30] [4])
.ret)
(.seq (rg [mV 32 5,
mV 33 0,
uO 34 (.lens 33),
bN 35 .geq 32 34,
mV 31 35] [0,1,5,31])
(.cond 31 (.seq (rg [mV 4 (cI (-1))] [4])
.ret)
(.seq (rg [mV 37 5,
lD 38 none (.g 0),
bN 39 .leq 37 38,
mV 40 39,
gD 41 40 true (.mv 0),
gD 42 40 true (.lens 41),
gD 43 40 true (.bin .leq 42 (cI 64)),
uO 44 (.pick 40 43 cF),
mV 36 44] [0,1,5,36])
(.cond 36 (.seq (rg [mV 45 0,
mV 46 1,
cL 47 f_internal_bytealg_IndexString [45,46],
mV 4 47] [4])
.ret)
.skip)))))))))
(.seq (rg [mV 48 1,
uO 49 (.idxs 48 (cI 0)),
mV 6 49] [0,1,5,6])
(.seq (rg [mV 50 1,
uO 51 (.idxs 50 (cI 1)),
mV 7 51] [0,1,5,6,7])
(.seq (rg [mV 8 (cI 0)] [0,1,5,6,7,8])
(.seq (rg [mV 52 0,
uO 53 (.lens 52),
mV 54 5,
bN 55 .sub 53 54,
bN 56 .add 55 (cI 1),
mV 9 56] [0,1,5,6,7,8,9])
(.seq (rg [mV 10 (cI 0)] [0,1,5,6,7,8,9,10])
(.seq (.block 1 (.loop q2))
q3)))))))))
def a_q02p : AFun:=⟨2,[.t 4],P_q02p p_q02p_k2 p_q02p_k3,false,false⟩
def d_q02p (C : Hd) (gl : GL) (q2 q3 : ACode) (v0 v1 : AV) (h : Heap) (x : Esc) (K : KT) : Prop:=
 pK (oLens v1) fun t1=>
 pK (oBin .eql t1 (AI 0)) fun t2=>
 gM t2 false v1 h fun t3 h4 y5=>
 gM t2 false v0 h4 fun t6 h7 y8=>
 gP t2 false (oBin .eql t3 t6) h7 fun t9 h10 y11=>
 pK (oPick t2 (AB true) t9) fun t12=>
 condB t12 (K .ret ⟨[(4,(AI 0))],h10,(y11 ++ (y8 ++ (y5 ++ x)))⟩)
 (pK (oBin .eql t1 (AI 1)) fun t13=>
 condB t13 (pK (oIdxs v1 (AI 0)) fun t14=>
 C f_q02q [v0,t14] h10 fun t15 h16 y17=>
 K .ret ⟨[(4,t15)],h16,(y17 ++ (y11 ++ (y8 ++ (y5 ++ x))))⟩)
 (pK (oLens v0) fun t18=>
 pK (oBin .geq t1 t18) fun t19=>
 condB t19 (K .ret ⟨[(4,(AI (-1)))],h10,(y11 ++ (y8 ++ (y5 ++ x)))⟩)
 (pK (oLoad none (gv gl 0) h10) fun t20=>
 pK (oBin .leq t1 t20) fun t21=>
 gM t21 true v0 h10 fun t22 h23 y24=>
 gP t21 true (oLens t22) h23 fun t25 h26 y27=>
 gP t21 true (oBin .leq t25 (AI 64)) h26 fun t28 h29 y30=>
 pK (oPick t21 t28 (AB false)) fun t31=>
 condB t31 (C f_internal_bytealg_IndexString [v0,v1] h29 fun t32 h33 y34=>
 K .ret ⟨[(4,t32)],h33,(y34 ++ (y30 ++ (y27 ++ (y24 ++ (y11 ++ (y8 ++ (y5 ++ x)))))))⟩)
 (pK (oIdxs v1 (AI 0)) fun t35=>
 pK (oIdxs v1 (AI 1)) fun t36=>
 pK (oLens v0) fun t37=>
 pK (oBin .sub t37 t1) fun t38=>
 pK (oBin .add t38 (AI 1)) fun t39=>
 NW C gl (.loop q2) ⟨[(0,v0),(1,v1),(5,t1),(6,t35),(7,t36),(8,(AI 0)),(9,t39),(10,(AI 0))],h29,(y30 ++ (y27 ++ (y24 ++ (y11 ++ (y8 ++ (y5 ++ x))))))⟩ (blockN 1 (seqN C gl q3 K))))))
theorem E_q02p {C gl q2 q3 v0 v1 h x K} : NW C gl (P_q02p q2 q3) ⟨enter [v0,v1],h,x⟩ K = d_q02p C gl q2 q3 v0 v1 h x K:=by kernel_rfl
theorem e_q02p {C gl v0 v1 h x K} : NW C gl a_q02p.body ⟨enter [v0,v1],h,x⟩ K = d_q02p C gl p_q02p_k2 p_q02p_k3 v0 v1 h x K:=E_q02p
def P_q02r : ACode:=(.seq (rg [mV 4 (cS [])] [0,1])
(.seq (.seq (rg [mV 5 0,
mV 6 1,
cL 7 f_q02n [5,6]] [0,1,7])
(.cond 7 (.seq (rg [mV 8 0,
mV 9 1,
uO 10 (.lens 9),
uO 11 (.slstr 8 (some 10) none),
mV 4 11] [4])
.ret)
.skip))
(.seq (rg [mV 12 0,
mV 4 12] [4])
.ret)))
def a_q02r : AFun:=⟨2,[.t 4],P_q02r,false,false⟩
def d_q02r (C : Hd) (gl : GL) (v0 v1 : AV) (h : Heap) (x : Esc) (K : KT) : Prop:=
 C f_q02n [v0,v1] h fun t1 h2 y3=>
 condB t1 (pK (oLens v1) fun t4=>
 pK (oSlstr v0 (some t4) none) fun t5=>
 K .ret ⟨[(4,t5)],h2,(y3 ++ x)⟩)
 (K .ret ⟨[(4,v0)],h2,(y3 ++ x)⟩)
theorem e_q02r {C gl v0 v1 h x K} : NW C gl a_q02r.body ⟨enter [v0,v1],h,x⟩ K = d_q02r C gl v0 v1 h x K:=by kernel_rfl
def P_q02q : ACode:=(.seq (rg [mV 4 (cI 0)] [0,1])
(.seq (rg [mV 5 0,
mV 6 1,
cL 7 f_internal_bytealg_IndexByteString [5,6],
mV 4 7] [4])
.ret))
def a_q02q : AFun:=⟨2,[.t 4],P_q02q,false,false⟩
def d_q02q (C : Hd) (gl : GL) (v0 v1 : AV) (h : Heap) (x : Esc) (K : KT) : Prop:=
 C f_internal_bytealg_IndexByteString [v0,v1] h fun t1 h2 y3=>
 K .ret ⟨[(4,t1)],h2,(y3 ++ x)⟩
theorem e_q02q {C gl v0 v1 h x K} : NW C gl a_q02q.body ⟨enter [v0,v1],h,x⟩ K = d_q02q C gl v0 v1 h x K:=by kernel_rfl
def P_q02o : ACode:=(.seq (rg [mV 4 cF] [0,1])
(.seq (rg [mV 5 0,
uO 6 (.lens 5),
mV 7 1,
uO 8 (.lens 7),
bN 9 .geq 6 8,
mV 10 9,
gD 11 10 true (.mv 0),
gD 12 10 true (.mv 0),
gD 13 10 true (.lens 12),
gD 14 10 true (.mv 1),
gD 15 10 true (.lens 14),
gD 16 10 true (.bin .sub 13 15),
gD 17 10 true (.slstr 11 (some 16) none),
gD 18 10 true (.mv 1),
gD 19 10 true (.bin .eql 17 18),
uO 20 (.pick 10 19 cF),
mV 4 20] [4])
.ret))
def a_q02o : AFun:=⟨2,[.t 4],P_q02o,false,false⟩
def d_q02o (C : Hd) (gl : GL) (v0 v1 : AV) (h : Heap) (x : Esc) (K : KT) : Prop:=
 pK (oLens v0) fun t1=>
 pK (oLens v1) fun t2=>
 pK (oBin .geq t1 t2) fun t3=>
 gM t3 true v0 h fun t4 h5 y6=>
 gM t3 true v0 h5 fun t7 h8 y9=>
 gP t3 true (oLens t7) h8 fun t10 h11 y12=>
 gM t3 true v1 h11 fun t13 h14 y15=>
 gP t3 true (oLens t13) h14 fun t16 h17 y18=>
 gP t3 true (oBin .sub t10 t16) h17 fun t19 h20 y21=>
 gP t3 true (oSlstr t4 (some t19) none) h20 fun t22 h23 y24=>
 gM t3 true v1 h23 fun t25 h26 y27=>
 gP t3 true (oBin .eql t22 t25) h26 fun t28 h29 y30=>
 pK (oPick t3 t28 (AB false)) fun t31=>
 K .ret ⟨[(4,t31)],h29,(y30 ++ (y27 ++ (y24 ++ (y21 ++ (y18 ++ (y15 ++ (y12 ++ (y9 ++ (y6 ++ x)))))))))⟩
theorem e_q02o {C gl v0 v1 h x K} : NW C gl a_q02o.body ⟨enter [v0,v1],h,x⟩ K = d_q02o C gl v0 v1 h x K:=by kernel_rfl
def P_q08y : ACode:=(.seq (rg [mV 2 (.c (.p (.int .i32 0))),
mV 3 (cI 0)] [0])
(.seq (.seq (rg [mV 4 0,
bN 5 .neq 4 (cS []),
mV 6 5,
gD 7 6 true (.mv 0),
gD 8 6 true (.idxs 7 (cI 0)),
gD 9 6 true (.bin .lss 8 (.c (.p (.int .u8 128)))),
uO 10 (.pick 6 9 cF)] [0,10])
(.cond 10 (.seq (rg [mV 11 0,
uO 12 (.idxs 11 (cI 0)),
uO 13 (.conv (.i .i32) 12),
mV 2 13,
mV 3 (cI 1)] [2,3])
.ret)
(rg [mV 15 0,
cL 16 f_q092 [15],
mV 14 16,
eX 17 14 0,
eX 18 14 1,
mV 2 17,
mV 3 18] [2,3])))
.ret))
def a_q08y : AFun:=⟨1,[.t 2,.t 3],P_q08y,false,false⟩
def d_q08y (C : Hd) (gl : GL) (v0 : AV) (h : Heap) (x : Esc) (K : KT) : Prop:=
 pK (oBin .neq v0 (.p (.str []))) fun t1=>
 gM t1 true v0 h fun t2 h3 y4=>
 gP t1 true (oIdxs t2 (AI 0)) h3 fun t5 h6 y7=>
 gP t1 true (oBin .lss t5 (.p (.int .u8 128))) h6 fun t8 h9 y10=>
 pK (oPick t1 t8 (AB false)) fun t11=>
 condB t11 (pK (oIdxs v0 (AI 0)) fun t12=>
 pK (oConvI .i32 t12) fun t13=>
 K .ret ⟨[(2,t13),(3,(AI 1))],h9,(y10 ++ (y7 ++ (y4 ++ x)))⟩)
 (C f_q092 [v0] h9 fun t14 h15 y16=>
 pK (oExt t14 0) fun t17=>
 pK (oExt t14 1) fun t18=>
 K .ret ⟨[(2,t17),(3,t18)],h15,(y16 ++ (y10 ++ (y7 ++ (y4 ++ x))))⟩)
theorem e_q08y {C gl v0 h x K} : NW C gl a_q08y.body ⟨enter [v0],h,x⟩ K = d_q08y C gl v0 h x K:=by kernel_rfl
def P_q022 : ACode:=(.seq (rg [mV 2 (cI 0)] [0])
(.seq (rg [mV 3 0,
bN 4 .add 3 (cI 16),
bN 5 .quo 4 (cI 8),
mV 2 5] [2])
.ret))
def a_q022 : AFun:=⟨1,[.t 2],P_q022,false,false⟩
def d_q022 (C : Hd) (gl : GL) (v0 : AV) (h : Heap) (x : Esc) (K : KT) : Prop:=
 pK (oBin .add v0 (AI 16)) fun t1=>
 pK (oBin .quo t1 (AI 8)) fun t2=>
 K .ret ⟨[(2,t2)],h,x⟩
theorem e_q022 {C gl v0 h x K} : NW C gl a_q022.body ⟨enter [v0],h,x⟩ K = d_q022 C gl v0 h x K:=by kernel_rfl
def p_q023_k1 : ACode:=.pr [0,1,5,6,7,8,9] (.seq (.seq (rg [mV 18 9,
mV 19 7,
bN 20 .lss 18 19] [0,1,5,6,7,8,9,20])
(.cond 20 .skip
(.exit 0)))
(.seq (.block 1 (rg [mV 23 8,
bN 24 .mul 23 (.c (.p (.int .u32 16777619))),
mV 25 0,
mV 26 9,
uO 27 (.idxs 25 26),
uO 28 (.conv (.i .u32) 27),
bN 29 .add 24 28,
mV 8 29] [0,1,5,6,7,8,9]))
(rg [mV 21 9,
bN 22 .add 21 (cI 1),
mV 9 22] [0,1,5,6,7,8,9])))
def d_q023_k1 (C : Hd) (gl : GL) (v0 v1 v5 v6 v7 v8 v9 : AV) (h : Heap) (x : Esc) (K : KT) : Prop:=
 pK (oBin .lss v9 v7) fun t1=>
 condB t1 (pK (oBin .mul v8 (.p (.int .u32 16777619))) fun t2=>
 pK (oIdxs v0 v9) fun t3=>
 pK (oConvI .u32 t3) fun t4=>
 pK (oBin .add t2 t4) fun t5=>
 pK (oBin .add v9 (AI 1)) fun t6=>
 K .normal ⟨[(0,v0),(1,v1),(5,v5),(6,v6),(7,v7),(8,t5),(9,t6)],h,x⟩)
 (K (.exit 0) ⟨[(0,v0),(1,v1),(5,v5),(6,v6),(7,v7),(8,v8),(9,v9),(20,t1)],h,x⟩)
theorem e_q023_k1 {C gl e h x K} : NW C gl p_q023_k1 ⟨e,h,x⟩ K = d_q023_k1 C gl (aget e 0) (aget e 1) (aget e 5) (aget e 6) (aget e 7) (aget e 8) (aget e 9) h x K:=by kernel_rfl
theorem l_q023_k1 {C gl e h x K} : NW C gl (.loop p_q023_k1) ⟨e,h,x⟩ K = NLoop C gl p_q023_k1 K [(0,aget e 0),(1,aget e 1),(5,aget e 5),(6,aget e 6),(7,aget e 7),(8,aget e 8),(9,aget e 9)] h x:=NLoop_pr
def p_q023_k2 : ACode:=.pr [0,1,5,6,7,8,10] (.seq (.seq (rg [mV 41 10,
mV 42 0,
uO 43 (.lens 42),
bN 44 .lss 41 43] [0,1,5,6,7,8,10,44])
(.cond 44 .skip
(.exit 2)))
(.block 3 (.seq (rg [mV 45 8,
bN 46 .mul 45 (.c (.p (.int .u32 16777619))),
mV 8 46] [0,1,5,6,7,8,10])
(.seq (rg [mV 47 8,
mV 48 0,
mV 49 10,
uO 50 (.idxs 48 49),
uO 51 (.conv (.i .u32) 50),
bN 52 .add 47 51,
mV 8 52] [0,1,5,6,7,8,10])
(.seq (rg [mV 53 8,
mV 54 6,
mV 55 0,
mV 56 10,
mV 57 7,
bN 58 .sub 56 57,
uO 59 (.idxs 55 58),
uO 60 (.conv (.i .u32) 59),
bN 61 .mul 54 60,
bN 62 .sub 53 61,
mV 8 62] [0,1,5,6,7,8,10])
(.seq (rg [mV 63 10,
bN 64 .add 63 (cI 1),
mV 10 64] [0,1,5,6,7,8,10])
(.seq (rg [mV 65 8,
mV 66 5,
bN 67 .eql 65 66,
mV 68 67,
gD 69 68 true (.mv 0),
gD 70 68 true (.mv 10),
gD 71 68 true (.mv 7),
gD 72 68 true (.bin .sub 70 71),
gD 73 68 true (.mv 10),
gD 74 68 true (.slstr 69 (some 72) (some 73)),
gD 75 68 true (.mv 1),
gD 76 68 true (.bin .eql 74 75),
uO 77 (.pick 68 76 cF)] [0,1,5,6,7,8,10,77])
(.cond 77 (.seq (rg [mV 78 10,
mV 79 7,
bN 80 .sub 78 79,
mV 4 80] [4])
.ret)
.skip))))))))
def d_q023_k2 (C : Hd) (gl : GL) (v0 v1 v5 v6 v7 v8 v10 : AV) (h : Heap) (x : Esc) (K : KT) : Prop:=
 pK (oLens v0) fun t1=>
 pK (oBin .lss v10 t1) fun t2=>
 condB t2 (pK (oBin .mul v8 (.p (.int .u32 16777619))) fun t3=>
 pK (oIdxs v0 v10) fun t4=>
 pK (oConvI .u32 t4) fun t5=>
 pK (oBin .add t3 t5) fun t6=>
 pK (oBin .sub v10 v7) fun t7=>
 pK (oIdxs v0 t7) fun t8=>
 pK (oConvI .u32 t8) fun t9=>
 pK (oBin .mul v6 t9) fun t10=>
 pK (oBin .sub t6 t10) fun t11=>
 pK (oBin .add v10 (AI 1)) fun t12=>
 pK (oBin .eql t11 v5) fun t13=>
 gM t13 true v0 h fun t14 h15 y16=>
 gM t13 true t12 h15 fun t17 h18 y19=>
 gM t13 true v7 h18 fun t20 h21 y22=>
 gP t13 true (oBin .sub t17 t20) h21 fun t23 h24 y25=>
 gM t13 true t12 h24 fun t26 h27 y28=>
 gP t13 true (oSlstr t14 (some t23) (some t26)) h27 fun t29 h30 y31=>
 gM t13 true v1 h30 fun t32 h33 y34=>
 gP t13 true (oBin .eql t29 t32) h33 fun t35 h36 y37=>
 pK (oPick t13 t35 (AB false)) fun t38=>
 condB t38 (pK (oBin .sub t12 v7) fun t39=>
 K .ret ⟨[(4,t39)],h36,(y37 ++ (y34 ++ (y31 ++ (y28 ++ (y25 ++ (y22 ++ (y19 ++ (y16 ++ x))))))))⟩)
 (K .normal ⟨[(0,v0),(1,v1),(5,v5),(6,v6),(7,v7),(8,t11),(10,t12),(77,t38)],h36,(y37 ++ (y34 ++ (y31 ++ (y28 ++ (y25 ++ (y22 ++ (y19 ++ (y16 ++ x))))))))⟩))
 (K (.exit 2) ⟨[(0,v0),(1,v1),(5,v5),(6,v6),(7,v7),(8,v8),(10,v10),(44,t2)],h,x⟩)
theorem e_q023_k2 {C gl e h x K} : NW C gl p_q023_k2 ⟨e,h,x⟩ K = d_q023_k2 C gl (aget e 0) (aget e 1) (aget e 5) (aget e 6) (aget e 7) (aget e 8) (aget e 10) h x K:=by kernel_rfl
theorem l_q023_k2 {C gl e h x K} : NW C gl (.loop p_q023_k2) ⟨e,h,x⟩ K = NLoop C gl p_q023_k2 K [(0,aget e 0),(1,aget e 1),(5,aget e 5),(6,aget e 6),(7,aget e 7),(8,aget e 8),(10,aget e 10)] h x:=NLoop_pr
def p_q023_k3 : ACode:=.pr [] (.seq (rg [mV 4 (cI (-1))] [4])
.ret)
def d_q023_k3 (C : Hd) (gl : GL) (h : Heap) (x : Esc) (K : KT) : Prop:=
 K .ret ⟨[(4,(AI (-1)))],h,x⟩
theorem e_q023_k3 {C gl e h x K} : NW C gl p_q023_k3 ⟨e,h,x⟩ K = d_q023_k3 C gl h x K:=by kernel_rfl
def P_q023_k4 (q2 q3 : ACode) : ACode:=.pr [0,1,5,6,7,8] (.seq (.seq (rg [mV 30 8,
mV 31 5,
bN 32 .eql 30 31,
mV 33 32,
gD 34 33 true (.mv 0),
gD 35 33 true (.mv 7),
gD 36 33 true (.slstr 34 none (some 35)),
gD 37 33 true (.mv 1),
gD 38 33 true (.bin .eql 36 37),
uO 39 (.pick 33 38 cF)] [0,1,5,6,7,8,39])
(.cond 39 (.seq (rg [mV 4 (cI 0)] [4])
.ret)
.skip))
(.seq (.seq (rg [mV 40 7,
mV 10 40] [0,1,5,6,7,8,10])
(.block 2 (.loop q2)))
q3))
def p_q023_k4 : ACode:=P_q023_k4 p_q023_k2 p_q023_k3
def d_q023_k4 (C : Hd) (gl : GL) (q2 q3 : ACode) (v0 v1 v5 v6 v7 v8 : AV) (h : Heap) (x : Esc) (K : KT) : Prop:=
 pK (oBin .eql v8 v5) fun t1=>
 gM t1 true v0 h fun t2 h3 y4=>
 gM t1 true v7 h3 fun t5 h6 y7=>
 gP t1 true (oSlstr t2 none (some t5)) h6 fun t8 h9 y10=>
 gM t1 true v1 h9 fun t11 h12 y13=>
 gP t1 true (oBin .eql t8 t11) h12 fun t14 h15 y16=>
 pK (oPick t1 t14 (AB false)) fun t17=>
 condB t17 (K .ret ⟨[(4,(AI 0))],h15,(y16 ++ (y13 ++ (y10 ++ (y7 ++ (y4 ++ x)))))⟩)
 (NW C gl (.loop q2) ⟨[(0,v0),(1,v1),(5,v5),(6,v6),(7,v7),(8,v8),(10,v7)],h15,(y16 ++ (y13 ++ (y10 ++ (y7 ++ (y4 ++ x)))))⟩ (blockN 2 (seqN C gl q3 K)))
theorem E_q023_k4 {C gl q2 q3 e h x K} : NW C gl (P_q023_k4 q2 q3) ⟨e,h,x⟩ K = d_q023_k4 C gl q2 q3 (aget e 0) (aget e 1) (aget e 5) (aget e 6) (aget e 7) (aget e 8) h x K:=by kernel_rfl
theorem e_q023_k4 {C gl e h x K} : NW C gl p_q023_k4 ⟨e,h,x⟩ K = d_q023_k4 C gl p_q023_k2 p_q023_k3 (aget e 0) (aget e 1) (aget e 5) (aget e 6) (aget e 7) (aget e 8) h x K:=E_q023_k4
def P_q023 (q1 q4 : ACode) : ACode:=(.seq (rg [mV 4 (cI 0)] [0,1])
(.seq (rg [mV 12 1,
cL 13 f_q024 [12],
mV 11 13,
eX 14 11 0,
eX 15 11 1,
mV 5 14,
mV 6 15] [0,1,5,6])
(.seq (rg [mV 16 1,
uO 17 (.lens 16),
mV 7 17] [0,1,5,6,7])
(.seq (rg [mV 8 (.c (.p (.int .u32 0)))] [0,1,5,6,7,8])
(.seq (.seq (rg [mV 9 (cI 0)] [0,1,5,6,7,8,9])
(.block 0 (.loop q1)))
q4)))))
def a_q023 : AFun:=⟨2,[.t 4],P_q023 p_q023_k1 p_q023_k4,false,false⟩
def d_q023 (C : Hd) (gl : GL) (q1 q4 : ACode) (v0 v1 : AV) (h : Heap) (x : Esc) (K : KT) : Prop:=
 C f_q024 [v1] h fun t1 h2 y3=>
 pK (oExt t1 0) fun t4=>
 pK (oExt t1 1) fun t5=>
 pK (oLens v1) fun t6=>
 NW C gl (.loop q1) ⟨[(0,v0),(1,v1),(5,t4),(6,t5),(7,t6),(8,(.p (.int .u32 0))),(9,(AI 0))],h2,(y3 ++ x)⟩ (blockN 0 (seqN C gl q4 K))
theorem E_q023 {C gl q1 q4 v0 v1 h x K} : NW C gl (P_q023 q1 q4) ⟨enter [v0,v1],h,x⟩ K = d_q023 C gl q1 q4 v0 v1 h x K:=by kernel_rfl
theorem e_q023 {C gl v0 v1 h x K} : NW C gl a_q023.body ⟨enter [v0,v1],h,x⟩ K = d_q023 C gl p_q023_k1 p_q023_k4 v0 v1 h x K:=E_q023
end Go.Am
end
section
/- The functions asv abstract code,and asv formulas over their values: printed by program out of the translation. -/
set_option linter.unusedVariables false
set_option maxRecDepth 100000
namespace Go.Am
def P_q092 : ACode:=(.seq (rg [mV 2 (.c (.p (.int .i32 0))),
mV 3 (cI 0)] [0])
(.seq (rg [mV 13 0,
uO 14 (.lens 13),
mV 4 14] [0,4])
(.seq (.seq (rg [mV 15 4,
bN 16 .lss 15 (cI 1)] [0,4,16])
(.cond 16 (.seq (rg [mV 2 (.c (.p (.int .i32 65533))),
mV 3 (cI 0)] [2,3])
.ret)
.skip))
(.seq (rg [mV 17 0,
uO 18 (.idxs 17 (cI 0)),
mV 5 18] [0,4,5])
(.seq (rg [mV 19 5,
uO 20 (.iaddra 256 none (.g 6) 19),
lD 21 none 20,
mV 6 21] [0,4,5,6])
(.seq (.seq (rg [mV 22 6,
bN 23 .geq 22 (.c (.p (.int .u8 240)))] [0,4,5,6,23])
(.cond 23 (.seq (rg [mV 24 6,
uO 25 (.conv (.i .i32) 24),
bN 26 .shl 25 (.c (.p (.int .u64 31))),
bN 27 .shr 26 (.c (.p (.int .u64 31))),
mV 7 27] [0,7])
(.seq (rg [mV 28 0,
uO 29 (.idxs 28 (cI 0)),
uO 30 (.conv (.i .i32) 29),
mV 31 7,
bN 32 .andNot 30 31,
mV 33 7,
bN 34 .and (.c (.p (.int .i32 65533))) 33,
bN 35 .or 32 34,
mV 2 35,
mV 3 (cI 1)] [2,3])
.ret))
.skip))
(.seq (rg [mV 36 6,
bN 37 .and 36 (.c (.p (.int .u8 7))),
uO 38 (.conv (.i .i64) 37),
mV 8 38] [0,4,5,6,8])
(.seq (rg [mV 39 6,
bN 40 .shr 39 (.c (.p (.int .u64 4))),
uO 41 (.iaddra 16 (some 2) (.g 7) 40),
lD 42 (some 2) 41,
uO 9 (.alloc [.p (.int .u8 0),.p (.int .u8 0)]),
wO (.store (some 2) 9 42)] [0,4,5,8,9])
(.seq (.seq (rg [mV 43 4,
mV 44 8,
bN 45 .lss 43 44] [0,5,8,9,45])
(.cond 45 (.seq (rg [mV 2 (.c (.p (.int .i32 65533))),
mV 3 (cI 1)] [2,3])
.ret)
.skip))
(.seq (rg [mV 46 0,
uO 47 (.idxs 46 (cI 1)),
mV 10 47] [0,5,8,9,10])
(.seq (.seq (rg [mV 48 10,
fA 49 0 none 9,
lD 50 none 49,
bN 51 .lss 48 50,
mV 52 51,
gD 53 52 false (.faddr 1 none 9),
gD 54 52 false (.load none 53),
gD 55 52 false (.mv 10),
gD 56 52 false (.bin .lss 54 55),
uO 57 (.pick 52 cT 56)] [0,5,8,10,57])
(.cond 57 (.seq (rg [mV 2 (.c (.p (.int .i32 65533))),
mV 3 (cI 1)] [2,3])
.ret)
.skip))
(.seq (.seq (rg [mV 58 8,
bN 59 .leq 58 (cI 2)] [0,5,8,10,59])
(.cond 59 (.seq (rg [mV 60 5,
bN 61 .and 60 (.c (.p (.int .u8 31))),
uO 62 (.conv (.i .i32) 61),
bN 63 .shl 62 (.c (.p (.int .u64 6))),
mV 64 10,
bN 65 .and 64 (.c (.p (.int .u8 63))),
uO 66 (.conv (.i .i32) 65),
bN 67 .or 63 66,
mV 2 67,
mV 3 (cI 2)] [2,3])
.ret)
.skip))
(.seq (rg [mV 68 0,
uO 69 (.idxs 68 (cI 2)),
mV 11 69] [0,5,8,10,11])
(.seq (.seq (rg [mV 70 11,
bN 71 .lss 70 (.c (.p (.int .u8 128))),
mV 72 71,
gD 73 72 false (.mv 11),
gD 74 72 false (.bin .lss (.c (.p (.int .u8 191))) 73),
uO 75 (.pick 72 cT 74)] [0,5,8,10,11,75])
(.cond 75 (.seq (rg [mV 2 (.c (.p (.int .i32 65533))),
mV 3 (cI 1)] [2,3])
.ret)
.skip))
(.seq (.seq (rg [mV 76 8,
bN 77 .leq 76 (cI 3)] [0,5,10,11,77])
(.cond 77 (.seq (rg [mV 78 5,
bN 79 .and 78 (.c (.p (.int .u8 15))),
uO 80 (.conv (.i .i32) 79),
bN 81 .shl 80 (.c (.p (.int .u64 12))),
mV 82 10,
bN 83 .and 82 (.c (.p (.int .u8 63))),
uO 84 (.conv (.i .i32) 83),
bN 85 .shl 84 (.c (.p (.int .u64 6))),
bN 86 .or 81 85,
mV 87 11,
bN 88 .and 87 (.c (.p (.int .u8 63))),
uO 89 (.conv (.i .i32) 88),
bN 90 .or 86 89,
mV 2 90,
mV 3 (cI 3)] [2,3])
.ret)
.skip))
(.seq (rg [mV 91 0,
uO 92 (.idxs 91 (cI 3)),
mV 12 92] [5,10,11,12])
(.seq (.seq (rg [mV 93 12,
bN 94 .lss 93 (.c (.p (.int .u8 128))),
mV 95 94,
gD 96 95 false (.mv 12),
gD 97 95 false (.bin .lss (.c (.p (.int .u8 191))) 96),
uO 98 (.pick 95 cT 97)] [5,10,11,12,98])
(.cond 98 (.seq (rg [mV 2 (.c (.p (.int .i32 65533))),
mV 3 (cI 1)] [2,3])
.ret)
.skip))
(.seq (rg [mV 99 5,
bN 100 .and 99 (.c (.p (.int .u8 7))),
uO 101 (.conv (.i .i32) 100),
bN 102 .shl 101 (.c (.p (.int .u64 18))),
mV 103 10,
bN 104 .and 103 (.c (.p (.int .u8 63))),
uO 105 (.conv (.i .i32) 104),
bN 106 .shl 105 (.c (.p (.int .u64 12))),
bN 107 .or 102 106,
mV 108 11,
bN 109 .and 108 (.c (.p (.int .u8 63))),
uO 110 (.conv (.i .i32) 109),
bN 111 .shl 110 (.c (.p (.int .u64 6))),
bN 112 .or 107 111,
mV 113 12,
bN 114 .and 113 (.c (.p (.int .u8 63))),
uO 115 (.conv (.i .i32) 114),
bN 116 .or 112 115,
mV 2 116,
mV 3 (cI 4)] [2,3])
.ret))))))))))))))))))
def a_q092 : AFun:=⟨1,[.t 2,.t 3],P_q092,false,false⟩
def d_q092 (C : Hd) (gl : GL) (v0 : AV) (h : Heap) (x : Esc) (K : KT) : Prop:=
 pK (oLens v0) fun t1=>
 pK (oBin .lss t1 (AI 1)) fun t2=>
 condB t2 (K .ret ⟨[(2,(.p (.int .i32 65533))),(3,(AI 0))],h,x⟩)
 (pK (oIdxs v0 (AI 0)) fun t3=>
 pK (oIaddra 256 none (gv gl 6) t3) fun t4=>
 pK (oLoad none t4 h) fun t5=>
 pK (oBin .geq t5 (.p (.int .u8 240))) fun t6=>
 condB t6 (pK (oConvI .i32 t5) fun t7=>
 pK (oBin .shl t7 (.p (.int .u64 31))) fun t8=>
 pK (oBin .shr t8 (.p (.int .u64 31))) fun t9=>
 pK (oIdxs v0 (AI 0)) fun t10=>
 pK (oConvI .i32 t10) fun t11=>
 pK (oBin .andNot t11 t9) fun t12=>
 pK (oBin .and (.p (.int .i32 65533)) t9) fun t13=>
 pK (oBin .or t12 t13) fun t14=>
 K .ret ⟨[(2,t14),(3,(AI 1))],h,x⟩)
 (pK (oBin .and t5 (.p (.int .u8 7))) fun t15=>
 pK (oConvI .i64 t15) fun t16=>
 pK (oBin .shr t5 (.p (.int .u64 4))) fun t17=>
 pK (oIaddra 16 (some 2) (gv gl 7) t17) fun t18=>
 pK (oLoad (some 2) t18 h) fun t19=>
 alK [.p (.int .u8 0),.p (.int .u8 0)] h fun t20 h21 y22=>
 wK (oStore (some 2) t20 t19 h21) fun t23 h24 y25=>
 pK (oBin .lss t1 t16) fun t26=>
 condB t26 (K .ret ⟨[(2,(.p (.int .i32 65533))),(3,(AI 1))],h24,(y25 ++ (y22 ++ x))⟩)
 (pK (oIdxs v0 (AI 1)) fun t27=>
 pK (oFaddr 0 none t20) fun t28=>
 pK (oLoad none t28 h24) fun t29=>
 pK (oBin .lss t27 t29) fun t30=>
 gP t30 false (oFaddr 1 none t20) h24 fun t31 h32 y33=>
 gP t30 false (oLoad none t31 h32) h32 fun t34 h35 y36=>
 gM t30 false t27 h35 fun t37 h38 y39=>
 gP t30 false (oBin .lss t34 t37) h38 fun t40 h41 y42=>
 pK (oPick t30 (AB true) t40) fun t43=>
 condB t43 (K .ret ⟨[(2,(.p (.int .i32 65533))),(3,(AI 1))],h41,(y42 ++ (y39 ++ (y36 ++ (y33 ++ (y25 ++ (y22 ++ x))))))⟩)
 (pK (oBin .leq t16 (AI 2)) fun t44=>
 condB t44 (pK (oBin .and t3 (.p (.int .u8 31))) fun t45=>
 pK (oConvI .i32 t45) fun t46=>
 pK (oBin .shl t46 (.p (.int .u64 6))) fun t47=>
 pK (oBin .and t27 (.p (.int .u8 63))) fun t48=>
 pK (oConvI .i32 t48) fun t49=>
 pK (oBin .or t47 t49) fun t50=>
 K .ret ⟨[(2,t50),(3,(AI 2))],h41,(y42 ++ (y39 ++ (y36 ++ (y33 ++ (y25 ++ (y22 ++ x))))))⟩)
 (pK (oIdxs v0 (AI 2)) fun t51=>
 pK (oBin .lss t51 (.p (.int .u8 128))) fun t52=>
 gM t52 false t51 h41 fun t53 h54 y55=>
 gP t52 false (oBin .lss (.p (.int .u8 191)) t53) h54 fun t56 h57 y58=>
 pK (oPick t52 (AB true) t56) fun t59=>
 condB t59 (K .ret ⟨[(2,(.p (.int .i32 65533))),(3,(AI 1))],h57,(y58 ++ (y55 ++ (y42 ++ (y39 ++ (y36 ++ (y33 ++ (y25 ++ (y22 ++ x))))))))⟩)
 (pK (oBin .leq t16 (AI 3)) fun t60=>
 condB t60 (pK (oBin .and t3 (.p (.int .u8 15))) fun t61=>
 pK (oConvI .i32 t61) fun t62=>
 pK (oBin .shl t62 (.p (.int .u64 12))) fun t63=>
 pK (oBin .and t27 (.p (.int .u8 63))) fun t64=>
 pK (oConvI .i32 t64) fun t65=>
 pK (oBin .shl t65 (.p (.int .u64 6))) fun t66=>
 pK (oBin .or t63 t66) fun t67=>
 pK (oBin .and t51 (.p (.int .u8 63))) fun t68=>
 pK (oConvI .i32 t68) fun t69=>
 pK (oBin .or t67 t69) fun t70=>
 K .ret ⟨[(2,t70),(3,(AI 3))],h57,(y58 ++ (y55 ++ (y42 ++ (y39 ++ (y36 ++ (y33 ++ (y25 ++ (y22 ++ x))))))))⟩)
 (pK (oIdxs v0 (AI 3)) fun t71=>
 pK (oBin .lss t71 (.p (.int .u8 128))) fun t72=>
 gM t72 false t71 h57 fun t73 h74 y75=>
 gP t72 false (oBin .lss (.p (.int .u8 191)) t73) h74 fun t76 h77 y78=>
 pK (oPick t72 (AB true) t76) fun t79=>
 condB t79 (K .ret ⟨[(2,(.p (.int .i32 65533))),(3,(AI 1))],h77,(y78 ++ (y75 ++ (y58 ++ (y55 ++ (y42 ++ (y39 ++ (y36 ++ (y33 ++ (y25 ++ (y22 ++ x))))))))))⟩)
 (pK (oBin .and t3 (.p (.int .u8 7))) fun t80=>
 pK (oConvI .i32 t80) fun t81=>
 pK (oBin .shl t81 (.p (.int .u64 18))) fun t82=>
 pK (oBin .and t27 (.p (.int .u8 63))) fun t83=>
 pK (oConvI .i32 t83) fun t84=>
 pK (oBin .shl t84 (.p (.int .u64 12))) fun t85=>
 pK (oBin .or t82 t85) fun t86=>
 pK (oBin .and t51 (.p (.int .u8 63))) fun t87=>
 pK (oConvI .i32 t87) fun t88=>
 pK (oBin .shl t88 (.p (.int .u64 6))) fun t89=>
 pK (oBin .or t86 t89) fun t90=>
 pK (oBin .and t71 (.p (.int .u8 63))) fun t91=>
 pK (oConvI .i32 t91) fun t92=>
 pK (oBin .or t90 t92) fun t93=>
 K .ret ⟨[(2,t93),(3,(AI 4))],h77,(y78 ++ (y75 ++ (y58 ++ (y55 ++ (y42 ++ (y39 ++ (y36 ++ (y33 ++ (y25 ++ (y22 ++ x))))))))))⟩))))))))
theorem e_q092 {C gl v0 h x K} : NW C gl a_q092.body ⟨enter [v0],h,x⟩ K = d_q092 C gl v0 h x K:=by kernel_rfl
def p_q024_k1 : ACode:=.pr [0,4,5] (.seq (.seq (rg [mV 9 5,
mV 10 0,
uO 11 (.lens 10),
bN 12 .lss 9 11] [0,4,5,12])
(.cond 12 .skip
(.exit 0)))
(.seq (.block 1 (rg [mV 15 4,
bN 16 .mul 15 (.c (.p (.int .u32 16777619))),
mV 17 0,
mV 18 5,
uO 19 (.idxs 17 18),
uO 20 (.conv (.i .u32) 19),
bN 21 .add 16 20,
mV 4 21] [0,4,5]))
(rg [mV 13 5,
bN 14 .add 13 (cI 1),
mV 5 14] [0,4,5])))
def d_q024_k1 (C : Hd) (gl : GL) (v0 v4 v5 : AV) (h : Heap) (x : Esc) (K : KT) : Prop:=
 pK (oLens v0) fun t1=>
 pK (oBin .lss v5 t1) fun t2=>
 condB t2 (pK (oBin .mul v4 (.p (.int .u32 16777619))) fun t3=>
 pK (oIdxs v0 v5) fun t4=>
 pK (oConvI .u32 t4) fun t5=>
 pK (oBin .add t3 t5) fun t6=>
 pK (oBin .add v5 (AI 1)) fun t7=>
 K .normal ⟨[(0,v0),(4,t6),(5,t7)],h,x⟩)
 (K (.exit 0) ⟨[(0,v0),(4,v4),(5,v5),(12,t2)],h,x⟩)
theorem e_q024_k1 {C gl e h x K} : NW C gl p_q024_k1 ⟨e,h,x⟩ K = d_q024_k1 C gl (aget e 0) (aget e 4) (aget e 5) h x K:=by kernel_rfl
theorem l_q024_k1 {C gl e h x K} : NW C gl (.loop p_q024_k1) ⟨e,h,x⟩ K = NLoop C gl p_q024_k1 K [(0,aget e 0),(4,aget e 4),(5,aget e 5)] h x:=NLoop_pr
def p_q024_k2 : ACode:=.pr [4,6,7,8] (rg [mV 34 7,
mV 35 7,
bN 36 .mul 34 35,
mV 7 36] [4,6,7,8])
def d_q024_k2 (C : Hd) (gl : GL) (v4 v6 v7 v8 : AV) (h : Heap) (x : Esc) (K : KT) : Prop:=
 pK (oBin .mul v7 v7) fun t1=>
 K .normal ⟨[(4,v4),(6,v6),(7,t1),(8,v8)],h,x⟩
theorem e_q024_k2 {C gl e h x K} : NW C gl p_q024_k2 ⟨e,h,x⟩ K = d_q024_k2 C gl (aget e 4) (aget e 6) (aget e 7) (aget e 8) h x K:=by kernel_rfl
def p_q024_k3 : ACode:=.pr [4,6,7,8] (rg [mV 26 8,
bN 27 .shr 26 (.c (.p (.int .u64 1))),
mV 8 27] [4,6,7,8])
def d_q024_k3 (C : Hd) (gl : GL) (v4 v6 v7 v8 : AV) (h : Heap) (x : Esc) (K : KT) : Prop:=
 pK (oBin .shr v8 (.p (.int .u64 1))) fun t1=>
 K .normal ⟨[(4,v4),(6,v6),(7,v7),(8,t1)],h,x⟩
theorem e_q024_k3 {C gl e h x K} : NW C gl p_q024_k3 ⟨e,h,x⟩ K = d_q024_k3 C gl (aget e 4) (aget e 6) (aget e 7) (aget e 8) h x K:=by kernel_rfl
def P_q024_k4 (q2 q3 : ACode) : ACode:=.pr [4,6,7,8] (.seq (.seq (rg [mV 24 8,
bN 25 .gtr 24 (cI 0)] [4,6,7,8,25])
(.cond 25 .skip
(.exit 2)))
(.seq (.block 3 (.seq (.seq (rg [mV 28 8,
bN 29 .and 28 (cI 1),
bN 30 .neq 29 (cI 0)] [4,6,7,8,30])
(.cond 30 (rg [mV 31 6,
mV 32 7,
bN 33 .mul 31 32,
mV 6 33] [4,6,7,8])
.skip))
q2))
q3))
def p_q024_k4 : ACode:=P_q024_k4 p_q024_k2 p_q024_k3
def d_q024_k4 (C : Hd) (gl : GL) (q2 q3 : ACode) (v4 v6 v7 v8 : AV) (h : Heap) (x : Esc) (K : KT) : Prop:=
 pK (oBin .gtr v8 (AI 0)) fun t1=>
 condB t1 (pK (oBin .and v8 (AI 1)) fun t2=>
 pK (oBin .neq t2 (AI 0)) fun t3=>
 condB t3 (pK (oBin .mul v6 v7) fun t4=>
 NW C gl q2 ⟨[(4,v4),(6,t4),(7,v7),(8,v8)],h,x⟩ (blockN 3 (seqN C gl q3 K)))
 (NW C gl q2 ⟨[(4,v4),(6,v6),(7,v7),(8,v8),(30,t3)],h,x⟩ (blockN 3 (seqN C gl q3 K))))
 (K (.exit 2) ⟨[(4,v4),(6,v6),(7,v7),(8,v8),(25,t1)],h,x⟩)
theorem E_q024_k4 {C gl q2 q3 e h x K} : NW C gl (P_q024_k4 q2 q3) ⟨e,h,x⟩ K = d_q024_k4 C gl q2 q3 (aget e 4) (aget e 6) (aget e 7) (aget e 8) h x K:=by kernel_rfl
theorem e_q024_k4 {C gl e h x K} : NW C gl p_q024_k4 ⟨e,h,x⟩ K = d_q024_k4 C gl p_q024_k2 p_q024_k3 (aget e 4) (aget e 6) (aget e 7) (aget e 8) h x K:=E_q024_k4
theorem l_q024_k4 {C gl e h x K} : NW C gl (.loop p_q024_k4) ⟨e,h,x⟩ K = NLoop C gl p_q024_k4 K [(4,aget e 4),(6,aget e 6),(7,aget e 7),(8,aget e 8)] h x:=NLoop_pr
def p_q024_k5 : ACode:=.pr [4,6] (.seq (rg [mV 37 4,
mV 38 6,
mV 2 37,
mV 3 38] [2,3])
.ret)
def d_q024_k5 (C : Hd) (gl : GL) (v4 v6 : AV) (h : Heap) (x : Esc) (K : KT) : Prop:=
 K .ret ⟨[(2,v4),(3,v6)],h,x⟩
theorem e_q024_k5 {C gl e h x K} : NW C gl p_q024_k5 ⟨e,h,x⟩ K = d_q024_k5 C gl (aget e 4) (aget e 6) h x K:=by kernel_rfl
def P_q024_k6 (q4 q5 : ACode) : ACode:=.pr [0,4] (.seq (rg [mV 6 (.c (.p (.int .u32 1))),
mV 7 (.c (.p (.int .u32 16777619)))] [0,4,6,7])
(.seq (.seq (rg [mV 22 0,
uO 23 (.lens 22),
mV 8 23] [4,6,7,8])
(.block 2 (.loop q4)))
q5))
def p_q024_k6 : ACode:=P_q024_k6 p_q024_k4 p_q024_k5
def d_q024_k6 (C : Hd) (gl : GL) (q4 q5 : ACode) (v0 v4 : AV) (h : Heap) (x : Esc) (K : KT) : Prop:=
 pK (oLens v0) fun t1=>
 NW C gl (.loop q4) ⟨[(4,v4),(6,(.p (.int .u32 1))),(7,(.p (.int .u32 16777619))),(8,t1)],h,x⟩ (blockN 2 (seqN C gl q5 K))
theorem E_q024_k6 {C gl q4 q5 e h x K} : NW C gl (P_q024_k6 q4 q5) ⟨e,h,x⟩ K = d_q024_k6 C gl q4 q5 (aget e 0) (aget e 4) h x K:=by kernel_rfl
theorem e_q024_k6 {C gl e h x K} : NW C gl p_q024_k6 ⟨e,h,x⟩ K = d_q024_k6 C gl p_q024_k4 p_q024_k5 (aget e 0) (aget e 4) h x K:=E_q024_k6
def P_q024 (q1 q6 : ACode) : ACode:=(.seq (rg [mV 2 (.c (.p (.int .u32 0))),
mV 3 (.c (.p (.int .u32 0)))] [0])
(.seq (rg [mV 4 (.c (.p (.int .u32 0)))] [0,4])
(.seq (.seq (rg [mV 5 (cI 0)] [0,4,5])
(.block 0 (.loop q1)))
q6)))
def a_q024 : AFun:=⟨1,[.t 2,.t 3],P_q024 p_q024_k1 p_q024_k6,false,false⟩
def d_q024 (C : Hd) (gl : GL) (q1 q6 : ACode) (v0 : AV) (h : Heap) (x : Esc) (K : KT) : Prop:=
 NW C gl (.loop q1) ⟨[(0,v0),(4,(.p (.int .u32 0))),(5,(AI 0))],h,x⟩ (blockN 0 (seqN C gl q6 K))
theorem E_q024 {C gl q1 q6 v0 h x K} : NW C gl (P_q024 q1 q6) ⟨enter [v0],h,x⟩ K = d_q024 C gl q1 q6 v0 h x K:=by kernel_rfl
theorem e_q024 {C gl v0 h x K} : NW C gl a_q024.body ⟨enter [v0],h,x⟩ K = d_q024 C gl p_q024_k1 p_q024_k6 v0 h x K:=E_q024
def P_q000 : ACode:=(.seq (rg [mV 2 cF] [0])
(.seq (rg [mV 3 0,
cL 4 f_q08f [3,(cS [48,49])],
bN 5 .eql 4 (cS []),
mV 2 5] [2])
.ret))
def a_q000 : AFun:=⟨1,[.t 2],P_q000,false,false⟩
def p_q002_k1 : ACode:=.pr [5,6,7] (.seq (rg [bN 8 .lss 7 6] [5,6,7,8])
(.seq (.cond 8 .skip
(.exit 0))
(.seq (.block 1 (.seq (rg [iA 9 none 5 7,
lD 10 none 9,
mV 4 10] [4,5,6,7])
(.seq (rg [mV 11 4,
bN 12 .neq 11 (cI 0)] [4,5,6,7,12])
(.cond 12 (.seq (rg [mV 13 4,
mV 2 13] [2])
.ret)
.skip))))
(rg [bN 14 .add 7 (cI 1),
mV 7 14] [5,6,7]))))
def p_q002_k2 : ACode:=.pr [] (.seq (rg [mV 2 (cI 0)] [2])
.ret)
def P_q002 (q1 q2 : ACode) : ACode:=(.seq (rg [mV 2 (cI 0)] [0])
(.seq (.seq (rg [mV 5 0,
lN 6 5,
mV 7 (cI 0)] [5,6,7])
(.block 0 (.loop q1)))
q2))
def a_q002 : AFun:=⟨1,[.t 2],P_q002 p_q002_k1 p_q002_k2,false,false⟩
def P_q003 : ACode:=(.seq (rg [uO 4 (.alloc [.p (.int .i64 0),.p (.int .i64 0)])] [0,1,4])
(.seq (rg [mV 6 0,
mV 7 0,
uO 8 (.un .neg 7),
uO 9 (.mx [6,8]),
mV 10 1,
cL 11 f_q004 [9,10],
mV 5 11] [0,1,4,5])
(.seq (dr [dF (mV 12 0) [0],
dF (mV 13 5) [5],
dF (bN 14 .quo 12 13) [12,13],
dF (mV 15 1) [1],
dF (mV 16 5) [5],
dF (bN 17 .quo 15 16) [15,16],
dF (uO 18 (.build [.p (.int .i64 0),.p (.int .i64 0)] [(0,1,14),(1,1,17)])) [14,17],
dT (wO (.store (some 2) 4 18)) [4,18]] [4])
.ret)))
def a_q003 : AFun:=⟨2,[.cell 4 (some 2)],P_q003,false,false⟩
def p_q004_k1 : ACode:=.pr [0,1] (.seq (.seq (rg [mV 5 1,
bN 6 .neq 5 (cI 0)] [0,1,6])
(.cond 6 .skip
(.exit 0)))
(.block 1 (dr [dF (mV 7 1) [1],
dF (mV 8 0) [0],
dF (mV 9 1) [1],
dF (bN 10 .rem 8 9) [8,9],
dF (mV 0 7) [7],
dF (mV 1 10) [10]] [0,1])))
def p_q004_k2 : ACode:=.pr [0] (.seq (rg [mV 11 0,
mV 4 11] [4])
.ret)
def P_q004 (q1 q2 : ACode) : ACode:=(.seq (rg [mV 4 (cI 0)] [0,1])
(.seq (.block 0 (.loop q1))
q2))
def a_q004 : AFun:=⟨2,[.t 4],P_q004 p_q004_k1 p_q004_k2,false,false⟩
def p_q005_k1 : ACode:=.pr [0,23,24] (.seq (rg [bN 25 .lss 24 23] [0,23,24,25])
(.seq (.cond 25 .skip
(.exit 0))
(.seq (.block 1 (.seq (rg [mV 26 24,
mV 3 26] [0,3,23,24])
(.seq (rg [mV 27 0,
mV 28 3,
uO 29 (.idxs 27 28),
mV 4 29] [0,4,23,24])
(.seq (rg [mV 30 4,
bN 31 .geq 30 (.c (.p (.int .u8 97))),
mV 32 31,
gD 33 32 true (.mv 4),
gD 34 32 true (.bin .leq 33 (.c (.p (.int .u8 122)))),
uO 35 (.pick 32 34 cF),
mV 36 35,
gD 37 36 false (.mv 4),
gD 38 36 false (.bin .geq 37 (.c (.p (.int .u8 48)))),
gD 39 36 false (.mv 38),
gD 40 39 true (.mv 4),
gD 41 39 true (.bin .leq 40 (.c (.p (.int .u8 57)))),
gD 42 36 false (.pick 39 41 cF),
uO 43 (.pick 36 cT 42),
mV 44 43,
gD 45 44 false (.mv 4),
gD 46 44 false (.bin .eql 45 (.c (.p (.int .u8 45)))),
uO 47 (.pick 44 cT 46),
mV 48 47,
gD 49 48 false (.mv 4),
gD 50 48 false (.bin .eql 49 (.c (.p (.int .u8 95)))),
uO 51 (.pick 48 cT 50),
uO 52 (.un .not 51)] [0,23,24,52])
(.cond 52 (.seq (rg [mV 2 cF] [2])
.ret)
.skip)))))
(rg [bN 53 .add 24 (cI 1),
mV 24 53] [0,23,24]))))
def p_q005_k2 : ACode:=.pr [] (.seq (rg [mV 2 cT] [2])
.ret)
def P_q005 (q1 q2 : ACode) : ACode:=(.seq (rg [mV 2 cF] [0])
(.seq (.seq (rg [mV 5 0,
bN 6 .eql 5 (cS []),
mV 7 6,
gD 8 7 false (.mv 0),
gD 9 7 false (.lens 8),
gD 10 7 false (.bin .gtr 9 (cI 40)),
uO 11 (.pick 7 cT 10),
mV 12 11,
gD 13 12 false (.mv 0),
gD 14 12 false (.idxs 13 (cI 0)),
gD 15 12 false (.bin .lss 14 (.c (.p (.int .u8 97)))),
uO 16 (.pick 12 cT 15),
mV 17 16,
gD 18 17 false (.mv 0),
gD 19 17 false (.idxs 18 (cI 0)),
gD 20 17 false (.bin .gtr 19 (.c (.p (.int .u8 122)))),
uO 21 (.pick 17 cT 20)] [0,21])
(.cond 21 (.seq (rg [mV 2 cF] [2])
.ret)
.skip))
(.seq (.seq (rg [mV 22 0,
uO 23 (.lens 22),
mV 24 (cI 0)] [0,23,24])
(.block 0 (.loop q1)))
q2)))
def a_q005 : AFun:=⟨1,[.t 2],P_q005 p_q005_k1 p_q005_k2,false,false⟩
def P_q007 : ACode:=(.seq (rg [mV 2 cF] [0])
(.seq (rg [mV 3 0,
cL 4 f_q00a [3,(cI 0),(cI 345686399999)],
uO 5 (.un .not 4),
mV 2 5] [2])
.ret))
def a_q007 : AFun:=⟨1,[.t 2],P_q007,false,false⟩
def p_q00c_k1 : ACode:=.pr [2,19,20,21] (.seq (rg [bN 22 .lss 21 20] [2,19,20,21,22])
(.seq (.cond 22 .skip
(.exit 0))
(.seq (.block 1 (.seq (rg [mV 23 21,
iA 24 none 19 21,
lD 25 none 24,
mV 6 23,
mV 7 25] [2,6,7,19,20,21])
(.seq (rg [mV 26 7,
uO 27 (.lens 26),
fA 28 0 none 2,
lD 29 none 28,
mV 30 6,
iA 31 (some 2) 29 30,
fA 32 1 none 31,
lD 33 none 32,
lN 34 33,
bN 35 .neq 27 34,
mV 36 35,
gD 37 36 false (.mv 7),
gD 38 36 false (.call f_q000 [37]),
gD 39 36 false (.un .not 38),
uO 40 (.pick 36 cT 39)] [2,19,20,21,40])
(.cond 40 (.seq (rg [mV 4 (cI 3)] [4])
.ret)
.skip))))
(rg [bN 41 .add 21 (cI 1),
mV 21 41] [2,19,20,21]))))
def p_q00c_k2 : ACode:=.pr [] (.seq (rg [mV 4 (cI 0)] [4])
.ret)
def P_q00c (q1 q2 : ACode) : ACode:=(.seq (rg [uO 2 (.box 0),
mV 4 (cI 0)] [1,2])
(.seq (.seq (rg [lD 8 (some 3) 2,
cL 9 f_q00d [8],
mV 5 9] [1,2,5])
(.seq (rg [mV 10 5,
bN 11 .neq 10 (cI 0)] [1,2,5,11])
(.cond 11 (.seq (rg [mV 12 5,
mV 4 12] [4])
.ret)
.skip)))
(.seq (.seq (rg [mV 13 1,
lN 14 13,
fA 15 0 none 2,
lD 16 none 15,
lN 17 16,
bN 18 .neq 14 17] [1,2,18])
(.cond 18 (.seq (rg [mV 4 (cI 3)] [4])
.ret)
.skip))
(.seq (.seq (rg [mV 19 1,
lN 20 19,
mV 21 (cI 0)] [2,19,20,21])
(.block 0 (.loop q1)))
q2))))
def a_q00c : AFun:=⟨2,[.t 4],P_q00c p_q00c_k1 p_q00c_k2,false,false⟩
def p_q00d_k1 : ACode:=.pr [1,15,16,17] (.seq (rg [bN 18 .lss 17 16] [1,15,16,17,18])
(.seq (.cond 18 .skip
(.exit 0))
(.seq (.block 1 (.seq (rg [mV 19 17,
iA 20 (some 2) 15 17,
lD 21 (some 2) 20,
uO 4 (.alloc [.p (.str []),.sl0 (some 4)]),
mV 3 19,
wO (.store (some 2) 4 21)] [1,3,4,15,16,17])
(.seq (.block 2 (.seq (rg [fA 23 0 none 4,
lD 24 none 23,
cL 25 f_q005 [24],
uO 26 (.un .not 25),
mV 22 26] [1,3,4,15,16,17,22])
(.cond 22 (.seq (rg [mV 2 (cI 5)] [2])
.ret)
(.seq (dr [dF (mV 28 3) [3],
dF (bN 29 .gtr 28 (cI 0)) [28],
dF (mV 30 29) [29],
dF (gD 31 30 true (.faddr 0 none 4)) [4,30],
dF (gD 32 30 true (.load none 31)) [31,30],
dF (gD 33 30 true (.faddr 0 none 1)) [1,30],
dF (gD 34 30 true (.load none 33)) [33,30],
dF (gD 35 30 true (.mv 3)) [3,30],
dF (gD 36 30 true (.bin .sub 35 (cI 1))) [35,30],
dF (gD 37 30 true (.iaddr (some 2) 34 36)) [34,36,30],
dF (gD 38 30 true (.faddr 0 none 37)) [37,30],
dF (gD 39 30 true (.load none 38)) [38,30],
dF (gD 40 30 true (.bin .leq 32 39)) [32,39,30],
dF (uO 41 (.pick 30 40 cF)) [30,40],
dF (mV 27 41) [41]] [1,4,15,16,17,27])
(.cond 27 (.seq (rg [mV 2 (cI 7)] [2])
.ret)
.skip)))))
(.seq (rg [lD 42 (some 2) 4,
cL 43 f_q00k [42],
mV 5 43] [1,5,15,16,17])
(.seq (rg [mV 44 5,
bN 45 .neq 44 (cI 0)] [1,5,15,16,17,45])
(.cond 45 (.seq (rg [mV 46 5,
mV 2 46] [2])
.ret)
.skip))))))
(rg [bN 47 .add 17 (cI 1),
mV 17 47] [1,15,16,17]))))
def p_q00d_k2 : ACode:=.pr [1,7,59,60,61] (.seq (rg [bN 62 .lss 61 60] [1,7,59,60,61,62])
(.seq (.cond 62 .skip
(.exit 3))
(.seq (.block 4 (.seq (rg [mV 63 61,
iA 64 (some 2) 59 61,
lD 65 (some 2) 64,
uO 9 (.alloc [.p (.str []),.p (.int .i64 0)]),
mV 8 63,
wO (.store (some 2) 9 65)] [1,7,8,9,59,60,61])
(.block 5 (.seq (rg [mV 67 7,
fA 68 0 none 9,
lD 69 none 68,
cL 70 f_q05r [67,69],
uO 71 (.un .not 70),
mV 66 71] [1,7,8,9,59,60,61,66])
(.cond 66 (.seq (rg [mV 2 (cI 8)] [2])
.ret)
(.seq (rg [fA 73 1 none 9,
lD 74 none 73,
cL 75 f_q00a [74,(cI 0),(cI 1)],
mV 72 75] [1,7,8,9,59,60,61,72])
(.cond 72 (.seq (rg [mV 2 (cI 1)] [2])
.ret)
(.seq (dr [dF (mV 77 8) [8],
dF (bN 78 .gtr 77 (cI 0)) [77],
dF (mV 79 78) [78],
dF (gD 80 79 true (.faddr 0 none 9)) [9,79],
dF (gD 81 79 true (.load none 80)) [80,79],
dF (gD 82 79 true (.faddr 2 none 1)) [1,79],
dF (gD 83 79 true (.load none 82)) [82,79],
dF (gD 84 79 true (.mv 8)) [8,79],
dF (gD 85 79 true (.bin .sub 84 (cI 1))) [84,79],
dF (gD 86 79 true (.iaddr (some 2) 83 85)) [83,85,79],
dF (gD 87 79 true (.faddr 0 none 86)) [86,79],
dF (gD 88 79 true (.load none 87)) [87,79],
dF (gD 89 79 true (.bin .leq 81 88)) [81,88,79],
dF (uO 90 (.pick 79 89 cF)) [79,89],
dF (mV 76 90) [90]] [1,7,59,60,61,76])
(.cond 76 (.seq (rg [mV 2 (cI 7)] [2])
.ret)
.skip)))))))))
(rg [bN 91 .add 61 (cI 1),
mV 61 91] [1,7,59,60,61]))))
def p_q00d_k3 : ACode:=.pr [] (.seq (rg [mV 2 (cI 0)] [2])
.ret)
def P_q00d_k4 (q2 q3 : ACode) : ACode:=.pr [1] (.seq (.seq (rg [lD 48 (some 3) 1,
cL 49 f_q00p [48],
mV 6 49] [1,6])
(.seq (rg [mV 50 6,
bN 51 .neq 50 (cI 0)] [1,6,51])
(.cond 51 (.seq (rg [mV 52 6,
mV 2 52] [2])
.ret)
.skip)))
(.seq (rg [lD 53 (some 3) 1,
cL 54 f_q00r [53],
mV 7 54] [1,7])
(.seq (.seq (rg [mV 55 7,
lN 56 55,
bN 57 .gtr 56 (cI 100)] [1,7,57])
(.cond 57 (.seq (rg [mV 2 (cI 2)] [2])
.ret)
.skip))
(.seq (.seq (rg [fA 58 2 none 1,
lD 59 none 58,
lN 60 59,
mV 61 (cI 0)] [1,7,59,60,61])
(.block 3 (.loop (.scope q2))))
q3))))
def p_q00d_k4 : ACode:=P_q00d_k4 p_q00d_k2 p_q00d_k3
def P_q00d (q1 q4 : ACode) : ACode:=(.seq (rg [uO 1 (.box 0),
mV 2 (cI 0)] [1])
(.seq (.seq (rg [fA 10 0 none 1,
lD 11 none 10,
lN 12 11,
bN 13 .gtr 12 (cI 40)] [1,13])
(.cond 13 (.seq (rg [mV 2 (cI 2)] [2])
.ret)
.skip))
(.seq (.seq (rg [fA 14 0 none 1,
lD 15 none 14,
lN 16 15,
mV 17 (cI 0)] [1,15,16,17])
(.block 0 (.loop (.scope q1))))
q4)))
def a_q00d : AFun:=⟨1,[.t 2],P_q00d p_q00d_k1 p_q00d_k4,false,false⟩
def p_q00g_k1 : ACode:=.pr [7,8,21,22,23] (.seq (rg [bN 24 .lss 23 22] [7,8,21,22,23,24])
(.seq (.cond 24 .skip
(.exit 0))
(.seq (.block 1 (.seq (rg [iA 25 none 21 23,
lD 26 none 25,
mV 10 26] [7,8,10,21,22,23])
(rg [mV 27 8,
mV 28 7,
mV 29 10,
uO 30 (.look (none,[2]) false (AI 0) 28 29),
uO 31 (.bsl false none 1 (.int .i64 0) [(0,30)]),
uO 32 (.app none 27 31),
mV 8 32] [7,8,21,22,23])))
(rg [bN 33 .add 23 (cI 1),
mV 23 33] [7,8,21,22,23]))))
def p_q00g_k2 : ACode:=.pr [8] (.seq (rg [mV 34 8,
mV 4 34,
mV 5 (cI 0)] [4,5])
.ret)
def P_q00g (q1 q2 : ACode) : ACode:=(.seq (rg [uO 2 (.box 0),
mV 4 (.c (.p (.sl none []))),
mV 5 (cI 0)] [1,2])
(.seq (.seq (rg [lD 11 (some 3) 2,
mV 12 1,
cL 13 f_q00c [11,12],
mV 6 13] [1,2,6])
(.seq (rg [mV 14 6,
bN 15 .neq 14 (cI 0)] [1,2,6,15])
(.cond 15 (.seq (rg [mV 16 6,
mV 4 (.c (.p (.sl none []))),
mV 5 16] [4,5])
.ret)
.skip)))
(.seq (rg [lD 17 (some 3) 2,
mV 18 1,
cL 19 f_q00q [17,18],
mV 7 19] [2,7])
(.seq (rg [uO 8 (.new0 none)] [2,7,8])
(.seq (.seq (rg [lD 20 (some 3) 2,
cL 21 f_q00r [20],
lN 22 21,
mV 23 (cI 0)] [7,8,21,22,23])
(.block 0 (.loop (.scope q1))))
q2)))))
def a_q00g : AFun:=⟨2,[.t 4,.t 5],P_q00g p_q00g_k1 p_q00g_k2,false,false⟩
def P_q00h : ACode:=(.seq (rg [uO 2 (.box 0),
uO 3 (.box 1),
mV 4 (cI 0)] [2,3])
(.seq (dr [dF (fA 5 0 none 2) [2],
dF (lD 6 none 5) [5],
dF (fA 7 0 none 3) [3],
dF (lD 8 none 7) [7],
dT (cL 9 f_q083 [6,8]) [6,8],
dF (fA 10 1 none 2) [2],
dA (lD 11 none 10) [10] false [4] [],
dF (fA 12 1 none 3) [3],
dA (lD 13 none 12) [12] false [4] [],
dT (cL 14 f_q083 [11,13]) [11,13],
dF (fA 15 2 none 2) [2],
dA (lD 16 none 15) [15] false [4,9] [],
dF (fA 17 2 none 3) [3],
dA (lD 18 none 17) [17] false [4,9] [],
dT (cL 19 f_q083 [16,18]) [16,18],
dF (uO 20 (.bsl false none 3 (.int .i64 0) [(0,9),(1,14),(2,19)])) [9,14,19],
dT (cL 21 f_q00y [20]) [20],
dF (mV 4 21) [21]] [4])
.ret))
def a_q00h : AFun:=⟨2,[.t 4],P_q00h,false,false⟩
def P_q00i : ACode:=(.seq (rg [uO 2 (.box 0),
uO 3 (.box 1),
mV 4 (cI 0)] [2,3])
(.seq (.block 0 (.seq (rg [fA 6 0 none 3,
lD 7 none 6,
cL 8 f_q00a [7,(cI 1),(cI 4)],
mV 5 8] [2,3,5])
(.cond 5 (.seq (rg [mV 4 (cI 4)] [4])
.ret)
(.seq (rg [lD 10 (some 4) 3,
cL 11 f_q00o [10],
mV 12 11,
gD 13 12 true (.faddr 1 none 3),
gD 14 12 true (.load none 13),
gD 15 12 true (.call f_q005 [14]),
gD 16 12 true (.un .not 15),
uO 17 (.pick 12 16 cF),
mV 9 17] [2,3,9])
(.cond 9 (.seq (rg [mV 4 (cI 5)] [4])
.ret)
(.seq (rg [lD 19 (some 4) 3,
cL 20 f_q00o [19],
uO 21 (.un .not 20),
mV 22 21,
gD 23 22 true (.faddr 1 none 3),
gD 24 22 true (.load none 23),
gD 25 22 true (.bin .neq 24 (cS [])),
uO 26 (.pick 22 25 cF),
mV 18 26] [2,3,18])
(.cond 18 (.seq (rg [mV 4 (cI 3)] [4])
.ret)
.skip)))))))
(.seq (.seq (rg [fA 27 0 none 3,
lD 28 none 27,
bN 29 .neq 28 (cI 2)] [2,3,29])
(.cond 29 (.seq (.seq (rg [fA 30 2 none 3,
lD 31 none 30,
bN 32 .neq 31 (cI (-1)),
mV 33 32,
gD 34 33 false (.faddr 3 none 3),
gD 35 33 false (.load none 34),
gD 36 33 false (.bin .neq 35 (cI 0)),
uO 37 (.pick 33 cT 36)] [37])
(.cond 37 (.seq (rg [mV 4 (cI 3)] [4])
.ret)
.skip))
(.seq (rg [mV 4 (cI 0)] [4])
.ret))
.skip))
(.seq (.block 1 (.seq (rg [fA 39 2 none 3,
lD 40 none 39,
bN 41 .neq 40 (cI (-1)),
mV 42 41,
gD 43 42 true (.faddr 2 none 3),
gD 44 42 true (.load none 43),
gD 45 42 true (.faddr 1 none 2),
gD 46 42 true (.load none 45),
gD 47 42 true (.len 46),
gD 48 42 true (.bin .sub 47 (cI 1)),
gD 49 42 true (.call f_q00a [44,(cI 0),48]),
gD 50 42 true (.mv 49),
gD 51 50 false (.faddr 1 none 2),
gD 52 50 false (.load none 51),
gD 53 50 false (.faddr 2 none 3),
gD 54 50 false (.load none 53),
gD 55 50 false (.iaddr (some 4) 52 54),
gD 56 50 false (.faddr 0 none 55),
gD 57 50 false (.load none 56),
gD 58 50 false (.bin .neq 57 (cI 3)),
gD 59 42 true (.pick 50 cT 58),
uO 60 (.pick 42 59 cF),
mV 38 60] [3,38])
(.cond 38 (.seq (rg [mV 4 (cI 8)] [4])
.ret)
(.seq (rg [fA 62 3 none 3,
lD 63 none 62,
cL 64 f_q00a [63,(cI 0),(cI 1)],
mV 65 64,
gD 66 65 false (.faddr 2 none 3),
gD 67 65 false (.load none 66),
gD 68 65 false (.bin .eql 67 (cI (-1))),
gD 69 65 false (.mv 68),
gD 70 69 true (.faddr 3 none 3),
gD 71 69 true (.load none 70),
gD 72 69 true (.bin .neq 71 (cI 0)),
gD 73 65 false (.pick 69 72 cF),
uO 74 (.pick 65 cT 73),
mV 61 74] [61])
(.cond 61 (.seq (rg [mV 4 (cI 1)] [4])
.ret)
.skip)))))
(.seq (rg [mV 4 (cI 0)] [4])
.ret)))))
def a_q00i : AFun:=⟨2,[.t 4],P_q00i,false,false⟩
def p_q00j_k1 : ACode:=.pr [1,5,6,7,8,17,18,19,25,26,27] (rg [bN 57 .add 27 (cI 1),
mV 27 57] [1,5,6,7,8,17,18,19,25,26,27])
def P_q00j_k2 (q1 : ACode) : ACode:=.pr [1,5,6,7,8,17,18,19,25,26,27] (.seq (rg [bN 28 .lss 27 26] [1,5,6,7,8,17,18,19,25,26,27,28])
(.seq (.cond 28 .skip
(.exit 2))
(.seq (.block 3 (.seq (rg [mV 29 27,
iA 30 (some 4) 25 27,
lD 31 (some 4) 30,
uO 10 (.alloc [.p (.int .i64 0),.p (.str []),.p (.int .i64 0),.p (.int .i64 0)]),
mV 9 29,
wO (.store (some 4) 10 31)] [1,5,6,7,8,9,10,17,18,19,25,26,27])
(.seq (.seq (rg [fA 32 0 none 10,
lD 33 none 32,
mV 34 1,
bN 35 .neq 33 34] [1,5,6,7,8,9,10,17,18,19,25,26,27,35])
(.cond 35 (.exit 3)
.skip))
(.seq (rg [mV 37 5,
fA 38 0 none 8,
lD 39 none 38,
fA 40 1 none 10,
lD 41 none 40,
uO 42 (.build [.p (.str []),.p (.str [])] [(0,1,39),(1,1,41)]),
uO 43 (.look ((some 2),[2,2]) true (.p (.str [])) 37 42),
mV 36 43,
eX 44 36 0,
eX 45 36 1,
mV 11 44,
mV 12 45] [1,5,6,7,8,9,11,12,17,18,19,25,26,27])
(.seq (rg [mV 46 12] [1,5,6,7,8,9,11,17,18,19,25,26,27,46])
(.cond 46 (rg [mV 47 6,
mV 48 11,
mV 49 6,
mV 50 11,
uO 51 (.look (none,[2]) false (.sl0 (some 2)) 49 50),
mV 52 7,
mV 53 9,
uO 54 (.build [.p (.int .i64 0),.p (.int .i64 0)] [(0,1,52),(1,1,53)]),
uO 55 (.bsl false (some 2) 1 (.agg [.int .i64 0,.int .i64 0]) [(0,54)]),
uO 56 (.app (some 2) 51 55),
wO (.mupd (none,[2]) 47 48 56)] [1,5,6,7,8,17,18,19,25,26,27])
.skip))))))
q1)))
def p_q00j_k2 : ACode:=P_q00j_k2 p_q00j_k1
def p_q00j_k3 : ACode:=.pr [1,5,6,17,18,19] (rg [bN 58 .add 19 (cI 1),
mV 19 58] [1,5,6,17,18,19])
def P_q00j_k4 (q2 q3 : ACode) : ACode:=.pr [1,5,6,17,18,19] (.seq (rg [bN 20 .lss 19 18] [1,5,6,17,18,19,20])
(.seq (.cond 20 .skip
(.exit 0))
(.seq (.block 1 (.seq (rg [mV 21 19,
iA 22 (some 2) 17 19,
lD 23 (some 2) 22,
uO 8 (.alloc [.p (.str []),.sl0 (some 4)]),
mV 7 21,
wO (.store (some 2) 8 23)] [1,5,6,7,8,17,18,19])
(.seq (rg [fA 24 1 none 8,
lD 25 none 24,
lN 26 25,
mV 27 (cI 0)] [1,5,6,7,8,17,18,19,25,26,27])
(.block 2 (.loop (.scope q2))))))
q3)))
def p_q00j_k4 : ACode:=P_q00j_k4 p_q00j_k2 p_q00j_k3
def p_q00j_k5 : ACode:=.pr [6] (.seq (rg [mV 59 6,
mV 4 59] [4])
.ret)
def P_q00j (q4 q5 : ACode) : ACode:=(.seq (rg [uO 2 (.box 0),
mV 4 (.c (.nilm))] [1,2])
(.seq (rg [lD 13 (some 3) 2,
cL 14 f_q00s [13],
mV 5 14] [1,2,5])
(.seq (rg [uO 15 (.mkmap),
mV 6 15] [1,2,5,6])
(.seq (.seq (rg [fA 16 0 none 2,
lD 17 none 16,
lN 18 17,
mV 19 (cI 0)] [1,5,6,17,18,19])
(.block 0 (.loop (.scope q4))))
q5))))
def a_q00j : AFun:=⟨2,[.t 4],P_q00j p_q00j_k4 p_q00j_k5,false,false⟩
def p_q00k_k1 : ACode:=.pr [1,13,14,15] (.seq (rg [bN 16 .lss 15 14] [1,13,14,15,16])
(.seq (.cond 16 .skip
(.exit 0))
(.seq (.block 1 (.seq (rg [iA 17 (some 4) 13 15,
lD 18 (some 4) 17,
uO 4 (.alloc [.p (.int .i64 0),.p (.str []),.p (.int .i64 0),.p (.int .i64 0)]),
wO (.store (some 4) 4 18)] [1,4,13,14,15])
(.seq (rg [lD 19 (some 2) 1,
lD 20 (some 4) 4,
cL 21 f_q00i [19,20],
mV 5 21] [1,5,13,14,15])
(.seq (rg [mV 22 5,
bN 23 .neq 22 (cI 0)] [1,5,13,14,15,23])
(.cond 23 (.seq (rg [mV 24 5,
mV 2 24] [2])
.ret)
.skip)))))
(rg [bN 25 .add 15 (cI 1),
mV 15 25] [1,13,14,15]))))
def p_q00k_k2 : ACode:=.pr [1,27,28,29] (.seq (rg [bN 30 .lss 29 28] [1,27,28,29,30])
(.seq (.cond 30 .skip
(.exit 2))
(.seq (.block 3 (.seq (rg [mV 31 29,
iA 32 (some 4) 27 29,
lD 33 (some 4) 32,
uO 7 (.alloc [.p (.int .i64 0),.p (.str []),.p (.int .i64 0),.p (.int .i64 0)]),
mV 6 31,
wO (.store (some 4) 7 33)] [1,6,7,27,28,29])
(.seq (rg [lD 34 (some 4) 7,
cL 35 f_q00o [34],
mV 36 35,
gD 37 36 true (.faddr 1 none 1),
gD 38 36 true (.load none 37),
gD 39 36 true (.mv 6),
gD 40 36 true (.slice (some 4) 38 none (some 39) none),
gD 41 36 true (.mkfn f_q00l [7]),
gD 42 36 true (.call f_q05m [40,41]),
uO 43 (.pick 36 42 cF)] [1,27,28,29,43])
(.cond 43 (.seq (rg [mV 2 (cI 6)] [2])
.ret)
.skip))))
(rg [bN 44 .add 29 (cI 1),
mV 29 44] [1,27,28,29]))))
def p_q00k_k3 : ACode:=.pr [] (.seq (rg [mV 2 (cI 0)] [2])
.ret)
def P_q00k_k4 (q2 q3 : ACode) : ACode:=.pr [1] (.seq (.seq (rg [fA 26 1 none 1,
lD 27 none 26,
lN 28 27,
mV 29 (cI 0)] [1,27,28,29])
(.block 2 (.loop (.scope q2))))
q3)
def p_q00k_k4 : ACode:=P_q00k_k4 p_q00k_k2 p_q00k_k3
def P_q00k (q1 q4 : ACode) : ACode:=(.seq (rg [uO 1 (.box 0),
mV 2 (cI 0)] [1])
(.seq (.seq (rg [fA 8 1 none 1,
lD 9 none 8,
lN 10 9,
bN 11 .gtr 10 (cI 200)] [1,11])
(.cond 11 (.seq (rg [mV 2 (cI 2)] [2])
.ret)
.skip))
(.seq (.seq (rg [fA 12 1 none 1,
lD 13 none 12,
lN 14 13,
mV 15 (cI 0)] [1,13,14,15])
(.block 0 (.loop (.scope q1))))
q4)))
def a_q00k : AFun:=⟨1,[.t 2],P_q00k p_q00k_k1 p_q00k_k4,false,false⟩
def P_q00l : ACode:=(.seq (rg [uO 2 (.box 0),
mV 3 cF] [1,2])
(.seq (rg [fA 4 0 none 2,
lD 5 none 4,
fA 6 0 none 1,
lD 7 none 6,
bN 8 .eql 5 7,
mV 9 8,
gD 10 9 true (.faddr 1 none 2),
gD 11 9 true (.load none 10),
gD 12 9 true (.faddr 1 none 1),
gD 13 9 true (.load none 12),
gD 14 9 true (.bin .eql 11 13),
uO 15 (.pick 9 14 cF),
mV 3 15] [3])
.ret))
def a_q00l : AFun:=⟨2,[.t 3],P_q00l,false,false⟩
def P_q00m : ACode:=(.seq (rg [uO 2 (.box 0),
mV 4 (cI 0)] [1,2])
(.seq (rg [fA 8 0 none 2,
lD 9 none 8,
mV 10 1,
cL 11 f_q05c [9,10,(.f f_q00n)],
mV 7 11,
eX 12 7 0,
eX 13 7 1,
mV 5 12,
mV 6 13] [5,6])
(.seq (.seq (rg [mV 14 6,
uO 15 (.un .not 14)] [5,15])
(.cond 15 (.seq (rg [mV 4 (cI (-1))] [4])
.ret)
.skip))
(.seq (rg [mV 16 5,
mV 4 16] [4])
.ret))))
def a_q00m : AFun:=⟨2,[.t 4],P_q00m,false,false⟩
def P_q00n : ACode:=(.seq (rg [uO 2 (.box 0),
mV 4 (cI 0)] [1,2])
(.seq (rg [fA 5 0 none 2,
lD 6 none 5,
mV 7 1,
cL 8 f_q083 [6,7],
mV 4 8] [4])
.ret))
def a_q00n : AFun:=⟨2,[.t 4],P_q00n,false,false⟩
def P_q00o : ACode:=(.seq (rg [uO 1 (.box 0),
mV 2 cF] [1])
(.seq (rg [fA 3 0 none 1,
lD 4 none 3,
bN 5 .eql 4 (cI 1),
mV 6 5,
gD 7 6 false (.faddr 0 none 1),
gD 8 6 false (.load none 7),
gD 9 6 false (.bin .eql 8 (cI 2)),
uO 10 (.pick 6 cT 9),
mV 2 10] [2])
.ret))
def a_q00o : AFun:=⟨1,[.t 2],P_q00o,false,false⟩
def p_q00p_k1 : ACode:=.pr [1,14,15,16] (.seq (rg [bN 17 .lss 16 15] [1,14,15,16,17])
(.seq (.cond 17 .skip
(.exit 0))
(.seq (.block 1 (.seq (rg [mV 18 16,
iA 19 (some 3) 14 16,
lD 20 (some 3) 19,
uO 4 (.alloc [.p (.str []),.p (.str []),.p (.str [])]),
mV 3 18,
wO (.store (some 3) 4 20)] [1,3,4,14,15,16])
(.block 2 (.seq (rg [fA 22 0 none 4,
lD 23 none 22,
cL 24 f_q005 [23],
uO 25 (.un .not 24),
mV 21 25] [1,3,4,14,15,16,21])
(.cond 21 (.seq (rg [mV 2 (cI 5)] [2])
.ret)
(.seq (rg [lD 27 (some 3) 1,
fA 28 1 none 4,
lD 29 none 28,
fA 30 2 none 4,
lD 31 none 30,
cL 32 f_q00t [27,29,31],
uO 33 (.un .not 32),
mV 26 33] [1,3,4,14,15,16,26])
(.cond 26 (.seq (rg [mV 2 (cI 8)] [2])
.ret)
(.seq (dr [dF (mV 35 3) [3],
dF (bN 36 .gtr 35 (cI 0)) [35],
dF (mV 37 36) [36],
dF (gD 38 37 true (.load (some 3) 4)) [4,37],
dF (gD 39 37 true (.faddr 1 none 1)) [1,37],
dF (gD 40 37 true (.load none 39)) [39,37],
dF (gD 41 37 true (.mv 3)) [3,37],
dF (gD 42 37 true (.bin .sub 41 (cI 1))) [41,37],
dF (gD 43 37 true (.iaddr (some 3) 40 42)) [40,42,37],
dF (gD 44 37 true (.load (some 3) 43)) [43,37],
dT (gD 45 37 true (.call f_q00h [38,44])) [38,44,37],
dF (gD 46 37 true (.bin .leq 45 (cI 0))) [45,37],
dF (uO 47 (.pick 37 46 cF)) [37,46],
dF (mV 34 47) [47]] [1,14,15,16,34])
(.cond 34 (.seq (rg [mV 2 (cI 7)] [2])
.ret)
.skip)))))))))
(rg [bN 48 .add 16 (cI 1),
mV 16 48] [1,14,15,16]))))
def p_q00p_k2 : ACode:=.pr [5,51,52,53] (.seq (rg [bN 54 .lss 53 52] [5,51,52,53,54])
(.seq (.cond 54 .skip
(.exit 3))
(.seq (.block 4 (.seq (rg [iA 55 (some 3) 51 53,
lD 56 (some 3) 55,
uO 7 (.alloc [.p (.str []),.p (.str []),.p (.str [])]),
wO (.store (some 3) 7 56)] [5,7,51,52,53])
(.seq (rg [fA 57 1 none 7,
lD 58 none 57,
fA 59 2 none 7,
lD 60 none 59,
uO 61 (.build [.p (.str []),.p (.str [])] [(0,1,58),(1,1,60)]),
uO 8 (.alloc [.p (.str []),.p (.str [])]),
wO (.store (some 2) 8 61)] [5,8,51,52,53])
(.seq (.seq (rg [mV 62 5,
lD 63 (some 2) 8,
uO 64 (.look ((some 2),[2,2]) false (AB false) 62 63)] [5,8,51,52,53,64])
(.cond 64 (.seq (rg [mV 2 (cI 6)] [2])
.ret)
.skip))
(rg [mV 65 5,
lD 66 (some 2) 8,
wO (.mupd ((some 2),[2,2]) 65 66 cT)] [5,51,52,53])))))
(rg [bN 67 .add 53 (cI 1),
mV 53 67] [5,51,52,53]))))
def p_q00p_k3 : ACode:=.pr [] (.seq (rg [mV 2 (cI 0)] [2])
.ret)
def P_q00p_k4 (q2 q3 : ACode) : ACode:=.pr [1] (.seq (rg [uO 49 (.mkmap),
mV 5 49] [1,5])
(.seq (.seq (rg [fA 50 1 none 1,
lD 51 none 50,
lN 52 51,
mV 53 (cI 0)] [5,51,52,53])
(.block 3 (.loop (.scope q2))))
q3))
def p_q00p_k4 : ACode:=P_q00p_k4 p_q00p_k2 p_q00p_k3
def P_q00p (q1 q4 : ACode) : ACode:=(.seq (rg [uO 1 (.box 0),
mV 2 (cI 0)] [1])
(.seq (.seq (rg [fA 9 1 none 1,
lD 10 none 9,
lN 11 10,
bN 12 .gtr 11 (cI 1000)] [1,12])
(.cond 12 (.seq (rg [mV 2 (cI 2)] [2])
.ret)
.skip))
(.seq (.seq (rg [fA 13 1 none 1,
lD 14 none 13,
lN 15 14,
mV 16 (cI 0)] [1,14,15,16])
(.block 0 (.loop (.scope q1))))
q4)))
def a_q00p : AFun:=⟨1,[.t 2],P_q00p p_q00p_k1 p_q00p_k4,false,false⟩
def p_q00q_k1 : ACode:=.pr [1,2,5,20,21,22] (.seq (rg [bN 23 .lss 22 21] [1,2,5,20,21,22,23])
(.seq (.cond 23 .skip
(.exit 0))
(.seq (.block 1 (.seq (rg [iA 24 none 20 22,
lD 25 none 24,
mV 7 25] [1,2,5,7,20,21,22])
(rg [mV 26 5,
mV 27 7,
wO (.mupd (none,[2]) 26 27 (cI 2))] [1,2,5,20,21,22])))
(rg [bN 28 .add 22 (cI 1),
mV 22 28] [1,2,5,20,21,22]))))
def p_q00q_k2 : ACode:=.pr [1,2,5,30,31,32] (.seq (rg [bN 33 .lss 32 31] [1,2,5,30,31,32,33])
(.seq (.cond 33 .skip
(.exit 2))
(.seq (.block 3 (.seq (rg [iA 34 (some 2) 30 32,
lD 35 (some 2) 34,
uO 9 (.alloc [.p (.str []),.p (.int .i64 0)]),
wO (.store (some 2) 9 35)] [1,2,5,9,30,31,32])
(rg [mV 36 5,
fA 37 0 none 9,
lD 38 none 37,
fA 39 1 none 9,
lD 40 none 39,
wO (.mupd (none,[2]) 36 38 40)] [1,2,5,30,31,32])))
(rg [bN 41 .add 32 (cI 1),
mV 32 41] [1,2,5,30,31,32]))))
def p_q00q_k3 : ACode:=.pr [1,2,5,10,17,44,50,51,52] (rg [mV 100 5,
mV 101 10,
mV 102 17,
wO (.mupd (none,[2]) 100 101 102),
mV 12 cT] [1,2,5,10,12,44,50,51,52])
def p_q00q_k4 : ACode:=.pr [1,2,5,10,12,44,50,51,52] (rg [bN 103 .add 52 (cI 1),
mV 52 103] [1,2,5,10,12,44,50,51,52])
def P_q00q_k5 (q3 q4 : ACode) : ACode:=.pr [1,2,5,10,12,44,50,51,52] (.seq (rg [bN 53 .lss 52 51] [1,2,5,10,12,44,50,51,52,53])
(.seq (.cond 53 .skip
(.exit 6))
(.seq (.block 7 (.seq (rg [iA 54 (some 2) 50 52,
lD 55 (some 2) 54,
uO 14 (.alloc [.p (.int .i64 0),.p (.int .i64 0)]),
wO (.store (some 2) 14 55)] [1,2,5,10,12,14,44,50,51,52])
(.seq (dr [dF (fA 56 0 none 2) [2],
dF (lD 57 none 56) [56],
dF (fA 58 0 none 14) [14],
dF (lD 59 none 58) [58],
dF (iA 60 (some 2) 57 59) [57,59],
dF (fA 61 1 none 60) [60],
dF (lD 62 none 61) [61],
dF (fA 63 1 none 14) [14],
dF (lD 64 none 63) [63],
dF (iA 65 (some 4) 62 64) [62,64],
dF (lD 66 (some 4) 65) [65],
dF (mV 67 1) [1],
dF (fA 68 0 none 14) [14],
dF (lD 69 none 68) [68],
dF (iA 70 none 67 69) [67,69],
dF (lD 71 none 70) [70],
dA (uO 15 (.alloc [.p (.int .i64 0),.p (.str []),.p (.int .i64 0),.p (.int .i64 0)])) [] true [] [1,3,4,6,8,9,10,13,14,15],
dA (wO (.store (some 4) 15 66)) [15,66] true [] [13,14,15],
dF (mV 16 71) [71]] [1,2,5,10,12,14,15,16,44,50,51,52])
(.seq (.seq (dr [dF (fA 72 2 none 15) [15],
dF (lD 73 none 72) [72],
dF (bN 74 .geq 73 (cI 0)) [73],
dF (mV 75 74) [74],
dF (gD 76 75 true (.mv 16)) [16,75],
dF (gD 77 75 true (.faddr 2 none 15)) [15,75],
dF (gD 78 75 true (.load none 77)) [77,75],
dF (gD 79 75 true (.idxs 76 78)) [76,78,75],
dF (gD 80 75 true (.bin .sub 79 (.c (.p (.int .u8 48))))) [79,75],
dF (gD 81 75 true (.conv (.i .i64) 80)) [80,75],
dF (gD 82 75 true (.faddr 3 none 15)) [15,75],
dF (gD 83 75 true (.load none 82)) [82,75],
dF (gD 84 75 true (.bin .eql 81 83)) [81,83,75],
dF (uO 85 (.pick 75 84 cF)) [75,84]] [1,2,5,10,12,14,16,44,50,51,52,85])
(.cond 85 (.exit 7)
.skip))
(.seq (rg [mV 86 16,
fA 87 1 none 14,
lD 88 none 87,
uO 89 (.idxs 86 88),
bN 90 .sub 89 (.c (.p (.int .u8 48))),
uO 91 (.conv (.i .i64) 90),
mV 17 91] [1,2,5,10,12,17,44,50,51,52])
(.seq (.seq (rg [mV 92 12,
mV 93 92,
gD 94 93 true (.mv 5),
gD 95 93 true (.mv 10),
gD 96 93 true (.look (none,[2]) false (AI 0) 94 95),
gD 97 93 true (.mv 17),
gD 98 93 true (.bin .neq 96 97),
uO 99 (.pick 93 98 cF)] [1,2,5,10,17,44,50,51,52,99])
(.cond 99 (rg [mV 17 (cI 3)] [1,2,5,10,17,44,50,51,52])
.skip))
q3))))))
q4)))
def p_q00q_k5 : ACode:=P_q00q_k5 p_q00q_k3 p_q00q_k4
def P_q00q_k6 (q5 : ACode) : ACode:=.pr [1,2,5,44] (.seq (rg [uO 45 (.mnext none [44]),
eX 46 45 0] [1,2,5,44,46])
(.seq (.cond 46 .skip
(.exit 4))
(.block 5 (.seq (rg [uO 47 (.mentry 44),
eX 48 47 0,
eX 49 47 1,
mV 10 48,
mV 11 49] [1,2,5,10,11,44])
(.seq (rg [mV 12 cF] [1,2,5,10,11,12,44])
(.seq (rg [mV 50 11,
lN 51 50,
mV 52 (cI 0)] [1,2,5,10,12,44,50,51,52])
(.block 6 (.loop (.scope q5)))))))))
def p_q00q_k6 : ACode:=P_q00q_k6 p_q00q_k5
def p_q00q_k7 : ACode:=.pr [5] (.seq (rg [mV 104 5,
mV 4 104] [4])
.ret)
def P_q00q_k8 (q6 q7 : ACode) : ACode:=.pr [1,2,5] (.seq (.seq (rg [lD 42 (some 3) 2,
cL 43 f_q00j [42,(cI 2)],
uO 44 (.mrange 43)] [1,2,5,44])
(.block 4 (.loop (.scope q6))))
q7)
def p_q00q_k8 : ACode:=P_q00q_k8 p_q00q_k6 p_q00q_k7
def P_q00q_k9 (q2 q8 : ACode) : ACode:=.pr [1,2,5] (.seq (.seq (rg [fA 29 2 none 2,
lD 30 none 29,
lN 31 30,
mV 32 (cI 0)] [1,2,5,30,31,32])
(.block 2 (.loop (.scope q2))))
q8)
def p_q00q_k9 : ACode:=P_q00q_k9 p_q00q_k2 p_q00q_k8
def P_q00q (q1 q9 : ACode) : ACode:=(.det (.seq (rg [uO 2 (.box 0),
mV 4 (.c (.nilm))] [1,2])
(.seq (rg [uO 18 (.mkmap),
mV 5 18] [1,2,5])
(.seq (.seq (rg [lD 19 (some 3) 2,
cL 20 f_q00r [19],
lN 21 20,
mV 22 (cI 0)] [1,2,5,20,21,22])
(.block 0 (.loop q1)))
q9))))
def a_q00q : AFun:=⟨2,[.t 4],P_q00q p_q00q_k1 p_q00q_k9,false,false⟩
def p_q00r_k1 : ACode:=.pr [3,7,8,9] (.seq (rg [bN 10 .lss 9 8] [3,7,8,9,10])
(.seq (.cond 10 .skip
(.exit 0))
(.seq (.block 1 (.seq (rg [iA 11 (some 3) 7 9,
lD 12 (some 3) 11,
uO 5 (.alloc [.p (.str []),.p (.str []),.p (.str [])]),
wO (.store (some 3) 5 12)] [3,5,7,8,9])
(rg [mV 13 3,
fA 14 0 none 5,
lD 15 none 14,
uO 16 (.bsl false none 1 (.str []) [(0,15)]),
uO 17 (.app none 13 16),
mV 3 17] [3,7,8,9])))
(rg [bN 18 .add 9 (cI 1),
mV 9 18] [3,7,8,9]))))
def p_q00r_k2 : ACode:=.pr [3] (.seq (rg [mV 19 3,
cL 20 f_q05h [19],
mV 2 20] [2])
.ret)
def P_q00r (q1 q2 : ACode) : ACode:=(.seq (rg [uO 1 (.box 0),
mV 2 (.c (.p (.sl none [])))] [1])
(.seq (rg [uO 3 (.new0 none)] [1,3])
(.seq (.seq (rg [fA 6 1 none 1,
lD 7 none 6,
lN 8 7,
mV 9 (cI 0)] [3,7,8,9])
(.block 0 (.loop (.scope q1))))
q2)))
def a_q00r : AFun:=⟨1,[.t 2],P_q00r p_q00r_k1 p_q00r_k2,false,true⟩
def p_q00s_k1 : ACode:=.pr [3,8,9,10] (.seq (rg [bN 11 .lss 10 9] [3,8,9,10,11])
(.seq (.cond 11 .skip
(.exit 0))
(.seq (.block 1 (.seq (rg [iA 12 (some 3) 8 10,
lD 13 (some 3) 12,
uO 5 (.alloc [.p (.str []),.p (.str []),.p (.str [])]),
wO (.store (some 3) 5 13)] [3,5,8,9,10])
(rg [mV 14 3,
fA 15 1 none 5,
lD 16 none 15,
fA 17 2 none 5,
lD 18 none 17,
uO 19 (.build [.p (.str []),.p (.str [])] [(0,1,16),(1,1,18)]),
fA 20 0 none 5,
lD 21 none 20,
wO (.mupd ((some 2),[2,2]) 14 19 21)] [3,8,9,10])))
(rg [bN 22 .add 10 (cI 1),
mV 10 22] [3,8,9,10]))))
def p_q00s_k2 : ACode:=.pr [3] (.seq (rg [mV 23 3,
mV 2 23] [2])
.ret)
def P_q00s (q1 q2 : ACode) : ACode:=(.seq (rg [uO 1 (.box 0),
mV 2 (.c (.nilm))] [1])
(.seq (rg [uO 6 (.mkmap),
mV 3 6] [1,3])
(.seq (.seq (rg [fA 7 1 none 1,
lD 8 none 7,
lN 9 8,
mV 10 (cI 0)] [3,8,9,10])
(.block 0 (.loop (.scope q1))))
q2)))
def a_q00s : AFun:=⟨1,[.t 2],P_q00s p_q00s_k1 p_q00s_k2,false,false⟩
def P_q00t : ACode:=(.seq (rg [uO 3 (.box 0),
uO 5 (.box 2),
mV 6 cF] [1,3,5])
(.seq (rg [lD 8 (some 3) 3,
mV 9 1,
cL 10 f_q00m [8,9],
mV 7 10] [3,5,7])
(.seq (rg [mV 11 7,
bN 12 .geq 11 (cI 0),
mV 13 12,
gD 14 13 true (.faddr 0 none 3),
gD 15 13 true (.load none 14),
gD 16 13 true (.mv 7),
gD 17 13 true (.iaddr (some 2) 15 16),
gD 18 13 true (.faddr 1 none 17),
gD 19 13 true (.load none 18),
gD 20 13 true (.mkfn f_q00u [5]),
gD 21 13 true (.call f_q05m [19,20]),
uO 22 (.pick 13 21 cF),
mV 6 22] [6])
.ret)))
def a_q00t : AFun:=⟨3,[.t 6],P_q00t,false,false⟩
def P_q00u : ACode:=(.seq (rg [uO 2 (.box 0),
mV 3 cF] [1,2])
(.seq (rg [lD 4 (some 4) 2,
cL 5 f_q00o [4],
mV 6 5,
gD 7 6 true (.faddr 1 none 2),
gD 8 6 true (.load none 7),
gD 9 6 true (.load none 1),
gD 10 6 true (.bin .eql 8 9),
uO 11 (.pick 6 10 cF),
mV 3 11] [3])
.ret))
def a_q00u : AFun:=⟨2,[.t 3],P_q00u,false,false⟩
def P_q00v : ACode:=(.seq (rg [mV 4 (cI 0)] [0,1])
(.seq (rg [mV 7 0,
cL 8 f_q00z [7],
mV 5 8] [0,1,5])
(.seq (rg [mV 9 1,
cL 10 f_q00z [9],
mV 6 10] [0,1,5,6])
(.seq (.seq (rg [mV 11 5] [0,1,6,11])
(.cond 11 (.seq (.seq (rg [mV 12 6] [12])
(.cond 12 (.seq (rg [mV 4 (cI 0)] [4])
.ret)
.skip))
(.seq (rg [mV 4 (cI (-1))] [4])
.ret))
.skip))
(.seq (.seq (rg [mV 13 6] [0,1,13])
(.cond 13 (.seq (rg [mV 4 (cI 1)] [4])
.ret)
.skip))
(.seq (.seq (rg [mV 14 0,
mV 15 1,
bN 16 .lss 14 15] [0,1,16])
(.cond 16 (.seq (rg [mV 4 (cI (-1))] [4])
.ret)
.skip))
(.seq (.seq (rg [mV 17 0,
mV 18 1,
bN 19 .gtr 17 18] [19])
(.cond 19 (.seq (rg [mV 4 (cI 1)] [4])
.ret)
.skip))
(.seq (rg [mV 4 (cI 0)] [4])
.ret))))))))
def a_q00v : AFun:=⟨2,[.t 4],P_q00v,false,false⟩
def p_q00y_k1 : ACode:=.pr [3,6,7,8] (.seq (rg [bN 9 .lss 8 7] [3,6,7,8,9])
(.seq (.cond 9 .skip
(.exit 0))
(.seq (.block 1 (.seq (rg [iA 10 none 6 8,
lD 11 none 10,
mV 5 11] [3,5,6,7,8])
(.seq (rg [mV 12 5,
mV 13 3,
bN 14 .neq 12 13] [3,5,6,7,8,14])
(.cond 14 (.seq (rg [mV 15 5,
mV 2 15] [2])
.ret)
.skip))))
(rg [bN 16 .add 8 (cI 1),
mV 8 16] [3,6,7,8]))))
def p_q00y_k2 : ACode:=.pr [3] (.seq (rg [mV 17 3,
mV 2 17] [2])
.ret)
def P_q00y (q1 q2 : ACode) : ACode:=(.seq (rg [mV 2 (cI 0)] [0])
(.seq (rg [mV 3 (cI 0)] [0,3])
(.seq (.seq (rg [mV 6 0,
lN 7 6,
mV 8 (cI 0)] [3,6,7,8])
(.block 0 (.loop q1)))
q2)))
def a_q00y : AFun:=⟨1,[.t 2],P_q00y p_q00y_k1 p_q00y_k2,false,false⟩
def P_q00z : ACode:=(.seq (rg [mV 2 cF] [0])
(.seq (rg [mV 3 0,
mV 4 0,
bN 5 .neq 3 4,
mV 2 5] [2])
.ret))
def a_q00z : AFun:=⟨1,[.t 2],P_q00z,false,false⟩
def p_q014_k1 : ACode:=.pr [0,13,14,15] (.seq (rg [bN 16 .lss 15 14] [0,13,14,15,16])
(.seq (.cond 16 .skip
(.exit 1))
(.seq (.block 2 (.seq (rg [iA 17 none 13 15,
lD 18 none 17,
mV 4 18] [0,4,13,14,15])
(.block 3 (.seq (rg [mV 20 4,
cL 21 f_q000 [20],
uO 22 (.un .not 21),
mV 19 22] [0,4,13,14,15,19])
(.cond 19 (.seq (rg [mV 2 (cI 3)] [2])
.ret)
(.seq (rg [mV 24 4,
uO 25 (.lens 24),
bN 26 .gtr 25 (cI 64),
mV 23 26] [0,4,13,14,15,23])
(.cond 23 (.seq (rg [mV 2 (cI 2)] [2])
.ret)
(.seq (rg [mV 28 4,
uO 29 (.lens 28),
mV 30 0,
iA 31 none 30 (cI 0),
lD 32 none 31,
uO 33 (.lens 32),
bN 34 .neq 29 33,
mV 27 34] [0,13,14,15,27])
(.cond 27 (.seq (rg [mV 2 (cI 3)] [2])
.ret)
.skip)))))))))
(rg [bN 35 .add 15 (cI 1),
mV 15 35] [0,13,14,15]))))
def p_q014_k2 : ACode:=.pr [] (.seq (rg [mV 2 (cI 0)] [2])
.ret)
def P_q014 (q1 q2 : ACode) : ACode:=(.seq (rg [mV 2 (cI 0)] [0])
(.seq (.block 0 (.seq (rg [mV 6 0,
lN 7 6,
bN 8 .eql 7 (cI 0),
mV 5 8] [0,5])
(.cond 5 (.seq (rg [mV 2 (cI 8)] [2])
.ret)
(.seq (rg [mV 10 0,
lN 11 10,
bN 12 .gtr 11 (cI 100),
mV 9 12] [0,9])
(.cond 9 (.seq (rg [mV 2 (cI 2)] [2])
.ret)
.skip)))))
(.seq (.seq (rg [mV 13 0,
lN 14 13,
mV 15 (cI 0)] [0,13,14,15])
(.block 1 (.loop q1)))
q2)))
def a_q014 : AFun:=⟨1,[.t 2],P_q014 p_q014_k1 p_q014_k2,false,false⟩
def p_q015_k1 : ACode:=.pr [0,7,18,19,20] (.seq (rg [bN 21 .lss 20 19] [0,7,18,19,20,21])
(.seq (.cond 21 .skip
(.exit 0))
(.seq (.block 1 (.seq (rg [iA 22 (some 2) 18 20,
lD 23 (some 2) 22,
uO 9 (.alloc [.p (.int .i64 0),.sl0 none]),
wO (.store (some 2) 9 23)] [0,7,9,18,19,20])
(dr [dF (mV 24 7) [7],
dF (lD 25 (some 2) 9) [9],
dF (mV 26 0) [0],
dF (iA 27 none 26 (cI 0)) [26],
dF (lD 28 none 27) [27],
dF (uO 29 (.lens 28)) [28],
dA (cL 30 f_q01v [29]) [29] true [] [1],
dT (cL 31 f_q01w [24,25,30]) [24,25,30]] [0,7,18,19,20])))
(rg [bN 32 .add 20 (cI 1),
mV 20 32] [0,7,18,19,20]))))
def p_q015_k2 : ACode:=.pr [0,7] (.seq (rg [mV 33 7,
mV 34 0,
iA 35 none 34 (cI 0),
lD 36 none 35,
uO 37 (.lens 36),
cL 38 f_q01u [33,37],
mV 4 38,
mV 5 (cI 0)] [4,5])
.ret)
def P_q015 (q1 q2 : ACode) : ACode:=(.seq (rg [mV 4 (.c (.p (.sl none []))),
mV 5 (cI 0)] [0,1])
(.seq (.seq (rg [mV 10 0,
mV 11 1,
cL 12 f_q01l [10,11],
mV 6 12] [0,1,6])
(.seq (rg [mV 13 6,
bN 14 .neq 13 (cI 0)] [0,1,6,14])
(.cond 14 (.seq (rg [mV 15 6,
mV 4 (.c (.p (.sl none []))),
mV 5 15] [4,5])
.ret)
.skip)))
(.seq (rg [mV 16 0,
cL 17 f_q01t [16],
mV 7 17] [0,1,7])
(.seq (.seq (rg [mV 18 1,
lN 19 18,
mV 20 (cI 0)] [0,7,18,19,20])
(.block 0 (.loop (.scope q1))))
q2))))
def a_q015 : AFun:=⟨2,[.t 4,.t 5],P_q015 p_q015_k1 p_q015_k2,false,false⟩
def P_q01e : ACode:=(.seq (rg [uO 3 (.box 1),
mV 4 (.c (.p (.sl none []))),
mV 5 (cI 0)] [0,3])
(.seq (rg [mV 6 0,
lD 7 (some 2) 3,
uO 8 (.bsl false (some 2) 1 (.agg [.int .i64 0,.sl none []]) [(0,7)]),
cL 9 f_q015 [6,8],
eX 10 9 0,
eX 11 9 1,
mV 4 10,
mV 5 11] [4,5])
.ret))
def a_q01e : AFun:=⟨2,[.t 4,.t 5],P_q01e,false,false⟩
def p_q01l_k1 : ACode:=.pr [0,14,15,16] (.seq (rg [bN 17 .lss 16 15] [0,14,15,16,17])
(.seq (.cond 17 .skip
(.exit 0))
(.seq (.block 1 (.seq (rg [iA 18 (some 2) 14 16,
lD 19 (some 2) 18,
uO 7 (.alloc [.p (.int .i64 0),.sl0 none]),
wO (.store (some 2) 7 19)] [0,7,14,15,16])
(.seq (rg [mV 20 0,
lN 21 20,
lD 22 (some 2) 7,
cL 23 f_q013 [21,22],
mV 8 23] [0,8,14,15,16])
(.seq (rg [mV 24 8,
bN 25 .neq 24 (cI 0)] [0,8,14,15,16,25])
(.cond 25 (.seq (rg [mV 26 8,
mV 4 26] [4])
.ret)
.skip)))))
(rg [bN 27 .add 16 (cI 1),
mV 16 27] [0,14,15,16]))))
def p_q01l_k2 : ACode:=.pr [] (.seq (rg [mV 4 (cI 0)] [4])
.ret)
def P_q01l (q1 q2 : ACode) : ACode:=(.seq (rg [mV 4 (cI 0)] [0,1])
(.seq (.seq (rg [mV 9 0,
cL 10 f_q014 [9],
mV 5 10] [0,1,5])
(.seq (rg [mV 11 5,
bN 12 .neq 11 (cI 0)] [0,1,5,12])
(.cond 12 (.seq (rg [mV 13 5,
mV 4 13] [4])
.ret)
.skip)))
(.seq (.seq (rg [mV 14 1,
lN 15 14,
mV 16 (cI 0)] [0,14,15,16])
(.block 0 (.loop (.scope q1))))
q2)))
def a_q01l : AFun:=⟨2,[.t 4],P_q01l p_q01l_k1 p_q01l_k2,false,false⟩
def p_q01t_k1 : ACode:=.pr [3,5,6,8,9,10,15,16] (.seq (rg [bN 17 .lss 16 15] [3,5,6,8,9,10,15,16,17])
(.seq (.cond 17 .skip
(.exit 2))
(.seq (.block 3 (.seq (rg [mV 18 16,
mV 7 18] [3,5,6,7,8,9,10,15,16])
(rg [mV 19 6,
mV 20 5,
mV 21 7,
uO 22 (.idxs 20 21),
bN 23 .sub 22 (.c (.p (.int .u8 48))),
uO 24 (.conv (.i .u64) 23),
mV 25 7,
bN 26 .shl 24 25,
bN 27 .or 19 26,
mV 6 27] [3,5,6,8,9,10,15,16])))
(rg [bN 28 .add 16 (cI 1),
mV 16 28] [3,5,6,8,9,10,15,16]))))
def p_q01t_k2 : ACode:=.pr [3,6,8,9,10] (rg [mV 29 3,
mV 30 6,
uO 31 (.bsl false none 1 (.int .u64 0) [(0,30)]),
uO 32 (.app none 29 31),
mV 3 32] [3,8,9,10])
def p_q01t_k3 : ACode:=.pr [3,8,9,10] (rg [bN 33 .add 10 (cI 1),
mV 10 33] [3,8,9,10])
def P_q01t_k4 (q1 q2 q3 : ACode) : ACode:=.pr [3,8,9,10] (.seq (rg [bN 11 .lss 10 9] [3,8,9,10,11])
(.seq (.cond 11 .skip
(.exit 0))
(.seq (.block 1 (.seq (rg [iA 12 none 8 10,
lD 13 none 12,
mV 5 13] [3,5,8,9,10])
(.seq (rg [mV 6 (.c (.p (.int .u64 0)))] [3,5,6,8,9,10])
(.seq (.seq (rg [mV 14 5,
uO 15 (.lens 14),
mV 16 (cI 0)] [3,5,6,8,9,10,15,16])
(.block 2 (.loop q1)))
q2))))
q3)))
def p_q01t_k4 : ACode:=P_q01t_k4 p_q01t_k1 p_q01t_k2 p_q01t_k3
def p_q01t_k5 : ACode:=.pr [3] (.seq (rg [mV 34 3,
mV 2 34] [2])
.ret)
def P_q01t (q4 q5 : ACode) : ACode:=(.seq (rg [mV 2 (.c (.p (.sl none [])))] [0])
(.seq (rg [uO 3 (.new0 none)] [0,3])
(.seq (.seq (rg [mV 8 0,
lN 9 8,
mV 10 (cI 0)] [3,8,9,10])
(.block 0 (.loop (.scope q4))))
q5)))
def a_q01t : AFun:=⟨1,[.t 2],P_q01t p_q01t_k4 p_q01t_k5,false,true⟩
def p_q01u_k1 : ACode:=.pr [1,5,7,8,10,11,12,19,20] (.seq (rg [bN 21 .lss 20 19] [1,5,7,8,10,11,12,19,20,21])
(.seq (.cond 21 .skip
(.exit 2))
(.seq (.block 3 (.seq (rg [mV 22 20,
mV 9 22] [1,5,7,8,9,10,11,12,19,20])
(rg [mV 23 8,
mV 24 9,
mV 25 7,
mV 26 9,
bN 27 .shr 25 26,
bN 28 .and 27 (.c (.p (.int .u64 1))),
bN 29 .add (.c (.p (.int .u64 48))) 28,
uO 30 (.conv (.i .u8) 29),
iA 31 none 23 24,
wO (.store none 31 30)] [1,5,7,8,10,11,12,19,20])))
(rg [bN 32 .add 20 (cI 1),
mV 20 32] [1,5,7,8,10,11,12,19,20]))))
def p_q01u_k2 : ACode:=.pr [1,5,8,10,11,12] (rg [mV 33 5,
mV 34 8,
uO 35 (.conv .b2s 34),
uO 36 (.bsl false none 1 (.str []) [(0,35)]),
uO 37 (.app none 33 36),
mV 5 37] [1,5,10,11,12])
def p_q01u_k3 : ACode:=.pr [1,5,10,11,12] (rg [bN 38 .add 12 (cI 1),
mV 12 38] [1,5,10,11,12])
def P_q01u_k4 (q1 q2 q3 : ACode) : ACode:=.pr [1,5,10,11,12] (.seq (rg [bN 13 .lss 12 11] [1,5,10,11,12,13])
(.seq (.cond 13 .skip
(.exit 0))
(.seq (.block 1 (.seq (rg [iA 14 none 10 12,
lD 15 none 14,
mV 7 15] [1,5,7,10,11,12])
(.seq (rg [mV 16 1,
uO 17 (.mksl none (.int .u8 0) 16 16),
mV 8 17] [1,5,7,8,10,11,12])
(.seq (.seq (rg [mV 18 8,
lN 19 18,
mV 20 (cI 0)] [1,5,7,8,10,11,12,19,20])
(.block 2 (.loop q1)))
q2))))
q3)))
def p_q01u_k4 : ACode:=P_q01u_k4 p_q01u_k1 p_q01u_k2 p_q01u_k3
def p_q01u_k5 : ACode:=.pr [5] (.seq (rg [mV 39 5,
mV 4 39] [4])
.ret)
def P_q01u (q4 q5 : ACode) : ACode:=(.seq (rg [mV 4 (.c (.p (.sl none [])))] [0,1])
(.seq (rg [uO 5 (.new0 none)] [0,1,5])
(.seq (.seq (rg [mV 10 0,
lN 11 10,
mV 12 (cI 0)] [1,5,10,11,12])
(.block 0 (.loop (.scope q4))))
q5)))
def a_q01u : AFun:=⟨2,[.t 4],P_q01u p_q01u_k4 p_q01u_k5,false,false⟩
def P_q01v : ACode:=(.seq (rg [mV 2 (.c (.p (.int .u64 0)))] [0])
(.seq (rg [mV 3 0,
bN 4 .shl (.c (.p (.int .u64 1))) 3,
bN 5 .sub 4 (.c (.p (.int .u64 1))),
mV 2 5] [2])
.ret))
def a_q01v : AFun:=⟨1,[.t 2],P_q01v,false,false⟩
def p_q01w_k1 : ACode:=.pr [0,4,6,31,32,33] (.seq (rg [bN 34 .lss 33 32] [0,4,6,31,32,33,34])
(.seq (.cond 34 .skip
(.exit 1))
(.seq (.block 2 (.seq (rg [iA 35 none 31 33,
lD 36 none 35,
mV 8 36] [0,4,6,8,31,32,33])
(rg [mV 37 6,
mV 38 0,
mV 39 8,
iA 40 none 38 39,
lD 41 none 40,
bN 42 .and 37 41,
mV 6 42] [0,4,6,31,32,33])))
(rg [bN 43 .add 33 (cI 1),
mV 33 43] [0,4,6,31,32,33]))))
def p_q01w_k2 : ACode:=.pr [0,4,6,47,48,49] (.seq (rg [bN 50 .lss 49 48] [0,4,6,47,48,49,50])
(.seq (.cond 50 .skip
(.exit 3))
(.seq (.block 4 (.seq (rg [iA 51 none 47 49,
lD 52 none 51,
mV 10 52] [0,4,6,10,47,48,49])
(rg [mV 53 6,
mV 54 0,
mV 55 10,
iA 56 none 54 55,
lD 57 none 56,
bN 58 .or 53 57,
mV 6 58] [0,4,6,47,48,49])))
(rg [bN 59 .add 49 (cI 1),
mV 49 59] [0,4,6,47,48,49]))))
def P_q01w_k3 (q1 q2 : ACode) : ACode:=.pr [0,2,4,6,21,24] (.cond 24 (rg [mV 27 2,
mV 6 27] [0,4,6])
(.seq (rg [bN 29 .eql 21 (cI 3),
mV 28 29] [0,4,6,21,28])
(.cond 28 (.seq (rg [fA 30 1 none 4,
lD 31 none 30,
lN 32 31,
mV 33 (cI 0)] [0,4,6,31,32,33])
(.block 1 (.loop q1)))
(.seq (rg [bN 45 .eql 21 (cI 4),
mV 44 45] [0,4,6,44])
(.cond 44 (.seq (rg [fA 46 1 none 4,
lD 47 none 46,
lN 48 47,
mV 49 (cI 0)] [0,4,6,47,48,49])
(.block 3 (.loop q2)))
.skip)))))
def p_q01w_k3 : ACode:=P_q01w_k3 p_q01w_k1 p_q01w_k2
def p_q01w_k4 : ACode:=.pr [0,6,61,62,63] (.seq (rg [bN 64 .lss 63 62] [0,6,61,62,63,64])
(.seq (.cond 64 .skip
(.exit 5))
(.seq (.block 6 (.seq (rg [iA 65 none 61 63,
lD 66 none 65,
mV 12 66] [0,6,12,61,62,63])
(rg [mV 67 0,
mV 68 12,
mV 69 6,
iA 70 none 67 68,
wO (.store none 70 69)] [0,6,61,62,63])))
(rg [bN 71 .add 63 (cI 1),
mV 63 71] [0,6,61,62,63]))))
def P_q01w_k5 (q4 : ACode) : ACode:=.pr [0,4,6] (.seq (rg [fA 60 1 none 4,
lD 61 none 60,
lN 62 61,
mV 63 (cI 0)] [0,6,61,62,63])
(.block 5 (.loop q4)))
def p_q01w_k5 : ACode:=P_q01w_k5 p_q01w_k4
def P_q01w (q3 q5 : ACode) : ACode:=(.seq (rg [uO 4 (.box 1)] [0,2,4])
(.seq (rg [mV 13 0,
fA 14 1 none 4,
lD 15 none 14,
iA 16 none 15 (cI 0),
lD 17 none 16,
iA 18 none 13 17,
lD 19 none 18,
mV 6 19] [0,2,4,6])
(.seq (.seq (rg [fA 20 0 none 4,
lD 21 none 20] [0,2,4,6,21])
(.block 0 (.seq (rg [bN 23 .eql 21 (cI 1),
mV 22 23] [0,2,4,6,21,22])
(.cond 22 (rg [mV 6 (.c (.p (.int .u64 0)))] [0,4,6])
(.seq (.seq (rg [bN 25 .eql 21 (cI 2),
mV 24 25] [0,2,4,6,21,24])
(.cond 24 .skip
(rg [bN 26 .eql 21 (cI 6),
mV 24 26] [0,2,4,6,21,24])))
q3)))))
q5)))
def a_q01w : AFun:=⟨3,[],P_q01w p_q01w_k3 p_q01w_k5,true,false⟩
def P_q021 : ACode:=(.seq (rg [mV 4 (cI 0)] [0,1])
(.seq (rg [mV 5 0,
mV 6 1,
cL 7 f_internal_bytealg_abigen_runtime_cmpstring [5,6],
mV 4 7] [4])
.ret))
def a_q021 : AFun:=⟨2,[.t 4],P_q021,false,false⟩
end Go.Am
end
