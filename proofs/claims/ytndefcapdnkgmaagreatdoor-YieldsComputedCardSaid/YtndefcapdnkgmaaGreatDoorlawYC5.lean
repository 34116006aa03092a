/- Texts of the proof, laid together: CodesB, CodesC. -/
import Derived.KernelRfl
import Derived.Test.YtndefcapdnkgmaaGreatDoorlawYC4
set_option linter.all false
section
/- The functions asv abstract code,and asv formulas over their values: printed by program out of the translation. -/
set_option linter.unusedVariables false
set_option maxRecDepth 100000
namespace Go.Am
def p_q04l_k1 : ACode:=.pr [0,1,4,6,7,8,9,17,18,21,22,23] (rg [bN 52 .add 23 (cI 1),
mV 23 52] [0,1,4,6,7,8,9,17,18,21,22,23])
def d_q04l_k1 (C : Hd) (gl : GL) (v0 v1 v4 v6 v7 v8 v9 v17 v18 v21 v22 v23 : AV) (h : Heap) (x : Esc) (K : KT) : Prop:=
 pK (oBin .add v23 (AI 1)) fun t1=>
 K .normal ⟨[(0,v0),(1,v1),(4,v4),(6,v6),(7,v7),(8,v8),(9,v9),(17,v17),(18,v18),(21,v21),(22,v22),(23,t1)],h,x⟩
theorem e_q04l_k1 {C gl e h x K} : NW C gl p_q04l_k1 ⟨e,h,x⟩ K = d_q04l_k1 C gl (aget e 0) (aget e 1) (aget e 4) (aget e 6) (aget e 7) (aget e 8) (aget e 9) (aget e 17) (aget e 18) (aget e 21) (aget e 22) (aget e 23) h x K:=by kernel_rfl
def P_q04l_k2 (q1 : ACode) : ACode:=.pr [0,1,4,6,7,8,9,17,18,21,22,23] (.seq (rg [bN 24 .lss 23 22] [0,1,4,6,7,8,9,17,18,21,22,23,24])
(.seq (.cond 24 .skip
(.exit 2))
(.seq (.block 3 (.seq (rg [iA 25 (some 4) 21 23,
lD 26 (some 4) 25,
uO 11 (.alloc [.p (.str []),.p (.int .i64 0),.p (.str []),.sl0 none]),
wO (.store (some 4) 11 26)] [0,1,4,6,7,8,9,11,17,18,21,22,23])
(.seq (rg [mV 27 7,
fA 28 3 none 11,
lD 29 none 28,
lN 30 29,
bN 31 .lss 27 30] [0,1,4,6,7,8,9,11,17,18,21,22,23,31])
(.cond 31 (.seq (rg [mV 32 8,
bN 33 .add 32 (cI 1),
mV 8 33] [0,1,4,6,7,8,9,11,17,18,21,22,23])
(.seq (dr [dF (fA 34 3 none 11) [11],
dF (lD 35 none 34) [34],
dF (mV 36 7) [7],
dF (iA 37 none 35 36) [35,36],
dF (lD 38 none 37) [37],
dF (mV 39 0) [0],
dF (mV 40 7) [7],
dF (iA 41 (some 4) 39 40) [39,40],
dF (fA 42 1 none 41) [41],
dF (lD 43 none 42) [42],
dF (mV 44 0) [0],
dF (mV 45 7) [7],
dF (iA 46 (some 4) 44 45) [44,45],
dF (fA 47 2 none 46) [46],
dF (lD 48 none 47) [47],
dT (cL 49 f_q04s [38,43,48]) [38,43,48]] [0,1,4,6,7,8,9,17,18,21,22,23,49])
(.cond 49 (rg [mV 50 9,
bN 51 .add 50 (cI 1),
mV 9 51] [0,1,4,6,7,8,9,17,18,21,22,23])
.skip)))
.skip))))
q1)))
def p_q04l_k2 : ACode:=P_q04l_k2 p_q04l_k1
def d_q04l_k2 (C : Hd) (gl : GL) (q1 : ACode) (v0 v1 v4 v6 v7 v8 v9 v17 v18 v21 v22 v23 : AV) (h : Heap) (x : Esc) (K : KT) : Prop:=
 pK (oBin .lss v23 v22) fun t1=>
 condB t1 (pK (oIaddr (some 4) v21 v23 h) fun t2=>
 pK (oLoad (some 4) t2 h) fun t3=>
 alK [.p (.str []),.p (.int .i64 0),.p (.str []),.sl0 none] h fun t4 h5 y6=>
 wK (oStore (some 4) t4 t3 h5) fun t7 h8 y9=>
 pK (oFaddr 3 none t4) fun t10=>
 pK (oLoad none t10 h8) fun t11=>
 pK (oLen t11) fun t12=>
 pK (oBin .lss v7 t12) fun t13=>
 condB t13 (pK (oBin .add v8 (AI 1)) fun t14=>
 pK (oFaddr 3 none t4) fun t15=>
 pK (oLoad none t15 h8) fun t16=>
 pK (oIaddr none t16 v7 h8) fun t17=>
 pK (oLoad none t17 h8) fun t18=>
 pK (oIaddr (some 4) v0 v7 h8) fun t19=>
 pK (oFaddr 1 none t19) fun t20=>
 pK (oLoad none t20 h8) fun t21=>
 pK (oIaddr (some 4) v0 v7 h8) fun t22=>
 pK (oFaddr 2 none t22) fun t23=>
 pK (oLoad none t23 h8) fun t24=>
 callE C f_q04s [t18,t21,t24] h8 fun t25 h26 y27=>
 condB t25 (pK (oBin .add v9 (AI 1)) fun t28=>
 NW C gl q1 ⟨[(0,v0),(1,v1),(4,v4),(6,v6),(7,v7),(8,t14),(9,t28),(17,v17),(18,v18),(21,v21),(22,v22),(23,v23)],h26,(y27 ++ (y9 ++ (y6 ++ x)))⟩ K)
 (NW C gl q1 ⟨[(0,v0),(1,v1),(4,v4),(6,v6),(7,v7),(8,t14),(9,v9),(17,v17),(18,v18),(21,v21),(22,v22),(23,v23),(49,t25)],h26,(y27 ++ (y9 ++ (y6 ++ x)))⟩ K))
 (NW C gl q1 ⟨[(0,v0),(1,v1),(4,v4),(6,v6),(7,v7),(8,v8),(9,v9),(11,t4),(17,v17),(18,v18),(21,v21),(22,v22),(23,v23),(31,t13)],h8,(y9 ++ (y6 ++ x))⟩ K))
 (K (.exit 2) ⟨[(0,v0),(1,v1),(4,v4),(6,v6),(7,v7),(8,v8),(9,v9),(17,v17),(18,v18),(21,v21),(22,v22),(23,v23),(24,t1)],h,x⟩)
theorem E_q04l_k2 {C gl q1 e h x K} : NW C gl (P_q04l_k2 q1) ⟨e,h,x⟩ K = d_q04l_k2 C gl q1 (aget e 0) (aget e 1) (aget e 4) (aget e 6) (aget e 7) (aget e 8) (aget e 9) (aget e 17) (aget e 18) (aget e 21) (aget e 22) (aget e 23) h x K:=by kernel_rfl
theorem e_q04l_k2 {C gl e h x K} : NW C gl p_q04l_k2 ⟨e,h,x⟩ K = d_q04l_k2 C gl p_q04l_k1 (aget e 0) (aget e 1) (aget e 4) (aget e 6) (aget e 7) (aget e 8) (aget e 9) (aget e 17) (aget e 18) (aget e 21) (aget e 22) (aget e 23) h x K:=E_q04l_k2
theorem l_q04l_k2 {C gl e h x K} : NW C gl (.loop (.scope p_q04l_k2)) ⟨e,h,x⟩ K = NLoop C gl (.scope p_q04l_k2) K [(0,aget e 0),(1,aget e 1),(4,aget e 4),(6,aget e 6),(7,aget e 7),(8,aget e 8),(9,aget e 9),(17,aget e 17),(18,aget e 18),(21,aget e 21),(22,aget e 22),(23,aget e 23)] h x:=NLoop_sc
def p_q04l_k3 : ACode:=.pr [0,1,4,6,8,9,17,18] (.seq (rg [mV 53 8,
bN 54 .gtr 53 (cI 0)] [0,1,4,6,8,9,17,18,54])
(.cond 54 (rg [mV 55 6,
mV 56 9,
mV 57 8,
cL 58 f_q04e [56,57],
uO 59 (.bsl false (some 2) 1 (.agg [.int .i64 0,.int .i64 0]) [(0,58)]),
uO 60 (.app (some 2) 55 59),
mV 6 60] [0,1,4,6,17,18])
.skip))
def d_q04l_k3 (C : Hd) (gl : GL) (v0 v1 v4 v6 v8 v9 v17 v18 : AV) (h : Heap) (x : Esc) (K : KT) : Prop:=
 pK (oBin .gtr v8 (AI 0)) fun t1=>
 condB t1 (C f_q04e [v9,v8] h fun t2 h3 y4=>
 wK (oBsl false (some 2) 1 (.agg [.int .i64 0,.int .i64 0]) [(0,t2)] h3) fun t5 h6 y7=>
 wK (oApp (some 2) v6 t5 h6) fun t8 h9 y10=>
 K .normal ⟨[(0,v0),(1,v1),(4,v4),(6,t8),(17,v17),(18,v18)],h9,(y10 ++ (y7 ++ (y4 ++ x)))⟩)
 (K .normal ⟨[(0,v0),(1,v1),(4,v4),(6,v6),(8,v8),(9,v9),(17,v17),(18,v18),(54,t1)],h,x⟩)
theorem e_q04l_k3 {C gl e h x K} : NW C gl p_q04l_k3 ⟨e,h,x⟩ K = d_q04l_k3 C gl (aget e 0) (aget e 1) (aget e 4) (aget e 6) (aget e 8) (aget e 9) (aget e 17) (aget e 18) h x K:=by kernel_rfl
def p_q04l_k4 : ACode:=.pr [0,1,4,6,17,18] (rg [bN 61 .add 18 (cI 1),
mV 18 61] [0,1,4,6,17,18])
def d_q04l_k4 (C : Hd) (gl : GL) (v0 v1 v4 v6 v17 v18 : AV) (h : Heap) (x : Esc) (K : KT) : Prop:=
 pK (oBin .add v18 (AI 1)) fun t1=>
 K .normal ⟨[(0,v0),(1,v1),(4,v4),(6,v6),(17,v17),(18,t1)],h,x⟩
theorem e_q04l_k4 {C gl e h x K} : NW C gl p_q04l_k4 ⟨e,h,x⟩ K = d_q04l_k4 C gl (aget e 0) (aget e 1) (aget e 4) (aget e 6) (aget e 17) (aget e 18) h x K:=by kernel_rfl
def P_q04l_k5 (q2 q3 q4 : ACode) : ACode:=.pr [0,1,4,6,17,18] (.seq (rg [bN 19 .lss 18 17] [0,1,4,6,17,18,19])
(.seq (.cond 19 .skip
(.exit 0))
(.seq (.block 1 (.seq (rg [mV 20 18,
mV 7 20] [0,1,4,6,7,17,18])
(.seq (rg [mV 8 (cI 0),
mV 9 (cI 0)] [0,1,4,6,7,8,9,17,18])
(.seq (.seq (rg [mV 21 1,
lN 22 21,
mV 23 (cI 0)] [0,1,4,6,7,8,9,17,18,21,22,23])
(.block 2 (.loop (.scope q2))))
q3))))
q4)))
def p_q04l_k5 : ACode:=P_q04l_k5 p_q04l_k2 p_q04l_k3 p_q04l_k4
def d_q04l_k5 (C : Hd) (gl : GL) (q2 q3 q4 : ACode) (v0 v1 v4 v6 v17 v18 : AV) (h : Heap) (x : Esc) (K : KT) : Prop:=
 pK (oBin .lss v18 v17) fun t1=>
 condB t1 (pK (oLen v1) fun t2=>
 NW C gl (.loop (.scope q2)) ⟨[(0,v0),(1,v1),(4,v4),(6,v6),(7,v18),(8,(AI 0)),(9,(AI 0)),(17,v17),(18,v18),(21,v1),(22,t2),(23,(AI 0))],h,x⟩ (blockN 2 (seqN C gl q3 (blockN 1 (seqN C gl q4 K)))))
 (K (.exit 0) ⟨[(0,v0),(1,v1),(4,v4),(6,v6),(17,v17),(18,v18),(19,t1)],h,x⟩)
theorem E_q04l_k5 {C gl q2 q3 q4 e h x K} : NW C gl (P_q04l_k5 q2 q3 q4) ⟨e,h,x⟩ K = d_q04l_k5 C gl q2 q3 q4 (aget e 0) (aget e 1) (aget e 4) (aget e 6) (aget e 17) (aget e 18) h x K:=by kernel_rfl
theorem e_q04l_k5 {C gl e h x K} : NW C gl p_q04l_k5 ⟨e,h,x⟩ K = d_q04l_k5 C gl p_q04l_k2 p_q04l_k3 p_q04l_k4 (aget e 0) (aget e 1) (aget e 4) (aget e 6) (aget e 17) (aget e 18) h x K:=E_q04l_k5
theorem l_q04l_k5 {C gl e h x K} : NW C gl (.loop (.scope p_q04l_k5)) ⟨e,h,x⟩ K = NLoop C gl (.scope p_q04l_k5) K [(0,aget e 0),(1,aget e 1),(4,aget e 4),(6,aget e 6),(17,aget e 17),(18,aget e 18)] h x:=NLoop_sc
def p_q04l_k6 : ACode:=.pr [4,6] (.seq (rg [mV 62 6,
cL 63 f_q04u [62,(cI 5000)],
eX 64 63 0,
eX 65 63 1,
wO (.store (some 2) 4 64),
mV 5 65] [4,5])
.ret)
def d_q04l_k6 (C : Hd) (gl : GL) (v4 v6 : AV) (h : Heap) (x : Esc) (K : KT) : Prop:=
 C f_q04u [v6,(AI 5000)] h fun t1 h2 y3=>
 pK (oExt t1 0) fun t4=>
 pK (oExt t1 1) fun t5=>
 wK (oStore (some 2) v4 t4 h2) fun t6 h7 y8=>
 K .ret ⟨[(4,v4),(5,t5)],h7,(y8 ++ (y3 ++ x))⟩
theorem e_q04l_k6 {C gl e h x K} : NW C gl p_q04l_k6 ⟨e,h,x⟩ K = d_q04l_k6 C gl (aget e 4) (aget e 6) h x K:=by kernel_rfl
def P_q04l (q5 q6 : ACode) : ACode:=(.seq (rg [uO 4 (.alloc [.p (.int .i64 0),.p (.int .i64 0)]),
mV 5 (cI 0)] [0,1,4])
(.seq (.seq (rg [mV 12 1,
lN 13 12,
bN 14 .eql 13 (cI 0)] [0,1,4,14])
(.cond 14 (.seq (rg [uO 15 (.build [.p (.int .i64 0),.p (.int .i64 0)] []),
wO (.store (some 2) 4 15),
mV 5 (cI 8)] [4,5])
.ret)
.skip))
(.seq (rg [uO 6 (.new0 (some 2))] [0,1,4,6])
(.seq (.seq (rg [mV 16 0,
lN 17 16,
mV 18 (cI 0)] [0,1,4,6,17,18])
(.block 0 (.loop (.scope q5))))
q6))))
def a_q04l : AFun:=⟨2,[.cell 4 (some 2),.t 5],P_q04l p_q04l_k5 p_q04l_k6,false,false⟩
def d_q04l (C : Hd) (gl : GL) (q5 q6 : ACode) (v0 v1 : AV) (h : Heap) (x : Esc) (K : KT) : Prop:=
 alK [.p (.int .i64 0),.p (.int .i64 0)] h fun t1 h2 y3=>
 pK (oLen v1) fun t4=>
 pK (oBin .eql t4 (AI 0)) fun t5=>
 condB t5 (pK (oBuild [.p (.int .i64 0),.p (.int .i64 0)] []) fun t6=>
 wK (oStore (some 2) t1 t6 h2) fun t7 h8 y9=>
 K .ret ⟨[(4,t1),(5,(AI 8))],h8,(y9 ++ (y3 ++ x))⟩)
 (nwK (some 2) h2 fun t10 h11 y12=>
 pK (oLen v0) fun t13=>
 NW C gl (.loop (.scope q5)) ⟨[(0,v0),(1,v1),(4,t1),(6,t10),(17,t13),(18,(AI 0))],h11,(y12 ++ (y3 ++ x))⟩ (blockN 0 (seqN C gl q6 K)))
theorem E_q04l {C gl q5 q6 v0 v1 h x K} : NW C gl (P_q04l q5 q6) ⟨enter [v0,v1],h,x⟩ K = d_q04l C gl q5 q6 v0 v1 h x K:=by kernel_rfl
theorem e_q04l {C gl v0 v1 h x K} : NW C gl a_q04l.body ⟨enter [v0,v1],h,x⟩ K = d_q04l C gl p_q04l_k5 p_q04l_k6 v0 v1 h x K:=E_q04l
def p_q05f_k1 : ACode:=.pr [0,1,12,13] (.seq (rg [bN 14 .lss 13 12] [0,1,12,13,14])
(.seq (.cond 14 .skip
(.exit 0))
(.seq (.block 1 (.seq (rg [mV 15 13,
mV 5 15] [0,1,5,12,13])
(.seq (dr [dF (mV 16 0) [0],
dF (mV 17 5) [5],
dF (iA 18 (some 2) 16 17) [16,17],
dF (lD 19 (some 2) 18) [18],
dF (mV 20 1) [1],
dF (mV 21 5) [5],
dF (iA 22 (some 2) 20 21) [20,21],
dF (lD 23 (some 2) 22) [22],
dF (uO 24 (.eqa [2,2] true 19 23)) [19,23]] [0,1,12,13,24])
(.cond 24 (.seq (rg [mV 4 cF] [4])
.ret)
.skip))))
(rg [bN 25 .add 13 (cI 1),
mV 13 25] [0,1,12,13]))))
def d_q05f_k1 (C : Hd) (gl : GL) (v0 v1 v12 v13 : AV) (h : Heap) (x : Esc) (K : KT) : Prop:=
 pK (oBin .lss v13 v12) fun t1=>
 condB t1 (pK (oIaddr (some 2) v0 v13 h) fun t2=>
 pK (oLoad (some 2) t2 h) fun t3=>
 pK (oIaddr (some 2) v1 v13 h) fun t4=>
 pK (oLoad (some 2) t4 h) fun t5=>
 pK (oEqa [2,2] true t3 t5) fun t6=>
 condB t6 (K .ret ⟨[(4,(AB false))],h,x⟩)
 (pK (oBin .add v13 (AI 1)) fun t7=>
 K .normal ⟨[(0,v0),(1,v1),(12,v12),(13,t7)],h,x⟩))
 (K (.exit 0) ⟨[(0,v0),(1,v1),(12,v12),(13,v13),(14,t1)],h,x⟩)
theorem e_q05f_k1 {C gl e h x K} : NW C gl p_q05f_k1 ⟨e,h,x⟩ K = d_q05f_k1 C gl (aget e 0) (aget e 1) (aget e 12) (aget e 13) h x K:=by kernel_rfl
theorem l_q05f_k1 {C gl e h x K} : NW C gl (.loop p_q05f_k1) ⟨e,h,x⟩ K = NLoop C gl p_q05f_k1 K [(0,aget e 0),(1,aget e 1),(12,aget e 12),(13,aget e 13)] h x:=NLoop_pr
def p_q05f_k2 : ACode:=.pr [] (.seq (rg [mV 4 cT] [4])
.ret)
def d_q05f_k2 (C : Hd) (gl : GL) (h : Heap) (x : Esc) (K : KT) : Prop:=
 K .ret ⟨[(4,(AB true))],h,x⟩
theorem e_q05f_k2 {C gl e h x K} : NW C gl p_q05f_k2 ⟨e,h,x⟩ K = d_q05f_k2 C gl h x K:=by kernel_rfl
def P_q05f (q1 q2 : ACode) : ACode:=(.seq (rg [mV 4 cF] [0,1])
(.seq (.seq (rg [mV 6 0,
lN 7 6,
mV 8 1,
lN 9 8,
bN 10 .neq 7 9] [0,1,10])
(.cond 10 (.seq (rg [mV 4 cF] [4])
.ret)
.skip))
(.seq (.seq (rg [mV 11 0,
lN 12 11,
mV 13 (cI 0)] [0,1,12,13])
(.block 0 (.loop q1)))
q2)))
def a_q05f : AFun:=⟨2,[.t 4],P_q05f p_q05f_k1 p_q05f_k2,false,false⟩
def d_q05f (C : Hd) (gl : GL) (q1 q2 : ACode) (v0 v1 : AV) (h : Heap) (x : Esc) (K : KT) : Prop:=
 pK (oLen v0) fun t1=>
 pK (oLen v1) fun t2=>
 pK (oBin .neq t1 t2) fun t3=>
 condB t3 (K .ret ⟨[(4,(AB false))],h,x⟩)
 (pK (oLen v0) fun t4=>
 NW C gl (.loop q1) ⟨[(0,v0),(1,v1),(12,t4),(13,(AI 0))],h,x⟩ (blockN 0 (seqN C gl q2 K)))
theorem E_q05f {C gl q1 q2 v0 v1 h x K} : NW C gl (P_q05f q1 q2) ⟨enter [v0,v1],h,x⟩ K = d_q05f C gl q1 q2 v0 v1 h x K:=by kernel_rfl
theorem e_q05f {C gl v0 v1 h x K} : NW C gl a_q05f.body ⟨enter [v0,v1],h,x⟩ K = d_q05f C gl p_q05f_k1 p_q05f_k2 v0 v1 h x K:=E_q05f
def P_q03v : ACode:=(.seq (rg [mV 0 cF] [])
(.seq (rg [uO 5 (.bsl false none 2 (.int .i64 0) [(0,(cI 1)),(1,(cI 3))]),
cL 6 f_q02b [5],
mV 4 6,
eX 7 4 0,
eX 8 4 1,
eX 9 4 2,
uO 1 (.alloc [.p (.int .i64 0),.p (.int .i64 0)]),
uO 2 (.alloc [.p (.int .i64 0),.p (.int .i64 0)]),
wO (.store (some 2) 1 7),
wO (.store (some 2) 2 8),
mV 3 9] [1,2,3])
(.seq (rg [mV 10 3,
bN 11 .eql 10 (cI 0),
mV 12 11,
gD 13 12 true (.load (some 2) 1),
gD 14 12 true (.build [.p (.int .i64 0),.p (.int .i64 0)] [(0,1,(cI 2)),(1,1,(cI 1))]),
gD 15 12 true (.eqa [0,0] false 13 14),
uO 16 (.pick 12 15 cF),
mV 17 16,
gD 18 17 true (.load (some 2) 2),
gD 19 17 true (.build [.p (.int .i64 0),.p (.int .i64 0)] [(0,1,(cI 1)),(1,1,(cI 1))]),
gD 20 17 true (.eqa [0,0] false 18 19),
uO 21 (.pick 17 20 cF),
mV 0 21] [0])
.ret)))
def a_q03v : AFun:=⟨0,[.t 0],P_q03v,false,false⟩
def d_q03v (C : Hd) (gl : GL) (h : Heap) (x : Esc) (K : KT) : Prop:=
 wK (oBsl false none 2 (.int .i64 0) [(0,(AI 1)),(1,(AI 3))] h) fun t1 h2 y3=>
 C f_q02b [t1] h2 fun t4 h5 y6=>
 pK (oExt t4 0) fun t7=>
 pK (oExt t4 1) fun t8=>
 pK (oExt t4 2) fun t9=>
 alK [.p (.int .i64 0),.p (.int .i64 0)] h5 fun t10 h11 y12=>
 alK [.p (.int .i64 0),.p (.int .i64 0)] h11 fun t13 h14 y15=>
 wK (oStore (some 2) t10 t7 h14) fun t16 h17 y18=>
 wK (oStore (some 2) t13 t8 h17) fun t19 h20 y21=>
 pK (oBin .eql t9 (AI 0)) fun t22=>
 gP t22 true (oLoad (some 2) t10 h20) h20 fun t23 h24 y25=>
 gP t22 true (oBuild [.p (.int .i64 0),.p (.int .i64 0)] [(0,1,(AI 2)),(1,1,(AI 1))]) h24 fun t26 h27 y28=>
 gP t22 true (oEqa [0,0] false t23 t26) h27 fun t29 h30 y31=>
 pK (oPick t22 t29 (AB false)) fun t32=>
 gP t32 true (oLoad (some 2) t13 h30) h30 fun t33 h34 y35=>
 gP t32 true (oBuild [.p (.int .i64 0),.p (.int .i64 0)] [(0,1,(AI 1)),(1,1,(AI 1))]) h34 fun t36 h37 y38=>
 gP t32 true (oEqa [0,0] false t33 t36) h37 fun t39 h40 y41=>
 pK (oPick t32 t39 (AB false)) fun t42=>
 K .ret ⟨[(0,t42)],h40,(y41 ++ (y38 ++ (y35 ++ (y31 ++ (y28 ++ (y25 ++ (y21 ++ (y18 ++ (y15 ++ (y12 ++ (y6 ++ (y3 ++ x))))))))))))⟩
theorem e_q03v {C gl h x K} : NW C gl a_q03v.body ⟨enter [],h,x⟩ K = d_q03v C gl h x K:=by kernel_rfl
def P_q042 : ACode:=(.seq (rg [mV 4 (cI 0)] [0,1])
(.seq (rg [mV 5 1,
mV 6 0,
mV 7 1,
lN 8 7,
cL 9 f_q040 [6,8],
iA 10 none 5 9,
lD 11 none 10,
mV 4 11] [4])
.ret))
def a_q042 : AFun:=⟨2,[.t 4],P_q042,false,false⟩
def d_q042 (C : Hd) (gl : GL) (v0 v1 : AV) (h : Heap) (x : Esc) (K : KT) : Prop:=
 pK (oLen v1) fun t1=>
 C f_q040 [v0,t1] h fun t2 h3 y4=>
 pK (oIaddr none v1 t2 h3) fun t5=>
 pK (oLoad none t5 h3) fun t6=>
 K .ret ⟨[(4,t6)],h3,(y4 ++ x)⟩
theorem e_q042 {C gl v0 v1 h x K} : NW C gl a_q042.body ⟨enter [v0,v1],h,x⟩ K = d_q042 C gl v0 v1 h x K:=by kernel_rfl
def P_q03y : ACode:=(.seq (rg [mV 4 cF] [0,1])
(.seq (rg [mV 5 0,
mV 6 1,
cL 7 f_q040 [5,6],
bN 8 .eql 7 (cI 0),
mV 4 8] [4])
.ret))
def a_q03y : AFun:=⟨2,[.t 4],P_q03y,false,false⟩
def d_q03y (C : Hd) (gl : GL) (v0 v1 : AV) (h : Heap) (x : Esc) (K : KT) : Prop:=
 C f_q040 [v0,v1] h fun t1 h2 y3=>
 pK (oBin .eql t1 (AI 0)) fun t4=>
 K .ret ⟨[(4,t4)],h2,(y3 ++ x)⟩
theorem e_q03y {C gl v0 v1 h x K} : NW C gl a_q03y.body ⟨enter [v0,v1],h,x⟩ K = d_q03y C gl v0 v1 h x K:=by kernel_rfl
def P_q049 : ACode:=(.seq (rg [mV 4 (cS [])] [0,1])
(.seq (rg [mV 5 1,
mV 6 0,
mV 7 1,
lN 8 7,
cL 9 f_q040 [6,8],
iA 10 none 5 9,
lD 11 none 10,
mV 4 11] [4])
.ret))
def a_q049 : AFun:=⟨2,[.t 4],P_q049,false,false⟩
def d_q049 (C : Hd) (gl : GL) (v0 v1 : AV) (h : Heap) (x : Esc) (K : KT) : Prop:=
 pK (oLen v1) fun t1=>
 C f_q040 [v0,t1] h fun t2 h3 y4=>
 pK (oIaddr none v1 t2 h3) fun t5=>
 pK (oLoad none t5 h3) fun t6=>
 K .ret ⟨[(4,t6)],h3,(y4 ++ x)⟩
theorem e_q049 {C gl v0 v1 h x K} : NW C gl a_q049.body ⟨enter [v0,v1],h,x⟩ K = d_q049 C gl v0 v1 h x K:=by kernel_rfl
def P_q040 : ACode:=(.seq (rg [mV 4 (cI 0)] [0,1])
(.seq (rg [mV 7 0,
uO 8 (.nilchk 7),
fA 9 1 none 8,
lD 10 none 9,
bN 11 .add 10 (cI 1),
uO 12 (.nilchk 7),
fA 13 1 none 12,
wO (.store none 13 11)] [0,1])
(.seq (.seq (rg [mV 14 0,
uO 15 (.nilchk 14),
fA 16 0 none 15,
lD 17 none 16,
lN 18 17,
bN 19 .eql 18 (cI 0)] [0,1,19])
(.cond 19 (.seq (rg [mV 20 0,
uO 21 (.nilchk 20),
fA 22 1 none 21,
lD 23 none 22,
bN 24 .mul 23 (cI 7919),
mV 25 1,
cL 26 f_q03x [24,25],
mV 4 26] [4])
.ret)
.skip))
(.seq (dr [dF (mV 27 0) [0],
dF (uO 28 (.nilchk 27)) [27],
dF (fA 29 1 none 28) [28],
dF (lD 30 none 29) [29],
dF (bN 31 .sub 30 (cI 1)) [30],
dF (mV 32 0) [0],
dF (uO 33 (.nilchk 32)) [32],
dF (fA 34 0 none 33) [33],
dF (lD 35 none 34) [34],
dF (lN 36 35) [35],
dF (bN 37 .rem 31 36) [31,36],
dF (mV 5 37) [37]] [0,1,5])
(.seq (dr [dF (mV 38 0) [0],
dF (uO 39 (.nilchk 38)) [38],
dF (fA 40 1 none 39) [39],
dF (lD 41 none 40) [40],
dF (bN 42 .sub 41 (cI 1)) [41],
dF (mV 43 0) [0],
dF (uO 44 (.nilchk 43)) [43],
dF (fA 45 0 none 44) [44],
dF (lD 46 none 45) [45],
dF (lN 47 46) [46],
dF (bN 48 .quo 42 47) [42,47],
dF (mV 6 48) [48]] [0,1,5,6])
(.seq (rg [mV 49 0,
uO 50 (.nilchk 49),
fA 51 0 none 50,
lD 52 none 51,
mV 53 5,
iA 54 none 52 53,
lD 55 none 54,
cL 56 f_q03x [55,(cI 1073741824)],
mV 57 6,
mV 58 5,
bN 59 .add (cI 7919) 58,
bN 60 .mul 57 59,
bN 61 .add 56 60,
mV 62 1,
cL 63 f_q03x [61,62],
mV 4 63] [4])
.ret))))))
def a_q040 : AFun:=⟨2,[.t 4],P_q040,false,false⟩
def d_q040 (C : Hd) (gl : GL) (v0 v1 : AV) (h : Heap) (x : Esc) (K : KT) : Prop:=
 pK (oNil v0) fun t1=>
 pK (oFaddr 1 none t1) fun t2=>
 pK (oLoad none t2 h) fun t3=>
 pK (oBin .add t3 (AI 1)) fun t4=>
 pK (oNil v0) fun t5=>
 pK (oFaddr 1 none t5) fun t6=>
 wK (oStore none t6 t4 h) fun t7 h8 y9=>
 pK (oNil v0) fun t10=>
 pK (oFaddr 0 none t10) fun t11=>
 pK (oLoad none t11 h8) fun t12=>
 pK (oLen t12) fun t13=>
 pK (oBin .eql t13 (AI 0)) fun t14=>
 condB t14 (pK (oNil v0) fun t15=>
 pK (oFaddr 1 none t15) fun t16=>
 pK (oLoad none t16 h8) fun t17=>
 pK (oBin .mul t17 (AI 7919)) fun t18=>
 C f_q03x [t18,v1] h8 fun t19 h20 y21=>
 K .ret ⟨[(4,t19)],h20,(y21 ++ (y9 ++ x))⟩)
 (pK (oNil v0) fun t22=>
 pK (oFaddr 1 none t22) fun t23=>
 pK (oLoad none t23 h8) fun t24=>
 pK (oBin .sub t24 (AI 1)) fun t25=>
 pK (oNil v0) fun t26=>
 pK (oFaddr 0 none t26) fun t27=>
 pK (oLoad none t27 h8) fun t28=>
 pK (oLen t28) fun t29=>
 pK (oBin .rem t25 t29) fun t30=>
 pK (oNil v0) fun t31=>
 pK (oFaddr 1 none t31) fun t32=>
 pK (oLoad none t32 h8) fun t33=>
 pK (oBin .sub t33 (AI 1)) fun t34=>
 pK (oNil v0) fun t35=>
 pK (oFaddr 0 none t35) fun t36=>
 pK (oLoad none t36 h8) fun t37=>
 pK (oLen t37) fun t38=>
 pK (oBin .quo t34 t38) fun t39=>
 pK (oNil v0) fun t40=>
 pK (oFaddr 0 none t40) fun t41=>
 pK (oLoad none t41 h8) fun t42=>
 pK (oIaddr none t42 t30 h8) fun t43=>
 pK (oLoad none t43 h8) fun t44=>
 C f_q03x [t44,(AI 1073741824)] h8 fun t45 h46 y47=>
 pK (oBin .add (AI 7919) t30) fun t48=>
 pK (oBin .mul t39 t48) fun t49=>
 pK (oBin .add t45 t49) fun t50=>
 C f_q03x [t50,v1] h46 fun t51 h52 y53=>
 K .ret ⟨[(4,t51)],h52,(y53 ++ (y47 ++ (y9 ++ x)))⟩)
theorem e_q040 {C gl v0 v1 h x K} : NW C gl a_q040.body ⟨enter [v0,v1],h,x⟩ K = d_q040 C gl v0 v1 h x K:=by kernel_rfl
def P_q05s : ACode:=(rg [mV 4 0,
mV 5 0,
lN 6 5,
mV 7 1,
cL 8 f_q073 [4,6,7]] [])
def a_q05s : AFun:=⟨2,[],P_q05s,true,false⟩
def d_q05s (C : Hd) (gl : GL) (v0 v1 : AV) (h : Heap) (x : Esc) (K : KT) : Prop:=
 pK (oLen v0) fun t1=>
 C f_q073 [v0,t1,v1] h fun t2 h3 y4=>
 K .normal ⟨[],h3,(y4 ++ x)⟩
theorem e_q05s {C gl v0 v1 h x K} : NW C gl a_q05s.body ⟨enter [v0,v1],h,x⟩ K = d_q05s C gl v0 v1 h x K:=by kernel_rfl
def P_q045 : ACode:=(.seq (rg [uO 2 (.box 0),
uO 3 (.box 1),
mV 4 (cI 0)] [2,3])
(.seq (dr [dF (fA 5 1 none 2) [2],
dF (lD 6 none 5) [5],
dF (fA 7 1 none 3) [3],
dF (lD 8 none 7) [7],
dT (cL 9 f_q00s [6,8]) [6,8],
dF (fA 10 0 none 2) [2],
dA (lD 11 none 10) [10] false [4] [],
dF (fA 12 0 none 3) [3],
dA (lD 13 none 12) [12] false [4] [],
dT (cL 14 f_q07x [11,13]) [11,13],
dF (uO 15 (.bsl false none 2 (.int .i64 0) [(0,9),(1,14)])) [9,14],
dT (cL 16 f_q00v [15]) [15],
dF (mV 4 16) [16]] [4])
.ret))
def a_q045 : AFun:=⟨2,[.t 4],P_q045,false,false⟩
def d_q045 (C : Hd) (gl : GL) (v0 v1 : AV) (h : Heap) (x : Esc) (K : KT) : Prop:=
 wK (oBox v0 h) fun t1 h2 y3=>
 wK (oBox v1 h2) fun t4 h5 y6=>
 pK (oFaddr 1 none t1) fun t7=>
 pK (oLoad none t7 h5) fun t8=>
 pK (oFaddr 1 none t4) fun t9=>
 pK (oLoad none t9 h5) fun t10=>
 callE C f_q00s [t8,t10] h5 fun t11 h12 y13=>
 pK (oFaddr 0 none t1) fun t14=>
 pK (oLoad none t14 h12) fun t15=>
 (pK (oLoad none t14 h5) fun v=>(fun u (g1 : Heap) (y1 : Esc)=>u = t15 ∧ g1 = h5 ∧ y1 = []) v h5 []) ∧ (pK (oFaddr 0 none t4) fun t16=>
 pK (oLoad none t16 h12) fun t17=>
 (pK (oLoad none t16 h5) fun v=>(fun u (g1 : Heap) (y1 : Esc)=>u = t17 ∧ g1 = h5 ∧ y1 = []) v h5 []) ∧ (callE C f_q07x [t15,t17] h12 fun t18 h19 y20=>
 wK (oBsl false none 2 (.int .i64 0) [(0,t11),(1,t18)] h19) fun t21 h22 y23=>
 (h22 = h19 ∧ y23 = []) ∧ (callE C f_q00v [t21] h22 fun t24 h25 y26=>
 K .ret ⟨[(4,t24)],h25,(y26 ++ (y23 ++ (y20 ++ (y13 ++ (y6 ++ (y3 ++ x))))))⟩)))
theorem e_q045 {C gl v0 v1 h x K} : NW C gl a_q045.body ⟨enter [v0,v1],h,x⟩ K = d_q045 C gl v0 v1 h x K:=by kernel_rfl
def p_q00v_k1 : ACode:=.pr [3,6,7,8] (.seq (rg [bN 9 .lss 8 7] [3,6,7,8,9])
(.seq (.cond 9 .skip
(.exit 0))
(.seq (.block 1 (.seq (rg [iA 10 none 6 8,
lD 11 none 10,
mV 5 11] [3,5,6,7,8])
(.seq (rg [mV 12 5,
mV 13 3,
bN 14 .neq 12 13] [3,5,6,7,8,14])
(.cond 14 (.seq (rg [mV 15 5,
mV 2 15] [2])
.ret)
.skip))))
(rg [bN 16 .add 8 (cI 1),
mV 8 16] [3,6,7,8]))))
def d_q00v_k1 (C : Hd) (gl : GL) (v3 v6 v7 v8 : AV) (h : Heap) (x : Esc) (K : KT) : Prop:=
 pK (oBin .lss v8 v7) fun t1=>
 condB t1 (pK (oIaddr none v6 v8 h) fun t2=>
 pK (oLoad none t2 h) fun t3=>
 pK (oBin .neq t3 v3) fun t4=>
 condB t4 (K .ret ⟨[(2,t3)],h,x⟩)
 (pK (oBin .add v8 (AI 1)) fun t5=>
 K .normal ⟨[(3,v3),(6,v6),(7,v7),(8,t5)],h,x⟩))
 (K (.exit 0) ⟨[(3,v3),(6,v6),(7,v7),(8,v8),(9,t1)],h,x⟩)
theorem e_q00v_k1 {C gl e h x K} : NW C gl p_q00v_k1 ⟨e,h,x⟩ K = d_q00v_k1 C gl (aget e 3) (aget e 6) (aget e 7) (aget e 8) h x K:=by kernel_rfl
theorem l_q00v_k1 {C gl e h x K} : NW C gl (.loop p_q00v_k1) ⟨e,h,x⟩ K = NLoop C gl p_q00v_k1 K [(3,aget e 3),(6,aget e 6),(7,aget e 7),(8,aget e 8)] h x:=NLoop_pr
def p_q00v_k2 : ACode:=.pr [3] (.seq (rg [mV 17 3,
mV 2 17] [2])
.ret)
def d_q00v_k2 (C : Hd) (gl : GL) (v3 : AV) (h : Heap) (x : Esc) (K : KT) : Prop:=
 K .ret ⟨[(2,v3)],h,x⟩
theorem e_q00v_k2 {C gl e h x K} : NW C gl p_q00v_k2 ⟨e,h,x⟩ K = d_q00v_k2 C gl (aget e 3) h x K:=by kernel_rfl
def P_q00v (q1 q2 : ACode) : ACode:=(.seq (rg [mV 2 (cI 0)] [0])
(.seq (rg [mV 3 (cI 0)] [0,3])
(.seq (.seq (rg [mV 6 0,
lN 7 6,
mV 8 (cI 0)] [3,6,7,8])
(.block 0 (.loop q1)))
q2)))
def a_q00v : AFun:=⟨1,[.t 2],P_q00v p_q00v_k1 p_q00v_k2,false,false⟩
def d_q00v (C : Hd) (gl : GL) (q1 q2 : ACode) (v0 : AV) (h : Heap) (x : Esc) (K : KT) : Prop:=
 pK (oLen v0) fun t1=>
 NW C gl (.loop q1) ⟨[(3,(AI 0)),(6,v0),(7,t1),(8,(AI 0))],h,x⟩ (blockN 0 (seqN C gl q2 K))
theorem E_q00v {C gl q1 q2 v0 h x K} : NW C gl (P_q00v q1 q2) ⟨enter [v0],h,x⟩ K = d_q00v C gl q1 q2 v0 h x K:=by kernel_rfl
theorem e_q00v {C gl v0 h x K} : NW C gl a_q00v.body ⟨enter [v0],h,x⟩ K = d_q00v C gl p_q00v_k1 p_q00v_k2 v0 h x K:=E_q00v
def P_q00s : ACode:=(.seq (rg [mV 4 (cI 0)] [0,1])
(.seq (rg [mV 7 0,
cL 8 f_q00w [7],
mV 5 8] [0,1,5])
(.seq (rg [mV 9 1,
cL 10 f_q00w [9],
mV 6 10] [0,1,5,6])
(.seq (.seq (rg [mV 11 5] [0,1,6,11])
(.cond 11 (.seq (.seq (rg [mV 12 6] [12])
(.cond 12 (.seq (rg [mV 4 (cI 0)] [4])
.ret)
.skip))
(.seq (rg [mV 4 (cI (-1))] [4])
.ret))
.skip))
(.seq (.seq (rg [mV 13 6] [0,1,13])
(.cond 13 (.seq (rg [mV 4 (cI 1)] [4])
.ret)
.skip))
(.seq (.seq (rg [mV 14 0,
mV 15 1,
bN 16 .lss 14 15] [0,1,16])
(.cond 16 (.seq (rg [mV 4 (cI (-1))] [4])
.ret)
.skip))
(.seq (.seq (rg [mV 17 0,
mV 18 1,
bN 19 .gtr 17 18] [19])
(.cond 19 (.seq (rg [mV 4 (cI 1)] [4])
.ret)
.skip))
(.seq (rg [mV 4 (cI 0)] [4])
.ret))))))))
def a_q00s : AFun:=⟨2,[.t 4],P_q00s,false,false⟩
def d_q00s (C : Hd) (gl : GL) (v0 v1 : AV) (h : Heap) (x : Esc) (K : KT) : Prop:=
 C f_q00w [v0] h fun t1 h2 y3=>
 C f_q00w [v1] h2 fun t4 h5 y6=>
 condB t1 (condB t4 (K .ret ⟨[(4,(AI 0))],h5,(y6 ++ (y3 ++ x))⟩)
 (K .ret ⟨[(4,(AI (-1)))],h5,(y6 ++ (y3 ++ x))⟩))
 (condB t4 (K .ret ⟨[(4,(AI 1))],h5,(y6 ++ (y3 ++ x))⟩)
 (pK (oBin .lss v0 v1) fun t7=>
 condB t7 (K .ret ⟨[(4,(AI (-1)))],h5,(y6 ++ (y3 ++ x))⟩)
 (pK (oBin .gtr v0 v1) fun t8=>
 condB t8 (K .ret ⟨[(4,(AI 1))],h5,(y6 ++ (y3 ++ x))⟩)
 (K .ret ⟨[(4,(AI 0))],h5,(y6 ++ (y3 ++ x))⟩))))
theorem e_q00s {C gl v0 v1 h x K} : NW C gl a_q00s.body ⟨enter [v0,v1],h,x⟩ K = d_q00s C gl v0 v1 h x K:=by kernel_rfl
def P_q07x : ACode:=(.seq (rg [mV 4 (cI 0)] [0,1])
(.seq (rg [mV 5 0,
mV 6 1,
cL 7 f_q01d [5,6],
mV 4 7] [4])
.ret))
def a_q07x : AFun:=⟨2,[.t 4],P_q07x,false,false⟩
def d_q07x (C : Hd) (gl : GL) (v0 v1 : AV) (h : Heap) (x : Esc) (K : KT) : Prop:=
 C f_q01d [v0,v1] h fun t1 h2 y3=>
 K .ret ⟨[(4,t1)],h2,(y3 ++ x)⟩
theorem e_q07x {C gl v0 v1 h x K} : NW C gl a_q07x.body ⟨enter [v0,v1],h,x⟩ K = d_q07x C gl v0 v1 h x K:=by kernel_rfl
def p_q053_k1 : ACode:=.pr [0,1,5,6,7] (rg [mV 36 7,
bN 37 .add 36 (cI 1),
mV 7 37] [0,1,5,6,7])
def d_q053_k1 (C : Hd) (gl : GL) (v0 v1 v5 v6 v7 : AV) (h : Heap) (x : Esc) (K : KT) : Prop:=
 pK (oBin .add v7 (AI 1)) fun t1=>
 K .normal ⟨[(0,v0),(1,v1),(5,v5),(6,v6),(7,t1)],h,x⟩
theorem e_q053_k1 {C gl e h x K} : NW C gl p_q053_k1 ⟨e,h,x⟩ K = d_q053_k1 C gl (aget e 0) (aget e 1) (aget e 5) (aget e 6) (aget e 7) h x K:=by kernel_rfl
def P_q053_k2 (q1 : ACode) : ACode:=.pr [0,1,5,6,7] (.seq (.seq (rg [mV 32 7,
mV 33 6,
lN 34 33,
bN 35 .lss 32 34] [0,1,5,6,7,35])
(.cond 35 .skip
(.exit 2)))
(.seq (.block 3 (.seq (dr [dF (mV 38 1) [1],
dF (mV 39 6) [6],
dF (mV 40 7) [7],
dF (iA 41 (some 4) 39 40) [39,40],
dF (lD 42 (some 4) 41) [41],
dF (mV 43 6) [6],
dF (mV 44 7) [7],
dF (bN 45 .sub 44 (cI 1)) [44],
dF (iA 46 (some 4) 43 45) [43,45],
dF (lD 47 (some 4) 46) [46],
dT (uO 48 (.callv 38 [42,47])) [38,42,47],
dF (uO 49 (.un .not 48)) [48]] [0,1,5,6,7,49])
(.cond 49 (.seq (rg [mV 50 0,
mV 51 5,
mV 52 6,
mV 53 7,
iA 54 (some 4) 52 53,
lD 55 (some 4) 54,
iA 56 (some 4) 50 51,
wO (.store (some 4) 56 55)] [0,1,5,6,7])
(rg [mV 57 5,
bN 58 .add 57 (cI 1),
mV 5 58] [0,1,5,6,7]))
.skip)))
q1))
def p_q053_k2 : ACode:=P_q053_k2 p_q053_k1
def d_q053_k2 (C : Hd) (gl : GL) (q1 : ACode) (v0 v1 v5 v6 v7 : AV) (h : Heap) (x : Esc) (K : KT) : Prop:=
 pK (oLen v6) fun t1=>
 pK (oBin .lss v7 t1) fun t2=>
 condB t2 (pK (oIaddr (some 4) v6 v7 h) fun t3=>
 pK (oLoad (some 4) t3 h) fun t4=>
 pK (oBin .sub v7 (AI 1)) fun t5=>
 pK (oIaddr (some 4) v6 t5 h) fun t6=>
 pK (oLoad (some 4) t6 h) fun t7=>
 callvE C v1 [t4,t7] h fun t8 h9 y10=>
 pK (oUn .not t8) fun t11=>
 condB t11 (pK (oIaddr (some 4) v6 v7 h9) fun t12=>
 pK (oLoad (some 4) t12 h9) fun t13=>
 pK (oIaddr (some 4) v0 v5 h9) fun t14=>
 wK (oStore (some 4) t14 t13 h9) fun t15 h16 y17=>
 pK (oBin .add v5 (AI 1)) fun t18=>
 NW C gl q1 ⟨[(0,v0),(1,v1),(5,t18),(6,v6),(7,v7)],h16,(y17 ++ (y10 ++ x))⟩ K)
 (NW C gl q1 ⟨[(0,v0),(1,v1),(5,v5),(6,v6),(7,v7),(49,t11)],h9,(y10 ++ x)⟩ K))
 (K (.exit 2) ⟨[(0,v0),(1,v1),(5,v5),(6,v6),(7,v7),(35,t2)],h,x⟩)
theorem E_q053_k2 {C gl q1 e h x K} : NW C gl (P_q053_k2 q1) ⟨e,h,x⟩ K = d_q053_k2 C gl q1 (aget e 0) (aget e 1) (aget e 5) (aget e 6) (aget e 7) h x K:=by kernel_rfl
theorem e_q053_k2 {C gl e h x K} : NW C gl p_q053_k2 ⟨e,h,x⟩ K = d_q053_k2 C gl p_q053_k1 (aget e 0) (aget e 1) (aget e 5) (aget e 6) (aget e 7) h x K:=E_q053_k2
theorem l_q053_k2 {C gl e h x K} : NW C gl (.loop p_q053_k2) ⟨e,h,x⟩ K = NLoop C gl p_q053_k2 K [(0,aget e 0),(1,aget e 1),(5,aget e 5),(6,aget e 6),(7,aget e 7)] h x:=NLoop_pr
def p_q053_k3 : ACode:=.pr [0,5] (.seq (rg [mV 59 0,
mV 60 5,
uO 61 (.slice (some 4) 59 (some 60) none none),
wO (.clr (some 4) (.agg [.str [],.int .i64 0,.str [],.sl none []]) 61)] [0,5])
(.seq (rg [mV 62 0,
mV 63 5,
uO 64 (.slice (some 4) 62 none (some 63) none),
mV 4 64] [4])
.ret))
def d_q053_k3 (C : Hd) (gl : GL) (v0 v5 : AV) (h : Heap) (x : Esc) (K : KT) : Prop:=
 pK (oSlice (some 4) v0 (some v5) none none h) fun t1=>
 wK (oClr (some 4) (.agg [.str [],.int .i64 0,.str [],.sl none []]) t1 h) fun t2 h3 y4=>
 pK (oSlice (some 4) v0 none (some v5) none h3) fun t5=>
 K .ret ⟨[(4,t5)],h3,(y4 ++ x)⟩
theorem e_q053_k3 {C gl e h x K} : NW C gl p_q053_k3 ⟨e,h,x⟩ K = d_q053_k3 C gl (aget e 0) (aget e 5) h x K:=by kernel_rfl
def p_q053_k4 : ACode:=.pr [0,1,5] (rg [mV 16 5,
bN 17 .add 16 (cI 1),
mV 5 17] [0,1,5])
def d_q053_k4 (C : Hd) (gl : GL) (v0 v1 v5 : AV) (h : Heap) (x : Esc) (K : KT) : Prop:=
 pK (oBin .add v5 (AI 1)) fun t1=>
 K .normal ⟨[(0,v0),(1,v1),(5,t1)],h,x⟩
theorem e_q053_k4 {C gl e h x K} : NW C gl p_q053_k4 ⟨e,h,x⟩ K = d_q053_k4 C gl (aget e 0) (aget e 1) (aget e 5) h x K:=by kernel_rfl
def P_q053_k5 (q2 q3 q4 : ACode) : ACode:=.pr [0,1,5] (.seq (.seq (rg [mV 12 5,
mV 13 0,
lN 14 13,
bN 15 .lss 12 14] [0,1,5,15])
(.cond 15 .skip
(.exit 0)))
(.seq (.block 1 (.seq (dr [dF (mV 18 1) [1],
dF (mV 19 0) [0],
dF (mV 20 5) [5],
dF (iA 21 (some 4) 19 20) [19,20],
dF (lD 22 (some 4) 21) [21],
dF (mV 23 0) [0],
dF (mV 24 5) [5],
dF (bN 25 .sub 24 (cI 1)) [24],
dF (iA 26 (some 4) 23 25) [23,25],
dF (lD 27 (some 4) 26) [26],
dT (uO 28 (.callv 18 [22,27])) [18,22,27]] [0,1,5,28])
(.cond 28 (.seq (rg [mV 29 0,
mV 30 5,
uO 31 (.slice (some 4) 29 (some 30) none none),
mV 6 31] [0,1,5,6])
(.seq (.seq (rg [mV 7 (cI 1)] [0,1,5,6,7])
(.block 2 (.loop q2)))
q3))
.skip)))
q4))
def p_q053_k5 : ACode:=P_q053_k5 p_q053_k2 p_q053_k3 p_q053_k4
def d_q053_k5 (C : Hd) (gl : GL) (q2 q3 q4 : ACode) (v0 v1 v5 : AV) (h : Heap) (x : Esc) (K : KT) : Prop:=
 pK (oLen v0) fun t1=>
 pK (oBin .lss v5 t1) fun t2=>
 condB t2 (pK (oIaddr (some 4) v0 v5 h) fun t3=>
 pK (oLoad (some 4) t3 h) fun t4=>
 pK (oBin .sub v5 (AI 1)) fun t5=>
 pK (oIaddr (some 4) v0 t5 h) fun t6=>
 pK (oLoad (some 4) t6 h) fun t7=>
 callvE C v1 [t4,t7] h fun t8 h9 y10=>
 condB t8 (pK (oSlice (some 4) v0 (some v5) none none h9) fun t11=>
 NW C gl (.loop q2) ⟨[(0,v0),(1,v1),(5,v5),(6,t11),(7,(AI 1))],h9,(y10 ++ x)⟩ (blockN 2 (seqN C gl q3 (blockN 1 (seqN C gl q4 K)))))
 (NW C gl q4 ⟨[(0,v0),(1,v1),(5,v5),(28,t8)],h9,(y10 ++ x)⟩ K))
 (K (.exit 0) ⟨[(0,v0),(1,v1),(5,v5),(15,t2)],h,x⟩)
theorem E_q053_k5 {C gl q2 q3 q4 e h x K} : NW C gl (P_q053_k5 q2 q3 q4) ⟨e,h,x⟩ K = d_q053_k5 C gl q2 q3 q4 (aget e 0) (aget e 1) (aget e 5) h x K:=by kernel_rfl
theorem e_q053_k5 {C gl e h x K} : NW C gl p_q053_k5 ⟨e,h,x⟩ K = d_q053_k5 C gl p_q053_k2 p_q053_k3 p_q053_k4 (aget e 0) (aget e 1) (aget e 5) h x K:=E_q053_k5
theorem l_q053_k5 {C gl e h x K} : NW C gl (.loop p_q053_k5) ⟨e,h,x⟩ K = NLoop C gl p_q053_k5 K [(0,aget e 0),(1,aget e 1),(5,aget e 5)] h x:=NLoop_pr
def p_q053_k6 : ACode:=.pr [0] (.seq (rg [mV 65 0,
mV 4 65] [4])
.ret)
def d_q053_k6 (C : Hd) (gl : GL) (v0 : AV) (h : Heap) (x : Esc) (K : KT) : Prop:=
 K .ret ⟨[(4,v0)],h,x⟩
theorem e_q053_k6 {C gl e h x K} : NW C gl p_q053_k6 ⟨e,h,x⟩ K = d_q053_k6 C gl (aget e 0) h x K:=by kernel_rfl
def P_q053 (q5 q6 : ACode) : ACode:=(.seq (rg [mV 4 (.c (.p (.sl (some 4) [])))] [0,1])
(.seq (.seq (rg [mV 8 0,
lN 9 8,
bN 10 .lss 9 (cI 2)] [0,1,10])
(.cond 10 (.seq (rg [mV 11 0,
mV 4 11] [4])
.ret)
.skip))
(.seq (.seq (rg [mV 5 (cI 1)] [0,1,5])
(.block 0 (.loop q5)))
q6)))
def a_q053 : AFun:=⟨2,[.t 4],P_q053 p_q053_k5 p_q053_k6,true,false⟩
def d_q053 (C : Hd) (gl : GL) (q5 q6 : ACode) (v0 v1 : AV) (h : Heap) (x : Esc) (K : KT) : Prop:=
 pK (oLen v0) fun t1=>
 pK (oBin .lss t1 (AI 2)) fun t2=>
 condB t2 (K .ret ⟨[(4,v0)],h,x⟩)
 (NW C gl (.loop q5) ⟨[(0,v0),(1,v1),(5,(AI 1))],h,x⟩ (blockN 0 (seqN C gl q6 K)))
theorem E_q053 {C gl q5 q6 v0 v1 h x K} : NW C gl (P_q053 q5 q6) ⟨enter [v0,v1],h,x⟩ K = d_q053 C gl q5 q6 v0 v1 h x K:=by kernel_rfl
theorem e_q053 {C gl v0 v1 h x K} : NW C gl a_q053.body ⟨enter [v0,v1],h,x⟩ K = d_q053 C gl p_q053_k5 p_q053_k6 v0 v1 h x K:=E_q053
def P_q046 : ACode:=(.seq (rg [uO 2 (.box 0),
uO 3 (.box 1),
mV 4 cF] [2,3])
(.seq (rg [fA 5 1 none 2,
lD 6 none 5,
fA 7 1 none 3,
lD 8 none 7,
bN 9 .eql 6 8,
mV 10 9,
gD 11 10 true (.faddr 0 none 2),
gD 12 10 true (.load none 11),
gD 13 10 true (.faddr 0 none 3),
gD 14 10 true (.load none 13),
gD 15 10 true (.bin .eql 12 14),
uO 16 (.pick 10 15 cF),
mV 4 16] [4])
.ret))
def a_q046 : AFun:=⟨2,[.t 4],P_q046,false,false⟩
def d_q046 (C : Hd) (gl : GL) (v0 v1 : AV) (h : Heap) (x : Esc) (K : KT) : Prop:=
 wK (oBox v0 h) fun t1 h2 y3=>
 wK (oBox v1 h2) fun t4 h5 y6=>
 pK (oFaddr 1 none t1) fun t7=>
 pK (oLoad none t7 h5) fun t8=>
 pK (oFaddr 1 none t4) fun t9=>
 pK (oLoad none t9 h5) fun t10=>
 pK (oBin .eql t8 t10) fun t11=>
 gP t11 true (oFaddr 0 none t1) h5 fun t12 h13 y14=>
 gP t11 true (oLoad none t12 h13) h13 fun t15 h16 y17=>
 gP t11 true (oFaddr 0 none t4) h16 fun t18 h19 y20=>
 gP t11 true (oLoad none t18 h19) h19 fun t21 h22 y23=>
 gP t11 true (oBin .eql t15 t21) h22 fun t24 h25 y26=>
 pK (oPick t11 t24 (AB false)) fun t27=>
 K .ret ⟨[(4,t27)],h25,(y26 ++ (y23 ++ (y20 ++ (y17 ++ (y14 ++ (y6 ++ (y3 ++ x)))))))⟩
theorem e_q046 {C gl v0 v1 h x K} : NW C gl a_q046.body ⟨enter [v0,v1],h,x⟩ K = d_q046 C gl v0 v1 h x K:=by kernel_rfl
def p_q030_k1 : ACode:=.pr [7] (.seq (rg [mV 17 7,
mV 6 17] [6])
.ret)
def d_q030_k1 (C : Hd) (gl : GL) (v7 : AV) (h : Heap) (x : Esc) (K : KT) : Prop:=
 K .ret ⟨[(6,v7)],h,x⟩
theorem e_q030_k1 {C gl e h x K} : NW C gl p_q030_k1 ⟨e,h,x⟩ K = d_q030_k1 C gl (aget e 7) h x K:=by kernel_rfl
def P_q030 (q1 : ACode) : ACode:=(.seq (rg [mV 6 (cI 0)] [0,1,2])
(.seq (rg [mV 8 0,
mV 9 1,
cL 10 f_q023 [8,9],
mV 7 10] [2,7])
(.seq (.seq (rg [mV 11 7,
bN 12 .eql 11 (cI 0),
mV 13 12,
gD 14 13 true (.mv 2),
gD 15 13 true (.call f_q008 [14,(cI 1),(cI 3)]),
uO 16 (.pick 13 15 cF)] [7,16])
(.cond 16 (rg [mV 7 (cI 4)] [7])
.skip))
q1)))
def a_q030 : AFun:=⟨3,[.t 6],P_q030 p_q030_k1,false,false⟩
def d_q030 (C : Hd) (gl : GL) (q1 : ACode) (v0 v1 v2 : AV) (h : Heap) (x : Esc) (K : KT) : Prop:=
 C f_q023 [v0,v1] h fun t1 h2 y3=>
 pK (oBin .eql t1 (AI 0)) fun t4=>
 gM t4 true v2 h2 fun t5 h6 y7=>
 gV t4 true h6 (C f_q008 [t5,(AI 1),(AI 3)] h6) fun t8 h9 y10=>
 pK (oPick t4 t8 (AB false)) fun t11=>
 condB t11 (NW C gl q1 ⟨[(7,(AI 4))],h9,(y10 ++ (y7 ++ (y3 ++ x)))⟩ K)
 (NW C gl q1 ⟨[(7,t1),(16,t11)],h9,(y10 ++ (y7 ++ (y3 ++ x)))⟩ K)
theorem E_q030 {C gl q1 v0 v1 v2 h x K} : NW C gl (P_q030 q1) ⟨enter [v0,v1,v2],h,x⟩ K = d_q030 C gl q1 v0 v1 v2 h x K:=by kernel_rfl
theorem e_q030 {C gl v0 v1 v2 h x K} : NW C gl a_q030.body ⟨enter [v0,v1,v2],h,x⟩ K = d_q030 C gl p_q030_k1 v0 v1 v2 h x K:=E_q030
def p_q02p_k1 : ACode:=.pr [0,2,7,8,14,15,16] (rg [bN 57 .add 16 (cI 1),
mV 16 57] [0,2,7,8,14,15,16])
def d_q02p_k1 (C : Hd) (gl : GL) (v0 v2 v7 v8 v14 v15 v16 : AV) (h : Heap) (x : Esc) (K : KT) : Prop:=
 pK (oBin .add v16 (AI 1)) fun t1=>
 K .normal ⟨[(0,v0),(2,v2),(7,v7),(8,v8),(14,v14),(15,v15),(16,t1)],h,x⟩
theorem e_q02p_k1 {C gl e h x K} : NW C gl p_q02p_k1 ⟨e,h,x⟩ K = d_q02p_k1 C gl (aget e 0) (aget e 2) (aget e 7) (aget e 8) (aget e 14) (aget e 15) (aget e 16) h x K:=by kernel_rfl
def P_q02p_k2 (q1 : ACode) : ACode:=.pr [0,2,7,8,14,15,16] (.seq (rg [bN 17 .lss 16 15] [0,2,7,8,14,15,16,17])
(.seq (.cond 17 .skip
(.exit 0))
(.seq (.block 1 (.seq (rg [iA 18 (some 4) 14 16,
lD 19 (some 4) 18,
uO 10 (.alloc [.p (.str []),.p (.int .i64 0),.p (.str []),.sl0 none]),
wO (.store (some 4) 10 19)] [0,2,7,8,10,14,15,16])
(.seq (rg [mV 21 7,
fA 22 0 none 10,
lD 23 none 22,
uO 24 (.look (none,[2]) true (AI 0) 21 23),
mV 20 24,
eX 25 20 0,
eX 26 20 1,
mV 11 25,
mV 12 26] [0,2,7,8,10,11,12,14,15,16])
(.seq (.seq (rg [mV 27 12,
uO 28 (.un .not 27)] [0,2,7,8,10,11,14,15,16,28])
(.cond 28 (.seq (rg [mV 29 7,
fA 30 0 none 10,
lD 31 none 30,
mV 32 8,
lN 33 32,
wO (.mupd (none,[2]) 29 31 33)] [0,2,7,8,10,14,15,16])
(.seq (rg [mV 34 8,
lD 35 (some 4) 10,
uO 36 (.bsl false (some 4) 1 (.agg [.str [],.int .i64 0,.str [],.sl none []]) [(0,35)]),
uO 37 (.app (some 4) 34 36),
mV 8 37] [0,2,7,8,14,15,16])
(.exit 1)))
.skip))
(.seq (rg [mV 38 2,
bN 39 .eql 38 (cI 2),
mV 40 39,
gD 41 40 false (.mv 2),
gD 42 40 false (.bin .eql 41 (cI 3)),
gD 43 40 false (.mv 42),
gD 44 43 true (.mv 0),
gD 45 43 true (.mv 8),
gD 46 43 true (.mv 11),
gD 47 43 true (.iaddr (some 4) 45 46),
gD 48 43 true (.load (some 4) 47),
gD 49 43 true (.call f_q02o [44,48]),
gD 50 43 true (.bin .geq 49 (cI 0)),
gD 51 40 false (.pick 43 50 cF),
uO 52 (.pick 40 cT 51)] [0,2,7,8,10,11,14,15,16,52])
(.cond 52 (rg [mV 53 8,
mV 54 11,
lD 55 (some 4) 10,
iA 56 (some 4) 53 54,
wO (.store (some 4) 56 55)] [0,2,7,8,14,15,16])
.skip))))))
q1)))
def p_q02p_k2 : ACode:=P_q02p_k2 p_q02p_k1
def d_q02p_k2 (C : Hd) (gl : GL) (q1 : ACode) (v0 v2 v7 v8 v14 v15 v16 : AV) (h : Heap) (x : Esc) (K : KT) : Prop:=
 pK (oBin .lss v16 v15) fun t1=>
 condB t1 (pK (oIaddr (some 4) v14 v16 h) fun t2=>
 pK (oLoad (some 4) t2 h) fun t3=>
 alK [.p (.str []),.p (.int .i64 0),.p (.str []),.sl0 none] h fun t4 h5 y6=>
 wK (oStore (some 4) t4 t3 h5) fun t7 h8 y9=>
 pK (oFaddr 0 none t4) fun t10=>
 pK (oLoad none t10 h8) fun t11=>
 pK (oLook (none,[2]) true (AI 0) v7 t11 h8) fun t12=>
 pK (oExt t12 0) fun t13=>
 pK (oExt t12 1) fun t14=>
 pK (oUn .not t14) fun t15=>
 condB t15 (pK (oFaddr 0 none t4) fun t16=>
 pK (oLoad none t16 h8) fun t17=>
 pK (oLen v8) fun t18=>
 wK (oMupd (none,[2]) v7 t17 t18 h8) fun t19 h20 y21=>
 pK (oLoad (some 4) t4 h20) fun t22=>
 wK (oBsl false (some 4) 1 (.agg [.str [],.int .i64 0,.str [],.sl none []]) [(0,t22)] h20) fun t23 h24 y25=>
 wK (oApp (some 4) v8 t23 h24) fun t26 h27 y28=>
 NW C gl q1 ⟨[(0,v0),(2,v2),(7,v7),(8,t26),(14,v14),(15,v15),(16,v16)],h27,(y28 ++ (y25 ++ (y21 ++ (y9 ++ (y6 ++ x)))))⟩ K)
 (pK (oBin .eql v2 (AI 2)) fun t29=>
 gM t29 false v2 h8 fun t30 h31 y32=>
 gP t29 false (oBin .eql t30 (AI 3)) h31 fun t33 h34 y35=>
 gM t29 false t33 h34 fun t36 h37 y38=>
 gM t36 true v0 h37 fun t39 h40 y41=>
 gM t36 true v8 h40 fun t42 h43 y44=>
 gM t36 true t13 h43 fun t45 h46 y47=>
 gP t36 true (oIaddr (some 4) t42 t45 h46) h46 fun t48 h49 y50=>
 gP t36 true (oLoad (some 4) t48 h49) h49 fun t51 h52 y53=>
 gV t36 true h52 (C f_q02o [t39,t51] h52) fun t54 h55 y56=>
 gP t36 true (oBin .geq t54 (AI 0)) h55 fun t57 h58 y59=>
 gP t29 false (oPick t36 t57 (AB false)) h58 fun t60 h61 y62=>
 pK (oPick t29 (AB true) t60) fun t63=>
 condB t63 (pK (oLoad (some 4) t4 h61) fun t64=>
 pK (oIaddr (some 4) v8 t13 h61) fun t65=>
 wK (oStore (some 4) t65 t64 h61) fun t66 h67 y68=>
 NW C gl q1 ⟨[(0,v0),(2,v2),(7,v7),(8,v8),(14,v14),(15,v15),(16,v16)],h67,(y68 ++ (y62 ++ (y59 ++ (y56 ++ (y53 ++ (y50 ++ (y47 ++ (y44 ++ (y41 ++ (y38 ++ (y35 ++ (y32 ++ (y9 ++ (y6 ++ x))))))))))))))⟩ K)
 (NW C gl q1 ⟨[(0,v0),(2,v2),(7,v7),(8,v8),(10,t4),(11,t13),(14,v14),(15,v15),(16,v16),(52,t63)],h61,(y62 ++ (y59 ++ (y56 ++ (y53 ++ (y50 ++ (y47 ++ (y44 ++ (y41 ++ (y38 ++ (y35 ++ (y32 ++ (y9 ++ (y6 ++ x)))))))))))))⟩ K)))
 (K (.exit 0) ⟨[(0,v0),(2,v2),(7,v7),(8,v8),(14,v14),(15,v15),(16,v16),(17,t1)],h,x⟩)
theorem E_q02p_k2 {C gl q1 e h x K} : NW C gl (P_q02p_k2 q1) ⟨e,h,x⟩ K = d_q02p_k2 C gl q1 (aget e 0) (aget e 2) (aget e 7) (aget e 8) (aget e 14) (aget e 15) (aget e 16) h x K:=by kernel_rfl
theorem e_q02p_k2 {C gl e h x K} : NW C gl p_q02p_k2 ⟨e,h,x⟩ K = d_q02p_k2 C gl p_q02p_k1 (aget e 0) (aget e 2) (aget e 7) (aget e 8) (aget e 14) (aget e 15) (aget e 16) h x K:=E_q02p_k2
theorem l_q02p_k2 {C gl e h x K} : NW C gl (.loop (.scope p_q02p_k2)) ⟨e,h,x⟩ K = NLoop C gl (.scope p_q02p_k2) K [(0,aget e 0),(2,aget e 2),(7,aget e 7),(8,aget e 8),(14,aget e 14),(15,aget e 15),(16,aget e 16)] h x:=NLoop_sc
def p_q02p_k3 : ACode:=.pr [8] (.seq (rg [mV 58 8,
cL 59 f_q05r [58,(.f f_q02q)]] [8])
(.seq (rg [mV 60 8,
mV 6 60] [6])
.ret))
def d_q02p_k3 (C : Hd) (gl : GL) (v8 : AV) (h : Heap) (x : Esc) (K : KT) : Prop:=
 C f_q05r [v8,(.fn f_q02q [])] h fun t1 h2 y3=>
 K .ret ⟨[(6,v8)],h2,(y3 ++ x)⟩
theorem e_q02p_k3 {C gl e h x K} : NW C gl p_q02p_k3 ⟨e,h,x⟩ K = d_q02p_k3 C gl (aget e 8) h x K:=by kernel_rfl
def P_q02p (q2 q3 : ACode) : ACode:=(.seq (rg [mV 6 (.c (.p (.sl (some 4) [])))] [0,1,2])
(.seq (rg [uO 13 (.mkmap),
mV 7 13] [0,1,2,7])
(.seq (rg [uO 8 (.new0 (some 4))] [0,1,2,7,8])
(.seq (.seq (rg [mV 14 1,
lN 15 14,
mV 16 (cI 0)] [0,2,7,8,14,15,16])
(.block 0 (.loop (.scope q2))))
q3))))
def a_q02p : AFun:=⟨3,[.t 6],P_q02p p_q02p_k2 p_q02p_k3,false,false⟩
def d_q02p (C : Hd) (gl : GL) (q2 q3 : ACode) (v0 v1 v2 : AV) (h : Heap) (x : Esc) (K : KT) : Prop:=
 mmK h fun t1 h2 y3=>
 nwK (some 4) h2 fun t4 h5 y6=>
 pK (oLen v1) fun t7=>
 NW C gl (.loop (.scope q2)) ⟨[(0,v0),(2,v2),(7,t1),(8,t4),(14,v1),(15,t7),(16,(AI 0))],h5,(y6 ++ (y3 ++ x))⟩ (blockN 0 (seqN C gl q3 K))
theorem E_q02p {C gl q2 q3 v0 v1 v2 h x K} : NW C gl (P_q02p q2 q3) ⟨enter [v0,v1,v2],h,x⟩ K = d_q02p C gl q2 q3 v0 v1 v2 h x K:=by kernel_rfl
theorem e_q02p {C gl v0 v1 v2 h x K} : NW C gl a_q02p.body ⟨enter [v0,v1,v2],h,x⟩ K = d_q02p C gl p_q02p_k2 p_q02p_k3 v0 v1 v2 h x K:=E_q02p
def P_q02w : ACode:=(.seq (rg [uO 4 (.alloc [.p (.str []),.p (.str [])])] [0,1,4])
(.seq (rg [mV 5 0,
mV 6 1,
cL 7 f_q07r [6],
uO 8 (.build [.p (.str []),.p (.str [])] [(0,1,5),(1,1,7)]),
wO (.store (some 2) 4 8)] [4])
.ret))
def a_q02w : AFun:=⟨2,[.cell 4 (some 2)],P_q02w,false,false⟩
def d_q02w (C : Hd) (gl : GL) (v0 v1 : AV) (h : Heap) (x : Esc) (K : KT) : Prop:=
 alK [.p (.str []),.p (.str [])] h fun t1 h2 y3=>
 C f_q07r [v1] h2 fun t4 h5 y6=>
 pK (oBuild [.p (.str []),.p (.str [])] [(0,1,v0),(1,1,t4)]) fun t7=>
 wK (oStore (some 2) t1 t7 h5) fun t8 h9 y10=>
 K .ret ⟨[(4,t1)],h9,(y10 ++ (y6 ++ (y3 ++ x)))⟩
theorem e_q02w {C gl v0 v1 h x K} : NW C gl a_q02w.body ⟨enter [v0,v1],h,x⟩ K = d_q02w C gl v0 v1 h x K:=by kernel_rfl
def P_q02h : ACode:=(.seq (rg [uO 3 (.box 1),
mV 4 (cI 0)] [0,3])
(.seq (.seq (rg [mV 6 0,
lD 7 (some 4) 3,
cL 8 f_q02o [6,7],
mV 5 8] [0,5])
(.seq (rg [mV 9 5,
bN 10 .geq 9 (cI 0)] [0,5,10])
(.cond 10 (.seq (rg [mV 11 0,
mV 12 5,
iA 13 (some 4) 11 12,
fA 14 3 none 13,
lD 15 none 14,
mV 4 15] [4])
.ret)
.skip)))
(.seq (rg [mV 4 (cI 1)] [4])
.ret)))
def a_q02h : AFun:=⟨2,[.t 4],P_q02h,false,false⟩
def d_q02h (C : Hd) (gl : GL) (v0 v1 : AV) (h : Heap) (x : Esc) (K : KT) : Prop:=
 wK (oBox v1 h) fun t1 h2 y3=>
 pK (oLoad (some 4) t1 h2) fun t4=>
 C f_q02o [v0,t4] h2 fun t5 h6 y7=>
 pK (oBin .geq t5 (AI 0)) fun t8=>
 condB t8 (pK (oIaddr (some 4) v0 t5 h6) fun t9=>
 pK (oFaddr 3 none t9) fun t10=>
 pK (oLoad none t10 h6) fun t11=>
 K .ret ⟨[(4,t11)],h6,(y7 ++ (y3 ++ x))⟩)
 (K .ret ⟨[(4,(AI 1))],h6,(y7 ++ (y3 ++ x))⟩)
theorem e_q02h {C gl v0 v1 h x K} : NW C gl a_q02h.body ⟨enter [v0,v1],h,x⟩ K = d_q02h C gl v0 v1 h x K:=by kernel_rfl
def P_q02o : ACode:=(.seq (rg [uO 3 (.box 1),
mV 4 (cI 0)] [0,3])
(.seq (rg [fA 6 3 none 3,
lD 7 none 6,
lN 8 7,
bN 9 .sub 8 (cI 1),
mV 5 9] [0,3,5])
(.seq (.seq (dr [dF (mV 10 0) [0],
dF (mV 11 5) [5],
dF (iA 12 (some 4) 10 11) [10,11],
dF (lD 13 (some 4) 12) [12],
dF (fA 14 3 none 3) [3],
dF (lD 15 none 14) [14],
dF (mV 16 5) [5],
dF (iA 17 none 15 16) [15,16],
dF (lD 18 none 17) [17],
dT (cL 19 f_q02t [13,18]) [13,18]] [5,19])
(.cond 19 (.seq (rg [mV 4 (cI (-1))] [4])
.ret)
.skip))
(.seq (rg [mV 20 5,
mV 4 20] [4])
.ret))))
def a_q02o : AFun:=⟨2,[.t 4],P_q02o,false,false⟩
def d_q02o (C : Hd) (gl : GL) (v0 v1 : AV) (h : Heap) (x : Esc) (K : KT) : Prop:=
 wK (oBox v1 h) fun t1 h2 y3=>
 pK (oFaddr 3 none t1) fun t4=>
 pK (oLoad none t4 h2) fun t5=>
 pK (oLen t5) fun t6=>
 pK (oBin .sub t6 (AI 1)) fun t7=>
 pK (oIaddr (some 4) v0 t7 h2) fun t8=>
 pK (oLoad (some 4) t8 h2) fun t9=>
 pK (oFaddr 3 none t1) fun t10=>
 pK (oLoad none t10 h2) fun t11=>
 pK (oIaddr none t11 t7 h2) fun t12=>
 pK (oLoad none t12 h2) fun t13=>
 callE C f_q02t [t9,t13] h2 fun t14 h15 y16=>
 condB t14 (K .ret ⟨[(4,(AI (-1)))],h15,(y16 ++ (y3 ++ x))⟩)
 (K .ret ⟨[(4,t7)],h15,(y16 ++ (y3 ++ x))⟩)
theorem e_q02o {C gl v0 v1 h x K} : NW C gl a_q02o.body ⟨enter [v0,v1],h,x⟩ K = d_q02o C gl v0 v1 h x K:=by kernel_rfl
def P_q004 : ACode:=(.seq (rg [uO 4 (.alloc [.p (.int .i64 0),.p (.int .i64 0)])] [0,1,4])
(.seq (rg [mV 6 0,
mV 7 0,
uO 8 (.un .neg 7),
uO 9 (.mx [6,8]),
mV 10 1,
cL 11 f_q005 [9,10],
mV 5 11] [0,1,4,5])
(.seq (dr [dF (mV 12 0) [0],
dF (mV 13 5) [5],
dF (bN 14 .quo 12 13) [12,13],
dF (mV 15 1) [1],
dF (mV 16 5) [5],
dF (bN 17 .quo 15 16) [15,16],
dF (uO 18 (.build [.p (.int .i64 0),.p (.int .i64 0)] [(0,1,14),(1,1,17)])) [14,17],
dT (wO (.store (some 2) 4 18)) [4,18]] [4])
.ret)))
def a_q004 : AFun:=⟨2,[.cell 4 (some 2)],P_q004,false,false⟩
def d_q004 (C : Hd) (gl : GL) (v0 v1 : AV) (h : Heap) (x : Esc) (K : KT) : Prop:=
 alK [.p (.int .i64 0),.p (.int .i64 0)] h fun t1 h2 y3=>
 pK (oUn .neg v0) fun t4=>
 pK (oMx [v0,t4]) fun t5=>
 C f_q005 [t5,v1] h2 fun t6 h7 y8=>
 pK (oBin .quo v0 t6) fun t9=>
 pK (oBin .quo v1 t6) fun t10=>
 pK (oBuild [.p (.int .i64 0),.p (.int .i64 0)] [(0,1,t9),(1,1,t10)]) fun t11=>
 wK (oStore (some 2) t1 t11 h7) fun t12 h13 y14=>
 K .ret ⟨[(4,t1)],h13,(y14 ++ (y8 ++ (y3 ++ x)))⟩
theorem e_q004 {C gl v0 v1 h x K} : NW C gl a_q004.body ⟨enter [v0,v1],h,x⟩ K = d_q004 C gl v0 v1 h x K:=by kernel_rfl
def P_q023 : ACode:=(.seq (rg [mV 4 (cI 0)] [0,1])
(.seq (.seq (rg [mV 6 0,
cL 7 f_q022 [6],
mV 5 7] [0,1,5])
(.seq (rg [mV 8 5,
bN 9 .neq 8 (cI 0)] [0,1,5,9])
(.cond 9 (.seq (rg [mV 10 5,
mV 4 10] [4])
.ret)
.skip)))
(.seq (rg [mV 11 0,
mV 12 1,
cL 13 f_q02z [11,12],
mV 4 13] [4])
.ret)))
def a_q023 : AFun:=⟨2,[.t 4],P_q023,false,false⟩
def d_q023 (C : Hd) (gl : GL) (v0 v1 : AV) (h : Heap) (x : Esc) (K : KT) : Prop:=
 C f_q022 [v0] h fun t1 h2 y3=>
 pK (oBin .neq t1 (AI 0)) fun t4=>
 condB t4 (K .ret ⟨[(4,t1)],h2,(y3 ++ x)⟩)
 (C f_q02z [v0,v1] h2 fun t5 h6 y7=>
 K .ret ⟨[(4,t5)],h6,(y7 ++ (y3 ++ x))⟩)
theorem e_q023 {C gl v0 v1 h x K} : NW C gl a_q023.body ⟨enter [v0,v1],h,x⟩ K = d_q023 C gl v0 v1 h x K:=by kernel_rfl
def P_q02t : ACode:=(.seq (rg [uO 2 (.box 0),
mV 4 cF] [1,2])
(.seq (rg [mV 5 1,
fA 6 1 none 2,
lD 7 none 6,
fA 8 2 none 2,
lD 9 none 8,
cL 10 f_q008 [5,7,9],
uO 11 (.un .not 10),
mV 4 11] [4])
.ret))
def a_q02t : AFun:=⟨2,[.t 4],P_q02t,false,false⟩
def d_q02t (C : Hd) (gl : GL) (v0 v1 : AV) (h : Heap) (x : Esc) (K : KT) : Prop:=
 wK (oBox v0 h) fun t1 h2 y3=>
 pK (oFaddr 1 none t1) fun t4=>
 pK (oLoad none t4 h2) fun t5=>
 pK (oFaddr 2 none t1) fun t6=>
 pK (oLoad none t6 h2) fun t7=>
 C f_q008 [v1,t5,t7] h2 fun t8 h9 y10=>
 pK (oUn .not t8) fun t11=>
 K .ret ⟨[(4,t11)],h9,(y10 ++ (y3 ++ x))⟩
theorem e_q02t {C gl v0 v1 h x K} : NW C gl a_q02t.body ⟨enter [v0,v1],h,x⟩ K = d_q02t C gl v0 v1 h x K:=by kernel_rfl
def p_q009_k1 : ACode:=.pr [2,4,5,15,16,17] (.seq (rg [bN 18 .lss 17 16] [2,4,5,15,16,17,18])
(.seq (.cond 18 .skip
(.exit 0))
(.seq (.block 1 (.seq (rg [iA 19 (some 2) 15 17,
lD 20 (some 2) 19,
uO 7 (.alloc [.p (.int .i64 0),.p (.int .i64 0)]),
wO (.store (some 2) 7 20)] [2,4,5,7,15,16,17])
(.seq (.seq (rg [fA 21 0 none 7,
lD 22 none 21,
bN 23 .eql 22 (cI 0)] [2,4,5,7,15,16,17,23])
(.cond 23 (.seq (rg [uO 24 (.build [.p (.int .i64 0),.p (.int .i64 0)] [(1,1,(cI 1))]),
wO (.store (some 2) 2 24),
mV 3 cT] [2,3])
.ret)
.skip))
(.seq (rg [mV 25 5,
fA 26 0 none 7,
lD 27 none 26,
uO 28 (.callv 25 [27,(cI 1)])] [2,4,5,7,15,16,17])
(rg [mV 29 5,
fA 30 1 none 7,
lD 31 none 30,
uO 32 (.callv 29 [31,(cI (-1))])] [2,4,5,15,16,17])))))
(rg [bN 33 .add 17 (cI 1),
mV 17 33] [2,4,5,15,16,17]))))
def d_q009_k1 (C : Hd) (gl : GL) (v2 v4 v5 v15 v16 v17 : AV) (h : Heap) (x : Esc) (K : KT) : Prop:=
 pK (oBin .lss v17 v16) fun t1=>
 condB t1 (pK (oIaddr (some 2) v15 v17 h) fun t2=>
 pK (oLoad (some 2) t2 h) fun t3=>
 alK [.p (.int .i64 0),.p (.int .i64 0)] h fun t4 h5 y6=>
 wK (oStore (some 2) t4 t3 h5) fun t7 h8 y9=>
 pK (oFaddr 0 none t4) fun t10=>
 pK (oLoad none t10 h8) fun t11=>
 pK (oBin .eql t11 (AI 0)) fun t12=>
 condB t12 (pK (oBuild [.p (.int .i64 0),.p (.int .i64 0)] [(1,1,(AI 1))]) fun t13=>
 wK (oStore (some 2) v2 t13 h8) fun t14 h15 y16=>
 K .ret ⟨[(2,v2),(3,(AB true))],h15,(y16 ++ (y9 ++ (y6 ++ x)))⟩)
 (pK (oFaddr 0 none t4) fun t17=>
 pK (oLoad none t17 h8) fun t18=>
 callvK C v5 [t18,(AI 1)] h8 fun t19 h20 y21=>
 pK (oFaddr 1 none t4) fun t22=>
 pK (oLoad none t22 h20) fun t23=>
 callvK C v5 [t23,(AI (-1))] h20 fun t24 h25 y26=>
 pK (oBin .add v17 (AI 1)) fun t27=>
 K .normal ⟨[(2,v2),(4,v4),(5,v5),(15,v15),(16,v16),(17,t27)],h25,(y26 ++ (y21 ++ (y9 ++ (y6 ++ x))))⟩))
 (K (.exit 0) ⟨[(2,v2),(4,v4),(5,v5),(15,v15),(16,v16),(17,v17),(18,t1)],h,x⟩)
theorem e_q009_k1 {C gl e h x K} : NW C gl p_q009_k1 ⟨e,h,x⟩ K = d_q009_k1 C gl (aget e 2) (aget e 4) (aget e 5) (aget e 15) (aget e 16) (aget e 17) h x K:=by kernel_rfl
theorem l_q009_k1 {C gl e h x K} : NW C gl (.loop (.scope p_q009_k1)) ⟨e,h,x⟩ K = NLoop C gl (.scope p_q009_k1) K [(2,aget e 2),(4,aget e 4),(5,aget e 5),(15,aget e 15),(16,aget e 16),(17,aget e 17)] h x:=NLoop_sc
def p_q009_k2 : ACode:=.pr [2,4,8,9,36,43,44] (.seq (rg [bN 45 .lss 44 43] [2,4,8,9,36,43,44,45])
(.seq (.cond 45 .skip
(.exit 4))
(.seq (.block 5 (.seq (.seq (dr [dF (fA 46 1 none 8) [8],
dF (lD 47 none 46) [46],
dF (mV 48 9) [9],
dF (bN 49 .quo (cI 1000000000000000) 48) [48],
dF (bN 50 .gtr 47 49) [47,49]] [2,4,8,9,36,43,44,50])
(.cond 50 (.seq (rg [uO 51 (.build [.p (.int .i64 0),.p (.int .i64 0)] []),
wO (.store (some 2) 2 51),
mV 3 cF] [2,3])
.ret)
.skip))
(rg [fA 52 1 none 8,
lD 53 none 52,
mV 54 9,
bN 55 .mul 53 54,
fA 56 1 none 8,
wO (.store none 56 55)] [2,4,8,9,36,43,44])))
(rg [bN 57 .add 44 (cI 1),
mV 44 57] [2,4,8,9,36,43,44]))))
def d_q009_k2 (C : Hd) (gl : GL) (v2 v4 v8 v9 v36 v43 v44 : AV) (h : Heap) (x : Esc) (K : KT) : Prop:=
 pK (oBin .lss v44 v43) fun t1=>
 condB t1 (pK (oFaddr 1 none v8) fun t2=>
 pK (oLoad none t2 h) fun t3=>
 pK (oBin .quo (AI 1000000000000000) v9) fun t4=>
 pK (oBin .gtr t3 t4) fun t5=>
 condB t5 (pK (oBuild [.p (.int .i64 0),.p (.int .i64 0)] []) fun t6=>
 wK (oStore (some 2) v2 t6 h) fun t7 h8 y9=>
 K .ret ⟨[(2,v2),(3,(AB false))],h8,(y9 ++ x)⟩)
 (pK (oFaddr 1 none v8) fun t10=>
 pK (oLoad none t10 h) fun t11=>
 pK (oBin .mul t11 v9) fun t12=>
 pK (oFaddr 1 none v8) fun t13=>
 wK (oStore none t13 t12 h) fun t14 h15 y16=>
 pK (oBin .add v44 (AI 1)) fun t17=>
 K .normal ⟨[(2,v2),(4,v4),(8,v8),(9,v9),(36,v36),(43,v43),(44,t17)],h15,(y16 ++ x)⟩))
 (K (.exit 4) ⟨[(2,v2),(4,v4),(8,v8),(9,v9),(36,v36),(43,v43),(44,v44),(45,t1)],h,x⟩)
theorem e_q009_k2 {C gl e h x K} : NW C gl p_q009_k2 ⟨e,h,x⟩ K = d_q009_k2 C gl (aget e 2) (aget e 4) (aget e 8) (aget e 9) (aget e 36) (aget e 43) (aget e 44) h x K:=by kernel_rfl
theorem l_q009_k2 {C gl e h x K} : NW C gl (.loop p_q009_k2) ⟨e,h,x⟩ K = NLoop C gl p_q009_k2 K [(2,aget e 2),(4,aget e 4),(8,aget e 8),(9,aget e 9),(36,aget e 36),(43,aget e 43),(44,aget e 44)] h x:=NLoop_pr
def P_q009_k3 (q2 : ACode) : ACode:=.pr [2,4,8,36] (.seq (rg [uO 37 (.mnext none [36]),
eX 38 37 0] [2,4,8,36,38])
(.seq (.cond 38 .skip
(.exit 2))
(.block 3 (.seq (rg [uO 39 (.mentry 36),
eX 40 39 0,
eX 41 39 1,
mV 9 40,
mV 10 41] [2,4,8,9,10,36])
(.seq (rg [mV 42 10,
uO 43 (.un .neg 42),
mV 44 (cI 0)] [2,4,8,9,36,43,44])
(.block 4 (.loop q2)))))))
def p_q009_k3 : ACode:=P_q009_k3 p_q009_k2
def d_q009_k3 (C : Hd) (gl : GL) (q2 : ACode) (v2 v4 v8 v36 : AV) (h : Heap) (x : Esc) (K : KT) : Prop:=
 nxK v36 h fun t1 h2 y3=>
 pK (oExt t1 0) fun t4=>
 condB t4 (wK (oMentry v36 h2) fun t5 h6 y7=>
 pK (oExt t5 0) fun t8=>
 pK (oExt t5 1) fun t9=>
 pK (oUn .neg t9) fun t10=>
 NW C gl (.loop q2) ⟨[(2,v2),(4,v4),(8,v8),(9,t8),(36,v36),(43,t10),(44,(AI 0))],h6,(y7 ++ (y3 ++ x))⟩ (blockN 4 (blockN 3 K)))
 (K (.exit 2) ⟨[(2,v2),(4,v4),(8,v8),(36,v36),(38,t4)],h2,(y3 ++ x)⟩)
theorem E_q009_k3 {C gl q2 e h x K} : NW C gl (P_q009_k3 q2) ⟨e,h,x⟩ K = d_q009_k3 C gl q2 (aget e 2) (aget e 4) (aget e 8) (aget e 36) h x K:=by kernel_rfl
theorem e_q009_k3 {C gl e h x K} : NW C gl p_q009_k3 ⟨e,h,x⟩ K = d_q009_k3 C gl p_q009_k2 (aget e 2) (aget e 4) (aget e 8) (aget e 36) h x K:=E_q009_k3
theorem l_q009_k3 {C gl e h x K} : NW C gl (.loop p_q009_k3) ⟨e,h,x⟩ K = NLoop C gl p_q009_k3 K [(2,aget e 2),(4,aget e 4),(8,aget e 8),(36,aget e 36)] h x:=NLoop_pr
def p_q009_k4 : ACode:=.pr [2,8,11,59,65,66] (.seq (rg [bN 67 .lss 66 65] [2,8,11,59,65,66,67])
(.seq (.cond 67 .skip
(.exit 8))
(.seq (.block 9 (rg [fA 68 0 none 8,
lD 69 none 68,
mV 70 11,
bN 71 .mul 69 70,
fA 72 0 none 8,
wO (.store none 72 71)] [2,8,11,59,65,66]))
(rg [bN 73 .add 66 (cI 1),
mV 66 73] [2,8,11,59,65,66]))))
def d_q009_k4 (C : Hd) (gl : GL) (v2 v8 v11 v59 v65 v66 : AV) (h : Heap) (x : Esc) (K : KT) : Prop:=
 pK (oBin .lss v66 v65) fun t1=>
 condB t1 (pK (oFaddr 0 none v8) fun t2=>
 pK (oLoad none t2 h) fun t3=>
 pK (oBin .mul t3 v11) fun t4=>
 pK (oFaddr 0 none v8) fun t5=>
 wK (oStore none t5 t4 h) fun t6 h7 y8=>
 pK (oBin .add v66 (AI 1)) fun t9=>
 K .normal ⟨[(2,v2),(8,v8),(11,v11),(59,v59),(65,v65),(66,t9)],h7,(y8 ++ x)⟩)
 (K (.exit 8) ⟨[(2,v2),(8,v8),(11,v11),(59,v59),(65,v65),(66,v66),(67,t1)],h,x⟩)
theorem e_q009_k4 {C gl e h x K} : NW C gl p_q009_k4 ⟨e,h,x⟩ K = d_q009_k4 C gl (aget e 2) (aget e 8) (aget e 11) (aget e 59) (aget e 65) (aget e 66) h x K:=by kernel_rfl
theorem l_q009_k4 {C gl e h x K} : NW C gl (.loop p_q009_k4) ⟨e,h,x⟩ K = NLoop C gl p_q009_k4 K [(2,aget e 2),(8,aget e 8),(11,aget e 11),(59,aget e 59),(65,aget e 65),(66,aget e 66)] h x:=NLoop_pr
def P_q009_k5 (q4 : ACode) : ACode:=.pr [2,8,59] (.seq (rg [uO 60 (.mnext none [59]),
eX 61 60 0] [2,8,59,61])
(.seq (.cond 61 .skip
(.exit 6))
(.block 7 (.seq (rg [uO 62 (.mentry 59),
eX 63 62 0,
eX 64 62 1,
mV 11 63,
mV 12 64] [2,8,11,12,59])
(.seq (rg [mV 65 12,
mV 66 (cI 0)] [2,8,11,59,65,66])
(.block 8 (.loop q4)))))))
def p_q009_k5 : ACode:=P_q009_k5 p_q009_k4
def d_q009_k5 (C : Hd) (gl : GL) (q4 : ACode) (v2 v8 v59 : AV) (h : Heap) (x : Esc) (K : KT) : Prop:=
 nxK v59 h fun t1 h2 y3=>
 pK (oExt t1 0) fun t4=>
 condB t4 (wK (oMentry v59 h2) fun t5 h6 y7=>
 pK (oExt t5 0) fun t8=>
 pK (oExt t5 1) fun t9=>
 NW C gl (.loop q4) ⟨[(2,v2),(8,v8),(11,t8),(59,v59),(65,t9),(66,(AI 0))],h6,(y7 ++ (y3 ++ x))⟩ (blockN 8 (blockN 7 K)))
 (K (.exit 6) ⟨[(2,v2),(8,v8),(59,v59),(61,t4)],h2,(y3 ++ x)⟩)
theorem E_q009_k5 {C gl q4 e h x K} : NW C gl (P_q009_k5 q4) ⟨e,h,x⟩ K = d_q009_k5 C gl q4 (aget e 2) (aget e 8) (aget e 59) h x K:=by kernel_rfl
theorem e_q009_k5 {C gl e h x K} : NW C gl p_q009_k5 ⟨e,h,x⟩ K = d_q009_k5 C gl p_q009_k4 (aget e 2) (aget e 8) (aget e 59) h x K:=E_q009_k5
theorem l_q009_k5 {C gl e h x K} : NW C gl (.loop p_q009_k5) ⟨e,h,x⟩ K = NLoop C gl p_q009_k5 K [(2,aget e 2),(8,aget e 8),(59,aget e 59)] h x:=NLoop_pr
def p_q009_k6 : ACode:=.pr [2,8] (.seq (rg [lD 74 (some 2) 8,
wO (.store (some 2) 2 74),
mV 3 cT] [2,3])
.ret)
def d_q009_k6 (C : Hd) (gl : GL) (v2 v8 : AV) (h : Heap) (x : Esc) (K : KT) : Prop:=
 pK (oLoad (some 2) v8 h) fun t1=>
 wK (oStore (some 2) v2 t1 h) fun t2 h3 y4=>
 K .ret ⟨[(2,v2),(3,(AB true))],h3,(y4 ++ x)⟩
theorem e_q009_k6 {C gl e h x K} : NW C gl p_q009_k6 ⟨e,h,x⟩ K = d_q009_k6 C gl (aget e 2) (aget e 8) h x K:=by kernel_rfl
def P_q009_k7 (q5 q6 : ACode) : ACode:=.pr [2,4,8] (.seq (.seq (rg [lD 58 none 4,
uO 59 (.mrange 58)] [2,8,59])
(.block 6 (.loop q5)))
q6)
def p_q009_k7 : ACode:=P_q009_k7 p_q009_k5 p_q009_k6
def d_q009_k7 (C : Hd) (gl : GL) (q5 q6 : ACode) (v2 v4 v8 : AV) (h : Heap) (x : Esc) (K : KT) : Prop:=
 pK (oLoad none v4 h) fun t1=>
 wK (oMrange t1 h) fun t2 h3 y4=>
 NW C gl (.loop q5) ⟨[(2,v2),(8,v8),(59,t2)],h3,(y4 ++ x)⟩ (blockN 6 (seqN C gl q6 K))
theorem E_q009_k7 {C gl q5 q6 e h x K} : NW C gl (P_q009_k7 q5 q6) ⟨e,h,x⟩ K = d_q009_k7 C gl q5 q6 (aget e 2) (aget e 4) (aget e 8) h x K:=by kernel_rfl
theorem e_q009_k7 {C gl e h x K} : NW C gl p_q009_k7 ⟨e,h,x⟩ K = d_q009_k7 C gl p_q009_k5 p_q009_k6 (aget e 2) (aget e 4) (aget e 8) h x K:=E_q009_k7
def P_q009_k8 (q3 q7 : ACode) : ACode:=.pr [2,4] (.seq (rg [uO 34 (.build [.p (.int .i64 0),.p (.int .i64 0)] [(0,1,(cI 1)),(1,1,(cI 1))]),
uO 8 (.alloc [.p (.int .i64 0),.p (.int .i64 0)]),
wO (.store (some 2) 8 34)] [2,4,8])
(.seq (.seq (rg [lD 35 none 4,
uO 36 (.mrange 35)] [2,4,8,36])
(.block 2 (.loop q3)))
q7))
def p_q009_k8 : ACode:=P_q009_k8 p_q009_k3 p_q009_k7
def d_q009_k8 (C : Hd) (gl : GL) (q3 q7 : ACode) (v2 v4 : AV) (h : Heap) (x : Esc) (K : KT) : Prop:=
 pK (oBuild [.p (.int .i64 0),.p (.int .i64 0)] [(0,1,(AI 1)),(1,1,(AI 1))]) fun t1=>
 alK [.p (.int .i64 0),.p (.int .i64 0)] h fun t2 h3 y4=>
 wK (oStore (some 2) t2 t1 h3) fun t5 h6 y7=>
 pK (oLoad none v4 h6) fun t8=>
 wK (oMrange t8 h6) fun t9 h10 y11=>
 NW C gl (.loop q3) ⟨[(2,v2),(4,v4),(8,t2),(36,t9)],h10,(y11 ++ (y7 ++ (y4 ++ x)))⟩ (blockN 2 (seqN C gl q7 K))
theorem E_q009_k8 {C gl q3 q7 e h x K} : NW C gl (P_q009_k8 q3 q7) ⟨e,h,x⟩ K = d_q009_k8 C gl q3 q7 (aget e 2) (aget e 4) h x K:=by kernel_rfl
theorem e_q009_k8 {C gl e h x K} : NW C gl p_q009_k8 ⟨e,h,x⟩ K = d_q009_k8 C gl p_q009_k3 p_q009_k7 (aget e 2) (aget e 4) h x K:=E_q009_k8
def P_q009 (q1 q8 : ACode) : ACode:=(.det (.seq (rg [uO 2 (.alloc [.p (.int .i64 0),.p (.int .i64 0)]),
mV 3 cF] [0,2])
(.seq (rg [uO 13 (.mkmap),
uO 4 (.alloc [.nilm]),
wO (.store none 4 13)] [0,2,4])
(.seq (rg [uO 14 (.mkfn f_q00a [4]),
mV 5 14] [0,2,4,5])
(.seq (.seq (rg [mV 15 0,
lN 16 15,
mV 17 (cI 0)] [2,4,5,15,16,17])
(.block 0 (.loop (.scope q1))))
q8)))))
def a_q009 : AFun:=⟨1,[.cell 2 (some 2),.t 3],P_q009 p_q009_k1 p_q009_k8,false,false⟩
def d_q009 (C : Hd) (gl : GL) (q1 q8 : ACode) (v0 : AV) (h : Heap) (x : Esc) (K : KT) : Prop:=
 alK [.p (.int .i64 0),.p (.int .i64 0)] h fun t1 h2 y3=>
 mmK h2 fun t4 h5 y6=>
 alK [.nilm] h5 fun t7 h8 y9=>
 wK (oStore none t7 t4 h8) fun t10 h11 y12=>
 pK (oLen v0) fun t13=>
 NW C gl (.loop (.scope q1)) ⟨[(2,t1),(4,t7),(5,(.fn f_q00a [t7])),(15,v0),(16,t13),(17,(AI 0))],h11,(y12 ++ (y9 ++ (y6 ++ (y3 ++ x))))⟩ (blockN 0 (seqN C gl q8 K))
theorem E_q009 {C gl q1 q8 v0 h x K} : NW C gl (P_q009 q1 q8) ⟨enter [v0],h,x⟩ K = d_q009 C gl q1 q8 v0 h x K:=by kernel_rfl
theorem e_q009 {C gl v0 h x K} : NW C gl a_q009.body ⟨enter [v0],h,x⟩ K = d_q009 C gl p_q009_k1 p_q009_k8 v0 h x K:=E_q009
def p_q04d_k1 : ACode:=.pr [0,13,14,15] (.seq (rg [bN 16 .lss 15 14] [0,13,14,15,16])
(.seq (.cond 16 .skip
(.exit 1))
(.seq (.block 2 (.seq (rg [mV 17 15,
iA 18 (some 4) 13 15,
lD 19 (some 4) 18,
uO 4 (.alloc [.p (.str []),.p (.int .i64 0),.p (.int .i64 0),.p (.int .i64 0)]),
mV 3 17,
wO (.store (some 4) 4 19)] [0,3,4,13,14,15])
(.block 3 (.seq (rg [fA 21 0 none 4,
lD 22 none 21,
cL 23 f_q04c [22],
uO 24 (.un .not 23),
mV 20 24] [0,3,4,13,14,15,20])
(.cond 20 (.seq (rg [mV 2 (cI 5)] [2])
.ret)
(.seq (dr [dF (mV 26 0) [0],
dF (mV 27 3) [3],
dF (uO 28 (.slice (some 4) 26 none (some 27) none)) [26,27],
dF (fA 29 0 none 4) [4],
dF (lD 30 none 29) [29],
dT (cL 31 f_q04j [28,30]) [28,30],
dF (bN 32 .geq 31 (cI 0)) [31],
dF (mV 25 32) [32]] [0,4,13,14,15,25])
(.cond 25 (.seq (rg [mV 2 (cI 6)] [2])
.ret)
(.seq (rg [fA 34 1 none 4,
lD 35 none 34,
fA 36 2 none 4,
lD 37 none 36,
cL 38 f_q04s [35,(cI (-100000)),37],
uO 39 (.un .not 38),
mV 40 39,
gD 41 40 false (.faddr 2 none 4),
gD 42 40 false (.load none 41),
gD 43 40 false (.bin .gtr 42 (cI 100000)),
uO 44 (.pick 40 cT 43),
mV 45 44,
gD 46 45 false (.faddr 3 none 4),
gD 47 45 false (.load none 46),
gD 48 45 false (.call f_q04s [47,(cI 2),(cI 100)]),
gD 49 45 false (.un .not 48),
uO 50 (.pick 45 cT 49),
mV 33 50] [0,13,14,15,33])
(.cond 33 (.seq (rg [mV 2 (cI 1)] [2])
.ret)
.skip)))))))))
(rg [bN 51 .add 15 (cI 1),
mV 15 51] [0,13,14,15]))))
def d_q04d_k1 (C : Hd) (gl : GL) (v0 v13 v14 v15 : AV) (h : Heap) (x : Esc) (K : KT) : Prop:=
 pK (oBin .lss v15 v14) fun t1=>
 condB t1 (pK (oIaddr (some 4) v13 v15 h) fun t2=>
 pK (oLoad (some 4) t2 h) fun t3=>
 alK [.p (.str []),.p (.int .i64 0),.p (.int .i64 0),.p (.int .i64 0)] h fun t4 h5 y6=>
 wK (oStore (some 4) t4 t3 h5) fun t7 h8 y9=>
 pK (oFaddr 0 none t4) fun t10=>
 pK (oLoad none t10 h8) fun t11=>
 C f_q04c [t11] h8 fun t12 h13 y14=>
 pK (oUn .not t12) fun t15=>
 condB t15 (K .ret ⟨[(2,(AI 5))],h13,(y14 ++ (y9 ++ (y6 ++ x)))⟩)
 (pK (oSlice (some 4) v0 none (some v15) none h13) fun t16=>
 pK (oFaddr 0 none t4) fun t17=>
 pK (oLoad none t17 h13) fun t18=>
 callE C f_q04j [t16,t18] h13 fun t19 h20 y21=>
 pK (oBin .geq t19 (AI 0)) fun t22=>
 condB t22 (K .ret ⟨[(2,(AI 6))],h20,(y21 ++ (y14 ++ (y9 ++ (y6 ++ x))))⟩)
 (pK (oFaddr 1 none t4) fun t23=>
 pK (oLoad none t23 h20) fun t24=>
 pK (oFaddr 2 none t4) fun t25=>
 pK (oLoad none t25 h20) fun t26=>
 C f_q04s [t24,(AI (-100000)),t26] h20 fun t27 h28 y29=>
 pK (oUn .not t27) fun t30=>
 gP t30 false (oFaddr 2 none t4) h28 fun t31 h32 y33=>
 gP t30 false (oLoad none t31 h32) h32 fun t34 h35 y36=>
 gP t30 false (oBin .gtr t34 (AI 100000)) h35 fun t37 h38 y39=>
 pK (oPick t30 (AB true) t37) fun t40=>
 gP t40 false (oFaddr 3 none t4) h38 fun t41 h42 y43=>
 gP t40 false (oLoad none t41 h42) h42 fun t44 h45 y46=>
 gV t40 false h45 (C f_q04s [t44,(AI 2),(AI 100)] h45) fun t47 h48 y49=>
 gP t40 false (oUn .not t47) h48 fun t50 h51 y52=>
 pK (oPick t40 (AB true) t50) fun t53=>
 condB t53 (K .ret ⟨[(2,(AI 1))],h51,(y52 ++ (y49 ++ (y46 ++ (y43 ++ (y39 ++ (y36 ++ (y33 ++ (y29 ++ (y21 ++ (y14 ++ (y9 ++ (y6 ++ x))))))))))))⟩)
 (pK (oBin .add v15 (AI 1)) fun t54=>
 K .normal ⟨[(0,v0),(13,v13),(14,v14),(15,t54)],h51,(y52 ++ (y49 ++ (y46 ++ (y43 ++ (y39 ++ (y36 ++ (y33 ++ (y29 ++ (y21 ++ (y14 ++ (y9 ++ (y6 ++ x))))))))))))⟩))))
 (K (.exit 1) ⟨[(0,v0),(13,v13),(14,v14),(15,v15),(16,t1)],h,x⟩)
theorem e_q04d_k1 {C gl e h x K} : NW C gl p_q04d_k1 ⟨e,h,x⟩ K = d_q04d_k1 C gl (aget e 0) (aget e 13) (aget e 14) (aget e 15) h x K:=by kernel_rfl
theorem l_q04d_k1 {C gl e h x K} : NW C gl (.loop (.scope p_q04d_k1)) ⟨e,h,x⟩ K = NLoop C gl (.scope p_q04d_k1) K [(0,aget e 0),(13,aget e 13),(14,aget e 14),(15,aget e 15)] h x:=NLoop_sc
def p_q04d_k2 : ACode:=.pr [] (.seq (rg [mV 2 (cI 0)] [2])
.ret)
def d_q04d_k2 (C : Hd) (gl : GL) (h : Heap) (x : Esc) (K : KT) : Prop:=
 K .ret ⟨[(2,(AI 0))],h,x⟩
theorem e_q04d_k2 {C gl e h x K} : NW C gl p_q04d_k2 ⟨e,h,x⟩ K = d_q04d_k2 C gl h x K:=by kernel_rfl
def P_q04d (q1 q2 : ACode) : ACode:=(.seq (rg [mV 2 (cI 0)] [0])
(.seq (.block 0 (.seq (rg [mV 6 0,
lN 7 6,
bN 8 .eql 7 (cI 0),
mV 5 8] [0,5])
(.cond 5 (.seq (rg [mV 2 (cI 8)] [2])
.ret)
(.seq (rg [mV 10 0,
lN 11 10,
bN 12 .gtr 11 (cI 100),
mV 9 12] [0,9])
(.cond 9 (.seq (rg [mV 2 (cI 2)] [2])
.ret)
.skip)))))
(.seq (.seq (rg [mV 13 0,
lN 14 13,
mV 15 (cI 0)] [0,13,14,15])
(.block 1 (.loop (.scope q1))))
q2)))
def a_q04d : AFun:=⟨1,[.t 2],P_q04d p_q04d_k1 p_q04d_k2,false,false⟩
def d_q04d (C : Hd) (gl : GL) (q1 q2 : ACode) (v0 : AV) (h : Heap) (x : Esc) (K : KT) : Prop:=
 pK (oLen v0) fun t1=>
 pK (oBin .eql t1 (AI 0)) fun t2=>
 condB t2 (K .ret ⟨[(2,(AI 8))],h,x⟩)
 (pK (oLen v0) fun t3=>
 pK (oBin .gtr t3 (AI 100)) fun t4=>
 condB t4 (K .ret ⟨[(2,(AI 2))],h,x⟩)
 (pK (oLen v0) fun t5=>
 NW C gl (.loop (.scope q1)) ⟨[(0,v0),(13,v0),(14,t5),(15,(AI 0))],h,x⟩ (blockN 1 (seqN C gl q2 K))))
theorem E_q04d {C gl q1 q2 v0 h x K} : NW C gl (P_q04d q1 q2) ⟨enter [v0],h,x⟩ K = d_q04d C gl q1 q2 v0 h x K:=by kernel_rfl
theorem e_q04d {C gl v0 h x K} : NW C gl a_q04d.body ⟨enter [v0],h,x⟩ K = d_q04d C gl p_q04d_k1 p_q04d_k2 v0 h x K:=E_q04d
end Go.Am
end
section
/- The functions asv abstract code,and asv formulas over their values: printed by program out of the translation. -/
set_option linter.unusedVariables false
set_option maxRecDepth 100000
namespace Go.Am
def P_q04v : ACode:=(.seq (rg [uO 3 (.box 1),
mV 4 (cI 0)] [0,3])
(.seq (.block 0 (.seq (rg [fA 8 0 none 3,
lD 9 none 8,
cL 10 f_q04c [9],
uO 11 (.un .not 10),
mV 12 11,
gD 13 12 false (.faddr 2 none 3),
gD 14 12 false (.load none 13),
gD 15 12 false (.call f_q04c [14]),
gD 16 12 false (.un .not 15),
uO 17 (.pick 12 cT 16),
mV 7 17] [0,3,7])
(.cond 7 (.seq (rg [mV 4 (cI 5)] [4])
.ret)
(.seq (rg [fA 19 1 none 3,
lD 20 none 19,
cL 21 f_q04f [20],
uO 22 (.un .not 21),
mV 18 22] [0,3,18])
(.cond 18 (.seq (rg [mV 4 (cI 1)] [4])
.ret)
(.seq (rg [fA 24 3 none 3,
lD 25 none 24,
cL 26 f_q057 [25,(.f f_q04w)],
mV 23 26] [0,3,23])
(.cond 23 (.seq (rg [mV 4 (cI 1)] [4])
.ret)
.skip)))))))
(.seq (rg [fA 27 3 none 3,
lD 28 none 27,
lN 29 28,
mV 5 29] [0,3,5])
(.seq (.seq (rg [mV 30 0,
fA 31 3 none 3,
lD 32 none 31,
cL 33 f_q04r [30,32],
mV 6 33] [0,5,6])
(.seq (rg [mV 34 5,
mV 35 0,
lN 36 35,
cL 37 f_q04s [34,(cI 1),36],
uO 38 (.un .not 37),
mV 39 38,
gD 40 39 false (.mv 6),
gD 41 39 false (.bin .geq 40 (cI 0)),
gD 42 39 false (.mv 41),
gD 43 42 true (.mv 6),
gD 44 42 true (.mv 5),
gD 45 42 true (.bin .sub 44 (cI 1)),
gD 46 42 true (.bin .neq 43 45),
gD 47 39 false (.pick 42 46 cF),
uO 48 (.pick 39 cT 47),
mV 49 48,
gD 50 49 false (.mv 6),
gD 51 49 false (.bin .lss 50 (cI 0)),
gD 52 49 false (.mv 51),
gD 53 52 true (.mv 5),
gD 54 52 true (.mv 0),
gD 55 52 true (.len 54),
gD 56 52 true (.bin .neq 53 55),
gD 57 49 false (.pick 52 56 cF),
uO 58 (.pick 49 cT 57)] [58])
(.cond 58 (.seq (rg [mV 4 (cI 3)] [4])
.ret)
.skip)))
(.seq (rg [mV 4 (cI 0)] [4])
.ret)))))
def a_q04v : AFun:=⟨2,[.t 4],P_q04v,false,false⟩
def d_q04v (C : Hd) (gl : GL) (v0 v1 : AV) (h : Heap) (x : Esc) (K : KT) : Prop:=
 wK (oBox v1 h) fun t1 h2 y3=>
 pK (oFaddr 0 none t1) fun t4=>
 pK (oLoad none t4 h2) fun t5=>
 C f_q04c [t5] h2 fun t6 h7 y8=>
 pK (oUn .not t6) fun t9=>
 gP t9 false (oFaddr 2 none t1) h7 fun t10 h11 y12=>
 gP t9 false (oLoad none t10 h11) h11 fun t13 h14 y15=>
 gV t9 false h14 (C f_q04c [t13] h14) fun t16 h17 y18=>
 gP t9 false (oUn .not t16) h17 fun t19 h20 y21=>
 pK (oPick t9 (AB true) t19) fun t22=>
 condB t22 (K .ret ⟨[(4,(AI 5))],h20,(y21 ++ (y18 ++ (y15 ++ (y12 ++ (y8 ++ (y3 ++ x))))))⟩)
 (pK (oFaddr 1 none t1) fun t23=>
 pK (oLoad none t23 h20) fun t24=>
 C f_q04f [t24] h20 fun t25 h26 y27=>
 pK (oUn .not t25) fun t28=>
 condB t28 (K .ret ⟨[(4,(AI 1))],h26,(y27 ++ (y21 ++ (y18 ++ (y15 ++ (y12 ++ (y8 ++ (y3 ++ x)))))))⟩)
 (pK (oFaddr 3 none t1) fun t29=>
 pK (oLoad none t29 h26) fun t30=>
 C f_q057 [t30,(.fn f_q04w [])] h26 fun t31 h32 y33=>
 condB t31 (K .ret ⟨[(4,(AI 1))],h32,(y33 ++ (y27 ++ (y21 ++ (y18 ++ (y15 ++ (y12 ++ (y8 ++ (y3 ++ x))))))))⟩)
 (pK (oFaddr 3 none t1) fun t34=>
 pK (oLoad none t34 h32) fun t35=>
 pK (oLen t35) fun t36=>
 pK (oFaddr 3 none t1) fun t37=>
 pK (oLoad none t37 h32) fun t38=>
 C f_q04r [v0,t38] h32 fun t39 h40 y41=>
 pK (oLen v0) fun t42=>
 C f_q04s [t36,(AI 1),t42] h40 fun t43 h44 y45=>
 pK (oUn .not t43) fun t46=>
 gM t46 false t39 h44 fun t47 h48 y49=>
 gP t46 false (oBin .geq t47 (AI 0)) h48 fun t50 h51 y52=>
 gM t46 false t50 h51 fun t53 h54 y55=>
 gM t53 true t39 h54 fun t56 h57 y58=>
 gM t53 true t36 h57 fun t59 h60 y61=>
 gP t53 true (oBin .sub t59 (AI 1)) h60 fun t62 h63 y64=>
 gP t53 true (oBin .neq t56 t62) h63 fun t65 h66 y67=>
 gP t46 false (oPick t53 t65 (AB false)) h66 fun t68 h69 y70=>
 pK (oPick t46 (AB true) t68) fun t71=>
 gM t71 false t39 h69 fun t72 h73 y74=>
 gP t71 false (oBin .lss t72 (AI 0)) h73 fun t75 h76 y77=>
 gM t71 false t75 h76 fun t78 h79 y80=>
 gM t78 true t36 h79 fun t81 h82 y83=>
 gM t78 true v0 h82 fun t84 h85 y86=>
 gP t78 true (oLen t84) h85 fun t87 h88 y89=>
 gP t78 true (oBin .neq t81 t87) h88 fun t90 h91 y92=>
 gP t71 false (oPick t78 t90 (AB false)) h91 fun t93 h94 y95=>
 pK (oPick t71 (AB true) t93) fun t96=>
 condB t96 (K .ret ⟨[(4,(AI 3))],h94,(y95 ++ (y92 ++ (y89 ++ (y86 ++ (y83 ++ (y80 ++ (y77 ++ (y74 ++ (y70 ++ (y67 ++ (y64 ++ (y61 ++ (y58 ++ (y55 ++ (y52 ++ (y49 ++ (y45 ++ (y41 ++ (y33 ++ (y27 ++ (y21 ++ (y18 ++ (y15 ++ (y12 ++ (y8 ++ (y3 ++ x))))))))))))))))))))))))))⟩)
 (K .ret ⟨[(4,(AI 0))],h94,(y95 ++ (y92 ++ (y89 ++ (y86 ++ (y83 ++ (y80 ++ (y77 ++ (y74 ++ (y70 ++ (y67 ++ (y64 ++ (y61 ++ (y58 ++ (y55 ++ (y52 ++ (y49 ++ (y45 ++ (y41 ++ (y33 ++ (y27 ++ (y21 ++ (y18 ++ (y15 ++ (y12 ++ (y8 ++ (y3 ++ x))))))))))))))))))))))))))⟩))))
theorem e_q04v {C gl v0 v1 h x K} : NW C gl a_q04v.body ⟨enter [v0,v1],h,x⟩ K = d_q04v C gl v0 v1 h x K:=by kernel_rfl
def P_q04x : ACode:=(.seq (rg [uO 2 (.box 0),
uO 3 (.box 1),
mV 4 (cI 0)] [2,3])
(.seq (.seq (rg [fA 5 1 none 2,
lD 6 none 5,
fA 7 1 none 3,
lD 8 none 7,
bN 9 .neq 6 8] [2,3,9])
(.cond 9 (.seq (rg [fA 10 1 none 2,
lD 11 none 10,
fA 12 1 none 3,
lD 13 none 12,
bN 14 .sub 11 13,
cL 15 f_q04y [14],
mV 4 15] [4])
.ret)
.skip))
(.seq (rg [fA 16 0 none 2,
lD 17 none 16,
fA 18 0 none 3,
lD 19 none 18,
cL 20 f_q07x [17,19],
mV 4 20] [4])
.ret)))
def a_q04x : AFun:=⟨2,[.t 4],P_q04x,false,false⟩
def d_q04x (C : Hd) (gl : GL) (v0 v1 : AV) (h : Heap) (x : Esc) (K : KT) : Prop:=
 wK (oBox v0 h) fun t1 h2 y3=>
 wK (oBox v1 h2) fun t4 h5 y6=>
 pK (oFaddr 1 none t1) fun t7=>
 pK (oLoad none t7 h5) fun t8=>
 pK (oFaddr 1 none t4) fun t9=>
 pK (oLoad none t9 h5) fun t10=>
 pK (oBin .neq t8 t10) fun t11=>
 condB t11 (pK (oFaddr 1 none t1) fun t12=>
 pK (oLoad none t12 h5) fun t13=>
 pK (oFaddr 1 none t4) fun t14=>
 pK (oLoad none t14 h5) fun t15=>
 pK (oBin .sub t13 t15) fun t16=>
 C f_q04y [t16] h5 fun t17 h18 y19=>
 K .ret ⟨[(4,t17)],h18,(y19 ++ (y6 ++ (y3 ++ x)))⟩)
 (pK (oFaddr 0 none t1) fun t20=>
 pK (oLoad none t20 h5) fun t21=>
 pK (oFaddr 0 none t4) fun t22=>
 pK (oLoad none t22 h5) fun t23=>
 C f_q07x [t21,t23] h5 fun t24 h25 y26=>
 K .ret ⟨[(4,t24)],h25,(y26 ++ (y6 ++ (y3 ++ x)))⟩)
theorem e_q04x {C gl v0 v1 h x K} : NW C gl a_q04x.body ⟨enter [v0,v1],h,x⟩ K = d_q04x C gl v0 v1 h x K:=by kernel_rfl
def P_q04s : ACode:=(.seq (rg [mV 6 cF] [0,1,2])
(.seq (rg [mV 7 1,
mV 8 0,
bN 9 .leq 7 8,
mV 10 9,
gD 11 10 true (.mv 0),
gD 12 10 true (.mv 2),
gD 13 10 true (.bin .leq 11 12),
uO 14 (.pick 10 13 cF),
mV 6 14] [6])
.ret))
def a_q04s : AFun:=⟨3,[.t 6],P_q04s,false,false⟩
def d_q04s (C : Hd) (gl : GL) (v0 v1 v2 : AV) (h : Heap) (x : Esc) (K : KT) : Prop:=
 pK (oBin .leq v1 v0) fun t1=>
 gM t1 true v0 h fun t2 h3 y4=>
 gM t1 true v2 h3 fun t5 h6 y7=>
 gP t1 true (oBin .leq t2 t5) h6 fun t8 h9 y10=>
 pK (oPick t1 t8 (AB false)) fun t11=>
 K .ret ⟨[(6,t11)],h9,(y10 ++ (y7 ++ (y4 ++ x)))⟩
theorem e_q04s {C gl v0 v1 v2 h x K} : NW C gl a_q04s.body ⟨enter [v0,v1,v2],h,x⟩ K = d_q04s C gl v0 v1 v2 h x K:=by kernel_rfl
def p_q04z_k1 : ACode:=.pr [3,6,7,8] (.seq (rg [bN 9 .lss 8 7] [3,6,7,8,9])
(.seq (.cond 9 .skip
(.exit 0))
(.seq (.block 1 (.seq (rg [iA 10 (some 4) 6 8,
lD 11 (some 4) 10,
uO 5 (.alloc [.p (.str []),.p (.int .i64 0),.p (.str []),.sl0 none]),
wO (.store (some 4) 5 11)] [3,5,6,7,8])
(rg [mV 12 3,
fA 13 0 none 5,
lD 14 none 13,
uO 15 (.bsl false none 1 (.str []) [(0,14)]),
uO 16 (.app none 12 15),
mV 3 16] [3,6,7,8])))
(rg [bN 17 .add 8 (cI 1),
mV 8 17] [3,6,7,8]))))
def d_q04z_k1 (C : Hd) (gl : GL) (v3 v6 v7 v8 : AV) (h : Heap) (x : Esc) (K : KT) : Prop:=
 pK (oBin .lss v8 v7) fun t1=>
 condB t1 (pK (oIaddr (some 4) v6 v8 h) fun t2=>
 pK (oLoad (some 4) t2 h) fun t3=>
 alK [.p (.str []),.p (.int .i64 0),.p (.str []),.sl0 none] h fun t4 h5 y6=>
 wK (oStore (some 4) t4 t3 h5) fun t7 h8 y9=>
 pK (oFaddr 0 none t4) fun t10=>
 pK (oLoad none t10 h8) fun t11=>
 wK (oBsl false none 1 (.str []) [(0,t11)] h8) fun t12 h13 y14=>
 wK (oApp none v3 t12 h13) fun t15 h16 y17=>
 pK (oBin .add v8 (AI 1)) fun t18=>
 K .normal ⟨[(3,t15),(6,v6),(7,v7),(8,t18)],h16,(y17 ++ (y14 ++ (y9 ++ (y6 ++ x))))⟩)
 (K (.exit 0) ⟨[(3,v3),(6,v6),(7,v7),(8,v8),(9,t1)],h,x⟩)
theorem e_q04z_k1 {C gl e h x K} : NW C gl p_q04z_k1 ⟨e,h,x⟩ K = d_q04z_k1 C gl (aget e 3) (aget e 6) (aget e 7) (aget e 8) h x K:=by kernel_rfl
theorem l_q04z_k1 {C gl e h x K} : NW C gl (.loop (.scope p_q04z_k1)) ⟨e,h,x⟩ K = NLoop C gl (.scope p_q04z_k1) K [(3,aget e 3),(6,aget e 6),(7,aget e 7),(8,aget e 8)] h x:=NLoop_sc
def p_q04z_k2 : ACode:=.pr [3] (.seq (rg [mV 18 3,
cL 19 f_q05v [18]] [3])
(.seq (rg [mV 20 3,
cL 21 f_q054 [20],
mV 2 21] [2])
.ret))
def d_q04z_k2 (C : Hd) (gl : GL) (v3 : AV) (h : Heap) (x : Esc) (K : KT) : Prop:=
 C f_q05v [v3] h fun t1 h2 y3=>
 C f_q054 [v3] h2 fun t4 h5 y6=>
 K .ret ⟨[(2,t4)],h5,(y6 ++ (y3 ++ x))⟩
theorem e_q04z_k2 {C gl e h x K} : NW C gl p_q04z_k2 ⟨e,h,x⟩ K = d_q04z_k2 C gl (aget e 3) h x K:=by kernel_rfl
def P_q04z (q1 q2 : ACode) : ACode:=(.seq (rg [mV 2 (.c (.p (.sl none [])))] [0])
(.seq (rg [uO 3 (.new0 none)] [0,3])
(.seq (.seq (rg [mV 6 0,
lN 7 6,
mV 8 (cI 0)] [3,6,7,8])
(.block 0 (.loop (.scope q1))))
q2)))
def a_q04z : AFun:=⟨1,[.t 2],P_q04z p_q04z_k1 p_q04z_k2,false,true⟩
def d_q04z (C : Hd) (gl : GL) (q1 q2 : ACode) (v0 : AV) (h : Heap) (x : Esc) (K : KT) : Prop:=
 nwK none h fun t1 h2 y3=>
 pK (oLen v0) fun t4=>
 NW C gl (.loop (.scope q1)) ⟨[(3,t1),(6,v0),(7,t4),(8,(AI 0))],h2,(y3 ++ x)⟩ (blockN 0 (seqN C gl q2 K))
theorem E_q04z {C gl q1 q2 v0 h x K} : NW C gl (P_q04z q1 q2) ⟨enter [v0],h,x⟩ K = d_q04z C gl q1 q2 v0 h x K:=by kernel_rfl
theorem e_q04z {C gl v0 h x K} : NW C gl a_q04z.body ⟨enter [v0],h,x⟩ K = d_q04z C gl p_q04z_k1 p_q04z_k2 v0 h x K:=E_q04z
def P_q04a : ACode:=(.seq (rg [uO 3 (.box 1),
mV 4 (cI 0),
mV 5 (cI 0)] [0,3])
(.seq (.seq (rg [mV 7 0,
fA 8 3 none 3,
lD 9 none 8,
cL 10 f_q04r [7,9],
mV 6 10] [0,6])
(.seq (rg [mV 11 6,
bN 12 .geq 11 (cI 0)] [0,6,12])
(.cond 12 (.seq (rg [mV 13 0,
mV 14 6,
iA 15 (some 4) 13 14,
fA 16 3 none 15,
lD 17 none 16,
mV 18 6,
mV 4 17,
mV 5 18] [4,5])
.ret)
.skip)))
(.seq (rg [mV 4 (cI 1),
mV 5 (cI (-1))] [4,5])
.ret)))
def a_q04a : AFun:=⟨2,[.t 4,.t 5],P_q04a,false,false⟩
def d_q04a (C : Hd) (gl : GL) (v0 v1 : AV) (h : Heap) (x : Esc) (K : KT) : Prop:=
 wK (oBox v1 h) fun t1 h2 y3=>
 pK (oFaddr 3 none t1) fun t4=>
 pK (oLoad none t4 h2) fun t5=>
 C f_q04r [v0,t5] h2 fun t6 h7 y8=>
 pK (oBin .geq t6 (AI 0)) fun t9=>
 condB t9 (pK (oIaddr (some 4) v0 t6 h7) fun t10=>
 pK (oFaddr 3 none t10) fun t11=>
 pK (oLoad none t11 h7) fun t12=>
 K .ret ⟨[(4,t12),(5,t6)],h7,(y8 ++ (y3 ++ x))⟩)
 (K .ret ⟨[(4,(AI 1)),(5,(AI (-1)))],h7,(y8 ++ (y3 ++ x))⟩)
theorem e_q04a {C gl v0 v1 h x K} : NW C gl a_q04a.body ⟨enter [v0,v1],h,x⟩ K = d_q04a C gl v0 v1 h x K:=by kernel_rfl
def P_q04n : ACode:=(.seq (rg [uO 4 (.box 0),
uO 6 (.box 2),
uO 8 (.alloc [.p (.str []),.p (.int .i64 0),.p (.str []),.sl0 none])] [1,3,4,6,8])
(.seq (rg [mV 10 1,
cL 11 f_q051 [10],
uO 12 (.mkfn f_q04o [6]),
cL 13 f_q05b [11,12],
mV 1 13] [1,3,4,8])
(.seq (.seq (rg [mV 14 3,
bN 15 .eql 14 (cI 1)] [1,3,4,8,15])
(.cond 15 (.seq (rg [mV 16 1,
iA 17 (some 4) 16 (cI 0),
lD 18 (some 4) 17,
wO (.store (some 4) 8 18)] [8])
.ret)
.skip))
(.seq (.seq (rg [mV 19 1,
uO 20 (.mkfn f_q04p [4]),
cL 21 f_q05k [19,20],
mV 9 21] [1,3,8,9])
(.seq (rg [mV 22 9,
bN 23 .geq 22 (cI 0),
mV 24 23,
gD 25 24 true (.mv 3),
gD 26 24 true (.bin .eql 25 (cI 3)),
uO 27 (.pick 24 26 cF)] [1,8,9,27])
(.cond 27 (.seq (rg [mV 28 1,
mV 29 9,
iA 30 (some 4) 28 29,
lD 31 (some 4) 30,
wO (.store (some 4) 8 31)] [8])
.ret)
.skip)))
(.seq (rg [mV 32 1,
mV 33 1,
lN 34 33,
bN 35 .sub 34 (cI 1),
iA 36 (some 4) 32 35,
lD 37 (some 4) 36,
wO (.store (some 4) 8 37)] [8])
.ret)))))
def a_q04n : AFun:=⟨4,[.cell 8 (some 4)],P_q04n,false,false⟩
def d_q04n (C : Hd) (gl : GL) (v0 v1 v2 v3 : AV) (h : Heap) (x : Esc) (K : KT) : Prop:=
 wK (oBox v0 h) fun t1 h2 y3=>
 wK (oBox v2 h2) fun t4 h5 y6=>
 alK [.p (.str []),.p (.int .i64 0),.p (.str []),.sl0 none] h5 fun t7 h8 y9=>
 C f_q051 [v1] h8 fun t10 h11 y12=>
 C f_q05b [t10,(.fn f_q04o [t4])] h11 fun t13 h14 y15=>
 pK (oBin .eql v3 (AI 1)) fun t16=>
 condB t16 (pK (oIaddr (some 4) t13 (AI 0) h14) fun t17=>
 pK (oLoad (some 4) t17 h14) fun t18=>
 wK (oStore (some 4) t7 t18 h14) fun t19 h20 y21=>
 K .ret ⟨[(8,t7)],h20,(y21 ++ (y15 ++ (y12 ++ (y9 ++ (y6 ++ (y3 ++ x))))))⟩)
 (C f_q05k [t13,(.fn f_q04p [t1])] h14 fun t22 h23 y24=>
 pK (oBin .geq t22 (AI 0)) fun t25=>
 gM t25 true v3 h23 fun t26 h27 y28=>
 gP t25 true (oBin .eql t26 (AI 3)) h27 fun t29 h30 y31=>
 pK (oPick t25 t29 (AB false)) fun t32=>
 condB t32 (pK (oIaddr (some 4) t13 t22 h30) fun t33=>
 pK (oLoad (some 4) t33 h30) fun t34=>
 wK (oStore (some 4) t7 t34 h30) fun t35 h36 y37=>
 K .ret ⟨[(8,t7)],h36,(y37 ++ (y31 ++ (y28 ++ (y24 ++ (y15 ++ (y12 ++ (y9 ++ (y6 ++ (y3 ++ x)))))))))⟩)
 (pK (oLen t13) fun t38=>
 pK (oBin .sub t38 (AI 1)) fun t39=>
 pK (oIaddr (some 4) t13 t39 h30) fun t40=>
 pK (oLoad (some 4) t40 h30) fun t41=>
 wK (oStore (some 4) t7 t41 h30) fun t42 h43 y44=>
 K .ret ⟨[(8,t7)],h43,(y44 ++ (y31 ++ (y28 ++ (y24 ++ (y15 ++ (y12 ++ (y9 ++ (y6 ++ (y3 ++ x)))))))))⟩))
theorem e_q04n {C gl v0 v1 v2 v3 h x K} : NW C gl a_q04n.body ⟨enter [v0,v1,v2,v3],h,x⟩ K = d_q04n C gl v0 v1 v2 v3 h x K:=by kernel_rfl
def P_q04e : ACode:=(.seq (rg [uO 4 (.alloc [.p (.int .i64 0),.p (.int .i64 0)])] [0,1,4])
(.seq (rg [mV 6 0,
mV 7 1,
cL 8 f_q04q [6,7],
mV 5 8] [0,1,4,5])
(.seq (dr [dF (mV 9 0) [0],
dF (mV 10 5) [5],
dF (bN 11 .quo 9 10) [9,10],
dF (mV 12 1) [1],
dF (mV 13 5) [5],
dF (bN 14 .quo 12 13) [12,13],
dF (uO 15 (.build [.p (.int .i64 0),.p (.int .i64 0)] [(0,1,11),(1,1,14)])) [11,14],
dT (wO (.store (some 2) 4 15)) [4,15]] [4])
.ret)))
def a_q04e : AFun:=⟨2,[.cell 4 (some 2)],P_q04e,false,false⟩
def d_q04e (C : Hd) (gl : GL) (v0 v1 : AV) (h : Heap) (x : Esc) (K : KT) : Prop:=
 alK [.p (.int .i64 0),.p (.int .i64 0)] h fun t1 h2 y3=>
 C f_q04q [v0,v1] h2 fun t4 h5 y6=>
 pK (oBin .quo v0 t4) fun t7=>
 pK (oBin .quo v1 t4) fun t8=>
 pK (oBuild [.p (.int .i64 0),.p (.int .i64 0)] [(0,1,t7),(1,1,t8)]) fun t9=>
 wK (oStore (some 2) t1 t9 h5) fun t10 h11 y12=>
 K .ret ⟨[(4,t1)],h11,(y12 ++ (y6 ++ (y3 ++ x)))⟩
theorem e_q04e {C gl v0 v1 h x K} : NW C gl a_q04e.body ⟨enter [v0,v1],h,x⟩ K = d_q04e C gl v0 v1 h x K:=by kernel_rfl
def p_q04u_k1 : ACode:=.pr [1,4,6,8,9,10,11,17,18,19,33] (.seq (.seq (rg [mV 48 9,
mV 49 11,
bN 50 .rem 48 49,
bN 51 .eql 50 (cI 0)] [1,4,6,8,9,10,11,17,18,19,33,51])
(.cond 51 .skip
(.exit 6)))
(.block 7 (.seq (rg [mV 52 9,
mV 53 11,
bN 54 .quo 52 53,
mV 9 54] [1,4,6,8,9,10,11,17,18,19,33])
(rg [mV 55 6,
mV 56 11,
uO 57 (.look (none,[0]) false (AI 0) 55 56),
mV 58 10,
bN 59 .add 57 58,
wO (.mupd (none,[0]) 55 56 59)] [1,4,6,8,9,10,11,17,18,19,33]))))
def d_q04u_k1 (C : Hd) (gl : GL) (v1 v4 v6 v8 v9 v10 v11 v17 v18 v19 v33 : AV) (h : Heap) (x : Esc) (K : KT) : Prop:=
 pK (oBin .rem v9 v11) fun t1=>
 pK (oBin .eql t1 (AI 0)) fun t2=>
 condB t2 (pK (oBin .quo v9 v11) fun t3=>
 pK (oLook (none,[0]) false (AI 0) v6 v11 h) fun t4=>
 pK (oBin .add t4 v10) fun t5=>
 wK (oMupd (none,[0]) v6 v11 t5 h) fun t6 h7 y8=>
 K .normal ⟨[(1,v1),(4,v4),(6,v6),(8,v8),(9,t3),(10,v10),(11,v11),(17,v17),(18,v18),(19,v19),(33,v33)],h7,(y8 ++ x)⟩)
 (K (.exit 6) ⟨[(1,v1),(4,v4),(6,v6),(8,v8),(9,v9),(10,v10),(11,v11),(17,v17),(18,v18),(19,v19),(33,v33),(51,t2)],h,x⟩)
theorem e_q04u_k1 {C gl e h x K} : NW C gl p_q04u_k1 ⟨e,h,x⟩ K = d_q04u_k1 C gl (aget e 1) (aget e 4) (aget e 6) (aget e 8) (aget e 9) (aget e 10) (aget e 11) (aget e 17) (aget e 18) (aget e 19) (aget e 33) h x K:=by kernel_rfl
theorem l_q04u_k1 {C gl e h x K} : NW C gl (.loop p_q04u_k1) ⟨e,h,x⟩ K = NLoop C gl p_q04u_k1 K [(1,aget e 1),(4,aget e 4),(6,aget e 6),(8,aget e 8),(9,aget e 9),(10,aget e 10),(11,aget e 11),(17,aget e 17),(18,aget e 18),(19,aget e 19),(33,aget e 33)] h x:=NLoop_pr
def p_q04u_k2 : ACode:=.pr [1,4,6,8,9,10,11,17,18,19,33] (rg [mV 46 11,
bN 47 .add 46 (cI 1),
mV 11 47] [1,4,6,8,9,10,11,17,18,19,33])
def d_q04u_k2 (C : Hd) (gl : GL) (v1 v4 v6 v8 v9 v10 v11 v17 v18 v19 v33 : AV) (h : Heap) (x : Esc) (K : KT) : Prop:=
 pK (oBin .add v11 (AI 1)) fun t1=>
 K .normal ⟨[(1,v1),(4,v4),(6,v6),(8,v8),(9,v9),(10,v10),(11,t1),(17,v17),(18,v18),(19,v19),(33,v33)],h,x⟩
theorem e_q04u_k2 {C gl e h x K} : NW C gl p_q04u_k2 ⟨e,h,x⟩ K = d_q04u_k2 C gl (aget e 1) (aget e 4) (aget e 6) (aget e 8) (aget e 9) (aget e 10) (aget e 11) (aget e 17) (aget e 18) (aget e 19) (aget e 33) h x K:=by kernel_rfl
def P_q04u_k3 (q1 q2 : ACode) : ACode:=.pr [1,4,6,8,9,10,11,17,18,19,33] (.seq (.seq (rg [mV 44 9,
bN 45 .gtr 44 (cI 1)] [1,4,6,8,9,10,11,17,18,19,33,45])
(.cond 45 .skip
(.exit 4)))
(.seq (.block 5 (.block 6 (.loop q1)))
q2))
def p_q04u_k3 : ACode:=P_q04u_k3 p_q04u_k1 p_q04u_k2
def d_q04u_k3 (C : Hd) (gl : GL) (q1 q2 : ACode) (v1 v4 v6 v8 v9 v10 v11 v17 v18 v19 v33 : AV) (h : Heap) (x : Esc) (K : KT) : Prop:=
 pK (oBin .gtr v9 (AI 1)) fun t1=>
 condB t1 (NW C gl (.loop q1) ⟨[(1,v1),(4,v4),(6,v6),(8,v8),(9,v9),(10,v10),(11,v11),(17,v17),(18,v18),(19,v19),(33,v33),(45,t1)],h,x⟩ (blockN 6 (blockN 5 (seqN C gl q2 K))))
 (K (.exit 4) ⟨[(1,v1),(4,v4),(6,v6),(8,v8),(9,v9),(10,v10),(11,v11),(17,v17),(18,v18),(19,v19),(33,v33),(45,t1)],h,x⟩)
theorem E_q04u_k3 {C gl q1 q2 e h x K} : NW C gl (P_q04u_k3 q1 q2) ⟨e,h,x⟩ K = d_q04u_k3 C gl q1 q2 (aget e 1) (aget e 4) (aget e 6) (aget e 8) (aget e 9) (aget e 10) (aget e 11) (aget e 17) (aget e 18) (aget e 19) (aget e 33) h x K:=by kernel_rfl
theorem e_q04u_k3 {C gl e h x K} : NW C gl p_q04u_k3 ⟨e,h,x⟩ K = d_q04u_k3 C gl p_q04u_k1 p_q04u_k2 (aget e 1) (aget e 4) (aget e 6) (aget e 8) (aget e 9) (aget e 10) (aget e 11) (aget e 17) (aget e 18) (aget e 19) (aget e 33) h x K:=E_q04u_k3
theorem l_q04u_k3 {C gl e h x K} : NW C gl (.loop p_q04u_k3) ⟨e,h,x⟩ K = NLoop C gl p_q04u_k3 K [(1,aget e 1),(4,aget e 4),(6,aget e 6),(8,aget e 8),(9,aget e 9),(10,aget e 10),(11,aget e 11),(17,aget e 17),(18,aget e 18),(19,aget e 19),(33,aget e 33)] h x:=NLoop_pr
def P_q04u_k4 (q3 : ACode) : ACode:=.pr [1,4,6,8,17,18,19,33] (.seq (rg [uO 34 (.mnext none [33]),
eX 35 34 0] [1,4,6,8,17,18,19,33,35])
(.seq (.cond 35 .skip
(.exit 2))
(.block 3 (.seq (rg [uO 36 (.mentry 33),
eX 37 36 0,
eX 38 36 1,
mV 9 37,
mV 10 38] [1,4,6,8,9,10,17,18,19,33])
(.seq (.seq (rg [fA 39 0 none 8,
lD 40 none 39,
fA 41 1 none 8,
lD 42 none 41,
bN 43 .eql 40 42] [1,4,6,8,9,10,17,18,19,33,43])
(.cond 43 (.exit 2)
.skip))
(.seq (rg [mV 11 (cI 2)] [1,4,6,8,9,10,11,17,18,19,33])
(.block 4 (.loop q3))))))))
def p_q04u_k4 : ACode:=P_q04u_k4 p_q04u_k3
def d_q04u_k4 (C : Hd) (gl : GL) (q3 : ACode) (v1 v4 v6 v8 v17 v18 v19 v33 : AV) (h : Heap) (x : Esc) (K : KT) : Prop:=
 nxK v33 h fun t1 h2 y3=>
 pK (oExt t1 0) fun t4=>
 condB t4 (wK (oMentry v33 h2) fun t5 h6 y7=>
 pK (oExt t5 0) fun t8=>
 pK (oExt t5 1) fun t9=>
 pK (oFaddr 0 none v8) fun t10=>
 pK (oLoad none t10 h6) fun t11=>
 pK (oFaddr 1 none v8) fun t12=>
 pK (oLoad none t12 h6) fun t13=>
 pK (oBin .eql t11 t13) fun t14=>
 condB t14 (K (.exit 2) ⟨[(1,v1),(4,v4),(6,v6),(8,v8),(9,t8),(10,t9),(17,v17),(18,v18),(19,v19),(33,v33),(43,t14)],h6,(y7 ++ (y3 ++ x))⟩)
 (NW C gl (.loop q3) ⟨[(1,v1),(4,v4),(6,v6),(8,v8),(9,t8),(10,t9),(11,(AI 2)),(17,v17),(18,v18),(19,v19),(33,v33)],h6,(y7 ++ (y3 ++ x))⟩ (blockN 4 (blockN 3 K))))
 (K (.exit 2) ⟨[(1,v1),(4,v4),(6,v6),(8,v8),(17,v17),(18,v18),(19,v19),(33,v33),(35,t4)],h2,(y3 ++ x)⟩)
theorem E_q04u_k4 {C gl q3 e h x K} : NW C gl (P_q04u_k4 q3) ⟨e,h,x⟩ K = d_q04u_k4 C gl q3 (aget e 1) (aget e 4) (aget e 6) (aget e 8) (aget e 17) (aget e 18) (aget e 19) (aget e 33) h x K:=by kernel_rfl
theorem e_q04u_k4 {C gl e h x K} : NW C gl p_q04u_k4 ⟨e,h,x⟩ K = d_q04u_k4 C gl p_q04u_k3 (aget e 1) (aget e 4) (aget e 6) (aget e 8) (aget e 17) (aget e 18) (aget e 19) (aget e 33) h x K:=E_q04u_k4
theorem l_q04u_k4 {C gl e h x K} : NW C gl (.loop p_q04u_k4) ⟨e,h,x⟩ K = NLoop C gl p_q04u_k4 K [(1,aget e 1),(4,aget e 4),(6,aget e 6),(8,aget e 8),(17,aget e 17),(18,aget e 18),(19,aget e 19),(33,aget e 33)] h x:=NLoop_pr
def P_q04u_k5 (q4 : ACode) : ACode:=.pr [1,4,6,8,17,18,19,33] (.block 2 (.loop q4))
def p_q04u_k5 : ACode:=P_q04u_k5 p_q04u_k4
def d_q04u_k5 (C : Hd) (gl : GL) (q4 : ACode) (v1 v4 v6 v8 v17 v18 v19 v33 : AV) (h : Heap) (x : Esc) (K : KT) : Prop:=
 NW C gl (.loop q4) ⟨[(1,v1),(4,v4),(6,v6),(8,v8),(17,v17),(18,v18),(19,v19),(33,v33)],h,x⟩ (blockN 2 K)
theorem E_q04u_k5 {C gl q4 e h x K} : NW C gl (P_q04u_k5 q4) ⟨e,h,x⟩ K = d_q04u_k5 C gl q4 (aget e 1) (aget e 4) (aget e 6) (aget e 8) (aget e 17) (aget e 18) (aget e 19) (aget e 33) h x K:=by kernel_rfl
theorem e_q04u_k5 {C gl e h x K} : NW C gl p_q04u_k5 ⟨e,h,x⟩ K = d_q04u_k5 C gl p_q04u_k4 (aget e 1) (aget e 4) (aget e 6) (aget e 8) (aget e 17) (aget e 18) (aget e 19) (aget e 33) h x K:=E_q04u_k5
def p_q04u_k6 : ACode:=.pr [1,4,6,17,18,19] (rg [bN 60 .add 19 (cI 1),
mV 19 60] [1,4,6,17,18,19])
def d_q04u_k6 (C : Hd) (gl : GL) (v1 v4 v6 v17 v18 v19 : AV) (h : Heap) (x : Esc) (K : KT) : Prop:=
 pK (oBin .add v19 (AI 1)) fun t1=>
 K .normal ⟨[(1,v1),(4,v4),(6,v6),(17,v17),(18,v18),(19,t1)],h,x⟩
theorem e_q04u_k6 {C gl e h x K} : NW C gl p_q04u_k6 ⟨e,h,x⟩ K = d_q04u_k6 C gl (aget e 1) (aget e 4) (aget e 6) (aget e 17) (aget e 18) (aget e 19) h x K:=by kernel_rfl
def P_q04u_k7 (q5 q6 : ACode) : ACode:=.pr [1,4,6,17,18,19] (.seq (rg [bN 20 .lss 19 18] [1,4,6,17,18,19,20])
(.seq (.cond 20 .skip
(.exit 0))
(.seq (.block 1 (.seq (rg [iA 21 (some 2) 17 19,
lD 22 (some 2) 21,
uO 8 (.alloc [.p (.int .i64 0),.p (.int .i64 0)]),
wO (.store (some 2) 8 22)] [1,4,6,8,17,18,19])
(.seq (.seq (rg [fA 23 0 none 8,
lD 24 none 23,
bN 25 .eql 24 (cI 0)] [1,4,6,8,17,18,19,25])
(.cond 25 (.seq (rg [uO 26 (.build [.p (.int .i64 0),.p (.int .i64 0)] [(0,1,(cI 0)),(1,1,(cI 1))]),
wO (.store (some 2) 4 26),
mV 5 (cI 0)] [4,5])
.ret)
.skip))
(.seq (.condu (.c .anyb) (.block 3 (.block 6 (.block 0 (.block 1 (.block 2 (.block 3 (.block 4 (.block 5 (.block 6 (.block 7 (.block 8 (dr [dT (uO 27 (.mkmap)) [],
dF (fA 28 0 none 8) [8],
dA (lD 29 none 28) [28] false [0] [],
dT (wO (.mupd (none,[0]) 27 29 (cI 1))) [27,29],
dF (fA 30 1 none 8) [8],
dA (lD 31 none 30) [30] false [0,3] [],
dT (wO (.mupd (none,[0]) 27 31 (cI (-1)))) [27,31],
dF (mV 32 27) [27],
dT (uO 33 (.mrange 32)) [32]] [1,4,6,8,17,18,19,33]))))))))))))
(.block 6 (.block 3 (.block 0 (.block 1 (.block 2 (.block 4 (.block 5 (.block 6 (.block 3 (.block 7 (.block 8 (dr [dT (uO 27 (.mkmap)) [],
dF (fA 28 0 none 8) [8],
dA (lD 29 none 28) [28] false [0] [],
dF (fA 30 1 none 8) [8],
dA (lD 31 none 30) [30] false [0] [],
dA (wO (.mupd (none,[0]) 27 31 (cI (-1)))) [27,31] true [] [2],
dT (wO (.mupd (none,[0]) 27 29 (cI 1))) [27,29],
dF (mV 32 27) [27],
dT (uO 33 (.mrange 32)) [32]] [1,4,6,8,17,18,19,33])))))))))))))
q5))))
q6)))
def p_q04u_k7 : ACode:=P_q04u_k7 p_q04u_k5 p_q04u_k6
def d_q04u_k7 (C : Hd) (gl : GL) (q5 q6 : ACode) (v1 v4 v6 v17 v18 v19 : AV) (h : Heap) (x : Esc) (K : KT) : Prop:=
 pK (oBin .lss v19 v18) fun t1=>
 condB t1 (pK (oIaddr (some 2) v17 v19 h) fun t2=>
 pK (oLoad (some 2) t2 h) fun t3=>
 alK [.p (.int .i64 0),.p (.int .i64 0)] h fun t4 h5 y6=>
 wK (oStore (some 2) t4 t3 h5) fun t7 h8 y9=>
 pK (oFaddr 0 none t4) fun t10=>
 pK (oLoad none t10 h8) fun t11=>
 pK (oBin .eql t11 (AI 0)) fun t12=>
 condB t12 (pK (oBuild [.p (.int .i64 0),.p (.int .i64 0)] [(0,1,(AI 0)),(1,1,(AI 1))]) fun t13=>
 wK (oStore (some 2) v4 t13 h8) fun t14 h15 y16=>
 K .ret ⟨[(4,v4),(5,(AI 0))],h15,(y16 ++ (y9 ++ (y6 ++ x)))⟩)
 (condU .anyb (mmK h8 fun t17 h18 y19=>
 pK (oFaddr 0 none t4) fun t20=>
 pK (oLoad none t20 h18) fun t21=>
 (pK (oLoad none t20 h8) fun v=>(fun u (g1 : Heap) (y1 : Esc)=>u = t21 ∧ g1 = h8 ∧ y1 = []) v h8 []) ∧ (wK (oMupd (none,[0]) t17 t21 (AI 1) h18) fun t22 h23 y24=>
 pK (oFaddr 1 none t4) fun t25=>
 pK (oLoad none t25 h23) fun t26=>
 (pK (oLoad none t25 h8) fun v=>(fun u (g1 : Heap) (y1 : Esc)=>u = t26 ∧ g1 = h8 ∧ y1 = []) v h8 []) ∧ ((pK (oLoad none t25 h18) fun v=>(fun u (g1 : Heap) (y1 : Esc)=>u = t26 ∧ g1 = h18 ∧ y1 = []) v h18 []) ∧ (wK (oMupd (none,[0]) t17 t26 (AI (-1)) h23) fun t27 h28 y29=>
 wK (oMrange t17 h28) fun t30 h31 y32=>
 NW C gl q5 ⟨[(1,v1),(4,v4),(6,v6),(8,t4),(17,v17),(18,v18),(19,v19),(33,t30)],h31,(y32 ++ (y29 ++ (y24 ++ (y19 ++ (y9 ++ (y6 ++ x))))))⟩ (blockN 1 (seqN C gl q6 K))))))
 (mmK h8 fun t33 h34 y35=>
 pK (oFaddr 0 none t4) fun t36=>
 pK (oLoad none t36 h34) fun t37=>
 (pK (oLoad none t36 h8) fun v=>(fun u (g1 : Heap) (y1 : Esc)=>u = t37 ∧ g1 = h8 ∧ y1 = []) v h8 []) ∧ (pK (oFaddr 1 none t4) fun t38=>
 pK (oLoad none t38 h34) fun t39=>
 (pK (oLoad none t38 h8) fun v=>(fun u (g1 : Heap) (y1 : Esc)=>u = t39 ∧ g1 = h8 ∧ y1 = []) v h8 []) ∧ (wK (oMupd (none,[0]) t33 t39 (AI (-1)) h34) fun t40 h41 y42=>
 (pK (oLoad none t36 h41) fun v=>(fun u (g1 : Heap) (y1 : Esc)=>u = t37 ∧ g1 = h41 ∧ y1 = []) v h41 []) ∧ (wK (oMupd (none,[0]) t33 t37 (AI 1) h41) fun t43 h44 y45=>
 wK (oMrange t33 h44) fun t46 h47 y48=>
 NW C gl q5 ⟨[(1,v1),(4,v4),(6,v6),(8,t4),(17,v17),(18,v18),(19,v19),(33,t46)],h47,(y48 ++ (y45 ++ (y42 ++ (y35 ++ (y9 ++ (y6 ++ x))))))⟩ (blockN 1 (seqN C gl q6 K))))))))
 (K (.exit 0) ⟨[(1,v1),(4,v4),(6,v6),(17,v17),(18,v18),(19,v19),(20,t1)],h,x⟩)
theorem E_q04u_k7 {C gl q5 q6 e h x K} : NW C gl (P_q04u_k7 q5 q6) ⟨e,h,x⟩ K = d_q04u_k7 C gl q5 q6 (aget e 1) (aget e 4) (aget e 6) (aget e 17) (aget e 18) (aget e 19) h x K:=by kernel_rfl
theorem e_q04u_k7 {C gl e h x K} : NW C gl p_q04u_k7 ⟨e,h,x⟩ K = d_q04u_k7 C gl p_q04u_k5 p_q04u_k6 (aget e 1) (aget e 4) (aget e 6) (aget e 17) (aget e 18) (aget e 19) h x K:=E_q04u_k7
theorem l_q04u_k7 {C gl e h x K} : NW C gl (.loop (.scope p_q04u_k7)) ⟨e,h,x⟩ K = NLoop C gl (.scope p_q04u_k7) K [(1,aget e 1),(4,aget e 4),(6,aget e 6),(17,aget e 17),(18,aget e 18),(19,aget e 19)] h x:=NLoop_sc
def p_q04u_k8 : ACode:=.pr [1,4,6,12,13,14] (.seq (.seq (rg [mV 70 14,
bN 71 .lss 70 (cI 0)] [1,4,6,12,13,14,71])
(.cond 71 .skip
(.exit 10)))
(.seq (.block 11 (.seq (rg [fA 74 1 none 12,
lD 75 none 74,
mV 76 13,
bN 77 .mul 75 76,
fA 78 1 none 12,
wO (.store none 78 77)] [1,4,6,12,13,14])
(.seq (rg [fA 79 1 none 12,
lD 80 none 79,
bN 81 .gtr 80 (cI 1000000000000000)] [1,4,6,12,13,14,81])
(.cond 81 (.seq (rg [uO 82 (.build [.p (.int .i64 0),.p (.int .i64 0)] []),
wO (.store (some 2) 4 82),
mV 5 (cI 12)] [4,5])
.ret)
.skip))))
(rg [mV 72 14,
bN 73 .add 72 (cI 1),
mV 14 73] [1,4,6,12,13,14])))
def d_q04u_k8 (C : Hd) (gl : GL) (v1 v4 v6 v12 v13 v14 : AV) (h : Heap) (x : Esc) (K : KT) : Prop:=
 pK (oBin .lss v14 (AI 0)) fun t1=>
 condB t1 (pK (oFaddr 1 none v12) fun t2=>
 pK (oLoad none t2 h) fun t3=>
 pK (oBin .mul t3 v13) fun t4=>
 pK (oFaddr 1 none v12) fun t5=>
 wK (oStore none t5 t4 h) fun t6 h7 y8=>
 pK (oFaddr 1 none v12) fun t9=>
 pK (oLoad none t9 h7) fun t10=>
 pK (oBin .gtr t10 (AI 1000000000000000)) fun t11=>
 condB t11 (pK (oBuild [.p (.int .i64 0),.p (.int .i64 0)] []) fun t12=>
 wK (oStore (some 2) v4 t12 h7) fun t13 h14 y15=>
 K .ret ⟨[(4,v4),(5,(AI 12))],h14,(y15 ++ (y8 ++ x))⟩)
 (pK (oBin .add v14 (AI 1)) fun t16=>
 K .normal ⟨[(1,v1),(4,v4),(6,v6),(12,v12),(13,v13),(14,t16)],h7,(y8 ++ x)⟩))
 (K (.exit 10) ⟨[(1,v1),(4,v4),(6,v6),(12,v12),(13,v13),(14,v14),(71,t1)],h,x⟩)
theorem e_q04u_k8 {C gl e h x K} : NW C gl p_q04u_k8 ⟨e,h,x⟩ K = d_q04u_k8 C gl (aget e 1) (aget e 4) (aget e 6) (aget e 12) (aget e 13) (aget e 14) h x K:=by kernel_rfl
theorem l_q04u_k8 {C gl e h x K} : NW C gl (.loop p_q04u_k8) ⟨e,h,x⟩ K = NLoop C gl p_q04u_k8 K [(1,aget e 1),(4,aget e 4),(6,aget e 6),(12,aget e 12),(13,aget e 13),(14,aget e 14)] h x:=NLoop_pr
def p_q04u_k9 : ACode:=.pr [1,4,6,12,13] (rg [mV 65 13,
bN 66 .add 65 (cI 1),
mV 13 66] [1,4,6,12,13])
def d_q04u_k9 (C : Hd) (gl : GL) (v1 v4 v6 v12 v13 : AV) (h : Heap) (x : Esc) (K : KT) : Prop:=
 pK (oBin .add v13 (AI 1)) fun t1=>
 K .normal ⟨[(1,v1),(4,v4),(6,v6),(12,v12),(13,t1)],h,x⟩
theorem e_q04u_k9 {C gl e h x K} : NW C gl p_q04u_k9 ⟨e,h,x⟩ K = d_q04u_k9 C gl (aget e 1) (aget e 4) (aget e 6) (aget e 12) (aget e 13) h x K:=by kernel_rfl
def P_q04u_k10 (q8 q9 : ACode) : ACode:=.pr [1,4,6,12,13] (.seq (.seq (rg [mV 62 13,
mV 63 1,
bN 64 .leq 62 63] [1,4,6,12,13,64])
(.cond 64 .skip
(.exit 8)))
(.seq (.block 9 (.seq (rg [mV 67 6,
mV 68 13,
uO 69 (.look (none,[0]) false (AI 0) 67 68),
mV 14 69] [1,4,6,12,13,14])
(.block 10 (.loop q8))))
q9))
def p_q04u_k10 : ACode:=P_q04u_k10 p_q04u_k8 p_q04u_k9
def d_q04u_k10 (C : Hd) (gl : GL) (q8 q9 : ACode) (v1 v4 v6 v12 v13 : AV) (h : Heap) (x : Esc) (K : KT) : Prop:=
 pK (oBin .leq v13 v1) fun t1=>
 condB t1 (pK (oLook (none,[0]) false (AI 0) v6 v13 h) fun t2=>
 NW C gl (.loop q8) ⟨[(1,v1),(4,v4),(6,v6),(12,v12),(13,v13),(14,t2)],h,x⟩ (blockN 10 (blockN 9 (seqN C gl q9 K))))
 (K (.exit 8) ⟨[(1,v1),(4,v4),(6,v6),(12,v12),(13,v13),(64,t1)],h,x⟩)
theorem E_q04u_k10 {C gl q8 q9 e h x K} : NW C gl (P_q04u_k10 q8 q9) ⟨e,h,x⟩ K = d_q04u_k10 C gl q8 q9 (aget e 1) (aget e 4) (aget e 6) (aget e 12) (aget e 13) h x K:=by kernel_rfl
theorem e_q04u_k10 {C gl e h x K} : NW C gl p_q04u_k10 ⟨e,h,x⟩ K = d_q04u_k10 C gl p_q04u_k8 p_q04u_k9 (aget e 1) (aget e 4) (aget e 6) (aget e 12) (aget e 13) h x K:=E_q04u_k10
theorem l_q04u_k10 {C gl e h x K} : NW C gl (.loop p_q04u_k10) ⟨e,h,x⟩ K = NLoop C gl p_q04u_k10 K [(1,aget e 1),(4,aget e 4),(6,aget e 6),(12,aget e 12),(13,aget e 13)] h x:=NLoop_pr
def p_q04u_k11 : ACode:=.pr [1,4,6,12,15,91,92] (.seq (rg [bN 93 .lss 92 91] [1,4,6,12,15,91,92,93])
(.seq (.cond 93 .skip
(.exit 14))
(.seq (.block 15 (rg [fA 94 0 none 12,
lD 95 none 94,
mV 96 15,
bN 97 .mul 95 96,
fA 98 0 none 12,
wO (.store none 98 97)] [1,4,6,12,15,91,92]))
(rg [bN 99 .add 92 (cI 1),
mV 92 99] [1,4,6,12,15,91,92]))))
def d_q04u_k11 (C : Hd) (gl : GL) (v1 v4 v6 v12 v15 v91 v92 : AV) (h : Heap) (x : Esc) (K : KT) : Prop:=
 pK (oBin .lss v92 v91) fun t1=>
 condB t1 (pK (oFaddr 0 none v12) fun t2=>
 pK (oLoad none t2 h) fun t3=>
 pK (oBin .mul t3 v15) fun t4=>
 pK (oFaddr 0 none v12) fun t5=>
 wK (oStore none t5 t4 h) fun t6 h7 y8=>
 pK (oBin .add v92 (AI 1)) fun t9=>
 K .normal ⟨[(1,v1),(4,v4),(6,v6),(12,v12),(15,v15),(91,v91),(92,t9)],h7,(y8 ++ x)⟩)
 (K (.exit 14) ⟨[(1,v1),(4,v4),(6,v6),(12,v12),(15,v15),(91,v91),(92,v92),(93,t1)],h,x⟩)
theorem e_q04u_k11 {C gl e h x K} : NW C gl p_q04u_k11 ⟨e,h,x⟩ K = d_q04u_k11 C gl (aget e 1) (aget e 4) (aget e 6) (aget e 12) (aget e 15) (aget e 91) (aget e 92) h x K:=by kernel_rfl
theorem l_q04u_k11 {C gl e h x K} : NW C gl (.loop p_q04u_k11) ⟨e,h,x⟩ K = NLoop C gl p_q04u_k11 K [(1,aget e 1),(4,aget e 4),(6,aget e 6),(12,aget e 12),(15,aget e 15),(91,aget e 91),(92,aget e 92)] h x:=NLoop_pr
def p_q04u_k12 : ACode:=.pr [1,4,6,12,15] (rg [mV 86 15,
bN 87 .add 86 (cI 1),
mV 15 87] [1,4,6,12,15])
def d_q04u_k12 (C : Hd) (gl : GL) (v1 v4 v6 v12 v15 : AV) (h : Heap) (x : Esc) (K : KT) : Prop:=
 pK (oBin .add v15 (AI 1)) fun t1=>
 K .normal ⟨[(1,v1),(4,v4),(6,v6),(12,v12),(15,t1)],h,x⟩
theorem e_q04u_k12 {C gl e h x K} : NW C gl p_q04u_k12 ⟨e,h,x⟩ K = d_q04u_k12 C gl (aget e 1) (aget e 4) (aget e 6) (aget e 12) (aget e 15) h x K:=by kernel_rfl
def P_q04u_k13 (q11 q12 : ACode) : ACode:=.pr [1,4,6,12,15] (.seq (.seq (rg [mV 83 15,
mV 84 1,
bN 85 .leq 83 84] [1,4,6,12,15,85])
(.cond 85 .skip
(.exit 12)))
(.seq (.block 13 (.seq (rg [mV 88 6,
mV 89 15,
uO 90 (.look (none,[0]) false (AI 0) 88 89),
uO 91 (.mx [90,(cI 0)]),
mV 92 (cI 0)] [1,4,6,12,15,91,92])
(.block 14 (.loop q11))))
q12))
def p_q04u_k13 : ACode:=P_q04u_k13 p_q04u_k11 p_q04u_k12
def d_q04u_k13 (C : Hd) (gl : GL) (q11 q12 : ACode) (v1 v4 v6 v12 v15 : AV) (h : Heap) (x : Esc) (K : KT) : Prop:=
 pK (oBin .leq v15 v1) fun t1=>
 condB t1 (pK (oLook (none,[0]) false (AI 0) v6 v15 h) fun t2=>
 pK (oMx [t2,(AI 0)]) fun t3=>
 NW C gl (.loop q11) ⟨[(1,v1),(4,v4),(6,v6),(12,v12),(15,v15),(91,t3),(92,(AI 0))],h,x⟩ (blockN 14 (blockN 13 (seqN C gl q12 K))))
 (K (.exit 12) ⟨[(1,v1),(4,v4),(6,v6),(12,v12),(15,v15),(85,t1)],h,x⟩)
theorem E_q04u_k13 {C gl q11 q12 e h x K} : NW C gl (P_q04u_k13 q11 q12) ⟨e,h,x⟩ K = d_q04u_k13 C gl q11 q12 (aget e 1) (aget e 4) (aget e 6) (aget e 12) (aget e 15) h x K:=by kernel_rfl
theorem e_q04u_k13 {C gl e h x K} : NW C gl p_q04u_k13 ⟨e,h,x⟩ K = d_q04u_k13 C gl p_q04u_k11 p_q04u_k12 (aget e 1) (aget e 4) (aget e 6) (aget e 12) (aget e 15) h x K:=E_q04u_k13
theorem l_q04u_k13 {C gl e h x K} : NW C gl (.loop p_q04u_k13) ⟨e,h,x⟩ K = NLoop C gl p_q04u_k13 K [(1,aget e 1),(4,aget e 4),(6,aget e 6),(12,aget e 12),(15,aget e 15)] h x:=NLoop_pr
def p_q04u_k14 : ACode:=.pr [4,12] (.seq (rg [lD 100 (some 2) 12,
wO (.store (some 2) 4 100),
mV 5 (cI 0)] [4,5])
.ret)
def d_q04u_k14 (C : Hd) (gl : GL) (v4 v12 : AV) (h : Heap) (x : Esc) (K : KT) : Prop:=
 pK (oLoad (some 2) v12 h) fun t1=>
 wK (oStore (some 2) v4 t1 h) fun t2 h3 y4=>
 K .ret ⟨[(4,v4),(5,(AI 0))],h3,(y4 ++ x)⟩
theorem e_q04u_k14 {C gl e h x K} : NW C gl p_q04u_k14 ⟨e,h,x⟩ K = d_q04u_k14 C gl (aget e 4) (aget e 12) h x K:=by kernel_rfl
def P_q04u_k15 (q13 q14 : ACode) : ACode:=.pr [1,4,6,12] (.seq (.seq (rg [mV 15 (cI 2)] [1,4,6,12,15])
(.block 12 (.loop q13)))
q14)
def p_q04u_k15 : ACode:=P_q04u_k15 p_q04u_k13 p_q04u_k14
def d_q04u_k15 (C : Hd) (gl : GL) (q13 q14 : ACode) (v1 v4 v6 v12 : AV) (h : Heap) (x : Esc) (K : KT) : Prop:=
 NW C gl (.loop q13) ⟨[(1,v1),(4,v4),(6,v6),(12,v12),(15,(AI 2))],h,x⟩ (blockN 12 (seqN C gl q14 K))
theorem E_q04u_k15 {C gl q13 q14 e h x K} : NW C gl (P_q04u_k15 q13 q14) ⟨e,h,x⟩ K = d_q04u_k15 C gl q13 q14 (aget e 1) (aget e 4) (aget e 6) (aget e 12) h x K:=by kernel_rfl
theorem e_q04u_k15 {C gl e h x K} : NW C gl p_q04u_k15 ⟨e,h,x⟩ K = d_q04u_k15 C gl p_q04u_k13 p_q04u_k14 (aget e 1) (aget e 4) (aget e 6) (aget e 12) h x K:=E_q04u_k15
def P_q04u_k16 (q10 q15 : ACode) : ACode:=.pr [1,4,6] (.seq (rg [uO 61 (.build [.p (.int .i64 0),.p (.int .i64 0)] [(0,1,(cI 1)),(1,1,(cI 1))]),
uO 12 (.alloc [.p (.int .i64 0),.p (.int .i64 0)]),
wO (.store (some 2) 12 61)] [1,4,6,12])
(.seq (.seq (rg [mV 13 (cI 2)] [1,4,6,12,13])
(.block 8 (.loop q10)))
q15))
def p_q04u_k16 : ACode:=P_q04u_k16 p_q04u_k10 p_q04u_k15
def d_q04u_k16 (C : Hd) (gl : GL) (q10 q15 : ACode) (v1 v4 v6 : AV) (h : Heap) (x : Esc) (K : KT) : Prop:=
 pK (oBuild [.p (.int .i64 0),.p (.int .i64 0)] [(0,1,(AI 1)),(1,1,(AI 1))]) fun t1=>
 alK [.p (.int .i64 0),.p (.int .i64 0)] h fun t2 h3 y4=>
 wK (oStore (some 2) t2 t1 h3) fun t5 h6 y7=>
 NW C gl (.loop q10) ⟨[(1,v1),(4,v4),(6,v6),(12,t2),(13,(AI 2))],h6,(y7 ++ (y4 ++ x))⟩ (blockN 8 (seqN C gl q15 K))
theorem E_q04u_k16 {C gl q10 q15 e h x K} : NW C gl (P_q04u_k16 q10 q15) ⟨e,h,x⟩ K = d_q04u_k16 C gl q10 q15 (aget e 1) (aget e 4) (aget e 6) h x K:=by kernel_rfl
theorem e_q04u_k16 {C gl e h x K} : NW C gl p_q04u_k16 ⟨e,h,x⟩ K = d_q04u_k16 C gl p_q04u_k10 p_q04u_k15 (aget e 1) (aget e 4) (aget e 6) h x K:=E_q04u_k16
def P_q04u (q7 q16 : ACode) : ACode:=(.det (.seq (rg [uO 4 (.alloc [.p (.int .i64 0),.p (.int .i64 0)]),
mV 5 (cI 0)] [0,1,4])
(.seq (rg [uO 16 (.mkmap),
mV 6 16] [0,1,4,6])
(.seq (.seq (rg [mV 17 0,
lN 18 17,
mV 19 (cI 0)] [1,4,6,17,18,19])
(.block 0 (.loop (.scope q7))))
q16))))
def a_q04u : AFun:=⟨2,[.cell 4 (some 2),.t 5],P_q04u p_q04u_k7 p_q04u_k16,false,false⟩
def d_q04u (C : Hd) (gl : GL) (q7 q16 : ACode) (v0 v1 : AV) (h : Heap) (x : Esc) (K : KT) : Prop:=
 alK [.p (.int .i64 0),.p (.int .i64 0)] h fun t1 h2 y3=>
 mmK h2 fun t4 h5 y6=>
 pK (oLen v0) fun t7=>
 NW C gl (.loop (.scope q7)) ⟨[(1,v1),(4,t1),(6,t4),(17,v0),(18,t7),(19,(AI 0))],h5,(y6 ++ (y3 ++ x))⟩ (blockN 0 (seqN C gl q16 K))
theorem E_q04u {C gl q7 q16 v0 v1 h x K} : NW C gl (P_q04u q7 q16) ⟨enter [v0,v1],h,x⟩ K = d_q04u C gl q7 q16 v0 v1 h x K:=by kernel_rfl
theorem e_q04u {C gl v0 v1 h x K} : NW C gl a_q04u.body ⟨enter [v0,v1],h,x⟩ K = d_q04u C gl p_q04u_k7 p_q04u_k16 v0 v1 h x K:=E_q04u
def P_q02b : ACode:=(.seq (rg [uO 2 (.alloc [.p (.int .i64 0),.p (.int .i64 0)]),
uO 3 (.alloc [.p (.int .i64 0),.p (.int .i64 0)]),
mV 4 (cI 0)] [0,2,3])
(.seq (.seq (rg [mV 9 0,
cL 10 f_q035 [9,(cI 1)],
mV 5 10] [0,2,3,5])
(.seq (rg [mV 11 5,
bN 12 .neq 11 (cI 0)] [0,2,3,5,12])
(.cond 12 (.seq (rg [uO 13 (.build [.p (.int .i64 0),.p (.int .i64 0)] []),
uO 14 (.build [.p (.int .i64 0),.p (.int .i64 0)] []),
mV 15 5,
wO (.store (some 2) 2 13),
wO (.store (some 2) 3 14),
mV 4 15] [2,3,4])
.ret)
.skip)))
(.seq (rg [mV 17 0,
cL 18 f_q032 [17],
mV 16 18,
eX 19 16 0,
eX 20 16 1,
mV 6 19,
mV 7 20] [0,2,3,6,7])
(.seq (rg [mV 21 0,
lN 22 21,
mV 8 22] [2,3,6,7,8])
(.seq (rg [mV 23 6,
mV 24 8,
cL 25 f_q004 [23,24],
mV 26 7,
mV 27 8,
mV 28 8,
bN 29 .mul 27 28,
cL 30 f_q004 [26,29],
wO (.store (some 2) 2 25),
wO (.store (some 2) 3 30),
mV 4 (cI 0)] [2,3,4])
.ret)))))
def a_q02b : AFun:=⟨1,[.cell 2 (some 2),.cell 3 (some 2),.t 4],P_q02b,false,false⟩
def d_q02b (C : Hd) (gl : GL) (v0 : AV) (h : Heap) (x : Esc) (K : KT) : Prop:=
 alK [.p (.int .i64 0),.p (.int .i64 0)] h fun t1 h2 y3=>
 alK [.p (.int .i64 0),.p (.int .i64 0)] h2 fun t4 h5 y6=>
 C f_q035 [v0,(AI 1)] h5 fun t7 h8 y9=>
 pK (oBin .neq t7 (AI 0)) fun t10=>
 condB t10 (pK (oBuild [.p (.int .i64 0),.p (.int .i64 0)] []) fun t11=>
 pK (oBuild [.p (.int .i64 0),.p (.int .i64 0)] []) fun t12=>
 wK (oStore (some 2) t1 t11 h8) fun t13 h14 y15=>
 wK (oStore (some 2) t4 t12 h14) fun t16 h17 y18=>
 K .ret ⟨[(2,t1),(3,t4),(4,t7)],h17,(y18 ++ (y15 ++ (y9 ++ (y6 ++ (y3 ++ x)))))⟩)
 (C f_q032 [v0] h8 fun t19 h20 y21=>
 pK (oExt t19 0) fun t22=>
 pK (oExt t19 1) fun t23=>
 pK (oLen v0) fun t24=>
 C f_q004 [t22,t24] h20 fun t25 h26 y27=>
 pK (oBin .mul t24 t24) fun t28=>
 C f_q004 [t23,t28] h26 fun t29 h30 y31=>
 wK (oStore (some 2) t1 t25 h30) fun t32 h33 y34=>
 wK (oStore (some 2) t4 t29 h33) fun t35 h36 y37=>
 K .ret ⟨[(2,t1),(3,t4),(4,(AI 0))],h36,(y37 ++ (y34 ++ (y31 ++ (y27 ++ (y21 ++ (y9 ++ (y6 ++ (y3 ++ x))))))))⟩)
theorem e_q02b {C gl v0 h x K} : NW C gl a_q02b.body ⟨enter [v0],h,x⟩ K = d_q02b C gl v0 h x K:=by kernel_rfl
def p_q03x_k1 : ACode:=.pr [0] (.seq (rg [mV 15 0,
mV 4 15] [4])
.ret)
def d_q03x_k1 (C : Hd) (gl : GL) (v0 : AV) (h : Heap) (x : Esc) (K : KT) : Prop:=
 K .ret ⟨[(4,v0)],h,x⟩
theorem e_q03x_k1 {C gl e h x K} : NW C gl p_q03x_k1 ⟨e,h,x⟩ K = d_q03x_k1 C gl (aget e 0) h x K:=by kernel_rfl
def P_q03x (q1 : ACode) : ACode:=(.seq (rg [mV 4 (cI 0)] [0,1])
(.seq (.seq (rg [mV 5 1,
bN 6 .lss 5 (cI 1)] [0,1,6])
(.cond 6 (.seq (rg [mV 4 (cI 0)] [4])
.ret)
.skip))
(.seq (rg [mV 7 0,
mV 8 1,
bN 9 .rem 7 8,
mV 0 9] [0,1])
(.seq (.seq (rg [mV 10 0,
bN 11 .lss 10 (cI 0)] [0,1,11])
(.cond 11 (rg [mV 12 0,
mV 13 1,
bN 14 .add 12 13,
mV 0 14] [0])
.skip))
q1))))
def a_q03x : AFun:=⟨2,[.t 4],P_q03x p_q03x_k1,false,false⟩
def d_q03x (C : Hd) (gl : GL) (q1 : ACode) (v0 v1 : AV) (h : Heap) (x : Esc) (K : KT) : Prop:=
 pK (oBin .lss v1 (AI 1)) fun t1=>
 condB t1 (K .ret ⟨[(4,(AI 0))],h,x⟩)
 (pK (oBin .rem v0 v1) fun t2=>
 pK (oBin .lss t2 (AI 0)) fun t3=>
 condB t3 (pK (oBin .add t2 v1) fun t4=>
 NW C gl q1 ⟨[(0,t4)],h,x⟩ K)
 (NW C gl q1 ⟨[(0,t2),(1,v1),(11,t3)],h,x⟩ K))
theorem E_q03x {C gl q1 v0 v1 h x K} : NW C gl (P_q03x q1) ⟨enter [v0,v1],h,x⟩ K = d_q03x C gl q1 v0 v1 h x K:=by kernel_rfl
theorem e_q03x {C gl v0 v1 h x K} : NW C gl a_q03x.body ⟨enter [v0,v1],h,x⟩ K = d_q03x C gl p_q03x_k1 v0 v1 h x K:=E_q03x
def p_q073_k1 : ACode:=.pr [0,1,2,6,7,8] (.seq (.seq (rg [mV 11 8,
mV 12 1,
bN 13 .leq 11 12] [0,1,2,6,7,8,13])
(.cond 13 .skip
(.exit 0)))
(.block 1 (.seq (rg [mV 14 0,
mV 15 7,
mV 16 8,
mV 17 2,
cL 18 f_q065 [14,15,16,17]] [0,1,2,6,8])
(.seq (rg [mV 19 8,
mV 7 19] [0,1,2,6,7,8])
(rg [mV 20 8,
mV 21 6,
bN 22 .add 20 21,
mV 8 22] [0,1,2,6,7,8])))))
def d_q073_k1 (C : Hd) (gl : GL) (v0 v1 v2 v6 v7 v8 : AV) (h : Heap) (x : Esc) (K : KT) : Prop:=
 pK (oBin .leq v8 v1) fun t1=>
 condB t1 (C f_q065 [v0,v7,v8,v2] h fun t2 h3 y4=>
 pK (oBin .add v8 v6) fun t5=>
 K .normal ⟨[(0,v0),(1,v1),(2,v2),(6,v6),(7,v8),(8,t5)],h3,(y4 ++ x)⟩)
 (K (.exit 0) ⟨[(0,v0),(1,v1),(2,v2),(6,v6),(7,v7),(8,v8),(13,t1)],h,x⟩)
theorem e_q073_k1 {C gl e h x K} : NW C gl p_q073_k1 ⟨e,h,x⟩ K = d_q073_k1 C gl (aget e 0) (aget e 1) (aget e 2) (aget e 6) (aget e 7) (aget e 8) h x K:=by kernel_rfl
theorem l_q073_k1 {C gl e h x K} : NW C gl (.loop p_q073_k1) ⟨e,h,x⟩ K = NLoop C gl p_q073_k1 K [(0,aget e 0),(1,aget e 1),(2,aget e 2),(6,aget e 6),(7,aget e 7),(8,aget e 8)] h x:=NLoop_pr
def p_q073_k2 : ACode:=.pr [0,1,2,6,7,8] (.seq (.seq (rg [mV 33 8,
mV 34 1,
bN 35 .leq 33 34] [0,1,2,6,7,8,35])
(.cond 35 .skip
(.exit 4)))
(.block 5 (.seq (rg [mV 36 0,
mV 37 7,
mV 38 7,
mV 39 6,
bN 40 .add 38 39,
mV 41 8,
mV 42 2,
cL 43 f_q077 [36,37,40,41,42]] [0,1,2,6,8])
(.seq (rg [mV 44 8,
mV 7 44] [0,1,2,6,7,8])
(rg [mV 45 8,
mV 46 6,
bN 47 .mul (cI 2) 46,
bN 48 .add 45 47,
mV 8 48] [0,1,2,6,7,8])))))
def d_q073_k2 (C : Hd) (gl : GL) (v0 v1 v2 v6 v7 v8 : AV) (h : Heap) (x : Esc) (K : KT) : Prop:=
 pK (oBin .leq v8 v1) fun t1=>
 condB t1 (pK (oBin .add v7 v6) fun t2=>
 C f_q077 [v0,v7,t2,v8,v2] h fun t3 h4 y5=>
 pK (oBin .mul (AI 2) v6) fun t6=>
 pK (oBin .add v8 t6) fun t7=>
 K .normal ⟨[(0,v0),(1,v1),(2,v2),(6,v6),(7,v8),(8,t7)],h4,(y5 ++ x)⟩)
 (K (.exit 4) ⟨[(0,v0),(1,v1),(2,v2),(6,v6),(7,v7),(8,v8),(35,t1)],h,x⟩)
theorem e_q073_k2 {C gl e h x K} : NW C gl p_q073_k2 ⟨e,h,x⟩ K = d_q073_k2 C gl (aget e 0) (aget e 1) (aget e 2) (aget e 6) (aget e 7) (aget e 8) h x K:=by kernel_rfl
theorem l_q073_k2 {C gl e h x K} : NW C gl (.loop p_q073_k2) ⟨e,h,x⟩ K = NLoop C gl p_q073_k2 K [(0,aget e 0),(1,aget e 1),(2,aget e 2),(6,aget e 6),(7,aget e 7),(8,aget e 8)] h x:=NLoop_pr
def p_q073_k3 : ACode:=.pr [0,1,2,6] (rg [mV 61 6,
bN 62 .mul 61 (cI 2),
mV 6 62] [0,1,2,6])
def d_q073_k3 (C : Hd) (gl : GL) (v0 v1 v2 v6 : AV) (h : Heap) (x : Esc) (K : KT) : Prop:=
 pK (oBin .mul v6 (AI 2)) fun t1=>
 K .normal ⟨[(0,v0),(1,v1),(2,v2),(6,t1)],h,x⟩
theorem e_q073_k3 {C gl e h x K} : NW C gl p_q073_k3 ⟨e,h,x⟩ K = d_q073_k3 C gl (aget e 0) (aget e 1) (aget e 2) (aget e 6) h x K:=by kernel_rfl
def P_q073_k4 (q3 : ACode) : ACode:=.pr [0,1,2,6,7] (.seq (.seq (rg [mV 49 7,
mV 50 6,
bN 51 .add 49 50,
mV 9 51] [0,1,2,6,7,9])
(.seq (rg [mV 52 9,
mV 53 1,
bN 54 .lss 52 53] [0,1,2,6,7,9,54])
(.cond 54 (rg [mV 55 0,
mV 56 7,
mV 57 9,
mV 58 1,
mV 59 2,
cL 60 f_q077 [55,56,57,58,59]] [0,1,2,6])
.skip)))
q3)
def p_q073_k4 : ACode:=P_q073_k4 p_q073_k3
def d_q073_k4 (C : Hd) (gl : GL) (q3 : ACode) (v0 v1 v2 v6 v7 : AV) (h : Heap) (x : Esc) (K : KT) : Prop:=
 pK (oBin .add v7 v6) fun t1=>
 pK (oBin .lss t1 v1) fun t2=>
 condB t2 (C f_q077 [v0,v7,t1,v1,v2] h fun t3 h4 y5=>
 NW C gl q3 ⟨[(0,v0),(1,v1),(2,v2),(6,v6)],h4,(y5 ++ x)⟩ K)
 (NW C gl q3 ⟨[(0,v0),(1,v1),(2,v2),(6,v6),(7,v7),(9,t1),(54,t2)],h,x⟩ K)
theorem E_q073_k4 {C gl q3 e h x K} : NW C gl (P_q073_k4 q3) ⟨e,h,x⟩ K = d_q073_k4 C gl q3 (aget e 0) (aget e 1) (aget e 2) (aget e 6) (aget e 7) h x K:=by kernel_rfl
theorem e_q073_k4 {C gl e h x K} : NW C gl p_q073_k4 ⟨e,h,x⟩ K = d_q073_k4 C gl p_q073_k3 (aget e 0) (aget e 1) (aget e 2) (aget e 6) (aget e 7) h x K:=E_q073_k4
def P_q073_k5 (q2 q4 : ACode) : ACode:=.pr [0,1,2,6] (.seq (.seq (rg [mV 28 6,
mV 29 1,
bN 30 .lss 28 29] [0,1,2,6,30])
(.cond 30 .skip
(.exit 2)))
(.block 3 (.seq (rg [mV 31 6,
bN 32 .mul (cI 2) 31,
mV 7 (cI 0),
mV 8 32] [0,1,2,6,7,8])
(.seq (.block 4 (.loop q2))
q4))))
def p_q073_k5 : ACode:=P_q073_k5 p_q073_k2 p_q073_k4
def d_q073_k5 (C : Hd) (gl : GL) (q2 q4 : ACode) (v0 v1 v2 v6 : AV) (h : Heap) (x : Esc) (K : KT) : Prop:=
 pK (oBin .lss v6 v1) fun t1=>
 condB t1 (pK (oBin .mul (AI 2) v6) fun t2=>
 NW C gl (.loop q2) ⟨[(0,v0),(1,v1),(2,v2),(6,v6),(7,(AI 0)),(8,t2)],h,x⟩ (blockN 4 (seqN C gl q4 (blockN 3 K))))
 (K (.exit 2) ⟨[(0,v0),(1,v1),(2,v2),(6,v6),(30,t1)],h,x⟩)
theorem E_q073_k5 {C gl q2 q4 e h x K} : NW C gl (P_q073_k5 q2 q4) ⟨e,h,x⟩ K = d_q073_k5 C gl q2 q4 (aget e 0) (aget e 1) (aget e 2) (aget e 6) h x K:=by kernel_rfl
theorem e_q073_k5 {C gl e h x K} : NW C gl p_q073_k5 ⟨e,h,x⟩ K = d_q073_k5 C gl p_q073_k2 p_q073_k4 (aget e 0) (aget e 1) (aget e 2) (aget e 6) h x K:=E_q073_k5
theorem l_q073_k5 {C gl e h x K} : NW C gl (.loop p_q073_k5) ⟨e,h,x⟩ K = NLoop C gl p_q073_k5 K [(0,aget e 0),(1,aget e 1),(2,aget e 2),(6,aget e 6)] h x:=NLoop_pr
def P_q073_k6 (q5 : ACode) : ACode:=.pr [0,1,2,6,7] (.seq (rg [mV 23 0,
mV 24 7,
mV 25 1,
mV 26 2,
cL 27 f_q065 [23,24,25,26]] [0,1,2,6])
(.block 2 (.loop q5)))
def p_q073_k6 : ACode:=P_q073_k6 p_q073_k5
def d_q073_k6 (C : Hd) (gl : GL) (q5 : ACode) (v0 v1 v2 v6 v7 : AV) (h : Heap) (x : Esc) (K : KT) : Prop:=
 C f_q065 [v0,v7,v1,v2] h fun t1 h2 y3=>
 NW C gl (.loop q5) ⟨[(0,v0),(1,v1),(2,v2),(6,v6)],h2,(y3 ++ x)⟩ (blockN 2 K)
theorem E_q073_k6 {C gl q5 e h x K} : NW C gl (P_q073_k6 q5) ⟨e,h,x⟩ K = d_q073_k6 C gl q5 (aget e 0) (aget e 1) (aget e 2) (aget e 6) (aget e 7) h x K:=by kernel_rfl
theorem e_q073_k6 {C gl e h x K} : NW C gl p_q073_k6 ⟨e,h,x⟩ K = d_q073_k6 C gl p_q073_k5 (aget e 0) (aget e 1) (aget e 2) (aget e 6) (aget e 7) h x K:=E_q073_k6
def P_q073 (q1 q6 : ACode) : ACode:=(.seq (rg [mV 6 (cI 20)] [0,1,2,6])
(.seq (rg [mV 10 6,
mV 7 (cI 0),
mV 8 10] [0,1,2,6,7,8])
(.seq (.block 0 (.loop q1))
q6)))
def a_q073 : AFun:=⟨3,[],P_q073 p_q073_k1 p_q073_k6,true,false⟩
def d_q073 (C : Hd) (gl : GL) (q1 q6 : ACode) (v0 v1 v2 : AV) (h : Heap) (x : Esc) (K : KT) : Prop:=
 NW C gl (.loop q1) ⟨[(0,v0),(1,v1),(2,v2),(6,(AI 20)),(7,(AI 0)),(8,(AI 20))],h,x⟩ (blockN 0 (seqN C gl q6 K))
theorem E_q073 {C gl q1 q6 v0 v1 v2 h x K} : NW C gl (P_q073 q1 q6) ⟨enter [v0,v1,v2],h,x⟩ K = d_q073 C gl q1 q6 v0 v1 v2 h x K:=by kernel_rfl
theorem e_q073 {C gl v0 v1 v2 h x K} : NW C gl a_q073.body ⟨enter [v0,v1,v2],h,x⟩ K = d_q073 C gl p_q073_k1 p_q073_k6 v0 v1 v2 h x K:=E_q073
def P_q00w : ACode:=(.seq (rg [mV 2 cF] [0])
(.seq (rg [mV 3 0,
mV 4 0,
bN 5 .neq 3 4,
mV 2 5] [2])
.ret))
def a_q00w : AFun:=⟨1,[.t 2],P_q00w,false,false⟩
def d_q00w (C : Hd) (gl : GL) (v0 : AV) (h : Heap) (x : Esc) (K : KT) : Prop:=
 pK (oBin .neq v0 v0) fun t1=>
 K .ret ⟨[(2,t1)],h,x⟩
theorem e_q00w {C gl v0 h x K} : NW C gl a_q00w.body ⟨enter [v0],h,x⟩ K = d_q00w C gl v0 h x K:=by kernel_rfl
def P_q01d : ACode:=(.seq (rg [mV 4 (cI 0)] [0,1])
(.seq (rg [mV 5 0,
mV 6 1,
cL 7 f_internal_bytealg_abigen_runtime_cmpstring [5,6],
mV 4 7] [4])
.ret))
def a_q01d : AFun:=⟨2,[.t 4],P_q01d,false,false⟩
def d_q01d (C : Hd) (gl : GL) (v0 v1 : AV) (h : Heap) (x : Esc) (K : KT) : Prop:=
 C f_internal_bytealg_abigen_runtime_cmpstring [v0,v1] h fun t1 h2 y3=>
 K .ret ⟨[(4,t1)],h2,(y3 ++ x)⟩
theorem e_q01d {C gl v0 v1 h x K} : NW C gl a_q01d.body ⟨enter [v0,v1],h,x⟩ K = d_q01d C gl v0 v1 h x K:=by kernel_rfl
def P_q008 : ACode:=(.seq (rg [mV 6 cF] [0,1,2])
(.seq (rg [mV 7 0,
mV 8 1,
bN 9 .lss 7 8,
mV 10 9,
gD 11 10 false (.mv 0),
gD 12 10 false (.mv 2),
gD 13 10 false (.bin .gtr 11 12),
uO 14 (.pick 10 cT 13),
mV 6 14] [6])
.ret))
def a_q008 : AFun:=⟨3,[.t 6],P_q008,false,false⟩
def d_q008 (C : Hd) (gl : GL) (v0 v1 v2 : AV) (h : Heap) (x : Esc) (K : KT) : Prop:=
 pK (oBin .lss v0 v1) fun t1=>
 gM t1 false v0 h fun t2 h3 y4=>
 gM t1 false v2 h3 fun t5 h6 y7=>
 gP t1 false (oBin .gtr t2 t5) h6 fun t8 h9 y10=>
 pK (oPick t1 (AB true) t8) fun t11=>
 K .ret ⟨[(6,t11)],h9,(y10 ++ (y7 ++ (y4 ++ x)))⟩
theorem e_q008 {C gl v0 v1 v2 h x K} : NW C gl a_q008.body ⟨enter [v0,v1,v2],h,x⟩ K = d_q008 C gl v0 v1 v2 h x K:=by kernel_rfl
def P_q05r : ACode:=(.seq (rg [mV 5 0,
lN 6 5,
mV 4 6] [0,1,4])
(rg [mV 7 0,
mV 8 4,
mV 9 4,
uO 10 (.conv (.i .u64) 9),
cL 11 f_q039 [10],
mV 12 1,
cL 13 f_q06s [7,(cI 0),8,11,12]] []))
def a_q05r : AFun:=⟨2,[],P_q05r,true,false⟩
def d_q05r (C : Hd) (gl : GL) (v0 v1 : AV) (h : Heap) (x : Esc) (K : KT) : Prop:=
 pK (oLen v0) fun t1=>
 pK (oConvI .u64 t1) fun t2=>
 C f_q039 [t2] h fun t3 h4 y5=>
 C f_q06s [v0,(AI 0),t1,t3,v1] h4 fun t6 h7 y8=>
 K .normal ⟨[],h7,(y8 ++ (y5 ++ x))⟩
theorem e_q05r {C gl v0 v1 h x K} : NW C gl a_q05r.body ⟨enter [v0,v1],h,x⟩ K = d_q05r C gl v0 v1 h x K:=by kernel_rfl
def P_q02q : ACode:=(.seq (rg [uO 2 (.box 0),
uO 3 (.box 1),
mV 4 (cI 0)] [2,3])
(.seq (rg [fA 5 0 none 2,
lD 6 none 5,
fA 7 0 none 3,
lD 8 none 7,
cL 9 f_q07x [6,8],
mV 4 9] [4])
.ret))
def a_q02q : AFun:=⟨2,[.t 4],P_q02q,false,false⟩
def d_q02q (C : Hd) (gl : GL) (v0 v1 : AV) (h : Heap) (x : Esc) (K : KT) : Prop:=
 wK (oBox v0 h) fun t1 h2 y3=>
 wK (oBox v1 h2) fun t4 h5 y6=>
 pK (oFaddr 0 none t1) fun t7=>
 pK (oLoad none t7 h5) fun t8=>
 pK (oFaddr 0 none t4) fun t9=>
 pK (oLoad none t9 h5) fun t10=>
 C f_q07x [t8,t10] h5 fun t11 h12 y13=>
 K .ret ⟨[(4,t11)],h12,(y13 ++ (y6 ++ (y3 ++ x)))⟩
theorem e_q02q {C gl v0 v1 h x K} : NW C gl a_q02q.body ⟨enter [v0,v1],h,x⟩ K = d_q02q C gl v0 v1 h x K:=by kernel_rfl
def p_q005_k1 : ACode:=.pr [0,1] (.seq (.seq (rg [mV 5 1,
bN 6 .neq 5 (cI 0)] [0,1,6])
(.cond 6 .skip
(.exit 0)))
(.block 1 (dr [dF (mV 7 1) [1],
dF (mV 8 0) [0],
dF (mV 9 1) [1],
dF (bN 10 .rem 8 9) [8,9],
dF (mV 0 7) [7],
dF (mV 1 10) [10]] [0,1])))
def d_q005_k1 (C : Hd) (gl : GL) (v0 v1 : AV) (h : Heap) (x : Esc) (K : KT) : Prop:=
 pK (oBin .neq v1 (AI 0)) fun t1=>
 condB t1 (pK (oBin .rem v0 v1) fun t2=>
 K .normal ⟨[(0,v1),(1,t2)],h,x⟩)
 (K (.exit 0) ⟨[(0,v0),(1,v1),(6,t1)],h,x⟩)
theorem e_q005_k1 {C gl e h x K} : NW C gl p_q005_k1 ⟨e,h,x⟩ K = d_q005_k1 C gl (aget e 0) (aget e 1) h x K:=by kernel_rfl
theorem l_q005_k1 {C gl e h x K} : NW C gl (.loop p_q005_k1) ⟨e,h,x⟩ K = NLoop C gl p_q005_k1 K [(0,aget e 0),(1,aget e 1)] h x:=NLoop_pr
def p_q005_k2 : ACode:=.pr [0] (.seq (rg [mV 11 0,
mV 4 11] [4])
.ret)
def d_q005_k2 (C : Hd) (gl : GL) (v0 : AV) (h : Heap) (x : Esc) (K : KT) : Prop:=
 K .ret ⟨[(4,v0)],h,x⟩
theorem e_q005_k2 {C gl e h x K} : NW C gl p_q005_k2 ⟨e,h,x⟩ K = d_q005_k2 C gl (aget e 0) h x K:=by kernel_rfl
def P_q005 (q1 q2 : ACode) : ACode:=(.seq (rg [mV 4 (cI 0)] [0,1])
(.seq (.block 0 (.loop q1))
q2))
def a_q005 : AFun:=⟨2,[.t 4],P_q005 p_q005_k1 p_q005_k2,false,false⟩
def d_q005 (C : Hd) (gl : GL) (q1 q2 : ACode) (v0 v1 : AV) (h : Heap) (x : Esc) (K : KT) : Prop:=
 NW C gl (.loop q1) ⟨[(0,v0),(1,v1)],h,x⟩ (blockN 0 (seqN C gl q2 K))
theorem E_q005 {C gl q1 q2 v0 v1 h x K} : NW C gl (P_q005 q1 q2) ⟨enter [v0,v1],h,x⟩ K = d_q005 C gl q1 q2 v0 v1 h x K:=by kernel_rfl
theorem e_q005 {C gl v0 v1 h x K} : NW C gl a_q005.body ⟨enter [v0,v1],h,x⟩ K = d_q005 C gl p_q005_k1 p_q005_k2 v0 v1 h x K:=E_q005
def p_q022_k1 : ACode:=.pr [0,13,14,15] (.seq (rg [bN 16 .lss 15 14] [0,13,14,15,16])
(.seq (.cond 16 .skip
(.exit 1))
(.seq (.block 2 (.seq (rg [mV 17 15,
iA 18 (some 4) 13 15,
lD 19 (some 4) 18,
uO 4 (.alloc [.p (.str []),.p (.int .i64 0),.p (.int .i64 0),.p (.int .i64 0)]),
mV 3 17,
wO (.store (some 4) 4 19)] [0,3,4,13,14,15])
(.block 3 (.seq (rg [fA 21 0 none 4,
lD 22 none 21,
cL 23 f_q006 [22],
uO 24 (.un .not 23),
mV 20 24] [0,3,4,13,14,15,20])
(.cond 20 (.seq (rg [mV 2 (cI 5)] [2])
.ret)
(.seq (dr [dF (mV 26 0) [0],
dF (mV 27 3) [3],
dF (uO 28 (.slice (some 4) 26 none (some 27) none)) [26,27],
dF (fA 29 0 none 4) [4],
dF (lD 30 none 29) [29],
dT (cL 31 f_q02r [28,30]) [28,30],
dF (bN 32 .geq 31 (cI 0)) [31],
dF (mV 25 32) [32]] [0,4,13,14,15,25])
(.cond 25 (.seq (rg [mV 2 (cI 6)] [2])
.ret)
(.seq (rg [fA 34 1 none 4,
lD 35 none 34,
fA 36 2 none 4,
lD 37 none 36,
cL 38 f_q008 [35,(cI (-100000)),37],
mV 39 38,
gD 40 39 false (.faddr 2 none 4),
gD 41 39 false (.load none 40),
gD 42 39 false (.bin .gtr 41 (cI 100000)),
uO 43 (.pick 39 cT 42),
mV 44 43,
gD 45 44 false (.faddr 3 none 4),
gD 46 44 false (.load none 45),
gD 47 44 false (.call f_q008 [46,(cI 2),(cI 100)]),
uO 48 (.pick 44 cT 47),
mV 33 48] [0,13,14,15,33])
(.cond 33 (.seq (rg [mV 2 (cI 1)] [2])
.ret)
.skip)))))))))
(rg [bN 49 .add 15 (cI 1),
mV 15 49] [0,13,14,15]))))
def d_q022_k1 (C : Hd) (gl : GL) (v0 v13 v14 v15 : AV) (h : Heap) (x : Esc) (K : KT) : Prop:=
 pK (oBin .lss v15 v14) fun t1=>
 condB t1 (pK (oIaddr (some 4) v13 v15 h) fun t2=>
 pK (oLoad (some 4) t2 h) fun t3=>
 alK [.p (.str []),.p (.int .i64 0),.p (.int .i64 0),.p (.int .i64 0)] h fun t4 h5 y6=>
 wK (oStore (some 4) t4 t3 h5) fun t7 h8 y9=>
 pK (oFaddr 0 none t4) fun t10=>
 pK (oLoad none t10 h8) fun t11=>
 C f_q006 [t11] h8 fun t12 h13 y14=>
 pK (oUn .not t12) fun t15=>
 condB t15 (K .ret ⟨[(2,(AI 5))],h13,(y14 ++ (y9 ++ (y6 ++ x)))⟩)
 (pK (oSlice (some 4) v0 none (some v15) none h13) fun t16=>
 pK (oFaddr 0 none t4) fun t17=>
 pK (oLoad none t17 h13) fun t18=>
 callE C f_q02r [t16,t18] h13 fun t19 h20 y21=>
 pK (oBin .geq t19 (AI 0)) fun t22=>
 condB t22 (K .ret ⟨[(2,(AI 6))],h20,(y21 ++ (y14 ++ (y9 ++ (y6 ++ x))))⟩)
 (pK (oFaddr 1 none t4) fun t23=>
 pK (oLoad none t23 h20) fun t24=>
 pK (oFaddr 2 none t4) fun t25=>
 pK (oLoad none t25 h20) fun t26=>
 C f_q008 [t24,(AI (-100000)),t26] h20 fun t27 h28 y29=>
 gP t27 false (oFaddr 2 none t4) h28 fun t30 h31 y32=>
 gP t27 false (oLoad none t30 h31) h31 fun t33 h34 y35=>
 gP t27 false (oBin .gtr t33 (AI 100000)) h34 fun t36 h37 y38=>
 pK (oPick t27 (AB true) t36) fun t39=>
 gP t39 false (oFaddr 3 none t4) h37 fun t40 h41 y42=>
 gP t39 false (oLoad none t40 h41) h41 fun t43 h44 y45=>
 gV t39 false h44 (C f_q008 [t43,(AI 2),(AI 100)] h44) fun t46 h47 y48=>
 pK (oPick t39 (AB true) t46) fun t49=>
 condB t49 (K .ret ⟨[(2,(AI 1))],h47,(y48 ++ (y45 ++ (y42 ++ (y38 ++ (y35 ++ (y32 ++ (y29 ++ (y21 ++ (y14 ++ (y9 ++ (y6 ++ x)))))))))))⟩)
 (pK (oBin .add v15 (AI 1)) fun t50=>
 K .normal ⟨[(0,v0),(13,v13),(14,v14),(15,t50)],h47,(y48 ++ (y45 ++ (y42 ++ (y38 ++ (y35 ++ (y32 ++ (y29 ++ (y21 ++ (y14 ++ (y9 ++ (y6 ++ x)))))))))))⟩))))
 (K (.exit 1) ⟨[(0,v0),(13,v13),(14,v14),(15,v15),(16,t1)],h,x⟩)
theorem e_q022_k1 {C gl e h x K} : NW C gl p_q022_k1 ⟨e,h,x⟩ K = d_q022_k1 C gl (aget e 0) (aget e 13) (aget e 14) (aget e 15) h x K:=by kernel_rfl
theorem l_q022_k1 {C gl e h x K} : NW C gl (.loop (.scope p_q022_k1)) ⟨e,h,x⟩ K = NLoop C gl (.scope p_q022_k1) K [(0,aget e 0),(13,aget e 13),(14,aget e 14),(15,aget e 15)] h x:=NLoop_sc
def p_q022_k2 : ACode:=.pr [] (.seq (rg [mV 2 (cI 0)] [2])
.ret)
def d_q022_k2 (C : Hd) (gl : GL) (h : Heap) (x : Esc) (K : KT) : Prop:=
 K .ret ⟨[(2,(AI 0))],h,x⟩
theorem e_q022_k2 {C gl e h x K} : NW C gl p_q022_k2 ⟨e,h,x⟩ K = d_q022_k2 C gl h x K:=by kernel_rfl
def P_q022 (q1 q2 : ACode) : ACode:=(.seq (rg [mV 2 (cI 0)] [0])
(.seq (.block 0 (.seq (rg [mV 6 0,
lN 7 6,
bN 8 .eql 7 (cI 0),
mV 5 8] [0,5])
(.cond 5 (.seq (rg [mV 2 (cI 8)] [2])
.ret)
(.seq (rg [mV 10 0,
lN 11 10,
bN 12 .gtr 11 (cI 100),
mV 9 12] [0,9])
(.cond 9 (.seq (rg [mV 2 (cI 2)] [2])
.ret)
.skip)))))
(.seq (.seq (rg [mV 13 0,
lN 14 13,
mV 15 (cI 0)] [0,13,14,15])
(.block 1 (.loop (.scope q1))))
q2)))
def a_q022 : AFun:=⟨1,[.t 2],P_q022 p_q022_k1 p_q022_k2,false,false⟩
def d_q022 (C : Hd) (gl : GL) (q1 q2 : ACode) (v0 : AV) (h : Heap) (x : Esc) (K : KT) : Prop:=
 pK (oLen v0) fun t1=>
 pK (oBin .eql t1 (AI 0)) fun t2=>
 condB t2 (K .ret ⟨[(2,(AI 8))],h,x⟩)
 (pK (oLen v0) fun t3=>
 pK (oBin .gtr t3 (AI 100)) fun t4=>
 condB t4 (K .ret ⟨[(2,(AI 2))],h,x⟩)
 (pK (oLen v0) fun t5=>
 NW C gl (.loop (.scope q1)) ⟨[(0,v0),(13,v0),(14,t5),(15,(AI 0))],h,x⟩ (blockN 1 (seqN C gl q2 K))))
theorem E_q022 {C gl q1 q2 v0 h x K} : NW C gl (P_q022 q1 q2) ⟨enter [v0],h,x⟩ K = d_q022 C gl q1 q2 v0 h x K:=by kernel_rfl
theorem e_q022 {C gl v0 h x K} : NW C gl a_q022.body ⟨enter [v0],h,x⟩ K = d_q022 C gl p_q022_k1 p_q022_k2 v0 h x K:=E_q022
def p_q02z_k1 : ACode:=.pr [0,1,11,12,13] (.seq (rg [bN 14 .lss 13 12] [0,1,11,12,13,14])
(.seq (.cond 14 .skip
(.exit 0))
(.seq (.block 1 (.seq (rg [mV 15 13,
iA 16 (some 4) 11 13,
lD 17 (some 4) 16,
uO 6 (.alloc [.p (.str []),.p (.int .i64 0),.p (.str []),.sl0 none]),
mV 5 15,
wO (.store (some 4) 6 17)] [0,1,5,6,11,12,13])
(.seq (.seq (rg [mV 18 0,
lD 19 (some 4) 6,
cL 20 f_q02x [18,19],
mV 7 20] [0,1,5,6,7,11,12,13])
(.seq (rg [mV 21 7,
bN 22 .neq 21 (cI 0)] [0,1,5,6,7,11,12,13,22])
(.cond 22 (.seq (rg [mV 23 7,
mV 4 23] [4])
.ret)
.skip)))
(.seq (dr [dF (mV 24 5) [5],
dF (bN 25 .gtr 24 (cI 0)) [24],
dF (mV 26 25) [25],
dF (gD 27 26 true (.load (some 4) 6)) [6,26],
dF (gD 28 26 true (.mv 1)) [1,26],
dF (gD 29 26 true (.mv 5)) [5,26],
dF (gD 30 26 true (.bin .sub 29 (cI 1))) [29,26],
dF (gD 31 26 true (.iaddr (some 4) 28 30)) [28,30,26],
dF (gD 32 26 true (.load (some 4) 31)) [31,26],
dT (gD 33 26 true (.call f_q02i [27,32])) [27,32,26],
dF (gD 34 26 true (.bin .leq 33 (cI 0))) [33,26],
dF (uO 35 (.pick 26 34 cF)) [26,34]] [0,1,11,12,13,35])
(.cond 35 (.seq (rg [mV 4 (cI 7)] [4])
.ret)
.skip)))))
(rg [bN 36 .add 13 (cI 1),
mV 13 36] [0,1,11,12,13]))))
def d_q02z_k1 (C : Hd) (gl : GL) (v0 v1 v11 v12 v13 : AV) (h : Heap) (x : Esc) (K : KT) : Prop:=
 pK (oBin .lss v13 v12) fun t1=>
 condB t1 (pK (oIaddr (some 4) v11 v13 h) fun t2=>
 pK (oLoad (some 4) t2 h) fun t3=>
 alK [.p (.str []),.p (.int .i64 0),.p (.str []),.sl0 none] h fun t4 h5 y6=>
 wK (oStore (some 4) t4 t3 h5) fun t7 h8 y9=>
 pK (oLoad (some 4) t4 h8) fun t10=>
 C f_q02x [v0,t10] h8 fun t11 h12 y13=>
 pK (oBin .neq t11 (AI 0)) fun t14=>
 condB t14 (K .ret ⟨[(4,t11)],h12,(y13 ++ (y9 ++ (y6 ++ x)))⟩)
 (pK (oBin .gtr v13 (AI 0)) fun t15=>
 gP t15 true (oLoad (some 4) t4 h12) h12 fun t16 h17 y18=>
 gM t15 true v1 h17 fun t19 h20 y21=>
 gM t15 true v13 h20 fun t22 h23 y24=>
 gP t15 true (oBin .sub t22 (AI 1)) h23 fun t25 h26 y27=>
 gP t15 true (oIaddr (some 4) t19 t25 h26) h26 fun t28 h29 y30=>
 gP t15 true (oLoad (some 4) t28 h29) h29 fun t31 h32 y33=>
 gV t15 true h32 (callE C f_q02i [t16,t31] h32) fun t34 h35 y36=>
 gP t15 true (oBin .leq t34 (AI 0)) h35 fun t37 h38 y39=>
 pK (oPick t15 t37 (AB false)) fun t40=>
 condB t40 (K .ret ⟨[(4,(AI 7))],h38,(y39 ++ (y36 ++ (y33 ++ (y30 ++ (y27 ++ (y24 ++ (y21 ++ (y18 ++ (y13 ++ (y9 ++ (y6 ++ x)))))))))))⟩)
 (pK (oBin .add v13 (AI 1)) fun t41=>
 K .normal ⟨[(0,v0),(1,v1),(11,v11),(12,v12),(13,t41)],h38,(y39 ++ (y36 ++ (y33 ++ (y30 ++ (y27 ++ (y24 ++ (y21 ++ (y18 ++ (y13 ++ (y9 ++ (y6 ++ x)))))))))))⟩)))
 (K (.exit 0) ⟨[(0,v0),(1,v1),(11,v11),(12,v12),(13,v13),(14,t1)],h,x⟩)
theorem e_q02z_k1 {C gl e h x K} : NW C gl p_q02z_k1 ⟨e,h,x⟩ K = d_q02z_k1 C gl (aget e 0) (aget e 1) (aget e 11) (aget e 12) (aget e 13) h x K:=by kernel_rfl
theorem l_q02z_k1 {C gl e h x K} : NW C gl (.loop (.scope p_q02z_k1)) ⟨e,h,x⟩ K = NLoop C gl (.scope p_q02z_k1) K [(0,aget e 0),(1,aget e 1),(11,aget e 11),(12,aget e 12),(13,aget e 13)] h x:=NLoop_sc
def p_q02z_k2 : ACode:=.pr [] (.seq (rg [mV 4 (cI 0)] [4])
.ret)
def d_q02z_k2 (C : Hd) (gl : GL) (h : Heap) (x : Esc) (K : KT) : Prop:=
 K .ret ⟨[(4,(AI 0))],h,x⟩
theorem e_q02z_k2 {C gl e h x K} : NW C gl p_q02z_k2 ⟨e,h,x⟩ K = d_q02z_k2 C gl h x K:=by kernel_rfl
def P_q02z (q1 q2 : ACode) : ACode:=(.seq (rg [mV 4 (cI 0)] [0,1])
(.seq (.seq (rg [mV 8 1,
lN 9 8,
bN 10 .gtr 9 (cI 5000)] [0,1,10])
(.cond 10 (.seq (rg [mV 4 (cI 2)] [4])
.ret)
.skip))
(.seq (.seq (rg [mV 11 1,
lN 12 11,
mV 13 (cI 0)] [0,1,11,12,13])
(.block 0 (.loop (.scope q1))))
q2)))
def a_q02z : AFun:=⟨2,[.t 4],P_q02z p_q02z_k1 p_q02z_k2,false,false⟩
def d_q02z (C : Hd) (gl : GL) (q1 q2 : ACode) (v0 v1 : AV) (h : Heap) (x : Esc) (K : KT) : Prop:=
 pK (oLen v1) fun t1=>
 pK (oBin .gtr t1 (AI 5000)) fun t2=>
 condB t2 (K .ret ⟨[(4,(AI 2))],h,x⟩)
 (pK (oLen v1) fun t3=>
 NW C gl (.loop (.scope q1)) ⟨[(0,v0),(1,v1),(11,v1),(12,t3),(13,(AI 0))],h,x⟩ (blockN 0 (seqN C gl q2 K)))
theorem E_q02z {C gl q1 q2 v0 v1 h x K} : NW C gl (P_q02z q1 q2) ⟨enter [v0,v1],h,x⟩ K = d_q02z C gl q1 q2 v0 v1 h x K:=by kernel_rfl
theorem e_q02z {C gl v0 v1 h x K} : NW C gl a_q02z.body ⟨enter [v0,v1],h,x⟩ K = d_q02z C gl p_q02z_k1 p_q02z_k2 v0 v1 h x K:=E_q02z
def p_q00a_k1 : ACode:=.pr [0,1,2,5] (.seq (.seq (rg [mV 10 0,
mV 11 5,
bN 12 .rem 10 11,
bN 13 .eql 12 (cI 0)] [0,1,2,5,13])
(.cond 13 .skip
(.exit 2)))
(.block 3 (.seq (rg [mV 14 0,
mV 15 5,
bN 16 .quo 14 15,
mV 0 16] [0,1,2,5])
(rg [lD 17 none 2,
mV 18 5,
uO 19 (.look (none,[0]) false (AI 0) 17 18),
mV 20 1,
bN 21 .add 19 20,
wO (.mupd (none,[0]) 17 18 21)] [0,1,2,5]))))
def d_q00a_k1 (C : Hd) (gl : GL) (v0 v1 v2 v5 : AV) (h : Heap) (x : Esc) (K : KT) : Prop:=
 pK (oBin .rem v0 v5) fun t1=>
 pK (oBin .eql t1 (AI 0)) fun t2=>
 condB t2 (pK (oBin .quo v0 v5) fun t3=>
 pK (oLoad none v2 h) fun t4=>
 pK (oLook (none,[0]) false (AI 0) t4 v5 h) fun t5=>
 pK (oBin .add t5 v1) fun t6=>
 wK (oMupd (none,[0]) t4 v5 t6 h) fun t7 h8 y9=>
 K .normal ⟨[(0,t3),(1,v1),(2,v2),(5,v5)],h8,(y9 ++ x)⟩)
 (K (.exit 2) ⟨[(0,v0),(1,v1),(2,v2),(5,v5),(13,t2)],h,x⟩)
theorem e_q00a_k1 {C gl e h x K} : NW C gl p_q00a_k1 ⟨e,h,x⟩ K = d_q00a_k1 C gl (aget e 0) (aget e 1) (aget e 2) (aget e 5) h x K:=by kernel_rfl
theorem l_q00a_k1 {C gl e h x K} : NW C gl (.loop p_q00a_k1) ⟨e,h,x⟩ K = NLoop C gl p_q00a_k1 K [(0,aget e 0),(1,aget e 1),(2,aget e 2),(5,aget e 5)] h x:=NLoop_pr
def p_q00a_k2 : ACode:=.pr [0,1,2,5] (rg [mV 8 5,
bN 9 .add 8 (cI 1),
mV 5 9] [0,1,2,5])
def d_q00a_k2 (C : Hd) (gl : GL) (v0 v1 v2 v5 : AV) (h : Heap) (x : Esc) (K : KT) : Prop:=
 pK (oBin .add v5 (AI 1)) fun t1=>
 K .normal ⟨[(0,v0),(1,v1),(2,v2),(5,t1)],h,x⟩
theorem e_q00a_k2 {C gl e h x K} : NW C gl p_q00a_k2 ⟨e,h,x⟩ K = d_q00a_k2 C gl (aget e 0) (aget e 1) (aget e 2) (aget e 5) h x K:=by kernel_rfl
def P_q00a_k3 (q1 q2 : ACode) : ACode:=.pr [0,1,2,5] (.seq (.seq (rg [mV 6 0,
bN 7 .gtr 6 (cI 1)] [0,1,2,5,7])
(.cond 7 .skip
(.exit 0)))
(.seq (.block 1 (.block 2 (.loop q1)))
q2))
def p_q00a_k3 : ACode:=P_q00a_k3 p_q00a_k1 p_q00a_k2
def d_q00a_k3 (C : Hd) (gl : GL) (q1 q2 : ACode) (v0 v1 v2 v5 : AV) (h : Heap) (x : Esc) (K : KT) : Prop:=
 pK (oBin .gtr v0 (AI 1)) fun t1=>
 condB t1 (NW C gl (.loop q1) ⟨[(0,v0),(1,v1),(2,v2),(5,v5),(7,t1)],h,x⟩ (blockN 2 (blockN 1 (seqN C gl q2 K))))
 (K (.exit 0) ⟨[(0,v0),(1,v1),(2,v2),(5,v5),(7,t1)],h,x⟩)
theorem E_q00a_k3 {C gl q1 q2 e h x K} : NW C gl (P_q00a_k3 q1 q2) ⟨e,h,x⟩ K = d_q00a_k3 C gl q1 q2 (aget e 0) (aget e 1) (aget e 2) (aget e 5) h x K:=by kernel_rfl
theorem e_q00a_k3 {C gl e h x K} : NW C gl p_q00a_k3 ⟨e,h,x⟩ K = d_q00a_k3 C gl p_q00a_k1 p_q00a_k2 (aget e 0) (aget e 1) (aget e 2) (aget e 5) h x K:=E_q00a_k3
theorem l_q00a_k3 {C gl e h x K} : NW C gl (.loop p_q00a_k3) ⟨e,h,x⟩ K = NLoop C gl p_q00a_k3 K [(0,aget e 0),(1,aget e 1),(2,aget e 2),(5,aget e 5)] h x:=NLoop_pr
def P_q00a (q3 : ACode) : ACode:=(.seq (rg [mV 5 (cI 2)] [0,1,2,5])
(.block 0 (.loop q3)))
def a_q00a : AFun:=⟨3,[],P_q00a p_q00a_k3,false,false⟩
def d_q00a (C : Hd) (gl : GL) (q3 : ACode) (v0 v1 v2 : AV) (h : Heap) (x : Esc) (K : KT) : Prop:=
 NW C gl (.loop q3) ⟨[(0,v0),(1,v1),(2,v2),(5,(AI 2))],h,x⟩ (blockN 0 K)
theorem E_q00a {C gl q3 v0 v1 v2 h x K} : NW C gl (P_q00a q3) ⟨enter [v0,v1,v2],h,x⟩ K = d_q00a C gl q3 v0 v1 v2 h x K:=by kernel_rfl
theorem e_q00a {C gl v0 v1 v2 h x K} : NW C gl a_q00a.body ⟨enter [v0,v1,v2],h,x⟩ K = d_q00a C gl p_q00a_k3 v0 v1 v2 h x K:=E_q00a
def P_q04c : ACode:=(.seq (rg [mV 2 cF] [0])
(.seq (rg [mV 3 0,
uO 4 (.lens 3),
cL 5 f_q04s [4,(cI 1),(cI 40)],
mV 6 5,
gD 7 6 true (.mv 0),
gD 8 6 true (.slstr 7 none (some (cI 1))),
gD 9 6 true (.call f_q04t [8,(cS [97,98,99,100,101,102,103,104,105,106,107,108,109,110,111,112,113,114,115,116,117,118,119,120,121,122])]),
uO 10 (.pick 6 9 cF),
mV 11 10,
gD 12 11 true (.mv 0),
gD 13 11 true (.call f_q04t [12,(cS [97,98,99,100,101,102,103,104,105,106,107,108,109,110,111,112,113,114,115,116,117,118,119,120,121,122,48,49,50,51,52,53,54,55,56,57,45,95])]),
uO 14 (.pick 11 13 cF),
mV 2 14] [2])
.ret))
def a_q04c : AFun:=⟨1,[.t 2],P_q04c,false,false⟩
def d_q04c (C : Hd) (gl : GL) (v0 : AV) (h : Heap) (x : Esc) (K : KT) : Prop:=
 pK (oLens v0) fun t1=>
 C f_q04s [t1,(AI 1),(AI 40)] h fun t2 h3 y4=>
 gM t2 true v0 h3 fun t5 h6 y7=>
 gP t2 true (oSlstr t5 none (some (AI 1))) h6 fun t8 h9 y10=>
 gV t2 true h9 (C f_q04t [t8,(.p (.str [97,98,99,100,101,102,103,104,105,106,107,108,109,110,111,112,113,114,115,116,117,118,119,120,121,122]))] h9) fun t11 h12 y13=>
 pK (oPick t2 t11 (AB false)) fun t14=>
 gM t14 true v0 h12 fun t15 h16 y17=>
 gV t14 true h16 (C f_q04t [t15,(.p (.str [97,98,99,100,101,102,103,104,105,106,107,108,109,110,111,112,113,114,115,116,117,118,119,120,121,122,48,49,50,51,52,53,54,55,56,57,45,95]))] h16) fun t18 h19 y20=>
 pK (oPick t14 t18 (AB false)) fun t21=>
 K .ret ⟨[(2,t21)],h19,(y20 ++ (y17 ++ (y13 ++ (y10 ++ (y7 ++ (y4 ++ x))))))⟩
theorem e_q04c {C gl v0 h x K} : NW C gl a_q04c.body ⟨enter [v0],h,x⟩ K = d_q04c C gl v0 h x K:=by kernel_rfl
def P_q04j : ACode:=(.seq (rg [uO 3 (.box 1),
mV 4 (cI 0)] [0,3])
(.seq (rg [mV 5 0,
uO 6 (.mkfn f_q04k [3]),
cL 7 f_q05j [5,6],
mV 4 7] [4])
.ret))
def a_q04j : AFun:=⟨2,[.t 4],P_q04j,false,false⟩
def d_q04j (C : Hd) (gl : GL) (v0 v1 : AV) (h : Heap) (x : Esc) (K : KT) : Prop:=
 wK (oBox v1 h) fun t1 h2 y3=>
 C f_q05j [v0,(.fn f_q04k [t1])] h2 fun t4 h5 y6=>
 K .ret ⟨[(4,t4)],h5,(y6 ++ (y3 ++ x))⟩
theorem e_q04j {C gl v0 v1 h x K} : NW C gl a_q04j.body ⟨enter [v0,v1],h,x⟩ K = d_q04j C gl v0 v1 h x K:=by kernel_rfl
def P_q04f : ACode:=(.seq (rg [mV 2 cF] [0])
(.seq (rg [mV 3 0,
cL 4 f_q04s [3,(cI 0),(cI 345686399999)],
mV 2 4] [2])
.ret))
def a_q04f : AFun:=⟨1,[.t 2],P_q04f,false,false⟩
def d_q04f (C : Hd) (gl : GL) (v0 : AV) (h : Heap) (x : Esc) (K : KT) : Prop:=
 C f_q04s [v0,(AI 0),(AI 345686399999)] h fun t1 h2 y3=>
 K .ret ⟨[(2,t1)],h2,(y3 ++ x)⟩
theorem e_q04f {C gl v0 h x K} : NW C gl a_q04f.body ⟨enter [v0],h,x⟩ K = d_q04f C gl v0 h x K:=by kernel_rfl
def P_q057 : ACode:=(.seq (rg [mV 4 cF] [0,1])
(.seq (rg [mV 5 0,
mV 6 1,
cL 7 f_q05l [5,6],
bN 8 .geq 7 (cI 0),
mV 4 8] [4])
.ret))
def a_q057 : AFun:=⟨2,[.t 4],P_q057,true,false⟩
def d_q057 (C : Hd) (gl : GL) (v0 v1 : AV) (h : Heap) (x : Esc) (K : KT) : Prop:=
 C f_q05l [v0,v1] h fun t1 h2 y3=>
 pK (oBin .geq t1 (AI 0)) fun t4=>
 K .ret ⟨[(4,t4)],h2,(y3 ++ x)⟩
theorem e_q057 {C gl v0 v1 h x K} : NW C gl a_q057.body ⟨enter [v0,v1],h,x⟩ K = d_q057 C gl v0 v1 h x K:=by kernel_rfl
def P_q04w : ACode:=(.seq (rg [mV 2 cF] [0])
(.seq (rg [mV 3 0,
cL 4 f_q04s [3,(cI (-100000)),(cI 100000)],
uO 5 (.un .not 4),
mV 2 5] [2])
.ret))
def a_q04w : AFun:=⟨1,[.t 2],P_q04w,false,false⟩
def d_q04w (C : Hd) (gl : GL) (v0 : AV) (h : Heap) (x : Esc) (K : KT) : Prop:=
 C f_q04s [v0,(AI (-100000)),(AI 100000)] h fun t1 h2 y3=>
 pK (oUn .not t1) fun t4=>
 K .ret ⟨[(2,t4)],h2,(y3 ++ x)⟩
theorem e_q04w {C gl v0 h x K} : NW C gl a_q04w.body ⟨enter [v0],h,x⟩ K = d_q04w C gl v0 h x K:=by kernel_rfl
end Go.Am
end
