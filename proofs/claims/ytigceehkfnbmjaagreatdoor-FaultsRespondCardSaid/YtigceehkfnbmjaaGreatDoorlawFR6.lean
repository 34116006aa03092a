/- Texts of the proof, laid together: CodesC, AmC, Ctx, SpStream, MathFrac, SpBase, SpList, SpShp, SpLen, SpStr, SpMap, SpStrs, SpFind, SpLimD, SpLim, SpLotA, SpRecD, SpGenA, SpSome, SpGenL, SpRec, SpSortRec, SpCompact, SpGenR, PMerge, SpMrgA, SpSort, SpMrgB, SpMrgC, SpMrgD, PFin, SpTxt, SpFlt1, SpFlt2, SpFlt3, SpFlt4, SpFlt5, SpArg. -/
import Derived.KernelRfl
import Derived.Test.YtigceehkfnbmjaaGreatDoorlawFR5
set_option linter.all false
section
/- The functions asv abstract code,and asv formulas over their values: printed by program out of the translation. -/
set_option linter.unusedVariables false
set_option maxRecDepth 100000
namespace Go.Am
def p_q02k_k1 : ACode:=.pr [0,5,6,7,15,16,20,21] (.seq (rg [bN 22 .lss 21 20] [0,5,6,7,15,16,20,21,22])
(.seq (.cond 22 .skip
(.exit 2))
(.seq (.block 3 (.seq (rg [mV 23 21,
mV 8 23] [0,5,6,7,8,15,16,20,21])
(.seq (dr [dF (mV 24 5) [5],
dF (mV 25 8) [8],
dF (iA 26 none 24 25) [24,25],
dF (lD 27 none 26) [26],
dF (mV 28 7) [7],
dF (uO 29 (.idxs 27 28)) [27,28],
dF (mV 30 0) [0],
dF (mV 31 8) [8],
dF (iA 32 none 30 31) [30,31],
dF (lD 33 none 32) [32],
dF (mV 34 7) [7],
dF (uO 35 (.idxs 33 34)) [33,34],
dF (bN 36 .neq 29 35) [29,35]] [0,5,6,7,15,16,20,21,36])
(.cond 36 (.seq (rg [mV 37 6,
mV 38 7,
uO 39 (.bsl false none 1 (.int .i64 0) [(0,38)]),
uO 40 (.app none 37 39),
mV 6 40] [0,5,6,15,16])
(.exit 2))
.skip))))
(rg [bN 41 .add 21 (cI 1),
mV 21 41] [0,5,6,7,15,16,20,21]))))
def d_q02k_k1 (C : Hd) (gl : GL) (v0 v5 v6 v7 v15 v16 v20 v21 : AV) (h : Heap) (x : Esc) (K : KT) : Prop:=
 pK (oBin .lss v21 v20) fun t1=>
 condB t1 (pK (oIaddr none v5 v21 h) fun t2=>
 pK (oLoad none t2 h) fun t3=>
 pK (oIdxs t3 v7) fun t4=>
 pK (oIaddr none v0 v21 h) fun t5=>
 pK (oLoad none t5 h) fun t6=>
 pK (oIdxs t6 v7) fun t7=>
 pK (oBin .neq t4 t7) fun t8=>
 condB t8 (wK (oBsl false none 1 (.int .i64 0) [(0,v7)] h) fun t9 h10 y11=>
 wK (oApp none v6 t9 h10) fun t12 h13 y14=>
 K (.exit 2) ⟨[(0,v0),(5,v5),(6,t12),(15,v15),(16,v16)],h13,(y14 ++ (y11 ++ x))⟩)
 (pK (oBin .add v21 (AI 1)) fun t15=>
 K .normal ⟨[(0,v0),(5,v5),(6,v6),(7,v7),(15,v15),(16,v16),(20,v20),(21,t15)],h,x⟩))
 (K (.exit 2) ⟨[(0,v0),(5,v5),(6,v6),(7,v7),(15,v15),(16,v16),(20,v20),(21,v21),(22,t1)],h,x⟩)
theorem e_q02k_k1 {C gl e h x K} : NW C gl p_q02k_k1 ⟨e,h,x⟩ K = d_q02k_k1 C gl (aget e 0) (aget e 5) (aget e 6) (aget e 7) (aget e 15) (aget e 16) (aget e 20) (aget e 21) h x K:=by kernel_rfl
theorem l_q02k_k1 {C gl e h x K} : NW C gl (.loop (.scope p_q02k_k1)) ⟨e,h,x⟩ K = NLoop C gl (.scope p_q02k_k1) K [(0,aget e 0),(5,aget e 5),(6,aget e 6),(7,aget e 7),(15,aget e 15),(16,aget e 16),(20,aget e 20),(21,aget e 21)] h x:=NLoop_sc
def p_q02k_k2 : ACode:=.pr [0,5,6,15,16] (rg [bN 42 .add 16 (cI 1),
mV 16 42] [0,5,6,15,16])
def d_q02k_k2 (C : Hd) (gl : GL) (v0 v5 v6 v15 v16 : AV) (h : Heap) (x : Esc) (K : KT) : Prop:=
 pK (oBin .add v16 (AI 1)) fun t1=>
 K .normal ⟨[(0,v0),(5,v5),(6,v6),(15,v15),(16,t1)],h,x⟩
theorem e_q02k_k2 {C gl e h x K} : NW C gl p_q02k_k2 ⟨e,h,x⟩ K = d_q02k_k2 C gl (aget e 0) (aget e 5) (aget e 6) (aget e 15) (aget e 16) h x K:=by kernel_rfl
def P_q02k_k3 (q1 q2 : ACode) : ACode:=.pr [0,5,6,15,16] (.seq (rg [bN 17 .lss 16 15] [0,5,6,15,16,17])
(.seq (.cond 17 .skip
(.exit 0))
(.seq (.block 1 (.seq (rg [mV 18 16,
mV 7 18] [0,5,6,7,15,16])
(.seq (rg [mV 19 0,
lN 20 19,
mV 21 (cI 0)] [0,5,6,7,15,16,20,21])
(.block 2 (.loop (.scope q1))))))
q2)))
def p_q02k_k3 : ACode:=P_q02k_k3 p_q02k_k1 p_q02k_k2
def d_q02k_k3 (C : Hd) (gl : GL) (q1 q2 : ACode) (v0 v5 v6 v15 v16 : AV) (h : Heap) (x : Esc) (K : KT) : Prop:=
 pK (oBin .lss v16 v15) fun t1=>
 condB t1 (pK (oLen v0) fun t2=>
 NW C gl (.loop (.scope q1)) ⟨[(0,v0),(5,v5),(6,v6),(7,v16),(15,v15),(16,v16),(20,t2),(21,(AI 0))],h,x⟩ (blockN 2 (blockN 1 (seqN C gl q2 K))))
 (K (.exit 0) ⟨[(0,v0),(5,v5),(6,v6),(15,v15),(16,v16),(17,t1)],h,x⟩)
theorem E_q02k_k3 {C gl q1 q2 e h x K} : NW C gl (P_q02k_k3 q1 q2) ⟨e,h,x⟩ K = d_q02k_k3 C gl q1 q2 (aget e 0) (aget e 5) (aget e 6) (aget e 15) (aget e 16) h x K:=by kernel_rfl
theorem e_q02k_k3 {C gl e h x K} : NW C gl p_q02k_k3 ⟨e,h,x⟩ K = d_q02k_k3 C gl p_q02k_k1 p_q02k_k2 (aget e 0) (aget e 5) (aget e 6) (aget e 15) (aget e 16) h x K:=E_q02k_k3
theorem l_q02k_k3 {C gl e h x K} : NW C gl (.loop (.scope p_q02k_k3)) ⟨e,h,x⟩ K = NLoop C gl (.scope p_q02k_k3) K [(0,aget e 0),(5,aget e 5),(6,aget e 6),(15,aget e 15),(16,aget e 16)] h x:=NLoop_sc
def p_q02k_k4 : ACode:=.pr [6] (.seq (rg [mV 43 6,
mV 4 43] [4])
.ret)
def d_q02k_k4 (C : Hd) (gl : GL) (v6 : AV) (h : Heap) (x : Esc) (K : KT) : Prop:=
 K .ret ⟨[(4,v6)],h,x⟩
theorem e_q02k_k4 {C gl e h x K} : NW C gl p_q02k_k4 ⟨e,h,x⟩ K = d_q02k_k4 C gl (aget e 6) h x K:=by kernel_rfl
def P_q02k (q3 q4 : ACode) : ACode:=(.seq (rg [uO 3 (.box 1),
mV 4 (.c (.p (.sl none [])))] [0,3])
(.seq (rg [mV 9 0,
lD 10 (some 2) 3,
cL 11 f_q02i [9,10],
mV 5 11] [0,5])
(.seq (rg [uO 6 (.new0 none)] [0,5,6])
(.seq (.seq (rg [mV 12 0,
iA 13 none 12 (cI 0),
lD 14 none 13,
uO 15 (.lens 14),
mV 16 (cI 0)] [0,5,6,15,16])
(.block 0 (.loop (.scope q3))))
q4))))
def a_q02k : AFun:=⟨2,[.t 4],P_q02k p_q02k_k3 p_q02k_k4,false,false⟩
def d_q02k (C : Hd) (gl : GL) (q3 q4 : ACode) (v0 v1 : AV) (h : Heap) (x : Esc) (K : KT) : Prop:=
 wK (oBox v1 h) fun t1 h2 y3=>
 pK (oLoad (some 2) t1 h2) fun t4=>
 C f_q02i [v0,t4] h2 fun t5 h6 y7=>
 nwK none h6 fun t8 h9 y10=>
 pK (oIaddr none v0 (AI 0) h9) fun t11=>
 pK (oLoad none t11 h9) fun t12=>
 pK (oLens t12) fun t13=>
 NW C gl (.loop (.scope q3)) ⟨[(0,v0),(5,t5),(6,t8),(15,t13),(16,(AI 0))],h9,(y10 ++ (y7 ++ (y3 ++ x)))⟩ (blockN 0 (seqN C gl q4 K))
theorem E_q02k {C gl q3 q4 v0 v1 h x K} : NW C gl (P_q02k q3 q4) ⟨enter [v0,v1],h,x⟩ K = d_q02k C gl q3 q4 v0 v1 h x K:=by kernel_rfl
theorem e_q02k {C gl v0 v1 h x K} : NW C gl a_q02k.body ⟨enter [v0,v1],h,x⟩ K = d_q02k C gl p_q02k_k3 p_q02k_k4 v0 v1 h x K:=E_q02k
def P_q02u : ACode:=(.det (.seq (rg [mV 2 (.c (.p (.sl none [])))] [0])
(.seq (.seq (rg [mV 3 0,
uO 4 (.isnil 4 false 3)] [0,4])
(.condu 4 (.seq (rg [uO 2 (.new0 none)] [2])
.ret)
.skip))
(.seq (rg [uO 5 (.bsl true none 0 (.str []) []),
mV 6 0,
uO 7 (.app none 5 6),
mV 2 7] [2])
.ret))))
def a_q02u : AFun:=⟨1,[.t 2],P_q02u,false,true⟩
def d_q02u (C : Hd) (gl : GL) (v0 : AV) (h : Heap) (x : Esc) (K : KT) : Prop:=
 pK (oIsnil 4 false v0) fun t1=>
 condU t1 (nwK none h fun t2 h3 y4=>
 K .ret ⟨[(2,t2)],h3,(y4 ++ x)⟩)
 (wK (oBsl true none 0 (.str []) [] h) fun t5 h6 y7=>
 wK (oApp none t5 v0 h6) fun t8 h9 y10=>
 K .ret ⟨[(2,t8)],h9,(y10 ++ (y7 ++ x))⟩)
theorem e_q02u {C gl v0 h x K} : NW C gl a_q02u.body ⟨enter [v0],h,x⟩ K = d_q02u C gl v0 h x K:=by kernel_rfl
def P_q000 : ACode:=(.seq (rg [mV 2 cF] [0])
(.seq (rg [mV 3 0,
cL 4 f_q04g [3,(cS [48,49])],
bN 5 .eql 4 (cS []),
mV 2 5] [2])
.ret))
def a_q000 : AFun:=⟨1,[.t 2],P_q000,false,false⟩
def d_q000 (C : Hd) (gl : GL) (v0 : AV) (h : Heap) (x : Esc) (K : KT) : Prop:=
 C f_q04g [v0,(.p (.str [48,49]))] h fun t1 h2 y3=>
 pK (oBin .eql t1 (.p (.str []))) fun t4=>
 K .ret ⟨[(2,t4)],h2,(y3 ++ x)⟩
theorem e_q000 {C gl v0 h x K} : NW C gl a_q000.body ⟨enter [v0],h,x⟩ K = d_q000 C gl v0 h x K:=by kernel_rfl
def P_q006 : ACode:=(.seq (rg [mV 6 cF] [0,1,2])
(.seq (rg [mV 7 0,
mV 8 1,
bN 9 .lss 7 8,
mV 10 9,
gD 11 10 false (.mv 0),
gD 12 10 false (.mv 2),
gD 13 10 false (.bin .gtr 11 12),
uO 14 (.pick 10 cT 13),
mV 6 14] [6])
.ret))
def a_q006 : AFun:=⟨3,[.t 6],P_q006,false,false⟩
def d_q006 (C : Hd) (gl : GL) (v0 v1 v2 : AV) (h : Heap) (x : Esc) (K : KT) : Prop:=
 pK (oBin .lss v0 v1) fun t1=>
 gM t1 false v0 h fun t2 h3 y4=>
 gM t1 false v2 h3 fun t5 h6 y7=>
 gP t1 false (oBin .gtr t2 t5) h6 fun t8 h9 y10=>
 pK (oPick t1 (AB true) t8) fun t11=>
 K .ret ⟨[(6,t11)],h9,(y10 ++ (y7 ++ (y4 ++ x)))⟩
theorem e_q006 {C gl v0 v1 v2 h x K} : NW C gl a_q006.body ⟨enter [v0,v1,v2],h,x⟩ K = d_q006 C gl v0 v1 v2 h x K:=by kernel_rfl
def P_q013 : ACode:=(.seq (rg [mV 2 cF] [0])
(.seq (rg [mV 3 0,
cL 4 f_q006 [3,(cI 3),(cI 5)],
uO 5 (.un .not 4),
mV 2 5] [2])
.ret))
def a_q013 : AFun:=⟨1,[.t 2],P_q013,false,false⟩
def d_q013 (C : Hd) (gl : GL) (v0 : AV) (h : Heap) (x : Esc) (K : KT) : Prop:=
 C f_q006 [v0,(AI 3),(AI 5)] h fun t1 h2 y3=>
 pK (oUn .not t1) fun t4=>
 K .ret ⟨[(2,t4)],h2,(y3 ++ x)⟩
theorem e_q013 {C gl v0 h x K} : NW C gl a_q013.body ⟨enter [v0],h,x⟩ K = d_q013 C gl v0 h x K:=by kernel_rfl
def p_q036_k1 : ACode:=.pr [0,1,7,8] (.seq (rg [bN 9 .lss 8 7] [0,1,7,8,9])
(.seq (.cond 9 .skip
(.exit 0))
(.seq (.block 1 (.seq (rg [mV 10 8,
mV 5 10] [0,1,5,7,8])
(.seq (rg [mV 11 1,
mV 12 0,
mV 13 5,
iA 14 none 12 13,
lD 15 none 14,
bN 16 .eql 11 15] [0,1,5,7,8,16])
(.cond 16 (.seq (rg [mV 17 5,
mV 4 17] [4])
.ret)
.skip))))
(rg [bN 18 .add 8 (cI 1),
mV 8 18] [0,1,7,8]))))
def d_q036_k1 (C : Hd) (gl : GL) (v0 v1 v7 v8 : AV) (h : Heap) (x : Esc) (K : KT) : Prop:=
 pK (oBin .lss v8 v7) fun t1=>
 condB t1 (pK (oIaddr none v0 v8 h) fun t2=>
 pK (oLoad none t2 h) fun t3=>
 pK (oBin .eql v1 t3) fun t4=>
 condB t4 (K .ret ⟨[(4,v8)],h,x⟩)
 (pK (oBin .add v8 (AI 1)) fun t5=>
 K .normal ⟨[(0,v0),(1,v1),(7,v7),(8,t5)],h,x⟩))
 (K (.exit 0) ⟨[(0,v0),(1,v1),(7,v7),(8,v8),(9,t1)],h,x⟩)
theorem e_q036_k1 {C gl e h x K} : NW C gl p_q036_k1 ⟨e,h,x⟩ K = d_q036_k1 C gl (aget e 0) (aget e 1) (aget e 7) (aget e 8) h x K:=by kernel_rfl
theorem l_q036_k1 {C gl e h x K} : NW C gl (.loop p_q036_k1) ⟨e,h,x⟩ K = NLoop C gl p_q036_k1 K [(0,aget e 0),(1,aget e 1),(7,aget e 7),(8,aget e 8)] h x:=NLoop_pr
def p_q036_k2 : ACode:=.pr [] (.seq (rg [mV 4 (cI (-1))] [4])
.ret)
def d_q036_k2 (C : Hd) (gl : GL) (h : Heap) (x : Esc) (K : KT) : Prop:=
 K .ret ⟨[(4,(AI (-1)))],h,x⟩
theorem e_q036_k2 {C gl e h x K} : NW C gl p_q036_k2 ⟨e,h,x⟩ K = d_q036_k2 C gl h x K:=by kernel_rfl
def P_q036 (q1 q2 : ACode) : ACode:=(.seq (rg [mV 4 (cI 0)] [0,1])
(.seq (.seq (rg [mV 6 0,
lN 7 6,
mV 8 (cI 0)] [0,1,7,8])
(.block 0 (.loop q1)))
q2))
def a_q036 : AFun:=⟨2,[.t 4],P_q036 p_q036_k1 p_q036_k2,true,false⟩
def d_q036 (C : Hd) (gl : GL) (q1 q2 : ACode) (v0 v1 : AV) (h : Heap) (x : Esc) (K : KT) : Prop:=
 pK (oLen v0) fun t1=>
 NW C gl (.loop q1) ⟨[(0,v0),(1,v1),(7,t1),(8,(AI 0))],h,x⟩ (blockN 0 (seqN C gl q2 K))
theorem E_q036 {C gl q1 q2 v0 v1 h x K} : NW C gl (P_q036 q1 q2) ⟨enter [v0,v1],h,x⟩ K = d_q036 C gl q1 q2 v0 v1 h x K:=by kernel_rfl
theorem e_q036 {C gl v0 v1 h x K} : NW C gl a_q036.body ⟨enter [v0,v1],h,x⟩ K = d_q036 C gl p_q036_k1 p_q036_k2 v0 v1 h x K:=E_q036
def p_q020_k1 : ACode:=.pr [0] (.seq (rg [mV 15 0,
mV 4 15] [4])
.ret)
def d_q020_k1 (C : Hd) (gl : GL) (v0 : AV) (h : Heap) (x : Esc) (K : KT) : Prop:=
 K .ret ⟨[(4,v0)],h,x⟩
theorem e_q020_k1 {C gl e h x K} : NW C gl p_q020_k1 ⟨e,h,x⟩ K = d_q020_k1 C gl (aget e 0) h x K:=by kernel_rfl
def P_q020 (q1 : ACode) : ACode:=(.seq (rg [mV 4 (cI 0)] [0,1])
(.seq (.seq (rg [mV 5 1,
bN 6 .lss 5 (cI 1)] [0,1,6])
(.cond 6 (.seq (rg [mV 4 (cI 0)] [4])
.ret)
.skip))
(.seq (rg [mV 7 0,
mV 8 1,
bN 9 .rem 7 8,
mV 0 9] [0,1])
(.seq (.seq (rg [mV 10 0,
bN 11 .lss 10 (cI 0)] [0,1,11])
(.cond 11 (rg [mV 12 0,
mV 13 1,
bN 14 .add 12 13,
mV 0 14] [0])
.skip))
q1))))
def a_q020 : AFun:=⟨2,[.t 4],P_q020 p_q020_k1,false,false⟩
def d_q020 (C : Hd) (gl : GL) (q1 : ACode) (v0 v1 : AV) (h : Heap) (x : Esc) (K : KT) : Prop:=
 pK (oBin .lss v1 (AI 1)) fun t1=>
 condB t1 (K .ret ⟨[(4,(AI 0))],h,x⟩)
 (pK (oBin .rem v0 v1) fun t2=>
 pK (oBin .lss t2 (AI 0)) fun t3=>
 condB t3 (pK (oBin .add t2 v1) fun t4=>
 NW C gl q1 ⟨[(0,t4)],h,x⟩ K)
 (NW C gl q1 ⟨[(0,t2),(1,v1),(11,t3)],h,x⟩ K))
theorem E_q020 {C gl q1 v0 v1 h x K} : NW C gl (P_q020 q1) ⟨enter [v0,v1],h,x⟩ K = d_q020 C gl q1 v0 v1 h x K:=by kernel_rfl
theorem e_q020 {C gl v0 v1 h x K} : NW C gl a_q020.body ⟨enter [v0,v1],h,x⟩ K = d_q020 C gl p_q020_k1 v0 v1 h x K:=E_q020
def p_q03k_k1 : ACode:=.pr [0,1,2,3,8,9,10,11] (.seq (.seq (dr [dF (mV 73 1) [1],
dF (bN 74 .gtr 73 (cI 0)) [73],
dF (mV 75 74) [74],
dF (gD 76 75 true (.mv 0)) [0,75],
dF (gD 77 75 true (.mv 1)) [1,75],
dF (gD 78 75 true (.bin .sub 77 (cI 1))) [77,75],
dF (gD 79 75 true (.iaddr none 76 78)) [76,78,75],
dF (gD 80 75 true (.load none 79)) [79,75],
dF (gD 81 75 true (.mv 0)) [0,75],
dF (gD 82 75 true (.mv 11)) [11,75],
dF (gD 83 75 true (.iaddr none 81 82)) [81,82,75],
dF (gD 84 75 true (.load none 83)) [83,75],
dT (gD 85 75 true (.call f_q00s [80,84])) [80,84,75],
dF (gD 86 75 true (.un .not 85)) [85,75],
dF (uO 87 (.pick 75 86 cF)) [75,86]] [0,1,2,3,8,9,10,11,87])
(.cond 87 (.seq (rg [mV 88 0,
mV 89 1,
mV 90 2,
mV 91 11,
cL 92 f_q03i [88,89,90,91],
mV 13 92] [0,2,3,8,9,13])
(.seq (rg [mV 93 13,
mV 1 93] [0,1,2,3,8,9])
(.exit 1)))
.skip))
(.seq (rg [mV 95 0,
mV 96 1,
mV 97 2,
mV 98 11,
cL 99 f_q03j [95,96,97,98],
mV 94 99,
eX 100 94 0,
eX 101 94 1,
mV 14 100,
mV 15 101] [0,1,2,3,10,14,15])
(.seq (rg [mV 102 15,
mV 9 102] [0,1,2,3,9,10,14])
(.seq (rg [mV 103 14,
mV 104 1,
bN 105 .sub 103 104,
mV 106 2,
mV 107 14,
bN 108 .sub 106 107,
mV 16 105,
mV 17 108] [0,1,2,3,9,10,14,16,17])
(.seq (rg [mV 109 10,
bN 110 .quo 109 (cI 8),
mV 18 110] [0,1,2,3,9,14,16,17,18])
(.seq (rg [mV 111 16,
mV 112 17,
bN 113 .lss 111 112] [0,1,2,3,9,14,16,17,18,113])
(.cond 113 (.seq (rg [mV 114 16,
mV 115 18,
bN 116 .geq 114 115,
mV 8 116] [0,1,2,3,8,9,14])
(.seq (rg [mV 117 0,
mV 118 1,
mV 119 14,
mV 120 3,
cL 121 f_q03k [117,118,119,120]] [0,2,3,8,9,14])
(rg [mV 122 14,
bN 123 .add 122 (cI 1),
mV 1 123] [0,1,2,3,8,9])))
(.seq (rg [mV 124 17,
mV 125 18,
bN 126 .geq 124 125,
mV 8 126] [0,1,2,3,8,9,14])
(.seq (rg [mV 127 0,
mV 128 14,
bN 129 .add 128 (cI 1),
mV 130 2,
mV 131 3,
cL 132 f_q03k [127,129,130,131]] [0,1,3,8,9,14])
(rg [mV 133 14,
mV 2 133] [0,1,2,3,8,9]))))))))))
def d_q03k_k1 (C : Hd) (gl : GL) (v0 v1 v2 v3 v8 v9 v10 v11 : AV) (h : Heap) (x : Esc) (K : KT) : Prop:=
 pK (oBin .gtr v1 (AI 0)) fun t1=>
 gM t1 true v0 h fun t2 h3 y4=>
 gM t1 true v1 h3 fun t5 h6 y7=>
 gP t1 true (oBin .sub t5 (AI 1)) h6 fun t8 h9 y10=>
 gP t1 true (oIaddr none t2 t8 h9) h9 fun t11 h12 y13=>
 gP t1 true (oLoad none t11 h12) h12 fun t14 h15 y16=>
 gM t1 true v0 h15 fun t17 h18 y19=>
 gM t1 true v11 h18 fun t20 h21 y22=>
 gP t1 true (oIaddr none t17 t20 h21) h21 fun t23 h24 y25=>
 gP t1 true (oLoad none t23 h24) h24 fun t26 h27 y28=>
 gV t1 true h27 (callE C f_q00s [t14,t26] h27) fun t29 h30 y31=>
 gP t1 true (oUn .not t29) h30 fun t32 h33 y34=>
 pK (oPick t1 t32 (AB false)) fun t35=>
 condB t35 (C f_q03i [v0,v1,v2,v11] h33 fun t36 h37 y38=>
 K (.exit 1) ⟨[(0,v0),(1,t36),(2,v2),(3,v3),(8,v8),(9,v9)],h37,(y38 ++ (y34 ++ (y31 ++ (y28 ++ (y25 ++ (y22 ++ (y19 ++ (y16 ++ (y13 ++ (y10 ++ (y7 ++ (y4 ++ x))))))))))))⟩)
 (C f_q03j [v0,v1,v2,v11] h33 fun t39 h40 y41=>
 pK (oExt t39 0) fun t42=>
 pK (oExt t39 1) fun t43=>
 pK (oBin .sub t42 v1) fun t44=>
 pK (oBin .sub v2 t42) fun t45=>
 pK (oBin .quo v10 (AI 8)) fun t46=>
 pK (oBin .lss t44 t45) fun t47=>
 condB t47 (pK (oBin .geq t44 t46) fun t48=>
 C f_q03k [v0,v1,t42,v3] h40 fun t49 h50 y51=>
 pK (oBin .add t42 (AI 1)) fun t52=>
 K .normal ⟨[(0,v0),(1,t52),(2,v2),(3,v3),(8,t48),(9,t43)],h50,(y51 ++ (y41 ++ (y34 ++ (y31 ++ (y28 ++ (y25 ++ (y22 ++ (y19 ++ (y16 ++ (y13 ++ (y10 ++ (y7 ++ (y4 ++ x)))))))))))))⟩)
 (pK (oBin .geq t45 t46) fun t53=>
 pK (oBin .add t42 (AI 1)) fun t54=>
 C f_q03k [v0,t54,v2,v3] h40 fun t55 h56 y57=>
 K .normal ⟨[(0,v0),(1,v1),(2,t42),(3,v3),(8,t53),(9,t43)],h56,(y57 ++ (y41 ++ (y34 ++ (y31 ++ (y28 ++ (y25 ++ (y22 ++ (y19 ++ (y16 ++ (y13 ++ (y10 ++ (y7 ++ (y4 ++ x)))))))))))))⟩))
theorem e_q03k_k1 {C gl e h x K} : NW C gl p_q03k_k1 ⟨e,h,x⟩ K = d_q03k_k1 C gl (aget e 0) (aget e 1) (aget e 2) (aget e 3) (aget e 8) (aget e 9) (aget e 10) (aget e 11) h x K:=by kernel_rfl
def P_q03k_k2 (q1 : ACode) : ACode:=.pr [0,1,2,3,8,9,10,11,12] (.seq (.seq (rg [mV 61 8,
mV 62 61,
gD 63 62 true (.mv 9),
uO 64 (.pick 62 63 cF),
mV 65 64,
gD 66 65 true (.mv 12),
gD 67 65 true (.bin .eql 66 (cI 1)),
uO 68 (.pick 65 67 cF)] [0,1,2,3,8,9,10,11,68])
(.cond 68 (.seq (rg [mV 69 0,
mV 70 1,
mV 71 2,
cL 72 f_q03h [69,70,71]] [0,1,2,3,8,9,10,11,72])
(.cond 72 .ret
.skip))
.skip))
q1)
def p_q03k_k2 : ACode:=P_q03k_k2 p_q03k_k1
def d_q03k_k2 (C : Hd) (gl : GL) (q1 : ACode) (v0 v1 v2 v3 v8 v9 v10 v11 v12 : AV) (h : Heap) (x : Esc) (K : KT) : Prop:=
 gM v8 true v9 h fun t1 h2 y3=>
 pK (oPick v8 t1 (AB false)) fun t4=>
 gM t4 true v12 h2 fun t5 h6 y7=>
 gP t4 true (oBin .eql t5 (AI 1)) h6 fun t8 h9 y10=>
 pK (oPick t4 t8 (AB false)) fun t11=>
 condB t11 (C f_q03h [v0,v1,v2] h9 fun t12 h13 y14=>
 condB t12 (K .ret ⟨[(0,v0),(1,v1),(2,v2),(3,v3),(8,v8),(9,v9),(10,v10),(11,v11),(72,t12)],h13,(y14 ++ (y10 ++ (y7 ++ (y3 ++ x))))⟩)
 (NW C gl q1 ⟨[(0,v0),(1,v1),(2,v2),(3,v3),(8,v8),(9,v9),(10,v10),(11,v11),(72,t12)],h13,(y14 ++ (y10 ++ (y7 ++ (y3 ++ x))))⟩ K))
 (NW C gl q1 ⟨[(0,v0),(1,v1),(2,v2),(3,v3),(8,v8),(9,v9),(10,v10),(11,v11),(68,t11)],h9,(y10 ++ (y7 ++ (y3 ++ x)))⟩ K)
theorem E_q03k_k2 {C gl q1 e h x K} : NW C gl (P_q03k_k2 q1) ⟨e,h,x⟩ K = d_q03k_k2 C gl q1 (aget e 0) (aget e 1) (aget e 2) (aget e 3) (aget e 8) (aget e 9) (aget e 10) (aget e 11) (aget e 12) h x K:=by kernel_rfl
theorem e_q03k_k2 {C gl e h x K} : NW C gl p_q03k_k2 ⟨e,h,x⟩ K = d_q03k_k2 C gl p_q03k_k1 (aget e 0) (aget e 1) (aget e 2) (aget e 3) (aget e 8) (aget e 9) (aget e 10) (aget e 11) (aget e 12) h x K:=E_q03k_k2
def P_q03k_k3 (q2 : ACode) : ACode:=.pr [0,1,2,3,8,9,10] (.seq (rg [mV 43 0,
mV 44 1,
mV 45 2,
cL 46 f_q03a [43,44,45],
mV 42 46,
eX 47 42 0,
eX 48 42 1,
mV 11 47,
mV 12 48] [0,1,2,3,8,9,10,11,12])
(.seq (.seq (rg [mV 49 12,
bN 50 .eql 49 (cI 2)] [0,1,2,3,8,9,10,11,12,50])
(.cond 50 (.seq (rg [mV 51 0,
mV 52 1,
mV 53 2,
cL 54 f_q03l [51,52,53]] [0,1,2,3,8,9,10,11])
(.seq (rg [mV 55 2,
bN 56 .sub 55 (cI 1),
mV 57 11,
mV 58 1,
bN 59 .sub 57 58,
bN 60 .sub 56 59,
mV 11 60] [0,1,2,3,8,9,10,11])
(rg [mV 12 (cI 1)] [0,1,2,3,8,9,10,11,12])))
.skip))
q2))
def p_q03k_k3 : ACode:=P_q03k_k3 p_q03k_k2
def d_q03k_k3 (C : Hd) (gl : GL) (q2 : ACode) (v0 v1 v2 v3 v8 v9 v10 : AV) (h : Heap) (x : Esc) (K : KT) : Prop:=
 C f_q03a [v0,v1,v2] h fun t1 h2 y3=>
 pK (oExt t1 0) fun t4=>
 pK (oExt t1 1) fun t5=>
 pK (oBin .eql t5 (AI 2)) fun t6=>
 condB t6 (C f_q03l [v0,v1,v2] h2 fun t7 h8 y9=>
 pK (oBin .sub v2 (AI 1)) fun t10=>
 pK (oBin .sub t4 v1) fun t11=>
 pK (oBin .sub t10 t11) fun t12=>
 NW C gl q2 ⟨[(0,v0),(1,v1),(2,v2),(3,v3),(8,v8),(9,v9),(10,v10),(11,t12),(12,(AI 1))],h8,(y9 ++ (y3 ++ x))⟩ K)
 (NW C gl q2 ⟨[(0,v0),(1,v1),(2,v2),(3,v3),(8,v8),(9,v9),(10,v10),(11,t4),(12,t5),(50,t6)],h2,(y3 ++ x)⟩ K)
theorem E_q03k_k3 {C gl q2 e h x K} : NW C gl (P_q03k_k3 q2) ⟨e,h,x⟩ K = d_q03k_k3 C gl q2 (aget e 0) (aget e 1) (aget e 2) (aget e 3) (aget e 8) (aget e 9) (aget e 10) h x K:=by kernel_rfl
theorem e_q03k_k3 {C gl e h x K} : NW C gl p_q03k_k3 ⟨e,h,x⟩ K = d_q03k_k3 C gl p_q03k_k2 (aget e 0) (aget e 1) (aget e 2) (aget e 3) (aget e 8) (aget e 9) (aget e 10) h x K:=E_q03k_k3
def P_q03k_k4 (q3 : ACode) : ACode:=.pr [0,1,2,3,8,9] (.block 1 (.seq (rg [mV 19 2,
mV 20 1,
bN 21 .sub 19 20,
mV 10 21] [0,1,2,3,8,9,10])
(.seq (.seq (rg [mV 22 10,
bN 23 .leq 22 (cI 12)] [0,1,2,3,8,9,10,23])
(.cond 23 (.seq (rg [mV 24 0,
mV 25 1,
mV 26 2,
cL 27 f_q03c [24,25,26]] [])
.ret)
.skip))
(.seq (.seq (rg [mV 28 3,
bN 29 .eql 28 (cI 0)] [0,1,2,3,8,9,10,29])
(.cond 29 (.seq (rg [mV 30 0,
mV 31 1,
mV 32 2,
cL 33 f_q03b [30,31,32]] [])
.ret)
.skip))
(.seq (.seq (rg [mV 34 8,
uO 35 (.un .not 34)] [0,1,2,3,8,9,10,35])
(.cond 35 (.seq (rg [mV 36 0,
mV 37 1,
mV 38 2,
cL 39 f_q039 [36,37,38]] [0,1,2,3,8,9,10])
(rg [mV 40 3,
bN 41 .sub 40 (cI 1),
mV 3 41] [0,1,2,3,8,9,10]))
.skip))
q3)))))
def p_q03k_k4 : ACode:=P_q03k_k4 p_q03k_k3
def d_q03k_k4 (C : Hd) (gl : GL) (q3 : ACode) (v0 v1 v2 v3 v8 v9 : AV) (h : Heap) (x : Esc) (K : KT) : Prop:=
 pK (oBin .sub v2 v1) fun t1=>
 pK (oBin .leq t1 (AI 12)) fun t2=>
 condB t2 (C f_q03c [v0,v1,v2] h fun t3 h4 y5=>
 K .ret ⟨[],h4,(y5 ++ x)⟩)
 (pK (oBin .eql v3 (AI 0)) fun t6=>
 condB t6 (C f_q03b [v0,v1,v2] h fun t7 h8 y9=>
 K .ret ⟨[],h8,(y9 ++ x)⟩)
 (pK (oUn .not v8) fun t10=>
 condB t10 (C f_q039 [v0,v1,v2] h fun t11 h12 y13=>
 pK (oBin .sub v3 (AI 1)) fun t14=>
 NW C gl q3 ⟨[(0,v0),(1,v1),(2,v2),(3,t14),(8,v8),(9,v9),(10,t1)],h12,(y13 ++ x)⟩ (blockN 1 K))
 (NW C gl q3 ⟨[(0,v0),(1,v1),(2,v2),(3,v3),(8,v8),(9,v9),(10,t1),(35,t10)],h,x⟩ (blockN 1 K))))
theorem E_q03k_k4 {C gl q3 e h x K} : NW C gl (P_q03k_k4 q3) ⟨e,h,x⟩ K = d_q03k_k4 C gl q3 (aget e 0) (aget e 1) (aget e 2) (aget e 3) (aget e 8) (aget e 9) h x K:=by kernel_rfl
theorem e_q03k_k4 {C gl e h x K} : NW C gl p_q03k_k4 ⟨e,h,x⟩ K = d_q03k_k4 C gl p_q03k_k3 (aget e 0) (aget e 1) (aget e 2) (aget e 3) (aget e 8) (aget e 9) h x K:=E_q03k_k4
theorem l_q03k_k4 {C gl e h x K} : NW C gl (.loop p_q03k_k4) ⟨e,h,x⟩ K = NLoop C gl p_q03k_k4 K [(0,aget e 0),(1,aget e 1),(2,aget e 2),(3,aget e 3),(8,aget e 8),(9,aget e 9)] h x:=NLoop_pr
def P_q03k (q4 : ACode) : ACode:=(.seq (rg [mV 8 cT] [0,1,2,3,8])
(.seq (rg [mV 9 cT] [0,1,2,3,8,9])
(.block 0 (.loop q4))))
def a_q03k : AFun:=⟨4,[],P_q03k p_q03k_k4,true,false⟩
def d_q03k (C : Hd) (gl : GL) (q4 : ACode) (v0 v1 v2 v3 : AV) (h : Heap) (x : Esc) (K : KT) : Prop:=
 NW C gl (.loop q4) ⟨[(0,v0),(1,v1),(2,v2),(3,v3),(8,(AB true)),(9,(AB true))],h,x⟩ (blockN 0 K)
theorem E_q03k {C gl q4 v0 v1 v2 v3 h x K} : NW C gl (P_q03k q4) ⟨enter [v0,v1,v2,v3],h,x⟩ K = d_q03k C gl q4 v0 v1 v2 v3 h x K:=by kernel_rfl
theorem e_q03k {C gl v0 v1 v2 v3 h x K} : NW C gl a_q03k.body ⟨enter [v0,v1,v2,v3],h,x⟩ K = d_q03k C gl p_q03k_k4 v0 v1 v2 v3 h x K:=E_q03k
def P_q01l : ACode:=(.seq (rg [mV 2 (cI 0)] [0])
(.seq (.cond cF (.seq (rg [mV 3 0,
uO 4 (.conv (.i .u32) 3),
cL 5 f_q01m [4],
mV 2 5] [2])
.ret)
.skip)
(.seq (rg [mV 6 0,
cL 7 f_q01n [6],
mV 2 7] [2])
.ret)))
def a_q01l : AFun:=⟨1,[.t 2],P_q01l,false,false⟩
def d_q01l (C : Hd) (gl : GL) (v0 : AV) (h : Heap) (x : Esc) (K : KT) : Prop:=
 condB (AB false) (pK (oConvI .u32 v0) fun t1=>
 C f_q01m [t1] h fun t2 h3 y4=>
 K .ret ⟨[(2,t2)],h3,(y4 ++ x)⟩)
 (C f_q01n [v0] h fun t5 h6 y7=>
 K .ret ⟨[(2,t5)],h6,(y7 ++ x)⟩)
theorem e_q01l {C gl v0 h x K} : NW C gl a_q01l.body ⟨enter [v0],h,x⟩ K = d_q01l C gl v0 h x K:=by kernel_rfl
def P_q014 : ACode:=(.seq (rg [uO 4 (.box 1),
mV 6 (.c (.p (.sl none [])))] [0,2,4])
(.seq (rg [mV 8 0,
cL 9 f_q02v [8],
mV 7 9] [2,4,7])
(.seq (dr [dF (mV 10 7) [7],
dF (lD 11 (some 2) 4) [4],
dF (mV 12 2) [2],
dA (cL 13 f_q017 [12]) [12] true [] [1],
dT (cL 14 f_q018 [10,11,13]) [10,11,13]] [7])
(.seq (rg [mV 15 7,
mV 6 15] [6])
.ret))))
def a_q014 : AFun:=⟨3,[.t 6],P_q014,false,false⟩
def d_q014 (C : Hd) (gl : GL) (v0 v1 v2 : AV) (h : Heap) (x : Esc) (K : KT) : Prop:=
 wK (oBox v1 h) fun t1 h2 y3=>
 C f_q02v [v0] h2 fun t4 h5 y6=>
 pK (oLoad (some 2) t1 h5) fun t7=>
 callE C f_q017 [v2] h5 fun t8 h9 y10=>
 (pK (oLoad (some 2) t1 h9) fun v=>(fun u (g1 : Heap) (y1 : Esc)=>u = t7 ∧ g1 = h9 ∧ y1 = []) v h9 []) ∧ (callE C f_q018 [t4,t7,t8] h9 fun t11 h12 y13=>
 K .ret ⟨[(6,t4)],h12,(y13 ++ (y10 ++ (y6 ++ (y3 ++ x))))⟩)
theorem e_q014 {C gl v0 v1 v2 h x K} : NW C gl a_q014.body ⟨enter [v0,v1,v2],h,x⟩ K = d_q014 C gl v0 v1 v2 h x K:=by kernel_rfl
def p_q02m_k1 : ACode:=.pr [0,1,7,8] (.seq (rg [bN 9 .lss 8 7] [0,1,7,8,9])
(.seq (.cond 9 .skip
(.exit 0))
(.seq (.block 1 (.seq (rg [mV 10 8,
mV 5 10] [0,1,5,7,8])
(.seq (rg [mV 11 1,
mV 12 0,
mV 13 5,
uO 14 (.idxs 12 13),
cL 15 f_q04d [11,14],
bN 16 .lss 15 (cI 0)] [0,1,7,8,16])
(.cond 16 (.seq (rg [mV 4 cF] [4])
.ret)
.skip))))
(rg [bN 17 .add 8 (cI 1),
mV 8 17] [0,1,7,8]))))
def d_q02m_k1 (C : Hd) (gl : GL) (v0 v1 v7 v8 : AV) (h : Heap) (x : Esc) (K : KT) : Prop:=
 pK (oBin .lss v8 v7) fun t1=>
 condB t1 (pK (oIdxs v0 v8) fun t2=>
 C f_q04d [v1,t2] h fun t3 h4 y5=>
 pK (oBin .lss t3 (AI 0)) fun t6=>
 condB t6 (K .ret ⟨[(4,(AB false))],h4,(y5 ++ x)⟩)
 (pK (oBin .add v8 (AI 1)) fun t7=>
 K .normal ⟨[(0,v0),(1,v1),(7,v7),(8,t7)],h4,(y5 ++ x)⟩))
 (K (.exit 0) ⟨[(0,v0),(1,v1),(7,v7),(8,v8),(9,t1)],h,x⟩)
theorem e_q02m_k1 {C gl e h x K} : NW C gl p_q02m_k1 ⟨e,h,x⟩ K = d_q02m_k1 C gl (aget e 0) (aget e 1) (aget e 7) (aget e 8) h x K:=by kernel_rfl
theorem l_q02m_k1 {C gl e h x K} : NW C gl (.loop p_q02m_k1) ⟨e,h,x⟩ K = NLoop C gl p_q02m_k1 K [(0,aget e 0),(1,aget e 1),(7,aget e 7),(8,aget e 8)] h x:=NLoop_pr
def p_q02m_k2 : ACode:=.pr [] (.seq (rg [mV 4 cT] [4])
.ret)
def d_q02m_k2 (C : Hd) (gl : GL) (h : Heap) (x : Esc) (K : KT) : Prop:=
 K .ret ⟨[(4,(AB true))],h,x⟩
theorem e_q02m_k2 {C gl e h x K} : NW C gl p_q02m_k2 ⟨e,h,x⟩ K = d_q02m_k2 C gl h x K:=by kernel_rfl
def P_q02m (q1 q2 : ACode) : ACode:=(.seq (rg [mV 4 cF] [0,1])
(.seq (.seq (rg [mV 6 0,
uO 7 (.lens 6),
mV 8 (cI 0)] [0,1,7,8])
(.block 0 (.loop q1)))
q2))
def a_q02m : AFun:=⟨2,[.t 4],P_q02m p_q02m_k1 p_q02m_k2,false,false⟩
def d_q02m (C : Hd) (gl : GL) (q1 q2 : ACode) (v0 v1 : AV) (h : Heap) (x : Esc) (K : KT) : Prop:=
 pK (oLens v0) fun t1=>
 NW C gl (.loop q1) ⟨[(0,v0),(1,v1),(7,t1),(8,(AI 0))],h,x⟩ (blockN 0 (seqN C gl q2 K))
theorem E_q02m {C gl q1 q2 v0 v1 h x K} : NW C gl (P_q02m q1 q2) ⟨enter [v0,v1],h,x⟩ K = d_q02m C gl q1 q2 v0 v1 h x K:=by kernel_rfl
theorem e_q02m {C gl v0 v1 h x K} : NW C gl a_q02m.body ⟨enter [v0,v1],h,x⟩ K = d_q02m C gl p_q02m_k1 p_q02m_k2 v0 v1 h x K:=E_q02m
def p_q034_k1 : ACode:=.pr [0,1,7,8] (.seq (rg [bN 9 .lss 8 7] [0,1,7,8,9])
(.seq (.cond 9 .skip
(.exit 0))
(.seq (.block 1 (.seq (rg [mV 10 8,
mV 5 10] [0,1,5,7,8])
(.seq (rg [mV 11 1,
mV 12 0,
mV 13 5,
iA 14 none 12 13,
lD 15 none 14,
uO 16 (.callv 11 [15])] [0,1,5,7,8,16])
(.cond 16 (.seq (rg [mV 17 5,
mV 4 17] [4])
.ret)
.skip))))
(rg [bN 18 .add 8 (cI 1),
mV 8 18] [0,1,7,8]))))
def d_q034_k1 (C : Hd) (gl : GL) (v0 v1 v7 v8 : AV) (h : Heap) (x : Esc) (K : KT) : Prop:=
 pK (oBin .lss v8 v7) fun t1=>
 condB t1 (pK (oIaddr none v0 v8 h) fun t2=>
 pK (oLoad none t2 h) fun t3=>
 callvK C v1 [t3] h fun t4 h5 y6=>
 condB t4 (K .ret ⟨[(4,v8)],h5,(y6 ++ x)⟩)
 (pK (oBin .add v8 (AI 1)) fun t7=>
 K .normal ⟨[(0,v0),(1,v1),(7,v7),(8,t7)],h5,(y6 ++ x)⟩))
 (K (.exit 0) ⟨[(0,v0),(1,v1),(7,v7),(8,v8),(9,t1)],h,x⟩)
theorem e_q034_k1 {C gl e h x K} : NW C gl p_q034_k1 ⟨e,h,x⟩ K = d_q034_k1 C gl (aget e 0) (aget e 1) (aget e 7) (aget e 8) h x K:=by kernel_rfl
theorem l_q034_k1 {C gl e h x K} : NW C gl (.loop p_q034_k1) ⟨e,h,x⟩ K = NLoop C gl p_q034_k1 K [(0,aget e 0),(1,aget e 1),(7,aget e 7),(8,aget e 8)] h x:=NLoop_pr
def p_q034_k2 : ACode:=.pr [] (.seq (rg [mV 4 (cI (-1))] [4])
.ret)
def d_q034_k2 (C : Hd) (gl : GL) (h : Heap) (x : Esc) (K : KT) : Prop:=
 K .ret ⟨[(4,(AI (-1)))],h,x⟩
theorem e_q034_k2 {C gl e h x K} : NW C gl p_q034_k2 ⟨e,h,x⟩ K = d_q034_k2 C gl h x K:=by kernel_rfl
def P_q034 (q1 q2 : ACode) : ACode:=(.seq (rg [mV 4 (cI 0)] [0,1])
(.seq (.seq (rg [mV 6 0,
lN 7 6,
mV 8 (cI 0)] [0,1,7,8])
(.block 0 (.loop q1)))
q2))
def a_q034 : AFun:=⟨2,[.t 4],P_q034 p_q034_k1 p_q034_k2,true,false⟩
def d_q034 (C : Hd) (gl : GL) (q1 q2 : ACode) (v0 v1 : AV) (h : Heap) (x : Esc) (K : KT) : Prop:=
 pK (oLen v0) fun t1=>
 NW C gl (.loop q1) ⟨[(0,v0),(1,v1),(7,t1),(8,(AI 0))],h,x⟩ (blockN 0 (seqN C gl q2 K))
theorem E_q034 {C gl q1 q2 v0 v1 h x K} : NW C gl (P_q034 q1 q2) ⟨enter [v0,v1],h,x⟩ K = d_q034 C gl q1 q2 v0 v1 h x K:=by kernel_rfl
theorem e_q034 {C gl v0 v1 h x K} : NW C gl a_q034.body ⟨enter [v0,v1],h,x⟩ K = d_q034 C gl p_q034_k1 p_q034_k2 v0 v1 h x K:=E_q034
def p_q03c_k1 : ACode:=.pr [0,1,2,6,7] (.seq (.seq (dr [dF (mV 16 7) [7],
dF (mV 17 1) [1],
dF (bN 18 .gtr 16 17) [16,17],
dF (mV 19 18) [18],
dF (gD 20 19 true (.mv 0)) [0,19],
dF (gD 21 19 true (.mv 7)) [7,19],
dF (gD 22 19 true (.iaddr none 20 21)) [20,21,19],
dF (gD 23 19 true (.load none 22)) [22,19],
dF (gD 24 19 true (.mv 0)) [0,19],
dF (gD 25 19 true (.mv 7)) [7,19],
dF (gD 26 19 true (.bin .sub 25 (cI 1))) [25,19],
dF (gD 27 19 true (.iaddr none 24 26)) [24,26,19],
dF (gD 28 19 true (.load none 27)) [27,19],
dT (gD 29 19 true (.call f_q00s [23,28])) [23,28,19],
dF (uO 30 (.pick 19 29 cF)) [19,29]] [0,1,2,6,7,30])
(.cond 30 .skip
(.exit 2)))
(.seq (.block 3 (dr [dF (mV 33 0) [0],
dF (mV 34 7) [7],
dF (mV 35 0) [0],
dF (mV 36 7) [7],
dF (bN 37 .sub 36 (cI 1)) [36],
dF (mV 38 0) [0],
dF (mV 39 7) [7],
dF (bN 40 .sub 39 (cI 1)) [39],
dF (iA 41 none 38 40) [38,40],
dF (lD 42 none 41) [41],
dF (mV 43 0) [0],
dF (mV 44 7) [7],
dF (iA 45 none 43 44) [43,44],
dF (lD 46 none 45) [45],
dF (iA 47 none 33 34) [33,34],
dT (wO (.store none 47 42)) [47,42],
dF (iA 48 none 35 37) [35,37],
dT (wO (.store none 48 46)) [48,46]] [0,1,2,6,7]))
(rg [mV 31 7,
bN 32 .sub 31 (cI 1),
mV 7 32] [0,1,2,6,7])))
def d_q03c_k1 (C : Hd) (gl : GL) (v0 v1 v2 v6 v7 : AV) (h : Heap) (x : Esc) (K : KT) : Prop:=
 pK (oBin .gtr v7 v1) fun t1=>
 gM t1 true v0 h fun t2 h3 y4=>
 gM t1 true v7 h3 fun t5 h6 y7=>
 gP t1 true (oIaddr none t2 t5 h6) h6 fun t8 h9 y10=>
 gP t1 true (oLoad none t8 h9) h9 fun t11 h12 y13=>
 gM t1 true v0 h12 fun t14 h15 y16=>
 gM t1 true v7 h15 fun t17 h18 y19=>
 gP t1 true (oBin .sub t17 (AI 1)) h18 fun t20 h21 y22=>
 gP t1 true (oIaddr none t14 t20 h21) h21 fun t23 h24 y25=>
 gP t1 true (oLoad none t23 h24) h24 fun t26 h27 y28=>
 gV t1 true h27 (callE C f_q00s [t11,t26] h27) fun t29 h30 y31=>
 pK (oPick t1 t29 (AB false)) fun t32=>
 condB t32 (pK (oBin .sub v7 (AI 1)) fun t33=>
 pK (oBin .sub v7 (AI 1)) fun t34=>
 pK (oIaddr none v0 t34 h30) fun t35=>
 pK (oLoad none t35 h30) fun t36=>
 pK (oIaddr none v0 v7 h30) fun t37=>
 pK (oLoad none t37 h30) fun t38=>
 pK (oIaddr none v0 v7 h30) fun t39=>
 wK (oStore none t39 t36 h30) fun t40 h41 y42=>
 pK (oIaddr none v0 t33 h41) fun t43=>
 wK (oStore none t43 t38 h41) fun t44 h45 y46=>
 pK (oBin .sub v7 (AI 1)) fun t47=>
 K .normal ⟨[(0,v0),(1,v1),(2,v2),(6,v6),(7,t47)],h45,(y46 ++ (y42 ++ (y31 ++ (y28 ++ (y25 ++ (y22 ++ (y19 ++ (y16 ++ (y13 ++ (y10 ++ (y7 ++ (y4 ++ x))))))))))))⟩)
 (K (.exit 2) ⟨[(0,v0),(1,v1),(2,v2),(6,v6),(7,v7),(30,t32)],h30,(y31 ++ (y28 ++ (y25 ++ (y22 ++ (y19 ++ (y16 ++ (y13 ++ (y10 ++ (y7 ++ (y4 ++ x))))))))))⟩)
theorem e_q03c_k1 {C gl e h x K} : NW C gl p_q03c_k1 ⟨e,h,x⟩ K = d_q03c_k1 C gl (aget e 0) (aget e 1) (aget e 2) (aget e 6) (aget e 7) h x K:=by kernel_rfl
theorem l_q03c_k1 {C gl e h x K} : NW C gl (.loop p_q03c_k1) ⟨e,h,x⟩ K = NLoop C gl p_q03c_k1 K [(0,aget e 0),(1,aget e 1),(2,aget e 2),(6,aget e 6),(7,aget e 7)] h x:=NLoop_pr
def p_q03c_k2 : ACode:=.pr [0,1,2,6] (rg [mV 13 6,
bN 14 .add 13 (cI 1),
mV 6 14] [0,1,2,6])
def d_q03c_k2 (C : Hd) (gl : GL) (v0 v1 v2 v6 : AV) (h : Heap) (x : Esc) (K : KT) : Prop:=
 pK (oBin .add v6 (AI 1)) fun t1=>
 K .normal ⟨[(0,v0),(1,v1),(2,v2),(6,t1)],h,x⟩
theorem e_q03c_k2 {C gl e h x K} : NW C gl p_q03c_k2 ⟨e,h,x⟩ K = d_q03c_k2 C gl (aget e 0) (aget e 1) (aget e 2) (aget e 6) h x K:=by kernel_rfl
def P_q03c_k3 (q1 q2 : ACode) : ACode:=.pr [0,1,2,6] (.seq (.seq (rg [mV 10 6,
mV 11 2,
bN 12 .lss 10 11] [0,1,2,6,12])
(.cond 12 .skip
(.exit 0)))
(.seq (.block 1 (.seq (rg [mV 15 6,
mV 7 15] [0,1,2,6,7])
(.block 2 (.loop q1))))
q2))
def p_q03c_k3 : ACode:=P_q03c_k3 p_q03c_k1 p_q03c_k2
def d_q03c_k3 (C : Hd) (gl : GL) (q1 q2 : ACode) (v0 v1 v2 v6 : AV) (h : Heap) (x : Esc) (K : KT) : Prop:=
 pK (oBin .lss v6 v2) fun t1=>
 condB t1 (NW C gl (.loop q1) ⟨[(0,v0),(1,v1),(2,v2),(6,v6),(7,v6)],h,x⟩ (blockN 2 (blockN 1 (seqN C gl q2 K))))
 (K (.exit 0) ⟨[(0,v0),(1,v1),(2,v2),(6,v6),(12,t1)],h,x⟩)
theorem E_q03c_k3 {C gl q1 q2 e h x K} : NW C gl (P_q03c_k3 q1 q2) ⟨e,h,x⟩ K = d_q03c_k3 C gl q1 q2 (aget e 0) (aget e 1) (aget e 2) (aget e 6) h x K:=by kernel_rfl
theorem e_q03c_k3 {C gl e h x K} : NW C gl p_q03c_k3 ⟨e,h,x⟩ K = d_q03c_k3 C gl p_q03c_k1 p_q03c_k2 (aget e 0) (aget e 1) (aget e 2) (aget e 6) h x K:=E_q03c_k3
theorem l_q03c_k3 {C gl e h x K} : NW C gl (.loop p_q03c_k3) ⟨e,h,x⟩ K = NLoop C gl p_q03c_k3 K [(0,aget e 0),(1,aget e 1),(2,aget e 2),(6,aget e 6)] h x:=NLoop_pr
def P_q03c (q3 : ACode) : ACode:=(.seq (rg [mV 8 1,
bN 9 .add 8 (cI 1),
mV 6 9] [0,1,2,6])
(.block 0 (.loop q3)))
def a_q03c : AFun:=⟨3,[],P_q03c p_q03c_k3,true,false⟩
def d_q03c (C : Hd) (gl : GL) (q3 : ACode) (v0 v1 v2 : AV) (h : Heap) (x : Esc) (K : KT) : Prop:=
 pK (oBin .add v1 (AI 1)) fun t1=>
 NW C gl (.loop q3) ⟨[(0,v0),(1,v1),(2,v2),(6,t1)],h,x⟩ (blockN 0 K)
theorem E_q03c {C gl q3 v0 v1 v2 h x K} : NW C gl (P_q03c q3) ⟨enter [v0,v1,v2],h,x⟩ K = d_q03c C gl q3 v0 v1 v2 h x K:=by kernel_rfl
theorem e_q03c {C gl v0 v1 v2 h x K} : NW C gl a_q03c.body ⟨enter [v0,v1,v2],h,x⟩ K = d_q03c C gl p_q03c_k3 v0 v1 v2 h x K:=E_q03c
def P_q00s : ACode:=(.seq (rg [mV 4 cF] [0,1])
(.seq (rg [mV 5 0,
cL 6 f_q00u [5],
mV 7 6,
gD 8 7 true (.mv 1),
gD 9 7 true (.call f_q00u [8]),
gD 10 7 true (.un .not 9),
uO 11 (.pick 7 10 cF),
mV 12 11,
gD 13 12 false (.mv 0),
gD 14 12 false (.mv 1),
gD 15 12 false (.bin .lss 13 14),
uO 16 (.pick 12 cT 15),
mV 4 16] [4])
.ret))
def a_q00s : AFun:=⟨2,[.t 4],P_q00s,false,false⟩
def d_q00s (C : Hd) (gl : GL) (v0 v1 : AV) (h : Heap) (x : Esc) (K : KT) : Prop:=
 C f_q00u [v0] h fun t1 h2 y3=>
 gM t1 true v1 h2 fun t4 h5 y6=>
 gV t1 true h5 (C f_q00u [t4] h5) fun t7 h8 y9=>
 gP t1 true (oUn .not t7) h8 fun t10 h11 y12=>
 pK (oPick t1 t10 (AB false)) fun t13=>
 gM t13 false v0 h11 fun t14 h15 y16=>
 gM t13 false v1 h15 fun t17 h18 y19=>
 gP t13 false (oBin .lss t14 t17) h18 fun t20 h21 y22=>
 pK (oPick t13 (AB true) t20) fun t23=>
 K .ret ⟨[(4,t23)],h21,(y22 ++ (y19 ++ (y16 ++ (y12 ++ (y9 ++ (y6 ++ (y3 ++ x)))))))⟩
theorem e_q00s {C gl v0 v1 h x K} : NW C gl a_q00s.body ⟨enter [v0,v1],h,x⟩ K = d_q00s C gl v0 v1 h x K:=by kernel_rfl
def p_q01n_k1 : ACode:=.pr [0,2] (.seq (rg [mV 19 2,
mV 20 0,
uO 21 (.conv (.i .u8) 20),
uO 22 (.idxs (cS [0,1,2,2,3,3,3,3,4,4,4,4,4,4,4,4,5,5,5,5,5,5,5,5,5,5,5,5,5,5,5,5,6,6,6,6,6,6,6,6,6,6,6,6,6,6,6,6,6,6,6,6,6,6,6,6,6,6,6,6,6,6,6,6,7,7,7,7,7,7,7,7,7,7,7,7,7,7,7,7,7,7,7,7,7,7,7,7,7,7,7,7,7,7,7,7,7,7,7,7,7,7,7,7,7,7,7,7,7,7,7,7,7,7,7,7,7,7,7,7,7,7,7,7,7,7,7,7,8,8,8,8,8,8,8,8,8,8,8,8,8,8,8,8,8,8,8,8,8,8,8,8,8,8,8,8,8,8,8,8,8,8,8,8,8,8,8,8,8,8,8,8,8,8,8,8,8,8,8,8,8,8,8,8,8,8,8,8,8,8,8,8,8,8,8,8,8,8,8,8,8,8,8,8,8,8,8,8,8,8,8,8,8,8,8,8,8,8,8,8,8,8,8,8,8,8,8,8,8,8,8,8,8,8,8,8,8,8,8,8,8,8,8,8,8,8,8,8,8,8,8,8,8,8,8,8]) 21),
uO 23 (.conv (.i .i64) 22),
bN 24 .add 19 23,
mV 2 24] [2])
.ret)
def d_q01n_k1 (C : Hd) (gl : GL) (v0 v2 : AV) (h : Heap) (x : Esc) (K : KT) : Prop:=
 pK (oConvI .u8 v0) fun t1=>
 pK (oIdxs (.p (.str [0,1,2,2,3,3,3,3,4,4,4,4,4,4,4,4,5,5,5,5,5,5,5,5,5,5,5,5,5,5,5,5,6,6,6,6,6,6,6,6,6,6,6,6,6,6,6,6,6,6,6,6,6,6,6,6,6,6,6,6,6,6,6,6,7,7,7,7,7,7,7,7,7,7,7,7,7,7,7,7,7,7,7,7,7,7,7,7,7,7,7,7,7,7,7,7,7,7,7,7,7,7,7,7,7,7,7,7,7,7,7,7,7,7,7,7,7,7,7,7,7,7,7,7,7,7,7,7,8,8,8,8,8,8,8,8,8,8,8,8,8,8,8,8,8,8,8,8,8,8,8,8,8,8,8,8,8,8,8,8,8,8,8,8,8,8,8,8,8,8,8,8,8,8,8,8,8,8,8,8,8,8,8,8,8,8,8,8,8,8,8,8,8,8,8,8,8,8,8,8,8,8,8,8,8,8,8,8,8,8,8,8,8,8,8,8,8,8,8,8,8,8,8,8,8,8,8,8,8,8,8,8,8,8,8,8,8,8,8,8,8,8,8,8,8,8,8,8,8,8,8,8,8,8,8,8])) t1) fun t2=>
 pK (oConvI .i64 t2) fun t3=>
 pK (oBin .add v2 t3) fun t4=>
 K .ret ⟨[(2,t4)],h,x⟩
theorem e_q01n_k1 {C gl e h x K} : NW C gl p_q01n_k1 ⟨e,h,x⟩ K = d_q01n_k1 C gl (aget e 0) (aget e 2) h x K:=by kernel_rfl
def P_q01n_k2 (q1 : ACode) : ACode:=.pr [0,2] (.seq (.seq (rg [mV 13 0,
bN 14 .geq 13 (.c (.p (.int .u64 256)))] [0,2,14])
(.cond 14 (.seq (rg [mV 15 0,
bN 16 .shr 15 (.c (.p (.int .u64 8))),
mV 0 16] [0,2])
(rg [mV 17 2,
bN 18 .add 17 (cI 8),
mV 2 18] [0,2]))
.skip))
q1)
def p_q01n_k2 : ACode:=P_q01n_k2 p_q01n_k1
def d_q01n_k2 (C : Hd) (gl : GL) (q1 : ACode) (v0 v2 : AV) (h : Heap) (x : Esc) (K : KT) : Prop:=
 pK (oBin .geq v0 (.p (.int .u64 256))) fun t1=>
 condB t1 (pK (oBin .shr v0 (.p (.int .u64 8))) fun t2=>
 pK (oBin .add v2 (AI 8)) fun t3=>
 NW C gl q1 ⟨[(0,t2),(2,t3)],h,x⟩ K)
 (NW C gl q1 ⟨[(0,v0),(2,v2),(14,t1)],h,x⟩ K)
theorem E_q01n_k2 {C gl q1 e h x K} : NW C gl (P_q01n_k2 q1) ⟨e,h,x⟩ K = d_q01n_k2 C gl q1 (aget e 0) (aget e 2) h x K:=by kernel_rfl
theorem e_q01n_k2 {C gl e h x K} : NW C gl p_q01n_k2 ⟨e,h,x⟩ K = d_q01n_k2 C gl p_q01n_k1 (aget e 0) (aget e 2) h x K:=E_q01n_k2
def P_q01n_k3 (q2 : ACode) : ACode:=.pr [0,2] (.seq (.seq (rg [mV 7 0,
bN 8 .geq 7 (.c (.p (.int .u64 65536)))] [0,2,8])
(.cond 8 (.seq (rg [mV 9 0,
bN 10 .shr 9 (.c (.p (.int .u64 16))),
mV 0 10] [0,2])
(rg [mV 11 2,
bN 12 .add 11 (cI 16),
mV 2 12] [0,2]))
.skip))
q2)
def p_q01n_k3 : ACode:=P_q01n_k3 p_q01n_k2
def d_q01n_k3 (C : Hd) (gl : GL) (q2 : ACode) (v0 v2 : AV) (h : Heap) (x : Esc) (K : KT) : Prop:=
 pK (oBin .geq v0 (.p (.int .u64 65536))) fun t1=>
 condB t1 (pK (oBin .shr v0 (.p (.int .u64 16))) fun t2=>
 pK (oBin .add v2 (AI 16)) fun t3=>
 NW C gl q2 ⟨[(0,t2),(2,t3)],h,x⟩ K)
 (NW C gl q2 ⟨[(0,v0),(2,v2),(8,t1)],h,x⟩ K)
theorem E_q01n_k3 {C gl q2 e h x K} : NW C gl (P_q01n_k3 q2) ⟨e,h,x⟩ K = d_q01n_k3 C gl q2 (aget e 0) (aget e 2) h x K:=by kernel_rfl
theorem e_q01n_k3 {C gl e h x K} : NW C gl p_q01n_k3 ⟨e,h,x⟩ K = d_q01n_k3 C gl p_q01n_k2 (aget e 0) (aget e 2) h x K:=E_q01n_k3
def P_q01n (q3 : ACode) : ACode:=(.seq (rg [mV 2 (cI 0)] [0,2])
(.seq (.seq (rg [mV 3 0,
bN 4 .geq 3 (.c (.p (.int .u64 4294967296)))] [0,2,4])
(.cond 4 (.seq (rg [mV 5 0,
bN 6 .shr 5 (.c (.p (.int .u64 32))),
mV 0 6] [0])
(rg [mV 2 (cI 32)] [0,2]))
.skip))
q3))
def a_q01n : AFun:=⟨1,[.t 2],P_q01n p_q01n_k3,false,false⟩
def d_q01n (C : Hd) (gl : GL) (q3 : ACode) (v0 : AV) (h : Heap) (x : Esc) (K : KT) : Prop:=
 pK (oBin .geq v0 (.p (.int .u64 4294967296))) fun t1=>
 condB t1 (pK (oBin .shr v0 (.p (.int .u64 32))) fun t2=>
 NW C gl q3 ⟨[(0,t2),(2,(AI 32))],h,x⟩ K)
 (NW C gl q3 ⟨[(0,v0),(2,(AI 0)),(4,t1)],h,x⟩ K)
theorem E_q01n {C gl q3 v0 h x K} : NW C gl (P_q01n q3) ⟨enter [v0],h,x⟩ K = d_q01n C gl q3 v0 h x K:=by kernel_rfl
theorem e_q01n {C gl v0 h x K} : NW C gl a_q01n.body ⟨enter [v0],h,x⟩ K = d_q01n C gl p_q01n_k3 v0 h x K:=E_q01n
def P_q02v : ACode:=(.det (.seq (rg [mV 2 (.c (.p (.sl none [])))] [0])
(.seq (.seq (rg [mV 3 0,
uO 4 (.isnil 4 false 3)] [0,4])
(.condu 4 (.seq (rg [uO 2 (.new0 none)] [2])
.ret)
.skip))
(.seq (rg [uO 5 (.bsl true none 0 (.int .u64 0) []),
mV 6 0,
uO 7 (.app none 5 6),
mV 2 7] [2])
.ret))))
def a_q02v : AFun:=⟨1,[.t 2],P_q02v,false,true⟩
def d_q02v (C : Hd) (gl : GL) (v0 : AV) (h : Heap) (x : Esc) (K : KT) : Prop:=
 pK (oIsnil 4 false v0) fun t1=>
 condU t1 (nwK none h fun t2 h3 y4=>
 K .ret ⟨[(2,t2)],h3,(y4 ++ x)⟩)
 (wK (oBsl true none 0 (.int .u64 0) [] h) fun t5 h6 y7=>
 wK (oApp none t5 v0 h6) fun t8 h9 y10=>
 K .ret ⟨[(2,t8)],h9,(y10 ++ (y7 ++ x))⟩)
theorem e_q02v {C gl v0 h x K} : NW C gl a_q02v.body ⟨enter [v0],h,x⟩ K = d_q02v C gl v0 h x K:=by kernel_rfl
def P_q04d : ACode:=(.seq (rg [mV 4 (cI 0)] [0,1])
(.seq (rg [mV 5 0,
mV 6 1,
cL 7 f_q01e [5,6],
mV 4 7] [4])
.ret))
def a_q04d : AFun:=⟨2,[.t 4],P_q04d,false,false⟩
def d_q04d (C : Hd) (gl : GL) (v0 v1 : AV) (h : Heap) (x : Esc) (K : KT) : Prop:=
 C f_q01e [v0,v1] h fun t1 h2 y3=>
 K .ret ⟨[(4,t1)],h2,(y3 ++ x)⟩
theorem e_q04d {C gl v0 v1 h x K} : NW C gl a_q04d.body ⟨enter [v0,v1],h,x⟩ K = d_q04d C gl v0 v1 h x K:=by kernel_rfl
def P_q00u : ACode:=(.seq (rg [mV 2 cF] [0])
(.seq (rg [mV 3 0,
mV 4 0,
bN 5 .neq 3 4,
mV 2 5] [2])
.ret))
def a_q00u : AFun:=⟨1,[.t 2],P_q00u,false,false⟩
def d_q00u (C : Hd) (gl : GL) (v0 : AV) (h : Heap) (x : Esc) (K : KT) : Prop:=
 pK (oBin .neq v0 v0) fun t1=>
 K .ret ⟨[(2,t1)],h,x⟩
theorem e_q00u {C gl v0 h x K} : NW C gl a_q00u.body ⟨enter [v0],h,x⟩ K = d_q00u C gl v0 h x K:=by kernel_rfl
def P_q01e : ACode:=(.seq (rg [mV 4 (cI 0)] [0,1])
(.seq (rg [mV 5 0,
mV 6 1,
cL 7 f_internal_bytealg_IndexByteString [5,6],
mV 4 7] [4])
.ret))
def a_q01e : AFun:=⟨2,[.t 4],P_q01e,false,false⟩
def d_q01e (C : Hd) (gl : GL) (v0 v1 : AV) (h : Heap) (x : Esc) (K : KT) : Prop:=
 C f_internal_bytealg_IndexByteString [v0,v1] h fun t1 h2 y3=>
 K .ret ⟨[(4,t1)],h2,(y3 ++ x)⟩
theorem e_q01e {C gl v0 v1 h x K} : NW C gl a_q01e.body ⟨enter [v0,v1],h,x⟩ K = d_q01e C gl v0 v1 h x K:=by kernel_rfl
end Go.Am
end
section
/- The abstract machine,part C: closed calls that say true,asv contracts. -/
set_option linter.all false
namespace Go.Am
variable {P : Program} {gl : Nat → Option PV}
end Go.Am
end
section
/- The functions together. -/
set_option linter.unusedVariables false
set_option maxRecDepth 100000
namespace Go.Am
def fns : List (Nat × AFun):=[(f_q01x,a_q01x),(f_q022,a_q022),(f_q028,a_q028),(f_q021,a_q021),(f_q023,a_q023),(f_q010,a_q010),(f_q00x,a_q00x),(f_q00y,a_q00y),(f_q00z,a_q00z),(f_q01z,a_q01z),(f_q02j,a_q02j),(f_q02e,a_q02e),(f_q02i,a_q02i),(f_q02h,a_q02h),(f_q02d,a_q02d),(f_q00w,a_q00w),(f_q00v,a_q00v),(f_q032,a_q032),(f_q01y,a_q01y),(f_q027,a_q027),(f_q02z,a_q02z),(f_q029,a_q029),(f_q02b,a_q02b),(f_q024,a_q024),(f_q025,a_q025),(f_q038,a_q038),(f_q026,a_q026),(f_q02t,a_q02t),(f_q012,a_q012),(f_q015,a_q015),(f_q018,a_q018),(f_q017,a_q017),(f_q016,a_q016),(f_q011,a_q011),(f_q02g,a_q02g),(f_q02c,a_q02c),(f_q02l,a_q02l),(f_q02y,a_q02y),(f_q02f,a_q02f),(f_q02o,a_q02o),(f_q02n,a_q02n),(f_q02k,a_q02k),(f_q02u,a_q02u),(f_q000,a_q000),(f_q006,a_q006),(f_q013,a_q013),(f_q036,a_q036),(f_q020,a_q020),(f_q03k,a_q03k),(f_q01l,a_q01l),(f_q014,a_q014),(f_q02m,a_q02m),(f_q034,a_q034),(f_q03c,a_q03c),(f_q00s,a_q00s),(f_q01n,a_q01n),(f_q02v,a_q02v),(f_q04d,a_q04d),(f_q00u,a_q00u),(f_q01e,a_q01e)]
def GRL : List (Nat × Sh):=[]
def PRL : PureT:=[(f_q01r,ctzS),(f_q04f,repeatS),(f_q04g,trimS)]
def GLL : List (Nat × PV):=[(0,bruijnPV)]
def fnOf : List (Nat × AFun) → Nat → Option AFun
  | [],_=>none
  | (k,F) :: r,n=>bif Nat.beq k n then some F else fnOf r n
def X : Ctx:=⟨fnOf fns,glOf GLL,extF f_internal_bytealg_IndexByteString f_internal_bytealg_abigen_runtime_cmpstring,libF GRL PRL⟩
theorem fnOf_all {p : Nat → AFun → Bool} : ∀ (l : List (Nat × AFun)),(l.all fun y=>p y.1 y.2) = true → ∀ n F,fnOf l n = some F → p n F = true
  | [],_,n,F,h=>by cases h
  | (k,G) :: r,ha,n,F,h=>by
    simp only [List.all_cons,Bool.and_eq_true] at ha
    simp only [fnOf] at h
    cases hk : Nat.beq k n with
    | true=>
      rw [hk] at h
      have:=Nat.eq_of_beq_eq_true hk
      simp only [cond_true,Option.some.injEq] at h
      subst this; subst h; exact ha.1
    | false=>
      rw [hk] at h
      exact fnOf_all r ha.2 n F h
theorem X_noNext : X.NoNext:=fun f F h=>fnOf_all (p:=fun _ F=>F.isDet || F.body.noNext) fns (by kernel_rfl) f F h
theorem x_q01x : X.fn f_q01x = some a_q01x:=by kernel_rfl
theorem c_q01x {u0 v0 : AV} {h h1 : Heap} {P : Post} (hp : puras h [u0] = some ([v0],h1)) : ACall X f_q01x [u0] h P = d_q01x (ACall X) X.gl p_q01x_k2 p_q01x_k5 v0 h1 [] (finR [.t 2] false h.length P):=by rw [call_val x_q01x rfl hp rfl]; exact e_q01x
theorem x_q022 : X.fn f_q022 = some a_q022:=by kernel_rfl
theorem c_q022 {u0 v0 : AV} {h h1 : Heap} {P : Post} (hp : puras h [u0] = some ([v0],h1)) : ACall X f_q022 [u0] h P = d_q022 (ACall X) X.gl p_q022_k4 p_q022_k7 v0 h1 [] (finR [.t 2] false h.length P):=by rw [call_val x_q022 rfl hp rfl]; exact e_q022
theorem x_q028 : X.fn f_q028 = some a_q028:=by kernel_rfl
theorem c_q028 {u0 u1 v0 v1 : AV} {h h1 : Heap} {P : Post} (hp : puras h [u0,u1] = some ([v0,v1],h1)) : ACall X f_q028 [u0,u1] h P = d_q028 (ACall X) X.gl v0 v1 h1 [] (finR [.t 4] false h.length P):=by rw [call_val x_q028 rfl hp rfl]; exact e_q028
theorem x_q021 : X.fn f_q021 = some a_q021:=by kernel_rfl
theorem c_q021 {u0 u1 v0 v1 : AV} {h h1 : Heap} {P : Post} (hp : puras h [u0,u1] = some ([v0,v1],h1)) : ACall X f_q021 [u0,u1] h P = d_q021 (ACall X) X.gl p_q021_k3 v0 v1 h1 [] (finR [.cell 4 (some 2)] false h.length P):=by rw [call_val x_q021 rfl hp rfl]; exact e_q021
theorem x_q023 : X.fn f_q023 = some a_q023:=by kernel_rfl
theorem c_q023 {u0 u1 v0 v1 : AV} {h h1 : Heap} {P : Post} (hp : puras h [u0,u1] = some ([v0,v1],h1)) : ACall X f_q023 [u0,u1] h P = d_q023 (ACall X) X.gl p_q023_k1 p_q023_k2 v0 v1 h1 [] (finR [.t 4] false h.length P):=by rw [call_val x_q023 rfl hp rfl]; exact e_q023
theorem x_q010 : X.fn f_q010 = some a_q010:=by kernel_rfl
theorem c_q010 {u0 u1 v0 v1 : AV} {h h1 : Heap} {P : Post} (hp : puras h [u0,u1] = some ([v0,v1],h1)) : ACall X f_q010 [u0,u1] h P = d_q010 (ACall X) X.gl v0 v1 h1 [] (finR [.t 4,.t 5] false h.length P):=by rw [call_val x_q010 rfl hp rfl]; exact e_q010
theorem x_q00x : X.fn f_q00x = some a_q00x:=by kernel_rfl
theorem c_q00x {u0 u1 v0 v1 : AV} {h h1 : Heap} {P : Post} (hp : puras h [u0,u1] = some ([v0,v1],h1)) : ACall X f_q00x [u0,u1] h P = d_q00x (ACall X) X.gl p_q00x_k1 p_q00x_k2 v0 v1 h1 [] (finR [.t 4,.t 5] false h.length P):=by rw [call_val x_q00x rfl hp rfl]; exact e_q00x
theorem x_q00y : X.fn f_q00y = some a_q00y:=by kernel_rfl
theorem c_q00y {u0 u1 v0 v1 : AV} {h h1 : Heap} {P : Post} (hp : puras h [u0,u1] = some ([v0,v1],h1)) : ACall X f_q00y [u0,u1] h P = d_q00y (ACall X) X.gl v0 v1 h1 [] (finR [.t 4,.t 5] false h.length P):=by rw [call_val x_q00y rfl hp rfl]; exact e_q00y
theorem x_q00z : X.fn f_q00z = some a_q00z:=by kernel_rfl
theorem c_q00z {u0 u1 v0 v1 : AV} {h h1 : Heap} {P : Post} (hp : puras h [u0,u1] = some ([v0,v1],h1)) : ACall X f_q00z [u0,u1] h P = d_q00z (ACall X) X.gl v0 v1 h1 [] (finR [.t 4,.t 5,.t 6] false h.length P):=by rw [call_val x_q00z rfl hp rfl]; exact e_q00z
theorem x_q01z : X.fn f_q01z = some a_q01z:=by kernel_rfl
theorem c_q01z {u0 u1 v0 v1 : AV} {h h1 : Heap} {P : Post} (hp : puras h [u0,u1] = some ([v0,v1],h1)) : ACall X f_q01z [u0,u1] h P = d_q01z (ACall X) X.gl v0 v1 h1 [] (finR [.t 4] false h.length P):=by rw [call_val x_q01z rfl hp rfl]; exact e_q01z
theorem x_q02j : X.fn f_q02j = some a_q02j:=by kernel_rfl
theorem c_q02j {u0 v0 : AV} {h h1 : Heap} {P : Post} (hp : puras h [u0] = some ([v0],h1)) : ACall X f_q02j [u0] h P = d_q02j (ACall X) X.gl p_q02j_k1 p_q02j_k2 v0 h1 [] (finR [.t 2] false h.length P):=by rw [call_val x_q02j rfl hp rfl]; exact e_q02j
theorem x_q02e : X.fn f_q02e = some a_q02e:=by kernel_rfl
theorem c_q02e {u0 u1 v0 v1 : AV} {h h1 : Heap} {P : Post} (hp : puras h [u0,u1] = some ([v0,v1],h1)) : ACall X f_q02e [u0,u1] h P = d_q02e (ACall X) X.gl p_q02e_k3 v0 v1 h1 [] (finR [.t 4] false h.length P):=by rw [call_val x_q02e rfl hp rfl]; exact e_q02e
theorem x_q02i : X.fn f_q02i = some a_q02i:=by kernel_rfl
theorem c_q02i {u0 u1 v0 v1 : AV} {h h1 : Heap} {P : Post} (hp : puras h [u0,u1] = some ([v0,v1],h1)) : ACall X f_q02i [u0,u1] h P = d_q02i (ACall X) X.gl p_q02i_k4 p_q02i_k5 v0 v1 h1 [] (finR [.t 4] false h.length P):=by rw [call_val x_q02i rfl hp rfl]; exact e_q02i
theorem x_q02h : X.fn f_q02h = some a_q02h:=by kernel_rfl
theorem c_q02h {u0 u1 v0 v1 : AV} {h h1 : Heap} {P : Post} (hp : puras h [u0,u1] = some ([v0,v1],h1)) : ACall X f_q02h [u0,u1] h P = d_q02h (ACall X) X.gl v0 v1 h1 [] (finR [.t 4,.t 5] false h.length P):=by rw [call_val x_q02h rfl hp rfl]; exact e_q02h
theorem x_q02d : X.fn f_q02d = some a_q02d:=by kernel_rfl
theorem c_q02d {u0 u1 v0 v1 : AV} {h h1 : Heap} {P : Post} (hp : puras h [u0,u1] = some ([v0,v1],h1)) : ACall X f_q02d [u0,u1] h P = d_q02d (ACall X) X.gl p_q02d_k1 p_q02d_k2 v0 v1 h1 [] (finR [.t 4] false h.length P):=by rw [call_val x_q02d rfl hp rfl]; exact e_q02d
theorem x_q00w : X.fn f_q00w = some a_q00w:=by kernel_rfl
theorem c_q00w {u0 v0 : AV} {h h1 : Heap} {P : Post} (hp : puras h [u0] = some ([v0],h1)) : ACall X f_q00w [u0] h P = d_q00w (ACall X) X.gl p_q00w_k1 p_q00w_k2 v0 h1 [] (finR [.t 2] false h.length P):=by rw [call_val x_q00w rfl hp rfl]; exact e_q00w
theorem x_q00v : X.fn f_q00v = some a_q00v:=by kernel_rfl
theorem c_q00v {u0 u1 v0 v1 : AV} {h h1 : Heap} {P : Post} (hp : puras h [u0,u1] = some ([v0,v1],h1)) : ACall X f_q00v [u0,u1] h P = d_q00v (ACall X) X.gl p_q00v_k1 p_q00v_k5 v0 v1 h1 [] (finR [.t 4] false h.length P):=by rw [call_val x_q00v rfl hp rfl]; exact e_q00v
theorem x_q032 : X.fn f_q032 = some a_q032:=by kernel_rfl
theorem c_q032 {u0 u1 v0 v1 : AV} {h h1 : Heap} {P : Post} (hp : puras h [u0,u1] = some ([v0,v1],h1)) : ACall X f_q032 [u0,u1] h P = d_q032 (ACall X) X.gl p_q032_k1 p_q032_k2 v0 v1 h1 [] (finR [.t 4] false h.length P):=by rw [call_val x_q032 rfl hp rfl]; exact e_q032
theorem x_q01y : X.fn f_q01y = some a_q01y:=by kernel_rfl
theorem c_q01y {h h1 : Heap} {P : Post} (hp : puras h [] = some ([],h1)) : ACall X f_q01y [] h P = d_q01y (ACall X) X.gl  h1 [] (finR [.t 0] false h.length P):=by rw [call_val x_q01y rfl hp rfl]; exact e_q01y
theorem x_q027 : X.fn f_q027 = some a_q027:=by kernel_rfl
theorem c_q027 {u0 u1 v0 v1 : AV} {h h1 : Heap} {P : Post} (hp : puras h [u0,u1] = some ([v0,v1],h1)) : ACall X f_q027 [u0,u1] h P = d_q027 (ACall X) X.gl p_q027_k1 p_q027_k4 v0 v1 h1 [] (finR [.t 4] true h.length P):=by rw [call_val x_q027 rfl hp rfl]; exact e_q027
theorem x_q02z : X.fn f_q02z = some a_q02z:=by kernel_rfl
theorem c_q02z {u0 u1 h P} : ACall X f_q02z [u0,u1] h P = d_q02z (ACall X) X.gl u0 u1 h [] (finR [.t 4] false h.length P):=by rw [call_ref x_q02z rfl rfl]; exact e_q02z
theorem x_q029 : X.fn f_q029 = some a_q029:=by kernel_rfl
theorem c_q029 {u0 u1 u2 v0 v1 v2 : AV} {h h1 : Heap} {P : Post} (hp : puras h [u0,u1,u2] = some ([v0,v1,v2],h1)) : ACall X f_q029 [u0,u1,u2] h P = d_q029 (ACall X) X.gl v0 v1 v2 h1 [] (finR [.t 6] false h.length P):=by rw [call_val x_q029 rfl hp rfl]; exact e_q029
theorem x_q02b : X.fn f_q02b = some a_q02b:=by kernel_rfl
theorem c_q02b {u0 u1 v0 v1 : AV} {h h1 : Heap} {P : Post} (hp : puras h [u0,u1] = some ([v0,v1],h1)) : ACall X f_q02b [u0,u1] h P = d_q02b (ACall X) X.gl v0 v1 h1 [] (finR [.t 4] false h.length P):=by rw [call_val x_q02b rfl hp rfl]; exact e_q02b
theorem x_q024 : X.fn f_q024 = some a_q024:=by kernel_rfl
theorem c_q024 {u0 u1 v0 v1 : AV} {h h1 : Heap} {P : Post} (hp : puras h [u0,u1] = some ([v0,v1],h1)) : ACall X f_q024 [u0,u1] h P = d_q024 (ACall X) X.gl v0 v1 h1 [] (finR [.t 4] false h.length P):=by rw [call_val x_q024 rfl hp rfl]; exact e_q024
theorem x_q025 : X.fn f_q025 = some a_q025:=by kernel_rfl
theorem c_q025 {u0 u1 v0 v1 : AV} {h h1 : Heap} {P : Post} (hp : puras h [u0,u1] = some ([v0,v1],h1)) : ACall X f_q025 [u0,u1] h P = d_q025 (ACall X) X.gl v0 v1 h1 [] (finR [.t 4] false h.length P):=by rw [call_val x_q025 rfl hp rfl]; exact e_q025
theorem x_q038 : X.fn f_q038 = some a_q038:=by kernel_rfl
theorem c_q038 {u0 h P} : ACall X f_q038 [u0] h P = d_q038 (ACall X) X.gl u0 h [] (finR [] false h.length P):=by rw [call_ref x_q038 rfl rfl]; exact e_q038
theorem x_q026 : X.fn f_q026 = some a_q026:=by kernel_rfl
theorem c_q026 {u0 u1 u2 v0 v1 v2 : AV} {h h1 : Heap} {P : Post} (hp : puras h [u0,u1,u2] = some ([v0,v1,v2],h1)) : ACall X f_q026 [u0,u1,u2] h P = d_q026 (ACall X) X.gl v0 v1 v2 h1 [] (finR [.t 6] false h.length P):=by rw [call_val x_q026 rfl hp rfl]; exact e_q026
theorem x_q02t : X.fn f_q02t = some a_q02t:=by kernel_rfl
theorem c_q02t {u0 v0 : AV} {h h1 : Heap} {P : Post} (hp : puras h [u0] = some ([v0],h1)) : ACall X f_q02t [u0] h P = ∃ v h' x,P v h' x ∧ d_q02t (ACall X) X.gl v0 h1 [] (finR [.t 2] true h.length fun v1 h1 x1=>v1 = v ∧ h1 = h' ∧ x1 = x):=by rw [call_val_det x_q02t rfl hp rfl]; exact ex3_congr fun v h' x=>congrArg (And (P v h' x)) e_q02t
theorem x_q012 : X.fn f_q012 = some a_q012:=by kernel_rfl
theorem c_q012 {u0 u1 v0 v1 : AV} {h h1 : Heap} {P : Post} (hp : puras h [u0,u1] = some ([v0,v1],h1)) : ACall X f_q012 [u0,u1] h P = d_q012 (ACall X) X.gl p_q012_k1 p_q012_k2 v0 v1 h1 [] (finR [.t 4] false h.length P):=by rw [call_val x_q012 rfl hp rfl]; exact e_q012
theorem x_q015 : X.fn f_q015 = some a_q015:=by kernel_rfl
theorem c_q015 {u0 v0 : AV} {h h1 : Heap} {P : Post} (hp : puras h [u0] = some ([v0],h1)) : ACall X f_q015 [u0] h P = d_q015 (ACall X) X.gl p_q015_k4 p_q015_k5 v0 h1 [] (finR [.t 2] true h.length P):=by rw [call_val x_q015 rfl hp rfl]; exact e_q015
theorem x_q018 : X.fn f_q018 = some a_q018:=by kernel_rfl
theorem c_q018 {u0 u1 u2 h P} : ACall X f_q018 [u0,u1,u2] h P = d_q018 (ACall X) X.gl p_q018_k3 p_q018_k5 u0 u1 u2 h [] (finR [] false h.length P):=by rw [call_ref x_q018 rfl rfl]; exact e_q018
theorem x_q017 : X.fn f_q017 = some a_q017:=by kernel_rfl
theorem c_q017 {u0 v0 : AV} {h h1 : Heap} {P : Post} (hp : puras h [u0] = some ([v0],h1)) : ACall X f_q017 [u0] h P = d_q017 (ACall X) X.gl v0 h1 [] (finR [.t 2] false h.length P):=by rw [call_val x_q017 rfl hp rfl]; exact e_q017
theorem x_q016 : X.fn f_q016 = some a_q016:=by kernel_rfl
theorem c_q016 {u0 u1 v0 v1 : AV} {h h1 : Heap} {P : Post} (hp : puras h [u0,u1] = some ([v0,v1],h1)) : ACall X f_q016 [u0,u1] h P = d_q016 (ACall X) X.gl p_q016_k4 p_q016_k5 v0 v1 h1 [] (finR [.t 4] false h.length P):=by rw [call_val x_q016 rfl hp rfl]; exact e_q016
theorem x_q011 : X.fn f_q011 = some a_q011:=by kernel_rfl
theorem c_q011 {u0 u1 u2 v0 v1 v2 : AV} {h h1 : Heap} {P : Post} (hp : puras h [u0,u1,u2] = some ([v0,v1,v2],h1)) : ACall X f_q011 [u0,u1,u2] h P = d_q011 (ACall X) X.gl p_q011_k1 p_q011_k2 v0 v1 v2 h1 [] (finR [.t 6] false h.length P):=by rw [call_val x_q011 rfl hp rfl]; exact e_q011
theorem x_q02g : X.fn f_q02g = some a_q02g:=by kernel_rfl
theorem c_q02g {u0 u1 v0 v1 : AV} {h h1 : Heap} {P : Post} (hp : puras h [u0,u1] = some ([v0,v1],h1)) : ACall X f_q02g [u0,u1] h P = d_q02g (ACall X) X.gl p_q02g_k1 p_q02g_k2 v0 v1 h1 [] (finR [.t 4] false h.length P):=by rw [call_val x_q02g rfl hp rfl]; exact e_q02g
theorem x_q02c : X.fn f_q02c = some a_q02c:=by kernel_rfl
theorem c_q02c {u0 v0 : AV} {h h1 : Heap} {P : Post} (hp : puras h [u0] = some ([v0],h1)) : ACall X f_q02c [u0] h P = d_q02c (ACall X) X.gl v0 h1 [] (finR [.t 2] false h.length P):=by rw [call_val x_q02c rfl hp rfl]; exact e_q02c
theorem x_q02l : X.fn f_q02l = some a_q02l:=by kernel_rfl
theorem c_q02l {u0 u1 u2 v0 v1 v2 : AV} {h h1 : Heap} {P : Post} (hp : puras h [u0,u1,u2] = some ([v0,v1,v2],h1)) : ACall X f_q02l [u0,u1,u2] h P = d_q02l (ACall X) X.gl v0 v1 v2 h1 [] (finR [.t 6] false h.length P):=by rw [call_val x_q02l rfl hp rfl]; exact e_q02l
theorem x_q02y : X.fn f_q02y = some a_q02y:=by kernel_rfl
theorem c_q02y {u0 u1 h P} : ACall X f_q02y [u0,u1] h P = d_q02y (ACall X) X.gl u0 u1 h [] (finR [.t 4] false h.length P):=by rw [call_ref x_q02y rfl rfl]; exact e_q02y
theorem x_q02f : X.fn f_q02f = some a_q02f:=by kernel_rfl
theorem c_q02f {u0 u1 v0 v1 : AV} {h h1 : Heap} {P : Post} (hp : puras h [u0,u1] = some ([v0,v1],h1)) : ACall X f_q02f [u0,u1] h P = d_q02f (ACall X) X.gl v0 v1 h1 [] (finR [.t 3] false h.length P):=by rw [call_val x_q02f rfl hp rfl]; exact e_q02f
theorem x_q02o : X.fn f_q02o = some a_q02o:=by kernel_rfl
theorem c_q02o {u0 v0 : AV} {h h1 : Heap} {P : Post} (hp : puras h [u0] = some ([v0],h1)) : ACall X f_q02o [u0] h P = d_q02o (ACall X) X.gl v0 h1 [] (finR [.t 2] false h.length P):=by rw [call_val x_q02o rfl hp rfl]; exact e_q02o
theorem x_q02n : X.fn f_q02n = some a_q02n:=by kernel_rfl
theorem c_q02n {u0 u1 u2 u3 v0 v1 v2 v3 : AV} {h h1 : Heap} {P : Post} (hp : puras h [u0,u1,u2,u3] = some ([v0,v1,v2,v3],h1)) : ACall X f_q02n [u0,u1,u2,u3] h P = d_q02n (ACall X) X.gl p_q02n_k1 p_q02n_k4 v0 v1 v2 v3 h1 [] (finR [.t 8] false h.length P):=by rw [call_val x_q02n rfl hp rfl]; exact e_q02n
theorem x_q02k : X.fn f_q02k = some a_q02k:=by kernel_rfl
theorem c_q02k {u0 u1 v0 v1 : AV} {h h1 : Heap} {P : Post} (hp : puras h [u0,u1] = some ([v0,v1],h1)) : ACall X f_q02k [u0,u1] h P = d_q02k (ACall X) X.gl p_q02k_k3 p_q02k_k4 v0 v1 h1 [] (finR [.t 4] false h.length P):=by rw [call_val x_q02k rfl hp rfl]; exact e_q02k
theorem x_q02u : X.fn f_q02u = some a_q02u:=by kernel_rfl
theorem c_q02u {u0 v0 : AV} {h h1 : Heap} {P : Post} (hp : puras h [u0] = some ([v0],h1)) : ACall X f_q02u [u0] h P = ∃ v h' x,P v h' x ∧ d_q02u (ACall X) X.gl v0 h1 [] (finR [.t 2] true h.length fun v1 h1 x1=>v1 = v ∧ h1 = h' ∧ x1 = x):=by rw [call_val_det x_q02u rfl hp rfl]; exact ex3_congr fun v h' x=>congrArg (And (P v h' x)) e_q02u
theorem x_q000 : X.fn f_q000 = some a_q000:=by kernel_rfl
theorem c_q000 {u0 v0 : AV} {h h1 : Heap} {P : Post} (hp : puras h [u0] = some ([v0],h1)) : ACall X f_q000 [u0] h P = d_q000 (ACall X) X.gl v0 h1 [] (finR [.t 2] false h.length P):=by rw [call_val x_q000 rfl hp rfl]; exact e_q000
theorem x_q006 : X.fn f_q006 = some a_q006:=by kernel_rfl
theorem c_q006 {u0 u1 u2 v0 v1 v2 : AV} {h h1 : Heap} {P : Post} (hp : puras h [u0,u1,u2] = some ([v0,v1,v2],h1)) : ACall X f_q006 [u0,u1,u2] h P = d_q006 (ACall X) X.gl v0 v1 v2 h1 [] (finR [.t 6] false h.length P):=by rw [call_val x_q006 rfl hp rfl]; exact e_q006
theorem x_q013 : X.fn f_q013 = some a_q013:=by kernel_rfl
theorem c_q013 {u0 v0 : AV} {h h1 : Heap} {P : Post} (hp : puras h [u0] = some ([v0],h1)) : ACall X f_q013 [u0] h P = d_q013 (ACall X) X.gl v0 h1 [] (finR [.t 2] false h.length P):=by rw [call_val x_q013 rfl hp rfl]; exact e_q013
theorem x_q036 : X.fn f_q036 = some a_q036:=by kernel_rfl
theorem c_q036 {u0 u1 h P} : ACall X f_q036 [u0,u1] h P = d_q036 (ACall X) X.gl p_q036_k1 p_q036_k2 u0 u1 h [] (finR [.t 4] false h.length P):=by rw [call_ref x_q036 rfl rfl]; exact e_q036
theorem x_q020 : X.fn f_q020 = some a_q020:=by kernel_rfl
theorem c_q020 {u0 u1 v0 v1 : AV} {h h1 : Heap} {P : Post} (hp : puras h [u0,u1] = some ([v0,v1],h1)) : ACall X f_q020 [u0,u1] h P = d_q020 (ACall X) X.gl p_q020_k1 v0 v1 h1 [] (finR [.t 4] false h.length P):=by rw [call_val x_q020 rfl hp rfl]; exact e_q020
theorem x_q03k : X.fn f_q03k = some a_q03k:=by kernel_rfl
theorem c_q03k {u0 u1 u2 u3 h P} : ACall X f_q03k [u0,u1,u2,u3] h P = d_q03k (ACall X) X.gl p_q03k_k4 u0 u1 u2 u3 h [] (finR [] false h.length P):=by rw [call_ref x_q03k rfl rfl]; exact e_q03k
theorem x_q01l : X.fn f_q01l = some a_q01l:=by kernel_rfl
theorem c_q01l {u0 v0 : AV} {h h1 : Heap} {P : Post} (hp : puras h [u0] = some ([v0],h1)) : ACall X f_q01l [u0] h P = d_q01l (ACall X) X.gl v0 h1 [] (finR [.t 2] false h.length P):=by rw [call_val x_q01l rfl hp rfl]; exact e_q01l
theorem x_q014 : X.fn f_q014 = some a_q014:=by kernel_rfl
theorem c_q014 {u0 u1 u2 v0 v1 v2 : AV} {h h1 : Heap} {P : Post} (hp : puras h [u0,u1,u2] = some ([v0,v1,v2],h1)) : ACall X f_q014 [u0,u1,u2] h P = d_q014 (ACall X) X.gl v0 v1 v2 h1 [] (finR [.t 6] false h.length P):=by rw [call_val x_q014 rfl hp rfl]; exact e_q014
theorem x_q02m : X.fn f_q02m = some a_q02m:=by kernel_rfl
theorem c_q02m {u0 u1 v0 v1 : AV} {h h1 : Heap} {P : Post} (hp : puras h [u0,u1] = some ([v0,v1],h1)) : ACall X f_q02m [u0,u1] h P = d_q02m (ACall X) X.gl p_q02m_k1 p_q02m_k2 v0 v1 h1 [] (finR [.t 4] false h.length P):=by rw [call_val x_q02m rfl hp rfl]; exact e_q02m
theorem x_q034 : X.fn f_q034 = some a_q034:=by kernel_rfl
theorem c_q034 {u0 u1 h P} : ACall X f_q034 [u0,u1] h P = d_q034 (ACall X) X.gl p_q034_k1 p_q034_k2 u0 u1 h [] (finR [.t 4] false h.length P):=by rw [call_ref x_q034 rfl rfl]; exact e_q034
theorem x_q03c : X.fn f_q03c = some a_q03c:=by kernel_rfl
theorem c_q03c {u0 u1 u2 h P} : ACall X f_q03c [u0,u1,u2] h P = d_q03c (ACall X) X.gl p_q03c_k3 u0 u1 u2 h [] (finR [] false h.length P):=by rw [call_ref x_q03c rfl rfl]; exact e_q03c
theorem x_q00s : X.fn f_q00s = some a_q00s:=by kernel_rfl
theorem c_q00s {u0 u1 v0 v1 : AV} {h h1 : Heap} {P : Post} (hp : puras h [u0,u1] = some ([v0,v1],h1)) : ACall X f_q00s [u0,u1] h P = d_q00s (ACall X) X.gl v0 v1 h1 [] (finR [.t 4] false h.length P):=by rw [call_val x_q00s rfl hp rfl]; exact e_q00s
theorem x_q01n : X.fn f_q01n = some a_q01n:=by kernel_rfl
theorem c_q01n {u0 v0 : AV} {h h1 : Heap} {P : Post} (hp : puras h [u0] = some ([v0],h1)) : ACall X f_q01n [u0] h P = d_q01n (ACall X) X.gl p_q01n_k3 v0 h1 [] (finR [.t 2] false h.length P):=by rw [call_val x_q01n rfl hp rfl]; exact e_q01n
theorem x_q02v : X.fn f_q02v = some a_q02v:=by kernel_rfl
theorem c_q02v {u0 v0 : AV} {h h1 : Heap} {P : Post} (hp : puras h [u0] = some ([v0],h1)) : ACall X f_q02v [u0] h P = ∃ v h' x,P v h' x ∧ d_q02v (ACall X) X.gl v0 h1 [] (finR [.t 2] true h.length fun v1 h1 x1=>v1 = v ∧ h1 = h' ∧ x1 = x):=by rw [call_val_det x_q02v rfl hp rfl]; exact ex3_congr fun v h' x=>congrArg (And (P v h' x)) e_q02v
theorem x_q04d : X.fn f_q04d = some a_q04d:=by kernel_rfl
theorem c_q04d {u0 u1 v0 v1 : AV} {h h1 : Heap} {P : Post} (hp : puras h [u0,u1] = some ([v0,v1],h1)) : ACall X f_q04d [u0,u1] h P = d_q04d (ACall X) X.gl v0 v1 h1 [] (finR [.t 4] false h.length P):=by rw [call_val x_q04d rfl hp rfl]; exact e_q04d
theorem x_q00u : X.fn f_q00u = some a_q00u:=by kernel_rfl
theorem c_q00u {u0 v0 : AV} {h h1 : Heap} {P : Post} (hp : puras h [u0] = some ([v0],h1)) : ACall X f_q00u [u0] h P = d_q00u (ACall X) X.gl v0 h1 [] (finR [.t 2] false h.length P):=by rw [call_val x_q00u rfl hp rfl]; exact e_q00u
theorem x_q01e : X.fn f_q01e = some a_q01e:=by kernel_rfl
theorem c_q01e {u0 u1 v0 v1 : AV} {h h1 : Heap} {P : Post} (hp : puras h [u0,u1] = some ([v0,v1],h1)) : ACall X f_q01e [u0,u1] h P = d_q01e (ACall X) X.gl v0 v1 h1 [] (finR [.t 4] false h.length P):=by rw [call_val x_q01e rfl hp rfl]; exact e_q01e
attribute [go_sem] e_q01x_k1 e_q01x_k2 e_q01x_k3 e_q01x_k4 e_q01x_k5 l_q01x_k2 d_q01x_k1 d_q01x_k2 d_q01x_k3 d_q01x_k4 d_q01x_k5 e_q022_k1 e_q022_k2 e_q022_k3 e_q022_k4 e_q022_k5 e_q022_k6 e_q022_k7 l_q022_k1 l_q022_k4 l_q022_k5 d_q022_k1 d_q022_k2 d_q022_k3 d_q022_k4 d_q022_k5 d_q022_k6 d_q022_k7 e_q021_k1 e_q021_k2 e_q021_k3 d_q021_k1 d_q021_k2 d_q021_k3 e_q023_k1 e_q023_k2 l_q023_k1 d_q023_k1 d_q023_k2 e_q00x_k1
attribute [go_sem] e_q00x_k2 l_q00x_k1 d_q00x_k1 d_q00x_k2 e_q02j_k1 e_q02j_k2 l_q02j_k1 d_q02j_k1 d_q02j_k2 e_q02e_k1 e_q02e_k2 e_q02e_k3 l_q02e_k1 d_q02e_k1 d_q02e_k2 d_q02e_k3 e_q02i_k1 e_q02i_k2 e_q02i_k3 e_q02i_k4 e_q02i_k5 l_q02i_k1 l_q02i_k4 d_q02i_k1 d_q02i_k2 d_q02i_k3 d_q02i_k4 d_q02i_k5 e_q02d_k1 e_q02d_k2 l_q02d_k1 d_q02d_k1 d_q02d_k2 e_q00w_k1 e_q00w_k2 l_q00w_k1 d_q00w_k1 d_q00w_k2 e_q00v_k1 e_q00v_k2
attribute [go_sem] e_q00v_k3 e_q00v_k4 e_q00v_k5 l_q00v_k1 l_q00v_k2 d_q00v_k1 d_q00v_k2 d_q00v_k3 d_q00v_k4 d_q00v_k5 e_q032_k1 e_q032_k2 l_q032_k1 d_q032_k1 d_q032_k2 e_q027_k1 e_q027_k2 e_q027_k3 e_q027_k4 l_q027_k1 l_q027_k2 d_q027_k1 d_q027_k2 d_q027_k3 d_q027_k4 e_q012_k1 e_q012_k2 l_q012_k1 d_q012_k1 d_q012_k2 e_q015_k1 e_q015_k2 e_q015_k3 e_q015_k4 e_q015_k5 l_q015_k1 l_q015_k4 d_q015_k1 d_q015_k2 d_q015_k3
attribute [go_sem] d_q015_k4 d_q015_k5 e_q018_k1 e_q018_k2 e_q018_k3 e_q018_k4 e_q018_k5 l_q018_k1 l_q018_k2 l_q018_k4 d_q018_k1 d_q018_k2 d_q018_k3 d_q018_k4 d_q018_k5 e_q016_k1 e_q016_k2 e_q016_k3 e_q016_k4 e_q016_k5 l_q016_k1 l_q016_k4 d_q016_k1 d_q016_k2 d_q016_k3 d_q016_k4 d_q016_k5 e_q011_k1 e_q011_k2 l_q011_k1 d_q011_k1 d_q011_k2 e_q02g_k1 e_q02g_k2 l_q02g_k1 d_q02g_k1 d_q02g_k2 e_q02n_k1 e_q02n_k2 e_q02n_k3
attribute [go_sem] e_q02n_k4 l_q02n_k1 d_q02n_k1 d_q02n_k2 d_q02n_k3 d_q02n_k4 e_q02k_k1 e_q02k_k2 e_q02k_k3 e_q02k_k4 l_q02k_k1 l_q02k_k3 d_q02k_k1 d_q02k_k2 d_q02k_k3 d_q02k_k4 e_q036_k1 e_q036_k2 l_q036_k1 d_q036_k1 d_q036_k2 e_q020_k1 d_q020_k1 e_q03k_k1 e_q03k_k2 e_q03k_k3 e_q03k_k4 l_q03k_k4 d_q03k_k1 d_q03k_k2 d_q03k_k3 d_q03k_k4 e_q02m_k1 e_q02m_k2 l_q02m_k1 d_q02m_k1 d_q02m_k2 e_q034_k1 e_q034_k2 l_q034_k1
attribute [go_sem] d_q034_k1 d_q034_k2 e_q03c_k1 e_q03c_k2 e_q03c_k3 l_q03c_k1 l_q03c_k3 d_q03c_k1 d_q03c_k2 d_q03c_k3 e_q01n_k1 e_q01n_k2 e_q01n_k3 d_q01n_k1 d_q01n_k2 d_q01n_k3
end Go.Am
end
section
/- The stream of numbers out of which the laws draw. -/
open Go
namespace Go.Am
abbrev eI (n : Int) : PV:=.int .i64 n
abbrev AL (l : List Int) : AV:=.p (.sl none (l.map eI))
abbrev strm (L : List Int) (a : Int) : Obj:=.box [AL L,AI a]
def below (x n : Int) : Int:=if n < 1 then 0 else if x.tmod n < 0 then IntKind.i64.wrap (x.tmod n + n) else x.tmod n
theorem s_Below (x n : Int) (h : Heap) (K : Post) : ACall X f_q020 [AI x,AI n] h K = K (AI (below x n)) h []:=by
  refine rule ?_
  rw [c_q020 rfl]
  simp only [d_q020,go_sem]
  unfold below
  by_cases h1 : n < 1
  · simp only [h1,if_true]
  · simp only [h1, if_false, show ¬ n = 0 by omega]
    split <;> rfl
theorem below_bd (x n : Int) (h1 : 1 ≤ n) (h2 : n ≤ 4611686018427387904) : 0 ≤ below x n ∧ below x n < n:=by
  unfold below
  rw [if_neg (by omega)]
  have:=Int.tmod_lt_of_pos x (show 0 < n by omega)
  have h3 : -n < x.tmod n:=by
    have:=Int.lt_tmod_of_pos x (show 0 < n by omega)
    exact this
  split
  · rw [i64_wrap _ (by omega) (by omega)]; omega
  · omega
def nextV (L : List Int) (a n : Int) : Int:=
  if L.length = 0 then below (IntKind.i64.wrap ((a + 1) * 7919)) n
  else below (IntKind.i64.wrap (below (L.getD (a.tmod L.length).toNat 0) 1073741824 + IntKind.i64.wrap (IntKind.i64.wrap (a.tdiv L.length) * IntKind.i64.wrap (7919 + a.tmod L.length)))) n
theorem nextV_bd (L : List Int) (a n : Int) (h1 : 1 ≤ n) (h2 : n ≤ 4611686018427387904) : 0 ≤ nextV L a n ∧ nextV L a n < n:=by
  unfold nextV
  split <;> exact below_bd _ _ h1 h2
theorem set_get' {h : Heap} {id : Nat} {o' : Obj} (hid : id < h.length) : (h.set id o')[id]? = some o':=by simp [hid]
theorem get_lt {h : Heap} {id : Nat} {o : Obj} (hh : h[id]? = some o) : id < h.length:=(List.getElem?_eq_some_iff.1 hh).1
def posN (n : Nat) (a : Int) : Prop:=0 ≤ a ∧ a + n < 4611686018427387904
theorem posN_le {n m : Nat} {a b : Int} (H : posN m a) (h : a ≤ b) (hn : b + n ≤ a + m) : posN n b:=by unfold posN at *; omega
theorem posAll {a : Int} (H : posN 14 a) : posN 0 (a) ∧ posN 0 (a + 1) ∧ posN 0 (a + 1 + 1) ∧ posN 0 (a + 1 + 1 + 1) ∧ posN 0 (a + 1 + 1 + 1 + 1) ∧ posN 0 (a + 1 + 1 + 1 + 1 + 1) ∧ posN 0 (a + 1 + 1 + 1 + 1 + 1 + 1) ∧ posN 0 (a + 1 + 1 + 1 + 1 + 1 + 1 + 1) ∧ posN 0 (a + 1 + 1 + 1 + 1 + 1 + 1 + 1 + 1) ∧ posN 0 (a + 1 + 1 + 1 + 1 + 1 + 1 + 1 + 1 + 1) ∧ posN 0 (a + 1 + 1 + 1 + 1 + 1 + 1 + 1 + 1 + 1 + 1) ∧ posN 0 (a + 1 + 1 + 1 + 1 + 1 + 1 + 1 + 1 + 1 + 1 + 1) ∧ posN 0 (a + 1 + 1 + 1 + 1 + 1 + 1 + 1 + 1 + 1 + 1 + 1 + 1) ∧ posN 0 (a + 1 + 1 + 1 + 1 + 1 + 1 + 1 + 1 + 1 + 1 + 1 + 1 + 1) ∧ posN 0 (a + 1 + 1 + 1 + 1 + 1 + 1 + 1 + 1 + 1 + 1 + 1 + 1 + 1 + 1):=by
  unfold posN at *; omega
def Gen (f : Nat) (args : List AV) (L : List Int) (a a2 : Int) (v : AV) : Prop:=∀ (h : Heap) (id : Nat) (K : Post),h[id]? = some (strm L a) → ACall X f (.ref id 0 :: args) h K = K v (h.set id (strm L a2)) []
section
variable {f : Nat} {args : List AV} {L : List Int} {a a2 : Int} {v : AV} {h l : Heap} {id : Nat} {K : Post}
theorem Gen.set (g : Gen f args L a a2 v) (hid : id < h.length) : ACall X f (.ref id 0 :: args) (h.set id (strm L a)) K = K v (h.set id (strm L a2)) []:=by
  rw [g _ _ _ (set_get' hid),List.set_set]
theorem Gen.app (g : Gen f args L a a2 v) (hid : id < h.length) : ACall X f (.ref id 0 :: args) (h.set id (strm L a) ++ l) K = K v (h.set id (strm L a2) ++ l) []:=by
  rw [g _ _ _ (by rw [get_app (by simpa using hid)]; exact set_get' hid),set_app (by simpa using hid),List.set_set]
theorem Gen.hd (g : Gen f args L a a2 v) : ACall X f (.ref 0 0 :: args) (strm L a :: l) K = K v (strm L a2 :: l) []:=by
  rw [g _ _ _ rfl]; rfl
theorem Gen.of (H : ∀ (h : Heap) (id : Nat),id < h.length → ACall X f (.ref id 0 :: args) (h.set id (strm L a)) fun v1 h1 x1=>v1 = v ∧ h1 = h.set id (strm L a2) ∧ x1 = []) : Gen f args L a a2 v:=by
  intro h id K hh
  have hid:=get_lt hh
  have : h.set id (strm L a) = h:=by
    apply List.ext_getElem?
    intro i
    rw [List.getElem?_set]
    split
    · rename_i e; subst e; rw [hh]
    · rfl
  have k:=H h id hid
  rw [this] at k
  exact rule k
end
def GenE (f : Nat) (args : List AV) (L : List Int) (a : Int) (Q : AV → Int → Prop) : Prop:=∀ (h : Heap) (id : Nat),h[id]? = some (strm L a) → ∃ v a2,Q v a2 ∧ ∀ K : Post,ACall X f (.ref id 0 :: args) h K = K v (h.set id (strm L a2)) []
section
variable {f : Nat} {args : List AV} {L : List Int} {a : Int} {Q : AV → Int → Prop}
theorem GenE.set (g : GenE f args L a Q) {h : Heap} {id : Nat} (hid : id < h.length) : ∃ v a2,Q v a2 ∧ ∀ K : Post,ACall X f (.ref id 0 :: args) (h.set id (strm L a)) K = K v (h.set id (strm L a2)) []:=by
  obtain ⟨v,a2,q,r⟩:=g _ _ (set_get' hid)
  exact ⟨v,a2,q,fun K=>by rw [r,List.set_set]⟩
theorem GenE.app (g : GenE f args L a Q) {h l : Heap} {id : Nat} (hid : id < h.length) : ∃ v a2,Q v a2 ∧ ∀ K : Post,ACall X f (.ref id 0 :: args) (h.set id (strm L a) ++ l) K = K v (h.set id (strm L a2) ++ l) []:=by
  obtain ⟨v,a2,q,r⟩:=g (h.set id (strm L a) ++ l) id (by rw [get_app (by simpa using hid)]; exact set_get' hid)
  exact ⟨v,a2,q,fun K=>by rw [r,set_app (by simpa using hid),List.set_set]⟩
theorem GenE.hd (g : GenE f args L a Q) {l : Heap} : ∃ v a2,Q v a2 ∧ ∀ K : Post,ACall X f (.ref 0 0 :: args) (strm L a :: l) K = K v (strm L a2 :: l) []:=g (strm L a :: l) 0 rfl
theorem GenE.of (H : ∀ (h : Heap) (id : Nat),id < h.length → ACall X f (.ref id 0 :: args) (h.set id (strm L a)) fun v1 h1 x1=>∃ a2,Q v1 a2 ∧ h1 = h.set id (strm L a2) ∧ x1 = []) : GenE f args L a Q:=by
  intro h id hh
  have hid:=get_lt hh
  have : h.set id (strm L a) = h:=by
    apply List.ext_getElem?
    intro i
    rw [List.getElem?_set]
    split
    · rename_i e; subst e; rw [hh]
    · rfl
  have k:=H h id hid
  rw [this] at k
  obtain ⟨v,h',x,⟨a2,q,e1,e2⟩,r⟩:=ACall.one X_noNext k
  subst e1; subst e2
  exact ⟨v,a2,q,r⟩
end
def pickV (l : List Int) (L : List Int) (a : Int) : Int:=l.getD (nextV L a l.length).toNat 0
theorem pickV_mem {l L : List Int} {a : Int} (hl : 0 < l.length) (hl2 : l.length < 4611686018427387904) : pickV l L a ∈ l:=by
  obtain ⟨b1,b2⟩:=nextV_bd L a l.length (by omega) (by omega)
  unfold pickV
  have : (nextV L a l.length).toNat < l.length:=by omega
  simp only [List.getD,List.getElem?_eq_getElem this,Option.getD_some]
  exact List.getElem_mem _
def isI : PV → Bool
  | .int .i64 _=>true
  | _=>false
def unI : PV → Int
  | .int _ n=>n
  | _=>0
theorem unI_map {xs : List PV} (h : xs.all isI = true) : xs = (xs.map unI).map eI:=by
  induction xs with
  | nil=>rfl
  | cons x r ih=>
    simp only [List.all_cons,Bool.and_eq_true] at h
    simp only [List.map_cons]
    rw [← ih h.2]
    cases x with
    | int k n=>cases k <;> first | rfl | cases h.1
    | _=>cases h.1
set_option maxHeartbeats 400000 in
theorem g_Next (L : List Int) (a n : Int) (hp : posN 0 a) : Gen f_q025 [AI n] L a (a + 1) (AI (nextV L a n)):=by
  refine Gen.of fun h id hid=>?_
  rw [c_q025 rfl]
  obtain ⟨h0,h1⟩:=hp
  have w1 : IntKind.i64.wrap (a + 1) = a + 1:=i64_wrap _ (by omega) (by omega)
  have w2 : IntKind.i64.wrap (a + 1 - 1) = a:=by rw [i64_wrap _ (by omega) (by omega)]; omega
  have hs : ∀ o',(h.set id o')[id]? = some o':=fun o'=>set_get' hid
  rcases Nat.eq_zero_or_pos L.length with hl | hl
  · simp only [d_q025, go_sem, hs, s_Below, hl, w1]
    simp only [nextV,hl,if_true]
  · have e1 : ((L.length : Int) = 0) = False := by simp only [eq_iff_iff, iff_false]; omega
    have e2 : 0 ≤ a.tmod L.length:=Int.tmod_nonneg _ h0
    have e3 : a.tmod L.length < L.length:=Int.tmod_lt_of_pos _ (by omega)
    have e4:=natOf_int (k:=.i64) e2
    have e5 : (L.map eI)[(a.tmod L.length).toNat]? = some (eI (L.getD (a.tmod L.length).toNat 0)):=by
      rw [map_get eI (show (a.tmod L.length).toNat < L.length by omega)]
      simp [List.getD,show (a.tmod L.length).toNat < L.length by omega]
    simp only [d_q025,go_sem,hs,s_Below,e1,w1,w2,e4,e5]
    simp only [nextV,show ¬ L.length = 0 by omega,if_false]
section
variable {L : List Int} {a : Int} {h l : Heap} {id : Nat} {K : Post}
theorem s_Next_set (hid : id < h.length) (hp : posN 0 a) (n : Int) : ACall X f_q025 [.ref id 0,AI n] (h.set id (strm L a)) K = K (AI (nextV L a n)) (h.set id (strm L (a + 1))) []:=(g_Next L a n hp).set hid
theorem s_Next_app (hid : id < h.length) (hp : posN 0 a) (n : Int) : ACall X f_q025 [.ref id 0,AI n] (h.set id (strm L a) ++ l) K = K (AI (nextV L a n)) (h.set id (strm L (a + 1)) ++ l) []:=(g_Next L a n hp).app hid
theorem s_Next_hd (hp : posN 0 a) (n : Int) : ACall X f_q025 [.ref 0 0,AI n] (strm L a :: l) K = K (AI (nextV L a n)) (strm L (a + 1) :: l) []:=(g_Next L a n hp).hd
theorem g_Flip (hp : posN 0 a) (n : Int) : Gen f_q024 [AI n] L a (a + 1) (AB (decide (nextV L a n = 0))):=by
  refine Gen.of fun h id hid=>?_
  rw [c_q024 rfl]
  simp only [d_q024,go_sem,s_Next_set hid hp]
theorem s_Flip_set (hid : id < h.length) (hp : posN 0 a) (n : Int) : ACall X f_q024 [.ref id 0,AI n] (h.set id (strm L a)) K = K (AB (decide (nextV L a n = 0))) (h.set id (strm L (a + 1))) []:=(g_Flip hp n).set hid
theorem s_Flip_app (hid : id < h.length) (hp : posN 0 a) (n : Int) : ACall X f_q024 [.ref id 0,AI n] (h.set id (strm L a) ++ l) K = K (AB (decide (nextV L a n = 0))) (h.set id (strm L (a + 1)) ++ l) []:=(g_Flip hp n).app hid
theorem s_Flip_hd (hp : posN 0 a) (n : Int) : ACall X f_q024 [.ref 0 0,AI n] (strm L a :: l) K = K (AB (decide (nextV L a n = 0))) (strm L (a + 1) :: l) []:=(g_Flip hp n).hd
theorem g_Pick (hp : posN 0 a) (xs : List PV) (hx : xs.all isI = true) (hl : 0 < xs.length) (hl2 : xs.length < 4611686018427387904) :
    Gen f_q028 [.p (.sl none xs)] L a (a + 1) (AI (pickV (xs.map unI) L a)):=by
  refine Gen.of fun h id hid=>?_
  rw [c_q028 rfl]
  obtain ⟨b1,b2⟩:=nextV_bd L a xs.length (by omega) (by omega)
  have e4:=natOf_int (k:=.i64) b1
  have e5 : xs[(nextV L a xs.length).toNat]? = some (eI (pickV (xs.map unI) L a)):=by
      have hm:=unI_map hx
      generalize hq : xs.map unI = q at *
      subst hm
      simp only [List.length_map] at *
      rw [map_get eI (show (nextV L a q.length).toNat < q.length by omega)]
      simp [pickV,List.getD,show (nextV L a q.length).toNat < q.length by omega]
  simp only [d_q028,go_sem,s_Next_set hid hp,e4,e5]
theorem s_Pick_set (hid : id < h.length) (hp : posN 0 a) {xs : List PV} (hx : xs.all isI = true) (hl : 0 < xs.length) (hl2 : xs.length < 4611686018427387904) :
    ACall X f_q028 [.ref id 0,.p (.sl none xs)] (h.set id (strm L a)) K = K (AI (pickV (xs.map unI) L a)) (h.set id (strm L (a + 1))) []:=(g_Pick hp xs hx hl hl2).set hid
theorem s_Pick_app (hid : id < h.length) (hp : posN 0 a) {xs : List PV} (hx : xs.all isI = true) (hl : 0 < xs.length) (hl2 : xs.length < 4611686018427387904) :
    ACall X f_q028 [.ref id 0,.p (.sl none xs)] (h.set id (strm L a) ++ l) K = K (AI (pickV (xs.map unI) L a)) (h.set id (strm L (a + 1)) ++ l) []:=(g_Pick hp xs hx hl hl2).app hid
theorem s_Pick_hd (hp : posN 0 a) {xs : List PV} (hx : xs.all isI = true) (hl : 0 < xs.length) (hl2 : xs.length < 4611686018427387904) :
    ACall X f_q028 [.ref 0 0,.p (.sl none xs)] (strm L a :: l) K = K (AI (pickV (xs.map unI) L a)) (strm L (a + 1) :: l) []:=(g_Pick hp xs hx hl hl2).hd
def rangeV (u v : Int) (L : List Int) (a : Int) : Int:=u + nextV L a (v - u + 1)
theorem rangeV_bd {u v : Int} (L : List Int) (a : Int) (h1 : u ≤ v) (h2 : v ≤ u + 4611686018427387900) : u ≤ rangeV u v L a ∧ rangeV u v L a ≤ v:=by
  have:=nextV_bd L a (v - u + 1) (by omega) (by omega)
  unfold rangeV; omega
theorem g_Range (hp : posN 0 a) (u v : Int) (huv : u ≤ v) (hu : -1152921504606846976 ≤ u) (hv : v ≤ 1152921504606846976) :
    Gen f_q029 [AI u,AI v] L a (a + 1) (AI (rangeV u v L a)):=by
  refine Gen.of fun h id hid=>?_
  rw [c_q029 rfl]
  obtain ⟨b1,b2⟩:=rangeV_bd L a huv (by omega)
  have w1 : IntKind.i64.wrap (v - u) = v - u:=i64_wrap _ (by omega) (by omega)
  have w2 : IntKind.i64.wrap (v - u + 1) = v - u + 1:=i64_wrap _ (by omega) (by omega)
  have w3 : IntKind.i64.wrap (u + nextV L a (v - u + 1)) = rangeV u v L a:=i64_wrap (rangeV u v L a) (by omega) (by omega)
  simp only [d_q029,go_sem,show ¬ v < u by omega,w1,w2,s_Next_set hid hp,w3]
theorem s_Range_set (hid : id < h.length) (hp : posN 0 a) {u v : Int} (huv : u ≤ v) (hu : -1152921504606846976 ≤ u) (hv : v ≤ 1152921504606846976) :
    ACall X f_q029 [.ref id 0,AI u,AI v] (h.set id (strm L a)) K = K (AI (rangeV u v L a)) (h.set id (strm L (a + 1))) []:=(g_Range hp u v huv hu hv).set hid
theorem s_Range_app (hid : id < h.length) (hp : posN 0 a) {u v : Int} (huv : u ≤ v) (hu : -1152921504606846976 ≤ u) (hv : v ≤ 1152921504606846976) :
    ACall X f_q029 [.ref id 0,AI u,AI v] (h.set id (strm L a) ++ l) K = K (AI (rangeV u v L a)) (h.set id (strm L (a + 1)) ++ l) []:=(g_Range hp u v huv hu hv).app hid
theorem s_Range_hd (hp : posN 0 a) {u v : Int} (huv : u ≤ v) (hu : -1152921504606846976 ≤ u) (hv : v ≤ 1152921504606846976) :
    ACall X f_q029 [.ref 0 0,AI u,AI v] (strm L a :: l) K = K (AI (rangeV u v L a)) (strm L (a + 1) :: l) []:=(g_Range hp u v huv hu hv).hd
end
attribute [go_sem ↓] s_Next_set s_Next_app s_Next_hd s_Flip_set s_Flip_app s_Flip_hd s_Pick_set s_Pick_app s_Pick_hd s_Range_set s_Range_app s_Range_hd
attribute [go_sem] s_Next_set s_Next_app s_Next_hd s_Flip_set s_Flip_app s_Flip_hd s_Pick_set s_Pick_app s_Pick_hd s_Range_set s_Range_app s_Range_hd isI unI
end Go.Am
end
section
/- Plain laws of fractions in lowest terms. -/
namespace Go.Am
end Go.Am
end
section
/- Small functions of numbers and of lists of numbers. -/
open Go
namespace Go.Am
variable {h : Heap} {K : Post}
theorem s_Out (n a b : Int) : ACall X f_q006 [AI n,AI a,AI b] h K = K (AB (decide (n < a) || decide (b < n))) h []:=by
  refine rule ?_
  rw [c_q006 rfl]
  by_cases h1 : n < a <;> simp only [d_q006,go_sem,h1]
theorem s_in (n a b : Int) : ACall X f_q02l [AI n,AI a,AI b] h K = K (AB (decide (a ≤ n) && decide (n ≤ b))) h []:=by
  refine rule ?_
  rw [c_q02l rfl]
  by_cases h1 : a ≤ n <;> simp only [d_q02l,go_sem,h1]
theorem u64_wrap (n : Int) (h1 : 0 ≤ n) (h2 : n < 18446744073709551616) : IntKind.u64.wrap n = n:=by
  simp [IntKind.wrap,IntKind.bits,IntKind.signed]; omega
abbrev AU (n : Int) : AV:=.p (.int .u64 n)
end Go.Am
end
section
/- Functions of lists. -/
open Go
namespace Go.Am
variable {h : Heap} {K : Post}
theorem s_isNaN (a : Int) : ACall X f_q00u [AI a] h K = K (AB false) h []:=by
  refine rule ?_
  rw [c_q00u rfl]
  simp only [d_q00u,go_sem]
def Tells (g : Nat) (caps : List AV) (p : PV → Bool) (xs : List PV) (h : Heap) : Prop:=∀ x ∈ xs,∀ K : Post,ACall X g (.p x :: caps) h K = K (AB (p x)) h []
def idxP (p : PV → Bool) (xs : List PV) : Int:=if xs.findIdx p < xs.length then (xs.findIdx p : Int) else -1
theorem idxP_any (p : PV → Bool) (xs : List PV) : decide (0 ≤ idxP p xs) = xs.any p:=by
  unfold idxP
  rw [Bool.eq_iff_iff]
  by_cases h : xs.findIdx p < xs.length
  · rw [if_pos h]; simp only [decide_eq_true_eq, List.any_eq_true]
    exact ⟨fun _=>⟨_,List.getElem_mem h,List.findIdx_getElem⟩,fun _=>by omega⟩
  · rw [if_neg h]; simp only [decide_eq_true_eq, List.any_eq_true]
    refine ⟨fun h=>by omega,fun ⟨x,hx,hp⟩=>absurd (List.findIdx_lt_length_of_exists ⟨x,hx,hp⟩) h⟩
end Go.Am
end
section
/- Values of a shape: loads and stores in rows. -/
open Go
namespace Go.Am
variable {h : Heap} {K : Post}
theorem shp_cut {sh : Sh} {x : PV} (hx : x.shp sh = true) : cutP sh 0 x = some x:=by
  cases sh with
  | none=>exact cutP_sc hx
  | some n=>
    cases x with
    | agg cs=>
      simp only [PV.shp,Bool.and_eq_true,beq_iff_eq] at hx
      simp [cutP,hx.1]
      exact List.take_of_length_le (by omega)
    | _=>cases hx
theorem shp_len {sh : Sh} {x : PV} (hx : x.shp sh = true) : x.cells.length = shSize sh:=by
  cases sh with
  | none=>cases x <;> first | rfl | cases hx
  | some n=>
    cases x with
    | agg cs=>simp only [PV.shp,Bool.and_eq_true,beq_iff_eq] at hx; exact hx.1
    | _=>cases hx
theorem shp_all {sh : Sh} {x : PV} (hx : x.shp sh = true) : x.cells.all PV.sc = true:=by
  cases sh with
  | none=>cases x <;> first | rfl | cases hx
  | some n=>
    cases x with
    | agg cs=>simp only [PV.shp,Bool.and_eq_true,beq_iff_eq] at hx; exact hx.2
    | _=>cases hx
theorem shp_st {sh : Sh} {x y : PV} (hx : x.shp sh = true) (hy : y.shp sh = true) (id i fz : Nat) (xs : List PV) (h1 : Heap) : stE sh id i 0 fz sh xs x h1 (some y) = some (.und,h1.set id (.row sh (xs.set i x) fz),[]):=by
  cases sh with
  | none=>
    cases y with
    | agg cs=>cases hy
    | _=>simp only [PV.shp] at hx; simp [stE,hx]
  | some n=>
    cases y with
    | agg cs=>
      cases x with
      | agg ds=>
        simp only [PV.shp,Bool.and_eq_true,beq_iff_eq] at hx hy
        simp [stE,PV.cells,splice,hx.1,hy.1,show cs.drop n = [] from List.drop_of_length_le (by omega)]
      | _=>cases hx
    | _=>cases hy
def shps (sh : Sh) (xs : List PV) : Prop:=∀ x ∈ xs,x.shp sh = true
theorem shps_get {sh : Sh} {xs : List PV} (hx : shps sh xs) {i : Nat} (hi : i < xs.length) : xs[i].shp sh = true:=hx _ (List.getElem_mem hi)
theorem set_self {h : Heap} {id : Nat} {o : Obj} (hh : h[id]? = some o) : h.set id o = h:=by
  apply List.ext_getElem?
  intro i
  rw [List.getElem?_set]
  split
  · rename_i e; subst e; rw [hh]; simp [get_lt hh]
  · rfl
structure Shows (sh : Sh) (v : AV) (xs : List PV) (h : Heap) : Prop where
  len : oLen v = some (AI xs.length)
  get : ∀ (k : Nat) (hk : k < xs.length),∃ a,oIaddr sh v (AI k) h = some a ∧ oLoad sh a h = some (.p xs[k])
theorem shows_sl {sh : Sh} {xs : List PV} (hs : shps sh xs) : Shows sh (.p (.sl sh xs)) xs h:=by
  refine ⟨rfl,fun k hk=>⟨.vp xs[k],?_,?_⟩⟩
  · simp [oIaddr,natOf,hk]
  · simp only [load_vp,shp_cut (shps_get hs hk)]; rfl
end Go.Am
end
section
/- Lengths of numbers in bits,and comparisons of plain values. -/
open Go
namespace Go.Am
variable {h : Heap} {K : Post}
set_option maxRecDepth 20000
theorem tab_get (k : Nat) (hk : k < 256) : ∃ b,([0,1,2,2,3,3,3,3,4,4,4,4,4,4,4,4,5,5,5,5,5,5,5,5,5,5,5,5,5,5,5,5,6,6,6,6,6,6,6,6,6,6,6,6,6,6,6,6,6,6,6,6,6,6,6,6,6,6,6,6,6,6,6,6,7,7,7,7,7,7,7,7,7,7,7,7,7,7,7,7,7,7,7,7,7,7,7,7,7,7,7,7,7,7,7,7,7,7,7,7,7,7,7,7,7,7,7,7,7,7,7,7,7,7,7,7,7,7,7,7,7,7,7,7,7,7,7,7,8,8,8,8,8,8,8,8,8,8,8,8,8,8,8,8,8,8,8,8,8,8,8,8,8,8,8,8,8,8,8,8,8,8,8,8,8,8,8,8,8,8,8,8,8,8,8,8,8,8,8,8,8,8,8,8,8,8,8,8,8,8,8,8,8,8,8,8,8,8,8,8,8,8,8,8,8,8,8,8,8,8,8,8,8,8,8,8,8,8,8,8,8,8,8,8,8,8,8,8,8,8,8,8,8,8,8,8,8,8,8,8,8,8,8,8,8,8,8,8,8,8,8,8,8,8,8,8] : List UInt8)[k]? = some b:=⟨_,List.getElem?_eq_getElem (Nat.lt_of_lt_of_eq hk (by kernel_rfl))⟩
theorem len_any (x : Int) (h0 : 0 ≤ x) (h1 : x < 256) : ∃ m : Int,∀ (h : Heap) (K : Post),ACall X f_q01l [AU x] h K = K (AI m) h []:=by
  obtain ⟨b,hb⟩:=tab_get x.toNat (by omega)
  refine ⟨IntKind.i64.wrap (0 + IntKind.i64.wrap b.toNat),fun h K=>?_⟩
  have w : IntKind.u8.wrap x = x:=by simp [IntKind.wrap,IntKind.bits,IntKind.signed]; omega
  have b1 : ¬ (4294967296 ≤ x):=by omega
  have b2 : ¬ (65536 ≤ x):=by omega
  have b3 : ¬ (256 ≤ x):=by omega
  have hn:=natOf_int (k:=.u8) h0
  have key : ∀ (h : Heap) (K : Post),ACall X f_q01n [AU x] h K = K (AI (IntKind.i64.wrap (0 + IntKind.i64.wrap b.toNat))) h []:=by
    intro h K
    refine rule ?_
    rw [c_q01n rfl]
    simp only [d_q01n,go_sem,b1,b2,b3,w,hn,hb]
  refine rule ?_
  rw [c_q01l rfl]
  simp only [d_q01l,go_sem,key]
theorem s_Less (a b : Int) : ACall X f_q00s [AI a,AI b] h K = K (AB (decide (a < b))) h []:=by
  refine rule ?_
  rw [c_q00s rfl]
  simp only [d_q00s,go_sem,s_isNaN]
def ltI (a b : Int) : Bool:=decide (a < b)
def ltP (a b : PV) : Bool:=match a,b with
  | .int _ a,.int _ b=>decide (a < b)
  | _,_=>false
theorem less_eI {l : List Int} : ∀ x ∈ l.map eI,∀ y ∈ l.map eI,∀ (h : Heap) (K : Post),ACall X f_q00s [.p x,.p y] h K = K (AB (ltP x y)) h []:=by
  intro x hx y hy h K
  obtain ⟨a,_,rfl⟩:=List.mem_map.1 hx
  obtain ⟨b,_,rfl⟩:=List.mem_map.1 hy
  exact s_Less a b
theorem shps_eI {l : List Int} : shps none (l.map eI):=fun x hx=>by obtain ⟨n,_,rfl⟩:=List.mem_map.1 hx; rfl
end Go.Am
end
section
/- Strings: keys,the library's functions without text. -/
open Go
set_option linter.unusedSimpArgs false
namespace Go.Am
variable {h : Heap} {K : Post}
abbrev AS (s : List UInt8) : AV:=.p (.str s)
theorem X_ext : X.ext = extF f_internal_bytealg_IndexByteString f_internal_bytealg_abigen_runtime_cmpstring:=rfl
theorem s_idxExt (s : List UInt8) (c : UInt8) : ACall X f_internal_bytealg_IndexByteString [AS s,.p (.int .u8 c.toNat)] h K = K (AI (idxB s c)) h []:=by
  have:=ext_call (X:=X) (f:=f_internal_bytealg_IndexByteString) (asv:=[AS s,.p (.int .u8 c.toNat)]) (vs:=[.str s,.int .u8 c.toNat]) (h:=h) (h1:=h) (r:=.int .i64 (idxB s c)) (K:=K) (by kernel_rfl) rfl rfl rfl ?_
  · exact this
  · rw [X_ext]
    unfold extF
    rw [show Nat.beq f_internal_bytealg_IndexByteString f_internal_bytealg_IndexByteString = true from by kernel_rfl]
    simp
theorem s_IndexByte (s : List UInt8) (c : UInt8) : ACall X f_q04d [AS s,.p (.int .u8 c.toNat)] h K = K (AI (idxB s c)) h []:=by
  have key : ∀ (h : Heap) (K : Post),ACall X f_q01e [AS s,.p (.int .u8 c.toNat)] h K = K (AI (idxB s c)) h []:=by
    intro h K
    refine rule ?_
    rw [c_q01e rfl]
    simp only [d_q01e,go_sem,s_idxExt]
  refine rule ?_
  rw [c_q04d rfl]
  simp only [d_q04d,go_sem,key]
theorem idxB_neg (s : List UInt8) (c : UInt8) : decide (idxB s c < 0) = !s.contains c:=by
  unfold idxB
  rw [Bool.eq_iff_iff]
  by_cases hf : s.findIdx (· == c) < s.length
  · rw [if_pos hf]
    have:=List.findIdx_getElem (w:=hf)
    simp only [beq_iff_eq] at this
    have hm : c ∈ s:=by rw [← this]; exact List.getElem_mem hf
    simp [hm]
  · rw [if_neg hf]
    have hm : ¬ c ∈ s:=fun hm=>hf (List.findIdx_lt_length_of_exists ⟨c,hm,by simp⟩)
    simp [hm]
theorem s_only (s t : List UInt8) (hl : s.length ≤ 1000000000) : ACall X f_q02m [AS s,AS t] h K = K (AB (s.all fun c=>t.contains c)) h []:=by
  refine rule ?_
  rw [c_q02m rfl]
  simp only [d_q02m,go_sem]
  refine N_loop (fun k : Nat=>⟨[(0,AS s),(1,AS t),(7,AI s.length),(8,AI k)],h,[]⟩) (fun k=>k ≤ s.length ∧ (s.take k).all (fun c=>t.contains c) = true) (fun k=>s.length - k) 0 rfl ⟨by omega,rfl⟩ ?_
  rintro k ⟨hk,hp⟩
  rcases Nat.lt_or_ge k s.length with hlt | hge
  · have hg : s[k]? = some s[k] := List.getElem?_eq_getElem hlt
    have w2 : IntKind.i64.wrap ((k : Int) + 1) = ((k + 1 : Nat) : Int):=i64_wrap _ (by omega) (by omega)
    have hi:=idxB_neg t s[k]
    by_cases hc : idxB t s[k] < 0
    · have : s.all (fun c=>t.contains c) = false:=by
        rw [List.all_eq_false]
        refine ⟨_,List.getElem_mem hlt,?_⟩
        rw [decide_eq_true hc] at hi
        cases hq : t.contains s[k] with
        | true=>rw [hq] at hi; cases hi
        | false=>simp
      simp only [go_sem,hlt,hg,s_IndexByte,hc,this]
    · rw [decide_eq_false hc] at hi
      have hq : t.contains s[k] = true:=by cases hq : t.contains s[k] with | true=>rfl | false=>rw [hq] at hi; cases hi
      simp only [go_sem,hlt,hg,s_IndexByte,hc,w2]
      exact ⟨k + 1,rfl,⟨by omega,by rw [List.take_succ_eq_append_getElem hlt,List.all_append,hp]; simp only [List.all_cons,List.all_nil,hq]; rfl⟩,by omega⟩
  · have ek : k = s.length := by omega
    subst ek
    rw [List.take_length] at hp
    simp only [go_sem,Nat.lt_irrefl,hp]
end Go.Am
end
section
/- Maps,asv lists of keys with values. -/
open Go
set_option linter.all false
namespace Go.Am
section
variable {α β : Type} [DecidableEq α]
variable {key : α → PV} {val : β → AV}
variable {h : Heap} {id : Nat} {l : List (α × β)} {kk : Sh × List Nat} {k : α}
end
end Go.Am
end
section
/- Lists of strings sorted,left out: printed by program. -/
open Go
set_option linter.unusedSimpArgs false
namespace Go.Am
attribute [-go_sem] PV.cells splice
variable {h : Heap} {K : Post}
end Go.Am
end
section
/- Finding values in lists: printed by program. -/
open Go
set_option linter.unusedSimpArgs false
namespace Go.Am
attribute [-go_sem] PV.cells
variable {h : Heap} {K : Post}
theorem IndexFunc_int {v : AV} {g : Nat} {caps : List AV} {p : PV → Bool} {xs : List PV} (hv : Shows none v xs h) (hp : Tells g caps p xs h) (hl : xs.length ≤ 1000000000) :
    ACall X f_q034 [v,.fn g caps] h K = K (AI (idxP p xs)) h []:=by
  refine rule ?_
  rw [c_q034]
  have vl:=hv.len
  simp only [d_q034,go_sem,vl]
  refine N_loop (fun k : Nat=>⟨[(0,v),(1,.fn g caps),(7,AI xs.length),(8,AI k)],h,[]⟩) (fun k=>k ≤ xs.length ∧ ∀ x ∈ xs.take k,p x = false) (fun k=>xs.length - k) 0 rfl (by simp) ?_
  rintro k ⟨hk,hn⟩
  rcases Nat.lt_or_ge k xs.length with hlt | hge
  · obtain ⟨a, ha, hb⟩ := hv.get k hlt
    have w2 : IntKind.i64.wrap ((k : Int) + 1) = ((k + 1 : Nat) : Int):=i64_wrap _ (by omega) (by omega)
    have ht:=hp _ (List.getElem_mem hlt)
    cases hpk : p xs[k] with
    | true=>
      have hf : xs.findIdx p = k:=by
        rw [List.findIdx_eq hlt]
        refine ⟨hpk,fun j hj=>?_⟩
        have:=hn xs[j] (by rw [List.mem_take_iff_getElem]; exact ⟨j,by omega,rfl⟩)
        simpa using this
      simp only [go_sem,hlt,ha,hb,ht,hpk,w2]
      simp only [idxP,hf,hlt,if_true]
    | false=>
      simp only [go_sem,hlt,ha,hb,ht,hpk,w2]
      refine ⟨k + 1,rfl,⟨by omega,fun x hx=>?_⟩,by omega⟩
      rw [List.take_succ_eq_append_getElem hlt,List.mem_append,List.mem_singleton] at hx
      rcases hx with hx | hx
      · exact hn x hx
      · rw [hx]; exact hpk
  · have e1 : k = xs.length := by omega
    subst e1
    simp only [go_sem,Nat.lt_irrefl]
    rw [List.take_length] at hn
    have : ¬ xs.findIdx p < xs.length:=by
      rw [Nat.not_lt,Nat.le_iff_lt_or_eq]; right
      exact (List.findIdx_eq_length.2 (fun x hx=>by simp [hn x hx])).symm
    simp [idxP,this]
theorem ContainsFunc_int {g : Nat} {caps : List AV} {p : PV → Bool} {xs : List PV} (hp : Tells g caps p xs h) (hs : shps none xs) (hl : xs.length ≤ 1000000000) :
    ACall X f_q02y [.p (.sl none xs),.fn g caps] h K = K (AB (xs.any p)) h []:=by
  refine rule ?_
  rw [c_q02y]
  have vi:=fun K=>IndexFunc_int (h:=h) (K:=K) (shows_sl hs) hp hl
  simp only [d_q02y,go_sem,vi,idxP_any]
end Go.Am
end
section
/- Limits: what they are,what is wrong with them. -/
open Go
namespace Go.Am
variable {h : Heap} {K : Post}
structure Lim where
  key : List UInt8
  lo : Int
  hi : Int
  bin : Int
def Lim.pv (x : Lim) : PV:=.agg [.str x.key,eI x.lo,eI x.hi,eI x.bin]
end Go.Am
end
section
/- What is wrong with limits,both ways: printed by program. -/
open Go
set_option linter.unusedSimpArgs false
namespace Go.Am
variable {h : Heap} {K : Post}
end Go.Am
end
section
/- Package lot on measured values,and what the reference says of them. -/
open Go
namespace Go.Am
variable {h : Heap} {K : Post}
end Go.Am
end
section
/- Records: what they are,what is wrong with them. -/
open Go
set_option linter.unusedSimpArgs false
namespace Go.Am
variable {h : Heap} {K : Post}
theorem retK_keep {b : Nat} {P : Post} {vs : List AV} {h : Heap} : retK true b P (some vs) h [] = P (oneOf vs) (h.take (max b (oneOf vs).top)) []:=by
  simp [retK,close,closed]
attribute [go_sem] retK_keep
structure Rec where
  unit : List UInt8
  time : Int
  site : List UInt8
  res : List Int
def Rec.pv (r : Rec) : PV:=.agg [.str r.unit,eI r.time,.str r.site,.sl none (r.res.map eI)]
end Go.Am
end
section
/- What is drawn: numbers,measured values. -/
open Go
namespace Go.Am
variable {L : List Int} {a : Int}
theorem g_Odd (hp : posN 14 a) (u v : Int) (huv : u ≤ v) (hu : -1000000000000 ≤ u) (hv : v ≤ 1000000000000) : ∃ k a2 : Int,a ≤ a2 ∧ a2 ≤ a + 2 ∧ -1099511627776 ≤ k ∧ k ≤ 1099511627776 ∧
    Gen f_q026 [AI u,AI v] L a a2 (AI k):=by
  have w1 : IntKind.i64.wrap (u - 1) = u - 1:=i64_wrap _ (by omega) (by omega)
  have w2 : IntKind.i64.wrap (v + 1) = v + 1:=i64_wrap _ (by omega) (by omega)
  by_cases hf : nextV L a 12 = 0
  · have hm := pickV_mem (L := L) (a := a + 1) (l := [u - 1, v + 1, u, v, -1099511627776, 1099511627776]) (by simp) (by simp)
    simp only [List.mem_cons,List.not_mem_nil,or_false] at hm
    refine ⟨pickV [u - 1,v + 1,u,v,-1099511627776,1099511627776] L (a + 1),a + 1 + 1,by omega,by omega,by omega,by omega,Gen.of fun h id hid=>?_⟩
    rw [c_q026 rfl]
    simp only [d_q026,go_sem,hid,posAll hp,hf,w1,w2]
  · have hm := rangeV_bd L (a + 1) huv (by omega)
    refine ⟨rangeV u v L (a + 1),a + 1 + 1,by omega,by omega,by omega,by omega,Gen.of fun h id hid=>?_⟩
    rw [c_q026 rfl]
    simp only [d_q026,go_sem,hid,posAll hp,hf,w1,w2,huv,show -1152921504606846976 ≤ u by omega,show v ≤ 1152921504606846976 by omega]
end Go.Am
end
section
/- Strings that are drawn. -/
open Go
set_option linter.unusedSimpArgs false
namespace Go.Am
variable {L : List Int} {a : Int} {h l : Heap} {id : Nat} {K : Post}
def isS : PV → Bool
  | .str _=>true
  | _=>false
def unS : PV → List UInt8
  | .str s=>s
  | _=>[]
def pickS (l : List (List UInt8)) (L : List Int) (a : Int) : List UInt8:=l.getD (nextV L a l.length).toNat []
theorem pickS_mem {l : List (List UInt8)} {L : List Int} {a : Int} (hl : 0 < l.length) (hl2 : l.length < 4611686018427387904) : pickS l L a ∈ l:=by
  obtain ⟨b1,b2⟩:=nextV_bd L a l.length (by omega) (by omega)
  unfold pickS
  have : (nextV L a l.length).toNat < l.length:=by omega
  simp only [List.getD,List.getElem?_eq_getElem this,Option.getD_some]
  exact List.getElem_mem _
theorem unS_map {xs : List PV} (h : xs.all isS = true) : xs = (xs.map unS).map PV.str:=by
  induction xs with
  | nil=>rfl
  | cons x r ih=>
    simp only [List.all_cons,Bool.and_eq_true] at h
    simp only [List.map_cons]
    rw [← ih h.2]
    cases x <;> first | rfl | cases h.1
theorem g_Some (hp : posN 0 a) (xs : List PV) (hx : xs.all isS = true) (hl : 0 < xs.length) (hl2 : xs.length < 4611686018427387904) :
    Gen f_q02b [.p (.sl none xs)] L a (a + 1) (AS (pickS (xs.map unS) L a)):=by
  refine Gen.of fun h id hid=>?_
  rw [c_q02b rfl]
  obtain ⟨b1,b2⟩:=nextV_bd L a xs.length (by omega) (by omega)
  have e4:=natOf_int (k:=.i64) b1
  have e5 : xs[(nextV L a xs.length).toNat]? = some (.str (pickS (xs.map unS) L a)):=by
      have hm:=unS_map hx
      generalize hq : xs.map unS = q at *
      subst hm
      simp only [List.length_map] at *
      rw [map_get PV.str (show (nextV L a q.length).toNat < q.length by omega)]
      simp [pickS,List.getD,show (nextV L a q.length).toNat < q.length by omega]
  simp only [d_q02b,go_sem,s_Next_set hid hp,e4,e5]
theorem s_Some_set (hid : id < h.length) (hp : posN 0 a) {xs : List PV} (hx : xs.all isS = true) (hl : 0 < xs.length) (hl2 : xs.length < 4611686018427387904) :
    ACall X f_q02b [.ref id 0,.p (.sl none xs)] (h.set id (strm L a)) K = K (AS (pickS (xs.map unS) L a)) (h.set id (strm L (a + 1))) []:=(g_Some hp xs hx hl hl2).set hid
theorem s_Some_app (hid : id < h.length) (hp : posN 0 a) {xs : List PV} (hx : xs.all isS = true) (hl : 0 < xs.length) (hl2 : xs.length < 4611686018427387904) :
    ACall X f_q02b [.ref id 0,.p (.sl none xs)] (h.set id (strm L a) ++ l) K = K (AS (pickS (xs.map unS) L a)) (h.set id (strm L (a + 1)) ++ l) []:=(g_Some hp xs hx hl hl2).app hid
theorem s_Some_hd (hp : posN 0 a) {xs : List PV} (hx : xs.all isS = true) (hl : 0 < xs.length) (hl2 : xs.length < 4611686018427387904) :
    ACall X f_q02b [.ref 0 0,.p (.sl none xs)] (strm L a :: l) K = K (AS (pickS (xs.map unS) L a)) (strm L (a + 1) :: l) []:=(g_Some hp xs hx hl hl2).hd
attribute [go_sem ↓] s_Some_set s_Some_app s_Some_hd
attribute [go_sem] s_Some_set s_Some_app s_Some_hd isS unS
end Go.Am
end
section
/- What is drawn: strings,limits. -/
open Go
set_option linter.unusedSimpArgs false
namespace Go.Am
variable {L : List Int} {a : Int} {h l : Heap} {id : Nat} {K : Post}
end Go.Am
end
section
/- Records: what is wrong with them,both ways. -/
open Go
set_option linter.unusedSimpArgs false
namespace Go.Am
variable {h : Heap} {K : Post}
end Go.Am
end
section
/- Sorting records: printed by program. -/
open Go
set_option linter.unusedSimpArgs false
namespace Go.Am
attribute [-go_sem] PV.cells splice
variable {h : Heap} {K : Post}
end Go.Am
end
section
/- Leaving out what is alike: printed by program. -/
open Go
set_option linter.unusedSimpArgs false
namespace Go.Am
attribute [-go_sem] PV.cells splice
variable {h : Heap} {K : Post}
end Go.Am
end
section
/- What is drawn: records. -/
open Go
set_option linter.unusedSimpArgs false
namespace Go.Am
variable {L : List Int} {a : Int} {h l : Heap} {id : Nat} {K : Post}
theorem close_out {b : Nat} {x : Esc} (hx : ∀ y ∈ x,b ≤ y.1) : ∀ k,close k x b = b:=by
  have hb : bump x b = b:=by
    unfold bump
    induction x with
    | nil=>rfl
    | cons y r ih=>
      simp only [List.foldl_cons]
      rw [if_neg (by have:=hx y (by simp); omega)]
      exact ih (fun z hz=>hx z (by simp [hz]))
  intro k
  induction k with
  | zero=>rfl
  | succ k ih=>unfold close; rw [hb,ih]
theorem trunc_out {b : Nat} {x0 x : Esc} {e : List (Nat × AV)} {h : Heap} (hx : ∀ y ∈ x,b ≤ y.1) : trunc b x0 ⟨e,h,x⟩ = ⟨clean b e,h.take b,x0⟩:=by
  unfold trunc
  simp only [close_out hx]
  have hc : closed x b = true:=by
    unfold closed
    rw [List.all_eq_true]
    intro y hy
    simp [hx y hy]
  have hf : x.filter (fun y=>decide (y.1 < b)) = []:=by
    rw [List.filter_eq_nil_iff]
    intro y hy
    have:=hx y hy
    simp; omega
  rw [if_pos hc,hf,List.nil_append]
end Go.Am
end
section
/- Merging two ordered lists: by sorting and leaving out what is alike,and by looking each one up. Plain lists. -/
namespace Go.Am
variable {α : Type}
structure Ordr (c : α → α → Int) : Prop where
  neg : ∀ a b,c b a = - c a b
  trans : ∀ a b d,c a b ≤ 0 → c b d ≤ 0 → c a d ≤ 0
theorem Ordr.refl {c : α → α → Int} (o : Ordr c) (a : α) : c a a = 0:=by have:=o.neg a a; omega
variable {c : α → α → Int} {q : α → α → Bool} {a b : List α}
end Go.Am
end
section
/- Records alike; copies; bins. -/
open Go
set_option linter.unusedSimpArgs false
namespace Go.Am
variable {h : Heap} {K : Post}
def sameR (a b : Rec) : Bool:=decide (a.unit = b.unit) && (decide (a.time = b.time) && (decide (a.site = b.site) && decide (a.res = b.res)))
theorem sameR_iff (a b : Rec) : sameR a b = true ↔ a = b:=by
  cases a; cases b
  simp [sameR]
theorem retK_out {b : Nat} {P : Post} {vs : List AV} {h : Heap} {x : Esc} (hx : ∀ y ∈ x,b ≤ y.1) {v : AV} (h1 : reif b h (oneOf vs) = some v) (h2 : v.top ≤ b) : retK false b P (some vs) h x = P v (h.take b) []:=by
  have e : max b v.top = b:=by omega
  have c : closed x b = true:=by
    unfold closed
    rw [List.all_eq_true]
    intro y hy
    simp [hx y hy]
  have f : x.filter (fun y=>decide (y.1 < b)) = []:=by
    rw [List.filter_eq_nil_iff]
    intro y hy
    have:=hx y hy
    simp; omega
  simp only [retK,h1,e,close_out hx,c,if_true,f]
  exact propext ⟨fun h=>h.2,fun h=>⟨h2,h⟩⟩
end Go.Am
end
section
/- Sorting numbers: printed by program. -/
open Go
set_option linter.unusedSimpArgs false
namespace Go.Am
attribute [-go_sem] PV.cells splice
variable {h : Heap} {K : Post}
end Go.Am
end
section
/- Bins,both ways; lists joined; records sorted. -/
open Go
set_option linter.unusedSimpArgs false
namespace Go.Am
variable {h : Heap} {K : Post}
end Go.Am
end
section
/- Lists of records joined,compared,merged. -/
open Go
set_option linter.unusedSimpArgs false
namespace Go.Am
variable {h : Heap} {K : Post}
instance : DecidableEq Rec:=fun a b=>decidable_of_iff (sameR a b = true) (sameR_iff a b)
end Go.Am
end
section
/- Records merged asv the reference does it. -/
open Go
set_option linter.unusedSimpArgs false
namespace Go.Am
variable {h : Heap} {K : Post}
end Go.Am
end
section
/- Retests: which record of a unit counts. Plain lists; both ways yield the same. -/
set_option linter.all false
namespace Go.Am
end Go.Am
end
section
/- Lists of strings. -/
open Go
set_option linter.all false
namespace Go.Am
variable {h : Heap} {K : Post}
theorem X_ex2 : X.ex2 = libF GRL PRL:=rfl
abbrev AStr (us : List (List UInt8)) : AV:=.p (.sl none (us.map PV.str))
end Go.Am
end
section
/- Tests and faults: what is wrong with them,both ways. -/
open Go
set_option linter.all false
namespace Go.Am
variable {h : Heap} {K : Post}
theorem s_Trim (s cs : List UInt8) (hs : s.length ≤ 1000000) (hc : cs.length ≤ 1000) (ha : cs.all (fun b=>decide (b.toNat < 128)) = true) : ACall X f_q04g [AS s,AS cs] h K = K (AS (trimL s cs)) h []:=by
  refine lib_call (X:=X) (by kernel_rfl) ?_
  rw [X_ex2]
  exact libF_pure (vs:=[.str s,.str cs]) (by kernel_rfl) (s:=trimS) (by kernel_rfl) rfl (by simp only [trimS]; rw [if_pos ⟨hs,hc,ha⟩])
theorem s_BitsP (s : List UInt8) (hs : s.length ≤ 1000000) : ACall X f_q000 [AS s] h K = K (AB (bitsB s)) h []:=by
  refine rule ?_
  rw [c_q000 rfl]
  have e:=fun h K=>s_Trim (h:=h) (K:=K) s [48,49] hs (by simp) (by decide)
  have b : decide (trimL s [48,49] = []) = bitsB s:=trim_bits s
  simp only [d_q000,go_sem,e,b]
theorem s_BitsQ (s : List UInt8) (hs : s.length ≤ 1000000) : ACall X f_q02c [AS s] h K = K (AB (bitsB s)) h []:=by
  refine rule ?_
  rw [c_q02c rfl]
  have e:=fun h K=>s_only (h:=h) (K:=K) s [48,49] (by omega)
  have b : (s.all fun c=>[48,49].contains c) = bitsB s:=rfl
  simp only [d_q02c,go_sem,e,b]
theorem s_CheckTest (t : List (List UInt8)) (hb : ∀ s ∈ t,s.length ≤ 1000000) (hn : t.length ≤ 1000000) : ACall X f_q00w [AStr t] h K = K (AI (testF t)) h []:=by
  refine rule ?_
  rw [c_q00w rfl]
  unfold testF
  by_cases h0 : t.length = 0
  · simp only [d_q00w,go_sem,h0]
  have h0' : ¬ ((t.length : Int) = 0):=by omega
  by_cases h1 : 100 < t.length
  · have h1' : (100 : Int) < (t.length : Int) := by omega
    simp only [d_q00w,go_sem,h0',h0,h1,h1']
  have h1' : ¬ (100 : Int) < (t.length : Int):=by omega
  simp only [d_q00w,go_sem,h0',h0,h1,h1']
  obtain ⟨lg,hlg⟩ : ∃ n,(t.headD []).length = n:=⟨_,rfl⟩
  rw [hlg]
  refine N_loop (fun k : Nat=>⟨[(0,AStr t),(13,AStr t),(14,AI t.length),(15,AI k)],h,[]⟩) (fun k=>k ≤ t.length ∧ testL lg (t.drop k) = testL lg t) (fun k=>t.length - k) 0 rfl ⟨by omega,by simp⟩ ?_
  rintro k ⟨hk,hp⟩
  rcases Nat.lt_or_ge k t.length with hlt | hge
  · have hg := map_get PV.str hlt
    have hg0:=map_get PV.str (show 0 < t.length by omega)
    have cz : cutP none 0 (PV.str t[k]) = some (PV.str t[k]):=rfl
    have hz : t[0].length = lg:=by
      rw [← hlg]
      cases t with
      | nil=>exact absurd rfl h0
      | cons a r=>rfl
    have w2 : IntKind.i64.wrap ((k : Int) + 1) = ((k + 1 : Nat) : Int):=i64_wrap _ (by omega) (by omega)
    have eb:=fun h K=>s_BitsP (h:=h) (K:=K) t[k] (hb _ (List.getElem_mem hlt))
    rw [List.drop_eq_getElem_cons hlt,testL] at hp
    cases hbb : bitsB t[k] with
    | false=>
      rw [hbb] at hp
      simp only [if_true] at hp
      rw [← hp]
      simp only [go_sem,hlt,hg,eb,hbb]
    | true=>
      rw [hbb] at hp
      simp only [Bool.true_eq_false,if_false] at hp
      by_cases h2 : 64 < t[k].length
      · have h2' : (64 : Int) < (t[k].length : Int) := by omega
        rw [if_pos h2] at hp
        rw [← hp]
        simp only [go_sem,hlt,hg,eb,hbb,h2']
      · have h2' : ¬ (64 : Int) < (t[k].length : Int) := by omega
        rw [if_neg h2] at hp
        by_cases h3 : t[k].length = lg
        · have h3' : ((t[k].length : Int) = (lg : Int)) := by omega
          rw [if_neg (by omega)] at hp
          have h2'' : ¬ (64 : Int) < (lg : Int):=by omega
          simp only [go_sem,hlt,hg,hg0,hz,eb,hbb,h2',h2'',h3',w2]
          exact ⟨k + 1,rfl,⟨by omega,hp⟩,by omega⟩
        · have h3' : ¬ ((t[k].length : Int) = (lg : Int)) := by omega
          rw [if_pos h3] at hp
          rw [← hp]
          simp only [go_sem,hlt,hg,hg0,hz,eb,hbb,h2',h3']
  · have e1 : k = t.length := by omega
    subst e1
    rw [List.drop_length] at hp
    rw [← hp]
    simp only [go_sem,Nat.lt_irrefl]
    rfl
theorem s_TestFault (t : List (List UInt8)) (hb : ∀ s ∈ t,s.length ≤ 1000000) (hn : t.length ≤ 1000000) : ACall X f_q02j [AStr t] h K = K (AI (testF t)) h []:=by
  refine rule ?_
  rw [c_q02j rfl]
  unfold testF
  by_cases h0 : t.length = 0
  · simp only [d_q02j,go_sem,h0]
  have h0' : ¬ ((t.length : Int) = 0):=by omega
  by_cases h1 : 100 < t.length
  · have h1' : (100 : Int) < (t.length : Int) := by omega
    simp only [d_q02j,go_sem,h0',h0,h1,h1']
  have h1' : ¬ (100 : Int) < (t.length : Int):=by omega
  simp only [d_q02j,go_sem,h0',h0,h1,h1']
  obtain ⟨lg,hlg⟩ : ∃ n,(t.headD []).length = n:=⟨_,rfl⟩
  rw [hlg]
  refine N_loop (fun k : Nat=>⟨[(0,AStr t),(13,AStr t),(14,AI t.length),(15,AI k)],h,[]⟩) (fun k=>k ≤ t.length ∧ testL lg (t.drop k) = testL lg t) (fun k=>t.length - k) 0 rfl ⟨by omega,by simp⟩ ?_
  rintro k ⟨hk,hp⟩
  rcases Nat.lt_or_ge k t.length with hlt | hge
  · have hg := map_get PV.str hlt
    have hg0:=map_get PV.str (show 0 < t.length by omega)
    have cz : cutP none 0 (PV.str t[k]) = some (PV.str t[k]):=rfl
    have hz : t[0].length = lg:=by
      rw [← hlg]
      cases t with
      | nil=>exact absurd rfl h0
      | cons a r=>rfl
    have w2 : IntKind.i64.wrap ((k : Int) + 1) = ((k + 1 : Nat) : Int):=i64_wrap _ (by omega) (by omega)
    have eb:=fun h K=>s_BitsQ (h:=h) (K:=K) t[k] (hb _ (List.getElem_mem hlt))
    rw [List.drop_eq_getElem_cons hlt,testL] at hp
    cases hbb : bitsB t[k] with
    | false=>
      rw [hbb] at hp
      simp only [if_true] at hp
      rw [← hp]
      simp only [go_sem,hlt,hg,eb,hbb]
    | true=>
      rw [hbb] at hp
      simp only [Bool.true_eq_false,if_false] at hp
      by_cases h2 : 64 < t[k].length
      · have h2' : (64 : Int) < (t[k].length : Int) := by omega
        rw [if_pos h2] at hp
        rw [← hp]
        simp only [go_sem,hlt,hg,eb,hbb,h2']
      · have h2' : ¬ (64 : Int) < (t[k].length : Int) := by omega
        rw [if_neg h2] at hp
        by_cases h3 : t[k].length = lg
        · have h3' : ((t[k].length : Int) = (lg : Int)) := by omega
          rw [if_neg (by omega)] at hp
          have h2'' : ¬ (64 : Int) < (lg : Int):=by omega
          simp only [go_sem,hlt,hg,hg0,hz,eb,hbb,h2',h2'',h3',w2]
          exact ⟨k + 1,rfl,⟨by omega,hp⟩,by omega⟩
        · have h3' : ¬ ((t[k].length : Int) = (lg : Int)) := by omega
          rw [if_pos h3] at hp
          rw [← hp]
          simp only [go_sem,hlt,hg,hg0,hz,eb,hbb,h2',h3']
  · have e1 : k = t.length := by omega
    subst e1
    rw [List.drop_length] at hp
    rw [← hp]
    simp only [go_sem,Nat.lt_irrefl]
    rfl
end Go.Am
end
section
/- Faults: what is wrong with them,both ways. -/
open Go
set_option linter.all false
namespace Go.Am
variable {h : Heap} {K : Post}
def Flt.pv (f : Flt) : PV:=.agg [eI f.kind,.sl none (f.nets.map eI)]
abbrev AFlt (l : List Flt) : AV:=.p (.sl (some 2) (l.map Flt.pv))
theorem IndexI {v : AV} (l : List Int) (hv : Shows none v (l.map eI) h) (x : Int) (hl : l.length ≤ 1000000) : ACall X f_q036 [v,AI x] h K = K (AI (if l.findIdx (fun y=>decide (y = x)) < l.length then (l.findIdx (fun y=>decide (y = x)) : Int) else -1)) h []:=by
  refine rule ?_
  rw [c_q036]
  have vl:=hv.len
  rw [List.length_map] at vl
  simp only [d_q036,go_sem,vl]
  refine N_loop (fun k : Nat=>⟨[(0,v),(1,AI x),(7,AI l.length),(8,AI k)],h,[]⟩) (fun k=>k ≤ l.length ∧ ∀ y ∈ l.take k,decide (y = x) = false) (fun k=>l.length - k) 0 rfl (by simp) ?_
  rintro k ⟨hk,hn⟩
  rcases Nat.lt_or_ge k l.length with hlt | hge
  · obtain ⟨a, ha, hb⟩ := hv.get k (by simpa using hlt)
    rw [List.getElem_map] at hb
    have w2 : IntKind.i64.wrap ((k : Int) + 1) = ((k + 1 : Nat) : Int):=i64_wrap _ (by omega) (by omega)
    by_cases hpk : x = l[k]
    · have hf : l.findIdx (fun y=>decide (y = x)) = k:=by
        rw [List.findIdx_eq hlt]
        refine ⟨by simp [hpk],fun j hj=>?_⟩
        have:=hn l[j] (by rw [List.mem_take_iff_getElem]; exact ⟨j,by omega,rfl⟩)
        simpa using this
      simp only [go_sem,hlt,ha,hb,hpk.symm,w2]
      simp only [hf,hlt,if_true]
    · simp only [go_sem, hlt, ha, hb, hpk, w2]
      refine ⟨k + 1,rfl,⟨by omega,fun y hy=>?_⟩,by omega⟩
      rw [List.take_succ_eq_append_getElem hlt,List.mem_append,List.mem_singleton] at hy
      rcases hy with hy | hy
      · exact hn y hy
      · rw [hy]; simp; exact fun e=>hpk e.symm
  · have e1 : k = l.length := by omega
    subst e1
    simp only [go_sem,Nat.lt_irrefl]
    rw [List.take_length] at hn
    have : ¬ l.findIdx (fun y=>decide (y = x)) < l.length:=by
      rw [Nat.not_lt,Nat.le_iff_lt_or_eq]; right
      exact (List.findIdx_eq_length.2 (fun y hy=>by simp [hn y hy])).symm
    rw [if_neg this]
theorem ContainsI {v : AV} (l : List Int) (hv : ∀ h' : Heap,h' = h → Shows none v (l.map eI) h') (x : Int) (hl : l.length ≤ 1000000) : ACall X f_q02z [v,AI x] h K = K (AB (l.contains x)) h []:=by
  refine rule ?_
  rw [c_q02z]
  have e:=fun K=>IndexI (h:=h) (K:=K) l (hv h rfl) x hl
  have hd : decide (0 ≤ (if l.findIdx (fun y=>decide (y = x)) < l.length then (l.findIdx (fun y=>decide (y = x)) : Int) else -1)) = l.contains x:=by
    rw [Bool.eq_iff_iff,decide_eq_true_eq,List.contains_iff_mem]
    constructor
    · intro hq
      split at hq
      · rename_i hlt
        have:=List.findIdx_getElem (w:=hlt)
        simp only [decide_eq_true_eq] at this
        exact this ▸ List.getElem_mem hlt
      · omega
    · intro hm
      rw [if_pos (List.findIdx_lt_length_of_exists ⟨x,hm,by simp⟩)]; omega
  simp only [d_q02z,go_sem,e,hd]
theorem s_ContainsI (l : List Int) (x : Int) (hl : l.length ≤ 1000000) : ACall X f_q02z [AL l,AI x] h K = K (AB (l.contains x)) h []:=ContainsI l (fun h' _=>shows_sl shps_eI) x hl
def riseV (f : Flt) (r : List Int) : Int:=if risL r = false then 7 else if f.kind = 5 ∧ r.contains (f.nets.headD 0) = true then 6 else 0
theorem head_get {l : List Int} (hl : 0 < l.length) : (l.map eI)[0]? = some (eI (l.headD 0)):=by
  cases l with
  | nil=>simp at hl
  | cons a r=>rfl
theorem rise_P (f : Flt) (r : List Int) (hr : r.length ≤ 1000000) (h0 : 0 < f.nets.length) {id : Nat} (hh : h[id]? = some (.box [AI f.kind,AL f.nets])) {K : Ex → St → Prop} (hK : K .ret ⟨[(4,AI (riseV f r))],h,[]⟩) :
    d_q00v_k4 (ACall X) X.gl p_q00v_k2 p_q00v_k3 (.ref id 0) (AL r) h [] K:=by
  simp only [d_q00v_k4,go_sem]
  refine N_loop (fun k : Nat=>⟨[(3,.ref id 0),(7,AL r),(8,AI ((k + 1 : Nat) : Int))],h,[]⟩) (fun k=>(k + 1 ≤ r.length ∨ k = 0) ∧ risL (r.drop k) = risL r) (fun k=>r.length - k) 0 rfl ⟨.inr rfl,by simp⟩ ?_
  rintro k ⟨hk,hp⟩
  rcases Nat.lt_or_ge (k + 1) r.length with hlt | hge
  · have g1 := map_get eI (show k < r.length by omega)
    have g2:=map_get eI hlt
    have w1 : IntKind.i64.wrap (((k + 1 : Nat) : Int) - 1) = (k : Int):=by rw [i64_wrap _ (by omega) (by omega)]; omega
    have w2 : IntKind.i64.wrap (((k + 1 : Nat) : Int) + 1) = ((k + 1 + 1 : Nat) : Int):=i64_wrap _ (by omega) (by omega)
    rw [risL_take r k hlt] at hp
    by_cases hq : r[k + 1] ≤ r[k]
    · have : ¬ r[k] < r[k + 1] := by omega
      simp only [this,decide_false,Bool.false_and] at hp
      simp only [go_sem,hlt,g1,g2,w1,hq]
      have e : riseV f r = 7:=by unfold riseV; rw [← hp]; rfl
      rw [e] at hK
      exact hK
    · have : r[k] < r[k + 1] := by omega
      simp only [this,decide_true,Bool.true_and] at hp
      simp only [go_sem,hlt,g1,g2,w1,w2,hq]
      exact ⟨k + 1,rfl,⟨.inl (by omega),hp⟩,by omega⟩
  · have hge' : ¬ (((k + 1 : Nat) : Int) < (r.length : Int)) := by omega
    rw [risL_end r k hge] at hp
    have c:=fun h K=>s_ContainsI (h:=h) (K:=K) r (f.nets.headD 0) hr
    have g0:=head_get h0
    unfold riseV at hK
    rw [← hp] at hK
    simp only [Bool.true_eq_false,if_false] at hK
    by_cases h5 : f.kind = 5
    · cases hc : r.contains (f.nets.headD 0) with
      | true=>
        rw [hc] at hK
        simp only [h5,and_self,if_true] at hK
        rw [h5] at hh
        simp only [go_sem,hge',hh,c,g0,hc]
        exact hK
      | false=>
        rw [hc] at hK
        simp only [Bool.false_eq_true,and_false,if_false] at hK
        rw [h5] at hh
        simp only [go_sem,hge',hh,c,g0,hc]
        exact hK
    · simp only [h5, false_and, if_false] at hK
      simp only [go_sem,hge',hh,h5]
      exact hK
theorem rise_Q (f : Flt) (r : List Int) (hr : r.length ≤ 1000000) (h0 : 0 < f.nets.length) {id : Nat} (hh : h[id]? = some (.box [AI f.kind,AL f.nets])) {K : Ex → St → Prop} (hK : K .ret ⟨[(4,AI (riseV f r))],h,[]⟩) :
    d_q02e_k3 (ACall X) X.gl p_q02e_k1 p_q02e_k2 (.ref id 0) (AL r) h [] K:=by
  simp only [d_q02e_k3,go_sem]
  refine N_loop (fun k : Nat=>⟨[(3,.ref id 0),(5,AL r),(6,AI ((k + 1 : Nat) : Int))],h,[]⟩) (fun k=>(k + 1 ≤ r.length ∨ k = 0) ∧ risL (r.drop k) = risL r) (fun k=>r.length - k) 0 rfl ⟨.inr rfl,by simp⟩ ?_
  rintro k ⟨hk,hp⟩
  rcases Nat.lt_or_ge (k + 1) r.length with hlt | hge
  · have g1 := map_get eI (show k < r.length by omega)
    have g2:=map_get eI hlt
    have w1 : IntKind.i64.wrap (((k + 1 : Nat) : Int) - 1) = (k : Int):=by rw [i64_wrap _ (by omega) (by omega)]; omega
    have w2 : IntKind.i64.wrap (((k + 1 : Nat) : Int) + 1) = ((k + 1 + 1 : Nat) : Int):=i64_wrap _ (by omega) (by omega)
    rw [risL_take r k hlt] at hp
    by_cases hq : r[k + 1] ≤ r[k]
    · have : ¬ r[k] < r[k + 1] := by omega
      simp only [this,decide_false,Bool.false_and] at hp
      simp only [go_sem,hlt,g1,g2,w1,hq]
      have e : riseV f r = 7:=by unfold riseV; rw [← hp]; rfl
      rw [e] at hK
      exact hK
    · have : r[k] < r[k + 1] := by omega
      simp only [this,decide_true,Bool.true_and] at hp
      simp only [go_sem,hlt,g1,g2,w1,w2,hq]
      exact ⟨k + 1,rfl,⟨.inl (by omega),hp⟩,by omega⟩
  · have hge' : ¬ (((k + 1 : Nat) : Int) < (r.length : Int)) := by omega
    rw [risL_end r k hge] at hp
    have c:=fun h K=>s_ContainsI (h:=h) (K:=K) r (f.nets.headD 0) hr
    have g0:=head_get h0
    unfold riseV at hK
    rw [← hp] at hK
    simp only [Bool.true_eq_false,if_false] at hK
    by_cases h5 : f.kind = 5
    · cases hc : r.contains (f.nets.headD 0) with
      | true=>
        rw [hc] at hK
        simp only [h5,and_self,if_true] at hK
        rw [h5] at hh
        simp only [go_sem,hge',hh,c,g0,hc]
        exact hK
      | false=>
        rw [hc] at hK
        simp only [Bool.false_eq_true,and_false,if_false] at hK
        rw [h5] at hh
        simp only [go_sem,hge',hh,c,g0,hc]
        exact hK
    · simp only [h5, false_and, if_false] at hK
      simp only [go_sem,hge',hh,h5]
      exact hK
theorem s_isShort (k : Int) : ACall X f_q013 [AI k] h K = K (AB (shortK k)) h []:=by
  refine rule ?_
  rw [c_q013 rfl]
  have e : (!(decide (k < 3) || decide (5 < k))) = shortK k:=by unfold shortK; rw [Bool.eq_iff_iff]; simp
  simp only [d_q013,go_sem,s_Out,e]
theorem s_short (k : Int) : ACall X f_q02o [AI k] h K = K (AB (shortK k)) h []:=by
  refine rule ?_
  rw [c_q02o rfl]
  simp only [d_q02o,go_sem,s_in]
  rfl
theorem any_drop {p : Int → Bool} {l : List Int} {k : Nat} (hk : k < l.length) (hp : (l.drop k).any p = l.any p) : (p l[k] || (l.drop (k + 1)).any p) = l.any p:=by
  rw [List.drop_eq_getElem_cons hk,List.any_cons] at hp
  exact hp
attribute [-go_sem] d_q00v_k4 d_q02e_k3
theorem s_CheckFault (n : Int) (f : Flt) (hn : -1000000000000000 ≤ n) (hl : f.nets.length ≤ 1000000) : ACall X f_q00v [AI n,.p f.pv] h K = K (AI (fltF n f)) h []:=by
  refine rule ?_
  rw [c_q00v rfl]
  unfold fltF
  by_cases h1 : n < 1 ∨ 100 < n
  · have e : (decide (n < 1) || decide (100 < n)) = true := by rw [Bool.or_eq_true, decide_eq_true_eq, decide_eq_true_eq]; exact h1
    simp only [d_q00v,Flt.pv,go_sem,s_Out,e,h1]
  have e1 : (decide (n < 1) || decide (100 < n)) = false:=by rw [Bool.or_eq_false_iff,decide_eq_false_iff_not,decide_eq_false_iff_not]; omega
  by_cases h2 : f.kind < 1 ∨ 6 < f.kind
  · have e : (decide (f.kind < 1) || decide (6 < f.kind)) = true := by rw [Bool.or_eq_true, decide_eq_true_eq, decide_eq_true_eq]; exact h2
    simp only [d_q00v,Flt.pv,go_sem,s_Out,e1,e,h1,h2]
  have e2 : (decide (f.kind < 1) || decide (6 < f.kind)) = false:=by rw [Bool.or_eq_false_iff,decide_eq_false_iff_not,decide_eq_false_iff_not]; omega
  by_cases h3 : f.nets.length = 0
  · simp only [d_q00v,Flt.pv,go_sem,s_Out,e1,e2,h1,h2,h3]
  have h3' : ¬ ((f.nets.length : Int) = 0):=by omega
  by_cases h4 : 6 < f.nets.length
  · have h4' : (6 : Int) < f.nets.length := by omega
    simp only [d_q00v,Flt.pv,go_sem,s_Out,e1,e2,h1,h2,h3,h3',h4,h4']
  have h4' : ¬ (6 : Int) < f.nets.length:=by omega
  simp only [d_q00v,Flt.pv,go_sem,s_Out,e1,e2,h1,h2,h3,h3',h4,h4']
  refine N_loop (fun k : Nat=>⟨[(0,AI n),(3,.ref h.length 0),(27,AL f.nets),(28,AI f.nets.length),(29,AI k)],h ++ [.box [AI f.kind,AL f.nets]],[]⟩) (fun k=>k ≤ f.nets.length ∧ (f.nets.drop k).any (outN n) = f.nets.any (outN n)) (fun k=>f.nets.length - k) 0 rfl ⟨by omega,by simp⟩ ?_
  rintro k ⟨hk,hp⟩
  have w1 : IntKind.i64.wrap (n - 1) = n - 1:=i64_wrap _ (by omega) (by omega)
  rcases Nat.lt_or_ge k f.nets.length with hlt | hge
  · have hg := map_get eI hlt
    have w2 : IntKind.i64.wrap ((k : Int) + 1) = ((k + 1 : Nat) : Int):=i64_wrap _ (by omega) (by omega)
    have hp2:=any_drop hlt hp
    cases ho : outN n f.nets[k] with
    | true=>
      rw [ho,Bool.true_or] at hp2
      unfold outN at ho
      simp only [go_sem,hlt,hg,w1,s_Out,ho,← hp2]
    | false=>
      rw [ho,Bool.false_or] at hp2
      unfold outN at ho
      simp only [go_sem,hlt,hg,w1,s_Out,ho,w2]
      exact ⟨k + 1,rfl,⟨by omega,hp2⟩,by omega⟩
  · have e1 : k = f.nets.length := by omega
    subst e1
    rw [List.drop_length] at hp
    rw [← hp]
    simp only [List.any_nil,Bool.false_eq_true,if_false]
    have hi : (1 < (f.nets.length : Int)) = (1 < f.nets.length):=by simp only [eq_iff_iff]; omega
    have h0 : 0 < f.nets.length:=by omega
    have hh : (h ++ [Obj.box [AI f.kind,AL f.nets]])[h.length]? = some (.box [AI f.kind,AL f.nets]):=app_get0 _ _
    have R:=fun r hr (K : Ex → St → Prop)=>rise_P (h:=h ++ [Obj.box [AI f.kind,AL f.nets]]) f r hr h0 hh (K:=K)
    obtain ⟨kd,ns⟩:=f
    dsimp only at *
    have hw : win (ns.map eI) 1 (ns.length - 1) = (ns.drop 1).map eI:=by rw [win_map]; congr 1; unfold win; exact List.take_of_length_le (by simp)
    have hle : 1 ≤ ns.length:=h0
    by_cases h6 : kd = 5
    · subst h6
      have s5 : shortK 5 = true:=rfl
      by_cases hm : 1 < ns.length
      · have q := R (ns.drop 1) (by simp; omega)
        simp only [go_sem,Nat.lt_irrefl,s_isShort,s5,hi,hm,hw,hle]
        refine q _ ?_
        simp only [go_sem,riseV]
      · simp only [go_sem,Nat.lt_irrefl,s_isShort,s5,hi,hm]
    · have q := R ns hl
      cases hs : shortK kd with
      | true=>
        by_cases hm : 1 < ns.length
        · simp only [go_sem, Nat.lt_irrefl, s_isShort, hs, hi, hm, h6]
          refine q _ ?_
          simp only [go_sem,riseV,h6]
        · simp only [go_sem,Nat.lt_irrefl,s_isShort,hs,hi,hm]
      | false=>
        by_cases hm : 1 < ns.length
        · simp only [go_sem,Nat.lt_irrefl,s_isShort,hs,hi,hm]
        · simp only [go_sem, Nat.lt_irrefl, s_isShort, hs, hi, hm, h6]
          refine q _ ?_
          simp only [go_sem,riseV,h6]
theorem s_FF1 (n x : Int) (hn : -1000000000000000 ≤ n) (hn2 : n ≤ 100) (id : Nat) (hh : h[id]? = some (.box [AI n])) : ACall X f_q02f [AI x,.ref id 0] h K = K (AB (outN n x)) h []:=by
  refine rule ?_
  rw [c_q02f rfl]
  have w1 : IntKind.i64.wrap (n - 1) = n - 1:=i64_wrap _ (by omega) (by omega)
  have e : (!(decide (0 ≤ x) && decide (x ≤ n - 1))) = outN n x:=by
    unfold outN; rw [Bool.eq_iff_iff]; simp
  simp only [d_q02f,go_sem,hh,w1,s_in,e]
theorem s_FaultFault (n : Int) (f : Flt) (hn : -1000000000000000 ≤ n) (hl : f.nets.length ≤ 1000000) : ACall X f_q02e [AI n,.p f.pv] h K = K (AI (fltF n f)) h []:=by
  refine rule ?_
  rw [c_q02e rfl]
  unfold fltF
  by_cases h1 : n < 1 ∨ 100 < n
  · have e : (decide (1 ≤ n) && decide (n ≤ 100)) = false := by rw [Bool.and_eq_false_iff, decide_eq_false_iff_not, decide_eq_false_iff_not]; omega
    simp only [d_q02e,Flt.pv,go_sem,s_in,e,h1]
  have e1 : (decide (1 ≤ n) && decide (n ≤ 100)) = true:=by rw [Bool.and_eq_true,decide_eq_true_eq,decide_eq_true_eq]; omega
  by_cases h2 : f.kind < 1 ∨ 6 < f.kind
  · have e : (decide (1 ≤ f.kind) && decide (f.kind ≤ 6)) = false := by rw [Bool.and_eq_false_iff, decide_eq_false_iff_not, decide_eq_false_iff_not]; omega
    simp only [d_q02e,Flt.pv,go_sem,s_in,e1,e,h1,h2]
  have e2 : (decide (1 ≤ f.kind) && decide (f.kind ≤ 6)) = true:=by rw [Bool.and_eq_true,decide_eq_true_eq,decide_eq_true_eq]; omega
  by_cases h3 : f.nets.length = 0
  · simp only [d_q02e,Flt.pv,go_sem,s_in,e1,e2,h1,h2,h3]
  have h3' : ¬ ((f.nets.length : Int) = 0):=by omega
  by_cases h4 : 6 < f.nets.length
  · have h4' : (6 : Int) < f.nets.length := by omega
    simp only [d_q02e,Flt.pv,go_sem,s_in,e1,e2,h1,h2,h3,h3',h4,h4']
  have h4' : ¬ (6 : Int) < f.nets.length:=by omega
  have T : Tells f_q02f [.ref h.length 0] (fun x=>outN n (unI x)) (f.nets.map eI) (h ++ [.box [AI n],.box [AI f.kind,AL f.nets]]):=by
    intro x hx K
    obtain ⟨m,_,rfl⟩:=List.mem_map.1 hx
    exact s_FF1 n m hn (by omega) h.length (by rw [app_get0]; rfl)
  have C:=fun K=>ContainsFunc_int (K:=K) T shps_eI (by simp; omega)
  have ea : (f.nets.map eI).any (fun x=>outN n (unI x)) = f.nets.any (outN n):=by rw [List.any_map]; rfl
  rw [ea] at C
  cases ha : f.nets.any (outN n) with
  | true=>
    rw [ha] at C
    simp only [d_q02e,Flt.pv,go_sem,s_in,e1,e2,h1,h2,h3,h3',h4,h4',C]
  | false=>
  rw [ha] at C
  simp only [d_q02e,Flt.pv,go_sem,s_in,e1,e2,h1,h2,h3,h3',h4,h4',C]
  have hi : (1 < (f.nets.length : Int)) = (1 < f.nets.length):=by simp only [eq_iff_iff]; omega
  have h0 : 0 < f.nets.length:=by omega
  have hh : (h ++ [.box [AI n],Obj.box [AI f.kind,AL f.nets]])[h.length + 1]? = some (.box [AI f.kind,AL f.nets]):=by rw [app_get]; rfl
  have R:=fun r hr (K : Ex → St → Prop)=>rise_Q (h:=h ++ [.box [AI n],Obj.box [AI f.kind,AL f.nets]]) f r hr h0 hh (K:=K)
  obtain ⟨kd,ns⟩:=f
  dsimp only at *
  have hw : win (ns.map eI) 1 (ns.length - 1) = (ns.drop 1).map eI:=by rw [win_map]; congr 1; unfold win; exact List.take_of_length_le (by simp)
  have hle : 1 ≤ ns.length:=h0
  by_cases h6 : kd = 5
  · subst h6
    have s5 : shortK 5 = true:=rfl
    by_cases hm : 1 < ns.length
    · have q := R (ns.drop 1) (by simp; omega)
      simp only [go_sem,s_short,s5,hi,hm,hw,hle]
      refine q _ ?_
      simp only [go_sem,riseV]
    · simp only [go_sem,s_short,s5,hi,hm]
  · have q := R ns hl
    cases hs : shortK kd with
    | true=>
      by_cases hm : 1 < ns.length
      · simp only [go_sem, s_short, hs, hi, hm, h6]
        refine q _ ?_
        simp only [go_sem,riseV,h6]
      · simp only [go_sem,s_short,hs,hi,hm]
    | false=>
      by_cases hm : 1 < ns.length
      · simp only [go_sem,s_short,hs,hi,hm]
      · simp only [go_sem, s_short, hs, hi, hm, h6]
        refine q _ ?_
        simp only [go_sem,riseV,h6]
end Go.Am
end
section
/- Lists of faults: what is wrong with them,both ways. -/
open Go
set_option linter.all false
namespace Go.Am
variable {h : Heap} {K : Post}
theorem flt_cut {f : Flt} : cutP (some 2) 0 f.pv = some f.pv:=rfl
def allF (t : List (List UInt8)) (l : List Flt) : Int:=if testF t ≠ 0 then testF t else fltsF t.length l
theorem s_faultsFault (t : List (List UInt8)) (l : List Flt) (hb : ∀ s ∈ t,s.length ≤ 1000000) (ht : t.length ≤ 1000000) (hf : ∀ f ∈ l,f.nets.length ≤ 1000000) (hn : l.length ≤ 1000000) : ACall X f_q012 [AStr t,AFlt l] h K = K (AI (allF t l)) h []:=by
  refine rule ?_
  rw [c_q012 rfl]
  have c:=fun h K=>s_CheckTest (h:=h) (K:=K) t hb ht
  unfold allF
  by_cases h1 : testF t = 0
  case neg=>simp only [d_q012,go_sem,c,h1]
  simp only [d_q012,go_sem,c,h1]
  refine N_loop (fun k : Nat=>⟨[(0,AStr t),(14,AFlt l),(15,AI l.length),(16,AI k)],h,[]⟩) (fun k=>k ≤ l.length ∧ fltsF (t.length : Int) (l.drop k) = fltsF (t.length : Int) l) (fun k=>l.length - k) 0 rfl ⟨by omega,by simp⟩ ?_
  rintro k ⟨hk,hp⟩
  rcases Nat.lt_or_ge k l.length with hlt | hge
  · have hg := map_get Flt.pv hlt
    have w2 : IntKind.i64.wrap ((k : Int) + 1) = ((k + 1 : Nat) : Int):=i64_wrap _ (by omega) (by omega)
    have e:=fun h K=>s_CheckFault (h:=h) (K:=K) (t.length : Int) l[k] (by omega) (hf _ (List.getElem_mem hlt))
    have cx:=flt_cut (f:=l[k])
    rw [List.drop_eq_getElem_cons hlt,fltsF] at hp
    simp only [Flt.pv] at hg cx e
    by_cases h2 : fltF (t.length : Int) l[k] = 0
    · rw [if_neg (by simp [h2])] at hp
      simp only [go_sem,hlt,hg,cx,e,h2,w2]
      exact ⟨k + 1,rfl,⟨by omega,hp⟩,by omega⟩
    · rw [if_pos h2] at hp
      simp only [go_sem,hlt,hg,cx,e,h2]
      rw [← hp]
  · have ek : k = l.length := by omega
    subst ek
    rw [List.drop_length] at hp
    simp only [go_sem,Nat.lt_irrefl]
    rw [← hp]; rfl
theorem s_FaultsFault (n : Int) (l : List Flt) (h0 : -1000000000000000 ≤ n) (hf : ∀ f ∈ l,f.nets.length ≤ 1000000) (hn : l.length ≤ 20000) : ACall X f_q02g [AI n,AFlt l] h K = K (AI (fltsF n l)) h []:=by
  refine rule ?_
  rw [c_q02g rfl]
  have h1 : ¬ (20000 : Int) < l.length:=by omega
  simp only [d_q02g,go_sem,h1]
  refine N_loop (fun k : Nat=>⟨[(0,AI n),(11,AFlt l),(12,AI l.length),(13,AI k)],h,[]⟩) (fun k=>k ≤ l.length ∧ fltsF n (l.drop k) = fltsF n l) (fun k=>l.length - k) 0 rfl ⟨by omega,by simp⟩ ?_
  rintro k ⟨hk,hp⟩
  rcases Nat.lt_or_ge k l.length with hlt | hge
  · have hg := map_get Flt.pv hlt
    have w2 : IntKind.i64.wrap ((k : Int) + 1) = ((k + 1 : Nat) : Int):=i64_wrap _ (by omega) (by omega)
    have e:=fun h K=>s_FaultFault (h:=h) (K:=K) n l[k] (by omega) (hf _ (List.getElem_mem hlt))
    have cx:=flt_cut (f:=l[k])
    rw [List.drop_eq_getElem_cons hlt,fltsF] at hp
    simp only [Flt.pv] at hg cx e
    by_cases h2 : fltF n l[k] = 0
    · rw [if_neg (by simp [h2])] at hp
      simp only [go_sem,hlt,hg,cx,e,h2,w2]
      exact ⟨k + 1,rfl,⟨by omega,hp⟩,by omega⟩
    · rw [if_pos h2] at hp
      simp only [go_sem,hlt,hg,cx,e,h2]
      rw [← hp]
  · have ek : k = l.length := by omega
    subst ek
    rw [List.drop_length] at hp
    simp only [go_sem,Nat.lt_irrefl]
    rw [← hp]; rfl
theorem s_listFault (t : List (List UInt8)) (l : List Flt) (hb : ∀ s ∈ t,s.length ≤ 1000000) (ht : t.length ≤ 1000000) (hf : ∀ f ∈ l,f.nets.length ≤ 1000000) (hn : l.length ≤ 20000) : ACall X f_q01z [AStr t,AFlt l] h K = K (AI (allF t l)) h []:=by
  refine rule ?_
  rw [c_q01z rfl]
  have c:=fun h K=>s_TestFault (h:=h) (K:=K) t hb ht
  have e:=fun h K=>s_FaultsFault (h:=h) (K:=K) t.length l (by omega) hf hn
  unfold allF
  by_cases h1 : testF t = 0
  · simp only [d_q01z,go_sem,c,h1,e]
  · simp only [d_q01z,go_sem,c,h1]
end Go.Am
end
section
/- Rows of a test asv numbers. -/
open Go
set_option linter.all false
namespace Go.Am
variable {h : Heap} {K : Post}
abbrev eU (n : Nat) : PV:=.int .u64 (n : Int)
theorem testL_ok {lg : Nat} : ∀ {t : List (List UInt8)},testL lg t = 0 → ∀ s ∈ t,bitsB s = true ∧ s.length = lg ∧ s.length ≤ 64
  | [],_,s,hs=>by cases hs
  | a :: r,h,s,hs=>by
    unfold testL at h
    split at h
    · cases h
    split at h
    · cases h
    split at h
    · cases h
    rename_i h1 h2 h3
    rcases List.mem_cons.1 hs with rfl | hs
    · exact ⟨by simpa using h1,by simpa using h3,by omega⟩
    · exact testL_ok h s hs
structure TestOk (t : List (List UInt8)) (lg : Nat) : Prop where
  n0 : 0 < t.length
  n1 : t.length ≤ 100
  l : lg ≤ 64
  b : ∀ s ∈ t,bitsB s = true
  e : ∀ s ∈ t,s.length = lg
theorem testF_ok {t : List (List UInt8)} (h : testF t = 0) : TestOk t (t.headD []).length:=by
  unfold testF at h
  split at h
  · cases h
  split at h
  · cases h
  have k:=testL_ok h
  have hm : t.headD [] ∈ t:=by
    cases t with
    | nil=>rename_i h0 _; exact absurd rfl h0
    | cons a r=>exact List.mem_cons_self ..
  exact ⟨by omega,by omega,(k _ hm).2.2,fun s hs=>(k s hs).1,fun s hs=>(k s hs).2.1⟩
theorem s_rows (t : List (List UInt8)) (hb : ∀ s ∈ t,bitsB s = true) (hl : ∀ s ∈ t,s.length ≤ 64) (hn : t.length ≤ 1000000) : ACall X f_q015 [AStr t] h K = K (.own h.length t.length 0 t.length) (h ++ [.row none ((t.map rowN).map eU) 0]) []:=by
  refine rule ?_
  rw [c_q015 rfl]
  simp only [d_q015,go_sem]
  refine N_loop (fun k : Nat=>⟨[(3,.own h.length k 0 k),(8,AStr t),(9,AI t.length),(10,AI k)],h ++ [.row none (((t.take k).map rowN).map eU) 0],[]⟩) (fun k=>k ≤ t.length) (fun k=>t.length - k) 0 rfl (by omega) ?_
  intro k hk
  rcases Nat.lt_or_ge k t.length with hlt | hge
  · have hg := map_get PV.str hlt
    have w2 : IntKind.i64.wrap ((k : Int) + 1) = ((k + 1 : Nat) : Int):=i64_wrap _ (by omega) (by omega)
    have b1:=hb _ (List.getElem_mem hlt)
    have l1:=hl _ (List.getElem_mem hlt)
    have cx : cutP none 0 (PV.str t[k]) = some (PV.str t[k]):=rfl
    simp only [go_sem,hlt,hg,cx]
    generalize hs : t[k] = s at *
    refine N_loop (fun i : Nat=>⟨[(3,.own h.length k 0 k),(5,AS s),(6,.p (eU (rowN (s.take i)))),(8,AStr t),(9,AI t.length),(10,AI k),(15,AI s.length),(16,AI i)],h ++ [.row none (((t.take k).map rowN).map eU) 0],[]⟩) (fun i=>i ≤ s.length) (fun i=>s.length - i) 0 rfl (by omega) ?_
    intro i hi
    rcases Nat.lt_or_ge i s.length with hlt2 | hge2
    · have g2 : s[i]? = some s[i] := List.getElem?_eq_getElem hlt2
      have w3 : IntKind.i64.wrap ((i : Int) + 1) = ((i + 1 : Nat) : Int):=i64_wrap _ (by omega) (by omega)
      have bt:=bit_at hlt2 b1
      have e1 : IntKind.u8.wrap ((s[i].toNat : Int) - 48) = ((s[i].toNat - 48 : Nat) : Int):=by
        rcases bt with e | e <;> rw [e] <;> rfl
      have hsm : s[i].toNat - 48 ≤ 1:=by rcases bt with e | e <;> rw [e] <;> decide
      have e2 : IntKind.u64.wrap ((s[i].toNat - 48 : Nat) : Int) = ((s[i].toNat - 48 : Nat) : Int):=u64w _ (by omega)
      have hp : (2 : Nat) ^ i ≤ 2 ^ 63:=Nat.pow_le_pow_right (by omega) (by omega)
      have hp2 : (2 : Nat) ^ 63 = 9223372036854775808:=rfl
      have hm : (s[i].toNat - 48) * 2 ^ i ≤ 1 * 2 ^ i:=Nat.mul_le_mul_right _ hsm
      have e3:=ishl_nat (a:=s[i].toNat - 48) (i:=i) (by omega) (by omega)
      have hr:=rowN_lt (s.take i) (bitsB_take i b1)
      rw [List.length_take,Nat.min_eq_left (by omega)] at hr
      have e4:=ior_nat (a:=rowN (s.take i)) (b:=(s[i].toNat - 48) * 2 ^ i) (by omega) (by omega)
      rw [rowN_take_succ hlt2 b1] at e4
      have hneg : ¬ ((i : Int) < 0):=by omega
      simp only [go_sem,hlt2,g2,e1,e2,e3,e4,w3,hneg]
      exact ⟨i + 1,rfl,by omega,by omega⟩
    · have ei : i = s.length := by omega
      subst ei
      have hmx : k + 1 ≤ maxSl:=by unfold maxSl; omega
      have hlen : (((t.take k).map rowN).map eU).length = k:=by simp; omega
      simp only [go_sem,Nat.lt_irrefl,List.take_length,w2,hmx,hlen]
      refine ⟨k + 1,?_,by omega,by omega⟩
      rw [List.take_succ_eq_append_getElem hlt,hs]
      simp
  · have ek : k = t.length := by omega
    subst ek
    simp only [go_sem,Nat.lt_irrefl,List.take_length]
    exact List.take_of_length_le (by simp)
theorem s_whole (n : Nat) (hn : n ≤ 64) : ACall X f_q017 [AI n] h K = K (.p (eU (2 ^ n - 1))) h []:=by
  refine rule ?_
  rw [c_q017 rfl]
  have hneg : ¬ ((n : Int) < 0):=by omega
  have hpos:=Nat.two_pow_pos n
  have e : IntKind.u64.wrap (ishl .u64 1 (n : Int) - 1) = ((2 ^ n - 1 : Nat) : Int):=by
    by_cases h64 : n = 64
    · subst h64; rfl
    · have hp : (2 : Nat) ^ n ≤ 2 ^ 63 := Nat.pow_le_pow_right (by omega) (by omega)
      have hp2 : (2 : Nat) ^ 63 = 9223372036854775808:=rfl
      have:=ishl_nat (a:=1) (i:=n) hn (by omega)
      rw [Nat.one_mul] at this
      rw [show ((1 : Nat) : Int) = 1 from rfl] at this
      rw [this,show ((2 ^ n : Nat) : Int) - 1 = ((2 ^ n - 1 : Nat) : Int) by omega]
      exact u64w _ (by omega)
  simp only [d_q017,go_sem,hneg,e]
end Go.Am
end
section
/- Faults on rows: what the program makes of them. -/
open Go
set_option linter.all false
namespace Go.Am
variable {h : Heap} {K : Post}
theorem set_app_get {h t : Heap} {id : Nat} (hid : id < h.length) (o : Obj) : (h.set id o ++ t)[id]? = some o:=by
  rw [List.getElem?_append_left (by simpa using hid)]; exact set_get' hid
theorem set_app_set {h t : Heap} {id : Nat} (hid : id < h.length) (o o' : Obj) : (h.set id o ++ t).set id o' = h.set id o' ++ t:=by
  rw [List.set_append_left _ _ (by simpa using hid),List.set_set]
theorem set_app_take {h t : Heap} {id : Nat} (o : Obj) : (h.set id o ++ t).take h.length = h.set id o:=by
  have : h.length = (h.set id o).length:=by simp
  rw [this,List.take_left]
theorem set_app_box {h : Heap} {id : Nat} (o b : Obj) : (h.set id o ++ [b])[h.length]? = some b:=by
  have : h.length = (h.set id o).length:=by simp
  rw [this,app_get0]; rfl
theorem fold_take {f : Nat → Int → Nat} {v : Nat} {l : List Int} {k : Nat} (hk : k < l.length) : (l.take (k + 1)).foldl f v = f ((l.take k).foldl f v) l[k]:=by
  rw [List.take_succ_eq_append_getElem hk,List.foldl_append]; rfl
theorem rowAt_get {r : List Nat} {n : Int} (h0 : 0 ≤ n) (h1 : n < r.length) : (r.map eU)[n.toNat]? = some (eU (rowAt r n)):=by
  rw [map_get eU (show n.toNat < r.length by omega)]
  unfold rowAt
  simp [List.getD_eq_getElem?_getD,List.getElem?_eq_getElem (show n.toNat < r.length by omega)]
def NetsIn (ns : List Int) (n : Nat) : Prop:=ns ≠ [] ∧ ns.length ≤ 1000 ∧ ∀ x ∈ ns,0 ≤ x ∧ x < n
theorem with_k5 (f : Flt) (r : List Nat) (v : Nat) (hf : NetsIn f.nets r.length) {id : Nat} (hid : id < h.length) (hr : r.length ≤ 1000000) {K : Ex → St → Prop}
    (hK : ∀ e,K .normal ⟨e,h.set id (.row none ((setNs v f.nets r).map eU) 0) ++ [.box [AI f.kind,AL f.nets]],[]⟩) :
    d_q018_k5 (ACall X) X.gl p_q018_k4 (.own id r.length 0 r.length) (.ref h.length 0) (.p (eU v)) (h.set id (.row none (r.map eU) 0) ++ [.box [AI f.kind,AL f.nets]]) [] K:=by
  have sg:=fun o=>set_app_get (t:=[.box [AI f.kind,AL f.nets]]) hid o
  have ss:=fun o o'=>set_app_set (t:=[.box [AI f.kind,AL f.nets]]) hid o o'
  have sb:=fun o=>set_app_box (h:=h) (id:=id) o (.box [AI f.kind,AL f.nets])
  simp only [d_q018_k5,go_sem,sb]
  refine N_loop (fun k : Nat=>⟨[(0,.own id r.length 0 r.length),(6,.p (eU v)),(61,AL f.nets),(62,AI f.nets.length),(63,AI k)],h.set id (.row none ((setNs v (f.nets.take k) r).map eU) 0) ++ [.box [AI f.kind,AL f.nets]],[]⟩) (fun k=>k ≤ f.nets.length) (fun k=>f.nets.length - k) 0 rfl (by omega) ?_
  intro k hk
  rcases Nat.lt_or_ge k f.nets.length with hlt | hge
  · have hg := map_get eI hlt
    have hn:=hf.2.2 _ (List.getElem_mem hlt)
    have w2 : IntKind.i64.wrap ((k : Int) + 1) = ((k + 1 : Nat) : Int):=i64_wrap _ (by have:=hf.2.1; omega) (by have:=hf.2.1; omega)
    have e4:=natOf_int (k:=.i64) hn.1
    have hl:=setNs_len v (f.nets.take k) r
    have hs : setNs v (f.nets.take (k + 1)) r = (setNs v (f.nets.take k) r).set f.nets[k].toNat v:=by rw [List.take_succ_eq_append_getElem hlt,setNs_snoc]
    have hlt3 : f.nets[k].toNat < r.length:=by omega
    have gq : ((setNs v (f.nets.take k) r).map eU)[f.nets[k].toNat]? = some (eU ((setNs v (f.nets.take k) r).getD f.nets[k].toNat 0)):=by
      rw [map_get eU (by rw [hl]; exact hlt3)]
      simp [List.getD_eq_getElem?_getD,List.getElem?_eq_getElem (show f.nets[k].toNat < (setNs v (f.nets.take k) r).length by rw [hl]; exact hlt3)]
    generalize setNs v (f.nets.take k) r = R at *
    generalize f.nets[k] = m at *
    simp only [go_sem,hlt,hg,e4,sg,ss,hl,hlt3,w2,gq]
    refine ⟨k + 1,?_,by omega,by omega⟩
    rw [hs,List.map_set]
  · have ek : k = f.nets.length := by omega
    subst ek
    simp only [go_sem,Nat.lt_irrefl,List.take_length]
    exact hK _
attribute [-go_sem] d_q018_k5
theorem with_val (f : Flt) (r : List Nat) (hf : NetsIn f.nets r.length) {id : Nat} (hid : id < h.length) (hr : r.length ≤ 1000000) (hb : ∀ x ∈ r,x < 18446744073709551616) (ones : Nat) :
    ACall X f_q018 [.own id r.length 0 r.length,.p f.pv,.p (eU ones)] (h.set id (.row none (r.map eU) 0)) K = K (.tup []) (h.set id (.row none ((fwithN r f ones).map eU) 0)) []:=by
  refine rule ?_
  rw [c_q018]
  have sg:=fun (t : Heap) o=>set_app_get (t:=t) hid o
  have sb:=fun o c=>set_app_box (h:=h) (id:=id) o c
  have st:=fun (t : Heap) o=>set_app_take (h:=h) (id:=id) (t:=t) o
  have h0 : 0 < f.nets.length:=by have:=hf.1; exact List.length_pos_iff.2 this
  have hhd : f.nets.headD 0 ∈ f.nets:=by
    cases hq : f.nets with
    | nil=>rw [hq] at h0; cases h0
    | cons a l=>simp
  have hn:=hf.2.2 _ hhd
  have g0:=head_get h0
  have e4:=natOf_int (k:=.i64) hn.1
  have hlt3 : (f.nets.headD 0).toNat < r.length:=by omega
  have gq:=rowAt_get (r:=r) hn.1 hn.2
  have W:=fun v K hK=>with_k5 (h:=h) f r v hf hid hr (K:=K) hK
  have fin : ∀ v,(d_q018_k5 (ACall X) X.gl p_q018_k4 (.own id r.length 0 r.length) (.ref h.length 0) (.p (eU v)) (h.set id (.row none (r.map eU) 0) ++ [.box [AI f.kind,AL f.nets]]) [] (finR [] false h.length fun v1 h1 x1=>v1 = AV.tup [] ∧ h1 = h.set id (.row none ((fwithN r f ones).map eU) 0) ∧ x1 = [])) ∨ v ≠ fvalN r f ones:=by
    intro v
    by_cases hv : v = fvalN r f ones
    · left
      refine W v _ (fun e=>?_)
      subst hv
      simp only [go_sem,st]
      rfl
    · right; exact hv
  have fin2 : ∀ v,v = fvalN r f ones → d_q018_k5 (ACall X) X.gl p_q018_k4 (.own id r.length 0 r.length) (.ref h.length 0) (.p (eU v)) (h.set id (.row none (r.map eU) 0) ++ [.box [AI f.kind,AL f.nets]]) [] (finR [] false h.length fun v1 h1 x1=>v1 = AV.tup [] ∧ h1 = h.set id (.row none ((fwithN r f ones).map eU) 0) ∧ x1 = []):=fun v hv=>(fin v).resolve_right (fun h=>h hv)
  clear fin W
  have hbq : ∀ n,rowAt r n < 18446744073709551616:=rowAt_lt hb (by omega)
  by_cases k1 : f.kind = 1
  · simp only [d_q018, Flt.pv, go_sem, sg, sb, g0, e4, hlt3, gq, k1, List.length_set]
    simp only [k1] at fin2
    exact fin2 0 (by simp [fvalN,k1])
  by_cases k2 : f.kind = 2
  · simp only [d_q018, Flt.pv, go_sem, sg, sb, g0, e4, hlt3, gq, k2, List.length_set]
    simp only [k2] at fin2
    exact fin2 ones (by simp [fvalN,k2])
  by_cases k6 : f.kind = 6
  · simp only [d_q018, Flt.pv, go_sem, sg, sb, g0, e4, hlt3, gq, k6, List.length_set]
    simp only [k6] at fin2
    exact fin2 ones (by simp [fvalN,k6])
  by_cases k3 : f.kind = 3
  · simp only [d_q018, Flt.pv, go_sem, sg, sb, g0, e4, hlt3, gq, k3, List.length_set]
    refine N_loop (fun k : Nat=>⟨[(0,.own id r.length 0 r.length),(4,.ref h.length 0),(6,.p (eU ((f.nets.take k).foldl (fun v n=>v &&& rowAt r n) (rowAt r (f.nets.headD 0))))),(31,AL f.nets),(32,AI f.nets.length),(33,AI k)],h.set id (.row none (r.map eU) 0) ++ [.box [AI 3,AL f.nets]],[]⟩) (fun k=>k ≤ f.nets.length) (fun k=>f.nets.length - k) 0 rfl (by omega) ?_
    intro k hk
    rcases Nat.lt_or_ge k f.nets.length with hlt | hge
    · have hg := map_get eI hlt
      have hnk:=hf.2.2 _ (List.getElem_mem hlt)
      have w2 : IntKind.i64.wrap ((k : Int) + 1) = ((k + 1 : Nat) : Int):=i64_wrap _ (by have:=hf.2.1; omega) (by have:=hf.2.1; omega)
      have e5:=natOf_int (k:=.i64) hnk.1
      have gk:=rowAt_get (r:=r) hnk.1 hnk.2
      have hlt4 : (f.nets[k]).toNat < r.length:=by omega
      have hfo:=fold_take (f:=fun v n=>v &&& rowAt r n) (v:=rowAt r (f.nets.headD 0)) hlt
      have hbd : (f.nets.take k).foldl (fun v n=>v &&& rowAt r n) (rowAt r (f.nets.headD 0)) < 18446744073709551616:=foldl_bdN (f:=(· &&& ·)) (fun a b ha hb=>by rw [← pow64] at *; exact Nat.lt_of_le_of_lt Nat.and_le_left ha) (rowAt r) hbq _ _ (hbq _)
      generalize (f.nets.take k).foldl (fun v n=>v &&& rowAt r n) (rowAt r (f.nets.headD 0)) = v at *
      have e6:=iand_nat hbd (hbq f.nets[k])
      generalize f.nets[k] = m at *
      simp only [go_sem,hlt,hg,sg,e5,gk,hlt4,e6,w2]
      exact ⟨k + 1,by rw [hfo],by omega,by omega⟩
    · have ek : k = f.nets.length := by omega
      subst ek
      simp only [go_sem,Nat.lt_irrefl,List.take_length]
      simp only [k3] at fin2
      exact fin2 _ (by simp [fvalN,k3])
  by_cases k4 : f.kind = 4
  · simp only [d_q018, Flt.pv, go_sem, sg, sb, g0, e4, hlt3, gq, k4, List.length_set]
    refine N_loop (fun k : Nat=>⟨[(0,.own id r.length 0 r.length),(4,.ref h.length 0),(6,.p (eU ((f.nets.take k).foldl (fun v n=>v ||| rowAt r n) (rowAt r (f.nets.headD 0))))),(47,AL f.nets),(48,AI f.nets.length),(49,AI k)],h.set id (.row none (r.map eU) 0) ++ [.box [AI 4,AL f.nets]],[]⟩) (fun k=>k ≤ f.nets.length) (fun k=>f.nets.length - k) 0 rfl (by omega) ?_
    intro k hk
    rcases Nat.lt_or_ge k f.nets.length with hlt | hge
    · have hg := map_get eI hlt
      have hnk:=hf.2.2 _ (List.getElem_mem hlt)
      have w2 : IntKind.i64.wrap ((k : Int) + 1) = ((k + 1 : Nat) : Int):=i64_wrap _ (by have:=hf.2.1; omega) (by have:=hf.2.1; omega)
      have e5:=natOf_int (k:=.i64) hnk.1
      have gk:=rowAt_get (r:=r) hnk.1 hnk.2
      have hlt4 : (f.nets[k]).toNat < r.length:=by omega
      have hfo:=fold_take (f:=fun v n=>v ||| rowAt r n) (v:=rowAt r (f.nets.headD 0)) hlt
      have hbd : (f.nets.take k).foldl (fun v n=>v ||| rowAt r n) (rowAt r (f.nets.headD 0)) < 18446744073709551616:=foldl_bdN (f:=(· ||| ·)) (fun a b ha hb=>by rw [← pow64] at *; exact Nat.or_lt_two_pow ha hb) (rowAt r) hbq _ _ (hbq _)
      generalize (f.nets.take k).foldl (fun v n=>v ||| rowAt r n) (rowAt r (f.nets.headD 0)) = v at *
      have e6:=ior_nat hbd (hbq f.nets[k])
      generalize f.nets[k] = m at *
      simp only [go_sem,hlt,hg,sg,e5,gk,hlt4,e6,w2]
      exact ⟨k + 1,by rw [hfo],by omega,by omega⟩
    · have ek : k = f.nets.length := by omega
      subst ek
      simp only [go_sem,Nat.lt_irrefl,List.take_length]
      simp only [k4] at fin2
      exact fin2 _ (by simp [fvalN,k4])
  · simp only [d_q018, Flt.pv, go_sem, sg, sb, g0, e4, hlt3, gq, k1, k2, k3, k4, k6, List.length_set]
    exact fin2 _ (by simp [fvalN,k1,k2,k3,k4,k6])
end Go.Am
end
section
/- Rows that are handed to a function: it sees their values. -/
open Go
namespace Go.Am
theorem arg_pur {X : Ctx} {f : Nat} {F : AFun} {a : List AV} {vs : List PV} {h h1 : Heap} {P : Post} (hf : X.fn f = some F) (hr : F.byref = false) (hp : puras h a = some (vs.map .p,h1)) (hq : puras h1 (vs.map .p) = some (vs.map .p,h1)) (hl : vs.length = F.nparams) (hlen : h1.length = h.length) : ACall X f a h P = ACall X f (vs.map .p) h1 P:=by
  cases hd : F.isDet with
  | false=>rw [call_val hf hr hp (by simpa using hl) hd,call_val hf hr hq (by simpa using hl) hd,hlen]
  | true=>rw [call_val_det hf hr hp (by simpa using hl) hd,call_val_det hf hr hq (by simpa using hl) hd,hlen]
theorem frz_len {h : Heap} {id k : Nat} : (frz h id k).length = h.length:=by
  unfold frz
  split <;> simp
end Go.Am
end
