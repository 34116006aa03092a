/- Texts of the proof, laid together: CodesC, CodesD. -/
import Derived.KernelRfl
import Derived.Test.YtdjkfcdognndjaaGreatDoorlawFA5
set_option linter.all false
section
/- The functions asv abstract code,and asv formulas over their values: printed by program out of the translation. -/
set_option linter.unusedVariables false
set_option maxRecDepth 100000
namespace Go.Am
def P_q049 : ACode:=(.seq (rg [mV 4 (cI 0)] [0,1])
(.seq (rg [mV 5 1,
mV 6 0,
mV 7 1,
lN 8 7,
cL 9 f_q047 [6,8],
iA 10 none 5 9,
lD 11 none 10,
mV 4 11] [4])
.ret))
def a_q049 : AFun:=⟨2,[.t 4],P_q049,false,false⟩
def d_q049 (C : Hd) (gl : GL) (v0 v1 : AV) (h : Heap) (x : Esc) (K : KT) : Prop:=
 pK (oLen v1) fun t1=>
 C f_q047 [v0,t1] h fun t2 h3 y4=>
 pK (oIaddr none v1 t2 h3) fun t5=>
 pK (oLoad none t5 h3) fun t6=>
 K .ret ⟨[(4,t6)],h3,(y4 ++ x)⟩
theorem e_q049 {C gl v0 v1 h x K} : NW C gl a_q049.body ⟨enter [v0,v1],h,x⟩ K = d_q049 C gl v0 v1 h x K:=by kernel_rfl
def P_q045 : ACode:=(.seq (rg [mV 4 cF] [0,1])
(.seq (rg [mV 5 0,
mV 6 1,
cL 7 f_q047 [5,6],
bN 8 .eql 7 (cI 0),
mV 4 8] [4])
.ret))
def a_q045 : AFun:=⟨2,[.t 4],P_q045,false,false⟩
def d_q045 (C : Hd) (gl : GL) (v0 v1 : AV) (h : Heap) (x : Esc) (K : KT) : Prop:=
 C f_q047 [v0,v1] h fun t1 h2 y3=>
 pK (oBin .eql t1 (AI 0)) fun t4=>
 K .ret ⟨[(4,t4)],h2,(y3 ++ x)⟩
theorem e_q045 {C gl v0 v1 h x K} : NW C gl a_q045.body ⟨enter [v0,v1],h,x⟩ K = d_q045 C gl v0 v1 h x K:=by kernel_rfl
def P_q04g : ACode:=(.seq (rg [mV 4 (cS [])] [0,1])
(.seq (rg [mV 5 1,
mV 6 0,
mV 7 1,
lN 8 7,
cL 9 f_q047 [6,8],
iA 10 none 5 9,
lD 11 none 10,
mV 4 11] [4])
.ret))
def a_q04g : AFun:=⟨2,[.t 4],P_q04g,false,false⟩
def d_q04g (C : Hd) (gl : GL) (v0 v1 : AV) (h : Heap) (x : Esc) (K : KT) : Prop:=
 pK (oLen v1) fun t1=>
 C f_q047 [v0,t1] h fun t2 h3 y4=>
 pK (oIaddr none v1 t2 h3) fun t5=>
 pK (oLoad none t5 h3) fun t6=>
 K .ret ⟨[(4,t6)],h3,(y4 ++ x)⟩
theorem e_q04g {C gl v0 v1 h x K} : NW C gl a_q04g.body ⟨enter [v0,v1],h,x⟩ K = d_q04g C gl v0 v1 h x K:=by kernel_rfl
def P_q048 : ACode:=(.seq (rg [mV 6 (cI 0)] [0,1,2])
(.seq (.seq (rg [mV 7 0,
cL 8 f_q045 [7,(cI 12)]] [0,1,2,8])
(.cond 8 (.seq (rg [mV 9 0,
mV 10 1,
bN 11 .sub 10 (cI 1),
mV 12 2,
bN 13 .add 12 (cI 1),
mV 14 1,
mV 15 2,
uO 16 (.bsl false none 6 (.int .i64 0) [(0,11),(1,13),(2,14),(3,15),(4,(cI (-1099511627776))),(5,(cI 1099511627776))]),
cL 17 f_q049 [9,16],
mV 6 17] [6])
.ret)
.skip))
(.seq (rg [mV 18 0,
mV 19 1,
mV 20 2,
cL 21 f_q04a [18,19,20],
mV 6 21] [6])
.ret)))
def a_q048 : AFun:=⟨3,[.t 6],P_q048,false,false⟩
def d_q048 (C : Hd) (gl : GL) (v0 v1 v2 : AV) (h : Heap) (x : Esc) (K : KT) : Prop:=
 C f_q045 [v0,(AI 12)] h fun t1 h2 y3=>
 condB t1 (pK (oBin .sub v1 (AI 1)) fun t4=>
 pK (oBin .add v2 (AI 1)) fun t5=>
 wK (oBsl false none 6 (.int .i64 0) [(0,t4),(1,t5),(2,v1),(3,v2),(4,(AI (-1099511627776))),(5,(AI 1099511627776))] h2) fun t6 h7 y8=>
 C f_q049 [v0,t6] h7 fun t9 h10 y11=>
 K .ret ⟨[(6,t9)],h10,(y11 ++ (y8 ++ (y3 ++ x)))⟩)
 (C f_q04a [v0,v1,v2] h2 fun t12 h13 y14=>
 K .ret ⟨[(6,t12)],h13,(y14 ++ (y3 ++ x))⟩)
theorem e_q048 {C gl v0 v1 v2 h x K} : NW C gl a_q048.body ⟨enter [v0,v1,v2],h,x⟩ K = d_q048 C gl v0 v1 v2 h x K:=by kernel_rfl
def P_q04p : ACode:=(.seq (rg [mV 2 cF] [0])
(.seq (rg [mV 3 0,
uO 4 (.lens 3),
cL 5 f_q05a [4,(cI 1),(cI 40)],
mV 6 5,
gD 7 6 true (.mv 0),
gD 8 6 true (.slstr 7 none (some (cI 1))),
gD 9 6 true (.call f_q05b [8,(cS [97,98,99,100,101,102,103,104,105,106,107,108,109,110,111,112,113,114,115,116,117,118,119,120,121,122])]),
uO 10 (.pick 6 9 cF),
mV 11 10,
gD 12 11 true (.mv 0),
gD 13 11 true (.call f_q05b [12,(cS [97,98,99,100,101,102,103,104,105,106,107,108,109,110,111,112,113,114,115,116,117,118,119,120,121,122,48,49,50,51,52,53,54,55,56,57,45,95])]),
uO 14 (.pick 11 13 cF),
mV 2 14] [2])
.ret))
def a_q04p : AFun:=⟨1,[.t 2],P_q04p,false,false⟩
def d_q04p (C : Hd) (gl : GL) (v0 : AV) (h : Heap) (x : Esc) (K : KT) : Prop:=
 pK (oLens v0) fun t1=>
 C f_q05a [t1,(AI 1),(AI 40)] h fun t2 h3 y4=>
 gM t2 true v0 h3 fun t5 h6 y7=>
 gP t2 true (oSlstr t5 none (some (AI 1))) h6 fun t8 h9 y10=>
 gV t2 true h9 (C f_q05b [t8,(.p (.str [97,98,99,100,101,102,103,104,105,106,107,108,109,110,111,112,113,114,115,116,117,118,119,120,121,122]))] h9) fun t11 h12 y13=>
 pK (oPick t2 t11 (AB false)) fun t14=>
 gM t14 true v0 h12 fun t15 h16 y17=>
 gV t14 true h16 (C f_q05b [t15,(.p (.str [97,98,99,100,101,102,103,104,105,106,107,108,109,110,111,112,113,114,115,116,117,118,119,120,121,122,48,49,50,51,52,53,54,55,56,57,45,95]))] h16) fun t18 h19 y20=>
 pK (oPick t14 t18 (AB false)) fun t21=>
 K .ret ⟨[(2,t21)],h19,(y20 ++ (y17 ++ (y13 ++ (y10 ++ (y7 ++ (y4 ++ x))))))⟩
theorem e_q04p {C gl v0 h x K} : NW C gl a_q04p.body ⟨enter [v0],h,x⟩ K = d_q04p C gl v0 h x K:=by kernel_rfl
def P_q04z : ACode:=(.seq (rg [uO 3 (.box 1),
mV 4 (cI 0)] [0,3])
(.seq (rg [mV 5 0,
uO 6 (.mkfn f_q050 [3]),
cL 7 f_q068 [5,6],
mV 4 7] [4])
.ret))
def a_q04z : AFun:=⟨2,[.t 4],P_q04z,false,false⟩
def d_q04z (C : Hd) (gl : GL) (v0 v1 : AV) (h : Heap) (x : Esc) (K : KT) : Prop:=
 wK (oBox v1 h) fun t1 h2 y3=>
 C f_q068 [v0,(.fn f_q050 [t1])] h2 fun t4 h5 y6=>
 K .ret ⟨[(4,t4)],h5,(y6 ++ (y3 ++ x))⟩
theorem e_q04z {C gl v0 v1 h x K} : NW C gl a_q04z.body ⟨enter [v0,v1],h,x⟩ K = d_q04z C gl v0 v1 h x K:=by kernel_rfl
def P_q05a : ACode:=(.seq (rg [mV 6 cF] [0,1,2])
(.seq (rg [mV 7 1,
mV 8 0,
bN 9 .leq 7 8,
mV 10 9,
gD 11 10 true (.mv 0),
gD 12 10 true (.mv 2),
gD 13 10 true (.bin .leq 11 12),
uO 14 (.pick 10 13 cF),
mV 6 14] [6])
.ret))
def a_q05a : AFun:=⟨3,[.t 6],P_q05a,false,false⟩
def d_q05a (C : Hd) (gl : GL) (v0 v1 v2 : AV) (h : Heap) (x : Esc) (K : KT) : Prop:=
 pK (oBin .leq v1 v0) fun t1=>
 gM t1 true v0 h fun t2 h3 y4=>
 gM t1 true v2 h3 fun t5 h6 y7=>
 gP t1 true (oBin .leq t2 t5) h6 fun t8 h9 y10=>
 pK (oPick t1 t8 (AB false)) fun t11=>
 K .ret ⟨[(6,t11)],h9,(y10 ++ (y7 ++ (y4 ++ x)))⟩
theorem e_q05a {C gl v0 v1 v2 h x K} : NW C gl a_q05a.body ⟨enter [v0,v1,v2],h,x⟩ K = d_q05a C gl v0 v1 v2 h x K:=by kernel_rfl
def P_q04c : ACode:=(.seq (rg [uO 2 (.box 0),
uO 3 (.box 1),
mV 4 (cI 0)] [2,3])
(.seq (dr [dF (fA 5 1 none 2) [2],
dF (lD 6 none 5) [5],
dF (fA 7 1 none 3) [3],
dF (lD 8 none 7) [7],
dT (cL 9 f_q00s [6,8]) [6,8],
dF (fA 10 0 none 2) [2],
dA (lD 11 none 10) [10] false [4] [],
dF (fA 12 0 none 3) [3],
dA (lD 13 none 12) [12] false [4] [],
dT (cL 14 f_q08u [11,13]) [11,13],
dF (uO 15 (.bsl false none 2 (.int .i64 0) [(0,9),(1,14)])) [9,14],
dT (cL 16 f_q00v [15]) [15],
dF (mV 4 16) [16]] [4])
.ret))
def a_q04c : AFun:=⟨2,[.t 4],P_q04c,false,false⟩
def d_q04c (C : Hd) (gl : GL) (v0 v1 : AV) (h : Heap) (x : Esc) (K : KT) : Prop:=
 wK (oBox v0 h) fun t1 h2 y3=>
 wK (oBox v1 h2) fun t4 h5 y6=>
 pK (oFaddr 1 none t1) fun t7=>
 pK (oLoad none t7 h5) fun t8=>
 pK (oFaddr 1 none t4) fun t9=>
 pK (oLoad none t9 h5) fun t10=>
 callE C f_q00s [t8,t10] h5 fun t11 h12 y13=>
 pK (oFaddr 0 none t1) fun t14=>
 pK (oLoad none t14 h12) fun t15=>
 (pK (oLoad none t14 h5) fun v=>(fun u (g1 : Heap) (y1 : Esc)=>u = t15 ∧ g1 = h5 ∧ y1 = []) v h5 []) ∧ (pK (oFaddr 0 none t4) fun t16=>
 pK (oLoad none t16 h12) fun t17=>
 (pK (oLoad none t16 h5) fun v=>(fun u (g1 : Heap) (y1 : Esc)=>u = t17 ∧ g1 = h5 ∧ y1 = []) v h5 []) ∧ (callE C f_q08u [t15,t17] h12 fun t18 h19 y20=>
 wK (oBsl false none 2 (.int .i64 0) [(0,t11),(1,t18)] h19) fun t21 h22 y23=>
 (h22 = h19 ∧ y23 = []) ∧ (callE C f_q00v [t21] h22 fun t24 h25 y26=>
 K .ret ⟨[(4,t24)],h25,(y26 ++ (y23 ++ (y20 ++ (y13 ++ (y6 ++ (y3 ++ x))))))⟩)))
theorem e_q04c {C gl v0 v1 h x K} : NW C gl a_q04c.body ⟨enter [v0,v1],h,x⟩ K = d_q04c C gl v0 v1 h x K:=by kernel_rfl
def p_q00v_k1 : ACode:=.pr [3,6,7,8] (.seq (rg [bN 9 .lss 8 7] [3,6,7,8,9])
(.seq (.cond 9 .skip
(.exit 0))
(.seq (.block 1 (.seq (rg [iA 10 none 6 8,
lD 11 none 10,
mV 5 11] [3,5,6,7,8])
(.seq (rg [mV 12 5,
mV 13 3,
bN 14 .neq 12 13] [3,5,6,7,8,14])
(.cond 14 (.seq (rg [mV 15 5,
mV 2 15] [2])
.ret)
.skip))))
(rg [bN 16 .add 8 (cI 1),
mV 8 16] [3,6,7,8]))))
def d_q00v_k1 (C : Hd) (gl : GL) (v3 v6 v7 v8 : AV) (h : Heap) (x : Esc) (K : KT) : Prop:=
 pK (oBin .lss v8 v7) fun t1=>
 condB t1 (pK (oIaddr none v6 v8 h) fun t2=>
 pK (oLoad none t2 h) fun t3=>
 pK (oBin .neq t3 v3) fun t4=>
 condB t4 (K .ret ⟨[(2,t3)],h,x⟩)
 (pK (oBin .add v8 (AI 1)) fun t5=>
 K .normal ⟨[(3,v3),(6,v6),(7,v7),(8,t5)],h,x⟩))
 (K (.exit 0) ⟨[(3,v3),(6,v6),(7,v7),(8,v8),(9,t1)],h,x⟩)
theorem e_q00v_k1 {C gl e h x K} : NW C gl p_q00v_k1 ⟨e,h,x⟩ K = d_q00v_k1 C gl (aget e 3) (aget e 6) (aget e 7) (aget e 8) h x K:=by kernel_rfl
theorem l_q00v_k1 {C gl e h x K} : NW C gl (.loop p_q00v_k1) ⟨e,h,x⟩ K = NLoop C gl p_q00v_k1 K [(3,aget e 3),(6,aget e 6),(7,aget e 7),(8,aget e 8)] h x:=NLoop_pr
def p_q00v_k2 : ACode:=.pr [3] (.seq (rg [mV 17 3,
mV 2 17] [2])
.ret)
def d_q00v_k2 (C : Hd) (gl : GL) (v3 : AV) (h : Heap) (x : Esc) (K : KT) : Prop:=
 K .ret ⟨[(2,v3)],h,x⟩
theorem e_q00v_k2 {C gl e h x K} : NW C gl p_q00v_k2 ⟨e,h,x⟩ K = d_q00v_k2 C gl (aget e 3) h x K:=by kernel_rfl
def P_q00v (q1 q2 : ACode) : ACode:=(.seq (rg [mV 2 (cI 0)] [0])
(.seq (rg [mV 3 (cI 0)] [0,3])
(.seq (.seq (rg [mV 6 0,
lN 7 6,
mV 8 (cI 0)] [3,6,7,8])
(.block 0 (.loop q1)))
q2)))
def a_q00v : AFun:=⟨1,[.t 2],P_q00v p_q00v_k1 p_q00v_k2,false,false⟩
def d_q00v (C : Hd) (gl : GL) (q1 q2 : ACode) (v0 : AV) (h : Heap) (x : Esc) (K : KT) : Prop:=
 pK (oLen v0) fun t1=>
 NW C gl (.loop q1) ⟨[(3,(AI 0)),(6,v0),(7,t1),(8,(AI 0))],h,x⟩ (blockN 0 (seqN C gl q2 K))
theorem E_q00v {C gl q1 q2 v0 h x K} : NW C gl (P_q00v q1 q2) ⟨enter [v0],h,x⟩ K = d_q00v C gl q1 q2 v0 h x K:=by kernel_rfl
theorem e_q00v {C gl v0 h x K} : NW C gl a_q00v.body ⟨enter [v0],h,x⟩ K = d_q00v C gl p_q00v_k1 p_q00v_k2 v0 h x K:=E_q00v
def P_q08u : ACode:=(.seq (rg [mV 4 (cI 0)] [0,1])
(.seq (rg [mV 5 0,
mV 6 1,
cL 7 f_q01d [5,6],
mV 4 7] [4])
.ret))
def a_q08u : AFun:=⟨2,[.t 4],P_q08u,false,false⟩
def d_q08u (C : Hd) (gl : GL) (v0 v1 : AV) (h : Heap) (x : Esc) (K : KT) : Prop:=
 C f_q01d [v0,v1] h fun t1 h2 y3=>
 K .ret ⟨[(4,t1)],h2,(y3 ++ x)⟩
theorem e_q08u {C gl v0 v1 h x K} : NW C gl a_q08u.body ⟨enter [v0,v1],h,x⟩ K = d_q08u C gl v0 v1 h x K:=by kernel_rfl
def P_q04d : ACode:=(.seq (rg [uO 2 (.box 0),
uO 3 (.box 1),
mV 4 cF] [2,3])
(.seq (rg [fA 5 1 none 2,
lD 6 none 5,
fA 7 1 none 3,
lD 8 none 7,
bN 9 .eql 6 8,
mV 10 9,
gD 11 10 true (.faddr 0 none 2),
gD 12 10 true (.load none 11),
gD 13 10 true (.faddr 0 none 3),
gD 14 10 true (.load none 13),
gD 15 10 true (.bin .eql 12 14),
uO 16 (.pick 10 15 cF),
mV 4 16] [4])
.ret))
def a_q04d : AFun:=⟨2,[.t 4],P_q04d,false,false⟩
def d_q04d (C : Hd) (gl : GL) (v0 v1 : AV) (h : Heap) (x : Esc) (K : KT) : Prop:=
 wK (oBox v0 h) fun t1 h2 y3=>
 wK (oBox v1 h2) fun t4 h5 y6=>
 pK (oFaddr 1 none t1) fun t7=>
 pK (oLoad none t7 h5) fun t8=>
 pK (oFaddr 1 none t4) fun t9=>
 pK (oLoad none t9 h5) fun t10=>
 pK (oBin .eql t8 t10) fun t11=>
 gP t11 true (oFaddr 0 none t1) h5 fun t12 h13 y14=>
 gP t11 true (oLoad none t12 h13) h13 fun t15 h16 y17=>
 gP t11 true (oFaddr 0 none t4) h16 fun t18 h19 y20=>
 gP t11 true (oLoad none t18 h19) h19 fun t21 h22 y23=>
 gP t11 true (oBin .eql t15 t21) h22 fun t24 h25 y26=>
 pK (oPick t11 t24 (AB false)) fun t27=>
 K .ret ⟨[(4,t27)],h25,(y26 ++ (y23 ++ (y20 ++ (y17 ++ (y14 ++ (y6 ++ (y3 ++ x)))))))⟩
theorem e_q04d {C gl v0 v1 h x K} : NW C gl a_q04d.body ⟨enter [v0,v1],h,x⟩ K = d_q04d C gl v0 v1 h x K:=by kernel_rfl
def P_q05f : ACode:=(.seq (rg [uO 3 (.box 1),
mV 4 (cI 0)] [0,3])
(.seq (.block 0 (.seq (rg [fA 8 0 none 3,
lD 9 none 8,
cL 10 f_q04p [9],
uO 11 (.un .not 10),
mV 12 11,
gD 13 12 false (.faddr 2 none 3),
gD 14 12 false (.load none 13),
gD 15 12 false (.call f_q04p [14]),
gD 16 12 false (.un .not 15),
uO 17 (.pick 12 cT 16),
mV 7 17] [0,3,7])
(.cond 7 (.seq (rg [mV 4 (cI 5)] [4])
.ret)
(.seq (rg [fA 19 1 none 3,
lD 20 none 19,
cL 21 f_q04s [20],
uO 22 (.un .not 21),
mV 18 22] [0,3,18])
(.cond 18 (.seq (rg [mV 4 (cI 1)] [4])
.ret)
(.seq (rg [fA 24 3 none 3,
lD 25 none 24,
cL 26 f_q05w [25,(.f f_q05g)],
mV 23 26] [0,3,23])
(.cond 23 (.seq (rg [mV 4 (cI 1)] [4])
.ret)
.skip)))))))
(.seq (rg [fA 27 3 none 3,
lD 28 none 27,
lN 29 28,
mV 5 29] [0,3,5])
(.seq (.seq (rg [mV 30 0,
fA 31 3 none 3,
lD 32 none 31,
cL 33 f_q059 [30,32],
mV 6 33] [0,5,6])
(.seq (rg [mV 34 5,
mV 35 0,
lN 36 35,
cL 37 f_q05a [34,(cI 1),36],
uO 38 (.un .not 37),
mV 39 38,
gD 40 39 false (.mv 6),
gD 41 39 false (.bin .geq 40 (cI 0)),
gD 42 39 false (.mv 41),
gD 43 42 true (.mv 6),
gD 44 42 true (.mv 5),
gD 45 42 true (.bin .sub 44 (cI 1)),
gD 46 42 true (.bin .neq 43 45),
gD 47 39 false (.pick 42 46 cF),
uO 48 (.pick 39 cT 47),
mV 49 48,
gD 50 49 false (.mv 6),
gD 51 49 false (.bin .lss 50 (cI 0)),
gD 52 49 false (.mv 51),
gD 53 52 true (.mv 5),
gD 54 52 true (.mv 0),
gD 55 52 true (.len 54),
gD 56 52 true (.bin .neq 53 55),
gD 57 49 false (.pick 52 56 cF),
uO 58 (.pick 49 cT 57)] [58])
(.cond 58 (.seq (rg [mV 4 (cI 3)] [4])
.ret)
.skip)))
(.seq (rg [mV 4 (cI 0)] [4])
.ret)))))
def a_q05f : AFun:=⟨2,[.t 4],P_q05f,false,false⟩
def d_q05f (C : Hd) (gl : GL) (v0 v1 : AV) (h : Heap) (x : Esc) (K : KT) : Prop:=
 wK (oBox v1 h) fun t1 h2 y3=>
 pK (oFaddr 0 none t1) fun t4=>
 pK (oLoad none t4 h2) fun t5=>
 C f_q04p [t5] h2 fun t6 h7 y8=>
 pK (oUn .not t6) fun t9=>
 gP t9 false (oFaddr 2 none t1) h7 fun t10 h11 y12=>
 gP t9 false (oLoad none t10 h11) h11 fun t13 h14 y15=>
 gV t9 false h14 (C f_q04p [t13] h14) fun t16 h17 y18=>
 gP t9 false (oUn .not t16) h17 fun t19 h20 y21=>
 pK (oPick t9 (AB true) t19) fun t22=>
 condB t22 (K .ret ⟨[(4,(AI 5))],h20,(y21 ++ (y18 ++ (y15 ++ (y12 ++ (y8 ++ (y3 ++ x))))))⟩)
 (pK (oFaddr 1 none t1) fun t23=>
 pK (oLoad none t23 h20) fun t24=>
 C f_q04s [t24] h20 fun t25 h26 y27=>
 pK (oUn .not t25) fun t28=>
 condB t28 (K .ret ⟨[(4,(AI 1))],h26,(y27 ++ (y21 ++ (y18 ++ (y15 ++ (y12 ++ (y8 ++ (y3 ++ x)))))))⟩)
 (pK (oFaddr 3 none t1) fun t29=>
 pK (oLoad none t29 h26) fun t30=>
 C f_q05w [t30,(.fn f_q05g [])] h26 fun t31 h32 y33=>
 condB t31 (K .ret ⟨[(4,(AI 1))],h32,(y33 ++ (y27 ++ (y21 ++ (y18 ++ (y15 ++ (y12 ++ (y8 ++ (y3 ++ x))))))))⟩)
 (pK (oFaddr 3 none t1) fun t34=>
 pK (oLoad none t34 h32) fun t35=>
 pK (oLen t35) fun t36=>
 pK (oFaddr 3 none t1) fun t37=>
 pK (oLoad none t37 h32) fun t38=>
 C f_q059 [v0,t38] h32 fun t39 h40 y41=>
 pK (oLen v0) fun t42=>
 C f_q05a [t36,(AI 1),t42] h40 fun t43 h44 y45=>
 pK (oUn .not t43) fun t46=>
 gM t46 false t39 h44 fun t47 h48 y49=>
 gP t46 false (oBin .geq t47 (AI 0)) h48 fun t50 h51 y52=>
 gM t46 false t50 h51 fun t53 h54 y55=>
 gM t53 true t39 h54 fun t56 h57 y58=>
 gM t53 true t36 h57 fun t59 h60 y61=>
 gP t53 true (oBin .sub t59 (AI 1)) h60 fun t62 h63 y64=>
 gP t53 true (oBin .neq t56 t62) h63 fun t65 h66 y67=>
 gP t46 false (oPick t53 t65 (AB false)) h66 fun t68 h69 y70=>
 pK (oPick t46 (AB true) t68) fun t71=>
 gM t71 false t39 h69 fun t72 h73 y74=>
 gP t71 false (oBin .lss t72 (AI 0)) h73 fun t75 h76 y77=>
 gM t71 false t75 h76 fun t78 h79 y80=>
 gM t78 true t36 h79 fun t81 h82 y83=>
 gM t78 true v0 h82 fun t84 h85 y86=>
 gP t78 true (oLen t84) h85 fun t87 h88 y89=>
 gP t78 true (oBin .neq t81 t87) h88 fun t90 h91 y92=>
 gP t71 false (oPick t78 t90 (AB false)) h91 fun t93 h94 y95=>
 pK (oPick t71 (AB true) t93) fun t96=>
 condB t96 (K .ret ⟨[(4,(AI 3))],h94,(y95 ++ (y92 ++ (y89 ++ (y86 ++ (y83 ++ (y80 ++ (y77 ++ (y74 ++ (y70 ++ (y67 ++ (y64 ++ (y61 ++ (y58 ++ (y55 ++ (y52 ++ (y49 ++ (y45 ++ (y41 ++ (y33 ++ (y27 ++ (y21 ++ (y18 ++ (y15 ++ (y12 ++ (y8 ++ (y3 ++ x))))))))))))))))))))))))))⟩)
 (K .ret ⟨[(4,(AI 0))],h94,(y95 ++ (y92 ++ (y89 ++ (y86 ++ (y83 ++ (y80 ++ (y77 ++ (y74 ++ (y70 ++ (y67 ++ (y64 ++ (y61 ++ (y58 ++ (y55 ++ (y52 ++ (y49 ++ (y45 ++ (y41 ++ (y33 ++ (y27 ++ (y21 ++ (y18 ++ (y15 ++ (y12 ++ (y8 ++ (y3 ++ x))))))))))))))))))))))))))⟩))))
theorem e_q05f {C gl v0 v1 h x K} : NW C gl a_q05f.body ⟨enter [v0,v1],h,x⟩ K = d_q05f C gl v0 v1 h x K:=by kernel_rfl
def P_q05h : ACode:=(.seq (rg [uO 2 (.box 0),
uO 3 (.box 1),
mV 4 (cI 0)] [2,3])
(.seq (.seq (rg [fA 5 1 none 2,
lD 6 none 5,
fA 7 1 none 3,
lD 8 none 7,
bN 9 .neq 6 8] [2,3,9])
(.cond 9 (.seq (rg [fA 10 1 none 2,
lD 11 none 10,
fA 12 1 none 3,
lD 13 none 12,
bN 14 .sub 11 13,
cL 15 f_q05k [14],
mV 4 15] [4])
.ret)
.skip))
(.seq (rg [fA 16 0 none 2,
lD 17 none 16,
fA 18 0 none 3,
lD 19 none 18,
cL 20 f_q08u [17,19],
mV 4 20] [4])
.ret)))
def a_q05h : AFun:=⟨2,[.t 4],P_q05h,false,false⟩
def d_q05h (C : Hd) (gl : GL) (v0 v1 : AV) (h : Heap) (x : Esc) (K : KT) : Prop:=
 wK (oBox v0 h) fun t1 h2 y3=>
 wK (oBox v1 h2) fun t4 h5 y6=>
 pK (oFaddr 1 none t1) fun t7=>
 pK (oLoad none t7 h5) fun t8=>
 pK (oFaddr 1 none t4) fun t9=>
 pK (oLoad none t9 h5) fun t10=>
 pK (oBin .neq t8 t10) fun t11=>
 condB t11 (pK (oFaddr 1 none t1) fun t12=>
 pK (oLoad none t12 h5) fun t13=>
 pK (oFaddr 1 none t4) fun t14=>
 pK (oLoad none t14 h5) fun t15=>
 pK (oBin .sub t13 t15) fun t16=>
 C f_q05k [t16] h5 fun t17 h18 y19=>
 K .ret ⟨[(4,t17)],h18,(y19 ++ (y6 ++ (y3 ++ x)))⟩)
 (pK (oFaddr 0 none t1) fun t20=>
 pK (oLoad none t20 h5) fun t21=>
 pK (oFaddr 0 none t4) fun t22=>
 pK (oLoad none t22 h5) fun t23=>
 C f_q08u [t21,t23] h5 fun t24 h25 y26=>
 K .ret ⟨[(4,t24)],h25,(y26 ++ (y6 ++ (y3 ++ x)))⟩)
theorem e_q05h {C gl v0 v1 h x K} : NW C gl a_q05h.body ⟨enter [v0,v1],h,x⟩ K = d_q05h C gl v0 v1 h x K:=by kernel_rfl
def p_q023_k1 : ACode:=.pr [0,13,14,15] (.seq (rg [bN 16 .lss 15 14] [0,13,14,15,16])
(.seq (.cond 16 .skip
(.exit 1))
(.seq (.block 2 (.seq (rg [mV 17 15,
iA 18 (some 4) 13 15,
lD 19 (some 4) 18,
uO 4 (.alloc [.p (.str []),.p (.int .i64 0),.p (.int .i64 0),.p (.int .i64 0)]),
mV 3 17,
wO (.store (some 4) 4 19)] [0,3,4,13,14,15])
(.block 3 (.seq (rg [fA 21 0 none 4,
lD 22 none 21,
cL 23 f_q006 [22],
uO 24 (.un .not 23),
mV 20 24] [0,3,4,13,14,15,20])
(.cond 20 (.seq (rg [mV 2 (cI 5)] [2])
.ret)
(.seq (dr [dF (mV 26 0) [0],
dF (mV 27 3) [3],
dF (uO 28 (.slice (some 4) 26 none (some 27) none)) [26,27],
dF (fA 29 0 none 4) [4],
dF (lD 30 none 29) [29],
dT (cL 31 f_q02s [28,30]) [28,30],
dF (bN 32 .geq 31 (cI 0)) [31],
dF (mV 25 32) [32]] [0,4,13,14,15,25])
(.cond 25 (.seq (rg [mV 2 (cI 6)] [2])
.ret)
(.seq (rg [fA 34 1 none 4,
lD 35 none 34,
fA 36 2 none 4,
lD 37 none 36,
cL 38 f_q008 [35,(cI (-100000)),37],
mV 39 38,
gD 40 39 false (.faddr 2 none 4),
gD 41 39 false (.load none 40),
gD 42 39 false (.bin .gtr 41 (cI 100000)),
uO 43 (.pick 39 cT 42),
mV 44 43,
gD 45 44 false (.faddr 3 none 4),
gD 46 44 false (.load none 45),
gD 47 44 false (.call f_q008 [46,(cI 2),(cI 100)]),
uO 48 (.pick 44 cT 47),
mV 33 48] [0,13,14,15,33])
(.cond 33 (.seq (rg [mV 2 (cI 1)] [2])
.ret)
.skip)))))))))
(rg [bN 49 .add 15 (cI 1),
mV 15 49] [0,13,14,15]))))
def d_q023_k1 (C : Hd) (gl : GL) (v0 v13 v14 v15 : AV) (h : Heap) (x : Esc) (K : KT) : Prop:=
 pK (oBin .lss v15 v14) fun t1=>
 condB t1 (pK (oIaddr (some 4) v13 v15 h) fun t2=>
 pK (oLoad (some 4) t2 h) fun t3=>
 alK [.p (.str []),.p (.int .i64 0),.p (.int .i64 0),.p (.int .i64 0)] h fun t4 h5 y6=>
 wK (oStore (some 4) t4 t3 h5) fun t7 h8 y9=>
 pK (oFaddr 0 none t4) fun t10=>
 pK (oLoad none t10 h8) fun t11=>
 C f_q006 [t11] h8 fun t12 h13 y14=>
 pK (oUn .not t12) fun t15=>
 condB t15 (K .ret ⟨[(2,(AI 5))],h13,(y14 ++ (y9 ++ (y6 ++ x)))⟩)
 (pK (oSlice (some 4) v0 none (some v15) none h13) fun t16=>
 pK (oFaddr 0 none t4) fun t17=>
 pK (oLoad none t17 h13) fun t18=>
 callE C f_q02s [t16,t18] h13 fun t19 h20 y21=>
 pK (oBin .geq t19 (AI 0)) fun t22=>
 condB t22 (K .ret ⟨[(2,(AI 6))],h20,(y21 ++ (y14 ++ (y9 ++ (y6 ++ x))))⟩)
 (pK (oFaddr 1 none t4) fun t23=>
 pK (oLoad none t23 h20) fun t24=>
 pK (oFaddr 2 none t4) fun t25=>
 pK (oLoad none t25 h20) fun t26=>
 C f_q008 [t24,(AI (-100000)),t26] h20 fun t27 h28 y29=>
 gP t27 false (oFaddr 2 none t4) h28 fun t30 h31 y32=>
 gP t27 false (oLoad none t30 h31) h31 fun t33 h34 y35=>
 gP t27 false (oBin .gtr t33 (AI 100000)) h34 fun t36 h37 y38=>
 pK (oPick t27 (AB true) t36) fun t39=>
 gP t39 false (oFaddr 3 none t4) h37 fun t40 h41 y42=>
 gP t39 false (oLoad none t40 h41) h41 fun t43 h44 y45=>
 gV t39 false h44 (C f_q008 [t43,(AI 2),(AI 100)] h44) fun t46 h47 y48=>
 pK (oPick t39 (AB true) t46) fun t49=>
 condB t49 (K .ret ⟨[(2,(AI 1))],h47,(y48 ++ (y45 ++ (y42 ++ (y38 ++ (y35 ++ (y32 ++ (y29 ++ (y21 ++ (y14 ++ (y9 ++ (y6 ++ x)))))))))))⟩)
 (pK (oBin .add v15 (AI 1)) fun t50=>
 K .normal ⟨[(0,v0),(13,v13),(14,v14),(15,t50)],h47,(y48 ++ (y45 ++ (y42 ++ (y38 ++ (y35 ++ (y32 ++ (y29 ++ (y21 ++ (y14 ++ (y9 ++ (y6 ++ x)))))))))))⟩))))
 (K (.exit 1) ⟨[(0,v0),(13,v13),(14,v14),(15,v15),(16,t1)],h,x⟩)
theorem e_q023_k1 {C gl e h x K} : NW C gl p_q023_k1 ⟨e,h,x⟩ K = d_q023_k1 C gl (aget e 0) (aget e 13) (aget e 14) (aget e 15) h x K:=by kernel_rfl
theorem l_q023_k1 {C gl e h x K} : NW C gl (.loop (.scope p_q023_k1)) ⟨e,h,x⟩ K = NLoop C gl (.scope p_q023_k1) K [(0,aget e 0),(13,aget e 13),(14,aget e 14),(15,aget e 15)] h x:=NLoop_sc
def p_q023_k2 : ACode:=.pr [] (.seq (rg [mV 2 (cI 0)] [2])
.ret)
def d_q023_k2 (C : Hd) (gl : GL) (h : Heap) (x : Esc) (K : KT) : Prop:=
 K .ret ⟨[(2,(AI 0))],h,x⟩
theorem e_q023_k2 {C gl e h x K} : NW C gl p_q023_k2 ⟨e,h,x⟩ K = d_q023_k2 C gl h x K:=by kernel_rfl
def P_q023 (q1 q2 : ACode) : ACode:=(.seq (rg [mV 2 (cI 0)] [0])
(.seq (.block 0 (.seq (rg [mV 6 0,
lN 7 6,
bN 8 .eql 7 (cI 0),
mV 5 8] [0,5])
(.cond 5 (.seq (rg [mV 2 (cI 8)] [2])
.ret)
(.seq (rg [mV 10 0,
lN 11 10,
bN 12 .gtr 11 (cI 100),
mV 9 12] [0,9])
(.cond 9 (.seq (rg [mV 2 (cI 2)] [2])
.ret)
.skip)))))
(.seq (.seq (rg [mV 13 0,
lN 14 13,
mV 15 (cI 0)] [0,13,14,15])
(.block 1 (.loop (.scope q1))))
q2)))
def a_q023 : AFun:=⟨1,[.t 2],P_q023 p_q023_k1 p_q023_k2,false,false⟩
def d_q023 (C : Hd) (gl : GL) (q1 q2 : ACode) (v0 : AV) (h : Heap) (x : Esc) (K : KT) : Prop:=
 pK (oLen v0) fun t1=>
 pK (oBin .eql t1 (AI 0)) fun t2=>
 condB t2 (K .ret ⟨[(2,(AI 8))],h,x⟩)
 (pK (oLen v0) fun t3=>
 pK (oBin .gtr t3 (AI 100)) fun t4=>
 condB t4 (K .ret ⟨[(2,(AI 2))],h,x⟩)
 (pK (oLen v0) fun t5=>
 NW C gl (.loop (.scope q1)) ⟨[(0,v0),(13,v0),(14,t5),(15,(AI 0))],h,x⟩ (blockN 1 (seqN C gl q2 K))))
theorem E_q023 {C gl q1 q2 v0 h x K} : NW C gl (P_q023 q1 q2) ⟨enter [v0],h,x⟩ K = d_q023 C gl q1 q2 v0 h x K:=by kernel_rfl
theorem e_q023 {C gl v0 h x K} : NW C gl a_q023.body ⟨enter [v0],h,x⟩ K = d_q023 C gl p_q023_k1 p_q023_k2 v0 h x K:=E_q023
def p_q030_k1 : ACode:=.pr [0,1,11,12,13] (.seq (rg [bN 14 .lss 13 12] [0,1,11,12,13,14])
(.seq (.cond 14 .skip
(.exit 0))
(.seq (.block 1 (.seq (rg [mV 15 13,
iA 16 (some 4) 11 13,
lD 17 (some 4) 16,
uO 6 (.alloc [.p (.str []),.p (.int .i64 0),.p (.str []),.sl0 none]),
mV 5 15,
wO (.store (some 4) 6 17)] [0,1,5,6,11,12,13])
(.seq (.seq (rg [mV 18 0,
lD 19 (some 4) 6,
cL 20 f_q02y [18,19],
mV 7 20] [0,1,5,6,7,11,12,13])
(.seq (rg [mV 21 7,
bN 22 .neq 21 (cI 0)] [0,1,5,6,7,11,12,13,22])
(.cond 22 (.seq (rg [mV 23 7,
mV 4 23] [4])
.ret)
.skip)))
(.seq (dr [dF (mV 24 5) [5],
dF (bN 25 .gtr 24 (cI 0)) [24],
dF (mV 26 25) [25],
dF (gD 27 26 true (.load (some 4) 6)) [6,26],
dF (gD 28 26 true (.mv 1)) [1,26],
dF (gD 29 26 true (.mv 5)) [5,26],
dF (gD 30 26 true (.bin .sub 29 (cI 1))) [29,26],
dF (gD 31 26 true (.iaddr (some 4) 28 30)) [28,30,26],
dF (gD 32 26 true (.load (some 4) 31)) [31,26],
dT (gD 33 26 true (.call f_q02j [27,32])) [27,32,26],
dF (gD 34 26 true (.bin .leq 33 (cI 0))) [33,26],
dF (uO 35 (.pick 26 34 cF)) [26,34]] [0,1,11,12,13,35])
(.cond 35 (.seq (rg [mV 4 (cI 7)] [4])
.ret)
.skip)))))
(rg [bN 36 .add 13 (cI 1),
mV 13 36] [0,1,11,12,13]))))
def d_q030_k1 (C : Hd) (gl : GL) (v0 v1 v11 v12 v13 : AV) (h : Heap) (x : Esc) (K : KT) : Prop:=
 pK (oBin .lss v13 v12) fun t1=>
 condB t1 (pK (oIaddr (some 4) v11 v13 h) fun t2=>
 pK (oLoad (some 4) t2 h) fun t3=>
 alK [.p (.str []),.p (.int .i64 0),.p (.str []),.sl0 none] h fun t4 h5 y6=>
 wK (oStore (some 4) t4 t3 h5) fun t7 h8 y9=>
 pK (oLoad (some 4) t4 h8) fun t10=>
 C f_q02y [v0,t10] h8 fun t11 h12 y13=>
 pK (oBin .neq t11 (AI 0)) fun t14=>
 condB t14 (K .ret ⟨[(4,t11)],h12,(y13 ++ (y9 ++ (y6 ++ x)))⟩)
 (pK (oBin .gtr v13 (AI 0)) fun t15=>
 gP t15 true (oLoad (some 4) t4 h12) h12 fun t16 h17 y18=>
 gM t15 true v1 h17 fun t19 h20 y21=>
 gM t15 true v13 h20 fun t22 h23 y24=>
 gP t15 true (oBin .sub t22 (AI 1)) h23 fun t25 h26 y27=>
 gP t15 true (oIaddr (some 4) t19 t25 h26) h26 fun t28 h29 y30=>
 gP t15 true (oLoad (some 4) t28 h29) h29 fun t31 h32 y33=>
 gV t15 true h32 (callE C f_q02j [t16,t31] h32) fun t34 h35 y36=>
 gP t15 true (oBin .leq t34 (AI 0)) h35 fun t37 h38 y39=>
 pK (oPick t15 t37 (AB false)) fun t40=>
 condB t40 (K .ret ⟨[(4,(AI 7))],h38,(y39 ++ (y36 ++ (y33 ++ (y30 ++ (y27 ++ (y24 ++ (y21 ++ (y18 ++ (y13 ++ (y9 ++ (y6 ++ x)))))))))))⟩)
 (pK (oBin .add v13 (AI 1)) fun t41=>
 K .normal ⟨[(0,v0),(1,v1),(11,v11),(12,v12),(13,t41)],h38,(y39 ++ (y36 ++ (y33 ++ (y30 ++ (y27 ++ (y24 ++ (y21 ++ (y18 ++ (y13 ++ (y9 ++ (y6 ++ x)))))))))))⟩)))
 (K (.exit 0) ⟨[(0,v0),(1,v1),(11,v11),(12,v12),(13,v13),(14,t1)],h,x⟩)
theorem e_q030_k1 {C gl e h x K} : NW C gl p_q030_k1 ⟨e,h,x⟩ K = d_q030_k1 C gl (aget e 0) (aget e 1) (aget e 11) (aget e 12) (aget e 13) h x K:=by kernel_rfl
theorem l_q030_k1 {C gl e h x K} : NW C gl (.loop (.scope p_q030_k1)) ⟨e,h,x⟩ K = NLoop C gl (.scope p_q030_k1) K [(0,aget e 0),(1,aget e 1),(11,aget e 11),(12,aget e 12),(13,aget e 13)] h x:=NLoop_sc
def p_q030_k2 : ACode:=.pr [] (.seq (rg [mV 4 (cI 0)] [4])
.ret)
def d_q030_k2 (C : Hd) (gl : GL) (h : Heap) (x : Esc) (K : KT) : Prop:=
 K .ret ⟨[(4,(AI 0))],h,x⟩
theorem e_q030_k2 {C gl e h x K} : NW C gl p_q030_k2 ⟨e,h,x⟩ K = d_q030_k2 C gl h x K:=by kernel_rfl
def P_q030 (q1 q2 : ACode) : ACode:=(.seq (rg [mV 4 (cI 0)] [0,1])
(.seq (.seq (rg [mV 8 1,
lN 9 8,
bN 10 .gtr 9 (cI 5000)] [0,1,10])
(.cond 10 (.seq (rg [mV 4 (cI 2)] [4])
.ret)
.skip))
(.seq (.seq (rg [mV 11 1,
lN 12 11,
mV 13 (cI 0)] [0,1,11,12,13])
(.block 0 (.loop (.scope q1))))
q2)))
def a_q030 : AFun:=⟨2,[.t 4],P_q030 p_q030_k1 p_q030_k2,false,false⟩
def d_q030 (C : Hd) (gl : GL) (q1 q2 : ACode) (v0 v1 : AV) (h : Heap) (x : Esc) (K : KT) : Prop:=
 pK (oLen v1) fun t1=>
 pK (oBin .gtr t1 (AI 5000)) fun t2=>
 condB t2 (K .ret ⟨[(4,(AI 2))],h,x⟩)
 (pK (oLen v1) fun t3=>
 NW C gl (.loop (.scope q1)) ⟨[(0,v0),(1,v1),(11,v1),(12,t3),(13,(AI 0))],h,x⟩ (blockN 0 (seqN C gl q2 K)))
theorem E_q030 {C gl q1 q2 v0 v1 h x K} : NW C gl (P_q030 q1 q2) ⟨enter [v0,v1],h,x⟩ K = d_q030 C gl q1 q2 v0 v1 h x K:=by kernel_rfl
theorem e_q030 {C gl v0 v1 h x K} : NW C gl a_q030.body ⟨enter [v0,v1],h,x⟩ K = d_q030 C gl p_q030_k1 p_q030_k2 v0 v1 h x K:=E_q030
def p_q07s_k1 : ACode:=.pr [0,1,2,6,7,8] (.seq (.seq (rg [mV 11 8,
mV 12 1,
bN 13 .leq 11 12] [0,1,2,6,7,8,13])
(.cond 13 .skip
(.exit 0)))
(.block 1 (.seq (rg [mV 14 0,
mV 15 7,
mV 16 8,
mV 17 2,
cL 18 f_q06u [14,15,16,17]] [0,1,2,6,8])
(.seq (rg [mV 19 8,
mV 7 19] [0,1,2,6,7,8])
(rg [mV 20 8,
mV 21 6,
bN 22 .add 20 21,
mV 8 22] [0,1,2,6,7,8])))))
def d_q07s_k1 (C : Hd) (gl : GL) (v0 v1 v2 v6 v7 v8 : AV) (h : Heap) (x : Esc) (K : KT) : Prop:=
 pK (oBin .leq v8 v1) fun t1=>
 condB t1 (C f_q06u [v0,v7,v8,v2] h fun t2 h3 y4=>
 pK (oBin .add v8 v6) fun t5=>
 K .normal ⟨[(0,v0),(1,v1),(2,v2),(6,v6),(7,v8),(8,t5)],h3,(y4 ++ x)⟩)
 (K (.exit 0) ⟨[(0,v0),(1,v1),(2,v2),(6,v6),(7,v7),(8,v8),(13,t1)],h,x⟩)
theorem e_q07s_k1 {C gl e h x K} : NW C gl p_q07s_k1 ⟨e,h,x⟩ K = d_q07s_k1 C gl (aget e 0) (aget e 1) (aget e 2) (aget e 6) (aget e 7) (aget e 8) h x K:=by kernel_rfl
theorem l_q07s_k1 {C gl e h x K} : NW C gl (.loop p_q07s_k1) ⟨e,h,x⟩ K = NLoop C gl p_q07s_k1 K [(0,aget e 0),(1,aget e 1),(2,aget e 2),(6,aget e 6),(7,aget e 7),(8,aget e 8)] h x:=NLoop_pr
def p_q07s_k2 : ACode:=.pr [0,1,2,6,7,8] (.seq (.seq (rg [mV 33 8,
mV 34 1,
bN 35 .leq 33 34] [0,1,2,6,7,8,35])
(.cond 35 .skip
(.exit 4)))
(.block 5 (.seq (rg [mV 36 0,
mV 37 7,
mV 38 7,
mV 39 6,
bN 40 .add 38 39,
mV 41 8,
mV 42 2,
cL 43 f_q07w [36,37,40,41,42]] [0,1,2,6,8])
(.seq (rg [mV 44 8,
mV 7 44] [0,1,2,6,7,8])
(rg [mV 45 8,
mV 46 6,
bN 47 .mul (cI 2) 46,
bN 48 .add 45 47,
mV 8 48] [0,1,2,6,7,8])))))
def d_q07s_k2 (C : Hd) (gl : GL) (v0 v1 v2 v6 v7 v8 : AV) (h : Heap) (x : Esc) (K : KT) : Prop:=
 pK (oBin .leq v8 v1) fun t1=>
 condB t1 (pK (oBin .add v7 v6) fun t2=>
 C f_q07w [v0,v7,t2,v8,v2] h fun t3 h4 y5=>
 pK (oBin .mul (AI 2) v6) fun t6=>
 pK (oBin .add v8 t6) fun t7=>
 K .normal ⟨[(0,v0),(1,v1),(2,v2),(6,v6),(7,v8),(8,t7)],h4,(y5 ++ x)⟩)
 (K (.exit 4) ⟨[(0,v0),(1,v1),(2,v2),(6,v6),(7,v7),(8,v8),(35,t1)],h,x⟩)
theorem e_q07s_k2 {C gl e h x K} : NW C gl p_q07s_k2 ⟨e,h,x⟩ K = d_q07s_k2 C gl (aget e 0) (aget e 1) (aget e 2) (aget e 6) (aget e 7) (aget e 8) h x K:=by kernel_rfl
theorem l_q07s_k2 {C gl e h x K} : NW C gl (.loop p_q07s_k2) ⟨e,h,x⟩ K = NLoop C gl p_q07s_k2 K [(0,aget e 0),(1,aget e 1),(2,aget e 2),(6,aget e 6),(7,aget e 7),(8,aget e 8)] h x:=NLoop_pr
def p_q07s_k3 : ACode:=.pr [0,1,2,6] (rg [mV 61 6,
bN 62 .mul 61 (cI 2),
mV 6 62] [0,1,2,6])
def d_q07s_k3 (C : Hd) (gl : GL) (v0 v1 v2 v6 : AV) (h : Heap) (x : Esc) (K : KT) : Prop:=
 pK (oBin .mul v6 (AI 2)) fun t1=>
 K .normal ⟨[(0,v0),(1,v1),(2,v2),(6,t1)],h,x⟩
theorem e_q07s_k3 {C gl e h x K} : NW C gl p_q07s_k3 ⟨e,h,x⟩ K = d_q07s_k3 C gl (aget e 0) (aget e 1) (aget e 2) (aget e 6) h x K:=by kernel_rfl
def P_q07s_k4 (q3 : ACode) : ACode:=.pr [0,1,2,6,7] (.seq (.seq (rg [mV 49 7,
mV 50 6,
bN 51 .add 49 50,
mV 9 51] [0,1,2,6,7,9])
(.seq (rg [mV 52 9,
mV 53 1,
bN 54 .lss 52 53] [0,1,2,6,7,9,54])
(.cond 54 (rg [mV 55 0,
mV 56 7,
mV 57 9,
mV 58 1,
mV 59 2,
cL 60 f_q07w [55,56,57,58,59]] [0,1,2,6])
.skip)))
q3)
def p_q07s_k4 : ACode:=P_q07s_k4 p_q07s_k3
def d_q07s_k4 (C : Hd) (gl : GL) (q3 : ACode) (v0 v1 v2 v6 v7 : AV) (h : Heap) (x : Esc) (K : KT) : Prop:=
 pK (oBin .add v7 v6) fun t1=>
 pK (oBin .lss t1 v1) fun t2=>
 condB t2 (C f_q07w [v0,v7,t1,v1,v2] h fun t3 h4 y5=>
 NW C gl q3 ⟨[(0,v0),(1,v1),(2,v2),(6,v6)],h4,(y5 ++ x)⟩ K)
 (NW C gl q3 ⟨[(0,v0),(1,v1),(2,v2),(6,v6),(7,v7),(9,t1),(54,t2)],h,x⟩ K)
theorem E_q07s_k4 {C gl q3 e h x K} : NW C gl (P_q07s_k4 q3) ⟨e,h,x⟩ K = d_q07s_k4 C gl q3 (aget e 0) (aget e 1) (aget e 2) (aget e 6) (aget e 7) h x K:=by kernel_rfl
theorem e_q07s_k4 {C gl e h x K} : NW C gl p_q07s_k4 ⟨e,h,x⟩ K = d_q07s_k4 C gl p_q07s_k3 (aget e 0) (aget e 1) (aget e 2) (aget e 6) (aget e 7) h x K:=E_q07s_k4
def P_q07s_k5 (q2 q4 : ACode) : ACode:=.pr [0,1,2,6] (.seq (.seq (rg [mV 28 6,
mV 29 1,
bN 30 .lss 28 29] [0,1,2,6,30])
(.cond 30 .skip
(.exit 2)))
(.block 3 (.seq (rg [mV 31 6,
bN 32 .mul (cI 2) 31,
mV 7 (cI 0),
mV 8 32] [0,1,2,6,7,8])
(.seq (.block 4 (.loop q2))
q4))))
def p_q07s_k5 : ACode:=P_q07s_k5 p_q07s_k2 p_q07s_k4
def d_q07s_k5 (C : Hd) (gl : GL) (q2 q4 : ACode) (v0 v1 v2 v6 : AV) (h : Heap) (x : Esc) (K : KT) : Prop:=
 pK (oBin .lss v6 v1) fun t1=>
 condB t1 (pK (oBin .mul (AI 2) v6) fun t2=>
 NW C gl (.loop q2) ⟨[(0,v0),(1,v1),(2,v2),(6,v6),(7,(AI 0)),(8,t2)],h,x⟩ (blockN 4 (seqN C gl q4 (blockN 3 K))))
 (K (.exit 2) ⟨[(0,v0),(1,v1),(2,v2),(6,v6),(30,t1)],h,x⟩)
theorem E_q07s_k5 {C gl q2 q4 e h x K} : NW C gl (P_q07s_k5 q2 q4) ⟨e,h,x⟩ K = d_q07s_k5 C gl q2 q4 (aget e 0) (aget e 1) (aget e 2) (aget e 6) h x K:=by kernel_rfl
theorem e_q07s_k5 {C gl e h x K} : NW C gl p_q07s_k5 ⟨e,h,x⟩ K = d_q07s_k5 C gl p_q07s_k2 p_q07s_k4 (aget e 0) (aget e 1) (aget e 2) (aget e 6) h x K:=E_q07s_k5
theorem l_q07s_k5 {C gl e h x K} : NW C gl (.loop p_q07s_k5) ⟨e,h,x⟩ K = NLoop C gl p_q07s_k5 K [(0,aget e 0),(1,aget e 1),(2,aget e 2),(6,aget e 6)] h x:=NLoop_pr
def P_q07s_k6 (q5 : ACode) : ACode:=.pr [0,1,2,6,7] (.seq (rg [mV 23 0,
mV 24 7,
mV 25 1,
mV 26 2,
cL 27 f_q06u [23,24,25,26]] [0,1,2,6])
(.block 2 (.loop q5)))
def p_q07s_k6 : ACode:=P_q07s_k6 p_q07s_k5
def d_q07s_k6 (C : Hd) (gl : GL) (q5 : ACode) (v0 v1 v2 v6 v7 : AV) (h : Heap) (x : Esc) (K : KT) : Prop:=
 C f_q06u [v0,v7,v1,v2] h fun t1 h2 y3=>
 NW C gl (.loop q5) ⟨[(0,v0),(1,v1),(2,v2),(6,v6)],h2,(y3 ++ x)⟩ (blockN 2 K)
theorem E_q07s_k6 {C gl q5 e h x K} : NW C gl (P_q07s_k6 q5) ⟨e,h,x⟩ K = d_q07s_k6 C gl q5 (aget e 0) (aget e 1) (aget e 2) (aget e 6) (aget e 7) h x K:=by kernel_rfl
theorem e_q07s_k6 {C gl e h x K} : NW C gl p_q07s_k6 ⟨e,h,x⟩ K = d_q07s_k6 C gl p_q07s_k5 (aget e 0) (aget e 1) (aget e 2) (aget e 6) (aget e 7) h x K:=E_q07s_k6
def P_q07s (q1 q6 : ACode) : ACode:=(.seq (rg [mV 6 (cI 20)] [0,1,2,6])
(.seq (rg [mV 10 6,
mV 7 (cI 0),
mV 8 10] [0,1,2,6,7,8])
(.seq (.block 0 (.loop q1))
q6)))
def a_q07s : AFun:=⟨3,[],P_q07s p_q07s_k1 p_q07s_k6,true,false⟩
def d_q07s (C : Hd) (gl : GL) (q1 q6 : ACode) (v0 v1 v2 : AV) (h : Heap) (x : Esc) (K : KT) : Prop:=
 NW C gl (.loop q1) ⟨[(0,v0),(1,v1),(2,v2),(6,(AI 20)),(7,(AI 0)),(8,(AI 20))],h,x⟩ (blockN 0 (seqN C gl q6 K))
theorem E_q07s {C gl q1 q6 v0 v1 v2 h x K} : NW C gl (P_q07s q1 q6) ⟨enter [v0,v1,v2],h,x⟩ K = d_q07s C gl q1 q6 v0 v1 v2 h x K:=by kernel_rfl
theorem e_q07s {C gl v0 v1 v2 h x K} : NW C gl a_q07s.body ⟨enter [v0,v1,v2],h,x⟩ K = d_q07s C gl p_q07s_k1 p_q07s_k6 v0 v1 v2 h x K:=E_q07s
def P_q06g : ACode:=(.seq (rg [mV 5 0,
lN 6 5,
mV 4 6] [0,1,4])
(rg [mV 7 0,
mV 8 4,
mV 9 4,
uO 10 (.conv (.i .u64) 9),
cL 11 f_q03a [10],
mV 12 1,
cL 13 f_q07h [7,(cI 0),8,11,12]] []))
def a_q06g : AFun:=⟨2,[],P_q06g,true,false⟩
def d_q06g (C : Hd) (gl : GL) (v0 v1 : AV) (h : Heap) (x : Esc) (K : KT) : Prop:=
 pK (oLen v0) fun t1=>
 pK (oConvI .u64 t1) fun t2=>
 C f_q03a [t2] h fun t3 h4 y5=>
 C f_q07h [v0,(AI 0),t1,t3,v1] h4 fun t6 h7 y8=>
 K .normal ⟨[],h7,(y8 ++ (y5 ++ x))⟩
theorem e_q06g {C gl v0 v1 h x K} : NW C gl a_q06g.body ⟨enter [v0,v1],h,x⟩ K = d_q06g C gl v0 v1 h x K:=by kernel_rfl
def P_q02r : ACode:=(.seq (rg [uO 2 (.box 0),
uO 3 (.box 1),
mV 4 (cI 0)] [2,3])
(.seq (rg [fA 5 0 none 2,
lD 6 none 5,
fA 7 0 none 3,
lD 8 none 7,
cL 9 f_q08u [6,8],
mV 4 9] [4])
.ret))
def a_q02r : AFun:=⟨2,[.t 4],P_q02r,false,false⟩
def d_q02r (C : Hd) (gl : GL) (v0 v1 : AV) (h : Heap) (x : Esc) (K : KT) : Prop:=
 wK (oBox v0 h) fun t1 h2 y3=>
 wK (oBox v1 h2) fun t4 h5 y6=>
 pK (oFaddr 0 none t1) fun t7=>
 pK (oLoad none t7 h5) fun t8=>
 pK (oFaddr 0 none t4) fun t9=>
 pK (oLoad none t9 h5) fun t10=>
 C f_q08u [t8,t10] h5 fun t11 h12 y13=>
 K .ret ⟨[(4,t11)],h12,(y13 ++ (y6 ++ (y3 ++ x)))⟩
theorem e_q02r {C gl v0 v1 h x K} : NW C gl a_q02r.body ⟨enter [v0,v1],h,x⟩ K = d_q02r C gl v0 v1 h x K:=by kernel_rfl
def p_q07t_k1 : ACode:=.pr [0,1,2,6,7,8] (.seq (.seq (rg [mV 11 8,
mV 12 1,
bN 13 .leq 11 12] [0,1,2,6,7,8,13])
(.cond 13 .skip
(.exit 0)))
(.block 1 (.seq (rg [mV 14 0,
mV 15 7,
mV 16 8,
mV 17 2,
cL 18 f_q06v [14,15,16,17]] [0,1,2,6,8])
(.seq (rg [mV 19 8,
mV 7 19] [0,1,2,6,7,8])
(rg [mV 20 8,
mV 21 6,
bN 22 .add 20 21,
mV 8 22] [0,1,2,6,7,8])))))
def d_q07t_k1 (C : Hd) (gl : GL) (v0 v1 v2 v6 v7 v8 : AV) (h : Heap) (x : Esc) (K : KT) : Prop:=
 pK (oBin .leq v8 v1) fun t1=>
 condB t1 (C f_q06v [v0,v7,v8,v2] h fun t2 h3 y4=>
 pK (oBin .add v8 v6) fun t5=>
 K .normal ⟨[(0,v0),(1,v1),(2,v2),(6,v6),(7,v8),(8,t5)],h3,(y4 ++ x)⟩)
 (K (.exit 0) ⟨[(0,v0),(1,v1),(2,v2),(6,v6),(7,v7),(8,v8),(13,t1)],h,x⟩)
theorem e_q07t_k1 {C gl e h x K} : NW C gl p_q07t_k1 ⟨e,h,x⟩ K = d_q07t_k1 C gl (aget e 0) (aget e 1) (aget e 2) (aget e 6) (aget e 7) (aget e 8) h x K:=by kernel_rfl
theorem l_q07t_k1 {C gl e h x K} : NW C gl (.loop p_q07t_k1) ⟨e,h,x⟩ K = NLoop C gl p_q07t_k1 K [(0,aget e 0),(1,aget e 1),(2,aget e 2),(6,aget e 6),(7,aget e 7),(8,aget e 8)] h x:=NLoop_pr
def p_q07t_k2 : ACode:=.pr [0,1,2,6,7,8] (.seq (.seq (rg [mV 33 8,
mV 34 1,
bN 35 .leq 33 34] [0,1,2,6,7,8,35])
(.cond 35 .skip
(.exit 4)))
(.block 5 (.seq (rg [mV 36 0,
mV 37 7,
mV 38 7,
mV 39 6,
bN 40 .add 38 39,
mV 41 8,
mV 42 2,
cL 43 f_q07x [36,37,40,41,42]] [0,1,2,6,8])
(.seq (rg [mV 44 8,
mV 7 44] [0,1,2,6,7,8])
(rg [mV 45 8,
mV 46 6,
bN 47 .mul (cI 2) 46,
bN 48 .add 45 47,
mV 8 48] [0,1,2,6,7,8])))))
def d_q07t_k2 (C : Hd) (gl : GL) (v0 v1 v2 v6 v7 v8 : AV) (h : Heap) (x : Esc) (K : KT) : Prop:=
 pK (oBin .leq v8 v1) fun t1=>
 condB t1 (pK (oBin .add v7 v6) fun t2=>
 C f_q07x [v0,v7,t2,v8,v2] h fun t3 h4 y5=>
 pK (oBin .mul (AI 2) v6) fun t6=>
 pK (oBin .add v8 t6) fun t7=>
 K .normal ⟨[(0,v0),(1,v1),(2,v2),(6,v6),(7,v8),(8,t7)],h4,(y5 ++ x)⟩)
 (K (.exit 4) ⟨[(0,v0),(1,v1),(2,v2),(6,v6),(7,v7),(8,v8),(35,t1)],h,x⟩)
theorem e_q07t_k2 {C gl e h x K} : NW C gl p_q07t_k2 ⟨e,h,x⟩ K = d_q07t_k2 C gl (aget e 0) (aget e 1) (aget e 2) (aget e 6) (aget e 7) (aget e 8) h x K:=by kernel_rfl
theorem l_q07t_k2 {C gl e h x K} : NW C gl (.loop p_q07t_k2) ⟨e,h,x⟩ K = NLoop C gl p_q07t_k2 K [(0,aget e 0),(1,aget e 1),(2,aget e 2),(6,aget e 6),(7,aget e 7),(8,aget e 8)] h x:=NLoop_pr
def p_q07t_k3 : ACode:=.pr [0,1,2,6] (rg [mV 61 6,
bN 62 .mul 61 (cI 2),
mV 6 62] [0,1,2,6])
def d_q07t_k3 (C : Hd) (gl : GL) (v0 v1 v2 v6 : AV) (h : Heap) (x : Esc) (K : KT) : Prop:=
 pK (oBin .mul v6 (AI 2)) fun t1=>
 K .normal ⟨[(0,v0),(1,v1),(2,v2),(6,t1)],h,x⟩
theorem e_q07t_k3 {C gl e h x K} : NW C gl p_q07t_k3 ⟨e,h,x⟩ K = d_q07t_k3 C gl (aget e 0) (aget e 1) (aget e 2) (aget e 6) h x K:=by kernel_rfl
def P_q07t_k4 (q3 : ACode) : ACode:=.pr [0,1,2,6,7] (.seq (.seq (rg [mV 49 7,
mV 50 6,
bN 51 .add 49 50,
mV 9 51] [0,1,2,6,7,9])
(.seq (rg [mV 52 9,
mV 53 1,
bN 54 .lss 52 53] [0,1,2,6,7,9,54])
(.cond 54 (rg [mV 55 0,
mV 56 7,
mV 57 9,
mV 58 1,
mV 59 2,
cL 60 f_q07x [55,56,57,58,59]] [0,1,2,6])
.skip)))
q3)
def p_q07t_k4 : ACode:=P_q07t_k4 p_q07t_k3
def d_q07t_k4 (C : Hd) (gl : GL) (q3 : ACode) (v0 v1 v2 v6 v7 : AV) (h : Heap) (x : Esc) (K : KT) : Prop:=
 pK (oBin .add v7 v6) fun t1=>
 pK (oBin .lss t1 v1) fun t2=>
 condB t2 (C f_q07x [v0,v7,t1,v1,v2] h fun t3 h4 y5=>
 NW C gl q3 ⟨[(0,v0),(1,v1),(2,v2),(6,v6)],h4,(y5 ++ x)⟩ K)
 (NW C gl q3 ⟨[(0,v0),(1,v1),(2,v2),(6,v6),(7,v7),(9,t1),(54,t2)],h,x⟩ K)
theorem E_q07t_k4 {C gl q3 e h x K} : NW C gl (P_q07t_k4 q3) ⟨e,h,x⟩ K = d_q07t_k4 C gl q3 (aget e 0) (aget e 1) (aget e 2) (aget e 6) (aget e 7) h x K:=by kernel_rfl
theorem e_q07t_k4 {C gl e h x K} : NW C gl p_q07t_k4 ⟨e,h,x⟩ K = d_q07t_k4 C gl p_q07t_k3 (aget e 0) (aget e 1) (aget e 2) (aget e 6) (aget e 7) h x K:=E_q07t_k4
def P_q07t_k5 (q2 q4 : ACode) : ACode:=.pr [0,1,2,6] (.seq (.seq (rg [mV 28 6,
mV 29 1,
bN 30 .lss 28 29] [0,1,2,6,30])
(.cond 30 .skip
(.exit 2)))
(.block 3 (.seq (rg [mV 31 6,
bN 32 .mul (cI 2) 31,
mV 7 (cI 0),
mV 8 32] [0,1,2,6,7,8])
(.seq (.block 4 (.loop q2))
q4))))
def p_q07t_k5 : ACode:=P_q07t_k5 p_q07t_k2 p_q07t_k4
def d_q07t_k5 (C : Hd) (gl : GL) (q2 q4 : ACode) (v0 v1 v2 v6 : AV) (h : Heap) (x : Esc) (K : KT) : Prop:=
 pK (oBin .lss v6 v1) fun t1=>
 condB t1 (pK (oBin .mul (AI 2) v6) fun t2=>
 NW C gl (.loop q2) ⟨[(0,v0),(1,v1),(2,v2),(6,v6),(7,(AI 0)),(8,t2)],h,x⟩ (blockN 4 (seqN C gl q4 (blockN 3 K))))
 (K (.exit 2) ⟨[(0,v0),(1,v1),(2,v2),(6,v6),(30,t1)],h,x⟩)
theorem E_q07t_k5 {C gl q2 q4 e h x K} : NW C gl (P_q07t_k5 q2 q4) ⟨e,h,x⟩ K = d_q07t_k5 C gl q2 q4 (aget e 0) (aget e 1) (aget e 2) (aget e 6) h x K:=by kernel_rfl
theorem e_q07t_k5 {C gl e h x K} : NW C gl p_q07t_k5 ⟨e,h,x⟩ K = d_q07t_k5 C gl p_q07t_k2 p_q07t_k4 (aget e 0) (aget e 1) (aget e 2) (aget e 6) h x K:=E_q07t_k5
theorem l_q07t_k5 {C gl e h x K} : NW C gl (.loop p_q07t_k5) ⟨e,h,x⟩ K = NLoop C gl p_q07t_k5 K [(0,aget e 0),(1,aget e 1),(2,aget e 2),(6,aget e 6)] h x:=NLoop_pr
def P_q07t_k6 (q5 : ACode) : ACode:=.pr [0,1,2,6,7] (.seq (rg [mV 23 0,
mV 24 7,
mV 25 1,
mV 26 2,
cL 27 f_q06v [23,24,25,26]] [0,1,2,6])
(.block 2 (.loop q5)))
def p_q07t_k6 : ACode:=P_q07t_k6 p_q07t_k5
def d_q07t_k6 (C : Hd) (gl : GL) (q5 : ACode) (v0 v1 v2 v6 v7 : AV) (h : Heap) (x : Esc) (K : KT) : Prop:=
 C f_q06v [v0,v7,v1,v2] h fun t1 h2 y3=>
 NW C gl (.loop q5) ⟨[(0,v0),(1,v1),(2,v2),(6,v6)],h2,(y3 ++ x)⟩ (blockN 2 K)
theorem E_q07t_k6 {C gl q5 e h x K} : NW C gl (P_q07t_k6 q5) ⟨e,h,x⟩ K = d_q07t_k6 C gl q5 (aget e 0) (aget e 1) (aget e 2) (aget e 6) (aget e 7) h x K:=by kernel_rfl
theorem e_q07t_k6 {C gl e h x K} : NW C gl p_q07t_k6 ⟨e,h,x⟩ K = d_q07t_k6 C gl p_q07t_k5 (aget e 0) (aget e 1) (aget e 2) (aget e 6) (aget e 7) h x K:=E_q07t_k6
def P_q07t (q1 q6 : ACode) : ACode:=(.seq (rg [mV 6 (cI 20)] [0,1,2,6])
(.seq (rg [mV 10 6,
mV 7 (cI 0),
mV 8 10] [0,1,2,6,7,8])
(.seq (.block 0 (.loop q1))
q6)))
def a_q07t : AFun:=⟨3,[],P_q07t p_q07t_k1 p_q07t_k6,true,false⟩
def d_q07t (C : Hd) (gl : GL) (q1 q6 : ACode) (v0 v1 v2 : AV) (h : Heap) (x : Esc) (K : KT) : Prop:=
 NW C gl (.loop q1) ⟨[(0,v0),(1,v1),(2,v2),(6,(AI 20)),(7,(AI 0)),(8,(AI 20))],h,x⟩ (blockN 0 (seqN C gl q6 K))
theorem E_q07t {C gl q1 q6 v0 v1 v2 h x K} : NW C gl (P_q07t q1 q6) ⟨enter [v0,v1,v2],h,x⟩ K = d_q07t C gl q1 q6 v0 v1 v2 h x K:=by kernel_rfl
theorem e_q07t {C gl v0 v1 v2 h x K} : NW C gl a_q07t.body ⟨enter [v0,v1,v2],h,x⟩ K = d_q07t C gl p_q07t_k1 p_q07t_k6 v0 v1 v2 h x K:=E_q07t
def P_q00w : ACode:=(.seq (rg [mV 2 cF] [0])
(.seq (rg [mV 3 0,
mV 4 0,
bN 5 .neq 3 4,
mV 2 5] [2])
.ret))
def a_q00w : AFun:=⟨1,[.t 2],P_q00w,false,false⟩
def d_q00w (C : Hd) (gl : GL) (v0 : AV) (h : Heap) (x : Esc) (K : KT) : Prop:=
 pK (oBin .neq v0 v0) fun t1=>
 K .ret ⟨[(2,t1)],h,x⟩
theorem e_q00w {C gl v0 h x K} : NW C gl a_q00w.body ⟨enter [v0],h,x⟩ K = d_q00w C gl v0 h x K:=by kernel_rfl
def p_q07j_k1 : ACode:=.pr [0,1,2,3,8,9,10,11] (.seq (.seq (dr [dF (mV 73 1) [1],
dF (bN 74 .gtr 73 (cI 0)) [73],
dF (mV 75 74) [74],
dF (gD 76 75 true (.mv 0)) [0,75],
dF (gD 77 75 true (.mv 1)) [1,75],
dF (gD 78 75 true (.bin .sub 77 (cI 1))) [77,75],
dF (gD 79 75 true (.iaddr none 76 78)) [76,78,75],
dF (gD 80 75 true (.load none 79)) [79,75],
dF (gD 81 75 true (.mv 0)) [0,75],
dF (gD 82 75 true (.mv 11)) [11,75],
dF (gD 83 75 true (.iaddr none 81 82)) [81,82,75],
dF (gD 84 75 true (.load none 83)) [83,75],
dT (gD 85 75 true (.call f_q00u [80,84])) [80,84,75],
dF (gD 86 75 true (.un .not 85)) [85,75],
dF (uO 87 (.pick 75 86 cF)) [75,86]] [0,1,2,3,8,9,10,11,87])
(.cond 87 (.seq (rg [mV 88 0,
mV 89 1,
mV 90 2,
mV 91 11,
cL 92 f_q07e [88,89,90,91],
mV 13 92] [0,2,3,8,9,13])
(.seq (rg [mV 93 13,
mV 1 93] [0,1,2,3,8,9])
(.exit 1)))
.skip))
(.seq (rg [mV 95 0,
mV 96 1,
mV 97 2,
mV 98 11,
cL 99 f_q07g [95,96,97,98],
mV 94 99,
eX 100 94 0,
eX 101 94 1,
mV 14 100,
mV 15 101] [0,1,2,3,10,14,15])
(.seq (rg [mV 102 15,
mV 9 102] [0,1,2,3,9,10,14])
(.seq (rg [mV 103 14,
mV 104 1,
bN 105 .sub 103 104,
mV 106 2,
mV 107 14,
bN 108 .sub 106 107,
mV 16 105,
mV 17 108] [0,1,2,3,9,10,14,16,17])
(.seq (rg [mV 109 10,
bN 110 .quo 109 (cI 8),
mV 18 110] [0,1,2,3,9,14,16,17,18])
(.seq (rg [mV 111 16,
mV 112 17,
bN 113 .lss 111 112] [0,1,2,3,9,14,16,17,18,113])
(.cond 113 (.seq (rg [mV 114 16,
mV 115 18,
bN 116 .geq 114 115,
mV 8 116] [0,1,2,3,8,9,14])
(.seq (rg [mV 117 0,
mV 118 1,
mV 119 14,
mV 120 3,
cL 121 f_q07j [117,118,119,120]] [0,2,3,8,9,14])
(rg [mV 122 14,
bN 123 .add 122 (cI 1),
mV 1 123] [0,1,2,3,8,9])))
(.seq (rg [mV 124 17,
mV 125 18,
bN 126 .geq 124 125,
mV 8 126] [0,1,2,3,8,9,14])
(.seq (rg [mV 127 0,
mV 128 14,
bN 129 .add 128 (cI 1),
mV 130 2,
mV 131 3,
cL 132 f_q07j [127,129,130,131]] [0,1,3,8,9,14])
(rg [mV 133 14,
mV 2 133] [0,1,2,3,8,9]))))))))))
def d_q07j_k1 (C : Hd) (gl : GL) (v0 v1 v2 v3 v8 v9 v10 v11 : AV) (h : Heap) (x : Esc) (K : KT) : Prop:=
 pK (oBin .gtr v1 (AI 0)) fun t1=>
 gM t1 true v0 h fun t2 h3 y4=>
 gM t1 true v1 h3 fun t5 h6 y7=>
 gP t1 true (oBin .sub t5 (AI 1)) h6 fun t8 h9 y10=>
 gP t1 true (oIaddr none t2 t8 h9) h9 fun t11 h12 y13=>
 gP t1 true (oLoad none t11 h12) h12 fun t14 h15 y16=>
 gM t1 true v0 h15 fun t17 h18 y19=>
 gM t1 true v11 h18 fun t20 h21 y22=>
 gP t1 true (oIaddr none t17 t20 h21) h21 fun t23 h24 y25=>
 gP t1 true (oLoad none t23 h24) h24 fun t26 h27 y28=>
 gV t1 true h27 (callE C f_q00u [t14,t26] h27) fun t29 h30 y31=>
 gP t1 true (oUn .not t29) h30 fun t32 h33 y34=>
 pK (oPick t1 t32 (AB false)) fun t35=>
 condB t35 (C f_q07e [v0,v1,v2,v11] h33 fun t36 h37 y38=>
 K (.exit 1) ⟨[(0,v0),(1,t36),(2,v2),(3,v3),(8,v8),(9,v9)],h37,(y38 ++ (y34 ++ (y31 ++ (y28 ++ (y25 ++ (y22 ++ (y19 ++ (y16 ++ (y13 ++ (y10 ++ (y7 ++ (y4 ++ x))))))))))))⟩)
 (C f_q07g [v0,v1,v2,v11] h33 fun t39 h40 y41=>
 pK (oExt t39 0) fun t42=>
 pK (oExt t39 1) fun t43=>
 pK (oBin .sub t42 v1) fun t44=>
 pK (oBin .sub v2 t42) fun t45=>
 pK (oBin .quo v10 (AI 8)) fun t46=>
 pK (oBin .lss t44 t45) fun t47=>
 condB t47 (pK (oBin .geq t44 t46) fun t48=>
 C f_q07j [v0,v1,t42,v3] h40 fun t49 h50 y51=>
 pK (oBin .add t42 (AI 1)) fun t52=>
 K .normal ⟨[(0,v0),(1,t52),(2,v2),(3,v3),(8,t48),(9,t43)],h50,(y51 ++ (y41 ++ (y34 ++ (y31 ++ (y28 ++ (y25 ++ (y22 ++ (y19 ++ (y16 ++ (y13 ++ (y10 ++ (y7 ++ (y4 ++ x)))))))))))))⟩)
 (pK (oBin .geq t45 t46) fun t53=>
 pK (oBin .add t42 (AI 1)) fun t54=>
 C f_q07j [v0,t54,v2,v3] h40 fun t55 h56 y57=>
 K .normal ⟨[(0,v0),(1,v1),(2,t42),(3,v3),(8,t53),(9,t43)],h56,(y57 ++ (y41 ++ (y34 ++ (y31 ++ (y28 ++ (y25 ++ (y22 ++ (y19 ++ (y16 ++ (y13 ++ (y10 ++ (y7 ++ (y4 ++ x)))))))))))))⟩))
theorem e_q07j_k1 {C gl e h x K} : NW C gl p_q07j_k1 ⟨e,h,x⟩ K = d_q07j_k1 C gl (aget e 0) (aget e 1) (aget e 2) (aget e 3) (aget e 8) (aget e 9) (aget e 10) (aget e 11) h x K:=by kernel_rfl
def P_q07j_k2 (q1 : ACode) : ACode:=.pr [0,1,2,3,8,9,10,11,12] (.seq (.seq (rg [mV 61 8,
mV 62 61,
gD 63 62 true (.mv 9),
uO 64 (.pick 62 63 cF),
mV 65 64,
gD 66 65 true (.mv 12),
gD 67 65 true (.bin .eql 66 (cI 1)),
uO 68 (.pick 65 67 cF)] [0,1,2,3,8,9,10,11,68])
(.cond 68 (.seq (rg [mV 69 0,
mV 70 1,
mV 71 2,
cL 72 f_q07a [69,70,71]] [0,1,2,3,8,9,10,11,72])
(.cond 72 .ret
.skip))
.skip))
q1)
def p_q07j_k2 : ACode:=P_q07j_k2 p_q07j_k1
def d_q07j_k2 (C : Hd) (gl : GL) (q1 : ACode) (v0 v1 v2 v3 v8 v9 v10 v11 v12 : AV) (h : Heap) (x : Esc) (K : KT) : Prop:=
 gM v8 true v9 h fun t1 h2 y3=>
 pK (oPick v8 t1 (AB false)) fun t4=>
 gM t4 true v12 h2 fun t5 h6 y7=>
 gP t4 true (oBin .eql t5 (AI 1)) h6 fun t8 h9 y10=>
 pK (oPick t4 t8 (AB false)) fun t11=>
 condB t11 (C f_q07a [v0,v1,v2] h9 fun t12 h13 y14=>
 condB t12 (K .ret ⟨[(0,v0),(1,v1),(2,v2),(3,v3),(8,v8),(9,v9),(10,v10),(11,v11),(72,t12)],h13,(y14 ++ (y10 ++ (y7 ++ (y3 ++ x))))⟩)
 (NW C gl q1 ⟨[(0,v0),(1,v1),(2,v2),(3,v3),(8,v8),(9,v9),(10,v10),(11,v11),(72,t12)],h13,(y14 ++ (y10 ++ (y7 ++ (y3 ++ x))))⟩ K))
 (NW C gl q1 ⟨[(0,v0),(1,v1),(2,v2),(3,v3),(8,v8),(9,v9),(10,v10),(11,v11),(68,t11)],h9,(y10 ++ (y7 ++ (y3 ++ x)))⟩ K)
theorem E_q07j_k2 {C gl q1 e h x K} : NW C gl (P_q07j_k2 q1) ⟨e,h,x⟩ K = d_q07j_k2 C gl q1 (aget e 0) (aget e 1) (aget e 2) (aget e 3) (aget e 8) (aget e 9) (aget e 10) (aget e 11) (aget e 12) h x K:=by kernel_rfl
theorem e_q07j_k2 {C gl e h x K} : NW C gl p_q07j_k2 ⟨e,h,x⟩ K = d_q07j_k2 C gl p_q07j_k1 (aget e 0) (aget e 1) (aget e 2) (aget e 3) (aget e 8) (aget e 9) (aget e 10) (aget e 11) (aget e 12) h x K:=E_q07j_k2
def P_q07j_k3 (q2 : ACode) : ACode:=.pr [0,1,2,3,8,9,10] (.seq (rg [mV 43 0,
mV 44 1,
mV 45 2,
cL 46 f_q06q [43,44,45],
mV 42 46,
eX 47 42 0,
eX 48 42 1,
mV 11 47,
mV 12 48] [0,1,2,3,8,9,10,11,12])
(.seq (.seq (rg [mV 49 12,
bN 50 .eql 49 (cI 2)] [0,1,2,3,8,9,10,11,12,50])
(.cond 50 (.seq (rg [mV 51 0,
mV 52 1,
mV 53 2,
cL 54 f_q07m [51,52,53]] [0,1,2,3,8,9,10,11])
(.seq (rg [mV 55 2,
bN 56 .sub 55 (cI 1),
mV 57 11,
mV 58 1,
bN 59 .sub 57 58,
bN 60 .sub 56 59,
mV 11 60] [0,1,2,3,8,9,10,11])
(rg [mV 12 (cI 1)] [0,1,2,3,8,9,10,11,12])))
.skip))
q2))
def p_q07j_k3 : ACode:=P_q07j_k3 p_q07j_k2
def d_q07j_k3 (C : Hd) (gl : GL) (q2 : ACode) (v0 v1 v2 v3 v8 v9 v10 : AV) (h : Heap) (x : Esc) (K : KT) : Prop:=
 C f_q06q [v0,v1,v2] h fun t1 h2 y3=>
 pK (oExt t1 0) fun t4=>
 pK (oExt t1 1) fun t5=>
 pK (oBin .eql t5 (AI 2)) fun t6=>
 condB t6 (C f_q07m [v0,v1,v2] h2 fun t7 h8 y9=>
 pK (oBin .sub v2 (AI 1)) fun t10=>
 pK (oBin .sub t4 v1) fun t11=>
 pK (oBin .sub t10 t11) fun t12=>
 NW C gl q2 ⟨[(0,v0),(1,v1),(2,v2),(3,v3),(8,v8),(9,v9),(10,v10),(11,t12),(12,(AI 1))],h8,(y9 ++ (y3 ++ x))⟩ K)
 (NW C gl q2 ⟨[(0,v0),(1,v1),(2,v2),(3,v3),(8,v8),(9,v9),(10,v10),(11,t4),(12,t5),(50,t6)],h2,(y3 ++ x)⟩ K)
theorem E_q07j_k3 {C gl q2 e h x K} : NW C gl (P_q07j_k3 q2) ⟨e,h,x⟩ K = d_q07j_k3 C gl q2 (aget e 0) (aget e 1) (aget e 2) (aget e 3) (aget e 8) (aget e 9) (aget e 10) h x K:=by kernel_rfl
theorem e_q07j_k3 {C gl e h x K} : NW C gl p_q07j_k3 ⟨e,h,x⟩ K = d_q07j_k3 C gl p_q07j_k2 (aget e 0) (aget e 1) (aget e 2) (aget e 3) (aget e 8) (aget e 9) (aget e 10) h x K:=E_q07j_k3
def P_q07j_k4 (q3 : ACode) : ACode:=.pr [0,1,2,3,8,9] (.block 1 (.seq (rg [mV 19 2,
mV 20 1,
bN 21 .sub 19 20,
mV 10 21] [0,1,2,3,8,9,10])
(.seq (.seq (rg [mV 22 10,
bN 23 .leq 22 (cI 12)] [0,1,2,3,8,9,10,23])
(.cond 23 (.seq (rg [mV 24 0,
mV 25 1,
mV 26 2,
cL 27 f_q06x [24,25,26]] [])
.ret)
.skip))
(.seq (.seq (rg [mV 28 3,
bN 29 .eql 28 (cI 0)] [0,1,2,3,8,9,10,29])
(.cond 29 (.seq (rg [mV 30 0,
mV 31 1,
mV 32 2,
cL 33 f_q06t [30,31,32]] [])
.ret)
.skip))
(.seq (.seq (rg [mV 34 8,
uO 35 (.un .not 34)] [0,1,2,3,8,9,10,35])
(.cond 35 (.seq (rg [mV 36 0,
mV 37 1,
mV 38 2,
cL 39 f_q06n [36,37,38]] [0,1,2,3,8,9,10])
(rg [mV 40 3,
bN 41 .sub 40 (cI 1),
mV 3 41] [0,1,2,3,8,9,10]))
.skip))
q3)))))
def p_q07j_k4 : ACode:=P_q07j_k4 p_q07j_k3
def d_q07j_k4 (C : Hd) (gl : GL) (q3 : ACode) (v0 v1 v2 v3 v8 v9 : AV) (h : Heap) (x : Esc) (K : KT) : Prop:=
 pK (oBin .sub v2 v1) fun t1=>
 pK (oBin .leq t1 (AI 12)) fun t2=>
 condB t2 (C f_q06x [v0,v1,v2] h fun t3 h4 y5=>
 K .ret ⟨[],h4,(y5 ++ x)⟩)
 (pK (oBin .eql v3 (AI 0)) fun t6=>
 condB t6 (C f_q06t [v0,v1,v2] h fun t7 h8 y9=>
 K .ret ⟨[],h8,(y9 ++ x)⟩)
 (pK (oUn .not v8) fun t10=>
 condB t10 (C f_q06n [v0,v1,v2] h fun t11 h12 y13=>
 pK (oBin .sub v3 (AI 1)) fun t14=>
 NW C gl q3 ⟨[(0,v0),(1,v1),(2,v2),(3,t14),(8,v8),(9,v9),(10,t1)],h12,(y13 ++ x)⟩ (blockN 1 K))
 (NW C gl q3 ⟨[(0,v0),(1,v1),(2,v2),(3,v3),(8,v8),(9,v9),(10,t1),(35,t10)],h,x⟩ (blockN 1 K))))
theorem E_q07j_k4 {C gl q3 e h x K} : NW C gl (P_q07j_k4 q3) ⟨e,h,x⟩ K = d_q07j_k4 C gl q3 (aget e 0) (aget e 1) (aget e 2) (aget e 3) (aget e 8) (aget e 9) h x K:=by kernel_rfl
theorem e_q07j_k4 {C gl e h x K} : NW C gl p_q07j_k4 ⟨e,h,x⟩ K = d_q07j_k4 C gl p_q07j_k3 (aget e 0) (aget e 1) (aget e 2) (aget e 3) (aget e 8) (aget e 9) h x K:=E_q07j_k4
theorem l_q07j_k4 {C gl e h x K} : NW C gl (.loop p_q07j_k4) ⟨e,h,x⟩ K = NLoop C gl p_q07j_k4 K [(0,aget e 0),(1,aget e 1),(2,aget e 2),(3,aget e 3),(8,aget e 8),(9,aget e 9)] h x:=NLoop_pr
def P_q07j (q4 : ACode) : ACode:=(.seq (rg [mV 8 cT] [0,1,2,3,8])
(.seq (rg [mV 9 cT] [0,1,2,3,8,9])
(.block 0 (.loop q4))))
def a_q07j : AFun:=⟨4,[],P_q07j p_q07j_k4,true,false⟩
def d_q07j (C : Hd) (gl : GL) (q4 : ACode) (v0 v1 v2 v3 : AV) (h : Heap) (x : Esc) (K : KT) : Prop:=
 NW C gl (.loop q4) ⟨[(0,v0),(1,v1),(2,v2),(3,v3),(8,(AB true)),(9,(AB true))],h,x⟩ (blockN 0 K)
theorem E_q07j {C gl q4 v0 v1 v2 v3 h x K} : NW C gl (P_q07j q4) ⟨enter [v0,v1,v2,v3],h,x⟩ K = d_q07j C gl q4 v0 v1 v2 v3 h x K:=by kernel_rfl
theorem e_q07j {C gl v0 v1 v2 v3 h x K} : NW C gl a_q07j.body ⟨enter [v0,v1,v2,v3],h,x⟩ K = d_q07j C gl p_q07j_k4 v0 v1 v2 v3 h x K:=E_q07j
def P_q03a : ACode:=(.seq (rg [mV 2 (cI 0)] [0])
(.seq (.cond cF (.seq (rg [mV 3 0,
uO 4 (.conv (.i .u32) 3),
cL 5 f_q03b [4],
mV 2 5] [2])
.ret)
.skip)
(.seq (rg [mV 6 0,
cL 7 f_q03c [6],
mV 2 7] [2])
.ret)))
def a_q03a : AFun:=⟨1,[.t 2],P_q03a,false,false⟩
def d_q03a (C : Hd) (gl : GL) (v0 : AV) (h : Heap) (x : Esc) (K : KT) : Prop:=
 condB (AB false) (pK (oConvI .u32 v0) fun t1=>
 C f_q03b [t1] h fun t2 h3 y4=>
 K .ret ⟨[(2,t2)],h3,(y4 ++ x)⟩)
 (C f_q03c [v0] h fun t5 h6 y7=>
 K .ret ⟨[(2,t5)],h6,(y7 ++ x)⟩)
theorem e_q03a {C gl v0 h x K} : NW C gl a_q03a.body ⟨enter [v0],h,x⟩ K = d_q03a C gl v0 h x K:=by kernel_rfl
def p_q01y_k1 : ACode:=.pr [0,1,5,6,7,8,9,10] (.seq (.seq (rg [mV 78 0,
mV 79 8,
bN 80 .add 79 (cI 1),
uO 81 (.idxs 78 80),
mV 82 7,
bN 83 .eql 81 82,
mV 84 83,
gD 85 84 true (.mv 0),
gD 86 84 true (.mv 8),
gD 87 84 true (.mv 8),
gD 88 84 true (.mv 5),
gD 89 84 true (.bin .add 87 88),
gD 90 84 true (.slstr 85 (some 86) (some 89)),
gD 91 84 true (.mv 1),
gD 92 84 true (.bin .eql 90 91),
uO 93 (.pick 84 92 cF)] [0,1,5,6,7,8,9,10,93])
(.cond 93 (.seq (rg [mV 94 8,
mV 4 94] [4])
.ret)
.skip))
(.seq (rg [mV 95 8,
bN 96 .add 95 (cI 1),
mV 8 96] [0,1,5,6,7,8,9,10])
(.seq (rg [mV 97 10,
bN 98 .add 97 (cI 1),
mV 10 98] [0,1,5,6,7,8,9,10])
(.seq (rg [mV 99 5,
lD 100 none (.g 2),
bN 101 .leq 99 100,
mV 102 101,
gD 103 102 true (.mv 10),
gD 104 102 true (.mv 8),
gD 105 102 true (.call f_q01e [104]),
gD 106 102 true (.bin .gtr 103 105),
uO 107 (.pick 102 106 cF)] [0,1,5,6,7,8,9,10,107])
(.cond 107 (.seq (rg [mV 108 0,
mV 109 8,
uO 110 (.slstr 108 (some 109) none),
mV 111 1,
cL 112 f_internal_bytealg_IndexString [110,111],
mV 12 112] [8,12])
(.seq (.seq (rg [mV 113 12,
bN 114 .geq 113 (cI 0)] [8,12,114])
(.cond 114 (.seq (rg [mV 115 12,
mV 116 8,
bN 117 .add 115 116,
mV 4 117] [4])
.ret)
.skip))
(.seq (rg [mV 4 (cI (-1))] [4])
.ret)))
(.seq (rg [mV 118 5,
lD 119 none (.g 2),
bN 120 .gtr 118 119,
mV 121 120,
gD 122 121 true (.mv 10),
gD 123 121 true (.mv 8),
gD 124 121 true (.bin .shr 123 (.c (.p (.int .u64 4)))),
gD 125 121 true (.bin .add (cI 4) 124),
gD 126 121 true (.bin .geq 122 125),
uO 127 (.pick 121 126 cF),
mV 128 127,
gD 129 128 true (.mv 8),
gD 130 128 true (.mv 9),
gD 131 128 true (.bin .lss 129 130),
uO 132 (.pick 128 131 cF)] [0,1,5,6,7,8,9,10,132])
(.cond 132 (.seq (rg [mV 133 0,
mV 134 8,
uO 135 (.slstr 133 (some 134) none),
mV 136 1,
cL 137 f_q01f [135,136],
mV 13 137] [8,13])
(.seq (.seq (rg [mV 138 13,
bN 139 .lss 138 (cI 0)] [8,13,139])
(.cond 139 (.seq (rg [mV 4 (cI (-1))] [4])
.ret)
.skip))
(.seq (rg [mV 140 8,
mV 141 13,
bN 142 .add 140 141,
mV 4 142] [4])
.ret)))
.skip)))))))
def d_q01y_k1 (C : Hd) (gl : GL) (v0 v1 v5 v6 v7 v8 v9 v10 : AV) (h : Heap) (x : Esc) (K : KT) : Prop:=
 pK (oBin .add v8 (AI 1)) fun t1=>
 pK (oIdxs v0 t1) fun t2=>
 pK (oBin .eql t2 v7) fun t3=>
 gM t3 true v0 h fun t4 h5 y6=>
 gM t3 true v8 h5 fun t7 h8 y9=>
 gM t3 true v8 h8 fun t10 h11 y12=>
 gM t3 true v5 h11 fun t13 h14 y15=>
 gP t3 true (oBin .add t10 t13) h14 fun t16 h17 y18=>
 gP t3 true (oSlstr t4 (some t7) (some t16)) h17 fun t19 h20 y21=>
 gM t3 true v1 h20 fun t22 h23 y24=>
 gP t3 true (oBin .eql t19 t22) h23 fun t25 h26 y27=>
 pK (oPick t3 t25 (AB false)) fun t28=>
 condB t28 (K .ret ⟨[(4,v8)],h26,(y27 ++ (y24 ++ (y21 ++ (y18 ++ (y15 ++ (y12 ++ (y9 ++ (y6 ++ x))))))))⟩)
 (pK (oBin .add v8 (AI 1)) fun t29=>
 pK (oBin .add v10 (AI 1)) fun t30=>
 pK (oLoad none (gv gl 2) h26) fun t31=>
 pK (oBin .leq v5 t31) fun t32=>
 gM t32 true t30 h26 fun t33 h34 y35=>
 gM t32 true t29 h34 fun t36 h37 y38=>
 gV t32 true h37 (C f_q01e [t36] h37) fun t39 h40 y41=>
 gP t32 true (oBin .gtr t33 t39) h40 fun t42 h43 y44=>
 pK (oPick t32 t42 (AB false)) fun t45=>
 condB t45 (pK (oSlstr v0 (some t29) none) fun t46=>
 C f_internal_bytealg_IndexString [t46,v1] h43 fun t47 h48 y49=>
 pK (oBin .geq t47 (AI 0)) fun t50=>
 condB t50 (pK (oBin .add t47 t29) fun t51=>
 K .ret ⟨[(4,t51)],h48,(y49 ++ (y44 ++ (y41 ++ (y38 ++ (y35 ++ (y27 ++ (y24 ++ (y21 ++ (y18 ++ (y15 ++ (y12 ++ (y9 ++ (y6 ++ x)))))))))))))⟩)
 (K .ret ⟨[(4,(AI (-1)))],h48,(y49 ++ (y44 ++ (y41 ++ (y38 ++ (y35 ++ (y27 ++ (y24 ++ (y21 ++ (y18 ++ (y15 ++ (y12 ++ (y9 ++ (y6 ++ x)))))))))))))⟩))
 (pK (oLoad none (gv gl 2) h43) fun t52=>
 pK (oBin .gtr v5 t52) fun t53=>
 gM t53 true t30 h43 fun t54 h55 y56=>
 gM t53 true t29 h55 fun t57 h58 y59=>
 gP t53 true (oBin .shr t57 (.p (.int .u64 4))) h58 fun t60 h61 y62=>
 gP t53 true (oBin .add (AI 4) t60) h61 fun t63 h64 y65=>
 gP t53 true (oBin .geq t54 t63) h64 fun t66 h67 y68=>
 pK (oPick t53 t66 (AB false)) fun t69=>
 gM t69 true t29 h67 fun t70 h71 y72=>
 gM t69 true v9 h71 fun t73 h74 y75=>
 gP t69 true (oBin .lss t70 t73) h74 fun t76 h77 y78=>
 pK (oPick t69 t76 (AB false)) fun t79=>
 condB t79 (pK (oSlstr v0 (some t29) none) fun t80=>
 C f_q01f [t80,v1] h77 fun t81 h82 y83=>
 pK (oBin .lss t81 (AI 0)) fun t84=>
 condB t84 (K .ret ⟨[(4,(AI (-1)))],h82,(y83 ++ (y78 ++ (y75 ++ (y72 ++ (y68 ++ (y65 ++ (y62 ++ (y59 ++ (y56 ++ (y44 ++ (y41 ++ (y38 ++ (y35 ++ (y27 ++ (y24 ++ (y21 ++ (y18 ++ (y15 ++ (y12 ++ (y9 ++ (y6 ++ x)))))))))))))))))))))⟩)
 (pK (oBin .add t29 t81) fun t85=>
 K .ret ⟨[(4,t85)],h82,(y83 ++ (y78 ++ (y75 ++ (y72 ++ (y68 ++ (y65 ++ (y62 ++ (y59 ++ (y56 ++ (y44 ++ (y41 ++ (y38 ++ (y35 ++ (y27 ++ (y24 ++ (y21 ++ (y18 ++ (y15 ++ (y12 ++ (y9 ++ (y6 ++ x)))))))))))))))))))))⟩))
 (K .normal ⟨[(0,v0),(1,v1),(5,v5),(6,v6),(7,v7),(8,t29),(9,v9),(10,t30),(132,t79)],h77,(y78 ++ (y75 ++ (y72 ++ (y68 ++ (y65 ++ (y62 ++ (y59 ++ (y56 ++ (y44 ++ (y41 ++ (y38 ++ (y35 ++ (y27 ++ (y24 ++ (y21 ++ (y18 ++ (y15 ++ (y12 ++ (y9 ++ (y6 ++ x))))))))))))))))))))⟩)))
theorem e_q01y_k1 {C gl e h x K} : NW C gl p_q01y_k1 ⟨e,h,x⟩ K = d_q01y_k1 C gl (aget e 0) (aget e 1) (aget e 5) (aget e 6) (aget e 7) (aget e 8) (aget e 9) (aget e 10) h x K:=by kernel_rfl
def P_q01y_k2 (q1 : ACode) : ACode:=.pr [0,1,5,6,7,8,9,10] (.seq (.seq (rg [mV 57 8,
mV 58 9,
bN 59 .lss 57 58] [0,1,5,6,7,8,9,10,59])
(.cond 59 .skip
(.exit 1)))
(.block 2 (.seq (.seq (rg [mV 60 0,
mV 61 8,
uO 62 (.idxs 60 61),
mV 63 6,
bN 64 .neq 62 63] [0,1,5,6,7,8,9,10,64])
(.cond 64 (.seq (rg [mV 65 0,
mV 66 8,
bN 67 .add 66 (cI 1),
mV 68 9,
uO 69 (.slstr 65 (some 67) (some 68)),
mV 70 6,
cL 71 f_q01z [69,70],
mV 11 71] [0,1,5,6,7,8,9,10,11])
(.seq (.seq (rg [mV 72 11,
bN 73 .lss 72 (cI 0)] [0,1,5,6,7,8,9,10,11,73])
(.cond 73 (.seq (rg [mV 4 (cI (-1))] [4])
.ret)
.skip))
(rg [mV 74 8,
mV 75 11,
bN 76 .add 75 (cI 1),
bN 77 .add 74 76,
mV 8 77] [0,1,5,6,7,8,9,10])))
.skip))
q1)))
def p_q01y_k2 : ACode:=P_q01y_k2 p_q01y_k1
def d_q01y_k2 (C : Hd) (gl : GL) (q1 : ACode) (v0 v1 v5 v6 v7 v8 v9 v10 : AV) (h : Heap) (x : Esc) (K : KT) : Prop:=
 pK (oBin .lss v8 v9) fun t1=>
 condB t1 (pK (oIdxs v0 v8) fun t2=>
 pK (oBin .neq t2 v6) fun t3=>
 condB t3 (pK (oBin .add v8 (AI 1)) fun t4=>
 pK (oSlstr v0 (some t4) (some v9)) fun t5=>
 C f_q01z [t5,v6] h fun t6 h7 y8=>
 pK (oBin .lss t6 (AI 0)) fun t9=>
 condB t9 (K .ret ⟨[(4,(AI (-1)))],h7,(y8 ++ x)⟩)
 (pK (oBin .add t6 (AI 1)) fun t10=>
 pK (oBin .add v8 t10) fun t11=>
 NW C gl q1 ⟨[(0,v0),(1,v1),(5,v5),(6,v6),(7,v7),(8,t11),(9,v9),(10,v10)],h7,(y8 ++ x)⟩ (blockN 2 K)))
 (NW C gl q1 ⟨[(0,v0),(1,v1),(5,v5),(6,v6),(7,v7),(8,v8),(9,v9),(10,v10),(64,t3)],h,x⟩ (blockN 2 K)))
 (K (.exit 1) ⟨[(0,v0),(1,v1),(5,v5),(6,v6),(7,v7),(8,v8),(9,v9),(10,v10),(59,t1)],h,x⟩)
theorem E_q01y_k2 {C gl q1 e h x K} : NW C gl (P_q01y_k2 q1) ⟨e,h,x⟩ K = d_q01y_k2 C gl q1 (aget e 0) (aget e 1) (aget e 5) (aget e 6) (aget e 7) (aget e 8) (aget e 9) (aget e 10) h x K:=by kernel_rfl
theorem e_q01y_k2 {C gl e h x K} : NW C gl p_q01y_k2 ⟨e,h,x⟩ K = d_q01y_k2 C gl p_q01y_k1 (aget e 0) (aget e 1) (aget e 5) (aget e 6) (aget e 7) (aget e 8) (aget e 9) (aget e 10) h x K:=E_q01y_k2
theorem l_q01y_k2 {C gl e h x K} : NW C gl (.loop p_q01y_k2) ⟨e,h,x⟩ K = NLoop C gl p_q01y_k2 K [(0,aget e 0),(1,aget e 1),(5,aget e 5),(6,aget e 6),(7,aget e 7),(8,aget e 8),(9,aget e 9),(10,aget e 10)] h x:=NLoop_pr
def p_q01y_k3 : ACode:=.pr [] (.seq (rg [mV 4 (cI (-1))] [4])
.ret)
def d_q01y_k3 (C : Hd) (gl : GL) (h : Heap) (x : Esc) (K : KT) : Prop:=
 K .ret ⟨[(4,(AI (-1)))],h,x⟩
theorem e_q01y_k3 {C gl e h x K} : NW C gl p_q01y_k3 ⟨e,h,x⟩ K = d_q01y_k3 C gl h x K:=by kernel_rfl
def P_q01y (q2 q3 : ACode) : ACode:=(.seq (rg [mV 4 (cI 0)] [0,1])
(.seq (rg [mV 14 1,
uO 15 (.lens 14),
mV 5 15] [0,1,5])
(.seq (.block 0 (.seq (rg [mV 17 5,
bN 18 .eql 17 (cI 0),
mV 19 18,
gD 20 19 false (.mv 1),
gD 21 19 false (.mv 0),
gD 22 19 false (.bin .eql 20 21),
uO 23 (.pick 19 cT 22),
mV 16 23] [0,1,5,16])
(.cond 16 (.seq (rg [mV 4 (cI 0)] [4])
.ret)
(.seq (rg [mV 25 5,
bN 26 .eql 25 (cI 1),
mV 24 26] [0,1,5,24])
(.cond 24 (.seq (rg [mV 27 0,
mV 28 1,
uO 29 (.idxs 28 (cI 0)),
cL 30 f_q01z [27,29],
mV 4 30] [4])
.ret)
(.seq (rg [mV 32 5,
mV 33 0,
uO 34 (.lens 33),
bN 35 .geq 32 34,
mV 31 35] [0,1,5,31])
(.cond 31 (.seq (rg [mV 4 (cI (-1))] [4])
.ret)
(.seq (rg [mV 37 5,
lD 38 none (.g 2),
bN 39 .leq 37 38,
mV 40 39,
gD 41 40 true (.mv 0),
gD 42 40 true (.lens 41),
gD 43 40 true (.bin .leq 42 (cI 64)),
uO 44 (.pick 40 43 cF),
mV 36 44] [0,1,5,36])
(.cond 36 (.seq (rg [mV 45 0,
mV 46 1,
cL 47 f_internal_bytealg_IndexString [45,46],
mV 4 47] [4])
.ret)
.skip)))))))))
(.seq (rg [mV 48 1,
uO 49 (.idxs 48 (cI 0)),
mV 6 49] [0,1,5,6])
(.seq (rg [mV 50 1,
uO 51 (.idxs 50 (cI 1)),
mV 7 51] [0,1,5,6,7])
(.seq (rg [mV 8 (cI 0)] [0,1,5,6,7,8])
(.seq (rg [mV 52 0,
uO 53 (.lens 52),
mV 54 5,
bN 55 .sub 53 54,
bN 56 .add 55 (cI 1),
mV 9 56] [0,1,5,6,7,8,9])
(.seq (rg [mV 10 (cI 0)] [0,1,5,6,7,8,9,10])
(.seq (.block 1 (.loop q2))
q3)))))))))
def a_q01y : AFun:=⟨2,[.t 4],P_q01y p_q01y_k2 p_q01y_k3,false,false⟩
def d_q01y (C : Hd) (gl : GL) (q2 q3 : ACode) (v0 v1 : AV) (h : Heap) (x : Esc) (K : KT) : Prop:=
 pK (oLens v1) fun t1=>
 pK (oBin .eql t1 (AI 0)) fun t2=>
 gM t2 false v1 h fun t3 h4 y5=>
 gM t2 false v0 h4 fun t6 h7 y8=>
 gP t2 false (oBin .eql t3 t6) h7 fun t9 h10 y11=>
 pK (oPick t2 (AB true) t9) fun t12=>
 condB t12 (K .ret ⟨[(4,(AI 0))],h10,(y11 ++ (y8 ++ (y5 ++ x)))⟩)
 (pK (oBin .eql t1 (AI 1)) fun t13=>
 condB t13 (pK (oIdxs v1 (AI 0)) fun t14=>
 C f_q01z [v0,t14] h10 fun t15 h16 y17=>
 K .ret ⟨[(4,t15)],h16,(y17 ++ (y11 ++ (y8 ++ (y5 ++ x))))⟩)
 (pK (oLens v0) fun t18=>
 pK (oBin .geq t1 t18) fun t19=>
 condB t19 (K .ret ⟨[(4,(AI (-1)))],h10,(y11 ++ (y8 ++ (y5 ++ x)))⟩)
 (pK (oLoad none (gv gl 2) h10) fun t20=>
 pK (oBin .leq t1 t20) fun t21=>
 gM t21 true v0 h10 fun t22 h23 y24=>
 gP t21 true (oLens t22) h23 fun t25 h26 y27=>
 gP t21 true (oBin .leq t25 (AI 64)) h26 fun t28 h29 y30=>
 pK (oPick t21 t28 (AB false)) fun t31=>
 condB t31 (C f_internal_bytealg_IndexString [v0,v1] h29 fun t32 h33 y34=>
 K .ret ⟨[(4,t32)],h33,(y34 ++ (y30 ++ (y27 ++ (y24 ++ (y11 ++ (y8 ++ (y5 ++ x)))))))⟩)
 (pK (oIdxs v1 (AI 0)) fun t35=>
 pK (oIdxs v1 (AI 1)) fun t36=>
 pK (oLens v0) fun t37=>
 pK (oBin .sub t37 t1) fun t38=>
 pK (oBin .add t38 (AI 1)) fun t39=>
 NW C gl (.loop q2) ⟨[(0,v0),(1,v1),(5,t1),(6,t35),(7,t36),(8,(AI 0)),(9,t39),(10,(AI 0))],h29,(y30 ++ (y27 ++ (y24 ++ (y11 ++ (y8 ++ (y5 ++ x))))))⟩ (blockN 1 (seqN C gl q3 K))))))
theorem E_q01y {C gl q2 q3 v0 v1 h x K} : NW C gl (P_q01y q2 q3) ⟨enter [v0,v1],h,x⟩ K = d_q01y C gl q2 q3 v0 v1 h x K:=by kernel_rfl
theorem e_q01y {C gl v0 v1 h x K} : NW C gl a_q01y.body ⟨enter [v0,v1],h,x⟩ K = d_q01y C gl p_q01y_k2 p_q01y_k3 v0 v1 h x K:=E_q01y
end Go.Am
end
section
/- The functions asv abstract code,and asv formulas over their values: printed by program out of the translation. -/
set_option linter.unusedVariables false
set_option maxRecDepth 100000
namespace Go.Am
def p_q068_k1 : ACode:=.pr [0,1,7,8] (.seq (rg [bN 9 .lss 8 7] [0,1,7,8,9])
(.seq (.cond 9 .skip
(.exit 0))
(.seq (.block 1 (.seq (rg [mV 10 8,
mV 5 10] [0,1,5,7,8])
(.seq (rg [mV 11 1,
mV 12 0,
mV 13 5,
iA 14 (some 4) 12 13,
lD 15 (some 4) 14,
uO 16 (.callv 11 [15])] [0,1,5,7,8,16])
(.cond 16 (.seq (rg [mV 17 5,
mV 4 17] [4])
.ret)
.skip))))
(rg [bN 18 .add 8 (cI 1),
mV 8 18] [0,1,7,8]))))
def d_q068_k1 (C : Hd) (gl : GL) (v0 v1 v7 v8 : AV) (h : Heap) (x : Esc) (K : KT) : Prop:=
 pK (oBin .lss v8 v7) fun t1=>
 condB t1 (pK (oIaddr (some 4) v0 v8 h) fun t2=>
 pK (oLoad (some 4) t2 h) fun t3=>
 callvK C v1 [t3] h fun t4 h5 y6=>
 condB t4 (K .ret ⟨[(4,v8)],h5,(y6 ++ x)⟩)
 (pK (oBin .add v8 (AI 1)) fun t7=>
 K .normal ⟨[(0,v0),(1,v1),(7,v7),(8,t7)],h5,(y6 ++ x)⟩))
 (K (.exit 0) ⟨[(0,v0),(1,v1),(7,v7),(8,v8),(9,t1)],h,x⟩)
theorem e_q068_k1 {C gl e h x K} : NW C gl p_q068_k1 ⟨e,h,x⟩ K = d_q068_k1 C gl (aget e 0) (aget e 1) (aget e 7) (aget e 8) h x K:=by kernel_rfl
theorem l_q068_k1 {C gl e h x K} : NW C gl (.loop p_q068_k1) ⟨e,h,x⟩ K = NLoop C gl p_q068_k1 K [(0,aget e 0),(1,aget e 1),(7,aget e 7),(8,aget e 8)] h x:=NLoop_pr
def p_q068_k2 : ACode:=.pr [] (.seq (rg [mV 4 (cI (-1))] [4])
.ret)
def d_q068_k2 (C : Hd) (gl : GL) (h : Heap) (x : Esc) (K : KT) : Prop:=
 K .ret ⟨[(4,(AI (-1)))],h,x⟩
theorem e_q068_k2 {C gl e h x K} : NW C gl p_q068_k2 ⟨e,h,x⟩ K = d_q068_k2 C gl h x K:=by kernel_rfl
def P_q068 (q1 q2 : ACode) : ACode:=(.seq (rg [mV 4 (cI 0)] [0,1])
(.seq (.seq (rg [mV 6 0,
lN 7 6,
mV 8 (cI 0)] [0,1,7,8])
(.block 0 (.loop q1)))
q2))
def a_q068 : AFun:=⟨2,[.t 4],P_q068 p_q068_k1 p_q068_k2,true,false⟩
def d_q068 (C : Hd) (gl : GL) (q1 q2 : ACode) (v0 v1 : AV) (h : Heap) (x : Esc) (K : KT) : Prop:=
 pK (oLen v0) fun t1=>
 NW C gl (.loop q1) ⟨[(0,v0),(1,v1),(7,t1),(8,(AI 0))],h,x⟩ (blockN 0 (seqN C gl q2 K))
theorem E_q068 {C gl q1 q2 v0 v1 h x K} : NW C gl (P_q068 q1 q2) ⟨enter [v0,v1],h,x⟩ K = d_q068 C gl q1 q2 v0 v1 h x K:=by kernel_rfl
theorem e_q068 {C gl v0 v1 h x K} : NW C gl a_q068.body ⟨enter [v0,v1],h,x⟩ K = d_q068 C gl p_q068_k1 p_q068_k2 v0 v1 h x K:=E_q068
def P_q02t : ACode:=(.seq (rg [uO 2 (.box 0),
mV 3 cF] [1,2])
(.seq (rg [fA 4 0 none 2,
lD 5 none 4,
lD 6 none 1,
bN 7 .eql 5 6,
mV 3 7] [3])
.ret))
def a_q02t : AFun:=⟨2,[.t 3],P_q02t,false,false⟩
def d_q02t (C : Hd) (gl : GL) (v0 v1 : AV) (h : Heap) (x : Esc) (K : KT) : Prop:=
 wK (oBox v0 h) fun t1 h2 y3=>
 pK (oFaddr 0 none t1) fun t4=>
 pK (oLoad none t4 h2) fun t5=>
 pK (oLoad none v1 h2) fun t6=>
 pK (oBin .eql t5 t6) fun t7=>
 K .ret ⟨[(3,t7)],h2,(y3 ++ x)⟩
theorem e_q02t {C gl v0 v1 h x K} : NW C gl a_q02t.body ⟨enter [v0,v1],h,x⟩ K = d_q02t C gl v0 v1 h x K:=by kernel_rfl
def p_q05b_k1 : ACode:=.pr [0,1,7,8] (.seq (rg [bN 9 .lss 8 7] [0,1,7,8,9])
(.seq (.cond 9 .skip
(.exit 0))
(.seq (.block 1 (.seq (rg [mV 10 8,
mV 5 10] [0,1,5,7,8])
(.seq (rg [mV 11 1,
mV 12 0,
mV 13 5,
uO 14 (.idxs 12 13),
cL 15 f_q08y [11,14],
bN 16 .lss 15 (cI 0)] [0,1,7,8,16])
(.cond 16 (.seq (rg [mV 4 cF] [4])
.ret)
.skip))))
(rg [bN 17 .add 8 (cI 1),
mV 8 17] [0,1,7,8]))))
def d_q05b_k1 (C : Hd) (gl : GL) (v0 v1 v7 v8 : AV) (h : Heap) (x : Esc) (K : KT) : Prop:=
 pK (oBin .lss v8 v7) fun t1=>
 condB t1 (pK (oIdxs v0 v8) fun t2=>
 C f_q08y [v1,t2] h fun t3 h4 y5=>
 pK (oBin .lss t3 (AI 0)) fun t6=>
 condB t6 (K .ret ⟨[(4,(AB false))],h4,(y5 ++ x)⟩)
 (pK (oBin .add v8 (AI 1)) fun t7=>
 K .normal ⟨[(0,v0),(1,v1),(7,v7),(8,t7)],h4,(y5 ++ x)⟩))
 (K (.exit 0) ⟨[(0,v0),(1,v1),(7,v7),(8,v8),(9,t1)],h,x⟩)
theorem e_q05b_k1 {C gl e h x K} : NW C gl p_q05b_k1 ⟨e,h,x⟩ K = d_q05b_k1 C gl (aget e 0) (aget e 1) (aget e 7) (aget e 8) h x K:=by kernel_rfl
theorem l_q05b_k1 {C gl e h x K} : NW C gl (.loop p_q05b_k1) ⟨e,h,x⟩ K = NLoop C gl p_q05b_k1 K [(0,aget e 0),(1,aget e 1),(7,aget e 7),(8,aget e 8)] h x:=NLoop_pr
def p_q05b_k2 : ACode:=.pr [] (.seq (rg [mV 4 cT] [4])
.ret)
def d_q05b_k2 (C : Hd) (gl : GL) (h : Heap) (x : Esc) (K : KT) : Prop:=
 K .ret ⟨[(4,(AB true))],h,x⟩
theorem e_q05b_k2 {C gl e h x K} : NW C gl p_q05b_k2 ⟨e,h,x⟩ K = d_q05b_k2 C gl h x K:=by kernel_rfl
def P_q05b (q1 q2 : ACode) : ACode:=(.seq (rg [mV 4 cF] [0,1])
(.seq (.seq (rg [mV 6 0,
uO 7 (.lens 6),
mV 8 (cI 0)] [0,1,7,8])
(.block 0 (.loop q1)))
q2))
def a_q05b : AFun:=⟨2,[.t 4],P_q05b p_q05b_k1 p_q05b_k2,false,false⟩
def d_q05b (C : Hd) (gl : GL) (q1 q2 : ACode) (v0 v1 : AV) (h : Heap) (x : Esc) (K : KT) : Prop:=
 pK (oLens v0) fun t1=>
 NW C gl (.loop q1) ⟨[(0,v0),(1,v1),(7,t1),(8,(AI 0))],h,x⟩ (blockN 0 (seqN C gl q2 K))
theorem E_q05b {C gl q1 q2 v0 v1 h x K} : NW C gl (P_q05b q1 q2) ⟨enter [v0,v1],h,x⟩ K = d_q05b C gl q1 q2 v0 v1 h x K:=by kernel_rfl
theorem e_q05b {C gl v0 v1 h x K} : NW C gl a_q05b.body ⟨enter [v0,v1],h,x⟩ K = d_q05b C gl p_q05b_k1 p_q05b_k2 v0 v1 h x K:=E_q05b
def P_q050 : ACode:=(.seq (rg [uO 2 (.box 0),
mV 3 cF] [1,2])
(.seq (rg [fA 4 0 none 2,
lD 5 none 4,
lD 6 none 1,
bN 7 .eql 5 6,
mV 3 7] [3])
.ret))
def a_q050 : AFun:=⟨2,[.t 3],P_q050,false,false⟩
def d_q050 (C : Hd) (gl : GL) (v0 v1 : AV) (h : Heap) (x : Esc) (K : KT) : Prop:=
 wK (oBox v0 h) fun t1 h2 y3=>
 pK (oFaddr 0 none t1) fun t4=>
 pK (oLoad none t4 h2) fun t5=>
 pK (oLoad none v1 h2) fun t6=>
 pK (oBin .eql t5 t6) fun t7=>
 K .ret ⟨[(3,t7)],h2,(y3 ++ x)⟩
theorem e_q050 {C gl v0 v1 h x K} : NW C gl a_q050.body ⟨enter [v0,v1],h,x⟩ K = d_q050 C gl v0 v1 h x K:=by kernel_rfl
def P_q01d : ACode:=(.seq (rg [mV 4 (cI 0)] [0,1])
(.seq (rg [mV 5 0,
mV 6 1,
cL 7 f_internal_bytealg_abigen_runtime_cmpstring [5,6],
mV 4 7] [4])
.ret))
def a_q01d : AFun:=⟨2,[.t 4],P_q01d,false,false⟩
def d_q01d (C : Hd) (gl : GL) (v0 v1 : AV) (h : Heap) (x : Esc) (K : KT) : Prop:=
 C f_internal_bytealg_abigen_runtime_cmpstring [v0,v1] h fun t1 h2 y3=>
 K .ret ⟨[(4,t1)],h2,(y3 ++ x)⟩
theorem e_q01d {C gl v0 v1 h x K} : NW C gl a_q01d.body ⟨enter [v0,v1],h,x⟩ K = d_q01d C gl v0 v1 h x K:=by kernel_rfl
def P_q04s : ACode:=(.seq (rg [mV 2 cF] [0])
(.seq (rg [mV 3 0,
cL 4 f_q05a [3,(cI 0),(cI 345686399999)],
mV 2 4] [2])
.ret))
def a_q04s : AFun:=⟨1,[.t 2],P_q04s,false,false⟩
def d_q04s (C : Hd) (gl : GL) (v0 : AV) (h : Heap) (x : Esc) (K : KT) : Prop:=
 C f_q05a [v0,(AI 0),(AI 345686399999)] h fun t1 h2 y3=>
 K .ret ⟨[(2,t1)],h2,(y3 ++ x)⟩
theorem e_q04s {C gl v0 h x K} : NW C gl a_q04s.body ⟨enter [v0],h,x⟩ K = d_q04s C gl v0 h x K:=by kernel_rfl
def P_q05g : ACode:=(.seq (rg [mV 2 cF] [0])
(.seq (rg [mV 3 0,
cL 4 f_q05a [3,(cI (-100000)),(cI 100000)],
uO 5 (.un .not 4),
mV 2 5] [2])
.ret))
def a_q05g : AFun:=⟨1,[.t 2],P_q05g,false,false⟩
def d_q05g (C : Hd) (gl : GL) (v0 : AV) (h : Heap) (x : Esc) (K : KT) : Prop:=
 C f_q05a [v0,(AI (-100000)),(AI 100000)] h fun t1 h2 y3=>
 pK (oUn .not t1) fun t4=>
 K .ret ⟨[(2,t4)],h2,(y3 ++ x)⟩
theorem e_q05g {C gl v0 h x K} : NW C gl a_q05g.body ⟨enter [v0],h,x⟩ K = d_q05g C gl v0 h x K:=by kernel_rfl
def p_q059_k1 : ACode:=.pr [0,7,8,9] (.seq (rg [bN 10 .lss 9 8] [0,7,8,9,10])
(.seq (.cond 10 .skip
(.exit 0))
(.seq (.block 1 (.seq (rg [mV 11 9,
iA 12 none 7 9,
lD 13 none 12,
mV 5 11,
mV 6 13] [0,5,6,7,8,9])
(.seq (dr [dF (mV 14 5) [5],
dF (mV 15 0) [0],
dF (lN 16 15) [15],
dF (bN 17 .lss 14 16) [14,16],
dF (mV 18 17) [17],
dF (gD 19 18 true (.mv 6)) [6,18],
dF (gD 20 18 true (.mv 0)) [0,18],
dF (gD 21 18 true (.mv 5)) [5,18],
dF (gD 22 18 true (.iaddr (some 4) 20 21)) [20,21,18],
dF (gD 23 18 true (.faddr 1 none 22)) [22,18],
dF (gD 24 18 true (.load none 23)) [23,18],
dF (gD 25 18 true (.mv 0)) [0,18],
dF (gD 26 18 true (.mv 5)) [5,18],
dF (gD 27 18 true (.iaddr (some 4) 25 26)) [25,26,18],
dF (gD 28 18 true (.faddr 2 none 27)) [27,18],
dF (gD 29 18 true (.load none 28)) [28,18],
dT (gD 30 18 true (.call f_q05a [19,24,29])) [19,24,29,18],
dF (gD 31 18 true (.un .not 30)) [30,18],
dF (uO 32 (.pick 18 31 cF)) [18,31]] [0,5,7,8,9,32])
(.cond 32 (.seq (rg [mV 33 5,
mV 4 33] [4])
.ret)
.skip))))
(rg [bN 34 .add 9 (cI 1),
mV 9 34] [0,7,8,9]))))
def d_q059_k1 (C : Hd) (gl : GL) (v0 v7 v8 v9 : AV) (h : Heap) (x : Esc) (K : KT) : Prop:=
 pK (oBin .lss v9 v8) fun t1=>
 condB t1 (pK (oIaddr none v7 v9 h) fun t2=>
 pK (oLoad none t2 h) fun t3=>
 pK (oLen v0) fun t4=>
 pK (oBin .lss v9 t4) fun t5=>
 gM t5 true t3 h fun t6 h7 y8=>
 gM t5 true v0 h7 fun t9 h10 y11=>
 gM t5 true v9 h10 fun t12 h13 y14=>
 gP t5 true (oIaddr (some 4) t9 t12 h13) h13 fun t15 h16 y17=>
 gP t5 true (oFaddr 1 none t15) h16 fun t18 h19 y20=>
 gP t5 true (oLoad none t18 h19) h19 fun t21 h22 y23=>
 gM t5 true v0 h22 fun t24 h25 y26=>
 gM t5 true v9 h25 fun t27 h28 y29=>
 gP t5 true (oIaddr (some 4) t24 t27 h28) h28 fun t30 h31 y32=>
 gP t5 true (oFaddr 2 none t30) h31 fun t33 h34 y35=>
 gP t5 true (oLoad none t33 h34) h34 fun t36 h37 y38=>
 gV t5 true h37 (callE C f_q05a [t6,t21,t36] h37) fun t39 h40 y41=>
 gP t5 true (oUn .not t39) h40 fun t42 h43 y44=>
 pK (oPick t5 t42 (AB false)) fun t45=>
 condB t45 (K .ret ⟨[(4,v9)],h43,(y44 ++ (y41 ++ (y38 ++ (y35 ++ (y32 ++ (y29 ++ (y26 ++ (y23 ++ (y20 ++ (y17 ++ (y14 ++ (y11 ++ (y8 ++ x)))))))))))))⟩)
 (pK (oBin .add v9 (AI 1)) fun t46=>
 K .normal ⟨[(0,v0),(7,v7),(8,v8),(9,t46)],h43,(y44 ++ (y41 ++ (y38 ++ (y35 ++ (y32 ++ (y29 ++ (y26 ++ (y23 ++ (y20 ++ (y17 ++ (y14 ++ (y11 ++ (y8 ++ x)))))))))))))⟩))
 (K (.exit 0) ⟨[(0,v0),(7,v7),(8,v8),(9,v9),(10,t1)],h,x⟩)
theorem e_q059_k1 {C gl e h x K} : NW C gl p_q059_k1 ⟨e,h,x⟩ K = d_q059_k1 C gl (aget e 0) (aget e 7) (aget e 8) (aget e 9) h x K:=by kernel_rfl
theorem l_q059_k1 {C gl e h x K} : NW C gl (.loop p_q059_k1) ⟨e,h,x⟩ K = NLoop C gl p_q059_k1 K [(0,aget e 0),(7,aget e 7),(8,aget e 8),(9,aget e 9)] h x:=NLoop_pr
def p_q059_k2 : ACode:=.pr [] (.seq (rg [mV 4 (cI (-1))] [4])
.ret)
def d_q059_k2 (C : Hd) (gl : GL) (h : Heap) (x : Esc) (K : KT) : Prop:=
 K .ret ⟨[(4,(AI (-1)))],h,x⟩
theorem e_q059_k2 {C gl e h x K} : NW C gl p_q059_k2 ⟨e,h,x⟩ K = d_q059_k2 C gl h x K:=by kernel_rfl
def P_q059 (q1 q2 : ACode) : ACode:=(.seq (rg [mV 4 (cI 0)] [0,1])
(.seq (.seq (rg [mV 7 1,
lN 8 7,
mV 9 (cI 0)] [0,7,8,9])
(.block 0 (.loop q1)))
q2))
def a_q059 : AFun:=⟨2,[.t 4],P_q059 p_q059_k1 p_q059_k2,false,false⟩
def d_q059 (C : Hd) (gl : GL) (q1 q2 : ACode) (v0 v1 : AV) (h : Heap) (x : Esc) (K : KT) : Prop:=
 pK (oLen v1) fun t1=>
 NW C gl (.loop q1) ⟨[(0,v0),(7,v1),(8,t1),(9,(AI 0))],h,x⟩ (blockN 0 (seqN C gl q2 K))
theorem E_q059 {C gl q1 q2 v0 v1 h x K} : NW C gl (P_q059 q1 q2) ⟨enter [v0,v1],h,x⟩ K = d_q059 C gl q1 q2 v0 v1 h x K:=by kernel_rfl
theorem e_q059 {C gl v0 v1 h x K} : NW C gl a_q059.body ⟨enter [v0,v1],h,x⟩ K = d_q059 C gl p_q059_k1 p_q059_k2 v0 v1 h x K:=E_q059
def P_q05k : ACode:=(.seq (rg [mV 2 (cI 0)] [0])
(.seq (.block 0 (.seq (rg [mV 4 0,
bN 5 .lss 4 (cI 0),
mV 3 5] [0,3])
(.cond 3 (.seq (rg [mV 2 (cI (-1))] [2])
.ret)
(.seq (rg [mV 7 0,
bN 8 .gtr 7 (cI 0),
mV 6 8] [6])
(.cond 6 (.seq (rg [mV 2 (cI 1)] [2])
.ret)
.skip)))))
(.seq (rg [mV 2 (cI 0)] [2])
.ret)))
def a_q05k : AFun:=⟨1,[.t 2],P_q05k,false,false⟩
def d_q05k (C : Hd) (gl : GL) (v0 : AV) (h : Heap) (x : Esc) (K : KT) : Prop:=
 pK (oBin .lss v0 (AI 0)) fun t1=>
 condB t1 (K .ret ⟨[(2,(AI (-1)))],h,x⟩)
 (pK (oBin .gtr v0 (AI 0)) fun t2=>
 condB t2 (K .ret ⟨[(2,(AI 1))],h,x⟩)
 (K .ret ⟨[(2,(AI 0))],h,x⟩))
theorem e_q05k {C gl v0 h x K} : NW C gl a_q05k.body ⟨enter [v0],h,x⟩ K = d_q05k C gl v0 h x K:=by kernel_rfl
def P_q02y : ACode:=(.seq (rg [uO 3 (.box 1),
mV 4 (cI 0)] [0,3])
(.seq (.block 0 (.seq (rg [fA 6 0 none 3,
lD 7 none 6,
cL 8 f_q006 [7],
uO 9 (.un .not 8),
mV 10 9,
gD 11 10 false (.faddr 2 none 3),
gD 12 10 false (.load none 11),
gD 13 10 false (.call f_q006 [12]),
gD 14 10 false (.un .not 13),
uO 15 (.pick 10 cT 14),
mV 5 15] [0,3,5])
(.cond 5 (.seq (rg [mV 4 (cI 5)] [4])
.ret)
(.seq (rg [fA 17 1 none 3,
lD 18 none 17,
cL 19 f_q007 [18],
uO 20 (.un .not 19),
mV 21 20,
gD 22 21 false (.faddr 3 none 3),
gD 23 21 false (.load none 22),
gD 24 21 false (.call f_q05w [23,(.f f_q02z)]),
uO 25 (.pick 21 cT 24),
mV 16 25] [0,3,16])
(.cond 16 (.seq (rg [mV 4 (cI 1)] [4])
.ret)
(.seq (rg [mV 27 0,
lD 28 (some 4) 3,
cL 29 f_q02m [27,28],
uO 30 (.un .not 29),
mV 26 30] [26])
(.cond 26 (.seq (rg [mV 4 (cI 3)] [4])
.ret)
.skip)))))))
(.seq (rg [mV 4 (cI 0)] [4])
.ret)))
def a_q02y : AFun:=⟨2,[.t 4],P_q02y,false,false⟩
def d_q02y (C : Hd) (gl : GL) (v0 v1 : AV) (h : Heap) (x : Esc) (K : KT) : Prop:=
 wK (oBox v1 h) fun t1 h2 y3=>
 pK (oFaddr 0 none t1) fun t4=>
 pK (oLoad none t4 h2) fun t5=>
 C f_q006 [t5] h2 fun t6 h7 y8=>
 pK (oUn .not t6) fun t9=>
 gP t9 false (oFaddr 2 none t1) h7 fun t10 h11 y12=>
 gP t9 false (oLoad none t10 h11) h11 fun t13 h14 y15=>
 gV t9 false h14 (C f_q006 [t13] h14) fun t16 h17 y18=>
 gP t9 false (oUn .not t16) h17 fun t19 h20 y21=>
 pK (oPick t9 (AB true) t19) fun t22=>
 condB t22 (K .ret ⟨[(4,(AI 5))],h20,(y21 ++ (y18 ++ (y15 ++ (y12 ++ (y8 ++ (y3 ++ x))))))⟩)
 (pK (oFaddr 1 none t1) fun t23=>
 pK (oLoad none t23 h20) fun t24=>
 C f_q007 [t24] h20 fun t25 h26 y27=>
 pK (oUn .not t25) fun t28=>
 gP t28 false (oFaddr 3 none t1) h26 fun t29 h30 y31=>
 gP t28 false (oLoad none t29 h30) h30 fun t32 h33 y34=>
 gV t28 false h33 (C f_q05w [t32,(.fn f_q02z [])] h33) fun t35 h36 y37=>
 pK (oPick t28 (AB true) t35) fun t38=>
 condB t38 (K .ret ⟨[(4,(AI 1))],h36,(y37 ++ (y34 ++ (y31 ++ (y27 ++ (y21 ++ (y18 ++ (y15 ++ (y12 ++ (y8 ++ (y3 ++ x))))))))))⟩)
 (pK (oLoad (some 4) t1 h36) fun t39=>
 C f_q02m [v0,t39] h36 fun t40 h41 y42=>
 pK (oUn .not t40) fun t43=>
 condB t43 (K .ret ⟨[(4,(AI 3))],h41,(y42 ++ (y37 ++ (y34 ++ (y31 ++ (y27 ++ (y21 ++ (y18 ++ (y15 ++ (y12 ++ (y8 ++ (y3 ++ x)))))))))))⟩)
 (K .ret ⟨[(4,(AI 0))],h41,(y42 ++ (y37 ++ (y34 ++ (y31 ++ (y27 ++ (y21 ++ (y18 ++ (y15 ++ (y12 ++ (y8 ++ (y3 ++ x)))))))))))⟩)))
theorem e_q02y {C gl v0 v1 h x K} : NW C gl a_q02y.body ⟨enter [v0,v1],h,x⟩ K = d_q02y C gl v0 v1 h x K:=by kernel_rfl
def p_q06u_k1 : ACode:=.pr [0,1,2,3,8,9] (.seq (.seq (dr [dF (mV 18 9) [9],
dF (mV 19 1) [1],
dF (bN 20 .gtr 18 19) [18,19],
dF (mV 21 20) [20],
dF (gD 22 21 true (.mv 3)) [3,21],
dF (gD 23 21 true (.mv 0)) [0,21],
dF (gD 24 21 true (.mv 9)) [9,21],
dF (gD 25 21 true (.iaddr (some 4) 23 24)) [23,24,21],
dF (gD 26 21 true (.load (some 4) 25)) [25,21],
dF (gD 27 21 true (.mv 0)) [0,21],
dF (gD 28 21 true (.mv 9)) [9,21],
dF (gD 29 21 true (.bin .sub 28 (cI 1))) [28,21],
dF (gD 30 21 true (.iaddr (some 4) 27 29)) [27,29,21],
dF (gD 31 21 true (.load (some 4) 30)) [30,21],
dT (gD 32 21 true (.callv 22 [26,31])) [22,26,31,21],
dF (gD 33 21 true (.bin .lss 32 (cI 0))) [32,21],
dF (uO 34 (.pick 21 33 cF)) [21,33]] [0,1,2,3,8,9,34])
(.cond 34 .skip
(.exit 2)))
(.seq (.block 3 (dr [dF (mV 37 0) [0],
dF (mV 38 9) [9],
dF (mV 39 0) [0],
dF (mV 40 9) [9],
dF (bN 41 .sub 40 (cI 1)) [40],
dF (mV 42 0) [0],
dF (mV 43 9) [9],
dF (bN 44 .sub 43 (cI 1)) [43],
dF (iA 45 (some 4) 42 44) [42,44],
dF (lD 46 (some 4) 45) [45],
dF (mV 47 0) [0],
dF (mV 48 9) [9],
dF (iA 49 (some 4) 47 48) [47,48],
dF (lD 50 (some 4) 49) [49],
dF (iA 51 (some 4) 37 38) [37,38],
dT (wO (.store (some 4) 51 46)) [51,46],
dF (iA 52 (some 4) 39 41) [39,41],
dT (wO (.store (some 4) 52 50)) [52,50]] [0,1,2,3,8,9]))
(rg [mV 35 9,
bN 36 .sub 35 (cI 1),
mV 9 36] [0,1,2,3,8,9])))
def d_q06u_k1 (C : Hd) (gl : GL) (v0 v1 v2 v3 v8 v9 : AV) (h : Heap) (x : Esc) (K : KT) : Prop:=
 pK (oBin .gtr v9 v1) fun t1=>
 gM t1 true v3 h fun t2 h3 y4=>
 gM t1 true v0 h3 fun t5 h6 y7=>
 gM t1 true v9 h6 fun t8 h9 y10=>
 gP t1 true (oIaddr (some 4) t5 t8 h9) h9 fun t11 h12 y13=>
 gP t1 true (oLoad (some 4) t11 h12) h12 fun t14 h15 y16=>
 gM t1 true v0 h15 fun t17 h18 y19=>
 gM t1 true v9 h18 fun t20 h21 y22=>
 gP t1 true (oBin .sub t20 (AI 1)) h21 fun t23 h24 y25=>
 gP t1 true (oIaddr (some 4) t17 t23 h24) h24 fun t26 h27 y28=>
 gP t1 true (oLoad (some 4) t26 h27) h27 fun t29 h30 y31=>
 gV t1 true h30 (callvE C t2 [t14,t29] h30) fun t32 h33 y34=>
 gP t1 true (oBin .lss t32 (AI 0)) h33 fun t35 h36 y37=>
 pK (oPick t1 t35 (AB false)) fun t38=>
 condB t38 (pK (oBin .sub v9 (AI 1)) fun t39=>
 pK (oBin .sub v9 (AI 1)) fun t40=>
 pK (oIaddr (some 4) v0 t40 h36) fun t41=>
 pK (oLoad (some 4) t41 h36) fun t42=>
 pK (oIaddr (some 4) v0 v9 h36) fun t43=>
 pK (oLoad (some 4) t43 h36) fun t44=>
 pK (oIaddr (some 4) v0 v9 h36) fun t45=>
 wK (oStore (some 4) t45 t42 h36) fun t46 h47 y48=>
 pK (oIaddr (some 4) v0 t39 h47) fun t49=>
 wK (oStore (some 4) t49 t44 h47) fun t50 h51 y52=>
 pK (oBin .sub v9 (AI 1)) fun t53=>
 K .normal ⟨[(0,v0),(1,v1),(2,v2),(3,v3),(8,v8),(9,t53)],h51,(y52 ++ (y48 ++ (y37 ++ (y34 ++ (y31 ++ (y28 ++ (y25 ++ (y22 ++ (y19 ++ (y16 ++ (y13 ++ (y10 ++ (y7 ++ (y4 ++ x))))))))))))))⟩)
 (K (.exit 2) ⟨[(0,v0),(1,v1),(2,v2),(3,v3),(8,v8),(9,v9),(34,t38)],h36,(y37 ++ (y34 ++ (y31 ++ (y28 ++ (y25 ++ (y22 ++ (y19 ++ (y16 ++ (y13 ++ (y10 ++ (y7 ++ (y4 ++ x))))))))))))⟩)
theorem e_q06u_k1 {C gl e h x K} : NW C gl p_q06u_k1 ⟨e,h,x⟩ K = d_q06u_k1 C gl (aget e 0) (aget e 1) (aget e 2) (aget e 3) (aget e 8) (aget e 9) h x K:=by kernel_rfl
theorem l_q06u_k1 {C gl e h x K} : NW C gl (.loop p_q06u_k1) ⟨e,h,x⟩ K = NLoop C gl p_q06u_k1 K [(0,aget e 0),(1,aget e 1),(2,aget e 2),(3,aget e 3),(8,aget e 8),(9,aget e 9)] h x:=NLoop_pr
def p_q06u_k2 : ACode:=.pr [0,1,2,3,8] (rg [mV 15 8,
bN 16 .add 15 (cI 1),
mV 8 16] [0,1,2,3,8])
def d_q06u_k2 (C : Hd) (gl : GL) (v0 v1 v2 v3 v8 : AV) (h : Heap) (x : Esc) (K : KT) : Prop:=
 pK (oBin .add v8 (AI 1)) fun t1=>
 K .normal ⟨[(0,v0),(1,v1),(2,v2),(3,v3),(8,t1)],h,x⟩
theorem e_q06u_k2 {C gl e h x K} : NW C gl p_q06u_k2 ⟨e,h,x⟩ K = d_q06u_k2 C gl (aget e 0) (aget e 1) (aget e 2) (aget e 3) (aget e 8) h x K:=by kernel_rfl
def P_q06u_k3 (q1 q2 : ACode) : ACode:=.pr [0,1,2,3,8] (.seq (.seq (rg [mV 12 8,
mV 13 2,
bN 14 .lss 12 13] [0,1,2,3,8,14])
(.cond 14 .skip
(.exit 0)))
(.seq (.block 1 (.seq (rg [mV 17 8,
mV 9 17] [0,1,2,3,8,9])
(.block 2 (.loop q1))))
q2))
def p_q06u_k3 : ACode:=P_q06u_k3 p_q06u_k1 p_q06u_k2
def d_q06u_k3 (C : Hd) (gl : GL) (q1 q2 : ACode) (v0 v1 v2 v3 v8 : AV) (h : Heap) (x : Esc) (K : KT) : Prop:=
 pK (oBin .lss v8 v2) fun t1=>
 condB t1 (NW C gl (.loop q1) ⟨[(0,v0),(1,v1),(2,v2),(3,v3),(8,v8),(9,v8)],h,x⟩ (blockN 2 (blockN 1 (seqN C gl q2 K))))
 (K (.exit 0) ⟨[(0,v0),(1,v1),(2,v2),(3,v3),(8,v8),(14,t1)],h,x⟩)
theorem E_q06u_k3 {C gl q1 q2 e h x K} : NW C gl (P_q06u_k3 q1 q2) ⟨e,h,x⟩ K = d_q06u_k3 C gl q1 q2 (aget e 0) (aget e 1) (aget e 2) (aget e 3) (aget e 8) h x K:=by kernel_rfl
theorem e_q06u_k3 {C gl e h x K} : NW C gl p_q06u_k3 ⟨e,h,x⟩ K = d_q06u_k3 C gl p_q06u_k1 p_q06u_k2 (aget e 0) (aget e 1) (aget e 2) (aget e 3) (aget e 8) h x K:=E_q06u_k3
theorem l_q06u_k3 {C gl e h x K} : NW C gl (.loop p_q06u_k3) ⟨e,h,x⟩ K = NLoop C gl p_q06u_k3 K [(0,aget e 0),(1,aget e 1),(2,aget e 2),(3,aget e 3),(8,aget e 8)] h x:=NLoop_pr
def P_q06u (q3 : ACode) : ACode:=(.seq (rg [mV 10 1,
bN 11 .add 10 (cI 1),
mV 8 11] [0,1,2,3,8])
(.block 0 (.loop q3)))
def a_q06u : AFun:=⟨4,[],P_q06u p_q06u_k3,true,false⟩
def d_q06u (C : Hd) (gl : GL) (q3 : ACode) (v0 v1 v2 v3 : AV) (h : Heap) (x : Esc) (K : KT) : Prop:=
 pK (oBin .add v1 (AI 1)) fun t1=>
 NW C gl (.loop q3) ⟨[(0,v0),(1,v1),(2,v2),(3,v3),(8,t1)],h,x⟩ (blockN 0 K)
theorem E_q06u {C gl q3 v0 v1 v2 v3 h x K} : NW C gl (P_q06u q3) ⟨enter [v0,v1,v2,v3],h,x⟩ K = d_q06u C gl q3 v0 v1 v2 v3 h x K:=by kernel_rfl
theorem e_q06u {C gl v0 v1 v2 v3 h x K} : NW C gl a_q06u.body ⟨enter [v0,v1,v2,v3],h,x⟩ K = d_q06u C gl p_q06u_k3 v0 v1 v2 v3 h x K:=E_q06u
def p_q07h_k1 : ACode:=.pr [0,1,2,3,4,10,11,12,13] (.seq (.seq (dr [dF (mV 81 1) [1],
dF (bN 82 .gtr 81 (cI 0)) [81],
dF (mV 83 82) [82],
dF (gD 84 83 true (.mv 4)) [4,83],
dF (gD 85 83 true (.mv 0)) [0,83],
dF (gD 86 83 true (.mv 1)) [1,83],
dF (gD 87 83 true (.bin .sub 86 (cI 1))) [86,83],
dF (gD 88 83 true (.iaddr (some 4) 85 87)) [85,87,83],
dF (gD 89 83 true (.load (some 4) 88)) [88,83],
dF (gD 90 83 true (.mv 0)) [0,83],
dF (gD 91 83 true (.mv 13)) [13,83],
dF (gD 92 83 true (.iaddr (some 4) 90 91)) [90,91,83],
dF (gD 93 83 true (.load (some 4) 92)) [92,83],
dT (gD 94 83 true (.callv 84 [89,93])) [84,89,93,83],
dF (gD 95 83 true (.bin .lss 94 (cI 0))) [94,83],
dF (gD 96 83 true (.un .not 95)) [95,83],
dF (uO 97 (.pick 83 96 cF)) [83,96]] [0,1,2,3,4,10,11,12,13,97])
(.cond 97 (.seq (rg [mV 98 0,
mV 99 1,
mV 100 2,
mV 101 13,
mV 102 4,
cL 103 f_q07c [98,99,100,101,102],
mV 15 103] [0,2,3,4,10,11,15])
(.seq (rg [mV 104 15,
mV 1 104] [0,1,2,3,4,10,11])
(.exit 1)))
.skip))
(.seq (rg [mV 106 0,
mV 107 1,
mV 108 2,
mV 109 13,
mV 110 4,
cL 111 f_q07b [106,107,108,109,110],
mV 105 111,
eX 112 105 0,
eX 113 105 1,
mV 16 112,
mV 17 113] [0,1,2,3,4,12,16,17])
(.seq (rg [mV 114 17,
mV 11 114] [0,1,2,3,4,11,12,16])
(.seq (rg [mV 115 16,
mV 116 1,
bN 117 .sub 115 116,
mV 118 2,
mV 119 16,
bN 120 .sub 118 119,
mV 18 117,
mV 19 120] [0,1,2,3,4,11,12,16,18,19])
(.seq (rg [mV 121 12,
bN 122 .quo 121 (cI 8),
mV 20 122] [0,1,2,3,4,11,16,18,19,20])
(.seq (rg [mV 123 18,
mV 124 19,
bN 125 .lss 123 124] [0,1,2,3,4,11,16,18,19,20,125])
(.cond 125 (.seq (rg [mV 126 18,
mV 127 20,
bN 128 .geq 126 127,
mV 10 128] [0,1,2,3,4,10,11,16])
(.seq (rg [mV 129 0,
mV 130 1,
mV 131 16,
mV 132 3,
mV 133 4,
cL 134 f_q07h [129,130,131,132,133]] [0,2,3,4,10,11,16])
(rg [mV 135 16,
bN 136 .add 135 (cI 1),
mV 1 136] [0,1,2,3,4,10,11])))
(.seq (rg [mV 137 19,
mV 138 20,
bN 139 .geq 137 138,
mV 10 139] [0,1,2,3,4,10,11,16])
(.seq (rg [mV 140 0,
mV 141 16,
bN 142 .add 141 (cI 1),
mV 143 2,
mV 144 3,
mV 145 4,
cL 146 f_q07h [140,142,143,144,145]] [0,1,3,4,10,11,16])
(rg [mV 147 16,
mV 2 147] [0,1,2,3,4,10,11]))))))))))
def d_q07h_k1 (C : Hd) (gl : GL) (v0 v1 v2 v3 v4 v10 v11 v12 v13 : AV) (h : Heap) (x : Esc) (K : KT) : Prop:=
 pK (oBin .gtr v1 (AI 0)) fun t1=>
 gM t1 true v4 h fun t2 h3 y4=>
 gM t1 true v0 h3 fun t5 h6 y7=>
 gM t1 true v1 h6 fun t8 h9 y10=>
 gP t1 true (oBin .sub t8 (AI 1)) h9 fun t11 h12 y13=>
 gP t1 true (oIaddr (some 4) t5 t11 h12) h12 fun t14 h15 y16=>
 gP t1 true (oLoad (some 4) t14 h15) h15 fun t17 h18 y19=>
 gM t1 true v0 h18 fun t20 h21 y22=>
 gM t1 true v13 h21 fun t23 h24 y25=>
 gP t1 true (oIaddr (some 4) t20 t23 h24) h24 fun t26 h27 y28=>
 gP t1 true (oLoad (some 4) t26 h27) h27 fun t29 h30 y31=>
 gV t1 true h30 (callvE C t2 [t17,t29] h30) fun t32 h33 y34=>
 gP t1 true (oBin .lss t32 (AI 0)) h33 fun t35 h36 y37=>
 gP t1 true (oUn .not t35) h36 fun t38 h39 y40=>
 pK (oPick t1 t38 (AB false)) fun t41=>
 condB t41 (C f_q07c [v0,v1,v2,v13,v4] h39 fun t42 h43 y44=>
 K (.exit 1) ⟨[(0,v0),(1,t42),(2,v2),(3,v3),(4,v4),(10,v10),(11,v11)],h43,(y44 ++ (y40 ++ (y37 ++ (y34 ++ (y31 ++ (y28 ++ (y25 ++ (y22 ++ (y19 ++ (y16 ++ (y13 ++ (y10 ++ (y7 ++ (y4 ++ x))))))))))))))⟩)
 (C f_q07b [v0,v1,v2,v13,v4] h39 fun t45 h46 y47=>
 pK (oExt t45 0) fun t48=>
 pK (oExt t45 1) fun t49=>
 pK (oBin .sub t48 v1) fun t50=>
 pK (oBin .sub v2 t48) fun t51=>
 pK (oBin .quo v12 (AI 8)) fun t52=>
 pK (oBin .lss t50 t51) fun t53=>
 condB t53 (pK (oBin .geq t50 t52) fun t54=>
 C f_q07h [v0,v1,t48,v3,v4] h46 fun t55 h56 y57=>
 pK (oBin .add t48 (AI 1)) fun t58=>
 K .normal ⟨[(0,v0),(1,t58),(2,v2),(3,v3),(4,v4),(10,t54),(11,t49)],h56,(y57 ++ (y47 ++ (y40 ++ (y37 ++ (y34 ++ (y31 ++ (y28 ++ (y25 ++ (y22 ++ (y19 ++ (y16 ++ (y13 ++ (y10 ++ (y7 ++ (y4 ++ x)))))))))))))))⟩)
 (pK (oBin .geq t51 t52) fun t59=>
 pK (oBin .add t48 (AI 1)) fun t60=>
 C f_q07h [v0,t60,v2,v3,v4] h46 fun t61 h62 y63=>
 K .normal ⟨[(0,v0),(1,v1),(2,t48),(3,v3),(4,v4),(10,t59),(11,t49)],h62,(y63 ++ (y47 ++ (y40 ++ (y37 ++ (y34 ++ (y31 ++ (y28 ++ (y25 ++ (y22 ++ (y19 ++ (y16 ++ (y13 ++ (y10 ++ (y7 ++ (y4 ++ x)))))))))))))))⟩))
theorem e_q07h_k1 {C gl e h x K} : NW C gl p_q07h_k1 ⟨e,h,x⟩ K = d_q07h_k1 C gl (aget e 0) (aget e 1) (aget e 2) (aget e 3) (aget e 4) (aget e 10) (aget e 11) (aget e 12) (aget e 13) h x K:=by kernel_rfl
def P_q07h_k2 (q1 : ACode) : ACode:=.pr [0,1,2,3,4,10,11,12,13,14] (.seq (.seq (rg [mV 68 10,
mV 69 68,
gD 70 69 true (.mv 11),
uO 71 (.pick 69 70 cF),
mV 72 71,
gD 73 72 true (.mv 14),
gD 74 72 true (.bin .eql 73 (cI 1)),
uO 75 (.pick 72 74 cF)] [0,1,2,3,4,10,11,12,13,75])
(.cond 75 (.seq (rg [mV 76 0,
mV 77 1,
mV 78 2,
mV 79 4,
cL 80 f_q078 [76,77,78,79]] [0,1,2,3,4,10,11,12,13,80])
(.cond 80 .ret
.skip))
.skip))
q1)
def p_q07h_k2 : ACode:=P_q07h_k2 p_q07h_k1
def d_q07h_k2 (C : Hd) (gl : GL) (q1 : ACode) (v0 v1 v2 v3 v4 v10 v11 v12 v13 v14 : AV) (h : Heap) (x : Esc) (K : KT) : Prop:=
 gM v10 true v11 h fun t1 h2 y3=>
 pK (oPick v10 t1 (AB false)) fun t4=>
 gM t4 true v14 h2 fun t5 h6 y7=>
 gP t4 true (oBin .eql t5 (AI 1)) h6 fun t8 h9 y10=>
 pK (oPick t4 t8 (AB false)) fun t11=>
 condB t11 (C f_q078 [v0,v1,v2,v4] h9 fun t12 h13 y14=>
 condB t12 (K .ret ⟨[(0,v0),(1,v1),(2,v2),(3,v3),(4,v4),(10,v10),(11,v11),(12,v12),(13,v13),(80,t12)],h13,(y14 ++ (y10 ++ (y7 ++ (y3 ++ x))))⟩)
 (NW C gl q1 ⟨[(0,v0),(1,v1),(2,v2),(3,v3),(4,v4),(10,v10),(11,v11),(12,v12),(13,v13),(80,t12)],h13,(y14 ++ (y10 ++ (y7 ++ (y3 ++ x))))⟩ K))
 (NW C gl q1 ⟨[(0,v0),(1,v1),(2,v2),(3,v3),(4,v4),(10,v10),(11,v11),(12,v12),(13,v13),(75,t11)],h9,(y10 ++ (y7 ++ (y3 ++ x)))⟩ K)
theorem E_q07h_k2 {C gl q1 e h x K} : NW C gl (P_q07h_k2 q1) ⟨e,h,x⟩ K = d_q07h_k2 C gl q1 (aget e 0) (aget e 1) (aget e 2) (aget e 3) (aget e 4) (aget e 10) (aget e 11) (aget e 12) (aget e 13) (aget e 14) h x K:=by kernel_rfl
theorem e_q07h_k2 {C gl e h x K} : NW C gl p_q07h_k2 ⟨e,h,x⟩ K = d_q07h_k2 C gl p_q07h_k1 (aget e 0) (aget e 1) (aget e 2) (aget e 3) (aget e 4) (aget e 10) (aget e 11) (aget e 12) (aget e 13) (aget e 14) h x K:=E_q07h_k2
def P_q07h_k3 (q2 : ACode) : ACode:=.pr [0,1,2,3,4,10,11,12] (.seq (rg [mV 48 0,
mV 49 1,
mV 50 2,
mV 51 4,
cL 52 f_q06o [48,49,50,51],
mV 47 52,
eX 53 47 0,
eX 54 47 1,
mV 13 53,
mV 14 54] [0,1,2,3,4,10,11,12,13,14])
(.seq (.seq (rg [mV 55 14,
bN 56 .eql 55 (cI 2)] [0,1,2,3,4,10,11,12,13,14,56])
(.cond 56 (.seq (rg [mV 57 0,
mV 58 1,
mV 59 2,
mV 60 4,
cL 61 f_q07k [57,58,59,60]] [0,1,2,3,4,10,11,12,13])
(.seq (rg [mV 62 2,
bN 63 .sub 62 (cI 1),
mV 64 13,
mV 65 1,
bN 66 .sub 64 65,
bN 67 .sub 63 66,
mV 13 67] [0,1,2,3,4,10,11,12,13])
(rg [mV 14 (cI 1)] [0,1,2,3,4,10,11,12,13,14])))
.skip))
q2))
def p_q07h_k3 : ACode:=P_q07h_k3 p_q07h_k2
def d_q07h_k3 (C : Hd) (gl : GL) (q2 : ACode) (v0 v1 v2 v3 v4 v10 v11 v12 : AV) (h : Heap) (x : Esc) (K : KT) : Prop:=
 C f_q06o [v0,v1,v2,v4] h fun t1 h2 y3=>
 pK (oExt t1 0) fun t4=>
 pK (oExt t1 1) fun t5=>
 pK (oBin .eql t5 (AI 2)) fun t6=>
 condB t6 (C f_q07k [v0,v1,v2,v4] h2 fun t7 h8 y9=>
 pK (oBin .sub v2 (AI 1)) fun t10=>
 pK (oBin .sub t4 v1) fun t11=>
 pK (oBin .sub t10 t11) fun t12=>
 NW C gl q2 ⟨[(0,v0),(1,v1),(2,v2),(3,v3),(4,v4),(10,v10),(11,v11),(12,v12),(13,t12),(14,(AI 1))],h8,(y9 ++ (y3 ++ x))⟩ K)
 (NW C gl q2 ⟨[(0,v0),(1,v1),(2,v2),(3,v3),(4,v4),(10,v10),(11,v11),(12,v12),(13,t4),(14,t5),(56,t6)],h2,(y3 ++ x)⟩ K)
theorem E_q07h_k3 {C gl q2 e h x K} : NW C gl (P_q07h_k3 q2) ⟨e,h,x⟩ K = d_q07h_k3 C gl q2 (aget e 0) (aget e 1) (aget e 2) (aget e 3) (aget e 4) (aget e 10) (aget e 11) (aget e 12) h x K:=by kernel_rfl
theorem e_q07h_k3 {C gl e h x K} : NW C gl p_q07h_k3 ⟨e,h,x⟩ K = d_q07h_k3 C gl p_q07h_k2 (aget e 0) (aget e 1) (aget e 2) (aget e 3) (aget e 4) (aget e 10) (aget e 11) (aget e 12) h x K:=E_q07h_k3
def P_q07h_k4 (q3 : ACode) : ACode:=.pr [0,1,2,3,4,10,11] (.block 1 (.seq (rg [mV 21 2,
mV 22 1,
bN 23 .sub 21 22,
mV 12 23] [0,1,2,3,4,10,11,12])
(.seq (.seq (rg [mV 24 12,
bN 25 .leq 24 (cI 12)] [0,1,2,3,4,10,11,12,25])
(.cond 25 (.seq (rg [mV 26 0,
mV 27 1,
mV 28 2,
mV 29 4,
cL 30 f_q06u [26,27,28,29]] [])
.ret)
.skip))
(.seq (.seq (rg [mV 31 3,
bN 32 .eql 31 (cI 0)] [0,1,2,3,4,10,11,12,32])
(.cond 32 (.seq (rg [mV 33 0,
mV 34 1,
mV 35 2,
mV 36 4,
cL 37 f_q06r [33,34,35,36]] [])
.ret)
.skip))
(.seq (.seq (rg [mV 38 10,
uO 39 (.un .not 38)] [0,1,2,3,4,10,11,12,39])
(.cond 39 (.seq (rg [mV 40 0,
mV 41 1,
mV 42 2,
mV 43 4,
cL 44 f_q06l [40,41,42,43]] [0,1,2,3,4,10,11,12])
(rg [mV 45 3,
bN 46 .sub 45 (cI 1),
mV 3 46] [0,1,2,3,4,10,11,12]))
.skip))
q3)))))
def p_q07h_k4 : ACode:=P_q07h_k4 p_q07h_k3
def d_q07h_k4 (C : Hd) (gl : GL) (q3 : ACode) (v0 v1 v2 v3 v4 v10 v11 : AV) (h : Heap) (x : Esc) (K : KT) : Prop:=
 pK (oBin .sub v2 v1) fun t1=>
 pK (oBin .leq t1 (AI 12)) fun t2=>
 condB t2 (C f_q06u [v0,v1,v2,v4] h fun t3 h4 y5=>
 K .ret ⟨[],h4,(y5 ++ x)⟩)
 (pK (oBin .eql v3 (AI 0)) fun t6=>
 condB t6 (C f_q06r [v0,v1,v2,v4] h fun t7 h8 y9=>
 K .ret ⟨[],h8,(y9 ++ x)⟩)
 (pK (oUn .not v10) fun t10=>
 condB t10 (C f_q06l [v0,v1,v2,v4] h fun t11 h12 y13=>
 pK (oBin .sub v3 (AI 1)) fun t14=>
 NW C gl q3 ⟨[(0,v0),(1,v1),(2,v2),(3,t14),(4,v4),(10,v10),(11,v11),(12,t1)],h12,(y13 ++ x)⟩ (blockN 1 K))
 (NW C gl q3 ⟨[(0,v0),(1,v1),(2,v2),(3,v3),(4,v4),(10,v10),(11,v11),(12,t1),(39,t10)],h,x⟩ (blockN 1 K))))
theorem E_q07h_k4 {C gl q3 e h x K} : NW C gl (P_q07h_k4 q3) ⟨e,h,x⟩ K = d_q07h_k4 C gl q3 (aget e 0) (aget e 1) (aget e 2) (aget e 3) (aget e 4) (aget e 10) (aget e 11) h x K:=by kernel_rfl
theorem e_q07h_k4 {C gl e h x K} : NW C gl p_q07h_k4 ⟨e,h,x⟩ K = d_q07h_k4 C gl p_q07h_k3 (aget e 0) (aget e 1) (aget e 2) (aget e 3) (aget e 4) (aget e 10) (aget e 11) h x K:=E_q07h_k4
theorem l_q07h_k4 {C gl e h x K} : NW C gl (.loop p_q07h_k4) ⟨e,h,x⟩ K = NLoop C gl p_q07h_k4 K [(0,aget e 0),(1,aget e 1),(2,aget e 2),(3,aget e 3),(4,aget e 4),(10,aget e 10),(11,aget e 11)] h x:=NLoop_pr
def P_q07h (q4 : ACode) : ACode:=(.seq (rg [mV 10 cT] [0,1,2,3,4,10])
(.seq (rg [mV 11 cT] [0,1,2,3,4,10,11])
(.block 0 (.loop q4))))
def a_q07h : AFun:=⟨5,[],P_q07h p_q07h_k4,true,false⟩
def d_q07h (C : Hd) (gl : GL) (q4 : ACode) (v0 v1 v2 v3 v4 : AV) (h : Heap) (x : Esc) (K : KT) : Prop:=
 NW C gl (.loop q4) ⟨[(0,v0),(1,v1),(2,v2),(3,v3),(4,v4),(10,(AB true)),(11,(AB true))],h,x⟩ (blockN 0 K)
theorem E_q07h {C gl q4 v0 v1 v2 v3 v4 h x K} : NW C gl (P_q07h q4) ⟨enter [v0,v1,v2,v3,v4],h,x⟩ K = d_q07h C gl q4 v0 v1 v2 v3 v4 h x K:=by kernel_rfl
theorem e_q07h {C gl v0 v1 v2 v3 v4 h x K} : NW C gl a_q07h.body ⟨enter [v0,v1,v2,v3,v4],h,x⟩ K = d_q07h C gl p_q07h_k4 v0 v1 v2 v3 v4 h x K:=E_q07h
def p_q06v_k1 : ACode:=.pr [0,1,2,3,8,9] (.seq (.seq (dr [dF (mV 18 9) [9],
dF (mV 19 1) [1],
dF (bN 20 .gtr 18 19) [18,19],
dF (mV 21 20) [20],
dF (gD 22 21 true (.mv 3)) [3,21],
dF (gD 23 21 true (.mv 0)) [0,21],
dF (gD 24 21 true (.mv 9)) [9,21],
dF (gD 25 21 true (.iaddr none 23 24)) [23,24,21],
dF (gD 26 21 true (.load none 25)) [25,21],
dF (gD 27 21 true (.mv 0)) [0,21],
dF (gD 28 21 true (.mv 9)) [9,21],
dF (gD 29 21 true (.bin .sub 28 (cI 1))) [28,21],
dF (gD 30 21 true (.iaddr none 27 29)) [27,29,21],
dF (gD 31 21 true (.load none 30)) [30,21],
dT (gD 32 21 true (.callv 22 [26,31])) [22,26,31,21],
dF (gD 33 21 true (.bin .lss 32 (cI 0))) [32,21],
dF (uO 34 (.pick 21 33 cF)) [21,33]] [0,1,2,3,8,9,34])
(.cond 34 .skip
(.exit 2)))
(.seq (.block 3 (dr [dF (mV 37 0) [0],
dF (mV 38 9) [9],
dF (mV 39 0) [0],
dF (mV 40 9) [9],
dF (bN 41 .sub 40 (cI 1)) [40],
dF (mV 42 0) [0],
dF (mV 43 9) [9],
dF (bN 44 .sub 43 (cI 1)) [43],
dF (iA 45 none 42 44) [42,44],
dF (lD 46 none 45) [45],
dF (mV 47 0) [0],
dF (mV 48 9) [9],
dF (iA 49 none 47 48) [47,48],
dF (lD 50 none 49) [49],
dF (iA 51 none 37 38) [37,38],
dT (wO (.store none 51 46)) [51,46],
dF (iA 52 none 39 41) [39,41],
dT (wO (.store none 52 50)) [52,50]] [0,1,2,3,8,9]))
(rg [mV 35 9,
bN 36 .sub 35 (cI 1),
mV 9 36] [0,1,2,3,8,9])))
def d_q06v_k1 (C : Hd) (gl : GL) (v0 v1 v2 v3 v8 v9 : AV) (h : Heap) (x : Esc) (K : KT) : Prop:=
 pK (oBin .gtr v9 v1) fun t1=>
 gM t1 true v3 h fun t2 h3 y4=>
 gM t1 true v0 h3 fun t5 h6 y7=>
 gM t1 true v9 h6 fun t8 h9 y10=>
 gP t1 true (oIaddr none t5 t8 h9) h9 fun t11 h12 y13=>
 gP t1 true (oLoad none t11 h12) h12 fun t14 h15 y16=>
 gM t1 true v0 h15 fun t17 h18 y19=>
 gM t1 true v9 h18 fun t20 h21 y22=>
 gP t1 true (oBin .sub t20 (AI 1)) h21 fun t23 h24 y25=>
 gP t1 true (oIaddr none t17 t23 h24) h24 fun t26 h27 y28=>
 gP t1 true (oLoad none t26 h27) h27 fun t29 h30 y31=>
 gV t1 true h30 (callvE C t2 [t14,t29] h30) fun t32 h33 y34=>
 gP t1 true (oBin .lss t32 (AI 0)) h33 fun t35 h36 y37=>
 pK (oPick t1 t35 (AB false)) fun t38=>
 condB t38 (pK (oBin .sub v9 (AI 1)) fun t39=>
 pK (oBin .sub v9 (AI 1)) fun t40=>
 pK (oIaddr none v0 t40 h36) fun t41=>
 pK (oLoad none t41 h36) fun t42=>
 pK (oIaddr none v0 v9 h36) fun t43=>
 pK (oLoad none t43 h36) fun t44=>
 pK (oIaddr none v0 v9 h36) fun t45=>
 wK (oStore none t45 t42 h36) fun t46 h47 y48=>
 pK (oIaddr none v0 t39 h47) fun t49=>
 wK (oStore none t49 t44 h47) fun t50 h51 y52=>
 pK (oBin .sub v9 (AI 1)) fun t53=>
 K .normal ⟨[(0,v0),(1,v1),(2,v2),(3,v3),(8,v8),(9,t53)],h51,(y52 ++ (y48 ++ (y37 ++ (y34 ++ (y31 ++ (y28 ++ (y25 ++ (y22 ++ (y19 ++ (y16 ++ (y13 ++ (y10 ++ (y7 ++ (y4 ++ x))))))))))))))⟩)
 (K (.exit 2) ⟨[(0,v0),(1,v1),(2,v2),(3,v3),(8,v8),(9,v9),(34,t38)],h36,(y37 ++ (y34 ++ (y31 ++ (y28 ++ (y25 ++ (y22 ++ (y19 ++ (y16 ++ (y13 ++ (y10 ++ (y7 ++ (y4 ++ x))))))))))))⟩)
theorem e_q06v_k1 {C gl e h x K} : NW C gl p_q06v_k1 ⟨e,h,x⟩ K = d_q06v_k1 C gl (aget e 0) (aget e 1) (aget e 2) (aget e 3) (aget e 8) (aget e 9) h x K:=by kernel_rfl
theorem l_q06v_k1 {C gl e h x K} : NW C gl (.loop p_q06v_k1) ⟨e,h,x⟩ K = NLoop C gl p_q06v_k1 K [(0,aget e 0),(1,aget e 1),(2,aget e 2),(3,aget e 3),(8,aget e 8),(9,aget e 9)] h x:=NLoop_pr
def p_q06v_k2 : ACode:=.pr [0,1,2,3,8] (rg [mV 15 8,
bN 16 .add 15 (cI 1),
mV 8 16] [0,1,2,3,8])
def d_q06v_k2 (C : Hd) (gl : GL) (v0 v1 v2 v3 v8 : AV) (h : Heap) (x : Esc) (K : KT) : Prop:=
 pK (oBin .add v8 (AI 1)) fun t1=>
 K .normal ⟨[(0,v0),(1,v1),(2,v2),(3,v3),(8,t1)],h,x⟩
theorem e_q06v_k2 {C gl e h x K} : NW C gl p_q06v_k2 ⟨e,h,x⟩ K = d_q06v_k2 C gl (aget e 0) (aget e 1) (aget e 2) (aget e 3) (aget e 8) h x K:=by kernel_rfl
def P_q06v_k3 (q1 q2 : ACode) : ACode:=.pr [0,1,2,3,8] (.seq (.seq (rg [mV 12 8,
mV 13 2,
bN 14 .lss 12 13] [0,1,2,3,8,14])
(.cond 14 .skip
(.exit 0)))
(.seq (.block 1 (.seq (rg [mV 17 8,
mV 9 17] [0,1,2,3,8,9])
(.block 2 (.loop q1))))
q2))
def p_q06v_k3 : ACode:=P_q06v_k3 p_q06v_k1 p_q06v_k2
def d_q06v_k3 (C : Hd) (gl : GL) (q1 q2 : ACode) (v0 v1 v2 v3 v8 : AV) (h : Heap) (x : Esc) (K : KT) : Prop:=
 pK (oBin .lss v8 v2) fun t1=>
 condB t1 (NW C gl (.loop q1) ⟨[(0,v0),(1,v1),(2,v2),(3,v3),(8,v8),(9,v8)],h,x⟩ (blockN 2 (blockN 1 (seqN C gl q2 K))))
 (K (.exit 0) ⟨[(0,v0),(1,v1),(2,v2),(3,v3),(8,v8),(14,t1)],h,x⟩)
theorem E_q06v_k3 {C gl q1 q2 e h x K} : NW C gl (P_q06v_k3 q1 q2) ⟨e,h,x⟩ K = d_q06v_k3 C gl q1 q2 (aget e 0) (aget e 1) (aget e 2) (aget e 3) (aget e 8) h x K:=by kernel_rfl
theorem e_q06v_k3 {C gl e h x K} : NW C gl p_q06v_k3 ⟨e,h,x⟩ K = d_q06v_k3 C gl p_q06v_k1 p_q06v_k2 (aget e 0) (aget e 1) (aget e 2) (aget e 3) (aget e 8) h x K:=E_q06v_k3
theorem l_q06v_k3 {C gl e h x K} : NW C gl (.loop p_q06v_k3) ⟨e,h,x⟩ K = NLoop C gl p_q06v_k3 K [(0,aget e 0),(1,aget e 1),(2,aget e 2),(3,aget e 3),(8,aget e 8)] h x:=NLoop_pr
def P_q06v (q3 : ACode) : ACode:=(.seq (rg [mV 10 1,
bN 11 .add 10 (cI 1),
mV 8 11] [0,1,2,3,8])
(.block 0 (.loop q3)))
def a_q06v : AFun:=⟨4,[],P_q06v p_q06v_k3,true,false⟩
def d_q06v (C : Hd) (gl : GL) (q3 : ACode) (v0 v1 v2 v3 : AV) (h : Heap) (x : Esc) (K : KT) : Prop:=
 pK (oBin .add v1 (AI 1)) fun t1=>
 NW C gl (.loop q3) ⟨[(0,v0),(1,v1),(2,v2),(3,v3),(8,t1)],h,x⟩ (blockN 0 K)
theorem E_q06v {C gl q3 v0 v1 v2 v3 h x K} : NW C gl (P_q06v q3) ⟨enter [v0,v1,v2,v3],h,x⟩ K = d_q06v C gl q3 v0 v1 v2 v3 h x K:=by kernel_rfl
theorem e_q06v {C gl v0 v1 v2 v3 h x K} : NW C gl a_q06v.body ⟨enter [v0,v1,v2,v3],h,x⟩ K = d_q06v C gl p_q06v_k3 v0 v1 v2 v3 h x K:=E_q06v
def p_q06x_k1 : ACode:=.pr [0,1,2,6,7] (.seq (.seq (dr [dF (mV 16 7) [7],
dF (mV 17 1) [1],
dF (bN 18 .gtr 16 17) [16,17],
dF (mV 19 18) [18],
dF (gD 20 19 true (.mv 0)) [0,19],
dF (gD 21 19 true (.mv 7)) [7,19],
dF (gD 22 19 true (.iaddr none 20 21)) [20,21,19],
dF (gD 23 19 true (.load none 22)) [22,19],
dF (gD 24 19 true (.mv 0)) [0,19],
dF (gD 25 19 true (.mv 7)) [7,19],
dF (gD 26 19 true (.bin .sub 25 (cI 1))) [25,19],
dF (gD 27 19 true (.iaddr none 24 26)) [24,26,19],
dF (gD 28 19 true (.load none 27)) [27,19],
dT (gD 29 19 true (.call f_q00u [23,28])) [23,28,19],
dF (uO 30 (.pick 19 29 cF)) [19,29]] [0,1,2,6,7,30])
(.cond 30 .skip
(.exit 2)))
(.seq (.block 3 (dr [dF (mV 33 0) [0],
dF (mV 34 7) [7],
dF (mV 35 0) [0],
dF (mV 36 7) [7],
dF (bN 37 .sub 36 (cI 1)) [36],
dF (mV 38 0) [0],
dF (mV 39 7) [7],
dF (bN 40 .sub 39 (cI 1)) [39],
dF (iA 41 none 38 40) [38,40],
dF (lD 42 none 41) [41],
dF (mV 43 0) [0],
dF (mV 44 7) [7],
dF (iA 45 none 43 44) [43,44],
dF (lD 46 none 45) [45],
dF (iA 47 none 33 34) [33,34],
dT (wO (.store none 47 42)) [47,42],
dF (iA 48 none 35 37) [35,37],
dT (wO (.store none 48 46)) [48,46]] [0,1,2,6,7]))
(rg [mV 31 7,
bN 32 .sub 31 (cI 1),
mV 7 32] [0,1,2,6,7])))
def d_q06x_k1 (C : Hd) (gl : GL) (v0 v1 v2 v6 v7 : AV) (h : Heap) (x : Esc) (K : KT) : Prop:=
 pK (oBin .gtr v7 v1) fun t1=>
 gM t1 true v0 h fun t2 h3 y4=>
 gM t1 true v7 h3 fun t5 h6 y7=>
 gP t1 true (oIaddr none t2 t5 h6) h6 fun t8 h9 y10=>
 gP t1 true (oLoad none t8 h9) h9 fun t11 h12 y13=>
 gM t1 true v0 h12 fun t14 h15 y16=>
 gM t1 true v7 h15 fun t17 h18 y19=>
 gP t1 true (oBin .sub t17 (AI 1)) h18 fun t20 h21 y22=>
 gP t1 true (oIaddr none t14 t20 h21) h21 fun t23 h24 y25=>
 gP t1 true (oLoad none t23 h24) h24 fun t26 h27 y28=>
 gV t1 true h27 (callE C f_q00u [t11,t26] h27) fun t29 h30 y31=>
 pK (oPick t1 t29 (AB false)) fun t32=>
 condB t32 (pK (oBin .sub v7 (AI 1)) fun t33=>
 pK (oBin .sub v7 (AI 1)) fun t34=>
 pK (oIaddr none v0 t34 h30) fun t35=>
 pK (oLoad none t35 h30) fun t36=>
 pK (oIaddr none v0 v7 h30) fun t37=>
 pK (oLoad none t37 h30) fun t38=>
 pK (oIaddr none v0 v7 h30) fun t39=>
 wK (oStore none t39 t36 h30) fun t40 h41 y42=>
 pK (oIaddr none v0 t33 h41) fun t43=>
 wK (oStore none t43 t38 h41) fun t44 h45 y46=>
 pK (oBin .sub v7 (AI 1)) fun t47=>
 K .normal ⟨[(0,v0),(1,v1),(2,v2),(6,v6),(7,t47)],h45,(y46 ++ (y42 ++ (y31 ++ (y28 ++ (y25 ++ (y22 ++ (y19 ++ (y16 ++ (y13 ++ (y10 ++ (y7 ++ (y4 ++ x))))))))))))⟩)
 (K (.exit 2) ⟨[(0,v0),(1,v1),(2,v2),(6,v6),(7,v7),(30,t32)],h30,(y31 ++ (y28 ++ (y25 ++ (y22 ++ (y19 ++ (y16 ++ (y13 ++ (y10 ++ (y7 ++ (y4 ++ x))))))))))⟩)
theorem e_q06x_k1 {C gl e h x K} : NW C gl p_q06x_k1 ⟨e,h,x⟩ K = d_q06x_k1 C gl (aget e 0) (aget e 1) (aget e 2) (aget e 6) (aget e 7) h x K:=by kernel_rfl
theorem l_q06x_k1 {C gl e h x K} : NW C gl (.loop p_q06x_k1) ⟨e,h,x⟩ K = NLoop C gl p_q06x_k1 K [(0,aget e 0),(1,aget e 1),(2,aget e 2),(6,aget e 6),(7,aget e 7)] h x:=NLoop_pr
def p_q06x_k2 : ACode:=.pr [0,1,2,6] (rg [mV 13 6,
bN 14 .add 13 (cI 1),
mV 6 14] [0,1,2,6])
def d_q06x_k2 (C : Hd) (gl : GL) (v0 v1 v2 v6 : AV) (h : Heap) (x : Esc) (K : KT) : Prop:=
 pK (oBin .add v6 (AI 1)) fun t1=>
 K .normal ⟨[(0,v0),(1,v1),(2,v2),(6,t1)],h,x⟩
theorem e_q06x_k2 {C gl e h x K} : NW C gl p_q06x_k2 ⟨e,h,x⟩ K = d_q06x_k2 C gl (aget e 0) (aget e 1) (aget e 2) (aget e 6) h x K:=by kernel_rfl
def P_q06x_k3 (q1 q2 : ACode) : ACode:=.pr [0,1,2,6] (.seq (.seq (rg [mV 10 6,
mV 11 2,
bN 12 .lss 10 11] [0,1,2,6,12])
(.cond 12 .skip
(.exit 0)))
(.seq (.block 1 (.seq (rg [mV 15 6,
mV 7 15] [0,1,2,6,7])
(.block 2 (.loop q1))))
q2))
def p_q06x_k3 : ACode:=P_q06x_k3 p_q06x_k1 p_q06x_k2
def d_q06x_k3 (C : Hd) (gl : GL) (q1 q2 : ACode) (v0 v1 v2 v6 : AV) (h : Heap) (x : Esc) (K : KT) : Prop:=
 pK (oBin .lss v6 v2) fun t1=>
 condB t1 (NW C gl (.loop q1) ⟨[(0,v0),(1,v1),(2,v2),(6,v6),(7,v6)],h,x⟩ (blockN 2 (blockN 1 (seqN C gl q2 K))))
 (K (.exit 0) ⟨[(0,v0),(1,v1),(2,v2),(6,v6),(12,t1)],h,x⟩)
theorem E_q06x_k3 {C gl q1 q2 e h x K} : NW C gl (P_q06x_k3 q1 q2) ⟨e,h,x⟩ K = d_q06x_k3 C gl q1 q2 (aget e 0) (aget e 1) (aget e 2) (aget e 6) h x K:=by kernel_rfl
theorem e_q06x_k3 {C gl e h x K} : NW C gl p_q06x_k3 ⟨e,h,x⟩ K = d_q06x_k3 C gl p_q06x_k1 p_q06x_k2 (aget e 0) (aget e 1) (aget e 2) (aget e 6) h x K:=E_q06x_k3
theorem l_q06x_k3 {C gl e h x K} : NW C gl (.loop p_q06x_k3) ⟨e,h,x⟩ K = NLoop C gl p_q06x_k3 K [(0,aget e 0),(1,aget e 1),(2,aget e 2),(6,aget e 6)] h x:=NLoop_pr
def P_q06x (q3 : ACode) : ACode:=(.seq (rg [mV 8 1,
bN 9 .add 8 (cI 1),
mV 6 9] [0,1,2,6])
(.block 0 (.loop q3)))
def a_q06x : AFun:=⟨3,[],P_q06x p_q06x_k3,true,false⟩
def d_q06x (C : Hd) (gl : GL) (q3 : ACode) (v0 v1 v2 : AV) (h : Heap) (x : Esc) (K : KT) : Prop:=
 pK (oBin .add v1 (AI 1)) fun t1=>
 NW C gl (.loop q3) ⟨[(0,v0),(1,v1),(2,v2),(6,t1)],h,x⟩ (blockN 0 K)
theorem E_q06x {C gl q3 v0 v1 v2 h x K} : NW C gl (P_q06x q3) ⟨enter [v0,v1,v2],h,x⟩ K = d_q06x C gl q3 v0 v1 v2 h x K:=by kernel_rfl
theorem e_q06x {C gl v0 v1 v2 h x K} : NW C gl a_q06x.body ⟨enter [v0,v1,v2],h,x⟩ K = d_q06x C gl p_q06x_k3 v0 v1 v2 h x K:=E_q06x
def P_q00u : ACode:=(.seq (rg [mV 4 cF] [0,1])
(.seq (rg [mV 5 0,
cL 6 f_q00x [5],
mV 7 6,
gD 8 7 true (.mv 1),
gD 9 7 true (.call f_q00x [8]),
gD 10 7 true (.un .not 9),
uO 11 (.pick 7 10 cF),
mV 12 11,
gD 13 12 false (.mv 0),
gD 14 12 false (.mv 1),
gD 15 12 false (.bin .lss 13 14),
uO 16 (.pick 12 cT 15),
mV 4 16] [4])
.ret))
def a_q00u : AFun:=⟨2,[.t 4],P_q00u,false,false⟩
def d_q00u (C : Hd) (gl : GL) (v0 v1 : AV) (h : Heap) (x : Esc) (K : KT) : Prop:=
 C f_q00x [v0] h fun t1 h2 y3=>
 gM t1 true v1 h2 fun t4 h5 y6=>
 gV t1 true h5 (C f_q00x [t4] h5) fun t7 h8 y9=>
 gP t1 true (oUn .not t7) h8 fun t10 h11 y12=>
 pK (oPick t1 t10 (AB false)) fun t13=>
 gM t13 false v0 h11 fun t14 h15 y16=>
 gM t13 false v1 h15 fun t17 h18 y19=>
 gP t13 false (oBin .lss t14 t17) h18 fun t20 h21 y22=>
 pK (oPick t13 (AB true) t20) fun t23=>
 K .ret ⟨[(4,t23)],h21,(y22 ++ (y19 ++ (y16 ++ (y12 ++ (y9 ++ (y6 ++ (y3 ++ x)))))))⟩
theorem e_q00u {C gl v0 v1 h x K} : NW C gl a_q00u.body ⟨enter [v0,v1],h,x⟩ K = d_q00u C gl v0 v1 h x K:=by kernel_rfl
def p_q03c_k1 : ACode:=.pr [0,2] (.seq (rg [mV 19 2,
mV 20 0,
uO 21 (.conv (.i .u8) 20),
uO 22 (.idxs (cS [0,1,2,2,3,3,3,3,4,4,4,4,4,4,4,4,5,5,5,5,5,5,5,5,5,5,5,5,5,5,5,5,6,6,6,6,6,6,6,6,6,6,6,6,6,6,6,6,6,6,6,6,6,6,6,6,6,6,6,6,6,6,6,6,7,7,7,7,7,7,7,7,7,7,7,7,7,7,7,7,7,7,7,7,7,7,7,7,7,7,7,7,7,7,7,7,7,7,7,7,7,7,7,7,7,7,7,7,7,7,7,7,7,7,7,7,7,7,7,7,7,7,7,7,7,7,7,7,8,8,8,8,8,8,8,8,8,8,8,8,8,8,8,8,8,8,8,8,8,8,8,8,8,8,8,8,8,8,8,8,8,8,8,8,8,8,8,8,8,8,8,8,8,8,8,8,8,8,8,8,8,8,8,8,8,8,8,8,8,8,8,8,8,8,8,8,8,8,8,8,8,8,8,8,8,8,8,8,8,8,8,8,8,8,8,8,8,8,8,8,8,8,8,8,8,8,8,8,8,8,8,8,8,8,8,8,8,8,8,8,8,8,8,8,8,8,8,8,8,8,8,8,8,8,8,8]) 21),
uO 23 (.conv (.i .i64) 22),
bN 24 .add 19 23,
mV 2 24] [2])
.ret)
def d_q03c_k1 (C : Hd) (gl : GL) (v0 v2 : AV) (h : Heap) (x : Esc) (K : KT) : Prop:=
 pK (oConvI .u8 v0) fun t1=>
 pK (oIdxs (.p (.str [0,1,2,2,3,3,3,3,4,4,4,4,4,4,4,4,5,5,5,5,5,5,5,5,5,5,5,5,5,5,5,5,6,6,6,6,6,6,6,6,6,6,6,6,6,6,6,6,6,6,6,6,6,6,6,6,6,6,6,6,6,6,6,6,7,7,7,7,7,7,7,7,7,7,7,7,7,7,7,7,7,7,7,7,7,7,7,7,7,7,7,7,7,7,7,7,7,7,7,7,7,7,7,7,7,7,7,7,7,7,7,7,7,7,7,7,7,7,7,7,7,7,7,7,7,7,7,7,8,8,8,8,8,8,8,8,8,8,8,8,8,8,8,8,8,8,8,8,8,8,8,8,8,8,8,8,8,8,8,8,8,8,8,8,8,8,8,8,8,8,8,8,8,8,8,8,8,8,8,8,8,8,8,8,8,8,8,8,8,8,8,8,8,8,8,8,8,8,8,8,8,8,8,8,8,8,8,8,8,8,8,8,8,8,8,8,8,8,8,8,8,8,8,8,8,8,8,8,8,8,8,8,8,8,8,8,8,8,8,8,8,8,8,8,8,8,8,8,8,8,8,8,8,8,8,8])) t1) fun t2=>
 pK (oConvI .i64 t2) fun t3=>
 pK (oBin .add v2 t3) fun t4=>
 K .ret ⟨[(2,t4)],h,x⟩
theorem e_q03c_k1 {C gl e h x K} : NW C gl p_q03c_k1 ⟨e,h,x⟩ K = d_q03c_k1 C gl (aget e 0) (aget e 2) h x K:=by kernel_rfl
def P_q03c_k2 (q1 : ACode) : ACode:=.pr [0,2] (.seq (.seq (rg [mV 13 0,
bN 14 .geq 13 (.c (.p (.int .u64 256)))] [0,2,14])
(.cond 14 (.seq (rg [mV 15 0,
bN 16 .shr 15 (.c (.p (.int .u64 8))),
mV 0 16] [0,2])
(rg [mV 17 2,
bN 18 .add 17 (cI 8),
mV 2 18] [0,2]))
.skip))
q1)
def p_q03c_k2 : ACode:=P_q03c_k2 p_q03c_k1
def d_q03c_k2 (C : Hd) (gl : GL) (q1 : ACode) (v0 v2 : AV) (h : Heap) (x : Esc) (K : KT) : Prop:=
 pK (oBin .geq v0 (.p (.int .u64 256))) fun t1=>
 condB t1 (pK (oBin .shr v0 (.p (.int .u64 8))) fun t2=>
 pK (oBin .add v2 (AI 8)) fun t3=>
 NW C gl q1 ⟨[(0,t2),(2,t3)],h,x⟩ K)
 (NW C gl q1 ⟨[(0,v0),(2,v2),(14,t1)],h,x⟩ K)
theorem E_q03c_k2 {C gl q1 e h x K} : NW C gl (P_q03c_k2 q1) ⟨e,h,x⟩ K = d_q03c_k2 C gl q1 (aget e 0) (aget e 2) h x K:=by kernel_rfl
theorem e_q03c_k2 {C gl e h x K} : NW C gl p_q03c_k2 ⟨e,h,x⟩ K = d_q03c_k2 C gl p_q03c_k1 (aget e 0) (aget e 2) h x K:=E_q03c_k2
def P_q03c_k3 (q2 : ACode) : ACode:=.pr [0,2] (.seq (.seq (rg [mV 7 0,
bN 8 .geq 7 (.c (.p (.int .u64 65536)))] [0,2,8])
(.cond 8 (.seq (rg [mV 9 0,
bN 10 .shr 9 (.c (.p (.int .u64 16))),
mV 0 10] [0,2])
(rg [mV 11 2,
bN 12 .add 11 (cI 16),
mV 2 12] [0,2]))
.skip))
q2)
def p_q03c_k3 : ACode:=P_q03c_k3 p_q03c_k2
def d_q03c_k3 (C : Hd) (gl : GL) (q2 : ACode) (v0 v2 : AV) (h : Heap) (x : Esc) (K : KT) : Prop:=
 pK (oBin .geq v0 (.p (.int .u64 65536))) fun t1=>
 condB t1 (pK (oBin .shr v0 (.p (.int .u64 16))) fun t2=>
 pK (oBin .add v2 (AI 16)) fun t3=>
 NW C gl q2 ⟨[(0,t2),(2,t3)],h,x⟩ K)
 (NW C gl q2 ⟨[(0,v0),(2,v2),(8,t1)],h,x⟩ K)
theorem E_q03c_k3 {C gl q2 e h x K} : NW C gl (P_q03c_k3 q2) ⟨e,h,x⟩ K = d_q03c_k3 C gl q2 (aget e 0) (aget e 2) h x K:=by kernel_rfl
theorem e_q03c_k3 {C gl e h x K} : NW C gl p_q03c_k3 ⟨e,h,x⟩ K = d_q03c_k3 C gl p_q03c_k2 (aget e 0) (aget e 2) h x K:=E_q03c_k3
def P_q03c (q3 : ACode) : ACode:=(.seq (rg [mV 2 (cI 0)] [0,2])
(.seq (.seq (rg [mV 3 0,
bN 4 .geq 3 (.c (.p (.int .u64 4294967296)))] [0,2,4])
(.cond 4 (.seq (rg [mV 5 0,
bN 6 .shr 5 (.c (.p (.int .u64 32))),
mV 0 6] [0])
(rg [mV 2 (cI 32)] [0,2]))
.skip))
q3))
def a_q03c : AFun:=⟨1,[.t 2],P_q03c p_q03c_k3,false,false⟩
def d_q03c (C : Hd) (gl : GL) (q3 : ACode) (v0 : AV) (h : Heap) (x : Esc) (K : KT) : Prop:=
 pK (oBin .geq v0 (.p (.int .u64 4294967296))) fun t1=>
 condB t1 (pK (oBin .shr v0 (.p (.int .u64 32))) fun t2=>
 NW C gl q3 ⟨[(0,t2),(2,(AI 32))],h,x⟩ K)
 (NW C gl q3 ⟨[(0,v0),(2,(AI 0)),(4,t1)],h,x⟩ K)
theorem E_q03c {C gl q3 v0 h x K} : NW C gl (P_q03c q3) ⟨enter [v0],h,x⟩ K = d_q03c C gl q3 v0 h x K:=by kernel_rfl
theorem e_q03c {C gl v0 h x K} : NW C gl a_q03c.body ⟨enter [v0],h,x⟩ K = d_q03c C gl p_q03c_k3 v0 h x K:=E_q03c
def P_q01z : ACode:=(.seq (rg [mV 4 (cI 0)] [0,1])
(.seq (rg [mV 5 0,
mV 6 1,
cL 7 f_internal_bytealg_IndexByteString [5,6],
mV 4 7] [4])
.ret))
def a_q01z : AFun:=⟨2,[.t 4],P_q01z,false,false⟩
def d_q01z (C : Hd) (gl : GL) (v0 v1 : AV) (h : Heap) (x : Esc) (K : KT) : Prop:=
 C f_internal_bytealg_IndexByteString [v0,v1] h fun t1 h2 y3=>
 K .ret ⟨[(4,t1)],h2,(y3 ++ x)⟩
theorem e_q01z {C gl v0 v1 h x K} : NW C gl a_q01z.body ⟨enter [v0,v1],h,x⟩ K = d_q01z C gl v0 v1 h x K:=by kernel_rfl
def P_q01e : ACode:=(.seq (rg [mV 2 (cI 0)] [0])
(.seq (rg [mV 3 0,
bN 4 .add 3 (cI 16),
bN 5 .quo 4 (cI 8),
mV 2 5] [2])
.ret))
def a_q01e : AFun:=⟨1,[.t 2],P_q01e,false,false⟩
def d_q01e (C : Hd) (gl : GL) (v0 : AV) (h : Heap) (x : Esc) (K : KT) : Prop:=
 pK (oBin .add v0 (AI 16)) fun t1=>
 pK (oBin .quo t1 (AI 8)) fun t2=>
 K .ret ⟨[(2,t2)],h,x⟩
theorem e_q01e {C gl v0 h x K} : NW C gl a_q01e.body ⟨enter [v0],h,x⟩ K = d_q01e C gl v0 h x K:=by kernel_rfl
def p_q01f_k1 : ACode:=.pr [0,1,5,6,7,8,9] (.seq (.seq (rg [mV 18 9,
mV 19 7,
bN 20 .lss 18 19] [0,1,5,6,7,8,9,20])
(.cond 20 .skip
(.exit 0)))
(.seq (.block 1 (rg [mV 23 8,
bN 24 .mul 23 (.c (.p (.int .u32 16777619))),
mV 25 0,
mV 26 9,
uO 27 (.idxs 25 26),
uO 28 (.conv (.i .u32) 27),
bN 29 .add 24 28,
mV 8 29] [0,1,5,6,7,8,9]))
(rg [mV 21 9,
bN 22 .add 21 (cI 1),
mV 9 22] [0,1,5,6,7,8,9])))
def d_q01f_k1 (C : Hd) (gl : GL) (v0 v1 v5 v6 v7 v8 v9 : AV) (h : Heap) (x : Esc) (K : KT) : Prop:=
 pK (oBin .lss v9 v7) fun t1=>
 condB t1 (pK (oBin .mul v8 (.p (.int .u32 16777619))) fun t2=>
 pK (oIdxs v0 v9) fun t3=>
 pK (oConvI .u32 t3) fun t4=>
 pK (oBin .add t2 t4) fun t5=>
 pK (oBin .add v9 (AI 1)) fun t6=>
 K .normal ⟨[(0,v0),(1,v1),(5,v5),(6,v6),(7,v7),(8,t5),(9,t6)],h,x⟩)
 (K (.exit 0) ⟨[(0,v0),(1,v1),(5,v5),(6,v6),(7,v7),(8,v8),(9,v9),(20,t1)],h,x⟩)
theorem e_q01f_k1 {C gl e h x K} : NW C gl p_q01f_k1 ⟨e,h,x⟩ K = d_q01f_k1 C gl (aget e 0) (aget e 1) (aget e 5) (aget e 6) (aget e 7) (aget e 8) (aget e 9) h x K:=by kernel_rfl
theorem l_q01f_k1 {C gl e h x K} : NW C gl (.loop p_q01f_k1) ⟨e,h,x⟩ K = NLoop C gl p_q01f_k1 K [(0,aget e 0),(1,aget e 1),(5,aget e 5),(6,aget e 6),(7,aget e 7),(8,aget e 8),(9,aget e 9)] h x:=NLoop_pr
def p_q01f_k2 : ACode:=.pr [0,1,5,6,7,8,10] (.seq (.seq (rg [mV 41 10,
mV 42 0,
uO 43 (.lens 42),
bN 44 .lss 41 43] [0,1,5,6,7,8,10,44])
(.cond 44 .skip
(.exit 2)))
(.block 3 (.seq (rg [mV 45 8,
bN 46 .mul 45 (.c (.p (.int .u32 16777619))),
mV 8 46] [0,1,5,6,7,8,10])
(.seq (rg [mV 47 8,
mV 48 0,
mV 49 10,
uO 50 (.idxs 48 49),
uO 51 (.conv (.i .u32) 50),
bN 52 .add 47 51,
mV 8 52] [0,1,5,6,7,8,10])
(.seq (rg [mV 53 8,
mV 54 6,
mV 55 0,
mV 56 10,
mV 57 7,
bN 58 .sub 56 57,
uO 59 (.idxs 55 58),
uO 60 (.conv (.i .u32) 59),
bN 61 .mul 54 60,
bN 62 .sub 53 61,
mV 8 62] [0,1,5,6,7,8,10])
(.seq (rg [mV 63 10,
bN 64 .add 63 (cI 1),
mV 10 64] [0,1,5,6,7,8,10])
(.seq (rg [mV 65 8,
mV 66 5,
bN 67 .eql 65 66,
mV 68 67,
gD 69 68 true (.mv 0),
gD 70 68 true (.mv 10),
gD 71 68 true (.mv 7),
gD 72 68 true (.bin .sub 70 71),
gD 73 68 true (.mv 10),
gD 74 68 true (.slstr 69 (some 72) (some 73)),
gD 75 68 true (.mv 1),
gD 76 68 true (.bin .eql 74 75),
uO 77 (.pick 68 76 cF)] [0,1,5,6,7,8,10,77])
(.cond 77 (.seq (rg [mV 78 10,
mV 79 7,
bN 80 .sub 78 79,
mV 4 80] [4])
.ret)
.skip))))))))
def d_q01f_k2 (C : Hd) (gl : GL) (v0 v1 v5 v6 v7 v8 v10 : AV) (h : Heap) (x : Esc) (K : KT) : Prop:=
 pK (oLens v0) fun t1=>
 pK (oBin .lss v10 t1) fun t2=>
 condB t2 (pK (oBin .mul v8 (.p (.int .u32 16777619))) fun t3=>
 pK (oIdxs v0 v10) fun t4=>
 pK (oConvI .u32 t4) fun t5=>
 pK (oBin .add t3 t5) fun t6=>
 pK (oBin .sub v10 v7) fun t7=>
 pK (oIdxs v0 t7) fun t8=>
 pK (oConvI .u32 t8) fun t9=>
 pK (oBin .mul v6 t9) fun t10=>
 pK (oBin .sub t6 t10) fun t11=>
 pK (oBin .add v10 (AI 1)) fun t12=>
 pK (oBin .eql t11 v5) fun t13=>
 gM t13 true v0 h fun t14 h15 y16=>
 gM t13 true t12 h15 fun t17 h18 y19=>
 gM t13 true v7 h18 fun t20 h21 y22=>
 gP t13 true (oBin .sub t17 t20) h21 fun t23 h24 y25=>
 gM t13 true t12 h24 fun t26 h27 y28=>
 gP t13 true (oSlstr t14 (some t23) (some t26)) h27 fun t29 h30 y31=>
 gM t13 true v1 h30 fun t32 h33 y34=>
 gP t13 true (oBin .eql t29 t32) h33 fun t35 h36 y37=>
 pK (oPick t13 t35 (AB false)) fun t38=>
 condB t38 (pK (oBin .sub t12 v7) fun t39=>
 K .ret ⟨[(4,t39)],h36,(y37 ++ (y34 ++ (y31 ++ (y28 ++ (y25 ++ (y22 ++ (y19 ++ (y16 ++ x))))))))⟩)
 (K .normal ⟨[(0,v0),(1,v1),(5,v5),(6,v6),(7,v7),(8,t11),(10,t12),(77,t38)],h36,(y37 ++ (y34 ++ (y31 ++ (y28 ++ (y25 ++ (y22 ++ (y19 ++ (y16 ++ x))))))))⟩))
 (K (.exit 2) ⟨[(0,v0),(1,v1),(5,v5),(6,v6),(7,v7),(8,v8),(10,v10),(44,t2)],h,x⟩)
theorem e_q01f_k2 {C gl e h x K} : NW C gl p_q01f_k2 ⟨e,h,x⟩ K = d_q01f_k2 C gl (aget e 0) (aget e 1) (aget e 5) (aget e 6) (aget e 7) (aget e 8) (aget e 10) h x K:=by kernel_rfl
theorem l_q01f_k2 {C gl e h x K} : NW C gl (.loop p_q01f_k2) ⟨e,h,x⟩ K = NLoop C gl p_q01f_k2 K [(0,aget e 0),(1,aget e 1),(5,aget e 5),(6,aget e 6),(7,aget e 7),(8,aget e 8),(10,aget e 10)] h x:=NLoop_pr
def p_q01f_k3 : ACode:=.pr [] (.seq (rg [mV 4 (cI (-1))] [4])
.ret)
def d_q01f_k3 (C : Hd) (gl : GL) (h : Heap) (x : Esc) (K : KT) : Prop:=
 K .ret ⟨[(4,(AI (-1)))],h,x⟩
theorem e_q01f_k3 {C gl e h x K} : NW C gl p_q01f_k3 ⟨e,h,x⟩ K = d_q01f_k3 C gl h x K:=by kernel_rfl
def P_q01f_k4 (q2 q3 : ACode) : ACode:=.pr [0,1,5,6,7,8] (.seq (.seq (rg [mV 30 8,
mV 31 5,
bN 32 .eql 30 31,
mV 33 32,
gD 34 33 true (.mv 0),
gD 35 33 true (.mv 7),
gD 36 33 true (.slstr 34 none (some 35)),
gD 37 33 true (.mv 1),
gD 38 33 true (.bin .eql 36 37),
uO 39 (.pick 33 38 cF)] [0,1,5,6,7,8,39])
(.cond 39 (.seq (rg [mV 4 (cI 0)] [4])
.ret)
.skip))
(.seq (.seq (rg [mV 40 7,
mV 10 40] [0,1,5,6,7,8,10])
(.block 2 (.loop q2)))
q3))
def p_q01f_k4 : ACode:=P_q01f_k4 p_q01f_k2 p_q01f_k3
def d_q01f_k4 (C : Hd) (gl : GL) (q2 q3 : ACode) (v0 v1 v5 v6 v7 v8 : AV) (h : Heap) (x : Esc) (K : KT) : Prop:=
 pK (oBin .eql v8 v5) fun t1=>
 gM t1 true v0 h fun t2 h3 y4=>
 gM t1 true v7 h3 fun t5 h6 y7=>
 gP t1 true (oSlstr t2 none (some t5)) h6 fun t8 h9 y10=>
 gM t1 true v1 h9 fun t11 h12 y13=>
 gP t1 true (oBin .eql t8 t11) h12 fun t14 h15 y16=>
 pK (oPick t1 t14 (AB false)) fun t17=>
 condB t17 (K .ret ⟨[(4,(AI 0))],h15,(y16 ++ (y13 ++ (y10 ++ (y7 ++ (y4 ++ x)))))⟩)
 (NW C gl (.loop q2) ⟨[(0,v0),(1,v1),(5,v5),(6,v6),(7,v7),(8,v8),(10,v7)],h15,(y16 ++ (y13 ++ (y10 ++ (y7 ++ (y4 ++ x)))))⟩ (blockN 2 (seqN C gl q3 K)))
theorem E_q01f_k4 {C gl q2 q3 e h x K} : NW C gl (P_q01f_k4 q2 q3) ⟨e,h,x⟩ K = d_q01f_k4 C gl q2 q3 (aget e 0) (aget e 1) (aget e 5) (aget e 6) (aget e 7) (aget e 8) h x K:=by kernel_rfl
theorem e_q01f_k4 {C gl e h x K} : NW C gl p_q01f_k4 ⟨e,h,x⟩ K = d_q01f_k4 C gl p_q01f_k2 p_q01f_k3 (aget e 0) (aget e 1) (aget e 5) (aget e 6) (aget e 7) (aget e 8) h x K:=E_q01f_k4
def P_q01f (q1 q4 : ACode) : ACode:=(.seq (rg [mV 4 (cI 0)] [0,1])
(.seq (rg [mV 12 1,
cL 13 f_q01g [12],
mV 11 13,
eX 14 11 0,
eX 15 11 1,
mV 5 14,
mV 6 15] [0,1,5,6])
(.seq (rg [mV 16 1,
uO 17 (.lens 16),
mV 7 17] [0,1,5,6,7])
(.seq (rg [mV 8 (.c (.p (.int .u32 0)))] [0,1,5,6,7,8])
(.seq (.seq (rg [mV 9 (cI 0)] [0,1,5,6,7,8,9])
(.block 0 (.loop q1)))
q4)))))
def a_q01f : AFun:=⟨2,[.t 4],P_q01f p_q01f_k1 p_q01f_k4,false,false⟩
def d_q01f (C : Hd) (gl : GL) (q1 q4 : ACode) (v0 v1 : AV) (h : Heap) (x : Esc) (K : KT) : Prop:=
 C f_q01g [v1] h fun t1 h2 y3=>
 pK (oExt t1 0) fun t4=>
 pK (oExt t1 1) fun t5=>
 pK (oLens v1) fun t6=>
 NW C gl (.loop q1) ⟨[(0,v0),(1,v1),(5,t4),(6,t5),(7,t6),(8,(.p (.int .u32 0))),(9,(AI 0))],h2,(y3 ++ x)⟩ (blockN 0 (seqN C gl q4 K))
theorem E_q01f {C gl q1 q4 v0 v1 h x K} : NW C gl (P_q01f q1 q4) ⟨enter [v0,v1],h,x⟩ K = d_q01f C gl q1 q4 v0 v1 h x K:=by kernel_rfl
theorem e_q01f {C gl v0 v1 h x K} : NW C gl a_q01f.body ⟨enter [v0,v1],h,x⟩ K = d_q01f C gl p_q01f_k1 p_q01f_k4 v0 v1 h x K:=E_q01f
def P_q007 : ACode:=(.seq (rg [mV 2 cF] [0])
(.seq (rg [mV 3 0,
cL 4 f_q008 [3,(cI 0),(cI 345686399999)],
uO 5 (.un .not 4),
mV 2 5] [2])
.ret))
def a_q007 : AFun:=⟨1,[.t 2],P_q007,false,false⟩
def d_q007 (C : Hd) (gl : GL) (v0 : AV) (h : Heap) (x : Esc) (K : KT) : Prop:=
 C f_q008 [v0,(AI 0),(AI 345686399999)] h fun t1 h2 y3=>
 pK (oUn .not t1) fun t4=>
 K .ret ⟨[(2,t4)],h2,(y3 ++ x)⟩
theorem e_q007 {C gl v0 h x K} : NW C gl a_q007.body ⟨enter [v0],h,x⟩ K = d_q007 C gl v0 h x K:=by kernel_rfl
def P_q08y : ACode:=(.seq (rg [mV 4 (cI 0)] [0,1])
(.seq (rg [mV 5 0,
mV 6 1,
cL 7 f_q01z [5,6],
mV 4 7] [4])
.ret))
def a_q08y : AFun:=⟨2,[.t 4],P_q08y,false,false⟩
def d_q08y (C : Hd) (gl : GL) (v0 v1 : AV) (h : Heap) (x : Esc) (K : KT) : Prop:=
 C f_q01z [v0,v1] h fun t1 h2 y3=>
 K .ret ⟨[(4,t1)],h2,(y3 ++ x)⟩
theorem e_q08y {C gl v0 v1 h x K} : NW C gl a_q08y.body ⟨enter [v0,v1],h,x⟩ K = d_q08y C gl v0 v1 h x K:=by kernel_rfl
def P_q02z : ACode:=(.seq (rg [mV 2 cF] [0])
(.seq (rg [mV 3 0,
cL 4 f_q02w [3],
uO 5 (.un .not 4),
mV 2 5] [2])
.ret))
def a_q02z : AFun:=⟨1,[.t 2],P_q02z,false,false⟩
def d_q02z (C : Hd) (gl : GL) (v0 : AV) (h : Heap) (x : Esc) (K : KT) : Prop:=
 C f_q02w [v0] h fun t1 h2 y3=>
 pK (oUn .not t1) fun t4=>
 K .ret ⟨[(2,t4)],h2,(y3 ++ x)⟩
theorem e_q02z {C gl v0 h x K} : NW C gl a_q02z.body ⟨enter [v0],h,x⟩ K = d_q02z C gl v0 h x K:=by kernel_rfl
def p_q02m_k1 : ACode:=.pr [0,3,5,23,24,25] (.seq (rg [bN 26 .lss 25 24] [0,3,5,23,24,25,26])
(.seq (.cond 26 .skip
(.exit 0))
(.seq (.block 1 (.seq (rg [mV 27 25,
iA 28 none 23 25,
lD 29 none 28,
mV 6 27,
mV 7 29] [0,3,5,6,7,23,24,25])
(.seq (rg [mV 30 0,
mV 31 6,
iA 32 (some 4) 30 31,
lD 33 (some 4) 32,
mV 34 7,
cL 35 f_q02u [33,34],
uO 36 (.un .not 35)] [0,3,5,23,24,25,36])
(.cond 36 (.seq (rg [mV 4 cF] [4])
.ret)
.skip))))
(rg [bN 37 .add 25 (cI 1),
mV 25 37] [0,3,5,23,24,25]))))
def d_q02m_k1 (C : Hd) (gl : GL) (v0 v3 v5 v23 v24 v25 : AV) (h : Heap) (x : Esc) (K : KT) : Prop:=
 pK (oBin .lss v25 v24) fun t1=>
 condB t1 (pK (oIaddr none v23 v25 h) fun t2=>
 pK (oLoad none t2 h) fun t3=>
 pK (oIaddr (some 4) v0 v25 h) fun t4=>
 pK (oLoad (some 4) t4 h) fun t5=>
 C f_q02u [t5,t3] h fun t6 h7 y8=>
 pK (oUn .not t6) fun t9=>
 condB t9 (K .ret ⟨[(4,(AB false))],h7,(y8 ++ x)⟩)
 (pK (oBin .add v25 (AI 1)) fun t10=>
 K .normal ⟨[(0,v0),(3,v3),(5,v5),(23,v23),(24,v24),(25,t10)],h7,(y8 ++ x)⟩))
 (K (.exit 0) ⟨[(0,v0),(3,v3),(5,v5),(23,v23),(24,v24),(25,v25),(26,t1)],h,x⟩)
theorem e_q02m_k1 {C gl e h x K} : NW C gl p_q02m_k1 ⟨e,h,x⟩ K = d_q02m_k1 C gl (aget e 0) (aget e 3) (aget e 5) (aget e 23) (aget e 24) (aget e 25) h x K:=by kernel_rfl
theorem l_q02m_k1 {C gl e h x K} : NW C gl (.loop p_q02m_k1) ⟨e,h,x⟩ K = NLoop C gl p_q02m_k1 K [(0,aget e 0),(3,aget e 3),(5,aget e 5),(23,aget e 23),(24,aget e 24),(25,aget e 25)] h x:=NLoop_pr
def p_q02m_k2 : ACode:=.pr [0,3,5] (.seq (rg [mV 38 5,
mV 39 0,
lN 40 39,
bN 41 .eql 38 40,
mV 42 41,
gD 43 42 false (.mv 0),
gD 44 42 false (.load (some 4) 3),
gD 45 42 false (.call f_q02p [43,44]),
gD 46 42 false (.bin .geq 45 (cI 0)),
uO 47 (.pick 42 cT 46),
mV 4 47] [4])
.ret)
def d_q02m_k2 (C : Hd) (gl : GL) (v0 v3 v5 : AV) (h : Heap) (x : Esc) (K : KT) : Prop:=
 pK (oLen v0) fun t1=>
 pK (oBin .eql v5 t1) fun t2=>
 gM t2 false v0 h fun t3 h4 y5=>
 gP t2 false (oLoad (some 4) v3 h4) h4 fun t6 h7 y8=>
 gV t2 false h7 (C f_q02p [t3,t6] h7) fun t9 h10 y11=>
 gP t2 false (oBin .geq t9 (AI 0)) h10 fun t12 h13 y14=>
 pK (oPick t2 (AB true) t12) fun t15=>
 K .ret ⟨[(4,t15)],h13,(y14 ++ (y11 ++ (y8 ++ (y5 ++ x))))⟩
theorem e_q02m_k2 {C gl e h x K} : NW C gl p_q02m_k2 ⟨e,h,x⟩ K = d_q02m_k2 C gl (aget e 0) (aget e 3) (aget e 5) h x K:=by kernel_rfl
def P_q02m (q1 q2 : ACode) : ACode:=(.seq (rg [uO 3 (.box 1),
mV 4 cF] [0,3])
(.seq (rg [fA 8 3 none 3,
lD 9 none 8,
lN 10 9,
mV 5 10] [0,3,5])
(.seq (.seq (rg [mV 11 5,
bN 12 .eql 11 (cI 0),
mV 13 12,
gD 14 13 false (.mv 5),
gD 15 13 false (.mv 0),
gD 16 13 false (.len 15),
gD 17 13 false (.bin .gtr 14 16),
uO 18 (.pick 13 cT 17)] [0,3,5,18])
(.cond 18 (.seq (rg [mV 4 cF] [4])
.ret)
.skip))
(.seq (.seq (rg [fA 19 3 none 3,
lD 20 none 19,
mV 21 5,
bN 22 .sub 21 (cI 1),
uO 23 (.slice none 20 none (some 22) none),
lN 24 23,
mV 25 (cI 0)] [0,3,5,23,24,25])
(.block 0 (.loop q1)))
q2))))
def a_q02m : AFun:=⟨2,[.t 4],P_q02m p_q02m_k1 p_q02m_k2,false,false⟩
def d_q02m (C : Hd) (gl : GL) (q1 q2 : ACode) (v0 v1 : AV) (h : Heap) (x : Esc) (K : KT) : Prop:=
 wK (oBox v1 h) fun t1 h2 y3=>
 pK (oFaddr 3 none t1) fun t4=>
 pK (oLoad none t4 h2) fun t5=>
 pK (oLen t5) fun t6=>
 pK (oBin .eql t6 (AI 0)) fun t7=>
 gM t7 false t6 h2 fun t8 h9 y10=>
 gM t7 false v0 h9 fun t11 h12 y13=>
 gP t7 false (oLen t11) h12 fun t14 h15 y16=>
 gP t7 false (oBin .gtr t8 t14) h15 fun t17 h18 y19=>
 pK (oPick t7 (AB true) t17) fun t20=>
 condB t20 (K .ret ⟨[(4,(AB false))],h18,(y19 ++ (y16 ++ (y13 ++ (y10 ++ (y3 ++ x)))))⟩)
 (pK (oFaddr 3 none t1) fun t21=>
 pK (oLoad none t21 h18) fun t22=>
 pK (oBin .sub t6 (AI 1)) fun t23=>
 pK (oSlice none t22 none (some t23) none h18) fun t24=>
 pK (oLen t24) fun t25=>
 NW C gl (.loop q1) ⟨[(0,v0),(3,t1),(5,t6),(23,t24),(24,t25),(25,(AI 0))],h18,(y19 ++ (y16 ++ (y13 ++ (y10 ++ (y3 ++ x)))))⟩ (blockN 0 (seqN C gl q2 K)))
theorem E_q02m {C gl q1 q2 v0 v1 h x K} : NW C gl (P_q02m q1 q2) ⟨enter [v0,v1],h,x⟩ K = d_q02m C gl q1 q2 v0 v1 h x K:=by kernel_rfl
theorem e_q02m {C gl v0 v1 h x K} : NW C gl a_q02m.body ⟨enter [v0,v1],h,x⟩ K = d_q02m C gl p_q02m_k1 p_q02m_k2 v0 v1 h x K:=E_q02m
def P_q00x : ACode:=(.seq (rg [mV 2 cF] [0])
(.seq (rg [mV 3 0,
mV 4 0,
bN 5 .neq 3 4,
mV 2 5] [2])
.ret))
def a_q00x : AFun:=⟨1,[.t 2],P_q00x,false,false⟩
def d_q00x (C : Hd) (gl : GL) (v0 : AV) (h : Heap) (x : Esc) (K : KT) : Prop:=
 pK (oBin .neq v0 v0) fun t1=>
 K .ret ⟨[(2,t1)],h,x⟩
theorem e_q00x {C gl v0 h x K} : NW C gl a_q00x.body ⟨enter [v0],h,x⟩ K = d_q00x C gl v0 h x K:=by kernel_rfl
end Go.Am
end
