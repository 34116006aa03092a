/- Texts of the proof, laid together: CodesB, CodesC. -/
import Derived.KernelRfl
import Derived.Test.YtanoolccohkfmaaGreatDoorlawFT5
set_option linter.all false
section
/- The functions asv abstract code,and asv formulas over their values: printed by program out of the translation. -/
set_option linter.unusedVariables false
set_option maxRecDepth 100000
namespace Go.Am
def p_q03p_k1 : ACode:=.pr [4,5] (.seq (rg [lD 76 (some 2) 5,
wO (.store (some 2) 4 76)] [4])
.ret)
def d_q03p_k1 (C : Hd) (gl : GL) (v4 v5 : AV) (h : Heap) (x : Esc) (K : KT) : Prop:=
 pK (oLoad (some 2) v5 h) fun t1=>
 wK (oStore (some 2) v4 t1 h) fun t2 h3 y4=>
 K .ret ⟨[(4,v4)],h3,(y4 ++ x)⟩
theorem e_q03p_k1 {C gl e h x K} : NW C gl p_q03p_k1 ⟨e,h,x⟩ K = d_q03p_k1 C gl (aget e 4) (aget e 5) h x K:=by kernel_rfl
def P_q03p_k2 (q1 : ACode) : ACode:=.pr [0,1,4,5] (.seq (.seq (rg [mV 44 0,
cL 45 f_q03u [44,(cI 30)]] [0,1,4,5,45])
(.cond 45 (.seq (rg [mV 46 0,
cL 47 f_q03w [46,(cI 4)]] [0,1,4,5,47])
(.block 0 (.seq (rg [bN 54 .eql 47 (cI 0),
mV 53 54] [0,1,4,5,47,53])
(.cond 53 (rg [mV 55 0,
cL 56 f_q03x [55,(cI 1),(cI 6)],
fA 57 0 none 5,
wO (.store none 57 56)] [4,5])
(.seq (rg [bN 59 .eql 47 (cI 1),
mV 58 59] [0,1,4,5,47,58])
(.cond 58 (dr [dF (fA 60 1 none 5) [5],
dF (lD 61 none 60) [60],
dF (mV 62 0) [0],
dF (mV 63 1) [1],
dF (fA 64 1 none 5) [5],
dF (lD 65 none 64) [64],
dF (iA 66 none 65 (cI 0)) [65],
dF (lD 67 none 66) [66],
dF (uO 68 (.bsl false none 5 (.int .i64 0) [(0,(cI 0)),(1,(cI 1)),(2,(cI (-1))),(3,63),(4,67)])) [63,67],
dA (cL 69 f_q03z [62,68]) [62,68] true [] [1],
dF (uO 70 (.bsl false none 1 (.int .i64 0) [(0,69)])) [69],
dT (uO 71 (.app none 61 70)) [61,70],
dF (fA 72 1 none 5) [5],
dT (wO (.store none 72 71)) [72,71]] [4,5])
(.seq (rg [bN 74 .eql 47 (cI 2),
mV 73 74] [0,4,5,73])
(.cond 73 (rg [fA 75 1 none 5,
wO (.store none 75 (.c (.p (.sl none []))))] [4,5])
(rg [uO 48 (.bsl false none 7 (.int .i64 0) [(0,(cI 0)),(1,(cI 1)),(2,(cI 2)),(3,(cI 3)),(4,(cI 4)),(5,(cI 5)),(6,(cI 6))]),
mV 49 0,
cL 50 f_q040 [49,(cI 5),(cI 7)],
uO 51 (.slice none 48 none (some 50) none),
fA 52 1 none 5,
wO (.store none 52 51)] [4,5])))))))))
.skip))
q1)
def p_q03p_k2 : ACode:=P_q03p_k2 p_q03p_k1
def d_q03p_k2 (C : Hd) (gl : GL) (q1 : ACode) (v0 v1 v4 v5 : AV) (h : Heap) (x : Esc) (K : KT) : Prop:=
 C f_q03u [v0,(AI 30)] h fun t1 h2 y3=>
 condB t1 (C f_q03w [v0,(AI 4)] h2 fun t4 h5 y6=>
 pK (oBin .eql t4 (AI 0)) fun t7=>
 condB t7 (C f_q03x [v0,(AI 1),(AI 6)] h5 fun t8 h9 y10=>
 pK (oFaddr 0 none v5) fun t11=>
 wK (oStore none t11 t8 h9) fun t12 h13 y14=>
 NW C gl q1 ⟨[(4,v4),(5,v5)],h13,(y14 ++ (y10 ++ (y6 ++ (y3 ++ x))))⟩ K)
 (pK (oBin .eql t4 (AI 1)) fun t15=>
 condB t15 (pK (oFaddr 1 none v5) fun t16=>
 pK (oLoad none t16 h5) fun t17=>
 pK (oFaddr 1 none v5) fun t18=>
 pK (oLoad none t18 h5) fun t19=>
 pK (oIaddr none t19 (AI 0) h5) fun t20=>
 pK (oLoad none t20 h5) fun t21=>
 wK (oBsl false none 5 (.int .i64 0) [(0,(AI 0)),(1,(AI 1)),(2,(AI (-1))),(3,v1),(4,t21)] h5) fun t22 h23 y24=>
 (h23 = h5 ∧ y24 = []) ∧ (callE C f_q03z [v0,t22] h23 fun t25 h26 y27=>
 (pK (oLoad none t16 h26) fun v=>(fun u (g1 : Heap) (y1 : Esc)=>u = t17 ∧ g1 = h26 ∧ y1 = []) v h26 []) ∧ (wK (oBsl false none 1 (.int .i64 0) [(0,t25)] h26) fun t28 h29 y30=>
 (h29 = h26 ∧ y30 = []) ∧ (wK (oApp none t17 t28 h29) fun t31 h32 y33=>
 pK (oFaddr 1 none v5) fun t34=>
 wK (oStore none t34 t31 h32) fun t35 h36 y37=>
 NW C gl q1 ⟨[(4,v4),(5,v5)],h36,(y37 ++ (y33 ++ (y30 ++ (y27 ++ (y24 ++ (y6 ++ (y3 ++ x)))))))⟩ K))))
 (pK (oBin .eql t4 (AI 2)) fun t38=>
 condB t38 (pK (oFaddr 1 none v5) fun t39=>
 wK (oStore none t39 (.p (.sl none [])) h5) fun t40 h41 y42=>
 NW C gl q1 ⟨[(4,v4),(5,v5)],h41,(y42 ++ (y6 ++ (y3 ++ x)))⟩ K)
 (wK (oBsl false none 7 (.int .i64 0) [(0,(AI 0)),(1,(AI 1)),(2,(AI 2)),(3,(AI 3)),(4,(AI 4)),(5,(AI 5)),(6,(AI 6))] h5) fun t43 h44 y45=>
 C f_q040 [v0,(AI 5),(AI 7)] h44 fun t46 h47 y48=>
 pK (oSlice none t43 none (some t46) none h47) fun t49=>
 pK (oFaddr 1 none v5) fun t50=>
 wK (oStore none t50 t49 h47) fun t51 h52 y53=>
 NW C gl q1 ⟨[(4,v4),(5,v5)],h52,(y53 ++ (y48 ++ (y45 ++ (y6 ++ (y3 ++ x)))))⟩ K))))
 (NW C gl q1 ⟨[(0,v0),(1,v1),(4,v4),(5,v5),(45,t1)],h2,(y3 ++ x)⟩ K)
theorem E_q03p_k2 {C gl q1 e h x K} : NW C gl (P_q03p_k2 q1) ⟨e,h,x⟩ K = d_q03p_k2 C gl q1 (aget e 0) (aget e 1) (aget e 4) (aget e 5) h x K:=by kernel_rfl
theorem e_q03p_k2 {C gl e h x K} : NW C gl p_q03p_k2 ⟨e,h,x⟩ K = d_q03p_k2 C gl p_q03p_k1 (aget e 0) (aget e 1) (aget e 4) (aget e 5) h x K:=E_q03p_k2
def P_q03p_k3 (q2 : ACode) : ACode:=.pr [0,1,4,5,6,7] (.seq (rg [mV 29 6,
mV 30 7,
mV 31 7,
uO 32 (.slice none 29 none (some 30) (some 31)),
fA 33 1 none 5,
wO (.store none 33 32)] [0,1,4,5])
(.seq (.seq (rg [fA 34 0 none 5,
lD 35 none 34,
bN 36 .eql 35 (cI 5)] [0,1,4,5,36])
(.cond 36 (rg [fA 37 1 none 5,
lD 38 none 37,
uO 39 (.slice none 38 (some (cI 1)) none none),
cL 40 f_q069 [39]] [0,1,4,5])
(rg [fA 41 1 none 5,
lD 42 none 41,
cL 43 f_q069 [42]] [0,1,4,5])))
q2))
def p_q03p_k3 : ACode:=P_q03p_k3 p_q03p_k2
def d_q03p_k3 (C : Hd) (gl : GL) (q2 : ACode) (v0 v1 v4 v5 v6 v7 : AV) (h : Heap) (x : Esc) (K : KT) : Prop:=
 pK (oSlice none v6 none (some v7) (some v7) h) fun t1=>
 pK (oFaddr 1 none v5) fun t2=>
 wK (oStore none t2 t1 h) fun t3 h4 y5=>
 pK (oFaddr 0 none v5) fun t6=>
 pK (oLoad none t6 h4) fun t7=>
 pK (oBin .eql t7 (AI 5)) fun t8=>
 condB t8 (pK (oFaddr 1 none v5) fun t9=>
 pK (oLoad none t9 h4) fun t10=>
 pK (oSlice none t10 (some (AI 1)) none none h4) fun t11=>
 C f_q069 [t11] h4 fun t12 h13 y14=>
 NW C gl q2 ⟨[(0,v0),(1,v1),(4,v4),(5,v5)],h13,(y14 ++ (y5 ++ x))⟩ K)
 (pK (oFaddr 1 none v5) fun t15=>
 pK (oLoad none t15 h4) fun t16=>
 C f_q069 [t16] h4 fun t17 h18 y19=>
 NW C gl q2 ⟨[(0,v0),(1,v1),(4,v4),(5,v5)],h18,(y19 ++ (y5 ++ x))⟩ K)
theorem E_q03p_k3 {C gl q2 e h x K} : NW C gl (P_q03p_k3 q2) ⟨e,h,x⟩ K = d_q03p_k3 C gl q2 (aget e 0) (aget e 1) (aget e 4) (aget e 5) (aget e 6) (aget e 7) h x K:=by kernel_rfl
theorem e_q03p_k3 {C gl e h x K} : NW C gl p_q03p_k3 ⟨e,h,x⟩ K = d_q03p_k3 C gl p_q03p_k2 (aget e 0) (aget e 1) (aget e 4) (aget e 5) (aget e 6) (aget e 7) h x K:=E_q03p_k3
def P_q03p (q3 : ACode) : ACode:=(.seq (rg [uO 4 (.alloc [.p (.int .i64 0),.sl0 none])] [0,1,4])
(.seq (rg [mV 8 0,
cL 9 f_q040 [8,(cI 1),(cI 6)],
uO 10 (.build [.p (.int .i64 0),.sl0 none] [(0,1,9)]),
uO 5 (.alloc [.p (.int .i64 0),.sl0 none]),
wO (.store (some 2) 5 10)] [0,1,4,5])
(.seq (rg [mV 11 0,
mV 12 1,
uO 13 (.mx [12,(cI 1)]),
cL 14 f_q03y [11,13],
mV 6 14] [0,1,4,5,6])
(.seq (rg [mV 7 (cI 1)] [0,1,4,5,6,7])
(.seq (.seq (rg [fA 15 0 none 5,
lD 16 none 15,
bN 17 .geq 16 (cI 3),
mV 18 17,
gD 19 18 true (.faddr 0 none 5),
gD 20 18 true (.load none 19),
gD 21 18 true (.bin .leq 20 (cI 5)),
uO 22 (.pick 18 21 cF)] [0,1,4,5,6,7,22])
(.cond 22 (rg [mV 23 0,
uO 24 (.bsl false none 3 (.int .i64 0) [(0,(cI 2)),(1,(cI 2)),(2,(cI 3))]),
cL 25 f_q03z [23,24],
mV 26 6,
lN 27 26,
uO 28 (.mn [25,27]),
mV 7 28] [0,1,4,5,6,7])
.skip))
q3)))))
def a_q03p : AFun:=⟨2,[.cell 4 (some 2)],P_q03p p_q03p_k3,false,false⟩
def d_q03p (C : Hd) (gl : GL) (q3 : ACode) (v0 v1 : AV) (h : Heap) (x : Esc) (K : KT) : Prop:=
 alK [.p (.int .i64 0),.sl0 none] h fun t1 h2 y3=>
 C f_q040 [v0,(AI 1),(AI 6)] h2 fun t4 h5 y6=>
 pK (oBuild [.p (.int .i64 0),.sl0 none] [(0,1,t4)]) fun t7=>
 alK [.p (.int .i64 0),.sl0 none] h5 fun t8 h9 y10=>
 wK (oStore (some 2) t8 t7 h9) fun t11 h12 y13=>
 pK (oMx [v1,(AI 1)]) fun t14=>
 C f_q03y [v0,t14] h12 fun t15 h16 y17=>
 pK (oFaddr 0 none t8) fun t18=>
 pK (oLoad none t18 h16) fun t19=>
 pK (oBin .geq t19 (AI 3)) fun t20=>
 gP t20 true (oFaddr 0 none t8) h16 fun t21 h22 y23=>
 gP t20 true (oLoad none t21 h22) h22 fun t24 h25 y26=>
 gP t20 true (oBin .leq t24 (AI 5)) h25 fun t27 h28 y29=>
 pK (oPick t20 t27 (AB false)) fun t30=>
 condB t30 (wK (oBsl false none 3 (.int .i64 0) [(0,(AI 2)),(1,(AI 2)),(2,(AI 3))] h28) fun t31 h32 y33=>
 C f_q03z [v0,t31] h32 fun t34 h35 y36=>
 pK (oLen t15) fun t37=>
 pK (oMn [t34,t37]) fun t38=>
 NW C gl q3 ⟨[(0,v0),(1,v1),(4,t1),(5,t8),(6,t15),(7,t38)],h35,(y36 ++ (y33 ++ (y29 ++ (y26 ++ (y23 ++ (y17 ++ (y13 ++ (y10 ++ (y6 ++ (y3 ++ x))))))))))⟩ K)
 (NW C gl q3 ⟨[(0,v0),(1,v1),(4,t1),(5,t8),(6,t15),(7,(AI 1)),(22,t30)],h28,(y29 ++ (y26 ++ (y23 ++ (y17 ++ (y13 ++ (y10 ++ (y6 ++ (y3 ++ x))))))))⟩ K)
theorem E_q03p {C gl q3 v0 v1 h x K} : NW C gl (P_q03p q3) ⟨enter [v0,v1],h,x⟩ K = d_q03p C gl q3 v0 v1 h x K:=by kernel_rfl
theorem e_q03p {C gl v0 v1 h x K} : NW C gl a_q03p.body ⟨enter [v0,v1],h,x⟩ K = d_q03p C gl p_q03p_k3 v0 v1 h x K:=E_q03p
def P_q05d : ACode:=(.det (.seq (rg [mV 2 (.c (.p (.sl none [])))] [0])
(.seq (.seq (rg [mV 3 0,
uO 4 (.isnil 4 false 3)] [0,4])
(.condu 4 (.seq (rg [uO 2 (.new0 none)] [2])
.ret)
.skip))
(.seq (rg [uO 5 (.bsl true none 0 (.int .i64 0) []),
mV 6 0,
uO 7 (.app none 5 6),
mV 2 7] [2])
.ret))))
def a_q05d : AFun:=⟨1,[.t 2],P_q05d,false,true⟩
def d_q05d (C : Hd) (gl : GL) (v0 : AV) (h : Heap) (x : Esc) (K : KT) : Prop:=
 pK (oIsnil 4 false v0) fun t1=>
 condU t1 (nwK none h fun t2 h3 y4=>
 K .ret ⟨[(2,t2)],h3,(y4 ++ x)⟩)
 (wK (oBsl true none 0 (.int .i64 0) [] h) fun t5 h6 y7=>
 wK (oApp none t5 v0 h6) fun t8 h9 y10=>
 K .ret ⟨[(2,t8)],h9,(y10 ++ (y7 ++ x))⟩)
theorem e_q05d {C gl v0 h x K} : NW C gl a_q05d.body ⟨enter [v0],h,x⟩ K = d_q05d C gl v0 h x K:=by kernel_rfl
def P_q01v : ACode:=(.seq (rg [mV 2 (.c (.p (.int .u64 0)))] [0])
(.seq (rg [mV 3 0,
bN 4 .shl (.c (.p (.int .u64 1))) 3,
bN 5 .sub 4 (.c (.p (.int .u64 1))),
mV 2 5] [2])
.ret))
def a_q01v : AFun:=⟨1,[.t 2],P_q01v,false,false⟩
def d_q01v (C : Hd) (gl : GL) (v0 : AV) (h : Heap) (x : Esc) (K : KT) : Prop:=
 pK (oBin .shl (.p (.int .u64 1)) v0) fun t1=>
 pK (oBin .sub t1 (.p (.int .u64 1))) fun t2=>
 K .ret ⟨[(2,t2)],h,x⟩
theorem e_q01v {C gl v0 h x K} : NW C gl a_q01v.body ⟨enter [v0],h,x⟩ K = d_q01v C gl v0 h x K:=by kernel_rfl
def P_q01e : ACode:=(.seq (rg [uO 3 (.box 1),
mV 4 (.c (.p (.sl none []))),
mV 5 (cI 0)] [0,3])
(.seq (rg [mV 6 0,
lD 7 (some 2) 3,
uO 8 (.bsl false (some 2) 1 (.agg [.int .i64 0,.sl none []]) [(0,7)]),
cL 9 f_q015 [6,8],
eX 10 9 0,
eX 11 9 1,
mV 4 10,
mV 5 11] [4,5])
.ret))
def a_q01e : AFun:=⟨2,[.t 4,.t 5],P_q01e,false,false⟩
def d_q01e (C : Hd) (gl : GL) (v0 v1 : AV) (h : Heap) (x : Esc) (K : KT) : Prop:=
 wK (oBox v1 h) fun t1 h2 y3=>
 pK (oLoad (some 2) t1 h2) fun t4=>
 wK (oBsl false (some 2) 1 (.agg [.int .i64 0,.sl none []]) [(0,t4)] h2) fun t5 h6 y7=>
 C f_q015 [v0,t5] h6 fun t8 h9 y10=>
 pK (oExt t8 0) fun t11=>
 pK (oExt t8 1) fun t12=>
 K .ret ⟨[(4,t11),(5,t12)],h9,(y10 ++ (y7 ++ (y3 ++ x)))⟩
theorem e_q01e {C gl v0 v1 h x K} : NW C gl a_q01e.body ⟨enter [v0,v1],h,x⟩ K = d_q01e C gl v0 v1 h x K:=by kernel_rfl
def P_q03x : ACode:=(.seq (rg [mV 6 (cI 0)] [0,1,2])
(.seq (.seq (rg [mV 7 0,
cL 8 f_q03u [7,(cI 12)]] [0,1,2,8])
(.cond 8 (.seq (rg [mV 9 0,
mV 10 1,
bN 11 .sub 10 (cI 1),
mV 12 2,
bN 13 .add 12 (cI 1),
mV 14 1,
mV 15 2,
uO 16 (.bsl false none 6 (.int .i64 0) [(0,11),(1,13),(2,14),(3,15),(4,(cI (-1099511627776))),(5,(cI 1099511627776))]),
cL 17 f_q03z [9,16],
mV 6 17] [6])
.ret)
.skip))
(.seq (rg [mV 18 0,
mV 19 1,
mV 20 2,
cL 21 f_q040 [18,19,20],
mV 6 21] [6])
.ret)))
def a_q03x : AFun:=⟨3,[.t 6],P_q03x,false,false⟩
def d_q03x (C : Hd) (gl : GL) (v0 v1 v2 : AV) (h : Heap) (x : Esc) (K : KT) : Prop:=
 C f_q03u [v0,(AI 12)] h fun t1 h2 y3=>
 condB t1 (pK (oBin .sub v1 (AI 1)) fun t4=>
 pK (oBin .add v2 (AI 1)) fun t5=>
 wK (oBsl false none 6 (.int .i64 0) [(0,t4),(1,t5),(2,v1),(3,v2),(4,(AI (-1099511627776))),(5,(AI 1099511627776))] h2) fun t6 h7 y8=>
 C f_q03z [v0,t6] h7 fun t9 h10 y11=>
 K .ret ⟨[(6,t9)],h10,(y11 ++ (y8 ++ (y3 ++ x)))⟩)
 (C f_q040 [v0,v1,v2] h2 fun t12 h13 y14=>
 K .ret ⟨[(6,t12)],h13,(y14 ++ (y3 ++ x))⟩)
theorem e_q03x {C gl v0 v1 v2 h x K} : NW C gl a_q03x.body ⟨enter [v0,v1,v2],h,x⟩ K = d_q03x C gl v0 v1 v2 h x K:=by kernel_rfl
def P_q01n : ACode:=(.seq (rg [mV 2 cF] [0])
(.seq (rg [mV 3 0,
cL 4 f_q00a [3,(cI 3),(cI 5)],
uO 5 (.un .not 4),
mV 2 5] [2])
.ret))
def a_q01n : AFun:=⟨1,[.t 2],P_q01n,false,false⟩
def d_q01n (C : Hd) (gl : GL) (v0 : AV) (h : Heap) (x : Esc) (K : KT) : Prop:=
 C f_q00a [v0,(AI 3),(AI 5)] h fun t1 h2 y3=>
 pK (oUn .not t1) fun t4=>
 K .ret ⟨[(2,t4)],h2,(y3 ++ x)⟩
theorem e_q01n {C gl v0 h x K} : NW C gl a_q01n.body ⟨enter [v0],h,x⟩ K = d_q01n C gl v0 h x K:=by kernel_rfl
def P_q054 : ACode:=(.seq (rg [mV 6 cF] [0,1,2])
(.seq (rg [mV 7 1,
mV 8 0,
bN 9 .leq 7 8,
mV 10 9,
gD 11 10 true (.mv 0),
gD 12 10 true (.mv 2),
gD 13 10 true (.bin .leq 11 12),
uO 14 (.pick 10 13 cF),
mV 6 14] [6])
.ret))
def a_q054 : AFun:=⟨3,[.t 6],P_q054,false,false⟩
def d_q054 (C : Hd) (gl : GL) (v0 v1 v2 : AV) (h : Heap) (x : Esc) (K : KT) : Prop:=
 pK (oBin .leq v1 v0) fun t1=>
 gM t1 true v0 h fun t2 h3 y4=>
 gM t1 true v2 h3 fun t5 h6 y7=>
 gP t1 true (oBin .leq t2 t5) h6 fun t8 h9 y10=>
 pK (oPick t1 t8 (AB false)) fun t11=>
 K .ret ⟨[(6,t11)],h9,(y10 ++ (y7 ++ (y4 ++ x)))⟩
theorem e_q054 {C gl v0 v1 v2 h x K} : NW C gl a_q054.body ⟨enter [v0,v1,v2],h,x⟩ K = d_q054 C gl v0 v1 v2 h x K:=by kernel_rfl
def P_q057 : ACode:=(.seq (rg [mV 2 cF] [0])
(.seq (rg [mV 3 0,
cL 4 f_q054 [3,(cI 3),(cI 5)],
mV 2 4] [2])
.ret))
def a_q057 : AFun:=⟨1,[.t 2],P_q057,false,false⟩
def d_q057 (C : Hd) (gl : GL) (v0 : AV) (h : Heap) (x : Esc) (K : KT) : Prop:=
 C f_q054 [v0,(AI 3),(AI 5)] h fun t1 h2 y3=>
 K .ret ⟨[(2,t1)],h2,(y3 ++ x)⟩
theorem e_q057 {C gl v0 h x K} : NW C gl a_q057.body ⟨enter [v0],h,x⟩ K = d_q057 C gl v0 h x K:=by kernel_rfl
def P_q03r : ACode:=(.seq (rg [mV 6 (cS [])] [0,1,2])
(.seq (.seq (rg [mV 9 1,
bN 10 .eql 9 (cS []),
mV 11 10,
gD 12 11 false (.mv 2),
gD 13 11 false (.bin .eql 12 (cS [])),
uO 14 (.pick 11 cT 13)] [0,1,2,14])
(.cond 14 (.seq (rg [mV 15 2,
mV 6 15] [6])
.ret)
.skip))
(.seq (rg [mV 16 0,
mV 17 1,
uO 18 (.lens 17),
cL 19 f_q03w [16,18],
mV 7 19] [0,1,2,7])
(.seq (rg [mV 20 2,
mV 21 0,
mV 22 2,
uO 23 (.lens 22),
cL 24 f_q03w [21,23],
uO 25 (.idxs 20 24),
mV 8 25] [0,1,7,8])
(.seq (.seq (rg [mV 26 0,
cL 27 f_q03w [26,(cI 3)]] [1,7,8,27])
(.block 0 (.seq (rg [bN 29 .eql 27 (cI 0),
mV 28 29] [1,7,8,27,28])
(.cond 28 (.seq (dr [dF (mV 30 1) [1],
dF (mV 31 7) [7],
dF (uO 32 (.slstr 30 none (some 31))) [30,31],
dF (mV 33 8) [8],
dF (uO 34 (.conv (.i .i32) 33)) [33],
dF (uO 35 (.conv .r2s 34)) [34],
dF (bN 36 .add 32 35) [32,35],
dF (mV 37 1) [1],
dF (mV 38 7) [7],
dF (bN 39 .add 38 (cI 1)) [38],
dF (uO 40 (.slstr 37 (some 39) none)) [37,39],
dF (bN 41 .add 36 40) [36,40],
dF (mV 6 41) [41]] [6])
.ret)
(.seq (rg [bN 43 .eql 27 (cI 1),
mV 42 43] [1,7,8,42])
(.cond 42 (.seq (dr [dF (mV 44 1) [1],
dF (mV 45 7) [7],
dF (uO 46 (.slstr 44 none (some 45))) [44,45],
dF (mV 47 8) [8],
dF (uO 48 (.conv (.i .i32) 47)) [47],
dF (uO 49 (.conv .r2s 48)) [48],
dF (bN 50 .add 46 49) [46,49],
dF (mV 51 1) [1],
dF (mV 52 7) [7],
dF (uO 53 (.slstr 51 (some 52) none)) [51,52],
dF (bN 54 .add 50 53) [50,53],
dF (mV 6 54) [54]] [6])
.ret)
.skip))))))
(.seq (dr [dF (mV 55 1) [1],
dF (mV 56 7) [7],
dF (uO 57 (.slstr 55 none (some 56))) [55,56],
dF (mV 58 1) [1],
dF (mV 59 7) [7],
dF (bN 60 .add 59 (cI 1)) [59],
dF (uO 61 (.slstr 58 (some 60) none)) [58,60],
dF (bN 62 .add 57 61) [57,61],
dF (mV 6 62) [62]] [6])
.ret))))))
def a_q03r : AFun:=⟨3,[.t 6],P_q03r,false,false⟩
def d_q03r (C : Hd) (gl : GL) (v0 v1 v2 : AV) (h : Heap) (x : Esc) (K : KT) : Prop:=
 pK (oBin .eql v1 (.p (.str []))) fun t1=>
 gM t1 false v2 h fun t2 h3 y4=>
 gP t1 false (oBin .eql t2 (.p (.str []))) h3 fun t5 h6 y7=>
 pK (oPick t1 (AB true) t5) fun t8=>
 condB t8 (K .ret ⟨[(6,v2)],h6,(y7 ++ (y4 ++ x))⟩)
 (pK (oLens v1) fun t9=>
 C f_q03w [v0,t9] h6 fun t10 h11 y12=>
 pK (oLens v2) fun t13=>
 C f_q03w [v0,t13] h11 fun t14 h15 y16=>
 pK (oIdxs v2 t14) fun t17=>
 C f_q03w [v0,(AI 3)] h15 fun t18 h19 y20=>
 pK (oBin .eql t18 (AI 0)) fun t21=>
 condB t21 (pK (oSlstr v1 none (some t10)) fun t22=>
 pK (oConvI .i32 t17) fun t23=>
 (h19 = h19 ∧ ([] : Esc) = []) ∧ (wK (oConv .r2s t23 h19) fun t24 h25 y26=>
 (h25 = h19 ∧ y26 = []) ∧ (pK (oBin .add t22 t24) fun t27=>
 pK (oBin .add t10 (AI 1)) fun t28=>
 pK (oSlstr v1 (some t28) none) fun t29=>
 pK (oBin .add t27 t29) fun t30=>
 K .ret ⟨[(6,t30)],h25,(y26 ++ (y20 ++ (y16 ++ (y12 ++ (y7 ++ (y4 ++ x))))))⟩)))
 (pK (oBin .eql t18 (AI 1)) fun t31=>
 condB t31 (pK (oSlstr v1 none (some t10)) fun t32=>
 pK (oConvI .i32 t17) fun t33=>
 (h19 = h19 ∧ ([] : Esc) = []) ∧ (wK (oConv .r2s t33 h19) fun t34 h35 y36=>
 (h35 = h19 ∧ y36 = []) ∧ (pK (oBin .add t32 t34) fun t37=>
 pK (oSlstr v1 (some t10) none) fun t38=>
 pK (oBin .add t37 t38) fun t39=>
 K .ret ⟨[(6,t39)],h35,(y36 ++ (y20 ++ (y16 ++ (y12 ++ (y7 ++ (y4 ++ x))))))⟩)))
 (pK (oSlstr v1 none (some t10)) fun t40=>
 pK (oBin .add t10 (AI 1)) fun t41=>
 pK (oSlstr v1 (some t41) none) fun t42=>
 pK (oBin .add t40 t42) fun t43=>
 K .ret ⟨[(6,t43)],h19,(y20 ++ (y16 ++ (y12 ++ (y7 ++ (y4 ++ x)))))⟩)))
theorem e_q03r {C gl v0 v1 v2 h x K} : NW C gl a_q03r.body ⟨enter [v0,v1,v2],h,x⟩ K = d_q03r C gl v0 v1 v2 h x K:=by kernel_rfl
def P_q080 : ACode:=(.seq (rg [mV 4 (cI 0),
mV 5 (.c (.nili))] [0,1])
(.seq (rg [mV 6 0,
cL 7 f_q081 [6]] [0,1])
(.seq (rg [mV 8 0,
mV 9 0,
uO 10 (.nilchk 9),
fA 11 1 none 10,
lD 12 none 11,
mV 13 1,
uO 14 (.uns 3 5 [12,13]),
uO 15 (.nilchk 8),
fA 16 1 none 15,
wO (.store none 16 14)] [1])
(.seq (rg [mV 17 1,
uO 18 (.lens 17),
mV 4 18,
mV 5 (.c (.nili))] [4,5])
.ret))))
def a_q080 : AFun:=⟨2,[.t 4,.t 5],P_q080,false,false⟩
def d_q080 (C : Hd) (gl : GL) (v0 v1 : AV) (h : Heap) (x : Esc) (K : KT) : Prop:=
 C f_q081 [v0] h fun t1 h2 y3=>
 pK (oNil v0) fun t4=>
 pK (oFaddr 1 none t4) fun t5=>
 pK (oLoad none t5 h2) fun t6=>
 wK (unsOp 3 5 [t6,v1] h2) fun t7 h8 y9=>
 pK (oNil v0) fun t10=>
 pK (oFaddr 1 none t10) fun t11=>
 wK (oStore none t11 t7 h8) fun t12 h13 y14=>
 pK (oLens v1) fun t15=>
 K .ret ⟨[(4,t15),(5,(.nili))],h13,(y14 ++ (y9 ++ (y3 ++ x)))⟩
theorem e_q080 {C gl v0 v1 h x K} : NW C gl a_q080.body ⟨enter [v0,v1],h,x⟩ K = d_q080 C gl v0 v1 h x K:=by kernel_rfl
def P_q01x : ACode:=(.seq (rg [mV 2 (cS [])] [0])
(.seq (rg [uO 3 (.build [.p (.str []),.p (.str []),.p (.str []),.p (.str []),.p (.str []),.p (.str [])] [(0,1,(cS [115,116,117,99,107,48])),(1,1,(cS [115,116,117,99,107,49])),(2,1,(cS [97,110,100])),(3,1,(cS [111,114])),(4,1,(cS [102,105,114,115,116])),(5,1,(cS [111,112,101,110]))]),
mV 4 0,
bN 5 .sub 4 (cI 1),
uO 6 (.idxa 6 none 3 5),
mV 2 6] [2])
.ret))
def a_q01x : AFun:=⟨1,[.t 2],P_q01x,false,false⟩
def d_q01x (C : Hd) (gl : GL) (v0 : AV) (h : Heap) (x : Esc) (K : KT) : Prop:=
 pK (oBuild [.p (.str []),.p (.str []),.p (.str []),.p (.str []),.p (.str []),.p (.str [])] [(0,1,(.p (.str [115,116,117,99,107,48]))),(1,1,(.p (.str [115,116,117,99,107,49]))),(2,1,(.p (.str [97,110,100]))),(3,1,(.p (.str [111,114]))),(4,1,(.p (.str [102,105,114,115,116]))),(5,1,(.p (.str [111,112,101,110])))]) fun t1=>
 pK (oBin .sub v0 (AI 1)) fun t2=>
 pK (oIdxa 6 none t1 t2) fun t3=>
 K .ret ⟨[(2,t3)],h,x⟩
theorem e_q01x {C gl v0 h x K} : NW C gl a_q01x.body ⟨enter [v0],h,x⟩ K = d_q01x C gl v0 h x K:=by kernel_rfl
def P_q07z : ACode:=(.seq (rg [mV 4 (.c (.nili))] [0,1])
(.seq (rg [mV 5 0,
cL 6 f_q081 [5]] [0,1])
(.seq (rg [mV 7 0,
mV 8 0,
uO 9 (.nilchk 8),
fA 10 1 none 9,
lD 11 none 10,
mV 12 1,
uO 13 (.bsl false none 1 (.int .u8 0) [(0,12)]),
uO 14 (.uns 3 5 [11,13]),
uO 15 (.nilchk 7),
fA 16 1 none 15,
wO (.store none 16 14)] [])
(.seq (rg [mV 4 (.c (.nili))] [4])
.ret))))
def a_q07z : AFun:=⟨2,[.t 4],P_q07z,false,false⟩
def d_q07z (C : Hd) (gl : GL) (v0 v1 : AV) (h : Heap) (x : Esc) (K : KT) : Prop:=
 C f_q081 [v0] h fun t1 h2 y3=>
 pK (oNil v0) fun t4=>
 pK (oFaddr 1 none t4) fun t5=>
 pK (oLoad none t5 h2) fun t6=>
 wK (oBsl false none 1 (.int .u8 0) [(0,v1)] h2) fun t7 h8 y9=>
 wK (unsOp 3 5 [t6,t7] h8) fun t10 h11 y12=>
 pK (oNil v0) fun t13=>
 pK (oFaddr 1 none t13) fun t14=>
 wK (oStore none t14 t10 h11) fun t15 h16 y17=>
 K .ret ⟨[(4,(.nili))],h16,(y17 ++ (y12 ++ (y9 ++ (y3 ++ x))))⟩
theorem e_q07z {C gl v0 v1 h x K} : NW C gl a_q07z.body ⟨enter [v0,v1],h,x⟩ K = d_q07z C gl v0 v1 h x K:=by kernel_rfl
def P_q07x : ACode:=(.seq (rg [mV 2 (cI 0)] [0])
(.seq (rg [mV 3 0,
uO 4 (.nilchk 3),
fA 5 1 none 4,
lD 6 none 5,
uO 7 (.uns 4 0 [6]),
mV 2 7] [2])
.ret))
def a_q07x : AFun:=⟨1,[.t 2],P_q07x,false,false⟩
def d_q07x (C : Hd) (gl : GL) (v0 : AV) (h : Heap) (x : Esc) (K : KT) : Prop:=
 pK (oNil v0) fun t1=>
 pK (oFaddr 1 none t1) fun t2=>
 pK (oLoad none t2 h) fun t3=>
 wK (unsOp 4 0 [t3] h) fun t4 h5 y6=>
 K .ret ⟨[(2,t4)],h5,(y6 ++ x)⟩
theorem e_q07x {C gl v0 h x K} : NW C gl a_q07x.body ⟨enter [v0],h,x⟩ K = d_q07x C gl v0 h x K:=by kernel_rfl
def P_q07y : ACode:=(.seq (rg [mV 2 (cS [])] [0])
(.seq (dr [dF (mV 3 0) [0],
dF (uO 4 (.nilchk 3)) [3],
dF (fA 5 1 none 4) [4],
dF (lD 6 none 5) [5],
dF (uO 7 (.uns 5 5 [6])) [6],
dF (mV 8 0) [0],
dF (uO 9 (.nilchk 8)) [8],
dF (fA 10 1 none 9) [9],
dF (lD 11 none 10) [10],
dF (uO 12 (.uns 4 0 [11])) [11],
dT (uO 13 (.uns 6 5 [7,12])) [7,12],
dF (mV 2 13) [13]] [2])
.ret))
def a_q07y : AFun:=⟨1,[.t 2],P_q07y,false,false⟩
def d_q07y (C : Hd) (gl : GL) (v0 : AV) (h : Heap) (x : Esc) (K : KT) : Prop:=
 pK (oNil v0) fun t1=>
 pK (oFaddr 1 none t1) fun t2=>
 pK (oLoad none t2 h) fun t3=>
 wK (unsOp 5 5 [t3] h) fun t4 h5 y6=>
 (h5 = h ∧ y6 = []) ∧ (pK (oNil v0) fun t7=>
 pK (oFaddr 1 none t7) fun t8=>
 pK (oLoad none t8 h5) fun t9=>
 wK (unsOp 4 0 [t9] h5) fun t10 h11 y12=>
 (h11 = h5 ∧ y12 = []) ∧ (wK (unsOp 6 5 [t4,t10] h11) fun t13 h14 y15=>
 K .ret ⟨[(2,t13)],h14,(y15 ++ (y12 ++ (y6 ++ x)))⟩))
theorem e_q07y {C gl v0 h x K} : NW C gl a_q07y.body ⟨enter [v0],h,x⟩ K = d_q07y C gl v0 h x K:=by kernel_rfl
def p_q04a_k1 : ACode:=.pr [3,5,6] (.seq (.seq (rg [mV 48 6,
mV 49 5,
lN 50 49,
bN 51 .lss 48 50] [3,5,6,51])
(.cond 51 .skip
(.exit 1)))
(.seq (.block 2 (.seq (dr [dF (mV 54 5) [5],
dF (mV 55 6) [6],
dF (iA 56 none 54 55) [54,55],
dF (lD 57 none 56) [56],
dF (mV 58 5) [5],
dF (mV 59 6) [6],
dF (bN 60 .sub 59 (cI 1)) [59],
dF (iA 61 none 58 60) [58,60],
dF (lD 62 none 61) [61],
dF (bN 63 .leq 57 62) [57,62]] [3,5,6,63])
(.cond 63 (.seq (rg [mV 4 (cI 7)] [4])
.ret)
.skip)))
(rg [mV 52 6,
bN 53 .add 52 (cI 1),
mV 6 53] [3,5,6])))
def d_q04a_k1 (C : Hd) (gl : GL) (v3 v5 v6 : AV) (h : Heap) (x : Esc) (K : KT) : Prop:=
 pK (oLen v5) fun t1=>
 pK (oBin .lss v6 t1) fun t2=>
 condB t2 (pK (oIaddr none v5 v6 h) fun t3=>
 pK (oLoad none t3 h) fun t4=>
 pK (oBin .sub v6 (AI 1)) fun t5=>
 pK (oIaddr none v5 t5 h) fun t6=>
 pK (oLoad none t6 h) fun t7=>
 pK (oBin .leq t4 t7) fun t8=>
 condB t8 (K .ret ⟨[(4,(AI 7))],h,x⟩)
 (pK (oBin .add v6 (AI 1)) fun t9=>
 K .normal ⟨[(3,v3),(5,v5),(6,t9)],h,x⟩))
 (K (.exit 1) ⟨[(3,v3),(5,v5),(6,v6),(51,t2)],h,x⟩)
theorem e_q04a_k1 {C gl e h x K} : NW C gl p_q04a_k1 ⟨e,h,x⟩ K = d_q04a_k1 C gl (aget e 3) (aget e 5) (aget e 6) h x K:=by kernel_rfl
theorem l_q04a_k1 {C gl e h x K} : NW C gl (.loop p_q04a_k1) ⟨e,h,x⟩ K = NLoop C gl p_q04a_k1 K [(3,aget e 3),(5,aget e 5),(6,aget e 6)] h x:=NLoop_pr
def p_q04a_k2 : ACode:=.pr [3,5] (.seq (.seq (rg [fA 64 0 none 3,
lD 65 none 64,
bN 66 .eql 65 (cI 5),
mV 67 66,
gD 68 67 true (.mv 5),
gD 69 67 true (.faddr 1 none 3),
gD 70 67 true (.load none 69),
gD 71 67 true (.iaddr none 70 (cI 0)),
gD 72 67 true (.load none 71),
gD 73 67 true (.call f_q05q [68,72]),
uO 74 (.pick 67 73 cF)] [74])
(.cond 74 (.seq (rg [mV 4 (cI 6)] [4])
.ret)
.skip))
(.seq (rg [mV 4 (cI 0)] [4])
.ret))
def d_q04a_k2 (C : Hd) (gl : GL) (v3 v5 : AV) (h : Heap) (x : Esc) (K : KT) : Prop:=
 pK (oFaddr 0 none v3) fun t1=>
 pK (oLoad none t1 h) fun t2=>
 pK (oBin .eql t2 (AI 5)) fun t3=>
 gM t3 true v5 h fun t4 h5 y6=>
 gP t3 true (oFaddr 1 none v3) h5 fun t7 h8 y9=>
 gP t3 true (oLoad none t7 h8) h8 fun t10 h11 y12=>
 gP t3 true (oIaddr none t10 (AI 0) h11) h11 fun t13 h14 y15=>
 gP t3 true (oLoad none t13 h14) h14 fun t16 h17 y18=>
 gV t3 true h17 (C f_q05q [t4,t16] h17) fun t19 h20 y21=>
 pK (oPick t3 t19 (AB false)) fun t22=>
 condB t22 (K .ret ⟨[(4,(AI 6))],h20,(y21 ++ (y18 ++ (y15 ++ (y12 ++ (y9 ++ (y6 ++ x))))))⟩)
 (K .ret ⟨[(4,(AI 0))],h20,(y21 ++ (y18 ++ (y15 ++ (y12 ++ (y9 ++ (y6 ++ x))))))⟩)
theorem e_q04a_k2 {C gl e h x K} : NW C gl p_q04a_k2 ⟨e,h,x⟩ K = d_q04a_k2 C gl (aget e 3) (aget e 5) h x K:=by kernel_rfl
def P_q04a_k3 (q1 q2 : ACode) : ACode:=.pr [3,5] (.seq (.seq (rg [mV 6 (cI 1)] [3,5,6])
(.block 1 (.loop q1)))
q2)
def p_q04a_k3 : ACode:=P_q04a_k3 p_q04a_k1 p_q04a_k2
def d_q04a_k3 (C : Hd) (gl : GL) (q1 q2 : ACode) (v3 v5 : AV) (h : Heap) (x : Esc) (K : KT) : Prop:=
 NW C gl (.loop q1) ⟨[(3,v3),(5,v5),(6,(AI 1))],h,x⟩ (blockN 1 (seqN C gl q2 K))
theorem E_q04a_k3 {C gl q1 q2 e h x K} : NW C gl (P_q04a_k3 q1 q2) ⟨e,h,x⟩ K = d_q04a_k3 C gl q1 q2 (aget e 3) (aget e 5) h x K:=by kernel_rfl
theorem e_q04a_k3 {C gl e h x K} : NW C gl p_q04a_k3 ⟨e,h,x⟩ K = d_q04a_k3 C gl p_q04a_k1 p_q04a_k2 (aget e 3) (aget e 5) h x K:=E_q04a_k3
def P_q04a (q3 : ACode) : ACode:=(.seq (rg [uO 2 (.box 0),
uO 3 (.box 1),
mV 4 (cI 0)] [2,3])
(.seq (.block 0 (.seq (rg [lD 8 none 2,
cL 9 f_q054 [8,(cI 1),(cI 100)],
uO 10 (.un .not 9),
mV 7 10] [2,3,7])
(.cond 7 (.seq (rg [mV 4 (cI 1)] [4])
.ret)
(.seq (rg [fA 12 0 none 3,
lD 13 none 12,
cL 14 f_q054 [13,(cI 1),(cI 6)],
uO 15 (.un .not 14),
mV 11 15] [2,3,11])
(.cond 11 (.seq (rg [mV 4 (cI 4)] [4])
.ret)
(.seq (rg [fA 17 1 none 3,
lD 18 none 17,
lN 19 18,
bN 20 .eql 19 (cI 0),
mV 16 20] [2,3,16])
(.cond 16 (.seq (rg [mV 4 (cI 8)] [4])
.ret)
(.seq (rg [fA 22 1 none 3,
lD 23 none 22,
lN 24 23,
bN 25 .gtr 24 (cI 6),
mV 21 25] [2,3,21])
(.cond 21 (.seq (rg [mV 4 (cI 2)] [4])
.ret)
(.seq (rg [fA 27 1 none 3,
lD 28 none 27,
uO 29 (.mkfn f_q04b [2]),
cL 30 f_q05o [28,29],
mV 26 30] [3,26])
(.cond 26 (.seq (rg [mV 4 (cI 1)] [4])
.ret)
(.seq (dr [dF (fA 32 0 none 3) [3],
dF (lD 33 none 32) [32],
dT (cL 34 f_q057 [33]) [33],
dF (fA 35 1 none 3) [3],
dA (lD 36 none 35) [35] false [2] [],
dF (lN 37 36) [36],
dF (bN 38 .gtr 37 (cI 1)) [37],
dF (uO 39 (.eqa [] true 34 38)) [34,38],
dF (mV 31 39) [39]] [3,31])
(.cond 31 (.seq (rg [mV 4 (cI 3)] [4])
.ret)
.skip)))))))))))))
(.seq (rg [fA 40 1 none 3,
lD 41 none 40,
mV 5 41] [3,5])
(.seq (.seq (rg [fA 42 0 none 3,
lD 43 none 42,
bN 44 .eql 43 (cI 5)] [3,5,44])
(.cond 44 (rg [fA 45 1 none 3,
lD 46 none 45,
uO 47 (.slice none 46 (some (cI 1)) none none),
mV 5 47] [3,5])
.skip))
q3))))
def a_q04a : AFun:=⟨2,[.t 4],P_q04a p_q04a_k3,false,false⟩
def d_q04a (C : Hd) (gl : GL) (q3 : ACode) (v0 v1 : AV) (h : Heap) (x : Esc) (K : KT) : Prop:=
 wK (oBox v0 h) fun t1 h2 y3=>
 wK (oBox v1 h2) fun t4 h5 y6=>
 pK (oLoad none t1 h5) fun t7=>
 C f_q054 [t7,(AI 1),(AI 100)] h5 fun t8 h9 y10=>
 pK (oUn .not t8) fun t11=>
 condB t11 (K .ret ⟨[(4,(AI 1))],h9,(y10 ++ (y6 ++ (y3 ++ x)))⟩)
 (pK (oFaddr 0 none t4) fun t12=>
 pK (oLoad none t12 h9) fun t13=>
 C f_q054 [t13,(AI 1),(AI 6)] h9 fun t14 h15 y16=>
 pK (oUn .not t14) fun t17=>
 condB t17 (K .ret ⟨[(4,(AI 4))],h15,(y16 ++ (y10 ++ (y6 ++ (y3 ++ x))))⟩)
 (pK (oFaddr 1 none t4) fun t18=>
 pK (oLoad none t18 h15) fun t19=>
 pK (oLen t19) fun t20=>
 pK (oBin .eql t20 (AI 0)) fun t21=>
 condB t21 (K .ret ⟨[(4,(AI 8))],h15,(y16 ++ (y10 ++ (y6 ++ (y3 ++ x))))⟩)
 (pK (oFaddr 1 none t4) fun t22=>
 pK (oLoad none t22 h15) fun t23=>
 pK (oLen t23) fun t24=>
 pK (oBin .gtr t24 (AI 6)) fun t25=>
 condB t25 (K .ret ⟨[(4,(AI 2))],h15,(y16 ++ (y10 ++ (y6 ++ (y3 ++ x))))⟩)
 (pK (oFaddr 1 none t4) fun t26=>
 pK (oLoad none t26 h15) fun t27=>
 C f_q05o [t27,(.fn f_q04b [t1])] h15 fun t28 h29 y30=>
 condB t28 (K .ret ⟨[(4,(AI 1))],h29,(y30 ++ (y16 ++ (y10 ++ (y6 ++ (y3 ++ x)))))⟩)
 (pK (oFaddr 0 none t4) fun t31=>
 pK (oLoad none t31 h29) fun t32=>
 callE C f_q057 [t32] h29 fun t33 h34 y35=>
 pK (oFaddr 1 none t4) fun t36=>
 pK (oLoad none t36 h34) fun t37=>
 (pK (oLoad none t36 h29) fun v=>(fun u (g1 : Heap) (y1 : Esc)=>u = t37 ∧ g1 = h29 ∧ y1 = []) v h29 []) ∧ (pK (oLen t37) fun t38=>
 pK (oBin .gtr t38 (AI 1)) fun t39=>
 pK (oEqa [] true t33 t39) fun t40=>
 condB t40 (K .ret ⟨[(4,(AI 3))],h34,(y35 ++ (y30 ++ (y16 ++ (y10 ++ (y6 ++ (y3 ++ x))))))⟩)
 (pK (oFaddr 1 none t4) fun t41=>
 pK (oLoad none t41 h34) fun t42=>
 pK (oFaddr 0 none t4) fun t43=>
 pK (oLoad none t43 h34) fun t44=>
 pK (oBin .eql t44 (AI 5)) fun t45=>
 condB t45 (pK (oFaddr 1 none t4) fun t46=>
 pK (oLoad none t46 h34) fun t47=>
 pK (oSlice none t47 (some (AI 1)) none none h34) fun t48=>
 NW C gl q3 ⟨[(3,t4),(5,t48)],h34,(y35 ++ (y30 ++ (y16 ++ (y10 ++ (y6 ++ (y3 ++ x))))))⟩ K)
 (NW C gl q3 ⟨[(3,t4),(5,t42),(44,t45)],h34,(y35 ++ (y30 ++ (y16 ++ (y10 ++ (y6 ++ (y3 ++ x))))))⟩ K))))))))
theorem E_q04a {C gl q3 v0 v1 h x K} : NW C gl (P_q04a q3) ⟨enter [v0,v1],h,x⟩ K = d_q04a C gl q3 v0 v1 h x K:=by kernel_rfl
theorem e_q04a {C gl v0 v1 h x K} : NW C gl a_q04a.body ⟨enter [v0,v1],h,x⟩ K = d_q04a C gl p_q04a_k3 v0 v1 h x K:=E_q04a
def P_q053 : ACode:=(.seq (rg [mV 0 (.c (.p (.sl none [])))] [])
(.seq (rg [uO 1 (.bsl false none 7 (.str []) [(0,(cS [])),(1,(cS [115,116,117,99,107,48])),(2,(cS [115,116,117,99,107,49])),(3,(cS [97,110,100])),(4,(cS [111,114])),(5,(cS [102,105,114,115,116])),(6,(cS [111,112,101,110]))]),
mV 0 1] [0])
.ret))
def a_q053 : AFun:=⟨0,[.t 0],P_q053,false,false⟩
def d_q053 (C : Hd) (gl : GL) (h : Heap) (x : Esc) (K : KT) : Prop:=
 wK (oBsl false none 7 (.str []) [(0,(.p (.str []))),(1,(.p (.str [115,116,117,99,107,48]))),(2,(.p (.str [115,116,117,99,107,49]))),(3,(.p (.str [97,110,100]))),(4,(.p (.str [111,114]))),(5,(.p (.str [102,105,114,115,116]))),(6,(.p (.str [111,112,101,110])))] h) fun t1 h2 y3=>
 K .ret ⟨[(0,t1)],h2,(y3 ++ x)⟩
theorem e_q053 {C gl h x K} : NW C gl a_q053.body ⟨enter [],h,x⟩ K = d_q053 C gl h x K:=by kernel_rfl
def p_q04m_k1 : ACode:=.pr [3,6,7,8] (.seq (rg [bN 9 .lss 8 7] [3,6,7,8,9])
(.seq (.cond 9 .skip
(.exit 0))
(.seq (.block 1 (.seq (rg [iA 10 none 6 8,
lD 11 none 10,
mV 5 11] [3,5,6,7,8])
(rg [mV 12 3,
mV 13 5,
cL 14 f_q07q [13],
uO 15 (.bsl false none 1 (.str []) [(0,14)]),
uO 16 (.app none 12 15),
mV 3 16] [3,6,7,8])))
(rg [bN 17 .add 8 (cI 1),
mV 8 17] [3,6,7,8]))))
def d_q04m_k1 (C : Hd) (gl : GL) (v3 v6 v7 v8 : AV) (h : Heap) (x : Esc) (K : KT) : Prop:=
 pK (oBin .lss v8 v7) fun t1=>
 condB t1 (pK (oIaddr none v6 v8 h) fun t2=>
 pK (oLoad none t2 h) fun t3=>
 C f_q07q [t3] h fun t4 h5 y6=>
 wK (oBsl false none 1 (.str []) [(0,t4)] h5) fun t7 h8 y9=>
 wK (oApp none v3 t7 h8) fun t10 h11 y12=>
 pK (oBin .add v8 (AI 1)) fun t13=>
 K .normal ⟨[(3,t10),(6,v6),(7,v7),(8,t13)],h11,(y12 ++ (y9 ++ (y6 ++ x)))⟩)
 (K (.exit 0) ⟨[(3,v3),(6,v6),(7,v7),(8,v8),(9,t1)],h,x⟩)
theorem e_q04m_k1 {C gl e h x K} : NW C gl p_q04m_k1 ⟨e,h,x⟩ K = d_q04m_k1 C gl (aget e 3) (aget e 6) (aget e 7) (aget e 8) h x K:=by kernel_rfl
theorem l_q04m_k1 {C gl e h x K} : NW C gl (.loop (.scope p_q04m_k1)) ⟨e,h,x⟩ K = NLoop C gl (.scope p_q04m_k1) K [(3,aget e 3),(6,aget e 6),(7,aget e 7),(8,aget e 8)] h x:=NLoop_sc
def p_q04m_k2 : ACode:=.pr [3] (.seq (rg [mV 18 3,
cL 19 f_q08c [18,(cS [32])],
mV 2 19] [2])
.ret)
def d_q04m_k2 (C : Hd) (gl : GL) (v3 : AV) (h : Heap) (x : Esc) (K : KT) : Prop:=
 C f_q08c [v3,(.p (.str [32]))] h fun t1 h2 y3=>
 K .ret ⟨[(2,t1)],h2,(y3 ++ x)⟩
theorem e_q04m_k2 {C gl e h x K} : NW C gl p_q04m_k2 ⟨e,h,x⟩ K = d_q04m_k2 C gl (aget e 3) h x K:=by kernel_rfl
def P_q04m (q1 q2 : ACode) : ACode:=(.seq (rg [mV 2 (cS [])] [0])
(.seq (rg [uO 3 (.new0 none)] [0,3])
(.seq (.seq (rg [mV 6 0,
lN 7 6,
mV 8 (cI 0)] [3,6,7,8])
(.block 0 (.loop (.scope q1))))
q2)))
def a_q04m : AFun:=⟨1,[.t 2],P_q04m p_q04m_k1 p_q04m_k2,false,false⟩
def d_q04m (C : Hd) (gl : GL) (q1 q2 : ACode) (v0 : AV) (h : Heap) (x : Esc) (K : KT) : Prop:=
 nwK none h fun t1 h2 y3=>
 pK (oLen v0) fun t4=>
 NW C gl (.loop (.scope q1)) ⟨[(3,t1),(6,v0),(7,t4),(8,(AI 0))],h2,(y3 ++ x)⟩ (blockN 0 (seqN C gl q2 K))
theorem E_q04m {C gl q1 q2 v0 h x K} : NW C gl (P_q04m q1 q2) ⟨enter [v0],h,x⟩ K = d_q04m C gl q1 q2 v0 h x K:=by kernel_rfl
theorem e_q04m {C gl v0 h x K} : NW C gl a_q04m.body ⟨enter [v0],h,x⟩ K = d_q04m C gl p_q04m_k1 p_q04m_k2 v0 h x K:=E_q04m
def P_q00a : ACode:=(.seq (rg [mV 6 cF] [0,1,2])
(.seq (rg [mV 7 0,
mV 8 1,
bN 9 .lss 7 8,
mV 10 9,
gD 11 10 false (.mv 0),
gD 12 10 false (.mv 2),
gD 13 10 false (.bin .gtr 11 12),
uO 14 (.pick 10 cT 13),
mV 6 14] [6])
.ret))
def a_q00a : AFun:=⟨3,[.t 6],P_q00a,false,false⟩
def d_q00a (C : Hd) (gl : GL) (v0 v1 v2 : AV) (h : Heap) (x : Esc) (K : KT) : Prop:=
 pK (oBin .lss v0 v1) fun t1=>
 gM t1 false v0 h fun t2 h3 y4=>
 gM t1 false v2 h3 fun t5 h6 y7=>
 gP t1 false (oBin .gtr t2 t5) h6 fun t8 h9 y10=>
 pK (oPick t1 (AB true) t8) fun t11=>
 K .ret ⟨[(6,t11)],h9,(y10 ++ (y7 ++ (y4 ++ x)))⟩
theorem e_q00a {C gl v0 v1 v2 h x K} : NW C gl a_q00a.body ⟨enter [v0,v1,v2],h,x⟩ K = d_q00a C gl v0 v1 v2 h x K:=by kernel_rfl
def p_q001_k1 : ACode:=.pr [1,6,7,15,16,17] (.seq (rg [bN 18 .lss 17 16] [1,6,7,15,16,17,18])
(.seq (.cond 18 .skip
(.exit 0))
(.seq (.block 1 (.seq (rg [mV 19 17,
iA 20 none 15 17,
lD 21 none 20,
mV 8 19,
mV 9 21] [1,6,7,8,9,15,16,17])
(.seq (rg [mV 22 7,
uO 23 (.un .not 22),
mV 24 23,
gD 25 24 true (.mv 8),
gD 26 24 true (.mv 6),
gD 27 24 true (.len 26),
gD 28 24 true (.bin .sub 27 (cI 1)),
gD 29 24 true (.bin .eql 25 28),
uO 30 (.pick 24 29 cF),
mV 31 30,
gD 32 31 false (.mv 1),
gD 33 31 false (.mv 9),
gD 34 31 false (.callv 32 [33]),
gD 35 31 false (.un .not 34),
uO 36 (.pick 31 cT 35)] [1,6,7,8,15,16,17,36])
(.cond 36 (.seq (rg [mV 37 8,
mV 4 37,
mV 5 cF] [4,5])
.ret)
.skip))))
(rg [bN 38 .add 17 (cI 1),
mV 17 38] [1,6,7,15,16,17]))))
def d_q001_k1 (C : Hd) (gl : GL) (v1 v6 v7 v15 v16 v17 : AV) (h : Heap) (x : Esc) (K : KT) : Prop:=
 pK (oBin .lss v17 v16) fun t1=>
 condB t1 (pK (oIaddr none v15 v17 h) fun t2=>
 pK (oLoad none t2 h) fun t3=>
 pK (oUn .not v7) fun t4=>
 gM t4 true v17 h fun t5 h6 y7=>
 gM t4 true v6 h6 fun t8 h9 y10=>
 gP t4 true (oLen t8) h9 fun t11 h12 y13=>
 gP t4 true (oBin .sub t11 (AI 1)) h12 fun t14 h15 y16=>
 gP t4 true (oBin .eql t5 t14) h15 fun t17 h18 y19=>
 pK (oPick t4 t17 (AB false)) fun t20=>
 gM t20 false v1 h18 fun t21 h22 y23=>
 gM t20 false t3 h22 fun t24 h25 y26=>
 gV t20 false h25 (callvK C t21 [t24] h25) fun t27 h28 y29=>
 gP t20 false (oUn .not t27) h28 fun t30 h31 y32=>
 pK (oPick t20 (AB true) t30) fun t33=>
 condB t33 (K .ret ⟨[(4,v17),(5,(AB false))],h31,(y32 ++ (y29 ++ (y26 ++ (y23 ++ (y19 ++ (y16 ++ (y13 ++ (y10 ++ (y7 ++ x)))))))))⟩)
 (pK (oBin .add v17 (AI 1)) fun t34=>
 K .normal ⟨[(1,v1),(6,v6),(7,v7),(15,v15),(16,v16),(17,t34)],h31,(y32 ++ (y29 ++ (y26 ++ (y23 ++ (y19 ++ (y16 ++ (y13 ++ (y10 ++ (y7 ++ x)))))))))⟩))
 (K (.exit 0) ⟨[(1,v1),(6,v6),(7,v7),(15,v15),(16,v16),(17,v17),(18,t1)],h,x⟩)
theorem e_q001_k1 {C gl e h x K} : NW C gl p_q001_k1 ⟨e,h,x⟩ K = d_q001_k1 C gl (aget e 1) (aget e 6) (aget e 7) (aget e 15) (aget e 16) (aget e 17) h x K:=by kernel_rfl
theorem l_q001_k1 {C gl e h x K} : NW C gl (.loop p_q001_k1) ⟨e,h,x⟩ K = NLoop C gl p_q001_k1 K [(1,aget e 1),(6,aget e 6),(7,aget e 7),(15,aget e 15),(16,aget e 16),(17,aget e 17)] h x:=NLoop_pr
def p_q001_k2 : ACode:=.pr [] (.seq (rg [mV 4 (cI 0),
mV 5 cT] [4,5])
.ret)
def d_q001_k2 (C : Hd) (gl : GL) (h : Heap) (x : Esc) (K : KT) : Prop:=
 K .ret ⟨[(4,(AI 0)),(5,(AB true))],h,x⟩
theorem e_q001_k2 {C gl e h x K} : NW C gl p_q001_k2 ⟨e,h,x⟩ K = d_q001_k2 C gl h x K:=by kernel_rfl
def P_q001 (q1 q2 : ACode) : ACode:=(.seq (rg [mV 4 (cI 0),
mV 5 cF] [0,1])
(.seq (rg [mV 11 0,
cL 12 f_q006 [11],
mV 10 12,
eX 13 10 0,
eX 14 10 1,
mV 6 13,
mV 7 14] [1,6,7])
(.seq (.seq (rg [mV 15 6,
lN 16 15,
mV 17 (cI 0)] [1,6,7,15,16,17])
(.block 0 (.loop q1)))
q2)))
def a_q001 : AFun:=⟨2,[.t 4,.t 5],P_q001 p_q001_k1 p_q001_k2,false,false⟩
def d_q001 (C : Hd) (gl : GL) (q1 q2 : ACode) (v0 v1 : AV) (h : Heap) (x : Esc) (K : KT) : Prop:=
 C f_q006 [v0] h fun t1 h2 y3=>
 pK (oExt t1 0) fun t4=>
 pK (oExt t1 1) fun t5=>
 pK (oLen t4) fun t6=>
 NW C gl (.loop q1) ⟨[(1,v1),(6,t4),(7,t5),(15,t4),(16,t6),(17,(AI 0))],h2,(y3 ++ x)⟩ (blockN 0 (seqN C gl q2 K))
theorem E_q001 {C gl q1 q2 v0 v1 h x K} : NW C gl (P_q001 q1 q2) ⟨enter [v0,v1],h,x⟩ K = d_q001 C gl q1 q2 v0 v1 h x K:=by kernel_rfl
theorem e_q001 {C gl v0 v1 h x K} : NW C gl a_q001.body ⟨enter [v0,v1],h,x⟩ K = d_q001 C gl p_q001_k1 p_q001_k2 v0 v1 h x K:=E_q001
def P_q01b : ACode:=(.seq (rg [mV 3 cF] [0,1])
(.seq (rg [mV 7 0,
cL 8 f_q01r [7],
mV 6 8,
eX 9 6 0,
eX 10 6 1,
uO 4 (.alloc [.p (.int .i64 0),.sl0 none]),
wO (.store (some 2) 4 9),
mV 5 10] [1,4,5])
(.seq (rg [lD 11 none 1,
lD 12 (some 2) 4,
uO 13 (.bsl false (some 2) 1 (.agg [.int .i64 0,.sl none []]) [(0,12)]),
uO 14 (.app (some 2) 11 13),
wO (.store none 1 14)] [5])
(.seq (rg [mV 15 5,
mV 3 15] [3])
.ret))))
def a_q01b : AFun:=⟨2,[.t 3],P_q01b,false,false⟩
def d_q01b (C : Hd) (gl : GL) (v0 v1 : AV) (h : Heap) (x : Esc) (K : KT) : Prop:=
 C f_q01r [v0] h fun t1 h2 y3=>
 pK (oExt t1 0) fun t4=>
 pK (oExt t1 1) fun t5=>
 alK [.p (.int .i64 0),.sl0 none] h2 fun t6 h7 y8=>
 wK (oStore (some 2) t6 t4 h7) fun t9 h10 y11=>
 pK (oLoad none v1 h10) fun t12=>
 pK (oLoad (some 2) t6 h10) fun t13=>
 wK (oBsl false (some 2) 1 (.agg [.int .i64 0,.sl none []]) [(0,t13)] h10) fun t14 h15 y16=>
 wK (oApp (some 2) t12 t14 h15) fun t17 h18 y19=>
 wK (oStore none v1 t17 h18) fun t20 h21 y22=>
 K .ret ⟨[(3,t5)],h21,(y22 ++ (y19 ++ (y16 ++ (y11 ++ (y8 ++ (y3 ++ x))))))⟩
theorem e_q01b {C gl v0 v1 h x K} : NW C gl a_q01b.body ⟨enter [v0,v1],h,x⟩ K = d_q01b C gl v0 v1 h x K:=by kernel_rfl
def p_q01r_k1 : ACode:=.pr [2,4,5,7] (.seq (.seq (rg [mV 24 7,
bN 25 .leq 24 (cI 6)] [2,4,5,7,25])
(.cond 25 .skip
(.exit 0)))
(.seq (.block 1 (.seq (dr [dF (mV 28 7) [7],
dT (cL 29 f_q01x [28]) [28],
dF (mV 30 4) [4],
dA (iA 31 none 30 (cI 0)) [30] false [1] [],
dA (lD 32 none 31) [31] false [1] [],
dF (bN 33 .eql 29 32) [29,32]] [2,4,5,7,33])
(.cond 33 (.seq (rg [mV 34 7,
mV 35 5,
uO 36 (.build [.p (.int .i64 0),.sl0 none] [(0,1,34),(1,1,35)]),
wO (.store (some 2) 2 36),
mV 3 cT] [2,3])
.ret)
.skip)))
(rg [mV 26 7,
bN 27 .add 26 (cI 1),
mV 7 27] [2,4,5,7])))
def d_q01r_k1 (C : Hd) (gl : GL) (v2 v4 v5 v7 : AV) (h : Heap) (x : Esc) (K : KT) : Prop:=
 pK (oBin .leq v7 (AI 6)) fun t1=>
 condB t1 (callE C f_q01x [v7] h fun t2 h3 y4=>
 pK (oIaddr none v4 (AI 0) h3) fun t5=>
 (pK (oIaddr none v4 (AI 0) h) fun v=>(fun u (g1 : Heap) (y1 : Esc)=>u = t5 ∧ g1 = h ∧ y1 = []) v h []) ∧ (pK (oLoad none t5 h3) fun t6=>
 (pK (oLoad none t5 h) fun v=>(fun u (g1 : Heap) (y1 : Esc)=>u = t6 ∧ g1 = h ∧ y1 = []) v h []) ∧ (pK (oBin .eql t2 t6) fun t7=>
 condB t7 (pK (oBuild [.p (.int .i64 0),.sl0 none] [(0,1,v7),(1,1,v5)]) fun t8=>
 wK (oStore (some 2) v2 t8 h3) fun t9 h10 y11=>
 K .ret ⟨[(2,v2),(3,(AB true))],h10,(y11 ++ (y4 ++ x))⟩)
 (pK (oBin .add v7 (AI 1)) fun t12=>
 K .normal ⟨[(2,v2),(4,v4),(5,v5),(7,t12)],h3,(y4 ++ x)⟩))))
 (K (.exit 0) ⟨[(2,v2),(4,v4),(5,v5),(7,v7),(25,t1)],h,x⟩)
theorem e_q01r_k1 {C gl e h x K} : NW C gl p_q01r_k1 ⟨e,h,x⟩ K = d_q01r_k1 C gl (aget e 2) (aget e 4) (aget e 5) (aget e 7) h x K:=by kernel_rfl
theorem l_q01r_k1 {C gl e h x K} : NW C gl (.loop p_q01r_k1) ⟨e,h,x⟩ K = NLoop C gl p_q01r_k1 K [(2,aget e 2),(4,aget e 4),(5,aget e 5),(7,aget e 7)] h x:=NLoop_pr
def p_q01r_k2 : ACode:=.pr [2] (.seq (rg [uO 37 (.build [.p (.int .i64 0),.sl0 none] []),
wO (.store (some 2) 2 37),
mV 3 cF] [2,3])
.ret)
def d_q01r_k2 (C : Hd) (gl : GL) (v2 : AV) (h : Heap) (x : Esc) (K : KT) : Prop:=
 pK (oBuild [.p (.int .i64 0),.sl0 none] []) fun t1=>
 wK (oStore (some 2) v2 t1 h) fun t2 h3 y4=>
 K .ret ⟨[(2,v2),(3,(AB false))],h3,(y4 ++ x)⟩
theorem e_q01r_k2 {C gl e h x K} : NW C gl p_q01r_k2 ⟨e,h,x⟩ K = d_q01r_k2 C gl (aget e 2) h x K:=by kernel_rfl
def P_q01r (q1 q2 : ACode) : ACode:=(.seq (rg [uO 2 (.alloc [.p (.int .i64 0),.sl0 none]),
mV 3 cF] [0,2])
(.seq (rg [mV 8 0,
cL 9 f_q08e [8,(cS [32])],
mV 4 9] [2,4])
(.seq (rg [mV 11 4,
uO 12 (.slice none 11 (some (cI 1)) none none),
cL 13 f_q009 [12,(cI 15)],
mV 10 13,
eX 14 10 0,
eX 15 10 1,
mV 5 14,
mV 6 15] [2,4,5,6])
(.seq (.seq (rg [mV 16 6,
uO 17 (.un .not 16),
mV 18 17,
gD 19 18 false (.mv 5),
gD 20 18 false (.len 19),
gD 21 18 false (.bin .eql 20 (cI 0)),
uO 22 (.pick 18 cT 21)] [2,4,5,22])
(.cond 22 (.seq (rg [uO 23 (.build [.p (.int .i64 0),.sl0 none] []),
wO (.store (some 2) 2 23),
mV 3 cF] [2,3])
.ret)
.skip))
(.seq (.seq (rg [mV 7 (cI 1)] [2,4,5,7])
(.block 0 (.loop q1)))
q2)))))
def a_q01r : AFun:=⟨1,[.cell 2 (some 2),.t 3],P_q01r p_q01r_k1 p_q01r_k2,false,false⟩
def d_q01r (C : Hd) (gl : GL) (q1 q2 : ACode) (v0 : AV) (h : Heap) (x : Esc) (K : KT) : Prop:=
 alK [.p (.int .i64 0),.sl0 none] h fun t1 h2 y3=>
 C f_q08e [v0,(.p (.str [32]))] h2 fun t4 h5 y6=>
 pK (oSlice none t4 (some (AI 1)) none none h5) fun t7=>
 C f_q009 [t7,(AI 15)] h5 fun t8 h9 y10=>
 pK (oExt t8 0) fun t11=>
 pK (oExt t8 1) fun t12=>
 pK (oUn .not t12) fun t13=>
 gM t13 false t11 h9 fun t14 h15 y16=>
 gP t13 false (oLen t14) h15 fun t17 h18 y19=>
 gP t13 false (oBin .eql t17 (AI 0)) h18 fun t20 h21 y22=>
 pK (oPick t13 (AB true) t20) fun t23=>
 condB t23 (pK (oBuild [.p (.int .i64 0),.sl0 none] []) fun t24=>
 wK (oStore (some 2) t1 t24 h21) fun t25 h26 y27=>
 K .ret ⟨[(2,t1),(3,(AB false))],h26,(y27 ++ (y22 ++ (y19 ++ (y16 ++ (y10 ++ (y6 ++ (y3 ++ x)))))))⟩)
 (NW C gl (.loop q1) ⟨[(2,t1),(4,t4),(5,t11),(7,(AI 1))],h21,(y22 ++ (y19 ++ (y16 ++ (y10 ++ (y6 ++ (y3 ++ x))))))⟩ (blockN 0 (seqN C gl q2 K)))
theorem E_q01r {C gl q1 q2 v0 h x K} : NW C gl (P_q01r q1 q2) ⟨enter [v0],h,x⟩ K = d_q01r C gl q1 q2 v0 h x K:=by kernel_rfl
theorem e_q01r {C gl v0 h x K} : NW C gl a_q01r.body ⟨enter [v0],h,x⟩ K = d_q01r C gl p_q01r_k1 p_q01r_k2 v0 h x K:=E_q01r
def p_q04i_k1 : ACode:=.pr [0,1,6] (.seq (.seq (rg [mV 10 0,
bN 11 .neq 10 (cS [])] [0,1,6,11])
(.cond 11 .skip
(.exit 0)))
(.seq (.block 1 (.seq (rg [mV 15 0,
cL 16 f_q086 [15,(cS [10])],
mV 14 16,
eX 17 14 0,
eX 18 14 1,
eX 19 14 2,
mV 7 17,
mV 8 18,
mV 9 19] [1,6,7,8,9])
(.seq (.seq (rg [mV 20 9,
uO 21 (.un .not 20),
mV 22 21,
gD 23 22 false (.mv 1),
gD 24 22 false (.mv 7),
gD 25 22 false (.callv 23 [24]),
gD 26 22 false (.un .not 25),
uO 27 (.pick 22 cT 26)] [1,6,8,27])
(.cond 27 (.seq (rg [mV 28 6,
mV 4 28,
mV 5 cF] [4,5])
.ret)
.skip))
(rg [mV 29 8,
mV 0 29] [0,1,6]))))
(rg [mV 12 6,
bN 13 .add 12 (cI 1),
mV 6 13] [0,1,6])))
def d_q04i_k1 (C : Hd) (gl : GL) (v0 v1 v6 : AV) (h : Heap) (x : Esc) (K : KT) : Prop:=
 pK (oBin .neq v0 (.p (.str []))) fun t1=>
 condB t1 (C f_q086 [v0,(.p (.str [10]))] h fun t2 h3 y4=>
 pK (oExt t2 0) fun t5=>
 pK (oExt t2 1) fun t6=>
 pK (oExt t2 2) fun t7=>
 pK (oUn .not t7) fun t8=>
 gM t8 false v1 h3 fun t9 h10 y11=>
 gM t8 false t5 h10 fun t12 h13 y14=>
 gV t8 false h13 (callvK C t9 [t12] h13) fun t15 h16 y17=>
 gP t8 false (oUn .not t15) h16 fun t18 h19 y20=>
 pK (oPick t8 (AB true) t18) fun t21=>
 condB t21 (K .ret ⟨[(4,v6),(5,(AB false))],h19,(y20 ++ (y17 ++ (y14 ++ (y11 ++ (y4 ++ x)))))⟩)
 (pK (oBin .add v6 (AI 1)) fun t22=>
 K .normal ⟨[(0,t6),(1,v1),(6,t22)],h19,(y20 ++ (y17 ++ (y14 ++ (y11 ++ (y4 ++ x)))))⟩))
 (K (.exit 0) ⟨[(0,v0),(1,v1),(6,v6),(11,t1)],h,x⟩)
theorem e_q04i_k1 {C gl e h x K} : NW C gl p_q04i_k1 ⟨e,h,x⟩ K = d_q04i_k1 C gl (aget e 0) (aget e 1) (aget e 6) h x K:=by kernel_rfl
theorem l_q04i_k1 {C gl e h x K} : NW C gl (.loop p_q04i_k1) ⟨e,h,x⟩ K = NLoop C gl p_q04i_k1 K [(0,aget e 0),(1,aget e 1),(6,aget e 6)] h x:=NLoop_pr
def p_q04i_k2 : ACode:=.pr [] (.seq (rg [mV 4 (cI 0),
mV 5 cT] [4,5])
.ret)
def d_q04i_k2 (C : Hd) (gl : GL) (h : Heap) (x : Esc) (K : KT) : Prop:=
 K .ret ⟨[(4,(AI 0)),(5,(AB true))],h,x⟩
theorem e_q04i_k2 {C gl e h x K} : NW C gl p_q04i_k2 ⟨e,h,x⟩ K = d_q04i_k2 C gl h x K:=by kernel_rfl
def P_q04i (q1 q2 : ACode) : ACode:=(.seq (rg [mV 4 (cI 0),
mV 5 cF] [0,1])
(.seq (.seq (rg [mV 6 (cI 0)] [0,1,6])
(.block 0 (.loop q1)))
q2))
def a_q04i : AFun:=⟨2,[.t 4,.t 5],P_q04i p_q04i_k1 p_q04i_k2,false,false⟩
def d_q04i (C : Hd) (gl : GL) (q1 q2 : ACode) (v0 v1 : AV) (h : Heap) (x : Esc) (K : KT) : Prop:=
 NW C gl (.loop q1) ⟨[(0,v0),(1,v1),(6,(AI 0))],h,x⟩ (blockN 0 (seqN C gl q2 K))
theorem E_q04i {C gl q1 q2 v0 v1 h x K} : NW C gl (P_q04i q1 q2) ⟨enter [v0,v1],h,x⟩ K = d_q04i C gl q1 q2 v0 v1 h x K:=by kernel_rfl
theorem e_q04i {C gl v0 v1 h x K} : NW C gl a_q04i.body ⟨enter [v0,v1],h,x⟩ K = d_q04i C gl p_q04i_k1 p_q04i_k2 v0 v1 h x K:=E_q04i
def P_q04f : ACode:=(.seq (rg [mV 3 cF] [0,1])
(.seq (rg [mV 10 0,
cL 11 f_q04w [10],
mV 9 11,
eX 12 9 0,
eX 13 9 1,
mV 4 12,
mV 5 13] [1,4,5])
(.seq (rg [mV 15 4,
uO 16 (.slice none 15 (some (cI 1)) none none),
cL 17 f_q04n [16,(cI 15)],
mV 14 17,
eX 18 14 0,
eX 19 14 1,
mV 6 18,
mV 7 19] [1,4,5,6,7])
(.seq (dr [dF (cL 20 f_q053 []) [],
dF (mV 21 4) [4],
dF (iA 22 none 21 (cI 0)) [21],
dF (lD 23 none 22) [22],
dF (cL 24 f_q067 [20,23]) [20,23],
dF (mV 25 6) [6],
dF (uO 26 (.build [.p (.int .i64 0),.sl0 none] [(0,1,24),(1,1,25)])) [24,25],
dA (uO 8 (.alloc [.p (.int .i64 0),.sl0 none])) [] true [] [0,2,3,4],
dT (wO (.store (some 2) 8 26)) [8,26]] [1,5,6,7,8])
(.seq (rg [lD 27 none 1,
lD 28 (some 2) 8,
uO 29 (.bsl false (some 2) 1 (.agg [.int .i64 0,.sl none []]) [(0,28)]),
uO 30 (.app (some 2) 27 29),
wO (.store none 1 30)] [5,6,7,8])
(.seq (rg [mV 31 5,
mV 32 31,
gD 33 32 true (.mv 7),
uO 34 (.pick 32 33 cF),
mV 35 34,
gD 36 35 true (.mv 6),
gD 37 35 true (.len 36),
gD 38 35 true (.bin .gtr 37 (cI 0)),
uO 39 (.pick 35 38 cF),
mV 40 39,
gD 41 40 true (.faddr 0 none 8),
gD 42 40 true (.load none 41),
gD 43 40 true (.bin .gtr 42 (cI 0)),
uO 44 (.pick 40 43 cF),
mV 3 44] [3])
.ret))))))
def a_q04f : AFun:=⟨2,[.t 3],P_q04f,false,false⟩
def d_q04f (C : Hd) (gl : GL) (v0 v1 : AV) (h : Heap) (x : Esc) (K : KT) : Prop:=
 C f_q04w [v0] h fun t1 h2 y3=>
 pK (oExt t1 0) fun t4=>
 pK (oExt t1 1) fun t5=>
 pK (oSlice none t4 (some (AI 1)) none none h2) fun t6=>
 C f_q04n [t6,(AI 15)] h2 fun t7 h8 y9=>
 pK (oExt t7 0) fun t10=>
 pK (oExt t7 1) fun t11=>
 callE C f_q053 [] h8 fun t12 h13 y14=>
 (h13 = h8 ∧ y14 = []) ∧ (pK (oIaddr none t4 (AI 0) h13) fun t15=>
 pK (oLoad none t15 h13) fun t16=>
 callE C f_q067 [t12,t16] h13 fun t17 h18 y19=>
 (h18 = h13 ∧ y19 = []) ∧ (pK (oBuild [.p (.int .i64 0),.sl0 none] [(0,1,t17),(1,1,t10)]) fun t20=>
 alK [.p (.int .i64 0),.sl0 none] h18 fun t21 h22 y23=>
 (callE C f_q053 [] h22 (fun u (g1 : Heap) (y1 : Esc)=>u = t12 ∧ g1 = h22 ∧ y1 = [])) ∧ ((pK (oIaddr none t4 (AI 0) h22) fun v=>(fun u (g1 : Heap) (y1 : Esc)=>u = t15 ∧ g1 = h22 ∧ y1 = []) v h22 []) ∧ ((pK (oLoad none t15 h22) fun v=>(fun u (g1 : Heap) (y1 : Esc)=>u = t16 ∧ g1 = h22 ∧ y1 = []) v h22 []) ∧ ((callE C f_q067 [t12,t16] h22 (fun u (g1 : Heap) (y1 : Esc)=>u = t17 ∧ g1 = h22 ∧ y1 = [])) ∧ (wK (oStore (some 2) t21 t20 h22) fun t24 h25 y26=>
 pK (oLoad none v1 h25) fun t27=>
 pK (oLoad (some 2) t21 h25) fun t28=>
 wK (oBsl false (some 2) 1 (.agg [.int .i64 0,.sl none []]) [(0,t28)] h25) fun t29 h30 y31=>
 wK (oApp (some 2) t27 t29 h30) fun t32 h33 y34=>
 wK (oStore none v1 t32 h33) fun t35 h36 y37=>
 gM t5 true t11 h36 fun t38 h39 y40=>
 pK (oPick t5 t38 (AB false)) fun t41=>
 gM t41 true t10 h39 fun t42 h43 y44=>
 gP t41 true (oLen t42) h43 fun t45 h46 y47=>
 gP t41 true (oBin .gtr t45 (AI 0)) h46 fun t48 h49 y50=>
 pK (oPick t41 t48 (AB false)) fun t51=>
 gP t51 true (oFaddr 0 none t21) h49 fun t52 h53 y54=>
 gP t51 true (oLoad none t52 h53) h53 fun t55 h56 y57=>
 gP t51 true (oBin .gtr t55 (AI 0)) h56 fun t58 h59 y60=>
 pK (oPick t51 t58 (AB false)) fun t61=>
 K .ret ⟨[(3,t61)],h59,(y60 ++ (y57 ++ (y54 ++ (y50 ++ (y47 ++ (y44 ++ (y40 ++ (y37 ++ (y34 ++ (y31 ++ (y26 ++ (y23 ++ (y19 ++ (y14 ++ (y9 ++ (y3 ++ x))))))))))))))))⟩))))))
theorem e_q04f {C gl v0 v1 h x K} : NW C gl a_q04f.body ⟨enter [v0,v1],h,x⟩ K = d_q04f C gl v0 v1 h x K:=by kernel_rfl
def P_q04w : ACode:=(.seq (rg [mV 2 (.c (.p (.sl none []))),
mV 3 cF] [0])
(.seq (rg [mV 5 0,
cL 6 f_q08e [5,(cS [32])],
mV 4 6] [4])
(.seq (rg [mV 7 4,
mV 8 4,
cL 9 f_q05r [8,(cS [])],
uO 10 (.un .not 9),
mV 2 7,
mV 3 10] [2,3])
.ret)))
def a_q04w : AFun:=⟨1,[.t 2,.t 3],P_q04w,false,false⟩
def d_q04w (C : Hd) (gl : GL) (v0 : AV) (h : Heap) (x : Esc) (K : KT) : Prop:=
 C f_q08e [v0,(.p (.str [32]))] h fun t1 h2 y3=>
 C f_q05r [t1,(.p (.str []))] h2 fun t4 h5 y6=>
 pK (oUn .not t4) fun t7=>
 K .ret ⟨[(2,t1),(3,t7)],h5,(y6 ++ (y3 ++ x))⟩
theorem e_q04w {C gl v0 h x K} : NW C gl a_q04w.body ⟨enter [v0],h,x⟩ K = d_q04w C gl v0 h x K:=by kernel_rfl
def p_q04n_k1 : ACode:=.pr [1,6,7,12,13,14] (.seq (rg [bN 15 .lss 14 13] [1,6,7,12,13,14,15])
(.seq (.cond 15 .skip
(.exit 0))
(.seq (.block 1 (.seq (rg [iA 16 none 12 14,
lD 17 none 16,
mV 9 17] [1,6,7,9,12,13,14])
(.seq (rg [mV 19 9,
mV 20 1,
cL 21 f_q04l [19,20],
mV 18 21,
eX 22 18 0,
eX 23 18 1,
mV 10 22,
mV 11 23] [1,6,7,10,11,12,13,14])
(rg [mV 24 6,
mV 25 10,
uO 26 (.bsl false none 1 (.int .i64 0) [(0,25)]),
uO 27 (.app none 24 26),
mV 28 7,
mV 29 28,
gD 30 29 true (.mv 11),
uO 31 (.pick 29 30 cF),
mV 6 27,
mV 7 31] [1,6,7,12,13,14]))))
(rg [bN 32 .add 14 (cI 1),
mV 14 32] [1,6,7,12,13,14]))))
def d_q04n_k1 (C : Hd) (gl : GL) (v1 v6 v7 v12 v13 v14 : AV) (h : Heap) (x : Esc) (K : KT) : Prop:=
 pK (oBin .lss v14 v13) fun t1=>
 condB t1 (pK (oIaddr none v12 v14 h) fun t2=>
 pK (oLoad none t2 h) fun t3=>
 C f_q04l [t3,v1] h fun t4 h5 y6=>
 pK (oExt t4 0) fun t7=>
 pK (oExt t4 1) fun t8=>
 wK (oBsl false none 1 (.int .i64 0) [(0,t7)] h5) fun t9 h10 y11=>
 wK (oApp none v6 t9 h10) fun t12 h13 y14=>
 gM v7 true t8 h13 fun t15 h16 y17=>
 pK (oPick v7 t15 (AB false)) fun t18=>
 pK (oBin .add v14 (AI 1)) fun t19=>
 K .normal ⟨[(1,v1),(6,t12),(7,t18),(12,v12),(13,v13),(14,t19)],h16,(y17 ++ (y14 ++ (y11 ++ (y6 ++ x))))⟩)
 (K (.exit 0) ⟨[(1,v1),(6,v6),(7,v7),(12,v12),(13,v13),(14,v14),(15,t1)],h,x⟩)
theorem e_q04n_k1 {C gl e h x K} : NW C gl p_q04n_k1 ⟨e,h,x⟩ K = d_q04n_k1 C gl (aget e 1) (aget e 6) (aget e 7) (aget e 12) (aget e 13) (aget e 14) h x K:=by kernel_rfl
theorem l_q04n_k1 {C gl e h x K} : NW C gl (.loop (.scope p_q04n_k1)) ⟨e,h,x⟩ K = NLoop C gl (.scope p_q04n_k1) K [(1,aget e 1),(6,aget e 6),(7,aget e 7),(12,aget e 12),(13,aget e 13),(14,aget e 14)] h x:=NLoop_sc
def p_q04n_k2 : ACode:=.pr [6,7] (.seq (rg [mV 33 6,
mV 34 7,
mV 4 33,
mV 5 34] [4,5])
.ret)
def d_q04n_k2 (C : Hd) (gl : GL) (v6 v7 : AV) (h : Heap) (x : Esc) (K : KT) : Prop:=
 K .ret ⟨[(4,v6),(5,v7)],h,x⟩
theorem e_q04n_k2 {C gl e h x K} : NW C gl p_q04n_k2 ⟨e,h,x⟩ K = d_q04n_k2 C gl (aget e 6) (aget e 7) h x K:=by kernel_rfl
def P_q04n (q1 q2 : ACode) : ACode:=(.seq (rg [mV 4 (.c (.p (.sl none []))),
mV 5 cF] [0,1])
(.seq (rg [uO 6 (.new0 none)] [0,1,6])
(.seq (rg [mV 7 cT] [0,1,6,7])
(.seq (.seq (rg [mV 12 0,
lN 13 12,
mV 14 (cI 0)] [1,6,7,12,13,14])
(.block 0 (.loop (.scope q1))))
q2))))
def a_q04n : AFun:=⟨2,[.t 4,.t 5],P_q04n p_q04n_k1 p_q04n_k2,false,false⟩
def d_q04n (C : Hd) (gl : GL) (q1 q2 : ACode) (v0 v1 : AV) (h : Heap) (x : Esc) (K : KT) : Prop:=
 nwK none h fun t1 h2 y3=>
 pK (oLen v0) fun t4=>
 NW C gl (.loop (.scope q1)) ⟨[(1,v1),(6,t1),(7,(AB true)),(12,v0),(13,t4),(14,(AI 0))],h2,(y3 ++ x)⟩ (blockN 0 (seqN C gl q2 K))
theorem E_q04n {C gl q1 q2 v0 v1 h x K} : NW C gl (P_q04n q1 q2) ⟨enter [v0,v1],h,x⟩ K = d_q04n C gl q1 q2 v0 v1 h x K:=by kernel_rfl
theorem e_q04n {C gl v0 v1 h x K} : NW C gl a_q04n.body ⟨enter [v0,v1],h,x⟩ K = d_q04n C gl p_q04n_k1 p_q04n_k2 v0 v1 h x K:=E_q04n
def p_q067_k1 : ACode:=.pr [0,1,7,8] (.seq (rg [bN 9 .lss 8 7] [0,1,7,8,9])
(.seq (.cond 9 .skip
(.exit 0))
(.seq (.block 1 (.seq (rg [mV 10 8,
mV 5 10] [0,1,5,7,8])
(.seq (rg [mV 11 1,
mV 12 0,
mV 13 5,
iA 14 none 12 13,
lD 15 none 14,
bN 16 .eql 11 15] [0,1,5,7,8,16])
(.cond 16 (.seq (rg [mV 17 5,
mV 4 17] [4])
.ret)
.skip))))
(rg [bN 18 .add 8 (cI 1),
mV 8 18] [0,1,7,8]))))
def d_q067_k1 (C : Hd) (gl : GL) (v0 v1 v7 v8 : AV) (h : Heap) (x : Esc) (K : KT) : Prop:=
 pK (oBin .lss v8 v7) fun t1=>
 condB t1 (pK (oIaddr none v0 v8 h) fun t2=>
 pK (oLoad none t2 h) fun t3=>
 pK (oBin .eql v1 t3) fun t4=>
 condB t4 (K .ret ⟨[(4,v8)],h,x⟩)
 (pK (oBin .add v8 (AI 1)) fun t5=>
 K .normal ⟨[(0,v0),(1,v1),(7,v7),(8,t5)],h,x⟩))
 (K (.exit 0) ⟨[(0,v0),(1,v1),(7,v7),(8,v8),(9,t1)],h,x⟩)
theorem e_q067_k1 {C gl e h x K} : NW C gl p_q067_k1 ⟨e,h,x⟩ K = d_q067_k1 C gl (aget e 0) (aget e 1) (aget e 7) (aget e 8) h x K:=by kernel_rfl
theorem l_q067_k1 {C gl e h x K} : NW C gl (.loop p_q067_k1) ⟨e,h,x⟩ K = NLoop C gl p_q067_k1 K [(0,aget e 0),(1,aget e 1),(7,aget e 7),(8,aget e 8)] h x:=NLoop_pr
def p_q067_k2 : ACode:=.pr [] (.seq (rg [mV 4 (cI (-1))] [4])
.ret)
def d_q067_k2 (C : Hd) (gl : GL) (h : Heap) (x : Esc) (K : KT) : Prop:=
 K .ret ⟨[(4,(AI (-1)))],h,x⟩
theorem e_q067_k2 {C gl e h x K} : NW C gl p_q067_k2 ⟨e,h,x⟩ K = d_q067_k2 C gl h x K:=by kernel_rfl
def P_q067 (q1 q2 : ACode) : ACode:=(.seq (rg [mV 4 (cI 0)] [0,1])
(.seq (.seq (rg [mV 6 0,
lN 7 6,
mV 8 (cI 0)] [0,1,7,8])
(.block 0 (.loop q1)))
q2))
def a_q067 : AFun:=⟨2,[.t 4],P_q067 p_q067_k1 p_q067_k2,true,false⟩
def d_q067 (C : Hd) (gl : GL) (q1 q2 : ACode) (v0 v1 : AV) (h : Heap) (x : Esc) (K : KT) : Prop:=
 pK (oLen v0) fun t1=>
 NW C gl (.loop q1) ⟨[(0,v0),(1,v1),(7,t1),(8,(AI 0))],h,x⟩ (blockN 0 (seqN C gl q2 K))
theorem E_q067 {C gl q1 q2 v0 v1 h x K} : NW C gl (P_q067 q1 q2) ⟨enter [v0,v1],h,x⟩ K = d_q067 C gl q1 q2 v0 v1 h x K:=by kernel_rfl
theorem e_q067 {C gl v0 v1 h x K} : NW C gl a_q067.body ⟨enter [v0,v1],h,x⟩ K = d_q067 C gl p_q067_k1 p_q067_k2 v0 v1 h x K:=E_q067
def p_q05s_k1 : ACode:=.pr [0,1,5,6] (rg [mV 20 6,
bN 21 .add 20 (cI 1),
mV 6 21] [0,1,5,6])
def d_q05s_k1 (C : Hd) (gl : GL) (v0 v1 v5 v6 : AV) (h : Heap) (x : Esc) (K : KT) : Prop:=
 pK (oBin .add v6 (AI 1)) fun t1=>
 K .normal ⟨[(0,v0),(1,v1),(5,v5),(6,t1)],h,x⟩
theorem e_q05s_k1 {C gl e h x K} : NW C gl p_q05s_k1 ⟨e,h,x⟩ K = d_q05s_k1 C gl (aget e 0) (aget e 1) (aget e 5) (aget e 6) h x K:=by kernel_rfl
def P_q05s_k2 (q1 : ACode) : ACode:=.pr [0,1,5,6] (.seq (.seq (rg [mV 16 6,
mV 17 0,
lN 18 17,
bN 19 .lss 16 18] [0,1,5,6,19])
(.cond 19 .skip
(.exit 0)))
(.seq (.block 1 (.seq (rg [mV 22 0,
mV 23 6,
iA 24 (some 2) 22 23,
lD 25 (some 2) 24,
uO 7 (.alloc [.p (.int .i64 0),.sl0 none]),
wO (.store (some 2) 7 25)] [0,1,5,6,7])
(.seq (rg [mV 26 1,
lD 27 (some 2) 7,
uO 28 (.callv 26 [27]),
uO 29 (.un .not 28)] [0,1,5,6,7,29])
(.cond 29 (.seq (rg [mV 30 0,
mV 31 5,
lD 32 (some 2) 7,
iA 33 (some 2) 30 31,
wO (.store (some 2) 33 32)] [0,1,5,6])
(rg [mV 34 5,
bN 35 .add 34 (cI 1),
mV 5 35] [0,1,5,6]))
.skip))))
q1))
def p_q05s_k2 : ACode:=P_q05s_k2 p_q05s_k1
def d_q05s_k2 (C : Hd) (gl : GL) (q1 : ACode) (v0 v1 v5 v6 : AV) (h : Heap) (x : Esc) (K : KT) : Prop:=
 pK (oLen v0) fun t1=>
 pK (oBin .lss v6 t1) fun t2=>
 condB t2 (pK (oIaddr (some 2) v0 v6 h) fun t3=>
 pK (oLoad (some 2) t3 h) fun t4=>
 alK [.p (.int .i64 0),.sl0 none] h fun t5 h6 y7=>
 wK (oStore (some 2) t5 t4 h6) fun t8 h9 y10=>
 pK (oLoad (some 2) t5 h9) fun t11=>
 callvK C v1 [t11] h9 fun t12 h13 y14=>
 pK (oUn .not t12) fun t15=>
 condB t15 (pK (oLoad (some 2) t5 h13) fun t16=>
 pK (oIaddr (some 2) v0 v5 h13) fun t17=>
 wK (oStore (some 2) t17 t16 h13) fun t18 h19 y20=>
 pK (oBin .add v5 (AI 1)) fun t21=>
 NW C gl q1 ⟨[(0,v0),(1,v1),(5,t21),(6,v6)],h19,(y20 ++ (y14 ++ (y10 ++ (y7 ++ x))))⟩ K)
 (NW C gl q1 ⟨[(0,v0),(1,v1),(5,v5),(6,v6),(7,t5),(29,t15)],h13,(y14 ++ (y10 ++ (y7 ++ x)))⟩ K))
 (K (.exit 0) ⟨[(0,v0),(1,v1),(5,v5),(6,v6),(19,t2)],h,x⟩)
theorem E_q05s_k2 {C gl q1 e h x K} : NW C gl (P_q05s_k2 q1) ⟨e,h,x⟩ K = d_q05s_k2 C gl q1 (aget e 0) (aget e 1) (aget e 5) (aget e 6) h x K:=by kernel_rfl
theorem e_q05s_k2 {C gl e h x K} : NW C gl p_q05s_k2 ⟨e,h,x⟩ K = d_q05s_k2 C gl p_q05s_k1 (aget e 0) (aget e 1) (aget e 5) (aget e 6) h x K:=E_q05s_k2
theorem l_q05s_k2 {C gl e h x K} : NW C gl (.loop (.scope p_q05s_k2)) ⟨e,h,x⟩ K = NLoop C gl (.scope p_q05s_k2) K [(0,aget e 0),(1,aget e 1),(5,aget e 5),(6,aget e 6)] h x:=NLoop_sc
def p_q05s_k3 : ACode:=.pr [0,5] (.seq (rg [mV 36 0,
mV 37 5,
uO 38 (.slice (some 2) 36 (some 37) none none),
wO (.clr (some 2) (.agg [.int .i64 0,.sl none []]) 38)] [0,5])
(.seq (rg [mV 39 0,
mV 40 5,
uO 41 (.slice (some 2) 39 none (some 40) none),
mV 4 41] [4])
.ret))
def d_q05s_k3 (C : Hd) (gl : GL) (v0 v5 : AV) (h : Heap) (x : Esc) (K : KT) : Prop:=
 pK (oSlice (some 2) v0 (some v5) none none h) fun t1=>
 wK (oClr (some 2) (.agg [.int .i64 0,.sl none []]) t1 h) fun t2 h3 y4=>
 pK (oSlice (some 2) v0 none (some v5) none h3) fun t5=>
 K .ret ⟨[(4,t5)],h3,(y4 ++ x)⟩
theorem e_q05s_k3 {C gl e h x K} : NW C gl p_q05s_k3 ⟨e,h,x⟩ K = d_q05s_k3 C gl (aget e 0) (aget e 5) h x K:=by kernel_rfl
def P_q05s (q2 q3 : ACode) : ACode:=(.seq (rg [mV 4 (.c (.p (.sl (some 2) [])))] [0,1])
(.seq (rg [mV 8 0,
mV 9 1,
cL 10 f_q062 [8,9],
mV 5 10] [0,1,5])
(.seq (.seq (rg [mV 11 5,
bN 12 .eql 11 (cI (-1))] [0,1,5,12])
(.cond 12 (.seq (rg [mV 13 0,
mV 4 13] [4])
.ret)
.skip))
(.seq (.seq (rg [mV 14 5,
bN 15 .add 14 (cI 1),
mV 6 15] [0,1,5,6])
(.block 0 (.loop (.scope q2))))
q3))))
def a_q05s : AFun:=⟨2,[.t 4],P_q05s p_q05s_k2 p_q05s_k3,true,false⟩
def d_q05s (C : Hd) (gl : GL) (q2 q3 : ACode) (v0 v1 : AV) (h : Heap) (x : Esc) (K : KT) : Prop:=
 C f_q062 [v0,v1] h fun t1 h2 y3=>
 pK (oBin .eql t1 (AI (-1))) fun t4=>
 condB t4 (K .ret ⟨[(4,v0)],h2,(y3 ++ x)⟩)
 (pK (oBin .add t1 (AI 1)) fun t5=>
 NW C gl (.loop (.scope q2)) ⟨[(0,v0),(1,v1),(5,t1),(6,t5)],h2,(y3 ++ x)⟩ (blockN 0 (seqN C gl q3 K)))
theorem E_q05s {C gl q2 q3 v0 v1 h x K} : NW C gl (P_q05s q2 q3) ⟨enter [v0,v1],h,x⟩ K = d_q05s C gl q2 q3 v0 v1 h x K:=by kernel_rfl
theorem e_q05s {C gl v0 v1 h x K} : NW C gl a_q05s.body ⟨enter [v0,v1],h,x⟩ K = d_q05s C gl p_q05s_k2 p_q05s_k3 v0 v1 h x K:=E_q05s
def P_q042 : ACode:=(.seq (rg [uO 2 (.box 0),
mV 3 cF] [1,2])
(.seq (rg [lD 4 none 1,
lD 5 (some 2) 2,
cL 6 f_q04a [4,5],
bN 7 .neq 6 (cI 0),
mV 3 7] [3])
.ret))
def a_q042 : AFun:=⟨2,[.t 3],P_q042,false,false⟩
def d_q042 (C : Hd) (gl : GL) (v0 v1 : AV) (h : Heap) (x : Esc) (K : KT) : Prop:=
 wK (oBox v0 h) fun t1 h2 y3=>
 pK (oLoad none v1 h2) fun t4=>
 pK (oLoad (some 2) t1 h2) fun t5=>
 C f_q04a [t4,t5] h2 fun t6 h7 y8=>
 pK (oBin .neq t6 (AI 0)) fun t9=>
 K .ret ⟨[(3,t9)],h7,(y8 ++ (y3 ++ x))⟩
theorem e_q042 {C gl v0 v1 h x K} : NW C gl a_q042.body ⟨enter [v0,v1],h,x⟩ K = d_q042 C gl v0 v1 h x K:=by kernel_rfl
def p_q066_k1 : ACode:=.pr [0,1,7,8] (.seq (rg [bN 9 .lss 8 7] [0,1,7,8,9])
(.seq (.cond 9 .skip
(.exit 0))
(.seq (.block 1 (.seq (rg [mV 10 8,
mV 5 10] [0,1,5,7,8])
(.seq (rg [mV 11 1,
mV 12 0,
mV 13 5,
iA 14 none 12 13,
lD 15 none 14,
bN 16 .eql 11 15] [0,1,5,7,8,16])
(.cond 16 (.seq (rg [mV 17 5,
mV 4 17] [4])
.ret)
.skip))))
(rg [bN 18 .add 8 (cI 1),
mV 8 18] [0,1,7,8]))))
def d_q066_k1 (C : Hd) (gl : GL) (v0 v1 v7 v8 : AV) (h : Heap) (x : Esc) (K : KT) : Prop:=
 pK (oBin .lss v8 v7) fun t1=>
 condB t1 (pK (oIaddr none v0 v8 h) fun t2=>
 pK (oLoad none t2 h) fun t3=>
 pK (oBin .eql v1 t3) fun t4=>
 condB t4 (K .ret ⟨[(4,v8)],h,x⟩)
 (pK (oBin .add v8 (AI 1)) fun t5=>
 K .normal ⟨[(0,v0),(1,v1),(7,v7),(8,t5)],h,x⟩))
 (K (.exit 0) ⟨[(0,v0),(1,v1),(7,v7),(8,v8),(9,t1)],h,x⟩)
theorem e_q066_k1 {C gl e h x K} : NW C gl p_q066_k1 ⟨e,h,x⟩ K = d_q066_k1 C gl (aget e 0) (aget e 1) (aget e 7) (aget e 8) h x K:=by kernel_rfl
theorem l_q066_k1 {C gl e h x K} : NW C gl (.loop p_q066_k1) ⟨e,h,x⟩ K = NLoop C gl p_q066_k1 K [(0,aget e 0),(1,aget e 1),(7,aget e 7),(8,aget e 8)] h x:=NLoop_pr
def p_q066_k2 : ACode:=.pr [] (.seq (rg [mV 4 (cI (-1))] [4])
.ret)
def d_q066_k2 (C : Hd) (gl : GL) (h : Heap) (x : Esc) (K : KT) : Prop:=
 K .ret ⟨[(4,(AI (-1)))],h,x⟩
theorem e_q066_k2 {C gl e h x K} : NW C gl p_q066_k2 ⟨e,h,x⟩ K = d_q066_k2 C gl h x K:=by kernel_rfl
def P_q066 (q1 q2 : ACode) : ACode:=(.seq (rg [mV 4 (cI 0)] [0,1])
(.seq (.seq (rg [mV 6 0,
lN 7 6,
mV 8 (cI 0)] [0,1,7,8])
(.block 0 (.loop q1)))
q2))
def a_q066 : AFun:=⟨2,[.t 4],P_q066 p_q066_k1 p_q066_k2,true,false⟩
def d_q066 (C : Hd) (gl : GL) (q1 q2 : ACode) (v0 v1 : AV) (h : Heap) (x : Esc) (K : KT) : Prop:=
 pK (oLen v0) fun t1=>
 NW C gl (.loop q1) ⟨[(0,v0),(1,v1),(7,t1),(8,(AI 0))],h,x⟩ (blockN 0 (seqN C gl q2 K))
theorem E_q066 {C gl q1 q2 v0 v1 h x K} : NW C gl (P_q066 q1 q2) ⟨enter [v0,v1],h,x⟩ K = d_q066 C gl q1 q2 v0 v1 h x K:=by kernel_rfl
theorem e_q066 {C gl v0 v1 h x K} : NW C gl a_q066.body ⟨enter [v0,v1],h,x⟩ K = d_q066 C gl p_q066_k1 p_q066_k2 v0 v1 h x K:=E_q066
def p_q01l_k1 : ACode:=.pr [0,14,15,16] (.seq (rg [bN 17 .lss 16 15] [0,14,15,16,17])
(.seq (.cond 17 .skip
(.exit 0))
(.seq (.block 1 (.seq (rg [iA 18 (some 2) 14 16,
lD 19 (some 2) 18,
uO 7 (.alloc [.p (.int .i64 0),.sl0 none]),
wO (.store (some 2) 7 19)] [0,7,14,15,16])
(.seq (rg [mV 20 0,
lN 21 20,
lD 22 (some 2) 7,
cL 23 f_q013 [21,22],
mV 8 23] [0,8,14,15,16])
(.seq (rg [mV 24 8,
bN 25 .neq 24 (cI 0)] [0,8,14,15,16,25])
(.cond 25 (.seq (rg [mV 26 8,
mV 4 26] [4])
.ret)
.skip)))))
(rg [bN 27 .add 16 (cI 1),
mV 16 27] [0,14,15,16]))))
def d_q01l_k1 (C : Hd) (gl : GL) (v0 v14 v15 v16 : AV) (h : Heap) (x : Esc) (K : KT) : Prop:=
 pK (oBin .lss v16 v15) fun t1=>
 condB t1 (pK (oIaddr (some 2) v14 v16 h) fun t2=>
 pK (oLoad (some 2) t2 h) fun t3=>
 alK [.p (.int .i64 0),.sl0 none] h fun t4 h5 y6=>
 wK (oStore (some 2) t4 t3 h5) fun t7 h8 y9=>
 pK (oLen v0) fun t10=>
 pK (oLoad (some 2) t4 h8) fun t11=>
 C f_q013 [t10,t11] h8 fun t12 h13 y14=>
 pK (oBin .neq t12 (AI 0)) fun t15=>
 condB t15 (K .ret ⟨[(4,t12)],h13,(y14 ++ (y9 ++ (y6 ++ x)))⟩)
 (pK (oBin .add v16 (AI 1)) fun t16=>
 K .normal ⟨[(0,v0),(14,v14),(15,v15),(16,t16)],h13,(y14 ++ (y9 ++ (y6 ++ x)))⟩))
 (K (.exit 0) ⟨[(0,v0),(14,v14),(15,v15),(16,v16),(17,t1)],h,x⟩)
theorem e_q01l_k1 {C gl e h x K} : NW C gl p_q01l_k1 ⟨e,h,x⟩ K = d_q01l_k1 C gl (aget e 0) (aget e 14) (aget e 15) (aget e 16) h x K:=by kernel_rfl
theorem l_q01l_k1 {C gl e h x K} : NW C gl (.loop (.scope p_q01l_k1)) ⟨e,h,x⟩ K = NLoop C gl (.scope p_q01l_k1) K [(0,aget e 0),(14,aget e 14),(15,aget e 15),(16,aget e 16)] h x:=NLoop_sc
def p_q01l_k2 : ACode:=.pr [] (.seq (rg [mV 4 (cI 0)] [4])
.ret)
def d_q01l_k2 (C : Hd) (gl : GL) (h : Heap) (x : Esc) (K : KT) : Prop:=
 K .ret ⟨[(4,(AI 0))],h,x⟩
theorem e_q01l_k2 {C gl e h x K} : NW C gl p_q01l_k2 ⟨e,h,x⟩ K = d_q01l_k2 C gl h x K:=by kernel_rfl
def P_q01l (q1 q2 : ACode) : ACode:=(.seq (rg [mV 4 (cI 0)] [0,1])
(.seq (.seq (rg [mV 9 0,
cL 10 f_q014 [9],
mV 5 10] [0,1,5])
(.seq (rg [mV 11 5,
bN 12 .neq 11 (cI 0)] [0,1,5,12])
(.cond 12 (.seq (rg [mV 13 5,
mV 4 13] [4])
.ret)
.skip)))
(.seq (.seq (rg [mV 14 1,
lN 15 14,
mV 16 (cI 0)] [0,14,15,16])
(.block 0 (.loop (.scope q1))))
q2)))
def a_q01l : AFun:=⟨2,[.t 4],P_q01l p_q01l_k1 p_q01l_k2,false,false⟩
def d_q01l (C : Hd) (gl : GL) (q1 q2 : ACode) (v0 v1 : AV) (h : Heap) (x : Esc) (K : KT) : Prop:=
 C f_q014 [v0] h fun t1 h2 y3=>
 pK (oBin .neq t1 (AI 0)) fun t4=>
 condB t4 (K .ret ⟨[(4,t1)],h2,(y3 ++ x)⟩)
 (pK (oLen v1) fun t5=>
 NW C gl (.loop (.scope q1)) ⟨[(0,v0),(14,v1),(15,t5),(16,(AI 0))],h2,(y3 ++ x)⟩ (blockN 0 (seqN C gl q2 K)))
theorem E_q01l {C gl q1 q2 v0 v1 h x K} : NW C gl (P_q01l q1 q2) ⟨enter [v0,v1],h,x⟩ K = d_q01l C gl q1 q2 v0 v1 h x K:=by kernel_rfl
theorem e_q01l {C gl v0 v1 h x K} : NW C gl a_q01l.body ⟨enter [v0,v1],h,x⟩ K = d_q01l C gl p_q01l_k1 p_q01l_k2 v0 v1 h x K:=E_q01l
end Go.Am
end
section
/- The functions asv abstract code,and asv formulas over their values: printed by program out of the translation. -/
set_option linter.unusedVariables false
set_option maxRecDepth 100000
namespace Go.Am
def p_q01t_k1 : ACode:=.pr [3,5,6,8,9,10,15,16] (.seq (rg [bN 17 .lss 16 15] [3,5,6,8,9,10,15,16,17])
(.seq (.cond 17 .skip
(.exit 2))
(.seq (.block 3 (.seq (rg [mV 18 16,
mV 7 18] [3,5,6,7,8,9,10,15,16])
(rg [mV 19 6,
mV 20 5,
mV 21 7,
uO 22 (.idxs 20 21),
bN 23 .sub 22 (.c (.p (.int .u8 48))),
uO 24 (.conv (.i .u64) 23),
mV 25 7,
bN 26 .shl 24 25,
bN 27 .or 19 26,
mV 6 27] [3,5,6,8,9,10,15,16])))
(rg [bN 28 .add 16 (cI 1),
mV 16 28] [3,5,6,8,9,10,15,16]))))
def d_q01t_k1 (C : Hd) (gl : GL) (v3 v5 v6 v8 v9 v10 v15 v16 : AV) (h : Heap) (x : Esc) (K : KT) : Prop:=
 pK (oBin .lss v16 v15) fun t1=>
 condB t1 (pK (oIdxs v5 v16) fun t2=>
 pK (oBin .sub t2 (.p (.int .u8 48))) fun t3=>
 pK (oConvI .u64 t3) fun t4=>
 pK (oBin .shl t4 v16) fun t5=>
 pK (oBin .or v6 t5) fun t6=>
 pK (oBin .add v16 (AI 1)) fun t7=>
 K .normal ⟨[(3,v3),(5,v5),(6,t6),(8,v8),(9,v9),(10,v10),(15,v15),(16,t7)],h,x⟩)
 (K (.exit 2) ⟨[(3,v3),(5,v5),(6,v6),(8,v8),(9,v9),(10,v10),(15,v15),(16,v16),(17,t1)],h,x⟩)
theorem e_q01t_k1 {C gl e h x K} : NW C gl p_q01t_k1 ⟨e,h,x⟩ K = d_q01t_k1 C gl (aget e 3) (aget e 5) (aget e 6) (aget e 8) (aget e 9) (aget e 10) (aget e 15) (aget e 16) h x K:=by kernel_rfl
theorem l_q01t_k1 {C gl e h x K} : NW C gl (.loop p_q01t_k1) ⟨e,h,x⟩ K = NLoop C gl p_q01t_k1 K [(3,aget e 3),(5,aget e 5),(6,aget e 6),(8,aget e 8),(9,aget e 9),(10,aget e 10),(15,aget e 15),(16,aget e 16)] h x:=NLoop_pr
def p_q01t_k2 : ACode:=.pr [3,6,8,9,10] (rg [mV 29 3,
mV 30 6,
uO 31 (.bsl false none 1 (.int .u64 0) [(0,30)]),
uO 32 (.app none 29 31),
mV 3 32] [3,8,9,10])
def d_q01t_k2 (C : Hd) (gl : GL) (v3 v6 v8 v9 v10 : AV) (h : Heap) (x : Esc) (K : KT) : Prop:=
 wK (oBsl false none 1 (.int .u64 0) [(0,v6)] h) fun t1 h2 y3=>
 wK (oApp none v3 t1 h2) fun t4 h5 y6=>
 K .normal ⟨[(3,t4),(8,v8),(9,v9),(10,v10)],h5,(y6 ++ (y3 ++ x))⟩
theorem e_q01t_k2 {C gl e h x K} : NW C gl p_q01t_k2 ⟨e,h,x⟩ K = d_q01t_k2 C gl (aget e 3) (aget e 6) (aget e 8) (aget e 9) (aget e 10) h x K:=by kernel_rfl
def p_q01t_k3 : ACode:=.pr [3,8,9,10] (rg [bN 33 .add 10 (cI 1),
mV 10 33] [3,8,9,10])
def d_q01t_k3 (C : Hd) (gl : GL) (v3 v8 v9 v10 : AV) (h : Heap) (x : Esc) (K : KT) : Prop:=
 pK (oBin .add v10 (AI 1)) fun t1=>
 K .normal ⟨[(3,v3),(8,v8),(9,v9),(10,t1)],h,x⟩
theorem e_q01t_k3 {C gl e h x K} : NW C gl p_q01t_k3 ⟨e,h,x⟩ K = d_q01t_k3 C gl (aget e 3) (aget e 8) (aget e 9) (aget e 10) h x K:=by kernel_rfl
def P_q01t_k4 (q1 q2 q3 : ACode) : ACode:=.pr [3,8,9,10] (.seq (rg [bN 11 .lss 10 9] [3,8,9,10,11])
(.seq (.cond 11 .skip
(.exit 0))
(.seq (.block 1 (.seq (rg [iA 12 none 8 10,
lD 13 none 12,
mV 5 13] [3,5,8,9,10])
(.seq (rg [mV 6 (.c (.p (.int .u64 0)))] [3,5,6,8,9,10])
(.seq (.seq (rg [mV 14 5,
uO 15 (.lens 14),
mV 16 (cI 0)] [3,5,6,8,9,10,15,16])
(.block 2 (.loop q1)))
q2))))
q3)))
def p_q01t_k4 : ACode:=P_q01t_k4 p_q01t_k1 p_q01t_k2 p_q01t_k3
def d_q01t_k4 (C : Hd) (gl : GL) (q1 q2 q3 : ACode) (v3 v8 v9 v10 : AV) (h : Heap) (x : Esc) (K : KT) : Prop:=
 pK (oBin .lss v10 v9) fun t1=>
 condB t1 (pK (oIaddr none v8 v10 h) fun t2=>
 pK (oLoad none t2 h) fun t3=>
 pK (oLens t3) fun t4=>
 NW C gl (.loop q1) ⟨[(3,v3),(5,t3),(6,(.p (.int .u64 0))),(8,v8),(9,v9),(10,v10),(15,t4),(16,(AI 0))],h,x⟩ (blockN 2 (seqN C gl q2 (blockN 1 (seqN C gl q3 K)))))
 (K (.exit 0) ⟨[(3,v3),(8,v8),(9,v9),(10,v10),(11,t1)],h,x⟩)
theorem E_q01t_k4 {C gl q1 q2 q3 e h x K} : NW C gl (P_q01t_k4 q1 q2 q3) ⟨e,h,x⟩ K = d_q01t_k4 C gl q1 q2 q3 (aget e 3) (aget e 8) (aget e 9) (aget e 10) h x K:=by kernel_rfl
theorem e_q01t_k4 {C gl e h x K} : NW C gl p_q01t_k4 ⟨e,h,x⟩ K = d_q01t_k4 C gl p_q01t_k1 p_q01t_k2 p_q01t_k3 (aget e 3) (aget e 8) (aget e 9) (aget e 10) h x K:=E_q01t_k4
theorem l_q01t_k4 {C gl e h x K} : NW C gl (.loop (.scope p_q01t_k4)) ⟨e,h,x⟩ K = NLoop C gl (.scope p_q01t_k4) K [(3,aget e 3),(8,aget e 8),(9,aget e 9),(10,aget e 10)] h x:=NLoop_sc
def p_q01t_k5 : ACode:=.pr [3] (.seq (rg [mV 34 3,
mV 2 34] [2])
.ret)
def d_q01t_k5 (C : Hd) (gl : GL) (v3 : AV) (h : Heap) (x : Esc) (K : KT) : Prop:=
 K .ret ⟨[(2,v3)],h,x⟩
theorem e_q01t_k5 {C gl e h x K} : NW C gl p_q01t_k5 ⟨e,h,x⟩ K = d_q01t_k5 C gl (aget e 3) h x K:=by kernel_rfl
def P_q01t (q4 q5 : ACode) : ACode:=(.seq (rg [mV 2 (.c (.p (.sl none [])))] [0])
(.seq (rg [uO 3 (.new0 none)] [0,3])
(.seq (.seq (rg [mV 8 0,
lN 9 8,
mV 10 (cI 0)] [3,8,9,10])
(.block 0 (.loop (.scope q4))))
q5)))
def a_q01t : AFun:=⟨1,[.t 2],P_q01t p_q01t_k4 p_q01t_k5,false,true⟩
def d_q01t (C : Hd) (gl : GL) (q4 q5 : ACode) (v0 : AV) (h : Heap) (x : Esc) (K : KT) : Prop:=
 nwK none h fun t1 h2 y3=>
 pK (oLen v0) fun t4=>
 NW C gl (.loop (.scope q4)) ⟨[(3,t1),(8,v0),(9,t4),(10,(AI 0))],h2,(y3 ++ x)⟩ (blockN 0 (seqN C gl q5 K))
theorem E_q01t {C gl q4 q5 v0 h x K} : NW C gl (P_q01t q4 q5) ⟨enter [v0],h,x⟩ K = d_q01t C gl q4 q5 v0 h x K:=by kernel_rfl
theorem e_q01t {C gl v0 h x K} : NW C gl a_q01t.body ⟨enter [v0],h,x⟩ K = d_q01t C gl p_q01t_k4 p_q01t_k5 v0 h x K:=E_q01t
def p_q01w_k1 : ACode:=.pr [0,4,6,31,32,33] (.seq (rg [bN 34 .lss 33 32] [0,4,6,31,32,33,34])
(.seq (.cond 34 .skip
(.exit 1))
(.seq (.block 2 (.seq (rg [iA 35 none 31 33,
lD 36 none 35,
mV 8 36] [0,4,6,8,31,32,33])
(rg [mV 37 6,
mV 38 0,
mV 39 8,
iA 40 none 38 39,
lD 41 none 40,
bN 42 .and 37 41,
mV 6 42] [0,4,6,31,32,33])))
(rg [bN 43 .add 33 (cI 1),
mV 33 43] [0,4,6,31,32,33]))))
def d_q01w_k1 (C : Hd) (gl : GL) (v0 v4 v6 v31 v32 v33 : AV) (h : Heap) (x : Esc) (K : KT) : Prop:=
 pK (oBin .lss v33 v32) fun t1=>
 condB t1 (pK (oIaddr none v31 v33 h) fun t2=>
 pK (oLoad none t2 h) fun t3=>
 pK (oIaddr none v0 t3 h) fun t4=>
 pK (oLoad none t4 h) fun t5=>
 pK (oBin .and v6 t5) fun t6=>
 pK (oBin .add v33 (AI 1)) fun t7=>
 K .normal ⟨[(0,v0),(4,v4),(6,t6),(31,v31),(32,v32),(33,t7)],h,x⟩)
 (K (.exit 1) ⟨[(0,v0),(4,v4),(6,v6),(31,v31),(32,v32),(33,v33),(34,t1)],h,x⟩)
theorem e_q01w_k1 {C gl e h x K} : NW C gl p_q01w_k1 ⟨e,h,x⟩ K = d_q01w_k1 C gl (aget e 0) (aget e 4) (aget e 6) (aget e 31) (aget e 32) (aget e 33) h x K:=by kernel_rfl
theorem l_q01w_k1 {C gl e h x K} : NW C gl (.loop p_q01w_k1) ⟨e,h,x⟩ K = NLoop C gl p_q01w_k1 K [(0,aget e 0),(4,aget e 4),(6,aget e 6),(31,aget e 31),(32,aget e 32),(33,aget e 33)] h x:=NLoop_pr
def p_q01w_k2 : ACode:=.pr [0,4,6,47,48,49] (.seq (rg [bN 50 .lss 49 48] [0,4,6,47,48,49,50])
(.seq (.cond 50 .skip
(.exit 3))
(.seq (.block 4 (.seq (rg [iA 51 none 47 49,
lD 52 none 51,
mV 10 52] [0,4,6,10,47,48,49])
(rg [mV 53 6,
mV 54 0,
mV 55 10,
iA 56 none 54 55,
lD 57 none 56,
bN 58 .or 53 57,
mV 6 58] [0,4,6,47,48,49])))
(rg [bN 59 .add 49 (cI 1),
mV 49 59] [0,4,6,47,48,49]))))
def d_q01w_k2 (C : Hd) (gl : GL) (v0 v4 v6 v47 v48 v49 : AV) (h : Heap) (x : Esc) (K : KT) : Prop:=
 pK (oBin .lss v49 v48) fun t1=>
 condB t1 (pK (oIaddr none v47 v49 h) fun t2=>
 pK (oLoad none t2 h) fun t3=>
 pK (oIaddr none v0 t3 h) fun t4=>
 pK (oLoad none t4 h) fun t5=>
 pK (oBin .or v6 t5) fun t6=>
 pK (oBin .add v49 (AI 1)) fun t7=>
 K .normal ⟨[(0,v0),(4,v4),(6,t6),(47,v47),(48,v48),(49,t7)],h,x⟩)
 (K (.exit 3) ⟨[(0,v0),(4,v4),(6,v6),(47,v47),(48,v48),(49,v49),(50,t1)],h,x⟩)
theorem e_q01w_k2 {C gl e h x K} : NW C gl p_q01w_k2 ⟨e,h,x⟩ K = d_q01w_k2 C gl (aget e 0) (aget e 4) (aget e 6) (aget e 47) (aget e 48) (aget e 49) h x K:=by kernel_rfl
theorem l_q01w_k2 {C gl e h x K} : NW C gl (.loop p_q01w_k2) ⟨e,h,x⟩ K = NLoop C gl p_q01w_k2 K [(0,aget e 0),(4,aget e 4),(6,aget e 6),(47,aget e 47),(48,aget e 48),(49,aget e 49)] h x:=NLoop_pr
def P_q01w_k3 (q1 q2 : ACode) : ACode:=.pr [0,2,4,6,21,24] (.cond 24 (rg [mV 27 2,
mV 6 27] [0,4,6])
(.seq (rg [bN 29 .eql 21 (cI 3),
mV 28 29] [0,4,6,21,28])
(.cond 28 (.seq (rg [fA 30 1 none 4,
lD 31 none 30,
lN 32 31,
mV 33 (cI 0)] [0,4,6,31,32,33])
(.block 1 (.loop q1)))
(.seq (rg [bN 45 .eql 21 (cI 4),
mV 44 45] [0,4,6,44])
(.cond 44 (.seq (rg [fA 46 1 none 4,
lD 47 none 46,
lN 48 47,
mV 49 (cI 0)] [0,4,6,47,48,49])
(.block 3 (.loop q2)))
.skip)))))
def p_q01w_k3 : ACode:=P_q01w_k3 p_q01w_k1 p_q01w_k2
def d_q01w_k3 (C : Hd) (gl : GL) (q1 q2 : ACode) (v0 v2 v4 v6 v21 v24 : AV) (h : Heap) (x : Esc) (K : KT) : Prop:=
 condB v24 (K .normal ⟨[(0,v0),(4,v4),(6,v2)],h,x⟩)
 (pK (oBin .eql v21 (AI 3)) fun t1=>
 condB t1 (pK (oFaddr 1 none v4) fun t2=>
 pK (oLoad none t2 h) fun t3=>
 pK (oLen t3) fun t4=>
 NW C gl (.loop q1) ⟨[(0,v0),(4,v4),(6,v6),(31,t3),(32,t4),(33,(AI 0))],h,x⟩ (blockN 1 K))
 (pK (oBin .eql v21 (AI 4)) fun t5=>
 condB t5 (pK (oFaddr 1 none v4) fun t6=>
 pK (oLoad none t6 h) fun t7=>
 pK (oLen t7) fun t8=>
 NW C gl (.loop q2) ⟨[(0,v0),(4,v4),(6,v6),(47,t7),(48,t8),(49,(AI 0))],h,x⟩ (blockN 3 K))
 (K .normal ⟨[(0,v0),(4,v4),(6,v6),(44,t5)],h,x⟩)))
theorem E_q01w_k3 {C gl q1 q2 e h x K} : NW C gl (P_q01w_k3 q1 q2) ⟨e,h,x⟩ K = d_q01w_k3 C gl q1 q2 (aget e 0) (aget e 2) (aget e 4) (aget e 6) (aget e 21) (aget e 24) h x K:=by kernel_rfl
theorem e_q01w_k3 {C gl e h x K} : NW C gl p_q01w_k3 ⟨e,h,x⟩ K = d_q01w_k3 C gl p_q01w_k1 p_q01w_k2 (aget e 0) (aget e 2) (aget e 4) (aget e 6) (aget e 21) (aget e 24) h x K:=E_q01w_k3
def p_q01w_k4 : ACode:=.pr [0,6,61,62,63] (.seq (rg [bN 64 .lss 63 62] [0,6,61,62,63,64])
(.seq (.cond 64 .skip
(.exit 5))
(.seq (.block 6 (.seq (rg [iA 65 none 61 63,
lD 66 none 65,
mV 12 66] [0,6,12,61,62,63])
(rg [mV 67 0,
mV 68 12,
mV 69 6,
iA 70 none 67 68,
wO (.store none 70 69)] [0,6,61,62,63])))
(rg [bN 71 .add 63 (cI 1),
mV 63 71] [0,6,61,62,63]))))
def d_q01w_k4 (C : Hd) (gl : GL) (v0 v6 v61 v62 v63 : AV) (h : Heap) (x : Esc) (K : KT) : Prop:=
 pK (oBin .lss v63 v62) fun t1=>
 condB t1 (pK (oIaddr none v61 v63 h) fun t2=>
 pK (oLoad none t2 h) fun t3=>
 pK (oIaddr none v0 t3 h) fun t4=>
 wK (oStore none t4 v6 h) fun t5 h6 y7=>
 pK (oBin .add v63 (AI 1)) fun t8=>
 K .normal ⟨[(0,v0),(6,v6),(61,v61),(62,v62),(63,t8)],h6,(y7 ++ x)⟩)
 (K (.exit 5) ⟨[(0,v0),(6,v6),(61,v61),(62,v62),(63,v63),(64,t1)],h,x⟩)
theorem e_q01w_k4 {C gl e h x K} : NW C gl p_q01w_k4 ⟨e,h,x⟩ K = d_q01w_k4 C gl (aget e 0) (aget e 6) (aget e 61) (aget e 62) (aget e 63) h x K:=by kernel_rfl
theorem l_q01w_k4 {C gl e h x K} : NW C gl (.loop p_q01w_k4) ⟨e,h,x⟩ K = NLoop C gl p_q01w_k4 K [(0,aget e 0),(6,aget e 6),(61,aget e 61),(62,aget e 62),(63,aget e 63)] h x:=NLoop_pr
def P_q01w_k5 (q4 : ACode) : ACode:=.pr [0,4,6] (.seq (rg [fA 60 1 none 4,
lD 61 none 60,
lN 62 61,
mV 63 (cI 0)] [0,6,61,62,63])
(.block 5 (.loop q4)))
def p_q01w_k5 : ACode:=P_q01w_k5 p_q01w_k4
def d_q01w_k5 (C : Hd) (gl : GL) (q4 : ACode) (v0 v4 v6 : AV) (h : Heap) (x : Esc) (K : KT) : Prop:=
 pK (oFaddr 1 none v4) fun t1=>
 pK (oLoad none t1 h) fun t2=>
 pK (oLen t2) fun t3=>
 NW C gl (.loop q4) ⟨[(0,v0),(6,v6),(61,t2),(62,t3),(63,(AI 0))],h,x⟩ (blockN 5 K)
theorem E_q01w_k5 {C gl q4 e h x K} : NW C gl (P_q01w_k5 q4) ⟨e,h,x⟩ K = d_q01w_k5 C gl q4 (aget e 0) (aget e 4) (aget e 6) h x K:=by kernel_rfl
theorem e_q01w_k5 {C gl e h x K} : NW C gl p_q01w_k5 ⟨e,h,x⟩ K = d_q01w_k5 C gl p_q01w_k4 (aget e 0) (aget e 4) (aget e 6) h x K:=E_q01w_k5
def P_q01w (q3 q5 : ACode) : ACode:=(.seq (rg [uO 4 (.box 1)] [0,2,4])
(.seq (rg [mV 13 0,
fA 14 1 none 4,
lD 15 none 14,
iA 16 none 15 (cI 0),
lD 17 none 16,
iA 18 none 13 17,
lD 19 none 18,
mV 6 19] [0,2,4,6])
(.seq (.seq (rg [fA 20 0 none 4,
lD 21 none 20] [0,2,4,6,21])
(.block 0 (.seq (rg [bN 23 .eql 21 (cI 1),
mV 22 23] [0,2,4,6,21,22])
(.cond 22 (rg [mV 6 (.c (.p (.int .u64 0)))] [0,4,6])
(.seq (.seq (rg [bN 25 .eql 21 (cI 2),
mV 24 25] [0,2,4,6,21,24])
(.cond 24 .skip
(rg [bN 26 .eql 21 (cI 6),
mV 24 26] [0,2,4,6,21,24])))
q3)))))
q5)))
def a_q01w : AFun:=⟨3,[],P_q01w p_q01w_k3 p_q01w_k5,true,false⟩
def d_q01w (C : Hd) (gl : GL) (q3 q5 : ACode) (v0 v1 v2 : AV) (h : Heap) (x : Esc) (K : KT) : Prop:=
 wK (oBox v1 h) fun t1 h2 y3=>
 pK (oFaddr 1 none t1) fun t4=>
 pK (oLoad none t4 h2) fun t5=>
 pK (oIaddr none t5 (AI 0) h2) fun t6=>
 pK (oLoad none t6 h2) fun t7=>
 pK (oIaddr none v0 t7 h2) fun t8=>
 pK (oLoad none t8 h2) fun t9=>
 pK (oFaddr 0 none t1) fun t10=>
 pK (oLoad none t10 h2) fun t11=>
 pK (oBin .eql t11 (AI 1)) fun t12=>
 condB t12 (NW C gl q5 ⟨[(0,v0),(4,t1),(6,(.p (.int .u64 0)))],h2,(y3 ++ x)⟩ K)
 (pK (oBin .eql t11 (AI 2)) fun t13=>
 condB t13 (NW C gl q3 ⟨[(0,v0),(2,v2),(4,t1),(6,t9),(21,t11),(24,t13)],h2,(y3 ++ x)⟩ (blockN 0 (seqN C gl q5 K)))
 (pK (oBin .eql t11 (AI 6)) fun t14=>
 NW C gl q3 ⟨[(0,v0),(2,v2),(4,t1),(6,t9),(21,t11),(24,t14)],h2,(y3 ++ x)⟩ (blockN 0 (seqN C gl q5 K))))
theorem E_q01w {C gl q3 q5 v0 v1 v2 h x K} : NW C gl (P_q01w q3 q5) ⟨enter [v0,v1,v2],h,x⟩ K = d_q01w C gl q3 q5 v0 v1 v2 h x K:=by kernel_rfl
theorem e_q01w {C gl v0 v1 v2 h x K} : NW C gl a_q01w.body ⟨enter [v0,v1,v2],h,x⟩ K = d_q01w C gl p_q01w_k3 p_q01w_k5 v0 v1 v2 h x K:=E_q01w
def p_q01u_k1 : ACode:=.pr [1,5,7,8,10,11,12,19,20] (.seq (rg [bN 21 .lss 20 19] [1,5,7,8,10,11,12,19,20,21])
(.seq (.cond 21 .skip
(.exit 2))
(.seq (.block 3 (.seq (rg [mV 22 20,
mV 9 22] [1,5,7,8,9,10,11,12,19,20])
(rg [mV 23 8,
mV 24 9,
mV 25 7,
mV 26 9,
bN 27 .shr 25 26,
bN 28 .and 27 (.c (.p (.int .u64 1))),
bN 29 .add (.c (.p (.int .u64 48))) 28,
uO 30 (.conv (.i .u8) 29),
iA 31 none 23 24,
wO (.store none 31 30)] [1,5,7,8,10,11,12,19,20])))
(rg [bN 32 .add 20 (cI 1),
mV 20 32] [1,5,7,8,10,11,12,19,20]))))
def d_q01u_k1 (C : Hd) (gl : GL) (v1 v5 v7 v8 v10 v11 v12 v19 v20 : AV) (h : Heap) (x : Esc) (K : KT) : Prop:=
 pK (oBin .lss v20 v19) fun t1=>
 condB t1 (pK (oBin .shr v7 v20) fun t2=>
 pK (oBin .and t2 (.p (.int .u64 1))) fun t3=>
 pK (oBin .add (.p (.int .u64 48)) t3) fun t4=>
 pK (oConvI .u8 t4) fun t5=>
 pK (oIaddr none v8 v20 h) fun t6=>
 wK (oStore none t6 t5 h) fun t7 h8 y9=>
 pK (oBin .add v20 (AI 1)) fun t10=>
 K .normal ⟨[(1,v1),(5,v5),(7,v7),(8,v8),(10,v10),(11,v11),(12,v12),(19,v19),(20,t10)],h8,(y9 ++ x)⟩)
 (K (.exit 2) ⟨[(1,v1),(5,v5),(7,v7),(8,v8),(10,v10),(11,v11),(12,v12),(19,v19),(20,v20),(21,t1)],h,x⟩)
theorem e_q01u_k1 {C gl e h x K} : NW C gl p_q01u_k1 ⟨e,h,x⟩ K = d_q01u_k1 C gl (aget e 1) (aget e 5) (aget e 7) (aget e 8) (aget e 10) (aget e 11) (aget e 12) (aget e 19) (aget e 20) h x K:=by kernel_rfl
theorem l_q01u_k1 {C gl e h x K} : NW C gl (.loop p_q01u_k1) ⟨e,h,x⟩ K = NLoop C gl p_q01u_k1 K [(1,aget e 1),(5,aget e 5),(7,aget e 7),(8,aget e 8),(10,aget e 10),(11,aget e 11),(12,aget e 12),(19,aget e 19),(20,aget e 20)] h x:=NLoop_pr
def p_q01u_k2 : ACode:=.pr [1,5,8,10,11,12] (rg [mV 33 5,
mV 34 8,
uO 35 (.conv .b2s 34),
uO 36 (.bsl false none 1 (.str []) [(0,35)]),
uO 37 (.app none 33 36),
mV 5 37] [1,5,10,11,12])
def d_q01u_k2 (C : Hd) (gl : GL) (v1 v5 v8 v10 v11 v12 : AV) (h : Heap) (x : Esc) (K : KT) : Prop:=
 wK (oConv .b2s v8 h) fun t1 h2 y3=>
 wK (oBsl false none 1 (.str []) [(0,t1)] h2) fun t4 h5 y6=>
 wK (oApp none v5 t4 h5) fun t7 h8 y9=>
 K .normal ⟨[(1,v1),(5,t7),(10,v10),(11,v11),(12,v12)],h8,(y9 ++ (y6 ++ (y3 ++ x)))⟩
theorem e_q01u_k2 {C gl e h x K} : NW C gl p_q01u_k2 ⟨e,h,x⟩ K = d_q01u_k2 C gl (aget e 1) (aget e 5) (aget e 8) (aget e 10) (aget e 11) (aget e 12) h x K:=by kernel_rfl
def p_q01u_k3 : ACode:=.pr [1,5,10,11,12] (rg [bN 38 .add 12 (cI 1),
mV 12 38] [1,5,10,11,12])
def d_q01u_k3 (C : Hd) (gl : GL) (v1 v5 v10 v11 v12 : AV) (h : Heap) (x : Esc) (K : KT) : Prop:=
 pK (oBin .add v12 (AI 1)) fun t1=>
 K .normal ⟨[(1,v1),(5,v5),(10,v10),(11,v11),(12,t1)],h,x⟩
theorem e_q01u_k3 {C gl e h x K} : NW C gl p_q01u_k3 ⟨e,h,x⟩ K = d_q01u_k3 C gl (aget e 1) (aget e 5) (aget e 10) (aget e 11) (aget e 12) h x K:=by kernel_rfl
def P_q01u_k4 (q1 q2 q3 : ACode) : ACode:=.pr [1,5,10,11,12] (.seq (rg [bN 13 .lss 12 11] [1,5,10,11,12,13])
(.seq (.cond 13 .skip
(.exit 0))
(.seq (.block 1 (.seq (rg [iA 14 none 10 12,
lD 15 none 14,
mV 7 15] [1,5,7,10,11,12])
(.seq (rg [mV 16 1,
uO 17 (.mksl none (.int .u8 0) 16 16),
mV 8 17] [1,5,7,8,10,11,12])
(.seq (.seq (rg [mV 18 8,
lN 19 18,
mV 20 (cI 0)] [1,5,7,8,10,11,12,19,20])
(.block 2 (.loop q1)))
q2))))
q3)))
def p_q01u_k4 : ACode:=P_q01u_k4 p_q01u_k1 p_q01u_k2 p_q01u_k3
def d_q01u_k4 (C : Hd) (gl : GL) (q1 q2 q3 : ACode) (v1 v5 v10 v11 v12 : AV) (h : Heap) (x : Esc) (K : KT) : Prop:=
 pK (oBin .lss v12 v11) fun t1=>
 condB t1 (pK (oIaddr none v10 v12 h) fun t2=>
 pK (oLoad none t2 h) fun t3=>
 wK (oMksl none (.int .u8 0) v1 v1 h) fun t4 h5 y6=>
 pK (oLen t4) fun t7=>
 NW C gl (.loop q1) ⟨[(1,v1),(5,v5),(7,t3),(8,t4),(10,v10),(11,v11),(12,v12),(19,t7),(20,(AI 0))],h5,(y6 ++ x)⟩ (blockN 2 (seqN C gl q2 (blockN 1 (seqN C gl q3 K)))))
 (K (.exit 0) ⟨[(1,v1),(5,v5),(10,v10),(11,v11),(12,v12),(13,t1)],h,x⟩)
theorem E_q01u_k4 {C gl q1 q2 q3 e h x K} : NW C gl (P_q01u_k4 q1 q2 q3) ⟨e,h,x⟩ K = d_q01u_k4 C gl q1 q2 q3 (aget e 1) (aget e 5) (aget e 10) (aget e 11) (aget e 12) h x K:=by kernel_rfl
theorem e_q01u_k4 {C gl e h x K} : NW C gl p_q01u_k4 ⟨e,h,x⟩ K = d_q01u_k4 C gl p_q01u_k1 p_q01u_k2 p_q01u_k3 (aget e 1) (aget e 5) (aget e 10) (aget e 11) (aget e 12) h x K:=E_q01u_k4
theorem l_q01u_k4 {C gl e h x K} : NW C gl (.loop (.scope p_q01u_k4)) ⟨e,h,x⟩ K = NLoop C gl (.scope p_q01u_k4) K [(1,aget e 1),(5,aget e 5),(10,aget e 10),(11,aget e 11),(12,aget e 12)] h x:=NLoop_sc
def p_q01u_k5 : ACode:=.pr [5] (.seq (rg [mV 39 5,
mV 4 39] [4])
.ret)
def d_q01u_k5 (C : Hd) (gl : GL) (v5 : AV) (h : Heap) (x : Esc) (K : KT) : Prop:=
 K .ret ⟨[(4,v5)],h,x⟩
theorem e_q01u_k5 {C gl e h x K} : NW C gl p_q01u_k5 ⟨e,h,x⟩ K = d_q01u_k5 C gl (aget e 5) h x K:=by kernel_rfl
def P_q01u (q4 q5 : ACode) : ACode:=(.seq (rg [mV 4 (.c (.p (.sl none [])))] [0,1])
(.seq (rg [uO 5 (.new0 none)] [0,1,5])
(.seq (.seq (rg [mV 10 0,
lN 11 10,
mV 12 (cI 0)] [1,5,10,11,12])
(.block 0 (.loop (.scope q4))))
q5)))
def a_q01u : AFun:=⟨2,[.t 4],P_q01u p_q01u_k4 p_q01u_k5,false,false⟩
def d_q01u (C : Hd) (gl : GL) (q4 q5 : ACode) (v0 v1 : AV) (h : Heap) (x : Esc) (K : KT) : Prop:=
 nwK none h fun t1 h2 y3=>
 pK (oLen v0) fun t4=>
 NW C gl (.loop (.scope q4)) ⟨[(1,v1),(5,t1),(10,v0),(11,t4),(12,(AI 0))],h2,(y3 ++ x)⟩ (blockN 0 (seqN C gl q5 K))
theorem E_q01u {C gl q4 q5 v0 v1 h x K} : NW C gl (P_q01u q4 q5) ⟨enter [v0,v1],h,x⟩ K = d_q01u C gl q4 q5 v0 v1 h x K:=by kernel_rfl
theorem e_q01u {C gl v0 v1 h x K} : NW C gl a_q01u.body ⟨enter [v0,v1],h,x⟩ K = d_q01u C gl p_q01u_k4 p_q01u_k5 v0 v1 h x K:=E_q01u
def P_q00w : ACode:=(.seq (rg [mV 4 cF] [0,1])
(.seq (rg [mV 5 0,
cL 6 f_q00z [5],
mV 7 6,
gD 8 7 true (.mv 1),
gD 9 7 true (.call f_q00z [8]),
gD 10 7 true (.un .not 9),
uO 11 (.pick 7 10 cF),
mV 12 11,
gD 13 12 false (.mv 0),
gD 14 12 false (.mv 1),
gD 15 12 false (.bin .lss 13 14),
uO 16 (.pick 12 cT 15),
mV 4 16] [4])
.ret))
def a_q00w : AFun:=⟨2,[.t 4],P_q00w,false,false⟩
def d_q00w (C : Hd) (gl : GL) (v0 v1 : AV) (h : Heap) (x : Esc) (K : KT) : Prop:=
 C f_q00z [v0] h fun t1 h2 y3=>
 gM t1 true v1 h2 fun t4 h5 y6=>
 gV t1 true h5 (C f_q00z [t4] h5) fun t7 h8 y9=>
 gP t1 true (oUn .not t7) h8 fun t10 h11 y12=>
 pK (oPick t1 t10 (AB false)) fun t13=>
 gM t13 false v0 h11 fun t14 h15 y16=>
 gM t13 false v1 h15 fun t17 h18 y19=>
 gP t13 false (oBin .lss t14 t17) h18 fun t20 h21 y22=>
 pK (oPick t13 (AB true) t20) fun t23=>
 K .ret ⟨[(4,t23)],h21,(y22 ++ (y19 ++ (y16 ++ (y12 ++ (y9 ++ (y6 ++ (y3 ++ x)))))))⟩
theorem e_q00w {C gl v0 v1 h x K} : NW C gl a_q00w.body ⟨enter [v0,v1],h,x⟩ K = d_q00w C gl v0 v1 h x K:=by kernel_rfl
def p_q06z_k1 : ACode:=.pr [0,1,2,3,8,9,10,11] (.seq (.seq (dr [dF (mV 73 1) [1],
dF (bN 74 .gtr 73 (cI 0)) [73],
dF (mV 75 74) [74],
dF (gD 76 75 true (.mv 0)) [0,75],
dF (gD 77 75 true (.mv 1)) [1,75],
dF (gD 78 75 true (.bin .sub 77 (cI 1))) [77,75],
dF (gD 79 75 true (.iaddr none 76 78)) [76,78,75],
dF (gD 80 75 true (.load none 79)) [79,75],
dF (gD 81 75 true (.mv 0)) [0,75],
dF (gD 82 75 true (.mv 11)) [11,75],
dF (gD 83 75 true (.iaddr none 81 82)) [81,82,75],
dF (gD 84 75 true (.load none 83)) [83,75],
dT (gD 85 75 true (.call f_q00w [80,84])) [80,84,75],
dF (gD 86 75 true (.un .not 85)) [85,75],
dF (uO 87 (.pick 75 86 cF)) [75,86]] [0,1,2,3,8,9,10,11,87])
(.cond 87 (.seq (rg [mV 88 0,
mV 89 1,
mV 90 2,
mV 91 11,
cL 92 f_q06v [88,89,90,91],
mV 13 92] [0,2,3,8,9,13])
(.seq (rg [mV 93 13,
mV 1 93] [0,1,2,3,8,9])
(.exit 1)))
.skip))
(.seq (rg [mV 95 0,
mV 96 1,
mV 97 2,
mV 98 11,
cL 99 f_q06x [95,96,97,98],
mV 94 99,
eX 100 94 0,
eX 101 94 1,
mV 14 100,
mV 15 101] [0,1,2,3,10,14,15])
(.seq (rg [mV 102 15,
mV 9 102] [0,1,2,3,9,10,14])
(.seq (rg [mV 103 14,
mV 104 1,
bN 105 .sub 103 104,
mV 106 2,
mV 107 14,
bN 108 .sub 106 107,
mV 16 105,
mV 17 108] [0,1,2,3,9,10,14,16,17])
(.seq (rg [mV 109 10,
bN 110 .quo 109 (cI 8),
mV 18 110] [0,1,2,3,9,14,16,17,18])
(.seq (rg [mV 111 16,
mV 112 17,
bN 113 .lss 111 112] [0,1,2,3,9,14,16,17,18,113])
(.cond 113 (.seq (rg [mV 114 16,
mV 115 18,
bN 116 .geq 114 115,
mV 8 116] [0,1,2,3,8,9,14])
(.seq (rg [mV 117 0,
mV 118 1,
mV 119 14,
mV 120 3,
cL 121 f_q06z [117,118,119,120]] [0,2,3,8,9,14])
(rg [mV 122 14,
bN 123 .add 122 (cI 1),
mV 1 123] [0,1,2,3,8,9])))
(.seq (rg [mV 124 17,
mV 125 18,
bN 126 .geq 124 125,
mV 8 126] [0,1,2,3,8,9,14])
(.seq (rg [mV 127 0,
mV 128 14,
bN 129 .add 128 (cI 1),
mV 130 2,
mV 131 3,
cL 132 f_q06z [127,129,130,131]] [0,1,3,8,9,14])
(rg [mV 133 14,
mV 2 133] [0,1,2,3,8,9]))))))))))
def d_q06z_k1 (C : Hd) (gl : GL) (v0 v1 v2 v3 v8 v9 v10 v11 : AV) (h : Heap) (x : Esc) (K : KT) : Prop:=
 pK (oBin .gtr v1 (AI 0)) fun t1=>
 gM t1 true v0 h fun t2 h3 y4=>
 gM t1 true v1 h3 fun t5 h6 y7=>
 gP t1 true (oBin .sub t5 (AI 1)) h6 fun t8 h9 y10=>
 gP t1 true (oIaddr none t2 t8 h9) h9 fun t11 h12 y13=>
 gP t1 true (oLoad none t11 h12) h12 fun t14 h15 y16=>
 gM t1 true v0 h15 fun t17 h18 y19=>
 gM t1 true v11 h18 fun t20 h21 y22=>
 gP t1 true (oIaddr none t17 t20 h21) h21 fun t23 h24 y25=>
 gP t1 true (oLoad none t23 h24) h24 fun t26 h27 y28=>
 gV t1 true h27 (callE C f_q00w [t14,t26] h27) fun t29 h30 y31=>
 gP t1 true (oUn .not t29) h30 fun t32 h33 y34=>
 pK (oPick t1 t32 (AB false)) fun t35=>
 condB t35 (C f_q06v [v0,v1,v2,v11] h33 fun t36 h37 y38=>
 K (.exit 1) ⟨[(0,v0),(1,t36),(2,v2),(3,v3),(8,v8),(9,v9)],h37,(y38 ++ (y34 ++ (y31 ++ (y28 ++ (y25 ++ (y22 ++ (y19 ++ (y16 ++ (y13 ++ (y10 ++ (y7 ++ (y4 ++ x))))))))))))⟩)
 (C f_q06x [v0,v1,v2,v11] h33 fun t39 h40 y41=>
 pK (oExt t39 0) fun t42=>
 pK (oExt t39 1) fun t43=>
 pK (oBin .sub t42 v1) fun t44=>
 pK (oBin .sub v2 t42) fun t45=>
 pK (oBin .quo v10 (AI 8)) fun t46=>
 pK (oBin .lss t44 t45) fun t47=>
 condB t47 (pK (oBin .geq t44 t46) fun t48=>
 C f_q06z [v0,v1,t42,v3] h40 fun t49 h50 y51=>
 pK (oBin .add t42 (AI 1)) fun t52=>
 K .normal ⟨[(0,v0),(1,t52),(2,v2),(3,v3),(8,t48),(9,t43)],h50,(y51 ++ (y41 ++ (y34 ++ (y31 ++ (y28 ++ (y25 ++ (y22 ++ (y19 ++ (y16 ++ (y13 ++ (y10 ++ (y7 ++ (y4 ++ x)))))))))))))⟩)
 (pK (oBin .geq t45 t46) fun t53=>
 pK (oBin .add t42 (AI 1)) fun t54=>
 C f_q06z [v0,t54,v2,v3] h40 fun t55 h56 y57=>
 K .normal ⟨[(0,v0),(1,v1),(2,t42),(3,v3),(8,t53),(9,t43)],h56,(y57 ++ (y41 ++ (y34 ++ (y31 ++ (y28 ++ (y25 ++ (y22 ++ (y19 ++ (y16 ++ (y13 ++ (y10 ++ (y7 ++ (y4 ++ x)))))))))))))⟩))
theorem e_q06z_k1 {C gl e h x K} : NW C gl p_q06z_k1 ⟨e,h,x⟩ K = d_q06z_k1 C gl (aget e 0) (aget e 1) (aget e 2) (aget e 3) (aget e 8) (aget e 9) (aget e 10) (aget e 11) h x K:=by kernel_rfl
def P_q06z_k2 (q1 : ACode) : ACode:=.pr [0,1,2,3,8,9,10,11,12] (.seq (.seq (rg [mV 61 8,
mV 62 61,
gD 63 62 true (.mv 9),
uO 64 (.pick 62 63 cF),
mV 65 64,
gD 66 65 true (.mv 12),
gD 67 65 true (.bin .eql 66 (cI 1)),
uO 68 (.pick 65 67 cF)] [0,1,2,3,8,9,10,11,68])
(.cond 68 (.seq (rg [mV 69 0,
mV 70 1,
mV 71 2,
cL 72 f_q06t [69,70,71]] [0,1,2,3,8,9,10,11,72])
(.cond 72 .ret
.skip))
.skip))
q1)
def p_q06z_k2 : ACode:=P_q06z_k2 p_q06z_k1
def d_q06z_k2 (C : Hd) (gl : GL) (q1 : ACode) (v0 v1 v2 v3 v8 v9 v10 v11 v12 : AV) (h : Heap) (x : Esc) (K : KT) : Prop:=
 gM v8 true v9 h fun t1 h2 y3=>
 pK (oPick v8 t1 (AB false)) fun t4=>
 gM t4 true v12 h2 fun t5 h6 y7=>
 gP t4 true (oBin .eql t5 (AI 1)) h6 fun t8 h9 y10=>
 pK (oPick t4 t8 (AB false)) fun t11=>
 condB t11 (C f_q06t [v0,v1,v2] h9 fun t12 h13 y14=>
 condB t12 (K .ret ⟨[(0,v0),(1,v1),(2,v2),(3,v3),(8,v8),(9,v9),(10,v10),(11,v11),(72,t12)],h13,(y14 ++ (y10 ++ (y7 ++ (y3 ++ x))))⟩)
 (NW C gl q1 ⟨[(0,v0),(1,v1),(2,v2),(3,v3),(8,v8),(9,v9),(10,v10),(11,v11),(72,t12)],h13,(y14 ++ (y10 ++ (y7 ++ (y3 ++ x))))⟩ K))
 (NW C gl q1 ⟨[(0,v0),(1,v1),(2,v2),(3,v3),(8,v8),(9,v9),(10,v10),(11,v11),(68,t11)],h9,(y10 ++ (y7 ++ (y3 ++ x)))⟩ K)
theorem E_q06z_k2 {C gl q1 e h x K} : NW C gl (P_q06z_k2 q1) ⟨e,h,x⟩ K = d_q06z_k2 C gl q1 (aget e 0) (aget e 1) (aget e 2) (aget e 3) (aget e 8) (aget e 9) (aget e 10) (aget e 11) (aget e 12) h x K:=by kernel_rfl
theorem e_q06z_k2 {C gl e h x K} : NW C gl p_q06z_k2 ⟨e,h,x⟩ K = d_q06z_k2 C gl p_q06z_k1 (aget e 0) (aget e 1) (aget e 2) (aget e 3) (aget e 8) (aget e 9) (aget e 10) (aget e 11) (aget e 12) h x K:=E_q06z_k2
def P_q06z_k3 (q2 : ACode) : ACode:=.pr [0,1,2,3,8,9,10] (.seq (rg [mV 43 0,
mV 44 1,
mV 45 2,
cL 46 f_q06g [43,44,45],
mV 42 46,
eX 47 42 0,
eX 48 42 1,
mV 11 47,
mV 12 48] [0,1,2,3,8,9,10,11,12])
(.seq (.seq (rg [mV 49 12,
bN 50 .eql 49 (cI 2)] [0,1,2,3,8,9,10,11,12,50])
(.cond 50 (.seq (rg [mV 51 0,
mV 52 1,
mV 53 2,
cL 54 f_q071 [51,52,53]] [0,1,2,3,8,9,10,11])
(.seq (rg [mV 55 2,
bN 56 .sub 55 (cI 1),
mV 57 11,
mV 58 1,
bN 59 .sub 57 58,
bN 60 .sub 56 59,
mV 11 60] [0,1,2,3,8,9,10,11])
(rg [mV 12 (cI 1)] [0,1,2,3,8,9,10,11,12])))
.skip))
q2))
def p_q06z_k3 : ACode:=P_q06z_k3 p_q06z_k2
def d_q06z_k3 (C : Hd) (gl : GL) (q2 : ACode) (v0 v1 v2 v3 v8 v9 v10 : AV) (h : Heap) (x : Esc) (K : KT) : Prop:=
 C f_q06g [v0,v1,v2] h fun t1 h2 y3=>
 pK (oExt t1 0) fun t4=>
 pK (oExt t1 1) fun t5=>
 pK (oBin .eql t5 (AI 2)) fun t6=>
 condB t6 (C f_q071 [v0,v1,v2] h2 fun t7 h8 y9=>
 pK (oBin .sub v2 (AI 1)) fun t10=>
 pK (oBin .sub t4 v1) fun t11=>
 pK (oBin .sub t10 t11) fun t12=>
 NW C gl q2 ⟨[(0,v0),(1,v1),(2,v2),(3,v3),(8,v8),(9,v9),(10,v10),(11,t12),(12,(AI 1))],h8,(y9 ++ (y3 ++ x))⟩ K)
 (NW C gl q2 ⟨[(0,v0),(1,v1),(2,v2),(3,v3),(8,v8),(9,v9),(10,v10),(11,t4),(12,t5),(50,t6)],h2,(y3 ++ x)⟩ K)
theorem E_q06z_k3 {C gl q2 e h x K} : NW C gl (P_q06z_k3 q2) ⟨e,h,x⟩ K = d_q06z_k3 C gl q2 (aget e 0) (aget e 1) (aget e 2) (aget e 3) (aget e 8) (aget e 9) (aget e 10) h x K:=by kernel_rfl
theorem e_q06z_k3 {C gl e h x K} : NW C gl p_q06z_k3 ⟨e,h,x⟩ K = d_q06z_k3 C gl p_q06z_k2 (aget e 0) (aget e 1) (aget e 2) (aget e 3) (aget e 8) (aget e 9) (aget e 10) h x K:=E_q06z_k3
def P_q06z_k4 (q3 : ACode) : ACode:=.pr [0,1,2,3,8,9] (.block 1 (.seq (rg [mV 19 2,
mV 20 1,
bN 21 .sub 19 20,
mV 10 21] [0,1,2,3,8,9,10])
(.seq (.seq (rg [mV 22 10,
bN 23 .leq 22 (cI 12)] [0,1,2,3,8,9,10,23])
(.cond 23 (.seq (rg [mV 24 0,
mV 25 1,
mV 26 2,
cL 27 f_q06k [24,25,26]] [])
.ret)
.skip))
(.seq (.seq (rg [mV 28 3,
bN 29 .eql 28 (cI 0)] [0,1,2,3,8,9,10,29])
(.cond 29 (.seq (rg [mV 30 0,
mV 31 1,
mV 32 2,
cL 33 f_q06i [30,31,32]] [])
.ret)
.skip))
(.seq (.seq (rg [mV 34 8,
uO 35 (.un .not 34)] [0,1,2,3,8,9,10,35])
(.cond 35 (.seq (rg [mV 36 0,
mV 37 1,
mV 38 2,
cL 39 f_q06e [36,37,38]] [0,1,2,3,8,9,10])
(rg [mV 40 3,
bN 41 .sub 40 (cI 1),
mV 3 41] [0,1,2,3,8,9,10]))
.skip))
q3)))))
def p_q06z_k4 : ACode:=P_q06z_k4 p_q06z_k3
def d_q06z_k4 (C : Hd) (gl : GL) (q3 : ACode) (v0 v1 v2 v3 v8 v9 : AV) (h : Heap) (x : Esc) (K : KT) : Prop:=
 pK (oBin .sub v2 v1) fun t1=>
 pK (oBin .leq t1 (AI 12)) fun t2=>
 condB t2 (C f_q06k [v0,v1,v2] h fun t3 h4 y5=>
 K .ret ⟨[],h4,(y5 ++ x)⟩)
 (pK (oBin .eql v3 (AI 0)) fun t6=>
 condB t6 (C f_q06i [v0,v1,v2] h fun t7 h8 y9=>
 K .ret ⟨[],h8,(y9 ++ x)⟩)
 (pK (oUn .not v8) fun t10=>
 condB t10 (C f_q06e [v0,v1,v2] h fun t11 h12 y13=>
 pK (oBin .sub v3 (AI 1)) fun t14=>
 NW C gl q3 ⟨[(0,v0),(1,v1),(2,v2),(3,t14),(8,v8),(9,v9),(10,t1)],h12,(y13 ++ x)⟩ (blockN 1 K))
 (NW C gl q3 ⟨[(0,v0),(1,v1),(2,v2),(3,v3),(8,v8),(9,v9),(10,t1),(35,t10)],h,x⟩ (blockN 1 K))))
theorem E_q06z_k4 {C gl q3 e h x K} : NW C gl (P_q06z_k4 q3) ⟨e,h,x⟩ K = d_q06z_k4 C gl q3 (aget e 0) (aget e 1) (aget e 2) (aget e 3) (aget e 8) (aget e 9) h x K:=by kernel_rfl
theorem e_q06z_k4 {C gl e h x K} : NW C gl p_q06z_k4 ⟨e,h,x⟩ K = d_q06z_k4 C gl p_q06z_k3 (aget e 0) (aget e 1) (aget e 2) (aget e 3) (aget e 8) (aget e 9) h x K:=E_q06z_k4
theorem l_q06z_k4 {C gl e h x K} : NW C gl (.loop p_q06z_k4) ⟨e,h,x⟩ K = NLoop C gl p_q06z_k4 K [(0,aget e 0),(1,aget e 1),(2,aget e 2),(3,aget e 3),(8,aget e 8),(9,aget e 9)] h x:=NLoop_pr
def P_q06z (q4 : ACode) : ACode:=(.seq (rg [mV 8 cT] [0,1,2,3,8])
(.seq (rg [mV 9 cT] [0,1,2,3,8,9])
(.block 0 (.loop q4))))
def a_q06z : AFun:=⟨4,[],P_q06z p_q06z_k4,true,false⟩
def d_q06z (C : Hd) (gl : GL) (q4 : ACode) (v0 v1 v2 v3 : AV) (h : Heap) (x : Esc) (K : KT) : Prop:=
 NW C gl (.loop q4) ⟨[(0,v0),(1,v1),(2,v2),(3,v3),(8,(AB true)),(9,(AB true))],h,x⟩ (blockN 0 K)
theorem E_q06z {C gl q4 v0 v1 v2 v3 h x K} : NW C gl (P_q06z q4) ⟨enter [v0,v1,v2,v3],h,x⟩ K = d_q06z C gl q4 v0 v1 v2 v3 h x K:=by kernel_rfl
theorem e_q06z {C gl v0 v1 v2 v3 h x K} : NW C gl a_q06z.body ⟨enter [v0,v1,v2,v3],h,x⟩ K = d_q06z C gl p_q06z_k4 v0 v1 v2 v3 h x K:=E_q06z
def P_q02z : ACode:=(.seq (rg [mV 2 (cI 0)] [0])
(.seq (.cond cF (.seq (rg [mV 3 0,
uO 4 (.conv (.i .u32) 3),
cL 5 f_q030 [4],
mV 2 5] [2])
.ret)
.skip)
(.seq (rg [mV 6 0,
cL 7 f_q031 [6],
mV 2 7] [2])
.ret)))
def a_q02z : AFun:=⟨1,[.t 2],P_q02z,false,false⟩
def d_q02z (C : Hd) (gl : GL) (v0 : AV) (h : Heap) (x : Esc) (K : KT) : Prop:=
 condB (AB false) (pK (oConvI .u32 v0) fun t1=>
 C f_q030 [t1] h fun t2 h3 y4=>
 K .ret ⟨[(2,t2)],h3,(y4 ++ x)⟩)
 (C f_q031 [v0] h fun t5 h6 y7=>
 K .ret ⟨[(2,t5)],h6,(y7 ++ x)⟩)
theorem e_q02z {C gl v0 h x K} : NW C gl a_q02z.body ⟨enter [v0],h,x⟩ K = d_q02z C gl v0 h x K:=by kernel_rfl
def p_q062_k1 : ACode:=.pr [0,1,7,8] (.seq (rg [bN 9 .lss 8 7] [0,1,7,8,9])
(.seq (.cond 9 .skip
(.exit 0))
(.seq (.block 1 (.seq (rg [mV 10 8,
mV 5 10] [0,1,5,7,8])
(.seq (rg [mV 11 1,
mV 12 0,
mV 13 5,
iA 14 (some 2) 12 13,
lD 15 (some 2) 14,
uO 16 (.callv 11 [15])] [0,1,5,7,8,16])
(.cond 16 (.seq (rg [mV 17 5,
mV 4 17] [4])
.ret)
.skip))))
(rg [bN 18 .add 8 (cI 1),
mV 8 18] [0,1,7,8]))))
def d_q062_k1 (C : Hd) (gl : GL) (v0 v1 v7 v8 : AV) (h : Heap) (x : Esc) (K : KT) : Prop:=
 pK (oBin .lss v8 v7) fun t1=>
 condB t1 (pK (oIaddr (some 2) v0 v8 h) fun t2=>
 pK (oLoad (some 2) t2 h) fun t3=>
 callvK C v1 [t3] h fun t4 h5 y6=>
 condB t4 (K .ret ⟨[(4,v8)],h5,(y6 ++ x)⟩)
 (pK (oBin .add v8 (AI 1)) fun t7=>
 K .normal ⟨[(0,v0),(1,v1),(7,v7),(8,t7)],h5,(y6 ++ x)⟩))
 (K (.exit 0) ⟨[(0,v0),(1,v1),(7,v7),(8,v8),(9,t1)],h,x⟩)
theorem e_q062_k1 {C gl e h x K} : NW C gl p_q062_k1 ⟨e,h,x⟩ K = d_q062_k1 C gl (aget e 0) (aget e 1) (aget e 7) (aget e 8) h x K:=by kernel_rfl
theorem l_q062_k1 {C gl e h x K} : NW C gl (.loop p_q062_k1) ⟨e,h,x⟩ K = NLoop C gl p_q062_k1 K [(0,aget e 0),(1,aget e 1),(7,aget e 7),(8,aget e 8)] h x:=NLoop_pr
def p_q062_k2 : ACode:=.pr [] (.seq (rg [mV 4 (cI (-1))] [4])
.ret)
def d_q062_k2 (C : Hd) (gl : GL) (h : Heap) (x : Esc) (K : KT) : Prop:=
 K .ret ⟨[(4,(AI (-1)))],h,x⟩
theorem e_q062_k2 {C gl e h x K} : NW C gl p_q062_k2 ⟨e,h,x⟩ K = d_q062_k2 C gl h x K:=by kernel_rfl
def P_q062 (q1 q2 : ACode) : ACode:=(.seq (rg [mV 4 (cI 0)] [0,1])
(.seq (.seq (rg [mV 6 0,
lN 7 6,
mV 8 (cI 0)] [0,1,7,8])
(.block 0 (.loop q1)))
q2))
def a_q062 : AFun:=⟨2,[.t 4],P_q062 p_q062_k1 p_q062_k2,true,false⟩
def d_q062 (C : Hd) (gl : GL) (q1 q2 : ACode) (v0 v1 : AV) (h : Heap) (x : Esc) (K : KT) : Prop:=
 pK (oLen v0) fun t1=>
 NW C gl (.loop q1) ⟨[(0,v0),(1,v1),(7,t1),(8,(AI 0))],h,x⟩ (blockN 0 (seqN C gl q2 K))
theorem E_q062 {C gl q1 q2 v0 v1 h x K} : NW C gl (P_q062 q1 q2) ⟨enter [v0,v1],h,x⟩ K = d_q062 C gl q1 q2 v0 v1 h x K:=by kernel_rfl
theorem e_q062 {C gl v0 v1 h x K} : NW C gl a_q062.body ⟨enter [v0,v1],h,x⟩ K = d_q062 C gl p_q062_k1 p_q062_k2 v0 v1 h x K:=E_q062
def p_q03o_k1 : ACode:=.pr [0] (.seq (rg [mV 15 0,
mV 4 15] [4])
.ret)
def d_q03o_k1 (C : Hd) (gl : GL) (v0 : AV) (h : Heap) (x : Esc) (K : KT) : Prop:=
 K .ret ⟨[(4,v0)],h,x⟩
theorem e_q03o_k1 {C gl e h x K} : NW C gl p_q03o_k1 ⟨e,h,x⟩ K = d_q03o_k1 C gl (aget e 0) h x K:=by kernel_rfl
def P_q03o (q1 : ACode) : ACode:=(.seq (rg [mV 4 (cI 0)] [0,1])
(.seq (.seq (rg [mV 5 1,
bN 6 .lss 5 (cI 1)] [0,1,6])
(.cond 6 (.seq (rg [mV 4 (cI 0)] [4])
.ret)
.skip))
(.seq (rg [mV 7 0,
mV 8 1,
bN 9 .rem 7 8,
mV 0 9] [0,1])
(.seq (.seq (rg [mV 10 0,
bN 11 .lss 10 (cI 0)] [0,1,11])
(.cond 11 (rg [mV 12 0,
mV 13 1,
bN 14 .add 12 13,
mV 0 14] [0])
.skip))
q1))))
def a_q03o : AFun:=⟨2,[.t 4],P_q03o p_q03o_k1,false,false⟩
def d_q03o (C : Hd) (gl : GL) (q1 : ACode) (v0 v1 : AV) (h : Heap) (x : Esc) (K : KT) : Prop:=
 pK (oBin .lss v1 (AI 1)) fun t1=>
 condB t1 (K .ret ⟨[(4,(AI 0))],h,x⟩)
 (pK (oBin .rem v0 v1) fun t2=>
 pK (oBin .lss t2 (AI 0)) fun t3=>
 condB t3 (pK (oBin .add t2 v1) fun t4=>
 NW C gl q1 ⟨[(0,t4)],h,x⟩ K)
 (NW C gl q1 ⟨[(0,t2),(1,v1),(11,t3)],h,x⟩ K))
theorem E_q03o {C gl q1 v0 v1 h x K} : NW C gl (P_q03o q1) ⟨enter [v0,v1],h,x⟩ K = d_q03o C gl q1 v0 v1 h x K:=by kernel_rfl
theorem e_q03o {C gl v0 v1 h x K} : NW C gl a_q03o.body ⟨enter [v0,v1],h,x⟩ K = d_q03o C gl p_q03o_k1 v0 v1 h x K:=E_q03o
def p_q03y_k1 : ACode:=.pr [0,1,5,9,10] (.seq (rg [bN 11 .lss 10 9] [0,1,5,9,10,11])
(.seq (.cond 11 .skip
(.exit 0))
(.seq (.block 1 (.seq (rg [mV 12 10,
mV 6 12] [0,1,5,6,9,10])
(rg [mV 13 5,
mV 14 6,
uO 15 (.bsl false none 1 (.int .i64 0) [(0,14)]),
uO 16 (.app none 13 15),
mV 5 16] [0,1,5,9,10])))
(rg [bN 17 .add 10 (cI 1),
mV 10 17] [0,1,5,9,10]))))
def d_q03y_k1 (C : Hd) (gl : GL) (v0 v1 v5 v9 v10 : AV) (h : Heap) (x : Esc) (K : KT) : Prop:=
 pK (oBin .lss v10 v9) fun t1=>
 condB t1 (wK (oBsl false none 1 (.int .i64 0) [(0,v10)] h) fun t2 h3 y4=>
 wK (oApp none v5 t2 h3) fun t5 h6 y7=>
 pK (oBin .add v10 (AI 1)) fun t8=>
 K .normal ⟨[(0,v0),(1,v1),(5,t5),(9,v9),(10,t8)],h6,(y7 ++ (y4 ++ x))⟩)
 (K (.exit 0) ⟨[(0,v0),(1,v1),(5,v5),(9,v9),(10,v10),(11,t1)],h,x⟩)
theorem e_q03y_k1 {C gl e h x K} : NW C gl p_q03y_k1 ⟨e,h,x⟩ K = d_q03y_k1 C gl (aget e 0) (aget e 1) (aget e 5) (aget e 9) (aget e 10) h x K:=by kernel_rfl
theorem l_q03y_k1 {C gl e h x K} : NW C gl (.loop (.scope p_q03y_k1)) ⟨e,h,x⟩ K = NLoop C gl (.scope p_q03y_k1) K [(0,aget e 0),(1,aget e 1),(5,aget e 5),(9,aget e 9),(10,aget e 10)] h x:=NLoop_sc
def p_q03y_k2 : ACode:=.pr [0,5,7] (.seq (.seq (rg [mV 20 7,
bN 21 .gtr 20 (cI 0)] [0,5,7,21])
(.cond 21 .skip
(.exit 2)))
(.seq (.block 3 (.seq (rg [mV 24 0,
mV 25 7,
bN 26 .add 25 (cI 1),
cL 27 f_q03w [24,26],
mV 8 27] [0,5,7,8])
(dr [dF (mV 28 5) [5],
dF (mV 29 7) [7],
dF (mV 30 5) [5],
dF (mV 31 8) [8],
dF (mV 32 5) [5],
dF (mV 33 8) [8],
dF (iA 34 none 32 33) [32,33],
dF (lD 35 none 34) [34],
dF (mV 36 5) [5],
dF (mV 37 7) [7],
dF (iA 38 none 36 37) [36,37],
dF (lD 39 none 38) [38],
dF (iA 40 none 28 29) [28,29],
dT (wO (.store none 40 35)) [40,35],
dF (iA 41 none 30 31) [30,31],
dT (wO (.store none 41 39)) [41,39]] [0,5,7])))
(rg [mV 22 7,
bN 23 .sub 22 (cI 1),
mV 7 23] [0,5,7])))
def d_q03y_k2 (C : Hd) (gl : GL) (v0 v5 v7 : AV) (h : Heap) (x : Esc) (K : KT) : Prop:=
 pK (oBin .gtr v7 (AI 0)) fun t1=>
 condB t1 (pK (oBin .add v7 (AI 1)) fun t2=>
 C f_q03w [v0,t2] h fun t3 h4 y5=>
 pK (oIaddr none v5 t3 h4) fun t6=>
 pK (oLoad none t6 h4) fun t7=>
 pK (oIaddr none v5 v7 h4) fun t8=>
 pK (oLoad none t8 h4) fun t9=>
 pK (oIaddr none v5 v7 h4) fun t10=>
 wK (oStore none t10 t7 h4) fun t11 h12 y13=>
 pK (oIaddr none v5 t3 h12) fun t14=>
 wK (oStore none t14 t9 h12) fun t15 h16 y17=>
 pK (oBin .sub v7 (AI 1)) fun t18=>
 K .normal ⟨[(0,v0),(5,v5),(7,t18)],h16,(y17 ++ (y13 ++ (y5 ++ x)))⟩)
 (K (.exit 2) ⟨[(0,v0),(5,v5),(7,v7),(21,t1)],h,x⟩)
theorem e_q03y_k2 {C gl e h x K} : NW C gl p_q03y_k2 ⟨e,h,x⟩ K = d_q03y_k2 C gl (aget e 0) (aget e 5) (aget e 7) h x K:=by kernel_rfl
theorem l_q03y_k2 {C gl e h x K} : NW C gl (.loop p_q03y_k2) ⟨e,h,x⟩ K = NLoop C gl p_q03y_k2 K [(0,aget e 0),(5,aget e 5),(7,aget e 7)] h x:=NLoop_pr
def p_q03y_k3 : ACode:=.pr [5] (.seq (rg [mV 42 5,
mV 4 42] [4])
.ret)
def d_q03y_k3 (C : Hd) (gl : GL) (v5 : AV) (h : Heap) (x : Esc) (K : KT) : Prop:=
 K .ret ⟨[(4,v5)],h,x⟩
theorem e_q03y_k3 {C gl e h x K} : NW C gl p_q03y_k3 ⟨e,h,x⟩ K = d_q03y_k3 C gl (aget e 5) h x K:=by kernel_rfl
def P_q03y_k4 (q2 q3 : ACode) : ACode:=.pr [0,1,5] (.seq (.seq (rg [mV 18 1,
bN 19 .sub 18 (cI 1),
mV 7 19] [0,5,7])
(.block 2 (.loop q2)))
q3)
def p_q03y_k4 : ACode:=P_q03y_k4 p_q03y_k2 p_q03y_k3
def d_q03y_k4 (C : Hd) (gl : GL) (q2 q3 : ACode) (v0 v1 v5 : AV) (h : Heap) (x : Esc) (K : KT) : Prop:=
 pK (oBin .sub v1 (AI 1)) fun t1=>
 NW C gl (.loop q2) ⟨[(0,v0),(5,v5),(7,t1)],h,x⟩ (blockN 2 (seqN C gl q3 K))
theorem E_q03y_k4 {C gl q2 q3 e h x K} : NW C gl (P_q03y_k4 q2 q3) ⟨e,h,x⟩ K = d_q03y_k4 C gl q2 q3 (aget e 0) (aget e 1) (aget e 5) h x K:=by kernel_rfl
theorem e_q03y_k4 {C gl e h x K} : NW C gl p_q03y_k4 ⟨e,h,x⟩ K = d_q03y_k4 C gl p_q03y_k2 p_q03y_k3 (aget e 0) (aget e 1) (aget e 5) h x K:=E_q03y_k4
def P_q03y (q1 q4 : ACode) : ACode:=(.seq (rg [mV 4 (.c (.p (.sl none [])))] [0,1])
(.seq (rg [uO 5 (.new0 none)] [0,1,5])
(.seq (.seq (rg [mV 9 1,
mV 10 (cI 0)] [0,1,5,9,10])
(.block 0 (.loop (.scope q1))))
q4)))
def a_q03y : AFun:=⟨2,[.t 4],P_q03y p_q03y_k1 p_q03y_k4,false,true⟩
def d_q03y (C : Hd) (gl : GL) (q1 q4 : ACode) (v0 v1 : AV) (h : Heap) (x : Esc) (K : KT) : Prop:=
 nwK none h fun t1 h2 y3=>
 NW C gl (.loop (.scope q1)) ⟨[(0,v0),(1,v1),(5,t1),(9,v1),(10,(AI 0))],h2,(y3 ++ x)⟩ (blockN 0 (seqN C gl q4 K))
theorem E_q03y {C gl q1 q4 v0 v1 h x K} : NW C gl (P_q03y q1 q4) ⟨enter [v0,v1],h,x⟩ K = d_q03y C gl q1 q4 v0 v1 h x K:=by kernel_rfl
theorem e_q03y {C gl v0 v1 h x K} : NW C gl a_q03y.body ⟨enter [v0,v1],h,x⟩ K = d_q03y C gl p_q03y_k1 p_q03y_k4 v0 v1 h x K:=E_q03y
def p_q014_k1 : ACode:=.pr [0,13,14,15] (.seq (rg [bN 16 .lss 15 14] [0,13,14,15,16])
(.seq (.cond 16 .skip
(.exit 1))
(.seq (.block 2 (.seq (rg [iA 17 none 13 15,
lD 18 none 17,
mV 4 18] [0,4,13,14,15])
(.block 3 (.seq (rg [mV 20 4,
cL 21 f_q000 [20],
uO 22 (.un .not 21),
mV 19 22] [0,4,13,14,15,19])
(.cond 19 (.seq (rg [mV 2 (cI 3)] [2])
.ret)
(.seq (rg [mV 24 4,
uO 25 (.lens 24),
bN 26 .gtr 25 (cI 64),
mV 23 26] [0,4,13,14,15,23])
(.cond 23 (.seq (rg [mV 2 (cI 2)] [2])
.ret)
(.seq (rg [mV 28 4,
uO 29 (.lens 28),
mV 30 0,
iA 31 none 30 (cI 0),
lD 32 none 31,
uO 33 (.lens 32),
bN 34 .neq 29 33,
mV 27 34] [0,13,14,15,27])
(.cond 27 (.seq (rg [mV 2 (cI 3)] [2])
.ret)
.skip)))))))))
(rg [bN 35 .add 15 (cI 1),
mV 15 35] [0,13,14,15]))))
def d_q014_k1 (C : Hd) (gl : GL) (v0 v13 v14 v15 : AV) (h : Heap) (x : Esc) (K : KT) : Prop:=
 pK (oBin .lss v15 v14) fun t1=>
 condB t1 (pK (oIaddr none v13 v15 h) fun t2=>
 pK (oLoad none t2 h) fun t3=>
 C f_q000 [t3] h fun t4 h5 y6=>
 pK (oUn .not t4) fun t7=>
 condB t7 (K .ret ⟨[(2,(AI 3))],h5,(y6 ++ x)⟩)
 (pK (oLens t3) fun t8=>
 pK (oBin .gtr t8 (AI 64)) fun t9=>
 condB t9 (K .ret ⟨[(2,(AI 2))],h5,(y6 ++ x)⟩)
 (pK (oLens t3) fun t10=>
 pK (oIaddr none v0 (AI 0) h5) fun t11=>
 pK (oLoad none t11 h5) fun t12=>
 pK (oLens t12) fun t13=>
 pK (oBin .neq t10 t13) fun t14=>
 condB t14 (K .ret ⟨[(2,(AI 3))],h5,(y6 ++ x)⟩)
 (pK (oBin .add v15 (AI 1)) fun t15=>
 K .normal ⟨[(0,v0),(13,v13),(14,v14),(15,t15)],h5,(y6 ++ x)⟩))))
 (K (.exit 1) ⟨[(0,v0),(13,v13),(14,v14),(15,v15),(16,t1)],h,x⟩)
theorem e_q014_k1 {C gl e h x K} : NW C gl p_q014_k1 ⟨e,h,x⟩ K = d_q014_k1 C gl (aget e 0) (aget e 13) (aget e 14) (aget e 15) h x K:=by kernel_rfl
theorem l_q014_k1 {C gl e h x K} : NW C gl (.loop p_q014_k1) ⟨e,h,x⟩ K = NLoop C gl p_q014_k1 K [(0,aget e 0),(13,aget e 13),(14,aget e 14),(15,aget e 15)] h x:=NLoop_pr
def p_q014_k2 : ACode:=.pr [] (.seq (rg [mV 2 (cI 0)] [2])
.ret)
def d_q014_k2 (C : Hd) (gl : GL) (h : Heap) (x : Esc) (K : KT) : Prop:=
 K .ret ⟨[(2,(AI 0))],h,x⟩
theorem e_q014_k2 {C gl e h x K} : NW C gl p_q014_k2 ⟨e,h,x⟩ K = d_q014_k2 C gl h x K:=by kernel_rfl
def P_q014 (q1 q2 : ACode) : ACode:=(.seq (rg [mV 2 (cI 0)] [0])
(.seq (.block 0 (.seq (rg [mV 6 0,
lN 7 6,
bN 8 .eql 7 (cI 0),
mV 5 8] [0,5])
(.cond 5 (.seq (rg [mV 2 (cI 8)] [2])
.ret)
(.seq (rg [mV 10 0,
lN 11 10,
bN 12 .gtr 11 (cI 100),
mV 9 12] [0,9])
(.cond 9 (.seq (rg [mV 2 (cI 2)] [2])
.ret)
.skip)))))
(.seq (.seq (rg [mV 13 0,
lN 14 13,
mV 15 (cI 0)] [0,13,14,15])
(.block 1 (.loop q1)))
q2)))
def a_q014 : AFun:=⟨1,[.t 2],P_q014 p_q014_k1 p_q014_k2,false,false⟩
def d_q014 (C : Hd) (gl : GL) (q1 q2 : ACode) (v0 : AV) (h : Heap) (x : Esc) (K : KT) : Prop:=
 pK (oLen v0) fun t1=>
 pK (oBin .eql t1 (AI 0)) fun t2=>
 condB t2 (K .ret ⟨[(2,(AI 8))],h,x⟩)
 (pK (oLen v0) fun t3=>
 pK (oBin .gtr t3 (AI 100)) fun t4=>
 condB t4 (K .ret ⟨[(2,(AI 2))],h,x⟩)
 (pK (oLen v0) fun t5=>
 NW C gl (.loop q1) ⟨[(0,v0),(13,v0),(14,t5),(15,(AI 0))],h,x⟩ (blockN 1 (seqN C gl q2 K))))
theorem E_q014 {C gl q1 q2 v0 h x K} : NW C gl (P_q014 q1 q2) ⟨enter [v0],h,x⟩ K = d_q014 C gl q1 q2 v0 h x K:=by kernel_rfl
theorem e_q014 {C gl v0 h x K} : NW C gl a_q014.body ⟨enter [v0],h,x⟩ K = d_q014 C gl p_q014_k1 p_q014_k2 v0 h x K:=E_q014
def p_q063_k1 : ACode:=.pr [0,1,7,8] (.seq (rg [bN 9 .lss 8 7] [0,1,7,8,9])
(.seq (.cond 9 .skip
(.exit 0))
(.seq (.block 1 (.seq (rg [mV 10 8,
mV 5 10] [0,1,5,7,8])
(.seq (rg [mV 11 1,
mV 12 0,
mV 13 5,
iA 14 none 12 13,
lD 15 none 14,
uO 16 (.callv 11 [15])] [0,1,5,7,8,16])
(.cond 16 (.seq (rg [mV 17 5,
mV 4 17] [4])
.ret)
.skip))))
(rg [bN 18 .add 8 (cI 1),
mV 8 18] [0,1,7,8]))))
def d_q063_k1 (C : Hd) (gl : GL) (v0 v1 v7 v8 : AV) (h : Heap) (x : Esc) (K : KT) : Prop:=
 pK (oBin .lss v8 v7) fun t1=>
 condB t1 (pK (oIaddr none v0 v8 h) fun t2=>
 pK (oLoad none t2 h) fun t3=>
 callvK C v1 [t3] h fun t4 h5 y6=>
 condB t4 (K .ret ⟨[(4,v8)],h5,(y6 ++ x)⟩)
 (pK (oBin .add v8 (AI 1)) fun t7=>
 K .normal ⟨[(0,v0),(1,v1),(7,v7),(8,t7)],h5,(y6 ++ x)⟩))
 (K (.exit 0) ⟨[(0,v0),(1,v1),(7,v7),(8,v8),(9,t1)],h,x⟩)
theorem e_q063_k1 {C gl e h x K} : NW C gl p_q063_k1 ⟨e,h,x⟩ K = d_q063_k1 C gl (aget e 0) (aget e 1) (aget e 7) (aget e 8) h x K:=by kernel_rfl
theorem l_q063_k1 {C gl e h x K} : NW C gl (.loop p_q063_k1) ⟨e,h,x⟩ K = NLoop C gl p_q063_k1 K [(0,aget e 0),(1,aget e 1),(7,aget e 7),(8,aget e 8)] h x:=NLoop_pr
def p_q063_k2 : ACode:=.pr [] (.seq (rg [mV 4 (cI (-1))] [4])
.ret)
def d_q063_k2 (C : Hd) (gl : GL) (h : Heap) (x : Esc) (K : KT) : Prop:=
 K .ret ⟨[(4,(AI (-1)))],h,x⟩
theorem e_q063_k2 {C gl e h x K} : NW C gl p_q063_k2 ⟨e,h,x⟩ K = d_q063_k2 C gl h x K:=by kernel_rfl
def P_q063 (q1 q2 : ACode) : ACode:=(.seq (rg [mV 4 (cI 0)] [0,1])
(.seq (.seq (rg [mV 6 0,
lN 7 6,
mV 8 (cI 0)] [0,1,7,8])
(.block 0 (.loop q1)))
q2))
def a_q063 : AFun:=⟨2,[.t 4],P_q063 p_q063_k1 p_q063_k2,true,false⟩
def d_q063 (C : Hd) (gl : GL) (q1 q2 : ACode) (v0 v1 : AV) (h : Heap) (x : Esc) (K : KT) : Prop:=
 pK (oLen v0) fun t1=>
 NW C gl (.loop q1) ⟨[(0,v0),(1,v1),(7,t1),(8,(AI 0))],h,x⟩ (blockN 0 (seqN C gl q2 K))
theorem E_q063 {C gl q1 q2 v0 v1 h x K} : NW C gl (P_q063 q1 q2) ⟨enter [v0,v1],h,x⟩ K = d_q063 C gl q1 q2 v0 v1 h x K:=by kernel_rfl
theorem e_q063 {C gl v0 v1 h x K} : NW C gl a_q063.body ⟨enter [v0,v1],h,x⟩ K = d_q063 C gl p_q063_k1 p_q063_k2 v0 v1 h x K:=E_q063
def P_q05o : ACode:=(.seq (rg [mV 4 cF] [0,1])
(.seq (rg [mV 5 0,
mV 6 1,
cL 7 f_q063 [5,6],
bN 8 .geq 7 (cI 0),
mV 4 8] [4])
.ret))
def a_q05o : AFun:=⟨2,[.t 4],P_q05o,true,false⟩
def d_q05o (C : Hd) (gl : GL) (v0 v1 : AV) (h : Heap) (x : Esc) (K : KT) : Prop:=
 C f_q063 [v0,v1] h fun t1 h2 y3=>
 pK (oBin .geq t1 (AI 0)) fun t4=>
 K .ret ⟨[(4,t4)],h2,(y3 ++ x)⟩
theorem e_q05o {C gl v0 v1 h x K} : NW C gl a_q05o.body ⟨enter [v0,v1],h,x⟩ K = d_q05o C gl v0 v1 h x K:=by kernel_rfl
def P_q081 : ACode:=(.seq (rg [mV 2 0,
uO 3 (.nilchk 2),
fA 4 0 none 3,
lD 5 none 4,
uO 6 (.isnil 0 false 5)] [0,6])
(.cond 6 (rg [mV 7 0,
mV 8 0,
uO 9 (.uns 1 111 [8]),
uO 10 (.uns 7 f_internal_abi_NoEscape [(.f f_internal_abi_NoEscape),9]),
uO 11 (.uns 1 111 [10]),
uO 12 (.nilchk 7),
fA 13 0 none 12,
wO (.store none 13 11)] [])
(.seq (rg [mV 14 0,
uO 15 (.nilchk 14),
fA 16 0 none 15,
lD 17 none 16,
mV 18 0,
uO 19 (.uns 2 0 [17,18])] [19])
(.cond 19 .bad
.skip))))
def a_q081 : AFun:=⟨1,[],P_q081,false,false⟩
def d_q081 (C : Hd) (gl : GL) (v0 : AV) (h : Heap) (x : Esc) (K : KT) : Prop:=
 pK (oNil v0) fun t1=>
 pK (oFaddr 0 none t1) fun t2=>
 pK (oLoad none t2 h) fun t3=>
 pK (oIsnil 0 false t3) fun t4=>
 condB t4 (wK (unsOp 1 111 [v0] h) fun t5 h6 y7=>
 wK (unsOp 7 f_internal_abi_NoEscape [(.fn f_internal_abi_NoEscape []),t5] h6) fun t8 h9 y10=>
 wK (unsOp 1 111 [t8] h9) fun t11 h12 y13=>
 pK (oNil v0) fun t14=>
 pK (oFaddr 0 none t14) fun t15=>
 wK (oStore none t15 t11 h12) fun t16 h17 y18=>
 K .normal ⟨[],h17,(y18 ++ (y13 ++ (y10 ++ (y7 ++ x))))⟩)
 (pK (oNil v0) fun t19=>
 pK (oFaddr 0 none t19) fun t20=>
 pK (oLoad none t20 h) fun t21=>
 wK (unsOp 2 0 [t21,v0] h) fun t22 h23 y24=>
 condB t22 (False)
 (K .normal ⟨[(19,t22)],h23,(y24 ++ x)⟩))
theorem e_q081 {C gl v0 h x K} : NW C gl a_q081.body ⟨enter [v0],h,x⟩ K = d_q081 C gl v0 h x K:=by kernel_rfl
def P_q04b : ACode:=(.seq (rg [mV 3 cF] [0,1])
(.seq (rg [mV 4 0,
lD 5 none 1,
bN 6 .sub 5 (cI 1),
cL 7 f_q054 [4,(cI 0),6],
uO 8 (.un .not 7),
mV 3 8] [3])
.ret))
def a_q04b : AFun:=⟨2,[.t 3],P_q04b,false,false⟩
def d_q04b (C : Hd) (gl : GL) (v0 v1 : AV) (h : Heap) (x : Esc) (K : KT) : Prop:=
 pK (oLoad none v1 h) fun t1=>
 pK (oBin .sub t1 (AI 1)) fun t2=>
 C f_q054 [v0,(AI 0),t2] h fun t3 h4 y5=>
 pK (oUn .not t3) fun t6=>
 K .ret ⟨[(3,t6)],h4,(y5 ++ x)⟩
theorem e_q04b {C gl v0 v1 h x K} : NW C gl a_q04b.body ⟨enter [v0,v1],h,x⟩ K = d_q04b C gl v0 v1 h x K:=by kernel_rfl
def P_q006 : ACode:=(.seq (rg [mV 2 (.c (.p (.sl none []))),
mV 3 cF] [0])
(.seq (.seq (rg [mV 5 0,
bN 6 .eql 5 (cS [])] [0,6])
(.cond 6 (.seq (rg [mV 2 (.c (.p (.sl none []))),
mV 3 cT] [2,3])
.ret)
.skip))
(.seq (rg [mV 8 0,
cL 9 f_q087 [8,(cS [10])],
mV 7 9,
eX 10 7 0,
eX 11 7 1,
mV 4 10,
mV 3 11] [3,4])
(.seq (rg [mV 12 4,
cL 13 f_q08e [12,(cS [10])],
mV 14 3,
mV 2 13,
mV 3 14] [2,3])
.ret))))
def a_q006 : AFun:=⟨1,[.t 2,.t 3],P_q006,false,false⟩
def d_q006 (C : Hd) (gl : GL) (v0 : AV) (h : Heap) (x : Esc) (K : KT) : Prop:=
 pK (oBin .eql v0 (.p (.str []))) fun t1=>
 condB t1 (K .ret ⟨[(2,(.p (.sl none []))),(3,(AB true))],h,x⟩)
 (C f_q087 [v0,(.p (.str [10]))] h fun t2 h3 y4=>
 pK (oExt t2 0) fun t5=>
 pK (oExt t2 1) fun t6=>
 C f_q08e [t5,(.p (.str [10]))] h3 fun t7 h8 y9=>
 K .ret ⟨[(2,t7),(3,t6)],h8,(y9 ++ (y4 ++ x))⟩)
theorem e_q006 {C gl v0 h x K} : NW C gl a_q006.body ⟨enter [v0],h,x⟩ K = d_q006 C gl v0 h x K:=by kernel_rfl
def P_q08e : ACode:=(.seq (rg [mV 4 (.c (.p (.sl none [])))] [0,1])
(.seq (rg [mV 5 0,
mV 6 1,
cL 7 f_q08j [5,6,(cI 0),(cI (-1))],
mV 4 7] [4])
.ret))
def a_q08e : AFun:=⟨2,[.t 4],P_q08e,false,false⟩
def d_q08e (C : Hd) (gl : GL) (v0 v1 : AV) (h : Heap) (x : Esc) (K : KT) : Prop:=
 C f_q08j [v0,v1,(AI 0),(AI (-1))] h fun t1 h2 y3=>
 K .ret ⟨[(4,t1)],h2,(y3 ++ x)⟩
theorem e_q08e {C gl v0 v1 h x K} : NW C gl a_q08e.body ⟨enter [v0,v1],h,x⟩ K = d_q08e C gl v0 v1 h x K:=by kernel_rfl
def p_q009_k1 : ACode:=.pr [1,6,11,12,13] (.seq (rg [bN 14 .lss 13 12] [1,6,11,12,13,14])
(.seq (.cond 14 .skip
(.exit 0))
(.seq (.block 1 (.seq (rg [iA 15 none 11 13,
lD 16 none 15,
mV 8 16] [1,6,8,11,12,13])
(.seq (rg [mV 18 8,
mV 19 1,
cL 20 f_q008 [18,19],
mV 17 20,
eX 21 17 0,
eX 22 17 1,
mV 9 21,
mV 10 22] [1,6,9,10,11,12,13])
(.seq (.seq (rg [mV 23 10,
uO 24 (.un .not 23)] [1,6,9,11,12,13,24])
(.cond 24 (.seq (rg [mV 4 (.c (.p (.sl none []))),
mV 5 cF] [4,5])
.ret)
.skip))
(rg [mV 25 6,
mV 26 9,
uO 27 (.bsl false none 1 (.int .i64 0) [(0,26)]),
uO 28 (.app none 25 27),
mV 6 28] [1,6,11,12,13])))))
(rg [bN 29 .add 13 (cI 1),
mV 13 29] [1,6,11,12,13]))))
def d_q009_k1 (C : Hd) (gl : GL) (v1 v6 v11 v12 v13 : AV) (h : Heap) (x : Esc) (K : KT) : Prop:=
 pK (oBin .lss v13 v12) fun t1=>
 condB t1 (pK (oIaddr none v11 v13 h) fun t2=>
 pK (oLoad none t2 h) fun t3=>
 C f_q008 [t3,v1] h fun t4 h5 y6=>
 pK (oExt t4 0) fun t7=>
 pK (oExt t4 1) fun t8=>
 pK (oUn .not t8) fun t9=>
 condB t9 (K .ret ⟨[(4,(.p (.sl none []))),(5,(AB false))],h5,(y6 ++ x)⟩)
 (wK (oBsl false none 1 (.int .i64 0) [(0,t7)] h5) fun t10 h11 y12=>
 wK (oApp none v6 t10 h11) fun t13 h14 y15=>
 pK (oBin .add v13 (AI 1)) fun t16=>
 K .normal ⟨[(1,v1),(6,t13),(11,v11),(12,v12),(13,t16)],h14,(y15 ++ (y12 ++ (y6 ++ x)))⟩))
 (K (.exit 0) ⟨[(1,v1),(6,v6),(11,v11),(12,v12),(13,v13),(14,t1)],h,x⟩)
theorem e_q009_k1 {C gl e h x K} : NW C gl p_q009_k1 ⟨e,h,x⟩ K = d_q009_k1 C gl (aget e 1) (aget e 6) (aget e 11) (aget e 12) (aget e 13) h x K:=by kernel_rfl
theorem l_q009_k1 {C gl e h x K} : NW C gl (.loop (.scope p_q009_k1)) ⟨e,h,x⟩ K = NLoop C gl (.scope p_q009_k1) K [(1,aget e 1),(6,aget e 6),(11,aget e 11),(12,aget e 12),(13,aget e 13)] h x:=NLoop_sc
def p_q009_k2 : ACode:=.pr [6] (.seq (rg [mV 30 6,
mV 4 30,
mV 5 cT] [4,5])
.ret)
def d_q009_k2 (C : Hd) (gl : GL) (v6 : AV) (h : Heap) (x : Esc) (K : KT) : Prop:=
 K .ret ⟨[(4,v6),(5,(AB true))],h,x⟩
theorem e_q009_k2 {C gl e h x K} : NW C gl p_q009_k2 ⟨e,h,x⟩ K = d_q009_k2 C gl (aget e 6) h x K:=by kernel_rfl
def P_q009 (q1 q2 : ACode) : ACode:=(.seq (rg [mV 4 (.c (.p (.sl none []))),
mV 5 cF] [0,1])
(.seq (rg [uO 6 (.new0 none)] [0,1,6])
(.seq (.seq (rg [mV 11 0,
lN 12 11,
mV 13 (cI 0)] [1,6,11,12,13])
(.block 0 (.loop (.scope q1))))
q2)))
def a_q009 : AFun:=⟨2,[.t 4,.t 5],P_q009 p_q009_k1 p_q009_k2,false,false⟩
def d_q009 (C : Hd) (gl : GL) (q1 q2 : ACode) (v0 v1 : AV) (h : Heap) (x : Esc) (K : KT) : Prop:=
 nwK none h fun t1 h2 y3=>
 pK (oLen v0) fun t4=>
 NW C gl (.loop (.scope q1)) ⟨[(1,v1),(6,t1),(11,v0),(12,t4),(13,(AI 0))],h2,(y3 ++ x)⟩ (blockN 0 (seqN C gl q2 K))
theorem E_q009 {C gl q1 q2 v0 v1 h x K} : NW C gl (P_q009 q1 q2) ⟨enter [v0,v1],h,x⟩ K = d_q009 C gl q1 q2 v0 v1 h x K:=by kernel_rfl
theorem e_q009 {C gl v0 v1 h x K} : NW C gl a_q009.body ⟨enter [v0,v1],h,x⟩ K = d_q009 C gl p_q009_k1 p_q009_k2 v0 v1 h x K:=E_q009
def P_q086 : ACode:=(.seq (rg [mV 4 (cS []),
mV 5 (cS []),
mV 6 cF] [0,1])
(.seq (rg [mV 7 0,
mV 8 1,
cL 9 f_q02l [7,8],
eX 10 9 0,
eX 11 9 1,
eX 12 9 2,
mV 4 10,
mV 5 11,
mV 6 12] [4,5,6])
.ret))
def a_q086 : AFun:=⟨2,[.t 4,.t 5,.t 6],P_q086,false,false⟩
def d_q086 (C : Hd) (gl : GL) (v0 v1 : AV) (h : Heap) (x : Esc) (K : KT) : Prop:=
 C f_q02l [v0,v1] h fun t1 h2 y3=>
 pK (oExt t1 0) fun t4=>
 pK (oExt t1 1) fun t5=>
 pK (oExt t1 2) fun t6=>
 K .ret ⟨[(4,t4),(5,t5),(6,t6)],h2,(y3 ++ x)⟩
theorem e_q086 {C gl v0 v1 h x K} : NW C gl a_q086.body ⟨enter [v0,v1],h,x⟩ K = d_q086 C gl v0 v1 h x K:=by kernel_rfl
def P_q05r : ACode:=(.seq (rg [mV 4 cF] [0,1])
(.seq (rg [mV 5 0,
mV 6 1,
cL 7 f_q067 [5,6],
bN 8 .geq 7 (cI 0),
mV 4 8] [4])
.ret))
def a_q05r : AFun:=⟨2,[.t 4],P_q05r,true,false⟩
def d_q05r (C : Hd) (gl : GL) (v0 v1 : AV) (h : Heap) (x : Esc) (K : KT) : Prop:=
 C f_q067 [v0,v1] h fun t1 h2 y3=>
 pK (oBin .geq t1 (AI 0)) fun t4=>
 K .ret ⟨[(4,t4)],h2,(y3 ++ x)⟩
theorem e_q05r {C gl v0 v1 h x K} : NW C gl a_q05r.body ⟨enter [v0,v1],h,x⟩ K = d_q05r C gl v0 v1 h x K:=by kernel_rfl
def P_q04l : ACode:=(.seq (rg [mV 4 (cI 0),
mV 5 cF] [0,1])
(.seq (rg [mV 9 0,
cL 10 f_q08g [9,(cS [45])],
mV 6 10] [0,1,6])
(.seq (.seq (rg [mV 11 6,
bN 12 .eql 11 (cS []),
mV 13 12,
gD 14 13 false (.mv 6),
gD 15 13 false (.lens 14),
gD 16 13 false (.mv 1),
gD 17 13 false (.bin .gtr 15 16),
uO 18 (.pick 13 cT 17),
mV 19 18,
gD 20 19 false (.mv 6),
gD 21 19 false (.call f_q055 [20,(cS [48,49,50,51,52,53,54,55,56,57])]),
gD 22 19 false (.un .not 21),
uO 23 (.pick 19 cT 22)] [0,23])
(.cond 23 (.seq (rg [mV 4 (cI 0),
mV 5 cF] [4,5])
.ret)
.skip))
(.seq (rg [mV 25 0,
cL 26 f_q07p [25],
mV 24 26,
eX 27 24 0,
eX 28 24 1,
mV 7 27,
mV 8 28] [0,7,8])
(.seq (rg [mV 29 7,
mV 30 8,
uO 31 (.isnil 3 false 30),
mV 32 31,
gD 33 32 true (.mv 7),
gD 34 32 true (.call f_q07q [33]),
gD 35 32 true (.mv 0),
gD 36 32 true (.bin .eql 34 35),
uO 37 (.pick 32 36 cF),
mV 4 29,
mV 5 37] [4,5])
.ret)))))
def a_q04l : AFun:=⟨2,[.t 4,.t 5],P_q04l,false,false⟩
def d_q04l (C : Hd) (gl : GL) (v0 v1 : AV) (h : Heap) (x : Esc) (K : KT) : Prop:=
 C f_q08g [v0,(.p (.str [45]))] h fun t1 h2 y3=>
 pK (oBin .eql t1 (.p (.str []))) fun t4=>
 gM t4 false t1 h2 fun t5 h6 y7=>
 gP t4 false (oLens t5) h6 fun t8 h9 y10=>
 gM t4 false v1 h9 fun t11 h12 y13=>
 gP t4 false (oBin .gtr t8 t11) h12 fun t14 h15 y16=>
 pK (oPick t4 (AB true) t14) fun t17=>
 gM t17 false t1 h15 fun t18 h19 y20=>
 gV t17 false h19 (C f_q055 [t18,(.p (.str [48,49,50,51,52,53,54,55,56,57]))] h19) fun t21 h22 y23=>
 gP t17 false (oUn .not t21) h22 fun t24 h25 y26=>
 pK (oPick t17 (AB true) t24) fun t27=>
 condB t27 (K .ret ⟨[(4,(AI 0)),(5,(AB false))],h25,(y26 ++ (y23 ++ (y20 ++ (y16 ++ (y13 ++ (y10 ++ (y7 ++ (y3 ++ x))))))))⟩)
 (C f_q07p [v0] h25 fun t28 h29 y30=>
 pK (oExt t28 0) fun t31=>
 pK (oExt t28 1) fun t32=>
 pK (oIsnil 3 false t32) fun t33=>
 gM t33 true t31 h29 fun t34 h35 y36=>
 gV t33 true h35 (C f_q07q [t34] h35) fun t37 h38 y39=>
 gM t33 true v0 h38 fun t40 h41 y42=>
 gP t33 true (oBin .eql t37 t40) h41 fun t43 h44 y45=>
 pK (oPick t33 t43 (AB false)) fun t46=>
 K .ret ⟨[(4,t31),(5,t46)],h44,(y45 ++ (y42 ++ (y39 ++ (y36 ++ (y30 ++ (y26 ++ (y23 ++ (y20 ++ (y16 ++ (y13 ++ (y10 ++ (y7 ++ (y3 ++ x)))))))))))))⟩)
theorem e_q04l {C gl v0 v1 h x K} : NW C gl a_q04l.body ⟨enter [v0,v1],h,x⟩ K = d_q04l C gl v0 v1 h x K:=by kernel_rfl
def P_q00z : ACode:=(.seq (rg [mV 2 cF] [0])
(.seq (rg [mV 3 0,
mV 4 0,
bN 5 .neq 3 4,
mV 2 5] [2])
.ret))
def a_q00z : AFun:=⟨1,[.t 2],P_q00z,false,false⟩
def d_q00z (C : Hd) (gl : GL) (v0 : AV) (h : Heap) (x : Esc) (K : KT) : Prop:=
 pK (oBin .neq v0 v0) fun t1=>
 K .ret ⟨[(2,t1)],h,x⟩
theorem e_q00z {C gl v0 h x K} : NW C gl a_q00z.body ⟨enter [v0],h,x⟩ K = d_q00z C gl v0 h x K:=by kernel_rfl
def p_q06k_k1 : ACode:=.pr [0,1,2,6,7] (.seq (.seq (dr [dF (mV 16 7) [7],
dF (mV 17 1) [1],
dF (bN 18 .gtr 16 17) [16,17],
dF (mV 19 18) [18],
dF (gD 20 19 true (.mv 0)) [0,19],
dF (gD 21 19 true (.mv 7)) [7,19],
dF (gD 22 19 true (.iaddr none 20 21)) [20,21,19],
dF (gD 23 19 true (.load none 22)) [22,19],
dF (gD 24 19 true (.mv 0)) [0,19],
dF (gD 25 19 true (.mv 7)) [7,19],
dF (gD 26 19 true (.bin .sub 25 (cI 1))) [25,19],
dF (gD 27 19 true (.iaddr none 24 26)) [24,26,19],
dF (gD 28 19 true (.load none 27)) [27,19],
dT (gD 29 19 true (.call f_q00w [23,28])) [23,28,19],
dF (uO 30 (.pick 19 29 cF)) [19,29]] [0,1,2,6,7,30])
(.cond 30 .skip
(.exit 2)))
(.seq (.block 3 (dr [dF (mV 33 0) [0],
dF (mV 34 7) [7],
dF (mV 35 0) [0],
dF (mV 36 7) [7],
dF (bN 37 .sub 36 (cI 1)) [36],
dF (mV 38 0) [0],
dF (mV 39 7) [7],
dF (bN 40 .sub 39 (cI 1)) [39],
dF (iA 41 none 38 40) [38,40],
dF (lD 42 none 41) [41],
dF (mV 43 0) [0],
dF (mV 44 7) [7],
dF (iA 45 none 43 44) [43,44],
dF (lD 46 none 45) [45],
dF (iA 47 none 33 34) [33,34],
dT (wO (.store none 47 42)) [47,42],
dF (iA 48 none 35 37) [35,37],
dT (wO (.store none 48 46)) [48,46]] [0,1,2,6,7]))
(rg [mV 31 7,
bN 32 .sub 31 (cI 1),
mV 7 32] [0,1,2,6,7])))
def d_q06k_k1 (C : Hd) (gl : GL) (v0 v1 v2 v6 v7 : AV) (h : Heap) (x : Esc) (K : KT) : Prop:=
 pK (oBin .gtr v7 v1) fun t1=>
 gM t1 true v0 h fun t2 h3 y4=>
 gM t1 true v7 h3 fun t5 h6 y7=>
 gP t1 true (oIaddr none t2 t5 h6) h6 fun t8 h9 y10=>
 gP t1 true (oLoad none t8 h9) h9 fun t11 h12 y13=>
 gM t1 true v0 h12 fun t14 h15 y16=>
 gM t1 true v7 h15 fun t17 h18 y19=>
 gP t1 true (oBin .sub t17 (AI 1)) h18 fun t20 h21 y22=>
 gP t1 true (oIaddr none t14 t20 h21) h21 fun t23 h24 y25=>
 gP t1 true (oLoad none t23 h24) h24 fun t26 h27 y28=>
 gV t1 true h27 (callE C f_q00w [t11,t26] h27) fun t29 h30 y31=>
 pK (oPick t1 t29 (AB false)) fun t32=>
 condB t32 (pK (oBin .sub v7 (AI 1)) fun t33=>
 pK (oBin .sub v7 (AI 1)) fun t34=>
 pK (oIaddr none v0 t34 h30) fun t35=>
 pK (oLoad none t35 h30) fun t36=>
 pK (oIaddr none v0 v7 h30) fun t37=>
 pK (oLoad none t37 h30) fun t38=>
 pK (oIaddr none v0 v7 h30) fun t39=>
 wK (oStore none t39 t36 h30) fun t40 h41 y42=>
 pK (oIaddr none v0 t33 h41) fun t43=>
 wK (oStore none t43 t38 h41) fun t44 h45 y46=>
 pK (oBin .sub v7 (AI 1)) fun t47=>
 K .normal ⟨[(0,v0),(1,v1),(2,v2),(6,v6),(7,t47)],h45,(y46 ++ (y42 ++ (y31 ++ (y28 ++ (y25 ++ (y22 ++ (y19 ++ (y16 ++ (y13 ++ (y10 ++ (y7 ++ (y4 ++ x))))))))))))⟩)
 (K (.exit 2) ⟨[(0,v0),(1,v1),(2,v2),(6,v6),(7,v7),(30,t32)],h30,(y31 ++ (y28 ++ (y25 ++ (y22 ++ (y19 ++ (y16 ++ (y13 ++ (y10 ++ (y7 ++ (y4 ++ x))))))))))⟩)
theorem e_q06k_k1 {C gl e h x K} : NW C gl p_q06k_k1 ⟨e,h,x⟩ K = d_q06k_k1 C gl (aget e 0) (aget e 1) (aget e 2) (aget e 6) (aget e 7) h x K:=by kernel_rfl
theorem l_q06k_k1 {C gl e h x K} : NW C gl (.loop p_q06k_k1) ⟨e,h,x⟩ K = NLoop C gl p_q06k_k1 K [(0,aget e 0),(1,aget e 1),(2,aget e 2),(6,aget e 6),(7,aget e 7)] h x:=NLoop_pr
def p_q06k_k2 : ACode:=.pr [0,1,2,6] (rg [mV 13 6,
bN 14 .add 13 (cI 1),
mV 6 14] [0,1,2,6])
def d_q06k_k2 (C : Hd) (gl : GL) (v0 v1 v2 v6 : AV) (h : Heap) (x : Esc) (K : KT) : Prop:=
 pK (oBin .add v6 (AI 1)) fun t1=>
 K .normal ⟨[(0,v0),(1,v1),(2,v2),(6,t1)],h,x⟩
theorem e_q06k_k2 {C gl e h x K} : NW C gl p_q06k_k2 ⟨e,h,x⟩ K = d_q06k_k2 C gl (aget e 0) (aget e 1) (aget e 2) (aget e 6) h x K:=by kernel_rfl
def P_q06k_k3 (q1 q2 : ACode) : ACode:=.pr [0,1,2,6] (.seq (.seq (rg [mV 10 6,
mV 11 2,
bN 12 .lss 10 11] [0,1,2,6,12])
(.cond 12 .skip
(.exit 0)))
(.seq (.block 1 (.seq (rg [mV 15 6,
mV 7 15] [0,1,2,6,7])
(.block 2 (.loop q1))))
q2))
def p_q06k_k3 : ACode:=P_q06k_k3 p_q06k_k1 p_q06k_k2
def d_q06k_k3 (C : Hd) (gl : GL) (q1 q2 : ACode) (v0 v1 v2 v6 : AV) (h : Heap) (x : Esc) (K : KT) : Prop:=
 pK (oBin .lss v6 v2) fun t1=>
 condB t1 (NW C gl (.loop q1) ⟨[(0,v0),(1,v1),(2,v2),(6,v6),(7,v6)],h,x⟩ (blockN 2 (blockN 1 (seqN C gl q2 K))))
 (K (.exit 0) ⟨[(0,v0),(1,v1),(2,v2),(6,v6),(12,t1)],h,x⟩)
theorem E_q06k_k3 {C gl q1 q2 e h x K} : NW C gl (P_q06k_k3 q1 q2) ⟨e,h,x⟩ K = d_q06k_k3 C gl q1 q2 (aget e 0) (aget e 1) (aget e 2) (aget e 6) h x K:=by kernel_rfl
theorem e_q06k_k3 {C gl e h x K} : NW C gl p_q06k_k3 ⟨e,h,x⟩ K = d_q06k_k3 C gl p_q06k_k1 p_q06k_k2 (aget e 0) (aget e 1) (aget e 2) (aget e 6) h x K:=E_q06k_k3
theorem l_q06k_k3 {C gl e h x K} : NW C gl (.loop p_q06k_k3) ⟨e,h,x⟩ K = NLoop C gl p_q06k_k3 K [(0,aget e 0),(1,aget e 1),(2,aget e 2),(6,aget e 6)] h x:=NLoop_pr
def P_q06k (q3 : ACode) : ACode:=(.seq (rg [mV 8 1,
bN 9 .add 8 (cI 1),
mV 6 9] [0,1,2,6])
(.block 0 (.loop q3)))
def a_q06k : AFun:=⟨3,[],P_q06k p_q06k_k3,true,false⟩
def d_q06k (C : Hd) (gl : GL) (q3 : ACode) (v0 v1 v2 : AV) (h : Heap) (x : Esc) (K : KT) : Prop:=
 pK (oBin .add v1 (AI 1)) fun t1=>
 NW C gl (.loop q3) ⟨[(0,v0),(1,v1),(2,v2),(6,t1)],h,x⟩ (blockN 0 K)
theorem E_q06k {C gl q3 v0 v1 v2 h x K} : NW C gl (P_q06k q3) ⟨enter [v0,v1,v2],h,x⟩ K = d_q06k C gl q3 v0 v1 v2 h x K:=by kernel_rfl
theorem e_q06k {C gl v0 v1 v2 h x K} : NW C gl a_q06k.body ⟨enter [v0,v1,v2],h,x⟩ K = d_q06k C gl p_q06k_k3 v0 v1 v2 h x K:=E_q06k
def p_q031_k1 : ACode:=.pr [0,2] (.seq (rg [mV 19 2,
mV 20 0,
uO 21 (.conv (.i .u8) 20),
uO 22 (.idxs (cS [0,1,2,2,3,3,3,3,4,4,4,4,4,4,4,4,5,5,5,5,5,5,5,5,5,5,5,5,5,5,5,5,6,6,6,6,6,6,6,6,6,6,6,6,6,6,6,6,6,6,6,6,6,6,6,6,6,6,6,6,6,6,6,6,7,7,7,7,7,7,7,7,7,7,7,7,7,7,7,7,7,7,7,7,7,7,7,7,7,7,7,7,7,7,7,7,7,7,7,7,7,7,7,7,7,7,7,7,7,7,7,7,7,7,7,7,7,7,7,7,7,7,7,7,7,7,7,7,8,8,8,8,8,8,8,8,8,8,8,8,8,8,8,8,8,8,8,8,8,8,8,8,8,8,8,8,8,8,8,8,8,8,8,8,8,8,8,8,8,8,8,8,8,8,8,8,8,8,8,8,8,8,8,8,8,8,8,8,8,8,8,8,8,8,8,8,8,8,8,8,8,8,8,8,8,8,8,8,8,8,8,8,8,8,8,8,8,8,8,8,8,8,8,8,8,8,8,8,8,8,8,8,8,8,8,8,8,8,8,8,8,8,8,8,8,8,8,8,8,8,8,8,8,8,8,8]) 21),
uO 23 (.conv (.i .i64) 22),
bN 24 .add 19 23,
mV 2 24] [2])
.ret)
def d_q031_k1 (C : Hd) (gl : GL) (v0 v2 : AV) (h : Heap) (x : Esc) (K : KT) : Prop:=
 pK (oConvI .u8 v0) fun t1=>
 pK (oIdxs (.p (.str [0,1,2,2,3,3,3,3,4,4,4,4,4,4,4,4,5,5,5,5,5,5,5,5,5,5,5,5,5,5,5,5,6,6,6,6,6,6,6,6,6,6,6,6,6,6,6,6,6,6,6,6,6,6,6,6,6,6,6,6,6,6,6,6,7,7,7,7,7,7,7,7,7,7,7,7,7,7,7,7,7,7,7,7,7,7,7,7,7,7,7,7,7,7,7,7,7,7,7,7,7,7,7,7,7,7,7,7,7,7,7,7,7,7,7,7,7,7,7,7,7,7,7,7,7,7,7,7,8,8,8,8,8,8,8,8,8,8,8,8,8,8,8,8,8,8,8,8,8,8,8,8,8,8,8,8,8,8,8,8,8,8,8,8,8,8,8,8,8,8,8,8,8,8,8,8,8,8,8,8,8,8,8,8,8,8,8,8,8,8,8,8,8,8,8,8,8,8,8,8,8,8,8,8,8,8,8,8,8,8,8,8,8,8,8,8,8,8,8,8,8,8,8,8,8,8,8,8,8,8,8,8,8,8,8,8,8,8,8,8,8,8,8,8,8,8,8,8,8,8,8,8,8,8,8,8])) t1) fun t2=>
 pK (oConvI .i64 t2) fun t3=>
 pK (oBin .add v2 t3) fun t4=>
 K .ret ⟨[(2,t4)],h,x⟩
theorem e_q031_k1 {C gl e h x K} : NW C gl p_q031_k1 ⟨e,h,x⟩ K = d_q031_k1 C gl (aget e 0) (aget e 2) h x K:=by kernel_rfl
def P_q031_k2 (q1 : ACode) : ACode:=.pr [0,2] (.seq (.seq (rg [mV 13 0,
bN 14 .geq 13 (.c (.p (.int .u64 256)))] [0,2,14])
(.cond 14 (.seq (rg [mV 15 0,
bN 16 .shr 15 (.c (.p (.int .u64 8))),
mV 0 16] [0,2])
(rg [mV 17 2,
bN 18 .add 17 (cI 8),
mV 2 18] [0,2]))
.skip))
q1)
def p_q031_k2 : ACode:=P_q031_k2 p_q031_k1
def d_q031_k2 (C : Hd) (gl : GL) (q1 : ACode) (v0 v2 : AV) (h : Heap) (x : Esc) (K : KT) : Prop:=
 pK (oBin .geq v0 (.p (.int .u64 256))) fun t1=>
 condB t1 (pK (oBin .shr v0 (.p (.int .u64 8))) fun t2=>
 pK (oBin .add v2 (AI 8)) fun t3=>
 NW C gl q1 ⟨[(0,t2),(2,t3)],h,x⟩ K)
 (NW C gl q1 ⟨[(0,v0),(2,v2),(14,t1)],h,x⟩ K)
theorem E_q031_k2 {C gl q1 e h x K} : NW C gl (P_q031_k2 q1) ⟨e,h,x⟩ K = d_q031_k2 C gl q1 (aget e 0) (aget e 2) h x K:=by kernel_rfl
theorem e_q031_k2 {C gl e h x K} : NW C gl p_q031_k2 ⟨e,h,x⟩ K = d_q031_k2 C gl p_q031_k1 (aget e 0) (aget e 2) h x K:=E_q031_k2
def P_q031_k3 (q2 : ACode) : ACode:=.pr [0,2] (.seq (.seq (rg [mV 7 0,
bN 8 .geq 7 (.c (.p (.int .u64 65536)))] [0,2,8])
(.cond 8 (.seq (rg [mV 9 0,
bN 10 .shr 9 (.c (.p (.int .u64 16))),
mV 0 10] [0,2])
(rg [mV 11 2,
bN 12 .add 11 (cI 16),
mV 2 12] [0,2]))
.skip))
q2)
def p_q031_k3 : ACode:=P_q031_k3 p_q031_k2
def d_q031_k3 (C : Hd) (gl : GL) (q2 : ACode) (v0 v2 : AV) (h : Heap) (x : Esc) (K : KT) : Prop:=
 pK (oBin .geq v0 (.p (.int .u64 65536))) fun t1=>
 condB t1 (pK (oBin .shr v0 (.p (.int .u64 16))) fun t2=>
 pK (oBin .add v2 (AI 16)) fun t3=>
 NW C gl q2 ⟨[(0,t2),(2,t3)],h,x⟩ K)
 (NW C gl q2 ⟨[(0,v0),(2,v2),(8,t1)],h,x⟩ K)
theorem E_q031_k3 {C gl q2 e h x K} : NW C gl (P_q031_k3 q2) ⟨e,h,x⟩ K = d_q031_k3 C gl q2 (aget e 0) (aget e 2) h x K:=by kernel_rfl
theorem e_q031_k3 {C gl e h x K} : NW C gl p_q031_k3 ⟨e,h,x⟩ K = d_q031_k3 C gl p_q031_k2 (aget e 0) (aget e 2) h x K:=E_q031_k3
def P_q031 (q3 : ACode) : ACode:=(.seq (rg [mV 2 (cI 0)] [0,2])
(.seq (.seq (rg [mV 3 0,
bN 4 .geq 3 (.c (.p (.int .u64 4294967296)))] [0,2,4])
(.cond 4 (.seq (rg [mV 5 0,
bN 6 .shr 5 (.c (.p (.int .u64 32))),
mV 0 6] [0])
(rg [mV 2 (cI 32)] [0,2]))
.skip))
q3))
def a_q031 : AFun:=⟨1,[.t 2],P_q031 p_q031_k3,false,false⟩
def d_q031 (C : Hd) (gl : GL) (q3 : ACode) (v0 : AV) (h : Heap) (x : Esc) (K : KT) : Prop:=
 pK (oBin .geq v0 (.p (.int .u64 4294967296))) fun t1=>
 condB t1 (pK (oBin .shr v0 (.p (.int .u64 32))) fun t2=>
 NW C gl q3 ⟨[(0,t2),(2,(AI 32))],h,x⟩ K)
 (NW C gl q3 ⟨[(0,v0),(2,(AI 0)),(4,t1)],h,x⟩ K)
theorem E_q031 {C gl q3 v0 h x K} : NW C gl (P_q031 q3) ⟨enter [v0],h,x⟩ K = d_q031 C gl q3 v0 h x K:=by kernel_rfl
theorem e_q031 {C gl v0 h x K} : NW C gl a_q031.body ⟨enter [v0],h,x⟩ K = d_q031 C gl p_q031_k3 v0 h x K:=E_q031
def P_q02n : ACode:=(.seq (rg [mV 4 cF] [0,1])
(.seq (rg [mV 5 0,
uO 6 (.lens 5),
mV 7 1,
uO 8 (.lens 7),
bN 9 .geq 6 8,
mV 10 9,
gD 11 10 true (.mv 0),
gD 12 10 true (.mv 1),
gD 13 10 true (.lens 12),
gD 14 10 true (.slstr 11 none (some 13)),
gD 15 10 true (.mv 1),
gD 16 10 true (.bin .eql 14 15),
uO 17 (.pick 10 16 cF),
mV 4 17] [4])
.ret))
def a_q02n : AFun:=⟨2,[.t 4],P_q02n,false,false⟩
def d_q02n (C : Hd) (gl : GL) (v0 v1 : AV) (h : Heap) (x : Esc) (K : KT) : Prop:=
 pK (oLens v0) fun t1=>
 pK (oLens v1) fun t2=>
 pK (oBin .geq t1 t2) fun t3=>
 gM t3 true v0 h fun t4 h5 y6=>
 gM t3 true v1 h5 fun t7 h8 y9=>
 gP t3 true (oLens t7) h8 fun t10 h11 y12=>
 gP t3 true (oSlstr t4 none (some t10)) h11 fun t13 h14 y15=>
 gM t3 true v1 h14 fun t16 h17 y18=>
 gP t3 true (oBin .eql t13 t16) h17 fun t19 h20 y21=>
 pK (oPick t3 t19 (AB false)) fun t22=>
 K .ret ⟨[(4,t22)],h20,(y21 ++ (y18 ++ (y15 ++ (y12 ++ (y9 ++ (y6 ++ x))))))⟩
theorem e_q02n {C gl v0 v1 h x K} : NW C gl a_q02n.body ⟨enter [v0,v1],h,x⟩ K = d_q02n C gl v0 v1 h x K:=by kernel_rfl
def P_q000 : ACode:=(.seq (rg [mV 2 cF] [0])
(.seq (rg [mV 3 0,
cL 4 f_q08f [3,(cS [48,49])],
bN 5 .eql 4 (cS []),
mV 2 5] [2])
.ret))
def a_q000 : AFun:=⟨1,[.t 2],P_q000,false,false⟩
def d_q000 (C : Hd) (gl : GL) (v0 : AV) (h : Heap) (x : Esc) (K : KT) : Prop:=
 C f_q08f [v0,(.p (.str [48,49]))] h fun t1 h2 y3=>
 pK (oBin .eql t1 (.p (.str []))) fun t4=>
 K .ret ⟨[(2,t4)],h2,(y3 ++ x)⟩
theorem e_q000 {C gl v0 h x K} : NW C gl a_q000.body ⟨enter [v0],h,x⟩ K = d_q000 C gl v0 h x K:=by kernel_rfl
end Go.Am
end
