/- Texts of the proof, laid together: CodesB, CodesC, AmL, AmC. -/
import Derived.KernelRfl
import Derived.Test.YtilloflkgbfjfaaDoorlawSM5
set_option linter.all false
section
/- The functions asv abstract code,and asv formulas over their values: printed by program out of the translation. -/
set_option linter.unusedVariables false
set_option maxRecDepth 100000
namespace Go.Am
def p_q00u_k1 : ACode:=.pr [1,3,48] (.cond 48 (.seq (dr [dF (fA 51 3 none 1) [1],
dF (lD 52 none 51) [51],
dF (fA 53 4 none 1) [1],
dF (lD 54 none 53) [53],
dF (fA 55 5 none 1) [1],
dF (lD 56 none 55) [55],
dF (fA 57 3 none 3) [3],
dA (wO (.store none 57 52)) [57,52] true [] [3,5],
dF (fA 58 4 none 3) [3],
dA (wO (.store none 58 54)) [58,54] true [] [5],
dF (fA 59 5 none 3) [3],
dT (wO (.store none 59 56)) [59,56]] [1,3])
(.seq (rg [lD 60 (some 6) 1,
cL 61 f_q010 [60],
mV 4 61] [1,3,4])
(.seq (rg [mV 62 4,
bN 63 .neq 62 (cI 0)] [1,3,4,63])
(.cond 63 (.seq (rg [mV 64 4,
mV 2 64] [2])
.ret)
.skip))))
(.seq (rg [mV 2 (cI 4)] [2])
.ret))
def d_q00u_k1 (C : Hd) (gl : GL) (v1 v3 v48 : AV) (h : Heap) (x : Esc) (K : KT) : Prop:=
 condB v48 (pK (oFaddr 3 none v1) fun t1=>
 pK (oLoad none t1 h) fun t2=>
 pK (oFaddr 4 none v1) fun t3=>
 pK (oLoad none t3 h) fun t4=>
 pK (oFaddr 5 none v1) fun t5=>
 pK (oLoad none t5 h) fun t6=>
 pK (oFaddr 3 none v3) fun t7=>
 wK (oStore none t7 t2 h) fun t8 h9 y10=>
 (pK (oLoad none t3 h9) fun v=>(fun u (g1 : Heap) (y1 : Esc)=>u = t4 ∧ g1 = h9 ∧ y1 = []) v h9 []) ∧ ((pK (oLoad none t5 h9) fun v=>(fun u (g1 : Heap) (y1 : Esc)=>u = t6 ∧ g1 = h9 ∧ y1 = []) v h9 []) ∧ (pK (oFaddr 4 none v3) fun t11=>
 wK (oStore none t11 t4 h9) fun t12 h13 y14=>
 (pK (oLoad none t5 h13) fun v=>(fun u (g1 : Heap) (y1 : Esc)=>u = t6 ∧ g1 = h13 ∧ y1 = []) v h13 []) ∧ (pK (oFaddr 5 none v3) fun t15=>
 wK (oStore none t15 t6 h13) fun t16 h17 y18=>
 pK (oLoad (some 6) v1 h17) fun t19=>
 C f_q010 [t19] h17 fun t20 h21 y22=>
 pK (oBin .neq t20 (AI 0)) fun t23=>
 condB t23 (K .ret ⟨[(2,t20)],h21,(y22 ++ (y18 ++ (y14 ++ (y10 ++ x))))⟩)
 (K .normal ⟨[(1,v1),(3,v3),(4,t20),(63,t23)],h21,(y22 ++ (y18 ++ (y14 ++ (y10 ++ x))))⟩)))))
 (K .ret ⟨[(2,(AI 4))],h,x⟩)
theorem e_q00u_k1 {C gl e h x K} : NW C gl p_q00u_k1 ⟨e,h,x⟩ K = d_q00u_k1 C gl (aget e 1) (aget e 3) (aget e 48) h x K:=by kernel_rfl
def P_q00u_k2 (q1 : ACode) : ACode:=.pr [1,3,9,30] (.cond 30 (.seq (rg [fA 35 3 none 1,
lD 36 none 35,
fA 37 3 none 3,
wO (.store none 37 36)] [1,3])
(.block 1 (.seq (rg [fA 39 3 none 1,
lD 40 none 39,
cL 41 f_q00p [40],
uO 42 (.un .not 41),
mV 38 42] [1,3,38])
(.cond 38 (.seq (rg [mV 2 (cI 9)] [2])
.ret)
(.seq (rg [fA 44 3 none 1,
lD 45 none 44,
uO 46 (.lens 45),
bN 47 .gtr 46 (cI 2000),
mV 43 47] [1,3,43])
(.cond 43 (.seq (rg [mV 2 (cI 2)] [2])
.ret)
.skip))))))
(.seq (.seq (rg [bN 49 .eql 9 (cI 7),
mV 48 49] [1,3,9,48])
(.cond 48 .skip
(rg [bN 50 .eql 9 (cI 8),
mV 48 50] [1,3,48])))
q1))
def p_q00u_k2 : ACode:=P_q00u_k2 p_q00u_k1
def d_q00u_k2 (C : Hd) (gl : GL) (q1 : ACode) (v1 v3 v9 v30 : AV) (h : Heap) (x : Esc) (K : KT) : Prop:=
 condB v30 (pK (oFaddr 3 none v1) fun t1=>
 pK (oLoad none t1 h) fun t2=>
 pK (oFaddr 3 none v3) fun t3=>
 wK (oStore none t3 t2 h) fun t4 h5 y6=>
 pK (oFaddr 3 none v1) fun t7=>
 pK (oLoad none t7 h5) fun t8=>
 C f_q00p [t8] h5 fun t9 h10 y11=>
 pK (oUn .not t9) fun t12=>
 condB t12 (K .ret ⟨[(2,(AI 9))],h10,(y11 ++ (y6 ++ x))⟩)
 (pK (oFaddr 3 none v1) fun t13=>
 pK (oLoad none t13 h10) fun t14=>
 pK (oLens t14) fun t15=>
 pK (oBin .gtr t15 (AI 2000)) fun t16=>
 condB t16 (K .ret ⟨[(2,(AI 2))],h10,(y11 ++ (y6 ++ x))⟩)
 (K .normal ⟨[(1,v1),(3,v3),(43,t16)],h10,(y11 ++ (y6 ++ x))⟩)))
 (pK (oBin .eql v9 (AI 7)) fun t17=>
 condB t17 (NW C gl q1 ⟨[(1,v1),(3,v3),(9,v9),(48,t17)],h,x⟩ K)
 (pK (oBin .eql v9 (AI 8)) fun t18=>
 NW C gl q1 ⟨[(1,v1),(3,v3),(48,t18)],h,x⟩ K))
theorem E_q00u_k2 {C gl q1 e h x K} : NW C gl (P_q00u_k2 q1) ⟨e,h,x⟩ K = d_q00u_k2 C gl q1 (aget e 1) (aget e 3) (aget e 9) (aget e 30) h x K:=by kernel_rfl
theorem e_q00u_k2 {C gl e h x K} : NW C gl p_q00u_k2 ⟨e,h,x⟩ K = d_q00u_k2 C gl p_q00u_k1 (aget e 1) (aget e 3) (aget e 9) (aget e 30) h x K:=E_q00u_k2
def P_q00u_k3 (q2 : ACode) : ACode:=.pr [1,3,9,10] (.cond 10 (.seq (rg [fA 14 1 none 1,
lD 15 none 14,
fA 16 1 none 3,
wO (.store none 16 15)] [1,3])
(.seq (rg [fA 17 1 none 1,
lD 18 none 17,
cL 19 f_q012 [18],
uO 20 (.un .not 19)] [1,3,20])
(.cond 20 (.seq (rg [mV 2 (cI 1)] [2])
.ret)
.skip)))
(.seq (rg [bN 22 .eql 9 (cI 9),
mV 21 22] [1,3,9,21])
(.cond 21 (.seq (rg [fA 23 2 none 1,
lD 24 none 23,
fA 25 2 none 3,
wO (.store none 25 24)] [1,3])
(.seq (rg [fA 26 2 none 1,
lD 27 none 26,
cL 28 f_q00w [27,(cI 0),(cI 20000)],
uO 29 (.un .not 28)] [1,3,29])
(.cond 29 (.seq (rg [mV 2 (cI 1)] [2])
.ret)
.skip)))
(.seq (.seq (rg [bN 31 .eql 9 (cI 3),
mV 30 31] [1,3,9,30])
(.cond 30 .skip
(.seq (rg [bN 32 .eql 9 (cI 4),
mV 30 32] [1,3,9,30])
(.cond 30 .skip
(.seq (rg [bN 33 .eql 9 (cI 5),
mV 30 33] [1,3,9,30])
(.cond 30 .skip
(rg [bN 34 .eql 9 (cI 6),
mV 30 34] [1,3,9,30])))))))
q2))))
def p_q00u_k3 : ACode:=P_q00u_k3 p_q00u_k2
def d_q00u_k3 (C : Hd) (gl : GL) (q2 : ACode) (v1 v3 v9 v10 : AV) (h : Heap) (x : Esc) (K : KT) : Prop:=
 condB v10 (pK (oFaddr 1 none v1) fun t1=>
 pK (oLoad none t1 h) fun t2=>
 pK (oFaddr 1 none v3) fun t3=>
 wK (oStore none t3 t2 h) fun t4 h5 y6=>
 pK (oFaddr 1 none v1) fun t7=>
 pK (oLoad none t7 h5) fun t8=>
 C f_q012 [t8] h5 fun t9 h10 y11=>
 pK (oUn .not t9) fun t12=>
 condB t12 (K .ret ⟨[(2,(AI 1))],h10,(y11 ++ (y6 ++ x))⟩)
 (K .normal ⟨[(1,v1),(3,v3),(20,t12)],h10,(y11 ++ (y6 ++ x))⟩))
 (pK (oBin .eql v9 (AI 9)) fun t13=>
 condB t13 (pK (oFaddr 2 none v1) fun t14=>
 pK (oLoad none t14 h) fun t15=>
 pK (oFaddr 2 none v3) fun t16=>
 wK (oStore none t16 t15 h) fun t17 h18 y19=>
 pK (oFaddr 2 none v1) fun t20=>
 pK (oLoad none t20 h18) fun t21=>
 C f_q00w [t21,(AI 0),(AI 20000)] h18 fun t22 h23 y24=>
 pK (oUn .not t22) fun t25=>
 condB t25 (K .ret ⟨[(2,(AI 1))],h23,(y24 ++ (y19 ++ x))⟩)
 (K .normal ⟨[(1,v1),(3,v3),(29,t25)],h23,(y24 ++ (y19 ++ x))⟩))
 (pK (oBin .eql v9 (AI 3)) fun t26=>
 condB t26 (NW C gl q2 ⟨[(1,v1),(3,v3),(9,v9),(30,t26)],h,x⟩ K)
 (pK (oBin .eql v9 (AI 4)) fun t27=>
 condB t27 (NW C gl q2 ⟨[(1,v1),(3,v3),(9,v9),(30,t27)],h,x⟩ K)
 (pK (oBin .eql v9 (AI 5)) fun t28=>
 condB t28 (NW C gl q2 ⟨[(1,v1),(3,v3),(9,v9),(30,t28)],h,x⟩ K)
 (pK (oBin .eql v9 (AI 6)) fun t29=>
 NW C gl q2 ⟨[(1,v1),(3,v3),(9,v9),(30,t29)],h,x⟩ K)))))
theorem E_q00u_k3 {C gl q2 e h x K} : NW C gl (P_q00u_k3 q2) ⟨e,h,x⟩ K = d_q00u_k3 C gl q2 (aget e 1) (aget e 3) (aget e 9) (aget e 10) h x K:=by kernel_rfl
theorem e_q00u_k3 {C gl e h x K} : NW C gl p_q00u_k3 ⟨e,h,x⟩ K = d_q00u_k3 C gl p_q00u_k2 (aget e 1) (aget e 3) (aget e 9) (aget e 10) h x K:=E_q00u_k3
def p_q00u_k4 : ACode:=.pr [1,3] (.seq (.seq (rg [lD 65 (some 6) 1,
lD 66 (some 6) 3,
uO 67 (.eqa [0,0,0,2,2,2] true 65 66)] [67])
(.cond 67 (.seq (rg [mV 2 (cI 3)] [2])
.ret)
.skip))
(.seq (rg [mV 2 (cI 0)] [2])
.ret))
def d_q00u_k4 (C : Hd) (gl : GL) (v1 v3 : AV) (h : Heap) (x : Esc) (K : KT) : Prop:=
 pK (oLoad (some 6) v1 h) fun t1=>
 pK (oLoad (some 6) v3 h) fun t2=>
 pK (oEqa [0,0,0,2,2,2] true t1 t2) fun t3=>
 condB t3 (K .ret ⟨[(2,(AI 3))],h,x⟩)
 (K .ret ⟨[(2,(AI 0))],h,x⟩)
theorem e_q00u_k4 {C gl e h x K} : NW C gl p_q00u_k4 ⟨e,h,x⟩ K = d_q00u_k4 C gl (aget e 1) (aget e 3) h x K:=by kernel_rfl
def P_q00u (q3 q4 : ACode) : ACode:=(.seq (rg [uO 1 (.box 0),
mV 2 (cI 0)] [1])
(.seq (rg [fA 5 0 none 1,
lD 6 none 5,
uO 7 (.build [.p (.int .i64 0),.p (.int .i64 0),.p (.int .i64 0),.p (.str []),.p (.str []),.p (.str [])] [(0,1,6)]),
uO 3 (.alloc [.p (.int .i64 0),.p (.int .i64 0),.p (.int .i64 0),.p (.str []),.p (.str []),.p (.str [])]),
wO (.store (some 6) 3 7)] [1,3])
(.seq (.seq (rg [fA 8 0 none 1,
lD 9 none 8] [1,3,9])
(.block 0 (.seq (.seq (rg [bN 11 .eql 9 (cI 1),
mV 10 11] [1,3,9,10])
(.cond 10 .skip
(.seq (rg [bN 12 .eql 9 (cI 2),
mV 10 12] [1,3,9,10])
(.cond 10 .skip
(rg [bN 13 .eql 9 (cI 10),
mV 10 13] [1,3,9,10])))))
q3)))
q4)))
def a_q00u : AFun:=⟨1,[.t 2],P_q00u p_q00u_k3 p_q00u_k4,false,false⟩
def d_q00u (C : Hd) (gl : GL) (q3 q4 : ACode) (v0 : AV) (h : Heap) (x : Esc) (K : KT) : Prop:=
 wK (oBox v0 h) fun t1 h2 y3=>
 pK (oFaddr 0 none t1) fun t4=>
 pK (oLoad none t4 h2) fun t5=>
 pK (oBuild [.p (.int .i64 0),.p (.int .i64 0),.p (.int .i64 0),.p (.str []),.p (.str []),.p (.str [])] [(0,1,t5)]) fun t6=>
 alK [.p (.int .i64 0),.p (.int .i64 0),.p (.int .i64 0),.p (.str []),.p (.str []),.p (.str [])] h2 fun t7 h8 y9=>
 wK (oStore (some 6) t7 t6 h8) fun t10 h11 y12=>
 pK (oFaddr 0 none t1) fun t13=>
 pK (oLoad none t13 h11) fun t14=>
 pK (oBin .eql t14 (AI 1)) fun t15=>
 condB t15 (NW C gl q3 ⟨[(1,t1),(3,t7),(9,t14),(10,t15)],h11,(y12 ++ (y9 ++ (y3 ++ x)))⟩ (blockN 0 (seqN C gl q4 K)))
 (pK (oBin .eql t14 (AI 2)) fun t16=>
 condB t16 (NW C gl q3 ⟨[(1,t1),(3,t7),(9,t14),(10,t16)],h11,(y12 ++ (y9 ++ (y3 ++ x)))⟩ (blockN 0 (seqN C gl q4 K)))
 (pK (oBin .eql t14 (AI 10)) fun t17=>
 NW C gl q3 ⟨[(1,t1),(3,t7),(9,t14),(10,t17)],h11,(y12 ++ (y9 ++ (y3 ++ x)))⟩ (blockN 0 (seqN C gl q4 K))))
theorem E_q00u {C gl q3 q4 v0 h x K} : NW C gl (P_q00u q3 q4) ⟨enter [v0],h,x⟩ K = d_q00u C gl q3 q4 v0 h x K:=by kernel_rfl
theorem e_q00u {C gl v0 h x K} : NW C gl a_q00u.body ⟨enter [v0],h,x⟩ K = d_q00u C gl p_q00u_k3 p_q00u_k4 v0 h x K:=E_q00u
def p_q00z_k1 : ACode:=.pr [0,3,4,8,9] (.seq (rg [bN 10 .lss 9 8] [0,3,4,8,9,10])
(.seq (.cond 10 .skip
(.exit 0))
(.seq (.block 1 (.seq (rg [mV 11 9,
mV 5 11] [0,3,4,5,8,9])
(.seq (rg [mV 12 0,
mV 13 5,
mV 14 4,
cL 15 f_q00y [12,13,14],
uO 6 (.alloc [.p (.str []),.p (.str []),.p (.str []),.p (.int .i64 0),.p (.int .i64 0)]),
wO (.store (some 5) 6 15)] [0,3,6,8,9])
(dr [dF (mV 16 3) [3],
dF (lD 17 (some 5) 6) [6],
dF (uO 18 (.bsl false (some 5) 1 (.agg [.str [],.str [],.str [],.int .i64 0,.int .i64 0]) [(0,17)])) [17],
dT (uO 19 (.app (some 5) 16 18)) [16,18],
dF (fA 20 4 none 6) [6],
dA (lD 21 none 20) [20] false [3] [],
dF (mV 3 19) [19],
dF (mV 4 21) [21]] [0,3,4,8,9]))))
(rg [bN 22 .add 9 (cI 1),
mV 9 22] [0,3,4,8,9]))))
def d_q00z_k1 (C : Hd) (gl : GL) (v0 v3 v4 v8 v9 : AV) (h : Heap) (x : Esc) (K : KT) : Prop:=
 pK (oBin .lss v9 v8) fun t1=>
 condB t1 (C f_q00y [v0,v9,v4] h fun t2 h3 y4=>
 alK [.p (.str []),.p (.str []),.p (.str []),.p (.int .i64 0),.p (.int .i64 0)] h3 fun t5 h6 y7=>
 wK (oStore (some 5) t5 t2 h6) fun t8 h9 y10=>
 pK (oLoad (some 5) t5 h9) fun t11=>
 wK (oBsl false (some 5) 1 (.agg [.str [],.str [],.str [],.int .i64 0,.int .i64 0]) [(0,t11)] h9) fun t12 h13 y14=>
 (h13 = h9 ∧ y14 = []) ∧ (wK (oApp (some 5) v3 t12 h13) fun t15 h16 y17=>
 pK (oFaddr 4 none t5) fun t18=>
 pK (oLoad none t18 h16) fun t19=>
 (pK (oLoad none t18 h13) fun v=>(fun u (g1 : Heap) (y1 : Esc)=>u = t19 ∧ g1 = h13 ∧ y1 = []) v h13 []) ∧ (pK (oBin .add v9 (AI 1)) fun t20=>
 K .normal ⟨[(0,v0),(3,t15),(4,t19),(8,v8),(9,t20)],h16,(y17 ++ (y14 ++ (y10 ++ (y7 ++ (y4 ++ x)))))⟩)))
 (K (.exit 0) ⟨[(0,v0),(3,v3),(4,v4),(8,v8),(9,v9),(10,t1)],h,x⟩)
theorem e_q00z_k1 {C gl e h x K} : NW C gl p_q00z_k1 ⟨e,h,x⟩ K = d_q00z_k1 C gl (aget e 0) (aget e 3) (aget e 4) (aget e 8) (aget e 9) h x K:=by kernel_rfl
theorem l_q00z_k1 {C gl e h x K} : NW C gl (.loop (.scope p_q00z_k1)) ⟨e,h,x⟩ K = NLoop C gl (.scope p_q00z_k1) K [(0,aget e 0),(3,aget e 3),(4,aget e 4),(8,aget e 8),(9,aget e 9)] h x:=NLoop_sc
def p_q00z_k2 : ACode:=.pr [3] (.seq (rg [mV 23 3,
mV 2 23] [2])
.ret)
def d_q00z_k2 (C : Hd) (gl : GL) (v3 : AV) (h : Heap) (x : Esc) (K : KT) : Prop:=
 K .ret ⟨[(2,v3)],h,x⟩
theorem e_q00z_k2 {C gl e h x K} : NW C gl p_q00z_k2 ⟨e,h,x⟩ K = d_q00z_k2 C gl (aget e 3) h x K:=by kernel_rfl
def P_q00z (q1 q2 : ACode) : ACode:=(.seq (rg [mV 2 (.c (.p (.sl (some 5) [])))] [0])
(.seq (rg [uO 3 (.new0 (some 5))] [0,3])
(.seq (rg [mV 4 (cI 0)] [0,3,4])
(.seq (.seq (rg [mV 7 0,
lN 8 7,
mV 9 (cI 0)] [0,3,4,8,9])
(.block 0 (.loop (.scope q1))))
q2))))
def a_q00z : AFun:=⟨1,[.t 2],P_q00z p_q00z_k1 p_q00z_k2,false,false⟩
def d_q00z (C : Hd) (gl : GL) (q1 q2 : ACode) (v0 : AV) (h : Heap) (x : Esc) (K : KT) : Prop:=
 nwK (some 5) h fun t1 h2 y3=>
 pK (oLen v0) fun t4=>
 NW C gl (.loop (.scope q1)) ⟨[(0,v0),(3,t1),(4,(AI 0)),(8,t4),(9,(AI 0))],h2,(y3 ++ x)⟩ (blockN 0 (seqN C gl q2 K))
theorem E_q00z {C gl q1 q2 v0 h x K} : NW C gl (P_q00z q1 q2) ⟨enter [v0],h,x⟩ K = d_q00z C gl q1 q2 v0 h x K:=by kernel_rfl
theorem e_q00z {C gl v0 h x K} : NW C gl a_q00z.body ⟨enter [v0],h,x⟩ K = d_q00z C gl p_q00z_k1 p_q00z_k2 v0 h x K:=E_q00z
def P_q01b : ACode:=(.seq (rg [mV 4 (cI 0),
mV 5 (.c (.nili))] [0,1])
(.seq (rg [mV 6 0,
cL 7 f_q01c [6]] [0,1])
(.seq (rg [mV 8 0,
mV 9 0,
uO 10 (.nilchk 9),
fA 11 1 none 10,
lD 12 none 11,
mV 13 1,
uO 14 (.uns 3 5 [12,13]),
uO 15 (.nilchk 8),
fA 16 1 none 15,
wO (.store none 16 14)] [1])
(.seq (rg [mV 17 1,
uO 18 (.lens 17),
mV 4 18,
mV 5 (.c (.nili))] [4,5])
.ret))))
def a_q01b : AFun:=⟨2,[.t 4,.t 5],P_q01b,false,false⟩
def d_q01b (C : Hd) (gl : GL) (v0 v1 : AV) (h : Heap) (x : Esc) (K : KT) : Prop:=
 C f_q01c [v0] h fun t1 h2 y3=>
 pK (oNil v0) fun t4=>
 pK (oFaddr 1 none t4) fun t5=>
 pK (oLoad none t5 h2) fun t6=>
 wK (unsOp 3 5 [t6,v1] h2) fun t7 h8 y9=>
 pK (oNil v0) fun t10=>
 pK (oFaddr 1 none t10) fun t11=>
 wK (oStore none t11 t7 h8) fun t12 h13 y14=>
 pK (oLens v1) fun t15=>
 K .ret ⟨[(4,t15),(5,(.nili))],h13,(y14 ++ (y9 ++ (y3 ++ x)))⟩
theorem e_q01b {C gl v0 v1 h x K} : NW C gl a_q01b.body ⟨enter [v0,v1],h,x⟩ K = d_q01b C gl v0 v1 h x K:=by kernel_rfl
def P_q01a : ACode:=(.seq (rg [mV 2 (cS [])] [0])
(.seq (dr [dF (mV 3 0) [0],
dF (uO 4 (.nilchk 3)) [3],
dF (fA 5 1 none 4) [4],
dF (lD 6 none 5) [5],
dF (uO 7 (.uns 5 5 [6])) [6],
dF (mV 8 0) [0],
dF (uO 9 (.nilchk 8)) [8],
dF (fA 10 1 none 9) [9],
dF (lD 11 none 10) [10],
dF (uO 12 (.uns 4 0 [11])) [11],
dT (uO 13 (.uns 6 5 [7,12])) [7,12],
dF (mV 2 13) [13]] [2])
.ret))
def a_q01a : AFun:=⟨1,[.t 2],P_q01a,false,false⟩
def d_q01a (C : Hd) (gl : GL) (v0 : AV) (h : Heap) (x : Esc) (K : KT) : Prop:=
 pK (oNil v0) fun t1=>
 pK (oFaddr 1 none t1) fun t2=>
 pK (oLoad none t2 h) fun t3=>
 wK (unsOp 5 5 [t3] h) fun t4 h5 y6=>
 (h5 = h ∧ y6 = []) ∧ (pK (oNil v0) fun t7=>
 pK (oFaddr 1 none t7) fun t8=>
 pK (oLoad none t8 h5) fun t9=>
 wK (unsOp 4 0 [t9] h5) fun t10 h11 y12=>
 (h11 = h5 ∧ y12 = []) ∧ (wK (unsOp 6 5 [t4,t10] h11) fun t13 h14 y15=>
 K .ret ⟨[(2,t13)],h14,(y15 ++ (y12 ++ (y6 ++ x)))⟩))
theorem e_q01a {C gl v0 h x K} : NW C gl a_q01a.body ⟨enter [v0],h,x⟩ K = d_q01a C gl v0 h x K:=by kernel_rfl
def p_q00n_k1 : ACode:=.pr [0,5,9,10,11] (.seq (rg [bN 12 .lss 11 10] [0,5,9,10,11,12])
(.seq (.cond 12 .skip
(.exit 0))
(.seq (.block 1 (.seq (rg [iA 13 none 9 11,
lD 14 none 13,
mV 7 14] [0,5,7,9,10,11])
(.seq (rg [mV 15 0,
mV 16 7,
bN 17 .sub 16 (.c (.p (.int .u8 48))),
uO 18 (.conv (.i .i64) 17),
cL 19 f_q00o [15,18],
mV 0 19] [0,5,9,10,11])
(rg [mV 20 5,
mV 21 0,
uO 22 (.bsl false none 1 (.int .i64 0) [(0,21)]),
uO 23 (.app none 20 22),
mV 5 23] [0,5,9,10,11]))))
(rg [bN 24 .add 11 (cI 1),
mV 11 24] [0,5,9,10,11]))))
def d_q00n_k1 (C : Hd) (gl : GL) (v0 v5 v9 v10 v11 : AV) (h : Heap) (x : Esc) (K : KT) : Prop:=
 pK (oBin .lss v11 v10) fun t1=>
 condB t1 (pK (oIaddr none v9 v11 h) fun t2=>
 pK (oLoad none t2 h) fun t3=>
 pK (oBin .sub t3 (.p (.int .u8 48))) fun t4=>
 pK (oConvI .i64 t4) fun t5=>
 C f_q00o [v0,t5] h fun t6 h7 y8=>
 wK (oBsl false none 1 (.int .i64 0) [(0,t6)] h7) fun t9 h10 y11=>
 wK (oApp none v5 t9 h10) fun t12 h13 y14=>
 pK (oBin .add v11 (AI 1)) fun t15=>
 K .normal ⟨[(0,t6),(5,t12),(9,v9),(10,v10),(11,t15)],h13,(y14 ++ (y11 ++ (y8 ++ x)))⟩)
 (K (.exit 0) ⟨[(0,v0),(5,v5),(9,v9),(10,v10),(11,v11),(12,t1)],h,x⟩)
theorem e_q00n_k1 {C gl e h x K} : NW C gl p_q00n_k1 ⟨e,h,x⟩ K = d_q00n_k1 C gl (aget e 0) (aget e 5) (aget e 9) (aget e 10) (aget e 11) h x K:=by kernel_rfl
theorem l_q00n_k1 {C gl e h x K} : NW C gl (.loop (.scope p_q00n_k1)) ⟨e,h,x⟩ K = NLoop C gl (.scope p_q00n_k1) K [(0,aget e 0),(5,aget e 5),(9,aget e 9),(10,aget e 10),(11,aget e 11)] h x:=NLoop_sc
def p_q00n_k2 : ACode:=.pr [5] (.seq (rg [mV 25 5,
mV 4 25] [4])
.ret)
def d_q00n_k2 (C : Hd) (gl : GL) (v5 : AV) (h : Heap) (x : Esc) (K : KT) : Prop:=
 K .ret ⟨[(4,v5)],h,x⟩
theorem e_q00n_k2 {C gl e h x K} : NW C gl p_q00n_k2 ⟨e,h,x⟩ K = d_q00n_k2 C gl (aget e 5) h x K:=by kernel_rfl
def P_q00n (q1 q2 : ACode) : ACode:=(.seq (rg [mV 4 (.c (.p (.sl none [])))] [0,1])
(.seq (rg [uO 5 (.new0 none)] [0,1,5])
(.seq (.seq (rg [mV 8 1,
uO 9 (.conv .s2b 8),
lN 10 9,
mV 11 (cI 0)] [0,5,9,10,11])
(.block 0 (.loop (.scope q1))))
q2)))
def a_q00n : AFun:=⟨2,[.t 4],P_q00n p_q00n_k1 p_q00n_k2,false,false⟩
def d_q00n (C : Hd) (gl : GL) (q1 q2 : ACode) (v0 v1 : AV) (h : Heap) (x : Esc) (K : KT) : Prop:=
 nwK none h fun t1 h2 y3=>
 wK (oConv .s2b v1 h2) fun t4 h5 y6=>
 pK (oLen t4) fun t7=>
 NW C gl (.loop (.scope q1)) ⟨[(0,v0),(5,t1),(9,t4),(10,t7),(11,(AI 0))],h5,(y6 ++ (y3 ++ x))⟩ (blockN 0 (seqN C gl q2 K))
theorem E_q00n {C gl q1 q2 v0 v1 h x K} : NW C gl (P_q00n q1 q2) ⟨enter [v0,v1],h,x⟩ K = d_q00n C gl q1 q2 v0 v1 h x K:=by kernel_rfl
theorem e_q00n {C gl v0 v1 h x K} : NW C gl a_q00n.body ⟨enter [v0,v1],h,x⟩ K = d_q00n C gl p_q00n_k1 p_q00n_k2 v0 v1 h x K:=E_q00n
def P_q001 : ACode:=(.seq (rg [mV 6 cF] [0,1,2])
(.seq (rg [mV 7 0,
mV 8 1,
bN 9 .lss 7 8,
mV 10 9,
gD 11 10 false (.mv 0),
gD 12 10 false (.mv 2),
gD 13 10 false (.bin .gtr 11 12),
uO 14 (.pick 10 cT 13),
mV 6 14] [6])
.ret))
def a_q001 : AFun:=⟨3,[.t 6],P_q001,false,false⟩
def d_q001 (C : Hd) (gl : GL) (v0 v1 v2 : AV) (h : Heap) (x : Esc) (K : KT) : Prop:=
 pK (oBin .lss v0 v1) fun t1=>
 gM t1 false v0 h fun t2 h3 y4=>
 gM t1 false v2 h3 fun t5 h6 y7=>
 gP t1 false (oBin .gtr t2 t5) h6 fun t8 h9 y10=>
 pK (oPick t1 (AB true) t8) fun t11=>
 K .ret ⟨[(6,t11)],h9,(y10 ++ (y7 ++ (y4 ++ x)))⟩
theorem e_q001 {C gl v0 v1 v2 h x K} : NW C gl a_q001.body ⟨enter [v0,v1,v2],h,x⟩ K = d_q001 C gl v0 v1 v2 h x K:=by kernel_rfl
def p_q02a_k1 : ACode:=.pr [2,4] (.seq (rg [lD 56 (some 6) 4,
wO (.store (some 6) 2 56),
mV 3 (cI 0)] [2,3])
.ret)
def d_q02a_k1 (C : Hd) (gl : GL) (v2 v4 : AV) (h : Heap) (x : Esc) (K : KT) : Prop:=
 pK (oLoad (some 6) v4 h) fun t1=>
 wK (oStore (some 6) v2 t1 h) fun t2 h3 y4=>
 K .ret ⟨[(2,v2),(3,(AI 0))],h3,(y4 ++ x)⟩
theorem e_q02a_k1 {C gl e h x K} : NW C gl p_q02a_k1 ⟨e,h,x⟩ K = d_q02a_k1 C gl (aget e 2) (aget e 4) h x K:=by kernel_rfl
def P_q02a (q1 : ACode) : ACode:=(.seq (rg [uO 1 (.box 0),
uO 2 (.alloc [.p (.int .i64 0),.p (.int .i64 0),.p (.int .i64 0),.p (.str []),.p (.str []),.p (.str [])]),
mV 3 (cI 0)] [1,2])
(.seq (rg [lD 5 (some 6) 1,
uO 4 (.alloc [.p (.int .i64 0),.p (.int .i64 0),.p (.int .i64 0),.p (.str []),.p (.str []),.p (.str [])]),
wO (.store (some 6) 4 5)] [1,2,4])
(.seq (.block 0 (.seq (rg [fA 18 0 none 1,
lD 19 none 18,
bN 20 .eql 19 (cI 1),
mV 21 20,
gD 22 21 false (.faddr 0 none 1),
gD 23 21 false (.load none 22),
gD 24 21 false (.bin .eql 23 (cI 2)),
uO 25 (.pick 21 cT 24),
mV 26 25,
gD 27 26 false (.faddr 0 none 1),
gD 28 26 false (.load none 27),
gD 29 26 false (.bin .eql 28 (cI 10)),
uO 30 (.pick 26 cT 29),
mV 17 30] [1,2,4,17])
(.cond 17 (.seq (rg [fA 31 1 none 4,
wO (.store none 31 (cI 0))] [1,2,4])
(.seq (rg [fA 32 1 none 1,
lD 33 none 32,
cL 34 f_q02j [33],
uO 35 (.un .not 34)] [2,4,35])
(.cond 35 (.seq (rg [lD 36 (some 6) 4,
wO (.store (some 6) 2 36),
mV 3 (cI 1)] [2,3])
.ret)
.skip)))
(.seq (rg [fA 38 0 none 1,
lD 39 none 38,
bN 40 .eql 39 (cI 9),
mV 37 40] [1,2,4,37])
(.cond 37 (.seq (rg [fA 41 2 none 4,
wO (.store none 41 (cI 0))] [1,2,4])
(.seq (rg [fA 42 2 none 1,
lD 43 none 42,
cL 44 f_q001 [43,(cI 0),(cI 20000)]] [2,4,44])
(.cond 44 (.seq (rg [lD 45 (some 6) 4,
wO (.store (some 6) 2 45),
mV 3 (cI 1)] [2,3])
.ret)
.skip)))
(.seq (rg [fA 47 0 none 1,
lD 48 none 47,
cL 49 f_q028 [48],
mV 46 49] [1,2,4,46])
(.cond 46 (.seq (rg [fA 50 3 none 4,
wO (.store none 50 (cS [])),
fA 51 4 none 4,
wO (.store none 51 (cS [])),
fA 52 5 none 4,
wO (.store none 52 (cS []))] [1,2,4])
(.seq (dr [dF (lD 53 (some 6) 4) [4],
dF (lD 54 (some 6) 1) [1],
dA (cL 55 f_q02g [54]) [54] true [] [0],
dT (wO (.store (some 6) 2 53)) [2,53],
dF (mV 3 55) [55]] [2,3])
.ret))
(.seq (rg [fA 6 3 none 4,
wO (.store none 6 (cS []))] [1,2,4])
(.seq (.seq (rg [fA 7 3 none 1,
lD 8 none 7,
cL 9 f_q000 [8],
uO 10 (.un .not 9)] [1,2,4,10])
(.cond 10 (.seq (rg [lD 11 (some 6) 4,
wO (.store (some 6) 2 11),
mV 3 (cI 9)] [2,3])
.ret)
.skip))
(.seq (rg [fA 12 3 none 1,
lD 13 none 12,
uO 14 (.lens 13),
bN 15 .gtr 14 (cI 2000)] [2,4,15])
(.cond 15 (.seq (rg [lD 16 (some 6) 4,
wO (.store (some 6) 2 16),
mV 3 (cI 2)] [2,3])
.ret)
.skip)))))))))))
q1)))
def a_q02a : AFun:=⟨1,[.cell 2 (some 6),.t 3],P_q02a p_q02a_k1,false,false⟩
def d_q02a (C : Hd) (gl : GL) (q1 : ACode) (v0 : AV) (h : Heap) (x : Esc) (K : KT) : Prop:=
 wK (oBox v0 h) fun t1 h2 y3=>
 alK [.p (.int .i64 0),.p (.int .i64 0),.p (.int .i64 0),.p (.str []),.p (.str []),.p (.str [])] h2 fun t4 h5 y6=>
 pK (oLoad (some 6) t1 h5) fun t7=>
 alK [.p (.int .i64 0),.p (.int .i64 0),.p (.int .i64 0),.p (.str []),.p (.str []),.p (.str [])] h5 fun t8 h9 y10=>
 wK (oStore (some 6) t8 t7 h9) fun t11 h12 y13=>
 pK (oFaddr 0 none t1) fun t14=>
 pK (oLoad none t14 h12) fun t15=>
 pK (oBin .eql t15 (AI 1)) fun t16=>
 gP t16 false (oFaddr 0 none t1) h12 fun t17 h18 y19=>
 gP t16 false (oLoad none t17 h18) h18 fun t20 h21 y22=>
 gP t16 false (oBin .eql t20 (AI 2)) h21 fun t23 h24 y25=>
 pK (oPick t16 (AB true) t23) fun t26=>
 gP t26 false (oFaddr 0 none t1) h24 fun t27 h28 y29=>
 gP t26 false (oLoad none t27 h28) h28 fun t30 h31 y32=>
 gP t26 false (oBin .eql t30 (AI 10)) h31 fun t33 h34 y35=>
 pK (oPick t26 (AB true) t33) fun t36=>
 condB t36 (pK (oFaddr 1 none t8) fun t37=>
 wK (oStore none t37 (AI 0) h34) fun t38 h39 y40=>
 pK (oFaddr 1 none t1) fun t41=>
 pK (oLoad none t41 h39) fun t42=>
 C f_q02j [t42] h39 fun t43 h44 y45=>
 pK (oUn .not t43) fun t46=>
 condB t46 (pK (oLoad (some 6) t8 h44) fun t47=>
 wK (oStore (some 6) t4 t47 h44) fun t48 h49 y50=>
 K .ret ⟨[(2,t4),(3,(AI 1))],h49,(y50 ++ (y45 ++ (y40 ++ (y35 ++ (y32 ++ (y29 ++ (y25 ++ (y22 ++ (y19 ++ (y13 ++ (y10 ++ (y6 ++ (y3 ++ x)))))))))))))⟩)
 (NW C gl q1 ⟨[(2,t4),(4,t8),(35,t46)],h44,(y45 ++ (y40 ++ (y35 ++ (y32 ++ (y29 ++ (y25 ++ (y22 ++ (y19 ++ (y13 ++ (y10 ++ (y6 ++ (y3 ++ x))))))))))))⟩ K))
 (pK (oFaddr 0 none t1) fun t51=>
 pK (oLoad none t51 h34) fun t52=>
 pK (oBin .eql t52 (AI 9)) fun t53=>
 condB t53 (pK (oFaddr 2 none t8) fun t54=>
 wK (oStore none t54 (AI 0) h34) fun t55 h56 y57=>
 pK (oFaddr 2 none t1) fun t58=>
 pK (oLoad none t58 h56) fun t59=>
 C f_q001 [t59,(AI 0),(AI 20000)] h56 fun t60 h61 y62=>
 condB t60 (pK (oLoad (some 6) t8 h61) fun t63=>
 wK (oStore (some 6) t4 t63 h61) fun t64 h65 y66=>
 K .ret ⟨[(2,t4),(3,(AI 1))],h65,(y66 ++ (y62 ++ (y57 ++ (y35 ++ (y32 ++ (y29 ++ (y25 ++ (y22 ++ (y19 ++ (y13 ++ (y10 ++ (y6 ++ (y3 ++ x)))))))))))))⟩)
 (NW C gl q1 ⟨[(2,t4),(4,t8),(44,t60)],h61,(y62 ++ (y57 ++ (y35 ++ (y32 ++ (y29 ++ (y25 ++ (y22 ++ (y19 ++ (y13 ++ (y10 ++ (y6 ++ (y3 ++ x))))))))))))⟩ K))
 (pK (oFaddr 0 none t1) fun t67=>
 pK (oLoad none t67 h34) fun t68=>
 C f_q028 [t68] h34 fun t69 h70 y71=>
 condB t69 (pK (oFaddr 3 none t8) fun t72=>
 wK (oStore none t72 (.p (.str [])) h70) fun t73 h74 y75=>
 pK (oFaddr 4 none t8) fun t76=>
 wK (oStore none t76 (.p (.str [])) h74) fun t77 h78 y79=>
 pK (oFaddr 5 none t8) fun t80=>
 wK (oStore none t80 (.p (.str [])) h78) fun t81 h82 y83=>
 pK (oLoad (some 6) t8 h82) fun t84=>
 pK (oLoad (some 6) t1 h82) fun t85=>
 callE C f_q02g [t85] h82 fun t86 h87 y88=>
 (pK (oLoad (some 6) t8 h87) fun v=>(fun u (g1 : Heap) (y1 : Esc)=>u = t84 ∧ g1 = h87 ∧ y1 = []) v h87 []) ∧ (wK (oStore (some 6) t4 t84 h87) fun t89 h90 y91=>
 K .ret ⟨[(2,t4),(3,t86)],h90,(y91 ++ (y88 ++ (y83 ++ (y79 ++ (y75 ++ (y71 ++ (y35 ++ (y32 ++ (y29 ++ (y25 ++ (y22 ++ (y19 ++ (y13 ++ (y10 ++ (y6 ++ (y3 ++ x))))))))))))))))⟩))
 (pK (oFaddr 3 none t8) fun t92=>
 wK (oStore none t92 (.p (.str [])) h70) fun t93 h94 y95=>
 pK (oFaddr 3 none t1) fun t96=>
 pK (oLoad none t96 h94) fun t97=>
 C f_q000 [t97] h94 fun t98 h99 y100=>
 pK (oUn .not t98) fun t101=>
 condB t101 (pK (oLoad (some 6) t8 h99) fun t102=>
 wK (oStore (some 6) t4 t102 h99) fun t103 h104 y105=>
 K .ret ⟨[(2,t4),(3,(AI 9))],h104,(y105 ++ (y100 ++ (y95 ++ (y71 ++ (y35 ++ (y32 ++ (y29 ++ (y25 ++ (y22 ++ (y19 ++ (y13 ++ (y10 ++ (y6 ++ (y3 ++ x))))))))))))))⟩)
 (pK (oFaddr 3 none t1) fun t106=>
 pK (oLoad none t106 h99) fun t107=>
 pK (oLens t107) fun t108=>
 pK (oBin .gtr t108 (AI 2000)) fun t109=>
 condB t109 (pK (oLoad (some 6) t8 h99) fun t110=>
 wK (oStore (some 6) t4 t110 h99) fun t111 h112 y113=>
 K .ret ⟨[(2,t4),(3,(AI 2))],h112,(y113 ++ (y100 ++ (y95 ++ (y71 ++ (y35 ++ (y32 ++ (y29 ++ (y25 ++ (y22 ++ (y19 ++ (y13 ++ (y10 ++ (y6 ++ (y3 ++ x))))))))))))))⟩)
 (NW C gl q1 ⟨[(2,t4),(4,t8),(15,t109)],h99,(y100 ++ (y95 ++ (y71 ++ (y35 ++ (y32 ++ (y29 ++ (y25 ++ (y22 ++ (y19 ++ (y13 ++ (y10 ++ (y6 ++ (y3 ++ x)))))))))))))⟩ K)))))
theorem E_q02a {C gl q1 v0 h x K} : NW C gl (P_q02a q1) ⟨enter [v0],h,x⟩ K = d_q02a C gl q1 v0 h x K:=by kernel_rfl
theorem e_q02a {C gl v0 h x K} : NW C gl a_q02a.body ⟨enter [v0],h,x⟩ K = d_q02a C gl p_q02a_k1 v0 h x K:=E_q02a
def p_q00l_k1 : ACode:=.pr [0,5,6,7] (.seq (rg [bN 8 .lss 7 6] [0,5,6,7,8])
(.seq (.cond 8 .skip
(.exit 0))
(.seq (.block 1 (rg [mV 9 5,
mV 10 0,
uO 11 (.bsl false none 2 (.str []) [(0,(cS [48])),(1,(cS [49]))]),
cL 12 f_q00k [10,11],
bN 13 .add 9 12,
mV 5 13] [0,5,6,7]))
(rg [bN 14 .add 7 (cI 1),
mV 7 14] [0,5,6,7]))))
def d_q00l_k1 (C : Hd) (gl : GL) (v0 v5 v6 v7 : AV) (h : Heap) (x : Esc) (K : KT) : Prop:=
 pK (oBin .lss v7 v6) fun t1=>
 condB t1 (wK (oBsl false none 2 (.str []) [(0,(.p (.str [48]))),(1,(.p (.str [49])))] h) fun t2 h3 y4=>
 C f_q00k [v0,t2] h3 fun t5 h6 y7=>
 pK (oBin .add v5 t5) fun t8=>
 pK (oBin .add v7 (AI 1)) fun t9=>
 K .normal ⟨[(0,v0),(5,t8),(6,v6),(7,t9)],h6,(y7 ++ (y4 ++ x))⟩)
 (K (.exit 0) ⟨[(0,v0),(5,v5),(6,v6),(7,v7),(8,t1)],h,x⟩)
theorem e_q00l_k1 {C gl e h x K} : NW C gl p_q00l_k1 ⟨e,h,x⟩ K = d_q00l_k1 C gl (aget e 0) (aget e 5) (aget e 6) (aget e 7) h x K:=by kernel_rfl
theorem l_q00l_k1 {C gl e h x K} : NW C gl (.loop p_q00l_k1) ⟨e,h,x⟩ K = NLoop C gl p_q00l_k1 K [(0,aget e 0),(5,aget e 5),(6,aget e 6),(7,aget e 7)] h x:=NLoop_pr
def p_q00l_k2 : ACode:=.pr [5] (.seq (rg [mV 15 5,
mV 4 15] [4])
.ret)
def d_q00l_k2 (C : Hd) (gl : GL) (v5 : AV) (h : Heap) (x : Esc) (K : KT) : Prop:=
 K .ret ⟨[(4,v5)],h,x⟩
theorem e_q00l_k2 {C gl e h x K} : NW C gl p_q00l_k2 ⟨e,h,x⟩ K = d_q00l_k2 C gl (aget e 5) h x K:=by kernel_rfl
def P_q00l (q1 q2 : ACode) : ACode:=(.seq (rg [mV 4 (cS [])] [0,1])
(.seq (rg [mV 5 (cS [])] [0,1,5])
(.seq (.seq (rg [mV 6 1,
mV 7 (cI 0)] [0,5,6,7])
(.block 0 (.loop q1)))
q2)))
def a_q00l : AFun:=⟨2,[.t 4],P_q00l p_q00l_k1 p_q00l_k2,false,false⟩
def d_q00l (C : Hd) (gl : GL) (q1 q2 : ACode) (v0 v1 : AV) (h : Heap) (x : Esc) (K : KT) : Prop:=
 NW C gl (.loop q1) ⟨[(0,v0),(5,(.p (.str []))),(6,v1),(7,(AI 0))],h,x⟩ (blockN 0 (seqN C gl q2 K))
theorem E_q00l {C gl q1 q2 v0 v1 h x K} : NW C gl (P_q00l q1 q2) ⟨enter [v0,v1],h,x⟩ K = d_q00l C gl q1 q2 v0 v1 h x K:=by kernel_rfl
theorem e_q00l {C gl v0 v1 h x K} : NW C gl a_q00l.body ⟨enter [v0,v1],h,x⟩ K = d_q00l C gl p_q00l_k1 p_q00l_k2 v0 v1 h x K:=E_q00l
def P_q00h : ACode:=(.seq (rg [mV 6 (cI 0)] [0,1,2])
(.seq (.seq (rg [mV 7 0,
cL 8 f_q00f [7,(cI 12)]] [0,1,2,8])
(.cond 8 (.seq (rg [mV 9 0,
mV 10 1,
bN 11 .sub 10 (cI 1),
mV 12 2,
bN 13 .add 12 (cI 1),
mV 14 1,
mV 15 2,
uO 16 (.bsl false none 6 (.int .i64 0) [(0,11),(1,13),(2,14),(3,15),(4,(cI (-1099511627776))),(5,(cI 1099511627776))]),
cL 17 f_q00i [9,16],
mV 6 17] [6])
.ret)
.skip))
(.seq (rg [mV 18 0,
mV 19 1,
mV 20 2,
cL 21 f_q00j [18,19,20],
mV 6 21] [6])
.ret)))
def a_q00h : AFun:=⟨3,[.t 6],P_q00h,false,false⟩
def d_q00h (C : Hd) (gl : GL) (v0 v1 v2 : AV) (h : Heap) (x : Esc) (K : KT) : Prop:=
 C f_q00f [v0,(AI 12)] h fun t1 h2 y3=>
 condB t1 (pK (oBin .sub v1 (AI 1)) fun t4=>
 pK (oBin .add v2 (AI 1)) fun t5=>
 wK (oBsl false none 6 (.int .i64 0) [(0,t4),(1,t5),(2,v1),(3,v2),(4,(AI (-1099511627776))),(5,(AI 1099511627776))] h2) fun t6 h7 y8=>
 C f_q00i [v0,t6] h7 fun t9 h10 y11=>
 K .ret ⟨[(6,t9)],h10,(y11 ++ (y8 ++ (y3 ++ x)))⟩)
 (C f_q00j [v0,v1,v2] h2 fun t12 h13 y14=>
 K .ret ⟨[(6,t12)],h13,(y14 ++ (y3 ++ x))⟩)
theorem e_q00h {C gl v0 v1 v2 h x K} : NW C gl a_q00h.body ⟨enter [v0,v1,v2],h,x⟩ K = d_q00h C gl v0 v1 v2 h x K:=by kernel_rfl
def P_q00k : ACode:=(.seq (rg [mV 4 (cS [])] [0,1])
(.seq (rg [mV 5 1,
mV 6 0,
mV 7 1,
lN 8 7,
cL 9 f_q00g [6,8],
iA 10 none 5 9,
lD 11 none 10,
mV 4 11] [4])
.ret))
def a_q00k : AFun:=⟨2,[.t 4],P_q00k,false,false⟩
def d_q00k (C : Hd) (gl : GL) (v0 v1 : AV) (h : Heap) (x : Esc) (K : KT) : Prop:=
 pK (oLen v1) fun t1=>
 C f_q00g [v0,t1] h fun t2 h3 y4=>
 pK (oIaddr none v1 t2 h3) fun t5=>
 pK (oLoad none t5 h3) fun t6=>
 K .ret ⟨[(4,t6)],h3,(y4 ++ x)⟩
theorem e_q00k {C gl v0 v1 h x K} : NW C gl a_q00k.body ⟨enter [v0,v1],h,x⟩ K = d_q00k C gl v0 v1 h x K:=by kernel_rfl
def p_q00c_k1 : ACode:=.pr [0] (.seq (rg [mV 15 0,
mV 4 15] [4])
.ret)
def d_q00c_k1 (C : Hd) (gl : GL) (v0 : AV) (h : Heap) (x : Esc) (K : KT) : Prop:=
 K .ret ⟨[(4,v0)],h,x⟩
theorem e_q00c_k1 {C gl e h x K} : NW C gl p_q00c_k1 ⟨e,h,x⟩ K = d_q00c_k1 C gl (aget e 0) h x K:=by kernel_rfl
def P_q00c (q1 : ACode) : ACode:=(.seq (rg [mV 4 (cI 0)] [0,1])
(.seq (.seq (rg [mV 5 1,
bN 6 .lss 5 (cI 1)] [0,1,6])
(.cond 6 (.seq (rg [mV 4 (cI 0)] [4])
.ret)
.skip))
(.seq (rg [mV 7 0,
mV 8 1,
bN 9 .rem 7 8,
mV 0 9] [0,1])
(.seq (.seq (rg [mV 10 0,
bN 11 .lss 10 (cI 0)] [0,1,11])
(.cond 11 (rg [mV 12 0,
mV 13 1,
bN 14 .add 12 13,
mV 0 14] [0])
.skip))
q1))))
def a_q00c : AFun:=⟨2,[.t 4],P_q00c p_q00c_k1,false,false⟩
def d_q00c (C : Hd) (gl : GL) (q1 : ACode) (v0 v1 : AV) (h : Heap) (x : Esc) (K : KT) : Prop:=
 pK (oBin .lss v1 (AI 1)) fun t1=>
 condB t1 (K .ret ⟨[(4,(AI 0))],h,x⟩)
 (pK (oBin .rem v0 v1) fun t2=>
 pK (oBin .lss t2 (AI 0)) fun t3=>
 condB t3 (pK (oBin .add t2 v1) fun t4=>
 NW C gl q1 ⟨[(0,t4)],h,x⟩ K)
 (NW C gl q1 ⟨[(0,t2),(1,v1),(11,t3)],h,x⟩ K))
theorem E_q00c {C gl q1 v0 v1 h x K} : NW C gl (P_q00c q1) ⟨enter [v0,v1],h,x⟩ K = d_q00c C gl q1 v0 v1 h x K:=by kernel_rfl
theorem e_q00c {C gl v0 v1 h x K} : NW C gl a_q00c.body ⟨enter [v0,v1],h,x⟩ K = d_q00c C gl p_q00c_k1 v0 v1 h x K:=E_q00c
def P_q02k : ACode:=(.seq (rg [uO 0 (.alloc [.p (.int .i64 0),.p (.int .i64 0),.p (.int .i64 0),.p (.str []),.p (.str []),.p (.str []),.p (.int .i64 0),.p (.int .i64 0),.p (.int .i64 0),.p (.str []),.p (.str []),.p (.str []),.p (.int .i64 0),.p (.int .i64 0),.p (.int .i64 0),.p (.str []),.p (.str []),.p (.str []),.p (.int .i64 0),.p (.int .i64 0),.p (.int .i64 0),.p (.str []),.p (.str []),.p (.str []),.p (.int .i64 0),.p (.int .i64 0),.p (.int .i64 0),.p (.str []),.p (.str []),.p (.str []),.p (.int .i64 0),.p (.int .i64 0),.p (.int .i64 0),.p (.str []),.p (.str []),.p (.str [])])] [0])
(.seq (rg [uO 1 (.build [.p (.int .i64 0),.p (.int .i64 0),.p (.int .i64 0),.p (.str []),.p (.str []),.p (.str [])] [(0,1,(cI 1)),(1,1,(cI 1))]),
uO 2 (.build [.p (.int .i64 0),.p (.int .i64 0),.p (.int .i64 0),.p (.str []),.p (.str []),.p (.str [])] [(0,1,(cI 2)),(1,1,(cI 1))]),
uO 3 (.build [.p (.int .i64 0),.p (.int .i64 0),.p (.int .i64 0),.p (.str []),.p (.str []),.p (.str [])] [(0,1,(cI 3))]),
uO 4 (.build [.p (.int .i64 0),.p (.int .i64 0),.p (.int .i64 0),.p (.str []),.p (.str []),.p (.str [])] [(0,1,(cI 4))]),
uO 5 (.build [.p (.int .i64 0),.p (.int .i64 0),.p (.int .i64 0),.p (.str []),.p (.str []),.p (.str [])] [(0,1,(cI 5))]),
uO 6 (.build [.p (.int .i64 0),.p (.int .i64 0),.p (.int .i64 0),.p (.str []),.p (.str []),.p (.str [])] [(0,1,(cI 6))]),
uO 7 (.build [.p (.int .i64 0),.p (.int .i64 0),.p (.int .i64 0),.p (.str []),.p (.str []),.p (.str []),.p (.int .i64 0),.p (.int .i64 0),.p (.int .i64 0),.p (.str []),.p (.str []),.p (.str []),.p (.int .i64 0),.p (.int .i64 0),.p (.int .i64 0),.p (.str []),.p (.str []),.p (.str []),.p (.int .i64 0),.p (.int .i64 0),.p (.int .i64 0),.p (.str []),.p (.str []),.p (.str []),.p (.int .i64 0),.p (.int .i64 0),.p (.int .i64 0),.p (.str []),.p (.str []),.p (.str []),.p (.int .i64 0),.p (.int .i64 0),.p (.int .i64 0),.p (.str []),.p (.str []),.p (.str [])] [(0,6,1),(6,6,2),(12,6,3),(18,6,4),(24,6,5),(30,6,6)]),
wO (.store (some 36) 0 7)] [0])
.ret))
def a_q02k : AFun:=⟨0,[.cell 0 (some 36)],P_q02k,false,false⟩
def d_q02k (C : Hd) (gl : GL) (h : Heap) (x : Esc) (K : KT) : Prop:=
 alK [.p (.int .i64 0),.p (.int .i64 0),.p (.int .i64 0),.p (.str []),.p (.str []),.p (.str []),.p (.int .i64 0),.p (.int .i64 0),.p (.int .i64 0),.p (.str []),.p (.str []),.p (.str []),.p (.int .i64 0),.p (.int .i64 0),.p (.int .i64 0),.p (.str []),.p (.str []),.p (.str []),.p (.int .i64 0),.p (.int .i64 0),.p (.int .i64 0),.p (.str []),.p (.str []),.p (.str []),.p (.int .i64 0),.p (.int .i64 0),.p (.int .i64 0),.p (.str []),.p (.str []),.p (.str []),.p (.int .i64 0),.p (.int .i64 0),.p (.int .i64 0),.p (.str []),.p (.str []),.p (.str [])] h fun t1 h2 y3=>
 pK (oBuild [.p (.int .i64 0),.p (.int .i64 0),.p (.int .i64 0),.p (.str []),.p (.str []),.p (.str [])] [(0,1,(AI 1)),(1,1,(AI 1))]) fun t4=>
 pK (oBuild [.p (.int .i64 0),.p (.int .i64 0),.p (.int .i64 0),.p (.str []),.p (.str []),.p (.str [])] [(0,1,(AI 2)),(1,1,(AI 1))]) fun t5=>
 pK (oBuild [.p (.int .i64 0),.p (.int .i64 0),.p (.int .i64 0),.p (.str []),.p (.str []),.p (.str [])] [(0,1,(AI 3))]) fun t6=>
 pK (oBuild [.p (.int .i64 0),.p (.int .i64 0),.p (.int .i64 0),.p (.str []),.p (.str []),.p (.str [])] [(0,1,(AI 4))]) fun t7=>
 pK (oBuild [.p (.int .i64 0),.p (.int .i64 0),.p (.int .i64 0),.p (.str []),.p (.str []),.p (.str [])] [(0,1,(AI 5))]) fun t8=>
 pK (oBuild [.p (.int .i64 0),.p (.int .i64 0),.p (.int .i64 0),.p (.str []),.p (.str []),.p (.str [])] [(0,1,(AI 6))]) fun t9=>
 pK (oBuild [.p (.int .i64 0),.p (.int .i64 0),.p (.int .i64 0),.p (.str []),.p (.str []),.p (.str []),.p (.int .i64 0),.p (.int .i64 0),.p (.int .i64 0),.p (.str []),.p (.str []),.p (.str []),.p (.int .i64 0),.p (.int .i64 0),.p (.int .i64 0),.p (.str []),.p (.str []),.p (.str []),.p (.int .i64 0),.p (.int .i64 0),.p (.int .i64 0),.p (.str []),.p (.str []),.p (.str []),.p (.int .i64 0),.p (.int .i64 0),.p (.int .i64 0),.p (.str []),.p (.str []),.p (.str []),.p (.int .i64 0),.p (.int .i64 0),.p (.int .i64 0),.p (.str []),.p (.str []),.p (.str [])] [(0,6,t4),(6,6,t5),(12,6,t6),(18,6,t7),(24,6,t8),(30,6,t9)]) fun t10=>
 wK (oStore (some 36) t1 t10 h2) fun t11 h12 y13=>
 K .ret ⟨[(0,t1)],h12,(y13 ++ (y3 ++ x))⟩
theorem e_q02k {C gl h x K} : NW C gl a_q02k.body ⟨enter [],h,x⟩ K = d_q02k C gl h x K:=by kernel_rfl
def p_q02e_k1 : ACode:=.pr [0,4,35,36] (.seq (rg [bN 37 .lss 36 35] [0,4,35,36,37])
(.seq (.cond 37 .skip
(.exit 1))
(.seq (.block 2 (rg [mV 38 0,
cL 39 f_q02c [38,(.c (.p (.int .u8 48))),(.c (.p (.int .u8 48))),(.c (.p (.int .u8 120)))]] [0,4,35,36]))
(rg [bN 40 .add 36 (cI 1),
mV 36 40] [0,4,35,36]))))
def d_q02e_k1 (C : Hd) (gl : GL) (v0 v4 v35 v36 : AV) (h : Heap) (x : Esc) (K : KT) : Prop:=
 pK (oBin .lss v36 v35) fun t1=>
 condB t1 (C f_q02c [v0,(.p (.int .u8 48)),(.p (.int .u8 48)),(.p (.int .u8 120))] h fun t2 h3 y4=>
 pK (oBin .add v36 (AI 1)) fun t5=>
 K .normal ⟨[(0,v0),(4,v4),(35,v35),(36,t5)],h3,(y4 ++ x)⟩)
 (K (.exit 1) ⟨[(0,v0),(4,v4),(35,v35),(36,v36),(37,t1)],h,x⟩)
theorem e_q02e_k1 {C gl e h x K} : NW C gl p_q02e_k1 ⟨e,h,x⟩ K = d_q02e_k1 C gl (aget e 0) (aget e 4) (aget e 35) (aget e 36) h x K:=by kernel_rfl
theorem l_q02e_k1 {C gl e h x K} : NW C gl (.loop p_q02e_k1) ⟨e,h,x⟩ K = NLoop C gl p_q02e_k1 K [(0,aget e 0),(4,aget e 4),(35,aget e 35),(36,aget e 36)] h x:=NLoop_pr
def p_q02e_k2 : ACode:=.pr [0,4] (.seq (dr [dF (mV 41 0) [0],
dF (mV 42 0) [0],
dF (uO 43 (.nilchk 42)) [42],
dF (fA 44 40 none 43) [43],
dF (lD 45 none 44) [44],
dF (mV 46 0) [0],
dF (uO 47 (.nilchk 46)) [46],
dF (fA 48 36 none 47) [47],
dF (lD 49 none 48) [48],
dF (uO 50 (.bsl false none 1 (.int .i64 0) [(0,49)])) [49],
dT (uO 51 (.app none 45 50)) [45,50],
dF (uO 52 (.nilchk 41)) [41],
dF (fA 53 40 none 52) [52],
dT (wO (.store none 53 51)) [53,51]] [0,4])
(rg [mV 54 0,
mV 55 0,
uO 56 (.nilchk 55),
fA 57 41 none 56,
lD 58 none 57,
mV 59 4,
uO 60 (.bsl false none 1 (.int .i64 0) [(0,59)]),
uO 61 (.app none 58 60),
uO 62 (.nilchk 54),
fA 63 41 none 62,
wO (.store none 63 61)] []))
def d_q02e_k2 (C : Hd) (gl : GL) (v0 v4 : AV) (h : Heap) (x : Esc) (K : KT) : Prop:=
 pK (oNil v0) fun t1=>
 pK (oFaddr 40 none t1) fun t2=>
 pK (oLoad none t2 h) fun t3=>
 pK (oNil v0) fun t4=>
 pK (oFaddr 36 none t4) fun t5=>
 pK (oLoad none t5 h) fun t6=>
 wK (oBsl false none 1 (.int .i64 0) [(0,t6)] h) fun t7 h8 y9=>
 (h8 = h ∧ y9 = []) ∧ (wK (oApp none t3 t7 h8) fun t10 h11 y12=>
 pK (oNil v0) fun t13=>
 pK (oFaddr 40 none t13) fun t14=>
 wK (oStore none t14 t10 h11) fun t15 h16 y17=>
 pK (oNil v0) fun t18=>
 pK (oFaddr 41 none t18) fun t19=>
 pK (oLoad none t19 h16) fun t20=>
 wK (oBsl false none 1 (.int .i64 0) [(0,v4)] h16) fun t21 h22 y23=>
 wK (oApp none t20 t21 h22) fun t24 h25 y26=>
 pK (oNil v0) fun t27=>
 pK (oFaddr 41 none t27) fun t28=>
 wK (oStore none t28 t24 h25) fun t29 h30 y31=>
 K .normal ⟨[],h30,(y31 ++ (y26 ++ (y23 ++ (y17 ++ (y12 ++ (y9 ++ x))))))⟩)
theorem e_q02e_k2 {C gl e h x K} : NW C gl p_q02e_k2 ⟨e,h,x⟩ K = d_q02e_k2 C gl (aget e 0) (aget e 4) h x K:=by kernel_rfl
def P_q02e (q1 q2 : ACode) : ACode:=(.seq (rg [uO 3 (.box 1)] [0,3])
(.seq (rg [mV 4 (cI 0)] [0,3,4])
(.seq (.block 0 (.seq (rg [fA 10 0 none 3,
lD 11 none 10,
cL 12 f_q029 [11],
mV 9 12] [0,3,4,9])
(.cond 9 (dr [dF (mV 13 0) [0],
dF (uO 14 (.nilchk 13)) [13],
dF (fA 15 0 (some 36) 14) [14],
dF (fA 16 0 none 3) [3],
dF (lD 17 none 16) [16],
dT (cL 18 f_q02h [15,17]) [15,17],
dA (lD 19 (some 6) 3) [3] false [5] [],
dF (uO 20 (.nilchk 18)) [18],
dT (wO (.store (some 6) 20 19)) [20,19]] [0,4])
(.seq (rg [fA 22 0 none 3,
lD 23 none 22,
cL 24 f_q028 [23],
mV 21 24] [0,3,4,21])
(.cond 21 (rg [mV 25 0,
lD 26 (some 6) 3,
cL 27 f_q02d [25,26],
mV 4 27] [0,4])
(.seq (rg [fA 29 0 none 3,
lD 30 none 29,
bN 31 .eql 30 (cI 9),
mV 28 31] [0,3,4,28])
(.cond 28 (.seq (rg [mV 32 0,
cL 33 f_q02f [32,(cI 1)]] [0,3,4])
(.seq (rg [fA 34 2 none 3,
lD 35 none 34,
mV 36 (cI 0)] [0,4,35,36])
(.block 1 (.loop q1))))
(rg [mV 5 0,
fA 6 1 none 3,
lD 7 none 6,
cL 8 f_q02f [5,7]] [0,4]))))))))
q2)))
def a_q02e : AFun:=⟨2,[],P_q02e p_q02e_k1 p_q02e_k2,false,false⟩
def d_q02e (C : Hd) (gl : GL) (q1 q2 : ACode) (v0 v1 : AV) (h : Heap) (x : Esc) (K : KT) : Prop:=
 wK (oBox v1 h) fun t1 h2 y3=>
 pK (oFaddr 0 none t1) fun t4=>
 pK (oLoad none t4 h2) fun t5=>
 C f_q029 [t5] h2 fun t6 h7 y8=>
 condB t6 (pK (oNil v0) fun t9=>
 pK (oFaddr 0 (some 36) t9) fun t10=>
 pK (oFaddr 0 none t1) fun t11=>
 pK (oLoad none t11 h7) fun t12=>
 callE C f_q02h [t10,t12] h7 fun t13 h14 y15=>
 pK (oLoad (some 6) t1 h14) fun t16=>
 (pK (oLoad (some 6) t1 h7) fun v=>(fun u (g1 : Heap) (y1 : Esc)=>u = t16 ∧ g1 = h7 ∧ y1 = []) v h7 []) ∧ (pK (oNil t13) fun t17=>
 wK (oStore (some 6) t17 t16 h14) fun t18 h19 y20=>
 NW C gl q2 ⟨[(0,v0),(4,(AI 0))],h19,(y20 ++ (y15 ++ (y8 ++ (y3 ++ x))))⟩ K))
 (pK (oFaddr 0 none t1) fun t21=>
 pK (oLoad none t21 h7) fun t22=>
 C f_q028 [t22] h7 fun t23 h24 y25=>
 condB t23 (pK (oLoad (some 6) t1 h24) fun t26=>
 C f_q02d [v0,t26] h24 fun t27 h28 y29=>
 NW C gl q2 ⟨[(0,v0),(4,t27)],h28,(y29 ++ (y25 ++ (y8 ++ (y3 ++ x))))⟩ K)
 (pK (oFaddr 0 none t1) fun t30=>
 pK (oLoad none t30 h24) fun t31=>
 pK (oBin .eql t31 (AI 9)) fun t32=>
 condB t32 (C f_q02f [v0,(AI 1)] h24 fun t33 h34 y35=>
 pK (oFaddr 2 none t1) fun t36=>
 pK (oLoad none t36 h34) fun t37=>
 NW C gl (.loop q1) ⟨[(0,v0),(4,(AI 0)),(35,t37),(36,(AI 0))],h34,(y35 ++ (y25 ++ (y8 ++ (y3 ++ x))))⟩ (blockN 1 (blockN 0 (seqN C gl q2 K))))
 (pK (oFaddr 1 none t1) fun t38=>
 pK (oLoad none t38 h24) fun t39=>
 C f_q02f [v0,t39] h24 fun t40 h41 y42=>
 NW C gl q2 ⟨[(0,v0),(4,(AI 0))],h41,(y42 ++ (y25 ++ (y8 ++ (y3 ++ x))))⟩ K)))
theorem E_q02e {C gl q1 q2 v0 v1 h x K} : NW C gl (P_q02e q1 q2) ⟨enter [v0,v1],h,x⟩ K = d_q02e C gl q1 q2 v0 v1 h x K:=by kernel_rfl
theorem e_q02e {C gl v0 v1 h x K} : NW C gl a_q02e.body ⟨enter [v0,v1],h,x⟩ K = d_q02e C gl p_q02e_k1 p_q02e_k2 v0 v1 h x K:=E_q02e
def P_q012 : ACode:=(.seq (rg [mV 2 cF] [0])
(.seq (rg [uO 3 (.bsl false none 4 (.int .i64 0) [(0,(cI 0)),(1,(cI 1)),(2,(cI 6)),(3,(cI 13))]),
mV 4 0,
cL 5 f_q015 [3,4],
mV 2 5] [2])
.ret))
def a_q012 : AFun:=⟨1,[.t 2],P_q012,false,false⟩
def d_q012 (C : Hd) (gl : GL) (v0 : AV) (h : Heap) (x : Esc) (K : KT) : Prop:=
 wK (oBsl false none 4 (.int .i64 0) [(0,(AI 0)),(1,(AI 1)),(2,(AI 6)),(3,(AI 13))] h) fun t1 h2 y3=>
 C f_q015 [t1,v0] h2 fun t4 h5 y6=>
 K .ret ⟨[(2,t4)],h5,(y6 ++ (y3 ++ x))⟩
theorem e_q012 {C gl v0 h x K} : NW C gl a_q012.body ⟨enter [v0],h,x⟩ K = d_q012 C gl v0 h x K:=by kernel_rfl
def P_q00w : ACode:=(.seq (rg [mV 6 cF] [0,1,2])
(.seq (rg [mV 7 1,
mV 8 0,
bN 9 .leq 7 8,
mV 10 9,
gD 11 10 true (.mv 0),
gD 12 10 true (.mv 2),
gD 13 10 true (.bin .leq 11 12),
uO 14 (.pick 10 13 cF),
mV 6 14] [6])
.ret))
def a_q00w : AFun:=⟨3,[.t 6],P_q00w,false,false⟩
def d_q00w (C : Hd) (gl : GL) (v0 v1 v2 : AV) (h : Heap) (x : Esc) (K : KT) : Prop:=
 pK (oBin .leq v1 v0) fun t1=>
 gM t1 true v0 h fun t2 h3 y4=>
 gM t1 true v2 h3 fun t5 h6 y7=>
 gP t1 true (oBin .leq t2 t5) h6 fun t8 h9 y10=>
 pK (oPick t1 t8 (AB false)) fun t11=>
 K .ret ⟨[(6,t11)],h9,(y10 ++ (y7 ++ (y4 ++ x)))⟩
theorem e_q00w {C gl v0 v1 v2 h x K} : NW C gl a_q00w.body ⟨enter [v0,v1,v2],h,x⟩ K = d_q00w C gl v0 v1 v2 h x K:=by kernel_rfl
def P_q00p : ACode:=(.seq (rg [mV 2 cF] [0])
(.seq (rg [mV 3 0,
cL 4 f_q00x [3,(cS [48,49])],
mV 2 4] [2])
.ret))
def a_q00p : AFun:=⟨1,[.t 2],P_q00p,false,false⟩
def d_q00p (C : Hd) (gl : GL) (v0 : AV) (h : Heap) (x : Esc) (K : KT) : Prop:=
 C f_q00x [v0,(.p (.str [48,49]))] h fun t1 h2 y3=>
 K .ret ⟨[(2,t1)],h2,(y3 ++ x)⟩
theorem e_q00p {C gl v0 h x K} : NW C gl a_q00p.body ⟨enter [v0],h,x⟩ K = d_q00p C gl v0 h x K:=by kernel_rfl
def P_q010 : ACode:=(.seq (rg [uO 1 (.box 0),
mV 2 (cI 0)] [1])
(.seq (.block 0 (.seq (rg [fA 4 3 none 1,
lD 5 none 4,
bN 6 .eql 5 (cS []),
mV 3 6] [1,3])
(.cond 3 (.seq (rg [mV 2 (cI 8)] [2])
.ret)
(.seq (rg [fA 8 3 none 1,
lD 9 none 8,
cL 10 f_q00p [9],
uO 11 (.un .not 10),
mV 7 11] [1,7])
(.cond 7 (.seq (rg [mV 2 (cI 9)] [2])
.ret)
(.seq (rg [fA 13 3 none 1,
lD 14 none 13,
uO 15 (.lens 14),
bN 16 .gtr 15 (cI 2000),
mV 12 16] [1,12])
(.cond 12 (.seq (rg [mV 2 (cI 2)] [2])
.ret)
(.seq (rg [fA 18 4 none 1,
lD 19 none 18,
bN 20 .neq 19 (cS []),
mV 21 20,
gD 22 21 true (.faddr 4 none 1),
gD 23 21 true (.load none 22),
gD 24 21 true (.lens 23),
gD 25 21 true (.faddr 3 none 1),
gD 26 21 true (.load none 25),
gD 27 21 true (.lens 26),
gD 28 21 true (.bin .neq 24 27),
gD 29 21 true (.mv 28),
gD 30 29 false (.faddr 5 none 1),
gD 31 29 false (.load none 30),
gD 32 29 false (.lens 31),
gD 33 29 false (.faddr 3 none 1),
gD 34 29 false (.load none 33),
gD 35 29 false (.lens 34),
gD 36 29 false (.bin .neq 32 35),
gD 37 21 true (.pick 29 cT 36),
uO 38 (.pick 21 37 cF),
mV 17 38] [1,17])
(.cond 17 (.seq (rg [mV 2 (cI 3)] [2])
.ret)
(.seq (rg [fA 40 4 none 1,
lD 41 none 40,
cL 42 f_q00p [41],
uO 43 (.un .not 42),
mV 44 43,
gD 45 44 false (.faddr 5 none 1),
gD 46 44 false (.load none 45),
gD 47 44 false (.call f_q00p [46]),
gD 48 44 false (.un .not 47),
uO 49 (.pick 44 cT 48),
mV 39 49] [1,39])
(.cond 39 (.seq (rg [mV 2 (cI 9)] [2])
.ret)
(.seq (rg [fA 51 4 none 1,
lD 52 none 51,
bN 53 .eql 52 (cS []),
mV 54 53,
gD 55 54 true (.faddr 5 none 1),
gD 56 54 true (.load none 55),
gD 57 54 true (.bin .neq 56 (cS [])),
uO 58 (.pick 54 57 cF),
mV 50 58] [50])
(.cond 50 (.seq (rg [mV 2 (cI 3)] [2])
.ret)
.skip)))))))))))))
(.seq (rg [mV 2 (cI 0)] [2])
.ret)))
def a_q010 : AFun:=⟨1,[.t 2],P_q010,false,false⟩
def d_q010 (C : Hd) (gl : GL) (v0 : AV) (h : Heap) (x : Esc) (K : KT) : Prop:=
 wK (oBox v0 h) fun t1 h2 y3=>
 pK (oFaddr 3 none t1) fun t4=>
 pK (oLoad none t4 h2) fun t5=>
 pK (oBin .eql t5 (.p (.str []))) fun t6=>
 condB t6 (K .ret ⟨[(2,(AI 8))],h2,(y3 ++ x)⟩)
 (pK (oFaddr 3 none t1) fun t7=>
 pK (oLoad none t7 h2) fun t8=>
 C f_q00p [t8] h2 fun t9 h10 y11=>
 pK (oUn .not t9) fun t12=>
 condB t12 (K .ret ⟨[(2,(AI 9))],h10,(y11 ++ (y3 ++ x))⟩)
 (pK (oFaddr 3 none t1) fun t13=>
 pK (oLoad none t13 h10) fun t14=>
 pK (oLens t14) fun t15=>
 pK (oBin .gtr t15 (AI 2000)) fun t16=>
 condB t16 (K .ret ⟨[(2,(AI 2))],h10,(y11 ++ (y3 ++ x))⟩)
 (pK (oFaddr 4 none t1) fun t17=>
 pK (oLoad none t17 h10) fun t18=>
 pK (oBin .neq t18 (.p (.str []))) fun t19=>
 gP t19 true (oFaddr 4 none t1) h10 fun t20 h21 y22=>
 gP t19 true (oLoad none t20 h21) h21 fun t23 h24 y25=>
 gP t19 true (oLens t23) h24 fun t26 h27 y28=>
 gP t19 true (oFaddr 3 none t1) h27 fun t29 h30 y31=>
 gP t19 true (oLoad none t29 h30) h30 fun t32 h33 y34=>
 gP t19 true (oLens t32) h33 fun t35 h36 y37=>
 gP t19 true (oBin .neq t26 t35) h36 fun t38 h39 y40=>
 gM t19 true t38 h39 fun t41 h42 y43=>
 gP t41 false (oFaddr 5 none t1) h42 fun t44 h45 y46=>
 gP t41 false (oLoad none t44 h45) h45 fun t47 h48 y49=>
 gP t41 false (oLens t47) h48 fun t50 h51 y52=>
 gP t41 false (oFaddr 3 none t1) h51 fun t53 h54 y55=>
 gP t41 false (oLoad none t53 h54) h54 fun t56 h57 y58=>
 gP t41 false (oLens t56) h57 fun t59 h60 y61=>
 gP t41 false (oBin .neq t50 t59) h60 fun t62 h63 y64=>
 gP t19 true (oPick t41 (AB true) t62) h63 fun t65 h66 y67=>
 pK (oPick t19 t65 (AB false)) fun t68=>
 condB t68 (K .ret ⟨[(2,(AI 3))],h66,(y67 ++ (y64 ++ (y61 ++ (y58 ++ (y55 ++ (y52 ++ (y49 ++ (y46 ++ (y43 ++ (y40 ++ (y37 ++ (y34 ++ (y31 ++ (y28 ++ (y25 ++ (y22 ++ (y11 ++ (y3 ++ x))))))))))))))))))⟩)
 (pK (oFaddr 4 none t1) fun t69=>
 pK (oLoad none t69 h66) fun t70=>
 C f_q00p [t70] h66 fun t71 h72 y73=>
 pK (oUn .not t71) fun t74=>
 gP t74 false (oFaddr 5 none t1) h72 fun t75 h76 y77=>
 gP t74 false (oLoad none t75 h76) h76 fun t78 h79 y80=>
 gV t74 false h79 (C f_q00p [t78] h79) fun t81 h82 y83=>
 gP t74 false (oUn .not t81) h82 fun t84 h85 y86=>
 pK (oPick t74 (AB true) t84) fun t87=>
 condB t87 (K .ret ⟨[(2,(AI 9))],h85,(y86 ++ (y83 ++ (y80 ++ (y77 ++ (y73 ++ (y67 ++ (y64 ++ (y61 ++ (y58 ++ (y55 ++ (y52 ++ (y49 ++ (y46 ++ (y43 ++ (y40 ++ (y37 ++ (y34 ++ (y31 ++ (y28 ++ (y25 ++ (y22 ++ (y11 ++ (y3 ++ x)))))))))))))))))))))))⟩)
 (pK (oFaddr 4 none t1) fun t88=>
 pK (oLoad none t88 h85) fun t89=>
 pK (oBin .eql t89 (.p (.str []))) fun t90=>
 gP t90 true (oFaddr 5 none t1) h85 fun t91 h92 y93=>
 gP t90 true (oLoad none t91 h92) h92 fun t94 h95 y96=>
 gP t90 true (oBin .neq t94 (.p (.str []))) h95 fun t97 h98 y99=>
 pK (oPick t90 t97 (AB false)) fun t100=>
 condB t100 (K .ret ⟨[(2,(AI 3))],h98,(y99 ++ (y96 ++ (y93 ++ (y86 ++ (y83 ++ (y80 ++ (y77 ++ (y73 ++ (y67 ++ (y64 ++ (y61 ++ (y58 ++ (y55 ++ (y52 ++ (y49 ++ (y46 ++ (y43 ++ (y40 ++ (y37 ++ (y34 ++ (y31 ++ (y28 ++ (y25 ++ (y22 ++ (y11 ++ (y3 ++ x))))))))))))))))))))))))))⟩)
 (K .ret ⟨[(2,(AI 0))],h98,(y99 ++ (y96 ++ (y93 ++ (y86 ++ (y83 ++ (y80 ++ (y77 ++ (y73 ++ (y67 ++ (y64 ++ (y61 ++ (y58 ++ (y55 ++ (y52 ++ (y49 ++ (y46 ++ (y43 ++ (y40 ++ (y37 ++ (y34 ++ (y31 ++ (y28 ++ (y25 ++ (y22 ++ (y11 ++ (y3 ++ x))))))))))))))))))))))))))⟩))))))
theorem e_q010 {C gl v0 h x K} : NW C gl a_q010.body ⟨enter [v0],h,x⟩ K = d_q010 C gl v0 h x K:=by kernel_rfl
def p_q00y_k1 : ACode:=.pr [0,1,2,6,7,8,9,10,11] (.seq (dr [dF (mV 54 0) [0],
dF (mV 55 1) [1],
dF (mV 56 11) [11],
dF (iA 57 none 56 (cI 0)) [56],
dF (lD 58 none 57) [57],
dT (cL 59 f_q011 [54,55,58]) [54,55,58],
dF (uO 60 (.field 3 none 59)) [59],
dF (mV 61 0) [0],
dF (mV 62 1) [1],
dF (mV 63 11) [11],
dA (iA 64 none 63 (cI 1)) [63] false [5] [],
dA (lD 65 none 64) [64] false [5] [],
dT (cL 66 f_q011 [61,62,65]) [61,62,65],
dF (uO 67 (.field 3 none 66)) [66],
dF (mV 68 0) [0],
dF (mV 69 1) [1],
dF (mV 70 11) [11],
dA (iA 71 none 70 (cI 2)) [70] false [5,12] [],
dA (lD 72 none 71) [71] false [5,12] [],
dT (cL 73 f_q011 [68,69,72]) [68,69,72],
dF (uO 74 (.field 1 none 73)) [73],
dF (mV 12 60) [60],
dF (mV 13 67) [67],
dF (mV 14 74) [74]] [2,6,7,8,9,10,12,13,14])
(.seq (rg [mV 75 12,
fA 76 3 none 7,
lD 77 none 76,
bN 78 .add 75 77,
mV 79 13,
bN 80 .add 78 79,
mV 15 80] [2,6,7,8,9,10,12,14,15])
(.seq (rg [mV 81 2,
mV 82 9,
cL 83 f_q00m [81,82],
mV 84 10,
mV 85 14,
cL 86 f_q00m [84,85],
mV 16 83,
mV 17 86] [6,7,8,12,14,15,16,17])
(.seq (rg [mV 87 16,
mV 88 15,
uO 89 (.lens 88),
bN 90 .sub 89 (cI 1),
cL 91 f_q01i [(cS [48]),90],
bN 92 .add 87 91,
bN 93 .add 92 (cS [49]),
mV 94 17,
bN 95 .add 93 94,
fA 96 0 none 8,
wO (.store none 96 95)] [6,7,8,12,14,15,16])
(.seq (rg [mV 97 16,
uO 98 (.lens 97),
cL 99 f_q01i [(cS [48]),98],
mV 100 15,
bN 101 .add 99 100,
fA 102 1 none 8,
wO (.store none 102 101)] [6,7,8,12,14,16])
(.seq (rg [mV 103 16,
uO 104 (.lens 103),
mV 105 12,
uO 106 (.lens 105),
bN 107 .add 104 106,
fA 108 3 none 8,
wO (.store none 108 107)] [6,7,8,14])
(.seq (dr [dF (fA 109 3 none 8) [8],
dF (lD 110 none 109) [109],
dT (cL 111 f_q01i [(cS [120]),110]) [110],
dA (lD 112 (some 6) 7) [7] false [2] [],
dT (cL 113 f_q00v [112]) [112],
dF (bN 114 .add 111 113) [111,113],
dF (fA 115 2 none 8) [8],
dT (wO (.store none 115 114)) [115,114]] [6,8,14])
(rg [mV 116 14,
fA 117 4 none 8,
wO (.store none 117 116)] [6,8]))))))))
def d_q00y_k1 (C : Hd) (gl : GL) (v0 v1 v2 v6 v7 v8 v9 v10 v11 : AV) (h : Heap) (x : Esc) (K : KT) : Prop:=
 pK (oIaddr none v11 (AI 0) h) fun t1=>
 pK (oLoad none t1 h) fun t2=>
 callE C f_q011 [v0,v1,t2] h fun t3 h4 y5=>
 pK (oField 3 none t3) fun t6=>
 pK (oIaddr none v11 (AI 1) h4) fun t7=>
 (pK (oIaddr none v11 (AI 1) h) fun v=>(fun u (g1 : Heap) (y1 : Esc)=>u = t7 ∧ g1 = h ∧ y1 = []) v h []) ∧ (pK (oLoad none t7 h4) fun t8=>
 (pK (oLoad none t7 h) fun v=>(fun u (g1 : Heap) (y1 : Esc)=>u = t8 ∧ g1 = h ∧ y1 = []) v h []) ∧ (callE C f_q011 [v0,v1,t8] h4 fun t9 h10 y11=>
 pK (oField 3 none t9) fun t12=>
 pK (oIaddr none v11 (AI 2) h10) fun t13=>
 (pK (oIaddr none v11 (AI 2) h) fun v=>(fun u (g1 : Heap) (y1 : Esc)=>u = t13 ∧ g1 = h ∧ y1 = []) v h []) ∧ ((pK (oIaddr none v11 (AI 2) h4) fun v=>(fun u (g1 : Heap) (y1 : Esc)=>u = t13 ∧ g1 = h4 ∧ y1 = []) v h4 []) ∧ (pK (oLoad none t13 h10) fun t14=>
 (pK (oLoad none t13 h) fun v=>(fun u (g1 : Heap) (y1 : Esc)=>u = t14 ∧ g1 = h ∧ y1 = []) v h []) ∧ ((pK (oLoad none t13 h4) fun v=>(fun u (g1 : Heap) (y1 : Esc)=>u = t14 ∧ g1 = h4 ∧ y1 = []) v h4 []) ∧ (callE C f_q011 [v0,v1,t14] h10 fun t15 h16 y17=>
 pK (oField 1 none t15) fun t18=>
 pK (oFaddr 3 none v7) fun t19=>
 pK (oLoad none t19 h16) fun t20=>
 pK (oBin .add t6 t20) fun t21=>
 pK (oBin .add t21 t12) fun t22=>
 C f_q00m [v2,v9] h16 fun t23 h24 y25=>
 C f_q00m [v10,t18] h24 fun t26 h27 y28=>
 pK (oLens t22) fun t29=>
 pK (oBin .sub t29 (AI 1)) fun t30=>
 C f_q01i [(.p (.str [48])),t30] h27 fun t31 h32 y33=>
 pK (oBin .add t23 t31) fun t34=>
 pK (oBin .add t34 (.p (.str [49]))) fun t35=>
 pK (oBin .add t35 t26) fun t36=>
 pK (oFaddr 0 none v8) fun t37=>
 wK (oStore none t37 t36 h32) fun t38 h39 y40=>
 pK (oLens t23) fun t41=>
 C f_q01i [(.p (.str [48])),t41] h39 fun t42 h43 y44=>
 pK (oBin .add t42 t22) fun t45=>
 pK (oFaddr 1 none v8) fun t46=>
 wK (oStore none t46 t45 h43) fun t47 h48 y49=>
 pK (oLens t23) fun t50=>
 pK (oLens t6) fun t51=>
 pK (oBin .add t50 t51) fun t52=>
 pK (oFaddr 3 none v8) fun t53=>
 wK (oStore none t53 t52 h48) fun t54 h55 y56=>
 pK (oFaddr 3 none v8) fun t57=>
 pK (oLoad none t57 h55) fun t58=>
 callE C f_q01i [(.p (.str [120])),t58] h55 fun t59 h60 y61=>
 pK (oLoad (some 6) v7 h60) fun t62=>
 (pK (oLoad (some 6) v7 h55) fun v=>(fun u (g1 : Heap) (y1 : Esc)=>u = t62 ∧ g1 = h55 ∧ y1 = []) v h55 []) ∧ (callE C f_q00v [t62] h60 fun t63 h64 y65=>
 pK (oBin .add t59 t63) fun t66=>
 pK (oFaddr 2 none v8) fun t67=>
 wK (oStore none t67 t66 h64) fun t68 h69 y70=>
 pK (oFaddr 4 none v8) fun t71=>
 wK (oStore none t71 t18 h69) fun t72 h73 y74=>
 K .normal ⟨[(6,v6),(8,v8)],h73,(y74 ++ (y70 ++ (y65 ++ (y61 ++ (y56 ++ (y49 ++ (y44 ++ (y40 ++ (y33 ++ (y28 ++ (y25 ++ (y17 ++ (y11 ++ (y5 ++ x))))))))))))))⟩)))))))
theorem e_q00y_k1 {C gl e h x K} : NW C gl p_q00y_k1 ⟨e,h,x⟩ K = d_q00y_k1 C gl (aget e 0) (aget e 1) (aget e 2) (aget e 6) (aget e 7) (aget e 8) (aget e 9) (aget e 10) (aget e 11) h x K:=by kernel_rfl
def P_q00y_k2 (q1 : ACode) : ACode:=.pr [0,1,2,6,7,8,46] (.cond 46 (.seq (rg [uO 49 (.bsl false none 3 (.int .i64 0) [(0,(cI 3)),(1,(cI 4)),(2,(cI 1))]),
mV 9 (cI 11),
mV 10 (cI 12),
mV 11 49] [0,1,2,6,7,8,9,10,11])
(.seq (.seq (rg [fA 50 0 none 7,
lD 51 none 50,
bN 52 .eql 51 (cI 8)] [0,1,2,6,7,8,9,10,11,52])
(.cond 52 (rg [uO 53 (.bsl false none 3 (.int .i64 0) [(0,(cI 5)),(1,(cI 6)),(2,(cI 2))]),
mV 9 (cI 4),
mV 10 (cI 5),
mV 11 53] [0,1,2,6,7,8,9,10,11])
.skip))
q1))
.skip)
def p_q00y_k2 : ACode:=P_q00y_k2 p_q00y_k1
def d_q00y_k2 (C : Hd) (gl : GL) (q1 : ACode) (v0 v1 v2 v6 v7 v8 v46 : AV) (h : Heap) (x : Esc) (K : KT) : Prop:=
 condB v46 (wK (oBsl false none 3 (.int .i64 0) [(0,(AI 3)),(1,(AI 4)),(2,(AI 1))] h) fun t1 h2 y3=>
 pK (oFaddr 0 none v7) fun t4=>
 pK (oLoad none t4 h2) fun t5=>
 pK (oBin .eql t5 (AI 8)) fun t6=>
 condB t6 (wK (oBsl false none 3 (.int .i64 0) [(0,(AI 5)),(1,(AI 6)),(2,(AI 2))] h2) fun t7 h8 y9=>
 NW C gl q1 ⟨[(0,v0),(1,v1),(2,v2),(6,v6),(7,v7),(8,v8),(9,(AI 4)),(10,(AI 5)),(11,t7)],h8,(y9 ++ (y3 ++ x))⟩ K)
 (NW C gl q1 ⟨[(0,v0),(1,v1),(2,v2),(6,v6),(7,v7),(8,v8),(9,(AI 11)),(10,(AI 12)),(11,t1),(52,t6)],h2,(y3 ++ x)⟩ K))
 (K .normal ⟨[(0,v0),(1,v1),(2,v2),(6,v6),(7,v7),(8,v8),(46,v46)],h,x⟩)
theorem E_q00y_k2 {C gl q1 e h x K} : NW C gl (P_q00y_k2 q1) ⟨e,h,x⟩ K = d_q00y_k2 C gl q1 (aget e 0) (aget e 1) (aget e 2) (aget e 6) (aget e 7) (aget e 8) (aget e 46) h x K:=by kernel_rfl
theorem e_q00y_k2 {C gl e h x K} : NW C gl p_q00y_k2 ⟨e,h,x⟩ K = d_q00y_k2 C gl p_q00y_k1 (aget e 0) (aget e 1) (aget e 2) (aget e 6) (aget e 7) (aget e 8) (aget e 46) h x K:=E_q00y_k2
def p_q00y_k3 : ACode:=.pr [6,8] (.seq (dr [dF (fA 118 1 none 8) [8],
dF (lD 119 none 118) [118],
dF (fA 120 0 none 8) [8],
dF (lD 121 none 120) [120],
dF (uO 122 (.lens 121)) [121],
dF (fA 123 1 none 8) [8],
dF (lD 124 none 123) [123],
dF (uO 125 (.lens 124)) [124],
dF (bN 126 .sub 122 125) [122,125],
dA (cL 127 f_q01i [(cS [48]),126]) [126] true [] [1],
dF (bN 128 .add 119 127) [119,127],
dF (fA 129 1 none 8) [8],
dT (wO (.store none 129 128)) [129,128]] [6,8])
(.seq (dr [dF (fA 130 2 none 8) [8],
dF (lD 131 none 130) [130],
dF (fA 132 0 none 8) [8],
dF (lD 133 none 132) [132],
dF (uO 134 (.lens 133)) [133],
dF (fA 135 2 none 8) [8],
dF (lD 136 none 135) [135],
dF (uO 137 (.lens 136)) [136],
dF (bN 138 .sub 134 137) [134,137],
dA (cL 139 f_q01i [(cS [120]),138]) [138] true [] [1],
dF (bN 140 .add 131 139) [131,139],
dF (fA 141 2 none 8) [8],
dT (wO (.store none 141 140)) [141,140]] [6,8])
(.seq (rg [lD 142 (some 5) 8,
wO (.store (some 5) 6 142)] [6])
.ret)))
def d_q00y_k3 (C : Hd) (gl : GL) (v6 v8 : AV) (h : Heap) (x : Esc) (K : KT) : Prop:=
 pK (oFaddr 1 none v8) fun t1=>
 pK (oLoad none t1 h) fun t2=>
 pK (oFaddr 0 none v8) fun t3=>
 pK (oLoad none t3 h) fun t4=>
 pK (oLens t4) fun t5=>
 pK (oFaddr 1 none v8) fun t6=>
 pK (oLoad none t6 h) fun t7=>
 pK (oLens t7) fun t8=>
 pK (oBin .sub t5 t8) fun t9=>
 callE C f_q01i [(.p (.str [48])),t9] h fun t10 h11 y12=>
 (pK (oLoad none t1 h11) fun v=>(fun u (g1 : Heap) (y1 : Esc)=>u = t2 ∧ g1 = h11 ∧ y1 = []) v h11 []) ∧ (pK (oBin .add t2 t10) fun t13=>
 pK (oFaddr 1 none v8) fun t14=>
 wK (oStore none t14 t13 h11) fun t15 h16 y17=>
 pK (oFaddr 2 none v8) fun t18=>
 pK (oLoad none t18 h16) fun t19=>
 pK (oFaddr 0 none v8) fun t20=>
 pK (oLoad none t20 h16) fun t21=>
 pK (oLens t21) fun t22=>
 pK (oFaddr 2 none v8) fun t23=>
 pK (oLoad none t23 h16) fun t24=>
 pK (oLens t24) fun t25=>
 pK (oBin .sub t22 t25) fun t26=>
 callE C f_q01i [(.p (.str [120])),t26] h16 fun t27 h28 y29=>
 (pK (oLoad none t18 h28) fun v=>(fun u (g1 : Heap) (y1 : Esc)=>u = t19 ∧ g1 = h28 ∧ y1 = []) v h28 []) ∧ (pK (oBin .add t19 t27) fun t30=>
 pK (oFaddr 2 none v8) fun t31=>
 wK (oStore none t31 t30 h28) fun t32 h33 y34=>
 pK (oLoad (some 5) v8 h33) fun t35=>
 wK (oStore (some 5) v6 t35 h33) fun t36 h37 y38=>
 K .ret ⟨[(6,v6)],h37,(y38 ++ (y34 ++ (y29 ++ (y17 ++ (y12 ++ x)))))⟩))
theorem e_q00y_k3 {C gl e h x K} : NW C gl p_q00y_k3 ⟨e,h,x⟩ K = d_q00y_k3 C gl (aget e 6) (aget e 8) h x K:=by kernel_rfl
def P_q00y (q2 q3 : ACode) : ACode:=(.seq (rg [uO 6 (.alloc [.p (.str []),.p (.str []),.p (.str []),.p (.int .i64 0),.p (.int .i64 0)])] [0,1,2,6])
(.seq (rg [mV 18 0,
mV 19 1,
iA 20 (some 6) 18 19,
lD 21 (some 6) 20,
uO 7 (.alloc [.p (.int .i64 0),.p (.int .i64 0),.p (.int .i64 0),.p (.str []),.p (.str []),.p (.str [])]),
wO (.store (some 6) 7 21)] [0,1,2,6,7])
(.seq (rg [mV 22 2,
uO 23 (.build [.p (.str []),.p (.str []),.p (.str []),.p (.int .i64 0),.p (.int .i64 0)] [(4,1,22)]),
uO 8 (.alloc [.p (.str []),.p (.str []),.p (.str []),.p (.int .i64 0),.p (.int .i64 0)]),
wO (.store (some 5) 8 23)] [0,1,2,6,7,8])
(.seq (.seq (rg [fA 24 0 none 7,
lD 25 none 24] [0,1,2,6,7,8,25])
(.block 0 (.seq (rg [bN 27 .eql 25 (cI 10),
mV 26 27] [0,1,2,6,7,8,25,26])
(.cond 26 (dr [dF (mV 28 2) [2],
dF (fA 29 1 none 7) [7],
dF (lD 30 none 29) [29],
dT (cL 31 f_q00m [28,30]) [28,30],
dF (fA 32 1 none 7) [7],
dA (lD 33 none 32) [32] false [3] [],
dF (fA 34 0 none 8) [8],
dA (wO (.store none 34 31)) [34,31] true [] [5],
dF (fA 35 4 none 8) [8],
dT (wO (.store none 35 33)) [35,33]] [6,8])
(.seq (rg [bN 37 .eql 25 (cI 9),
mV 36 37] [0,1,2,6,7,8,25,36])
(.cond 36 (dr [dF (mV 38 2) [2],
dT (cL 39 f_q00m [38,(cI 1)]) [38],
dF (fA 40 2 none 7) [7],
dA (lD 41 none 40) [40] false [1] [],
dT (cL 42 f_q01i [(cS [48]),41]) [41],
dF (bN 43 .add 39 42) [39,42],
dF (fA 44 0 none 8) [8],
dT (wO (.store none 44 43)) [44,43],
dF (fA 45 4 none 8) [8],
dT (wO (.store none 45 (cI 1))) [45]] [6,8])
(.seq (.seq (rg [bN 47 .eql 25 (cI 7),
mV 46 47] [0,1,2,6,7,8,25,46])
(.cond 46 .skip
(rg [bN 48 .eql 25 (cI 8),
mV 46 48] [0,1,2,6,7,8,46])))
q2)))))))
q3))))
def a_q00y : AFun:=⟨3,[.cell 6 (some 5)],P_q00y p_q00y_k2 p_q00y_k3,false,false⟩
def d_q00y (C : Hd) (gl : GL) (q2 q3 : ACode) (v0 v1 v2 : AV) (h : Heap) (x : Esc) (K : KT) : Prop:=
 alK [.p (.str []),.p (.str []),.p (.str []),.p (.int .i64 0),.p (.int .i64 0)] h fun t1 h2 y3=>
 pK (oIaddr (some 6) v0 v1 h2) fun t4=>
 pK (oLoad (some 6) t4 h2) fun t5=>
 alK [.p (.int .i64 0),.p (.int .i64 0),.p (.int .i64 0),.p (.str []),.p (.str []),.p (.str [])] h2 fun t6 h7 y8=>
 wK (oStore (some 6) t6 t5 h7) fun t9 h10 y11=>
 pK (oBuild [.p (.str []),.p (.str []),.p (.str []),.p (.int .i64 0),.p (.int .i64 0)] [(4,1,v2)]) fun t12=>
 alK [.p (.str []),.p (.str []),.p (.str []),.p (.int .i64 0),.p (.int .i64 0)] h10 fun t13 h14 y15=>
 wK (oStore (some 5) t13 t12 h14) fun t16 h17 y18=>
 pK (oFaddr 0 none t6) fun t19=>
 pK (oLoad none t19 h17) fun t20=>
 pK (oBin .eql t20 (AI 10)) fun t21=>
 condB t21 (pK (oFaddr 1 none t6) fun t22=>
 pK (oLoad none t22 h17) fun t23=>
 callE C f_q00m [v2,t23] h17 fun t24 h25 y26=>
 pK (oFaddr 1 none t6) fun t27=>
 pK (oLoad none t27 h25) fun t28=>
 (pK (oLoad none t27 h17) fun v=>(fun u (g1 : Heap) (y1 : Esc)=>u = t28 ∧ g1 = h17 ∧ y1 = []) v h17 []) ∧ (pK (oFaddr 0 none t13) fun t29=>
 wK (oStore none t29 t24 h25) fun t30 h31 y32=>
 (pK (oLoad none t27 h31) fun v=>(fun u (g1 : Heap) (y1 : Esc)=>u = t28 ∧ g1 = h31 ∧ y1 = []) v h31 []) ∧ (pK (oFaddr 4 none t13) fun t33=>
 wK (oStore none t33 t28 h31) fun t34 h35 y36=>
 NW C gl q3 ⟨[(6,t1),(8,t13)],h35,(y36 ++ (y32 ++ (y26 ++ (y18 ++ (y15 ++ (y11 ++ (y8 ++ (y3 ++ x))))))))⟩ K)))
 (pK (oBin .eql t20 (AI 9)) fun t37=>
 condB t37 (callE C f_q00m [v2,(AI 1)] h17 fun t38 h39 y40=>
 pK (oFaddr 2 none t6) fun t41=>
 pK (oLoad none t41 h39) fun t42=>
 (pK (oLoad none t41 h17) fun v=>(fun u (g1 : Heap) (y1 : Esc)=>u = t42 ∧ g1 = h17 ∧ y1 = []) v h17 []) ∧ (callE C f_q01i [(.p (.str [48])),t42] h39 fun t43 h44 y45=>
 pK (oBin .add t38 t43) fun t46=>
 pK (oFaddr 0 none t13) fun t47=>
 wK (oStore none t47 t46 h44) fun t48 h49 y50=>
 pK (oFaddr 4 none t13) fun t51=>
 wK (oStore none t51 (AI 1) h49) fun t52 h53 y54=>
 NW C gl q3 ⟨[(6,t1),(8,t13)],h53,(y54 ++ (y50 ++ (y45 ++ (y40 ++ (y18 ++ (y15 ++ (y11 ++ (y8 ++ (y3 ++ x)))))))))⟩ K))
 (pK (oBin .eql t20 (AI 7)) fun t55=>
 condB t55 (NW C gl q2 ⟨[(0,v0),(1,v1),(2,v2),(6,t1),(7,t6),(8,t13),(25,t20),(46,t55)],h17,(y18 ++ (y15 ++ (y11 ++ (y8 ++ (y3 ++ x)))))⟩ (blockN 0 (seqN C gl q3 K)))
 (pK (oBin .eql t20 (AI 8)) fun t56=>
 NW C gl q2 ⟨[(0,v0),(1,v1),(2,v2),(6,t1),(7,t6),(8,t13),(46,t56)],h17,(y18 ++ (y15 ++ (y11 ++ (y8 ++ (y3 ++ x)))))⟩ (blockN 0 (seqN C gl q3 K)))))
theorem E_q00y {C gl q2 q3 v0 v1 v2 h x K} : NW C gl (P_q00y q2 q3) ⟨enter [v0,v1,v2],h,x⟩ K = d_q00y C gl q2 q3 v0 v1 v2 h x K:=by kernel_rfl
theorem e_q00y {C gl v0 v1 v2 h x K} : NW C gl a_q00y.body ⟨enter [v0,v1,v2],h,x⟩ K = d_q00y C gl p_q00y_k2 p_q00y_k3 v0 v1 v2 h x K:=E_q00y
def P_q01c : ACode:=(.seq (rg [mV 2 0,
uO 3 (.nilchk 2),
fA 4 0 none 3,
lD 5 none 4,
uO 6 (.isnil 0 false 5)] [0,6])
(.cond 6 (rg [mV 7 0,
mV 8 0,
uO 9 (.uns 1 65 [8]),
uO 10 (.uns 7 f_internal_abi_NoEscape [(.f f_internal_abi_NoEscape),9]),
uO 11 (.uns 1 65 [10]),
uO 12 (.nilchk 7),
fA 13 0 none 12,
wO (.store none 13 11)] [])
(.seq (rg [mV 14 0,
uO 15 (.nilchk 14),
fA 16 0 none 15,
lD 17 none 16,
mV 18 0,
uO 19 (.uns 2 0 [17,18])] [19])
(.cond 19 .bad
.skip))))
def a_q01c : AFun:=⟨1,[],P_q01c,false,false⟩
def d_q01c (C : Hd) (gl : GL) (v0 : AV) (h : Heap) (x : Esc) (K : KT) : Prop:=
 pK (oNil v0) fun t1=>
 pK (oFaddr 0 none t1) fun t2=>
 pK (oLoad none t2 h) fun t3=>
 pK (oIsnil 0 false t3) fun t4=>
 condB t4 (wK (unsOp 1 65 [v0] h) fun t5 h6 y7=>
 wK (unsOp 7 f_internal_abi_NoEscape [(.fn f_internal_abi_NoEscape []),t5] h6) fun t8 h9 y10=>
 wK (unsOp 1 65 [t8] h9) fun t11 h12 y13=>
 pK (oNil v0) fun t14=>
 pK (oFaddr 0 none t14) fun t15=>
 wK (oStore none t15 t11 h12) fun t16 h17 y18=>
 K .normal ⟨[],h17,(y18 ++ (y13 ++ (y10 ++ (y7 ++ x))))⟩)
 (pK (oNil v0) fun t19=>
 pK (oFaddr 0 none t19) fun t20=>
 pK (oLoad none t20 h) fun t21=>
 wK (unsOp 2 0 [t21,v0] h) fun t22 h23 y24=>
 condB t22 (False)
 (K .normal ⟨[(19,t22)],h23,(y24 ++ x)⟩))
theorem e_q01c {C gl v0 h x K} : NW C gl a_q01c.body ⟨enter [v0],h,x⟩ K = d_q01c C gl v0 h x K:=by kernel_rfl
def P_q00o : ACode:=(.seq (rg [mV 4 (cI 0)] [0,1])
(.seq (rg [uO 5 (.build [.p (.int .i64 0),.p (.int .i64 0)] [(0,1,(cI 1)),(1,1,(cI 0))]),
uO 6 (.build [.p (.int .i64 0),.p (.int .i64 0)] [(0,1,(cI 1)),(1,1,(cI 2))]),
uO 7 (.build [.p (.int .i64 0),.p (.int .i64 0)] [(0,1,(cI 3)),(1,1,(cI 9))]),
uO 8 (.build [.p (.int .i64 0),.p (.int .i64 0)] [(0,1,(cI 4)),(1,1,(cI 5))]),
uO 9 (.build [.p (.int .i64 0),.p (.int .i64 0)] [(0,1,(cI 4)),(1,1,(cI 5))]),
uO 10 (.build [.p (.int .i64 0),.p (.int .i64 0)] [(0,1,(cI 6)),(1,1,(cI 8))]),
uO 11 (.build [.p (.int .i64 0),.p (.int .i64 0)] [(0,1,(cI 6)),(1,1,(cI 7))]),
uO 12 (.build [.p (.int .i64 0),.p (.int .i64 0)] [(0,1,(cI 4)),(1,1,(cI 8))]),
uO 13 (.build [.p (.int .i64 0),.p (.int .i64 0)] [(0,1,(cI 1)),(1,1,(cI 2))]),
uO 14 (.build [.p (.int .i64 0),.p (.int .i64 0)] [(0,1,(cI 10)),(1,1,(cI 0))]),
uO 15 (.build [.p (.int .i64 0),.p (.int .i64 0)] [(0,1,(cI 11)),(1,1,(cI 12))]),
uO 16 (.build [.p (.int .i64 0),.p (.int .i64 0)] [(0,1,(cI 11)),(1,1,(cI 12))]),
uO 17 (.build [.p (.int .i64 0),.p (.int .i64 0)] [(0,1,(cI 13)),(1,1,(cI 15))]),
uO 18 (.build [.p (.int .i64 0),.p (.int .i64 0)] [(0,1,(cI 13)),(1,1,(cI 14))]),
uO 19 (.build [.p (.int .i64 0),.p (.int .i64 0)] [(0,1,(cI 11)),(1,1,(cI 15))]),
uO 20 (.build [.p (.int .i64 0),.p (.int .i64 0)] [(0,1,(cI 1)),(1,1,(cI 2))]),
uO 21 (.build [.p (.int .i64 0),.p (.int .i64 0),.p (.int .i64 0),.p (.int .i64 0),.p (.int .i64 0),.p (.int .i64 0),.p (.int .i64 0),.p (.int .i64 0),.p (.int .i64 0),.p (.int .i64 0),.p (.int .i64 0),.p (.int .i64 0),.p (.int .i64 0),.p (.int .i64 0),.p (.int .i64 0),.p (.int .i64 0),.p (.int .i64 0),.p (.int .i64 0),.p (.int .i64 0),.p (.int .i64 0),.p (.int .i64 0),.p (.int .i64 0),.p (.int .i64 0),.p (.int .i64 0),.p (.int .i64 0),.p (.int .i64 0),.p (.int .i64 0),.p (.int .i64 0),.p (.int .i64 0),.p (.int .i64 0),.p (.int .i64 0),.p (.int .i64 0)] [(0,2,5),(2,2,6),(4,2,7),(6,2,8),(8,2,9),(10,2,10),(12,2,11),(14,2,12),(16,2,13),(18,2,14),(20,2,15),(22,2,16),(24,2,17),(26,2,18),(28,2,19),(30,2,20)]),
mV 22 0,
uO 23 (.idxa 16 (some 2) 21 22),
mV 24 1,
uO 25 (.idxa 2 none 23 24),
mV 4 25] [4])
.ret))
def a_q00o : AFun:=⟨2,[.t 4],P_q00o,false,false⟩
def d_q00o (C : Hd) (gl : GL) (v0 v1 : AV) (h : Heap) (x : Esc) (K : KT) : Prop:=
 pK (oBuild [.p (.int .i64 0),.p (.int .i64 0)] [(0,1,(AI 1)),(1,1,(AI 0))]) fun t1=>
 pK (oBuild [.p (.int .i64 0),.p (.int .i64 0)] [(0,1,(AI 1)),(1,1,(AI 2))]) fun t2=>
 pK (oBuild [.p (.int .i64 0),.p (.int .i64 0)] [(0,1,(AI 3)),(1,1,(AI 9))]) fun t3=>
 pK (oBuild [.p (.int .i64 0),.p (.int .i64 0)] [(0,1,(AI 4)),(1,1,(AI 5))]) fun t4=>
 pK (oBuild [.p (.int .i64 0),.p (.int .i64 0)] [(0,1,(AI 4)),(1,1,(AI 5))]) fun t5=>
 pK (oBuild [.p (.int .i64 0),.p (.int .i64 0)] [(0,1,(AI 6)),(1,1,(AI 8))]) fun t6=>
 pK (oBuild [.p (.int .i64 0),.p (.int .i64 0)] [(0,1,(AI 6)),(1,1,(AI 7))]) fun t7=>
 pK (oBuild [.p (.int .i64 0),.p (.int .i64 0)] [(0,1,(AI 4)),(1,1,(AI 8))]) fun t8=>
 pK (oBuild [.p (.int .i64 0),.p (.int .i64 0)] [(0,1,(AI 1)),(1,1,(AI 2))]) fun t9=>
 pK (oBuild [.p (.int .i64 0),.p (.int .i64 0)] [(0,1,(AI 10)),(1,1,(AI 0))]) fun t10=>
 pK (oBuild [.p (.int .i64 0),.p (.int .i64 0)] [(0,1,(AI 11)),(1,1,(AI 12))]) fun t11=>
 pK (oBuild [.p (.int .i64 0),.p (.int .i64 0)] [(0,1,(AI 11)),(1,1,(AI 12))]) fun t12=>
 pK (oBuild [.p (.int .i64 0),.p (.int .i64 0)] [(0,1,(AI 13)),(1,1,(AI 15))]) fun t13=>
 pK (oBuild [.p (.int .i64 0),.p (.int .i64 0)] [(0,1,(AI 13)),(1,1,(AI 14))]) fun t14=>
 pK (oBuild [.p (.int .i64 0),.p (.int .i64 0)] [(0,1,(AI 11)),(1,1,(AI 15))]) fun t15=>
 pK (oBuild [.p (.int .i64 0),.p (.int .i64 0)] [(0,1,(AI 1)),(1,1,(AI 2))]) fun t16=>
 pK (oBuild [.p (.int .i64 0),.p (.int .i64 0),.p (.int .i64 0),.p (.int .i64 0),.p (.int .i64 0),.p (.int .i64 0),.p (.int .i64 0),.p (.int .i64 0),.p (.int .i64 0),.p (.int .i64 0),.p (.int .i64 0),.p (.int .i64 0),.p (.int .i64 0),.p (.int .i64 0),.p (.int .i64 0),.p (.int .i64 0),.p (.int .i64 0),.p (.int .i64 0),.p (.int .i64 0),.p (.int .i64 0),.p (.int .i64 0),.p (.int .i64 0),.p (.int .i64 0),.p (.int .i64 0),.p (.int .i64 0),.p (.int .i64 0),.p (.int .i64 0),.p (.int .i64 0),.p (.int .i64 0),.p (.int .i64 0),.p (.int .i64 0),.p (.int .i64 0)] [(0,2,t1),(2,2,t2),(4,2,t3),(6,2,t4),(8,2,t5),(10,2,t6),(12,2,t7),(14,2,t8),(16,2,t9),(18,2,t10),(20,2,t11),(22,2,t12),(24,2,t13),(26,2,t14),(28,2,t15),(30,2,t16)]) fun t17=>
 pK (oIdxa 16 (some 2) t17 v0) fun t18=>
 pK (oIdxa 2 none t18 v1) fun t19=>
 K .ret ⟨[(4,t19)],h,x⟩
theorem e_q00o {C gl v0 v1 h x K} : NW C gl a_q00o.body ⟨enter [v0,v1],h,x⟩ K = d_q00o C gl v0 v1 h x K:=by kernel_rfl
def P_q02j : ACode:=(.seq (rg [mV 2 cF] [0])
(.seq (rg [mV 3 0,
bN 4 .eql 3 (cI 0),
mV 5 4,
gD 6 5 false (.mv 0),
gD 7 5 false (.bin .eql 6 (cI 1)),
uO 8 (.pick 5 cT 7),
mV 9 8,
gD 10 9 false (.mv 0),
gD 11 9 false (.bin .eql 10 (cI 6)),
uO 12 (.pick 9 cT 11),
mV 13 12,
gD 14 13 false (.mv 0),
gD 15 13 false (.bin .eql 14 (cI 13)),
uO 16 (.pick 13 cT 15),
mV 2 16] [2])
.ret))
def a_q02j : AFun:=⟨1,[.t 2],P_q02j,false,false⟩
def d_q02j (C : Hd) (gl : GL) (v0 : AV) (h : Heap) (x : Esc) (K : KT) : Prop:=
 pK (oBin .eql v0 (AI 0)) fun t1=>
 gM t1 false v0 h fun t2 h3 y4=>
 gP t1 false (oBin .eql t2 (AI 1)) h3 fun t5 h6 y7=>
 pK (oPick t1 (AB true) t5) fun t8=>
 gM t8 false v0 h6 fun t9 h10 y11=>
 gP t8 false (oBin .eql t9 (AI 6)) h10 fun t12 h13 y14=>
 pK (oPick t8 (AB true) t12) fun t15=>
 gM t15 false v0 h13 fun t16 h17 y18=>
 gP t15 false (oBin .eql t16 (AI 13)) h17 fun t19 h20 y21=>
 pK (oPick t15 (AB true) t19) fun t22=>
 K .ret ⟨[(2,t22)],h20,(y21 ++ (y18 ++ (y14 ++ (y11 ++ (y7 ++ (y4 ++ x))))))⟩
theorem e_q02j {C gl v0 h x K} : NW C gl a_q02j.body ⟨enter [v0],h,x⟩ K = d_q02j C gl v0 h x K:=by kernel_rfl
def P_q028 : ACode:=(.seq (rg [mV 2 cF] [0])
(.seq (rg [mV 3 0,
bN 4 .eql 3 (cI 7),
mV 5 4,
gD 6 5 false (.mv 0),
gD 7 5 false (.bin .eql 6 (cI 8)),
uO 8 (.pick 5 cT 7),
mV 2 8] [2])
.ret))
def a_q028 : AFun:=⟨1,[.t 2],P_q028,false,false⟩
def d_q028 (C : Hd) (gl : GL) (v0 : AV) (h : Heap) (x : Esc) (K : KT) : Prop:=
 pK (oBin .eql v0 (AI 7)) fun t1=>
 gM t1 false v0 h fun t2 h3 y4=>
 gP t1 false (oBin .eql t2 (AI 8)) h3 fun t5 h6 y7=>
 pK (oPick t1 (AB true) t5) fun t8=>
 K .ret ⟨[(2,t8)],h6,(y7 ++ (y4 ++ x))⟩
theorem e_q028 {C gl v0 h x K} : NW C gl a_q028.body ⟨enter [v0],h,x⟩ K = d_q028 C gl v0 h x K:=by kernel_rfl
end Go.Am
end
section
/- The functions asv abstract code,and asv formulas over their values: printed by program out of the translation. -/
set_option linter.unusedVariables false
set_option maxRecDepth 100000
namespace Go.Am
def P_q02g : ACode:=(.seq (rg [uO 1 (.box 0),
mV 2 (cI 0)] [1])
(.seq (.block 0 (.seq (rg [fA 4 3 none 1,
lD 5 none 4,
bN 6 .eql 5 (cS []),
mV 3 6] [1,3])
(.cond 3 (.seq (rg [mV 2 (cI 8)] [2])
.ret)
(.seq (rg [fA 8 3 none 1,
lD 9 none 8,
cL 10 f_q000 [9],
uO 11 (.un .not 10),
mV 7 11] [1,7])
(.cond 7 (.seq (rg [mV 2 (cI 9)] [2])
.ret)
(.seq (rg [fA 13 3 none 1,
lD 14 none 13,
uO 15 (.lens 14),
bN 16 .gtr 15 (cI 2000),
mV 12 16] [1,12])
(.cond 12 (.seq (rg [mV 2 (cI 2)] [2])
.ret)
(.seq (rg [fA 18 4 none 1,
lD 19 none 18,
bN 20 .neq 19 (cS []),
mV 21 20,
gD 22 21 true (.faddr 4 none 1),
gD 23 21 true (.load none 22),
gD 24 21 true (.lens 23),
gD 25 21 true (.faddr 3 none 1),
gD 26 21 true (.load none 25),
gD 27 21 true (.lens 26),
gD 28 21 true (.bin .neq 24 27),
gD 29 21 true (.mv 28),
gD 30 29 false (.faddr 5 none 1),
gD 31 29 false (.load none 30),
gD 32 29 false (.lens 31),
gD 33 29 false (.faddr 3 none 1),
gD 34 29 false (.load none 33),
gD 35 29 false (.lens 34),
gD 36 29 false (.bin .neq 32 35),
gD 37 21 true (.pick 29 cT 36),
uO 38 (.pick 21 37 cF),
mV 17 38] [1,17])
(.cond 17 (.seq (rg [mV 2 (cI 3)] [2])
.ret)
(.seq (rg [fA 40 4 none 1,
lD 41 none 40,
cL 42 f_q000 [41],
uO 43 (.un .not 42),
mV 44 43,
gD 45 44 false (.faddr 5 none 1),
gD 46 44 false (.load none 45),
gD 47 44 false (.call f_q000 [46]),
gD 48 44 false (.un .not 47),
uO 49 (.pick 44 cT 48),
mV 39 49] [1,39])
(.cond 39 (.seq (rg [mV 2 (cI 9)] [2])
.ret)
(.seq (rg [fA 51 4 none 1,
lD 52 none 51,
bN 53 .eql 52 (cS []),
mV 54 53,
gD 55 54 true (.faddr 5 none 1),
gD 56 54 true (.load none 55),
gD 57 54 true (.bin .neq 56 (cS [])),
uO 58 (.pick 54 57 cF),
mV 50 58] [50])
(.cond 50 (.seq (rg [mV 2 (cI 3)] [2])
.ret)
.skip)))))))))))))
(.seq (rg [mV 2 (cI 0)] [2])
.ret)))
def a_q02g : AFun:=⟨1,[.t 2],P_q02g,false,false⟩
def d_q02g (C : Hd) (gl : GL) (v0 : AV) (h : Heap) (x : Esc) (K : KT) : Prop:=
 wK (oBox v0 h) fun t1 h2 y3=>
 pK (oFaddr 3 none t1) fun t4=>
 pK (oLoad none t4 h2) fun t5=>
 pK (oBin .eql t5 (.p (.str []))) fun t6=>
 condB t6 (K .ret ⟨[(2,(AI 8))],h2,(y3 ++ x)⟩)
 (pK (oFaddr 3 none t1) fun t7=>
 pK (oLoad none t7 h2) fun t8=>
 C f_q000 [t8] h2 fun t9 h10 y11=>
 pK (oUn .not t9) fun t12=>
 condB t12 (K .ret ⟨[(2,(AI 9))],h10,(y11 ++ (y3 ++ x))⟩)
 (pK (oFaddr 3 none t1) fun t13=>
 pK (oLoad none t13 h10) fun t14=>
 pK (oLens t14) fun t15=>
 pK (oBin .gtr t15 (AI 2000)) fun t16=>
 condB t16 (K .ret ⟨[(2,(AI 2))],h10,(y11 ++ (y3 ++ x))⟩)
 (pK (oFaddr 4 none t1) fun t17=>
 pK (oLoad none t17 h10) fun t18=>
 pK (oBin .neq t18 (.p (.str []))) fun t19=>
 gP t19 true (oFaddr 4 none t1) h10 fun t20 h21 y22=>
 gP t19 true (oLoad none t20 h21) h21 fun t23 h24 y25=>
 gP t19 true (oLens t23) h24 fun t26 h27 y28=>
 gP t19 true (oFaddr 3 none t1) h27 fun t29 h30 y31=>
 gP t19 true (oLoad none t29 h30) h30 fun t32 h33 y34=>
 gP t19 true (oLens t32) h33 fun t35 h36 y37=>
 gP t19 true (oBin .neq t26 t35) h36 fun t38 h39 y40=>
 gM t19 true t38 h39 fun t41 h42 y43=>
 gP t41 false (oFaddr 5 none t1) h42 fun t44 h45 y46=>
 gP t41 false (oLoad none t44 h45) h45 fun t47 h48 y49=>
 gP t41 false (oLens t47) h48 fun t50 h51 y52=>
 gP t41 false (oFaddr 3 none t1) h51 fun t53 h54 y55=>
 gP t41 false (oLoad none t53 h54) h54 fun t56 h57 y58=>
 gP t41 false (oLens t56) h57 fun t59 h60 y61=>
 gP t41 false (oBin .neq t50 t59) h60 fun t62 h63 y64=>
 gP t19 true (oPick t41 (AB true) t62) h63 fun t65 h66 y67=>
 pK (oPick t19 t65 (AB false)) fun t68=>
 condB t68 (K .ret ⟨[(2,(AI 3))],h66,(y67 ++ (y64 ++ (y61 ++ (y58 ++ (y55 ++ (y52 ++ (y49 ++ (y46 ++ (y43 ++ (y40 ++ (y37 ++ (y34 ++ (y31 ++ (y28 ++ (y25 ++ (y22 ++ (y11 ++ (y3 ++ x))))))))))))))))))⟩)
 (pK (oFaddr 4 none t1) fun t69=>
 pK (oLoad none t69 h66) fun t70=>
 C f_q000 [t70] h66 fun t71 h72 y73=>
 pK (oUn .not t71) fun t74=>
 gP t74 false (oFaddr 5 none t1) h72 fun t75 h76 y77=>
 gP t74 false (oLoad none t75 h76) h76 fun t78 h79 y80=>
 gV t74 false h79 (C f_q000 [t78] h79) fun t81 h82 y83=>
 gP t74 false (oUn .not t81) h82 fun t84 h85 y86=>
 pK (oPick t74 (AB true) t84) fun t87=>
 condB t87 (K .ret ⟨[(2,(AI 9))],h85,(y86 ++ (y83 ++ (y80 ++ (y77 ++ (y73 ++ (y67 ++ (y64 ++ (y61 ++ (y58 ++ (y55 ++ (y52 ++ (y49 ++ (y46 ++ (y43 ++ (y40 ++ (y37 ++ (y34 ++ (y31 ++ (y28 ++ (y25 ++ (y22 ++ (y11 ++ (y3 ++ x)))))))))))))))))))))))⟩)
 (pK (oFaddr 4 none t1) fun t88=>
 pK (oLoad none t88 h85) fun t89=>
 pK (oBin .eql t89 (.p (.str []))) fun t90=>
 gP t90 true (oFaddr 5 none t1) h85 fun t91 h92 y93=>
 gP t90 true (oLoad none t91 h92) h92 fun t94 h95 y96=>
 gP t90 true (oBin .neq t94 (.p (.str []))) h95 fun t97 h98 y99=>
 pK (oPick t90 t97 (AB false)) fun t100=>
 condB t100 (K .ret ⟨[(2,(AI 3))],h98,(y99 ++ (y96 ++ (y93 ++ (y86 ++ (y83 ++ (y80 ++ (y77 ++ (y73 ++ (y67 ++ (y64 ++ (y61 ++ (y58 ++ (y55 ++ (y52 ++ (y49 ++ (y46 ++ (y43 ++ (y40 ++ (y37 ++ (y34 ++ (y31 ++ (y28 ++ (y25 ++ (y22 ++ (y11 ++ (y3 ++ x))))))))))))))))))))))))))⟩)
 (K .ret ⟨[(2,(AI 0))],h98,(y99 ++ (y96 ++ (y93 ++ (y86 ++ (y83 ++ (y80 ++ (y77 ++ (y73 ++ (y67 ++ (y64 ++ (y61 ++ (y58 ++ (y55 ++ (y52 ++ (y49 ++ (y46 ++ (y43 ++ (y40 ++ (y37 ++ (y34 ++ (y31 ++ (y28 ++ (y25 ++ (y22 ++ (y11 ++ (y3 ++ x))))))))))))))))))))))))))⟩))))))
theorem e_q02g {C gl v0 h x K} : NW C gl a_q02g.body ⟨enter [v0],h,x⟩ K = d_q02g C gl v0 h x K:=by kernel_rfl
def P_q000 : ACode:=(.seq (rg [mV 2 cF] [0])
(.seq (rg [mV 3 0,
cL 4 f_q01j [3,(cS [48,49])],
bN 5 .eql 4 (cS []),
mV 2 5] [2])
.ret))
def a_q000 : AFun:=⟨1,[.t 2],P_q000,false,false⟩
def d_q000 (C : Hd) (gl : GL) (v0 : AV) (h : Heap) (x : Esc) (K : KT) : Prop:=
 C f_q01j [v0,(.p (.str [48,49]))] h fun t1 h2 y3=>
 pK (oBin .eql t1 (.p (.str []))) fun t4=>
 K .ret ⟨[(2,t4)],h2,(y3 ++ x)⟩
theorem e_q000 {C gl v0 h x K} : NW C gl a_q000.body ⟨enter [v0],h,x⟩ K = d_q000 C gl v0 h x K:=by kernel_rfl
def P_q029 : ACode:=(.seq (rg [mV 2 cF] [0])
(.seq (rg [mV 3 0,
cL 4 f_q001 [3,(cI 1),(cI 6)],
uO 5 (.un .not 4),
mV 2 5] [2])
.ret))
def a_q029 : AFun:=⟨1,[.t 2],P_q029,false,false⟩
def d_q029 (C : Hd) (gl : GL) (v0 : AV) (h : Heap) (x : Esc) (K : KT) : Prop:=
 C f_q001 [v0,(AI 1),(AI 6)] h fun t1 h2 y3=>
 pK (oUn .not t1) fun t4=>
 K .ret ⟨[(2,t4)],h2,(y3 ++ x)⟩
theorem e_q029 {C gl v0 h x K} : NW C gl a_q029.body ⟨enter [v0],h,x⟩ K = d_q029 C gl v0 h x K:=by kernel_rfl
def P_q02h : ACode:=(.seq (rg [mV 4 (.c (.nilp))] [0,1])
(.seq (.seq (rg [mV 5 1] [0,5])
(.block 0 (.seq (rg [bN 7 .eql 5 (cI 1),
mV 6 7] [0,5,6])
(.cond 6 (.seq (rg [mV 8 0,
uO 9 (.nilchk 8),
fA 10 0 (some 6) 9,
mV 4 10] [4])
.ret)
(.seq (rg [bN 12 .eql 5 (cI 2),
mV 11 12] [0,5,11])
(.cond 11 (.seq (rg [mV 13 0,
uO 14 (.nilchk 13),
fA 15 6 (some 6) 14,
mV 4 15] [4])
.ret)
(.seq (rg [bN 17 .eql 5 (cI 3),
mV 16 17] [0,5,16])
(.cond 16 (.seq (rg [mV 18 0,
uO 19 (.nilchk 18),
fA 20 12 (some 6) 19,
mV 4 20] [4])
.ret)
(.seq (rg [bN 22 .eql 5 (cI 4),
mV 21 22] [0,5,21])
(.cond 21 (.seq (rg [mV 23 0,
uO 24 (.nilchk 23),
fA 25 18 (some 6) 24,
mV 4 25] [4])
.ret)
(.seq (rg [bN 27 .eql 5 (cI 5),
mV 26 27] [0,26])
(.cond 26 (.seq (rg [mV 28 0,
uO 29 (.nilchk 28),
fA 30 24 (some 6) 29,
mV 4 30] [4])
.ret)
.skip))))))))))))
(.seq (rg [mV 31 0,
uO 32 (.nilchk 31),
fA 33 30 (some 6) 32,
mV 4 33] [4])
.ret)))
def a_q02h : AFun:=⟨2,[.t 4],P_q02h,false,false⟩
def d_q02h (C : Hd) (gl : GL) (v0 v1 : AV) (h : Heap) (x : Esc) (K : KT) : Prop:=
 pK (oBin .eql v1 (AI 1)) fun t1=>
 condB t1 (pK (oNil v0) fun t2=>
 pK (oFaddr 0 (some 6) t2) fun t3=>
 K .ret ⟨[(4,t3)],h,x⟩)
 (pK (oBin .eql v1 (AI 2)) fun t4=>
 condB t4 (pK (oNil v0) fun t5=>
 pK (oFaddr 6 (some 6) t5) fun t6=>
 K .ret ⟨[(4,t6)],h,x⟩)
 (pK (oBin .eql v1 (AI 3)) fun t7=>
 condB t7 (pK (oNil v0) fun t8=>
 pK (oFaddr 12 (some 6) t8) fun t9=>
 K .ret ⟨[(4,t9)],h,x⟩)
 (pK (oBin .eql v1 (AI 4)) fun t10=>
 condB t10 (pK (oNil v0) fun t11=>
 pK (oFaddr 18 (some 6) t11) fun t12=>
 K .ret ⟨[(4,t12)],h,x⟩)
 (pK (oBin .eql v1 (AI 5)) fun t13=>
 condB t13 (pK (oNil v0) fun t14=>
 pK (oFaddr 24 (some 6) t14) fun t15=>
 K .ret ⟨[(4,t15)],h,x⟩)
 (pK (oNil v0) fun t16=>
 pK (oFaddr 30 (some 6) t16) fun t17=>
 K .ret ⟨[(4,t17)],h,x⟩)))))
theorem e_q02h {C gl v0 v1 h x K} : NW C gl a_q02h.body ⟨enter [v0,v1],h,x⟩ K = d_q02h C gl v0 v1 h x K:=by kernel_rfl
def p_q02d_k1 : ACode:=.pr [0,3,5,7,9,10,11,12,13,14,93,94] (rg [mV 126 0,
mV 127 13,
mV 128 10,
mV 129 12,
uO 130 (.idxs 128 129),
mV 131 14,
cL 132 f_q02c [126,127,130,131]] [0,3,5,7,9,10,11,93,94])
def d_q02d_k1 (C : Hd) (gl : GL) (v0 v3 v5 v7 v9 v10 v11 v12 v13 v14 v93 v94 : AV) (h : Heap) (x : Esc) (K : KT) : Prop:=
 pK (oIdxs v10 v12) fun t1=>
 C f_q02c [v0,v13,t1,v14] h fun t2 h3 y4=>
 K .normal ⟨[(0,v0),(3,v3),(5,v5),(7,v7),(9,v9),(10,v10),(11,v11),(93,v93),(94,v94)],h3,(y4 ++ x)⟩
theorem e_q02d_k1 {C gl e h x K} : NW C gl p_q02d_k1 ⟨e,h,x⟩ K = d_q02d_k1 C gl (aget e 0) (aget e 3) (aget e 5) (aget e 7) (aget e 9) (aget e 10) (aget e 11) (aget e 12) (aget e 13) (aget e 14) (aget e 93) (aget e 94) h x K:=by kernel_rfl
def P_q02d_k2 (q1 : ACode) : ACode:=.pr [0,3,5,7,9,10,11,12,13,14,93,94] (.seq (.seq (rg [mV 102 12,
mV 103 5,
uO 104 (.lens 103),
bN 105 .sub 102 104,
mV 15 105] [0,3,5,7,9,10,11,12,13,14,15,93,94])
(.seq (rg [mV 106 15,
bN 107 .geq 106 (cI 0),
mV 108 107,
gD 109 108 true (.mv 15),
gD 110 108 true (.faddr 5 none 3),
gD 111 108 true (.load none 110),
gD 112 108 true (.lens 111),
gD 113 108 true (.bin .lss 109 112),
uO 114 (.pick 108 113 cF),
mV 115 114,
gD 116 115 true (.faddr 5 none 3),
gD 117 115 true (.load none 116),
gD 118 115 true (.mv 15),
gD 119 115 true (.idxs 117 118),
gD 120 115 true (.bin .eql 119 (.c (.p (.int .u8 49)))),
uO 121 (.pick 115 120 cF)] [0,3,5,7,9,10,11,12,13,14,15,93,94,121])
(.cond 121 (rg [fA 122 4 none 3,
lD 123 none 122,
mV 124 15,
uO 125 (.idxs 123 124),
mV 14 125] [0,3,5,7,9,10,11,12,13,14,93,94])
.skip)))
q1)
def p_q02d_k2 : ACode:=P_q02d_k2 p_q02d_k1
def d_q02d_k2 (C : Hd) (gl : GL) (q1 : ACode) (v0 v3 v5 v7 v9 v10 v11 v12 v13 v14 v93 v94 : AV) (h : Heap) (x : Esc) (K : KT) : Prop:=
 pK (oLens v5) fun t1=>
 pK (oBin .sub v12 t1) fun t2=>
 pK (oBin .geq t2 (AI 0)) fun t3=>
 gM t3 true t2 h fun t4 h5 y6=>
 gP t3 true (oFaddr 5 none v3) h5 fun t7 h8 y9=>
 gP t3 true (oLoad none t7 h8) h8 fun t10 h11 y12=>
 gP t3 true (oLens t10) h11 fun t13 h14 y15=>
 gP t3 true (oBin .lss t4 t13) h14 fun t16 h17 y18=>
 pK (oPick t3 t16 (AB false)) fun t19=>
 gP t19 true (oFaddr 5 none v3) h17 fun t20 h21 y22=>
 gP t19 true (oLoad none t20 h21) h21 fun t23 h24 y25=>
 gM t19 true t2 h24 fun t26 h27 y28=>
 gP t19 true (oIdxs t23 t26) h27 fun t29 h30 y31=>
 gP t19 true (oBin .eql t29 (.p (.int .u8 49))) h30 fun t32 h33 y34=>
 pK (oPick t19 t32 (AB false)) fun t35=>
 condB t35 (pK (oFaddr 4 none v3) fun t36=>
 pK (oLoad none t36 h33) fun t37=>
 pK (oIdxs t37 t2) fun t38=>
 NW C gl q1 ⟨[(0,v0),(3,v3),(5,v5),(7,v7),(9,v9),(10,v10),(11,v11),(12,v12),(13,v13),(14,t38),(93,v93),(94,v94)],h33,(y34 ++ (y31 ++ (y28 ++ (y25 ++ (y22 ++ (y18 ++ (y15 ++ (y12 ++ (y9 ++ (y6 ++ x))))))))))⟩ K)
 (NW C gl q1 ⟨[(0,v0),(3,v3),(5,v5),(7,v7),(9,v9),(10,v10),(11,v11),(12,v12),(13,v13),(14,v14),(15,t2),(93,v93),(94,v94),(121,t35)],h33,(y34 ++ (y31 ++ (y28 ++ (y25 ++ (y22 ++ (y18 ++ (y15 ++ (y12 ++ (y9 ++ (y6 ++ x))))))))))⟩ K)
theorem E_q02d_k2 {C gl q1 e h x K} : NW C gl (P_q02d_k2 q1) ⟨e,h,x⟩ K = d_q02d_k2 C gl q1 (aget e 0) (aget e 3) (aget e 5) (aget e 7) (aget e 9) (aget e 10) (aget e 11) (aget e 12) (aget e 13) (aget e 14) (aget e 93) (aget e 94) h x K:=by kernel_rfl
theorem e_q02d_k2 {C gl e h x K} : NW C gl p_q02d_k2 ⟨e,h,x⟩ K = d_q02d_k2 C gl p_q02d_k1 (aget e 0) (aget e 3) (aget e 5) (aget e 7) (aget e 9) (aget e 10) (aget e 11) (aget e 12) (aget e 13) (aget e 14) (aget e 93) (aget e 94) h x K:=E_q02d_k2
def p_q02d_k3 : ACode:=.pr [0,3,5,7,9,10,11,93,94] (rg [bN 133 .add 94 (cI 1),
mV 94 133] [0,3,5,7,9,10,11,93,94])
def d_q02d_k3 (C : Hd) (gl : GL) (v0 v3 v5 v7 v9 v10 v11 v93 v94 : AV) (h : Heap) (x : Esc) (K : KT) : Prop:=
 pK (oBin .add v94 (AI 1)) fun t1=>
 K .normal ⟨[(0,v0),(3,v3),(5,v5),(7,v7),(9,v9),(10,v10),(11,v11),(93,v93),(94,t1)],h,x⟩
theorem e_q02d_k3 {C gl e h x K} : NW C gl p_q02d_k3 ⟨e,h,x⟩ K = d_q02d_k3 C gl (aget e 0) (aget e 3) (aget e 5) (aget e 7) (aget e 9) (aget e 10) (aget e 11) (aget e 93) (aget e 94) h x K:=by kernel_rfl
def P_q02d_k4 (q2 q3 : ACode) : ACode:=.pr [0,3,5,7,9,10,11,93,94] (.seq (rg [bN 95 .lss 94 93] [0,3,5,7,9,10,11,93,94,95])
(.seq (.cond 95 .skip
(.exit 0))
(.seq (.block 1 (.seq (rg [mV 96 94,
mV 12 96] [0,3,5,7,9,10,11,12,93,94])
(.seq (rg [mV 13 (.c (.p (.int .u8 48))),
mV 14 (.c (.p (.int .u8 120)))] [0,3,5,7,9,10,11,12,13,14,93,94])
(.seq (.seq (rg [mV 97 12,
mV 98 10,
uO 99 (.lens 98),
bN 100 .sub 99 (cI 1),
bN 101 .eql 97 100] [0,3,5,7,9,10,11,12,13,14,93,94,101])
(.cond 101 (rg [mV 13 (.c (.p (.int .u8 49)))] [0,3,5,7,9,10,11,12,13,14,93,94])
.skip))
q2))))
q3)))
def p_q02d_k4 : ACode:=P_q02d_k4 p_q02d_k2 p_q02d_k3
def d_q02d_k4 (C : Hd) (gl : GL) (q2 q3 : ACode) (v0 v3 v5 v7 v9 v10 v11 v93 v94 : AV) (h : Heap) (x : Esc) (K : KT) : Prop:=
 pK (oBin .lss v94 v93) fun t1=>
 condB t1 (pK (oLens v10) fun t2=>
 pK (oBin .sub t2 (AI 1)) fun t3=>
 pK (oBin .eql v94 t3) fun t4=>
 condB t4 (NW C gl q2 ⟨[(0,v0),(3,v3),(5,v5),(7,v7),(9,v9),(10,v10),(11,v11),(12,v94),(13,(.p (.int .u8 49))),(14,(.p (.int .u8 120))),(93,v93),(94,v94)],h,x⟩ (blockN 1 (seqN C gl q3 K)))
 (NW C gl q2 ⟨[(0,v0),(3,v3),(5,v5),(7,v7),(9,v9),(10,v10),(11,v11),(12,v94),(13,(.p (.int .u8 48))),(14,(.p (.int .u8 120))),(93,v93),(94,v94),(101,t4)],h,x⟩ (blockN 1 (seqN C gl q3 K))))
 (K (.exit 0) ⟨[(0,v0),(3,v3),(5,v5),(7,v7),(9,v9),(10,v10),(11,v11),(93,v93),(94,v94),(95,t1)],h,x⟩)
theorem E_q02d_k4 {C gl q2 q3 e h x K} : NW C gl (P_q02d_k4 q2 q3) ⟨e,h,x⟩ K = d_q02d_k4 C gl q2 q3 (aget e 0) (aget e 3) (aget e 5) (aget e 7) (aget e 9) (aget e 10) (aget e 11) (aget e 93) (aget e 94) h x K:=by kernel_rfl
theorem e_q02d_k4 {C gl e h x K} : NW C gl p_q02d_k4 ⟨e,h,x⟩ K = d_q02d_k4 C gl p_q02d_k2 p_q02d_k3 (aget e 0) (aget e 3) (aget e 5) (aget e 7) (aget e 9) (aget e 10) (aget e 11) (aget e 93) (aget e 94) h x K:=E_q02d_k4
theorem l_q02d_k4 {C gl e h x K} : NW C gl (.loop p_q02d_k4) ⟨e,h,x⟩ K = NLoop C gl p_q02d_k4 K [(0,aget e 0),(3,aget e 3),(5,aget e 5),(7,aget e 7),(9,aget e 9),(10,aget e 10),(11,aget e 11),(93,aget e 93),(94,aget e 94)] h x:=NLoop_pr
def p_q02d_k5 : ACode:=.pr [0,7,9,11] (.seq (rg [mV 134 0,
mV 135 9,
uO 136 (.nilchk 134),
fA 137 36 none 136,
wO (.store none 137 135)] [0,7,11])
(.seq (rg [mV 138 0,
mV 139 7,
cL 140 f_q02f [138,139]] [11])
(.seq (rg [mV 141 11,
mV 4 141] [4])
.ret)))
def d_q02d_k5 (C : Hd) (gl : GL) (v0 v7 v9 v11 : AV) (h : Heap) (x : Esc) (K : KT) : Prop:=
 pK (oNil v0) fun t1=>
 pK (oFaddr 36 none t1) fun t2=>
 wK (oStore none t2 v9 h) fun t3 h4 y5=>
 C f_q02f [v0,v7] h4 fun t6 h7 y8=>
 K .ret ⟨[(4,v11)],h7,(y8 ++ (y5 ++ x))⟩
theorem e_q02d_k5 {C gl e h x K} : NW C gl p_q02d_k5 ⟨e,h,x⟩ K = d_q02d_k5 C gl (aget e 0) (aget e 7) (aget e 9) (aget e 11) h x K:=by kernel_rfl
def P_q02d_k6 (q4 q5 : ACode) : ACode:=.pr [0,3,5,7,9,10] (.seq (rg [mV 85 0,
uO 86 (.nilchk 85),
fA 87 37 none 86,
lD 88 none 87,
mV 89 5,
uO 90 (.lens 89),
bN 91 .add 88 90,
mV 11 91] [0,3,5,7,9,10,11])
(.seq (.seq (rg [mV 92 10,
uO 93 (.lens 92),
mV 94 (cI 0)] [0,3,5,7,9,10,11,93,94])
(.block 0 (.loop q4)))
q5))
def p_q02d_k6 : ACode:=P_q02d_k6 p_q02d_k4 p_q02d_k5
def d_q02d_k6 (C : Hd) (gl : GL) (q4 q5 : ACode) (v0 v3 v5 v7 v9 v10 : AV) (h : Heap) (x : Esc) (K : KT) : Prop:=
 pK (oNil v0) fun t1=>
 pK (oFaddr 37 none t1) fun t2=>
 pK (oLoad none t2 h) fun t3=>
 pK (oLens v5) fun t4=>
 pK (oBin .add t3 t4) fun t5=>
 pK (oLens v10) fun t6=>
 NW C gl (.loop q4) ⟨[(0,v0),(3,v3),(5,v5),(7,v7),(9,v9),(10,v10),(11,t5),(93,t6),(94,(AI 0))],h,x⟩ (blockN 0 (seqN C gl q5 K))
theorem E_q02d_k6 {C gl q4 q5 e h x K} : NW C gl (P_q02d_k6 q4 q5) ⟨e,h,x⟩ K = d_q02d_k6 C gl q4 q5 (aget e 0) (aget e 3) (aget e 5) (aget e 7) (aget e 9) (aget e 10) h x K:=by kernel_rfl
theorem e_q02d_k6 {C gl e h x K} : NW C gl p_q02d_k6 ⟨e,h,x⟩ K = d_q02d_k6 C gl p_q02d_k4 p_q02d_k5 (aget e 0) (aget e 3) (aget e 5) (aget e 7) (aget e 9) (aget e 10) h x K:=E_q02d_k6
def P_q02d_k7 (q6 : ACode) : ACode:=.pr [0,3,5,6,7,8,9] (.seq (rg [mV 55 0,
mV 56 8,
cL 57 f_q02f [55,56]] [0,3,5,6,7,9])
(.seq (rg [mV 58 5,
fA 59 3 none 3,
lD 60 none 59,
bN 61 .add 58 60,
mV 62 6,
bN 63 .add 61 62,
mV 10 63] [0,3,5,7,9,10])
(.seq (.seq (rg [fA 64 0 none 3,
lD 65 none 64,
bN 66 .eql 65 (cI 7)] [0,3,5,7,9,10,66])
(.cond 66 (rg [mV 67 0,
uO 68 (.nilchk 67),
fA 69 38 none 68,
lD 70 none 69,
mV 71 10,
uO 72 (.lens 71),
bN 73 .add 70 72,
uO 74 (.nilchk 67),
fA 75 38 none 74,
wO (.store none 75 73)] [0,3,5,7,9,10])
(rg [mV 76 0,
uO 77 (.nilchk 76),
fA 78 39 none 77,
lD 79 none 78,
mV 80 10,
uO 81 (.lens 80),
bN 82 .add 79 81,
uO 83 (.nilchk 76),
fA 84 39 none 83,
wO (.store none 84 82)] [0,3,5,7,9,10])))
q6)))
def p_q02d_k7 : ACode:=P_q02d_k7 p_q02d_k6
def d_q02d_k7 (C : Hd) (gl : GL) (q6 : ACode) (v0 v3 v5 v6 v7 v8 v9 : AV) (h : Heap) (x : Esc) (K : KT) : Prop:=
 C f_q02f [v0,v8] h fun t1 h2 y3=>
 pK (oFaddr 3 none v3) fun t4=>
 pK (oLoad none t4 h2) fun t5=>
 pK (oBin .add v5 t5) fun t6=>
 pK (oBin .add t6 v6) fun t7=>
 pK (oFaddr 0 none v3) fun t8=>
 pK (oLoad none t8 h2) fun t9=>
 pK (oBin .eql t9 (AI 7)) fun t10=>
 condB t10 (pK (oNil v0) fun t11=>
 pK (oFaddr 38 none t11) fun t12=>
 pK (oLoad none t12 h2) fun t13=>
 pK (oLens t7) fun t14=>
 pK (oBin .add t13 t14) fun t15=>
 pK (oNil v0) fun t16=>
 pK (oFaddr 38 none t16) fun t17=>
 wK (oStore none t17 t15 h2) fun t18 h19 y20=>
 NW C gl q6 ⟨[(0,v0),(3,v3),(5,v5),(7,v7),(9,v9),(10,t7)],h19,(y20 ++ (y3 ++ x))⟩ K)
 (pK (oNil v0) fun t21=>
 pK (oFaddr 39 none t21) fun t22=>
 pK (oLoad none t22 h2) fun t23=>
 pK (oLens t7) fun t24=>
 pK (oBin .add t23 t24) fun t25=>
 pK (oNil v0) fun t26=>
 pK (oFaddr 39 none t26) fun t27=>
 wK (oStore none t27 t25 h2) fun t28 h29 y30=>
 NW C gl q6 ⟨[(0,v0),(3,v3),(5,v5),(7,v7),(9,v9),(10,t7)],h29,(y30 ++ (y3 ++ x))⟩ K)
theorem E_q02d_k7 {C gl q6 e h x K} : NW C gl (P_q02d_k7 q6) ⟨e,h,x⟩ K = d_q02d_k7 C gl q6 (aget e 0) (aget e 3) (aget e 5) (aget e 6) (aget e 7) (aget e 8) (aget e 9) h x K:=by kernel_rfl
theorem e_q02d_k7 {C gl e h x K} : NW C gl p_q02d_k7 ⟨e,h,x⟩ K = d_q02d_k7 C gl p_q02d_k6 (aget e 0) (aget e 3) (aget e 5) (aget e 6) (aget e 7) (aget e 8) (aget e 9) h x K:=E_q02d_k7
def P_q02d (q7 : ACode) : ACode:=(.seq (rg [uO 3 (.box 1),
mV 4 (cI 0)] [0,3])
(.seq (dr [dF (mV 16 0) [0],
dF (uO 17 (.nilchk 16)) [16],
dF (fA 18 0 (some 36) 17) [17],
dF (fA 19 24 (some 6) 18) [18],
dF (fA 20 3 none 19) [19],
dF (lD 21 none 20) [20],
dF (mV 22 0) [0],
dF (uO 23 (.nilchk 22)) [22],
dF (fA 24 0 (some 36) 23) [23],
dF (fA 25 30 (some 6) 24) [24],
dF (fA 26 3 none 25) [25],
dF (lD 27 none 26) [26],
dF (mV 28 0) [0],
dF (uO 29 (.nilchk 28)) [28],
dF (fA 30 0 (some 36) 29) [29],
dF (fA 31 6 (some 6) 30) [30],
dF (fA 32 1 none 31) [31],
dF (lD 33 none 32) [32],
dF (mV 5 21) [21],
dF (mV 6 27) [27],
dF (mV 7 33) [33],
dF (mV 8 (cI 4)) [],
dF (mV 9 (cI 5)) []] [0,3,5,6,7,8,9])
(.seq (.seq (rg [fA 34 0 none 3,
lD 35 none 34,
bN 36 .eql 35 (cI 7)] [0,3,5,6,7,8,9,36])
(.cond 36 (dr [dF (mV 37 0) [0],
dF (uO 38 (.nilchk 37)) [37],
dF (fA 39 0 (some 36) 38) [38],
dF (fA 40 12 (some 6) 39) [39],
dF (fA 41 3 none 40) [40],
dF (lD 42 none 41) [41],
dF (mV 43 0) [0],
dF (uO 44 (.nilchk 43)) [43],
dF (fA 45 0 (some 36) 44) [44],
dF (fA 46 18 (some 6) 45) [45],
dF (fA 47 3 none 46) [46],
dF (lD 48 none 47) [47],
dF (mV 49 0) [0],
dF (uO 50 (.nilchk 49)) [49],
dF (fA 51 0 (some 36) 50) [50],
dF (fA 52 0 (some 6) 51) [51],
dF (fA 53 1 none 52) [52],
dF (lD 54 none 53) [53],
dF (mV 5 42) [42],
dF (mV 6 48) [48],
dF (mV 7 54) [54],
dF (mV 8 (cI 11)) [],
dF (mV 9 (cI 12)) []] [0,3,5,6,7,8,9])
.skip))
q7)))
def a_q02d : AFun:=⟨2,[.t 4],P_q02d p_q02d_k7,false,false⟩
def d_q02d (C : Hd) (gl : GL) (q7 : ACode) (v0 v1 : AV) (h : Heap) (x : Esc) (K : KT) : Prop:=
 wK (oBox v1 h) fun t1 h2 y3=>
 pK (oNil v0) fun t4=>
 pK (oFaddr 0 (some 36) t4) fun t5=>
 pK (oFaddr 24 (some 6) t5) fun t6=>
 pK (oFaddr 3 none t6) fun t7=>
 pK (oLoad none t7 h2) fun t8=>
 pK (oNil v0) fun t9=>
 pK (oFaddr 0 (some 36) t9) fun t10=>
 pK (oFaddr 30 (some 6) t10) fun t11=>
 pK (oFaddr 3 none t11) fun t12=>
 pK (oLoad none t12 h2) fun t13=>
 pK (oNil v0) fun t14=>
 pK (oFaddr 0 (some 36) t14) fun t15=>
 pK (oFaddr 6 (some 6) t15) fun t16=>
 pK (oFaddr 1 none t16) fun t17=>
 pK (oLoad none t17 h2) fun t18=>
 pK (oFaddr 0 none t1) fun t19=>
 pK (oLoad none t19 h2) fun t20=>
 pK (oBin .eql t20 (AI 7)) fun t21=>
 condB t21 (pK (oNil v0) fun t22=>
 pK (oFaddr 0 (some 36) t22) fun t23=>
 pK (oFaddr 12 (some 6) t23) fun t24=>
 pK (oFaddr 3 none t24) fun t25=>
 pK (oLoad none t25 h2) fun t26=>
 pK (oNil v0) fun t27=>
 pK (oFaddr 0 (some 36) t27) fun t28=>
 pK (oFaddr 18 (some 6) t28) fun t29=>
 pK (oFaddr 3 none t29) fun t30=>
 pK (oLoad none t30 h2) fun t31=>
 pK (oNil v0) fun t32=>
 pK (oFaddr 0 (some 36) t32) fun t33=>
 pK (oFaddr 0 (some 6) t33) fun t34=>
 pK (oFaddr 1 none t34) fun t35=>
 pK (oLoad none t35 h2) fun t36=>
 NW C gl q7 ⟨[(0,v0),(3,t1),(5,t26),(6,t31),(7,t36),(8,(AI 11)),(9,(AI 12))],h2,(y3 ++ x)⟩ K)
 (NW C gl q7 ⟨[(0,v0),(3,t1),(5,t8),(6,t13),(7,t18),(8,(AI 4)),(9,(AI 5)),(36,t21)],h2,(y3 ++ x)⟩ K)
theorem E_q02d {C gl q7 v0 v1 h x K} : NW C gl (P_q02d q7) ⟨enter [v0,v1],h,x⟩ K = d_q02d C gl q7 v0 v1 h x K:=by kernel_rfl
theorem e_q02d {C gl v0 v1 h x K} : NW C gl a_q02d.body ⟨enter [v0,v1],h,x⟩ K = d_q02d C gl p_q02d_k7 v0 v1 h x K:=E_q02d
def p_q02f_k1 : ACode:=.pr [0,1,4,17,18] (.seq (rg [bN 19 .lss 18 17] [0,1,4,17,18,19])
(.seq (.cond 19 .skip
(.exit 0))
(.seq (.block 1 (.seq (rg [mV 20 18,
mV 6 20] [0,1,4,6,17,18])
(rg [mV 21 0,
mV 22 4,
mV 23 6,
uO 24 (.idxs 22 23),
cL 25 f_q02c [21,24,(.c (.p (.int .u8 48))),(.c (.p (.int .u8 120)))]] [0,1,4,17,18])))
(rg [bN 26 .add 18 (cI 1),
mV 18 26] [0,1,4,17,18]))))
def d_q02f_k1 (C : Hd) (gl : GL) (v0 v1 v4 v17 v18 : AV) (h : Heap) (x : Esc) (K : KT) : Prop:=
 pK (oBin .lss v18 v17) fun t1=>
 condB t1 (pK (oIdxs v4 v18) fun t2=>
 C f_q02c [v0,t2,(.p (.int .u8 48)),(.p (.int .u8 120))] h fun t3 h4 y5=>
 pK (oBin .add v18 (AI 1)) fun t6=>
 K .normal ⟨[(0,v0),(1,v1),(4,v4),(17,v17),(18,t6)],h4,(y5 ++ x)⟩)
 (K (.exit 0) ⟨[(0,v0),(1,v1),(4,v4),(17,v17),(18,v18),(19,t1)],h,x⟩)
theorem e_q02f_k1 {C gl e h x K} : NW C gl p_q02f_k1 ⟨e,h,x⟩ K = d_q02f_k1 C gl (aget e 0) (aget e 1) (aget e 4) (aget e 17) (aget e 18) h x K:=by kernel_rfl
theorem l_q02f_k1 {C gl e h x K} : NW C gl (.loop p_q02f_k1) ⟨e,h,x⟩ K = NLoop C gl p_q02f_k1 K [(0,aget e 0),(1,aget e 1),(4,aget e 4),(17,aget e 17),(18,aget e 18)] h x:=NLoop_pr
def p_q02f_k2 : ACode:=.pr [0,1] (rg [mV 27 0,
mV 28 1,
uO 29 (.nilchk 27),
fA 30 36 none 29,
wO (.store none 30 28)] [])
def d_q02f_k2 (C : Hd) (gl : GL) (v0 v1 : AV) (h : Heap) (x : Esc) (K : KT) : Prop:=
 pK (oNil v0) fun t1=>
 pK (oFaddr 36 none t1) fun t2=>
 wK (oStore none t2 v1 h) fun t3 h4 y5=>
 K .normal ⟨[],h4,(y5 ++ x)⟩
theorem e_q02f_k2 {C gl e h x K} : NW C gl p_q02f_k2 ⟨e,h,x⟩ K = d_q02f_k2 C gl (aget e 0) (aget e 1) h x K:=by kernel_rfl
def P_q02f (q1 q2 : ACode) : ACode:=(.seq (rg [mV 8 0,
uO 9 (.nilchk 8),
fA 10 36 none 9,
lD 11 none 10,
mV 12 1,
cL 13 f_q01s [11,12],
mV 7 13,
eX 14 7 0,
eX 15 7 1,
mV 4 14,
mV 5 15] [0,1,4])
(.seq (.seq (rg [mV 16 4,
uO 17 (.lens 16),
mV 18 (cI 0)] [0,1,4,17,18])
(.block 0 (.loop q1)))
q2))
def a_q02f : AFun:=⟨2,[],P_q02f p_q02f_k1 p_q02f_k2,false,false⟩
def d_q02f (C : Hd) (gl : GL) (q1 q2 : ACode) (v0 v1 : AV) (h : Heap) (x : Esc) (K : KT) : Prop:=
 pK (oNil v0) fun t1=>
 pK (oFaddr 36 none t1) fun t2=>
 pK (oLoad none t2 h) fun t3=>
 C f_q01s [t3,v1] h fun t4 h5 y6=>
 pK (oExt t4 0) fun t7=>
 pK (oExt t4 1) fun t8=>
 pK (oLens t7) fun t9=>
 NW C gl (.loop q1) ⟨[(0,v0),(1,v1),(4,t7),(17,t9),(18,(AI 0))],h5,(y6 ++ x)⟩ (blockN 0 (seqN C gl q2 K))
theorem E_q02f {C gl q1 q2 v0 v1 h x K} : NW C gl (P_q02f q1 q2) ⟨enter [v0,v1],h,x⟩ K = d_q02f C gl q1 q2 v0 v1 h x K:=by kernel_rfl
theorem e_q02f {C gl v0 v1 h x K} : NW C gl a_q02f.body ⟨enter [v0,v1],h,x⟩ K = d_q02f C gl p_q02f_k1 p_q02f_k2 v0 v1 h x K:=E_q02f
def P_q02c : ACode:=(.seq (rg [mV 8 0,
uO 9 (.nilchk 8),
fA 10 37 none 9,
lD 11 none 10,
bN 12 .add 11 (cI 1),
uO 13 (.nilchk 8),
fA 14 37 none 13,
wO (.store none 14 12)] [0,1,2,3])
(.seq (rg [mV 15 0,
uO 16 (.nilchk 15),
fA 17 45 none 16,
lD 18 none 17] [0,1,2,3,18])
(.cond 18 (dr [dF (mV 19 0) [0],
dF (mV 20 0) [0],
dF (mV 21 0) [0],
dF (mV 22 0) [0],
dF (uO 23 (.nilchk 22)) [22],
dF (fA 24 42 none 23) [23],
dF (lD 25 none 24) [24],
dF (mV 26 1) [1],
dF (uO 27 (.bsl false none 1 (.int .u8 0) [(0,26)])) [26],
dT (uO 28 (.app none 25 27)) [25,27],
dF (mV 29 0) [0],
dF (uO 30 (.nilchk 29)) [29],
dF (fA 31 43 none 30) [30],
dA (lD 32 none 31) [31] false [9] [],
dF (mV 33 2) [2],
dA (uO 34 (.bsl false none 1 (.int .u8 0) [(0,33)])) [33] false [9] [],
dT (uO 35 (.app none 32 34)) [32,34],
dF (mV 36 0) [0],
dF (uO 37 (.nilchk 36)) [36],
dF (fA 38 44 none 37) [37],
dA (lD 39 none 38) [38] false [9,16] [],
dF (mV 40 3) [3],
dA (uO 41 (.bsl false none 1 (.int .u8 0) [(0,40)])) [40] false [9,16] [],
dT (uO 42 (.app none 39 41)) [39,41],
dF (uO 43 (.nilchk 19)) [19],
dF (fA 44 42 none 43) [43],
dT (wO (.store none 44 28)) [44,28],
dF (uO 45 (.nilchk 20)) [20],
dF (fA 46 43 none 45) [45],
dT (wO (.store none 46 35)) [46,35],
dF (uO 47 (.nilchk 21)) [21],
dF (fA 48 44 none 47) [47],
dT (wO (.store none 48 42)) [48,42]] [])
.skip)))
def a_q02c : AFun:=⟨4,[],P_q02c,false,false⟩
def d_q02c (C : Hd) (gl : GL) (v0 v1 v2 v3 : AV) (h : Heap) (x : Esc) (K : KT) : Prop:=
 pK (oNil v0) fun t1=>
 pK (oFaddr 37 none t1) fun t2=>
 pK (oLoad none t2 h) fun t3=>
 pK (oBin .add t3 (AI 1)) fun t4=>
 pK (oNil v0) fun t5=>
 pK (oFaddr 37 none t5) fun t6=>
 wK (oStore none t6 t4 h) fun t7 h8 y9=>
 pK (oNil v0) fun t10=>
 pK (oFaddr 45 none t10) fun t11=>
 pK (oLoad none t11 h8) fun t12=>
 condB t12 (pK (oNil v0) fun t13=>
 pK (oFaddr 42 none t13) fun t14=>
 pK (oLoad none t14 h8) fun t15=>
 wK (oBsl false none 1 (.int .u8 0) [(0,v1)] h8) fun t16 h17 y18=>
 (h17 = h8 ∧ y18 = []) ∧ (wK (oApp none t15 t16 h17) fun t19 h20 y21=>
 pK (oNil v0) fun t22=>
 pK (oFaddr 43 none t22) fun t23=>
 pK (oLoad none t23 h20) fun t24=>
 (pK (oLoad none t23 h17) fun v=>(fun u (g1 : Heap) (y1 : Esc)=>u = t24 ∧ g1 = h17 ∧ y1 = []) v h17 []) ∧ (wK (oBsl false none 1 (.int .u8 0) [(0,v2)] h20) fun t25 h26 y27=>
 (h26 = h20 ∧ y27 = []) ∧ ((wK (oBsl false none 1 (.int .u8 0) [(0,v2)] h17) (fun u (g1 : Heap) (y1 : Esc)=>u = t25 ∧ g1 = h17 ∧ y1 = [])) ∧ (wK (oApp none t24 t25 h26) fun t28 h29 y30=>
 pK (oNil v0) fun t31=>
 pK (oFaddr 44 none t31) fun t32=>
 pK (oLoad none t32 h29) fun t33=>
 (pK (oLoad none t32 h17) fun v=>(fun u (g1 : Heap) (y1 : Esc)=>u = t33 ∧ g1 = h17 ∧ y1 = []) v h17 []) ∧ ((pK (oLoad none t32 h26) fun v=>(fun u (g1 : Heap) (y1 : Esc)=>u = t33 ∧ g1 = h26 ∧ y1 = []) v h26 []) ∧ (wK (oBsl false none 1 (.int .u8 0) [(0,v3)] h29) fun t34 h35 y36=>
 (h35 = h29 ∧ y36 = []) ∧ ((wK (oBsl false none 1 (.int .u8 0) [(0,v3)] h17) (fun u (g1 : Heap) (y1 : Esc)=>u = t34 ∧ g1 = h17 ∧ y1 = [])) ∧ ((wK (oBsl false none 1 (.int .u8 0) [(0,v3)] h26) (fun u (g1 : Heap) (y1 : Esc)=>u = t34 ∧ g1 = h26 ∧ y1 = [])) ∧ (wK (oApp none t33 t34 h35) fun t37 h38 y39=>
 pK (oNil v0) fun t40=>
 pK (oFaddr 42 none t40) fun t41=>
 wK (oStore none t41 t19 h38) fun t42 h43 y44=>
 pK (oNil v0) fun t45=>
 pK (oFaddr 43 none t45) fun t46=>
 wK (oStore none t46 t28 h43) fun t47 h48 y49=>
 pK (oNil v0) fun t50=>
 pK (oFaddr 44 none t50) fun t51=>
 wK (oStore none t51 t37 h48) fun t52 h53 y54=>
 K .normal ⟨[],h53,(y54 ++ (y49 ++ (y44 ++ (y39 ++ (y36 ++ (y30 ++ (y27 ++ (y21 ++ (y18 ++ (y9 ++ x))))))))))⟩))))))))))
 (K .normal ⟨[(0,v0),(1,v1),(2,v2),(3,v3),(18,t12)],h8,(y9 ++ x)⟩)
theorem e_q02c {C gl v0 v1 v2 v3 h x K} : NW C gl a_q02c.body ⟨enter [v0,v1,v2,v3],h,x⟩ K = d_q02c C gl v0 v1 v2 v3 h x K:=by kernel_rfl
def P_q015 : ACode:=(.seq (rg [mV 4 cF] [0,1])
(.seq (rg [mV 5 0,
mV 6 1,
cL 7 f_q017 [5,6],
bN 8 .geq 7 (cI 0),
mV 4 8] [4])
.ret))
def a_q015 : AFun:=⟨2,[.t 4],P_q015,true,false⟩
def d_q015 (C : Hd) (gl : GL) (v0 v1 : AV) (h : Heap) (x : Esc) (K : KT) : Prop:=
 C f_q017 [v0,v1] h fun t1 h2 y3=>
 pK (oBin .geq t1 (AI 0)) fun t4=>
 K .ret ⟨[(4,t4)],h2,(y3 ++ x)⟩
theorem e_q015 {C gl v0 v1 h x K} : NW C gl a_q015.body ⟨enter [v0,v1],h,x⟩ K = d_q015 C gl v0 v1 h x K:=by kernel_rfl
def p_q00x_k1 : ACode:=.pr [0,1,7,8] (.seq (rg [bN 9 .lss 8 7] [0,1,7,8,9])
(.seq (.cond 9 .skip
(.exit 0))
(.seq (.block 1 (.seq (rg [mV 10 8,
mV 5 10] [0,1,5,7,8])
(.seq (rg [mV 11 1,
mV 12 0,
mV 13 5,
uO 14 (.idxs 12 13),
cL 15 f_q01g [11,14],
bN 16 .lss 15 (cI 0)] [0,1,7,8,16])
(.cond 16 (.seq (rg [mV 4 cF] [4])
.ret)
.skip))))
(rg [bN 17 .add 8 (cI 1),
mV 8 17] [0,1,7,8]))))
def d_q00x_k1 (C : Hd) (gl : GL) (v0 v1 v7 v8 : AV) (h : Heap) (x : Esc) (K : KT) : Prop:=
 pK (oBin .lss v8 v7) fun t1=>
 condB t1 (pK (oIdxs v0 v8) fun t2=>
 C f_q01g [v1,t2] h fun t3 h4 y5=>
 pK (oBin .lss t3 (AI 0)) fun t6=>
 condB t6 (K .ret ⟨[(4,(AB false))],h4,(y5 ++ x)⟩)
 (pK (oBin .add v8 (AI 1)) fun t7=>
 K .normal ⟨[(0,v0),(1,v1),(7,v7),(8,t7)],h4,(y5 ++ x)⟩))
 (K (.exit 0) ⟨[(0,v0),(1,v1),(7,v7),(8,v8),(9,t1)],h,x⟩)
theorem e_q00x_k1 {C gl e h x K} : NW C gl p_q00x_k1 ⟨e,h,x⟩ K = d_q00x_k1 C gl (aget e 0) (aget e 1) (aget e 7) (aget e 8) h x K:=by kernel_rfl
theorem l_q00x_k1 {C gl e h x K} : NW C gl (.loop p_q00x_k1) ⟨e,h,x⟩ K = NLoop C gl p_q00x_k1 K [(0,aget e 0),(1,aget e 1),(7,aget e 7),(8,aget e 8)] h x:=NLoop_pr
def p_q00x_k2 : ACode:=.pr [] (.seq (rg [mV 4 cT] [4])
.ret)
def d_q00x_k2 (C : Hd) (gl : GL) (h : Heap) (x : Esc) (K : KT) : Prop:=
 K .ret ⟨[(4,(AB true))],h,x⟩
theorem e_q00x_k2 {C gl e h x K} : NW C gl p_q00x_k2 ⟨e,h,x⟩ K = d_q00x_k2 C gl h x K:=by kernel_rfl
def P_q00x (q1 q2 : ACode) : ACode:=(.seq (rg [mV 4 cF] [0,1])
(.seq (.seq (rg [mV 6 0,
uO 7 (.lens 6),
mV 8 (cI 0)] [0,1,7,8])
(.block 0 (.loop q1)))
q2))
def a_q00x : AFun:=⟨2,[.t 4],P_q00x p_q00x_k1 p_q00x_k2,false,false⟩
def d_q00x (C : Hd) (gl : GL) (q1 q2 : ACode) (v0 v1 : AV) (h : Heap) (x : Esc) (K : KT) : Prop:=
 pK (oLens v0) fun t1=>
 NW C gl (.loop q1) ⟨[(0,v0),(1,v1),(7,t1),(8,(AI 0))],h,x⟩ (blockN 0 (seqN C gl q2 K))
theorem E_q00x {C gl q1 q2 v0 v1 h x K} : NW C gl (P_q00x q1 q2) ⟨enter [v0,v1],h,x⟩ K = d_q00x C gl q1 q2 v0 v1 h x K:=by kernel_rfl
theorem e_q00x {C gl v0 v1 h x K} : NW C gl a_q00x.body ⟨enter [v0,v1],h,x⟩ K = d_q00x C gl p_q00x_k1 p_q00x_k2 v0 v1 h x K:=E_q00x
def p_q00m_k1 : ACode:=.pr [0,1,6,8,9,12,13,14] (.seq (.seq (rg [mV 31 9,
mV 32 1,
bN 33 .eql 31 32] [0,1,6,8,12,13,14,33])
(.cond 33 (.seq (rg [mV 34 8,
mV 4 34] [4])
.ret)
.skip))
(rg [mV 35 6,
mV 36 8,
bN 37 .add 36 (cS [48]),
mV 38 8,
bN 39 .add 38 (cS [49]),
uO 40 (.bsl false none 2 (.str []) [(0,37),(1,39)]),
uO 41 (.app none 35 40),
mV 6 41] [0,1,6,12,13,14]))
def d_q00m_k1 (C : Hd) (gl : GL) (v0 v1 v6 v8 v9 v12 v13 v14 : AV) (h : Heap) (x : Esc) (K : KT) : Prop:=
 pK (oBin .eql v9 v1) fun t1=>
 condB t1 (K .ret ⟨[(4,v8)],h,x⟩)
 (pK (oBin .add v8 (.p (.str [48]))) fun t2=>
 pK (oBin .add v8 (.p (.str [49]))) fun t3=>
 wK (oBsl false none 2 (.str []) [(0,t2),(1,t3)] h) fun t4 h5 y6=>
 wK (oApp none v6 t4 h5) fun t7 h8 y9=>
 K .normal ⟨[(0,v0),(1,v1),(6,t7),(12,v12),(13,v13),(14,v14)],h8,(y9 ++ (y6 ++ x))⟩)
theorem e_q00m_k1 {C gl e h x K} : NW C gl p_q00m_k1 ⟨e,h,x⟩ K = d_q00m_k1 C gl (aget e 0) (aget e 1) (aget e 6) (aget e 8) (aget e 9) (aget e 12) (aget e 13) (aget e 14) h x K:=by kernel_rfl
def p_q00m_k2 : ACode:=.pr [0,1,6,12,13,14] (rg [bN 42 .add 14 (cI 1),
mV 14 42] [0,1,6,12,13,14])
def d_q00m_k2 (C : Hd) (gl : GL) (v0 v1 v6 v12 v13 v14 : AV) (h : Heap) (x : Esc) (K : KT) : Prop:=
 pK (oBin .add v14 (AI 1)) fun t1=>
 K .normal ⟨[(0,v0),(1,v1),(6,v6),(12,v12),(13,v13),(14,t1)],h,x⟩
theorem e_q00m_k2 {C gl e h x K} : NW C gl p_q00m_k2 ⟨e,h,x⟩ K = d_q00m_k2 C gl (aget e 0) (aget e 1) (aget e 6) (aget e 12) (aget e 13) (aget e 14) h x K:=by kernel_rfl
def P_q00m_k3 (q1 q2 : ACode) : ACode:=.pr [0,1,6,12,13,14] (.seq (rg [bN 15 .lss 14 13] [0,1,6,12,13,14,15])
(.seq (.cond 15 .skip
(.exit 2))
(.seq (.block 3 (.seq (rg [iA 16 none 12 14,
lD 17 none 16,
mV 8 17] [0,1,6,8,12,13,14])
(.seq (rg [mV 18 0,
mV 9 18] [0,1,6,8,9,12,13,14])
(.seq (.seq (rg [mV 19 0,
mV 20 8,
cL 21 f_q00n [19,20],
mV 10 21] [0,1,6,8,9,10,12,13,14])
(.seq (rg [mV 22 10,
lN 23 22,
bN 24 .gtr 23 (cI 0)] [0,1,6,8,9,10,12,13,14,24])
(.cond 24 (rg [mV 25 10,
mV 26 10,
lN 27 26,
bN 28 .sub 27 (cI 1),
iA 29 none 25 28,
lD 30 none 29,
mV 9 30] [0,1,6,8,9,12,13,14])
.skip)))
q1))))
q2)))
def p_q00m_k3 : ACode:=P_q00m_k3 p_q00m_k1 p_q00m_k2
def d_q00m_k3 (C : Hd) (gl : GL) (q1 q2 : ACode) (v0 v1 v6 v12 v13 v14 : AV) (h : Heap) (x : Esc) (K : KT) : Prop:=
 pK (oBin .lss v14 v13) fun t1=>
 condB t1 (pK (oIaddr none v12 v14 h) fun t2=>
 pK (oLoad none t2 h) fun t3=>
 C f_q00n [v0,t3] h fun t4 h5 y6=>
 pK (oLen t4) fun t7=>
 pK (oBin .gtr t7 (AI 0)) fun t8=>
 condB t8 (pK (oLen t4) fun t9=>
 pK (oBin .sub t9 (AI 1)) fun t10=>
 pK (oIaddr none t4 t10 h5) fun t11=>
 pK (oLoad none t11 h5) fun t12=>
 NW C gl q1 ⟨[(0,v0),(1,v1),(6,v6),(8,t3),(9,t12),(12,v12),(13,v13),(14,v14)],h5,(y6 ++ x)⟩ (blockN 3 (seqN C gl q2 K)))
 (NW C gl q1 ⟨[(0,v0),(1,v1),(6,v6),(8,t3),(9,v0),(10,t4),(12,v12),(13,v13),(14,v14),(24,t8)],h5,(y6 ++ x)⟩ (blockN 3 (seqN C gl q2 K))))
 (K (.exit 2) ⟨[(0,v0),(1,v1),(6,v6),(12,v12),(13,v13),(14,v14),(15,t1)],h,x⟩)
theorem E_q00m_k3 {C gl q1 q2 e h x K} : NW C gl (P_q00m_k3 q1 q2) ⟨e,h,x⟩ K = d_q00m_k3 C gl q1 q2 (aget e 0) (aget e 1) (aget e 6) (aget e 12) (aget e 13) (aget e 14) h x K:=by kernel_rfl
theorem e_q00m_k3 {C gl e h x K} : NW C gl p_q00m_k3 ⟨e,h,x⟩ K = d_q00m_k3 C gl p_q00m_k1 p_q00m_k2 (aget e 0) (aget e 1) (aget e 6) (aget e 12) (aget e 13) (aget e 14) h x K:=E_q00m_k3
theorem l_q00m_k3 {C gl e h x K} : NW C gl (.loop (.scope p_q00m_k3)) ⟨e,h,x⟩ K = NLoop C gl (.scope p_q00m_k3) K [(0,aget e 0),(1,aget e 1),(6,aget e 6),(12,aget e 12),(13,aget e 13),(14,aget e 14)] h x:=NLoop_sc
def p_q00m_k4 : ACode:=.pr [0,1,6] (rg [mV 43 6,
mV 5 43] [0,1,5])
def d_q00m_k4 (C : Hd) (gl : GL) (v0 v1 v6 : AV) (h : Heap) (x : Esc) (K : KT) : Prop:=
 K .normal ⟨[(0,v0),(1,v1),(5,v6)],h,x⟩
theorem e_q00m_k4 {C gl e h x K} : NW C gl p_q00m_k4 ⟨e,h,x⟩ K = d_q00m_k4 C gl (aget e 0) (aget e 1) (aget e 6) h x K:=by kernel_rfl
def P_q00m_k5 (q3 q4 : ACode) : ACode:=.pr [0,1,5] (.block 1 (.seq (rg [uO 6 (.new0 none)] [0,1,5,6])
(.seq (.seq (rg [mV 12 5,
lN 13 12,
mV 14 (cI 0)] [0,1,6,12,13,14])
(.block 2 (.loop (.scope q3))))
q4)))
def p_q00m_k5 : ACode:=P_q00m_k5 p_q00m_k3 p_q00m_k4
def d_q00m_k5 (C : Hd) (gl : GL) (q3 q4 : ACode) (v0 v1 v5 : AV) (h : Heap) (x : Esc) (K : KT) : Prop:=
 nwK none h fun t1 h2 y3=>
 pK (oLen v5) fun t4=>
 NW C gl (.loop (.scope q3)) ⟨[(0,v0),(1,v1),(6,t1),(12,v5),(13,t4),(14,(AI 0))],h2,(y3 ++ x)⟩ (blockN 2 (seqN C gl q4 (blockN 1 K)))
theorem E_q00m_k5 {C gl q3 q4 e h x K} : NW C gl (P_q00m_k5 q3 q4) ⟨e,h,x⟩ K = d_q00m_k5 C gl q3 q4 (aget e 0) (aget e 1) (aget e 5) h x K:=by kernel_rfl
theorem e_q00m_k5 {C gl e h x K} : NW C gl p_q00m_k5 ⟨e,h,x⟩ K = d_q00m_k5 C gl p_q00m_k3 p_q00m_k4 (aget e 0) (aget e 1) (aget e 5) h x K:=E_q00m_k5
theorem l_q00m_k5 {C gl e h x K} : NW C gl (.loop p_q00m_k5) ⟨e,h,x⟩ K = NLoop C gl p_q00m_k5 K [(0,aget e 0),(1,aget e 1),(5,aget e 5)] h x:=NLoop_pr
def P_q00m (q5 : ACode) : ACode:=(.seq (rg [mV 4 (cS [])] [0,1])
(.seq (rg [uO 11 (.bsl false none 1 (.str []) [(0,(cS []))]),
mV 5 11] [0,1,5])
(.block 0 (.loop q5))))
def a_q00m : AFun:=⟨2,[.t 4],P_q00m p_q00m_k5,false,false⟩
def d_q00m (C : Hd) (gl : GL) (q5 : ACode) (v0 v1 : AV) (h : Heap) (x : Esc) (K : KT) : Prop:=
 wK (oBsl false none 1 (.str []) [(0,(.p (.str [])))] h) fun t1 h2 y3=>
 NW C gl (.loop q5) ⟨[(0,v0),(1,v1),(5,t1)],h2,(y3 ++ x)⟩ (blockN 0 K)
theorem E_q00m {C gl q5 v0 v1 h x K} : NW C gl (P_q00m q5) ⟨enter [v0,v1],h,x⟩ K = d_q00m C gl q5 v0 v1 h x K:=by kernel_rfl
theorem e_q00m {C gl v0 v1 h x K} : NW C gl a_q00m.body ⟨enter [v0,v1],h,x⟩ K = d_q00m C gl p_q00m_k5 v0 v1 h x K:=E_q00m
def p_q00v_k1 : ACode:=.pr [1,3,12,13] (rg [bN 28 .add 13 (cI 1),
mV 13 28] [1,3,12,13])
def d_q00v_k1 (C : Hd) (gl : GL) (v1 v3 v12 v13 : AV) (h : Heap) (x : Esc) (K : KT) : Prop:=
 pK (oBin .add v13 (AI 1)) fun t1=>
 K .normal ⟨[(1,v1),(3,v3),(12,v12),(13,t1)],h,x⟩
theorem e_q00v_k1 {C gl e h x K} : NW C gl p_q00v_k1 ⟨e,h,x⟩ K = d_q00v_k1 C gl (aget e 1) (aget e 3) (aget e 12) (aget e 13) h x K:=by kernel_rfl
def P_q00v_k2 (q1 : ACode) : ACode:=.pr [1,3,12,13] (.seq (rg [bN 14 .lss 13 12] [1,3,12,13,14])
(.seq (.cond 14 .skip
(.exit 0))
(.seq (.block 1 (.seq (rg [mV 15 13,
mV 4 15] [1,3,4,12,13])
(.seq (rg [fA 16 5 none 1,
lD 17 none 16,
mV 18 4,
uO 19 (.idxs 17 18),
bN 20 .eql 19 (.c (.p (.int .u8 49)))] [1,3,4,12,13,20])
(.cond 20 (rg [mV 21 3,
mV 22 4,
fA 23 4 none 1,
lD 24 none 23,
mV 25 4,
uO 26 (.idxs 24 25),
iA 27 none 21 22,
wO (.store none 27 26)] [1,3,12,13])
.skip))))
q1)))
def p_q00v_k2 : ACode:=P_q00v_k2 p_q00v_k1
def d_q00v_k2 (C : Hd) (gl : GL) (q1 : ACode) (v1 v3 v12 v13 : AV) (h : Heap) (x : Esc) (K : KT) : Prop:=
 pK (oBin .lss v13 v12) fun t1=>
 condB t1 (pK (oFaddr 5 none v1) fun t2=>
 pK (oLoad none t2 h) fun t3=>
 pK (oIdxs t3 v13) fun t4=>
 pK (oBin .eql t4 (.p (.int .u8 49))) fun t5=>
 condB t5 (pK (oFaddr 4 none v1) fun t6=>
 pK (oLoad none t6 h) fun t7=>
 pK (oIdxs t7 v13) fun t8=>
 pK (oIaddr none v3 v13 h) fun t9=>
 wK (oStore none t9 t8 h) fun t10 h11 y12=>
 NW C gl q1 ⟨[(1,v1),(3,v3),(12,v12),(13,v13)],h11,(y12 ++ x)⟩ K)
 (NW C gl q1 ⟨[(1,v1),(3,v3),(4,v13),(12,v12),(13,v13),(20,t5)],h,x⟩ K))
 (K (.exit 0) ⟨[(1,v1),(3,v3),(12,v12),(13,v13),(14,t1)],h,x⟩)
theorem E_q00v_k2 {C gl q1 e h x K} : NW C gl (P_q00v_k2 q1) ⟨e,h,x⟩ K = d_q00v_k2 C gl q1 (aget e 1) (aget e 3) (aget e 12) (aget e 13) h x K:=by kernel_rfl
theorem e_q00v_k2 {C gl e h x K} : NW C gl p_q00v_k2 ⟨e,h,x⟩ K = d_q00v_k2 C gl p_q00v_k1 (aget e 1) (aget e 3) (aget e 12) (aget e 13) h x K:=E_q00v_k2
theorem l_q00v_k2 {C gl e h x K} : NW C gl (.loop p_q00v_k2) ⟨e,h,x⟩ K = NLoop C gl p_q00v_k2 K [(1,aget e 1),(3,aget e 3),(12,aget e 12),(13,aget e 13)] h x:=NLoop_pr
def p_q00v_k3 : ACode:=.pr [3] (.seq (rg [mV 29 3,
uO 30 (.conv .b2s 29),
mV 2 30] [2])
.ret)
def d_q00v_k3 (C : Hd) (gl : GL) (v3 : AV) (h : Heap) (x : Esc) (K : KT) : Prop:=
 wK (oConv .b2s v3 h) fun t1 h2 y3=>
 K .ret ⟨[(2,t1)],h2,(y3 ++ x)⟩
theorem e_q00v_k3 {C gl e h x K} : NW C gl p_q00v_k3 ⟨e,h,x⟩ K = d_q00v_k3 C gl (aget e 3) h x K:=by kernel_rfl
def P_q00v (q2 q3 : ACode) : ACode:=(.seq (rg [uO 1 (.box 0),
mV 2 (cS [])] [1])
(.seq (rg [fA 5 3 none 1,
lD 6 none 5,
uO 7 (.lens 6),
cL 8 f_q01i [(cS [120]),7],
uO 9 (.conv .s2b 8),
mV 3 9] [1,3])
(.seq (.seq (rg [fA 10 5 none 1,
lD 11 none 10,
uO 12 (.lens 11),
mV 13 (cI 0)] [1,3,12,13])
(.block 0 (.loop q2)))
q3)))
def a_q00v : AFun:=⟨1,[.t 2],P_q00v p_q00v_k2 p_q00v_k3,false,false⟩
def d_q00v (C : Hd) (gl : GL) (q2 q3 : ACode) (v0 : AV) (h : Heap) (x : Esc) (K : KT) : Prop:=
 wK (oBox v0 h) fun t1 h2 y3=>
 pK (oFaddr 3 none t1) fun t4=>
 pK (oLoad none t4 h2) fun t5=>
 pK (oLens t5) fun t6=>
 C f_q01i [(.p (.str [120])),t6] h2 fun t7 h8 y9=>
 wK (oConv .s2b t7 h8) fun t10 h11 y12=>
 pK (oFaddr 5 none t1) fun t13=>
 pK (oLoad none t13 h11) fun t14=>
 pK (oLens t14) fun t15=>
 NW C gl (.loop q2) ⟨[(1,t1),(3,t10),(12,t15),(13,(AI 0))],h11,(y12 ++ (y9 ++ (y3 ++ x)))⟩ (blockN 0 (seqN C gl q3 K))
theorem E_q00v {C gl q2 q3 v0 h x K} : NW C gl (P_q00v q2 q3) ⟨enter [v0],h,x⟩ K = d_q00v C gl q2 q3 v0 h x K:=by kernel_rfl
theorem e_q00v {C gl v0 h x K} : NW C gl a_q00v.body ⟨enter [v0],h,x⟩ K = d_q00v C gl p_q00v_k2 p_q00v_k3 v0 h x K:=E_q00v
def P_q01s : ACode:=(.seq (rg [mV 4 (cS []),
mV 5 (cI 0)] [0,1])
(.seq (.seq (rg [mV 6 0,
cL 7 f_q01t [6],
uO 8 (.un .not 7),
mV 9 8,
gD 10 9 false (.mv 1),
gD 11 9 false (.call f_q01t [10]),
gD 12 9 false (.un .not 11),
uO 13 (.pick 9 cT 12)] [0,1,13])
(.cond 13 (.seq (rg [mV 4 (cS []),
mV 5 (cI 1)] [4,5])
.ret)
.skip))
(.seq (rg [mV 14 0,
mV 15 1,
cL 16 f_q01v [14,15],
mV 4 16,
mV 5 (cI 0)] [4,5])
.ret)))
def a_q01s : AFun:=⟨2,[.t 4,.t 5],P_q01s,false,false⟩
def d_q01s (C : Hd) (gl : GL) (v0 v1 : AV) (h : Heap) (x : Esc) (K : KT) : Prop:=
 C f_q01t [v0] h fun t1 h2 y3=>
 pK (oUn .not t1) fun t4=>
 gM t4 false v1 h2 fun t5 h6 y7=>
 gV t4 false h6 (C f_q01t [t5] h6) fun t8 h9 y10=>
 gP t4 false (oUn .not t8) h9 fun t11 h12 y13=>
 pK (oPick t4 (AB true) t11) fun t14=>
 condB t14 (K .ret ⟨[(4,(.p (.str []))),(5,(AI 1))],h12,(y13 ++ (y10 ++ (y7 ++ (y3 ++ x))))⟩)
 (C f_q01v [v0,v1] h12 fun t15 h16 y17=>
 K .ret ⟨[(4,t15),(5,(AI 0))],h16,(y17 ++ (y13 ++ (y10 ++ (y7 ++ (y3 ++ x)))))⟩)
theorem e_q01s {C gl v0 v1 h x K} : NW C gl a_q01s.body ⟨enter [v0,v1],h,x⟩ K = d_q01s C gl v0 v1 h x K:=by kernel_rfl
def p_q017_k1 : ACode:=.pr [0,1,7,8] (.seq (rg [bN 9 .lss 8 7] [0,1,7,8,9])
(.seq (.cond 9 .skip
(.exit 0))
(.seq (.block 1 (.seq (rg [mV 10 8,
mV 5 10] [0,1,5,7,8])
(.seq (rg [mV 11 1,
mV 12 0,
mV 13 5,
iA 14 none 12 13,
lD 15 none 14,
bN 16 .eql 11 15] [0,1,5,7,8,16])
(.cond 16 (.seq (rg [mV 17 5,
mV 4 17] [4])
.ret)
.skip))))
(rg [bN 18 .add 8 (cI 1),
mV 8 18] [0,1,7,8]))))
def d_q017_k1 (C : Hd) (gl : GL) (v0 v1 v7 v8 : AV) (h : Heap) (x : Esc) (K : KT) : Prop:=
 pK (oBin .lss v8 v7) fun t1=>
 condB t1 (pK (oIaddr none v0 v8 h) fun t2=>
 pK (oLoad none t2 h) fun t3=>
 pK (oBin .eql v1 t3) fun t4=>
 condB t4 (K .ret ⟨[(4,v8)],h,x⟩)
 (pK (oBin .add v8 (AI 1)) fun t5=>
 K .normal ⟨[(0,v0),(1,v1),(7,v7),(8,t5)],h,x⟩))
 (K (.exit 0) ⟨[(0,v0),(1,v1),(7,v7),(8,v8),(9,t1)],h,x⟩)
theorem e_q017_k1 {C gl e h x K} : NW C gl p_q017_k1 ⟨e,h,x⟩ K = d_q017_k1 C gl (aget e 0) (aget e 1) (aget e 7) (aget e 8) h x K:=by kernel_rfl
theorem l_q017_k1 {C gl e h x K} : NW C gl (.loop p_q017_k1) ⟨e,h,x⟩ K = NLoop C gl p_q017_k1 K [(0,aget e 0),(1,aget e 1),(7,aget e 7),(8,aget e 8)] h x:=NLoop_pr
def p_q017_k2 : ACode:=.pr [] (.seq (rg [mV 4 (cI (-1))] [4])
.ret)
def d_q017_k2 (C : Hd) (gl : GL) (h : Heap) (x : Esc) (K : KT) : Prop:=
 K .ret ⟨[(4,(AI (-1)))],h,x⟩
theorem e_q017_k2 {C gl e h x K} : NW C gl p_q017_k2 ⟨e,h,x⟩ K = d_q017_k2 C gl h x K:=by kernel_rfl
def P_q017 (q1 q2 : ACode) : ACode:=(.seq (rg [mV 4 (cI 0)] [0,1])
(.seq (.seq (rg [mV 6 0,
lN 7 6,
mV 8 (cI 0)] [0,1,7,8])
(.block 0 (.loop q1)))
q2))
def a_q017 : AFun:=⟨2,[.t 4],P_q017 p_q017_k1 p_q017_k2,true,false⟩
def d_q017 (C : Hd) (gl : GL) (q1 q2 : ACode) (v0 v1 : AV) (h : Heap) (x : Esc) (K : KT) : Prop:=
 pK (oLen v0) fun t1=>
 NW C gl (.loop q1) ⟨[(0,v0),(1,v1),(7,t1),(8,(AI 0))],h,x⟩ (blockN 0 (seqN C gl q2 K))
theorem E_q017 {C gl q1 q2 v0 v1 h x K} : NW C gl (P_q017 q1 q2) ⟨enter [v0,v1],h,x⟩ K = d_q017 C gl q1 q2 v0 v1 h x K:=by kernel_rfl
theorem e_q017 {C gl v0 v1 h x K} : NW C gl a_q017.body ⟨enter [v0,v1],h,x⟩ K = d_q017 C gl p_q017_k1 p_q017_k2 v0 v1 h x K:=E_q017
def P_q01g : ACode:=(.seq (rg [mV 4 (cI 0)] [0,1])
(.seq (rg [mV 5 0,
mV 6 1,
cL 7 f_q006 [5,6],
mV 4 7] [4])
.ret))
def a_q01g : AFun:=⟨2,[.t 4],P_q01g,false,false⟩
def d_q01g (C : Hd) (gl : GL) (v0 v1 : AV) (h : Heap) (x : Esc) (K : KT) : Prop:=
 C f_q006 [v0,v1] h fun t1 h2 y3=>
 K .ret ⟨[(4,t1)],h2,(y3 ++ x)⟩
theorem e_q01g {C gl v0 v1 h x K} : NW C gl a_q01g.body ⟨enter [v0,v1],h,x⟩ K = d_q01g C gl v0 v1 h x K:=by kernel_rfl
def P_q01t : ACode:=(.seq (rg [mV 2 cF] [0])
(.seq (rg [mV 3 0,
cL 4 f_q001 [3,(cI 0),(cI 15)],
uO 5 (.un .not 4),
mV 2 5] [2])
.ret))
def a_q01t : AFun:=⟨1,[.t 2],P_q01t,false,false⟩
def d_q01t (C : Hd) (gl : GL) (v0 : AV) (h : Heap) (x : Esc) (K : KT) : Prop:=
 C f_q001 [v0,(AI 0),(AI 15)] h fun t1 h2 y3=>
 pK (oUn .not t1) fun t4=>
 K .ret ⟨[(2,t4)],h2,(y3 ++ x)⟩
theorem e_q01t {C gl v0 h x K} : NW C gl a_q01t.body ⟨enter [v0],h,x⟩ K = d_q01t C gl v0 h x K:=by kernel_rfl
def p_q01v_k1 : ACode:=.pr [1,5,6,7,25] (rg [bN 53 .add 25 (cI 1),
mV 25 53] [1,5,6,7,25])
def d_q01v_k1 (C : Hd) (gl : GL) (v1 v5 v6 v7 v25 : AV) (h : Heap) (x : Esc) (K : KT) : Prop:=
 pK (oBin .add v25 (AI 1)) fun t1=>
 K .normal ⟨[(1,v1),(5,v5),(6,v6),(7,v7),(25,t1)],h,x⟩
theorem e_q01v_k1 {C gl e h x K} : NW C gl p_q01v_k1 ⟨e,h,x⟩ K = d_q01v_k1 C gl (aget e 1) (aget e 5) (aget e 6) (aget e 7) (aget e 25) h x K:=by kernel_rfl
def P_q01v_k2 (q1 : ACode) : ACode:=.pr [1,5,6,7,25] (.seq (rg [bN 26 .lss 25 (cI 2)] [1,5,6,7,25,26])
(.seq (.cond 26 .skip
(.exit 2))
(.seq (.block 3 (.seq (rg [mV 27 25,
mV 8 27] [1,5,6,7,8,25])
(.seq (rg [mV 28 7,
mV 29 8,
cL 30 f_q01u [28,29],
mV 9 30] [1,5,6,7,8,9,25])
(.seq (rg [mV 32 5,
mV 33 9,
uO 34 (.look (none,[0]) true (.p (.str [])) 32 33),
mV 31 34,
eX 35 31 0,
eX 36 31 1,
mV 10 35,
mV 11 36] [1,5,6,7,8,9,11,25])
(.seq (rg [mV 37 11,
uO 38 (.un .not 37)] [1,5,6,7,8,9,25,38])
(.cond 38 (.seq (rg [mV 39 5,
mV 40 9,
mV 41 5,
mV 42 7,
uO 43 (.look (none,[0]) false (.p (.str [])) 41 42),
mV 44 8,
bN 45 .add (cI 48) 44,
uO 46 (.conv (.i .i32) 45),
uO 47 (.conv .r2s 46),
bN 48 .add 43 47,
wO (.mupd (none,[0]) 39 40 48)] [1,5,6,7,9,25])
(rg [mV 49 6,
mV 50 9,
uO 51 (.bsl false none 1 (.int .i64 0) [(0,50)]),
uO 52 (.mnext (some none) [49,51]),
mV 6 52] [1,5,6,7,25]))
.skip))))))
q1)))
def p_q01v_k2 : ACode:=P_q01v_k2 p_q01v_k1
def d_q01v_k2 (C : Hd) (gl : GL) (q1 : ACode) (v1 v5 v6 v7 v25 : AV) (h : Heap) (x : Esc) (K : KT) : Prop:=
 pK (oBin .lss v25 (AI 2)) fun t1=>
 condB t1 (C f_q01u [v7,v25] h fun t2 h3 y4=>
 pK (oLook (none,[0]) true (.p (.str [])) v5 t2 h3) fun t5=>
 pK (oExt t5 0) fun t6=>
 pK (oExt t5 1) fun t7=>
 pK (oUn .not t7) fun t8=>
 condB t8 (pK (oLook (none,[0]) false (.p (.str [])) v5 v7 h3) fun t9=>
 pK (oBin .add (AI 48) v25) fun t10=>
 pK (oConvI .i32 t10) fun t11=>
 wK (oConv .r2s t11 h3) fun t12 h13 y14=>
 pK (oBin .add t9 t12) fun t15=>
 wK (oMupd (none,[0]) v5 t2 t15 h13) fun t16 h17 y18=>
 wK (oBsl false none 1 (.int .i64 0) [(0,t2)] h17) fun t19 h20 y21=>
 nqK (some none) [v6,t19] h20 fun t22 h23 y24=>
 NW C gl q1 ⟨[(1,v1),(5,v5),(6,t22),(7,v7),(25,v25)],h23,(y24 ++ (y21 ++ (y18 ++ (y14 ++ (y4 ++ x)))))⟩ K)
 (NW C gl q1 ⟨[(1,v1),(5,v5),(6,v6),(7,v7),(8,v25),(9,t2),(25,v25),(38,t8)],h3,(y4 ++ x)⟩ K))
 (K (.exit 2) ⟨[(1,v1),(5,v5),(6,v6),(7,v7),(25,v25),(26,t1)],h,x⟩)
theorem E_q01v_k2 {C gl q1 e h x K} : NW C gl (P_q01v_k2 q1) ⟨e,h,x⟩ K = d_q01v_k2 C gl q1 (aget e 1) (aget e 5) (aget e 6) (aget e 7) (aget e 25) h x K:=by kernel_rfl
theorem e_q01v_k2 {C gl e h x K} : NW C gl p_q01v_k2 ⟨e,h,x⟩ K = d_q01v_k2 C gl p_q01v_k1 (aget e 1) (aget e 5) (aget e 6) (aget e 7) (aget e 25) h x K:=E_q01v_k2
theorem l_q01v_k2 {C gl e h x K} : NW C gl (.loop p_q01v_k2) ⟨e,h,x⟩ K = NLoop C gl p_q01v_k2 K [(1,aget e 1),(5,aget e 5),(6,aget e 6),(7,aget e 7),(25,aget e 25)] h x:=NLoop_pr
def P_q01v_k3 (q2 : ACode) : ACode:=.pr [1,5,6] (.seq (.seq (rg [mV 17 6,
lN 18 17,
bN 19 .gtr 18 (cI 0)] [1,5,6,19])
(.cond 19 .skip
(.exit 0)))
(.block 1 (.seq (rg [mV 20 6,
iA 21 none 20 (cI 0),
lD 22 none 21,
mV 7 22] [1,5,6,7])
(.seq (rg [mV 23 6,
uO 24 (.slice none 23 (some (cI 1)) none none),
mV 6 24] [1,5,6,7])
(.seq (rg [mV 25 (cI 0)] [1,5,6,7,25])
(.block 2 (.loop q2)))))))
def p_q01v_k3 : ACode:=P_q01v_k3 p_q01v_k2
def d_q01v_k3 (C : Hd) (gl : GL) (q2 : ACode) (v1 v5 v6 : AV) (h : Heap) (x : Esc) (K : KT) : Prop:=
 pK (oLen v6) fun t1=>
 pK (oBin .gtr t1 (AI 0)) fun t2=>
 condB t2 (pK (oIaddr none v6 (AI 0) h) fun t3=>
 pK (oLoad none t3 h) fun t4=>
 pK (oSlice none v6 (some (AI 1)) none none h) fun t5=>
 NW C gl (.loop q2) ⟨[(1,v1),(5,v5),(6,t5),(7,t4),(25,(AI 0))],h,x⟩ (blockN 2 (blockN 1 K)))
 (K (.exit 0) ⟨[(1,v1),(5,v5),(6,v6),(19,t2)],h,x⟩)
theorem E_q01v_k3 {C gl q2 e h x K} : NW C gl (P_q01v_k3 q2) ⟨e,h,x⟩ K = d_q01v_k3 C gl q2 (aget e 1) (aget e 5) (aget e 6) h x K:=by kernel_rfl
theorem e_q01v_k3 {C gl e h x K} : NW C gl p_q01v_k3 ⟨e,h,x⟩ K = d_q01v_k3 C gl p_q01v_k2 (aget e 1) (aget e 5) (aget e 6) h x K:=E_q01v_k3
theorem l_q01v_k3 {C gl e h x K} : NW C gl (.loop p_q01v_k3) ⟨e,h,x⟩ K = NLoop C gl p_q01v_k3 K [(1,aget e 1),(5,aget e 5),(6,aget e 6)] h x:=NLoop_pr
def p_q01v_k4 : ACode:=.pr [1,5] (.seq (rg [mV 54 5,
mV 55 1,
uO 56 (.look (none,[0]) false (.p (.str [])) 54 55),
mV 4 56] [4])
.ret)
def d_q01v_k4 (C : Hd) (gl : GL) (v1 v5 : AV) (h : Heap) (x : Esc) (K : KT) : Prop:=
 pK (oLook (none,[0]) false (.p (.str [])) v5 v1 h) fun t1=>
 K .ret ⟨[(4,t1)],h,x⟩
theorem e_q01v_k4 {C gl e h x K} : NW C gl p_q01v_k4 ⟨e,h,x⟩ K = d_q01v_k4 C gl (aget e 1) (aget e 5) h x K:=by kernel_rfl
def P_q01v (q3 q4 : ACode) : ACode:=(.det (.seq (rg [mV 4 (cS [])] [0,1])
(.seq (rg [uO 12 (.mkmap),
mV 13 0,
wO (.mupd (none,[0]) 12 13 (cS [])),
mV 14 12,
mV 5 14] [0,1,5])
(.seq (rg [mV 15 0,
uO 16 (.bsl true none 1 (.int .i64 0) [(0,15)]),
mV 6 16] [1,5,6])
(.seq (.block 0 (.loop q3))
q4)))))
def a_q01v : AFun:=⟨2,[.t 4],P_q01v p_q01v_k3 p_q01v_k4,false,false⟩
def d_q01v (C : Hd) (gl : GL) (q3 q4 : ACode) (v0 v1 : AV) (h : Heap) (x : Esc) (K : KT) : Prop:=
 mmK h fun t1 h2 y3=>
 wK (oMupd (none,[0]) t1 v0 (.p (.str [])) h2) fun t4 h5 y6=>
 wK (oBsl true none 1 (.int .i64 0) [(0,v0)] h5) fun t7 h8 y9=>
 NW C gl (.loop q3) ⟨[(1,v1),(5,t1),(6,t7)],h8,(y9 ++ (y6 ++ (y3 ++ x)))⟩ (blockN 0 (seqN C gl q4 K))
theorem E_q01v {C gl q3 q4 v0 v1 h x K} : NW C gl (P_q01v q3 q4) ⟨enter [v0,v1],h,x⟩ K = d_q01v C gl q3 q4 v0 v1 h x K:=by kernel_rfl
theorem e_q01v {C gl v0 v1 h x K} : NW C gl a_q01v.body ⟨enter [v0,v1],h,x⟩ K = d_q01v C gl p_q01v_k3 p_q01v_k4 v0 v1 h x K:=E_q01v
def P_q006 : ACode:=(.seq (rg [mV 4 (cI 0)] [0,1])
(.seq (rg [mV 5 0,
mV 6 1,
cL 7 f_internal_bytealg_IndexByteString [5,6],
mV 4 7] [4])
.ret))
def a_q006 : AFun:=⟨2,[.t 4],P_q006,false,false⟩
def d_q006 (C : Hd) (gl : GL) (v0 v1 : AV) (h : Heap) (x : Esc) (K : KT) : Prop:=
 C f_internal_bytealg_IndexByteString [v0,v1] h fun t1 h2 y3=>
 K .ret ⟨[(4,t1)],h2,(y3 ++ x)⟩
theorem e_q006 {C gl v0 v1 h x K} : NW C gl a_q006.body ⟨enter [v0,v1],h,x⟩ K = d_q006 C gl v0 v1 h x K:=by kernel_rfl
def P_q01u : ACode:=(.seq (rg [mV 4 (cI 0)] [0,1])
(.seq (rg [uO 6 (.build [.p (.int .i64 0),.p (.int .i64 0)] [(0,1,(cI 1)),(1,1,(cI 0))]),
uO 7 (.build [.p (.int .i64 0),.p (.int .i64 0)] [(0,1,(cI 1)),(1,1,(cI 2))]),
uO 8 (.build [.p (.int .i64 0),.p (.int .i64 0)] [(0,1,(cI 3)),(1,1,(cI 9))]),
uO 9 (.build [.p (.int .i64 0),.p (.int .i64 0)] [(0,1,(cI 4)),(1,1,(cI 5))]),
uO 10 (.build [.p (.int .i64 0),.p (.int .i64 0)] [(0,1,(cI 4)),(1,1,(cI 5))]),
uO 11 (.build [.p (.int .i64 0),.p (.int .i64 0)] [(0,1,(cI 6)),(1,1,(cI 8))]),
uO 12 (.build [.p (.int .i64 0),.p (.int .i64 0)] [(0,1,(cI 6)),(1,1,(cI 7))]),
uO 13 (.build [.p (.int .i64 0),.p (.int .i64 0)] [(0,1,(cI 4)),(1,1,(cI 8))]),
uO 14 (.build [.p (.int .i64 0),.p (.int .i64 0)] [(0,1,(cI 1)),(1,1,(cI 2))]),
uO 15 (.build [.p (.int .i64 0),.p (.int .i64 0)] [(0,1,(cI 10)),(1,1,(cI 0))]),
uO 16 (.build [.p (.int .i64 0),.p (.int .i64 0)] [(0,1,(cI 11)),(1,1,(cI 12))]),
uO 17 (.build [.p (.int .i64 0),.p (.int .i64 0)] [(0,1,(cI 11)),(1,1,(cI 12))]),
uO 18 (.build [.p (.int .i64 0),.p (.int .i64 0)] [(0,1,(cI 13)),(1,1,(cI 15))]),
uO 19 (.build [.p (.int .i64 0),.p (.int .i64 0)] [(0,1,(cI 13)),(1,1,(cI 14))]),
uO 20 (.build [.p (.int .i64 0),.p (.int .i64 0)] [(0,1,(cI 11)),(1,1,(cI 15))]),
uO 21 (.build [.p (.int .i64 0),.p (.int .i64 0)] [(0,1,(cI 1)),(1,1,(cI 2))]),
uO 22 (.build [.p (.int .i64 0),.p (.int .i64 0),.p (.int .i64 0),.p (.int .i64 0),.p (.int .i64 0),.p (.int .i64 0),.p (.int .i64 0),.p (.int .i64 0),.p (.int .i64 0),.p (.int .i64 0),.p (.int .i64 0),.p (.int .i64 0),.p (.int .i64 0),.p (.int .i64 0),.p (.int .i64 0),.p (.int .i64 0),.p (.int .i64 0),.p (.int .i64 0),.p (.int .i64 0),.p (.int .i64 0),.p (.int .i64 0),.p (.int .i64 0),.p (.int .i64 0),.p (.int .i64 0),.p (.int .i64 0),.p (.int .i64 0),.p (.int .i64 0),.p (.int .i64 0),.p (.int .i64 0),.p (.int .i64 0),.p (.int .i64 0),.p (.int .i64 0)] [(0,2,6),(2,2,7),(4,2,8),(6,2,9),(8,2,10),(10,2,11),(12,2,12),(14,2,13),(16,2,14),(18,2,15),(20,2,16),(22,2,17),(24,2,18),(26,2,19),(28,2,20),(30,2,21)]),
uO 5 (.alloc [.p (.int .i64 0),.p (.int .i64 0),.p (.int .i64 0),.p (.int .i64 0),.p (.int .i64 0),.p (.int .i64 0),.p (.int .i64 0),.p (.int .i64 0),.p (.int .i64 0),.p (.int .i64 0),.p (.int .i64 0),.p (.int .i64 0),.p (.int .i64 0),.p (.int .i64 0),.p (.int .i64 0),.p (.int .i64 0),.p (.int .i64 0),.p (.int .i64 0),.p (.int .i64 0),.p (.int .i64 0),.p (.int .i64 0),.p (.int .i64 0),.p (.int .i64 0),.p (.int .i64 0),.p (.int .i64 0),.p (.int .i64 0),.p (.int .i64 0),.p (.int .i64 0),.p (.int .i64 0),.p (.int .i64 0),.p (.int .i64 0),.p (.int .i64 0)]),
wO (.store (some 32) 5 22)] [0,1,5])
(.seq (rg [mV 23 0,
mV 24 1,
uO 25 (.iaddra 16 (some 2) 5 23),
uO 26 (.iaddra 2 none 25 24),
lD 27 none 26,
mV 4 27] [4])
.ret)))
def a_q01u : AFun:=⟨2,[.t 4],P_q01u,false,false⟩
def d_q01u (C : Hd) (gl : GL) (v0 v1 : AV) (h : Heap) (x : Esc) (K : KT) : Prop:=
 pK (oBuild [.p (.int .i64 0),.p (.int .i64 0)] [(0,1,(AI 1)),(1,1,(AI 0))]) fun t1=>
 pK (oBuild [.p (.int .i64 0),.p (.int .i64 0)] [(0,1,(AI 1)),(1,1,(AI 2))]) fun t2=>
 pK (oBuild [.p (.int .i64 0),.p (.int .i64 0)] [(0,1,(AI 3)),(1,1,(AI 9))]) fun t3=>
 pK (oBuild [.p (.int .i64 0),.p (.int .i64 0)] [(0,1,(AI 4)),(1,1,(AI 5))]) fun t4=>
 pK (oBuild [.p (.int .i64 0),.p (.int .i64 0)] [(0,1,(AI 4)),(1,1,(AI 5))]) fun t5=>
 pK (oBuild [.p (.int .i64 0),.p (.int .i64 0)] [(0,1,(AI 6)),(1,1,(AI 8))]) fun t6=>
 pK (oBuild [.p (.int .i64 0),.p (.int .i64 0)] [(0,1,(AI 6)),(1,1,(AI 7))]) fun t7=>
 pK (oBuild [.p (.int .i64 0),.p (.int .i64 0)] [(0,1,(AI 4)),(1,1,(AI 8))]) fun t8=>
 pK (oBuild [.p (.int .i64 0),.p (.int .i64 0)] [(0,1,(AI 1)),(1,1,(AI 2))]) fun t9=>
 pK (oBuild [.p (.int .i64 0),.p (.int .i64 0)] [(0,1,(AI 10)),(1,1,(AI 0))]) fun t10=>
 pK (oBuild [.p (.int .i64 0),.p (.int .i64 0)] [(0,1,(AI 11)),(1,1,(AI 12))]) fun t11=>
 pK (oBuild [.p (.int .i64 0),.p (.int .i64 0)] [(0,1,(AI 11)),(1,1,(AI 12))]) fun t12=>
 pK (oBuild [.p (.int .i64 0),.p (.int .i64 0)] [(0,1,(AI 13)),(1,1,(AI 15))]) fun t13=>
 pK (oBuild [.p (.int .i64 0),.p (.int .i64 0)] [(0,1,(AI 13)),(1,1,(AI 14))]) fun t14=>
 pK (oBuild [.p (.int .i64 0),.p (.int .i64 0)] [(0,1,(AI 11)),(1,1,(AI 15))]) fun t15=>
 pK (oBuild [.p (.int .i64 0),.p (.int .i64 0)] [(0,1,(AI 1)),(1,1,(AI 2))]) fun t16=>
 pK (oBuild [.p (.int .i64 0),.p (.int .i64 0),.p (.int .i64 0),.p (.int .i64 0),.p (.int .i64 0),.p (.int .i64 0),.p (.int .i64 0),.p (.int .i64 0),.p (.int .i64 0),.p (.int .i64 0),.p (.int .i64 0),.p (.int .i64 0),.p (.int .i64 0),.p (.int .i64 0),.p (.int .i64 0),.p (.int .i64 0),.p (.int .i64 0),.p (.int .i64 0),.p (.int .i64 0),.p (.int .i64 0),.p (.int .i64 0),.p (.int .i64 0),.p (.int .i64 0),.p (.int .i64 0),.p (.int .i64 0),.p (.int .i64 0),.p (.int .i64 0),.p (.int .i64 0),.p (.int .i64 0),.p (.int .i64 0),.p (.int .i64 0),.p (.int .i64 0)] [(0,2,t1),(2,2,t2),(4,2,t3),(6,2,t4),(8,2,t5),(10,2,t6),(12,2,t7),(14,2,t8),(16,2,t9),(18,2,t10),(20,2,t11),(22,2,t12),(24,2,t13),(26,2,t14),(28,2,t15),(30,2,t16)]) fun t17=>
 alK [.p (.int .i64 0),.p (.int .i64 0),.p (.int .i64 0),.p (.int .i64 0),.p (.int .i64 0),.p (.int .i64 0),.p (.int .i64 0),.p (.int .i64 0),.p (.int .i64 0),.p (.int .i64 0),.p (.int .i64 0),.p (.int .i64 0),.p (.int .i64 0),.p (.int .i64 0),.p (.int .i64 0),.p (.int .i64 0),.p (.int .i64 0),.p (.int .i64 0),.p (.int .i64 0),.p (.int .i64 0),.p (.int .i64 0),.p (.int .i64 0),.p (.int .i64 0),.p (.int .i64 0),.p (.int .i64 0),.p (.int .i64 0),.p (.int .i64 0),.p (.int .i64 0),.p (.int .i64 0),.p (.int .i64 0),.p (.int .i64 0),.p (.int .i64 0)] h fun t18 h19 y20=>
 wK (oStore (some 32) t18 t17 h19) fun t21 h22 y23=>
 pK (oIaddra 16 (some 2) t18 v0) fun t24=>
 pK (oIaddra 2 none t24 v1) fun t25=>
 pK (oLoad none t25 h22) fun t26=>
 K .ret ⟨[(4,t26)],h22,(y23 ++ (y20 ++ x))⟩
theorem e_q01u {C gl v0 v1 h x K} : NW C gl a_q01u.body ⟨enter [v0,v1],h,x⟩ K = d_q01u C gl v0 v1 h x K:=by kernel_rfl
end Go.Am
end
section
/- The abstract machine,part L: functions of the library that are met by the kit's contracts: plain values in,plain values out,new memory at most. -/
set_option linter.unusedSimpArgs false
set_option linter.unusedVariables false
namespace Go.Am
variable {P : Program} {gl : Nat → Option PV}
structure PureRow (P : Program) (gl : Nat → Option PV) (f : Nat) (spec : List PV → Option AV) : Prop where
  enter : ∀ us w,(callFunc f us).run P w = .ok (.enter f us) w
  run : ∀ (M : Mem) (w : World) (vs : List PV) (r : AV) (us : List Value),(∀ b o v,M.c b o = some v → w.cell? ⟨b,o,none⟩ = some v) → (∀ b o,M.b b = some o → w.heap[b]? = some o) → GInv gl M → vs.length = us.length →
    (∀ (j : Nat) (y : PV) (v : Value),vs[j]? = some y → us[j]? = some v → RPV M y v) → spec vs = some r →
    Calls P f us.toArray w fun e w'=>∃ x,e = .returned x ∧ WExt w w' ∧ RAV (ExtM M w w') [] [] r x
abbrev PureT:=List (Nat × (List PV → Option AV))
def pureF : PureT → Nat → List AV → Heap → Option (AV × Heap × Esc)
  | [],_,_,_=>none
  | (g,s) :: r,f,asv,h=>bif Nat.beq f g then ((unp asv).bind s).map fun v=>(v,h,[]) else pureF r f asv h
theorem pureF_ok : ∀ (gs : PureT),(∀ g s,(g,s) ∈ gs → PureRow P gl g s) → ∀ {f : Nat} {asv : List AV} {h : Heap} {v : AV} {h' : Heap} {x : Esc},pureF gs f asv h = some (v,h',x) →
    CallOk P gl f asv h fun v1 h1 x1=>v1 = v ∧ h1 = h' ∧ x1 = x
  | [],_,f,asv,h,v,h',x,H=>by cases H
  | (g,s) :: r,hg,f,asv,h,v,h',x,H=>by
    unfold pureF at H
    cases e1 : Nat.beq f g with
    | false=>
      rw [e1] at H
      exact pureF_ok r (fun g sh hm=>hg g sh (by simp [hm])) H
    | true=>
      rw [e1] at H
      have e:=Nat.eq_of_beq_eq_true e1
      subst e
      have R:=hg f s (by simp)
      simp only [cond_true] at H
      obtain ⟨y,hy,e2⟩:=Option.map_eq_some_iff.1 H
      simp only [Prod.mk.injEq] at e2
      obtain ⟨rfl,rfl,rfl⟩:=e2
      obtain ⟨ps,hps,hs⟩:=Option.bind_eq_some_iff.1 hy
      have hm:=unp_spec hps
      subst hm
      intro μ w vs Hh Hg hl hr
      refine .inl ⟨R.enter _,?_⟩
      refine (R.run (imm h μ w) w ps y vs (fun b o v hv=>(imm_some.1 hv).2) (fun b o hv=>(imm_blk.1 hv).2) Hg (by simpa using hl) (fun j q v hq hv=>(hr j (.p q) v (by simp [hq]) hv).p_inv) hs).mono fun e w' he=>?_
      obtain ⟨u,rfl,g1,g2⟩:=he
      obtain ⟨n1,n2⟩:=Hh.ext g1
      have Lq : (ExtM (imm h μ w) w w').le (imm h μ w'):=by
        refine ⟨fun b o v hv=>?_,fun b o hv=>?_,rfl,fun _ _ h=>by cases h⟩
        · dsimp only [ExtM] at hv
          split at hv
          · exact n2.le.c _ _ _ hv
          · rename_i hb
            exact imm_some.2 ⟨fun hO=>hb (owned_lt Hh hO),hv⟩
        · dsimp only [ExtM] at hv
          cases hv
      exact ⟨_,_,_,μ,⟨rfl,rfl,rfl⟩,g2.evo ⟨Lq,Nat.zero_le _,fun id o m h1=>by simp at h1⟩,n1,n2,EscInv.refl h []⟩
def libF (gs : List (Nat × Sh)) (ps : PureT) (f : Nat) (asv : List AV) (h : Heap) : Option (AV × Heap × Esc):=match growF gs f asv h with
  | some y=>some y
  | none=>match pureF ps f asv h with
    | some y=>some y
    | none=>match puras h asv with
      | some (asv',h1)=>pureF ps f asv' h1
      | none=>none
theorem pureF_own {ps : PureT} (hp : ∀ g s,(g,s) ∈ ps → PureRow P gl g s) {f : Nat} {asv asv' : List AV} {h h1 : Heap} {v : AV} {h' : Heap} {x : Esc} (hq : puras h asv = some (asv',h1)) (H : pureF ps f asv' h1 = some (v,h',x)) :
    CallOk P gl f asv h fun v1 h2 x1=>v1 = v ∧ h2 = h' ∧ x1 = x:=by
  intro μ w vs Hh Hg hl hr
  obtain ⟨q1,q2,q3⟩:=puras_ok asv Hh hl hr hq
  rcases pureF_ok ps hp H μ w vs q1.1 (Hg.mono q1.2.1.le) q2 q3 with ⟨k1,k2⟩ | ⟨r,w',v2,h2,x2,μ',k1,k2,k3,k4,k5,k6⟩
  · refine .inl ⟨k1, k2.mono fun e w' he => ?_⟩
    cases e with
    | returned r=>
      obtain ⟨v2,h2,x2,μ',k2,k3,k4,k5,k6⟩:=he
      exact ⟨v2,h2,x2,μ',k2,k3,k4,q1.2.1.trans k5,by simpa using q1.2.2.trans k6⟩
    | panicked _=>exact he
    | outgrown=>exact he
  · exact .inr ⟨r,w',v2,h2,x2,μ',k1,k2,k3,k4,q1.2.1.trans k5,by simpa using q1.2.2.trans k6⟩
theorem libF_ok {gs : List (Nat × Sh)} {ps : PureT} (hg : ∀ g sh,(g,sh) ∈ gs → GrowRow P g sh) (hp : ∀ g s,(g,s) ∈ ps → PureRow P gl g s) {f : Nat} {asv : List AV} {h : Heap} {v : AV} {h' : Heap} {x : Esc} (H : libF gs ps f asv h = some (v,h',x)) :
    CallOk P gl f asv h fun v1 h1 x1=>v1 = v ∧ h1 = h' ∧ x1 = x:=by
  unfold libF at H
  split at H
  · rename_i y hy
    cases H
    exact growF_ok gs hg hy
  · split at H
    · rename_i y hy
      cases H
      exact pureF_ok ps hp hy
    · split at H
      · rename_i asv' h1 hq
        exact pureF_own hp hq H
      · cases H
theorem lib_call {X : Ctx} {f : Nat} {asv : List AV} {h h' : Heap} {v : AV} {x : Esc} {K : Post} (hf : X.fn f = none) (hx : X.ex2 f asv h = some (v,h',x)) : ACall X f asv h K = K v h' x:=by
  refine propext (ACall.eq (ACall.fold ?_) K)
  unfold Step
  simp only [hf,hx]
  exact ⟨trivial,trivial,trivial⟩
def growSh : List (Nat × Sh) → Nat → Option Sh
  | [],_=>none
  | (g,s) :: r,f=>bif Nat.beq f g then some s else growSh r f
theorem growF_miss : ∀ {gs : List (Nat × Sh)} {f : Nat} {asv : List AV} {h : Heap},growSh gs f = none → growF gs f asv h = none
  | [],f,asv,h,_=>rfl
  | (g,s) :: r,f,asv,h,hm=>by
    unfold growSh at hm
    unfold growF
    cases hq : Nat.beq f g with
    | true=>rw [hq] at hm; cases hm
    | false=>rw [hq] at hm; exact growF_miss hm
def pureSp : PureT → Nat → Option (List PV → Option AV)
  | [],_=>none
  | (g,s) :: r,f=>bif Nat.beq f g then some s else pureSp r f
theorem pureF_hit : ∀ {gs : PureT} {f : Nat} {s : List PV → Option AV} {asv : List AV} {h : Heap},pureSp gs f = some s → pureF gs f asv h = ((unp asv).bind s).map fun v=>(v,h,[])
  | [],f,s,asv,h,hm=>by cases hm
  | (g,s') :: r,f,s,asv,h,hm=>by
    unfold pureSp at hm
    unfold pureF
    cases hq : Nat.beq f g with
    | true=>rw [hq] at hm; cases hm; rfl
    | false=>rw [hq] at hm; exact pureF_hit hm
theorem libF_pure {gs : List (Nat × Sh)} {ps : PureT} {f : Nat} {s : List PV → Option AV} {asv : List AV} {vs : List PV} {v : AV} {h : Heap} (hg : growSh gs f = none) (hm : pureSp ps f = some s) (hu : unp asv = some vs) (hv : s vs = some v) : libF gs ps f asv h = some (v,h,[]):=by
  unfold libF; rw [growF_miss hg,pureF_hit hm,hu]; simp [hv]
def glOf : List (Nat × PV) → Nat → Option PV
  | [],_=>none
  | (g,v) :: r,n=>bif Nat.beq n g then some v else glOf r n
theorem enters_chk {f : Nat} (h : (match P.funcs[f]? with | some fn=>fn.body.isSome && fn.name != "runtime.NumGoroutine" | none=>false) = true) (us : Array Value) (w : World) : (callFunc f us).run P w = .ok (.enter f us) w:=by
  cases hf : P.funcs[f]? with
  | none=>rw [hf] at h; cases h
  | some fn=>
    rw [hf] at h
    simp only [Bool.and_eq_true,bne_iff_ne,ne_eq] at h
    cases hb : fn.body with
    | none=>rw [hb] at h; cases h.1
    | some c=>exact enters hf hb h.2 us w
theorem ginv_none {M : Mem} : GInv (glOf []) M:=fun n v hv=>by cases hv
def repL (s : List UInt8) : Nat → List UInt8
  | 0=>[]
  | c + 1=>s ++ repL s c
def repeatS : List PV → Option AV
  | [.str s,.int .i64 c]=>if 0 ≤ c ∧ s.length * c.toNat ≤ 1000000 ∧ c ≤ 1000000 then some (.p (.str (repL s c.toNat))) else none
  | _=>none
def trimL (s cs : List UInt8) : List UInt8:=(s.reverse.dropWhile (cs.contains ·)).reverse.dropWhile (cs.contains ·)
def trimS : List PV → Option AV
  | [.str s,.str cs]=>if s.length ≤ 1000000 ∧ cs.length ≤ 1000 ∧ cs.all (fun b=>decide (b.toNat < 128)) = true then some (.p (.str (trimL s cs))) else none
  | _=>none
def isCmd : PV → Bool
  | .agg [.int .i64 _,.int .i64 _,.int .i64 _,.str _,.str _,.str _]=>true
  | _=>false
def cmdKind : PV → Int
  | .agg (.int _ k :: _)=>k
  | _=>0
def idleP : PV:=.agg [.int .i64 0,.int .i64 1,.int .i64 0,.str [],.str [],.str []]
def lastKind (l : List PV) (k : Int) : PV:=(l.reverse.find? fun c=>cmdKind c == k).getD idleP
def settingS : List PV → Option AV
  | [.sl (some 6) xs,.int .i64 i,.int .i64 k]=>if 0 ≤ i ∧ i ≤ (xs.length : Int) ∧ xs.length ≤ 1000000 ∧ xs.all isCmd = true then some (.p (lastKind (xs.take i.toNat) k)) else none
  | _=>none
end Go.Am
end
section
/- The abstract machine,part C: closed calls that say true,asv contracts. -/
set_option linter.all false
namespace Go.Am
variable {P : Program} {gl : Nat → Option PV}
end Go.Am
end
