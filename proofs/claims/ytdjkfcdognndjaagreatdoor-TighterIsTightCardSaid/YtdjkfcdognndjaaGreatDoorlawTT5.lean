/- Texts of the proof, laid together: CodesB, CodesC. -/
import Derived.KernelRfl
import Derived.Test.YtdjkfcdognndjaaGreatDoorlawTT4
set_option linter.all false
section
/- The functions asv abstract code,and asv formulas over their values: printed by program out of the translation. -/
set_option linter.unusedVariables false
set_option maxRecDepth 100000
namespace Go.Am
def p_q044_k1 : ACode:=.pr [0,1,7,8,9,11,12,13,14,29,30,31] (.seq (rg [fA 71 3 none 9,
lD 72 none 71,
mV 73 12,
uO 74 (.bsl false none 1 (.int .i64 0) [(0,73)]),
uO 75 (.app none 72 74),
fA 76 3 none 9,
wO (.store none 76 75)] [0,1,7,8,9,11,12,13,14,29,30,31])
(.seq (rg [mV 77 12,
fA 78 1 none 11,
lD 79 none 78,
bN 80 .lss 77 79,
mV 81 80,
gD 82 81 false (.mv 12),
gD 83 81 false (.faddr 2 none 11),
gD 84 81 false (.load none 83),
gD 85 81 false (.bin .gtr 82 84),
uO 86 (.pick 81 cT 85)] [0,1,7,8,9,13,14,29,30,31,86])
(.cond 86 (.exit 2)
.skip)))
def d_q044_k1 (C : Hd) (gl : GL) (v0 v1 v7 v8 v9 v11 v12 v13 v14 v29 v30 v31 : AV) (h : Heap) (x : Esc) (K : KT) : Prop:=
 pK (oFaddr 3 none v9) fun t1=>
 pK (oLoad none t1 h) fun t2=>
 wK (oBsl false none 1 (.int .i64 0) [(0,v12)] h) fun t3 h4 y5=>
 wK (oApp none t2 t3 h4) fun t6 h7 y8=>
 pK (oFaddr 3 none v9) fun t9=>
 wK (oStore none t9 t6 h7) fun t10 h11 y12=>
 pK (oFaddr 1 none v11) fun t13=>
 pK (oLoad none t13 h11) fun t14=>
 pK (oBin .lss v12 t14) fun t15=>
 gM t15 false v12 h11 fun t16 h17 y18=>
 gP t15 false (oFaddr 2 none v11) h17 fun t19 h20 y21=>
 gP t15 false (oLoad none t19 h20) h20 fun t22 h23 y24=>
 gP t15 false (oBin .gtr t16 t22) h23 fun t25 h26 y27=>
 pK (oPick t15 (AB true) t25) fun t28=>
 condB t28 (K (.exit 2) ⟨[(0,v0),(1,v1),(7,v7),(8,v8),(9,v9),(13,v13),(14,v14),(29,v29),(30,v30),(31,v31),(86,t28)],h26,(y27 ++ (y24 ++ (y21 ++ (y18 ++ (y12 ++ (y8 ++ (y5 ++ x)))))))⟩)
 (K .normal ⟨[(0,v0),(1,v1),(7,v7),(8,v8),(9,v9),(13,v13),(14,v14),(29,v29),(30,v30),(31,v31),(86,t28)],h26,(y27 ++ (y24 ++ (y21 ++ (y18 ++ (y12 ++ (y8 ++ (y5 ++ x)))))))⟩)
theorem e_q044_k1 {C gl e h x K} : NW C gl p_q044_k1 ⟨e,h,x⟩ K = d_q044_k1 C gl (aget e 0) (aget e 1) (aget e 7) (aget e 8) (aget e 9) (aget e 11) (aget e 12) (aget e 13) (aget e 14) (aget e 29) (aget e 30) (aget e 31) h x K:=by kernel_rfl
def p_q044_k2 : ACode:=.pr [0,1,7,8,9,13,14,29,30,31] (rg [bN 87 .add 31 (cI 1),
mV 31 87] [0,1,7,8,9,13,14,29,30,31])
def d_q044_k2 (C : Hd) (gl : GL) (v0 v1 v7 v8 v9 v13 v14 v29 v30 v31 : AV) (h : Heap) (x : Esc) (K : KT) : Prop:=
 pK (oBin .add v31 (AI 1)) fun t1=>
 K .normal ⟨[(0,v0),(1,v1),(7,v7),(8,v8),(9,v9),(13,v13),(14,v14),(29,v29),(30,v30),(31,t1)],h,x⟩
theorem e_q044_k2 {C gl e h x K} : NW C gl p_q044_k2 ⟨e,h,x⟩ K = d_q044_k2 C gl (aget e 0) (aget e 1) (aget e 7) (aget e 8) (aget e 9) (aget e 13) (aget e 14) (aget e 29) (aget e 30) (aget e 31) h x K:=by kernel_rfl
def P_q044_k3 (q1 q2 : ACode) : ACode:=.pr [0,1,7,8,9,13,14,29,30,31] (.seq (rg [bN 32 .lss 31 30] [0,1,7,8,9,13,14,29,30,31,32])
(.seq (.cond 32 .skip
(.exit 2))
(.seq (.block 3 (.seq (rg [iA 33 (some 4) 29 31,
lD 34 (some 4) 33,
uO 11 (.alloc [.p (.str []),.p (.int .i64 0),.p (.int .i64 0),.p (.int .i64 0)]),
wO (.store (some 4) 11 34)] [0,1,7,8,9,11,13,14,29,30,31])
(.seq (rg [mV 35 0,
fA 36 1 none 11,
lD 37 none 36,
fA 38 2 none 11,
lD 39 none 38,
fA 40 1 none 11,
lD 41 none 40,
fA 42 2 none 11,
lD 43 none 42,
bN 44 .add 41 43,
bN 45 .quo 44 (cI 2),
fA 46 1 none 11,
lD 47 none 46,
fA 48 2 none 11,
lD 49 none 48,
bN 50 .add 47 49,
bN 51 .quo 50 (cI 2),
fA 52 1 none 11,
lD 53 none 52,
bN 54 .add 53 (cI 1),
uO 55 (.bsl false none 5 (.int .i64 0) [(0,37),(1,39),(2,45),(3,51),(4,54)]),
cL 56 f_q042 [35,55],
mV 12 56] [0,1,7,8,9,11,12,13,14,29,30,31])
(.seq (.seq (rg [mV 57 0,
cL 58 f_q03y [57,(cI 5)]] [0,1,7,8,9,11,12,13,14,29,30,31,58])
(.cond 58 (rg [mV 59 0,
fA 60 1 none 11,
lD 61 none 60,
bN 62 .sub 61 (cI 1),
fA 63 2 none 11,
lD 64 none 63,
bN 65 .add 64 (cI 1),
fA 66 2 none 11,
lD 67 none 66,
bN 68 .add 67 (cI 7),
uO 69 (.bsl false none 3 (.int .i64 0) [(0,62),(1,65),(2,68)]),
cL 70 f_q042 [59,69],
mV 12 70] [0,1,7,8,9,11,12,13,14,29,30,31])
.skip))
q1))))
q2)))
def p_q044_k3 : ACode:=P_q044_k3 p_q044_k1 p_q044_k2
def d_q044_k3 (C : Hd) (gl : GL) (q1 q2 : ACode) (v0 v1 v7 v8 v9 v13 v14 v29 v30 v31 : AV) (h : Heap) (x : Esc) (K : KT) : Prop:=
 pK (oBin .lss v31 v30) fun t1=>
 condB t1 (pK (oIaddr (some 4) v29 v31 h) fun t2=>
 pK (oLoad (some 4) t2 h) fun t3=>
 alK [.p (.str []),.p (.int .i64 0),.p (.int .i64 0),.p (.int .i64 0)] h fun t4 h5 y6=>
 wK (oStore (some 4) t4 t3 h5) fun t7 h8 y9=>
 pK (oFaddr 1 none t4) fun t10=>
 pK (oLoad none t10 h8) fun t11=>
 pK (oFaddr 2 none t4) fun t12=>
 pK (oLoad none t12 h8) fun t13=>
 pK (oFaddr 1 none t4) fun t14=>
 pK (oLoad none t14 h8) fun t15=>
 pK (oFaddr 2 none t4) fun t16=>
 pK (oLoad none t16 h8) fun t17=>
 pK (oBin .add t15 t17) fun t18=>
 pK (oBin .quo t18 (AI 2)) fun t19=>
 pK (oFaddr 1 none t4) fun t20=>
 pK (oLoad none t20 h8) fun t21=>
 pK (oFaddr 2 none t4) fun t22=>
 pK (oLoad none t22 h8) fun t23=>
 pK (oBin .add t21 t23) fun t24=>
 pK (oBin .quo t24 (AI 2)) fun t25=>
 pK (oFaddr 1 none t4) fun t26=>
 pK (oLoad none t26 h8) fun t27=>
 pK (oBin .add t27 (AI 1)) fun t28=>
 wK (oBsl false none 5 (.int .i64 0) [(0,t11),(1,t13),(2,t19),(3,t25),(4,t28)] h8) fun t29 h30 y31=>
 C f_q042 [v0,t29] h30 fun t32 h33 y34=>
 C f_q03y [v0,(AI 5)] h33 fun t35 h36 y37=>
 condB t35 (pK (oFaddr 1 none t4) fun t38=>
 pK (oLoad none t38 h36) fun t39=>
 pK (oBin .sub t39 (AI 1)) fun t40=>
 pK (oFaddr 2 none t4) fun t41=>
 pK (oLoad none t41 h36) fun t42=>
 pK (oBin .add t42 (AI 1)) fun t43=>
 pK (oFaddr 2 none t4) fun t44=>
 pK (oLoad none t44 h36) fun t45=>
 pK (oBin .add t45 (AI 7)) fun t46=>
 wK (oBsl false none 3 (.int .i64 0) [(0,t40),(1,t43),(2,t46)] h36) fun t47 h48 y49=>
 C f_q042 [v0,t47] h48 fun t50 h51 y52=>
 NW C gl q1 ⟨[(0,v0),(1,v1),(7,v7),(8,v8),(9,v9),(11,t4),(12,t50),(13,v13),(14,v14),(29,v29),(30,v30),(31,v31)],h51,(y52 ++ (y49 ++ (y37 ++ (y34 ++ (y31 ++ (y9 ++ (y6 ++ x)))))))⟩ (blockN 3 (seqN C gl q2 K)))
 (NW C gl q1 ⟨[(0,v0),(1,v1),(7,v7),(8,v8),(9,v9),(11,t4),(12,t32),(13,v13),(14,v14),(29,v29),(30,v30),(31,v31),(58,t35)],h36,(y37 ++ (y34 ++ (y31 ++ (y9 ++ (y6 ++ x)))))⟩ (blockN 3 (seqN C gl q2 K))))
 (K (.exit 2) ⟨[(0,v0),(1,v1),(7,v7),(8,v8),(9,v9),(13,v13),(14,v14),(29,v29),(30,v30),(31,v31),(32,t1)],h,x⟩)
theorem E_q044_k3 {C gl q1 q2 e h x K} : NW C gl (P_q044_k3 q1 q2) ⟨e,h,x⟩ K = d_q044_k3 C gl q1 q2 (aget e 0) (aget e 1) (aget e 7) (aget e 8) (aget e 9) (aget e 13) (aget e 14) (aget e 29) (aget e 30) (aget e 31) h x K:=by kernel_rfl
theorem e_q044_k3 {C gl e h x K} : NW C gl p_q044_k3 ⟨e,h,x⟩ K = d_q044_k3 C gl p_q044_k1 p_q044_k2 (aget e 0) (aget e 1) (aget e 7) (aget e 8) (aget e 9) (aget e 13) (aget e 14) (aget e 29) (aget e 30) (aget e 31) h x K:=E_q044_k3
theorem l_q044_k3 {C gl e h x K} : NW C gl (.loop (.scope p_q044_k3)) ⟨e,h,x⟩ K = NLoop C gl (.scope p_q044_k3) K [(0,aget e 0),(1,aget e 1),(7,aget e 7),(8,aget e 8),(9,aget e 9),(13,aget e 13),(14,aget e 14),(29,aget e 29),(30,aget e 30),(31,aget e 31)] h x:=NLoop_sc
def p_q044_k4 : ACode:=.pr [0,1,7,8,9,13,14] (rg [mV 125 7,
lD 126 (some 4) 9,
uO 127 (.bsl false (some 4) 1 (.agg [.str [],.int .i64 0,.str [],.sl none []]) [(0,126)]),
uO 128 (.app (some 4) 125 127),
mV 7 128] [0,1,7,8,13,14])
def d_q044_k4 (C : Hd) (gl : GL) (v0 v1 v7 v8 v9 v13 v14 : AV) (h : Heap) (x : Esc) (K : KT) : Prop:=
 pK (oLoad (some 4) v9 h) fun t1=>
 wK (oBsl false (some 4) 1 (.agg [.str [],.int .i64 0,.str [],.sl none []]) [(0,t1)] h) fun t2 h3 y4=>
 wK (oApp (some 4) v7 t2 h3) fun t5 h6 y7=>
 K .normal ⟨[(0,v0),(1,v1),(7,t5),(8,v8),(13,v13),(14,v14)],h6,(y7 ++ (y4 ++ x))⟩
theorem e_q044_k4 {C gl e h x K} : NW C gl p_q044_k4 ⟨e,h,x⟩ K = d_q044_k4 C gl (aget e 0) (aget e 1) (aget e 7) (aget e 8) (aget e 9) (aget e 13) (aget e 14) h x K:=by kernel_rfl
def P_q044_k5 (q4 : ACode) : ACode:=.pr [0,1,7,8,9,13,14] (.seq (.seq (rg [mV 88 0,
cL 89 f_q03y [88,(cI 60)]] [0,1,7,8,9,13,14,89])
(.cond 89 (.seq (rg [mV 90 0,
cL 91 f_q040 [90,(cI 3)]] [0,1,7,8,9,13,14,91])
(.block 4 (.seq (rg [bN 103 .eql 91 (cI 0),
mV 102 103] [0,1,7,8,9,13,14,91,102])
(.cond 102 (rg [mV 104 0,
uO 105 (.bsl false none 2 (.str []) [(0,(cS [])),(1,(cS [117,49]))]),
cL 106 f_q049 [104,105],
mV 107 0,
uO 108 (.bsl false none 2 (.str []) [(0,(cS [65])),(1,(cS [115,49]))]),
cL 109 f_q049 [107,108],
mV 110 0,
cL 111 f_q041 [110,(cI 0),(cI 50)],
fA 112 0 none 9,
wO (.store none 112 106),
fA 113 2 none 9,
wO (.store none 113 109),
fA 114 1 none 9,
wO (.store none 114 111)] [0,1,7,8,9,13,14])
(.seq (rg [bN 116 .eql 91 (cI 1),
mV 115 116] [0,1,7,8,9,13,14,115])
(.cond 115 (dr [dF (fA 117 3 none 9) [9],
dF (lD 118 none 117) [117],
dF (mV 119 0) [0],
dF (uO 120 (.bsl false none 3 (.int .i64 0) [(0,(cI 0)),(1,(cI 100001)),(2,(cI (-100001)))])) [],
dA (cL 121 f_q042 [119,120]) [119,120] true [] [1],
dF (uO 122 (.bsl false none 1 (.int .i64 0) [(0,121)])) [121],
dT (uO 123 (.app none 118 122)) [118,122],
dF (fA 124 3 none 9) [9],
dT (wO (.store none 124 123)) [124,123]] [0,1,7,8,9,13,14])
(dr [dF (fA 92 3 none 9) [9],
dF (lD 93 none 92) [92],
dF (mV 94 0) [0],
dF (fA 95 3 none 9) [9],
dF (lD 96 none 95) [95],
dF (lN 97 96) [96],
dF (bN 98 .add 97 (cI 1)) [97],
dA (cL 99 f_q040 [94,98]) [94,98] true [] [1],
dF (uO 100 (.slice none 93 none (some 99) none)) [93,99],
dF (fA 101 3 none 9) [9],
dT (wO (.store none 101 100)) [101,100]] [0,1,7,8,9,13,14])))))))
.skip))
q4)
def p_q044_k5 : ACode:=P_q044_k5 p_q044_k4
def d_q044_k5 (C : Hd) (gl : GL) (q4 : ACode) (v0 v1 v7 v8 v9 v13 v14 : AV) (h : Heap) (x : Esc) (K : KT) : Prop:=
 C f_q03y [v0,(AI 60)] h fun t1 h2 y3=>
 condB t1 (C f_q040 [v0,(AI 3)] h2 fun t4 h5 y6=>
 pK (oBin .eql t4 (AI 0)) fun t7=>
 condB t7 (wK (oBsl false none 2 (.str []) [(0,(.p (.str []))),(1,(.p (.str [117,49])))] h5) fun t8 h9 y10=>
 C f_q049 [v0,t8] h9 fun t11 h12 y13=>
 wK (oBsl false none 2 (.str []) [(0,(.p (.str [65]))),(1,(.p (.str [115,49])))] h12) fun t14 h15 y16=>
 C f_q049 [v0,t14] h15 fun t17 h18 y19=>
 C f_q041 [v0,(AI 0),(AI 50)] h18 fun t20 h21 y22=>
 pK (oFaddr 0 none v9) fun t23=>
 wK (oStore none t23 t11 h21) fun t24 h25 y26=>
 pK (oFaddr 2 none v9) fun t27=>
 wK (oStore none t27 t17 h25) fun t28 h29 y30=>
 pK (oFaddr 1 none v9) fun t31=>
 wK (oStore none t31 t20 h29) fun t32 h33 y34=>
 NW C gl q4 ⟨[(0,v0),(1,v1),(7,v7),(8,v8),(9,v9),(13,v13),(14,v14)],h33,(y34 ++ (y30 ++ (y26 ++ (y22 ++ (y19 ++ (y16 ++ (y13 ++ (y10 ++ (y6 ++ (y3 ++ x))))))))))⟩ K)
 (pK (oBin .eql t4 (AI 1)) fun t35=>
 condB t35 (pK (oFaddr 3 none v9) fun t36=>
 pK (oLoad none t36 h5) fun t37=>
 wK (oBsl false none 3 (.int .i64 0) [(0,(AI 0)),(1,(AI 100001)),(2,(AI (-100001)))] h5) fun t38 h39 y40=>
 (h39 = h5 ∧ y40 = []) ∧ (callE C f_q042 [v0,t38] h39 fun t41 h42 y43=>
 (pK (oLoad none t36 h42) fun v=>(fun u (g1 : Heap) (y1 : Esc)=>u = t37 ∧ g1 = h42 ∧ y1 = []) v h42 []) ∧ (wK (oBsl false none 1 (.int .i64 0) [(0,t41)] h42) fun t44 h45 y46=>
 (h45 = h42 ∧ y46 = []) ∧ (wK (oApp none t37 t44 h45) fun t47 h48 y49=>
 pK (oFaddr 3 none v9) fun t50=>
 wK (oStore none t50 t47 h48) fun t51 h52 y53=>
 NW C gl q4 ⟨[(0,v0),(1,v1),(7,v7),(8,v8),(9,v9),(13,v13),(14,v14)],h52,(y53 ++ (y49 ++ (y46 ++ (y43 ++ (y40 ++ (y6 ++ (y3 ++ x)))))))⟩ K))))
 (pK (oFaddr 3 none v9) fun t54=>
 pK (oLoad none t54 h5) fun t55=>
 pK (oFaddr 3 none v9) fun t56=>
 pK (oLoad none t56 h5) fun t57=>
 pK (oLen t57) fun t58=>
 pK (oBin .add t58 (AI 1)) fun t59=>
 callE C f_q040 [v0,t59] h5 fun t60 h61 y62=>
 (pK (oLoad none t54 h61) fun v=>(fun u (g1 : Heap) (y1 : Esc)=>u = t55 ∧ g1 = h61 ∧ y1 = []) v h61 []) ∧ (pK (oSlice none t55 none (some t60) none h61) fun t63=>
 pK (oFaddr 3 none v9) fun t64=>
 wK (oStore none t64 t63 h61) fun t65 h66 y67=>
 NW C gl q4 ⟨[(0,v0),(1,v1),(7,v7),(8,v8),(9,v9),(13,v13),(14,v14)],h66,(y67 ++ (y62 ++ (y6 ++ (y3 ++ x))))⟩ K))))
 (NW C gl q4 ⟨[(0,v0),(1,v1),(7,v7),(8,v8),(9,v9),(13,v13),(14,v14),(89,t1)],h2,(y3 ++ x)⟩ K)
theorem E_q044_k5 {C gl q4 e h x K} : NW C gl (P_q044_k5 q4) ⟨e,h,x⟩ K = d_q044_k5 C gl q4 (aget e 0) (aget e 1) (aget e 7) (aget e 8) (aget e 9) (aget e 13) (aget e 14) h x K:=by kernel_rfl
theorem e_q044_k5 {C gl e h x K} : NW C gl p_q044_k5 ⟨e,h,x⟩ K = d_q044_k5 C gl p_q044_k4 (aget e 0) (aget e 1) (aget e 7) (aget e 8) (aget e 9) (aget e 13) (aget e 14) h x K:=E_q044_k5
def p_q044_k6 : ACode:=.pr [0,1,7,8,13,14] (rg [bN 129 .add 14 (cI 1),
mV 14 129] [0,1,7,8,13,14])
def d_q044_k6 (C : Hd) (gl : GL) (v0 v1 v7 v8 v13 v14 : AV) (h : Heap) (x : Esc) (K : KT) : Prop:=
 pK (oBin .add v14 (AI 1)) fun t1=>
 K .normal ⟨[(0,v0),(1,v1),(7,v7),(8,v8),(13,v13),(14,t1)],h,x⟩
theorem e_q044_k6 {C gl e h x K} : NW C gl p_q044_k6 ⟨e,h,x⟩ K = d_q044_k6 C gl (aget e 0) (aget e 1) (aget e 7) (aget e 8) (aget e 13) (aget e 14) h x K:=by kernel_rfl
def P_q044_k7 (q3 q5 q6 : ACode) : ACode:=.pr [0,1,7,8,13,14] (.seq (rg [bN 15 .lss 14 13] [0,1,7,8,13,14,15])
(.seq (.cond 15 .skip
(.exit 0))
(.seq (.block 1 (.seq (rg [mV 16 8,
mV 17 0,
uO 18 (.bsl false none 4 (.int .i64 0) [(0,(cI 1)),(1,(cI 1)),(2,(cI 5)),(3,(cI 0))]),
cL 19 f_q042 [17,18],
bN 20 .add 16 19,
mV 8 20] [0,1,7,8,13,14])
(.seq (rg [mV 21 0,
uO 22 (.bsl false none 4 (.str []) [(0,(cS [117,49])),(1,(cS [117,50])),(2,(cS [117,51])),(3,(cS [117,52]))]),
cL 23 f_q049 [21,22],
mV 24 8,
mV 25 0,
uO 26 (.bsl false none 3 (.str []) [(0,(cS [115,49])),(1,(cS [115,49])),(2,(cS [115,50]))]),
cL 27 f_q049 [25,26],
uO 28 (.build [.p (.str []),.p (.int .i64 0),.p (.str []),.sl0 none] [(0,1,23),(1,1,24),(2,1,27)]),
uO 9 (.alloc [.p (.str []),.p (.int .i64 0),.p (.str []),.sl0 none]),
wO (.store (some 4) 9 28)] [0,1,7,8,9,13,14])
(.seq (.seq (rg [mV 29 1,
lN 30 29,
mV 31 (cI 0)] [0,1,7,8,9,13,14,29,30,31])
(.block 2 (.loop (.scope q3))))
q5))))
q6)))
def p_q044_k7 : ACode:=P_q044_k7 p_q044_k3 p_q044_k5 p_q044_k6
def d_q044_k7 (C : Hd) (gl : GL) (q3 q5 q6 : ACode) (v0 v1 v7 v8 v13 v14 : AV) (h : Heap) (x : Esc) (K : KT) : Prop:=
 pK (oBin .lss v14 v13) fun t1=>
 condB t1 (wK (oBsl false none 4 (.int .i64 0) [(0,(AI 1)),(1,(AI 1)),(2,(AI 5)),(3,(AI 0))] h) fun t2 h3 y4=>
 C f_q042 [v0,t2] h3 fun t5 h6 y7=>
 pK (oBin .add v8 t5) fun t8=>
 wK (oBsl false none 4 (.str []) [(0,(.p (.str [117,49]))),(1,(.p (.str [117,50]))),(2,(.p (.str [117,51]))),(3,(.p (.str [117,52])))] h6) fun t9 h10 y11=>
 C f_q049 [v0,t9] h10 fun t12 h13 y14=>
 wK (oBsl false none 3 (.str []) [(0,(.p (.str [115,49]))),(1,(.p (.str [115,49]))),(2,(.p (.str [115,50])))] h13) fun t15 h16 y17=>
 C f_q049 [v0,t15] h16 fun t18 h19 y20=>
 pK (oBuild [.p (.str []),.p (.int .i64 0),.p (.str []),.sl0 none] [(0,1,t12),(1,1,t8),(2,1,t18)]) fun t21=>
 alK [.p (.str []),.p (.int .i64 0),.p (.str []),.sl0 none] h19 fun t22 h23 y24=>
 wK (oStore (some 4) t22 t21 h23) fun t25 h26 y27=>
 pK (oLen v1) fun t28=>
 NW C gl (.loop (.scope q3)) ⟨[(0,v0),(1,v1),(7,v7),(8,t8),(9,t22),(13,v13),(14,v14),(29,v1),(30,t28),(31,(AI 0))],h26,(y27 ++ (y24 ++ (y20 ++ (y17 ++ (y14 ++ (y11 ++ (y7 ++ (y4 ++ x))))))))⟩ (blockN 2 (seqN C gl q5 (blockN 1 (seqN C gl q6 K)))))
 (K (.exit 0) ⟨[(0,v0),(1,v1),(7,v7),(8,v8),(13,v13),(14,v14),(15,t1)],h,x⟩)
theorem E_q044_k7 {C gl q3 q5 q6 e h x K} : NW C gl (P_q044_k7 q3 q5 q6) ⟨e,h,x⟩ K = d_q044_k7 C gl q3 q5 q6 (aget e 0) (aget e 1) (aget e 7) (aget e 8) (aget e 13) (aget e 14) h x K:=by kernel_rfl
theorem e_q044_k7 {C gl e h x K} : NW C gl p_q044_k7 ⟨e,h,x⟩ K = d_q044_k7 C gl p_q044_k3 p_q044_k5 p_q044_k6 (aget e 0) (aget e 1) (aget e 7) (aget e 8) (aget e 13) (aget e 14) h x K:=E_q044_k7
theorem l_q044_k7 {C gl e h x K} : NW C gl (.loop (.scope p_q044_k7)) ⟨e,h,x⟩ K = NLoop C gl (.scope p_q044_k7) K [(0,aget e 0),(1,aget e 1),(7,aget e 7),(8,aget e 8),(13,aget e 13),(14,aget e 14)] h x:=NLoop_sc
def p_q044_k8 : ACode:=.pr [7] (.seq (rg [mV 130 7,
cL 131 f_q05s [130,(.f f_q045)]] [7])
(.seq (rg [mV 132 7,
cL 133 f_q053 [132,(.f f_q046)],
mV 6 133] [6])
.ret))
def d_q044_k8 (C : Hd) (gl : GL) (v7 : AV) (h : Heap) (x : Esc) (K : KT) : Prop:=
 C f_q05s [v7,(.fn f_q045 [])] h fun t1 h2 y3=>
 C f_q053 [v7,(.fn f_q046 [])] h2 fun t4 h5 y6=>
 K .ret ⟨[(6,t4)],h5,(y6 ++ (y3 ++ x))⟩
theorem e_q044_k8 {C gl e h x K} : NW C gl p_q044_k8 ⟨e,h,x⟩ K = d_q044_k8 C gl (aget e 7) h x K:=by kernel_rfl
def P_q044 (q7 q8 : ACode) : ACode:=(.seq (rg [mV 6 (.c (.p (.sl (some 4) [])))] [0,1,2])
(.seq (rg [uO 7 (.new0 (some 4))] [0,1,2,7])
(.seq (rg [mV 8 (cI 0)] [0,1,2,7,8])
(.seq (.seq (rg [mV 13 2,
mV 14 (cI 0)] [0,1,7,8,13,14])
(.block 0 (.loop (.scope q7))))
q8))))
def a_q044 : AFun:=⟨3,[.t 6],P_q044 p_q044_k7 p_q044_k8,false,false⟩
def d_q044 (C : Hd) (gl : GL) (q7 q8 : ACode) (v0 v1 v2 : AV) (h : Heap) (x : Esc) (K : KT) : Prop:=
 nwK (some 4) h fun t1 h2 y3=>
 NW C gl (.loop (.scope q7)) ⟨[(0,v0),(1,v1),(7,t1),(8,(AI 0)),(13,v2),(14,(AI 0))],h2,(y3 ++ x)⟩ (blockN 0 (seqN C gl q8 K))
theorem E_q044 {C gl q7 q8 v0 v1 v2 h x K} : NW C gl (P_q044 q7 q8) ⟨enter [v0,v1,v2],h,x⟩ K = d_q044 C gl q7 q8 v0 v1 v2 h x K:=by kernel_rfl
theorem e_q044 {C gl v0 v1 v2 h x K} : NW C gl a_q044.body ⟨enter [v0,v1,v2],h,x⟩ K = d_q044 C gl p_q044_k7 p_q044_k8 v0 v1 v2 h x K:=E_q044
def p_q04g_k1 : ACode:=.pr [0,1,17,18,19] (.seq (rg [bN 20 .lss 19 18] [0,1,17,18,19,20])
(.seq (.cond 20 .skip
(.exit 0))
(.seq (.block 1 (.seq (rg [mV 21 19,
iA 22 (some 4) 17 19,
lD 23 (some 4) 22,
uO 7 (.alloc [.p (.str []),.p (.int .i64 0),.p (.str []),.sl0 none]),
mV 6 21,
wO (.store (some 4) 7 23)] [0,1,6,7,17,18,19])
(.seq (.seq (rg [mV 24 0,
lD 25 (some 4) 7,
cL 26 f_q04v [24,25],
mV 8 26] [0,1,6,7,8,17,18,19])
(.seq (rg [mV 27 8,
bN 28 .neq 27 (cI 0)] [0,1,6,7,8,17,18,19,28])
(.cond 28 (.seq (rg [mV 29 8,
mV 4 29] [4])
.ret)
.skip)))
(.seq (dr [dF (mV 30 6) [6],
dF (bN 31 .gtr 30 (cI 0)) [30],
dF (mV 32 31) [31],
dF (gD 33 32 true (.mv 1)) [1,32],
dF (gD 34 32 true (.mv 6)) [6,32],
dF (gD 35 32 true (.bin .sub 34 (cI 1))) [34,32],
dF (gD 36 32 true (.iaddr (some 4) 33 35)) [33,35,32],
dF (gD 37 32 true (.load (some 4) 36)) [36,32],
dF (gD 38 32 true (.load (some 4) 7)) [7,32],
dT (gD 39 32 true (.call f_q04x [37,38])) [37,38,32],
dF (gD 40 32 true (.bin .geq 39 (cI 0))) [39,32],
dF (uO 41 (.pick 32 40 cF)) [32,40]] [0,1,17,18,19,41])
(.cond 41 (.seq (rg [mV 4 (cI 7)] [4])
.ret)
.skip)))))
(rg [bN 42 .add 19 (cI 1),
mV 19 42] [0,1,17,18,19]))))
def d_q04g_k1 (C : Hd) (gl : GL) (v0 v1 v17 v18 v19 : AV) (h : Heap) (x : Esc) (K : KT) : Prop:=
 pK (oBin .lss v19 v18) fun t1=>
 condB t1 (pK (oIaddr (some 4) v17 v19 h) fun t2=>
 pK (oLoad (some 4) t2 h) fun t3=>
 alK [.p (.str []),.p (.int .i64 0),.p (.str []),.sl0 none] h fun t4 h5 y6=>
 wK (oStore (some 4) t4 t3 h5) fun t7 h8 y9=>
 pK (oLoad (some 4) t4 h8) fun t10=>
 C f_q04v [v0,t10] h8 fun t11 h12 y13=>
 pK (oBin .neq t11 (AI 0)) fun t14=>
 condB t14 (K .ret ⟨[(4,t11)],h12,(y13 ++ (y9 ++ (y6 ++ x)))⟩)
 (pK (oBin .gtr v19 (AI 0)) fun t15=>
 gM t15 true v1 h12 fun t16 h17 y18=>
 gM t15 true v19 h17 fun t19 h20 y21=>
 gP t15 true (oBin .sub t19 (AI 1)) h20 fun t22 h23 y24=>
 gP t15 true (oIaddr (some 4) t16 t22 h23) h23 fun t25 h26 y27=>
 gP t15 true (oLoad (some 4) t25 h26) h26 fun t28 h29 y30=>
 gP t15 true (oLoad (some 4) t4 h29) h29 fun t31 h32 y33=>
 gV t15 true h32 (callE C f_q04x [t28,t31] h32) fun t34 h35 y36=>
 gP t15 true (oBin .geq t34 (AI 0)) h35 fun t37 h38 y39=>
 pK (oPick t15 t37 (AB false)) fun t40=>
 condB t40 (K .ret ⟨[(4,(AI 7))],h38,(y39 ++ (y36 ++ (y33 ++ (y30 ++ (y27 ++ (y24 ++ (y21 ++ (y18 ++ (y13 ++ (y9 ++ (y6 ++ x)))))))))))⟩)
 (pK (oBin .add v19 (AI 1)) fun t41=>
 K .normal ⟨[(0,v0),(1,v1),(17,v17),(18,v18),(19,t41)],h38,(y39 ++ (y36 ++ (y33 ++ (y30 ++ (y27 ++ (y24 ++ (y21 ++ (y18 ++ (y13 ++ (y9 ++ (y6 ++ x)))))))))))⟩)))
 (K (.exit 0) ⟨[(0,v0),(1,v1),(17,v17),(18,v18),(19,v19),(20,t1)],h,x⟩)
theorem e_q04g_k1 {C gl e h x K} : NW C gl p_q04g_k1 ⟨e,h,x⟩ K = d_q04g_k1 C gl (aget e 0) (aget e 1) (aget e 17) (aget e 18) (aget e 19) h x K:=by kernel_rfl
theorem l_q04g_k1 {C gl e h x K} : NW C gl (.loop (.scope p_q04g_k1)) ⟨e,h,x⟩ K = NLoop C gl (.scope p_q04g_k1) K [(0,aget e 0),(1,aget e 1),(17,aget e 17),(18,aget e 18),(19,aget e 19)] h x:=NLoop_sc
def p_q04g_k2 : ACode:=.pr [] (.seq (rg [mV 4 (cI 0)] [4])
.ret)
def d_q04g_k2 (C : Hd) (gl : GL) (h : Heap) (x : Esc) (K : KT) : Prop:=
 K .ret ⟨[(4,(AI 0))],h,x⟩
theorem e_q04g_k2 {C gl e h x K} : NW C gl p_q04g_k2 ⟨e,h,x⟩ K = d_q04g_k2 C gl h x K:=by kernel_rfl
def P_q04g (q1 q2 : ACode) : ACode:=(.seq (rg [mV 4 (cI 0)] [0,1])
(.seq (.seq (rg [mV 9 0,
cL 10 f_q04d [9],
mV 5 10] [0,1,5])
(.seq (rg [mV 11 5,
bN 12 .neq 11 (cI 0)] [0,1,5,12])
(.cond 12 (.seq (rg [mV 13 5,
mV 4 13] [4])
.ret)
.skip)))
(.seq (.seq (rg [mV 14 1,
lN 15 14,
bN 16 .gtr 15 (cI 5000)] [0,1,16])
(.cond 16 (.seq (rg [mV 4 (cI 2)] [4])
.ret)
.skip))
(.seq (.seq (rg [mV 17 1,
lN 18 17,
mV 19 (cI 0)] [0,1,17,18,19])
(.block 0 (.loop (.scope q1))))
q2))))
def a_q04g : AFun:=⟨2,[.t 4],P_q04g p_q04g_k1 p_q04g_k2,false,false⟩
def d_q04g (C : Hd) (gl : GL) (q1 q2 : ACode) (v0 v1 : AV) (h : Heap) (x : Esc) (K : KT) : Prop:=
 C f_q04d [v0] h fun t1 h2 y3=>
 pK (oBin .neq t1 (AI 0)) fun t4=>
 condB t4 (K .ret ⟨[(4,t1)],h2,(y3 ++ x)⟩)
 (pK (oLen v1) fun t5=>
 pK (oBin .gtr t5 (AI 5000)) fun t6=>
 condB t6 (K .ret ⟨[(4,(AI 2))],h2,(y3 ++ x)⟩)
 (pK (oLen v1) fun t7=>
 NW C gl (.loop (.scope q1)) ⟨[(0,v0),(1,v1),(17,v1),(18,t7),(19,(AI 0))],h2,(y3 ++ x)⟩ (blockN 0 (seqN C gl q2 K))))
theorem E_q04g {C gl q1 q2 v0 v1 h x K} : NW C gl (P_q04g q1 q2) ⟨enter [v0,v1],h,x⟩ K = d_q04g C gl q1 q2 v0 v1 h x K:=by kernel_rfl
theorem e_q04g {C gl v0 v1 h x K} : NW C gl a_q04g.body ⟨enter [v0,v1],h,x⟩ K = d_q04g C gl p_q04g_k1 p_q04g_k2 v0 v1 h x K:=E_q04g
def P_q023 : ACode:=(.seq (rg [mV 4 (cI 0)] [0,1])
(.seq (.seq (rg [mV 6 0,
cL 7 f_q022 [6],
mV 5 7] [0,1,5])
(.seq (rg [mV 8 5,
bN 9 .neq 8 (cI 0)] [0,1,5,9])
(.cond 9 (.seq (rg [mV 10 5,
mV 4 10] [4])
.ret)
.skip)))
(.seq (rg [mV 11 0,
mV 12 1,
cL 13 f_q02z [11,12],
mV 4 13] [4])
.ret)))
def a_q023 : AFun:=⟨2,[.t 4],P_q023,false,false⟩
def d_q023 (C : Hd) (gl : GL) (v0 v1 : AV) (h : Heap) (x : Esc) (K : KT) : Prop:=
 C f_q022 [v0] h fun t1 h2 y3=>
 pK (oBin .neq t1 (AI 0)) fun t4=>
 condB t4 (K .ret ⟨[(4,t1)],h2,(y3 ++ x)⟩)
 (C f_q02z [v0,v1] h2 fun t5 h6 y7=>
 K .ret ⟨[(4,t5)],h6,(y7 ++ (y3 ++ x))⟩)
theorem e_q023 {C gl v0 v1 h x K} : NW C gl a_q023.body ⟨enter [v0,v1],h,x⟩ K = d_q023 C gl v0 v1 h x K:=by kernel_rfl
def P_q05s : ACode:=(rg [mV 4 0,
mV 5 0,
lN 6 5,
mV 7 1,
cL 8 f_q073 [4,6,7]] [])
def a_q05s : AFun:=⟨2,[],P_q05s,true,false⟩
def d_q05s (C : Hd) (gl : GL) (v0 v1 : AV) (h : Heap) (x : Esc) (K : KT) : Prop:=
 pK (oLen v0) fun t1=>
 C f_q073 [v0,t1,v1] h fun t2 h3 y4=>
 K .normal ⟨[],h3,(y4 ++ x)⟩
theorem e_q05s {C gl v0 v1 h x K} : NW C gl a_q05s.body ⟨enter [v0,v1],h,x⟩ K = d_q05s C gl v0 v1 h x K:=by kernel_rfl
def P_q02i : ACode:=(.seq (rg [uO 2 (.box 0),
uO 3 (.box 1),
mV 4 (cI 0)] [2,3])
(.seq (dr [dF (fA 5 1 none 2) [2],
dF (lD 6 none 5) [5],
dF (fA 7 1 none 3) [3],
dF (lD 8 none 7) [7],
dT (cL 9 f_q00s [6,8]) [6,8],
dF (fA 10 0 none 2) [2],
dA (lD 11 none 10) [10] false [4] [],
dF (fA 12 0 none 3) [3],
dA (lD 13 none 12) [12] false [4] [],
dT (cL 14 f_q07z [11,13]) [11,13],
dF (uO 15 (.bsl false none 2 (.int .i64 0) [(0,9),(1,14)])) [9,14],
dT (cL 16 f_q00v [15]) [15],
dF (mV 4 16) [16]] [4])
.ret))
def a_q02i : AFun:=⟨2,[.t 4],P_q02i,false,false⟩
def d_q02i (C : Hd) (gl : GL) (v0 v1 : AV) (h : Heap) (x : Esc) (K : KT) : Prop:=
 wK (oBox v0 h) fun t1 h2 y3=>
 wK (oBox v1 h2) fun t4 h5 y6=>
 pK (oFaddr 1 none t1) fun t7=>
 pK (oLoad none t7 h5) fun t8=>
 pK (oFaddr 1 none t4) fun t9=>
 pK (oLoad none t9 h5) fun t10=>
 callE C f_q00s [t8,t10] h5 fun t11 h12 y13=>
 pK (oFaddr 0 none t1) fun t14=>
 pK (oLoad none t14 h12) fun t15=>
 (pK (oLoad none t14 h5) fun v=>(fun u (g1 : Heap) (y1 : Esc)=>u = t15 ∧ g1 = h5 ∧ y1 = []) v h5 []) ∧ (pK (oFaddr 0 none t4) fun t16=>
 pK (oLoad none t16 h12) fun t17=>
 (pK (oLoad none t16 h5) fun v=>(fun u (g1 : Heap) (y1 : Esc)=>u = t17 ∧ g1 = h5 ∧ y1 = []) v h5 []) ∧ (callE C f_q07z [t15,t17] h12 fun t18 h19 y20=>
 wK (oBsl false none 2 (.int .i64 0) [(0,t11),(1,t18)] h19) fun t21 h22 y23=>
 (h22 = h19 ∧ y23 = []) ∧ (callE C f_q00v [t21] h22 fun t24 h25 y26=>
 K .ret ⟨[(4,t24)],h25,(y26 ++ (y23 ++ (y20 ++ (y13 ++ (y6 ++ (y3 ++ x))))))⟩)))
theorem e_q02i {C gl v0 v1 h x K} : NW C gl a_q02i.body ⟨enter [v0,v1],h,x⟩ K = d_q02i C gl v0 v1 h x K:=by kernel_rfl
def p_q053_k1 : ACode:=.pr [0,1,5,6,7] (rg [mV 36 7,
bN 37 .add 36 (cI 1),
mV 7 37] [0,1,5,6,7])
def d_q053_k1 (C : Hd) (gl : GL) (v0 v1 v5 v6 v7 : AV) (h : Heap) (x : Esc) (K : KT) : Prop:=
 pK (oBin .add v7 (AI 1)) fun t1=>
 K .normal ⟨[(0,v0),(1,v1),(5,v5),(6,v6),(7,t1)],h,x⟩
theorem e_q053_k1 {C gl e h x K} : NW C gl p_q053_k1 ⟨e,h,x⟩ K = d_q053_k1 C gl (aget e 0) (aget e 1) (aget e 5) (aget e 6) (aget e 7) h x K:=by kernel_rfl
def P_q053_k2 (q1 : ACode) : ACode:=.pr [0,1,5,6,7] (.seq (.seq (rg [mV 32 7,
mV 33 6,
lN 34 33,
bN 35 .lss 32 34] [0,1,5,6,7,35])
(.cond 35 .skip
(.exit 2)))
(.seq (.block 3 (.seq (dr [dF (mV 38 1) [1],
dF (mV 39 6) [6],
dF (mV 40 7) [7],
dF (iA 41 (some 4) 39 40) [39,40],
dF (lD 42 (some 4) 41) [41],
dF (mV 43 6) [6],
dF (mV 44 7) [7],
dF (bN 45 .sub 44 (cI 1)) [44],
dF (iA 46 (some 4) 43 45) [43,45],
dF (lD 47 (some 4) 46) [46],
dT (uO 48 (.callv 38 [42,47])) [38,42,47],
dF (uO 49 (.un .not 48)) [48]] [0,1,5,6,7,49])
(.cond 49 (.seq (rg [mV 50 0,
mV 51 5,
mV 52 6,
mV 53 7,
iA 54 (some 4) 52 53,
lD 55 (some 4) 54,
iA 56 (some 4) 50 51,
wO (.store (some 4) 56 55)] [0,1,5,6,7])
(rg [mV 57 5,
bN 58 .add 57 (cI 1),
mV 5 58] [0,1,5,6,7]))
.skip)))
q1))
def p_q053_k2 : ACode:=P_q053_k2 p_q053_k1
def d_q053_k2 (C : Hd) (gl : GL) (q1 : ACode) (v0 v1 v5 v6 v7 : AV) (h : Heap) (x : Esc) (K : KT) : Prop:=
 pK (oLen v6) fun t1=>
 pK (oBin .lss v7 t1) fun t2=>
 condB t2 (pK (oIaddr (some 4) v6 v7 h) fun t3=>
 pK (oLoad (some 4) t3 h) fun t4=>
 pK (oBin .sub v7 (AI 1)) fun t5=>
 pK (oIaddr (some 4) v6 t5 h) fun t6=>
 pK (oLoad (some 4) t6 h) fun t7=>
 callvE C v1 [t4,t7] h fun t8 h9 y10=>
 pK (oUn .not t8) fun t11=>
 condB t11 (pK (oIaddr (some 4) v6 v7 h9) fun t12=>
 pK (oLoad (some 4) t12 h9) fun t13=>
 pK (oIaddr (some 4) v0 v5 h9) fun t14=>
 wK (oStore (some 4) t14 t13 h9) fun t15 h16 y17=>
 pK (oBin .add v5 (AI 1)) fun t18=>
 NW C gl q1 ⟨[(0,v0),(1,v1),(5,t18),(6,v6),(7,v7)],h16,(y17 ++ (y10 ++ x))⟩ K)
 (NW C gl q1 ⟨[(0,v0),(1,v1),(5,v5),(6,v6),(7,v7),(49,t11)],h9,(y10 ++ x)⟩ K))
 (K (.exit 2) ⟨[(0,v0),(1,v1),(5,v5),(6,v6),(7,v7),(35,t2)],h,x⟩)
theorem E_q053_k2 {C gl q1 e h x K} : NW C gl (P_q053_k2 q1) ⟨e,h,x⟩ K = d_q053_k2 C gl q1 (aget e 0) (aget e 1) (aget e 5) (aget e 6) (aget e 7) h x K:=by kernel_rfl
theorem e_q053_k2 {C gl e h x K} : NW C gl p_q053_k2 ⟨e,h,x⟩ K = d_q053_k2 C gl p_q053_k1 (aget e 0) (aget e 1) (aget e 5) (aget e 6) (aget e 7) h x K:=E_q053_k2
theorem l_q053_k2 {C gl e h x K} : NW C gl (.loop p_q053_k2) ⟨e,h,x⟩ K = NLoop C gl p_q053_k2 K [(0,aget e 0),(1,aget e 1),(5,aget e 5),(6,aget e 6),(7,aget e 7)] h x:=NLoop_pr
def p_q053_k3 : ACode:=.pr [0,5] (.seq (rg [mV 59 0,
mV 60 5,
uO 61 (.slice (some 4) 59 (some 60) none none),
wO (.clr (some 4) (.agg [.str [],.int .i64 0,.str [],.sl none []]) 61)] [0,5])
(.seq (rg [mV 62 0,
mV 63 5,
uO 64 (.slice (some 4) 62 none (some 63) none),
mV 4 64] [4])
.ret))
def d_q053_k3 (C : Hd) (gl : GL) (v0 v5 : AV) (h : Heap) (x : Esc) (K : KT) : Prop:=
 pK (oSlice (some 4) v0 (some v5) none none h) fun t1=>
 wK (oClr (some 4) (.agg [.str [],.int .i64 0,.str [],.sl none []]) t1 h) fun t2 h3 y4=>
 pK (oSlice (some 4) v0 none (some v5) none h3) fun t5=>
 K .ret ⟨[(4,t5)],h3,(y4 ++ x)⟩
theorem e_q053_k3 {C gl e h x K} : NW C gl p_q053_k3 ⟨e,h,x⟩ K = d_q053_k3 C gl (aget e 0) (aget e 5) h x K:=by kernel_rfl
def p_q053_k4 : ACode:=.pr [0,1,5] (rg [mV 16 5,
bN 17 .add 16 (cI 1),
mV 5 17] [0,1,5])
def d_q053_k4 (C : Hd) (gl : GL) (v0 v1 v5 : AV) (h : Heap) (x : Esc) (K : KT) : Prop:=
 pK (oBin .add v5 (AI 1)) fun t1=>
 K .normal ⟨[(0,v0),(1,v1),(5,t1)],h,x⟩
theorem e_q053_k4 {C gl e h x K} : NW C gl p_q053_k4 ⟨e,h,x⟩ K = d_q053_k4 C gl (aget e 0) (aget e 1) (aget e 5) h x K:=by kernel_rfl
def P_q053_k5 (q2 q3 q4 : ACode) : ACode:=.pr [0,1,5] (.seq (.seq (rg [mV 12 5,
mV 13 0,
lN 14 13,
bN 15 .lss 12 14] [0,1,5,15])
(.cond 15 .skip
(.exit 0)))
(.seq (.block 1 (.seq (dr [dF (mV 18 1) [1],
dF (mV 19 0) [0],
dF (mV 20 5) [5],
dF (iA 21 (some 4) 19 20) [19,20],
dF (lD 22 (some 4) 21) [21],
dF (mV 23 0) [0],
dF (mV 24 5) [5],
dF (bN 25 .sub 24 (cI 1)) [24],
dF (iA 26 (some 4) 23 25) [23,25],
dF (lD 27 (some 4) 26) [26],
dT (uO 28 (.callv 18 [22,27])) [18,22,27]] [0,1,5,28])
(.cond 28 (.seq (rg [mV 29 0,
mV 30 5,
uO 31 (.slice (some 4) 29 (some 30) none none),
mV 6 31] [0,1,5,6])
(.seq (.seq (rg [mV 7 (cI 1)] [0,1,5,6,7])
(.block 2 (.loop q2)))
q3))
.skip)))
q4))
def p_q053_k5 : ACode:=P_q053_k5 p_q053_k2 p_q053_k3 p_q053_k4
def d_q053_k5 (C : Hd) (gl : GL) (q2 q3 q4 : ACode) (v0 v1 v5 : AV) (h : Heap) (x : Esc) (K : KT) : Prop:=
 pK (oLen v0) fun t1=>
 pK (oBin .lss v5 t1) fun t2=>
 condB t2 (pK (oIaddr (some 4) v0 v5 h) fun t3=>
 pK (oLoad (some 4) t3 h) fun t4=>
 pK (oBin .sub v5 (AI 1)) fun t5=>
 pK (oIaddr (some 4) v0 t5 h) fun t6=>
 pK (oLoad (some 4) t6 h) fun t7=>
 callvE C v1 [t4,t7] h fun t8 h9 y10=>
 condB t8 (pK (oSlice (some 4) v0 (some v5) none none h9) fun t11=>
 NW C gl (.loop q2) ⟨[(0,v0),(1,v1),(5,v5),(6,t11),(7,(AI 1))],h9,(y10 ++ x)⟩ (blockN 2 (seqN C gl q3 (blockN 1 (seqN C gl q4 K)))))
 (NW C gl q4 ⟨[(0,v0),(1,v1),(5,v5),(28,t8)],h9,(y10 ++ x)⟩ K))
 (K (.exit 0) ⟨[(0,v0),(1,v1),(5,v5),(15,t2)],h,x⟩)
theorem E_q053_k5 {C gl q2 q3 q4 e h x K} : NW C gl (P_q053_k5 q2 q3 q4) ⟨e,h,x⟩ K = d_q053_k5 C gl q2 q3 q4 (aget e 0) (aget e 1) (aget e 5) h x K:=by kernel_rfl
theorem e_q053_k5 {C gl e h x K} : NW C gl p_q053_k5 ⟨e,h,x⟩ K = d_q053_k5 C gl p_q053_k2 p_q053_k3 p_q053_k4 (aget e 0) (aget e 1) (aget e 5) h x K:=E_q053_k5
theorem l_q053_k5 {C gl e h x K} : NW C gl (.loop p_q053_k5) ⟨e,h,x⟩ K = NLoop C gl p_q053_k5 K [(0,aget e 0),(1,aget e 1),(5,aget e 5)] h x:=NLoop_pr
def p_q053_k6 : ACode:=.pr [0] (.seq (rg [mV 65 0,
mV 4 65] [4])
.ret)
def d_q053_k6 (C : Hd) (gl : GL) (v0 : AV) (h : Heap) (x : Esc) (K : KT) : Prop:=
 K .ret ⟨[(4,v0)],h,x⟩
theorem e_q053_k6 {C gl e h x K} : NW C gl p_q053_k6 ⟨e,h,x⟩ K = d_q053_k6 C gl (aget e 0) h x K:=by kernel_rfl
def P_q053 (q5 q6 : ACode) : ACode:=(.seq (rg [mV 4 (.c (.p (.sl (some 4) [])))] [0,1])
(.seq (.seq (rg [mV 8 0,
lN 9 8,
bN 10 .lss 9 (cI 2)] [0,1,10])
(.cond 10 (.seq (rg [mV 11 0,
mV 4 11] [4])
.ret)
.skip))
(.seq (.seq (rg [mV 5 (cI 1)] [0,1,5])
(.block 0 (.loop q5)))
q6)))
def a_q053 : AFun:=⟨2,[.t 4],P_q053 p_q053_k5 p_q053_k6,true,false⟩
def d_q053 (C : Hd) (gl : GL) (q5 q6 : ACode) (v0 v1 : AV) (h : Heap) (x : Esc) (K : KT) : Prop:=
 pK (oLen v0) fun t1=>
 pK (oBin .lss t1 (AI 2)) fun t2=>
 condB t2 (K .ret ⟨[(4,v0)],h,x⟩)
 (NW C gl (.loop q5) ⟨[(0,v0),(1,v1),(5,(AI 1))],h,x⟩ (blockN 0 (seqN C gl q6 K)))
theorem E_q053 {C gl q5 q6 v0 v1 h x K} : NW C gl (P_q053 q5 q6) ⟨enter [v0,v1],h,x⟩ K = d_q053 C gl q5 q6 v0 v1 h x K:=by kernel_rfl
theorem e_q053 {C gl v0 v1 h x K} : NW C gl a_q053.body ⟨enter [v0,v1],h,x⟩ K = d_q053 C gl p_q053_k5 p_q053_k6 v0 v1 h x K:=E_q053
def P_q02o : ACode:=(.seq (rg [uO 3 (.box 1),
mV 4 (cI 0)] [0,3])
(.seq (rg [fA 6 3 none 3,
lD 7 none 6,
lN 8 7,
bN 9 .sub 8 (cI 1),
mV 5 9] [0,3,5])
(.seq (.seq (dr [dF (mV 10 0) [0],
dF (mV 11 5) [5],
dF (iA 12 (some 4) 10 11) [10,11],
dF (lD 13 (some 4) 12) [12],
dF (fA 14 3 none 3) [3],
dF (lD 15 none 14) [14],
dF (mV 16 5) [5],
dF (iA 17 none 15 16) [15,16],
dF (lD 18 none 17) [17],
dT (cL 19 f_q02t [13,18]) [13,18]] [5,19])
(.cond 19 (.seq (rg [mV 4 (cI (-1))] [4])
.ret)
.skip))
(.seq (rg [mV 20 5,
mV 4 20] [4])
.ret))))
def a_q02o : AFun:=⟨2,[.t 4],P_q02o,false,false⟩
def d_q02o (C : Hd) (gl : GL) (v0 v1 : AV) (h : Heap) (x : Esc) (K : KT) : Prop:=
 wK (oBox v1 h) fun t1 h2 y3=>
 pK (oFaddr 3 none t1) fun t4=>
 pK (oLoad none t4 h2) fun t5=>
 pK (oLen t5) fun t6=>
 pK (oBin .sub t6 (AI 1)) fun t7=>
 pK (oIaddr (some 4) v0 t7 h2) fun t8=>
 pK (oLoad (some 4) t8 h2) fun t9=>
 pK (oFaddr 3 none t1) fun t10=>
 pK (oLoad none t10 h2) fun t11=>
 pK (oIaddr none t11 t7 h2) fun t12=>
 pK (oLoad none t12 h2) fun t13=>
 callE C f_q02t [t9,t13] h2 fun t14 h15 y16=>
 condB t14 (K .ret ⟨[(4,(AI (-1)))],h15,(y16 ++ (y3 ++ x))⟩)
 (K .ret ⟨[(4,t7)],h15,(y16 ++ (y3 ++ x))⟩)
theorem e_q02o {C gl v0 v1 h x K} : NW C gl a_q02o.body ⟨enter [v0,v1],h,x⟩ K = d_q02o C gl v0 v1 h x K:=by kernel_rfl
def P_q00s : ACode:=(.seq (rg [mV 4 (cI 0)] [0,1])
(.seq (rg [mV 7 0,
cL 8 f_q00w [7],
mV 5 8] [0,1,5])
(.seq (rg [mV 9 1,
cL 10 f_q00w [9],
mV 6 10] [0,1,5,6])
(.seq (.seq (rg [mV 11 5] [0,1,6,11])
(.cond 11 (.seq (.seq (rg [mV 12 6] [12])
(.cond 12 (.seq (rg [mV 4 (cI 0)] [4])
.ret)
.skip))
(.seq (rg [mV 4 (cI (-1))] [4])
.ret))
.skip))
(.seq (.seq (rg [mV 13 6] [0,1,13])
(.cond 13 (.seq (rg [mV 4 (cI 1)] [4])
.ret)
.skip))
(.seq (.seq (rg [mV 14 0,
mV 15 1,
bN 16 .lss 14 15] [0,1,16])
(.cond 16 (.seq (rg [mV 4 (cI (-1))] [4])
.ret)
.skip))
(.seq (.seq (rg [mV 17 0,
mV 18 1,
bN 19 .gtr 17 18] [19])
(.cond 19 (.seq (rg [mV 4 (cI 1)] [4])
.ret)
.skip))
(.seq (rg [mV 4 (cI 0)] [4])
.ret))))))))
def a_q00s : AFun:=⟨2,[.t 4],P_q00s,false,false⟩
def d_q00s (C : Hd) (gl : GL) (v0 v1 : AV) (h : Heap) (x : Esc) (K : KT) : Prop:=
 C f_q00w [v0] h fun t1 h2 y3=>
 C f_q00w [v1] h2 fun t4 h5 y6=>
 condB t1 (condB t4 (K .ret ⟨[(4,(AI 0))],h5,(y6 ++ (y3 ++ x))⟩)
 (K .ret ⟨[(4,(AI (-1)))],h5,(y6 ++ (y3 ++ x))⟩))
 (condB t4 (K .ret ⟨[(4,(AI 1))],h5,(y6 ++ (y3 ++ x))⟩)
 (pK (oBin .lss v0 v1) fun t7=>
 condB t7 (K .ret ⟨[(4,(AI (-1)))],h5,(y6 ++ (y3 ++ x))⟩)
 (pK (oBin .gtr v0 v1) fun t8=>
 condB t8 (K .ret ⟨[(4,(AI 1))],h5,(y6 ++ (y3 ++ x))⟩)
 (K .ret ⟨[(4,(AI 0))],h5,(y6 ++ (y3 ++ x))⟩))))
theorem e_q00s {C gl v0 v1 h x K} : NW C gl a_q00s.body ⟨enter [v0,v1],h,x⟩ K = d_q00s C gl v0 v1 h x K:=by kernel_rfl
def p_q03x_k1 : ACode:=.pr [0] (.seq (rg [mV 15 0,
mV 4 15] [4])
.ret)
def d_q03x_k1 (C : Hd) (gl : GL) (v0 : AV) (h : Heap) (x : Esc) (K : KT) : Prop:=
 K .ret ⟨[(4,v0)],h,x⟩
theorem e_q03x_k1 {C gl e h x K} : NW C gl p_q03x_k1 ⟨e,h,x⟩ K = d_q03x_k1 C gl (aget e 0) h x K:=by kernel_rfl
def P_q03x (q1 : ACode) : ACode:=(.seq (rg [mV 4 (cI 0)] [0,1])
(.seq (.seq (rg [mV 5 1,
bN 6 .lss 5 (cI 1)] [0,1,6])
(.cond 6 (.seq (rg [mV 4 (cI 0)] [4])
.ret)
.skip))
(.seq (rg [mV 7 0,
mV 8 1,
bN 9 .rem 7 8,
mV 0 9] [0,1])
(.seq (.seq (rg [mV 10 0,
bN 11 .lss 10 (cI 0)] [0,1,11])
(.cond 11 (rg [mV 12 0,
mV 13 1,
bN 14 .add 12 13,
mV 0 14] [0])
.skip))
q1))))
def a_q03x : AFun:=⟨2,[.t 4],P_q03x p_q03x_k1,false,false⟩
def d_q03x (C : Hd) (gl : GL) (q1 : ACode) (v0 v1 : AV) (h : Heap) (x : Esc) (K : KT) : Prop:=
 pK (oBin .lss v1 (AI 1)) fun t1=>
 condB t1 (K .ret ⟨[(4,(AI 0))],h,x⟩)
 (pK (oBin .rem v0 v1) fun t2=>
 pK (oBin .lss t2 (AI 0)) fun t3=>
 condB t3 (pK (oBin .add t2 v1) fun t4=>
 NW C gl q1 ⟨[(0,t4)],h,x⟩ K)
 (NW C gl q1 ⟨[(0,t2),(1,v1),(11,t3)],h,x⟩ K))
theorem E_q03x {C gl q1 v0 v1 h x K} : NW C gl (P_q03x q1) ⟨enter [v0,v1],h,x⟩ K = d_q03x C gl q1 v0 v1 h x K:=by kernel_rfl
theorem e_q03x {C gl v0 v1 h x K} : NW C gl a_q03x.body ⟨enter [v0,v1],h,x⟩ K = d_q03x C gl p_q03x_k1 v0 v1 h x K:=E_q03x
def P_q02r : ACode:=(.seq (rg [uO 3 (.box 1),
mV 4 (cI 0)] [0,3])
(.seq (rg [mV 5 0,
uO 6 (.mkfn f_q02s [3]),
cL 7 f_q05j [5,6],
mV 4 7] [4])
.ret))
def a_q02r : AFun:=⟨2,[.t 4],P_q02r,false,false⟩
def d_q02r (C : Hd) (gl : GL) (v0 v1 : AV) (h : Heap) (x : Esc) (K : KT) : Prop:=
 wK (oBox v1 h) fun t1 h2 y3=>
 C f_q05j [v0,(.fn f_q02s [t1])] h2 fun t4 h5 y6=>
 K .ret ⟨[(4,t4)],h5,(y6 ++ (y3 ++ x))⟩
theorem e_q02r {C gl v0 v1 h x K} : NW C gl a_q02r.body ⟨enter [v0,v1],h,x⟩ K = d_q02r C gl v0 v1 h x K:=by kernel_rfl
def p_q034_k1 : ACode:=.pr [1,5,8,9,10] (rg [bN 27 .add 10 (cI 1),
mV 10 27] [1,5,8,9,10])
def d_q034_k1 (C : Hd) (gl : GL) (v1 v5 v8 v9 v10 : AV) (h : Heap) (x : Esc) (K : KT) : Prop:=
 pK (oBin .add v10 (AI 1)) fun t1=>
 K .normal ⟨[(1,v1),(5,v5),(8,v8),(9,v9),(10,t1)],h,x⟩
theorem e_q034_k1 {C gl e h x K} : NW C gl p_q034_k1 ⟨e,h,x⟩ K = d_q034_k1 C gl (aget e 1) (aget e 5) (aget e 8) (aget e 9) (aget e 10) h x K:=by kernel_rfl
def P_q034_k2 (q1 : ACode) : ACode:=.pr [1,5,8,9,10] (.seq (rg [bN 11 .lss 10 9] [1,5,8,9,10,11])
(.seq (.cond 11 .skip
(.exit 0))
(.seq (.block 1 (.seq (rg [iA 12 (some 4) 8 10,
lD 13 (some 4) 12,
uO 7 (.alloc [.p (.str []),.p (.int .i64 0),.p (.str []),.sl0 none]),
wO (.store (some 4) 7 13)] [1,5,7,8,9,10])
(.seq (rg [mV 14 1,
fA 15 3 none 7,
lD 16 none 15,
lN 17 16,
bN 18 .lss 14 17] [1,5,7,8,9,10,18])
(.cond 18 (rg [mV 19 5,
fA 20 3 none 7,
lD 21 none 20,
mV 22 1,
iA 23 none 21 22,
lD 24 none 23,
uO 25 (.bsl false none 1 (.int .i64 0) [(0,24)]),
uO 26 (.app none 19 25),
mV 5 26] [1,5,8,9,10])
.skip))))
q1)))
def p_q034_k2 : ACode:=P_q034_k2 p_q034_k1
def d_q034_k2 (C : Hd) (gl : GL) (q1 : ACode) (v1 v5 v8 v9 v10 : AV) (h : Heap) (x : Esc) (K : KT) : Prop:=
 pK (oBin .lss v10 v9) fun t1=>
 condB t1 (pK (oIaddr (some 4) v8 v10 h) fun t2=>
 pK (oLoad (some 4) t2 h) fun t3=>
 alK [.p (.str []),.p (.int .i64 0),.p (.str []),.sl0 none] h fun t4 h5 y6=>
 wK (oStore (some 4) t4 t3 h5) fun t7 h8 y9=>
 pK (oFaddr 3 none t4) fun t10=>
 pK (oLoad none t10 h8) fun t11=>
 pK (oLen t11) fun t12=>
 pK (oBin .lss v1 t12) fun t13=>
 condB t13 (pK (oFaddr 3 none t4) fun t14=>
 pK (oLoad none t14 h8) fun t15=>
 pK (oIaddr none t15 v1 h8) fun t16=>
 pK (oLoad none t16 h8) fun t17=>
 wK (oBsl false none 1 (.int .i64 0) [(0,t17)] h8) fun t18 h19 y20=>
 wK (oApp none v5 t18 h19) fun t21 h22 y23=>
 NW C gl q1 ⟨[(1,v1),(5,t21),(8,v8),(9,v9),(10,v10)],h22,(y23 ++ (y20 ++ (y9 ++ (y6 ++ x))))⟩ K)
 (NW C gl q1 ⟨[(1,v1),(5,v5),(7,t4),(8,v8),(9,v9),(10,v10),(18,t13)],h8,(y9 ++ (y6 ++ x))⟩ K))
 (K (.exit 0) ⟨[(1,v1),(5,v5),(8,v8),(9,v9),(10,v10),(11,t1)],h,x⟩)
theorem E_q034_k2 {C gl q1 e h x K} : NW C gl (P_q034_k2 q1) ⟨e,h,x⟩ K = d_q034_k2 C gl q1 (aget e 1) (aget e 5) (aget e 8) (aget e 9) (aget e 10) h x K:=by kernel_rfl
theorem e_q034_k2 {C gl e h x K} : NW C gl p_q034_k2 ⟨e,h,x⟩ K = d_q034_k2 C gl p_q034_k1 (aget e 1) (aget e 5) (aget e 8) (aget e 9) (aget e 10) h x K:=E_q034_k2
theorem l_q034_k2 {C gl e h x K} : NW C gl (.loop (.scope p_q034_k2)) ⟨e,h,x⟩ K = NLoop C gl (.scope p_q034_k2) K [(1,aget e 1),(5,aget e 5),(8,aget e 8),(9,aget e 9),(10,aget e 10)] h x:=NLoop_sc
def p_q034_k3 : ACode:=.pr [5] (.seq (rg [mV 28 5,
mV 4 28] [4])
.ret)
def d_q034_k3 (C : Hd) (gl : GL) (v5 : AV) (h : Heap) (x : Esc) (K : KT) : Prop:=
 K .ret ⟨[(4,v5)],h,x⟩
theorem e_q034_k3 {C gl e h x K} : NW C gl p_q034_k3 ⟨e,h,x⟩ K = d_q034_k3 C gl (aget e 5) h x K:=by kernel_rfl
def P_q034 (q2 q3 : ACode) : ACode:=(.seq (rg [mV 4 (.c (.p (.sl none [])))] [0,1])
(.seq (rg [uO 5 (.new0 none)] [0,1,5])
(.seq (.seq (rg [mV 8 0,
lN 9 8,
mV 10 (cI 0)] [1,5,8,9,10])
(.block 0 (.loop (.scope q2))))
q3)))
def a_q034 : AFun:=⟨2,[.t 4],P_q034 p_q034_k2 p_q034_k3,false,true⟩
def d_q034 (C : Hd) (gl : GL) (q2 q3 : ACode) (v0 v1 : AV) (h : Heap) (x : Esc) (K : KT) : Prop:=
 nwK none h fun t1 h2 y3=>
 pK (oLen v0) fun t4=>
 NW C gl (.loop (.scope q2)) ⟨[(1,v1),(5,t1),(8,v0),(9,t4),(10,(AI 0))],h2,(y3 ++ x)⟩ (blockN 0 (seqN C gl q3 K))
theorem E_q034 {C gl q2 q3 v0 v1 h x K} : NW C gl (P_q034 q2 q3) ⟨enter [v0,v1],h,x⟩ K = d_q034 C gl q2 q3 v0 v1 h x K:=by kernel_rfl
theorem e_q034 {C gl v0 v1 h x K} : NW C gl a_q034.body ⟨enter [v0,v1],h,x⟩ K = d_q034 C gl p_q034_k2 p_q034_k3 v0 v1 h x K:=E_q034
def P_q008 : ACode:=(.seq (rg [mV 6 cF] [0,1,2])
(.seq (rg [mV 7 0,
mV 8 1,
bN 9 .lss 7 8,
mV 10 9,
gD 11 10 false (.mv 0),
gD 12 10 false (.mv 2),
gD 13 10 false (.bin .gtr 11 12),
uO 14 (.pick 10 cT 13),
mV 6 14] [6])
.ret))
def a_q008 : AFun:=⟨3,[.t 6],P_q008,false,false⟩
def d_q008 (C : Hd) (gl : GL) (v0 v1 v2 : AV) (h : Heap) (x : Esc) (K : KT) : Prop:=
 pK (oBin .lss v0 v1) fun t1=>
 gM t1 false v0 h fun t2 h3 y4=>
 gM t1 false v2 h3 fun t5 h6 y7=>
 gP t1 false (oBin .gtr t2 t5) h6 fun t8 h9 y10=>
 pK (oPick t1 (AB true) t8) fun t11=>
 K .ret ⟨[(6,t11)],h9,(y10 ++ (y7 ++ (y4 ++ x)))⟩
theorem e_q008 {C gl v0 v1 v2 h x K} : NW C gl a_q008.body ⟨enter [v0,v1,v2],h,x⟩ K = d_q008 C gl v0 v1 v2 h x K:=by kernel_rfl
def P_q02e : ACode:=(.seq (rg [mV 4 cF] [0,1,2])
(.seq (rg [lD 5 none 1,
lD 6 none 2,
iA 7 (some 4) 5 6,
lD 8 (some 4) 7,
mV 9 0,
cL 10 f_q02t [8,9],
uO 11 (.un .not 10),
mV 4 11] [4])
.ret))
def a_q02e : AFun:=⟨3,[.t 4],P_q02e,false,false⟩
def d_q02e (C : Hd) (gl : GL) (v0 v1 v2 : AV) (h : Heap) (x : Esc) (K : KT) : Prop:=
 pK (oLoad none v1 h) fun t1=>
 pK (oLoad none v2 h) fun t2=>
 pK (oIaddr (some 4) t1 t2 h) fun t3=>
 pK (oLoad (some 4) t3 h) fun t4=>
 C f_q02t [t4,v0] h fun t5 h6 y7=>
 pK (oUn .not t5) fun t8=>
 K .ret ⟨[(4,t8)],h6,(y7 ++ x)⟩
theorem e_q02e {C gl v0 v1 v2 h x K} : NW C gl a_q02e.body ⟨enter [v0,v1,v2],h,x⟩ K = d_q02e C gl v0 v1 v2 h x K:=by kernel_rfl
def P_q02t : ACode:=(.seq (rg [uO 2 (.box 0),
mV 4 cF] [1,2])
(.seq (rg [mV 5 1,
fA 6 1 none 2,
lD 7 none 6,
fA 8 2 none 2,
lD 9 none 8,
cL 10 f_q008 [5,7,9],
uO 11 (.un .not 10),
mV 4 11] [4])
.ret))
def a_q02t : AFun:=⟨2,[.t 4],P_q02t,false,false⟩
def d_q02t (C : Hd) (gl : GL) (v0 v1 : AV) (h : Heap) (x : Esc) (K : KT) : Prop:=
 wK (oBox v0 h) fun t1 h2 y3=>
 pK (oFaddr 1 none t1) fun t4=>
 pK (oLoad none t4 h2) fun t5=>
 pK (oFaddr 2 none t1) fun t6=>
 pK (oLoad none t6 h2) fun t7=>
 C f_q008 [v1,t5,t7] h2 fun t8 h9 y10=>
 pK (oUn .not t8) fun t11=>
 K .ret ⟨[(4,t11)],h9,(y10 ++ (y3 ++ x))⟩
theorem e_q02t {C gl v0 v1 h x K} : NW C gl a_q02t.body ⟨enter [v0,v1],h,x⟩ K = d_q02t C gl v0 v1 h x K:=by kernel_rfl
def P_q05u : ACode:=(.seq (rg [mV 3 0,
lN 4 3,
mV 2 4] [0,2])
(rg [mV 5 0,
mV 6 2,
mV 7 2,
uO 8 (.conv (.i .u64) 7),
cL 9 f_q039 [8],
cL 10 f_q06t [5,(cI 0),6,9]] []))
def a_q05u : AFun:=⟨1,[],P_q05u,true,false⟩
def d_q05u (C : Hd) (gl : GL) (v0 : AV) (h : Heap) (x : Esc) (K : KT) : Prop:=
 pK (oLen v0) fun t1=>
 pK (oConvI .u64 t1) fun t2=>
 C f_q039 [t2] h fun t3 h4 y5=>
 C f_q06t [v0,(AI 0),t1,t3] h4 fun t6 h7 y8=>
 K .normal ⟨[],h7,(y8 ++ (y5 ++ x))⟩
theorem e_q05u {C gl v0 h x K} : NW C gl a_q05u.body ⟨enter [v0],h,x⟩ K = d_q05u C gl v0 h x K:=by kernel_rfl
def p_q05l_k1 : ACode:=.pr [0,1,7,8] (.seq (rg [bN 9 .lss 8 7] [0,1,7,8,9])
(.seq (.cond 9 .skip
(.exit 0))
(.seq (.block 1 (.seq (rg [mV 10 8,
mV 5 10] [0,1,5,7,8])
(.seq (rg [mV 11 1,
mV 12 0,
mV 13 5,
iA 14 none 12 13,
lD 15 none 14,
uO 16 (.callv 11 [15])] [0,1,5,7,8,16])
(.cond 16 (.seq (rg [mV 17 5,
mV 4 17] [4])
.ret)
.skip))))
(rg [bN 18 .add 8 (cI 1),
mV 8 18] [0,1,7,8]))))
def d_q05l_k1 (C : Hd) (gl : GL) (v0 v1 v7 v8 : AV) (h : Heap) (x : Esc) (K : KT) : Prop:=
 pK (oBin .lss v8 v7) fun t1=>
 condB t1 (pK (oIaddr none v0 v8 h) fun t2=>
 pK (oLoad none t2 h) fun t3=>
 callvK C v1 [t3] h fun t4 h5 y6=>
 condB t4 (K .ret ⟨[(4,v8)],h5,(y6 ++ x)⟩)
 (pK (oBin .add v8 (AI 1)) fun t7=>
 K .normal ⟨[(0,v0),(1,v1),(7,v7),(8,t7)],h5,(y6 ++ x)⟩))
 (K (.exit 0) ⟨[(0,v0),(1,v1),(7,v7),(8,v8),(9,t1)],h,x⟩)
theorem e_q05l_k1 {C gl e h x K} : NW C gl p_q05l_k1 ⟨e,h,x⟩ K = d_q05l_k1 C gl (aget e 0) (aget e 1) (aget e 7) (aget e 8) h x K:=by kernel_rfl
theorem l_q05l_k1 {C gl e h x K} : NW C gl (.loop p_q05l_k1) ⟨e,h,x⟩ K = NLoop C gl p_q05l_k1 K [(0,aget e 0),(1,aget e 1),(7,aget e 7),(8,aget e 8)] h x:=NLoop_pr
def p_q05l_k2 : ACode:=.pr [] (.seq (rg [mV 4 (cI (-1))] [4])
.ret)
def d_q05l_k2 (C : Hd) (gl : GL) (h : Heap) (x : Esc) (K : KT) : Prop:=
 K .ret ⟨[(4,(AI (-1)))],h,x⟩
theorem e_q05l_k2 {C gl e h x K} : NW C gl p_q05l_k2 ⟨e,h,x⟩ K = d_q05l_k2 C gl h x K:=by kernel_rfl
def P_q05l (q1 q2 : ACode) : ACode:=(.seq (rg [mV 4 (cI 0)] [0,1])
(.seq (.seq (rg [mV 6 0,
lN 7 6,
mV 8 (cI 0)] [0,1,7,8])
(.block 0 (.loop q1)))
q2))
def a_q05l : AFun:=⟨2,[.t 4],P_q05l p_q05l_k1 p_q05l_k2,true,false⟩
def d_q05l (C : Hd) (gl : GL) (q1 q2 : ACode) (v0 v1 : AV) (h : Heap) (x : Esc) (K : KT) : Prop:=
 pK (oLen v0) fun t1=>
 NW C gl (.loop q1) ⟨[(0,v0),(1,v1),(7,t1),(8,(AI 0))],h,x⟩ (blockN 0 (seqN C gl q2 K))
theorem E_q05l {C gl q1 q2 v0 v1 h x K} : NW C gl (P_q05l q1 q2) ⟨enter [v0,v1],h,x⟩ K = d_q05l C gl q1 q2 v0 v1 h x K:=by kernel_rfl
theorem e_q05l {C gl v0 v1 h x K} : NW C gl a_q05l.body ⟨enter [v0,v1],h,x⟩ K = d_q05l C gl p_q05l_k1 p_q05l_k2 v0 v1 h x K:=E_q05l
def P_q057 : ACode:=(.seq (rg [mV 4 cF] [0,1])
(.seq (rg [mV 5 0,
mV 6 1,
cL 7 f_q05l [5,6],
bN 8 .geq 7 (cI 0),
mV 4 8] [4])
.ret))
def a_q057 : AFun:=⟨2,[.t 4],P_q057,true,false⟩
def d_q057 (C : Hd) (gl : GL) (v0 v1 : AV) (h : Heap) (x : Esc) (K : KT) : Prop:=
 C f_q05l [v0,v1] h fun t1 h2 y3=>
 pK (oBin .geq t1 (AI 0)) fun t4=>
 K .ret ⟨[(4,t4)],h2,(y3 ++ x)⟩
theorem e_q057 {C gl v0 v1 h x K} : NW C gl a_q057.body ⟨enter [v0,v1],h,x⟩ K = d_q057 C gl v0 v1 h x K:=by kernel_rfl
def P_q02v : ACode:=(.seq (rg [mV 2 cF] [0])
(.seq (rg [mV 3 0,
cL 4 f_q008 [3,(cI (-100000)),(cI 100000)],
uO 5 (.un .not 4),
mV 2 5] [2])
.ret))
def a_q02v : AFun:=⟨1,[.t 2],P_q02v,false,false⟩
def d_q02v (C : Hd) (gl : GL) (v0 : AV) (h : Heap) (x : Esc) (K : KT) : Prop:=
 C f_q008 [v0,(AI (-100000)),(AI 100000)] h fun t1 h2 y3=>
 pK (oUn .not t1) fun t4=>
 K .ret ⟨[(2,t4)],h2,(y3 ++ x)⟩
theorem e_q02v {C gl v0 h x K} : NW C gl a_q02v.body ⟨enter [v0],h,x⟩ K = d_q02v C gl v0 h x K:=by kernel_rfl
def p_q006_k1 : ACode:=.pr [0,23,24] (.seq (rg [bN 25 .lss 24 23] [0,23,24,25])
(.seq (.cond 25 .skip
(.exit 0))
(.seq (.block 1 (.seq (rg [mV 26 24,
mV 3 26] [0,3,23,24])
(.seq (rg [mV 27 0,
mV 28 3,
uO 29 (.idxs 27 28),
mV 4 29] [0,4,23,24])
(.seq (rg [mV 30 4,
bN 31 .geq 30 (.c (.p (.int .u8 97))),
mV 32 31,
gD 33 32 true (.mv 4),
gD 34 32 true (.bin .leq 33 (.c (.p (.int .u8 122)))),
uO 35 (.pick 32 34 cF),
mV 36 35,
gD 37 36 false (.mv 4),
gD 38 36 false (.bin .geq 37 (.c (.p (.int .u8 48)))),
gD 39 36 false (.mv 38),
gD 40 39 true (.mv 4),
gD 41 39 true (.bin .leq 40 (.c (.p (.int .u8 57)))),
gD 42 36 false (.pick 39 41 cF),
uO 43 (.pick 36 cT 42),
mV 44 43,
gD 45 44 false (.mv 4),
gD 46 44 false (.bin .eql 45 (.c (.p (.int .u8 45)))),
uO 47 (.pick 44 cT 46),
mV 48 47,
gD 49 48 false (.mv 4),
gD 50 48 false (.bin .eql 49 (.c (.p (.int .u8 95)))),
uO 51 (.pick 48 cT 50),
uO 52 (.un .not 51)] [0,23,24,52])
(.cond 52 (.seq (rg [mV 2 cF] [2])
.ret)
.skip)))))
(rg [bN 53 .add 24 (cI 1),
mV 24 53] [0,23,24]))))
def d_q006_k1 (C : Hd) (gl : GL) (v0 v23 v24 : AV) (h : Heap) (x : Esc) (K : KT) : Prop:=
 pK (oBin .lss v24 v23) fun t1=>
 condB t1 (pK (oIdxs v0 v24) fun t2=>
 pK (oBin .geq t2 (.p (.int .u8 97))) fun t3=>
 gM t3 true t2 h fun t4 h5 y6=>
 gP t3 true (oBin .leq t4 (.p (.int .u8 122))) h5 fun t7 h8 y9=>
 pK (oPick t3 t7 (AB false)) fun t10=>
 gM t10 false t2 h8 fun t11 h12 y13=>
 gP t10 false (oBin .geq t11 (.p (.int .u8 48))) h12 fun t14 h15 y16=>
 gM t10 false t14 h15 fun t17 h18 y19=>
 gM t17 true t2 h18 fun t20 h21 y22=>
 gP t17 true (oBin .leq t20 (.p (.int .u8 57))) h21 fun t23 h24 y25=>
 gP t10 false (oPick t17 t23 (AB false)) h24 fun t26 h27 y28=>
 pK (oPick t10 (AB true) t26) fun t29=>
 gM t29 false t2 h27 fun t30 h31 y32=>
 gP t29 false (oBin .eql t30 (.p (.int .u8 45))) h31 fun t33 h34 y35=>
 pK (oPick t29 (AB true) t33) fun t36=>
 gM t36 false t2 h34 fun t37 h38 y39=>
 gP t36 false (oBin .eql t37 (.p (.int .u8 95))) h38 fun t40 h41 y42=>
 pK (oPick t36 (AB true) t40) fun t43=>
 pK (oUn .not t43) fun t44=>
 condB t44 (K .ret ⟨[(2,(AB false))],h41,(y42 ++ (y39 ++ (y35 ++ (y32 ++ (y28 ++ (y25 ++ (y22 ++ (y19 ++ (y16 ++ (y13 ++ (y9 ++ (y6 ++ x))))))))))))⟩)
 (pK (oBin .add v24 (AI 1)) fun t45=>
 K .normal ⟨[(0,v0),(23,v23),(24,t45)],h41,(y42 ++ (y39 ++ (y35 ++ (y32 ++ (y28 ++ (y25 ++ (y22 ++ (y19 ++ (y16 ++ (y13 ++ (y9 ++ (y6 ++ x))))))))))))⟩))
 (K (.exit 0) ⟨[(0,v0),(23,v23),(24,v24),(25,t1)],h,x⟩)
theorem e_q006_k1 {C gl e h x K} : NW C gl p_q006_k1 ⟨e,h,x⟩ K = d_q006_k1 C gl (aget e 0) (aget e 23) (aget e 24) h x K:=by kernel_rfl
theorem l_q006_k1 {C gl e h x K} : NW C gl (.loop p_q006_k1) ⟨e,h,x⟩ K = NLoop C gl p_q006_k1 K [(0,aget e 0),(23,aget e 23),(24,aget e 24)] h x:=NLoop_pr
def p_q006_k2 : ACode:=.pr [] (.seq (rg [mV 2 cT] [2])
.ret)
def d_q006_k2 (C : Hd) (gl : GL) (h : Heap) (x : Esc) (K : KT) : Prop:=
 K .ret ⟨[(2,(AB true))],h,x⟩
theorem e_q006_k2 {C gl e h x K} : NW C gl p_q006_k2 ⟨e,h,x⟩ K = d_q006_k2 C gl h x K:=by kernel_rfl
def P_q006 (q1 q2 : ACode) : ACode:=(.seq (rg [mV 2 cF] [0])
(.seq (.seq (rg [mV 5 0,
bN 6 .eql 5 (cS []),
mV 7 6,
gD 8 7 false (.mv 0),
gD 9 7 false (.lens 8),
gD 10 7 false (.bin .gtr 9 (cI 40)),
uO 11 (.pick 7 cT 10),
mV 12 11,
gD 13 12 false (.mv 0),
gD 14 12 false (.idxs 13 (cI 0)),
gD 15 12 false (.bin .lss 14 (.c (.p (.int .u8 97)))),
uO 16 (.pick 12 cT 15),
mV 17 16,
gD 18 17 false (.mv 0),
gD 19 17 false (.idxs 18 (cI 0)),
gD 20 17 false (.bin .gtr 19 (.c (.p (.int .u8 122)))),
uO 21 (.pick 17 cT 20)] [0,21])
(.cond 21 (.seq (rg [mV 2 cF] [2])
.ret)
.skip))
(.seq (.seq (rg [mV 22 0,
uO 23 (.lens 22),
mV 24 (cI 0)] [0,23,24])
(.block 0 (.loop q1)))
q2)))
def a_q006 : AFun:=⟨1,[.t 2],P_q006 p_q006_k1 p_q006_k2,false,false⟩
def d_q006 (C : Hd) (gl : GL) (q1 q2 : ACode) (v0 : AV) (h : Heap) (x : Esc) (K : KT) : Prop:=
 pK (oBin .eql v0 (.p (.str []))) fun t1=>
 gM t1 false v0 h fun t2 h3 y4=>
 gP t1 false (oLens t2) h3 fun t5 h6 y7=>
 gP t1 false (oBin .gtr t5 (AI 40)) h6 fun t8 h9 y10=>
 pK (oPick t1 (AB true) t8) fun t11=>
 gM t11 false v0 h9 fun t12 h13 y14=>
 gP t11 false (oIdxs t12 (AI 0)) h13 fun t15 h16 y17=>
 gP t11 false (oBin .lss t15 (.p (.int .u8 97))) h16 fun t18 h19 y20=>
 pK (oPick t11 (AB true) t18) fun t21=>
 gM t21 false v0 h19 fun t22 h23 y24=>
 gP t21 false (oIdxs t22 (AI 0)) h23 fun t25 h26 y27=>
 gP t21 false (oBin .gtr t25 (.p (.int .u8 122))) h26 fun t28 h29 y30=>
 pK (oPick t21 (AB true) t28) fun t31=>
 condB t31 (K .ret ⟨[(2,(AB false))],h29,(y30 ++ (y27 ++ (y24 ++ (y20 ++ (y17 ++ (y14 ++ (y10 ++ (y7 ++ (y4 ++ x)))))))))⟩)
 (pK (oLens v0) fun t32=>
 NW C gl (.loop q1) ⟨[(0,v0),(23,t32),(24,(AI 0))],h29,(y30 ++ (y27 ++ (y24 ++ (y20 ++ (y17 ++ (y14 ++ (y10 ++ (y7 ++ (y4 ++ x)))))))))⟩ (blockN 0 (seqN C gl q2 K)))
theorem E_q006 {C gl q1 q2 v0 h x K} : NW C gl (P_q006 q1 q2) ⟨enter [v0],h,x⟩ K = d_q006 C gl q1 q2 v0 h x K:=by kernel_rfl
theorem e_q006 {C gl v0 h x K} : NW C gl a_q006.body ⟨enter [v0],h,x⟩ K = d_q006 C gl p_q006_k1 p_q006_k2 v0 h x K:=E_q006
def P_q042 : ACode:=(.seq (rg [mV 4 (cI 0)] [0,1])
(.seq (rg [mV 5 1,
mV 6 0,
mV 7 1,
lN 8 7,
cL 9 f_q040 [6,8],
iA 10 none 5 9,
lD 11 none 10,
mV 4 11] [4])
.ret))
def a_q042 : AFun:=⟨2,[.t 4],P_q042,false,false⟩
def d_q042 (C : Hd) (gl : GL) (v0 v1 : AV) (h : Heap) (x : Esc) (K : KT) : Prop:=
 pK (oLen v1) fun t1=>
 C f_q040 [v0,t1] h fun t2 h3 y4=>
 pK (oIaddr none v1 t2 h3) fun t5=>
 pK (oLoad none t5 h3) fun t6=>
 K .ret ⟨[(4,t6)],h3,(y4 ++ x)⟩
theorem e_q042 {C gl v0 v1 h x K} : NW C gl a_q042.body ⟨enter [v0,v1],h,x⟩ K = d_q042 C gl v0 v1 h x K:=by kernel_rfl
def P_q03y : ACode:=(.seq (rg [mV 4 cF] [0,1])
(.seq (rg [mV 5 0,
mV 6 1,
cL 7 f_q040 [5,6],
bN 8 .eql 7 (cI 0),
mV 4 8] [4])
.ret))
def a_q03y : AFun:=⟨2,[.t 4],P_q03y,false,false⟩
def d_q03y (C : Hd) (gl : GL) (v0 v1 : AV) (h : Heap) (x : Esc) (K : KT) : Prop:=
 C f_q040 [v0,v1] h fun t1 h2 y3=>
 pK (oBin .eql t1 (AI 0)) fun t4=>
 K .ret ⟨[(4,t4)],h2,(y3 ++ x)⟩
theorem e_q03y {C gl v0 v1 h x K} : NW C gl a_q03y.body ⟨enter [v0,v1],h,x⟩ K = d_q03y C gl v0 v1 h x K:=by kernel_rfl
def P_q049 : ACode:=(.seq (rg [mV 4 (cS [])] [0,1])
(.seq (rg [mV 5 1,
mV 6 0,
mV 7 1,
lN 8 7,
cL 9 f_q040 [6,8],
iA 10 none 5 9,
lD 11 none 10,
mV 4 11] [4])
.ret))
def a_q049 : AFun:=⟨2,[.t 4],P_q049,false,false⟩
def d_q049 (C : Hd) (gl : GL) (v0 v1 : AV) (h : Heap) (x : Esc) (K : KT) : Prop:=
 pK (oLen v1) fun t1=>
 C f_q040 [v0,t1] h fun t2 h3 y4=>
 pK (oIaddr none v1 t2 h3) fun t5=>
 pK (oLoad none t5 h3) fun t6=>
 K .ret ⟨[(4,t6)],h3,(y4 ++ x)⟩
theorem e_q049 {C gl v0 v1 h x K} : NW C gl a_q049.body ⟨enter [v0,v1],h,x⟩ K = d_q049 C gl v0 v1 h x K:=by kernel_rfl
def P_q041 : ACode:=(.seq (rg [mV 6 (cI 0)] [0,1,2])
(.seq (.seq (rg [mV 7 0,
cL 8 f_q03y [7,(cI 12)]] [0,1,2,8])
(.cond 8 (.seq (rg [mV 9 0,
mV 10 1,
bN 11 .sub 10 (cI 1),
mV 12 2,
bN 13 .add 12 (cI 1),
mV 14 1,
mV 15 2,
uO 16 (.bsl false none 6 (.int .i64 0) [(0,11),(1,13),(2,14),(3,15),(4,(cI (-1099511627776))),(5,(cI 1099511627776))]),
cL 17 f_q042 [9,16],
mV 6 17] [6])
.ret)
.skip))
(.seq (rg [mV 18 0,
mV 19 1,
mV 20 2,
cL 21 f_q043 [18,19,20],
mV 6 21] [6])
.ret)))
def a_q041 : AFun:=⟨3,[.t 6],P_q041,false,false⟩
def d_q041 (C : Hd) (gl : GL) (v0 v1 v2 : AV) (h : Heap) (x : Esc) (K : KT) : Prop:=
 C f_q03y [v0,(AI 12)] h fun t1 h2 y3=>
 condB t1 (pK (oBin .sub v1 (AI 1)) fun t4=>
 pK (oBin .add v2 (AI 1)) fun t5=>
 wK (oBsl false none 6 (.int .i64 0) [(0,t4),(1,t5),(2,v1),(3,v2),(4,(AI (-1099511627776))),(5,(AI 1099511627776))] h2) fun t6 h7 y8=>
 C f_q042 [v0,t6] h7 fun t9 h10 y11=>
 K .ret ⟨[(6,t9)],h10,(y11 ++ (y8 ++ (y3 ++ x)))⟩)
 (C f_q043 [v0,v1,v2] h2 fun t12 h13 y14=>
 K .ret ⟨[(6,t12)],h13,(y14 ++ (y3 ++ x))⟩)
theorem e_q041 {C gl v0 v1 v2 h x K} : NW C gl a_q041.body ⟨enter [v0,v1,v2],h,x⟩ K = d_q041 C gl v0 v1 v2 h x K:=by kernel_rfl
def P_q04c : ACode:=(.seq (rg [mV 2 cF] [0])
(.seq (rg [mV 3 0,
uO 4 (.lens 3),
cL 5 f_q04s [4,(cI 1),(cI 40)],
mV 6 5,
gD 7 6 true (.mv 0),
gD 8 6 true (.slstr 7 none (some (cI 1))),
gD 9 6 true (.call f_q04t [8,(cS [97,98,99,100,101,102,103,104,105,106,107,108,109,110,111,112,113,114,115,116,117,118,119,120,121,122])]),
uO 10 (.pick 6 9 cF),
mV 11 10,
gD 12 11 true (.mv 0),
gD 13 11 true (.call f_q04t [12,(cS [97,98,99,100,101,102,103,104,105,106,107,108,109,110,111,112,113,114,115,116,117,118,119,120,121,122,48,49,50,51,52,53,54,55,56,57,45,95])]),
uO 14 (.pick 11 13 cF),
mV 2 14] [2])
.ret))
def a_q04c : AFun:=⟨1,[.t 2],P_q04c,false,false⟩
def d_q04c (C : Hd) (gl : GL) (v0 : AV) (h : Heap) (x : Esc) (K : KT) : Prop:=
 pK (oLens v0) fun t1=>
 C f_q04s [t1,(AI 1),(AI 40)] h fun t2 h3 y4=>
 gM t2 true v0 h3 fun t5 h6 y7=>
 gP t2 true (oSlstr t5 none (some (AI 1))) h6 fun t8 h9 y10=>
 gV t2 true h9 (C f_q04t [t8,(.p (.str [97,98,99,100,101,102,103,104,105,106,107,108,109,110,111,112,113,114,115,116,117,118,119,120,121,122]))] h9) fun t11 h12 y13=>
 pK (oPick t2 t11 (AB false)) fun t14=>
 gM t14 true v0 h12 fun t15 h16 y17=>
 gV t14 true h16 (C f_q04t [t15,(.p (.str [97,98,99,100,101,102,103,104,105,106,107,108,109,110,111,112,113,114,115,116,117,118,119,120,121,122,48,49,50,51,52,53,54,55,56,57,45,95]))] h16) fun t18 h19 y20=>
 pK (oPick t14 t18 (AB false)) fun t21=>
 K .ret ⟨[(2,t21)],h19,(y20 ++ (y17 ++ (y13 ++ (y10 ++ (y7 ++ (y4 ++ x))))))⟩
theorem e_q04c {C gl v0 h x K} : NW C gl a_q04c.body ⟨enter [v0],h,x⟩ K = d_q04c C gl v0 h x K:=by kernel_rfl
def P_q04j : ACode:=(.seq (rg [uO 3 (.box 1),
mV 4 (cI 0)] [0,3])
(.seq (rg [mV 5 0,
uO 6 (.mkfn f_q04k [3]),
cL 7 f_q05j [5,6],
mV 4 7] [4])
.ret))
def a_q04j : AFun:=⟨2,[.t 4],P_q04j,false,false⟩
def d_q04j (C : Hd) (gl : GL) (v0 v1 : AV) (h : Heap) (x : Esc) (K : KT) : Prop:=
 wK (oBox v1 h) fun t1 h2 y3=>
 C f_q05j [v0,(.fn f_q04k [t1])] h2 fun t4 h5 y6=>
 K .ret ⟨[(4,t4)],h5,(y6 ++ (y3 ++ x))⟩
theorem e_q04j {C gl v0 v1 h x K} : NW C gl a_q04j.body ⟨enter [v0,v1],h,x⟩ K = d_q04j C gl v0 v1 h x K:=by kernel_rfl
def P_q04s : ACode:=(.seq (rg [mV 6 cF] [0,1,2])
(.seq (rg [mV 7 1,
mV 8 0,
bN 9 .leq 7 8,
mV 10 9,
gD 11 10 true (.mv 0),
gD 12 10 true (.mv 2),
gD 13 10 true (.bin .leq 11 12),
uO 14 (.pick 10 13 cF),
mV 6 14] [6])
.ret))
def a_q04s : AFun:=⟨3,[.t 6],P_q04s,false,false⟩
def d_q04s (C : Hd) (gl : GL) (v0 v1 v2 : AV) (h : Heap) (x : Esc) (K : KT) : Prop:=
 pK (oBin .leq v1 v0) fun t1=>
 gM t1 true v0 h fun t2 h3 y4=>
 gM t1 true v2 h3 fun t5 h6 y7=>
 gP t1 true (oBin .leq t2 t5) h6 fun t8 h9 y10=>
 pK (oPick t1 t8 (AB false)) fun t11=>
 K .ret ⟨[(6,t11)],h9,(y10 ++ (y7 ++ (y4 ++ x)))⟩
theorem e_q04s {C gl v0 v1 v2 h x K} : NW C gl a_q04s.body ⟨enter [v0,v1,v2],h,x⟩ K = d_q04s C gl v0 v1 v2 h x K:=by kernel_rfl
def P_q045 : ACode:=(.seq (rg [uO 2 (.box 0),
uO 3 (.box 1),
mV 4 (cI 0)] [2,3])
(.seq (dr [dF (fA 5 1 none 2) [2],
dF (lD 6 none 5) [5],
dF (fA 7 1 none 3) [3],
dF (lD 8 none 7) [7],
dT (cL 9 f_q00s [6,8]) [6,8],
dF (fA 10 0 none 2) [2],
dA (lD 11 none 10) [10] false [4] [],
dF (fA 12 0 none 3) [3],
dA (lD 13 none 12) [12] false [4] [],
dT (cL 14 f_q07z [11,13]) [11,13],
dF (uO 15 (.bsl false none 2 (.int .i64 0) [(0,9),(1,14)])) [9,14],
dT (cL 16 f_q00v [15]) [15],
dF (mV 4 16) [16]] [4])
.ret))
def a_q045 : AFun:=⟨2,[.t 4],P_q045,false,false⟩
def d_q045 (C : Hd) (gl : GL) (v0 v1 : AV) (h : Heap) (x : Esc) (K : KT) : Prop:=
 wK (oBox v0 h) fun t1 h2 y3=>
 wK (oBox v1 h2) fun t4 h5 y6=>
 pK (oFaddr 1 none t1) fun t7=>
 pK (oLoad none t7 h5) fun t8=>
 pK (oFaddr 1 none t4) fun t9=>
 pK (oLoad none t9 h5) fun t10=>
 callE C f_q00s [t8,t10] h5 fun t11 h12 y13=>
 pK (oFaddr 0 none t1) fun t14=>
 pK (oLoad none t14 h12) fun t15=>
 (pK (oLoad none t14 h5) fun v=>(fun u (g1 : Heap) (y1 : Esc)=>u = t15 ∧ g1 = h5 ∧ y1 = []) v h5 []) ∧ (pK (oFaddr 0 none t4) fun t16=>
 pK (oLoad none t16 h12) fun t17=>
 (pK (oLoad none t16 h5) fun v=>(fun u (g1 : Heap) (y1 : Esc)=>u = t17 ∧ g1 = h5 ∧ y1 = []) v h5 []) ∧ (callE C f_q07z [t15,t17] h12 fun t18 h19 y20=>
 wK (oBsl false none 2 (.int .i64 0) [(0,t11),(1,t18)] h19) fun t21 h22 y23=>
 (h22 = h19 ∧ y23 = []) ∧ (callE C f_q00v [t21] h22 fun t24 h25 y26=>
 K .ret ⟨[(4,t24)],h25,(y26 ++ (y23 ++ (y20 ++ (y13 ++ (y6 ++ (y3 ++ x))))))⟩)))
theorem e_q045 {C gl v0 v1 h x K} : NW C gl a_q045.body ⟨enter [v0,v1],h,x⟩ K = d_q045 C gl v0 v1 h x K:=by kernel_rfl
def p_q00v_k1 : ACode:=.pr [3,6,7,8] (.seq (rg [bN 9 .lss 8 7] [3,6,7,8,9])
(.seq (.cond 9 .skip
(.exit 0))
(.seq (.block 1 (.seq (rg [iA 10 none 6 8,
lD 11 none 10,
mV 5 11] [3,5,6,7,8])
(.seq (rg [mV 12 5,
mV 13 3,
bN 14 .neq 12 13] [3,5,6,7,8,14])
(.cond 14 (.seq (rg [mV 15 5,
mV 2 15] [2])
.ret)
.skip))))
(rg [bN 16 .add 8 (cI 1),
mV 8 16] [3,6,7,8]))))
def d_q00v_k1 (C : Hd) (gl : GL) (v3 v6 v7 v8 : AV) (h : Heap) (x : Esc) (K : KT) : Prop:=
 pK (oBin .lss v8 v7) fun t1=>
 condB t1 (pK (oIaddr none v6 v8 h) fun t2=>
 pK (oLoad none t2 h) fun t3=>
 pK (oBin .neq t3 v3) fun t4=>
 condB t4 (K .ret ⟨[(2,t3)],h,x⟩)
 (pK (oBin .add v8 (AI 1)) fun t5=>
 K .normal ⟨[(3,v3),(6,v6),(7,v7),(8,t5)],h,x⟩))
 (K (.exit 0) ⟨[(3,v3),(6,v6),(7,v7),(8,v8),(9,t1)],h,x⟩)
theorem e_q00v_k1 {C gl e h x K} : NW C gl p_q00v_k1 ⟨e,h,x⟩ K = d_q00v_k1 C gl (aget e 3) (aget e 6) (aget e 7) (aget e 8) h x K:=by kernel_rfl
theorem l_q00v_k1 {C gl e h x K} : NW C gl (.loop p_q00v_k1) ⟨e,h,x⟩ K = NLoop C gl p_q00v_k1 K [(3,aget e 3),(6,aget e 6),(7,aget e 7),(8,aget e 8)] h x:=NLoop_pr
def p_q00v_k2 : ACode:=.pr [3] (.seq (rg [mV 17 3,
mV 2 17] [2])
.ret)
def d_q00v_k2 (C : Hd) (gl : GL) (v3 : AV) (h : Heap) (x : Esc) (K : KT) : Prop:=
 K .ret ⟨[(2,v3)],h,x⟩
theorem e_q00v_k2 {C gl e h x K} : NW C gl p_q00v_k2 ⟨e,h,x⟩ K = d_q00v_k2 C gl (aget e 3) h x K:=by kernel_rfl
def P_q00v (q1 q2 : ACode) : ACode:=(.seq (rg [mV 2 (cI 0)] [0])
(.seq (rg [mV 3 (cI 0)] [0,3])
(.seq (.seq (rg [mV 6 0,
lN 7 6,
mV 8 (cI 0)] [3,6,7,8])
(.block 0 (.loop q1)))
q2)))
def a_q00v : AFun:=⟨1,[.t 2],P_q00v p_q00v_k1 p_q00v_k2,false,false⟩
def d_q00v (C : Hd) (gl : GL) (q1 q2 : ACode) (v0 : AV) (h : Heap) (x : Esc) (K : KT) : Prop:=
 pK (oLen v0) fun t1=>
 NW C gl (.loop q1) ⟨[(3,(AI 0)),(6,v0),(7,t1),(8,(AI 0))],h,x⟩ (blockN 0 (seqN C gl q2 K))
theorem E_q00v {C gl q1 q2 v0 h x K} : NW C gl (P_q00v q1 q2) ⟨enter [v0],h,x⟩ K = d_q00v C gl q1 q2 v0 h x K:=by kernel_rfl
theorem e_q00v {C gl v0 h x K} : NW C gl a_q00v.body ⟨enter [v0],h,x⟩ K = d_q00v C gl p_q00v_k1 p_q00v_k2 v0 h x K:=E_q00v
def P_q07z : ACode:=(.seq (rg [mV 4 (cI 0)] [0,1])
(.seq (rg [mV 5 0,
mV 6 1,
cL 7 f_q01d [5,6],
mV 4 7] [4])
.ret))
def a_q07z : AFun:=⟨2,[.t 4],P_q07z,false,false⟩
def d_q07z (C : Hd) (gl : GL) (v0 v1 : AV) (h : Heap) (x : Esc) (K : KT) : Prop:=
 C f_q01d [v0,v1] h fun t1 h2 y3=>
 K .ret ⟨[(4,t1)],h2,(y3 ++ x)⟩
theorem e_q07z {C gl v0 v1 h x K} : NW C gl a_q07z.body ⟨enter [v0,v1],h,x⟩ K = d_q07z C gl v0 v1 h x K:=by kernel_rfl
def P_q046 : ACode:=(.seq (rg [uO 2 (.box 0),
uO 3 (.box 1),
mV 4 cF] [2,3])
(.seq (rg [fA 5 1 none 2,
lD 6 none 5,
fA 7 1 none 3,
lD 8 none 7,
bN 9 .eql 6 8,
mV 10 9,
gD 11 10 true (.faddr 0 none 2),
gD 12 10 true (.load none 11),
gD 13 10 true (.faddr 0 none 3),
gD 14 10 true (.load none 13),
gD 15 10 true (.bin .eql 12 14),
uO 16 (.pick 10 15 cF),
mV 4 16] [4])
.ret))
def a_q046 : AFun:=⟨2,[.t 4],P_q046,false,false⟩
def d_q046 (C : Hd) (gl : GL) (v0 v1 : AV) (h : Heap) (x : Esc) (K : KT) : Prop:=
 wK (oBox v0 h) fun t1 h2 y3=>
 wK (oBox v1 h2) fun t4 h5 y6=>
 pK (oFaddr 1 none t1) fun t7=>
 pK (oLoad none t7 h5) fun t8=>
 pK (oFaddr 1 none t4) fun t9=>
 pK (oLoad none t9 h5) fun t10=>
 pK (oBin .eql t8 t10) fun t11=>
 gP t11 true (oFaddr 0 none t1) h5 fun t12 h13 y14=>
 gP t11 true (oLoad none t12 h13) h13 fun t15 h16 y17=>
 gP t11 true (oFaddr 0 none t4) h16 fun t18 h19 y20=>
 gP t11 true (oLoad none t18 h19) h19 fun t21 h22 y23=>
 gP t11 true (oBin .eql t15 t21) h22 fun t24 h25 y26=>
 pK (oPick t11 t24 (AB false)) fun t27=>
 K .ret ⟨[(4,t27)],h25,(y26 ++ (y23 ++ (y20 ++ (y17 ++ (y14 ++ (y6 ++ (y3 ++ x)))))))⟩
theorem e_q046 {C gl v0 v1 h x K} : NW C gl a_q046.body ⟨enter [v0,v1],h,x⟩ K = d_q046 C gl v0 v1 h x K:=by kernel_rfl
end Go.Am
end
section
/- The functions asv abstract code,and asv formulas over their values: printed by program out of the translation. -/
set_option linter.unusedVariables false
set_option maxRecDepth 100000
namespace Go.Am
def P_q04v : ACode:=(.seq (rg [uO 3 (.box 1),
mV 4 (cI 0)] [0,3])
(.seq (.block 0 (.seq (rg [fA 8 0 none 3,
lD 9 none 8,
cL 10 f_q04c [9],
uO 11 (.un .not 10),
mV 12 11,
gD 13 12 false (.faddr 2 none 3),
gD 14 12 false (.load none 13),
gD 15 12 false (.call f_q04c [14]),
gD 16 12 false (.un .not 15),
uO 17 (.pick 12 cT 16),
mV 7 17] [0,3,7])
(.cond 7 (.seq (rg [mV 4 (cI 5)] [4])
.ret)
(.seq (rg [fA 19 1 none 3,
lD 20 none 19,
cL 21 f_q04f [20],
uO 22 (.un .not 21),
mV 18 22] [0,3,18])
(.cond 18 (.seq (rg [mV 4 (cI 1)] [4])
.ret)
(.seq (rg [fA 24 3 none 3,
lD 25 none 24,
cL 26 f_q057 [25,(.f f_q04w)],
mV 23 26] [0,3,23])
(.cond 23 (.seq (rg [mV 4 (cI 1)] [4])
.ret)
.skip)))))))
(.seq (rg [fA 27 3 none 3,
lD 28 none 27,
lN 29 28,
mV 5 29] [0,3,5])
(.seq (.seq (rg [mV 30 0,
fA 31 3 none 3,
lD 32 none 31,
cL 33 f_q04r [30,32],
mV 6 33] [0,5,6])
(.seq (rg [mV 34 5,
mV 35 0,
lN 36 35,
cL 37 f_q04s [34,(cI 1),36],
uO 38 (.un .not 37),
mV 39 38,
gD 40 39 false (.mv 6),
gD 41 39 false (.bin .geq 40 (cI 0)),
gD 42 39 false (.mv 41),
gD 43 42 true (.mv 6),
gD 44 42 true (.mv 5),
gD 45 42 true (.bin .sub 44 (cI 1)),
gD 46 42 true (.bin .neq 43 45),
gD 47 39 false (.pick 42 46 cF),
uO 48 (.pick 39 cT 47),
mV 49 48,
gD 50 49 false (.mv 6),
gD 51 49 false (.bin .lss 50 (cI 0)),
gD 52 49 false (.mv 51),
gD 53 52 true (.mv 5),
gD 54 52 true (.mv 0),
gD 55 52 true (.len 54),
gD 56 52 true (.bin .neq 53 55),
gD 57 49 false (.pick 52 56 cF),
uO 58 (.pick 49 cT 57)] [58])
(.cond 58 (.seq (rg [mV 4 (cI 3)] [4])
.ret)
.skip)))
(.seq (rg [mV 4 (cI 0)] [4])
.ret)))))
def a_q04v : AFun:=⟨2,[.t 4],P_q04v,false,false⟩
def d_q04v (C : Hd) (gl : GL) (v0 v1 : AV) (h : Heap) (x : Esc) (K : KT) : Prop:=
 wK (oBox v1 h) fun t1 h2 y3=>
 pK (oFaddr 0 none t1) fun t4=>
 pK (oLoad none t4 h2) fun t5=>
 C f_q04c [t5] h2 fun t6 h7 y8=>
 pK (oUn .not t6) fun t9=>
 gP t9 false (oFaddr 2 none t1) h7 fun t10 h11 y12=>
 gP t9 false (oLoad none t10 h11) h11 fun t13 h14 y15=>
 gV t9 false h14 (C f_q04c [t13] h14) fun t16 h17 y18=>
 gP t9 false (oUn .not t16) h17 fun t19 h20 y21=>
 pK (oPick t9 (AB true) t19) fun t22=>
 condB t22 (K .ret ⟨[(4,(AI 5))],h20,(y21 ++ (y18 ++ (y15 ++ (y12 ++ (y8 ++ (y3 ++ x))))))⟩)
 (pK (oFaddr 1 none t1) fun t23=>
 pK (oLoad none t23 h20) fun t24=>
 C f_q04f [t24] h20 fun t25 h26 y27=>
 pK (oUn .not t25) fun t28=>
 condB t28 (K .ret ⟨[(4,(AI 1))],h26,(y27 ++ (y21 ++ (y18 ++ (y15 ++ (y12 ++ (y8 ++ (y3 ++ x)))))))⟩)
 (pK (oFaddr 3 none t1) fun t29=>
 pK (oLoad none t29 h26) fun t30=>
 C f_q057 [t30,(.fn f_q04w [])] h26 fun t31 h32 y33=>
 condB t31 (K .ret ⟨[(4,(AI 1))],h32,(y33 ++ (y27 ++ (y21 ++ (y18 ++ (y15 ++ (y12 ++ (y8 ++ (y3 ++ x))))))))⟩)
 (pK (oFaddr 3 none t1) fun t34=>
 pK (oLoad none t34 h32) fun t35=>
 pK (oLen t35) fun t36=>
 pK (oFaddr 3 none t1) fun t37=>
 pK (oLoad none t37 h32) fun t38=>
 C f_q04r [v0,t38] h32 fun t39 h40 y41=>
 pK (oLen v0) fun t42=>
 C f_q04s [t36,(AI 1),t42] h40 fun t43 h44 y45=>
 pK (oUn .not t43) fun t46=>
 gM t46 false t39 h44 fun t47 h48 y49=>
 gP t46 false (oBin .geq t47 (AI 0)) h48 fun t50 h51 y52=>
 gM t46 false t50 h51 fun t53 h54 y55=>
 gM t53 true t39 h54 fun t56 h57 y58=>
 gM t53 true t36 h57 fun t59 h60 y61=>
 gP t53 true (oBin .sub t59 (AI 1)) h60 fun t62 h63 y64=>
 gP t53 true (oBin .neq t56 t62) h63 fun t65 h66 y67=>
 gP t46 false (oPick t53 t65 (AB false)) h66 fun t68 h69 y70=>
 pK (oPick t46 (AB true) t68) fun t71=>
 gM t71 false t39 h69 fun t72 h73 y74=>
 gP t71 false (oBin .lss t72 (AI 0)) h73 fun t75 h76 y77=>
 gM t71 false t75 h76 fun t78 h79 y80=>
 gM t78 true t36 h79 fun t81 h82 y83=>
 gM t78 true v0 h82 fun t84 h85 y86=>
 gP t78 true (oLen t84) h85 fun t87 h88 y89=>
 gP t78 true (oBin .neq t81 t87) h88 fun t90 h91 y92=>
 gP t71 false (oPick t78 t90 (AB false)) h91 fun t93 h94 y95=>
 pK (oPick t71 (AB true) t93) fun t96=>
 condB t96 (K .ret ⟨[(4,(AI 3))],h94,(y95 ++ (y92 ++ (y89 ++ (y86 ++ (y83 ++ (y80 ++ (y77 ++ (y74 ++ (y70 ++ (y67 ++ (y64 ++ (y61 ++ (y58 ++ (y55 ++ (y52 ++ (y49 ++ (y45 ++ (y41 ++ (y33 ++ (y27 ++ (y21 ++ (y18 ++ (y15 ++ (y12 ++ (y8 ++ (y3 ++ x))))))))))))))))))))))))))⟩)
 (K .ret ⟨[(4,(AI 0))],h94,(y95 ++ (y92 ++ (y89 ++ (y86 ++ (y83 ++ (y80 ++ (y77 ++ (y74 ++ (y70 ++ (y67 ++ (y64 ++ (y61 ++ (y58 ++ (y55 ++ (y52 ++ (y49 ++ (y45 ++ (y41 ++ (y33 ++ (y27 ++ (y21 ++ (y18 ++ (y15 ++ (y12 ++ (y8 ++ (y3 ++ x))))))))))))))))))))))))))⟩))))
theorem e_q04v {C gl v0 v1 h x K} : NW C gl a_q04v.body ⟨enter [v0,v1],h,x⟩ K = d_q04v C gl v0 v1 h x K:=by kernel_rfl
def P_q04x : ACode:=(.seq (rg [uO 2 (.box 0),
uO 3 (.box 1),
mV 4 (cI 0)] [2,3])
(.seq (.seq (rg [fA 5 1 none 2,
lD 6 none 5,
fA 7 1 none 3,
lD 8 none 7,
bN 9 .neq 6 8] [2,3,9])
(.cond 9 (.seq (rg [fA 10 1 none 2,
lD 11 none 10,
fA 12 1 none 3,
lD 13 none 12,
bN 14 .sub 11 13,
cL 15 f_q04y [14],
mV 4 15] [4])
.ret)
.skip))
(.seq (rg [fA 16 0 none 2,
lD 17 none 16,
fA 18 0 none 3,
lD 19 none 18,
cL 20 f_q07z [17,19],
mV 4 20] [4])
.ret)))
def a_q04x : AFun:=⟨2,[.t 4],P_q04x,false,false⟩
def d_q04x (C : Hd) (gl : GL) (v0 v1 : AV) (h : Heap) (x : Esc) (K : KT) : Prop:=
 wK (oBox v0 h) fun t1 h2 y3=>
 wK (oBox v1 h2) fun t4 h5 y6=>
 pK (oFaddr 1 none t1) fun t7=>
 pK (oLoad none t7 h5) fun t8=>
 pK (oFaddr 1 none t4) fun t9=>
 pK (oLoad none t9 h5) fun t10=>
 pK (oBin .neq t8 t10) fun t11=>
 condB t11 (pK (oFaddr 1 none t1) fun t12=>
 pK (oLoad none t12 h5) fun t13=>
 pK (oFaddr 1 none t4) fun t14=>
 pK (oLoad none t14 h5) fun t15=>
 pK (oBin .sub t13 t15) fun t16=>
 C f_q04y [t16] h5 fun t17 h18 y19=>
 K .ret ⟨[(4,t17)],h18,(y19 ++ (y6 ++ (y3 ++ x)))⟩)
 (pK (oFaddr 0 none t1) fun t20=>
 pK (oLoad none t20 h5) fun t21=>
 pK (oFaddr 0 none t4) fun t22=>
 pK (oLoad none t22 h5) fun t23=>
 C f_q07z [t21,t23] h5 fun t24 h25 y26=>
 K .ret ⟨[(4,t24)],h25,(y26 ++ (y6 ++ (y3 ++ x)))⟩)
theorem e_q04x {C gl v0 v1 h x K} : NW C gl a_q04x.body ⟨enter [v0,v1],h,x⟩ K = d_q04x C gl v0 v1 h x K:=by kernel_rfl
def p_q022_k1 : ACode:=.pr [0,13,14,15] (.seq (rg [bN 16 .lss 15 14] [0,13,14,15,16])
(.seq (.cond 16 .skip
(.exit 1))
(.seq (.block 2 (.seq (rg [mV 17 15,
iA 18 (some 4) 13 15,
lD 19 (some 4) 18,
uO 4 (.alloc [.p (.str []),.p (.int .i64 0),.p (.int .i64 0),.p (.int .i64 0)]),
mV 3 17,
wO (.store (some 4) 4 19)] [0,3,4,13,14,15])
(.block 3 (.seq (rg [fA 21 0 none 4,
lD 22 none 21,
cL 23 f_q006 [22],
uO 24 (.un .not 23),
mV 20 24] [0,3,4,13,14,15,20])
(.cond 20 (.seq (rg [mV 2 (cI 5)] [2])
.ret)
(.seq (dr [dF (mV 26 0) [0],
dF (mV 27 3) [3],
dF (uO 28 (.slice (some 4) 26 none (some 27) none)) [26,27],
dF (fA 29 0 none 4) [4],
dF (lD 30 none 29) [29],
dT (cL 31 f_q02r [28,30]) [28,30],
dF (bN 32 .geq 31 (cI 0)) [31],
dF (mV 25 32) [32]] [0,4,13,14,15,25])
(.cond 25 (.seq (rg [mV 2 (cI 6)] [2])
.ret)
(.seq (rg [fA 34 1 none 4,
lD 35 none 34,
fA 36 2 none 4,
lD 37 none 36,
cL 38 f_q008 [35,(cI (-100000)),37],
mV 39 38,
gD 40 39 false (.faddr 2 none 4),
gD 41 39 false (.load none 40),
gD 42 39 false (.bin .gtr 41 (cI 100000)),
uO 43 (.pick 39 cT 42),
mV 44 43,
gD 45 44 false (.faddr 3 none 4),
gD 46 44 false (.load none 45),
gD 47 44 false (.call f_q008 [46,(cI 2),(cI 100)]),
uO 48 (.pick 44 cT 47),
mV 33 48] [0,13,14,15,33])
(.cond 33 (.seq (rg [mV 2 (cI 1)] [2])
.ret)
.skip)))))))))
(rg [bN 49 .add 15 (cI 1),
mV 15 49] [0,13,14,15]))))
def d_q022_k1 (C : Hd) (gl : GL) (v0 v13 v14 v15 : AV) (h : Heap) (x : Esc) (K : KT) : Prop:=
 pK (oBin .lss v15 v14) fun t1=>
 condB t1 (pK (oIaddr (some 4) v13 v15 h) fun t2=>
 pK (oLoad (some 4) t2 h) fun t3=>
 alK [.p (.str []),.p (.int .i64 0),.p (.int .i64 0),.p (.int .i64 0)] h fun t4 h5 y6=>
 wK (oStore (some 4) t4 t3 h5) fun t7 h8 y9=>
 pK (oFaddr 0 none t4) fun t10=>
 pK (oLoad none t10 h8) fun t11=>
 C f_q006 [t11] h8 fun t12 h13 y14=>
 pK (oUn .not t12) fun t15=>
 condB t15 (K .ret ⟨[(2,(AI 5))],h13,(y14 ++ (y9 ++ (y6 ++ x)))⟩)
 (pK (oSlice (some 4) v0 none (some v15) none h13) fun t16=>
 pK (oFaddr 0 none t4) fun t17=>
 pK (oLoad none t17 h13) fun t18=>
 callE C f_q02r [t16,t18] h13 fun t19 h20 y21=>
 pK (oBin .geq t19 (AI 0)) fun t22=>
 condB t22 (K .ret ⟨[(2,(AI 6))],h20,(y21 ++ (y14 ++ (y9 ++ (y6 ++ x))))⟩)
 (pK (oFaddr 1 none t4) fun t23=>
 pK (oLoad none t23 h20) fun t24=>
 pK (oFaddr 2 none t4) fun t25=>
 pK (oLoad none t25 h20) fun t26=>
 C f_q008 [t24,(AI (-100000)),t26] h20 fun t27 h28 y29=>
 gP t27 false (oFaddr 2 none t4) h28 fun t30 h31 y32=>
 gP t27 false (oLoad none t30 h31) h31 fun t33 h34 y35=>
 gP t27 false (oBin .gtr t33 (AI 100000)) h34 fun t36 h37 y38=>
 pK (oPick t27 (AB true) t36) fun t39=>
 gP t39 false (oFaddr 3 none t4) h37 fun t40 h41 y42=>
 gP t39 false (oLoad none t40 h41) h41 fun t43 h44 y45=>
 gV t39 false h44 (C f_q008 [t43,(AI 2),(AI 100)] h44) fun t46 h47 y48=>
 pK (oPick t39 (AB true) t46) fun t49=>
 condB t49 (K .ret ⟨[(2,(AI 1))],h47,(y48 ++ (y45 ++ (y42 ++ (y38 ++ (y35 ++ (y32 ++ (y29 ++ (y21 ++ (y14 ++ (y9 ++ (y6 ++ x)))))))))))⟩)
 (pK (oBin .add v15 (AI 1)) fun t50=>
 K .normal ⟨[(0,v0),(13,v13),(14,v14),(15,t50)],h47,(y48 ++ (y45 ++ (y42 ++ (y38 ++ (y35 ++ (y32 ++ (y29 ++ (y21 ++ (y14 ++ (y9 ++ (y6 ++ x)))))))))))⟩))))
 (K (.exit 1) ⟨[(0,v0),(13,v13),(14,v14),(15,v15),(16,t1)],h,x⟩)
theorem e_q022_k1 {C gl e h x K} : NW C gl p_q022_k1 ⟨e,h,x⟩ K = d_q022_k1 C gl (aget e 0) (aget e 13) (aget e 14) (aget e 15) h x K:=by kernel_rfl
theorem l_q022_k1 {C gl e h x K} : NW C gl (.loop (.scope p_q022_k1)) ⟨e,h,x⟩ K = NLoop C gl (.scope p_q022_k1) K [(0,aget e 0),(13,aget e 13),(14,aget e 14),(15,aget e 15)] h x:=NLoop_sc
def p_q022_k2 : ACode:=.pr [] (.seq (rg [mV 2 (cI 0)] [2])
.ret)
def d_q022_k2 (C : Hd) (gl : GL) (h : Heap) (x : Esc) (K : KT) : Prop:=
 K .ret ⟨[(2,(AI 0))],h,x⟩
theorem e_q022_k2 {C gl e h x K} : NW C gl p_q022_k2 ⟨e,h,x⟩ K = d_q022_k2 C gl h x K:=by kernel_rfl
def P_q022 (q1 q2 : ACode) : ACode:=(.seq (rg [mV 2 (cI 0)] [0])
(.seq (.block 0 (.seq (rg [mV 6 0,
lN 7 6,
bN 8 .eql 7 (cI 0),
mV 5 8] [0,5])
(.cond 5 (.seq (rg [mV 2 (cI 8)] [2])
.ret)
(.seq (rg [mV 10 0,
lN 11 10,
bN 12 .gtr 11 (cI 100),
mV 9 12] [0,9])
(.cond 9 (.seq (rg [mV 2 (cI 2)] [2])
.ret)
.skip)))))
(.seq (.seq (rg [mV 13 0,
lN 14 13,
mV 15 (cI 0)] [0,13,14,15])
(.block 1 (.loop (.scope q1))))
q2)))
def a_q022 : AFun:=⟨1,[.t 2],P_q022 p_q022_k1 p_q022_k2,false,false⟩
def d_q022 (C : Hd) (gl : GL) (q1 q2 : ACode) (v0 : AV) (h : Heap) (x : Esc) (K : KT) : Prop:=
 pK (oLen v0) fun t1=>
 pK (oBin .eql t1 (AI 0)) fun t2=>
 condB t2 (K .ret ⟨[(2,(AI 8))],h,x⟩)
 (pK (oLen v0) fun t3=>
 pK (oBin .gtr t3 (AI 100)) fun t4=>
 condB t4 (K .ret ⟨[(2,(AI 2))],h,x⟩)
 (pK (oLen v0) fun t5=>
 NW C gl (.loop (.scope q1)) ⟨[(0,v0),(13,v0),(14,t5),(15,(AI 0))],h,x⟩ (blockN 1 (seqN C gl q2 K))))
theorem E_q022 {C gl q1 q2 v0 h x K} : NW C gl (P_q022 q1 q2) ⟨enter [v0],h,x⟩ K = d_q022 C gl q1 q2 v0 h x K:=by kernel_rfl
theorem e_q022 {C gl v0 h x K} : NW C gl a_q022.body ⟨enter [v0],h,x⟩ K = d_q022 C gl p_q022_k1 p_q022_k2 v0 h x K:=E_q022
def p_q02z_k1 : ACode:=.pr [0,1,11,12,13] (.seq (rg [bN 14 .lss 13 12] [0,1,11,12,13,14])
(.seq (.cond 14 .skip
(.exit 0))
(.seq (.block 1 (.seq (rg [mV 15 13,
iA 16 (some 4) 11 13,
lD 17 (some 4) 16,
uO 6 (.alloc [.p (.str []),.p (.int .i64 0),.p (.str []),.sl0 none]),
mV 5 15,
wO (.store (some 4) 6 17)] [0,1,5,6,11,12,13])
(.seq (.seq (rg [mV 18 0,
lD 19 (some 4) 6,
cL 20 f_q02x [18,19],
mV 7 20] [0,1,5,6,7,11,12,13])
(.seq (rg [mV 21 7,
bN 22 .neq 21 (cI 0)] [0,1,5,6,7,11,12,13,22])
(.cond 22 (.seq (rg [mV 23 7,
mV 4 23] [4])
.ret)
.skip)))
(.seq (dr [dF (mV 24 5) [5],
dF (bN 25 .gtr 24 (cI 0)) [24],
dF (mV 26 25) [25],
dF (gD 27 26 true (.load (some 4) 6)) [6,26],
dF (gD 28 26 true (.mv 1)) [1,26],
dF (gD 29 26 true (.mv 5)) [5,26],
dF (gD 30 26 true (.bin .sub 29 (cI 1))) [29,26],
dF (gD 31 26 true (.iaddr (some 4) 28 30)) [28,30,26],
dF (gD 32 26 true (.load (some 4) 31)) [31,26],
dT (gD 33 26 true (.call f_q02i [27,32])) [27,32,26],
dF (gD 34 26 true (.bin .leq 33 (cI 0))) [33,26],
dF (uO 35 (.pick 26 34 cF)) [26,34]] [0,1,11,12,13,35])
(.cond 35 (.seq (rg [mV 4 (cI 7)] [4])
.ret)
.skip)))))
(rg [bN 36 .add 13 (cI 1),
mV 13 36] [0,1,11,12,13]))))
def d_q02z_k1 (C : Hd) (gl : GL) (v0 v1 v11 v12 v13 : AV) (h : Heap) (x : Esc) (K : KT) : Prop:=
 pK (oBin .lss v13 v12) fun t1=>
 condB t1 (pK (oIaddr (some 4) v11 v13 h) fun t2=>
 pK (oLoad (some 4) t2 h) fun t3=>
 alK [.p (.str []),.p (.int .i64 0),.p (.str []),.sl0 none] h fun t4 h5 y6=>
 wK (oStore (some 4) t4 t3 h5) fun t7 h8 y9=>
 pK (oLoad (some 4) t4 h8) fun t10=>
 C f_q02x [v0,t10] h8 fun t11 h12 y13=>
 pK (oBin .neq t11 (AI 0)) fun t14=>
 condB t14 (K .ret ⟨[(4,t11)],h12,(y13 ++ (y9 ++ (y6 ++ x)))⟩)
 (pK (oBin .gtr v13 (AI 0)) fun t15=>
 gP t15 true (oLoad (some 4) t4 h12) h12 fun t16 h17 y18=>
 gM t15 true v1 h17 fun t19 h20 y21=>
 gM t15 true v13 h20 fun t22 h23 y24=>
 gP t15 true (oBin .sub t22 (AI 1)) h23 fun t25 h26 y27=>
 gP t15 true (oIaddr (some 4) t19 t25 h26) h26 fun t28 h29 y30=>
 gP t15 true (oLoad (some 4) t28 h29) h29 fun t31 h32 y33=>
 gV t15 true h32 (callE C f_q02i [t16,t31] h32) fun t34 h35 y36=>
 gP t15 true (oBin .leq t34 (AI 0)) h35 fun t37 h38 y39=>
 pK (oPick t15 t37 (AB false)) fun t40=>
 condB t40 (K .ret ⟨[(4,(AI 7))],h38,(y39 ++ (y36 ++ (y33 ++ (y30 ++ (y27 ++ (y24 ++ (y21 ++ (y18 ++ (y13 ++ (y9 ++ (y6 ++ x)))))))))))⟩)
 (pK (oBin .add v13 (AI 1)) fun t41=>
 K .normal ⟨[(0,v0),(1,v1),(11,v11),(12,v12),(13,t41)],h38,(y39 ++ (y36 ++ (y33 ++ (y30 ++ (y27 ++ (y24 ++ (y21 ++ (y18 ++ (y13 ++ (y9 ++ (y6 ++ x)))))))))))⟩)))
 (K (.exit 0) ⟨[(0,v0),(1,v1),(11,v11),(12,v12),(13,v13),(14,t1)],h,x⟩)
theorem e_q02z_k1 {C gl e h x K} : NW C gl p_q02z_k1 ⟨e,h,x⟩ K = d_q02z_k1 C gl (aget e 0) (aget e 1) (aget e 11) (aget e 12) (aget e 13) h x K:=by kernel_rfl
theorem l_q02z_k1 {C gl e h x K} : NW C gl (.loop (.scope p_q02z_k1)) ⟨e,h,x⟩ K = NLoop C gl (.scope p_q02z_k1) K [(0,aget e 0),(1,aget e 1),(11,aget e 11),(12,aget e 12),(13,aget e 13)] h x:=NLoop_sc
def p_q02z_k2 : ACode:=.pr [] (.seq (rg [mV 4 (cI 0)] [4])
.ret)
def d_q02z_k2 (C : Hd) (gl : GL) (h : Heap) (x : Esc) (K : KT) : Prop:=
 K .ret ⟨[(4,(AI 0))],h,x⟩
theorem e_q02z_k2 {C gl e h x K} : NW C gl p_q02z_k2 ⟨e,h,x⟩ K = d_q02z_k2 C gl h x K:=by kernel_rfl
def P_q02z (q1 q2 : ACode) : ACode:=(.seq (rg [mV 4 (cI 0)] [0,1])
(.seq (.seq (rg [mV 8 1,
lN 9 8,
bN 10 .gtr 9 (cI 5000)] [0,1,10])
(.cond 10 (.seq (rg [mV 4 (cI 2)] [4])
.ret)
.skip))
(.seq (.seq (rg [mV 11 1,
lN 12 11,
mV 13 (cI 0)] [0,1,11,12,13])
(.block 0 (.loop (.scope q1))))
q2)))
def a_q02z : AFun:=⟨2,[.t 4],P_q02z p_q02z_k1 p_q02z_k2,false,false⟩
def d_q02z (C : Hd) (gl : GL) (q1 q2 : ACode) (v0 v1 : AV) (h : Heap) (x : Esc) (K : KT) : Prop:=
 pK (oLen v1) fun t1=>
 pK (oBin .gtr t1 (AI 5000)) fun t2=>
 condB t2 (K .ret ⟨[(4,(AI 2))],h,x⟩)
 (pK (oLen v1) fun t3=>
 NW C gl (.loop (.scope q1)) ⟨[(0,v0),(1,v1),(11,v1),(12,t3),(13,(AI 0))],h,x⟩ (blockN 0 (seqN C gl q2 K)))
theorem E_q02z {C gl q1 q2 v0 v1 h x K} : NW C gl (P_q02z q1 q2) ⟨enter [v0,v1],h,x⟩ K = d_q02z C gl q1 q2 v0 v1 h x K:=by kernel_rfl
theorem e_q02z {C gl v0 v1 h x K} : NW C gl a_q02z.body ⟨enter [v0,v1],h,x⟩ K = d_q02z C gl p_q02z_k1 p_q02z_k2 v0 v1 h x K:=E_q02z
def p_q073_k1 : ACode:=.pr [0,1,2,6,7,8] (.seq (.seq (rg [mV 11 8,
mV 12 1,
bN 13 .leq 11 12] [0,1,2,6,7,8,13])
(.cond 13 .skip
(.exit 0)))
(.block 1 (.seq (rg [mV 14 0,
mV 15 7,
mV 16 8,
mV 17 2,
cL 18 f_q065 [14,15,16,17]] [0,1,2,6,8])
(.seq (rg [mV 19 8,
mV 7 19] [0,1,2,6,7,8])
(rg [mV 20 8,
mV 21 6,
bN 22 .add 20 21,
mV 8 22] [0,1,2,6,7,8])))))
def d_q073_k1 (C : Hd) (gl : GL) (v0 v1 v2 v6 v7 v8 : AV) (h : Heap) (x : Esc) (K : KT) : Prop:=
 pK (oBin .leq v8 v1) fun t1=>
 condB t1 (C f_q065 [v0,v7,v8,v2] h fun t2 h3 y4=>
 pK (oBin .add v8 v6) fun t5=>
 K .normal ⟨[(0,v0),(1,v1),(2,v2),(6,v6),(7,v8),(8,t5)],h3,(y4 ++ x)⟩)
 (K (.exit 0) ⟨[(0,v0),(1,v1),(2,v2),(6,v6),(7,v7),(8,v8),(13,t1)],h,x⟩)
theorem e_q073_k1 {C gl e h x K} : NW C gl p_q073_k1 ⟨e,h,x⟩ K = d_q073_k1 C gl (aget e 0) (aget e 1) (aget e 2) (aget e 6) (aget e 7) (aget e 8) h x K:=by kernel_rfl
theorem l_q073_k1 {C gl e h x K} : NW C gl (.loop p_q073_k1) ⟨e,h,x⟩ K = NLoop C gl p_q073_k1 K [(0,aget e 0),(1,aget e 1),(2,aget e 2),(6,aget e 6),(7,aget e 7),(8,aget e 8)] h x:=NLoop_pr
def p_q073_k2 : ACode:=.pr [0,1,2,6,7,8] (.seq (.seq (rg [mV 33 8,
mV 34 1,
bN 35 .leq 33 34] [0,1,2,6,7,8,35])
(.cond 35 .skip
(.exit 4)))
(.block 5 (.seq (rg [mV 36 0,
mV 37 7,
mV 38 7,
mV 39 6,
bN 40 .add 38 39,
mV 41 8,
mV 42 2,
cL 43 f_q077 [36,37,40,41,42]] [0,1,2,6,8])
(.seq (rg [mV 44 8,
mV 7 44] [0,1,2,6,7,8])
(rg [mV 45 8,
mV 46 6,
bN 47 .mul (cI 2) 46,
bN 48 .add 45 47,
mV 8 48] [0,1,2,6,7,8])))))
def d_q073_k2 (C : Hd) (gl : GL) (v0 v1 v2 v6 v7 v8 : AV) (h : Heap) (x : Esc) (K : KT) : Prop:=
 pK (oBin .leq v8 v1) fun t1=>
 condB t1 (pK (oBin .add v7 v6) fun t2=>
 C f_q077 [v0,v7,t2,v8,v2] h fun t3 h4 y5=>
 pK (oBin .mul (AI 2) v6) fun t6=>
 pK (oBin .add v8 t6) fun t7=>
 K .normal ⟨[(0,v0),(1,v1),(2,v2),(6,v6),(7,v8),(8,t7)],h4,(y5 ++ x)⟩)
 (K (.exit 4) ⟨[(0,v0),(1,v1),(2,v2),(6,v6),(7,v7),(8,v8),(35,t1)],h,x⟩)
theorem e_q073_k2 {C gl e h x K} : NW C gl p_q073_k2 ⟨e,h,x⟩ K = d_q073_k2 C gl (aget e 0) (aget e 1) (aget e 2) (aget e 6) (aget e 7) (aget e 8) h x K:=by kernel_rfl
theorem l_q073_k2 {C gl e h x K} : NW C gl (.loop p_q073_k2) ⟨e,h,x⟩ K = NLoop C gl p_q073_k2 K [(0,aget e 0),(1,aget e 1),(2,aget e 2),(6,aget e 6),(7,aget e 7),(8,aget e 8)] h x:=NLoop_pr
def p_q073_k3 : ACode:=.pr [0,1,2,6] (rg [mV 61 6,
bN 62 .mul 61 (cI 2),
mV 6 62] [0,1,2,6])
def d_q073_k3 (C : Hd) (gl : GL) (v0 v1 v2 v6 : AV) (h : Heap) (x : Esc) (K : KT) : Prop:=
 pK (oBin .mul v6 (AI 2)) fun t1=>
 K .normal ⟨[(0,v0),(1,v1),(2,v2),(6,t1)],h,x⟩
theorem e_q073_k3 {C gl e h x K} : NW C gl p_q073_k3 ⟨e,h,x⟩ K = d_q073_k3 C gl (aget e 0) (aget e 1) (aget e 2) (aget e 6) h x K:=by kernel_rfl
def P_q073_k4 (q3 : ACode) : ACode:=.pr [0,1,2,6,7] (.seq (.seq (rg [mV 49 7,
mV 50 6,
bN 51 .add 49 50,
mV 9 51] [0,1,2,6,7,9])
(.seq (rg [mV 52 9,
mV 53 1,
bN 54 .lss 52 53] [0,1,2,6,7,9,54])
(.cond 54 (rg [mV 55 0,
mV 56 7,
mV 57 9,
mV 58 1,
mV 59 2,
cL 60 f_q077 [55,56,57,58,59]] [0,1,2,6])
.skip)))
q3)
def p_q073_k4 : ACode:=P_q073_k4 p_q073_k3
def d_q073_k4 (C : Hd) (gl : GL) (q3 : ACode) (v0 v1 v2 v6 v7 : AV) (h : Heap) (x : Esc) (K : KT) : Prop:=
 pK (oBin .add v7 v6) fun t1=>
 pK (oBin .lss t1 v1) fun t2=>
 condB t2 (C f_q077 [v0,v7,t1,v1,v2] h fun t3 h4 y5=>
 NW C gl q3 ⟨[(0,v0),(1,v1),(2,v2),(6,v6)],h4,(y5 ++ x)⟩ K)
 (NW C gl q3 ⟨[(0,v0),(1,v1),(2,v2),(6,v6),(7,v7),(9,t1),(54,t2)],h,x⟩ K)
theorem E_q073_k4 {C gl q3 e h x K} : NW C gl (P_q073_k4 q3) ⟨e,h,x⟩ K = d_q073_k4 C gl q3 (aget e 0) (aget e 1) (aget e 2) (aget e 6) (aget e 7) h x K:=by kernel_rfl
theorem e_q073_k4 {C gl e h x K} : NW C gl p_q073_k4 ⟨e,h,x⟩ K = d_q073_k4 C gl p_q073_k3 (aget e 0) (aget e 1) (aget e 2) (aget e 6) (aget e 7) h x K:=E_q073_k4
def P_q073_k5 (q2 q4 : ACode) : ACode:=.pr [0,1,2,6] (.seq (.seq (rg [mV 28 6,
mV 29 1,
bN 30 .lss 28 29] [0,1,2,6,30])
(.cond 30 .skip
(.exit 2)))
(.block 3 (.seq (rg [mV 31 6,
bN 32 .mul (cI 2) 31,
mV 7 (cI 0),
mV 8 32] [0,1,2,6,7,8])
(.seq (.block 4 (.loop q2))
q4))))
def p_q073_k5 : ACode:=P_q073_k5 p_q073_k2 p_q073_k4
def d_q073_k5 (C : Hd) (gl : GL) (q2 q4 : ACode) (v0 v1 v2 v6 : AV) (h : Heap) (x : Esc) (K : KT) : Prop:=
 pK (oBin .lss v6 v1) fun t1=>
 condB t1 (pK (oBin .mul (AI 2) v6) fun t2=>
 NW C gl (.loop q2) ⟨[(0,v0),(1,v1),(2,v2),(6,v6),(7,(AI 0)),(8,t2)],h,x⟩ (blockN 4 (seqN C gl q4 (blockN 3 K))))
 (K (.exit 2) ⟨[(0,v0),(1,v1),(2,v2),(6,v6),(30,t1)],h,x⟩)
theorem E_q073_k5 {C gl q2 q4 e h x K} : NW C gl (P_q073_k5 q2 q4) ⟨e,h,x⟩ K = d_q073_k5 C gl q2 q4 (aget e 0) (aget e 1) (aget e 2) (aget e 6) h x K:=by kernel_rfl
theorem e_q073_k5 {C gl e h x K} : NW C gl p_q073_k5 ⟨e,h,x⟩ K = d_q073_k5 C gl p_q073_k2 p_q073_k4 (aget e 0) (aget e 1) (aget e 2) (aget e 6) h x K:=E_q073_k5
theorem l_q073_k5 {C gl e h x K} : NW C gl (.loop p_q073_k5) ⟨e,h,x⟩ K = NLoop C gl p_q073_k5 K [(0,aget e 0),(1,aget e 1),(2,aget e 2),(6,aget e 6)] h x:=NLoop_pr
def P_q073_k6 (q5 : ACode) : ACode:=.pr [0,1,2,6,7] (.seq (rg [mV 23 0,
mV 24 7,
mV 25 1,
mV 26 2,
cL 27 f_q065 [23,24,25,26]] [0,1,2,6])
(.block 2 (.loop q5)))
def p_q073_k6 : ACode:=P_q073_k6 p_q073_k5
def d_q073_k6 (C : Hd) (gl : GL) (q5 : ACode) (v0 v1 v2 v6 v7 : AV) (h : Heap) (x : Esc) (K : KT) : Prop:=
 C f_q065 [v0,v7,v1,v2] h fun t1 h2 y3=>
 NW C gl (.loop q5) ⟨[(0,v0),(1,v1),(2,v2),(6,v6)],h2,(y3 ++ x)⟩ (blockN 2 K)
theorem E_q073_k6 {C gl q5 e h x K} : NW C gl (P_q073_k6 q5) ⟨e,h,x⟩ K = d_q073_k6 C gl q5 (aget e 0) (aget e 1) (aget e 2) (aget e 6) (aget e 7) h x K:=by kernel_rfl
theorem e_q073_k6 {C gl e h x K} : NW C gl p_q073_k6 ⟨e,h,x⟩ K = d_q073_k6 C gl p_q073_k5 (aget e 0) (aget e 1) (aget e 2) (aget e 6) (aget e 7) h x K:=E_q073_k6
def P_q073 (q1 q6 : ACode) : ACode:=(.seq (rg [mV 6 (cI 20)] [0,1,2,6])
(.seq (rg [mV 10 6,
mV 7 (cI 0),
mV 8 10] [0,1,2,6,7,8])
(.seq (.block 0 (.loop q1))
q6)))
def a_q073 : AFun:=⟨3,[],P_q073 p_q073_k1 p_q073_k6,true,false⟩
def d_q073 (C : Hd) (gl : GL) (q1 q6 : ACode) (v0 v1 v2 : AV) (h : Heap) (x : Esc) (K : KT) : Prop:=
 NW C gl (.loop q1) ⟨[(0,v0),(1,v1),(2,v2),(6,(AI 20)),(7,(AI 0)),(8,(AI 20))],h,x⟩ (blockN 0 (seqN C gl q6 K))
theorem E_q073 {C gl q1 q6 v0 v1 v2 h x K} : NW C gl (P_q073 q1 q6) ⟨enter [v0,v1,v2],h,x⟩ K = d_q073 C gl q1 q6 v0 v1 v2 h x K:=by kernel_rfl
theorem e_q073 {C gl v0 v1 v2 h x K} : NW C gl a_q073.body ⟨enter [v0,v1,v2],h,x⟩ K = d_q073 C gl p_q073_k1 p_q073_k6 v0 v1 v2 h x K:=E_q073
def P_q00w : ACode:=(.seq (rg [mV 2 cF] [0])
(.seq (rg [mV 3 0,
mV 4 0,
bN 5 .neq 3 4,
mV 2 5] [2])
.ret))
def a_q00w : AFun:=⟨1,[.t 2],P_q00w,false,false⟩
def d_q00w (C : Hd) (gl : GL) (v0 : AV) (h : Heap) (x : Esc) (K : KT) : Prop:=
 pK (oBin .neq v0 v0) fun t1=>
 K .ret ⟨[(2,t1)],h,x⟩
theorem e_q00w {C gl v0 h x K} : NW C gl a_q00w.body ⟨enter [v0],h,x⟩ K = d_q00w C gl v0 h x K:=by kernel_rfl
def P_q039 : ACode:=(.seq (rg [mV 2 (cI 0)] [0])
(.seq (.cond cF (.seq (rg [mV 3 0,
uO 4 (.conv (.i .u32) 3),
cL 5 f_q03a [4],
mV 2 5] [2])
.ret)
.skip)
(.seq (rg [mV 6 0,
cL 7 f_q03b [6],
mV 2 7] [2])
.ret)))
def a_q039 : AFun:=⟨1,[.t 2],P_q039,false,false⟩
def d_q039 (C : Hd) (gl : GL) (v0 : AV) (h : Heap) (x : Esc) (K : KT) : Prop:=
 condB (AB false) (pK (oConvI .u32 v0) fun t1=>
 C f_q03a [t1] h fun t2 h3 y4=>
 K .ret ⟨[(2,t2)],h3,(y4 ++ x)⟩)
 (C f_q03b [v0] h fun t5 h6 y7=>
 K .ret ⟨[(2,t5)],h6,(y7 ++ x)⟩)
theorem e_q039 {C gl v0 h x K} : NW C gl a_q039.body ⟨enter [v0],h,x⟩ K = d_q039 C gl v0 h x K:=by kernel_rfl
def p_q05j_k1 : ACode:=.pr [0,1,7,8] (.seq (rg [bN 9 .lss 8 7] [0,1,7,8,9])
(.seq (.cond 9 .skip
(.exit 0))
(.seq (.block 1 (.seq (rg [mV 10 8,
mV 5 10] [0,1,5,7,8])
(.seq (rg [mV 11 1,
mV 12 0,
mV 13 5,
iA 14 (some 4) 12 13,
lD 15 (some 4) 14,
uO 16 (.callv 11 [15])] [0,1,5,7,8,16])
(.cond 16 (.seq (rg [mV 17 5,
mV 4 17] [4])
.ret)
.skip))))
(rg [bN 18 .add 8 (cI 1),
mV 8 18] [0,1,7,8]))))
def d_q05j_k1 (C : Hd) (gl : GL) (v0 v1 v7 v8 : AV) (h : Heap) (x : Esc) (K : KT) : Prop:=
 pK (oBin .lss v8 v7) fun t1=>
 condB t1 (pK (oIaddr (some 4) v0 v8 h) fun t2=>
 pK (oLoad (some 4) t2 h) fun t3=>
 callvK C v1 [t3] h fun t4 h5 y6=>
 condB t4 (K .ret ⟨[(4,v8)],h5,(y6 ++ x)⟩)
 (pK (oBin .add v8 (AI 1)) fun t7=>
 K .normal ⟨[(0,v0),(1,v1),(7,v7),(8,t7)],h5,(y6 ++ x)⟩))
 (K (.exit 0) ⟨[(0,v0),(1,v1),(7,v7),(8,v8),(9,t1)],h,x⟩)
theorem e_q05j_k1 {C gl e h x K} : NW C gl p_q05j_k1 ⟨e,h,x⟩ K = d_q05j_k1 C gl (aget e 0) (aget e 1) (aget e 7) (aget e 8) h x K:=by kernel_rfl
theorem l_q05j_k1 {C gl e h x K} : NW C gl (.loop p_q05j_k1) ⟨e,h,x⟩ K = NLoop C gl p_q05j_k1 K [(0,aget e 0),(1,aget e 1),(7,aget e 7),(8,aget e 8)] h x:=NLoop_pr
def p_q05j_k2 : ACode:=.pr [] (.seq (rg [mV 4 (cI (-1))] [4])
.ret)
def d_q05j_k2 (C : Hd) (gl : GL) (h : Heap) (x : Esc) (K : KT) : Prop:=
 K .ret ⟨[(4,(AI (-1)))],h,x⟩
theorem e_q05j_k2 {C gl e h x K} : NW C gl p_q05j_k2 ⟨e,h,x⟩ K = d_q05j_k2 C gl h x K:=by kernel_rfl
def P_q05j (q1 q2 : ACode) : ACode:=(.seq (rg [mV 4 (cI 0)] [0,1])
(.seq (.seq (rg [mV 6 0,
lN 7 6,
mV 8 (cI 0)] [0,1,7,8])
(.block 0 (.loop q1)))
q2))
def a_q05j : AFun:=⟨2,[.t 4],P_q05j p_q05j_k1 p_q05j_k2,true,false⟩
def d_q05j (C : Hd) (gl : GL) (q1 q2 : ACode) (v0 v1 : AV) (h : Heap) (x : Esc) (K : KT) : Prop:=
 pK (oLen v0) fun t1=>
 NW C gl (.loop q1) ⟨[(0,v0),(1,v1),(7,t1),(8,(AI 0))],h,x⟩ (blockN 0 (seqN C gl q2 K))
theorem E_q05j {C gl q1 q2 v0 v1 h x K} : NW C gl (P_q05j q1 q2) ⟨enter [v0,v1],h,x⟩ K = d_q05j C gl q1 q2 v0 v1 h x K:=by kernel_rfl
theorem e_q05j {C gl v0 v1 h x K} : NW C gl a_q05j.body ⟨enter [v0,v1],h,x⟩ K = d_q05j C gl p_q05j_k1 p_q05j_k2 v0 v1 h x K:=E_q05j
def P_q02s : ACode:=(.seq (rg [uO 2 (.box 0),
mV 3 cF] [1,2])
(.seq (rg [fA 4 0 none 2,
lD 5 none 4,
lD 6 none 1,
bN 7 .eql 5 6,
mV 3 7] [3])
.ret))
def a_q02s : AFun:=⟨2,[.t 3],P_q02s,false,false⟩
def d_q02s (C : Hd) (gl : GL) (v0 v1 : AV) (h : Heap) (x : Esc) (K : KT) : Prop:=
 wK (oBox v0 h) fun t1 h2 y3=>
 pK (oFaddr 0 none t1) fun t4=>
 pK (oLoad none t4 h2) fun t5=>
 pK (oLoad none v1 h2) fun t6=>
 pK (oBin .eql t5 t6) fun t7=>
 K .ret ⟨[(3,t7)],h2,(y3 ++ x)⟩
theorem e_q02s {C gl v0 v1 h x K} : NW C gl a_q02s.body ⟨enter [v0,v1],h,x⟩ K = d_q02s C gl v0 v1 h x K:=by kernel_rfl
def p_q06t_k1 : ACode:=.pr [0,1,2,3,8,9,10,11] (.seq (.seq (dr [dF (mV 73 1) [1],
dF (bN 74 .gtr 73 (cI 0)) [73],
dF (mV 75 74) [74],
dF (gD 76 75 true (.mv 0)) [0,75],
dF (gD 77 75 true (.mv 1)) [1,75],
dF (gD 78 75 true (.bin .sub 77 (cI 1))) [77,75],
dF (gD 79 75 true (.iaddr none 76 78)) [76,78,75],
dF (gD 80 75 true (.load none 79)) [79,75],
dF (gD 81 75 true (.mv 0)) [0,75],
dF (gD 82 75 true (.mv 11)) [11,75],
dF (gD 83 75 true (.iaddr none 81 82)) [81,82,75],
dF (gD 84 75 true (.load none 83)) [83,75],
dT (gD 85 75 true (.call f_q00t [80,84])) [80,84,75],
dF (gD 86 75 true (.un .not 85)) [85,75],
dF (uO 87 (.pick 75 86 cF)) [75,86]] [0,1,2,3,8,9,10,11,87])
(.cond 87 (.seq (rg [mV 88 0,
mV 89 1,
mV 90 2,
mV 91 11,
cL 92 f_q06o [88,89,90,91],
mV 13 92] [0,2,3,8,9,13])
(.seq (rg [mV 93 13,
mV 1 93] [0,1,2,3,8,9])
(.exit 1)))
.skip))
(.seq (rg [mV 95 0,
mV 96 1,
mV 97 2,
mV 98 11,
cL 99 f_q06q [95,96,97,98],
mV 94 99,
eX 100 94 0,
eX 101 94 1,
mV 14 100,
mV 15 101] [0,1,2,3,10,14,15])
(.seq (rg [mV 102 15,
mV 9 102] [0,1,2,3,9,10,14])
(.seq (rg [mV 103 14,
mV 104 1,
bN 105 .sub 103 104,
mV 106 2,
mV 107 14,
bN 108 .sub 106 107,
mV 16 105,
mV 17 108] [0,1,2,3,9,10,14,16,17])
(.seq (rg [mV 109 10,
bN 110 .quo 109 (cI 8),
mV 18 110] [0,1,2,3,9,14,16,17,18])
(.seq (rg [mV 111 16,
mV 112 17,
bN 113 .lss 111 112] [0,1,2,3,9,14,16,17,18,113])
(.cond 113 (.seq (rg [mV 114 16,
mV 115 18,
bN 116 .geq 114 115,
mV 8 116] [0,1,2,3,8,9,14])
(.seq (rg [mV 117 0,
mV 118 1,
mV 119 14,
mV 120 3,
cL 121 f_q06t [117,118,119,120]] [0,2,3,8,9,14])
(rg [mV 122 14,
bN 123 .add 122 (cI 1),
mV 1 123] [0,1,2,3,8,9])))
(.seq (rg [mV 124 17,
mV 125 18,
bN 126 .geq 124 125,
mV 8 126] [0,1,2,3,8,9,14])
(.seq (rg [mV 127 0,
mV 128 14,
bN 129 .add 128 (cI 1),
mV 130 2,
mV 131 3,
cL 132 f_q06t [127,129,130,131]] [0,1,3,8,9,14])
(rg [mV 133 14,
mV 2 133] [0,1,2,3,8,9]))))))))))
def d_q06t_k1 (C : Hd) (gl : GL) (v0 v1 v2 v3 v8 v9 v10 v11 : AV) (h : Heap) (x : Esc) (K : KT) : Prop:=
 pK (oBin .gtr v1 (AI 0)) fun t1=>
 gM t1 true v0 h fun t2 h3 y4=>
 gM t1 true v1 h3 fun t5 h6 y7=>
 gP t1 true (oBin .sub t5 (AI 1)) h6 fun t8 h9 y10=>
 gP t1 true (oIaddr none t2 t8 h9) h9 fun t11 h12 y13=>
 gP t1 true (oLoad none t11 h12) h12 fun t14 h15 y16=>
 gM t1 true v0 h15 fun t17 h18 y19=>
 gM t1 true v11 h18 fun t20 h21 y22=>
 gP t1 true (oIaddr none t17 t20 h21) h21 fun t23 h24 y25=>
 gP t1 true (oLoad none t23 h24) h24 fun t26 h27 y28=>
 gV t1 true h27 (callE C f_q00t [t14,t26] h27) fun t29 h30 y31=>
 gP t1 true (oUn .not t29) h30 fun t32 h33 y34=>
 pK (oPick t1 t32 (AB false)) fun t35=>
 condB t35 (C f_q06o [v0,v1,v2,v11] h33 fun t36 h37 y38=>
 K (.exit 1) ⟨[(0,v0),(1,t36),(2,v2),(3,v3),(8,v8),(9,v9)],h37,(y38 ++ (y34 ++ (y31 ++ (y28 ++ (y25 ++ (y22 ++ (y19 ++ (y16 ++ (y13 ++ (y10 ++ (y7 ++ (y4 ++ x))))))))))))⟩)
 (C f_q06q [v0,v1,v2,v11] h33 fun t39 h40 y41=>
 pK (oExt t39 0) fun t42=>
 pK (oExt t39 1) fun t43=>
 pK (oBin .sub t42 v1) fun t44=>
 pK (oBin .sub v2 t42) fun t45=>
 pK (oBin .quo v10 (AI 8)) fun t46=>
 pK (oBin .lss t44 t45) fun t47=>
 condB t47 (pK (oBin .geq t44 t46) fun t48=>
 C f_q06t [v0,v1,t42,v3] h40 fun t49 h50 y51=>
 pK (oBin .add t42 (AI 1)) fun t52=>
 K .normal ⟨[(0,v0),(1,t52),(2,v2),(3,v3),(8,t48),(9,t43)],h50,(y51 ++ (y41 ++ (y34 ++ (y31 ++ (y28 ++ (y25 ++ (y22 ++ (y19 ++ (y16 ++ (y13 ++ (y10 ++ (y7 ++ (y4 ++ x)))))))))))))⟩)
 (pK (oBin .geq t45 t46) fun t53=>
 pK (oBin .add t42 (AI 1)) fun t54=>
 C f_q06t [v0,t54,v2,v3] h40 fun t55 h56 y57=>
 K .normal ⟨[(0,v0),(1,v1),(2,t42),(3,v3),(8,t53),(9,t43)],h56,(y57 ++ (y41 ++ (y34 ++ (y31 ++ (y28 ++ (y25 ++ (y22 ++ (y19 ++ (y16 ++ (y13 ++ (y10 ++ (y7 ++ (y4 ++ x)))))))))))))⟩))
theorem e_q06t_k1 {C gl e h x K} : NW C gl p_q06t_k1 ⟨e,h,x⟩ K = d_q06t_k1 C gl (aget e 0) (aget e 1) (aget e 2) (aget e 3) (aget e 8) (aget e 9) (aget e 10) (aget e 11) h x K:=by kernel_rfl
def P_q06t_k2 (q1 : ACode) : ACode:=.pr [0,1,2,3,8,9,10,11,12] (.seq (.seq (rg [mV 61 8,
mV 62 61,
gD 63 62 true (.mv 9),
uO 64 (.pick 62 63 cF),
mV 65 64,
gD 66 65 true (.mv 12),
gD 67 65 true (.bin .eql 66 (cI 1)),
uO 68 (.pick 65 67 cF)] [0,1,2,3,8,9,10,11,68])
(.cond 68 (.seq (rg [mV 69 0,
mV 70 1,
mV 71 2,
cL 72 f_q06k [69,70,71]] [0,1,2,3,8,9,10,11,72])
(.cond 72 .ret
.skip))
.skip))
q1)
def p_q06t_k2 : ACode:=P_q06t_k2 p_q06t_k1
def d_q06t_k2 (C : Hd) (gl : GL) (q1 : ACode) (v0 v1 v2 v3 v8 v9 v10 v11 v12 : AV) (h : Heap) (x : Esc) (K : KT) : Prop:=
 gM v8 true v9 h fun t1 h2 y3=>
 pK (oPick v8 t1 (AB false)) fun t4=>
 gM t4 true v12 h2 fun t5 h6 y7=>
 gP t4 true (oBin .eql t5 (AI 1)) h6 fun t8 h9 y10=>
 pK (oPick t4 t8 (AB false)) fun t11=>
 condB t11 (C f_q06k [v0,v1,v2] h9 fun t12 h13 y14=>
 condB t12 (K .ret ⟨[(0,v0),(1,v1),(2,v2),(3,v3),(8,v8),(9,v9),(10,v10),(11,v11),(72,t12)],h13,(y14 ++ (y10 ++ (y7 ++ (y3 ++ x))))⟩)
 (NW C gl q1 ⟨[(0,v0),(1,v1),(2,v2),(3,v3),(8,v8),(9,v9),(10,v10),(11,v11),(72,t12)],h13,(y14 ++ (y10 ++ (y7 ++ (y3 ++ x))))⟩ K))
 (NW C gl q1 ⟨[(0,v0),(1,v1),(2,v2),(3,v3),(8,v8),(9,v9),(10,v10),(11,v11),(68,t11)],h9,(y10 ++ (y7 ++ (y3 ++ x)))⟩ K)
theorem E_q06t_k2 {C gl q1 e h x K} : NW C gl (P_q06t_k2 q1) ⟨e,h,x⟩ K = d_q06t_k2 C gl q1 (aget e 0) (aget e 1) (aget e 2) (aget e 3) (aget e 8) (aget e 9) (aget e 10) (aget e 11) (aget e 12) h x K:=by kernel_rfl
theorem e_q06t_k2 {C gl e h x K} : NW C gl p_q06t_k2 ⟨e,h,x⟩ K = d_q06t_k2 C gl p_q06t_k1 (aget e 0) (aget e 1) (aget e 2) (aget e 3) (aget e 8) (aget e 9) (aget e 10) (aget e 11) (aget e 12) h x K:=E_q06t_k2
def P_q06t_k3 (q2 : ACode) : ACode:=.pr [0,1,2,3,8,9,10] (.seq (rg [mV 43 0,
mV 44 1,
mV 45 2,
cL 46 f_q060 [43,44,45],
mV 42 46,
eX 47 42 0,
eX 48 42 1,
mV 11 47,
mV 12 48] [0,1,2,3,8,9,10,11,12])
(.seq (.seq (rg [mV 49 12,
bN 50 .eql 49 (cI 2)] [0,1,2,3,8,9,10,11,12,50])
(.cond 50 (.seq (rg [mV 51 0,
mV 52 1,
mV 53 2,
cL 54 f_q06w [51,52,53]] [0,1,2,3,8,9,10,11])
(.seq (rg [mV 55 2,
bN 56 .sub 55 (cI 1),
mV 57 11,
mV 58 1,
bN 59 .sub 57 58,
bN 60 .sub 56 59,
mV 11 60] [0,1,2,3,8,9,10,11])
(rg [mV 12 (cI 1)] [0,1,2,3,8,9,10,11,12])))
.skip))
q2))
def p_q06t_k3 : ACode:=P_q06t_k3 p_q06t_k2
def d_q06t_k3 (C : Hd) (gl : GL) (q2 : ACode) (v0 v1 v2 v3 v8 v9 v10 : AV) (h : Heap) (x : Esc) (K : KT) : Prop:=
 C f_q060 [v0,v1,v2] h fun t1 h2 y3=>
 pK (oExt t1 0) fun t4=>
 pK (oExt t1 1) fun t5=>
 pK (oBin .eql t5 (AI 2)) fun t6=>
 condB t6 (C f_q06w [v0,v1,v2] h2 fun t7 h8 y9=>
 pK (oBin .sub v2 (AI 1)) fun t10=>
 pK (oBin .sub t4 v1) fun t11=>
 pK (oBin .sub t10 t11) fun t12=>
 NW C gl q2 ⟨[(0,v0),(1,v1),(2,v2),(3,v3),(8,v8),(9,v9),(10,v10),(11,t12),(12,(AI 1))],h8,(y9 ++ (y3 ++ x))⟩ K)
 (NW C gl q2 ⟨[(0,v0),(1,v1),(2,v2),(3,v3),(8,v8),(9,v9),(10,v10),(11,t4),(12,t5),(50,t6)],h2,(y3 ++ x)⟩ K)
theorem E_q06t_k3 {C gl q2 e h x K} : NW C gl (P_q06t_k3 q2) ⟨e,h,x⟩ K = d_q06t_k3 C gl q2 (aget e 0) (aget e 1) (aget e 2) (aget e 3) (aget e 8) (aget e 9) (aget e 10) h x K:=by kernel_rfl
theorem e_q06t_k3 {C gl e h x K} : NW C gl p_q06t_k3 ⟨e,h,x⟩ K = d_q06t_k3 C gl p_q06t_k2 (aget e 0) (aget e 1) (aget e 2) (aget e 3) (aget e 8) (aget e 9) (aget e 10) h x K:=E_q06t_k3
def P_q06t_k4 (q3 : ACode) : ACode:=.pr [0,1,2,3,8,9] (.block 1 (.seq (rg [mV 19 2,
mV 20 1,
bN 21 .sub 19 20,
mV 10 21] [0,1,2,3,8,9,10])
(.seq (.seq (rg [mV 22 10,
bN 23 .leq 22 (cI 12)] [0,1,2,3,8,9,10,23])
(.cond 23 (.seq (rg [mV 24 0,
mV 25 1,
mV 26 2,
cL 27 f_q067 [24,25,26]] [])
.ret)
.skip))
(.seq (.seq (rg [mV 28 3,
bN 29 .eql 28 (cI 0)] [0,1,2,3,8,9,10,29])
(.cond 29 (.seq (rg [mV 30 0,
mV 31 1,
mV 32 2,
cL 33 f_q063 [30,31,32]] [])
.ret)
.skip))
(.seq (.seq (rg [mV 34 8,
uO 35 (.un .not 34)] [0,1,2,3,8,9,10,35])
(.cond 35 (.seq (rg [mV 36 0,
mV 37 1,
mV 38 2,
cL 39 f_q05x [36,37,38]] [0,1,2,3,8,9,10])
(rg [mV 40 3,
bN 41 .sub 40 (cI 1),
mV 3 41] [0,1,2,3,8,9,10]))
.skip))
q3)))))
def p_q06t_k4 : ACode:=P_q06t_k4 p_q06t_k3
def d_q06t_k4 (C : Hd) (gl : GL) (q3 : ACode) (v0 v1 v2 v3 v8 v9 : AV) (h : Heap) (x : Esc) (K : KT) : Prop:=
 pK (oBin .sub v2 v1) fun t1=>
 pK (oBin .leq t1 (AI 12)) fun t2=>
 condB t2 (C f_q067 [v0,v1,v2] h fun t3 h4 y5=>
 K .ret ⟨[],h4,(y5 ++ x)⟩)
 (pK (oBin .eql v3 (AI 0)) fun t6=>
 condB t6 (C f_q063 [v0,v1,v2] h fun t7 h8 y9=>
 K .ret ⟨[],h8,(y9 ++ x)⟩)
 (pK (oUn .not v8) fun t10=>
 condB t10 (C f_q05x [v0,v1,v2] h fun t11 h12 y13=>
 pK (oBin .sub v3 (AI 1)) fun t14=>
 NW C gl q3 ⟨[(0,v0),(1,v1),(2,v2),(3,t14),(8,v8),(9,v9),(10,t1)],h12,(y13 ++ x)⟩ (blockN 1 K))
 (NW C gl q3 ⟨[(0,v0),(1,v1),(2,v2),(3,v3),(8,v8),(9,v9),(10,t1),(35,t10)],h,x⟩ (blockN 1 K))))
theorem E_q06t_k4 {C gl q3 e h x K} : NW C gl (P_q06t_k4 q3) ⟨e,h,x⟩ K = d_q06t_k4 C gl q3 (aget e 0) (aget e 1) (aget e 2) (aget e 3) (aget e 8) (aget e 9) h x K:=by kernel_rfl
theorem e_q06t_k4 {C gl e h x K} : NW C gl p_q06t_k4 ⟨e,h,x⟩ K = d_q06t_k4 C gl p_q06t_k3 (aget e 0) (aget e 1) (aget e 2) (aget e 3) (aget e 8) (aget e 9) h x K:=E_q06t_k4
theorem l_q06t_k4 {C gl e h x K} : NW C gl (.loop p_q06t_k4) ⟨e,h,x⟩ K = NLoop C gl p_q06t_k4 K [(0,aget e 0),(1,aget e 1),(2,aget e 2),(3,aget e 3),(8,aget e 8),(9,aget e 9)] h x:=NLoop_pr
def P_q06t (q4 : ACode) : ACode:=(.seq (rg [mV 8 cT] [0,1,2,3,8])
(.seq (rg [mV 9 cT] [0,1,2,3,8,9])
(.block 0 (.loop q4))))
def a_q06t : AFun:=⟨4,[],P_q06t p_q06t_k4,true,false⟩
def d_q06t (C : Hd) (gl : GL) (q4 : ACode) (v0 v1 v2 v3 : AV) (h : Heap) (x : Esc) (K : KT) : Prop:=
 NW C gl (.loop q4) ⟨[(0,v0),(1,v1),(2,v2),(3,v3),(8,(AB true)),(9,(AB true))],h,x⟩ (blockN 0 K)
theorem E_q06t {C gl q4 v0 v1 v2 v3 h x K} : NW C gl (P_q06t q4) ⟨enter [v0,v1,v2,v3],h,x⟩ K = d_q06t C gl q4 v0 v1 v2 v3 h x K:=by kernel_rfl
theorem e_q06t {C gl v0 v1 v2 v3 h x K} : NW C gl a_q06t.body ⟨enter [v0,v1,v2,v3],h,x⟩ K = d_q06t C gl p_q06t_k4 v0 v1 v2 v3 h x K:=E_q06t
def p_q04t_k1 : ACode:=.pr [0,1,7,8] (.seq (rg [bN 9 .lss 8 7] [0,1,7,8,9])
(.seq (.cond 9 .skip
(.exit 0))
(.seq (.block 1 (.seq (rg [mV 10 8,
mV 5 10] [0,1,5,7,8])
(.seq (rg [mV 11 1,
mV 12 0,
mV 13 5,
uO 14 (.idxs 12 13),
cL 15 f_q082 [11,14],
bN 16 .lss 15 (cI 0)] [0,1,7,8,16])
(.cond 16 (.seq (rg [mV 4 cF] [4])
.ret)
.skip))))
(rg [bN 17 .add 8 (cI 1),
mV 8 17] [0,1,7,8]))))
def d_q04t_k1 (C : Hd) (gl : GL) (v0 v1 v7 v8 : AV) (h : Heap) (x : Esc) (K : KT) : Prop:=
 pK (oBin .lss v8 v7) fun t1=>
 condB t1 (pK (oIdxs v0 v8) fun t2=>
 C f_q082 [v1,t2] h fun t3 h4 y5=>
 pK (oBin .lss t3 (AI 0)) fun t6=>
 condB t6 (K .ret ⟨[(4,(AB false))],h4,(y5 ++ x)⟩)
 (pK (oBin .add v8 (AI 1)) fun t7=>
 K .normal ⟨[(0,v0),(1,v1),(7,v7),(8,t7)],h4,(y5 ++ x)⟩))
 (K (.exit 0) ⟨[(0,v0),(1,v1),(7,v7),(8,v8),(9,t1)],h,x⟩)
theorem e_q04t_k1 {C gl e h x K} : NW C gl p_q04t_k1 ⟨e,h,x⟩ K = d_q04t_k1 C gl (aget e 0) (aget e 1) (aget e 7) (aget e 8) h x K:=by kernel_rfl
theorem l_q04t_k1 {C gl e h x K} : NW C gl (.loop p_q04t_k1) ⟨e,h,x⟩ K = NLoop C gl p_q04t_k1 K [(0,aget e 0),(1,aget e 1),(7,aget e 7),(8,aget e 8)] h x:=NLoop_pr
def p_q04t_k2 : ACode:=.pr [] (.seq (rg [mV 4 cT] [4])
.ret)
def d_q04t_k2 (C : Hd) (gl : GL) (h : Heap) (x : Esc) (K : KT) : Prop:=
 K .ret ⟨[(4,(AB true))],h,x⟩
theorem e_q04t_k2 {C gl e h x K} : NW C gl p_q04t_k2 ⟨e,h,x⟩ K = d_q04t_k2 C gl h x K:=by kernel_rfl
def P_q04t (q1 q2 : ACode) : ACode:=(.seq (rg [mV 4 cF] [0,1])
(.seq (.seq (rg [mV 6 0,
uO 7 (.lens 6),
mV 8 (cI 0)] [0,1,7,8])
(.block 0 (.loop q1)))
q2))
def a_q04t : AFun:=⟨2,[.t 4],P_q04t p_q04t_k1 p_q04t_k2,false,false⟩
def d_q04t (C : Hd) (gl : GL) (q1 q2 : ACode) (v0 v1 : AV) (h : Heap) (x : Esc) (K : KT) : Prop:=
 pK (oLens v0) fun t1=>
 NW C gl (.loop q1) ⟨[(0,v0),(1,v1),(7,t1),(8,(AI 0))],h,x⟩ (blockN 0 (seqN C gl q2 K))
theorem E_q04t {C gl q1 q2 v0 v1 h x K} : NW C gl (P_q04t q1 q2) ⟨enter [v0,v1],h,x⟩ K = d_q04t C gl q1 q2 v0 v1 h x K:=by kernel_rfl
theorem e_q04t {C gl v0 v1 h x K} : NW C gl a_q04t.body ⟨enter [v0,v1],h,x⟩ K = d_q04t C gl p_q04t_k1 p_q04t_k2 v0 v1 h x K:=E_q04t
def P_q04k : ACode:=(.seq (rg [uO 2 (.box 0),
mV 3 cF] [1,2])
(.seq (rg [fA 4 0 none 2,
lD 5 none 4,
lD 6 none 1,
bN 7 .eql 5 6,
mV 3 7] [3])
.ret))
def a_q04k : AFun:=⟨2,[.t 3],P_q04k,false,false⟩
def d_q04k (C : Hd) (gl : GL) (v0 v1 : AV) (h : Heap) (x : Esc) (K : KT) : Prop:=
 wK (oBox v0 h) fun t1 h2 y3=>
 pK (oFaddr 0 none t1) fun t4=>
 pK (oLoad none t4 h2) fun t5=>
 pK (oLoad none v1 h2) fun t6=>
 pK (oBin .eql t5 t6) fun t7=>
 K .ret ⟨[(3,t7)],h2,(y3 ++ x)⟩
theorem e_q04k {C gl v0 v1 h x K} : NW C gl a_q04k.body ⟨enter [v0,v1],h,x⟩ K = d_q04k C gl v0 v1 h x K:=by kernel_rfl
def P_q01d : ACode:=(.seq (rg [mV 4 (cI 0)] [0,1])
(.seq (rg [mV 5 0,
mV 6 1,
cL 7 f_internal_bytealg_abigen_runtime_cmpstring [5,6],
mV 4 7] [4])
.ret))
def a_q01d : AFun:=⟨2,[.t 4],P_q01d,false,false⟩
def d_q01d (C : Hd) (gl : GL) (v0 v1 : AV) (h : Heap) (x : Esc) (K : KT) : Prop:=
 C f_internal_bytealg_abigen_runtime_cmpstring [v0,v1] h fun t1 h2 y3=>
 K .ret ⟨[(4,t1)],h2,(y3 ++ x)⟩
theorem e_q01d {C gl v0 v1 h x K} : NW C gl a_q01d.body ⟨enter [v0,v1],h,x⟩ K = d_q01d C gl v0 v1 h x K:=by kernel_rfl
def P_q04f : ACode:=(.seq (rg [mV 2 cF] [0])
(.seq (rg [mV 3 0,
cL 4 f_q04s [3,(cI 0),(cI 345686399999)],
mV 2 4] [2])
.ret))
def a_q04f : AFun:=⟨1,[.t 2],P_q04f,false,false⟩
def d_q04f (C : Hd) (gl : GL) (v0 : AV) (h : Heap) (x : Esc) (K : KT) : Prop:=
 C f_q04s [v0,(AI 0),(AI 345686399999)] h fun t1 h2 y3=>
 K .ret ⟨[(2,t1)],h2,(y3 ++ x)⟩
theorem e_q04f {C gl v0 h x K} : NW C gl a_q04f.body ⟨enter [v0],h,x⟩ K = d_q04f C gl v0 h x K:=by kernel_rfl
def P_q04w : ACode:=(.seq (rg [mV 2 cF] [0])
(.seq (rg [mV 3 0,
cL 4 f_q04s [3,(cI (-100000)),(cI 100000)],
uO 5 (.un .not 4),
mV 2 5] [2])
.ret))
def a_q04w : AFun:=⟨1,[.t 2],P_q04w,false,false⟩
def d_q04w (C : Hd) (gl : GL) (v0 : AV) (h : Heap) (x : Esc) (K : KT) : Prop:=
 C f_q04s [v0,(AI (-100000)),(AI 100000)] h fun t1 h2 y3=>
 pK (oUn .not t1) fun t4=>
 K .ret ⟨[(2,t4)],h2,(y3 ++ x)⟩
theorem e_q04w {C gl v0 h x K} : NW C gl a_q04w.body ⟨enter [v0],h,x⟩ K = d_q04w C gl v0 h x K:=by kernel_rfl
def p_q04r_k1 : ACode:=.pr [0,7,8,9] (.seq (rg [bN 10 .lss 9 8] [0,7,8,9,10])
(.seq (.cond 10 .skip
(.exit 0))
(.seq (.block 1 (.seq (rg [mV 11 9,
iA 12 none 7 9,
lD 13 none 12,
mV 5 11,
mV 6 13] [0,5,6,7,8,9])
(.seq (dr [dF (mV 14 5) [5],
dF (mV 15 0) [0],
dF (lN 16 15) [15],
dF (bN 17 .lss 14 16) [14,16],
dF (mV 18 17) [17],
dF (gD 19 18 true (.mv 6)) [6,18],
dF (gD 20 18 true (.mv 0)) [0,18],
dF (gD 21 18 true (.mv 5)) [5,18],
dF (gD 22 18 true (.iaddr (some 4) 20 21)) [20,21,18],
dF (gD 23 18 true (.faddr 1 none 22)) [22,18],
dF (gD 24 18 true (.load none 23)) [23,18],
dF (gD 25 18 true (.mv 0)) [0,18],
dF (gD 26 18 true (.mv 5)) [5,18],
dF (gD 27 18 true (.iaddr (some 4) 25 26)) [25,26,18],
dF (gD 28 18 true (.faddr 2 none 27)) [27,18],
dF (gD 29 18 true (.load none 28)) [28,18],
dT (gD 30 18 true (.call f_q04s [19,24,29])) [19,24,29,18],
dF (gD 31 18 true (.un .not 30)) [30,18],
dF (uO 32 (.pick 18 31 cF)) [18,31]] [0,5,7,8,9,32])
(.cond 32 (.seq (rg [mV 33 5,
mV 4 33] [4])
.ret)
.skip))))
(rg [bN 34 .add 9 (cI 1),
mV 9 34] [0,7,8,9]))))
def d_q04r_k1 (C : Hd) (gl : GL) (v0 v7 v8 v9 : AV) (h : Heap) (x : Esc) (K : KT) : Prop:=
 pK (oBin .lss v9 v8) fun t1=>
 condB t1 (pK (oIaddr none v7 v9 h) fun t2=>
 pK (oLoad none t2 h) fun t3=>
 pK (oLen v0) fun t4=>
 pK (oBin .lss v9 t4) fun t5=>
 gM t5 true t3 h fun t6 h7 y8=>
 gM t5 true v0 h7 fun t9 h10 y11=>
 gM t5 true v9 h10 fun t12 h13 y14=>
 gP t5 true (oIaddr (some 4) t9 t12 h13) h13 fun t15 h16 y17=>
 gP t5 true (oFaddr 1 none t15) h16 fun t18 h19 y20=>
 gP t5 true (oLoad none t18 h19) h19 fun t21 h22 y23=>
 gM t5 true v0 h22 fun t24 h25 y26=>
 gM t5 true v9 h25 fun t27 h28 y29=>
 gP t5 true (oIaddr (some 4) t24 t27 h28) h28 fun t30 h31 y32=>
 gP t5 true (oFaddr 2 none t30) h31 fun t33 h34 y35=>
 gP t5 true (oLoad none t33 h34) h34 fun t36 h37 y38=>
 gV t5 true h37 (callE C f_q04s [t6,t21,t36] h37) fun t39 h40 y41=>
 gP t5 true (oUn .not t39) h40 fun t42 h43 y44=>
 pK (oPick t5 t42 (AB false)) fun t45=>
 condB t45 (K .ret ⟨[(4,v9)],h43,(y44 ++ (y41 ++ (y38 ++ (y35 ++ (y32 ++ (y29 ++ (y26 ++ (y23 ++ (y20 ++ (y17 ++ (y14 ++ (y11 ++ (y8 ++ x)))))))))))))⟩)
 (pK (oBin .add v9 (AI 1)) fun t46=>
 K .normal ⟨[(0,v0),(7,v7),(8,v8),(9,t46)],h43,(y44 ++ (y41 ++ (y38 ++ (y35 ++ (y32 ++ (y29 ++ (y26 ++ (y23 ++ (y20 ++ (y17 ++ (y14 ++ (y11 ++ (y8 ++ x)))))))))))))⟩))
 (K (.exit 0) ⟨[(0,v0),(7,v7),(8,v8),(9,v9),(10,t1)],h,x⟩)
theorem e_q04r_k1 {C gl e h x K} : NW C gl p_q04r_k1 ⟨e,h,x⟩ K = d_q04r_k1 C gl (aget e 0) (aget e 7) (aget e 8) (aget e 9) h x K:=by kernel_rfl
theorem l_q04r_k1 {C gl e h x K} : NW C gl (.loop p_q04r_k1) ⟨e,h,x⟩ K = NLoop C gl p_q04r_k1 K [(0,aget e 0),(7,aget e 7),(8,aget e 8),(9,aget e 9)] h x:=NLoop_pr
def p_q04r_k2 : ACode:=.pr [] (.seq (rg [mV 4 (cI (-1))] [4])
.ret)
def d_q04r_k2 (C : Hd) (gl : GL) (h : Heap) (x : Esc) (K : KT) : Prop:=
 K .ret ⟨[(4,(AI (-1)))],h,x⟩
theorem e_q04r_k2 {C gl e h x K} : NW C gl p_q04r_k2 ⟨e,h,x⟩ K = d_q04r_k2 C gl h x K:=by kernel_rfl
def P_q04r (q1 q2 : ACode) : ACode:=(.seq (rg [mV 4 (cI 0)] [0,1])
(.seq (.seq (rg [mV 7 1,
lN 8 7,
mV 9 (cI 0)] [0,7,8,9])
(.block 0 (.loop q1)))
q2))
def a_q04r : AFun:=⟨2,[.t 4],P_q04r p_q04r_k1 p_q04r_k2,false,false⟩
def d_q04r (C : Hd) (gl : GL) (q1 q2 : ACode) (v0 v1 : AV) (h : Heap) (x : Esc) (K : KT) : Prop:=
 pK (oLen v1) fun t1=>
 NW C gl (.loop q1) ⟨[(0,v0),(7,v1),(8,t1),(9,(AI 0))],h,x⟩ (blockN 0 (seqN C gl q2 K))
theorem E_q04r {C gl q1 q2 v0 v1 h x K} : NW C gl (P_q04r q1 q2) ⟨enter [v0,v1],h,x⟩ K = d_q04r C gl q1 q2 v0 v1 h x K:=by kernel_rfl
theorem e_q04r {C gl v0 v1 h x K} : NW C gl a_q04r.body ⟨enter [v0,v1],h,x⟩ K = d_q04r C gl p_q04r_k1 p_q04r_k2 v0 v1 h x K:=E_q04r
def P_q04y : ACode:=(.seq (rg [mV 2 (cI 0)] [0])
(.seq (.block 0 (.seq (rg [mV 4 0,
bN 5 .lss 4 (cI 0),
mV 3 5] [0,3])
(.cond 3 (.seq (rg [mV 2 (cI (-1))] [2])
.ret)
(.seq (rg [mV 7 0,
bN 8 .gtr 7 (cI 0),
mV 6 8] [6])
(.cond 6 (.seq (rg [mV 2 (cI 1)] [2])
.ret)
.skip)))))
(.seq (rg [mV 2 (cI 0)] [2])
.ret)))
def a_q04y : AFun:=⟨1,[.t 2],P_q04y,false,false⟩
def d_q04y (C : Hd) (gl : GL) (v0 : AV) (h : Heap) (x : Esc) (K : KT) : Prop:=
 pK (oBin .lss v0 (AI 0)) fun t1=>
 condB t1 (K .ret ⟨[(2,(AI (-1)))],h,x⟩)
 (pK (oBin .gtr v0 (AI 0)) fun t2=>
 condB t2 (K .ret ⟨[(2,(AI 1))],h,x⟩)
 (K .ret ⟨[(2,(AI 0))],h,x⟩))
theorem e_q04y {C gl v0 h x K} : NW C gl a_q04y.body ⟨enter [v0],h,x⟩ K = d_q04y C gl v0 h x K:=by kernel_rfl
def P_q02x : ACode:=(.seq (rg [uO 3 (.box 1),
mV 4 (cI 0)] [0,3])
(.seq (.block 0 (.seq (rg [fA 6 0 none 3,
lD 7 none 6,
cL 8 f_q006 [7],
uO 9 (.un .not 8),
mV 10 9,
gD 11 10 false (.faddr 2 none 3),
gD 12 10 false (.load none 11),
gD 13 10 false (.call f_q006 [12]),
gD 14 10 false (.un .not 13),
uO 15 (.pick 10 cT 14),
mV 5 15] [0,3,5])
(.cond 5 (.seq (rg [mV 4 (cI 5)] [4])
.ret)
(.seq (rg [fA 17 1 none 3,
lD 18 none 17,
cL 19 f_q007 [18],
uO 20 (.un .not 19),
mV 21 20,
gD 22 21 false (.faddr 3 none 3),
gD 23 21 false (.load none 22),
gD 24 21 false (.call f_q057 [23,(.f f_q02y)]),
uO 25 (.pick 21 cT 24),
mV 16 25] [0,3,16])
(.cond 16 (.seq (rg [mV 4 (cI 1)] [4])
.ret)
(.seq (rg [mV 27 0,
lD 28 (some 4) 3,
cL 29 f_q02l [27,28],
uO 30 (.un .not 29),
mV 26 30] [26])
(.cond 26 (.seq (rg [mV 4 (cI 3)] [4])
.ret)
.skip)))))))
(.seq (rg [mV 4 (cI 0)] [4])
.ret)))
def a_q02x : AFun:=⟨2,[.t 4],P_q02x,false,false⟩
def d_q02x (C : Hd) (gl : GL) (v0 v1 : AV) (h : Heap) (x : Esc) (K : KT) : Prop:=
 wK (oBox v1 h) fun t1 h2 y3=>
 pK (oFaddr 0 none t1) fun t4=>
 pK (oLoad none t4 h2) fun t5=>
 C f_q006 [t5] h2 fun t6 h7 y8=>
 pK (oUn .not t6) fun t9=>
 gP t9 false (oFaddr 2 none t1) h7 fun t10 h11 y12=>
 gP t9 false (oLoad none t10 h11) h11 fun t13 h14 y15=>
 gV t9 false h14 (C f_q006 [t13] h14) fun t16 h17 y18=>
 gP t9 false (oUn .not t16) h17 fun t19 h20 y21=>
 pK (oPick t9 (AB true) t19) fun t22=>
 condB t22 (K .ret ⟨[(4,(AI 5))],h20,(y21 ++ (y18 ++ (y15 ++ (y12 ++ (y8 ++ (y3 ++ x))))))⟩)
 (pK (oFaddr 1 none t1) fun t23=>
 pK (oLoad none t23 h20) fun t24=>
 C f_q007 [t24] h20 fun t25 h26 y27=>
 pK (oUn .not t25) fun t28=>
 gP t28 false (oFaddr 3 none t1) h26 fun t29 h30 y31=>
 gP t28 false (oLoad none t29 h30) h30 fun t32 h33 y34=>
 gV t28 false h33 (C f_q057 [t32,(.fn f_q02y [])] h33) fun t35 h36 y37=>
 pK (oPick t28 (AB true) t35) fun t38=>
 condB t38 (K .ret ⟨[(4,(AI 1))],h36,(y37 ++ (y34 ++ (y31 ++ (y27 ++ (y21 ++ (y18 ++ (y15 ++ (y12 ++ (y8 ++ (y3 ++ x))))))))))⟩)
 (pK (oLoad (some 4) t1 h36) fun t39=>
 C f_q02l [v0,t39] h36 fun t40 h41 y42=>
 pK (oUn .not t40) fun t43=>
 condB t43 (K .ret ⟨[(4,(AI 3))],h41,(y42 ++ (y37 ++ (y34 ++ (y31 ++ (y27 ++ (y21 ++ (y18 ++ (y15 ++ (y12 ++ (y8 ++ (y3 ++ x)))))))))))⟩)
 (K .ret ⟨[(4,(AI 0))],h41,(y42 ++ (y37 ++ (y34 ++ (y31 ++ (y27 ++ (y21 ++ (y18 ++ (y15 ++ (y12 ++ (y8 ++ (y3 ++ x)))))))))))⟩)))
theorem e_q02x {C gl v0 v1 h x K} : NW C gl a_q02x.body ⟨enter [v0,v1],h,x⟩ K = d_q02x C gl v0 v1 h x K:=by kernel_rfl
def p_q065_k1 : ACode:=.pr [0,1,2,3,8,9] (.seq (.seq (dr [dF (mV 18 9) [9],
dF (mV 19 1) [1],
dF (bN 20 .gtr 18 19) [18,19],
dF (mV 21 20) [20],
dF (gD 22 21 true (.mv 3)) [3,21],
dF (gD 23 21 true (.mv 0)) [0,21],
dF (gD 24 21 true (.mv 9)) [9,21],
dF (gD 25 21 true (.iaddr (some 4) 23 24)) [23,24,21],
dF (gD 26 21 true (.load (some 4) 25)) [25,21],
dF (gD 27 21 true (.mv 0)) [0,21],
dF (gD 28 21 true (.mv 9)) [9,21],
dF (gD 29 21 true (.bin .sub 28 (cI 1))) [28,21],
dF (gD 30 21 true (.iaddr (some 4) 27 29)) [27,29,21],
dF (gD 31 21 true (.load (some 4) 30)) [30,21],
dT (gD 32 21 true (.callv 22 [26,31])) [22,26,31,21],
dF (gD 33 21 true (.bin .lss 32 (cI 0))) [32,21],
dF (uO 34 (.pick 21 33 cF)) [21,33]] [0,1,2,3,8,9,34])
(.cond 34 .skip
(.exit 2)))
(.seq (.block 3 (dr [dF (mV 37 0) [0],
dF (mV 38 9) [9],
dF (mV 39 0) [0],
dF (mV 40 9) [9],
dF (bN 41 .sub 40 (cI 1)) [40],
dF (mV 42 0) [0],
dF (mV 43 9) [9],
dF (bN 44 .sub 43 (cI 1)) [43],
dF (iA 45 (some 4) 42 44) [42,44],
dF (lD 46 (some 4) 45) [45],
dF (mV 47 0) [0],
dF (mV 48 9) [9],
dF (iA 49 (some 4) 47 48) [47,48],
dF (lD 50 (some 4) 49) [49],
dF (iA 51 (some 4) 37 38) [37,38],
dT (wO (.store (some 4) 51 46)) [51,46],
dF (iA 52 (some 4) 39 41) [39,41],
dT (wO (.store (some 4) 52 50)) [52,50]] [0,1,2,3,8,9]))
(rg [mV 35 9,
bN 36 .sub 35 (cI 1),
mV 9 36] [0,1,2,3,8,9])))
def d_q065_k1 (C : Hd) (gl : GL) (v0 v1 v2 v3 v8 v9 : AV) (h : Heap) (x : Esc) (K : KT) : Prop:=
 pK (oBin .gtr v9 v1) fun t1=>
 gM t1 true v3 h fun t2 h3 y4=>
 gM t1 true v0 h3 fun t5 h6 y7=>
 gM t1 true v9 h6 fun t8 h9 y10=>
 gP t1 true (oIaddr (some 4) t5 t8 h9) h9 fun t11 h12 y13=>
 gP t1 true (oLoad (some 4) t11 h12) h12 fun t14 h15 y16=>
 gM t1 true v0 h15 fun t17 h18 y19=>
 gM t1 true v9 h18 fun t20 h21 y22=>
 gP t1 true (oBin .sub t20 (AI 1)) h21 fun t23 h24 y25=>
 gP t1 true (oIaddr (some 4) t17 t23 h24) h24 fun t26 h27 y28=>
 gP t1 true (oLoad (some 4) t26 h27) h27 fun t29 h30 y31=>
 gV t1 true h30 (callvE C t2 [t14,t29] h30) fun t32 h33 y34=>
 gP t1 true (oBin .lss t32 (AI 0)) h33 fun t35 h36 y37=>
 pK (oPick t1 t35 (AB false)) fun t38=>
 condB t38 (pK (oBin .sub v9 (AI 1)) fun t39=>
 pK (oBin .sub v9 (AI 1)) fun t40=>
 pK (oIaddr (some 4) v0 t40 h36) fun t41=>
 pK (oLoad (some 4) t41 h36) fun t42=>
 pK (oIaddr (some 4) v0 v9 h36) fun t43=>
 pK (oLoad (some 4) t43 h36) fun t44=>
 pK (oIaddr (some 4) v0 v9 h36) fun t45=>
 wK (oStore (some 4) t45 t42 h36) fun t46 h47 y48=>
 pK (oIaddr (some 4) v0 t39 h47) fun t49=>
 wK (oStore (some 4) t49 t44 h47) fun t50 h51 y52=>
 pK (oBin .sub v9 (AI 1)) fun t53=>
 K .normal ⟨[(0,v0),(1,v1),(2,v2),(3,v3),(8,v8),(9,t53)],h51,(y52 ++ (y48 ++ (y37 ++ (y34 ++ (y31 ++ (y28 ++ (y25 ++ (y22 ++ (y19 ++ (y16 ++ (y13 ++ (y10 ++ (y7 ++ (y4 ++ x))))))))))))))⟩)
 (K (.exit 2) ⟨[(0,v0),(1,v1),(2,v2),(3,v3),(8,v8),(9,v9),(34,t38)],h36,(y37 ++ (y34 ++ (y31 ++ (y28 ++ (y25 ++ (y22 ++ (y19 ++ (y16 ++ (y13 ++ (y10 ++ (y7 ++ (y4 ++ x))))))))))))⟩)
theorem e_q065_k1 {C gl e h x K} : NW C gl p_q065_k1 ⟨e,h,x⟩ K = d_q065_k1 C gl (aget e 0) (aget e 1) (aget e 2) (aget e 3) (aget e 8) (aget e 9) h x K:=by kernel_rfl
theorem l_q065_k1 {C gl e h x K} : NW C gl (.loop p_q065_k1) ⟨e,h,x⟩ K = NLoop C gl p_q065_k1 K [(0,aget e 0),(1,aget e 1),(2,aget e 2),(3,aget e 3),(8,aget e 8),(9,aget e 9)] h x:=NLoop_pr
def p_q065_k2 : ACode:=.pr [0,1,2,3,8] (rg [mV 15 8,
bN 16 .add 15 (cI 1),
mV 8 16] [0,1,2,3,8])
def d_q065_k2 (C : Hd) (gl : GL) (v0 v1 v2 v3 v8 : AV) (h : Heap) (x : Esc) (K : KT) : Prop:=
 pK (oBin .add v8 (AI 1)) fun t1=>
 K .normal ⟨[(0,v0),(1,v1),(2,v2),(3,v3),(8,t1)],h,x⟩
theorem e_q065_k2 {C gl e h x K} : NW C gl p_q065_k2 ⟨e,h,x⟩ K = d_q065_k2 C gl (aget e 0) (aget e 1) (aget e 2) (aget e 3) (aget e 8) h x K:=by kernel_rfl
def P_q065_k3 (q1 q2 : ACode) : ACode:=.pr [0,1,2,3,8] (.seq (.seq (rg [mV 12 8,
mV 13 2,
bN 14 .lss 12 13] [0,1,2,3,8,14])
(.cond 14 .skip
(.exit 0)))
(.seq (.block 1 (.seq (rg [mV 17 8,
mV 9 17] [0,1,2,3,8,9])
(.block 2 (.loop q1))))
q2))
def p_q065_k3 : ACode:=P_q065_k3 p_q065_k1 p_q065_k2
def d_q065_k3 (C : Hd) (gl : GL) (q1 q2 : ACode) (v0 v1 v2 v3 v8 : AV) (h : Heap) (x : Esc) (K : KT) : Prop:=
 pK (oBin .lss v8 v2) fun t1=>
 condB t1 (NW C gl (.loop q1) ⟨[(0,v0),(1,v1),(2,v2),(3,v3),(8,v8),(9,v8)],h,x⟩ (blockN 2 (blockN 1 (seqN C gl q2 K))))
 (K (.exit 0) ⟨[(0,v0),(1,v1),(2,v2),(3,v3),(8,v8),(14,t1)],h,x⟩)
theorem E_q065_k3 {C gl q1 q2 e h x K} : NW C gl (P_q065_k3 q1 q2) ⟨e,h,x⟩ K = d_q065_k3 C gl q1 q2 (aget e 0) (aget e 1) (aget e 2) (aget e 3) (aget e 8) h x K:=by kernel_rfl
theorem e_q065_k3 {C gl e h x K} : NW C gl p_q065_k3 ⟨e,h,x⟩ K = d_q065_k3 C gl p_q065_k1 p_q065_k2 (aget e 0) (aget e 1) (aget e 2) (aget e 3) (aget e 8) h x K:=E_q065_k3
theorem l_q065_k3 {C gl e h x K} : NW C gl (.loop p_q065_k3) ⟨e,h,x⟩ K = NLoop C gl p_q065_k3 K [(0,aget e 0),(1,aget e 1),(2,aget e 2),(3,aget e 3),(8,aget e 8)] h x:=NLoop_pr
def P_q065 (q3 : ACode) : ACode:=(.seq (rg [mV 10 1,
bN 11 .add 10 (cI 1),
mV 8 11] [0,1,2,3,8])
(.block 0 (.loop q3)))
def a_q065 : AFun:=⟨4,[],P_q065 p_q065_k3,true,false⟩
def d_q065 (C : Hd) (gl : GL) (q3 : ACode) (v0 v1 v2 v3 : AV) (h : Heap) (x : Esc) (K : KT) : Prop:=
 pK (oBin .add v1 (AI 1)) fun t1=>
 NW C gl (.loop q3) ⟨[(0,v0),(1,v1),(2,v2),(3,v3),(8,t1)],h,x⟩ (blockN 0 K)
theorem E_q065 {C gl q3 v0 v1 v2 v3 h x K} : NW C gl (P_q065 q3) ⟨enter [v0,v1,v2,v3],h,x⟩ K = d_q065 C gl q3 v0 v1 v2 v3 h x K:=by kernel_rfl
theorem e_q065 {C gl v0 v1 v2 v3 h x K} : NW C gl a_q065.body ⟨enter [v0,v1,v2,v3],h,x⟩ K = d_q065 C gl p_q065_k3 v0 v1 v2 v3 h x K:=E_q065
def p_q03b_k1 : ACode:=.pr [0,2] (.seq (rg [mV 19 2,
mV 20 0,
uO 21 (.conv (.i .u8) 20),
uO 22 (.idxs (cS [0,1,2,2,3,3,3,3,4,4,4,4,4,4,4,4,5,5,5,5,5,5,5,5,5,5,5,5,5,5,5,5,6,6,6,6,6,6,6,6,6,6,6,6,6,6,6,6,6,6,6,6,6,6,6,6,6,6,6,6,6,6,6,6,7,7,7,7,7,7,7,7,7,7,7,7,7,7,7,7,7,7,7,7,7,7,7,7,7,7,7,7,7,7,7,7,7,7,7,7,7,7,7,7,7,7,7,7,7,7,7,7,7,7,7,7,7,7,7,7,7,7,7,7,7,7,7,7,8,8,8,8,8,8,8,8,8,8,8,8,8,8,8,8,8,8,8,8,8,8,8,8,8,8,8,8,8,8,8,8,8,8,8,8,8,8,8,8,8,8,8,8,8,8,8,8,8,8,8,8,8,8,8,8,8,8,8,8,8,8,8,8,8,8,8,8,8,8,8,8,8,8,8,8,8,8,8,8,8,8,8,8,8,8,8,8,8,8,8,8,8,8,8,8,8,8,8,8,8,8,8,8,8,8,8,8,8,8,8,8,8,8,8,8,8,8,8,8,8,8,8,8,8,8,8,8]) 21),
uO 23 (.conv (.i .i64) 22),
bN 24 .add 19 23,
mV 2 24] [2])
.ret)
def d_q03b_k1 (C : Hd) (gl : GL) (v0 v2 : AV) (h : Heap) (x : Esc) (K : KT) : Prop:=
 pK (oConvI .u8 v0) fun t1=>
 pK (oIdxs (.p (.str [0,1,2,2,3,3,3,3,4,4,4,4,4,4,4,4,5,5,5,5,5,5,5,5,5,5,5,5,5,5,5,5,6,6,6,6,6,6,6,6,6,6,6,6,6,6,6,6,6,6,6,6,6,6,6,6,6,6,6,6,6,6,6,6,7,7,7,7,7,7,7,7,7,7,7,7,7,7,7,7,7,7,7,7,7,7,7,7,7,7,7,7,7,7,7,7,7,7,7,7,7,7,7,7,7,7,7,7,7,7,7,7,7,7,7,7,7,7,7,7,7,7,7,7,7,7,7,7,8,8,8,8,8,8,8,8,8,8,8,8,8,8,8,8,8,8,8,8,8,8,8,8,8,8,8,8,8,8,8,8,8,8,8,8,8,8,8,8,8,8,8,8,8,8,8,8,8,8,8,8,8,8,8,8,8,8,8,8,8,8,8,8,8,8,8,8,8,8,8,8,8,8,8,8,8,8,8,8,8,8,8,8,8,8,8,8,8,8,8,8,8,8,8,8,8,8,8,8,8,8,8,8,8,8,8,8,8,8,8,8,8,8,8,8,8,8,8,8,8,8,8,8,8,8,8,8])) t1) fun t2=>
 pK (oConvI .i64 t2) fun t3=>
 pK (oBin .add v2 t3) fun t4=>
 K .ret ⟨[(2,t4)],h,x⟩
theorem e_q03b_k1 {C gl e h x K} : NW C gl p_q03b_k1 ⟨e,h,x⟩ K = d_q03b_k1 C gl (aget e 0) (aget e 2) h x K:=by kernel_rfl
def P_q03b_k2 (q1 : ACode) : ACode:=.pr [0,2] (.seq (.seq (rg [mV 13 0,
bN 14 .geq 13 (.c (.p (.int .u64 256)))] [0,2,14])
(.cond 14 (.seq (rg [mV 15 0,
bN 16 .shr 15 (.c (.p (.int .u64 8))),
mV 0 16] [0,2])
(rg [mV 17 2,
bN 18 .add 17 (cI 8),
mV 2 18] [0,2]))
.skip))
q1)
def p_q03b_k2 : ACode:=P_q03b_k2 p_q03b_k1
def d_q03b_k2 (C : Hd) (gl : GL) (q1 : ACode) (v0 v2 : AV) (h : Heap) (x : Esc) (K : KT) : Prop:=
 pK (oBin .geq v0 (.p (.int .u64 256))) fun t1=>
 condB t1 (pK (oBin .shr v0 (.p (.int .u64 8))) fun t2=>
 pK (oBin .add v2 (AI 8)) fun t3=>
 NW C gl q1 ⟨[(0,t2),(2,t3)],h,x⟩ K)
 (NW C gl q1 ⟨[(0,v0),(2,v2),(14,t1)],h,x⟩ K)
theorem E_q03b_k2 {C gl q1 e h x K} : NW C gl (P_q03b_k2 q1) ⟨e,h,x⟩ K = d_q03b_k2 C gl q1 (aget e 0) (aget e 2) h x K:=by kernel_rfl
theorem e_q03b_k2 {C gl e h x K} : NW C gl p_q03b_k2 ⟨e,h,x⟩ K = d_q03b_k2 C gl p_q03b_k1 (aget e 0) (aget e 2) h x K:=E_q03b_k2
def P_q03b_k3 (q2 : ACode) : ACode:=.pr [0,2] (.seq (.seq (rg [mV 7 0,
bN 8 .geq 7 (.c (.p (.int .u64 65536)))] [0,2,8])
(.cond 8 (.seq (rg [mV 9 0,
bN 10 .shr 9 (.c (.p (.int .u64 16))),
mV 0 10] [0,2])
(rg [mV 11 2,
bN 12 .add 11 (cI 16),
mV 2 12] [0,2]))
.skip))
q2)
def p_q03b_k3 : ACode:=P_q03b_k3 p_q03b_k2
def d_q03b_k3 (C : Hd) (gl : GL) (q2 : ACode) (v0 v2 : AV) (h : Heap) (x : Esc) (K : KT) : Prop:=
 pK (oBin .geq v0 (.p (.int .u64 65536))) fun t1=>
 condB t1 (pK (oBin .shr v0 (.p (.int .u64 16))) fun t2=>
 pK (oBin .add v2 (AI 16)) fun t3=>
 NW C gl q2 ⟨[(0,t2),(2,t3)],h,x⟩ K)
 (NW C gl q2 ⟨[(0,v0),(2,v2),(8,t1)],h,x⟩ K)
theorem E_q03b_k3 {C gl q2 e h x K} : NW C gl (P_q03b_k3 q2) ⟨e,h,x⟩ K = d_q03b_k3 C gl q2 (aget e 0) (aget e 2) h x K:=by kernel_rfl
theorem e_q03b_k3 {C gl e h x K} : NW C gl p_q03b_k3 ⟨e,h,x⟩ K = d_q03b_k3 C gl p_q03b_k2 (aget e 0) (aget e 2) h x K:=E_q03b_k3
def P_q03b (q3 : ACode) : ACode:=(.seq (rg [mV 2 (cI 0)] [0,2])
(.seq (.seq (rg [mV 3 0,
bN 4 .geq 3 (.c (.p (.int .u64 4294967296)))] [0,2,4])
(.cond 4 (.seq (rg [mV 5 0,
bN 6 .shr 5 (.c (.p (.int .u64 32))),
mV 0 6] [0])
(rg [mV 2 (cI 32)] [0,2]))
.skip))
q3))
def a_q03b : AFun:=⟨1,[.t 2],P_q03b p_q03b_k3,false,false⟩
def d_q03b (C : Hd) (gl : GL) (q3 : ACode) (v0 : AV) (h : Heap) (x : Esc) (K : KT) : Prop:=
 pK (oBin .geq v0 (.p (.int .u64 4294967296))) fun t1=>
 condB t1 (pK (oBin .shr v0 (.p (.int .u64 32))) fun t2=>
 NW C gl q3 ⟨[(0,t2),(2,(AI 32))],h,x⟩ K)
 (NW C gl q3 ⟨[(0,v0),(2,(AI 0)),(4,t1)],h,x⟩ K)
theorem E_q03b {C gl q3 v0 h x K} : NW C gl (P_q03b q3) ⟨enter [v0],h,x⟩ K = d_q03b C gl q3 v0 h x K:=by kernel_rfl
theorem e_q03b {C gl v0 h x K} : NW C gl a_q03b.body ⟨enter [v0],h,x⟩ K = d_q03b C gl p_q03b_k3 v0 h x K:=E_q03b
def P_q01y : ACode:=(.seq (rg [mV 4 (cI 0)] [0,1])
(.seq (rg [mV 5 0,
mV 6 1,
cL 7 f_internal_bytealg_IndexByteString [5,6],
mV 4 7] [4])
.ret))
def a_q01y : AFun:=⟨2,[.t 4],P_q01y,false,false⟩
def d_q01y (C : Hd) (gl : GL) (v0 v1 : AV) (h : Heap) (x : Esc) (K : KT) : Prop:=
 C f_internal_bytealg_IndexByteString [v0,v1] h fun t1 h2 y3=>
 K .ret ⟨[(4,t1)],h2,(y3 ++ x)⟩
theorem e_q01y {C gl v0 v1 h x K} : NW C gl a_q01y.body ⟨enter [v0,v1],h,x⟩ K = d_q01y C gl v0 v1 h x K:=by kernel_rfl
def p_q067_k1 : ACode:=.pr [0,1,2,6,7] (.seq (.seq (dr [dF (mV 16 7) [7],
dF (mV 17 1) [1],
dF (bN 18 .gtr 16 17) [16,17],
dF (mV 19 18) [18],
dF (gD 20 19 true (.mv 0)) [0,19],
dF (gD 21 19 true (.mv 7)) [7,19],
dF (gD 22 19 true (.iaddr none 20 21)) [20,21,19],
dF (gD 23 19 true (.load none 22)) [22,19],
dF (gD 24 19 true (.mv 0)) [0,19],
dF (gD 25 19 true (.mv 7)) [7,19],
dF (gD 26 19 true (.bin .sub 25 (cI 1))) [25,19],
dF (gD 27 19 true (.iaddr none 24 26)) [24,26,19],
dF (gD 28 19 true (.load none 27)) [27,19],
dT (gD 29 19 true (.call f_q00t [23,28])) [23,28,19],
dF (uO 30 (.pick 19 29 cF)) [19,29]] [0,1,2,6,7,30])
(.cond 30 .skip
(.exit 2)))
(.seq (.block 3 (dr [dF (mV 33 0) [0],
dF (mV 34 7) [7],
dF (mV 35 0) [0],
dF (mV 36 7) [7],
dF (bN 37 .sub 36 (cI 1)) [36],
dF (mV 38 0) [0],
dF (mV 39 7) [7],
dF (bN 40 .sub 39 (cI 1)) [39],
dF (iA 41 none 38 40) [38,40],
dF (lD 42 none 41) [41],
dF (mV 43 0) [0],
dF (mV 44 7) [7],
dF (iA 45 none 43 44) [43,44],
dF (lD 46 none 45) [45],
dF (iA 47 none 33 34) [33,34],
dT (wO (.store none 47 42)) [47,42],
dF (iA 48 none 35 37) [35,37],
dT (wO (.store none 48 46)) [48,46]] [0,1,2,6,7]))
(rg [mV 31 7,
bN 32 .sub 31 (cI 1),
mV 7 32] [0,1,2,6,7])))
def d_q067_k1 (C : Hd) (gl : GL) (v0 v1 v2 v6 v7 : AV) (h : Heap) (x : Esc) (K : KT) : Prop:=
 pK (oBin .gtr v7 v1) fun t1=>
 gM t1 true v0 h fun t2 h3 y4=>
 gM t1 true v7 h3 fun t5 h6 y7=>
 gP t1 true (oIaddr none t2 t5 h6) h6 fun t8 h9 y10=>
 gP t1 true (oLoad none t8 h9) h9 fun t11 h12 y13=>
 gM t1 true v0 h12 fun t14 h15 y16=>
 gM t1 true v7 h15 fun t17 h18 y19=>
 gP t1 true (oBin .sub t17 (AI 1)) h18 fun t20 h21 y22=>
 gP t1 true (oIaddr none t14 t20 h21) h21 fun t23 h24 y25=>
 gP t1 true (oLoad none t23 h24) h24 fun t26 h27 y28=>
 gV t1 true h27 (callE C f_q00t [t11,t26] h27) fun t29 h30 y31=>
 pK (oPick t1 t29 (AB false)) fun t32=>
 condB t32 (pK (oBin .sub v7 (AI 1)) fun t33=>
 pK (oBin .sub v7 (AI 1)) fun t34=>
 pK (oIaddr none v0 t34 h30) fun t35=>
 pK (oLoad none t35 h30) fun t36=>
 pK (oIaddr none v0 v7 h30) fun t37=>
 pK (oLoad none t37 h30) fun t38=>
 pK (oIaddr none v0 v7 h30) fun t39=>
 wK (oStore none t39 t36 h30) fun t40 h41 y42=>
 pK (oIaddr none v0 t33 h41) fun t43=>
 wK (oStore none t43 t38 h41) fun t44 h45 y46=>
 pK (oBin .sub v7 (AI 1)) fun t47=>
 K .normal ⟨[(0,v0),(1,v1),(2,v2),(6,v6),(7,t47)],h45,(y46 ++ (y42 ++ (y31 ++ (y28 ++ (y25 ++ (y22 ++ (y19 ++ (y16 ++ (y13 ++ (y10 ++ (y7 ++ (y4 ++ x))))))))))))⟩)
 (K (.exit 2) ⟨[(0,v0),(1,v1),(2,v2),(6,v6),(7,v7),(30,t32)],h30,(y31 ++ (y28 ++ (y25 ++ (y22 ++ (y19 ++ (y16 ++ (y13 ++ (y10 ++ (y7 ++ (y4 ++ x))))))))))⟩)
theorem e_q067_k1 {C gl e h x K} : NW C gl p_q067_k1 ⟨e,h,x⟩ K = d_q067_k1 C gl (aget e 0) (aget e 1) (aget e 2) (aget e 6) (aget e 7) h x K:=by kernel_rfl
theorem l_q067_k1 {C gl e h x K} : NW C gl (.loop p_q067_k1) ⟨e,h,x⟩ K = NLoop C gl p_q067_k1 K [(0,aget e 0),(1,aget e 1),(2,aget e 2),(6,aget e 6),(7,aget e 7)] h x:=NLoop_pr
def p_q067_k2 : ACode:=.pr [0,1,2,6] (rg [mV 13 6,
bN 14 .add 13 (cI 1),
mV 6 14] [0,1,2,6])
def d_q067_k2 (C : Hd) (gl : GL) (v0 v1 v2 v6 : AV) (h : Heap) (x : Esc) (K : KT) : Prop:=
 pK (oBin .add v6 (AI 1)) fun t1=>
 K .normal ⟨[(0,v0),(1,v1),(2,v2),(6,t1)],h,x⟩
theorem e_q067_k2 {C gl e h x K} : NW C gl p_q067_k2 ⟨e,h,x⟩ K = d_q067_k2 C gl (aget e 0) (aget e 1) (aget e 2) (aget e 6) h x K:=by kernel_rfl
def P_q067_k3 (q1 q2 : ACode) : ACode:=.pr [0,1,2,6] (.seq (.seq (rg [mV 10 6,
mV 11 2,
bN 12 .lss 10 11] [0,1,2,6,12])
(.cond 12 .skip
(.exit 0)))
(.seq (.block 1 (.seq (rg [mV 15 6,
mV 7 15] [0,1,2,6,7])
(.block 2 (.loop q1))))
q2))
def p_q067_k3 : ACode:=P_q067_k3 p_q067_k1 p_q067_k2
def d_q067_k3 (C : Hd) (gl : GL) (q1 q2 : ACode) (v0 v1 v2 v6 : AV) (h : Heap) (x : Esc) (K : KT) : Prop:=
 pK (oBin .lss v6 v2) fun t1=>
 condB t1 (NW C gl (.loop q1) ⟨[(0,v0),(1,v1),(2,v2),(6,v6),(7,v6)],h,x⟩ (blockN 2 (blockN 1 (seqN C gl q2 K))))
 (K (.exit 0) ⟨[(0,v0),(1,v1),(2,v2),(6,v6),(12,t1)],h,x⟩)
theorem E_q067_k3 {C gl q1 q2 e h x K} : NW C gl (P_q067_k3 q1 q2) ⟨e,h,x⟩ K = d_q067_k3 C gl q1 q2 (aget e 0) (aget e 1) (aget e 2) (aget e 6) h x K:=by kernel_rfl
theorem e_q067_k3 {C gl e h x K} : NW C gl p_q067_k3 ⟨e,h,x⟩ K = d_q067_k3 C gl p_q067_k1 p_q067_k2 (aget e 0) (aget e 1) (aget e 2) (aget e 6) h x K:=E_q067_k3
theorem l_q067_k3 {C gl e h x K} : NW C gl (.loop p_q067_k3) ⟨e,h,x⟩ K = NLoop C gl p_q067_k3 K [(0,aget e 0),(1,aget e 1),(2,aget e 2),(6,aget e 6)] h x:=NLoop_pr
def P_q067 (q3 : ACode) : ACode:=(.seq (rg [mV 8 1,
bN 9 .add 8 (cI 1),
mV 6 9] [0,1,2,6])
(.block 0 (.loop q3)))
def a_q067 : AFun:=⟨3,[],P_q067 p_q067_k3,true,false⟩
def d_q067 (C : Hd) (gl : GL) (q3 : ACode) (v0 v1 v2 : AV) (h : Heap) (x : Esc) (K : KT) : Prop:=
 pK (oBin .add v1 (AI 1)) fun t1=>
 NW C gl (.loop q3) ⟨[(0,v0),(1,v1),(2,v2),(6,t1)],h,x⟩ (blockN 0 K)
theorem E_q067 {C gl q3 v0 v1 v2 h x K} : NW C gl (P_q067 q3) ⟨enter [v0,v1,v2],h,x⟩ K = d_q067 C gl q3 v0 v1 v2 h x K:=by kernel_rfl
theorem e_q067 {C gl v0 v1 v2 h x K} : NW C gl a_q067.body ⟨enter [v0,v1,v2],h,x⟩ K = d_q067 C gl p_q067_k3 v0 v1 v2 h x K:=E_q067
def P_q00t : ACode:=(.seq (rg [mV 4 cF] [0,1])
(.seq (rg [mV 5 0,
cL 6 f_q00w [5],
mV 7 6,
gD 8 7 true (.mv 1),
gD 9 7 true (.call f_q00w [8]),
gD 10 7 true (.un .not 9),
uO 11 (.pick 7 10 cF),
mV 12 11,
gD 13 12 false (.mv 0),
gD 14 12 false (.mv 1),
gD 15 12 false (.bin .lss 13 14),
uO 16 (.pick 12 cT 15),
mV 4 16] [4])
.ret))
def a_q00t : AFun:=⟨2,[.t 4],P_q00t,false,false⟩
def d_q00t (C : Hd) (gl : GL) (v0 v1 : AV) (h : Heap) (x : Esc) (K : KT) : Prop:=
 C f_q00w [v0] h fun t1 h2 y3=>
 gM t1 true v1 h2 fun t4 h5 y6=>
 gV t1 true h5 (C f_q00w [t4] h5) fun t7 h8 y9=>
 gP t1 true (oUn .not t7) h8 fun t10 h11 y12=>
 pK (oPick t1 t10 (AB false)) fun t13=>
 gM t13 false v0 h11 fun t14 h15 y16=>
 gM t13 false v1 h15 fun t17 h18 y19=>
 gP t13 false (oBin .lss t14 t17) h18 fun t20 h21 y22=>
 pK (oPick t13 (AB true) t20) fun t23=>
 K .ret ⟨[(4,t23)],h21,(y22 ++ (y19 ++ (y16 ++ (y12 ++ (y9 ++ (y6 ++ (y3 ++ x)))))))⟩
theorem e_q00t {C gl v0 v1 h x K} : NW C gl a_q00t.body ⟨enter [v0,v1],h,x⟩ K = d_q00t C gl v0 v1 h x K:=by kernel_rfl
def P_q007 : ACode:=(.seq (rg [mV 2 cF] [0])
(.seq (rg [mV 3 0,
cL 4 f_q008 [3,(cI 0),(cI 345686399999)],
uO 5 (.un .not 4),
mV 2 5] [2])
.ret))
def a_q007 : AFun:=⟨1,[.t 2],P_q007,false,false⟩
def d_q007 (C : Hd) (gl : GL) (v0 : AV) (h : Heap) (x : Esc) (K : KT) : Prop:=
 C f_q008 [v0,(AI 0),(AI 345686399999)] h fun t1 h2 y3=>
 pK (oUn .not t1) fun t4=>
 K .ret ⟨[(2,t4)],h2,(y3 ++ x)⟩
theorem e_q007 {C gl v0 h x K} : NW C gl a_q007.body ⟨enter [v0],h,x⟩ K = d_q007 C gl v0 h x K:=by kernel_rfl
def P_q082 : ACode:=(.seq (rg [mV 4 (cI 0)] [0,1])
(.seq (rg [mV 5 0,
mV 6 1,
cL 7 f_q01y [5,6],
mV 4 7] [4])
.ret))
def a_q082 : AFun:=⟨2,[.t 4],P_q082,false,false⟩
def d_q082 (C : Hd) (gl : GL) (v0 v1 : AV) (h : Heap) (x : Esc) (K : KT) : Prop:=
 C f_q01y [v0,v1] h fun t1 h2 y3=>
 K .ret ⟨[(4,t1)],h2,(y3 ++ x)⟩
theorem e_q082 {C gl v0 v1 h x K} : NW C gl a_q082.body ⟨enter [v0,v1],h,x⟩ K = d_q082 C gl v0 v1 h x K:=by kernel_rfl
end Go.Am
end
