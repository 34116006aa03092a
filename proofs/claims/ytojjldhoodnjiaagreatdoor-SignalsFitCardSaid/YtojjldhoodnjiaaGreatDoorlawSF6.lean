/- Texts of the proof, laid together: CodesB, CodesC. -/
import Derived.KernelRfl
import Derived.Test.YtojjldhoodnjiaaGreatDoorlawSF5
set_option linter.all false
section
/- The functions asv abstract code,and asv formulas over their values: printed by program out of the translation. -/
set_option linter.unusedVariables false
set_option maxRecDepth 100000
namespace Go.Am
def z7Q : ACode:=.pr [0,2,3,30] (.cond 30 (.seq (rg [mV 33 0,
mV 34 0,
uO 35 (.bsl false none 5 (.int .i64 0) [(0,(cI 1)),(1,(cI 2)),(2,(cI 3)),(3,(cI 5)),(4,(cI 8))]),
cL 36 z1s [34,35],
cL 37 z3A [33,36],
fA 38 3 none 3,
wO (.store none 38 37)] [0,2,3])
(.seq (rg [mV 39 0,
cL 40 z2q [39,(cI 2)]] [0,2,3,40])
(.cond 40 (dr [dF (mV 41 0) [0],
dF (fA 42 3 none 3) [3],
dF (lD 43 none 42) [42],
dF (uO 44 (.lens 43)) [43],
dT (cL 45 z3A [41,44]) [41,44],
dF (mV 46 0) [0],
dF (fA 47 3 none 3) [3],
dA (lD 48 none 47) [47] false [4] [],
dF (uO 49 (.lens 48)) [48],
dT (cL 50 z3A [46,49]) [46,49],
dF (fA 51 4 none 3) [3],
dT (wO (.store none 51 45)) [51,45],
dF (fA 52 5 none 3) [3],
dT (wO (.store none 52 50)) [52,50]] [0,2,3])
.skip)))
(rg [mV 10 0,
mV 11 0,
uO 12 (.bsl false none 5 (.int .i64 0) [(0,(cI 0)),(1,(cI 0)),(2,(cI 1)),(3,(cI 2)),(4,(cI 3))]),
cL 13 z1s [11,12],
cL 14 z3A [10,13],
fA 15 3 none 3,
wO (.store none 15 14)] [0,2,3]))
def zbm (C : Hd) (gl : GL) (v0 v2 v3 v30 : AV) (h : Heap) (x : Esc) (K : KT) : Prop:=
 z0m v30 (wK (oBsl false none 5 (.int .i64 0) [(0,(AI 1)),(1,(AI 2)),(2,(AI 3)),(3,(AI 5)),(4,(AI 8))] h) fun t1 h2 y3=>
 C z1s [v0,t1] h2 fun t4 h5 y6=>
 C z3A [v0,t4] h5 fun t7 h8 y9=>
 pK (z0e 3 none v3) fun t10=>
 wK (z0n none t10 t7 h8) fun t11 h12 y13=>
 C z2q [v0,(AI 2)] h12 fun t14 h15 y16=>
 z0m t14 (pK (z0e 3 none v3) fun t17=>
 pK (z0g none t17 h15) fun t18=>
 pK (z1a t18) fun t19=>
 z1L C z3A [v0,t19] h15 fun t20 h21 y22=>
 pK (z0e 3 none v3) fun t23=>
 pK (z0g none t23 h21) fun t24=>
 (pK (z0g none t23 h15) fun v=>(fun u (g1 : Heap) (y1 : Esc)=>u = t24 ∧ g1 = h15 ∧ y1 = []) v h15 []) ∧ (pK (z1a t24) fun t25=>
 z1L C z3A [v0,t25] h21 fun t26 h27 y28=>
 pK (z0e 4 none v3) fun t29=>
 wK (z0n none t29 t20 h27) fun t30 h31 y32=>
 pK (z0e 5 none v3) fun t33=>
 wK (z0n none t33 t26 h31) fun t34 h35 y36=>
 K .normal ⟨[(0,v0),(2,v2),(3,v3)],h35,(y36 ++ (y32 ++ (y28 ++ (y22 ++ (y16 ++ (y13 ++ (y9 ++ (y6 ++ (y3 ++ x)))))))))⟩))
 (K .normal ⟨[(0,v0),(2,v2),(3,v3),(40,t14)],h15,(y16 ++ (y13 ++ (y9 ++ (y6 ++ (y3 ++ x)))))⟩))
 (wK (oBsl false none 5 (.int .i64 0) [(0,(AI 0)),(1,(AI 0)),(2,(AI 1)),(3,(AI 2)),(4,(AI 3))] h) fun t37 h38 y39=>
 C z1s [v0,t37] h38 fun t40 h41 y42=>
 C z3A [v0,t40] h41 fun t43 h44 y45=>
 pK (z0e 3 none v3) fun t46=>
 wK (z0n none t46 t43 h44) fun t47 h48 y49=>
 K .normal ⟨[(0,v0),(2,v2),(3,v3)],h48,(y49 ++ (y45 ++ (y42 ++ (y39 ++ x))))⟩)
theorem zjY {C gl e h x K} : NW C gl z7Q ⟨e,h,x⟩ K = zbm C gl (aget e 0) (aget e 2) (aget e 3) (aget e 30) h x K:=by kernel_rfl
def zaA (q1 : ACode) : ACode:=.pr [0,2,3,9,16] (.cond 16 (rg [mV 20 0,
uO 21 (.bsl false none 5 (.int .i64 0) [(0,(cI 0)),(1,(cI 1)),(2,(cI 1)),(3,(cI 6)),(4,(cI 13))]),
cL 22 z1s [20,21],
fA 23 1 none 3,
wO (.store none 23 22)] [0,2,3])
(.seq (rg [bN 25 .eql 9 (cI 9),
mV 24 25] [0,2,3,9,24])
(.cond 24 (rg [mV 26 0,
uO 27 (.bsl false none 4 (.int .i64 0) [(0,(cI 0)),(1,(cI 0)),(2,(cI 1)),(3,(cI 3))]),
cL 28 z1s [26,27],
fA 29 2 none 3,
wO (.store none 29 28)] [0,2,3])
(.seq (.seq (rg [bN 31 .eql 9 (cI 7),
mV 30 31] [0,2,3,9,30])
(.cond 30 .skip
(rg [bN 32 .eql 9 (cI 8),
mV 30 32] [0,2,3,30])))
q1))))
def z5u : ACode:=zaA z7Q
def z7k (C : Hd) (gl : GL) (q1 : ACode) (v0 v2 v3 v9 v16 : AV) (h : Heap) (x : Esc) (K : KT) : Prop:=
 z0m v16 (wK (oBsl false none 5 (.int .i64 0) [(0,(AI 0)),(1,(AI 1)),(2,(AI 1)),(3,(AI 6)),(4,(AI 13))] h) fun t1 h2 y3=>
 C z1s [v0,t1] h2 fun t4 h5 y6=>
 pK (z0e 1 none v3) fun t7=>
 wK (z0n none t7 t4 h5) fun t8 h9 y10=>
 K .normal ⟨[(0,v0),(2,v2),(3,v3)],h9,(y10 ++ (y6 ++ (y3 ++ x)))⟩)
 (pK (oBin .eql v9 (AI 9)) fun t11=>
 z0m t11 (wK (oBsl false none 4 (.int .i64 0) [(0,(AI 0)),(1,(AI 0)),(2,(AI 1)),(3,(AI 3))] h) fun t12 h13 y14=>
 C z1s [v0,t12] h13 fun t15 h16 y17=>
 pK (z0e 2 none v3) fun t18=>
 wK (z0n none t18 t15 h16) fun t19 h20 y21=>
 K .normal ⟨[(0,v0),(2,v2),(3,v3)],h20,(y21 ++ (y17 ++ (y14 ++ x)))⟩)
 (pK (oBin .eql v9 (AI 7)) fun t22=>
 z0m t22 (NW C gl q1 ⟨[(0,v0),(2,v2),(3,v3),(9,v9),(30,t22)],h,x⟩ K)
 (pK (oBin .eql v9 (AI 8)) fun t23=>
 NW C gl q1 ⟨[(0,v0),(2,v2),(3,v3),(30,t23)],h,x⟩ K)))
theorem zhB {C gl q1 e h x K} : NW C gl (zaA q1) ⟨e,h,x⟩ K = z7k C gl q1 (aget e 0) (aget e 2) (aget e 3) (aget e 9) (aget e 16) h x K:=by kernel_rfl
theorem zjZ {C gl e h x K} : NW C gl z5u ⟨e,h,x⟩ K = z7k C gl z7Q (aget e 0) (aget e 2) (aget e 3) (aget e 9) (aget e 16) h x K:=zhB
def z3V : ACode:=.pr [2,3] (.seq (rg [lD 99 (some 6) 3,
wO (.store (some 6) 2 99)] [2])
.ret)
def zbn (C : Hd) (gl : GL) (v2 v3 : AV) (h : Heap) (x : Esc) (K : KT) : Prop:=
 pK (z0g (some 6) v3 h) fun t1=>
 wK (z0n (some 6) v2 t1 h) fun t2 h3 y4=>
 K .ret ⟨[(2,v2)],h3,(y4 ++ x)⟩
theorem zka {C gl e h x K} : NW C gl z3V ⟨e,h,x⟩ K = zbn C gl (aget e 2) (aget e 3) h x K:=by kernel_rfl
def zaB (q3 : ACode) : ACode:=.pr [0,2,3] (.seq (.seq (rg [mV 53 0,
cL 54 z2q [53,(cI 60)]] [0,2,3,54])
(.cond 54 (.seq (rg [mV 55 0,
cL 56 z1Y [55,(cI 4)]] [0,2,3,56])
(.block 1 (.seq (rg [bN 71 .eql 56 (cI 0),
mV 70 71] [0,2,3,56,70])
(.cond 70 (rg [mV 72 0,
cL 73 z61 [72,(cI 1),(cI 10)],
fA 74 0 none 3,
wO (.store none 74 73)] [2,3])
(.seq (rg [bN 76 .eql 56 (cI 1),
mV 75 76] [0,2,3,56,75])
(.cond 75 (rg [mV 77 0,
cL 78 z61 [77,(cI 0),(cI 15)],
mV 79 0,
uO 80 (.bsl false none 5 (.int .i64 0) [(0,(cI 0)),(1,(cI 1)),(2,(cI (-1))),(3,(cI 20000)),(4,(cI 20001))]),
cL 81 z1s [79,80],
fA 82 1 none 3,
wO (.store none 82 78),
fA 83 2 none 3,
wO (.store none 83 81)] [2,3])
(.seq (rg [bN 85 .eql 56 (cI 2),
mV 84 85] [0,2,3,84])
(.cond 84 (dr [dF (fA 86 3 none 3) [3],
dF (lD 87 none 86) [86],
dF (mV 88 0) [0],
dF (fA 89 3 none 3) [3],
dF (lD 90 none 89) [89],
dF (uO 91 (.lens 90)) [90],
dF (bN 92 .sub (cI 2000) 91) [91],
dA (cL 93 z1h [(cS [48]),92]) [92] true [] [1],
dA (cL 94 z1h [(cS [48]),(cI 2001)]) [] true [] [1],
dF (uO 95 (.bsl false none 4 (.str []) [(0,(cS [120])),(1,(cS [])),(2,93),(3,94)])) [93,94],
dA (cL 96 z2r [88,95]) [88,95] true [] [1],
dF (bN 97 .add 87 96) [87,96],
dF (fA 98 3 none 3) [3],
dT (wO (.store none 98 97)) [98,97]] [2,3])
(dr [dF (mV 57 0) [0],
dF (fA 58 4 none 3) [3],
dF (lD 59 none 58) [58],
dF (bN 60 .add 59 (cS [49])) [59],
dF (uO 61 (.bsl false none 3 (.str []) [(0,(cS [])),(1,(cS [48])),(2,60)])) [60],
dT (cL 62 z2r [57,61]) [57,61],
dF (mV 63 0) [0],
dF (fA 64 5 none 3) [3],
dA (lD 65 none 64) [64] false [5] [],
dA (uO 66 (.bsl false none 4 (.str []) [(0,(cS [])),(1,(cS [49])),(2,(cS [120])),(3,65)])) [65] false [5] [],
dT (cL 67 z2r [63,66]) [63,66],
dF (fA 68 4 none 3) [3],
dT (wO (.store none 68 62)) [68,62],
dF (fA 69 5 none 3) [3],
dT (wO (.store none 69 67)) [69,67]] [2,3])))))))))
.skip))
q3)
def z5v : ACode:=zaB z3V
def z1q (C : Hd) (gl : GL) (q3 : ACode) (v0 v2 v3 : AV) (h : Heap) (x : Esc) (K : KT) : Prop:=
 C z2q [v0,(AI 60)] h fun t1 h2 y3=>
 z0m t1 (C z1Y [v0,(AI 4)] h2 fun t4 h5 y6=>
 pK (oBin .eql t4 (AI 0)) fun t7=>
 z0m t7 (C z61 [v0,(AI 1),(AI 10)] h5 fun t8 h9 y10=>
 pK (z0e 0 none v3) fun t11=>
 wK (z0n none t11 t8 h9) fun t12 h13 y14=>
 NW C gl q3 ⟨[(2,v2),(3,v3)],h13,(y14 ++ (y10 ++ (y6 ++ (y3 ++ x))))⟩ K)
 (pK (oBin .eql t4 (AI 1)) fun t15=>
 z0m t15 (C z61 [v0,(AI 0),(AI 15)] h5 fun t16 h17 y18=>
 wK (oBsl false none 5 (.int .i64 0) [(0,(AI 0)),(1,(AI 1)),(2,(AI (-1))),(3,(AI 20000)),(4,(AI 20001))] h17) fun t19 h20 y21=>
 C z1s [v0,t19] h20 fun t22 h23 y24=>
 pK (z0e 1 none v3) fun t25=>
 wK (z0n none t25 t16 h23) fun t26 h27 y28=>
 pK (z0e 2 none v3) fun t29=>
 wK (z0n none t29 t22 h27) fun t30 h31 y32=>
 NW C gl q3 ⟨[(2,v2),(3,v3)],h31,(y32 ++ (y28 ++ (y24 ++ (y21 ++ (y18 ++ (y6 ++ (y3 ++ x)))))))⟩ K)
 (pK (oBin .eql t4 (AI 2)) fun t33=>
 z0m t33 (pK (z0e 3 none v3) fun t34=>
 pK (z0g none t34 h5) fun t35=>
 pK (z0e 3 none v3) fun t36=>
 pK (z0g none t36 h5) fun t37=>
 pK (z1a t37) fun t38=>
 pK (oBin .sub (AI 2000) t38) fun t39=>
 z1L C z1h [(.p (.str [48])),t39] h5 fun t40 h41 y42=>
 (pK (z0g none t34 h41) fun v=>(fun u (g1 : Heap) (y1 : Esc)=>u = t35 ∧ g1 = h41 ∧ y1 = []) v h41 []) ∧ (z1L C z1h [(.p (.str [48])),(AI 2001)] h41 fun t43 h44 y45=>
 (pK (z0g none t34 h44) fun v=>(fun u (g1 : Heap) (y1 : Esc)=>u = t35 ∧ g1 = h44 ∧ y1 = []) v h44 []) ∧ (wK (oBsl false none 4 (.str []) [(0,(.p (.str [120]))),(1,(.p (.str []))),(2,t40),(3,t43)] h44) fun t46 h47 y48=>
 (h47 = h44 ∧ y48 = []) ∧ (z1L C z2r [v0,t46] h47 fun t49 h50 y51=>
 (pK (z0g none t34 h50) fun v=>(fun u (g1 : Heap) (y1 : Esc)=>u = t35 ∧ g1 = h50 ∧ y1 = []) v h50 []) ∧ (pK (oBin .add t35 t49) fun t52=>
 pK (z0e 3 none v3) fun t53=>
 wK (z0n none t53 t52 h50) fun t54 h55 y56=>
 NW C gl q3 ⟨[(2,v2),(3,v3)],h55,(y56 ++ (y51 ++ (y48 ++ (y45 ++ (y42 ++ (y6 ++ (y3 ++ x)))))))⟩ K)))))
 (pK (z0e 4 none v3) fun t57=>
 pK (z0g none t57 h5) fun t58=>
 pK (oBin .add t58 (.p (.str [49]))) fun t59=>
 wK (oBsl false none 3 (.str []) [(0,(.p (.str []))),(1,(.p (.str [48]))),(2,t59)] h5) fun t60 h61 y62=>
 (h61 = h5 ∧ y62 = []) ∧ (z1L C z2r [v0,t60] h61 fun t63 h64 y65=>
 pK (z0e 5 none v3) fun t66=>
 pK (z0g none t66 h64) fun t67=>
 (pK (z0g none t66 h61) fun v=>(fun u (g1 : Heap) (y1 : Esc)=>u = t67 ∧ g1 = h61 ∧ y1 = []) v h61 []) ∧ (wK (oBsl false none 4 (.str []) [(0,(.p (.str []))),(1,(.p (.str [49]))),(2,(.p (.str [120]))),(3,t67)] h64) fun t68 h69 y70=>
 (h69 = h64 ∧ y70 = []) ∧ ((wK (oBsl false none 4 (.str []) [(0,(.p (.str []))),(1,(.p (.str [49]))),(2,(.p (.str [120]))),(3,t67)] h61) (fun u (g1 : Heap) (y1 : Esc)=>u = t68 ∧ g1 = h61 ∧ y1 = [])) ∧ (z1L C z2r [v0,t68] h69 fun t71 h72 y73=>
 pK (z0e 4 none v3) fun t74=>
 wK (z0n none t74 t63 h72) fun t75 h76 y77=>
 pK (z0e 5 none v3) fun t78=>
 wK (z0n none t78 t71 h76) fun t79 h80 y81=>
 NW C gl q3 ⟨[(2,v2),(3,v3)],h80,(y81 ++ (y77 ++ (y73 ++ (y70 ++ (y65 ++ (y62 ++ (y6 ++ (y3 ++ x))))))))⟩ K))))))))
 (NW C gl q3 ⟨[(0,v0),(2,v2),(3,v3),(54,t1)],h2,(y3 ++ x)⟩ K)
theorem zhC {C gl q3 e h x K} : NW C gl (zaB q3) ⟨e,h,x⟩ K = z1q C gl q3 (aget e 0) (aget e 2) (aget e 3) h x K:=by kernel_rfl
theorem zkb {C gl e h x K} : NW C gl z5v ⟨e,h,x⟩ K = z1q C gl z3V (aget e 0) (aget e 2) (aget e 3) h x K:=zhC
def zrQ (q2 q4 : ACode) : ACode:=(.seq (rg [uO 2 (.alloc [.p (.int .i64 0),.p (.int .i64 0),.p (.int .i64 0),.p (.str []),.p (.str []),.p (.str [])])] [0,2])
(.seq (rg [mV 4 0,
uO 5 (.bsl false none 13 (.int .i64 0) [(0,(cI 7)),(1,(cI 7)),(2,(cI 8)),(3,(cI 8)),(4,(cI 8)),(5,(cI 1)),(6,(cI 2)),(7,(cI 3)),(8,(cI 4)),(9,(cI 5)),(10,(cI 6)),(11,(cI 9)),(12,(cI 10))]),
cL 6 z1s [4,5],
uO 7 (.build [.p (.int .i64 0),.p (.int .i64 0),.p (.int .i64 0),.p (.str []),.p (.str []),.p (.str [])] [(0,1,6)]),
uO 3 (.alloc [.p (.int .i64 0),.p (.int .i64 0),.p (.int .i64 0),.p (.str []),.p (.str []),.p (.str [])]),
wO (.store (some 6) 3 7)] [0,2,3])
(.seq (.seq (rg [fA 8 0 none 3,
lD 9 none 8] [0,2,3,9])
(.block 0 (.seq (.seq (rg [bN 17 .eql 9 (cI 1),
mV 16 17] [0,2,3,9,16])
(.cond 16 .skip
(.seq (rg [bN 18 .eql 9 (cI 2),
mV 16 18] [0,2,3,9,16])
(.cond 16 .skip
(rg [bN 19 .eql 9 (cI 10),
mV 16 19] [0,2,3,9,16])))))
q2)))
q4)))
def zis : AFun:=⟨1,[.cell 2 (some 6)],zrQ z5u z5v,false,false⟩
def z39 (C : Hd) (gl : GL) (q2 q4 : ACode) (v0 : AV) (h : Heap) (x : Esc) (K : KT) : Prop:=
 alK [.p (.int .i64 0),.p (.int .i64 0),.p (.int .i64 0),.p (.str []),.p (.str []),.p (.str [])] h fun t1 h2 y3=>
 wK (oBsl false none 13 (.int .i64 0) [(0,(AI 7)),(1,(AI 7)),(2,(AI 8)),(3,(AI 8)),(4,(AI 8)),(5,(AI 1)),(6,(AI 2)),(7,(AI 3)),(8,(AI 4)),(9,(AI 5)),(10,(AI 6)),(11,(AI 9)),(12,(AI 10))] h2) fun t4 h5 y6=>
 C z1s [v0,t4] h5 fun t7 h8 y9=>
 pK (z02 [.p (.int .i64 0),.p (.int .i64 0),.p (.int .i64 0),.p (.str []),.p (.str []),.p (.str [])] [(0,1,t7)]) fun t10=>
 alK [.p (.int .i64 0),.p (.int .i64 0),.p (.int .i64 0),.p (.str []),.p (.str []),.p (.str [])] h8 fun t11 h12 y13=>
 wK (z0n (some 6) t11 t10 h12) fun t14 h15 y16=>
 pK (z0e 0 none t11) fun t17=>
 pK (z0g none t17 h15) fun t18=>
 pK (oBin .eql t18 (AI 1)) fun t19=>
 z0m t19 (NW C gl q2 ⟨[(0,v0),(2,t1),(3,t11),(9,t18),(16,t19)],h15,(y16 ++ (y13 ++ (y9 ++ (y6 ++ (y3 ++ x)))))⟩ (z05 0 (seqN C gl q4 K)))
 (pK (oBin .eql t18 (AI 2)) fun t20=>
 z0m t20 (NW C gl q2 ⟨[(0,v0),(2,t1),(3,t11),(9,t18),(16,t20)],h15,(y16 ++ (y13 ++ (y9 ++ (y6 ++ (y3 ++ x)))))⟩ (z05 0 (seqN C gl q4 K)))
 (pK (oBin .eql t18 (AI 10)) fun t21=>
 NW C gl q2 ⟨[(0,v0),(2,t1),(3,t11),(9,t18),(16,t21)],h15,(y16 ++ (y13 ++ (y9 ++ (y6 ++ (y3 ++ x)))))⟩ (z05 0 (seqN C gl q4 K))))
theorem E_q02m {C gl q2 q4 v0 h x K} : NW C gl (zrQ q2 q4) ⟨enter [v0],h,x⟩ K = z39 C gl q2 q4 v0 h x K:=by kernel_rfl
theorem e_q02m {C gl v0 h x K} : NW C gl zis.body ⟨enter [v0],h,x⟩ K = z39 C gl z5u z5v v0 h x K:=E_q02m
def P_q02q : ACode:=(.seq (rg [mV 4 cF] [0,1])
(.seq (rg [mV 5 0,
mV 6 1,
cL 7 z1Y [5,6],
bN 8 .eql 7 (cI 0),
mV 4 8] [4])
.ret))
def ziu : AFun:=⟨2,[.t 4],P_q02q,false,false⟩
def zj2 (C : Hd) (gl : GL) (v0 v1 : AV) (h : Heap) (x : Esc) (K : KT) : Prop:=
 C z1Y [v0,v1] h fun t1 h2 y3=>
 pK (oBin .eql t1 (AI 0)) fun t4=>
 K .ret ⟨[(4,t4)],h2,(y3 ++ x)⟩
theorem e_q02q {C gl v0 v1 h x K} : NW C gl ziu.body ⟨enter [v0,v1],h,x⟩ K = zj2 C gl v0 v1 h x K:=by kernel_rfl
def P_q02t : ACode:=(.seq (rg [mV 4 (cI 0)] [0,1])
(.seq (rg [mV 5 1,
mV 6 0,
mV 7 1,
lN 8 7,
cL 9 z1Y [6,8],
iA 10 none 5 9,
lD 11 none 10,
mV 4 11] [4])
.ret))
def zix : AFun:=⟨2,[.t 4],P_q02t,false,false⟩
def zj3 (C : Hd) (gl : GL) (v0 v1 : AV) (h : Heap) (x : Esc) (K : KT) : Prop:=
 pK (oLen v1) fun t1=>
 C z1Y [v0,t1] h fun t2 h3 y4=>
 pK (z0N none v1 t2 h3) fun t5=>
 pK (z0g none t5 h3) fun t6=>
 K .ret ⟨[(4,t6)],h3,(y4 ++ x)⟩
theorem e_q02t {C gl v0 v1 h x K} : NW C gl zix.body ⟨enter [v0,v1],h,x⟩ K = zj3 C gl v0 v1 h x K:=by kernel_rfl
def P_q04y : ACode:=(.seq (rg [mV 4 (cI 0),
mV 5 (.c (.nili))] [0,1])
(.seq (rg [mV 6 0,
cL 7 z9i [6]] [0,1])
(.seq (rg [mV 8 0,
mV 9 0,
uO 10 (.nilchk 9),
fA 11 1 none 10,
lD 12 none 11,
mV 13 1,
uO 14 (.uns 3 5 [12,13]),
uO 15 (.nilchk 8),
fA 16 1 none 15,
wO (.store none 16 14)] [1])
(.seq (rg [mV 17 1,
uO 18 (.lens 17),
mV 4 18,
mV 5 (.c (.nili))] [4,5])
.ret))))
def ziH : AFun:=⟨2,[.t 4,.t 5],P_q04y,false,false⟩
def zjB (C : Hd) (gl : GL) (v0 v1 : AV) (h : Heap) (x : Esc) (K : KT) : Prop:=
 C z9i [v0] h fun t1 h2 y3=>
 pK (oNil v0) fun t4=>
 pK (z0e 1 none t4) fun t5=>
 pK (z0g none t5 h2) fun t6=>
 wK (z12 3 5 [t6,v1] h2) fun t7 h8 y9=>
 pK (oNil v0) fun t10=>
 pK (z0e 1 none t10) fun t11=>
 wK (z0n none t11 t7 h8) fun t12 h13 y14=>
 pK (z1a v1) fun t15=>
 K .ret ⟨[(4,t15),(5,(.nili))],h13,(y14 ++ (y9 ++ (y3 ++ x)))⟩
theorem e_q04y {C gl v0 v1 h x K} : NW C gl ziH.body ⟨enter [v0,v1],h,x⟩ K = zjB C gl v0 v1 h x K:=by kernel_rfl
def P_q04x : ACode:=(.seq (rg [mV 2 (cS [])] [0])
(.seq (dr [dF (mV 3 0) [0],
dF (uO 4 (.nilchk 3)) [3],
dF (fA 5 1 none 4) [4],
dF (lD 6 none 5) [5],
dF (uO 7 (.uns 5 5 [6])) [6],
dF (mV 8 0) [0],
dF (uO 9 (.nilchk 8)) [8],
dF (fA 10 1 none 9) [9],
dF (lD 11 none 10) [10],
dF (uO 12 (.uns 4 0 [11])) [11],
dT (uO 13 (.uns 6 5 [7,12])) [7,12],
dF (mV 2 13) [13]] [2])
.ret))
def ziG : AFun:=⟨1,[.t 2],P_q04x,false,false⟩
def ze4 (C : Hd) (gl : GL) (v0 : AV) (h : Heap) (x : Esc) (K : KT) : Prop:=
 pK (oNil v0) fun t1=>
 pK (z0e 1 none t1) fun t2=>
 pK (z0g none t2 h) fun t3=>
 wK (z12 5 5 [t3] h) fun t4 h5 y6=>
 (h5 = h ∧ y6 = []) ∧ (pK (oNil v0) fun t7=>
 pK (z0e 1 none t7) fun t8=>
 pK (z0g none t8 h5) fun t9=>
 wK (z12 4 0 [t9] h5) fun t10 h11 y12=>
 (h11 = h5 ∧ y12 = []) ∧ (wK (z12 6 5 [t4,t10] h11) fun t13 h14 y15=>
 K .ret ⟨[(2,t13)],h14,(y15 ++ (y12 ++ (y6 ++ x)))⟩))
theorem e_q04x {C gl v0 h x K} : NW C gl ziG.body ⟨enter [v0],h,x⟩ K = ze4 C gl v0 h x K:=by kernel_rfl
def z7V : ACode:=.pr [1,3,48] (.cond 48 (.seq (dr [dF (fA 51 3 none 1) [1],
dF (lD 52 none 51) [51],
dF (fA 53 4 none 1) [1],
dF (lD 54 none 53) [53],
dF (fA 55 5 none 1) [1],
dF (lD 56 none 55) [55],
dF (fA 57 3 none 3) [3],
dA (wO (.store none 57 52)) [57,52] true [] [3,5],
dF (fA 58 4 none 3) [3],
dA (wO (.store none 58 54)) [58,54] true [] [5],
dF (fA 59 5 none 3) [3],
dT (wO (.store none 59 56)) [59,56]] [1,3])
(.seq (rg [lD 60 (some 6) 1,
cL 61 z9g [60],
mV 4 61] [1,3,4])
(.seq (rg [mV 62 4,
bN 63 .neq 62 (cI 0)] [1,3,4,63])
(.cond 63 (.seq (rg [mV 64 4,
mV 2 64] [2])
.ret)
.skip))))
(.seq (rg [mV 2 (cI 4)] [2])
.ret))
def z2n (C : Hd) (gl : GL) (v1 v3 v48 : AV) (h : Heap) (x : Esc) (K : KT) : Prop:=
 z0m v48 (pK (z0e 3 none v1) fun t1=>
 pK (z0g none t1 h) fun t2=>
 pK (z0e 4 none v1) fun t3=>
 pK (z0g none t3 h) fun t4=>
 pK (z0e 5 none v1) fun t5=>
 pK (z0g none t5 h) fun t6=>
 pK (z0e 3 none v3) fun t7=>
 wK (z0n none t7 t2 h) fun t8 h9 y10=>
 (pK (z0g none t3 h9) fun v=>(fun u (g1 : Heap) (y1 : Esc)=>u = t4 ∧ g1 = h9 ∧ y1 = []) v h9 []) ∧ ((pK (z0g none t5 h9) fun v=>(fun u (g1 : Heap) (y1 : Esc)=>u = t6 ∧ g1 = h9 ∧ y1 = []) v h9 []) ∧ (pK (z0e 4 none v3) fun t11=>
 wK (z0n none t11 t4 h9) fun t12 h13 y14=>
 (pK (z0g none t5 h13) fun v=>(fun u (g1 : Heap) (y1 : Esc)=>u = t6 ∧ g1 = h13 ∧ y1 = []) v h13 []) ∧ (pK (z0e 5 none v3) fun t15=>
 wK (z0n none t15 t6 h13) fun t16 h17 y18=>
 pK (z0g (some 6) v1 h17) fun t19=>
 C z9g [t19] h17 fun t20 h21 y22=>
 pK (oBin .neq t20 (AI 0)) fun t23=>
 z0m t23 (K .ret ⟨[(2,t20)],h21,(y22 ++ (y18 ++ (y14 ++ (y10 ++ x))))⟩)
 (K .normal ⟨[(1,v1),(3,v3),(4,t20),(63,t23)],h21,(y22 ++ (y18 ++ (y14 ++ (y10 ++ x))))⟩)))))
 (K .ret ⟨[(2,(AI 4))],h,x⟩)
theorem zkv {C gl e h x K} : NW C gl z7V ⟨e,h,x⟩ K = z2n C gl (aget e 1) (aget e 3) (aget e 48) h x K:=by kernel_rfl
def zaF (q1 : ACode) : ACode:=.pr [1,3,9,30] (.cond 30 (.seq (rg [fA 35 3 none 1,
lD 36 none 35,
fA 37 3 none 3,
wO (.store none 37 36)] [1,3])
(.block 1 (.seq (rg [fA 39 3 none 1,
lD 40 none 39,
cL 41 z3B [40],
uO 42 (.un .not 41),
mV 38 42] [1,3,38])
(.cond 38 (.seq (rg [mV 2 (cI 9)] [2])
.ret)
(.seq (rg [fA 44 3 none 1,
lD 45 none 44,
uO 46 (.lens 45),
bN 47 .gtr 46 (cI 2000),
mV 43 47] [1,3,43])
(.cond 43 (.seq (rg [mV 2 (cI 2)] [2])
.ret)
.skip))))))
(.seq (.seq (rg [bN 49 .eql 9 (cI 7),
mV 48 49] [1,3,9,48])
(.cond 48 .skip
(rg [bN 50 .eql 9 (cI 8),
mV 48 50] [1,3,48])))
q1))
def z7W : ACode:=zaF z7V
def z1r (C : Hd) (gl : GL) (q1 : ACode) (v1 v3 v9 v30 : AV) (h : Heap) (x : Esc) (K : KT) : Prop:=
 z0m v30 (pK (z0e 3 none v1) fun t1=>
 pK (z0g none t1 h) fun t2=>
 pK (z0e 3 none v3) fun t3=>
 wK (z0n none t3 t2 h) fun t4 h5 y6=>
 pK (z0e 3 none v1) fun t7=>
 pK (z0g none t7 h5) fun t8=>
 C z3B [t8] h5 fun t9 h10 y11=>
 pK (oUn .not t9) fun t12=>
 z0m t12 (K .ret ⟨[(2,(AI 9))],h10,(y11 ++ (y6 ++ x))⟩)
 (pK (z0e 3 none v1) fun t13=>
 pK (z0g none t13 h10) fun t14=>
 pK (z1a t14) fun t15=>
 pK (oBin .gtr t15 (AI 2000)) fun t16=>
 z0m t16 (K .ret ⟨[(2,(AI 2))],h10,(y11 ++ (y6 ++ x))⟩)
 (K .normal ⟨[(1,v1),(3,v3),(43,t16)],h10,(y11 ++ (y6 ++ x))⟩)))
 (pK (oBin .eql v9 (AI 7)) fun t17=>
 z0m t17 (NW C gl q1 ⟨[(1,v1),(3,v3),(9,v9),(48,t17)],h,x⟩ K)
 (pK (oBin .eql v9 (AI 8)) fun t18=>
 NW C gl q1 ⟨[(1,v1),(3,v3),(48,t18)],h,x⟩ K))
theorem zhG {C gl q1 e h x K} : NW C gl (zaF q1) ⟨e,h,x⟩ K = z1r C gl q1 (aget e 1) (aget e 3) (aget e 9) (aget e 30) h x K:=by kernel_rfl
theorem zkw {C gl e h x K} : NW C gl z7W ⟨e,h,x⟩ K = z1r C gl z7V (aget e 1) (aget e 3) (aget e 9) (aget e 30) h x K:=zhG
def zaG (q2 : ACode) : ACode:=.pr [1,3,9,10] (.cond 10 (.seq (rg [fA 14 1 none 1,
lD 15 none 14,
fA 16 1 none 3,
wO (.store none 16 15)] [1,3])
(.seq (rg [fA 17 1 none 1,
lD 18 none 17,
cL 19 z9h [18],
uO 20 (.un .not 19)] [1,3,20])
(.cond 20 (.seq (rg [mV 2 (cI 1)] [2])
.ret)
.skip)))
(.seq (rg [bN 22 .eql 9 (cI 9),
mV 21 22] [1,3,9,21])
(.cond 21 (.seq (rg [fA 23 2 none 1,
lD 24 none 23,
fA 25 2 none 3,
wO (.store none 25 24)] [1,3])
(.seq (rg [fA 26 2 none 1,
lD 27 none 26,
cL 28 z9d [27,(cI 0),(cI 20000)],
uO 29 (.un .not 28)] [1,3,29])
(.cond 29 (.seq (rg [mV 2 (cI 1)] [2])
.ret)
.skip)))
(.seq (.seq (rg [bN 31 .eql 9 (cI 3),
mV 30 31] [1,3,9,30])
(.cond 30 .skip
(.seq (rg [bN 32 .eql 9 (cI 4),
mV 30 32] [1,3,9,30])
(.cond 30 .skip
(.seq (rg [bN 33 .eql 9 (cI 5),
mV 30 33] [1,3,9,30])
(.cond 30 .skip
(rg [bN 34 .eql 9 (cI 6),
mV 30 34] [1,3,9,30])))))))
q2))))
def z54 : ACode:=zaG z7W
def z0K (C : Hd) (gl : GL) (q2 : ACode) (v1 v3 v9 v10 : AV) (h : Heap) (x : Esc) (K : KT) : Prop:=
 z0m v10 (pK (z0e 1 none v1) fun t1=>
 pK (z0g none t1 h) fun t2=>
 pK (z0e 1 none v3) fun t3=>
 wK (z0n none t3 t2 h) fun t4 h5 y6=>
 pK (z0e 1 none v1) fun t7=>
 pK (z0g none t7 h5) fun t8=>
 C z9h [t8] h5 fun t9 h10 y11=>
 pK (oUn .not t9) fun t12=>
 z0m t12 (K .ret ⟨[(2,(AI 1))],h10,(y11 ++ (y6 ++ x))⟩)
 (K .normal ⟨[(1,v1),(3,v3),(20,t12)],h10,(y11 ++ (y6 ++ x))⟩))
 (pK (oBin .eql v9 (AI 9)) fun t13=>
 z0m t13 (pK (z0e 2 none v1) fun t14=>
 pK (z0g none t14 h) fun t15=>
 pK (z0e 2 none v3) fun t16=>
 wK (z0n none t16 t15 h) fun t17 h18 y19=>
 pK (z0e 2 none v1) fun t20=>
 pK (z0g none t20 h18) fun t21=>
 C z9d [t21,(AI 0),(AI 20000)] h18 fun t22 h23 y24=>
 pK (oUn .not t22) fun t25=>
 z0m t25 (K .ret ⟨[(2,(AI 1))],h23,(y24 ++ (y19 ++ x))⟩)
 (K .normal ⟨[(1,v1),(3,v3),(29,t25)],h23,(y24 ++ (y19 ++ x))⟩))
 (pK (oBin .eql v9 (AI 3)) fun t26=>
 z0m t26 (NW C gl q2 ⟨[(1,v1),(3,v3),(9,v9),(30,t26)],h,x⟩ K)
 (pK (oBin .eql v9 (AI 4)) fun t27=>
 z0m t27 (NW C gl q2 ⟨[(1,v1),(3,v3),(9,v9),(30,t27)],h,x⟩ K)
 (pK (oBin .eql v9 (AI 5)) fun t28=>
 z0m t28 (NW C gl q2 ⟨[(1,v1),(3,v3),(9,v9),(30,t28)],h,x⟩ K)
 (pK (oBin .eql v9 (AI 6)) fun t29=>
 NW C gl q2 ⟨[(1,v1),(3,v3),(9,v9),(30,t29)],h,x⟩ K)))))
theorem zhH {C gl q2 e h x K} : NW C gl (zaG q2) ⟨e,h,x⟩ K = z0K C gl q2 (aget e 1) (aget e 3) (aget e 9) (aget e 10) h x K:=by kernel_rfl
theorem zkx {C gl e h x K} : NW C gl z54 ⟨e,h,x⟩ K = z0K C gl z7W (aget e 1) (aget e 3) (aget e 9) (aget e 10) h x K:=zhH
def z55 : ACode:=.pr [1,3] (.seq (.seq (rg [lD 65 (some 6) 1,
lD 66 (some 6) 3,
uO 67 (.eqa [0,0,0,2,2,2] true 65 66)] [67])
(.cond 67 (.seq (rg [mV 2 (cI 3)] [2])
.ret)
.skip))
(.seq (rg [mV 2 (cI 0)] [2])
.ret))
def z2T (C : Hd) (gl : GL) (v1 v3 : AV) (h : Heap) (x : Esc) (K : KT) : Prop:=
 pK (z0g (some 6) v1 h) fun t1=>
 pK (z0g (some 6) v3 h) fun t2=>
 pK (oEqa [0,0,0,2,2,2] true t1 t2) fun t3=>
 z0m t3 (K .ret ⟨[(2,(AI 3))],h,x⟩)
 (K .ret ⟨[(2,(AI 0))],h,x⟩)
theorem zky {C gl e h x K} : NW C gl z55 ⟨e,h,x⟩ K = z2T C gl (aget e 1) (aget e 3) h x K:=by kernel_rfl
def zrY (q3 q4 : ACode) : ACode:=(.seq (rg [uO 1 (.box 0),
mV 2 (cI 0)] [1])
(.seq (rg [fA 5 0 none 1,
lD 6 none 5,
uO 7 (.build [.p (.int .i64 0),.p (.int .i64 0),.p (.int .i64 0),.p (.str []),.p (.str []),.p (.str [])] [(0,1,6)]),
uO 3 (.alloc [.p (.int .i64 0),.p (.int .i64 0),.p (.int .i64 0),.p (.str []),.p (.str []),.p (.str [])]),
wO (.store (some 6) 3 7)] [1,3])
(.seq (.seq (rg [fA 8 0 none 1,
lD 9 none 8] [1,3,9])
(.block 0 (.seq (.seq (rg [bN 11 .eql 9 (cI 1),
mV 10 11] [1,3,9,10])
(.cond 10 .skip
(.seq (rg [bN 12 .eql 9 (cI 2),
mV 10 12] [1,3,9,10])
(.cond 10 .skip
(rg [bN 13 .eql 9 (cI 10),
mV 10 13] [1,3,9,10])))))
q3)))
q4)))
def zi8 : AFun:=⟨1,[.t 2],zrY z54 z55,false,false⟩
def z2e (C : Hd) (gl : GL) (q3 q4 : ACode) (v0 : AV) (h : Heap) (x : Esc) (K : KT) : Prop:=
 wK (oBox v0 h) fun t1 h2 y3=>
 pK (z0e 0 none t1) fun t4=>
 pK (z0g none t4 h2) fun t5=>
 pK (z02 [.p (.int .i64 0),.p (.int .i64 0),.p (.int .i64 0),.p (.str []),.p (.str []),.p (.str [])] [(0,1,t5)]) fun t6=>
 alK [.p (.int .i64 0),.p (.int .i64 0),.p (.int .i64 0),.p (.str []),.p (.str []),.p (.str [])] h2 fun t7 h8 y9=>
 wK (z0n (some 6) t7 t6 h8) fun t10 h11 y12=>
 pK (z0e 0 none t1) fun t13=>
 pK (z0g none t13 h11) fun t14=>
 pK (oBin .eql t14 (AI 1)) fun t15=>
 z0m t15 (NW C gl q3 ⟨[(1,t1),(3,t7),(9,t14),(10,t15)],h11,(y12 ++ (y9 ++ (y3 ++ x)))⟩ (z05 0 (seqN C gl q4 K)))
 (pK (oBin .eql t14 (AI 2)) fun t16=>
 z0m t16 (NW C gl q3 ⟨[(1,t1),(3,t7),(9,t14),(10,t16)],h11,(y12 ++ (y9 ++ (y3 ++ x)))⟩ (z05 0 (seqN C gl q4 K)))
 (pK (oBin .eql t14 (AI 10)) fun t17=>
 NW C gl q3 ⟨[(1,t1),(3,t7),(9,t14),(10,t17)],h11,(y12 ++ (y9 ++ (y3 ++ x)))⟩ (z05 0 (seqN C gl q4 K))))
theorem E_q03d {C gl q3 q4 v0 h x K} : NW C gl (zrY q3 q4) ⟨enter [v0],h,x⟩ K = z2e C gl q3 q4 v0 h x K:=by kernel_rfl
theorem e_q03d {C gl v0 h x K} : NW C gl zi8.body ⟨enter [v0],h,x⟩ K = z2e C gl z54 z55 v0 h x K:=E_q03d
def z3h : ACode:=.pr [5,6,7,11,12,13] (.seq (rg [bN 14 .lss 13 12] [5,6,7,11,12,13,14])
(.seq (.cond 14 .skip
(.exit 0))
(.seq (.block 1 (.seq (rg [iA 15 (some 5) 11 13,
lD 16 (some 5) 15,
uO 9 (.alloc [.p (.str []),.p (.str []),.p (.str []),.p (.int .i64 0),.p (.int .i64 0)]),
wO (.store (some 5) 9 16)] [5,6,7,9,11,12,13])
(.seq (rg [fA 17 0 none 9,
lD 18 none 17,
cL 19 z2Y [5,18]] [5,6,7,9,11,12,13])
(.seq (rg [fA 20 1 none 9,
lD 21 none 20,
cL 22 z2Y [6,21]] [5,6,7,9,11,12,13])
(rg [fA 23 2 none 9,
lD 24 none 23,
cL 25 z2Y [7,24]] [5,6,7,11,12,13])))))
(rg [bN 26 .add 13 (cI 1),
mV 13 26] [5,6,7,11,12,13]))))
def zb3 (C : Hd) (gl : GL) (v5 v6 v7 v11 v12 v13 : AV) (h : Heap) (x : Esc) (K : KT) : Prop:=
 pK (oBin .lss v13 v12) fun t1=>
 z0m t1 (pK (z0N (some 5) v11 v13 h) fun t2=>
 pK (z0g (some 5) t2 h) fun t3=>
 alK [.p (.str []),.p (.str []),.p (.str []),.p (.int .i64 0),.p (.int .i64 0)] h fun t4 h5 y6=>
 wK (z0n (some 5) t4 t3 h5) fun t7 h8 y9=>
 pK (z0e 0 none t4) fun t10=>
 pK (z0g none t10 h8) fun t11=>
 C z2Y [v5,t11] h8 fun t12 h13 y14=>
 pK (z0e 1 none t4) fun t15=>
 pK (z0g none t15 h13) fun t16=>
 C z2Y [v6,t16] h13 fun t17 h18 y19=>
 pK (z0e 2 none t4) fun t20=>
 pK (z0g none t20 h18) fun t21=>
 C z2Y [v7,t21] h18 fun t22 h23 y24=>
 pK (oBin .add v13 (AI 1)) fun t25=>
 K .normal ⟨[(5,v5),(6,v6),(7,v7),(11,v11),(12,v12),(13,t25)],h23,(y24 ++ (y19 ++ (y14 ++ (y9 ++ (y6 ++ x)))))⟩)
 (K (.exit 0) ⟨[(5,v5),(6,v6),(7,v7),(11,v11),(12,v12),(13,v13),(14,t1)],h,x⟩)
theorem zkt {C gl e h x K} : NW C gl z3h ⟨e,h,x⟩ K = zb3 C gl (aget e 5) (aget e 6) (aget e 7) (aget e 11) (aget e 12) (aget e 13) h x K:=by kernel_rfl
theorem zlQ {C gl e h x K} : NW C gl (.loop (.scope z3h)) ⟨e,h,x⟩ K = z14 C gl (.scope z3h) K [(5,aget e 5),(6,aget e 6),(7,aget e 7),(11,aget e 11),(12,aget e 12),(13,aget e 13)] h x:=z1Q
def z52 : ACode:=.pr [5,6,7] (.seq (rg [cL 27 z4F [5],
cL 28 z4F [6],
cL 29 z4F [7],
mV 2 27,
mV 3 28,
mV 4 29] [2,3,4])
.ret)
def zb4 (C : Hd) (gl : GL) (v5 v6 v7 : AV) (h : Heap) (x : Esc) (K : KT) : Prop:=
 C z4F [v5] h fun t1 h2 y3=>
 C z4F [v6] h2 fun t4 h5 y6=>
 C z4F [v7] h5 fun t7 h8 y9=>
 K .ret ⟨[(2,t1),(3,t4),(4,t7)],h8,(y9 ++ (y6 ++ (y3 ++ x)))⟩
theorem zku {C gl e h x K} : NW C gl z52 ⟨e,h,x⟩ K = zb4 C gl (aget e 5) (aget e 6) (aget e 7) h x K:=by kernel_rfl
def zrX (q1 q2 : ACode) : ACode:=(.seq (rg [mV 2 (cS []),
mV 3 (cS []),
mV 4 (cS [])] [0])
(.seq (rg [uO 5 (.uns 0 106 [(cI 5)]),
uO 6 (.uns 0 106 [(cI 5)]),
uO 7 (.uns 0 106 [(cI 5)])] [0,5,6,7])
(.seq (.seq (rg [mV 10 0,
cL 11 z9f [10],
lN 12 11,
mV 13 (cI 0)] [5,6,7,11,12,13])
(.block 0 (.loop (.scope q1))))
q2)))
def zi7 : AFun:=⟨1,[.t 2,.t 3,.t 4],zrX z3h z52,false,false⟩
def zez (C : Hd) (gl : GL) (q1 q2 : ACode) (v0 : AV) (h : Heap) (x : Esc) (K : KT) : Prop:=
 wK (z12 0 106 [(AI 5)] h) fun t1 h2 y3=>
 wK (z12 0 106 [(AI 5)] h2) fun t4 h5 y6=>
 wK (z12 0 106 [(AI 5)] h5) fun t7 h8 y9=>
 C z9f [v0] h8 fun t10 h11 y12=>
 pK (oLen t10) fun t13=>
 NW C gl (.loop (.scope q1)) ⟨[(5,t1),(6,t4),(7,t7),(11,t10),(12,t13),(13,(AI 0))],h11,(y12 ++ (y9 ++ (y6 ++ (y3 ++ x))))⟩ (z05 0 (seqN C gl q2 K))
theorem E_q03a {C gl q1 q2 v0 h x K} : NW C gl (zrX q1 q2) ⟨enter [v0],h,x⟩ K = zez C gl q1 q2 v0 h x K:=by kernel_rfl
theorem e_q03a {C gl v0 h x K} : NW C gl zi7.body ⟨enter [v0],h,x⟩ K = zez C gl z3h z52 v0 h x K:=E_q03a
def z5t : ACode:=.pr [0] (.seq (rg [mV 15 0,
mV 4 15] [4])
.ret)
def zbl (C : Hd) (gl : GL) (v0 : AV) (h : Heap) (x : Esc) (K : KT) : Prop:=
 K .ret ⟨[(4,v0)],h,x⟩
theorem zjX {C gl e h x K} : NW C gl z5t ⟨e,h,x⟩ K = zbl C gl (aget e 0) h x K:=by kernel_rfl
def zrP (q1 : ACode) : ACode:=(.seq (rg [mV 4 (cI 0)] [0,1])
(.seq (.seq (rg [mV 5 1,
bN 6 .lss 5 (cI 1)] [0,1,6])
(.cond 6 (.seq (rg [mV 4 (cI 0)] [4])
.ret)
.skip))
(.seq (rg [mV 7 0,
mV 8 1,
bN 9 .rem 7 8,
mV 0 9] [0,1])
(.seq (.seq (rg [mV 10 0,
bN 11 .lss 10 (cI 0)] [0,1,11])
(.cond 11 (rg [mV 12 0,
mV 13 1,
bN 14 .add 12 13,
mV 0 14] [0])
.skip))
q1))))
def zir : AFun:=⟨2,[.t 4],zrP z5t,false,false⟩
def zer (C : Hd) (gl : GL) (q1 : ACode) (v0 v1 : AV) (h : Heap) (x : Esc) (K : KT) : Prop:=
 pK (oBin .lss v1 (AI 1)) fun t1=>
 z0m t1 (K .ret ⟨[(4,(AI 0))],h,x⟩)
 (pK (oBin .rem v0 v1) fun t2=>
 pK (oBin .lss t2 (AI 0)) fun t3=>
 z0m t3 (pK (oBin .add t2 v1) fun t4=>
 NW C gl q1 ⟨[(0,t4)],h,x⟩ K)
 (NW C gl q1 ⟨[(0,t2),(1,v1),(11,t3)],h,x⟩ K))
theorem E_q02l {C gl q1 v0 v1 h x K} : NW C gl (zrP q1) ⟨enter [v0,v1],h,x⟩ K = zer C gl q1 v0 v1 h x K:=by kernel_rfl
theorem e_q02l {C gl v0 v1 h x K} : NW C gl zir.body ⟨enter [v0,v1],h,x⟩ K = zer C gl z5t v0 v1 h x K:=E_q02l
def P_q009 : ACode:=(.seq (rg [mV 6 cF] [0,1,2])
(.seq (rg [mV 7 0,
mV 8 1,
bN 9 .lss 7 8,
mV 10 9,
gD 11 10 false (.mv 0),
gD 12 10 false (.mv 2),
gD 13 10 false (.bin .gtr 11 12),
uO 14 (.pick 10 cT 13),
mV 6 14] [6])
.ret))
def zdN : AFun:=⟨3,[.t 6],P_q009,false,false⟩
def zj0 (C : Hd) (gl : GL) (v0 v1 v2 : AV) (h : Heap) (x : Esc) (K : KT) : Prop:=
 pK (oBin .lss v0 v1) fun t1=>
 gM t1 false v0 h fun t2 h3 y4=>
 gM t1 false v2 h3 fun t5 h6 y7=>
 gP t1 false (oBin .gtr t2 t5) h6 fun t8 h9 y10=>
 pK (z18 t1 (AB true) t8) fun t11=>
 K .ret ⟨[(6,t11)],h9,(y10 ++ (y7 ++ (y4 ++ x)))⟩
theorem e_q009 {C gl v0 v1 v2 h x K} : NW C gl zdN.body ⟨enter [v0,v1,v2],h,x⟩ K = zj0 C gl v0 v1 v2 h x K:=by kernel_rfl
def z5E : ACode:=.pr [2,4] (.seq (rg [lD 56 (some 6) 4,
wO (.store (some 6) 2 56),
mV 3 (cI 0)] [2,3])
.ret)
def zbL (C : Hd) (gl : GL) (v2 v4 : AV) (h : Heap) (x : Esc) (K : KT) : Prop:=
 pK (z0g (some 6) v4 h) fun t1=>
 wK (z0n (some 6) v2 t1 h) fun t2 h3 y4=>
 K .ret ⟨[(2,v2),(3,(AI 0))],h3,(y4 ++ x)⟩
theorem zkH {C gl e h x K} : NW C gl z5E ⟨e,h,x⟩ K = zbL C gl (aget e 2) (aget e 4) h x K:=by kernel_rfl
def zsg (q1 : ACode) : ACode:=(.seq (rg [uO 1 (.box 0),
uO 2 (.alloc [.p (.int .i64 0),.p (.int .i64 0),.p (.int .i64 0),.p (.str []),.p (.str []),.p (.str [])]),
mV 3 (cI 0)] [1,2])
(.seq (rg [lD 5 (some 6) 1,
uO 4 (.alloc [.p (.int .i64 0),.p (.int .i64 0),.p (.int .i64 0),.p (.str []),.p (.str []),.p (.str [])]),
wO (.store (some 6) 4 5)] [1,2,4])
(.seq (.block 0 (.seq (rg [fA 18 0 none 1,
lD 19 none 18,
bN 20 .eql 19 (cI 1),
mV 21 20,
gD 22 21 false (.faddr 0 none 1),
gD 23 21 false (.load none 22),
gD 24 21 false (.bin .eql 23 (cI 2)),
uO 25 (.pick 21 cT 24),
mV 26 25,
gD 27 26 false (.faddr 0 none 1),
gD 28 26 false (.load none 27),
gD 29 26 false (.bin .eql 28 (cI 10)),
uO 30 (.pick 26 cT 29),
mV 17 30] [1,2,4,17])
(.cond 17 (.seq (rg [fA 31 1 none 4,
wO (.store none 31 (cI 0))] [1,2,4])
(.seq (rg [fA 32 1 none 1,
lD 33 none 32,
cL 34 z7D [33],
uO 35 (.un .not 34)] [2,4,35])
(.cond 35 (.seq (rg [lD 36 (some 6) 4,
wO (.store (some 6) 2 36),
mV 3 (cI 1)] [2,3])
.ret)
.skip)))
(.seq (rg [fA 38 0 none 1,
lD 39 none 38,
bN 40 .eql 39 (cI 9),
mV 37 40] [1,2,4,37])
(.cond 37 (.seq (rg [fA 41 2 none 4,
wO (.store none 41 (cI 0))] [1,2,4])
(.seq (rg [fA 42 2 none 1,
lD 43 none 42,
cL 44 z1d [43,(cI 0),(cI 20000)]] [2,4,44])
(.cond 44 (.seq (rg [lD 45 (some 6) 4,
wO (.store (some 6) 2 45),
mV 3 (cI 1)] [2,3])
.ret)
.skip)))
(.seq (rg [fA 47 0 none 1,
lD 48 none 47,
cL 49 z5l [48],
mV 46 49] [1,2,4,46])
(.cond 46 (.seq (rg [fA 50 3 none 4,
wO (.store none 50 (cS [])),
fA 51 4 none 4,
wO (.store none 51 (cS [])),
fA 52 5 none 4,
wO (.store none 52 (cS []))] [1,2,4])
(.seq (dr [dF (lD 53 (some 6) 4) [4],
dF (lD 54 (some 6) 1) [1],
dA (cL 55 z7B [54]) [54] true [] [0],
dT (wO (.store (some 6) 2 53)) [2,53],
dF (mV 3 55) [55]] [2,3])
.ret))
(.seq (rg [fA 6 3 none 4,
wO (.store none 6 (cS []))] [1,2,4])
(.seq (.seq (rg [fA 7 3 none 1,
lD 8 none 7,
cL 9 z2p [8],
uO 10 (.un .not 9)] [1,2,4,10])
(.cond 10 (.seq (rg [lD 11 (some 6) 4,
wO (.store (some 6) 2 11),
mV 3 (cI 9)] [2,3])
.ret)
.skip))
(.seq (rg [fA 12 3 none 1,
lD 13 none 12,
uO 14 (.lens 13),
bN 15 .gtr 14 (cI 2000)] [2,4,15])
(.cond 15 (.seq (rg [lD 16 (some 6) 4,
wO (.store (some 6) 2 16),
mV 3 (cI 2)] [2,3])
.ret)
.skip)))))))))))
q1)))
def zdX : AFun:=⟨1,[.cell 2 (some 6),.t 3],zsg z5E,false,false⟩
def z2A (C : Hd) (gl : GL) (q1 : ACode) (v0 : AV) (h : Heap) (x : Esc) (K : KT) : Prop:=
 wK (oBox v0 h) fun t1 h2 y3=>
 alK [.p (.int .i64 0),.p (.int .i64 0),.p (.int .i64 0),.p (.str []),.p (.str []),.p (.str [])] h2 fun t4 h5 y6=>
 pK (z0g (some 6) t1 h5) fun t7=>
 alK [.p (.int .i64 0),.p (.int .i64 0),.p (.int .i64 0),.p (.str []),.p (.str []),.p (.str [])] h5 fun t8 h9 y10=>
 wK (z0n (some 6) t8 t7 h9) fun t11 h12 y13=>
 pK (z0e 0 none t1) fun t14=>
 pK (z0g none t14 h12) fun t15=>
 pK (oBin .eql t15 (AI 1)) fun t16=>
 gP t16 false (z0e 0 none t1) h12 fun t17 h18 y19=>
 gP t16 false (z0g none t17 h18) h18 fun t20 h21 y22=>
 gP t16 false (oBin .eql t20 (AI 2)) h21 fun t23 h24 y25=>
 pK (z18 t16 (AB true) t23) fun t26=>
 gP t26 false (z0e 0 none t1) h24 fun t27 h28 y29=>
 gP t26 false (z0g none t27 h28) h28 fun t30 h31 y32=>
 gP t26 false (oBin .eql t30 (AI 10)) h31 fun t33 h34 y35=>
 pK (z18 t26 (AB true) t33) fun t36=>
 z0m t36 (pK (z0e 1 none t8) fun t37=>
 wK (z0n none t37 (AI 0) h34) fun t38 h39 y40=>
 pK (z0e 1 none t1) fun t41=>
 pK (z0g none t41 h39) fun t42=>
 C z7D [t42] h39 fun t43 h44 y45=>
 pK (oUn .not t43) fun t46=>
 z0m t46 (pK (z0g (some 6) t8 h44) fun t47=>
 wK (z0n (some 6) t4 t47 h44) fun t48 h49 y50=>
 K .ret ⟨[(2,t4),(3,(AI 1))],h49,(y50 ++ (y45 ++ (y40 ++ (y35 ++ (y32 ++ (y29 ++ (y25 ++ (y22 ++ (y19 ++ (y13 ++ (y10 ++ (y6 ++ (y3 ++ x)))))))))))))⟩)
 (NW C gl q1 ⟨[(2,t4),(4,t8),(35,t46)],h44,(y45 ++ (y40 ++ (y35 ++ (y32 ++ (y29 ++ (y25 ++ (y22 ++ (y19 ++ (y13 ++ (y10 ++ (y6 ++ (y3 ++ x))))))))))))⟩ K))
 (pK (z0e 0 none t1) fun t51=>
 pK (z0g none t51 h34) fun t52=>
 pK (oBin .eql t52 (AI 9)) fun t53=>
 z0m t53 (pK (z0e 2 none t8) fun t54=>
 wK (z0n none t54 (AI 0) h34) fun t55 h56 y57=>
 pK (z0e 2 none t1) fun t58=>
 pK (z0g none t58 h56) fun t59=>
 C z1d [t59,(AI 0),(AI 20000)] h56 fun t60 h61 y62=>
 z0m t60 (pK (z0g (some 6) t8 h61) fun t63=>
 wK (z0n (some 6) t4 t63 h61) fun t64 h65 y66=>
 K .ret ⟨[(2,t4),(3,(AI 1))],h65,(y66 ++ (y62 ++ (y57 ++ (y35 ++ (y32 ++ (y29 ++ (y25 ++ (y22 ++ (y19 ++ (y13 ++ (y10 ++ (y6 ++ (y3 ++ x)))))))))))))⟩)
 (NW C gl q1 ⟨[(2,t4),(4,t8),(44,t60)],h61,(y62 ++ (y57 ++ (y35 ++ (y32 ++ (y29 ++ (y25 ++ (y22 ++ (y19 ++ (y13 ++ (y10 ++ (y6 ++ (y3 ++ x))))))))))))⟩ K))
 (pK (z0e 0 none t1) fun t67=>
 pK (z0g none t67 h34) fun t68=>
 C z5l [t68] h34 fun t69 h70 y71=>
 z0m t69 (pK (z0e 3 none t8) fun t72=>
 wK (z0n none t72 (.p (.str [])) h70) fun t73 h74 y75=>
 pK (z0e 4 none t8) fun t76=>
 wK (z0n none t76 (.p (.str [])) h74) fun t77 h78 y79=>
 pK (z0e 5 none t8) fun t80=>
 wK (z0n none t80 (.p (.str [])) h78) fun t81 h82 y83=>
 pK (z0g (some 6) t8 h82) fun t84=>
 pK (z0g (some 6) t1 h82) fun t85=>
 z1L C z7B [t85] h82 fun t86 h87 y88=>
 (pK (z0g (some 6) t8 h87) fun v=>(fun u (g1 : Heap) (y1 : Esc)=>u = t84 ∧ g1 = h87 ∧ y1 = []) v h87 []) ∧ (wK (z0n (some 6) t4 t84 h87) fun t89 h90 y91=>
 K .ret ⟨[(2,t4),(3,t86)],h90,(y91 ++ (y88 ++ (y83 ++ (y79 ++ (y75 ++ (y71 ++ (y35 ++ (y32 ++ (y29 ++ (y25 ++ (y22 ++ (y19 ++ (y13 ++ (y10 ++ (y6 ++ (y3 ++ x))))))))))))))))⟩))
 (pK (z0e 3 none t8) fun t92=>
 wK (z0n none t92 (.p (.str [])) h70) fun t93 h94 y95=>
 pK (z0e 3 none t1) fun t96=>
 pK (z0g none t96 h94) fun t97=>
 C z2p [t97] h94 fun t98 h99 y100=>
 pK (oUn .not t98) fun t101=>
 z0m t101 (pK (z0g (some 6) t8 h99) fun t102=>
 wK (z0n (some 6) t4 t102 h99) fun t103 h104 y105=>
 K .ret ⟨[(2,t4),(3,(AI 9))],h104,(y105 ++ (y100 ++ (y95 ++ (y71 ++ (y35 ++ (y32 ++ (y29 ++ (y25 ++ (y22 ++ (y19 ++ (y13 ++ (y10 ++ (y6 ++ (y3 ++ x))))))))))))))⟩)
 (pK (z0e 3 none t1) fun t106=>
 pK (z0g none t106 h99) fun t107=>
 pK (z1a t107) fun t108=>
 pK (oBin .gtr t108 (AI 2000)) fun t109=>
 z0m t109 (pK (z0g (some 6) t8 h99) fun t110=>
 wK (z0n (some 6) t4 t110 h99) fun t111 h112 y113=>
 K .ret ⟨[(2,t4),(3,(AI 2))],h112,(y113 ++ (y100 ++ (y95 ++ (y71 ++ (y35 ++ (y32 ++ (y29 ++ (y25 ++ (y22 ++ (y19 ++ (y13 ++ (y10 ++ (y6 ++ (y3 ++ x))))))))))))))⟩)
 (NW C gl q1 ⟨[(2,t4),(4,t8),(15,t109)],h99,(y100 ++ (y95 ++ (y71 ++ (y35 ++ (y32 ++ (y29 ++ (y25 ++ (y22 ++ (y19 ++ (y13 ++ (y10 ++ (y6 ++ (y3 ++ x)))))))))))))⟩ K)))))
theorem E_q06e {C gl q1 v0 h x K} : NW C gl (zsg q1) ⟨enter [v0],h,x⟩ K = z2A C gl q1 v0 h x K:=by kernel_rfl
theorem e_q06e {C gl v0 h x K} : NW C gl zdX.body ⟨enter [v0],h,x⟩ K = z2A C gl z5E v0 h x K:=E_q06e
def P_q06r : ACode:=(.seq (rg [uO 0 (.alloc [.p (.int .i64 0),.p (.int .i64 0),.p (.int .i64 0),.p (.str []),.p (.str []),.p (.str []),.p (.int .i64 0),.p (.int .i64 0),.p (.int .i64 0),.p (.str []),.p (.str []),.p (.str []),.p (.int .i64 0),.p (.int .i64 0),.p (.int .i64 0),.p (.str []),.p (.str []),.p (.str []),.p (.int .i64 0),.p (.int .i64 0),.p (.int .i64 0),.p (.str []),.p (.str []),.p (.str []),.p (.int .i64 0),.p (.int .i64 0),.p (.int .i64 0),.p (.str []),.p (.str []),.p (.str []),.p (.int .i64 0),.p (.int .i64 0),.p (.int .i64 0),.p (.str []),.p (.str []),.p (.str [])])] [0])
(.seq (rg [uO 1 (.build [.p (.int .i64 0),.p (.int .i64 0),.p (.int .i64 0),.p (.str []),.p (.str []),.p (.str [])] [(0,1,(cI 1)),(1,1,(cI 1))]),
uO 2 (.build [.p (.int .i64 0),.p (.int .i64 0),.p (.int .i64 0),.p (.str []),.p (.str []),.p (.str [])] [(0,1,(cI 2)),(1,1,(cI 1))]),
uO 3 (.build [.p (.int .i64 0),.p (.int .i64 0),.p (.int .i64 0),.p (.str []),.p (.str []),.p (.str [])] [(0,1,(cI 3))]),
uO 4 (.build [.p (.int .i64 0),.p (.int .i64 0),.p (.int .i64 0),.p (.str []),.p (.str []),.p (.str [])] [(0,1,(cI 4))]),
uO 5 (.build [.p (.int .i64 0),.p (.int .i64 0),.p (.int .i64 0),.p (.str []),.p (.str []),.p (.str [])] [(0,1,(cI 5))]),
uO 6 (.build [.p (.int .i64 0),.p (.int .i64 0),.p (.int .i64 0),.p (.str []),.p (.str []),.p (.str [])] [(0,1,(cI 6))]),
uO 7 (.build [.p (.int .i64 0),.p (.int .i64 0),.p (.int .i64 0),.p (.str []),.p (.str []),.p (.str []),.p (.int .i64 0),.p (.int .i64 0),.p (.int .i64 0),.p (.str []),.p (.str []),.p (.str []),.p (.int .i64 0),.p (.int .i64 0),.p (.int .i64 0),.p (.str []),.p (.str []),.p (.str []),.p (.int .i64 0),.p (.int .i64 0),.p (.int .i64 0),.p (.str []),.p (.str []),.p (.str []),.p (.int .i64 0),.p (.int .i64 0),.p (.int .i64 0),.p (.str []),.p (.str []),.p (.str []),.p (.int .i64 0),.p (.int .i64 0),.p (.int .i64 0),.p (.str []),.p (.str []),.p (.str [])] [(0,6,1),(6,6,2),(12,6,3),(18,6,4),(24,6,5),(30,6,6)]),
wO (.store (some 36) 0 7)] [0])
.ret))
def zeh : AFun:=⟨0,[.cell 0 (some 36)],P_q06r,false,false⟩
def zjG (C : Hd) (gl : GL) (h : Heap) (x : Esc) (K : KT) : Prop:=
 alK [.p (.int .i64 0),.p (.int .i64 0),.p (.int .i64 0),.p (.str []),.p (.str []),.p (.str []),.p (.int .i64 0),.p (.int .i64 0),.p (.int .i64 0),.p (.str []),.p (.str []),.p (.str []),.p (.int .i64 0),.p (.int .i64 0),.p (.int .i64 0),.p (.str []),.p (.str []),.p (.str []),.p (.int .i64 0),.p (.int .i64 0),.p (.int .i64 0),.p (.str []),.p (.str []),.p (.str []),.p (.int .i64 0),.p (.int .i64 0),.p (.int .i64 0),.p (.str []),.p (.str []),.p (.str []),.p (.int .i64 0),.p (.int .i64 0),.p (.int .i64 0),.p (.str []),.p (.str []),.p (.str [])] h fun t1 h2 y3=>
 pK (z02 [.p (.int .i64 0),.p (.int .i64 0),.p (.int .i64 0),.p (.str []),.p (.str []),.p (.str [])] [(0,1,(AI 1)),(1,1,(AI 1))]) fun t4=>
 pK (z02 [.p (.int .i64 0),.p (.int .i64 0),.p (.int .i64 0),.p (.str []),.p (.str []),.p (.str [])] [(0,1,(AI 2)),(1,1,(AI 1))]) fun t5=>
 pK (z02 [.p (.int .i64 0),.p (.int .i64 0),.p (.int .i64 0),.p (.str []),.p (.str []),.p (.str [])] [(0,1,(AI 3))]) fun t6=>
 pK (z02 [.p (.int .i64 0),.p (.int .i64 0),.p (.int .i64 0),.p (.str []),.p (.str []),.p (.str [])] [(0,1,(AI 4))]) fun t7=>
 pK (z02 [.p (.int .i64 0),.p (.int .i64 0),.p (.int .i64 0),.p (.str []),.p (.str []),.p (.str [])] [(0,1,(AI 5))]) fun t8=>
 pK (z02 [.p (.int .i64 0),.p (.int .i64 0),.p (.int .i64 0),.p (.str []),.p (.str []),.p (.str [])] [(0,1,(AI 6))]) fun t9=>
 pK (z02 [.p (.int .i64 0),.p (.int .i64 0),.p (.int .i64 0),.p (.str []),.p (.str []),.p (.str []),.p (.int .i64 0),.p (.int .i64 0),.p (.int .i64 0),.p (.str []),.p (.str []),.p (.str []),.p (.int .i64 0),.p (.int .i64 0),.p (.int .i64 0),.p (.str []),.p (.str []),.p (.str []),.p (.int .i64 0),.p (.int .i64 0),.p (.int .i64 0),.p (.str []),.p (.str []),.p (.str []),.p (.int .i64 0),.p (.int .i64 0),.p (.int .i64 0),.p (.str []),.p (.str []),.p (.str []),.p (.int .i64 0),.p (.int .i64 0),.p (.int .i64 0),.p (.str []),.p (.str []),.p (.str [])] [(0,6,t4),(6,6,t5),(12,6,t6),(18,6,t7),(24,6,t8),(30,6,t9)]) fun t10=>
 wK (z0n (some 36) t1 t10 h2) fun t11 h12 y13=>
 K .ret ⟨[(0,t1)],h12,(y13 ++ (y3 ++ x))⟩
theorem e_q06r {C gl h x K} : NW C gl zeh.body ⟨enter [],h,x⟩ K = zjG C gl h x K:=by kernel_rfl
def P_q06c : ACode:=(.seq (rg [mV 2 cF] [0])
(.seq (rg [mV 3 0,
bN 4 .eql 3 (cI 7),
mV 5 4,
gD 6 5 false (.mv 0),
gD 7 5 false (.bin .eql 6 (cI 8)),
uO 8 (.pick 5 cT 7),
mV 2 8] [2])
.ret))
def zdV : AFun:=⟨1,[.t 2],P_q06c,false,false⟩
def zbJ (C : Hd) (gl : GL) (v0 : AV) (h : Heap) (x : Esc) (K : KT) : Prop:=
 pK (oBin .eql v0 (AI 7)) fun t1=>
 gM t1 false v0 h fun t2 h3 y4=>
 gP t1 false (oBin .eql t2 (AI 8)) h3 fun t5 h6 y7=>
 pK (z18 t1 (AB true) t5) fun t8=>
 K .ret ⟨[(2,t8)],h6,(y7 ++ (y4 ++ x))⟩
theorem e_q06c {C gl v0 h x K} : NW C gl zdV.body ⟨enter [v0],h,x⟩ K = zbJ C gl v0 h x K:=by kernel_rfl
def z8a : ACode:=.pr [0,3,5,7,9,10,11,12,13,14,93,94] (rg [mV 126 0,
mV 127 13,
mV 128 10,
mV 129 12,
uO 130 (.idxs 128 129),
mV 131 14,
cL 132 z3O [126,127,130,131]] [0,3,5,7,9,10,11,93,94])
def zbQ (C : Hd) (gl : GL) (v0 v3 v5 v7 v9 v10 v11 v12 v13 v14 v93 v94 : AV) (h : Heap) (x : Esc) (K : KT) : Prop:=
 pK (z7O v10 v12) fun t1=>
 C z3O [v0,v13,t1,v14] h fun t2 h3 y4=>
 K .normal ⟨[(0,v0),(3,v3),(5,v5),(7,v7),(9,v9),(10,v10),(11,v11),(93,v93),(94,v94)],h3,(y4 ++ x)⟩
theorem zkK {C gl e h x K} : NW C gl z8a ⟨e,h,x⟩ K = zbQ C gl (aget e 0) (aget e 3) (aget e 5) (aget e 7) (aget e 9) (aget e 10) (aget e 11) (aget e 12) (aget e 13) (aget e 14) (aget e 93) (aget e 94) h x K:=by kernel_rfl
def zaL (q1 : ACode) : ACode:=.pr [0,3,5,7,9,10,11,12,13,14,93,94] (.seq (.seq (rg [mV 102 12,
mV 103 5,
uO 104 (.lens 103),
bN 105 .sub 102 104,
mV 15 105] [0,3,5,7,9,10,11,12,13,14,15,93,94])
(.seq (rg [mV 106 15,
bN 107 .geq 106 (cI 0),
mV 108 107,
gD 109 108 true (.mv 15),
gD 110 108 true (.faddr 5 none 3),
gD 111 108 true (.load none 110),
gD 112 108 true (.lens 111),
gD 113 108 true (.bin .lss 109 112),
uO 114 (.pick 108 113 cF),
mV 115 114,
gD 116 115 true (.faddr 5 none 3),
gD 117 115 true (.load none 116),
gD 118 115 true (.mv 15),
gD 119 115 true (.idxs 117 118),
gD 120 115 true (.bin .eql 119 (.c (.p (.int .u8 49)))),
uO 121 (.pick 115 120 cF)] [0,3,5,7,9,10,11,12,13,14,15,93,94,121])
(.cond 121 (rg [fA 122 4 none 3,
lD 123 none 122,
mV 124 15,
uO 125 (.idxs 123 124),
mV 14 125] [0,3,5,7,9,10,11,12,13,14,93,94])
.skip)))
q1)
def z8b : ACode:=zaL z8a
def z7s (C : Hd) (gl : GL) (q1 : ACode) (v0 v3 v5 v7 v9 v10 v11 v12 v13 v14 v93 v94 : AV) (h : Heap) (x : Esc) (K : KT) : Prop:=
 pK (z1a v5) fun t1=>
 pK (oBin .sub v12 t1) fun t2=>
 pK (oBin .geq t2 (AI 0)) fun t3=>
 gM t3 true t2 h fun t4 h5 y6=>
 gP t3 true (z0e 5 none v3) h5 fun t7 h8 y9=>
 gP t3 true (z0g none t7 h8) h8 fun t10 h11 y12=>
 gP t3 true (z1a t10) h11 fun t13 h14 y15=>
 gP t3 true (oBin .lss t4 t13) h14 fun t16 h17 y18=>
 pK (z18 t3 t16 (AB false)) fun t19=>
 gP t19 true (z0e 5 none v3) h17 fun t20 h21 y22=>
 gP t19 true (z0g none t20 h21) h21 fun t23 h24 y25=>
 gM t19 true t2 h24 fun t26 h27 y28=>
 gP t19 true (z7O t23 t26) h27 fun t29 h30 y31=>
 gP t19 true (oBin .eql t29 (.p (.int .u8 49))) h30 fun t32 h33 y34=>
 pK (z18 t19 t32 (AB false)) fun t35=>
 z0m t35 (pK (z0e 4 none v3) fun t36=>
 pK (z0g none t36 h33) fun t37=>
 pK (z7O t37 t2) fun t38=>
 NW C gl q1 ⟨[(0,v0),(3,v3),(5,v5),(7,v7),(9,v9),(10,v10),(11,v11),(12,v12),(13,v13),(14,t38),(93,v93),(94,v94)],h33,(y34 ++ (y31 ++ (y28 ++ (y25 ++ (y22 ++ (y18 ++ (y15 ++ (y12 ++ (y9 ++ (y6 ++ x))))))))))⟩ K)
 (NW C gl q1 ⟨[(0,v0),(3,v3),(5,v5),(7,v7),(9,v9),(10,v10),(11,v11),(12,v12),(13,v13),(14,v14),(15,t2),(93,v93),(94,v94),(121,t35)],h33,(y34 ++ (y31 ++ (y28 ++ (y25 ++ (y22 ++ (y18 ++ (y15 ++ (y12 ++ (y9 ++ (y6 ++ x))))))))))⟩ K)
theorem zhM {C gl q1 e h x K} : NW C gl (zaL q1) ⟨e,h,x⟩ K = z7s C gl q1 (aget e 0) (aget e 3) (aget e 5) (aget e 7) (aget e 9) (aget e 10) (aget e 11) (aget e 12) (aget e 13) (aget e 14) (aget e 93) (aget e 94) h x K:=by kernel_rfl
theorem zkL {C gl e h x K} : NW C gl z8b ⟨e,h,x⟩ K = z7s C gl z8a (aget e 0) (aget e 3) (aget e 5) (aget e 7) (aget e 9) (aget e 10) (aget e 11) (aget e 12) (aget e 13) (aget e 14) (aget e 93) (aget e 94) h x K:=zhM
def z8c : ACode:=.pr [0,3,5,7,9,10,11,93,94] (rg [bN 133 .add 94 (cI 1),
mV 94 133] [0,3,5,7,9,10,11,93,94])
def zbR (C : Hd) (gl : GL) (v0 v3 v5 v7 v9 v10 v11 v93 v94 : AV) (h : Heap) (x : Esc) (K : KT) : Prop:=
 pK (oBin .add v94 (AI 1)) fun t1=>
 K .normal ⟨[(0,v0),(3,v3),(5,v5),(7,v7),(9,v9),(10,v10),(11,v11),(93,v93),(94,t1)],h,x⟩
theorem zkM {C gl e h x K} : NW C gl z8c ⟨e,h,x⟩ K = zbR C gl (aget e 0) (aget e 3) (aget e 5) (aget e 7) (aget e 9) (aget e 10) (aget e 11) (aget e 93) (aget e 94) h x K:=by kernel_rfl
def zaM (q2 q3 : ACode) : ACode:=.pr [0,3,5,7,9,10,11,93,94] (.seq (rg [bN 95 .lss 94 93] [0,3,5,7,9,10,11,93,94,95])
(.seq (.cond 95 .skip
(.exit 0))
(.seq (.block 1 (.seq (rg [mV 96 94,
mV 12 96] [0,3,5,7,9,10,11,12,93,94])
(.seq (rg [mV 13 (.c (.p (.int .u8 48))),
mV 14 (.c (.p (.int .u8 120)))] [0,3,5,7,9,10,11,12,13,14,93,94])
(.seq (.seq (rg [mV 97 12,
mV 98 10,
uO 99 (.lens 98),
bN 100 .sub 99 (cI 1),
bN 101 .eql 97 100] [0,3,5,7,9,10,11,12,13,14,93,94,101])
(.cond 101 (rg [mV 13 (.c (.p (.int .u8 49)))] [0,3,5,7,9,10,11,12,13,14,93,94])
.skip))
q2))))
q3)))
def z4a : ACode:=zaM z8b z8c
def z7t (C : Hd) (gl : GL) (q2 q3 : ACode) (v0 v3 v5 v7 v9 v10 v11 v93 v94 : AV) (h : Heap) (x : Esc) (K : KT) : Prop:=
 pK (oBin .lss v94 v93) fun t1=>
 z0m t1 (pK (z1a v10) fun t2=>
 pK (oBin .sub t2 (AI 1)) fun t3=>
 pK (oBin .eql v94 t3) fun t4=>
 z0m t4 (NW C gl q2 ⟨[(0,v0),(3,v3),(5,v5),(7,v7),(9,v9),(10,v10),(11,v11),(12,v94),(13,(.p (.int .u8 49))),(14,(.p (.int .u8 120))),(93,v93),(94,v94)],h,x⟩ (z05 1 (seqN C gl q3 K)))
 (NW C gl q2 ⟨[(0,v0),(3,v3),(5,v5),(7,v7),(9,v9),(10,v10),(11,v11),(12,v94),(13,(.p (.int .u8 48))),(14,(.p (.int .u8 120))),(93,v93),(94,v94),(101,t4)],h,x⟩ (z05 1 (seqN C gl q3 K))))
 (K (.exit 0) ⟨[(0,v0),(3,v3),(5,v5),(7,v7),(9,v9),(10,v10),(11,v11),(93,v93),(94,v94),(95,t1)],h,x⟩)
theorem zhN {C gl q2 q3 e h x K} : NW C gl (zaM q2 q3) ⟨e,h,x⟩ K = z7t C gl q2 q3 (aget e 0) (aget e 3) (aget e 5) (aget e 7) (aget e 9) (aget e 10) (aget e 11) (aget e 93) (aget e 94) h x K:=by kernel_rfl
theorem zkN {C gl e h x K} : NW C gl z4a ⟨e,h,x⟩ K = z7t C gl z8b z8c (aget e 0) (aget e 3) (aget e 5) (aget e 7) (aget e 9) (aget e 10) (aget e 11) (aget e 93) (aget e 94) h x K:=zhN
theorem zlZ {C gl e h x K} : NW C gl (.loop z4a) ⟨e,h,x⟩ K = z14 C gl z4a K [(0,aget e 0),(3,aget e 3),(5,aget e 5),(7,aget e 7),(9,aget e 9),(10,aget e 10),(11,aget e 11),(93,aget e 93),(94,aget e 94)] h x:=z13
def z8d : ACode:=.pr [0,7,9,11] (.seq (rg [mV 134 0,
mV 135 9,
uO 136 (.nilchk 134),
fA 137 36 none 136,
wO (.store none 137 135)] [0,7,11])
(.seq (rg [mV 138 0,
mV 139 7,
cL 140 z2Z [138,139]] [11])
(.seq (rg [mV 141 11,
mV 4 141] [4])
.ret)))
def zbS (C : Hd) (gl : GL) (v0 v7 v9 v11 : AV) (h : Heap) (x : Esc) (K : KT) : Prop:=
 pK (oNil v0) fun t1=>
 pK (z0e 36 none t1) fun t2=>
 wK (z0n none t2 v9 h) fun t3 h4 y5=>
 C z2Z [v0,v7] h4 fun t6 h7 y8=>
 K .ret ⟨[(4,v11)],h7,(y8 ++ (y5 ++ x))⟩
theorem zkO {C gl e h x K} : NW C gl z8d ⟨e,h,x⟩ K = zbS C gl (aget e 0) (aget e 7) (aget e 9) (aget e 11) h x K:=by kernel_rfl
def zaN (q4 q5 : ACode) : ACode:=.pr [0,3,5,7,9,10] (.seq (rg [mV 85 0,
uO 86 (.nilchk 85),
fA 87 37 none 86,
lD 88 none 87,
mV 89 5,
uO 90 (.lens 89),
bN 91 .add 88 90,
mV 11 91] [0,3,5,7,9,10,11])
(.seq (.seq (rg [mV 92 10,
uO 93 (.lens 92),
mV 94 (cI 0)] [0,3,5,7,9,10,11,93,94])
(.block 0 (.loop q4)))
q5))
def z8e : ACode:=zaN z4a z8d
def z7u (C : Hd) (gl : GL) (q4 q5 : ACode) (v0 v3 v5 v7 v9 v10 : AV) (h : Heap) (x : Esc) (K : KT) : Prop:=
 pK (oNil v0) fun t1=>
 pK (z0e 37 none t1) fun t2=>
 pK (z0g none t2 h) fun t3=>
 pK (z1a v5) fun t4=>
 pK (oBin .add t3 t4) fun t5=>
 pK (z1a v10) fun t6=>
 NW C gl (.loop q4) ⟨[(0,v0),(3,v3),(5,v5),(7,v7),(9,v9),(10,v10),(11,t5),(93,t6),(94,(AI 0))],h,x⟩ (z05 0 (seqN C gl q5 K))
theorem zhO {C gl q4 q5 e h x K} : NW C gl (zaN q4 q5) ⟨e,h,x⟩ K = z7u C gl q4 q5 (aget e 0) (aget e 3) (aget e 5) (aget e 7) (aget e 9) (aget e 10) h x K:=by kernel_rfl
theorem zkP {C gl e h x K} : NW C gl z8e ⟨e,h,x⟩ K = z7u C gl z4a z8d (aget e 0) (aget e 3) (aget e 5) (aget e 7) (aget e 9) (aget e 10) h x K:=zhO
def zaO (q6 : ACode) : ACode:=.pr [0,3,5,6,7,8,9] (.seq (rg [mV 55 0,
mV 56 8,
cL 57 z2Z [55,56]] [0,3,5,6,7,9])
(.seq (rg [mV 58 5,
fA 59 3 none 3,
lD 60 none 59,
bN 61 .add 58 60,
mV 62 6,
bN 63 .add 61 62,
mV 10 63] [0,3,5,7,9,10])
(.seq (.seq (rg [fA 64 0 none 3,
lD 65 none 64,
bN 66 .eql 65 (cI 7)] [0,3,5,7,9,10,66])
(.cond 66 (rg [mV 67 0,
uO 68 (.nilchk 67),
fA 69 38 none 68,
lD 70 none 69,
mV 71 10,
uO 72 (.lens 71),
bN 73 .add 70 72,
uO 74 (.nilchk 67),
fA 75 38 none 74,
wO (.store none 75 73)] [0,3,5,7,9,10])
(rg [mV 76 0,
uO 77 (.nilchk 76),
fA 78 39 none 77,
lD 79 none 78,
mV 80 10,
uO 81 (.lens 80),
bN 82 .add 79 81,
uO 83 (.nilchk 76),
fA 84 39 none 83,
wO (.store none 84 82)] [0,3,5,7,9,10])))
q6)))
def z5F : ACode:=zaO z8e
def z7v (C : Hd) (gl : GL) (q6 : ACode) (v0 v3 v5 v6 v7 v8 v9 : AV) (h : Heap) (x : Esc) (K : KT) : Prop:=
 C z2Z [v0,v8] h fun t1 h2 y3=>
 pK (z0e 3 none v3) fun t4=>
 pK (z0g none t4 h2) fun t5=>
 pK (oBin .add v5 t5) fun t6=>
 pK (oBin .add t6 v6) fun t7=>
 pK (z0e 0 none v3) fun t8=>
 pK (z0g none t8 h2) fun t9=>
 pK (oBin .eql t9 (AI 7)) fun t10=>
 z0m t10 (pK (oNil v0) fun t11=>
 pK (z0e 38 none t11) fun t12=>
 pK (z0g none t12 h2) fun t13=>
 pK (z1a t7) fun t14=>
 pK (oBin .add t13 t14) fun t15=>
 pK (oNil v0) fun t16=>
 pK (z0e 38 none t16) fun t17=>
 wK (z0n none t17 t15 h2) fun t18 h19 y20=>
 NW C gl q6 ⟨[(0,v0),(3,v3),(5,v5),(7,v7),(9,v9),(10,t7)],h19,(y20 ++ (y3 ++ x))⟩ K)
 (pK (oNil v0) fun t21=>
 pK (z0e 39 none t21) fun t22=>
 pK (z0g none t22 h2) fun t23=>
 pK (z1a t7) fun t24=>
 pK (oBin .add t23 t24) fun t25=>
 pK (oNil v0) fun t26=>
 pK (z0e 39 none t26) fun t27=>
 wK (z0n none t27 t25 h2) fun t28 h29 y30=>
 NW C gl q6 ⟨[(0,v0),(3,v3),(5,v5),(7,v7),(9,v9),(10,t7)],h29,(y30 ++ (y3 ++ x))⟩ K)
theorem zhP {C gl q6 e h x K} : NW C gl (zaO q6) ⟨e,h,x⟩ K = z7v C gl q6 (aget e 0) (aget e 3) (aget e 5) (aget e 6) (aget e 7) (aget e 8) (aget e 9) h x K:=by kernel_rfl
theorem zkQ {C gl e h x K} : NW C gl z5F ⟨e,h,x⟩ K = z7v C gl z8e (aget e 0) (aget e 3) (aget e 5) (aget e 6) (aget e 7) (aget e 8) (aget e 9) h x K:=zhP
def zsi (q7 : ACode) : ACode:=(.seq (rg [uO 3 (.box 1),
mV 4 (cI 0)] [0,3])
(.seq (dr [dF (mV 16 0) [0],
dF (uO 17 (.nilchk 16)) [16],
dF (fA 18 0 (some 36) 17) [17],
dF (fA 19 24 (some 6) 18) [18],
dF (fA 20 3 none 19) [19],
dF (lD 21 none 20) [20],
dF (mV 22 0) [0],
dF (uO 23 (.nilchk 22)) [22],
dF (fA 24 0 (some 36) 23) [23],
dF (fA 25 30 (some 6) 24) [24],
dF (fA 26 3 none 25) [25],
dF (lD 27 none 26) [26],
dF (mV 28 0) [0],
dF (uO 29 (.nilchk 28)) [28],
dF (fA 30 0 (some 36) 29) [29],
dF (fA 31 6 (some 6) 30) [30],
dF (fA 32 1 none 31) [31],
dF (lD 33 none 32) [32],
dF (mV 5 21) [21],
dF (mV 6 27) [27],
dF (mV 7 33) [33],
dF (mV 8 (cI 4)) [],
dF (mV 9 (cI 5)) []] [0,3,5,6,7,8,9])
(.seq (.seq (rg [fA 34 0 none 3,
lD 35 none 34,
bN 36 .eql 35 (cI 7)] [0,3,5,6,7,8,9,36])
(.cond 36 (dr [dF (mV 37 0) [0],
dF (uO 38 (.nilchk 37)) [37],
dF (fA 39 0 (some 36) 38) [38],
dF (fA 40 12 (some 6) 39) [39],
dF (fA 41 3 none 40) [40],
dF (lD 42 none 41) [41],
dF (mV 43 0) [0],
dF (uO 44 (.nilchk 43)) [43],
dF (fA 45 0 (some 36) 44) [44],
dF (fA 46 18 (some 6) 45) [45],
dF (fA 47 3 none 46) [46],
dF (lD 48 none 47) [47],
dF (mV 49 0) [0],
dF (uO 50 (.nilchk 49)) [49],
dF (fA 51 0 (some 36) 50) [50],
dF (fA 52 0 (some 6) 51) [51],
dF (fA 53 1 none 52) [52],
dF (lD 54 none 53) [53],
dF (mV 5 42) [42],
dF (mV 6 48) [48],
dF (mV 7 54) [54],
dF (mV 8 (cI 11)) [],
dF (mV 9 (cI 12)) []] [0,3,5,6,7,8,9])
.skip))
q7)))
def zea : AFun:=⟨2,[.t 4],zsi z5F,false,false⟩
def zbP (C : Hd) (gl : GL) (q7 : ACode) (v0 v1 : AV) (h : Heap) (x : Esc) (K : KT) : Prop:=
 wK (oBox v1 h) fun t1 h2 y3=>
 pK (oNil v0) fun t4=>
 pK (z0e 0 (some 36) t4) fun t5=>
 pK (z0e 24 (some 6) t5) fun t6=>
 pK (z0e 3 none t6) fun t7=>
 pK (z0g none t7 h2) fun t8=>
 pK (oNil v0) fun t9=>
 pK (z0e 0 (some 36) t9) fun t10=>
 pK (z0e 30 (some 6) t10) fun t11=>
 pK (z0e 3 none t11) fun t12=>
 pK (z0g none t12 h2) fun t13=>
 pK (oNil v0) fun t14=>
 pK (z0e 0 (some 36) t14) fun t15=>
 pK (z0e 6 (some 6) t15) fun t16=>
 pK (z0e 1 none t16) fun t17=>
 pK (z0g none t17 h2) fun t18=>
 pK (z0e 0 none t1) fun t19=>
 pK (z0g none t19 h2) fun t20=>
 pK (oBin .eql t20 (AI 7)) fun t21=>
 z0m t21 (pK (oNil v0) fun t22=>
 pK (z0e 0 (some 36) t22) fun t23=>
 pK (z0e 12 (some 6) t23) fun t24=>
 pK (z0e 3 none t24) fun t25=>
 pK (z0g none t25 h2) fun t26=>
 pK (oNil v0) fun t27=>
 pK (z0e 0 (some 36) t27) fun t28=>
 pK (z0e 18 (some 6) t28) fun t29=>
 pK (z0e 3 none t29) fun t30=>
 pK (z0g none t30 h2) fun t31=>
 pK (oNil v0) fun t32=>
 pK (z0e 0 (some 36) t32) fun t33=>
 pK (z0e 0 (some 6) t33) fun t34=>
 pK (z0e 1 none t34) fun t35=>
 pK (z0g none t35 h2) fun t36=>
 NW C gl q7 ⟨[(0,v0),(3,t1),(5,t26),(6,t31),(7,t36),(8,(AI 11)),(9,(AI 12))],h2,(y3 ++ x)⟩ K)
 (NW C gl q7 ⟨[(0,v0),(3,t1),(5,t8),(6,t13),(7,t18),(8,(AI 4)),(9,(AI 5)),(36,t21)],h2,(y3 ++ x)⟩ K)
theorem E_q06k {C gl q7 v0 v1 h x K} : NW C gl (zsi q7) ⟨enter [v0,v1],h,x⟩ K = zbP C gl q7 v0 v1 h x K:=by kernel_rfl
theorem e_q06k {C gl v0 v1 h x K} : NW C gl zea.body ⟨enter [v0,v1],h,x⟩ K = zbP C gl z5F v0 v1 h x K:=E_q06k
def z3o : ACode:=.pr [0,1,4,17,18] (.seq (rg [bN 19 .lss 18 17] [0,1,4,17,18,19])
(.seq (.cond 19 .skip
(.exit 0))
(.seq (.block 1 (.seq (rg [mV 20 18,
mV 6 20] [0,1,4,6,17,18])
(rg [mV 21 0,
mV 22 4,
mV 23 6,
uO 24 (.idxs 22 23),
cL 25 z3O [21,24,(.c (.p (.int .u8 48))),(.c (.p (.int .u8 120)))]] [0,1,4,17,18])))
(rg [bN 26 .add 18 (cI 1),
mV 18 26] [0,1,4,17,18]))))
def zbU (C : Hd) (gl : GL) (v0 v1 v4 v17 v18 : AV) (h : Heap) (x : Esc) (K : KT) : Prop:=
 pK (oBin .lss v18 v17) fun t1=>
 z0m t1 (pK (z7O v4 v18) fun t2=>
 C z3O [v0,t2,(.p (.int .u8 48)),(.p (.int .u8 120))] h fun t3 h4 y5=>
 pK (oBin .add v18 (AI 1)) fun t6=>
 K .normal ⟨[(0,v0),(1,v1),(4,v4),(17,v17),(18,t6)],h4,(y5 ++ x)⟩)
 (K (.exit 0) ⟨[(0,v0),(1,v1),(4,v4),(17,v17),(18,v18),(19,t1)],h,x⟩)
theorem zkT {C gl e h x K} : NW C gl z3o ⟨e,h,x⟩ K = zbU C gl (aget e 0) (aget e 1) (aget e 4) (aget e 17) (aget e 18) h x K:=by kernel_rfl
theorem zmb {C gl e h x K} : NW C gl (.loop z3o) ⟨e,h,x⟩ K = z14 C gl z3o K [(0,aget e 0),(1,aget e 1),(4,aget e 4),(17,aget e 17),(18,aget e 18)] h x:=z13
def z5G : ACode:=.pr [0,1] (rg [mV 27 0,
mV 28 1,
uO 29 (.nilchk 27),
fA 30 36 none 29,
wO (.store none 30 28)] [])
def zbV (C : Hd) (gl : GL) (v0 v1 : AV) (h : Heap) (x : Esc) (K : KT) : Prop:=
 pK (oNil v0) fun t1=>
 pK (z0e 36 none t1) fun t2=>
 wK (z0n none t2 v1 h) fun t3 h4 y5=>
 K .normal ⟨[],h4,(y5 ++ x)⟩
theorem zkU {C gl e h x K} : NW C gl z5G ⟨e,h,x⟩ K = zbV C gl (aget e 0) (aget e 1) h x K:=by kernel_rfl
def zsk (q1 q2 : ACode) : ACode:=(.seq (rg [mV 8 0,
uO 9 (.nilchk 8),
fA 10 36 none 9,
lD 11 none 10,
mV 12 1,
cL 13 z77 [11,12],
mV 7 13,
eX 14 7 0,
eX 15 7 1,
mV 4 14,
mV 5 15] [0,1,4])
(.seq (.seq (rg [mV 16 4,
uO 17 (.lens 16),
mV 18 (cI 0)] [0,1,4,17,18])
(.block 0 (.loop q1)))
q2))
def zec : AFun:=⟨2,[],zsk z3o z5G,false,false⟩
def zeC (C : Hd) (gl : GL) (q1 q2 : ACode) (v0 v1 : AV) (h : Heap) (x : Esc) (K : KT) : Prop:=
 pK (oNil v0) fun t1=>
 pK (z0e 36 none t1) fun t2=>
 pK (z0g none t2 h) fun t3=>
 C z77 [t3,v1] h fun t4 h5 y6=>
 pK (oExt t4 0) fun t7=>
 pK (oExt t4 1) fun t8=>
 pK (z1a t7) fun t9=>
 NW C gl (.loop q1) ⟨[(0,v0),(1,v1),(4,t7),(17,t9),(18,(AI 0))],h5,(y6 ++ x)⟩ (z05 0 (seqN C gl q2 K))
theorem E_q06m {C gl q1 q2 v0 v1 h x K} : NW C gl (zsk q1 q2) ⟨enter [v0,v1],h,x⟩ K = zeC C gl q1 q2 v0 v1 h x K:=by kernel_rfl
theorem e_q06m {C gl v0 v1 h x K} : NW C gl zec.body ⟨enter [v0,v1],h,x⟩ K = zeC C gl z3o z5G v0 v1 h x K:=E_q06m
def P_q06j : ACode:=(.seq (rg [mV 8 0,
uO 9 (.nilchk 8),
fA 10 37 none 9,
lD 11 none 10,
bN 12 .add 11 (cI 1),
uO 13 (.nilchk 8),
fA 14 37 none 13,
wO (.store none 14 12)] [0,1,2,3])
(.seq (rg [mV 15 0,
uO 16 (.nilchk 15),
fA 17 45 none 16,
lD 18 none 17] [0,1,2,3,18])
(.cond 18 (dr [dF (mV 19 0) [0],
dF (mV 20 0) [0],
dF (mV 21 0) [0],
dF (mV 22 0) [0],
dF (uO 23 (.nilchk 22)) [22],
dF (fA 24 42 none 23) [23],
dF (lD 25 none 24) [24],
dF (mV 26 1) [1],
dF (uO 27 (.bsl false none 1 (.int .u8 0) [(0,26)])) [26],
dT (uO 28 (.app none 25 27)) [25,27],
dF (mV 29 0) [0],
dF (uO 30 (.nilchk 29)) [29],
dF (fA 31 43 none 30) [30],
dA (lD 32 none 31) [31] false [9] [],
dF (mV 33 2) [2],
dA (uO 34 (.bsl false none 1 (.int .u8 0) [(0,33)])) [33] false [9] [],
dT (uO 35 (.app none 32 34)) [32,34],
dF (mV 36 0) [0],
dF (uO 37 (.nilchk 36)) [36],
dF (fA 38 44 none 37) [37],
dA (lD 39 none 38) [38] false [9,16] [],
dF (mV 40 3) [3],
dA (uO 41 (.bsl false none 1 (.int .u8 0) [(0,40)])) [40] false [9,16] [],
dT (uO 42 (.app none 39 41)) [39,41],
dF (uO 43 (.nilchk 19)) [19],
dF (fA 44 42 none 43) [43],
dT (wO (.store none 44 28)) [44,28],
dF (uO 45 (.nilchk 20)) [20],
dF (fA 46 43 none 45) [45],
dT (wO (.store none 46 35)) [46,35],
dF (uO 47 (.nilchk 21)) [21],
dF (fA 48 44 none 47) [47],
dT (wO (.store none 48 42)) [48,42]] [])
.skip)))
def zdZ : AFun:=⟨4,[],P_q06j,false,false⟩
def zeB (C : Hd) (gl : GL) (v0 v1 v2 v3 : AV) (h : Heap) (x : Esc) (K : KT) : Prop:=
 pK (oNil v0) fun t1=>
 pK (z0e 37 none t1) fun t2=>
 pK (z0g none t2 h) fun t3=>
 pK (oBin .add t3 (AI 1)) fun t4=>
 pK (oNil v0) fun t5=>
 pK (z0e 37 none t5) fun t6=>
 wK (z0n none t6 t4 h) fun t7 h8 y9=>
 pK (oNil v0) fun t10=>
 pK (z0e 45 none t10) fun t11=>
 pK (z0g none t11 h8) fun t12=>
 z0m t12 (pK (oNil v0) fun t13=>
 pK (z0e 42 none t13) fun t14=>
 pK (z0g none t14 h8) fun t15=>
 wK (oBsl false none 1 (.int .u8 0) [(0,v1)] h8) fun t16 h17 y18=>
 (h17 = h8 ∧ y18 = []) ∧ (wK (oApp none t15 t16 h17) fun t19 h20 y21=>
 pK (oNil v0) fun t22=>
 pK (z0e 43 none t22) fun t23=>
 pK (z0g none t23 h20) fun t24=>
 (pK (z0g none t23 h17) fun v=>(fun u (g1 : Heap) (y1 : Esc)=>u = t24 ∧ g1 = h17 ∧ y1 = []) v h17 []) ∧ (wK (oBsl false none 1 (.int .u8 0) [(0,v2)] h20) fun t25 h26 y27=>
 (h26 = h20 ∧ y27 = []) ∧ ((wK (oBsl false none 1 (.int .u8 0) [(0,v2)] h17) (fun u (g1 : Heap) (y1 : Esc)=>u = t25 ∧ g1 = h17 ∧ y1 = [])) ∧ (wK (oApp none t24 t25 h26) fun t28 h29 y30=>
 pK (oNil v0) fun t31=>
 pK (z0e 44 none t31) fun t32=>
 pK (z0g none t32 h29) fun t33=>
 (pK (z0g none t32 h17) fun v=>(fun u (g1 : Heap) (y1 : Esc)=>u = t33 ∧ g1 = h17 ∧ y1 = []) v h17 []) ∧ ((pK (z0g none t32 h26) fun v=>(fun u (g1 : Heap) (y1 : Esc)=>u = t33 ∧ g1 = h26 ∧ y1 = []) v h26 []) ∧ (wK (oBsl false none 1 (.int .u8 0) [(0,v3)] h29) fun t34 h35 y36=>
 (h35 = h29 ∧ y36 = []) ∧ ((wK (oBsl false none 1 (.int .u8 0) [(0,v3)] h17) (fun u (g1 : Heap) (y1 : Esc)=>u = t34 ∧ g1 = h17 ∧ y1 = [])) ∧ ((wK (oBsl false none 1 (.int .u8 0) [(0,v3)] h26) (fun u (g1 : Heap) (y1 : Esc)=>u = t34 ∧ g1 = h26 ∧ y1 = [])) ∧ (wK (oApp none t33 t34 h35) fun t37 h38 y39=>
 pK (oNil v0) fun t40=>
 pK (z0e 42 none t40) fun t41=>
 wK (z0n none t41 t19 h38) fun t42 h43 y44=>
 pK (oNil v0) fun t45=>
 pK (z0e 43 none t45) fun t46=>
 wK (z0n none t46 t28 h43) fun t47 h48 y49=>
 pK (oNil v0) fun t50=>
 pK (z0e 44 none t50) fun t51=>
 wK (z0n none t51 t37 h48) fun t52 h53 y54=>
 K .normal ⟨[],h53,(y54 ++ (y49 ++ (y44 ++ (y39 ++ (y36 ++ (y30 ++ (y27 ++ (y21 ++ (y18 ++ (y9 ++ x))))))))))⟩))))))))))
 (K .normal ⟨[(0,v0),(1,v1),(2,v2),(3,v3),(18,t12)],h8,(y9 ++ x)⟩)
theorem e_q06j {C gl v0 v1 v2 v3 h x K} : NW C gl zdZ.body ⟨enter [v0,v1,v2,v3],h,x⟩ K = zeB C gl v0 v1 v2 v3 h x K:=by kernel_rfl
def z3d : ACode:=.pr [0,5,6,7] (.seq (rg [bN 8 .lss 7 6] [0,5,6,7,8])
(.seq (.cond 8 .skip
(.exit 0))
(.seq (.block 1 (rg [mV 9 5,
mV 10 0,
uO 11 (.bsl false none 2 (.str []) [(0,(cS [48])),(1,(cS [49]))]),
cL 12 z2r [10,11],
bN 13 .add 9 12,
mV 5 13] [0,5,6,7]))
(rg [bN 14 .add 7 (cI 1),
mV 7 14] [0,5,6,7]))))
def zbt (C : Hd) (gl : GL) (v0 v5 v6 v7 : AV) (h : Heap) (x : Esc) (K : KT) : Prop:=
 pK (oBin .lss v7 v6) fun t1=>
 z0m t1 (wK (oBsl false none 2 (.str []) [(0,(.p (.str [48]))),(1,(.p (.str [49])))] h) fun t2 h3 y4=>
 C z2r [v0,t2] h3 fun t5 h6 y7=>
 pK (oBin .add v5 t5) fun t8=>
 pK (oBin .add v7 (AI 1)) fun t9=>
 K .normal ⟨[(0,v0),(5,t8),(6,v6),(7,t9)],h6,(y7 ++ (y4 ++ x))⟩)
 (K (.exit 0) ⟨[(0,v0),(5,v5),(6,v6),(7,v7),(8,t1)],h,x⟩)
theorem zki {C gl e h x K} : NW C gl z3d ⟨e,h,x⟩ K = zbt C gl (aget e 0) (aget e 5) (aget e 6) (aget e 7) h x K:=by kernel_rfl
theorem zlL {C gl e h x K} : NW C gl (.loop z3d) ⟨e,h,x⟩ K = z14 C gl z3d K [(0,aget e 0),(5,aget e 5),(6,aget e 6),(7,aget e 7)] h x:=z13
def z5y : ACode:=.pr [5] (.seq (rg [mV 15 5,
mV 4 15] [4])
.ret)
def zbu (C : Hd) (gl : GL) (v5 : AV) (h : Heap) (x : Esc) (K : KT) : Prop:=
 K .ret ⟨[(4,v5)],h,x⟩
theorem zkj {C gl e h x K} : NW C gl z5y ⟨e,h,x⟩ K = zbu C gl (aget e 5) h x K:=by kernel_rfl
def zrT (q1 q2 : ACode) : ACode:=(.seq (rg [mV 4 (cS [])] [0,1])
(.seq (rg [mV 5 (cS [])] [0,1,5])
(.seq (.seq (rg [mV 6 1,
mV 7 (cI 0)] [0,5,6,7])
(.block 0 (.loop q1)))
q2)))
def zi1 : AFun:=⟨2,[.t 4],zrT z3d z5y,false,false⟩
def zew (C : Hd) (gl : GL) (q1 q2 : ACode) (v0 v1 : AV) (h : Heap) (x : Esc) (K : KT) : Prop:=
 NW C gl (.loop q1) ⟨[(0,v0),(5,(.p (.str []))),(6,v1),(7,(AI 0))],h,x⟩ (z05 0 (seqN C gl q2 K))
theorem E_q02x {C gl q1 q2 v0 v1 h x K} : NW C gl (zrT q1 q2) ⟨enter [v0,v1],h,x⟩ K = zew C gl q1 q2 v0 v1 h x K:=by kernel_rfl
theorem e_q02x {C gl v0 v1 h x K} : NW C gl zi1.body ⟨enter [v0,v1],h,x⟩ K = zew C gl z3d z5y v0 v1 h x K:=E_q02x
def P_q02s : ACode:=(.seq (rg [mV 6 (cI 0)] [0,1,2])
(.seq (.seq (rg [mV 7 0,
cL 8 z2q [7,(cI 12)]] [0,1,2,8])
(.cond 8 (.seq (rg [mV 9 0,
mV 10 1,
bN 11 .sub 10 (cI 1),
mV 12 2,
bN 13 .add 12 (cI 1),
mV 14 1,
mV 15 2,
uO 16 (.bsl false none 6 (.int .i64 0) [(0,11),(1,13),(2,14),(3,15),(4,(cI (-1099511627776))),(5,(cI 1099511627776))]),
cL 17 z1s [9,16],
mV 6 17] [6])
.ret)
.skip))
(.seq (rg [mV 18 0,
mV 19 1,
mV 20 2,
cL 21 z3L [18,19,20],
mV 6 21] [6])
.ret)))
def ziw : AFun:=⟨3,[.t 6],P_q02s,false,false⟩
def zeu (C : Hd) (gl : GL) (v0 v1 v2 : AV) (h : Heap) (x : Esc) (K : KT) : Prop:=
 C z2q [v0,(AI 12)] h fun t1 h2 y3=>
 z0m t1 (pK (oBin .sub v1 (AI 1)) fun t4=>
 pK (oBin .add v2 (AI 1)) fun t5=>
 wK (oBsl false none 6 (.int .i64 0) [(0,t4),(1,t5),(2,v1),(3,v2),(4,(AI (-1099511627776))),(5,(AI 1099511627776))] h2) fun t6 h7 y8=>
 C z1s [v0,t6] h7 fun t9 h10 y11=>
 K .ret ⟨[(6,t9)],h10,(y11 ++ (y8 ++ (y3 ++ x)))⟩)
 (C z3L [v0,v1,v2] h2 fun t12 h13 y14=>
 K .ret ⟨[(6,t12)],h13,(y14 ++ (y3 ++ x))⟩)
theorem e_q02s {C gl v0 v1 v2 h x K} : NW C gl ziw.body ⟨enter [v0,v1,v2],h,x⟩ K = zeu C gl v0 v1 v2 h x K:=by kernel_rfl
def P_q02w : ACode:=(.seq (rg [mV 4 (cS [])] [0,1])
(.seq (rg [mV 5 1,
mV 6 0,
mV 7 1,
lN 8 7,
cL 9 z1Y [6,8],
iA 10 none 5 9,
lD 11 none 10,
mV 4 11] [4])
.ret))
def zi0 : AFun:=⟨2,[.t 4],P_q02w,false,false⟩
def zj5 (C : Hd) (gl : GL) (v0 v1 : AV) (h : Heap) (x : Esc) (K : KT) : Prop:=
 pK (oLen v1) fun t1=>
 C z1Y [v0,t1] h fun t2 h3 y4=>
 pK (z0N none v1 t2 h3) fun t5=>
 pK (z0g none t5 h3) fun t6=>
 K .ret ⟨[(4,t6)],h3,(y4 ++ x)⟩
theorem e_q02w {C gl v0 v1 h x K} : NW C gl zi0.body ⟨enter [v0,v1],h,x⟩ K = zj5 C gl v0 v1 h x K:=by kernel_rfl
def P_q04z : ACode:=(.seq (rg [mV 2 0,
uO 3 (.nilchk 2),
fA 4 0 none 3,
lD 5 none 4,
uO 6 (.isnil 0 false 5)] [0,6])
(.cond 6 (rg [mV 7 0,
mV 8 0,
uO 9 (.uns 1 106 [8]),
uO 10 (.uns 7 z0Q [(.f z0Q),9]),
uO 11 (.uns 1 106 [10]),
uO 12 (.nilchk 7),
fA 13 0 none 12,
wO (.store none 13 11)] [])
(.seq (rg [mV 14 0,
uO 15 (.nilchk 14),
fA 16 0 none 15,
lD 17 none 16,
mV 18 0,
uO 19 (.uns 2 0 [17,18])] [19])
(.cond 19 .bad
.skip))))
def ziI : AFun:=⟨1,[],P_q04z,false,false⟩
def ze5 (C : Hd) (gl : GL) (v0 : AV) (h : Heap) (x : Esc) (K : KT) : Prop:=
 pK (oNil v0) fun t1=>
 pK (z0e 0 none t1) fun t2=>
 pK (z0g none t2 h) fun t3=>
 pK (zcu 0 false t3) fun t4=>
 z0m t4 (wK (z12 1 106 [v0] h) fun t5 h6 y7=>
 wK (z12 7 z0Q [(.fn z0Q []),t5] h6) fun t8 h9 y10=>
 wK (z12 1 106 [t8] h9) fun t11 h12 y13=>
 pK (oNil v0) fun t14=>
 pK (z0e 0 none t14) fun t15=>
 wK (z0n none t15 t11 h12) fun t16 h17 y18=>
 K .normal ⟨[],h17,(y18 ++ (y13 ++ (y10 ++ (y7 ++ x))))⟩)
 (pK (oNil v0) fun t19=>
 pK (z0e 0 none t19) fun t20=>
 pK (z0g none t20 h) fun t21=>
 wK (z12 2 0 [t21,v0] h) fun t22 h23 y24=>
 z0m t22 (False)
 (K .normal ⟨[(19,t22)],h23,(y24 ++ x)⟩))
theorem e_q04z {C gl v0 h x K} : NW C gl ziI.body ⟨enter [v0],h,x⟩ K = ze5 C gl v0 h x K:=by kernel_rfl
def P_q03p : ACode:=(.seq (rg [mV 2 cF] [0])
(.seq (rg [uO 3 (.bsl false none 4 (.int .i64 0) [(0,(cI 0)),(1,(cI 1)),(2,(cI 6)),(3,(cI 13))]),
mV 4 0,
cL 5 z4E [3,4],
mV 2 5] [2])
.ret))
def ziF : AFun:=⟨1,[.t 2],P_q03p,false,false⟩
def zj9 (C : Hd) (gl : GL) (v0 : AV) (h : Heap) (x : Esc) (K : KT) : Prop:=
 wK (oBsl false none 4 (.int .i64 0) [(0,(AI 0)),(1,(AI 1)),(2,(AI 6)),(3,(AI 13))] h) fun t1 h2 y3=>
 C z4E [t1,v0] h2 fun t4 h5 y6=>
 K .ret ⟨[(2,t4)],h5,(y6 ++ (y3 ++ x))⟩
theorem e_q03p {C gl v0 h x K} : NW C gl ziF.body ⟨enter [v0],h,x⟩ K = zj9 C gl v0 h x K:=by kernel_rfl
end Go.Am
end
section
/- The functions asv abstract code,and asv formulas over their values: printed by program out of the translation. -/
set_option linter.unusedVariables false
set_option maxRecDepth 100000
namespace Go.Am
def P_q03i : ACode:=(.seq (rg [mV 6 cF] [0,1,2])
(.seq (rg [mV 7 1,
mV 8 0,
bN 9 .leq 7 8,
mV 10 9,
gD 11 10 true (.mv 0),
gD 12 10 true (.mv 2),
gD 13 10 true (.bin .leq 11 12),
uO 14 (.pick 10 13 cF),
mV 6 14] [6])
.ret))
def ziA : AFun:=⟨3,[.t 6],P_q03i,false,false⟩
def zj8 (C : Hd) (gl : GL) (v0 v1 v2 : AV) (h : Heap) (x : Esc) (K : KT) : Prop:=
 pK (oBin .leq v1 v0) fun t1=>
 gM t1 true v0 h fun t2 h3 y4=>
 gM t1 true v2 h3 fun t5 h6 y7=>
 gP t1 true (oBin .leq t2 t5) h6 fun t8 h9 y10=>
 pK (z18 t1 t8 (AB false)) fun t11=>
 K .ret ⟨[(6,t11)],h9,(y10 ++ (y7 ++ (y4 ++ x)))⟩
theorem e_q03i {C gl v0 v1 v2 h x K} : NW C gl ziA.body ⟨enter [v0,v1,v2],h,x⟩ K = zj8 C gl v0 v1 v2 h x K:=by kernel_rfl
def P_q031 : ACode:=(.seq (rg [mV 2 cF] [0])
(.seq (rg [mV 3 0,
cL 4 z9e [3,(cS [48,49])],
mV 2 4] [2])
.ret))
def zi5 : AFun:=⟨1,[.t 2],P_q031,false,false⟩
def zj7 (C : Hd) (gl : GL) (v0 : AV) (h : Heap) (x : Esc) (K : KT) : Prop:=
 C z9e [v0,(.p (.str [48,49]))] h fun t1 h2 y3=>
 K .ret ⟨[(2,t1)],h2,(y3 ++ x)⟩
theorem e_q031 {C gl v0 h x K} : NW C gl zi5.body ⟨enter [v0],h,x⟩ K = zj7 C gl v0 h x K:=by kernel_rfl
def P_q03n : ACode:=(.seq (rg [uO 1 (.box 0),
mV 2 (cI 0)] [1])
(.seq (.block 0 (.seq (rg [fA 4 3 none 1,
lD 5 none 4,
bN 6 .eql 5 (cS []),
mV 3 6] [1,3])
(.cond 3 (.seq (rg [mV 2 (cI 8)] [2])
.ret)
(.seq (rg [fA 8 3 none 1,
lD 9 none 8,
cL 10 z3B [9],
uO 11 (.un .not 10),
mV 7 11] [1,7])
(.cond 7 (.seq (rg [mV 2 (cI 9)] [2])
.ret)
(.seq (rg [fA 13 3 none 1,
lD 14 none 13,
uO 15 (.lens 14),
bN 16 .gtr 15 (cI 2000),
mV 12 16] [1,12])
(.cond 12 (.seq (rg [mV 2 (cI 2)] [2])
.ret)
(.seq (rg [fA 18 4 none 1,
lD 19 none 18,
bN 20 .neq 19 (cS []),
mV 21 20,
gD 22 21 true (.faddr 4 none 1),
gD 23 21 true (.load none 22),
gD 24 21 true (.lens 23),
gD 25 21 true (.faddr 3 none 1),
gD 26 21 true (.load none 25),
gD 27 21 true (.lens 26),
gD 28 21 true (.bin .neq 24 27),
gD 29 21 true (.mv 28),
gD 30 29 false (.faddr 5 none 1),
gD 31 29 false (.load none 30),
gD 32 29 false (.lens 31),
gD 33 29 false (.faddr 3 none 1),
gD 34 29 false (.load none 33),
gD 35 29 false (.lens 34),
gD 36 29 false (.bin .neq 32 35),
gD 37 21 true (.pick 29 cT 36),
uO 38 (.pick 21 37 cF),
mV 17 38] [1,17])
(.cond 17 (.seq (rg [mV 2 (cI 3)] [2])
.ret)
(.seq (rg [fA 40 4 none 1,
lD 41 none 40,
cL 42 z3B [41],
uO 43 (.un .not 42),
mV 44 43,
gD 45 44 false (.faddr 5 none 1),
gD 46 44 false (.load none 45),
gD 47 44 false (.call z3B [46]),
gD 48 44 false (.un .not 47),
uO 49 (.pick 44 cT 48),
mV 39 49] [1,39])
(.cond 39 (.seq (rg [mV 2 (cI 9)] [2])
.ret)
(.seq (rg [fA 51 4 none 1,
lD 52 none 51,
bN 53 .eql 52 (cS []),
mV 54 53,
gD 55 54 true (.faddr 5 none 1),
gD 56 54 true (.load none 55),
gD 57 54 true (.bin .neq 56 (cS [])),
uO 58 (.pick 54 57 cF),
mV 50 58] [50])
(.cond 50 (.seq (rg [mV 2 (cI 3)] [2])
.ret)
.skip)))))))))))))
(.seq (rg [mV 2 (cI 0)] [2])
.ret)))
def ziE : AFun:=⟨1,[.t 2],P_q03n,false,false⟩
def z2U (C : Hd) (gl : GL) (v0 : AV) (h : Heap) (x : Esc) (K : KT) : Prop:=
 wK (oBox v0 h) fun t1 h2 y3=>
 pK (z0e 3 none t1) fun t4=>
 pK (z0g none t4 h2) fun t5=>
 pK (oBin .eql t5 (.p (.str []))) fun t6=>
 z0m t6 (K .ret ⟨[(2,(AI 8))],h2,(y3 ++ x)⟩)
 (pK (z0e 3 none t1) fun t7=>
 pK (z0g none t7 h2) fun t8=>
 C z3B [t8] h2 fun t9 h10 y11=>
 pK (oUn .not t9) fun t12=>
 z0m t12 (K .ret ⟨[(2,(AI 9))],h10,(y11 ++ (y3 ++ x))⟩)
 (pK (z0e 3 none t1) fun t13=>
 pK (z0g none t13 h10) fun t14=>
 pK (z1a t14) fun t15=>
 pK (oBin .gtr t15 (AI 2000)) fun t16=>
 z0m t16 (K .ret ⟨[(2,(AI 2))],h10,(y11 ++ (y3 ++ x))⟩)
 (pK (z0e 4 none t1) fun t17=>
 pK (z0g none t17 h10) fun t18=>
 pK (oBin .neq t18 (.p (.str []))) fun t19=>
 gP t19 true (z0e 4 none t1) h10 fun t20 h21 y22=>
 gP t19 true (z0g none t20 h21) h21 fun t23 h24 y25=>
 gP t19 true (z1a t23) h24 fun t26 h27 y28=>
 gP t19 true (z0e 3 none t1) h27 fun t29 h30 y31=>
 gP t19 true (z0g none t29 h30) h30 fun t32 h33 y34=>
 gP t19 true (z1a t32) h33 fun t35 h36 y37=>
 gP t19 true (oBin .neq t26 t35) h36 fun t38 h39 y40=>
 gM t19 true t38 h39 fun t41 h42 y43=>
 gP t41 false (z0e 5 none t1) h42 fun t44 h45 y46=>
 gP t41 false (z0g none t44 h45) h45 fun t47 h48 y49=>
 gP t41 false (z1a t47) h48 fun t50 h51 y52=>
 gP t41 false (z0e 3 none t1) h51 fun t53 h54 y55=>
 gP t41 false (z0g none t53 h54) h54 fun t56 h57 y58=>
 gP t41 false (z1a t56) h57 fun t59 h60 y61=>
 gP t41 false (oBin .neq t50 t59) h60 fun t62 h63 y64=>
 gP t19 true (z18 t41 (AB true) t62) h63 fun t65 h66 y67=>
 pK (z18 t19 t65 (AB false)) fun t68=>
 z0m t68 (K .ret ⟨[(2,(AI 3))],h66,(y67 ++ (y64 ++ (y61 ++ (y58 ++ (y55 ++ (y52 ++ (y49 ++ (y46 ++ (y43 ++ (y40 ++ (y37 ++ (y34 ++ (y31 ++ (y28 ++ (y25 ++ (y22 ++ (y11 ++ (y3 ++ x))))))))))))))))))⟩)
 (pK (z0e 4 none t1) fun t69=>
 pK (z0g none t69 h66) fun t70=>
 C z3B [t70] h66 fun t71 h72 y73=>
 pK (oUn .not t71) fun t74=>
 gP t74 false (z0e 5 none t1) h72 fun t75 h76 y77=>
 gP t74 false (z0g none t75 h76) h76 fun t78 h79 y80=>
 gV t74 false h79 (C z3B [t78] h79) fun t81 h82 y83=>
 gP t74 false (oUn .not t81) h82 fun t84 h85 y86=>
 pK (z18 t74 (AB true) t84) fun t87=>
 z0m t87 (K .ret ⟨[(2,(AI 9))],h85,(y86 ++ (y83 ++ (y80 ++ (y77 ++ (y73 ++ (y67 ++ (y64 ++ (y61 ++ (y58 ++ (y55 ++ (y52 ++ (y49 ++ (y46 ++ (y43 ++ (y40 ++ (y37 ++ (y34 ++ (y31 ++ (y28 ++ (y25 ++ (y22 ++ (y11 ++ (y3 ++ x)))))))))))))))))))))))⟩)
 (pK (z0e 4 none t1) fun t88=>
 pK (z0g none t88 h85) fun t89=>
 pK (oBin .eql t89 (.p (.str []))) fun t90=>
 gP t90 true (z0e 5 none t1) h85 fun t91 h92 y93=>
 gP t90 true (z0g none t91 h92) h92 fun t94 h95 y96=>
 gP t90 true (oBin .neq t94 (.p (.str []))) h95 fun t97 h98 y99=>
 pK (z18 t90 t97 (AB false)) fun t100=>
 z0m t100 (K .ret ⟨[(2,(AI 3))],h98,(y99 ++ (y96 ++ (y93 ++ (y86 ++ (y83 ++ (y80 ++ (y77 ++ (y73 ++ (y67 ++ (y64 ++ (y61 ++ (y58 ++ (y55 ++ (y52 ++ (y49 ++ (y46 ++ (y43 ++ (y40 ++ (y37 ++ (y34 ++ (y31 ++ (y28 ++ (y25 ++ (y22 ++ (y11 ++ (y3 ++ x))))))))))))))))))))))))))⟩)
 (K .ret ⟨[(2,(AI 0))],h98,(y99 ++ (y96 ++ (y93 ++ (y86 ++ (y83 ++ (y80 ++ (y77 ++ (y73 ++ (y67 ++ (y64 ++ (y61 ++ (y58 ++ (y55 ++ (y52 ++ (y49 ++ (y46 ++ (y43 ++ (y40 ++ (y37 ++ (y34 ++ (y31 ++ (y28 ++ (y25 ++ (y22 ++ (y11 ++ (y3 ++ x))))))))))))))))))))))))))⟩))))))
theorem e_q03n {C gl v0 h x K} : NW C gl ziE.body ⟨enter [v0],h,x⟩ K = z2U C gl v0 h x K:=by kernel_rfl
def z3k : ACode:=.pr [0,3,4,8,9] (.seq (rg [bN 10 .lss 9 8] [0,3,4,8,9,10])
(.seq (.cond 10 .skip
(.exit 0))
(.seq (.block 1 (.seq (rg [mV 11 9,
mV 5 11] [0,3,4,5,8,9])
(.seq (rg [mV 12 0,
mV 13 5,
mV 14 4,
cL 15 z3M [12,13,14],
uO 6 (.alloc [.p (.str []),.p (.str []),.p (.str []),.p (.int .i64 0),.p (.int .i64 0)]),
wO (.store (some 5) 6 15)] [0,3,6,8,9])
(dr [dF (mV 16 3) [3],
dF (lD 17 (some 5) 6) [6],
dF (uO 18 (.bsl false (some 5) 1 (.agg [.str [],.str [],.str [],.int .i64 0,.int .i64 0]) [(0,17)])) [17],
dT (uO 19 (.app (some 5) 16 18)) [16,18],
dF (fA 20 4 none 6) [6],
dA (lD 21 none 20) [20] false [3] [],
dF (mV 3 19) [19],
dF (mV 4 21) [21]] [0,3,4,8,9]))))
(rg [bN 22 .add 9 (cI 1),
mV 9 22] [0,3,4,8,9]))))
def zb9 (C : Hd) (gl : GL) (v0 v3 v4 v8 v9 : AV) (h : Heap) (x : Esc) (K : KT) : Prop:=
 pK (oBin .lss v9 v8) fun t1=>
 z0m t1 (C z3M [v0,v9,v4] h fun t2 h3 y4=>
 alK [.p (.str []),.p (.str []),.p (.str []),.p (.int .i64 0),.p (.int .i64 0)] h3 fun t5 h6 y7=>
 wK (z0n (some 5) t5 t2 h6) fun t8 h9 y10=>
 pK (z0g (some 5) t5 h9) fun t11=>
 wK (oBsl false (some 5) 1 (.agg [.str [],.str [],.str [],.int .i64 0,.int .i64 0]) [(0,t11)] h9) fun t12 h13 y14=>
 (h13 = h9 ∧ y14 = []) ∧ (wK (oApp (some 5) v3 t12 h13) fun t15 h16 y17=>
 pK (z0e 4 none t5) fun t18=>
 pK (z0g none t18 h16) fun t19=>
 (pK (z0g none t18 h13) fun v=>(fun u (g1 : Heap) (y1 : Esc)=>u = t19 ∧ g1 = h13 ∧ y1 = []) v h13 []) ∧ (pK (oBin .add v9 (AI 1)) fun t20=>
 K .normal ⟨[(0,v0),(3,t15),(4,t19),(8,v8),(9,t20)],h16,(y17 ++ (y14 ++ (y10 ++ (y7 ++ (y4 ++ x)))))⟩)))
 (K (.exit 0) ⟨[(0,v0),(3,v3),(4,v4),(8,v8),(9,v9),(10,t1)],h,x⟩)
theorem zk7 {C gl e h x K} : NW C gl z3k ⟨e,h,x⟩ K = zb9 C gl (aget e 0) (aget e 3) (aget e 4) (aget e 8) (aget e 9) h x K:=by kernel_rfl
theorem zlT {C gl e h x K} : NW C gl (.loop (.scope z3k)) ⟨e,h,x⟩ K = z14 C gl (.scope z3k) K [(0,aget e 0),(3,aget e 3),(4,aget e 4),(8,aget e 8),(9,aget e 9)] h x:=z1Q
def z5A : ACode:=.pr [3] (.seq (rg [mV 23 3,
mV 2 23] [2])
.ret)
def zbA (C : Hd) (gl : GL) (v3 : AV) (h : Heap) (x : Esc) (K : KT) : Prop:=
 K .ret ⟨[(2,v3)],h,x⟩
theorem zk8 {C gl e h x K} : NW C gl z5A ⟨e,h,x⟩ K = zbA C gl (aget e 3) h x K:=by kernel_rfl
def zsc (q1 q2 : ACode) : ACode:=(.seq (rg [mV 2 (.c (.p (.sl (some 5) [])))] [0])
(.seq (rg [uO 3 (.new0 (some 5))] [0,3])
(.seq (rg [mV 4 (cI 0)] [0,3,4])
(.seq (.seq (rg [mV 7 0,
lN 8 7,
mV 9 (cI 0)] [0,3,4,8,9])
(.block 0 (.loop (.scope q1))))
q2))))
def ziD : AFun:=⟨1,[.t 2],zsc z3k z5A,false,false⟩
def ze2 (C : Hd) (gl : GL) (q1 q2 : ACode) (v0 : AV) (h : Heap) (x : Esc) (K : KT) : Prop:=
 nwK (some 5) h fun t1 h2 y3=>
 pK (oLen v0) fun t4=>
 NW C gl (.loop (.scope q1)) ⟨[(0,v0),(3,t1),(4,(AI 0)),(8,t4),(9,(AI 0))],h2,(y3 ++ x)⟩ (z05 0 (seqN C gl q2 K))
theorem E_q03m {C gl q1 q2 v0 h x K} : NW C gl (zsc q1 q2) ⟨enter [v0],h,x⟩ K = ze2 C gl q1 q2 v0 h x K:=by kernel_rfl
theorem e_q03m {C gl v0 h x K} : NW C gl ziD.body ⟨enter [v0],h,x⟩ K = ze2 C gl z3k z5A v0 h x K:=E_q03m
def z3l : ACode:=.pr [0,1,7,8] (.seq (rg [bN 9 .lss 8 7] [0,1,7,8,9])
(.seq (.cond 9 .skip
(.exit 0))
(.seq (.block 1 (.seq (rg [mV 10 8,
mV 5 10] [0,1,5,7,8])
(.seq (rg [mV 11 1,
mV 12 0,
mV 13 5,
iA 14 none 12 13,
lD 15 none 14,
bN 16 .eql 11 15] [0,1,5,7,8,16])
(.cond 16 (.seq (rg [mV 17 5,
mV 4 17] [4])
.ret)
.skip))))
(rg [bN 18 .add 8 (cI 1),
mV 8 18] [0,1,7,8]))))
def zbB (C : Hd) (gl : GL) (v0 v1 v7 v8 : AV) (h : Heap) (x : Esc) (K : KT) : Prop:=
 pK (oBin .lss v8 v7) fun t1=>
 z0m t1 (pK (z0N none v0 v8 h) fun t2=>
 pK (z0g none t2 h) fun t3=>
 pK (oBin .eql v1 t3) fun t4=>
 z0m t4 (K .ret ⟨[(4,v8)],h,x⟩)
 (pK (oBin .add v8 (AI 1)) fun t5=>
 K .normal ⟨[(0,v0),(1,v1),(7,v7),(8,t5)],h,x⟩))
 (K (.exit 0) ⟨[(0,v0),(1,v1),(7,v7),(8,v8),(9,t1)],h,x⟩)
theorem zk9 {C gl e h x K} : NW C gl z3l ⟨e,h,x⟩ K = zbB C gl (aget e 0) (aget e 1) (aget e 7) (aget e 8) h x K:=by kernel_rfl
theorem zlU {C gl e h x K} : NW C gl (.loop z3l) ⟨e,h,x⟩ K = z14 C gl z3l K [(0,aget e 0),(1,aget e 1),(7,aget e 7),(8,aget e 8)] h x:=z13
def z5B : ACode:=.pr [] (.seq (rg [mV 4 (cI (-1))] [4])
.ret)
def zbC (C : Hd) (gl : GL) (h : Heap) (x : Esc) (K : KT) : Prop:=
 K .ret ⟨[(4,(AI (-1)))],h,x⟩
theorem zkA {C gl e h x K} : NW C gl z5B ⟨e,h,x⟩ K = zbC C gl h x K:=by kernel_rfl
def zsd (q1 q2 : ACode) : ACode:=(.seq (rg [mV 4 (cI 0)] [0,1])
(.seq (.seq (rg [mV 6 0,
lN 7 6,
mV 8 (cI 0)] [0,1,7,8])
(.block 0 (.loop q1)))
q2))
def zdQ : AFun:=⟨2,[.t 4],zsd z3l z5B,true,false⟩
def ze3 (C : Hd) (gl : GL) (q1 q2 : ACode) (v0 v1 : AV) (h : Heap) (x : Esc) (K : KT) : Prop:=
 pK (oLen v0) fun t1=>
 NW C gl (.loop q1) ⟨[(0,v0),(1,v1),(7,t1),(8,(AI 0))],h,x⟩ (z05 0 (seqN C gl q2 K))
theorem E_q044 {C gl q1 q2 v0 v1 h x K} : NW C gl (zsd q1 q2) ⟨enter [v0,v1],h,x⟩ K = ze3 C gl q1 q2 v0 v1 h x K:=by kernel_rfl
theorem e_q044 {C gl v0 v1 h x K} : NW C gl zdQ.body ⟨enter [v0,v1],h,x⟩ K = ze3 C gl z3l z5B v0 v1 h x K:=E_q044
def P_q06q : ACode:=(.seq (rg [mV 2 cF] [0])
(.seq (rg [mV 3 0,
bN 4 .eql 3 (cI 0),
mV 5 4,
gD 6 5 false (.mv 0),
gD 7 5 false (.bin .eql 6 (cI 1)),
uO 8 (.pick 5 cT 7),
mV 9 8,
gD 10 9 false (.mv 0),
gD 11 9 false (.bin .eql 10 (cI 6)),
uO 12 (.pick 9 cT 11),
mV 13 12,
gD 14 13 false (.mv 0),
gD 15 13 false (.bin .eql 14 (cI 13)),
uO 16 (.pick 13 cT 15),
mV 2 16] [2])
.ret))
def zeg : AFun:=⟨1,[.t 2],P_q06q,false,false⟩
def z7w (C : Hd) (gl : GL) (v0 : AV) (h : Heap) (x : Esc) (K : KT) : Prop:=
 pK (oBin .eql v0 (AI 0)) fun t1=>
 gM t1 false v0 h fun t2 h3 y4=>
 gP t1 false (oBin .eql t2 (AI 1)) h3 fun t5 h6 y7=>
 pK (z18 t1 (AB true) t5) fun t8=>
 gM t8 false v0 h6 fun t9 h10 y11=>
 gP t8 false (oBin .eql t9 (AI 6)) h10 fun t12 h13 y14=>
 pK (z18 t8 (AB true) t12) fun t15=>
 gM t15 false v0 h13 fun t16 h17 y18=>
 gP t15 false (oBin .eql t16 (AI 13)) h17 fun t19 h20 y21=>
 pK (z18 t15 (AB true) t19) fun t22=>
 K .ret ⟨[(2,t22)],h20,(y21 ++ (y18 ++ (y14 ++ (y11 ++ (y7 ++ (y4 ++ x))))))⟩
theorem e_q06q {C gl v0 h x K} : NW C gl zeg.body ⟨enter [v0],h,x⟩ K = z7w C gl v0 h x K:=by kernel_rfl
def P_q06n : ACode:=(.seq (rg [uO 1 (.box 0),
mV 2 (cI 0)] [1])
(.seq (.block 0 (.seq (rg [fA 4 3 none 1,
lD 5 none 4,
bN 6 .eql 5 (cS []),
mV 3 6] [1,3])
(.cond 3 (.seq (rg [mV 2 (cI 8)] [2])
.ret)
(.seq (rg [fA 8 3 none 1,
lD 9 none 8,
cL 10 z2p [9],
uO 11 (.un .not 10),
mV 7 11] [1,7])
(.cond 7 (.seq (rg [mV 2 (cI 9)] [2])
.ret)
(.seq (rg [fA 13 3 none 1,
lD 14 none 13,
uO 15 (.lens 14),
bN 16 .gtr 15 (cI 2000),
mV 12 16] [1,12])
(.cond 12 (.seq (rg [mV 2 (cI 2)] [2])
.ret)
(.seq (rg [fA 18 4 none 1,
lD 19 none 18,
bN 20 .neq 19 (cS []),
mV 21 20,
gD 22 21 true (.faddr 4 none 1),
gD 23 21 true (.load none 22),
gD 24 21 true (.lens 23),
gD 25 21 true (.faddr 3 none 1),
gD 26 21 true (.load none 25),
gD 27 21 true (.lens 26),
gD 28 21 true (.bin .neq 24 27),
gD 29 21 true (.mv 28),
gD 30 29 false (.faddr 5 none 1),
gD 31 29 false (.load none 30),
gD 32 29 false (.lens 31),
gD 33 29 false (.faddr 3 none 1),
gD 34 29 false (.load none 33),
gD 35 29 false (.lens 34),
gD 36 29 false (.bin .neq 32 35),
gD 37 21 true (.pick 29 cT 36),
uO 38 (.pick 21 37 cF),
mV 17 38] [1,17])
(.cond 17 (.seq (rg [mV 2 (cI 3)] [2])
.ret)
(.seq (rg [fA 40 4 none 1,
lD 41 none 40,
cL 42 z2p [41],
uO 43 (.un .not 42),
mV 44 43,
gD 45 44 false (.faddr 5 none 1),
gD 46 44 false (.load none 45),
gD 47 44 false (.call z2p [46]),
gD 48 44 false (.un .not 47),
uO 49 (.pick 44 cT 48),
mV 39 49] [1,39])
(.cond 39 (.seq (rg [mV 2 (cI 9)] [2])
.ret)
(.seq (rg [fA 51 4 none 1,
lD 52 none 51,
bN 53 .eql 52 (cS []),
mV 54 53,
gD 55 54 true (.faddr 5 none 1),
gD 56 54 true (.load none 55),
gD 57 54 true (.bin .neq 56 (cS [])),
uO 58 (.pick 54 57 cF),
mV 50 58] [50])
(.cond 50 (.seq (rg [mV 2 (cI 3)] [2])
.ret)
.skip)))))))))))))
(.seq (rg [mV 2 (cI 0)] [2])
.ret)))
def zee : AFun:=⟨1,[.t 2],P_q06n,false,false⟩
def z2W (C : Hd) (gl : GL) (v0 : AV) (h : Heap) (x : Esc) (K : KT) : Prop:=
 wK (oBox v0 h) fun t1 h2 y3=>
 pK (z0e 3 none t1) fun t4=>
 pK (z0g none t4 h2) fun t5=>
 pK (oBin .eql t5 (.p (.str []))) fun t6=>
 z0m t6 (K .ret ⟨[(2,(AI 8))],h2,(y3 ++ x)⟩)
 (pK (z0e 3 none t1) fun t7=>
 pK (z0g none t7 h2) fun t8=>
 C z2p [t8] h2 fun t9 h10 y11=>
 pK (oUn .not t9) fun t12=>
 z0m t12 (K .ret ⟨[(2,(AI 9))],h10,(y11 ++ (y3 ++ x))⟩)
 (pK (z0e 3 none t1) fun t13=>
 pK (z0g none t13 h10) fun t14=>
 pK (z1a t14) fun t15=>
 pK (oBin .gtr t15 (AI 2000)) fun t16=>
 z0m t16 (K .ret ⟨[(2,(AI 2))],h10,(y11 ++ (y3 ++ x))⟩)
 (pK (z0e 4 none t1) fun t17=>
 pK (z0g none t17 h10) fun t18=>
 pK (oBin .neq t18 (.p (.str []))) fun t19=>
 gP t19 true (z0e 4 none t1) h10 fun t20 h21 y22=>
 gP t19 true (z0g none t20 h21) h21 fun t23 h24 y25=>
 gP t19 true (z1a t23) h24 fun t26 h27 y28=>
 gP t19 true (z0e 3 none t1) h27 fun t29 h30 y31=>
 gP t19 true (z0g none t29 h30) h30 fun t32 h33 y34=>
 gP t19 true (z1a t32) h33 fun t35 h36 y37=>
 gP t19 true (oBin .neq t26 t35) h36 fun t38 h39 y40=>
 gM t19 true t38 h39 fun t41 h42 y43=>
 gP t41 false (z0e 5 none t1) h42 fun t44 h45 y46=>
 gP t41 false (z0g none t44 h45) h45 fun t47 h48 y49=>
 gP t41 false (z1a t47) h48 fun t50 h51 y52=>
 gP t41 false (z0e 3 none t1) h51 fun t53 h54 y55=>
 gP t41 false (z0g none t53 h54) h54 fun t56 h57 y58=>
 gP t41 false (z1a t56) h57 fun t59 h60 y61=>
 gP t41 false (oBin .neq t50 t59) h60 fun t62 h63 y64=>
 gP t19 true (z18 t41 (AB true) t62) h63 fun t65 h66 y67=>
 pK (z18 t19 t65 (AB false)) fun t68=>
 z0m t68 (K .ret ⟨[(2,(AI 3))],h66,(y67 ++ (y64 ++ (y61 ++ (y58 ++ (y55 ++ (y52 ++ (y49 ++ (y46 ++ (y43 ++ (y40 ++ (y37 ++ (y34 ++ (y31 ++ (y28 ++ (y25 ++ (y22 ++ (y11 ++ (y3 ++ x))))))))))))))))))⟩)
 (pK (z0e 4 none t1) fun t69=>
 pK (z0g none t69 h66) fun t70=>
 C z2p [t70] h66 fun t71 h72 y73=>
 pK (oUn .not t71) fun t74=>
 gP t74 false (z0e 5 none t1) h72 fun t75 h76 y77=>
 gP t74 false (z0g none t75 h76) h76 fun t78 h79 y80=>
 gV t74 false h79 (C z2p [t78] h79) fun t81 h82 y83=>
 gP t74 false (oUn .not t81) h82 fun t84 h85 y86=>
 pK (z18 t74 (AB true) t84) fun t87=>
 z0m t87 (K .ret ⟨[(2,(AI 9))],h85,(y86 ++ (y83 ++ (y80 ++ (y77 ++ (y73 ++ (y67 ++ (y64 ++ (y61 ++ (y58 ++ (y55 ++ (y52 ++ (y49 ++ (y46 ++ (y43 ++ (y40 ++ (y37 ++ (y34 ++ (y31 ++ (y28 ++ (y25 ++ (y22 ++ (y11 ++ (y3 ++ x)))))))))))))))))))))))⟩)
 (pK (z0e 4 none t1) fun t88=>
 pK (z0g none t88 h85) fun t89=>
 pK (oBin .eql t89 (.p (.str []))) fun t90=>
 gP t90 true (z0e 5 none t1) h85 fun t91 h92 y93=>
 gP t90 true (z0g none t91 h92) h92 fun t94 h95 y96=>
 gP t90 true (oBin .neq t94 (.p (.str []))) h95 fun t97 h98 y99=>
 pK (z18 t90 t97 (AB false)) fun t100=>
 z0m t100 (K .ret ⟨[(2,(AI 3))],h98,(y99 ++ (y96 ++ (y93 ++ (y86 ++ (y83 ++ (y80 ++ (y77 ++ (y73 ++ (y67 ++ (y64 ++ (y61 ++ (y58 ++ (y55 ++ (y52 ++ (y49 ++ (y46 ++ (y43 ++ (y40 ++ (y37 ++ (y34 ++ (y31 ++ (y28 ++ (y25 ++ (y22 ++ (y11 ++ (y3 ++ x))))))))))))))))))))))))))⟩)
 (K .ret ⟨[(2,(AI 0))],h98,(y99 ++ (y96 ++ (y93 ++ (y86 ++ (y83 ++ (y80 ++ (y77 ++ (y73 ++ (y67 ++ (y64 ++ (y61 ++ (y58 ++ (y55 ++ (y52 ++ (y49 ++ (y46 ++ (y43 ++ (y40 ++ (y37 ++ (y34 ++ (y31 ++ (y28 ++ (y25 ++ (y22 ++ (y11 ++ (y3 ++ x))))))))))))))))))))))))))⟩))))))
theorem e_q06n {C gl v0 h x K} : NW C gl zee.body ⟨enter [v0],h,x⟩ K = z2W C gl v0 h x K:=by kernel_rfl
def P_q000 : ACode:=(.seq (rg [mV 2 cF] [0])
(.seq (rg [mV 3 0,
cL 4 zci [3,(cS [48,49])],
bN 5 .eql 4 (cS []),
mV 2 5] [2])
.ret))
def zdM : AFun:=⟨1,[.t 2],P_q000,false,false⟩
def zjz (C : Hd) (gl : GL) (v0 : AV) (h : Heap) (x : Esc) (K : KT) : Prop:=
 C zci [v0,(.p (.str [48,49]))] h fun t1 h2 y3=>
 pK (oBin .eql t1 (.p (.str []))) fun t4=>
 K .ret ⟨[(2,t4)],h2,(y3 ++ x)⟩
theorem e_q000 {C gl v0 h x K} : NW C gl zdM.body ⟨enter [v0],h,x⟩ K = zjz C gl v0 h x K:=by kernel_rfl
def P_q05p : ACode:=(.seq (rg [mV 4 (cS []),
mV 5 (cI 0)] [0,1])
(.seq (.seq (rg [mV 6 0,
cL 7 z5k [6],
uO 8 (.un .not 7),
mV 9 8,
gD 10 9 false (.mv 1),
gD 11 9 false (.call z5k [10]),
gD 12 9 false (.un .not 11),
uO 13 (.pick 9 cT 12)] [0,1,13])
(.cond 13 (.seq (rg [mV 4 (cS []),
mV 5 (cI 1)] [4,5])
.ret)
.skip))
(.seq (rg [mV 14 0,
mV 15 1,
cL 16 z3N [14,15],
mV 4 16,
mV 5 (cI 0)] [4,5])
.ret)))
def zdR : AFun:=⟨2,[.t 4,.t 5],P_q05p,false,false⟩
def zjD (C : Hd) (gl : GL) (v0 v1 : AV) (h : Heap) (x : Esc) (K : KT) : Prop:=
 C z5k [v0] h fun t1 h2 y3=>
 pK (oUn .not t1) fun t4=>
 gM t4 false v1 h2 fun t5 h6 y7=>
 gV t4 false h6 (C z5k [t5] h6) fun t8 h9 y10=>
 gP t4 false (oUn .not t8) h9 fun t11 h12 y13=>
 pK (z18 t4 (AB true) t11) fun t14=>
 z0m t14 (K .ret ⟨[(4,(.p (.str []))),(5,(AI 1))],h12,(y13 ++ (y10 ++ (y7 ++ (y3 ++ x))))⟩)
 (C z3N [v0,v1] h12 fun t15 h16 y17=>
 K .ret ⟨[(4,t15),(5,(AI 0))],h16,(y17 ++ (y13 ++ (y10 ++ (y7 ++ (y3 ++ x)))))⟩)
theorem e_q05p {C gl v0 v1 h x K} : NW C gl zdR.body ⟨enter [v0,v1],h,x⟩ K = zjD C gl v0 v1 h x K:=by kernel_rfl
def P_q01w : ACode:=(.seq (rg [mV 4 (cI 0)] [0,1])
(.seq (rg [mV 5 0,
mV 6 1,
cL 7 z0i [5,6],
mV 4 7] [4])
.ret))
def zip : AFun:=⟨2,[.t 4],P_q01w,false,false⟩
def zj1 (C : Hd) (gl : GL) (v0 v1 : AV) (h : Heap) (x : Esc) (K : KT) : Prop:=
 C z0i [v0,v1] h fun t1 h2 y3=>
 K .ret ⟨[(4,t1)],h2,(y3 ++ x)⟩
theorem e_q01w {C gl v0 v1 h x K} : NW C gl zip.body ⟨enter [v0,v1],h,x⟩ K = zj1 C gl v0 v1 h x K:=by kernel_rfl
def P_q03x : ACode:=(.seq (rg [mV 4 cF] [0,1])
(.seq (rg [mV 5 0,
mV 6 1,
cL 7 z73 [5,6],
bN 8 .geq 7 (cI 0),
mV 4 8] [4])
.ret))
def zdP : AFun:=⟨2,[.t 4],P_q03x,true,false⟩
def zjA (C : Hd) (gl : GL) (v0 v1 : AV) (h : Heap) (x : Esc) (K : KT) : Prop:=
 C z73 [v0,v1] h fun t1 h2 y3=>
 pK (oBin .geq t1 (AI 0)) fun t4=>
 K .ret ⟨[(4,t4)],h2,(y3 ++ x)⟩
theorem e_q03x {C gl v0 v1 h x K} : NW C gl zdP.body ⟨enter [v0,v1],h,x⟩ K = zjA C gl v0 v1 h x K:=by kernel_rfl
def z3j : ACode:=.pr [0,1,7,8] (.seq (rg [bN 9 .lss 8 7] [0,1,7,8,9])
(.seq (.cond 9 .skip
(.exit 0))
(.seq (.block 1 (.seq (rg [mV 10 8,
mV 5 10] [0,1,5,7,8])
(.seq (rg [mV 11 1,
mV 12 0,
mV 13 5,
uO 14 (.idxs 12 13),
cL 15 z9k [11,14],
bN 16 .lss 15 (cI 0)] [0,1,7,8,16])
(.cond 16 (.seq (rg [mV 4 cF] [4])
.ret)
.skip))))
(rg [bN 17 .add 8 (cI 1),
mV 8 17] [0,1,7,8]))))
def zb7 (C : Hd) (gl : GL) (v0 v1 v7 v8 : AV) (h : Heap) (x : Esc) (K : KT) : Prop:=
 pK (oBin .lss v8 v7) fun t1=>
 z0m t1 (pK (z7O v0 v8) fun t2=>
 C z9k [v1,t2] h fun t3 h4 y5=>
 pK (oBin .lss t3 (AI 0)) fun t6=>
 z0m t6 (K .ret ⟨[(4,(AB false))],h4,(y5 ++ x)⟩)
 (pK (oBin .add v8 (AI 1)) fun t7=>
 K .normal ⟨[(0,v0),(1,v1),(7,v7),(8,t7)],h4,(y5 ++ x)⟩))
 (K (.exit 0) ⟨[(0,v0),(1,v1),(7,v7),(8,v8),(9,t1)],h,x⟩)
theorem zk2 {C gl e h x K} : NW C gl z3j ⟨e,h,x⟩ K = zb7 C gl (aget e 0) (aget e 1) (aget e 7) (aget e 8) h x K:=by kernel_rfl
theorem zlS {C gl e h x K} : NW C gl (.loop z3j) ⟨e,h,x⟩ K = z14 C gl z3j K [(0,aget e 0),(1,aget e 1),(7,aget e 7),(8,aget e 8)] h x:=z13
def z57 : ACode:=.pr [] (.seq (rg [mV 4 cT] [4])
.ret)
def zb8 (C : Hd) (gl : GL) (h : Heap) (x : Esc) (K : KT) : Prop:=
 K .ret ⟨[(4,(AB true))],h,x⟩
theorem zk3 {C gl e h x K} : NW C gl z57 ⟨e,h,x⟩ K = zb8 C gl h x K:=by kernel_rfl
def zsa (q1 q2 : ACode) : ACode:=(.seq (rg [mV 4 cF] [0,1])
(.seq (.seq (rg [mV 6 0,
uO 7 (.lens 6),
mV 8 (cI 0)] [0,1,7,8])
(.block 0 (.loop q1)))
q2))
def ziB : AFun:=⟨2,[.t 4],zsa z3j z57,false,false⟩
def ze1 (C : Hd) (gl : GL) (q1 q2 : ACode) (v0 v1 : AV) (h : Heap) (x : Esc) (K : KT) : Prop:=
 pK (z1a v0) fun t1=>
 NW C gl (.loop q1) ⟨[(0,v0),(1,v1),(7,t1),(8,(AI 0))],h,x⟩ (z05 0 (seqN C gl q2 K))
theorem E_q03k {C gl q1 q2 v0 v1 h x K} : NW C gl (zsa q1 q2) ⟨enter [v0,v1],h,x⟩ K = ze1 C gl q1 q2 v0 v1 h x K:=by kernel_rfl
theorem e_q03k {C gl v0 v1 h x K} : NW C gl ziB.body ⟨enter [v0,v1],h,x⟩ K = ze1 C gl z3j z57 v0 v1 h x K:=E_q03k
def z7Y : ACode:=.pr [0,1,2,6,7,8,9,10,11] (.seq (dr [dF (mV 54 0) [0],
dF (mV 55 1) [1],
dF (mV 56 11) [11],
dF (iA 57 none 56 (cI 0)) [56],
dF (lD 58 none 57) [57],
dT (cL 59 z5j [54,55,58]) [54,55,58],
dF (uO 60 (.field 3 none 59)) [59],
dF (mV 61 0) [0],
dF (mV 62 1) [1],
dF (mV 63 11) [11],
dA (iA 64 none 63 (cI 1)) [63] false [5] [],
dA (lD 65 none 64) [64] false [5] [],
dT (cL 66 z5j [61,62,65]) [61,62,65],
dF (uO 67 (.field 3 none 66)) [66],
dF (mV 68 0) [0],
dF (mV 69 1) [1],
dF (mV 70 11) [11],
dA (iA 71 none 70 (cI 2)) [70] false [5,12] [],
dA (lD 72 none 71) [71] false [5,12] [],
dT (cL 73 z5j [68,69,72]) [68,69,72],
dF (uO 74 (.field 1 none 73)) [73],
dF (mV 12 60) [60],
dF (mV 13 67) [67],
dF (mV 14 74) [74]] [2,6,7,8,9,10,12,13,14])
(.seq (rg [mV 75 12,
fA 76 3 none 7,
lD 77 none 76,
bN 78 .add 75 77,
mV 79 13,
bN 80 .add 78 79,
mV 15 80] [2,6,7,8,9,10,12,14,15])
(.seq (rg [mV 81 2,
mV 82 9,
cL 83 z2f [81,82],
mV 84 10,
mV 85 14,
cL 86 z2f [84,85],
mV 16 83,
mV 17 86] [6,7,8,12,14,15,16,17])
(.seq (rg [mV 87 16,
mV 88 15,
uO 89 (.lens 88),
bN 90 .sub 89 (cI 1),
cL 91 z1h [(cS [48]),90],
bN 92 .add 87 91,
bN 93 .add 92 (cS [49]),
mV 94 17,
bN 95 .add 93 94,
fA 96 0 none 8,
wO (.store none 96 95)] [6,7,8,12,14,15,16])
(.seq (rg [mV 97 16,
uO 98 (.lens 97),
cL 99 z1h [(cS [48]),98],
mV 100 15,
bN 101 .add 99 100,
fA 102 1 none 8,
wO (.store none 102 101)] [6,7,8,12,14,16])
(.seq (rg [mV 103 16,
uO 104 (.lens 103),
mV 105 12,
uO 106 (.lens 105),
bN 107 .add 104 106,
fA 108 3 none 8,
wO (.store none 108 107)] [6,7,8,14])
(.seq (dr [dF (fA 109 3 none 8) [8],
dF (lD 110 none 109) [109],
dT (cL 111 z1h [(cS [120]),110]) [110],
dA (lD 112 (some 6) 7) [7] false [2] [],
dT (cL 113 z9c [112]) [112],
dF (bN 114 .add 111 113) [111,113],
dF (fA 115 2 none 8) [8],
dT (wO (.store none 115 114)) [115,114]] [6,8,14])
(rg [mV 116 14,
fA 117 4 none 8,
wO (.store none 117 116)] [6,8]))))))))
def z1W (C : Hd) (gl : GL) (v0 v1 v2 v6 v7 v8 v9 v10 v11 : AV) (h : Heap) (x : Esc) (K : KT) : Prop:=
 pK (z0N none v11 (AI 0) h) fun t1=>
 pK (z0g none t1 h) fun t2=>
 z1L C z5j [v0,v1,t2] h fun t3 h4 y5=>
 pK (z7M 3 none t3) fun t6=>
 pK (z0N none v11 (AI 1) h4) fun t7=>
 (pK (z0N none v11 (AI 1) h) fun v=>(fun u (g1 : Heap) (y1 : Esc)=>u = t7 ∧ g1 = h ∧ y1 = []) v h []) ∧ (pK (z0g none t7 h4) fun t8=>
 (pK (z0g none t7 h) fun v=>(fun u (g1 : Heap) (y1 : Esc)=>u = t8 ∧ g1 = h ∧ y1 = []) v h []) ∧ (z1L C z5j [v0,v1,t8] h4 fun t9 h10 y11=>
 pK (z7M 3 none t9) fun t12=>
 pK (z0N none v11 (AI 2) h10) fun t13=>
 (pK (z0N none v11 (AI 2) h) fun v=>(fun u (g1 : Heap) (y1 : Esc)=>u = t13 ∧ g1 = h ∧ y1 = []) v h []) ∧ ((pK (z0N none v11 (AI 2) h4) fun v=>(fun u (g1 : Heap) (y1 : Esc)=>u = t13 ∧ g1 = h4 ∧ y1 = []) v h4 []) ∧ (pK (z0g none t13 h10) fun t14=>
 (pK (z0g none t13 h) fun v=>(fun u (g1 : Heap) (y1 : Esc)=>u = t14 ∧ g1 = h ∧ y1 = []) v h []) ∧ ((pK (z0g none t13 h4) fun v=>(fun u (g1 : Heap) (y1 : Esc)=>u = t14 ∧ g1 = h4 ∧ y1 = []) v h4 []) ∧ (z1L C z5j [v0,v1,t14] h10 fun t15 h16 y17=>
 pK (z7M 1 none t15) fun t18=>
 pK (z0e 3 none v7) fun t19=>
 pK (z0g none t19 h16) fun t20=>
 pK (oBin .add t6 t20) fun t21=>
 pK (oBin .add t21 t12) fun t22=>
 C z2f [v2,v9] h16 fun t23 h24 y25=>
 C z2f [v10,t18] h24 fun t26 h27 y28=>
 pK (z1a t22) fun t29=>
 pK (oBin .sub t29 (AI 1)) fun t30=>
 C z1h [(.p (.str [48])),t30] h27 fun t31 h32 y33=>
 pK (oBin .add t23 t31) fun t34=>
 pK (oBin .add t34 (.p (.str [49]))) fun t35=>
 pK (oBin .add t35 t26) fun t36=>
 pK (z0e 0 none v8) fun t37=>
 wK (z0n none t37 t36 h32) fun t38 h39 y40=>
 pK (z1a t23) fun t41=>
 C z1h [(.p (.str [48])),t41] h39 fun t42 h43 y44=>
 pK (oBin .add t42 t22) fun t45=>
 pK (z0e 1 none v8) fun t46=>
 wK (z0n none t46 t45 h43) fun t47 h48 y49=>
 pK (z1a t23) fun t50=>
 pK (z1a t6) fun t51=>
 pK (oBin .add t50 t51) fun t52=>
 pK (z0e 3 none v8) fun t53=>
 wK (z0n none t53 t52 h48) fun t54 h55 y56=>
 pK (z0e 3 none v8) fun t57=>
 pK (z0g none t57 h55) fun t58=>
 z1L C z1h [(.p (.str [120])),t58] h55 fun t59 h60 y61=>
 pK (z0g (some 6) v7 h60) fun t62=>
 (pK (z0g (some 6) v7 h55) fun v=>(fun u (g1 : Heap) (y1 : Esc)=>u = t62 ∧ g1 = h55 ∧ y1 = []) v h55 []) ∧ (z1L C z9c [t62] h60 fun t63 h64 y65=>
 pK (oBin .add t59 t63) fun t66=>
 pK (z0e 2 none v8) fun t67=>
 wK (z0n none t67 t66 h64) fun t68 h69 y70=>
 pK (z0e 4 none v8) fun t71=>
 wK (z0n none t71 t18 h69) fun t72 h73 y74=>
 K .normal ⟨[(6,v6),(8,v8)],h73,(y74 ++ (y70 ++ (y65 ++ (y61 ++ (y56 ++ (y49 ++ (y44 ++ (y40 ++ (y33 ++ (y28 ++ (y25 ++ (y17 ++ (y11 ++ (y5 ++ x))))))))))))))⟩)))))))
theorem zk4 {C gl e h x K} : NW C gl z7Y ⟨e,h,x⟩ K = z1W C gl (aget e 0) (aget e 1) (aget e 2) (aget e 6) (aget e 7) (aget e 8) (aget e 9) (aget e 10) (aget e 11) h x K:=by kernel_rfl
def zaI (q1 : ACode) : ACode:=.pr [0,1,2,6,7,8,46] (.cond 46 (.seq (rg [uO 49 (.bsl false none 3 (.int .i64 0) [(0,(cI 3)),(1,(cI 4)),(2,(cI 1))]),
mV 9 (cI 11),
mV 10 (cI 12),
mV 11 49] [0,1,2,6,7,8,9,10,11])
(.seq (.seq (rg [fA 50 0 none 7,
lD 51 none 50,
bN 52 .eql 51 (cI 8)] [0,1,2,6,7,8,9,10,11,52])
(.cond 52 (rg [uO 53 (.bsl false none 3 (.int .i64 0) [(0,(cI 5)),(1,(cI 6)),(2,(cI 2))]),
mV 9 (cI 4),
mV 10 (cI 5),
mV 11 53] [0,1,2,6,7,8,9,10,11])
.skip))
q1))
.skip)
def z58 : ACode:=zaI z7Y
def z7p (C : Hd) (gl : GL) (q1 : ACode) (v0 v1 v2 v6 v7 v8 v46 : AV) (h : Heap) (x : Esc) (K : KT) : Prop:=
 z0m v46 (wK (oBsl false none 3 (.int .i64 0) [(0,(AI 3)),(1,(AI 4)),(2,(AI 1))] h) fun t1 h2 y3=>
 pK (z0e 0 none v7) fun t4=>
 pK (z0g none t4 h2) fun t5=>
 pK (oBin .eql t5 (AI 8)) fun t6=>
 z0m t6 (wK (oBsl false none 3 (.int .i64 0) [(0,(AI 5)),(1,(AI 6)),(2,(AI 2))] h2) fun t7 h8 y9=>
 NW C gl q1 ⟨[(0,v0),(1,v1),(2,v2),(6,v6),(7,v7),(8,v8),(9,(AI 4)),(10,(AI 5)),(11,t7)],h8,(y9 ++ (y3 ++ x))⟩ K)
 (NW C gl q1 ⟨[(0,v0),(1,v1),(2,v2),(6,v6),(7,v7),(8,v8),(9,(AI 11)),(10,(AI 12)),(11,t1),(52,t6)],h2,(y3 ++ x)⟩ K))
 (K .normal ⟨[(0,v0),(1,v1),(2,v2),(6,v6),(7,v7),(8,v8),(46,v46)],h,x⟩)
theorem zhJ {C gl q1 e h x K} : NW C gl (zaI q1) ⟨e,h,x⟩ K = z7p C gl q1 (aget e 0) (aget e 1) (aget e 2) (aget e 6) (aget e 7) (aget e 8) (aget e 46) h x K:=by kernel_rfl
theorem zk5 {C gl e h x K} : NW C gl z58 ⟨e,h,x⟩ K = z7p C gl z7Y (aget e 0) (aget e 1) (aget e 2) (aget e 6) (aget e 7) (aget e 8) (aget e 46) h x K:=zhJ
def z59 : ACode:=.pr [6,8] (.seq (dr [dF (fA 118 1 none 8) [8],
dF (lD 119 none 118) [118],
dF (fA 120 0 none 8) [8],
dF (lD 121 none 120) [120],
dF (uO 122 (.lens 121)) [121],
dF (fA 123 1 none 8) [8],
dF (lD 124 none 123) [123],
dF (uO 125 (.lens 124)) [124],
dF (bN 126 .sub 122 125) [122,125],
dA (cL 127 z1h [(cS [48]),126]) [126] true [] [1],
dF (bN 128 .add 119 127) [119,127],
dF (fA 129 1 none 8) [8],
dT (wO (.store none 129 128)) [129,128]] [6,8])
(.seq (dr [dF (fA 130 2 none 8) [8],
dF (lD 131 none 130) [130],
dF (fA 132 0 none 8) [8],
dF (lD 133 none 132) [132],
dF (uO 134 (.lens 133)) [133],
dF (fA 135 2 none 8) [8],
dF (lD 136 none 135) [135],
dF (uO 137 (.lens 136)) [136],
dF (bN 138 .sub 134 137) [134,137],
dA (cL 139 z1h [(cS [120]),138]) [138] true [] [1],
dF (bN 140 .add 131 139) [131,139],
dF (fA 141 2 none 8) [8],
dT (wO (.store none 141 140)) [141,140]] [6,8])
(.seq (rg [lD 142 (some 5) 8,
wO (.store (some 5) 6 142)] [6])
.ret)))
def z1E (C : Hd) (gl : GL) (v6 v8 : AV) (h : Heap) (x : Esc) (K : KT) : Prop:=
 pK (z0e 1 none v8) fun t1=>
 pK (z0g none t1 h) fun t2=>
 pK (z0e 0 none v8) fun t3=>
 pK (z0g none t3 h) fun t4=>
 pK (z1a t4) fun t5=>
 pK (z0e 1 none v8) fun t6=>
 pK (z0g none t6 h) fun t7=>
 pK (z1a t7) fun t8=>
 pK (oBin .sub t5 t8) fun t9=>
 z1L C z1h [(.p (.str [48])),t9] h fun t10 h11 y12=>
 (pK (z0g none t1 h11) fun v=>(fun u (g1 : Heap) (y1 : Esc)=>u = t2 ∧ g1 = h11 ∧ y1 = []) v h11 []) ∧ (pK (oBin .add t2 t10) fun t13=>
 pK (z0e 1 none v8) fun t14=>
 wK (z0n none t14 t13 h11) fun t15 h16 y17=>
 pK (z0e 2 none v8) fun t18=>
 pK (z0g none t18 h16) fun t19=>
 pK (z0e 0 none v8) fun t20=>
 pK (z0g none t20 h16) fun t21=>
 pK (z1a t21) fun t22=>
 pK (z0e 2 none v8) fun t23=>
 pK (z0g none t23 h16) fun t24=>
 pK (z1a t24) fun t25=>
 pK (oBin .sub t22 t25) fun t26=>
 z1L C z1h [(.p (.str [120])),t26] h16 fun t27 h28 y29=>
 (pK (z0g none t18 h28) fun v=>(fun u (g1 : Heap) (y1 : Esc)=>u = t19 ∧ g1 = h28 ∧ y1 = []) v h28 []) ∧ (pK (oBin .add t19 t27) fun t30=>
 pK (z0e 2 none v8) fun t31=>
 wK (z0n none t31 t30 h28) fun t32 h33 y34=>
 pK (z0g (some 5) v8 h33) fun t35=>
 wK (z0n (some 5) v6 t35 h33) fun t36 h37 y38=>
 K .ret ⟨[(6,v6)],h37,(y38 ++ (y34 ++ (y29 ++ (y17 ++ (y12 ++ x)))))⟩))
theorem zk6 {C gl e h x K} : NW C gl z59 ⟨e,h,x⟩ K = z1E C gl (aget e 6) (aget e 8) h x K:=by kernel_rfl
def zsb (q2 q3 : ACode) : ACode:=(.seq (rg [uO 6 (.alloc [.p (.str []),.p (.str []),.p (.str []),.p (.int .i64 0),.p (.int .i64 0)])] [0,1,2,6])
(.seq (rg [mV 18 0,
mV 19 1,
iA 20 (some 6) 18 19,
lD 21 (some 6) 20,
uO 7 (.alloc [.p (.int .i64 0),.p (.int .i64 0),.p (.int .i64 0),.p (.str []),.p (.str []),.p (.str [])]),
wO (.store (some 6) 7 21)] [0,1,2,6,7])
(.seq (rg [mV 22 2,
uO 23 (.build [.p (.str []),.p (.str []),.p (.str []),.p (.int .i64 0),.p (.int .i64 0)] [(4,1,22)]),
uO 8 (.alloc [.p (.str []),.p (.str []),.p (.str []),.p (.int .i64 0),.p (.int .i64 0)]),
wO (.store (some 5) 8 23)] [0,1,2,6,7,8])
(.seq (.seq (rg [fA 24 0 none 7,
lD 25 none 24] [0,1,2,6,7,8,25])
(.block 0 (.seq (rg [bN 27 .eql 25 (cI 10),
mV 26 27] [0,1,2,6,7,8,25,26])
(.cond 26 (dr [dF (mV 28 2) [2],
dF (fA 29 1 none 7) [7],
dF (lD 30 none 29) [29],
dT (cL 31 z2f [28,30]) [28,30],
dF (fA 32 1 none 7) [7],
dA (lD 33 none 32) [32] false [3] [],
dF (fA 34 0 none 8) [8],
dA (wO (.store none 34 31)) [34,31] true [] [5],
dF (fA 35 4 none 8) [8],
dT (wO (.store none 35 33)) [35,33]] [6,8])
(.seq (rg [bN 37 .eql 25 (cI 9),
mV 36 37] [0,1,2,6,7,8,25,36])
(.cond 36 (dr [dF (mV 38 2) [2],
dT (cL 39 z2f [38,(cI 1)]) [38],
dF (fA 40 2 none 7) [7],
dA (lD 41 none 40) [40] false [1] [],
dT (cL 42 z1h [(cS [48]),41]) [41],
dF (bN 43 .add 39 42) [39,42],
dF (fA 44 0 none 8) [8],
dT (wO (.store none 44 43)) [44,43],
dF (fA 45 4 none 8) [8],
dT (wO (.store none 45 (cI 1))) [45]] [6,8])
(.seq (.seq (rg [bN 47 .eql 25 (cI 7),
mV 46 47] [0,1,2,6,7,8,25,46])
(.cond 46 .skip
(rg [bN 48 .eql 25 (cI 8),
mV 46 48] [0,1,2,6,7,8,46])))
q2)))))))
q3))))
def ziC : AFun:=⟨3,[.cell 6 (some 5)],zsb z58 z59,false,false⟩
def z6w (C : Hd) (gl : GL) (q2 q3 : ACode) (v0 v1 v2 : AV) (h : Heap) (x : Esc) (K : KT) : Prop:=
 alK [.p (.str []),.p (.str []),.p (.str []),.p (.int .i64 0),.p (.int .i64 0)] h fun t1 h2 y3=>
 pK (z0N (some 6) v0 v1 h2) fun t4=>
 pK (z0g (some 6) t4 h2) fun t5=>
 alK [.p (.int .i64 0),.p (.int .i64 0),.p (.int .i64 0),.p (.str []),.p (.str []),.p (.str [])] h2 fun t6 h7 y8=>
 wK (z0n (some 6) t6 t5 h7) fun t9 h10 y11=>
 pK (z02 [.p (.str []),.p (.str []),.p (.str []),.p (.int .i64 0),.p (.int .i64 0)] [(4,1,v2)]) fun t12=>
 alK [.p (.str []),.p (.str []),.p (.str []),.p (.int .i64 0),.p (.int .i64 0)] h10 fun t13 h14 y15=>
 wK (z0n (some 5) t13 t12 h14) fun t16 h17 y18=>
 pK (z0e 0 none t6) fun t19=>
 pK (z0g none t19 h17) fun t20=>
 pK (oBin .eql t20 (AI 10)) fun t21=>
 z0m t21 (pK (z0e 1 none t6) fun t22=>
 pK (z0g none t22 h17) fun t23=>
 z1L C z2f [v2,t23] h17 fun t24 h25 y26=>
 pK (z0e 1 none t6) fun t27=>
 pK (z0g none t27 h25) fun t28=>
 (pK (z0g none t27 h17) fun v=>(fun u (g1 : Heap) (y1 : Esc)=>u = t28 ∧ g1 = h17 ∧ y1 = []) v h17 []) ∧ (pK (z0e 0 none t13) fun t29=>
 wK (z0n none t29 t24 h25) fun t30 h31 y32=>
 (pK (z0g none t27 h31) fun v=>(fun u (g1 : Heap) (y1 : Esc)=>u = t28 ∧ g1 = h31 ∧ y1 = []) v h31 []) ∧ (pK (z0e 4 none t13) fun t33=>
 wK (z0n none t33 t28 h31) fun t34 h35 y36=>
 NW C gl q3 ⟨[(6,t1),(8,t13)],h35,(y36 ++ (y32 ++ (y26 ++ (y18 ++ (y15 ++ (y11 ++ (y8 ++ (y3 ++ x))))))))⟩ K)))
 (pK (oBin .eql t20 (AI 9)) fun t37=>
 z0m t37 (z1L C z2f [v2,(AI 1)] h17 fun t38 h39 y40=>
 pK (z0e 2 none t6) fun t41=>
 pK (z0g none t41 h39) fun t42=>
 (pK (z0g none t41 h17) fun v=>(fun u (g1 : Heap) (y1 : Esc)=>u = t42 ∧ g1 = h17 ∧ y1 = []) v h17 []) ∧ (z1L C z1h [(.p (.str [48])),t42] h39 fun t43 h44 y45=>
 pK (oBin .add t38 t43) fun t46=>
 pK (z0e 0 none t13) fun t47=>
 wK (z0n none t47 t46 h44) fun t48 h49 y50=>
 pK (z0e 4 none t13) fun t51=>
 wK (z0n none t51 (AI 1) h49) fun t52 h53 y54=>
 NW C gl q3 ⟨[(6,t1),(8,t13)],h53,(y54 ++ (y50 ++ (y45 ++ (y40 ++ (y18 ++ (y15 ++ (y11 ++ (y8 ++ (y3 ++ x)))))))))⟩ K))
 (pK (oBin .eql t20 (AI 7)) fun t55=>
 z0m t55 (NW C gl q2 ⟨[(0,v0),(1,v1),(2,v2),(6,t1),(7,t6),(8,t13),(25,t20),(46,t55)],h17,(y18 ++ (y15 ++ (y11 ++ (y8 ++ (y3 ++ x)))))⟩ (z05 0 (seqN C gl q3 K)))
 (pK (oBin .eql t20 (AI 8)) fun t56=>
 NW C gl q2 ⟨[(0,v0),(1,v1),(2,v2),(6,t1),(7,t6),(8,t13),(46,t56)],h17,(y18 ++ (y15 ++ (y11 ++ (y8 ++ (y3 ++ x)))))⟩ (z05 0 (seqN C gl q3 K)))))
theorem E_q03l {C gl q2 q3 v0 v1 v2 h x K} : NW C gl (zsb q2 q3) ⟨enter [v0,v1,v2],h,x⟩ K = z6w C gl q2 q3 v0 v1 v2 h x K:=by kernel_rfl
theorem e_q03l {C gl v0 v1 v2 h x K} : NW C gl ziC.body ⟨enter [v0,v1,v2],h,x⟩ K = z6w C gl z58 z59 v0 v1 v2 h x K:=E_q03l
def P_q05q : ACode:=(.seq (rg [mV 2 cF] [0])
(.seq (rg [mV 3 0,
cL 4 z1d [3,(cI 0),(cI 15)],
uO 5 (.un .not 4),
mV 2 5] [2])
.ret))
def zdS : AFun:=⟨1,[.t 2],P_q05q,false,false⟩
def zjE (C : Hd) (gl : GL) (v0 : AV) (h : Heap) (x : Esc) (K : KT) : Prop:=
 C z1d [v0,(AI 0),(AI 15)] h fun t1 h2 y3=>
 pK (oUn .not t1) fun t4=>
 K .ret ⟨[(2,t4)],h2,(y3 ++ x)⟩
theorem e_q05q {C gl v0 h x K} : NW C gl zdS.body ⟨enter [v0],h,x⟩ K = zjE C gl v0 h x K:=by kernel_rfl
def z7Z : ACode:=.pr [1,5,6,7,25] (rg [bN 53 .add 25 (cI 1),
mV 25 53] [1,5,6,7,25])
def zbE (C : Hd) (gl : GL) (v1 v5 v6 v7 v25 : AV) (h : Heap) (x : Esc) (K : KT) : Prop:=
 pK (oBin .add v25 (AI 1)) fun t1=>
 K .normal ⟨[(1,v1),(5,v5),(6,v6),(7,v7),(25,t1)],h,x⟩
theorem zkB {C gl e h x K} : NW C gl z7Z ⟨e,h,x⟩ K = zbE C gl (aget e 1) (aget e 5) (aget e 6) (aget e 7) (aget e 25) h x K:=by kernel_rfl
def zaJ (q1 : ACode) : ACode:=.pr [1,5,6,7,25] (.seq (rg [bN 26 .lss 25 (cI 2)] [1,5,6,7,25,26])
(.seq (.cond 26 .skip
(.exit 2))
(.seq (.block 3 (.seq (rg [mV 27 25,
mV 8 27] [1,5,6,7,8,25])
(.seq (rg [mV 28 7,
mV 29 8,
cL 30 z4G [28,29],
mV 9 30] [1,5,6,7,8,9,25])
(.seq (rg [mV 32 5,
mV 33 9,
uO 34 (.look (none,[0]) true (.p (.str [])) 32 33),
mV 31 34,
eX 35 31 0,
eX 36 31 1,
mV 10 35,
mV 11 36] [1,5,6,7,8,9,11,25])
(.seq (rg [mV 37 11,
uO 38 (.un .not 37)] [1,5,6,7,8,9,25,38])
(.cond 38 (.seq (rg [mV 39 5,
mV 40 9,
mV 41 5,
mV 42 7,
uO 43 (.look (none,[0]) false (.p (.str [])) 41 42),
mV 44 8,
bN 45 .add (cI 48) 44,
uO 46 (.conv (.i .i32) 45),
uO 47 (.conv .r2s 46),
bN 48 .add 43 47,
wO (.mupd (none,[0]) 39 40 48)] [1,5,6,7,9,25])
(rg [mV 49 6,
mV 50 9,
uO 51 (.bsl false none 1 (.int .i64 0) [(0,50)]),
uO 52 (.mnext (some none) [49,51]),
mV 6 52] [1,5,6,7,25]))
.skip))))))
q1)))
def z3Y : ACode:=zaJ z7Z
def z7q (C : Hd) (gl : GL) (q1 : ACode) (v1 v5 v6 v7 v25 : AV) (h : Heap) (x : Esc) (K : KT) : Prop:=
 pK (oBin .lss v25 (AI 2)) fun t1=>
 z0m t1 (C z4G [v7,v25] h fun t2 h3 y4=>
 pK (z68 (none,[0]) true (.p (.str [])) v5 t2 h3) fun t5=>
 pK (oExt t5 0) fun t6=>
 pK (oExt t5 1) fun t7=>
 pK (oUn .not t7) fun t8=>
 z0m t8 (pK (z68 (none,[0]) false (.p (.str [])) v5 v7 h3) fun t9=>
 pK (oBin .add (AI 48) v25) fun t10=>
 pK (zcs .i32 t10) fun t11=>
 wK (z67 .r2s t11 h3) fun t12 h13 y14=>
 pK (oBin .add t9 t12) fun t15=>
 wK (zap (none,[0]) v5 t2 t15 h13) fun t16 h17 y18=>
 wK (oBsl false none 1 (.int .i64 0) [(0,t2)] h17) fun t19 h20 y21=>
 nqK (some none) [v6,t19] h20 fun t22 h23 y24=>
 NW C gl q1 ⟨[(1,v1),(5,v5),(6,t22),(7,v7),(25,v25)],h23,(y24 ++ (y21 ++ (y18 ++ (y14 ++ (y4 ++ x)))))⟩ K)
 (NW C gl q1 ⟨[(1,v1),(5,v5),(6,v6),(7,v7),(8,v25),(9,t2),(25,v25),(38,t8)],h3,(y4 ++ x)⟩ K))
 (K (.exit 2) ⟨[(1,v1),(5,v5),(6,v6),(7,v7),(25,v25),(26,t1)],h,x⟩)
theorem zhK {C gl q1 e h x K} : NW C gl (zaJ q1) ⟨e,h,x⟩ K = z7q C gl q1 (aget e 1) (aget e 5) (aget e 6) (aget e 7) (aget e 25) h x K:=by kernel_rfl
theorem zkC {C gl e h x K} : NW C gl z3Y ⟨e,h,x⟩ K = z7q C gl z7Z (aget e 1) (aget e 5) (aget e 6) (aget e 7) (aget e 25) h x K:=zhK
theorem zlV {C gl e h x K} : NW C gl (.loop z3Y) ⟨e,h,x⟩ K = z14 C gl z3Y K [(1,aget e 1),(5,aget e 5),(6,aget e 6),(7,aget e 7),(25,aget e 25)] h x:=z13
def zaK (q2 : ACode) : ACode:=.pr [1,5,6] (.seq (.seq (rg [mV 17 6,
lN 18 17,
bN 19 .gtr 18 (cI 0)] [1,5,6,19])
(.cond 19 .skip
(.exit 0)))
(.block 1 (.seq (rg [mV 20 6,
iA 21 none 20 (cI 0),
lD 22 none 21,
mV 7 22] [1,5,6,7])
(.seq (rg [mV 23 6,
uO 24 (.slice none 23 (some (cI 1)) none none),
mV 6 24] [1,5,6,7])
(.seq (rg [mV 25 (cI 0)] [1,5,6,7,25])
(.block 2 (.loop q2)))))))
def z3m : ACode:=zaK z3Y
def z7r (C : Hd) (gl : GL) (q2 : ACode) (v1 v5 v6 : AV) (h : Heap) (x : Esc) (K : KT) : Prop:=
 pK (oLen v6) fun t1=>
 pK (oBin .gtr t1 (AI 0)) fun t2=>
 z0m t2 (pK (z0N none v6 (AI 0) h) fun t3=>
 pK (z0g none t3 h) fun t4=>
 pK (zcv none v6 (some (AI 1)) none none h) fun t5=>
 NW C gl (.loop q2) ⟨[(1,v1),(5,v5),(6,t5),(7,t4),(25,(AI 0))],h,x⟩ (z05 2 (z05 1 K)))
 (K (.exit 0) ⟨[(1,v1),(5,v5),(6,v6),(19,t2)],h,x⟩)
theorem zhL {C gl q2 e h x K} : NW C gl (zaK q2) ⟨e,h,x⟩ K = z7r C gl q2 (aget e 1) (aget e 5) (aget e 6) h x K:=by kernel_rfl
theorem zkD {C gl e h x K} : NW C gl z3m ⟨e,h,x⟩ K = z7r C gl z3Y (aget e 1) (aget e 5) (aget e 6) h x K:=zhL
theorem zlW {C gl e h x K} : NW C gl (.loop z3m) ⟨e,h,x⟩ K = z14 C gl z3m K [(1,aget e 1),(5,aget e 5),(6,aget e 6)] h x:=z13
def z5C : ACode:=.pr [1,5] (.seq (rg [mV 54 5,
mV 55 1,
uO 56 (.look (none,[0]) false (.p (.str [])) 54 55),
mV 4 56] [4])
.ret)
def zbF (C : Hd) (gl : GL) (v1 v5 : AV) (h : Heap) (x : Esc) (K : KT) : Prop:=
 pK (z68 (none,[0]) false (.p (.str [])) v5 v1 h) fun t1=>
 K .ret ⟨[(4,t1)],h,x⟩
theorem zkE {C gl e h x K} : NW C gl z5C ⟨e,h,x⟩ K = zbF C gl (aget e 1) (aget e 5) h x K:=by kernel_rfl
def zse (q3 q4 : ACode) : ACode:=(.det (.seq (rg [mV 4 (cS [])] [0,1])
(.seq (rg [uO 12 (.mkmap),
mV 13 0,
wO (.mupd (none,[0]) 12 13 (cS [])),
mV 14 12,
mV 5 14] [0,1,5])
(.seq (rg [mV 15 0,
uO 16 (.bsl true none 1 (.int .i64 0) [(0,15)]),
mV 6 16] [1,5,6])
(.seq (.block 0 (.loop q3))
q4)))))
def z8G : AFun:=⟨2,[.t 4],zse z3m z5C,false,false⟩
def zbD (C : Hd) (gl : GL) (q3 q4 : ACode) (v0 v1 : AV) (h : Heap) (x : Esc) (K : KT) : Prop:=
 mmK h fun t1 h2 y3=>
 wK (zap (none,[0]) t1 v0 (.p (.str [])) h2) fun t4 h5 y6=>
 wK (oBsl true none 1 (.int .i64 0) [(0,v0)] h5) fun t7 h8 y9=>
 NW C gl (.loop q3) ⟨[(1,v1),(5,t1),(6,t7)],h8,(y9 ++ (y6 ++ (y3 ++ x)))⟩ (z05 0 (seqN C gl q4 K))
theorem E_q05s {C gl q3 q4 v0 v1 h x K} : NW C gl (zse q3 q4) ⟨enter [v0,v1],h,x⟩ K = zbD C gl q3 q4 v0 v1 h x K:=by kernel_rfl
theorem zsw {C gl v0 v1 h x K} : NW C gl z8G.body ⟨enter [v0,v1],h,x⟩ K = zbD C gl z3m z5C v0 v1 h x K:=E_q05s
def P_q058 : ACode:=(.seq (rg [mV 4 (cI 0)] [0,1])
(.seq (rg [mV 5 0,
mV 6 1,
cL 7 z8W [5,6],
mV 4 7] [4])
.ret))
def ziJ : AFun:=⟨2,[.t 4],P_q058,false,false⟩
def zjC (C : Hd) (gl : GL) (v0 v1 : AV) (h : Heap) (x : Esc) (K : KT) : Prop:=
 C z8W [v0,v1] h fun t1 h2 y3=>
 K .ret ⟨[(4,t1)],h2,(y3 ++ x)⟩
theorem e_q058 {C gl v0 v1 h x K} : NW C gl ziJ.body ⟨enter [v0,v1],h,x⟩ K = zjC C gl v0 v1 h x K:=by kernel_rfl
def z7S : ACode:=.pr [0,1,6,8,9,12,13,14] (.seq (.seq (rg [mV 31 9,
mV 32 1,
bN 33 .eql 31 32] [0,1,6,8,12,13,14,33])
(.cond 33 (.seq (rg [mV 34 8,
mV 4 34] [4])
.ret)
.skip))
(rg [mV 35 6,
mV 36 8,
bN 37 .add 36 (cS [48]),
mV 38 8,
bN 39 .add 38 (cS [49]),
uO 40 (.bsl false none 2 (.str []) [(0,37),(1,39)]),
uO 41 (.app none 35 40),
mV 6 41] [0,1,6,12,13,14]))
def zbv (C : Hd) (gl : GL) (v0 v1 v6 v8 v9 v12 v13 v14 : AV) (h : Heap) (x : Esc) (K : KT) : Prop:=
 pK (oBin .eql v9 v1) fun t1=>
 z0m t1 (K .ret ⟨[(4,v8)],h,x⟩)
 (pK (oBin .add v8 (.p (.str [48]))) fun t2=>
 pK (oBin .add v8 (.p (.str [49]))) fun t3=>
 wK (oBsl false none 2 (.str []) [(0,t2),(1,t3)] h) fun t4 h5 y6=>
 wK (oApp none v6 t4 h5) fun t7 h8 y9=>
 K .normal ⟨[(0,v0),(1,v1),(6,t7),(12,v12),(13,v13),(14,v14)],h8,(y9 ++ (y6 ++ x))⟩)
theorem zkk {C gl e h x K} : NW C gl z7S ⟨e,h,x⟩ K = zbv C gl (aget e 0) (aget e 1) (aget e 6) (aget e 8) (aget e 9) (aget e 12) (aget e 13) (aget e 14) h x K:=by kernel_rfl
def z7T : ACode:=.pr [0,1,6,12,13,14] (rg [bN 42 .add 14 (cI 1),
mV 14 42] [0,1,6,12,13,14])
def zbw (C : Hd) (gl : GL) (v0 v1 v6 v12 v13 v14 : AV) (h : Heap) (x : Esc) (K : KT) : Prop:=
 pK (oBin .add v14 (AI 1)) fun t1=>
 K .normal ⟨[(0,v0),(1,v1),(6,v6),(12,v12),(13,v13),(14,t1)],h,x⟩
theorem zkl {C gl e h x K} : NW C gl z7T ⟨e,h,x⟩ K = zbw C gl (aget e 0) (aget e 1) (aget e 6) (aget e 12) (aget e 13) (aget e 14) h x K:=by kernel_rfl
def zaD (q1 q2 : ACode) : ACode:=.pr [0,1,6,12,13,14] (.seq (rg [bN 15 .lss 14 13] [0,1,6,12,13,14,15])
(.seq (.cond 15 .skip
(.exit 2))
(.seq (.block 3 (.seq (rg [iA 16 none 12 14,
lD 17 none 16,
mV 8 17] [0,1,6,8,12,13,14])
(.seq (rg [mV 18 0,
mV 9 18] [0,1,6,8,9,12,13,14])
(.seq (.seq (rg [mV 19 0,
mV 20 8,
cL 21 z62 [19,20],
mV 10 21] [0,1,6,8,9,10,12,13,14])
(.seq (rg [mV 22 10,
lN 23 22,
bN 24 .gtr 23 (cI 0)] [0,1,6,8,9,10,12,13,14,24])
(.cond 24 (rg [mV 25 10,
mV 26 10,
lN 27 26,
bN 28 .sub 27 (cI 1),
iA 29 none 25 28,
lD 30 none 29,
mV 9 30] [0,1,6,8,9,12,13,14])
.skip)))
q1))))
q2)))
def z3X : ACode:=zaD z7S z7T
def z7m (C : Hd) (gl : GL) (q1 q2 : ACode) (v0 v1 v6 v12 v13 v14 : AV) (h : Heap) (x : Esc) (K : KT) : Prop:=
 pK (oBin .lss v14 v13) fun t1=>
 z0m t1 (pK (z0N none v12 v14 h) fun t2=>
 pK (z0g none t2 h) fun t3=>
 C z62 [v0,t3] h fun t4 h5 y6=>
 pK (oLen t4) fun t7=>
 pK (oBin .gtr t7 (AI 0)) fun t8=>
 z0m t8 (pK (oLen t4) fun t9=>
 pK (oBin .sub t9 (AI 1)) fun t10=>
 pK (z0N none t4 t10 h5) fun t11=>
 pK (z0g none t11 h5) fun t12=>
 NW C gl q1 ⟨[(0,v0),(1,v1),(6,v6),(8,t3),(9,t12),(12,v12),(13,v13),(14,v14)],h5,(y6 ++ x)⟩ (z05 3 (seqN C gl q2 K)))
 (NW C gl q1 ⟨[(0,v0),(1,v1),(6,v6),(8,t3),(9,v0),(10,t4),(12,v12),(13,v13),(14,v14),(24,t8)],h5,(y6 ++ x)⟩ (z05 3 (seqN C gl q2 K))))
 (K (.exit 2) ⟨[(0,v0),(1,v1),(6,v6),(12,v12),(13,v13),(14,v14),(15,t1)],h,x⟩)
theorem zhE {C gl q1 q2 e h x K} : NW C gl (zaD q1 q2) ⟨e,h,x⟩ K = z7m C gl q1 q2 (aget e 0) (aget e 1) (aget e 6) (aget e 12) (aget e 13) (aget e 14) h x K:=by kernel_rfl
theorem zkm {C gl e h x K} : NW C gl z3X ⟨e,h,x⟩ K = z7m C gl z7S z7T (aget e 0) (aget e 1) (aget e 6) (aget e 12) (aget e 13) (aget e 14) h x K:=zhE
theorem zlM {C gl e h x K} : NW C gl (.loop (.scope z3X)) ⟨e,h,x⟩ K = z14 C gl (.scope z3X) K [(0,aget e 0),(1,aget e 1),(6,aget e 6),(12,aget e 12),(13,aget e 13),(14,aget e 14)] h x:=z1Q
def z7U : ACode:=.pr [0,1,6] (rg [mV 43 6,
mV 5 43] [0,1,5])
def zbx (C : Hd) (gl : GL) (v0 v1 v6 : AV) (h : Heap) (x : Esc) (K : KT) : Prop:=
 K .normal ⟨[(0,v0),(1,v1),(5,v6)],h,x⟩
theorem zkn {C gl e h x K} : NW C gl z7U ⟨e,h,x⟩ K = zbx C gl (aget e 0) (aget e 1) (aget e 6) h x K:=by kernel_rfl
def zaE (q3 q4 : ACode) : ACode:=.pr [0,1,5] (.block 1 (.seq (rg [uO 6 (.new0 none)] [0,1,5,6])
(.seq (.seq (rg [mV 12 5,
lN 13 12,
mV 14 (cI 0)] [0,1,6,12,13,14])
(.block 2 (.loop (.scope q3))))
q4)))
def z3e : ACode:=zaE z3X z7U
def z7n (C : Hd) (gl : GL) (q3 q4 : ACode) (v0 v1 v5 : AV) (h : Heap) (x : Esc) (K : KT) : Prop:=
 nwK none h fun t1 h2 y3=>
 pK (oLen v5) fun t4=>
 NW C gl (.loop (.scope q3)) ⟨[(0,v0),(1,v1),(6,t1),(12,v5),(13,t4),(14,(AI 0))],h2,(y3 ++ x)⟩ (z05 2 (seqN C gl q4 (z05 1 K)))
theorem zhF {C gl q3 q4 e h x K} : NW C gl (zaE q3 q4) ⟨e,h,x⟩ K = z7n C gl q3 q4 (aget e 0) (aget e 1) (aget e 5) h x K:=by kernel_rfl
theorem zko {C gl e h x K} : NW C gl z3e ⟨e,h,x⟩ K = z7n C gl z3X z7U (aget e 0) (aget e 1) (aget e 5) h x K:=zhF
theorem zlN {C gl e h x K} : NW C gl (.loop z3e) ⟨e,h,x⟩ K = z14 C gl z3e K [(0,aget e 0),(1,aget e 1),(5,aget e 5)] h x:=z13
def zrU (q5 : ACode) : ACode:=(.seq (rg [mV 4 (cS [])] [0,1])
(.seq (rg [uO 11 (.bsl false none 1 (.str []) [(0,(cS []))]),
mV 5 11] [0,1,5])
(.block 0 (.loop q5))))
def zi2 : AFun:=⟨2,[.t 4],zrU z3e,false,false⟩
def zex (C : Hd) (gl : GL) (q5 : ACode) (v0 v1 : AV) (h : Heap) (x : Esc) (K : KT) : Prop:=
 wK (oBsl false none 1 (.str []) [(0,(.p (.str [])))] h) fun t1 h2 y3=>
 NW C gl (.loop q5) ⟨[(0,v0),(1,v1),(5,t1)],h2,(y3 ++ x)⟩ (z05 0 K)
theorem E_q02y {C gl q5 v0 v1 h x K} : NW C gl (zrU q5) ⟨enter [v0,v1],h,x⟩ K = zex C gl q5 v0 v1 h x K:=by kernel_rfl
theorem e_q02y {C gl v0 v1 h x K} : NW C gl zi2.body ⟨enter [v0,v1],h,x⟩ K = zex C gl z3e v0 v1 h x K:=E_q02y
def z7X : ACode:=.pr [1,3,12,13] (rg [bN 28 .add 13 (cI 1),
mV 13 28] [1,3,12,13])
def zb5 (C : Hd) (gl : GL) (v1 v3 v12 v13 : AV) (h : Heap) (x : Esc) (K : KT) : Prop:=
 pK (oBin .add v13 (AI 1)) fun t1=>
 K .normal ⟨[(1,v1),(3,v3),(12,v12),(13,t1)],h,x⟩
theorem zkz {C gl e h x K} : NW C gl z7X ⟨e,h,x⟩ K = zb5 C gl (aget e 1) (aget e 3) (aget e 12) (aget e 13) h x K:=by kernel_rfl
def zaH (q1 : ACode) : ACode:=.pr [1,3,12,13] (.seq (rg [bN 14 .lss 13 12] [1,3,12,13,14])
(.seq (.cond 14 .skip
(.exit 0))
(.seq (.block 1 (.seq (rg [mV 15 13,
mV 4 15] [1,3,4,12,13])
(.seq (rg [fA 16 5 none 1,
lD 17 none 16,
mV 18 4,
uO 19 (.idxs 17 18),
bN 20 .eql 19 (.c (.p (.int .u8 49)))] [1,3,4,12,13,20])
(.cond 20 (rg [mV 21 3,
mV 22 4,
fA 23 4 none 1,
lD 24 none 23,
mV 25 4,
uO 26 (.idxs 24 25),
iA 27 none 21 22,
wO (.store none 27 26)] [1,3,12,13])
.skip))))
q1)))
def z3i : ACode:=zaH z7X
def z7o (C : Hd) (gl : GL) (q1 : ACode) (v1 v3 v12 v13 : AV) (h : Heap) (x : Esc) (K : KT) : Prop:=
 pK (oBin .lss v13 v12) fun t1=>
 z0m t1 (pK (z0e 5 none v1) fun t2=>
 pK (z0g none t2 h) fun t3=>
 pK (z7O t3 v13) fun t4=>
 pK (oBin .eql t4 (.p (.int .u8 49))) fun t5=>
 z0m t5 (pK (z0e 4 none v1) fun t6=>
 pK (z0g none t6 h) fun t7=>
 pK (z7O t7 v13) fun t8=>
 pK (z0N none v3 v13 h) fun t9=>
 wK (z0n none t9 t8 h) fun t10 h11 y12=>
 NW C gl q1 ⟨[(1,v1),(3,v3),(12,v12),(13,v13)],h11,(y12 ++ x)⟩ K)
 (NW C gl q1 ⟨[(1,v1),(3,v3),(4,v13),(12,v12),(13,v13),(20,t5)],h,x⟩ K))
 (K (.exit 0) ⟨[(1,v1),(3,v3),(12,v12),(13,v13),(14,t1)],h,x⟩)
theorem zhI {C gl q1 e h x K} : NW C gl (zaH q1) ⟨e,h,x⟩ K = z7o C gl q1 (aget e 1) (aget e 3) (aget e 12) (aget e 13) h x K:=by kernel_rfl
theorem zk0 {C gl e h x K} : NW C gl z3i ⟨e,h,x⟩ K = z7o C gl z7X (aget e 1) (aget e 3) (aget e 12) (aget e 13) h x K:=zhI
theorem zlR {C gl e h x K} : NW C gl (.loop z3i) ⟨e,h,x⟩ K = z14 C gl z3i K [(1,aget e 1),(3,aget e 3),(12,aget e 12),(13,aget e 13)] h x:=z13
def z56 : ACode:=.pr [3] (.seq (rg [mV 29 3,
uO 30 (.conv .b2s 29),
mV 2 30] [2])
.ret)
def zb6 (C : Hd) (gl : GL) (v3 : AV) (h : Heap) (x : Esc) (K : KT) : Prop:=
 wK (z67 .b2s v3 h) fun t1 h2 y3=>
 K .ret ⟨[(2,t1)],h2,(y3 ++ x)⟩
theorem zk1 {C gl e h x K} : NW C gl z56 ⟨e,h,x⟩ K = zb6 C gl (aget e 3) h x K:=by kernel_rfl
def zrZ (q2 q3 : ACode) : ACode:=(.seq (rg [uO 1 (.box 0),
mV 2 (cS [])] [1])
(.seq (rg [fA 5 3 none 1,
lD 6 none 5,
uO 7 (.lens 6),
cL 8 z1h [(cS [120]),7],
uO 9 (.conv .s2b 8),
mV 3 9] [1,3])
(.seq (.seq (rg [fA 10 5 none 1,
lD 11 none 10,
uO 12 (.lens 11),
mV 13 (cI 0)] [1,3,12,13])
(.block 0 (.loop q2)))
q3)))
def zi9 : AFun:=⟨1,[.t 2],zrZ z3i z56,false,false⟩
def ze0 (C : Hd) (gl : GL) (q2 q3 : ACode) (v0 : AV) (h : Heap) (x : Esc) (K : KT) : Prop:=
 wK (oBox v0 h) fun t1 h2 y3=>
 pK (z0e 3 none t1) fun t4=>
 pK (z0g none t4 h2) fun t5=>
 pK (z1a t5) fun t6=>
 C z1h [(.p (.str [120])),t6] h2 fun t7 h8 y9=>
 wK (z67 .s2b t7 h8) fun t10 h11 y12=>
 pK (z0e 5 none t1) fun t13=>
 pK (z0g none t13 h11) fun t14=>
 pK (z1a t14) fun t15=>
 NW C gl (.loop q2) ⟨[(1,t1),(3,t10),(12,t15),(13,(AI 0))],h11,(y12 ++ (y9 ++ (y3 ++ x)))⟩ (z05 0 (seqN C gl q3 K))
theorem E_q03h {C gl q2 q3 v0 h x K} : NW C gl (zrZ q2 q3) ⟨enter [v0],h,x⟩ K = ze0 C gl q2 q3 v0 h x K:=by kernel_rfl
theorem e_q03h {C gl v0 h x K} : NW C gl zi9.body ⟨enter [v0],h,x⟩ K = ze0 C gl z3i z56 v0 h x K:=E_q03h
def P_q05r : ACode:=(.seq (rg [mV 4 (cI 0)] [0,1])
(.seq (rg [uO 6 (.build [.p (.int .i64 0),.p (.int .i64 0)] [(0,1,(cI 1)),(1,1,(cI 0))]),
uO 7 (.build [.p (.int .i64 0),.p (.int .i64 0)] [(0,1,(cI 1)),(1,1,(cI 2))]),
uO 8 (.build [.p (.int .i64 0),.p (.int .i64 0)] [(0,1,(cI 3)),(1,1,(cI 9))]),
uO 9 (.build [.p (.int .i64 0),.p (.int .i64 0)] [(0,1,(cI 4)),(1,1,(cI 5))]),
uO 10 (.build [.p (.int .i64 0),.p (.int .i64 0)] [(0,1,(cI 4)),(1,1,(cI 5))]),
uO 11 (.build [.p (.int .i64 0),.p (.int .i64 0)] [(0,1,(cI 6)),(1,1,(cI 8))]),
uO 12 (.build [.p (.int .i64 0),.p (.int .i64 0)] [(0,1,(cI 6)),(1,1,(cI 7))]),
uO 13 (.build [.p (.int .i64 0),.p (.int .i64 0)] [(0,1,(cI 4)),(1,1,(cI 8))]),
uO 14 (.build [.p (.int .i64 0),.p (.int .i64 0)] [(0,1,(cI 1)),(1,1,(cI 2))]),
uO 15 (.build [.p (.int .i64 0),.p (.int .i64 0)] [(0,1,(cI 10)),(1,1,(cI 0))]),
uO 16 (.build [.p (.int .i64 0),.p (.int .i64 0)] [(0,1,(cI 11)),(1,1,(cI 12))]),
uO 17 (.build [.p (.int .i64 0),.p (.int .i64 0)] [(0,1,(cI 11)),(1,1,(cI 12))]),
uO 18 (.build [.p (.int .i64 0),.p (.int .i64 0)] [(0,1,(cI 13)),(1,1,(cI 15))]),
uO 19 (.build [.p (.int .i64 0),.p (.int .i64 0)] [(0,1,(cI 13)),(1,1,(cI 14))]),
uO 20 (.build [.p (.int .i64 0),.p (.int .i64 0)] [(0,1,(cI 11)),(1,1,(cI 15))]),
uO 21 (.build [.p (.int .i64 0),.p (.int .i64 0)] [(0,1,(cI 1)),(1,1,(cI 2))]),
uO 22 (.build [.p (.int .i64 0),.p (.int .i64 0),.p (.int .i64 0),.p (.int .i64 0),.p (.int .i64 0),.p (.int .i64 0),.p (.int .i64 0),.p (.int .i64 0),.p (.int .i64 0),.p (.int .i64 0),.p (.int .i64 0),.p (.int .i64 0),.p (.int .i64 0),.p (.int .i64 0),.p (.int .i64 0),.p (.int .i64 0),.p (.int .i64 0),.p (.int .i64 0),.p (.int .i64 0),.p (.int .i64 0),.p (.int .i64 0),.p (.int .i64 0),.p (.int .i64 0),.p (.int .i64 0),.p (.int .i64 0),.p (.int .i64 0),.p (.int .i64 0),.p (.int .i64 0),.p (.int .i64 0),.p (.int .i64 0),.p (.int .i64 0),.p (.int .i64 0)] [(0,2,6),(2,2,7),(4,2,8),(6,2,9),(8,2,10),(10,2,11),(12,2,12),(14,2,13),(16,2,14),(18,2,15),(20,2,16),(22,2,17),(24,2,18),(26,2,19),(28,2,20),(30,2,21)]),
uO 5 (.alloc [.p (.int .i64 0),.p (.int .i64 0),.p (.int .i64 0),.p (.int .i64 0),.p (.int .i64 0),.p (.int .i64 0),.p (.int .i64 0),.p (.int .i64 0),.p (.int .i64 0),.p (.int .i64 0),.p (.int .i64 0),.p (.int .i64 0),.p (.int .i64 0),.p (.int .i64 0),.p (.int .i64 0),.p (.int .i64 0),.p (.int .i64 0),.p (.int .i64 0),.p (.int .i64 0),.p (.int .i64 0),.p (.int .i64 0),.p (.int .i64 0),.p (.int .i64 0),.p (.int .i64 0),.p (.int .i64 0),.p (.int .i64 0),.p (.int .i64 0),.p (.int .i64 0),.p (.int .i64 0),.p (.int .i64 0),.p (.int .i64 0),.p (.int .i64 0)]),
wO (.store (some 32) 5 22)] [0,1,5])
(.seq (rg [mV 23 0,
mV 24 1,
uO 25 (.iaddra 16 (some 2) 5 23),
uO 26 (.iaddra 2 none 25 24),
lD 27 none 26,
mV 4 27] [4])
.ret)))
def z6S : AFun:=⟨2,[.t 4],P_q05r,false,false⟩
def ze6 (C : Hd) (gl : GL) (v0 v1 : AV) (h : Heap) (x : Esc) (K : KT) : Prop:=
 pK (z02 [.p (.int .i64 0),.p (.int .i64 0)] [(0,1,(AI 1)),(1,1,(AI 0))]) fun t1=>
 pK (z02 [.p (.int .i64 0),.p (.int .i64 0)] [(0,1,(AI 1)),(1,1,(AI 2))]) fun t2=>
 pK (z02 [.p (.int .i64 0),.p (.int .i64 0)] [(0,1,(AI 3)),(1,1,(AI 9))]) fun t3=>
 pK (z02 [.p (.int .i64 0),.p (.int .i64 0)] [(0,1,(AI 4)),(1,1,(AI 5))]) fun t4=>
 pK (z02 [.p (.int .i64 0),.p (.int .i64 0)] [(0,1,(AI 4)),(1,1,(AI 5))]) fun t5=>
 pK (z02 [.p (.int .i64 0),.p (.int .i64 0)] [(0,1,(AI 6)),(1,1,(AI 8))]) fun t6=>
 pK (z02 [.p (.int .i64 0),.p (.int .i64 0)] [(0,1,(AI 6)),(1,1,(AI 7))]) fun t7=>
 pK (z02 [.p (.int .i64 0),.p (.int .i64 0)] [(0,1,(AI 4)),(1,1,(AI 8))]) fun t8=>
 pK (z02 [.p (.int .i64 0),.p (.int .i64 0)] [(0,1,(AI 1)),(1,1,(AI 2))]) fun t9=>
 pK (z02 [.p (.int .i64 0),.p (.int .i64 0)] [(0,1,(AI 10)),(1,1,(AI 0))]) fun t10=>
 pK (z02 [.p (.int .i64 0),.p (.int .i64 0)] [(0,1,(AI 11)),(1,1,(AI 12))]) fun t11=>
 pK (z02 [.p (.int .i64 0),.p (.int .i64 0)] [(0,1,(AI 11)),(1,1,(AI 12))]) fun t12=>
 pK (z02 [.p (.int .i64 0),.p (.int .i64 0)] [(0,1,(AI 13)),(1,1,(AI 15))]) fun t13=>
 pK (z02 [.p (.int .i64 0),.p (.int .i64 0)] [(0,1,(AI 13)),(1,1,(AI 14))]) fun t14=>
 pK (z02 [.p (.int .i64 0),.p (.int .i64 0)] [(0,1,(AI 11)),(1,1,(AI 15))]) fun t15=>
 pK (z02 [.p (.int .i64 0),.p (.int .i64 0)] [(0,1,(AI 1)),(1,1,(AI 2))]) fun t16=>
 pK (z02 [.p (.int .i64 0),.p (.int .i64 0),.p (.int .i64 0),.p (.int .i64 0),.p (.int .i64 0),.p (.int .i64 0),.p (.int .i64 0),.p (.int .i64 0),.p (.int .i64 0),.p (.int .i64 0),.p (.int .i64 0),.p (.int .i64 0),.p (.int .i64 0),.p (.int .i64 0),.p (.int .i64 0),.p (.int .i64 0),.p (.int .i64 0),.p (.int .i64 0),.p (.int .i64 0),.p (.int .i64 0),.p (.int .i64 0),.p (.int .i64 0),.p (.int .i64 0),.p (.int .i64 0),.p (.int .i64 0),.p (.int .i64 0),.p (.int .i64 0),.p (.int .i64 0),.p (.int .i64 0),.p (.int .i64 0),.p (.int .i64 0),.p (.int .i64 0)] [(0,2,t1),(2,2,t2),(4,2,t3),(6,2,t4),(8,2,t5),(10,2,t6),(12,2,t7),(14,2,t8),(16,2,t9),(18,2,t10),(20,2,t11),(22,2,t12),(24,2,t13),(26,2,t14),(28,2,t15),(30,2,t16)]) fun t17=>
 alK [.p (.int .i64 0),.p (.int .i64 0),.p (.int .i64 0),.p (.int .i64 0),.p (.int .i64 0),.p (.int .i64 0),.p (.int .i64 0),.p (.int .i64 0),.p (.int .i64 0),.p (.int .i64 0),.p (.int .i64 0),.p (.int .i64 0),.p (.int .i64 0),.p (.int .i64 0),.p (.int .i64 0),.p (.int .i64 0),.p (.int .i64 0),.p (.int .i64 0),.p (.int .i64 0),.p (.int .i64 0),.p (.int .i64 0),.p (.int .i64 0),.p (.int .i64 0),.p (.int .i64 0),.p (.int .i64 0),.p (.int .i64 0),.p (.int .i64 0),.p (.int .i64 0),.p (.int .i64 0),.p (.int .i64 0),.p (.int .i64 0),.p (.int .i64 0)] h fun t18 h19 y20=>
 wK (z0n (some 32) t18 t17 h19) fun t21 h22 y23=>
 pK (z7N 16 (some 2) t18 v0) fun t24=>
 pK (z7N 2 none t24 v1) fun t25=>
 pK (z0g none t25 h22) fun t26=>
 K .ret ⟨[(4,t26)],h22,(y23 ++ (y20 ++ x))⟩
theorem zsv {C gl v0 v1 h x K} : NW C gl z6S.body ⟨enter [v0,v1],h,x⟩ K = ze6 C gl v0 v1 h x K:=by kernel_rfl
def zmy : ACode:=.pr [5,6,7] (.seq (rg [bN 8 .lss 7 6] [5,6,7,8])
(.seq (.cond 8 .skip
(.exit 0))
(.seq (.block 1 (.seq (rg [iA 9 none 5 7,
lD 10 none 9,
mV 4 10] [4,5,6,7])
(.seq (rg [mV 11 4,
bN 12 .neq 11 (cI 0)] [4,5,6,7,12])
(.cond 12 (.seq (rg [mV 13 4,
mV 2 13] [2])
.ret)
.skip))))
(rg [bN 14 .add 7 (cI 1),
mV 7 14] [5,6,7]))))
def zmz : ACode:=.pr [] (.seq (rg [mV 2 (cI 0)] [2])
.ret)
def P_q002 (q1 q2 : ACode) : ACode:=(.seq (rg [mV 2 (cI 0)] [0])
(.seq (.seq (rg [mV 5 0,
lN 6 5,
mV 7 (cI 0)] [5,6,7])
(.block 0 (.loop q1)))
q2))
def a_q002 : AFun:=⟨1,[.t 2],P_q002 zmy zmz,false,false⟩
def P_q003 : ACode:=(.seq (rg [uO 4 (.alloc [.p (.int .i64 0),.p (.int .i64 0)])] [0,1,4])
(.seq (rg [mV 6 0,
mV 7 0,
uO 8 (.un .neg 7),
uO 9 (.mx [6,8]),
mV 10 1,
cL 11 zs0 [9,10],
mV 5 11] [0,1,4,5])
(.seq (dr [dF (mV 12 0) [0],
dF (mV 13 5) [5],
dF (bN 14 .quo 12 13) [12,13],
dF (mV 15 1) [1],
dF (mV 16 5) [5],
dF (bN 17 .quo 15 16) [15,16],
dF (uO 18 (.build [.p (.int .i64 0),.p (.int .i64 0)] [(0,1,14),(1,1,17)])) [14,17],
dT (wO (.store (some 2) 4 18)) [4,18]] [4])
.ret)))
def a_q003 : AFun:=⟨2,[.cell 4 (some 2)],P_q003,false,false⟩
def zm0 : ACode:=.pr [0,1] (.seq (.seq (rg [mV 5 1,
bN 6 .neq 5 (cI 0)] [0,1,6])
(.cond 6 .skip
(.exit 0)))
(.block 1 (dr [dF (mV 7 1) [1],
dF (mV 8 0) [0],
dF (mV 9 1) [1],
dF (bN 10 .rem 8 9) [8,9],
dF (mV 0 7) [7],
dF (mV 1 10) [10]] [0,1])))
def zm1 : ACode:=.pr [0] (.seq (rg [mV 11 0,
mV 4 11] [4])
.ret)
def P_q004 (q1 q2 : ACode) : ACode:=(.seq (rg [mV 4 (cI 0)] [0,1])
(.seq (.block 0 (.loop q1))
q2))
def a_q004 : AFun:=⟨2,[.t 4],P_q004 zm0 zm1,false,false⟩
def zm2 : ACode:=.pr [0,23,24] (.seq (rg [bN 25 .lss 24 23] [0,23,24,25])
(.seq (.cond 25 .skip
(.exit 0))
(.seq (.block 1 (.seq (rg [mV 26 24,
mV 3 26] [0,3,23,24])
(.seq (rg [mV 27 0,
mV 28 3,
uO 29 (.idxs 27 28),
mV 4 29] [0,4,23,24])
(.seq (rg [mV 30 4,
bN 31 .geq 30 (.c (.p (.int .u8 97))),
mV 32 31,
gD 33 32 true (.mv 4),
gD 34 32 true (.bin .leq 33 (.c (.p (.int .u8 122)))),
uO 35 (.pick 32 34 cF),
mV 36 35,
gD 37 36 false (.mv 4),
gD 38 36 false (.bin .geq 37 (.c (.p (.int .u8 48)))),
gD 39 36 false (.mv 38),
gD 40 39 true (.mv 4),
gD 41 39 true (.bin .leq 40 (.c (.p (.int .u8 57)))),
gD 42 36 false (.pick 39 41 cF),
uO 43 (.pick 36 cT 42),
mV 44 43,
gD 45 44 false (.mv 4),
gD 46 44 false (.bin .eql 45 (.c (.p (.int .u8 45)))),
uO 47 (.pick 44 cT 46),
mV 48 47,
gD 49 48 false (.mv 4),
gD 50 48 false (.bin .eql 49 (.c (.p (.int .u8 95)))),
uO 51 (.pick 48 cT 50),
uO 52 (.un .not 51)] [0,23,24,52])
(.cond 52 (.seq (rg [mV 2 cF] [2])
.ret)
.skip)))))
(rg [bN 53 .add 24 (cI 1),
mV 24 53] [0,23,24]))))
def zm3 : ACode:=.pr [] (.seq (rg [mV 2 cT] [2])
.ret)
def P_q005 (q1 q2 : ACode) : ACode:=(.seq (rg [mV 2 cF] [0])
(.seq (.seq (rg [mV 5 0,
bN 6 .eql 5 (cS []),
mV 7 6,
gD 8 7 false (.mv 0),
gD 9 7 false (.lens 8),
gD 10 7 false (.bin .gtr 9 (cI 40)),
uO 11 (.pick 7 cT 10),
mV 12 11,
gD 13 12 false (.mv 0),
gD 14 12 false (.idxs 13 (cI 0)),
gD 15 12 false (.bin .lss 14 (.c (.p (.int .u8 97)))),
uO 16 (.pick 12 cT 15),
mV 17 16,
gD 18 17 false (.mv 0),
gD 19 17 false (.idxs 18 (cI 0)),
gD 20 17 false (.bin .gtr 19 (.c (.p (.int .u8 122)))),
uO 21 (.pick 17 cT 20)] [0,21])
(.cond 21 (.seq (rg [mV 2 cF] [2])
.ret)
.skip))
(.seq (.seq (rg [mV 22 0,
uO 23 (.lens 22),
mV 24 (cI 0)] [0,23,24])
(.block 0 (.loop q1)))
q2)))
def a_q005 : AFun:=⟨1,[.t 2],P_q005 zm2 zm3,false,false⟩
def P_q007 : ACode:=(.seq (rg [mV 2 cF] [0])
(.seq (rg [mV 3 0,
cL 4 z1d [3,(cI 0),(cI 345686399999)],
uO 5 (.un .not 4),
mV 2 5] [2])
.ret))
def a_q007 : AFun:=⟨1,[.t 2],P_q007,false,false⟩
def zm4 : ACode:=.pr [2,19,20,21] (.seq (rg [bN 22 .lss 21 20] [2,19,20,21,22])
(.seq (.cond 22 .skip
(.exit 0))
(.seq (.block 1 (.seq (rg [mV 23 21,
iA 24 none 19 21,
lD 25 none 24,
mV 6 23,
mV 7 25] [2,6,7,19,20,21])
(.seq (rg [mV 26 7,
uO 27 (.lens 26),
fA 28 0 none 2,
lD 29 none 28,
mV 30 6,
iA 31 (some 2) 29 30,
fA 32 1 none 31,
lD 33 none 32,
lN 34 33,
bN 35 .neq 27 34,
mV 36 35,
gD 37 36 false (.mv 7),
gD 38 36 false (.call z2p [37]),
gD 39 36 false (.un .not 38),
uO 40 (.pick 36 cT 39)] [2,19,20,21,40])
(.cond 40 (.seq (rg [mV 4 (cI 3)] [4])
.ret)
.skip))))
(rg [bN 41 .add 21 (cI 1),
mV 21 41] [2,19,20,21]))))
def zm5 : ACode:=.pr [] (.seq (rg [mV 4 (cI 0)] [4])
.ret)
def P_q00a (q1 q2 : ACode) : ACode:=(.seq (rg [uO 2 (.box 0),
mV 4 (cI 0)] [1,2])
(.seq (.seq (rg [lD 8 (some 3) 2,
cL 9 zs2 [8],
mV 5 9] [1,2,5])
(.seq (rg [mV 10 5,
bN 11 .neq 10 (cI 0)] [1,2,5,11])
(.cond 11 (.seq (rg [mV 12 5,
mV 4 12] [4])
.ret)
.skip)))
(.seq (.seq (rg [mV 13 1,
lN 14 13,
fA 15 0 none 2,
lD 16 none 15,
lN 17 16,
bN 18 .neq 14 17] [1,2,18])
(.cond 18 (.seq (rg [mV 4 (cI 3)] [4])
.ret)
.skip))
(.seq (.seq (rg [mV 19 1,
lN 20 19,
mV 21 (cI 0)] [2,19,20,21])
(.block 0 (.loop q1)))
q2))))
def a_q00a : AFun:=⟨2,[.t 4],P_q00a zm4 zm5,false,false⟩
def zm6 : ACode:=.pr [1,15,16,17] (.seq (rg [bN 18 .lss 17 16] [1,15,16,17,18])
(.seq (.cond 18 .skip
(.exit 0))
(.seq (.block 1 (.seq (rg [mV 19 17,
iA 20 (some 2) 15 17,
lD 21 (some 2) 20,
uO 4 (.alloc [.p (.str []),.sl0 (some 4)]),
mV 3 19,
wO (.store (some 2) 4 21)] [1,3,4,15,16,17])
(.seq (.block 2 (.seq (rg [fA 23 0 none 4,
lD 24 none 23,
cL 25 z4C [24],
uO 26 (.un .not 25),
mV 22 26] [1,3,4,15,16,17,22])
(.cond 22 (.seq (rg [mV 2 (cI 5)] [2])
.ret)
(.seq (dr [dF (mV 28 3) [3],
dF (bN 29 .gtr 28 (cI 0)) [28],
dF (mV 30 29) [29],
dF (gD 31 30 true (.faddr 0 none 4)) [4,30],
dF (gD 32 30 true (.load none 31)) [31,30],
dF (gD 33 30 true (.faddr 0 none 1)) [1,30],
dF (gD 34 30 true (.load none 33)) [33,30],
dF (gD 35 30 true (.mv 3)) [3,30],
dF (gD 36 30 true (.bin .sub 35 (cI 1))) [35,30],
dF (gD 37 30 true (.iaddr (some 2) 34 36)) [34,36,30],
dF (gD 38 30 true (.faddr 0 none 37)) [37,30],
dF (gD 39 30 true (.load none 38)) [38,30],
dF (gD 40 30 true (.bin .leq 32 39)) [32,39,30],
dF (uO 41 (.pick 30 40 cF)) [30,40],
dF (mV 27 41) [41]] [1,4,15,16,17,27])
(.cond 27 (.seq (rg [mV 2 (cI 7)] [2])
.ret)
.skip)))))
(.seq (rg [lD 42 (some 2) 4,
cL 43 zs7 [42],
mV 5 43] [1,5,15,16,17])
(.seq (rg [mV 44 5,
bN 45 .neq 44 (cI 0)] [1,5,15,16,17,45])
(.cond 45 (.seq (rg [mV 46 5,
mV 2 46] [2])
.ret)
.skip))))))
(rg [bN 47 .add 17 (cI 1),
mV 17 47] [1,15,16,17]))))
def zm7 : ACode:=.pr [1,7,59,60,61] (.seq (rg [bN 62 .lss 61 60] [1,7,59,60,61,62])
(.seq (.cond 62 .skip
(.exit 3))
(.seq (.block 4 (.seq (rg [mV 63 61,
iA 64 (some 2) 59 61,
lD 65 (some 2) 64,
uO 9 (.alloc [.p (.str []),.p (.int .i64 0)]),
mV 8 63,
wO (.store (some 2) 9 65)] [1,7,8,9,59,60,61])
(.block 5 (.seq (rg [mV 67 7,
fA 68 0 none 9,
lD 69 none 68,
cL 70 zlq [67,69],
uO 71 (.un .not 70),
mV 66 71] [1,7,8,9,59,60,61,66])
(.cond 66 (.seq (rg [mV 2 (cI 8)] [2])
.ret)
(.seq (rg [fA 73 1 none 9,
lD 74 none 73,
cL 75 z1d [74,(cI 0),(cI 1)],
mV 72 75] [1,7,8,9,59,60,61,72])
(.cond 72 (.seq (rg [mV 2 (cI 1)] [2])
.ret)
(.seq (dr [dF (mV 77 8) [8],
dF (bN 78 .gtr 77 (cI 0)) [77],
dF (mV 79 78) [78],
dF (gD 80 79 true (.faddr 0 none 9)) [9,79],
dF (gD 81 79 true (.load none 80)) [80,79],
dF (gD 82 79 true (.faddr 2 none 1)) [1,79],
dF (gD 83 79 true (.load none 82)) [82,79],
dF (gD 84 79 true (.mv 8)) [8,79],
dF (gD 85 79 true (.bin .sub 84 (cI 1))) [84,79],
dF (gD 86 79 true (.iaddr (some 2) 83 85)) [83,85,79],
dF (gD 87 79 true (.faddr 0 none 86)) [86,79],
dF (gD 88 79 true (.load none 87)) [87,79],
dF (gD 89 79 true (.bin .leq 81 88)) [81,88,79],
dF (uO 90 (.pick 79 89 cF)) [79,89],
dF (mV 76 90) [90]] [1,7,59,60,61,76])
(.cond 76 (.seq (rg [mV 2 (cI 7)] [2])
.ret)
.skip)))))))))
(rg [bN 91 .add 61 (cI 1),
mV 61 91] [1,7,59,60,61]))))
def zm8 : ACode:=.pr [] (.seq (rg [mV 2 (cI 0)] [2])
.ret)
def zhR (q2 q3 : ACode) : ACode:=.pr [1] (.seq (.seq (rg [lD 48 (some 3) 1,
cL 49 zsB [48],
mV 6 49] [1,6])
(.seq (rg [mV 50 6,
bN 51 .neq 50 (cI 0)] [1,6,51])
(.cond 51 (.seq (rg [mV 52 6,
mV 2 52] [2])
.ret)
.skip)))
(.seq (rg [lD 53 (some 3) 1,
cL 54 zeK [53],
mV 7 54] [1,7])
(.seq (.seq (rg [mV 55 7,
lN 56 55,
bN 57 .gtr 56 (cI 100)] [1,7,57])
(.cond 57 (.seq (rg [mV 2 (cI 2)] [2])
.ret)
.skip))
(.seq (.seq (rg [fA 58 2 none 1,
lD 59 none 58,
lN 60 59,
mV 61 (cI 0)] [1,7,59,60,61])
(.block 3 (.loop (.scope q2))))
q3))))
def zm9 : ACode:=zhR zm7 zm8
def P_q00b (q1 q4 : ACode) : ACode:=(.seq (rg [uO 1 (.box 0),
mV 2 (cI 0)] [1])
(.seq (.seq (rg [fA 10 0 none 1,
lD 11 none 10,
lN 12 11,
bN 13 .gtr 12 (cI 40)] [1,13])
(.cond 13 (.seq (rg [mV 2 (cI 2)] [2])
.ret)
.skip))
(.seq (.seq (rg [fA 14 0 none 1,
lD 15 none 14,
lN 16 15,
mV 17 (cI 0)] [1,15,16,17])
(.block 0 (.loop (.scope q1))))
q4)))
def a_q00b : AFun:=⟨1,[.t 2],P_q00b zm6 zm9,false,false⟩
end Go.Am
end
