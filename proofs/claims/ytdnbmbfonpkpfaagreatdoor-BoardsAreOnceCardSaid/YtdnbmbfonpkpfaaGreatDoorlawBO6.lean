/- Texts of the proof, laid together: CodesC, CodesD. -/
import Derived.KernelRfl
import Derived.Test.YtdnbmbfonpkpfaaGreatDoorlawBO5
set_option linter.all false
section
/- The functions asv abstract code,and asv formulas over their values: printed by program out of the translation. -/
set_option linter.unusedVariables false
set_option maxRecDepth 100000
namespace Go.Am
def z66:ACode:=.pr [0,3,5,38,45] (.cond 45 (.seq (rg [mV 48 0,
mV 49 5,
lD 50 (some 8) 3,
cL 51 z9n [48,49,50],
mV 4 51] [4])
.ret)
(.seq (rg [bN 53 .eql 38 (cI 5),
mV 52 53] [0,3,5,52])
(.cond 52 (.seq (.seq (rg [mV 54 5,
uO 55 (.nilchk 54),
fA 56 0 none 55,
lD 57 none 56,
bN 58 .neq 57 (cI 3)] [3,5,58])
(.cond 58 (.seq (rg [mV 4 (cI 11)] [4])
.ret)
.skip))
(.seq (dr [dF (mV 59 5) [5],
dF (mV 60 5) [5],
dF (fA 61 2 none 3) [3],
dF (lD 62 none 61) [61],
dF (uO 63 (.nilchk 59)) [59],
dF (fA 64 0 none 63) [63],
dA (wO (.store none 64 (cI 1))) [64] true [] [3],
dF (uO 65 (.nilchk 60)) [60],
dF (fA 66 1 none 65) [65],
dT (wO (.store none 66 62)) [66,62]] [])
(.seq (rg [mV 4 (cI 0)] [4])
.ret)))
.skip)))
def zef (C:Hd) (gl:GL) (v0 v3 v5 v38 v45:AV) (h:Heap) (x:Esc) (K:KT):Prop:=
 z0j v45 (pK (z0e (some 8) v3 h) fun t1=>
 C z9n [v0,v5,t1] h fun t2 h3 y4=>
 K .ret ⟨[(4,t2)],h3,(y4++x)⟩)
 (pK (oBin .eql v38 (AI 5)) fun t5=>
 z0j t5 (pK (oNil v5) fun t6=>
 pK (z0d 0 none t6) fun t7=>
 pK (z0e none t7 h) fun t8=>
 pK (oBin .neq t8 (AI 3)) fun t9=>
 z0j t9 (K .ret ⟨[(4,(AI 11))],h,x⟩)
 (pK (z0d 2 none v3) fun t10=>
 pK (z0e none t10 h) fun t11=>
 pK (oNil v5) fun t12=>
 pK (z0d 0 none t12) fun t13=>
 wK (z0m none t13 (AI 1) h) fun t14 h15 y16=>
 (pK (z0e none t10 h15) fun v=>(fun u (g1:Heap) (y1:Esc)=>u=t11∧g1=h15∧y1=[]) v h15 [])∧(pK (oNil v5) fun t17=>
 pK (z0d 1 none t17) fun t18=>
 wK (z0m none t18 t11 h15) fun t19 h20 y21=>
 K .ret ⟨[(4,(AI 0))],h20,(y21++(y16++x))⟩)))
 (K .normal ⟨[(0,v0),(3,v3),(5,v5),(52,t5)],h,x⟩))
theorem zos {C gl e h x K}:NW C gl z66 ⟨e,h,x⟩ K=zef C gl (aget e 0) (aget e 3) (aget e 5) (aget e 38) (aget e 45) h x K:=by kernel_rfl
def z9M:ACode:=.pr [3,5] (.seq (dr [dF (mV 89 5) [5],
dF (mV 90 5) [5],
dF (fA 91 2 none 3) [3],
dF (lD 92 none 91) [91],
dF (uO 93 (.nilchk 89)) [89],
dF (fA 94 0 none 93) [93],
dA (wO (.store none 94 (cI 5))) [94] true [] [3],
dF (uO 95 (.nilchk 90)) [90],
dF (fA 96 1 none 95) [95],
dT (wO (.store none 96 92)) [96,92]] [])
(.seq (rg [mV 4 (cI 0)] [4])
.ret))
def zeg (C:Hd) (gl:GL) (v3 v5:AV) (h:Heap) (x:Esc) (K:KT):Prop:=
 pK (z0d 2 none v3) fun t1=>
 pK (z0e none t1 h) fun t2=>
 pK (oNil v5) fun t3=>
 pK (z0d 0 none t3) fun t4=>
 wK (z0m none t4 (AI 5) h) fun t5 h6 y7=>
 (pK (z0e none t1 h6) fun v=>(fun u (g1:Heap) (y1:Esc)=>u=t2∧g1=h6∧y1=[]) v h6 [])∧(pK (oNil v5) fun t8=>
 pK (z0d 1 none t8) fun t9=>
 wK (z0m none t9 t2 h6) fun t10 h11 y12=>
 K .ret ⟨[(4,(AI 0))],h11,(y12++(y7++x))⟩)
theorem zot {C gl e h x K}:NW C gl z9M ⟨e,h,x⟩ K=zeg C gl (aget e 3) (aget e 5) h x K:=by kernel_rfl
def zcP (q2:ACode):ACode:=.pr [0,3,5] (.seq (.seq (rg [mV 67 5,
uO 68 (.nilchk 67),
fA 69 0 none 68,
lD 70 none 69,
bN 71 .eql 70 (cI 4),
mV 72 71,
gD 73 72 false (.mv 5),
gD 74 72 false (.nilchk 73),
gD 75 72 false (.faddr 0 none 74),
gD 76 72 false (.load none 75),
gD 77 72 false (.bin .eql 76 (cI 5)),
uO 78 (.pick 72 cT 77)] [0,3,5,78])
(.cond 78 (.seq (rg [mV 4 (cI 11)] [4])
.ret)
.skip))
(.seq (.seq (rg [mV 79 5,
uO 80 (.nilchk 79),
fA 81 0 none 80,
lD 82 none 81,
bN 83 .eql 82 (cI 2)] [0,3,5,83])
(.cond 83 (rg [mV 84 0,
mV 85 5,
fA 86 2 none 3,
lD 87 none 86,
cL 88 z5P [84,85,87]] [3,5])
.skip))
q2))
def z67:ACode:=zcP z9M
def z8O (C:Hd) (gl:GL) (q2:ACode) (v0 v3 v5:AV) (h:Heap) (x:Esc) (K:KT):Prop:=
 pK (oNil v5) fun t1=>
 pK (z0d 0 none t1) fun t2=>
 pK (z0e none t2 h) fun t3=>
 pK (oBin .eql t3 (AI 4)) fun t4=>
 gM t4 false v5 h fun t5 h6 y7=>
 gP t4 false (oNil t5) h6 fun t8 h9 y10=>
 gP t4 false (z0d 0 none t8) h9 fun t11 h12 y13=>
 gP t4 false (z0e none t11 h12) h12 fun t14 h15 y16=>
 gP t4 false (oBin .eql t14 (AI 5)) h15 fun t17 h18 y19=>
 pK (z0G t4 (AB true) t17) fun t20=>
 z0j t20 (K .ret ⟨[(4,(AI 11))],h18,(y19++(y16++(y13++(y10++(y7++x)))))⟩)
 (pK (oNil v5) fun t21=>
 pK (z0d 0 none t21) fun t22=>
 pK (z0e none t22 h18) fun t23=>
 pK (oBin .eql t23 (AI 2)) fun t24=>
 z0j t24 (pK (z0d 2 none v3) fun t25=>
 pK (z0e none t25 h18) fun t26=>
 C z5P [v0,v5,t26] h18 fun t27 h28 y29=>
 NW C gl q2 ⟨[(3,v3),(5,v5)],h28,(y29++(y19++(y16++(y13++(y10++(y7++x))))))⟩ K)
 (NW C gl q2 ⟨[(0,v0),(3,v3),(5,v5),(83,t24)],h18,(y19++(y16++(y13++(y10++(y7++x)))))⟩ K))
theorem zkH {C gl q2 e h x K}:NW C gl (zcP q2) ⟨e,h,x⟩ K=z8O C gl q2 (aget e 0) (aget e 3) (aget e 5) h x K:=by kernel_rfl
theorem zou {C gl e h x K}:NW C gl z67 ⟨e,h,x⟩ K=z8O C gl z9M (aget e 0) (aget e 3) (aget e 5) h x K:=zkH
def zvT (q1 q3:ACode):ACode:=(.seq (rg [uO 3 (.box 1),
mV 4 (cI 0)] [0,3])
(.seq (dr [dF (mV 6 0) [0],
dF (uO 7 (.nilchk 6)) [6],
dF (fA 8 2 none 7) [7],
dF (lD 9 none 8) [8],
dF (fA 10 4 none 3) [3],
dF (lD 11 none 10) [10],
dF (uO 12 (.look (none,[2]) false (.nilp) 9 11)) [9,11],
dF (mV 5 12) [12]] [0,3,5])
(.seq (.seq (rg [fA 13 3 none 3,
lD 14 none 13,
bN 15 .eql 14 (cI 1)] [0,3,5,15])
(.cond 15 (.seq (.seq (rg [mV 16 5,
uO 17 (.isnil 0 true 16)] [0,3,17])
(.cond 17 (.seq (rg [mV 4 (cI 6)] [4])
.ret)
.skip))
(.seq (dr [dF (mV 18 0) [0],
dF (uO 19 (.nilchk 18)) [18],
dF (fA 20 2 none 19) [19],
dF (lD 21 none 20) [20],
dF (fA 22 4 none 3) [3],
dF (lD 23 none 22) [22],
dF (fA 24 2 none 3) [3],
dF (lD 25 none 24) [24],
dF (mV 26 0) [0],
dF (uO 27 (.nilchk 26)) [26],
dF (fA 28 0 (some 2) 27) [27],
dF (fA 29 0 none 28) [28],
dF (lD 30 none 29) [29],
dF (iA 31 none 30 (cI 0)) [30],
dF (lD 32 none 31) [31],
dF (uO 33 (.build [.p (.int .i64 0),.p (.int .i64 0),.p (.str []),.p (.str []),.p (.int .i64 0)] [(0,1,(cI 1)),(1,1,25),(2,1,32)])) [25,32],
dA (uO 34 (.box 33)) [33] true [] [3,5],
dT (wO (.mupd (none,[2]) 21 23 34)) [21,23,34]] [])
(.seq (rg [mV 4 (cI 0)] [4])
.ret)))
.skip))
(.seq (.seq (rg [mV 35 5,
uO 36 (.isnil 0 false 35)] [0,3,5,36])
(.cond 36 (.seq (rg [mV 4 (cI 8)] [4])
.ret)
.skip))
(.seq (.seq (rg [fA 37 3 none 3,
lD 38 none 37] [0,3,5,38])
(.block 0 (.seq (rg [bN 40 .eql 38 (cI 2),
mV 39 40] [0,3,5,38,39])
(.cond 39 (.seq (rg [mV 41 0,
mV 42 5,
lD 43 (some 8) 3,
cL 44 z9o [41,42,43],
mV 4 44] [4])
.ret)
(.seq (.seq (rg [bN 46 .eql 38 (cI 3),
mV 45 46] [0,3,5,38,45])
(.cond 45 .skip
(rg [bN 47 .eql 38 (cI 4),
mV 45 47] [0,3,5,38,45])))
q1)))))
q3)))))
def zgF:AFun:=⟨2,[.t 4],zvT z66 z67,false,false⟩
def z2i (C:Hd) (gl:GL) (q1 q3:ACode) (v0 v1:AV) (h:Heap) (x:Esc) (K:KT):Prop:=
 wK (oBox v1 h) fun t1 h2 y3=>
 pK (oNil v0) fun t4=>
 pK (z0d 2 none t4) fun t5=>
 pK (z0e none t5 h2) fun t6=>
 pK (z0d 4 none t1) fun t7=>
 pK (z0e none t7 h2) fun t8=>
 pK (z0L (none,[2]) false (.nilp) t6 t8 h2) fun t9=>
 pK (z0d 3 none t1) fun t10=>
 pK (z0e none t10 h2) fun t11=>
 pK (oBin .eql t11 (AI 1)) fun t12=>
 z0j t12 (pK (zbm 0 true t9) fun t13=>
 z0j t13 (K .ret ⟨[(4,(AI 6))],h2,(y3++x)⟩)
 (pK (oNil v0) fun t14=>
 pK (z0d 2 none t14) fun t15=>
 pK (z0e none t15 h2) fun t16=>
 pK (z0d 4 none t1) fun t17=>
 pK (z0e none t17 h2) fun t18=>
 pK (z0d 2 none t1) fun t19=>
 pK (z0e none t19 h2) fun t20=>
 pK (oNil v0) fun t21=>
 pK (z0d 0 (some 2) t21) fun t22=>
 pK (z0d 0 none t22) fun t23=>
 pK (z0e none t23 h2) fun t24=>
 pK (z0r none t24 (AI 0) h2) fun t25=>
 pK (z0e none t25 h2) fun t26=>
 pK (z07 [.p (.int .i64 0),.p (.int .i64 0),.p (.str []),.p (.str []),.p (.int .i64 0)] [(0,1,(AI 1)),(1,1,t20),(2,1,t26)]) fun t27=>
 wK (oBox t27 h2) fun t28 h29 y30=>
 (pK (z0e none t15 h29) fun v=>(fun u (g1:Heap) (y1:Esc)=>u=t16∧g1=h29∧y1=[]) v h29 [])∧((pK (z0e none t17 h29) fun v=>(fun u (g1:Heap) (y1:Esc)=>u=t18∧g1=h29∧y1=[]) v h29 [])∧(wK (z1v (none,[2]) t16 t18 t28 h29) fun t31 h32 y33=>
 K .ret ⟨[(4,(AI 0))],h32,(y33++(y30++(y3++x)))⟩))))
 (pK (zbm 0 false t9) fun t34=>
 z0j t34 (K .ret ⟨[(4,(AI 8))],h2,(y3++x)⟩)
 (pK (z0d 3 none t1) fun t35=>
 pK (z0e none t35 h2) fun t36=>
 pK (oBin .eql t36 (AI 2)) fun t37=>
 z0j t37 (pK (z0e (some 8) t1 h2) fun t38=>
 C z9o [v0,t9,t38] h2 fun t39 h40 y41=>
 K .ret ⟨[(4,t39)],h40,(y41++(y3++x))⟩)
 (pK (oBin .eql t36 (AI 3)) fun t42=>
 z0j t42 (NW C gl q1 ⟨[(0,v0),(3,t1),(5,t9),(38,t36),(45,t42)],h2,(y3++x)⟩ (z0q 0 (seqN C gl q3 K)))
 (pK (oBin .eql t36 (AI 4)) fun t43=>
 NW C gl q1 ⟨[(0,v0),(3,t1),(5,t9),(38,t36),(45,t43)],h2,(y3++x)⟩ (z0q 0 (seqN C gl q3 K))))))
theorem E_q061 {C gl q1 q3 v0 v1 h x K}:NW C gl (zvT q1 q3) ⟨enter [v0,v1],h,x⟩ K=z2i C gl q1 q3 v0 v1 h x K:=by kernel_rfl
theorem e_q061 {C gl v0 v1 h x K}:NW C gl zgF.body ⟨enter [v0,v1],h,x⟩ K=z2i C gl z66 z67 v0 v1 h x K:=E_q061
def P_q04a:ACode:=(.seq (rg [mV 5 0,
lN 6 5,
mV 4 6] [0,1,4])
(rg [mV 7 0,
mV 8 4,
mV 9 4,
uO 10 (.conv (.i .u64) 9),
cL 11 zaE [10],
mV 12 1,
cL 13 z5f [7,(cI 0),8,11,12]] []))
def zlH:AFun:=⟨2,[],P_q04a,true,false⟩
def zmQ (C:Hd) (gl:GL) (v0 v1:AV) (h:Heap) (x:Esc) (K:KT):Prop:=
 pK (oLen v0) fun t1=>
 pK (z75 .u64 t1) fun t2=>
 C zaE [t2] h fun t3 h4 y5=>
 C z5f [v0,(AI 0),t1,t3,v1] h4 fun t6 h7 y8=>
 K .normal ⟨[],h7,(y8++(y5++x))⟩
theorem e_q04a {C gl v0 v1 h x K}:NW C gl zlH.body ⟨enter [v0,v1],h,x⟩ K=zmQ C gl v0 v1 h x K:=by kernel_rfl
def P_q063:ACode:=(.seq (rg [mV 5 (cI 0)] [0,1,2])
(.seq (dr [dF (lD 6 none 2) [2],
dF (uO 7 (.nilchk 6)) [6],
dF (fA 8 2 none 7) [7],
dF (lD 9 none 8) [8],
dF (mV 10 0) [0],
dF (uO 11 (.look (none,[2]) false (.nilp) 9 10)) [9,10],
dF (uO 12 (.nilchk 11)) [11],
dF (fA 13 1 none 12) [12],
dF (lD 14 none 13) [13],
dF (lD 15 none 2) [2],
dF (uO 16 (.nilchk 15)) [15],
dF (fA 17 2 none 16) [16],
dF (lD 18 none 17) [17],
dF (mV 19 1) [1],
dF (uO 20 (.look (none,[2]) false (.nilp) 18 19)) [18,19],
dF (uO 21 (.nilchk 20)) [20],
dF (fA 22 1 none 21) [21],
dF (lD 23 none 22) [22],
dT (cL 24 z3Z [14,23]) [14,23],
dF (mV 25 0) [0],
dF (mV 26 1) [1],
dT (cL 27 z2l [25,26]) [25,26],
dF (uO 28 (.bsl false none 2 (.int .i64 0) [(0,24),(1,27)])) [24,27],
dT (cL 29 z5c [28]) [28],
dF (mV 5 29) [29]] [5])
.ret))
def zlR:AFun:=⟨3,[.t 5],P_q063,false,false⟩
def zmV (C:Hd) (gl:GL) (v0 v1 v2:AV) (h:Heap) (x:Esc) (K:KT):Prop:=
 pK (z0e none v2 h) fun t1=>
 pK (oNil t1) fun t2=>
 pK (z0d 2 none t2) fun t3=>
 pK (z0e none t3 h) fun t4=>
 pK (z0L (none,[2]) false (.nilp) t4 v0 h) fun t5=>
 pK (oNil t5) fun t6=>
 pK (z0d 1 none t6) fun t7=>
 pK (z0e none t7 h) fun t8=>
 pK (z0e none v2 h) fun t9=>
 pK (oNil t9) fun t10=>
 pK (z0d 2 none t10) fun t11=>
 pK (z0e none t11 h) fun t12=>
 pK (z0L (none,[2]) false (.nilp) t12 v1 h) fun t13=>
 pK (oNil t13) fun t14=>
 pK (z0d 1 none t14) fun t15=>
 pK (z0e none t15 h) fun t16=>
 z1h C z3Z [t8,t16] h fun t17 h18 y19=>
 z1h C z2l [v0,v1] h18 fun t20 h21 y22=>
 wK (oBsl false none 2 (.int .i64 0) [(0,t17),(1,t20)] h21) fun t23 h24 y25=>
 (h24=h21∧y25=[])∧(z1h C z5c [t23] h24 fun t26 h27 y28=>
 K .ret ⟨[(5,t26)],h27,(y28++(y25++(y22++(y19++x))))⟩)
theorem e_q063 {C gl v0 v1 v2 h x K}:NW C gl zlR.body ⟨enter [v0,v1,v2],h,x⟩ K=zmV C gl v0 v1 v2 h x K:=by kernel_rfl
def z2U:ACode:=.pr [3,6,7,8] (.seq (rg [bN 9 .lss 8 7] [3,6,7,8,9])
(.seq (.cond 9 .skip
(.exit 0))
(.seq (.block 1 (.seq (rg [iA 10 none 6 8,
lD 11 none 10,
mV 5 11] [3,5,6,7,8])
(.seq (rg [mV 12 5,
mV 13 3,
bN 14 .neq 12 13] [3,5,6,7,8,14])
(.cond 14 (.seq (rg [mV 15 5,
mV 2 15] [2])
.ret)
.skip))))
(rg [bN 16 .add 8 (cI 1),
mV 8 16] [3,6,7,8]))))
def zdn (C:Hd) (gl:GL) (v3 v6 v7 v8:AV) (h:Heap) (x:Esc) (K:KT):Prop:=
 pK (oBin .lss v8 v7) fun t1=>
 z0j t1 (pK (z0r none v6 v8 h) fun t2=>
 pK (z0e none t2 h) fun t3=>
 pK (oBin .neq t3 v3) fun t4=>
 z0j t4 (K .ret ⟨[(2,t3)],h,x⟩)
 (pK (oBin .add v8 (AI 1)) fun t5=>
 K .normal ⟨[(3,v3),(6,v6),(7,v7),(8,t5)],h,x⟩))
 (K (.exit 0) ⟨[(3,v3),(6,v6),(7,v7),(8,v8),(9,t1)],h,x⟩)
theorem znq {C gl e h x K}:NW C gl z2U ⟨e,h,x⟩ K=zdn C gl (aget e 3) (aget e 6) (aget e 7) (aget e 8) h x K:=by kernel_rfl
theorem zpz {C gl e h x K}:NW C gl (.loop z2U) ⟨e,h,x⟩ K=z0Z C gl z2U K [(3,aget e 3),(6,aget e 6),(7,aget e 7),(8,aget e 8)] h x:=z06
def z6g:ACode:=.pr [3] (.seq (rg [mV 17 3,
mV 2 17] [2])
.ret)
def zdo (C:Hd) (gl:GL) (v3:AV) (h:Heap) (x:Esc) (K:KT):Prop:=
 K .ret ⟨[(2,v3)],h,x⟩
theorem znr {C gl e h x K}:NW C gl z6g ⟨e,h,x⟩ K=zdo C gl (aget e 3) h x K:=by kernel_rfl
def zv5 (q1 q2:ACode):ACode:=(.seq (rg [mV 2 (cI 0)] [0])
(.seq (rg [mV 3 (cI 0)] [0,3])
(.seq (.seq (rg [mV 6 0,
lN 7 6,
mV 8 (cI 0)] [3,6,7,8])
(.block 0 (.loop q1)))
q2)))
def zgy:AFun:=⟨1,[.t 2],zv5 z2U z6g,false,false⟩
def zhb (C:Hd) (gl:GL) (q1 q2:ACode) (v0:AV) (h:Heap) (x:Esc) (K:KT):Prop:=
 pK (oLen v0) fun t1=>
 NW C gl (.loop q1) ⟨[(3,(AI 0)),(6,v0),(7,t1),(8,(AI 0))],h,x⟩ (z0q 0 (seqN C gl q2 K))
theorem E_q00t {C gl q1 q2 v0 h x K}:NW C gl (zv5 q1 q2) ⟨enter [v0],h,x⟩ K=zhb C gl q1 q2 v0 h x K:=by kernel_rfl
theorem e_q00t {C gl v0 h x K}:NW C gl zgy.body ⟨enter [v0],h,x⟩ K=zhb C gl z2U z6g v0 h x K:=E_q00t
def P_q00r:ACode:=(.seq (rg [mV 4 (cI 0)] [0,1])
(.seq (rg [mV 7 0,
cL 8 z5N [7],
mV 5 8] [0,1,5])
(.seq (rg [mV 9 1,
cL 10 z5N [9],
mV 6 10] [0,1,5,6])
(.seq (.seq (rg [mV 11 5] [0,1,6,11])
(.cond 11 (.seq (.seq (rg [mV 12 6] [12])
(.cond 12 (.seq (rg [mV 4 (cI 0)] [4])
.ret)
.skip))
(.seq (rg [mV 4 (cI (-1))] [4])
.ret))
.skip))
(.seq (.seq (rg [mV 13 6] [0,1,13])
(.cond 13 (.seq (rg [mV 4 (cI 1)] [4])
.ret)
.skip))
(.seq (.seq (rg [mV 14 0,
mV 15 1,
bN 16 .lss 14 15] [0,1,16])
(.cond 16 (.seq (rg [mV 4 (cI (-1))] [4])
.ret)
.skip))
(.seq (.seq (rg [mV 17 0,
mV 18 1,
bN 19 .gtr 17 18] [19])
(.cond 19 (.seq (rg [mV 4 (cI 1)] [4])
.ret)
.skip))
(.seq (rg [mV 4 (cI 0)] [4])
.ret))))))))
def zgx:AFun:=⟨2,[.t 4],P_q00r,false,false⟩
def zdm (C:Hd) (gl:GL) (v0 v1:AV) (h:Heap) (x:Esc) (K:KT):Prop:=
 C z5N [v0] h fun t1 h2 y3=>
 C z5N [v1] h2 fun t4 h5 y6=>
 z0j t1 (z0j t4 (K .ret ⟨[(4,(AI 0))],h5,(y6++(y3++x))⟩)
 (K .ret ⟨[(4,(AI (-1)))],h5,(y6++(y3++x))⟩))
 (z0j t4 (K .ret ⟨[(4,(AI 1))],h5,(y6++(y3++x))⟩)
 (pK (oBin .lss v0 v1) fun t7=>
 z0j t7 (K .ret ⟨[(4,(AI (-1)))],h5,(y6++(y3++x))⟩)
 (pK (oBin .gtr v0 v1) fun t8=>
 z0j t8 (K .ret ⟨[(4,(AI 1))],h5,(y6++(y3++x))⟩)
 (K .ret ⟨[(4,(AI 0))],h5,(y6++(y3++x))⟩))))
theorem e_q00r {C gl v0 v1 h x K}:NW C gl zgx.body ⟨enter [v0,v1],h,x⟩ K=zdm C gl v0 v1 h x K:=by kernel_rfl
def P_q06b:ACode:=(.seq (rg [mV 4 (cI 0)] [0,1])
(.seq (rg [mV 5 0,
mV 6 1,
cL 7 z9e [5,6],
mV 4 7] [4])
.ret))
def zgK:AFun:=⟨2,[.t 4],P_q06b,false,false⟩
def zmW (C:Hd) (gl:GL) (v0 v1:AV) (h:Heap) (x:Esc) (K:KT):Prop:=
 C z9e [v0,v1] h fun t1 h2 y3=>
 K .ret ⟨[(4,t1)],h2,(y3++x)⟩
theorem e_q06b {C gl v0 v1 h x K}:NW C gl zgK.body ⟨enter [v0,v1],h,x⟩ K=zmW C gl v0 v1 h x K:=by kernel_rfl
def z3h:ACode:=.pr [0,1,2,6,7,8] (.seq (.seq (rg [mV 11 8,
mV 12 1,
bN 13 .leq 11 12] [0,1,2,6,7,8,13])
(.cond 13 .skip
(.exit 0)))
(.block 1 (.seq (rg [mV 14 0,
mV 15 7,
mV 16 8,
mV 17 2,
cL 18 z4b [14,15,16,17]] [0,1,2,6,8])
(.seq (rg [mV 19 8,
mV 7 19] [0,1,2,6,7,8])
(rg [mV 20 8,
mV 21 6,
bN 22 .add 20 21,
mV 8 22] [0,1,2,6,7,8])))))
def zdL (C:Hd) (gl:GL) (v0 v1 v2 v6 v7 v8:AV) (h:Heap) (x:Esc) (K:KT):Prop:=
 pK (oBin .leq v8 v1) fun t1=>
 z0j t1 (C z4b [v0,v7,v8,v2] h fun t2 h3 y4=>
 pK (oBin .add v8 v6) fun t5=>
 K .normal ⟨[(0,v0),(1,v1),(2,v2),(6,v6),(7,v8),(8,t5)],h3,(y4++x)⟩)
 (K (.exit 0) ⟨[(0,v0),(1,v1),(2,v2),(6,v6),(7,v7),(8,v8),(13,t1)],h,x⟩)
theorem znU {C gl e h x K}:NW C gl z3h ⟨e,h,x⟩ K=zdL C gl (aget e 0) (aget e 1) (aget e 2) (aget e 6) (aget e 7) (aget e 8) h x K:=by kernel_rfl
theorem zpH {C gl e h x K}:NW C gl (.loop z3h) ⟨e,h,x⟩ K=z0Z C gl z3h K [(0,aget e 0),(1,aget e 1),(2,aget e 2),(6,aget e 6),(7,aget e 7),(8,aget e 8)] h x:=z06
def z4w:ACode:=.pr [0,1,2,6,7,8] (.seq (.seq (rg [mV 33 8,
mV 34 1,
bN 35 .leq 33 34] [0,1,2,6,7,8,35])
(.cond 35 .skip
(.exit 4)))
(.block 5 (.seq (rg [mV 36 0,
mV 37 7,
mV 38 7,
mV 39 6,
bN 40 .add 38 39,
mV 41 8,
mV 42 2,
cL 43 zhF [36,37,40,41,42]] [0,1,2,6,8])
(.seq (rg [mV 44 8,
mV 7 44] [0,1,2,6,7,8])
(rg [mV 45 8,
mV 46 6,
bN 47 .mul (cI 2) 46,
bN 48 .add 45 47,
mV 8 48] [0,1,2,6,7,8])))))
def zdM (C:Hd) (gl:GL) (v0 v1 v2 v6 v7 v8:AV) (h:Heap) (x:Esc) (K:KT):Prop:=
 pK (oBin .leq v8 v1) fun t1=>
 z0j t1 (pK (oBin .add v7 v6) fun t2=>
 C zhF [v0,v7,t2,v8,v2] h fun t3 h4 y5=>
 pK (oBin .mul (AI 2) v6) fun t6=>
 pK (oBin .add v8 t6) fun t7=>
 K .normal ⟨[(0,v0),(1,v1),(2,v2),(6,v6),(7,v8),(8,t7)],h4,(y5++x)⟩)
 (K (.exit 4) ⟨[(0,v0),(1,v1),(2,v2),(6,v6),(7,v7),(8,v8),(35,t1)],h,x⟩)
theorem znV {C gl e h x K}:NW C gl z4w ⟨e,h,x⟩ K=zdM C gl (aget e 0) (aget e 1) (aget e 2) (aget e 6) (aget e 7) (aget e 8) h x K:=by kernel_rfl
theorem zpI {C gl e h x K}:NW C gl (.loop z4w) ⟨e,h,x⟩ K=z0Z C gl z4w K [(0,aget e 0),(1,aget e 1),(2,aget e 2),(6,aget e 6),(7,aget e 7),(8,aget e 8)] h x:=z06
def z9G:ACode:=.pr [0,1,2,6] (rg [mV 61 6,
bN 62 .mul 61 (cI 2),
mV 6 62] [0,1,2,6])
def zdN (C:Hd) (gl:GL) (v0 v1 v2 v6:AV) (h:Heap) (x:Esc) (K:KT):Prop:=
 pK (oBin .mul v6 (AI 2)) fun t1=>
 K .normal ⟨[(0,v0),(1,v1),(2,v2),(6,t1)],h,x⟩
theorem znW {C gl e h x K}:NW C gl z9G ⟨e,h,x⟩ K=zdN C gl (aget e 0) (aget e 1) (aget e 2) (aget e 6) h x K:=by kernel_rfl
def zcI (q3:ACode):ACode:=.pr [0,1,2,6,7] (.seq (.seq (rg [mV 49 7,
mV 50 6,
bN 51 .add 49 50,
mV 9 51] [0,1,2,6,7,9])
(.seq (rg [mV 52 9,
mV 53 1,
bN 54 .lss 52 53] [0,1,2,6,7,9,54])
(.cond 54 (rg [mV 55 0,
mV 56 7,
mV 57 9,
mV 58 1,
mV 59 2,
cL 60 zhF [55,56,57,58,59]] [0,1,2,6])
.skip)))
q3)
def z9H:ACode:=zcI z9G
def z8H (C:Hd) (gl:GL) (q3:ACode) (v0 v1 v2 v6 v7:AV) (h:Heap) (x:Esc) (K:KT):Prop:=
 pK (oBin .add v7 v6) fun t1=>
 pK (oBin .lss t1 v1) fun t2=>
 z0j t2 (C zhF [v0,v7,t1,v1,v2] h fun t3 h4 y5=>
 NW C gl q3 ⟨[(0,v0),(1,v1),(2,v2),(6,v6)],h4,(y5++x)⟩ K)
 (NW C gl q3 ⟨[(0,v0),(1,v1),(2,v2),(6,v6),(7,v7),(9,t1),(54,t2)],h,x⟩ K)
theorem zkA {C gl q3 e h x K}:NW C gl (zcI q3) ⟨e,h,x⟩ K=z8H C gl q3 (aget e 0) (aget e 1) (aget e 2) (aget e 6) (aget e 7) h x K:=by kernel_rfl
theorem znX {C gl e h x K}:NW C gl z9H ⟨e,h,x⟩ K=z8H C gl z9G (aget e 0) (aget e 1) (aget e 2) (aget e 6) (aget e 7) h x K:=zkA
def zcJ (q2 q4:ACode):ACode:=.pr [0,1,2,6] (.seq (.seq (rg [mV 28 6,
mV 29 1,
bN 30 .lss 28 29] [0,1,2,6,30])
(.cond 30 .skip
(.exit 2)))
(.block 3 (.seq (rg [mV 31 6,
bN 32 .mul (cI 2) 31,
mV 7 (cI 0),
mV 8 32] [0,1,2,6,7,8])
(.seq (.block 4 (.loop q2))
q4))))
def z4x:ACode:=zcJ z4w z9H
def z8I (C:Hd) (gl:GL) (q2 q4:ACode) (v0 v1 v2 v6:AV) (h:Heap) (x:Esc) (K:KT):Prop:=
 pK (oBin .lss v6 v1) fun t1=>
 z0j t1 (pK (oBin .mul (AI 2) v6) fun t2=>
 NW C gl (.loop q2) ⟨[(0,v0),(1,v1),(2,v2),(6,v6),(7,(AI 0)),(8,t2)],h,x⟩ (z0q 4 (seqN C gl q4 (z0q 3 K))))
 (K (.exit 2) ⟨[(0,v0),(1,v1),(2,v2),(6,v6),(30,t1)],h,x⟩)
theorem zkB {C gl q2 q4 e h x K}:NW C gl (zcJ q2 q4) ⟨e,h,x⟩ K=z8I C gl q2 q4 (aget e 0) (aget e 1) (aget e 2) (aget e 6) h x K:=by kernel_rfl
theorem znY {C gl e h x K}:NW C gl z4x ⟨e,h,x⟩ K=z8I C gl z4w z9H (aget e 0) (aget e 1) (aget e 2) (aget e 6) h x K:=zkB
theorem zpJ {C gl e h x K}:NW C gl (.loop z4x) ⟨e,h,x⟩ K=z0Z C gl z4x K [(0,aget e 0),(1,aget e 1),(2,aget e 2),(6,aget e 6)] h x:=z06
def zcK (q5:ACode):ACode:=.pr [0,1,2,6,7] (.seq (rg [mV 23 0,
mV 24 7,
mV 25 1,
mV 26 2,
cL 27 z4b [23,24,25,26]] [0,1,2,6])
(.block 2 (.loop q5)))
def z6v:ACode:=zcK z4x
def z8J (C:Hd) (gl:GL) (q5:ACode) (v0 v1 v2 v6 v7:AV) (h:Heap) (x:Esc) (K:KT):Prop:=
 C z4b [v0,v7,v1,v2] h fun t1 h2 y3=>
 NW C gl (.loop q5) ⟨[(0,v0),(1,v1),(2,v2),(6,v6)],h2,(y3++x)⟩ (z0q 2 K)
theorem zkC {C gl q5 e h x K}:NW C gl (zcK q5) ⟨e,h,x⟩ K=z8J C gl q5 (aget e 0) (aget e 1) (aget e 2) (aget e 6) (aget e 7) h x K:=by kernel_rfl
theorem znZ {C gl e h x K}:NW C gl z6v ⟨e,h,x⟩ K=z8J C gl z4x (aget e 0) (aget e 1) (aget e 2) (aget e 6) (aget e 7) h x K:=zkC
def zvL (q1 q6:ACode):ACode:=(.seq (rg [mV 6 (cI 20)] [0,1,2,6])
(.seq (rg [mV 10 6,
mV 7 (cI 0),
mV 8 10] [0,1,2,6,7,8])
(.seq (.block 0 (.loop q1))
q6)))
def zlM:AFun:=⟨3,[],zvL z3h z6v,true,false⟩
def zhq (C:Hd) (gl:GL) (q1 q6:ACode) (v0 v1 v2:AV) (h:Heap) (x:Esc) (K:KT):Prop:=
 NW C gl (.loop q1) ⟨[(0,v0),(1,v1),(2,v2),(6,(AI 20)),(7,(AI 0)),(8,(AI 20))],h,x⟩ (z0q 0 (seqN C gl q6 K))
theorem E_q059 {C gl q1 q6 v0 v1 v2 h x K}:NW C gl (zvL q1 q6) ⟨enter [v0,v1,v2],h,x⟩ K=zhq C gl q1 q6 v0 v1 v2 h x K:=by kernel_rfl
theorem e_q059 {C gl v0 v1 v2 h x K}:NW C gl zlM.body ⟨enter [v0,v1,v2],h,x⟩ K=zhq C gl z3h z6v v0 v1 v2 h x K:=E_q059
def P_q03n:ACode:=(.seq (rg [mV 2 (cI 0)] [0])
(.seq (.block 0 (.seq (rg [mV 4 0,
bN 5 .lss 4 (cI 0),
mV 3 5] [0,3])
(.cond 3 (.seq (rg [mV 2 (cI (-1))] [2])
.ret)
(.seq (rg [mV 7 0,
bN 8 .gtr 7 (cI 0),
mV 6 8] [6])
(.cond 6 (.seq (rg [mV 2 (cI 1)] [2])
.ret)
.skip)))))
(.seq (rg [mV 2 (cI 0)] [2])
.ret)))
def zlC:AFun:=⟨1,[.t 2],P_q03n,false,false⟩
def zd8 (C:Hd) (gl:GL) (v0:AV) (h:Heap) (x:Esc) (K:KT):Prop:=
 pK (oBin .lss v0 (AI 0)) fun t1=>
 z0j t1 (K .ret ⟨[(2,(AI (-1)))],h,x⟩)
 (pK (oBin .gtr v0 (AI 0)) fun t2=>
 z0j t2 (K .ret ⟨[(2,(AI 1))],h,x⟩)
 (K .ret ⟨[(2,(AI 0))],h,x⟩))
theorem e_q03n {C gl v0 h x K}:NW C gl zlC.body ⟨enter [v0],h,x⟩ K=zd8 C gl v0 h x K:=by kernel_rfl
def P_q02w:ACode:=(.seq (rg [mV 2 cF] [0])
(.seq (rg [mV 3 0,
uO 4 (.lens 3),
cL 5 z2k [4,(cI 1),(cI 40)],
mV 6 5,
gD 7 6 true (.mv 0),
gD 8 6 true (.slstr 7 none (some (cI 1))),
gD 9 6 true (.call z7x [8,(cS [97,98,99,100,101,102,103,104,105,106,107,108,109,110,111,112,113,114,115,116,117,118,119,120,121,122])]),
uO 10 (.pick 6 9 cF),
mV 11 10,
gD 12 11 true (.mv 0),
gD 13 11 true (.call z7x [12,(cS [97,98,99,100,101,102,103,104,105,106,107,108,109,110,111,112,113,114,115,116,117,118,119,120,121,122,48,49,50,51,52,53,54,55,56,57,45,95])]),
uO 14 (.pick 11 13 cF),
mV 2 14] [2])
.ret))
def zl7:AFun:=⟨1,[.t 2],P_q02w,false,false⟩
def za6 (C:Hd) (gl:GL) (v0:AV) (h:Heap) (x:Esc) (K:KT):Prop:=
 pK (zfV v0) fun t1=>
 C z2k [t1,(AI 1),(AI 40)] h fun t2 h3 y4=>
 gM t2 true v0 h3 fun t5 h6 y7=>
 gP t2 true (zig t5 none (some (AI 1))) h6 fun t8 h9 y10=>
 gV t2 true h9 (C z7x [t8,(.p (.str [97,98,99,100,101,102,103,104,105,106,107,108,109,110,111,112,113,114,115,116,117,118,119,120,121,122]))] h9) fun t11 h12 y13=>
 pK (z0G t2 t11 (AB false)) fun t14=>
 gM t14 true v0 h12 fun t15 h16 y17=>
 gV t14 true h16 (C z7x [t15,(.p (.str [97,98,99,100,101,102,103,104,105,106,107,108,109,110,111,112,113,114,115,116,117,118,119,120,121,122,48,49,50,51,52,53,54,55,56,57,45,95]))] h16) fun t18 h19 y20=>
 pK (z0G t14 t18 (AB false)) fun t21=>
 K .ret ⟨[(2,t21)],h19,(y20++(y17++(y13++(y10++(y7++(y4++x))))))⟩
theorem e_q02w {C gl v0 h x K}:NW C gl zl7.body ⟨enter [v0],h,x⟩ K=za6 C gl v0 h x K:=by kernel_rfl
def P_q03h:ACode:=(.seq (rg [mV 6 cF] [0,1,2])
(.seq (rg [mV 7 1,
mV 8 0,
bN 9 .leq 7 8,
mV 10 9,
gD 11 10 true (.mv 0),
gD 12 10 true (.mv 2),
gD 13 10 true (.bin .leq 11 12),
uO 14 (.pick 10 13 cF),
mV 6 14] [6])
.ret))
def zl9:AFun:=⟨3,[.t 6],P_q03h,false,false⟩
def zmM (C:Hd) (gl:GL) (v0 v1 v2:AV) (h:Heap) (x:Esc) (K:KT):Prop:=
 pK (oBin .leq v1 v0) fun t1=>
 gM t1 true v0 h fun t2 h3 y4=>
 gM t1 true v2 h3 fun t5 h6 y7=>
 gP t1 true (oBin .leq t2 t5) h6 fun t8 h9 y10=>
 pK (z0G t1 t8 (AB false)) fun t11=>
 K .ret ⟨[(6,t11)],h9,(y10++(y7++(y4++x)))⟩
theorem e_q03h {C gl v0 v1 v2 h x K}:NW C gl zl9.body ⟨enter [v0,v1,v2],h,x⟩ K=zmM C gl v0 v1 v2 h x K:=by kernel_rfl
def P_q02y:ACode:=(.seq (rg [mV 2 cF] [0])
(.seq (rg [mV 3 0,
cL 4 z2k [3,(cI 0),(cI 345686399999)],
mV 2 4] [2])
.ret))
def zl8:AFun:=⟨1,[.t 2],P_q02y,false,false⟩
def zmL (C:Hd) (gl:GL) (v0:AV) (h:Heap) (x:Esc) (K:KT):Prop:=
 C z2k [v0,(AI 0),(AI 345686399999)] h fun t1 h2 y3=>
 K .ret ⟨[(2,t1)],h2,(y3++x)⟩
theorem e_q02y {C gl v0 h x K}:NW C gl zl8.body ⟨enter [v0],h,x⟩ K=zmL C gl v0 h x K:=by kernel_rfl
def z3b:ACode:=.pr [0,1,7,8] (.seq (rg [bN 9 .lss 8 7] [0,1,7,8,9])
(.seq (.cond 9 .skip
(.exit 0))
(.seq (.block 1 (.seq (rg [mV 10 8,
mV 5 10] [0,1,5,7,8])
(.seq (rg [mV 11 1,
mV 12 0,
mV 13 5,
iA 14 (some 8) 12 13,
lD 15 (some 8) 14,
uO 16 (.callv 11 [15])] [0,1,5,7,8,16])
(.cond 16 (.seq (rg [mV 17 5,
mV 4 17] [4])
.ret)
.skip))))
(rg [bN 18 .add 8 (cI 1),
mV 8 18] [0,1,7,8]))))
def zd9 (C:Hd) (gl:GL) (v0 v1 v7 v8:AV) (h:Heap) (x:Esc) (K:KT):Prop:=
 pK (oBin .lss v8 v7) fun t1=>
 z0j t1 (pK (z0r (some 8) v0 v8 h) fun t2=>
 pK (z0e (some 8) t2 h) fun t3=>
 z8t C v1 [t3] h fun t4 h5 y6=>
 z0j t4 (K .ret ⟨[(4,v8)],h5,(y6++x)⟩)
 (pK (oBin .add v8 (AI 1)) fun t7=>
 K .normal ⟨[(0,v0),(1,v1),(7,v7),(8,t7)],h5,(y6++x)⟩))
 (K (.exit 0) ⟨[(0,v0),(1,v1),(7,v7),(8,v8),(9,t1)],h,x⟩)
theorem znE {C gl e h x K}:NW C gl z3b ⟨e,h,x⟩ K=zd9 C gl (aget e 0) (aget e 1) (aget e 7) (aget e 8) h x K:=by kernel_rfl
theorem zp9 {C gl e h x K}:NW C gl (.loop z3b) ⟨e,h,x⟩ K=z0Z C gl z3b K [(0,aget e 0),(1,aget e 1),(7,aget e 7),(8,aget e 8)] h x:=z06
def z6s:ACode:=.pr [] (.seq (rg [mV 4 (cI (-1))] [4])
.ret)
def zdA (C:Hd) (gl:GL) (h:Heap) (x:Esc) (K:KT):Prop:=
 K .ret ⟨[(4,(AI (-1)))],h,x⟩
theorem znF {C gl e h x K}:NW C gl z6s ⟨e,h,x⟩ K=zdA C gl h x K:=by kernel_rfl
def zvF (q1 q2:ACode):ACode:=(.seq (rg [mV 4 (cI 0)] [0,1])
(.seq (.seq (rg [mV 6 0,
lN 7 6,
mV 8 (cI 0)] [0,1,7,8])
(.block 0 (.loop q1)))
q2))
def zlF:AFun:=⟨2,[.t 4],zvF z3b z6s,true,false⟩
def zhl (C:Hd) (gl:GL) (q1 q2:ACode) (v0 v1:AV) (h:Heap) (x:Esc) (K:KT):Prop:=
 pK (oLen v0) fun t1=>
 NW C gl (.loop q1) ⟨[(0,v0),(1,v1),(7,t1),(8,(AI 0))],h,x⟩ (z0q 0 (seqN C gl q2 K))
theorem E_q044 {C gl q1 q2 v0 v1 h x K}:NW C gl (zvF q1 q2) ⟨enter [v0,v1],h,x⟩ K=zhl C gl q1 q2 v0 v1 h x K:=by kernel_rfl
theorem e_q044 {C gl v0 v1 h x K}:NW C gl zlF.body ⟨enter [v0,v1],h,x⟩ K=zhl C gl z3b z6s v0 v1 h x K:=E_q044
def P_q006:ACode:=(.seq (rg [mV 6 cF] [0,1,2])
(.seq (rg [mV 7 0,
mV 8 1,
bN 9 .lss 7 8,
mV 10 9,
gD 11 10 false (.mv 0),
gD 12 10 false (.mv 2),
gD 13 10 false (.bin .gtr 11 12),
uO 14 (.pick 10 cT 13),
mV 6 14] [6])
.ret))
def zgw:AFun:=⟨3,[.t 6],P_q006,false,false⟩
def zm9 (C:Hd) (gl:GL) (v0 v1 v2:AV) (h:Heap) (x:Esc) (K:KT):Prop:=
 pK (oBin .lss v0 v1) fun t1=>
 gM t1 false v0 h fun t2 h3 y4=>
 gM t1 false v2 h3 fun t5 h6 y7=>
 gP t1 false (oBin .gtr t2 t5) h6 fun t8 h9 y10=>
 pK (z0G t1 (AB true) t8) fun t11=>
 K .ret ⟨[(6,t11)],h9,(y10++(y7++(y4++x)))⟩
theorem e_q006 {C gl v0 v1 v2 h x K}:NW C gl zgw.body ⟨enter [v0,v1,v2],h,x⟩ K=zm9 C gl v0 v1 v2 h x K:=by kernel_rfl
def P_q05u:ACode:=(.seq (rg [uO 1 (.box 0),
mV 2 (cI 0)] [1])
(.seq (dr [dF (fA 5 3 none 1) [1],
dF (lD 6 none 5) [5],
dF (bN 7 .eql 6 (cI 7)) [6],
dF (fA 8 3 none 1) [1],
dF (lD 9 none 8) [8],
dF (bN 10 .eql 9 (cI 2)) [9],
dF (mV 3 7) [7],
dF (mV 4 10) [10]] [1,3,4])
(.seq (.block 0 (.seq (rg [fA 12 0 none 1,
lD 13 none 12,
cL 14 z17 [13],
uO 15 (.un .not 14),
mV 11 15] [1,3,4,11])
(.cond 11 (.seq (rg [mV 2 (cI 5)] [2])
.ret)
(.seq (rg [fA 17 1 none 1,
lD 18 none 17,
cL 19 z0T [18,(cI 1),(cI 1000000)],
mV 20 19,
gD 21 20 false (.faddr 2 none 1),
gD 22 20 false (.load none 21),
gD 23 20 false (.call z5M [22]),
gD 24 20 false (.un .not 23),
uO 25 (.pick 20 cT 24),
mV 16 25] [1,3,4,16])
(.cond 16 (.seq (rg [mV 2 (cI 1)] [2])
.ret)
(.seq (rg [fA 27 3 none 1,
lD 28 none 27,
cL 29 z0T [28,(cI 1),(cI 7)],
mV 26 29] [1,3,4,26])
(.cond 26 (.seq (rg [mV 2 (cI 4)] [2])
.ret)
(.seq (rg [mV 31 3,
uO 32 (.un .not 31),
mV 33 32,
gD 34 33 true (.faddr 4 none 1),
gD 35 33 true (.load none 34),
gD 36 33 true (.call z17 [35]),
gD 37 33 true (.un .not 36),
uO 38 (.pick 33 37 cF),
mV 39 38,
gD 40 39 false (.mv 4),
gD 41 39 false (.mv 40),
gD 42 41 true (.faddr 5 none 1),
gD 43 41 true (.load none 42),
gD 44 41 true (.call z17 [43]),
gD 45 41 true (.un .not 44),
gD 46 39 false (.pick 41 45 cF),
uO 47 (.pick 39 cT 46),
mV 48 47,
gD 49 48 false (.mv 3),
gD 50 48 false (.mv 49),
gD 51 50 true (.faddr 6 none 1),
gD 52 50 true (.load none 51),
gD 53 50 true (.call z17 [52]),
gD 54 50 true (.un .not 53),
gD 55 48 false (.pick 50 54 cF),
uO 56 (.pick 48 cT 55),
mV 30 56] [1,3,4,30])
(.cond 30 (.seq (rg [mV 2 (cI 5)] [2])
.ret)
(.seq (rg [mV 58 3,
mV 59 58,
gD 60 59 true (.faddr 7 none 1),
gD 61 59 true (.load none 60),
gD 62 59 true (.call z0T [61,(cI 1),(cI 1000000)]),
uO 63 (.pick 59 62 cF),
mV 57 63] [1,3,4,57])
(.cond 57 (.seq (rg [mV 2 (cI 1)] [2])
.ret)
(.seq (rg [mV 65 3,
mV 66 65,
gD 67 66 true (.faddr 4 none 1),
gD 68 66 true (.load none 67),
gD 69 66 true (.bin .neq 68 (cS [])),
uO 70 (.pick 66 69 cF),
mV 71 70,
gD 72 71 false (.mv 4),
gD 73 71 false (.un .not 72),
gD 74 71 false (.mv 73),
gD 75 74 true (.faddr 5 none 1),
gD 76 74 true (.load none 75),
gD 77 74 true (.bin .neq 76 (cS [])),
gD 78 71 false (.pick 74 77 cF),
uO 79 (.pick 71 cT 78),
mV 80 79,
gD 81 80 false (.mv 3),
gD 82 80 false (.un .not 81),
gD 83 80 false (.mv 82),
gD 84 83 true (.faddr 6 none 1),
gD 85 83 true (.load none 84),
gD 86 83 true (.bin .neq 85 (cS [])),
gD 87 83 true (.mv 86),
gD 88 87 false (.faddr 7 none 1),
gD 89 87 false (.load none 88),
gD 90 87 false (.bin .neq 89 (cI 0)),
gD 91 83 true (.pick 87 cT 90),
gD 92 80 false (.pick 83 91 cF),
uO 93 (.pick 80 cT 92),
mV 64 93] [64])
(.cond 64 (.seq (rg [mV 2 (cI 3)] [2])
.ret)
.skip)))))))))))))
(.seq (rg [mV 2 (cI 0)] [2])
.ret))))
def zg9:AFun:=⟨1,[.t 2],P_q05u,false,false⟩
def z5H (C:Hd) (gl:GL) (v0:AV) (h:Heap) (x:Esc) (K:KT):Prop:=
 wK (oBox v0 h) fun t1 h2 y3=>
 pK (z0d 3 none t1) fun t4=>
 pK (z0e none t4 h2) fun t5=>
 pK (oBin .eql t5 (AI 7)) fun t6=>
 pK (z0d 3 none t1) fun t7=>
 pK (z0e none t7 h2) fun t8=>
 pK (oBin .eql t8 (AI 2)) fun t9=>
 pK (z0d 0 none t1) fun t10=>
 pK (z0e none t10 h2) fun t11=>
 C z17 [t11] h2 fun t12 h13 y14=>
 pK (oUn .not t12) fun t15=>
 z0j t15 (K .ret ⟨[(2,(AI 5))],h13,(y14++(y3++x))⟩)
 (pK (z0d 1 none t1) fun t16=>
 pK (z0e none t16 h13) fun t17=>
 C z0T [t17,(AI 1),(AI 1000000)] h13 fun t18 h19 y20=>
 gP t18 false (z0d 2 none t1) h19 fun t21 h22 y23=>
 gP t18 false (z0e none t21 h22) h22 fun t24 h25 y26=>
 gV t18 false h25 (C z5M [t24] h25) fun t27 h28 y29=>
 gP t18 false (oUn .not t27) h28 fun t30 h31 y32=>
 pK (z0G t18 (AB true) t30) fun t33=>
 z0j t33 (K .ret ⟨[(2,(AI 1))],h31,(y32++(y29++(y26++(y23++(y20++(y14++(y3++x)))))))⟩)
 (pK (z0d 3 none t1) fun t34=>
 pK (z0e none t34 h31) fun t35=>
 C z0T [t35,(AI 1),(AI 7)] h31 fun t36 h37 y38=>
 z0j t36 (K .ret ⟨[(2,(AI 4))],h37,(y38++(y32++(y29++(y26++(y23++(y20++(y14++(y3++x))))))))⟩)
 (pK (oUn .not t6) fun t39=>
 gP t39 true (z0d 4 none t1) h37 fun t40 h41 y42=>
 gP t39 true (z0e none t40 h41) h41 fun t43 h44 y45=>
 gV t39 true h44 (C z17 [t43] h44) fun t46 h47 y48=>
 gP t39 true (oUn .not t46) h47 fun t49 h50 y51=>
 pK (z0G t39 t49 (AB false)) fun t52=>
 gM t52 false t9 h50 fun t53 h54 y55=>
 gM t52 false t53 h54 fun t56 h57 y58=>
 gP t56 true (z0d 5 none t1) h57 fun t59 h60 y61=>
 gP t56 true (z0e none t59 h60) h60 fun t62 h63 y64=>
 gV t56 true h63 (C z17 [t62] h63) fun t65 h66 y67=>
 gP t56 true (oUn .not t65) h66 fun t68 h69 y70=>
 gP t52 false (z0G t56 t68 (AB false)) h69 fun t71 h72 y73=>
 pK (z0G t52 (AB true) t71) fun t74=>
 gM t74 false t6 h72 fun t75 h76 y77=>
 gM t74 false t75 h76 fun t78 h79 y80=>
 gP t78 true (z0d 6 none t1) h79 fun t81 h82 y83=>
 gP t78 true (z0e none t81 h82) h82 fun t84 h85 y86=>
 gV t78 true h85 (C z17 [t84] h85) fun t87 h88 y89=>
 gP t78 true (oUn .not t87) h88 fun t90 h91 y92=>
 gP t74 false (z0G t78 t90 (AB false)) h91 fun t93 h94 y95=>
 pK (z0G t74 (AB true) t93) fun t96=>
 z0j t96 (K .ret ⟨[(2,(AI 5))],h94,(y95++(y92++(y89++(y86++(y83++(y80++(y77++(y73++(y70++(y67++(y64++(y61++(y58++(y55++(y51++(y48++(y45++(y42++(y38++(y32++(y29++(y26++(y23++(y20++(y14++(y3++x))))))))))))))))))))))))))⟩)
 (gP t6 true (z0d 7 none t1) h94 fun t97 h98 y99=>
 gP t6 true (z0e none t97 h98) h98 fun t100 h101 y102=>
 gV t6 true h101 (C z0T [t100,(AI 1),(AI 1000000)] h101) fun t103 h104 y105=>
 pK (z0G t6 t103 (AB false)) fun t106=>
 z0j t106 (K .ret ⟨[(2,(AI 1))],h104,(y105++(y102++(y99++(y95++(y92++(y89++(y86++(y83++(y80++(y77++(y73++(y70++(y67++(y64++(y61++(y58++(y55++(y51++(y48++(y45++(y42++(y38++(y32++(y29++(y26++(y23++(y20++(y14++(y3++x)))))))))))))))))))))))))))))⟩)
 (gP t6 true (z0d 4 none t1) h104 fun t107 h108 y109=>
 gP t6 true (z0e none t107 h108) h108 fun t110 h111 y112=>
 gP t6 true (oBin .neq t110 (.p (.str []))) h111 fun t113 h114 y115=>
 pK (z0G t6 t113 (AB false)) fun t116=>
 gM t116 false t9 h114 fun t117 h118 y119=>
 gP t116 false (oUn .not t117) h118 fun t120 h121 y122=>
 gM t116 false t120 h121 fun t123 h124 y125=>
 gP t123 true (z0d 5 none t1) h124 fun t126 h127 y128=>
 gP t123 true (z0e none t126 h127) h127 fun t129 h130 y131=>
 gP t123 true (oBin .neq t129 (.p (.str []))) h130 fun t132 h133 y134=>
 gP t116 false (z0G t123 t132 (AB false)) h133 fun t135 h136 y137=>
 pK (z0G t116 (AB true) t135) fun t138=>
 gM t138 false t6 h136 fun t139 h140 y141=>
 gP t138 false (oUn .not t139) h140 fun t142 h143 y144=>
 gM t138 false t142 h143 fun t145 h146 y147=>
 gP t145 true (z0d 6 none t1) h146 fun t148 h149 y150=>
 gP t145 true (z0e none t148 h149) h149 fun t151 h152 y153=>
 gP t145 true (oBin .neq t151 (.p (.str []))) h152 fun t154 h155 y156=>
 gM t145 true t154 h155 fun t157 h158 y159=>
 gP t157 false (z0d 7 none t1) h158 fun t160 h161 y162=>
 gP t157 false (z0e none t160 h161) h161 fun t163 h164 y165=>
 gP t157 false (oBin .neq t163 (AI 0)) h164 fun t166 h167 y168=>
 gP t145 true (z0G t157 (AB true) t166) h167 fun t169 h170 y171=>
 gP t138 false (z0G t145 t169 (AB false)) h170 fun t172 h173 y174=>
 pK (z0G t138 (AB true) t172) fun t175=>
 z0j t175 (K .ret ⟨[(2,(AI 3))],h173,(y174++(y171++(y168++(y165++(y162++(y159++(y156++(y153++(y150++(y147++(y144++(y141++(y137++(y134++(y131++(y128++(y125++(y122++(y119++(y115++(y112++(y109++(y105++(y102++(y99++(y95++(y92++(y89++(y86++(y83++(y80++(y77++(y73++(y70++(y67++(y64++(y61++(y58++(y55++(y51++(y48++(y45++(y42++(y38++(y32++(y29++(y26++(y23++(y20++(y14++(y3++x)))))))))))))))))))))))))))))))))))))))))))))))))))⟩)
 (K .ret ⟨[(2,(AI 0))],h173,(y174++(y171++(y168++(y165++(y162++(y159++(y156++(y153++(y150++(y147++(y144++(y141++(y137++(y134++(y131++(y128++(y125++(y122++(y119++(y115++(y112++(y109++(y105++(y102++(y99++(y95++(y92++(y89++(y86++(y83++(y80++(y77++(y73++(y70++(y67++(y64++(y61++(y58++(y55++(y51++(y48++(y45++(y42++(y38++(y32++(y29++(y26++(y23++(y20++(y14++(y3++x)))))))))))))))))))))))))))))))))))))))))))))))))))⟩))))))
theorem e_q05u {C gl v0 h x K}:NW C gl zg9.body ⟨enter [v0],h,x⟩ K=z5H C gl v0 h x K:=by kernel_rfl
def P_q05s:ACode:=(.seq (rg [uO 2 (.box 0),
uO 3 (.box 1),
mV 4 (cI 0)] [2,3])
(.seq (dr [dF (fA 5 2 none 2) [2],
dF (lD 6 none 5) [5],
dF (fA 7 2 none 3) [3],
dF (lD 8 none 7) [7],
dT (cL 9 z3Z [6,8]) [6,8],
dF (fA 10 0 none 2) [2],
dA (lD 11 none 10) [10] false [4] [],
dF (fA 12 0 none 3) [3],
dA (lD 13 none 12) [12] false [4] [],
dT (cL 14 z2l [11,13]) [11,13],
dF (fA 15 1 none 2) [2],
dA (lD 16 none 15) [15] false [4,9] [],
dF (fA 17 1 none 3) [3],
dA (lD 18 none 17) [17] false [4,9] [],
dT (cL 19 z3Z [16,18]) [16,18],
dF (uO 20 (.bsl false none 3 (.int .i64 0) [(0,9),(1,14),(2,19)])) [9,14,19],
dT (cL 21 z5c [20]) [20],
dF (mV 4 21) [21]] [4])
.ret))
def zg7:AFun:=⟨2,[.t 4],P_q05s,false,false⟩
def zmS (C:Hd) (gl:GL) (v0 v1:AV) (h:Heap) (x:Esc) (K:KT):Prop:=
 wK (oBox v0 h) fun t1 h2 y3=>
 wK (oBox v1 h2) fun t4 h5 y6=>
 pK (z0d 2 none t1) fun t7=>
 pK (z0e none t7 h5) fun t8=>
 pK (z0d 2 none t4) fun t9=>
 pK (z0e none t9 h5) fun t10=>
 z1h C z3Z [t8,t10] h5 fun t11 h12 y13=>
 pK (z0d 0 none t1) fun t14=>
 pK (z0e none t14 h12) fun t15=>
 (pK (z0e none t14 h5) fun v=>(fun u (g1:Heap) (y1:Esc)=>u=t15∧g1=h5∧y1=[]) v h5 [])∧(pK (z0d 0 none t4) fun t16=>
 pK (z0e none t16 h12) fun t17=>
 (pK (z0e none t16 h5) fun v=>(fun u (g1:Heap) (y1:Esc)=>u=t17∧g1=h5∧y1=[]) v h5 [])∧(z1h C z2l [t15,t17] h12 fun t18 h19 y20=>
 pK (z0d 1 none t1) fun t21=>
 pK (z0e none t21 h19) fun t22=>
 (pK (z0e none t21 h5) fun v=>(fun u (g1:Heap) (y1:Esc)=>u=t22∧g1=h5∧y1=[]) v h5 [])∧((pK (z0e none t21 h12) fun v=>(fun u (g1:Heap) (y1:Esc)=>u=t22∧g1=h12∧y1=[]) v h12 [])∧(pK (z0d 1 none t4) fun t23=>
 pK (z0e none t23 h19) fun t24=>
 (pK (z0e none t23 h5) fun v=>(fun u (g1:Heap) (y1:Esc)=>u=t24∧g1=h5∧y1=[]) v h5 [])∧((pK (z0e none t23 h12) fun v=>(fun u (g1:Heap) (y1:Esc)=>u=t24∧g1=h12∧y1=[]) v h12 [])∧(z1h C z3Z [t22,t24] h19 fun t25 h26 y27=>
 wK (oBsl false none 3 (.int .i64 0) [(0,t11),(1,t18),(2,t25)] h26) fun t28 h29 y30=>
 (h29=h26∧y30=[])∧(z1h C z5c [t28] h29 fun t31 h32 y33=>
 K .ret ⟨[(4,t31)],h32,(y33++(y30++(y27++(y20++(y13++(y6++(y3++x)))))))⟩)))))))
theorem e_q05s {C gl v0 v1 h x K}:NW C gl zg7.body ⟨enter [v0,v1],h,x⟩ K=zmS C gl v0 v1 h x K:=by kernel_rfl
def z3q:ACode:=.pr [3,8,9,10] (.seq (rg [bN 11 .lss 10 9] [3,8,9,10,11])
(.seq (.cond 11 .skip
(.exit 0))
(.seq (.block 1 (.seq (rg [iA 12 (some 8) 8 10,
lD 13 (some 8) 12,
uO 5 (.alloc [.p (.str []),.p (.int .i64 0),.p (.int .i64 0),.p (.int .i64 0),.p (.str []),.p (.str []),.p (.str []),.p (.int .i64 0)]),
wO (.store (some 8) 5 13)] [3,5,8,9,10])
(.seq (rg [fA 14 0 none 5,
lD 15 none 14,
fA 16 1 none 5,
lD 17 none 16,
uO 18 (.build [.p (.str []),.p (.int .i64 0)] [(0,1,15),(1,1,17)]),
uO 6 (.alloc [.p (.str []),.p (.int .i64 0)]),
wO (.store (some 2) 6 18)] [3,6,8,9,10])
(.seq (.seq (rg [mV 19 3,
lD 20 (some 2) 6,
uO 21 (.look ((some 2),[2,0]) false (AB false) 19 20)] [3,6,8,9,10,21])
(.cond 21 (.seq (rg [mV 2 cT] [2])
.ret)
.skip))
(rg [mV 22 3,
lD 23 (some 2) 6,
wO (.mupd ((some 2),[2,0]) 22 23 cT)] [3,8,9,10])))))
(rg [bN 24 .add 10 (cI 1),
mV 10 24] [3,8,9,10]))))
def zem (C:Hd) (gl:GL) (v3 v8 v9 v10:AV) (h:Heap) (x:Esc) (K:KT):Prop:=
 pK (oBin .lss v10 v9) fun t1=>
 z0j t1 (pK (z0r (some 8) v8 v10 h) fun t2=>
 pK (z0e (some 8) t2 h) fun t3=>
 alK [.p (.str []),.p (.int .i64 0),.p (.int .i64 0),.p (.int .i64 0),.p (.str []),.p (.str []),.p (.str []),.p (.int .i64 0)] h fun t4 h5 y6=>
 wK (z0m (some 8) t4 t3 h5) fun t7 h8 y9=>
 pK (z0d 0 none t4) fun t10=>
 pK (z0e none t10 h8) fun t11=>
 pK (z0d 1 none t4) fun t12=>
 pK (z0e none t12 h8) fun t13=>
 pK (z07 [.p (.str []),.p (.int .i64 0)] [(0,1,t11),(1,1,t13)]) fun t14=>
 alK [.p (.str []),.p (.int .i64 0)] h8 fun t15 h16 y17=>
 wK (z0m (some 2) t15 t14 h16) fun t18 h19 y20=>
 pK (z0e (some 2) t15 h19) fun t21=>
 pK (z0L ((some 2),[2,0]) false (AB false) v3 t21 h19) fun t22=>
 z0j t22 (K .ret ⟨[(2,(AB true))],h19,(y20++(y17++(y9++(y6++x))))⟩)
 (pK (z0e (some 2) t15 h19) fun t23=>
 wK (z1v ((some 2),[2,0]) v3 t23 (AB true) h19) fun t24 h25 y26=>
 pK (oBin .add v10 (AI 1)) fun t27=>
 K .normal ⟨[(3,v3),(8,v8),(9,v9),(10,t27)],h25,(y26++(y20++(y17++(y9++(y6++x)))))⟩))
 (K (.exit 0) ⟨[(3,v3),(8,v8),(9,v9),(10,v10),(11,t1)],h,x⟩)
theorem zo1 {C gl e h x K}:NW C gl z3q ⟨e,h,x⟩ K=zem C gl (aget e 3) (aget e 8) (aget e 9) (aget e 10) h x K:=by kernel_rfl
theorem zpT {C gl e h x K}:NW C gl (.loop (.scope z3q)) ⟨e,h,x⟩ K=z0Z C gl (.scope z3q) K [(3,aget e 3),(8,aget e 8),(9,aget e 9),(10,aget e 10)] h x:=z13
def z6B:ACode:=.pr [] (.seq (rg [mV 2 cF] [2])
.ret)
def zen (C:Hd) (gl:GL) (h:Heap) (x:Esc) (K:KT):Prop:=
 K .ret ⟨[(2,(AB false))],h,x⟩
theorem zo2 {C gl e h x K}:NW C gl z6B ⟨e,h,x⟩ K=zen C gl h x K:=by kernel_rfl
def zvX (q1 q2:ACode):ACode:=(.seq (rg [mV 2 cF] [0])
(.seq (rg [uO 7 (.mkmap),
mV 3 7] [0,3])
(.seq (.seq (rg [mV 8 0,
lN 9 8,
mV 10 (cI 0)] [3,8,9,10])
(.block 0 (.loop (.scope q1))))
q2)))
def zgI:AFun:=⟨1,[.t 2],zvX z3q z6B,false,false⟩
def zhy (C:Hd) (gl:GL) (q1 q2:ACode) (v0:AV) (h:Heap) (x:Esc) (K:KT):Prop:=
 mmK h fun t1 h2 y3=>
 pK (oLen v0) fun t4=>
 NW C gl (.loop (.scope q1)) ⟨[(3,t1),(8,v0),(9,t4),(10,(AI 0))],h2,(y3++x)⟩ (z0q 0 (seqN C gl q2 K))
theorem E_q068 {C gl q1 q2 v0 h x K}:NW C gl (zvX q1 q2) ⟨enter [v0],h,x⟩ K=zhy C gl q1 q2 v0 h x K:=by kernel_rfl
theorem e_q068 {C gl v0 h x K}:NW C gl zgI.body ⟨enter [v0],h,x⟩ K=zhy C gl z3q z6B v0 h x K:=E_q068
def P_q005:ACode:=(.seq (rg [mV 2 cF] [0])
(.seq (rg [mV 3 0,
cL 4 z0T [3,(cI 0),(cI 345686399999)],
uO 5 (.un .not 4),
mV 2 5] [2])
.ret))
def zgv:AFun:=⟨1,[.t 2],P_q005,false,false⟩
def zm8 (C:Hd) (gl:GL) (v0:AV) (h:Heap) (x:Esc) (K:KT):Prop:=
 C z0T [v0,(AI 0),(AI 345686399999)] h fun t1 h2 y3=>
 pK (oUn .not t1) fun t4=>
 K .ret ⟨[(2,t4)],h2,(y3++x)⟩
theorem e_q005 {C gl v0 h x K}:NW C gl zgv.body ⟨enter [v0],h,x⟩ K=zm8 C gl v0 h x K:=by kernel_rfl
def P_q060:ACode:=(.seq (rg [uO 5 (.box 2),
mV 6 (cI 0)] [0,1,5])
(.seq (dr [dF (mV 10 0) [0],
dF (uO 11 (.nilchk 10)) [10],
dF (fA 12 3 none 11) [11],
dF (lD 13 none 12) [12],
dF (fA 14 0 none 5) [5],
dF (lD 15 none 14) [14],
dF (uO 16 (.look (none,[2]) true (.p (.str [])) 13 15)) [13,15],
dF (mV 9 16) [16],
dF (eX 17 9 0) [9],
dF (eX 18 9 1) [9],
dF (mV 7 17) [17],
dF (mV 8 18) [18]] [0,1,5,8])
(.seq (.block 0 (.seq (rg [mV 20 1,
uO 21 (.nilchk 20),
fA 22 0 none 21,
lD 23 none 22,
bN 24 .neq 23 (cI 1),
mV 19 24] [0,1,5,8,19])
(.cond 19 (.seq (rg [mV 6 (cI 11)] [6])
.ret)
(.seq (dr [dF (fA 26 5 none 5) [5],
dF (lD 27 none 26) [26],
dF (mV 28 1) [1],
dF (uO 29 (.nilchk 28)) [28],
dF (fA 30 2 none 29) [29],
dF (lD 31 none 30) [30],
dF (bN 32 .neq 27 31) [27,31],
dF (mV 25 32) [32]] [0,1,5,8,25])
(.cond 25 (.seq (rg [mV 6 (cI 3)] [6])
.ret)
(.seq (rg [mV 34 8,
mV 33 34] [0,1,5,33])
(.cond 33 (.seq (rg [mV 6 (cI 12)] [6])
.ret)
.skip)))))))
(.seq (dr [dF (mV 35 1) [1],
dF (mV 36 1) [1],
dF (mV 37 1) [1],
dF (fA 38 2 none 5) [5],
dF (lD 39 none 38) [38],
dF (fA 40 0 none 5) [5],
dF (lD 41 none 40) [40],
dF (uO 42 (.nilchk 35)) [35],
dF (fA 43 0 none 42) [42],
dA (wO (.store none 43 (cI 2))) [43] true [] [4,6],
dF (uO 44 (.nilchk 36)) [36],
dF (fA 45 1 none 44) [44],
dA (wO (.store none 45 39)) [45,39] true [] [6],
dF (uO 46 (.nilchk 37)) [37],
dF (fA 47 3 none 46) [46],
dT (wO (.store none 47 41)) [47,41]] [0,5])
(.seq (dr [dF (mV 48 0) [0],
dF (uO 49 (.nilchk 48)) [48],
dF (fA 50 3 none 49) [49],
dF (lD 51 none 50) [50],
dF (fA 52 0 none 5) [5],
dF (lD 53 none 52) [52],
dF (fA 54 4 none 5) [5],
dF (lD 55 none 54) [54],
dT (wO (.mupd (none,[2]) 51 53 55)) [51,53,55]] [0,5])
(.seq (dr [dF (mV 56 0) [0],
dF (mV 57 0) [0],
dF (uO 58 (.nilchk 57)) [57],
dF (fA 59 5 none 58) [58],
dF (lD 60 none 59) [59],
dF (fA 61 0 none 5) [5],
dF (lD 62 none 61) [61],
dF (fA 63 2 none 5) [5],
dF (lD 64 none 63) [63],
dF (uO 65 (.build [.p (.str []),.p (.int .i64 0),.p (.int .i64 0)] [(0,1,62),(1,1,64),(2,1,(cI (-1)))])) [62,64],
dF (uO 66 (.bsl false (some 3) 1 (.agg [.str [],.int .i64 0,.int .i64 0]) [(0,65)])) [65],
dT (uO 67 (.app (some 3) 60 66)) [60,66],
dF (uO 68 (.nilchk 56)) [56],
dF (fA 69 5 none 68) [68],
dT (wO (.store none 69 67)) [69,67]] [])
(.seq (rg [mV 6 (cI 0)] [6])
.ret)))))))
def zgE:AFun:=⟨3,[.t 6],P_q060,false,false⟩
def za9 (C:Hd) (gl:GL) (v0 v1 v2:AV) (h:Heap) (x:Esc) (K:KT):Prop:=
 wK (oBox v2 h) fun t1 h2 y3=>
 pK (oNil v0) fun t4=>
 pK (z0d 3 none t4) fun t5=>
 pK (z0e none t5 h2) fun t6=>
 pK (z0d 0 none t1) fun t7=>
 pK (z0e none t7 h2) fun t8=>
 pK (z0L (none,[2]) true (.p (.str [])) t6 t8 h2) fun t9=>
 pK (oExt t9 0) fun t10=>
 pK (oExt t9 1) fun t11=>
 pK (oNil v1) fun t12=>
 pK (z0d 0 none t12) fun t13=>
 pK (z0e none t13 h2) fun t14=>
 pK (oBin .neq t14 (AI 1)) fun t15=>
 z0j t15 (K .ret ⟨[(6,(AI 11))],h2,(y3++x)⟩)
 (pK (z0d 5 none t1) fun t16=>
 pK (z0e none t16 h2) fun t17=>
 pK (oNil v1) fun t18=>
 pK (z0d 2 none t18) fun t19=>
 pK (z0e none t19 h2) fun t20=>
 pK (oBin .neq t17 t20) fun t21=>
 z0j t21 (K .ret ⟨[(6,(AI 3))],h2,(y3++x)⟩)
 (z0j t11 (K .ret ⟨[(6,(AI 12))],h2,(y3++x)⟩)
 (pK (z0d 2 none t1) fun t22=>
 pK (z0e none t22 h2) fun t23=>
 pK (z0d 0 none t1) fun t24=>
 pK (z0e none t24 h2) fun t25=>
 pK (oNil v1) fun t26=>
 pK (z0d 0 none t26) fun t27=>
 wK (z0m none t27 (AI 2) h2) fun t28 h29 y30=>
 (pK (z0e none t22 h29) fun v=>(fun u (g1:Heap) (y1:Esc)=>u=t23∧g1=h29∧y1=[]) v h29 [])∧((pK (z0e none t24 h29) fun v=>(fun u (g1:Heap) (y1:Esc)=>u=t25∧g1=h29∧y1=[]) v h29 [])∧(pK (oNil v1) fun t31=>
 pK (z0d 1 none t31) fun t32=>
 wK (z0m none t32 t23 h29) fun t33 h34 y35=>
 (pK (z0e none t24 h34) fun v=>(fun u (g1:Heap) (y1:Esc)=>u=t25∧g1=h34∧y1=[]) v h34 [])∧(pK (oNil v1) fun t36=>
 pK (z0d 3 none t36) fun t37=>
 wK (z0m none t37 t25 h34) fun t38 h39 y40=>
 pK (oNil v0) fun t41=>
 pK (z0d 3 none t41) fun t42=>
 pK (z0e none t42 h39) fun t43=>
 pK (z0d 0 none t1) fun t44=>
 pK (z0e none t44 h39) fun t45=>
 pK (z0d 4 none t1) fun t46=>
 pK (z0e none t46 h39) fun t47=>
 wK (z1v (none,[2]) t43 t45 t47 h39) fun t48 h49 y50=>
 pK (oNil v0) fun t51=>
 pK (z0d 5 none t51) fun t52=>
 pK (z0e none t52 h49) fun t53=>
 pK (z0d 0 none t1) fun t54=>
 pK (z0e none t54 h49) fun t55=>
 pK (z0d 2 none t1) fun t56=>
 pK (z0e none t56 h49) fun t57=>
 pK (z07 [.p (.str []),.p (.int .i64 0),.p (.int .i64 0)] [(0,1,t55),(1,1,t57),(2,1,(AI (-1)))]) fun t58=>
 wK (oBsl false (some 3) 1 (.agg [.str [],.int .i64 0,.int .i64 0]) [(0,t58)] h49) fun t59 h60 y61=>
 (h60=h49∧y61=[])∧(wK (oApp (some 3) t53 t59 h60) fun t62 h63 y64=>
 pK (oNil v0) fun t65=>
 pK (z0d 5 none t65) fun t66=>
 wK (z0m none t66 t62 h63) fun t67 h68 y69=>
 K .ret ⟨[(6,(AI 0))],h68,(y69++(y64++(y61++(y50++(y40++(y35++(y30++(y3++x))))))))⟩)))))))
theorem e_q060 {C gl v0 v1 v2 h x K}:NW C gl zgE.body ⟨enter [v0,v1,v2],h,x⟩ K=za9 C gl v0 v1 v2 h x K:=by kernel_rfl
def z61:ACode:=.pr [] (.seq (rg [mV 6 (cI 0)] [6])
.ret)
def zea (C:Hd) (gl:GL) (h:Heap) (x:Esc) (K:KT):Prop:=
 K .ret ⟨[(6,(AI 0))],h,x⟩
theorem zom {C gl e h x K}:NW C gl z61 ⟨e,h,x⟩ K=zea C gl h x K:=by kernel_rfl
def z9K:ACode:=.pr [] (.seq (rg [mV 6 (cI 0)] [6])
.ret)
def zeb (C:Hd) (gl:GL) (h:Heap) (x:Esc) (K:KT):Prop:=
 K .ret ⟨[(6,(AI 0))],h,x⟩
theorem zon {C gl e h x K}:NW C gl z9K ⟨e,h,x⟩ K=zeb C gl h x K:=by kernel_rfl
def zcN (q2:ACode):ACode:=.pr [0,1] (.seq (rg [mV 98 1,
uO 99 (.nilchk 98),
fA 100 4 none 99,
lD 101 none 100,
bN 102 .add 101 (cI 1),
uO 103 (.nilchk 98),
fA 104 4 none 103,
wO (.store none 104 102)] [0,1])
(.seq (rg [mV 105 1,
uO 106 (.nilchk 105),
fA 107 0 none 106,
wO (.store none 107 (cI 3))] [0,1])
(.seq (.seq (dr [dF (mV 108 1) [1],
dF (uO 109 (.nilchk 108)) [108],
dF (fA 110 4 none 109) [109],
dF (lD 111 none 110) [110],
dF (mV 112 0) [0],
dF (uO 113 (.nilchk 112)) [112],
dF (fA 114 0 (some 2) 113) [113],
dF (fA 115 1 none 114) [114],
dF (lD 116 none 115) [115],
dF (bN 117 .eql 111 116) [111,116]] [1,117])
(.cond 117 (rg [mV 118 1,
uO 119 (.nilchk 118),
fA 120 0 none 119,
wO (.store none 120 (cI 5))] [])
.skip))
q2)))
def z62:ACode:=zcN z9K
def z8M (C:Hd) (gl:GL) (q2:ACode) (v0 v1:AV) (h:Heap) (x:Esc) (K:KT):Prop:=
 pK (oNil v1) fun t1=>
 pK (z0d 4 none t1) fun t2=>
 pK (z0e none t2 h) fun t3=>
 pK (oBin .add t3 (AI 1)) fun t4=>
 pK (oNil v1) fun t5=>
 pK (z0d 4 none t5) fun t6=>
 wK (z0m none t6 t4 h) fun t7 h8 y9=>
 pK (oNil v1) fun t10=>
 pK (z0d 0 none t10) fun t11=>
 wK (z0m none t11 (AI 3) h8) fun t12 h13 y14=>
 pK (oNil v1) fun t15=>
 pK (z0d 4 none t15) fun t16=>
 pK (z0e none t16 h13) fun t17=>
 pK (oNil v0) fun t18=>
 pK (z0d 0 (some 2) t18) fun t19=>
 pK (z0d 1 none t19) fun t20=>
 pK (z0e none t20 h13) fun t21=>
 pK (oBin .eql t17 t21) fun t22=>
 z0j t22 (pK (oNil v1) fun t23=>
 pK (z0d 0 none t23) fun t24=>
 wK (z0m none t24 (AI 5) h13) fun t25 h26 y27=>
 NW C gl q2 ⟨[],h26,(y27++(y14++(y9++x)))⟩ K)
 (NW C gl q2 ⟨[(1,v1),(117,t22)],h13,(y14++(y9++x))⟩ K)
theorem zkF {C gl q2 e h x K}:NW C gl (zcN q2) ⟨e,h,x⟩ K=z8M C gl q2 (aget e 0) (aget e 1) h x K:=by kernel_rfl
theorem zoo {C gl e h x K}:NW C gl z62 ⟨e,h,x⟩ K=z8M C gl z9K (aget e 0) (aget e 1) h x K:=zkF
def zvR (q1 q3:ACode):ACode:=(.seq (rg [uO 5 (.box 2),
mV 6 (cI 0)] [0,1,5])
(.seq (.block 0 (.seq (rg [mV 10 1,
uO 11 (.nilchk 10),
fA 12 0 none 11,
lD 13 none 12,
bN 14 .neq 13 (cI 2),
mV 9 14] [0,1,5,9])
(.cond 9 (.seq (rg [mV 6 (cI 11)] [6])
.ret)
(.seq (dr [dF (mV 16 1) [1],
dF (uO 17 (.nilchk 16)) [16],
dF (fA 18 3 none 17) [17],
dF (lD 19 none 18) [18],
dF (fA 20 0 none 5) [5],
dF (lD 21 none 20) [20],
dF (bN 22 .neq 19 21) [19,21],
dF (mV 15 22) [22]] [0,1,5,15])
(.cond 15 (.seq (rg [mV 6 (cI 13)] [6])
.ret)
.skip)))))
(.seq (rg [fA 23 3 none 5,
lD 24 none 23,
bN 25 .eql 24 (cI 3),
mV 7 25] [0,1,5,7])
(.seq (dr [dF (mV 26 0) [0],
dF (mV 27 0) [0],
dF (uO 28 (.nilchk 27)) [27],
dF (fA 29 4 none 28) [28],
dF (lD 30 none 29) [29],
dF (fA 31 4 none 5) [5],
dF (lD 32 none 31) [31],
dF (mV 33 1) [1],
dF (uO 34 (.nilchk 33)) [33],
dF (fA 35 2 none 34) [34],
dF (lD 36 none 35) [35],
dF (mV 37 1) [1],
dF (uO 38 (.nilchk 37)) [37],
dF (fA 39 1 none 38) [38],
dF (lD 40 none 39) [39],
dF (fA 41 2 none 5) [5],
dF (lD 42 none 41) [41],
dF (mV 43 7) [7],
dF (uO 44 (.build [.p (.str []),.p (.str []),.p (.int .i64 0),.p (.int .i64 0),.p (.bool false)] [(0,1,32),(1,1,36),(2,1,40),(3,1,42),(4,1,43)])) [32,36,40,42,43],
dF (uO 45 (.bsl false (some 5) 1 (.agg [.str [],.str [],.int .i64 0,.int .i64 0,.bool false]) [(0,44)])) [44],
dT (uO 46 (.app (some 5) 30 45)) [30,45],
dF (uO 47 (.nilchk 26)) [26],
dF (fA 48 4 none 47) [47],
dT (wO (.store none 48 46)) [48,46]] [0,1,5,7])
(.seq (rg [mV 49 0,
mV 50 1,
fA 51 2 none 5,
lD 52 none 51,
cL 53 z5P [49,50,52]] [0,1,5,7])
(.seq (rg [mV 54 1,
fA 55 2 none 5,
lD 56 none 55,
uO 57 (.nilchk 54),
fA 58 1 none 57,
wO (.store none 58 56)] [0,1,7])
(.seq (.seq (rg [mV 59 7] [0,1,59])
(.cond 59 (.seq (rg [mV 60 1,
uO 61 (.nilchk 60),
fA 62 4 none 61,
wO (.store none 62 (cI 0))] [0,1])
(.seq (rg [mV 63 0,
mV 64 1,
uO 65 (.nilchk 64),
fA 66 2 none 65,
lD 67 none 66,
cL 68 z9m [63,67],
bN 69 .add 68 (cI 1),
mV 8 69] [0,1,8])
(.seq (.seq (rg [mV 70 8,
mV 71 0,
uO 72 (.nilchk 71),
fA 73 0 (some 2) 72,
fA 74 0 none 73,
lD 75 none 74,
lN 76 75,
bN 77 .eql 70 76] [0,1,8,77])
(.cond 77 (rg [mV 78 1,
mV 79 1,
uO 80 (.nilchk 78),
fA 81 0 none 80,
wO (.store none 81 (cI 4)),
uO 82 (.nilchk 79),
fA 83 2 none 82,
wO (.store none 83 (cS []))] [])
(rg [mV 84 1,
mV 85 1,
mV 86 0,
uO 87 (.nilchk 86),
fA 88 0 (some 2) 87,
fA 89 0 none 88,
lD 90 none 89,
mV 91 8,
iA 92 none 90 91,
lD 93 none 92,
uO 94 (.nilchk 84),
fA 95 0 none 94,
wO (.store none 95 (cI 1)),
uO 96 (.nilchk 85),
fA 97 2 none 96,
wO (.store none 97 93)] [])))
q1)))
.skip))
q3)))))))
def zgC:AFun:=⟨3,[.t 6],zvR z61 z62,false,false⟩
def z5I (C:Hd) (gl:GL) (q1 q3:ACode) (v0 v1 v2:AV) (h:Heap) (x:Esc) (K:KT):Prop:=
 wK (oBox v2 h) fun t1 h2 y3=>
 pK (oNil v1) fun t4=>
 pK (z0d 0 none t4) fun t5=>
 pK (z0e none t5 h2) fun t6=>
 pK (oBin .neq t6 (AI 2)) fun t7=>
 z0j t7 (K .ret ⟨[(6,(AI 11))],h2,(y3++x)⟩)
 (pK (oNil v1) fun t8=>
 pK (z0d 3 none t8) fun t9=>
 pK (z0e none t9 h2) fun t10=>
 pK (z0d 0 none t1) fun t11=>
 pK (z0e none t11 h2) fun t12=>
 pK (oBin .neq t10 t12) fun t13=>
 z0j t13 (K .ret ⟨[(6,(AI 13))],h2,(y3++x)⟩)
 (pK (z0d 3 none t1) fun t14=>
 pK (z0e none t14 h2) fun t15=>
 pK (oBin .eql t15 (AI 3)) fun t16=>
 pK (oNil v0) fun t17=>
 pK (z0d 4 none t17) fun t18=>
 pK (z0e none t18 h2) fun t19=>
 pK (z0d 4 none t1) fun t20=>
 pK (z0e none t20 h2) fun t21=>
 pK (oNil v1) fun t22=>
 pK (z0d 2 none t22) fun t23=>
 pK (z0e none t23 h2) fun t24=>
 pK (oNil v1) fun t25=>
 pK (z0d 1 none t25) fun t26=>
 pK (z0e none t26 h2) fun t27=>
 pK (z0d 2 none t1) fun t28=>
 pK (z0e none t28 h2) fun t29=>
 pK (z07 [.p (.str []),.p (.str []),.p (.int .i64 0),.p (.int .i64 0),.p (.bool false)] [(0,1,t21),(1,1,t24),(2,1,t27),(3,1,t29),(4,1,t16)]) fun t30=>
 wK (oBsl false (some 5) 1 (.agg [.str [],.str [],.int .i64 0,.int .i64 0,.bool false]) [(0,t30)] h2) fun t31 h32 y33=>
 (h32=h2∧y33=[])∧(wK (oApp (some 5) t19 t31 h32) fun t34 h35 y36=>
 pK (oNil v0) fun t37=>
 pK (z0d 4 none t37) fun t38=>
 wK (z0m none t38 t34 h35) fun t39 h40 y41=>
 pK (z0d 2 none t1) fun t42=>
 pK (z0e none t42 h40) fun t43=>
 C z5P [v0,v1,t43] h40 fun t44 h45 y46=>
 pK (z0d 2 none t1) fun t47=>
 pK (z0e none t47 h45) fun t48=>
 pK (oNil v1) fun t49=>
 pK (z0d 1 none t49) fun t50=>
 wK (z0m none t50 t48 h45) fun t51 h52 y53=>
 z0j t16 (pK (oNil v1) fun t54=>
 pK (z0d 4 none t54) fun t55=>
 wK (z0m none t55 (AI 0) h52) fun t56 h57 y58=>
 pK (oNil v1) fun t59=>
 pK (z0d 2 none t59) fun t60=>
 pK (z0e none t60 h57) fun t61=>
 C z9m [v0,t61] h57 fun t62 h63 y64=>
 pK (oBin .add t62 (AI 1)) fun t65=>
 pK (oNil v0) fun t66=>
 pK (z0d 0 (some 2) t66) fun t67=>
 pK (z0d 0 none t67) fun t68=>
 pK (z0e none t68 h63) fun t69=>
 pK (oLen t69) fun t70=>
 pK (oBin .eql t65 t70) fun t71=>
 z0j t71 (pK (oNil v1) fun t72=>
 pK (z0d 0 none t72) fun t73=>
 wK (z0m none t73 (AI 4) h63) fun t74 h75 y76=>
 pK (oNil v1) fun t77=>
 pK (z0d 2 none t77) fun t78=>
 wK (z0m none t78 (.p (.str [])) h75) fun t79 h80 y81=>
 NW C gl q1 ⟨[],h80,(y81++(y76++(y64++(y58++(y53++(y46++(y41++(y36++(y33++(y3++x))))))))))⟩ (seqN C gl q3 K))
 (pK (oNil v0) fun t82=>
 pK (z0d 0 (some 2) t82) fun t83=>
 pK (z0d 0 none t83) fun t84=>
 pK (z0e none t84 h63) fun t85=>
 pK (z0r none t85 t65 h63) fun t86=>
 pK (z0e none t86 h63) fun t87=>
 pK (oNil v1) fun t88=>
 pK (z0d 0 none t88) fun t89=>
 wK (z0m none t89 (AI 1) h63) fun t90 h91 y92=>
 pK (oNil v1) fun t93=>
 pK (z0d 2 none t93) fun t94=>
 wK (z0m none t94 t87 h91) fun t95 h96 y97=>
 NW C gl q1 ⟨[],h96,(y97++(y92++(y64++(y58++(y53++(y46++(y41++(y36++(y33++(y3++x))))))))))⟩ (seqN C gl q3 K)))
 (NW C gl q3 ⟨[(0,v0),(1,v1),(59,t16)],h52,(y53++(y46++(y41++(y36++(y33++(y3++x))))))⟩ K))))
theorem E_q05x {C gl q1 q3 v0 v1 v2 h x K}:NW C gl (zvR q1 q3) ⟨enter [v0,v1,v2],h,x⟩ K=z5I C gl q1 q3 v0 v1 v2 h x K:=by kernel_rfl
theorem e_q05x {C gl v0 v1 v2 h x K}:NW C gl zgC.body ⟨enter [v0,v1,v2],h,x⟩ K=z5I C gl z61 z62 v0 v1 v2 h x K:=E_q05x
def z9L:ACode:=.pr [0,1,2,11,12] (rg [bN 47 .add 12 (cI 1),
mV 12 47] [0,1,2,11,12])
def zec (C:Hd) (gl:GL) (v0 v1 v2 v11 v12:AV) (h:Heap) (x:Esc) (K:KT):Prop:=
 pK (oBin .add v12 (AI 1)) fun t1=>
 K .normal ⟨[(0,v0),(1,v1),(2,v2),(11,v11),(12,t1)],h,x⟩
theorem zop {C gl e h x K}:NW C gl z9L ⟨e,h,x⟩ K=zec C gl (aget e 0) (aget e 1) (aget e 2) (aget e 11) (aget e 12) h x K:=by kernel_rfl
def zcO (q1:ACode):ACode:=.pr [0,1,2,11,12] (.seq (rg [bN 13 .lss 12 11] [0,1,2,11,12,13])
(.seq (.cond 13 .skip
(.exit 0))
(.seq (.block 1 (.seq (rg [mV 14 12,
mV 6 14] [0,1,2,6,11,12])
(.seq (dr [dF (mV 15 0) [0],
dF (uO 16 (.nilchk 15)) [15],
dF (fA 17 5 none 16) [16],
dF (lD 18 none 17) [17],
dF (mV 19 6) [6],
dF (iA 20 (some 3) 18 19) [18,19],
dF (fA 21 0 none 20) [20],
dF (lD 22 none 21) [21],
dF (mV 23 1) [1],
dF (uO 24 (.nilchk 23)) [23],
dF (fA 25 3 none 24) [24],
dF (lD 26 none 25) [25],
dF (bN 27 .eql 22 26) [22,26],
dF (mV 28 27) [27],
dF (gD 29 28 true (.mv 0)) [0,28],
dF (gD 30 28 true (.nilchk 29)) [29,28],
dF (gD 31 28 true (.faddr 5 none 30)) [30,28],
dF (gD 32 28 true (.load none 31)) [31,28],
dF (gD 33 28 true (.mv 6)) [6,28],
dF (gD 34 28 true (.iaddr (some 3) 32 33)) [32,33,28],
dF (gD 35 28 true (.faddr 2 none 34)) [34,28],
dF (gD 36 28 true (.load none 35)) [35,28],
dF (gD 37 28 true (.bin .lss 36 (cI 0))) [36,28],
dF (uO 38 (.pick 28 37 cF)) [28,37]] [0,1,2,6,11,12,38])
(.cond 38 (rg [mV 39 0,
uO 40 (.nilchk 39),
fA 41 5 none 40,
lD 42 none 41,
mV 43 6,
mV 44 2,
iA 45 (some 3) 42 43,
fA 46 2 none 45,
wO (.store none 46 44)] [0,1,2,11,12])
.skip))))
q1)))
def z3n:ACode:=zcO z9L
def z8N (C:Hd) (gl:GL) (q1:ACode) (v0 v1 v2 v11 v12:AV) (h:Heap) (x:Esc) (K:KT):Prop:=
 pK (oBin .lss v12 v11) fun t1=>
 z0j t1 (pK (oNil v0) fun t2=>
 pK (z0d 5 none t2) fun t3=>
 pK (z0e none t3 h) fun t4=>
 pK (z0r (some 3) t4 v12 h) fun t5=>
 pK (z0d 0 none t5) fun t6=>
 pK (z0e none t6 h) fun t7=>
 pK (oNil v1) fun t8=>
 pK (z0d 3 none t8) fun t9=>
 pK (z0e none t9 h) fun t10=>
 pK (oBin .eql t7 t10) fun t11=>
 gM t11 true v0 h fun t12 h13 y14=>
 gP t11 true (oNil t12) h13 fun t15 h16 y17=>
 gP t11 true (z0d 5 none t15) h16 fun t18 h19 y20=>
 gP t11 true (z0e none t18 h19) h19 fun t21 h22 y23=>
 gM t11 true v12 h22 fun t24 h25 y26=>
 gP t11 true (z0r (some 3) t21 t24 h25) h25 fun t27 h28 y29=>
 gP t11 true (z0d 2 none t27) h28 fun t30 h31 y32=>
 gP t11 true (z0e none t30 h31) h31 fun t33 h34 y35=>
 gP t11 true (oBin .lss t33 (AI 0)) h34 fun t36 h37 y38=>
 pK (z0G t11 t36 (AB false)) fun t39=>
 z0j t39 (pK (oNil v0) fun t40=>
 pK (z0d 5 none t40) fun t41=>
 pK (z0e none t41 h37) fun t42=>
 pK (z0r (some 3) t42 v12 h37) fun t43=>
 pK (z0d 2 none t43) fun t44=>
 wK (z0m none t44 v2 h37) fun t45 h46 y47=>
 NW C gl q1 ⟨[(0,v0),(1,v1),(2,v2),(11,v11),(12,v12)],h46,(y47++(y38++(y35++(y32++(y29++(y26++(y23++(y20++(y17++(y14++x))))))))))⟩ K)
 (NW C gl q1 ⟨[(0,v0),(1,v1),(2,v2),(6,v12),(11,v11),(12,v12),(38,t39)],h37,(y38++(y35++(y32++(y29++(y26++(y23++(y20++(y17++(y14++x)))))))))⟩ K))
 (K (.exit 0) ⟨[(0,v0),(1,v1),(2,v2),(11,v11),(12,v12),(13,t1)],h,x⟩)
theorem zkG {C gl q1 e h x K}:NW C gl (zcO q1) ⟨e,h,x⟩ K=z8N C gl q1 (aget e 0) (aget e 1) (aget e 2) (aget e 11) (aget e 12) h x K:=by kernel_rfl
theorem zoq {C gl e h x K}:NW C gl z3n ⟨e,h,x⟩ K=z8N C gl z9L (aget e 0) (aget e 1) (aget e 2) (aget e 11) (aget e 12) h x K:=zkG
theorem zpQ {C gl e h x K}:NW C gl (.loop z3n) ⟨e,h,x⟩ K=z0Z C gl z3n K [(0,aget e 0),(1,aget e 1),(2,aget e 2),(11,aget e 11),(12,aget e 12)] h x:=z06
def z65:ACode:=.pr [0,1] (.seq (dr [dF (mV 48 0) [0],
dF (uO 49 (.nilchk 48)) [48],
dF (fA 50 3 none 49) [49],
dF (lD 51 none 50) [50],
dF (mV 52 1) [1],
dF (uO 53 (.nilchk 52)) [52],
dF (fA 54 3 none 53) [53],
dF (lD 55 none 54) [54],
dT (wO (.mdel (none,[2]) 51 55)) [51,55]] [1])
(rg [mV 56 1,
uO 57 (.nilchk 56),
fA 58 3 none 57,
wO (.store none 58 (cS []))] []))
def zee (C:Hd) (gl:GL) (v0 v1:AV) (h:Heap) (x:Esc) (K:KT):Prop:=
 pK (oNil v0) fun t1=>
 pK (z0d 3 none t1) fun t2=>
 pK (z0e none t2 h) fun t3=>
 pK (oNil v1) fun t4=>
 pK (z0d 3 none t4) fun t5=>
 pK (z0e none t5 h) fun t6=>
 wK (z3B (none,[2]) t3 t6 h) fun t7 h8 y9=>
 pK (oNil v1) fun t10=>
 pK (z0d 3 none t10) fun t11=>
 wK (z0m none t11 (.p (.str [])) h8) fun t12 h13 y14=>
 K .normal ⟨[],h13,(y14++(y9++x))⟩
theorem zor {C gl e h x K}:NW C gl z65 ⟨e,h,x⟩ K=zee C gl (aget e 0) (aget e 1) h x K:=by kernel_rfl
def zvS (q2 q3:ACode):ACode:=(.seq (.seq (rg [mV 7 0,
uO 8 (.nilchk 7),
fA 9 5 none 8,
lD 10 none 9,
lN 11 10,
mV 12 (cI 0)] [0,1,2,11,12])
(.block 0 (.loop q2)))
q3)
def zgD:AFun:=⟨3,[],zvS z3n z65,false,false⟩
def zhu (C:Hd) (gl:GL) (q2 q3:ACode) (v0 v1 v2:AV) (h:Heap) (x:Esc) (K:KT):Prop:=
 pK (oNil v0) fun t1=>
 pK (z0d 5 none t1) fun t2=>
 pK (z0e none t2 h) fun t3=>
 pK (oLen t3) fun t4=>
 NW C gl (.loop q2) ⟨[(0,v0),(1,v1),(2,v2),(11,t4),(12,(AI 0))],h,x⟩ (z0q 0 (seqN C gl q3 K))
theorem E_q05y {C gl q2 q3 v0 v1 v2 h x K}:NW C gl (zvS q2 q3) ⟨enter [v0,v1,v2],h,x⟩ K=zhu C gl q2 q3 v0 v1 v2 h x K:=by kernel_rfl
theorem e_q05y {C gl v0 v1 v2 h x K}:NW C gl zgD.body ⟨enter [v0,v1,v2],h,x⟩ K=zhu C gl z3n z65 v0 v1 v2 h x K:=E_q05y
def P_q01w:ACode:=(.seq (rg [mV 2 (cI 0)] [0])
(.seq (.cond cF (.seq (rg [mV 3 0,
uO 4 (.conv (.i .u32) 3),
cL 5 zwF [4],
mV 2 5] [2])
.ret)
.skip)
(.seq (rg [mV 6 0,
cL 7 zaF [6],
mV 2 7] [2])
.ret)))
def zlq:AFun:=⟨1,[.t 2],P_q01w,false,false⟩
def zmE (C:Hd) (gl:GL) (v0:AV) (h:Heap) (x:Esc) (K:KT):Prop:=
 z0j (AB false) (pK (z75 .u32 v0) fun t1=>
 C zwF [t1] h fun t2 h3 y4=>
 K .ret ⟨[(2,t2)],h3,(y4++x)⟩)
 (C zaF [v0] h fun t5 h6 y7=>
 K .ret ⟨[(2,t5)],h6,(y7++x)⟩)
theorem e_q01w {C gl v0 h x K}:NW C gl zlq.body ⟨enter [v0],h,x⟩ K=zmE C gl v0 h x K:=by kernel_rfl
end Go.Am
end
section
/- The functions asv abstract code,and asv formulas over their values: printed by program out of the translation. -/
set_option linter.unusedVariables false
set_option maxRecDepth 100000
namespace Go.Am
def z9D:ACode:=.pr [0,1,2,3,4,10,11,12,13] (.seq (.seq (dr [dF (mV 81 1) [1],
dF (bN 82 .gtr 81 (cI 0)) [81],
dF (mV 83 82) [82],
dF (gD 84 83 true (.mv 4)) [4,83],
dF (gD 85 83 true (.mv 0)) [0,83],
dF (gD 86 83 true (.mv 1)) [1,83],
dF (gD 87 83 true (.bin .sub 86 (cI 1))) [86,83],
dF (gD 88 83 true (.iaddr none 85 87)) [85,87,83],
dF (gD 89 83 true (.load none 88)) [88,83],
dF (gD 90 83 true (.mv 0)) [0,83],
dF (gD 91 83 true (.mv 13)) [13,83],
dF (gD 92 83 true (.iaddr none 90 91)) [90,91,83],
dF (gD 93 83 true (.load none 92)) [92,83],
dT (gD 94 83 true (.callv 84 [89,93])) [84,89,93,83],
dF (gD 95 83 true (.bin .lss 94 (cI 0))) [94,83],
dF (gD 96 83 true (.un .not 95)) [95,83],
dF (uO 97 (.pick 83 96 cF)) [83,96]] [0,1,2,3,4,10,11,12,13,97])
(.cond 97 (.seq (rg [mV 98 0,
mV 99 1,
mV 100 2,
mV 101 13,
mV 102 4,
cL 103 zwT [98,99,100,101,102],
mV 15 103] [0,2,3,4,10,11,15])
(.seq (rg [mV 104 15,
mV 1 104] [0,1,2,3,4,10,11])
(.exit 1)))
.skip))
(.seq (rg [mV 106 0,
mV 107 1,
mV 108 2,
mV 109 13,
mV 110 4,
cL 111 zwS [106,107,108,109,110],
mV 105 111,
eX 112 105 0,
eX 113 105 1,
mV 16 112,
mV 17 113] [0,1,2,3,4,12,16,17])
(.seq (rg [mV 114 17,
mV 11 114] [0,1,2,3,4,11,12,16])
(.seq (rg [mV 115 16,
mV 116 1,
bN 117 .sub 115 116,
mV 118 2,
mV 119 16,
bN 120 .sub 118 119,
mV 18 117,
mV 19 120] [0,1,2,3,4,11,12,16,18,19])
(.seq (rg [mV 121 12,
bN 122 .quo 121 (cI 8),
mV 20 122] [0,1,2,3,4,11,16,18,19,20])
(.seq (rg [mV 123 18,
mV 124 19,
bN 125 .lss 123 124] [0,1,2,3,4,11,16,18,19,20,125])
(.cond 125 (.seq (rg [mV 126 18,
mV 127 20,
bN 128 .geq 126 127,
mV 10 128] [0,1,2,3,4,10,11,16])
(.seq (rg [mV 129 0,
mV 130 1,
mV 131 16,
mV 132 3,
mV 133 4,
cL 134 z5f [129,130,131,132,133]] [0,2,3,4,10,11,16])
(rg [mV 135 16,
bN 136 .add 135 (cI 1),
mV 1 136] [0,1,2,3,4,10,11])))
(.seq (rg [mV 137 19,
mV 138 20,
bN 139 .geq 137 138,
mV 10 139] [0,1,2,3,4,10,11,16])
(.seq (rg [mV 140 0,
mV 141 16,
bN 142 .add 141 (cI 1),
mV 143 2,
mV 144 3,
mV 145 4,
cL 146 z5f [140,142,143,144,145]] [0,1,3,4,10,11,16])
(rg [mV 147 16,
mV 2 147] [0,1,2,3,4,10,11]))))))))))
def zdK (C:Hd) (gl:GL) (v0 v1 v2 v3 v4 v10 v11 v12 v13:AV) (h:Heap) (x:Esc) (K:KT):Prop:=
 pK (oBin .gtr v1 (AI 0)) fun t1=>
 gM t1 true v4 h fun t2 h3 y4=>
 gM t1 true v0 h3 fun t5 h6 y7=>
 gM t1 true v1 h6 fun t8 h9 y10=>
 gP t1 true (oBin .sub t8 (AI 1)) h9 fun t11 h12 y13=>
 gP t1 true (z0r none t5 t11 h12) h12 fun t14 h15 y16=>
 gP t1 true (z0e none t14 h15) h15 fun t17 h18 y19=>
 gM t1 true v0 h18 fun t20 h21 y22=>
 gM t1 true v13 h21 fun t23 h24 y25=>
 gP t1 true (z0r none t20 t23 h24) h24 fun t26 h27 y28=>
 gP t1 true (z0e none t26 h27) h27 fun t29 h30 y31=>
 gV t1 true h30 (z55 C t2 [t17,t29] h30) fun t32 h33 y34=>
 gP t1 true (oBin .lss t32 (AI 0)) h33 fun t35 h36 y37=>
 gP t1 true (oUn .not t35) h36 fun t38 h39 y40=>
 pK (z0G t1 t38 (AB false)) fun t41=>
 z0j t41 (C zwT [v0,v1,v2,v13,v4] h39 fun t42 h43 y44=>
 K (.exit 1) ⟨[(0,v0),(1,t42),(2,v2),(3,v3),(4,v4),(10,v10),(11,v11)],h43,(y44++(y40++(y37++(y34++(y31++(y28++(y25++(y22++(y19++(y16++(y13++(y10++(y7++(y4++x))))))))))))))⟩)
 (C zwS [v0,v1,v2,v13,v4] h39 fun t45 h46 y47=>
 pK (oExt t45 0) fun t48=>
 pK (oExt t45 1) fun t49=>
 pK (oBin .sub t48 v1) fun t50=>
 pK (oBin .sub v2 t48) fun t51=>
 pK (oBin .quo v12 (AI 8)) fun t52=>
 pK (oBin .lss t50 t51) fun t53=>
 z0j t53 (pK (oBin .geq t50 t52) fun t54=>
 C z5f [v0,v1,t48,v3,v4] h46 fun t55 h56 y57=>
 pK (oBin .add t48 (AI 1)) fun t58=>
 K .normal ⟨[(0,v0),(1,t58),(2,v2),(3,v3),(4,v4),(10,t54),(11,t49)],h56,(y57++(y47++(y40++(y37++(y34++(y31++(y28++(y25++(y22++(y19++(y16++(y13++(y10++(y7++(y4++x)))))))))))))))⟩)
 (pK (oBin .geq t51 t52) fun t59=>
 pK (oBin .add t48 (AI 1)) fun t60=>
 C z5f [v0,t60,v2,v3,v4] h46 fun t61 h62 y63=>
 K .normal ⟨[(0,v0),(1,v1),(2,t48),(3,v3),(4,v4),(10,t59),(11,t49)],h62,(y63++(y47++(y40++(y37++(y34++(y31++(y28++(y25++(y22++(y19++(y16++(y13++(y10++(y7++(y4++x)))))))))))))))⟩))
theorem znQ {C gl e h x K}:NW C gl z9D ⟨e,h,x⟩ K=zdK C gl (aget e 0) (aget e 1) (aget e 2) (aget e 3) (aget e 4) (aget e 10) (aget e 11) (aget e 12) (aget e 13) h x K:=by kernel_rfl
def zcF (q1:ACode):ACode:=.pr [0,1,2,3,4,10,11,12,13,14] (.seq (.seq (rg [mV 68 10,
mV 69 68,
gD 70 69 true (.mv 11),
uO 71 (.pick 69 70 cF),
mV 72 71,
gD 73 72 true (.mv 14),
gD 74 72 true (.bin .eql 73 (cI 1)),
uO 75 (.pick 72 74 cF)] [0,1,2,3,4,10,11,12,13,75])
(.cond 75 (.seq (rg [mV 76 0,
mV 77 1,
mV 78 2,
mV 79 4,
cL 80 zwR [76,77,78,79]] [0,1,2,3,4,10,11,12,13,80])
(.cond 80 .ret
.skip))
.skip))
q1)
def z9E:ACode:=zcF z9D
def z8E (C:Hd) (gl:GL) (q1:ACode) (v0 v1 v2 v3 v4 v10 v11 v12 v13 v14:AV) (h:Heap) (x:Esc) (K:KT):Prop:=
 gM v10 true v11 h fun t1 h2 y3=>
 pK (z0G v10 t1 (AB false)) fun t4=>
 gM t4 true v14 h2 fun t5 h6 y7=>
 gP t4 true (oBin .eql t5 (AI 1)) h6 fun t8 h9 y10=>
 pK (z0G t4 t8 (AB false)) fun t11=>
 z0j t11 (C zwR [v0,v1,v2,v4] h9 fun t12 h13 y14=>
 z0j t12 (K .ret ⟨[(0,v0),(1,v1),(2,v2),(3,v3),(4,v4),(10,v10),(11,v11),(12,v12),(13,v13),(80,t12)],h13,(y14++(y10++(y7++(y3++x))))⟩)
 (NW C gl q1 ⟨[(0,v0),(1,v1),(2,v2),(3,v3),(4,v4),(10,v10),(11,v11),(12,v12),(13,v13),(80,t12)],h13,(y14++(y10++(y7++(y3++x))))⟩ K))
 (NW C gl q1 ⟨[(0,v0),(1,v1),(2,v2),(3,v3),(4,v4),(10,v10),(11,v11),(12,v12),(13,v13),(75,t11)],h9,(y10++(y7++(y3++x)))⟩ K)
theorem zk7 {C gl q1 e h x K}:NW C gl (zcF q1) ⟨e,h,x⟩ K=z8E C gl q1 (aget e 0) (aget e 1) (aget e 2) (aget e 3) (aget e 4) (aget e 10) (aget e 11) (aget e 12) (aget e 13) (aget e 14) h x K:=by kernel_rfl
theorem znR {C gl e h x K}:NW C gl z9E ⟨e,h,x⟩ K=z8E C gl z9D (aget e 0) (aget e 1) (aget e 2) (aget e 3) (aget e 4) (aget e 10) (aget e 11) (aget e 12) (aget e 13) (aget e 14) h x K:=zk7
def zcG (q2:ACode):ACode:=.pr [0,1,2,3,4,10,11,12] (.seq (rg [mV 48 0,
mV 49 1,
mV 50 2,
mV 51 4,
cL 52 zwP [48,49,50,51],
mV 47 52,
eX 53 47 0,
eX 54 47 1,
mV 13 53,
mV 14 54] [0,1,2,3,4,10,11,12,13,14])
(.seq (.seq (rg [mV 55 14,
bN 56 .eql 55 (cI 2)] [0,1,2,3,4,10,11,12,13,14,56])
(.cond 56 (.seq (rg [mV 57 0,
mV 58 1,
mV 59 2,
mV 60 4,
cL 61 zwU [57,58,59,60]] [0,1,2,3,4,10,11,12,13])
(.seq (rg [mV 62 2,
bN 63 .sub 62 (cI 1),
mV 64 13,
mV 65 1,
bN 66 .sub 64 65,
bN 67 .sub 63 66,
mV 13 67] [0,1,2,3,4,10,11,12,13])
(rg [mV 14 (cI 1)] [0,1,2,3,4,10,11,12,13,14])))
.skip))
q2))
def z9F:ACode:=zcG z9E
def z8F (C:Hd) (gl:GL) (q2:ACode) (v0 v1 v2 v3 v4 v10 v11 v12:AV) (h:Heap) (x:Esc) (K:KT):Prop:=
 C zwP [v0,v1,v2,v4] h fun t1 h2 y3=>
 pK (oExt t1 0) fun t4=>
 pK (oExt t1 1) fun t5=>
 pK (oBin .eql t5 (AI 2)) fun t6=>
 z0j t6 (C zwU [v0,v1,v2,v4] h2 fun t7 h8 y9=>
 pK (oBin .sub v2 (AI 1)) fun t10=>
 pK (oBin .sub t4 v1) fun t11=>
 pK (oBin .sub t10 t11) fun t12=>
 NW C gl q2 ⟨[(0,v0),(1,v1),(2,v2),(3,v3),(4,v4),(10,v10),(11,v11),(12,v12),(13,t12),(14,(AI 1))],h8,(y9++(y3++x))⟩ K)
 (NW C gl q2 ⟨[(0,v0),(1,v1),(2,v2),(3,v3),(4,v4),(10,v10),(11,v11),(12,v12),(13,t4),(14,t5),(56,t6)],h2,(y3++x)⟩ K)
theorem zk8 {C gl q2 e h x K}:NW C gl (zcG q2) ⟨e,h,x⟩ K=z8F C gl q2 (aget e 0) (aget e 1) (aget e 2) (aget e 3) (aget e 4) (aget e 10) (aget e 11) (aget e 12) h x K:=by kernel_rfl
theorem znS {C gl e h x K}:NW C gl z9F ⟨e,h,x⟩ K=z8F C gl z9E (aget e 0) (aget e 1) (aget e 2) (aget e 3) (aget e 4) (aget e 10) (aget e 11) (aget e 12) h x K:=zk8
def zcH (q3:ACode):ACode:=.pr [0,1,2,3,4,10,11] (.block 1 (.seq (rg [mV 21 2,
mV 22 1,
bN 23 .sub 21 22,
mV 12 23] [0,1,2,3,4,10,11,12])
(.seq (.seq (rg [mV 24 12,
bN 25 .leq 24 (cI 12)] [0,1,2,3,4,10,11,12,25])
(.cond 25 (.seq (rg [mV 26 0,
mV 27 1,
mV 28 2,
mV 29 4,
cL 30 zaT [26,27,28,29]] [])
.ret)
.skip))
(.seq (.seq (rg [mV 31 3,
bN 32 .eql 31 (cI 0)] [0,1,2,3,4,10,11,12,32])
(.cond 32 (.seq (rg [mV 33 0,
mV 34 1,
mV 35 2,
mV 36 4,
cL 37 zwQ [33,34,35,36]] [])
.ret)
.skip))
(.seq (.seq (rg [mV 38 10,
uO 39 (.un .not 38)] [0,1,2,3,4,10,11,12,39])
(.cond 39 (.seq (rg [mV 40 0,
mV 41 1,
mV 42 2,
mV 43 4,
cL 44 zwO [40,41,42,43]] [0,1,2,3,4,10,11,12])
(rg [mV 45 3,
bN 46 .sub 45 (cI 1),
mV 3 46] [0,1,2,3,4,10,11,12]))
.skip))
q3)))))
def z3g:ACode:=zcH z9F
def z8G (C:Hd) (gl:GL) (q3:ACode) (v0 v1 v2 v3 v4 v10 v11:AV) (h:Heap) (x:Esc) (K:KT):Prop:=
 pK (oBin .sub v2 v1) fun t1=>
 pK (oBin .leq t1 (AI 12)) fun t2=>
 z0j t2 (C zaT [v0,v1,v2,v4] h fun t3 h4 y5=>
 K .ret ⟨[],h4,(y5++x)⟩)
 (pK (oBin .eql v3 (AI 0)) fun t6=>
 z0j t6 (C zwQ [v0,v1,v2,v4] h fun t7 h8 y9=>
 K .ret ⟨[],h8,(y9++x)⟩)
 (pK (oUn .not v10) fun t10=>
 z0j t10 (C zwO [v0,v1,v2,v4] h fun t11 h12 y13=>
 pK (oBin .sub v3 (AI 1)) fun t14=>
 NW C gl q3 ⟨[(0,v0),(1,v1),(2,v2),(3,t14),(4,v4),(10,v10),(11,v11),(12,t1)],h12,(y13++x)⟩ (z0q 1 K))
 (NW C gl q3 ⟨[(0,v0),(1,v1),(2,v2),(3,v3),(4,v4),(10,v10),(11,v11),(12,t1),(39,t10)],h,x⟩ (z0q 1 K))))
theorem zk9 {C gl q3 e h x K}:NW C gl (zcH q3) ⟨e,h,x⟩ K=z8G C gl q3 (aget e 0) (aget e 1) (aget e 2) (aget e 3) (aget e 4) (aget e 10) (aget e 11) h x K:=by kernel_rfl
theorem znT {C gl e h x K}:NW C gl z3g ⟨e,h,x⟩ K=z8G C gl z9F (aget e 0) (aget e 1) (aget e 2) (aget e 3) (aget e 4) (aget e 10) (aget e 11) h x K:=zk9
theorem zpG {C gl e h x K}:NW C gl (.loop z3g) ⟨e,h,x⟩ K=z0Z C gl z3g K [(0,aget e 0),(1,aget e 1),(2,aget e 2),(3,aget e 3),(4,aget e 4),(10,aget e 10),(11,aget e 11)] h x:=z06
def zvK (q4:ACode):ACode:=(.seq (rg [mV 10 cT] [0,1,2,3,4,10])
(.seq (rg [mV 11 cT] [0,1,2,3,4,10,11])
(.block 0 (.loop q4))))
def zlL:AFun:=⟨5,[],zvK z3g,true,false⟩
def zhp (C:Hd) (gl:GL) (q4:ACode) (v0 v1 v2 v3 v4:AV) (h:Heap) (x:Esc) (K:KT):Prop:=
 NW C gl (.loop q4) ⟨[(0,v0),(1,v1),(2,v2),(3,v3),(4,v4),(10,(AB true)),(11,(AB true))],h,x⟩ (z0q 0 K)
theorem E_q051 {C gl q4 v0 v1 v2 v3 v4 h x K}:NW C gl (zvK q4) ⟨enter [v0,v1,v2,v3,v4],h,x⟩ K=zhp C gl q4 v0 v1 v2 v3 v4 h x K:=by kernel_rfl
theorem e_q051 {C gl v0 v1 v2 v3 v4 h x K}:NW C gl zlL.body ⟨enter [v0,v1,v2,v3,v4],h,x⟩ K=zhp C gl z3g v0 v1 v2 v3 v4 h x K:=E_q051
def P_q00u:ACode:=(.seq (rg [mV 2 cF] [0])
(.seq (rg [mV 3 0,
mV 4 0,
bN 5 .neq 3 4,
mV 2 5] [2])
.ret))
def zgz:AFun:=⟨1,[.t 2],P_q00u,false,false⟩
def zmA (C:Hd) (gl:GL) (v0:AV) (h:Heap) (x:Esc) (K:KT):Prop:=
 pK (oBin .neq v0 v0) fun t1=>
 K .ret ⟨[(2,t1)],h,x⟩
theorem e_q00u {C gl v0 h x K}:NW C gl zgz.body ⟨enter [v0],h,x⟩ K=zmA C gl v0 h x K:=by kernel_rfl
def P_q019:ACode:=(.seq (rg [mV 4 (cI 0)] [0,1])
(.seq (rg [mV 5 0,
mV 6 1,
cL 7 z0g [5,6],
mV 4 7] [4])
.ret))
def zg0:AFun:=⟨2,[.t 4],P_q019,false,false⟩
def zmB (C:Hd) (gl:GL) (v0 v1:AV) (h:Heap) (x:Esc) (K:KT):Prop:=
 C z0g [v0,v1] h fun t1 h2 y3=>
 K .ret ⟨[(4,t1)],h2,(y3++x)⟩
theorem e_q019 {C gl v0 v1 h x K}:NW C gl zg0.body ⟨enter [v0,v1],h,x⟩ K=zmB C gl v0 v1 h x K:=by kernel_rfl
def z4u:ACode:=.pr [0,1,2,3,8,9] (.seq (.seq (dr [dF (mV 18 9) [9],
dF (mV 19 1) [1],
dF (bN 20 .gtr 18 19) [18,19],
dF (mV 21 20) [20],
dF (gD 22 21 true (.mv 3)) [3,21],
dF (gD 23 21 true (.mv 0)) [0,21],
dF (gD 24 21 true (.mv 9)) [9,21],
dF (gD 25 21 true (.iaddr (some 8) 23 24)) [23,24,21],
dF (gD 26 21 true (.load (some 8) 25)) [25,21],
dF (gD 27 21 true (.mv 0)) [0,21],
dF (gD 28 21 true (.mv 9)) [9,21],
dF (gD 29 21 true (.bin .sub 28 (cI 1))) [28,21],
dF (gD 30 21 true (.iaddr (some 8) 27 29)) [27,29,21],
dF (gD 31 21 true (.load (some 8) 30)) [30,21],
dT (gD 32 21 true (.callv 22 [26,31])) [22,26,31,21],
dF (gD 33 21 true (.bin .lss 32 (cI 0))) [32,21],
dF (uO 34 (.pick 21 33 cF)) [21,33]] [0,1,2,3,8,9,34])
(.cond 34 .skip
(.exit 2)))
(.seq (.block 3 (dr [dF (mV 37 0) [0],
dF (mV 38 9) [9],
dF (mV 39 0) [0],
dF (mV 40 9) [9],
dF (bN 41 .sub 40 (cI 1)) [40],
dF (mV 42 0) [0],
dF (mV 43 9) [9],
dF (bN 44 .sub 43 (cI 1)) [43],
dF (iA 45 (some 8) 42 44) [42,44],
dF (lD 46 (some 8) 45) [45],
dF (mV 47 0) [0],
dF (mV 48 9) [9],
dF (iA 49 (some 8) 47 48) [47,48],
dF (lD 50 (some 8) 49) [49],
dF (iA 51 (some 8) 37 38) [37,38],
dT (wO (.store (some 8) 51 46)) [51,46],
dF (iA 52 (some 8) 39 41) [39,41],
dT (wO (.store (some 8) 52 50)) [52,50]] [0,1,2,3,8,9]))
(rg [mV 35 9,
bN 36 .sub 35 (cI 1),
mV 9 36] [0,1,2,3,8,9])))
def zdG (C:Hd) (gl:GL) (v0 v1 v2 v3 v8 v9:AV) (h:Heap) (x:Esc) (K:KT):Prop:=
 pK (oBin .gtr v9 v1) fun t1=>
 gM t1 true v3 h fun t2 h3 y4=>
 gM t1 true v0 h3 fun t5 h6 y7=>
 gM t1 true v9 h6 fun t8 h9 y10=>
 gP t1 true (z0r (some 8) t5 t8 h9) h9 fun t11 h12 y13=>
 gP t1 true (z0e (some 8) t11 h12) h12 fun t14 h15 y16=>
 gM t1 true v0 h15 fun t17 h18 y19=>
 gM t1 true v9 h18 fun t20 h21 y22=>
 gP t1 true (oBin .sub t20 (AI 1)) h21 fun t23 h24 y25=>
 gP t1 true (z0r (some 8) t17 t23 h24) h24 fun t26 h27 y28=>
 gP t1 true (z0e (some 8) t26 h27) h27 fun t29 h30 y31=>
 gV t1 true h30 (z55 C t2 [t14,t29] h30) fun t32 h33 y34=>
 gP t1 true (oBin .lss t32 (AI 0)) h33 fun t35 h36 y37=>
 pK (z0G t1 t35 (AB false)) fun t38=>
 z0j t38 (pK (oBin .sub v9 (AI 1)) fun t39=>
 pK (oBin .sub v9 (AI 1)) fun t40=>
 pK (z0r (some 8) v0 t40 h36) fun t41=>
 pK (z0e (some 8) t41 h36) fun t42=>
 pK (z0r (some 8) v0 v9 h36) fun t43=>
 pK (z0e (some 8) t43 h36) fun t44=>
 pK (z0r (some 8) v0 v9 h36) fun t45=>
 wK (z0m (some 8) t45 t42 h36) fun t46 h47 y48=>
 pK (z0r (some 8) v0 t39 h47) fun t49=>
 wK (z0m (some 8) t49 t44 h47) fun t50 h51 y52=>
 pK (oBin .sub v9 (AI 1)) fun t53=>
 K .normal ⟨[(0,v0),(1,v1),(2,v2),(3,v3),(8,v8),(9,t53)],h51,(y52++(y48++(y37++(y34++(y31++(y28++(y25++(y22++(y19++(y16++(y13++(y10++(y7++(y4++x))))))))))))))⟩)
 (K (.exit 2) ⟨[(0,v0),(1,v1),(2,v2),(3,v3),(8,v8),(9,v9),(34,t38)],h36,(y37++(y34++(y31++(y28++(y25++(y22++(y19++(y16++(y13++(y10++(y7++(y4++x))))))))))))⟩)
theorem znK {C gl e h x K}:NW C gl z4u ⟨e,h,x⟩ K=zdG C gl (aget e 0) (aget e 1) (aget e 2) (aget e 3) (aget e 8) (aget e 9) h x K:=by kernel_rfl
theorem zpC {C gl e h x K}:NW C gl (.loop z4u) ⟨e,h,x⟩ K=z0Z C gl z4u K [(0,aget e 0),(1,aget e 1),(2,aget e 2),(3,aget e 3),(8,aget e 8),(9,aget e 9)] h x:=z06
def z9B:ACode:=.pr [0,1,2,3,8] (rg [mV 15 8,
bN 16 .add 15 (cI 1),
mV 8 16] [0,1,2,3,8])
def zdH (C:Hd) (gl:GL) (v0 v1 v2 v3 v8:AV) (h:Heap) (x:Esc) (K:KT):Prop:=
 pK (oBin .add v8 (AI 1)) fun t1=>
 K .normal ⟨[(0,v0),(1,v1),(2,v2),(3,v3),(8,t1)],h,x⟩
theorem znL {C gl e h x K}:NW C gl z9B ⟨e,h,x⟩ K=zdH C gl (aget e 0) (aget e 1) (aget e 2) (aget e 3) (aget e 8) h x K:=by kernel_rfl
def zcD (q1 q2:ACode):ACode:=.pr [0,1,2,3,8] (.seq (.seq (rg [mV 12 8,
mV 13 2,
bN 14 .lss 12 13] [0,1,2,3,8,14])
(.cond 14 .skip
(.exit 0)))
(.seq (.block 1 (.seq (rg [mV 17 8,
mV 9 17] [0,1,2,3,8,9])
(.block 2 (.loop q1))))
q2))
def z3e:ACode:=zcD z4u z9B
def z8C (C:Hd) (gl:GL) (q1 q2:ACode) (v0 v1 v2 v3 v8:AV) (h:Heap) (x:Esc) (K:KT):Prop:=
 pK (oBin .lss v8 v2) fun t1=>
 z0j t1 (NW C gl (.loop q1) ⟨[(0,v0),(1,v1),(2,v2),(3,v3),(8,v8),(9,v8)],h,x⟩ (z0q 2 (z0q 1 (seqN C gl q2 K))))
 (K (.exit 0) ⟨[(0,v0),(1,v1),(2,v2),(3,v3),(8,v8),(14,t1)],h,x⟩)
theorem zk5 {C gl q1 q2 e h x K}:NW C gl (zcD q1 q2) ⟨e,h,x⟩ K=z8C C gl q1 q2 (aget e 0) (aget e 1) (aget e 2) (aget e 3) (aget e 8) h x K:=by kernel_rfl
theorem znM {C gl e h x K}:NW C gl z3e ⟨e,h,x⟩ K=z8C C gl z4u z9B (aget e 0) (aget e 1) (aget e 2) (aget e 3) (aget e 8) h x K:=zk5
theorem zpD {C gl e h x K}:NW C gl (.loop z3e) ⟨e,h,x⟩ K=z0Z C gl z3e K [(0,aget e 0),(1,aget e 1),(2,aget e 2),(3,aget e 3),(8,aget e 8)] h x:=z06
def zvI (q3:ACode):ACode:=(.seq (rg [mV 10 1,
bN 11 .add 10 (cI 1),
mV 8 11] [0,1,2,3,8])
(.block 0 (.loop q3)))
def zlJ:AFun:=⟨4,[],zvI z3e,true,false⟩
def zdF (C:Hd) (gl:GL) (q3:ACode) (v0 v1 v2 v3:AV) (h:Heap) (x:Esc) (K:KT):Prop:=
 pK (oBin .add v1 (AI 1)) fun t1=>
 NW C gl (.loop q3) ⟨[(0,v0),(1,v1),(2,v2),(3,v3),(8,t1)],h,x⟩ (z0q 0 K)
theorem E_q04l {C gl q3 v0 v1 v2 v3 h x K}:NW C gl (zvI q3) ⟨enter [v0,v1,v2,v3],h,x⟩ K=zdF C gl q3 v0 v1 v2 v3 h x K:=by kernel_rfl
theorem e_q04l {C gl v0 v1 v2 v3 h x K}:NW C gl zlJ.body ⟨enter [v0,v1,v2,v3],h,x⟩ K=zdF C gl z3e v0 v1 v2 v3 h x K:=E_q04l
def z3a:ACode:=.pr [0,1,7,8] (.seq (rg [bN 9 .lss 8 7] [0,1,7,8,9])
(.seq (.cond 9 .skip
(.exit 0))
(.seq (.block 1 (.seq (rg [mV 10 8,
mV 5 10] [0,1,5,7,8])
(.seq (rg [mV 11 1,
mV 12 0,
mV 13 5,
uO 14 (.idxs 12 13),
cL 15 zbb [11,14],
bN 16 .lss 15 (cI 0)] [0,1,7,8,16])
(.cond 16 (.seq (rg [mV 4 cF] [4])
.ret)
.skip))))
(rg [bN 17 .add 8 (cI 1),
mV 8 17] [0,1,7,8]))))
def zd6 (C:Hd) (gl:GL) (v0 v1 v7 v8:AV) (h:Heap) (x:Esc) (K:KT):Prop:=
 pK (oBin .lss v8 v7) fun t1=>
 z0j t1 (pK (zcd v0 v8) fun t2=>
 C zbb [v1,t2] h fun t3 h4 y5=>
 pK (oBin .lss t3 (AI 0)) fun t6=>
 z0j t6 (K .ret ⟨[(4,(AB false))],h4,(y5++x)⟩)
 (pK (oBin .add v8 (AI 1)) fun t7=>
 K .normal ⟨[(0,v0),(1,v1),(7,v7),(8,t7)],h4,(y5++x)⟩))
 (K (.exit 0) ⟨[(0,v0),(1,v1),(7,v7),(8,v8),(9,t1)],h,x⟩)
theorem znC {C gl e h x K}:NW C gl z3a ⟨e,h,x⟩ K=zd6 C gl (aget e 0) (aget e 1) (aget e 7) (aget e 8) h x K:=by kernel_rfl
theorem zp8 {C gl e h x K}:NW C gl (.loop z3a) ⟨e,h,x⟩ K=z0Z C gl z3a K [(0,aget e 0),(1,aget e 1),(7,aget e 7),(8,aget e 8)] h x:=z06
def z6r:ACode:=.pr [] (.seq (rg [mV 4 cT] [4])
.ret)
def zd7 (C:Hd) (gl:GL) (h:Heap) (x:Esc) (K:KT):Prop:=
 K .ret ⟨[(4,(AB true))],h,x⟩
theorem znD {C gl e h x K}:NW C gl z6r ⟨e,h,x⟩ K=zd7 C gl h x K:=by kernel_rfl
def zvE (q1 q2:ACode):ACode:=(.seq (rg [mV 4 cF] [0,1])
(.seq (.seq (rg [mV 6 0,
uO 7 (.lens 6),
mV 8 (cI 0)] [0,1,7,8])
(.block 0 (.loop q1)))
q2))
def zlA:AFun:=⟨2,[.t 4],zvE z3a z6r,false,false⟩
def zhj (C:Hd) (gl:GL) (q1 q2:ACode) (v0 v1:AV) (h:Heap) (x:Esc) (K:KT):Prop:=
 pK (zfV v0) fun t1=>
 NW C gl (.loop q1) ⟨[(0,v0),(1,v1),(7,t1),(8,(AI 0))],h,x⟩ (z0q 0 (seqN C gl q2 K))
theorem E_q03i {C gl q1 q2 v0 v1 h x K}:NW C gl (zvE q1 q2) ⟨enter [v0,v1],h,x⟩ K=zhj C gl q1 q2 v0 v1 h x K:=by kernel_rfl
theorem e_q03i {C gl v0 v1 h x K}:NW C gl zlA.body ⟨enter [v0,v1],h,x⟩ K=zhj C gl z3a z6r v0 v1 h x K:=E_q03i
def P_q05w:ACode:=(.seq (rg [mV 4 (cI 0)] [0,1])
(.seq (rg [mV 5 0,
uO 6 (.nilchk 5),
fA 7 0 (some 2) 6,
fA 8 0 none 7,
lD 9 none 8,
mV 10 1,
cL 11 z5O [9,10],
mV 4 11] [4])
.ret))
def zgB:AFun:=⟨2,[.t 4],P_q05w,false,false⟩
def zmU (C:Hd) (gl:GL) (v0 v1:AV) (h:Heap) (x:Esc) (K:KT):Prop:=
 pK (oNil v0) fun t1=>
 pK (z0d 0 (some 2) t1) fun t2=>
 pK (z0d 0 none t2) fun t3=>
 pK (z0e none t3 h) fun t4=>
 C z5O [t4,v1] h fun t5 h6 y7=>
 K .ret ⟨[(4,t5)],h6,(y7++x)⟩
theorem e_q05w {C gl v0 v1 h x K}:NW C gl zgB.body ⟨enter [v0,v1],h,x⟩ K=zmU C gl v0 v1 h x K:=by kernel_rfl
def z96:ACode:=.pr [0,2] (.seq (rg [mV 19 2,
mV 20 0,
uO 21 (.conv (.i .u8) 20),
uO 22 (.idxs (cS [0,1,2,2,3,3,3,3,4,4,4,4,4,4,4,4,5,5,5,5,5,5,5,5,5,5,5,5,5,5,5,5,6,6,6,6,6,6,6,6,6,6,6,6,6,6,6,6,6,6,6,6,6,6,6,6,6,6,6,6,6,6,6,6,7,7,7,7,7,7,7,7,7,7,7,7,7,7,7,7,7,7,7,7,7,7,7,7,7,7,7,7,7,7,7,7,7,7,7,7,7,7,7,7,7,7,7,7,7,7,7,7,7,7,7,7,7,7,7,7,7,7,7,7,7,7,7,7,8,8,8,8,8,8,8,8,8,8,8,8,8,8,8,8,8,8,8,8,8,8,8,8,8,8,8,8,8,8,8,8,8,8,8,8,8,8,8,8,8,8,8,8,8,8,8,8,8,8,8,8,8,8,8,8,8,8,8,8,8,8,8,8,8,8,8,8,8,8,8,8,8,8,8,8,8,8,8,8,8,8,8,8,8,8,8,8,8,8,8,8,8,8,8,8,8,8,8,8,8,8,8,8,8,8,8,8,8,8,8,8,8,8,8,8,8,8,8,8,8,8,8,8,8,8,8,8]) 21),
uO 23 (.conv (.i .i64) 22),
bN 24 .add 19 23,
mV 2 24] [2])
.ret)
def zdp (C:Hd) (gl:GL) (v0 v2:AV) (h:Heap) (x:Esc) (K:KT):Prop:=
 pK (z75 .u8 v0) fun t1=>
 pK (zcd (.p (.str [0,1,2,2,3,3,3,3,4,4,4,4,4,4,4,4,5,5,5,5,5,5,5,5,5,5,5,5,5,5,5,5,6,6,6,6,6,6,6,6,6,6,6,6,6,6,6,6,6,6,6,6,6,6,6,6,6,6,6,6,6,6,6,6,7,7,7,7,7,7,7,7,7,7,7,7,7,7,7,7,7,7,7,7,7,7,7,7,7,7,7,7,7,7,7,7,7,7,7,7,7,7,7,7,7,7,7,7,7,7,7,7,7,7,7,7,7,7,7,7,7,7,7,7,7,7,7,7,8,8,8,8,8,8,8,8,8,8,8,8,8,8,8,8,8,8,8,8,8,8,8,8,8,8,8,8,8,8,8,8,8,8,8,8,8,8,8,8,8,8,8,8,8,8,8,8,8,8,8,8,8,8,8,8,8,8,8,8,8,8,8,8,8,8,8,8,8,8,8,8,8,8,8,8,8,8,8,8,8,8,8,8,8,8,8,8,8,8,8,8,8,8,8,8,8,8,8,8,8,8,8,8,8,8,8,8,8,8,8,8,8,8,8,8,8,8,8,8,8,8,8,8,8,8,8,8])) t1) fun t2=>
 pK (z75 .i64 t2) fun t3=>
 pK (oBin .add v2 t3) fun t4=>
 K .ret ⟨[(2,t4)],h,x⟩
theorem zns {C gl e h x K}:NW C gl z96 ⟨e,h,x⟩ K=zdp C gl (aget e 0) (aget e 2) h x K:=by kernel_rfl
def zc4 (q1:ACode):ACode:=.pr [0,2] (.seq (.seq (rg [mV 13 0,
bN 14 .geq 13 (.c (.p (.int .u64 256)))] [0,2,14])
(.cond 14 (.seq (rg [mV 15 0,
bN 16 .shr 15 (.c (.p (.int .u64 8))),
mV 0 16] [0,2])
(rg [mV 17 2,
bN 18 .add 17 (cI 8),
mV 2 18] [0,2]))
.skip))
q1)
def z97:ACode:=zc4 z96
def z87 (C:Hd) (gl:GL) (q1:ACode) (v0 v2:AV) (h:Heap) (x:Esc) (K:KT):Prop:=
 pK (oBin .geq v0 (.p (.int .u64 256))) fun t1=>
 z0j t1 (pK (oBin .shr v0 (.p (.int .u64 8))) fun t2=>
 pK (oBin .add v2 (AI 8)) fun t3=>
 NW C gl q1 ⟨[(0,t2),(2,t3)],h,x⟩ K)
 (NW C gl q1 ⟨[(0,v0),(2,v2),(14,t1)],h,x⟩ K)
theorem zkw {C gl q1 e h x K}:NW C gl (zc4 q1) ⟨e,h,x⟩ K=z87 C gl q1 (aget e 0) (aget e 2) h x K:=by kernel_rfl
theorem znt {C gl e h x K}:NW C gl z97 ⟨e,h,x⟩ K=z87 C gl z96 (aget e 0) (aget e 2) h x K:=zkw
def zc5 (q2:ACode):ACode:=.pr [0,2] (.seq (.seq (rg [mV 7 0,
bN 8 .geq 7 (.c (.p (.int .u64 65536)))] [0,2,8])
(.cond 8 (.seq (rg [mV 9 0,
bN 10 .shr 9 (.c (.p (.int .u64 16))),
mV 0 10] [0,2])
(rg [mV 11 2,
bN 12 .add 11 (cI 16),
mV 2 12] [0,2]))
.skip))
q2)
def z6h:ACode:=zc5 z97
def z88 (C:Hd) (gl:GL) (q2:ACode) (v0 v2:AV) (h:Heap) (x:Esc) (K:KT):Prop:=
 pK (oBin .geq v0 (.p (.int .u64 65536))) fun t1=>
 z0j t1 (pK (oBin .shr v0 (.p (.int .u64 16))) fun t2=>
 pK (oBin .add v2 (AI 16)) fun t3=>
 NW C gl q2 ⟨[(0,t2),(2,t3)],h,x⟩ K)
 (NW C gl q2 ⟨[(0,v0),(2,v2),(8,t1)],h,x⟩ K)
theorem zkx {C gl q2 e h x K}:NW C gl (zc5 q2) ⟨e,h,x⟩ K=z88 C gl q2 (aget e 0) (aget e 2) h x K:=by kernel_rfl
theorem znu {C gl e h x K}:NW C gl z6h ⟨e,h,x⟩ K=z88 C gl z97 (aget e 0) (aget e 2) h x K:=zkx
def zv6 (q3:ACode):ACode:=(.seq (rg [mV 2 (cI 0)] [0,2])
(.seq (.seq (rg [mV 3 0,
bN 4 .geq 3 (.c (.p (.int .u64 4294967296)))] [0,2,4])
(.cond 4 (.seq (rg [mV 5 0,
bN 6 .shr 5 (.c (.p (.int .u64 32))),
mV 0 6] [0])
(rg [mV 2 (cI 32)] [0,2]))
.skip))
q3))
def zlr:AFun:=⟨1,[.t 2],zv6 z6h,false,false⟩
def zhc (C:Hd) (gl:GL) (q3:ACode) (v0:AV) (h:Heap) (x:Esc) (K:KT):Prop:=
 pK (oBin .geq v0 (.p (.int .u64 4294967296))) fun t1=>
 z0j t1 (pK (oBin .shr v0 (.p (.int .u64 32))) fun t2=>
 NW C gl q3 ⟨[(0,t2),(2,(AI 32))],h,x⟩ K)
 (NW C gl q3 ⟨[(0,v0),(2,(AI 0)),(4,t1)],h,x⟩ K)
theorem E_q01y {C gl q3 v0 h x K}:NW C gl (zv6 q3) ⟨enter [v0],h,x⟩ K=zhc C gl q3 v0 h x K:=by kernel_rfl
theorem e_q01y {C gl v0 h x K}:NW C gl zlr.body ⟨enter [v0],h,x⟩ K=zhc C gl z6h v0 h x K:=E_q01y
def z4v:ACode:=.pr [0,1,2,3,8,9] (.seq (.seq (dr [dF (mV 18 9) [9],
dF (mV 19 1) [1],
dF (bN 20 .gtr 18 19) [18,19],
dF (mV 21 20) [20],
dF (gD 22 21 true (.mv 3)) [3,21],
dF (gD 23 21 true (.mv 0)) [0,21],
dF (gD 24 21 true (.mv 9)) [9,21],
dF (gD 25 21 true (.iaddr none 23 24)) [23,24,21],
dF (gD 26 21 true (.load none 25)) [25,21],
dF (gD 27 21 true (.mv 0)) [0,21],
dF (gD 28 21 true (.mv 9)) [9,21],
dF (gD 29 21 true (.bin .sub 28 (cI 1))) [28,21],
dF (gD 30 21 true (.iaddr none 27 29)) [27,29,21],
dF (gD 31 21 true (.load none 30)) [30,21],
dT (gD 32 21 true (.callv 22 [26,31])) [22,26,31,21],
dF (gD 33 21 true (.bin .lss 32 (cI 0))) [32,21],
dF (uO 34 (.pick 21 33 cF)) [21,33]] [0,1,2,3,8,9,34])
(.cond 34 .skip
(.exit 2)))
(.seq (.block 3 (dr [dF (mV 37 0) [0],
dF (mV 38 9) [9],
dF (mV 39 0) [0],
dF (mV 40 9) [9],
dF (bN 41 .sub 40 (cI 1)) [40],
dF (mV 42 0) [0],
dF (mV 43 9) [9],
dF (bN 44 .sub 43 (cI 1)) [43],
dF (iA 45 none 42 44) [42,44],
dF (lD 46 none 45) [45],
dF (mV 47 0) [0],
dF (mV 48 9) [9],
dF (iA 49 none 47 48) [47,48],
dF (lD 50 none 49) [49],
dF (iA 51 none 37 38) [37,38],
dT (wO (.store none 51 46)) [51,46],
dF (iA 52 none 39 41) [39,41],
dT (wO (.store none 52 50)) [52,50]] [0,1,2,3,8,9]))
(rg [mV 35 9,
bN 36 .sub 35 (cI 1),
mV 9 36] [0,1,2,3,8,9])))
def zdI (C:Hd) (gl:GL) (v0 v1 v2 v3 v8 v9:AV) (h:Heap) (x:Esc) (K:KT):Prop:=
 pK (oBin .gtr v9 v1) fun t1=>
 gM t1 true v3 h fun t2 h3 y4=>
 gM t1 true v0 h3 fun t5 h6 y7=>
 gM t1 true v9 h6 fun t8 h9 y10=>
 gP t1 true (z0r none t5 t8 h9) h9 fun t11 h12 y13=>
 gP t1 true (z0e none t11 h12) h12 fun t14 h15 y16=>
 gM t1 true v0 h15 fun t17 h18 y19=>
 gM t1 true v9 h18 fun t20 h21 y22=>
 gP t1 true (oBin .sub t20 (AI 1)) h21 fun t23 h24 y25=>
 gP t1 true (z0r none t17 t23 h24) h24 fun t26 h27 y28=>
 gP t1 true (z0e none t26 h27) h27 fun t29 h30 y31=>
 gV t1 true h30 (z55 C t2 [t14,t29] h30) fun t32 h33 y34=>
 gP t1 true (oBin .lss t32 (AI 0)) h33 fun t35 h36 y37=>
 pK (z0G t1 t35 (AB false)) fun t38=>
 z0j t38 (pK (oBin .sub v9 (AI 1)) fun t39=>
 pK (oBin .sub v9 (AI 1)) fun t40=>
 pK (z0r none v0 t40 h36) fun t41=>
 pK (z0e none t41 h36) fun t42=>
 pK (z0r none v0 v9 h36) fun t43=>
 pK (z0e none t43 h36) fun t44=>
 pK (z0r none v0 v9 h36) fun t45=>
 wK (z0m none t45 t42 h36) fun t46 h47 y48=>
 pK (z0r none v0 t39 h47) fun t49=>
 wK (z0m none t49 t44 h47) fun t50 h51 y52=>
 pK (oBin .sub v9 (AI 1)) fun t53=>
 K .normal ⟨[(0,v0),(1,v1),(2,v2),(3,v3),(8,v8),(9,t53)],h51,(y52++(y48++(y37++(y34++(y31++(y28++(y25++(y22++(y19++(y16++(y13++(y10++(y7++(y4++x))))))))))))))⟩)
 (K (.exit 2) ⟨[(0,v0),(1,v1),(2,v2),(3,v3),(8,v8),(9,v9),(34,t38)],h36,(y37++(y34++(y31++(y28++(y25++(y22++(y19++(y16++(y13++(y10++(y7++(y4++x))))))))))))⟩)
theorem znN {C gl e h x K}:NW C gl z4v ⟨e,h,x⟩ K=zdI C gl (aget e 0) (aget e 1) (aget e 2) (aget e 3) (aget e 8) (aget e 9) h x K:=by kernel_rfl
theorem zpE {C gl e h x K}:NW C gl (.loop z4v) ⟨e,h,x⟩ K=z0Z C gl z4v K [(0,aget e 0),(1,aget e 1),(2,aget e 2),(3,aget e 3),(8,aget e 8),(9,aget e 9)] h x:=z06
def z9C:ACode:=.pr [0,1,2,3,8] (rg [mV 15 8,
bN 16 .add 15 (cI 1),
mV 8 16] [0,1,2,3,8])
def zdJ (C:Hd) (gl:GL) (v0 v1 v2 v3 v8:AV) (h:Heap) (x:Esc) (K:KT):Prop:=
 pK (oBin .add v8 (AI 1)) fun t1=>
 K .normal ⟨[(0,v0),(1,v1),(2,v2),(3,v3),(8,t1)],h,x⟩
theorem znO {C gl e h x K}:NW C gl z9C ⟨e,h,x⟩ K=zdJ C gl (aget e 0) (aget e 1) (aget e 2) (aget e 3) (aget e 8) h x K:=by kernel_rfl
def zcE (q1 q2:ACode):ACode:=.pr [0,1,2,3,8] (.seq (.seq (rg [mV 12 8,
mV 13 2,
bN 14 .lss 12 13] [0,1,2,3,8,14])
(.cond 14 .skip
(.exit 0)))
(.seq (.block 1 (.seq (rg [mV 17 8,
mV 9 17] [0,1,2,3,8,9])
(.block 2 (.loop q1))))
q2))
def z3f:ACode:=zcE z4v z9C
def z8D (C:Hd) (gl:GL) (q1 q2:ACode) (v0 v1 v2 v3 v8:AV) (h:Heap) (x:Esc) (K:KT):Prop:=
 pK (oBin .lss v8 v2) fun t1=>
 z0j t1 (NW C gl (.loop q1) ⟨[(0,v0),(1,v1),(2,v2),(3,v3),(8,v8),(9,v8)],h,x⟩ (z0q 2 (z0q 1 (seqN C gl q2 K))))
 (K (.exit 0) ⟨[(0,v0),(1,v1),(2,v2),(3,v3),(8,v8),(14,t1)],h,x⟩)
theorem zk6 {C gl q1 q2 e h x K}:NW C gl (zcE q1 q2) ⟨e,h,x⟩ K=z8D C gl q1 q2 (aget e 0) (aget e 1) (aget e 2) (aget e 3) (aget e 8) h x K:=by kernel_rfl
theorem znP {C gl e h x K}:NW C gl z3f ⟨e,h,x⟩ K=z8D C gl z4v z9C (aget e 0) (aget e 1) (aget e 2) (aget e 3) (aget e 8) h x K:=zk6
theorem zpF {C gl e h x K}:NW C gl (.loop z3f) ⟨e,h,x⟩ K=z0Z C gl z3f K [(0,aget e 0),(1,aget e 1),(2,aget e 2),(3,aget e 3),(8,aget e 8)] h x:=z06
def zvJ (q3:ACode):ACode:=(.seq (rg [mV 10 1,
bN 11 .add 10 (cI 1),
mV 8 11] [0,1,2,3,8])
(.block 0 (.loop q3)))
def zlK:AFun:=⟨4,[],zvJ z3f,true,false⟩
def zho (C:Hd) (gl:GL) (q3:ACode) (v0 v1 v2 v3:AV) (h:Heap) (x:Esc) (K:KT):Prop:=
 pK (oBin .add v1 (AI 1)) fun t1=>
 NW C gl (.loop q3) ⟨[(0,v0),(1,v1),(2,v2),(3,v3),(8,t1)],h,x⟩ (z0q 0 K)
theorem E_q04m {C gl q3 v0 v1 v2 v3 h x K}:NW C gl (zvJ q3) ⟨enter [v0,v1,v2,v3],h,x⟩ K=zho C gl q3 v0 v1 v2 v3 h x K:=by kernel_rfl
theorem e_q04m {C gl v0 v1 v2 v3 h x K}:NW C gl zlK.body ⟨enter [v0,v1,v2,v3],h,x⟩ K=zho C gl z3f v0 v1 v2 v3 h x K:=E_q04m
def P_q06d:ACode:=(.seq (rg [mV 4 (cI 0)] [0,1])
(.seq (rg [mV 5 0,
mV 6 1,
cL 7 zaC [5,6],
mV 4 7] [4])
.ret))
def zlU:AFun:=⟨2,[.t 4],P_q06d,false,false⟩
def zmX (C:Hd) (gl:GL) (v0 v1:AV) (h:Heap) (x:Esc) (K:KT):Prop:=
 C zaC [v0,v1] h fun t1 h2 y3=>
 K .ret ⟨[(4,t1)],h2,(y3++x)⟩
theorem e_q06d {C gl v0 v1 h x K}:NW C gl zlU.body ⟨enter [v0,v1],h,x⟩ K=zmX C gl v0 v1 h x K:=by kernel_rfl
def P_q01k:ACode:=(.seq (rg [mV 4 (cI 0)] [0,1])
(.seq (rg [mV 5 0,
mV 6 1,
cL 7 z0h [5,6],
mV 4 7] [4])
.ret))
def zlo:AFun:=⟨2,[.t 4],P_q01k,false,false⟩
def zmC (C:Hd) (gl:GL) (v0 v1:AV) (h:Heap) (x:Esc) (K:KT):Prop:=
 C z0h [v0,v1] h fun t1 h2 y3=>
 K .ret ⟨[(4,t1)],h2,(y3++x)⟩
theorem e_q01k {C gl v0 v1 h x K}:NW C gl zlo.body ⟨enter [v0,v1],h,x⟩ K=zmC C gl v0 v1 h x K:=by kernel_rfl
def P_q000:ACode:=(.seq (rg [mV 2 cF] [0])
(.seq (rg [mV 3 0,
cL 4 zoP [3,(cS [48,49])],
bN 5 .eql 4 (cS []),
mV 2 5] [2])
.ret))
def a_q000:AFun:=⟨1,[.t 2],P_q000,false,false⟩
def P_q002:ACode:=(.seq (rg [uO 4 (.alloc [.p (.int .i64 0),.p (.int .i64 0)])] [0,1,4])
(.seq (rg [mV 6 0,
mV 7 0,
uO 8 (.un .neg 7),
uO 9 (.mx [6,8]),
mV 10 1,
cL 11 zwk [9,10],
mV 5 11] [0,1,4,5])
(.seq (dr [dF (mV 12 0) [0],
dF (mV 13 5) [5],
dF (bN 14 .quo 12 13) [12,13],
dF (mV 15 1) [1],
dF (mV 16 5) [5],
dF (bN 17 .quo 15 16) [15,16],
dF (uO 18 (.build [.p (.int .i64 0),.p (.int .i64 0)] [(0,1,14),(1,1,17)])) [14,17],
dT (wO (.store (some 2) 4 18)) [4,18]] [4])
.ret)))
def a_q002:AFun:=⟨2,[.cell 4 (some 2)],P_q002,false,false⟩
def zqx:ACode:=.pr [0,1] (.seq (.seq (rg [mV 5 1,
bN 6 .neq 5 (cI 0)] [0,1,6])
(.cond 6 .skip
(.exit 0)))
(.block 1 (dr [dF (mV 7 1) [1],
dF (mV 8 0) [0],
dF (mV 9 1) [1],
dF (bN 10 .rem 8 9) [8,9],
dF (mV 0 7) [7],
dF (mV 1 10) [10]] [0,1])))
def zqy:ACode:=.pr [0] (.seq (rg [mV 11 0,
mV 4 11] [4])
.ret)
def P_q003 (q1 q2:ACode):ACode:=(.seq (rg [mV 4 (cI 0)] [0,1])
(.seq (.block 0 (.loop q1))
q2))
def a_q003:AFun:=⟨2,[.t 4],P_q003 zqx zqy,false,false⟩
def zqz:ACode:=.pr [2,19,20,21] (.seq (rg [bN 22 .lss 21 20] [2,19,20,21,22])
(.seq (.cond 22 .skip
(.exit 0))
(.seq (.block 1 (.seq (rg [mV 23 21,
iA 24 none 19 21,
lD 25 none 24,
mV 6 23,
mV 7 25] [2,6,7,19,20,21])
(.seq (rg [mV 26 7,
uO 27 (.lens 26),
fA 28 0 none 2,
lD 29 none 28,
mV 30 6,
iA 31 (some 2) 29 30,
fA 32 1 none 31,
lD 33 none 32,
lN 34 33,
bN 35 .neq 27 34,
mV 36 35,
gD 37 36 false (.mv 7),
gD 38 36 false (.call z9c [37]),
gD 39 36 false (.un .not 38),
uO 40 (.pick 36 cT 39)] [2,19,20,21,40])
(.cond 40 (.seq (rg [mV 4 (cI 3)] [4])
.ret)
.skip))))
(rg [bN 41 .add 21 (cI 1),
mV 21 41] [2,19,20,21]))))
def zq0:ACode:=.pr [] (.seq (rg [mV 4 (cI 0)] [4])
.ret)
def P_q00a (q1 q2:ACode):ACode:=(.seq (rg [uO 2 (.box 0),
mV 4 (cI 0)] [1,2])
(.seq (.seq (rg [lD 8 (some 3) 2,
cL 9 zwm [8],
mV 5 9] [1,2,5])
(.seq (rg [mV 10 5,
bN 11 .neq 10 (cI 0)] [1,2,5,11])
(.cond 11 (.seq (rg [mV 12 5,
mV 4 12] [4])
.ret)
.skip)))
(.seq (.seq (rg [mV 13 1,
lN 14 13,
fA 15 0 none 2,
lD 16 none 15,
lN 17 16,
bN 18 .neq 14 17] [1,2,18])
(.cond 18 (.seq (rg [mV 4 (cI 3)] [4])
.ret)
.skip))
(.seq (.seq (rg [mV 19 1,
lN 20 19,
mV 21 (cI 0)] [2,19,20,21])
(.block 0 (.loop q1)))
q2))))
def a_q00a:AFun:=⟨2,[.t 4],P_q00a zqz zq0,false,false⟩
def zq1:ACode:=.pr [1,15,16,17] (.seq (rg [bN 18 .lss 17 16] [1,15,16,17,18])
(.seq (.cond 18 .skip
(.exit 0))
(.seq (.block 1 (.seq (rg [mV 19 17,
iA 20 (some 2) 15 17,
lD 21 (some 2) 20,
uO 4 (.alloc [.p (.str []),.sl0 (some 4)]),
mV 3 19,
wO (.store (some 2) 4 21)] [1,3,4,15,16,17])
(.seq (.block 2 (.seq (rg [fA 23 0 none 4,
lD 24 none 23,
cL 25 z17 [24],
uO 26 (.un .not 25),
mV 22 26] [1,3,4,15,16,17,22])
(.cond 22 (.seq (rg [mV 2 (cI 5)] [2])
.ret)
(.seq (dr [dF (mV 28 3) [3],
dF (bN 29 .gtr 28 (cI 0)) [28],
dF (mV 30 29) [29],
dF (gD 31 30 true (.faddr 0 none 4)) [4,30],
dF (gD 32 30 true (.load none 31)) [31,30],
dF (gD 33 30 true (.faddr 0 none 1)) [1,30],
dF (gD 34 30 true (.load none 33)) [33,30],
dF (gD 35 30 true (.mv 3)) [3,30],
dF (gD 36 30 true (.bin .sub 35 (cI 1))) [35,30],
dF (gD 37 30 true (.iaddr (some 2) 34 36)) [34,36,30],
dF (gD 38 30 true (.faddr 0 none 37)) [37,30],
dF (gD 39 30 true (.load none 38)) [38,30],
dF (gD 40 30 true (.bin .leq 32 39)) [32,39,30],
dF (uO 41 (.pick 30 40 cF)) [30,40],
dF (mV 27 41) [41]] [1,4,15,16,17,27])
(.cond 27 (.seq (rg [mV 2 (cI 7)] [2])
.ret)
.skip)))))
(.seq (rg [lD 42 (some 2) 4,
cL 43 zwr [42],
mV 5 43] [1,5,15,16,17])
(.seq (rg [mV 44 5,
bN 45 .neq 44 (cI 0)] [1,5,15,16,17,45])
(.cond 45 (.seq (rg [mV 46 5,
mV 2 46] [2])
.ret)
.skip))))))
(rg [bN 47 .add 17 (cI 1),
mV 17 47] [1,15,16,17]))))
def zq2:ACode:=.pr [1,7,59,60,61] (.seq (rg [bN 62 .lss 61 60] [1,7,59,60,61,62])
(.seq (.cond 62 .skip
(.exit 3))
(.seq (.block 4 (.seq (rg [mV 63 61,
iA 64 (some 2) 59 61,
lD 65 (some 2) 64,
uO 9 (.alloc [.p (.str []),.p (.int .i64 0)]),
mV 8 63,
wO (.store (some 2) 9 65)] [1,7,8,9,59,60,61])
(.block 5 (.seq (rg [mV 67 7,
fA 68 0 none 9,
lD 69 none 68,
cL 70 z3M [67,69],
uO 71 (.un .not 70),
mV 66 71] [1,7,8,9,59,60,61,66])
(.cond 66 (.seq (rg [mV 2 (cI 8)] [2])
.ret)
(.seq (rg [fA 73 1 none 9,
lD 74 none 73,
cL 75 z0T [74,(cI 0),(cI 1)],
mV 72 75] [1,7,8,9,59,60,61,72])
(.cond 72 (.seq (rg [mV 2 (cI 1)] [2])
.ret)
(.seq (dr [dF (mV 77 8) [8],
dF (bN 78 .gtr 77 (cI 0)) [77],
dF (mV 79 78) [78],
dF (gD 80 79 true (.faddr 0 none 9)) [9,79],
dF (gD 81 79 true (.load none 80)) [80,79],
dF (gD 82 79 true (.faddr 2 none 1)) [1,79],
dF (gD 83 79 true (.load none 82)) [82,79],
dF (gD 84 79 true (.mv 8)) [8,79],
dF (gD 85 79 true (.bin .sub 84 (cI 1))) [84,79],
dF (gD 86 79 true (.iaddr (some 2) 83 85)) [83,85,79],
dF (gD 87 79 true (.faddr 0 none 86)) [86,79],
dF (gD 88 79 true (.load none 87)) [87,79],
dF (gD 89 79 true (.bin .leq 81 88)) [81,88,79],
dF (uO 90 (.pick 79 89 cF)) [79,89],
dF (mV 76 90) [90]] [1,7,59,60,61,76])
(.cond 76 (.seq (rg [mV 2 (cI 7)] [2])
.ret)
.skip)))))))))
(rg [bN 91 .add 61 (cI 1),
mV 61 91] [1,7,59,60,61]))))
def zq3:ACode:=.pr [] (.seq (rg [mV 2 (cI 0)] [2])
.ret)
def zkQ (q2 q3:ACode):ACode:=.pr [1] (.seq (.seq (rg [lD 48 (some 3) 1,
cL 49 zwv [48],
mV 6 49] [1,6])
(.seq (rg [mV 50 6,
bN 51 .neq 50 (cI 0)] [1,6,51])
(.cond 51 (.seq (rg [mV 52 6,
mV 2 52] [2])
.ret)
.skip)))
(.seq (rg [lD 53 (some 3) 1,
cL 54 zhC [53],
mV 7 54] [1,7])
(.seq (.seq (rg [mV 55 7,
lN 56 55,
bN 57 .gtr 56 (cI 100)] [1,7,57])
(.cond 57 (.seq (rg [mV 2 (cI 2)] [2])
.ret)
.skip))
(.seq (.seq (rg [fA 58 2 none 1,
lD 59 none 58,
lN 60 59,
mV 61 (cI 0)] [1,7,59,60,61])
(.block 3 (.loop (.scope q2))))
q3))))
def zq4:ACode:=zkQ zq2 zq3
def P_q00b (q1 q4:ACode):ACode:=(.seq (rg [uO 1 (.box 0),
mV 2 (cI 0)] [1])
(.seq (.seq (rg [fA 10 0 none 1,
lD 11 none 10,
lN 12 11,
bN 13 .gtr 12 (cI 40)] [1,13])
(.cond 13 (.seq (rg [mV 2 (cI 2)] [2])
.ret)
.skip))
(.seq (.seq (rg [fA 14 0 none 1,
lD 15 none 14,
lN 16 15,
mV 17 (cI 0)] [1,15,16,17])
(.block 0 (.loop (.scope q1))))
q4)))
def a_q00b:AFun:=⟨1,[.t 2],P_q00b zq1 zq4,false,false⟩
def zq5:ACode:=.pr [7,8,21,22,23] (.seq (rg [bN 24 .lss 23 22] [7,8,21,22,23,24])
(.seq (.cond 24 .skip
(.exit 0))
(.seq (.block 1 (.seq (rg [iA 25 none 21 23,
lD 26 none 25,
mV 10 26] [7,8,10,21,22,23])
(rg [mV 27 8,
mV 28 7,
mV 29 10,
uO 30 (.look (none,[2]) false (AI 0) 28 29),
uO 31 (.bsl false none 1 (.int .i64 0) [(0,30)]),
uO 32 (.app none 27 31),
mV 8 32] [7,8,21,22,23])))
(rg [bN 33 .add 23 (cI 1),
mV 23 33] [7,8,21,22,23]))))
def zq6:ACode:=.pr [8] (.seq (rg [mV 34 8,
mV 4 34,
mV 5 (cI 0)] [4,5])
.ret)
def P_q00c (q1 q2:ACode):ACode:=(.seq (rg [uO 2 (.box 0),
mV 4 (.c (.p (.sl none []))),
mV 5 (cI 0)] [1,2])
(.seq (.seq (rg [lD 11 (some 3) 2,
mV 12 1,
cL 13 zwl [11,12],
mV 6 13] [1,2,6])
(.seq (rg [mV 14 6,
bN 15 .neq 14 (cI 0)] [1,2,6,15])
(.cond 15 (.seq (rg [mV 16 6,
mV 4 (.c (.p (.sl none []))),
mV 5 16] [4,5])
.ret)
.skip)))
(.seq (rg [lD 17 (some 3) 2,
mV 18 1,
cL 19 zww [17,18],
mV 7 19] [2,7])
(.seq (rg [uO 8 (.new0 none)] [2,7,8])
(.seq (.seq (rg [lD 20 (some 3) 2,
cL 21 zhC [20],
lN 22 21,
mV 23 (cI 0)] [7,8,21,22,23])
(.block 0 (.loop (.scope q1))))
q2)))))
def a_q00c:AFun:=⟨2,[.t 4,.t 5],P_q00c zq5 zq6,false,false⟩
def P_q00d:ACode:=(.seq (rg [uO 2 (.box 0),
uO 3 (.box 1),
mV 4 (cI 0)] [2,3])
(.seq (dr [dF (fA 5 0 none 2) [2],
dF (lD 6 none 5) [5],
dF (fA 7 0 none 3) [3],
dF (lD 8 none 7) [7],
dT (cL 9 z2l [6,8]) [6,8],
dF (fA 10 1 none 2) [2],
dA (lD 11 none 10) [10] false [4] [],
dF (fA 12 1 none 3) [3],
dA (lD 13 none 12) [12] false [4] [],
dT (cL 14 z2l [11,13]) [11,13],
dF (fA 15 2 none 2) [2],
dA (lD 16 none 15) [15] false [4,9] [],
dF (fA 17 2 none 3) [3],
dA (lD 18 none 17) [17] false [4,9] [],
dT (cL 19 z2l [16,18]) [16,18],
dF (uO 20 (.bsl false none 3 (.int .i64 0) [(0,9),(1,14),(2,19)])) [9,14,19],
dT (cL 21 z5c [20]) [20],
dF (mV 4 21) [21]] [4])
.ret))
def a_q00d:AFun:=⟨2,[.t 4],P_q00d,false,false⟩
def P_q00e:ACode:=(.seq (rg [uO 2 (.box 0),
uO 3 (.box 1),
mV 4 (cI 0)] [2,3])
(.seq (.block 0 (.seq (rg [fA 6 0 none 3,
lD 7 none 6,
cL 8 z0T [7,(cI 1),(cI 4)],
mV 5 8] [2,3,5])
(.cond 5 (.seq (rg [mV 4 (cI 4)] [4])
.ret)
(.seq (rg [lD 10 (some 4) 3,
cL 11 ze5 [10],
mV 12 11,
gD 13 12 true (.faddr 1 none 3),
gD 14 12 true (.load none 13),
gD 15 12 true (.call z17 [14]),
gD 16 12 true (.un .not 15),
uO 17 (.pick 12 16 cF),
mV 9 17] [2,3,9])
(.cond 9 (.seq (rg [mV 4 (cI 5)] [4])
.ret)
(.seq (rg [lD 19 (some 4) 3,
cL 20 ze5 [19],
uO 21 (.un .not 20),
mV 22 21,
gD 23 22 true (.faddr 1 none 3),
gD 24 22 true (.load none 23),
gD 25 22 true (.bin .neq 24 (cS [])),
uO 26 (.pick 22 25 cF),
mV 18 26] [2,3,18])
(.cond 18 (.seq (rg [mV 4 (cI 3)] [4])
.ret)
.skip)))))))
(.seq (.seq (rg [fA 27 0 none 3,
lD 28 none 27,
bN 29 .neq 28 (cI 2)] [2,3,29])
(.cond 29 (.seq (.seq (rg [fA 30 2 none 3,
lD 31 none 30,
bN 32 .neq 31 (cI (-1)),
mV 33 32,
gD 34 33 false (.faddr 3 none 3),
gD 35 33 false (.load none 34),
gD 36 33 false (.bin .neq 35 (cI 0)),
uO 37 (.pick 33 cT 36)] [37])
(.cond 37 (.seq (rg [mV 4 (cI 3)] [4])
.ret)
.skip))
(.seq (rg [mV 4 (cI 0)] [4])
.ret))
.skip))
(.seq (.block 1 (.seq (rg [fA 39 2 none 3,
lD 40 none 39,
bN 41 .neq 40 (cI (-1)),
mV 42 41,
gD 43 42 true (.faddr 2 none 3),
gD 44 42 true (.load none 43),
gD 45 42 true (.faddr 1 none 2),
gD 46 42 true (.load none 45),
gD 47 42 true (.len 46),
gD 48 42 true (.bin .sub 47 (cI 1)),
gD 49 42 true (.call z0T [44,(cI 0),48]),
gD 50 42 true (.mv 49),
gD 51 50 false (.faddr 1 none 2),
gD 52 50 false (.load none 51),
gD 53 50 false (.faddr 2 none 3),
gD 54 50 false (.load none 53),
gD 55 50 false (.iaddr (some 4) 52 54),
gD 56 50 false (.faddr 0 none 55),
gD 57 50 false (.load none 56),
gD 58 50 false (.bin .neq 57 (cI 3)),
gD 59 42 true (.pick 50 cT 58),
uO 60 (.pick 42 59 cF),
mV 38 60] [3,38])
(.cond 38 (.seq (rg [mV 4 (cI 8)] [4])
.ret)
(.seq (rg [fA 62 3 none 3,
lD 63 none 62,
cL 64 z0T [63,(cI 0),(cI 1)],
mV 65 64,
gD 66 65 false (.faddr 2 none 3),
gD 67 65 false (.load none 66),
gD 68 65 false (.bin .eql 67 (cI (-1))),
gD 69 65 false (.mv 68),
gD 70 69 true (.faddr 3 none 3),
gD 71 69 true (.load none 70),
gD 72 69 true (.bin .neq 71 (cI 0)),
gD 73 65 false (.pick 69 72 cF),
uO 74 (.pick 65 cT 73),
mV 61 74] [61])
(.cond 61 (.seq (rg [mV 4 (cI 1)] [4])
.ret)
.skip)))))
(.seq (rg [mV 4 (cI 0)] [4])
.ret)))))
def a_q00e:AFun:=⟨2,[.t 4],P_q00e,false,false⟩
def zq7:ACode:=.pr [1,5,6,7,8,17,18,19,25,26,27] (rg [bN 57 .add 27 (cI 1),
mV 27 57] [1,5,6,7,8,17,18,19,25,26,27])
def zkR (q1:ACode):ACode:=.pr [1,5,6,7,8,17,18,19,25,26,27] (.seq (rg [bN 28 .lss 27 26] [1,5,6,7,8,17,18,19,25,26,27,28])
(.seq (.cond 28 .skip
(.exit 2))
(.seq (.block 3 (.seq (rg [mV 29 27,
iA 30 (some 4) 25 27,
lD 31 (some 4) 30,
uO 10 (.alloc [.p (.int .i64 0),.p (.str []),.p (.int .i64 0),.p (.int .i64 0)]),
mV 9 29,
wO (.store (some 4) 10 31)] [1,5,6,7,8,9,10,17,18,19,25,26,27])
(.seq (.seq (rg [fA 32 0 none 10,
lD 33 none 32,
mV 34 1,
bN 35 .neq 33 34] [1,5,6,7,8,9,10,17,18,19,25,26,27,35])
(.cond 35 (.exit 3)
.skip))
(.seq (rg [mV 37 5,
fA 38 0 none 8,
lD 39 none 38,
fA 40 1 none 10,
lD 41 none 40,
uO 42 (.build [.p (.str []),.p (.str [])] [(0,1,39),(1,1,41)]),
uO 43 (.look ((some 2),[2,2]) true (.p (.str [])) 37 42),
mV 36 43,
eX 44 36 0,
eX 45 36 1,
mV 11 44,
mV 12 45] [1,5,6,7,8,9,11,12,17,18,19,25,26,27])
(.seq (rg [mV 46 12] [1,5,6,7,8,9,11,17,18,19,25,26,27,46])
(.cond 46 (rg [mV 47 6,
mV 48 11,
mV 49 6,
mV 50 11,
uO 51 (.look (none,[2]) false (.sl0 (some 2)) 49 50),
mV 52 7,
mV 53 9,
uO 54 (.build [.p (.int .i64 0),.p (.int .i64 0)] [(0,1,52),(1,1,53)]),
uO 55 (.bsl false (some 2) 1 (.agg [.int .i64 0,.int .i64 0]) [(0,54)]),
uO 56 (.app (some 2) 51 55),
wO (.mupd (none,[2]) 47 48 56)] [1,5,6,7,8,17,18,19,25,26,27])
.skip))))))
q1)))
def zq8:ACode:=zkR zq7
def zq9:ACode:=.pr [1,5,6,17,18,19] (rg [bN 58 .add 19 (cI 1),
mV 19 58] [1,5,6,17,18,19])
def zkS (q2 q3:ACode):ACode:=.pr [1,5,6,17,18,19] (.seq (rg [bN 20 .lss 19 18] [1,5,6,17,18,19,20])
(.seq (.cond 20 .skip
(.exit 0))
(.seq (.block 1 (.seq (rg [mV 21 19,
iA 22 (some 2) 17 19,
lD 23 (some 2) 22,
uO 8 (.alloc [.p (.str []),.sl0 (some 4)]),
mV 7 21,
wO (.store (some 2) 8 23)] [1,5,6,7,8,17,18,19])
(.seq (rg [fA 24 1 none 8,
lD 25 none 24,
lN 26 25,
mV 27 (cI 0)] [1,5,6,7,8,17,18,19,25,26,27])
(.block 2 (.loop (.scope q2))))))
q3)))
def zqA:ACode:=zkS zq8 zq9
def zqB:ACode:=.pr [6] (.seq (rg [mV 59 6,
mV 4 59] [4])
.ret)
def P_q00f (q4 q5:ACode):ACode:=(.seq (rg [uO 2 (.box 0),
mV 4 (.c (.nilm))] [1,2])
(.seq (rg [lD 13 (some 3) 2,
cL 14 zwx [13],
mV 5 14] [1,2,5])
(.seq (rg [uO 15 (.mkmap),
mV 6 15] [1,2,5,6])
(.seq (.seq (rg [fA 16 0 none 2,
lD 17 none 16,
lN 18 17,
mV 19 (cI 0)] [1,5,6,17,18,19])
(.block 0 (.loop (.scope q4))))
q5))))
def a_q00f:AFun:=⟨2,[.t 4],P_q00f zqA zqB,false,false⟩
def zqC:ACode:=.pr [1,13,14,15] (.seq (rg [bN 16 .lss 15 14] [1,13,14,15,16])
(.seq (.cond 16 .skip
(.exit 0))
(.seq (.block 1 (.seq (rg [iA 17 (some 4) 13 15,
lD 18 (some 4) 17,
uO 4 (.alloc [.p (.int .i64 0),.p (.str []),.p (.int .i64 0),.p (.int .i64 0)]),
wO (.store (some 4) 4 18)] [1,4,13,14,15])
(.seq (rg [lD 19 (some 2) 1,
lD 20 (some 4) 4,
cL 21 zwp [19,20],
mV 5 21] [1,5,13,14,15])
(.seq (rg [mV 22 5,
bN 23 .neq 22 (cI 0)] [1,5,13,14,15,23])
(.cond 23 (.seq (rg [mV 24 5,
mV 2 24] [2])
.ret)
.skip)))))
(rg [bN 25 .add 15 (cI 1),
mV 15 25] [1,13,14,15]))))
def zqD:ACode:=.pr [1,27,28,29] (.seq (rg [bN 30 .lss 29 28] [1,27,28,29,30])
(.seq (.cond 30 .skip
(.exit 2))
(.seq (.block 3 (.seq (rg [mV 31 29,
iA 32 (some 4) 27 29,
lD 33 (some 4) 32,
uO 7 (.alloc [.p (.int .i64 0),.p (.str []),.p (.int .i64 0),.p (.int .i64 0)]),
mV 6 31,
wO (.store (some 4) 7 33)] [1,6,7,27,28,29])
(.seq (rg [lD 34 (some 4) 7,
cL 35 ze5 [34],
mV 36 35,
gD 37 36 true (.faddr 1 none 1),
gD 38 36 true (.load none 37),
gD 39 36 true (.mv 6),
gD 40 36 true (.slice (some 4) 38 none (some 39) none),
gD 41 36 true (.mkfn zws [7]),
gD 42 36 true (.call zoO [40,41]),
uO 43 (.pick 36 42 cF)] [1,27,28,29,43])
(.cond 43 (.seq (rg [mV 2 (cI 6)] [2])
.ret)
.skip))))
(rg [bN 44 .add 29 (cI 1),
mV 29 44] [1,27,28,29]))))
def zqE:ACode:=.pr [] (.seq (rg [mV 2 (cI 0)] [2])
.ret)
def zkT (q2 q3:ACode):ACode:=.pr [1] (.seq (.seq (rg [fA 26 1 none 1,
lD 27 none 26,
lN 28 27,
mV 29 (cI 0)] [1,27,28,29])
(.block 2 (.loop (.scope q2))))
q3)
def zqF:ACode:=zkT zqD zqE
def P_q00g (q1 q4:ACode):ACode:=(.seq (rg [uO 1 (.box 0),
mV 2 (cI 0)] [1])
(.seq (.seq (rg [fA 8 1 none 1,
lD 9 none 8,
lN 10 9,
bN 11 .gtr 10 (cI 200)] [1,11])
(.cond 11 (.seq (rg [mV 2 (cI 2)] [2])
.ret)
.skip))
(.seq (.seq (rg [fA 12 1 none 1,
lD 13 none 12,
lN 14 13,
mV 15 (cI 0)] [1,13,14,15])
(.block 0 (.loop (.scope q1))))
q4)))
def a_q00g:AFun:=⟨1,[.t 2],P_q00g zqC zqF,false,false⟩
def P_q00h:ACode:=(.seq (rg [uO 2 (.box 0),
mV 3 cF] [1,2])
(.seq (rg [fA 4 0 none 2,
lD 5 none 4,
fA 6 0 none 1,
lD 7 none 6,
bN 8 .eql 5 7,
mV 9 8,
gD 10 9 true (.faddr 1 none 2),
gD 11 9 true (.load none 10),
gD 12 9 true (.faddr 1 none 1),
gD 13 9 true (.load none 12),
gD 14 9 true (.bin .eql 11 13),
uO 15 (.pick 9 14 cF),
mV 3 15] [3])
.ret))
def a_q00h:AFun:=⟨2,[.t 3],P_q00h,false,false⟩
def P_q00i:ACode:=(.seq (rg [uO 2 (.box 0),
mV 4 (cI 0)] [1,2])
(.seq (rg [fA 8 0 none 2,
lD 9 none 8,
mV 10 1,
cL 11 zwH [9,10,(.f zwu)],
mV 7 11,
eX 12 7 0,
eX 13 7 1,
mV 5 12,
mV 6 13] [5,6])
(.seq (.seq (rg [mV 14 6,
uO 15 (.un .not 14)] [5,15])
(.cond 15 (.seq (rg [mV 4 (cI (-1))] [4])
.ret)
.skip))
(.seq (rg [mV 16 5,
mV 4 16] [4])
.ret))))
def a_q00i:AFun:=⟨2,[.t 4],P_q00i,false,false⟩
def P_q00j:ACode:=(.seq (rg [uO 2 (.box 0),
mV 4 (cI 0)] [1,2])
(.seq (rg [fA 5 0 none 2,
lD 6 none 5,
mV 7 1,
cL 8 z2l [6,7],
mV 4 8] [4])
.ret))
def a_q00j:AFun:=⟨2,[.t 4],P_q00j,false,false⟩
def P_q00k:ACode:=(.seq (rg [uO 1 (.box 0),
mV 2 cF] [1])
(.seq (rg [fA 3 0 none 1,
lD 4 none 3,
bN 5 .eql 4 (cI 1),
mV 6 5,
gD 7 6 false (.faddr 0 none 1),
gD 8 6 false (.load none 7),
gD 9 6 false (.bin .eql 8 (cI 2)),
uO 10 (.pick 6 cT 9),
mV 2 10] [2])
.ret))
def a_q00k:AFun:=⟨1,[.t 2],P_q00k,false,false⟩
def zqG:ACode:=.pr [1,14,15,16] (.seq (rg [bN 17 .lss 16 15] [1,14,15,16,17])
(.seq (.cond 17 .skip
(.exit 0))
(.seq (.block 1 (.seq (rg [mV 18 16,
iA 19 (some 3) 14 16,
lD 20 (some 3) 19,
uO 4 (.alloc [.p (.str []),.p (.str []),.p (.str [])]),
mV 3 18,
wO (.store (some 3) 4 20)] [1,3,4,14,15,16])
(.block 2 (.seq (rg [fA 22 0 none 4,
lD 23 none 22,
cL 24 z17 [23],
uO 25 (.un .not 24),
mV 21 25] [1,3,4,14,15,16,21])
(.cond 21 (.seq (rg [mV 2 (cI 5)] [2])
.ret)
(.seq (rg [lD 27 (some 3) 1,
fA 28 1 none 4,
lD 29 none 28,
fA 30 2 none 4,
lD 31 none 30,
cL 32 zwy [27,29,31],
uO 33 (.un .not 32),
mV 26 33] [1,3,4,14,15,16,26])
(.cond 26 (.seq (rg [mV 2 (cI 8)] [2])
.ret)
(.seq (dr [dF (mV 35 3) [3],
dF (bN 36 .gtr 35 (cI 0)) [35],
dF (mV 37 36) [36],
dF (gD 38 37 true (.load (some 3) 4)) [4,37],
dF (gD 39 37 true (.faddr 1 none 1)) [1,37],
dF (gD 40 37 true (.load none 39)) [39,37],
dF (gD 41 37 true (.mv 3)) [3,37],
dF (gD 42 37 true (.bin .sub 41 (cI 1))) [41,37],
dF (gD 43 37 true (.iaddr (some 3) 40 42)) [40,42,37],
dF (gD 44 37 true (.load (some 3) 43)) [43,37],
dT (gD 45 37 true (.call zwo [38,44])) [38,44,37],
dF (gD 46 37 true (.bin .leq 45 (cI 0))) [45,37],
dF (uO 47 (.pick 37 46 cF)) [37,46],
dF (mV 34 47) [47]] [1,14,15,16,34])
(.cond 34 (.seq (rg [mV 2 (cI 7)] [2])
.ret)
.skip)))))))))
(rg [bN 48 .add 16 (cI 1),
mV 16 48] [1,14,15,16]))))
def zqH:ACode:=.pr [5,51,52,53] (.seq (rg [bN 54 .lss 53 52] [5,51,52,53,54])
(.seq (.cond 54 .skip
(.exit 3))
(.seq (.block 4 (.seq (rg [iA 55 (some 3) 51 53,
lD 56 (some 3) 55,
uO 7 (.alloc [.p (.str []),.p (.str []),.p (.str [])]),
wO (.store (some 3) 7 56)] [5,7,51,52,53])
(.seq (rg [fA 57 1 none 7,
lD 58 none 57,
fA 59 2 none 7,
lD 60 none 59,
uO 61 (.build [.p (.str []),.p (.str [])] [(0,1,58),(1,1,60)]),
uO 8 (.alloc [.p (.str []),.p (.str [])]),
wO (.store (some 2) 8 61)] [5,8,51,52,53])
(.seq (.seq (rg [mV 62 5,
lD 63 (some 2) 8,
uO 64 (.look ((some 2),[2,2]) false (AB false) 62 63)] [5,8,51,52,53,64])
(.cond 64 (.seq (rg [mV 2 (cI 6)] [2])
.ret)
.skip))
(rg [mV 65 5,
lD 66 (some 2) 8,
wO (.mupd ((some 2),[2,2]) 65 66 cT)] [5,51,52,53])))))
(rg [bN 67 .add 53 (cI 1),
mV 53 67] [5,51,52,53]))))
def zqI:ACode:=.pr [] (.seq (rg [mV 2 (cI 0)] [2])
.ret)
def zkU (q2 q3:ACode):ACode:=.pr [1] (.seq (rg [uO 49 (.mkmap),
mV 5 49] [1,5])
(.seq (.seq (rg [fA 50 1 none 1,
lD 51 none 50,
lN 52 51,
mV 53 (cI 0)] [5,51,52,53])
(.block 3 (.loop (.scope q2))))
q3))
def zqJ:ACode:=zkU zqH zqI
def P_q00l (q1 q4:ACode):ACode:=(.seq (rg [uO 1 (.box 0),
mV 2 (cI 0)] [1])
(.seq (.seq (rg [fA 9 1 none 1,
lD 10 none 9,
lN 11 10,
bN 12 .gtr 11 (cI 1000)] [1,12])
(.cond 12 (.seq (rg [mV 2 (cI 2)] [2])
.ret)
.skip))
(.seq (.seq (rg [fA 13 1 none 1,
lD 14 none 13,
lN 15 14,
mV 16 (cI 0)] [1,14,15,16])
(.block 0 (.loop (.scope q1))))
q4)))
def a_q00l:AFun:=⟨1,[.t 2],P_q00l zqG zqJ,false,false⟩
def zqK:ACode:=.pr [1,2,5,20,21,22] (.seq (rg [bN 23 .lss 22 21] [1,2,5,20,21,22,23])
(.seq (.cond 23 .skip
(.exit 0))
(.seq (.block 1 (.seq (rg [iA 24 none 20 22,
lD 25 none 24,
mV 7 25] [1,2,5,7,20,21,22])
(rg [mV 26 5,
mV 27 7,
wO (.mupd (none,[2]) 26 27 (cI 2))] [1,2,5,20,21,22])))
(rg [bN 28 .add 22 (cI 1),
mV 22 28] [1,2,5,20,21,22]))))
def zqL:ACode:=.pr [1,2,5,30,31,32] (.seq (rg [bN 33 .lss 32 31] [1,2,5,30,31,32,33])
(.seq (.cond 33 .skip
(.exit 2))
(.seq (.block 3 (.seq (rg [iA 34 (some 2) 30 32,
lD 35 (some 2) 34,
uO 9 (.alloc [.p (.str []),.p (.int .i64 0)]),
wO (.store (some 2) 9 35)] [1,2,5,9,30,31,32])
(rg [mV 36 5,
fA 37 0 none 9,
lD 38 none 37,
fA 39 1 none 9,
lD 40 none 39,
wO (.mupd (none,[2]) 36 38 40)] [1,2,5,30,31,32])))
(rg [bN 41 .add 32 (cI 1),
mV 32 41] [1,2,5,30,31,32]))))
def zqM:ACode:=.pr [1,2,5,10,17,44,50,51,52] (rg [mV 100 5,
mV 101 10,
mV 102 17,
wO (.mupd (none,[2]) 100 101 102),
mV 12 cT] [1,2,5,10,12,44,50,51,52])
def zqN:ACode:=.pr [1,2,5,10,12,44,50,51,52] (rg [bN 103 .add 52 (cI 1),
mV 52 103] [1,2,5,10,12,44,50,51,52])
def zkV (q3 q4:ACode):ACode:=.pr [1,2,5,10,12,44,50,51,52] (.seq (rg [bN 53 .lss 52 51] [1,2,5,10,12,44,50,51,52,53])
(.seq (.cond 53 .skip
(.exit 6))
(.seq (.block 7 (.seq (rg [iA 54 (some 2) 50 52,
lD 55 (some 2) 54,
uO 14 (.alloc [.p (.int .i64 0),.p (.int .i64 0)]),
wO (.store (some 2) 14 55)] [1,2,5,10,12,14,44,50,51,52])
(.seq (dr [dF (fA 56 0 none 2) [2],
dF (lD 57 none 56) [56],
dF (fA 58 0 none 14) [14],
dF (lD 59 none 58) [58],
dF (iA 60 (some 2) 57 59) [57,59],
dF (fA 61 1 none 60) [60],
dF (lD 62 none 61) [61],
dF (fA 63 1 none 14) [14],
dF (lD 64 none 63) [63],
dF (iA 65 (some 4) 62 64) [62,64],
dF (lD 66 (some 4) 65) [65],
dF (mV 67 1) [1],
dF (fA 68 0 none 14) [14],
dF (lD 69 none 68) [68],
dF (iA 70 none 67 69) [67,69],
dF (lD 71 none 70) [70],
dA (uO 15 (.alloc [.p (.int .i64 0),.p (.str []),.p (.int .i64 0),.p (.int .i64 0)])) [] true [] [1,3,4,6,8,9,10,13,14,15],
dA (wO (.store (some 4) 15 66)) [15,66] true [] [13,14,15],
dF (mV 16 71) [71]] [1,2,5,10,12,14,15,16,44,50,51,52])
(.seq (.seq (dr [dF (fA 72 2 none 15) [15],
dF (lD 73 none 72) [72],
dF (bN 74 .geq 73 (cI 0)) [73],
dF (mV 75 74) [74],
dF (gD 76 75 true (.mv 16)) [16,75],
dF (gD 77 75 true (.faddr 2 none 15)) [15,75],
dF (gD 78 75 true (.load none 77)) [77,75],
dF (gD 79 75 true (.idxs 76 78)) [76,78,75],
dF (gD 80 75 true (.bin .sub 79 (.c (.p (.int .u8 48))))) [79,75],
dF (gD 81 75 true (.conv (.i .i64) 80)) [80,75],
dF (gD 82 75 true (.faddr 3 none 15)) [15,75],
dF (gD 83 75 true (.load none 82)) [82,75],
dF (gD 84 75 true (.bin .eql 81 83)) [81,83,75],
dF (uO 85 (.pick 75 84 cF)) [75,84]] [1,2,5,10,12,14,16,44,50,51,52,85])
(.cond 85 (.exit 7)
.skip))
(.seq (rg [mV 86 16,
fA 87 1 none 14,
lD 88 none 87,
uO 89 (.idxs 86 88),
bN 90 .sub 89 (.c (.p (.int .u8 48))),
uO 91 (.conv (.i .i64) 90),
mV 17 91] [1,2,5,10,12,17,44,50,51,52])
(.seq (.seq (rg [mV 92 12,
mV 93 92,
gD 94 93 true (.mv 5),
gD 95 93 true (.mv 10),
gD 96 93 true (.look (none,[2]) false (AI 0) 94 95),
gD 97 93 true (.mv 17),
gD 98 93 true (.bin .neq 96 97),
uO 99 (.pick 93 98 cF)] [1,2,5,10,17,44,50,51,52,99])
(.cond 99 (rg [mV 17 (cI 3)] [1,2,5,10,17,44,50,51,52])
.skip))
q3))))))
q4)))
def zqO:ACode:=zkV zqM zqN
def zkW (q5:ACode):ACode:=.pr [1,2,5,44] (.seq (rg [uO 45 (.mnext none [44]),
eX 46 45 0] [1,2,5,44,46])
(.seq (.cond 46 .skip
(.exit 4))
(.block 5 (.seq (rg [uO 47 (.mentry 44),
eX 48 47 0,
eX 49 47 1,
mV 10 48,
mV 11 49] [1,2,5,10,11,44])
(.seq (rg [mV 12 cF] [1,2,5,10,11,12,44])
(.seq (rg [mV 50 11,
lN 51 50,
mV 52 (cI 0)] [1,2,5,10,12,44,50,51,52])
(.block 6 (.loop (.scope q5)))))))))
def zqP:ACode:=zkW zqO
def zqQ:ACode:=.pr [5] (.seq (rg [mV 104 5,
mV 4 104] [4])
.ret)
def zkX (q6 q7:ACode):ACode:=.pr [1,2,5] (.seq (.seq (rg [lD 42 (some 3) 2,
cL 43 zwq [42,(cI 2)],
uO 44 (.mrange 43)] [1,2,5,44])
(.block 4 (.loop (.scope q6))))
q7)
def zqR:ACode:=zkX zqP zqQ
def zkY (q2 q8:ACode):ACode:=.pr [1,2,5] (.seq (.seq (rg [fA 29 2 none 2,
lD 30 none 29,
lN 31 30,
mV 32 (cI 0)] [1,2,5,30,31,32])
(.block 2 (.loop (.scope q2))))
q8)
def zqS:ACode:=zkY zqL zqR
def P_q00m (q1 q9:ACode):ACode:=(.det (.seq (rg [uO 2 (.box 0),
mV 4 (.c (.nilm))] [1,2])
(.seq (rg [uO 18 (.mkmap),
mV 5 18] [1,2,5])
(.seq (.seq (rg [lD 19 (some 3) 2,
cL 20 zhC [19],
lN 21 20,
mV 22 (cI 0)] [1,2,5,20,21,22])
(.block 0 (.loop q1)))
q9))))
def a_q00m:AFun:=⟨2,[.t 4],P_q00m zqK zqS,false,false⟩
def zqT:ACode:=.pr [3,7,8,9] (.seq (rg [bN 10 .lss 9 8] [3,7,8,9,10])
(.seq (.cond 10 .skip
(.exit 0))
(.seq (.block 1 (.seq (rg [iA 11 (some 3) 7 9,
lD 12 (some 3) 11,
uO 5 (.alloc [.p (.str []),.p (.str []),.p (.str [])]),
wO (.store (some 3) 5 12)] [3,5,7,8,9])
(rg [mV 13 3,
fA 14 0 none 5,
lD 15 none 14,
uO 16 (.bsl false none 1 (.str []) [(0,15)]),
uO 17 (.app none 13 16),
mV 3 17] [3,7,8,9])))
(rg [bN 18 .add 9 (cI 1),
mV 9 18] [3,7,8,9]))))
def zqU:ACode:=.pr [3] (.seq (rg [mV 19 3,
cL 20 zwI [19],
mV 2 20] [2])
.ret)
def P_q00n (q1 q2:ACode):ACode:=(.seq (rg [uO 1 (.box 0),
mV 2 (.c (.p (.sl none [])))] [1])
(.seq (rg [uO 3 (.new0 none)] [1,3])
(.seq (.seq (rg [fA 6 1 none 1,
lD 7 none 6,
lN 8 7,
mV 9 (cI 0)] [3,7,8,9])
(.block 0 (.loop (.scope q1))))
q2)))
def a_q00n:AFun:=⟨1,[.t 2],P_q00n zqT zqU,false,true⟩
def zqV:ACode:=.pr [3,8,9,10] (.seq (rg [bN 11 .lss 10 9] [3,8,9,10,11])
(.seq (.cond 11 .skip
(.exit 0))
(.seq (.block 1 (.seq (rg [iA 12 (some 3) 8 10,
lD 13 (some 3) 12,
uO 5 (.alloc [.p (.str []),.p (.str []),.p (.str [])]),
wO (.store (some 3) 5 13)] [3,5,8,9,10])
(rg [mV 14 3,
fA 15 1 none 5,
lD 16 none 15,
fA 17 2 none 5,
lD 18 none 17,
uO 19 (.build [.p (.str []),.p (.str [])] [(0,1,16),(1,1,18)]),
fA 20 0 none 5,
lD 21 none 20,
wO (.mupd ((some 2),[2,2]) 14 19 21)] [3,8,9,10])))
(rg [bN 22 .add 10 (cI 1),
mV 10 22] [3,8,9,10]))))
def zqW:ACode:=.pr [3] (.seq (rg [mV 23 3,
mV 2 23] [2])
.ret)
def P_q00o (q1 q2:ACode):ACode:=(.seq (rg [uO 1 (.box 0),
mV 2 (.c (.nilm))] [1])
(.seq (rg [uO 6 (.mkmap),
mV 3 6] [1,3])
(.seq (.seq (rg [fA 7 1 none 1,
lD 8 none 7,
lN 9 8,
mV 10 (cI 0)] [3,8,9,10])
(.block 0 (.loop (.scope q1))))
q2)))
def a_q00o:AFun:=⟨1,[.t 2],P_q00o zqV zqW,false,false⟩
def P_q00p:ACode:=(.seq (rg [uO 3 (.box 0),
uO 5 (.box 2),
mV 6 cF] [1,3,5])
(.seq (rg [lD 8 (some 3) 3,
mV 9 1,
cL 10 zwt [8,9],
mV 7 10] [3,5,7])
(.seq (rg [mV 11 7,
bN 12 .geq 11 (cI 0),
mV 13 12,
gD 14 13 true (.faddr 0 none 3),
gD 15 13 true (.load none 14),
gD 16 13 true (.mv 7),
gD 17 13 true (.iaddr (some 2) 15 16),
gD 18 13 true (.faddr 1 none 17),
gD 19 13 true (.load none 18),
gD 20 13 true (.mkfn zwz [5]),
gD 21 13 true (.call zoO [19,20]),
uO 22 (.pick 13 21 cF),
mV 6 22] [6])
.ret)))
def a_q00p:AFun:=⟨3,[.t 6],P_q00p,false,false⟩
def P_q00q:ACode:=(.seq (rg [uO 2 (.box 0),
mV 3 cF] [1,2])
(.seq (rg [lD 4 (some 4) 2,
cL 5 ze5 [4],
mV 6 5,
gD 7 6 true (.faddr 1 none 2),
gD 8 6 true (.load none 7),
gD 9 6 true (.load none 1),
gD 10 6 true (.bin .eql 8 9),
uO 11 (.pick 6 10 cF),
mV 3 11] [3])
.ret))
def a_q00q:AFun:=⟨2,[.t 3],P_q00q,false,false⟩
end Go.Am
end
