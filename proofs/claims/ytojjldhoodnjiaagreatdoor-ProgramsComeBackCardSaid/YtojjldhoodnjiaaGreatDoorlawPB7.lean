/- Texts of the proof, laid together: CodesD, CodesE, CodesF, AmC. -/
import Derived.KernelRfl
import Derived.Test.YtojjldhoodnjiaaGreatDoorlawPB6
set_option linter.all false
section
/- The functions asv abstract code,and asv formulas over their values: printed by program out of the translation. -/
set_option linter.unusedVariables false
set_option maxRecDepth 100000
namespace Go.Am
def z9t:ACode:=.pr [0,1,2,6,7,8,9,10,11] (.seq (dr [dF (mV 54 0) [0],
dF (mV 55 1) [1],
dF (mV 56 11) [11],
dF (iA 57 none 56 (cI 0)) [56],
dF (lD 58 none 57) [57],
dT (cL 59 z5Y [54,55,58]) [54,55,58],
dF (uO 60 (.field 3 none 59)) [59],
dF (mV 61 0) [0],
dF (mV 62 1) [1],
dF (mV 63 11) [11],
dA (iA 64 none 63 (cI 1)) [63] false [5] [],
dA (lD 65 none 64) [64] false [5] [],
dT (cL 66 z5Y [61,62,65]) [61,62,65],
dF (uO 67 (.field 3 none 66)) [66],
dF (mV 68 0) [0],
dF (mV 69 1) [1],
dF (mV 70 11) [11],
dA (iA 71 none 70 (cI 2)) [70] false [5,12] [],
dA (lD 72 none 71) [71] false [5,12] [],
dT (cL 73 z5Y [68,69,72]) [68,69,72],
dF (uO 74 (.field 1 none 73)) [73],
dF (mV 12 60) [60],
dF (mV 13 67) [67],
dF (mV 14 74) [74]] [2,6,7,8,9,10,12,13,14])
(.seq (rg [mV 75 12,
fA 76 3 none 7,
lD 77 none 76,
bN 78 .add 75 77,
mV 79 13,
bN 80 .add 78 79,
mV 15 80] [2,6,7,8,9,10,12,14,15])
(.seq (rg [mV 81 2,
mV 82 9,
cL 83 z2q [81,82],
mV 84 10,
mV 85 14,
cL 86 z2q [84,85],
mV 16 83,
mV 17 86] [6,7,8,12,14,15,16,17])
(.seq (rg [mV 87 16,
mV 88 15,
uO 89 (.lens 88),
bN 90 .sub 89 (cI 1),
cL 91 z1l [(cS [48]),90],
bN 92 .add 87 91,
bN 93 .add 92 (cS [49]),
mV 94 17,
bN 95 .add 93 94,
fA 96 0 none 8,
wO (.store none 96 95)] [6,7,8,12,14,15,16])
(.seq (rg [mV 97 16,
uO 98 (.lens 97),
cL 99 z1l [(cS [48]),98],
mV 100 15,
bN 101 .add 99 100,
fA 102 1 none 8,
wO (.store none 102 101)] [6,7,8,12,14,16])
(.seq (rg [mV 103 16,
uO 104 (.lens 103),
mV 105 12,
uO 106 (.lens 105),
bN 107 .add 104 106,
fA 108 3 none 8,
wO (.store none 108 107)] [6,7,8,14])
(.seq (dr [dF (fA 109 3 none 8) [8],
dF (lD 110 none 109) [109],
dT (cL 111 z1l [(cS [120]),110]) [110],
dA (lD 112 (some 6) 7) [7] false [2] [],
dT (cL 113 za5 [112]) [112],
dF (bN 114 .add 111 113) [111,113],
dF (fA 115 2 none 8) [8],
dT (wO (.store none 115 114)) [115,114]] [6,8,14])
(rg [mV 116 14,
fA 117 4 none 8,
wO (.store none 117 116)] [6,8]))))))))
def z2g (C:Hd) (gl:GL) (v0 v1 v2 v6 v7 v8 v9 v10 v11:AV) (h:Heap) (x:Esc) (K:KT):Prop:=
 pK (z03 none v11 (AI 0) h) fun t1=>
 pK (z0e none t1 h) fun t2=>
 z1Q C z5Y [v0,v1,t2] h fun t3 h4 y5=>
 pK (z9e 3 none t3) fun t6=>
 pK (z03 none v11 (AI 1) h4) fun t7=>
 (pK (z03 none v11 (AI 1) h) fun v=>(fun u (g1:Heap) (y1:Esc)=>u=t7∧g1=h∧y1=[]) v h [])∧(pK (z0e none t7 h4) fun t8=>
 (pK (z0e none t7 h) fun v=>(fun u (g1:Heap) (y1:Esc)=>u=t8∧g1=h∧y1=[]) v h [])∧(z1Q C z5Y [v0,v1,t8] h4 fun t9 h10 y11=>
 pK (z9e 3 none t9) fun t12=>
 pK (z03 none v11 (AI 2) h10) fun t13=>
 (pK (z03 none v11 (AI 2) h) fun v=>(fun u (g1:Heap) (y1:Esc)=>u=t13∧g1=h∧y1=[]) v h [])∧((pK (z03 none v11 (AI 2) h4) fun v=>(fun u (g1:Heap) (y1:Esc)=>u=t13∧g1=h4∧y1=[]) v h4 [])∧(pK (z0e none t13 h10) fun t14=>
 (pK (z0e none t13 h) fun v=>(fun u (g1:Heap) (y1:Esc)=>u=t14∧g1=h∧y1=[]) v h [])∧((pK (z0e none t13 h4) fun v=>(fun u (g1:Heap) (y1:Esc)=>u=t14∧g1=h4∧y1=[]) v h4 [])∧(z1Q C z5Y [v0,v1,t14] h10 fun t15 h16 y17=>
 pK (z9e 1 none t15) fun t18=>
 pK (z0d 3 none v7) fun t19=>
 pK (z0e none t19 h16) fun t20=>
 pK (oBin .add t6 t20) fun t21=>
 pK (oBin .add t21 t12) fun t22=>
 C z2q [v2,v9] h16 fun t23 h24 y25=>
 C z2q [v10,t18] h24 fun t26 h27 y28=>
 pK (z0C t22) fun t29=>
 pK (oBin .sub t29 (AI 1)) fun t30=>
 C z1l [(.p (.str [48])),t30] h27 fun t31 h32 y33=>
 pK (oBin .add t23 t31) fun t34=>
 pK (oBin .add t34 (.p (.str [49]))) fun t35=>
 pK (oBin .add t35 t26) fun t36=>
 pK (z0d 0 none v8) fun t37=>
 wK (z0m none t37 t36 h32) fun t38 h39 y40=>
 pK (z0C t23) fun t41=>
 C z1l [(.p (.str [48])),t41] h39 fun t42 h43 y44=>
 pK (oBin .add t42 t22) fun t45=>
 pK (z0d 1 none v8) fun t46=>
 wK (z0m none t46 t45 h43) fun t47 h48 y49=>
 pK (z0C t23) fun t50=>
 pK (z0C t6) fun t51=>
 pK (oBin .add t50 t51) fun t52=>
 pK (z0d 3 none v8) fun t53=>
 wK (z0m none t53 t52 h48) fun t54 h55 y56=>
 pK (z0d 3 none v8) fun t57=>
 pK (z0e none t57 h55) fun t58=>
 z1Q C z1l [(.p (.str [120])),t58] h55 fun t59 h60 y61=>
 pK (z0e (some 6) v7 h60) fun t62=>
 (pK (z0e (some 6) v7 h55) fun v=>(fun u (g1:Heap) (y1:Esc)=>u=t62∧g1=h55∧y1=[]) v h55 [])∧(z1Q C za5 [t62] h60 fun t63 h64 y65=>
 pK (oBin .add t59 t63) fun t66=>
 pK (z0d 2 none v8) fun t67=>
 wK (z0m none t67 t66 h64) fun t68 h69 y70=>
 pK (z0d 4 none v8) fun t71=>
 wK (z0m none t71 t18 h69) fun t72 h73 y74=>
 K .normal ⟨[(6,v6),(8,v8)],h73,(y74++(y70++(y65++(y61++(y56++(y49++(y44++(y40++(y33++(y28++(y25++(y17++(y11++(y5++x))))))))))))))⟩)))))))
theorem zo3 {C gl e h x K}:NW C gl z9t ⟨e,h,x⟩ K=z2g C gl (aget e 0) (aget e 1) (aget e 2) (aget e 6) (aget e 7) (aget e 8) (aget e 9) (aget e 10) (aget e 11) h x K:=by kernel_rfl
def zcI (q1:ACode):ACode:=.pr [0,1,2,6,7,8,46] (.cond 46 (.seq (rg [uO 49 (.bsl false none 3 (.int .i64 0) [(0,(cI 3)),(1,(cI 4)),(2,(cI 1))]),
mV 9 (cI 11),
mV 10 (cI 12),
mV 11 49] [0,1,2,6,7,8,9,10,11])
(.seq (.seq (rg [fA 50 0 none 7,
lD 51 none 50,
bN 52 .eql 51 (cI 8)] [0,1,2,6,7,8,9,10,11,52])
(.cond 52 (rg [uO 53 (.bsl false none 3 (.int .i64 0) [(0,(cI 5)),(1,(cI 6)),(2,(cI 2))]),
mV 9 (cI 4),
mV 10 (cI 5),
mV 11 53] [0,1,2,6,7,8,9,10,11])
.skip))
q1))
.skip)
def z6z:ACode:=zcI z9t
def z82 (C:Hd) (gl:GL) (q1:ACode) (v0 v1 v2 v6 v7 v8 v46:AV) (h:Heap) (x:Esc) (K:KT):Prop:=
 z0i v46 (wK (oBsl false none 3 (.int .i64 0) [(0,(AI 3)),(1,(AI 4)),(2,(AI 1))] h) fun t1 h2 y3=>
 pK (z0d 0 none v7) fun t4=>
 pK (z0e none t4 h2) fun t5=>
 pK (oBin .eql t5 (AI 8)) fun t6=>
 z0i t6 (wK (oBsl false none 3 (.int .i64 0) [(0,(AI 5)),(1,(AI 6)),(2,(AI 2))] h2) fun t7 h8 y9=>
 NW C gl q1 ⟨[(0,v0),(1,v1),(2,v2),(6,v6),(7,v7),(8,v8),(9,(AI 4)),(10,(AI 5)),(11,t7)],h8,(y9++(y3++x))⟩ K)
 (NW C gl q1 ⟨[(0,v0),(1,v1),(2,v2),(6,v6),(7,v7),(8,v8),(9,(AI 11)),(10,(AI 12)),(11,t1),(52,t6)],h2,(y3++x)⟩ K))
 (K .normal ⟨[(0,v0),(1,v1),(2,v2),(6,v6),(7,v7),(8,v8),(46,v46)],h,x⟩)
theorem zkR {C gl q1 e h x K}:NW C gl (zcI q1) ⟨e,h,x⟩ K=z82 C gl q1 (aget e 0) (aget e 1) (aget e 2) (aget e 6) (aget e 7) (aget e 8) (aget e 46) h x K:=by kernel_rfl
theorem zo4 {C gl e h x K}:NW C gl z6z ⟨e,h,x⟩ K=z82 C gl z9t (aget e 0) (aget e 1) (aget e 2) (aget e 6) (aget e 7) (aget e 8) (aget e 46) h x K:=zkR
def z60:ACode:=.pr [6,8] (.seq (dr [dF (fA 118 1 none 8) [8],
dF (lD 119 none 118) [118],
dF (fA 120 0 none 8) [8],
dF (lD 121 none 120) [120],
dF (uO 122 (.lens 121)) [121],
dF (fA 123 1 none 8) [8],
dF (lD 124 none 123) [123],
dF (uO 125 (.lens 124)) [124],
dF (bN 126 .sub 122 125) [122,125],
dA (cL 127 z1l [(cS [48]),126]) [126] true [] [1],
dF (bN 128 .add 119 127) [119,127],
dF (fA 129 1 none 8) [8],
dT (wO (.store none 129 128)) [129,128]] [6,8])
(.seq (dr [dF (fA 130 2 none 8) [8],
dF (lD 131 none 130) [130],
dF (fA 132 0 none 8) [8],
dF (lD 133 none 132) [132],
dF (uO 134 (.lens 133)) [133],
dF (fA 135 2 none 8) [8],
dF (lD 136 none 135) [135],
dF (uO 137 (.lens 136)) [136],
dF (bN 138 .sub 134 137) [134,137],
dA (cL 139 z1l [(cS [120]),138]) [138] true [] [1],
dF (bN 140 .add 131 139) [131,139],
dF (fA 141 2 none 8) [8],
dT (wO (.store none 141 140)) [141,140]] [6,8])
(.seq (rg [lD 142 (some 5) 8,
wO (.store (some 5) 6 142)] [6])
.ret)))
def z1N (C:Hd) (gl:GL) (v6 v8:AV) (h:Heap) (x:Esc) (K:KT):Prop:=
 pK (z0d 1 none v8) fun t1=>
 pK (z0e none t1 h) fun t2=>
 pK (z0d 0 none v8) fun t3=>
 pK (z0e none t3 h) fun t4=>
 pK (z0C t4) fun t5=>
 pK (z0d 1 none v8) fun t6=>
 pK (z0e none t6 h) fun t7=>
 pK (z0C t7) fun t8=>
 pK (oBin .sub t5 t8) fun t9=>
 z1Q C z1l [(.p (.str [48])),t9] h fun t10 h11 y12=>
 (pK (z0e none t1 h11) fun v=>(fun u (g1:Heap) (y1:Esc)=>u=t2∧g1=h11∧y1=[]) v h11 [])∧(pK (oBin .add t2 t10) fun t13=>
 pK (z0d 1 none v8) fun t14=>
 wK (z0m none t14 t13 h11) fun t15 h16 y17=>
 pK (z0d 2 none v8) fun t18=>
 pK (z0e none t18 h16) fun t19=>
 pK (z0d 0 none v8) fun t20=>
 pK (z0e none t20 h16) fun t21=>
 pK (z0C t21) fun t22=>
 pK (z0d 2 none v8) fun t23=>
 pK (z0e none t23 h16) fun t24=>
 pK (z0C t24) fun t25=>
 pK (oBin .sub t22 t25) fun t26=>
 z1Q C z1l [(.p (.str [120])),t26] h16 fun t27 h28 y29=>
 (pK (z0e none t18 h28) fun v=>(fun u (g1:Heap) (y1:Esc)=>u=t19∧g1=h28∧y1=[]) v h28 [])∧(pK (oBin .add t19 t27) fun t30=>
 pK (z0d 2 none v8) fun t31=>
 wK (z0m none t31 t30 h28) fun t32 h33 y34=>
 pK (z0e (some 5) v8 h33) fun t35=>
 wK (z0m (some 5) v6 t35 h33) fun t36 h37 y38=>
 K .ret ⟨[(6,v6)],h37,(y38++(y34++(y29++(y17++(y12++x)))))⟩))
theorem zo5 {C gl e h x K}:NW C gl z60 ⟨e,h,x⟩ K=z1N C gl (aget e 6) (aget e 8) h x K:=by kernel_rfl
def zwO (q2 q3:ACode):ACode:=(.seq (rg [uO 6 (.alloc [.p (.str []),.p (.str []),.p (.str []),.p (.int .i64 0),.p (.int .i64 0)])] [0,1,2,6])
(.seq (rg [mV 18 0,
mV 19 1,
iA 20 (some 6) 18 19,
lD 21 (some 6) 20,
uO 7 (.alloc [.p (.int .i64 0),.p (.int .i64 0),.p (.int .i64 0),.p (.str []),.p (.str []),.p (.str [])]),
wO (.store (some 6) 7 21)] [0,1,2,6,7])
(.seq (rg [mV 22 2,
uO 23 (.build [.p (.str []),.p (.str []),.p (.str []),.p (.int .i64 0),.p (.int .i64 0)] [(4,1,22)]),
uO 8 (.alloc [.p (.str []),.p (.str []),.p (.str []),.p (.int .i64 0),.p (.int .i64 0)]),
wO (.store (some 5) 8 23)] [0,1,2,6,7,8])
(.seq (.seq (rg [fA 24 0 none 7,
lD 25 none 24] [0,1,2,6,7,8,25])
(.block 0 (.seq (rg [bN 27 .eql 25 (cI 10),
mV 26 27] [0,1,2,6,7,8,25,26])
(.cond 26 (dr [dF (mV 28 2) [2],
dF (fA 29 1 none 7) [7],
dF (lD 30 none 29) [29],
dT (cL 31 z2q [28,30]) [28,30],
dF (fA 32 1 none 7) [7],
dA (lD 33 none 32) [32] false [3] [],
dF (fA 34 0 none 8) [8],
dA (wO (.store none 34 31)) [34,31] true [] [5],
dF (fA 35 4 none 8) [8],
dT (wO (.store none 35 33)) [35,33]] [6,8])
(.seq (rg [bN 37 .eql 25 (cI 9),
mV 36 37] [0,1,2,6,7,8,25,36])
(.cond 36 (dr [dF (mV 38 2) [2],
dT (cL 39 z2q [38,(cI 1)]) [38],
dF (fA 40 2 none 7) [7],
dA (lD 41 none 40) [40] false [1] [],
dT (cL 42 z1l [(cS [48]),41]) [41],
dF (bN 43 .add 39 42) [39,42],
dF (fA 44 0 none 8) [8],
dT (wO (.store none 44 43)) [44,43],
dF (fA 45 4 none 8) [8],
dT (wO (.store none 45 (cI 1))) [45]] [6,8])
(.seq (.seq (rg [bN 47 .eql 25 (cI 7),
mV 46 47] [0,1,2,6,7,8,25,46])
(.cond 46 .skip
(rg [bN 48 .eql 25 (cI 8),
mV 46 48] [0,1,2,6,7,8,46])))
q2)))))))
q3))))
def zlY:AFun:=⟨3,[.cell 6 (some 5)],zwO z6z z60,false,false⟩
def z7w (C:Hd) (gl:GL) (q2 q3:ACode) (v0 v1 v2:AV) (h:Heap) (x:Esc) (K:KT):Prop:=
 alK [.p (.str []),.p (.str []),.p (.str []),.p (.int .i64 0),.p (.int .i64 0)] h fun t1 h2 y3=>
 pK (z03 (some 6) v0 v1 h2) fun t4=>
 pK (z0e (some 6) t4 h2) fun t5=>
 alK [.p (.int .i64 0),.p (.int .i64 0),.p (.int .i64 0),.p (.str []),.p (.str []),.p (.str [])] h2 fun t6 h7 y8=>
 wK (z0m (some 6) t6 t5 h7) fun t9 h10 y11=>
 pK (z0y [.p (.str []),.p (.str []),.p (.str []),.p (.int .i64 0),.p (.int .i64 0)] [(4,1,v2)]) fun t12=>
 alK [.p (.str []),.p (.str []),.p (.str []),.p (.int .i64 0),.p (.int .i64 0)] h10 fun t13 h14 y15=>
 wK (z0m (some 5) t13 t12 h14) fun t16 h17 y18=>
 pK (z0d 0 none t6) fun t19=>
 pK (z0e none t19 h17) fun t20=>
 pK (oBin .eql t20 (AI 10)) fun t21=>
 z0i t21 (pK (z0d 1 none t6) fun t22=>
 pK (z0e none t22 h17) fun t23=>
 z1Q C z2q [v2,t23] h17 fun t24 h25 y26=>
 pK (z0d 1 none t6) fun t27=>
 pK (z0e none t27 h25) fun t28=>
 (pK (z0e none t27 h17) fun v=>(fun u (g1:Heap) (y1:Esc)=>u=t28∧g1=h17∧y1=[]) v h17 [])∧(pK (z0d 0 none t13) fun t29=>
 wK (z0m none t29 t24 h25) fun t30 h31 y32=>
 (pK (z0e none t27 h31) fun v=>(fun u (g1:Heap) (y1:Esc)=>u=t28∧g1=h31∧y1=[]) v h31 [])∧(pK (z0d 4 none t13) fun t33=>
 wK (z0m none t33 t28 h31) fun t34 h35 y36=>
 NW C gl q3 ⟨[(6,t1),(8,t13)],h35,(y36++(y32++(y26++(y18++(y15++(y11++(y8++(y3++x))))))))⟩ K)))
 (pK (oBin .eql t20 (AI 9)) fun t37=>
 z0i t37 (z1Q C z2q [v2,(AI 1)] h17 fun t38 h39 y40=>
 pK (z0d 2 none t6) fun t41=>
 pK (z0e none t41 h39) fun t42=>
 (pK (z0e none t41 h17) fun v=>(fun u (g1:Heap) (y1:Esc)=>u=t42∧g1=h17∧y1=[]) v h17 [])∧(z1Q C z1l [(.p (.str [48])),t42] h39 fun t43 h44 y45=>
 pK (oBin .add t38 t43) fun t46=>
 pK (z0d 0 none t13) fun t47=>
 wK (z0m none t47 t46 h44) fun t48 h49 y50=>
 pK (z0d 4 none t13) fun t51=>
 wK (z0m none t51 (AI 1) h49) fun t52 h53 y54=>
 NW C gl q3 ⟨[(6,t1),(8,t13)],h53,(y54++(y50++(y45++(y40++(y18++(y15++(y11++(y8++(y3++x)))))))))⟩ K))
 (pK (oBin .eql t20 (AI 7)) fun t55=>
 z0i t55 (NW C gl q2 ⟨[(0,v0),(1,v1),(2,v2),(6,t1),(7,t6),(8,t13),(25,t20),(46,t55)],h17,(y18++(y15++(y11++(y8++(y3++x)))))⟩ (z0t 0 (seqN C gl q3 K)))
 (pK (oBin .eql t20 (AI 8)) fun t56=>
 NW C gl q2 ⟨[(0,v0),(1,v1),(2,v2),(6,t1),(7,t6),(8,t13),(46,t56)],h17,(y18++(y15++(y11++(y8++(y3++x)))))⟩ (z0t 0 (seqN C gl q3 K)))))
theorem E_q03l {C gl q2 q3 v0 v1 v2 h x K}:NW C gl (zwO q2 q3) ⟨enter [v0,v1,v2],h,x⟩ K=z7w C gl q2 q3 v0 v1 v2 h x K:=by kernel_rfl
theorem e_q03l {C gl v0 v1 v2 h x K}:NW C gl zlY.body ⟨enter [v0,v1,v2],h,x⟩ K=z7w C gl z6z z60 v0 v1 v2 h x K:=E_q03l
def P_q055:ACode:=(.seq (rg [mV 4 (cS []),
mV 5 cF] [0,1])
(.seq (rg [mV 6 0,
mV 7 1,
cL 8 zau [6,7],
eX 9 8 0,
eX 10 8 1,
mV 4 9,
mV 5 10] [4,5])
.ret))
def zmh:AFun:=⟨2,[.t 4,.t 5],P_q055,false,false⟩
def znr (C:Hd) (gl:GL) (v0 v1:AV) (h:Heap) (x:Esc) (K:KT):Prop:=
 C zau [v0,v1] h fun t1 h2 y3=>
 pK (oExt t1 0) fun t4=>
 pK (oExt t1 1) fun t5=>
 K .ret ⟨[(4,t4),(5,t5)],h2,(y3++x)⟩
theorem e_q055 {C gl v0 v1 h x K}:NW C gl zmh.body ⟨enter [v0,v1],h,x⟩ K=znr C gl v0 v1 h x K:=by kernel_rfl
def z47:ACode:=.pr [0,1,2,3,9,10] (.seq (.seq (rg [mV 34 10,
mV 35 3,
bN 36 .lss 34 35] [0,1,2,3,9,10,36])
(.cond 36 .skip
(.exit 0)))
(.block 1 (.seq (rg [mV 37 0,
mV 38 1,
cL 39 zaG [37,38],
mV 11 39] [0,1,2,3,9,10,11])
(.seq (.seq (rg [mV 40 11,
bN 41 .lss 40 (cI 0)] [0,1,2,3,9,10,11,41])
(.cond 41 (.exit 0)
.skip))
(.seq (rg [mV 42 9,
mV 43 10,
mV 44 0,
mV 45 11,
mV 46 2,
bN 47 .add 45 46,
uO 48 (.slstr 44 none (some 47)),
iA 49 none 42 43,
wO (.store none 49 48)] [0,1,2,3,9,10,11])
(.seq (rg [mV 50 0,
mV 51 11,
mV 52 1,
uO 53 (.lens 52),
bN 54 .add 51 53,
uO 55 (.slstr 50 (some 54) none),
mV 0 55] [0,1,2,3,9,10])
(rg [mV 56 10,
bN 57 .add 56 (cI 1),
mV 10 57] [0,1,2,3,9,10])))))))
def zdW (C:Hd) (gl:GL) (v0 v1 v2 v3 v9 v10:AV) (h:Heap) (x:Esc) (K:KT):Prop:=
 pK (oBin .lss v10 v3) fun t1=>
 z0i t1 (C zaG [v0,v1] h fun t2 h3 y4=>
 pK (oBin .lss t2 (AI 0)) fun t5=>
 z0i t5 (K (.exit 0) ⟨[(0,v0),(1,v1),(2,v2),(3,v3),(9,v9),(10,v10),(11,t2),(41,t5)],h3,(y4++x)⟩)
 (pK (oBin .add t2 v2) fun t6=>
 pK (z2j v0 none (some t6)) fun t7=>
 pK (z03 none v9 v10 h3) fun t8=>
 wK (z0m none t8 t7 h3) fun t9 h10 y11=>
 pK (z0C v1) fun t12=>
 pK (oBin .add t2 t12) fun t13=>
 pK (z2j v0 (some t13) none) fun t14=>
 pK (oBin .add v10 (AI 1)) fun t15=>
 K .normal ⟨[(0,t14),(1,v1),(2,v2),(3,v3),(9,v9),(10,t15)],h10,(y11++(y4++x))⟩))
 (K (.exit 0) ⟨[(0,v0),(1,v1),(2,v2),(3,v3),(9,v9),(10,v10),(36,t1)],h,x⟩)
theorem zoI {C gl e h x K}:NW C gl z47 ⟨e,h,x⟩ K=zdW C gl (aget e 0) (aget e 1) (aget e 2) (aget e 3) (aget e 9) (aget e 10) h x K:=by kernel_rfl
theorem zqt {C gl e h x K}:NW C gl (.loop z47) ⟨e,h,x⟩ K=z1a C gl z47 K [(0,aget e 0),(1,aget e 1),(2,aget e 2),(3,aget e 3),(9,aget e 9),(10,aget e 10)] h x:=z0G
def z9w:ACode:=.pr [0,9,10] (.seq (rg [mV 58 9,
mV 59 10,
mV 60 0,
iA 61 none 58 59,
wO (.store none 61 60)] [9,10])
(.seq (rg [mV 62 9,
mV 63 10,
bN 64 .add 63 (cI 1),
uO 65 (.slice none 62 none (some 64) none),
mV 8 65] [8])
.ret))
def zdX (C:Hd) (gl:GL) (v0 v9 v10:AV) (h:Heap) (x:Esc) (K:KT):Prop:=
 pK (z03 none v9 v10 h) fun t1=>
 wK (z0m none t1 v0 h) fun t2 h3 y4=>
 pK (oBin .add v10 (AI 1)) fun t5=>
 pK (zaY none v9 none (some t5) none h3) fun t6=>
 K .ret ⟨[(8,t6)],h3,(y4++x)⟩
theorem zoJ {C gl e h x K}:NW C gl z9w ⟨e,h,x⟩ K=zdX C gl (aget e 0) (aget e 9) (aget e 10) h x K:=by kernel_rfl
def zcL (q1 q2:ACode):ACode:=.pr [0,1,2,3] (.seq (rg [mV 25 3,
mV 26 0,
uO 27 (.lens 26),
bN 28 .add 27 (cI 1),
uO 29 (.mn [25,28]),
mV 3 29] [0,1,2,3])
(.seq (rg [mV 30 3,
uO 31 (.mksl none (.str []) 30 30),
mV 9 31] [0,1,2,3,9])
(.seq (rg [mV 32 3,
bN 33 .sub 32 (cI 1),
mV 3 33] [0,1,2,3,9])
(.seq (rg [mV 10 (cI 0)] [0,1,2,3,9,10])
(.seq (.block 0 (.loop q1))
q2)))))
def z66:ACode:=zcL z47 z9w
def z5Q (C:Hd) (gl:GL) (q1 q2:ACode) (v0 v1 v2 v3:AV) (h:Heap) (x:Esc) (K:KT):Prop:=
 pK (z0C v0) fun t1=>
 pK (oBin .add t1 (AI 1)) fun t2=>
 pK (oMn [v3,t2]) fun t3=>
 wK (zvy none (.str []) t3 t3 h) fun t4 h5 y6=>
 pK (oBin .sub t3 (AI 1)) fun t7=>
 NW C gl (.loop q1) ⟨[(0,v0),(1,v1),(2,v2),(3,t7),(9,t4),(10,(AI 0))],h5,(y6++x)⟩ (z0t 0 (seqN C gl q2 K))
theorem zkU {C gl q1 q2 e h x K}:NW C gl (zcL q1 q2) ⟨e,h,x⟩ K=z5Q C gl q1 q2 (aget e 0) (aget e 1) (aget e 2) (aget e 3) h x K:=by kernel_rfl
theorem z8E {C gl e h x K}:NW C gl z66 ⟨e,h,x⟩ K=z5Q C gl z47 z9w (aget e 0) (aget e 1) (aget e 2) (aget e 3) h x K:=zkU
def zwU (q3:ACode):ACode:=(.seq (rg [mV 8 (.c (.p (.sl none [])))] [0,1,2,3])
(.seq (.seq (rg [mV 12 3,
bN 13 .eql 12 (cI 0)] [0,1,2,3,13])
(.cond 13 (.seq (rg [mV 8 (.c (.p (.sl none [])))] [8])
.ret)
.skip))
(.seq (.seq (rg [mV 14 1,
bN 15 .eql 14 (cS [])] [0,1,2,3,15])
(.cond 15 (.seq (rg [mV 16 0,
mV 17 3,
cL 18 zeJ [16,17],
mV 8 18] [8])
.ret)
.skip))
(.seq (.seq (rg [mV 19 3,
bN 20 .lss 19 (cI 0)] [0,1,2,3,20])
(.cond 20 (rg [mV 21 0,
mV 22 1,
cL 23 z8L [21,22],
bN 24 .add 23 (cI 1),
mV 3 24] [0,1,2,3])
.skip))
q3))))
def zmn:AFun:=⟨4,[.t 8],zwU z66,false,false⟩
def zhw (C:Hd) (gl:GL) (q3:ACode) (v0 v1 v2 v3:AV) (h:Heap) (x:Esc) (K:KT):Prop:=
 pK (oBin .eql v3 (AI 0)) fun t1=>
 z0i t1 (K .ret ⟨[(8,(.p (.sl none [])))],h,x⟩)
 (pK (oBin .eql v1 (.p (.str []))) fun t2=>
 z0i t2 (C zeJ [v0,v3] h fun t3 h4 y5=>
 K .ret ⟨[(8,t3)],h4,(y5++x)⟩)
 (pK (oBin .lss v3 (AI 0)) fun t6=>
 z0i t6 (C z8L [v0,v1] h fun t7 h8 y9=>
 pK (oBin .add t7 (AI 1)) fun t10=>
 NW C gl q3 ⟨[(0,v0),(1,v1),(2,v2),(3,t10)],h8,(y9++x)⟩ K)
 (NW C gl q3 ⟨[(0,v0),(1,v1),(2,v2),(3,v3),(20,t6)],h,x⟩ K)))
theorem E_q05h {C gl q3 v0 v1 v2 v3 h x K}:NW C gl (zwU q3) ⟨enter [v0,v1,v2,v3],h,x⟩ K=zhw C gl q3 v0 v1 v2 v3 h x K:=by kernel_rfl
theorem e_q05h {C gl v0 v1 v2 v3 h x K}:NW C gl zmn.body ⟨enter [v0,v1,v2,v3],h,x⟩ K=zhw C gl z66 v0 v1 v2 v3 h x K:=E_q05h
def P_q05e:ACode:=(.seq (rg [mV 4 (cS [])] [0,1])
(.seq (rg [mV 5 0,
mV 6 1,
cL 7 zay [5,6],
mV 4 7] [4])
.ret))
def zml:AFun:=⟨2,[.t 4],P_q05e,false,false⟩
def znv (C:Hd) (gl:GL) (v0 v1:AV) (h:Heap) (x:Esc) (K:KT):Prop:=
 C zay [v0,v1] h fun t1 h2 y3=>
 K .ret ⟨[(4,t1)],h2,(y3++x)⟩
theorem e_q05e {C gl v0 v1 h x K}:NW C gl zml.body ⟨enter [v0,v1],h,x⟩ K=znv C gl v0 v1 h x K:=by kernel_rfl
def P_q05q:ACode:=(.seq (rg [mV 2 cF] [0])
(.seq (rg [mV 3 0,
cL 4 z1i [3,(cI 0),(cI 15)],
uO 5 (.un .not 4),
mV 2 5] [2])
.ret))
def zgD:AFun:=⟨1,[.t 2],P_q05q,false,false⟩
def zny (C:Hd) (gl:GL) (v0:AV) (h:Heap) (x:Esc) (K:KT):Prop:=
 C z1i [v0,(AI 0),(AI 15)] h fun t1 h2 y3=>
 pK (oUn .not t1) fun t4=>
 K .ret ⟨[(2,t4)],h2,(y3++x)⟩
theorem e_q05q {C gl v0 h x K}:NW C gl zgD.body ⟨enter [v0],h,x⟩ K=zny C gl v0 h x K:=by kernel_rfl
def z9x:ACode:=.pr [1,5,6,7,25] (rg [bN 53 .add 25 (cI 1),
mV 25 53] [1,5,6,7,25])
def zdZ (C:Hd) (gl:GL) (v1 v5 v6 v7 v25:AV) (h:Heap) (x:Esc) (K:KT):Prop:=
 pK (oBin .add v25 (AI 1)) fun t1=>
 K .normal ⟨[(1,v1),(5,v5),(6,v6),(7,v7),(25,t1)],h,x⟩
theorem zoK {C gl e h x K}:NW C gl z9x ⟨e,h,x⟩ K=zdZ C gl (aget e 1) (aget e 5) (aget e 6) (aget e 7) (aget e 25) h x K:=by kernel_rfl
def zcM (q1:ACode):ACode:=.pr [1,5,6,7,25] (.seq (rg [bN 26 .lss 25 (cI 2)] [1,5,6,7,25,26])
(.seq (.cond 26 .skip
(.exit 2))
(.seq (.block 3 (.seq (rg [mV 27 25,
mV 8 27] [1,5,6,7,8,25])
(.seq (rg [mV 28 7,
mV 29 8,
cL 30 z5u [28,29],
mV 9 30] [1,5,6,7,8,9,25])
(.seq (rg [mV 32 5,
mV 33 9,
uO 34 (.look (none,[0]) true (.p (.str [])) 32 33),
mV 31 34,
eX 35 31 0,
eX 36 31 1,
mV 10 35,
mV 11 36] [1,5,6,7,8,9,11,25])
(.seq (rg [mV 37 11,
uO 38 (.un .not 37)] [1,5,6,7,8,9,25,38])
(.cond 38 (.seq (rg [mV 39 5,
mV 40 9,
mV 41 5,
mV 42 7,
uO 43 (.look (none,[0]) false (.p (.str [])) 41 42),
mV 44 8,
bN 45 .add (cI 48) 44,
uO 46 (.conv (.i .i32) 45),
uO 47 (.conv .r2s 46),
bN 48 .add 43 47,
wO (.mupd (none,[0]) 39 40 48)] [1,5,6,7,9,25])
(rg [mV 49 6,
mV 50 9,
uO 51 (.bsl false none 1 (.int .i64 0) [(0,50)]),
uO 52 (.mnext (some none) [49,51]),
mV 6 52] [1,5,6,7,25]))
.skip))))))
q1)))
def z48:ACode:=zcM z9x
def z86 (C:Hd) (gl:GL) (q1:ACode) (v1 v5 v6 v7 v25:AV) (h:Heap) (x:Esc) (K:KT):Prop:=
 pK (oBin .lss v25 (AI 2)) fun t1=>
 z0i t1 (C z5u [v7,v25] h fun t2 h3 y4=>
 pK (z7F (none,[0]) true (.p (.str [])) v5 t2 h3) fun t5=>
 pK (oExt t5 0) fun t6=>
 pK (oExt t5 1) fun t7=>
 pK (oUn .not t7) fun t8=>
 z0i t8 (pK (z7F (none,[0]) false (.p (.str [])) v5 v7 h3) fun t9=>
 pK (oBin .add (AI 48) v25) fun t10=>
 pK (z18 .i32 t10) fun t11=>
 wK (zcb .r2s t11 h3) fun t12 h13 y14=>
 pK (oBin .add t9 t12) fun t15=>
 wK (zcf (none,[0]) v5 t2 t15 h13) fun t16 h17 y18=>
 wK (oBsl false none 1 (.int .i64 0) [(0,t2)] h17) fun t19 h20 y21=>
 nqK (some none) [v6,t19] h20 fun t22 h23 y24=>
 NW C gl q1 ⟨[(1,v1),(5,v5),(6,t22),(7,v7),(25,v25)],h23,(y24++(y21++(y18++(y14++(y4++x)))))⟩ K)
 (NW C gl q1 ⟨[(1,v1),(5,v5),(6,v6),(7,v7),(8,v25),(9,t2),(25,v25),(38,t8)],h3,(y4++x)⟩ K))
 (K (.exit 2) ⟨[(1,v1),(5,v5),(6,v6),(7,v7),(25,v25),(26,t1)],h,x⟩)
theorem zkV {C gl q1 e h x K}:NW C gl (zcM q1) ⟨e,h,x⟩ K=z86 C gl q1 (aget e 1) (aget e 5) (aget e 6) (aget e 7) (aget e 25) h x K:=by kernel_rfl
theorem zoL {C gl e h x K}:NW C gl z48 ⟨e,h,x⟩ K=z86 C gl z9x (aget e 1) (aget e 5) (aget e 6) (aget e 7) (aget e 25) h x K:=zkV
theorem zqu {C gl e h x K}:NW C gl (.loop z48) ⟨e,h,x⟩ K=z1a C gl z48 K [(1,aget e 1),(5,aget e 5),(6,aget e 6),(7,aget e 7),(25,aget e 25)] h x:=z0G
def zcN (q2:ACode):ACode:=.pr [1,5,6] (.seq (.seq (rg [mV 17 6,
lN 18 17,
bN 19 .gtr 18 (cI 0)] [1,5,6,19])
(.cond 19 .skip
(.exit 0)))
(.block 1 (.seq (rg [mV 20 6,
iA 21 none 20 (cI 0),
lD 22 none 21,
mV 7 22] [1,5,6,7])
(.seq (rg [mV 23 6,
uO 24 (.slice none 23 (some (cI 1)) none none),
mV 6 24] [1,5,6,7])
(.seq (rg [mV 25 (cI 0)] [1,5,6,7,25])
(.block 2 (.loop q2)))))))
def z3A:ACode:=zcN z48
def z87 (C:Hd) (gl:GL) (q2:ACode) (v1 v5 v6:AV) (h:Heap) (x:Esc) (K:KT):Prop:=
 pK (oLen v6) fun t1=>
 pK (oBin .gtr t1 (AI 0)) fun t2=>
 z0i t2 (pK (z03 none v6 (AI 0) h) fun t3=>
 pK (z0e none t3 h) fun t4=>
 pK (zaY none v6 (some (AI 1)) none none h) fun t5=>
 NW C gl (.loop q2) ⟨[(1,v1),(5,v5),(6,t5),(7,t4),(25,(AI 0))],h,x⟩ (z0t 2 (z0t 1 K)))
 (K (.exit 0) ⟨[(1,v1),(5,v5),(6,v6),(19,t2)],h,x⟩)
theorem zkW {C gl q2 e h x K}:NW C gl (zcN q2) ⟨e,h,x⟩ K=z87 C gl q2 (aget e 1) (aget e 5) (aget e 6) h x K:=by kernel_rfl
theorem zoM {C gl e h x K}:NW C gl z3A ⟨e,h,x⟩ K=z87 C gl z48 (aget e 1) (aget e 5) (aget e 6) h x K:=zkW
theorem zqv {C gl e h x K}:NW C gl (.loop z3A) ⟨e,h,x⟩ K=z1a C gl z3A K [(1,aget e 1),(5,aget e 5),(6,aget e 6)] h x:=z0G
def z67:ACode:=.pr [1,5] (.seq (rg [mV 54 5,
mV 55 1,
uO 56 (.look (none,[0]) false (.p (.str [])) 54 55),
mV 4 56] [4])
.ret)
def zea (C:Hd) (gl:GL) (v1 v5:AV) (h:Heap) (x:Esc) (K:KT):Prop:=
 pK (z7F (none,[0]) false (.p (.str [])) v5 v1 h) fun t1=>
 K .ret ⟨[(4,t1)],h,x⟩
theorem zoN {C gl e h x K}:NW C gl z67 ⟨e,h,x⟩ K=zea C gl (aget e 1) (aget e 5) h x K:=by kernel_rfl
def zwV (q3 q4:ACode):ACode:=(.det (.seq (rg [mV 4 (cS [])] [0,1])
(.seq (rg [uO 12 (.mkmap),
mV 13 0,
wO (.mupd (none,[0]) 12 13 (cS [])),
mV 14 12,
mV 5 14] [0,1,5])
(.seq (rg [mV 15 0,
uO 16 (.bsl true none 1 (.int .i64 0) [(0,15)]),
mV 6 16] [1,5,6])
(.seq (.block 0 (.loop q3))
q4)))))
def zac:AFun:=⟨2,[.t 4],zwV z3A z67,false,false⟩
def zdY (C:Hd) (gl:GL) (q3 q4:ACode) (v0 v1:AV) (h:Heap) (x:Esc) (K:KT):Prop:=
 mmK h fun t1 h2 y3=>
 wK (zcf (none,[0]) t1 v0 (.p (.str [])) h2) fun t4 h5 y6=>
 wK (oBsl true none 1 (.int .i64 0) [(0,v0)] h5) fun t7 h8 y9=>
 NW C gl (.loop q3) ⟨[(1,v1),(5,t1),(6,t7)],h8,(y9++(y6++(y3++x)))⟩ (z0t 0 (seqN C gl q4 K))
theorem E_q05s {C gl q3 q4 v0 v1 h x K}:NW C gl (zwV q3 q4) ⟨enter [v0,v1],h,x⟩ K=zdY C gl q3 q4 v0 v1 h x K:=by kernel_rfl
theorem zxw {C gl v0 v1 h x K}:NW C gl zac.body ⟨enter [v0,v1],h,x⟩ K=zdY C gl z3A z67 v0 v1 h x K:=E_q05s
def z3t:ACode:=.pr [0,4,5] (.seq (.seq (rg [mV 9 5,
mV 10 0,
uO 11 (.lens 10),
bN 12 .lss 9 11] [0,4,5,12])
(.cond 12 .skip
(.exit 0)))
(.seq (.block 1 (rg [mV 15 4,
bN 16 .mul 15 (.c (.p (.int .u32 16777619))),
mV 17 0,
mV 18 5,
uO 19 (.idxs 17 18),
uO 20 (.conv (.i .u32) 19),
bN 21 .add 16 20,
mV 4 21] [0,4,5]))
(rg [mV 13 5,
bN 14 .add 13 (cI 1),
mV 5 14] [0,4,5])))
def zdp (C:Hd) (gl:GL) (v0 v4 v5:AV) (h:Heap) (x:Esc) (K:KT):Prop:=
 pK (z0C v0) fun t1=>
 pK (oBin .lss v5 t1) fun t2=>
 z0i t2 (pK (oBin .mul v4 (.p (.int .u32 16777619))) fun t3=>
 pK (z1L v0 v5) fun t4=>
 pK (z18 .u32 t4) fun t5=>
 pK (oBin .add t3 t5) fun t6=>
 pK (oBin .add v5 (AI 1)) fun t7=>
 K .normal ⟨[(0,v0),(4,t6),(5,t7)],h,x⟩)
 (K (.exit 0) ⟨[(0,v0),(4,v4),(5,v5),(12,t2)],h,x⟩)
theorem znL {C gl e h x K}:NW C gl z3t ⟨e,h,x⟩ K=zdp C gl (aget e 0) (aget e 4) (aget e 5) h x K:=by kernel_rfl
theorem zpZ {C gl e h x K}:NW C gl (.loop z3t) ⟨e,h,x⟩ K=z1a C gl z3t K [(0,aget e 0),(4,aget e 4),(5,aget e 5)] h x:=z0G
def z9h:ACode:=.pr [4,6,7,8] (rg [mV 34 7,
mV 35 7,
bN 36 .mul 34 35,
mV 7 36] [4,6,7,8])
def zdq (C:Hd) (gl:GL) (v4 v6 v7 v8:AV) (h:Heap) (x:Esc) (K:KT):Prop:=
 pK (oBin .mul v7 v7) fun t1=>
 K .normal ⟨[(4,v4),(6,v6),(7,t1),(8,v8)],h,x⟩
theorem znM {C gl e h x K}:NW C gl z9h ⟨e,h,x⟩ K=zdq C gl (aget e 4) (aget e 6) (aget e 7) (aget e 8) h x K:=by kernel_rfl
def z9i:ACode:=.pr [4,6,7,8] (rg [mV 26 8,
bN 27 .shr 26 (.c (.p (.int .u64 1))),
mV 8 27] [4,6,7,8])
def zdr (C:Hd) (gl:GL) (v4 v6 v7 v8:AV) (h:Heap) (x:Esc) (K:KT):Prop:=
 pK (oBin .shr v8 (.p (.int .u64 1))) fun t1=>
 K .normal ⟨[(4,v4),(6,v6),(7,v7),(8,t1)],h,x⟩
theorem znN {C gl e h x K}:NW C gl z9i ⟨e,h,x⟩ K=zdr C gl (aget e 4) (aget e 6) (aget e 7) (aget e 8) h x K:=by kernel_rfl
def zc7 (q2 q3:ACode):ACode:=.pr [4,6,7,8] (.seq (.seq (rg [mV 24 8,
bN 25 .gtr 24 (cI 0)] [4,6,7,8,25])
(.cond 25 .skip
(.exit 2)))
(.seq (.block 3 (.seq (.seq (rg [mV 28 8,
bN 29 .and 28 (cI 1),
bN 30 .neq 29 (cI 0)] [4,6,7,8,30])
(.cond 30 (rg [mV 31 6,
mV 32 7,
bN 33 .mul 31 32,
mV 6 33] [4,6,7,8])
.skip))
q2))
q3))
def z41:ACode:=zc7 z9h z9i
def z8t (C:Hd) (gl:GL) (q2 q3:ACode) (v4 v6 v7 v8:AV) (h:Heap) (x:Esc) (K:KT):Prop:=
 pK (oBin .gtr v8 (AI 0)) fun t1=>
 z0i t1 (pK (oBin .and v8 (AI 1)) fun t2=>
 pK (oBin .neq t2 (AI 0)) fun t3=>
 z0i t3 (pK (oBin .mul v6 v7) fun t4=>
 NW C gl q2 ⟨[(4,v4),(6,t4),(7,v7),(8,v8)],h,x⟩ (z0t 3 (seqN C gl q3 K)))
 (NW C gl q2 ⟨[(4,v4),(6,v6),(7,v7),(8,v8),(30,t3)],h,x⟩ (z0t 3 (seqN C gl q3 K))))
 (K (.exit 2) ⟨[(4,v4),(6,v6),(7,v7),(8,v8),(25,t1)],h,x⟩)
theorem zkG {C gl q2 q3 e h x K}:NW C gl (zc7 q2 q3) ⟨e,h,x⟩ K=z8t C gl q2 q3 (aget e 4) (aget e 6) (aget e 7) (aget e 8) h x K:=by kernel_rfl
theorem znO {C gl e h x K}:NW C gl z41 ⟨e,h,x⟩ K=z8t C gl z9h z9i (aget e 4) (aget e 6) (aget e 7) (aget e 8) h x K:=zkG
theorem zqa {C gl e h x K}:NW C gl (.loop z41) ⟨e,h,x⟩ K=z1a C gl z41 K [(4,aget e 4),(6,aget e 6),(7,aget e 7),(8,aget e 8)] h x:=z0G
def z9j:ACode:=.pr [4,6] (.seq (rg [mV 37 4,
mV 38 6,
mV 2 37,
mV 3 38] [2,3])
.ret)
def zds (C:Hd) (gl:GL) (v4 v6:AV) (h:Heap) (x:Esc) (K:KT):Prop:=
 K .ret ⟨[(2,v4),(3,v6)],h,x⟩
theorem znP {C gl e h x K}:NW C gl z9j ⟨e,h,x⟩ K=zds C gl (aget e 4) (aget e 6) h x K:=by kernel_rfl
def zc8 (q4 q5:ACode):ACode:=.pr [0,4] (.seq (rg [mV 6 (.c (.p (.int .u32 1))),
mV 7 (.c (.p (.int .u32 16777619)))] [0,4,6,7])
(.seq (.seq (rg [mV 22 0,
uO 23 (.lens 22),
mV 8 23] [4,6,7,8])
(.block 2 (.loop q4)))
q5))
def z6j:ACode:=zc8 z41 z9j
def z8u (C:Hd) (gl:GL) (q4 q5:ACode) (v0 v4:AV) (h:Heap) (x:Esc) (K:KT):Prop:=
 pK (z0C v0) fun t1=>
 NW C gl (.loop q4) ⟨[(4,v4),(6,(.p (.int .u32 1))),(7,(.p (.int .u32 16777619))),(8,t1)],h,x⟩ (z0t 2 (seqN C gl q5 K))
theorem zkH {C gl q4 q5 e h x K}:NW C gl (zc8 q4 q5) ⟨e,h,x⟩ K=z8u C gl q4 q5 (aget e 0) (aget e 4) h x K:=by kernel_rfl
theorem znQ {C gl e h x K}:NW C gl z6j ⟨e,h,x⟩ K=z8u C gl z41 z9j (aget e 0) (aget e 4) h x K:=zkH
def zw9 (q1 q6:ACode):ACode:=(.seq (rg [mV 2 (.c (.p (.int .u32 0))),
mV 3 (.c (.p (.int .u32 0)))] [0])
(.seq (rg [mV 4 (.c (.p (.int .u32 0)))] [0,4])
(.seq (.seq (rg [mV 5 (cI 0)] [0,4,5])
(.block 0 (.loop q1)))
q6)))
def zl5:AFun:=⟨1,[.t 2,.t 3],zw9 z3t z6j,false,false⟩
def znd (C:Hd) (gl:GL) (q1 q6:ACode) (v0:AV) (h:Heap) (x:Esc) (K:KT):Prop:=
 NW C gl (.loop q1) ⟨[(0,v0),(4,(.p (.int .u32 0))),(5,(AI 0))],h,x⟩ (z0t 0 (seqN C gl q6 K))
theorem E_q01b {C gl q1 q6 v0 h x K}:NW C gl (zw9 q1 q6) ⟨enter [v0],h,x⟩ K=znd C gl q1 q6 v0 h x K:=by kernel_rfl
theorem e_q01b {C gl v0 h x K}:NW C gl zl5.body ⟨enter [v0],h,x⟩ K=znd C gl z3t z6j v0 h x K:=E_q01b
def P_q058:ACode:=(.seq (rg [mV 4 (cI 0)] [0,1])
(.seq (rg [mV 5 0,
mV 6 1,
cL 7 z4q [5,6],
mV 4 7] [4])
.ret))
def zmj:AFun:=⟨2,[.t 4],P_q058,false,false⟩
def znt (C:Hd) (gl:GL) (v0 v1:AV) (h:Heap) (x:Esc) (K:KT):Prop:=
 C z4q [v0,v1] h fun t1 h2 y3=>
 K .ret ⟨[(4,t1)],h2,(y3++x)⟩
theorem e_q058 {C gl v0 v1 h x K}:NW C gl zmj.body ⟨enter [v0,v1],h,x⟩ K=znt C gl v0 v1 h x K:=by kernel_rfl
def z9n:ACode:=.pr [0,1,6,8,9,12,13,14] (.seq (.seq (rg [mV 31 9,
mV 32 1,
bN 33 .eql 31 32] [0,1,6,8,12,13,14,33])
(.cond 33 (.seq (rg [mV 34 8,
mV 4 34] [4])
.ret)
.skip))
(rg [mV 35 6,
mV 36 8,
bN 37 .add 36 (cS [48]),
mV 38 8,
bN 39 .add 38 (cS [49]),
uO 40 (.bsl false none 2 (.str []) [(0,37),(1,39)]),
uO 41 (.app none 35 40),
mV 6 41] [0,1,6,12,13,14]))
def zd7 (C:Hd) (gl:GL) (v0 v1 v6 v8 v9 v12 v13 v14:AV) (h:Heap) (x:Esc) (K:KT):Prop:=
 pK (oBin .eql v9 v1) fun t1=>
 z0i t1 (K .ret ⟨[(4,v8)],h,x⟩)
 (pK (oBin .add v8 (.p (.str [48]))) fun t2=>
 pK (oBin .add v8 (.p (.str [49]))) fun t3=>
 wK (oBsl false none 2 (.str []) [(0,t2),(1,t3)] h) fun t4 h5 y6=>
 wK (oApp none v6 t4 h5) fun t7 h8 y9=>
 K .normal ⟨[(0,v0),(1,v1),(6,t7),(12,v12),(13,v13),(14,v14)],h8,(y9++(y6++x))⟩)
theorem zoj {C gl e h x K}:NW C gl z9n ⟨e,h,x⟩ K=zd7 C gl (aget e 0) (aget e 1) (aget e 6) (aget e 8) (aget e 9) (aget e 12) (aget e 13) (aget e 14) h x K:=by kernel_rfl
def z9o:ACode:=.pr [0,1,6,12,13,14] (rg [bN 42 .add 14 (cI 1),
mV 14 42] [0,1,6,12,13,14])
def zd8 (C:Hd) (gl:GL) (v0 v1 v6 v12 v13 v14:AV) (h:Heap) (x:Esc) (K:KT):Prop:=
 pK (oBin .add v14 (AI 1)) fun t1=>
 K .normal ⟨[(0,v0),(1,v1),(6,v6),(12,v12),(13,v13),(14,t1)],h,x⟩
theorem zok {C gl e h x K}:NW C gl z9o ⟨e,h,x⟩ K=zd8 C gl (aget e 0) (aget e 1) (aget e 6) (aget e 12) (aget e 13) (aget e 14) h x K:=by kernel_rfl
def zcD (q1 q2:ACode):ACode:=.pr [0,1,6,12,13,14] (.seq (rg [bN 15 .lss 14 13] [0,1,6,12,13,14,15])
(.seq (.cond 15 .skip
(.exit 2))
(.seq (.block 3 (.seq (rg [iA 16 none 12 14,
lD 17 none 16,
mV 8 17] [0,1,6,8,12,13,14])
(.seq (rg [mV 18 0,
mV 9 18] [0,1,6,8,9,12,13,14])
(.seq (.seq (rg [mV 19 0,
mV 20 8,
cL 21 za2 [19,20],
mV 10 21] [0,1,6,8,9,10,12,13,14])
(.seq (rg [mV 22 10,
lN 23 22,
bN 24 .gtr 23 (cI 0)] [0,1,6,8,9,10,12,13,14,24])
(.cond 24 (rg [mV 25 10,
mV 26 10,
lN 27 26,
bN 28 .sub 27 (cI 1),
iA 29 none 25 28,
lD 30 none 29,
mV 9 30] [0,1,6,8,9,12,13,14])
.skip)))
q1))))
q2)))
def z44:ACode:=zcD z9n z9o
def z8y (C:Hd) (gl:GL) (q1 q2:ACode) (v0 v1 v6 v12 v13 v14:AV) (h:Heap) (x:Esc) (K:KT):Prop:=
 pK (oBin .lss v14 v13) fun t1=>
 z0i t1 (pK (z03 none v12 v14 h) fun t2=>
 pK (z0e none t2 h) fun t3=>
 C za2 [v0,t3] h fun t4 h5 y6=>
 pK (oLen t4) fun t7=>
 pK (oBin .gtr t7 (AI 0)) fun t8=>
 z0i t8 (pK (oLen t4) fun t9=>
 pK (oBin .sub t9 (AI 1)) fun t10=>
 pK (z03 none t4 t10 h5) fun t11=>
 pK (z0e none t11 h5) fun t12=>
 NW C gl q1 ⟨[(0,v0),(1,v1),(6,v6),(8,t3),(9,t12),(12,v12),(13,v13),(14,v14)],h5,(y6++x)⟩ (z0t 3 (seqN C gl q2 K)))
 (NW C gl q1 ⟨[(0,v0),(1,v1),(6,v6),(8,t3),(9,v0),(10,t4),(12,v12),(13,v13),(14,v14),(24,t8)],h5,(y6++x)⟩ (z0t 3 (seqN C gl q2 K))))
 (K (.exit 2) ⟨[(0,v0),(1,v1),(6,v6),(12,v12),(13,v13),(14,v14),(15,t1)],h,x⟩)
theorem zkM {C gl q1 q2 e h x K}:NW C gl (zcD q1 q2) ⟨e,h,x⟩ K=z8y C gl q1 q2 (aget e 0) (aget e 1) (aget e 6) (aget e 12) (aget e 13) (aget e 14) h x K:=by kernel_rfl
theorem zol {C gl e h x K}:NW C gl z44 ⟨e,h,x⟩ K=z8y C gl z9n z9o (aget e 0) (aget e 1) (aget e 6) (aget e 12) (aget e 13) (aget e 14) h x K:=zkM
theorem zqh {C gl e h x K}:NW C gl (.loop (.scope z44)) ⟨e,h,x⟩ K=z1a C gl (.scope z44) K [(0,aget e 0),(1,aget e 1),(6,aget e 6),(12,aget e 12),(13,aget e 13),(14,aget e 14)] h x:=z2a
def z9p:ACode:=.pr [0,1,6] (rg [mV 43 6,
mV 5 43] [0,1,5])
def zd9 (C:Hd) (gl:GL) (v0 v1 v6:AV) (h:Heap) (x:Esc) (K:KT):Prop:=
 K .normal ⟨[(0,v0),(1,v1),(5,v6)],h,x⟩
theorem zom {C gl e h x K}:NW C gl z9p ⟨e,h,x⟩ K=zd9 C gl (aget e 0) (aget e 1) (aget e 6) h x K:=by kernel_rfl
def zcE (q3 q4:ACode):ACode:=.pr [0,1,5] (.block 1 (.seq (rg [uO 6 (.new0 none)] [0,1,5,6])
(.seq (.seq (rg [mV 12 5,
lN 13 12,
mV 14 (cI 0)] [0,1,6,12,13,14])
(.block 2 (.loop (.scope q3))))
q4)))
def z3z:ACode:=zcE z44 z9p
def z8z (C:Hd) (gl:GL) (q3 q4:ACode) (v0 v1 v5:AV) (h:Heap) (x:Esc) (K:KT):Prop:=
 nwK none h fun t1 h2 y3=>
 pK (oLen v5) fun t4=>
 NW C gl (.loop (.scope q3)) ⟨[(0,v0),(1,v1),(6,t1),(12,v5),(13,t4),(14,(AI 0))],h2,(y3++x)⟩ (z0t 2 (seqN C gl q4 (z0t 1 K)))
theorem zkN {C gl q3 q4 e h x K}:NW C gl (zcE q3 q4) ⟨e,h,x⟩ K=z8z C gl q3 q4 (aget e 0) (aget e 1) (aget e 5) h x K:=by kernel_rfl
theorem zon {C gl e h x K}:NW C gl z3z ⟨e,h,x⟩ K=z8z C gl z44 z9p (aget e 0) (aget e 1) (aget e 5) h x K:=zkN
theorem zqi {C gl e h x K}:NW C gl (.loop z3z) ⟨e,h,x⟩ K=z1a C gl z3z K [(0,aget e 0),(1,aget e 1),(5,aget e 5)] h x:=z0G
def zwH (q5:ACode):ACode:=(.seq (rg [mV 4 (cS [])] [0,1])
(.seq (rg [uO 11 (.bsl false none 1 (.str []) [(0,(cS []))]),
mV 5 11] [0,1,5])
(.block 0 (.loop q5))))
def zlO:AFun:=⟨2,[.t 4],zwH z3z,false,false⟩
def zhm (C:Hd) (gl:GL) (q5:ACode) (v0 v1:AV) (h:Heap) (x:Esc) (K:KT):Prop:=
 wK (oBsl false none 1 (.str []) [(0,(.p (.str [])))] h) fun t1 h2 y3=>
 NW C gl (.loop q5) ⟨[(0,v0),(1,v1),(5,t1)],h2,(y3++x)⟩ (z0t 0 K)
theorem E_q02y {C gl q5 v0 v1 h x K}:NW C gl (zwH q5) ⟨enter [v0,v1],h,x⟩ K=zhm C gl q5 v0 v1 h x K:=by kernel_rfl
theorem e_q02y {C gl v0 v1 h x K}:NW C gl zlO.body ⟨enter [v0,v1],h,x⟩ K=zhm C gl z3z v0 v1 h x K:=E_q02y
def z9s:ACode:=.pr [1,3,12,13] (rg [bN 28 .add 13 (cI 1),
mV 13 28] [1,3,12,13])
def zdH (C:Hd) (gl:GL) (v1 v3 v12 v13:AV) (h:Heap) (x:Esc) (K:KT):Prop:=
 pK (oBin .add v13 (AI 1)) fun t1=>
 K .normal ⟨[(1,v1),(3,v3),(12,v12),(13,t1)],h,x⟩
theorem zoy {C gl e h x K}:NW C gl z9s ⟨e,h,x⟩ K=zdH C gl (aget e 1) (aget e 3) (aget e 12) (aget e 13) h x K:=by kernel_rfl
def zcH (q1:ACode):ACode:=.pr [1,3,12,13] (.seq (rg [bN 14 .lss 13 12] [1,3,12,13,14])
(.seq (.cond 14 .skip
(.exit 0))
(.seq (.block 1 (.seq (rg [mV 15 13,
mV 4 15] [1,3,4,12,13])
(.seq (rg [fA 16 5 none 1,
lD 17 none 16,
mV 18 4,
uO 19 (.idxs 17 18),
bN 20 .eql 19 (.c (.p (.int .u8 49)))] [1,3,4,12,13,20])
(.cond 20 (rg [mV 21 3,
mV 22 4,
fA 23 4 none 1,
lD 24 none 23,
mV 25 4,
uO 26 (.idxs 24 25),
iA 27 none 21 22,
wO (.store none 27 26)] [1,3,12,13])
.skip))))
q1)))
def z33:ACode:=zcH z9s
def z81 (C:Hd) (gl:GL) (q1:ACode) (v1 v3 v12 v13:AV) (h:Heap) (x:Esc) (K:KT):Prop:=
 pK (oBin .lss v13 v12) fun t1=>
 z0i t1 (pK (z0d 5 none v1) fun t2=>
 pK (z0e none t2 h) fun t3=>
 pK (z1L t3 v13) fun t4=>
 pK (oBin .eql t4 (.p (.int .u8 49))) fun t5=>
 z0i t5 (pK (z0d 4 none v1) fun t6=>
 pK (z0e none t6 h) fun t7=>
 pK (z1L t7 v13) fun t8=>
 pK (z03 none v3 v13 h) fun t9=>
 wK (z0m none t9 t8 h) fun t10 h11 y12=>
 NW C gl q1 ⟨[(1,v1),(3,v3),(12,v12),(13,v13)],h11,(y12++x)⟩ K)
 (NW C gl q1 ⟨[(1,v1),(3,v3),(4,v13),(12,v12),(13,v13),(20,t5)],h,x⟩ K))
 (K (.exit 0) ⟨[(1,v1),(3,v3),(12,v12),(13,v13),(14,t1)],h,x⟩)
theorem zkQ {C gl q1 e h x K}:NW C gl (zcH q1) ⟨e,h,x⟩ K=z81 C gl q1 (aget e 1) (aget e 3) (aget e 12) (aget e 13) h x K:=by kernel_rfl
theorem zoz {C gl e h x K}:NW C gl z33 ⟨e,h,x⟩ K=z81 C gl z9s (aget e 1) (aget e 3) (aget e 12) (aget e 13) h x K:=zkQ
theorem zqm {C gl e h x K}:NW C gl (.loop z33) ⟨e,h,x⟩ K=z1a C gl z33 K [(1,aget e 1),(3,aget e 3),(12,aget e 12),(13,aget e 13)] h x:=z0G
def z6x:ACode:=.pr [3] (.seq (rg [mV 29 3,
uO 30 (.conv .b2s 29),
mV 2 30] [2])
.ret)
def zdI (C:Hd) (gl:GL) (v3:AV) (h:Heap) (x:Esc) (K:KT):Prop:=
 wK (zcb .b2s v3 h) fun t1 h2 y3=>
 K .ret ⟨[(2,t1)],h2,(y3++x)⟩
theorem zo0 {C gl e h x K}:NW C gl z6x ⟨e,h,x⟩ K=zdI C gl (aget e 3) h x K:=by kernel_rfl
def zwM (q2 q3:ACode):ACode:=(.seq (rg [uO 1 (.box 0),
mV 2 (cS [])] [1])
(.seq (rg [fA 5 3 none 1,
lD 6 none 5,
uO 7 (.lens 6),
cL 8 z1l [(cS [120]),7],
uO 9 (.conv .s2b 8),
mV 3 9] [1,3])
(.seq (.seq (rg [fA 10 5 none 1,
lD 11 none 10,
uO 12 (.lens 11),
mV 13 (cI 0)] [1,3,12,13])
(.block 0 (.loop q2)))
q3)))
def zlV:AFun:=⟨1,[.t 2],zwM z33 z6x,false,false⟩
def zhp (C:Hd) (gl:GL) (q2 q3:ACode) (v0:AV) (h:Heap) (x:Esc) (K:KT):Prop:=
 wK (oBox v0 h) fun t1 h2 y3=>
 pK (z0d 3 none t1) fun t4=>
 pK (z0e none t4 h2) fun t5=>
 pK (z0C t5) fun t6=>
 C z1l [(.p (.str [120])),t6] h2 fun t7 h8 y9=>
 wK (zcb .s2b t7 h8) fun t10 h11 y12=>
 pK (z0d 5 none t1) fun t13=>
 pK (z0e none t13 h11) fun t14=>
 pK (z0C t14) fun t15=>
 NW C gl (.loop q2) ⟨[(1,t1),(3,t10),(12,t15),(13,(AI 0))],h11,(y12++(y9++(y3++x)))⟩ (z0t 0 (seqN C gl q3 K))
theorem E_q03h {C gl q2 q3 v0 h x K}:NW C gl (zwM q2 q3) ⟨enter [v0],h,x⟩ K=zhp C gl q2 q3 v0 h x K:=by kernel_rfl
theorem e_q03h {C gl v0 h x K}:NW C gl zlV.body ⟨enter [v0],h,x⟩ K=zhp C gl z33 z6x v0 h x K:=E_q03h
def P_q01s:ACode:=(.seq (rg [mV 4 (cS []),
mV 5 cF] [0,1])
(.seq (.seq (rg [mV 6 0,
mV 7 1,
cL 8 zaw [6,7],
uO 9 (.un .not 8)] [0,1,9])
(.cond 9 (.seq (rg [mV 10 0,
mV 4 10,
mV 5 cF] [4,5])
.ret)
.skip))
(.seq (rg [mV 11 0,
mV 12 0,
uO 13 (.lens 12),
mV 14 1,
uO 15 (.lens 14),
bN 16 .sub 13 15,
uO 17 (.slstr 11 none (some 16)),
mV 4 17,
mV 5 cT] [4,5])
.ret)))
def zl6:AFun:=⟨2,[.t 4,.t 5],P_q01s,false,false⟩
def zgZ (C:Hd) (gl:GL) (v0 v1:AV) (h:Heap) (x:Esc) (K:KT):Prop:=
 C zaw [v0,v1] h fun t1 h2 y3=>
 pK (oUn .not t1) fun t4=>
 z0i t4 (K .ret ⟨[(4,v0),(5,(AB false))],h2,(y3++x)⟩)
 (pK (z0C v0) fun t5=>
 pK (z0C v1) fun t6=>
 pK (oBin .sub t5 t6) fun t7=>
 pK (z2j v0 none (some t7)) fun t8=>
 K .ret ⟨[(4,t8),(5,(AB true))],h2,(y3++x)⟩)
theorem e_q01s {C gl v0 v1 h x K}:NW C gl zl6.body ⟨enter [v0,v1],h,x⟩ K=zgZ C gl v0 v1 h x K:=by kernel_rfl
def z45:ACode:=.pr [0,1,6,7] (.seq (.seq (rg [mV 22 7,
mV 23 1,
bN 24 .sub 23 (cI 1),
bN 25 .lss 22 24] [0,1,6,7,25])
(.cond 25 .skip
(.exit 0)))
(.seq (.block 1 (.seq (rg [mV 29 0,
cL 30 zeK [29],
mV 28 30,
eX 31 28 0,
eX 32 28 1,
mV 8 31,
mV 9 32] [0,1,6,7,9])
(.seq (rg [mV 33 6,
mV 34 7,
mV 35 0,
mV 36 9,
uO 37 (.slstr 35 none (some 36)),
iA 38 none 33 34,
wO (.store none 38 37)] [0,1,6,7,9])
(rg [mV 39 0,
mV 40 9,
uO 41 (.slstr 39 (some 40) none),
mV 0 41] [0,1,6,7]))))
(rg [mV 26 7,
bN 27 .add 26 (cI 1),
mV 7 27] [0,1,6,7])))
def zdU (C:Hd) (gl:GL) (v0 v1 v6 v7:AV) (h:Heap) (x:Esc) (K:KT):Prop:=
 pK (oBin .sub v1 (AI 1)) fun t1=>
 pK (oBin .lss v7 t1) fun t2=>
 z0i t2 (C zeK [v0] h fun t3 h4 y5=>
 pK (oExt t3 0) fun t6=>
 pK (oExt t3 1) fun t7=>
 pK (z2j v0 none (some t7)) fun t8=>
 pK (z03 none v6 v7 h4) fun t9=>
 wK (z0m none t9 t8 h4) fun t10 h11 y12=>
 pK (z2j v0 (some t7) none) fun t13=>
 pK (oBin .add v7 (AI 1)) fun t14=>
 K .normal ⟨[(0,t13),(1,v1),(6,v6),(7,t14)],h11,(y12++(y5++x))⟩)
 (K (.exit 0) ⟨[(0,v0),(1,v1),(6,v6),(7,v7),(25,t2)],h,x⟩)
theorem zoE {C gl e h x K}:NW C gl z45 ⟨e,h,x⟩ K=zdU C gl (aget e 0) (aget e 1) (aget e 6) (aget e 7) h x K:=by kernel_rfl
theorem zqs {C gl e h x K}:NW C gl (.loop z45) ⟨e,h,x⟩ K=z1a C gl z45 K [(0,aget e 0),(1,aget e 1),(6,aget e 6),(7,aget e 7)] h x:=z0G
def z9u:ACode:=.pr [6] (.seq (rg [mV 49 6,
mV 4 49] [4])
.ret)
def zdV (C:Hd) (gl:GL) (v6:AV) (h:Heap) (x:Esc) (K:KT):Prop:=
 K .ret ⟨[(4,v6)],h,x⟩
theorem zoF {C gl e h x K}:NW C gl z9u ⟨e,h,x⟩ K=zdV C gl (aget e 6) h x K:=by kernel_rfl
def zcJ (q2:ACode):ACode:=.pr [0,1,6] (.seq (.seq (rg [mV 42 1,
bN 43 .gtr 42 (cI 0)] [0,1,6,43])
(.cond 43 (rg [mV 44 6,
mV 45 1,
bN 46 .sub 45 (cI 1),
mV 47 0,
iA 48 none 44 46,
wO (.store none 48 47)] [6])
.skip))
q2)
def z9v:ACode:=zcJ z9u
def z83 (C:Hd) (gl:GL) (q2:ACode) (v0 v1 v6:AV) (h:Heap) (x:Esc) (K:KT):Prop:=
 pK (oBin .gtr v1 (AI 0)) fun t1=>
 z0i t1 (pK (oBin .sub v1 (AI 1)) fun t2=>
 pK (z03 none v6 t2 h) fun t3=>
 wK (z0m none t3 v0 h) fun t4 h5 y6=>
 NW C gl q2 ⟨[(6,v6)],h5,(y6++x)⟩ K)
 (NW C gl q2 ⟨[(0,v0),(1,v1),(6,v6),(43,t1)],h,x⟩ K)
theorem zkS {C gl q2 e h x K}:NW C gl (zcJ q2) ⟨e,h,x⟩ K=z83 C gl q2 (aget e 0) (aget e 1) (aget e 6) h x K:=by kernel_rfl
theorem zoG {C gl e h x K}:NW C gl z9v ⟨e,h,x⟩ K=z83 C gl z9u (aget e 0) (aget e 1) (aget e 6) h x K:=zkS
def zcK (q1 q3:ACode):ACode:=.pr [0,1] (.seq (rg [mV 20 1,
uO 21 (.mksl none (.str []) 20 20),
mV 6 21] [0,1,6])
(.seq (.seq (rg [mV 7 (cI 0)] [0,1,6,7])
(.block 0 (.loop q1)))
q3))
def z65:ACode:=zcK z45 z9v
def z84 (C:Hd) (gl:GL) (q1 q3:ACode) (v0 v1:AV) (h:Heap) (x:Esc) (K:KT):Prop:=
 wK (zvy none (.str []) v1 v1 h) fun t1 h2 y3=>
 NW C gl (.loop q1) ⟨[(0,v0),(1,v1),(6,t1),(7,(AI 0))],h2,(y3++x)⟩ (z0t 0 (seqN C gl q3 K))
theorem zkT {C gl q1 q3 e h x K}:NW C gl (zcK q1 q3) ⟨e,h,x⟩ K=z84 C gl q1 q3 (aget e 0) (aget e 1) h x K:=by kernel_rfl
theorem zoH {C gl e h x K}:NW C gl z65 ⟨e,h,x⟩ K=z84 C gl z45 z9v (aget e 0) (aget e 1) h x K:=zkT
def zwT (q4:ACode):ACode:=(.seq (rg [mV 4 (.c (.p (.sl none [])))] [0,1])
(.seq (rg [mV 10 0,
cL 11 zyr [10],
mV 5 11] [0,1,5])
(.seq (.seq (rg [mV 12 1,
bN 13 .lss 12 (cI 0),
mV 14 13,
gD 15 14 false (.mv 1),
gD 16 14 false (.mv 5),
gD 17 14 false (.bin .gtr 15 16),
uO 18 (.pick 14 cT 17)] [0,1,5,18])
(.cond 18 (rg [mV 19 5,
mV 1 19] [0,1])
.skip))
q4)))
def zmm:AFun:=⟨2,[.t 4],zwT z65,false,false⟩
def znw (C:Hd) (gl:GL) (q4:ACode) (v0 v1:AV) (h:Heap) (x:Esc) (K:KT):Prop:=
 C zyr [v0] h fun t1 h2 y3=>
 pK (oBin .lss v1 (AI 0)) fun t4=>
 gM t4 false v1 h2 fun t5 h6 y7=>
 gM t4 false t1 h6 fun t8 h9 y10=>
 gP t4 false (oBin .gtr t5 t8) h9 fun t11 h12 y13=>
 pK (z0K t4 (AB true) t11) fun t14=>
 z0i t14 (NW C gl q4 ⟨[(0,v0),(1,t1)],h12,(y13++(y10++(y7++(y3++x))))⟩ K)
 (NW C gl q4 ⟨[(0,v0),(1,v1),(5,t1),(18,t14)],h12,(y13++(y10++(y7++(y3++x))))⟩ K)
theorem E_q05g {C gl q4 v0 v1 h x K}:NW C gl (zwT q4) ⟨enter [v0,v1],h,x⟩ K=znw C gl q4 v0 v1 h x K:=by kernel_rfl
theorem e_q05g {C gl v0 v1 h x K}:NW C gl zmm.body ⟨enter [v0,v1],h,x⟩ K=znw C gl z65 v0 v1 h x K:=E_q05g
def P_q01x:ACode:=(.seq (rg [mV 4 (cS [])] [0,1])
(.seq (.seq (rg [mV 5 0,
mV 6 1,
cL 7 zav [5,6]] [0,1,7])
(.cond 7 (.seq (rg [mV 8 0,
mV 9 1,
uO 10 (.lens 9),
uO 11 (.slstr 8 (some 10) none),
mV 4 11] [4])
.ret)
.skip))
(.seq (rg [mV 12 0,
mV 4 12] [4])
.ret)))
def zlB:AFun:=⟨2,[.t 4],P_q01x,false,false⟩
def zhe (C:Hd) (gl:GL) (v0 v1:AV) (h:Heap) (x:Esc) (K:KT):Prop:=
 C zav [v0,v1] h fun t1 h2 y3=>
 z0i t1 (pK (z0C v1) fun t4=>
 pK (z2j v0 (some t4) none) fun t5=>
 K .ret ⟨[(4,t5)],h2,(y3++x)⟩)
 (K .ret ⟨[(4,v0)],h2,(y3++x)⟩)
theorem e_q01x {C gl v0 v1 h x K}:NW C gl zlB.body ⟨enter [v0,v1],h,x⟩ K=zhe C gl v0 v1 h x K:=by kernel_rfl
def P_q05r:ACode:=(.seq (rg [mV 4 (cI 0)] [0,1])
(.seq (rg [uO 6 (.build [.p (.int .i64 0),.p (.int .i64 0)] [(0,1,(cI 1)),(1,1,(cI 0))]),
uO 7 (.build [.p (.int .i64 0),.p (.int .i64 0)] [(0,1,(cI 1)),(1,1,(cI 2))]),
uO 8 (.build [.p (.int .i64 0),.p (.int .i64 0)] [(0,1,(cI 3)),(1,1,(cI 9))]),
uO 9 (.build [.p (.int .i64 0),.p (.int .i64 0)] [(0,1,(cI 4)),(1,1,(cI 5))]),
uO 10 (.build [.p (.int .i64 0),.p (.int .i64 0)] [(0,1,(cI 4)),(1,1,(cI 5))]),
uO 11 (.build [.p (.int .i64 0),.p (.int .i64 0)] [(0,1,(cI 6)),(1,1,(cI 8))]),
uO 12 (.build [.p (.int .i64 0),.p (.int .i64 0)] [(0,1,(cI 6)),(1,1,(cI 7))]),
uO 13 (.build [.p (.int .i64 0),.p (.int .i64 0)] [(0,1,(cI 4)),(1,1,(cI 8))]),
uO 14 (.build [.p (.int .i64 0),.p (.int .i64 0)] [(0,1,(cI 1)),(1,1,(cI 2))]),
uO 15 (.build [.p (.int .i64 0),.p (.int .i64 0)] [(0,1,(cI 10)),(1,1,(cI 0))]),
uO 16 (.build [.p (.int .i64 0),.p (.int .i64 0)] [(0,1,(cI 11)),(1,1,(cI 12))]),
uO 17 (.build [.p (.int .i64 0),.p (.int .i64 0)] [(0,1,(cI 11)),(1,1,(cI 12))]),
uO 18 (.build [.p (.int .i64 0),.p (.int .i64 0)] [(0,1,(cI 13)),(1,1,(cI 15))]),
uO 19 (.build [.p (.int .i64 0),.p (.int .i64 0)] [(0,1,(cI 13)),(1,1,(cI 14))]),
uO 20 (.build [.p (.int .i64 0),.p (.int .i64 0)] [(0,1,(cI 11)),(1,1,(cI 15))]),
uO 21 (.build [.p (.int .i64 0),.p (.int .i64 0)] [(0,1,(cI 1)),(1,1,(cI 2))]),
uO 22 (.build [.p (.int .i64 0),.p (.int .i64 0),.p (.int .i64 0),.p (.int .i64 0),.p (.int .i64 0),.p (.int .i64 0),.p (.int .i64 0),.p (.int .i64 0),.p (.int .i64 0),.p (.int .i64 0),.p (.int .i64 0),.p (.int .i64 0),.p (.int .i64 0),.p (.int .i64 0),.p (.int .i64 0),.p (.int .i64 0),.p (.int .i64 0),.p (.int .i64 0),.p (.int .i64 0),.p (.int .i64 0),.p (.int .i64 0),.p (.int .i64 0),.p (.int .i64 0),.p (.int .i64 0),.p (.int .i64 0),.p (.int .i64 0),.p (.int .i64 0),.p (.int .i64 0),.p (.int .i64 0),.p (.int .i64 0),.p (.int .i64 0),.p (.int .i64 0)] [(0,2,6),(2,2,7),(4,2,8),(6,2,9),(8,2,10),(10,2,11),(12,2,12),(14,2,13),(16,2,14),(18,2,15),(20,2,16),(22,2,17),(24,2,18),(26,2,19),(28,2,20),(30,2,21)]),
uO 5 (.alloc [.p (.int .i64 0),.p (.int .i64 0),.p (.int .i64 0),.p (.int .i64 0),.p (.int .i64 0),.p (.int .i64 0),.p (.int .i64 0),.p (.int .i64 0),.p (.int .i64 0),.p (.int .i64 0),.p (.int .i64 0),.p (.int .i64 0),.p (.int .i64 0),.p (.int .i64 0),.p (.int .i64 0),.p (.int .i64 0),.p (.int .i64 0),.p (.int .i64 0),.p (.int .i64 0),.p (.int .i64 0),.p (.int .i64 0),.p (.int .i64 0),.p (.int .i64 0),.p (.int .i64 0),.p (.int .i64 0),.p (.int .i64 0),.p (.int .i64 0),.p (.int .i64 0),.p (.int .i64 0),.p (.int .i64 0),.p (.int .i64 0),.p (.int .i64 0)]),
wO (.store (some 32) 5 22)] [0,1,5])
(.seq (rg [mV 23 0,
mV 24 1,
uO 25 (.iaddra 16 (some 2) 5 23),
uO 26 (.iaddra 2 none 25 24),
lD 27 none 26,
mV 4 27] [4])
.ret)))
def z7Y:AFun:=⟨2,[.t 4],P_q05r,false,false⟩
def zhx (C:Hd) (gl:GL) (v0 v1:AV) (h:Heap) (x:Esc) (K:KT):Prop:=
 pK (z0y [.p (.int .i64 0),.p (.int .i64 0)] [(0,1,(AI 1)),(1,1,(AI 0))]) fun t1=>
 pK (z0y [.p (.int .i64 0),.p (.int .i64 0)] [(0,1,(AI 1)),(1,1,(AI 2))]) fun t2=>
 pK (z0y [.p (.int .i64 0),.p (.int .i64 0)] [(0,1,(AI 3)),(1,1,(AI 9))]) fun t3=>
 pK (z0y [.p (.int .i64 0),.p (.int .i64 0)] [(0,1,(AI 4)),(1,1,(AI 5))]) fun t4=>
 pK (z0y [.p (.int .i64 0),.p (.int .i64 0)] [(0,1,(AI 4)),(1,1,(AI 5))]) fun t5=>
 pK (z0y [.p (.int .i64 0),.p (.int .i64 0)] [(0,1,(AI 6)),(1,1,(AI 8))]) fun t6=>
 pK (z0y [.p (.int .i64 0),.p (.int .i64 0)] [(0,1,(AI 6)),(1,1,(AI 7))]) fun t7=>
 pK (z0y [.p (.int .i64 0),.p (.int .i64 0)] [(0,1,(AI 4)),(1,1,(AI 8))]) fun t8=>
 pK (z0y [.p (.int .i64 0),.p (.int .i64 0)] [(0,1,(AI 1)),(1,1,(AI 2))]) fun t9=>
 pK (z0y [.p (.int .i64 0),.p (.int .i64 0)] [(0,1,(AI 10)),(1,1,(AI 0))]) fun t10=>
 pK (z0y [.p (.int .i64 0),.p (.int .i64 0)] [(0,1,(AI 11)),(1,1,(AI 12))]) fun t11=>
 pK (z0y [.p (.int .i64 0),.p (.int .i64 0)] [(0,1,(AI 11)),(1,1,(AI 12))]) fun t12=>
 pK (z0y [.p (.int .i64 0),.p (.int .i64 0)] [(0,1,(AI 13)),(1,1,(AI 15))]) fun t13=>
 pK (z0y [.p (.int .i64 0),.p (.int .i64 0)] [(0,1,(AI 13)),(1,1,(AI 14))]) fun t14=>
 pK (z0y [.p (.int .i64 0),.p (.int .i64 0)] [(0,1,(AI 11)),(1,1,(AI 15))]) fun t15=>
 pK (z0y [.p (.int .i64 0),.p (.int .i64 0)] [(0,1,(AI 1)),(1,1,(AI 2))]) fun t16=>
 pK (z0y [.p (.int .i64 0),.p (.int .i64 0),.p (.int .i64 0),.p (.int .i64 0),.p (.int .i64 0),.p (.int .i64 0),.p (.int .i64 0),.p (.int .i64 0),.p (.int .i64 0),.p (.int .i64 0),.p (.int .i64 0),.p (.int .i64 0),.p (.int .i64 0),.p (.int .i64 0),.p (.int .i64 0),.p (.int .i64 0),.p (.int .i64 0),.p (.int .i64 0),.p (.int .i64 0),.p (.int .i64 0),.p (.int .i64 0),.p (.int .i64 0),.p (.int .i64 0),.p (.int .i64 0),.p (.int .i64 0),.p (.int .i64 0),.p (.int .i64 0),.p (.int .i64 0),.p (.int .i64 0),.p (.int .i64 0),.p (.int .i64 0),.p (.int .i64 0)] [(0,2,t1),(2,2,t2),(4,2,t3),(6,2,t4),(8,2,t5),(10,2,t6),(12,2,t7),(14,2,t8),(16,2,t9),(18,2,t10),(20,2,t11),(22,2,t12),(24,2,t13),(26,2,t14),(28,2,t15),(30,2,t16)]) fun t17=>
 alK [.p (.int .i64 0),.p (.int .i64 0),.p (.int .i64 0),.p (.int .i64 0),.p (.int .i64 0),.p (.int .i64 0),.p (.int .i64 0),.p (.int .i64 0),.p (.int .i64 0),.p (.int .i64 0),.p (.int .i64 0),.p (.int .i64 0),.p (.int .i64 0),.p (.int .i64 0),.p (.int .i64 0),.p (.int .i64 0),.p (.int .i64 0),.p (.int .i64 0),.p (.int .i64 0),.p (.int .i64 0),.p (.int .i64 0),.p (.int .i64 0),.p (.int .i64 0),.p (.int .i64 0),.p (.int .i64 0),.p (.int .i64 0),.p (.int .i64 0),.p (.int .i64 0),.p (.int .i64 0),.p (.int .i64 0),.p (.int .i64 0),.p (.int .i64 0)] h fun t18 h19 y20=>
 wK (z0m (some 32) t18 t17 h19) fun t21 h22 y23=>
 pK (z58 16 (some 2) t18 v0) fun t24=>
 pK (z58 2 none t24 v1) fun t25=>
 pK (z0e none t25 h22) fun t26=>
 K .ret ⟨[(4,t26)],h22,(y23++(y20++x))⟩
theorem zxv {C gl v0 v1 h x K}:NW C gl z7Y.body ⟨enter [v0,v1],h,x⟩ K=zhx C gl v0 v1 h x K:=by kernel_rfl
def P_q01u:ACode:=(.seq (rg [mV 4 cF] [0,1])
(.seq (rg [mV 5 0,
uO 6 (.lens 5),
mV 7 1,
uO 8 (.lens 7),
bN 9 .geq 6 8,
mV 10 9,
gD 11 10 true (.mv 0),
gD 12 10 true (.mv 0),
gD 13 10 true (.lens 12),
gD 14 10 true (.mv 1),
gD 15 10 true (.lens 14),
gD 16 10 true (.bin .sub 13 15),
gD 17 10 true (.slstr 11 (some 16) none),
gD 18 10 true (.mv 1),
gD 19 10 true (.bin .eql 17 18),
uO 20 (.pick 10 19 cF),
mV 4 20] [4])
.ret))
def zl8:AFun:=⟨2,[.t 4],P_q01u,false,false⟩
def zhb (C:Hd) (gl:GL) (v0 v1:AV) (h:Heap) (x:Esc) (K:KT):Prop:=
 pK (z0C v0) fun t1=>
 pK (z0C v1) fun t2=>
 pK (oBin .geq t1 t2) fun t3=>
 gM t3 true v0 h fun t4 h5 y6=>
 gM t3 true v0 h5 fun t7 h8 y9=>
 gP t3 true (z0C t7) h8 fun t10 h11 y12=>
 gM t3 true v1 h11 fun t13 h14 y15=>
 gP t3 true (z0C t13) h14 fun t16 h17 y18=>
 gP t3 true (oBin .sub t10 t16) h17 fun t19 h20 y21=>
 gP t3 true (z2j t4 (some t19) none) h20 fun t22 h23 y24=>
 gM t3 true v1 h23 fun t25 h26 y27=>
 gP t3 true (oBin .eql t22 t25) h26 fun t28 h29 y30=>
 pK (z0K t3 t28 (AB false)) fun t31=>
 K .ret ⟨[(4,t31)],h29,(y30++(y27++(y24++(y21++(y18++(y15++(y12++(y9++(y6++x)))))))))⟩
theorem e_q01u {C gl v0 v1 h x K}:NW C gl zl8.body ⟨enter [v0,v1],h,x⟩ K=zhb C gl v0 v1 h x K:=by kernel_rfl
def P_q05w:ACode:=(.seq (rg [mV 2 (.c (.p (.int .i32 0))),
mV 3 (cI 0)] [0])
(.seq (.seq (rg [mV 4 0,
bN 5 .neq 4 (cS []),
mV 6 5,
gD 7 6 true (.mv 0),
gD 8 6 true (.idxs 7 (cI 0)),
gD 9 6 true (.bin .lss 8 (.c (.p (.int .u8 128)))),
uO 10 (.pick 6 9 cF)] [0,10])
(.cond 10 (.seq (rg [mV 11 0,
uO 12 (.idxs 11 (cI 0)),
uO 13 (.conv (.i .i32) 12),
mV 2 13,
mV 3 (cI 1)] [2,3])
.ret)
(rg [mV 15 0,
cL 16 zeL [15],
mV 14 16,
eX 17 14 0,
eX 18 14 1,
mV 2 17,
mV 3 18] [2,3])))
.ret))
def zmo:AFun:=⟨1,[.t 2,.t 3],P_q05w,false,false⟩
def zxs (C:Hd) (gl:GL) (v0:AV) (h:Heap) (x:Esc) (K:KT):Prop:=
 pK (oBin .neq v0 (.p (.str []))) fun t1=>
 gM t1 true v0 h fun t2 h3 y4=>
 gP t1 true (z1L t2 (AI 0)) h3 fun t5 h6 y7=>
 gP t1 true (oBin .lss t5 (.p (.int .u8 128))) h6 fun t8 h9 y10=>
 pK (z0K t1 t8 (AB false)) fun t11=>
 z0i t11 (pK (z1L v0 (AI 0)) fun t12=>
 pK (z18 .i32 t12) fun t13=>
 K .ret ⟨[(2,t13),(3,(AI 1))],h9,(y10++(y7++(y4++x)))⟩)
 (C zeL [v0] h9 fun t14 h15 y16=>
 pK (oExt t14 0) fun t17=>
 pK (oExt t14 1) fun t18=>
 K .ret ⟨[(2,t17),(3,t18)],h15,(y16++(y10++(y7++(y4++x))))⟩)
theorem e_q05w {C gl v0 h x K}:NW C gl zmo.body ⟨enter [v0],h,x⟩ K=zxs C gl v0 h x K:=by kernel_rfl
def P_q060:ACode:=(.seq (rg [mV 2 (.c (.p (.int .i32 0))),
mV 3 (cI 0)] [0])
(.seq (rg [mV 13 0,
uO 14 (.lens 13),
mV 4 14] [0,4])
(.seq (.seq (rg [mV 15 4,
bN 16 .lss 15 (cI 1)] [0,4,16])
(.cond 16 (.seq (rg [mV 2 (.c (.p (.int .i32 65533))),
mV 3 (cI 0)] [2,3])
.ret)
.skip))
(.seq (rg [mV 17 0,
uO 18 (.idxs 17 (cI 0)),
mV 5 18] [0,4,5])
(.seq (rg [mV 19 5,
uO 20 (.iaddra 256 none (.g 4) 19),
lD 21 none 20,
mV 6 21] [0,4,5,6])
(.seq (.seq (rg [mV 22 6,
bN 23 .geq 22 (.c (.p (.int .u8 240)))] [0,4,5,6,23])
(.cond 23 (.seq (rg [mV 24 6,
uO 25 (.conv (.i .i32) 24),
bN 26 .shl 25 (.c (.p (.int .u64 31))),
bN 27 .shr 26 (.c (.p (.int .u64 31))),
mV 7 27] [0,7])
(.seq (rg [mV 28 0,
uO 29 (.idxs 28 (cI 0)),
uO 30 (.conv (.i .i32) 29),
mV 31 7,
bN 32 .andNot 30 31,
mV 33 7,
bN 34 .and (.c (.p (.int .i32 65533))) 33,
bN 35 .or 32 34,
mV 2 35,
mV 3 (cI 1)] [2,3])
.ret))
.skip))
(.seq (rg [mV 36 6,
bN 37 .and 36 (.c (.p (.int .u8 7))),
uO 38 (.conv (.i .i64) 37),
mV 8 38] [0,4,5,6,8])
(.seq (rg [mV 39 6,
bN 40 .shr 39 (.c (.p (.int .u64 4))),
uO 41 (.iaddra 16 (some 2) (.g 5) 40),
lD 42 (some 2) 41,
uO 9 (.alloc [.p (.int .u8 0),.p (.int .u8 0)]),
wO (.store (some 2) 9 42)] [0,4,5,8,9])
(.seq (.seq (rg [mV 43 4,
mV 44 8,
bN 45 .lss 43 44] [0,5,8,9,45])
(.cond 45 (.seq (rg [mV 2 (.c (.p (.int .i32 65533))),
mV 3 (cI 1)] [2,3])
.ret)
.skip))
(.seq (rg [mV 46 0,
uO 47 (.idxs 46 (cI 1)),
mV 10 47] [0,5,8,9,10])
(.seq (.seq (rg [mV 48 10,
fA 49 0 none 9,
lD 50 none 49,
bN 51 .lss 48 50,
mV 52 51,
gD 53 52 false (.faddr 1 none 9),
gD 54 52 false (.load none 53),
gD 55 52 false (.mv 10),
gD 56 52 false (.bin .lss 54 55),
uO 57 (.pick 52 cT 56)] [0,5,8,10,57])
(.cond 57 (.seq (rg [mV 2 (.c (.p (.int .i32 65533))),
mV 3 (cI 1)] [2,3])
.ret)
.skip))
(.seq (.seq (rg [mV 58 8,
bN 59 .leq 58 (cI 2)] [0,5,8,10,59])
(.cond 59 (.seq (rg [mV 60 5,
bN 61 .and 60 (.c (.p (.int .u8 31))),
uO 62 (.conv (.i .i32) 61),
bN 63 .shl 62 (.c (.p (.int .u64 6))),
mV 64 10,
bN 65 .and 64 (.c (.p (.int .u8 63))),
uO 66 (.conv (.i .i32) 65),
bN 67 .or 63 66,
mV 2 67,
mV 3 (cI 2)] [2,3])
.ret)
.skip))
(.seq (rg [mV 68 0,
uO 69 (.idxs 68 (cI 2)),
mV 11 69] [0,5,8,10,11])
(.seq (.seq (rg [mV 70 11,
bN 71 .lss 70 (.c (.p (.int .u8 128))),
mV 72 71,
gD 73 72 false (.mv 11),
gD 74 72 false (.bin .lss (.c (.p (.int .u8 191))) 73),
uO 75 (.pick 72 cT 74)] [0,5,8,10,11,75])
(.cond 75 (.seq (rg [mV 2 (.c (.p (.int .i32 65533))),
mV 3 (cI 1)] [2,3])
.ret)
.skip))
(.seq (.seq (rg [mV 76 8,
bN 77 .leq 76 (cI 3)] [0,5,10,11,77])
(.cond 77 (.seq (rg [mV 78 5,
bN 79 .and 78 (.c (.p (.int .u8 15))),
uO 80 (.conv (.i .i32) 79),
bN 81 .shl 80 (.c (.p (.int .u64 12))),
mV 82 10,
bN 83 .and 82 (.c (.p (.int .u8 63))),
uO 84 (.conv (.i .i32) 83),
bN 85 .shl 84 (.c (.p (.int .u64 6))),
bN 86 .or 81 85,
mV 87 11,
bN 88 .and 87 (.c (.p (.int .u8 63))),
uO 89 (.conv (.i .i32) 88),
bN 90 .or 86 89,
mV 2 90,
mV 3 (cI 3)] [2,3])
.ret)
.skip))
(.seq (rg [mV 91 0,
uO 92 (.idxs 91 (cI 3)),
mV 12 92] [5,10,11,12])
(.seq (.seq (rg [mV 93 12,
bN 94 .lss 93 (.c (.p (.int .u8 128))),
mV 95 94,
gD 96 95 false (.mv 12),
gD 97 95 false (.bin .lss (.c (.p (.int .u8 191))) 96),
uO 98 (.pick 95 cT 97)] [5,10,11,12,98])
(.cond 98 (.seq (rg [mV 2 (.c (.p (.int .i32 65533))),
mV 3 (cI 1)] [2,3])
.ret)
.skip))
(.seq (rg [mV 99 5,
bN 100 .and 99 (.c (.p (.int .u8 7))),
uO 101 (.conv (.i .i32) 100),
bN 102 .shl 101 (.c (.p (.int .u64 18))),
mV 103 10,
bN 104 .and 103 (.c (.p (.int .u8 63))),
uO 105 (.conv (.i .i32) 104),
bN 106 .shl 105 (.c (.p (.int .u64 12))),
bN 107 .or 102 106,
mV 108 11,
bN 109 .and 108 (.c (.p (.int .u8 63))),
uO 110 (.conv (.i .i32) 109),
bN 111 .shl 110 (.c (.p (.int .u64 6))),
bN 112 .or 107 111,
mV 113 12,
bN 114 .and 113 (.c (.p (.int .u8 63))),
uO 115 (.conv (.i .i32) 114),
bN 116 .or 112 115,
mV 2 116,
mV 3 (cI 4)] [2,3])
.ret))))))))))))))))))
def zmp:AFun:=⟨1,[.t 2,.t 3],P_q060,false,false⟩
def zxt (C:Hd) (gl:GL) (v0:AV) (h:Heap) (x:Esc) (K:KT):Prop:=
 pK (z0C v0) fun t1=>
 pK (oBin .lss t1 (AI 1)) fun t2=>
 z0i t2 (K .ret ⟨[(2,(.p (.int .i32 65533))),(3,(AI 0))],h,x⟩)
 (pK (z1L v0 (AI 0)) fun t3=>
 pK (z58 256 none (gv gl 4) t3) fun t4=>
 pK (z0e none t4 h) fun t5=>
 pK (oBin .geq t5 (.p (.int .u8 240))) fun t6=>
 z0i t6 (pK (z18 .i32 t5) fun t7=>
 pK (oBin .shl t7 (.p (.int .u64 31))) fun t8=>
 pK (oBin .shr t8 (.p (.int .u64 31))) fun t9=>
 pK (z1L v0 (AI 0)) fun t10=>
 pK (z18 .i32 t10) fun t11=>
 pK (oBin .andNot t11 t9) fun t12=>
 pK (oBin .and (.p (.int .i32 65533)) t9) fun t13=>
 pK (oBin .or t12 t13) fun t14=>
 K .ret ⟨[(2,t14),(3,(AI 1))],h,x⟩)
 (pK (oBin .and t5 (.p (.int .u8 7))) fun t15=>
 pK (z18 .i64 t15) fun t16=>
 pK (oBin .shr t5 (.p (.int .u64 4))) fun t17=>
 pK (z58 16 (some 2) (gv gl 5) t17) fun t18=>
 pK (z0e (some 2) t18 h) fun t19=>
 alK [.p (.int .u8 0),.p (.int .u8 0)] h fun t20 h21 y22=>
 wK (z0m (some 2) t20 t19 h21) fun t23 h24 y25=>
 pK (oBin .lss t1 t16) fun t26=>
 z0i t26 (K .ret ⟨[(2,(.p (.int .i32 65533))),(3,(AI 1))],h24,(y25++(y22++x))⟩)
 (pK (z1L v0 (AI 1)) fun t27=>
 pK (z0d 0 none t20) fun t28=>
 pK (z0e none t28 h24) fun t29=>
 pK (oBin .lss t27 t29) fun t30=>
 gP t30 false (z0d 1 none t20) h24 fun t31 h32 y33=>
 gP t30 false (z0e none t31 h32) h32 fun t34 h35 y36=>
 gM t30 false t27 h35 fun t37 h38 y39=>
 gP t30 false (oBin .lss t34 t37) h38 fun t40 h41 y42=>
 pK (z0K t30 (AB true) t40) fun t43=>
 z0i t43 (K .ret ⟨[(2,(.p (.int .i32 65533))),(3,(AI 1))],h41,(y42++(y39++(y36++(y33++(y25++(y22++x))))))⟩)
 (pK (oBin .leq t16 (AI 2)) fun t44=>
 z0i t44 (pK (oBin .and t3 (.p (.int .u8 31))) fun t45=>
 pK (z18 .i32 t45) fun t46=>
 pK (oBin .shl t46 (.p (.int .u64 6))) fun t47=>
 pK (oBin .and t27 (.p (.int .u8 63))) fun t48=>
 pK (z18 .i32 t48) fun t49=>
 pK (oBin .or t47 t49) fun t50=>
 K .ret ⟨[(2,t50),(3,(AI 2))],h41,(y42++(y39++(y36++(y33++(y25++(y22++x))))))⟩)
 (pK (z1L v0 (AI 2)) fun t51=>
 pK (oBin .lss t51 (.p (.int .u8 128))) fun t52=>
 gM t52 false t51 h41 fun t53 h54 y55=>
 gP t52 false (oBin .lss (.p (.int .u8 191)) t53) h54 fun t56 h57 y58=>
 pK (z0K t52 (AB true) t56) fun t59=>
 z0i t59 (K .ret ⟨[(2,(.p (.int .i32 65533))),(3,(AI 1))],h57,(y58++(y55++(y42++(y39++(y36++(y33++(y25++(y22++x))))))))⟩)
 (pK (oBin .leq t16 (AI 3)) fun t60=>
 z0i t60 (pK (oBin .and t3 (.p (.int .u8 15))) fun t61=>
 pK (z18 .i32 t61) fun t62=>
 pK (oBin .shl t62 (.p (.int .u64 12))) fun t63=>
 pK (oBin .and t27 (.p (.int .u8 63))) fun t64=>
 pK (z18 .i32 t64) fun t65=>
 pK (oBin .shl t65 (.p (.int .u64 6))) fun t66=>
 pK (oBin .or t63 t66) fun t67=>
 pK (oBin .and t51 (.p (.int .u8 63))) fun t68=>
 pK (z18 .i32 t68) fun t69=>
 pK (oBin .or t67 t69) fun t70=>
 K .ret ⟨[(2,t70),(3,(AI 3))],h57,(y58++(y55++(y42++(y39++(y36++(y33++(y25++(y22++x))))))))⟩)
 (pK (z1L v0 (AI 3)) fun t71=>
 pK (oBin .lss t71 (.p (.int .u8 128))) fun t72=>
 gM t72 false t71 h57 fun t73 h74 y75=>
 gP t72 false (oBin .lss (.p (.int .u8 191)) t73) h74 fun t76 h77 y78=>
 pK (z0K t72 (AB true) t76) fun t79=>
 z0i t79 (K .ret ⟨[(2,(.p (.int .i32 65533))),(3,(AI 1))],h77,(y78++(y75++(y58++(y55++(y42++(y39++(y36++(y33++(y25++(y22++x))))))))))⟩)
 (pK (oBin .and t3 (.p (.int .u8 7))) fun t80=>
 pK (z18 .i32 t80) fun t81=>
 pK (oBin .shl t81 (.p (.int .u64 18))) fun t82=>
 pK (oBin .and t27 (.p (.int .u8 63))) fun t83=>
 pK (z18 .i32 t83) fun t84=>
 pK (oBin .shl t84 (.p (.int .u64 12))) fun t85=>
 pK (oBin .or t82 t85) fun t86=>
 pK (oBin .and t51 (.p (.int .u8 63))) fun t87=>
 pK (z18 .i32 t87) fun t88=>
 pK (oBin .shl t88 (.p (.int .u64 6))) fun t89=>
 pK (oBin .or t86 t89) fun t90=>
 pK (oBin .and t71 (.p (.int .u8 63))) fun t91=>
 pK (z18 .i32 t91) fun t92=>
 pK (oBin .or t90 t92) fun t93=>
 K .ret ⟨[(2,t93),(3,(AI 4))],h77,(y78++(y75++(y58++(y55++(y42++(y39++(y36++(y33++(y25++(y22++x))))))))))⟩))))))))
theorem e_q060 {C gl v0 h x K}:NW C gl zmp.body ⟨enter [v0],h,x⟩ K=zxt C gl v0 h x K:=by kernel_rfl
def zqV:ACode:=.pr [5,6,7] (.seq (rg [bN 8 .lss 7 6] [5,6,7,8])
(.seq (.cond 8 .skip
(.exit 0))
(.seq (.block 1 (.seq (rg [iA 9 none 5 7,
lD 10 none 9,
mV 4 10] [4,5,6,7])
(.seq (rg [mV 11 4,
bN 12 .neq 11 (cI 0)] [4,5,6,7,12])
(.cond 12 (.seq (rg [mV 13 4,
mV 2 13] [2])
.ret)
.skip))))
(rg [bN 14 .add 7 (cI 1),
mV 7 14] [5,6,7]))))
def zqW:ACode:=.pr [] (.seq (rg [mV 2 (cI 0)] [2])
.ret)
def P_q002 (q1 q2:ACode):ACode:=(.seq (rg [mV 2 (cI 0)] [0])
(.seq (.seq (rg [mV 5 0,
lN 6 5,
mV 7 (cI 0)] [5,6,7])
(.block 0 (.loop q1)))
q2))
def a_q002:AFun:=⟨1,[.t 2],P_q002 zqV zqW,false,false⟩
def P_q003:ACode:=(.seq (rg [uO 4 (.alloc [.p (.int .i64 0),.p (.int .i64 0)])] [0,1,4])
(.seq (rg [mV 6 0,
mV 7 0,
uO 8 (.un .neg 7),
uO 9 (.mx [6,8]),
mV 10 1,
cL 11 zx0 [9,10],
mV 5 11] [0,1,4,5])
(.seq (dr [dF (mV 12 0) [0],
dF (mV 13 5) [5],
dF (bN 14 .quo 12 13) [12,13],
dF (mV 15 1) [1],
dF (mV 16 5) [5],
dF (bN 17 .quo 15 16) [15,16],
dF (uO 18 (.build [.p (.int .i64 0),.p (.int .i64 0)] [(0,1,14),(1,1,17)])) [14,17],
dT (wO (.store (some 2) 4 18)) [4,18]] [4])
.ret)))
def a_q003:AFun:=⟨2,[.cell 4 (some 2)],P_q003,false,false⟩
def zqX:ACode:=.pr [0,1] (.seq (.seq (rg [mV 5 1,
bN 6 .neq 5 (cI 0)] [0,1,6])
(.cond 6 .skip
(.exit 0)))
(.block 1 (dr [dF (mV 7 1) [1],
dF (mV 8 0) [0],
dF (mV 9 1) [1],
dF (bN 10 .rem 8 9) [8,9],
dF (mV 0 7) [7],
dF (mV 1 10) [10]] [0,1])))
def zqY:ACode:=.pr [0] (.seq (rg [mV 11 0,
mV 4 11] [4])
.ret)
def P_q004 (q1 q2:ACode):ACode:=(.seq (rg [mV 4 (cI 0)] [0,1])
(.seq (.block 0 (.loop q1))
q2))
def a_q004:AFun:=⟨2,[.t 4],P_q004 zqX zqY,false,false⟩
def zqZ:ACode:=.pr [0,23,24] (.seq (rg [bN 25 .lss 24 23] [0,23,24,25])
(.seq (.cond 25 .skip
(.exit 0))
(.seq (.block 1 (.seq (rg [mV 26 24,
mV 3 26] [0,3,23,24])
(.seq (rg [mV 27 0,
mV 28 3,
uO 29 (.idxs 27 28),
mV 4 29] [0,4,23,24])
(.seq (rg [mV 30 4,
bN 31 .geq 30 (.c (.p (.int .u8 97))),
mV 32 31,
gD 33 32 true (.mv 4),
gD 34 32 true (.bin .leq 33 (.c (.p (.int .u8 122)))),
uO 35 (.pick 32 34 cF),
mV 36 35,
gD 37 36 false (.mv 4),
gD 38 36 false (.bin .geq 37 (.c (.p (.int .u8 48)))),
gD 39 36 false (.mv 38),
gD 40 39 true (.mv 4),
gD 41 39 true (.bin .leq 40 (.c (.p (.int .u8 57)))),
gD 42 36 false (.pick 39 41 cF),
uO 43 (.pick 36 cT 42),
mV 44 43,
gD 45 44 false (.mv 4),
gD 46 44 false (.bin .eql 45 (.c (.p (.int .u8 45)))),
uO 47 (.pick 44 cT 46),
mV 48 47,
gD 49 48 false (.mv 4),
gD 50 48 false (.bin .eql 49 (.c (.p (.int .u8 95)))),
uO 51 (.pick 48 cT 50),
uO 52 (.un .not 51)] [0,23,24,52])
(.cond 52 (.seq (rg [mV 2 cF] [2])
.ret)
.skip)))))
(rg [bN 53 .add 24 (cI 1),
mV 24 53] [0,23,24]))))
def zra:ACode:=.pr [] (.seq (rg [mV 2 cT] [2])
.ret)
def P_q005 (q1 q2:ACode):ACode:=(.seq (rg [mV 2 cF] [0])
(.seq (.seq (rg [mV 5 0,
bN 6 .eql 5 (cS []),
mV 7 6,
gD 8 7 false (.mv 0),
gD 9 7 false (.lens 8),
gD 10 7 false (.bin .gtr 9 (cI 40)),
uO 11 (.pick 7 cT 10),
mV 12 11,
gD 13 12 false (.mv 0),
gD 14 12 false (.idxs 13 (cI 0)),
gD 15 12 false (.bin .lss 14 (.c (.p (.int .u8 97)))),
uO 16 (.pick 12 cT 15),
mV 17 16,
gD 18 17 false (.mv 0),
gD 19 17 false (.idxs 18 (cI 0)),
gD 20 17 false (.bin .gtr 19 (.c (.p (.int .u8 122)))),
uO 21 (.pick 17 cT 20)] [0,21])
(.cond 21 (.seq (rg [mV 2 cF] [2])
.ret)
.skip))
(.seq (.seq (rg [mV 22 0,
uO 23 (.lens 22),
mV 24 (cI 0)] [0,23,24])
(.block 0 (.loop q1)))
q2)))
def a_q005:AFun:=⟨1,[.t 2],P_q005 zqZ zra,false,false⟩
end Go.Am
end
section
/- The functions asv abstract code,and asv formulas over their values: printed by program out of the translation. -/
set_option linter.unusedVariables false
set_option maxRecDepth 100000
namespace Go.Am
def P_q007:ACode:=(.seq (rg [mV 2 cF] [0])
(.seq (rg [mV 3 0,
cL 4 z1i [3,(cI 0),(cI 345686399999)],
uO 5 (.un .not 4),
mV 2 5] [2])
.ret))
def a_q007:AFun:=⟨1,[.t 2],P_q007,false,false⟩
def zrb:ACode:=.pr [2,19,20,21] (.seq (rg [bN 22 .lss 21 20] [2,19,20,21,22])
(.seq (.cond 22 .skip
(.exit 0))
(.seq (.block 1 (.seq (rg [mV 23 21,
iA 24 none 19 21,
lD 25 none 24,
mV 6 23,
mV 7 25] [2,6,7,19,20,21])
(.seq (rg [mV 26 7,
uO 27 (.lens 26),
fA 28 0 none 2,
lD 29 none 28,
mV 30 6,
iA 31 (some 2) 29 30,
fA 32 1 none 31,
lD 33 none 32,
lN 34 33,
bN 35 .neq 27 34,
mV 36 35,
gD 37 36 false (.mv 7),
gD 38 36 false (.call z26 [37]),
gD 39 36 false (.un .not 38),
uO 40 (.pick 36 cT 39)] [2,19,20,21,40])
(.cond 40 (.seq (rg [mV 4 (cI 3)] [4])
.ret)
.skip))))
(rg [bN 41 .add 21 (cI 1),
mV 21 41] [2,19,20,21]))))
def zrc:ACode:=.pr [] (.seq (rg [mV 4 (cI 0)] [4])
.ret)
def P_q00a (q1 q2:ACode):ACode:=(.seq (rg [uO 2 (.box 0),
mV 4 (cI 0)] [1,2])
(.seq (.seq (rg [lD 8 (some 3) 2,
cL 9 zx2 [8],
mV 5 9] [1,2,5])
(.seq (rg [mV 10 5,
bN 11 .neq 10 (cI 0)] [1,2,5,11])
(.cond 11 (.seq (rg [mV 12 5,
mV 4 12] [4])
.ret)
.skip)))
(.seq (.seq (rg [mV 13 1,
lN 14 13,
fA 15 0 none 2,
lD 16 none 15,
lN 17 16,
bN 18 .neq 14 17] [1,2,18])
(.cond 18 (.seq (rg [mV 4 (cI 3)] [4])
.ret)
.skip))
(.seq (.seq (rg [mV 19 1,
lN 20 19,
mV 21 (cI 0)] [2,19,20,21])
(.block 0 (.loop q1)))
q2))))
def a_q00a:AFun:=⟨2,[.t 4],P_q00a zrb zrc,false,false⟩
def zrd:ACode:=.pr [1,15,16,17] (.seq (rg [bN 18 .lss 17 16] [1,15,16,17,18])
(.seq (.cond 18 .skip
(.exit 0))
(.seq (.block 1 (.seq (rg [mV 19 17,
iA 20 (some 2) 15 17,
lD 21 (some 2) 20,
uO 4 (.alloc [.p (.str []),.sl0 (some 4)]),
mV 3 19,
wO (.store (some 2) 4 21)] [1,3,4,15,16,17])
(.seq (.block 2 (.seq (rg [fA 23 0 none 4,
lD 24 none 23,
cL 25 z5r [24],
uO 26 (.un .not 25),
mV 22 26] [1,3,4,15,16,17,22])
(.cond 22 (.seq (rg [mV 2 (cI 5)] [2])
.ret)
(.seq (dr [dF (mV 28 3) [3],
dF (bN 29 .gtr 28 (cI 0)) [28],
dF (mV 30 29) [29],
dF (gD 31 30 true (.faddr 0 none 4)) [4,30],
dF (gD 32 30 true (.load none 31)) [31,30],
dF (gD 33 30 true (.faddr 0 none 1)) [1,30],
dF (gD 34 30 true (.load none 33)) [33,30],
dF (gD 35 30 true (.mv 3)) [3,30],
dF (gD 36 30 true (.bin .sub 35 (cI 1))) [35,30],
dF (gD 37 30 true (.iaddr (some 2) 34 36)) [34,36,30],
dF (gD 38 30 true (.faddr 0 none 37)) [37,30],
dF (gD 39 30 true (.load none 38)) [38,30],
dF (gD 40 30 true (.bin .leq 32 39)) [32,39,30],
dF (uO 41 (.pick 30 40 cF)) [30,40],
dF (mV 27 41) [41]] [1,4,15,16,17,27])
(.cond 27 (.seq (rg [mV 2 (cI 7)] [2])
.ret)
.skip)))))
(.seq (rg [lD 42 (some 2) 4,
cL 43 zx7 [42],
mV 5 43] [1,5,15,16,17])
(.seq (rg [mV 44 5,
bN 45 .neq 44 (cI 0)] [1,5,15,16,17,45])
(.cond 45 (.seq (rg [mV 46 5,
mV 2 46] [2])
.ret)
.skip))))))
(rg [bN 47 .add 17 (cI 1),
mV 17 47] [1,15,16,17]))))
def zre:ACode:=.pr [1,7,59,60,61] (.seq (rg [bN 62 .lss 61 60] [1,7,59,60,61,62])
(.seq (.cond 62 .skip
(.exit 3))
(.seq (.block 4 (.seq (rg [mV 63 61,
iA 64 (some 2) 59 61,
lD 65 (some 2) 64,
uO 9 (.alloc [.p (.str []),.p (.int .i64 0)]),
mV 8 63,
wO (.store (some 2) 9 65)] [1,7,8,9,59,60,61])
(.block 5 (.seq (rg [mV 67 7,
fA 68 0 none 9,
lD 69 none 68,
cL 70 z5Z [67,69],
uO 71 (.un .not 70),
mV 66 71] [1,7,8,9,59,60,61,66])
(.cond 66 (.seq (rg [mV 2 (cI 8)] [2])
.ret)
(.seq (rg [fA 73 1 none 9,
lD 74 none 73,
cL 75 z1i [74,(cI 0),(cI 1)],
mV 72 75] [1,7,8,9,59,60,61,72])
(.cond 72 (.seq (rg [mV 2 (cI 1)] [2])
.ret)
(.seq (dr [dF (mV 77 8) [8],
dF (bN 78 .gtr 77 (cI 0)) [77],
dF (mV 79 78) [78],
dF (gD 80 79 true (.faddr 0 none 9)) [9,79],
dF (gD 81 79 true (.load none 80)) [80,79],
dF (gD 82 79 true (.faddr 2 none 1)) [1,79],
dF (gD 83 79 true (.load none 82)) [82,79],
dF (gD 84 79 true (.mv 8)) [8,79],
dF (gD 85 79 true (.bin .sub 84 (cI 1))) [84,79],
dF (gD 86 79 true (.iaddr (some 2) 83 85)) [83,85,79],
dF (gD 87 79 true (.faddr 0 none 86)) [86,79],
dF (gD 88 79 true (.load none 87)) [87,79],
dF (gD 89 79 true (.bin .leq 81 88)) [81,88,79],
dF (uO 90 (.pick 79 89 cF)) [79,89],
dF (mV 76 90) [90]] [1,7,59,60,61,76])
(.cond 76 (.seq (rg [mV 2 (cI 7)] [2])
.ret)
.skip)))))))))
(rg [bN 91 .add 61 (cI 1),
mV 61 91] [1,7,59,60,61]))))
def zrf:ACode:=.pr [] (.seq (rg [mV 2 (cI 0)] [2])
.ret)
def zlc (q2 q3:ACode):ACode:=.pr [1] (.seq (.seq (rg [lD 48 (some 3) 1,
cL 49 zxB [48],
mV 6 49] [1,6])
(.seq (rg [mV 50 6,
bN 51 .neq 50 (cI 0)] [1,6,51])
(.cond 51 (.seq (rg [mV 52 6,
mV 2 52] [2])
.ret)
.skip)))
(.seq (rg [lD 53 (some 3) 1,
cL 54 zhA [53],
mV 7 54] [1,7])
(.seq (.seq (rg [mV 55 7,
lN 56 55,
bN 57 .gtr 56 (cI 100)] [1,7,57])
(.cond 57 (.seq (rg [mV 2 (cI 2)] [2])
.ret)
.skip))
(.seq (.seq (rg [fA 58 2 none 1,
lD 59 none 58,
lN 60 59,
mV 61 (cI 0)] [1,7,59,60,61])
(.block 3 (.loop (.scope q2))))
q3))))
def zrg:ACode:=zlc zre zrf
def P_q00b (q1 q4:ACode):ACode:=(.seq (rg [uO 1 (.box 0),
mV 2 (cI 0)] [1])
(.seq (.seq (rg [fA 10 0 none 1,
lD 11 none 10,
lN 12 11,
bN 13 .gtr 12 (cI 40)] [1,13])
(.cond 13 (.seq (rg [mV 2 (cI 2)] [2])
.ret)
.skip))
(.seq (.seq (rg [fA 14 0 none 1,
lD 15 none 14,
lN 16 15,
mV 17 (cI 0)] [1,15,16,17])
(.block 0 (.loop (.scope q1))))
q4)))
def a_q00b:AFun:=⟨1,[.t 2],P_q00b zrd zrg,false,false⟩
def zrh:ACode:=.pr [7,8,21,22,23] (.seq (rg [bN 24 .lss 23 22] [7,8,21,22,23,24])
(.seq (.cond 24 .skip
(.exit 0))
(.seq (.block 1 (.seq (rg [iA 25 none 21 23,
lD 26 none 25,
mV 10 26] [7,8,10,21,22,23])
(rg [mV 27 8,
mV 28 7,
mV 29 10,
uO 30 (.look (none,[2]) false (AI 0) 28 29),
uO 31 (.bsl false none 1 (.int .i64 0) [(0,30)]),
uO 32 (.app none 27 31),
mV 8 32] [7,8,21,22,23])))
(rg [bN 33 .add 23 (cI 1),
mV 23 33] [7,8,21,22,23]))))
def zri:ACode:=.pr [8] (.seq (rg [mV 34 8,
mV 4 34,
mV 5 (cI 0)] [4,5])
.ret)
def P_q00c (q1 q2:ACode):ACode:=(.seq (rg [uO 2 (.box 0),
mV 4 (.c (.p (.sl none []))),
mV 5 (cI 0)] [1,2])
(.seq (.seq (rg [lD 11 (some 3) 2,
mV 12 1,
cL 13 zx1 [11,12],
mV 6 13] [1,2,6])
(.seq (rg [mV 14 6,
bN 15 .neq 14 (cI 0)] [1,2,6,15])
(.cond 15 (.seq (rg [mV 16 6,
mV 4 (.c (.p (.sl none []))),
mV 5 16] [4,5])
.ret)
.skip)))
(.seq (rg [lD 17 (some 3) 2,
mV 18 1,
cL 19 zxC [17,18],
mV 7 19] [2,7])
(.seq (rg [uO 8 (.new0 none)] [2,7,8])
(.seq (.seq (rg [lD 20 (some 3) 2,
cL 21 zhA [20],
lN 22 21,
mV 23 (cI 0)] [7,8,21,22,23])
(.block 0 (.loop (.scope q1))))
q2)))))
def a_q00c:AFun:=⟨2,[.t 4,.t 5],P_q00c zrh zri,false,false⟩
def P_q00d:ACode:=(.seq (rg [uO 2 (.box 0),
uO 3 (.box 1),
mV 4 (cI 0)] [2,3])
(.seq (dr [dF (fA 5 0 none 2) [2],
dF (lD 6 none 5) [5],
dF (fA 7 0 none 3) [3],
dF (lD 8 none 7) [7],
dT (cL 9 zaE [6,8]) [6,8],
dF (fA 10 1 none 2) [2],
dA (lD 11 none 10) [10] false [4] [],
dF (fA 12 1 none 3) [3],
dA (lD 13 none 12) [12] false [4] [],
dT (cL 14 zaE [11,13]) [11,13],
dF (fA 15 2 none 2) [2],
dA (lD 16 none 15) [15] false [4,9] [],
dF (fA 17 2 none 3) [3],
dA (lD 18 none 17) [17] false [4,9] [],
dT (cL 19 zaE [16,18]) [16,18],
dF (uO 20 (.bsl false none 3 (.int .i64 0) [(0,9),(1,14),(2,19)])) [9,14,19],
dT (cL 21 zp2 [20]) [20],
dF (mV 4 21) [21]] [4])
.ret))
def a_q00d:AFun:=⟨2,[.t 4],P_q00d,false,false⟩
def P_q00e:ACode:=(.seq (rg [uO 2 (.box 0),
uO 3 (.box 1),
mV 4 (cI 0)] [2,3])
(.seq (.block 0 (.seq (rg [fA 6 0 none 3,
lD 7 none 6,
cL 8 z1i [7,(cI 1),(cI 4)],
mV 5 8] [2,3,5])
(.cond 5 (.seq (rg [mV 4 (cI 4)] [4])
.ret)
(.seq (rg [lD 10 (some 4) 3,
cL 11 zeD [10],
mV 12 11,
gD 13 12 true (.faddr 1 none 3),
gD 14 12 true (.load none 13),
gD 15 12 true (.call z5r [14]),
gD 16 12 true (.un .not 15),
uO 17 (.pick 12 16 cF),
mV 9 17] [2,3,9])
(.cond 9 (.seq (rg [mV 4 (cI 5)] [4])
.ret)
(.seq (rg [lD 19 (some 4) 3,
cL 20 zeD [19],
uO 21 (.un .not 20),
mV 22 21,
gD 23 22 true (.faddr 1 none 3),
gD 24 22 true (.load none 23),
gD 25 22 true (.bin .neq 24 (cS [])),
uO 26 (.pick 22 25 cF),
mV 18 26] [2,3,18])
(.cond 18 (.seq (rg [mV 4 (cI 3)] [4])
.ret)
.skip)))))))
(.seq (.seq (rg [fA 27 0 none 3,
lD 28 none 27,
bN 29 .neq 28 (cI 2)] [2,3,29])
(.cond 29 (.seq (.seq (rg [fA 30 2 none 3,
lD 31 none 30,
bN 32 .neq 31 (cI (-1)),
mV 33 32,
gD 34 33 false (.faddr 3 none 3),
gD 35 33 false (.load none 34),
gD 36 33 false (.bin .neq 35 (cI 0)),
uO 37 (.pick 33 cT 36)] [37])
(.cond 37 (.seq (rg [mV 4 (cI 3)] [4])
.ret)
.skip))
(.seq (rg [mV 4 (cI 0)] [4])
.ret))
.skip))
(.seq (.block 1 (.seq (rg [fA 39 2 none 3,
lD 40 none 39,
bN 41 .neq 40 (cI (-1)),
mV 42 41,
gD 43 42 true (.faddr 2 none 3),
gD 44 42 true (.load none 43),
gD 45 42 true (.faddr 1 none 2),
gD 46 42 true (.load none 45),
gD 47 42 true (.len 46),
gD 48 42 true (.bin .sub 47 (cI 1)),
gD 49 42 true (.call z1i [44,(cI 0),48]),
gD 50 42 true (.mv 49),
gD 51 50 false (.faddr 1 none 2),
gD 52 50 false (.load none 51),
gD 53 50 false (.faddr 2 none 3),
gD 54 50 false (.load none 53),
gD 55 50 false (.iaddr (some 4) 52 54),
gD 56 50 false (.faddr 0 none 55),
gD 57 50 false (.load none 56),
gD 58 50 false (.bin .neq 57 (cI 3)),
gD 59 42 true (.pick 50 cT 58),
uO 60 (.pick 42 59 cF),
mV 38 60] [3,38])
(.cond 38 (.seq (rg [mV 4 (cI 8)] [4])
.ret)
(.seq (rg [fA 62 3 none 3,
lD 63 none 62,
cL 64 z1i [63,(cI 0),(cI 1)],
mV 65 64,
gD 66 65 false (.faddr 2 none 3),
gD 67 65 false (.load none 66),
gD 68 65 false (.bin .eql 67 (cI (-1))),
gD 69 65 false (.mv 68),
gD 70 69 true (.faddr 3 none 3),
gD 71 69 true (.load none 70),
gD 72 69 true (.bin .neq 71 (cI 0)),
gD 73 65 false (.pick 69 72 cF),
uO 74 (.pick 65 cT 73),
mV 61 74] [61])
(.cond 61 (.seq (rg [mV 4 (cI 1)] [4])
.ret)
.skip)))))
(.seq (rg [mV 4 (cI 0)] [4])
.ret)))))
def a_q00e:AFun:=⟨2,[.t 4],P_q00e,false,false⟩
def zrj:ACode:=.pr [1,5,6,7,8,17,18,19,25,26,27] (rg [bN 57 .add 27 (cI 1),
mV 27 57] [1,5,6,7,8,17,18,19,25,26,27])
def zld (q1:ACode):ACode:=.pr [1,5,6,7,8,17,18,19,25,26,27] (.seq (rg [bN 28 .lss 27 26] [1,5,6,7,8,17,18,19,25,26,27,28])
(.seq (.cond 28 .skip
(.exit 2))
(.seq (.block 3 (.seq (rg [mV 29 27,
iA 30 (some 4) 25 27,
lD 31 (some 4) 30,
uO 10 (.alloc [.p (.int .i64 0),.p (.str []),.p (.int .i64 0),.p (.int .i64 0)]),
mV 9 29,
wO (.store (some 4) 10 31)] [1,5,6,7,8,9,10,17,18,19,25,26,27])
(.seq (.seq (rg [fA 32 0 none 10,
lD 33 none 32,
mV 34 1,
bN 35 .neq 33 34] [1,5,6,7,8,9,10,17,18,19,25,26,27,35])
(.cond 35 (.exit 3)
.skip))
(.seq (rg [mV 37 5,
fA 38 0 none 8,
lD 39 none 38,
fA 40 1 none 10,
lD 41 none 40,
uO 42 (.build [.p (.str []),.p (.str [])] [(0,1,39),(1,1,41)]),
uO 43 (.look ((some 2),[2,2]) true (.p (.str [])) 37 42),
mV 36 43,
eX 44 36 0,
eX 45 36 1,
mV 11 44,
mV 12 45] [1,5,6,7,8,9,11,12,17,18,19,25,26,27])
(.seq (rg [mV 46 12] [1,5,6,7,8,9,11,17,18,19,25,26,27,46])
(.cond 46 (rg [mV 47 6,
mV 48 11,
mV 49 6,
mV 50 11,
uO 51 (.look (none,[2]) false (.sl0 (some 2)) 49 50),
mV 52 7,
mV 53 9,
uO 54 (.build [.p (.int .i64 0),.p (.int .i64 0)] [(0,1,52),(1,1,53)]),
uO 55 (.bsl false (some 2) 1 (.agg [.int .i64 0,.int .i64 0]) [(0,54)]),
uO 56 (.app (some 2) 51 55),
wO (.mupd (none,[2]) 47 48 56)] [1,5,6,7,8,17,18,19,25,26,27])
.skip))))))
q1)))
def zrk:ACode:=zld zrj
def zrl:ACode:=.pr [1,5,6,17,18,19] (rg [bN 58 .add 19 (cI 1),
mV 19 58] [1,5,6,17,18,19])
def zle (q2 q3:ACode):ACode:=.pr [1,5,6,17,18,19] (.seq (rg [bN 20 .lss 19 18] [1,5,6,17,18,19,20])
(.seq (.cond 20 .skip
(.exit 0))
(.seq (.block 1 (.seq (rg [mV 21 19,
iA 22 (some 2) 17 19,
lD 23 (some 2) 22,
uO 8 (.alloc [.p (.str []),.sl0 (some 4)]),
mV 7 21,
wO (.store (some 2) 8 23)] [1,5,6,7,8,17,18,19])
(.seq (rg [fA 24 1 none 8,
lD 25 none 24,
lN 26 25,
mV 27 (cI 0)] [1,5,6,7,8,17,18,19,25,26,27])
(.block 2 (.loop (.scope q2))))))
q3)))
def zrm:ACode:=zle zrk zrl
def zrn:ACode:=.pr [6] (.seq (rg [mV 59 6,
mV 4 59] [4])
.ret)
def P_q00f (q4 q5:ACode):ACode:=(.seq (rg [uO 2 (.box 0),
mV 4 (.c (.nilm))] [1,2])
(.seq (rg [lD 13 (some 3) 2,
cL 14 zxD [13],
mV 5 14] [1,2,5])
(.seq (rg [uO 15 (.mkmap),
mV 6 15] [1,2,5,6])
(.seq (.seq (rg [fA 16 0 none 2,
lD 17 none 16,
lN 18 17,
mV 19 (cI 0)] [1,5,6,17,18,19])
(.block 0 (.loop (.scope q4))))
q5))))
def a_q00f:AFun:=⟨2,[.t 4],P_q00f zrm zrn,false,false⟩
def zro:ACode:=.pr [1,13,14,15] (.seq (rg [bN 16 .lss 15 14] [1,13,14,15,16])
(.seq (.cond 16 .skip
(.exit 0))
(.seq (.block 1 (.seq (rg [iA 17 (some 4) 13 15,
lD 18 (some 4) 17,
uO 4 (.alloc [.p (.int .i64 0),.p (.str []),.p (.int .i64 0),.p (.int .i64 0)]),
wO (.store (some 4) 4 18)] [1,4,13,14,15])
(.seq (rg [lD 19 (some 2) 1,
lD 20 (some 4) 4,
cL 21 zx5 [19,20],
mV 5 21] [1,5,13,14,15])
(.seq (rg [mV 22 5,
bN 23 .neq 22 (cI 0)] [1,5,13,14,15,23])
(.cond 23 (.seq (rg [mV 24 5,
mV 2 24] [2])
.ret)
.skip)))))
(rg [bN 25 .add 15 (cI 1),
mV 15 25] [1,13,14,15]))))
def zrp:ACode:=.pr [1,27,28,29] (.seq (rg [bN 30 .lss 29 28] [1,27,28,29,30])
(.seq (.cond 30 .skip
(.exit 2))
(.seq (.block 3 (.seq (rg [mV 31 29,
iA 32 (some 4) 27 29,
lD 33 (some 4) 32,
uO 7 (.alloc [.p (.int .i64 0),.p (.str []),.p (.int .i64 0),.p (.int .i64 0)]),
mV 6 31,
wO (.store (some 4) 7 33)] [1,6,7,27,28,29])
(.seq (rg [lD 34 (some 4) 7,
cL 35 zeD [34],
mV 36 35,
gD 37 36 true (.faddr 1 none 1),
gD 38 36 true (.load none 37),
gD 39 36 true (.mv 6),
gD 40 36 true (.slice (some 4) 38 none (some 39) none),
gD 41 36 true (.mkfn zx8 [7]),
gD 42 36 true (.call zp4 [40,41]),
uO 43 (.pick 36 42 cF)] [1,27,28,29,43])
(.cond 43 (.seq (rg [mV 2 (cI 6)] [2])
.ret)
.skip))))
(rg [bN 44 .add 29 (cI 1),
mV 29 44] [1,27,28,29]))))
def zrq:ACode:=.pr [] (.seq (rg [mV 2 (cI 0)] [2])
.ret)
def zlf (q2 q3:ACode):ACode:=.pr [1] (.seq (.seq (rg [fA 26 1 none 1,
lD 27 none 26,
lN 28 27,
mV 29 (cI 0)] [1,27,28,29])
(.block 2 (.loop (.scope q2))))
q3)
def zrr:ACode:=zlf zrp zrq
def P_q00g (q1 q4:ACode):ACode:=(.seq (rg [uO 1 (.box 0),
mV 2 (cI 0)] [1])
(.seq (.seq (rg [fA 8 1 none 1,
lD 9 none 8,
lN 10 9,
bN 11 .gtr 10 (cI 200)] [1,11])
(.cond 11 (.seq (rg [mV 2 (cI 2)] [2])
.ret)
.skip))
(.seq (.seq (rg [fA 12 1 none 1,
lD 13 none 12,
lN 14 13,
mV 15 (cI 0)] [1,13,14,15])
(.block 0 (.loop (.scope q1))))
q4)))
def a_q00g:AFun:=⟨1,[.t 2],P_q00g zro zrr,false,false⟩
def P_q00h:ACode:=(.seq (rg [uO 2 (.box 0),
mV 3 cF] [1,2])
(.seq (rg [fA 4 0 none 2,
lD 5 none 4,
fA 6 0 none 1,
lD 7 none 6,
bN 8 .eql 5 7,
mV 9 8,
gD 10 9 true (.faddr 1 none 2),
gD 11 9 true (.load none 10),
gD 12 9 true (.faddr 1 none 1),
gD 13 9 true (.load none 12),
gD 14 9 true (.bin .eql 11 13),
uO 15 (.pick 9 14 cF),
mV 3 15] [3])
.ret))
def a_q00h:AFun:=⟨2,[.t 3],P_q00h,false,false⟩
def P_q00i:ACode:=(.seq (rg [uO 2 (.box 0),
mV 4 (cI 0)] [1,2])
(.seq (rg [fA 8 0 none 2,
lD 9 none 8,
mV 10 1,
cL 11 zxX [9,10,(.f zxA)],
mV 7 11,
eX 12 7 0,
eX 13 7 1,
mV 5 12,
mV 6 13] [5,6])
(.seq (.seq (rg [mV 14 6,
uO 15 (.un .not 14)] [5,15])
(.cond 15 (.seq (rg [mV 4 (cI (-1))] [4])
.ret)
.skip))
(.seq (rg [mV 16 5,
mV 4 16] [4])
.ret))))
def a_q00i:AFun:=⟨2,[.t 4],P_q00i,false,false⟩
def P_q00j:ACode:=(.seq (rg [uO 2 (.box 0),
mV 4 (cI 0)] [1,2])
(.seq (rg [fA 5 0 none 2,
lD 6 none 5,
mV 7 1,
cL 8 zaE [6,7],
mV 4 8] [4])
.ret))
def a_q00j:AFun:=⟨2,[.t 4],P_q00j,false,false⟩
def P_q00k:ACode:=(.seq (rg [uO 1 (.box 0),
mV 2 cF] [1])
(.seq (rg [fA 3 0 none 1,
lD 4 none 3,
bN 5 .eql 4 (cI 1),
mV 6 5,
gD 7 6 false (.faddr 0 none 1),
gD 8 6 false (.load none 7),
gD 9 6 false (.bin .eql 8 (cI 2)),
uO 10 (.pick 6 cT 9),
mV 2 10] [2])
.ret))
def a_q00k:AFun:=⟨1,[.t 2],P_q00k,false,false⟩
def zrs:ACode:=.pr [1,14,15,16] (.seq (rg [bN 17 .lss 16 15] [1,14,15,16,17])
(.seq (.cond 17 .skip
(.exit 0))
(.seq (.block 1 (.seq (rg [mV 18 16,
iA 19 (some 3) 14 16,
lD 20 (some 3) 19,
uO 4 (.alloc [.p (.str []),.p (.str []),.p (.str [])]),
mV 3 18,
wO (.store (some 3) 4 20)] [1,3,4,14,15,16])
(.block 2 (.seq (rg [fA 22 0 none 4,
lD 23 none 22,
cL 24 z5r [23],
uO 25 (.un .not 24),
mV 21 25] [1,3,4,14,15,16,21])
(.cond 21 (.seq (rg [mV 2 (cI 5)] [2])
.ret)
(.seq (rg [lD 27 (some 3) 1,
fA 28 1 none 4,
lD 29 none 28,
fA 30 2 none 4,
lD 31 none 30,
cL 32 zxE [27,29,31],
uO 33 (.un .not 32),
mV 26 33] [1,3,4,14,15,16,26])
(.cond 26 (.seq (rg [mV 2 (cI 8)] [2])
.ret)
(.seq (dr [dF (mV 35 3) [3],
dF (bN 36 .gtr 35 (cI 0)) [35],
dF (mV 37 36) [36],
dF (gD 38 37 true (.load (some 3) 4)) [4,37],
dF (gD 39 37 true (.faddr 1 none 1)) [1,37],
dF (gD 40 37 true (.load none 39)) [39,37],
dF (gD 41 37 true (.mv 3)) [3,37],
dF (gD 42 37 true (.bin .sub 41 (cI 1))) [41,37],
dF (gD 43 37 true (.iaddr (some 3) 40 42)) [40,42,37],
dF (gD 44 37 true (.load (some 3) 43)) [43,37],
dT (gD 45 37 true (.call zx4 [38,44])) [38,44,37],
dF (gD 46 37 true (.bin .leq 45 (cI 0))) [45,37],
dF (uO 47 (.pick 37 46 cF)) [37,46],
dF (mV 34 47) [47]] [1,14,15,16,34])
(.cond 34 (.seq (rg [mV 2 (cI 7)] [2])
.ret)
.skip)))))))))
(rg [bN 48 .add 16 (cI 1),
mV 16 48] [1,14,15,16]))))
def zrt:ACode:=.pr [5,51,52,53] (.seq (rg [bN 54 .lss 53 52] [5,51,52,53,54])
(.seq (.cond 54 .skip
(.exit 3))
(.seq (.block 4 (.seq (rg [iA 55 (some 3) 51 53,
lD 56 (some 3) 55,
uO 7 (.alloc [.p (.str []),.p (.str []),.p (.str [])]),
wO (.store (some 3) 7 56)] [5,7,51,52,53])
(.seq (rg [fA 57 1 none 7,
lD 58 none 57,
fA 59 2 none 7,
lD 60 none 59,
uO 61 (.build [.p (.str []),.p (.str [])] [(0,1,58),(1,1,60)]),
uO 8 (.alloc [.p (.str []),.p (.str [])]),
wO (.store (some 2) 8 61)] [5,8,51,52,53])
(.seq (.seq (rg [mV 62 5,
lD 63 (some 2) 8,
uO 64 (.look ((some 2),[2,2]) false (AB false) 62 63)] [5,8,51,52,53,64])
(.cond 64 (.seq (rg [mV 2 (cI 6)] [2])
.ret)
.skip))
(rg [mV 65 5,
lD 66 (some 2) 8,
wO (.mupd ((some 2),[2,2]) 65 66 cT)] [5,51,52,53])))))
(rg [bN 67 .add 53 (cI 1),
mV 53 67] [5,51,52,53]))))
def zru:ACode:=.pr [] (.seq (rg [mV 2 (cI 0)] [2])
.ret)
def zlg (q2 q3:ACode):ACode:=.pr [1] (.seq (rg [uO 49 (.mkmap),
mV 5 49] [1,5])
(.seq (.seq (rg [fA 50 1 none 1,
lD 51 none 50,
lN 52 51,
mV 53 (cI 0)] [5,51,52,53])
(.block 3 (.loop (.scope q2))))
q3))
def zrv:ACode:=zlg zrt zru
def P_q00l (q1 q4:ACode):ACode:=(.seq (rg [uO 1 (.box 0),
mV 2 (cI 0)] [1])
(.seq (.seq (rg [fA 9 1 none 1,
lD 10 none 9,
lN 11 10,
bN 12 .gtr 11 (cI 1000)] [1,12])
(.cond 12 (.seq (rg [mV 2 (cI 2)] [2])
.ret)
.skip))
(.seq (.seq (rg [fA 13 1 none 1,
lD 14 none 13,
lN 15 14,
mV 16 (cI 0)] [1,14,15,16])
(.block 0 (.loop (.scope q1))))
q4)))
def a_q00l:AFun:=⟨1,[.t 2],P_q00l zrs zrv,false,false⟩
def zrw:ACode:=.pr [1,2,5,20,21,22] (.seq (rg [bN 23 .lss 22 21] [1,2,5,20,21,22,23])
(.seq (.cond 23 .skip
(.exit 0))
(.seq (.block 1 (.seq (rg [iA 24 none 20 22,
lD 25 none 24,
mV 7 25] [1,2,5,7,20,21,22])
(rg [mV 26 5,
mV 27 7,
wO (.mupd (none,[2]) 26 27 (cI 2))] [1,2,5,20,21,22])))
(rg [bN 28 .add 22 (cI 1),
mV 22 28] [1,2,5,20,21,22]))))
def zrx:ACode:=.pr [1,2,5,30,31,32] (.seq (rg [bN 33 .lss 32 31] [1,2,5,30,31,32,33])
(.seq (.cond 33 .skip
(.exit 2))
(.seq (.block 3 (.seq (rg [iA 34 (some 2) 30 32,
lD 35 (some 2) 34,
uO 9 (.alloc [.p (.str []),.p (.int .i64 0)]),
wO (.store (some 2) 9 35)] [1,2,5,9,30,31,32])
(rg [mV 36 5,
fA 37 0 none 9,
lD 38 none 37,
fA 39 1 none 9,
lD 40 none 39,
wO (.mupd (none,[2]) 36 38 40)] [1,2,5,30,31,32])))
(rg [bN 41 .add 32 (cI 1),
mV 32 41] [1,2,5,30,31,32]))))
def zry:ACode:=.pr [1,2,5,10,17,44,50,51,52] (rg [mV 100 5,
mV 101 10,
mV 102 17,
wO (.mupd (none,[2]) 100 101 102),
mV 12 cT] [1,2,5,10,12,44,50,51,52])
def zrz:ACode:=.pr [1,2,5,10,12,44,50,51,52] (rg [bN 103 .add 52 (cI 1),
mV 52 103] [1,2,5,10,12,44,50,51,52])
def zlh (q3 q4:ACode):ACode:=.pr [1,2,5,10,12,44,50,51,52] (.seq (rg [bN 53 .lss 52 51] [1,2,5,10,12,44,50,51,52,53])
(.seq (.cond 53 .skip
(.exit 6))
(.seq (.block 7 (.seq (rg [iA 54 (some 2) 50 52,
lD 55 (some 2) 54,
uO 14 (.alloc [.p (.int .i64 0),.p (.int .i64 0)]),
wO (.store (some 2) 14 55)] [1,2,5,10,12,14,44,50,51,52])
(.seq (dr [dF (fA 56 0 none 2) [2],
dF (lD 57 none 56) [56],
dF (fA 58 0 none 14) [14],
dF (lD 59 none 58) [58],
dF (iA 60 (some 2) 57 59) [57,59],
dF (fA 61 1 none 60) [60],
dF (lD 62 none 61) [61],
dF (fA 63 1 none 14) [14],
dF (lD 64 none 63) [63],
dF (iA 65 (some 4) 62 64) [62,64],
dF (lD 66 (some 4) 65) [65],
dF (mV 67 1) [1],
dF (fA 68 0 none 14) [14],
dF (lD 69 none 68) [68],
dF (iA 70 none 67 69) [67,69],
dF (lD 71 none 70) [70],
dA (uO 15 (.alloc [.p (.int .i64 0),.p (.str []),.p (.int .i64 0),.p (.int .i64 0)])) [] true [] [1,3,4,6,8,9,10,13,14,15],
dA (wO (.store (some 4) 15 66)) [15,66] true [] [13,14,15],
dF (mV 16 71) [71]] [1,2,5,10,12,14,15,16,44,50,51,52])
(.seq (.seq (dr [dF (fA 72 2 none 15) [15],
dF (lD 73 none 72) [72],
dF (bN 74 .geq 73 (cI 0)) [73],
dF (mV 75 74) [74],
dF (gD 76 75 true (.mv 16)) [16,75],
dF (gD 77 75 true (.faddr 2 none 15)) [15,75],
dF (gD 78 75 true (.load none 77)) [77,75],
dF (gD 79 75 true (.idxs 76 78)) [76,78,75],
dF (gD 80 75 true (.bin .sub 79 (.c (.p (.int .u8 48))))) [79,75],
dF (gD 81 75 true (.conv (.i .i64) 80)) [80,75],
dF (gD 82 75 true (.faddr 3 none 15)) [15,75],
dF (gD 83 75 true (.load none 82)) [82,75],
dF (gD 84 75 true (.bin .eql 81 83)) [81,83,75],
dF (uO 85 (.pick 75 84 cF)) [75,84]] [1,2,5,10,12,14,16,44,50,51,52,85])
(.cond 85 (.exit 7)
.skip))
(.seq (rg [mV 86 16,
fA 87 1 none 14,
lD 88 none 87,
uO 89 (.idxs 86 88),
bN 90 .sub 89 (.c (.p (.int .u8 48))),
uO 91 (.conv (.i .i64) 90),
mV 17 91] [1,2,5,10,12,17,44,50,51,52])
(.seq (.seq (rg [mV 92 12,
mV 93 92,
gD 94 93 true (.mv 5),
gD 95 93 true (.mv 10),
gD 96 93 true (.look (none,[2]) false (AI 0) 94 95),
gD 97 93 true (.mv 17),
gD 98 93 true (.bin .neq 96 97),
uO 99 (.pick 93 98 cF)] [1,2,5,10,17,44,50,51,52,99])
(.cond 99 (rg [mV 17 (cI 3)] [1,2,5,10,17,44,50,51,52])
.skip))
q3))))))
q4)))
def zr0:ACode:=zlh zry zrz
def zli (q5:ACode):ACode:=.pr [1,2,5,44] (.seq (rg [uO 45 (.mnext none [44]),
eX 46 45 0] [1,2,5,44,46])
(.seq (.cond 46 .skip
(.exit 4))
(.block 5 (.seq (rg [uO 47 (.mentry 44),
eX 48 47 0,
eX 49 47 1,
mV 10 48,
mV 11 49] [1,2,5,10,11,44])
(.seq (rg [mV 12 cF] [1,2,5,10,11,12,44])
(.seq (rg [mV 50 11,
lN 51 50,
mV 52 (cI 0)] [1,2,5,10,12,44,50,51,52])
(.block 6 (.loop (.scope q5)))))))))
def zr1:ACode:=zli zr0
def zr2:ACode:=.pr [5] (.seq (rg [mV 104 5,
mV 4 104] [4])
.ret)
def zlj (q6 q7:ACode):ACode:=.pr [1,2,5] (.seq (.seq (rg [lD 42 (some 3) 2,
cL 43 zx6 [42,(cI 2)],
uO 44 (.mrange 43)] [1,2,5,44])
(.block 4 (.loop (.scope q6))))
q7)
def zr3:ACode:=zlj zr1 zr2
def zlk (q2 q8:ACode):ACode:=.pr [1,2,5] (.seq (.seq (rg [fA 29 2 none 2,
lD 30 none 29,
lN 31 30,
mV 32 (cI 0)] [1,2,5,30,31,32])
(.block 2 (.loop (.scope q2))))
q8)
def zr4:ACode:=zlk zrx zr3
def P_q00m (q1 q9:ACode):ACode:=(.det (.seq (rg [uO 2 (.box 0),
mV 4 (.c (.nilm))] [1,2])
(.seq (rg [uO 18 (.mkmap),
mV 5 18] [1,2,5])
(.seq (.seq (rg [lD 19 (some 3) 2,
cL 20 zhA [19],
lN 21 20,
mV 22 (cI 0)] [1,2,5,20,21,22])
(.block 0 (.loop q1)))
q9))))
def a_q00m:AFun:=⟨2,[.t 4],P_q00m zrw zr4,false,false⟩
def zr5:ACode:=.pr [3,7,8,9] (.seq (rg [bN 10 .lss 9 8] [3,7,8,9,10])
(.seq (.cond 10 .skip
(.exit 0))
(.seq (.block 1 (.seq (rg [iA 11 (some 3) 7 9,
lD 12 (some 3) 11,
uO 5 (.alloc [.p (.str []),.p (.str []),.p (.str [])]),
wO (.store (some 3) 5 12)] [3,5,7,8,9])
(rg [mV 13 3,
fA 14 0 none 5,
lD 15 none 14,
uO 16 (.bsl false none 1 (.str []) [(0,15)]),
uO 17 (.app none 13 16),
mV 3 17] [3,7,8,9])))
(rg [bN 18 .add 9 (cI 1),
mV 9 18] [3,7,8,9]))))
def zr6:ACode:=.pr [3] (.seq (rg [mV 19 3,
cL 20 zxY [19],
mV 2 20] [2])
.ret)
def P_q00n (q1 q2:ACode):ACode:=(.seq (rg [uO 1 (.box 0),
mV 2 (.c (.p (.sl none [])))] [1])
(.seq (rg [uO 3 (.new0 none)] [1,3])
(.seq (.seq (rg [fA 6 1 none 1,
lD 7 none 6,
lN 8 7,
mV 9 (cI 0)] [3,7,8,9])
(.block 0 (.loop (.scope q1))))
q2)))
def a_q00n:AFun:=⟨1,[.t 2],P_q00n zr5 zr6,false,true⟩
def zr7:ACode:=.pr [3,8,9,10] (.seq (rg [bN 11 .lss 10 9] [3,8,9,10,11])
(.seq (.cond 11 .skip
(.exit 0))
(.seq (.block 1 (.seq (rg [iA 12 (some 3) 8 10,
lD 13 (some 3) 12,
uO 5 (.alloc [.p (.str []),.p (.str []),.p (.str [])]),
wO (.store (some 3) 5 13)] [3,5,8,9,10])
(rg [mV 14 3,
fA 15 1 none 5,
lD 16 none 15,
fA 17 2 none 5,
lD 18 none 17,
uO 19 (.build [.p (.str []),.p (.str [])] [(0,1,16),(1,1,18)]),
fA 20 0 none 5,
lD 21 none 20,
wO (.mupd ((some 2),[2,2]) 14 19 21)] [3,8,9,10])))
(rg [bN 22 .add 10 (cI 1),
mV 10 22] [3,8,9,10]))))
def zr8:ACode:=.pr [3] (.seq (rg [mV 23 3,
mV 2 23] [2])
.ret)
def P_q00o (q1 q2:ACode):ACode:=(.seq (rg [uO 1 (.box 0),
mV 2 (.c (.nilm))] [1])
(.seq (rg [uO 6 (.mkmap),
mV 3 6] [1,3])
(.seq (.seq (rg [fA 7 1 none 1,
lD 8 none 7,
lN 9 8,
mV 10 (cI 0)] [3,8,9,10])
(.block 0 (.loop (.scope q1))))
q2)))
def a_q00o:AFun:=⟨1,[.t 2],P_q00o zr7 zr8,false,false⟩
def P_q00p:ACode:=(.seq (rg [uO 3 (.box 0),
uO 5 (.box 2),
mV 6 cF] [1,3,5])
(.seq (rg [lD 8 (some 3) 3,
mV 9 1,
cL 10 zx9 [8,9],
mV 7 10] [3,5,7])
(.seq (rg [mV 11 7,
bN 12 .geq 11 (cI 0),
mV 13 12,
gD 14 13 true (.faddr 0 none 3),
gD 15 13 true (.load none 14),
gD 16 13 true (.mv 7),
gD 17 13 true (.iaddr (some 2) 15 16),
gD 18 13 true (.faddr 1 none 17),
gD 19 13 true (.load none 18),
gD 20 13 true (.mkfn zxF [5]),
gD 21 13 true (.call zp4 [19,20]),
uO 22 (.pick 13 21 cF),
mV 6 22] [6])
.ret)))
def a_q00p:AFun:=⟨3,[.t 6],P_q00p,false,false⟩
def P_q00q:ACode:=(.seq (rg [uO 2 (.box 0),
mV 3 cF] [1,2])
(.seq (rg [lD 4 (some 4) 2,
cL 5 zeD [4],
mV 6 5,
gD 7 6 true (.faddr 1 none 2),
gD 8 6 true (.load none 7),
gD 9 6 true (.load none 1),
gD 10 6 true (.bin .eql 8 9),
uO 11 (.pick 6 10 cF),
mV 3 11] [3])
.ret))
def a_q00q:AFun:=⟨2,[.t 3],P_q00q,false,false⟩
def P_q00r:ACode:=(.seq (rg [mV 4 (cI 0)] [0,1])
(.seq (rg [mV 7 0,
cL 8 zp3 [7],
mV 5 8] [0,1,5])
(.seq (rg [mV 9 1,
cL 10 zp3 [9],
mV 6 10] [0,1,5,6])
(.seq (.seq (rg [mV 11 5] [0,1,6,11])
(.cond 11 (.seq (.seq (rg [mV 12 6] [12])
(.cond 12 (.seq (rg [mV 4 (cI 0)] [4])
.ret)
.skip))
(.seq (rg [mV 4 (cI (-1))] [4])
.ret))
.skip))
(.seq (.seq (rg [mV 13 6] [0,1,13])
(.cond 13 (.seq (rg [mV 4 (cI 1)] [4])
.ret)
.skip))
(.seq (.seq (rg [mV 14 0,
mV 15 1,
bN 16 .lss 14 15] [0,1,16])
(.cond 16 (.seq (rg [mV 4 (cI (-1))] [4])
.ret)
.skip))
(.seq (.seq (rg [mV 17 0,
mV 18 1,
bN 19 .gtr 17 18] [19])
(.cond 19 (.seq (rg [mV 4 (cI 1)] [4])
.ret)
.skip))
(.seq (rg [mV 4 (cI 0)] [4])
.ret))))))))
def a_q00r:AFun:=⟨2,[.t 4],P_q00r,false,false⟩
def zr9:ACode:=.pr [3,6,7,8] (.seq (rg [bN 9 .lss 8 7] [3,6,7,8,9])
(.seq (.cond 9 .skip
(.exit 0))
(.seq (.block 1 (.seq (rg [iA 10 none 6 8,
lD 11 none 10,
mV 5 11] [3,5,6,7,8])
(.seq (rg [mV 12 5,
mV 13 3,
bN 14 .neq 12 13] [3,5,6,7,8,14])
(.cond 14 (.seq (rg [mV 15 5,
mV 2 15] [2])
.ret)
.skip))))
(rg [bN 16 .add 8 (cI 1),
mV 8 16] [3,6,7,8]))))
def zrA:ACode:=.pr [3] (.seq (rg [mV 17 3,
mV 2 17] [2])
.ret)
def P_q00s (q1 q2:ACode):ACode:=(.seq (rg [mV 2 (cI 0)] [0])
(.seq (rg [mV 3 (cI 0)] [0,3])
(.seq (.seq (rg [mV 6 0,
lN 7 6,
mV 8 (cI 0)] [3,6,7,8])
(.block 0 (.loop q1)))
q2)))
def a_q00s:AFun:=⟨1,[.t 2],P_q00s zr9 zrA,false,false⟩
def P_q00t:ACode:=(.seq (rg [mV 2 cF] [0])
(.seq (rg [mV 3 0,
mV 4 0,
bN 5 .neq 3 4,
mV 2 5] [2])
.ret))
def a_q00t:AFun:=⟨1,[.t 2],P_q00t,false,false⟩
def zrB:ACode:=.pr [0,3,27,28,29] (.seq (rg [bN 30 .lss 29 28] [0,3,27,28,29,30])
(.seq (.cond 30 .skip
(.exit 1))
(.seq (.block 2 (.seq (rg [iA 31 none 27 29,
lD 32 none 31,
mV 6 32] [0,3,6,27,28,29])
(.seq (rg [mV 33 6,
mV 34 0,
bN 35 .sub 34 (cI 1),
cL 36 z1i [33,(cI 0),35]] [0,3,27,28,29,36])
(.cond 36 (.seq (rg [mV 4 (cI 1)] [4])
.ret)
.skip))))
(rg [bN 37 .add 29 (cI 1),
mV 29 37] [0,3,27,28,29]))))
def zrC:ACode:=.pr [3,7,8] (.seq (.seq (rg [mV 53 8,
mV 54 7,
lN 55 54,
bN 56 .lss 53 55] [3,7,8,56])
(.cond 56 .skip
(.exit 3)))
(.seq (.block 4 (.seq (dr [dF (mV 59 7) [7],
dF (mV 60 8) [8],
dF (iA 61 none 59 60) [59,60],
dF (lD 62 none 61) [61],
dF (mV 63 7) [7],
dF (mV 64 8) [8],
dF (bN 65 .sub 64 (cI 1)) [64],
dF (iA 66 none 63 65) [63,65],
dF (lD 67 none 66) [66],
dF (bN 68 .leq 62 67) [62,67]] [3,7,8,68])
(.cond 68 (.seq (rg [mV 4 (cI 7)] [4])
.ret)
.skip)))
(rg [mV 57 8,
bN 58 .add 57 (cI 1),
mV 8 58] [3,7,8])))
def zrD:ACode:=.pr [3,7] (.seq (.seq (rg [fA 69 0 none 3,
lD 70 none 69,
bN 71 .eql 70 (cI 5),
mV 72 71,
gD 73 72 true (.mv 7),
gD 74 72 true (.faddr 1 none 3),
gD 75 72 true (.load none 74),
gD 76 72 true (.iaddr none 75 (cI 0)),
gD 77 72 true (.load none 76),
gD 78 72 true (.call z5t [73,77]),
uO 79 (.pick 72 78 cF)] [79])
(.cond 79 (.seq (rg [mV 4 (cI 6)] [4])
.ret)
.skip))
(.seq (rg [mV 4 (cI 0)] [4])
.ret))
def zll (q2 q3:ACode):ACode:=.pr [3,7] (.seq (.seq (rg [mV 8 (cI 1)] [3,7,8])
(.block 3 (.loop q2)))
q3)
def zrE:ACode:=zll zrC zrD
def zlm (q4:ACode):ACode:=.pr [3] (.seq (.seq (dr [dF (fA 38 0 none 3) [3],
dF (lD 39 none 38) [38],
dT (cL 40 zxL [39]) [39],
dF (fA 41 1 none 3) [3],
dA (lD 42 none 41) [41] false [2] [],
dF (lN 43 42) [42],
dF (bN 44 .gtr 43 (cI 1)) [43],
dF (uO 45 (.eqa [] true 40 44)) [40,44]] [3,45])
(.cond 45 (.seq (rg [mV 4 (cI 3)] [4])
.ret)
.skip))
(.seq (rg [fA 46 1 none 3,
lD 47 none 46,
mV 7 47] [3,7])
(.seq (.seq (rg [fA 48 0 none 3,
lD 49 none 48,
bN 50 .eql 49 (cI 5)] [3,7,50])
(.cond 50 (rg [mV 51 7,
uO 52 (.slice none 51 (some (cI 1)) none none),
mV 7 52] [3,7])
.skip))
q4)))
def zrF:ACode:=zlm zrE
def P_q00v (q1 q5:ACode):ACode:=(.seq (rg [uO 3 (.box 1),
mV 4 (cI 0)] [0,3])
(.seq (.block 0 (.seq (rg [mV 10 0,
cL 11 z1i [10,(cI 1),(cI 100)],
mV 9 11] [0,3,9])
(.cond 9 (.seq (rg [mV 4 (cI 1)] [4])
.ret)
(.seq (rg [fA 13 0 none 3,
lD 14 none 13,
cL 15 z1i [14,(cI 1),(cI 6)],
mV 12 15] [0,3,12])
(.cond 12 (.seq (rg [mV 4 (cI 4)] [4])
.ret)
(.seq (rg [fA 17 1 none 3,
lD 18 none 17,
lN 19 18,
bN 20 .eql 19 (cI 0),
mV 16 20] [0,3,16])
(.cond 16 (.seq (rg [mV 4 (cI 8)] [4])
.ret)
(.seq (rg [fA 22 1 none 3,
lD 23 none 22,
lN 24 23,
bN 25 .gtr 24 (cI 6),
mV 21 25] [0,3,21])
(.cond 21 (.seq (rg [mV 4 (cI 2)] [4])
.ret)
.skip)))))))))
(.seq (.seq (rg [fA 26 1 none 3,
lD 27 none 26,
lN 28 27,
mV 29 (cI 0)] [0,3,27,28,29])
(.block 1 (.loop q1)))
q5)))
def a_q00v:AFun:=⟨2,[.t 4],P_q00v zrB zrF,false,false⟩
def zrG:ACode:=.pr [0,13,14,15] (.seq (rg [bN 16 .lss 15 14] [0,13,14,15,16])
(.seq (.cond 16 .skip
(.exit 1))
(.seq (.block 2 (.seq (rg [iA 17 none 13 15,
lD 18 none 17,
mV 4 18] [0,4,13,14,15])
(.block 3 (.seq (rg [mV 20 4,
cL 21 z26 [20],
uO 22 (.un .not 21),
mV 19 22] [0,4,13,14,15,19])
(.cond 19 (.seq (rg [mV 2 (cI 3)] [2])
.ret)
(.seq (rg [mV 24 4,
uO 25 (.lens 24),
bN 26 .gtr 25 (cI 64),
mV 23 26] [0,4,13,14,15,23])
(.cond 23 (.seq (rg [mV 2 (cI 2)] [2])
.ret)
(.seq (rg [mV 28 4,
uO 29 (.lens 28),
mV 30 0,
iA 31 none 30 (cI 0),
lD 32 none 31,
uO 33 (.lens 32),
bN 34 .neq 29 33,
mV 27 34] [0,13,14,15,27])
(.cond 27 (.seq (rg [mV 2 (cI 3)] [2])
.ret)
.skip)))))))))
(rg [bN 35 .add 15 (cI 1),
mV 15 35] [0,13,14,15]))))
def zrH:ACode:=.pr [] (.seq (rg [mV 2 (cI 0)] [2])
.ret)
def P_q00w (q1 q2:ACode):ACode:=(.seq (rg [mV 2 (cI 0)] [0])
(.seq (.block 0 (.seq (rg [mV 6 0,
lN 7 6,
bN 8 .eql 7 (cI 0),
mV 5 8] [0,5])
(.cond 5 (.seq (rg [mV 2 (cI 8)] [2])
.ret)
(.seq (rg [mV 10 0,
lN 11 10,
bN 12 .gtr 11 (cI 100),
mV 9 12] [0,9])
(.cond 9 (.seq (rg [mV 2 (cI 2)] [2])
.ret)
.skip)))))
(.seq (.seq (rg [mV 13 0,
lN 14 13,
mV 15 (cI 0)] [0,13,14,15])
(.block 1 (.loop q1)))
q2)))
def a_q00w:AFun:=⟨1,[.t 2],P_q00w zrG zrH,false,false⟩
def zrI:ACode:=.pr [0,7,18,19,20] (.seq (rg [bN 21 .lss 20 19] [0,7,18,19,20,21])
(.seq (.cond 21 .skip
(.exit 0))
(.seq (.block 1 (.seq (rg [iA 22 (some 2) 18 20,
lD 23 (some 2) 22,
uO 9 (.alloc [.p (.int .i64 0),.sl0 none]),
wO (.store (some 2) 9 23)] [0,7,9,18,19,20])
(dr [dF (mV 24 7) [7],
dF (lD 25 (some 2) 9) [9],
dF (mV 26 0) [0],
dF (iA 27 none 26 (cI 0)) [26],
dF (lD 28 none 27) [27],
dF (uO 29 (.lens 28)) [28],
dA (cL 30 zxO [29]) [29] true [] [1],
dT (cL 31 zxP [24,25,30]) [24,25,30]] [0,7,18,19,20])))
(rg [bN 32 .add 20 (cI 1),
mV 20 32] [0,7,18,19,20]))))
def zrJ:ACode:=.pr [0,7] (.seq (rg [mV 33 7,
mV 34 0,
iA 35 none 34 (cI 0),
lD 36 none 35,
uO 37 (.lens 36),
cL 38 zxN [33,37],
mV 4 38,
mV 5 (cI 0)] [4,5])
.ret)
def P_q00x (q1 q2:ACode):ACode:=(.seq (rg [mV 4 (.c (.p (.sl none []))),
mV 5 (cI 0)] [0,1])
(.seq (.seq (rg [mV 10 0,
mV 11 1,
cL 12 zxK [10,11],
mV 6 12] [0,1,6])
(.seq (rg [mV 13 6,
bN 14 .neq 13 (cI 0)] [0,1,6,14])
(.cond 14 (.seq (rg [mV 15 6,
mV 4 (.c (.p (.sl none []))),
mV 5 15] [4,5])
.ret)
.skip)))
(.seq (rg [mV 16 0,
cL 17 zxM [16],
mV 7 17] [0,1,7])
(.seq (.seq (rg [mV 18 1,
lN 19 18,
mV 20 (cI 0)] [0,7,18,19,20])
(.block 0 (.loop (.scope q1))))
q2))))
def a_q00x:AFun:=⟨2,[.t 4,.t 5],P_q00x zrI zrJ,false,false⟩
def P_q00y:ACode:=(.seq (rg [uO 3 (.box 1),
mV 4 (.c (.p (.sl none []))),
mV 5 (cI 0)] [0,3])
(.seq (rg [mV 6 0,
lD 7 (some 2) 3,
uO 8 (.bsl false (some 2) 1 (.agg [.int .i64 0,.sl none []]) [(0,7)]),
cL 9 zxI [6,8],
eX 10 9 0,
eX 11 9 1,
mV 4 10,
mV 5 11] [4,5])
.ret))
def a_q00y:AFun:=⟨2,[.t 4,.t 5],P_q00y,false,false⟩
def zrK:ACode:=.pr [0,14,15,16] (.seq (rg [bN 17 .lss 16 15] [0,14,15,16,17])
(.seq (.cond 17 .skip
(.exit 0))
(.seq (.block 1 (.seq (rg [iA 18 (some 2) 14 16,
lD 19 (some 2) 18,
uO 7 (.alloc [.p (.int .i64 0),.sl0 none]),
wO (.store (some 2) 7 19)] [0,7,14,15,16])
(.seq (rg [mV 20 0,
lN 21 20,
lD 22 (some 2) 7,
cL 23 zxG [21,22],
mV 8 23] [0,8,14,15,16])
(.seq (rg [mV 24 8,
bN 25 .neq 24 (cI 0)] [0,8,14,15,16,25])
(.cond 25 (.seq (rg [mV 26 8,
mV 4 26] [4])
.ret)
.skip)))))
(rg [bN 27 .add 16 (cI 1),
mV 16 27] [0,14,15,16]))))
def zrL:ACode:=.pr [] (.seq (rg [mV 4 (cI 0)] [4])
.ret)
def P_q00z (q1 q2:ACode):ACode:=(.seq (rg [mV 4 (cI 0)] [0,1])
(.seq (.seq (rg [mV 9 0,
cL 10 zxH [9],
mV 5 10] [0,1,5])
(.seq (rg [mV 11 5,
bN 12 .neq 11 (cI 0)] [0,1,5,12])
(.cond 12 (.seq (rg [mV 13 5,
mV 4 13] [4])
.ret)
.skip)))
(.seq (.seq (rg [mV 14 1,
lN 15 14,
mV 16 (cI 0)] [0,14,15,16])
(.block 0 (.loop (.scope q1))))
q2)))
def a_q00z:AFun:=⟨2,[.t 4],P_q00z zrK zrL,false,false⟩
def P_q010:ACode:=(.seq (rg [mV 2 cF] [0])
(.seq (rg [mV 3 0,
cL 4 z1i [3,(cI 3),(cI 5)],
uO 5 (.un .not 4),
mV 2 5] [2])
.ret))
def a_q010:AFun:=⟨1,[.t 2],P_q010,false,false⟩
def zrM:ACode:=.pr [3,5,6,8,9,10,15,16] (.seq (rg [bN 17 .lss 16 15] [3,5,6,8,9,10,15,16,17])
(.seq (.cond 17 .skip
(.exit 2))
(.seq (.block 3 (.seq (rg [mV 18 16,
mV 7 18] [3,5,6,7,8,9,10,15,16])
(rg [mV 19 6,
mV 20 5,
mV 21 7,
uO 22 (.idxs 20 21),
bN 23 .sub 22 (.c (.p (.int .u8 48))),
uO 24 (.conv (.i .u64) 23),
mV 25 7,
bN 26 .shl 24 25,
bN 27 .or 19 26,
mV 6 27] [3,5,6,8,9,10,15,16])))
(rg [bN 28 .add 16 (cI 1),
mV 16 28] [3,5,6,8,9,10,15,16]))))
def zrN:ACode:=.pr [3,6,8,9,10] (rg [mV 29 3,
mV 30 6,
uO 31 (.bsl false none 1 (.int .u64 0) [(0,30)]),
uO 32 (.app none 29 31),
mV 3 32] [3,8,9,10])
def zrO:ACode:=.pr [3,8,9,10] (rg [bN 33 .add 10 (cI 1),
mV 10 33] [3,8,9,10])
def zln (q1 q2 q3:ACode):ACode:=.pr [3,8,9,10] (.seq (rg [bN 11 .lss 10 9] [3,8,9,10,11])
(.seq (.cond 11 .skip
(.exit 0))
(.seq (.block 1 (.seq (rg [iA 12 none 8 10,
lD 13 none 12,
mV 5 13] [3,5,8,9,10])
(.seq (rg [mV 6 (.c (.p (.int .u64 0)))] [3,5,6,8,9,10])
(.seq (.seq (rg [mV 14 5,
uO 15 (.lens 14),
mV 16 (cI 0)] [3,5,6,8,9,10,15,16])
(.block 2 (.loop q1)))
q2))))
q3)))
def zrP:ACode:=zln zrM zrN zrO
def zrQ:ACode:=.pr [3] (.seq (rg [mV 34 3,
mV 2 34] [2])
.ret)
def P_q011 (q4 q5:ACode):ACode:=(.seq (rg [mV 2 (.c (.p (.sl none [])))] [0])
(.seq (rg [uO 3 (.new0 none)] [0,3])
(.seq (.seq (rg [mV 8 0,
lN 9 8,
mV 10 (cI 0)] [3,8,9,10])
(.block 0 (.loop (.scope q4))))
q5)))
def a_q011:AFun:=⟨1,[.t 2],P_q011 zrP zrQ,false,true⟩
def zrR:ACode:=.pr [1,5,7,8,10,11,12,19,20] (.seq (rg [bN 21 .lss 20 19] [1,5,7,8,10,11,12,19,20,21])
(.seq (.cond 21 .skip
(.exit 2))
(.seq (.block 3 (.seq (rg [mV 22 20,
mV 9 22] [1,5,7,8,9,10,11,12,19,20])
(rg [mV 23 8,
mV 24 9,
mV 25 7,
mV 26 9,
bN 27 .shr 25 26,
bN 28 .and 27 (.c (.p (.int .u64 1))),
bN 29 .add (.c (.p (.int .u64 48))) 28,
uO 30 (.conv (.i .u8) 29),
iA 31 none 23 24,
wO (.store none 31 30)] [1,5,7,8,10,11,12,19,20])))
(rg [bN 32 .add 20 (cI 1),
mV 20 32] [1,5,7,8,10,11,12,19,20]))))
def zrS:ACode:=.pr [1,5,8,10,11,12] (rg [mV 33 5,
mV 34 8,
uO 35 (.conv .b2s 34),
uO 36 (.bsl false none 1 (.str []) [(0,35)]),
uO 37 (.app none 33 36),
mV 5 37] [1,5,10,11,12])
def zrT:ACode:=.pr [1,5,10,11,12] (rg [bN 38 .add 12 (cI 1),
mV 12 38] [1,5,10,11,12])
def zlo (q1 q2 q3:ACode):ACode:=.pr [1,5,10,11,12] (.seq (rg [bN 13 .lss 12 11] [1,5,10,11,12,13])
(.seq (.cond 13 .skip
(.exit 0))
(.seq (.block 1 (.seq (rg [iA 14 none 10 12,
lD 15 none 14,
mV 7 15] [1,5,7,10,11,12])
(.seq (rg [mV 16 1,
uO 17 (.mksl none (.int .u8 0) 16 16),
mV 8 17] [1,5,7,8,10,11,12])
(.seq (.seq (rg [mV 18 8,
lN 19 18,
mV 20 (cI 0)] [1,5,7,8,10,11,12,19,20])
(.block 2 (.loop q1)))
q2))))
q3)))
def zrU:ACode:=zlo zrR zrS zrT
def zrV:ACode:=.pr [5] (.seq (rg [mV 39 5,
mV 4 39] [4])
.ret)
def P_q012 (q4 q5:ACode):ACode:=(.seq (rg [mV 4 (.c (.p (.sl none [])))] [0,1])
(.seq (rg [uO 5 (.new0 none)] [0,1,5])
(.seq (.seq (rg [mV 10 0,
lN 11 10,
mV 12 (cI 0)] [1,5,10,11,12])
(.block 0 (.loop (.scope q4))))
q5)))
def a_q012:AFun:=⟨2,[.t 4],P_q012 zrU zrV,false,false⟩
def P_q013:ACode:=(.seq (rg [mV 2 (.c (.p (.int .u64 0)))] [0])
(.seq (rg [mV 3 0,
bN 4 .shl (.c (.p (.int .u64 1))) 3,
bN 5 .sub 4 (.c (.p (.int .u64 1))),
mV 2 5] [2])
.ret))
def a_q013:AFun:=⟨1,[.t 2],P_q013,false,false⟩
def zrW:ACode:=.pr [0,4,6,31,32,33] (.seq (rg [bN 34 .lss 33 32] [0,4,6,31,32,33,34])
(.seq (.cond 34 .skip
(.exit 1))
(.seq (.block 2 (.seq (rg [iA 35 none 31 33,
lD 36 none 35,
mV 8 36] [0,4,6,8,31,32,33])
(rg [mV 37 6,
mV 38 0,
mV 39 8,
iA 40 none 38 39,
lD 41 none 40,
bN 42 .and 37 41,
mV 6 42] [0,4,6,31,32,33])))
(rg [bN 43 .add 33 (cI 1),
mV 33 43] [0,4,6,31,32,33]))))
def zrX:ACode:=.pr [0,4,6,47,48,49] (.seq (rg [bN 50 .lss 49 48] [0,4,6,47,48,49,50])
(.seq (.cond 50 .skip
(.exit 3))
(.seq (.block 4 (.seq (rg [iA 51 none 47 49,
lD 52 none 51,
mV 10 52] [0,4,6,10,47,48,49])
(rg [mV 53 6,
mV 54 0,
mV 55 10,
iA 56 none 54 55,
lD 57 none 56,
bN 58 .or 53 57,
mV 6 58] [0,4,6,47,48,49])))
(rg [bN 59 .add 49 (cI 1),
mV 49 59] [0,4,6,47,48,49]))))
def zlp (q1 q2:ACode):ACode:=.pr [0,2,4,6,21,24] (.cond 24 (rg [mV 27 2,
mV 6 27] [0,4,6])
(.seq (rg [bN 29 .eql 21 (cI 3),
mV 28 29] [0,4,6,21,28])
(.cond 28 (.seq (rg [fA 30 1 none 4,
lD 31 none 30,
lN 32 31,
mV 33 (cI 0)] [0,4,6,31,32,33])
(.block 1 (.loop q1)))
(.seq (rg [bN 45 .eql 21 (cI 4),
mV 44 45] [0,4,6,44])
(.cond 44 (.seq (rg [fA 46 1 none 4,
lD 47 none 46,
lN 48 47,
mV 49 (cI 0)] [0,4,6,47,48,49])
(.block 3 (.loop q2)))
.skip)))))
def zrY:ACode:=zlp zrW zrX
def zrZ:ACode:=.pr [0,6,61,62,63] (.seq (rg [bN 64 .lss 63 62] [0,6,61,62,63,64])
(.seq (.cond 64 .skip
(.exit 5))
(.seq (.block 6 (.seq (rg [iA 65 none 61 63,
lD 66 none 65,
mV 12 66] [0,6,12,61,62,63])
(rg [mV 67 0,
mV 68 12,
mV 69 6,
iA 70 none 67 68,
wO (.store none 70 69)] [0,6,61,62,63])))
(rg [bN 71 .add 63 (cI 1),
mV 63 71] [0,6,61,62,63]))))
def zlq (q4:ACode):ACode:=.pr [0,4,6] (.seq (rg [fA 60 1 none 4,
lD 61 none 60,
lN 62 61,
mV 63 (cI 0)] [0,6,61,62,63])
(.block 5 (.loop q4)))
def zsa:ACode:=zlq zrZ
def P_q014 (q3 q5:ACode):ACode:=(.seq (rg [uO 4 (.box 1)] [0,2,4])
(.seq (rg [mV 13 0,
fA 14 1 none 4,
lD 15 none 14,
iA 16 none 15 (cI 0),
lD 17 none 16,
iA 18 none 13 17,
lD 19 none 18,
mV 6 19] [0,2,4,6])
(.seq (.seq (rg [fA 20 0 none 4,
lD 21 none 20] [0,2,4,6,21])
(.block 0 (.seq (rg [bN 23 .eql 21 (cI 1),
mV 22 23] [0,2,4,6,21,22])
(.cond 22 (rg [mV 6 (.c (.p (.int .u64 0)))] [0,4,6])
(.seq (.seq (rg [bN 25 .eql 21 (cI 2),
mV 24 25] [0,2,4,6,21,24])
(.cond 24 .skip
(rg [bN 26 .eql 21 (cI 6),
mV 24 26] [0,2,4,6,21,24])))
q3)))))
q5)))
def a_q014:AFun:=⟨3,[],P_q014 zrY zsa,true,false⟩
def P_q018:ACode:=(.seq (rg [mV 4 (cI 0)] [0,1])
(.seq (rg [mV 5 0,
mV 6 1,
cL 7 z0s [5,6],
mV 4 7] [4])
.ret))
def a_q018:AFun:=⟨2,[.t 4],P_q018,false,false⟩
def P_q01y:ACode:=(.seq (rg [uO 2 (.alloc [.p (.int .i64 0),.p (.int .i64 0)]),
uO 3 (.alloc [.p (.int .i64 0),.p (.int .i64 0)]),
mV 4 (cI 0)] [0,2,3])
(.seq (.seq (rg [mV 9 0,
cL 10 zxU [9,(cI 1)],
mV 5 10] [0,2,3,5])
(.seq (rg [mV 11 5,
bN 12 .neq 11 (cI 0)] [0,2,3,5,12])
(.cond 12 (.seq (rg [uO 13 (.build [.p (.int .i64 0),.p (.int .i64 0)] []),
uO 14 (.build [.p (.int .i64 0),.p (.int .i64 0)] []),
mV 15 5,
wO (.store (some 2) 2 13),
wO (.store (some 2) 3 14),
mV 4 15] [2,3,4])
.ret)
.skip)))
(.seq (rg [mV 17 0,
cL 18 zxT [17],
mV 16 18,
eX 19 16 0,
eX 20 16 1,
mV 6 19,
mV 7 20] [0,2,3,6,7])
(.seq (rg [mV 21 0,
lN 22 21,
mV 8 22] [2,3,6,7,8])
(.seq (rg [mV 23 6,
mV 24 8,
cL 25 zpz [23,24],
mV 26 7,
mV 27 8,
mV 28 8,
bN 29 .mul 27 28,
cL 30 zpz [26,29],
wO (.store (some 2) 2 25),
wO (.store (some 2) 3 30),
mV 4 (cI 0)] [2,3,4])
.ret)))))
def a_q01y:AFun:=⟨1,[.cell 2 (some 2),.cell 3 (some 2),.t 4],P_q01y,false,false⟩
def P_q01z:ACode:=(.seq (rg [mV 2 cF] [0])
(.seq (rg [mV 3 0,
cL 4 z1i [3,(cI (-100000)),(cI 100000)],
uO 5 (.un .not 4),
mV 2 5] [2])
.ret))
def a_q01z:AFun:=⟨1,[.t 2],P_q01z,false,false⟩
def zsb:ACode:=.pr [0,2,4,7,8,9] (.seq (rg [bN 10 .lss 9 8] [0,2,4,7,8,9,10])
(.seq (.cond 10 .skip
(.exit 0))
(.seq (.block 1 (.seq (rg [iA 11 none 7 9,
lD 12 none 11,
mV 6 12] [0,2,4,6,7,8,9])
(.seq (rg [mV 13 2,
mV 14 6,
bN 15 .add 13 14,
mV 2 15] [0,2,4,6,7,8,9])
(rg [mV 16 4,
mV 17 6,
mV 18 6,
bN 19 .mul 17 18,
bN 20 .add 16 19,
mV 4 20] [0,2,4,7,8,9]))))
(rg [bN 21 .add 9 (cI 1),
mV 9 21] [0,2,4,7,8,9]))))
def zsc:ACode:=.pr [0,2,4] (.seq (rg [mV 22 2,
mV 23 0,
lN 24 23,
mV 25 4,
bN 26 .mul 24 25,
mV 27 2,
mV 28 2,
bN 29 .mul 27 28,
bN 30 .sub 26 29,
mV 2 22,
mV 3 30] [2,3])
.ret)
def P_q020 (q1 q2:ACode):ACode:=(.seq (rg [mV 2 (cI 0),
mV 3 (cI 0)] [0,2])
(.seq (rg [mV 4 (cI 0)] [0,2,4])
(.seq (.seq (rg [mV 7 0,
lN 8 7,
mV 9 (cI 0)] [0,2,4,7,8,9])
(.block 0 (.loop q1)))
q2)))
def a_q020:AFun:=⟨1,[.t 2,.t 3],P_q020 zsb zsc,false,false⟩
def P_q021:ACode:=(.seq (rg [mV 4 (cI 0)] [0,1])
(.seq (.block 0 (.seq (rg [mV 6 0,
lN 7 6,
mV 8 1,
bN 9 .lss 7 8,
mV 5 9] [0,5])
(.cond 5 (.seq (rg [mV 4 (cI 8)] [4])
.ret)
(.seq (rg [mV 11 0,
lN 12 11,
bN 13 .gtr 12 (cI 5000),
mV 10 13] [0,10])
(.cond 10 (.seq (rg [mV 4 (cI 2)] [4])
.ret)
(.seq (rg [mV 15 0,
cL 16 zxZ [15,(.f zxV)],
mV 14 16] [14])
(.cond 14 (.seq (rg [mV 4 (cI 1)] [4])
.ret)
.skip)))))))
(.seq (rg [mV 4 (cI 0)] [4])
.ret)))
def a_q021:AFun:=⟨2,[.t 4],P_q021,false,false⟩
def P_q022:ACode:=(.seq (rg [mV 2 cF] [0])
(.seq (rg [mV 3 0,
cL 4 zxS [3],
uO 5 (.un .not 4),
mV 2 5] [2])
.ret))
def a_q022:AFun:=⟨1,[.t 2],P_q022,false,false⟩
def P_q02g:ACode:=(.seq (rg [mV 0 cF] [])
(.seq (rg [cL 13 zxW [],
uO 14 (.bsl false none 1 (.str []) [(0,(cS [49]))]),
cL 15 zx3 [13,14],
mV 12 15,
eX 16 12 0,
eX 17 12 1,
mV 1 16,
mV 2 17] [1,2])
(.seq (rg [uO 19 (.bsl false none 1 (.str []) [(0,(cS [48,49]))]),
uO 20 (.bsl false none 1 (.int .i64 0) [(0,(cI 0))]),
uO 21 (.build [.p (.int .i64 0),.sl0 none] [(0,1,(cI 2)),(1,1,20)]),
cL 22 zxJ [19,21],
mV 18 22,
eX 23 18 0,
eX 24 18 1,
mV 3 23,
mV 4 24] [1,2,3,4])
(.seq (rg [uO 26 (.build [.p (.int .i64 0),.p (.int .i64 0),.p (.int .i64 0),.p (.str []),.p (.str []),.p (.str [])] [(0,1,(cI 7)),(3,1,(cS [49,48]))]),
uO 27 (.bsl false (some 6) 1 (.agg [.int .i64 0,.int .i64 0,.int .i64 0,.str [],.str [],.str []]) [(0,26)]),
cL 28 zys [27],
mV 25 28,
eX 29 25 0,
eX 30 25 1,
mV 5 29,
mV 6 30] [1,2,3,4,5,6])
(.seq (rg [uO 32 (.bsl false none 2 (.int .i64 0) [(0,(cI 1)),(1,(cI 3))]),
cL 33 zxR [32],
mV 31 33,
eX 34 31 0,
eX 35 31 1,
eX 36 31 2,
uO 7 (.alloc [.p (.int .i64 0),.p (.int .i64 0)]),
uO 8 (.alloc [.p (.int .i64 0),.p (.int .i64 0)]),
wO (.store (some 2) 7 34),
wO (.store (some 2) 8 35),
mV 9 36] [1,2,3,4,5,6,7,9])
(.seq (rg [uO 38 (.bsl false none 1 (.str []) [(0,(cS [115,99,97,110]))]),
uO 39 (.build [.sl0 none,.p (.int .i64 0)] [(0,1,38),(1,1,(cI 1))]),
uO 40 (.build [.p (.str []),.p (.int .i64 0),.p (.int .i64 0),.p (.int .i64 0),.p (.str []),.p (.str []),.p (.str []),.p (.int .i64 0)] [(0,1,(cS [97])),(1,1,(cI 1)),(3,1,(cI 1)),(4,1,(cS [98]))]),
uO 41 (.bsl false (some 8) 1 (.agg [.str [],.int .i64 0,.int .i64 0,.int .i64 0,.str [],.str [],.str [],.int .i64 0]) [(0,40)]),
cL 42 zye [39,41,(cS [98]),(cI 0)],
mV 37 42,
eX 43 37 0,
eX 44 37 1,
uO 10 (.alloc [.p (.int .i64 0),.p (.int .i64 0),.p (.str []),.p (.str []),.p (.int .i64 0)]),
wO (.store (some 5) 10 43),
mV 11 44] [1,2,3,4,5,6,7,9,10,11])
(.seq (rg [mV 45 2,
mV 46 4,
mV 47 6,
mV 48 9,
mV 49 11,
uO 50 (.bsl false none 5 (.int .i64 0) [(0,45),(1,46),(2,47),(3,48),(4,49)]),
cL 51 z71 [50],
bN 52 .eql 51 (cI 0),
mV 53 52,
gD 54 53 true (.mv 1),
gD 55 53 true (.len 54),
gD 56 53 true (.bin .eql 55 (cI 1)),
uO 57 (.pick 53 56 cF),
mV 58 57,
gD 59 58 true (.mv 1),
gD 60 58 true (.iaddr none 59 (cI 0)),
gD 61 58 true (.load none 60),
gD 62 58 true (.bin .eql 61 (cI 1)),
uO 63 (.pick 58 62 cF),
mV 64 63,
gD 65 64 true (.mv 3),
gD 66 64 true (.len 65),
gD 67 64 true (.bin .eql 66 (cI 1)),
uO 68 (.pick 64 67 cF),
mV 69 68,
gD 70 69 true (.mv 3),
gD 71 69 true (.iaddr none 70 (cI 0)),
gD 72 69 true (.load none 71),
gD 73 69 true (.bin .eql 72 (cS [49,49])),
uO 74 (.pick 69 73 cF),
mV 75 74,
gD 76 75 true (.mv 5),
gD 77 75 true (.bin .eql 76 (cI 9)),
uO 78 (.pick 75 77 cF),
mV 79 78,
gD 80 79 true (.faddr 0 none 7),
gD 81 79 true (.load none 80),
gD 82 79 true (.bin .eql 81 (cI 2)),
uO 83 (.pick 79 82 cF),
mV 84 83,
gD 85 84 true (.faddr 0 none 10),
gD 86 84 true (.load none 85),
gD 87 84 true (.bin .eql 86 (cI 1)),
uO 88 (.pick 84 87 cF),
mV 0 88] [0])
.ret)))))))
def a_q02g:AFun:=⟨0,[.t 0],P_q02g,false,false⟩
def P_q02h:ACode:=(.seq (rg [uO 0 (.alloc [.sl0 (some 2),.sl0 (some 3),.sl0 (some 2)])] [0])
(.seq (rg [uO 1 (.build [.p (.int .i64 0),.p (.str []),.p (.int .i64 0),.p (.int .i64 0)] [(0,1,(cI 2)),(1,1,(cS [97])),(2,1,(cI (-1)))]),
uO 2 (.bsl false (some 4) 1 (.agg [.int .i64 0,.str [],.int .i64 0,.int .i64 0]) [(0,1)]),
uO 3 (.build [.p (.str []),.sl0 (some 4)] [(0,1,(cS [117])),(1,1,2)]),
uO 4 (.bsl false (some 2) 1 (.agg [.str [],.sl (some 4) []]) [(0,3)]),
uO 5 (.build [.p (.str []),.p (.str []),.p (.str [])] [(0,1,(cS [110])),(1,1,(cS [117])),(2,1,(cS [97]))]),
uO 6 (.bsl false (some 3) 1 (.agg [.str [],.str [],.str []]) [(0,5)]),
uO 7 (.build [.sl0 (some 2),.sl0 (some 3),.sl0 (some 2)] [(0,1,4),(1,1,6)]),
wO (.store (some 3) 0 7)] [0])
.ret))
def a_q02h:AFun:=⟨0,[.cell 0 (some 3)],P_q02h,false,false⟩
def zsd:ACode:=.pr [0,1,2,8,9,10] (.seq (.seq (rg [mV 15 9,
mV 16 10,
bN 17 .lss 15 16] [0,1,2,8,9,10,17])
(.cond 17 .skip
(.exit 0)))
(.block 1 (.seq (rg [mV 18 9,
mV 19 10,
bN 20 .add 18 19,
uO 21 (.conv (.i .u64) 20),
bN 22 .shr 21 (.c (.p (.int .u64 1))),
uO 23 (.conv (.i .i64) 22),
mV 11 23] [0,1,2,8,9,10,11])
(.seq (rg [mV 24 2,
mV 25 0,
mV 26 11,
iA 27 (some 2) 25 26,
lD 28 (some 2) 27,
mV 29 1,
uO 30 (.callv 24 [28,29]),
bN 31 .lss 30 (cI 0)] [0,1,2,8,9,10,11,31])
(.cond 31 (rg [mV 32 11,
bN 33 .add 32 (cI 1),
mV 9 33] [0,1,2,8,9,10])
(rg [mV 34 11,
mV 10 34] [0,1,2,8,9,10]))))))
def zse:ACode:=.pr [0,1,2,8,9] (.seq (rg [mV 35 9,
mV 36 9,
mV 37 8,
bN 38 .lss 36 37,
mV 39 38,
gD 40 39 true (.mv 2),
gD 41 39 true (.mv 0),
gD 42 39 true (.mv 9),
gD 43 39 true (.iaddr (some 2) 41 42),
gD 44 39 true (.load (some 2) 43),
gD 45 39 true (.mv 1),
gD 46 39 true (.callv 40 [44,45]),
gD 47 39 true (.bin .eql 46 (cI 0)),
uO 48 (.pick 39 47 cF),
mV 6 35,
mV 7 48] [6,7])
.ret)
def P_q03t (q1 q2:ACode):ACode:=(.seq (rg [mV 6 (cI 0),
mV 7 cF] [0,1,2])
(.seq (rg [mV 12 0,
lN 13 12,
mV 8 13] [0,1,2,8])
(.seq (rg [mV 14 8,
mV 9 (cI 0),
mV 10 14] [0,1,2,8,9,10])
(.seq (.block 0 (.loop q1))
q2))))
def a_q03t:AFun:=⟨3,[.t 6,.t 7],P_q03t zsd zse,false,false⟩
def zsf:ACode:=.pr [0,3,4,5] (rg [mV 33 5,
bN 34 .add 33 (cI 1),
mV 5 34] [0,3,4,5])
def zlr (q1:ACode):ACode:=.pr [0,3,4,5] (.seq (.seq (rg [mV 29 5,
mV 30 4,
lN 31 30,
bN 32 .lss 29 31] [0,3,4,5,32])
(.cond 32 .skip
(.exit 2)))
(.seq (.block 3 (.seq (dr [dF (mV 35 4) [4],
dF (mV 36 5) [5],
dF (iA 37 none 35 36) [35,36],
dF (lD 38 none 37) [37],
dF (mV 39 4) [4],
dF (mV 40 5) [5],
dF (bN 41 .sub 40 (cI 1)) [40],
dF (iA 42 none 39 41) [39,41],
dF (lD 43 none 42) [42],
dF (bN 44 .neq 38 43) [38,43]] [0,3,4,5,44])
(.cond 44 (.seq (rg [mV 45 0,
mV 46 3,
mV 47 4,
mV 48 5,
iA 49 none 47 48,
lD 50 none 49,
iA 51 none 45 46,
wO (.store none 51 50)] [0,3,4,5])
(rg [mV 52 3,
bN 53 .add 52 (cI 1),
mV 3 53] [0,3,4,5]))
.skip)))
q1))
def zsg:ACode:=zlr zsf
def zsh:ACode:=.pr [0,3] (.seq (rg [mV 54 0,
mV 55 3,
uO 56 (.slice none 54 (some 55) none none),
wO (.clr none (.str []) 56)] [0,3])
(.seq (rg [mV 57 0,
mV 58 3,
uO 59 (.slice none 57 none (some 58) none),
mV 2 59] [2])
.ret))
def zsi:ACode:=.pr [0,3] (rg [mV 14 3,
bN 15 .add 14 (cI 1),
mV 3 15] [0,3])
def zls (q2 q3 q4:ACode):ACode:=.pr [0,3] (.seq (.seq (rg [mV 10 3,
mV 11 0,
lN 12 11,
bN 13 .lss 10 12] [0,3,13])
(.cond 13 .skip
(.exit 0)))
(.seq (.block 1 (.seq (dr [dF (mV 16 0) [0],
dF (mV 17 3) [3],
dF (iA 18 none 16 17) [16,17],
dF (lD 19 none 18) [18],
dF (mV 20 0) [0],
dF (mV 21 3) [3],
dF (bN 22 .sub 21 (cI 1)) [21],
dF (iA 23 none 20 22) [20,22],
dF (lD 24 none 23) [23],
dF (bN 25 .eql 19 24) [19,24]] [0,3,25])
(.cond 25 (.seq (rg [mV 26 0,
mV 27 3,
uO 28 (.slice none 26 (some 27) none none),
mV 4 28] [0,3,4])
(.seq (.seq (rg [mV 5 (cI 1)] [0,3,4,5])
(.block 2 (.loop q2)))
q3))
.skip)))
q4))
def zsj:ACode:=zls zsg zsh zsi
def zsk:ACode:=.pr [0] (.seq (rg [mV 60 0,
mV 2 60] [2])
.ret)
def P_q03u (q5 q6:ACode):ACode:=(.seq (rg [mV 2 (.c (.p (.sl none [])))] [0])
(.seq (.seq (rg [mV 6 0,
lN 7 6,
bN 8 .lss 7 (cI 2)] [0,8])
(.cond 8 (.seq (rg [mV 9 0,
mV 2 9] [2])
.ret)
.skip))
(.seq (.seq (rg [mV 3 (cI 1)] [0,3])
(.block 0 (.loop q5)))
q6)))
def a_q03u:AFun:=⟨1,[.t 2],P_q03u zsj zsk,true,false⟩
def P_q03v:ACode:=(.seq (rg [mV 4 cF] [0,1])
(.seq (rg [mV 5 0,
mV 6 1,
cL 7 zya [5,6],
bN 8 .geq 7 (cI 0),
mV 4 8] [4])
.ret))
def a_q03v:AFun:=⟨2,[.t 4],P_q03v,true,false⟩
def P_q03w:ACode:=(.seq (rg [mV 4 cF] [0,1])
(.seq (rg [mV 5 0,
mV 6 1,
cL 7 zyb [5,6],
bN 8 .geq 7 (cI 0),
mV 4 8] [4])
.ret))
def a_q03w:AFun:=⟨2,[.t 4],P_q03w,true,false⟩
end Go.Am
end
section
/- The functions asv abstract code,and asv formulas over their values: printed by program out of the translation. -/
set_option linter.unusedVariables false
set_option maxRecDepth 100000
namespace Go.Am
def zsl:ACode:=.pr [0,1,7,8] (.seq (rg [bN 9 .lss 8 7] [0,1,7,8,9])
(.seq (.cond 9 .skip
(.exit 0))
(.seq (.block 1 (.seq (rg [mV 10 8,
mV 5 10] [0,1,5,7,8])
(.seq (rg [mV 11 1,
mV 12 0,
mV 13 5,
iA 14 (some 4) 12 13,
lD 15 (some 4) 14,
uO 16 (.callv 11 [15])] [0,1,5,7,8,16])
(.cond 16 (.seq (rg [mV 17 5,
mV 4 17] [4])
.ret)
.skip))))
(rg [bN 18 .add 8 (cI 1),
mV 8 18] [0,1,7,8]))))
def zsm:ACode:=.pr [] (.seq (rg [mV 4 (cI (-1))] [4])
.ret)
def P_q042 (q1 q2:ACode):ACode:=(.seq (rg [mV 4 (cI 0)] [0,1])
(.seq (.seq (rg [mV 6 0,
lN 7 6,
mV 8 (cI 0)] [0,1,7,8])
(.block 0 (.loop q1)))
q2))
def a_q042:AFun:=⟨2,[.t 4],P_q042 zsl zsm,true,false⟩
def zsn:ACode:=.pr [0,1,7,8] (.seq (rg [bN 9 .lss 8 7] [0,1,7,8,9])
(.seq (.cond 9 .skip
(.exit 0))
(.seq (.block 1 (.seq (rg [mV 10 8,
mV 5 10] [0,1,5,7,8])
(.seq (rg [mV 11 1,
mV 12 0,
mV 13 5,
iA 14 none 12 13,
lD 15 none 14,
uO 16 (.callv 11 [15])] [0,1,5,7,8,16])
(.cond 16 (.seq (rg [mV 17 5,
mV 4 17] [4])
.ret)
.skip))))
(rg [bN 18 .add 8 (cI 1),
mV 8 18] [0,1,7,8]))))
def zso:ACode:=.pr [] (.seq (rg [mV 4 (cI (-1))] [4])
.ret)
def P_q043 (q1 q2:ACode):ACode:=(.seq (rg [mV 4 (cI 0)] [0,1])
(.seq (.seq (rg [mV 6 0,
lN 7 6,
mV 8 (cI 0)] [0,1,7,8])
(.block 0 (.loop q1)))
q2))
def a_q043:AFun:=⟨2,[.t 4],P_q043 zsn zso,true,false⟩
def zsp:ACode:=.pr [0,9,10,11] (.seq (rg [bN 12 .lss 11 10] [0,9,10,11,12])
(.seq (.cond 12 .skip
(.exit 0))
(.seq (.block 1 (.seq (rg [mV 13 11,
iA 14 (some 8) 9 11,
lD 15 (some 8) 14,
uO 4 (.alloc [.p (.str []),.p (.int .i64 0),.p (.int .i64 0),.p (.int .i64 0),.p (.str []),.p (.str []),.p (.str []),.p (.int .i64 0)]),
mV 3 13,
wO (.store (some 8) 4 15)] [0,3,4,9,10,11])
(.seq (.seq (rg [lD 16 (some 8) 4,
cL 17 zyh [16],
mV 5 17] [0,3,4,5,9,10,11])
(.seq (rg [mV 18 5,
bN 19 .neq 18 (cI 0)] [0,3,4,5,9,10,11,19])
(.cond 19 (.seq (rg [mV 20 5,
mV 2 20] [2])
.ret)
.skip)))
(.seq (dr [dF (mV 21 3) [3],
dF (bN 22 .gtr 21 (cI 0)) [21],
dF (mV 23 22) [22],
dF (gD 24 23 true (.load (some 8) 4)) [4,23],
dF (gD 25 23 true (.mv 0)) [0,23],
dF (gD 26 23 true (.mv 3)) [3,23],
dF (gD 27 23 true (.bin .sub 26 (cI 1))) [26,23],
dF (gD 28 23 true (.iaddr (some 8) 25 27)) [25,27,23],
dF (gD 29 23 true (.load (some 8) 28)) [28,23],
dT (gD 30 23 true (.call zyf [24,29])) [24,29,23],
dF (gD 31 23 true (.bin .leq 30 (cI 0))) [30,23],
dF (uO 32 (.pick 23 31 cF)) [23,31]] [0,9,10,11,32])
(.cond 32 (.seq (rg [mV 2 (cI 7)] [2])
.ret)
.skip)))))
(rg [bN 33 .add 11 (cI 1),
mV 11 33] [0,9,10,11]))))
def zsq:ACode:=.pr [0] (.seq (.seq (rg [mV 34 0,
cL 35 zyp [34]] [35])
(.cond 35 (.seq (rg [mV 2 (cI 6)] [2])
.ret)
.skip))
(.seq (rg [mV 2 (cI 0)] [2])
.ret))
def P_q046 (q1 q2:ACode):ACode:=(.seq (rg [mV 2 (cI 0)] [0])
(.seq (.seq (rg [mV 6 0,
lN 7 6,
bN 8 .gtr 7 (cI 2000)] [0,8])
(.cond 8 (.seq (rg [mV 2 (cI 2)] [2])
.ret)
.skip))
(.seq (.seq (rg [mV 9 0,
lN 10 9,
mV 11 (cI 0)] [0,9,10,11])
(.block 0 (.loop (.scope q1))))
q2)))
def a_q046:AFun:=⟨1,[.t 2],P_q046 zsp zsq,false,false⟩
def zsr:ACode:=.pr [1,16,17,18] (.seq (rg [bN 19 .lss 18 17] [1,16,17,18,19])
(.seq (.cond 19 .skip
(.exit 1))
(.seq (.block 2 (.seq (rg [mV 20 18,
iA 21 none 16 18,
lD 22 none 21,
mV 3 20,
mV 4 22] [1,3,4,16,17,18])
(.block 3 (.seq (rg [mV 24 4,
cL 25 z5r [24],
uO 26 (.un .not 25),
mV 23 26] [1,3,4,16,17,18,23])
(.cond 23 (.seq (rg [mV 2 (cI 5)] [2])
.ret)
(.seq (rg [fA 28 0 none 1,
lD 29 none 28,
mV 30 3,
uO 31 (.slice none 29 none (some 30) none),
mV 32 4,
cL 33 z5Z [31,32],
mV 27 33] [1,16,17,18,27])
(.cond 27 (.seq (rg [mV 2 (cI 6)] [2])
.ret)
.skip)))))))
(rg [bN 34 .add 18 (cI 1),
mV 18 34] [1,16,17,18]))))
def zss:ACode:=.pr [1] (.seq (.seq (rg [fA 35 1 none 1,
lD 36 none 35,
cL 37 z1i [36,(cI 1),(cI 10)]] [37])
(.cond 37 (.seq (rg [mV 2 (cI 1)] [2])
.ret)
.skip))
(.seq (rg [mV 2 (cI 0)] [2])
.ret))
def P_q047 (q1 q2:ACode):ACode:=(.seq (rg [uO 1 (.box 0),
mV 2 (cI 0)] [1])
(.seq (.block 0 (.seq (rg [fA 6 0 none 1,
lD 7 none 6,
lN 8 7,
bN 9 .eql 8 (cI 0),
mV 5 9] [1,5])
(.cond 5 (.seq (rg [mV 2 (cI 8)] [2])
.ret)
(.seq (rg [fA 11 0 none 1,
lD 12 none 11,
lN 13 12,
bN 14 .gtr 13 (cI 20),
mV 10 14] [1,10])
(.cond 10 (.seq (rg [mV 2 (cI 2)] [2])
.ret)
.skip)))))
(.seq (.seq (rg [fA 15 0 none 1,
lD 16 none 15,
lN 17 16,
mV 18 (cI 0)] [1,16,17,18])
(.block 1 (.loop q1)))
q2)))
def a_q047:AFun:=⟨1,[.t 2],P_q047 zsr zss,false,false⟩
def P_q048:ACode:=(.seq (rg [uO 4 (.box 0),
uO 8 (.alloc [.p (.int .i64 0),.p (.int .i64 0),.p (.str []),.p (.str []),.p (.int .i64 0)]),
mV 9 (cI 0)] [1,2,3,4,8])
(.seq (.seq (rg [lD 12 (some 2) 4,
mV 13 1,
mV 14 3,
cL 15 zyi [12,13,14],
mV 10 15] [1,2,3,4,8,10])
(.seq (rg [mV 16 10,
bN 17 .neq 16 (cI 0)] [1,2,3,4,8,10,17])
(.cond 17 (.seq (rg [uO 18 (.build [.p (.int .i64 0),.p (.int .i64 0),.p (.str []),.p (.str []),.p (.int .i64 0)] []),
mV 19 10,
wO (.store (some 5) 8 18),
mV 9 19] [8,9])
.ret)
.skip)))
(.seq (.seq (rg [mV 20 2,
cL 21 z5r [20],
uO 22 (.un .not 21)] [1,2,3,4,8,22])
(.cond 22 (.seq (rg [uO 23 (.build [.p (.int .i64 0),.p (.int .i64 0),.p (.str []),.p (.str []),.p (.int .i64 0)] []),
wO (.store (some 5) 8 23),
mV 9 (cI 5)] [8,9])
.ret)
.skip))
(.seq (dr [dF (lD 24 (some 2) 4) [4],
dF (mV 25 1) [1],
dF (mV 26 3) [3],
dA (cL 27 zyq [25,26]) [25,26] true [] [0],
dT (cL 28 zyn [24,27]) [24,27],
dF (uO 29 (.nilchk 28)) [28],
dF (fA 30 2 none 29) [29],
dF (lD 31 none 30) [30],
dF (mV 32 2) [2],
dF (uO 33 (.look (none,[2]) false (.nilp) 31 32)) [31,32],
dF (mV 11 33) [33]] [8,11])
(.seq (.seq (rg [mV 34 11,
uO 35 (.isnil 0 false 34)] [8,11,35])
(.cond 35 (.seq (rg [uO 36 (.build [.p (.int .i64 0),.p (.int .i64 0),.p (.str []),.p (.str []),.p (.int .i64 0)] []),
wO (.store (some 5) 8 36),
mV 9 (cI 8)] [8,9])
.ret)
.skip))
(.seq (rg [mV 37 11,
uO 38 (.nilchk 37),
lD 39 (some 5) 38,
wO (.store (some 5) 8 39),
mV 9 (cI 0)] [8,9])
.ret))))))
def a_q048:AFun:=⟨4,[.cell 8 (some 5),.t 9],P_q048,false,false⟩
def P_q049:ACode:=(.seq (rg [uO 2 (.box 0),
uO 3 (.box 1),
mV 4 (cI 0)] [2,3])
(.seq (dr [dF (fA 5 2 none 2) [2],
dF (lD 6 none 5) [5],
dF (fA 7 2 none 3) [3],
dF (lD 8 none 7) [7],
dT (cL 9 zp1 [6,8]) [6,8],
dF (fA 10 0 none 2) [2],
dA (lD 11 none 10) [10] false [4] [],
dF (fA 12 0 none 3) [3],
dA (lD 13 none 12) [12] false [4] [],
dT (cL 14 zaE [11,13]) [11,13],
dF (fA 15 1 none 2) [2],
dA (lD 16 none 15) [15] false [4,9] [],
dF (fA 17 1 none 3) [3],
dA (lD 18 none 17) [17] false [4,9] [],
dT (cL 19 zp1 [16,18]) [16,18],
dF (uO 20 (.bsl false none 3 (.int .i64 0) [(0,9),(1,14),(2,19)])) [9,14,19],
dT (cL 21 zp2 [20]) [20],
dF (mV 4 21) [21]] [4])
.ret))
def a_q049:AFun:=⟨2,[.t 4],P_q049,false,false⟩
def zst:ACode:=.pr [0,3,4,5] (rg [mV 16 5,
bN 17 .sub 16 (cI 1),
mV 5 17] [0,3,4,5])
def zlt (q1:ACode):ACode:=.pr [0,3,4,5] (.seq (.seq (rg [mV 14 5,
bN 15 .geq 14 (cI 0)] [0,3,4,5,15])
(.cond 15 .skip
(.exit 0)))
(.seq (.block 1 (.seq (rg [mV 18 0,
mV 19 5,
iA 20 (some 8) 18 19,
lD 21 (some 8) 20,
uO 6 (.alloc [.p (.str []),.p (.int .i64 0),.p (.int .i64 0),.p (.int .i64 0),.p (.str []),.p (.str []),.p (.str []),.p (.int .i64 0)]),
wO (.store (some 8) 6 21)] [0,3,4,5,6])
(.seq (rg [mV 22 4,
mV 23 5,
mV 24 3,
fA 25 0 none 6,
lD 26 none 25,
fA 27 1 none 6,
lD 28 none 27,
uO 29 (.build [.p (.str []),.p (.int .i64 0)] [(0,1,26),(1,1,28)]),
uO 30 (.look ((some 2),[2,0]) false (AB false) 24 29),
uO 31 (.un .not 30),
iA 32 none 22 23,
wO (.store none 32 31)] [0,3,4,5,6])
(.seq (rg [mV 33 4,
mV 34 5,
iA 35 none 33 34,
lD 36 none 35,
mV 37 36,
gD 38 37 true (.faddr 3 none 6),
gD 39 37 true (.load none 38),
gD 40 37 true (.bin .eql 39 (cI 7)),
uO 41 (.pick 37 40 cF)] [0,3,4,5,6,41])
(.cond 41 (rg [mV 42 3,
fA 43 6 none 6,
lD 44 none 43,
fA 45 7 none 6,
lD 46 none 45,
uO 47 (.build [.p (.str []),.p (.int .i64 0)] [(0,1,44),(1,1,46)]),
wO (.mupd ((some 2),[2,0]) 42 47 cT)] [0,3,4,5])
.skip)))))
q1))
def zsu:ACode:=zlt zst
def zsv:ACode:=.pr [4] (.seq (rg [mV 48 4,
mV 2 48] [2])
.ret)
def P_q04a (q2 q3:ACode):ACode:=(.seq (rg [mV 2 (.c (.p (.sl none [])))] [0])
(.seq (rg [uO 7 (.mkmap),
mV 3 7] [0,3])
(.seq (rg [mV 8 0,
lN 9 8,
uO 10 (.mksl none (.bool false) 9 9),
mV 4 10] [0,3,4])
(.seq (.seq (rg [mV 11 0,
lN 12 11,
bN 13 .sub 12 (cI 1),
mV 5 13] [0,3,4,5])
(.block 0 (.loop (.scope q2))))
q3))))
def a_q04a:AFun:=⟨1,[.t 2],P_q04a zsu zsv,false,false⟩
def P_q04b:ACode:=(.seq (rg [uO 1 (.box 0),
mV 2 (cI 0)] [1])
(.seq (dr [dF (fA 5 3 none 1) [1],
dF (lD 6 none 5) [5],
dF (bN 7 .eql 6 (cI 7)) [6],
dF (fA 8 3 none 1) [1],
dF (lD 9 none 8) [8],
dF (bN 10 .eql 9 (cI 2)) [9],
dF (mV 3 7) [7],
dF (mV 4 10) [10]] [1,3,4])
(.seq (.block 0 (.seq (rg [fA 12 0 none 1,
lD 13 none 12,
cL 14 z5r [13],
uO 15 (.un .not 14),
mV 11 15] [1,3,4,11])
(.cond 11 (.seq (rg [mV 2 (cI 5)] [2])
.ret)
(.seq (rg [fA 17 1 none 1,
lD 18 none 17,
cL 19 z1i [18,(cI 1),(cI 1000000)],
mV 20 19,
gD 21 20 false (.faddr 2 none 1),
gD 22 20 false (.load none 21),
gD 23 20 false (.call zp0 [22]),
gD 24 20 false (.un .not 23),
uO 25 (.pick 20 cT 24),
mV 16 25] [1,3,4,16])
(.cond 16 (.seq (rg [mV 2 (cI 1)] [2])
.ret)
(.seq (rg [fA 27 3 none 1,
lD 28 none 27,
cL 29 z1i [28,(cI 1),(cI 7)],
mV 26 29] [1,3,4,26])
(.cond 26 (.seq (rg [mV 2 (cI 4)] [2])
.ret)
(.seq (rg [mV 31 3,
uO 32 (.un .not 31),
mV 33 32,
gD 34 33 true (.faddr 4 none 1),
gD 35 33 true (.load none 34),
gD 36 33 true (.call z5r [35]),
gD 37 33 true (.un .not 36),
uO 38 (.pick 33 37 cF),
mV 39 38,
gD 40 39 false (.mv 4),
gD 41 39 false (.mv 40),
gD 42 41 true (.faddr 5 none 1),
gD 43 41 true (.load none 42),
gD 44 41 true (.call z5r [43]),
gD 45 41 true (.un .not 44),
gD 46 39 false (.pick 41 45 cF),
uO 47 (.pick 39 cT 46),
mV 48 47,
gD 49 48 false (.mv 3),
gD 50 48 false (.mv 49),
gD 51 50 true (.faddr 6 none 1),
gD 52 50 true (.load none 51),
gD 53 50 true (.call z5r [52]),
gD 54 50 true (.un .not 53),
gD 55 48 false (.pick 50 54 cF),
uO 56 (.pick 48 cT 55),
mV 30 56] [1,3,4,30])
(.cond 30 (.seq (rg [mV 2 (cI 5)] [2])
.ret)
(.seq (rg [mV 58 3,
mV 59 58,
gD 60 59 true (.faddr 7 none 1),
gD 61 59 true (.load none 60),
gD 62 59 true (.call z1i [61,(cI 1),(cI 1000000)]),
uO 63 (.pick 59 62 cF),
mV 57 63] [1,3,4,57])
(.cond 57 (.seq (rg [mV 2 (cI 1)] [2])
.ret)
(.seq (rg [mV 65 3,
mV 66 65,
gD 67 66 true (.faddr 4 none 1),
gD 68 66 true (.load none 67),
gD 69 66 true (.bin .neq 68 (cS [])),
uO 70 (.pick 66 69 cF),
mV 71 70,
gD 72 71 false (.mv 4),
gD 73 71 false (.un .not 72),
gD 74 71 false (.mv 73),
gD 75 74 true (.faddr 5 none 1),
gD 76 74 true (.load none 75),
gD 77 74 true (.bin .neq 76 (cS [])),
gD 78 71 false (.pick 74 77 cF),
uO 79 (.pick 71 cT 78),
mV 80 79,
gD 81 80 false (.mv 3),
gD 82 80 false (.un .not 81),
gD 83 80 false (.mv 82),
gD 84 83 true (.faddr 6 none 1),
gD 85 83 true (.load none 84),
gD 86 83 true (.bin .neq 85 (cS [])),
gD 87 83 true (.mv 86),
gD 88 87 false (.faddr 7 none 1),
gD 89 87 false (.load none 88),
gD 90 87 false (.bin .neq 89 (cI 0)),
gD 91 83 true (.pick 87 cT 90),
gD 92 80 false (.pick 83 91 cF),
uO 93 (.pick 80 cT 92),
mV 64 93] [64])
(.cond 64 (.seq (rg [mV 2 (cI 3)] [2])
.ret)
.skip)))))))))))))
(.seq (rg [mV 2 (cI 0)] [2])
.ret))))
def a_q04b:AFun:=⟨1,[.t 2],P_q04b,false,false⟩
def P_q04c:ACode:=(.seq (rg [uO 3 (.box 0),
mV 6 (cI 0)] [1,2,3])
(.seq (rg [lD 7 (some 2) 3,
cL 8 zyd [7],
mV 9 1,
cL 10 zyc [9],
mV 11 2,
cL 12 zyo [11],
uO 13 (.bsl false none 3 (.int .i64 0) [(0,8),(1,10),(2,12)]),
cL 14 zxz [13],
mV 6 14] [6])
.ret))
def a_q04c:AFun:=⟨3,[.t 6],P_q04c,false,false⟩
def P_q04d:ACode:=(.seq (rg [mV 4 (cI 0)] [0,1])
(.seq (rg [mV 5 0,
uO 6 (.nilchk 5),
fA 7 0 (some 2) 6,
fA 8 0 none 7,
lD 9 none 8,
mV 10 1,
cL 11 z74 [9,10],
mV 4 11] [4])
.ret))
def a_q04d:AFun:=⟨2,[.t 4],P_q04d,false,false⟩
def zsw:ACode:=.pr [] (.seq (rg [mV 6 (cI 0)] [6])
.ret)
def zsx:ACode:=.pr [] (.seq (rg [mV 6 (cI 0)] [6])
.ret)
def zlu (q2:ACode):ACode:=.pr [0,1] (.seq (rg [mV 98 1,
uO 99 (.nilchk 98),
fA 100 4 none 99,
lD 101 none 100,
bN 102 .add 101 (cI 1),
uO 103 (.nilchk 98),
fA 104 4 none 103,
wO (.store none 104 102)] [0,1])
(.seq (rg [mV 105 1,
uO 106 (.nilchk 105),
fA 107 0 none 106,
wO (.store none 107 (cI 3))] [0,1])
(.seq (.seq (dr [dF (mV 108 1) [1],
dF (uO 109 (.nilchk 108)) [108],
dF (fA 110 4 none 109) [109],
dF (lD 111 none 110) [110],
dF (mV 112 0) [0],
dF (uO 113 (.nilchk 112)) [112],
dF (fA 114 0 (some 2) 113) [113],
dF (fA 115 1 none 114) [114],
dF (lD 116 none 115) [115],
dF (bN 117 .eql 111 116) [111,116]] [1,117])
(.cond 117 (rg [mV 118 1,
uO 119 (.nilchk 118),
fA 120 0 none 119,
wO (.store none 120 (cI 5))] [])
.skip))
q2)))
def zsy:ACode:=zlu zsx
def P_q04e (q1 q3:ACode):ACode:=(.seq (rg [uO 5 (.box 2),
mV 6 (cI 0)] [0,1,5])
(.seq (.block 0 (.seq (rg [mV 10 1,
uO 11 (.nilchk 10),
fA 12 0 none 11,
lD 13 none 12,
bN 14 .neq 13 (cI 2),
mV 9 14] [0,1,5,9])
(.cond 9 (.seq (rg [mV 6 (cI 11)] [6])
.ret)
(.seq (dr [dF (mV 16 1) [1],
dF (uO 17 (.nilchk 16)) [16],
dF (fA 18 3 none 17) [17],
dF (lD 19 none 18) [18],
dF (fA 20 0 none 5) [5],
dF (lD 21 none 20) [20],
dF (bN 22 .neq 19 21) [19,21],
dF (mV 15 22) [22]] [0,1,5,15])
(.cond 15 (.seq (rg [mV 6 (cI 13)] [6])
.ret)
.skip)))))
(.seq (rg [fA 23 3 none 5,
lD 24 none 23,
bN 25 .eql 24 (cI 3),
mV 7 25] [0,1,5,7])
(.seq (dr [dF (mV 26 0) [0],
dF (mV 27 0) [0],
dF (uO 28 (.nilchk 27)) [27],
dF (fA 29 4 none 28) [28],
dF (lD 30 none 29) [29],
dF (fA 31 4 none 5) [5],
dF (lD 32 none 31) [31],
dF (mV 33 1) [1],
dF (uO 34 (.nilchk 33)) [33],
dF (fA 35 2 none 34) [34],
dF (lD 36 none 35) [35],
dF (mV 37 1) [1],
dF (uO 38 (.nilchk 37)) [37],
dF (fA 39 1 none 38) [38],
dF (lD 40 none 39) [39],
dF (fA 41 2 none 5) [5],
dF (lD 42 none 41) [41],
dF (mV 43 7) [7],
dF (uO 44 (.build [.p (.str []),.p (.str []),.p (.int .i64 0),.p (.int .i64 0),.p (.bool false)] [(0,1,32),(1,1,36),(2,1,40),(3,1,42),(4,1,43)])) [32,36,40,42,43],
dF (uO 45 (.bsl false (some 5) 1 (.agg [.str [],.str [],.int .i64 0,.int .i64 0,.bool false]) [(0,44)])) [44],
dT (uO 46 (.app (some 5) 30 45)) [30,45],
dF (uO 47 (.nilchk 26)) [26],
dF (fA 48 4 none 47) [47],
dT (wO (.store none 48 46)) [48,46]] [0,1,5,7])
(.seq (rg [mV 49 0,
mV 50 1,
fA 51 2 none 5,
lD 52 none 51,
cL 53 zp5 [49,50,52]] [0,1,5,7])
(.seq (rg [mV 54 1,
fA 55 2 none 5,
lD 56 none 55,
uO 57 (.nilchk 54),
fA 58 1 none 57,
wO (.store none 58 56)] [0,1,7])
(.seq (.seq (rg [mV 59 7] [0,1,59])
(.cond 59 (.seq (rg [mV 60 1,
uO 61 (.nilchk 60),
fA 62 4 none 61,
wO (.store none 62 (cI 0))] [0,1])
(.seq (rg [mV 63 0,
mV 64 1,
uO 65 (.nilchk 64),
fA 66 2 none 65,
lD 67 none 66,
cL 68 zyj [63,67],
bN 69 .add 68 (cI 1),
mV 8 69] [0,1,8])
(.seq (.seq (rg [mV 70 8,
mV 71 0,
uO 72 (.nilchk 71),
fA 73 0 (some 2) 72,
fA 74 0 none 73,
lD 75 none 74,
lN 76 75,
bN 77 .eql 70 76] [0,1,8,77])
(.cond 77 (rg [mV 78 1,
mV 79 1,
uO 80 (.nilchk 78),
fA 81 0 none 80,
wO (.store none 81 (cI 4)),
uO 82 (.nilchk 79),
fA 83 2 none 82,
wO (.store none 83 (cS []))] [])
(rg [mV 84 1,
mV 85 1,
mV 86 0,
uO 87 (.nilchk 86),
fA 88 0 (some 2) 87,
fA 89 0 none 88,
lD 90 none 89,
mV 91 8,
iA 92 none 90 91,
lD 93 none 92,
uO 94 (.nilchk 84),
fA 95 0 none 94,
wO (.store none 95 (cI 1)),
uO 96 (.nilchk 85),
fA 97 2 none 96,
wO (.store none 97 93)] [])))
q1)))
.skip))
q3)))))))
def a_q04e:AFun:=⟨3,[.t 6],P_q04e zsw zsy,false,false⟩
def zsz:ACode:=.pr [0,1,2,11,12] (rg [bN 47 .add 12 (cI 1),
mV 12 47] [0,1,2,11,12])
def zlv (q1:ACode):ACode:=.pr [0,1,2,11,12] (.seq (rg [bN 13 .lss 12 11] [0,1,2,11,12,13])
(.seq (.cond 13 .skip
(.exit 0))
(.seq (.block 1 (.seq (rg [mV 14 12,
mV 6 14] [0,1,2,6,11,12])
(.seq (dr [dF (mV 15 0) [0],
dF (uO 16 (.nilchk 15)) [15],
dF (fA 17 5 none 16) [16],
dF (lD 18 none 17) [17],
dF (mV 19 6) [6],
dF (iA 20 (some 3) 18 19) [18,19],
dF (fA 21 0 none 20) [20],
dF (lD 22 none 21) [21],
dF (mV 23 1) [1],
dF (uO 24 (.nilchk 23)) [23],
dF (fA 25 3 none 24) [24],
dF (lD 26 none 25) [25],
dF (bN 27 .eql 22 26) [22,26],
dF (mV 28 27) [27],
dF (gD 29 28 true (.mv 0)) [0,28],
dF (gD 30 28 true (.nilchk 29)) [29,28],
dF (gD 31 28 true (.faddr 5 none 30)) [30,28],
dF (gD 32 28 true (.load none 31)) [31,28],
dF (gD 33 28 true (.mv 6)) [6,28],
dF (gD 34 28 true (.iaddr (some 3) 32 33)) [32,33,28],
dF (gD 35 28 true (.faddr 2 none 34)) [34,28],
dF (gD 36 28 true (.load none 35)) [35,28],
dF (gD 37 28 true (.bin .lss 36 (cI 0))) [36,28],
dF (uO 38 (.pick 28 37 cF)) [28,37]] [0,1,2,6,11,12,38])
(.cond 38 (rg [mV 39 0,
uO 40 (.nilchk 39),
fA 41 5 none 40,
lD 42 none 41,
mV 43 6,
mV 44 2,
iA 45 (some 3) 42 43,
fA 46 2 none 45,
wO (.store none 46 44)] [0,1,2,11,12])
.skip))))
q1)))
def zs0:ACode:=zlv zsz
def zs1:ACode:=.pr [0,1] (.seq (dr [dF (mV 48 0) [0],
dF (uO 49 (.nilchk 48)) [48],
dF (fA 50 3 none 49) [49],
dF (lD 51 none 50) [50],
dF (mV 52 1) [1],
dF (uO 53 (.nilchk 52)) [52],
dF (fA 54 3 none 53) [53],
dF (lD 55 none 54) [54],
dT (wO (.mdel (none,[2]) 51 55)) [51,55]] [1])
(rg [mV 56 1,
uO 57 (.nilchk 56),
fA 58 3 none 57,
wO (.store none 58 (cS []))] []))
def P_q04f (q2 q3:ACode):ACode:=(.seq (.seq (rg [mV 7 0,
uO 8 (.nilchk 7),
fA 9 5 none 8,
lD 10 none 9,
lN 11 10,
mV 12 (cI 0)] [0,1,2,11,12])
(.block 0 (.loop q2)))
q3)
def a_q04f:AFun:=⟨3,[],P_q04f zs0 zs1,false,false⟩
def P_q04g:ACode:=(.seq (rg [uO 5 (.box 2),
mV 6 (cI 0)] [0,1,5])
(.seq (dr [dF (mV 10 0) [0],
dF (uO 11 (.nilchk 10)) [10],
dF (fA 12 3 none 11) [11],
dF (lD 13 none 12) [12],
dF (fA 14 0 none 5) [5],
dF (lD 15 none 14) [14],
dF (uO 16 (.look (none,[2]) true (.p (.str [])) 13 15)) [13,15],
dF (mV 9 16) [16],
dF (eX 17 9 0) [9],
dF (eX 18 9 1) [9],
dF (mV 7 17) [17],
dF (mV 8 18) [18]] [0,1,5,8])
(.seq (.block 0 (.seq (rg [mV 20 1,
uO 21 (.nilchk 20),
fA 22 0 none 21,
lD 23 none 22,
bN 24 .neq 23 (cI 1),
mV 19 24] [0,1,5,8,19])
(.cond 19 (.seq (rg [mV 6 (cI 11)] [6])
.ret)
(.seq (dr [dF (fA 26 5 none 5) [5],
dF (lD 27 none 26) [26],
dF (mV 28 1) [1],
dF (uO 29 (.nilchk 28)) [28],
dF (fA 30 2 none 29) [29],
dF (lD 31 none 30) [30],
dF (bN 32 .neq 27 31) [27,31],
dF (mV 25 32) [32]] [0,1,5,8,25])
(.cond 25 (.seq (rg [mV 6 (cI 3)] [6])
.ret)
(.seq (rg [mV 34 8,
mV 33 34] [0,1,5,33])
(.cond 33 (.seq (rg [mV 6 (cI 12)] [6])
.ret)
.skip)))))))
(.seq (dr [dF (mV 35 1) [1],
dF (mV 36 1) [1],
dF (mV 37 1) [1],
dF (fA 38 2 none 5) [5],
dF (lD 39 none 38) [38],
dF (fA 40 0 none 5) [5],
dF (lD 41 none 40) [40],
dF (uO 42 (.nilchk 35)) [35],
dF (fA 43 0 none 42) [42],
dA (wO (.store none 43 (cI 2))) [43] true [] [4,6],
dF (uO 44 (.nilchk 36)) [36],
dF (fA 45 1 none 44) [44],
dA (wO (.store none 45 39)) [45,39] true [] [6],
dF (uO 46 (.nilchk 37)) [37],
dF (fA 47 3 none 46) [46],
dT (wO (.store none 47 41)) [47,41]] [0,5])
(.seq (dr [dF (mV 48 0) [0],
dF (uO 49 (.nilchk 48)) [48],
dF (fA 50 3 none 49) [49],
dF (lD 51 none 50) [50],
dF (fA 52 0 none 5) [5],
dF (lD 53 none 52) [52],
dF (fA 54 4 none 5) [5],
dF (lD 55 none 54) [54],
dT (wO (.mupd (none,[2]) 51 53 55)) [51,53,55]] [0,5])
(.seq (dr [dF (mV 56 0) [0],
dF (mV 57 0) [0],
dF (uO 58 (.nilchk 57)) [57],
dF (fA 59 5 none 58) [58],
dF (lD 60 none 59) [59],
dF (fA 61 0 none 5) [5],
dF (lD 62 none 61) [61],
dF (fA 63 2 none 5) [5],
dF (lD 64 none 63) [63],
dF (uO 65 (.build [.p (.str []),.p (.int .i64 0),.p (.int .i64 0)] [(0,1,62),(1,1,64),(2,1,(cI (-1)))])) [62,64],
dF (uO 66 (.bsl false (some 3) 1 (.agg [.str [],.int .i64 0,.int .i64 0]) [(0,65)])) [65],
dT (uO 67 (.app (some 3) 60 66)) [60,66],
dF (uO 68 (.nilchk 56)) [56],
dF (fA 69 5 none 68) [68],
dT (wO (.store none 69 67)) [69,67]] [])
(.seq (rg [mV 6 (cI 0)] [6])
.ret)))))))
def a_q04g:AFun:=⟨3,[.t 6],P_q04g,false,false⟩
def zs2:ACode:=.pr [0,3,5,38,45] (.cond 45 (.seq (rg [mV 48 0,
mV 49 5,
lD 50 (some 8) 3,
cL 51 zyk [48,49,50],
mV 4 51] [4])
.ret)
(.seq (rg [bN 53 .eql 38 (cI 5),
mV 52 53] [0,3,5,52])
(.cond 52 (.seq (.seq (rg [mV 54 5,
uO 55 (.nilchk 54),
fA 56 0 none 55,
lD 57 none 56,
bN 58 .neq 57 (cI 3)] [3,5,58])
(.cond 58 (.seq (rg [mV 4 (cI 11)] [4])
.ret)
.skip))
(.seq (dr [dF (mV 59 5) [5],
dF (mV 60 5) [5],
dF (fA 61 2 none 3) [3],
dF (lD 62 none 61) [61],
dF (uO 63 (.nilchk 59)) [59],
dF (fA 64 0 none 63) [63],
dA (wO (.store none 64 (cI 1))) [64] true [] [3],
dF (uO 65 (.nilchk 60)) [60],
dF (fA 66 1 none 65) [65],
dT (wO (.store none 66 62)) [66,62]] [])
(.seq (rg [mV 4 (cI 0)] [4])
.ret)))
.skip)))
def zs3:ACode:=.pr [3,5] (.seq (dr [dF (mV 89 5) [5],
dF (mV 90 5) [5],
dF (fA 91 2 none 3) [3],
dF (lD 92 none 91) [91],
dF (uO 93 (.nilchk 89)) [89],
dF (fA 94 0 none 93) [93],
dA (wO (.store none 94 (cI 5))) [94] true [] [3],
dF (uO 95 (.nilchk 90)) [90],
dF (fA 96 1 none 95) [95],
dT (wO (.store none 96 92)) [96,92]] [])
(.seq (rg [mV 4 (cI 0)] [4])
.ret))
def zlw (q2:ACode):ACode:=.pr [0,3,5] (.seq (.seq (rg [mV 67 5,
uO 68 (.nilchk 67),
fA 69 0 none 68,
lD 70 none 69,
bN 71 .eql 70 (cI 4),
mV 72 71,
gD 73 72 false (.mv 5),
gD 74 72 false (.nilchk 73),
gD 75 72 false (.faddr 0 none 74),
gD 76 72 false (.load none 75),
gD 77 72 false (.bin .eql 76 (cI 5)),
uO 78 (.pick 72 cT 77)] [0,3,5,78])
(.cond 78 (.seq (rg [mV 4 (cI 11)] [4])
.ret)
.skip))
(.seq (.seq (rg [mV 79 5,
uO 80 (.nilchk 79),
fA 81 0 none 80,
lD 82 none 81,
bN 83 .eql 82 (cI 2)] [0,3,5,83])
(.cond 83 (rg [mV 84 0,
mV 85 5,
fA 86 2 none 3,
lD 87 none 86,
cL 88 zp5 [84,85,87]] [3,5])
.skip))
q2))
def zs4:ACode:=zlw zs3
def P_q04h (q1 q3:ACode):ACode:=(.seq (rg [uO 3 (.box 1),
mV 4 (cI 0)] [0,3])
(.seq (dr [dF (mV 6 0) [0],
dF (uO 7 (.nilchk 6)) [6],
dF (fA 8 2 none 7) [7],
dF (lD 9 none 8) [8],
dF (fA 10 4 none 3) [3],
dF (lD 11 none 10) [10],
dF (uO 12 (.look (none,[2]) false (.nilp) 9 11)) [9,11],
dF (mV 5 12) [12]] [0,3,5])
(.seq (.seq (rg [fA 13 3 none 3,
lD 14 none 13,
bN 15 .eql 14 (cI 1)] [0,3,5,15])
(.cond 15 (.seq (.seq (rg [mV 16 5,
uO 17 (.isnil 0 true 16)] [0,3,17])
(.cond 17 (.seq (rg [mV 4 (cI 6)] [4])
.ret)
.skip))
(.seq (dr [dF (mV 18 0) [0],
dF (uO 19 (.nilchk 18)) [18],
dF (fA 20 2 none 19) [19],
dF (lD 21 none 20) [20],
dF (fA 22 4 none 3) [3],
dF (lD 23 none 22) [22],
dF (fA 24 2 none 3) [3],
dF (lD 25 none 24) [24],
dF (mV 26 0) [0],
dF (uO 27 (.nilchk 26)) [26],
dF (fA 28 0 (some 2) 27) [27],
dF (fA 29 0 none 28) [28],
dF (lD 30 none 29) [29],
dF (iA 31 none 30 (cI 0)) [30],
dF (lD 32 none 31) [31],
dF (uO 33 (.build [.p (.int .i64 0),.p (.int .i64 0),.p (.str []),.p (.str []),.p (.int .i64 0)] [(0,1,(cI 1)),(1,1,25),(2,1,32)])) [25,32],
dA (uO 34 (.box 33)) [33] true [] [3,5],
dT (wO (.mupd (none,[2]) 21 23 34)) [21,23,34]] [])
(.seq (rg [mV 4 (cI 0)] [4])
.ret)))
.skip))
(.seq (.seq (rg [mV 35 5,
uO 36 (.isnil 0 false 35)] [0,3,5,36])
(.cond 36 (.seq (rg [mV 4 (cI 8)] [4])
.ret)
.skip))
(.seq (.seq (rg [fA 37 3 none 3,
lD 38 none 37] [0,3,5,38])
(.block 0 (.seq (rg [bN 40 .eql 38 (cI 2),
mV 39 40] [0,3,5,38,39])
(.cond 39 (.seq (rg [mV 41 0,
mV 42 5,
lD 43 (some 8) 3,
cL 44 zyl [41,42,43],
mV 4 44] [4])
.ret)
(.seq (.seq (rg [bN 46 .eql 38 (cI 3),
mV 45 46] [0,3,5,38,45])
(.cond 45 .skip
(rg [bN 47 .eql 38 (cI 4),
mV 45 47] [0,3,5,38,45])))
q1)))))
q3)))))
def a_q04h:AFun:=⟨2,[.t 4],P_q04h zs2 zs4,false,false⟩
def zs5:ACode:=.pr [5,6,17,18,19] (rg [bN 59 .add 19 (cI 1),
mV 19 59] [5,6,17,18,19])
def zlx (q1:ACode):ACode:=.pr [5,6,17,18,19] (.seq (rg [bN 20 .lss 19 18] [5,6,17,18,19,20])
(.seq (.cond 20 .skip
(.exit 0))
(.seq (.block 1 (.seq (rg [mV 21 19,
iA 22 (some 8) 17 19,
lD 23 (some 8) 22,
uO 8 (.alloc [.p (.str []),.p (.int .i64 0),.p (.int .i64 0),.p (.int .i64 0),.p (.str []),.p (.str []),.p (.str []),.p (.int .i64 0)]),
mV 7 21,
wO (.store (some 8) 8 23)] [5,6,7,8,17,18,19])
(.seq (.seq (rg [mV 24 6,
mV 25 7,
iA 26 none 24 25,
lD 27 none 26,
uO 28 (.un .not 27),
mV 29 28,
gD 30 29 false (.faddr 3 none 8),
gD 31 29 false (.load none 30),
gD 32 29 false (.bin .eql 31 (cI 7)),
uO 33 (.pick 29 cT 32)] [5,6,7,8,17,18,19,33])
(.cond 33 (.exit 1)
.skip))
(.seq (rg [mV 34 5,
lD 35 (some 8) 8,
cL 36 zym [34,35],
mV 9 36] [5,6,7,9,17,18,19])
(.seq (rg [mV 37 9,
bN 38 .neq 37 (cI 0)] [5,6,7,9,17,18,19,38])
(.cond 38 (.seq (rg [mV 39 5,
mV 40 5,
uO 41 (.nilchk 40),
fA 42 6 none 41,
lD 43 none 42,
mV 44 7,
uO 45 (.bsl false none 1 (.int .i64 0) [(0,44)]),
uO 46 (.app none 43 45),
uO 47 (.nilchk 39),
fA 48 6 none 47,
wO (.store none 48 46)] [5,6,9,17,18,19])
(rg [mV 49 5,
mV 50 5,
uO 51 (.nilchk 50),
fA 52 7 none 51,
lD 53 none 52,
mV 54 9,
uO 55 (.bsl false none 1 (.int .i64 0) [(0,54)]),
uO 56 (.app none 53 55),
uO 57 (.nilchk 49),
fA 58 7 none 57,
wO (.store none 58 56)] [5,6,17,18,19]))
.skip))))))
q1)))
def zs6:ACode:=zlx zs5
def zs7:ACode:=.pr [5] (.seq (rg [mV 60 5,
mV 4 60] [4])
.ret)
def P_q04i (q2 q3:ACode):ACode:=(.seq (rg [uO 2 (.box 0),
mV 4 (.c (.nilp))] [1,2])
(.seq (rg [lD 10 (some 2) 2,
uO 11 (.mkmap),
uO 12 (.mkmap),
uO 13 (.build [.sl0 none,.p (.int .i64 0),.nilm,.nilm,.sl0 (some 5),.sl0 (some 3),.sl0 none,.sl0 none] [(0,2,10),(2,1,11),(3,1,12)]),
uO 14 (.box 13),
mV 5 14] [1,5])
(.seq (rg [mV 15 1,
cL 16 zyg [15],
mV 6 16] [1,5,6])
(.seq (.seq (rg [mV 17 1,
lN 18 17,
mV 19 (cI 0)] [5,6,17,18,19])
(.block 0 (.loop (.scope q2))))
q3))))
def a_q04i:AFun:=⟨2,[.t 4],P_q04i zs6 zs7,false,false⟩
def P_q04j:ACode:=(.seq (rg [mV 2 (cI 0)] [0])
(.seq (.seq (rg [mV 3 0,
cL 4 zp0 [3],
uO 5 (.un .not 4)] [5])
(.cond 5 (.seq (rg [mV 2 (cI 1)] [2])
.ret)
.skip))
(.seq (rg [mV 2 (cI 0)] [2])
.ret)))
def a_q04j:AFun:=⟨1,[.t 2],P_q04j,false,false⟩
def zs8:ACode:=.pr [3,8,9,10] (.seq (rg [bN 11 .lss 10 9] [3,8,9,10,11])
(.seq (.cond 11 .skip
(.exit 0))
(.seq (.block 1 (.seq (rg [iA 12 (some 8) 8 10,
lD 13 (some 8) 12,
uO 5 (.alloc [.p (.str []),.p (.int .i64 0),.p (.int .i64 0),.p (.int .i64 0),.p (.str []),.p (.str []),.p (.str []),.p (.int .i64 0)]),
wO (.store (some 8) 5 13)] [3,5,8,9,10])
(.seq (rg [fA 14 0 none 5,
lD 15 none 14,
fA 16 1 none 5,
lD 17 none 16,
uO 18 (.build [.p (.str []),.p (.int .i64 0)] [(0,1,15),(1,1,17)]),
uO 6 (.alloc [.p (.str []),.p (.int .i64 0)]),
wO (.store (some 2) 6 18)] [3,6,8,9,10])
(.seq (.seq (rg [mV 19 3,
lD 20 (some 2) 6,
uO 21 (.look ((some 2),[2,0]) false (AB false) 19 20)] [3,6,8,9,10,21])
(.cond 21 (.seq (rg [mV 2 cT] [2])
.ret)
.skip))
(rg [mV 22 3,
lD 23 (some 2) 6,
wO (.mupd ((some 2),[2,0]) 22 23 cT)] [3,8,9,10])))))
(rg [bN 24 .add 10 (cI 1),
mV 10 24] [3,8,9,10]))))
def zs9:ACode:=.pr [] (.seq (rg [mV 2 cF] [2])
.ret)
def P_q04k (q1 q2:ACode):ACode:=(.seq (rg [mV 2 cF] [0])
(.seq (rg [uO 7 (.mkmap),
mV 3 7] [0,3])
(.seq (.seq (rg [mV 8 0,
lN 9 8,
mV 10 (cI 0)] [3,8,9,10])
(.block 0 (.loop (.scope q1))))
q2)))
def a_q04k:AFun:=⟨1,[.t 2],P_q04k zs8 zs9,false,false⟩
def zsA:ACode:=.pr [0,1,5] (.seq (.seq (rg [mV 8 5,
bN 9 .gtr 8 (cI 0),
mV 10 9,
gD 11 10 true (.mv 0),
gD 12 10 true (.mv 5),
gD 13 10 true (.bin .sub 12 (cI 1)),
gD 14 10 true (.iaddr (some 8) 11 13),
gD 15 10 true (.faddr 2 none 14),
gD 16 10 true (.load none 15),
gD 17 10 true (.mv 1),
gD 18 10 true (.bin .gtr 16 17),
uO 19 (.pick 10 18 cF)] [0,1,5,19])
(.cond 19 .skip
(.exit 0)))
(.block 1 (rg [mV 20 5,
bN 21 .sub 20 (cI 1),
mV 5 21] [0,1,5])))
def zsB:ACode:=.pr [0,5] (.seq (rg [mV 22 0,
mV 23 5,
uO 24 (.slice (some 8) 22 none (some 23) none),
mV 4 24] [4])
.ret)
def P_q04l (q1 q2:ACode):ACode:=(.seq (rg [mV 4 (.c (.p (.sl (some 8) [])))] [0,1])
(.seq (rg [mV 6 0,
lN 7 6,
mV 5 7] [0,1,5])
(.seq (.block 0 (.loop q1))
q2)))
def a_q04l:AFun:=⟨2,[.t 4],P_q04l zsA zsB,false,false⟩
def P_q051:ACode:=(.seq (rg [mV 4 (cI 0)] [0,1])
(.seq (rg [mV 5 0,
mV 6 1,
cL 7 zxQ [5,6],
mV 4 7] [4])
.ret))
def a_q051:AFun:=⟨2,[.t 4],P_q051,false,false⟩
def P_q063:ACode:=(.seq (rg [mV 2 (cI 0),
mV 3 (cI 0)] [0])
(.seq (.seq (rg [mV 5 0,
cL 6 z4e [5],
mV 4 6] [0,4])
(.seq (rg [mV 7 4,
bN 8 .neq 7 (cI 0)] [0,4,8])
(.cond 8 (.seq (rg [mV 9 4,
mV 2 (cI 0),
mV 3 9] [2,3])
.ret)
.skip)))
(.seq (rg [mV 10 0,
cL 11 z6b [10,(.c (.nilp))],
uO 12 (.nilchk 11),
fA 13 37 none 12,
lD 14 none 13,
mV 2 14,
mV 3 (cI 0)] [2,3])
.ret)))
def a_q063:AFun:=⟨1,[.t 2,.t 3],P_q063,false,false⟩
end Go.Am
end
section
/- The abstract machine,part C: z1p calls that say true,asv contracts. -/
set_option linter.all false
namespace Go.Am
variable {P:Program} {gl:Nat→Option PV}
def y1h:List PV→Option AV
 | []=>some (AB true)
 | _=>none
theorem RPV.mono' {M M':Mem} (hM:∀ b o v,M.c b o=some v→M'.c b o=some v) {v:PV} {x:Value} (H:RPV M v x):RPV M' v x:=by
 induction H with
 | int k n=>exact .int k n
 | bool b=>exact .bool b
 | str s=>exact .str s
 | nilp=>exact .nilp
 | unk k n=>exact .unk k n
 | nils sh a cap=>exact .nils sh a cap
 | sl sh xs b o cap f hne hc he hm hr ih=>exact .sl sh xs b o cap f hne hc he (fun j y hy=>hM _ _ _ (hm j y hy)) ih
 | agg cs vs hl hr ih=>exact .agg cs vs hl ih
theorem GInv.mono' {M M':Mem} (hc:∀ b o v,M.c b o=some v→M'.c b o=some v) (hb:∀ b o,M.b b=some o→M'.b b=some o) (H:GInv gl M):GInv gl M':=fun n v hv=>by
 obtain⟨h1,cs,t,x,h2,h3⟩:=H n v hv
 refine⟨?_,cs,t,x,hb _ _ h2,h3⟩
 cases h1 with | vp _ _ _ f hm hr=>exact .vp v n 0 f (fun j y hy=>hc _ _ _ (hm j y hy)) (fun j y hy=>(hr j y hy).mono' hc)
theorem ztR {X:Ctx} (HX:Fits P X) {f:Nat} (H:z0c X f [] [] fun v h x=>v=AB true∧h=[]∧x=[]) (he:∀ us w,(callFunc f us).run P w = .ok (.enter f us) w):PureRow P X.gl f y1h:=by
 refine⟨he,fun M w vs r us hc hb hG hl hr hs=>?_⟩
 cases vs with
 | cons a l=>cases hs
 | nil=>
  have hu:us=[]:=List.length_eq_zero_iff.1 (by simpa using hl.symm)
  subst hu
  simp only[y1h,Option.some.injEq] at hs
  subst hs
  have hno:∀ b o,¬ zb6 ([]:Heap) ([]:Mu) b o:=fun b o ⟨id,n,h1,_⟩=>by simp at h1
  have hnt:∀ b,¬ zjj ([]:Mu) b:=fun b ⟨id,n,h1⟩=>by simp at h1
  have hG':GInv X.gl (imm [] [] w):=hG.mono' (fun b o v h=>z1m.2 ⟨hno b o,hc b o v h⟩) (fun b o h=>z4w.2 ⟨hnt b,hb b o h⟩)
  have hR:HeapRel [] [] w:=⟨rfl,fun id o m h1=>by simp at h1,fun i j b n n' h1=>by simp at h1,fun i b n h1=>by simp at h1⟩
  rcases zai HX H [] w [] hR hG' rfl (fun j y v h1=>by simp at h1) with ⟨_,q⟩ | ⟨r,w',v,h',x,μ',q,_⟩
  ·refine q.mono fun e w' h=>?_
   cases e with
   | panicked _=>exact h.elim
   | outgrown=>exact h.elim
   | returned r=>
    obtain⟨v,h',x,μ',⟨rfl,rfl,rfl⟩,h1,h2,h3,h4⟩:=h
    have hm:μ'=[]:=List.length_eq_zero_iff.1 (by simpa using h2.len)
    subst hm
    have hbl:∀ b o,w.heap[b]?=some o→w'.heap[b]?=some o:=fun b o h=>(z4w.1 (h3.le.b b o (z4w.2 ⟨hnt b,h⟩))).2
    refine⟨r,rfl,⟨?_,fun b hb=>?_,?_⟩,?_⟩
    ·rcases Nat.lt_or_ge w'.heap.size w.heap.size with q | q
     ·have:=hbl w'.heap.size _ (Array.getElem?_eq_getElem q)
      simp at this
     ·exact q
    ·rw[hbl b _ (Array.getElem?_eq_getElem hb),Array.getElem?_eq_getElem hb]
    ·have:=h3.le.z
     simpa [imm] using this
    ·have:=h1.p_bool
     rw[this]
     exact .p _ _ (.bool true)
  ·rw[he] at q
   cases q
end Go.Am
end
