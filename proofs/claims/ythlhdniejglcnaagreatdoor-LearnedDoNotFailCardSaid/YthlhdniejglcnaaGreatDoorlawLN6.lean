/- Texts of the proof, laid together: CodesC, CodesD. -/
import Derived.KernelRfl
import Derived.Test.YthlhdniejglcnaaGreatDoorlawLN5
set_option linter.all false
section
/- The functions asv abstract code,and asv formulas over their values: printed by program out of the translation. -/
set_option linter.all false
set_option maxRecDepth 100000
namespace Go.Am
def z19:ACode:=.pr [0,1,2,6,7,8,9,10,11] (.seq (dr [dF (mV 54 0) [0],
dF (mV 55 1) [1],
dF (mV 56 11) [11],
dF (iA 57 none 56 (cI 0)) [56],
dF (lD 58 none 57) [57],
dT (cL 59 NG [54,55,58]) [54,55,58],
dF (uO 60 (.field 3 none 59)) [59],
dF (mV 61 0) [0],
dF (mV 62 1) [1],
dF (mV 63 11) [11],
dA (iA 64 none 63 (cI 1)) [63] false [5] [],
dA (lD 65 none 64) [64] false [5] [],
dT (cL 66 NG [61,62,65]) [61,62,65],
dF (uO 67 (.field 3 none 66)) [66],
dF (mV 68 0) [0],
dF (mV 69 1) [1],
dF (mV 70 11) [11],
dA (iA 71 none 70 (cI 2)) [70] false [5,12] [],
dA (lD 72 none 71) [71] false [5,12] [],
dT (cL 73 NG [68,69,72]) [68,69,72],
dF (uO 74 (.field 1 none 73)) [73],
dF (mV 12 60) [60],
dF (mV 13 67) [67],
dF (mV 14 74) [74]] [2,6,7,8,9,10,12,13,14])
(.seq (rg [mV 75 12,
fA 76 3 none 7,
lD 77 none 76,
bN 78 .add 75 77,
mV 79 13,
bN 80 .add 78 79,
mV 15 80] [2,6,7,8,9,10,12,14,15])
(.seq (rg [mV 81 2,
mV 82 9,
cL 83 VD [81,82],
mV 84 10,
mV 85 14,
cL 86 VD [84,85],
mV 16 83,
mV 17 86] [6,7,8,12,14,15,16,17])
(.seq (rg [mV 87 16,
mV 88 15,
uO 89 (.lens 88),
bN 90 .sub 89 (cI 1),
cL 91 PB [(cS [48]),90],
bN 92 .add 87 91,
bN 93 .add 92 (cS [49]),
mV 94 17,
bN 95 .add 93 94,
fA 96 0 none 8,
wO (.store none 96 95)] [6,7,8,12,14,15,16])
(.seq (rg [mV 97 16,
uO 98 (.lens 97),
cL 99 PB [(cS [48]),98],
mV 100 15,
bN 101 .add 99 100,
fA 102 1 none 8,
wO (.store none 102 101)] [6,7,8,12,14,16])
(.seq (rg [mV 103 16,
uO 104 (.lens 103),
mV 105 12,
uO 106 (.lens 105),
bN 107 .add 104 106,
fA 108 3 none 8,
wO (.store none 108 107)] [6,7,8,14])
(.seq (dr [dF (fA 109 3 none 8) [8],
dF (lD 110 none 109) [109],
dT (cL 111 PB [(cS [120]),110]) [110],
dA (lD 112 (some 6) 7) [7] false [2] [],
dT (cL 113 KK [112]) [112],
dF (bN 114 .add 111 113) [111,113],
dF (fA 115 2 none 8) [8],
dT (wO (.store none 115 114)) [115,114]] [6,8,14])
(rg [mV 116 14,
fA 117 4 none 8,
wO (.store none 117 116)] [6,8]))))))))
def vH (C:Hd)(gl:GL)(v0 v1 v2 v6 v7 v8 v9 v10 v11:AV)(h:aA)(x:Esc)(K:KT):Prop:=
 pK (eD none v11 (AI 0) h) fun t1=>
 pK (CA none t1 h) fun t2=>
 bC C NG [v0,v1,t2] h fun t3 h4 y5=>
 pK (RH 3 none t3) fun t6=>
 pK (eD none v11 (AI 1) h4) fun t7=>
 (pK (eD none v11 (AI 1) h) fun v=>(fun u (g1:aA) (y1:Esc)=>u=t7∧g1=h∧y1=[]) v h [])∧(pK (CA none t7 h4) fun t8=>
 (pK (CA none t7 h) fun v=>(fun u (g1:aA) (y1:Esc)=>u=t8∧g1=h∧y1=[]) v h [])∧(bC C NG [v0,v1,t8] h4 fun t9 h10 y11=>
 pK (RH 3 none t9) fun t12=>
 pK (eD none v11 (AI 2) h10) fun t13=>
 (pK (eD none v11 (AI 2) h) fun v=>(fun u (g1:aA) (y1:Esc)=>u=t13∧g1=h∧y1=[]) v h [])∧((pK (eD none v11 (AI 2) h4) fun v=>(fun u (g1:aA) (y1:Esc)=>u=t13∧g1=h4∧y1=[]) v h4 [])∧(pK (CA none t13 h10) fun t14=>
 (pK (CA none t13 h) fun v=>(fun u (g1:aA) (y1:Esc)=>u=t14∧g1=h∧y1=[]) v h [])∧((pK (CA none t13 h4) fun v=>(fun u (g1:aA) (y1:Esc)=>u=t14∧g1=h4∧y1=[]) v h4 [])∧(bC C NG [v0,v1,t14] h10 fun t15 h16 y17=>
 pK (RH 1 none t15) fun t18=>
 pK (EA 3 none v7) fun t19=>
 pK (CA none t19 h16) fun t20=>
 pK (BA .add t6 t20) fun t21=>
 pK (BA .add t21 t12) fun t22=>
 C VD [v2,v9] h16 fun t23 h24 y25=>
 C VD [v10,t18] h24 fun t26 h27 y28=>
 pK (JD t22) fun t29=>
 pK (BA .sub t29 (AI 1)) fun t30=>
 C PB [(.p (.str [48])),t30] h27 fun t31 h32 y33=>
 pK (BA .add t23 t31) fun t34=>
 pK (BA .add t34 (.p (.str [49]))) fun t35=>
 pK (BA .add t35 t26) fun t36=>
 pK (EA 0 none v8) fun t37=>
 wK (kB none t37 t36 h32) fun t38 h39 y40=>
 pK (JD t23) fun t41=>
 C PB [(.p (.str [48])),t41] h39 fun t42 h43 y44=>
 pK (BA .add t42 t22) fun t45=>
 pK (EA 1 none v8) fun t46=>
 wK (kB none t46 t45 h43) fun t47 h48 y49=>
 pK (JD t23) fun t50=>
 pK (JD t6) fun t51=>
 pK (BA .add t50 t51) fun t52=>
 pK (EA 3 none v8) fun t53=>
 wK (kB none t53 t52 h48) fun t54 h55 y56=>
 pK (EA 3 none v8) fun t57=>
 pK (CA none t57 h55) fun t58=>
 bC C PB [(.p (.str [120])),t58] h55 fun t59 h60 y61=>
 pK (CA (some 6) v7 h60) fun t62=>
 (pK (CA (some 6) v7 h55) fun v=>(fun u (g1:aA) (y1:Esc)=>u=t62∧g1=h55∧y1=[]) v h55 [])∧(bC C KK [t62] h60 fun t63 h64 y65=>
 pK (BA .add t59 t63) fun t66=>
 pK (EA 2 none v8) fun t67=>
 wK (kB none t67 t66 h64) fun t68 h69 y70=>
 pK (EA 4 none v8) fun t71=>
 wK (kB none t71 t18 h69) fun t72 h73 y74=>
 K .normal ⟨[(6,v6),(8,v8)],h73,(y74++(y70++(y65++(y61++(y56++(y49++(y44++(y40++(y33++(y28++(y25++(y17++(y11++(y5++x))))))))))))))⟩)))))))
theorem zgV {C gl e h x K}:NW C gl z19 ⟨e,h,x⟩ K=vH C gl (gA e 0) (gA e 1) (gA e 2) (gA e 6) (gA e 7) (gA e 8) (gA e 9) (gA e 10) (gA e 11) h x K:=by kernel_rfl
def z4b (q1:ACode):ACode:=.pr [0,1,2,6,7,8,46] (.cond 46 (.seq (rg [uO 49 (.bsl false none 3 (.int .i64 0) [(0,(cI 3)),(1,(cI 4)),(2,(cI 1))]),
mV 9 (cI 11),
mV 10 (cI 12),
mV 11 49] [0,1,2,6,7,8,9,10,11])
(.seq (.seq (rg [fA 50 0 none 7,
lD 51 none 50,
bN 52 .eql 51 (cI 8)] [0,1,2,6,7,8,9,10,11,52])
(.cond 52 (rg [uO 53 (.bsl false none 3 (.int .i64 0) [(0,(cI 5)),(1,(cI 6)),(2,(cI 2))]),
mV 9 (cI 4),
mV 10 (cI 5),
mV 11 53] [0,1,2,6,7,8,9,10,11])
.skip))
q1))
.skip)
def cU:ACode:=z4b z19
def jZ (C:Hd)(gl:GL)(q1:ACode)(v0 v1 v2 v6 v7 v8 v46:AV)(h:aA)(x:Esc)(K:KT):Prop:=
 YA v46 (wK (YC false none 3 (.int .i64 0) [(0,(AI 3)),(1,(AI 4)),(2,(AI 1))] h) fun t1 h2 y3=>
 pK (EA 0 none v7) fun t4=>
 pK (CA none t4 h2) fun t5=>
 pK (BA .eql t5 (AI 8)) fun t6=>
 YA t6 (wK (YC false none 3 (.int .i64 0) [(0,(AI 5)),(1,(AI 6)),(2,(AI 2))] h2) fun t7 h8 y9=>
 NW C gl q1 ⟨[(0,v0),(1,v1),(2,v2),(6,v6),(7,v7),(8,v8),(9,(AI 4)),(10,(AI 5)),(11,t7)],h8,(y9++(y3++x))⟩ K)
 (NW C gl q1 ⟨[(0,v0),(1,v1),(2,v2),(6,v6),(7,v7),(8,v8),(9,(AI 11)),(10,(AI 12)),(11,t1),(52,t6)],h2,(y3++x)⟩ K))
 (K .normal ⟨[(0,v0),(1,v1),(2,v2),(6,v6),(7,v7),(8,v8),(46,v46)],h,x⟩)
theorem zaM {C gl q1 e h x K}:NW C gl (z4b q1) ⟨e,h,x⟩ K=jZ C gl q1 (gA e 0) (gA e 1) (gA e 2) (gA e 6) (gA e 7) (gA e 8) (gA e 46) h x K:=by kernel_rfl
theorem zgW {C gl e h x K}:NW C gl cU ⟨e,h,x⟩ K=jZ C gl z19 (gA e 0) (gA e 1) (gA e 2) (gA e 6) (gA e 7) (gA e 8) (gA e 46) h x K:=zaM
def dU:ACode:=.pr [6,8] (.seq (dr [dF (fA 118 1 none 8) [8],
dF (lD 119 none 118) [118],
dF (fA 120 0 none 8) [8],
dF (lD 121 none 120) [120],
dF (uO 122 (.lens 121)) [121],
dF (fA 123 1 none 8) [8],
dF (lD 124 none 123) [123],
dF (uO 125 (.lens 124)) [124],
dF (bN 126 .sub 122 125) [122,125],
dA (cL 127 PB [(cS [48]),126]) [126] true [] [1],
dF (bN 128 .add 119 127) [119,127],
dF (fA 129 1 none 8) [8],
dT (wO (.store none 129 128)) [129,128]] [6,8])
(.seq (dr [dF (fA 130 2 none 8) [8],
dF (lD 131 none 130) [130],
dF (fA 132 0 none 8) [8],
dF (lD 133 none 132) [132],
dF (uO 134 (.lens 133)) [133],
dF (fA 135 2 none 8) [8],
dF (lD 136 none 135) [135],
dF (uO 137 (.lens 136)) [136],
dF (bN 138 .sub 134 137) [134,137],
dA (cL 139 PB [(cS [120]),138]) [138] true [] [1],
dF (bN 140 .add 131 139) [131,139],
dF (fA 141 2 none 8) [8],
dT (wO (.store none 141 140)) [141,140]] [6,8])
(.seq (rg [lD 142 (some 5) 8,
wO (.store (some 5) 6 142)] [6])
.ret)))
def EG (C:Hd)(gl:GL)(v6 v8:AV)(h:aA)(x:Esc)(K:KT):Prop:=
 pK (EA 1 none v8) fun t1=>
 pK (CA none t1 h) fun t2=>
 pK (EA 0 none v8) fun t3=>
 pK (CA none t3 h) fun t4=>
 pK (JD t4) fun t5=>
 pK (EA 1 none v8) fun t6=>
 pK (CA none t6 h) fun t7=>
 pK (JD t7) fun t8=>
 pK (BA .sub t5 t8) fun t9=>
 bC C PB [(.p (.str [48])),t9] h fun t10 h11 y12=>
 (pK (CA none t1 h11) fun v=>(fun u (g1:aA) (y1:Esc)=>u=t2∧g1=h11∧y1=[]) v h11 [])∧(pK (BA .add t2 t10) fun t13=>
 pK (EA 1 none v8) fun t14=>
 wK (kB none t14 t13 h11) fun t15 h16 y17=>
 pK (EA 2 none v8) fun t18=>
 pK (CA none t18 h16) fun t19=>
 pK (EA 0 none v8) fun t20=>
 pK (CA none t20 h16) fun t21=>
 pK (JD t21) fun t22=>
 pK (EA 2 none v8) fun t23=>
 pK (CA none t23 h16) fun t24=>
 pK (JD t24) fun t25=>
 pK (BA .sub t22 t25) fun t26=>
 bC C PB [(.p (.str [120])),t26] h16 fun t27 h28 y29=>
 (pK (CA none t18 h28) fun v=>(fun u (g1:aA) (y1:Esc)=>u=t19∧g1=h28∧y1=[]) v h28 [])∧(pK (BA .add t19 t27) fun t30=>
 pK (EA 2 none v8) fun t31=>
 wK (kB none t31 t30 h28) fun t32 h33 y34=>
 pK (CA (some 5) v8 h33) fun t35=>
 wK (kB (some 5) v6 t35 h33) fun t36 h37 y38=>
 K .ret ⟨[(6,v6)],h37,(y38++(y34++(y29++(y17++(y12++x)))))⟩))
theorem zgX {C gl e h x K}:NW C gl dU ⟨e,h,x⟩ K=EG C gl (gA e 6) (gA e 8) h x K:=by kernel_rfl
def z4a (q2 q3:ACode):ACode:=(.seq (rg [uO 6 (.alloc [.p (.str []),.p (.str []),.p (.str []),.p (.int .i64 0),.p (.int .i64 0)])] [0,1,2,6])
(.seq (rg [mV 18 0,
mV 19 1,
iA 20 (some 6) 18 19,
lD 21 (some 6) 20,
uO 7 (.alloc [.p (.int .i64 0),.p (.int .i64 0),.p (.int .i64 0),.p (.str []),.p (.str []),.p (.str [])]),
wO (.store (some 6) 7 21)] [0,1,2,6,7])
(.seq (rg [mV 22 2,
uO 23 (.build [.p (.str []),.p (.str []),.p (.str []),.p (.int .i64 0),.p (.int .i64 0)] [(4,1,22)]),
uO 8 (.alloc [.p (.str []),.p (.str []),.p (.str []),.p (.int .i64 0),.p (.int .i64 0)]),
wO (.store (some 5) 8 23)] [0,1,2,6,7,8])
(.seq (.seq (rg [fA 24 0 none 7,
lD 25 none 24] [0,1,2,6,7,8,25])
(.block 0 (.seq (rg [bN 27 .eql 25 (cI 10),
mV 26 27] [0,1,2,6,7,8,25,26])
(.cond 26 (dr [dF (mV 28 2) [2],
dF (fA 29 1 none 7) [7],
dF (lD 30 none 29) [29],
dT (cL 31 VD [28,30]) [28,30],
dF (fA 32 1 none 7) [7],
dA (lD 33 none 32) [32] false [3] [],
dF (fA 34 0 none 8) [8],
dA (wO (.store none 34 31)) [34,31] true [] [5],
dF (fA 35 4 none 8) [8],
dT (wO (.store none 35 33)) [35,33]] [6,8])
(.seq (rg [bN 37 .eql 25 (cI 9),
mV 36 37] [0,1,2,6,7,8,25,36])
(.cond 36 (dr [dF (mV 38 2) [2],
dT (cL 39 VD [38,(cI 1)]) [38],
dF (fA 40 2 none 7) [7],
dA (lD 41 none 40) [40] false [1] [],
dT (cL 42 PB [(cS [48]),41]) [41],
dF (bN 43 .add 39 42) [39,42],
dF (fA 44 0 none 8) [8],
dT (wO (.store none 44 43)) [44,43],
dF (fA 45 4 none 8) [8],
dT (wO (.store none 45 (cI 1))) [45]] [6,8])
(.seq (.seq (rg [bN 47 .eql 25 (cI 7),
mV 46 47] [0,1,2,6,7,8,25,46])
(.cond 46 .skip
(rg [bN 48 .eql 25 (cI 8),
mV 46 48] [0,1,2,6,7,8,46])))
q2)))))))
q3))))
def RW:AFun:=⟨3,[.cell 6 (some 5)],z4a cU dU,false,false⟩
def uH (C:Hd)(gl:GL)(q2 q3:ACode)(v0 v1 v2:AV)(h:aA)(x:Esc)(K:KT):Prop:=
 alK [.p (.str []),.p (.str []),.p (.str []),.p (.int .i64 0),.p (.int .i64 0)] h fun t1 h2 y3=>
 pK (eD (some 6) v0 v1 h2) fun t4=>
 pK (CA (some 6) t4 h2) fun t5=>
 alK [.p (.int .i64 0),.p (.int .i64 0),.p (.int .i64 0),.p (.str []),.p (.str []),.p (.str [])] h2 fun t6 h7 y8=>
 wK (kB (some 6) t6 t5 h7) fun t9 h10 y11=>
 pK (qC [.p (.str []),.p (.str []),.p (.str []),.p (.int .i64 0),.p (.int .i64 0)] [(4,1,v2)]) fun t12=>
 alK [.p (.str []),.p (.str []),.p (.str []),.p (.int .i64 0),.p (.int .i64 0)] h10 fun t13 h14 y15=>
 wK (kB (some 5) t13 t12 h14) fun t16 h17 y18=>
 pK (EA 0 none t6) fun t19=>
 pK (CA none t19 h17) fun t20=>
 pK (BA .eql t20 (AI 10)) fun t21=>
 YA t21 (pK (EA 1 none t6) fun t22=>
 pK (CA none t22 h17) fun t23=>
 bC C VD [v2,t23] h17 fun t24 h25 y26=>
 pK (EA 1 none t6) fun t27=>
 pK (CA none t27 h25) fun t28=>
 (pK (CA none t27 h17) fun v=>(fun u (g1:aA) (y1:Esc)=>u=t28∧g1=h17∧y1=[]) v h17 [])∧(pK (EA 0 none t13) fun t29=>
 wK (kB none t29 t24 h25) fun t30 h31 y32=>
 (pK (CA none t27 h31) fun v=>(fun u (g1:aA) (y1:Esc)=>u=t28∧g1=h31∧y1=[]) v h31 [])∧(pK (EA 4 none t13) fun t33=>
 wK (kB none t33 t28 h31) fun t34 h35 y36=>
 NW C gl q3 ⟨[(6,t1),(8,t13)],h35,(y36++(y32++(y26++(y18++(y15++(y11++(y8++(y3++x))))))))⟩ K)))
 (pK (BA .eql t20 (AI 9)) fun t37=>
 YA t37 (bC C VD [v2,(AI 1)] h17 fun t38 h39 y40=>
 pK (EA 2 none t6) fun t41=>
 pK (CA none t41 h39) fun t42=>
 (pK (CA none t41 h17) fun v=>(fun u (g1:aA) (y1:Esc)=>u=t42∧g1=h17∧y1=[]) v h17 [])∧(bC C PB [(.p (.str [48])),t42] h39 fun t43 h44 y45=>
 pK (BA .add t38 t43) fun t46=>
 pK (EA 0 none t13) fun t47=>
 wK (kB none t47 t46 h44) fun t48 h49 y50=>
 pK (EA 4 none t13) fun t51=>
 wK (kB none t51 (AI 1) h49) fun t52 h53 y54=>
 NW C gl q3 ⟨[(6,t1),(8,t13)],h53,(y54++(y50++(y45++(y40++(y18++(y15++(y11++(y8++(y3++x)))))))))⟩ K))
 (pK (BA .eql t20 (AI 7)) fun t55=>
 YA t55 (NW C gl q2 ⟨[(0,v0),(1,v1),(2,v2),(6,t1),(7,t6),(8,t13),(25,t20),(46,t55)],h17,(y18++(y15++(y11++(y8++(y3++x)))))⟩ (tC 0 (xD C gl q3 K)))
 (pK (BA .eql t20 (AI 8)) fun t56=>
 NW C gl q2 ⟨[(0,v0),(1,v1),(2,v2),(6,t1),(7,t6),(8,t13),(46,t56)],h17,(y18++(y15++(y11++(y8++(y3++x)))))⟩ (tC 0 (xD C gl q3 K)))))
theorem zaL {C gl q2 q3 v0 v1 v2 h x K}:NW C gl (z4a q2 q3) ⟨enter [v0,v1,v2],h,x⟩ K=uH C gl q2 q3 v0 v1 v2 h x K:=by kernel_rfl
theorem zgU {C gl v0 v1 v2 h x K}:NW C gl RW.body ⟨enter [v0,v1,v2],h,x⟩ K=uH C gl cU dU v0 v1 v2 h x K:=zaL
def z0U:ACode:=(.seq (rg [mV 6 cF] [0,1,2])
(.seq (rg [mV 7 0,
mV 8 1,
bN 9 .lss 7 8,
mV 10 9,
gD 11 10 false (.mv 0),
gD 12 10 false (.mv 2),
gD 13 10 false (.bin .gtr 11 12),
uO 14 (.pick 10 cT 13),
mV 6 14] [6])
.ret))
def kQ:AFun:=⟨3,[.t 6],z0U,false,false⟩
def VQ (C:Hd)(gl:GL)(e:En)(h:aA)(x:Esc)(K:KT):Sf C gl z0U e h x K:=⟨_,by simp only[z0U,↓wZ,AO.still];rfl⟩
theorem zf4 {C gl v0 v1 v2 h x K}:NW C gl kQ.body ⟨enter [v0,v1,v2],h,x⟩ K=(VQ C gl [(0,v0),(1,v1),(2,v2)] h x K).1:=(VQ C gl [(0,v0),(1,v1),(2,v2)] h x K).2
def HU:ACode:=.pr [2,4] (.seq (rg [lD 56 (some 6) 4,
wO (.store (some 6) 2 56),
mV 3 (cI 0)] [2,3])
.ret)
def IZ (C:Hd)(gl:GL)(e:En)(h:aA)(x:Esc)(K:KT):Sf C gl HU e h x K:=⟨_,by simp only[HU,↓wZ,AO.still];rfl⟩
theorem zig {C gl e h x K}:NW C gl HU ⟨e,h,x⟩ K=(IZ C gl e h x K).1:=(IZ C gl e h x K).2
def z2u:ACode:=(.seq (rg [uO 1 (.box 0),
uO 2 (.alloc [.p (.int .i64 0),.p (.int .i64 0),.p (.int .i64 0),.p (.str []),.p (.str []),.p (.str [])]),
mV 3 (cI 0)] [1,2])
(.seq (rg [lD 5 (some 6) 1,
uO 4 (.alloc [.p (.int .i64 0),.p (.int .i64 0),.p (.int .i64 0),.p (.str []),.p (.str []),.p (.str [])]),
wO (.store (some 6) 4 5)] [1,2,4])
(.seq (.block 0 (.seq (rg [fA 18 0 none 1,
lD 19 none 18,
bN 20 .eql 19 (cI 1),
mV 21 20,
gD 22 21 false (.faddr 0 none 1),
gD 23 21 false (.load none 22),
gD 24 21 false (.bin .eql 23 (cI 2)),
uO 25 (.pick 21 cT 24),
mV 26 25,
gD 27 26 false (.faddr 0 none 1),
gD 28 26 false (.load none 27),
gD 29 26 false (.bin .eql 28 (cI 10)),
uO 30 (.pick 26 cT 29),
mV 17 30] [1,2,4,17])
(.cond 17 (.seq (rg [fA 31 1 none 4,
wO (.store none 31 (cI 0))] [1,2,4])
(.seq (rg [fA 32 1 none 1,
lD 33 none 32,
cL 34 dL [33],
uO 35 (.un .not 34)] [2,4,35])
(.cond 35 (.seq (rg [lD 36 (some 6) 4,
wO (.store (some 6) 2 36),
mV 3 (cI 1)] [2,3])
.ret)
.skip)))
(.seq (rg [fA 38 0 none 1,
lD 39 none 38,
bN 40 .eql 39 (cI 9),
mV 37 40] [1,2,4,37])
(.cond 37 (.seq (rg [fA 41 2 none 4,
wO (.store none 41 (cI 0))] [1,2,4])
(.seq (rg [fA 42 2 none 1,
lD 43 none 42,
cL 44 gC [43,(cI 0),(cI 20000)]] [2,4,44])
(.cond 44 (.seq (rg [lD 45 (some 6) 4,
wO (.store (some 6) 2 45),
mV 3 (cI 1)] [2,3])
.ret)
.skip)))
(.seq (rg [fA 47 0 none 1,
lD 48 none 47,
cL 49 nG [48],
mV 46 49] [1,2,4,46])
(.cond 46 (.seq (rg [fA 50 3 none 4,
wO (.store none 50 (cS [])),
fA 51 4 none 4,
wO (.store none 51 (cS [])),
fA 52 5 none 4,
wO (.store none 52 (cS []))] [1,2,4])
(.seq (dr [dF (lD 53 (some 6) 4) [4],
dF (lD 54 (some 6) 1) [1],
dA (cL 55 aL [54]) [54] true [] [0],
dT (wO (.store (some 6) 2 53)) [2,53],
dF (mV 3 55) [55]] [2,3])
.ret))
(.seq (rg [fA 6 3 none 4,
wO (.store none 6 (cS []))] [1,2,4])
(.seq (.seq (rg [fA 7 3 none 1,
lD 8 none 7,
cL 9 CE [8],
uO 10 (.un .not 9)] [1,2,4,10])
(.cond 10 (.seq (rg [lD 11 (some 6) 4,
wO (.store (some 6) 2 11),
mV 3 (cI 9)] [2,3])
.ret)
.skip))
(.seq (rg [fA 12 3 none 1,
lD 13 none 12,
uO 14 (.lens 13),
bN 15 .gtr 14 (cI 2000)] [2,4,15])
(.cond 15 (.seq (rg [lD 16 (some 6) 4,
wO (.store (some 6) 2 16),
mV 3 (cI 2)] [2,3])
.ret)
.skip)))))))))))
HU)))
def tQ:AFun:=⟨1,[.cell 2 (some 6),.t 3],z2u,false,false⟩
def yE (C:Hd)(gl:GL)(e:En)(h:aA)(x:Esc)(K:KT):Sf C gl z2u e h x K:=⟨_,by simp only[z2u,↓wZ,AO.still];rfl⟩
theorem zif {C gl v0 h x K}:NW C gl tQ.body ⟨enter [v0],h,x⟩ K=(yE C gl [(0,v0)] h x K).1:=(yE C gl [(0,v0)] h x K).2
def z27:ACode:=(.seq (rg [uO 0 (.alloc [.p (.int .i64 0),.p (.int .i64 0),.p (.int .i64 0),.p (.str []),.p (.str []),.p (.str []),.p (.int .i64 0),.p (.int .i64 0),.p (.int .i64 0),.p (.str []),.p (.str []),.p (.str []),.p (.int .i64 0),.p (.int .i64 0),.p (.int .i64 0),.p (.str []),.p (.str []),.p (.str []),.p (.int .i64 0),.p (.int .i64 0),.p (.int .i64 0),.p (.str []),.p (.str []),.p (.str []),.p (.int .i64 0),.p (.int .i64 0),.p (.int .i64 0),.p (.str []),.p (.str []),.p (.str []),.p (.int .i64 0),.p (.int .i64 0),.p (.int .i64 0),.p (.str []),.p (.str []),.p (.str [])])] [0])
(.seq (rg [uO 1 (.build [.p (.int .i64 0),.p (.int .i64 0),.p (.int .i64 0),.p (.str []),.p (.str []),.p (.str [])] [(0,1,(cI 1)),(1,1,(cI 1))]),
uO 2 (.build [.p (.int .i64 0),.p (.int .i64 0),.p (.int .i64 0),.p (.str []),.p (.str []),.p (.str [])] [(0,1,(cI 2)),(1,1,(cI 1))]),
uO 3 (.build [.p (.int .i64 0),.p (.int .i64 0),.p (.int .i64 0),.p (.str []),.p (.str []),.p (.str [])] [(0,1,(cI 3))]),
uO 4 (.build [.p (.int .i64 0),.p (.int .i64 0),.p (.int .i64 0),.p (.str []),.p (.str []),.p (.str [])] [(0,1,(cI 4))]),
uO 5 (.build [.p (.int .i64 0),.p (.int .i64 0),.p (.int .i64 0),.p (.str []),.p (.str []),.p (.str [])] [(0,1,(cI 5))]),
uO 6 (.build [.p (.int .i64 0),.p (.int .i64 0),.p (.int .i64 0),.p (.str []),.p (.str []),.p (.str [])] [(0,1,(cI 6))]),
uO 7 (.build [.p (.int .i64 0),.p (.int .i64 0),.p (.int .i64 0),.p (.str []),.p (.str []),.p (.str []),.p (.int .i64 0),.p (.int .i64 0),.p (.int .i64 0),.p (.str []),.p (.str []),.p (.str []),.p (.int .i64 0),.p (.int .i64 0),.p (.int .i64 0),.p (.str []),.p (.str []),.p (.str []),.p (.int .i64 0),.p (.int .i64 0),.p (.int .i64 0),.p (.str []),.p (.str []),.p (.str []),.p (.int .i64 0),.p (.int .i64 0),.p (.int .i64 0),.p (.str []),.p (.str []),.p (.str []),.p (.int .i64 0),.p (.int .i64 0),.p (.int .i64 0),.p (.str []),.p (.str []),.p (.str [])] [(0,6,1),(6,6,2),(12,6,3),(18,6,4),(24,6,5),(30,6,6)]),
wO (.store (some 36) 0 7)] [0])
.ret))
def CQ:AFun:=⟨0,[.cell 0 (some 36)],z27,false,false⟩
def tS (C:Hd)(gl:GL)(e:En)(h:aA)(x:Esc)(K:KT):Sf C gl z27 e h x K:=⟨_,by simp only[z27,↓wZ,AO.still];rfl⟩
theorem zi6 {C gl h x K}:NW C gl CQ.body ⟨enter [],h,x⟩ K=(tS C gl [] h x K).1:=(tS C gl [] h x K).2
def z1Q:ACode:=(.seq (rg [mV 2 0,
uO 3 (.nilchk 2),
fA 4 0 none 3,
lD 5 none 4,
uO 6 (.isnil 0 false 5)] [0,6])
(.cond 6 (rg [mV 7 0,
mV 8 0,
uO 9 (.uns 1 115 [8]),
uO 10 (.uns 7 z6d [(.f z6d),9]),
uO 11 (.uns 1 115 [10]),
uO 12 (.nilchk 7),
fA 13 0 none 12,
wO (.store none 13 11)] [])
(.seq (rg [mV 14 0,
uO 15 (.nilchk 14),
fA 16 0 none 15,
lD 17 none 16,
mV 18 0,
uO 19 (.uns 2 0 [17,18])] [19])
(.cond 19 .bad
.skip))))
def iX:AFun:=⟨1,[],z1Q,false,false⟩
def BN (C:Hd)(gl:GL)(e:En)(h:aA)(x:Esc)(K:KT):Sf C gl z1Q e h x K:=⟨_,by simp only[z1Q,↓wZ,AO.still];rfl⟩
theorem zhy {C gl v0 h x K}:NW C gl iX.body ⟨enter [v0],h,x⟩ K=(BN C gl [(0,v0)] h x K).1:=(BN C gl [(0,v0)] h x K).2
def RL:ACode:=.pr [0,1,7,8] (.seq (rg [bN 9 .lss 8 7] [0,1,7,8,9])
(.seq (.cond 9 .skip
(.exit 0))
(.seq (.block 1 (.seq (rg [mV 10 8,
mV 5 10] [0,1,5,7,8])
(.seq (rg [mV 11 1,
mV 12 0,
mV 13 5,
uO 14 (.idxs 12 13),
cL 15 UK [11,14],
bN 16 .lss 15 (cI 0)] [0,1,7,8,16])
(.cond 16 (.seq (rg [mV 4 cF] [4])
.ret)
.skip))))
(rg [bN 17 .add 8 (cI 1),
mV 8 17] [0,1,7,8]))))
def hZ (C:Hd)(gl:GL)(e:En)(h:aA)(x:Esc)(K:KT):Sf C gl RL e h x K:=⟨_,by simp only[RL,↓wZ,AO.still];rfl⟩
theorem zgS {C gl e h x K}:NW C gl RL ⟨e,h,x⟩ K=(hZ C gl e h x K).1:=(hZ C gl e h x K).2
theorem zki {C gl e h x K}:NW C gl (.loop RL) ⟨e,h,x⟩ K=QA C gl RL K [(0,gA e 0),(1,gA e 1),(7,gA e 7),(8,gA e 8)] h x:=dC
def bU:ACode:=.pr [] (.seq (rg [mV 4 cT] [4])
.ret)
def iZ (C:Hd)(gl:GL)(e:En)(h:aA)(x:Esc)(K:KT):Sf C gl bU e h x K:=⟨_,by simp only[bU,↓wZ,AO.still];rfl⟩
theorem zgT {C gl e h x K}:NW C gl bU ⟨e,h,x⟩ K=(iZ C gl e h x K).1:=(iZ C gl e h x K).2
def z18:ACode:=(.seq (rg [mV 4 cF] [0,1])
(.seq (.seq (rg [mV 6 0,
uO 7 (.lens 6),
mV 8 (cI 0)] [0,1,7,8])
(.block 0 (.loop RL)))
bU))
def QW:AFun:=⟨2,[.t 4],z18,false,false⟩
def wR (C:Hd)(gl:GL)(e:En)(h:aA)(x:Esc)(K:KT):Sf C gl z18 e h x K:=⟨_,by simp only[z18,↓wZ,AO.still];rfl⟩
theorem zgR {C gl v0 v1 h x K}:NW C gl QW.body ⟨enter [v0,v1],h,x⟩ K=(wR C gl [(0,v0),(1,v1)] h x K).1:=(wR C gl [(0,v0),(1,v1)] h x K).2
def uL:ACode:=.pr [0,23,24] (.seq (rg [bN 25 .lss 24 23] [0,23,24,25])
(.seq (.cond 25 .skip
(.exit 0))
(.seq (.block 1 (.seq (rg [mV 26 24,
mV 3 26] [0,3,23,24])
(.seq (rg [mV 27 0,
mV 28 3,
uO 29 (.idxs 27 28),
mV 4 29] [0,4,23,24])
(.seq (rg [mV 30 4,
bN 31 .geq 30 (.c (.p (.int .u8 97))),
mV 32 31,
gD 33 32 true (.mv 4),
gD 34 32 true (.bin .leq 33 (.c (.p (.int .u8 122)))),
uO 35 (.pick 32 34 cF),
mV 36 35,
gD 37 36 false (.mv 4),
gD 38 36 false (.bin .geq 37 (.c (.p (.int .u8 48)))),
gD 39 36 false (.mv 38),
gD 40 39 true (.mv 4),
gD 41 39 true (.bin .leq 40 (.c (.p (.int .u8 57)))),
gD 42 36 false (.pick 39 41 cF),
uO 43 (.pick 36 cT 42),
mV 44 43,
gD 45 44 false (.mv 4),
gD 46 44 false (.bin .eql 45 (.c (.p (.int .u8 45)))),
uO 47 (.pick 44 cT 46),
mV 48 47,
gD 49 48 false (.mv 4),
gD 50 48 false (.bin .eql 49 (.c (.p (.int .u8 95)))),
uO 51 (.pick 48 cT 50),
uO 52 (.un .not 51)] [0,23,24,52])
(.cond 52 (.seq (rg [mV 2 cF] [2])
.ret)
.skip)))))
(rg [bN 53 .add 24 (cI 1),
mV 24 53] [0,23,24]))))
def pY (C:Hd)(gl:GL)(e:En)(h:aA)(x:Esc)(K:KT):Sf C gl uL e h x K:=⟨_,by simp only[uL,↓wZ,AO.still];rfl⟩
theorem zf2 {C gl e h x K}:NW C gl uL ⟨e,h,x⟩ K=(pY C gl e h x K).1:=(pY C gl e h x K).2
theorem zjM {C gl e h x K}:NW C gl (.loop uL) ⟨e,h,x⟩ K=QA C gl uL K [(0,gA e 0),(23,gA e 23),(24,gA e 24)] h x:=dC
def uT:ACode:=.pr [] (.seq (rg [mV 2 cT] [2])
.ret)
def qY (C:Hd)(gl:GL)(e:En)(h:aA)(x:Esc)(K:KT):Sf C gl uT e h x K:=⟨_,by simp only[uT,↓wZ,AO.still];rfl⟩
theorem zf3 {C gl e h x K}:NW C gl uT ⟨e,h,x⟩ K=(qY C gl e h x K).1:=(qY C gl e h x K).2
def z0T:ACode:=(.seq (rg [mV 2 cF] [0])
(.seq (.seq (rg [mV 5 0,
bN 6 .eql 5 (cS []),
mV 7 6,
gD 8 7 false (.mv 0),
gD 9 7 false (.lens 8),
gD 10 7 false (.bin .gtr 9 (cI 40)),
uO 11 (.pick 7 cT 10),
mV 12 11,
gD 13 12 false (.mv 0),
gD 14 12 false (.idxs 13 (cI 0)),
gD 15 12 false (.bin .lss 14 (.c (.p (.int .u8 97)))),
uO 16 (.pick 12 cT 15),
mV 17 16,
gD 18 17 false (.mv 0),
gD 19 17 false (.idxs 18 (cI 0)),
gD 20 17 false (.bin .gtr 19 (.c (.p (.int .u8 122)))),
uO 21 (.pick 17 cT 20)] [0,21])
(.cond 21 (.seq (rg [mV 2 cF] [2])
.ret)
.skip))
(.seq (.seq (rg [mV 22 0,
uO 23 (.lens 22),
mV 24 (cI 0)] [0,23,24])
(.block 0 (.loop uL)))
uT)))
def jQ:AFun:=⟨1,[.t 2],z0T,false,false⟩
def tH (C:Hd)(gl:GL)(e:En)(h:aA)(x:Esc)(K:KT):Sf C gl z0T e h x K:=⟨_,by simp only[z0T,↓wZ,AO.still];rfl⟩
theorem zf1 {C gl v0 h x K}:NW C gl jQ.body ⟨enter [v0],h,x⟩ K=(tH C gl [(0,v0)] h x K).1:=(tH C gl [(0,v0)] h x K).2
def LU:ACode:=.pr [0,3,5,7,9,10,11,12,13,14,93,94] (rg [mV 126 0,
mV 127 13,
mV 128 10,
mV 129 12,
uO 130 (.idxs 128 129),
mV 131 14,
cL 132 QG [126,127,130,131]] [0,3,5,7,9,10,11,93,94])
def LZ (C:Hd)(gl:GL)(e:En)(h:aA)(x:Esc)(K:KT):Sf C gl LU e h x K:=⟨_,by simp only[LU,↓wZ,AO.still];rfl⟩
theorem zio {C gl e h x K}:NW C gl LU ⟨e,h,x⟩ K=(LZ C gl e h x K).1:=(LZ C gl e h x K).2
def MU:ACode:=.pr [0,3,5,7,9,10,11,12,13,14,93,94] (.seq (.seq (rg [mV 102 12,
mV 103 5,
uO 104 (.lens 103),
bN 105 .sub 102 104,
mV 15 105] [0,3,5,7,9,10,11,12,13,14,15,93,94])
(.seq (rg [mV 106 15,
bN 107 .geq 106 (cI 0),
mV 108 107,
gD 109 108 true (.mv 15),
gD 110 108 true (.faddr 5 none 3),
gD 111 108 true (.load none 110),
gD 112 108 true (.lens 111),
gD 113 108 true (.bin .lss 109 112),
uO 114 (.pick 108 113 cF),
mV 115 114,
gD 116 115 true (.faddr 5 none 3),
gD 117 115 true (.load none 116),
gD 118 115 true (.mv 15),
gD 119 115 true (.idxs 117 118),
gD 120 115 true (.bin .eql 119 (.c (.p (.int .u8 49)))),
uO 121 (.pick 115 120 cF)] [0,3,5,7,9,10,11,12,13,14,15,93,94,121])
(.cond 121 (rg [fA 122 4 none 3,
lD 123 none 122,
mV 124 15,
uO 125 (.idxs 123 124),
mV 14 125] [0,3,5,7,9,10,11,12,13,14,93,94])
.skip)))
LU)
def MZ (C:Hd)(gl:GL)(e:En)(h:aA)(x:Esc)(K:KT):Sf C gl MU e h x K:=⟨_,by simp only[MU,↓wZ,AO.still];rfl⟩
theorem ziq {C gl e h x K}:NW C gl MU ⟨e,h,x⟩ K=(MZ C gl e h x K).1:=(MZ C gl e h x K).2
def NU:ACode:=.pr [0,3,5,7,9,10,11,93,94] (rg [bN 133 .add 94 (cI 1),
mV 94 133] [0,3,5,7,9,10,11,93,94])
def NZ (C:Hd)(gl:GL)(e:En)(h:aA)(x:Esc)(K:KT):Sf C gl NU e h x K:=⟨_,by simp only[NU,↓wZ,AO.still];rfl⟩
theorem zir {C gl e h x K}:NW C gl NU ⟨e,h,x⟩ K=(NZ C gl e h x K).1:=(NZ C gl e h x K).2
def nM:ACode:=.pr [0,3,5,7,9,10,11,93,94] (.seq (rg [bN 95 .lss 94 93] [0,3,5,7,9,10,11,93,94,95])
(.seq (.cond 95 .skip
(.exit 0))
(.seq (.block 1 (.seq (rg [mV 96 94,
mV 12 96] [0,3,5,7,9,10,11,12,93,94])
(.seq (rg [mV 13 (.c (.p (.int .u8 48))),
mV 14 (.c (.p (.int .u8 120)))] [0,3,5,7,9,10,11,12,13,14,93,94])
(.seq (.seq (rg [mV 97 12,
mV 98 10,
uO 99 (.lens 98),
bN 100 .sub 99 (cI 1),
bN 101 .eql 97 100] [0,3,5,7,9,10,11,12,13,14,93,94,101])
(.cond 101 (rg [mV 13 (.c (.p (.int .u8 49)))] [0,3,5,7,9,10,11,12,13,14,93,94])
.skip))
MU))))
NU)))
def OZ (C:Hd)(gl:GL)(e:En)(h:aA)(x:Esc)(K:KT):Sf C gl nM e h x K:=⟨_,by simp only[nM,↓wZ,AO.still];rfl⟩
theorem zis {C gl e h x K}:NW C gl nM ⟨e,h,x⟩ K=(OZ C gl e h x K).1:=(OZ C gl e h x K).2
theorem zk5 {C gl e h x K}:NW C gl (.loop nM) ⟨e,h,x⟩ K=QA C gl nM K [(0,gA e 0),(3,gA e 3),(5,gA e 5),(7,gA e 7),(9,gA e 9),(10,gA e 10),(11,gA e 11),(93,gA e 93),(94,gA e 94)] h x:=dC
def OU:ACode:=.pr [0,7,9,11] (.seq (rg [mV 134 0,
mV 135 9,
uO 136 (.nilchk 134),
fA 137 36 none 136,
wO (.store none 137 135)] [0,7,11])
(.seq (rg [mV 138 0,
mV 139 7,
cL 140 OF [138,139]] [11])
(.seq (rg [mV 141 11,
mV 4 141] [4])
.ret)))
def PZ (C:Hd)(gl:GL)(e:En)(h:aA)(x:Esc)(K:KT):Sf C gl OU e h x K:=⟨_,by simp only[OU,↓wZ,AO.still];rfl⟩
theorem zit {C gl e h x K}:NW C gl OU ⟨e,h,x⟩ K=(PZ C gl e h x K).1:=(PZ C gl e h x K).2
def PU:ACode:=.pr [0,3,5,7,9,10] (.seq (rg [mV 85 0,
uO 86 (.nilchk 85),
fA 87 37 none 86,
lD 88 none 87,
mV 89 5,
uO 90 (.lens 89),
bN 91 .add 88 90,
mV 11 91] [0,3,5,7,9,10,11])
(.seq (.seq (rg [mV 92 10,
uO 93 (.lens 92),
mV 94 (cI 0)] [0,3,5,7,9,10,11,93,94])
(.block 0 (.loop nM)))
OU))
def QZ (C:Hd)(gl:GL)(e:En)(h:aA)(x:Esc)(K:KT):Sf C gl PU e h x K:=⟨_,by simp only[PU,↓wZ,AO.still];rfl⟩
theorem ziu {C gl e h x K}:NW C gl PU ⟨e,h,x⟩ K=(QZ C gl e h x K).1:=(QZ C gl e h x K).2
def QU:ACode:=.pr [0,3,5,6,7,8,9] (.seq (rg [mV 55 0,
mV 56 8,
cL 57 OF [55,56]] [0,3,5,6,7,9])
(.seq (rg [mV 58 5,
fA 59 3 none 3,
lD 60 none 59,
bN 61 .add 58 60,
mV 62 6,
bN 63 .add 61 62,
mV 10 63] [0,3,5,7,9,10])
(.seq (.seq (rg [fA 64 0 none 3,
lD 65 none 64,
bN 66 .eql 65 (cI 7)] [0,3,5,7,9,10,66])
(.cond 66 (rg [mV 67 0,
uO 68 (.nilchk 67),
fA 69 38 none 68,
lD 70 none 69,
mV 71 10,
uO 72 (.lens 71),
bN 73 .add 70 72,
uO 74 (.nilchk 67),
fA 75 38 none 74,
wO (.store none 75 73)] [0,3,5,7,9,10])
(rg [mV 76 0,
uO 77 (.nilchk 76),
fA 78 39 none 77,
lD 79 none 78,
mV 80 10,
uO 81 (.lens 80),
bN 82 .add 79 81,
uO 83 (.nilchk 76),
fA 84 39 none 83,
wO (.store none 84 82)] [0,3,5,7,9,10])))
PU)))
def RZ (C:Hd)(gl:GL)(e:En)(h:aA)(x:Esc)(K:KT):Sf C gl QU e h x K:=⟨_,by simp only[QU,↓wZ,AO.still];rfl⟩
theorem ziv {C gl e h x K}:NW C gl QU ⟨e,h,x⟩ K=(RZ C gl e h x K).1:=(RZ C gl e h x K).2
def z2z:ACode:=(.seq (rg [uO 3 (.box 1),
mV 4 (cI 0)] [0,3])
(.seq (dr [dF (mV 16 0) [0],
dF (uO 17 (.nilchk 16)) [16],
dF (fA 18 0 (some 36) 17) [17],
dF (fA 19 24 (some 6) 18) [18],
dF (fA 20 3 none 19) [19],
dF (lD 21 none 20) [20],
dF (mV 22 0) [0],
dF (uO 23 (.nilchk 22)) [22],
dF (fA 24 0 (some 36) 23) [23],
dF (fA 25 30 (some 6) 24) [24],
dF (fA 26 3 none 25) [25],
dF (lD 27 none 26) [26],
dF (mV 28 0) [0],
dF (uO 29 (.nilchk 28)) [28],
dF (fA 30 0 (some 36) 29) [29],
dF (fA 31 6 (some 6) 30) [30],
dF (fA 32 1 none 31) [31],
dF (lD 33 none 32) [32],
dF (mV 5 21) [21],
dF (mV 6 27) [27],
dF (mV 7 33) [33],
dF (mV 8 (cI 4)) [],
dF (mV 9 (cI 5)) []] [0,3,5,6,7,8,9])
(.seq (.seq (rg [fA 34 0 none 3,
lD 35 none 34,
bN 36 .eql 35 (cI 7)] [0,3,5,6,7,8,9,36])
(.cond 36 (dr [dF (mV 37 0) [0],
dF (uO 38 (.nilchk 37)) [37],
dF (fA 39 0 (some 36) 38) [38],
dF (fA 40 12 (some 6) 39) [39],
dF (fA 41 3 none 40) [40],
dF (lD 42 none 41) [41],
dF (mV 43 0) [0],
dF (uO 44 (.nilchk 43)) [43],
dF (fA 45 0 (some 36) 44) [44],
dF (fA 46 18 (some 6) 45) [45],
dF (fA 47 3 none 46) [46],
dF (lD 48 none 47) [47],
dF (mV 49 0) [0],
dF (uO 50 (.nilchk 49)) [49],
dF (fA 51 0 (some 36) 50) [50],
dF (fA 52 0 (some 6) 51) [51],
dF (fA 53 1 none 52) [52],
dF (lD 54 none 53) [53],
dF (mV 5 42) [42],
dF (mV 6 48) [48],
dF (mV 7 54) [54],
dF (mV 8 (cI 11)) [],
dF (mV 9 (cI 12)) []] [0,3,5,6,7,8,9])
.skip))
QU)))
def wQ:AFun:=⟨2,[.t 4],z2z,false,false⟩
def TN (C:Hd)(gl:GL)(e:En)(h:aA)(x:Esc)(K:KT):Sf C gl z2z e h x K:=⟨_,by simp only[z2z,↓wZ,AO.still];rfl⟩
theorem zin {C gl v0 v1 h x K}:NW C gl wQ.body ⟨enter [v0,v1],h,x⟩ K=(TN C gl [(0,v0),(1,v1)] h x K).1:=(TN C gl [(0,v0),(1,v1)] h x K).2
def oM:ACode:=.pr [0,1,4,17,18] (.seq (rg [bN 19 .lss 18 17] [0,1,4,17,18,19])
(.seq (.cond 19 .skip
(.exit 0))
(.seq (.block 1 (.seq (rg [mV 20 18,
mV 6 20] [0,1,4,6,17,18])
(rg [mV 21 0,
mV 22 4,
mV 23 6,
uO 24 (.idxs 22 23),
cL 25 QG [21,24,(.c (.p (.int .u8 48))),(.c (.p (.int .u8 120)))]] [0,1,4,17,18])))
(rg [bN 26 .add 18 (cI 1),
mV 18 26] [0,1,4,17,18]))))
def SZ (C:Hd)(gl:GL)(e:En)(h:aA)(x:Esc)(K:KT):Sf C gl oM e h x K:=⟨_,by simp only[oM,↓wZ,AO.still];rfl⟩
theorem zi0 {C gl e h x K}:NW C gl oM ⟨e,h,x⟩ K=(SZ C gl e h x K).1:=(SZ C gl e h x K).2
theorem zk7 {C gl e h x K}:NW C gl (.loop oM) ⟨e,h,x⟩ K=QA C gl oM K [(0,gA e 0),(1,gA e 1),(4,gA e 4),(17,gA e 17),(18,gA e 18)] h x:=dC
def RU:ACode:=.pr [0,1] (rg [mV 27 0,
mV 28 1,
uO 29 (.nilchk 27),
fA 30 36 none 29,
wO (.store none 30 28)] [])
def TZ (C:Hd)(gl:GL)(e:En)(h:aA)(x:Esc)(K:KT):Sf C gl RU e h x K:=⟨_,by simp only[RU,↓wZ,AO.still];rfl⟩
theorem zi1 {C gl e h x K}:NW C gl RU ⟨e,h,x⟩ K=(TZ C gl e h x K).1:=(TZ C gl e h x K).2
def z22:ACode:=(.seq (rg [mV 8 0,
uO 9 (.nilchk 8),
fA 10 36 none 9,
lD 11 none 10,
mV 12 1,
cL 13 VK [11,12],
mV 7 13,
eX 14 7 0,
eX 15 7 1,
mV 4 14,
mV 5 15] [0,1,4])
(.seq (.seq (rg [mV 16 4,
uO 17 (.lens 16),
mV 18 (cI 0)] [0,1,4,17,18])
(.block 0 (.loop oM)))
RU))
def yQ:AFun:=⟨2,[],z22,false,false⟩
def rS (C:Hd)(gl:GL)(e:En)(h:aA)(x:Esc)(K:KT):Sf C gl z22 e h x K:=⟨_,by simp only[z22,↓wZ,AO.still];rfl⟩
theorem ziz {C gl v0 v1 h x K}:NW C gl yQ.body ⟨enter [v0,v1],h,x⟩ K=(rS C gl [(0,v0),(1,v1)] h x K).1:=(rS C gl [(0,v0),(1,v1)] h x K).2
def z2y:ACode:=(.seq (rg [mV 8 0,
uO 9 (.nilchk 8),
fA 10 37 none 9,
lD 11 none 10,
bN 12 .add 11 (cI 1),
uO 13 (.nilchk 8),
fA 14 37 none 13,
wO (.store none 14 12)] [0,1,2,3])
(.seq (rg [mV 15 0,
uO 16 (.nilchk 15),
fA 17 45 none 16,
lD 18 none 17] [0,1,2,3,18])
(.cond 18 (dr [dF (mV 19 0) [0],
dF (mV 20 0) [0],
dF (mV 21 0) [0],
dF (mV 22 0) [0],
dF (uO 23 (.nilchk 22)) [22],
dF (fA 24 42 none 23) [23],
dF (lD 25 none 24) [24],
dF (mV 26 1) [1],
dF (uO 27 (.bsl false none 1 (.int .u8 0) [(0,26)])) [26],
dT (uO 28 (.app none 25 27)) [25,27],
dF (mV 29 0) [0],
dF (uO 30 (.nilchk 29)) [29],
dF (fA 31 43 none 30) [30],
dA (lD 32 none 31) [31] false [9] [],
dF (mV 33 2) [2],
dA (uO 34 (.bsl false none 1 (.int .u8 0) [(0,33)])) [33] false [9] [],
dT (uO 35 (.app none 32 34)) [32,34],
dF (mV 36 0) [0],
dF (uO 37 (.nilchk 36)) [36],
dF (fA 38 44 none 37) [37],
dA (lD 39 none 38) [38] false [9,16] [],
dF (mV 40 3) [3],
dA (uO 41 (.bsl false none 1 (.int .u8 0) [(0,40)])) [40] false [9,16] [],
dT (uO 42 (.app none 39 41)) [39,41],
dF (uO 43 (.nilchk 19)) [19],
dF (fA 44 42 none 43) [43],
dT (wO (.store none 44 28)) [44,28],
dF (uO 45 (.nilchk 20)) [20],
dF (fA 46 43 none 45) [45],
dT (wO (.store none 46 35)) [46,35],
dF (uO 47 (.nilchk 21)) [21],
dF (fA 48 44 none 47) [47],
dT (wO (.store none 48 42)) [48,42]] [])
.skip)))
def vQ:AFun:=⟨4,[],z2y,false,false⟩
def SN (C:Hd)(gl:GL)(e:En)(h:aA)(x:Esc)(K:KT):Sf C gl z2y e h x K:=⟨_,by simp only[z2y,↓wZ,AO.still];rfl⟩
theorem zim {C gl v0 v1 v2 v3 h x K}:NW C gl vQ.body ⟨enter [v0,v1,v2,v3],h,x⟩ K=(SN C gl [(0,v0),(1,v1),(2,v2),(3,v3)] h x K).1:=(SN C gl [(0,v0),(1,v1),(2,v2),(3,v3)] h x K).2
def z2a:ACode:=(.seq (rg [uO 2 (.box 0),
mV 4 (cI 0)] [1,2])
(.seq (.block 0 (.seq (rg [fA 6 0 none 2,
lD 7 none 6,
cL 8 UD [7],
uO 9 (.un .not 8),
mV 5 9] [1,2,5])
(.cond 5 (.seq (rg [mV 4 (cI 5)] [4])
.ret)
(.seq (rg [mV 11 1,
uO 12 (.mkfn RO [2]),
cL 13 OK [11,12],
mV 10 13] [2,10])
(.cond 10 (.seq (rg [mV 4 (cI 6)] [4])
.ret)
(.seq (rg [fA 15 1 none 2,
lD 16 none 15,
cL 17 gC [16,(cI 2),(cI 32)],
mV 18 17,
gD 19 18 false (.faddr 2 none 2),
gD 20 18 false (.load none 19),
gD 21 18 false (.call gC [20,(cI 0),(cI 4294967295)]),
uO 22 (.pick 18 cT 21),
mV 14 22] [2,14])
(.cond 14 (.seq (rg [mV 4 (cI 1)] [4])
.ret)
(.seq (rg [fA 24 2 none 2,
lD 25 none 24,
bN 26 .neq 25 (cI 0),
mV 27 26,
gD 28 27 true (.faddr 2 none 2),
gD 29 27 true (.load none 28),
gD 30 27 true (.bin .rem 29 (cI 2)),
gD 31 27 true (.bin .eql 30 (cI 0)),
uO 32 (.pick 27 31 cF),
mV 23 32] [2,23])
(.cond 23 (.seq (rg [mV 4 (cI 3)] [4])
.ret)
(.seq (rg [fA 34 3 none 2,
lD 35 none 34,
lN 36 35,
bN 37 .gtr 36 (cI 10),
mV 38 37,
gD 39 38 false (.faddr 4 none 2),
gD 40 38 false (.load none 39),
gD 41 38 false (.len 40),
gD 42 38 false (.bin .gtr 41 (cI 100)),
uO 43 (.pick 38 cT 42),
mV 33 43] [2,33])
(.cond 33 (.seq (rg [mV 4 (cI 2)] [4])
.ret)
.skip)))))))))))
(.seq (dr [dF (lD 44 (some 5) 2) [2],
dT (cL 45 XO [44]) [44],
dA (lD 46 (some 5) 2) [2] false [1] [],
dT (cL 47 SO [46]) [46],
dF (uO 48 (.bsl false none 2 (.int .i64 0) [(0,45),(1,47)])) [45,47],
dT (cL 49 EH [48]) [48],
dF (mV 4 49) [49]] [4])
.ret)))
def rX:AFun:=⟨2,[.t 4],z2a,false,false⟩
def xE (C:Hd)(gl:GL)(e:En)(h:aA)(x:Esc)(K:KT):Sf C gl z2a e h x K:=⟨_,by simp only[z2a,↓wZ,AO.still];rfl⟩
theorem zhB {C gl v0 v1 h x K}:NW C gl rX.body ⟨enter [v0,v1],h,x⟩ K=(xE C gl [(0,v0),(1,v1)] h x K).1:=(xE C gl [(0,v0),(1,v1)] h x K).2
def BJ:ACode:=.pr [5,8,18,19,20,38,39,40] (.seq (rg [bN 41 .lss 40 39] [5,8,18,19,20,38,39,40,41])
(.seq (.cond 41 .skip
(.exit 2))
(.seq (.block 3 (.seq (rg [iA 42 (some 2) 38 40,
lD 43 (some 2) 42,
uO 10 (.alloc [.p (.str []),.p (.int .i64 0)]),
wO (.store (some 2) 10 43)] [5,8,10,18,19,20,38,39,40])
(.seq (dr [dF (mV 44 8) [8],
dF (uO 45 (.nilchk 44)) [44],
dF (fA 46 7 none 45) [45],
dF (lD 47 none 46) [46],
dF (fA 48 0 none 10) [10],
dF (lD 49 none 48) [48],
dF (fA 50 1 none 10) [10],
dF (lD 51 none 50) [50],
dA (cL 52 PB [(cS [48]),51]) [51] true [] [3,5],
dT (wO (.mupd (none,[2]) 47 49 52)) [47,49,52]] [5,8,10,18,19,20,38,39,40])
(dr [dF (mV 53 8) [8],
dF (uO 54 (.nilchk 53)) [53],
dF (fA 55 8 none 54) [54],
dF (lD 56 none 55) [55],
dF (fA 57 0 none 10) [10],
dF (lD 58 none 57) [57],
dF (mV 59 8) [8],
dF (uO 60 (.nilchk 59)) [59],
dF (fA 61 7 none 60) [60],
dF (lD 62 none 61) [61],
dF (fA 63 0 none 10) [10],
dF (lD 64 none 63) [63],
dF (uO 65 (.look (none,[2]) false (.p (.str [])) 62 64)) [62,64],
dT (wO (.mupd (none,[2]) 56 58 65)) [56,58,65]] [5,8,18,19,20,38,39,40]))))
(rg [bN 66 .add 40 (cI 1),
mV 40 66] [5,8,18,19,20,38,39,40]))))
def wH (C:Hd)(gl:GL)(e:En)(h:aA)(x:Esc)(K:KT):Sf C gl BJ e h x K:=⟨_,by simp only[BJ,↓wZ,AO.still];rfl⟩
theorem YN {C gl e h x K}:NW C gl BJ ⟨e,h,x⟩ K=(wH C gl e h x K).1:=(wH C gl e h x K).2
theorem zkq {C gl e h x K}:NW C gl (.loop (.scope BJ)) ⟨e,h,x⟩ K=QA C gl (.scope BJ) K [(5,gA e 5),(8,gA e 8),(18,gA e 18),(19,gA e 19),(20,gA e 20),(38,gA e 38),(39,gA e 39),(40,gA e 40)] h x:=BC
def pU:ACode:=.pr [5,8,18,19,20] (rg [mV 67 5,
mV 68 5,
uO 69 (.nilchk 68),
fA 70 1 none 69,
lD 71 none 70,
mV 72 8,
uO 73 (.uns 9 0 [72]),
uO 74 (.uns 11 0 [71,73]),
uO 75 (.nilchk 67),
fA 76 1 none 75,
wO (.store none 76 74)] [5,18,19,20])
def CN (C:Hd)(gl:GL)(e:En)(h:aA)(x:Esc)(K:KT):Sf C gl pU e h x K:=⟨_,by simp only[pU,↓wZ,AO.still];rfl⟩
theorem ZZ {C gl e h x K}:NW C gl pU ⟨e,h,x⟩ K=(CN C gl e h x K).1:=(CN C gl e h x K).2
def qU:ACode:=.pr [5,18,19,20] (rg [bN 77 .add 20 (cI 1),
mV 20 77] [5,18,19,20])
def DN (C:Hd)(gl:GL)(e:En)(h:aA)(x:Esc)(K:KT):Sf C gl qU e h x K:=⟨_,by simp only[qU,↓wZ,AO.still];rfl⟩
theorem z0a {C gl e h x K}:NW C gl qU ⟨e,h,x⟩ K=(DN C gl e h x K).1:=(DN C gl e h x K).2
def ZL:ACode:=.pr [5,18,19,20] (.seq (rg [bN 21 .lss 20 19] [5,18,19,20,21])
(.seq (.cond 21 .skip
(.exit 0))
(.seq (.block 1 (.seq (rg [iA 22 (some 5) 18 20,
lD 23 (some 5) 22,
uO 7 (.alloc [.p (.str []),.p (.int .i64 0),.p (.int .i64 0),.sl0 (some 2),.sl0 (some 2)]),
wO (.store (some 5) 7 23)] [5,7,18,19,20])
(.seq (dr [dF (fA 24 3 none 7) [7],
dF (lD 25 none 24) [24],
dT (cL 26 GO [25]) [25],
dF (fA 27 4 none 7) [7],
dA (lD 28 none 27) [27] false [2] [],
dT (cL 29 FO [28]) [28],
dF (fA 30 3 none 7) [7],
dT (wO (.store none 30 26)) [30,26],
dF (fA 31 4 none 7) [7],
dT (wO (.store none 31 29)) [31,29]] [5,7,18,19,20])
(.seq (rg [lD 32 (some 5) 7,
uO 33 (.mkmap),
uO 34 (.mkmap),
uO 35 (.build [.p (.str []),.p (.int .i64 0),.p (.int .i64 0),.sl0 (some 2),.sl0 (some 2),.p (.str []),.p (.str []),.nilm,.nilm] [(0,5,32),(6,1,(cS [48])),(7,1,33),(8,1,34)]),
uO 36 (.uns 12 0 [35]),
mV 8 36] [5,7,8,18,19,20])
(.seq (.seq (rg [fA 37 3 none 7,
lD 38 none 37,
lN 39 38,
mV 40 (cI 0)] [5,8,18,19,20,38,39,40])
(.block 2 (.loop (.scope BJ))))
pU)))))
qU)))
def sK (C:Hd)(gl:GL)(e:En)(h:aA)(x:Esc)(K:KT):Sf C gl ZL e h x K:=⟨_,by simp only[ZL,↓wZ,AO.still];rfl⟩
theorem DS {C gl e h x K}:NW C gl ZL ⟨e,h,x⟩ K=(sK C gl e h x K).1:=(sK C gl e h x K).2
theorem zkr {C gl e h x K}:NW C gl (.loop (.scope ZL)) ⟨e,h,x⟩ K=QA C gl (.scope ZL) K [(5,gA e 5),(18,gA e 18),(19,gA e 19),(20,gA e 20)] h x:=BC
def rU:ACode:=.pr [5] (.seq (rg [mV 78 5,
mV 2 78,
mV 3 (cI 0)] [2,3])
.ret)
def EN (C:Hd)(gl:GL)(e:En)(h:aA)(x:Esc)(K:KT):Sf C gl rU e h x K:=⟨_,by simp only[rU,↓wZ,AO.still];rfl⟩
theorem z0b {C gl e h x K}:NW C gl rU ⟨e,h,x⟩ K=(EN C gl e h x K).1:=(EN C gl e h x K).2
def z1X:ACode:=(.seq (rg [mV 2 (.c (.nilp)),
mV 3 (cI 0)] [0])
(.seq (.seq (rg [mV 11 0,
cL 12 JH [11],
mV 4 12] [0,4])
(.seq (rg [mV 13 4,
bN 14 .neq 13 (cI 0)] [0,4,14])
(.cond 14 (.seq (rg [mV 15 4,
mV 2 (.c (.nilp)),
mV 3 15] [2,3])
.ret)
.skip)))
(.seq (rg [uO 16 (.build [.p (.int .i64 0),.sl0 none] [(0,1,(cI 0))]),
uO 17 (.uns 12 1 [16]),
mV 5 17] [0,5])
(.seq (.seq (rg [mV 18 0,
lN 19 18,
mV 20 (cI 0)] [5,18,19,20])
(.block 0 (.loop (.scope ZL))))
rU))))
def pX:AFun:=⟨1,[.t 2,.t 3],z1X,false,false⟩
def VR (C:Hd)(gl:GL)(e:En)(h:aA)(x:Esc)(K:KT):Sf C gl z1X e h x K:=⟨_,by simp only[z1X,↓wZ,AO.still];rfl⟩
theorem zh6 {C gl v0 h x K}:NW C gl pX.body ⟨enter [v0],h,x⟩ K=(VR C gl [(0,v0)] h x K).1:=(VR C gl [(0,v0)] h x K).2
def z0R:ACode:=(.seq (rg [mV 2 cF] [0])
(.seq (rg [mV 3 0,
cL 4 gJ [3,(cS [48,49])],
bN 5 .eql 4 (cS []),
mV 2 5] [2])
.ret))
def gQ:AFun:=⟨1,[.t 2],z0R,false,false⟩
def TQ (C:Hd)(gl:GL)(e:En)(h:aA)(x:Esc)(K:KT):Sf C gl z0R e h x K:=⟨_,by simp only[z0R,↓wZ,AO.still];rfl⟩
theorem zfx {C gl v0 h x K}:NW C gl gQ.body ⟨enter [v0],h,x⟩ K=(TQ C gl [(0,v0)] h x K).1:=(TQ C gl [(0,v0)] h x K).2
def XL:ACode:=.pr [0,1,7,17,18,19] (.seq (rg [bN 20 .lss 19 18] [0,1,7,17,18,19,20])
(.seq (.cond 20 .skip
(.exit 0))
(.seq (.block 1 (.seq (rg [iA 21 none 17 19,
lD 22 none 21,
mV 9 22] [0,1,7,9,17,18,19])
(rg [mV 23 0,
mV 24 9,
mV 25 7,
cL 26 MO [23,24,25],
mV 7 26] [0,1,7,17,18,19])))
(rg [bN 27 .add 19 (cI 1),
mV 19 27] [0,1,7,17,18,19]))))
def uZ (C:Hd)(gl:GL)(e:En)(h:aA)(x:Esc)(K:KT):Sf C gl XL e h x K:=⟨_,by simp only[XL,↓wZ,AO.still];rfl⟩
theorem zh4 {C gl e h x K}:NW C gl XL ⟨e,h,x⟩ K=(uZ C gl e h x K).1:=(uZ C gl e h x K).2
theorem zko {C gl e h x K}:NW C gl (.loop XL) ⟨e,h,x⟩ K=QA C gl XL K [(0,gA e 0),(1,gA e 1),(7,gA e 7),(17,gA e 17),(18,gA e 18),(19,gA e 19)] h x:=dC
def mU:ACode:=.pr [0,1,10] (.seq (rg [mV 43 0,
mV 44 0,
uO 45 (.nilchk 44),
fA 46 0 none 45,
lD 47 none 46,
mV 48 1,
cL 49 uF [47,48],
uO 50 (.nilchk 43),
fA 51 0 none 50,
wO (.store none 51 49)] [10])
(.seq (rg [mV 52 10,
mV 6 52] [6])
.ret))
def WI (C:Hd)(gl:GL)(e:En)(h:aA)(x:Esc)(K:KT):Sf C gl mU e h x K:=⟨_,by simp only[mU,↓wZ,AO.still];rfl⟩
theorem WN {C gl e h x K}:NW C gl mU ⟨e,h,x⟩ K=(WI C gl e h x K).1:=(WI C gl e h x K).2
def nU:ACode:=.pr [0,1,7] (.seq (rg [mV 10 (cI (-1))] [0,1,7,10])
(.seq (.seq (rg [mV 28 0,
uO 29 (.nilchk 28),
fA 30 0 none 29,
lD 31 none 30,
bN 32 .eql 31 (cI 4),
mV 33 32,
gD 34 33 false (.mv 0),
gD 35 33 false (.nilchk 34),
gD 36 33 false (.faddr 0 none 35),
gD 37 33 false (.load none 36),
gD 38 33 false (.bin .eql 37 (cI 11)),
uO 39 (.pick 33 cT 38)] [0,1,7,10,39])
(.cond 39 (rg [mV 40 7,
bN 41 .sub 40 (.c (.p (.int .u8 48))),
uO 42 (.conv (.i .i64) 41),
mV 10 42] [0,1,10])
.skip))
mU))
def XI (C:Hd)(gl:GL)(e:En)(h:aA)(x:Esc)(K:KT):Sf C gl nU e h x K:=⟨_,by simp only[nU,↓wZ,AO.still];rfl⟩
theorem XN {C gl e h x K}:NW C gl nU ⟨e,h,x⟩ K=(XI C gl e h x K).1:=(XI C gl e h x K).2
def z1V:ACode:=(.seq (rg [mV 6 (cI 0)] [0,1,2])
(.seq (rg [mV 11 2,
bN 12 .add (cI 48) 11,
uO 13 (.conv (.i .u8) 12),
mV 7 13] [0,1,7])
(.seq (.seq (rg [mV 14 0,
uO 15 (.nilchk 14),
fA 16 1 none 15,
lD 17 none 16,
lN 18 17,
mV 19 (cI 0)] [0,1,7,17,18,19])
(.block 0 (.loop XL)))
nU)))
def nX:AFun:=⟨3,[.t 6],z1V,false,false⟩
def SR (C:Hd)(gl:GL)(e:En)(h:aA)(x:Esc)(K:KT):Sf C gl z1V e h x K:=⟨_,by simp only[z1V,↓wZ,AO.still];rfl⟩
theorem zh3 {C gl v0 v1 v2 h x K}:NW C gl nX.body ⟨enter [v0,v1,v2],h,x⟩ K=(SR C gl [(0,v0),(1,v1),(2,v2)] h x K).1:=(SR C gl [(0,v0),(1,v1),(2,v2)] h x K).2
def z0Z:ACode:=(.seq (rg [mV 4 (cI 0)] [0,1])
(.seq (rg [mV 5 0,
mV 6 1,
cL 7 DH [5,6],
mV 4 7] [4])
.ret))
def fW:AFun:=⟨2,[.t 4],z0Z,false,false⟩
def rN (C:Hd)(gl:GL)(e:En)(h:aA)(x:Esc)(K:KT):Sf C gl z0Z e h x K:=⟨_,by simp only[z0Z,↓wZ,AO.still];rfl⟩
theorem zfM {C gl v0 v1 h x K}:NW C gl fW.body ⟨enter [v0,v1],h,x⟩ K=(rN C gl [(0,v0),(1,v1)] h x K).1:=(rN C gl [(0,v0),(1,v1)] h x K).2
def VL:ACode:=.pr [0,1,7,8] (.seq (rg [bN 9 .lss 8 7] [0,1,7,8,9])
(.seq (.cond 9 .skip
(.exit 0))
(.seq (.block 1 (.seq (rg [mV 10 8,
mV 5 10] [0,1,5,7,8])
(.seq (rg [mV 11 1,
mV 12 0,
mV 13 5,
iA 14 (some 2) 12 13,
lD 15 (some 2) 14,
uO 16 (.callv 11 [15])] [0,1,5,7,8,16])
(.cond 16 (.seq (rg [mV 17 5,
mV 4 17] [4])
.ret)
.skip))))
(rg [bN 18 .add 8 (cI 1),
mV 8 18] [0,1,7,8]))))
def qZ (C:Hd)(gl:GL)(e:En)(h:aA)(x:Esc)(K:KT):Sf C gl VL e h x K:=⟨_,by simp only[VL,↓wZ,AO.still];rfl⟩
theorem zhr {C gl e h x K}:NW C gl VL ⟨e,h,x⟩ K=(qZ C gl e h x K).1:=(qZ C gl e h x K).2
theorem zkm {C gl e h x K}:NW C gl (.loop VL) ⟨e,h,x⟩ K=QA C gl VL K [(0,gA e 0),(1,gA e 1),(7,gA e 7),(8,gA e 8)] h x:=dC
def iU:ACode:=.pr [] (.seq (rg [mV 4 (cI (-1))] [4])
.ret)
def rZ (C:Hd)(gl:GL)(e:En)(h:aA)(x:Esc)(K:KT):Sf C gl iU e h x K:=⟨_,by simp only[iU,↓wZ,AO.still];rfl⟩
theorem zhs {C gl e h x K}:NW C gl iU ⟨e,h,x⟩ K=(rZ C gl e h x K).1:=(rZ C gl e h x K).2
def z1M:ACode:=(.seq (rg [mV 4 (cI 0)] [0,1])
(.seq (.seq (rg [mV 6 0,
lN 7 6,
mV 8 (cI 0)] [0,1,7,8])
(.block 0 (.loop VL)))
iU))
def dX:AFun:=⟨2,[.t 4],z1M,true,false⟩
def KR (C:Hd)(gl:GL)(e:En)(h:aA)(x:Esc)(K:KT):Sf C gl z1M e h x K:=⟨_,by simp only[z1M,↓wZ,AO.still];rfl⟩
theorem zhq {C gl v0 v1 h x K}:NW C gl dX.body ⟨enter [v0,v1],h,x⟩ K=(KR C gl [(0,v0),(1,v1)] h x K).1:=(KR C gl [(0,v0),(1,v1)] h x K).2
def z1x:ACode:=(.seq (rg [uO 2 (.box 0),
mV 3 cF] [1,2])
(.seq (rg [fA 4 0 none 2,
lD 5 none 4,
fA 6 1 none 1,
lD 7 none 6,
bN 8 .eql 5 7,
mV 3 8] [3])
.ret))
def FW:AFun:=⟨2,[.t 3],z1x,false,false⟩
def pR (C:Hd)(gl:GL)(e:En)(h:aA)(x:Esc)(K:KT):Sf C gl z1x e h x K:=⟨_,by simp only[z1x,↓wZ,AO.still];rfl⟩
theorem zg6 {C gl v0 v1 h x K}:NW C gl FW.body ⟨enter [v0,v1],h,x⟩ K=(pR C gl [(0,v0),(1,v1)] h x K).1:=(pR C gl [(0,v0),(1,v1)] h x K).2
def z1o:ACode:=(.seq (rg [mV 2 (cI 0)] [0])
(.seq (.seq (rg [mV 3 0,
cL 4 gJ [3,(cS [48,49])],
bN 5 .neq 4 (cS [])] [5])
(.cond 5 (.seq (rg [mV 2 (cI 9)] [2])
.ret)
.skip))
(.seq (rg [mV 2 (cI 0)] [2])
.ret)))
def vW:AFun:=⟨1,[.t 2],z1o,false,false⟩
def wN (C:Hd)(gl:GL)(e:En)(h:aA)(x:Esc)(K:KT):Sf C gl z1o e h x K:=⟨_,by simp only[z1o,↓wZ,AO.still];rfl⟩
theorem zgq {C gl v0 h x K}:NW C gl vW.body ⟨enter [v0],h,x⟩ K=(wN C gl [(0,v0)] h x K).1:=(wN C gl [(0,v0)] h x K).2
def z1R:ACode:=(.seq (rg [mV 4 cF] [0,1])
(.seq (rg [mV 5 0,
mV 6 1,
cL 7 LO [5,6],
bN 8 .geq 7 (cI 0),
mV 4 8] [4])
.ret))
def jX:AFun:=⟨2,[.t 4],z1R,false,false⟩
def OR (C:Hd)(gl:GL)(e:En)(h:aA)(x:Esc)(K:KT):Sf C gl z1R e h x K:=⟨_,by simp only[z1R,↓wZ,AO.still];rfl⟩
theorem zhz {C gl v0 v1 h x K}:NW C gl jX.body ⟨enter [v0,v1],h,x⟩ K=(OR C gl [(0,v0),(1,v1)] h x K).1:=(OR C gl [(0,v0),(1,v1)] h x K).2
def z1H:ACode:=(.seq (rg [mV 4 cF] [0,1])
(.seq (rg [mV 5 0,
mV 6 1,
cL 7 JO [5,6],
bN 8 .geq 7 (cI 0),
mV 4 8] [4])
.ret))
def ZW:AFun:=⟨2,[.t 4],z1H,true,false⟩
def ER (C:Hd)(gl:GL)(e:En)(h:aA)(x:Esc)(K:KT):Sf C gl z1H e h x K:=⟨_,by simp only[z1H,↓wZ,AO.still];rfl⟩
theorem zhh {C gl v0 v1 h x K}:NW C gl ZW.body ⟨enter [v0,v1],h,x⟩ K=(ER C gl [(0,v0),(1,v1)] h x K).1:=(ER C gl [(0,v0),(1,v1)] h x K).2
def z1y:ACode:=(.seq (rg [uO 2 (.box 0),
mV 3 cF] [1,2])
(.seq (rg [fA 4 0 none 2,
lD 5 none 4,
fA 6 0 none 1,
lD 7 none 6,
bN 8 .eql 5 7,
mV 3 8] [3])
.ret))
def GW:AFun:=⟨2,[.t 3],z1y,false,false⟩
def qR (C:Hd)(gl:GL)(e:En)(h:aA)(x:Esc)(K:KT):Sf C gl z1y e h x K:=⟨_,by simp only[z1y,↓wZ,AO.still];rfl⟩
theorem zg7 {C gl v0 v1 h x K}:NW C gl GW.body ⟨enter [v0,v1],h,x⟩ K=(qR C gl [(0,v0),(1,v1)] h x K).1:=(qR C gl [(0,v0),(1,v1)] h x K).2
def z1J:ACode:=(.seq (rg [mV 4 cF] [0,1])
(.seq (rg [mV 5 0,
mV 6 1,
cL 7 RK [5,6],
bN 8 .geq 7 (cI 0),
mV 4 8] [4])
.ret))
def mQ:AFun:=⟨2,[.t 4],z1J,true,false⟩
def HR (C:Hd)(gl:GL)(e:En)(h:aA)(x:Esc)(K:KT):Sf C gl z1J e h x K:=⟨_,by simp only[z1J,↓wZ,AO.still];rfl⟩
theorem zhj {C gl v0 v1 h x K}:NW C gl mQ.body ⟨enter [v0,v1],h,x⟩ K=(HR C gl [(0,v0),(1,v1)] h x K).1:=(HR C gl [(0,v0),(1,v1)] h x K).2
def z1u:ACode:=(.seq (rg [mV 4 (cI 0)] [0,1])
(.seq (rg [uO 5 (.build [.p (.int .i64 0),.p (.int .i64 0)] [(0,1,(cI 1)),(1,1,(cI 0))]),
uO 6 (.build [.p (.int .i64 0),.p (.int .i64 0)] [(0,1,(cI 1)),(1,1,(cI 2))]),
uO 7 (.build [.p (.int .i64 0),.p (.int .i64 0)] [(0,1,(cI 3)),(1,1,(cI 9))]),
uO 8 (.build [.p (.int .i64 0),.p (.int .i64 0)] [(0,1,(cI 4)),(1,1,(cI 5))]),
uO 9 (.build [.p (.int .i64 0),.p (.int .i64 0)] [(0,1,(cI 4)),(1,1,(cI 5))]),
uO 10 (.build [.p (.int .i64 0),.p (.int .i64 0)] [(0,1,(cI 6)),(1,1,(cI 8))]),
uO 11 (.build [.p (.int .i64 0),.p (.int .i64 0)] [(0,1,(cI 6)),(1,1,(cI 7))]),
uO 12 (.build [.p (.int .i64 0),.p (.int .i64 0)] [(0,1,(cI 4)),(1,1,(cI 8))]),
uO 13 (.build [.p (.int .i64 0),.p (.int .i64 0)] [(0,1,(cI 1)),(1,1,(cI 2))]),
uO 14 (.build [.p (.int .i64 0),.p (.int .i64 0)] [(0,1,(cI 10)),(1,1,(cI 0))]),
uO 15 (.build [.p (.int .i64 0),.p (.int .i64 0)] [(0,1,(cI 11)),(1,1,(cI 12))]),
uO 16 (.build [.p (.int .i64 0),.p (.int .i64 0)] [(0,1,(cI 11)),(1,1,(cI 12))]),
uO 17 (.build [.p (.int .i64 0),.p (.int .i64 0)] [(0,1,(cI 13)),(1,1,(cI 15))]),
uO 18 (.build [.p (.int .i64 0),.p (.int .i64 0)] [(0,1,(cI 13)),(1,1,(cI 14))]),
uO 19 (.build [.p (.int .i64 0),.p (.int .i64 0)] [(0,1,(cI 11)),(1,1,(cI 15))]),
uO 20 (.build [.p (.int .i64 0),.p (.int .i64 0)] [(0,1,(cI 1)),(1,1,(cI 2))]),
uO 21 (.build [.p (.int .i64 0),.p (.int .i64 0),.p (.int .i64 0),.p (.int .i64 0),.p (.int .i64 0),.p (.int .i64 0),.p (.int .i64 0),.p (.int .i64 0),.p (.int .i64 0),.p (.int .i64 0),.p (.int .i64 0),.p (.int .i64 0),.p (.int .i64 0),.p (.int .i64 0),.p (.int .i64 0),.p (.int .i64 0),.p (.int .i64 0),.p (.int .i64 0),.p (.int .i64 0),.p (.int .i64 0),.p (.int .i64 0),.p (.int .i64 0),.p (.int .i64 0),.p (.int .i64 0),.p (.int .i64 0),.p (.int .i64 0),.p (.int .i64 0),.p (.int .i64 0),.p (.int .i64 0),.p (.int .i64 0),.p (.int .i64 0),.p (.int .i64 0)] [(0,2,5),(2,2,6),(4,2,7),(6,2,8),(8,2,9),(10,2,10),(12,2,11),(14,2,12),(16,2,13),(18,2,14),(20,2,15),(22,2,16),(24,2,17),(26,2,18),(28,2,19),(30,2,20)]),
mV 22 0,
uO 23 (.idxa 16 (some 2) 21 22),
mV 24 1,
uO 25 (.idxa 2 none 23 24),
mV 4 25] [4])
.ret))
def CW:AFun:=⟨2,[.t 4],z1u,false,false⟩
def nR (C:Hd)(gl:GL)(e:En)(h:aA)(x:Esc)(K:KT):Sf C gl z1u e h x K:=⟨_,by simp only[z1u,↓wZ,AO.still];rfl⟩
theorem zg3 {C gl v0 v1 h x K}:NW C gl CW.body ⟨enter [v0,v1],h,x⟩ K=(nR C gl [(0,v0),(1,v1)] h x K).1:=(nR C gl [(0,v0),(1,v1)] h x K).2
def QT:ACode:=.pr [0,1,6,8,9,12,13,14] (.seq (.seq (rg [mV 31 9,
mV 32 1,
bN 33 .eql 31 32] [0,1,6,8,12,13,14,33])
(.cond 33 (.seq (rg [mV 34 8,
mV 4 34] [4])
.ret)
.skip))
(rg [mV 35 6,
mV 36 8,
bN 37 .add 36 (cS [48]),
mV 38 8,
bN 39 .add 38 (cS [49]),
uO 40 (.bsl false none 2 (.str []) [(0,37),(1,39)]),
uO 41 (.app none 35 40),
mV 6 41] [0,1,6,12,13,14]))
def TY (C:Hd)(gl:GL)(e:En)(h:aA)(x:Esc)(K:KT):Sf C gl QT e h x K:=⟨_,by simp only[QT,↓wZ,AO.still];rfl⟩
theorem zgv {C gl e h x K}:NW C gl QT ⟨e,h,x⟩ K=(TY C gl e h x K).1:=(TY C gl e h x K).2
def RT:ACode:=.pr [0,1,6,12,13,14] (rg [bN 42 .add 14 (cI 1),
mV 14 42] [0,1,6,12,13,14])
def UY (C:Hd)(gl:GL)(e:En)(h:aA)(x:Esc)(K:KT):Sf C gl RT e h x K:=⟨_,by simp only[RT,↓wZ,AO.still];rfl⟩
theorem zgw {C gl e h x K}:NW C gl RT ⟨e,h,x⟩ K=(UY C gl e h x K).1:=(UY C gl e h x K).2
def JL:ACode:=.pr [0,1,6,12,13,14] (.seq (rg [bN 15 .lss 14 13] [0,1,6,12,13,14,15])
(.seq (.cond 15 .skip
(.exit 2))
(.seq (.block 3 (.seq (rg [iA 16 none 12 14,
lD 17 none 16,
mV 8 17] [0,1,6,8,12,13,14])
(.seq (rg [mV 18 0,
mV 9 18] [0,1,6,8,9,12,13,14])
(.seq (.seq (rg [mV 19 0,
mV 20 8,
cL 21 rO [19,20],
mV 10 21] [0,1,6,8,9,10,12,13,14])
(.seq (rg [mV 22 10,
lN 23 22,
bN 24 .gtr 23 (cI 0)] [0,1,6,8,9,10,12,13,14,24])
(.cond 24 (rg [mV 25 10,
mV 26 10,
lN 27 26,
bN 28 .sub 27 (cI 1),
iA 29 none 25 28,
lD 30 none 29,
mV 9 30] [0,1,6,8,9,12,13,14])
.skip)))
QT))))
RT)))
def VY (C:Hd)(gl:GL)(e:En)(h:aA)(x:Esc)(K:KT):Sf C gl JL e h x K:=⟨_,by simp only[JL,↓wZ,AO.still];rfl⟩
theorem zgx {C gl e h x K}:NW C gl JL ⟨e,h,x⟩ K=(VY C gl e h x K).1:=(VY C gl e h x K).2
theorem zka {C gl e h x K}:NW C gl (.loop (.scope JL)) ⟨e,h,x⟩ K=QA C gl (.scope JL) K [(0,gA e 0),(1,gA e 1),(6,gA e 6),(12,gA e 12),(13,gA e 13),(14,gA e 14)] h x:=BC
def ST:ACode:=.pr [0,1,6] (rg [mV 43 6,
mV 5 43] [0,1,5])
def WY (C:Hd)(gl:GL)(e:En)(h:aA)(x:Esc)(K:KT):Sf C gl ST e h x K:=⟨_,by simp only[ST,↓wZ,AO.still];rfl⟩
theorem zgy {C gl e h x K}:NW C gl ST ⟨e,h,x⟩ K=(WY C gl e h x K).1:=(WY C gl e h x K).2
def KL:ACode:=.pr [0,1,5] (.block 1 (.seq (rg [uO 6 (.new0 none)] [0,1,5,6])
(.seq (.seq (rg [mV 12 5,
lN 13 12,
mV 14 (cI 0)] [0,1,6,12,13,14])
(.block 2 (.loop (.scope JL))))
ST)))
def XY (C:Hd)(gl:GL)(e:En)(h:aA)(x:Esc)(K:KT):Sf C gl KL e h x K:=⟨_,by simp only[KL,↓wZ,AO.still];rfl⟩
theorem zgz {C gl e h x K}:NW C gl KL ⟨e,h,x⟩ K=(XY C gl e h x K).1:=(XY C gl e h x K).2
theorem zkb {C gl e h x K}:NW C gl (.loop KL) ⟨e,h,x⟩ K=QA C gl KL K [(0,gA e 0),(1,gA e 1),(5,gA e 5)] h x:=dC
def z1s:ACode:=(.seq (rg [mV 4 (cS [])] [0,1])
(.seq (rg [uO 11 (.bsl false none 1 (.str []) [(0,(cS []))]),
mV 5 11] [0,1,5])
(.block 0 (.loop KL))))
def zW:AFun:=⟨2,[.t 4],z1s,false,false⟩
def lR (C:Hd)(gl:GL)(e:En)(h:aA)(x:Esc)(K:KT):Sf C gl z1s e h x K:=⟨_,by simp only[z1s,↓wZ,AO.still];rfl⟩
theorem zgu {C gl v0 v1 h x K}:NW C gl zW.body ⟨enter [v0,v1],h,x⟩ K=(lR C gl [(0,v0),(1,v1)] h x K).1:=(lR C gl [(0,v0),(1,v1)] h x K).2
def z26:ACode:=(.seq (rg [mV 2 cF] [0])
(.seq (rg [mV 3 0,
bN 4 .eql 3 (cI 0),
mV 5 4,
gD 6 5 false (.mv 0),
gD 7 5 false (.bin .eql 6 (cI 1)),
uO 8 (.pick 5 cT 7),
mV 9 8,
gD 10 9 false (.mv 0),
gD 11 9 false (.bin .eql 10 (cI 6)),
uO 12 (.pick 9 cT 11),
mV 13 12,
gD 14 13 false (.mv 0),
gD 15 13 false (.bin .eql 14 (cI 13)),
uO 16 (.pick 13 cT 15),
mV 2 16] [2])
.ret))
def BQ:AFun:=⟨1,[.t 2],z26,false,false⟩
def xH (C:Hd)(gl:GL)(e:En)(h:aA)(x:Esc)(K:KT):Sf C gl z26 e h x K:=⟨_,by simp only[z26,↓wZ,AO.still];rfl⟩
theorem zi5 {C gl v0 h x K}:NW C gl BQ.body ⟨enter [v0],h,x⟩ K=(xH C gl [(0,v0)] h x K).1:=(xH C gl [(0,v0)] h x K).2
def z23:ACode:=(.seq (rg [uO 1 (.box 0),
mV 2 (cI 0)] [1])
(.seq (.block 0 (.seq (rg [fA 4 3 none 1,
lD 5 none 4,
bN 6 .eql 5 (cS []),
mV 3 6] [1,3])
(.cond 3 (.seq (rg [mV 2 (cI 8)] [2])
.ret)
(.seq (rg [fA 8 3 none 1,
lD 9 none 8,
cL 10 CE [9],
uO 11 (.un .not 10),
mV 7 11] [1,7])
(.cond 7 (.seq (rg [mV 2 (cI 9)] [2])
.ret)
(.seq (rg [fA 13 3 none 1,
lD 14 none 13,
uO 15 (.lens 14),
bN 16 .gtr 15 (cI 2000),
mV 12 16] [1,12])
(.cond 12 (.seq (rg [mV 2 (cI 2)] [2])
.ret)
(.seq (rg [fA 18 4 none 1,
lD 19 none 18,
bN 20 .neq 19 (cS []),
mV 21 20,
gD 22 21 true (.faddr 4 none 1),
gD 23 21 true (.load none 22),
gD 24 21 true (.lens 23),
gD 25 21 true (.faddr 3 none 1),
gD 26 21 true (.load none 25),
gD 27 21 true (.lens 26),
gD 28 21 true (.bin .neq 24 27),
gD 29 21 true (.mv 28),
gD 30 29 false (.faddr 5 none 1),
gD 31 29 false (.load none 30),
gD 32 29 false (.lens 31),
gD 33 29 false (.faddr 3 none 1),
gD 34 29 false (.load none 33),
gD 35 29 false (.lens 34),
gD 36 29 false (.bin .neq 32 35),
gD 37 21 true (.pick 29 cT 36),
uO 38 (.pick 21 37 cF),
mV 17 38] [1,17])
(.cond 17 (.seq (rg [mV 2 (cI 3)] [2])
.ret)
(.seq (rg [fA 40 4 none 1,
lD 41 none 40,
cL 42 CE [41],
uO 43 (.un .not 42),
mV 44 43,
gD 45 44 false (.faddr 5 none 1),
gD 46 44 false (.load none 45),
gD 47 44 false (.call CE [46]),
gD 48 44 false (.un .not 47),
uO 49 (.pick 44 cT 48),
mV 39 49] [1,39])
(.cond 39 (.seq (rg [mV 2 (cI 9)] [2])
.ret)
(.seq (rg [fA 51 4 none 1,
lD 52 none 51,
bN 53 .eql 52 (cS []),
mV 54 53,
gD 55 54 true (.faddr 5 none 1),
gD 56 54 true (.load none 55),
gD 57 54 true (.bin .neq 56 (cS [])),
uO 58 (.pick 54 57 cF),
mV 50 58] [50])
(.cond 50 (.seq (rg [mV 2 (cI 3)] [2])
.ret)
.skip)))))))))))))
(.seq (rg [mV 2 (cI 0)] [2])
.ret)))
def zQ:AFun:=⟨1,[.t 2],z23,false,false⟩
def zE (C:Hd)(gl:GL)(e:En)(h:aA)(x:Esc)(K:KT):Sf C gl z23 e h x K:=⟨_,by simp only[z23,↓wZ,AO.still];rfl⟩
theorem zi2 {C gl v0 h x K}:NW C gl zQ.body ⟨enter [v0],h,x⟩ K=(zE C gl [(0,v0)] h x K).1:=(zE C gl [(0,v0)] h x K).2
def z1Y:ACode:=(.seq (rg [mV 4 (cS []),
mV 5 (cI 0)] [0,1])
(.seq (.seq (rg [mV 6 0,
cL 7 hJ [6],
uO 8 (.un .not 7),
mV 9 8,
gD 10 9 false (.mv 1),
gD 11 9 false (.call hJ [10]),
gD 12 9 false (.un .not 11),
uO 13 (.pick 9 cT 12)] [0,1,13])
(.cond 13 (.seq (rg [mV 4 (cS []),
mV 5 (cI 1)] [4,5])
.ret)
.skip))
(.seq (rg [mV 14 0,
mV 15 1,
cL 16 mG [14,15],
mV 4 16,
mV 5 (cI 0)] [4,5])
.ret)))
def oQ:AFun:=⟨2,[.t 4,.t 5],z1Y,false,false⟩
def WR (C:Hd)(gl:GL)(e:En)(h:aA)(x:Esc)(K:KT):Sf C gl z1Y e h x K:=⟨_,by simp only[z1Y,↓wZ,AO.still];rfl⟩
theorem zh7 {C gl v0 v1 h x K}:NW C gl oQ.body ⟨enter [v0,v1],h,x⟩ K=(WR C gl [(0,v0),(1,v1)] h x K).1:=(WR C gl [(0,v0),(1,v1)] h x K).2
def z2b:ACode:=(.seq (rg [uO 2 (.box 0),
mV 3 cF] [1,2])
(.seq (rg [fA 4 0 none 2,
lD 5 none 4,
fA 6 0 none 1,
lD 7 none 6,
bN 8 .eql 5 7,
mV 3 8] [3])
.ret))
def sX:AFun:=⟨2,[.t 3],z2b,false,false⟩
def YR (C:Hd)(gl:GL)(e:En)(h:aA)(x:Esc)(K:KT):Sf C gl z2b e h x K:=⟨_,by simp only[z2b,↓wZ,AO.still];rfl⟩
theorem zhC {C gl v0 v1 h x K}:NW C gl sX.body ⟨enter [v0,v1],h,x⟩ K=(YR C gl [(0,v0),(1,v1)] h x K).1:=(YR C gl [(0,v0),(1,v1)] h x K).2
end Go.Am
end
section
/- The functions asv abstract code,and asv formulas over their values: printed by program out of the translation. -/
set_option linter.all false
set_option maxRecDepth 100000
namespace Go.Am
def eM:ACode:=.pr [1,6,7,8] (.seq (rg [bN 9 .lss 8 7] [1,6,7,8,9])
(.seq (.cond 9 .skip
(.exit 0))
(.seq (.block 1 (.seq (rg [mV 10 8,
iA 11 (some 2) 6 8,
lD 12 (some 2) 11,
uO 4 (.alloc [.p (.str []),.p (.int .i64 0)]),
mV 3 10,
wO (.store (some 2) 4 12)] [1,3,4,6,7,8])
(.block 2 (.seq (rg [fA 14 0 none 4,
lD 15 none 14,
cL 16 UD [15],
uO 17 (.un .not 16),
mV 13 17] [1,3,4,6,7,8,13])
(.cond 13 (.seq (rg [mV 2 (cI 5)] [2])
.ret)
(.seq (rg [fA 19 0 none 4,
lD 20 none 19,
bN 21 .eql 20 (cS [98,121,112,97,115,115]),
mV 22 21,
gD 23 22 false (.faddr 0 none 4),
gD 24 22 false (.load none 23),
gD 25 22 false (.bin .eql 24 (cS [105,100,99,111,100,101])),
uO 26 (.pick 22 cT 25),
mV 27 26,
gD 28 27 false (.faddr 3 none 1),
gD 29 27 false (.load none 28),
gD 30 27 false (.mv 3),
gD 31 27 false (.slice (some 2) 29 none (some 30) none),
gD 32 27 false (.mkfn YO [4]),
gD 33 27 false (.call eJ [31,32]),
uO 34 (.pick 27 cT 33),
mV 18 34] [1,4,6,7,8,18])
(.cond 18 (.seq (rg [mV 2 (cI 6)] [2])
.ret)
(.seq (rg [fA 36 1 none 4,
lD 37 none 36,
cL 38 gC [37,(cI 1),(cI 1000)],
mV 35 38] [1,6,7,8,35])
(.cond 35 (.seq (rg [mV 2 (cI 1)] [2])
.ret)
.skip)))))))))
(rg [bN 39 .add 8 (cI 1),
mV 8 39] [1,6,7,8]))))
def gG (C:Hd)(gl:GL)(e:En)(h:aA)(x:Esc)(K:KT):Sf C gl eM e h x K:=⟨_,by simp only[eM,↓wZ,AO.still];rfl⟩
theorem zH {C gl e h x K}:NW C gl eM ⟨e,h,x⟩ K=(gG C gl e h x K).1:=(gG C gl e h x K).2
theorem zkx {C gl e h x K}:NW C gl (.loop (.scope eM)) ⟨e,h,x⟩ K=QA C gl (.scope eM) K [(1,gA e 1),(6,gA e 6),(7,gA e 7),(8,gA e 8)] h x:=BC
def xU:ACode:=.pr [] (.seq (rg [mV 2 (cI 0)] [2])
.ret)
def iS (C:Hd)(gl:GL)(e:En)(h:aA)(x:Esc)(K:KT):Sf C gl xU e h x K:=⟨_,by simp only[xU,↓wZ,AO.still];rfl⟩
theorem z5H {C gl e h x K}:NW C gl xU ⟨e,h,x⟩ K=(iS C gl e h x K).1:=(iS C gl e h x K).2
def z2k:ACode:=(.seq (rg [uO 1 (.box 0),
mV 2 (cI 0)] [1])
(.seq (.seq (rg [fA 5 3 none 1,
lD 6 none 5,
lN 7 6,
mV 8 (cI 0)] [1,6,7,8])
(.block 0 (.loop (.scope eM))))
xU))
def zX:AFun:=⟨1,[.t 2],z2k,false,false⟩
def gS (C:Hd)(gl:GL)(e:En)(h:aA)(x:Esc)(K:KT):Sf C gl z2k e h x K:=⟨_,by simp only[z2k,↓wZ,AO.still];rfl⟩
theorem zhQ {C gl v0 h x K}:NW C gl zX.body ⟨enter [v0],h,x⟩ K=(gS C gl [(0,v0)] h x K).1:=(gS C gl [(0,v0)] h x K).2
def bM:ACode:=.pr [1,8,9,10] (.seq (rg [bN 11 .lss 10 9] [1,8,9,10,11])
(.seq (.cond 11 .skip
(.exit 0))
(.seq (.block 1 (.seq (rg [mV 12 10,
iA 13 (some 2) 8 10,
lD 14 (some 2) 13,
uO 4 (.alloc [.p (.str []),.p (.str [])]),
mV 3 12,
wO (.store (some 2) 4 14)] [1,3,4,8,9,10])
(.seq (.block 2 (.seq (rg [fA 16 0 none 4,
lD 17 none 16,
uO 18 (.lens 17),
fA 19 1 none 1,
lD 20 none 19,
bN 21 .neq 18 20,
mV 15 21] [1,3,4,8,9,10,15])
(.cond 15 (.seq (rg [mV 2 (cI 3)] [2])
.ret)
(.seq (rg [fA 23 0 none 4,
lD 24 none 23,
cL 25 CE [24],
uO 26 (.un .not 25),
mV 22 26] [1,3,4,8,9,10,22])
(.cond 22 (.seq (rg [mV 2 (cI 9)] [2])
.ret)
(.seq (rg [fA 28 0 none 4,
lD 29 none 28,
cL 30 TK [29,(cS [48])],
uO 31 (.un .not 30),
mV 27 31] [1,3,4,8,9,10,27])
(.cond 27 (.seq (rg [mV 2 (cI 16)] [2])
.ret)
(.seq (rg [fA 33 4 none 1,
lD 34 none 33,
mV 35 3,
uO 36 (.slice (some 2) 34 none (some 35) none),
uO 37 (.mkfn TO [4]),
cL 38 PK [36,37],
mV 32 38] [1,4,8,9,10,32])
(.cond 32 (.seq (rg [mV 2 (cI 6)] [2])
.ret)
.skip)))))))))
(.seq (rg [lD 40 (some 5) 1,
fA 41 1 none 4,
lD 42 none 41,
cL 43 iJ [40,42],
mV 39 43,
eX 44 39 0,
eX 45 39 1,
uO 5 (.alloc [.p (.str []),.p (.int .i64 0)]),
wO (.store (some 2) 5 44),
mV 6 45] [1,6,8,9,10])
(.seq (rg [mV 46 6,
uO 47 (.un .not 46)] [1,8,9,10,47])
(.cond 47 (.seq (rg [mV 2 (cI 8)] [2])
.ret)
.skip))))))
(rg [bN 48 .add 10 (cI 1),
mV 10 48] [1,8,9,10]))))
def fG (C:Hd)(gl:GL)(e:En)(h:aA)(x:Esc)(K:KT):Sf C gl bM e h x K:=⟨_,by simp only[bM,↓wZ,AO.still];rfl⟩
theorem yH {C gl e h x K}:NW C gl bM ⟨e,h,x⟩ K=(fG C gl e h x K).1:=(fG C gl e h x K).2
theorem zkt {C gl e h x K}:NW C gl (.loop (.scope bM)) ⟨e,h,x⟩ K=QA C gl (.scope bM) K [(1,gA e 1),(8,gA e 8),(9,gA e 9),(10,gA e 10)] h x:=BC
def uU:ACode:=.pr [] (.seq (rg [mV 2 (cI 0)] [2])
.ret)
def aS (C:Hd)(gl:GL)(e:En)(h:aA)(x:Esc)(K:KT):Sf C gl uU e h x K:=⟨_,by simp only[uU,↓wZ,AO.still];rfl⟩
theorem z5E {C gl e h x K}:NW C gl uU ⟨e,h,x⟩ K=(aS C gl e h x K).1:=(aS C gl e h x K).2
def z2c:ACode:=(.seq (rg [uO 1 (.box 0),
mV 2 (cI 0)] [1])
(.seq (.seq (rg [fA 7 4 none 1,
lD 8 none 7,
lN 9 8,
mV 10 (cI 0)] [1,8,9,10])
(.block 0 (.loop (.scope bM))))
uU))
def tX:AFun:=⟨1,[.t 2],z2c,false,false⟩
def ZR (C:Hd)(gl:GL)(e:En)(h:aA)(x:Esc)(K:KT):Sf C gl z2c e h x K:=⟨_,by simp only[z2c,↓wZ,AO.still];rfl⟩
theorem zhD {C gl v0 h x K}:NW C gl tX.body ⟨enter [v0],h,x⟩ K=(ZR C gl [(0,v0)] h x K).1:=(ZR C gl [(0,v0)] h x K).2
def z1F:ACode:=(.det (.seq (rg [mV 2 (.c (.p (.sl (some 2) [])))] [0])
(.seq (.seq (rg [mV 3 0,
uO 4 (.isnil 4 false 3)] [0,4])
(.condu 4 (.seq (rg [mV 2 (.c (.p (.sl (some 2) [])))] [2])
.ret)
.skip))
(.seq (rg [uO 5 (.bsl true (some 2) 0 (.agg [.str [],.int .i64 0]) []),
mV 6 0,
uO 7 (.app (some 2) 5 6),
mV 2 7] [2])
.ret))))
def XW:AFun:=⟨1,[.t 2],z1F,false,false⟩
def BR (C:Hd)(gl:GL)(e:En)(h:aA)(x:Esc)(K:KT):Sf C gl z1F e h x K:=⟨_,by simp only[z1F,↓wZ,AO.still];rfl⟩
theorem zhf {C gl v0 h x K}:NW C gl XW.body ⟨enter [v0],h,x⟩ K=(BR C gl [(0,v0)] h x K).1:=(BR C gl [(0,v0)] h x K).2
def z1E:ACode:=(.det (.seq (rg [mV 2 (.c (.p (.sl (some 2) [])))] [0])
(.seq (.seq (rg [mV 3 0,
uO 4 (.isnil 4 false 3)] [0,4])
(.condu 4 (.seq (rg [mV 2 (.c (.p (.sl (some 2) [])))] [2])
.ret)
.skip))
(.seq (rg [uO 5 (.bsl true (some 2) 0 (.agg [.str [],.str []]) []),
mV 6 0,
uO 7 (.app (some 2) 5 6),
mV 2 7] [2])
.ret))))
def WW:AFun:=⟨1,[.t 2],z1E,false,false⟩
def AR (C:Hd)(gl:GL)(e:En)(h:aA)(x:Esc)(K:KT):Sf C gl z1E e h x K:=⟨_,by simp only[z1E,↓wZ,AO.still];rfl⟩
theorem zhe {C gl v0 h x K}:NW C gl WW.body ⟨enter [v0],h,x⟩ K=(AR C gl [(0,v0)] h x K).1:=(AR C gl [(0,v0)] h x K).2
def kU:ACode:=.pr [1,2,12,25] (.cond 25 (.seq (rg [mV 28 1,
uO 29 (.nilchk 28),
fA 30 6 none 29,
lD 31 none 30,
uO 32 (.idxs 31 (cI 0)),
mV 7 32] [1,2,7])
(.seq (rg [mV 33 1,
mV 34 1,
uO 35 (.nilchk 34),
fA 36 6 none 35,
lD 37 none 36,
uO 38 (.slstr 37 (some (cI 1)) none),
mV 39 2,
uO 40 (.conv (.i .i32) 39),
uO 41 (.conv .r2s 40),
bN 42 .add 38 41,
uO 43 (.nilchk 33),
fA 44 6 none 43,
wO (.store none 44 42)] [7])
(.seq (rg [mV 45 7,
mV 6 45] [6])
.ret)))
(.seq (rg [bN 47 .eql 12 (cI 8),
mV 46 47] [1,2,12,46])
(.cond 46 (.seq (rg [mV 48 1,
cL 49 WK [48],
uO 50 (.field 0 none 49),
mV 8 50] [1,2,8])
(.seq (rg [mV 51 8,
bN 52 .neq 51 (cS [98,121,112,97,115,115]),
mV 53 52,
gD 54 53 true (.mv 8),
gD 55 53 true (.bin .neq 54 (cS [105,100,99,111,100,101])),
uO 56 (.pick 53 55 cF)] [1,2,8,56])
(.cond 56 (dr [dF (mV 57 1) [1],
dF (uO 58 (.nilchk 57)) [57],
dF (fA 59 8 none 58) [58],
dF (lD 60 none 59) [59],
dF (mV 61 8) [8],
dF (mV 62 1) [1],
dF (uO 63 (.nilchk 62)) [62],
dF (fA 64 6 none 63) [63],
dF (lD 65 none 64) [64],
dT (wO (.mupd (none,[2]) 60 61 65)) [60,61,65]] [2])
.skip)))
(.seq (rg [bN 67 .eql 12 (cI 10),
mV 66 67] [1,2,12,66])
(.cond 66 (rg [mV 68 1,
mV 69 1,
uO 70 (.nilchk 69),
fA 71 0 (some 5) 70,
fA 72 1 none 71,
lD 73 none 72,
bN 74 .sub 73 (cI 1),
cL 75 PB [(cS [48]),74],
bN 76 .add (cS [49]) 75,
uO 77 (.nilchk 68),
fA 78 6 none 77,
wO (.store none 78 76)] [2])
(.seq (rg [bN 80 .eql 12 (cI 15),
mV 79 80] [1,2,79])
(.cond 79 (rg [mV 81 1,
mV 82 1,
uO 83 (.nilchk 82),
fA 84 6 none 83,
lD 85 none 84,
uO 86 (.nilchk 81),
fA 87 5 none 86,
wO (.store none 87 85)] [2])
.skip)))))))
def qF (C:Hd)(gl:GL)(e:En)(h:aA)(x:Esc)(K:KT):Sf C gl kU e h x K:=⟨_,by simp only[kU,↓wZ,AO.still];rfl⟩
theorem XZ {C gl e h x K}:NW C gl kU ⟨e,h,x⟩ K=(qF C gl e h x K).1:=(qF C gl e h x K).2
def lU:ACode:=.pr [2] (.seq (rg [mV 88 2,
mV 6 88] [6])
.ret)
def wE (C:Hd)(gl:GL)(e:En)(h:aA)(x:Esc)(K:KT):Sf C gl lU e h x K:=⟨_,by simp only[lU,↓wZ,AO.still];rfl⟩
theorem YZ {C gl e h x K}:NW C gl lU ⟨e,h,x⟩ K=(wE C gl e h x K).1:=(wE C gl e h x K).2
def z1U:ACode:=(.seq (rg [mV 6 (.c (.p (.int .u8 0)))] [0,1,2])
(.seq (.seq (rg [mV 9 0,
uO 10 (.nilchk 9),
fA 11 0 none 10,
lD 12 none 11] [1,2,12])
(.block 0 (.seq (rg [bN 14 .eql 12 (cI 0),
mV 13 14] [1,2,12,13])
(.cond 13 (rg [mV 15 1,
uO 16 (.nilchk 15),
fA 17 5 none 16,
wO (.store none 17 (cS []))] [2])
(.seq (rg [bN 19 .eql 12 (cI 3),
mV 18 19] [1,2,12,18])
(.cond 18 (rg [mV 20 1,
mV 21 1,
cL 22 UO [21],
uO 23 (.nilchk 20),
fA 24 6 none 23,
wO (.store none 24 22)] [2])
(.seq (.seq (rg [bN 26 .eql 12 (cI 4),
mV 25 26] [1,2,12,25])
(.cond 25 .skip
(rg [bN 27 .eql 12 (cI 11),
mV 25 27] [1,2,12,25])))
kU)))))))
lU))
def mX:AFun:=⟨3,[.t 6],z1U,false,false⟩
def VE (C:Hd)(gl:GL)(e:En)(h:aA)(x:Esc)(K:KT):Sf C gl z1U e h x K:=⟨_,by simp only[z1U,↓wZ,AO.still];rfl⟩
theorem zh2 {C gl v0 v1 v2 h x K}:NW C gl mX.body ⟨enter [v0,v1,v2],h,x⟩ K=(VE C gl [(0,v0),(1,v1),(2,v2)] h x K).1:=(VE C gl [(0,v0),(1,v1),(2,v2)] h x K).2
def zaW:ACode:=(.seq (rg [mV 4 (cI 0)] [0,1])
(.seq (rg [uO 6 (.build [.p (.int .i64 0),.p (.int .i64 0)] [(0,1,(cI 1)),(1,1,(cI 0))]),
uO 7 (.build [.p (.int .i64 0),.p (.int .i64 0)] [(0,1,(cI 1)),(1,1,(cI 2))]),
uO 8 (.build [.p (.int .i64 0),.p (.int .i64 0)] [(0,1,(cI 3)),(1,1,(cI 9))]),
uO 9 (.build [.p (.int .i64 0),.p (.int .i64 0)] [(0,1,(cI 4)),(1,1,(cI 5))]),
uO 10 (.build [.p (.int .i64 0),.p (.int .i64 0)] [(0,1,(cI 4)),(1,1,(cI 5))]),
uO 11 (.build [.p (.int .i64 0),.p (.int .i64 0)] [(0,1,(cI 6)),(1,1,(cI 8))]),
uO 12 (.build [.p (.int .i64 0),.p (.int .i64 0)] [(0,1,(cI 6)),(1,1,(cI 7))]),
uO 13 (.build [.p (.int .i64 0),.p (.int .i64 0)] [(0,1,(cI 4)),(1,1,(cI 8))]),
uO 14 (.build [.p (.int .i64 0),.p (.int .i64 0)] [(0,1,(cI 1)),(1,1,(cI 2))]),
uO 15 (.build [.p (.int .i64 0),.p (.int .i64 0)] [(0,1,(cI 10)),(1,1,(cI 0))]),
uO 16 (.build [.p (.int .i64 0),.p (.int .i64 0)] [(0,1,(cI 11)),(1,1,(cI 12))]),
uO 17 (.build [.p (.int .i64 0),.p (.int .i64 0)] [(0,1,(cI 11)),(1,1,(cI 12))]),
uO 18 (.build [.p (.int .i64 0),.p (.int .i64 0)] [(0,1,(cI 13)),(1,1,(cI 15))]),
uO 19 (.build [.p (.int .i64 0),.p (.int .i64 0)] [(0,1,(cI 13)),(1,1,(cI 14))]),
uO 20 (.build [.p (.int .i64 0),.p (.int .i64 0)] [(0,1,(cI 11)),(1,1,(cI 15))]),
uO 21 (.build [.p (.int .i64 0),.p (.int .i64 0)] [(0,1,(cI 1)),(1,1,(cI 2))]),
uO 22 (.build [.p (.int .i64 0),.p (.int .i64 0),.p (.int .i64 0),.p (.int .i64 0),.p (.int .i64 0),.p (.int .i64 0),.p (.int .i64 0),.p (.int .i64 0),.p (.int .i64 0),.p (.int .i64 0),.p (.int .i64 0),.p (.int .i64 0),.p (.int .i64 0),.p (.int .i64 0),.p (.int .i64 0),.p (.int .i64 0),.p (.int .i64 0),.p (.int .i64 0),.p (.int .i64 0),.p (.int .i64 0),.p (.int .i64 0),.p (.int .i64 0),.p (.int .i64 0),.p (.int .i64 0),.p (.int .i64 0),.p (.int .i64 0),.p (.int .i64 0),.p (.int .i64 0),.p (.int .i64 0),.p (.int .i64 0),.p (.int .i64 0),.p (.int .i64 0)] [(0,2,6),(2,2,7),(4,2,8),(6,2,9),(8,2,10),(10,2,11),(12,2,12),(14,2,13),(16,2,14),(18,2,15),(20,2,16),(22,2,17),(24,2,18),(26,2,19),(28,2,20),(30,2,21)]),
uO 5 (.alloc [.p (.int .i64 0),.p (.int .i64 0),.p (.int .i64 0),.p (.int .i64 0),.p (.int .i64 0),.p (.int .i64 0),.p (.int .i64 0),.p (.int .i64 0),.p (.int .i64 0),.p (.int .i64 0),.p (.int .i64 0),.p (.int .i64 0),.p (.int .i64 0),.p (.int .i64 0),.p (.int .i64 0),.p (.int .i64 0),.p (.int .i64 0),.p (.int .i64 0),.p (.int .i64 0),.p (.int .i64 0),.p (.int .i64 0),.p (.int .i64 0),.p (.int .i64 0),.p (.int .i64 0),.p (.int .i64 0),.p (.int .i64 0),.p (.int .i64 0),.p (.int .i64 0),.p (.int .i64 0),.p (.int .i64 0),.p (.int .i64 0),.p (.int .i64 0)]),
wO (.store (some 32) 5 22)] [0,1,5])
(.seq (rg [mV 23 0,
mV 24 1,
uO 25 (.iaddra 16 (some 2) 5 23),
uO 26 (.iaddra 2 none 25 24),
lD 27 none 26,
mV 4 27] [4])
.ret)))
def zI:AFun:=⟨2,[.t 4],zaW,false,false⟩
def eS (C:Hd)(gl:GL)(v0 v1:AV)(h:aA)(x:Esc)(K:KT):Prop:=
 pK (qC [.p (.int .i64 0),.p (.int .i64 0)] [(0,1,(AI 1)),(1,1,(AI 0))]) fun t1=>
 pK (qC [.p (.int .i64 0),.p (.int .i64 0)] [(0,1,(AI 1)),(1,1,(AI 2))]) fun t2=>
 pK (qC [.p (.int .i64 0),.p (.int .i64 0)] [(0,1,(AI 3)),(1,1,(AI 9))]) fun t3=>
 pK (qC [.p (.int .i64 0),.p (.int .i64 0)] [(0,1,(AI 4)),(1,1,(AI 5))]) fun t4=>
 pK (qC [.p (.int .i64 0),.p (.int .i64 0)] [(0,1,(AI 4)),(1,1,(AI 5))]) fun t5=>
 pK (qC [.p (.int .i64 0),.p (.int .i64 0)] [(0,1,(AI 6)),(1,1,(AI 8))]) fun t6=>
 pK (qC [.p (.int .i64 0),.p (.int .i64 0)] [(0,1,(AI 6)),(1,1,(AI 7))]) fun t7=>
 pK (qC [.p (.int .i64 0),.p (.int .i64 0)] [(0,1,(AI 4)),(1,1,(AI 8))]) fun t8=>
 pK (qC [.p (.int .i64 0),.p (.int .i64 0)] [(0,1,(AI 1)),(1,1,(AI 2))]) fun t9=>
 pK (qC [.p (.int .i64 0),.p (.int .i64 0)] [(0,1,(AI 10)),(1,1,(AI 0))]) fun t10=>
 pK (qC [.p (.int .i64 0),.p (.int .i64 0)] [(0,1,(AI 11)),(1,1,(AI 12))]) fun t11=>
 pK (qC [.p (.int .i64 0),.p (.int .i64 0)] [(0,1,(AI 11)),(1,1,(AI 12))]) fun t12=>
 pK (qC [.p (.int .i64 0),.p (.int .i64 0)] [(0,1,(AI 13)),(1,1,(AI 15))]) fun t13=>
 pK (qC [.p (.int .i64 0),.p (.int .i64 0)] [(0,1,(AI 13)),(1,1,(AI 14))]) fun t14=>
 pK (qC [.p (.int .i64 0),.p (.int .i64 0)] [(0,1,(AI 11)),(1,1,(AI 15))]) fun t15=>
 pK (qC [.p (.int .i64 0),.p (.int .i64 0)] [(0,1,(AI 1)),(1,1,(AI 2))]) fun t16=>
 pK (qC [.p (.int .i64 0),.p (.int .i64 0),.p (.int .i64 0),.p (.int .i64 0),.p (.int .i64 0),.p (.int .i64 0),.p (.int .i64 0),.p (.int .i64 0),.p (.int .i64 0),.p (.int .i64 0),.p (.int .i64 0),.p (.int .i64 0),.p (.int .i64 0),.p (.int .i64 0),.p (.int .i64 0),.p (.int .i64 0),.p (.int .i64 0),.p (.int .i64 0),.p (.int .i64 0),.p (.int .i64 0),.p (.int .i64 0),.p (.int .i64 0),.p (.int .i64 0),.p (.int .i64 0),.p (.int .i64 0),.p (.int .i64 0),.p (.int .i64 0),.p (.int .i64 0),.p (.int .i64 0),.p (.int .i64 0),.p (.int .i64 0),.p (.int .i64 0)] [(0,2,t1),(2,2,t2),(4,2,t3),(6,2,t4),(8,2,t5),(10,2,t6),(12,2,t7),(14,2,t8),(16,2,t9),(18,2,t10),(20,2,t11),(22,2,t12),(24,2,t13),(26,2,t14),(28,2,t15),(30,2,t16)]) fun t17=>
 alK [.p (.int .i64 0),.p (.int .i64 0),.p (.int .i64 0),.p (.int .i64 0),.p (.int .i64 0),.p (.int .i64 0),.p (.int .i64 0),.p (.int .i64 0),.p (.int .i64 0),.p (.int .i64 0),.p (.int .i64 0),.p (.int .i64 0),.p (.int .i64 0),.p (.int .i64 0),.p (.int .i64 0),.p (.int .i64 0),.p (.int .i64 0),.p (.int .i64 0),.p (.int .i64 0),.p (.int .i64 0),.p (.int .i64 0),.p (.int .i64 0),.p (.int .i64 0),.p (.int .i64 0),.p (.int .i64 0),.p (.int .i64 0),.p (.int .i64 0),.p (.int .i64 0),.p (.int .i64 0),.p (.int .i64 0),.p (.int .i64 0),.p (.int .i64 0)] h fun t18 h19 y20=>
 wK (kB (some 32) t18 t17 h19) fun t21 h22 y23=>
 pK (xJ 16 (some 2) t18 v0) fun t24=>
 pK (xJ 2 none t24 v1) fun t25=>
 pK (CA none t25 h22) fun t26=>
 K .ret ⟨[(4,t26)],h22,(y23++(y20++x))⟩
theorem z5F {C gl v0 v1 h x K}:NW C gl zI.body ⟨enter [v0,v1],h,x⟩ K=eS C gl v0 v1 h x K:=by kernel_rfl
def z1S:ACode:=(.seq (rg [mV 4 (cI 0)] [0,1])
(.seq (rg [mV 5 0,
mV 6 1,
cL 7 iO [5,6],
mV 4 7] [4])
.ret))
def kX:AFun:=⟨2,[.t 4],z1S,false,false⟩
def PR (C:Hd)(gl:GL)(e:En)(h:aA)(x:Esc)(K:KT):Sf C gl z1S e h x K:=⟨_,by simp only[z1S,↓wZ,AO.still];rfl⟩
theorem zh0 {C gl v0 v1 h x K}:NW C gl kX.body ⟨enter [v0,v1],h,x⟩ K=(PR C gl [(0,v0),(1,v1)] h x K).1:=(PR C gl [(0,v0),(1,v1)] h x K).2
def UL:ACode:=.pr [0,1,7,8] (.seq (rg [bN 9 .lss 8 7] [0,1,7,8,9])
(.seq (.cond 9 .skip
(.exit 0))
(.seq (.block 1 (.seq (rg [mV 10 8,
mV 5 10] [0,1,5,7,8])
(.seq (rg [mV 11 1,
mV 12 0,
mV 13 5,
iA 14 (some 2) 12 13,
lD 15 (some 2) 14,
uO 16 (.callv 11 [15])] [0,1,5,7,8,16])
(.cond 16 (.seq (rg [mV 17 5,
mV 4 17] [4])
.ret)
.skip))))
(rg [bN 18 .add 8 (cI 1),
mV 8 18] [0,1,7,8]))))
def oZ (C:Hd)(gl:GL)(e:En)(h:aA)(x:Esc)(K:KT):Sf C gl UL e h x K:=⟨_,by simp only[UL,↓wZ,AO.still];rfl⟩
theorem zho {C gl e h x K}:NW C gl UL ⟨e,h,x⟩ K=(oZ C gl e h x K).1:=(oZ C gl e h x K).2
theorem zkl {C gl e h x K}:NW C gl (.loop UL) ⟨e,h,x⟩ K=QA C gl UL K [(0,gA e 0),(1,gA e 1),(7,gA e 7),(8,gA e 8)] h x:=dC
def gU:ACode:=.pr [] (.seq (rg [mV 4 (cI (-1))] [4])
.ret)
def pZ (C:Hd)(gl:GL)(e:En)(h:aA)(x:Esc)(K:KT):Sf C gl gU e h x K:=⟨_,by simp only[gU,↓wZ,AO.still];rfl⟩
theorem zhp {C gl e h x K}:NW C gl gU ⟨e,h,x⟩ K=(pZ C gl e h x K).1:=(pZ C gl e h x K).2
def z1L:ACode:=(.seq (rg [mV 4 (cI 0)] [0,1])
(.seq (.seq (rg [mV 6 0,
lN 7 6,
mV 8 (cI 0)] [0,1,7,8])
(.block 0 (.loop UL)))
gU))
def cX:AFun:=⟨2,[.t 4],z1L,true,false⟩
def JR (C:Hd)(gl:GL)(e:En)(h:aA)(x:Esc)(K:KT):Sf C gl z1L e h x K:=⟨_,by simp only[z1L,↓wZ,AO.still];rfl⟩
theorem zhn {C gl v0 v1 h x K}:NW C gl cX.body ⟨enter [v0,v1],h,x⟩ K=(JR C gl [(0,v0),(1,v1)] h x K).1:=(JR C gl [(0,v0),(1,v1)] h x K).2
def WL:ACode:=.pr [0,1,7,8] (.seq (rg [bN 9 .lss 8 7] [0,1,7,8,9])
(.seq (.cond 9 .skip
(.exit 0))
(.seq (.block 1 (.seq (rg [mV 10 8,
mV 5 10] [0,1,5,7,8])
(.seq (rg [mV 11 1,
mV 12 0,
mV 13 5,
iA 14 none 12 13,
lD 15 none 14,
bN 16 .eql 11 15] [0,1,5,7,8,16])
(.cond 16 (.seq (rg [mV 17 5,
mV 4 17] [4])
.ret)
.skip))))
(rg [bN 18 .add 8 (cI 1),
mV 8 18] [0,1,7,8]))))
def sZ (C:Hd)(gl:GL)(e:En)(h:aA)(x:Esc)(K:KT):Sf C gl WL e h x K:=⟨_,by simp only[WL,↓wZ,AO.still];rfl⟩
theorem zhu {C gl e h x K}:NW C gl WL ⟨e,h,x⟩ K=(sZ C gl e h x K).1:=(sZ C gl e h x K).2
theorem zkn {C gl e h x K}:NW C gl (.loop WL) ⟨e,h,x⟩ K=QA C gl WL K [(0,gA e 0),(1,gA e 1),(7,gA e 7),(8,gA e 8)] h x:=dC
def jU:ACode:=.pr [] (.seq (rg [mV 4 (cI (-1))] [4])
.ret)
def tZ (C:Hd)(gl:GL)(e:En)(h:aA)(x:Esc)(K:KT):Sf C gl jU e h x K:=⟨_,by simp only[jU,↓wZ,AO.still];rfl⟩
theorem zhv {C gl e h x K}:NW C gl jU ⟨e,h,x⟩ K=(tZ C gl e h x K).1:=(tZ C gl e h x K).2
def z1N:ACode:=(.seq (rg [mV 4 (cI 0)] [0,1])
(.seq (.seq (rg [mV 6 0,
lN 7 6,
mV 8 (cI 0)] [0,1,7,8])
(.block 0 (.loop WL)))
jU))
def nQ:AFun:=⟨2,[.t 4],z1N,true,false⟩
def MR (C:Hd)(gl:GL)(e:En)(h:aA)(x:Esc)(K:KT):Sf C gl z1N e h x K:=⟨_,by simp only[z1N,↓wZ,AO.still];rfl⟩
theorem zht {C gl v0 v1 h x K}:NW C gl nQ.body ⟨enter [v0,v1],h,x⟩ K=(MR C gl [(0,v0),(1,v1)] h x K).1:=(MR C gl [(0,v0),(1,v1)] h x K).2
def LL:ACode:=.pr [0,5,9,10,11] (.seq (rg [bN 12 .lss 11 10] [0,5,9,10,11,12])
(.seq (.cond 12 .skip
(.exit 0))
(.seq (.block 1 (.seq (rg [iA 13 none 9 11,
lD 14 none 13,
mV 7 14] [0,5,7,9,10,11])
(.seq (rg [mV 15 0,
mV 16 7,
bN 17 .sub 16 (.c (.p (.int .u8 48))),
uO 18 (.conv (.i .i64) 17),
cL 19 sO [15,18],
mV 0 19] [0,5,9,10,11])
(rg [mV 20 5,
mV 21 0,
uO 22 (.bsl false none 1 (.int .i64 0) [(0,21)]),
uO 23 (.app none 20 22),
mV 5 23] [0,5,9,10,11]))))
(rg [bN 24 .add 11 (cI 1),
mV 11 24] [0,5,9,10,11]))))
def YY (C:Hd)(gl:GL)(e:En)(h:aA)(x:Esc)(K:KT):Sf C gl LL e h x K:=⟨_,by simp only[LL,↓wZ,AO.still];rfl⟩
theorem zg1 {C gl e h x K}:NW C gl LL ⟨e,h,x⟩ K=(YY C gl e h x K).1:=(YY C gl e h x K).2
theorem zkc {C gl e h x K}:NW C gl (.loop (.scope LL)) ⟨e,h,x⟩ K=QA C gl (.scope LL) K [(0,gA e 0),(5,gA e 5),(9,gA e 9),(10,gA e 10),(11,gA e 11)] h x:=BC
def TT:ACode:=.pr [5] (.seq (rg [mV 25 5,
mV 4 25] [4])
.ret)
def ZY (C:Hd)(gl:GL)(e:En)(h:aA)(x:Esc)(K:KT):Sf C gl TT e h x K:=⟨_,by simp only[TT,↓wZ,AO.still];rfl⟩
theorem zg2 {C gl e h x K}:NW C gl TT ⟨e,h,x⟩ K=(ZY C gl e h x K).1:=(ZY C gl e h x K).2
def z1t:ACode:=(.seq (rg [mV 4 (.c (.p (.sl none [])))] [0,1])
(.seq (rg [uO 5 (.new0 none)] [0,1,5])
(.seq (.seq (rg [mV 8 1,
uO 9 (.conv .s2b 8),
lN 10 9,
mV 11 (cI 0)] [0,5,9,10,11])
(.block 0 (.loop (.scope LL))))
TT)))
def BW:AFun:=⟨2,[.t 4],z1t,false,false⟩
def mR (C:Hd)(gl:GL)(e:En)(h:aA)(x:Esc)(K:KT):Sf C gl z1t e h x K:=⟨_,by simp only[z1t,↓wZ,AO.still];rfl⟩
theorem zg0 {C gl v0 v1 h x K}:NW C gl BW.body ⟨enter [v0,v1],h,x⟩ K=(mR C gl [(0,v0),(1,v1)] h x K).1:=(mR C gl [(0,v0),(1,v1)] h x K).2
def z2e:ACode:=(.seq (rg [mV 2 cF] [0])
(.seq (rg [mV 3 0,
cL 4 gC [3,(cI 0),(cI 15)],
uO 5 (.un .not 4),
mV 2 5] [2])
.ret))
def pQ:AFun:=⟨1,[.t 2],z2e,false,false⟩
def dS (C:Hd)(gl:GL)(e:En)(h:aA)(x:Esc)(K:KT):Sf C gl z2e e h x K:=⟨_,by simp only[z2e,↓wZ,AO.still];rfl⟩
theorem zhF {C gl v0 h x K}:NW C gl pQ.body ⟨enter [v0],h,x⟩ K=(dS C gl [(0,v0)] h x K).1:=(dS C gl [(0,v0)] h x K).2
def z2f:ACode:=.pr [1,5,6,7,25] (rg [bN 53 .add 25 (cI 1),
mV 25 53] [1,5,6,7,25])
def z5s (C:Hd)(gl:GL)(v1 v5 v6 v7 v25:AV)(h:aA)(x:Esc)(K:KT):Prop:=
 pK (BA .add v25 (AI 1)) fun t1=>
 K .normal ⟨[(1,v1),(5,v5),(6,v6),(7,v7),(25,t1)],h,x⟩
theorem zhG {C gl e h x K}:NW C gl z2f ⟨e,h,x⟩ K=z5s C gl (gA e 1) (gA e 5) (gA e 6) (gA e 7) (gA e 25) h x K:=by kernel_rfl
def z4d (q1:ACode):ACode:=.pr [1,5,6,7,25] (.seq (rg [bN 26 .lss 25 (cI 2)] [1,5,6,7,25,26])
(.seq (.cond 26 .skip
(.exit 2))
(.seq (.block 3 (.seq (rg [mV 27 25,
mV 8 27] [1,5,6,7,8,25])
(.seq (rg [mV 28 7,
mV 29 8,
cL 30 uF [28,29],
mV 9 30] [1,5,6,7,8,9,25])
(.seq (rg [mV 32 5,
mV 33 9,
uO 34 (.look (none,[0]) true (.p (.str [])) 32 33),
mV 31 34,
eX 35 31 0,
eX 36 31 1,
mV 10 35,
mV 11 36] [1,5,6,7,8,9,11,25])
(.seq (rg [mV 37 11,
uO 38 (.un .not 37)] [1,5,6,7,8,9,25,38])
(.cond 38 (.seq (rg [mV 39 5,
mV 40 9,
mV 41 5,
mV 42 7,
uO 43 (.look (none,[0]) false (.p (.str [])) 41 42),
mV 44 8,
bN 45 .add (cI 48) 44,
uO 46 (.conv (.i .i32) 45),
uO 47 (.conv .r2s 46),
bN 48 .add 43 47,
wO (.mupd (none,[0]) 39 40 48)] [1,5,6,7,9,25])
(rg [mV 49 6,
mV 50 9,
uO 51 (.bsl false none 1 (.int .i64 0) [(0,50)]),
uO 52 (.mnext (some none) [49,51]),
mV 6 52] [1,5,6,7,25]))
.skip))))))
q1)))
def AP:ACode:=z4d z2f
def yZ (C:Hd)(gl:GL)(q1:ACode)(v1 v5 v6 v7 v25:AV)(h:aA)(x:Esc)(K:KT):Prop:=
 pK (BA .lss v25 (AI 2)) fun t1=>
 YA t1 (C uF [v7,v25] h fun t2 h3 y4=>
 pK (XB (none,[0]) true (.p (.str [])) v5 t2 h3) fun t5=>
 pK (wJ t5 0) fun t6=>
 pK (wJ t5 1) fun t7=>
 pK (oUn .not t7) fun t8=>
 YA t8 (pK (XB (none,[0]) false (.p (.str [])) v5 v7 h3) fun t9=>
 pK (BA .add (AI 48) v25) fun t10=>
 pK (pL .i32 t10) fun t11=>
 wK (HE .r2s t11 h3) fun t12 h13 y14=>
 pK (BA .add t9 t12) fun t15=>
 wK (rC (none,[0]) v5 t2 t15 h13) fun t16 h17 y18=>
 wK (YC false none 1 (.int .i64 0) [(0,t2)] h17) fun t19 h20 y21=>
 nqK (some none) [v6,t19] h20 fun t22 h23 y24=>
 NW C gl q1 ⟨[(1,v1),(5,v5),(6,t22),(7,v7),(25,v25)],h23,(y24++(y21++(y18++(y14++(y4++x)))))⟩ K)
 (NW C gl q1 ⟨[(1,v1),(5,v5),(6,v6),(7,v7),(8,v25),(9,t2),(25,v25),(38,t8)],h3,(y4++x)⟩ K))
 (K (.exit 2) ⟨[(1,v1),(5,v5),(6,v6),(7,v7),(25,v25),(26,t1)],h,x⟩)
theorem zaO {C gl q1 e h x K}:NW C gl (z4d q1) ⟨e,h,x⟩ K=yZ C gl q1 (gA e 1) (gA e 5) (gA e 6) (gA e 7) (gA e 25) h x K:=by kernel_rfl
theorem zhH {C gl e h x K}:NW C gl AP ⟨e,h,x⟩ K=yZ C gl z2f (gA e 1) (gA e 5) (gA e 6) (gA e 7) (gA e 25) h x K:=zaO
theorem zku {C gl e h x K}:NW C gl (.loop AP) ⟨e,h,x⟩ K=QA C gl AP K [(1,gA e 1),(5,gA e 5),(6,gA e 6),(7,gA e 7),(25,gA e 25)] h x:=dC
def z4e (q2:ACode):ACode:=.pr [1,5,6] (.seq (.seq (rg [mV 17 6,
lN 18 17,
bN 19 .gtr 18 (cI 0)] [1,5,6,19])
(.cond 19 .skip
(.exit 0)))
(.block 1 (.seq (rg [mV 20 6,
iA 21 none 20 (cI 0),
lD 22 none 21,
mV 7 22] [1,5,6,7])
(.seq (rg [mV 23 6,
uO 24 (.slice none 23 (some (cI 1)) none none),
mV 6 24] [1,5,6,7])
(.seq (rg [mV 25 (cI 0)] [1,5,6,7,25])
(.block 2 (.loop q2)))))))
def cM:ACode:=z4e AP
def zZ (C:Hd)(gl:GL)(q2:ACode)(v1 v5 v6:AV)(h:aA)(x:Esc)(K:KT):Prop:=
 pK (ZG v6) fun t1=>
 pK (BA .gtr t1 (AI 0)) fun t2=>
 YA t2 (pK (eD none v6 (AI 0) h) fun t3=>
 pK (CA none t3 h) fun t4=>
 pK (yJ none v6 (some (AI 1)) none none h) fun t5=>
 NW C gl (.loop q2) ⟨[(1,v1),(5,v5),(6,t5),(7,t4),(25,(AI 0))],h,x⟩ (tC 2 (tC 1 K)))
 (K (.exit 0) ⟨[(1,v1),(5,v5),(6,v6),(19,t2)],h,x⟩)
theorem zaP {C gl q2 e h x K}:NW C gl (z4e q2) ⟨e,h,x⟩ K=zZ C gl q2 (gA e 1) (gA e 5) (gA e 6) h x K:=by kernel_rfl
theorem zhI {C gl e h x K}:NW C gl cM ⟨e,h,x⟩ K=zZ C gl AP (gA e 1) (gA e 5) (gA e 6) h x K:=zaP
theorem zkv {C gl e h x K}:NW C gl (.loop cM) ⟨e,h,x⟩ K=QA C gl cM K [(1,gA e 1),(5,gA e 5),(6,gA e 6)] h x:=dC
def vU:ACode:=.pr [1,5] (.seq (rg [mV 54 5,
mV 55 1,
uO 56 (.look (none,[0]) false (.p (.str [])) 54 55),
mV 4 56] [4])
.ret)
def z5t (C:Hd)(gl:GL)(v1 v5:AV)(h:aA)(x:Esc)(K:KT):Prop:=
 pK (XB (none,[0]) false (.p (.str [])) v5 v1 h) fun t1=>
 K .ret ⟨[(4,t1)],h,x⟩
theorem zhJ {C gl e h x K}:NW C gl vU ⟨e,h,x⟩ K=z5t C gl (gA e 1) (gA e 5) h x K:=by kernel_rfl
def z4c (q3 q4:ACode):ACode:=(.det (.seq (rg [mV 4 (cS [])] [0,1])
(.seq (rg [uO 12 (.mkmap),
mV 13 0,
wO (.mupd (none,[0]) 12 13 (cS [])),
mV 14 12,
mV 5 14] [0,1,5])
(.seq (rg [mV 15 0,
uO 16 (.bsl true none 1 (.int .i64 0) [(0,15)]),
mV 6 16] [1,5,6])
(.seq (.block 0 (.loop q3))
q4)))))
def aK:AFun:=⟨2,[.t 4],z4c cM vU,false,false⟩
def FN (C:Hd)(gl:GL)(q3 q4:ACode)(v0 v1:AV)(h:aA)(x:Esc)(K:KT):Prop:=
 mmK h fun t1 h2 y3=>
 wK (rC (none,[0]) t1 v0 (.p (.str [])) h2) fun t4 h5 y6=>
 wK (YC true none 1 (.int .i64 0) [(0,v0)] h5) fun t7 h8 y9=>
 NW C gl (.loop q3) ⟨[(1,v1),(5,t1),(6,t7)],h8,(y9++(y6++(y3++x)))⟩ (tC 0 (xD C gl q4 K))
theorem zaN {C gl q3 q4 v0 v1 h x K}:NW C gl (z4c q3 q4) ⟨enter [v0,v1],h,x⟩ K=FN C gl q3 q4 v0 v1 h x K:=by kernel_rfl
theorem z5G {C gl v0 v1 h x K}:NW C gl aK.body ⟨enter [v0,v1],h,x⟩ K=FN C gl cM vU v0 v1 h x K:=zaN
def z2l:ACode:=(.seq (rg [uO 2 (.box 0),
mV 3 cF] [1,2])
(.seq (rg [fA 4 0 none 2,
lD 5 none 4,
fA 6 0 none 1,
lD 7 none 6,
bN 8 .eql 5 7,
mV 3 8] [3])
.ret))
def AX:AFun:=⟨2,[.t 3],z2l,false,false⟩
def jS (C:Hd)(gl:GL)(e:En)(h:aA)(x:Esc)(K:KT):Sf C gl z2l e h x K:=⟨_,by simp only[z2l,↓wZ,AO.still];rfl⟩
theorem zhR {C gl v0 v1 h x K}:NW C gl AX.body ⟨enter [v0,v1],h,x⟩ K=(jS C gl [(0,v0),(1,v1)] h x K).1:=(jS C gl [(0,v0),(1,v1)] h x K).2
def z2d:ACode:=(.seq (rg [uO 2 (.box 0),
mV 3 cF] [1,2])
(.seq (rg [fA 4 0 none 2,
lD 5 none 4,
fA 6 0 none 1,
lD 7 none 6,
bN 8 .eql 5 7,
mV 3 8] [3])
.ret))
def uX:AFun:=⟨2,[.t 3],z2d,false,false⟩
def bS (C:Hd)(gl:GL)(e:En)(h:aA)(x:Esc)(K:KT):Sf C gl z2d e h x K:=⟨_,by simp only[z2d,↓wZ,AO.still];rfl⟩
theorem zhE {C gl v0 v1 h x K}:NW C gl uX.body ⟨enter [v0,v1],h,x⟩ K=(bS C gl [(0,v0),(1,v1)] h x K).1:=(bS C gl [(0,v0),(1,v1)] h x K).2
def z2i:ACode:=(.seq (rg [uO 2 (.box 0),
uO 3 (.box 1),
uO 4 (.alloc [.p (.str []),.p (.int .i64 0)]),
mV 5 cF] [2,3,4])
(.seq (.block 0 (.seq (rg [lD 8 none 3,
bN 9 .eql 8 (cS [98,121,112,97,115,115]),
mV 7 9] [2,3,4,7])
(.cond 7 (.seq (rg [uO 10 (.build [.p (.str []),.p (.int .i64 0)] [(0,1,(cS [98,121,112,97,115,115])),(1,1,(cI 1))]),
wO (.store (some 2) 4 10),
mV 5 cT] [4,5])
.ret)
(.seq (rg [lD 12 none 3,
bN 13 .eql 12 (cS [105,100,99,111,100,101]),
mV 14 13,
gD 15 14 true (.faddr 2 none 2),
gD 16 14 true (.load none 15),
gD 17 14 true (.bin .neq 16 (cI 0)),
uO 18 (.pick 14 17 cF),
mV 11 18] [2,3,4,11])
(.cond 11 (.seq (rg [uO 19 (.build [.p (.str []),.p (.int .i64 0)] [(0,1,(cS [105,100,99,111,100,101])),(1,1,(cI 32))]),
wO (.store (some 2) 4 19),
mV 5 cT] [4,5])
.ret)
.skip)))))
(.seq (rg [fA 20 3 none 2,
lD 21 none 20,
uO 22 (.mkfn WO [3]),
cL 23 QK [21,22],
mV 6 23] [2,4,6])
(.seq (.seq (rg [mV 24 6,
bN 25 .lss 24 (cI 0)] [2,4,6,25])
(.cond 25 (.seq (rg [uO 26 (.build [.p (.str []),.p (.int .i64 0)] []),
wO (.store (some 2) 4 26),
mV 5 cF] [4,5])
.ret)
.skip))
(.seq (rg [fA 27 3 none 2,
lD 28 none 27,
mV 29 6,
iA 30 (some 2) 28 29,
lD 31 (some 2) 30,
wO (.store (some 2) 4 31),
mV 5 cT] [4,5])
.ret)))))
def xX:AFun:=⟨2,[.cell 4 (some 2),.t 5],z2i,false,false⟩
def FG (C:Hd)(gl:GL)(e:En)(h:aA)(x:Esc)(K:KT):Sf C gl z2i e h x K:=⟨_,by simp only[z2i,↓wZ,AO.still];rfl⟩
theorem zhO {C gl v0 v1 h x K}:NW C gl xX.body ⟨enter [v0,v1],h,x⟩ K=(FG C gl [(0,v0),(1,v1)] h x K).1:=(FG C gl [(0,v0),(1,v1)] h x K).2
def dM:ACode:=.pr [0,4,21] (.seq (rg [bN 22 .lss 21 (cI 32)] [0,4,21,22])
(.seq (.cond 22 .skip
(.exit 1))
(.seq (.block 2 (.seq (rg [mV 23 21,
mV 5 23] [0,4,5,21])
(rg [mV 24 4,
mV 25 0,
uO 26 (.nilchk 25),
fA 27 0 (some 5) 26,
fA 28 2 none 27,
lD 29 none 28,
mV 30 5,
bN 31 .shr 29 30,
bN 32 .and 31 (cI 1),
bN 33 .add (cI 48) 32,
uO 34 (.conv (.i .u8) 33),
uO 35 (.bsl false none 1 (.int .u8 0) [(0,34)]),
uO 36 (.app none 24 35),
mV 4 36] [0,4,21])))
(rg [bN 37 .add 21 (cI 1),
mV 21 37] [0,4,21]))))
def AZ (C:Hd)(gl:GL)(e:En)(h:aA)(x:Esc)(K:KT):Sf C gl dM e h x K:=⟨_,by simp only[dM,↓wZ,AO.still];rfl⟩
theorem zhL {C gl e h x K}:NW C gl dM ⟨e,h,x⟩ K=(AZ C gl e h x K).1:=(AZ C gl e h x K).2
theorem zkw {C gl e h x K}:NW C gl (.loop (.scope dM)) ⟨e,h,x⟩ K=QA C gl (.scope dM) K [(0,gA e 0),(4,gA e 4),(21,gA e 21)] h x:=BC
def wU:ACode:=.pr [4] (.seq (rg [mV 38 4,
uO 39 (.conv .b2s 38),
mV 2 39] [2])
.ret)
def BZ (C:Hd)(gl:GL)(e:En)(h:aA)(x:Esc)(K:KT):Sf C gl wU e h x K:=⟨_,by simp only[wU,↓wZ,AO.still];rfl⟩
theorem zhM {C gl e h x K}:NW C gl wU ⟨e,h,x⟩ K=(BZ C gl e h x K).1:=(BZ C gl e h x K).2
def z2g:ACode:=(.seq (rg [mV 2 (cS [])] [0])
(.seq (rg [mV 6 0,
cL 7 WK [6],
uO 3 (.alloc [.p (.str []),.p (.int .i64 0)]),
wO (.store (some 2) 3 7)] [0,3])
(.seq (rg [fA 8 0 none 3,
lD 9 none 8] [0,3,9])
(.block 0 (.seq (rg [bN 18 .eql 9 (cS [98,121,112,97,115,115]),
mV 17 18] [0,3,9,17])
(.cond 17 (.seq (rg [mV 2 (cS [48])] [2])
.ret)
(.seq (rg [bN 20 .eql 9 (cS [105,100,99,111,100,101]),
mV 19 20] [0,3,19])
(.cond 19 (.seq (rg [uO 4 (.new0 none)] [0,4])
(.seq (.seq (rg [mV 21 (cI 0)] [0,4,21])
(.block 1 (.loop (.scope dM))))
wU))
(.seq (dr [dF (mV 10 0) [0],
dF (uO 11 (.nilchk 10)) [10],
dF (fA 12 7 none 11) [11],
dF (lD 13 none 12) [12],
dF (fA 14 0 none 3) [3],
dF (lD 15 none 14) [14],
dF (uO 16 (.look (none,[2]) false (.p (.str [])) 13 15)) [13,15],
dF (mV 2 16) [16]] [2])
.ret)))))))))
def vX:AFun:=⟨1,[.t 2],z2g,false,false⟩
def uK (C:Hd)(gl:GL)(e:En)(h:aA)(x:Esc)(K:KT):Sf C gl z2g e h x K:=⟨_,by simp only[z2g,↓wZ,AO.still];rfl⟩
theorem zhK {C gl v0 h x K}:NW C gl vX.body ⟨enter [v0],h,x⟩ K=(uK C gl [(0,v0)] h x K).1:=(uK C gl [(0,v0)] h x K).2
def z2h:ACode:=(.seq (rg [uO 2 (.alloc [.p (.str []),.p (.int .i64 0)])] [0,2])
(.seq (.seq (rg [mV 5 0,
uO 6 (.nilchk 5),
fA 7 5 none 6,
lD 8 none 7,
bN 9 .eql 8 (cS [])] [0,2,9])
(.cond 9 (.seq (.seq (rg [mV 11 0,
uO 12 (.nilchk 11),
fA 13 0 (some 5) 12,
lD 14 (some 5) 13,
cL 15 iJ [14,(cS [105,100,99,111,100,101])],
mV 10 15,
eX 16 10 0,
eX 17 10 1,
uO 3 (.alloc [.p (.str []),.p (.int .i64 0)]),
wO (.store (some 2) 3 16),
mV 4 17] [2,3,4])
(.seq (rg [mV 18 4] [2,3,18])
(.cond 18 (.seq (rg [lD 19 (some 2) 3,
wO (.store (some 2) 2 19)] [2])
.ret)
.skip)))
(.seq (rg [uO 20 (.build [.p (.str []),.p (.int .i64 0)] [(0,1,(cS [98,121,112,97,115,115])),(1,1,(cI 1))]),
wO (.store (some 2) 2 20)] [2])
.ret))
.skip))
(.seq (dr [dF (mV 21 0) [0],
dF (uO 22 (.nilchk 21)) [21],
dF (fA 23 0 (some 5) 22) [22],
dF (lD 24 (some 5) 23) [23],
dF (mV 25 0) [0],
dF (uO 26 (.nilchk 25)) [25],
dF (fA 27 5 none 26) [26],
dF (lD 28 none 27) [27],
dT (cL 29 ZO [24,28]) [24,28],
dT (wO (.store (some 2) 2 29)) [2,29]] [2])
.ret)))
def wX:AFun:=⟨1,[.cell 2 (some 2)],z2h,false,false⟩
def vK (C:Hd)(gl:GL)(e:En)(h:aA)(x:Esc)(K:KT):Sf C gl z2h e h x K:=⟨_,by simp only[z2h,↓wZ,AO.still];rfl⟩
theorem zhN {C gl v0 h x K}:NW C gl wX.body ⟨enter [v0],h,x⟩ K=(vK C gl [(0,v0)] h x K).1:=(vK C gl [(0,v0)] h x K).2
def CT:ACode:=.pr [0,1,5,6,7,8,9,10] (.seq (.seq (rg [mV 78 0,
mV 79 8,
bN 80 .add 79 (cI 1),
uO 81 (.idxs 78 80),
mV 82 7,
bN 83 .eql 81 82,
mV 84 83,
gD 85 84 true (.mv 0),
gD 86 84 true (.mv 8),
gD 87 84 true (.mv 8),
gD 88 84 true (.mv 5),
gD 89 84 true (.bin .add 87 88),
gD 90 84 true (.slstr 85 (some 86) (some 89)),
gD 91 84 true (.mv 1),
gD 92 84 true (.bin .eql 90 91),
uO 93 (.pick 84 92 cF)] [0,1,5,6,7,8,9,10,93])
(.cond 93 (.seq (rg [mV 94 8,
mV 4 94] [4])
.ret)
.skip))
(.seq (rg [mV 95 8,
bN 96 .add 95 (cI 1),
mV 8 96] [0,1,5,6,7,8,9,10])
(.seq (rg [mV 97 10,
bN 98 .add 97 (cI 1),
mV 10 98] [0,1,5,6,7,8,9,10])
(.seq (rg [mV 99 5,
lD 100 none (.g 0),
bN 101 .leq 99 100,
mV 102 101,
gD 103 102 true (.mv 10),
gD 104 102 true (.mv 8),
gD 105 102 true (.call OS [104]),
gD 106 102 true (.bin .gtr 103 105),
uO 107 (.pick 102 106 cF)] [0,1,5,6,7,8,9,10,107])
(.cond 107 (.seq (rg [mV 108 0,
mV 109 8,
uO 110 (.slstr 108 (some 109) none),
mV 111 1,
cL 112 z6e [110,111],
mV 12 112] [8,12])
(.seq (.seq (rg [mV 113 12,
bN 114 .geq 113 (cI 0)] [8,12,114])
(.cond 114 (.seq (rg [mV 115 12,
mV 116 8,
bN 117 .add 115 116,
mV 4 117] [4])
.ret)
.skip))
(.seq (rg [mV 4 (cI (-1))] [4])
.ret)))
(.seq (rg [mV 118 5,
lD 119 none (.g 0),
bN 120 .gtr 118 119,
mV 121 120,
gD 122 121 true (.mv 10),
gD 123 121 true (.mv 8),
gD 124 121 true (.bin .shr 123 (.c (.p (.int .u64 4)))),
gD 125 121 true (.bin .add (cI 4) 124),
gD 126 121 true (.bin .geq 122 125),
uO 127 (.pick 121 126 cF),
mV 128 127,
gD 129 128 true (.mv 8),
gD 130 128 true (.mv 9),
gD 131 128 true (.bin .lss 129 130),
uO 132 (.pick 128 131 cF)] [0,1,5,6,7,8,9,10,132])
(.cond 132 (.seq (rg [mV 133 0,
mV 134 8,
uO 135 (.slstr 133 (some 134) none),
mV 136 1,
cL 137 PS [135,136],
mV 13 137] [8,13])
(.seq (.seq (rg [mV 138 13,
bN 139 .lss 138 (cI 0)] [8,13,139])
(.cond 139 (.seq (rg [mV 4 (cI (-1))] [4])
.ret)
.skip))
(.seq (rg [mV 140 8,
mV 141 13,
bN 142 .add 140 141,
mV 4 142] [4])
.ret)))
.skip)))))))
def EY (C:Hd)(gl:GL)(e:En)(h:aA)(x:Esc)(K:KT):Sf C gl CT e h x K:=⟨_,by simp only[CT,↓wZ,AO.still];rfl⟩
theorem zfJ {C gl e h x K}:NW C gl CT ⟨e,h,x⟩ K=(EY C gl e h x K).1:=(EY C gl e h x K).2
def zL:ACode:=.pr [0,1,5,6,7,8,9,10] (.seq (.seq (rg [mV 57 8,
mV 58 9,
bN 59 .lss 57 58] [0,1,5,6,7,8,9,10,59])
(.cond 59 .skip
(.exit 1)))
(.block 2 (.seq (.seq (rg [mV 60 0,
mV 61 8,
uO 62 (.idxs 60 61),
mV 63 6,
bN 64 .neq 62 63] [0,1,5,6,7,8,9,10,64])
(.cond 64 (.seq (rg [mV 65 0,
mV 66 8,
bN 67 .add 66 (cI 1),
mV 68 9,
uO 69 (.slstr 65 (some 67) (some 68)),
mV 70 6,
cL 71 FH [69,70],
mV 11 71] [0,1,5,6,7,8,9,10,11])
(.seq (.seq (rg [mV 72 11,
bN 73 .lss 72 (cI 0)] [0,1,5,6,7,8,9,10,11,73])
(.cond 73 (.seq (rg [mV 4 (cI (-1))] [4])
.ret)
.skip))
(rg [mV 74 8,
mV 75 11,
bN 76 .add 75 (cI 1),
bN 77 .add 74 76,
mV 8 77] [0,1,5,6,7,8,9,10])))
.skip))
CT)))
def FY (C:Hd)(gl:GL)(e:En)(h:aA)(x:Esc)(K:KT):Sf C gl zL e h x K:=⟨_,by simp only[zL,↓wZ,AO.still];rfl⟩
theorem zfK {C gl e h x K}:NW C gl zL ⟨e,h,x⟩ K=(FY C gl e h x K).1:=(FY C gl e h x K).2
theorem zjR {C gl e h x K}:NW C gl (.loop zL) ⟨e,h,x⟩ K=QA C gl zL K [(0,gA e 0),(1,gA e 1),(5,gA e 5),(6,gA e 6),(7,gA e 7),(8,gA e 8),(9,gA e 9),(10,gA e 10)] h x:=dC
def DT:ACode:=.pr [] (.seq (rg [mV 4 (cI (-1))] [4])
.ret)
def GY (C:Hd)(gl:GL)(e:En)(h:aA)(x:Esc)(K:KT):Sf C gl DT e h x K:=⟨_,by simp only[DT,↓wZ,AO.still];rfl⟩
theorem zfL {C gl e h x K}:NW C gl DT ⟨e,h,x⟩ K=(GY C gl e h x K).1:=(GY C gl e h x K).2
def z0Y:ACode:=(.seq (rg [mV 4 (cI 0)] [0,1])
(.seq (rg [mV 14 1,
uO 15 (.lens 14),
mV 5 15] [0,1,5])
(.seq (.block 0 (.seq (rg [mV 17 5,
bN 18 .eql 17 (cI 0),
mV 19 18,
gD 20 19 false (.mv 1),
gD 21 19 false (.mv 0),
gD 22 19 false (.bin .eql 20 21),
uO 23 (.pick 19 cT 22),
mV 16 23] [0,1,5,16])
(.cond 16 (.seq (rg [mV 4 (cI 0)] [4])
.ret)
(.seq (rg [mV 25 5,
bN 26 .eql 25 (cI 1),
mV 24 26] [0,1,5,24])
(.cond 24 (.seq (rg [mV 27 0,
mV 28 1,
uO 29 (.idxs 28 (cI 0)),
cL 30 FH [27,29],
mV 4 30] [4])
.ret)
(.seq (rg [mV 32 5,
mV 33 0,
uO 34 (.lens 33),
bN 35 .geq 32 34,
mV 31 35] [0,1,5,31])
(.cond 31 (.seq (rg [mV 4 (cI (-1))] [4])
.ret)
(.seq (rg [mV 37 5,
lD 38 none (.g 0),
bN 39 .leq 37 38,
mV 40 39,
gD 41 40 true (.mv 0),
gD 42 40 true (.lens 41),
gD 43 40 true (.bin .leq 42 (cI 64)),
uO 44 (.pick 40 43 cF),
mV 36 44] [0,1,5,36])
(.cond 36 (.seq (rg [mV 45 0,
mV 46 1,
cL 47 z6e [45,46],
mV 4 47] [4])
.ret)
.skip)))))))))
(.seq (rg [mV 48 1,
uO 49 (.idxs 48 (cI 0)),
mV 6 49] [0,1,5,6])
(.seq (rg [mV 50 1,
uO 51 (.idxs 50 (cI 1)),
mV 7 51] [0,1,5,6,7])
(.seq (rg [mV 8 (cI 0)] [0,1,5,6,7,8])
(.seq (rg [mV 52 0,
uO 53 (.lens 52),
mV 54 5,
bN 55 .sub 53 54,
bN 56 .add 55 (cI 1),
mV 9 56] [0,1,5,6,7,8,9])
(.seq (rg [mV 10 (cI 0)] [0,1,5,6,7,8,9,10])
(.seq (.block 1 (.loop zL))
DT)))))))))
def eW:AFun:=⟨2,[.t 4],z0Y,false,false⟩
def WQ (C:Hd)(gl:GL)(e:En)(h:aA)(x:Esc)(K:KT):Sf C gl z0Y e h x K:=⟨_,by simp only[z0Y,↓wZ,AO.still];rfl⟩
theorem zfI {C gl v0 v1 h x K}:NW C gl eW.body ⟨enter [v0,v1],h,x⟩ K=(WQ C gl [(0,v0),(1,v1)] h x K).1:=(WQ C gl [(0,v0),(1,v1)] h x K).2
def z2j:ACode:=(.seq (rg [uO 2 (.box 0),
mV 3 cF] [1,2])
(.seq (rg [fA 4 0 none 2,
lD 5 none 4,
lD 6 none 1,
bN 7 .eql 5 6,
mV 3 7] [3])
.ret))
def yX:AFun:=⟨2,[.t 3],z2j,false,false⟩
def fS (C:Hd)(gl:GL)(e:En)(h:aA)(x:Esc)(K:KT):Sf C gl z2j e h x K:=⟨_,by simp only[z2j,↓wZ,AO.still];rfl⟩
theorem zhP {C gl v0 v1 h x K}:NW C gl yX.body ⟨enter [v0,v1],h,x⟩ K=(fS C gl [(0,v0),(1,v1)] h x K).1:=(fS C gl [(0,v0),(1,v1)] h x K).2
def yU:ACode:=.pr [1,2,4,5,11,12,13] (rg [bN 23 .add 13 (cI 1),
mV 13 23] [1,2,4,5,11,12,13])
def CZ (C:Hd)(gl:GL)(e:En)(h:aA)(x:Esc)(K:KT):Sf C gl yU e h x K:=⟨_,by simp only[yU,↓wZ,AO.still];rfl⟩
theorem zhT {C gl e h x K}:NW C gl yU ⟨e,h,x⟩ K=(CZ C gl e h x K).1:=(CZ C gl e h x K).2
def fM:ACode:=.pr [1,2,4,5,11,12,13] (.seq (rg [bN 14 .lss 13 12] [1,2,4,5,11,12,13,14])
(.seq (.cond 14 .skip
(.exit 0))
(.seq (.block 1 (.seq (rg [iA 15 (some 2) 11 13,
lD 16 (some 2) 15,
uO 7 (.alloc [.p (.str []),.p (.str [])]),
wO (.store (some 2) 7 16)] [1,2,4,5,7,11,12,13])
(.seq (rg [fA 17 0 none 7,
lD 18 none 17,
mV 19 1,
bN 20 .eql 18 19] [1,2,4,5,7,11,12,13,20])
(.cond 20 (rg [fA 21 1 none 7,
lD 22 none 21,
mV 5 22] [1,2,4,5,11,12,13])
.skip))))
yU)))
def DZ (C:Hd)(gl:GL)(e:En)(h:aA)(x:Esc)(K:KT):Sf C gl fM e h x K:=⟨_,by simp only[fM,↓wZ,AO.still];rfl⟩
theorem zhU {C gl e h x K}:NW C gl fM ⟨e,h,x⟩ K=(DZ C gl e h x K).1:=(DZ C gl e h x K).2
theorem zky {C gl e h x K}:NW C gl (.loop (.scope fM)) ⟨e,h,x⟩ K=QA C gl (.scope fM) K [(1,gA e 1),(2,gA e 2),(4,gA e 4),(5,gA e 5),(11,gA e 11),(12,gA e 12),(13,gA e 13)] h x:=BC
def zU:ACode:=.pr [2,4,5] (.seq (rg [lD 25 (some 5) 2,
mV 26 5,
cL 27 iJ [25,26],
mV 24 27,
eX 28 24 0,
eX 29 24 1,
uO 8 (.alloc [.p (.str []),.p (.int .i64 0)]),
wO (.store (some 2) 8 28),
mV 9 29] [4,8])
(.seq (rg [lD 30 (some 2) 8,
wO (.store (some 2) 4 30)] [4])
.ret))
def GN (C:Hd)(gl:GL)(e:En)(h:aA)(x:Esc)(K:KT):Sf C gl zU e h x K:=⟨_,by simp only[zU,↓wZ,AO.still];rfl⟩
theorem z0c {C gl e h x K}:NW C gl zU ⟨e,h,x⟩ K=(GN C gl e h x K).1:=(GN C gl e h x K).2
def z2m:ACode:=(.seq (rg [uO 2 (.box 0),
uO 4 (.alloc [.p (.str []),.p (.int .i64 0)])] [1,2,4])
(.seq (rg [mV 5 (cS [98,121,112,97,115,115])] [1,2,4,5])
(.seq (.seq (rg [fA 10 4 none 2,
lD 11 none 10,
lN 12 11,
mV 13 (cI 0)] [1,2,4,5,11,12,13])
(.block 0 (.loop (.scope fM))))
zU)))
def BX:AFun:=⟨2,[.cell 4 (some 2)],z2m,false,false⟩
def kS (C:Hd)(gl:GL)(e:En)(h:aA)(x:Esc)(K:KT):Sf C gl z2m e h x K:=⟨_,by simp only[z2m,↓wZ,AO.still];rfl⟩
theorem zhS {C gl v0 v1 h x K}:NW C gl BX.body ⟨enter [v0,v1],h,x⟩ K=(kS C gl [(0,v0),(1,v1)] h x K).1:=(kS C gl [(0,v0),(1,v1)] h x K).2
def z0V:ACode:=(.seq (rg [mV 2 (cI 0)] [0])
(.seq (rg [mV 3 0,
bN 4 .add 3 (cI 16),
bN 5 .quo 4 (cI 8),
mV 2 5] [2])
.ret))
def bW:AFun:=⟨1,[.t 2],z0V,false,false⟩
def rY (C:Hd)(gl:GL)(e:En)(h:aA)(x:Esc)(K:KT):Sf C gl z0V e h x K:=⟨_,by simp only[z0V,↓wZ,AO.still];rfl⟩
theorem zf5 {C gl v0 h x K}:NW C gl bW.body ⟨enter [v0],h,x⟩ K=(rY C gl [(0,v0)] h x K).1:=(rY C gl [(0,v0)] h x K).2
def vL:ACode:=.pr [0,1,5,6,7,8,9] (.seq (.seq (rg [mV 18 9,
mV 19 7,
bN 20 .lss 18 19] [0,1,5,6,7,8,9,20])
(.cond 20 .skip
(.exit 0)))
(.seq (.block 1 (rg [mV 23 8,
bN 24 .mul 23 (.c (.p (.int .u32 16777619))),
mV 25 0,
mV 26 9,
uO 27 (.idxs 25 26),
uO 28 (.conv (.i .u32) 27),
bN 29 .add 24 28,
mV 8 29] [0,1,5,6,7,8,9]))
(rg [mV 21 9,
bN 22 .add 21 (cI 1),
mV 9 22] [0,1,5,6,7,8,9])))
def tY (C:Hd)(gl:GL)(e:En)(h:aA)(x:Esc)(K:KT):Sf C gl vL e h x K:=⟨_,by simp only[vL,↓wZ,AO.still];rfl⟩
theorem zf7 {C gl e h x K}:NW C gl vL ⟨e,h,x⟩ K=(tY C gl e h x K).1:=(tY C gl e h x K).2
theorem zjN {C gl e h x K}:NW C gl (.loop vL) ⟨e,h,x⟩ K=QA C gl vL K [(0,gA e 0),(1,gA e 1),(5,gA e 5),(6,gA e 6),(7,gA e 7),(8,gA e 8),(9,gA e 9)] h x:=dC
def wL:ACode:=.pr [0,1,5,6,7,8,10] (.seq (.seq (rg [mV 41 10,
mV 42 0,
uO 43 (.lens 42),
bN 44 .lss 41 43] [0,1,5,6,7,8,10,44])
(.cond 44 .skip
(.exit 2)))
(.block 3 (.seq (rg [mV 45 8,
bN 46 .mul 45 (.c (.p (.int .u32 16777619))),
mV 8 46] [0,1,5,6,7,8,10])
(.seq (rg [mV 47 8,
mV 48 0,
mV 49 10,
uO 50 (.idxs 48 49),
uO 51 (.conv (.i .u32) 50),
bN 52 .add 47 51,
mV 8 52] [0,1,5,6,7,8,10])
(.seq (rg [mV 53 8,
mV 54 6,
mV 55 0,
mV 56 10,
mV 57 7,
bN 58 .sub 56 57,
uO 59 (.idxs 55 58),
uO 60 (.conv (.i .u32) 59),
bN 61 .mul 54 60,
bN 62 .sub 53 61,
mV 8 62] [0,1,5,6,7,8,10])
(.seq (rg [mV 63 10,
bN 64 .add 63 (cI 1),
mV 10 64] [0,1,5,6,7,8,10])
(.seq (rg [mV 65 8,
mV 66 5,
bN 67 .eql 65 66,
mV 68 67,
gD 69 68 true (.mv 0),
gD 70 68 true (.mv 10),
gD 71 68 true (.mv 7),
gD 72 68 true (.bin .sub 70 71),
gD 73 68 true (.mv 10),
gD 74 68 true (.slstr 69 (some 72) (some 73)),
gD 75 68 true (.mv 1),
gD 76 68 true (.bin .eql 74 75),
uO 77 (.pick 68 76 cF)] [0,1,5,6,7,8,10,77])
(.cond 77 (.seq (rg [mV 78 10,
mV 79 7,
bN 80 .sub 78 79,
mV 4 80] [4])
.ret)
.skip))))))))
def uY (C:Hd)(gl:GL)(e:En)(h:aA)(x:Esc)(K:KT):Sf C gl wL e h x K:=⟨_,by simp only[wL,↓wZ,AO.still];rfl⟩
theorem zf8 {C gl e h x K}:NW C gl wL ⟨e,h,x⟩ K=(uY C gl e h x K).1:=(uY C gl e h x K).2
theorem zjO {C gl e h x K}:NW C gl (.loop wL) ⟨e,h,x⟩ K=QA C gl wL K [(0,gA e 0),(1,gA e 1),(5,gA e 5),(6,gA e 6),(7,gA e 7),(8,gA e 8),(10,gA e 10)] h x:=dC
def vT:ACode:=.pr [] (.seq (rg [mV 4 (cI (-1))] [4])
.ret)
def vY (C:Hd)(gl:GL)(e:En)(h:aA)(x:Esc)(K:KT):Sf C gl vT e h x K:=⟨_,by simp only[vT,↓wZ,AO.still];rfl⟩
theorem zf9 {C gl e h x K}:NW C gl vT ⟨e,h,x⟩ K=(vY C gl e h x K).1:=(vY C gl e h x K).2
def xT:ACode:=.pr [0,1,5,6,7,8] (.seq (.seq (rg [mV 30 8,
mV 31 5,
bN 32 .eql 30 31,
mV 33 32,
gD 34 33 true (.mv 0),
gD 35 33 true (.mv 7),
gD 36 33 true (.slstr 34 none (some 35)),
gD 37 33 true (.mv 1),
gD 38 33 true (.bin .eql 36 37),
uO 39 (.pick 33 38 cF)] [0,1,5,6,7,8,39])
(.cond 39 (.seq (rg [mV 4 (cI 0)] [4])
.ret)
.skip))
(.seq (.seq (rg [mV 40 7,
mV 10 40] [0,1,5,6,7,8,10])
(.block 2 (.loop wL)))
vT))
def wY (C:Hd)(gl:GL)(e:En)(h:aA)(x:Esc)(K:KT):Sf C gl xT e h x K:=⟨_,by simp only[xT,↓wZ,AO.still];rfl⟩
theorem zfA {C gl e h x K}:NW C gl xT ⟨e,h,x⟩ K=(wY C gl e h x K).1:=(wY C gl e h x K).2
def z0W:ACode:=(.seq (rg [mV 4 (cI 0)] [0,1])
(.seq (rg [mV 12 1,
cL 13 QS [12],
mV 11 13,
eX 14 11 0,
eX 15 11 1,
mV 5 14,
mV 6 15] [0,1,5,6])
(.seq (rg [mV 16 1,
uO 17 (.lens 16),
mV 7 17] [0,1,5,6,7])
(.seq (rg [mV 8 (.c (.p (.int .u32 0)))] [0,1,5,6,7,8])
(.seq (.seq (rg [mV 9 (cI 0)] [0,1,5,6,7,8,9])
(.block 0 (.loop vL)))
xT)))))
def cW:AFun:=⟨2,[.t 4],z0W,false,false⟩
def sY (C:Hd)(gl:GL)(e:En)(h:aA)(x:Esc)(K:KT):Sf C gl z0W e h x K:=⟨_,by simp only[z0W,↓wZ,AO.still];rfl⟩
theorem zf6 {C gl v0 v1 h x K}:NW C gl cW.body ⟨enter [v0,v1],h,x⟩ K=(sY C gl [(0,v0),(1,v1)] h x K).1:=(sY C gl [(0,v0),(1,v1)] h x K).2
def xL:ACode:=.pr [0,4,5] (.seq (.seq (rg [mV 9 5,
mV 10 0,
uO 11 (.lens 10),
bN 12 .lss 9 11] [0,4,5,12])
(.cond 12 .skip
(.exit 0)))
(.seq (.block 1 (rg [mV 15 4,
bN 16 .mul 15 (.c (.p (.int .u32 16777619))),
mV 17 0,
mV 18 5,
uO 19 (.idxs 17 18),
uO 20 (.conv (.i .u32) 19),
bN 21 .add 16 20,
mV 4 21] [0,4,5]))
(rg [mV 13 5,
bN 14 .add 13 (cI 1),
mV 5 14] [0,4,5])))
def yY (C:Hd)(gl:GL)(e:En)(h:aA)(x:Esc)(K:KT):Sf C gl xL e h x K:=⟨_,by simp only[xL,↓wZ,AO.still];rfl⟩
theorem zfC {C gl e h x K}:NW C gl xL ⟨e,h,x⟩ K=(yY C gl e h x K).1:=(yY C gl e h x K).2
theorem zjP {C gl e h x K}:NW C gl (.loop xL) ⟨e,h,x⟩ K=QA C gl xL K [(0,gA e 0),(4,gA e 4),(5,gA e 5)] h x:=dC
def yT:ACode:=.pr [4,6,7,8] (rg [mV 34 7,
mV 35 7,
bN 36 .mul 34 35,
mV 7 36] [4,6,7,8])
def zY (C:Hd)(gl:GL)(e:En)(h:aA)(x:Esc)(K:KT):Sf C gl yT e h x K:=⟨_,by simp only[yT,↓wZ,AO.still];rfl⟩
theorem zfD {C gl e h x K}:NW C gl yT ⟨e,h,x⟩ K=(zY C gl e h x K).1:=(zY C gl e h x K).2
def zT:ACode:=.pr [4,6,7,8] (rg [mV 26 8,
bN 27 .shr 26 (.c (.p (.int .u64 1))),
mV 8 27] [4,6,7,8])
def AY (C:Hd)(gl:GL)(e:En)(h:aA)(x:Esc)(K:KT):Sf C gl zT e h x K:=⟨_,by simp only[zT,↓wZ,AO.still];rfl⟩
theorem zfE {C gl e h x K}:NW C gl zT ⟨e,h,x⟩ K=(AY C gl e h x K).1:=(AY C gl e h x K).2
def yL:ACode:=.pr [4,6,7,8] (.seq (.seq (rg [mV 24 8,
bN 25 .gtr 24 (cI 0)] [4,6,7,8,25])
(.cond 25 .skip
(.exit 2)))
(.seq (.block 3 (.seq (.seq (rg [mV 28 8,
bN 29 .and 28 (cI 1),
bN 30 .neq 29 (cI 0)] [4,6,7,8,30])
(.cond 30 (rg [mV 31 6,
mV 32 7,
bN 33 .mul 31 32,
mV 6 33] [4,6,7,8])
.skip))
yT))
zT))
def BY (C:Hd)(gl:GL)(e:En)(h:aA)(x:Esc)(K:KT):Sf C gl yL e h x K:=⟨_,by simp only[yL,↓wZ,AO.still];rfl⟩
theorem zfF {C gl e h x K}:NW C gl yL ⟨e,h,x⟩ K=(BY C gl e h x K).1:=(BY C gl e h x K).2
theorem zjQ {C gl e h x K}:NW C gl (.loop yL) ⟨e,h,x⟩ K=QA C gl yL K [(4,gA e 4),(6,gA e 6),(7,gA e 7),(8,gA e 8)] h x:=dC
def AT:ACode:=.pr [4,6] (.seq (rg [mV 37 4,
mV 38 6,
mV 2 37,
mV 3 38] [2,3])
.ret)
def CY (C:Hd)(gl:GL)(e:En)(h:aA)(x:Esc)(K:KT):Sf C gl AT e h x K:=⟨_,by simp only[AT,↓wZ,AO.still];rfl⟩
theorem zfG {C gl e h x K}:NW C gl AT ⟨e,h,x⟩ K=(CY C gl e h x K).1:=(CY C gl e h x K).2
def BT:ACode:=.pr [0,4] (.seq (rg [mV 6 (.c (.p (.int .u32 1))),
mV 7 (.c (.p (.int .u32 16777619)))] [0,4,6,7])
(.seq (.seq (rg [mV 22 0,
uO 23 (.lens 22),
mV 8 23] [4,6,7,8])
(.block 2 (.loop yL)))
AT))
def DY (C:Hd)(gl:GL)(e:En)(h:aA)(x:Esc)(K:KT):Sf C gl BT e h x K:=⟨_,by simp only[BT,↓wZ,AO.still];rfl⟩
theorem zfH {C gl e h x K}:NW C gl BT ⟨e,h,x⟩ K=(DY C gl e h x K).1:=(DY C gl e h x K).2
def z0X:ACode:=(.seq (rg [mV 2 (.c (.p (.int .u32 0))),
mV 3 (.c (.p (.int .u32 0)))] [0])
(.seq (rg [mV 4 (.c (.p (.int .u32 0)))] [0,4])
(.seq (.seq (rg [mV 5 (cI 0)] [0,4,5])
(.block 0 (.loop xL)))
BT)))
def dW:AFun:=⟨1,[.t 2,.t 3],z0X,false,false⟩
def xY (C:Hd)(gl:GL)(e:En)(h:aA)(x:Esc)(K:KT):Sf C gl z0X e h x K:=⟨_,by simp only[z0X,↓wZ,AO.still];rfl⟩
theorem zfB {C gl v0 h x K}:NW C gl dW.body ⟨enter [v0],h,x⟩ K=(xY C gl [(0,v0)] h x K).1:=(xY C gl [(0,v0)] h x K).2
def zlF:ACode:=(.seq (rg [uO 4 (.alloc [.p (.int .i64 0),.p (.int .i64 0)])] [0,1,4])
(.seq (rg [mV 6 0,
mV 7 0,
uO 8 (.un .neg 7),
uO 9 (.mx [6,8]),
mV 10 1,
cL 11 z6f [9,10],
mV 5 11] [0,1,4,5])
(.seq (dr [dF (mV 12 0) [0],
dF (mV 13 5) [5],
dF (bN 14 .quo 12 13) [12,13],
dF (mV 15 1) [1],
dF (mV 16 5) [5],
dF (bN 17 .quo 15 16) [15,16],
dF (uO 18 (.build [.p (.int .i64 0),.p (.int .i64 0)] [(0,1,14),(1,1,17)])) [14,17],
dT (wO (.store (some 2) 4 18)) [4,18]] [4])
.ret)))
def zbc:AFun:=⟨2,[.cell 4 (some 2)],zlF,false,false⟩
def zlH:ACode:=.pr [0,1] (.seq (.seq (rg [mV 5 1,
bN 6 .neq 5 (cI 0)] [0,1,6])
(.cond 6 .skip
(.exit 0)))
(.block 1 (dr [dF (mV 7 1) [1],
dF (mV 8 0) [0],
dF (mV 9 1) [1],
dF (bN 10 .rem 8 9) [8,9],
dF (mV 0 7) [7],
dF (mV 1 10) [10]] [0,1])))
def zlI:ACode:=.pr [0] (.seq (rg [mV 11 0,
mV 4 11] [4])
.ret)
def zlG:ACode:=(.seq (rg [mV 4 (cI 0)] [0,1])
(.seq (.block 0 (.loop zlH))
zlI))
def zbd:AFun:=⟨2,[.t 4],zlG,false,false⟩
def zlJ:ACode:=(.seq (rg [mV 2 cF] [0])
(.seq (rg [mV 3 0,
cL 4 gC [3,(cI 0),(cI 345686399999)],
uO 5 (.un .not 4),
mV 2 5] [2])
.ret))
def zbe:AFun:=⟨1,[.t 2],zlJ,false,false⟩
def zlL:ACode:=.pr [2,19,20,21] (.seq (rg [bN 22 .lss 21 20] [2,19,20,21,22])
(.seq (.cond 22 .skip
(.exit 0))
(.seq (.block 1 (.seq (rg [mV 23 21,
iA 24 none 19 21,
lD 25 none 24,
mV 6 23,
mV 7 25] [2,6,7,19,20,21])
(.seq (rg [mV 26 7,
uO 27 (.lens 26),
fA 28 0 none 2,
lD 29 none 28,
mV 30 6,
iA 31 (some 2) 29 30,
fA 32 1 none 31,
lD 33 none 32,
lN 34 33,
bN 35 .neq 27 34,
mV 36 35,
gD 37 36 false (.mv 7),
gD 38 36 false (.call CE [37]),
gD 39 36 false (.un .not 38),
uO 40 (.pick 36 cT 39)] [2,19,20,21,40])
(.cond 40 (.seq (rg [mV 4 (cI 3)] [4])
.ret)
.skip))))
(rg [bN 41 .add 21 (cI 1),
mV 21 41] [2,19,20,21]))))
def zlM:ACode:=.pr [] (.seq (rg [mV 4 (cI 0)] [4])
.ret)
def zlK:ACode:=(.seq (rg [uO 2 (.box 0),
mV 4 (cI 0)] [1,2])
(.seq (.seq (rg [lD 8 (some 3) 2,
cL 9 z6h [8],
mV 5 9] [1,2,5])
(.seq (rg [mV 10 5,
bN 11 .neq 10 (cI 0)] [1,2,5,11])
(.cond 11 (.seq (rg [mV 12 5,
mV 4 12] [4])
.ret)
.skip)))
(.seq (.seq (rg [mV 13 1,
lN 14 13,
fA 15 0 none 2,
lD 16 none 15,
lN 17 16,
bN 18 .neq 14 17] [1,2,18])
(.cond 18 (.seq (rg [mV 4 (cI 3)] [4])
.ret)
.skip))
(.seq (.seq (rg [mV 19 1,
lN 20 19,
mV 21 (cI 0)] [2,19,20,21])
(.block 0 (.loop zlL)))
zlM))))
def zbf:AFun:=⟨2,[.t 4],zlK,false,false⟩
def zlO:ACode:=.pr [1,15,16,17] (.seq (rg [bN 18 .lss 17 16] [1,15,16,17,18])
(.seq (.cond 18 .skip
(.exit 0))
(.seq (.block 1 (.seq (rg [mV 19 17,
iA 20 (some 2) 15 17,
lD 21 (some 2) 20,
uO 4 (.alloc [.p (.str []),.sl0 (some 4)]),
mV 3 19,
wO (.store (some 2) 4 21)] [1,3,4,15,16,17])
(.seq (.block 2 (.seq (rg [fA 23 0 none 4,
lD 24 none 23,
cL 25 UD [24],
uO 26 (.un .not 25),
mV 22 26] [1,3,4,15,16,17,22])
(.cond 22 (.seq (rg [mV 2 (cI 5)] [2])
.ret)
(.seq (dr [dF (mV 28 3) [3],
dF (bN 29 .gtr 28 (cI 0)) [28],
dF (mV 30 29) [29],
dF (gD 31 30 true (.faddr 0 none 4)) [4,30],
dF (gD 32 30 true (.load none 31)) [31,30],
dF (gD 33 30 true (.faddr 0 none 1)) [1,30],
dF (gD 34 30 true (.load none 33)) [33,30],
dF (gD 35 30 true (.mv 3)) [3,30],
dF (gD 36 30 true (.bin .sub 35 (cI 1))) [35,30],
dF (gD 37 30 true (.iaddr (some 2) 34 36)) [34,36,30],
dF (gD 38 30 true (.faddr 0 none 37)) [37,30],
dF (gD 39 30 true (.load none 38)) [38,30],
dF (gD 40 30 true (.bin .leq 32 39)) [32,39,30],
dF (uO 41 (.pick 30 40 cF)) [30,40],
dF (mV 27 41) [41]] [1,4,15,16,17,27])
(.cond 27 (.seq (rg [mV 2 (cI 7)] [2])
.ret)
.skip)))))
(.seq (rg [lD 42 (some 2) 4,
cL 43 z6m [42],
mV 5 43] [1,5,15,16,17])
(.seq (rg [mV 44 5,
bN 45 .neq 44 (cI 0)] [1,5,15,16,17,45])
(.cond 45 (.seq (rg [mV 46 5,
mV 2 46] [2])
.ret)
.skip))))))
(rg [bN 47 .add 17 (cI 1),
mV 17 47] [1,15,16,17]))))
def zlP:ACode:=.pr [1,7,59,60,61] (.seq (rg [bN 62 .lss 61 60] [1,7,59,60,61,62])
(.seq (.cond 62 .skip
(.exit 3))
(.seq (.block 4 (.seq (rg [mV 63 61,
iA 64 (some 2) 59 61,
lD 65 (some 2) 64,
uO 9 (.alloc [.p (.str []),.p (.int .i64 0)]),
mV 8 63,
wO (.store (some 2) 9 65)] [1,7,8,9,59,60,61])
(.block 5 (.seq (rg [mV 67 7,
fA 68 0 none 9,
lD 69 none 68,
cL 70 z0y [67,69],
uO 71 (.un .not 70),
mV 66 71] [1,7,8,9,59,60,61,66])
(.cond 66 (.seq (rg [mV 2 (cI 8)] [2])
.ret)
(.seq (rg [fA 73 1 none 9,
lD 74 none 73,
cL 75 gC [74,(cI 0),(cI 1)],
mV 72 75] [1,7,8,9,59,60,61,72])
(.cond 72 (.seq (rg [mV 2 (cI 1)] [2])
.ret)
(.seq (dr [dF (mV 77 8) [8],
dF (bN 78 .gtr 77 (cI 0)) [77],
dF (mV 79 78) [78],
dF (gD 80 79 true (.faddr 0 none 9)) [9,79],
dF (gD 81 79 true (.load none 80)) [80,79],
dF (gD 82 79 true (.faddr 2 none 1)) [1,79],
dF (gD 83 79 true (.load none 82)) [82,79],
dF (gD 84 79 true (.mv 8)) [8,79],
dF (gD 85 79 true (.bin .sub 84 (cI 1))) [84,79],
dF (gD 86 79 true (.iaddr (some 2) 83 85)) [83,85,79],
dF (gD 87 79 true (.faddr 0 none 86)) [86,79],
dF (gD 88 79 true (.load none 87)) [87,79],
dF (gD 89 79 true (.bin .leq 81 88)) [81,88,79],
dF (uO 90 (.pick 79 89 cF)) [79,89],
dF (mV 76 90) [90]] [1,7,59,60,61,76])
(.cond 76 (.seq (rg [mV 2 (cI 7)] [2])
.ret)
.skip)))))))))
(rg [bN 91 .add 61 (cI 1),
mV 61 91] [1,7,59,60,61]))))
def zlQ:ACode:=.pr [] (.seq (rg [mV 2 (cI 0)] [2])
.ret)
def zlR:ACode:=.pr [1] (.seq (.seq (rg [lD 48 (some 3) 1,
cL 49 z6q [48],
mV 6 49] [1,6])
(.seq (rg [mV 50 6,
bN 51 .neq 50 (cI 0)] [1,6,51])
(.cond 51 (.seq (rg [mV 52 6,
mV 2 52] [2])
.ret)
.skip)))
(.seq (rg [lD 53 (some 3) 1,
cL 54 NS [53],
mV 7 54] [1,7])
(.seq (.seq (rg [mV 55 7,
lN 56 55,
bN 57 .gtr 56 (cI 100)] [1,7,57])
(.cond 57 (.seq (rg [mV 2 (cI 2)] [2])
.ret)
.skip))
(.seq (.seq (rg [fA 58 2 none 1,
lD 59 none 58,
lN 60 59,
mV 61 (cI 0)] [1,7,59,60,61])
(.block 3 (.loop (.scope zlP))))
zlQ))))
def zlN:ACode:=(.seq (rg [uO 1 (.box 0),
mV 2 (cI 0)] [1])
(.seq (.seq (rg [fA 10 0 none 1,
lD 11 none 10,
lN 12 11,
bN 13 .gtr 12 (cI 40)] [1,13])
(.cond 13 (.seq (rg [mV 2 (cI 2)] [2])
.ret)
.skip))
(.seq (.seq (rg [fA 14 0 none 1,
lD 15 none 14,
lN 16 15,
mV 17 (cI 0)] [1,15,16,17])
(.block 0 (.loop (.scope zlO))))
zlR)))
def zbg:AFun:=⟨1,[.t 2],zlN,false,false⟩
def zlT:ACode:=.pr [7,8,21,22,23] (.seq (rg [bN 24 .lss 23 22] [7,8,21,22,23,24])
(.seq (.cond 24 .skip
(.exit 0))
(.seq (.block 1 (.seq (rg [iA 25 none 21 23,
lD 26 none 25,
mV 10 26] [7,8,10,21,22,23])
(rg [mV 27 8,
mV 28 7,
mV 29 10,
uO 30 (.look (none,[2]) false (AI 0) 28 29),
uO 31 (.bsl false none 1 (.int .i64 0) [(0,30)]),
uO 32 (.app none 27 31),
mV 8 32] [7,8,21,22,23])))
(rg [bN 33 .add 23 (cI 1),
mV 23 33] [7,8,21,22,23]))))
def zlU:ACode:=.pr [8] (.seq (rg [mV 34 8,
mV 4 34,
mV 5 (cI 0)] [4,5])
.ret)
def zlS:ACode:=(.seq (rg [uO 2 (.box 0),
mV 4 (.c (.p (.sl none []))),
mV 5 (cI 0)] [1,2])
(.seq (.seq (rg [lD 11 (some 3) 2,
mV 12 1,
cL 13 z6g [11,12],
mV 6 13] [1,2,6])
(.seq (rg [mV 14 6,
bN 15 .neq 14 (cI 0)] [1,2,6,15])
(.cond 15 (.seq (rg [mV 16 6,
mV 4 (.c (.p (.sl none []))),
mV 5 16] [4,5])
.ret)
.skip)))
(.seq (rg [lD 17 (some 3) 2,
mV 18 1,
cL 19 z6r [17,18],
mV 7 19] [2,7])
(.seq (rg [uO 8 (.new0 none)] [2,7,8])
(.seq (.seq (rg [lD 20 (some 3) 2,
cL 21 NS [20],
lN 22 21,
mV 23 (cI 0)] [7,8,21,22,23])
(.block 0 (.loop (.scope zlT))))
zlU)))))
def zbh:AFun:=⟨2,[.t 4,.t 5],zlS,false,false⟩
end Go.Am
end
