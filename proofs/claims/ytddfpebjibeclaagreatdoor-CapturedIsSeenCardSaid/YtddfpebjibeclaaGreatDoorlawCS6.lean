/- Texts of the proof, laid together: CodesE, CodesF. -/
import Derived.KernelRfl
import Derived.Test.YtddfpebjibeclaaGreatDoorlawCS5
set_option linter.all false
section
/- The functions asv abstract code,and asv formulas over their values: printed by program out of the translation. -/
set_option linter.unusedVariables false
set_option maxRecDepth 100000
namespace Go.Am
def DX:ACode:=.pr [0,1,5,6,7,8,9,10] (.seq (.seq (rg [mV 78 0,
mV 79 8,
bN 80 .add 79 (cI 1),
uO 81 (.idxs 78 80),
mV 82 7,
bN 83 .eql 81 82,
mV 84 83,
gD 85 84 true (.mv 0),
gD 86 84 true (.mv 8),
gD 87 84 true (.mv 8),
gD 88 84 true (.mv 5),
gD 89 84 true (.bin .add 87 88),
gD 90 84 true (.slstr 85 (some 86) (some 89)),
gD 91 84 true (.mv 1),
gD 92 84 true (.bin .eql 90 91),
uO 93 (.pick 84 92 cF)] [0,1,5,6,7,8,9,10,93])
(.cond 93 (.seq (rg [mV 94 8,
mV 4 94] [4])
.ret)
.skip))
(.seq (rg [mV 95 8,
bN 96 .add 95 (cI 1),
mV 8 96] [0,1,5,6,7,8,9,10])
(.seq (rg [mV 97 10,
bN 98 .add 97 (cI 1),
mV 10 98] [0,1,5,6,7,8,9,10])
(.seq (rg [mV 99 5,
lD 100 none (.g 0),
bN 101 .leq 99 100,
mV 102 101,
gD 103 102 true (.mv 10),
gD 104 102 true (.mv 8),
gD 105 102 true (.call IM [104]),
gD 106 102 true (.bin .gtr 103 105),
uO 107 (.pick 102 106 cF)] [0,1,5,6,7,8,9,10,107])
(.cond 107 (.seq (rg [mV 108 0,
mV 109 8,
uO 110 (.slstr 108 (some 109) none),
mV 111 1,
cL 112 NQ [110,111],
mV 12 112] [8,12])
(.seq (.seq (rg [mV 113 12,
bN 114 .geq 113 (cI 0)] [8,12,114])
(.cond 114 (.seq (rg [mV 115 12,
mV 116 8,
bN 117 .add 115 116,
mV 4 117] [4])
.ret)
.skip))
(.seq (rg [mV 4 (cI (-1))] [4])
.ret)))
(.seq (rg [mV 118 5,
lD 119 none (.g 0),
bN 120 .gtr 118 119,
mV 121 120,
gD 122 121 true (.mv 10),
gD 123 121 true (.mv 8),
gD 124 121 true (.bin .shr 123 (.c (.p (.int .u64 4)))),
gD 125 121 true (.bin .add (cI 4) 124),
gD 126 121 true (.bin .geq 122 125),
uO 127 (.pick 121 126 cF),
mV 128 127,
gD 129 128 true (.mv 8),
gD 130 128 true (.mv 9),
gD 131 128 true (.bin .lss 129 130),
uO 132 (.pick 128 131 cF)] [0,1,5,6,7,8,9,10,132])
(.cond 132 (.seq (rg [mV 133 0,
mV 134 8,
uO 135 (.slstr 133 (some 134) none),
mV 136 1,
cL 137 JM [135,136],
mV 13 137] [8,13])
(.seq (.seq (rg [mV 138 13,
bN 139 .lss 138 (cI 0)] [8,13,139])
(.cond 139 (.seq (rg [mV 4 (cI (-1))] [4])
.ret)
.skip))
(.seq (rg [mV 140 8,
mV 141 13,
bN 142 .add 140 141,
mV 4 142] [4])
.ret)))
.skip)))))))
def z3r (C:Hd)(gl:GL)(v0 v1 v5 v6 v7 v8 v9 v10:AV)(h:bA)(x:Esc)(K:KT):Prop:=
 pK (eA .add v8 (AI 1)) fun t1=>
 pK (BC v0 t1) fun t2=>
 pK (eA .eql t2 v7) fun t3=>
 gM t3 true v0 h fun t4 h5 y6=>
 gM t3 true v8 h5 fun t7 h8 y9=>
 gM t3 true v8 h8 fun t10 h11 y12=>
 gM t3 true v5 h11 fun t13 h14 y15=>
 gP t3 true (eA .add t10 t13) h14 fun t16 h17 y18=>
 gP t3 true (jG t4 (some t7) (some t16)) h17 fun t19 h20 y21=>
 gM t3 true v1 h20 fun t22 h23 y24=>
 gP t3 true (eA .eql t19 t22) h23 fun t25 h26 y27=>
 pK (LA t3 t25 (AB false)) fun t28=>
 nA t28 (K .ret ⟨[(4,v8)],h26,(y27++(y24++(y21++(y18++(y15++(y12++(y9++(y6++x))))))))⟩)
 (pK (eA .add v8 (AI 1)) fun t29=>
 pK (eA .add v10 (AI 1)) fun t30=>
 pK (kA none (gv gl 0) h26) fun t31=>
 pK (eA .leq v5 t31) fun t32=>
 gM t32 true t30 h26 fun t33 h34 y35=>
 gM t32 true t29 h34 fun t36 h37 y38=>
 gV t32 true h37 (C IM [t36] h37) fun t39 h40 y41=>
 gP t32 true (eA .gtr t33 t39) h40 fun t42 h43 y44=>
 pK (LA t32 t42 (AB false)) fun t45=>
 nA t45 (pK (jG v0 (some t29) none) fun t46=>
 C NQ [t46,v1] h43 fun t47 h48 y49=>
 pK (eA .geq t47 (AI 0)) fun t50=>
 nA t50 (pK (eA .add t47 t29) fun t51=>
 K .ret ⟨[(4,t51)],h48,(y49++(y44++(y41++(y38++(y35++(y27++(y24++(y21++(y18++(y15++(y12++(y9++(y6++x)))))))))))))⟩)
 (K .ret ⟨[(4,(AI (-1)))],h48,(y49++(y44++(y41++(y38++(y35++(y27++(y24++(y21++(y18++(y15++(y12++(y9++(y6++x)))))))))))))⟩))
 (pK (kA none (gv gl 0) h43) fun t52=>
 pK (eA .gtr v5 t52) fun t53=>
 gM t53 true t30 h43 fun t54 h55 y56=>
 gM t53 true t29 h55 fun t57 h58 y59=>
 gP t53 true (eA .shr t57 (.p (.int .u64 4))) h58 fun t60 h61 y62=>
 gP t53 true (eA .add (AI 4) t60) h61 fun t63 h64 y65=>
 gP t53 true (eA .geq t54 t63) h64 fun t66 h67 y68=>
 pK (LA t53 t66 (AB false)) fun t69=>
 gM t69 true t29 h67 fun t70 h71 y72=>
 gM t69 true v9 h71 fun t73 h74 y75=>
 gP t69 true (eA .lss t70 t73) h74 fun t76 h77 y78=>
 pK (LA t69 t76 (AB false)) fun t79=>
 nA t79 (pK (jG v0 (some t29) none) fun t80=>
 C JM [t80,v1] h77 fun t81 h82 y83=>
 pK (eA .lss t81 (AI 0)) fun t84=>
 nA t84 (K .ret ⟨[(4,(AI (-1)))],h82,(y83++(y78++(y75++(y72++(y68++(y65++(y62++(y59++(y56++(y44++(y41++(y38++(y35++(y27++(y24++(y21++(y18++(y15++(y12++(y9++(y6++x)))))))))))))))))))))⟩)
 (pK (eA .add t29 t81) fun t85=>
 K .ret ⟨[(4,t85)],h82,(y83++(y78++(y75++(y72++(y68++(y65++(y62++(y59++(y56++(y44++(y41++(y38++(y35++(y27++(y24++(y21++(y18++(y15++(y12++(y9++(y6++x)))))))))))))))))))))⟩))
 (K .normal ⟨[(0,v0),(1,v1),(5,v5),(6,v6),(7,v7),(8,t29),(9,v9),(10,t30),(132,t79)],h77,(y78++(y75++(y72++(y68++(y65++(y62++(y59++(y56++(y44++(y41++(y38++(y35++(y27++(y24++(y21++(y18++(y15++(y12++(y9++(y6++x))))))))))))))))))))⟩)))
theorem zir {C gl e h x K}:NW C gl DX ⟨e,h,x⟩ K=z3r C gl (aA e 0) (aA e 1) (aA e 5) (aA e 6) (aA e 7) (aA e 8) (aA e 9) (aA e 10) h x K:=by kernel_rfl
def z0i (q1:ACode):ACode:=.pr [0,1,5,6,7,8,9,10] (.seq (.seq (rg [mV 57 8,
mV 58 9,
bN 59 .lss 57 58] [0,1,5,6,7,8,9,10,59])
(.cond 59 .skip
(.exit 1)))
(.block 2 (.seq (.seq (rg [mV 60 0,
mV 61 8,
uO 62 (.idxs 60 61),
mV 63 6,
bN 64 .neq 62 63] [0,1,5,6,7,8,9,10,64])
(.cond 64 (.seq (rg [mV 65 0,
mV 66 8,
bN 67 .add 66 (cI 1),
mV 68 9,
uO 69 (.slstr 65 (some 67) (some 68)),
mV 70 6,
cL 71 lF [69,70],
mV 11 71] [0,1,5,6,7,8,9,10,11])
(.seq (.seq (rg [mV 72 11,
bN 73 .lss 72 (cI 0)] [0,1,5,6,7,8,9,10,11,73])
(.cond 73 (.seq (rg [mV 4 (cI (-1))] [4])
.ret)
.skip))
(rg [mV 74 8,
mV 75 11,
bN 76 .add 75 (cI 1),
bN 77 .add 74 76,
mV 8 77] [0,1,5,6,7,8,9,10])))
.skip))
q1)))
def VK:ACode:=z0i DX
def iV (C:Hd)(gl:GL)(q1:ACode)(v0 v1 v5 v6 v7 v8 v9 v10:AV)(h:bA)(x:Esc)(K:KT):Prop:=
 pK (eA .lss v8 v9) fun t1=>
 nA t1 (pK (BC v0 v8) fun t2=>
 pK (eA .neq t2 v6) fun t3=>
 nA t3 (pK (eA .add v8 (AI 1)) fun t4=>
 pK (jG v0 (some t4) (some v9)) fun t5=>
 C lF [t5,v6] h fun t6 h7 y8=>
 pK (eA .lss t6 (AI 0)) fun t9=>
 nA t9 (K .ret ⟨[(4,(AI (-1)))],h7,(y8++x)⟩)
 (pK (eA .add t6 (AI 1)) fun t10=>
 pK (eA .add v8 t10) fun t11=>
 NW C gl q1 ⟨[(0,v0),(1,v1),(5,v5),(6,v6),(7,v7),(8,t11),(9,v9),(10,v10)],h7,(y8++x)⟩ (wA 2 K)))
 (NW C gl q1 ⟨[(0,v0),(1,v1),(5,v5),(6,v6),(7,v7),(8,v8),(9,v9),(10,v10),(64,t3)],h,x⟩ (wA 2 K)))
 (K (.exit 1) ⟨[(0,v0),(1,v1),(5,v5),(6,v6),(7,v7),(8,v8),(9,v9),(10,v10),(59,t1)],h,x⟩)
theorem z9M {C gl q1 e h x K}:NW C gl (z0i q1) ⟨e,h,x⟩ K=iV C gl q1 (aA e 0) (aA e 1) (aA e 5) (aA e 6) (aA e 7) (aA e 8) (aA e 9) (aA e 10) h x K:=by kernel_rfl
theorem zis {C gl e h x K}:NW C gl VK ⟨e,h,x⟩ K=iV C gl DX (aA e 0) (aA e 1) (aA e 5) (aA e 6) (aA e 7) (aA e 8) (aA e 9) (aA e 10) h x K:=z9M
theorem zm7 {C gl e h x K}:NW C gl (.loop VK) ⟨e,h,x⟩ K=FA C gl VK K [(0,aA e 0),(1,aA e 1),(5,aA e 5),(6,aA e 6),(7,aA e 7),(8,aA e 8),(9,aA e 9),(10,aA e 10)] h x:=NB
def zR:ACode:=.pr [] (.seq (rg [mV 4 (cI (-1))] [4])
.ret)
def z3s (C:Hd)(gl:GL)(h:bA)(x:Esc)(K:KT):Prop:=
 K .ret ⟨[(4,(AI (-1)))],h,x⟩
theorem zit {C gl e h x K}:NW C gl zR ⟨e,h,x⟩ K=z3s C gl h x K:=by kernel_rfl
def z0h (q2 q3:ACode):ACode:=(.seq (rg [mV 4 (cI 0)] [0,1])
(.seq (rg [mV 14 1,
uO 15 (.lens 14),
mV 5 15] [0,1,5])
(.seq (.block 0 (.seq (rg [mV 17 5,
bN 18 .eql 17 (cI 0),
mV 19 18,
gD 20 19 false (.mv 1),
gD 21 19 false (.mv 0),
gD 22 19 false (.bin .eql 20 21),
uO 23 (.pick 19 cT 22),
mV 16 23] [0,1,5,16])
(.cond 16 (.seq (rg [mV 4 (cI 0)] [4])
.ret)
(.seq (rg [mV 25 5,
bN 26 .eql 25 (cI 1),
mV 24 26] [0,1,5,24])
(.cond 24 (.seq (rg [mV 27 0,
mV 28 1,
uO 29 (.idxs 28 (cI 0)),
cL 30 lF [27,29],
mV 4 30] [4])
.ret)
(.seq (rg [mV 32 5,
mV 33 0,
uO 34 (.lens 33),
bN 35 .geq 32 34,
mV 31 35] [0,1,5,31])
(.cond 31 (.seq (rg [mV 4 (cI (-1))] [4])
.ret)
(.seq (rg [mV 37 5,
lD 38 none (.g 0),
bN 39 .leq 37 38,
mV 40 39,
gD 41 40 true (.mv 0),
gD 42 40 true (.lens 41),
gD 43 40 true (.bin .leq 42 (cI 64)),
uO 44 (.pick 40 43 cF),
mV 36 44] [0,1,5,36])
(.cond 36 (.seq (rg [mV 45 0,
mV 46 1,
cL 47 NQ [45,46],
mV 4 47] [4])
.ret)
.skip)))))))))
(.seq (rg [mV 48 1,
uO 49 (.idxs 48 (cI 0)),
mV 6 49] [0,1,5,6])
(.seq (rg [mV 50 1,
uO 51 (.idxs 50 (cI 1)),
mV 7 51] [0,1,5,6,7])
(.seq (rg [mV 8 (cI 0)] [0,1,5,6,7,8])
(.seq (rg [mV 52 0,
uO 53 (.lens 52),
mV 54 5,
bN 55 .sub 53 54,
bN 56 .add 55 (cI 1),
mV 9 56] [0,1,5,6,7,8,9])
(.seq (rg [mV 10 (cI 0)] [0,1,5,6,7,8,9,10])
(.seq (.block 1 (.loop q2))
q3)))))))))
def mT:AFun:=⟨2,[.t 4],z0h VK zR,false,false⟩
def OP (C:Hd)(gl:GL)(q2 q3:ACode)(v0 v1:AV)(h:bA)(x:Esc)(K:KT):Prop:=
 pK (CD v1) fun t1=>
 pK (eA .eql t1 (AI 0)) fun t2=>
 gM t2 false v1 h fun t3 h4 y5=>
 gM t2 false v0 h4 fun t6 h7 y8=>
 gP t2 false (eA .eql t3 t6) h7 fun t9 h10 y11=>
 pK (LA t2 (AB true) t9) fun t12=>
 nA t12 (K .ret ⟨[(4,(AI 0))],h10,(y11++(y8++(y5++x)))⟩)
 (pK (eA .eql t1 (AI 1)) fun t13=>
 nA t13 (pK (BC v1 (AI 0)) fun t14=>
 C lF [v0,t14] h10 fun t15 h16 y17=>
 K .ret ⟨[(4,t15)],h16,(y17++(y11++(y8++(y5++x))))⟩)
 (pK (CD v0) fun t18=>
 pK (eA .geq t1 t18) fun t19=>
 nA t19 (K .ret ⟨[(4,(AI (-1)))],h10,(y11++(y8++(y5++x)))⟩)
 (pK (kA none (gv gl 0) h10) fun t20=>
 pK (eA .leq t1 t20) fun t21=>
 gM t21 true v0 h10 fun t22 h23 y24=>
 gP t21 true (CD t22) h23 fun t25 h26 y27=>
 gP t21 true (eA .leq t25 (AI 64)) h26 fun t28 h29 y30=>
 pK (LA t21 t28 (AB false)) fun t31=>
 nA t31 (C NQ [v0,v1] h29 fun t32 h33 y34=>
 K .ret ⟨[(4,t32)],h33,(y34++(y30++(y27++(y24++(y11++(y8++(y5++x)))))))⟩)
 (pK (BC v1 (AI 0)) fun t35=>
 pK (BC v1 (AI 1)) fun t36=>
 pK (CD v0) fun t37=>
 pK (eA .sub t37 t1) fun t38=>
 pK (eA .add t38 (AI 1)) fun t39=>
 NW C gl (.loop q2) ⟨[(0,v0),(1,v1),(5,t1),(6,t35),(7,t36),(8,(AI 0)),(9,t39),(10,(AI 0))],h29,(y30++(y27++(y24++(y11++(y8++(y5++x))))))⟩ (wA 1 (OA C gl q3 K))))))
theorem z9L {C gl q2 q3 v0 v1 h x K}:NW C gl (z0h q2 q3) ⟨enter [v0,v1],h,x⟩ K=OP C gl q2 q3 v0 v1 h x K:=by kernel_rfl
theorem ziq {C gl v0 v1 h x K}:NW C gl mT.body ⟨enter [v0,v1],h,x⟩ K=OP C gl VK zR v0 v1 h x K:=z9L
def zbP:ACode:=(.seq (rg [mV 6 (cI 0)] [0,1,2])
(.seq (.seq (rg [mV 7 2,
mV 8 1,
bN 9 .lss 7 8] [0,1,2,9])
(.cond 9 (.seq (rg [mV 10 1,
mV 6 10] [6])
.ret)
.skip))
(.seq (rg [mV 11 1,
mV 12 0,
mV 13 2,
mV 14 1,
bN 15 .sub 13 14,
bN 16 .add 15 (cI 1),
cL 17 LB [12,16],
bN 18 .add 11 17,
mV 6 18] [6])
.ret)))
def zT:AFun:=⟨3,[.t 6],zbP,false,false⟩
def vV (C:Hd)(gl:GL)(v0 v1 v2:AV)(h:bA)(x:Esc)(K:KT):Prop:=
 pK (eA .lss v2 v1) fun t1=>
 nA t1 (K .ret ⟨[(6,v1)],h,x⟩)
 (pK (eA .sub v2 v1) fun t2=>
 pK (eA .add t2 (AI 1)) fun t3=>
 C LB [v0,t3] h fun t4 h5 y6=>
 pK (eA .add v1 t4) fun t7=>
 K .ret ⟨[(6,t7)],h5,(y6++x)⟩)
theorem ziS {C gl v0 v1 v2 h x K}:NW C gl zT.body ⟨enter [v0,v1,v2],h,x⟩ K=vV C gl v0 v1 v2 h x K:=by kernel_rfl
def zcd:ACode:=(.seq (rg [mV 4 cF] [0,1])
(.seq (rg [mV 5 0,
mV 6 1,
cL 7 wI [5,6],
bN 8 .geq 7 (cI 0),
mV 4 8] [4])
.ret))
def YO:AFun:=⟨2,[.t 4],zcd,true,false⟩
def mQ (C:Hd)(gl:GL)(v0 v1:AV)(h:bA)(x:Esc)(K:KT):Prop:=
 C wI [v0,v1] h fun t1 h2 y3=>
 pK (eA .geq t1 (AI 0)) fun t4=>
 K .ret ⟨[(4,t4)],h2,(y3++x)⟩
theorem zjO {C gl v0 v1 h x K}:NW C gl YO.body ⟨enter [v0,v1],h,x⟩ K=mQ C gl v0 v1 h x K:=by kernel_rfl
def zbR:ACode:=(.seq (rg [uO 2 (.box 0),
mV 3 cF] [1,2])
(.seq (rg [fA 4 0 none 2,
lD 5 none 4,
fA 6 0 none 1,
lD 7 none 6,
bN 8 .eql 5 7,
mV 9 8,
gD 10 9 true (.faddr 1 none 2),
gD 11 9 true (.load none 10),
gD 12 9 true (.faddr 1 none 1),
gD 13 9 true (.load none 12),
gD 14 9 true (.bin .eql 11 13),
uO 15 (.pick 9 14 cF),
mV 3 15] [3])
.ret))
def ET:AFun:=⟨2,[.t 3],zbR,false,false⟩
def dQ (C:Hd)(gl:GL)(v0 v1:AV)(h:bA)(x:Esc)(K:KT):Prop:=
 wK (qB v0 h) fun t1 h2 y3=>
 pK (oA 0 none t1) fun t4=>
 pK (kA none t4 h2) fun t5=>
 pK (oA 0 none v1) fun t6=>
 pK (kA none t6 h2) fun t7=>
 pK (eA .eql t5 t7) fun t8=>
 gP t8 true (oA 1 none t1) h2 fun t9 h10 y11=>
 gP t8 true (kA none t9 h10) h10 fun t12 h13 y14=>
 gP t8 true (oA 1 none v1) h13 fun t15 h16 y17=>
 gP t8 true (kA none t15 h16) h16 fun t18 h19 y20=>
 gP t8 true (eA .eql t12 t18) h19 fun t21 h22 y23=>
 pK (LA t8 t21 (AB false)) fun t24=>
 K .ret ⟨[(3,t24)],h22,(y23++(y20++(y17++(y14++(y11++(y3++x))))))⟩
theorem zjg {C gl v0 v1 h x K}:NW C gl ET.body ⟨enter [v0,v1],h,x⟩ K=dQ C gl v0 v1 h x K:=by kernel_rfl
def wL:ACode:=.pr [0,3,7,8] (.seq (rg [bN 9 .lss 8 7] [0,3,7,8,9])
(.seq (.cond 9 .skip
(.exit 0))
(.seq (.block 1 (.seq (rg [mV 10 8,
mV 5 10] [0,3,5,7,8])
(.seq (dr [dF (lD 11 (some 2) 3) [3],
dF (mV 12 0) [0],
dF (mV 13 5) [5],
dF (iA 14 (some 2) 12 13) [12,13],
dF (lD 15 (some 2) 14) [14],
dF (uO 16 (.eqa [2,2] false 11 15)) [11,15]] [0,3,5,7,8,16])
(.cond 16 (.seq (rg [mV 17 5,
mV 4 17] [4])
.ret)
.skip))))
(rg [bN 18 .add 8 (cI 1),
mV 8 18] [0,3,7,8]))))
def z4m (C:Hd)(gl:GL)(v0 v3 v7 v8:AV)(h:bA)(x:Esc)(K:KT):Prop:=
 pK (eA .lss v8 v7) fun t1=>
 nA t1 (pK (kA (some 2) v3 h) fun t2=>
 pK (uA (some 2) v0 v8 h) fun t3=>
 pK (kA (some 2) t3 h) fun t4=>
 pK (CK [2,2] false t2 t4) fun t5=>
 nA t5 (K .ret ⟨[(4,v8)],h,x⟩)
 (pK (eA .add v8 (AI 1)) fun t6=>
 K .normal ⟨[(0,v0),(3,v3),(7,v7),(8,t6)],h,x⟩))
 (K (.exit 0) ⟨[(0,v0),(3,v3),(7,v7),(8,v8),(9,t1)],h,x⟩)
theorem zkm {C gl e h x K}:NW C gl wL ⟨e,h,x⟩ K=z4m C gl (aA e 0) (aA e 3) (aA e 7) (aA e 8) h x K:=by kernel_rfl
theorem zne {C gl e h x K}:NW C gl (.loop wL) ⟨e,h,x⟩ K=FA C gl wL K [(0,aA e 0),(3,aA e 3),(7,aA e 7),(8,aA e 8)] h x:=NB
def fS:ACode:=.pr [] (.seq (rg [mV 4 (cI (-1))] [4])
.ret)
def z4n (C:Hd)(gl:GL)(h:bA)(x:Esc)(K:KT):Prop:=
 K .ret ⟨[(4,(AI (-1)))],h,x⟩
theorem zkn {C gl e h x K}:NW C gl fS ⟨e,h,x⟩ K=z4n C gl h x K:=by kernel_rfl
def z0V (q1 q2:ACode):ACode:=(.seq (rg [uO 3 (.box 1),
mV 4 (cI 0)] [0,3])
(.seq (.seq (rg [mV 6 0,
lN 7 6,
mV 8 (cI 0)] [0,3,7,8])
(.block 0 (.loop q1)))
q2))
def fU:AFun:=⟨2,[.t 4],z0V wL fS,true,false⟩
def tQ (C:Hd)(gl:GL)(q1 q2:ACode)(v0 v1:AV)(h:bA)(x:Esc)(K:KT):Prop:=
 wK (qB v1 h) fun t1 h2 y3=>
 pK (yA v0) fun t4=>
 NW C gl (.loop q1) ⟨[(0,v0),(3,t1),(7,t4),(8,(AI 0))],h2,(y3++x)⟩ (wA 0 (OA C gl q2 K))
theorem za9 {C gl q1 q2 v0 v1 h x K}:NW C gl (z0V q1 q2) ⟨enter [v0,v1],h,x⟩ K=tQ C gl q1 q2 v0 v1 h x K:=by kernel_rfl
theorem zkl {C gl v0 v1 h x K}:NW C gl fU.body ⟨enter [v0,v1],h,x⟩ K=tQ C gl wL fS v0 v1 h x K:=za9
def fY:ACode:=.pr [0,1,2,3,4,10,11,12,13] (.seq (.seq (dr [dF (mV 81 1) [1],
dF (bN 82 .gtr 81 (cI 0)) [81],
dF (mV 83 82) [82],
dF (gD 84 83 true (.mv 4)) [4,83],
dF (gD 85 83 true (.mv 0)) [0,83],
dF (gD 86 83 true (.mv 1)) [1,83],
dF (gD 87 83 true (.bin .sub 86 (cI 1))) [86,83],
dF (gD 88 83 true (.iaddr (some 3) 85 87)) [85,87,83],
dF (gD 89 83 true (.load (some 3) 88)) [88,83],
dF (gD 90 83 true (.mv 0)) [0,83],
dF (gD 91 83 true (.mv 13)) [13,83],
dF (gD 92 83 true (.iaddr (some 3) 90 91)) [90,91,83],
dF (gD 93 83 true (.load (some 3) 92)) [92,83],
dT (gD 94 83 true (.callv 84 [89,93])) [84,89,93,83],
dF (gD 95 83 true (.bin .lss 94 (cI 0))) [94,83],
dF (gD 96 83 true (.un .not 95)) [95,83],
dF (uO 97 (.pick 83 96 cF)) [83,96]] [0,1,2,3,4,10,11,12,13,97])
(.cond 97 (.seq (rg [mV 98 0,
mV 99 1,
mV 100 2,
mV 101 13,
mV 102 4,
cL 103 z5x [98,99,100,101,102],
mV 15 103] [0,2,3,4,10,11,15])
(.seq (rg [mV 104 15,
mV 1 104] [0,1,2,3,4,10,11])
(.exit 1)))
.skip))
(.seq (rg [mV 106 0,
mV 107 1,
mV 108 2,
mV 109 13,
mV 110 4,
cL 111 z5w [106,107,108,109,110],
mV 105 111,
eX 112 105 0,
eX 113 105 1,
mV 16 112,
mV 17 113] [0,1,2,3,4,12,16,17])
(.seq (rg [mV 114 17,
mV 11 114] [0,1,2,3,4,11,12,16])
(.seq (rg [mV 115 16,
mV 116 1,
bN 117 .sub 115 116,
mV 118 2,
mV 119 16,
bN 120 .sub 118 119,
mV 18 117,
mV 19 120] [0,1,2,3,4,11,12,16,18,19])
(.seq (rg [mV 121 12,
bN 122 .quo 121 (cI 8),
mV 20 122] [0,1,2,3,4,11,16,18,19,20])
(.seq (rg [mV 123 18,
mV 124 19,
bN 125 .lss 123 124] [0,1,2,3,4,11,16,18,19,20,125])
(.cond 125 (.seq (rg [mV 126 18,
mV 127 20,
bN 128 .geq 126 127,
mV 10 128] [0,1,2,3,4,10,11,16])
(.seq (rg [mV 129 0,
mV 130 1,
mV 131 16,
mV 132 3,
mV 133 4,
cL 134 bG [129,130,131,132,133]] [0,2,3,4,10,11,16])
(rg [mV 135 16,
bN 136 .add 135 (cI 1),
mV 1 136] [0,1,2,3,4,10,11])))
(.seq (rg [mV 137 19,
mV 138 20,
bN 139 .geq 137 138,
mV 10 139] [0,1,2,3,4,10,11,16])
(.seq (rg [mV 140 0,
mV 141 16,
bN 142 .add 141 (cI 1),
mV 143 2,
mV 144 3,
mV 145 4,
cL 146 bG [140,142,143,144,145]] [0,1,3,4,10,11,16])
(rg [mV 147 16,
mV 2 147] [0,1,2,3,4,10,11]))))))))))
def z4u (C:Hd)(gl:GL)(v0 v1 v2 v3 v4 v10 v11 v12 v13:AV)(h:bA)(x:Esc)(K:KT):Prop:=
 pK (eA .gtr v1 (AI 0)) fun t1=>
 gM t1 true v4 h fun t2 h3 y4=>
 gM t1 true v0 h3 fun t5 h6 y7=>
 gM t1 true v1 h6 fun t8 h9 y10=>
 gP t1 true (eA .sub t8 (AI 1)) h9 fun t11 h12 y13=>
 gP t1 true (uA (some 3) t5 t11 h12) h12 fun t14 h15 y16=>
 gP t1 true (kA (some 3) t14 h15) h15 fun t17 h18 y19=>
 gM t1 true v0 h18 fun t20 h21 y22=>
 gM t1 true v13 h21 fun t23 h24 y25=>
 gP t1 true (uA (some 3) t20 t23 h24) h24 fun t26 h27 y28=>
 gP t1 true (kA (some 3) t26 h27) h27 fun t29 h30 y31=>
 gV t1 true h30 (mJ C t2 [t17,t29] h30) fun t32 h33 y34=>
 gP t1 true (eA .lss t32 (AI 0)) h33 fun t35 h36 y37=>
 gP t1 true (oUn .not t35) h36 fun t38 h39 y40=>
 pK (LA t1 t38 (AB false)) fun t41=>
 nA t41 (C z5x [v0,v1,v2,v13,v4] h39 fun t42 h43 y44=>
 K (.exit 1) ⟨[(0,v0),(1,t42),(2,v2),(3,v3),(4,v4),(10,v10),(11,v11)],h43,(y44++(y40++(y37++(y34++(y31++(y28++(y25++(y22++(y19++(y16++(y13++(y10++(y7++(y4++x))))))))))))))⟩)
 (C z5w [v0,v1,v2,v13,v4] h39 fun t45 h46 y47=>
 pK (MB t45 0) fun t48=>
 pK (MB t45 1) fun t49=>
 pK (eA .sub t48 v1) fun t50=>
 pK (eA .sub v2 t48) fun t51=>
 pK (eA .quo v12 (AI 8)) fun t52=>
 pK (eA .lss t50 t51) fun t53=>
 nA t53 (pK (eA .geq t50 t52) fun t54=>
 C bG [v0,v1,t48,v3,v4] h46 fun t55 h56 y57=>
 pK (eA .add t48 (AI 1)) fun t58=>
 K .normal ⟨[(0,v0),(1,t58),(2,v2),(3,v3),(4,v4),(10,t54),(11,t49)],h56,(y57++(y47++(y40++(y37++(y34++(y31++(y28++(y25++(y22++(y19++(y16++(y13++(y10++(y7++(y4++x)))))))))))))))⟩)
 (pK (eA .geq t51 t52) fun t59=>
 pK (eA .add t48 (AI 1)) fun t60=>
 C bG [v0,t60,v2,v3,v4] h46 fun t61 h62 y63=>
 K .normal ⟨[(0,v0),(1,v1),(2,t48),(3,v3),(4,v4),(10,t59),(11,t49)],h62,(y63++(y47++(y40++(y37++(y34++(y31++(y28++(y25++(y22++(y19++(y16++(y13++(y10++(y7++(y4++x)))))))))))))))⟩))
theorem zk2 {C gl e h x K}:NW C gl fY ⟨e,h,x⟩ K=z4u C gl (aA e 0) (aA e 1) (aA e 2) (aA e 3) (aA e 4) (aA e 10) (aA e 11) (aA e 12) (aA e 13) h x K:=by kernel_rfl
def z1c (q1:ACode):ACode:=.pr [0,1,2,3,4,10,11,12,13,14] (.seq (.seq (rg [mV 68 10,
mV 69 68,
gD 70 69 true (.mv 11),
uO 71 (.pick 69 70 cF),
mV 72 71,
gD 73 72 true (.mv 14),
gD 74 72 true (.bin .eql 73 (cI 1)),
uO 75 (.pick 72 74 cF)] [0,1,2,3,4,10,11,12,13,75])
(.cond 75 (.seq (rg [mV 76 0,
mV 77 1,
mV 78 2,
mV 79 4,
cL 80 z5u [76,77,78,79]] [0,1,2,3,4,10,11,12,13,80])
(.cond 80 .ret
.skip))
.skip))
q1)
def gY:ACode:=z1c fY
def RV (C:Hd)(gl:GL)(q1:ACode)(v0 v1 v2 v3 v4 v10 v11 v12 v13 v14:AV)(h:bA)(x:Esc)(K:KT):Prop:=
 gM v10 true v11 h fun t1 h2 y3=>
 pK (LA v10 t1 (AB false)) fun t4=>
 gM t4 true v14 h2 fun t5 h6 y7=>
 gP t4 true (eA .eql t5 (AI 1)) h6 fun t8 h9 y10=>
 pK (LA t4 t8 (AB false)) fun t11=>
 nA t11 (C z5u [v0,v1,v2,v4] h9 fun t12 h13 y14=>
 nA t12 (K .ret ⟨[(0,v0),(1,v1),(2,v2),(3,v3),(4,v4),(10,v10),(11,v11),(12,v12),(13,v13),(80,t12)],h13,(y14++(y10++(y7++(y3++x))))⟩)
 (NW C gl q1 ⟨[(0,v0),(1,v1),(2,v2),(3,v3),(4,v4),(10,v10),(11,v11),(12,v12),(13,v13),(80,t12)],h13,(y14++(y10++(y7++(y3++x))))⟩ K))
 (NW C gl q1 ⟨[(0,v0),(1,v1),(2,v2),(3,v3),(4,v4),(10,v10),(11,v11),(12,v12),(13,v13),(75,t11)],h9,(y10++(y7++(y3++x)))⟩ K)
theorem zaG {C gl q1 e h x K}:NW C gl (z1c q1) ⟨e,h,x⟩ K=RV C gl q1 (aA e 0) (aA e 1) (aA e 2) (aA e 3) (aA e 4) (aA e 10) (aA e 11) (aA e 12) (aA e 13) (aA e 14) h x K:=by kernel_rfl
theorem zk3 {C gl e h x K}:NW C gl gY ⟨e,h,x⟩ K=RV C gl fY (aA e 0) (aA e 1) (aA e 2) (aA e 3) (aA e 4) (aA e 10) (aA e 11) (aA e 12) (aA e 13) (aA e 14) h x K:=zaG
def z1d (q2:ACode):ACode:=.pr [0,1,2,3,4,10,11,12] (.seq (rg [mV 48 0,
mV 49 1,
mV 50 2,
mV 51 4,
cL 52 z5q [48,49,50,51],
mV 47 52,
eX 53 47 0,
eX 54 47 1,
mV 13 53,
mV 14 54] [0,1,2,3,4,10,11,12,13,14])
(.seq (.seq (rg [mV 55 14,
bN 56 .eql 55 (cI 2)] [0,1,2,3,4,10,11,12,13,14,56])
(.cond 56 (.seq (rg [mV 57 0,
mV 58 1,
mV 59 2,
mV 60 4,
cL 61 z50 [57,58,59,60]] [0,1,2,3,4,10,11,12,13])
(.seq (rg [mV 62 2,
bN 63 .sub 62 (cI 1),
mV 64 13,
mV 65 1,
bN 66 .sub 64 65,
bN 67 .sub 63 66,
mV 13 67] [0,1,2,3,4,10,11,12,13])
(rg [mV 14 (cI 1)] [0,1,2,3,4,10,11,12,13,14])))
.skip))
q2))
def iY:ACode:=z1d gY
def SV (C:Hd)(gl:GL)(q2:ACode)(v0 v1 v2 v3 v4 v10 v11 v12:AV)(h:bA)(x:Esc)(K:KT):Prop:=
 C z5q [v0,v1,v2,v4] h fun t1 h2 y3=>
 pK (MB t1 0) fun t4=>
 pK (MB t1 1) fun t5=>
 pK (eA .eql t5 (AI 2)) fun t6=>
 nA t6 (C z50 [v0,v1,v2,v4] h2 fun t7 h8 y9=>
 pK (eA .sub v2 (AI 1)) fun t10=>
 pK (eA .sub t4 v1) fun t11=>
 pK (eA .sub t10 t11) fun t12=>
 NW C gl q2 ⟨[(0,v0),(1,v1),(2,v2),(3,v3),(4,v4),(10,v10),(11,v11),(12,v12),(13,t12),(14,(AI 1))],h8,(y9++(y3++x))⟩ K)
 (NW C gl q2 ⟨[(0,v0),(1,v1),(2,v2),(3,v3),(4,v4),(10,v10),(11,v11),(12,v12),(13,t4),(14,t5),(56,t6)],h2,(y3++x)⟩ K)
theorem zaH {C gl q2 e h x K}:NW C gl (z1d q2) ⟨e,h,x⟩ K=SV C gl q2 (aA e 0) (aA e 1) (aA e 2) (aA e 3) (aA e 4) (aA e 10) (aA e 11) (aA e 12) h x K:=by kernel_rfl
theorem zk4 {C gl e h x K}:NW C gl iY ⟨e,h,x⟩ K=SV C gl gY (aA e 0) (aA e 1) (aA e 2) (aA e 3) (aA e 4) (aA e 10) (aA e 11) (aA e 12) h x K:=zaH
def z1e (q3:ACode):ACode:=.pr [0,1,2,3,4,10,11] (.block 1 (.seq (rg [mV 21 2,
mV 22 1,
bN 23 .sub 21 22,
mV 12 23] [0,1,2,3,4,10,11,12])
(.seq (.seq (rg [mV 24 12,
bN 25 .leq 24 (cI 12)] [0,1,2,3,4,10,11,12,25])
(.cond 25 (.seq (rg [mV 26 0,
mV 27 1,
mV 28 2,
mV 29 4,
cL 30 lK [26,27,28,29]] [])
.ret)
.skip))
(.seq (.seq (rg [mV 31 3,
bN 32 .eql 31 (cI 0)] [0,1,2,3,4,10,11,12,32])
(.cond 32 (.seq (rg [mV 33 0,
mV 34 1,
mV 35 2,
mV 36 4,
cL 37 z5s [33,34,35,36]] [])
.ret)
.skip))
(.seq (.seq (rg [mV 38 10,
uO 39 (.un .not 38)] [0,1,2,3,4,10,11,12,39])
(.cond 39 (.seq (rg [mV 40 0,
mV 41 1,
mV 42 2,
mV 43 4,
cL 44 z5o [40,41,42,43]] [0,1,2,3,4,10,11,12])
(rg [mV 45 3,
bN 46 .sub 45 (cI 1),
mV 3 46] [0,1,2,3,4,10,11,12]))
.skip))
q3)))))
def BL:ACode:=z1e iY
def TV (C:Hd)(gl:GL)(q3:ACode)(v0 v1 v2 v3 v4 v10 v11:AV)(h:bA)(x:Esc)(K:KT):Prop:=
 pK (eA .sub v2 v1) fun t1=>
 pK (eA .leq t1 (AI 12)) fun t2=>
 nA t2 (C lK [v0,v1,v2,v4] h fun t3 h4 y5=>
 K .ret ⟨[],h4,(y5++x)⟩)
 (pK (eA .eql v3 (AI 0)) fun t6=>
 nA t6 (C z5s [v0,v1,v2,v4] h fun t7 h8 y9=>
 K .ret ⟨[],h8,(y9++x)⟩)
 (pK (oUn .not v10) fun t10=>
 nA t10 (C z5o [v0,v1,v2,v4] h fun t11 h12 y13=>
 pK (eA .sub v3 (AI 1)) fun t14=>
 NW C gl q3 ⟨[(0,v0),(1,v1),(2,v2),(3,t14),(4,v4),(10,v10),(11,v11),(12,t1)],h12,(y13++x)⟩ (wA 1 K))
 (NW C gl q3 ⟨[(0,v0),(1,v1),(2,v2),(3,v3),(4,v4),(10,v10),(11,v11),(12,t1),(39,t10)],h,x⟩ (wA 1 K))))
theorem zaI {C gl q3 e h x K}:NW C gl (z1e q3) ⟨e,h,x⟩ K=TV C gl q3 (aA e 0) (aA e 1) (aA e 2) (aA e 3) (aA e 4) (aA e 10) (aA e 11) h x K:=by kernel_rfl
theorem zk5 {C gl e h x K}:NW C gl BL ⟨e,h,x⟩ K=TV C gl iY (aA e 0) (aA e 1) (aA e 2) (aA e 3) (aA e 4) (aA e 10) (aA e 11) h x K:=zaI
theorem znk {C gl e h x K}:NW C gl (.loop BL) ⟨e,h,x⟩ K=FA C gl BL K [(0,aA e 0),(1,aA e 1),(2,aA e 2),(3,aA e 3),(4,aA e 4),(10,aA e 10),(11,aA e 11)] h x:=NB
def z1b (q4:ACode):ACode:=(.seq (rg [mV 10 cT] [0,1,2,3,4,10])
(.seq (rg [mV 11 cT] [0,1,2,3,4,10,11])
(.block 0 (.loop q4))))
def lU:AFun:=⟨5,[],z1b BL,true,false⟩
def xQ (C:Hd)(gl:GL)(q4:ACode)(v0 v1 v2 v3 v4:AV)(h:bA)(x:Esc)(K:KT):Prop:=
 NW C gl (.loop q4) ⟨[(0,v0),(1,v1),(2,v2),(3,v3),(4,v4),(10,(AB true)),(11,(AB true))],h,x⟩ (wA 0 K)
theorem zaF {C gl q4 v0 v1 v2 v3 v4 h x K}:NW C gl (z1b q4) ⟨enter [v0,v1,v2,v3,v4],h,x⟩ K=xQ C gl q4 v0 v1 v2 v3 v4 h x K:=by kernel_rfl
theorem zk1 {C gl v0 v1 v2 v3 v4 h x K}:NW C gl lU.body ⟨enter [v0,v1,v2,v3,v4],h,x⟩ K=xQ C gl BL v0 v1 v2 v3 v4 h x K:=zaF
def zbH:ACode:=(.seq (rg [mV 2 (cI 0)] [0])
(.seq (.cond cF (.seq (rg [mV 3 0,
uO 4 (.conv (.i .u32) 3),
cL 5 z5i [4],
mV 2 5] [2])
.ret)
.skip)
(.seq (rg [mV 6 0,
cL 7 PJ [6],
mV 2 7] [2])
.ret)))
def oT:AFun:=⟨1,[.t 2],zbH,false,false⟩
def jV (C:Hd)(gl:GL)(v0:AV)(h:bA)(x:Esc)(K:KT):Prop:=
 nA (AB false) (pK (XC .u32 v0) fun t1=>
 C z5i [t1] h fun t2 h3 y4=>
 K .ret ⟨[(2,t2)],h3,(y4++x)⟩)
 (C PJ [v0] h fun t5 h6 y7=>
 K .ret ⟨[(2,t5)],h6,(y7++x)⟩)
theorem ziv {C gl v0 h x K}:NW C gl oT.body ⟨enter [v0],h,x⟩ K=jV C gl v0 h x K:=by kernel_rfl
def zbp:ACode:=(.seq (rg [mV 4 (cI 0)] [0,1])
(.seq (rg [mV 7 0,
cL 8 PE [7],
mV 5 8] [0,1,5])
(.seq (rg [mV 9 1,
cL 10 PE [9],
mV 6 10] [0,1,5,6])
(.seq (.seq (rg [mV 11 5] [0,1,6,11])
(.cond 11 (.seq (.seq (rg [mV 12 6] [12])
(.cond 12 (.seq (rg [mV 4 (cI 0)] [4])
.ret)
.skip))
(.seq (rg [mV 4 (cI (-1))] [4])
.ret))
.skip))
(.seq (.seq (rg [mV 13 6] [0,1,13])
(.cond 13 (.seq (rg [mV 4 (cI 1)] [4])
.ret)
.skip))
(.seq (.seq (rg [mV 14 0,
mV 15 1,
bN 16 .lss 14 15] [0,1,16])
(.cond 16 (.seq (rg [mV 4 (cI (-1))] [4])
.ret)
.skip))
(.seq (.seq (rg [mV 17 0,
mV 18 1,
bN 19 .gtr 17 18] [19])
(.cond 19 (.seq (rg [mV 4 (cI 1)] [4])
.ret)
.skip))
(.seq (rg [mV 4 (cI 0)] [4])
.ret))))))))
def fT:AFun:=⟨2,[.t 4],zbp,false,false⟩
def qM (C:Hd)(gl:GL)(v0 v1:AV)(h:bA)(x:Esc)(K:KT):Prop:=
 C PE [v0] h fun t1 h2 y3=>
 C PE [v1] h2 fun t4 h5 y6=>
 nA t1 (nA t4 (K .ret ⟨[(4,(AI 0))],h5,(y6++(y3++x))⟩)
 (K .ret ⟨[(4,(AI (-1)))],h5,(y6++(y3++x))⟩))
 (nA t4 (K .ret ⟨[(4,(AI 1))],h5,(y6++(y3++x))⟩)
 (pK (eA .lss v0 v1) fun t7=>
 nA t7 (K .ret ⟨[(4,(AI (-1)))],h5,(y6++(y3++x))⟩)
 (pK (eA .gtr v0 v1) fun t8=>
 nA t8 (K .ret ⟨[(4,(AI 1))],h5,(y6++(y3++x))⟩)
 (K .ret ⟨[(4,(AI 0))],h5,(y6++(y3++x))⟩))))
theorem zhV {C gl v0 v1 h x K}:NW C gl fT.body ⟨enter [v0,v1],h,x⟩ K=qM C gl v0 v1 h x K:=by kernel_rfl
def zcm:ACode:=(.seq (rg [mV 3 0,
lN 4 3,
mV 2 4] [0,2])
(rg [mV 5 0,
mV 6 2,
mV 7 2,
uO 8 (.conv (.i .u64) 7),
cL 9 qH [8],
cL 10 cG [5,(cI 0),6,9]] []))
def iU:AFun:=⟨1,[],zcm,true,false⟩
def NV (C:Hd)(gl:GL)(v0:AV)(h:bA)(x:Esc)(K:KT):Prop:=
 pK (yA v0) fun t1=>
 pK (XC .u64 t1) fun t2=>
 C qH [t2] h fun t3 h4 y5=>
 C cG [v0,(AI 0),t1,t3] h4 fun t6 h7 y8=>
 K .normal ⟨[],h7,(y8++(y5++x))⟩
theorem zks {C gl v0 h x K}:NW C gl iU.body ⟨enter [v0],h,x⟩ K=NV C gl v0 h x K:=by kernel_rfl
def zbN:ACode:=(.seq (rg [mV 6 (cI 0)] [0,1,2])
(.seq (.seq (rg [mV 7 0,
cL 8 pC [7,(cI 12)]] [0,1,2,8])
(.cond 8 (.seq (rg [mV 9 0,
mV 10 1,
bN 11 .sub 10 (cI 1),
mV 12 2,
bN 13 .add 12 (cI 1),
mV 14 1,
mV 15 2,
uO 16 (.bsl false none 6 (.int .i64 0) [(0,11),(1,13),(2,14),(3,15),(4,(cI (-1099511627776))),(5,(cI 1099511627776))]),
cL 17 mE [9,16],
mV 6 17] [6])
.ret)
.skip))
(.seq (rg [mV 18 0,
mV 19 1,
mV 20 2,
cL 21 XF [18,19,20],
mV 6 21] [6])
.ret)))
def xT:AFun:=⟨3,[.t 6],zbN,false,false⟩
def ZP (C:Hd)(gl:GL)(v0 v1 v2:AV)(h:bA)(x:Esc)(K:KT):Prop:=
 C pC [v0,(AI 12)] h fun t1 h2 y3=>
 nA t1 (pK (eA .sub v1 (AI 1)) fun t4=>
 pK (eA .add v2 (AI 1)) fun t5=>
 wK (aB false none 6 (.int .i64 0) [(0,t4),(1,t5),(2,v1),(3,v2),(4,(AI (-1099511627776))),(5,(AI 1099511627776))] h2) fun t6 h7 y8=>
 C mE [v0,t6] h7 fun t9 h10 y11=>
 K .ret ⟨[(6,t9)],h10,(y11++(y8++(y3++x)))⟩)
 (C XF [v0,v1,v2] h2 fun t12 h13 y14=>
 K .ret ⟨[(6,t12)],h13,(y14++(y3++x))⟩)
theorem ziQ {C gl v0 v1 v2 h x K}:NW C gl xT.body ⟨enter [v0,v1,v2],h,x⟩ K=ZP C gl v0 v1 v2 h x K:=by kernel_rfl
def zbO:ACode:=(.seq (rg [mV 4 (cI 0)] [0,1])
(.seq (rg [mV 5 1,
mV 6 0,
mV 7 1,
lN 8 7,
cL 9 LB [6,8],
iA 10 none 5 9,
lD 11 none 10,
mV 4 11] [4])
.ret))
def yT:AFun:=⟨2,[.t 4],zbO,false,false⟩
def uV (C:Hd)(gl:GL)(v0 v1:AV)(h:bA)(x:Esc)(K:KT):Prop:=
 pK (yA v1) fun t1=>
 C LB [v0,t1] h fun t2 h3 y4=>
 pK (uA none v1 t2 h3) fun t5=>
 pK (kA none t5 h3) fun t6=>
 K .ret ⟨[(4,t6)],h3,(y4++x)⟩
theorem ziR {C gl v0 v1 h x K}:NW C gl yT.body ⟨enter [v0,v1],h,x⟩ K=uV C gl v0 v1 h x K:=by kernel_rfl
def zbY:ACode:=(.seq (rg [uO 3 (.box 1),
mV 4 (cI 0)] [0,3])
(.seq (rg [fA 6 0 none 3,
lD 7 none 6,
bN 8 .eql 7 (cI 1),
mV 9 8,
gD 10 9 false (.faddr 0 none 3),
gD 11 9 false (.load none 10),
gD 12 9 false (.bin .eql 11 (cI 2)),
uO 13 (.pick 9 cT 12),
mV 5 13] [0,3,5])
(.seq (.block 0 (.seq (rg [fA 15 0 none 3,
lD 16 none 15,
cL 17 UD [16,(cI 1),(cI 4)],
uO 18 (.un .not 17),
mV 14 18] [0,3,5,14])
(.cond 14 (.seq (rg [mV 4 (cI 4)] [4])
.ret)
(.seq (rg [mV 20 5,
mV 21 20,
gD 22 21 true (.faddr 1 none 3),
gD 23 21 true (.load none 22),
gD 24 21 true (.call YF [23]),
gD 25 21 true (.un .not 24),
uO 26 (.pick 21 25 cF),
mV 19 26] [0,3,5,19])
(.cond 19 (.seq (rg [mV 4 (cI 5)] [4])
.ret)
(.seq (rg [mV 28 5,
uO 29 (.un .not 28),
mV 30 29,
gD 31 30 true (.faddr 1 none 3),
gD 32 30 true (.load none 31),
gD 33 30 true (.bin .neq 32 (cS [])),
uO 34 (.pick 30 33 cF),
mV 27 34] [0,3,27])
(.cond 27 (.seq (rg [mV 4 (cI 3)] [4])
.ret)
(.seq (rg [fA 36 0 none 3,
lD 37 none 36,
bN 38 .neq 37 (cI 2),
mV 39 38,
gD 40 39 true (.faddr 2 none 3),
gD 41 39 true (.load none 40),
gD 42 39 true (.bin .neq 41 (cI (-1))),
gD 43 39 true (.mv 42),
gD 44 43 false (.faddr 3 none 3),
gD 45 43 false (.load none 44),
gD 46 43 false (.bin .neq 45 (cI 0)),
gD 47 39 true (.pick 43 cT 46),
uO 48 (.pick 39 47 cF),
mV 35 48] [0,3,35])
(.cond 35 (.seq (rg [mV 4 (cI 3)] [4])
.ret)
(.seq (rg [fA 50 0 none 3,
lD 51 none 50,
bN 52 .neq 51 (cI 2),
mV 49 52] [0,3,49])
(.cond 49 (.seq (rg [mV 4 (cI 0)] [4])
.ret)
(.seq (rg [fA 54 2 none 3,
lD 55 none 54,
bN 56 .neq 55 (cI (-1)),
mV 57 56,
gD 58 57 true (.faddr 2 none 3),
gD 59 57 true (.load none 58),
gD 60 57 true (.mv 0),
gD 61 57 true (.len 60),
gD 62 57 true (.bin .sub 61 (cI 1)),
gD 63 57 true (.call UD [59,(cI 0),62]),
gD 64 57 true (.un .not 63),
gD 65 57 true (.mv 64),
gD 66 65 false (.mv 0),
gD 67 65 false (.faddr 2 none 3),
gD 68 65 false (.load none 67),
gD 69 65 false (.iaddr (some 4) 66 68),
gD 70 65 false (.faddr 0 none 69),
gD 71 65 false (.load none 70),
gD 72 65 false (.bin .neq 71 (cI 3)),
gD 73 57 true (.pick 65 cT 72),
uO 74 (.pick 57 73 cF),
mV 53 74] [3,53])
(.cond 53 (.seq (rg [mV 4 (cI 8)] [4])
.ret)
(.seq (rg [fA 76 3 none 3,
lD 77 none 76,
cL 78 UD [77,(cI 0),(cI 1)],
uO 79 (.un .not 78),
mV 80 79,
gD 81 80 false (.faddr 2 none 3),
gD 82 80 false (.load none 81),
gD 83 80 false (.bin .eql 82 (cI (-1))),
gD 84 80 false (.mv 83),
gD 85 84 true (.faddr 3 none 3),
gD 86 84 true (.load none 85),
gD 87 84 true (.bin .neq 86 (cI 0)),
gD 88 80 false (.pick 84 87 cF),
uO 89 (.pick 80 cT 88),
mV 75 89] [75])
(.cond 75 (.seq (rg [mV 4 (cI 1)] [4])
.ret)
.skip)))))))))))))))
(.seq (rg [mV 4 (cI 0)] [4])
.ret))))
def PT:AFun:=⟨2,[.t 4],zbY,false,false⟩
def KC (C:Hd)(gl:GL)(v0 v1:AV)(h:bA)(x:Esc)(K:KT):Prop:=
 wK (qB v1 h) fun t1 h2 y3=>
 pK (oA 0 none t1) fun t4=>
 pK (kA none t4 h2) fun t5=>
 pK (eA .eql t5 (AI 1)) fun t6=>
 gP t6 false (oA 0 none t1) h2 fun t7 h8 y9=>
 gP t6 false (kA none t7 h8) h8 fun t10 h11 y12=>
 gP t6 false (eA .eql t10 (AI 2)) h11 fun t13 h14 y15=>
 pK (LA t6 (AB true) t13) fun t16=>
 pK (oA 0 none t1) fun t17=>
 pK (kA none t17 h14) fun t18=>
 C UD [t18,(AI 1),(AI 4)] h14 fun t19 h20 y21=>
 pK (oUn .not t19) fun t22=>
 nA t22 (K .ret ⟨[(4,(AI 4))],h20,(y21++(y15++(y12++(y9++(y3++x)))))⟩)
 (gP t16 true (oA 1 none t1) h20 fun t23 h24 y25=>
 gP t16 true (kA none t23 h24) h24 fun t26 h27 y28=>
 gV t16 true h27 (C YF [t26] h27) fun t29 h30 y31=>
 gP t16 true (oUn .not t29) h30 fun t32 h33 y34=>
 pK (LA t16 t32 (AB false)) fun t35=>
 nA t35 (K .ret ⟨[(4,(AI 5))],h33,(y34++(y31++(y28++(y25++(y21++(y15++(y12++(y9++(y3++x)))))))))⟩)
 (pK (oUn .not t16) fun t36=>
 gP t36 true (oA 1 none t1) h33 fun t37 h38 y39=>
 gP t36 true (kA none t37 h38) h38 fun t40 h41 y42=>
 gP t36 true (eA .neq t40 (.p (.str []))) h41 fun t43 h44 y45=>
 pK (LA t36 t43 (AB false)) fun t46=>
 nA t46 (K .ret ⟨[(4,(AI 3))],h44,(y45++(y42++(y39++(y34++(y31++(y28++(y25++(y21++(y15++(y12++(y9++(y3++x))))))))))))⟩)
 (pK (oA 0 none t1) fun t47=>
 pK (kA none t47 h44) fun t48=>
 pK (eA .neq t48 (AI 2)) fun t49=>
 gP t49 true (oA 2 none t1) h44 fun t50 h51 y52=>
 gP t49 true (kA none t50 h51) h51 fun t53 h54 y55=>
 gP t49 true (eA .neq t53 (AI (-1))) h54 fun t56 h57 y58=>
 gM t49 true t56 h57 fun t59 h60 y61=>
 gP t59 false (oA 3 none t1) h60 fun t62 h63 y64=>
 gP t59 false (kA none t62 h63) h63 fun t65 h66 y67=>
 gP t59 false (eA .neq t65 (AI 0)) h66 fun t68 h69 y70=>
 gP t49 true (LA t59 (AB true) t68) h69 fun t71 h72 y73=>
 pK (LA t49 t71 (AB false)) fun t74=>
 nA t74 (K .ret ⟨[(4,(AI 3))],h72,(y73++(y70++(y67++(y64++(y61++(y58++(y55++(y52++(y45++(y42++(y39++(y34++(y31++(y28++(y25++(y21++(y15++(y12++(y9++(y3++x))))))))))))))))))))⟩)
 (pK (oA 0 none t1) fun t75=>
 pK (kA none t75 h72) fun t76=>
 pK (eA .neq t76 (AI 2)) fun t77=>
 nA t77 (K .ret ⟨[(4,(AI 0))],h72,(y73++(y70++(y67++(y64++(y61++(y58++(y55++(y52++(y45++(y42++(y39++(y34++(y31++(y28++(y25++(y21++(y15++(y12++(y9++(y3++x))))))))))))))))))))⟩)
 (pK (oA 2 none t1) fun t78=>
 pK (kA none t78 h72) fun t79=>
 pK (eA .neq t79 (AI (-1))) fun t80=>
 gP t80 true (oA 2 none t1) h72 fun t81 h82 y83=>
 gP t80 true (kA none t81 h82) h82 fun t84 h85 y86=>
 gM t80 true v0 h85 fun t87 h88 y89=>
 gP t80 true (yA t87) h88 fun t90 h91 y92=>
 gP t80 true (eA .sub t90 (AI 1)) h91 fun t93 h94 y95=>
 gV t80 true h94 (C UD [t84,(AI 0),t93] h94) fun t96 h97 y98=>
 gP t80 true (oUn .not t96) h97 fun t99 h100 y101=>
 gM t80 true t99 h100 fun t102 h103 y104=>
 gM t102 false v0 h103 fun t105 h106 y107=>
 gP t102 false (oA 2 none t1) h106 fun t108 h109 y110=>
 gP t102 false (kA none t108 h109) h109 fun t111 h112 y113=>
 gP t102 false (uA (some 4) t105 t111 h112) h112 fun t114 h115 y116=>
 gP t102 false (oA 0 none t114) h115 fun t117 h118 y119=>
 gP t102 false (kA none t117 h118) h118 fun t120 h121 y122=>
 gP t102 false (eA .neq t120 (AI 3)) h121 fun t123 h124 y125=>
 gP t80 true (LA t102 (AB true) t123) h124 fun t126 h127 y128=>
 pK (LA t80 t126 (AB false)) fun t129=>
 nA t129 (K .ret ⟨[(4,(AI 8))],h127,(y128++(y125++(y122++(y119++(y116++(y113++(y110++(y107++(y104++(y101++(y98++(y95++(y92++(y89++(y86++(y83++(y73++(y70++(y67++(y64++(y61++(y58++(y55++(y52++(y45++(y42++(y39++(y34++(y31++(y28++(y25++(y21++(y15++(y12++(y9++(y3++x))))))))))))))))))))))))))))))))))))⟩)
 (pK (oA 3 none t1) fun t130=>
 pK (kA none t130 h127) fun t131=>
 C UD [t131,(AI 0),(AI 1)] h127 fun t132 h133 y134=>
 pK (oUn .not t132) fun t135=>
 gP t135 false (oA 2 none t1) h133 fun t136 h137 y138=>
 gP t135 false (kA none t136 h137) h137 fun t139 h140 y141=>
 gP t135 false (eA .eql t139 (AI (-1))) h140 fun t142 h143 y144=>
 gM t135 false t142 h143 fun t145 h146 y147=>
 gP t145 true (oA 3 none t1) h146 fun t148 h149 y150=>
 gP t145 true (kA none t148 h149) h149 fun t151 h152 y153=>
 gP t145 true (eA .neq t151 (AI 0)) h152 fun t154 h155 y156=>
 gP t135 false (LA t145 t154 (AB false)) h155 fun t157 h158 y159=>
 pK (LA t135 (AB true) t157) fun t160=>
 nA t160 (K .ret ⟨[(4,(AI 1))],h158,(y159++(y156++(y153++(y150++(y147++(y144++(y141++(y138++(y134++(y128++(y125++(y122++(y119++(y116++(y113++(y110++(y107++(y104++(y101++(y98++(y95++(y92++(y89++(y86++(y83++(y73++(y70++(y67++(y64++(y61++(y58++(y55++(y52++(y45++(y42++(y39++(y34++(y31++(y28++(y25++(y21++(y15++(y12++(y9++(y3++x)))))))))))))))))))))))))))))))))))))))))))))⟩)
 (K .ret ⟨[(4,(AI 0))],h158,(y159++(y156++(y153++(y150++(y147++(y144++(y141++(y138++(y134++(y128++(y125++(y122++(y119++(y116++(y113++(y110++(y107++(y104++(y101++(y98++(y95++(y92++(y89++(y86++(y83++(y73++(y70++(y67++(y64++(y61++(y58++(y55++(y52++(y45++(y42++(y39++(y34++(y31++(y28++(y25++(y21++(y15++(y12++(y9++(y3++x)))))))))))))))))))))))))))))))))))))))))))))⟩)))))))
theorem zjz {C gl v0 v1 h x K}:NW C gl PT.body ⟨enter [v0,v1],h,x⟩ K=KC C gl v0 v1 h x K:=by kernel_rfl
def zcc:ACode:=(.seq (rg [uO 2 (.box 0),
mV 3 cF] [1,2])
(.seq (rg [fA 4 0 none 2,
lD 5 none 4,
fA 6 0 none 1,
lD 7 none 6,
bN 8 .eql 5 7,
mV 9 8,
gD 10 9 true (.faddr 1 none 2),
gD 11 9 true (.load none 10),
gD 12 9 true (.faddr 1 none 1),
gD 13 9 true (.load none 12),
gD 14 9 true (.bin .eql 11 13),
uO 15 (.pick 9 14 cF),
mV 3 15] [3])
.ret))
def WT:AFun:=⟨2,[.t 3],zcc,false,false⟩
def iQ (C:Hd)(gl:GL)(v0 v1:AV)(h:bA)(x:Esc)(K:KT):Prop:=
 wK (qB v0 h) fun t1 h2 y3=>
 pK (oA 0 none t1) fun t4=>
 pK (kA none t4 h2) fun t5=>
 pK (oA 0 none v1) fun t6=>
 pK (kA none t6 h2) fun t7=>
 pK (eA .eql t5 t7) fun t8=>
 gP t8 true (oA 1 none t1) h2 fun t9 h10 y11=>
 gP t8 true (kA none t9 h10) h10 fun t12 h13 y14=>
 gP t8 true (oA 1 none v1) h13 fun t15 h16 y17=>
 gP t8 true (kA none t15 h16) h16 fun t18 h19 y20=>
 gP t8 true (eA .eql t12 t18) h19 fun t21 h22 y23=>
 pK (LA t8 t21 (AB false)) fun t24=>
 K .ret ⟨[(3,t24)],h22,(y23++(y20++(y17++(y14++(y11++(y3++x))))))⟩
theorem zjA {C gl v0 v1 h x K}:NW C gl WT.body ⟨enter [v0,v1],h,x⟩ K=iQ C gl v0 v1 h x K:=by kernel_rfl
def zbW:ACode:=(.seq (rg [uO 2 (.box 0),
uO 3 (.box 1),
mV 4 (cI 0)] [2,3])
(.seq (rg [fA 5 0 none 2,
lD 6 none 5,
uO 7 (.mkfn tI [3]),
cL 8 fK [6,7],
mV 4 8] [4])
.ret))
def NT:AFun:=⟨2,[.t 4],zbW,false,false⟩
def CV (C:Hd)(gl:GL)(v0 v1:AV)(h:bA)(x:Esc)(K:KT):Prop:=
 wK (qB v0 h) fun t1 h2 y3=>
 wK (qB v1 h2) fun t4 h5 y6=>
 pK (oA 0 none t1) fun t7=>
 pK (kA none t7 h5) fun t8=>
 C fK [t8,(.fn tI [t4])] h5 fun t9 h10 y11=>
 K .ret ⟨[(4,t9)],h10,(y11++(y6++(y3++x)))⟩
theorem zjx {C gl v0 v1 h x K}:NW C gl NT.body ⟨enter [v0,v1],h,x⟩ K=CV C gl v0 v1 h x K:=by kernel_rfl
def zca:ACode:=(.seq (rg [uO 2 (.box 0),
mV 3 cF] [1,2])
(.seq (rg [fA 4 1 none 2,
lD 5 none 4,
lD 6 none 1,
bN 7 .eql 5 6,
mV 3 7] [3])
.ret))
def ST:AFun:=⟨2,[.t 3],zca,false,false⟩
def EV (C:Hd)(gl:GL)(v0 v1:AV)(h:bA)(x:Esc)(K:KT):Prop:=
 wK (qB v0 h) fun t1 h2 y3=>
 pK (oA 1 none t1) fun t4=>
 pK (kA none t4 h2) fun t5=>
 pK (kA none v1 h2) fun t6=>
 pK (eA .eql t5 t6) fun t7=>
 K .ret ⟨[(3,t7)],h2,(y3++x)⟩
theorem zj1 {C gl v0 v1 h x K}:NW C gl ST.body ⟨enter [v0,v1],h,x⟩ K=EV C gl v0 v1 h x K:=by kernel_rfl
def uL:ACode:=.pr [0,1,7,8] (.seq (rg [bN 9 .lss 8 7] [0,1,7,8,9])
(.seq (.cond 9 .skip
(.exit 0))
(.seq (.block 1 (.seq (rg [mV 10 8,
mV 5 10] [0,1,5,7,8])
(.seq (rg [mV 11 1,
mV 12 0,
mV 13 5,
iA 14 (some 3) 12 13,
lD 15 (some 3) 14,
uO 16 (.callv 11 [15])] [0,1,5,7,8,16])
(.cond 16 (.seq (rg [mV 17 5,
mV 4 17] [4])
.ret)
.skip))))
(rg [bN 18 .add 8 (cI 1),
mV 8 18] [0,1,7,8]))))
def z4i (C:Hd)(gl:GL)(v0 v1 v7 v8:AV)(h:bA)(x:Esc)(K:KT):Prop:=
 pK (eA .lss v8 v7) fun t1=>
 nA t1 (pK (uA (some 3) v0 v8 h) fun t2=>
 pK (kA (some 3) t2 h) fun t3=>
 bF C v1 [t3] h fun t4 h5 y6=>
 nA t4 (K .ret ⟨[(4,v8)],h5,(y6++x)⟩)
 (pK (eA .add v8 (AI 1)) fun t7=>
 K .normal ⟨[(0,v0),(1,v1),(7,v7),(8,t7)],h5,(y6++x)⟩))
 (K (.exit 0) ⟨[(0,v0),(1,v1),(7,v7),(8,v8),(9,t1)],h,x⟩)
theorem zkg {C gl e h x K}:NW C gl uL ⟨e,h,x⟩ K=z4i C gl (aA e 0) (aA e 1) (aA e 7) (aA e 8) h x K:=by kernel_rfl
theorem znc {C gl e h x K}:NW C gl (.loop uL) ⟨e,h,x⟩ K=FA C gl uL K [(0,aA e 0),(1,aA e 1),(7,aA e 7),(8,aA e 8)] h x:=NB
def aS:ACode:=.pr [] (.seq (rg [mV 4 (cI (-1))] [4])
.ret)
def z4j (C:Hd)(gl:GL)(h:bA)(x:Esc)(K:KT):Prop:=
 K .ret ⟨[(4,(AI (-1)))],h,x⟩
theorem zkh {C gl e h x K}:NW C gl aS ⟨e,h,x⟩ K=z4j C gl h x K:=by kernel_rfl
def z0T (q1 q2:ACode):ACode:=(.seq (rg [mV 4 (cI 0)] [0,1])
(.seq (.seq (rg [mV 6 0,
lN 7 6,
mV 8 (cI 0)] [0,1,7,8])
(.block 0 (.loop q1)))
q2))
def dU:AFun:=⟨2,[.t 4],z0T uL aS,true,false⟩
def rQ (C:Hd)(gl:GL)(q1 q2:ACode)(v0 v1:AV)(h:bA)(x:Esc)(K:KT):Prop:=
 pK (yA v0) fun t1=>
 NW C gl (.loop q1) ⟨[(0,v0),(1,v1),(7,t1),(8,(AI 0))],h,x⟩ (wA 0 (OA C gl q2 K))
theorem za7 {C gl q1 q2 v0 v1 h x K}:NW C gl (z0T q1 q2) ⟨enter [v0,v1],h,x⟩ K=rQ C gl q1 q2 v0 v1 h x K:=by kernel_rfl
theorem zkf {C gl v0 v1 h x K}:NW C gl dU.body ⟨enter [v0,v1],h,x⟩ K=rQ C gl uL aS v0 v1 h x K:=za7
def zcB:ACode:=(.seq (rg [mV 4 (cI 0)] [0,1])
(.seq (rg [mV 5 0,
mV 6 1,
cL 7 lF [5,6],
mV 4 7] [4])
.ret))
def pU:AFun:=⟨2,[.t 4],zcB,false,false⟩
def aW (C:Hd)(gl:GL)(v0 v1:AV)(h:bA)(x:Esc)(K:KT):Prop:=
 C lF [v0,v1] h fun t1 h2 y3=>
 K .ret ⟨[(4,t1)],h2,(y3++x)⟩
theorem zkE {C gl v0 v1 h x K}:NW C gl pU.body ⟨enter [v0,v1],h,x⟩ K=aW C gl v0 v1 h x K:=by kernel_rfl
def zbh:ACode:=(.seq (rg [uO 2 (.box 0),
uO 3 (.box 1),
mV 4 (cI 0)] [2,3])
(.seq (.block 0 (.seq (rg [fA 6 0 none 3,
lD 7 none 6,
cL 8 fC [7,(cI 1),(cI 4)],
mV 5 8] [2,3,5])
(.cond 5 (.seq (rg [mV 4 (cI 4)] [4])
.ret)
(.seq (rg [lD 10 (some 4) 3,
cL 11 BE [10],
mV 12 11,
gD 13 12 true (.faddr 1 none 3),
gD 14 12 true (.load none 13),
gD 15 12 true (.call wD [14]),
gD 16 12 true (.un .not 15),
uO 17 (.pick 12 16 cF),
mV 9 17] [2,3,9])
(.cond 9 (.seq (rg [mV 4 (cI 5)] [4])
.ret)
(.seq (rg [lD 19 (some 4) 3,
cL 20 BE [19],
uO 21 (.un .not 20),
mV 22 21,
gD 23 22 true (.faddr 1 none 3),
gD 24 22 true (.load none 23),
gD 25 22 true (.bin .neq 24 (cS [])),
uO 26 (.pick 22 25 cF),
mV 18 26] [2,3,18])
(.cond 18 (.seq (rg [mV 4 (cI 3)] [4])
.ret)
.skip)))))))
(.seq (.seq (rg [fA 27 0 none 3,
lD 28 none 27,
bN 29 .neq 28 (cI 2)] [2,3,29])
(.cond 29 (.seq (.seq (rg [fA 30 2 none 3,
lD 31 none 30,
bN 32 .neq 31 (cI (-1)),
mV 33 32,
gD 34 33 false (.faddr 3 none 3),
gD 35 33 false (.load none 34),
gD 36 33 false (.bin .neq 35 (cI 0)),
uO 37 (.pick 33 cT 36)] [37])
(.cond 37 (.seq (rg [mV 4 (cI 3)] [4])
.ret)
.skip))
(.seq (rg [mV 4 (cI 0)] [4])
.ret))
.skip))
(.seq (.block 1 (.seq (rg [fA 39 2 none 3,
lD 40 none 39,
bN 41 .neq 40 (cI (-1)),
mV 42 41,
gD 43 42 true (.faddr 2 none 3),
gD 44 42 true (.load none 43),
gD 45 42 true (.faddr 1 none 2),
gD 46 42 true (.load none 45),
gD 47 42 true (.len 46),
gD 48 42 true (.bin .sub 47 (cI 1)),
gD 49 42 true (.call fC [44,(cI 0),48]),
gD 50 42 true (.mv 49),
gD 51 50 false (.faddr 1 none 2),
gD 52 50 false (.load none 51),
gD 53 50 false (.faddr 2 none 3),
gD 54 50 false (.load none 53),
gD 55 50 false (.iaddr (some 4) 52 54),
gD 56 50 false (.faddr 0 none 55),
gD 57 50 false (.load none 56),
gD 58 50 false (.bin .neq 57 (cI 3)),
gD 59 42 true (.pick 50 cT 58),
uO 60 (.pick 42 59 cF),
mV 38 60] [3,38])
(.cond 38 (.seq (rg [mV 4 (cI 8)] [4])
.ret)
(.seq (rg [fA 62 3 none 3,
lD 63 none 62,
cL 64 fC [63,(cI 0),(cI 1)],
mV 65 64,
gD 66 65 false (.faddr 2 none 3),
gD 67 65 false (.load none 66),
gD 68 65 false (.bin .eql 67 (cI (-1))),
gD 69 65 false (.mv 68),
gD 70 69 true (.faddr 3 none 3),
gD 71 69 true (.load none 70),
gD 72 69 true (.bin .neq 71 (cI 0)),
gD 73 65 false (.pick 69 72 cF),
uO 74 (.pick 65 cT 73),
mV 61 74] [61])
(.cond 61 (.seq (rg [mV 4 (cI 1)] [4])
.ret)
.skip)))))
(.seq (rg [mV 4 (cI 0)] [4])
.ret)))))
def EO:AFun:=⟨2,[.t 4],zbh,false,false⟩
def kD (C:Hd)(gl:GL)(v0 v1:AV)(h:bA)(x:Esc)(K:KT):Prop:=
 wK (qB v0 h) fun t1 h2 y3=>
 wK (qB v1 h2) fun t4 h5 y6=>
 pK (oA 0 none t4) fun t7=>
 pK (kA none t7 h5) fun t8=>
 C fC [t8,(AI 1),(AI 4)] h5 fun t9 h10 y11=>
 nA t9 (K .ret ⟨[(4,(AI 4))],h10,(y11++(y6++(y3++x)))⟩)
 (pK (kA (some 4) t4 h10) fun t12=>
 C BE [t12] h10 fun t13 h14 y15=>
 gP t13 true (oA 1 none t4) h14 fun t16 h17 y18=>
 gP t13 true (kA none t16 h17) h17 fun t19 h20 y21=>
 gV t13 true h20 (C wD [t19] h20) fun t22 h23 y24=>
 gP t13 true (oUn .not t22) h23 fun t25 h26 y27=>
 pK (LA t13 t25 (AB false)) fun t28=>
 nA t28 (K .ret ⟨[(4,(AI 5))],h26,(y27++(y24++(y21++(y18++(y15++(y11++(y6++(y3++x))))))))⟩)
 (pK (kA (some 4) t4 h26) fun t29=>
 C BE [t29] h26 fun t30 h31 y32=>
 pK (oUn .not t30) fun t33=>
 gP t33 true (oA 1 none t4) h31 fun t34 h35 y36=>
 gP t33 true (kA none t34 h35) h35 fun t37 h38 y39=>
 gP t33 true (eA .neq t37 (.p (.str []))) h38 fun t40 h41 y42=>
 pK (LA t33 t40 (AB false)) fun t43=>
 nA t43 (K .ret ⟨[(4,(AI 3))],h41,(y42++(y39++(y36++(y32++(y27++(y24++(y21++(y18++(y15++(y11++(y6++(y3++x))))))))))))⟩)
 (pK (oA 0 none t4) fun t44=>
 pK (kA none t44 h41) fun t45=>
 pK (eA .neq t45 (AI 2)) fun t46=>
 nA t46 (pK (oA 2 none t4) fun t47=>
 pK (kA none t47 h41) fun t48=>
 pK (eA .neq t48 (AI (-1))) fun t49=>
 gP t49 false (oA 3 none t4) h41 fun t50 h51 y52=>
 gP t49 false (kA none t50 h51) h51 fun t53 h54 y55=>
 gP t49 false (eA .neq t53 (AI 0)) h54 fun t56 h57 y58=>
 pK (LA t49 (AB true) t56) fun t59=>
 nA t59 (K .ret ⟨[(4,(AI 3))],h57,(y58++(y55++(y52++(y42++(y39++(y36++(y32++(y27++(y24++(y21++(y18++(y15++(y11++(y6++(y3++x)))))))))))))))⟩)
 (K .ret ⟨[(4,(AI 0))],h57,(y58++(y55++(y52++(y42++(y39++(y36++(y32++(y27++(y24++(y21++(y18++(y15++(y11++(y6++(y3++x)))))))))))))))⟩))
 (pK (oA 2 none t4) fun t60=>
 pK (kA none t60 h41) fun t61=>
 pK (eA .neq t61 (AI (-1))) fun t62=>
 gP t62 true (oA 2 none t4) h41 fun t63 h64 y65=>
 gP t62 true (kA none t63 h64) h64 fun t66 h67 y68=>
 gP t62 true (oA 1 none t1) h67 fun t69 h70 y71=>
 gP t62 true (kA none t69 h70) h70 fun t72 h73 y74=>
 gP t62 true (yA t72) h73 fun t75 h76 y77=>
 gP t62 true (eA .sub t75 (AI 1)) h76 fun t78 h79 y80=>
 gV t62 true h79 (C fC [t66,(AI 0),t78] h79) fun t81 h82 y83=>
 gM t62 true t81 h82 fun t84 h85 y86=>
 gP t84 false (oA 1 none t1) h85 fun t87 h88 y89=>
 gP t84 false (kA none t87 h88) h88 fun t90 h91 y92=>
 gP t84 false (oA 2 none t4) h91 fun t93 h94 y95=>
 gP t84 false (kA none t93 h94) h94 fun t96 h97 y98=>
 gP t84 false (uA (some 4) t90 t96 h97) h97 fun t99 h100 y101=>
 gP t84 false (oA 0 none t99) h100 fun t102 h103 y104=>
 gP t84 false (kA none t102 h103) h103 fun t105 h106 y107=>
 gP t84 false (eA .neq t105 (AI 3)) h106 fun t108 h109 y110=>
 gP t62 true (LA t84 (AB true) t108) h109 fun t111 h112 y113=>
 pK (LA t62 t111 (AB false)) fun t114=>
 nA t114 (K .ret ⟨[(4,(AI 8))],h112,(y113++(y110++(y107++(y104++(y101++(y98++(y95++(y92++(y89++(y86++(y83++(y80++(y77++(y74++(y71++(y68++(y65++(y42++(y39++(y36++(y32++(y27++(y24++(y21++(y18++(y15++(y11++(y6++(y3++x)))))))))))))))))))))))))))))⟩)
 (pK (oA 3 none t4) fun t115=>
 pK (kA none t115 h112) fun t116=>
 C fC [t116,(AI 0),(AI 1)] h112 fun t117 h118 y119=>
 gP t117 false (oA 2 none t4) h118 fun t120 h121 y122=>
 gP t117 false (kA none t120 h121) h121 fun t123 h124 y125=>
 gP t117 false (eA .eql t123 (AI (-1))) h124 fun t126 h127 y128=>
 gM t117 false t126 h127 fun t129 h130 y131=>
 gP t129 true (oA 3 none t4) h130 fun t132 h133 y134=>
 gP t129 true (kA none t132 h133) h133 fun t135 h136 y137=>
 gP t129 true (eA .neq t135 (AI 0)) h136 fun t138 h139 y140=>
 gP t117 false (LA t129 t138 (AB false)) h139 fun t141 h142 y143=>
 pK (LA t117 (AB true) t141) fun t144=>
 nA t144 (K .ret ⟨[(4,(AI 1))],h142,(y143++(y140++(y137++(y134++(y131++(y128++(y125++(y122++(y119++(y113++(y110++(y107++(y104++(y101++(y98++(y95++(y92++(y89++(y86++(y83++(y80++(y77++(y74++(y71++(y68++(y65++(y42++(y39++(y36++(y32++(y27++(y24++(y21++(y18++(y15++(y11++(y6++(y3++x))))))))))))))))))))))))))))))))))))))⟩)
 (K .ret ⟨[(4,(AI 0))],h142,(y143++(y140++(y137++(y134++(y131++(y128++(y125++(y122++(y119++(y113++(y110++(y107++(y104++(y101++(y98++(y95++(y92++(y89++(y86++(y83++(y80++(y77++(y74++(y71++(y68++(y65++(y42++(y39++(y36++(y32++(y27++(y24++(y21++(y18++(y15++(y11++(y6++(y3++x))))))))))))))))))))))))))))))))))))))⟩))))))
theorem zhw {C gl v0 v1 h x K}:NW C gl EO.body ⟨enter [v0,v1],h,x⟩ K=kD C gl v0 v1 h x K:=by kernel_rfl
def zbl:ACode:=(.seq (rg [uO 1 (.box 0),
mV 2 cF] [1])
(.seq (rg [fA 3 0 none 1,
lD 4 none 3,
bN 5 .eql 4 (cI 1),
mV 6 5,
gD 7 6 false (.faddr 0 none 1),
gD 8 6 false (.load none 7),
gD 9 6 false (.bin .eql 8 (cI 2)),
uO 10 (.pick 6 cT 9),
mV 2 10] [2])
.ret))
def LO:AFun:=⟨1,[.t 2],zbl,false,false⟩
def pM (C:Hd)(gl:GL)(v0:AV)(h:bA)(x:Esc)(K:KT):Prop:=
 wK (qB v0 h) fun t1 h2 y3=>
 pK (oA 0 none t1) fun t4=>
 pK (kA none t4 h2) fun t5=>
 pK (eA .eql t5 (AI 1)) fun t6=>
 gP t6 false (oA 0 none t1) h2 fun t7 h8 y9=>
 gP t6 false (kA none t7 h8) h8 fun t10 h11 y12=>
 gP t6 false (eA .eql t10 (AI 2)) h11 fun t13 h14 y15=>
 pK (LA t6 (AB true) t13) fun t16=>
 K .ret ⟨[(2,t16)],h14,(y15++(y12++(y9++(y3++x))))⟩
theorem zh9 {C gl v0 h x K}:NW C gl LO.body ⟨enter [v0],h,x⟩ K=pM C gl v0 h x K:=by kernel_rfl
def zbi:ACode:=(.seq (rg [uO 2 (.box 0),
mV 3 cF] [1,2])
(.seq (rg [fA 4 0 none 2,
lD 5 none 4,
fA 6 0 none 1,
lD 7 none 6,
bN 8 .eql 5 7,
mV 9 8,
gD 10 9 true (.faddr 1 none 2),
gD 11 9 true (.load none 10),
gD 12 9 true (.faddr 1 none 1),
gD 13 9 true (.load none 12),
gD 14 9 true (.bin .eql 11 13),
uO 15 (.pick 9 14 cF),
mV 3 15] [3])
.ret))
def HO:AFun:=⟨2,[.t 3],zbi,false,false⟩
def EP (C:Hd)(gl:GL)(v0 v1:AV)(h:bA)(x:Esc)(K:KT):Prop:=
 wK (qB v0 h) fun t1 h2 y3=>
 pK (oA 0 none t1) fun t4=>
 pK (kA none t4 h2) fun t5=>
 pK (oA 0 none v1) fun t6=>
 pK (kA none t6 h2) fun t7=>
 pK (eA .eql t5 t7) fun t8=>
 gP t8 true (oA 1 none t1) h2 fun t9 h10 y11=>
 gP t8 true (kA none t9 h10) h10 fun t12 h13 y14=>
 gP t8 true (oA 1 none v1) h13 fun t15 h16 y17=>
 gP t8 true (kA none t15 h16) h16 fun t18 h19 y20=>
 gP t8 true (eA .eql t12 t18) h19 fun t21 h22 y23=>
 pK (LA t8 t21 (AB false)) fun t24=>
 K .ret ⟨[(3,t24)],h22,(y23++(y20++(y17++(y14++(y11++(y3++x))))))⟩
theorem zh6 {C gl v0 v1 h x K}:NW C gl HO.body ⟨enter [v0,v1],h,x⟩ K=EP C gl v0 v1 h x K:=by kernel_rfl
def zbm:ACode:=(.seq (rg [uO 3 (.box 0),
uO 5 (.box 2),
mV 6 cF] [1,3,5])
(.seq (rg [lD 8 (some 3) 3,
mV 9 1,
cL 10 mI [8,9],
mV 7 10] [3,5,7])
(.seq (rg [mV 11 7,
bN 12 .geq 11 (cI 0),
mV 13 12,
gD 14 13 true (.faddr 0 none 3),
gD 15 13 true (.load none 14),
gD 16 13 true (.mv 7),
gD 17 13 true (.iaddr (some 2) 15 16),
gD 18 13 true (.faddr 1 none 17),
gD 19 13 true (.load none 18),
gD 20 13 true (.mkfn oH [5]),
gD 21 13 true (.call JD [19,20]),
uO 22 (.pick 13 21 cF),
mV 6 22] [6])
.ret)))
def QO:AFun:=⟨3,[.t 6],zbm,false,false⟩
def LP (C:Hd)(gl:GL)(v0 v1 v2:AV)(h:bA)(x:Esc)(K:KT):Prop:=
 wK (qB v0 h) fun t1 h2 y3=>
 wK (qB v2 h2) fun t4 h5 y6=>
 pK (kA (some 3) t1 h5) fun t7=>
 C mI [t7,v1] h5 fun t8 h9 y10=>
 pK (eA .geq t8 (AI 0)) fun t11=>
 gP t11 true (oA 0 none t1) h9 fun t12 h13 y14=>
 gP t11 true (kA none t12 h13) h13 fun t15 h16 y17=>
 gM t11 true t8 h16 fun t18 h19 y20=>
 gP t11 true (uA (some 2) t15 t18 h19) h19 fun t21 h22 y23=>
 gP t11 true (oA 1 none t21) h22 fun t24 h25 y26=>
 gP t11 true (kA none t24 h25) h25 fun t27 h28 y29=>
 gM t11 true (.fn oH [t4]) h28 fun t30 h31 y32=>
 gV t11 true h31 (C JD [t27,t30] h31) fun t33 h34 y35=>
 pK (LA t11 t33 (AB false)) fun t36=>
 K .ret ⟨[(6,t36)],h34,(y35++(y32++(y29++(y26++(y23++(y20++(y17++(y14++(y10++(y6++(y3++x)))))))))))⟩
theorem zhT {C gl v0 v1 v2 h x K}:NW C gl QO.body ⟨enter [v0,v1,v2],h,x⟩ K=LP C gl v0 v1 v2 h x K:=by kernel_rfl
def zbg:ACode:=(.seq (rg [uO 2 (.box 0),
uO 3 (.box 1),
mV 4 (cI 0)] [2,3])
(.seq (dr [dF (fA 5 0 none 2) [2],
dF (lD 6 none 5) [5],
dF (fA 7 0 none 3) [3],
dF (lD 8 none 7) [7],
dT (cL 9 oE [6,8]) [6,8],
dF (fA 10 1 none 2) [2],
dA (lD 11 none 10) [10] false [4] [],
dF (fA 12 1 none 3) [3],
dA (lD 13 none 12) [12] false [4] [],
dT (cL 14 oE [11,13]) [11,13],
dF (fA 15 2 none 2) [2],
dA (lD 16 none 15) [15] false [4,9] [],
dF (fA 17 2 none 3) [3],
dA (lD 18 none 17) [17] false [4,9] [],
dT (cL 19 oE [16,18]) [16,18],
dF (uO 20 (.bsl false none 3 (.int .i64 0) [(0,9),(1,14),(2,19)])) [9,14,19],
dT (cL 21 pH [20]) [20],
dF (mV 4 21) [21]] [4])
.ret))
def DO:AFun:=⟨2,[.t 4],zbg,false,false⟩
def SU (C:Hd)(gl:GL)(v0 v1:AV)(h:bA)(x:Esc)(K:KT):Prop:=
 wK (qB v0 h) fun t1 h2 y3=>
 wK (qB v1 h2) fun t4 h5 y6=>
 pK (oA 0 none t1) fun t7=>
 pK (kA none t7 h5) fun t8=>
 pK (oA 0 none t4) fun t9=>
 pK (kA none t9 h5) fun t10=>
 GB C oE [t8,t10] h5 fun t11 h12 y13=>
 pK (oA 1 none t1) fun t14=>
 pK (kA none t14 h12) fun t15=>
 (pK (kA none t14 h5) fun v=>(fun u (g1:bA) (y1:Esc)=>u=t15∧g1=h5∧y1=[]) v h5 [])∧(pK (oA 1 none t4) fun t16=>
 pK (kA none t16 h12) fun t17=>
 (pK (kA none t16 h5) fun v=>(fun u (g1:bA) (y1:Esc)=>u=t17∧g1=h5∧y1=[]) v h5 [])∧(GB C oE [t15,t17] h12 fun t18 h19 y20=>
 pK (oA 2 none t1) fun t21=>
 pK (kA none t21 h19) fun t22=>
 (pK (kA none t21 h5) fun v=>(fun u (g1:bA) (y1:Esc)=>u=t22∧g1=h5∧y1=[]) v h5 [])∧((pK (kA none t21 h12) fun v=>(fun u (g1:bA) (y1:Esc)=>u=t22∧g1=h12∧y1=[]) v h12 [])∧(pK (oA 2 none t4) fun t23=>
 pK (kA none t23 h19) fun t24=>
 (pK (kA none t23 h5) fun v=>(fun u (g1:bA) (y1:Esc)=>u=t24∧g1=h5∧y1=[]) v h5 [])∧((pK (kA none t23 h12) fun v=>(fun u (g1:bA) (y1:Esc)=>u=t24∧g1=h12∧y1=[]) v h12 [])∧(GB C oE [t22,t24] h19 fun t25 h26 y27=>
 wK (aB false none 3 (.int .i64 0) [(0,t11),(1,t18),(2,t25)] h26) fun t28 h29 y30=>
 (h29=h26∧y30=[])∧(GB C pH [t28] h29 fun t31 h32 y33=>
 K .ret ⟨[(4,t31)],h32,(y33++(y30++(y27++(y20++(y13++(y6++(y3++x)))))))⟩)))))))
theorem zhv {C gl v0 v1 h x K}:NW C gl DO.body ⟨enter [v0,v1],h,x⟩ K=SU C gl v0 v1 h x K:=by kernel_rfl
def zbB:ACode:=(.seq (rg [mV 4 (cI 0)] [0,1])
(.seq (rg [mV 5 0,
mV 6 1,
cL 7 SF [5,6],
mV 4 7] [4])
.ret))
def nT:AFun:=⟨2,[.t 4],zbB,false,false⟩
def PP (C:Hd)(gl:GL)(v0 v1:AV)(h:bA)(x:Esc)(K:KT):Prop:=
 C SF [v0,v1] h fun t1 h2 y3=>
 K .ret ⟨[(4,t1)],h2,(y3++x)⟩
theorem ziu {C gl v0 v1 h x K}:NW C gl nT.body ⟨enter [v0,v1],h,x⟩ K=PP C gl v0 v1 h x K:=by kernel_rfl
def zbA:ACode:=(.seq (rg [mV 2 (cI 0)] [0])
(.seq (rg [mV 3 0,
bN 4 .add 3 (cI 16),
bN 5 .quo 4 (cI 8),
mV 2 5] [2])
.ret))
def jT:AFun:=⟨1,[.t 2],zbA,false,false⟩
def z3j (C:Hd)(gl:GL)(v0:AV)(h:bA)(x:Esc)(K:KT):Prop:=
 pK (eA .add v0 (AI 16)) fun t1=>
 pK (eA .quo t1 (AI 8)) fun t2=>
 K .ret ⟨[(2,t2)],h,x⟩
theorem zic {C gl v0 h x K}:NW C gl jT.body ⟨enter [v0],h,x⟩ K=z3j C gl v0 h x K:=by kernel_rfl
end Go.Am
end
section
/- The functions asv abstract code,and asv formulas over their values: printed by program out of the translation. -/
set_option linter.unusedVariables false
set_option maxRecDepth 100000
namespace Go.Am
def TK:ACode:=.pr [0,1,5,6,7,8,9] (.seq (.seq (rg [mV 18 9,
mV 19 7,
bN 20 .lss 18 19] [0,1,5,6,7,8,9,20])
(.cond 20 .skip
(.exit 0)))
(.seq (.block 1 (rg [mV 23 8,
bN 24 .mul 23 (.c (.p (.int .u32 16777619))),
mV 25 0,
mV 26 9,
uO 27 (.idxs 25 26),
uO 28 (.conv (.i .u32) 27),
bN 29 .add 24 28,
mV 8 29] [0,1,5,6,7,8,9]))
(rg [mV 21 9,
bN 22 .add 21 (cI 1),
mV 9 22] [0,1,5,6,7,8,9])))
def z3k (C:Hd)(gl:GL)(v0 v1 v5 v6 v7 v8 v9:AV)(h:bA)(x:Esc)(K:KT):Prop:=
 pK (eA .lss v9 v7) fun t1=>
 nA t1 (pK (eA .mul v8 (.p (.int .u32 16777619))) fun t2=>
 pK (BC v0 v9) fun t3=>
 pK (XC .u32 t3) fun t4=>
 pK (eA .add t2 t4) fun t5=>
 pK (eA .add v9 (AI 1)) fun t6=>
 K .normal ⟨[(0,v0),(1,v1),(5,v5),(6,v6),(7,v7),(8,t5),(9,t6)],h,x⟩)
 (K (.exit 0) ⟨[(0,v0),(1,v1),(5,v5),(6,v6),(7,v7),(8,v8),(9,v9),(20,t1)],h,x⟩)
theorem zie {C gl e h x K}:NW C gl TK ⟨e,h,x⟩ K=z3k C gl (aA e 0) (aA e 1) (aA e 5) (aA e 6) (aA e 7) (aA e 8) (aA e 9) h x K:=by kernel_rfl
theorem zm3 {C gl e h x K}:NW C gl (.loop TK) ⟨e,h,x⟩ K=FA C gl TK K [(0,aA e 0),(1,aA e 1),(5,aA e 5),(6,aA e 6),(7,aA e 7),(8,aA e 8),(9,aA e 9)] h x:=NB
def wN:ACode:=.pr [0,1,5,6,7,8,10] (.seq (.seq (rg [mV 41 10,
mV 42 0,
uO 43 (.lens 42),
bN 44 .lss 41 43] [0,1,5,6,7,8,10,44])
(.cond 44 .skip
(.exit 2)))
(.block 3 (.seq (rg [mV 45 8,
bN 46 .mul 45 (.c (.p (.int .u32 16777619))),
mV 8 46] [0,1,5,6,7,8,10])
(.seq (rg [mV 47 8,
mV 48 0,
mV 49 10,
uO 50 (.idxs 48 49),
uO 51 (.conv (.i .u32) 50),
bN 52 .add 47 51,
mV 8 52] [0,1,5,6,7,8,10])
(.seq (rg [mV 53 8,
mV 54 6,
mV 55 0,
mV 56 10,
mV 57 7,
bN 58 .sub 56 57,
uO 59 (.idxs 55 58),
uO 60 (.conv (.i .u32) 59),
bN 61 .mul 54 60,
bN 62 .sub 53 61,
mV 8 62] [0,1,5,6,7,8,10])
(.seq (rg [mV 63 10,
bN 64 .add 63 (cI 1),
mV 10 64] [0,1,5,6,7,8,10])
(.seq (rg [mV 65 8,
mV 66 5,
bN 67 .eql 65 66,
mV 68 67,
gD 69 68 true (.mv 0),
gD 70 68 true (.mv 10),
gD 71 68 true (.mv 7),
gD 72 68 true (.bin .sub 70 71),
gD 73 68 true (.mv 10),
gD 74 68 true (.slstr 69 (some 72) (some 73)),
gD 75 68 true (.mv 1),
gD 76 68 true (.bin .eql 74 75),
uO 77 (.pick 68 76 cF)] [0,1,5,6,7,8,10,77])
(.cond 77 (.seq (rg [mV 78 10,
mV 79 7,
bN 80 .sub 78 79,
mV 4 80] [4])
.ret)
.skip))))))))
def z3l (C:Hd)(gl:GL)(v0 v1 v5 v6 v7 v8 v10:AV)(h:bA)(x:Esc)(K:KT):Prop:=
 pK (CD v0) fun t1=>
 pK (eA .lss v10 t1) fun t2=>
 nA t2 (pK (eA .mul v8 (.p (.int .u32 16777619))) fun t3=>
 pK (BC v0 v10) fun t4=>
 pK (XC .u32 t4) fun t5=>
 pK (eA .add t3 t5) fun t6=>
 pK (eA .sub v10 v7) fun t7=>
 pK (BC v0 t7) fun t8=>
 pK (XC .u32 t8) fun t9=>
 pK (eA .mul v6 t9) fun t10=>
 pK (eA .sub t6 t10) fun t11=>
 pK (eA .add v10 (AI 1)) fun t12=>
 pK (eA .eql t11 v5) fun t13=>
 gM t13 true v0 h fun t14 h15 y16=>
 gM t13 true t12 h15 fun t17 h18 y19=>
 gM t13 true v7 h18 fun t20 h21 y22=>
 gP t13 true (eA .sub t17 t20) h21 fun t23 h24 y25=>
 gM t13 true t12 h24 fun t26 h27 y28=>
 gP t13 true (jG t14 (some t23) (some t26)) h27 fun t29 h30 y31=>
 gM t13 true v1 h30 fun t32 h33 y34=>
 gP t13 true (eA .eql t29 t32) h33 fun t35 h36 y37=>
 pK (LA t13 t35 (AB false)) fun t38=>
 nA t38 (pK (eA .sub t12 v7) fun t39=>
 K .ret ⟨[(4,t39)],h36,(y37++(y34++(y31++(y28++(y25++(y22++(y19++(y16++x))))))))⟩)
 (K .normal ⟨[(0,v0),(1,v1),(5,v5),(6,v6),(7,v7),(8,t11),(10,t12),(77,t38)],h36,(y37++(y34++(y31++(y28++(y25++(y22++(y19++(y16++x))))))))⟩))
 (K (.exit 2) ⟨[(0,v0),(1,v1),(5,v5),(6,v6),(7,v7),(8,v8),(10,v10),(44,t2)],h,x⟩)
theorem zif {C gl e h x K}:NW C gl wN ⟨e,h,x⟩ K=z3l C gl (aA e 0) (aA e 1) (aA e 5) (aA e 6) (aA e 7) (aA e 8) (aA e 10) h x K:=by kernel_rfl
theorem zm4 {C gl e h x K}:NW C gl (.loop wN) ⟨e,h,x⟩ K=FA C gl wN K [(0,aA e 0),(1,aA e 1),(5,aA e 5),(6,aA e 6),(7,aA e 7),(8,aA e 8),(10,aA e 10)] h x:=NB
def yX:ACode:=.pr [] (.seq (rg [mV 4 (cI (-1))] [4])
.ret)
def z3m (C:Hd)(gl:GL)(h:bA)(x:Esc)(K:KT):Prop:=
 K .ret ⟨[(4,(AI (-1)))],h,x⟩
theorem zig {C gl e h x K}:NW C gl yX ⟨e,h,x⟩ K=z3m C gl h x K:=by kernel_rfl
def z0d (q2 q3:ACode):ACode:=.pr [0,1,5,6,7,8] (.seq (.seq (rg [mV 30 8,
mV 31 5,
bN 32 .eql 30 31,
mV 33 32,
gD 34 33 true (.mv 0),
gD 35 33 true (.mv 7),
gD 36 33 true (.slstr 34 none (some 35)),
gD 37 33 true (.mv 1),
gD 38 33 true (.bin .eql 36 37),
uO 39 (.pick 33 38 cF)] [0,1,5,6,7,8,39])
(.cond 39 (.seq (rg [mV 4 (cI 0)] [4])
.ret)
.skip))
(.seq (.seq (rg [mV 40 7,
mV 10 40] [0,1,5,6,7,8,10])
(.block 2 (.loop q2)))
q3))
def xR:ACode:=z0d wN yX
def cV (C:Hd)(gl:GL)(q2 q3:ACode)(v0 v1 v5 v6 v7 v8:AV)(h:bA)(x:Esc)(K:KT):Prop:=
 pK (eA .eql v8 v5) fun t1=>
 gM t1 true v0 h fun t2 h3 y4=>
 gM t1 true v7 h3 fun t5 h6 y7=>
 gP t1 true (jG t2 none (some t5)) h6 fun t8 h9 y10=>
 gM t1 true v1 h9 fun t11 h12 y13=>
 gP t1 true (eA .eql t8 t11) h12 fun t14 h15 y16=>
 pK (LA t1 t14 (AB false)) fun t17=>
 nA t17 (K .ret ⟨[(4,(AI 0))],h15,(y16++(y13++(y10++(y7++(y4++x)))))⟩)
 (NW C gl (.loop q2) ⟨[(0,v0),(1,v1),(5,v5),(6,v6),(7,v7),(8,v8),(10,v7)],h15,(y16++(y13++(y10++(y7++(y4++x)))))⟩ (wA 2 (OA C gl q3 K)))
theorem z9H {C gl q2 q3 e h x K}:NW C gl (z0d q2 q3) ⟨e,h,x⟩ K=cV C gl q2 q3 (aA e 0) (aA e 1) (aA e 5) (aA e 6) (aA e 7) (aA e 8) h x K:=by kernel_rfl
theorem zih {C gl e h x K}:NW C gl xR ⟨e,h,x⟩ K=cV C gl wN yX (aA e 0) (aA e 1) (aA e 5) (aA e 6) (aA e 7) (aA e 8) h x K:=z9H
def z0c (q1 q4:ACode):ACode:=(.seq (rg [mV 4 (cI 0)] [0,1])
(.seq (rg [mV 12 1,
cL 13 KM [12],
mV 11 13,
eX 14 11 0,
eX 15 11 1,
mV 5 14,
mV 6 15] [0,1,5,6])
(.seq (rg [mV 16 1,
uO 17 (.lens 16),
mV 7 17] [0,1,5,6,7])
(.seq (rg [mV 8 (.c (.p (.int .u32 0)))] [0,1,5,6,7,8])
(.seq (.seq (rg [mV 9 (cI 0)] [0,1,5,6,7,8,9])
(.block 0 (.loop q1)))
q4)))))
def kT:AFun:=⟨2,[.t 4],z0c TK xR,false,false⟩
def bV (C:Hd)(gl:GL)(q1 q4:ACode)(v0 v1:AV)(h:bA)(x:Esc)(K:KT):Prop:=
 C KM [v1] h fun t1 h2 y3=>
 pK (MB t1 0) fun t4=>
 pK (MB t1 1) fun t5=>
 pK (CD v1) fun t6=>
 NW C gl (.loop q1) ⟨[(0,v0),(1,v1),(5,t4),(6,t5),(7,t6),(8,(.p (.int .u32 0))),(9,(AI 0))],h2,(y3++x)⟩ (wA 0 (OA C gl q4 K))
theorem z9G {C gl q1 q4 v0 v1 h x K}:NW C gl (z0c q1 q4) ⟨enter [v0,v1],h,x⟩ K=bV C gl q1 q4 v0 v1 h x K:=by kernel_rfl
theorem zid {C gl v0 v1 h x K}:NW C gl kT.body ⟨enter [v0,v1],h,x⟩ K=bV C gl TK xR v0 v1 h x K:=z9G
def sL:ACode:=.pr [0,1,7,8] (.seq (rg [bN 9 .lss 8 7] [0,1,7,8,9])
(.seq (.cond 9 .skip
(.exit 0))
(.seq (.block 1 (.seq (rg [mV 10 8,
mV 5 10] [0,1,5,7,8])
(.seq (rg [mV 11 1,
mV 12 0,
mV 13 5,
iA 14 (some 4) 12 13,
lD 15 (some 4) 14,
uO 16 (.callv 11 [15])] [0,1,5,7,8,16])
(.cond 16 (.seq (rg [mV 17 5,
mV 4 17] [4])
.ret)
.skip))))
(rg [bN 18 .add 8 (cI 1),
mV 8 18] [0,1,7,8]))))
def z4e (C:Hd)(gl:GL)(v0 v1 v7 v8:AV)(h:bA)(x:Esc)(K:KT):Prop:=
 pK (eA .lss v8 v7) fun t1=>
 nA t1 (pK (uA (some 4) v0 v8 h) fun t2=>
 pK (kA (some 4) t2 h) fun t3=>
 bF C v1 [t3] h fun t4 h5 y6=>
 nA t4 (K .ret ⟨[(4,v8)],h5,(y6++x)⟩)
 (pK (eA .add v8 (AI 1)) fun t7=>
 K .normal ⟨[(0,v0),(1,v1),(7,v7),(8,t7)],h5,(y6++x)⟩))
 (K (.exit 0) ⟨[(0,v0),(1,v1),(7,v7),(8,v8),(9,t1)],h,x⟩)
theorem zka {C gl e h x K}:NW C gl sL ⟨e,h,x⟩ K=z4e C gl (aA e 0) (aA e 1) (aA e 7) (aA e 8) h x K:=by kernel_rfl
theorem zna {C gl e h x K}:NW C gl (.loop sL) ⟨e,h,x⟩ K=FA C gl sL K [(0,aA e 0),(1,aA e 1),(7,aA e 7),(8,aA e 8)] h x:=NB
def YR:ACode:=.pr [] (.seq (rg [mV 4 (cI (-1))] [4])
.ret)
def z4f (C:Hd)(gl:GL)(h:bA)(x:Esc)(K:KT):Prop:=
 K .ret ⟨[(4,(AI (-1)))],h,x⟩
theorem zkb {C gl e h x K}:NW C gl YR ⟨e,h,x⟩ K=z4f C gl h x K:=by kernel_rfl
def z0R (q1 q2:ACode):ACode:=(.seq (rg [mV 4 (cI 0)] [0,1])
(.seq (.seq (rg [mV 6 0,
lN 7 6,
mV 8 (cI 0)] [0,1,7,8])
(.block 0 (.loop q1)))
q2))
def aP:AFun:=⟨2,[.t 4],z0R sL YR,true,false⟩
def pQ (C:Hd)(gl:GL)(q1 q2:ACode)(v0 v1:AV)(h:bA)(x:Esc)(K:KT):Prop:=
 pK (yA v0) fun t1=>
 NW C gl (.loop q1) ⟨[(0,v0),(1,v1),(7,t1),(8,(AI 0))],h,x⟩ (wA 0 (OA C gl q2 K))
theorem za5 {C gl q1 q2 v0 v1 h x K}:NW C gl (z0R q1 q2) ⟨enter [v0,v1],h,x⟩ K=pQ C gl q1 q2 v0 v1 h x K:=by kernel_rfl
theorem zjZ {C gl v0 v1 h x K}:NW C gl aP.body ⟨enter [v0,v1],h,x⟩ K=pQ C gl sL YR v0 v1 h x K:=za5
def HN:ACode:=.pr [0,1,2,3,8,9] (.seq (.seq (dr [dF (mV 18 9) [9],
dF (mV 19 1) [1],
dF (bN 20 .gtr 18 19) [18,19],
dF (mV 21 20) [20],
dF (gD 22 21 true (.mv 3)) [3,21],
dF (gD 23 21 true (.mv 0)) [0,21],
dF (gD 24 21 true (.mv 9)) [9,21],
dF (gD 25 21 true (.iaddr (some 3) 23 24)) [23,24,21],
dF (gD 26 21 true (.load (some 3) 25)) [25,21],
dF (gD 27 21 true (.mv 0)) [0,21],
dF (gD 28 21 true (.mv 9)) [9,21],
dF (gD 29 21 true (.bin .sub 28 (cI 1))) [28,21],
dF (gD 30 21 true (.iaddr (some 3) 27 29)) [27,29,21],
dF (gD 31 21 true (.load (some 3) 30)) [30,21],
dT (gD 32 21 true (.callv 22 [26,31])) [22,26,31,21],
dF (gD 33 21 true (.bin .lss 32 (cI 0))) [32,21],
dF (uO 34 (.pick 21 33 cF)) [21,33]] [0,1,2,3,8,9,34])
(.cond 34 .skip
(.exit 2)))
(.seq (.block 3 (dr [dF (mV 37 0) [0],
dF (mV 38 9) [9],
dF (mV 39 0) [0],
dF (mV 40 9) [9],
dF (bN 41 .sub 40 (cI 1)) [40],
dF (mV 42 0) [0],
dF (mV 43 9) [9],
dF (bN 44 .sub 43 (cI 1)) [43],
dF (iA 45 (some 3) 42 44) [42,44],
dF (lD 46 (some 3) 45) [45],
dF (mV 47 0) [0],
dF (mV 48 9) [9],
dF (iA 49 (some 3) 47 48) [47,48],
dF (lD 50 (some 3) 49) [49],
dF (iA 51 (some 3) 37 38) [37,38],
dT (wO (.store (some 3) 51 46)) [51,46],
dF (iA 52 (some 3) 39 41) [39,41],
dT (wO (.store (some 3) 52 50)) [52,50]] [0,1,2,3,8,9]))
(rg [mV 35 9,
bN 36 .sub 35 (cI 1),
mV 9 36] [0,1,2,3,8,9])))
def z4q (C:Hd)(gl:GL)(v0 v1 v2 v3 v8 v9:AV)(h:bA)(x:Esc)(K:KT):Prop:=
 pK (eA .gtr v9 v1) fun t1=>
 gM t1 true v3 h fun t2 h3 y4=>
 gM t1 true v0 h3 fun t5 h6 y7=>
 gM t1 true v9 h6 fun t8 h9 y10=>
 gP t1 true (uA (some 3) t5 t8 h9) h9 fun t11 h12 y13=>
 gP t1 true (kA (some 3) t11 h12) h12 fun t14 h15 y16=>
 gM t1 true v0 h15 fun t17 h18 y19=>
 gM t1 true v9 h18 fun t20 h21 y22=>
 gP t1 true (eA .sub t20 (AI 1)) h21 fun t23 h24 y25=>
 gP t1 true (uA (some 3) t17 t23 h24) h24 fun t26 h27 y28=>
 gP t1 true (kA (some 3) t26 h27) h27 fun t29 h30 y31=>
 gV t1 true h30 (mJ C t2 [t14,t29] h30) fun t32 h33 y34=>
 gP t1 true (eA .lss t32 (AI 0)) h33 fun t35 h36 y37=>
 pK (LA t1 t35 (AB false)) fun t38=>
 nA t38 (pK (eA .sub v9 (AI 1)) fun t39=>
 pK (eA .sub v9 (AI 1)) fun t40=>
 pK (uA (some 3) v0 t40 h36) fun t41=>
 pK (kA (some 3) t41 h36) fun t42=>
 pK (uA (some 3) v0 v9 h36) fun t43=>
 pK (kA (some 3) t43 h36) fun t44=>
 pK (uA (some 3) v0 v9 h36) fun t45=>
 wK (RA (some 3) t45 t42 h36) fun t46 h47 y48=>
 pK (uA (some 3) v0 t39 h47) fun t49=>
 wK (RA (some 3) t49 t44 h47) fun t50 h51 y52=>
 pK (eA .sub v9 (AI 1)) fun t53=>
 K .normal ⟨[(0,v0),(1,v1),(2,v2),(3,v3),(8,v8),(9,t53)],h51,(y52++(y48++(y37++(y34++(y31++(y28++(y25++(y22++(y19++(y16++(y13++(y10++(y7++(y4++x))))))))))))))⟩)
 (K (.exit 2) ⟨[(0,v0),(1,v1),(2,v2),(3,v3),(8,v8),(9,v9),(34,t38)],h36,(y37++(y34++(y31++(y28++(y25++(y22++(y19++(y16++(y13++(y10++(y7++(y4++x))))))))))))⟩)
theorem zku {C gl e h x K}:NW C gl HN ⟨e,h,x⟩ K=z4q C gl (aA e 0) (aA e 1) (aA e 2) (aA e 3) (aA e 8) (aA e 9) h x K:=by kernel_rfl
theorem zng {C gl e h x K}:NW C gl (.loop HN) ⟨e,h,x⟩ K=FA C gl HN K [(0,aA e 0),(1,aA e 1),(2,aA e 2),(3,aA e 3),(8,aA e 8),(9,aA e 9)] h x:=NB
def dY:ACode:=.pr [0,1,2,3,8] (rg [mV 15 8,
bN 16 .add 15 (cI 1),
mV 8 16] [0,1,2,3,8])
def z4r (C:Hd)(gl:GL)(v0 v1 v2 v3 v8:AV)(h:bA)(x:Esc)(K:KT):Prop:=
 pK (eA .add v8 (AI 1)) fun t1=>
 K .normal ⟨[(0,v0),(1,v1),(2,v2),(3,v3),(8,t1)],h,x⟩
theorem zkv {C gl e h x K}:NW C gl dY ⟨e,h,x⟩ K=z4r C gl (aA e 0) (aA e 1) (aA e 2) (aA e 3) (aA e 8) h x K:=by kernel_rfl
def z0Y (q1 q2:ACode):ACode:=.pr [0,1,2,3,8] (.seq (.seq (rg [mV 12 8,
mV 13 2,
bN 14 .lss 12 13] [0,1,2,3,8,14])
(.cond 14 .skip
(.exit 0)))
(.seq (.block 1 (.seq (rg [mV 17 8,
mV 9 17] [0,1,2,3,8,9])
(.block 2 (.loop q1))))
q2))
def yL:ACode:=z0Y HN dY
def OV (C:Hd)(gl:GL)(q1 q2:ACode)(v0 v1 v2 v3 v8:AV)(h:bA)(x:Esc)(K:KT):Prop:=
 pK (eA .lss v8 v2) fun t1=>
 nA t1 (NW C gl (.loop q1) ⟨[(0,v0),(1,v1),(2,v2),(3,v3),(8,v8),(9,v8)],h,x⟩ (wA 2 (wA 1 (OA C gl q2 K))))
 (K (.exit 0) ⟨[(0,v0),(1,v1),(2,v2),(3,v3),(8,v8),(14,t1)],h,x⟩)
theorem zaC {C gl q1 q2 e h x K}:NW C gl (z0Y q1 q2) ⟨e,h,x⟩ K=OV C gl q1 q2 (aA e 0) (aA e 1) (aA e 2) (aA e 3) (aA e 8) h x K:=by kernel_rfl
theorem zkw {C gl e h x K}:NW C gl yL ⟨e,h,x⟩ K=OV C gl HN dY (aA e 0) (aA e 1) (aA e 2) (aA e 3) (aA e 8) h x K:=zaC
theorem znh {C gl e h x K}:NW C gl (.loop yL) ⟨e,h,x⟩ K=FA C gl yL K [(0,aA e 0),(1,aA e 1),(2,aA e 2),(3,aA e 3),(8,aA e 8)] h x:=NB
def z0X (q3:ACode):ACode:=(.seq (rg [mV 10 1,
bN 11 .add 10 (cI 1),
mV 8 11] [0,1,2,3,8])
(.block 0 (.loop q3)))
def jU:AFun:=⟨4,[],z0X yL,true,false⟩
def vQ (C:Hd)(gl:GL)(q3:ACode)(v0 v1 v2 v3:AV)(h:bA)(x:Esc)(K:KT):Prop:=
 pK (eA .add v1 (AI 1)) fun t1=>
 NW C gl (.loop q3) ⟨[(0,v0),(1,v1),(2,v2),(3,v3),(8,t1)],h,x⟩ (wA 0 K)
theorem zaB {C gl q3 v0 v1 v2 v3 h x K}:NW C gl (z0X q3) ⟨enter [v0,v1,v2,v3],h,x⟩ K=vQ C gl q3 v0 v1 v2 v3 h x K:=by kernel_rfl
theorem zkt {C gl v0 v1 v2 v3 h x K}:NW C gl jU.body ⟨enter [v0,v1,v2,v3],h,x⟩ K=vQ C gl yL v0 v1 v2 v3 h x K:=zaB
def EX:ACode:=.pr [0,2] (.seq (rg [mV 19 2,
mV 20 0,
uO 21 (.conv (.i .u8) 20),
uO 22 (.idxs (cS [0,1,2,2,3,3,3,3,4,4,4,4,4,4,4,4,5,5,5,5,5,5,5,5,5,5,5,5,5,5,5,5,6,6,6,6,6,6,6,6,6,6,6,6,6,6,6,6,6,6,6,6,6,6,6,6,6,6,6,6,6,6,6,6,7,7,7,7,7,7,7,7,7,7,7,7,7,7,7,7,7,7,7,7,7,7,7,7,7,7,7,7,7,7,7,7,7,7,7,7,7,7,7,7,7,7,7,7,7,7,7,7,7,7,7,7,7,7,7,7,7,7,7,7,7,7,7,7,8,8,8,8,8,8,8,8,8,8,8,8,8,8,8,8,8,8,8,8,8,8,8,8,8,8,8,8,8,8,8,8,8,8,8,8,8,8,8,8,8,8,8,8,8,8,8,8,8,8,8,8,8,8,8,8,8,8,8,8,8,8,8,8,8,8,8,8,8,8,8,8,8,8,8,8,8,8,8,8,8,8,8,8,8,8,8,8,8,8,8,8,8,8,8,8,8,8,8,8,8,8,8,8,8,8,8,8,8,8,8,8,8,8,8,8,8,8,8,8,8,8,8,8,8,8,8,8]) 21),
uO 23 (.conv (.i .i64) 22),
bN 24 .add 19 23,
mV 2 24] [2])
.ret)
def z3t (C:Hd)(gl:GL)(v0 v2:AV)(h:bA)(x:Esc)(K:KT):Prop:=
 pK (XC .u8 v0) fun t1=>
 pK (BC (.p (.str [0,1,2,2,3,3,3,3,4,4,4,4,4,4,4,4,5,5,5,5,5,5,5,5,5,5,5,5,5,5,5,5,6,6,6,6,6,6,6,6,6,6,6,6,6,6,6,6,6,6,6,6,6,6,6,6,6,6,6,6,6,6,6,6,7,7,7,7,7,7,7,7,7,7,7,7,7,7,7,7,7,7,7,7,7,7,7,7,7,7,7,7,7,7,7,7,7,7,7,7,7,7,7,7,7,7,7,7,7,7,7,7,7,7,7,7,7,7,7,7,7,7,7,7,7,7,7,7,8,8,8,8,8,8,8,8,8,8,8,8,8,8,8,8,8,8,8,8,8,8,8,8,8,8,8,8,8,8,8,8,8,8,8,8,8,8,8,8,8,8,8,8,8,8,8,8,8,8,8,8,8,8,8,8,8,8,8,8,8,8,8,8,8,8,8,8,8,8,8,8,8,8,8,8,8,8,8,8,8,8,8,8,8,8,8,8,8,8,8,8,8,8,8,8,8,8,8,8,8,8,8,8,8,8,8,8,8,8,8,8,8,8,8,8,8,8,8,8,8,8,8,8,8,8,8,8])) t1) fun t2=>
 pK (XC .i64 t2) fun t3=>
 pK (eA .add v2 t3) fun t4=>
 K .ret ⟨[(2,t4)],h,x⟩
theorem zix {C gl e h x K}:NW C gl EX ⟨e,h,x⟩ K=z3t C gl (aA e 0) (aA e 2) h x K:=by kernel_rfl
def z0k (q1:ACode):ACode:=.pr [0,2] (.seq (.seq (rg [mV 13 0,
bN 14 .geq 13 (.c (.p (.int .u64 256)))] [0,2,14])
(.cond 14 (.seq (rg [mV 15 0,
bN 16 .shr 15 (.c (.p (.int .u64 8))),
mV 0 16] [0,2])
(rg [mV 17 2,
bN 18 .add 17 (cI 8),
mV 2 18] [0,2]))
.skip))
q1)
def FX:ACode:=z0k EX
def kV (C:Hd)(gl:GL)(q1:ACode)(v0 v2:AV)(h:bA)(x:Esc)(K:KT):Prop:=
 pK (eA .geq v0 (.p (.int .u64 256))) fun t1=>
 nA t1 (pK (eA .shr v0 (.p (.int .u64 8))) fun t2=>
 pK (eA .add v2 (AI 8)) fun t3=>
 NW C gl q1 ⟨[(0,t2),(2,t3)],h,x⟩ K)
 (NW C gl q1 ⟨[(0,v0),(2,v2),(14,t1)],h,x⟩ K)
theorem z9O {C gl q1 e h x K}:NW C gl (z0k q1) ⟨e,h,x⟩ K=kV C gl q1 (aA e 0) (aA e 2) h x K:=by kernel_rfl
theorem ziy {C gl e h x K}:NW C gl FX ⟨e,h,x⟩ K=kV C gl EX (aA e 0) (aA e 2) h x K:=z9O
def z0l (q2:ACode):ACode:=.pr [0,2] (.seq (.seq (rg [mV 7 0,
bN 8 .geq 7 (.c (.p (.int .u64 65536)))] [0,2,8])
(.cond 8 (.seq (rg [mV 9 0,
bN 10 .shr 9 (.c (.p (.int .u64 16))),
mV 0 10] [0,2])
(rg [mV 11 2,
bN 12 .add 11 (cI 16),
mV 2 12] [0,2]))
.skip))
q2)
def AR:ACode:=z0l FX
def lV (C:Hd)(gl:GL)(q2:ACode)(v0 v2:AV)(h:bA)(x:Esc)(K:KT):Prop:=
 pK (eA .geq v0 (.p (.int .u64 65536))) fun t1=>
 nA t1 (pK (eA .shr v0 (.p (.int .u64 16))) fun t2=>
 pK (eA .add v2 (AI 16)) fun t3=>
 NW C gl q2 ⟨[(0,t2),(2,t3)],h,x⟩ K)
 (NW C gl q2 ⟨[(0,v0),(2,v2),(8,t1)],h,x⟩ K)
theorem z9P {C gl q2 e h x K}:NW C gl (z0l q2) ⟨e,h,x⟩ K=lV C gl q2 (aA e 0) (aA e 2) h x K:=by kernel_rfl
theorem ziz {C gl e h x K}:NW C gl AR ⟨e,h,x⟩ K=lV C gl FX (aA e 0) (aA e 2) h x K:=z9P
def z0j (q3:ACode):ACode:=(.seq (rg [mV 2 (cI 0)] [0,2])
(.seq (.seq (rg [mV 3 0,
bN 4 .geq 3 (.c (.p (.int .u64 4294967296)))] [0,2,4])
(.cond 4 (.seq (rg [mV 5 0,
bN 6 .shr 5 (.c (.p (.int .u64 32))),
mV 0 6] [0])
(rg [mV 2 (cI 32)] [0,2]))
.skip))
q3))
def pT:AFun:=⟨1,[.t 2],z0j AR,false,false⟩
def QP (C:Hd)(gl:GL)(q3:ACode)(v0:AV)(h:bA)(x:Esc)(K:KT):Prop:=
 pK (eA .geq v0 (.p (.int .u64 4294967296))) fun t1=>
 nA t1 (pK (eA .shr v0 (.p (.int .u64 32))) fun t2=>
 NW C gl q3 ⟨[(0,t2),(2,(AI 32))],h,x⟩ K)
 (NW C gl q3 ⟨[(0,v0),(2,(AI 0)),(4,t1)],h,x⟩ K)
theorem z9N {C gl q3 v0 h x K}:NW C gl (z0j q3) ⟨enter [v0],h,x⟩ K=QP C gl q3 v0 h x K:=by kernel_rfl
theorem ziw {C gl v0 h x K}:NW C gl pT.body ⟨enter [v0],h,x⟩ K=QP C gl AR v0 h x K:=z9N
def zbs:ACode:=(.seq (rg [mV 2 cF] [0])
(.seq (rg [mV 3 0,
mV 4 0,
bN 5 .neq 3 4,
mV 2 5] [2])
.ret))
def iT:AFun:=⟨1,[.t 2],zbs,false,false⟩
def ZU (C:Hd)(gl:GL)(v0:AV)(h:bA)(x:Esc)(K:KT):Prop:=
 pK (eA .neq v0 v0) fun t1=>
 K .ret ⟨[(2,t1)],h,x⟩
theorem zia {C gl v0 h x K}:NW C gl iT.body ⟨enter [v0],h,x⟩ K=ZU C gl v0 h x K:=by kernel_rfl
def jY:ACode:=.pr [0,1,2,3,8,9,10,11] (.seq (.seq (dr [dF (mV 73 1) [1],
dF (bN 74 .gtr 73 (cI 0)) [73],
dF (mV 75 74) [74],
dF (gD 76 75 true (.mv 0)) [0,75],
dF (gD 77 75 true (.mv 1)) [1,75],
dF (gD 78 75 true (.bin .sub 77 (cI 1))) [77,75],
dF (gD 79 75 true (.iaddr none 76 78)) [76,78,75],
dF (gD 80 75 true (.load none 79)) [79,75],
dF (gD 81 75 true (.mv 0)) [0,75],
dF (gD 82 75 true (.mv 11)) [11,75],
dF (gD 83 75 true (.iaddr none 81 82)) [81,82,75],
dF (gD 84 75 true (.load none 83)) [83,75],
dT (gD 85 75 true (.call kF [80,84])) [80,84,75],
dF (gD 86 75 true (.un .not 85)) [85,75],
dF (uO 87 (.pick 75 86 cF)) [75,86]] [0,1,2,3,8,9,10,11,87])
(.cond 87 (.seq (rg [mV 88 0,
mV 89 1,
mV 90 2,
mV 91 11,
cL 92 z5y [88,89,90,91],
mV 13 92] [0,2,3,8,9,13])
(.seq (rg [mV 93 13,
mV 1 93] [0,1,2,3,8,9])
(.exit 1)))
.skip))
(.seq (rg [mV 95 0,
mV 96 1,
mV 97 2,
mV 98 11,
cL 99 z5z [95,96,97,98],
mV 94 99,
eX 100 94 0,
eX 101 94 1,
mV 14 100,
mV 15 101] [0,1,2,3,10,14,15])
(.seq (rg [mV 102 15,
mV 9 102] [0,1,2,3,9,10,14])
(.seq (rg [mV 103 14,
mV 104 1,
bN 105 .sub 103 104,
mV 106 2,
mV 107 14,
bN 108 .sub 106 107,
mV 16 105,
mV 17 108] [0,1,2,3,9,10,14,16,17])
(.seq (rg [mV 109 10,
bN 110 .quo 109 (cI 8),
mV 18 110] [0,1,2,3,9,14,16,17,18])
(.seq (rg [mV 111 16,
mV 112 17,
bN 113 .lss 111 112] [0,1,2,3,9,14,16,17,18,113])
(.cond 113 (.seq (rg [mV 114 16,
mV 115 18,
bN 116 .geq 114 115,
mV 8 116] [0,1,2,3,8,9,14])
(.seq (rg [mV 117 0,
mV 118 1,
mV 119 14,
mV 120 3,
cL 121 cG [117,118,119,120]] [0,2,3,8,9,14])
(rg [mV 122 14,
bN 123 .add 122 (cI 1),
mV 1 123] [0,1,2,3,8,9])))
(.seq (rg [mV 124 17,
mV 125 18,
bN 126 .geq 124 125,
mV 8 126] [0,1,2,3,8,9,14])
(.seq (rg [mV 127 0,
mV 128 14,
bN 129 .add 128 (cI 1),
mV 130 2,
mV 131 3,
cL 132 cG [127,129,130,131]] [0,1,3,8,9,14])
(rg [mV 133 14,
mV 2 133] [0,1,2,3,8,9]))))))))))
def z4v (C:Hd)(gl:GL)(v0 v1 v2 v3 v8 v9 v10 v11:AV)(h:bA)(x:Esc)(K:KT):Prop:=
 pK (eA .gtr v1 (AI 0)) fun t1=>
 gM t1 true v0 h fun t2 h3 y4=>
 gM t1 true v1 h3 fun t5 h6 y7=>
 gP t1 true (eA .sub t5 (AI 1)) h6 fun t8 h9 y10=>
 gP t1 true (uA none t2 t8 h9) h9 fun t11 h12 y13=>
 gP t1 true (kA none t11 h12) h12 fun t14 h15 y16=>
 gM t1 true v0 h15 fun t17 h18 y19=>
 gM t1 true v11 h18 fun t20 h21 y22=>
 gP t1 true (uA none t17 t20 h21) h21 fun t23 h24 y25=>
 gP t1 true (kA none t23 h24) h24 fun t26 h27 y28=>
 gV t1 true h27 (GB C kF [t14,t26] h27) fun t29 h30 y31=>
 gP t1 true (oUn .not t29) h30 fun t32 h33 y34=>
 pK (LA t1 t32 (AB false)) fun t35=>
 nA t35 (C z5y [v0,v1,v2,v11] h33 fun t36 h37 y38=>
 K (.exit 1) ⟨[(0,v0),(1,t36),(2,v2),(3,v3),(8,v8),(9,v9)],h37,(y38++(y34++(y31++(y28++(y25++(y22++(y19++(y16++(y13++(y10++(y7++(y4++x))))))))))))⟩)
 (C z5z [v0,v1,v2,v11] h33 fun t39 h40 y41=>
 pK (MB t39 0) fun t42=>
 pK (MB t39 1) fun t43=>
 pK (eA .sub t42 v1) fun t44=>
 pK (eA .sub v2 t42) fun t45=>
 pK (eA .quo v10 (AI 8)) fun t46=>
 pK (eA .lss t44 t45) fun t47=>
 nA t47 (pK (eA .geq t44 t46) fun t48=>
 C cG [v0,v1,t42,v3] h40 fun t49 h50 y51=>
 pK (eA .add t42 (AI 1)) fun t52=>
 K .normal ⟨[(0,v0),(1,t52),(2,v2),(3,v3),(8,t48),(9,t43)],h50,(y51++(y41++(y34++(y31++(y28++(y25++(y22++(y19++(y16++(y13++(y10++(y7++(y4++x)))))))))))))⟩)
 (pK (eA .geq t45 t46) fun t53=>
 pK (eA .add t42 (AI 1)) fun t54=>
 C cG [v0,t54,v2,v3] h40 fun t55 h56 y57=>
 K .normal ⟨[(0,v0),(1,v1),(2,t42),(3,v3),(8,t53),(9,t43)],h56,(y57++(y41++(y34++(y31++(y28++(y25++(y22++(y19++(y16++(y13++(y10++(y7++(y4++x)))))))))))))⟩))
theorem zk7 {C gl e h x K}:NW C gl jY ⟨e,h,x⟩ K=z4v C gl (aA e 0) (aA e 1) (aA e 2) (aA e 3) (aA e 8) (aA e 9) (aA e 10) (aA e 11) h x K:=by kernel_rfl
def z1g (q1:ACode):ACode:=.pr [0,1,2,3,8,9,10,11,12] (.seq (.seq (rg [mV 61 8,
mV 62 61,
gD 63 62 true (.mv 9),
uO 64 (.pick 62 63 cF),
mV 65 64,
gD 66 65 true (.mv 12),
gD 67 65 true (.bin .eql 66 (cI 1)),
uO 68 (.pick 65 67 cF)] [0,1,2,3,8,9,10,11,68])
(.cond 68 (.seq (rg [mV 69 0,
mV 70 1,
mV 71 2,
cL 72 z5v [69,70,71]] [0,1,2,3,8,9,10,11,72])
(.cond 72 .ret
.skip))
.skip))
q1)
def kY:ACode:=z1g jY
def UV (C:Hd)(gl:GL)(q1:ACode)(v0 v1 v2 v3 v8 v9 v10 v11 v12:AV)(h:bA)(x:Esc)(K:KT):Prop:=
 gM v8 true v9 h fun t1 h2 y3=>
 pK (LA v8 t1 (AB false)) fun t4=>
 gM t4 true v12 h2 fun t5 h6 y7=>
 gP t4 true (eA .eql t5 (AI 1)) h6 fun t8 h9 y10=>
 pK (LA t4 t8 (AB false)) fun t11=>
 nA t11 (C z5v [v0,v1,v2] h9 fun t12 h13 y14=>
 nA t12 (K .ret ⟨[(0,v0),(1,v1),(2,v2),(3,v3),(8,v8),(9,v9),(10,v10),(11,v11),(72,t12)],h13,(y14++(y10++(y7++(y3++x))))⟩)
 (NW C gl q1 ⟨[(0,v0),(1,v1),(2,v2),(3,v3),(8,v8),(9,v9),(10,v10),(11,v11),(72,t12)],h13,(y14++(y10++(y7++(y3++x))))⟩ K))
 (NW C gl q1 ⟨[(0,v0),(1,v1),(2,v2),(3,v3),(8,v8),(9,v9),(10,v10),(11,v11),(68,t11)],h9,(y10++(y7++(y3++x)))⟩ K)
theorem zaK {C gl q1 e h x K}:NW C gl (z1g q1) ⟨e,h,x⟩ K=UV C gl q1 (aA e 0) (aA e 1) (aA e 2) (aA e 3) (aA e 8) (aA e 9) (aA e 10) (aA e 11) (aA e 12) h x K:=by kernel_rfl
theorem zk8 {C gl e h x K}:NW C gl kY ⟨e,h,x⟩ K=UV C gl jY (aA e 0) (aA e 1) (aA e 2) (aA e 3) (aA e 8) (aA e 9) (aA e 10) (aA e 11) (aA e 12) h x K:=zaK
def z1h (q2:ACode):ACode:=.pr [0,1,2,3,8,9,10] (.seq (rg [mV 43 0,
mV 44 1,
mV 45 2,
cL 46 z5r [43,44,45],
mV 42 46,
eX 47 42 0,
eX 48 42 1,
mV 11 47,
mV 12 48] [0,1,2,3,8,9,10,11,12])
(.seq (.seq (rg [mV 49 12,
bN 50 .eql 49 (cI 2)] [0,1,2,3,8,9,10,11,12,50])
(.cond 50 (.seq (rg [mV 51 0,
mV 52 1,
mV 53 2,
cL 54 z51 [51,52,53]] [0,1,2,3,8,9,10,11])
(.seq (rg [mV 55 2,
bN 56 .sub 55 (cI 1),
mV 57 11,
mV 58 1,
bN 59 .sub 57 58,
bN 60 .sub 56 59,
mV 11 60] [0,1,2,3,8,9,10,11])
(rg [mV 12 (cI 1)] [0,1,2,3,8,9,10,11,12])))
.skip))
q2))
def lY:ACode:=z1h kY
def VV (C:Hd)(gl:GL)(q2:ACode)(v0 v1 v2 v3 v8 v9 v10:AV)(h:bA)(x:Esc)(K:KT):Prop:=
 C z5r [v0,v1,v2] h fun t1 h2 y3=>
 pK (MB t1 0) fun t4=>
 pK (MB t1 1) fun t5=>
 pK (eA .eql t5 (AI 2)) fun t6=>
 nA t6 (C z51 [v0,v1,v2] h2 fun t7 h8 y9=>
 pK (eA .sub v2 (AI 1)) fun t10=>
 pK (eA .sub t4 v1) fun t11=>
 pK (eA .sub t10 t11) fun t12=>
 NW C gl q2 ⟨[(0,v0),(1,v1),(2,v2),(3,v3),(8,v8),(9,v9),(10,v10),(11,t12),(12,(AI 1))],h8,(y9++(y3++x))⟩ K)
 (NW C gl q2 ⟨[(0,v0),(1,v1),(2,v2),(3,v3),(8,v8),(9,v9),(10,v10),(11,t4),(12,t5),(50,t6)],h2,(y3++x)⟩ K)
theorem zaL {C gl q2 e h x K}:NW C gl (z1h q2) ⟨e,h,x⟩ K=VV C gl q2 (aA e 0) (aA e 1) (aA e 2) (aA e 3) (aA e 8) (aA e 9) (aA e 10) h x K:=by kernel_rfl
theorem zk9 {C gl e h x K}:NW C gl lY ⟨e,h,x⟩ K=VV C gl kY (aA e 0) (aA e 1) (aA e 2) (aA e 3) (aA e 8) (aA e 9) (aA e 10) h x K:=zaL
def z1i (q3:ACode):ACode:=.pr [0,1,2,3,8,9] (.block 1 (.seq (rg [mV 19 2,
mV 20 1,
bN 21 .sub 19 20,
mV 10 21] [0,1,2,3,8,9,10])
(.seq (.seq (rg [mV 22 10,
bN 23 .leq 22 (cI 12)] [0,1,2,3,8,9,10,23])
(.cond 23 (.seq (rg [mV 24 0,
mV 25 1,
mV 26 2,
cL 27 mK [24,25,26]] [])
.ret)
.skip))
(.seq (.seq (rg [mV 28 3,
bN 29 .eql 28 (cI 0)] [0,1,2,3,8,9,10,29])
(.cond 29 (.seq (rg [mV 30 0,
mV 31 1,
mV 32 2,
cL 33 z5t [30,31,32]] [])
.ret)
.skip))
(.seq (.seq (rg [mV 34 8,
uO 35 (.un .not 34)] [0,1,2,3,8,9,10,35])
(.cond 35 (.seq (rg [mV 36 0,
mV 37 1,
mV 38 2,
cL 39 z5p [36,37,38]] [0,1,2,3,8,9,10])
(rg [mV 40 3,
bN 41 .sub 40 (cI 1),
mV 3 41] [0,1,2,3,8,9,10]))
.skip))
q3)))))
def CL:ACode:=z1i lY
def WV (C:Hd)(gl:GL)(q3:ACode)(v0 v1 v2 v3 v8 v9:AV)(h:bA)(x:Esc)(K:KT):Prop:=
 pK (eA .sub v2 v1) fun t1=>
 pK (eA .leq t1 (AI 12)) fun t2=>
 nA t2 (C mK [v0,v1,v2] h fun t3 h4 y5=>
 K .ret ⟨[],h4,(y5++x)⟩)
 (pK (eA .eql v3 (AI 0)) fun t6=>
 nA t6 (C z5t [v0,v1,v2] h fun t7 h8 y9=>
 K .ret ⟨[],h8,(y9++x)⟩)
 (pK (oUn .not v8) fun t10=>
 nA t10 (C z5p [v0,v1,v2] h fun t11 h12 y13=>
 pK (eA .sub v3 (AI 1)) fun t14=>
 NW C gl q3 ⟨[(0,v0),(1,v1),(2,v2),(3,t14),(8,v8),(9,v9),(10,t1)],h12,(y13++x)⟩ (wA 1 K))
 (NW C gl q3 ⟨[(0,v0),(1,v1),(2,v2),(3,v3),(8,v8),(9,v9),(10,t1),(35,t10)],h,x⟩ (wA 1 K))))
theorem zaM {C gl q3 e h x K}:NW C gl (z1i q3) ⟨e,h,x⟩ K=WV C gl q3 (aA e 0) (aA e 1) (aA e 2) (aA e 3) (aA e 8) (aA e 9) h x K:=by kernel_rfl
theorem zkA {C gl e h x K}:NW C gl CL ⟨e,h,x⟩ K=WV C gl lY (aA e 0) (aA e 1) (aA e 2) (aA e 3) (aA e 8) (aA e 9) h x K:=zaM
theorem znl {C gl e h x K}:NW C gl (.loop CL) ⟨e,h,x⟩ K=FA C gl CL K [(0,aA e 0),(1,aA e 1),(2,aA e 2),(3,aA e 3),(8,aA e 8),(9,aA e 9)] h x:=NB
def z1f (q4:ACode):ACode:=(.seq (rg [mV 8 cT] [0,1,2,3,8])
(.seq (rg [mV 9 cT] [0,1,2,3,8,9])
(.block 0 (.loop q4))))
def mU:AFun:=⟨4,[],z1f CL,true,false⟩
def yQ (C:Hd)(gl:GL)(q4:ACode)(v0 v1 v2 v3:AV)(h:bA)(x:Esc)(K:KT):Prop:=
 NW C gl (.loop q4) ⟨[(0,v0),(1,v1),(2,v2),(3,v3),(8,(AB true)),(9,(AB true))],h,x⟩ (wA 0 K)
theorem zaJ {C gl q4 v0 v1 v2 v3 h x K}:NW C gl (z1f q4) ⟨enter [v0,v1,v2,v3],h,x⟩ K=yQ C gl q4 v0 v1 v2 v3 h x K:=by kernel_rfl
theorem zk6 {C gl v0 v1 v2 v3 h x K}:NW C gl mU.body ⟨enter [v0,v1,v2,v3],h,x⟩ K=yQ C gl CL v0 v1 v2 v3 h x K:=zaJ
def tL:ACode:=.pr [0,1,7,8] (.seq (rg [bN 9 .lss 8 7] [0,1,7,8,9])
(.seq (.cond 9 .skip
(.exit 0))
(.seq (.block 1 (.seq (rg [mV 10 8,
mV 5 10] [0,1,5,7,8])
(.seq (rg [mV 11 1,
mV 12 0,
mV 13 5,
iA 14 (some 2) 12 13,
lD 15 (some 2) 14,
uO 16 (.callv 11 [15])] [0,1,5,7,8,16])
(.cond 16 (.seq (rg [mV 17 5,
mV 4 17] [4])
.ret)
.skip))))
(rg [bN 18 .add 8 (cI 1),
mV 8 18] [0,1,7,8]))))
def z4g (C:Hd)(gl:GL)(v0 v1 v7 v8:AV)(h:bA)(x:Esc)(K:KT):Prop:=
 pK (eA .lss v8 v7) fun t1=>
 nA t1 (pK (uA (some 2) v0 v8 h) fun t2=>
 pK (kA (some 2) t2 h) fun t3=>
 bF C v1 [t3] h fun t4 h5 y6=>
 nA t4 (K .ret ⟨[(4,v8)],h5,(y6++x)⟩)
 (pK (eA .add v8 (AI 1)) fun t7=>
 K .normal ⟨[(0,v0),(1,v1),(7,v7),(8,t7)],h5,(y6++x)⟩))
 (K (.exit 0) ⟨[(0,v0),(1,v1),(7,v7),(8,v8),(9,t1)],h,x⟩)
theorem zkd {C gl e h x K}:NW C gl tL ⟨e,h,x⟩ K=z4g C gl (aA e 0) (aA e 1) (aA e 7) (aA e 8) h x K:=by kernel_rfl
theorem znb {C gl e h x K}:NW C gl (.loop tL) ⟨e,h,x⟩ K=FA C gl tL K [(0,aA e 0),(1,aA e 1),(7,aA e 7),(8,aA e 8)] h x:=NB
def ZR:ACode:=.pr [] (.seq (rg [mV 4 (cI (-1))] [4])
.ret)
def z4h (C:Hd)(gl:GL)(h:bA)(x:Esc)(K:KT):Prop:=
 K .ret ⟨[(4,(AI (-1)))],h,x⟩
theorem zke {C gl e h x K}:NW C gl ZR ⟨e,h,x⟩ K=z4h C gl h x K:=by kernel_rfl
def z0S (q1 q2:ACode):ACode:=(.seq (rg [mV 4 (cI 0)] [0,1])
(.seq (.seq (rg [mV 6 0,
lN 7 6,
mV 8 (cI 0)] [0,1,7,8])
(.block 0 (.loop q1)))
q2))
def cU:AFun:=⟨2,[.t 4],z0S tL ZR,true,false⟩
def qQ (C:Hd)(gl:GL)(q1 q2:ACode)(v0 v1:AV)(h:bA)(x:Esc)(K:KT):Prop:=
 pK (yA v0) fun t1=>
 NW C gl (.loop q1) ⟨[(0,v0),(1,v1),(7,t1),(8,(AI 0))],h,x⟩ (wA 0 (OA C gl q2 K))
theorem za6 {C gl q1 q2 v0 v1 h x K}:NW C gl (z0S q1 q2) ⟨enter [v0,v1],h,x⟩ K=qQ C gl q1 q2 v0 v1 h x K:=by kernel_rfl
theorem zkc {C gl v0 v1 h x K}:NW C gl cU.body ⟨enter [v0,v1],h,x⟩ K=qQ C gl tL ZR v0 v1 h x K:=za6
def zbX:ACode:=(.seq (rg [uO 2 (.box 0),
mV 3 cF] [1,2])
(.seq (rg [fA 4 0 none 2,
lD 5 none 4,
lD 6 none 1,
bN 7 .eql 5 6,
mV 3 7] [3])
.ret))
def OT:AFun:=⟨2,[.t 3],zbX,false,false⟩
def DV (C:Hd)(gl:GL)(v0 v1:AV)(h:bA)(x:Esc)(K:KT):Prop:=
 wK (qB v0 h) fun t1 h2 y3=>
 pK (oA 0 none t1) fun t4=>
 pK (kA none t4 h2) fun t5=>
 pK (kA none v1 h2) fun t6=>
 pK (eA .eql t5 t6) fun t7=>
 K .ret ⟨[(3,t7)],h2,(y3++x)⟩
theorem zjy {C gl v0 v1 h x K}:NW C gl OT.body ⟨enter [v0,v1],h,x⟩ K=DV C gl v0 v1 h x K:=by kernel_rfl
def zbj:ACode:=(.seq (rg [uO 2 (.box 0),
mV 4 (cI 0)] [1,2])
(.seq (rg [fA 8 0 none 2,
lD 9 none 8,
mV 10 1,
cL 11 tH [9,10,(.f VF)],
mV 7 11,
eX 12 7 0,
eX 13 7 1,
mV 5 12,
mV 6 13] [5,6])
(.seq (.seq (rg [mV 14 6,
uO 15 (.un .not 14)] [5,15])
(.cond 15 (.seq (rg [mV 4 (cI (-1))] [4])
.ret)
.skip))
(.seq (rg [mV 16 5,
mV 4 16] [4])
.ret))))
def JO:AFun:=⟨2,[.t 4],zbj,false,false⟩
def FP (C:Hd)(gl:GL)(v0 v1:AV)(h:bA)(x:Esc)(K:KT):Prop:=
 wK (qB v0 h) fun t1 h2 y3=>
 pK (oA 0 none t1) fun t4=>
 pK (kA none t4 h2) fun t5=>
 C tH [t5,v1,(.fn VF [])] h2 fun t6 h7 y8=>
 pK (MB t6 0) fun t9=>
 pK (MB t6 1) fun t10=>
 pK (oUn .not t10) fun t11=>
 nA t11 (K .ret ⟨[(4,(AI (-1)))],h7,(y8++(y3++x))⟩)
 (K .ret ⟨[(4,t9)],h7,(y8++(y3++x))⟩)
theorem zh7 {C gl v0 v1 h x K}:NW C gl JO.body ⟨enter [v0,v1],h,x⟩ K=FP C gl v0 v1 h x K:=by kernel_rfl
def zbn:ACode:=(.seq (rg [uO 2 (.box 0),
mV 3 cF] [1,2])
(.seq (rg [lD 4 (some 4) 2,
cL 5 BE [4],
mV 6 5,
gD 7 6 true (.faddr 1 none 2),
gD 8 6 true (.load none 7),
gD 9 6 true (.load none 1),
gD 10 6 true (.bin .eql 8 9),
uO 11 (.pick 6 10 cF),
mV 3 11] [3])
.ret))
def RO:AFun:=⟨2,[.t 3],zbn,false,false⟩
def MP (C:Hd)(gl:GL)(v0 v1:AV)(h:bA)(x:Esc)(K:KT):Prop:=
 wK (qB v0 h) fun t1 h2 y3=>
 pK (kA (some 4) t1 h2) fun t4=>
 C BE [t4] h2 fun t5 h6 y7=>
 gP t5 true (oA 1 none t1) h6 fun t8 h9 y10=>
 gP t5 true (kA none t8 h9) h9 fun t11 h12 y13=>
 gP t5 true (kA none v1 h12) h12 fun t14 h15 y16=>
 gP t5 true (eA .eql t11 t14) h15 fun t17 h18 y19=>
 pK (LA t5 t17 (AB false)) fun t20=>
 K .ret ⟨[(3,t20)],h18,(y19++(y16++(y13++(y10++(y7++(y3++x))))))⟩
theorem zhU {C gl v0 v1 h x K}:NW C gl RO.body ⟨enter [v0,v1],h,x⟩ K=MP C gl v0 v1 h x K:=by kernel_rfl
def SK:ACode:=.pr [3,6,7,8] (.seq (rg [bN 9 .lss 8 7] [3,6,7,8,9])
(.seq (.cond 9 .skip
(.exit 0))
(.seq (.block 1 (.seq (rg [iA 10 none 6 8,
lD 11 none 10,
mV 5 11] [3,5,6,7,8])
(.seq (rg [mV 12 5,
mV 13 3,
bN 14 .neq 12 13] [3,5,6,7,8,14])
(.cond 14 (.seq (rg [mV 15 5,
mV 2 15] [2])
.ret)
.skip))))
(rg [bN 16 .add 8 (cI 1),
mV 8 16] [3,6,7,8]))))
def z3h (C:Hd)(gl:GL)(v3 v6 v7 v8:AV)(h:bA)(x:Esc)(K:KT):Prop:=
 pK (eA .lss v8 v7) fun t1=>
 nA t1 (pK (uA none v6 v8 h) fun t2=>
 pK (kA none t2 h) fun t3=>
 pK (eA .neq t3 v3) fun t4=>
 nA t4 (K .ret ⟨[(2,t3)],h,x⟩)
 (pK (eA .add v8 (AI 1)) fun t5=>
 K .normal ⟨[(3,v3),(6,v6),(7,v7),(8,t5)],h,x⟩))
 (K (.exit 0) ⟨[(3,v3),(6,v6),(7,v7),(8,v8),(9,t1)],h,x⟩)
theorem zhY {C gl e h x K}:NW C gl SK ⟨e,h,x⟩ K=z3h C gl (aA e 3) (aA e 6) (aA e 7) (aA e 8) h x K:=by kernel_rfl
theorem zm2 {C gl e h x K}:NW C gl (.loop SK) ⟨e,h,x⟩ K=FA C gl SK K [(3,aA e 3),(6,aA e 6),(7,aA e 7),(8,aA e 8)] h x:=NB
def wR:ACode:=.pr [3] (.seq (rg [mV 17 3,
mV 2 17] [2])
.ret)
def z3i (C:Hd)(gl:GL)(v3:AV)(h:bA)(x:Esc)(K:KT):Prop:=
 K .ret ⟨[(2,v3)],h,x⟩
theorem zhZ {C gl e h x K}:NW C gl wR ⟨e,h,x⟩ K=z3i C gl (aA e 3) h x K:=by kernel_rfl
def z0b (q1 q2:ACode):ACode:=(.seq (rg [mV 2 (cI 0)] [0])
(.seq (rg [mV 3 (cI 0)] [0,3])
(.seq (.seq (rg [mV 6 0,
lN 7 6,
mV 8 (cI 0)] [3,6,7,8])
(.block 0 (.loop q1)))
q2)))
def SO:AFun:=⟨1,[.t 2],z0b SK wR,false,false⟩
def NP (C:Hd)(gl:GL)(q1 q2:ACode)(v0:AV)(h:bA)(x:Esc)(K:KT):Prop:=
 pK (yA v0) fun t1=>
 NW C gl (.loop q1) ⟨[(3,(AI 0)),(6,v0),(7,t1),(8,(AI 0))],h,x⟩ (wA 0 (OA C gl q2 K))
theorem z9F {C gl q1 q2 v0 h x K}:NW C gl (z0b q1 q2) ⟨enter [v0],h,x⟩ K=NP C gl q1 q2 v0 h x K:=by kernel_rfl
theorem zhX {C gl v0 h x K}:NW C gl SO.body ⟨enter [v0],h,x⟩ K=NP C gl SK wR v0 h x K:=z9F
def zc8:ACode:=(.seq (rg [mV 4 (cI 0)] [0,1])
(.seq (rg [mV 5 0,
mV 6 1,
cL 7 pI [5,6],
mV 4 7] [4])
.ret))
def cP:AFun:=⟨2,[.t 4],zc8,false,false⟩
def XV (C:Hd)(gl:GL)(v0 v1:AV)(h:bA)(x:Esc)(K:KT):Prop:=
 C pI [v0,v1] h fun t1 h2 y3=>
 K .ret ⟨[(4,t1)],h2,(y3++x)⟩
theorem zkB {C gl v0 v1 h x K}:NW C gl cP.body ⟨enter [v0,v1],h,x⟩ K=XV C gl v0 v1 h x K:=by kernel_rfl
def UK:ACode:=.pr [0,4,5] (.seq (.seq (rg [mV 9 5,
mV 10 0,
uO 11 (.lens 10),
bN 12 .lss 9 11] [0,4,5,12])
(.cond 12 .skip
(.exit 0)))
(.seq (.block 1 (rg [mV 15 4,
bN 16 .mul 15 (.c (.p (.int .u32 16777619))),
mV 17 0,
mV 18 5,
uO 19 (.idxs 17 18),
uO 20 (.conv (.i .u32) 19),
bN 21 .add 16 20,
mV 4 21] [0,4,5]))
(rg [mV 13 5,
bN 14 .add 13 (cI 1),
mV 5 14] [0,4,5])))
def z3n (C:Hd)(gl:GL)(v0 v4 v5:AV)(h:bA)(x:Esc)(K:KT):Prop:=
 pK (CD v0) fun t1=>
 pK (eA .lss v5 t1) fun t2=>
 nA t2 (pK (eA .mul v4 (.p (.int .u32 16777619))) fun t3=>
 pK (BC v0 v5) fun t4=>
 pK (XC .u32 t4) fun t5=>
 pK (eA .add t3 t5) fun t6=>
 pK (eA .add v5 (AI 1)) fun t7=>
 K .normal ⟨[(0,v0),(4,t6),(5,t7)],h,x⟩)
 (K (.exit 0) ⟨[(0,v0),(4,v4),(5,v5),(12,t2)],h,x⟩)
theorem zij {C gl e h x K}:NW C gl UK ⟨e,h,x⟩ K=z3n C gl (aA e 0) (aA e 4) (aA e 5) h x K:=by kernel_rfl
theorem zm5 {C gl e h x K}:NW C gl (.loop UK) ⟨e,h,x⟩ K=FA C gl UK K [(0,aA e 0),(4,aA e 4),(5,aA e 5)] h x:=NB
def zX:ACode:=.pr [4,6,7,8] (rg [mV 34 7,
mV 35 7,
bN 36 .mul 34 35,
mV 7 36] [4,6,7,8])
def z3o (C:Hd)(gl:GL)(v4 v6 v7 v8:AV)(h:bA)(x:Esc)(K:KT):Prop:=
 pK (eA .mul v7 v7) fun t1=>
 K .normal ⟨[(4,v4),(6,v6),(7,t1),(8,v8)],h,x⟩
theorem zik {C gl e h x K}:NW C gl zX ⟨e,h,x⟩ K=z3o C gl (aA e 4) (aA e 6) (aA e 7) (aA e 8) h x K:=by kernel_rfl
def AX:ACode:=.pr [4,6,7,8] (rg [mV 26 8,
bN 27 .shr 26 (.c (.p (.int .u64 1))),
mV 8 27] [4,6,7,8])
def z3p (C:Hd)(gl:GL)(v4 v6 v7 v8:AV)(h:bA)(x:Esc)(K:KT):Prop:=
 pK (eA .shr v8 (.p (.int .u64 1))) fun t1=>
 K .normal ⟨[(4,v4),(6,v6),(7,v7),(8,t1)],h,x⟩
theorem zil {C gl e h x K}:NW C gl AX ⟨e,h,x⟩ K=z3p C gl (aA e 4) (aA e 6) (aA e 7) (aA e 8) h x K:=by kernel_rfl
def z0f (q2 q3:ACode):ACode:=.pr [4,6,7,8] (.seq (.seq (rg [mV 24 8,
bN 25 .gtr 24 (cI 0)] [4,6,7,8,25])
(.cond 25 .skip
(.exit 2)))
(.seq (.block 3 (.seq (.seq (rg [mV 28 8,
bN 29 .and 28 (cI 1),
bN 30 .neq 29 (cI 0)] [4,6,7,8,30])
(.cond 30 (rg [mV 31 6,
mV 32 7,
bN 33 .mul 31 32,
mV 6 33] [4,6,7,8])
.skip))
q2))
q3))
def xN:ACode:=z0f zX AX
def eV (C:Hd)(gl:GL)(q2 q3:ACode)(v4 v6 v7 v8:AV)(h:bA)(x:Esc)(K:KT):Prop:=
 pK (eA .gtr v8 (AI 0)) fun t1=>
 nA t1 (pK (eA .and v8 (AI 1)) fun t2=>
 pK (eA .neq t2 (AI 0)) fun t3=>
 nA t3 (pK (eA .mul v6 v7) fun t4=>
 NW C gl q2 ⟨[(4,v4),(6,t4),(7,v7),(8,v8)],h,x⟩ (wA 3 (OA C gl q3 K)))
 (NW C gl q2 ⟨[(4,v4),(6,v6),(7,v7),(8,v8),(30,t3)],h,x⟩ (wA 3 (OA C gl q3 K))))
 (K (.exit 2) ⟨[(4,v4),(6,v6),(7,v7),(8,v8),(25,t1)],h,x⟩)
theorem z9J {C gl q2 q3 e h x K}:NW C gl (z0f q2 q3) ⟨e,h,x⟩ K=eV C gl q2 q3 (aA e 4) (aA e 6) (aA e 7) (aA e 8) h x K:=by kernel_rfl
theorem zim {C gl e h x K}:NW C gl xN ⟨e,h,x⟩ K=eV C gl zX AX (aA e 4) (aA e 6) (aA e 7) (aA e 8) h x K:=z9J
theorem zm6 {C gl e h x K}:NW C gl (.loop xN) ⟨e,h,x⟩ K=FA C gl xN K [(4,aA e 4),(6,aA e 6),(7,aA e 7),(8,aA e 8)] h x:=NB
def BX:ACode:=.pr [4,6] (.seq (rg [mV 37 4,
mV 38 6,
mV 2 37,
mV 3 38] [2,3])
.ret)
def z3q (C:Hd)(gl:GL)(v4 v6:AV)(h:bA)(x:Esc)(K:KT):Prop:=
 K .ret ⟨[(2,v4),(3,v6)],h,x⟩
theorem zin {C gl e h x K}:NW C gl BX ⟨e,h,x⟩ K=z3q C gl (aA e 4) (aA e 6) h x K:=by kernel_rfl
def z0g (q4 q5:ACode):ACode:=.pr [0,4] (.seq (rg [mV 6 (.c (.p (.int .u32 1))),
mV 7 (.c (.p (.int .u32 16777619)))] [0,4,6,7])
(.seq (.seq (rg [mV 22 0,
uO 23 (.lens 22),
mV 8 23] [4,6,7,8])
(.block 2 (.loop q4)))
q5))
def yR:ACode:=z0g xN BX
def fV (C:Hd)(gl:GL)(q4 q5:ACode)(v0 v4:AV)(h:bA)(x:Esc)(K:KT):Prop:=
 pK (CD v0) fun t1=>
 NW C gl (.loop q4) ⟨[(4,v4),(6,(.p (.int .u32 1))),(7,(.p (.int .u32 16777619))),(8,t1)],h,x⟩ (wA 2 (OA C gl q5 K))
theorem z9K {C gl q4 q5 e h x K}:NW C gl (z0g q4 q5) ⟨e,h,x⟩ K=fV C gl q4 q5 (aA e 0) (aA e 4) h x K:=by kernel_rfl
theorem zio {C gl e h x K}:NW C gl yR ⟨e,h,x⟩ K=fV C gl xN BX (aA e 0) (aA e 4) h x K:=z9K
def z0e (q1 q6:ACode):ACode:=(.seq (rg [mV 2 (.c (.p (.int .u32 0))),
mV 3 (.c (.p (.int .u32 0)))] [0])
(.seq (rg [mV 4 (.c (.p (.int .u32 0)))] [0,4])
(.seq (.seq (rg [mV 5 (cI 0)] [0,4,5])
(.block 0 (.loop q1)))
q6)))
def lT:AFun:=⟨1,[.t 2,.t 3],z0e UK yR,false,false⟩
def dV (C:Hd)(gl:GL)(q1 q6:ACode)(v0:AV)(h:bA)(x:Esc)(K:KT):Prop:=
 NW C gl (.loop q1) ⟨[(0,v0),(4,(.p (.int .u32 0))),(5,(AI 0))],h,x⟩ (wA 0 (OA C gl q6 K))
theorem z9I {C gl q1 q6 v0 h x K}:NW C gl (z0e q1 q6) ⟨enter [v0],h,x⟩ K=dV C gl q1 q6 v0 h x K:=by kernel_rfl
theorem zii {C gl v0 h x K}:NW C gl lT.body ⟨enter [v0],h,x⟩ K=dV C gl UK yR v0 h x K:=z9I
def IN:ACode:=.pr [0,1,2,6,7] (.seq (.seq (dr [dF (mV 16 7) [7],
dF (mV 17 1) [1],
dF (bN 18 .gtr 16 17) [16,17],
dF (mV 19 18) [18],
dF (gD 20 19 true (.mv 0)) [0,19],
dF (gD 21 19 true (.mv 7)) [7,19],
dF (gD 22 19 true (.iaddr none 20 21)) [20,21,19],
dF (gD 23 19 true (.load none 22)) [22,19],
dF (gD 24 19 true (.mv 0)) [0,19],
dF (gD 25 19 true (.mv 7)) [7,19],
dF (gD 26 19 true (.bin .sub 25 (cI 1))) [25,19],
dF (gD 27 19 true (.iaddr none 24 26)) [24,26,19],
dF (gD 28 19 true (.load none 27)) [27,19],
dT (gD 29 19 true (.call kF [23,28])) [23,28,19],
dF (uO 30 (.pick 19 29 cF)) [19,29]] [0,1,2,6,7,30])
(.cond 30 .skip
(.exit 2)))
(.seq (.block 3 (dr [dF (mV 33 0) [0],
dF (mV 34 7) [7],
dF (mV 35 0) [0],
dF (mV 36 7) [7],
dF (bN 37 .sub 36 (cI 1)) [36],
dF (mV 38 0) [0],
dF (mV 39 7) [7],
dF (bN 40 .sub 39 (cI 1)) [39],
dF (iA 41 none 38 40) [38,40],
dF (lD 42 none 41) [41],
dF (mV 43 0) [0],
dF (mV 44 7) [7],
dF (iA 45 none 43 44) [43,44],
dF (lD 46 none 45) [45],
dF (iA 47 none 33 34) [33,34],
dT (wO (.store none 47 42)) [47,42],
dF (iA 48 none 35 37) [35,37],
dT (wO (.store none 48 46)) [48,46]] [0,1,2,6,7]))
(rg [mV 31 7,
bN 32 .sub 31 (cI 1),
mV 7 32] [0,1,2,6,7])))
def z4s (C:Hd)(gl:GL)(v0 v1 v2 v6 v7:AV)(h:bA)(x:Esc)(K:KT):Prop:=
 pK (eA .gtr v7 v1) fun t1=>
 gM t1 true v0 h fun t2 h3 y4=>
 gM t1 true v7 h3 fun t5 h6 y7=>
 gP t1 true (uA none t2 t5 h6) h6 fun t8 h9 y10=>
 gP t1 true (kA none t8 h9) h9 fun t11 h12 y13=>
 gM t1 true v0 h12 fun t14 h15 y16=>
 gM t1 true v7 h15 fun t17 h18 y19=>
 gP t1 true (eA .sub t17 (AI 1)) h18 fun t20 h21 y22=>
 gP t1 true (uA none t14 t20 h21) h21 fun t23 h24 y25=>
 gP t1 true (kA none t23 h24) h24 fun t26 h27 y28=>
 gV t1 true h27 (GB C kF [t11,t26] h27) fun t29 h30 y31=>
 pK (LA t1 t29 (AB false)) fun t32=>
 nA t32 (pK (eA .sub v7 (AI 1)) fun t33=>
 pK (eA .sub v7 (AI 1)) fun t34=>
 pK (uA none v0 t34 h30) fun t35=>
 pK (kA none t35 h30) fun t36=>
 pK (uA none v0 v7 h30) fun t37=>
 pK (kA none t37 h30) fun t38=>
 pK (uA none v0 v7 h30) fun t39=>
 wK (RA none t39 t36 h30) fun t40 h41 y42=>
 pK (uA none v0 t33 h41) fun t43=>
 wK (RA none t43 t38 h41) fun t44 h45 y46=>
 pK (eA .sub v7 (AI 1)) fun t47=>
 K .normal ⟨[(0,v0),(1,v1),(2,v2),(6,v6),(7,t47)],h45,(y46++(y42++(y31++(y28++(y25++(y22++(y19++(y16++(y13++(y10++(y7++(y4++x))))))))))))⟩)
 (K (.exit 2) ⟨[(0,v0),(1,v1),(2,v2),(6,v6),(7,v7),(30,t32)],h30,(y31++(y28++(y25++(y22++(y19++(y16++(y13++(y10++(y7++(y4++x))))))))))⟩)
theorem zky {C gl e h x K}:NW C gl IN ⟨e,h,x⟩ K=z4s C gl (aA e 0) (aA e 1) (aA e 2) (aA e 6) (aA e 7) h x K:=by kernel_rfl
theorem zni {C gl e h x K}:NW C gl (.loop IN) ⟨e,h,x⟩ K=FA C gl IN K [(0,aA e 0),(1,aA e 1),(2,aA e 2),(6,aA e 6),(7,aA e 7)] h x:=NB
def eY:ACode:=.pr [0,1,2,6] (rg [mV 13 6,
bN 14 .add 13 (cI 1),
mV 6 14] [0,1,2,6])
def z4t (C:Hd)(gl:GL)(v0 v1 v2 v6:AV)(h:bA)(x:Esc)(K:KT):Prop:=
 pK (eA .add v6 (AI 1)) fun t1=>
 K .normal ⟨[(0,v0),(1,v1),(2,v2),(6,t1)],h,x⟩
theorem zkz {C gl e h x K}:NW C gl eY ⟨e,h,x⟩ K=z4t C gl (aA e 0) (aA e 1) (aA e 2) (aA e 6) h x K:=by kernel_rfl
def z1a (q1 q2:ACode):ACode:=.pr [0,1,2,6] (.seq (.seq (rg [mV 10 6,
mV 11 2,
bN 12 .lss 10 11] [0,1,2,6,12])
(.cond 12 .skip
(.exit 0)))
(.seq (.block 1 (.seq (rg [mV 15 6,
mV 7 15] [0,1,2,6,7])
(.block 2 (.loop q1))))
q2))
def zL:ACode:=z1a IN eY
def QV (C:Hd)(gl:GL)(q1 q2:ACode)(v0 v1 v2 v6:AV)(h:bA)(x:Esc)(K:KT):Prop:=
 pK (eA .lss v6 v2) fun t1=>
 nA t1 (NW C gl (.loop q1) ⟨[(0,v0),(1,v1),(2,v2),(6,v6),(7,v6)],h,x⟩ (wA 2 (wA 1 (OA C gl q2 K))))
 (K (.exit 0) ⟨[(0,v0),(1,v1),(2,v2),(6,v6),(12,t1)],h,x⟩)
theorem zaE {C gl q1 q2 e h x K}:NW C gl (z1a q1 q2) ⟨e,h,x⟩ K=QV C gl q1 q2 (aA e 0) (aA e 1) (aA e 2) (aA e 6) h x K:=by kernel_rfl
theorem zk0 {C gl e h x K}:NW C gl zL ⟨e,h,x⟩ K=QV C gl IN eY (aA e 0) (aA e 1) (aA e 2) (aA e 6) h x K:=zaE
theorem znj {C gl e h x K}:NW C gl (.loop zL) ⟨e,h,x⟩ K=FA C gl zL K [(0,aA e 0),(1,aA e 1),(2,aA e 2),(6,aA e 6)] h x:=NB
def z0Z (q3:ACode):ACode:=(.seq (rg [mV 8 1,
bN 9 .add 8 (cI 1),
mV 6 9] [0,1,2,6])
(.block 0 (.loop q3)))
def kU:AFun:=⟨3,[],z0Z zL,true,false⟩
def wQ (C:Hd)(gl:GL)(q3:ACode)(v0 v1 v2:AV)(h:bA)(x:Esc)(K:KT):Prop:=
 pK (eA .add v1 (AI 1)) fun t1=>
 NW C gl (.loop q3) ⟨[(0,v0),(1,v1),(2,v2),(6,t1)],h,x⟩ (wA 0 K)
theorem zaD {C gl q3 v0 v1 v2 h x K}:NW C gl (z0Z q3) ⟨enter [v0,v1,v2],h,x⟩ K=wQ C gl q3 v0 v1 v2 h x K:=by kernel_rfl
theorem zkx {C gl v0 v1 v2 h x K}:NW C gl kU.body ⟨enter [v0,v1,v2],h,x⟩ K=wQ C gl zL v0 v1 v2 h x K:=zaD
def zbq:ACode:=(.seq (rg [mV 4 cF] [0,1])
(.seq (rg [mV 5 0,
cL 6 PE [5],
mV 7 6,
gD 8 7 true (.mv 1),
gD 9 7 true (.call PE [8]),
gD 10 7 true (.un .not 9),
uO 11 (.pick 7 10 cF),
mV 12 11,
gD 13 12 false (.mv 0),
gD 14 12 false (.mv 1),
gD 15 12 false (.bin .lss 13 14),
uO 16 (.pick 12 cT 15),
mV 4 16] [4])
.ret))
def gT:AFun:=⟨2,[.t 4],zbq,false,false⟩
def YU (C:Hd)(gl:GL)(v0 v1:AV)(h:bA)(x:Esc)(K:KT):Prop:=
 C PE [v0] h fun t1 h2 y3=>
 gM t1 true v1 h2 fun t4 h5 y6=>
 gV t1 true h5 (C PE [t4] h5) fun t7 h8 y9=>
 gP t1 true (oUn .not t7) h8 fun t10 h11 y12=>
 pK (LA t1 t10 (AB false)) fun t13=>
 gM t13 false v0 h11 fun t14 h15 y16=>
 gM t13 false v1 h15 fun t17 h18 y19=>
 gP t13 false (eA .lss t14 t17) h18 fun t20 h21 y22=>
 pK (LA t13 (AB true) t20) fun t23=>
 K .ret ⟨[(4,t23)],h21,(y22++(y19++(y16++(y12++(y9++(y6++(y3++x)))))))⟩
theorem zhW {C gl v0 v1 h x K}:NW C gl gT.body ⟨enter [v0,v1],h,x⟩ K=YU C gl v0 v1 h x K:=by kernel_rfl
def nL:ACode:=.pr [0,1,2,8,9,10] (.seq (.seq (rg [mV 15 9,
mV 16 10,
bN 17 .lss 15 16] [0,1,2,8,9,10,17])
(.cond 17 .skip
(.exit 0)))
(.block 1 (.seq (rg [mV 18 9,
mV 19 10,
bN 20 .add 18 19,
uO 21 (.conv (.i .u64) 20),
bN 22 .shr 21 (.c (.p (.int .u64 1))),
uO 23 (.conv (.i .i64) 22),
mV 11 23] [0,1,2,8,9,10,11])
(.seq (rg [mV 24 2,
mV 25 0,
mV 26 11,
iA 27 (some 2) 25 26,
lD 28 (some 2) 27,
mV 29 1,
uO 30 (.callv 24 [28,29]),
bN 31 .lss 30 (cI 0)] [0,1,2,8,9,10,11,31])
(.cond 31 (rg [mV 32 11,
bN 33 .add 32 (cI 1),
mV 9 33] [0,1,2,8,9,10])
(rg [mV 34 11,
mV 10 34] [0,1,2,8,9,10]))))))
def z3S (C:Hd)(gl:GL)(v0 v1 v2 v8 v9 v10:AV)(h:bA)(x:Esc)(K:KT):Prop:=
 pK (eA .lss v9 v10) fun t1=>
 nA t1 (pK (eA .add v9 v10) fun t2=>
 pK (XC .u64 t2) fun t3=>
 pK (eA .shr t3 (.p (.int .u64 1))) fun t4=>
 pK (XC .i64 t4) fun t5=>
 pK (uA (some 2) v0 t5 h) fun t6=>
 pK (kA (some 2) t6 h) fun t7=>
 bF C v2 [t7,v1] h fun t8 h9 y10=>
 pK (eA .lss t8 (AI 0)) fun t11=>
 nA t11 (pK (eA .add t5 (AI 1)) fun t12=>
 K .normal ⟨[(0,v0),(1,v1),(2,v2),(8,v8),(9,t12),(10,v10)],h9,(y10++x)⟩)
 (K .normal ⟨[(0,v0),(1,v1),(2,v2),(8,v8),(9,v9),(10,t5)],h9,(y10++x)⟩))
 (K (.exit 0) ⟨[(0,v0),(1,v1),(2,v2),(8,v8),(9,v9),(10,v10),(17,t1)],h,x⟩)
theorem zjC {C gl e h x K}:NW C gl nL ⟨e,h,x⟩ K=z3S C gl (aA e 0) (aA e 1) (aA e 2) (aA e 8) (aA e 9) (aA e 10) h x K:=by kernel_rfl
theorem zmU {C gl e h x K}:NW C gl (.loop nL) ⟨e,h,x⟩ K=FA C gl nL K [(0,aA e 0),(1,aA e 1),(2,aA e 2),(8,aA e 8),(9,aA e 9),(10,aA e 10)] h x:=NB
def TR:ACode:=.pr [0,1,2,8,9] (.seq (rg [mV 35 9,
mV 36 9,
mV 37 8,
bN 38 .lss 36 37,
mV 39 38,
gD 40 39 true (.mv 2),
gD 41 39 true (.mv 0),
gD 42 39 true (.mv 9),
gD 43 39 true (.iaddr (some 2) 41 42),
gD 44 39 true (.load (some 2) 43),
gD 45 39 true (.mv 1),
gD 46 39 true (.callv 40 [44,45]),
gD 47 39 true (.bin .eql 46 (cI 0)),
uO 48 (.pick 39 47 cF),
mV 6 35,
mV 7 48] [6,7])
.ret)
def z3T (C:Hd)(gl:GL)(v0 v1 v2 v8 v9:AV)(h:bA)(x:Esc)(K:KT):Prop:=
 pK (eA .lss v9 v8) fun t1=>
 gM t1 true v2 h fun t2 h3 y4=>
 gM t1 true v0 h3 fun t5 h6 y7=>
 gM t1 true v9 h6 fun t8 h9 y10=>
 gP t1 true (uA (some 2) t5 t8 h9) h9 fun t11 h12 y13=>
 gP t1 true (kA (some 2) t11 h12) h12 fun t14 h15 y16=>
 gM t1 true v1 h15 fun t17 h18 y19=>
 gV t1 true h18 (bF C t2 [t14,t17] h18) fun t20 h21 y22=>
 gP t1 true (eA .eql t20 (AI 0)) h21 fun t23 h24 y25=>
 pK (LA t1 t23 (AB false)) fun t26=>
 K .ret ⟨[(6,v9),(7,t26)],h24,(y25++(y22++(y19++(y16++(y13++(y10++(y7++(y4++x))))))))⟩
theorem zjD {C gl e h x K}:NW C gl TR ⟨e,h,x⟩ K=z3T C gl (aA e 0) (aA e 1) (aA e 2) (aA e 8) (aA e 9) h x K:=by kernel_rfl
def z0J (q1 q2:ACode):ACode:=(.seq (rg [mV 6 (cI 0),
mV 7 cF] [0,1,2])
(.seq (rg [mV 12 0,
lN 13 12,
mV 8 13] [0,1,2,8])
(.seq (rg [mV 14 8,
mV 9 (cI 0),
mV 10 14] [0,1,2,8,9,10])
(.seq (.block 0 (.loop q1))
q2))))
def WO:AFun:=⟨3,[.t 6,.t 7],z0J nL TR,false,false⟩
def jQ (C:Hd)(gl:GL)(q1 q2:ACode)(v0 v1 v2:AV)(h:bA)(x:Esc)(K:KT):Prop:=
 pK (yA v0) fun t1=>
 NW C gl (.loop q1) ⟨[(0,v0),(1,v1),(2,v2),(8,t1),(9,(AI 0)),(10,t1)],h,x⟩ (wA 0 (OA C gl q2 K))
theorem zax {C gl q1 q2 v0 v1 v2 h x K}:NW C gl (z0J q1 q2) ⟨enter [v0,v1,v2],h,x⟩ K=jQ C gl q1 q2 v0 v1 v2 h x K:=by kernel_rfl
theorem zjB {C gl v0 v1 v2 h x K}:NW C gl WO.body ⟨enter [v0,v1,v2],h,x⟩ K=jQ C gl nL TR v0 v1 v2 h x K:=zax
def zbk:ACode:=(.seq (rg [uO 2 (.box 0),
mV 4 (cI 0)] [1,2])
(.seq (rg [fA 5 0 none 2,
lD 6 none 5,
mV 7 1,
cL 8 oE [6,7],
mV 4 8] [4])
.ret))
def KO:AFun:=⟨2,[.t 4],zbk,false,false⟩
def UU (C:Hd)(gl:GL)(v0 v1:AV)(h:bA)(x:Esc)(K:KT):Prop:=
 wK (qB v0 h) fun t1 h2 y3=>
 pK (oA 0 none t1) fun t4=>
 pK (kA none t4 h2) fun t5=>
 C oE [t5,v1] h2 fun t6 h7 y8=>
 K .ret ⟨[(4,t6)],h7,(y8++(y3++x))⟩
theorem zh8 {C gl v0 v1 h x K}:NW C gl KO.body ⟨enter [v0,v1],h,x⟩ K=UU C gl v0 v1 h x K:=by kernel_rfl
def zb9:ACode:=(.seq (rg [mV 4 (cI 0)] [0,1])
(.seq (rg [mV 5 0,
mV 6 1,
cL 7 TF [5,6],
mV 4 7] [4])
.ret))
def TO:AFun:=⟨2,[.t 4],zb9,false,false⟩
def aV (C:Hd)(gl:GL)(v0 v1:AV)(h:bA)(x:Esc)(K:KT):Prop:=
 C TF [v0,v1] h fun t1 h2 y3=>
 K .ret ⟨[(4,t1)],h2,(y3++x)⟩
theorem zib {C gl v0 v1 h x K}:NW C gl TO.body ⟨enter [v0,v1],h,x⟩ K=aV C gl v0 v1 h x K:=by kernel_rfl
def zoo:ACode:=.pr [5,6,7] (.seq (rg [bN 8 .lss 7 6] [5,6,7,8])
(.seq (.cond 8 .skip
(.exit 0))
(.seq (.block 1 (.seq (rg [iA 9 none 5 7,
lD 10 none 9,
mV 4 10] [4,5,6,7])
(.seq (rg [mV 11 4,
bN 12 .neq 11 (cI 0)] [4,5,6,7,12])
(.cond 12 (.seq (rg [mV 13 4,
mV 2 13] [2])
.ret)
.skip))))
(rg [bN 14 .add 7 (cI 1),
mV 7 14] [5,6,7]))))
def zop:ACode:=.pr [] (.seq (rg [mV 2 (cI 0)] [2])
.ret)
def zaY (q1 q2:ACode):ACode:=(.seq (rg [mV 2 (cI 0)] [0])
(.seq (.seq (rg [mV 5 0,
lN 6 5,
mV 7 (cI 0)] [5,6,7])
(.block 0 (.loop q1)))
q2))
def zdd:AFun:=⟨1,[.t 2],zaY zoo zop,false,false⟩
def zaZ:ACode:=(.seq (rg [uO 4 (.alloc [.p (.int .i64 0),.p (.int .i64 0)])] [0,1,4])
(.seq (rg [mV 6 0,
mV 7 0,
uO 8 (.un .neg 7),
uO 9 (.mx [6,8]),
mV 10 1,
cL 11 z4S [9,10],
mV 5 11] [0,1,4,5])
(.seq (dr [dF (mV 12 0) [0],
dF (mV 13 5) [5],
dF (bN 14 .quo 12 13) [12,13],
dF (mV 15 1) [1],
dF (mV 16 5) [5],
dF (bN 17 .quo 15 16) [15,16],
dF (uO 18 (.build [.p (.int .i64 0),.p (.int .i64 0)] [(0,1,14),(1,1,17)])) [14,17],
dT (wO (.store (some 2) 4 18)) [4,18]] [4])
.ret)))
def zde:AFun:=⟨2,[.cell 4 (some 2)],zaZ,false,false⟩
def zoq:ACode:=.pr [0,1] (.seq (.seq (rg [mV 5 1,
bN 6 .neq 5 (cI 0)] [0,1,6])
(.cond 6 .skip
(.exit 0)))
(.block 1 (dr [dF (mV 7 1) [1],
dF (mV 8 0) [0],
dF (mV 9 1) [1],
dF (bN 10 .rem 8 9) [8,9],
dF (mV 0 7) [7],
dF (mV 1 10) [10]] [0,1])))
def zor:ACode:=.pr [0] (.seq (rg [mV 11 0,
mV 4 11] [4])
.ret)
def zba (q1 q2:ACode):ACode:=(.seq (rg [mV 4 (cI 0)] [0,1])
(.seq (.block 0 (.loop q1))
q2))
def zdf:AFun:=⟨2,[.t 4],zba zoq zor,false,false⟩
def zbb:ACode:=(.seq (rg [mV 2 cF] [0])
(.seq (rg [mV 3 0,
cL 4 fC [3,(cI 0),(cI 345686399999)],
uO 5 (.un .not 4),
mV 2 5] [2])
.ret))
def zdg:AFun:=⟨1,[.t 2],zbb,false,false⟩
def zbo:ACode:=(.seq (rg [mV 4 (cI 0)] [0,1])
(.seq (rg [mV 7 0,
cL 8 zW [7],
mV 5 8] [0,1,5])
(.seq (rg [mV 9 1,
cL 10 zW [9],
mV 6 10] [0,1,5,6])
(.seq (.seq (rg [mV 11 5] [0,1,6,11])
(.cond 11 (.seq (.seq (rg [mV 12 6] [12])
(.cond 12 (.seq (rg [mV 4 (cI 0)] [4])
.ret)
.skip))
(.seq (rg [mV 4 (cI (-1))] [4])
.ret))
.skip))
(.seq (.seq (rg [mV 13 6] [0,1,13])
(.cond 13 (.seq (rg [mV 4 (cI 1)] [4])
.ret)
.skip))
(.seq (.seq (rg [mV 14 0,
mV 15 1,
bN 16 .lss 14 15] [0,1,16])
(.cond 16 (.seq (rg [mV 4 (cI (-1))] [4])
.ret)
.skip))
(.seq (.seq (rg [mV 17 0,
mV 18 1,
bN 19 .gtr 17 18] [19])
(.cond 19 (.seq (rg [mV 4 (cI 1)] [4])
.ret)
.skip))
(.seq (rg [mV 4 (cI 0)] [4])
.ret))))))))
def zdh:AFun:=⟨2,[.t 4],zbo,false,false⟩
def zbr:ACode:=(.seq (rg [mV 2 cF] [0])
(.seq (rg [mV 3 0,
mV 4 0,
bN 5 .neq 3 4,
mV 2 5] [2])
.ret))
def zdi:AFun:=⟨1,[.t 2],zbr,false,false⟩
def zos:ACode:=.pr [0,3,27,28,29] (.seq (rg [bN 30 .lss 29 28] [0,3,27,28,29,30])
(.seq (.cond 30 .skip
(.exit 1))
(.seq (.block 2 (.seq (rg [iA 31 none 27 29,
lD 32 none 31,
mV 6 32] [0,3,6,27,28,29])
(.seq (rg [mV 33 6,
mV 34 0,
bN 35 .sub 34 (cI 1),
cL 36 fC [33,(cI 0),35]] [0,3,27,28,29,36])
(.cond 36 (.seq (rg [mV 4 (cI 1)] [4])
.ret)
.skip))))
(rg [bN 37 .add 29 (cI 1),
mV 29 37] [0,3,27,28,29]))))
def zot:ACode:=.pr [3,7,8] (.seq (.seq (rg [mV 53 8,
mV 54 7,
lN 55 54,
bN 56 .lss 53 55] [3,7,8,56])
(.cond 56 .skip
(.exit 3)))
(.seq (.block 4 (.seq (dr [dF (mV 59 7) [7],
dF (mV 60 8) [8],
dF (iA 61 none 59 60) [59,60],
dF (lD 62 none 61) [61],
dF (mV 63 7) [7],
dF (mV 64 8) [8],
dF (bN 65 .sub 64 (cI 1)) [64],
dF (iA 66 none 63 65) [63,65],
dF (lD 67 none 66) [66],
dF (bN 68 .leq 62 67) [62,67]] [3,7,8,68])
(.cond 68 (.seq (rg [mV 4 (cI 7)] [4])
.ret)
.skip)))
(rg [mV 57 8,
bN 58 .add 57 (cI 1),
mV 8 58] [3,7,8])))
def zou:ACode:=.pr [3,7] (.seq (.seq (rg [fA 69 0 none 3,
lD 70 none 69,
bN 71 .eql 70 (cI 5),
mV 72 71,
gD 73 72 true (.mv 7),
gD 74 72 true (.faddr 1 none 3),
gD 75 72 true (.load none 74),
gD 76 72 true (.iaddr none 75 (cI 0)),
gD 77 72 true (.load none 76),
gD 78 72 true (.call z5l [73,77]),
uO 79 (.pick 72 78 cF)] [79])
(.cond 79 (.seq (rg [mV 4 (cI 6)] [4])
.ret)
.skip))
(.seq (rg [mV 4 (cI 0)] [4])
.ret))
def zbu (q2 q3:ACode):ACode:=.pr [3,7] (.seq (.seq (rg [mV 8 (cI 1)] [3,7,8])
(.block 3 (.loop q2)))
q3)
def zov:ACode:=zbu zot zou
def zbv (q4:ACode):ACode:=.pr [3] (.seq (.seq (dr [dF (fA 38 0 none 3) [3],
dF (lD 39 none 38) [38],
dT (cL 40 z4Y [39]) [39],
dF (fA 41 1 none 3) [3],
dA (lD 42 none 41) [41] false [2] [],
dF (lN 43 42) [42],
dF (bN 44 .gtr 43 (cI 1)) [43],
dF (uO 45 (.eqa [] true 40 44)) [40,44]] [3,45])
(.cond 45 (.seq (rg [mV 4 (cI 3)] [4])
.ret)
.skip))
(.seq (rg [fA 46 1 none 3,
lD 47 none 46,
mV 7 47] [3,7])
(.seq (.seq (rg [fA 48 0 none 3,
lD 49 none 48,
bN 50 .eql 49 (cI 5)] [3,7,50])
(.cond 50 (rg [mV 51 7,
uO 52 (.slice none 51 (some (cI 1)) none none),
mV 7 52] [3,7])
.skip))
q4)))
def zow:ACode:=zbv zov
def zbt (q1 q5:ACode):ACode:=(.seq (rg [uO 3 (.box 1),
mV 4 (cI 0)] [0,3])
(.seq (.block 0 (.seq (rg [mV 10 0,
cL 11 fC [10,(cI 1),(cI 100)],
mV 9 11] [0,3,9])
(.cond 9 (.seq (rg [mV 4 (cI 1)] [4])
.ret)
(.seq (rg [fA 13 0 none 3,
lD 14 none 13,
cL 15 fC [14,(cI 1),(cI 6)],
mV 12 15] [0,3,12])
(.cond 12 (.seq (rg [mV 4 (cI 4)] [4])
.ret)
(.seq (rg [fA 17 1 none 3,
lD 18 none 17,
lN 19 18,
bN 20 .eql 19 (cI 0),
mV 16 20] [0,3,16])
(.cond 16 (.seq (rg [mV 4 (cI 8)] [4])
.ret)
(.seq (rg [fA 22 1 none 3,
lD 23 none 22,
lN 24 23,
bN 25 .gtr 24 (cI 6),
mV 21 25] [0,3,21])
(.cond 21 (.seq (rg [mV 4 (cI 2)] [4])
.ret)
.skip)))))))))
(.seq (.seq (rg [fA 26 1 none 3,
lD 27 none 26,
lN 28 27,
mV 29 (cI 0)] [0,3,27,28,29])
(.block 1 (.loop q1)))
q5)))
def zdj:AFun:=⟨2,[.t 4],zbt zos zow,false,false⟩
def zox:ACode:=.pr [0,13,14,15] (.seq (rg [bN 16 .lss 15 14] [0,13,14,15,16])
(.seq (.cond 16 .skip
(.exit 1))
(.seq (.block 2 (.seq (rg [iA 17 none 13 15,
lD 18 none 17,
mV 4 18] [0,4,13,14,15])
(.block 3 (.seq (rg [mV 20 4,
cL 21 NE [20],
uO 22 (.un .not 21),
mV 19 22] [0,4,13,14,15,19])
(.cond 19 (.seq (rg [mV 2 (cI 3)] [2])
.ret)
(.seq (rg [mV 24 4,
uO 25 (.lens 24),
bN 26 .gtr 25 (cI 64),
mV 23 26] [0,4,13,14,15,23])
(.cond 23 (.seq (rg [mV 2 (cI 2)] [2])
.ret)
(.seq (rg [mV 28 4,
uO 29 (.lens 28),
mV 30 0,
iA 31 none 30 (cI 0),
lD 32 none 31,
uO 33 (.lens 32),
bN 34 .neq 29 33,
mV 27 34] [0,13,14,15,27])
(.cond 27 (.seq (rg [mV 2 (cI 3)] [2])
.ret)
.skip)))))))))
(rg [bN 35 .add 15 (cI 1),
mV 15 35] [0,13,14,15]))))
def zoy:ACode:=.pr [] (.seq (rg [mV 2 (cI 0)] [2])
.ret)
def zbw (q1 q2:ACode):ACode:=(.seq (rg [mV 2 (cI 0)] [0])
(.seq (.block 0 (.seq (rg [mV 6 0,
lN 7 6,
bN 8 .eql 7 (cI 0),
mV 5 8] [0,5])
(.cond 5 (.seq (rg [mV 2 (cI 8)] [2])
.ret)
(.seq (rg [mV 10 0,
lN 11 10,
bN 12 .gtr 11 (cI 100),
mV 9 12] [0,9])
(.cond 9 (.seq (rg [mV 2 (cI 2)] [2])
.ret)
.skip)))))
(.seq (.seq (rg [mV 13 0,
lN 14 13,
mV 15 (cI 0)] [0,13,14,15])
(.block 1 (.loop q1)))
q2)))
def zdk:AFun:=⟨1,[.t 2],zbw zox zoy,false,false⟩
end Go.Am
end
