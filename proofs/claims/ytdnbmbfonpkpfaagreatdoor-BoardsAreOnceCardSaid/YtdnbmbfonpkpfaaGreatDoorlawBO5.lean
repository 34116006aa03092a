/- Texts of the proof, laid together: CodesA, CodesB. -/
import Derived.KernelRfl
import Derived.Test.YtdnbmbfonpkpfaaGreatDoorlawBO4
set_option linter.all false
section
/- The functions asv abstract code,and asv formulas over their values: printed by program out of the translation. -/
set_option linter.unusedVariables false
set_option maxRecDepth 100000
namespace Go.Am
def z98:ACode:=.pr [4,5,6,7,9,11,56,57,58] (rg [bN 122 .add 58 (cI 1),
mV 58 122] [4,5,6,7,9,11,56,57,58])
def zdq (C:Hd) (gl:GL) (v4 v5 v6 v7 v9 v11 v56 v57 v58:AV) (h:Heap) (x:Esc) (K:KT):Prop:=
 pK (oBin .add v58 (AI 1)) fun t1=>
 K .normal ⟨[(4,v4),(5,v5),(6,v6),(7,v7),(9,v9),(11,v11),(56,v56),(57,v57),(58,t1)],h,x⟩
theorem znv {C gl e h x K}:NW C gl z98 ⟨e,h,x⟩ K=zdq C gl (aget e 4) (aget e 5) (aget e 6) (aget e 7) (aget e 9) (aget e 11) (aget e 56) (aget e 57) (aget e 58) h x K:=by kernel_rfl
def zc6 (q1:ACode):ACode:=.pr [4,5,6,7,9,11,56,57,58] (.seq (rg [bN 59 .lss 58 57] [4,5,6,7,9,11,56,57,58,59])
(.seq (.cond 59 .skip
(.exit 0))
(.seq (.block 1 (.seq (rg [iA 60 none 56 58,
lD 61 none 60,
mV 13 61] [4,5,6,7,9,11,13,56,57,58])
(.seq (rg [lD 63 (some 2) 4,
mV 64 5,
mV 65 13,
mV 66 6,
cL 67 z7z [63,64,65,66],
mV 62 67,
eX 68 62 0,
eX 69 62 1,
uO 14 (.alloc [.p (.int .i64 0),.p (.int .i64 0),.p (.str []),.p (.str []),.p (.int .i64 0)]),
wO (.store (some 5) 14 68),
mV 15 69] [4,5,6,7,9,11,13,14,15,56,57,58])
(.seq (.seq (rg [mV 70 15,
bN 71 .eql 70 (cI 8)] [4,5,6,7,9,11,13,14,15,56,57,58,71])
(.cond 71 (.exit 1)
.skip))
(.seq (.seq (dr [dF (mV 72 15) [15],
dF (bN 73 .neq 72 (cI 0)) [72],
dF (mV 74 73) [73],
dF (gD 75 74 false (.faddr 0 none 14)) [14,74],
dF (gD 76 74 false (.load none 75)) [75,74],
dF (gD 77 74 false (.bin .lss 76 (cI 1))) [76,74],
dF (uO 78 (.pick 74 cT 77)) [74,77],
dF (mV 79 78) [78],
dF (gD 80 79 false (.faddr 0 none 14)) [14,79],
dF (gD 81 79 false (.load none 80)) [80,79],
dF (gD 82 79 false (.bin .gtr 81 (cI 5))) [81,79],
dF (uO 83 (.pick 79 cT 82)) [79,82],
dF (mV 84 83) [83],
dF (gD 85 84 false (.faddr 0 none 14)) [14,84],
dF (gD 86 84 false (.load none 85)) [85,84],
dF (gD 87 84 false (.bin .eql 86 (cI 2))) [86,84],
dF (gD 88 84 false (.mv 7)) [7,84],
dF (gD 89 84 false (.faddr 3 none 14)) [14,84],
dF (gD 90 84 false (.load none 89)) [89,84],
dF (gD 91 84 false (.mv 13)) [13,84],
dF (gD 92 84 false (.build [.p (.str []),.p (.str [])] [(0,1,90),(1,1,91)])) [90,91,84],
dA (gD 93 84 false (.call zaO [88,92])) [88,92,84] true [] [14],
dF (gD 94 84 false (.eqa [] true 87 93)) [87,93,84],
dF (uO 95 (.pick 84 cT 94)) [84,94]] [4,5,6,7,9,11,13,14,56,57,58,95])
(.cond 95 (.seq (rg [mV 2 cF] [2])
.ret)
.skip))
(.seq (rg [fA 96 0 none 14,
lD 97 none 96,
uO 98 (.iaddra 6 none 11 97),
lD 99 none 98,
bN 100 .add 99 (cI 1),
uO 101 (.iaddra 6 none 11 97),
wO (.store none 101 100)] [4,5,6,7,9,11,13,14,56,57,58])
(.seq (rg [fA 102 0 none 14,
lD 103 none 102,
bN 104 .eql 103 (cI 1)] [4,5,6,7,9,11,13,14,56,57,58,104])
(.cond 104 (.seq (rg [lD 106 (some 2) 4,
mV 107 5,
fA 108 2 none 14,
lD 109 none 108,
mV 110 6,
cL 111 zaX [106,107,109,110],
mV 105 111,
eX 112 105 0,
eX 113 105 1,
mV 16 112,
mV 17 113] [4,5,6,7,9,11,13,16,17,56,57,58])
(.seq (rg [mV 114 17,
bN 115 .neq 114 (cI 0),
mV 116 115,
gD 117 116 false (.mv 16),
gD 118 116 false (.mv 13),
gD 119 116 false (.call z3M [117,118]),
gD 120 116 false (.un .not 119),
uO 121 (.pick 116 cT 120)] [4,5,6,7,9,11,56,57,58,121])
(.cond 121 (.seq (rg [mV 2 cF] [2])
.ret)
.skip)))
.skip))))))))
q1)))
def z2V:ACode:=zc6 z98
def z89 (C:Hd) (gl:GL) (q1:ACode) (v4 v5 v6 v7 v9 v11 v56 v57 v58:AV) (h:Heap) (x:Esc) (K:KT):Prop:=
 pK (oBin .lss v58 v57) fun t1=>
 z0j t1 (pK (z0r none v56 v58 h) fun t2=>
 pK (z0e none t2 h) fun t3=>
 pK (z0e (some 2) v4 h) fun t4=>
 C z7z [t4,v5,t3,v6] h fun t5 h6 y7=>
 pK (oExt t5 0) fun t8=>
 pK (oExt t5 1) fun t9=>
 alK [.p (.int .i64 0),.p (.int .i64 0),.p (.str []),.p (.str []),.p (.int .i64 0)] h6 fun t10 h11 y12=>
 wK (z0m (some 5) t10 t8 h11) fun t13 h14 y15=>
 pK (oBin .eql t9 (AI 8)) fun t16=>
 z0j t16 (NW C gl q1 ⟨[(4,v4),(5,v5),(6,v6),(7,v7),(9,v9),(11,v11),(13,t3),(14,t10),(15,t9),(56,v56),(57,v57),(58,v58),(71,t16)],h14,(y15++(y12++(y7++x)))⟩ K)
 (pK (oBin .neq t9 (AI 0)) fun t17=>
 gP t17 false (z0d 0 none t10) h14 fun t18 h19 y20=>
 gP t17 false (z0e none t18 h19) h19 fun t21 h22 y23=>
 gP t17 false (oBin .lss t21 (AI 1)) h22 fun t24 h25 y26=>
 pK (z0G t17 (AB true) t24) fun t27=>
 gP t27 false (z0d 0 none t10) h25 fun t28 h29 y30=>
 gP t27 false (z0e none t28 h29) h29 fun t31 h32 y33=>
 gP t27 false (oBin .gtr t31 (AI 5)) h32 fun t34 h35 y36=>
 pK (z0G t27 (AB true) t34) fun t37=>
 gP t37 false (z0d 0 none t10) h35 fun t38 h39 y40=>
 gP t37 false (z0e none t38 h39) h39 fun t41 h42 y43=>
 gP t37 false (oBin .eql t41 (AI 2)) h42 fun t44 h45 y46=>
 gM t37 false v7 h45 fun t47 h48 y49=>
 gP t37 false (z0d 3 none t10) h48 fun t50 h51 y52=>
 gP t37 false (z0e none t50 h51) h51 fun t53 h54 y55=>
 gM t37 false t3 h54 fun t56 h57 y58=>
 gP t37 false (z07 [.p (.str []),.p (.str [])] [(0,1,t53),(1,1,t56)]) h57 fun t59 h60 y61=>
 gV t37 false h60 (z1h C zaO [t47,t59] h60) fun t62 h63 y64=>
 (gV t37 false h63 (fun kk=>pK (z0e none t38 h63) fun v=>(kk) v h63 []) (fun u (g1:Heap) (y1:Esc)=>u=t41∧g1=h63∧y1=[]))∧(gP t37 false (oEqa [] true t44 t62) h63 fun t65 h66 y67=>
 pK (z0G t37 (AB true) t65) fun t68=>
 z0j t68 (K .ret ⟨[(2,(AB false))],h66,(y67++(y64++(y61++(y58++(y55++(y52++(y49++(y46++(y43++(y40++(y36++(y33++(y30++(y26++(y23++(y20++(y15++(y12++(y7++x)))))))))))))))))))⟩)
 (pK (z0d 0 none t10) fun t69=>
 pK (z0e none t69 h66) fun t70=>
 pK (z4k 6 none v11 t70) fun t71=>
 pK (z0e none t71 h66) fun t72=>
 pK (oBin .add t72 (AI 1)) fun t73=>
 pK (z4k 6 none v11 t70) fun t74=>
 wK (z0m none t74 t73 h66) fun t75 h76 y77=>
 pK (z0d 0 none t10) fun t78=>
 pK (z0e none t78 h76) fun t79=>
 pK (oBin .eql t79 (AI 1)) fun t80=>
 z0j t80 (pK (z0e (some 2) v4 h76) fun t81=>
 pK (z0d 2 none t10) fun t82=>
 pK (z0e none t82 h76) fun t83=>
 C zaX [t81,v5,t83,v6] h76 fun t84 h85 y86=>
 pK (oExt t84 0) fun t87=>
 pK (oExt t84 1) fun t88=>
 pK (oBin .neq t88 (AI 0)) fun t89=>
 gM t89 false t87 h85 fun t90 h91 y92=>
 gM t89 false t3 h91 fun t93 h94 y95=>
 gV t89 false h94 (C z3M [t90,t93] h94) fun t96 h97 y98=>
 gP t89 false (oUn .not t96) h97 fun t99 h100 y101=>
 pK (z0G t89 (AB true) t99) fun t102=>
 z0j t102 (K .ret ⟨[(2,(AB false))],h100,(y101++(y98++(y95++(y92++(y86++(y77++(y67++(y64++(y61++(y58++(y55++(y52++(y49++(y46++(y43++(y40++(y36++(y33++(y30++(y26++(y23++(y20++(y15++(y12++(y7++x)))))))))))))))))))))))))⟩)
 (NW C gl q1 ⟨[(4,v4),(5,v5),(6,v6),(7,v7),(9,v9),(11,v11),(56,v56),(57,v57),(58,v58),(121,t102)],h100,(y101++(y98++(y95++(y92++(y86++(y77++(y67++(y64++(y61++(y58++(y55++(y52++(y49++(y46++(y43++(y40++(y36++(y33++(y30++(y26++(y23++(y20++(y15++(y12++(y7++x)))))))))))))))))))))))))⟩ K))
 (NW C gl q1 ⟨[(4,v4),(5,v5),(6,v6),(7,v7),(9,v9),(11,v11),(13,t3),(14,t10),(56,v56),(57,v57),(58,v58),(104,t80)],h76,(y77++(y67++(y64++(y61++(y58++(y55++(y52++(y49++(y46++(y43++(y40++(y36++(y33++(y30++(y26++(y23++(y20++(y15++(y12++(y7++x))))))))))))))))))))⟩ K)))))
 (K (.exit 0) ⟨[(4,v4),(5,v5),(6,v6),(7,v7),(9,v9),(11,v11),(56,v56),(57,v57),(58,v58),(59,t1)],h,x⟩)
theorem zky {C gl q1 e h x K}:NW C gl (zc6 q1) ⟨e,h,x⟩ K=z89 C gl q1 (aget e 4) (aget e 5) (aget e 6) (aget e 7) (aget e 9) (aget e 11) (aget e 56) (aget e 57) (aget e 58) h x K:=by kernel_rfl
theorem znw {C gl e h x K}:NW C gl z2V ⟨e,h,x⟩ K=z89 C gl z98 (aget e 4) (aget e 5) (aget e 6) (aget e 7) (aget e 9) (aget e 11) (aget e 56) (aget e 57) (aget e 58) h x K:=zky
theorem zp0 {C gl e h x K}:NW C gl (.loop (.scope z2V)) ⟨e,h,x⟩ K=z0Z C gl (.scope z2V) K [(4,aget e 4),(5,aget e 5),(6,aget e 6),(7,aget e 7),(9,aget e 9),(11,aget e 11),(56,aget e 56),(57,aget e 57),(58,aget e 58)] h x:=z13
def z4n:ACode:=.pr [7,11,123,124,125] (.seq (rg [bN 126 .lss 125 124] [7,11,123,124,125,126])
(.seq (.cond 126 .skip
(.exit 2))
(.seq (.block 3 (.seq (rg [mV 127 125,
iA 128 (some 2) 123 125,
lD 129 (some 2) 128,
uO 19 (.alloc [.p (.str []),.p (.str [])]),
mV 18 127,
wO (.store (some 2) 19 129)] [7,11,18,19,123,124,125])
(.seq (dr [dF (fA 130 1 none 19) [19],
dF (lD 131 none 130) [130],
dF (mV 132 18) [18],
dF (bN 133 .add 132 (cI 1)) [132],
dF (uO 134 (.iaddra 6 none 11 133)) [11,133],
dF (lD 135 none 134) [134],
dA (cL 136 z70 [135]) [135] true [] [1],
dF (bN 137 .neq 131 136) [131,136]] [7,11,123,124,125,137])
(.cond 137 (.seq (rg [mV 2 cF] [2])
.ret)
.skip))))
(rg [bN 138 .add 125 (cI 1),
mV 125 138] [7,11,123,124,125]))))
def zdr (C:Hd) (gl:GL) (v7 v11 v123 v124 v125:AV) (h:Heap) (x:Esc) (K:KT):Prop:=
 pK (oBin .lss v125 v124) fun t1=>
 z0j t1 (pK (z0r (some 2) v123 v125 h) fun t2=>
 pK (z0e (some 2) t2 h) fun t3=>
 alK [.p (.str []),.p (.str [])] h fun t4 h5 y6=>
 wK (z0m (some 2) t4 t3 h5) fun t7 h8 y9=>
 pK (z0d 1 none t4) fun t10=>
 pK (z0e none t10 h8) fun t11=>
 pK (oBin .add v125 (AI 1)) fun t12=>
 pK (z4k 6 none v11 t12) fun t13=>
 pK (z0e none t13 h8) fun t14=>
 z1h C z70 [t14] h8 fun t15 h16 y17=>
 (pK (z0e none t10 h16) fun v=>(fun u (g1:Heap) (y1:Esc)=>u=t11∧g1=h16∧y1=[]) v h16 [])∧(pK (oBin .neq t11 t15) fun t18=>
 z0j t18 (K .ret ⟨[(2,(AB false))],h16,(y17++(y9++(y6++x)))⟩)
 (pK (oBin .add v125 (AI 1)) fun t19=>
 K .normal ⟨[(7,v7),(11,v11),(123,v123),(124,v124),(125,t19)],h16,(y17++(y9++(y6++x)))⟩)))
 (K (.exit 2) ⟨[(7,v7),(11,v11),(123,v123),(124,v124),(125,v125),(126,t1)],h,x⟩)
theorem znx {C gl e h x K}:NW C gl z4n ⟨e,h,x⟩ K=zdr C gl (aget e 7) (aget e 11) (aget e 123) (aget e 124) (aget e 125) h x K:=by kernel_rfl
theorem zp1 {C gl e h x K}:NW C gl (.loop (.scope z4n)) ⟨e,h,x⟩ K=z0Z C gl (.scope z4n) K [(7,aget e 7),(11,aget e 11),(123,aget e 123),(124,aget e 124),(125,aget e 125)] h x:=z13
def z4o:ACode:=.pr [7,20] (.seq (.seq (rg [mV 139 20,
mV 140 7,
lN 141 140,
bN 142 .lss 139 141] [7,20,142])
(.cond 142 .skip
(.exit 4)))
(.seq (.block 5 (.seq (dr [dF (mV 145 7) [7],
dF (mV 146 20) [20],
dF (iA 147 (some 2) 145 146) [145,146],
dF (fA 148 0 none 147) [147],
dF (lD 149 none 148) [148],
dF (mV 150 7) [7],
dF (mV 151 20) [20],
dF (bN 152 .sub 151 (cI 1)) [151],
dF (iA 153 (some 2) 150 152) [150,152],
dF (fA 154 0 none 153) [153],
dF (lD 155 none 154) [154],
dF (bN 156 .leq 149 155) [149,155]] [7,20,156])
(.cond 156 (.seq (rg [mV 2 cF] [2])
.ret)
.skip)))
(rg [mV 143 20,
bN 144 .add 143 (cI 1),
mV 20 144] [7,20])))
def zds (C:Hd) (gl:GL) (v7 v20:AV) (h:Heap) (x:Esc) (K:KT):Prop:=
 pK (oLen v7) fun t1=>
 pK (oBin .lss v20 t1) fun t2=>
 z0j t2 (pK (z0r (some 2) v7 v20 h) fun t3=>
 pK (z0d 0 none t3) fun t4=>
 pK (z0e none t4 h) fun t5=>
 pK (oBin .sub v20 (AI 1)) fun t6=>
 pK (z0r (some 2) v7 t6 h) fun t7=>
 pK (z0d 0 none t7) fun t8=>
 pK (z0e none t8 h) fun t9=>
 pK (oBin .leq t5 t9) fun t10=>
 z0j t10 (K .ret ⟨[(2,(AB false))],h,x⟩)
 (pK (oBin .add v20 (AI 1)) fun t11=>
 K .normal ⟨[(7,v7),(20,t11)],h,x⟩))
 (K (.exit 4) ⟨[(7,v7),(20,v20),(142,t2)],h,x⟩)
theorem zny {C gl e h x K}:NW C gl z4o ⟨e,h,x⟩ K=zds C gl (aget e 7) (aget e 20) h x K:=by kernel_rfl
theorem zp2 {C gl e h x K}:NW C gl (.loop z4o) ⟨e,h,x⟩ K=z0Z C gl z4o K [(7,aget e 7),(20,aget e 20)] h x:=z06
def z99:ACode:=.pr [] (.seq (rg [cL 157 z9f [],
mV 2 157] [2])
.ret)
def z8A (C:Hd) (gl:GL) (h:Heap) (x:Esc) (K:KT):Prop:=
 C z9f [] h fun t1 h2 y3=>
 K .ret ⟨[(2,t1)],h2,(y3++x)⟩
theorem z8T {C gl e h x K}:NW C gl z99 ⟨e,h,x⟩ K=z8A C gl h x K:=by kernel_rfl
def zc7 (q4 q5:ACode):ACode:=.pr [7] (.seq (.seq (rg [mV 20 (cI 1)] [7,20])
(.block 4 (.loop q4)))
q5)
def z6i:ACode:=zc7 z4o z99
def z5D (C:Hd) (gl:GL) (q4 q5:ACode) (v7:AV) (h:Heap) (x:Esc) (K:KT):Prop:=
 NW C gl (.loop q4) ⟨[(7,v7),(20,(AI 1))],h,x⟩ (z0q 4 (seqN C gl q5 K))
theorem zkz {C gl q4 q5 e h x K}:NW C gl (zc7 q4 q5) ⟨e,h,x⟩ K=z5D C gl q4 q5 (aget e 7) h x K:=by kernel_rfl
theorem z8U {C gl e h x K}:NW C gl z6i ⟨e,h,x⟩ K=z5D C gl z4o z99 (aget e 7) h x K:=zkz
def zc8 (q3 q6:ACode):ACode:=.pr [7,9,11] (.seq (.seq (rg [mV 123 9,
lN 124 123,
mV 125 (cI 0)] [7,11,123,124,125])
(.block 2 (.loop (.scope q3))))
q6)
def z4p:ACode:=zc8 z4n z6i
def z5E (C:Hd) (gl:GL) (q3 q6:ACode) (v7 v9 v11:AV) (h:Heap) (x:Esc) (K:KT):Prop:=
 pK (oLen v9) fun t1=>
 NW C gl (.loop (.scope q3)) ⟨[(7,v7),(11,v11),(123,v9),(124,t1),(125,(AI 0))],h,x⟩ (z0q 2 (seqN C gl q6 K))
theorem zk0 {C gl q3 q6 e h x K}:NW C gl (zc8 q3 q6) ⟨e,h,x⟩ K=z5E C gl q3 q6 (aget e 7) (aget e 9) (aget e 11) h x K:=by kernel_rfl
theorem z8V {C gl e h x K}:NW C gl z4p ⟨e,h,x⟩ K=z5E C gl z4n z6i (aget e 7) (aget e 9) (aget e 11) h x K:=zk0
def zv7 (q2 q7:ACode):ACode:=(.seq (rg [mV 2 cF] [0])
(.seq (rg [mV 21 0,
uO 22 (.build [.sl0 none,.p (.int .i64 0)] [(0,1,21)]),
uO 23 (.box 22),
mV 3 23] [3])
(.seq (rg [mV 24 3,
cL 25 zaI [24],
mV 26 3,
mV 27 3,
cL 28 z1D [27,(cI 0),(cI 20)],
cL 29 zaH [26,28],
mV 30 3,
cL 31 z1D [30,(cI 0),(cI 150)],
uO 4 (.alloc [.sl0 none,.p (.int .i64 0)]),
wO (.store (some 2) 4 25),
mV 5 29,
mV 6 31] [4,5,6])
(.seq (rg [lD 33 (some 2) 4,
mV 34 5,
mV 35 6,
cL 36 zaW [33,34,35],
mV 32 36,
eX 37 32 0,
eX 38 32 1,
mV 7 37,
mV 8 38] [4,5,6,7,8])
(.seq (rg [lD 40 (some 2) 4,
mV 41 5,
mV 42 6,
cL 43 zaV [40,41,42],
mV 39 43,
eX 44 39 0,
eX 45 39 1,
mV 9 44,
mV 10 45] [4,5,6,7,8,9,10])
(.seq (.seq (rg [mV 46 8,
mV 47 10,
uO 48 (.bsl false none 2 (.int .i64 0) [(0,46),(1,47)]),
cL 49 z7w [48],
bN 50 .neq 49 (cI 0),
mV 51 50,
gD 52 51 false (.mv 9),
gD 53 51 false (.len 52),
gD 54 51 false (.bin .neq 53 (cI 5)),
uO 55 (.pick 51 cT 54)] [4,5,6,7,9,55])
(.cond 55 (.seq (rg [mV 2 cF] [2])
.ret)
.skip))
(.seq (rg [uO 11 (.alloc [.p (.int .i64 0),.p (.int .i64 0),.p (.int .i64 0),.p (.int .i64 0),.p (.int .i64 0),.p (.int .i64 0)])] [4,5,6,7,9,11])
(.seq (.seq (rg [uO 56 (.bsl false none 4 (.str []) [(0,(cS [98,49])),(1,(cS [98,50])),(2,(cS [98,51])),(3,(cS [98,52]))]),
lN 57 56,
mV 58 (cI 0)] [4,5,6,7,9,11,56,57,58])
(.block 0 (.loop (.scope q2))))
q7))))))))
def zls:AFun:=⟨1,[.t 2],zv7 z2V z4p,false,false⟩
def zhd (C:Hd) (gl:GL) (q2 q7:ACode) (v0:AV) (h:Heap) (x:Esc) (K:KT):Prop:=
 pK (z07 [.sl0 none,.p (.int .i64 0)] [(0,1,v0)]) fun t1=>
 wK (oBox t1 h) fun t2 h3 y4=>
 C zaI [t2] h3 fun t5 h6 y7=>
 C z1D [t2,(AI 0),(AI 20)] h6 fun t8 h9 y10=>
 C zaH [t2,t8] h9 fun t11 h12 y13=>
 C z1D [t2,(AI 0),(AI 150)] h12 fun t14 h15 y16=>
 alK [.sl0 none,.p (.int .i64 0)] h15 fun t17 h18 y19=>
 wK (z0m (some 2) t17 t5 h18) fun t20 h21 y22=>
 pK (z0e (some 2) t17 h21) fun t23=>
 C zaW [t23,t11,t14] h21 fun t24 h25 y26=>
 pK (oExt t24 0) fun t27=>
 pK (oExt t24 1) fun t28=>
 pK (z0e (some 2) t17 h25) fun t29=>
 C zaV [t29,t11,t14] h25 fun t30 h31 y32=>
 pK (oExt t30 0) fun t33=>
 pK (oExt t30 1) fun t34=>
 wK (oBsl false none 2 (.int .i64 0) [(0,t28),(1,t34)] h31) fun t35 h36 y37=>
 C z7w [t35] h36 fun t38 h39 y40=>
 pK (oBin .neq t38 (AI 0)) fun t41=>
 gM t41 false t33 h39 fun t42 h43 y44=>
 gP t41 false (oLen t42) h43 fun t45 h46 y47=>
 gP t41 false (oBin .neq t45 (AI 5)) h46 fun t48 h49 y50=>
 pK (z0G t41 (AB true) t48) fun t51=>
 z0j t51 (K .ret ⟨[(2,(AB false))],h49,(y50++(y47++(y44++(y40++(y37++(y32++(y26++(y22++(y19++(y16++(y13++(y10++(y7++(y4++x))))))))))))))⟩)
 (alK [.p (.int .i64 0),.p (.int .i64 0),.p (.int .i64 0),.p (.int .i64 0),.p (.int .i64 0),.p (.int .i64 0)] h49 fun t52 h53 y54=>
 wK (oBsl false none 4 (.str []) [(0,(.p (.str [98,49]))),(1,(.p (.str [98,50]))),(2,(.p (.str [98,51]))),(3,(.p (.str [98,52])))] h53) fun t55 h56 y57=>
 pK (oLen t55) fun t58=>
 NW C gl (.loop (.scope q2)) ⟨[(4,t17),(5,t11),(6,t14),(7,t27),(9,t33),(11,t52),(56,t55),(57,t58),(58,(AI 0))],h56,(y57++(y54++(y50++(y47++(y44++(y40++(y37++(y32++(y26++(y22++(y19++(y16++(y13++(y10++(y7++(y4++x))))))))))))))))⟩ (z0q 0 (seqN C gl q7 K)))
theorem E_q022 {C gl q2 q7 v0 h x K}:NW C gl (zv7 q2 q7) ⟨enter [v0],h,x⟩ K=zhd C gl q2 q7 v0 h x K:=by kernel_rfl
theorem e_q022 {C gl v0 h x K}:NW C gl zls.body ⟨enter [v0],h,x⟩ K=zhd C gl z2V z4p v0 h x K:=E_q022
def P_q02n:ACode:=(.seq (rg [uO 2 (.alloc [.sl0 none,.p (.int .i64 0)])] [0,2])
(.seq (dr [dF (uO 3 (.bsl false none 3 (.str []) [(0,(cS [115,99,97,110])),(1,(cS [102,108,97,115,104])),(2,(cS [98,117,114,110]))])) [],
dF (mV 4 0) [0],
dA (cL 5 z1D [4,(cI 1),(cI 3)]) [4] true [] [0],
dF (uO 6 (.slice none 3 none (some 5) none)) [3,5],
dF (mV 7 0) [0],
dA (cL 8 z1D [7,(cI 1),(cI 3)]) [7] true [] [0,3],
dF (uO 9 (.build [.sl0 none,.p (.int .i64 0)] [(0,1,6),(1,1,8)])) [6,8],
dT (wO (.store (some 2) 2 9)) [2,9]] [2])
.ret))
def zl1:AFun:=⟨1,[.cell 2 (some 2)],P_q02n,false,false⟩
def zmI (C:Hd) (gl:GL) (v0:AV) (h:Heap) (x:Esc) (K:KT):Prop:=
 alK [.sl0 none,.p (.int .i64 0)] h fun t1 h2 y3=>
 wK (oBsl false none 3 (.str []) [(0,(.p (.str [115,99,97,110]))),(1,(.p (.str [102,108,97,115,104]))),(2,(.p (.str [98,117,114,110])))] h2) fun t4 h5 y6=>
 (h5=h2∧y6=[])∧(z1h C z1D [v0,(AI 1),(AI 3)] h5 fun t7 h8 y9=>
 (wK (oBsl false none 3 (.str []) [(0,(.p (.str [115,99,97,110]))),(1,(.p (.str [102,108,97,115,104]))),(2,(.p (.str [98,117,114,110])))] h8) (fun u (g1:Heap) (y1:Esc)=>u=t4∧g1=h8∧y1=[]))∧(pK (z5g none t4 none (some t7) none h8) fun t10=>
 z1h C z1D [v0,(AI 1),(AI 3)] h8 fun t11 h12 y13=>
 (wK (oBsl false none 3 (.str []) [(0,(.p (.str [115,99,97,110]))),(1,(.p (.str [102,108,97,115,104]))),(2,(.p (.str [98,117,114,110])))] h12) (fun u (g1:Heap) (y1:Esc)=>u=t4∧g1=h12∧y1=[]))∧((pK (z5g none t4 none (some t7) none h12) fun v=>(fun u (g1:Heap) (y1:Esc)=>u=t10∧g1=h12∧y1=[]) v h12 [])∧(pK (z07 [.sl0 none,.p (.int .i64 0)] [(0,1,t10),(1,1,t11)]) fun t14=>
 wK (z0m (some 2) t1 t14 h12) fun t15 h16 y17=>
 K .ret ⟨[(2,t1)],h16,(y17++(y13++(y9++(y6++(y3++x)))))⟩))))
theorem e_q02n {C gl v0 h x K}:NW C gl zl1.body ⟨enter [v0],h,x⟩ K=zmI C gl v0 h x K:=by kernel_rfl
def z2Y:ACode:=.pr [0,1,6] (.seq (rg [bN 7 .lss 6 (cI 8)] [0,1,6,7])
(.seq (.cond 7 .skip
(.exit 0))
(.seq (.block 1 (.seq (rg [mV 8 0,
mV 9 1,
cL 10 zaG [8,9],
mV 5 10] [0,1,5,6])
(.seq (rg [mV 11 5,
cL 12 zaJ [11],
bN 13 .eql 12 (cI 0)] [0,1,5,6,13])
(.cond 13 (.seq (rg [mV 14 5,
mV 4 14] [4])
.ret)
.skip))))
(rg [bN 15 .add 6 (cI 1),
mV 6 15] [0,1,6]))))
def zd0 (C:Hd) (gl:GL) (v0 v1 v6:AV) (h:Heap) (x:Esc) (K:KT):Prop:=
 pK (oBin .lss v6 (AI 8)) fun t1=>
 z0j t1 (C zaG [v0,v1] h fun t2 h3 y4=>
 C zaJ [t2] h3 fun t5 h6 y7=>
 pK (oBin .eql t5 (AI 0)) fun t8=>
 z0j t8 (K .ret ⟨[(4,t2)],h6,(y7++(y4++x))⟩)
 (pK (oBin .add v6 (AI 1)) fun t9=>
 K .normal ⟨[(0,v0),(1,v1),(6,t9)],h6,(y7++(y4++x))⟩))
 (K (.exit 0) ⟨[(0,v0),(1,v1),(6,v6),(7,t1)],h,x⟩)
theorem zn6 {C gl e h x K}:NW C gl z2Y ⟨e,h,x⟩ K=zd0 C gl (aget e 0) (aget e 1) (aget e 6) h x K:=by kernel_rfl
theorem zp5 {C gl e h x K}:NW C gl (.loop z2Y) ⟨e,h,x⟩ K=z0Z C gl z2Y K [(0,aget e 0),(1,aget e 1),(6,aget e 6)] h x:=z06
def z6o:ACode:=.pr [] (.seq (rg [mV 4 (.c (.p (.sl (some 8) [])))] [4])
.ret)
def zd1 (C:Hd) (gl:GL) (h:Heap) (x:Esc) (K:KT):Prop:=
 K .ret ⟨[(4,(.p (.sl (some 8) [])))],h,x⟩
theorem zn7 {C gl e h x K}:NW C gl z6o ⟨e,h,x⟩ K=zd1 C gl h x K:=by kernel_rfl
def zvB (q1 q2:ACode):ACode:=(.seq (rg [mV 4 (.c (.p (.sl (some 8) [])))] [0,1])
(.seq (.seq (rg [mV 6 (cI 0)] [0,1,6])
(.block 0 (.loop q1)))
q2))
def zl0:AFun:=⟨2,[.t 4],zvB z2Y z6o,false,false⟩
def zhi (C:Hd) (gl:GL) (q1 q2:ACode) (v0 v1:AV) (h:Heap) (x:Esc) (K:KT):Prop:=
 NW C gl (.loop q1) ⟨[(0,v0),(1,v1),(6,(AI 0))],h,x⟩ (z0q 0 (seqN C gl q2 K))
theorem E_q02m {C gl q1 q2 v0 v1 h x K}:NW C gl (zvB q1 q2) ⟨enter [v0,v1],h,x⟩ K=zhi C gl q1 q2 v0 v1 h x K:=by kernel_rfl
theorem e_q02m {C gl v0 v1 h x K}:NW C gl zl0.body ⟨enter [v0,v1],h,x⟩ K=zhi C gl z2Y z6o v0 v1 h x K:=E_q02m
def P_q02l:ACode:=(.seq (rg [mV 6 (cI 0)] [0,1,2])
(.seq (.seq (rg [mV 7 2,
mV 8 1,
bN 9 .lss 7 8] [0,1,2,9])
(.cond 9 (.seq (rg [mV 10 1,
mV 6 10] [6])
.ret)
.skip))
(.seq (rg [mV 11 1,
mV 12 0,
mV 13 2,
mV 14 1,
bN 15 .sub 13 14,
bN 16 .add 15 (cI 1),
cL 17 z1T [12,16],
bN 18 .add 11 17,
mV 6 18] [6])
.ret)))
def zlz:AFun:=⟨3,[.t 6],P_q02l,false,false⟩
def zmH (C:Hd) (gl:GL) (v0 v1 v2:AV) (h:Heap) (x:Esc) (K:KT):Prop:=
 pK (oBin .lss v2 v1) fun t1=>
 z0j t1 (K .ret ⟨[(6,v1)],h,x⟩)
 (pK (oBin .sub v2 v1) fun t2=>
 pK (oBin .add t2 (AI 1)) fun t3=>
 C z1T [v0,t3] h fun t4 h5 y6=>
 pK (oBin .add v1 t4) fun t7=>
 K .ret ⟨[(6,t7)],h5,(y6++x)⟩)
theorem e_q02l {C gl v0 v1 v2 h x K}:NW C gl zlz.body ⟨enter [v0,v1,v2],h,x⟩ K=zmH C gl v0 v1 v2 h x K:=by kernel_rfl
def z3l:ACode:=.pr [9,10,30,31,32] (.seq (rg [bN 33 .lss 32 31] [9,10,30,31,32,33])
(.seq (.cond 33 .skip
(.exit 0))
(.seq (.block 1 (.seq (rg [iA 34 none 30 32,
lD 35 none 34,
mV 12 35] [9,10,12,30,31,32])
(rg [mV 36 10,
mV 37 12,
mV 38 9,
uO 39 (.nilchk 38),
fA 40 3 none 39,
lD 41 none 40,
mV 42 12,
uO 43 (.look (none,[2]) false (.p (.str [])) 41 42),
uO 44 (.build [.p (.str []),.p (.str [])] [(0,1,37),(1,1,43)]),
uO 45 (.bsl false (some 2) 1 (.agg [.str [],.str []]) [(0,44)]),
uO 46 (.app (some 2) 36 45),
mV 10 46] [9,10,30,31,32])))
(rg [bN 47 .add 32 (cI 1),
mV 32 47] [9,10,30,31,32]))))
def zdW (C:Hd) (gl:GL) (v9 v10 v30 v31 v32:AV) (h:Heap) (x:Esc) (K:KT):Prop:=
 pK (oBin .lss v32 v31) fun t1=>
 z0j t1 (pK (z0r none v30 v32 h) fun t2=>
 pK (z0e none t2 h) fun t3=>
 pK (oNil v9) fun t4=>
 pK (z0d 3 none t4) fun t5=>
 pK (z0e none t5 h) fun t6=>
 pK (z0L (none,[2]) false (.p (.str [])) t6 t3 h) fun t7=>
 pK (z07 [.p (.str []),.p (.str [])] [(0,1,t3),(1,1,t7)]) fun t8=>
 wK (oBsl false (some 2) 1 (.agg [.str [],.str []]) [(0,t8)] h) fun t9 h10 y11=>
 wK (oApp (some 2) v10 t9 h10) fun t12 h13 y14=>
 pK (oBin .add v32 (AI 1)) fun t15=>
 K .normal ⟨[(9,v9),(10,t12),(30,v30),(31,v31),(32,t15)],h13,(y14++(y11++x))⟩)
 (K (.exit 0) ⟨[(9,v9),(10,v10),(30,v30),(31,v31),(32,v32),(33,t1)],h,x⟩)
theorem zoh {C gl e h x K}:NW C gl z3l ⟨e,h,x⟩ K=zdW C gl (aget e 9) (aget e 10) (aget e 30) (aget e 31) (aget e 32) h x K:=by kernel_rfl
theorem zpO {C gl e h x K}:NW C gl (.loop (.scope z3l)) ⟨e,h,x⟩ K=z0Z C gl (.scope z3l) K [(9,aget e 9),(10,aget e 10),(30,aget e 30),(31,aget e 31),(32,aget e 32)] h x:=z13
def z6z:ACode:=.pr [10] (.seq (rg [mV 48 10,
mV 6 48,
mV 7 (cI 0)] [6,7])
.ret)
def zdX (C:Hd) (gl:GL) (v10:AV) (h:Heap) (x:Esc) (K:KT):Prop:=
 K .ret ⟨[(6,v10),(7,(AI 0))],h,x⟩
theorem zoi {C gl e h x K}:NW C gl z6z ⟨e,h,x⟩ K=zdX C gl (aget e 10) h x K:=by kernel_rfl
def zvP (q1 q2:ACode):ACode:=(.seq (rg [uO 3 (.box 0),
mV 6 (.c (.p (.sl (some 2) []))),
mV 7 (cI 0)] [1,2,3])
(.seq (.seq (rg [lD 13 (some 2) 3,
mV 14 1,
mV 15 2,
cL 16 z2P [13,14,15],
mV 8 16] [1,2,3,8])
(.seq (rg [mV 17 8,
bN 18 .neq 17 (cI 0)] [1,2,3,8,18])
(.cond 18 (.seq (rg [mV 19 8,
mV 6 (.c (.p (.sl (some 2) []))),
mV 7 19] [6,7])
.ret)
.skip)))
(.seq (dr [dF (lD 20 (some 2) 3) [3],
dF (mV 21 1) [1],
dF (mV 22 2) [2],
dA (cL 23 z2Q [21,22]) [21,22] true [] [0],
dT (cL 24 z1H [20,23]) [20,23],
dF (mV 9 24) [24]] [9])
(.seq (rg [uO 10 (.new0 (some 2))] [9,10])
(.seq (.seq (rg [mV 25 9,
uO 26 (.nilchk 25),
fA 27 3 none 26,
lD 28 none 27,
cL 29 zaD [28],
cL 30 zhE [29],
lN 31 30,
mV 32 (cI 0)] [9,10,30,31,32])
(.block 0 (.loop (.scope q1))))
q2)))))
def zlO:AFun:=⟨3,[.t 6,.t 7],zvP z3l z6z,false,false⟩
def zdV (C:Hd) (gl:GL) (q1 q2:ACode) (v0 v1 v2:AV) (h:Heap) (x:Esc) (K:KT):Prop:=
 wK (oBox v0 h) fun t1 h2 y3=>
 pK (z0e (some 2) t1 h2) fun t4=>
 C z2P [t4,v1,v2] h2 fun t5 h6 y7=>
 pK (oBin .neq t5 (AI 0)) fun t8=>
 z0j t8 (K .ret ⟨[(6,(.p (.sl (some 2) []))),(7,t5)],h6,(y7++(y3++x))⟩)
 (pK (z0e (some 2) t1 h6) fun t9=>
 z1h C z2Q [v1,v2] h6 fun t10 h11 y12=>
 (pK (z0e (some 2) t1 h11) fun v=>(fun u (g1:Heap) (y1:Esc)=>u=t9∧g1=h11∧y1=[]) v h11 [])∧(z1h C z1H [t9,t10] h11 fun t13 h14 y15=>
 nwK (some 2) h14 fun t16 h17 y18=>
 pK (oNil t13) fun t19=>
 pK (z0d 3 none t19) fun t20=>
 pK (z0e none t20 h17) fun t21=>
 C zaD [t21] h17 fun t22 h23 y24=>
 C zhE [t22] h23 fun t25 h26 y27=>
 pK (oLen t25) fun t28=>
 NW C gl (.loop (.scope q1)) ⟨[(9,t13),(10,t16),(30,t25),(31,t28),(32,(AI 0))],h26,(y27++(y24++(y18++(y15++(y12++(y7++(y3++x)))))))⟩ (z0q 0 (seqN C gl q2 K))))
theorem E_q05p {C gl q1 q2 v0 v1 v2 h x K}:NW C gl (zvP q1 q2) ⟨enter [v0,v1,v2],h,x⟩ K=zdV C gl q1 q2 v0 v1 v2 h x K:=by kernel_rfl
theorem e_q05p {C gl v0 v1 v2 h x K}:NW C gl zlO.body ⟨enter [v0,v1,v2],h,x⟩ K=zdV C gl z3l z6z v0 v1 v2 h x K:=E_q05p
def z3k:ACode:=.pr [9,30] (.seq (rg [uO 31 (.mnext none [30]),
eX 32 31 0] [9,30,32])
(.seq (.cond 32 .skip
(.exit 0))
(.block 1 (.seq (rg [uO 33 (.mentry 30),
eX 34 33 1,
mV 11 34] [9,11,30])
(rg [mV 35 9,
mV 36 11,
uO 37 (.nilchk 36),
fA 38 0 none 37,
lD 39 none 38,
uO 40 (.look (none,[0]) false (AI 0) 35 39),
bN 41 .add 40 (cI 1),
wO (.mupd (none,[0]) 35 39 41)] [9,30])))))
def zdS (C:Hd) (gl:GL) (v9 v30:AV) (h:Heap) (x:Esc) (K:KT):Prop:=
 nxK v30 h fun t1 h2 y3=>
 pK (oExt t1 0) fun t4=>
 z0j t4 (wK (z3C v30 h2) fun t5 h6 y7=>
 pK (oExt t5 1) fun t8=>
 pK (oNil t8) fun t9=>
 pK (z0d 0 none t9) fun t10=>
 pK (z0e none t10 h6) fun t11=>
 pK (z0L (none,[0]) false (AI 0) v9 t11 h6) fun t12=>
 pK (oBin .add t12 (AI 1)) fun t13=>
 wK (z1v (none,[0]) v9 t11 t13 h6) fun t14 h15 y16=>
 K .normal ⟨[(9,v9),(30,v30)],h15,(y16++(y7++(y3++x)))⟩)
 (K (.exit 0) ⟨[(9,v9),(30,v30),(32,t4)],h2,(y3++x)⟩)
theorem zod {C gl e h x K}:NW C gl z3k ⟨e,h,x⟩ K=zdS C gl (aget e 9) (aget e 30) h x K:=by kernel_rfl
theorem zpM {C gl e h x K}:NW C gl (.loop z3k) ⟨e,h,x⟩ K=z0Z C gl z3k K [(9,aget e 9),(30,aget e 30)] h x:=z06
def z4y:ACode:=.pr [9,12,13] (.seq (.seq (rg [mV 42 13,
bN 43 .leq 42 (cI 5)] [9,12,13,43])
(.cond 43 .skip
(.exit 2)))
(.seq (.block 3 (dr [dF (mV 46 12) [12],
dF (mV 47 13) [13],
dT (cL 48 zaZ [47]) [47],
dF (mV 49 9) [9],
dF (mV 50 13) [13],
dA (uO 51 (.look (none,[0]) false (AI 0) 49 50)) [49,50] false [2] [],
dT (cL 52 z70 [51]) [51],
dF (uO 53 (.build [.p (.str []),.p (.str [])] [(0,1,48),(1,1,52)])) [48,52],
dF (uO 54 (.bsl false (some 2) 1 (.agg [.str [],.str []]) [(0,53)])) [53],
dT (uO 55 (.app (some 2) 46 54)) [46,54],
dF (mV 12 55) [55]] [9,12,13]))
(rg [mV 44 13,
bN 45 .add 44 (cI 1),
mV 13 45] [9,12,13])))
def zdT (C:Hd) (gl:GL) (v9 v12 v13:AV) (h:Heap) (x:Esc) (K:KT):Prop:=
 pK (oBin .leq v13 (AI 5)) fun t1=>
 z0j t1 (z1h C zaZ [v13] h fun t2 h3 y4=>
 pK (z0L (none,[0]) false (AI 0) v9 v13 h3) fun t5=>
 (pK (z0L (none,[0]) false (AI 0) v9 v13 h) fun v=>(fun u (g1:Heap) (y1:Esc)=>u=t5∧g1=h∧y1=[]) v h [])∧(z1h C z70 [t5] h3 fun t6 h7 y8=>
 pK (z07 [.p (.str []),.p (.str [])] [(0,1,t2),(1,1,t6)]) fun t9=>
 wK (oBsl false (some 2) 1 (.agg [.str [],.str []]) [(0,t9)] h7) fun t10 h11 y12=>
 (h11=h7∧y12=[])∧(wK (oApp (some 2) v12 t10 h11) fun t13 h14 y15=>
 pK (oBin .add v13 (AI 1)) fun t16=>
 K .normal ⟨[(9,v9),(12,t13),(13,t16)],h14,(y15++(y12++(y8++(y4++x))))⟩)))
 (K (.exit 2) ⟨[(9,v9),(12,v12),(13,v13),(43,t1)],h,x⟩)
theorem zoe {C gl e h x K}:NW C gl z4y ⟨e,h,x⟩ K=zdT C gl (aget e 9) (aget e 12) (aget e 13) h x K:=by kernel_rfl
theorem zpN {C gl e h x K}:NW C gl (.loop (.scope z4y)) ⟨e,h,x⟩ K=z0Z C gl (.scope z4y) K [(9,aget e 9),(12,aget e 12),(13,aget e 13)] h x:=z13
def z9I:ACode:=.pr [12] (.seq (rg [mV 56 12,
mV 6 56,
mV 7 (cI 0)] [6,7])
.ret)
def zdU (C:Hd) (gl:GL) (v12:AV) (h:Heap) (x:Esc) (K:KT):Prop:=
 K .ret ⟨[(6,v12),(7,(AI 0))],h,x⟩
theorem zof {C gl e h x K}:NW C gl z9I ⟨e,h,x⟩ K=zdU C gl (aget e 12) h x K:=by kernel_rfl
def zcL (q2 q3:ACode):ACode:=.pr [9] (.seq (rg [uO 12 (.new0 (some 2))] [9,12])
(.seq (.seq (rg [mV 13 (cI 1)] [9,12,13])
(.block 2 (.loop (.scope q2))))
q3))
def z6y:ACode:=zcL z4y z9I
def z8K (C:Hd) (gl:GL) (q2 q3:ACode) (v9:AV) (h:Heap) (x:Esc) (K:KT):Prop:=
 nwK (some 2) h fun t1 h2 y3=>
 NW C gl (.loop (.scope q2)) ⟨[(9,v9),(12,t1),(13,(AI 1))],h2,(y3++x)⟩ (z0q 2 (seqN C gl q3 K))
theorem zkD {C gl q2 q3 e h x K}:NW C gl (zcL q2 q3) ⟨e,h,x⟩ K=z8K C gl q2 q3 (aget e 9) h x K:=by kernel_rfl
theorem zog {C gl e h x K}:NW C gl z6y ⟨e,h,x⟩ K=z8K C gl z4y z9I (aget e 9) h x K:=zkD
def zvO (q1 q4:ACode):ACode:=(.det (.seq (rg [uO 3 (.box 0),
mV 6 (.c (.p (.sl (some 2) []))),
mV 7 (cI 0)] [1,2,3])
(.seq (.seq (rg [lD 14 (some 2) 3,
mV 15 1,
mV 16 2,
cL 17 z2P [14,15,16],
mV 8 17] [1,2,3,8])
(.seq (rg [mV 18 8,
bN 19 .neq 18 (cI 0)] [1,2,3,8,19])
(.cond 19 (.seq (rg [mV 20 8,
mV 6 (.c (.p (.sl (some 2) []))),
mV 7 20] [6,7])
.ret)
.skip)))
(.seq (rg [uO 21 (.mkmap),
mV 9 21] [1,2,3,9])
(.seq (.seq (dr [dF (lD 22 (some 2) 3) [3],
dF (mV 23 1) [1],
dF (mV 24 2) [2],
dA (cL 25 z2Q [23,24]) [23,24] true [] [0],
dT (cL 26 z1H [22,25]) [22,25],
dF (uO 27 (.nilchk 26)) [26],
dF (fA 28 2 none 27) [27],
dF (lD 29 none 28) [28],
dT (uO 30 (.mrange 29)) [29]] [9,30])
(.block 0 (.loop q1)))
q4)))))
def zlN:AFun:=⟨3,[.t 6,.t 7],zvO z3k z6y,false,false⟩
def zhr (C:Hd) (gl:GL) (q1 q4:ACode) (v0 v1 v2:AV) (h:Heap) (x:Esc) (K:KT):Prop:=
 wK (oBox v0 h) fun t1 h2 y3=>
 pK (z0e (some 2) t1 h2) fun t4=>
 C z2P [t4,v1,v2] h2 fun t5 h6 y7=>
 pK (oBin .neq t5 (AI 0)) fun t8=>
 z0j t8 (K .ret ⟨[(6,(.p (.sl (some 2) []))),(7,t5)],h6,(y7++(y3++x))⟩)
 (mmK h6 fun t9 h10 y11=>
 pK (z0e (some 2) t1 h10) fun t12=>
 z1h C z2Q [v1,v2] h10 fun t13 h14 y15=>
 (pK (z0e (some 2) t1 h14) fun v=>(fun u (g1:Heap) (y1:Esc)=>u=t12∧g1=h14∧y1=[]) v h14 [])∧(z1h C z1H [t12,t13] h14 fun t16 h17 y18=>
 pK (oNil t16) fun t19=>
 pK (z0d 2 none t19) fun t20=>
 pK (z0e none t20 h17) fun t21=>
 wK (z3D t21 h17) fun t22 h23 y24=>
 NW C gl (.loop q1) ⟨[(9,t9),(30,t22)],h23,(y24++(y18++(y15++(y11++(y7++(y3++x))))))⟩ (z0q 0 (seqN C gl q4 K))))
theorem E_q05j {C gl q1 q4 v0 v1 v2 h x K}:NW C gl (zvO q1 q4) ⟨enter [v0,v1,v2],h,x⟩ K=zhr C gl q1 q4 v0 v1 v2 h x K:=by kernel_rfl
theorem e_q05j {C gl v0 v1 v2 h x K}:NW C gl zlN.body ⟨enter [v0,v1,v2],h,x⟩ K=zhr C gl z3k z6y v0 v1 v2 h x K:=E_q05j
def z2W:ACode:=.pr [5,6,7] (.seq (rg [bN 8 .lss 7 6] [5,6,7,8])
(.seq (.cond 8 .skip
(.exit 0))
(.seq (.block 1 (.seq (rg [iA 9 none 5 7,
lD 10 none 9,
mV 4 10] [4,5,6,7])
(.seq (rg [mV 11 4,
bN 12 .neq 11 (cI 0)] [4,5,6,7,12])
(.cond 12 (.seq (rg [mV 13 4,
mV 2 13] [2])
.ret)
.skip))))
(rg [bN 14 .add 7 (cI 1),
mV 7 14] [5,6,7]))))
def zdt (C:Hd) (gl:GL) (v5 v6 v7:AV) (h:Heap) (x:Esc) (K:KT):Prop:=
 pK (oBin .lss v7 v6) fun t1=>
 z0j t1 (pK (z0r none v5 v7 h) fun t2=>
 pK (z0e none t2 h) fun t3=>
 pK (oBin .neq t3 (AI 0)) fun t4=>
 z0j t4 (K .ret ⟨[(2,t3)],h,x⟩)
 (pK (oBin .add v7 (AI 1)) fun t5=>
 K .normal ⟨[(5,v5),(6,v6),(7,t5)],h,x⟩))
 (K (.exit 0) ⟨[(5,v5),(6,v6),(7,v7),(8,t1)],h,x⟩)
theorem znz {C gl e h x K}:NW C gl z2W ⟨e,h,x⟩ K=zdt C gl (aget e 5) (aget e 6) (aget e 7) h x K:=by kernel_rfl
theorem zp3 {C gl e h x K}:NW C gl (.loop z2W) ⟨e,h,x⟩ K=z0Z C gl z2W K [(5,aget e 5),(6,aget e 6),(7,aget e 7)] h x:=z06
def z6j:ACode:=.pr [] (.seq (rg [mV 2 (cI 0)] [2])
.ret)
def zdu (C:Hd) (gl:GL) (h:Heap) (x:Esc) (K:KT):Prop:=
 K .ret ⟨[(2,(AI 0))],h,x⟩
theorem zn0 {C gl e h x K}:NW C gl z6j ⟨e,h,x⟩ K=zdu C gl h x K:=by kernel_rfl
def zv8 (q1 q2:ACode):ACode:=(.seq (rg [mV 2 (cI 0)] [0])
(.seq (.seq (rg [mV 5 0,
lN 6 5,
mV 7 (cI 0)] [5,6,7])
(.block 0 (.loop q1)))
q2))
def zg1:AFun:=⟨1,[.t 2],zv8 z2W z6j,false,false⟩
def zhe (C:Hd) (gl:GL) (q1 q2:ACode) (v0:AV) (h:Heap) (x:Esc) (K:KT):Prop:=
 pK (oLen v0) fun t1=>
 NW C gl (.loop q1) ⟨[(5,v0),(6,t1),(7,(AI 0))],h,x⟩ (z0q 0 (seqN C gl q2 K))
theorem E_q023 {C gl q1 q2 v0 h x K}:NW C gl (zv8 q1 q2) ⟨enter [v0],h,x⟩ K=zhe C gl q1 q2 v0 h x K:=by kernel_rfl
theorem e_q023 {C gl v0 h x K}:NW C gl zg1.body ⟨enter [v0],h,x⟩ K=zhe C gl z2W z6j v0 h x K:=E_q023
def P_q05l:ACode:=(.seq (rg [uO 4 (.box 0),
uO 8 (.alloc [.p (.int .i64 0),.p (.int .i64 0),.p (.str []),.p (.str []),.p (.int .i64 0)]),
mV 9 (cI 0)] [1,2,3,4,8])
(.seq (.seq (rg [lD 12 (some 2) 4,
mV 13 1,
mV 14 3,
cL 15 z2P [12,13,14],
mV 10 15] [1,2,3,4,8,10])
(.seq (rg [mV 16 10,
bN 17 .neq 16 (cI 0)] [1,2,3,4,8,10,17])
(.cond 17 (.seq (rg [uO 18 (.build [.p (.int .i64 0),.p (.int .i64 0),.p (.str []),.p (.str []),.p (.int .i64 0)] []),
mV 19 10,
wO (.store (some 5) 8 18),
mV 9 19] [8,9])
.ret)
.skip)))
(.seq (.seq (rg [mV 20 2,
cL 21 z17 [20],
uO 22 (.un .not 21)] [1,2,3,4,8,22])
(.cond 22 (.seq (rg [uO 23 (.build [.p (.int .i64 0),.p (.int .i64 0),.p (.str []),.p (.str []),.p (.int .i64 0)] []),
wO (.store (some 5) 8 23),
mV 9 (cI 5)] [8,9])
.ret)
.skip))
(.seq (dr [dF (lD 24 (some 2) 4) [4],
dF (mV 25 1) [1],
dF (mV 26 3) [3],
dA (cL 27 z2Q [25,26]) [25,26] true [] [0],
dT (cL 28 z1H [24,27]) [24,27],
dF (uO 29 (.nilchk 28)) [28],
dF (fA 30 2 none 29) [29],
dF (lD 31 none 30) [30],
dF (mV 32 2) [2],
dF (uO 33 (.look (none,[2]) false (.nilp) 31 32)) [31,32],
dF (mV 11 33) [33]] [8,11])
(.seq (.seq (rg [mV 34 11,
uO 35 (.isnil 0 false 34)] [8,11,35])
(.cond 35 (.seq (rg [uO 36 (.build [.p (.int .i64 0),.p (.int .i64 0),.p (.str []),.p (.str []),.p (.int .i64 0)] []),
wO (.store (some 5) 8 36),
mV 9 (cI 8)] [8,9])
.ret)
.skip))
(.seq (rg [mV 37 11,
uO 38 (.nilchk 37),
lD 39 (some 5) 38,
wO (.store (some 5) 8 39),
mV 9 (cI 0)] [8,9])
.ret))))))
def zg6:AFun:=⟨4,[.cell 8 (some 5),.t 9],P_q05l,false,false⟩
def za8 (C:Hd) (gl:GL) (v0 v1 v2 v3:AV) (h:Heap) (x:Esc) (K:KT):Prop:=
 wK (oBox v0 h) fun t1 h2 y3=>
 alK [.p (.int .i64 0),.p (.int .i64 0),.p (.str []),.p (.str []),.p (.int .i64 0)] h2 fun t4 h5 y6=>
 pK (z0e (some 2) t1 h5) fun t7=>
 C z2P [t7,v1,v3] h5 fun t8 h9 y10=>
 pK (oBin .neq t8 (AI 0)) fun t11=>
 z0j t11 (pK (z07 [.p (.int .i64 0),.p (.int .i64 0),.p (.str []),.p (.str []),.p (.int .i64 0)] []) fun t12=>
 wK (z0m (some 5) t4 t12 h9) fun t13 h14 y15=>
 K .ret ⟨[(8,t4),(9,t8)],h14,(y15++(y10++(y6++(y3++x))))⟩)
 (C z17 [v2] h9 fun t16 h17 y18=>
 pK (oUn .not t16) fun t19=>
 z0j t19 (pK (z07 [.p (.int .i64 0),.p (.int .i64 0),.p (.str []),.p (.str []),.p (.int .i64 0)] []) fun t20=>
 wK (z0m (some 5) t4 t20 h17) fun t21 h22 y23=>
 K .ret ⟨[(8,t4),(9,(AI 5))],h22,(y23++(y18++(y10++(y6++(y3++x)))))⟩)
 (pK (z0e (some 2) t1 h17) fun t24=>
 z1h C z2Q [v1,v3] h17 fun t25 h26 y27=>
 (pK (z0e (some 2) t1 h26) fun v=>(fun u (g1:Heap) (y1:Esc)=>u=t24∧g1=h26∧y1=[]) v h26 [])∧(z1h C z1H [t24,t25] h26 fun t28 h29 y30=>
 pK (oNil t28) fun t31=>
 pK (z0d 2 none t31) fun t32=>
 pK (z0e none t32 h29) fun t33=>
 pK (z0L (none,[2]) false (.nilp) t33 v2 h29) fun t34=>
 pK (zbm 0 false t34) fun t35=>
 z0j t35 (pK (z07 [.p (.int .i64 0),.p (.int .i64 0),.p (.str []),.p (.str []),.p (.int .i64 0)] []) fun t36=>
 wK (z0m (some 5) t4 t36 h29) fun t37 h38 y39=>
 K .ret ⟨[(8,t4),(9,(AI 8))],h38,(y39++(y30++(y27++(y18++(y10++(y6++(y3++x)))))))⟩)
 (pK (oNil t34) fun t40=>
 pK (z0e (some 5) t40 h29) fun t41=>
 wK (z0m (some 5) t4 t41 h29) fun t42 h43 y44=>
 K .ret ⟨[(8,t4),(9,(AI 0))],h43,(y44++(y30++(y27++(y18++(y10++(y6++(y3++x)))))))⟩))))
theorem e_q05l {C gl v0 v1 v2 v3 h x K}:NW C gl zg6.body ⟨enter [v0,v1,v2,v3],h,x⟩ K=za8 C gl v0 v1 v2 v3 h x K:=by kernel_rfl
def P_q03w:ACode:=(.seq (rg [uO 3 (.box 1),
mV 4 cF] [0,3])
(.seq (rg [mV 5 0,
lD 6 (some 2) 3,
cL 7 zaQ [5,6],
bN 8 .geq 7 (cI 0),
mV 4 8] [4])
.ret))
def zlE:AFun:=⟨2,[.t 4],P_q03w,true,false⟩
def zmO (C:Hd) (gl:GL) (v0 v1:AV) (h:Heap) (x:Esc) (K:KT):Prop:=
 wK (oBox v1 h) fun t1 h2 y3=>
 pK (z0e (some 2) t1 h2) fun t4=>
 C zaQ [v0,t4] h2 fun t5 h6 y7=>
 pK (oBin .geq t5 (AI 0)) fun t8=>
 K .ret ⟨[(4,t8)],h6,(y7++(y3++x))⟩
theorem e_q03w {C gl v0 v1 h x K}:NW C gl zlE.body ⟨enter [v0,v1],h,x⟩ K=zmO C gl v0 v1 h x K:=by kernel_rfl
def P_q05r:ACode:=(.seq (rg [uO 4 (.box 0),
mV 8 (.c (.p (.sl none []))),
mV 9 (cI 0)] [1,2,3,4])
(.seq (.seq (rg [lD 11 (some 2) 4,
mV 12 1,
mV 13 2,
mV 14 3,
cL 15 zba [11,12,13,14],
mV 10 15] [1,2,3,4,10])
(.seq (rg [mV 16 10,
bN 17 .neq 16 (cI 0)] [1,2,3,4,10,17])
(.cond 17 (.seq (rg [mV 18 10,
mV 8 (.c (.p (.sl none []))),
mV 9 18] [8,9])
.ret)
.skip)))
(.seq (dr [dF (lD 19 (some 2) 4) [4],
dF (mV 20 1) [1],
dF (mV 21 3) [3],
dA (cL 22 z2Q [20,21]) [20,21] true [] [0],
dT (cL 23 z1H [19,22]) [19,22],
dF (mV 24 2) [2],
dT (cL 25 zaY [23,24]) [23,24],
dF (mV 8 25) [25],
dF (mV 9 (cI 0)) []] [8,9])
.ret)))
def zlP:AFun:=⟨4,[.t 8,.t 9],P_q05r,false,false⟩
def zhs (C:Hd) (gl:GL) (v0 v1 v2 v3:AV) (h:Heap) (x:Esc) (K:KT):Prop:=
 wK (oBox v0 h) fun t1 h2 y3=>
 pK (z0e (some 2) t1 h2) fun t4=>
 C zba [t4,v1,v2,v3] h2 fun t5 h6 y7=>
 pK (oBin .neq t5 (AI 0)) fun t8=>
 z0j t8 (K .ret ⟨[(8,(.p (.sl none []))),(9,t5)],h6,(y7++(y3++x))⟩)
 (pK (z0e (some 2) t1 h6) fun t9=>
 z1h C z2Q [v1,v3] h6 fun t10 h11 y12=>
 (pK (z0e (some 2) t1 h11) fun v=>(fun u (g1:Heap) (y1:Esc)=>u=t9∧g1=h11∧y1=[]) v h11 [])∧(z1h C z1H [t9,t10] h11 fun t13 h14 y15=>
 z1h C zaY [t13,v2] h14 fun t16 h17 y18=>
 K .ret ⟨[(8,t16),(9,(AI 0))],h17,(y18++(y15++(y12++(y7++(y3++x)))))⟩))
theorem e_q05r {C gl v0 v1 v2 v3 h x K}:NW C gl zlP.body ⟨enter [v0,v1,v2,v3],h,x⟩ K=zhs C gl v0 v1 v2 v3 h x K:=by kernel_rfl
def P_q03y:ACode:=(.seq (rg [mV 4 cF] [0,1])
(.seq (rg [mV 5 0,
mV 6 1,
cL 7 z5O [5,6],
bN 8 .geq 7 (cI 0),
mV 4 8] [4])
.ret))
def zg2:AFun:=⟨2,[.t 4],P_q03y,true,false⟩
def zmP (C:Hd) (gl:GL) (v0 v1:AV) (h:Heap) (x:Esc) (K:KT):Prop:=
 C z5O [v0,v1] h fun t1 h2 y3=>
 pK (oBin .geq t1 (AI 0)) fun t4=>
 K .ret ⟨[(4,t4)],h2,(y3++x)⟩
theorem e_q03y {C gl v0 v1 h x K}:NW C gl zg2.body ⟨enter [v0,v1],h,x⟩ K=zmP C gl v0 v1 h x K:=by kernel_rfl
def z4q:ACode:=.pr [0,5,6,7,9,11,12] (.seq (rg [fA 55 3 none 9,
lD 56 none 55,
bN 57 .eql 56 (cI 2)] [0,5,6,7,9,11,12,57])
(.cond 57 (rg [mV 58 0,
uO 59 (.bsl false none 4 (.str []) [(0,(cS [115,99,97,110])),(1,(cS [115,99,97,110])),(2,(cS [102,108,97,115,104])),(3,(cS [98,117,114,110]))]),
cL 60 z1p [58,59],
fA 61 5 none 9,
wO (.store none 61 60)] [0,5,6,7,9,11,12])
.skip))
def zdw (C:Hd) (gl:GL) (v0 v5 v6 v7 v9 v11 v12:AV) (h:Heap) (x:Esc) (K:KT):Prop:=
 pK (z0d 3 none v9) fun t1=>
 pK (z0e none t1 h) fun t2=>
 pK (oBin .eql t2 (AI 2)) fun t3=>
 z0j t3 (wK (oBsl false none 4 (.str []) [(0,(.p (.str [115,99,97,110]))),(1,(.p (.str [115,99,97,110]))),(2,(.p (.str [102,108,97,115,104]))),(3,(.p (.str [98,117,114,110])))] h) fun t4 h5 y6=>
 C z1p [v0,t4] h5 fun t7 h8 y9=>
 pK (z0d 5 none v9) fun t10=>
 wK (z0m none t10 t7 h8) fun t11 h12 y13=>
 K .normal ⟨[(0,v0),(5,v5),(6,v6),(7,v7),(9,v9),(11,v11),(12,v12)],h12,(y13++(y9++(y6++x)))⟩)
 (K .normal ⟨[(0,v0),(5,v5),(6,v6),(7,v7),(9,v9),(11,v11),(12,v12),(57,t3)],h,x⟩)
theorem z8W {C gl e h x K}:NW C gl z4q ⟨e,h,x⟩ K=zdw C gl (aget e 0) (aget e 5) (aget e 6) (aget e 7) (aget e 9) (aget e 11) (aget e 12) h x K:=by kernel_rfl
def z6l:ACode:=.pr [0,5,6,7,9,11,12] (rg [mV 111 5,
lD 112 (some 8) 9,
uO 113 (.bsl false (some 8) 1 (.agg [.str [],.int .i64 0,.int .i64 0,.int .i64 0,.str [],.str [],.str [],.int .i64 0]) [(0,112)]),
uO 114 (.app (some 8) 111 113),
mV 5 114] [0,5,6,7,11,12])
def zdx (C:Hd) (gl:GL) (v0 v5 v6 v7 v9 v11 v12:AV) (h:Heap) (x:Esc) (K:KT):Prop:=
 pK (z0e (some 8) v9 h) fun t1=>
 wK (oBsl false (some 8) 1 (.agg [.str [],.int .i64 0,.int .i64 0,.int .i64 0,.str [],.str [],.str [],.int .i64 0]) [(0,t1)] h) fun t2 h3 y4=>
 wK (oApp (some 8) v5 t2 h3) fun t5 h6 y7=>
 K .normal ⟨[(0,v0),(5,t5),(6,v6),(7,v7),(11,v11),(12,v12)],h6,(y7++(y4++x))⟩
theorem zn2 {C gl e h x K}:NW C gl z6l ⟨e,h,x⟩ K=zdx C gl (aget e 0) (aget e 5) (aget e 6) (aget e 7) (aget e 9) (aget e 11) (aget e 12) h x K:=by kernel_rfl
def zc9 (q2:ACode):ACode:=.pr [0,5,6,7,9,11,12] (.seq (.seq (rg [mV 71 0,
cL 72 z4a [71,(cI 100)]] [0,5,6,7,9,11,12,72])
(.cond 72 (.seq (rg [mV 73 0,
cL 74 z1T [73,(cI 3)]] [0,5,6,7,9,11,12,74])
(.block 3 (.seq (rg [bN 83 .eql 74 (cI 0),
mV 82 83] [0,5,6,7,9,11,12,74,82])
(.cond 82 (rg [mV 84 0,
fA 85 0 none 9,
lD 86 none 85,
uO 87 (.bsl false none 2 (.str []) [(0,(cS [])),(1,86)]),
cL 88 z1p [84,87],
mV 89 0,
cL 90 z2N [89,(cI 1),(cI 9)],
mV 91 0,
cL 92 z2N [91,(cI 0),(cI 100)],
fA 93 0 none 9,
wO (.store none 93 88),
fA 94 1 none 9,
wO (.store none 94 90),
fA 95 2 none 9,
wO (.store none 95 92)] [0,5,6,7,9,11,12])
(.seq (rg [bN 97 .eql 74 (cI 1),
mV 96 97] [0,5,6,7,9,11,12,96])
(.cond 96 (dr [dF (mV 98 0) [0],
dT (cL 99 z2N [98,(cI 1),(cI 7)]) [98],
dF (mV 100 0) [0],
dF (fA 101 4 none 9) [9],
dA (lD 102 none 101) [101] false [1] [],
dA (uO 103 (.bsl false none 3 (.str []) [(0,(cS [])),(1,(cS [65])),(2,102)])) [102] false [1] [],
dT (cL 104 z1p [100,103]) [100,103],
dF (mV 105 0) [0],
dA (uO 106 (.bsl false none 2 (.str []) [(0,(cS [])),(1,(cS [115,99,97,110]))])) [] false [1,6] [],
dT (cL 107 z1p [105,106]) [105,106],
dF (fA 108 3 none 9) [9],
dT (wO (.store none 108 99)) [108,99],
dF (fA 109 4 none 9) [9],
dT (wO (.store none 109 104)) [109,104],
dF (fA 110 5 none 9) [9],
dT (wO (.store none 110 107)) [110,107]] [0,5,6,7,9,11,12])
(rg [mV 75 0,
uO 76 (.bsl false none 2 (.str []) [(0,(cS [])),(1,(cS [115,97]))]),
cL 77 z1p [75,76],
mV 78 0,
cL 79 z2N [78,(cI 0),(cI 5)],
fA 80 6 none 9,
wO (.store none 80 77),
fA 81 7 none 9,
wO (.store none 81 79)] [0,5,6,7,9,11,12])))))))
.skip))
q2)
def z4r:ACode:=zc9 z6l
def z10 (C:Hd) (gl:GL) (q2:ACode) (v0 v5 v6 v7 v9 v11 v12:AV) (h:Heap) (x:Esc) (K:KT):Prop:=
 C z4a [v0,(AI 100)] h fun t1 h2 y3=>
 z0j t1 (C z1T [v0,(AI 3)] h2 fun t4 h5 y6=>
 pK (oBin .eql t4 (AI 0)) fun t7=>
 z0j t7 (pK (z0d 0 none v9) fun t8=>
 pK (z0e none t8 h5) fun t9=>
 wK (oBsl false none 2 (.str []) [(0,(.p (.str []))),(1,t9)] h5) fun t10 h11 y12=>
 C z1p [v0,t10] h11 fun t13 h14 y15=>
 C z2N [v0,(AI 1),(AI 9)] h14 fun t16 h17 y18=>
 C z2N [v0,(AI 0),(AI 100)] h17 fun t19 h20 y21=>
 pK (z0d 0 none v9) fun t22=>
 wK (z0m none t22 t13 h20) fun t23 h24 y25=>
 pK (z0d 1 none v9) fun t26=>
 wK (z0m none t26 t16 h24) fun t27 h28 y29=>
 pK (z0d 2 none v9) fun t30=>
 wK (z0m none t30 t19 h28) fun t31 h32 y33=>
 NW C gl q2 ⟨[(0,v0),(5,v5),(6,v6),(7,v7),(9,v9),(11,v11),(12,v12)],h32,(y33++(y29++(y25++(y21++(y18++(y15++(y12++(y6++(y3++x)))))))))⟩ K)
 (pK (oBin .eql t4 (AI 1)) fun t34=>
 z0j t34 (z1h C z2N [v0,(AI 1),(AI 7)] h5 fun t35 h36 y37=>
 pK (z0d 4 none v9) fun t38=>
 pK (z0e none t38 h36) fun t39=>
 (pK (z0e none t38 h5) fun v=>(fun u (g1:Heap) (y1:Esc)=>u=t39∧g1=h5∧y1=[]) v h5 [])∧(wK (oBsl false none 3 (.str []) [(0,(.p (.str []))),(1,(.p (.str [65]))),(2,t39)] h36) fun t40 h41 y42=>
 (h41=h36∧y42=[])∧((wK (oBsl false none 3 (.str []) [(0,(.p (.str []))),(1,(.p (.str [65]))),(2,t39)] h5) (fun u (g1:Heap) (y1:Esc)=>u=t40∧g1=h5∧y1=[]))∧(z1h C z1p [v0,t40] h41 fun t43 h44 y45=>
 wK (oBsl false none 2 (.str []) [(0,(.p (.str []))),(1,(.p (.str [115,99,97,110])))] h44) fun t46 h47 y48=>
 (h47=h44∧y48=[])∧((wK (oBsl false none 2 (.str []) [(0,(.p (.str []))),(1,(.p (.str [115,99,97,110])))] h5) (fun u (g1:Heap) (y1:Esc)=>u=t46∧g1=h5∧y1=[]))∧((wK (oBsl false none 2 (.str []) [(0,(.p (.str []))),(1,(.p (.str [115,99,97,110])))] h41) (fun u (g1:Heap) (y1:Esc)=>u=t46∧g1=h41∧y1=[]))∧(z1h C z1p [v0,t46] h47 fun t49 h50 y51=>
 pK (z0d 3 none v9) fun t52=>
 wK (z0m none t52 t35 h50) fun t53 h54 y55=>
 pK (z0d 4 none v9) fun t56=>
 wK (z0m none t56 t43 h54) fun t57 h58 y59=>
 pK (z0d 5 none v9) fun t60=>
 wK (z0m none t60 t49 h58) fun t61 h62 y63=>
 NW C gl q2 ⟨[(0,v0),(5,v5),(6,v6),(7,v7),(9,v9),(11,v11),(12,v12)],h62,(y63++(y59++(y55++(y51++(y48++(y45++(y42++(y37++(y6++(y3++x))))))))))⟩ K)))))))
 (wK (oBsl false none 2 (.str []) [(0,(.p (.str []))),(1,(.p (.str [115,97])))] h5) fun t64 h65 y66=>
 C z1p [v0,t64] h65 fun t67 h68 y69=>
 C z2N [v0,(AI 0),(AI 5)] h68 fun t70 h71 y72=>
 pK (z0d 6 none v9) fun t73=>
 wK (z0m none t73 t67 h71) fun t74 h75 y76=>
 pK (z0d 7 none v9) fun t77=>
 wK (z0m none t77 t70 h75) fun t78 h79 y80=>
 NW C gl q2 ⟨[(0,v0),(5,v5),(6,v6),(7,v7),(9,v9),(11,v11),(12,v12)],h79,(y80++(y76++(y72++(y69++(y66++(y6++(y3++x)))))))⟩ K)))
 (NW C gl q2 ⟨[(0,v0),(5,v5),(6,v6),(7,v7),(9,v9),(11,v11),(12,v12),(72,t1)],h2,(y3++x)⟩ K)
theorem zk1 {C gl q2 e h x K}:NW C gl (zc9 q2) ⟨e,h,x⟩ K=z10 C gl q2 (aget e 0) (aget e 5) (aget e 6) (aget e 7) (aget e 9) (aget e 11) (aget e 12) h x K:=by kernel_rfl
theorem z2M {C gl e h x K}:NW C gl z4r ⟨e,h,x⟩ K=z10 C gl z6l (aget e 0) (aget e 5) (aget e 6) (aget e 7) (aget e 9) (aget e 11) (aget e 12) h x K:=zk1
def zcA (q1 q3:ACode):ACode:=.pr [0,5,6,7,8,9,11,12] (.seq (rg [mV 31 7,
fA 32 0 none 9,
lD 33 none 32,
uO 34 (.look (none,[2]) false (AI 0) 31 33),
bN 35 .add 34 (cI 1),
wO (.mupd (none,[2]) 31 33 35)] [0,5,6,7,8,9,11,12])
(.seq (rg [mV 36 7,
fA 37 0 none 9,
lD 38 none 37,
uO 39 (.look (none,[2]) false (AI 0) 36 38),
fA 40 1 none 9,
wO (.store none 40 39)] [0,5,6,7,8,9,11,12])
(.seq (.seq (rg [fA 41 3 none 9,
lD 42 none 41] [0,5,6,7,8,9,11,12,42])
(.block 2 (.seq (rg [bN 63 .eql 42 (cI 7),
mV 62 63] [0,5,6,7,8,9,11,12,62])
(.cond 62 (rg [mV 64 0,
uO 65 (.bsl false none 2 (.str []) [(0,(cS [115,97])),(1,(cS [115,98]))]),
cL 66 z1p [64,65],
mV 67 0,
cL 68 z1D [67,(cI 1),(cI 8)],
fA 69 6 none 9,
wO (.store none 69 66),
fA 70 7 none 9,
wO (.store none 70 68)] [0,5,6,7,9,11,12])
(.seq (rg [uO 43 (.bsl false none 3 (.str []) [(0,(cS [98,49])),(1,(cS [98,50])),(2,(cS [98,51]))]),
mV 44 8,
bN 45 .rem 44 (cI 3),
iA 46 none 43 45,
lD 47 none 46,
fA 48 4 none 9,
wO (.store none 48 47)] [0,5,6,7,8,9,11,12])
(.seq (.seq (rg [mV 49 8,
bN 50 .geq 49 (cI 3)] [0,5,6,7,9,11,12,50])
(.cond 50 (rg [mV 51 0,
uO 52 (.bsl false none 5 (.str []) [(0,(cS [98,49])),(1,(cS [98,49])),(2,(cS [98,50])),(3,(cS [98,51])),(4,(cS [98,52]))]),
cL 53 z1p [51,52],
fA 54 4 none 9,
wO (.store none 54 53)] [0,5,6,7,9,11,12])
.skip))
q1))))))
q3)))
def z6m:ACode:=zcA z4q z4r
def z2h (C:Hd) (gl:GL) (q1 q3:ACode) (v0 v5 v6 v7 v8 v9 v11 v12:AV) (h:Heap) (x:Esc) (K:KT):Prop:=
 pK (z0d 0 none v9) fun t1=>
 pK (z0e none t1 h) fun t2=>
 pK (z0L (none,[2]) false (AI 0) v7 t2 h) fun t3=>
 pK (oBin .add t3 (AI 1)) fun t4=>
 wK (z1v (none,[2]) v7 t2 t4 h) fun t5 h6 y7=>
 pK (z0d 0 none v9) fun t8=>
 pK (z0e none t8 h6) fun t9=>
 pK (z0L (none,[2]) false (AI 0) v7 t9 h6) fun t10=>
 pK (z0d 1 none v9) fun t11=>
 wK (z0m none t11 t10 h6) fun t12 h13 y14=>
 pK (z0d 3 none v9) fun t15=>
 pK (z0e none t15 h13) fun t16=>
 pK (oBin .eql t16 (AI 7)) fun t17=>
 z0j t17 (wK (oBsl false none 2 (.str []) [(0,(.p (.str [115,97]))),(1,(.p (.str [115,98])))] h13) fun t18 h19 y20=>
 C z1p [v0,t18] h19 fun t21 h22 y23=>
 C z1D [v0,(AI 1),(AI 8)] h22 fun t24 h25 y26=>
 pK (z0d 6 none v9) fun t27=>
 wK (z0m none t27 t21 h25) fun t28 h29 y30=>
 pK (z0d 7 none v9) fun t31=>
 wK (z0m none t31 t24 h29) fun t32 h33 y34=>
 NW C gl q3 ⟨[(0,v0),(5,v5),(6,v6),(7,v7),(9,v9),(11,v11),(12,v12)],h33,(y34++(y30++(y26++(y23++(y20++(y14++(y7++x)))))))⟩ K)
 (wK (oBsl false none 3 (.str []) [(0,(.p (.str [98,49]))),(1,(.p (.str [98,50]))),(2,(.p (.str [98,51])))] h13) fun t35 h36 y37=>
 pK (oBin .rem v8 (AI 3)) fun t38=>
 pK (z0r none t35 t38 h36) fun t39=>
 pK (z0e none t39 h36) fun t40=>
 pK (z0d 4 none v9) fun t41=>
 wK (z0m none t41 t40 h36) fun t42 h43 y44=>
 pK (oBin .geq v8 (AI 3)) fun t45=>
 z0j t45 (wK (oBsl false none 5 (.str []) [(0,(.p (.str [98,49]))),(1,(.p (.str [98,49]))),(2,(.p (.str [98,50]))),(3,(.p (.str [98,51]))),(4,(.p (.str [98,52])))] h43) fun t46 h47 y48=>
 C z1p [v0,t46] h47 fun t49 h50 y51=>
 pK (z0d 4 none v9) fun t52=>
 wK (z0m none t52 t49 h50) fun t53 h54 y55=>
 NW C gl q1 ⟨[(0,v0),(5,v5),(6,v6),(7,v7),(9,v9),(11,v11),(12,v12)],h54,(y55++(y51++(y48++(y44++(y37++(y14++(y7++x)))))))⟩ (z0q 2 (seqN C gl q3 K)))
 (NW C gl q1 ⟨[(0,v0),(5,v5),(6,v6),(7,v7),(9,v9),(11,v11),(12,v12),(50,t45)],h43,(y44++(y37++(y14++(y7++x))))⟩ (z0q 2 (seqN C gl q3 K))))
theorem zk2 {C gl q1 q3 e h x K}:NW C gl (zcA q1 q3) ⟨e,h,x⟩ K=z2h C gl q1 q3 (aget e 0) (aget e 5) (aget e 6) (aget e 7) (aget e 8) (aget e 9) (aget e 11) (aget e 12) h x K:=by kernel_rfl
theorem z8X {C gl e h x K}:NW C gl z6m ⟨e,h,x⟩ K=z2h C gl z4q z4r (aget e 0) (aget e 5) (aget e 6) (aget e 7) (aget e 8) (aget e 9) (aget e 11) (aget e 12) h x K:=zk2
def z6n:ACode:=.pr [0,5,6,7,11,12] (rg [bN 115 .add 12 (cI 1),
mV 12 115] [0,5,6,7,11,12])
def zdy (C:Hd) (gl:GL) (v0 v5 v6 v7 v11 v12:AV) (h:Heap) (x:Esc) (K:KT):Prop:=
 pK (oBin .add v12 (AI 1)) fun t1=>
 K .normal ⟨[(0,v0),(5,v5),(6,v6),(7,v7),(11,v11),(12,t1)],h,x⟩
theorem zn3 {C gl e h x K}:NW C gl z6n ⟨e,h,x⟩ K=zdy C gl (aget e 0) (aget e 5) (aget e 6) (aget e 7) (aget e 11) (aget e 12) h x K:=by kernel_rfl
def zcB (q4 q5:ACode):ACode:=.pr [0,5,6,7,11,12] (.seq (rg [bN 13 .lss 12 11] [0,5,6,7,11,12,13])
(.seq (.cond 13 .skip
(.exit 0))
(.seq (.block 1 (.seq (rg [mV 14 12,
mV 8 14] [0,5,6,7,8,11,12])
(.seq (rg [mV 15 6,
mV 16 0,
uO 17 (.bsl false none 5 (.int .i64 0) [(0,(cI 0)),(1,(cI 1)),(2,(cI 1)),(3,(cI 3)),(4,(cI 10))]),
cL 18 z2O [16,17],
bN 19 .add 15 18,
mV 6 19] [0,5,6,7,8,11,12])
(.seq (rg [mV 20 0,
uO 21 (.bsl false none 3 (.str []) [(0,(cS [115,97])),(1,(cS [115,97])),(2,(cS [115,98]))]),
cL 22 z1p [20,21],
mV 23 6,
mV 24 0,
uO 25 (.bsl false none 12 (.int .i64 0) [(0,(cI 2)),(1,(cI 2)),(2,(cI 2)),(3,(cI 3)),(4,(cI 3)),(5,(cI 4)),(6,(cI 4)),(7,(cI 5)),(8,(cI 5)),(9,(cI 6)),(10,(cI 7)),(11,(cI 1))]),
cL 26 z2O [24,25],
uO 27 (.build [.p (.str []),.p (.int .i64 0),.p (.int .i64 0),.p (.int .i64 0),.p (.str []),.p (.str []),.p (.str []),.p (.int .i64 0)] [(0,1,22),(2,1,23),(3,1,26)]),
uO 9 (.alloc [.p (.str []),.p (.int .i64 0),.p (.int .i64 0),.p (.int .i64 0),.p (.str []),.p (.str []),.p (.str []),.p (.int .i64 0)]),
wO (.store (some 8) 9 27)] [0,5,6,7,8,9,11,12])
(.seq (.seq (rg [mV 28 8,
bN 29 .lss 28 (cI 3)] [0,5,6,7,8,9,11,12,29])
(.cond 29 (rg [fA 30 3 none 9,
wO (.store none 30 (cI 1))] [0,5,6,7,8,9,11,12])
.skip))
q4)))))
q5)))
def z2X:ACode:=zcB z6m z6n
def z8B (C:Hd) (gl:GL) (q4 q5:ACode) (v0 v5 v6 v7 v11 v12:AV) (h:Heap) (x:Esc) (K:KT):Prop:=
 pK (oBin .lss v12 v11) fun t1=>
 z0j t1 (wK (oBsl false none 5 (.int .i64 0) [(0,(AI 0)),(1,(AI 1)),(2,(AI 1)),(3,(AI 3)),(4,(AI 10))] h) fun t2 h3 y4=>
 C z2O [v0,t2] h3 fun t5 h6 y7=>
 pK (oBin .add v6 t5) fun t8=>
 wK (oBsl false none 3 (.str []) [(0,(.p (.str [115,97]))),(1,(.p (.str [115,97]))),(2,(.p (.str [115,98])))] h6) fun t9 h10 y11=>
 C z1p [v0,t9] h10 fun t12 h13 y14=>
 wK (oBsl false none 12 (.int .i64 0) [(0,(AI 2)),(1,(AI 2)),(2,(AI 2)),(3,(AI 3)),(4,(AI 3)),(5,(AI 4)),(6,(AI 4)),(7,(AI 5)),(8,(AI 5)),(9,(AI 6)),(10,(AI 7)),(11,(AI 1))] h13) fun t15 h16 y17=>
 C z2O [v0,t15] h16 fun t18 h19 y20=>
 pK (z07 [.p (.str []),.p (.int .i64 0),.p (.int .i64 0),.p (.int .i64 0),.p (.str []),.p (.str []),.p (.str []),.p (.int .i64 0)] [(0,1,t12),(2,1,t8),(3,1,t18)]) fun t21=>
 alK [.p (.str []),.p (.int .i64 0),.p (.int .i64 0),.p (.int .i64 0),.p (.str []),.p (.str []),.p (.str []),.p (.int .i64 0)] h19 fun t22 h23 y24=>
 wK (z0m (some 8) t22 t21 h23) fun t25 h26 y27=>
 pK (oBin .lss v12 (AI 3)) fun t28=>
 z0j t28 (pK (z0d 3 none t22) fun t29=>
 wK (z0m none t29 (AI 1) h26) fun t30 h31 y32=>
 NW C gl q4 ⟨[(0,v0),(5,v5),(6,t8),(7,v7),(8,v12),(9,t22),(11,v11),(12,v12)],h31,(y32++(y27++(y24++(y20++(y17++(y14++(y11++(y7++(y4++x)))))))))⟩ (z0q 1 (seqN C gl q5 K)))
 (NW C gl q4 ⟨[(0,v0),(5,v5),(6,t8),(7,v7),(8,v12),(9,t22),(11,v11),(12,v12),(29,t28)],h26,(y27++(y24++(y20++(y17++(y14++(y11++(y7++(y4++x))))))))⟩ (z0q 1 (seqN C gl q5 K))))
 (K (.exit 0) ⟨[(0,v0),(5,v5),(6,v6),(7,v7),(11,v11),(12,v12),(13,t1)],h,x⟩)
theorem zk3 {C gl q4 q5 e h x K}:NW C gl (zcB q4 q5) ⟨e,h,x⟩ K=z8B C gl q4 q5 (aget e 0) (aget e 5) (aget e 6) (aget e 7) (aget e 11) (aget e 12) h x K:=by kernel_rfl
theorem zn4 {C gl e h x K}:NW C gl z2X ⟨e,h,x⟩ K=z8B C gl z6m z6n (aget e 0) (aget e 5) (aget e 6) (aget e 7) (aget e 11) (aget e 12) h x K:=zk3
theorem zp4 {C gl e h x K}:NW C gl (.loop (.scope z2X)) ⟨e,h,x⟩ K=z0Z C gl (.scope z2X) K [(0,aget e 0),(5,aget e 5),(6,aget e 6),(7,aget e 7),(11,aget e 11),(12,aget e 12)] h x:=z13
def z4s:ACode:=.pr [5] (.seq (rg [mV 116 5,
cL 117 zaS [116,(.f z5e)]] [5])
(.seq (rg [mV 118 5,
mV 4 118] [4])
.ret))
def zdz (C:Hd) (gl:GL) (v5:AV) (h:Heap) (x:Esc) (K:KT):Prop:=
 C zaS [v5,(.fn z5e [])] h fun t1 h2 y3=>
 K .ret ⟨[(4,v5)],h2,(y3++x)⟩
theorem zn5 {C gl e h x K}:NW C gl z4s ⟨e,h,x⟩ K=zdz C gl (aget e 5) h x K:=by kernel_rfl
def zvA (q6 q7:ACode):ACode:=(.seq (rg [mV 4 (.c (.p (.sl (some 8) [])))] [0,1])
(.seq (rg [uO 5 (.new0 (some 8))] [0,1,5])
(.seq (rg [mV 6 (cI 0)] [0,1,5,6])
(.seq (rg [uO 10 (.mkmap),
mV 7 10] [0,1,5,6,7])
(.seq (.seq (rg [mV 11 1,
mV 12 (cI 0)] [0,5,6,7,11,12])
(.block 0 (.loop (.scope q6))))
q7)))))
def zlu:AFun:=⟨2,[.t 4],zvA z2X z4s,false,false⟩
def zhg (C:Hd) (gl:GL) (q6 q7:ACode) (v0 v1:AV) (h:Heap) (x:Esc) (K:KT):Prop:=
 nwK (some 8) h fun t1 h2 y3=>
 mmK h2 fun t4 h5 y6=>
 NW C gl (.loop (.scope q6)) ⟨[(0,v0),(5,t1),(6,(AI 0)),(7,t4),(11,v1),(12,(AI 0))],h5,(y6++(y3++x))⟩ (z0q 0 (seqN C gl q7 K))
theorem E_q02f {C gl q6 q7 v0 v1 h x K}:NW C gl (zvA q6 q7) ⟨enter [v0,v1],h,x⟩ K=zhg C gl q6 q7 v0 v1 h x K:=by kernel_rfl
theorem e_q02f {C gl v0 v1 h x K}:NW C gl zlu.body ⟨enter [v0,v1],h,x⟩ K=zhg C gl z2X z4s v0 v1 h x K:=E_q02f
def z2Z:ACode:=.pr [0,11,12,13] (.seq (rg [bN 14 .lss 13 12] [0,11,12,13,14])
(.seq (.cond 14 .skip
(.exit 0))
(.seq (.block 1 (.seq (rg [mV 15 13,
iA 16 (some 8) 11 13,
lD 17 (some 8) 16,
uO 4 (.alloc [.p (.str []),.p (.int .i64 0),.p (.int .i64 0),.p (.int .i64 0),.p (.str []),.p (.str []),.p (.str []),.p (.int .i64 0)]),
mV 3 15,
wO (.store (some 8) 4 17)] [0,3,4,11,12,13])
(.seq (.seq (rg [lD 18 (some 8) 4,
cL 19 zaK [18],
mV 5 19] [0,3,4,5,11,12,13])
(.seq (rg [mV 20 5,
bN 21 .neq 20 (cI 0)] [0,3,4,5,11,12,13,21])
(.cond 21 (.seq (rg [mV 22 5,
mV 2 22] [2])
.ret)
.skip)))
(.seq (dr [dF (mV 23 3) [3],
dF (bN 24 .gtr 23 (cI 0)) [23],
dF (mV 25 24) [24],
dF (gD 26 25 true (.mv 0)) [0,25],
dF (gD 27 25 true (.mv 3)) [3,25],
dF (gD 28 25 true (.bin .sub 27 (cI 1))) [27,25],
dF (gD 29 25 true (.iaddr (some 8) 26 28)) [26,28,25],
dF (gD 30 25 true (.load (some 8) 29)) [29,25],
dF (gD 31 25 true (.load (some 8) 4)) [4,25],
dT (gD 32 25 true (.call z5e [30,31])) [30,31,25],
dF (gD 33 25 true (.bin .geq 32 (cI 0))) [32,25],
dF (uO 34 (.pick 25 33 cF)) [25,33]] [0,11,12,13,34])
(.cond 34 (.seq (rg [mV 2 (cI 7)] [2])
.ret)
.skip)))))
(rg [bN 35 .add 13 (cI 1),
mV 13 35] [0,11,12,13]))))
def zd3 (C:Hd) (gl:GL) (v0 v11 v12 v13:AV) (h:Heap) (x:Esc) (K:KT):Prop:=
 pK (oBin .lss v13 v12) fun t1=>
 z0j t1 (pK (z0r (some 8) v11 v13 h) fun t2=>
 pK (z0e (some 8) t2 h) fun t3=>
 alK [.p (.str []),.p (.int .i64 0),.p (.int .i64 0),.p (.int .i64 0),.p (.str []),.p (.str []),.p (.str []),.p (.int .i64 0)] h fun t4 h5 y6=>
 wK (z0m (some 8) t4 t3 h5) fun t7 h8 y9=>
 pK (z0e (some 8) t4 h8) fun t10=>
 C zaK [t10] h8 fun t11 h12 y13=>
 pK (oBin .neq t11 (AI 0)) fun t14=>
 z0j t14 (K .ret ⟨[(2,t11)],h12,(y13++(y9++(y6++x)))⟩)
 (pK (oBin .gtr v13 (AI 0)) fun t15=>
 gM t15 true v0 h12 fun t16 h17 y18=>
 gM t15 true v13 h17 fun t19 h20 y21=>
 gP t15 true (oBin .sub t19 (AI 1)) h20 fun t22 h23 y24=>
 gP t15 true (z0r (some 8) t16 t22 h23) h23 fun t25 h26 y27=>
 gP t15 true (z0e (some 8) t25 h26) h26 fun t28 h29 y30=>
 gP t15 true (z0e (some 8) t4 h29) h29 fun t31 h32 y33=>
 gV t15 true h32 (z1h C z5e [t28,t31] h32) fun t34 h35 y36=>
 gP t15 true (oBin .geq t34 (AI 0)) h35 fun t37 h38 y39=>
 pK (z0G t15 t37 (AB false)) fun t40=>
 z0j t40 (K .ret ⟨[(2,(AI 7))],h38,(y39++(y36++(y33++(y30++(y27++(y24++(y21++(y18++(y13++(y9++(y6++x)))))))))))⟩)
 (pK (oBin .add v13 (AI 1)) fun t41=>
 K .normal ⟨[(0,v0),(11,v11),(12,v12),(13,t41)],h38,(y39++(y36++(y33++(y30++(y27++(y24++(y21++(y18++(y13++(y9++(y6++x)))))))))))⟩)))
 (K (.exit 0) ⟨[(0,v0),(11,v11),(12,v12),(13,v13),(14,t1)],h,x⟩)
theorem zn8 {C gl e h x K}:NW C gl z2Z ⟨e,h,x⟩ K=zd3 C gl (aget e 0) (aget e 11) (aget e 12) (aget e 13) h x K:=by kernel_rfl
theorem zp6 {C gl e h x K}:NW C gl (.loop (.scope z2Z)) ⟨e,h,x⟩ K=z0Z C gl (.scope z2Z) K [(0,aget e 0),(11,aget e 11),(12,aget e 12),(13,aget e 13)] h x:=z13
def z4t:ACode:=.pr [0,36,37,38] (.seq (rg [bN 39 .lss 38 37] [0,36,37,38,39])
(.seq (.cond 39 .skip
(.exit 2))
(.seq (.block 3 (.seq (rg [mV 40 38,
iA 41 (some 8) 36 38,
lD 42 (some 8) 41,
uO 7 (.alloc [.p (.str []),.p (.int .i64 0),.p (.int .i64 0),.p (.int .i64 0),.p (.str []),.p (.str []),.p (.str []),.p (.int .i64 0)]),
mV 6 40,
wO (.store (some 8) 7 42)] [0,6,7,36,37,38])
(.seq (rg [mV 43 0,
mV 44 6,
uO 45 (.slice (some 8) 43 none (some 44) none),
uO 46 (.mkfn z9g [7]),
cL 47 zaN [45,46]] [0,36,37,38,47])
(.cond 47 (.seq (rg [mV 2 (cI 6)] [2])
.ret)
.skip))))
(rg [bN 48 .add 38 (cI 1),
mV 38 48] [0,36,37,38]))))
def zd4 (C:Hd) (gl:GL) (v0 v36 v37 v38:AV) (h:Heap) (x:Esc) (K:KT):Prop:=
 pK (oBin .lss v38 v37) fun t1=>
 z0j t1 (pK (z0r (some 8) v36 v38 h) fun t2=>
 pK (z0e (some 8) t2 h) fun t3=>
 alK [.p (.str []),.p (.int .i64 0),.p (.int .i64 0),.p (.int .i64 0),.p (.str []),.p (.str []),.p (.str []),.p (.int .i64 0)] h fun t4 h5 y6=>
 wK (z0m (some 8) t4 t3 h5) fun t7 h8 y9=>
 pK (z5g (some 8) v0 none (some v38) none h8) fun t10=>
 C zaN [t10,(.fn z9g [t4])] h8 fun t11 h12 y13=>
 z0j t11 (K .ret ⟨[(2,(AI 6))],h12,(y13++(y9++(y6++x)))⟩)
 (pK (oBin .add v38 (AI 1)) fun t14=>
 K .normal ⟨[(0,v0),(36,v36),(37,v37),(38,t14)],h12,(y13++(y9++(y6++x)))⟩))
 (K (.exit 2) ⟨[(0,v0),(36,v36),(37,v37),(38,v38),(39,t1)],h,x⟩)
theorem zn9 {C gl e h x K}:NW C gl z4t ⟨e,h,x⟩ K=zd4 C gl (aget e 0) (aget e 36) (aget e 37) (aget e 38) h x K:=by kernel_rfl
theorem zp7 {C gl e h x K}:NW C gl (.loop (.scope z4t)) ⟨e,h,x⟩ K=z0Z C gl (.scope z4t) K [(0,aget e 0),(36,aget e 36),(37,aget e 37),(38,aget e 38)] h x:=z13
def z9A:ACode:=.pr [] (.seq (rg [mV 2 (cI 0)] [2])
.ret)
def zd5 (C:Hd) (gl:GL) (h:Heap) (x:Esc) (K:KT):Prop:=
 K .ret ⟨[(2,(AI 0))],h,x⟩
theorem znA {C gl e h x K}:NW C gl z9A ⟨e,h,x⟩ K=zd5 C gl h x K:=by kernel_rfl
def zcC (q2 q3:ACode):ACode:=.pr [0] (.seq (.seq (rg [mV 36 0,
lN 37 36,
mV 38 (cI 0)] [0,36,37,38])
(.block 2 (.loop (.scope q2))))
q3)
def z6p:ACode:=zcC z4t z9A
def z5F (C:Hd) (gl:GL) (q2 q3:ACode) (v0:AV) (h:Heap) (x:Esc) (K:KT):Prop:=
 pK (oLen v0) fun t1=>
 NW C gl (.loop (.scope q2)) ⟨[(0,v0),(36,v0),(37,t1),(38,(AI 0))],h,x⟩ (z0q 2 (seqN C gl q3 K))
theorem zk4 {C gl q2 q3 e h x K}:NW C gl (zcC q2 q3) ⟨e,h,x⟩ K=z5F C gl q2 q3 (aget e 0) h x K:=by kernel_rfl
theorem z8Y {C gl e h x K}:NW C gl z6p ⟨e,h,x⟩ K=z5F C gl z4t z9A (aget e 0) h x K:=zk4
def zvC (q1 q4:ACode):ACode:=(.seq (rg [mV 2 (cI 0)] [0])
(.seq (.seq (rg [mV 8 0,
lN 9 8,
bN 10 .gtr 9 (cI 2000)] [0,10])
(.cond 10 (.seq (rg [mV 2 (cI 2)] [2])
.ret)
.skip))
(.seq (.seq (rg [mV 11 0,
lN 12 11,
mV 13 (cI 0)] [0,11,12,13])
(.block 0 (.loop (.scope q1))))
q4)))
def zl3:AFun:=⟨1,[.t 2],zvC z2Z z6p,false,false⟩
def zd2 (C:Hd) (gl:GL) (q1 q4:ACode) (v0:AV) (h:Heap) (x:Esc) (K:KT):Prop:=
 pK (oLen v0) fun t1=>
 pK (oBin .gtr t1 (AI 2000)) fun t2=>
 z0j t2 (K .ret ⟨[(2,(AI 2))],h,x⟩)
 (pK (oLen v0) fun t3=>
 NW C gl (.loop (.scope q1)) ⟨[(0,v0),(11,v0),(12,t3),(13,(AI 0))],h,x⟩ (z0q 0 (seqN C gl q4 K)))
theorem E_q02r {C gl q1 q4 v0 h x K}:NW C gl (zvC q1 q4) ⟨enter [v0],h,x⟩ K=zd2 C gl q1 q4 v0 h x K:=by kernel_rfl
theorem e_q02r {C gl v0 h x K}:NW C gl zl3.body ⟨enter [v0],h,x⟩ K=zd2 C gl z2Z z6p v0 h x K:=E_q02r
def P_q02i:ACode:=(.seq (rg [mV 4 (cI 0)] [0,1])
(.seq (rg [mV 7 0,
uO 8 (.nilchk 7),
fA 9 1 none 8,
lD 10 none 9,
bN 11 .add 10 (cI 1),
uO 12 (.nilchk 7),
fA 13 1 none 12,
wO (.store none 13 11)] [0,1])
(.seq (.seq (rg [mV 14 0,
uO 15 (.nilchk 14),
fA 16 0 none 15,
lD 17 none 16,
lN 18 17,
bN 19 .eql 18 (cI 0)] [0,1,19])
(.cond 19 (.seq (rg [mV 20 0,
uO 21 (.nilchk 20),
fA 22 1 none 21,
lD 23 none 22,
bN 24 .mul 23 (cI 7919),
mV 25 1,
cL 26 z5d [24,25],
mV 4 26] [4])
.ret)
.skip))
(.seq (dr [dF (mV 27 0) [0],
dF (uO 28 (.nilchk 27)) [27],
dF (fA 29 1 none 28) [28],
dF (lD 30 none 29) [29],
dF (bN 31 .sub 30 (cI 1)) [30],
dF (mV 32 0) [0],
dF (uO 33 (.nilchk 32)) [32],
dF (fA 34 0 none 33) [33],
dF (lD 35 none 34) [34],
dF (lN 36 35) [35],
dF (bN 37 .rem 31 36) [31,36],
dF (mV 5 37) [37]] [0,1,5])
(.seq (dr [dF (mV 38 0) [0],
dF (uO 39 (.nilchk 38)) [38],
dF (fA 40 1 none 39) [39],
dF (lD 41 none 40) [40],
dF (bN 42 .sub 41 (cI 1)) [41],
dF (mV 43 0) [0],
dF (uO 44 (.nilchk 43)) [43],
dF (fA 45 0 none 44) [44],
dF (lD 46 none 45) [45],
dF (lN 47 46) [46],
dF (bN 48 .quo 42 47) [42,47],
dF (mV 6 48) [48]] [0,1,5,6])
(.seq (rg [mV 49 0,
uO 50 (.nilchk 49),
fA 51 0 none 50,
lD 52 none 51,
mV 53 5,
iA 54 none 52 53,
lD 55 none 54,
cL 56 z5d [55,(cI 1073741824)],
mV 57 6,
mV 58 5,
bN 59 .add (cI 7919) 58,
bN 60 .mul 57 59,
bN 61 .add 56 60,
mV 62 1,
cL 63 z5d [61,62],
mV 4 63] [4])
.ret))))))
def zlw:AFun:=⟨2,[.t 4],P_q02i,false,false⟩
def zhh (C:Hd) (gl:GL) (v0 v1:AV) (h:Heap) (x:Esc) (K:KT):Prop:=
 pK (oNil v0) fun t1=>
 pK (z0d 1 none t1) fun t2=>
 pK (z0e none t2 h) fun t3=>
 pK (oBin .add t3 (AI 1)) fun t4=>
 pK (oNil v0) fun t5=>
 pK (z0d 1 none t5) fun t6=>
 wK (z0m none t6 t4 h) fun t7 h8 y9=>
 pK (oNil v0) fun t10=>
 pK (z0d 0 none t10) fun t11=>
 pK (z0e none t11 h8) fun t12=>
 pK (oLen t12) fun t13=>
 pK (oBin .eql t13 (AI 0)) fun t14=>
 z0j t14 (pK (oNil v0) fun t15=>
 pK (z0d 1 none t15) fun t16=>
 pK (z0e none t16 h8) fun t17=>
 pK (oBin .mul t17 (AI 7919)) fun t18=>
 C z5d [t18,v1] h8 fun t19 h20 y21=>
 K .ret ⟨[(4,t19)],h20,(y21++(y9++x))⟩)
 (pK (oNil v0) fun t22=>
 pK (z0d 1 none t22) fun t23=>
 pK (z0e none t23 h8) fun t24=>
 pK (oBin .sub t24 (AI 1)) fun t25=>
 pK (oNil v0) fun t26=>
 pK (z0d 0 none t26) fun t27=>
 pK (z0e none t27 h8) fun t28=>
 pK (oLen t28) fun t29=>
 pK (oBin .rem t25 t29) fun t30=>
 pK (oNil v0) fun t31=>
 pK (z0d 1 none t31) fun t32=>
 pK (z0e none t32 h8) fun t33=>
 pK (oBin .sub t33 (AI 1)) fun t34=>
 pK (oNil v0) fun t35=>
 pK (z0d 0 none t35) fun t36=>
 pK (z0e none t36 h8) fun t37=>
 pK (oLen t37) fun t38=>
 pK (oBin .quo t34 t38) fun t39=>
 pK (oNil v0) fun t40=>
 pK (z0d 0 none t40) fun t41=>
 pK (z0e none t41 h8) fun t42=>
 pK (z0r none t42 t30 h8) fun t43=>
 pK (z0e none t43 h8) fun t44=>
 C z5d [t44,(AI 1073741824)] h8 fun t45 h46 y47=>
 pK (oBin .add (AI 7919) t30) fun t48=>
 pK (oBin .mul t39 t48) fun t49=>
 pK (oBin .add t45 t49) fun t50=>
 C z5d [t50,v1] h46 fun t51 h52 y53=>
 K .ret ⟨[(4,t51)],h52,(y53++(y47++(y9++x)))⟩)
theorem e_q02i {C gl v0 v1 h x K}:NW C gl zlw.body ⟨enter [v0,v1],h,x⟩ K=zhh C gl v0 v1 h x K:=by kernel_rfl
def P_q05v:ACode:=(.seq (rg [uO 3 (.box 0),
mV 6 (cI 0)] [1,2,3])
(.seq (rg [lD 7 (some 2) 3,
cL 8 z9i [7],
mV 9 1,
cL 10 z9h [9],
mV 11 2,
cL 12 z9q [11],
uO 13 (.bsl false none 3 (.int .i64 0) [(0,8),(1,10),(2,12)]),
cL 14 z9d [13],
mV 6 14] [6])
.ret))
def zgA:AFun:=⟨3,[.t 6],P_q05v,false,false⟩
def zmT (C:Hd) (gl:GL) (v0 v1 v2:AV) (h:Heap) (x:Esc) (K:KT):Prop:=
 wK (oBox v0 h) fun t1 h2 y3=>
 pK (z0e (some 2) t1 h2) fun t4=>
 C z9i [t4] h2 fun t5 h6 y7=>
 C z9h [v1] h6 fun t8 h9 y10=>
 C z9q [v2] h9 fun t11 h12 y13=>
 wK (oBsl false none 3 (.int .i64 0) [(0,t5),(1,t8),(2,t11)] h12) fun t14 h15 y16=>
 C z9d [t14] h15 fun t17 h18 y19=>
 K .ret ⟨[(6,t17)],h18,(y19++(y16++(y13++(y10++(y7++(y3++x))))))⟩
theorem e_q05v {C gl v0 v1 v2 h x K}:NW C gl zgA.body ⟨enter [v0,v1,v2],h,x⟩ K=zmT C gl v0 v1 v2 h x K:=by kernel_rfl
end Go.Am
end
section
/- The functions asv abstract code,and asv formulas over their values: printed by program out of the translation. -/
set_option linter.unusedVariables false
set_option maxRecDepth 100000
namespace Go.Am
def z9N:ACode:=.pr [5,6,17,18,19] (rg [bN 59 .add 19 (cI 1),
mV 19 59] [5,6,17,18,19])
def zej (C:Hd) (gl:GL) (v5 v6 v17 v18 v19:AV) (h:Heap) (x:Esc) (K:KT):Prop:=
 pK (oBin .add v19 (AI 1)) fun t1=>
 K .normal ⟨[(5,v5),(6,v6),(17,v17),(18,v18),(19,t1)],h,x⟩
theorem zox {C gl e h x K}:NW C gl z9N ⟨e,h,x⟩ K=zej C gl (aget e 5) (aget e 6) (aget e 17) (aget e 18) (aget e 19) h x K:=by kernel_rfl
def zcQ (q1:ACode):ACode:=.pr [5,6,17,18,19] (.seq (rg [bN 20 .lss 19 18] [5,6,17,18,19,20])
(.seq (.cond 20 .skip
(.exit 0))
(.seq (.block 1 (.seq (rg [mV 21 19,
iA 22 (some 8) 17 19,
lD 23 (some 8) 22,
uO 8 (.alloc [.p (.str []),.p (.int .i64 0),.p (.int .i64 0),.p (.int .i64 0),.p (.str []),.p (.str []),.p (.str []),.p (.int .i64 0)]),
mV 7 21,
wO (.store (some 8) 8 23)] [5,6,7,8,17,18,19])
(.seq (.seq (rg [mV 24 6,
mV 25 7,
iA 26 none 24 25,
lD 27 none 26,
uO 28 (.un .not 27),
mV 29 28,
gD 30 29 false (.faddr 3 none 8),
gD 31 29 false (.load none 30),
gD 32 29 false (.bin .eql 31 (cI 7)),
uO 33 (.pick 29 cT 32)] [5,6,7,8,17,18,19,33])
(.cond 33 (.exit 1)
.skip))
(.seq (rg [mV 34 5,
lD 35 (some 8) 8,
cL 36 z4c [34,35],
mV 9 36] [5,6,7,9,17,18,19])
(.seq (rg [mV 37 9,
bN 38 .neq 37 (cI 0)] [5,6,7,9,17,18,19,38])
(.cond 38 (.seq (rg [mV 39 5,
mV 40 5,
uO 41 (.nilchk 40),
fA 42 6 none 41,
lD 43 none 42,
mV 44 7,
uO 45 (.bsl false none 1 (.int .i64 0) [(0,44)]),
uO 46 (.app none 43 45),
uO 47 (.nilchk 39),
fA 48 6 none 47,
wO (.store none 48 46)] [5,6,9,17,18,19])
(rg [mV 49 5,
mV 50 5,
uO 51 (.nilchk 50),
fA 52 7 none 51,
lD 53 none 52,
mV 54 9,
uO 55 (.bsl false none 1 (.int .i64 0) [(0,54)]),
uO 56 (.app none 53 55),
uO 57 (.nilchk 49),
fA 58 7 none 57,
wO (.store none 58 56)] [5,6,17,18,19]))
.skip))))))
q1)))
def z3p:ACode:=zcQ z9N
def z8P (C:Hd) (gl:GL) (q1:ACode) (v5 v6 v17 v18 v19:AV) (h:Heap) (x:Esc) (K:KT):Prop:=
 pK (oBin .lss v19 v18) fun t1=>
 z0j t1 (pK (z0r (some 8) v17 v19 h) fun t2=>
 pK (z0e (some 8) t2 h) fun t3=>
 alK [.p (.str []),.p (.int .i64 0),.p (.int .i64 0),.p (.int .i64 0),.p (.str []),.p (.str []),.p (.str []),.p (.int .i64 0)] h fun t4 h5 y6=>
 wK (z0m (some 8) t4 t3 h5) fun t7 h8 y9=>
 pK (z0r none v6 v19 h8) fun t10=>
 pK (z0e none t10 h8) fun t11=>
 pK (oUn .not t11) fun t12=>
 gP t12 false (z0d 3 none t4) h8 fun t13 h14 y15=>
 gP t12 false (z0e none t13 h14) h14 fun t16 h17 y18=>
 gP t12 false (oBin .eql t16 (AI 7)) h17 fun t19 h20 y21=>
 pK (z0G t12 (AB true) t19) fun t22=>
 z0j t22 (NW C gl q1 ⟨[(5,v5),(6,v6),(7,v19),(8,t4),(17,v17),(18,v18),(19,v19),(33,t22)],h20,(y21++(y18++(y15++(y9++(y6++x)))))⟩ K)
 (pK (z0e (some 8) t4 h20) fun t23=>
 C z4c [v5,t23] h20 fun t24 h25 y26=>
 pK (oBin .neq t24 (AI 0)) fun t27=>
 z0j t27 (pK (oNil v5) fun t28=>
 pK (z0d 6 none t28) fun t29=>
 pK (z0e none t29 h25) fun t30=>
 wK (oBsl false none 1 (.int .i64 0) [(0,v19)] h25) fun t31 h32 y33=>
 wK (oApp none t30 t31 h32) fun t34 h35 y36=>
 pK (oNil v5) fun t37=>
 pK (z0d 6 none t37) fun t38=>
 wK (z0m none t38 t34 h35) fun t39 h40 y41=>
 pK (oNil v5) fun t42=>
 pK (z0d 7 none t42) fun t43=>
 pK (z0e none t43 h40) fun t44=>
 wK (oBsl false none 1 (.int .i64 0) [(0,t24)] h40) fun t45 h46 y47=>
 wK (oApp none t44 t45 h46) fun t48 h49 y50=>
 pK (oNil v5) fun t51=>
 pK (z0d 7 none t51) fun t52=>
 wK (z0m none t52 t48 h49) fun t53 h54 y55=>
 NW C gl q1 ⟨[(5,v5),(6,v6),(17,v17),(18,v18),(19,v19)],h54,(y55++(y50++(y47++(y41++(y36++(y33++(y26++(y21++(y18++(y15++(y9++(y6++x))))))))))))⟩ K)
 (NW C gl q1 ⟨[(5,v5),(6,v6),(7,v19),(9,t24),(17,v17),(18,v18),(19,v19),(38,t27)],h25,(y26++(y21++(y18++(y15++(y9++(y6++x))))))⟩ K)))
 (K (.exit 0) ⟨[(5,v5),(6,v6),(17,v17),(18,v18),(19,v19),(20,t1)],h,x⟩)
theorem zkI {C gl q1 e h x K}:NW C gl (zcQ q1) ⟨e,h,x⟩ K=z8P C gl q1 (aget e 5) (aget e 6) (aget e 17) (aget e 18) (aget e 19) h x K:=by kernel_rfl
theorem zoy {C gl e h x K}:NW C gl z3p ⟨e,h,x⟩ K=z8P C gl z9N (aget e 5) (aget e 6) (aget e 17) (aget e 18) (aget e 19) h x K:=zkI
theorem zpS {C gl e h x K}:NW C gl (.loop (.scope z3p)) ⟨e,h,x⟩ K=z0Z C gl (.scope z3p) K [(5,aget e 5),(6,aget e 6),(17,aget e 17),(18,aget e 18),(19,aget e 19)] h x:=z13
def z69:ACode:=.pr [5] (.seq (rg [mV 60 5,
mV 4 60] [4])
.ret)
def zek (C:Hd) (gl:GL) (v5:AV) (h:Heap) (x:Esc) (K:KT):Prop:=
 K .ret ⟨[(4,v5)],h,x⟩
theorem zoz {C gl e h x K}:NW C gl z69 ⟨e,h,x⟩ K=zek C gl (aget e 5) h x K:=by kernel_rfl
def zvV (q2 q3:ACode):ACode:=(.seq (rg [uO 2 (.uns 12 0 [0]),
mV 4 (.c (.nilp))] [1,2])
(.seq (rg [lD 10 (some 2) 2,
uO 11 (.mkmap),
uO 12 (.mkmap),
uO 13 (.build [.sl0 none,.p (.int .i64 0),.nilm,.nilm,.sl0 (some 5),.sl0 (some 3),.sl0 none,.sl0 none] [(0,2,10),(2,1,11),(3,1,12)]),
uO 14 (.uns 12 0 [13]),
mV 5 14] [1,5])
(.seq (rg [mV 15 1,
cL 16 z9k [15],
mV 6 16] [1,5,6])
(.seq (.seq (rg [mV 17 1,
lN 18 17,
mV 19 (cI 0)] [5,6,17,18,19])
(.block 0 (.loop (.scope q2))))
q3))))
def zgG:AFun:=⟨2,[.t 4],zvV z3p z69,false,false⟩
def zhw (C:Hd) (gl:GL) (q2 q3:ACode) (v0 v1:AV) (h:Heap) (x:Esc) (K:KT):Prop:=
 wK (z2v 12 0 [v0] h) fun t1 h2 y3=>
 pK (z0e (some 2) t1 h2) fun t4=>
 mmK h2 fun t5 h6 y7=>
 mmK h6 fun t8 h9 y10=>
 pK (z07 [.sl0 none,.p (.int .i64 0),.nilm,.nilm,.sl0 (some 5),.sl0 (some 3),.sl0 none,.sl0 none] [(0,2,t4),(2,1,t5),(3,1,t8)]) fun t11=>
 wK (z2v 12 0 [t11] h9) fun t12 h13 y14=>
 C z9k [v1] h13 fun t15 h16 y17=>
 pK (oLen v1) fun t18=>
 NW C gl (.loop (.scope q2)) ⟨[(5,t12),(6,t15),(17,v1),(18,t18),(19,(AI 0))],h16,(y17++(y14++(y10++(y7++(y3++x)))))⟩ (z0q 0 (seqN C gl q3 K))
theorem E_q064 {C gl q2 q3 v0 v1 h x K}:NW C gl (zvV q2 q3) ⟨enter [v0,v1],h,x⟩ K=zhw C gl q2 q3 v0 v1 h x K:=by kernel_rfl
theorem e_q064 {C gl v0 v1 h x K}:NW C gl zgG.body ⟨enter [v0,v1],h,x⟩ K=zhw C gl z3p z69 v0 v1 h x K:=E_q064
def z3r:ACode:=.pr [0,1,5] (.seq (.seq (rg [mV 8 5,
bN 9 .gtr 8 (cI 0),
mV 10 9,
gD 11 10 true (.mv 0),
gD 12 10 true (.mv 5),
gD 13 10 true (.bin .sub 12 (cI 1)),
gD 14 10 true (.iaddr (some 8) 11 13),
gD 15 10 true (.faddr 2 none 14),
gD 16 10 true (.load none 15),
gD 17 10 true (.mv 1),
gD 18 10 true (.bin .gtr 16 17),
uO 19 (.pick 10 18 cF)] [0,1,5,19])
(.cond 19 .skip
(.exit 0)))
(.block 1 (rg [mV 20 5,
bN 21 .sub 20 (cI 1),
mV 5 21] [0,1,5])))
def zeo (C:Hd) (gl:GL) (v0 v1 v5:AV) (h:Heap) (x:Esc) (K:KT):Prop:=
 pK (oBin .gtr v5 (AI 0)) fun t1=>
 gM t1 true v0 h fun t2 h3 y4=>
 gM t1 true v5 h3 fun t5 h6 y7=>
 gP t1 true (oBin .sub t5 (AI 1)) h6 fun t8 h9 y10=>
 gP t1 true (z0r (some 8) t2 t8 h9) h9 fun t11 h12 y13=>
 gP t1 true (z0d 2 none t11) h12 fun t14 h15 y16=>
 gP t1 true (z0e none t14 h15) h15 fun t17 h18 y19=>
 gM t1 true v1 h18 fun t20 h21 y22=>
 gP t1 true (oBin .gtr t17 t20) h21 fun t23 h24 y25=>
 pK (z0G t1 t23 (AB false)) fun t26=>
 z0j t26 (pK (oBin .sub v5 (AI 1)) fun t27=>
 K .normal ⟨[(0,v0),(1,v1),(5,t27)],h24,(y25++(y22++(y19++(y16++(y13++(y10++(y7++(y4++x))))))))⟩)
 (K (.exit 0) ⟨[(0,v0),(1,v1),(5,v5),(19,t26)],h24,(y25++(y22++(y19++(y16++(y13++(y10++(y7++(y4++x))))))))⟩)
theorem zo3 {C gl e h x K}:NW C gl z3r ⟨e,h,x⟩ K=zeo C gl (aget e 0) (aget e 1) (aget e 5) h x K:=by kernel_rfl
theorem zpU {C gl e h x K}:NW C gl (.loop z3r) ⟨e,h,x⟩ K=z0Z C gl z3r K [(0,aget e 0),(1,aget e 1),(5,aget e 5)] h x:=z06
def z6C:ACode:=.pr [0,5] (.seq (rg [mV 22 0,
mV 23 5,
uO 24 (.slice (some 8) 22 none (some 23) none),
mV 4 24] [4])
.ret)
def zep (C:Hd) (gl:GL) (v0 v5:AV) (h:Heap) (x:Esc) (K:KT):Prop:=
 pK (z5g (some 8) v0 none (some v5) none h) fun t1=>
 K .ret ⟨[(4,t1)],h,x⟩
theorem zo4 {C gl e h x K}:NW C gl z6C ⟨e,h,x⟩ K=zep C gl (aget e 0) (aget e 5) h x K:=by kernel_rfl
def zvY (q1 q2:ACode):ACode:=(.seq (rg [mV 4 (.c (.p (.sl (some 8) [])))] [0,1])
(.seq (rg [mV 6 0,
lN 7 6,
mV 5 7] [0,1,5])
(.seq (.block 0 (.loop q1))
q2)))
def zgJ:AFun:=⟨2,[.t 4],zvY z3r z6C,false,false⟩
def zhz (C:Hd) (gl:GL) (q1 q2:ACode) (v0 v1:AV) (h:Heap) (x:Esc) (K:KT):Prop:=
 pK (oLen v0) fun t1=>
 NW C gl (.loop q1) ⟨[(0,v0),(1,v1),(5,t1)],h,x⟩ (z0q 0 (seqN C gl q2 K))
theorem E_q069 {C gl q1 q2 v0 v1 h x K}:NW C gl (zvY q1 q2) ⟨enter [v0,v1],h,x⟩ K=zhz C gl q1 q2 v0 v1 h x K:=by kernel_rfl
theorem e_q069 {C gl v0 v1 h x K}:NW C gl zgJ.body ⟨enter [v0,v1],h,x⟩ K=zhz C gl z3r z6C v0 v1 h x K:=E_q069
def P_q01s:ACode:=(.seq (rg [uO 1 (.box 0),
mV 2 (.c (.nilf))] [1])
(.seq (rg [uO 3 (.mkfn ze6 [1]),
mV 2 3] [2])
.ret))
def zlp:AFun:=⟨1,[.t 2],P_q01s,false,false⟩
def zmD (C:Hd) (gl:GL) (v0:AV) (h:Heap) (x:Esc) (K:KT):Prop:=
 wK (oBox v0 h) fun t1 h2 y3=>
 K .ret ⟨[(2,(.fn ze6 [t1]))],h2,(y3++x)⟩
theorem e_q01s {C gl v0 h x K}:NW C gl zlp.body ⟨enter [v0],h,x⟩ K=zmD C gl v0 h x K:=by kernel_rfl
def P_q066:ACode:=(.seq (rg [mV 2 (cS [])] [0])
(.seq (rg [uO 3 (.build [.p (.str []),.p (.str []),.p (.str []),.p (.str []),.p (.str [])] [(0,1,(cS [119,97,105,116,115])),(1,1,(cS [114,117,110,115])),(2,1,(cS [102,97,105,108,101,100])),(3,1,(cS [100,111,110,101])),(4,1,(cS [115,99,114,97,112,112,101,100]))]),
mV 4 0,
bN 5 .sub 4 (cI 1),
uO 6 (.idxa 5 none 3 5),
mV 2 6] [2])
.ret))
def zlS:AFun:=⟨1,[.t 2],P_q066,false,false⟩
def z8Q (C:Hd) (gl:GL) (v0:AV) (h:Heap) (x:Esc) (K:KT):Prop:=
 pK (z07 [.p (.str []),.p (.str []),.p (.str []),.p (.str []),.p (.str [])] [(0,1,(.p (.str [119,97,105,116,115]))),(1,1,(.p (.str [114,117,110,115]))),(2,1,(.p (.str [102,97,105,108,101,100]))),(3,1,(.p (.str [100,111,110,101]))),(4,1,(.p (.str [115,99,114,97,112,112,101,100])))]) fun t1=>
 pK (oBin .sub v0 (AI 1)) fun t2=>
 pK (zu7 5 none t1 t2) fun t3=>
 K .ret ⟨[(2,t3)],h,x⟩
theorem e_q066 {C gl v0 h x K}:NW C gl zlS.body ⟨enter [v0],h,x⟩ K=z8Q C gl v0 h x K:=by kernel_rfl
def z2T:ACode:=.pr [0,23,24] (.seq (rg [bN 25 .lss 24 23] [0,23,24,25])
(.seq (.cond 25 .skip
(.exit 0))
(.seq (.block 1 (.seq (rg [mV 26 24,
mV 3 26] [0,3,23,24])
(.seq (rg [mV 27 0,
mV 28 3,
uO 29 (.idxs 27 28),
mV 4 29] [0,4,23,24])
(.seq (rg [mV 30 4,
bN 31 .geq 30 (.c (.p (.int .u8 97))),
mV 32 31,
gD 33 32 true (.mv 4),
gD 34 32 true (.bin .leq 33 (.c (.p (.int .u8 122)))),
uO 35 (.pick 32 34 cF),
mV 36 35,
gD 37 36 false (.mv 4),
gD 38 36 false (.bin .geq 37 (.c (.p (.int .u8 48)))),
gD 39 36 false (.mv 38),
gD 40 39 true (.mv 4),
gD 41 39 true (.bin .leq 40 (.c (.p (.int .u8 57)))),
gD 42 36 false (.pick 39 41 cF),
uO 43 (.pick 36 cT 42),
mV 44 43,
gD 45 44 false (.mv 4),
gD 46 44 false (.bin .eql 45 (.c (.p (.int .u8 45)))),
uO 47 (.pick 44 cT 46),
mV 48 47,
gD 49 48 false (.mv 4),
gD 50 48 false (.bin .eql 49 (.c (.p (.int .u8 95)))),
uO 51 (.pick 48 cT 50),
uO 52 (.un .not 51)] [0,23,24,52])
(.cond 52 (.seq (rg [mV 2 cF] [2])
.ret)
.skip)))))
(rg [bN 53 .add 24 (cI 1),
mV 24 53] [0,23,24]))))
def zdk (C:Hd) (gl:GL) (v0 v23 v24:AV) (h:Heap) (x:Esc) (K:KT):Prop:=
 pK (oBin .lss v24 v23) fun t1=>
 z0j t1 (pK (zcd v0 v24) fun t2=>
 pK (oBin .geq t2 (.p (.int .u8 97))) fun t3=>
 gM t3 true t2 h fun t4 h5 y6=>
 gP t3 true (oBin .leq t4 (.p (.int .u8 122))) h5 fun t7 h8 y9=>
 pK (z0G t3 t7 (AB false)) fun t10=>
 gM t10 false t2 h8 fun t11 h12 y13=>
 gP t10 false (oBin .geq t11 (.p (.int .u8 48))) h12 fun t14 h15 y16=>
 gM t10 false t14 h15 fun t17 h18 y19=>
 gM t17 true t2 h18 fun t20 h21 y22=>
 gP t17 true (oBin .leq t20 (.p (.int .u8 57))) h21 fun t23 h24 y25=>
 gP t10 false (z0G t17 t23 (AB false)) h24 fun t26 h27 y28=>
 pK (z0G t10 (AB true) t26) fun t29=>
 gM t29 false t2 h27 fun t30 h31 y32=>
 gP t29 false (oBin .eql t30 (.p (.int .u8 45))) h31 fun t33 h34 y35=>
 pK (z0G t29 (AB true) t33) fun t36=>
 gM t36 false t2 h34 fun t37 h38 y39=>
 gP t36 false (oBin .eql t37 (.p (.int .u8 95))) h38 fun t40 h41 y42=>
 pK (z0G t36 (AB true) t40) fun t43=>
 pK (oUn .not t43) fun t44=>
 z0j t44 (K .ret ⟨[(2,(AB false))],h41,(y42++(y39++(y35++(y32++(y28++(y25++(y22++(y19++(y16++(y13++(y9++(y6++x))))))))))))⟩)
 (pK (oBin .add v24 (AI 1)) fun t45=>
 K .normal ⟨[(0,v0),(23,v23),(24,t45)],h41,(y42++(y39++(y35++(y32++(y28++(y25++(y22++(y19++(y16++(y13++(y9++(y6++x))))))))))))⟩))
 (K (.exit 0) ⟨[(0,v0),(23,v23),(24,v24),(25,t1)],h,x⟩)
theorem zno {C gl e h x K}:NW C gl z2T ⟨e,h,x⟩ K=zdk C gl (aget e 0) (aget e 23) (aget e 24) h x K:=by kernel_rfl
theorem zpy {C gl e h x K}:NW C gl (.loop z2T) ⟨e,h,x⟩ K=z0Z C gl z2T K [(0,aget e 0),(23,aget e 23),(24,aget e 24)] h x:=z06
def z6f:ACode:=.pr [] (.seq (rg [mV 2 cT] [2])
.ret)
def zdl (C:Hd) (gl:GL) (h:Heap) (x:Esc) (K:KT):Prop:=
 K .ret ⟨[(2,(AB true))],h,x⟩
theorem znp {C gl e h x K}:NW C gl z6f ⟨e,h,x⟩ K=zdl C gl h x K:=by kernel_rfl
def zv4 (q1 q2:ACode):ACode:=(.seq (rg [mV 2 cF] [0])
(.seq (.seq (rg [mV 5 0,
bN 6 .eql 5 (cS []),
mV 7 6,
gD 8 7 false (.mv 0),
gD 9 7 false (.lens 8),
gD 10 7 false (.bin .gtr 9 (cI 40)),
uO 11 (.pick 7 cT 10),
mV 12 11,
gD 13 12 false (.mv 0),
gD 14 12 false (.idxs 13 (cI 0)),
gD 15 12 false (.bin .lss 14 (.c (.p (.int .u8 97)))),
uO 16 (.pick 12 cT 15),
mV 17 16,
gD 18 17 false (.mv 0),
gD 19 17 false (.idxs 18 (cI 0)),
gD 20 17 false (.bin .gtr 19 (.c (.p (.int .u8 122)))),
uO 21 (.pick 17 cT 20)] [0,21])
(.cond 21 (.seq (rg [mV 2 cF] [2])
.ret)
.skip))
(.seq (.seq (rg [mV 22 0,
uO 23 (.lens 22),
mV 24 (cI 0)] [0,23,24])
(.block 0 (.loop q1)))
q2)))
def zgu:AFun:=⟨1,[.t 2],zv4 z2T z6f,false,false⟩
def z7p (C:Hd) (gl:GL) (q1 q2:ACode) (v0:AV) (h:Heap) (x:Esc) (K:KT):Prop:=
 pK (oBin .eql v0 (.p (.str []))) fun t1=>
 gM t1 false v0 h fun t2 h3 y4=>
 gP t1 false (zfV t2) h3 fun t5 h6 y7=>
 gP t1 false (oBin .gtr t5 (AI 40)) h6 fun t8 h9 y10=>
 pK (z0G t1 (AB true) t8) fun t11=>
 gM t11 false v0 h9 fun t12 h13 y14=>
 gP t11 false (zcd t12 (AI 0)) h13 fun t15 h16 y17=>
 gP t11 false (oBin .lss t15 (.p (.int .u8 97))) h16 fun t18 h19 y20=>
 pK (z0G t11 (AB true) t18) fun t21=>
 gM t21 false v0 h19 fun t22 h23 y24=>
 gP t21 false (zcd t22 (AI 0)) h23 fun t25 h26 y27=>
 gP t21 false (oBin .gtr t25 (.p (.int .u8 122))) h26 fun t28 h29 y30=>
 pK (z0G t21 (AB true) t28) fun t31=>
 z0j t31 (K .ret ⟨[(2,(AB false))],h29,(y30++(y27++(y24++(y20++(y17++(y14++(y10++(y7++(y4++x)))))))))⟩)
 (pK (zfV v0) fun t32=>
 NW C gl (.loop q1) ⟨[(0,v0),(23,t32),(24,(AI 0))],h29,(y30++(y27++(y24++(y20++(y17++(y14++(y10++(y7++(y4++x)))))))))⟩ (z0q 0 (seqN C gl q2 K)))
theorem E_q004 {C gl q1 q2 v0 h x K}:NW C gl (zv4 q1 q2) ⟨enter [v0],h,x⟩ K=z7p C gl q1 q2 v0 h x K:=by kernel_rfl
theorem e_q004 {C gl v0 h x K}:NW C gl zgu.body ⟨enter [v0],h,x⟩ K=z7p C gl z2T z6f v0 h x K:=E_q004
def z3c:ACode:=.pr [0,3,7,8] (.seq (rg [bN 9 .lss 8 7] [0,3,7,8,9])
(.seq (.cond 9 .skip
(.exit 0))
(.seq (.block 1 (.seq (rg [mV 10 8,
mV 5 10] [0,3,5,7,8])
(.seq (dr [dF (lD 11 (some 2) 3) [3],
dF (mV 12 0) [0],
dF (mV 13 5) [5],
dF (iA 14 (some 2) 12 13) [12,13],
dF (lD 15 (some 2) 14) [14],
dF (uO 16 (.eqa [2,2] false 11 15)) [11,15]] [0,3,5,7,8,16])
(.cond 16 (.seq (rg [mV 17 5,
mV 4 17] [4])
.ret)
.skip))))
(rg [bN 18 .add 8 (cI 1),
mV 8 18] [0,3,7,8]))))
def zdB (C:Hd) (gl:GL) (v0 v3 v7 v8:AV) (h:Heap) (x:Esc) (K:KT):Prop:=
 pK (oBin .lss v8 v7) fun t1=>
 z0j t1 (pK (z0e (some 2) v3 h) fun t2=>
 pK (z0r (some 2) v0 v8 h) fun t3=>
 pK (z0e (some 2) t3 h) fun t4=>
 pK (oEqa [2,2] false t2 t4) fun t5=>
 z0j t5 (K .ret ⟨[(4,v8)],h,x⟩)
 (pK (oBin .add v8 (AI 1)) fun t6=>
 K .normal ⟨[(0,v0),(3,v3),(7,v7),(8,t6)],h,x⟩))
 (K (.exit 0) ⟨[(0,v0),(3,v3),(7,v7),(8,v8),(9,t1)],h,x⟩)
theorem znG {C gl e h x K}:NW C gl z3c ⟨e,h,x⟩ K=zdB C gl (aget e 0) (aget e 3) (aget e 7) (aget e 8) h x K:=by kernel_rfl
theorem zpA {C gl e h x K}:NW C gl (.loop z3c) ⟨e,h,x⟩ K=z0Z C gl z3c K [(0,aget e 0),(3,aget e 3),(7,aget e 7),(8,aget e 8)] h x:=z06
def z6t:ACode:=.pr [] (.seq (rg [mV 4 (cI (-1))] [4])
.ret)
def zdC (C:Hd) (gl:GL) (h:Heap) (x:Esc) (K:KT):Prop:=
 K .ret ⟨[(4,(AI (-1)))],h,x⟩
theorem znH {C gl e h x K}:NW C gl z6t ⟨e,h,x⟩ K=zdC C gl h x K:=by kernel_rfl
def zvG (q1 q2:ACode):ACode:=(.seq (rg [uO 3 (.box 1),
mV 4 (cI 0)] [0,3])
(.seq (.seq (rg [mV 6 0,
lN 7 6,
mV 8 (cI 0)] [0,3,7,8])
(.block 0 (.loop q1)))
q2))
def zlG:AFun:=⟨2,[.t 4],zvG z3c z6t,true,false⟩
def zhm (C:Hd) (gl:GL) (q1 q2:ACode) (v0 v1:AV) (h:Heap) (x:Esc) (K:KT):Prop:=
 wK (oBox v1 h) fun t1 h2 y3=>
 pK (oLen v0) fun t4=>
 NW C gl (.loop q1) ⟨[(0,v0),(3,t1),(7,t4),(8,(AI 0))],h2,(y3++x)⟩ (z0q 0 (seqN C gl q2 K))
theorem E_q047 {C gl q1 q2 v0 v1 h x K}:NW C gl (zvG q1 q2) ⟨enter [v0,v1],h,x⟩ K=zhm C gl q1 q2 v0 v1 h x K:=by kernel_rfl
theorem e_q047 {C gl v0 v1 h x K}:NW C gl zlG.body ⟨enter [v0,v1],h,x⟩ K=zhm C gl z3c z6t v0 v1 h x K:=E_q047
def z6A:ACode:=.pr [9] (.seq (rg [mV 23 9,
mV 8 23] [8])
.ret)
def zel (C:Hd) (gl:GL) (v9:AV) (h:Heap) (x:Esc) (K:KT):Prop:=
 K .ret ⟨[(8,v9)],h,x⟩
theorem zo0 {C gl e h x K}:NW C gl z6A ⟨e,h,x⟩ K=zel C gl (aget e 9) h x K:=by kernel_rfl
def zvW (q1:ACode):ACode:=(.seq (rg [uO 4 (.box 0),
mV 8 (cI 0)] [1,2,3,4])
(.seq (rg [lD 10 (some 2) 4,
mV 11 1,
mV 12 3,
cL 13 z2P [10,11,12],
mV 9 13] [2,4,9])
(.seq (.seq (rg [mV 14 9,
bN 15 .eql 14 (cI 0),
mV 16 15,
gD 17 16 true (.faddr 0 none 4),
gD 18 16 true (.load none 17),
gD 19 16 true (.mv 2),
gD 20 16 true (.call z3M [18,19]),
gD 21 16 true (.un .not 20),
uO 22 (.pick 16 21 cF)] [9,22])
(.cond 22 (rg [mV 9 (cI 8)] [9])
.skip))
q1)))
def zlT:AFun:=⟨4,[.t 8],zvW z6A,false,false⟩
def zaA (C:Hd) (gl:GL) (q1:ACode) (v0 v1 v2 v3:AV) (h:Heap) (x:Esc) (K:KT):Prop:=
 wK (oBox v0 h) fun t1 h2 y3=>
 pK (z0e (some 2) t1 h2) fun t4=>
 C z2P [t4,v1,v3] h2 fun t5 h6 y7=>
 pK (oBin .eql t5 (AI 0)) fun t8=>
 gP t8 true (z0d 0 none t1) h6 fun t9 h10 y11=>
 gP t8 true (z0e none t9 h10) h10 fun t12 h13 y14=>
 gM t8 true v2 h13 fun t15 h16 y17=>
 gV t8 true h16 (C z3M [t12,t15] h16) fun t18 h19 y20=>
 gP t8 true (oUn .not t18) h19 fun t21 h22 y23=>
 pK (z0G t8 t21 (AB false)) fun t24=>
 z0j t24 (NW C gl q1 ⟨[(9,(AI 8))],h22,(y23++(y20++(y17++(y14++(y11++(y7++(y3++x)))))))⟩ K)
 (NW C gl q1 ⟨[(9,t5),(22,t24)],h22,(y23++(y20++(y17++(y14++(y11++(y7++(y3++x)))))))⟩ K)
theorem E_q067 {C gl q1 v0 v1 v2 v3 h x K}:NW C gl (zvW q1) ⟨enter [v0,v1,v2,v3],h,x⟩ K=zaA C gl q1 v0 v1 v2 v3 h x K:=by kernel_rfl
theorem e_q067 {C gl v0 v1 v2 v3 h x K}:NW C gl zlT.body ⟨enter [v0,v1,v2,v3],h,x⟩ K=zaA C gl z6A v0 v1 v2 v3 h x K:=E_q067
def z3o:ACode:=.pr [1,2,5,12] (.seq (rg [uO 13 (.mnext none [12]),
eX 14 13 0] [1,2,5,12,14])
(.seq (.cond 14 .skip
(.exit 0))
(.block 1 (.seq (rg [uO 15 (.mentry 12),
eX 16 15 0,
eX 17 15 1,
mV 6 16,
mV 7 17] [1,2,5,6,7,12])
(.seq (rg [mV 18 7,
uO 19 (.nilchk 18),
fA 20 0 none 19,
lD 21 none 20,
bN 22 .eql 21 (cI 1),
mV 23 22,
gD 24 23 true (.mv 7),
gD 25 23 true (.nilchk 24),
gD 26 23 true (.faddr 2 none 25),
gD 27 23 true (.load none 26),
gD 28 23 true (.mv 1),
gD 29 23 true (.bin .eql 27 28),
uO 30 (.pick 23 29 cF)] [1,2,5,6,12,30])
(.cond 30 (rg [mV 31 5,
mV 32 6,
uO 33 (.bsl false none 1 (.str []) [(0,32)]),
uO 34 (.app none 31 33),
mV 5 34] [1,2,5,12])
.skip))))))
def zeh (C:Hd) (gl:GL) (v1 v2 v5 v12:AV) (h:Heap) (x:Esc) (K:KT):Prop:=
 nxK v12 h fun t1 h2 y3=>
 pK (oExt t1 0) fun t4=>
 z0j t4 (wK (z3C v12 h2) fun t5 h6 y7=>
 pK (oExt t5 0) fun t8=>
 pK (oExt t5 1) fun t9=>
 pK (oNil t9) fun t10=>
 pK (z0d 0 none t10) fun t11=>
 pK (z0e none t11 h6) fun t12=>
 pK (oBin .eql t12 (AI 1)) fun t13=>
 gM t13 true t9 h6 fun t14 h15 y16=>
 gP t13 true (oNil t14) h15 fun t17 h18 y19=>
 gP t13 true (z0d 2 none t17) h18 fun t20 h21 y22=>
 gP t13 true (z0e none t20 h21) h21 fun t23 h24 y25=>
 gM t13 true v1 h24 fun t26 h27 y28=>
 gP t13 true (oBin .eql t23 t26) h27 fun t29 h30 y31=>
 pK (z0G t13 t29 (AB false)) fun t32=>
 z0j t32 (wK (oBsl false none 1 (.str []) [(0,t8)] h30) fun t33 h34 y35=>
 wK (oApp none v5 t33 h34) fun t36 h37 y38=>
 K .normal ⟨[(1,v1),(2,v2),(5,t36),(12,v12)],h37,(y38++(y35++(y31++(y28++(y25++(y22++(y19++(y16++(y7++(y3++x))))))))))⟩)
 (K .normal ⟨[(1,v1),(2,v2),(5,v5),(6,t8),(12,v12),(30,t32)],h30,(y31++(y28++(y25++(y22++(y19++(y16++(y7++(y3++x))))))))⟩))
 (K (.exit 0) ⟨[(1,v1),(2,v2),(5,v5),(12,v12),(14,t4)],h2,(y3++x)⟩)
theorem zov {C gl e h x K}:NW C gl z3o ⟨e,h,x⟩ K=zeh C gl (aget e 1) (aget e 2) (aget e 5) (aget e 12) h x K:=by kernel_rfl
theorem zpR {C gl e h x K}:NW C gl (.loop (.scope z3o)) ⟨e,h,x⟩ K=z0Z C gl (.scope z3o) K [(1,aget e 1),(2,aget e 2),(5,aget e 5),(12,aget e 12)] h x:=z13
def z68:ACode:=.pr [2,5] (.seq (rg [mV 35 5,
uO 36 (.mkfn z9p [2]),
cL 37 zaR [35,36]] [5])
(.seq (rg [mV 38 5,
mV 4 38] [4])
.ret))
def zei (C:Hd) (gl:GL) (v2 v5:AV) (h:Heap) (x:Esc) (K:KT):Prop:=
 C zaR [v5,(.fn z9p [v2])] h fun t1 h2 y3=>
 K .ret ⟨[(4,v5)],h2,(y3++x)⟩
theorem zow {C gl e h x K}:NW C gl z68 ⟨e,h,x⟩ K=zei C gl (aget e 2) (aget e 5) h x K:=by kernel_rfl
def zvU (q1 q2:ACode):ACode:=(.det (.seq (rg [uO 2 (.box 0),
mV 4 (.c (.p (.sl none [])))] [1,2])
(.seq (rg [uO 5 (.new0 none)] [1,2,5])
(.seq (.seq (rg [lD 8 none 2,
uO 9 (.nilchk 8),
fA 10 2 none 9,
lD 11 none 10,
uO 12 (.mrange 11)] [1,2,5,12])
(.block 0 (.loop (.scope q1))))
q2))))
def zlQ:AFun:=⟨2,[.t 4],zvU z3o z68,false,false⟩
def zhv (C:Hd) (gl:GL) (q1 q2:ACode) (v0 v1:AV) (h:Heap) (x:Esc) (K:KT):Prop:=
 wK (oBox v0 h) fun t1 h2 y3=>
 nwK none h2 fun t4 h5 y6=>
 pK (z0e none t1 h5) fun t7=>
 pK (oNil t7) fun t8=>
 pK (z0d 2 none t8) fun t9=>
 pK (z0e none t9 h5) fun t10=>
 wK (z3D t10 h5) fun t11 h12 y13=>
 NW C gl (.loop (.scope q1)) ⟨[(1,v1),(2,t1),(5,t4),(12,t11)],h12,(y13++(y6++(y3++x)))⟩ (z0q 0 (seqN C gl q2 K))
theorem E_q062 {C gl q1 q2 v0 v1 h x K}:NW C gl (zvU q1 q2) ⟨enter [v0,v1],h,x⟩ K=zhv C gl q1 q2 v0 v1 h x K:=by kernel_rfl
theorem e_q062 {C gl v0 v1 h x K}:NW C gl zlQ.body ⟨enter [v0,v1],h,x⟩ K=zhv C gl z3o z68 v0 v1 h x K:=E_q062
def z3d:ACode:=.pr [0,1,7,8] (.seq (rg [bN 9 .lss 8 7] [0,1,7,8,9])
(.seq (.cond 9 .skip
(.exit 0))
(.seq (.block 1 (.seq (rg [mV 10 8,
mV 5 10] [0,1,5,7,8])
(.seq (rg [mV 11 1,
mV 12 0,
mV 13 5,
iA 14 none 12 13,
lD 15 none 14,
bN 16 .eql 11 15] [0,1,5,7,8,16])
(.cond 16 (.seq (rg [mV 17 5,
mV 4 17] [4])
.ret)
.skip))))
(rg [bN 18 .add 8 (cI 1),
mV 8 18] [0,1,7,8]))))
def zdD (C:Hd) (gl:GL) (v0 v1 v7 v8:AV) (h:Heap) (x:Esc) (K:KT):Prop:=
 pK (oBin .lss v8 v7) fun t1=>
 z0j t1 (pK (z0r none v0 v8 h) fun t2=>
 pK (z0e none t2 h) fun t3=>
 pK (oBin .eql v1 t3) fun t4=>
 z0j t4 (K .ret ⟨[(4,v8)],h,x⟩)
 (pK (oBin .add v8 (AI 1)) fun t5=>
 K .normal ⟨[(0,v0),(1,v1),(7,v7),(8,t5)],h,x⟩))
 (K (.exit 0) ⟨[(0,v0),(1,v1),(7,v7),(8,v8),(9,t1)],h,x⟩)
theorem znI {C gl e h x K}:NW C gl z3d ⟨e,h,x⟩ K=zdD C gl (aget e 0) (aget e 1) (aget e 7) (aget e 8) h x K:=by kernel_rfl
theorem zpB {C gl e h x K}:NW C gl (.loop z3d) ⟨e,h,x⟩ K=z0Z C gl z3d K [(0,aget e 0),(1,aget e 1),(7,aget e 7),(8,aget e 8)] h x:=z06
def z6u:ACode:=.pr [] (.seq (rg [mV 4 (cI (-1))] [4])
.ret)
def zdE (C:Hd) (gl:GL) (h:Heap) (x:Esc) (K:KT):Prop:=
 K .ret ⟨[(4,(AI (-1)))],h,x⟩
theorem znJ {C gl e h x K}:NW C gl z6u ⟨e,h,x⟩ K=zdE C gl h x K:=by kernel_rfl
def zvH (q1 q2:ACode):ACode:=(.seq (rg [mV 4 (cI 0)] [0,1])
(.seq (.seq (rg [mV 6 0,
lN 7 6,
mV 8 (cI 0)] [0,1,7,8])
(.block 0 (.loop q1)))
q2))
def zg3:AFun:=⟨2,[.t 4],zvH z3d z6u,true,false⟩
def zhn (C:Hd) (gl:GL) (q1 q2:ACode) (v0 v1:AV) (h:Heap) (x:Esc) (K:KT):Prop:=
 pK (oLen v0) fun t1=>
 NW C gl (.loop q1) ⟨[(0,v0),(1,v1),(7,t1),(8,(AI 0))],h,x⟩ (z0q 0 (seqN C gl q2 K))
theorem E_q049 {C gl q1 q2 v0 v1 h x K}:NW C gl (zvH q1 q2) ⟨enter [v0,v1],h,x⟩ K=zhn C gl q1 q2 v0 v1 h x K:=by kernel_rfl
theorem e_q049 {C gl v0 v1 h x K}:NW C gl zg3.body ⟨enter [v0,v1],h,x⟩ K=zhn C gl z3d z6u v0 v1 h x K:=E_q049
def P_q02k:ACode:=(.seq (rg [mV 4 (cI 0)] [0,1])
(.seq (rg [mV 5 1,
mV 6 0,
mV 7 1,
lN 8 7,
cL 9 z1T [6,8],
iA 10 none 5 9,
lD 11 none 10,
mV 4 11] [4])
.ret))
def zly:AFun:=⟨2,[.t 4],P_q02k,false,false⟩
def zmG (C:Hd) (gl:GL) (v0 v1:AV) (h:Heap) (x:Esc) (K:KT):Prop:=
 pK (oLen v1) fun t1=>
 C z1T [v0,t1] h fun t2 h3 y4=>
 pK (z0r none v1 t2 h3) fun t5=>
 pK (z0e none t5 h3) fun t6=>
 K .ret ⟨[(4,t6)],h3,(y4++x)⟩
theorem e_q02k {C gl v0 v1 h x K}:NW C gl zly.body ⟨enter [v0,v1],h,x⟩ K=zmG C gl v0 v1 h x K:=by kernel_rfl
def P_q02o:ACode:=(.seq (rg [mV 4 (cS [])] [0,1])
(.seq (rg [mV 5 1,
mV 6 0,
mV 7 1,
lN 8 7,
cL 9 z1T [6,8],
iA 10 none 5 9,
lD 11 none 10,
mV 4 11] [4])
.ret))
def zl2:AFun:=⟨2,[.t 4],P_q02o,false,false⟩
def zmJ (C:Hd) (gl:GL) (v0 v1:AV) (h:Heap) (x:Esc) (K:KT):Prop:=
 pK (oLen v1) fun t1=>
 C z1T [v0,t1] h fun t2 h3 y4=>
 pK (z0r none v1 t2 h3) fun t5=>
 pK (z0e none t5 h3) fun t6=>
 K .ret ⟨[(4,t6)],h3,(y4++x)⟩
theorem e_q02o {C gl v0 v1 h x K}:NW C gl zl2.body ⟨enter [v0,v1],h,x⟩ K=zmJ C gl v0 v1 h x K:=by kernel_rfl
def P_q02h:ACode:=(.seq (rg [mV 4 cF] [0,1])
(.seq (rg [mV 5 0,
mV 6 1,
cL 7 z1T [5,6],
bN 8 .eql 7 (cI 0),
mV 4 8] [4])
.ret))
def zlv:AFun:=⟨2,[.t 4],P_q02h,false,false⟩
def zmF (C:Hd) (gl:GL) (v0 v1:AV) (h:Heap) (x:Esc) (K:KT):Prop:=
 C z1T [v0,v1] h fun t1 h2 y3=>
 pK (oBin .eql t1 (AI 0)) fun t4=>
 K .ret ⟨[(4,t4)],h2,(y3++x)⟩
theorem e_q02h {C gl v0 v1 h x K}:NW C gl zlv.body ⟨enter [v0,v1],h,x⟩ K=zmF C gl v0 v1 h x K:=by kernel_rfl
def P_q02j:ACode:=(.seq (rg [mV 6 (cI 0)] [0,1,2])
(.seq (.seq (rg [mV 7 0,
cL 8 z4a [7,(cI 12)]] [0,1,2,8])
(.cond 8 (.seq (rg [mV 9 0,
mV 10 1,
bN 11 .sub 10 (cI 1),
mV 12 2,
bN 13 .add 12 (cI 1),
mV 14 1,
mV 15 2,
uO 16 (.bsl false none 6 (.int .i64 0) [(0,11),(1,13),(2,14),(3,15),(4,(cI (-1099511627776))),(5,(cI 1099511627776))]),
cL 17 z2O [9,16],
mV 6 17] [6])
.ret)
.skip))
(.seq (rg [mV 18 0,
mV 19 1,
mV 20 2,
cL 21 z1D [18,19,20],
mV 6 21] [6])
.ret)))
def zlx:AFun:=⟨3,[.t 6],P_q02j,false,false⟩
def za5 (C:Hd) (gl:GL) (v0 v1 v2:AV) (h:Heap) (x:Esc) (K:KT):Prop:=
 C z4a [v0,(AI 12)] h fun t1 h2 y3=>
 z0j t1 (pK (oBin .sub v1 (AI 1)) fun t4=>
 pK (oBin .add v2 (AI 1)) fun t5=>
 wK (oBsl false none 6 (.int .i64 0) [(0,t4),(1,t5),(2,v1),(3,v2),(4,(AI (-1099511627776))),(5,(AI 1099511627776))] h2) fun t6 h7 y8=>
 C z2O [v0,t6] h7 fun t9 h10 y11=>
 K .ret ⟨[(6,t9)],h10,(y11++(y8++(y3++x)))⟩)
 (C z1D [v0,v1,v2] h2 fun t12 h13 y14=>
 K .ret ⟨[(6,t12)],h13,(y14++(y3++x))⟩)
theorem e_q02j {C gl v0 v1 v2 h x K}:NW C gl zlx.body ⟨enter [v0,v1,v2],h,x⟩ K=za5 C gl v0 v1 v2 h x K:=by kernel_rfl
def P_q04b:ACode:=(rg [mV 4 0,
mV 5 0,
lN 6 5,
mV 7 1,
cL 8 zaU [4,6,7]] [])
def zlI:AFun:=⟨2,[],P_q04b,true,false⟩
def zmR (C:Hd) (gl:GL) (v0 v1:AV) (h:Heap) (x:Esc) (K:KT):Prop:=
 pK (oLen v0) fun t1=>
 C zaU [v0,t1,v1] h fun t2 h3 y4=>
 K .normal ⟨[],h3,(y4++x)⟩
theorem e_q04b {C gl v0 v1 h x K}:NW C gl zlI.body ⟨enter [v0,v1],h,x⟩ K=zmR C gl v0 v1 h x K:=by kernel_rfl
def P_q02u:ACode:=(.seq (rg [uO 2 (.box 0),
uO 3 (.box 1),
mV 4 (cI 0)] [2,3])
(.seq (.block 0 (.seq (rg [fA 6 2 none 2,
lD 7 none 6,
fA 8 2 none 3,
lD 9 none 8,
bN 10 .neq 7 9,
mV 5 10] [2,3,5])
(.cond 5 (.seq (rg [fA 11 2 none 2,
lD 12 none 11,
fA 13 2 none 3,
lD 14 none 13,
bN 15 .sub 12 14,
cL 16 z7y [15],
mV 4 16] [4])
.ret)
(.seq (rg [fA 18 0 none 2,
lD 19 none 18,
fA 20 0 none 3,
lD 21 none 20,
bN 22 .neq 19 21,
mV 17 22] [2,3,17])
(.cond 17 (.seq (rg [fA 23 0 none 2,
lD 24 none 23,
fA 25 0 none 3,
lD 26 none 25,
cL 27 z2l [24,26],
mV 4 27] [4])
.ret)
.skip)))))
(.seq (rg [fA 28 1 none 2,
lD 29 none 28,
fA 30 1 none 3,
lD 31 none 30,
bN 32 .sub 29 31,
cL 33 z7y [32],
mV 4 33] [4])
.ret)))
def zl6:AFun:=⟨2,[.t 4],P_q02u,false,false⟩
def z7r (C:Hd) (gl:GL) (v0 v1:AV) (h:Heap) (x:Esc) (K:KT):Prop:=
 wK (oBox v0 h) fun t1 h2 y3=>
 wK (oBox v1 h2) fun t4 h5 y6=>
 pK (z0d 2 none t1) fun t7=>
 pK (z0e none t7 h5) fun t8=>
 pK (z0d 2 none t4) fun t9=>
 pK (z0e none t9 h5) fun t10=>
 pK (oBin .neq t8 t10) fun t11=>
 z0j t11 (pK (z0d 2 none t1) fun t12=>
 pK (z0e none t12 h5) fun t13=>
 pK (z0d 2 none t4) fun t14=>
 pK (z0e none t14 h5) fun t15=>
 pK (oBin .sub t13 t15) fun t16=>
 C z7y [t16] h5 fun t17 h18 y19=>
 K .ret ⟨[(4,t17)],h18,(y19++(y6++(y3++x)))⟩)
 (pK (z0d 0 none t1) fun t20=>
 pK (z0e none t20 h5) fun t21=>
 pK (z0d 0 none t4) fun t22=>
 pK (z0e none t22 h5) fun t23=>
 pK (oBin .neq t21 t23) fun t24=>
 z0j t24 (pK (z0d 0 none t1) fun t25=>
 pK (z0e none t25 h5) fun t26=>
 pK (z0d 0 none t4) fun t27=>
 pK (z0e none t27 h5) fun t28=>
 C z2l [t26,t28] h5 fun t29 h30 y31=>
 K .ret ⟨[(4,t29)],h30,(y31++(y6++(y3++x)))⟩)
 (pK (z0d 1 none t1) fun t32=>
 pK (z0e none t32 h5) fun t33=>
 pK (z0d 1 none t4) fun t34=>
 pK (z0e none t34 h5) fun t35=>
 pK (oBin .sub t33 t35) fun t36=>
 C z7y [t36] h5 fun t37 h38 y39=>
 K .ret ⟨[(4,t37)],h38,(y39++(y6++(y3++x)))⟩))
theorem e_q02u {C gl v0 v1 h x K}:NW C gl zl6.body ⟨enter [v0,v1],h,x⟩ K=z7r C gl v0 v1 h x K:=by kernel_rfl
def z6q:ACode:=.pr [1,3,4] (.seq (.block 0 (.seq (rg [fA 45 0 none 1,
lD 46 none 45,
cL 47 z3L [46],
uO 48 (.un .not 47),
mV 44 48] [1,3,4,44])
(.cond 44 (.seq (rg [mV 2 (cI 5)] [2])
.ret)
(.seq (rg [fA 50 1 none 1,
lD 51 none 50,
cL 52 z2k [51,(cI 1),(cI 1000000)],
uO 53 (.un .not 52),
mV 54 53,
gD 55 54 false (.faddr 2 none 1),
gD 56 54 false (.load none 55),
gD 57 54 false (.call zaL [56]),
gD 58 54 false (.un .not 57),
uO 59 (.pick 54 cT 58),
mV 49 59] [1,3,4,49])
(.cond 49 (.seq (rg [mV 2 (cI 1)] [2])
.ret)
(.seq (rg [fA 61 3 none 1,
lD 62 none 61,
cL 63 z2k [62,(cI 1),(cI 7)],
uO 64 (.un .not 63),
mV 60 64] [1,3,4,60])
(.cond 60 (.seq (rg [mV 2 (cI 4)] [2])
.ret)
(.seq (rg [mV 66 4,
uO 67 (.un .not 66),
mV 65 67] [1,3,65])
(.cond 65 (.seq (rg [mV 2 (cI 5)] [2])
.ret)
(.seq (rg [fA 69 3 none 1,
lD 70 none 69,
bN 71 .eql 70 (cI 7),
mV 72 71,
gD 73 72 true (.faddr 7 none 1),
gD 74 72 true (.load none 73),
gD 75 72 true (.call z2k [74,(cI 1),(cI 1000000)]),
gD 76 72 true (.un .not 75),
uO 77 (.pick 72 76 cF),
mV 68 77] [1,3,68])
(.cond 68 (.seq (rg [mV 2 (cI 1)] [2])
.ret)
(.seq (rg [lD 79 (some 8) 1,
lD 80 (some 8) 3,
uO 81 (.eqa [2,0,0,0,2,2,2,0] true 79 80),
mV 78 81] [78])
(.cond 78 (.seq (rg [mV 2 (cI 3)] [2])
.ret)
.skip)))))))))))))
(.seq (rg [mV 2 (cI 0)] [2])
.ret))
def z0R (C:Hd) (gl:GL) (v1 v3 v4:AV) (h:Heap) (x:Esc) (K:KT):Prop:=
 pK (z0d 0 none v1) fun t1=>
 pK (z0e none t1 h) fun t2=>
 C z3L [t2] h fun t3 h4 y5=>
 pK (oUn .not t3) fun t6=>
 z0j t6 (K .ret ⟨[(2,(AI 5))],h4,(y5++x)⟩)
 (pK (z0d 1 none v1) fun t7=>
 pK (z0e none t7 h4) fun t8=>
 C z2k [t8,(AI 1),(AI 1000000)] h4 fun t9 h10 y11=>
 pK (oUn .not t9) fun t12=>
 gP t12 false (z0d 2 none v1) h10 fun t13 h14 y15=>
 gP t12 false (z0e none t13 h14) h14 fun t16 h17 y18=>
 gV t12 false h17 (C zaL [t16] h17) fun t19 h20 y21=>
 gP t12 false (oUn .not t19) h20 fun t22 h23 y24=>
 pK (z0G t12 (AB true) t22) fun t25=>
 z0j t25 (K .ret ⟨[(2,(AI 1))],h23,(y24++(y21++(y18++(y15++(y11++(y5++x))))))⟩)
 (pK (z0d 3 none v1) fun t26=>
 pK (z0e none t26 h23) fun t27=>
 C z2k [t27,(AI 1),(AI 7)] h23 fun t28 h29 y30=>
 pK (oUn .not t28) fun t31=>
 z0j t31 (K .ret ⟨[(2,(AI 4))],h29,(y30++(y24++(y21++(y18++(y15++(y11++(y5++x)))))))⟩)
 (pK (oUn .not v4) fun t32=>
 z0j t32 (K .ret ⟨[(2,(AI 5))],h29,(y30++(y24++(y21++(y18++(y15++(y11++(y5++x)))))))⟩)
 (pK (z0d 3 none v1) fun t33=>
 pK (z0e none t33 h29) fun t34=>
 pK (oBin .eql t34 (AI 7)) fun t35=>
 gP t35 true (z0d 7 none v1) h29 fun t36 h37 y38=>
 gP t35 true (z0e none t36 h37) h37 fun t39 h40 y41=>
 gV t35 true h40 (C z2k [t39,(AI 1),(AI 1000000)] h40) fun t42 h43 y44=>
 gP t35 true (oUn .not t42) h43 fun t45 h46 y47=>
 pK (z0G t35 t45 (AB false)) fun t48=>
 z0j t48 (K .ret ⟨[(2,(AI 1))],h46,(y47++(y44++(y41++(y38++(y30++(y24++(y21++(y18++(y15++(y11++(y5++x)))))))))))⟩)
 (pK (z0e (some 8) v1 h46) fun t49=>
 pK (z0e (some 8) v3 h46) fun t50=>
 pK (oEqa [2,0,0,0,2,2,2,0] true t49 t50) fun t51=>
 z0j t51 (K .ret ⟨[(2,(AI 3))],h46,(y47++(y44++(y41++(y38++(y30++(y24++(y21++(y18++(y15++(y11++(y5++x)))))))))))⟩)
 (K .ret ⟨[(2,(AI 0))],h46,(y47++(y44++(y41++(y38++(y30++(y24++(y21++(y18++(y15++(y11++(y5++x)))))))))))⟩))))))
theorem znB {C gl e h x K}:NW C gl z6q ⟨e,h,x⟩ K=z0R C gl (aget e 1) (aget e 3) (aget e 4) h x K:=by kernel_rfl
def zvD (q1:ACode):ACode:=(.seq (rg [uO 1 (.box 0),
mV 2 (cI 0)] [1])
(.seq (rg [fA 5 0 none 1,
lD 6 none 5,
fA 7 1 none 1,
lD 8 none 7,
fA 9 2 none 1,
lD 10 none 9,
fA 11 3 none 1,
lD 12 none 11,
uO 13 (.build [.p (.str []),.p (.int .i64 0),.p (.int .i64 0),.p (.int .i64 0),.p (.str []),.p (.str []),.p (.str []),.p (.int .i64 0)] [(0,1,6),(1,1,8),(2,1,10),(3,1,12)]),
uO 3 (.alloc [.p (.str []),.p (.int .i64 0),.p (.int .i64 0),.p (.int .i64 0),.p (.str []),.p (.str []),.p (.str []),.p (.int .i64 0)]),
wO (.store (some 8) 3 13)] [1,3])
(.seq (rg [mV 4 cT] [1,3])
(.seq (.seq (rg [fA 14 3 none 1,
lD 15 none 14,
bN 16 .eql 15 (cI 7)] [1,3,16])
(.cond 16 (dr [dF (fA 17 6 none 1) [1],
dF (lD 18 none 17) [17],
dF (fA 19 7 none 1) [1],
dF (lD 20 none 19) [19],
dF (fA 21 6 none 1) [1],
dF (lD 22 none 21) [21],
dA (cL 23 z3L [22]) [22] true [] [1,3],
dF (fA 24 6 none 3) [3],
dA (wO (.store none 24 18)) [24,18] true [] [3],
dF (fA 25 7 none 3) [3],
dT (wO (.store none 25 20)) [25,20],
dF (mV 4 23) [23]] [1,3,4])
(.seq (dr [dF (fA 26 4 none 1) [1],
dF (lD 27 none 26) [26],
dF (fA 28 4 none 1) [1],
dF (lD 29 none 28) [28],
dA (cL 30 z3L [29]) [29] true [] [1],
dF (fA 31 4 none 3) [3],
dT (wO (.store none 31 27)) [31,27],
dF (mV 4 30) [30]] [1,3,4])
(.seq (rg [fA 32 3 none 1,
lD 33 none 32,
bN 34 .eql 33 (cI 2)] [1,3,4,34])
(.cond 34 (dr [dF (fA 35 5 none 1) [1],
dF (lD 36 none 35) [35],
dF (mV 37 4) [4],
dF (mV 38 37) [37],
dF (gD 39 38 true (.faddr 5 none 1)) [1,38],
dF (gD 40 38 true (.load none 39)) [39,38],
dA (gD 41 38 true (.call z3L [40])) [40,38] true [] [1],
dF (uO 42 (.pick 38 41 cF)) [38,41],
dF (fA 43 5 none 3) [3],
dT (wO (.store none 43 36)) [43,36],
dF (mV 4 42) [42]] [1,3,4])
.skip)))))
q1))))
def zl5:AFun:=⟨1,[.t 2],zvD z6q,false,false⟩
def z7q (C:Hd) (gl:GL) (q1:ACode) (v0:AV) (h:Heap) (x:Esc) (K:KT):Prop:=
 wK (oBox v0 h) fun t1 h2 y3=>
 pK (z0d 0 none t1) fun t4=>
 pK (z0e none t4 h2) fun t5=>
 pK (z0d 1 none t1) fun t6=>
 pK (z0e none t6 h2) fun t7=>
 pK (z0d 2 none t1) fun t8=>
 pK (z0e none t8 h2) fun t9=>
 pK (z0d 3 none t1) fun t10=>
 pK (z0e none t10 h2) fun t11=>
 pK (z07 [.p (.str []),.p (.int .i64 0),.p (.int .i64 0),.p (.int .i64 0),.p (.str []),.p (.str []),.p (.str []),.p (.int .i64 0)] [(0,1,t5),(1,1,t7),(2,1,t9),(3,1,t11)]) fun t12=>
 alK [.p (.str []),.p (.int .i64 0),.p (.int .i64 0),.p (.int .i64 0),.p (.str []),.p (.str []),.p (.str []),.p (.int .i64 0)] h2 fun t13 h14 y15=>
 wK (z0m (some 8) t13 t12 h14) fun t16 h17 y18=>
 pK (z0d 3 none t1) fun t19=>
 pK (z0e none t19 h17) fun t20=>
 pK (oBin .eql t20 (AI 7)) fun t21=>
 z0j t21 (pK (z0d 6 none t1) fun t22=>
 pK (z0e none t22 h17) fun t23=>
 pK (z0d 7 none t1) fun t24=>
 pK (z0e none t24 h17) fun t25=>
 pK (z0d 6 none t1) fun t26=>
 pK (z0e none t26 h17) fun t27=>
 z1h C z3L [t27] h17 fun t28 h29 y30=>
 (pK (z0e none t22 h29) fun v=>(fun u (g1:Heap) (y1:Esc)=>u=t23∧g1=h29∧y1=[]) v h29 [])∧((pK (z0e none t24 h29) fun v=>(fun u (g1:Heap) (y1:Esc)=>u=t25∧g1=h29∧y1=[]) v h29 [])∧(pK (z0d 6 none t13) fun t31=>
 wK (z0m none t31 t23 h29) fun t32 h33 y34=>
 (pK (z0e none t24 h33) fun v=>(fun u (g1:Heap) (y1:Esc)=>u=t25∧g1=h33∧y1=[]) v h33 [])∧(pK (z0d 7 none t13) fun t35=>
 wK (z0m none t35 t25 h33) fun t36 h37 y38=>
 NW C gl q1 ⟨[(1,t1),(3,t13),(4,t28)],h37,(y38++(y34++(y30++(y18++(y15++(y3++x))))))⟩ K))))
 (pK (z0d 4 none t1) fun t39=>
 pK (z0e none t39 h17) fun t40=>
 pK (z0d 4 none t1) fun t41=>
 pK (z0e none t41 h17) fun t42=>
 z1h C z3L [t42] h17 fun t43 h44 y45=>
 (pK (z0e none t39 h44) fun v=>(fun u (g1:Heap) (y1:Esc)=>u=t40∧g1=h44∧y1=[]) v h44 [])∧(pK (z0d 4 none t13) fun t46=>
 wK (z0m none t46 t40 h44) fun t47 h48 y49=>
 pK (z0d 3 none t1) fun t50=>
 pK (z0e none t50 h48) fun t51=>
 pK (oBin .eql t51 (AI 2)) fun t52=>
 z0j t52 (pK (z0d 5 none t1) fun t53=>
 pK (z0e none t53 h48) fun t54=>
 gP t43 true (z0d 5 none t1) h48 fun t55 h56 y57=>
 gP t43 true (z0e none t55 h56) h56 fun t58 h59 y60=>
 gV t43 true h59 (z1h C z3L [t58] h59) fun t61 h62 y63=>
 (pK (z0e none t53 h62) fun v=>(fun u (g1:Heap) (y1:Esc)=>u=t54∧g1=h62∧y1=[]) v h62 [])∧(pK (z0G t43 t61 (AB false)) fun t64=>
 pK (z0d 5 none t13) fun t65=>
 wK (z0m none t65 t54 h62) fun t66 h67 y68=>
 NW C gl q1 ⟨[(1,t1),(3,t13),(4,t64)],h67,(y68++(y63++(y60++(y57++(y49++(y45++(y18++(y15++(y3++x)))))))))⟩ K))
 (NW C gl q1 ⟨[(1,t1),(3,t13),(4,t43),(34,t52)],h48,(y49++(y45++(y18++(y15++(y3++x)))))⟩ K)))
theorem E_q02t {C gl q1 v0 h x K}:NW C gl (zvD q1) ⟨enter [v0],h,x⟩ K=z7q C gl q1 v0 h x K:=by kernel_rfl
theorem e_q02t {C gl v0 h x K}:NW C gl zl5.body ⟨enter [v0],h,x⟩ K=z7q C gl z6q v0 h x K:=E_q02t
def P_q03u:ACode:=(.seq (rg [mV 4 cF] [0,1])
(.seq (rg [mV 5 0,
mV 6 1,
cL 7 zaP [5,6],
bN 8 .geq 7 (cI 0),
mV 4 8] [4])
.ret))
def zlD:AFun:=⟨2,[.t 4],P_q03u,true,false⟩
def zmN (C:Hd) (gl:GL) (v0 v1:AV) (h:Heap) (x:Esc) (K:KT):Prop:=
 C zaP [v0,v1] h fun t1 h2 y3=>
 pK (oBin .geq t1 (AI 0)) fun t4=>
 K .ret ⟨[(4,t4)],h2,(y3++x)⟩
theorem e_q03u {C gl v0 v1 h x K}:NW C gl zlD.body ⟨enter [v0,v1],h,x⟩ K=zmN C gl v0 v1 h x K:=by kernel_rfl
def P_q02s:ACode:=(.seq (rg [uO 2 (.box 0),
mV 3 cF] [1,2])
(.seq (rg [lD 4 (some 8) 2,
lD 5 (some 8) 1,
cL 6 zaM [4,5],
mV 3 6] [3])
.ret))
def zl4:AFun:=⟨2,[.t 3],P_q02s,false,false⟩
def zmK (C:Hd) (gl:GL) (v0 v1:AV) (h:Heap) (x:Esc) (K:KT):Prop:=
 wK (oBox v0 h) fun t1 h2 y3=>
 pK (z0e (some 8) t1 h2) fun t4=>
 pK (z0e (some 8) v1 h2) fun t5=>
 C zaM [t4,t5] h2 fun t6 h7 y8=>
 K .ret ⟨[(3,t6)],h7,(y8++(y3++x))⟩
theorem e_q02s {C gl v0 v1 h x K}:NW C gl zl4.body ⟨enter [v0,v1],h,x⟩ K=zmK C gl v0 v1 h x K:=by kernel_rfl
def P_q03m:ACode:=(.seq (rg [uO 2 (.box 0),
uO 3 (.box 1),
mV 4 cF] [2,3])
(.seq (rg [fA 5 0 none 2,
lD 6 none 5,
fA 7 0 none 3,
lD 8 none 7,
bN 9 .eql 6 8,
mV 10 9,
gD 11 10 true (.faddr 1 none 2),
gD 12 10 true (.load none 11),
gD 13 10 true (.faddr 1 none 3),
gD 14 10 true (.load none 13),
gD 15 10 true (.bin .eql 12 14),
uO 16 (.pick 10 15 cF),
mV 4 16] [4])
.ret))
def zlB:AFun:=⟨2,[.t 4],P_q03m,false,false⟩
def zhk (C:Hd) (gl:GL) (v0 v1:AV) (h:Heap) (x:Esc) (K:KT):Prop:=
 wK (oBox v0 h) fun t1 h2 y3=>
 wK (oBox v1 h2) fun t4 h5 y6=>
 pK (z0d 0 none t1) fun t7=>
 pK (z0e none t7 h5) fun t8=>
 pK (z0d 0 none t4) fun t9=>
 pK (z0e none t9 h5) fun t10=>
 pK (oBin .eql t8 t10) fun t11=>
 gP t11 true (z0d 1 none t1) h5 fun t12 h13 y14=>
 gP t11 true (z0e none t12 h13) h13 fun t15 h16 y17=>
 gP t11 true (z0d 1 none t4) h16 fun t18 h19 y20=>
 gP t11 true (z0e none t18 h19) h19 fun t21 h22 y23=>
 gP t11 true (oBin .eql t15 t21) h22 fun t24 h25 y26=>
 pK (z0G t11 t24 (AB false)) fun t27=>
 K .ret ⟨[(4,t27)],h25,(y26++(y23++(y20++(y17++(y14++(y6++(y3++x)))))))⟩
theorem e_q03m {C gl v0 v1 h x K}:NW C gl zlB.body ⟨enter [v0,v1],h,x⟩ K=zhk C gl v0 v1 h x K:=by kernel_rfl
def z6k:ACode:=.pr [0] (.seq (rg [mV 15 0,
mV 4 15] [4])
.ret)
def zdv (C:Hd) (gl:GL) (v0:AV) (h:Heap) (x:Esc) (K:KT):Prop:=
 K .ret ⟨[(4,v0)],h,x⟩
theorem zn1 {C gl e h x K}:NW C gl z6k ⟨e,h,x⟩ K=zdv C gl (aget e 0) h x K:=by kernel_rfl
def zv9 (q1:ACode):ACode:=(.seq (rg [mV 4 (cI 0)] [0,1])
(.seq (.seq (rg [mV 5 1,
bN 6 .lss 5 (cI 1)] [0,1,6])
(.cond 6 (.seq (rg [mV 4 (cI 0)] [4])
.ret)
.skip))
(.seq (rg [mV 7 0,
mV 8 1,
bN 9 .rem 7 8,
mV 0 9] [0,1])
(.seq (.seq (rg [mV 10 0,
bN 11 .lss 10 (cI 0)] [0,1,11])
(.cond 11 (rg [mV 12 0,
mV 13 1,
bN 14 .add 12 13,
mV 0 14] [0])
.skip))
q1))))
def zlt:AFun:=⟨2,[.t 4],zv9 z6k,false,false⟩
def zhf (C:Hd) (gl:GL) (q1:ACode) (v0 v1:AV) (h:Heap) (x:Esc) (K:KT):Prop:=
 pK (oBin .lss v1 (AI 1)) fun t1=>
 z0j t1 (K .ret ⟨[(4,(AI 0))],h,x⟩)
 (pK (oBin .rem v0 v1) fun t2=>
 pK (oBin .lss t2 (AI 0)) fun t3=>
 z0j t3 (pK (oBin .add t2 v1) fun t4=>
 NW C gl q1 ⟨[(0,t4)],h,x⟩ K)
 (NW C gl q1 ⟨[(0,t2),(1,v1),(11,t3)],h,x⟩ K))
theorem E_q02d {C gl q1 v0 v1 h x K}:NW C gl (zv9 q1) ⟨enter [v0,v1],h,x⟩ K=zhf C gl q1 v0 v1 h x K:=by kernel_rfl
theorem e_q02d {C gl v0 v1 h x K}:NW C gl zlt.body ⟨enter [v0,v1],h,x⟩ K=zhf C gl z6k v0 v1 h x K:=E_q02d
def z2S:ACode:=.pr [5,6,7] (.seq (rg [bN 8 .lss 7 6] [5,6,7,8])
(.seq (.cond 8 .skip
(.exit 0))
(.seq (.block 1 (.seq (rg [iA 9 none 5 7,
lD 10 none 9,
mV 4 10] [4,5,6,7])
(.seq (rg [mV 11 4,
bN 12 .neq 11 (cI 0)] [4,5,6,7,12])
(.cond 12 (.seq (rg [mV 13 4,
mV 2 13] [2])
.ret)
.skip))))
(rg [bN 14 .add 7 (cI 1),
mV 7 14] [5,6,7]))))
def zdi (C:Hd) (gl:GL) (v5 v6 v7:AV) (h:Heap) (x:Esc) (K:KT):Prop:=
 pK (oBin .lss v7 v6) fun t1=>
 z0j t1 (pK (z0r none v5 v7 h) fun t2=>
 pK (z0e none t2 h) fun t3=>
 pK (oBin .neq t3 (AI 0)) fun t4=>
 z0j t4 (K .ret ⟨[(2,t3)],h,x⟩)
 (pK (oBin .add v7 (AI 1)) fun t5=>
 K .normal ⟨[(5,v5),(6,v6),(7,t5)],h,x⟩))
 (K (.exit 0) ⟨[(5,v5),(6,v6),(7,v7),(8,t1)],h,x⟩)
theorem znm {C gl e h x K}:NW C gl z2S ⟨e,h,x⟩ K=zdi C gl (aget e 5) (aget e 6) (aget e 7) h x K:=by kernel_rfl
theorem zpx {C gl e h x K}:NW C gl (.loop z2S) ⟨e,h,x⟩ K=z0Z C gl z2S K [(5,aget e 5),(6,aget e 6),(7,aget e 7)] h x:=z06
def z6e:ACode:=.pr [] (.seq (rg [mV 2 (cI 0)] [2])
.ret)
def zdj (C:Hd) (gl:GL) (h:Heap) (x:Esc) (K:KT):Prop:=
 K .ret ⟨[(2,(AI 0))],h,x⟩
theorem znn {C gl e h x K}:NW C gl z6e ⟨e,h,x⟩ K=zdj C gl h x K:=by kernel_rfl
def zv3 (q1 q2:ACode):ACode:=(.seq (rg [mV 2 (cI 0)] [0])
(.seq (.seq (rg [mV 5 0,
lN 6 5,
mV 7 (cI 0)] [5,6,7])
(.block 0 (.loop q1)))
q2))
def zgt:AFun:=⟨1,[.t 2],zv3 z2S z6e,false,false⟩
def zha (C:Hd) (gl:GL) (q1 q2:ACode) (v0:AV) (h:Heap) (x:Esc) (K:KT):Prop:=
 pK (oLen v0) fun t1=>
 NW C gl (.loop q1) ⟨[(5,v0),(6,t1),(7,(AI 0))],h,x⟩ (z0q 0 (seqN C gl q2 K))
theorem E_q001 {C gl q1 q2 v0 h x K}:NW C gl (zv3 q1 q2) ⟨enter [v0],h,x⟩ K=zha C gl q1 q2 v0 h x K:=by kernel_rfl
theorem e_q001 {C gl v0 h x K}:NW C gl zgt.body ⟨enter [v0],h,x⟩ K=zha C gl z2S z6e v0 h x K:=E_q001
def z3j:ACode:=.pr [1,16,17,18] (.seq (rg [bN 19 .lss 18 17] [1,16,17,18,19])
(.seq (.cond 19 .skip
(.exit 1))
(.seq (.block 2 (.seq (rg [mV 20 18,
iA 21 none 16 18,
lD 22 none 21,
mV 3 20,
mV 4 22] [1,3,4,16,17,18])
(.block 3 (.seq (rg [mV 24 4,
cL 25 z17 [24],
uO 26 (.un .not 25),
mV 23 26] [1,3,4,16,17,18,23])
(.cond 23 (.seq (rg [mV 2 (cI 5)] [2])
.ret)
(.seq (rg [fA 28 0 none 1,
lD 29 none 28,
mV 30 3,
uO 31 (.slice none 29 none (some 30) none),
mV 32 4,
cL 33 z3M [31,32],
mV 27 33] [1,16,17,18,27])
(.cond 27 (.seq (rg [mV 2 (cI 6)] [2])
.ret)
.skip)))))))
(rg [bN 34 .add 18 (cI 1),
mV 18 34] [1,16,17,18]))))
def zdR (C:Hd) (gl:GL) (v1 v16 v17 v18:AV) (h:Heap) (x:Esc) (K:KT):Prop:=
 pK (oBin .lss v18 v17) fun t1=>
 z0j t1 (pK (z0r none v16 v18 h) fun t2=>
 pK (z0e none t2 h) fun t3=>
 C z17 [t3] h fun t4 h5 y6=>
 pK (oUn .not t4) fun t7=>
 z0j t7 (K .ret ⟨[(2,(AI 5))],h5,(y6++x)⟩)
 (pK (z0d 0 none v1) fun t8=>
 pK (z0e none t8 h5) fun t9=>
 pK (z5g none t9 none (some v18) none h5) fun t10=>
 C z3M [t10,t3] h5 fun t11 h12 y13=>
 z0j t11 (K .ret ⟨[(2,(AI 6))],h12,(y13++(y6++x))⟩)
 (pK (oBin .add v18 (AI 1)) fun t14=>
 K .normal ⟨[(1,v1),(16,v16),(17,v17),(18,t14)],h12,(y13++(y6++x))⟩)))
 (K (.exit 1) ⟨[(1,v1),(16,v16),(17,v17),(18,v18),(19,t1)],h,x⟩)
theorem zoc {C gl e h x K}:NW C gl z3j ⟨e,h,x⟩ K=zdR C gl (aget e 1) (aget e 16) (aget e 17) (aget e 18) h x K:=by kernel_rfl
theorem zpL {C gl e h x K}:NW C gl (.loop z3j) ⟨e,h,x⟩ K=z0Z C gl z3j K [(1,aget e 1),(16,aget e 16),(17,aget e 17),(18,aget e 18)] h x:=z06
def z6x:ACode:=.pr [1] (.seq (.seq (rg [fA 35 1 none 1,
lD 36 none 35,
cL 37 z0T [36,(cI 1),(cI 10)]] [37])
(.cond 37 (.seq (rg [mV 2 (cI 1)] [2])
.ret)
.skip))
(.seq (rg [mV 2 (cI 0)] [2])
.ret))
def z5G (C:Hd) (gl:GL) (v1:AV) (h:Heap) (x:Esc) (K:KT):Prop:=
 pK (z0d 1 none v1) fun t1=>
 pK (z0e none t1 h) fun t2=>
 C z0T [t2,(AI 1),(AI 10)] h fun t3 h4 y5=>
 z0j t3 (K .ret ⟨[(2,(AI 1))],h4,(y5++x)⟩)
 (K .ret ⟨[(2,(AI 0))],h4,(y5++x)⟩)
theorem z8Z {C gl e h x K}:NW C gl z6x ⟨e,h,x⟩ K=z5G C gl (aget e 1) h x K:=by kernel_rfl
def zvN (q1 q2:ACode):ACode:=(.seq (rg [uO 1 (.box 0),
mV 2 (cI 0)] [1])
(.seq (.block 0 (.seq (rg [fA 6 0 none 1,
lD 7 none 6,
lN 8 7,
bN 9 .eql 8 (cI 0),
mV 5 9] [1,5])
(.cond 5 (.seq (rg [mV 2 (cI 8)] [2])
.ret)
(.seq (rg [fA 11 0 none 1,
lD 12 none 11,
lN 13 12,
bN 14 .gtr 13 (cI 20),
mV 10 14] [1,10])
(.cond 10 (.seq (rg [mV 2 (cI 2)] [2])
.ret)
.skip)))))
(.seq (.seq (rg [fA 15 0 none 1,
lD 16 none 15,
lN 17 16,
mV 18 (cI 0)] [1,16,17,18])
(.block 1 (.loop q1)))
q2)))
def zg5:AFun:=⟨1,[.t 2],zvN z3j z6x,false,false⟩
def za7 (C:Hd) (gl:GL) (q1 q2:ACode) (v0:AV) (h:Heap) (x:Esc) (K:KT):Prop:=
 wK (oBox v0 h) fun t1 h2 y3=>
 pK (z0d 0 none t1) fun t4=>
 pK (z0e none t4 h2) fun t5=>
 pK (oLen t5) fun t6=>
 pK (oBin .eql t6 (AI 0)) fun t7=>
 z0j t7 (K .ret ⟨[(2,(AI 8))],h2,(y3++x)⟩)
 (pK (z0d 0 none t1) fun t8=>
 pK (z0e none t8 h2) fun t9=>
 pK (oLen t9) fun t10=>
 pK (oBin .gtr t10 (AI 20)) fun t11=>
 z0j t11 (K .ret ⟨[(2,(AI 2))],h2,(y3++x)⟩)
 (pK (z0d 0 none t1) fun t12=>
 pK (z0e none t12 h2) fun t13=>
 pK (oLen t13) fun t14=>
 NW C gl (.loop q1) ⟨[(1,t1),(16,t13),(17,t14),(18,(AI 0))],h2,(y3++x)⟩ (z0q 1 (seqN C gl q2 K))))
theorem E_q05i {C gl q1 q2 v0 h x K}:NW C gl (zvN q1 q2) ⟨enter [v0],h,x⟩ K=za7 C gl q1 q2 v0 h x K:=by kernel_rfl
theorem e_q05i {C gl v0 h x K}:NW C gl zg5.body ⟨enter [v0],h,x⟩ K=za7 C gl z3j z6x v0 h x K:=E_q05i
def z3i:ACode:=.pr [0,9,10,11] (.seq (rg [bN 12 .lss 11 10] [0,9,10,11,12])
(.seq (.cond 12 .skip
(.exit 0))
(.seq (.block 1 (.seq (rg [mV 13 11,
iA 14 (some 8) 9 11,
lD 15 (some 8) 14,
uO 4 (.alloc [.p (.str []),.p (.int .i64 0),.p (.int .i64 0),.p (.int .i64 0),.p (.str []),.p (.str []),.p (.str []),.p (.int .i64 0)]),
mV 3 13,
wO (.store (some 8) 4 15)] [0,3,4,9,10,11])
(.seq (.seq (rg [lD 16 (some 8) 4,
cL 17 z9l [16],
mV 5 17] [0,3,4,5,9,10,11])
(.seq (rg [mV 18 5,
bN 19 .neq 18 (cI 0)] [0,3,4,5,9,10,11,19])
(.cond 19 (.seq (rg [mV 20 5,
mV 2 20] [2])
.ret)
.skip)))
(.seq (dr [dF (mV 21 3) [3],
dF (bN 22 .gtr 21 (cI 0)) [21],
dF (mV 23 22) [22],
dF (gD 24 23 true (.load (some 8) 4)) [4,23],
dF (gD 25 23 true (.mv 0)) [0,23],
dF (gD 26 23 true (.mv 3)) [3,23],
dF (gD 27 23 true (.bin .sub 26 (cI 1))) [26,23],
dF (gD 28 23 true (.iaddr (some 8) 25 27)) [25,27,23],
dF (gD 29 23 true (.load (some 8) 28)) [28,23],
dT (gD 30 23 true (.call z9j [24,29])) [24,29,23],
dF (gD 31 23 true (.bin .leq 30 (cI 0))) [30,23],
dF (uO 32 (.pick 23 31 cF)) [23,31]] [0,9,10,11,32])
(.cond 32 (.seq (rg [mV 2 (cI 7)] [2])
.ret)
.skip)))))
(rg [bN 33 .add 11 (cI 1),
mV 11 33] [0,9,10,11]))))
def zdP (C:Hd) (gl:GL) (v0 v9 v10 v11:AV) (h:Heap) (x:Esc) (K:KT):Prop:=
 pK (oBin .lss v11 v10) fun t1=>
 z0j t1 (pK (z0r (some 8) v9 v11 h) fun t2=>
 pK (z0e (some 8) t2 h) fun t3=>
 alK [.p (.str []),.p (.int .i64 0),.p (.int .i64 0),.p (.int .i64 0),.p (.str []),.p (.str []),.p (.str []),.p (.int .i64 0)] h fun t4 h5 y6=>
 wK (z0m (some 8) t4 t3 h5) fun t7 h8 y9=>
 pK (z0e (some 8) t4 h8) fun t10=>
 C z9l [t10] h8 fun t11 h12 y13=>
 pK (oBin .neq t11 (AI 0)) fun t14=>
 z0j t14 (K .ret ⟨[(2,t11)],h12,(y13++(y9++(y6++x)))⟩)
 (pK (oBin .gtr v11 (AI 0)) fun t15=>
 gP t15 true (z0e (some 8) t4 h12) h12 fun t16 h17 y18=>
 gM t15 true v0 h17 fun t19 h20 y21=>
 gM t15 true v11 h20 fun t22 h23 y24=>
 gP t15 true (oBin .sub t22 (AI 1)) h23 fun t25 h26 y27=>
 gP t15 true (z0r (some 8) t19 t25 h26) h26 fun t28 h29 y30=>
 gP t15 true (z0e (some 8) t28 h29) h29 fun t31 h32 y33=>
 gV t15 true h32 (z1h C z9j [t16,t31] h32) fun t34 h35 y36=>
 gP t15 true (oBin .leq t34 (AI 0)) h35 fun t37 h38 y39=>
 pK (z0G t15 t37 (AB false)) fun t40=>
 z0j t40 (K .ret ⟨[(2,(AI 7))],h38,(y39++(y36++(y33++(y30++(y27++(y24++(y21++(y18++(y13++(y9++(y6++x)))))))))))⟩)
 (pK (oBin .add v11 (AI 1)) fun t41=>
 K .normal ⟨[(0,v0),(9,v9),(10,v10),(11,t41)],h38,(y39++(y36++(y33++(y30++(y27++(y24++(y21++(y18++(y13++(y9++(y6++x)))))))))))⟩)))
 (K (.exit 0) ⟨[(0,v0),(9,v9),(10,v10),(11,v11),(12,t1)],h,x⟩)
theorem zoa {C gl e h x K}:NW C gl z3i ⟨e,h,x⟩ K=zdP C gl (aget e 0) (aget e 9) (aget e 10) (aget e 11) h x K:=by kernel_rfl
theorem zpK {C gl e h x K}:NW C gl (.loop (.scope z3i)) ⟨e,h,x⟩ K=z0Z C gl (.scope z3i) K [(0,aget e 0),(9,aget e 9),(10,aget e 10),(11,aget e 11)] h x:=z13
def z6w:ACode:=.pr [0] (.seq (.seq (rg [mV 34 0,
cL 35 z9r [34]] [35])
(.cond 35 (.seq (rg [mV 2 (cI 6)] [2])
.ret)
.skip))
(.seq (rg [mV 2 (cI 0)] [2])
.ret))
def zdQ (C:Hd) (gl:GL) (v0:AV) (h:Heap) (x:Esc) (K:KT):Prop:=
 C z9r [v0] h fun t1 h2 y3=>
 z0j t1 (K .ret ⟨[(2,(AI 6))],h2,(y3++x)⟩)
 (K .ret ⟨[(2,(AI 0))],h2,(y3++x)⟩)
theorem zob {C gl e h x K}:NW C gl z6w ⟨e,h,x⟩ K=zdQ C gl (aget e 0) h x K:=by kernel_rfl
def zvM (q1 q2:ACode):ACode:=(.seq (rg [mV 2 (cI 0)] [0])
(.seq (.seq (rg [mV 6 0,
lN 7 6,
bN 8 .gtr 7 (cI 2000)] [0,8])
(.cond 8 (.seq (rg [mV 2 (cI 2)] [2])
.ret)
.skip))
(.seq (.seq (rg [mV 9 0,
lN 10 9,
mV 11 (cI 0)] [0,9,10,11])
(.block 0 (.loop (.scope q1))))
q2)))
def zg4:AFun:=⟨1,[.t 2],zvM z3i z6w,false,false⟩
def zdO (C:Hd) (gl:GL) (q1 q2:ACode) (v0:AV) (h:Heap) (x:Esc) (K:KT):Prop:=
 pK (oLen v0) fun t1=>
 pK (oBin .gtr t1 (AI 2000)) fun t2=>
 z0j t2 (K .ret ⟨[(2,(AI 2))],h,x⟩)
 (pK (oLen v0) fun t3=>
 NW C gl (.loop (.scope q1)) ⟨[(0,v0),(9,v0),(10,t3),(11,(AI 0))],h,x⟩ (z0q 0 (seqN C gl q2 K)))
theorem E_q05h {C gl q1 q2 v0 h x K}:NW C gl (zvM q1 q2) ⟨enter [v0],h,x⟩ K=zdO C gl q1 q2 v0 h x K:=by kernel_rfl
theorem e_q05h {C gl v0 h x K}:NW C gl zg4.body ⟨enter [v0],h,x⟩ K=zdO C gl z3i z6w v0 h x K:=E_q05h
def P_q065:ACode:=(.seq (rg [mV 2 (cI 0)] [0])
(.seq (.seq (rg [mV 3 0,
cL 4 z5M [3],
uO 5 (.un .not 4)] [5])
(.cond 5 (.seq (rg [mV 2 (cI 1)] [2])
.ret)
.skip))
(.seq (rg [mV 2 (cI 0)] [2])
.ret)))
def zgH:AFun:=⟨1,[.t 2],P_q065,false,false⟩
def zhx (C:Hd) (gl:GL) (v0:AV) (h:Heap) (x:Esc) (K:KT):Prop:=
 C z5M [v0] h fun t1 h2 y3=>
 pK (oUn .not t1) fun t4=>
 z0j t4 (K .ret ⟨[(2,(AI 1))],h2,(y3++x)⟩)
 (K .ret ⟨[(2,(AI 0))],h2,(y3++x)⟩)
theorem e_q065 {C gl v0 h x K}:NW C gl zgH.body ⟨enter [v0],h,x⟩ K=zhx C gl v0 h x K:=by kernel_rfl
def z9J:ACode:=.pr [0,3,4,5] (rg [mV 16 5,
bN 17 .sub 16 (cI 1),
mV 5 17] [0,3,4,5])
def zdY (C:Hd) (gl:GL) (v0 v3 v4 v5:AV) (h:Heap) (x:Esc) (K:KT):Prop:=
 pK (oBin .sub v5 (AI 1)) fun t1=>
 K .normal ⟨[(0,v0),(3,v3),(4,v4),(5,t1)],h,x⟩
theorem zoj {C gl e h x K}:NW C gl z9J ⟨e,h,x⟩ K=zdY C gl (aget e 0) (aget e 3) (aget e 4) (aget e 5) h x K:=by kernel_rfl
def zcM (q1:ACode):ACode:=.pr [0,3,4,5] (.seq (.seq (rg [mV 14 5,
bN 15 .geq 14 (cI 0)] [0,3,4,5,15])
(.cond 15 .skip
(.exit 0)))
(.seq (.block 1 (.seq (rg [mV 18 0,
mV 19 5,
iA 20 (some 8) 18 19,
lD 21 (some 8) 20,
uO 6 (.alloc [.p (.str []),.p (.int .i64 0),.p (.int .i64 0),.p (.int .i64 0),.p (.str []),.p (.str []),.p (.str []),.p (.int .i64 0)]),
wO (.store (some 8) 6 21)] [0,3,4,5,6])
(.seq (rg [mV 22 4,
mV 23 5,
mV 24 3,
fA 25 0 none 6,
lD 26 none 25,
fA 27 1 none 6,
lD 28 none 27,
uO 29 (.build [.p (.str []),.p (.int .i64 0)] [(0,1,26),(1,1,28)]),
uO 30 (.look ((some 2),[2,0]) false (AB false) 24 29),
uO 31 (.un .not 30),
iA 32 none 22 23,
wO (.store none 32 31)] [0,3,4,5,6])
(.seq (rg [mV 33 4,
mV 34 5,
iA 35 none 33 34,
lD 36 none 35,
mV 37 36,
gD 38 37 true (.faddr 3 none 6),
gD 39 37 true (.load none 38),
gD 40 37 true (.bin .eql 39 (cI 7)),
uO 41 (.pick 37 40 cF)] [0,3,4,5,6,41])
(.cond 41 (rg [mV 42 3,
fA 43 6 none 6,
lD 44 none 43,
fA 45 7 none 6,
lD 46 none 45,
uO 47 (.build [.p (.str []),.p (.int .i64 0)] [(0,1,44),(1,1,46)]),
wO (.mupd ((some 2),[2,0]) 42 47 cT)] [0,3,4,5])
.skip)))))
q1))
def z3m:ACode:=zcM z9J
def z8L (C:Hd) (gl:GL) (q1:ACode) (v0 v3 v4 v5:AV) (h:Heap) (x:Esc) (K:KT):Prop:=
 pK (oBin .geq v5 (AI 0)) fun t1=>
 z0j t1 (pK (z0r (some 8) v0 v5 h) fun t2=>
 pK (z0e (some 8) t2 h) fun t3=>
 alK [.p (.str []),.p (.int .i64 0),.p (.int .i64 0),.p (.int .i64 0),.p (.str []),.p (.str []),.p (.str []),.p (.int .i64 0)] h fun t4 h5 y6=>
 wK (z0m (some 8) t4 t3 h5) fun t7 h8 y9=>
 pK (z0d 0 none t4) fun t10=>
 pK (z0e none t10 h8) fun t11=>
 pK (z0d 1 none t4) fun t12=>
 pK (z0e none t12 h8) fun t13=>
 pK (z07 [.p (.str []),.p (.int .i64 0)] [(0,1,t11),(1,1,t13)]) fun t14=>
 pK (z0L ((some 2),[2,0]) false (AB false) v3 t14 h8) fun t15=>
 pK (oUn .not t15) fun t16=>
 pK (z0r none v4 v5 h8) fun t17=>
 wK (z0m none t17 t16 h8) fun t18 h19 y20=>
 pK (z0r none v4 v5 h19) fun t21=>
 pK (z0e none t21 h19) fun t22=>
 gP t22 true (z0d 3 none t4) h19 fun t23 h24 y25=>
 gP t22 true (z0e none t23 h24) h24 fun t26 h27 y28=>
 gP t22 true (oBin .eql t26 (AI 7)) h27 fun t29 h30 y31=>
 pK (z0G t22 t29 (AB false)) fun t32=>
 z0j t32 (pK (z0d 6 none t4) fun t33=>
 pK (z0e none t33 h30) fun t34=>
 pK (z0d 7 none t4) fun t35=>
 pK (z0e none t35 h30) fun t36=>
 pK (z07 [.p (.str []),.p (.int .i64 0)] [(0,1,t34),(1,1,t36)]) fun t37=>
 wK (z1v ((some 2),[2,0]) v3 t37 (AB true) h30) fun t38 h39 y40=>
 NW C gl q1 ⟨[(0,v0),(3,v3),(4,v4),(5,v5)],h39,(y40++(y31++(y28++(y25++(y20++(y9++(y6++x)))))))⟩ K)
 (NW C gl q1 ⟨[(0,v0),(3,v3),(4,v4),(5,v5),(6,t4),(41,t32)],h30,(y31++(y28++(y25++(y20++(y9++(y6++x))))))⟩ K))
 (K (.exit 0) ⟨[(0,v0),(3,v3),(4,v4),(5,v5),(15,t1)],h,x⟩)
theorem zkE {C gl q1 e h x K}:NW C gl (zcM q1) ⟨e,h,x⟩ K=z8L C gl q1 (aget e 0) (aget e 3) (aget e 4) (aget e 5) h x K:=by kernel_rfl
theorem zok {C gl e h x K}:NW C gl z3m ⟨e,h,x⟩ K=z8L C gl z9J (aget e 0) (aget e 3) (aget e 4) (aget e 5) h x K:=zkE
theorem zpP {C gl e h x K}:NW C gl (.loop (.scope z3m)) ⟨e,h,x⟩ K=z0Z C gl (.scope z3m) K [(0,aget e 0),(3,aget e 3),(4,aget e 4),(5,aget e 5)] h x:=z13
def z60:ACode:=.pr [4] (.seq (rg [mV 48 4,
mV 2 48] [2])
.ret)
def zdZ (C:Hd) (gl:GL) (v4:AV) (h:Heap) (x:Esc) (K:KT):Prop:=
 K .ret ⟨[(2,v4)],h,x⟩
theorem zol {C gl e h x K}:NW C gl z60 ⟨e,h,x⟩ K=zdZ C gl (aget e 4) h x K:=by kernel_rfl
def zvQ (q2 q3:ACode):ACode:=(.seq (rg [mV 2 (.c (.p (.sl none [])))] [0])
(.seq (rg [uO 7 (.mkmap),
mV 3 7] [0,3])
(.seq (rg [mV 8 0,
lN 9 8,
uO 10 (.mksl none (.bool false) 9 9),
mV 4 10] [0,3,4])
(.seq (.seq (rg [mV 11 0,
lN 12 11,
bN 13 .sub 12 (cI 1),
mV 5 13] [0,3,4,5])
(.block 0 (.loop (.scope q2))))
q3))))
def zg8:AFun:=⟨1,[.t 2],zvQ z3m z60,false,false⟩
def zht (C:Hd) (gl:GL) (q2 q3:ACode) (v0:AV) (h:Heap) (x:Esc) (K:KT):Prop:=
 mmK h fun t1 h2 y3=>
 pK (oLen v0) fun t4=>
 wK (zyT none (.bool false) t4 t4 h2) fun t5 h6 y7=>
 pK (oLen v0) fun t8=>
 pK (oBin .sub t8 (AI 1)) fun t9=>
 NW C gl (.loop (.scope q2)) ⟨[(0,v0),(3,t1),(4,t5),(5,t9)],h6,(y7++(y3++x))⟩ (z0q 0 (seqN C gl q3 K))
theorem E_q05t {C gl q2 q3 v0 h x K}:NW C gl (zvQ q2 q3) ⟨enter [v0],h,x⟩ K=zht C gl q2 q3 v0 h x K:=by kernel_rfl
theorem e_q05t {C gl v0 h x K}:NW C gl zg8.body ⟨enter [v0],h,x⟩ K=zht C gl z3m z60 v0 h x K:=E_q05t
end Go.Am
end
