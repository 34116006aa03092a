/- Texts of the proof, laid together: CodesA, CodesB. -/
import Derived.KernelRfl
import Derived.Test.YtklljiofechahaaGreatDoorlawUN4
set_option linter.all false
section
/- The functions asv abstract code,and asv formulas over their values: printed by program out of the translation. -/
set_option linter.unusedVariables false
set_option maxRecDepth 100000
namespace Go.Am
def z7K:ACode:=.pr [4,5,6,9,10,13,14,16,54,55,56] (rg [mV 69 14,
mV 70 69,
gD 71 70 false (.faddr 3 none 16),
gD 72 70 false (.load none 71),
gD 73 70 false (.bin .eql 72 (cI 7)),
uO 74 (.pick 70 cT 73),
mV 14 74] [4,5,6,9,10,13,14,54,55,56])
def zaX (C:Hd) (gl:GL) (v4 v5 v6 v9 v10 v13 v14 v16 v54 v55 v56:AV) (h:Heap) (x:Esc) (K:KT):Prop:=
 gP v14 false (z0d 3 none v16) h fun t1 h2 y3=>
 gP v14 false (z0e none t1 h2) h2 fun t4 h5 y6=>
 gP v14 false (oBin .eql t4 (AI 7)) h5 fun t7 h8 y9=>
 pK (z0O v14 (AB true) t7) fun t10=>
 K .normal ⟨[(4,v4),(5,v5),(6,v6),(9,v9),(10,v10),(13,v13),(14,t10),(54,v54),(55,v55),(56,v56)],h8,(y9++(y6++(y3++x)))⟩
theorem zjO {C gl e h x K}:NW C gl z7K ⟨e,h,x⟩ K=zaX C gl (aget e 4) (aget e 5) (aget e 6) (aget e 9) (aget e 10) (aget e 13) (aget e 14) (aget e 16) (aget e 54) (aget e 55) (aget e 56) h x K:=by kernel_rfl
def z7L:ACode:=.pr [4,5,6,9,10,13,14,54,55,56] (rg [bN 75 .add 56 (cI 1),
mV 56 75] [4,5,6,9,10,13,14,54,55,56])
def zaY (C:Hd) (gl:GL) (v4 v5 v6 v9 v10 v13 v14 v54 v55 v56:AV) (h:Heap) (x:Esc) (K:KT):Prop:=
 pK (oBin .add v56 (AI 1)) fun t1=>
 K .normal ⟨[(4,v4),(5,v5),(6,v6),(9,v9),(10,v10),(13,v13),(14,v14),(54,v54),(55,v55),(56,t1)],h,x⟩
theorem zjP {C gl e h x K}:NW C gl z7L ⟨e,h,x⟩ K=zaY C gl (aget e 4) (aget e 5) (aget e 6) (aget e 9) (aget e 10) (aget e 13) (aget e 14) (aget e 54) (aget e 55) (aget e 56) h x K:=by kernel_rfl
def zav (q1 q2:ACode):ACode:=.pr [4,5,6,9,10,13,14,54,55,56] (.seq (rg [bN 57 .lss 56 55] [4,5,6,9,10,13,14,54,55,56,57])
(.seq (.cond 57 .skip
(.exit 0))
(.seq (.block 1 (.seq (rg [mV 58 56,
iA 59 (some 8) 54 56,
lD 60 (some 8) 59,
uO 16 (.alloc [.p (.str []),.p (.int .i64 0),.p (.int .i64 0),.p (.int .i64 0),.p (.str []),.p (.str []),.p (.str []),.p (.int .i64 0)]),
mV 15 58,
wO (.store (some 8) 16 60)] [4,5,6,9,10,13,14,15,16,54,55,56])
(.seq (.seq (rg [mV 61 10,
mV 62 15,
cL 63 z4R [61,62],
uO 64 (.un .not 63)] [4,5,6,9,10,13,14,16,54,55,56,64])
(.cond 64 (rg [mV 65 13,
lD 66 (some 8) 16,
uO 67 (.bsl false (some 8) 1 (.agg [.str [],.int .i64 0,.int .i64 0,.int .i64 0,.str [],.str [],.str [],.int .i64 0]) [(0,66)]),
uO 68 (.app (some 8) 65 67),
mV 13 68] [4,5,6,9,10,13,14,16,54,55,56])
.skip))
q1)))
q2)))
def z2C:ACode:=zav z7K z7L
def z6V (C:Hd) (gl:GL) (q1 q2:ACode) (v4 v5 v6 v9 v10 v13 v14 v54 v55 v56:AV) (h:Heap) (x:Esc) (K:KT):Prop:=
 pK (oBin .lss v56 v55) fun t1=>
 z0k t1 (pK (z0y (some 8) v54 v56 h) fun t2=>
 pK (z0e (some 8) t2 h) fun t3=>
 alK [.p (.str []),.p (.int .i64 0),.p (.int .i64 0),.p (.int .i64 0),.p (.str []),.p (.str []),.p (.str []),.p (.int .i64 0)] h fun t4 h5 y6=>
 wK (z0m (some 8) t4 t3 h5) fun t7 h8 y9=>
 C z4R [v10,v56] h8 fun t10 h11 y12=>
 pK (oUn .not t10) fun t13=>
 z0k t13 (pK (z0e (some 8) t4 h11) fun t14=>
 wK (oBsl false (some 8) 1 (.agg [.str [],.int .i64 0,.int .i64 0,.int .i64 0,.str [],.str [],.str [],.int .i64 0]) [(0,t14)] h11) fun t15 h16 y17=>
 wK (oApp (some 8) v13 t15 h16) fun t18 h19 y20=>
 NW C gl q1 ⟨[(4,v4),(5,v5),(6,v6),(9,v9),(10,v10),(13,t18),(14,v14),(16,t4),(54,v54),(55,v55),(56,v56)],h19,(y20++(y17++(y12++(y9++(y6++x)))))⟩ (z0w 1 (seqN C gl q2 K)))
 (NW C gl q1 ⟨[(4,v4),(5,v5),(6,v6),(9,v9),(10,v10),(13,v13),(14,v14),(16,t4),(54,v54),(55,v55),(56,v56),(64,t13)],h11,(y12++(y9++(y6++x)))⟩ (z0w 1 (seqN C gl q2 K))))
 (K (.exit 0) ⟨[(4,v4),(5,v5),(6,v6),(9,v9),(10,v10),(13,v13),(14,v14),(54,v54),(55,v55),(56,v56),(57,t1)],h,x⟩)
theorem zhx {C gl q1 q2 e h x K}:NW C gl (zav q1 q2) ⟨e,h,x⟩ K=z6V C gl q1 q2 (aget e 4) (aget e 5) (aget e 6) (aget e 9) (aget e 10) (aget e 13) (aget e 14) (aget e 54) (aget e 55) (aget e 56) h x K:=by kernel_rfl
theorem zjQ {C gl e h x K}:NW C gl z2C ⟨e,h,x⟩ K=z6V C gl z7K z7L (aget e 4) (aget e 5) (aget e 6) (aget e 9) (aget e 10) (aget e 13) (aget e 14) (aget e 54) (aget e 55) (aget e 56) h x K:=zhx
theorem zlB {C gl e h x K}:NW C gl (.loop (.scope z2C)) ⟨e,h,x⟩ K=z1s C gl (.scope z2C) K [(4,aget e 4),(5,aget e 5),(6,aget e 6),(9,aget e 9),(10,aget e 10),(13,aget e 13),(14,aget e 14),(54,aget e 54),(55,aget e 55),(56,aget e 56)] h x:=z1S
def z34:ACode:=.pr [4,5,6,9,13,14,76,77,78] (.seq (rg [bN 79 .lss 78 77] [4,5,6,9,13,14,76,77,78,79])
(.seq (.cond 79 .skip
(.exit 2))
(.seq (.block 3 (.seq (rg [iA 80 none 76 78,
lD 81 none 80,
mV 18 81] [4,5,6,9,13,14,18,76,77,78])
(.seq (rg [lD 83 (some 2) 4,
mV 84 5,
mV 85 18,
mV 86 6,
cL 87 z1Q [83,84,85,86],
mV 82 87,
eX 88 82 0,
eX 89 82 1,
uO 19 (.alloc [.p (.int .i64 0),.p (.int .i64 0),.p (.str []),.p (.str []),.p (.int .i64 0)]),
wO (.store (some 5) 19 88),
mV 20 89] [4,5,6,9,13,14,18,19,20,76,77,78])
(.seq (rg [lD 91 (some 2) 4,
mV 92 9,
mV 93 18,
mV 94 6,
cL 95 z1Q [91,92,93,94],
mV 90 95,
eX 96 90 0,
eX 97 90 1,
uO 21 (.alloc [.p (.int .i64 0),.p (.int .i64 0),.p (.str []),.p (.str []),.p (.int .i64 0)]),
wO (.store (some 5) 21 96),
mV 22 97] [4,5,6,9,13,14,18,19,20,21,22,76,77,78])
(.seq (.seq (rg [mV 98 20,
mV 99 22,
bN 100 .neq 98 99,
mV 101 100,
gD 102 101 false (.load (some 5) 19),
gD 103 101 false (.load (some 5) 21),
gD 104 101 false (.eqa [0,0,2,2,0] true 102 103),
uO 105 (.pick 101 cT 104)] [4,5,6,9,13,14,18,19,20,76,77,78,105])
(.cond 105 (.seq (rg [mV 2 cF] [2])
.ret)
.skip))
(.seq (rg [lD 107 (some 2) 4,
mV 108 13,
mV 109 18,
mV 110 6,
cL 111 z1Q [107,108,109,110],
mV 106 111,
eX 112 106 0,
eX 113 106 1,
uO 23 (.alloc [.p (.int .i64 0),.p (.int .i64 0),.p (.str []),.p (.str []),.p (.int .i64 0)]),
wO (.store (some 5) 23 112),
mV 24 113] [4,5,6,9,13,14,19,20,23,24,76,77,78])
(.seq (rg [mV 114 14,
uO 115 (.un .not 114),
mV 116 115,
gD 117 116 true (.mv 24),
gD 118 116 true (.mv 20),
gD 119 116 true (.bin .neq 117 118),
gD 120 116 true (.mv 119),
gD 121 120 false (.load (some 5) 23),
gD 122 120 false (.load (some 5) 19),
gD 123 120 false (.eqa [0,0,2,2,0] true 121 122),
gD 124 116 true (.pick 120 cT 123),
uO 125 (.pick 116 124 cF)] [4,5,6,9,13,14,76,77,78,125])
(.cond 125 (.seq (rg [mV 2 cF] [2])
.ret)
.skip))))))))
(rg [bN 126 .add 78 (cI 1),
mV 78 126] [4,5,6,9,13,14,76,77,78]))))
def zaZ (C:Hd) (gl:GL) (v4 v5 v6 v9 v13 v14 v76 v77 v78:AV) (h:Heap) (x:Esc) (K:KT):Prop:=
 pK (oBin .lss v78 v77) fun t1=>
 z0k t1 (pK (z0y none v76 v78 h) fun t2=>
 pK (z0e none t2 h) fun t3=>
 pK (z0e (some 2) v4 h) fun t4=>
 C z1Q [t4,v5,t3,v6] h fun t5 h6 y7=>
 pK (oExt t5 0) fun t8=>
 pK (oExt t5 1) fun t9=>
 alK [.p (.int .i64 0),.p (.int .i64 0),.p (.str []),.p (.str []),.p (.int .i64 0)] h6 fun t10 h11 y12=>
 wK (z0m (some 5) t10 t8 h11) fun t13 h14 y15=>
 pK (z0e (some 2) v4 h14) fun t16=>
 C z1Q [t16,v9,t3,v6] h14 fun t17 h18 y19=>
 pK (oExt t17 0) fun t20=>
 pK (oExt t17 1) fun t21=>
 alK [.p (.int .i64 0),.p (.int .i64 0),.p (.str []),.p (.str []),.p (.int .i64 0)] h18 fun t22 h23 y24=>
 wK (z0m (some 5) t22 t20 h23) fun t25 h26 y27=>
 pK (oBin .neq t9 t21) fun t28=>
 gP t28 false (z0e (some 5) t10 h26) h26 fun t29 h30 y31=>
 gP t28 false (z0e (some 5) t22 h30) h30 fun t32 h33 y34=>
 gP t28 false (oEqa [0,0,2,2,0] true t29 t32) h33 fun t35 h36 y37=>
 pK (z0O t28 (AB true) t35) fun t38=>
 z0k t38 (K .ret ⟨[(2,(AB false))],h36,(y37++(y34++(y31++(y27++(y24++(y19++(y15++(y12++(y7++x)))))))))⟩)
 (pK (z0e (some 2) v4 h36) fun t39=>
 C z1Q [t39,v13,t3,v6] h36 fun t40 h41 y42=>
 pK (oExt t40 0) fun t43=>
 pK (oExt t40 1) fun t44=>
 alK [.p (.int .i64 0),.p (.int .i64 0),.p (.str []),.p (.str []),.p (.int .i64 0)] h41 fun t45 h46 y47=>
 wK (z0m (some 5) t45 t43 h46) fun t48 h49 y50=>
 pK (oUn .not v14) fun t51=>
 gM t51 true t44 h49 fun t52 h53 y54=>
 gM t51 true t9 h53 fun t55 h56 y57=>
 gP t51 true (oBin .neq t52 t55) h56 fun t58 h59 y60=>
 gM t51 true t58 h59 fun t61 h62 y63=>
 gP t61 false (z0e (some 5) t45 h62) h62 fun t64 h65 y66=>
 gP t61 false (z0e (some 5) t10 h65) h65 fun t67 h68 y69=>
 gP t61 false (oEqa [0,0,2,2,0] true t64 t67) h68 fun t70 h71 y72=>
 gP t51 true (z0O t61 (AB true) t70) h71 fun t73 h74 y75=>
 pK (z0O t51 t73 (AB false)) fun t76=>
 z0k t76 (K .ret ⟨[(2,(AB false))],h74,(y75++(y72++(y69++(y66++(y63++(y60++(y57++(y54++(y50++(y47++(y42++(y37++(y34++(y31++(y27++(y24++(y19++(y15++(y12++(y7++x))))))))))))))))))))⟩)
 (pK (oBin .add v78 (AI 1)) fun t77=>
 K .normal ⟨[(4,v4),(5,v5),(6,v6),(9,v9),(13,v13),(14,v14),(76,v76),(77,v77),(78,t77)],h74,(y75++(y72++(y69++(y66++(y63++(y60++(y57++(y54++(y50++(y47++(y42++(y37++(y34++(y31++(y27++(y24++(y19++(y15++(y12++(y7++x))))))))))))))))))))⟩)))
 (K (.exit 2) ⟨[(4,v4),(5,v5),(6,v6),(9,v9),(13,v13),(14,v14),(76,v76),(77,v77),(78,v78),(79,t1)],h,x⟩)
theorem zjR {C gl e h x K}:NW C gl z34 ⟨e,h,x⟩ K=zaZ C gl (aget e 4) (aget e 5) (aget e 6) (aget e 9) (aget e 13) (aget e 14) (aget e 76) (aget e 77) (aget e 78) h x K:=by kernel_rfl
theorem zlC {C gl e h x K}:NW C gl (.loop (.scope z34)) ⟨e,h,x⟩ K=z1s C gl (.scope z34) K [(4,aget e 4),(5,aget e 5),(6,aget e 6),(9,aget e 9),(13,aget e 13),(14,aget e 14),(76,aget e 76),(77,aget e 77),(78,aget e 78)] h x:=z1S
def z7M:ACode:=.pr [] (.seq (rg [cL 127 z7s [],
mV 2 127] [2])
.ret)
def z6W (C:Hd) (gl:GL) (h:Heap) (x:Esc) (K:KT):Prop:=
 C z7s [] h fun t1 h2 y3=>
 K .ret ⟨[(2,t1)],h2,(y3++x)⟩
theorem z7j {C gl e h x K}:NW C gl z7M ⟨e,h,x⟩ K=z6W C gl h x K:=by kernel_rfl
def zaw (q4 q5:ACode):ACode:=.pr [4,5,6,9,13,14] (.seq (.seq (rg [uO 76 (.bsl false none 3 (.str []) [(0,(cS [98,49])),(1,(cS [98,50])),(2,(cS [98,51]))]),
lN 77 76,
mV 78 (cI 0)] [4,5,6,9,13,14,76,77,78])
(.block 2 (.loop (.scope q4))))
q5)
def z35:ACode:=zaw z34 z7M
def z4F (C:Hd) (gl:GL) (q4 q5:ACode) (v4 v5 v6 v9 v13 v14:AV) (h:Heap) (x:Esc) (K:KT):Prop:=
 wK (oBsl false none 3 (.str []) [(0,(.p (.str [98,49]))),(1,(.p (.str [98,50]))),(2,(.p (.str [98,51])))] h) fun t1 h2 y3=>
 pK (oLen t1) fun t4=>
 NW C gl (.loop (.scope q4)) ⟨[(4,v4),(5,v5),(6,v6),(9,v9),(13,v13),(14,v14),(76,t1),(77,t4),(78,(AI 0))],h2,(y3++x)⟩ (z0w 2 (seqN C gl q5 K))
theorem zhy {C gl q4 q5 e h x K}:NW C gl (zaw q4 q5) ⟨e,h,x⟩ K=z4F C gl q4 q5 (aget e 4) (aget e 5) (aget e 6) (aget e 9) (aget e 13) (aget e 14) h x K:=by kernel_rfl
theorem z4K {C gl e h x K}:NW C gl z35 ⟨e,h,x⟩ K=z4F C gl z34 z7M (aget e 4) (aget e 5) (aget e 6) (aget e 9) (aget e 13) (aget e 14) h x K:=zhy
def zrm (q3 q6:ACode):ACode:=(.seq (rg [mV 2 cF] [0])
(.seq (rg [mV 25 0,
uO 26 (.build [.sl0 none,.p (.int .i64 0)] [(0,1,25)]),
uO 27 (.box 26),
mV 3 27] [3])
(.seq (rg [mV 28 3,
cL 29 z8R [28],
mV 30 3,
mV 31 3,
cL 32 z1J [31,(cI 0),(cI 14)],
cL 33 z8Q [30,32],
uO 4 (.alloc [.sl0 none,.p (.int .i64 0)]),
wO (.store (some 2) 4 29),
mV 5 33] [4,5])
(.seq (rg [mV 6 (cI 10000)] [4,5,6])
(.seq (rg [mV 34 6,
uO 35 (.build [.p (.str []),.p (.int .i64 0),.p (.int .i64 0),.p (.int .i64 0),.p (.str []),.p (.str []),.p (.str []),.p (.int .i64 0)] [(0,1,(cS [122,122])),(1,1,(cI 1)),(2,1,34),(3,1,(cI 6)),(4,1,(cS [98,49]))]),
uO 7 (.alloc [.p (.str []),.p (.int .i64 0),.p (.int .i64 0),.p (.int .i64 0),.p (.str []),.p (.str []),.p (.str []),.p (.int .i64 0)]),
wO (.store (some 8) 7 35)] [4,5,6,7])
(.seq (rg [mV 36 6,
uO 37 (.build [.p (.str []),.p (.int .i64 0),.p (.int .i64 0),.p (.int .i64 0),.p (.str []),.p (.str []),.p (.str []),.p (.int .i64 0)] [(0,1,(cS [122,122])),(1,1,(cI 2)),(2,1,36),(3,1,(cI 7)),(6,1,(cS [122,122])),(7,1,(cI 1))]),
uO 8 (.alloc [.p (.str []),.p (.int .i64 0),.p (.int .i64 0),.p (.int .i64 0),.p (.str []),.p (.str []),.p (.str []),.p (.int .i64 0)]),
wO (.store (some 8) 8 37)] [4,5,6,7,8])
(.seq (dr [dF (mV 38 5) [5],
dT (cL 39 z8W [38]) [38],
dA (lD 40 (some 8) 7) [7] false [1] [],
dA (lD 41 (some 8) 8) [8] false [1] [],
dA (uO 42 (.bsl false (some 8) 2 (.agg [.str [],.int .i64 0,.int .i64 0,.int .i64 0,.str [],.str [],.str [],.int .i64 0]) [(0,40),(1,41)])) [40,41] false [1] [],
dT (uO 43 (.app (some 8) 39 42)) [39,42],
dF (mV 9 43) [43]] [4,5,6,9])
(.seq (rg [lD 45 (some 2) 4,
mV 46 5,
mV 47 6,
cL 48 z9b [45,46,47],
mV 44 48,
eX 49 44 0,
eX 50 44 1,
eX 51 44 2,
mV 10 49,
mV 11 50,
mV 12 51] [4,5,6,9,10,12])
(.seq (.seq (rg [mV 52 12,
bN 53 .neq 52 (cI 0)] [4,5,6,9,10,53])
(.cond 53 (.seq (rg [mV 2 cF] [2])
.ret)
.skip))
(.seq (rg [uO 13 (.new0 (some 8))] [4,5,6,9,10,13])
(.seq (rg [mV 14 cF] [4,5,6,9,10,13,14])
(.seq (.seq (rg [mV 54 5,
lN 55 54,
mV 56 (cI 0)] [4,5,6,9,10,13,14,54,55,56])
(.block 0 (.loop (.scope q3))))
q6))))))))))))
def zie:AFun:=⟨1,[.t 2],zrm z2C z35,false,false⟩
def zev (C:Hd) (gl:GL) (q3 q6:ACode) (v0:AV) (h:Heap) (x:Esc) (K:KT):Prop:=
 pK (z07 [.sl0 none,.p (.int .i64 0)] [(0,1,v0)]) fun t1=>
 wK (oBox t1 h) fun t2 h3 y4=>
 C z8R [t2] h3 fun t5 h6 y7=>
 C z1J [t2,(AI 0),(AI 14)] h6 fun t8 h9 y10=>
 C z8Q [t2,t8] h9 fun t11 h12 y13=>
 alK [.sl0 none,.p (.int .i64 0)] h12 fun t14 h15 y16=>
 wK (z0m (some 2) t14 t5 h15) fun t17 h18 y19=>
 pK (z07 [.p (.str []),.p (.int .i64 0),.p (.int .i64 0),.p (.int .i64 0),.p (.str []),.p (.str []),.p (.str []),.p (.int .i64 0)] [(0,1,(.p (.str [122,122]))),(1,1,(AI 1)),(2,1,(AI 10000)),(3,1,(AI 6)),(4,1,(.p (.str [98,49])))]) fun t20=>
 alK [.p (.str []),.p (.int .i64 0),.p (.int .i64 0),.p (.int .i64 0),.p (.str []),.p (.str []),.p (.str []),.p (.int .i64 0)] h18 fun t21 h22 y23=>
 wK (z0m (some 8) t21 t20 h22) fun t24 h25 y26=>
 pK (z07 [.p (.str []),.p (.int .i64 0),.p (.int .i64 0),.p (.int .i64 0),.p (.str []),.p (.str []),.p (.str []),.p (.int .i64 0)] [(0,1,(.p (.str [122,122]))),(1,1,(AI 2)),(2,1,(AI 10000)),(3,1,(AI 7)),(6,1,(.p (.str [122,122]))),(7,1,(AI 1))]) fun t27=>
 alK [.p (.str []),.p (.int .i64 0),.p (.int .i64 0),.p (.int .i64 0),.p (.str []),.p (.str []),.p (.str []),.p (.int .i64 0)] h25 fun t28 h29 y30=>
 wK (z0m (some 8) t28 t27 h29) fun t31 h32 y33=>
 z19 C z8W [t11] h32 fun t34 h35 y36=>
 pK (z0e (some 8) t21 h35) fun t37=>
 (pK (z0e (some 8) t21 h32) fun v=>(fun u (g1:Heap) (y1:Esc)=>u=t37∧g1=h32∧y1=[]) v h32 [])∧(pK (z0e (some 8) t28 h35) fun t38=>
 (pK (z0e (some 8) t28 h32) fun v=>(fun u (g1:Heap) (y1:Esc)=>u=t38∧g1=h32∧y1=[]) v h32 [])∧(wK (oBsl false (some 8) 2 (.agg [.str [],.int .i64 0,.int .i64 0,.int .i64 0,.str [],.str [],.str [],.int .i64 0]) [(0,t37),(1,t38)] h35) fun t39 h40 y41=>
 (h40=h35∧y41=[])∧((wK (oBsl false (some 8) 2 (.agg [.str [],.int .i64 0,.int .i64 0,.int .i64 0,.str [],.str [],.str [],.int .i64 0]) [(0,t37),(1,t38)] h32) (fun u (g1:Heap) (y1:Esc)=>u=t39∧g1=h32∧y1=[]))∧(wK (oApp (some 8) t34 t39 h40) fun t42 h43 y44=>
 pK (z0e (some 2) t14 h43) fun t45=>
 C z9b [t45,t11,(AI 10000)] h43 fun t46 h47 y48=>
 pK (oExt t46 0) fun t49=>
 pK (oExt t46 1) fun t50=>
 pK (oExt t46 2) fun t51=>
 pK (oBin .neq t51 (AI 0)) fun t52=>
 z0k t52 (K .ret ⟨[(2,(AB false))],h47,(y48++(y44++(y41++(y36++(y33++(y30++(y26++(y23++(y19++(y16++(y13++(y10++(y7++(y4++x))))))))))))))⟩)
 (nwK (some 8) h47 fun t53 h54 y55=>
 pK (oLen t11) fun t56=>
 NW C gl (.loop (.scope q3)) ⟨[(4,t14),(5,t11),(6,(AI 10000)),(9,t42),(10,t49),(13,t53),(14,(AB false)),(54,t11),(55,t56),(56,(AI 0))],h54,(y55++(y48++(y44++(y41++(y36++(y33++(y30++(y26++(y23++(y19++(y16++(y13++(y10++(y7++(y4++x)))))))))))))))⟩ (z0w 0 (seqN C gl q6 K)))))))
theorem E_q02v {C gl q3 q6 v0 h x K}:NW C gl (zrm q3 q6) ⟨enter [v0],h,x⟩ K=zev C gl q3 q6 v0 h x K:=by kernel_rfl
theorem e_q02v {C gl v0 h x K}:NW C gl zie.body ⟨enter [v0],h,x⟩ K=zev C gl z2C z35 v0 h x K:=E_q02v
def P_q03k:ACode:=(.seq (rg [mV 6 (cI 0)] [0,1,2])
(.seq (.seq (rg [mV 7 2,
mV 8 1,
bN 9 .lss 7 8] [0,1,2,9])
(.cond 9 (.seq (rg [mV 10 1,
mV 6 10] [6])
.ret)
.skip))
(.seq (rg [mV 11 1,
mV 12 0,
mV 13 2,
mV 14 1,
bN 15 .sub 13 14,
bN 16 .add 15 (cI 1),
cL 17 z1I [12,16],
bN 18 .add 11 17,
mV 6 18] [6])
.ret)))
def zil:AFun:=⟨3,[.t 6],P_q03k,false,false⟩
def zjo (C:Hd) (gl:GL) (v0 v1 v2:AV) (h:Heap) (x:Esc) (K:KT):Prop:=
 pK (oBin .lss v2 v1) fun t1=>
 z0k t1 (K .ret ⟨[(6,v1)],h,x⟩)
 (pK (oBin .sub v2 v1) fun t2=>
 pK (oBin .add t2 (AI 1)) fun t3=>
 C z1I [v0,t3] h fun t4 h5 y6=>
 pK (oBin .add v1 t4) fun t7=>
 K .ret ⟨[(6,t7)],h5,(y6++x)⟩)
theorem e_q03k {C gl v0 v1 v2 h x K}:NW C gl zil.body ⟨enter [v0,v1,v2],h,x⟩ K=zjo C gl v0 v1 v2 h x K:=by kernel_rfl
def P_q03q:ACode:=(.seq (rg [uO 2 (.alloc [.sl0 none,.p (.int .i64 0)])] [0,2])
(.seq (dr [dF (uO 3 (.bsl false none 3 (.str []) [(0,(cS [115,99,97,110])),(1,(cS [102,108,97,115,104])),(2,(cS [98,117,114,110]))])) [],
dF (mV 4 0) [0],
dA (cL 5 z1J [4,(cI 1),(cI 3)]) [4] true [] [0],
dF (uO 6 (.slice none 3 none (some 5) none)) [3,5],
dF (mV 7 0) [0],
dA (cL 8 z1J [7,(cI 1),(cI 3)]) [7] true [] [0,3],
dF (uO 9 (.build [.sl0 none,.p (.int .i64 0)] [(0,1,6),(1,1,8)])) [6,8],
dT (wO (.store (some 2) 2 9)) [2,9]] [2])
.ret))
def zin:AFun:=⟨1,[.cell 2 (some 2)],P_q03q,false,false⟩
def zjp (C:Hd) (gl:GL) (v0:AV) (h:Heap) (x:Esc) (K:KT):Prop:=
 alK [.sl0 none,.p (.int .i64 0)] h fun t1 h2 y3=>
 wK (oBsl false none 3 (.str []) [(0,(.p (.str [115,99,97,110]))),(1,(.p (.str [102,108,97,115,104]))),(2,(.p (.str [98,117,114,110])))] h2) fun t4 h5 y6=>
 (h5=h2∧y6=[])∧(z19 C z1J [v0,(AI 1),(AI 3)] h5 fun t7 h8 y9=>
 (wK (oBsl false none 3 (.str []) [(0,(.p (.str [115,99,97,110]))),(1,(.p (.str [102,108,97,115,104]))),(2,(.p (.str [98,117,114,110])))] h8) (fun u (g1:Heap) (y1:Esc)=>u=t4∧g1=h8∧y1=[]))∧(pK (z4k none t4 none (some t7) none h8) fun t10=>
 z19 C z1J [v0,(AI 1),(AI 3)] h8 fun t11 h12 y13=>
 (wK (oBsl false none 3 (.str []) [(0,(.p (.str [115,99,97,110]))),(1,(.p (.str [102,108,97,115,104]))),(2,(.p (.str [98,117,114,110])))] h12) (fun u (g1:Heap) (y1:Esc)=>u=t4∧g1=h12∧y1=[]))∧((pK (z4k none t4 none (some t7) none h12) fun v=>(fun u (g1:Heap) (y1:Esc)=>u=t10∧g1=h12∧y1=[]) v h12 [])∧(pK (z07 [.sl0 none,.p (.int .i64 0)] [(0,1,t10),(1,1,t11)]) fun t14=>
 wK (z0m (some 2) t1 t14 h12) fun t15 h16 y17=>
 K .ret ⟨[(2,t1)],h16,(y17++(y13++(y9++(y6++(y3++x)))))⟩))))
theorem e_q03q {C gl v0 h x K}:NW C gl zin.body ⟨enter [v0],h,x⟩ K=zjp C gl v0 h x K:=by kernel_rfl
def z2E:ACode:=.pr [0,1,6] (.seq (rg [bN 7 .lss 6 (cI 8)] [0,1,6,7])
(.seq (.cond 7 .skip
(.exit 0))
(.seq (.block 1 (.seq (rg [mV 8 0,
mV 9 1,
cL 10 z8P [8,9],
mV 5 10] [0,1,5,6])
(.seq (rg [mV 11 5,
cL 12 z8S [11],
bN 13 .eql 12 (cI 0)] [0,1,5,6,13])
(.cond 13 (.seq (rg [mV 14 5,
mV 4 14] [4])
.ret)
.skip))))
(rg [bN 15 .add 6 (cI 1),
mV 6 15] [0,1,6]))))
def zbf (C:Hd) (gl:GL) (v0 v1 v6:AV) (h:Heap) (x:Esc) (K:KT):Prop:=
 pK (oBin .lss v6 (AI 8)) fun t1=>
 z0k t1 (C z8P [v0,v1] h fun t2 h3 y4=>
 C z8S [t2] h3 fun t5 h6 y7=>
 pK (oBin .eql t5 (AI 0)) fun t8=>
 z0k t8 (K .ret ⟨[(4,t2)],h6,(y7++(y4++x))⟩)
 (pK (oBin .add v6 (AI 1)) fun t9=>
 K .normal ⟨[(0,v0),(1,v1),(6,t9)],h6,(y7++(y4++x))⟩))
 (K (.exit 0) ⟨[(0,v0),(1,v1),(6,v6),(7,t1)],h,x⟩)
theorem zjX {C gl e h x K}:NW C gl z2E ⟨e,h,x⟩ K=zbf C gl (aget e 0) (aget e 1) (aget e 6) h x K:=by kernel_rfl
theorem zlE {C gl e h x K}:NW C gl (.loop z2E) ⟨e,h,x⟩ K=z1s C gl z2E K [(0,aget e 0),(1,aget e 1),(6,aget e 6)] h x:=z0H
def z5l:ACode:=.pr [] (.seq (rg [mV 4 (.c (.p (.sl (some 8) [])))] [4])
.ret)
def zbg (C:Hd) (gl:GL) (h:Heap) (x:Esc) (K:KT):Prop:=
 K .ret ⟨[(4,(.p (.sl (some 8) [])))],h,x⟩
theorem zjY {C gl e h x K}:NW C gl z5l ⟨e,h,x⟩ K=zbg C gl h x K:=by kernel_rfl
def zrp (q1 q2:ACode):ACode:=(.seq (rg [mV 4 (.c (.p (.sl (some 8) [])))] [0,1])
(.seq (.seq (rg [mV 6 (cI 0)] [0,1,6])
(.block 0 (.loop q1)))
q2))
def zim:AFun:=⟨2,[.t 4],zrp z2E z5l,false,false⟩
def zez (C:Hd) (gl:GL) (q1 q2:ACode) (v0 v1:AV) (h:Heap) (x:Esc) (K:KT):Prop:=
 NW C gl (.loop q1) ⟨[(0,v0),(1,v1),(6,(AI 0))],h,x⟩ (z0w 0 (seqN C gl q2 K))
theorem E_q03p {C gl q1 q2 v0 v1 h x K}:NW C gl (zrp q1 q2) ⟨enter [v0,v1],h,x⟩ K=zez C gl q1 q2 v0 v1 h x K:=by kernel_rfl
theorem e_q03p {C gl v0 v1 h x K}:NW C gl zim.body ⟨enter [v0,v1],h,x⟩ K=zez C gl z2E z5l v0 v1 h x K:=E_q03p
def P_q05b:ACode:=(.det (.seq (rg [mV 2 (.c (.p (.sl (some 8) [])))] [0])
(.seq (.seq (rg [mV 3 0,
uO 4 (.isnil 4 false 3)] [0,4])
(.condu 4 (.seq (rg [uO 2 (.new0 (some 8))] [2])
.ret)
.skip))
(.seq (rg [uO 5 (.bsl true (some 8) 0 (.agg [.str [],.int .i64 0,.int .i64 0,.int .i64 0,.str [],.str [],.str [],.int .i64 0]) []),
mV 6 0,
uO 7 (.app (some 8) 5 6),
mV 2 7] [2])
.ret))))
def zi0:AFun:=⟨1,[.t 2],P_q05b,false,true⟩
def zju (C:Hd) (gl:GL) (v0:AV) (h:Heap) (x:Esc) (K:KT):Prop:=
 pK (z7I 4 false v0) fun t1=>
 zgj t1 (nwK (some 8) h fun t2 h3 y4=>
 K .ret ⟨[(2,t2)],h3,(y4++x)⟩)
 (wK (oBsl true (some 8) 0 (.agg [.str [],.int .i64 0,.int .i64 0,.int .i64 0,.str [],.str [],.str [],.int .i64 0]) [] h) fun t5 h6 y7=>
 wK (oApp (some 8) t5 v0 h6) fun t8 h9 y10=>
 K .ret ⟨[(2,t8)],h9,(y10++(y7++x))⟩)
theorem e_q05b {C gl v0 h x K}:NW C gl zi0.body ⟨enter [v0],h,x⟩ K=zju C gl v0 h x K:=by kernel_rfl
def P_q07w:ACode:=(.seq (rg [uO 3 (.box 0),
mV 6 (.c (.p (.sl none []))),
mV 7 (.c (.p (.sl none []))),
mV 8 (cI 0)] [1,2,3])
(.seq (.seq (rg [lD 11 (some 2) 3,
mV 12 1,
mV 13 2,
cL 14 z4T [11,12,13],
mV 9 14] [1,2,3,9])
(.seq (rg [mV 15 9,
bN 16 .neq 15 (cI 0)] [1,2,3,9,16])
(.cond 16 (.seq (rg [mV 17 9,
mV 6 (.c (.p (.sl none []))),
mV 7 (.c (.p (.sl none []))),
mV 8 17] [6,7,8])
.ret)
.skip)))
(.seq (dr [dF (lD 18 (some 2) 3) [3],
dF (mV 19 1) [1],
dF (mV 20 2) [2],
dA (cL 21 z4V [19,20]) [19,20] true [] [0],
dT (cL 22 z3w [18,21]) [18,21],
dF (mV 10 22) [22]] [10])
(.seq (dr [dF (mV 23 10) [10],
dF (uO 24 (.nilchk 23)) [23],
dF (fA 25 6 none 24) [24],
dF (lD 26 none 25) [25],
dF (mV 27 10) [10],
dF (uO 28 (.nilchk 27)) [27],
dF (fA 29 7 none 28) [28],
dF (lD 30 none 29) [29],
dF (mV 6 26) [26],
dF (mV 7 30) [30],
dF (mV 8 (cI 0)) []] [6,7,8])
.ret))))
def zi6:AFun:=⟨3,[.t 6,.t 7,.t 8],P_q07w,false,false⟩
def ze7 (C:Hd) (gl:GL) (v0 v1 v2:AV) (h:Heap) (x:Esc) (K:KT):Prop:=
 wK (oBox v0 h) fun t1 h2 y3=>
 pK (z0e (some 2) t1 h2) fun t4=>
 C z4T [t4,v1,v2] h2 fun t5 h6 y7=>
 pK (oBin .neq t5 (AI 0)) fun t8=>
 z0k t8 (K .ret ⟨[(6,(.p (.sl none []))),(7,(.p (.sl none []))),(8,t5)],h6,(y7++(y3++x))⟩)
 (pK (z0e (some 2) t1 h6) fun t9=>
 z19 C z4V [v1,v2] h6 fun t10 h11 y12=>
 (pK (z0e (some 2) t1 h11) fun v=>(fun u (g1:Heap) (y1:Esc)=>u=t9∧g1=h11∧y1=[]) v h11 [])∧(z19 C z3w [t9,t10] h11 fun t13 h14 y15=>
 pK (oNil t13) fun t16=>
 pK (z0d 6 none t16) fun t17=>
 pK (z0e none t17 h14) fun t18=>
 pK (oNil t13) fun t19=>
 pK (z0d 7 none t19) fun t20=>
 pK (z0e none t20 h14) fun t21=>
 K .ret ⟨[(6,t18),(7,t21),(8,(AI 0))],h14,(y15++(y12++(y7++(y3++x))))⟩))
theorem e_q07w {C gl v0 v1 v2 h x K}:NW C gl zi6.body ⟨enter [v0,v1,v2],h,x⟩ K=ze7 C gl v0 v1 v2 h x K:=by kernel_rfl
def P_q05j:ACode:=(.seq (rg [mV 4 cF] [0,1])
(.seq (rg [mV 5 0,
mV 6 1,
cL 7 z7u [5,6],
bN 8 .geq 7 (cI 0),
mV 4 8] [4])
.ret))
def zdK:AFun:=⟨2,[.t 4],P_q05j,true,false⟩
def zjw (C:Hd) (gl:GL) (v0 v1:AV) (h:Heap) (x:Esc) (K:KT):Prop:=
 C z7u [v0,v1] h fun t1 h2 y3=>
 pK (oBin .geq t1 (AI 0)) fun t4=>
 K .ret ⟨[(4,t4)],h2,(y3++x)⟩
theorem e_q05j {C gl v0 v1 h x K}:NW C gl zdK.body ⟨enter [v0,v1],h,x⟩ K=zjw C gl v0 v1 h x K:=by kernel_rfl
def P_q07t:ACode:=(.seq (rg [uO 4 (.box 0),
uO 8 (.alloc [.p (.int .i64 0),.p (.int .i64 0),.p (.str []),.p (.str []),.p (.int .i64 0)]),
mV 9 (cI 0)] [1,2,3,4,8])
(.seq (.seq (rg [lD 12 (some 2) 4,
mV 13 1,
mV 14 3,
cL 15 z4T [12,13,14],
mV 10 15] [1,2,3,4,8,10])
(.seq (rg [mV 16 10,
bN 17 .neq 16 (cI 0)] [1,2,3,4,8,10,17])
(.cond 17 (.seq (rg [uO 18 (.build [.p (.int .i64 0),.p (.int .i64 0),.p (.str []),.p (.str []),.p (.int .i64 0)] []),
mV 19 10,
wO (.store (some 5) 8 18),
mV 9 19] [8,9])
.ret)
.skip)))
(.seq (.seq (rg [mV 20 2,
cL 21 z1y [20],
uO 22 (.un .not 21)] [1,2,3,4,8,22])
(.cond 22 (.seq (rg [uO 23 (.build [.p (.int .i64 0),.p (.int .i64 0),.p (.str []),.p (.str []),.p (.int .i64 0)] []),
wO (.store (some 5) 8 23),
mV 9 (cI 5)] [8,9])
.ret)
.skip))
(.seq (dr [dF (lD 24 (some 2) 4) [4],
dF (mV 25 1) [1],
dF (mV 26 3) [3],
dA (cL 27 z4V [25,26]) [25,26] true [] [0],
dT (cL 28 z3w [24,27]) [24,27],
dF (uO 29 (.nilchk 28)) [28],
dF (fA 30 2 none 29) [29],
dF (lD 31 none 30) [30],
dF (mV 32 2) [2],
dF (uO 33 (.look (none,[2]) false (.nilp) 31 32)) [31,32],
dF (mV 11 33) [33]] [8,11])
(.seq (.seq (rg [mV 34 11,
uO 35 (.isnil 0 false 34)] [8,11,35])
(.cond 35 (.seq (rg [uO 36 (.build [.p (.int .i64 0),.p (.int .i64 0),.p (.str []),.p (.str []),.p (.int .i64 0)] []),
wO (.store (some 5) 8 36),
mV 9 (cI 8)] [8,9])
.ret)
.skip))
(.seq (rg [mV 37 11,
uO 38 (.nilchk 37),
lD 39 (some 5) 38,
wO (.store (some 5) 8 39),
mV 9 (cI 0)] [8,9])
.ret))))))
def z86:AFun:=⟨4,[.cell 8 (some 5),.t 9],P_q07t,false,false⟩
def z8L (C:Hd) (gl:GL) (v0 v1 v2 v3:AV) (h:Heap) (x:Esc) (K:KT):Prop:=
 wK (oBox v0 h) fun t1 h2 y3=>
 alK [.p (.int .i64 0),.p (.int .i64 0),.p (.str []),.p (.str []),.p (.int .i64 0)] h2 fun t4 h5 y6=>
 pK (z0e (some 2) t1 h5) fun t7=>
 C z4T [t7,v1,v3] h5 fun t8 h9 y10=>
 pK (oBin .neq t8 (AI 0)) fun t11=>
 z0k t11 (pK (z07 [.p (.int .i64 0),.p (.int .i64 0),.p (.str []),.p (.str []),.p (.int .i64 0)] []) fun t12=>
 wK (z0m (some 5) t4 t12 h9) fun t13 h14 y15=>
 K .ret ⟨[(8,t4),(9,t8)],h14,(y15++(y10++(y6++(y3++x))))⟩)
 (C z1y [v2] h9 fun t16 h17 y18=>
 pK (oUn .not t16) fun t19=>
 z0k t19 (pK (z07 [.p (.int .i64 0),.p (.int .i64 0),.p (.str []),.p (.str []),.p (.int .i64 0)] []) fun t20=>
 wK (z0m (some 5) t4 t20 h17) fun t21 h22 y23=>
 K .ret ⟨[(8,t4),(9,(AI 5))],h22,(y23++(y18++(y10++(y6++(y3++x)))))⟩)
 (pK (z0e (some 2) t1 h17) fun t24=>
 z19 C z4V [v1,v3] h17 fun t25 h26 y27=>
 (pK (z0e (some 2) t1 h26) fun v=>(fun u (g1:Heap) (y1:Esc)=>u=t24∧g1=h26∧y1=[]) v h26 [])∧(z19 C z3w [t24,t25] h26 fun t28 h29 y30=>
 pK (oNil t28) fun t31=>
 pK (z0d 2 none t31) fun t32=>
 pK (z0e none t32 h29) fun t33=>
 pK (z1o (none,[2]) false (.nilp) t33 v2 h29) fun t34=>
 pK (z7I 0 false t34) fun t35=>
 z0k t35 (pK (z07 [.p (.int .i64 0),.p (.int .i64 0),.p (.str []),.p (.str []),.p (.int .i64 0)] []) fun t36=>
 wK (z0m (some 5) t4 t36 h29) fun t37 h38 y39=>
 K .ret ⟨[(8,t4),(9,(AI 8))],h38,(y39++(y30++(y27++(y18++(y10++(y6++(y3++x)))))))⟩)
 (pK (oNil t34) fun t40=>
 pK (z0e (some 5) t40 h29) fun t41=>
 wK (z0m (some 5) t4 t41 h29) fun t42 h43 y44=>
 K .ret ⟨[(8,t4),(9,(AI 0))],h43,(y44++(y30++(y27++(y18++(y10++(y6++(y3++x)))))))⟩))))
theorem e_q07t {C gl v0 v1 v2 v3 h x K}:NW C gl z86.body ⟨enter [v0,v1,v2,v3],h,x⟩ K=z8L C gl v0 v1 v2 v3 h x K:=by kernel_rfl
def z36:ACode:=.pr [0,5,6,7,9,11,12] (.seq (rg [fA 55 3 none 9,
lD 56 none 55,
bN 57 .eql 56 (cI 2)] [0,5,6,7,9,11,12,57])
(.cond 57 (rg [mV 58 0,
uO 59 (.bsl false none 4 (.str []) [(0,(cS [115,99,97,110])),(1,(cS [115,99,97,110])),(2,(cS [102,108,97,115,104])),(3,(cS [98,117,114,110]))]),
cL 60 z1h [58,59],
fA 61 5 none 9,
wO (.store none 61 60)] [0,5,6,7,9,11,12])
.skip))
def zbb (C:Hd) (gl:GL) (v0 v5 v6 v7 v9 v11 v12:AV) (h:Heap) (x:Esc) (K:KT):Prop:=
 pK (z0d 3 none v9) fun t1=>
 pK (z0e none t1 h) fun t2=>
 pK (oBin .eql t2 (AI 2)) fun t3=>
 z0k t3 (wK (oBsl false none 4 (.str []) [(0,(.p (.str [115,99,97,110]))),(1,(.p (.str [115,99,97,110]))),(2,(.p (.str [102,108,97,115,104]))),(3,(.p (.str [98,117,114,110])))] h) fun t4 h5 y6=>
 C z1h [v0,t4] h5 fun t7 h8 y9=>
 pK (z0d 5 none v9) fun t10=>
 wK (z0m none t10 t7 h8) fun t11 h12 y13=>
 K .normal ⟨[(0,v0),(5,v5),(6,v6),(7,v7),(9,v9),(11,v11),(12,v12)],h12,(y13++(y9++(y6++x)))⟩)
 (K .normal ⟨[(0,v0),(5,v5),(6,v6),(7,v7),(9,v9),(11,v11),(12,v12),(57,t3)],h,x⟩)
theorem z7k {C gl e h x K}:NW C gl z36 ⟨e,h,x⟩ K=zbb C gl (aget e 0) (aget e 5) (aget e 6) (aget e 7) (aget e 9) (aget e 11) (aget e 12) h x K:=by kernel_rfl
def z5i:ACode:=.pr [0,5,6,7,9,11,12] (rg [mV 111 5,
lD 112 (some 8) 9,
uO 113 (.bsl false (some 8) 1 (.agg [.str [],.int .i64 0,.int .i64 0,.int .i64 0,.str [],.str [],.str [],.int .i64 0]) [(0,112)]),
uO 114 (.app (some 8) 111 113),
mV 5 114] [0,5,6,7,11,12])
def zbc (C:Hd) (gl:GL) (v0 v5 v6 v7 v9 v11 v12:AV) (h:Heap) (x:Esc) (K:KT):Prop:=
 pK (z0e (some 8) v9 h) fun t1=>
 wK (oBsl false (some 8) 1 (.agg [.str [],.int .i64 0,.int .i64 0,.int .i64 0,.str [],.str [],.str [],.int .i64 0]) [(0,t1)] h) fun t2 h3 y4=>
 wK (oApp (some 8) v5 t2 h3) fun t5 h6 y7=>
 K .normal ⟨[(0,v0),(5,t5),(6,v6),(7,v7),(11,v11),(12,v12)],h6,(y7++(y4++x))⟩
theorem zjT {C gl e h x K}:NW C gl z5i ⟨e,h,x⟩ K=zbc C gl (aget e 0) (aget e 5) (aget e 6) (aget e 7) (aget e 9) (aget e 11) (aget e 12) h x K:=by kernel_rfl
def zax (q2:ACode):ACode:=.pr [0,5,6,7,9,11,12] (.seq (.seq (rg [mV 71 0,
cL 72 z3u [71,(cI 100)]] [0,5,6,7,9,11,12,72])
(.cond 72 (.seq (rg [mV 73 0,
cL 74 z1I [73,(cI 3)]] [0,5,6,7,9,11,12,74])
(.block 3 (.seq (rg [bN 83 .eql 74 (cI 0),
mV 82 83] [0,5,6,7,9,11,12,74,82])
(.cond 82 (rg [mV 84 0,
fA 85 0 none 9,
lD 86 none 85,
uO 87 (.bsl false none 2 (.str []) [(0,(cS [])),(1,86)]),
cL 88 z1h [84,87],
mV 89 0,
cL 90 z26 [89,(cI 1),(cI 9)],
mV 91 0,
cL 92 z26 [91,(cI 0),(cI 100)],
fA 93 0 none 9,
wO (.store none 93 88),
fA 94 1 none 9,
wO (.store none 94 90),
fA 95 2 none 9,
wO (.store none 95 92)] [0,5,6,7,9,11,12])
(.seq (rg [bN 97 .eql 74 (cI 1),
mV 96 97] [0,5,6,7,9,11,12,96])
(.cond 96 (dr [dF (mV 98 0) [0],
dT (cL 99 z26 [98,(cI 1),(cI 7)]) [98],
dF (mV 100 0) [0],
dF (fA 101 4 none 9) [9],
dA (lD 102 none 101) [101] false [1] [],
dA (uO 103 (.bsl false none 3 (.str []) [(0,(cS [])),(1,(cS [65])),(2,102)])) [102] false [1] [],
dT (cL 104 z1h [100,103]) [100,103],
dF (mV 105 0) [0],
dA (uO 106 (.bsl false none 2 (.str []) [(0,(cS [])),(1,(cS [115,99,97,110]))])) [] false [1,6] [],
dT (cL 107 z1h [105,106]) [105,106],
dF (fA 108 3 none 9) [9],
dT (wO (.store none 108 99)) [108,99],
dF (fA 109 4 none 9) [9],
dT (wO (.store none 109 104)) [109,104],
dF (fA 110 5 none 9) [9],
dT (wO (.store none 110 107)) [110,107]] [0,5,6,7,9,11,12])
(rg [mV 75 0,
uO 76 (.bsl false none 2 (.str []) [(0,(cS [])),(1,(cS [115,97]))]),
cL 77 z1h [75,76],
mV 78 0,
cL 79 z26 [78,(cI 0),(cI 5)],
fA 80 6 none 9,
wO (.store none 80 77),
fA 81 7 none 9,
wO (.store none 81 79)] [0,5,6,7,9,11,12])))))))
.skip))
q2)
def z37:ACode:=zax z5i
def z1t (C:Hd) (gl:GL) (q2:ACode) (v0 v5 v6 v7 v9 v11 v12:AV) (h:Heap) (x:Esc) (K:KT):Prop:=
 C z3u [v0,(AI 100)] h fun t1 h2 y3=>
 z0k t1 (C z1I [v0,(AI 3)] h2 fun t4 h5 y6=>
 pK (oBin .eql t4 (AI 0)) fun t7=>
 z0k t7 (pK (z0d 0 none v9) fun t8=>
 pK (z0e none t8 h5) fun t9=>
 wK (oBsl false none 2 (.str []) [(0,(.p (.str []))),(1,t9)] h5) fun t10 h11 y12=>
 C z1h [v0,t10] h11 fun t13 h14 y15=>
 C z26 [v0,(AI 1),(AI 9)] h14 fun t16 h17 y18=>
 C z26 [v0,(AI 0),(AI 100)] h17 fun t19 h20 y21=>
 pK (z0d 0 none v9) fun t22=>
 wK (z0m none t22 t13 h20) fun t23 h24 y25=>
 pK (z0d 1 none v9) fun t26=>
 wK (z0m none t26 t16 h24) fun t27 h28 y29=>
 pK (z0d 2 none v9) fun t30=>
 wK (z0m none t30 t19 h28) fun t31 h32 y33=>
 NW C gl q2 ⟨[(0,v0),(5,v5),(6,v6),(7,v7),(9,v9),(11,v11),(12,v12)],h32,(y33++(y29++(y25++(y21++(y18++(y15++(y12++(y6++(y3++x)))))))))⟩ K)
 (pK (oBin .eql t4 (AI 1)) fun t34=>
 z0k t34 (z19 C z26 [v0,(AI 1),(AI 7)] h5 fun t35 h36 y37=>
 pK (z0d 4 none v9) fun t38=>
 pK (z0e none t38 h36) fun t39=>
 (pK (z0e none t38 h5) fun v=>(fun u (g1:Heap) (y1:Esc)=>u=t39∧g1=h5∧y1=[]) v h5 [])∧(wK (oBsl false none 3 (.str []) [(0,(.p (.str []))),(1,(.p (.str [65]))),(2,t39)] h36) fun t40 h41 y42=>
 (h41=h36∧y42=[])∧((wK (oBsl false none 3 (.str []) [(0,(.p (.str []))),(1,(.p (.str [65]))),(2,t39)] h5) (fun u (g1:Heap) (y1:Esc)=>u=t40∧g1=h5∧y1=[]))∧(z19 C z1h [v0,t40] h41 fun t43 h44 y45=>
 wK (oBsl false none 2 (.str []) [(0,(.p (.str []))),(1,(.p (.str [115,99,97,110])))] h44) fun t46 h47 y48=>
 (h47=h44∧y48=[])∧((wK (oBsl false none 2 (.str []) [(0,(.p (.str []))),(1,(.p (.str [115,99,97,110])))] h5) (fun u (g1:Heap) (y1:Esc)=>u=t46∧g1=h5∧y1=[]))∧((wK (oBsl false none 2 (.str []) [(0,(.p (.str []))),(1,(.p (.str [115,99,97,110])))] h41) (fun u (g1:Heap) (y1:Esc)=>u=t46∧g1=h41∧y1=[]))∧(z19 C z1h [v0,t46] h47 fun t49 h50 y51=>
 pK (z0d 3 none v9) fun t52=>
 wK (z0m none t52 t35 h50) fun t53 h54 y55=>
 pK (z0d 4 none v9) fun t56=>
 wK (z0m none t56 t43 h54) fun t57 h58 y59=>
 pK (z0d 5 none v9) fun t60=>
 wK (z0m none t60 t49 h58) fun t61 h62 y63=>
 NW C gl q2 ⟨[(0,v0),(5,v5),(6,v6),(7,v7),(9,v9),(11,v11),(12,v12)],h62,(y63++(y59++(y55++(y51++(y48++(y45++(y42++(y37++(y6++(y3++x))))))))))⟩ K)))))))
 (wK (oBsl false none 2 (.str []) [(0,(.p (.str []))),(1,(.p (.str [115,97])))] h5) fun t64 h65 y66=>
 C z1h [v0,t64] h65 fun t67 h68 y69=>
 C z26 [v0,(AI 0),(AI 5)] h68 fun t70 h71 y72=>
 pK (z0d 6 none v9) fun t73=>
 wK (z0m none t73 t67 h71) fun t74 h75 y76=>
 pK (z0d 7 none v9) fun t77=>
 wK (z0m none t77 t70 h75) fun t78 h79 y80=>
 NW C gl q2 ⟨[(0,v0),(5,v5),(6,v6),(7,v7),(9,v9),(11,v11),(12,v12)],h79,(y80++(y76++(y72++(y69++(y66++(y6++(y3++x)))))))⟩ K)))
 (NW C gl q2 ⟨[(0,v0),(5,v5),(6,v6),(7,v7),(9,v9),(11,v11),(12,v12),(72,t1)],h2,(y3++x)⟩ K)
theorem zhz {C gl q2 e h x K}:NW C gl (zax q2) ⟨e,h,x⟩ K=z1t C gl q2 (aget e 0) (aget e 5) (aget e 6) (aget e 7) (aget e 9) (aget e 11) (aget e 12) h x K:=by kernel_rfl
theorem z25 {C gl e h x K}:NW C gl z37 ⟨e,h,x⟩ K=z1t C gl z5i (aget e 0) (aget e 5) (aget e 6) (aget e 7) (aget e 9) (aget e 11) (aget e 12) h x K:=zhz
def zay (q1 q3:ACode):ACode:=.pr [0,5,6,7,8,9,11,12] (.seq (rg [mV 31 7,
fA 32 0 none 9,
lD 33 none 32,
uO 34 (.look (none,[2]) false (AI 0) 31 33),
bN 35 .add 34 (cI 1),
wO (.mupd (none,[2]) 31 33 35)] [0,5,6,7,8,9,11,12])
(.seq (rg [mV 36 7,
fA 37 0 none 9,
lD 38 none 37,
uO 39 (.look (none,[2]) false (AI 0) 36 38),
fA 40 1 none 9,
wO (.store none 40 39)] [0,5,6,7,8,9,11,12])
(.seq (.seq (rg [fA 41 3 none 9,
lD 42 none 41] [0,5,6,7,8,9,11,12,42])
(.block 2 (.seq (rg [bN 63 .eql 42 (cI 7),
mV 62 63] [0,5,6,7,8,9,11,12,62])
(.cond 62 (rg [mV 64 0,
uO 65 (.bsl false none 2 (.str []) [(0,(cS [115,97])),(1,(cS [115,98]))]),
cL 66 z1h [64,65],
mV 67 0,
cL 68 z1J [67,(cI 1),(cI 8)],
fA 69 6 none 9,
wO (.store none 69 66),
fA 70 7 none 9,
wO (.store none 70 68)] [0,5,6,7,9,11,12])
(.seq (rg [uO 43 (.bsl false none 3 (.str []) [(0,(cS [98,49])),(1,(cS [98,50])),(2,(cS [98,51]))]),
mV 44 8,
bN 45 .rem 44 (cI 3),
iA 46 none 43 45,
lD 47 none 46,
fA 48 4 none 9,
wO (.store none 48 47)] [0,5,6,7,8,9,11,12])
(.seq (.seq (rg [mV 49 8,
bN 50 .geq 49 (cI 3)] [0,5,6,7,9,11,12,50])
(.cond 50 (rg [mV 51 0,
uO 52 (.bsl false none 5 (.str []) [(0,(cS [98,49])),(1,(cS [98,49])),(2,(cS [98,50])),(3,(cS [98,51])),(4,(cS [98,52]))]),
cL 53 z1h [51,52],
fA 54 4 none 9,
wO (.store none 54 53)] [0,5,6,7,9,11,12])
.skip))
q1))))))
q3)))
def z5j:ACode:=zay z36 z37
def z2a (C:Hd) (gl:GL) (q1 q3:ACode) (v0 v5 v6 v7 v8 v9 v11 v12:AV) (h:Heap) (x:Esc) (K:KT):Prop:=
 pK (z0d 0 none v9) fun t1=>
 pK (z0e none t1 h) fun t2=>
 pK (z1o (none,[2]) false (AI 0) v7 t2 h) fun t3=>
 pK (oBin .add t3 (AI 1)) fun t4=>
 wK (z15 (none,[2]) v7 t2 t4 h) fun t5 h6 y7=>
 pK (z0d 0 none v9) fun t8=>
 pK (z0e none t8 h6) fun t9=>
 pK (z1o (none,[2]) false (AI 0) v7 t9 h6) fun t10=>
 pK (z0d 1 none v9) fun t11=>
 wK (z0m none t11 t10 h6) fun t12 h13 y14=>
 pK (z0d 3 none v9) fun t15=>
 pK (z0e none t15 h13) fun t16=>
 pK (oBin .eql t16 (AI 7)) fun t17=>
 z0k t17 (wK (oBsl false none 2 (.str []) [(0,(.p (.str [115,97]))),(1,(.p (.str [115,98])))] h13) fun t18 h19 y20=>
 C z1h [v0,t18] h19 fun t21 h22 y23=>
 C z1J [v0,(AI 1),(AI 8)] h22 fun t24 h25 y26=>
 pK (z0d 6 none v9) fun t27=>
 wK (z0m none t27 t21 h25) fun t28 h29 y30=>
 pK (z0d 7 none v9) fun t31=>
 wK (z0m none t31 t24 h29) fun t32 h33 y34=>
 NW C gl q3 ⟨[(0,v0),(5,v5),(6,v6),(7,v7),(9,v9),(11,v11),(12,v12)],h33,(y34++(y30++(y26++(y23++(y20++(y14++(y7++x)))))))⟩ K)
 (wK (oBsl false none 3 (.str []) [(0,(.p (.str [98,49]))),(1,(.p (.str [98,50]))),(2,(.p (.str [98,51])))] h13) fun t35 h36 y37=>
 pK (oBin .rem v8 (AI 3)) fun t38=>
 pK (z0y none t35 t38 h36) fun t39=>
 pK (z0e none t39 h36) fun t40=>
 pK (z0d 4 none v9) fun t41=>
 wK (z0m none t41 t40 h36) fun t42 h43 y44=>
 pK (oBin .geq v8 (AI 3)) fun t45=>
 z0k t45 (wK (oBsl false none 5 (.str []) [(0,(.p (.str [98,49]))),(1,(.p (.str [98,49]))),(2,(.p (.str [98,50]))),(3,(.p (.str [98,51]))),(4,(.p (.str [98,52])))] h43) fun t46 h47 y48=>
 C z1h [v0,t46] h47 fun t49 h50 y51=>
 pK (z0d 4 none v9) fun t52=>
 wK (z0m none t52 t49 h50) fun t53 h54 y55=>
 NW C gl q1 ⟨[(0,v0),(5,v5),(6,v6),(7,v7),(9,v9),(11,v11),(12,v12)],h54,(y55++(y51++(y48++(y44++(y37++(y14++(y7++x)))))))⟩ (z0w 2 (seqN C gl q3 K)))
 (NW C gl q1 ⟨[(0,v0),(5,v5),(6,v6),(7,v7),(9,v9),(11,v11),(12,v12),(50,t45)],h43,(y44++(y37++(y14++(y7++x))))⟩ (z0w 2 (seqN C gl q3 K))))
theorem zh0 {C gl q1 q3 e h x K}:NW C gl (zay q1 q3) ⟨e,h,x⟩ K=z2a C gl q1 q3 (aget e 0) (aget e 5) (aget e 6) (aget e 7) (aget e 8) (aget e 9) (aget e 11) (aget e 12) h x K:=by kernel_rfl
theorem z7l {C gl e h x K}:NW C gl z5j ⟨e,h,x⟩ K=z2a C gl z36 z37 (aget e 0) (aget e 5) (aget e 6) (aget e 7) (aget e 8) (aget e 9) (aget e 11) (aget e 12) h x K:=zh0
def z5k:ACode:=.pr [0,5,6,7,11,12] (rg [bN 115 .add 12 (cI 1),
mV 12 115] [0,5,6,7,11,12])
def zbd (C:Hd) (gl:GL) (v0 v5 v6 v7 v11 v12:AV) (h:Heap) (x:Esc) (K:KT):Prop:=
 pK (oBin .add v12 (AI 1)) fun t1=>
 K .normal ⟨[(0,v0),(5,v5),(6,v6),(7,v7),(11,v11),(12,t1)],h,x⟩
theorem zjU {C gl e h x K}:NW C gl z5k ⟨e,h,x⟩ K=zbd C gl (aget e 0) (aget e 5) (aget e 6) (aget e 7) (aget e 11) (aget e 12) h x K:=by kernel_rfl
def zaz (q4 q5:ACode):ACode:=.pr [0,5,6,7,11,12] (.seq (rg [bN 13 .lss 12 11] [0,5,6,7,11,12,13])
(.seq (.cond 13 .skip
(.exit 0))
(.seq (.block 1 (.seq (rg [mV 14 12,
mV 8 14] [0,5,6,7,8,11,12])
(.seq (rg [mV 15 6,
mV 16 0,
uO 17 (.bsl false none 5 (.int .i64 0) [(0,(cI 0)),(1,(cI 1)),(2,(cI 1)),(3,(cI 3)),(4,(cI 10))]),
cL 18 z27 [16,17],
bN 19 .add 15 18,
mV 6 19] [0,5,6,7,8,11,12])
(.seq (rg [mV 20 0,
uO 21 (.bsl false none 3 (.str []) [(0,(cS [115,97])),(1,(cS [115,97])),(2,(cS [115,98]))]),
cL 22 z1h [20,21],
mV 23 6,
mV 24 0,
uO 25 (.bsl false none 12 (.int .i64 0) [(0,(cI 2)),(1,(cI 2)),(2,(cI 2)),(3,(cI 3)),(4,(cI 3)),(5,(cI 4)),(6,(cI 4)),(7,(cI 5)),(8,(cI 5)),(9,(cI 6)),(10,(cI 7)),(11,(cI 1))]),
cL 26 z27 [24,25],
uO 27 (.build [.p (.str []),.p (.int .i64 0),.p (.int .i64 0),.p (.int .i64 0),.p (.str []),.p (.str []),.p (.str []),.p (.int .i64 0)] [(0,1,22),(2,1,23),(3,1,26)]),
uO 9 (.alloc [.p (.str []),.p (.int .i64 0),.p (.int .i64 0),.p (.int .i64 0),.p (.str []),.p (.str []),.p (.str []),.p (.int .i64 0)]),
wO (.store (some 8) 9 27)] [0,5,6,7,8,9,11,12])
(.seq (.seq (rg [mV 28 8,
bN 29 .lss 28 (cI 3)] [0,5,6,7,8,9,11,12,29])
(.cond 29 (rg [fA 30 3 none 9,
wO (.store none 30 (cI 1))] [0,5,6,7,8,9,11,12])
.skip))
q4)))))
q5)))
def z2D:ACode:=zaz z5j z5k
def z6X (C:Hd) (gl:GL) (q4 q5:ACode) (v0 v5 v6 v7 v11 v12:AV) (h:Heap) (x:Esc) (K:KT):Prop:=
 pK (oBin .lss v12 v11) fun t1=>
 z0k t1 (wK (oBsl false none 5 (.int .i64 0) [(0,(AI 0)),(1,(AI 1)),(2,(AI 1)),(3,(AI 3)),(4,(AI 10))] h) fun t2 h3 y4=>
 C z27 [v0,t2] h3 fun t5 h6 y7=>
 pK (oBin .add v6 t5) fun t8=>
 wK (oBsl false none 3 (.str []) [(0,(.p (.str [115,97]))),(1,(.p (.str [115,97]))),(2,(.p (.str [115,98])))] h6) fun t9 h10 y11=>
 C z1h [v0,t9] h10 fun t12 h13 y14=>
 wK (oBsl false none 12 (.int .i64 0) [(0,(AI 2)),(1,(AI 2)),(2,(AI 2)),(3,(AI 3)),(4,(AI 3)),(5,(AI 4)),(6,(AI 4)),(7,(AI 5)),(8,(AI 5)),(9,(AI 6)),(10,(AI 7)),(11,(AI 1))] h13) fun t15 h16 y17=>
 C z27 [v0,t15] h16 fun t18 h19 y20=>
 pK (z07 [.p (.str []),.p (.int .i64 0),.p (.int .i64 0),.p (.int .i64 0),.p (.str []),.p (.str []),.p (.str []),.p (.int .i64 0)] [(0,1,t12),(2,1,t8),(3,1,t18)]) fun t21=>
 alK [.p (.str []),.p (.int .i64 0),.p (.int .i64 0),.p (.int .i64 0),.p (.str []),.p (.str []),.p (.str []),.p (.int .i64 0)] h19 fun t22 h23 y24=>
 wK (z0m (some 8) t22 t21 h23) fun t25 h26 y27=>
 pK (oBin .lss v12 (AI 3)) fun t28=>
 z0k t28 (pK (z0d 3 none t22) fun t29=>
 wK (z0m none t29 (AI 1) h26) fun t30 h31 y32=>
 NW C gl q4 ⟨[(0,v0),(5,v5),(6,t8),(7,v7),(8,v12),(9,t22),(11,v11),(12,v12)],h31,(y32++(y27++(y24++(y20++(y17++(y14++(y11++(y7++(y4++x)))))))))⟩ (z0w 1 (seqN C gl q5 K)))
 (NW C gl q4 ⟨[(0,v0),(5,v5),(6,t8),(7,v7),(8,v12),(9,t22),(11,v11),(12,v12),(29,t28)],h26,(y27++(y24++(y20++(y17++(y14++(y11++(y7++(y4++x))))))))⟩ (z0w 1 (seqN C gl q5 K))))
 (K (.exit 0) ⟨[(0,v0),(5,v5),(6,v6),(7,v7),(11,v11),(12,v12),(13,t1)],h,x⟩)
theorem zh1 {C gl q4 q5 e h x K}:NW C gl (zaz q4 q5) ⟨e,h,x⟩ K=z6X C gl q4 q5 (aget e 0) (aget e 5) (aget e 6) (aget e 7) (aget e 11) (aget e 12) h x K:=by kernel_rfl
theorem zjV {C gl e h x K}:NW C gl z2D ⟨e,h,x⟩ K=z6X C gl z5j z5k (aget e 0) (aget e 5) (aget e 6) (aget e 7) (aget e 11) (aget e 12) h x K:=zh1
theorem zlD {C gl e h x K}:NW C gl (.loop (.scope z2D)) ⟨e,h,x⟩ K=z1s C gl (.scope z2D) K [(0,aget e 0),(5,aget e 5),(6,aget e 6),(7,aget e 7),(11,aget e 11),(12,aget e 12)] h x:=z1S
def z38:ACode:=.pr [5] (.seq (rg [mV 116 5,
cL 117 z8Z [116,(.f z4i)]] [5])
(.seq (rg [mV 118 5,
mV 4 118] [4])
.ret))
def zbe (C:Hd) (gl:GL) (v5:AV) (h:Heap) (x:Esc) (K:KT):Prop:=
 C z8Z [v5,(.fn z4i [])] h fun t1 h2 y3=>
 K .ret ⟨[(4,v5)],h2,(y3++x)⟩
theorem zjW {C gl e h x K}:NW C gl z38 ⟨e,h,x⟩ K=zbe C gl (aget e 5) h x K:=by kernel_rfl
def zro (q6 q7:ACode):ACode:=(.seq (rg [mV 4 (.c (.p (.sl (some 8) [])))] [0,1])
(.seq (rg [uO 5 (.new0 (some 8))] [0,1,5])
(.seq (rg [mV 6 (cI 0)] [0,1,5,6])
(.seq (rg [uO 10 (.mkmap),
mV 7 10] [0,1,5,6,7])
(.seq (.seq (rg [mV 11 1,
mV 12 (cI 0)] [0,5,6,7,11,12])
(.block 0 (.loop (.scope q6))))
q7)))))
def zig:AFun:=⟨2,[.t 4],zro z2D z38,false,false⟩
def zex (C:Hd) (gl:GL) (q6 q7:ACode) (v0 v1:AV) (h:Heap) (x:Esc) (K:KT):Prop:=
 nwK (some 8) h fun t1 h2 y3=>
 mmK h2 fun t4 h5 y6=>
 NW C gl (.loop (.scope q6)) ⟨[(0,v0),(5,t1),(6,(AI 0)),(7,t4),(11,v1),(12,(AI 0))],h5,(y6++(y3++x))⟩ (z0w 0 (seqN C gl q7 K))
theorem E_q03c {C gl q6 q7 v0 v1 h x K}:NW C gl (zro q6 q7) ⟨enter [v0,v1],h,x⟩ K=zex C gl q6 q7 v0 v1 h x K:=by kernel_rfl
theorem e_q03c {C gl v0 v1 h x K}:NW C gl zig.body ⟨enter [v0,v1],h,x⟩ K=zex C gl z2D z38 v0 v1 h x K:=E_q03c
def z2F:ACode:=.pr [0,11,12,13] (.seq (rg [bN 14 .lss 13 12] [0,11,12,13,14])
(.seq (.cond 14 .skip
(.exit 0))
(.seq (.block 1 (.seq (rg [mV 15 13,
iA 16 (some 8) 11 13,
lD 17 (some 8) 16,
uO 4 (.alloc [.p (.str []),.p (.int .i64 0),.p (.int .i64 0),.p (.int .i64 0),.p (.str []),.p (.str []),.p (.str []),.p (.int .i64 0)]),
mV 3 15,
wO (.store (some 8) 4 17)] [0,3,4,11,12,13])
(.seq (.seq (rg [lD 18 (some 8) 4,
cL 19 z8T [18],
mV 5 19] [0,3,4,5,11,12,13])
(.seq (rg [mV 20 5,
bN 21 .neq 20 (cI 0)] [0,3,4,5,11,12,13,21])
(.cond 21 (.seq (rg [mV 22 5,
mV 2 22] [2])
.ret)
.skip)))
(.seq (dr [dF (mV 23 3) [3],
dF (bN 24 .gtr 23 (cI 0)) [23],
dF (mV 25 24) [24],
dF (gD 26 25 true (.mv 0)) [0,25],
dF (gD 27 25 true (.mv 3)) [3,25],
dF (gD 28 25 true (.bin .sub 27 (cI 1))) [27,25],
dF (gD 29 25 true (.iaddr (some 8) 26 28)) [26,28,25],
dF (gD 30 25 true (.load (some 8) 29)) [29,25],
dF (gD 31 25 true (.load (some 8) 4)) [4,25],
dT (gD 32 25 true (.call z4i [30,31])) [30,31,25],
dF (gD 33 25 true (.bin .geq 32 (cI 0))) [32,25],
dF (uO 34 (.pick 25 33 cF)) [25,33]] [0,11,12,13,34])
(.cond 34 (.seq (rg [mV 2 (cI 7)] [2])
.ret)
.skip)))))
(rg [bN 35 .add 13 (cI 1),
mV 13 35] [0,11,12,13]))))
def zbi (C:Hd) (gl:GL) (v0 v11 v12 v13:AV) (h:Heap) (x:Esc) (K:KT):Prop:=
 pK (oBin .lss v13 v12) fun t1=>
 z0k t1 (pK (z0y (some 8) v11 v13 h) fun t2=>
 pK (z0e (some 8) t2 h) fun t3=>
 alK [.p (.str []),.p (.int .i64 0),.p (.int .i64 0),.p (.int .i64 0),.p (.str []),.p (.str []),.p (.str []),.p (.int .i64 0)] h fun t4 h5 y6=>
 wK (z0m (some 8) t4 t3 h5) fun t7 h8 y9=>
 pK (z0e (some 8) t4 h8) fun t10=>
 C z8T [t10] h8 fun t11 h12 y13=>
 pK (oBin .neq t11 (AI 0)) fun t14=>
 z0k t14 (K .ret ⟨[(2,t11)],h12,(y13++(y9++(y6++x)))⟩)
 (pK (oBin .gtr v13 (AI 0)) fun t15=>
 gM t15 true v0 h12 fun t16 h17 y18=>
 gM t15 true v13 h17 fun t19 h20 y21=>
 gP t15 true (oBin .sub t19 (AI 1)) h20 fun t22 h23 y24=>
 gP t15 true (z0y (some 8) t16 t22 h23) h23 fun t25 h26 y27=>
 gP t15 true (z0e (some 8) t25 h26) h26 fun t28 h29 y30=>
 gP t15 true (z0e (some 8) t4 h29) h29 fun t31 h32 y33=>
 gV t15 true h32 (z19 C z4i [t28,t31] h32) fun t34 h35 y36=>
 gP t15 true (oBin .geq t34 (AI 0)) h35 fun t37 h38 y39=>
 pK (z0O t15 t37 (AB false)) fun t40=>
 z0k t40 (K .ret ⟨[(2,(AI 7))],h38,(y39++(y36++(y33++(y30++(y27++(y24++(y21++(y18++(y13++(y9++(y6++x)))))))))))⟩)
 (pK (oBin .add v13 (AI 1)) fun t41=>
 K .normal ⟨[(0,v0),(11,v11),(12,v12),(13,t41)],h38,(y39++(y36++(y33++(y30++(y27++(y24++(y21++(y18++(y13++(y9++(y6++x)))))))))))⟩)))
 (K (.exit 0) ⟨[(0,v0),(11,v11),(12,v12),(13,v13),(14,t1)],h,x⟩)
theorem zjZ {C gl e h x K}:NW C gl z2F ⟨e,h,x⟩ K=zbi C gl (aget e 0) (aget e 11) (aget e 12) (aget e 13) h x K:=by kernel_rfl
theorem zlF {C gl e h x K}:NW C gl (.loop (.scope z2F)) ⟨e,h,x⟩ K=z1s C gl (.scope z2F) K [(0,aget e 0),(11,aget e 11),(12,aget e 12),(13,aget e 13)] h x:=z1S
def z39:ACode:=.pr [0,36,37,38] (.seq (rg [bN 39 .lss 38 37] [0,36,37,38,39])
(.seq (.cond 39 .skip
(.exit 2))
(.seq (.block 3 (.seq (rg [mV 40 38,
iA 41 (some 8) 36 38,
lD 42 (some 8) 41,
uO 7 (.alloc [.p (.str []),.p (.int .i64 0),.p (.int .i64 0),.p (.int .i64 0),.p (.str []),.p (.str []),.p (.str []),.p (.int .i64 0)]),
mV 6 40,
wO (.store (some 8) 7 42)] [0,6,7,36,37,38])
(.seq (rg [mV 43 0,
mV 44 6,
uO 45 (.slice (some 8) 43 none (some 44) none),
uO 46 (.mkfn z7t [7]),
cL 47 z8X [45,46]] [0,36,37,38,47])
(.cond 47 (.seq (rg [mV 2 (cI 6)] [2])
.ret)
.skip))))
(rg [bN 48 .add 38 (cI 1),
mV 38 48] [0,36,37,38]))))
def zbj (C:Hd) (gl:GL) (v0 v36 v37 v38:AV) (h:Heap) (x:Esc) (K:KT):Prop:=
 pK (oBin .lss v38 v37) fun t1=>
 z0k t1 (pK (z0y (some 8) v36 v38 h) fun t2=>
 pK (z0e (some 8) t2 h) fun t3=>
 alK [.p (.str []),.p (.int .i64 0),.p (.int .i64 0),.p (.int .i64 0),.p (.str []),.p (.str []),.p (.str []),.p (.int .i64 0)] h fun t4 h5 y6=>
 wK (z0m (some 8) t4 t3 h5) fun t7 h8 y9=>
 pK (z4k (some 8) v0 none (some v38) none h8) fun t10=>
 C z8X [t10,(.fn z7t [t4])] h8 fun t11 h12 y13=>
 z0k t11 (K .ret ⟨[(2,(AI 6))],h12,(y13++(y9++(y6++x)))⟩)
 (pK (oBin .add v38 (AI 1)) fun t14=>
 K .normal ⟨[(0,v0),(36,v36),(37,v37),(38,t14)],h12,(y13++(y9++(y6++x)))⟩))
 (K (.exit 2) ⟨[(0,v0),(36,v36),(37,v37),(38,v38),(39,t1)],h,x⟩)
theorem zka {C gl e h x K}:NW C gl z39 ⟨e,h,x⟩ K=zbj C gl (aget e 0) (aget e 36) (aget e 37) (aget e 38) h x K:=by kernel_rfl
theorem zlG {C gl e h x K}:NW C gl (.loop (.scope z39)) ⟨e,h,x⟩ K=z1s C gl (.scope z39) K [(0,aget e 0),(36,aget e 36),(37,aget e 37),(38,aget e 38)] h x:=z1S
def z7N:ACode:=.pr [] (.seq (rg [mV 2 (cI 0)] [2])
.ret)
def zbk (C:Hd) (gl:GL) (h:Heap) (x:Esc) (K:KT):Prop:=
 K .ret ⟨[(2,(AI 0))],h,x⟩
theorem zkb {C gl e h x K}:NW C gl z7N ⟨e,h,x⟩ K=zbk C gl h x K:=by kernel_rfl
def za0 (q2 q3:ACode):ACode:=.pr [0] (.seq (.seq (rg [mV 36 0,
lN 37 36,
mV 38 (cI 0)] [0,36,37,38])
(.block 2 (.loop (.scope q2))))
q3)
def z5m:ACode:=za0 z39 z7N
def z4G (C:Hd) (gl:GL) (q2 q3:ACode) (v0:AV) (h:Heap) (x:Esc) (K:KT):Prop:=
 pK (oLen v0) fun t1=>
 NW C gl (.loop (.scope q2)) ⟨[(0,v0),(36,v0),(37,t1),(38,(AI 0))],h,x⟩ (z0w 2 (seqN C gl q3 K))
theorem zh2 {C gl q2 q3 e h x K}:NW C gl (za0 q2 q3) ⟨e,h,x⟩ K=z4G C gl q2 q3 (aget e 0) h x K:=by kernel_rfl
theorem z7m {C gl e h x K}:NW C gl z5m ⟨e,h,x⟩ K=z4G C gl z39 z7N (aget e 0) h x K:=zh2
def zrq (q1 q4:ACode):ACode:=(.seq (rg [mV 2 (cI 0)] [0])
(.seq (.seq (rg [mV 8 0,
lN 9 8,
bN 10 .gtr 9 (cI 2000)] [0,10])
(.cond 10 (.seq (rg [mV 2 (cI 2)] [2])
.ret)
.skip))
(.seq (.seq (rg [mV 11 0,
lN 12 11,
mV 13 (cI 0)] [0,11,12,13])
(.block 0 (.loop (.scope q1))))
q4)))
def ziq:AFun:=⟨1,[.t 2],zrq z2F z5m,false,false⟩
def zbh (C:Hd) (gl:GL) (q1 q4:ACode) (v0:AV) (h:Heap) (x:Esc) (K:KT):Prop:=
 pK (oLen v0) fun t1=>
 pK (oBin .gtr t1 (AI 2000)) fun t2=>
 z0k t2 (K .ret ⟨[(2,(AI 2))],h,x⟩)
 (pK (oLen v0) fun t3=>
 NW C gl (.loop (.scope q1)) ⟨[(0,v0),(11,v0),(12,t3),(13,(AI 0))],h,x⟩ (z0w 0 (seqN C gl q4 K)))
theorem E_q03v {C gl q1 q4 v0 h x K}:NW C gl (zrq q1 q4) ⟨enter [v0],h,x⟩ K=zbh C gl q1 q4 v0 h x K:=by kernel_rfl
theorem e_q03v {C gl v0 h x K}:NW C gl ziq.body ⟨enter [v0],h,x⟩ K=zbh C gl z2F z5m v0 h x K:=E_q03v
def P_q03s:ACode:=(.seq (rg [mV 4 (cS [])] [0,1])
(.seq (rg [mV 5 1,
mV 6 0,
mV 7 1,
lN 8 7,
cL 9 z1I [6,8],
iA 10 none 5 9,
lD 11 none 10,
mV 4 11] [4])
.ret))
def zio:AFun:=⟨2,[.t 4],P_q03s,false,false⟩
def zjq (C:Hd) (gl:GL) (v0 v1:AV) (h:Heap) (x:Esc) (K:KT):Prop:=
 pK (oLen v1) fun t1=>
 C z1I [v0,t1] h fun t2 h3 y4=>
 pK (z0y none v1 t2 h3) fun t5=>
 pK (z0e none t5 h3) fun t6=>
 K .ret ⟨[(4,t6)],h3,(y4++x)⟩
theorem e_q03s {C gl v0 v1 h x K}:NW C gl zio.body ⟨enter [v0,v1],h,x⟩ K=zjq C gl v0 v1 h x K:=by kernel_rfl
def P_q03j:ACode:=(.seq (rg [mV 4 (cI 0)] [0,1])
(.seq (rg [mV 5 1,
mV 6 0,
mV 7 1,
lN 8 7,
cL 9 z1I [6,8],
iA 10 none 5 9,
lD 11 none 10,
mV 4 11] [4])
.ret))
def zik:AFun:=⟨2,[.t 4],P_q03j,false,false⟩
def zjn (C:Hd) (gl:GL) (v0 v1:AV) (h:Heap) (x:Esc) (K:KT):Prop:=
 pK (oLen v1) fun t1=>
 C z1I [v0,t1] h fun t2 h3 y4=>
 pK (z0y none v1 t2 h3) fun t5=>
 pK (z0e none t5 h3) fun t6=>
 K .ret ⟨[(4,t6)],h3,(y4++x)⟩
theorem e_q03j {C gl v0 v1 h x K}:NW C gl zik.body ⟨enter [v0,v1],h,x⟩ K=zjn C gl v0 v1 h x K:=by kernel_rfl
def P_q03f:ACode:=(.seq (rg [mV 4 cF] [0,1])
(.seq (rg [mV 5 0,
mV 6 1,
cL 7 z1I [5,6],
bN 8 .eql 7 (cI 0),
mV 4 8] [4])
.ret))
def zih:AFun:=⟨2,[.t 4],P_q03f,false,false⟩
def zjm (C:Hd) (gl:GL) (v0 v1:AV) (h:Heap) (x:Esc) (K:KT):Prop:=
 C z1I [v0,v1] h fun t1 h2 y3=>
 pK (oBin .eql t1 (AI 0)) fun t4=>
 K .ret ⟨[(4,t4)],h2,(y3++x)⟩
theorem e_q03f {C gl v0 v1 h x K}:NW C gl zih.body ⟨enter [v0,v1],h,x⟩ K=zjm C gl v0 v1 h x K:=by kernel_rfl
def P_q03i:ACode:=(.seq (rg [mV 6 (cI 0)] [0,1,2])
(.seq (.seq (rg [mV 7 0,
cL 8 z3u [7,(cI 12)]] [0,1,2,8])
(.cond 8 (.seq (rg [mV 9 0,
mV 10 1,
bN 11 .sub 10 (cI 1),
mV 12 2,
bN 13 .add 12 (cI 1),
mV 14 1,
mV 15 2,
uO 16 (.bsl false none 6 (.int .i64 0) [(0,11),(1,13),(2,14),(3,15),(4,(cI (-1099511627776))),(5,(cI 1099511627776))]),
cL 17 z27 [9,16],
mV 6 17] [6])
.ret)
.skip))
(.seq (rg [mV 18 0,
mV 19 1,
mV 20 2,
cL 21 z1J [18,19,20],
mV 6 21] [6])
.ret)))
def zij:AFun:=⟨3,[.t 6],P_q03i,false,false⟩
def z8I (C:Hd) (gl:GL) (v0 v1 v2:AV) (h:Heap) (x:Esc) (K:KT):Prop:=
 C z3u [v0,(AI 12)] h fun t1 h2 y3=>
 z0k t1 (pK (oBin .sub v1 (AI 1)) fun t4=>
 pK (oBin .add v2 (AI 1)) fun t5=>
 wK (oBsl false none 6 (.int .i64 0) [(0,t4),(1,t5),(2,v1),(3,v2),(4,(AI (-1099511627776))),(5,(AI 1099511627776))] h2) fun t6 h7 y8=>
 C z27 [v0,t6] h7 fun t9 h10 y11=>
 K .ret ⟨[(6,t9)],h10,(y11++(y8++(y3++x)))⟩)
 (C z1J [v0,v1,v2] h2 fun t12 h13 y14=>
 K .ret ⟨[(6,t12)],h13,(y14++(y3++x))⟩)
theorem e_q03i {C gl v0 v1 v2 h x K}:NW C gl zij.body ⟨enter [v0,v1,v2],h,x⟩ K=z8I C gl v0 v1 v2 h x K:=by kernel_rfl
def P_q03h:ACode:=(.seq (rg [mV 4 (cI 0)] [0,1])
(.seq (rg [mV 7 0,
uO 8 (.nilchk 7),
fA 9 1 none 8,
lD 10 none 9,
bN 11 .add 10 (cI 1),
uO 12 (.nilchk 7),
fA 13 1 none 12,
wO (.store none 13 11)] [0,1])
(.seq (.seq (rg [mV 14 0,
uO 15 (.nilchk 14),
fA 16 0 none 15,
lD 17 none 16,
lN 18 17,
bN 19 .eql 18 (cI 0)] [0,1,19])
(.cond 19 (.seq (rg [mV 20 0,
uO 21 (.nilchk 20),
fA 22 1 none 21,
lD 23 none 22,
bN 24 .mul 23 (cI 7919),
mV 25 1,
cL 26 z4h [24,25],
mV 4 26] [4])
.ret)
.skip))
(.seq (dr [dF (mV 27 0) [0],
dF (uO 28 (.nilchk 27)) [27],
dF (fA 29 1 none 28) [28],
dF (lD 30 none 29) [29],
dF (bN 31 .sub 30 (cI 1)) [30],
dF (mV 32 0) [0],
dF (uO 33 (.nilchk 32)) [32],
dF (fA 34 0 none 33) [33],
dF (lD 35 none 34) [34],
dF (lN 36 35) [35],
dF (bN 37 .rem 31 36) [31,36],
dF (mV 5 37) [37]] [0,1,5])
(.seq (dr [dF (mV 38 0) [0],
dF (uO 39 (.nilchk 38)) [38],
dF (fA 40 1 none 39) [39],
dF (lD 41 none 40) [40],
dF (bN 42 .sub 41 (cI 1)) [41],
dF (mV 43 0) [0],
dF (uO 44 (.nilchk 43)) [43],
dF (fA 45 0 none 44) [44],
dF (lD 46 none 45) [45],
dF (lN 47 46) [46],
dF (bN 48 .quo 42 47) [42,47],
dF (mV 6 48) [48]] [0,1,5,6])
(.seq (rg [mV 49 0,
uO 50 (.nilchk 49),
fA 51 0 none 50,
lD 52 none 51,
mV 53 5,
iA 54 none 52 53,
lD 55 none 54,
cL 56 z4h [55,(cI 1073741824)],
mV 57 6,
mV 58 5,
bN 59 .add (cI 7919) 58,
bN 60 .mul 57 59,
bN 61 .add 56 60,
mV 62 1,
cL 63 z4h [61,62],
mV 4 63] [4])
.ret))))))
def zii:AFun:=⟨2,[.t 4],P_q03h,false,false⟩
def zey (C:Hd) (gl:GL) (v0 v1:AV) (h:Heap) (x:Esc) (K:KT):Prop:=
 pK (oNil v0) fun t1=>
 pK (z0d 1 none t1) fun t2=>
 pK (z0e none t2 h) fun t3=>
 pK (oBin .add t3 (AI 1)) fun t4=>
 pK (oNil v0) fun t5=>
 pK (z0d 1 none t5) fun t6=>
 wK (z0m none t6 t4 h) fun t7 h8 y9=>
 pK (oNil v0) fun t10=>
 pK (z0d 0 none t10) fun t11=>
 pK (z0e none t11 h8) fun t12=>
 pK (oLen t12) fun t13=>
 pK (oBin .eql t13 (AI 0)) fun t14=>
 z0k t14 (pK (oNil v0) fun t15=>
 pK (z0d 1 none t15) fun t16=>
 pK (z0e none t16 h8) fun t17=>
 pK (oBin .mul t17 (AI 7919)) fun t18=>
 C z4h [t18,v1] h8 fun t19 h20 y21=>
 K .ret ⟨[(4,t19)],h20,(y21++(y9++x))⟩)
 (pK (oNil v0) fun t22=>
 pK (z0d 1 none t22) fun t23=>
 pK (z0e none t23 h8) fun t24=>
 pK (oBin .sub t24 (AI 1)) fun t25=>
 pK (oNil v0) fun t26=>
 pK (z0d 0 none t26) fun t27=>
 pK (z0e none t27 h8) fun t28=>
 pK (oLen t28) fun t29=>
 pK (oBin .rem t25 t29) fun t30=>
 pK (oNil v0) fun t31=>
 pK (z0d 1 none t31) fun t32=>
 pK (z0e none t32 h8) fun t33=>
 pK (oBin .sub t33 (AI 1)) fun t34=>
 pK (oNil v0) fun t35=>
 pK (z0d 0 none t35) fun t36=>
 pK (z0e none t36 h8) fun t37=>
 pK (oLen t37) fun t38=>
 pK (oBin .quo t34 t38) fun t39=>
 pK (oNil v0) fun t40=>
 pK (z0d 0 none t40) fun t41=>
 pK (z0e none t41 h8) fun t42=>
 pK (z0y none t42 t30 h8) fun t43=>
 pK (z0e none t43 h8) fun t44=>
 C z4h [t44,(AI 1073741824)] h8 fun t45 h46 y47=>
 pK (oBin .add (AI 7919) t30) fun t48=>
 pK (oBin .mul t39 t48) fun t49=>
 pK (oBin .add t45 t49) fun t50=>
 C z4h [t50,v1] h46 fun t51 h52 y53=>
 K .ret ⟨[(4,t51)],h52,(y53++(y47++(y9++x)))⟩)
theorem e_q03h {C gl v0 v1 h x K}:NW C gl zii.body ⟨enter [v0,v1],h,x⟩ K=zey C gl v0 v1 h x K:=by kernel_rfl
def z2B:ACode:=.pr [3,6,7,8] (.seq (rg [bN 9 .lss 8 7] [3,6,7,8,9])
(.seq (.cond 9 .skip
(.exit 0))
(.seq (.block 1 (.seq (rg [iA 10 none 6 8,
lD 11 none 10,
mV 5 11] [3,5,6,7,8])
(.seq (rg [mV 12 5,
mV 13 3,
bN 14 .neq 12 13] [3,5,6,7,8,14])
(.cond 14 (.seq (rg [mV 15 5,
mV 2 15] [2])
.ret)
.skip))))
(rg [bN 16 .add 8 (cI 1),
mV 8 16] [3,6,7,8]))))
def zaV (C:Hd) (gl:GL) (v3 v6 v7 v8:AV) (h:Heap) (x:Esc) (K:KT):Prop:=
 pK (oBin .lss v8 v7) fun t1=>
 z0k t1 (pK (z0y none v6 v8 h) fun t2=>
 pK (z0e none t2 h) fun t3=>
 pK (oBin .neq t3 v3) fun t4=>
 z0k t4 (K .ret ⟨[(2,t3)],h,x⟩)
 (pK (oBin .add v8 (AI 1)) fun t5=>
 K .normal ⟨[(3,v3),(6,v6),(7,v7),(8,t5)],h,x⟩))
 (K (.exit 0) ⟨[(3,v3),(6,v6),(7,v7),(8,v8),(9,t1)],h,x⟩)
theorem zjM {C gl e h x K}:NW C gl z2B ⟨e,h,x⟩ K=zaV C gl (aget e 3) (aget e 6) (aget e 7) (aget e 8) h x K:=by kernel_rfl
theorem zlA {C gl e h x K}:NW C gl (.loop z2B) ⟨e,h,x⟩ K=z1s C gl z2B K [(3,aget e 3),(6,aget e 6),(7,aget e 7),(8,aget e 8)] h x:=z0H
def z5g:ACode:=.pr [3] (.seq (rg [mV 17 3,
mV 2 17] [2])
.ret)
def zaW (C:Hd) (gl:GL) (v3:AV) (h:Heap) (x:Esc) (K:KT):Prop:=
 K .ret ⟨[(2,v3)],h,x⟩
theorem zjN {C gl e h x K}:NW C gl z5g ⟨e,h,x⟩ K=zaW C gl (aget e 3) h x K:=by kernel_rfl
def zrl (q1 q2:ACode):ACode:=(.seq (rg [mV 2 (cI 0)] [0])
(.seq (rg [mV 3 (cI 0)] [0,3])
(.seq (.seq (rg [mV 6 0,
lN 7 6,
mV 8 (cI 0)] [3,6,7,8])
(.block 0 (.loop q1)))
q2)))
def zdH:AFun:=⟨1,[.t 2],zrl z2B z5g,false,false⟩
def zeu (C:Hd) (gl:GL) (q1 q2:ACode) (v0:AV) (h:Heap) (x:Esc) (K:KT):Prop:=
 pK (oLen v0) fun t1=>
 NW C gl (.loop q1) ⟨[(3,(AI 0)),(6,v0),(7,t1),(8,(AI 0))],h,x⟩ (z0w 0 (seqN C gl q2 K))
theorem E_q00u {C gl q1 q2 v0 h x K}:NW C gl (zrl q1 q2) ⟨enter [v0],h,x⟩ K=zeu C gl q1 q2 v0 h x K:=by kernel_rfl
theorem e_q00u {C gl v0 h x K}:NW C gl zdH.body ⟨enter [v0],h,x⟩ K=zeu C gl z2B z5g v0 h x K:=E_q00u
def P_q00s:ACode:=(.seq (rg [mV 4 (cI 0)] [0,1])
(.seq (rg [mV 7 0,
cL 8 z4Q [7],
mV 5 8] [0,1,5])
(.seq (rg [mV 9 1,
cL 10 z4Q [9],
mV 6 10] [0,1,5,6])
(.seq (.seq (rg [mV 11 5] [0,1,6,11])
(.cond 11 (.seq (.seq (rg [mV 12 6] [12])
(.cond 12 (.seq (rg [mV 4 (cI 0)] [4])
.ret)
.skip))
(.seq (rg [mV 4 (cI (-1))] [4])
.ret))
.skip))
(.seq (.seq (rg [mV 13 6] [0,1,13])
(.cond 13 (.seq (rg [mV 4 (cI 1)] [4])
.ret)
.skip))
(.seq (.seq (rg [mV 14 0,
mV 15 1,
bN 16 .lss 14 15] [0,1,16])
(.cond 16 (.seq (rg [mV 4 (cI (-1))] [4])
.ret)
.skip))
(.seq (.seq (rg [mV 17 0,
mV 18 1,
bN 19 .gtr 17 18] [19])
(.cond 19 (.seq (rg [mV 4 (cI 1)] [4])
.ret)
.skip))
(.seq (rg [mV 4 (cI 0)] [4])
.ret))))))))
def zdG:AFun:=⟨2,[.t 4],P_q00s,false,false⟩
def zaU (C:Hd) (gl:GL) (v0 v1:AV) (h:Heap) (x:Esc) (K:KT):Prop:=
 C z4Q [v0] h fun t1 h2 y3=>
 C z4Q [v1] h2 fun t4 h5 y6=>
 z0k t1 (z0k t4 (K .ret ⟨[(4,(AI 0))],h5,(y6++(y3++x))⟩)
 (K .ret ⟨[(4,(AI (-1)))],h5,(y6++(y3++x))⟩))
 (z0k t4 (K .ret ⟨[(4,(AI 1))],h5,(y6++(y3++x))⟩)
 (pK (oBin .lss v0 v1) fun t7=>
 z0k t7 (K .ret ⟨[(4,(AI (-1)))],h5,(y6++(y3++x))⟩)
 (pK (oBin .gtr v0 v1) fun t8=>
 z0k t8 (K .ret ⟨[(4,(AI 1))],h5,(y6++(y3++x))⟩)
 (K .ret ⟨[(4,(AI 0))],h5,(y6++(y3++x))⟩))))
theorem e_q00s {C gl v0 v1 h x K}:NW C gl zdG.body ⟨enter [v0,v1],h,x⟩ K=zaU C gl v0 v1 h x K:=by kernel_rfl
def P_q091:ACode:=(.seq (rg [mV 4 (cI 0)] [0,1])
(.seq (rg [mV 5 0,
mV 6 1,
cL 7 z7r [5,6],
mV 4 7] [4])
.ret))
def zee:AFun:=⟨2,[.t 4],P_q091,false,false⟩
def zj2 (C:Hd) (gl:GL) (v0 v1:AV) (h:Heap) (x:Esc) (K:KT):Prop:=
 C z7r [v0,v1] h fun t1 h2 y3=>
 K .ret ⟨[(4,t1)],h2,(y3++x)⟩
theorem e_q091 {C gl v0 v1 h x K}:NW C gl zee.body ⟨enter [v0,v1],h,x⟩ K=zj2 C gl v0 v1 h x K:=by kernel_rfl
def P_q083:ACode:=(.seq (rg [uO 3 (.box 0),
mV 6 (cI 0)] [1,2,3])
(.seq (rg [lD 7 (some 2) 3,
cL 8 z7w [7],
mV 9 1,
cL 10 z7v [9],
mV 11 2,
cL 12 z73 [11],
uO 13 (.bsl false none 3 (.int .i64 0) [(0,8),(1,10),(2,12)]),
cL 14 z7q [13],
mV 6 14] [6])
.ret))
def zdT:AFun:=⟨3,[.t 6],P_q083,false,false⟩
def zj0 (C:Hd) (gl:GL) (v0 v1 v2:AV) (h:Heap) (x:Esc) (K:KT):Prop:=
 wK (oBox v0 h) fun t1 h2 y3=>
 pK (z0e (some 2) t1 h2) fun t4=>
 C z7w [t4] h2 fun t5 h6 y7=>
 C z7v [v1] h6 fun t8 h9 y10=>
 C z73 [v2] h9 fun t11 h12 y13=>
 wK (oBsl false none 3 (.int .i64 0) [(0,t5),(1,t8),(2,t11)] h12) fun t14 h15 y16=>
 C z7q [t14] h15 fun t17 h18 y19=>
 K .ret ⟨[(6,t17)],h18,(y19++(y16++(y13++(y10++(y7++(y3++x))))))⟩
theorem e_q083 {C gl v0 v1 v2 h x K}:NW C gl zdT.body ⟨enter [v0,v1,v2],h,x⟩ K=zj0 C gl v0 v1 v2 h x K:=by kernel_rfl
end Go.Am
end
section
/- The functions asv abstract code,and asv formulas over their values: printed by program out of the translation. -/
set_option linter.unusedVariables false
set_option maxRecDepth 100000
namespace Go.Am
def z7V:ACode:=.pr [5,6,17,18,19] (rg [bN 59 .add 19 (cI 1),
mV 19 59] [5,6,17,18,19])
def zbB (C:Hd) (gl:GL) (v5 v6 v17 v18 v19:AV) (h:Heap) (x:Esc) (K:KT):Prop:=
 pK (oBin .add v19 (AI 1)) fun t1=>
 K .normal ⟨[(5,v5),(6,v6),(17,v17),(18,v18),(19,t1)],h,x⟩
theorem zk9 {C gl e h x K}:NW C gl z7V ⟨e,h,x⟩ K=zbB C gl (aget e 5) (aget e 6) (aget e 17) (aget e 18) (aget e 19) h x K:=by kernel_rfl
def za9 (q1:ACode):ACode:=.pr [5,6,17,18,19] (.seq (rg [bN 20 .lss 19 18] [5,6,17,18,19,20])
(.seq (.cond 20 .skip
(.exit 0))
(.seq (.block 1 (.seq (rg [mV 21 19,
iA 22 (some 8) 17 19,
lD 23 (some 8) 22,
uO 8 (.alloc [.p (.str []),.p (.int .i64 0),.p (.int .i64 0),.p (.int .i64 0),.p (.str []),.p (.str []),.p (.str []),.p (.int .i64 0)]),
mV 7 21,
wO (.store (some 8) 8 23)] [5,6,7,8,17,18,19])
(.seq (.seq (rg [mV 24 6,
mV 25 7,
iA 26 none 24 25,
lD 27 none 26,
uO 28 (.un .not 27),
mV 29 28,
gD 30 29 false (.faddr 3 none 8),
gD 31 29 false (.load none 30),
gD 32 29 false (.bin .eql 31 (cI 7)),
uO 33 (.pick 29 cT 32)] [5,6,7,8,17,18,19,33])
(.cond 33 (.exit 1)
.skip))
(.seq (rg [mV 34 5,
lD 35 (some 8) 8,
cL 36 z3v [34,35],
mV 9 36] [5,6,7,9,17,18,19])
(.seq (rg [mV 37 9,
bN 38 .neq 37 (cI 0)] [5,6,7,9,17,18,19,38])
(.cond 38 (.seq (rg [mV 39 5,
mV 40 5,
uO 41 (.nilchk 40),
fA 42 6 none 41,
lD 43 none 42,
mV 44 7,
uO 45 (.bsl false none 1 (.int .i64 0) [(0,44)]),
uO 46 (.app none 43 45),
uO 47 (.nilchk 39),
fA 48 6 none 47,
wO (.store none 48 46)] [5,6,9,17,18,19])
(rg [mV 49 5,
mV 50 5,
uO 51 (.nilchk 50),
fA 52 7 none 51,
lD 53 none 52,
mV 54 9,
uO 55 (.bsl false none 1 (.int .i64 0) [(0,54)]),
uO 56 (.app none 53 55),
uO 57 (.nilchk 49),
fA 58 7 none 57,
wO (.store none 58 56)] [5,6,17,18,19]))
.skip))))))
q1)))
def z2Q:ACode:=za9 z7V
def z7g (C:Hd) (gl:GL) (q1:ACode) (v5 v6 v17 v18 v19:AV) (h:Heap) (x:Esc) (K:KT):Prop:=
 pK (oBin .lss v19 v18) fun t1=>
 z0k t1 (pK (z0y (some 8) v17 v19 h) fun t2=>
 pK (z0e (some 8) t2 h) fun t3=>
 alK [.p (.str []),.p (.int .i64 0),.p (.int .i64 0),.p (.int .i64 0),.p (.str []),.p (.str []),.p (.str []),.p (.int .i64 0)] h fun t4 h5 y6=>
 wK (z0m (some 8) t4 t3 h5) fun t7 h8 y9=>
 pK (z0y none v6 v19 h8) fun t10=>
 pK (z0e none t10 h8) fun t11=>
 pK (oUn .not t11) fun t12=>
 gP t12 false (z0d 3 none t4) h8 fun t13 h14 y15=>
 gP t12 false (z0e none t13 h14) h14 fun t16 h17 y18=>
 gP t12 false (oBin .eql t16 (AI 7)) h17 fun t19 h20 y21=>
 pK (z0O t12 (AB true) t19) fun t22=>
 z0k t22 (NW C gl q1 ⟨[(5,v5),(6,v6),(7,v19),(8,t4),(17,v17),(18,v18),(19,v19),(33,t22)],h20,(y21++(y18++(y15++(y9++(y6++x)))))⟩ K)
 (pK (z0e (some 8) t4 h20) fun t23=>
 C z3v [v5,t23] h20 fun t24 h25 y26=>
 pK (oBin .neq t24 (AI 0)) fun t27=>
 z0k t27 (pK (oNil v5) fun t28=>
 pK (z0d 6 none t28) fun t29=>
 pK (z0e none t29 h25) fun t30=>
 wK (oBsl false none 1 (.int .i64 0) [(0,v19)] h25) fun t31 h32 y33=>
 wK (oApp none t30 t31 h32) fun t34 h35 y36=>
 pK (oNil v5) fun t37=>
 pK (z0d 6 none t37) fun t38=>
 wK (z0m none t38 t34 h35) fun t39 h40 y41=>
 pK (oNil v5) fun t42=>
 pK (z0d 7 none t42) fun t43=>
 pK (z0e none t43 h40) fun t44=>
 wK (oBsl false none 1 (.int .i64 0) [(0,t24)] h40) fun t45 h46 y47=>
 wK (oApp none t44 t45 h46) fun t48 h49 y50=>
 pK (oNil v5) fun t51=>
 pK (z0d 7 none t51) fun t52=>
 wK (z0m none t52 t48 h49) fun t53 h54 y55=>
 NW C gl q1 ⟨[(5,v5),(6,v6),(17,v17),(18,v18),(19,v19)],h54,(y55++(y50++(y47++(y41++(y36++(y33++(y26++(y21++(y18++(y15++(y9++(y6++x))))))))))))⟩ K)
 (NW C gl q1 ⟨[(5,v5),(6,v6),(7,v19),(9,t24),(17,v17),(18,v18),(19,v19),(38,t27)],h25,(y26++(y21++(y18++(y15++(y9++(y6++x))))))⟩ K)))
 (K (.exit 0) ⟨[(5,v5),(6,v6),(17,v17),(18,v18),(19,v19),(20,t1)],h,x⟩)
theorem zhB {C gl q1 e h x K}:NW C gl (za9 q1) ⟨e,h,x⟩ K=z7g C gl q1 (aget e 5) (aget e 6) (aget e 17) (aget e 18) (aget e 19) h x K:=by kernel_rfl
theorem zkA {C gl e h x K}:NW C gl z2Q ⟨e,h,x⟩ K=z7g C gl z7V (aget e 5) (aget e 6) (aget e 17) (aget e 18) (aget e 19) h x K:=zhB
theorem zlU {C gl e h x K}:NW C gl (.loop (.scope z2Q)) ⟨e,h,x⟩ K=z1s C gl (.scope z2Q) K [(5,aget e 5),(6,aget e 6),(17,aget e 17),(18,aget e 18),(19,aget e 19)] h x:=z1S
def z51:ACode:=.pr [5] (.seq (rg [mV 60 5,
mV 4 60] [4])
.ret)
def zbC (C:Hd) (gl:GL) (v5:AV) (h:Heap) (x:Esc) (K:KT):Prop:=
 K .ret ⟨[(4,v5)],h,x⟩
theorem zkB {C gl e h x K}:NW C gl z51 ⟨e,h,x⟩ K=zbC C gl (aget e 5) h x K:=by kernel_rfl
def zr4 (q2 q3:ACode):ACode:=(.seq (rg [uO 2 (.uns 12 0 [0]),
mV 4 (.c (.nilp))] [1,2])
(.seq (rg [lD 10 (some 2) 2,
uO 11 (.mkmap),
uO 12 (.mkmap),
uO 13 (.build [.sl0 none,.p (.int .i64 0),.nilm,.nilm,.sl0 (some 5),.sl0 (some 3),.sl0 none,.sl0 none] [(0,2,10),(2,1,11),(3,1,12)]),
uO 14 (.uns 12 0 [13]),
mV 5 14] [1,5])
(.seq (rg [mV 15 1,
cL 16 z7y [15],
mV 6 16] [1,5,6])
(.seq (.seq (rg [mV 17 1,
lN 18 17,
mV 19 (cI 0)] [5,6,17,18,19])
(.block 0 (.loop (.scope q2))))
q3))))
def zdZ:AFun:=⟨2,[.t 4],zr4 z2Q z51,false,false⟩
def zeA (C:Hd) (gl:GL) (q2 q3:ACode) (v0 v1:AV) (h:Heap) (x:Esc) (K:KT):Prop:=
 wK (z2n 12 0 [v0] h) fun t1 h2 y3=>
 pK (z0e (some 2) t1 h2) fun t4=>
 mmK h2 fun t5 h6 y7=>
 mmK h6 fun t8 h9 y10=>
 pK (z07 [.sl0 none,.p (.int .i64 0),.nilm,.nilm,.sl0 (some 5),.sl0 (some 3),.sl0 none,.sl0 none] [(0,2,t4),(2,1,t5),(3,1,t8)]) fun t11=>
 wK (z2n 12 0 [t11] h9) fun t12 h13 y14=>
 C z7y [v1] h13 fun t15 h16 y17=>
 pK (oLen v1) fun t18=>
 NW C gl (.loop (.scope q2)) ⟨[(5,t12),(6,t15),(17,v1),(18,t18),(19,(AI 0))],h16,(y17++(y14++(y10++(y7++(y3++x)))))⟩ (z0w 0 (seqN C gl q3 K))
theorem E_q08b {C gl q2 q3 v0 v1 h x K}:NW C gl (zr4 q2 q3) ⟨enter [v0,v1],h,x⟩ K=zeA C gl q2 q3 v0 v1 h x K:=by kernel_rfl
theorem e_q08b {C gl v0 v1 h x K}:NW C gl zdZ.body ⟨enter [v0,v1],h,x⟩ K=zeA C gl z2Q z51 v0 v1 h x K:=E_q08b
def z2S:ACode:=.pr [0,1,5] (.seq (.seq (rg [mV 8 5,
bN 9 .gtr 8 (cI 0),
mV 10 9,
gD 11 10 true (.mv 0),
gD 12 10 true (.mv 5),
gD 13 10 true (.bin .sub 12 (cI 1)),
gD 14 10 true (.iaddr (some 8) 11 13),
gD 15 10 true (.faddr 2 none 14),
gD 16 10 true (.load none 15),
gD 17 10 true (.mv 1),
gD 18 10 true (.bin .gtr 16 17),
uO 19 (.pick 10 18 cF)] [0,1,5,19])
(.cond 19 .skip
(.exit 0)))
(.block 1 (rg [mV 20 5,
bN 21 .sub 20 (cI 1),
mV 5 21] [0,1,5])))
def zbF (C:Hd) (gl:GL) (v0 v1 v5:AV) (h:Heap) (x:Esc) (K:KT):Prop:=
 pK (oBin .gtr v5 (AI 0)) fun t1=>
 gM t1 true v0 h fun t2 h3 y4=>
 gM t1 true v5 h3 fun t5 h6 y7=>
 gP t1 true (oBin .sub t5 (AI 1)) h6 fun t8 h9 y10=>
 gP t1 true (z0y (some 8) t2 t8 h9) h9 fun t11 h12 y13=>
 gP t1 true (z0d 2 none t11) h12 fun t14 h15 y16=>
 gP t1 true (z0e none t14 h15) h15 fun t17 h18 y19=>
 gM t1 true v1 h18 fun t20 h21 y22=>
 gP t1 true (oBin .gtr t17 t20) h21 fun t23 h24 y25=>
 pK (z0O t1 t23 (AB false)) fun t26=>
 z0k t26 (pK (oBin .sub v5 (AI 1)) fun t27=>
 K .normal ⟨[(0,v0),(1,v1),(5,t27)],h24,(y25++(y22++(y19++(y16++(y13++(y10++(y7++(y4++x))))))))⟩)
 (K (.exit 0) ⟨[(0,v0),(1,v1),(5,v5),(19,t26)],h24,(y25++(y22++(y19++(y16++(y13++(y10++(y7++(y4++x))))))))⟩)
theorem zkE {C gl e h x K}:NW C gl z2S ⟨e,h,x⟩ K=zbF C gl (aget e 0) (aget e 1) (aget e 5) h x K:=by kernel_rfl
theorem zlW {C gl e h x K}:NW C gl (.loop z2S) ⟨e,h,x⟩ K=z1s C gl z2S K [(0,aget e 0),(1,aget e 1),(5,aget e 5)] h x:=z0H
def z53:ACode:=.pr [0,5] (.seq (rg [mV 22 0,
mV 23 5,
uO 24 (.slice (some 8) 22 none (some 23) none),
mV 4 24] [4])
.ret)
def zbG (C:Hd) (gl:GL) (v0 v5:AV) (h:Heap) (x:Esc) (K:KT):Prop:=
 pK (z4k (some 8) v0 none (some v5) none h) fun t1=>
 K .ret ⟨[(4,t1)],h,x⟩
theorem zkF {C gl e h x K}:NW C gl z53 ⟨e,h,x⟩ K=zbG C gl (aget e 0) (aget e 5) h x K:=by kernel_rfl
def zr6 (q1 q2:ACode):ACode:=(.seq (rg [mV 4 (.c (.p (.sl (some 8) [])))] [0,1])
(.seq (rg [mV 6 0,
lN 7 6,
mV 5 7] [0,1,5])
(.seq (.block 0 (.loop q1))
q2)))
def zec:AFun:=⟨2,[.t 4],zr6 z2S z53,false,false⟩
def zeD (C:Hd) (gl:GL) (q1 q2:ACode) (v0 v1:AV) (h:Heap) (x:Esc) (K:KT):Prop:=
 pK (oLen v0) fun t1=>
 NW C gl (.loop q1) ⟨[(0,v0),(1,v1),(5,t1)],h,x⟩ (z0w 0 (seqN C gl q2 K))
theorem E_q08j {C gl q1 q2 v0 v1 h x K}:NW C gl (zr6 q1 q2) ⟨enter [v0,v1],h,x⟩ K=zeD C gl q1 q2 v0 v1 h x K:=by kernel_rfl
theorem e_q08j {C gl v0 v1 h x K}:NW C gl zec.body ⟨enter [v0,v1],h,x⟩ K=zeD C gl z2S z53 v0 v1 h x K:=E_q08j
def z2I:ACode:=.pr [0,1,7,8] (.seq (rg [bN 9 .lss 8 7] [0,1,7,8,9])
(.seq (.cond 9 .skip
(.exit 0))
(.seq (.block 1 (.seq (rg [mV 10 8,
mV 5 10] [0,1,5,7,8])
(.seq (rg [mV 11 1,
mV 12 0,
mV 13 5,
iA 14 none 12 13,
lD 15 none 14,
bN 16 .eql 11 15] [0,1,5,7,8,16])
(.cond 16 (.seq (rg [mV 17 5,
mV 4 17] [4])
.ret)
.skip))))
(rg [bN 18 .add 8 (cI 1),
mV 8 18] [0,1,7,8]))))
def zbq (C:Hd) (gl:GL) (v0 v1 v7 v8:AV) (h:Heap) (x:Esc) (K:KT):Prop:=
 pK (oBin .lss v8 v7) fun t1=>
 z0k t1 (pK (z0y none v0 v8 h) fun t2=>
 pK (z0e none t2 h) fun t3=>
 pK (oBin .eql v1 t3) fun t4=>
 z0k t4 (K .ret ⟨[(4,v8)],h,x⟩)
 (pK (oBin .add v8 (AI 1)) fun t5=>
 K .normal ⟨[(0,v0),(1,v1),(7,v7),(8,t5)],h,x⟩))
 (K (.exit 0) ⟨[(0,v0),(1,v1),(7,v7),(8,v8),(9,t1)],h,x⟩)
theorem zkh {C gl e h x K}:NW C gl z2I ⟨e,h,x⟩ K=zbq C gl (aget e 0) (aget e 1) (aget e 7) (aget e 8) h x K:=by kernel_rfl
theorem zlJ {C gl e h x K}:NW C gl (.loop z2I) ⟨e,h,x⟩ K=z1s C gl z2I K [(0,aget e 0),(1,aget e 1),(7,aget e 7),(8,aget e 8)] h x:=z0H
def z5q:ACode:=.pr [] (.seq (rg [mV 4 (cI (-1))] [4])
.ret)
def zbr (C:Hd) (gl:GL) (h:Heap) (x:Esc) (K:KT):Prop:=
 K .ret ⟨[(4,(AI (-1)))],h,x⟩
theorem zki {C gl e h x K}:NW C gl z5q ⟨e,h,x⟩ K=zbr C gl h x K:=by kernel_rfl
def zru (q1 q2:ACode):ACode:=(.seq (rg [mV 4 (cI 0)] [0,1])
(.seq (.seq (rg [mV 6 0,
lN 7 6,
mV 8 (cI 0)] [0,1,7,8])
(.block 0 (.loop q1)))
q2))
def zdM:AFun:=⟨2,[.t 4],zru z2I z5q,true,false⟩
def ze3 (C:Hd) (gl:GL) (q1 q2:ACode) (v0 v1:AV) (h:Heap) (x:Esc) (K:KT):Prop:=
 pK (oLen v0) fun t1=>
 NW C gl (.loop q1) ⟨[(0,v0),(1,v1),(7,t1),(8,(AI 0))],h,x⟩ (z0w 0 (seqN C gl q2 K))
theorem E_q05y {C gl q1 q2 v0 v1 h x K}:NW C gl (zru q1 q2) ⟨enter [v0,v1],h,x⟩ K=ze3 C gl q1 q2 v0 v1 h x K:=by kernel_rfl
theorem e_q05y {C gl v0 v1 h x K}:NW C gl zdM.body ⟨enter [v0,v1],h,x⟩ K=ze3 C gl z2I z5q v0 v1 h x K:=E_q05y
def z2A:ACode:=.pr [0,23,24] (.seq (rg [bN 25 .lss 24 23] [0,23,24,25])
(.seq (.cond 25 .skip
(.exit 0))
(.seq (.block 1 (.seq (rg [mV 26 24,
mV 3 26] [0,3,23,24])
(.seq (rg [mV 27 0,
mV 28 3,
uO 29 (.idxs 27 28),
mV 4 29] [0,4,23,24])
(.seq (rg [mV 30 4,
bN 31 .geq 30 (.c (.p (.int .u8 97))),
mV 32 31,
gD 33 32 true (.mv 4),
gD 34 32 true (.bin .leq 33 (.c (.p (.int .u8 122)))),
uO 35 (.pick 32 34 cF),
mV 36 35,
gD 37 36 false (.mv 4),
gD 38 36 false (.bin .geq 37 (.c (.p (.int .u8 48)))),
gD 39 36 false (.mv 38),
gD 40 39 true (.mv 4),
gD 41 39 true (.bin .leq 40 (.c (.p (.int .u8 57)))),
gD 42 36 false (.pick 39 41 cF),
uO 43 (.pick 36 cT 42),
mV 44 43,
gD 45 44 false (.mv 4),
gD 46 44 false (.bin .eql 45 (.c (.p (.int .u8 45)))),
uO 47 (.pick 44 cT 46),
mV 48 47,
gD 49 48 false (.mv 4),
gD 50 48 false (.bin .eql 49 (.c (.p (.int .u8 95)))),
uO 51 (.pick 48 cT 50),
uO 52 (.un .not 51)] [0,23,24,52])
(.cond 52 (.seq (rg [mV 2 cF] [2])
.ret)
.skip)))))
(rg [bN 53 .add 24 (cI 1),
mV 24 53] [0,23,24]))))
def zaS (C:Hd) (gl:GL) (v0 v23 v24:AV) (h:Heap) (x:Esc) (K:KT):Prop:=
 pK (oBin .lss v24 v23) fun t1=>
 z0k t1 (pK (zck v0 v24) fun t2=>
 pK (oBin .geq t2 (.p (.int .u8 97))) fun t3=>
 gM t3 true t2 h fun t4 h5 y6=>
 gP t3 true (oBin .leq t4 (.p (.int .u8 122))) h5 fun t7 h8 y9=>
 pK (z0O t3 t7 (AB false)) fun t10=>
 gM t10 false t2 h8 fun t11 h12 y13=>
 gP t10 false (oBin .geq t11 (.p (.int .u8 48))) h12 fun t14 h15 y16=>
 gM t10 false t14 h15 fun t17 h18 y19=>
 gM t17 true t2 h18 fun t20 h21 y22=>
 gP t17 true (oBin .leq t20 (.p (.int .u8 57))) h21 fun t23 h24 y25=>
 gP t10 false (z0O t17 t23 (AB false)) h24 fun t26 h27 y28=>
 pK (z0O t10 (AB true) t26) fun t29=>
 gM t29 false t2 h27 fun t30 h31 y32=>
 gP t29 false (oBin .eql t30 (.p (.int .u8 45))) h31 fun t33 h34 y35=>
 pK (z0O t29 (AB true) t33) fun t36=>
 gM t36 false t2 h34 fun t37 h38 y39=>
 gP t36 false (oBin .eql t37 (.p (.int .u8 95))) h38 fun t40 h41 y42=>
 pK (z0O t36 (AB true) t40) fun t43=>
 pK (oUn .not t43) fun t44=>
 z0k t44 (K .ret ⟨[(2,(AB false))],h41,(y42++(y39++(y35++(y32++(y28++(y25++(y22++(y19++(y16++(y13++(y9++(y6++x))))))))))))⟩)
 (pK (oBin .add v24 (AI 1)) fun t45=>
 K .normal ⟨[(0,v0),(23,v23),(24,t45)],h41,(y42++(y39++(y35++(y32++(y28++(y25++(y22++(y19++(y16++(y13++(y9++(y6++x))))))))))))⟩))
 (K (.exit 0) ⟨[(0,v0),(23,v23),(24,v24),(25,t1)],h,x⟩)
theorem zjK {C gl e h x K}:NW C gl z2A ⟨e,h,x⟩ K=zaS C gl (aget e 0) (aget e 23) (aget e 24) h x K:=by kernel_rfl
theorem zl9 {C gl e h x K}:NW C gl (.loop z2A) ⟨e,h,x⟩ K=z1s C gl z2A K [(0,aget e 0),(23,aget e 23),(24,aget e 24)] h x:=z0H
def z5f:ACode:=.pr [] (.seq (rg [mV 2 cT] [2])
.ret)
def zaT (C:Hd) (gl:GL) (h:Heap) (x:Esc) (K:KT):Prop:=
 K .ret ⟨[(2,(AB true))],h,x⟩
theorem zjL {C gl e h x K}:NW C gl z5f ⟨e,h,x⟩ K=zaT C gl h x K:=by kernel_rfl
def zrk (q1 q2:ACode):ACode:=(.seq (rg [mV 2 cF] [0])
(.seq (.seq (rg [mV 5 0,
bN 6 .eql 5 (cS []),
mV 7 6,
gD 8 7 false (.mv 0),
gD 9 7 false (.lens 8),
gD 10 7 false (.bin .gtr 9 (cI 40)),
uO 11 (.pick 7 cT 10),
mV 12 11,
gD 13 12 false (.mv 0),
gD 14 12 false (.idxs 13 (cI 0)),
gD 15 12 false (.bin .lss 14 (.c (.p (.int .u8 97)))),
uO 16 (.pick 12 cT 15),
mV 17 16,
gD 18 17 false (.mv 0),
gD 19 17 false (.idxs 18 (cI 0)),
gD 20 17 false (.bin .gtr 19 (.c (.p (.int .u8 122)))),
uO 21 (.pick 17 cT 20)] [0,21])
(.cond 21 (.seq (rg [mV 2 cF] [2])
.ret)
.skip))
(.seq (.seq (rg [mV 22 0,
uO 23 (.lens 22),
mV 24 (cI 0)] [0,23,24])
(.block 0 (.loop q1)))
q2)))
def zdD:AFun:=⟨1,[.t 2],zrk z2A z5f,false,false⟩
def z6b (C:Hd) (gl:GL) (q1 q2:ACode) (v0:AV) (h:Heap) (x:Esc) (K:KT):Prop:=
 pK (oBin .eql v0 (.p (.str []))) fun t1=>
 gM t1 false v0 h fun t2 h3 y4=>
 gP t1 false (zdm t2) h3 fun t5 h6 y7=>
 gP t1 false (oBin .gtr t5 (AI 40)) h6 fun t8 h9 y10=>
 pK (z0O t1 (AB true) t8) fun t11=>
 gM t11 false v0 h9 fun t12 h13 y14=>
 gP t11 false (zck t12 (AI 0)) h13 fun t15 h16 y17=>
 gP t11 false (oBin .lss t15 (.p (.int .u8 97))) h16 fun t18 h19 y20=>
 pK (z0O t11 (AB true) t18) fun t21=>
 gM t21 false v0 h19 fun t22 h23 y24=>
 gP t21 false (zck t22 (AI 0)) h23 fun t25 h26 y27=>
 gP t21 false (oBin .gtr t25 (.p (.int .u8 122))) h26 fun t28 h29 y30=>
 pK (z0O t21 (AB true) t28) fun t31=>
 z0k t31 (K .ret ⟨[(2,(AB false))],h29,(y30++(y27++(y24++(y20++(y17++(y14++(y10++(y7++(y4++x)))))))))⟩)
 (pK (zdm v0) fun t32=>
 NW C gl (.loop q1) ⟨[(0,v0),(23,t32),(24,(AI 0))],h29,(y30++(y27++(y24++(y20++(y17++(y14++(y10++(y7++(y4++x)))))))))⟩ (z0w 0 (seqN C gl q2 K)))
theorem E_q005 {C gl q1 q2 v0 h x K}:NW C gl (zrk q1 q2) ⟨enter [v0],h,x⟩ K=z6b C gl q1 q2 v0 h x K:=by kernel_rfl
theorem e_q005 {C gl v0 h x K}:NW C gl zdD.body ⟨enter [v0],h,x⟩ K=z6b C gl z2A z5f v0 h x K:=E_q005
def P_q062:ACode:=(rg [mV 4 0,
mV 5 0,
lN 6 5,
mV 7 1,
cL 8 z9a [4,6,7]] [])
def zi3:AFun:=⟨2,[],P_q062,true,false⟩
def zjy (C:Hd) (gl:GL) (v0 v1:AV) (h:Heap) (x:Esc) (K:KT):Prop:=
 pK (oLen v0) fun t1=>
 C z9a [v0,t1,v1] h fun t2 h3 y4=>
 K .normal ⟨[],h3,(y4++x)⟩
theorem e_q062 {C gl v0 v1 h x K}:NW C gl zi3.body ⟨enter [v0,v1],h,x⟩ K=zjy C gl v0 v1 h x K:=by kernel_rfl
def P_q041:ACode:=(.seq (rg [uO 2 (.box 0),
uO 3 (.box 1),
mV 4 (cI 0)] [2,3])
(.seq (.block 0 (.seq (rg [fA 6 2 none 2,
lD 7 none 6,
fA 8 2 none 3,
lD 9 none 8,
bN 10 .neq 7 9,
mV 5 10] [2,3,5])
(.cond 5 (.seq (rg [fA 11 2 none 2,
lD 12 none 11,
fA 13 2 none 3,
lD 14 none 13,
bN 15 .sub 12 14,
cL 16 z6k [15],
mV 4 16] [4])
.ret)
(.seq (rg [fA 18 0 none 2,
lD 19 none 18,
fA 20 0 none 3,
lD 21 none 20,
bN 22 .neq 19 21,
mV 17 22] [2,3,17])
(.cond 17 (.seq (rg [fA 23 0 none 2,
lD 24 none 23,
fA 25 0 none 3,
lD 26 none 25,
cL 27 z28 [24,26],
mV 4 27] [4])
.ret)
.skip)))))
(.seq (rg [fA 28 1 none 2,
lD 29 none 28,
fA 30 1 none 3,
lD 31 none 30,
bN 32 .sub 29 31,
cL 33 z6k [32],
mV 4 33] [4])
.ret)))
def zit:AFun:=⟨2,[.t 4],P_q041,false,false⟩
def z6d (C:Hd) (gl:GL) (v0 v1:AV) (h:Heap) (x:Esc) (K:KT):Prop:=
 wK (oBox v0 h) fun t1 h2 y3=>
 wK (oBox v1 h2) fun t4 h5 y6=>
 pK (z0d 2 none t1) fun t7=>
 pK (z0e none t7 h5) fun t8=>
 pK (z0d 2 none t4) fun t9=>
 pK (z0e none t9 h5) fun t10=>
 pK (oBin .neq t8 t10) fun t11=>
 z0k t11 (pK (z0d 2 none t1) fun t12=>
 pK (z0e none t12 h5) fun t13=>
 pK (z0d 2 none t4) fun t14=>
 pK (z0e none t14 h5) fun t15=>
 pK (oBin .sub t13 t15) fun t16=>
 C z6k [t16] h5 fun t17 h18 y19=>
 K .ret ⟨[(4,t17)],h18,(y19++(y6++(y3++x)))⟩)
 (pK (z0d 0 none t1) fun t20=>
 pK (z0e none t20 h5) fun t21=>
 pK (z0d 0 none t4) fun t22=>
 pK (z0e none t22 h5) fun t23=>
 pK (oBin .neq t21 t23) fun t24=>
 z0k t24 (pK (z0d 0 none t1) fun t25=>
 pK (z0e none t25 h5) fun t26=>
 pK (z0d 0 none t4) fun t27=>
 pK (z0e none t27 h5) fun t28=>
 C z28 [t26,t28] h5 fun t29 h30 y31=>
 K .ret ⟨[(4,t29)],h30,(y31++(y6++(y3++x)))⟩)
 (pK (z0d 1 none t1) fun t32=>
 pK (z0e none t32 h5) fun t33=>
 pK (z0d 1 none t4) fun t34=>
 pK (z0e none t34 h5) fun t35=>
 pK (oBin .sub t33 t35) fun t36=>
 C z6k [t36] h5 fun t37 h38 y39=>
 K .ret ⟨[(4,t37)],h38,(y39++(y6++(y3++x)))⟩))
theorem e_q041 {C gl v0 v1 h x K}:NW C gl zit.body ⟨enter [v0,v1],h,x⟩ K=z6d C gl v0 v1 h x K:=by kernel_rfl
def z2M:ACode:=.pr [0,9,10,11] (.seq (rg [bN 12 .lss 11 10] [0,9,10,11,12])
(.seq (.cond 12 .skip
(.exit 0))
(.seq (.block 1 (.seq (rg [mV 13 11,
iA 14 (some 8) 9 11,
lD 15 (some 8) 14,
uO 4 (.alloc [.p (.str []),.p (.int .i64 0),.p (.int .i64 0),.p (.int .i64 0),.p (.str []),.p (.str []),.p (.str []),.p (.int .i64 0)]),
mV 3 13,
wO (.store (some 8) 4 15)] [0,3,4,9,10,11])
(.seq (.seq (rg [lD 16 (some 8) 4,
cL 17 z7z [16],
mV 5 17] [0,3,4,5,9,10,11])
(.seq (rg [mV 18 5,
bN 19 .neq 18 (cI 0)] [0,3,4,5,9,10,11,19])
(.cond 19 (.seq (rg [mV 20 5,
mV 2 20] [2])
.ret)
.skip)))
(.seq (dr [dF (mV 21 3) [3],
dF (bN 22 .gtr 21 (cI 0)) [21],
dF (mV 23 22) [22],
dF (gD 24 23 true (.load (some 8) 4)) [4,23],
dF (gD 25 23 true (.mv 0)) [0,23],
dF (gD 26 23 true (.mv 3)) [3,23],
dF (gD 27 23 true (.bin .sub 26 (cI 1))) [26,23],
dF (gD 28 23 true (.iaddr (some 8) 25 27)) [25,27,23],
dF (gD 29 23 true (.load (some 8) 28)) [28,23],
dT (gD 30 23 true (.call z7x [24,29])) [24,29,23],
dF (gD 31 23 true (.bin .leq 30 (cI 0))) [30,23],
dF (uO 32 (.pick 23 31 cF)) [23,31]] [0,9,10,11,32])
(.cond 32 (.seq (rg [mV 2 (cI 7)] [2])
.ret)
.skip)))))
(rg [bN 33 .add 11 (cI 1),
mV 11 33] [0,9,10,11]))))
def zb0 (C:Hd) (gl:GL) (v0 v9 v10 v11:AV) (h:Heap) (x:Esc) (K:KT):Prop:=
 pK (oBin .lss v11 v10) fun t1=>
 z0k t1 (pK (z0y (some 8) v9 v11 h) fun t2=>
 pK (z0e (some 8) t2 h) fun t3=>
 alK [.p (.str []),.p (.int .i64 0),.p (.int .i64 0),.p (.int .i64 0),.p (.str []),.p (.str []),.p (.str []),.p (.int .i64 0)] h fun t4 h5 y6=>
 wK (z0m (some 8) t4 t3 h5) fun t7 h8 y9=>
 pK (z0e (some 8) t4 h8) fun t10=>
 C z7z [t10] h8 fun t11 h12 y13=>
 pK (oBin .neq t11 (AI 0)) fun t14=>
 z0k t14 (K .ret ⟨[(2,t11)],h12,(y13++(y9++(y6++x)))⟩)
 (pK (oBin .gtr v11 (AI 0)) fun t15=>
 gP t15 true (z0e (some 8) t4 h12) h12 fun t16 h17 y18=>
 gM t15 true v0 h17 fun t19 h20 y21=>
 gM t15 true v11 h20 fun t22 h23 y24=>
 gP t15 true (oBin .sub t22 (AI 1)) h23 fun t25 h26 y27=>
 gP t15 true (z0y (some 8) t19 t25 h26) h26 fun t28 h29 y30=>
 gP t15 true (z0e (some 8) t28 h29) h29 fun t31 h32 y33=>
 gV t15 true h32 (z19 C z7x [t16,t31] h32) fun t34 h35 y36=>
 gP t15 true (oBin .leq t34 (AI 0)) h35 fun t37 h38 y39=>
 pK (z0O t15 t37 (AB false)) fun t40=>
 z0k t40 (K .ret ⟨[(2,(AI 7))],h38,(y39++(y36++(y33++(y30++(y27++(y24++(y21++(y18++(y13++(y9++(y6++x)))))))))))⟩)
 (pK (oBin .add v11 (AI 1)) fun t41=>
 K .normal ⟨[(0,v0),(9,v9),(10,v10),(11,t41)],h38,(y39++(y36++(y33++(y30++(y27++(y24++(y21++(y18++(y13++(y9++(y6++x)))))))))))⟩)))
 (K (.exit 0) ⟨[(0,v0),(9,v9),(10,v10),(11,v11),(12,t1)],h,x⟩)
theorem zku {C gl e h x K}:NW C gl z2M ⟨e,h,x⟩ K=zb0 C gl (aget e 0) (aget e 9) (aget e 10) (aget e 11) h x K:=by kernel_rfl
theorem zlQ {C gl e h x K}:NW C gl (.loop (.scope z2M)) ⟨e,h,x⟩ K=z1s C gl (.scope z2M) K [(0,aget e 0),(9,aget e 9),(10,aget e 10),(11,aget e 11)] h x:=z1S
def z5t:ACode:=.pr [0] (.seq (.seq (rg [mV 34 0,
cL 35 z74 [34]] [35])
(.cond 35 (.seq (rg [mV 2 (cI 6)] [2])
.ret)
.skip))
(.seq (rg [mV 2 (cI 0)] [2])
.ret))
def zb1 (C:Hd) (gl:GL) (v0:AV) (h:Heap) (x:Esc) (K:KT):Prop:=
 C z74 [v0] h fun t1 h2 y3=>
 z0k t1 (K .ret ⟨[(2,(AI 6))],h2,(y3++x)⟩)
 (K .ret ⟨[(2,(AI 0))],h2,(y3++x)⟩)
theorem zkv {C gl e h x K}:NW C gl z5t ⟨e,h,x⟩ K=zb1 C gl (aget e 0) h x K:=by kernel_rfl
def zry (q1 q2:ACode):ACode:=(.seq (rg [mV 2 (cI 0)] [0])
(.seq (.seq (rg [mV 6 0,
lN 7 6,
bN 8 .gtr 7 (cI 2000)] [0,8])
(.cond 8 (.seq (rg [mV 2 (cI 2)] [2])
.ret)
.skip))
(.seq (.seq (rg [mV 9 0,
lN 10 9,
mV 11 (cI 0)] [0,9,10,11])
(.block 0 (.loop (.scope q1))))
q2)))
def zdO:AFun:=⟨1,[.t 2],zry z2M z5t,false,false⟩
def zbz (C:Hd) (gl:GL) (q1 q2:ACode) (v0:AV) (h:Heap) (x:Esc) (K:KT):Prop:=
 pK (oLen v0) fun t1=>
 pK (oBin .gtr t1 (AI 2000)) fun t2=>
 z0k t2 (K .ret ⟨[(2,(AI 2))],h,x⟩)
 (pK (oLen v0) fun t3=>
 NW C gl (.loop (.scope q1)) ⟨[(0,v0),(9,v0),(10,t3),(11,(AI 0))],h,x⟩ (z0w 0 (seqN C gl q2 K)))
theorem E_q07q {C gl q1 q2 v0 h x K}:NW C gl (zry q1 q2) ⟨enter [v0],h,x⟩ K=zbz C gl q1 q2 v0 h x K:=by kernel_rfl
theorem e_q07q {C gl v0 h x K}:NW C gl zdO.body ⟨enter [v0],h,x⟩ K=zbz C gl z2M z5t v0 h x K:=E_q07q
def z5n:ACode:=.pr [1,3,4] (.seq (.block 0 (.seq (rg [fA 45 0 none 1,
lD 46 none 45,
cL 47 z3n [46],
uO 48 (.un .not 47),
mV 44 48] [1,3,4,44])
(.cond 44 (.seq (rg [mV 2 (cI 5)] [2])
.ret)
(.seq (rg [fA 50 1 none 1,
lD 51 none 50,
cL 52 z2d [51,(cI 1),(cI 1000000)],
uO 53 (.un .not 52),
mV 54 53,
gD 55 54 false (.faddr 2 none 1),
gD 56 54 false (.load none 55),
gD 57 54 false (.call z8U [56]),
gD 58 54 false (.un .not 57),
uO 59 (.pick 54 cT 58),
mV 49 59] [1,3,4,49])
(.cond 49 (.seq (rg [mV 2 (cI 1)] [2])
.ret)
(.seq (rg [fA 61 3 none 1,
lD 62 none 61,
cL 63 z2d [62,(cI 1),(cI 7)],
uO 64 (.un .not 63),
mV 60 64] [1,3,4,60])
(.cond 60 (.seq (rg [mV 2 (cI 4)] [2])
.ret)
(.seq (rg [mV 66 4,
uO 67 (.un .not 66),
mV 65 67] [1,3,65])
(.cond 65 (.seq (rg [mV 2 (cI 5)] [2])
.ret)
(.seq (rg [fA 69 3 none 1,
lD 70 none 69,
bN 71 .eql 70 (cI 7),
mV 72 71,
gD 73 72 true (.faddr 7 none 1),
gD 74 72 true (.load none 73),
gD 75 72 true (.call z2d [74,(cI 1),(cI 1000000)]),
gD 76 72 true (.un .not 75),
uO 77 (.pick 72 76 cF),
mV 68 77] [1,3,68])
(.cond 68 (.seq (rg [mV 2 (cI 1)] [2])
.ret)
(.seq (rg [lD 79 (some 8) 1,
lD 80 (some 8) 3,
uO 81 (.eqa [2,0,0,0,2,2,2,0] true 79 80),
mV 78 81] [78])
(.cond 78 (.seq (rg [mV 2 (cI 3)] [2])
.ret)
.skip)))))))))))))
(.seq (rg [mV 2 (cI 0)] [2])
.ret))
def z0L (C:Hd) (gl:GL) (v1 v3 v4:AV) (h:Heap) (x:Esc) (K:KT):Prop:=
 pK (z0d 0 none v1) fun t1=>
 pK (z0e none t1 h) fun t2=>
 C z3n [t2] h fun t3 h4 y5=>
 pK (oUn .not t3) fun t6=>
 z0k t6 (K .ret ⟨[(2,(AI 5))],h4,(y5++x)⟩)
 (pK (z0d 1 none v1) fun t7=>
 pK (z0e none t7 h4) fun t8=>
 C z2d [t8,(AI 1),(AI 1000000)] h4 fun t9 h10 y11=>
 pK (oUn .not t9) fun t12=>
 gP t12 false (z0d 2 none v1) h10 fun t13 h14 y15=>
 gP t12 false (z0e none t13 h14) h14 fun t16 h17 y18=>
 gV t12 false h17 (C z8U [t16] h17) fun t19 h20 y21=>
 gP t12 false (oUn .not t19) h20 fun t22 h23 y24=>
 pK (z0O t12 (AB true) t22) fun t25=>
 z0k t25 (K .ret ⟨[(2,(AI 1))],h23,(y24++(y21++(y18++(y15++(y11++(y5++x))))))⟩)
 (pK (z0d 3 none v1) fun t26=>
 pK (z0e none t26 h23) fun t27=>
 C z2d [t27,(AI 1),(AI 7)] h23 fun t28 h29 y30=>
 pK (oUn .not t28) fun t31=>
 z0k t31 (K .ret ⟨[(2,(AI 4))],h29,(y30++(y24++(y21++(y18++(y15++(y11++(y5++x)))))))⟩)
 (pK (oUn .not v4) fun t32=>
 z0k t32 (K .ret ⟨[(2,(AI 5))],h29,(y30++(y24++(y21++(y18++(y15++(y11++(y5++x)))))))⟩)
 (pK (z0d 3 none v1) fun t33=>
 pK (z0e none t33 h29) fun t34=>
 pK (oBin .eql t34 (AI 7)) fun t35=>
 gP t35 true (z0d 7 none v1) h29 fun t36 h37 y38=>
 gP t35 true (z0e none t36 h37) h37 fun t39 h40 y41=>
 gV t35 true h40 (C z2d [t39,(AI 1),(AI 1000000)] h40) fun t42 h43 y44=>
 gP t35 true (oUn .not t42) h43 fun t45 h46 y47=>
 pK (z0O t35 t45 (AB false)) fun t48=>
 z0k t48 (K .ret ⟨[(2,(AI 1))],h46,(y47++(y44++(y41++(y38++(y30++(y24++(y21++(y18++(y15++(y11++(y5++x)))))))))))⟩)
 (pK (z0e (some 8) v1 h46) fun t49=>
 pK (z0e (some 8) v3 h46) fun t50=>
 pK (oEqa [2,0,0,0,2,2,2,0] true t49 t50) fun t51=>
 z0k t51 (K .ret ⟨[(2,(AI 3))],h46,(y47++(y44++(y41++(y38++(y30++(y24++(y21++(y18++(y15++(y11++(y5++x)))))))))))⟩)
 (K .ret ⟨[(2,(AI 0))],h46,(y47++(y44++(y41++(y38++(y30++(y24++(y21++(y18++(y15++(y11++(y5++x)))))))))))⟩))))))
theorem zkc {C gl e h x K}:NW C gl z5n ⟨e,h,x⟩ K=z0L C gl (aget e 1) (aget e 3) (aget e 4) h x K:=by kernel_rfl
def zrr (q1:ACode):ACode:=(.seq (rg [uO 1 (.box 0),
mV 2 (cI 0)] [1])
(.seq (rg [fA 5 0 none 1,
lD 6 none 5,
fA 7 1 none 1,
lD 8 none 7,
fA 9 2 none 1,
lD 10 none 9,
fA 11 3 none 1,
lD 12 none 11,
uO 13 (.build [.p (.str []),.p (.int .i64 0),.p (.int .i64 0),.p (.int .i64 0),.p (.str []),.p (.str []),.p (.str []),.p (.int .i64 0)] [(0,1,6),(1,1,8),(2,1,10),(3,1,12)]),
uO 3 (.alloc [.p (.str []),.p (.int .i64 0),.p (.int .i64 0),.p (.int .i64 0),.p (.str []),.p (.str []),.p (.str []),.p (.int .i64 0)]),
wO (.store (some 8) 3 13)] [1,3])
(.seq (rg [mV 4 cT] [1,3])
(.seq (.seq (rg [fA 14 3 none 1,
lD 15 none 14,
bN 16 .eql 15 (cI 7)] [1,3,16])
(.cond 16 (dr [dF (fA 17 6 none 1) [1],
dF (lD 18 none 17) [17],
dF (fA 19 7 none 1) [1],
dF (lD 20 none 19) [19],
dF (fA 21 6 none 1) [1],
dF (lD 22 none 21) [21],
dA (cL 23 z3n [22]) [22] true [] [1,3],
dF (fA 24 6 none 3) [3],
dA (wO (.store none 24 18)) [24,18] true [] [3],
dF (fA 25 7 none 3) [3],
dT (wO (.store none 25 20)) [25,20],
dF (mV 4 23) [23]] [1,3,4])
(.seq (dr [dF (fA 26 4 none 1) [1],
dF (lD 27 none 26) [26],
dF (fA 28 4 none 1) [1],
dF (lD 29 none 28) [28],
dA (cL 30 z3n [29]) [29] true [] [1],
dF (fA 31 4 none 3) [3],
dT (wO (.store none 31 27)) [31,27],
dF (mV 4 30) [30]] [1,3,4])
(.seq (rg [fA 32 3 none 1,
lD 33 none 32,
bN 34 .eql 33 (cI 2)] [1,3,4,34])
(.cond 34 (dr [dF (fA 35 5 none 1) [1],
dF (lD 36 none 35) [35],
dF (mV 37 4) [4],
dF (mV 38 37) [37],
dF (gD 39 38 true (.faddr 5 none 1)) [1,38],
dF (gD 40 38 true (.load none 39)) [39,38],
dA (gD 41 38 true (.call z3n [40])) [40,38] true [] [1],
dF (uO 42 (.pick 38 41 cF)) [38,41],
dF (fA 43 5 none 3) [3],
dT (wO (.store none 43 36)) [43,36],
dF (mV 4 42) [42]] [1,3,4])
.skip)))))
q1))))
def zis:AFun:=⟨1,[.t 2],zrr z5n,false,false⟩
def z6c (C:Hd) (gl:GL) (q1:ACode) (v0:AV) (h:Heap) (x:Esc) (K:KT):Prop:=
 wK (oBox v0 h) fun t1 h2 y3=>
 pK (z0d 0 none t1) fun t4=>
 pK (z0e none t4 h2) fun t5=>
 pK (z0d 1 none t1) fun t6=>
 pK (z0e none t6 h2) fun t7=>
 pK (z0d 2 none t1) fun t8=>
 pK (z0e none t8 h2) fun t9=>
 pK (z0d 3 none t1) fun t10=>
 pK (z0e none t10 h2) fun t11=>
 pK (z07 [.p (.str []),.p (.int .i64 0),.p (.int .i64 0),.p (.int .i64 0),.p (.str []),.p (.str []),.p (.str []),.p (.int .i64 0)] [(0,1,t5),(1,1,t7),(2,1,t9),(3,1,t11)]) fun t12=>
 alK [.p (.str []),.p (.int .i64 0),.p (.int .i64 0),.p (.int .i64 0),.p (.str []),.p (.str []),.p (.str []),.p (.int .i64 0)] h2 fun t13 h14 y15=>
 wK (z0m (some 8) t13 t12 h14) fun t16 h17 y18=>
 pK (z0d 3 none t1) fun t19=>
 pK (z0e none t19 h17) fun t20=>
 pK (oBin .eql t20 (AI 7)) fun t21=>
 z0k t21 (pK (z0d 6 none t1) fun t22=>
 pK (z0e none t22 h17) fun t23=>
 pK (z0d 7 none t1) fun t24=>
 pK (z0e none t24 h17) fun t25=>
 pK (z0d 6 none t1) fun t26=>
 pK (z0e none t26 h17) fun t27=>
 z19 C z3n [t27] h17 fun t28 h29 y30=>
 (pK (z0e none t22 h29) fun v=>(fun u (g1:Heap) (y1:Esc)=>u=t23∧g1=h29∧y1=[]) v h29 [])∧((pK (z0e none t24 h29) fun v=>(fun u (g1:Heap) (y1:Esc)=>u=t25∧g1=h29∧y1=[]) v h29 [])∧(pK (z0d 6 none t13) fun t31=>
 wK (z0m none t31 t23 h29) fun t32 h33 y34=>
 (pK (z0e none t24 h33) fun v=>(fun u (g1:Heap) (y1:Esc)=>u=t25∧g1=h33∧y1=[]) v h33 [])∧(pK (z0d 7 none t13) fun t35=>
 wK (z0m none t35 t25 h33) fun t36 h37 y38=>
 NW C gl q1 ⟨[(1,t1),(3,t13),(4,t28)],h37,(y38++(y34++(y30++(y18++(y15++(y3++x))))))⟩ K))))
 (pK (z0d 4 none t1) fun t39=>
 pK (z0e none t39 h17) fun t40=>
 pK (z0d 4 none t1) fun t41=>
 pK (z0e none t41 h17) fun t42=>
 z19 C z3n [t42] h17 fun t43 h44 y45=>
 (pK (z0e none t39 h44) fun v=>(fun u (g1:Heap) (y1:Esc)=>u=t40∧g1=h44∧y1=[]) v h44 [])∧(pK (z0d 4 none t13) fun t46=>
 wK (z0m none t46 t40 h44) fun t47 h48 y49=>
 pK (z0d 3 none t1) fun t50=>
 pK (z0e none t50 h48) fun t51=>
 pK (oBin .eql t51 (AI 2)) fun t52=>
 z0k t52 (pK (z0d 5 none t1) fun t53=>
 pK (z0e none t53 h48) fun t54=>
 gP t43 true (z0d 5 none t1) h48 fun t55 h56 y57=>
 gP t43 true (z0e none t55 h56) h56 fun t58 h59 y60=>
 gV t43 true h59 (z19 C z3n [t58] h59) fun t61 h62 y63=>
 (pK (z0e none t53 h62) fun v=>(fun u (g1:Heap) (y1:Esc)=>u=t54∧g1=h62∧y1=[]) v h62 [])∧(pK (z0O t43 t61 (AB false)) fun t64=>
 pK (z0d 5 none t13) fun t65=>
 wK (z0m none t65 t54 h62) fun t66 h67 y68=>
 NW C gl q1 ⟨[(1,t1),(3,t13),(4,t64)],h67,(y68++(y63++(y60++(y57++(y49++(y45++(y18++(y15++(y3++x)))))))))⟩ K))
 (NW C gl q1 ⟨[(1,t1),(3,t13),(4,t43),(34,t52)],h48,(y49++(y45++(y18++(y15++(y3++x)))))⟩ K)))
theorem E_q03z {C gl q1 v0 h x K}:NW C gl (zrr q1) ⟨enter [v0],h,x⟩ K=z6c C gl q1 v0 h x K:=by kernel_rfl
theorem e_q03z {C gl v0 h x K}:NW C gl zis.body ⟨enter [v0],h,x⟩ K=z6c C gl z5n v0 h x K:=E_q03z
def P_q05h:ACode:=(.seq (rg [mV 4 cF] [0,1])
(.seq (rg [mV 5 0,
mV 6 1,
cL 7 z8Y [5,6],
bN 8 .geq 7 (cI 0),
mV 4 8] [4])
.ret))
def zi1:AFun:=⟨2,[.t 4],P_q05h,true,false⟩
def zjv (C:Hd) (gl:GL) (v0 v1:AV) (h:Heap) (x:Esc) (K:KT):Prop:=
 C z8Y [v0,v1] h fun t1 h2 y3=>
 pK (oBin .geq t1 (AI 0)) fun t4=>
 K .ret ⟨[(4,t4)],h2,(y3++x)⟩
theorem e_q05h {C gl v0 v1 h x K}:NW C gl zi1.body ⟨enter [v0,v1],h,x⟩ K=zjv C gl v0 v1 h x K:=by kernel_rfl
def P_q03w:ACode:=(.seq (rg [uO 2 (.box 0),
mV 3 cF] [1,2])
(.seq (rg [lD 4 (some 8) 2,
lD 5 (some 8) 1,
cL 6 z8V [4,5],
mV 3 6] [3])
.ret))
def zir:AFun:=⟨2,[.t 3],P_q03w,false,false⟩
def zjr (C:Hd) (gl:GL) (v0 v1:AV) (h:Heap) (x:Esc) (K:KT):Prop:=
 wK (oBox v0 h) fun t1 h2 y3=>
 pK (z0e (some 8) t1 h2) fun t4=>
 pK (z0e (some 8) v1 h2) fun t5=>
 C z8V [t4,t5] h2 fun t6 h7 y8=>
 K .ret ⟨[(3,t6)],h7,(y8++(y3++x))⟩
theorem e_q03w {C gl v0 v1 h x K}:NW C gl zir.body ⟨enter [v0,v1],h,x⟩ K=zjr C gl v0 v1 h x K:=by kernel_rfl
def P_q056:ACode:=(.seq (rg [uO 2 (.box 0),
uO 3 (.box 1),
mV 4 cF] [2,3])
(.seq (rg [fA 5 0 none 2,
lD 6 none 5,
fA 7 0 none 3,
lD 8 none 7,
bN 9 .eql 6 8,
mV 10 9,
gD 11 10 true (.faddr 1 none 2),
gD 12 10 true (.load none 11),
gD 13 10 true (.faddr 1 none 3),
gD 14 10 true (.load none 13),
gD 15 10 true (.bin .eql 12 14),
uO 16 (.pick 10 15 cF),
mV 4 16] [4])
.ret))
def ziy:AFun:=⟨2,[.t 4],P_q056,false,false⟩
def ze1 (C:Hd) (gl:GL) (v0 v1:AV) (h:Heap) (x:Esc) (K:KT):Prop:=
 wK (oBox v0 h) fun t1 h2 y3=>
 wK (oBox v1 h2) fun t4 h5 y6=>
 pK (z0d 0 none t1) fun t7=>
 pK (z0e none t7 h5) fun t8=>
 pK (z0d 0 none t4) fun t9=>
 pK (z0e none t9 h5) fun t10=>
 pK (oBin .eql t8 t10) fun t11=>
 gP t11 true (z0d 1 none t1) h5 fun t12 h13 y14=>
 gP t11 true (z0e none t12 h13) h13 fun t15 h16 y17=>
 gP t11 true (z0d 1 none t4) h16 fun t18 h19 y20=>
 gP t11 true (z0e none t18 h19) h19 fun t21 h22 y23=>
 gP t11 true (oBin .eql t15 t21) h22 fun t24 h25 y26=>
 pK (z0O t11 t24 (AB false)) fun t27=>
 K .ret ⟨[(4,t27)],h25,(y26++(y23++(y20++(y17++(y14++(y6++(y3++x)))))))⟩
theorem e_q056 {C gl v0 v1 h x K}:NW C gl ziy.body ⟨enter [v0,v1],h,x⟩ K=ze1 C gl v0 v1 h x K:=by kernel_rfl
def P_q046:ACode:=(.seq (rg [mV 2 cF] [0])
(.seq (rg [mV 3 0,
cL 4 z2d [3,(cI 0),(cI 345686399999)],
mV 2 4] [2])
.ret))
def ziv:AFun:=⟨1,[.t 2],P_q046,false,false⟩
def zjs (C:Hd) (gl:GL) (v0:AV) (h:Heap) (x:Esc) (K:KT):Prop:=
 C z2d [v0,(AI 0),(AI 345686399999)] h fun t1 h2 y3=>
 K .ret ⟨[(2,t1)],h2,(y3++x)⟩
theorem e_q046 {C gl v0 h x K}:NW C gl ziv.body ⟨enter [v0],h,x⟩ K=zjs C gl v0 h x K:=by kernel_rfl
def P_q043:ACode:=(.seq (rg [mV 2 cF] [0])
(.seq (rg [mV 3 0,
uO 4 (.lens 3),
cL 5 z2d [4,(cI 1),(cI 40)],
mV 6 5,
gD 7 6 true (.mv 0),
gD 8 6 true (.slstr 7 none (some (cI 1))),
gD 9 6 true (.call z6j [8,(cS [97,98,99,100,101,102,103,104,105,106,107,108,109,110,111,112,113,114,115,116,117,118,119,120,121,122])]),
uO 10 (.pick 6 9 cF),
mV 11 10,
gD 12 11 true (.mv 0),
gD 13 11 true (.call z6j [12,(cS [97,98,99,100,101,102,103,104,105,106,107,108,109,110,111,112,113,114,115,116,117,118,119,120,121,122,48,49,50,51,52,53,54,55,56,57,45,95])]),
uO 14 (.pick 11 13 cF),
mV 2 14] [2])
.ret))
def ziu:AFun:=⟨1,[.t 2],P_q043,false,false⟩
def z8J (C:Hd) (gl:GL) (v0:AV) (h:Heap) (x:Esc) (K:KT):Prop:=
 pK (zdm v0) fun t1=>
 C z2d [t1,(AI 1),(AI 40)] h fun t2 h3 y4=>
 gM t2 true v0 h3 fun t5 h6 y7=>
 gP t2 true (zfq t5 none (some (AI 1))) h6 fun t8 h9 y10=>
 gV t2 true h9 (C z6j [t8,(.p (.str [97,98,99,100,101,102,103,104,105,106,107,108,109,110,111,112,113,114,115,116,117,118,119,120,121,122]))] h9) fun t11 h12 y13=>
 pK (z0O t2 t11 (AB false)) fun t14=>
 gM t14 true v0 h12 fun t15 h16 y17=>
 gV t14 true h16 (C z6j [t15,(.p (.str [97,98,99,100,101,102,103,104,105,106,107,108,109,110,111,112,113,114,115,116,117,118,119,120,121,122,48,49,50,51,52,53,54,55,56,57,45,95]))] h16) fun t18 h19 y20=>
 pK (z0O t14 t18 (AB false)) fun t21=>
 K .ret ⟨[(2,t21)],h19,(y20++(y17++(y13++(y10++(y7++(y4++x))))))⟩
theorem e_q043 {C gl v0 h x K}:NW C gl ziu.body ⟨enter [v0],h,x⟩ K=z8J C gl v0 h x K:=by kernel_rfl
def P_q05k:ACode:=(.seq (rg [mV 4 cF] [0,1])
(.seq (rg [mV 5 0,
mV 6 1,
cL 7 z4S [5,6],
bN 8 .geq 7 (cI 0),
mV 4 8] [4])
.ret))
def zdL:AFun:=⟨2,[.t 4],P_q05k,true,false⟩
def zjx (C:Hd) (gl:GL) (v0 v1:AV) (h:Heap) (x:Esc) (K:KT):Prop:=
 C z4S [v0,v1] h fun t1 h2 y3=>
 pK (oBin .geq t1 (AI 0)) fun t4=>
 K .ret ⟨[(4,t4)],h2,(y3++x)⟩
theorem e_q05k {C gl v0 v1 h x K}:NW C gl zdL.body ⟨enter [v0,v1],h,x⟩ K=zjx C gl v0 v1 h x K:=by kernel_rfl
def P_q057:ACode:=(.seq (rg [mV 2 (cI 0)] [0])
(.seq (.block 0 (.seq (rg [mV 4 0,
bN 5 .lss 4 (cI 0),
mV 3 5] [0,3])
(.cond 3 (.seq (rg [mV 2 (cI (-1))] [2])
.ret)
(.seq (rg [mV 7 0,
bN 8 .gtr 7 (cI 0),
mV 6 8] [6])
(.cond 6 (.seq (rg [mV 2 (cI 1)] [2])
.ret)
.skip)))))
(.seq (rg [mV 2 (cI 0)] [2])
.ret)))
def ziz:AFun:=⟨1,[.t 2],P_q057,false,false⟩
def zbn (C:Hd) (gl:GL) (v0:AV) (h:Heap) (x:Esc) (K:KT):Prop:=
 pK (oBin .lss v0 (AI 0)) fun t1=>
 z0k t1 (K .ret ⟨[(2,(AI (-1)))],h,x⟩)
 (pK (oBin .gtr v0 (AI 0)) fun t2=>
 z0k t2 (K .ret ⟨[(2,(AI 1))],h,x⟩)
 (K .ret ⟨[(2,(AI 0))],h,x⟩))
theorem e_q057 {C gl v0 h x K}:NW C gl ziz.body ⟨enter [v0],h,x⟩ K=zbn C gl v0 h x K:=by kernel_rfl
def z5h:ACode:=.pr [0] (.seq (rg [mV 15 0,
mV 4 15] [4])
.ret)
def zba (C:Hd) (gl:GL) (v0:AV) (h:Heap) (x:Esc) (K:KT):Prop:=
 K .ret ⟨[(4,v0)],h,x⟩
theorem zjS {C gl e h x K}:NW C gl z5h ⟨e,h,x⟩ K=zba C gl (aget e 0) h x K:=by kernel_rfl
def zrn (q1:ACode):ACode:=(.seq (rg [mV 4 (cI 0)] [0,1])
(.seq (.seq (rg [mV 5 1,
bN 6 .lss 5 (cI 1)] [0,1,6])
(.cond 6 (.seq (rg [mV 4 (cI 0)] [4])
.ret)
.skip))
(.seq (rg [mV 7 0,
mV 8 1,
bN 9 .rem 7 8,
mV 0 9] [0,1])
(.seq (.seq (rg [mV 10 0,
bN 11 .lss 10 (cI 0)] [0,1,11])
(.cond 11 (rg [mV 12 0,
mV 13 1,
bN 14 .add 12 13,
mV 0 14] [0])
.skip))
q1))))
def zif:AFun:=⟨2,[.t 4],zrn z5h,false,false⟩
def zew (C:Hd) (gl:GL) (q1:ACode) (v0 v1:AV) (h:Heap) (x:Esc) (K:KT):Prop:=
 pK (oBin .lss v1 (AI 1)) fun t1=>
 z0k t1 (K .ret ⟨[(4,(AI 0))],h,x⟩)
 (pK (oBin .rem v0 v1) fun t2=>
 pK (oBin .lss t2 (AI 0)) fun t3=>
 z0k t3 (pK (oBin .add t2 v1) fun t4=>
 NW C gl q1 ⟨[(0,t4)],h,x⟩ K)
 (NW C gl q1 ⟨[(0,t2),(1,v1),(11,t3)],h,x⟩ K))
theorem E_q039 {C gl q1 v0 v1 h x K}:NW C gl (zrn q1) ⟨enter [v0,v1],h,x⟩ K=zew C gl q1 v0 v1 h x K:=by kernel_rfl
theorem e_q039 {C gl v0 v1 h x K}:NW C gl zif.body ⟨enter [v0,v1],h,x⟩ K=zew C gl z5h v0 v1 h x K:=E_q039
def P_q00v:ACode:=(.seq (rg [mV 2 cF] [0])
(.seq (rg [mV 3 0,
mV 4 0,
bN 5 .neq 3 4,
mV 2 5] [2])
.ret))
def zdI:AFun:=⟨1,[.t 2],P_q00v,false,false⟩
def zjj (C:Hd) (gl:GL) (v0:AV) (h:Heap) (x:Esc) (K:KT):Prop:=
 pK (oBin .neq v0 v0) fun t1=>
 K .ret ⟨[(2,t1)],h,x⟩
theorem e_q00v {C gl v0 h x K}:NW C gl zdI.body ⟨enter [v0],h,x⟩ K=zjj C gl v0 h x K:=by kernel_rfl
def P_q01b:ACode:=(.seq (rg [mV 4 (cI 0)] [0,1])
(.seq (rg [mV 5 0,
mV 6 1,
cL 7 z0g [5,6],
mV 4 7] [4])
.ret))
def zdJ:AFun:=⟨2,[.t 4],P_q01b,false,false⟩
def zjk (C:Hd) (gl:GL) (v0 v1:AV) (h:Heap) (x:Esc) (K:KT):Prop:=
 C z0g [v0,v1] h fun t1 h2 y3=>
 K .ret ⟨[(4,t1)],h2,(y3++x)⟩
theorem e_q01b {C gl v0 v1 h x K}:NW C gl zdJ.body ⟨enter [v0,v1],h,x⟩ K=zjk C gl v0 v1 h x K:=by kernel_rfl
def P_q050:ACode:=(.seq (rg [mV 6 cF] [0,1,2])
(.seq (rg [mV 7 1,
mV 8 0,
bN 9 .leq 7 8,
mV 10 9,
gD 11 10 true (.mv 0),
gD 12 10 true (.mv 2),
gD 13 10 true (.bin .leq 11 12),
uO 14 (.pick 10 13 cF),
mV 6 14] [6])
.ret))
def ziw:AFun:=⟨3,[.t 6],P_q050,false,false⟩
def zjt (C:Hd) (gl:GL) (v0 v1 v2:AV) (h:Heap) (x:Esc) (K:KT):Prop:=
 pK (oBin .leq v1 v0) fun t1=>
 gM t1 true v0 h fun t2 h3 y4=>
 gM t1 true v2 h3 fun t5 h6 y7=>
 gP t1 true (oBin .leq t2 t5) h6 fun t8 h9 y10=>
 pK (z0O t1 t8 (AB false)) fun t11=>
 K .ret ⟨[(6,t11)],h9,(y10++(y7++(y4++x)))⟩
theorem e_q050 {C gl v0 v1 v2 h x K}:NW C gl ziw.body ⟨enter [v0,v1,v2],h,x⟩ K=zjt C gl v0 v1 v2 h x K:=by kernel_rfl
def P_q00a:ACode:=(.seq (rg [mV 6 cF] [0,1,2])
(.seq (rg [mV 7 0,
mV 8 1,
bN 9 .lss 7 8,
mV 10 9,
gD 11 10 false (.mv 0),
gD 12 10 false (.mv 2),
gD 13 10 false (.bin .gtr 11 12),
uO 14 (.pick 10 cT 13),
mV 6 14] [6])
.ret))
def zdF:AFun:=⟨3,[.t 6],P_q00a,false,false⟩
def zji (C:Hd) (gl:GL) (v0 v1 v2:AV) (h:Heap) (x:Esc) (K:KT):Prop:=
 pK (oBin .lss v0 v1) fun t1=>
 gM t1 false v0 h fun t2 h3 y4=>
 gM t1 false v2 h3 fun t5 h6 y7=>
 gP t1 false (oBin .gtr t2 t5) h6 fun t8 h9 y10=>
 pK (z0O t1 (AB true) t8) fun t11=>
 K .ret ⟨[(6,t11)],h9,(y10++(y7++(y4++x)))⟩
theorem e_q00a {C gl v0 v1 v2 h x K}:NW C gl zdF.body ⟨enter [v0,v1,v2],h,x⟩ K=zji C gl v0 v1 v2 h x K:=by kernel_rfl
def z2G:ACode:=.pr [0,1,7,8] (.seq (rg [bN 9 .lss 8 7] [0,1,7,8,9])
(.seq (.cond 9 .skip
(.exit 0))
(.seq (.block 1 (.seq (rg [mV 10 8,
mV 5 10] [0,1,5,7,8])
(.seq (rg [mV 11 1,
mV 12 0,
mV 13 5,
uO 14 (.idxs 12 13),
cL 15 z9c [11,14],
bN 16 .lss 15 (cI 0)] [0,1,7,8,16])
(.cond 16 (.seq (rg [mV 4 cF] [4])
.ret)
.skip))))
(rg [bN 17 .add 8 (cI 1),
mV 8 17] [0,1,7,8]))))
def zbl (C:Hd) (gl:GL) (v0 v1 v7 v8:AV) (h:Heap) (x:Esc) (K:KT):Prop:=
 pK (oBin .lss v8 v7) fun t1=>
 z0k t1 (pK (zck v0 v8) fun t2=>
 C z9c [v1,t2] h fun t3 h4 y5=>
 pK (oBin .lss t3 (AI 0)) fun t6=>
 z0k t6 (K .ret ⟨[(4,(AB false))],h4,(y5++x)⟩)
 (pK (oBin .add v8 (AI 1)) fun t7=>
 K .normal ⟨[(0,v0),(1,v1),(7,v7),(8,t7)],h4,(y5++x)⟩))
 (K (.exit 0) ⟨[(0,v0),(1,v1),(7,v7),(8,v8),(9,t1)],h,x⟩)
theorem zkd {C gl e h x K}:NW C gl z2G ⟨e,h,x⟩ K=zbl C gl (aget e 0) (aget e 1) (aget e 7) (aget e 8) h x K:=by kernel_rfl
theorem zlH {C gl e h x K}:NW C gl (.loop z2G) ⟨e,h,x⟩ K=z1s C gl z2G K [(0,aget e 0),(1,aget e 1),(7,aget e 7),(8,aget e 8)] h x:=z0H
def z5o:ACode:=.pr [] (.seq (rg [mV 4 cT] [4])
.ret)
def zbm (C:Hd) (gl:GL) (h:Heap) (x:Esc) (K:KT):Prop:=
 K .ret ⟨[(4,(AB true))],h,x⟩
theorem zke {C gl e h x K}:NW C gl z5o ⟨e,h,x⟩ K=zbm C gl h x K:=by kernel_rfl
def zrs (q1 q2:ACode):ACode:=(.seq (rg [mV 4 cF] [0,1])
(.seq (.seq (rg [mV 6 0,
uO 7 (.lens 6),
mV 8 (cI 0)] [0,1,7,8])
(.block 0 (.loop q1)))
q2))
def zix:AFun:=⟨2,[.t 4],zrs z2G z5o,false,false⟩
def ze0 (C:Hd) (gl:GL) (q1 q2:ACode) (v0 v1:AV) (h:Heap) (x:Esc) (K:KT):Prop:=
 pK (zdm v0) fun t1=>
 NW C gl (.loop q1) ⟨[(0,v0),(1,v1),(7,t1),(8,(AI 0))],h,x⟩ (z0w 0 (seqN C gl q2 K))
theorem E_q051 {C gl q1 q2 v0 v1 h x K}:NW C gl (zrs q1 q2) ⟨enter [v0,v1],h,x⟩ K=ze0 C gl q1 q2 v0 v1 h x K:=by kernel_rfl
theorem e_q051 {C gl v0 v1 h x K}:NW C gl zix.body ⟨enter [v0,v1],h,x⟩ K=ze0 C gl z2G z5o v0 v1 h x K:=E_q051
def z29:ACode:=.pr [5,6,7] (.seq (rg [bN 8 .lss 7 6] [5,6,7,8])
(.seq (.cond 8 .skip
(.exit 0))
(.seq (.block 1 (.seq (rg [iA 9 none 5 7,
lD 10 none 9,
mV 4 10] [4,5,6,7])
(.seq (rg [mV 11 4,
bN 12 .neq 11 (cI 0)] [4,5,6,7,12])
(.cond 12 (.seq (rg [mV 13 4,
mV 2 13] [2])
.ret)
.skip))))
(rg [bN 14 .add 7 (cI 1),
mV 7 14] [5,6,7]))))
def zaQ (C:Hd) (gl:GL) (v5 v6 v7:AV) (h:Heap) (x:Esc) (K:KT):Prop:=
 pK (oBin .lss v7 v6) fun t1=>
 z0k t1 (pK (z0y none v5 v7 h) fun t2=>
 pK (z0e none t2 h) fun t3=>
 pK (oBin .neq t3 (AI 0)) fun t4=>
 z0k t4 (K .ret ⟨[(2,t3)],h,x⟩)
 (pK (oBin .add v7 (AI 1)) fun t5=>
 K .normal ⟨[(5,v5),(6,v6),(7,t5)],h,x⟩))
 (K (.exit 0) ⟨[(5,v5),(6,v6),(7,v7),(8,t1)],h,x⟩)
theorem zjI {C gl e h x K}:NW C gl z29 ⟨e,h,x⟩ K=zaQ C gl (aget e 5) (aget e 6) (aget e 7) h x K:=by kernel_rfl
theorem zl8 {C gl e h x K}:NW C gl (.loop z29) ⟨e,h,x⟩ K=z1s C gl z29 K [(5,aget e 5),(6,aget e 6),(7,aget e 7)] h x:=z0H
def z5e:ACode:=.pr [] (.seq (rg [mV 2 (cI 0)] [2])
.ret)
def zaR (C:Hd) (gl:GL) (h:Heap) (x:Esc) (K:KT):Prop:=
 K .ret ⟨[(2,(AI 0))],h,x⟩
theorem zjJ {C gl e h x K}:NW C gl z5e ⟨e,h,x⟩ K=zaR C gl h x K:=by kernel_rfl
def zrj (q1 q2:ACode):ACode:=(.seq (rg [mV 2 (cI 0)] [0])
(.seq (.seq (rg [mV 5 0,
lN 6 5,
mV 7 (cI 0)] [5,6,7])
(.block 0 (.loop q1)))
q2))
def zdC:AFun:=⟨1,[.t 2],zrj z29 z5e,false,false⟩
def zet (C:Hd) (gl:GL) (q1 q2:ACode) (v0:AV) (h:Heap) (x:Esc) (K:KT):Prop:=
 pK (oLen v0) fun t1=>
 NW C gl (.loop q1) ⟨[(5,v0),(6,t1),(7,(AI 0))],h,x⟩ (z0w 0 (seqN C gl q2 K))
theorem E_q002 {C gl q1 q2 v0 h x K}:NW C gl (zrj q1 q2) ⟨enter [v0],h,x⟩ K=zet C gl q1 q2 v0 h x K:=by kernel_rfl
theorem e_q002 {C gl v0 h x K}:NW C gl zdC.body ⟨enter [v0],h,x⟩ K=zet C gl z29 z5e v0 h x K:=E_q002
def z2N:ACode:=.pr [1,16,17,18] (.seq (rg [bN 19 .lss 18 17] [1,16,17,18,19])
(.seq (.cond 19 .skip
(.exit 1))
(.seq (.block 2 (.seq (rg [mV 20 18,
iA 21 none 16 18,
lD 22 none 21,
mV 3 20,
mV 4 22] [1,3,4,16,17,18])
(.block 3 (.seq (rg [mV 24 4,
cL 25 z1y [24],
uO 26 (.un .not 25),
mV 23 26] [1,3,4,16,17,18,23])
(.cond 23 (.seq (rg [mV 2 (cI 5)] [2])
.ret)
(.seq (rg [fA 28 0 none 1,
lD 29 none 28,
mV 30 3,
uO 31 (.slice none 29 none (some 30) none),
mV 32 4,
cL 33 z6l [31,32],
mV 27 33] [1,16,17,18,27])
(.cond 27 (.seq (rg [mV 2 (cI 6)] [2])
.ret)
.skip)))))))
(rg [bN 34 .add 18 (cI 1),
mV 18 34] [1,16,17,18]))))
def zb2 (C:Hd) (gl:GL) (v1 v16 v17 v18:AV) (h:Heap) (x:Esc) (K:KT):Prop:=
 pK (oBin .lss v18 v17) fun t1=>
 z0k t1 (pK (z0y none v16 v18 h) fun t2=>
 pK (z0e none t2 h) fun t3=>
 C z1y [t3] h fun t4 h5 y6=>
 pK (oUn .not t4) fun t7=>
 z0k t7 (K .ret ⟨[(2,(AI 5))],h5,(y6++x)⟩)
 (pK (z0d 0 none v1) fun t8=>
 pK (z0e none t8 h5) fun t9=>
 pK (z4k none t9 none (some v18) none h5) fun t10=>
 C z6l [t10,t3] h5 fun t11 h12 y13=>
 z0k t11 (K .ret ⟨[(2,(AI 6))],h12,(y13++(y6++x))⟩)
 (pK (oBin .add v18 (AI 1)) fun t14=>
 K .normal ⟨[(1,v1),(16,v16),(17,v17),(18,t14)],h12,(y13++(y6++x))⟩)))
 (K (.exit 1) ⟨[(1,v1),(16,v16),(17,v17),(18,v18),(19,t1)],h,x⟩)
theorem zkw {C gl e h x K}:NW C gl z2N ⟨e,h,x⟩ K=zb2 C gl (aget e 1) (aget e 16) (aget e 17) (aget e 18) h x K:=by kernel_rfl
theorem zlR {C gl e h x K}:NW C gl (.loop z2N) ⟨e,h,x⟩ K=z1s C gl z2N K [(1,aget e 1),(16,aget e 16),(17,aget e 17),(18,aget e 18)] h x:=z0H
def z5u:ACode:=.pr [1] (.seq (.seq (rg [fA 35 1 none 1,
lD 36 none 35,
cL 37 z0N [36,(cI 1),(cI 10)]] [37])
(.cond 37 (.seq (rg [mV 2 (cI 1)] [2])
.ret)
.skip))
(.seq (rg [mV 2 (cI 0)] [2])
.ret))
def z4H (C:Hd) (gl:GL) (v1:AV) (h:Heap) (x:Esc) (K:KT):Prop:=
 pK (z0d 1 none v1) fun t1=>
 pK (z0e none t1 h) fun t2=>
 C z0N [t2,(AI 1),(AI 10)] h fun t3 h4 y5=>
 z0k t3 (K .ret ⟨[(2,(AI 1))],h4,(y5++x)⟩)
 (K .ret ⟨[(2,(AI 0))],h4,(y5++x)⟩)
theorem z7n {C gl e h x K}:NW C gl z5u ⟨e,h,x⟩ K=z4H C gl (aget e 1) h x K:=by kernel_rfl
def zrz (q1 q2:ACode):ACode:=(.seq (rg [uO 1 (.box 0),
mV 2 (cI 0)] [1])
(.seq (.block 0 (.seq (rg [fA 6 0 none 1,
lD 7 none 6,
lN 8 7,
bN 9 .eql 8 (cI 0),
mV 5 9] [1,5])
(.cond 5 (.seq (rg [mV 2 (cI 8)] [2])
.ret)
(.seq (rg [fA 11 0 none 1,
lD 12 none 11,
lN 13 12,
bN 14 .gtr 13 (cI 20),
mV 10 14] [1,10])
(.cond 10 (.seq (rg [mV 2 (cI 2)] [2])
.ret)
.skip)))))
(.seq (.seq (rg [fA 15 0 none 1,
lD 16 none 15,
lN 17 16,
mV 18 (cI 0)] [1,16,17,18])
(.block 1 (.loop q1)))
q2)))
def zdP:AFun:=⟨1,[.t 2],zrz z2N z5u,false,false⟩
def z8K (C:Hd) (gl:GL) (q1 q2:ACode) (v0:AV) (h:Heap) (x:Esc) (K:KT):Prop:=
 wK (oBox v0 h) fun t1 h2 y3=>
 pK (z0d 0 none t1) fun t4=>
 pK (z0e none t4 h2) fun t5=>
 pK (oLen t5) fun t6=>
 pK (oBin .eql t6 (AI 0)) fun t7=>
 z0k t7 (K .ret ⟨[(2,(AI 8))],h2,(y3++x)⟩)
 (pK (z0d 0 none t1) fun t8=>
 pK (z0e none t8 h2) fun t9=>
 pK (oLen t9) fun t10=>
 pK (oBin .gtr t10 (AI 20)) fun t11=>
 z0k t11 (K .ret ⟨[(2,(AI 2))],h2,(y3++x)⟩)
 (pK (z0d 0 none t1) fun t12=>
 pK (z0e none t12 h2) fun t13=>
 pK (oLen t13) fun t14=>
 NW C gl (.loop q1) ⟨[(1,t1),(16,t13),(17,t14),(18,(AI 0))],h2,(y3++x)⟩ (z0w 1 (seqN C gl q2 K))))
theorem E_q07r {C gl q1 q2 v0 h x K}:NW C gl (zrz q1 q2) ⟨enter [v0],h,x⟩ K=z8K C gl q1 q2 v0 h x K:=by kernel_rfl
theorem e_q07r {C gl v0 h x K}:NW C gl zdP.body ⟨enter [v0],h,x⟩ K=z8K C gl z2N z5u v0 h x K:=E_q07r
def P_q08e:ACode:=(.seq (rg [mV 2 (cI 0)] [0])
(.seq (.seq (rg [mV 3 0,
cL 4 z4O [3],
uO 5 (.un .not 4)] [5])
(.cond 5 (.seq (rg [mV 2 (cI 1)] [2])
.ret)
.skip))
(.seq (rg [mV 2 (cI 0)] [2])
.ret)))
def zea:AFun:=⟨1,[.t 2],P_q08e,false,false⟩
def zeB (C:Hd) (gl:GL) (v0:AV) (h:Heap) (x:Esc) (K:KT):Prop:=
 C z4O [v0] h fun t1 h2 y3=>
 pK (oUn .not t1) fun t4=>
 z0k t4 (K .ret ⟨[(2,(AI 1))],h2,(y3++x)⟩)
 (K .ret ⟨[(2,(AI 0))],h2,(y3++x)⟩)
theorem e_q08e {C gl v0 h x K}:NW C gl zea.body ⟨enter [v0],h,x⟩ K=zeB C gl v0 h x K:=by kernel_rfl
def z7R:ACode:=.pr [0,3,4,5] (rg [mV 16 5,
bN 17 .sub 16 (cI 1),
mV 5 17] [0,3,4,5])
def zb3 (C:Hd) (gl:GL) (v0 v3 v4 v5:AV) (h:Heap) (x:Esc) (K:KT):Prop:=
 pK (oBin .sub v5 (AI 1)) fun t1=>
 K .normal ⟨[(0,v0),(3,v3),(4,v4),(5,t1)],h,x⟩
theorem zkx {C gl e h x K}:NW C gl z7R ⟨e,h,x⟩ K=zb3 C gl (aget e 0) (aget e 3) (aget e 4) (aget e 5) h x K:=by kernel_rfl
def za5 (q1:ACode):ACode:=.pr [0,3,4,5] (.seq (.seq (rg [mV 14 5,
bN 15 .geq 14 (cI 0)] [0,3,4,5,15])
(.cond 15 .skip
(.exit 0)))
(.seq (.block 1 (.seq (rg [mV 18 0,
mV 19 5,
iA 20 (some 8) 18 19,
lD 21 (some 8) 20,
uO 6 (.alloc [.p (.str []),.p (.int .i64 0),.p (.int .i64 0),.p (.int .i64 0),.p (.str []),.p (.str []),.p (.str []),.p (.int .i64 0)]),
wO (.store (some 8) 6 21)] [0,3,4,5,6])
(.seq (rg [mV 22 4,
mV 23 5,
mV 24 3,
fA 25 0 none 6,
lD 26 none 25,
fA 27 1 none 6,
lD 28 none 27,
uO 29 (.build [.p (.str []),.p (.int .i64 0)] [(0,1,26),(1,1,28)]),
uO 30 (.look ((some 2),[2,0]) false (AB false) 24 29),
uO 31 (.un .not 30),
iA 32 none 22 23,
wO (.store none 32 31)] [0,3,4,5,6])
(.seq (rg [mV 33 4,
mV 34 5,
iA 35 none 33 34,
lD 36 none 35,
mV 37 36,
gD 38 37 true (.faddr 3 none 6),
gD 39 37 true (.load none 38),
gD 40 37 true (.bin .eql 39 (cI 7)),
uO 41 (.pick 37 40 cF)] [0,3,4,5,6,41])
(.cond 41 (rg [mV 42 3,
fA 43 6 none 6,
lD 44 none 43,
fA 45 7 none 6,
lD 46 none 45,
uO 47 (.build [.p (.str []),.p (.int .i64 0)] [(0,1,44),(1,1,46)]),
wO (.mupd ((some 2),[2,0]) 42 47 cT)] [0,3,4,5])
.skip)))))
q1))
def z2O:ACode:=za5 z7R
def z7c (C:Hd) (gl:GL) (q1:ACode) (v0 v3 v4 v5:AV) (h:Heap) (x:Esc) (K:KT):Prop:=
 pK (oBin .geq v5 (AI 0)) fun t1=>
 z0k t1 (pK (z0y (some 8) v0 v5 h) fun t2=>
 pK (z0e (some 8) t2 h) fun t3=>
 alK [.p (.str []),.p (.int .i64 0),.p (.int .i64 0),.p (.int .i64 0),.p (.str []),.p (.str []),.p (.str []),.p (.int .i64 0)] h fun t4 h5 y6=>
 wK (z0m (some 8) t4 t3 h5) fun t7 h8 y9=>
 pK (z0d 0 none t4) fun t10=>
 pK (z0e none t10 h8) fun t11=>
 pK (z0d 1 none t4) fun t12=>
 pK (z0e none t12 h8) fun t13=>
 pK (z07 [.p (.str []),.p (.int .i64 0)] [(0,1,t11),(1,1,t13)]) fun t14=>
 pK (z1o ((some 2),[2,0]) false (AB false) v3 t14 h8) fun t15=>
 pK (oUn .not t15) fun t16=>
 pK (z0y none v4 v5 h8) fun t17=>
 wK (z0m none t17 t16 h8) fun t18 h19 y20=>
 pK (z0y none v4 v5 h19) fun t21=>
 pK (z0e none t21 h19) fun t22=>
 gP t22 true (z0d 3 none t4) h19 fun t23 h24 y25=>
 gP t22 true (z0e none t23 h24) h24 fun t26 h27 y28=>
 gP t22 true (oBin .eql t26 (AI 7)) h27 fun t29 h30 y31=>
 pK (z0O t22 t29 (AB false)) fun t32=>
 z0k t32 (pK (z0d 6 none t4) fun t33=>
 pK (z0e none t33 h30) fun t34=>
 pK (z0d 7 none t4) fun t35=>
 pK (z0e none t35 h30) fun t36=>
 pK (z07 [.p (.str []),.p (.int .i64 0)] [(0,1,t34),(1,1,t36)]) fun t37=>
 wK (z15 ((some 2),[2,0]) v3 t37 (AB true) h30) fun t38 h39 y40=>
 NW C gl q1 ⟨[(0,v0),(3,v3),(4,v4),(5,v5)],h39,(y40++(y31++(y28++(y25++(y20++(y9++(y6++x)))))))⟩ K)
 (NW C gl q1 ⟨[(0,v0),(3,v3),(4,v4),(5,v5),(6,t4),(41,t32)],h30,(y31++(y28++(y25++(y20++(y9++(y6++x))))))⟩ K))
 (K (.exit 0) ⟨[(0,v0),(3,v3),(4,v4),(5,v5),(15,t1)],h,x⟩)
theorem zh7 {C gl q1 e h x K}:NW C gl (za5 q1) ⟨e,h,x⟩ K=z7c C gl q1 (aget e 0) (aget e 3) (aget e 4) (aget e 5) h x K:=by kernel_rfl
theorem zky {C gl e h x K}:NW C gl z2O ⟨e,h,x⟩ K=z7c C gl z7R (aget e 0) (aget e 3) (aget e 4) (aget e 5) h x K:=zh7
theorem zlS {C gl e h x K}:NW C gl (.loop (.scope z2O)) ⟨e,h,x⟩ K=z1s C gl (.scope z2O) K [(0,aget e 0),(3,aget e 3),(4,aget e 4),(5,aget e 5)] h x:=z1S
def z5v:ACode:=.pr [4] (.seq (rg [mV 48 4,
mV 2 48] [2])
.ret)
def zb4 (C:Hd) (gl:GL) (v4:AV) (h:Heap) (x:Esc) (K:KT):Prop:=
 K .ret ⟨[(2,v4)],h,x⟩
theorem zkz {C gl e h x K}:NW C gl z5v ⟨e,h,x⟩ K=zb4 C gl (aget e 4) h x K:=by kernel_rfl
def zr0 (q2 q3:ACode):ACode:=(.seq (rg [mV 2 (.c (.p (.sl none [])))] [0])
(.seq (rg [uO 7 (.mkmap),
mV 3 7] [0,3])
(.seq (rg [mV 8 0,
lN 9 8,
uO 10 (.mksl none (.bool false) 9 9),
mV 4 10] [0,3,4])
(.seq (.seq (rg [mV 11 0,
lN 12 11,
bN 13 .sub 12 (cI 1),
mV 5 13] [0,3,4,5])
(.block 0 (.loop (.scope q2))))
q3))))
def zdR:AFun:=⟨1,[.t 2],zr0 z2O z5v,false,false⟩
def ze8 (C:Hd) (gl:GL) (q2 q3:ACode) (v0:AV) (h:Heap) (x:Esc) (K:KT):Prop:=
 mmK h fun t1 h2 y3=>
 pK (oLen v0) fun t4=>
 wK (zus none (.bool false) t4 t4 h2) fun t5 h6 y7=>
 pK (oLen v0) fun t8=>
 pK (oBin .sub t8 (AI 1)) fun t9=>
 NW C gl (.loop (.scope q2)) ⟨[(0,v0),(3,t1),(4,t5),(5,t9)],h6,(y7++(y3++x))⟩ (z0w 0 (seqN C gl q3 K))
theorem E_q081 {C gl q2 q3 v0 h x K}:NW C gl (zr0 q2 q3) ⟨enter [v0],h,x⟩ K=ze8 C gl q2 q3 v0 h x K:=by kernel_rfl
theorem e_q081 {C gl v0 h x K}:NW C gl zdR.body ⟨enter [v0],h,x⟩ K=ze8 C gl z2O z5v v0 h x K:=E_q081
def z5z:ACode:=.pr [0,3,5,38,45] (.cond 45 (.seq (rg [mV 48 0,
mV 49 5,
lD 50 (some 8) 3,
cL 51 z71 [48,49,50],
mV 4 51] [4])
.ret)
(.seq (rg [bN 53 .eql 38 (cI 5),
mV 52 53] [0,3,5,52])
(.cond 52 (.seq (.seq (rg [mV 54 5,
uO 55 (.nilchk 54),
fA 56 0 none 55,
lD 57 none 56,
bN 58 .neq 57 (cI 3)] [3,5,58])
(.cond 58 (.seq (rg [mV 4 (cI 11)] [4])
.ret)
.skip))
(.seq (dr [dF (mV 59 5) [5],
dF (mV 60 5) [5],
dF (fA 61 2 none 3) [3],
dF (lD 62 none 61) [61],
dF (uO 63 (.nilchk 59)) [59],
dF (fA 64 0 none 63) [63],
dA (wO (.store none 64 (cI 1))) [64] true [] [3],
dF (uO 65 (.nilchk 60)) [60],
dF (fA 66 1 none 65) [65],
dT (wO (.store none 66 62)) [66,62]] [])
(.seq (rg [mV 4 (cI 0)] [4])
.ret)))
.skip)))
def zb9 (C:Hd) (gl:GL) (v0 v3 v5 v38 v45:AV) (h:Heap) (x:Esc) (K:KT):Prop:=
 z0k v45 (pK (z0e (some 8) v3 h) fun t1=>
 C z71 [v0,v5,t1] h fun t2 h3 y4=>
 K .ret ⟨[(4,t2)],h3,(y4++x)⟩)
 (pK (oBin .eql v38 (AI 5)) fun t5=>
 z0k t5 (pK (oNil v5) fun t6=>
 pK (z0d 0 none t6) fun t7=>
 pK (z0e none t7 h) fun t8=>
 pK (oBin .neq t8 (AI 3)) fun t9=>
 z0k t9 (K .ret ⟨[(4,(AI 11))],h,x⟩)
 (pK (z0d 2 none v3) fun t10=>
 pK (z0e none t10 h) fun t11=>
 pK (oNil v5) fun t12=>
 pK (z0d 0 none t12) fun t13=>
 wK (z0m none t13 (AI 1) h) fun t14 h15 y16=>
 (pK (z0e none t10 h15) fun v=>(fun u (g1:Heap) (y1:Esc)=>u=t11∧g1=h15∧y1=[]) v h15 [])∧(pK (oNil v5) fun t17=>
 pK (z0d 1 none t17) fun t18=>
 wK (z0m none t18 t11 h15) fun t19 h20 y21=>
 K .ret ⟨[(4,(AI 0))],h20,(y21++(y16++x))⟩)))
 (K .normal ⟨[(0,v0),(3,v3),(5,v5),(52,t5)],h,x⟩))
theorem zk6 {C gl e h x K}:NW C gl z5z ⟨e,h,x⟩ K=zb9 C gl (aget e 0) (aget e 3) (aget e 5) (aget e 38) (aget e 45) h x K:=by kernel_rfl
def z7U:ACode:=.pr [3,5] (.seq (dr [dF (mV 89 5) [5],
dF (mV 90 5) [5],
dF (fA 91 2 none 3) [3],
dF (lD 92 none 91) [91],
dF (uO 93 (.nilchk 89)) [89],
dF (fA 94 0 none 93) [93],
dA (wO (.store none 94 (cI 5))) [94] true [] [3],
dF (uO 95 (.nilchk 90)) [90],
dF (fA 96 1 none 95) [95],
dT (wO (.store none 96 92)) [96,92]] [])
(.seq (rg [mV 4 (cI 0)] [4])
.ret))
def zbA (C:Hd) (gl:GL) (v3 v5:AV) (h:Heap) (x:Esc) (K:KT):Prop:=
 pK (z0d 2 none v3) fun t1=>
 pK (z0e none t1 h) fun t2=>
 pK (oNil v5) fun t3=>
 pK (z0d 0 none t3) fun t4=>
 wK (z0m none t4 (AI 5) h) fun t5 h6 y7=>
 (pK (z0e none t1 h6) fun v=>(fun u (g1:Heap) (y1:Esc)=>u=t2∧g1=h6∧y1=[]) v h6 [])∧(pK (oNil v5) fun t8=>
 pK (z0d 1 none t8) fun t9=>
 wK (z0m none t9 t2 h6) fun t10 h11 y12=>
 K .ret ⟨[(4,(AI 0))],h11,(y12++(y7++x))⟩)
theorem zk7 {C gl e h x K}:NW C gl z7U ⟨e,h,x⟩ K=zbA C gl (aget e 3) (aget e 5) h x K:=by kernel_rfl
def za8 (q2:ACode):ACode:=.pr [0,3,5] (.seq (.seq (rg [mV 67 5,
uO 68 (.nilchk 67),
fA 69 0 none 68,
lD 70 none 69,
bN 71 .eql 70 (cI 4),
mV 72 71,
gD 73 72 false (.mv 5),
gD 74 72 false (.nilchk 73),
gD 75 72 false (.faddr 0 none 74),
gD 76 72 false (.load none 75),
gD 77 72 false (.bin .eql 76 (cI 5)),
uO 78 (.pick 72 cT 77)] [0,3,5,78])
(.cond 78 (.seq (rg [mV 4 (cI 11)] [4])
.ret)
.skip))
(.seq (.seq (rg [mV 79 5,
uO 80 (.nilchk 79),
fA 81 0 none 80,
lD 82 none 81,
bN 83 .eql 82 (cI 2)] [0,3,5,83])
(.cond 83 (rg [mV 84 0,
mV 85 5,
fA 86 2 none 3,
lD 87 none 86,
cL 88 z4U [84,85,87]] [3,5])
.skip))
q2))
def z50:ACode:=za8 z7U
def z7f (C:Hd) (gl:GL) (q2:ACode) (v0 v3 v5:AV) (h:Heap) (x:Esc) (K:KT):Prop:=
 pK (oNil v5) fun t1=>
 pK (z0d 0 none t1) fun t2=>
 pK (z0e none t2 h) fun t3=>
 pK (oBin .eql t3 (AI 4)) fun t4=>
 gM t4 false v5 h fun t5 h6 y7=>
 gP t4 false (oNil t5) h6 fun t8 h9 y10=>
 gP t4 false (z0d 0 none t8) h9 fun t11 h12 y13=>
 gP t4 false (z0e none t11 h12) h12 fun t14 h15 y16=>
 gP t4 false (oBin .eql t14 (AI 5)) h15 fun t17 h18 y19=>
 pK (z0O t4 (AB true) t17) fun t20=>
 z0k t20 (K .ret ⟨[(4,(AI 11))],h18,(y19++(y16++(y13++(y10++(y7++x)))))⟩)
 (pK (oNil v5) fun t21=>
 pK (z0d 0 none t21) fun t22=>
 pK (z0e none t22 h18) fun t23=>
 pK (oBin .eql t23 (AI 2)) fun t24=>
 z0k t24 (pK (z0d 2 none v3) fun t25=>
 pK (z0e none t25 h18) fun t26=>
 C z4U [v0,v5,t26] h18 fun t27 h28 y29=>
 NW C gl q2 ⟨[(3,v3),(5,v5)],h28,(y29++(y19++(y16++(y13++(y10++(y7++x))))))⟩ K)
 (NW C gl q2 ⟨[(0,v0),(3,v3),(5,v5),(83,t24)],h18,(y19++(y16++(y13++(y10++(y7++x)))))⟩ K))
theorem zhA {C gl q2 e h x K}:NW C gl (za8 q2) ⟨e,h,x⟩ K=z7f C gl q2 (aget e 0) (aget e 3) (aget e 5) h x K:=by kernel_rfl
theorem zk8 {C gl e h x K}:NW C gl z50 ⟨e,h,x⟩ K=z7f C gl z7U (aget e 0) (aget e 3) (aget e 5) h x K:=zhA
def zr3 (q1 q3:ACode):ACode:=(.seq (rg [uO 3 (.box 1),
mV 4 (cI 0)] [0,3])
(.seq (dr [dF (mV 6 0) [0],
dF (uO 7 (.nilchk 6)) [6],
dF (fA 8 2 none 7) [7],
dF (lD 9 none 8) [8],
dF (fA 10 4 none 3) [3],
dF (lD 11 none 10) [10],
dF (uO 12 (.look (none,[2]) false (.nilp) 9 11)) [9,11],
dF (mV 5 12) [12]] [0,3,5])
(.seq (.seq (rg [fA 13 3 none 3,
lD 14 none 13,
bN 15 .eql 14 (cI 1)] [0,3,5,15])
(.cond 15 (.seq (.seq (rg [mV 16 5,
uO 17 (.isnil 0 true 16)] [0,3,17])
(.cond 17 (.seq (rg [mV 4 (cI 6)] [4])
.ret)
.skip))
(.seq (dr [dF (mV 18 0) [0],
dF (uO 19 (.nilchk 18)) [18],
dF (fA 20 2 none 19) [19],
dF (lD 21 none 20) [20],
dF (fA 22 4 none 3) [3],
dF (lD 23 none 22) [22],
dF (fA 24 2 none 3) [3],
dF (lD 25 none 24) [24],
dF (mV 26 0) [0],
dF (uO 27 (.nilchk 26)) [26],
dF (fA 28 0 (some 2) 27) [27],
dF (fA 29 0 none 28) [28],
dF (lD 30 none 29) [29],
dF (iA 31 none 30 (cI 0)) [30],
dF (lD 32 none 31) [31],
dF (uO 33 (.build [.p (.int .i64 0),.p (.int .i64 0),.p (.str []),.p (.str []),.p (.int .i64 0)] [(0,1,(cI 1)),(1,1,25),(2,1,32)])) [25,32],
dA (uO 34 (.box 33)) [33] true [] [3,5],
dT (wO (.mupd (none,[2]) 21 23 34)) [21,23,34]] [])
(.seq (rg [mV 4 (cI 0)] [4])
.ret)))
.skip))
(.seq (.seq (rg [mV 35 5,
uO 36 (.isnil 0 false 35)] [0,3,5,36])
(.cond 36 (.seq (rg [mV 4 (cI 8)] [4])
.ret)
.skip))
(.seq (.seq (rg [fA 37 3 none 3,
lD 38 none 37] [0,3,5,38])
(.block 0 (.seq (rg [bN 40 .eql 38 (cI 2),
mV 39 40] [0,3,5,38,39])
(.cond 39 (.seq (rg [mV 41 0,
mV 42 5,
lD 43 (some 8) 3,
cL 44 z72 [41,42,43],
mV 4 44] [4])
.ret)
(.seq (.seq (rg [bN 46 .eql 38 (cI 3),
mV 45 46] [0,3,5,38,45])
(.cond 45 .skip
(rg [bN 47 .eql 38 (cI 4),
mV 45 47] [0,3,5,38,45])))
q1)))))
q3)))))
def zdY:AFun:=⟨2,[.t 4],zr3 z5z z50,false,false⟩
def z2b (C:Hd) (gl:GL) (q1 q3:ACode) (v0 v1:AV) (h:Heap) (x:Esc) (K:KT):Prop:=
 wK (oBox v1 h) fun t1 h2 y3=>
 pK (oNil v0) fun t4=>
 pK (z0d 2 none t4) fun t5=>
 pK (z0e none t5 h2) fun t6=>
 pK (z0d 4 none t1) fun t7=>
 pK (z0e none t7 h2) fun t8=>
 pK (z1o (none,[2]) false (.nilp) t6 t8 h2) fun t9=>
 pK (z0d 3 none t1) fun t10=>
 pK (z0e none t10 h2) fun t11=>
 pK (oBin .eql t11 (AI 1)) fun t12=>
 z0k t12 (pK (z7I 0 true t9) fun t13=>
 z0k t13 (K .ret ⟨[(4,(AI 6))],h2,(y3++x)⟩)
 (pK (oNil v0) fun t14=>
 pK (z0d 2 none t14) fun t15=>
 pK (z0e none t15 h2) fun t16=>
 pK (z0d 4 none t1) fun t17=>
 pK (z0e none t17 h2) fun t18=>
 pK (z0d 2 none t1) fun t19=>
 pK (z0e none t19 h2) fun t20=>
 pK (oNil v0) fun t21=>
 pK (z0d 0 (some 2) t21) fun t22=>
 pK (z0d 0 none t22) fun t23=>
 pK (z0e none t23 h2) fun t24=>
 pK (z0y none t24 (AI 0) h2) fun t25=>
 pK (z0e none t25 h2) fun t26=>
 pK (z07 [.p (.int .i64 0),.p (.int .i64 0),.p (.str []),.p (.str []),.p (.int .i64 0)] [(0,1,(AI 1)),(1,1,t20),(2,1,t26)]) fun t27=>
 wK (oBox t27 h2) fun t28 h29 y30=>
 (pK (z0e none t15 h29) fun v=>(fun u (g1:Heap) (y1:Esc)=>u=t16∧g1=h29∧y1=[]) v h29 [])∧((pK (z0e none t17 h29) fun v=>(fun u (g1:Heap) (y1:Esc)=>u=t18∧g1=h29∧y1=[]) v h29 [])∧(wK (z15 (none,[2]) t16 t18 t28 h29) fun t31 h32 y33=>
 K .ret ⟨[(4,(AI 0))],h32,(y33++(y30++(y3++x)))⟩))))
 (pK (z7I 0 false t9) fun t34=>
 z0k t34 (K .ret ⟨[(4,(AI 8))],h2,(y3++x)⟩)
 (pK (z0d 3 none t1) fun t35=>
 pK (z0e none t35 h2) fun t36=>
 pK (oBin .eql t36 (AI 2)) fun t37=>
 z0k t37 (pK (z0e (some 8) t1 h2) fun t38=>
 C z72 [v0,t9,t38] h2 fun t39 h40 y41=>
 K .ret ⟨[(4,t39)],h40,(y41++(y3++x))⟩)
 (pK (oBin .eql t36 (AI 3)) fun t42=>
 z0k t42 (NW C gl q1 ⟨[(0,v0),(3,t1),(5,t9),(38,t36),(45,t42)],h2,(y3++x)⟩ (z0w 0 (seqN C gl q3 K)))
 (pK (oBin .eql t36 (AI 4)) fun t43=>
 NW C gl q1 ⟨[(0,v0),(3,t1),(5,t9),(38,t36),(45,t43)],h2,(y3++x)⟩ (z0w 0 (seqN C gl q3 K))))))
theorem E_q088 {C gl q1 q3 v0 v1 h x K}:NW C gl (zr3 q1 q3) ⟨enter [v0,v1],h,x⟩ K=z2b C gl q1 q3 v0 v1 h x K:=by kernel_rfl
theorem e_q088 {C gl v0 v1 h x K}:NW C gl zdY.body ⟨enter [v0,v1],h,x⟩ K=z2b C gl z5z z50 v0 v1 h x K:=E_q088
end Go.Am
end
