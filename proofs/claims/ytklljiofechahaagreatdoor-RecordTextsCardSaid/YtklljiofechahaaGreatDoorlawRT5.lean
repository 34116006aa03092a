/- Texts of the proof, laid together: CodesA, CodesB. -/
import Derived.KernelRfl
import Derived.Test.YtklljiofechahaaGreatDoorlawRT4
set_option linter.all false
section
/- The functions asv abstract code,and asv formulas over their values: printed by program out of the translation. -/
set_option linter.unusedVariables false
set_option maxRecDepth 100000
namespace Go.Am
def z5V:ACode:=.pr [4,6,7,8,9,10] (.seq (rg [mV 44 4,
mV 45 6,
cL 46 za2 [44,45],
mV 43 46,
eX 47 43 0,
eX 48 43 1,
eX 49 43 2,
mV 11 47,
mV 12 48,
mV 13 49] [4,6,7,8,9,10,11,12,13])
(.seq (rg [mV 51 4,
mV 52 6,
cL 53 zaL [51,52],
mV 50 53,
eX 54 50 0,
eX 55 50 1,
eX 56 50 2,
mV 14 54,
mV 15 55,
mV 16 56] [7,8,9,10,11,12,13,14,15,16])
(.seq (rg [mV 57 8,
mV 58 9,
bN 59 .eql 57 58,
mV 60 59,
gD 61 60 true (.mv 7),
gD 62 60 true (.mv 10),
gD 63 60 true (.bin .eql 61 62),
uO 64 (.pick 60 63 cF),
mV 65 64,
gD 66 65 true (.mv 11),
gD 67 65 true (.mv 14),
gD 68 65 true (.call zaT [66,67,(.f z7n)]),
uO 69 (.pick 65 68 cF),
mV 70 69,
gD 71 70 true (.mv 12),
gD 72 70 true (.mv 15),
gD 73 70 true (.bin .eql 71 72),
uO 74 (.pick 70 73 cF),
mV 75 74,
gD 76 75 true (.mv 13),
gD 77 75 true (.mv 16),
gD 78 75 true (.bin .eql 76 77),
uO 79 (.pick 75 78 cF),
mV 80 79,
gD 81 80 true (.call zaD []),
uO 82 (.pick 80 81 cF),
mV 2 82] [2])
.ret)))
def z3O (C:Hd) (gl:GL) (v4 v6 v7 v8 v9 v10:AV) (h:Heap) (x:Esc) (K:KT):Prop:=
 C za2 [v4,v6] h fun t1 h2 y3=>
 pK (oExt t1 0) fun t4=>
 pK (oExt t1 1) fun t5=>
 pK (oExt t1 2) fun t6=>
 C zaL [v4,v6] h2 fun t7 h8 y9=>
 pK (oExt t7 0) fun t10=>
 pK (oExt t7 1) fun t11=>
 pK (oExt t7 2) fun t12=>
 pK (oBin .eql v8 v9) fun t13=>
 gM t13 true v7 h8 fun t14 h15 y16=>
 gM t13 true v10 h15 fun t17 h18 y19=>
 gP t13 true (oBin .eql t14 t17) h18 fun t20 h21 y22=>
 pK (z0y t13 t20 (AB false)) fun t23=>
 gM t23 true t4 h21 fun t24 h25 y26=>
 gM t23 true t10 h25 fun t27 h28 y29=>
 gV t23 true h28 (C zaT [t24,t27,(.fn z7n [])] h28) fun t30 h31 y32=>
 pK (z0y t23 t30 (AB false)) fun t33=>
 gM t33 true t5 h31 fun t34 h35 y36=>
 gM t33 true t11 h35 fun t37 h38 y39=>
 gP t33 true (oBin .eql t34 t37) h38 fun t40 h41 y42=>
 pK (z0y t33 t40 (AB false)) fun t43=>
 gM t43 true t6 h41 fun t44 h45 y46=>
 gM t43 true t12 h45 fun t47 h48 y49=>
 gP t43 true (oBin .eql t44 t47) h48 fun t50 h51 y52=>
 pK (z0y t43 t50 (AB false)) fun t53=>
 gV t53 true h51 (C zaD [] h51) fun t54 h55 y56=>
 pK (z0y t53 t54 (AB false)) fun t57=>
 K .ret ⟨[(2,t57)],h55,(y56++(y52++(y49++(y46++(y42++(y39++(y36++(y32++(y29++(y26++(y22++(y19++(y16++(y9++(y3++x)))))))))))))))⟩
theorem z55 {C gl e h x K}:NW C gl z5V ⟨e,h,x⟩ K=z3O C gl (aget e 4) (aget e 6) (aget e 7) (aget e 8) (aget e 9) (aget e 10) h x K:=by kernel_rfl
def ztS (q1:ACode):ACode:=(.seq (rg [mV 2 cF] [0])
(.seq (rg [mV 17 0,
uO 18 (.build [.sl0 none,.p (.int .i64 0)] [(0,1,17)]),
uO 19 (.box 18),
mV 3 19] [3])
(.seq (rg [mV 20 3,
cL 21 zaF [20],
mV 4 21] [3,4])
(.seq (rg [mV 22 3,
mV 23 4,
mV 24 3,
cL 25 z2m [24,(cI 0),(cI 6)],
cL 26 z5A [22,23,25],
mV 27 3,
mV 28 4,
cL 29 zaG [27,28],
mV 5 26,
mV 6 29] [4,5,6])
(.seq (rg [mV 31 4,
mV 32 5,
cL 33 za4 [31,32],
mV 30 33,
eX 34 30 0,
eX 35 30 1,
mV 7 34,
mV 8 35] [4,5,6,7,8])
(.seq (rg [mV 36 4,
mV 37 5,
cL 38 z3T [36,37],
mV 9 38,
mV 10 (cS [])] [4,5,6,7,8,9,10])
(.seq (.seq (rg [mV 39 9,
bN 40 .eql 39 (cI 0)] [4,5,6,7,8,9,10,40])
(.cond 40 (rg [mV 41 5,
cL 42 z7m [41],
mV 10 42] [4,6,7,8,9,10])
.skip))
q1)))))))
def zkE:AFun:=⟨1,[.t 2],ztS z5V,false,false⟩
def zdv (C:Hd) (gl:GL) (q1:ACode) (v0:AV) (h:Heap) (x:Esc) (K:KT):Prop:=
 pK (z1E [.sl0 none,.p (.int .i64 0)] [(0,1,v0)]) fun t1=>
 wK (oBox t1 h) fun t2 h3 y4=>
 C zaF [t2] h3 fun t5 h6 y7=>
 C z2m [t2,(AI 0),(AI 6)] h6 fun t8 h9 y10=>
 C z5A [t2,t5,t8] h9 fun t11 h12 y13=>
 C zaG [t2,t5] h12 fun t14 h15 y16=>
 C za4 [t5,t11] h15 fun t17 h18 y19=>
 pK (oExt t17 0) fun t20=>
 pK (oExt t17 1) fun t21=>
 C z3T [t5,t11] h18 fun t22 h23 y24=>
 pK (oBin .eql t22 (AI 0)) fun t25=>
 z0i t25 (C z7m [t11] h23 fun t26 h27 y28=>
 NW C gl q1 ⟨[(4,t5),(6,t14),(7,t20),(8,t21),(9,t22),(10,t26)],h27,(y28++(y24++(y19++(y16++(y13++(y10++(y7++(y4++x))))))))⟩ K)
 (NW C gl q1 ⟨[(4,t5),(5,t11),(6,t14),(7,t20),(8,t21),(9,t22),(10,(.p (.str []))),(40,t25)],h23,(y24++(y19++(y16++(y13++(y10++(y7++(y4++x)))))))⟩ K)
theorem E_q031 {C gl q1 v0 h x K}:NW C gl (ztS q1) ⟨enter [v0],h,x⟩ K=zdv C gl q1 v0 h x K:=by kernel_rfl
theorem e_q031 {C gl v0 h x K}:NW C gl zkE.body ⟨enter [v0],h,x⟩ K=zdv C gl z5V v0 h x K:=E_q031
def z5X:ACode:=.pr [3] (.seq (rg [mV 34 3,
mV 2 34] [2])
.ret)
def zdy (C:Hd) (gl:GL) (v3:AV) (h:Heap) (x:Esc) (K:KT):Prop:=
 K .ret ⟨[(2,v3)],h,x⟩
theorem znH {C gl e h x K}:NW C gl z5X ⟨e,h,x⟩ K=zdy C gl (aget e 3) h x K:=by kernel_rfl
def ztU (q1:ACode):ACode:=(.seq (rg [mV 2 (.c (.p (.sl (some 4) [])))] [0])
(.seq (rg [uO 4 (.build [.p (.str []),.p (.int .i64 0),.p (.int .i64 0),.p (.int .i64 0)] [(0,1,(cS [118,111,108,116])),(2,1,(cI 10)),(3,1,(cI 5))]),
mV 5 0,
uO 6 (.bsl false none 3 (.int .i64 0) [(0,(cI 5)),(1,(cI 6)),(2,(cI 2))]),
cL 7 z1j [5,6],
uO 8 (.build [.p (.str []),.p (.int .i64 0),.p (.int .i64 0),.p (.int .i64 0)] [(0,1,(cS [97,109,112])),(1,1,(cI (-5))),(2,1,(cI 5)),(3,1,7)]),
uO 9 (.build [.p (.str []),.p (.int .i64 0),.p (.int .i64 0),.p (.int .i64 0)] [(0,1,(cS [104,122])),(1,1,(cI 3)),(2,1,(cI 8)),(3,1,(cI 9))]),
uO 10 (.bsl true (some 4) 3 (.agg [.str [],.int .i64 0,.int .i64 0,.int .i64 0]) [(0,4),(1,8),(2,9)]),
mV 11 0,
cL 12 z2m [11,(cI 1),(cI 3)],
uO 13 (.slice (some 4) 10 none (some 12) none),
mV 3 13] [0,3])
(.seq (.seq (rg [mV 14 0,
cL 15 z2l [14,(cI 15)]] [0,3,15])
(.cond 15 (rg [mV 16 3,
mV 17 0,
mV 18 3,
lN 19 18,
cL 20 z1c [17,19],
mV 21 0,
uO 22 (.bsl false none 3 (.str []) [(0,(cS [118,111,108,116])),(1,(cS [])),(2,(cS [122]))]),
cL 23 z1T [21,22],
mV 24 0,
uO 25 (.bsl false none 4 (.int .i64 0) [(0,(cI 0)),(1,(cI (-100000))),(2,(cI (-100001))),(3,(cI 20))]),
cL 26 z1j [24,25],
mV 27 0,
uO 28 (.bsl false none 3 (.int .i64 0) [(0,(cI 10)),(1,(cI 100000)),(2,(cI 100001))]),
cL 29 z1j [27,28],
mV 30 0,
cL 31 z7h [30,(cI 2),(cI 100)],
uO 32 (.build [.p (.str []),.p (.int .i64 0),.p (.int .i64 0),.p (.int .i64 0)] [(0,1,23),(1,1,26),(2,1,29),(3,1,31)]),
iA 33 (some 4) 16 20,
wO (.store (some 4) 33 32)] [3])
.skip))
q1)))
def zkJ:AFun:=⟨1,[.t 2],ztU z5X,false,false⟩
def zdx (C:Hd) (gl:GL) (q1:ACode) (v0:AV) (h:Heap) (x:Esc) (K:KT):Prop:=
 pK (z1E [.p (.str []),.p (.int .i64 0),.p (.int .i64 0),.p (.int .i64 0)] [(0,1,(.p (.str [118,111,108,116]))),(2,1,(AI 10)),(3,1,(AI 5))]) fun t1=>
 wK (oBsl false none 3 (.int .i64 0) [(0,(AI 5)),(1,(AI 6)),(2,(AI 2))] h) fun t2 h3 y4=>
 C z1j [v0,t2] h3 fun t5 h6 y7=>
 pK (z1E [.p (.str []),.p (.int .i64 0),.p (.int .i64 0),.p (.int .i64 0)] [(0,1,(.p (.str [97,109,112]))),(1,1,(AI (-5))),(2,1,(AI 5)),(3,1,t5)]) fun t8=>
 pK (z1E [.p (.str []),.p (.int .i64 0),.p (.int .i64 0),.p (.int .i64 0)] [(0,1,(.p (.str [104,122]))),(1,1,(AI 3)),(2,1,(AI 8)),(3,1,(AI 9))]) fun t9=>
 wK (oBsl true (some 4) 3 (.agg [.str [],.int .i64 0,.int .i64 0,.int .i64 0]) [(0,t1),(1,t8),(2,t9)] h6) fun t10 h11 y12=>
 C z2m [v0,(AI 1),(AI 3)] h11 fun t13 h14 y15=>
 pK (z2q (some 4) t10 none (some t13) none h14) fun t16=>
 C z2l [v0,(AI 15)] h14 fun t17 h18 y19=>
 z0i t17 (pK (oLen t16) fun t20=>
 C z1c [v0,t20] h18 fun t21 h22 y23=>
 wK (oBsl false none 3 (.str []) [(0,(.p (.str [118,111,108,116]))),(1,(.p (.str []))),(2,(.p (.str [122])))] h22) fun t24 h25 y26=>
 C z1T [v0,t24] h25 fun t27 h28 y29=>
 wK (oBsl false none 4 (.int .i64 0) [(0,(AI 0)),(1,(AI (-100000))),(2,(AI (-100001))),(3,(AI 20))] h28) fun t30 h31 y32=>
 C z1j [v0,t30] h31 fun t33 h34 y35=>
 wK (oBsl false none 3 (.int .i64 0) [(0,(AI 10)),(1,(AI 100000)),(2,(AI 100001))] h34) fun t36 h37 y38=>
 C z1j [v0,t36] h37 fun t39 h40 y41=>
 C z7h [v0,(AI 2),(AI 100)] h40 fun t42 h43 y44=>
 pK (z1E [.p (.str []),.p (.int .i64 0),.p (.int .i64 0),.p (.int .i64 0)] [(0,1,t27),(1,1,t33),(2,1,t39),(3,1,t42)]) fun t45=>
 pK (z0p (some 4) t16 t21 h43) fun t46=>
 wK (z00 (some 4) t46 t45 h43) fun t47 h48 y49=>
 NW C gl q1 ⟨[(3,t16)],h48,(y49++(y44++(y41++(y38++(y35++(y32++(y29++(y26++(y23++(y19++(y15++(y12++(y7++(y4++x))))))))))))))⟩ K)
 (NW C gl q1 ⟨[(0,v0),(3,t16),(15,t17)],h18,(y19++(y15++(y12++(y7++(y4++x)))))⟩ K)
theorem E_q03g {C gl q1 v0 h x K}:NW C gl (ztU q1) ⟨enter [v0],h,x⟩ K=zdx C gl q1 v0 h x K:=by kernel_rfl
theorem e_q03g {C gl v0 h x K}:NW C gl zkJ.body ⟨enter [v0],h,x⟩ K=zdx C gl z5X v0 h x K:=E_q03g
def z9k:ACode:=.pr [0,1,7,8,9,11,12,13,14,29,30,31] (.seq (rg [fA 71 3 none 9,
lD 72 none 71,
mV 73 12,
uO 74 (.bsl false none 1 (.int .i64 0) [(0,73)]),
uO 75 (.app none 72 74),
fA 76 3 none 9,
wO (.store none 76 75)] [0,1,7,8,9,11,12,13,14,29,30,31])
(.seq (rg [mV 77 12,
fA 78 1 none 11,
lD 79 none 78,
bN 80 .lss 77 79,
mV 81 80,
gD 82 81 false (.mv 12),
gD 83 81 false (.faddr 2 none 11),
gD 84 81 false (.load none 83),
gD 85 81 false (.bin .gtr 82 84),
uO 86 (.pick 81 cT 85)] [0,1,7,8,9,13,14,29,30,31,86])
(.cond 86 (.exit 2)
.skip)))
def zd3 (C:Hd) (gl:GL) (v0 v1 v7 v8 v9 v11 v12 v13 v14 v29 v30 v31:AV) (h:Heap) (x:Esc) (K:KT):Prop:=
 pK (z0j 3 none v9) fun t1=>
 pK (z0g none t1 h) fun t2=>
 wK (oBsl false none 1 (.int .i64 0) [(0,v12)] h) fun t3 h4 y5=>
 wK (oApp none t2 t3 h4) fun t6 h7 y8=>
 pK (z0j 3 none v9) fun t9=>
 wK (z00 none t9 t6 h7) fun t10 h11 y12=>
 pK (z0j 1 none v11) fun t13=>
 pK (z0g none t13 h11) fun t14=>
 pK (oBin .lss v12 t14) fun t15=>
 gM t15 false v12 h11 fun t16 h17 y18=>
 gP t15 false (z0j 2 none v11) h17 fun t19 h20 y21=>
 gP t15 false (z0g none t19 h20) h20 fun t22 h23 y24=>
 gP t15 false (oBin .gtr t16 t22) h23 fun t25 h26 y27=>
 pK (z0y t15 (AB true) t25) fun t28=>
 z0i t28 (K (.exit 2) ⟨[(0,v0),(1,v1),(7,v7),(8,v8),(9,v9),(13,v13),(14,v14),(29,v29),(30,v30),(31,v31),(86,t28)],h26,(y27++(y24++(y21++(y18++(y12++(y8++(y5++x)))))))⟩)
 (K .normal ⟨[(0,v0),(1,v1),(7,v7),(8,v8),(9,v9),(13,v13),(14,v14),(29,v29),(30,v30),(31,v31),(86,t28)],h26,(y27++(y24++(y21++(y18++(y12++(y8++(y5++x)))))))⟩)
theorem znK {C gl e h x K}:NW C gl z9k ⟨e,h,x⟩ K=zd3 C gl (aget e 0) (aget e 1) (aget e 7) (aget e 8) (aget e 9) (aget e 11) (aget e 12) (aget e 13) (aget e 14) (aget e 29) (aget e 30) (aget e 31) h x K:=by kernel_rfl
def z9l:ACode:=.pr [0,1,7,8,9,13,14,29,30,31] (rg [bN 87 .add 31 (cI 1),
mV 31 87] [0,1,7,8,9,13,14,29,30,31])
def zd4 (C:Hd) (gl:GL) (v0 v1 v7 v8 v9 v13 v14 v29 v30 v31:AV) (h:Heap) (x:Esc) (K:KT):Prop:=
 pK (oBin .add v31 (AI 1)) fun t1=>
 K .normal ⟨[(0,v0),(1,v1),(7,v7),(8,v8),(9,v9),(13,v13),(14,v14),(29,v29),(30,v30),(31,t1)],h,x⟩
theorem znL {C gl e h x K}:NW C gl z9l ⟨e,h,x⟩ K=zd4 C gl (aget e 0) (aget e 1) (aget e 7) (aget e 8) (aget e 9) (aget e 13) (aget e 14) (aget e 29) (aget e 30) (aget e 31) h x K:=by kernel_rfl
def zc2 (q1 q2:ACode):ACode:=.pr [0,1,7,8,9,13,14,29,30,31] (.seq (rg [bN 32 .lss 31 30] [0,1,7,8,9,13,14,29,30,31,32])
(.seq (.cond 32 .skip
(.exit 2))
(.seq (.block 3 (.seq (rg [iA 33 (some 4) 29 31,
lD 34 (some 4) 33,
uO 11 (.alloc [.p (.str []),.p (.int .i64 0),.p (.int .i64 0),.p (.int .i64 0)]),
wO (.store (some 4) 11 34)] [0,1,7,8,9,11,13,14,29,30,31])
(.seq (rg [mV 35 0,
fA 36 1 none 11,
lD 37 none 36,
fA 38 2 none 11,
lD 39 none 38,
fA 40 1 none 11,
lD 41 none 40,
fA 42 2 none 11,
lD 43 none 42,
bN 44 .add 41 43,
bN 45 .quo 44 (cI 2),
fA 46 1 none 11,
lD 47 none 46,
fA 48 2 none 11,
lD 49 none 48,
bN 50 .add 47 49,
bN 51 .quo 50 (cI 2),
fA 52 1 none 11,
lD 53 none 52,
bN 54 .add 53 (cI 1),
uO 55 (.bsl false none 5 (.int .i64 0) [(0,37),(1,39),(2,45),(3,51),(4,54)]),
cL 56 z1j [35,55],
mV 12 56] [0,1,7,8,9,11,12,13,14,29,30,31])
(.seq (.seq (rg [mV 57 0,
cL 58 z2l [57,(cI 5)]] [0,1,7,8,9,11,12,13,14,29,30,31,58])
(.cond 58 (rg [mV 59 0,
fA 60 1 none 11,
lD 61 none 60,
bN 62 .sub 61 (cI 1),
fA 63 2 none 11,
lD 64 none 63,
bN 65 .add 64 (cI 1),
fA 66 2 none 11,
lD 67 none 66,
bN 68 .add 67 (cI 7),
uO 69 (.bsl false none 3 (.int .i64 0) [(0,62),(1,65),(2,68)]),
cL 70 z1j [59,69],
mV 12 70] [0,1,7,8,9,11,12,13,14,29,30,31])
.skip))
q1))))
q2)))
def z4g:ACode:=zc2 z9k z9l
def z8o (C:Hd) (gl:GL) (q1 q2:ACode) (v0 v1 v7 v8 v9 v13 v14 v29 v30 v31:AV) (h:Heap) (x:Esc) (K:KT):Prop:=
 pK (oBin .lss v31 v30) fun t1=>
 z0i t1 (pK (z0p (some 4) v29 v31 h) fun t2=>
 pK (z0g (some 4) t2 h) fun t3=>
 alK [.p (.str []),.p (.int .i64 0),.p (.int .i64 0),.p (.int .i64 0)] h fun t4 h5 y6=>
 wK (z00 (some 4) t4 t3 h5) fun t7 h8 y9=>
 pK (z0j 1 none t4) fun t10=>
 pK (z0g none t10 h8) fun t11=>
 pK (z0j 2 none t4) fun t12=>
 pK (z0g none t12 h8) fun t13=>
 pK (z0j 1 none t4) fun t14=>
 pK (z0g none t14 h8) fun t15=>
 pK (z0j 2 none t4) fun t16=>
 pK (z0g none t16 h8) fun t17=>
 pK (oBin .add t15 t17) fun t18=>
 pK (oBin .quo t18 (AI 2)) fun t19=>
 pK (z0j 1 none t4) fun t20=>
 pK (z0g none t20 h8) fun t21=>
 pK (z0j 2 none t4) fun t22=>
 pK (z0g none t22 h8) fun t23=>
 pK (oBin .add t21 t23) fun t24=>
 pK (oBin .quo t24 (AI 2)) fun t25=>
 pK (z0j 1 none t4) fun t26=>
 pK (z0g none t26 h8) fun t27=>
 pK (oBin .add t27 (AI 1)) fun t28=>
 wK (oBsl false none 5 (.int .i64 0) [(0,t11),(1,t13),(2,t19),(3,t25),(4,t28)] h8) fun t29 h30 y31=>
 C z1j [v0,t29] h30 fun t32 h33 y34=>
 C z2l [v0,(AI 5)] h33 fun t35 h36 y37=>
 z0i t35 (pK (z0j 1 none t4) fun t38=>
 pK (z0g none t38 h36) fun t39=>
 pK (oBin .sub t39 (AI 1)) fun t40=>
 pK (z0j 2 none t4) fun t41=>
 pK (z0g none t41 h36) fun t42=>
 pK (oBin .add t42 (AI 1)) fun t43=>
 pK (z0j 2 none t4) fun t44=>
 pK (z0g none t44 h36) fun t45=>
 pK (oBin .add t45 (AI 7)) fun t46=>
 wK (oBsl false none 3 (.int .i64 0) [(0,t40),(1,t43),(2,t46)] h36) fun t47 h48 y49=>
 C z1j [v0,t47] h48 fun t50 h51 y52=>
 NW C gl q1 ⟨[(0,v0),(1,v1),(7,v7),(8,v8),(9,v9),(11,t4),(12,t50),(13,v13),(14,v14),(29,v29),(30,v30),(31,v31)],h51,(y52++(y49++(y37++(y34++(y31++(y9++(y6++x)))))))⟩ (z0q 3 (seqN C gl q2 K)))
 (NW C gl q1 ⟨[(0,v0),(1,v1),(7,v7),(8,v8),(9,v9),(11,t4),(12,t32),(13,v13),(14,v14),(29,v29),(30,v30),(31,v31),(58,t35)],h36,(y37++(y34++(y31++(y9++(y6++x)))))⟩ (z0q 3 (seqN C gl q2 K))))
 (K (.exit 2) ⟨[(0,v0),(1,v1),(7,v7),(8,v8),(9,v9),(13,v13),(14,v14),(29,v29),(30,v30),(31,v31),(32,t1)],h,x⟩)
theorem zjH {C gl q1 q2 e h x K}:NW C gl (zc2 q1 q2) ⟨e,h,x⟩ K=z8o C gl q1 q2 (aget e 0) (aget e 1) (aget e 7) (aget e 8) (aget e 9) (aget e 13) (aget e 14) (aget e 29) (aget e 30) (aget e 31) h x K:=by kernel_rfl
theorem znM {C gl e h x K}:NW C gl z4g ⟨e,h,x⟩ K=z8o C gl z9k z9l (aget e 0) (aget e 1) (aget e 7) (aget e 8) (aget e 9) (aget e 13) (aget e 14) (aget e 29) (aget e 30) (aget e 31) h x K:=zjH
theorem zp2 {C gl e h x K}:NW C gl (.loop (.scope z4g)) ⟨e,h,x⟩ K=z0N C gl (.scope z4g) K [(0,aget e 0),(1,aget e 1),(7,aget e 7),(8,aget e 8),(9,aget e 9),(13,aget e 13),(14,aget e 14),(29,aget e 29),(30,aget e 30),(31,aget e 31)] h x:=z11
def z2Z:ACode:=.pr [0,1,7,8,9,13,14] (rg [mV 125 7,
lD 126 (some 4) 9,
uO 127 (.bsl false (some 4) 1 (.agg [.str [],.int .i64 0,.str [],.sl none []]) [(0,126)]),
uO 128 (.app (some 4) 125 127),
mV 7 128] [0,1,7,8,13,14])
def zd5 (C:Hd) (gl:GL) (v0 v1 v7 v8 v9 v13 v14:AV) (h:Heap) (x:Esc) (K:KT):Prop:=
 pK (z0g (some 4) v9 h) fun t1=>
 wK (oBsl false (some 4) 1 (.agg [.str [],.int .i64 0,.str [],.sl none []]) [(0,t1)] h) fun t2 h3 y4=>
 wK (oApp (some 4) v7 t2 h3) fun t5 h6 y7=>
 K .normal ⟨[(0,v0),(1,v1),(7,t5),(8,v8),(13,v13),(14,v14)],h6,(y7++(y4++x))⟩
theorem znN {C gl e h x K}:NW C gl z2Z ⟨e,h,x⟩ K=zd5 C gl (aget e 0) (aget e 1) (aget e 7) (aget e 8) (aget e 9) (aget e 13) (aget e 14) h x K:=by kernel_rfl
def zc3 (q4:ACode):ACode:=.pr [0,1,7,8,9,13,14] (.seq (.seq (rg [mV 88 0,
cL 89 z2l [88,(cI 60)]] [0,1,7,8,9,13,14,89])
(.cond 89 (.seq (rg [mV 90 0,
cL 91 z1c [90,(cI 3)]] [0,1,7,8,9,13,14,91])
(.block 4 (.seq (rg [bN 103 .eql 91 (cI 0),
mV 102 103] [0,1,7,8,9,13,14,91,102])
(.cond 102 (rg [mV 104 0,
uO 105 (.bsl false none 2 (.str []) [(0,(cS [])),(1,(cS [117,49]))]),
cL 106 z1T [104,105],
mV 107 0,
uO 108 (.bsl false none 2 (.str []) [(0,(cS [65])),(1,(cS [115,49]))]),
cL 109 z1T [107,108],
mV 110 0,
cL 111 z7h [110,(cI 0),(cI 50)],
fA 112 0 none 9,
wO (.store none 112 106),
fA 113 2 none 9,
wO (.store none 113 109),
fA 114 1 none 9,
wO (.store none 114 111)] [0,1,7,8,9,13,14])
(.seq (rg [bN 116 .eql 91 (cI 1),
mV 115 116] [0,1,7,8,9,13,14,115])
(.cond 115 (dr [dF (fA 117 3 none 9) [9],
dF (lD 118 none 117) [117],
dF (mV 119 0) [0],
dF (uO 120 (.bsl false none 3 (.int .i64 0) [(0,(cI 0)),(1,(cI 100001)),(2,(cI (-100001)))])) [],
dA (cL 121 z1j [119,120]) [119,120] true [] [1],
dF (uO 122 (.bsl false none 1 (.int .i64 0) [(0,121)])) [121],
dT (uO 123 (.app none 118 122)) [118,122],
dF (fA 124 3 none 9) [9],
dT (wO (.store none 124 123)) [124,123]] [0,1,7,8,9,13,14])
(dr [dF (fA 92 3 none 9) [9],
dF (lD 93 none 92) [92],
dF (mV 94 0) [0],
dF (fA 95 3 none 9) [9],
dF (lD 96 none 95) [95],
dF (lN 97 96) [96],
dF (bN 98 .add 97 (cI 1)) [97],
dA (cL 99 z1c [94,98]) [94,98] true [] [1],
dF (uO 100 (.slice none 93 none (some 99) none)) [93,99],
dF (fA 101 3 none 9) [9],
dT (wO (.store none 101 100)) [101,100]] [0,1,7,8,9,13,14])))))))
.skip))
q4)
def z9m:ACode:=zc3 z2Z
def z1b (C:Hd) (gl:GL) (q4:ACode) (v0 v1 v7 v8 v9 v13 v14:AV) (h:Heap) (x:Esc) (K:KT):Prop:=
 C z2l [v0,(AI 60)] h fun t1 h2 y3=>
 z0i t1 (C z1c [v0,(AI 3)] h2 fun t4 h5 y6=>
 pK (oBin .eql t4 (AI 0)) fun t7=>
 z0i t7 (wK (oBsl false none 2 (.str []) [(0,(.p (.str []))),(1,(.p (.str [117,49])))] h5) fun t8 h9 y10=>
 C z1T [v0,t8] h9 fun t11 h12 y13=>
 wK (oBsl false none 2 (.str []) [(0,(.p (.str [65]))),(1,(.p (.str [115,49])))] h12) fun t14 h15 y16=>
 C z1T [v0,t14] h15 fun t17 h18 y19=>
 C z7h [v0,(AI 0),(AI 50)] h18 fun t20 h21 y22=>
 pK (z0j 0 none v9) fun t23=>
 wK (z00 none t23 t11 h21) fun t24 h25 y26=>
 pK (z0j 2 none v9) fun t27=>
 wK (z00 none t27 t17 h25) fun t28 h29 y30=>
 pK (z0j 1 none v9) fun t31=>
 wK (z00 none t31 t20 h29) fun t32 h33 y34=>
 NW C gl q4 ⟨[(0,v0),(1,v1),(7,v7),(8,v8),(9,v9),(13,v13),(14,v14)],h33,(y34++(y30++(y26++(y22++(y19++(y16++(y13++(y10++(y6++(y3++x))))))))))⟩ K)
 (pK (oBin .eql t4 (AI 1)) fun t35=>
 z0i t35 (pK (z0j 3 none v9) fun t36=>
 pK (z0g none t36 h5) fun t37=>
 wK (oBsl false none 3 (.int .i64 0) [(0,(AI 0)),(1,(AI 100001)),(2,(AI (-100001)))] h5) fun t38 h39 y40=>
 (h39=h5∧y40=[])∧(z1Q C z1j [v0,t38] h39 fun t41 h42 y43=>
 (pK (z0g none t36 h42) fun v=>(fun u (g1:Heap) (y1:Esc)=>u=t37∧g1=h42∧y1=[]) v h42 [])∧(wK (oBsl false none 1 (.int .i64 0) [(0,t41)] h42) fun t44 h45 y46=>
 (h45=h42∧y46=[])∧(wK (oApp none t37 t44 h45) fun t47 h48 y49=>
 pK (z0j 3 none v9) fun t50=>
 wK (z00 none t50 t47 h48) fun t51 h52 y53=>
 NW C gl q4 ⟨[(0,v0),(1,v1),(7,v7),(8,v8),(9,v9),(13,v13),(14,v14)],h52,(y53++(y49++(y46++(y43++(y40++(y6++(y3++x)))))))⟩ K))))
 (pK (z0j 3 none v9) fun t54=>
 pK (z0g none t54 h5) fun t55=>
 pK (z0j 3 none v9) fun t56=>
 pK (z0g none t56 h5) fun t57=>
 pK (oLen t57) fun t58=>
 pK (oBin .add t58 (AI 1)) fun t59=>
 z1Q C z1c [v0,t59] h5 fun t60 h61 y62=>
 (pK (z0g none t54 h61) fun v=>(fun u (g1:Heap) (y1:Esc)=>u=t55∧g1=h61∧y1=[]) v h61 [])∧(pK (z2q none t55 none (some t60) none h61) fun t63=>
 pK (z0j 3 none v9) fun t64=>
 wK (z00 none t64 t63 h61) fun t65 h66 y67=>
 NW C gl q4 ⟨[(0,v0),(1,v1),(7,v7),(8,v8),(9,v9),(13,v13),(14,v14)],h66,(y67++(y62++(y6++(y3++x))))⟩ K))))
 (NW C gl q4 ⟨[(0,v0),(1,v1),(7,v7),(8,v8),(9,v9),(13,v13),(14,v14),(89,t1)],h2,(y3++x)⟩ K)
theorem zjI {C gl q4 e h x K}:NW C gl (zc3 q4) ⟨e,h,x⟩ K=z1b C gl q4 (aget e 0) (aget e 1) (aget e 7) (aget e 8) (aget e 9) (aget e 13) (aget e 14) h x K:=by kernel_rfl
theorem znO {C gl e h x K}:NW C gl z9m ⟨e,h,x⟩ K=z1b C gl z2Z (aget e 0) (aget e 1) (aget e 7) (aget e 8) (aget e 9) (aget e 13) (aget e 14) h x K:=zjI
def z5Y:ACode:=.pr [0,1,7,8,13,14] (rg [bN 129 .add 14 (cI 1),
mV 14 129] [0,1,7,8,13,14])
def zd6 (C:Hd) (gl:GL) (v0 v1 v7 v8 v13 v14:AV) (h:Heap) (x:Esc) (K:KT):Prop:=
 pK (oBin .add v14 (AI 1)) fun t1=>
 K .normal ⟨[(0,v0),(1,v1),(7,v7),(8,v8),(13,v13),(14,t1)],h,x⟩
theorem znP {C gl e h x K}:NW C gl z5Y ⟨e,h,x⟩ K=zd6 C gl (aget e 0) (aget e 1) (aget e 7) (aget e 8) (aget e 13) (aget e 14) h x K:=by kernel_rfl
def zc4 (q3 q5 q6:ACode):ACode:=.pr [0,1,7,8,13,14] (.seq (rg [bN 15 .lss 14 13] [0,1,7,8,13,14,15])
(.seq (.cond 15 .skip
(.exit 0))
(.seq (.block 1 (.seq (rg [mV 16 8,
mV 17 0,
uO 18 (.bsl false none 4 (.int .i64 0) [(0,(cI 1)),(1,(cI 1)),(2,(cI 5)),(3,(cI 0))]),
cL 19 z1j [17,18],
bN 20 .add 16 19,
mV 8 20] [0,1,7,8,13,14])
(.seq (rg [mV 21 0,
uO 22 (.bsl false none 4 (.str []) [(0,(cS [117,49])),(1,(cS [117,50])),(2,(cS [117,51])),(3,(cS [117,52]))]),
cL 23 z1T [21,22],
mV 24 8,
mV 25 0,
uO 26 (.bsl false none 3 (.str []) [(0,(cS [115,49])),(1,(cS [115,49])),(2,(cS [115,50]))]),
cL 27 z1T [25,26],
uO 28 (.build [.p (.str []),.p (.int .i64 0),.p (.str []),.sl0 none] [(0,1,23),(1,1,24),(2,1,27)]),
uO 9 (.alloc [.p (.str []),.p (.int .i64 0),.p (.str []),.sl0 none]),
wO (.store (some 4) 9 28)] [0,1,7,8,9,13,14])
(.seq (.seq (rg [mV 29 1,
lN 30 29,
mV 31 (cI 0)] [0,1,7,8,9,13,14,29,30,31])
(.block 2 (.loop (.scope q3))))
q5))))
q6)))
def z3a:ACode:=zc4 z4g z9m z5Y
def z8p (C:Hd) (gl:GL) (q3 q5 q6:ACode) (v0 v1 v7 v8 v13 v14:AV) (h:Heap) (x:Esc) (K:KT):Prop:=
 pK (oBin .lss v14 v13) fun t1=>
 z0i t1 (wK (oBsl false none 4 (.int .i64 0) [(0,(AI 1)),(1,(AI 1)),(2,(AI 5)),(3,(AI 0))] h) fun t2 h3 y4=>
 C z1j [v0,t2] h3 fun t5 h6 y7=>
 pK (oBin .add v8 t5) fun t8=>
 wK (oBsl false none 4 (.str []) [(0,(.p (.str [117,49]))),(1,(.p (.str [117,50]))),(2,(.p (.str [117,51]))),(3,(.p (.str [117,52])))] h6) fun t9 h10 y11=>
 C z1T [v0,t9] h10 fun t12 h13 y14=>
 wK (oBsl false none 3 (.str []) [(0,(.p (.str [115,49]))),(1,(.p (.str [115,49]))),(2,(.p (.str [115,50])))] h13) fun t15 h16 y17=>
 C z1T [v0,t15] h16 fun t18 h19 y20=>
 pK (z1E [.p (.str []),.p (.int .i64 0),.p (.str []),.sl0 none] [(0,1,t12),(1,1,t8),(2,1,t18)]) fun t21=>
 alK [.p (.str []),.p (.int .i64 0),.p (.str []),.sl0 none] h19 fun t22 h23 y24=>
 wK (z00 (some 4) t22 t21 h23) fun t25 h26 y27=>
 pK (oLen v1) fun t28=>
 NW C gl (.loop (.scope q3)) ⟨[(0,v0),(1,v1),(7,v7),(8,t8),(9,t22),(13,v13),(14,v14),(29,v1),(30,t28),(31,(AI 0))],h26,(y27++(y24++(y20++(y17++(y14++(y11++(y7++(y4++x))))))))⟩ (z0q 2 (seqN C gl q5 (z0q 1 (seqN C gl q6 K)))))
 (K (.exit 0) ⟨[(0,v0),(1,v1),(7,v7),(8,v8),(13,v13),(14,v14),(15,t1)],h,x⟩)
theorem zjJ {C gl q3 q5 q6 e h x K}:NW C gl (zc4 q3 q5 q6) ⟨e,h,x⟩ K=z8p C gl q3 q5 q6 (aget e 0) (aget e 1) (aget e 7) (aget e 8) (aget e 13) (aget e 14) h x K:=by kernel_rfl
theorem znQ {C gl e h x K}:NW C gl z3a ⟨e,h,x⟩ K=z8p C gl z4g z9m z5Y (aget e 0) (aget e 1) (aget e 7) (aget e 8) (aget e 13) (aget e 14) h x K:=zjJ
theorem zp3 {C gl e h x K}:NW C gl (.loop (.scope z3a)) ⟨e,h,x⟩ K=z0N C gl (.scope z3a) K [(0,aget e 0),(1,aget e 1),(7,aget e 7),(8,aget e 8),(13,aget e 13),(14,aget e 14)] h x:=z11
def z4h:ACode:=.pr [7] (.seq (rg [mV 130 7,
cL 131 zaX [130,(.f z7i)]] [7])
(.seq (rg [mV 132 7,
cL 133 zaS [132,(.f z7j)],
mV 6 133] [6])
.ret))
def zd7 (C:Hd) (gl:GL) (v7:AV) (h:Heap) (x:Esc) (K:KT):Prop:=
 C zaX [v7,(.fn z7i [])] h fun t1 h2 y3=>
 C zaS [v7,(.fn z7j [])] h2 fun t4 h5 y6=>
 K .ret ⟨[(6,t4)],h5,(y6++(y3++x))⟩
theorem znR {C gl e h x K}:NW C gl z4h ⟨e,h,x⟩ K=zd7 C gl (aget e 7) h x K:=by kernel_rfl
def ztW (q7 q8:ACode):ACode:=(.seq (rg [mV 6 (.c (.p (.sl (some 4) [])))] [0,1,2])
(.seq (rg [uO 7 (.new0 (some 4))] [0,1,2,7])
(.seq (rg [mV 8 (cI 0)] [0,1,2,7,8])
(.seq (.seq (rg [mV 13 2,
mV 14 (cI 0)] [0,1,7,8,13,14])
(.block 0 (.loop (.scope q7))))
q8))))
def zkP:AFun:=⟨3,[.t 6],ztW z3a z4h,false,false⟩
def zd2 (C:Hd) (gl:GL) (q7 q8:ACode) (v0 v1 v2:AV) (h:Heap) (x:Esc) (K:KT):Prop:=
 nwK (some 4) h fun t1 h2 y3=>
 NW C gl (.loop (.scope q7)) ⟨[(0,v0),(1,v1),(7,t1),(8,(AI 0)),(13,v2),(14,(AI 0))],h2,(y3++x)⟩ (z0q 0 (seqN C gl q8 K))
theorem E_q03m {C gl q7 q8 v0 v1 v2 h x K}:NW C gl (ztW q7 q8) ⟨enter [v0,v1,v2],h,x⟩ K=zd2 C gl q7 q8 v0 v1 v2 h x K:=by kernel_rfl
theorem e_q03m {C gl v0 v1 v2 h x K}:NW C gl zkP.body ⟨enter [v0,v1,v2],h,x⟩ K=zd2 C gl z3a z4h v0 v1 v2 h x K:=E_q03m
def P_q03k:ACode:=(.seq (rg [mV 6 (cI 0)] [0,1,2])
(.seq (.seq (rg [mV 7 2,
mV 8 1,
bN 9 .lss 7 8] [0,1,2,9])
(.cond 9 (.seq (rg [mV 10 1,
mV 6 10] [6])
.ret)
.skip))
(.seq (rg [mV 11 1,
mV 12 0,
mV 13 2,
mV 14 1,
bN 15 .sub 13 14,
bN 16 .add 15 (cI 1),
cL 17 z1c [12,16],
bN 18 .add 11 17,
mV 6 18] [6])
.ret)))
def zkN:AFun:=⟨3,[.t 6],P_q03k,false,false⟩
def zm9 (C:Hd) (gl:GL) (v0 v1 v2:AV) (h:Heap) (x:Esc) (K:KT):Prop:=
 pK (oBin .lss v2 v1) fun t1=>
 z0i t1 (K .ret ⟨[(6,v1)],h,x⟩)
 (pK (oBin .sub v2 v1) fun t2=>
 pK (oBin .add t2 (AI 1)) fun t3=>
 C z1c [v0,t3] h fun t4 h5 y6=>
 pK (oBin .add v1 t4) fun t7=>
 K .ret ⟨[(6,t7)],h5,(y6++x)⟩)
theorem e_q03k {C gl v0 v1 v2 h x K}:NW C gl zkN.body ⟨enter [v0,v1,v2],h,x⟩ K=zm9 C gl v0 v1 v2 h x K:=by kernel_rfl
def z4e:ACode:=.pr [0,5,17,18] (.seq (rg [bN 19 .lss 18 17] [0,5,17,18,19])
(.seq (.cond 19 .skip
(.exit 0))
(.seq (.block 1 (rg [mV 20 0,
mV 21 5,
cL 22 zaE [20,21,(cS [32,10,48,45,57,117,115,49])],
mV 5 22] [0,5,17,18]))
(rg [bN 23 .add 18 (cI 1),
mV 18 23] [0,5,17,18]))))
def zd0 (C:Hd) (gl:GL) (v0 v5 v17 v18:AV) (h:Heap) (x:Esc) (K:KT):Prop:=
 pK (oBin .lss v18 v17) fun t1=>
 z0i t1 (C zaE [v0,v5,(.p (.str [32,10,48,45,57,117,115,49]))] h fun t2 h3 y4=>
 pK (oBin .add v18 (AI 1)) fun t5=>
 K .normal ⟨[(0,v0),(5,t2),(17,v17),(18,t5)],h3,(y4++x)⟩)
 (K (.exit 0) ⟨[(0,v0),(5,v5),(17,v17),(18,v18),(19,t1)],h,x⟩)
theorem znI {C gl e h x K}:NW C gl z4e ⟨e,h,x⟩ K=zd0 C gl (aget e 0) (aget e 5) (aget e 17) (aget e 18) h x K:=by kernel_rfl
theorem zp1 {C gl e h x K}:NW C gl (.loop z4e) ⟨e,h,x⟩ K=z0N C gl z4e K [(0,aget e 0),(5,aget e 5),(17,aget e 17),(18,aget e 18)] h x:=z0x
def z9j:ACode:=.pr [5] (.seq (rg [mV 24 5,
mV 4 24] [4])
.ret)
def zd1 (C:Hd) (gl:GL) (v5:AV) (h:Heap) (x:Esc) (K:KT):Prop:=
 K .ret ⟨[(4,v5)],h,x⟩
theorem znJ {C gl e h x K}:NW C gl z9j ⟨e,h,x⟩ K=zd1 C gl (aget e 5) h x K:=by kernel_rfl
def zc1 (q1 q2:ACode):ACode:=.pr [0,1] (.seq (rg [mV 9 0,
mV 10 1,
mV 11 0,
cL 12 z2m [11,(cI 0),(cI 4)],
cL 13 z7k [9,10,12],
cL 14 z7m [13],
mV 5 14] [0,5])
(.seq (.seq (rg [mV 15 0,
uO 16 (.bsl false none 4 (.int .i64 0) [(0,(cI 0)),(1,(cI 0)),(2,(cI 1)),(3,(cI 2))]),
cL 17 z1j [15,16],
mV 18 (cI 0)] [0,5,17,18])
(.block 0 (.loop q1)))
q2))
def z4f:ACode:=zc1 z4e z9j
def z50 (C:Hd) (gl:GL) (q1 q2:ACode) (v0 v1:AV) (h:Heap) (x:Esc) (K:KT):Prop:=
 C z2m [v0,(AI 0),(AI 4)] h fun t1 h2 y3=>
 C z7k [v0,v1,t1] h2 fun t4 h5 y6=>
 C z7m [t4] h5 fun t7 h8 y9=>
 wK (oBsl false none 4 (.int .i64 0) [(0,(AI 0)),(1,(AI 0)),(2,(AI 1)),(3,(AI 2))] h8) fun t10 h11 y12=>
 C z1j [v0,t10] h11 fun t13 h14 y15=>
 NW C gl (.loop q1) ⟨[(0,v0),(5,t7),(17,t13),(18,(AI 0))],h14,(y15++(y12++(y9++(y6++(y3++x)))))⟩ (z0q 0 (seqN C gl q2 K))
theorem zjG {C gl q1 q2 e h x K}:NW C gl (zc1 q1 q2) ⟨e,h,x⟩ K=z50 C gl q1 q2 (aget e 0) (aget e 1) h x K:=by kernel_rfl
theorem z56 {C gl e h x K}:NW C gl z4f ⟨e,h,x⟩ K=z50 C gl z4e z9j (aget e 0) (aget e 1) h x K:=zjG
def ztV (q3:ACode):ACode:=(.seq (rg [mV 4 (cS [])] [0,1])
(.seq (.seq (rg [mV 6 1,
cL 7 z4P [6],
bN 8 .neq 7 (cI 0)] [0,1,8])
(.cond 8 (rg [mV 1 (.c (.p (.sl (some 4) [])))] [0,1])
.skip))
q3))
def zkO:AFun:=⟨2,[.t 4],ztV z4f,false,false⟩
def zdz (C:Hd) (gl:GL) (q3:ACode) (v0 v1:AV) (h:Heap) (x:Esc) (K:KT):Prop:=
 C z4P [v1] h fun t1 h2 y3=>
 pK (oBin .neq t1 (AI 0)) fun t4=>
 z0i t4 (NW C gl q3 ⟨[(0,v0),(1,(.p (.sl (some 4) [])))],h2,(y3++x)⟩ K)
 (NW C gl q3 ⟨[(0,v0),(1,v1),(8,t4)],h2,(y3++x)⟩ K)
theorem E_q03l {C gl q3 v0 v1 h x K}:NW C gl (ztV q3) ⟨enter [v0,v1],h,x⟩ K=zdz C gl q3 v0 v1 h x K:=by kernel_rfl
theorem e_q03l {C gl v0 v1 h x K}:NW C gl zkO.body ⟨enter [v0,v1],h,x⟩ K=zdz C gl z4f v0 v1 h x K:=E_q03l
def z2V:ACode:=.pr [7,18,19,20,37,38,39] (.seq (rg [bN 40 .lss 39 38] [7,18,19,20,37,38,39,40])
(.seq (.cond 40 .skip
(.exit 2))
(.seq (.block 3 (.seq (rg [iA 41 none 37 39,
lD 42 none 41,
mV 11 42] [7,11,18,19,20,37,38,39])
(rg [mV 43 11,
cL 44 z3I [43],
bN 45 .add (cS [32]) 44,
cL 46 z5B [7,45]] [7,18,19,20,37,38,39])))
(rg [bN 47 .add 39 (cI 1),
mV 39 47] [7,18,19,20,37,38,39]))))
def zdm (C:Hd) (gl:GL) (v7 v18 v19 v20 v37 v38 v39:AV) (h:Heap) (x:Esc) (K:KT):Prop:=
 pK (oBin .lss v39 v38) fun t1=>
 z0i t1 (pK (z0p none v37 v39 h) fun t2=>
 pK (z0g none t2 h) fun t3=>
 C z3I [t3] h fun t4 h5 y6=>
 pK (oBin .add (.p (.str [32])) t4) fun t7=>
 C z5B [v7,t7] h5 fun t8 h9 y10=>
 pK (oBin .add v39 (AI 1)) fun t11=>
 K .normal ⟨[(7,v7),(18,v18),(19,v19),(20,v20),(37,v37),(38,v38),(39,t11)],h9,(y10++(y6++x))⟩)
 (K (.exit 2) ⟨[(7,v7),(18,v18),(19,v19),(20,v20),(37,v37),(38,v38),(39,v39),(40,t1)],h,x⟩)
theorem zn8 {C gl e h x K}:NW C gl z2V ⟨e,h,x⟩ K=zdm C gl (aget e 7) (aget e 18) (aget e 19) (aget e 20) (aget e 37) (aget e 38) (aget e 39) h x K:=by kernel_rfl
theorem zpw {C gl e h x K}:NW C gl (.loop z2V) ⟨e,h,x⟩ K=z0N C gl z2V K [(7,aget e 7),(18,aget e 18),(19,aget e 19),(20,aget e 20),(37,aget e 37),(38,aget e 38),(39,aget e 39)] h x:=z0x
def z9h:ACode:=.pr [7,18,19,20] (rg [cL 48 z8O [7,(.c (.p (.int .u8 10)))]] [7,18,19,20])
def z8k (C:Hd) (gl:GL) (v7 v18 v19 v20:AV) (h:Heap) (x:Esc) (K:KT):Prop:=
 C z8O [v7,(.p (.int .u8 10))] h fun t1 h2 y3=>
 K .normal ⟨[(7,v7),(18,v18),(19,v19),(20,v20)],h2,(y3++x)⟩
theorem z86 {C gl e h x K}:NW C gl z9h ⟨e,h,x⟩ K=z8k C gl (aget e 7) (aget e 18) (aget e 19) (aget e 20) h x K:=by kernel_rfl
def z9i:ACode:=.pr [7,18,19,20] (rg [bN 49 .add 20 (cI 1),
mV 20 49] [7,18,19,20])
def z8l (C:Hd) (gl:GL) (v7 v18 v19 v20:AV) (h:Heap) (x:Esc) (K:KT):Prop:=
 pK (oBin .add v20 (AI 1)) fun t1=>
 K .normal ⟨[(7,v7),(18,v18),(19,v19),(20,t1)],h,x⟩
theorem z87 {C gl e h x K}:NW C gl z9i ⟨e,h,x⟩ K=z8l C gl (aget e 7) (aget e 18) (aget e 19) (aget e 20) h x K:=by kernel_rfl
def zc0 (q1 q2 q3:ACode):ACode:=.pr [7,18,19,20] (.seq (rg [bN 21 .lss 20 19] [7,18,19,20,21])
(.seq (.cond 21 .skip
(.exit 0))
(.seq (.block 1 (.seq (rg [iA 22 (some 4) 18 20,
lD 23 (some 4) 22,
uO 9 (.alloc [.p (.str []),.p (.int .i64 0),.p (.str []),.sl0 none]),
wO (.store (some 4) 9 23)] [7,9,18,19,20])
(.seq (dr [dF (fA 24 0 none 9) [9],
dF (lD 25 none 24) [24],
dF (bN 26 .add 25 (cS [32])) [25],
dF (fA 27 1 none 9) [9],
dF (lD 28 none 27) [27],
dA (cL 29 z3I [28]) [28] true [] [1],
dF (bN 30 .add 26 29) [26,29],
dF (bN 31 .add 30 (cS [32])) [30],
dF (fA 32 2 none 9) [9],
dA (lD 33 none 32) [32] false [5] [],
dF (bN 34 .add 31 33) [31,33],
dT (cL 35 z5B [7,34]) [7,34]] [7,9,18,19,20])
(.seq (.seq (rg [fA 36 3 none 9,
lD 37 none 36,
lN 38 37,
mV 39 (cI 0)] [7,18,19,20,37,38,39])
(.block 2 (.loop q1)))
q2))))
q3)))
def z2s:ACode:=zc0 z2V z9h z9i
def z8m (C:Hd) (gl:GL) (q1 q2 q3:ACode) (v7 v18 v19 v20:AV) (h:Heap) (x:Esc) (K:KT):Prop:=
 pK (oBin .lss v20 v19) fun t1=>
 z0i t1 (pK (z0p (some 4) v18 v20 h) fun t2=>
 pK (z0g (some 4) t2 h) fun t3=>
 alK [.p (.str []),.p (.int .i64 0),.p (.str []),.sl0 none] h fun t4 h5 y6=>
 wK (z00 (some 4) t4 t3 h5) fun t7 h8 y9=>
 pK (z0j 0 none t4) fun t10=>
 pK (z0g none t10 h8) fun t11=>
 pK (oBin .add t11 (.p (.str [32]))) fun t12=>
 pK (z0j 1 none t4) fun t13=>
 pK (z0g none t13 h8) fun t14=>
 z1Q C z3I [t14] h8 fun t15 h16 y17=>
 (pK (z0g none t10 h16) fun v=>(fun u (g1:Heap) (y1:Esc)=>u=t11∧g1=h16∧y1=[]) v h16 [])∧(pK (oBin .add t12 t15) fun t18=>
 pK (oBin .add t18 (.p (.str [32]))) fun t19=>
 pK (z0j 2 none t4) fun t20=>
 pK (z0g none t20 h16) fun t21=>
 (pK (z0g none t20 h8) fun v=>(fun u (g1:Heap) (y1:Esc)=>u=t21∧g1=h8∧y1=[]) v h8 [])∧(pK (oBin .add t19 t21) fun t22=>
 z1Q C z5B [v7,t22] h16 fun t23 h24 y25=>
 pK (z0j 3 none t4) fun t26=>
 pK (z0g none t26 h24) fun t27=>
 pK (oLen t27) fun t28=>
 NW C gl (.loop q1) ⟨[(7,v7),(18,v18),(19,v19),(20,v20),(37,t27),(38,t28),(39,(AI 0))],h24,(y25++(y17++(y9++(y6++x))))⟩ (z0q 2 (seqN C gl q2 (z0q 1 (seqN C gl q3 K)))))))
 (K (.exit 0) ⟨[(7,v7),(18,v18),(19,v19),(20,v20),(21,t1)],h,x⟩)
theorem zjF {C gl q1 q2 q3 e h x K}:NW C gl (zc0 q1 q2 q3) ⟨e,h,x⟩ K=z8m C gl q1 q2 q3 (aget e 7) (aget e 18) (aget e 19) (aget e 20) h x K:=by kernel_rfl
theorem zn9 {C gl e h x K}:NW C gl z2s ⟨e,h,x⟩ K=z8m C gl z2V z9h z9i (aget e 7) (aget e 18) (aget e 19) (aget e 20) h x K:=zjF
theorem zpx {C gl e h x K}:NW C gl (.loop (.scope z2s)) ⟨e,h,x⟩ K=z0N C gl (.scope z2s) K [(7,aget e 7),(18,aget e 18),(19,aget e 19),(20,aget e 20)] h x:=z11
def z5R:ACode:=.pr [7] (.seq (.seq (rg [cL 50 z8N [7],
bN 51 .gtr 50 (cI 200000)] [7,51])
(.cond 51 (.seq (rg [mV 4 (cS []),
mV 5 (cI 2)] [4,5])
.ret)
.skip))
(.seq (rg [cL 52 zaZ [7],
mV 4 52,
mV 5 (cI 0)] [4,5])
.ret))
def z8n (C:Hd) (gl:GL) (v7:AV) (h:Heap) (x:Esc) (K:KT):Prop:=
 C z8N [v7] h fun t1 h2 y3=>
 pK (oBin .gtr t1 (AI 200000)) fun t4=>
 z0i t4 (K .ret ⟨[(4,(.p (.str []))),(5,(AI 2))],h2,(y3++x)⟩)
 (C zaZ [v7] h2 fun t5 h6 y7=>
 K .ret ⟨[(4,t5),(5,(AI 0))],h6,(y7++(y3++x))⟩)
theorem z88 {C gl e h x K}:NW C gl z5R ⟨e,h,x⟩ K=z8n C gl (aget e 7) h x K:=by kernel_rfl
def ztO (q4 q5:ACode):ACode:=(.seq (rg [mV 4 (cS []),
mV 5 (cI 0)] [0,1])
(.seq (.seq (rg [mV 12 0,
mV 13 1,
cL 14 za1 [12,13],
mV 6 14] [1,6])
(.seq (rg [mV 15 6,
bN 16 .neq 15 (cI 0)] [1,6,16])
(.cond 16 (.seq (rg [mV 17 6,
mV 4 (cS []),
mV 5 17] [4,5])
.ret)
.skip)))
(.seq (rg [uO 7 (.uns 0 107 [(cI 5)])] [1,7])
(.seq (.seq (rg [mV 18 1,
lN 19 18,
mV 20 (cI 0)] [7,18,19,20])
(.block 0 (.loop (.scope q4))))
q5))))
def zk0:AFun:=⟨2,[.t 4,.t 5],ztO z2s z5R,false,false⟩
def zdl (C:Hd) (gl:GL) (q4 q5:ACode) (v0 v1:AV) (h:Heap) (x:Esc) (K:KT):Prop:=
 C za1 [v0,v1] h fun t1 h2 y3=>
 pK (oBin .neq t1 (AI 0)) fun t4=>
 z0i t4 (K .ret ⟨[(4,(.p (.str []))),(5,t1)],h2,(y3++x)⟩)
 (wK (z1z 0 107 [(AI 5)] h2) fun t5 h6 y7=>
 pK (oLen v1) fun t8=>
 NW C gl (.loop (.scope q4)) ⟨[(7,t5),(18,v1),(19,t8),(20,(AI 0))],h6,(y7++(y3++x))⟩ (z0q 0 (seqN C gl q5 K)))
theorem E_q026 {C gl q4 q5 v0 v1 h x K}:NW C gl (ztO q4 q5) ⟨enter [v0,v1],h,x⟩ K=zdl C gl q4 q5 v0 v1 h x K:=by kernel_rfl
theorem e_q026 {C gl v0 v1 h x K}:NW C gl zk0.body ⟨enter [v0,v1],h,x⟩ K=zdl C gl z2s z5R v0 v1 h x K:=E_q026
def z3h:ACode:=.pr [0,1,17,18,19] (.seq (rg [bN 20 .lss 19 18] [0,1,17,18,19,20])
(.seq (.cond 20 .skip
(.exit 0))
(.seq (.block 1 (.seq (rg [mV 21 19,
iA 22 (some 4) 17 19,
lD 23 (some 4) 22,
uO 7 (.alloc [.p (.str []),.p (.int .i64 0),.p (.str []),.sl0 none]),
mV 6 21,
wO (.store (some 4) 7 23)] [0,1,6,7,17,18,19])
(.seq (.seq (rg [mV 24 0,
lD 25 (some 4) 7,
cL 26 zaP [24,25],
mV 8 26] [0,1,6,7,8,17,18,19])
(.seq (rg [mV 27 8,
bN 28 .neq 27 (cI 0)] [0,1,6,7,8,17,18,19,28])
(.cond 28 (.seq (rg [mV 29 8,
mV 4 29] [4])
.ret)
.skip)))
(.seq (dr [dF (mV 30 6) [6],
dF (bN 31 .gtr 30 (cI 0)) [30],
dF (mV 32 31) [31],
dF (gD 33 32 true (.mv 1)) [1,32],
dF (gD 34 32 true (.mv 6)) [6,32],
dF (gD 35 32 true (.bin .sub 34 (cI 1))) [34,32],
dF (gD 36 32 true (.iaddr (some 4) 33 35)) [33,35,32],
dF (gD 37 32 true (.load (some 4) 36)) [36,32],
dF (gD 38 32 true (.load (some 4) 7)) [7,32],
dT (gD 39 32 true (.call zaQ [37,38])) [37,38,32],
dF (gD 40 32 true (.bin .geq 39 (cI 0))) [39,32],
dF (uO 41 (.pick 32 40 cF)) [32,40]] [0,1,17,18,19,41])
(.cond 41 (.seq (rg [mV 4 (cI 7)] [4])
.ret)
.skip)))))
(rg [bN 42 .add 19 (cI 1),
mV 19 42] [0,1,17,18,19]))))
def zdH (C:Hd) (gl:GL) (v0 v1 v17 v18 v19:AV) (h:Heap) (x:Esc) (K:KT):Prop:=
 pK (oBin .lss v19 v18) fun t1=>
 z0i t1 (pK (z0p (some 4) v17 v19 h) fun t2=>
 pK (z0g (some 4) t2 h) fun t3=>
 alK [.p (.str []),.p (.int .i64 0),.p (.str []),.sl0 none] h fun t4 h5 y6=>
 wK (z00 (some 4) t4 t3 h5) fun t7 h8 y9=>
 pK (z0g (some 4) t4 h8) fun t10=>
 C zaP [v0,t10] h8 fun t11 h12 y13=>
 pK (oBin .neq t11 (AI 0)) fun t14=>
 z0i t14 (K .ret ⟨[(4,t11)],h12,(y13++(y9++(y6++x)))⟩)
 (pK (oBin .gtr v19 (AI 0)) fun t15=>
 gM t15 true v1 h12 fun t16 h17 y18=>
 gM t15 true v19 h17 fun t19 h20 y21=>
 gP t15 true (oBin .sub t19 (AI 1)) h20 fun t22 h23 y24=>
 gP t15 true (z0p (some 4) t16 t22 h23) h23 fun t25 h26 y27=>
 gP t15 true (z0g (some 4) t25 h26) h26 fun t28 h29 y30=>
 gP t15 true (z0g (some 4) t4 h29) h29 fun t31 h32 y33=>
 gV t15 true h32 (z1Q C zaQ [t28,t31] h32) fun t34 h35 y36=>
 gP t15 true (oBin .geq t34 (AI 0)) h35 fun t37 h38 y39=>
 pK (z0y t15 t37 (AB false)) fun t40=>
 z0i t40 (K .ret ⟨[(4,(AI 7))],h38,(y39++(y36++(y33++(y30++(y27++(y24++(y21++(y18++(y13++(y9++(y6++x)))))))))))⟩)
 (pK (oBin .add v19 (AI 1)) fun t41=>
 K .normal ⟨[(0,v0),(1,v1),(17,v17),(18,v18),(19,t41)],h38,(y39++(y36++(y33++(y30++(y27++(y24++(y21++(y18++(y13++(y9++(y6++x)))))))))))⟩)))
 (K (.exit 0) ⟨[(0,v0),(1,v1),(17,v17),(18,v18),(19,v19),(20,t1)],h,x⟩)
theorem zoa {C gl e h x K}:NW C gl z3h ⟨e,h,x⟩ K=zdH C gl (aget e 0) (aget e 1) (aget e 17) (aget e 18) (aget e 19) h x K:=by kernel_rfl
theorem zpA {C gl e h x K}:NW C gl (.loop (.scope z3h)) ⟨e,h,x⟩ K=z0N C gl (.scope z3h) K [(0,aget e 0),(1,aget e 1),(17,aget e 17),(18,aget e 18),(19,aget e 19)] h x:=z11
def z6f:ACode:=.pr [] (.seq (rg [mV 4 (cI 0)] [4])
.ret)
def zdI (C:Hd) (gl:GL) (h:Heap) (x:Esc) (K:KT):Prop:=
 K .ret ⟨[(4,(AI 0))],h,x⟩
theorem zob {C gl e h x K}:NW C gl z6f ⟨e,h,x⟩ K=zdI C gl h x K:=by kernel_rfl
def zud (q1 q2:ACode):ACode:=(.seq (rg [mV 4 (cI 0)] [0,1])
(.seq (.seq (rg [mV 9 0,
cL 10 z4P [9],
mV 5 10] [0,1,5])
(.seq (rg [mV 11 5,
bN 12 .neq 11 (cI 0)] [0,1,5,12])
(.cond 12 (.seq (rg [mV 13 5,
mV 4 13] [4])
.ret)
.skip)))
(.seq (.seq (rg [mV 14 1,
lN 15 14,
bN 16 .gtr 15 (cI 5000)] [0,1,16])
(.cond 16 (.seq (rg [mV 4 (cI 2)] [4])
.ret)
.skip))
(.seq (.seq (rg [mV 17 1,
lN 18 17,
mV 19 (cI 0)] [0,1,17,18,19])
(.block 0 (.loop (.scope q1))))
q2))))
def zgu:AFun:=⟨2,[.t 4],zud z3h z6f,false,false⟩
def zam (C:Hd) (gl:GL) (q1 q2:ACode) (v0 v1:AV) (h:Heap) (x:Esc) (K:KT):Prop:=
 C z4P [v0] h fun t1 h2 y3=>
 pK (oBin .neq t1 (AI 0)) fun t4=>
 z0i t4 (K .ret ⟨[(4,t1)],h2,(y3++x)⟩)
 (pK (oLen v1) fun t5=>
 pK (oBin .gtr t5 (AI 5000)) fun t6=>
 z0i t6 (K .ret ⟨[(4,(AI 2))],h2,(y3++x)⟩)
 (pK (oLen v1) fun t7=>
 NW C gl (.loop (.scope q1)) ⟨[(0,v0),(1,v1),(17,v1),(18,t7),(19,(AI 0))],h2,(y3++x)⟩ (z0q 0 (seqN C gl q2 K))))
theorem E_q04c {C gl q1 q2 v0 v1 h x K}:NW C gl (zud q1 q2) ⟨enter [v0,v1],h,x⟩ K=zam C gl q1 q2 v0 v1 h x K:=by kernel_rfl
theorem e_q04c {C gl v0 v1 h x K}:NW C gl zgu.body ⟨enter [v0,v1],h,x⟩ K=zam C gl z3h z6f v0 v1 h x K:=E_q04c
def z3g:ACode:=.pr [3,6,7,8] (.seq (rg [bN 9 .lss 8 7] [3,6,7,8,9])
(.seq (.cond 9 .skip
(.exit 0))
(.seq (.block 1 (.seq (rg [iA 10 (some 4) 6 8,
lD 11 (some 4) 10,
uO 5 (.alloc [.p (.str []),.p (.int .i64 0),.p (.str []),.sl0 none]),
wO (.store (some 4) 5 11)] [3,5,6,7,8])
(dr [dF (mV 12 3) [3],
dF (fA 13 0 none 5) [5],
dF (lD 14 none 13) [13],
dF (bN 15 .add 14 (cS [32])) [14],
dF (fA 16 1 none 5) [5],
dF (lD 17 none 16) [16],
dA (cL 18 z3I [17]) [17] true [] [2],
dF (bN 19 .add 15 18) [15,18],
dF (bN 20 .add 19 (cS [32])) [19],
dF (fA 21 2 none 5) [5],
dA (lD 22 none 21) [21] false [6] [],
dF (bN 23 .add 20 22) [20,22],
dF (bN 24 .add 23 (cS [32])) [23],
dF (fA 25 3 none 5) [5],
dA (lD 26 none 25) [25] false [6] [],
dA (cL 27 zaJ [26]) [26] true [] [2,10],
dF (bN 28 .add 24 27) [24,27],
dF (bN 29 .add 28 (cS [10])) [28],
dF (bN 30 .add 12 29) [12,29],
dF (mV 3 30) [30]] [3,6,7,8])))
(rg [bN 31 .add 8 (cI 1),
mV 8 31] [3,6,7,8]))))
def zdG (C:Hd) (gl:GL) (v3 v6 v7 v8:AV) (h:Heap) (x:Esc) (K:KT):Prop:=
 pK (oBin .lss v8 v7) fun t1=>
 z0i t1 (pK (z0p (some 4) v6 v8 h) fun t2=>
 pK (z0g (some 4) t2 h) fun t3=>
 alK [.p (.str []),.p (.int .i64 0),.p (.str []),.sl0 none] h fun t4 h5 y6=>
 wK (z00 (some 4) t4 t3 h5) fun t7 h8 y9=>
 pK (z0j 0 none t4) fun t10=>
 pK (z0g none t10 h8) fun t11=>
 pK (oBin .add t11 (.p (.str [32]))) fun t12=>
 pK (z0j 1 none t4) fun t13=>
 pK (z0g none t13 h8) fun t14=>
 z1Q C z3I [t14] h8 fun t15 h16 y17=>
 (pK (z0g none t10 h16) fun v=>(fun u (g1:Heap) (y1:Esc)=>u=t11∧g1=h16∧y1=[]) v h16 [])∧(pK (oBin .add t12 t15) fun t18=>
 pK (oBin .add t18 (.p (.str [32]))) fun t19=>
 pK (z0j 2 none t4) fun t20=>
 pK (z0g none t20 h16) fun t21=>
 (pK (z0g none t20 h8) fun v=>(fun u (g1:Heap) (y1:Esc)=>u=t21∧g1=h8∧y1=[]) v h8 [])∧(pK (oBin .add t19 t21) fun t22=>
 pK (oBin .add t22 (.p (.str [32]))) fun t23=>
 pK (z0j 3 none t4) fun t24=>
 pK (z0g none t24 h16) fun t25=>
 (pK (z0g none t24 h8) fun v=>(fun u (g1:Heap) (y1:Esc)=>u=t25∧g1=h8∧y1=[]) v h8 [])∧(z1Q C zaJ [t25] h16 fun t26 h27 y28=>
 (pK (z0g none t10 h27) fun v=>(fun u (g1:Heap) (y1:Esc)=>u=t11∧g1=h27∧y1=[]) v h27 [])∧((pK (z0g none t20 h27) fun v=>(fun u (g1:Heap) (y1:Esc)=>u=t21∧g1=h27∧y1=[]) v h27 [])∧(pK (oBin .add t23 t26) fun t29=>
 pK (oBin .add t29 (.p (.str [10]))) fun t30=>
 pK (oBin .add v3 t30) fun t31=>
 pK (oBin .add v8 (AI 1)) fun t32=>
 K .normal ⟨[(3,t31),(6,v6),(7,v7),(8,t32)],h27,(y28++(y17++(y9++(y6++x))))⟩))))))
 (K (.exit 0) ⟨[(3,v3),(6,v6),(7,v7),(8,v8),(9,t1)],h,x⟩)
theorem znZ {C gl e h x K}:NW C gl z3g ⟨e,h,x⟩ K=zdG C gl (aget e 3) (aget e 6) (aget e 7) (aget e 8) h x K:=by kernel_rfl
theorem zp9 {C gl e h x K}:NW C gl (.loop (.scope z3g)) ⟨e,h,x⟩ K=z0N C gl (.scope z3g) K [(3,aget e 3),(6,aget e 6),(7,aget e 7),(8,aget e 8)] h x:=z11
def z6e:ACode:=.pr [3] (.seq (rg [mV 32 3,
mV 2 32] [2])
.ret)
def z8t (C:Hd) (gl:GL) (v3:AV) (h:Heap) (x:Esc) (K:KT):Prop:=
 K .ret ⟨[(2,v3)],h,x⟩
theorem z8C {C gl e h x K}:NW C gl z6e ⟨e,h,x⟩ K=z8t C gl (aget e 3) h x K:=by kernel_rfl
def zuc (q1 q2:ACode):ACode:=(.seq (rg [mV 2 (cS [])] [0])
(.seq (rg [mV 3 (cS [])] [0,3])
(.seq (.seq (rg [mV 6 0,
lN 7 6,
mV 8 (cI 0)] [3,6,7,8])
(.block 0 (.loop (.scope q1))))
q2)))
def zlb:AFun:=⟨1,[.t 2],zuc z3g z6e,false,false⟩
def zgR (C:Hd) (gl:GL) (q1 q2:ACode) (v0:AV) (h:Heap) (x:Esc) (K:KT):Prop:=
 pK (oLen v0) fun t1=>
 NW C gl (.loop (.scope q1)) ⟨[(3,(.p (.str []))),(6,v0),(7,t1),(8,(AI 0))],h,x⟩ (z0q 0 (seqN C gl q2 K))
theorem E_q04b {C gl q1 q2 v0 h x K}:NW C gl (zuc q1 q2) ⟨enter [v0],h,x⟩ K=zgR C gl q1 q2 v0 h x K:=by kernel_rfl
theorem e_q04b {C gl v0 h x K}:NW C gl zlb.body ⟨enter [v0],h,x⟩ K=zgR C gl z3g z6e v0 h x K:=E_q04b
def P_q023:ACode:=(.seq (rg [mV 4 (.c (.p (.sl (some 4) []))),
mV 5 (cI 0),
mV 6 (cI 0)] [0,1])
(.seq (.seq (rg [mV 12 0,
cL 13 z7e [12],
mV 7 13] [0,1,7])
(.seq (rg [mV 14 7,
bN 15 .neq 14 (cI 0)] [0,1,7,15])
(.cond 15 (.seq (rg [mV 16 7,
mV 4 (.c (.p (.sl (some 4) []))),
mV 5 (cI 0),
mV 6 16] [4,5,6])
.ret)
.skip)))
(.seq (.seq (rg [mV 17 1,
uO 18 (.lens 17),
bN 19 .gtr 18 (cI 200000)] [0,1,19])
(.cond 19 (.seq (rg [mV 4 (.c (.p (.sl (some 4) []))),
mV 5 (cI 0),
mV 6 (cI 2)] [4,5,6])
.ret)
.skip))
(.seq (rg [uO 8 (.uns 8 0 [(.c (.sl0 (some 4)))])] [0,1,8])
(.seq (rg [mV 21 1,
uO 22 (.mkfn z8F [8]),
cL 23 zar [21,22],
mV 20 23,
eX 24 20 0,
eX 25 20 1,
mV 9 24,
mV 10 25] [0,8,9,10])
(.seq (.seq (rg [mV 26 10,
uO 27 (.un .not 26)] [0,8,9,27])
(.cond 27 (.seq (rg [mV 28 9,
mV 4 (.c (.p (.sl (some 4) []))),
mV 5 28,
mV 6 (cI 9)] [4,5,6])
.ret)
.skip))
(.seq (.seq (rg [mV 29 0,
lD 30 none 8,
cL 31 z59 [29,30],
mV 11 31] [8,11])
(.seq (rg [mV 32 11,
bN 33 .neq 32 (cI 0)] [8,11,33])
(.cond 33 (.seq (rg [mV 34 11,
mV 4 (.c (.p (.sl (some 4) []))),
mV 5 (cI 0),
mV 6 34] [4,5,6])
.ret)
.skip)))
(.seq (rg [lD 35 none 8,
mV 4 35,
mV 5 (cI 0),
mV 6 (cI 0)] [4,5,6])
.ret))))))))
def zkx:AFun:=⟨2,[.t 4,.t 5,.t 6],P_q023,false,false⟩
def zag (C:Hd) (gl:GL) (v0 v1:AV) (h:Heap) (x:Esc) (K:KT):Prop:=
 C z7e [v0] h fun t1 h2 y3=>
 pK (oBin .neq t1 (AI 0)) fun t4=>
 z0i t4 (K .ret ⟨[(4,(.p (.sl (some 4) []))),(5,(AI 0)),(6,t1)],h2,(y3++x)⟩)
 (pK (z1g v1) fun t5=>
 pK (oBin .gtr t5 (AI 200000)) fun t6=>
 z0i t6 (K .ret ⟨[(4,(.p (.sl (some 4) []))),(5,(AI 0)),(6,(AI 2))],h2,(y3++x)⟩)
 (wK (z1z 8 0 [.sl0 (some 4)] h2) fun t7 h8 y9=>
 C zar [v1,(.fn z8F [t7])] h8 fun t10 h11 y12=>
 pK (oExt t10 0) fun t13=>
 pK (oExt t10 1) fun t14=>
 pK (oUn .not t14) fun t15=>
 z0i t15 (K .ret ⟨[(4,(.p (.sl (some 4) []))),(5,t13),(6,(AI 9))],h11,(y12++(y9++(y3++x)))⟩)
 (pK (z0g none t7 h11) fun t16=>
 C z59 [v0,t16] h11 fun t17 h18 y19=>
 pK (oBin .neq t17 (AI 0)) fun t20=>
 z0i t20 (K .ret ⟨[(4,(.p (.sl (some 4) []))),(5,(AI 0)),(6,t17)],h18,(y19++(y12++(y9++(y3++x))))⟩)
 (pK (z0g none t7 h18) fun t21=>
 K .ret ⟨[(4,t21),(5,(AI 0)),(6,(AI 0))],h18,(y19++(y12++(y9++(y3++x))))⟩))))
theorem e_q023 {C gl v0 v1 h x K}:NW C gl zkx.body ⟨enter [v0,v1],h,x⟩ K=zag C gl v0 v1 h x K:=by kernel_rfl
def P_q04d:ACode:=(.seq (rg [mV 4 (.c (.p (.sl (some 4) []))),
mV 5 (cI 0),
mV 6 (cI 0)] [0,1])
(.seq (.seq (rg [mV 12 0,
cL 13 z4P [12],
mV 7 13] [0,1,7])
(.seq (rg [mV 14 7,
bN 15 .neq 14 (cI 0)] [0,1,7,15])
(.cond 15 (.seq (rg [mV 16 7,
mV 4 (.c (.p (.sl (some 4) []))),
mV 5 (cI 0),
mV 6 16] [4,5,6])
.ret)
.skip)))
(.seq (.seq (rg [mV 17 1,
uO 18 (.lens 17),
bN 19 .gtr 18 (cI 200000)] [0,1,19])
(.cond 19 (.seq (rg [mV 4 (.c (.p (.sl (some 4) []))),
mV 5 (cI 0),
mV 6 (cI 2)] [4,5,6])
.ret)
.skip))
(.seq (rg [uO 8 (.uns 8 0 [(.c (.sl0 (some 4)))])] [0,1,8])
(.seq (rg [mV 21 1,
uO 22 (.mkfn z8J [8]),
cL 23 zaH [21,22],
mV 20 23,
eX 24 20 0,
eX 25 20 1,
mV 9 24,
mV 10 25] [0,8,9,10])
(.seq (.seq (rg [mV 26 10,
uO 27 (.un .not 26)] [0,8,9,27])
(.cond 27 (.seq (rg [mV 28 9,
mV 4 (.c (.p (.sl (some 4) []))),
mV 5 28,
mV 6 (cI 9)] [4,5,6])
.ret)
.skip))
(.seq (.seq (rg [mV 29 0,
lD 30 none 8,
cL 31 z3T [29,30],
mV 11 31] [8,11])
(.seq (rg [mV 32 11,
bN 33 .neq 32 (cI 0)] [8,11,33])
(.cond 33 (.seq (rg [mV 34 11,
mV 4 (.c (.p (.sl (some 4) []))),
mV 5 (cI 0),
mV 6 34] [4,5,6])
.ret)
.skip)))
(.seq (rg [lD 35 none 8,
mV 4 35,
mV 5 (cI 0),
mV 6 (cI 0)] [4,5,6])
.ret))))))))
def zlc:AFun:=⟨2,[.t 4,.t 5,.t 6],P_q04d,false,false⟩
def zan (C:Hd) (gl:GL) (v0 v1:AV) (h:Heap) (x:Esc) (K:KT):Prop:=
 C z4P [v0] h fun t1 h2 y3=>
 pK (oBin .neq t1 (AI 0)) fun t4=>
 z0i t4 (K .ret ⟨[(4,(.p (.sl (some 4) []))),(5,(AI 0)),(6,t1)],h2,(y3++x)⟩)
 (pK (z1g v1) fun t5=>
 pK (oBin .gtr t5 (AI 200000)) fun t6=>
 z0i t6 (K .ret ⟨[(4,(.p (.sl (some 4) []))),(5,(AI 0)),(6,(AI 2))],h2,(y3++x)⟩)
 (wK (z1z 8 0 [.sl0 (some 4)] h2) fun t7 h8 y9=>
 C zaH [v1,(.fn z8J [t7])] h8 fun t10 h11 y12=>
 pK (oExt t10 0) fun t13=>
 pK (oExt t10 1) fun t14=>
 pK (oUn .not t14) fun t15=>
 z0i t15 (K .ret ⟨[(4,(.p (.sl (some 4) []))),(5,t13),(6,(AI 9))],h11,(y12++(y9++(y3++x)))⟩)
 (pK (z0g none t7 h11) fun t16=>
 C z3T [v0,t16] h11 fun t17 h18 y19=>
 pK (oBin .neq t17 (AI 0)) fun t20=>
 z0i t20 (K .ret ⟨[(4,(.p (.sl (some 4) []))),(5,(AI 0)),(6,t17)],h18,(y19++(y12++(y9++(y3++x))))⟩)
 (pK (z0g none t7 h18) fun t21=>
 K .ret ⟨[(4,t21),(5,(AI 0)),(6,(AI 0))],h18,(y19++(y12++(y9++(y3++x))))⟩))))
theorem e_q04d {C gl v0 v1 h x K}:NW C gl zlc.body ⟨enter [v0,v1],h,x⟩ K=zan C gl v0 v1 h x K:=by kernel_rfl
def z3l:ACode:=.pr [1,2,15,16,17] (.seq (rg [bN 18 .lss 17 16] [1,2,15,16,17,18])
(.seq (.cond 18 .skip
(.exit 0))
(.seq (.block 1 (.seq (rg [mV 19 17,
iA 20 (some 4) 15 17,
lD 21 (some 4) 20,
uO 8 (.alloc [.p (.str []),.p (.int .i64 0),.p (.str []),.sl0 none]),
mV 7 19,
wO (.store (some 4) 8 21)] [1,2,7,8,15,16,17])
(.seq (rg [mV 22 1,
mV 23 7,
iA 24 (some 4) 22 23,
lD 25 (some 4) 24,
uO 9 (.alloc [.p (.str []),.p (.int .i64 0),.p (.str []),.sl0 none]),
wO (.store (some 4) 9 25)] [1,2,8,9,15,16,17])
(.seq (rg [mV 26 2,
lD 27 (some 4) 8,
lD 28 (some 4) 9,
uO 29 (.callv 26 [27,28]),
uO 30 (.un .not 29)] [1,2,15,16,17,30])
(.cond 30 (.seq (rg [mV 6 cF] [6])
.ret)
.skip)))))
(rg [bN 31 .add 17 (cI 1),
mV 17 31] [1,2,15,16,17]))))
def zdU (C:Hd) (gl:GL) (v1 v2 v15 v16 v17:AV) (h:Heap) (x:Esc) (K:KT):Prop:=
 pK (oBin .lss v17 v16) fun t1=>
 z0i t1 (pK (z0p (some 4) v15 v17 h) fun t2=>
 pK (z0g (some 4) t2 h) fun t3=>
 alK [.p (.str []),.p (.int .i64 0),.p (.str []),.sl0 none] h fun t4 h5 y6=>
 wK (z00 (some 4) t4 t3 h5) fun t7 h8 y9=>
 pK (z0p (some 4) v1 v17 h8) fun t10=>
 pK (z0g (some 4) t10 h8) fun t11=>
 alK [.p (.str []),.p (.int .i64 0),.p (.str []),.sl0 none] h8 fun t12 h13 y14=>
 wK (z00 (some 4) t12 t11 h13) fun t15 h16 y17=>
 pK (z0g (some 4) t4 h16) fun t18=>
 pK (z0g (some 4) t12 h16) fun t19=>
 z3M C v2 [t18,t19] h16 fun t20 h21 y22=>
 pK (oUn .not t20) fun t23=>
 z0i t23 (K .ret ⟨[(6,(AB false))],h21,(y22++(y17++(y14++(y9++(y6++x)))))⟩)
 (pK (oBin .add v17 (AI 1)) fun t24=>
 K .normal ⟨[(1,v1),(2,v2),(15,v15),(16,v16),(17,t24)],h21,(y22++(y17++(y14++(y9++(y6++x)))))⟩))
 (K (.exit 0) ⟨[(1,v1),(2,v2),(15,v15),(16,v16),(17,v17),(18,t1)],h,x⟩)
theorem zom {C gl e h x K}:NW C gl z3l ⟨e,h,x⟩ K=zdU C gl (aget e 1) (aget e 2) (aget e 15) (aget e 16) (aget e 17) h x K:=by kernel_rfl
theorem zpF {C gl e h x K}:NW C gl (.loop (.scope z3l)) ⟨e,h,x⟩ K=z0N C gl (.scope z3l) K [(1,aget e 1),(2,aget e 2),(15,aget e 15),(16,aget e 16),(17,aget e 17)] h x:=z11
def z6j:ACode:=.pr [] (.seq (rg [mV 6 cT] [6])
.ret)
def zdV (C:Hd) (gl:GL) (h:Heap) (x:Esc) (K:KT):Prop:=
 K .ret ⟨[(6,(AB true))],h,x⟩
theorem zon {C gl e h x K}:NW C gl z6j ⟨e,h,x⟩ K=zdV C gl h x K:=by kernel_rfl
def zuh (q1 q2:ACode):ACode:=(.seq (rg [mV 6 cF] [0,1,2])
(.seq (.seq (rg [mV 10 0,
lN 11 10,
mV 12 1,
lN 13 12,
bN 14 .neq 11 13] [0,1,2,14])
(.cond 14 (.seq (rg [mV 6 cF] [6])
.ret)
.skip))
(.seq (.seq (rg [mV 15 0,
lN 16 15,
mV 17 (cI 0)] [1,2,15,16,17])
(.block 0 (.loop (.scope q1))))
q2)))
def zls:AFun:=⟨3,[.t 6],zuh z3l z6j,false,false⟩
def zdT (C:Hd) (gl:GL) (q1 q2:ACode) (v0 v1 v2:AV) (h:Heap) (x:Esc) (K:KT):Prop:=
 pK (oLen v0) fun t1=>
 pK (oLen v1) fun t2=>
 pK (oBin .neq t1 t2) fun t3=>
 z0i t3 (K .ret ⟨[(6,(AB false))],h,x⟩)
 (pK (oLen v0) fun t4=>
 NW C gl (.loop (.scope q1)) ⟨[(1,v1),(2,v2),(15,v0),(16,t4),(17,(AI 0))],h,x⟩ (z0q 0 (seqN C gl q2 K)))
theorem E_q05m {C gl q1 q2 v0 v1 v2 h x K}:NW C gl (zuh q1 q2) ⟨enter [v0,v1,v2],h,x⟩ K=zdT C gl q1 q2 v0 v1 v2 h x K:=by kernel_rfl
theorem e_q05m {C gl v0 v1 v2 h x K}:NW C gl zls.body ⟨enter [v0,v1,v2],h,x⟩ K=zdT C gl z3l z6j v0 v1 v2 h x K:=E_q05m
def P_q04i:ACode:=(.seq (rg [uO 2 (.box 0),
uO 3 (.box 1),
mV 4 cF] [2,3])
(.seq (rg [fA 5 0 none 2,
lD 6 none 5,
fA 7 0 none 3,
lD 8 none 7,
bN 9 .eql 6 8,
mV 10 9,
gD 11 10 true (.faddr 1 none 2),
gD 12 10 true (.load none 11),
gD 13 10 true (.faddr 1 none 3),
gD 14 10 true (.load none 13),
gD 15 10 true (.bin .eql 12 14),
uO 16 (.pick 10 15 cF),
mV 17 16,
gD 18 17 true (.faddr 2 none 2),
gD 19 17 true (.load none 18),
gD 20 17 true (.faddr 2 none 3),
gD 21 17 true (.load none 20),
gD 22 17 true (.bin .eql 19 21),
uO 23 (.pick 17 22 cF),
mV 24 23,
gD 25 24 true (.faddr 3 none 2),
gD 26 24 true (.load none 25),
gD 27 24 true (.faddr 3 none 3),
gD 28 24 true (.load none 27),
gD 29 24 true (.call zaU [26,28]),
uO 30 (.pick 24 29 cF),
mV 4 30] [4])
.ret))
def zle:AFun:=⟨2,[.t 4],P_q04i,false,false⟩
def zap (C:Hd) (gl:GL) (v0 v1:AV) (h:Heap) (x:Esc) (K:KT):Prop:=
 wK (oBox v0 h) fun t1 h2 y3=>
 wK (oBox v1 h2) fun t4 h5 y6=>
 pK (z0j 0 none t1) fun t7=>
 pK (z0g none t7 h5) fun t8=>
 pK (z0j 0 none t4) fun t9=>
 pK (z0g none t9 h5) fun t10=>
 pK (oBin .eql t8 t10) fun t11=>
 gP t11 true (z0j 1 none t1) h5 fun t12 h13 y14=>
 gP t11 true (z0g none t12 h13) h13 fun t15 h16 y17=>
 gP t11 true (z0j 1 none t4) h16 fun t18 h19 y20=>
 gP t11 true (z0g none t18 h19) h19 fun t21 h22 y23=>
 gP t11 true (oBin .eql t15 t21) h22 fun t24 h25 y26=>
 pK (z0y t11 t24 (AB false)) fun t27=>
 gP t27 true (z0j 2 none t1) h25 fun t28 h29 y30=>
 gP t27 true (z0g none t28 h29) h29 fun t31 h32 y33=>
 gP t27 true (z0j 2 none t4) h32 fun t34 h35 y36=>
 gP t27 true (z0g none t34 h35) h35 fun t37 h38 y39=>
 gP t27 true (oBin .eql t31 t37) h38 fun t40 h41 y42=>
 pK (z0y t27 t40 (AB false)) fun t43=>
 gP t43 true (z0j 3 none t1) h41 fun t44 h45 y46=>
 gP t43 true (z0g none t44 h45) h45 fun t47 h48 y49=>
 gP t43 true (z0j 3 none t4) h48 fun t50 h51 y52=>
 gP t43 true (z0g none t50 h51) h51 fun t53 h54 y55=>
 gV t43 true h54 (C zaU [t47,t53] h54) fun t56 h57 y58=>
 pK (z0y t43 t56 (AB false)) fun t59=>
 K .ret ⟨[(4,t59)],h57,(y58++(y55++(y52++(y49++(y46++(y42++(y39++(y36++(y33++(y30++(y26++(y23++(y20++(y17++(y14++(y6++(y3++x)))))))))))))))))⟩
theorem e_q04i {C gl v0 v1 h x K}:NW C gl zle.body ⟨enter [v0,v1],h,x⟩ K=zap C gl v0 v1 h x K:=by kernel_rfl
def P_q032:ACode:=(.seq (rg [mV 0 cF] [])
(.seq (rg [uO 5 (.bsl false none 2 (.int .i64 0) [(0,(cI 1)),(1,(cI 3))]),
cL 6 za3 [5],
mV 4 6,
eX 7 4 0,
eX 8 4 1,
eX 9 4 2,
uO 1 (.alloc [.p (.int .i64 0),.p (.int .i64 0)]),
uO 2 (.alloc [.p (.int .i64 0),.p (.int .i64 0)]),
wO (.store (some 2) 1 7),
wO (.store (some 2) 2 8),
mV 3 9] [1,2,3])
(.seq (rg [mV 10 3,
bN 11 .eql 10 (cI 0),
mV 12 11,
gD 13 12 true (.load (some 2) 1),
gD 14 12 true (.build [.p (.int .i64 0),.p (.int .i64 0)] [(0,1,(cI 2)),(1,1,(cI 1))]),
gD 15 12 true (.eqa [0,0] false 13 14),
uO 16 (.pick 12 15 cF),
mV 17 16,
gD 18 17 true (.load (some 2) 2),
gD 19 17 true (.build [.p (.int .i64 0),.p (.int .i64 0)] [(0,1,(cI 1)),(1,1,(cI 1))]),
gD 20 17 true (.eqa [0,0] false 18 19),
uO 21 (.pick 17 20 cF),
mV 0 21] [0])
.ret)))
def zkF:AFun:=⟨0,[.t 0],P_q032,false,false⟩
def zm6 (C:Hd) (gl:GL) (h:Heap) (x:Esc) (K:KT):Prop:=
 wK (oBsl false none 2 (.int .i64 0) [(0,(AI 1)),(1,(AI 3))] h) fun t1 h2 y3=>
 C za3 [t1] h2 fun t4 h5 y6=>
 pK (oExt t4 0) fun t7=>
 pK (oExt t4 1) fun t8=>
 pK (oExt t4 2) fun t9=>
 alK [.p (.int .i64 0),.p (.int .i64 0)] h5 fun t10 h11 y12=>
 alK [.p (.int .i64 0),.p (.int .i64 0)] h11 fun t13 h14 y15=>
 wK (z00 (some 2) t10 t7 h14) fun t16 h17 y18=>
 wK (z00 (some 2) t13 t8 h17) fun t19 h20 y21=>
 pK (oBin .eql t9 (AI 0)) fun t22=>
 gP t22 true (z0g (some 2) t10 h20) h20 fun t23 h24 y25=>
 gP t22 true (z1E [.p (.int .i64 0),.p (.int .i64 0)] [(0,1,(AI 2)),(1,1,(AI 1))]) h24 fun t26 h27 y28=>
 gP t22 true (oEqa [0,0] false t23 t26) h27 fun t29 h30 y31=>
 pK (z0y t22 t29 (AB false)) fun t32=>
 gP t32 true (z0g (some 2) t13 h30) h30 fun t33 h34 y35=>
 gP t32 true (z1E [.p (.int .i64 0),.p (.int .i64 0)] [(0,1,(AI 1)),(1,1,(AI 1))]) h34 fun t36 h37 y38=>
 gP t32 true (oEqa [0,0] false t33 t36) h37 fun t39 h40 y41=>
 pK (z0y t32 t39 (AB false)) fun t42=>
 K .ret ⟨[(0,t42)],h40,(y41++(y38++(y35++(y31++(y28++(y25++(y21++(y18++(y15++(y12++(y6++(y3++x))))))))))))⟩
theorem e_q032 {C gl h x K}:NW C gl zkF.body ⟨enter [],h,x⟩ K=zm6 C gl h x K:=by kernel_rfl
def P_q03s:ACode:=(.seq (rg [mV 4 (cS [])] [0,1])
(.seq (rg [mV 5 1,
mV 6 0,
mV 7 1,
lN 8 7,
cL 9 z1c [6,8],
iA 10 none 5 9,
lD 11 none 10,
mV 4 11] [4])
.ret))
def zkT:AFun:=⟨2,[.t 4],P_q03s,false,false⟩
def zmB (C:Hd) (gl:GL) (v0 v1:AV) (h:Heap) (x:Esc) (K:KT):Prop:=
 pK (oLen v1) fun t1=>
 C z1c [v0,t1] h fun t2 h3 y4=>
 pK (z0p none v1 t2 h3) fun t5=>
 pK (z0g none t5 h3) fun t6=>
 K .ret ⟨[(4,t6)],h3,(y4++x)⟩
theorem e_q03s {C gl v0 v1 h x K}:NW C gl zkT.body ⟨enter [v0,v1],h,x⟩ K=zmB C gl v0 v1 h x K:=by kernel_rfl
def z3m:ACode:=.pr [0,1,12,13] (.seq (rg [bN 14 .lss 13 12] [0,1,12,13,14])
(.seq (.cond 14 .skip
(.exit 0))
(.seq (.block 1 (.seq (rg [mV 15 13,
mV 5 15] [0,1,5,12,13])
(.seq (dr [dF (mV 16 0) [0],
dF (mV 17 5) [5],
dF (iA 18 none 16 17) [16,17],
dF (lD 19 none 18) [18],
dF (mV 20 1) [1],
dF (mV 21 5) [5],
dF (iA 22 none 20 21) [20,21],
dF (lD 23 none 22) [22],
dF (bN 24 .neq 19 23) [19,23]] [0,1,12,13,24])
(.cond 24 (.seq (rg [mV 4 cF] [4])
.ret)
.skip))))
(rg [bN 25 .add 13 (cI 1),
mV 13 25] [0,1,12,13]))))
def zdX (C:Hd) (gl:GL) (v0 v1 v12 v13:AV) (h:Heap) (x:Esc) (K:KT):Prop:=
 pK (oBin .lss v13 v12) fun t1=>
 z0i t1 (pK (z0p none v0 v13 h) fun t2=>
 pK (z0g none t2 h) fun t3=>
 pK (z0p none v1 v13 h) fun t4=>
 pK (z0g none t4 h) fun t5=>
 pK (oBin .neq t3 t5) fun t6=>
 z0i t6 (K .ret ⟨[(4,(AB false))],h,x⟩)
 (pK (oBin .add v13 (AI 1)) fun t7=>
 K .normal ⟨[(0,v0),(1,v1),(12,v12),(13,t7)],h,x⟩))
 (K (.exit 0) ⟨[(0,v0),(1,v1),(12,v12),(13,v13),(14,t1)],h,x⟩)
theorem zoo {C gl e h x K}:NW C gl z3m ⟨e,h,x⟩ K=zdX C gl (aget e 0) (aget e 1) (aget e 12) (aget e 13) h x K:=by kernel_rfl
theorem zpG {C gl e h x K}:NW C gl (.loop z3m) ⟨e,h,x⟩ K=z0N C gl z3m K [(0,aget e 0),(1,aget e 1),(12,aget e 12),(13,aget e 13)] h x:=z0x
def z6k:ACode:=.pr [] (.seq (rg [mV 4 cT] [4])
.ret)
def zdY (C:Hd) (gl:GL) (h:Heap) (x:Esc) (K:KT):Prop:=
 K .ret ⟨[(4,(AB true))],h,x⟩
theorem zop {C gl e h x K}:NW C gl z6k ⟨e,h,x⟩ K=zdY C gl h x K:=by kernel_rfl
def zui (q1 q2:ACode):ACode:=(.seq (rg [mV 4 cF] [0,1])
(.seq (.seq (rg [mV 6 0,
lN 7 6,
mV 8 1,
lN 9 8,
bN 10 .neq 7 9] [0,1,10])
(.cond 10 (.seq (rg [mV 4 cF] [4])
.ret)
.skip))
(.seq (.seq (rg [mV 11 0,
lN 12 11,
mV 13 (cI 0)] [0,1,12,13])
(.block 0 (.loop q1)))
q2)))
def zlt:AFun:=⟨2,[.t 4],zui z3m z6k,false,false⟩
def zdW (C:Hd) (gl:GL) (q1 q2:ACode) (v0 v1:AV) (h:Heap) (x:Esc) (K:KT):Prop:=
 pK (oLen v0) fun t1=>
 pK (oLen v1) fun t2=>
 pK (oBin .neq t1 t2) fun t3=>
 z0i t3 (K .ret ⟨[(4,(AB false))],h,x⟩)
 (pK (oLen v0) fun t4=>
 NW C gl (.loop q1) ⟨[(0,v0),(1,v1),(12,t4),(13,(AI 0))],h,x⟩ (z0q 0 (seqN C gl q2 K)))
theorem E_q05q {C gl q1 q2 v0 v1 h x K}:NW C gl (zui q1 q2) ⟨enter [v0,v1],h,x⟩ K=zdW C gl q1 q2 v0 v1 h x K:=by kernel_rfl
theorem e_q05q {C gl v0 v1 h x K}:NW C gl zlt.body ⟨enter [v0,v1],h,x⟩ K=zdW C gl z3m z6k v0 v1 h x K:=E_q05q
def P_q03j:ACode:=(.seq (rg [mV 4 (cI 0)] [0,1])
(.seq (rg [mV 5 1,
mV 6 0,
mV 7 1,
lN 8 7,
cL 9 z1c [6,8],
iA 10 none 5 9,
lD 11 none 10,
mV 4 11] [4])
.ret))
def zkM:AFun:=⟨2,[.t 4],P_q03j,false,false⟩
def zm8 (C:Hd) (gl:GL) (v0 v1:AV) (h:Heap) (x:Esc) (K:KT):Prop:=
 pK (oLen v1) fun t1=>
 C z1c [v0,t1] h fun t2 h3 y4=>
 pK (z0p none v1 t2 h3) fun t5=>
 pK (z0g none t5 h3) fun t6=>
 K .ret ⟨[(4,t6)],h3,(y4++x)⟩
theorem e_q03j {C gl v0 v1 h x K}:NW C gl zkM.body ⟨enter [v0,v1],h,x⟩ K=zm8 C gl v0 v1 h x K:=by kernel_rfl
def P_q03f:ACode:=(.seq (rg [mV 4 cF] [0,1])
(.seq (rg [mV 5 0,
mV 6 1,
cL 7 z1c [5,6],
bN 8 .eql 7 (cI 0),
mV 4 8] [4])
.ret))
def zkI:AFun:=⟨2,[.t 4],P_q03f,false,false⟩
def zm7 (C:Hd) (gl:GL) (v0 v1:AV) (h:Heap) (x:Esc) (K:KT):Prop:=
 C z1c [v0,v1] h fun t1 h2 y3=>
 pK (oBin .eql t1 (AI 0)) fun t4=>
 K .ret ⟨[(4,t4)],h2,(y3++x)⟩
theorem e_q03f {C gl v0 v1 h x K}:NW C gl zkI.body ⟨enter [v0,v1],h,x⟩ K=zm7 C gl v0 v1 h x K:=by kernel_rfl
def P_q03i:ACode:=(.seq (rg [mV 6 (cI 0)] [0,1,2])
(.seq (.seq (rg [mV 7 0,
cL 8 z2l [7,(cI 12)]] [0,1,2,8])
(.cond 8 (.seq (rg [mV 9 0,
mV 10 1,
bN 11 .sub 10 (cI 1),
mV 12 2,
bN 13 .add 12 (cI 1),
mV 14 1,
mV 15 2,
uO 16 (.bsl false none 6 (.int .i64 0) [(0,11),(1,13),(2,14),(3,15),(4,(cI (-1099511627776))),(5,(cI 1099511627776))]),
cL 17 z1j [9,16],
mV 6 17] [6])
.ret)
.skip))
(.seq (rg [mV 18 0,
mV 19 1,
mV 20 2,
cL 21 z2m [18,19,20],
mV 6 21] [6])
.ret)))
def zkL:AFun:=⟨3,[.t 6],P_q03i,false,false⟩
def zgM (C:Hd) (gl:GL) (v0 v1 v2:AV) (h:Heap) (x:Esc) (K:KT):Prop:=
 C z2l [v0,(AI 12)] h fun t1 h2 y3=>
 z0i t1 (pK (oBin .sub v1 (AI 1)) fun t4=>
 pK (oBin .add v2 (AI 1)) fun t5=>
 wK (oBsl false none 6 (.int .i64 0) [(0,t4),(1,t5),(2,v1),(3,v2),(4,(AI (-1099511627776))),(5,(AI 1099511627776))] h2) fun t6 h7 y8=>
 C z1j [v0,t6] h7 fun t9 h10 y11=>
 K .ret ⟨[(6,t9)],h10,(y11++(y8++(y3++x)))⟩)
 (C z2m [v0,v1,v2] h2 fun t12 h13 y14=>
 K .ret ⟨[(6,t12)],h13,(y14++(y3++x))⟩)
theorem e_q03i {C gl v0 v1 v2 h x K}:NW C gl zkL.body ⟨enter [v0,v1,v2],h,x⟩ K=zgM C gl v0 v1 v2 h x K:=by kernel_rfl
end Go.Am
end
section
/- The functions asv abstract code,and asv formulas over their values: printed by program out of the translation. -/
set_option linter.unusedVariables false
set_option maxRecDepth 100000
namespace Go.Am
def P_q03h:ACode:=(.seq (rg [mV 4 (cI 0)] [0,1])
(.seq (rg [mV 7 0,
uO 8 (.nilchk 7),
fA 9 1 none 8,
lD 10 none 9,
bN 11 .add 10 (cI 1),
uO 12 (.nilchk 7),
fA 13 1 none 12,
wO (.store none 13 11)] [0,1])
(.seq (.seq (rg [mV 14 0,
uO 15 (.nilchk 14),
fA 16 0 none 15,
lD 17 none 16,
lN 18 17,
bN 19 .eql 18 (cI 0)] [0,1,19])
(.cond 19 (.seq (rg [mV 20 0,
uO 21 (.nilchk 20),
fA 22 1 none 21,
lD 23 none 22,
bN 24 .mul 23 (cI 7919),
mV 25 1,
cL 26 z4N [24,25],
mV 4 26] [4])
.ret)
.skip))
(.seq (dr [dF (mV 27 0) [0],
dF (uO 28 (.nilchk 27)) [27],
dF (fA 29 1 none 28) [28],
dF (lD 30 none 29) [29],
dF (bN 31 .sub 30 (cI 1)) [30],
dF (mV 32 0) [0],
dF (uO 33 (.nilchk 32)) [32],
dF (fA 34 0 none 33) [33],
dF (lD 35 none 34) [34],
dF (lN 36 35) [35],
dF (bN 37 .rem 31 36) [31,36],
dF (mV 5 37) [37]] [0,1,5])
(.seq (dr [dF (mV 38 0) [0],
dF (uO 39 (.nilchk 38)) [38],
dF (fA 40 1 none 39) [39],
dF (lD 41 none 40) [40],
dF (bN 42 .sub 41 (cI 1)) [41],
dF (mV 43 0) [0],
dF (uO 44 (.nilchk 43)) [43],
dF (fA 45 0 none 44) [44],
dF (lD 46 none 45) [45],
dF (lN 47 46) [46],
dF (bN 48 .quo 42 47) [42,47],
dF (mV 6 48) [48]] [0,1,5,6])
(.seq (rg [mV 49 0,
uO 50 (.nilchk 49),
fA 51 0 none 50,
lD 52 none 51,
mV 53 5,
iA 54 none 52 53,
lD 55 none 54,
cL 56 z4N [55,(cI 1073741824)],
mV 57 6,
mV 58 5,
bN 59 .add (cI 7919) 58,
bN 60 .mul 57 59,
bN 61 .add 56 60,
mV 62 1,
cL 63 z4N [61,62],
mV 4 63] [4])
.ret))))))
def zkK:AFun:=⟨2,[.t 4],P_q03h,false,false⟩
def zgL (C:Hd) (gl:GL) (v0 v1:AV) (h:Heap) (x:Esc) (K:KT):Prop:=
 pK (oNil v0) fun t1=>
 pK (z0j 1 none t1) fun t2=>
 pK (z0g none t2 h) fun t3=>
 pK (oBin .add t3 (AI 1)) fun t4=>
 pK (oNil v0) fun t5=>
 pK (z0j 1 none t5) fun t6=>
 wK (z00 none t6 t4 h) fun t7 h8 y9=>
 pK (oNil v0) fun t10=>
 pK (z0j 0 none t10) fun t11=>
 pK (z0g none t11 h8) fun t12=>
 pK (oLen t12) fun t13=>
 pK (oBin .eql t13 (AI 0)) fun t14=>
 z0i t14 (pK (oNil v0) fun t15=>
 pK (z0j 1 none t15) fun t16=>
 pK (z0g none t16 h8) fun t17=>
 pK (oBin .mul t17 (AI 7919)) fun t18=>
 C z4N [t18,v1] h8 fun t19 h20 y21=>
 K .ret ⟨[(4,t19)],h20,(y21++(y9++x))⟩)
 (pK (oNil v0) fun t22=>
 pK (z0j 1 none t22) fun t23=>
 pK (z0g none t23 h8) fun t24=>
 pK (oBin .sub t24 (AI 1)) fun t25=>
 pK (oNil v0) fun t26=>
 pK (z0j 0 none t26) fun t27=>
 pK (z0g none t27 h8) fun t28=>
 pK (oLen t28) fun t29=>
 pK (oBin .rem t25 t29) fun t30=>
 pK (oNil v0) fun t31=>
 pK (z0j 1 none t31) fun t32=>
 pK (z0g none t32 h8) fun t33=>
 pK (oBin .sub t33 (AI 1)) fun t34=>
 pK (oNil v0) fun t35=>
 pK (z0j 0 none t35) fun t36=>
 pK (z0g none t36 h8) fun t37=>
 pK (oLen t37) fun t38=>
 pK (oBin .quo t34 t38) fun t39=>
 pK (oNil v0) fun t40=>
 pK (z0j 0 none t40) fun t41=>
 pK (z0g none t41 h8) fun t42=>
 pK (z0p none t42 t30 h8) fun t43=>
 pK (z0g none t43 h8) fun t44=>
 C z4N [t44,(AI 1073741824)] h8 fun t45 h46 y47=>
 pK (oBin .add (AI 7919) t30) fun t48=>
 pK (oBin .mul t39 t48) fun t49=>
 pK (oBin .add t45 t49) fun t50=>
 C z4N [t50,v1] h46 fun t51 h52 y53=>
 K .ret ⟨[(4,t51)],h52,(y53++(y47++(y9++x)))⟩)
theorem e_q03h {C gl v0 v1 h x K}:NW C gl zkK.body ⟨enter [v0,v1],h,x⟩ K=zgL C gl v0 v1 h x K:=by kernel_rfl
def P_q063:ACode:=(rg [mV 4 0,
mV 5 0,
lN 6 5,
mV 7 1,
cL 8 zaY [4,6,7]] [])
def zlx:AFun:=⟨2,[],P_q063,true,false⟩
def zmK (C:Hd) (gl:GL) (v0 v1:AV) (h:Heap) (x:Esc) (K:KT):Prop:=
 pK (oLen v0) fun t1=>
 C zaY [v0,t1,v1] h fun t2 h3 y4=>
 K .normal ⟨[],h3,(y4++x)⟩
theorem e_q063 {C gl v0 v1 h x K}:NW C gl zlx.body ⟨enter [v0,v1],h,x⟩ K=zmK C gl v0 v1 h x K:=by kernel_rfl
def P_q03n:ACode:=(.seq (rg [uO 2 (.box 0),
uO 3 (.box 1),
mV 4 (cI 0)] [2,3])
(.seq (dr [dF (fA 5 1 none 2) [2],
dF (lD 6 none 5) [5],
dF (fA 7 1 none 3) [3],
dF (lD 8 none 7) [7],
dT (cL 9 z7a [6,8]) [6,8],
dF (fA 10 0 none 2) [2],
dA (lD 11 none 10) [10] false [4] [],
dF (fA 12 0 none 3) [3],
dA (lD 13 none 12) [12] false [4] [],
dT (cL 14 z4S [11,13]) [11,13],
dF (uO 15 (.bsl false none 2 (.int .i64 0) [(0,9),(1,14)])) [9,14],
dT (cL 16 z7b [15]) [15],
dF (mV 4 16) [16]] [4])
.ret))
def zkQ:AFun:=⟨2,[.t 4],P_q03n,false,false⟩
def zmA (C:Hd) (gl:GL) (v0 v1:AV) (h:Heap) (x:Esc) (K:KT):Prop:=
 wK (oBox v0 h) fun t1 h2 y3=>
 wK (oBox v1 h2) fun t4 h5 y6=>
 pK (z0j 1 none t1) fun t7=>
 pK (z0g none t7 h5) fun t8=>
 pK (z0j 1 none t4) fun t9=>
 pK (z0g none t9 h5) fun t10=>
 z1Q C z7a [t8,t10] h5 fun t11 h12 y13=>
 pK (z0j 0 none t1) fun t14=>
 pK (z0g none t14 h12) fun t15=>
 (pK (z0g none t14 h5) fun v=>(fun u (g1:Heap) (y1:Esc)=>u=t15∧g1=h5∧y1=[]) v h5 [])∧(pK (z0j 0 none t4) fun t16=>
 pK (z0g none t16 h12) fun t17=>
 (pK (z0g none t16 h5) fun v=>(fun u (g1:Heap) (y1:Esc)=>u=t17∧g1=h5∧y1=[]) v h5 [])∧(z1Q C z4S [t15,t17] h12 fun t18 h19 y20=>
 wK (oBsl false none 2 (.int .i64 0) [(0,t11),(1,t18)] h19) fun t21 h22 y23=>
 (h22=h19∧y23=[])∧(z1Q C z7b [t21] h22 fun t24 h25 y26=>
 K .ret ⟨[(4,t24)],h25,(y26++(y23++(y20++(y13++(y6++(y3++x))))))⟩)))
theorem e_q03n {C gl v0 v1 h x K}:NW C gl zkQ.body ⟨enter [v0,v1],h,x⟩ K=zmA C gl v0 v1 h x K:=by kernel_rfl
def z2Q:ACode:=.pr [3,6,7,8] (.seq (rg [bN 9 .lss 8 7] [3,6,7,8,9])
(.seq (.cond 9 .skip
(.exit 0))
(.seq (.block 1 (.seq (rg [iA 10 none 6 8,
lD 11 none 10,
mV 5 11] [3,5,6,7,8])
(.seq (rg [mV 12 5,
mV 13 3,
bN 14 .neq 12 13] [3,5,6,7,8,14])
(.cond 14 (.seq (rg [mV 15 5,
mV 2 15] [2])
.ret)
.skip))))
(rg [bN 16 .add 8 (cI 1),
mV 8 16] [3,6,7,8]))))
def zcY (C:Hd) (gl:GL) (v3 v6 v7 v8:AV) (h:Heap) (x:Esc) (K:KT):Prop:=
 pK (oBin .lss v8 v7) fun t1=>
 z0i t1 (pK (z0p none v6 v8 h) fun t2=>
 pK (z0g none t2 h) fun t3=>
 pK (oBin .neq t3 v3) fun t4=>
 z0i t4 (K .ret ⟨[(2,t3)],h,x⟩)
 (pK (oBin .add v8 (AI 1)) fun t5=>
 K .normal ⟨[(3,v3),(6,v6),(7,v7),(8,t5)],h,x⟩))
 (K (.exit 0) ⟨[(3,v3),(6,v6),(7,v7),(8,v8),(9,t1)],h,x⟩)
theorem znr {C gl e h x K}:NW C gl z2Q ⟨e,h,x⟩ K=zcY C gl (aget e 3) (aget e 6) (aget e 7) (aget e 8) h x K:=by kernel_rfl
theorem zpp {C gl e h x K}:NW C gl (.loop z2Q) ⟨e,h,x⟩ K=z0N C gl z2Q K [(3,aget e 3),(6,aget e 6),(7,aget e 7),(8,aget e 8)] h x:=z0x
def z5M:ACode:=.pr [3] (.seq (rg [mV 17 3,
mV 2 17] [2])
.ret)
def zcZ (C:Hd) (gl:GL) (v3:AV) (h:Heap) (x:Esc) (K:KT):Prop:=
 K .ret ⟨[(2,v3)],h,x⟩
theorem zns {C gl e h x K}:NW C gl z5M ⟨e,h,x⟩ K=zcZ C gl (aget e 3) h x K:=by kernel_rfl
def ztJ (q1 q2:ACode):ACode:=(.seq (rg [mV 2 (cI 0)] [0])
(.seq (rg [mV 3 (cI 0)] [0,3])
(.seq (.seq (rg [mV 6 0,
lN 7 6,
mV 8 (cI 0)] [3,6,7,8])
(.block 0 (.loop q1)))
q2)))
def zki:AFun:=⟨1,[.t 2],ztJ z2Q z5M,false,false⟩
def zg7 (C:Hd) (gl:GL) (q1 q2:ACode) (v0:AV) (h:Heap) (x:Esc) (K:KT):Prop:=
 pK (oLen v0) fun t1=>
 NW C gl (.loop q1) ⟨[(3,(AI 0)),(6,v0),(7,t1),(8,(AI 0))],h,x⟩ (z0q 0 (seqN C gl q2 K))
theorem E_q00u {C gl q1 q2 v0 h x K}:NW C gl (ztJ q1 q2) ⟨enter [v0],h,x⟩ K=zg7 C gl q1 q2 v0 h x K:=by kernel_rfl
theorem e_q00u {C gl v0 h x K}:NW C gl zki.body ⟨enter [v0],h,x⟩ K=zg7 C gl z2Q z5M v0 h x K:=E_q00u
def P_q00s:ACode:=(.seq (rg [mV 4 (cI 0)] [0,1])
(.seq (rg [mV 7 0,
cL 8 z7c [7],
mV 5 8] [0,1,5])
(.seq (rg [mV 9 1,
cL 10 z7c [9],
mV 6 10] [0,1,5,6])
(.seq (.seq (rg [mV 11 5] [0,1,6,11])
(.cond 11 (.seq (.seq (rg [mV 12 6] [12])
(.cond 12 (.seq (rg [mV 4 (cI 0)] [4])
.ret)
.skip))
(.seq (rg [mV 4 (cI (-1))] [4])
.ret))
.skip))
(.seq (.seq (rg [mV 13 6] [0,1,13])
(.cond 13 (.seq (rg [mV 4 (cI 1)] [4])
.ret)
.skip))
(.seq (.seq (rg [mV 14 0,
mV 15 1,
bN 16 .lss 14 15] [0,1,16])
(.cond 16 (.seq (rg [mV 4 (cI (-1))] [4])
.ret)
.skip))
(.seq (.seq (rg [mV 17 0,
mV 18 1,
bN 19 .gtr 17 18] [19])
(.cond 19 (.seq (rg [mV 4 (cI 1)] [4])
.ret)
.skip))
(.seq (rg [mV 4 (cI 0)] [4])
.ret))))))))
def zkh:AFun:=⟨2,[.t 4],P_q00s,false,false⟩
def zcX (C:Hd) (gl:GL) (v0 v1:AV) (h:Heap) (x:Esc) (K:KT):Prop:=
 C z7c [v0] h fun t1 h2 y3=>
 C z7c [v1] h2 fun t4 h5 y6=>
 z0i t1 (z0i t4 (K .ret ⟨[(4,(AI 0))],h5,(y6++(y3++x))⟩)
 (K .ret ⟨[(4,(AI (-1)))],h5,(y6++(y3++x))⟩))
 (z0i t4 (K .ret ⟨[(4,(AI 1))],h5,(y6++(y3++x))⟩)
 (pK (oBin .lss v0 v1) fun t7=>
 z0i t7 (K .ret ⟨[(4,(AI (-1)))],h5,(y6++(y3++x))⟩)
 (pK (oBin .gtr v0 v1) fun t8=>
 z0i t8 (K .ret ⟨[(4,(AI 1))],h5,(y6++(y3++x))⟩)
 (K .ret ⟨[(4,(AI 0))],h5,(y6++(y3++x))⟩))))
theorem e_q00s {C gl v0 v1 h x K}:NW C gl zkh.body ⟨enter [v0,v1],h,x⟩ K=zcX C gl v0 v1 h x K:=by kernel_rfl
def P_q091:ACode:=(.seq (rg [mV 4 (cI 0)] [0,1])
(.seq (rg [mV 5 0,
mV 6 1,
cL 7 zaw [5,6],
mV 4 7] [4])
.ret))
def zl5:AFun:=⟨2,[.t 4],P_q091,false,false⟩
def zmO (C:Hd) (gl:GL) (v0 v1:AV) (h:Heap) (x:Esc) (K:KT):Prop:=
 C zaw [v0,v1] h fun t1 h2 y3=>
 K .ret ⟨[(4,t1)],h2,(y3++x)⟩
theorem e_q091 {C gl v0 v1 h x K}:NW C gl zl5.body ⟨enter [v0,v1],h,x⟩ K=zmO C gl v0 v1 h x K:=by kernel_rfl
def z9n:ACode:=.pr [0,1,5,6,7] (rg [mV 36 7,
bN 37 .add 36 (cI 1),
mV 7 37] [0,1,5,6,7])
def zdP (C:Hd) (gl:GL) (v0 v1 v5 v6 v7:AV) (h:Heap) (x:Esc) (K:KT):Prop:=
 pK (oBin .add v7 (AI 1)) fun t1=>
 K .normal ⟨[(0,v0),(1,v1),(5,v5),(6,v6),(7,t1)],h,x⟩
theorem zog {C gl e h x K}:NW C gl z9n ⟨e,h,x⟩ K=zdP C gl (aget e 0) (aget e 1) (aget e 5) (aget e 6) (aget e 7) h x K:=by kernel_rfl
def zc5 (q1:ACode):ACode:=.pr [0,1,5,6,7] (.seq (.seq (rg [mV 32 7,
mV 33 6,
lN 34 33,
bN 35 .lss 32 34] [0,1,5,6,7,35])
(.cond 35 .skip
(.exit 2)))
(.seq (.block 3 (.seq (dr [dF (mV 38 1) [1],
dF (mV 39 6) [6],
dF (mV 40 7) [7],
dF (iA 41 (some 4) 39 40) [39,40],
dF (lD 42 (some 4) 41) [41],
dF (mV 43 6) [6],
dF (mV 44 7) [7],
dF (bN 45 .sub 44 (cI 1)) [44],
dF (iA 46 (some 4) 43 45) [43,45],
dF (lD 47 (some 4) 46) [46],
dT (uO 48 (.callv 38 [42,47])) [38,42,47],
dF (uO 49 (.un .not 48)) [48]] [0,1,5,6,7,49])
(.cond 49 (.seq (rg [mV 50 0,
mV 51 5,
mV 52 6,
mV 53 7,
iA 54 (some 4) 52 53,
lD 55 (some 4) 54,
iA 56 (some 4) 50 51,
wO (.store (some 4) 56 55)] [0,1,5,6,7])
(rg [mV 57 5,
bN 58 .add 57 (cI 1),
mV 5 58] [0,1,5,6,7]))
.skip)))
q1))
def z4i:ACode:=zc5 z9n
def z8u (C:Hd) (gl:GL) (q1:ACode) (v0 v1 v5 v6 v7:AV) (h:Heap) (x:Esc) (K:KT):Prop:=
 pK (oLen v6) fun t1=>
 pK (oBin .lss v7 t1) fun t2=>
 z0i t2 (pK (z0p (some 4) v6 v7 h) fun t3=>
 pK (z0g (some 4) t3 h) fun t4=>
 pK (oBin .sub v7 (AI 1)) fun t5=>
 pK (z0p (some 4) v6 t5 h) fun t6=>
 pK (z0g (some 4) t6 h) fun t7=>
 z5s C v1 [t4,t7] h fun t8 h9 y10=>
 pK (oUn .not t8) fun t11=>
 z0i t11 (pK (z0p (some 4) v6 v7 h9) fun t12=>
 pK (z0g (some 4) t12 h9) fun t13=>
 pK (z0p (some 4) v0 v5 h9) fun t14=>
 wK (z00 (some 4) t14 t13 h9) fun t15 h16 y17=>
 pK (oBin .add v5 (AI 1)) fun t18=>
 NW C gl q1 ⟨[(0,v0),(1,v1),(5,t18),(6,v6),(7,v7)],h16,(y17++(y10++x))⟩ K)
 (NW C gl q1 ⟨[(0,v0),(1,v1),(5,v5),(6,v6),(7,v7),(49,t11)],h9,(y10++x)⟩ K))
 (K (.exit 2) ⟨[(0,v0),(1,v1),(5,v5),(6,v6),(7,v7),(35,t2)],h,x⟩)
theorem zjK {C gl q1 e h x K}:NW C gl (zc5 q1) ⟨e,h,x⟩ K=z8u C gl q1 (aget e 0) (aget e 1) (aget e 5) (aget e 6) (aget e 7) h x K:=by kernel_rfl
theorem zoh {C gl e h x K}:NW C gl z4i ⟨e,h,x⟩ K=z8u C gl z9n (aget e 0) (aget e 1) (aget e 5) (aget e 6) (aget e 7) h x K:=zjK
theorem zpD {C gl e h x K}:NW C gl (.loop z4i) ⟨e,h,x⟩ K=z0N C gl z4i K [(0,aget e 0),(1,aget e 1),(5,aget e 5),(6,aget e 6),(7,aget e 7)] h x:=z0x
def z9o:ACode:=.pr [0,5] (.seq (rg [mV 59 0,
mV 60 5,
uO 61 (.slice (some 4) 59 (some 60) none none),
wO (.clr (some 4) (.agg [.str [],.int .i64 0,.str [],.sl none []]) 61)] [0,5])
(.seq (rg [mV 62 0,
mV 63 5,
uO 64 (.slice (some 4) 62 none (some 63) none),
mV 4 64] [4])
.ret))
def zdQ (C:Hd) (gl:GL) (v0 v5:AV) (h:Heap) (x:Esc) (K:KT):Prop:=
 pK (z2q (some 4) v0 (some v5) none none h) fun t1=>
 wK (oClr (some 4) (.agg [.str [],.int .i64 0,.str [],.sl none []]) t1 h) fun t2 h3 y4=>
 pK (z2q (some 4) v0 none (some v5) none h3) fun t5=>
 K .ret ⟨[(4,t5)],h3,(y4++x)⟩
theorem zoi {C gl e h x K}:NW C gl z9o ⟨e,h,x⟩ K=zdQ C gl (aget e 0) (aget e 5) h x K:=by kernel_rfl
def z9p:ACode:=.pr [0,1,5] (rg [mV 16 5,
bN 17 .add 16 (cI 1),
mV 5 17] [0,1,5])
def zdR (C:Hd) (gl:GL) (v0 v1 v5:AV) (h:Heap) (x:Esc) (K:KT):Prop:=
 pK (oBin .add v5 (AI 1)) fun t1=>
 K .normal ⟨[(0,v0),(1,v1),(5,t1)],h,x⟩
theorem zoj {C gl e h x K}:NW C gl z9p ⟨e,h,x⟩ K=zdR C gl (aget e 0) (aget e 1) (aget e 5) h x K:=by kernel_rfl
def zc6 (q2 q3 q4:ACode):ACode:=.pr [0,1,5] (.seq (.seq (rg [mV 12 5,
mV 13 0,
lN 14 13,
bN 15 .lss 12 14] [0,1,5,15])
(.cond 15 .skip
(.exit 0)))
(.seq (.block 1 (.seq (dr [dF (mV 18 1) [1],
dF (mV 19 0) [0],
dF (mV 20 5) [5],
dF (iA 21 (some 4) 19 20) [19,20],
dF (lD 22 (some 4) 21) [21],
dF (mV 23 0) [0],
dF (mV 24 5) [5],
dF (bN 25 .sub 24 (cI 1)) [24],
dF (iA 26 (some 4) 23 25) [23,25],
dF (lD 27 (some 4) 26) [26],
dT (uO 28 (.callv 18 [22,27])) [18,22,27]] [0,1,5,28])
(.cond 28 (.seq (rg [mV 29 0,
mV 30 5,
uO 31 (.slice (some 4) 29 (some 30) none none),
mV 6 31] [0,1,5,6])
(.seq (.seq (rg [mV 7 (cI 1)] [0,1,5,6,7])
(.block 2 (.loop q2)))
q3))
.skip)))
q4))
def z3k:ACode:=zc6 z4i z9o z9p
def z8v (C:Hd) (gl:GL) (q2 q3 q4:ACode) (v0 v1 v5:AV) (h:Heap) (x:Esc) (K:KT):Prop:=
 pK (oLen v0) fun t1=>
 pK (oBin .lss v5 t1) fun t2=>
 z0i t2 (pK (z0p (some 4) v0 v5 h) fun t3=>
 pK (z0g (some 4) t3 h) fun t4=>
 pK (oBin .sub v5 (AI 1)) fun t5=>
 pK (z0p (some 4) v0 t5 h) fun t6=>
 pK (z0g (some 4) t6 h) fun t7=>
 z5s C v1 [t4,t7] h fun t8 h9 y10=>
 z0i t8 (pK (z2q (some 4) v0 (some v5) none none h9) fun t11=>
 NW C gl (.loop q2) ⟨[(0,v0),(1,v1),(5,v5),(6,t11),(7,(AI 1))],h9,(y10++x)⟩ (z0q 2 (seqN C gl q3 (z0q 1 (seqN C gl q4 K)))))
 (NW C gl q4 ⟨[(0,v0),(1,v1),(5,v5),(28,t8)],h9,(y10++x)⟩ K))
 (K (.exit 0) ⟨[(0,v0),(1,v1),(5,v5),(15,t2)],h,x⟩)
theorem zjL {C gl q2 q3 q4 e h x K}:NW C gl (zc6 q2 q3 q4) ⟨e,h,x⟩ K=z8v C gl q2 q3 q4 (aget e 0) (aget e 1) (aget e 5) h x K:=by kernel_rfl
theorem zok {C gl e h x K}:NW C gl z3k ⟨e,h,x⟩ K=z8v C gl z4i z9o z9p (aget e 0) (aget e 1) (aget e 5) h x K:=zjL
theorem zpE {C gl e h x K}:NW C gl (.loop z3k) ⟨e,h,x⟩ K=z0N C gl z3k K [(0,aget e 0),(1,aget e 1),(5,aget e 5)] h x:=z0x
def z6i:ACode:=.pr [0] (.seq (rg [mV 65 0,
mV 4 65] [4])
.ret)
def zdS (C:Hd) (gl:GL) (v0:AV) (h:Heap) (x:Esc) (K:KT):Prop:=
 K .ret ⟨[(4,v0)],h,x⟩
theorem zol {C gl e h x K}:NW C gl z6i ⟨e,h,x⟩ K=zdS C gl (aget e 0) h x K:=by kernel_rfl
def zug (q5 q6:ACode):ACode:=(.seq (rg [mV 4 (.c (.p (.sl (some 4) [])))] [0,1])
(.seq (.seq (rg [mV 8 0,
lN 9 8,
bN 10 .lss 9 (cI 2)] [0,1,10])
(.cond 10 (.seq (rg [mV 11 0,
mV 4 11] [4])
.ret)
.skip))
(.seq (.seq (rg [mV 5 (cI 1)] [0,1,5])
(.block 0 (.loop q5)))
q6)))
def zlp:AFun:=⟨2,[.t 4],zug z3k z6i,true,false⟩
def zdO (C:Hd) (gl:GL) (q5 q6:ACode) (v0 v1:AV) (h:Heap) (x:Esc) (K:KT):Prop:=
 pK (oLen v0) fun t1=>
 pK (oBin .lss t1 (AI 2)) fun t2=>
 z0i t2 (K .ret ⟨[(4,v0)],h,x⟩)
 (NW C gl (.loop q5) ⟨[(0,v0),(1,v1),(5,(AI 1))],h,x⟩ (z0q 0 (seqN C gl q6 K)))
theorem E_q05d {C gl q5 q6 v0 v1 h x K}:NW C gl (zug q5 q6) ⟨enter [v0,v1],h,x⟩ K=zdO C gl q5 q6 v0 v1 h x K:=by kernel_rfl
theorem e_q05d {C gl v0 v1 h x K}:NW C gl zlp.body ⟨enter [v0,v1],h,x⟩ K=zdO C gl z3k z6i v0 v1 h x K:=E_q05d
def P_q03o:ACode:=(.seq (rg [uO 2 (.box 0),
uO 3 (.box 1),
mV 4 cF] [2,3])
(.seq (rg [fA 5 1 none 2,
lD 6 none 5,
fA 7 1 none 3,
lD 8 none 7,
bN 9 .eql 6 8,
mV 10 9,
gD 11 10 true (.faddr 0 none 2),
gD 12 10 true (.load none 11),
gD 13 10 true (.faddr 0 none 3),
gD 14 10 true (.load none 13),
gD 15 10 true (.bin .eql 12 14),
uO 16 (.pick 10 15 cF),
mV 4 16] [4])
.ret))
def zkR:AFun:=⟨2,[.t 4],P_q03o,false,false⟩
def zgN (C:Hd) (gl:GL) (v0 v1:AV) (h:Heap) (x:Esc) (K:KT):Prop:=
 wK (oBox v0 h) fun t1 h2 y3=>
 wK (oBox v1 h2) fun t4 h5 y6=>
 pK (z0j 1 none t1) fun t7=>
 pK (z0g none t7 h5) fun t8=>
 pK (z0j 1 none t4) fun t9=>
 pK (z0g none t9 h5) fun t10=>
 pK (oBin .eql t8 t10) fun t11=>
 gP t11 true (z0j 0 none t1) h5 fun t12 h13 y14=>
 gP t11 true (z0g none t12 h13) h13 fun t15 h16 y17=>
 gP t11 true (z0j 0 none t4) h16 fun t18 h19 y20=>
 gP t11 true (z0g none t18 h19) h19 fun t21 h22 y23=>
 gP t11 true (oBin .eql t15 t21) h22 fun t24 h25 y26=>
 pK (z0y t11 t24 (AB false)) fun t27=>
 K .ret ⟨[(4,t27)],h25,(y26++(y23++(y20++(y17++(y14++(y6++(y3++x)))))))⟩
theorem e_q03o {C gl v0 v1 h x K}:NW C gl zkR.body ⟨enter [v0,v1],h,x⟩ K=zgN C gl v0 v1 h x K:=by kernel_rfl
def z3c:ACode:=.pr [0,13,14,15] (.seq (rg [bN 16 .lss 15 14] [0,13,14,15,16])
(.seq (.cond 16 .skip
(.exit 1))
(.seq (.block 2 (.seq (rg [mV 17 15,
iA 18 (some 4) 13 15,
lD 19 (some 4) 18,
uO 4 (.alloc [.p (.str []),.p (.int .i64 0),.p (.int .i64 0),.p (.int .i64 0)]),
mV 3 17,
wO (.store (some 4) 4 19)] [0,3,4,13,14,15])
(.block 3 (.seq (rg [fA 21 0 none 4,
lD 22 none 21,
cL 23 z4O [22],
uO 24 (.un .not 23),
mV 20 24] [0,3,4,13,14,15,20])
(.cond 20 (.seq (rg [mV 2 (cI 5)] [2])
.ret)
(.seq (dr [dF (mV 26 0) [0],
dF (mV 27 3) [3],
dF (uO 28 (.slice (some 4) 26 none (some 27) none)) [26,27],
dF (fA 29 0 none 4) [4],
dF (lD 30 none 29) [29],
dT (cL 31 zaM [28,30]) [28,30],
dF (bN 32 .geq 31 (cI 0)) [31],
dF (mV 25 32) [32]] [0,4,13,14,15,25])
(.cond 25 (.seq (rg [mV 2 (cI 6)] [2])
.ret)
(.seq (rg [fA 34 1 none 4,
lD 35 none 34,
fA 36 2 none 4,
lD 37 none 36,
cL 38 z18 [35,(cI (-100000)),37],
uO 39 (.un .not 38),
mV 40 39,
gD 41 40 false (.faddr 2 none 4),
gD 42 40 false (.load none 41),
gD 43 40 false (.bin .gtr 42 (cI 100000)),
uO 44 (.pick 40 cT 43),
mV 45 44,
gD 46 45 false (.faddr 3 none 4),
gD 47 45 false (.load none 46),
gD 48 45 false (.call z18 [47,(cI 2),(cI 100)]),
gD 49 45 false (.un .not 48),
uO 50 (.pick 45 cT 49),
mV 33 50] [0,13,14,15,33])
(.cond 33 (.seq (rg [mV 2 (cI 1)] [2])
.ret)
.skip)))))))))
(rg [bN 51 .add 15 (cI 1),
mV 15 51] [0,13,14,15]))))
def zdB (C:Hd) (gl:GL) (v0 v13 v14 v15:AV) (h:Heap) (x:Esc) (K:KT):Prop:=
 pK (oBin .lss v15 v14) fun t1=>
 z0i t1 (pK (z0p (some 4) v13 v15 h) fun t2=>
 pK (z0g (some 4) t2 h) fun t3=>
 alK [.p (.str []),.p (.int .i64 0),.p (.int .i64 0),.p (.int .i64 0)] h fun t4 h5 y6=>
 wK (z00 (some 4) t4 t3 h5) fun t7 h8 y9=>
 pK (z0j 0 none t4) fun t10=>
 pK (z0g none t10 h8) fun t11=>
 C z4O [t11] h8 fun t12 h13 y14=>
 pK (oUn .not t12) fun t15=>
 z0i t15 (K .ret ⟨[(2,(AI 5))],h13,(y14++(y9++(y6++x)))⟩)
 (pK (z2q (some 4) v0 none (some v15) none h13) fun t16=>
 pK (z0j 0 none t4) fun t17=>
 pK (z0g none t17 h13) fun t18=>
 z1Q C zaM [t16,t18] h13 fun t19 h20 y21=>
 pK (oBin .geq t19 (AI 0)) fun t22=>
 z0i t22 (K .ret ⟨[(2,(AI 6))],h20,(y21++(y14++(y9++(y6++x))))⟩)
 (pK (z0j 1 none t4) fun t23=>
 pK (z0g none t23 h20) fun t24=>
 pK (z0j 2 none t4) fun t25=>
 pK (z0g none t25 h20) fun t26=>
 C z18 [t24,(AI (-100000)),t26] h20 fun t27 h28 y29=>
 pK (oUn .not t27) fun t30=>
 gP t30 false (z0j 2 none t4) h28 fun t31 h32 y33=>
 gP t30 false (z0g none t31 h32) h32 fun t34 h35 y36=>
 gP t30 false (oBin .gtr t34 (AI 100000)) h35 fun t37 h38 y39=>
 pK (z0y t30 (AB true) t37) fun t40=>
 gP t40 false (z0j 3 none t4) h38 fun t41 h42 y43=>
 gP t40 false (z0g none t41 h42) h42 fun t44 h45 y46=>
 gV t40 false h45 (C z18 [t44,(AI 2),(AI 100)] h45) fun t47 h48 y49=>
 gP t40 false (oUn .not t47) h48 fun t50 h51 y52=>
 pK (z0y t40 (AB true) t50) fun t53=>
 z0i t53 (K .ret ⟨[(2,(AI 1))],h51,(y52++(y49++(y46++(y43++(y39++(y36++(y33++(y29++(y21++(y14++(y9++(y6++x))))))))))))⟩)
 (pK (oBin .add v15 (AI 1)) fun t54=>
 K .normal ⟨[(0,v0),(13,v13),(14,v14),(15,t54)],h51,(y52++(y49++(y46++(y43++(y39++(y36++(y33++(y29++(y21++(y14++(y9++(y6++x))))))))))))⟩))))
 (K (.exit 1) ⟨[(0,v0),(13,v13),(14,v14),(15,v15),(16,t1)],h,x⟩)
theorem znU {C gl e h x K}:NW C gl z3c ⟨e,h,x⟩ K=zdB C gl (aget e 0) (aget e 13) (aget e 14) (aget e 15) h x K:=by kernel_rfl
theorem zp5 {C gl e h x K}:NW C gl (.loop (.scope z3c)) ⟨e,h,x⟩ K=z0N C gl (.scope z3c) K [(0,aget e 0),(13,aget e 13),(14,aget e 14),(15,aget e 15)] h x:=z11
def z6a:ACode:=.pr [] (.seq (rg [mV 2 (cI 0)] [2])
.ret)
def zdC (C:Hd) (gl:GL) (h:Heap) (x:Esc) (K:KT):Prop:=
 K .ret ⟨[(2,(AI 0))],h,x⟩
theorem znV {C gl e h x K}:NW C gl z6a ⟨e,h,x⟩ K=zdC C gl h x K:=by kernel_rfl
def ztY (q1 q2:ACode):ACode:=(.seq (rg [mV 2 (cI 0)] [0])
(.seq (.block 0 (.seq (rg [mV 6 0,
lN 7 6,
bN 8 .eql 7 (cI 0),
mV 5 8] [0,5])
(.cond 5 (.seq (rg [mV 2 (cI 8)] [2])
.ret)
(.seq (rg [mV 10 0,
lN 11 10,
bN 12 .gtr 11 (cI 100),
mV 9 12] [0,9])
(.cond 9 (.seq (rg [mV 2 (cI 2)] [2])
.ret)
.skip)))))
(.seq (.seq (rg [mV 13 0,
lN 14 13,
mV 15 (cI 0)] [0,13,14,15])
(.block 1 (.loop (.scope q1))))
q2)))
def zkV:AFun:=⟨1,[.t 2],ztY z3c z6a,false,false⟩
def zak (C:Hd) (gl:GL) (q1 q2:ACode) (v0:AV) (h:Heap) (x:Esc) (K:KT):Prop:=
 pK (oLen v0) fun t1=>
 pK (oBin .eql t1 (AI 0)) fun t2=>
 z0i t2 (K .ret ⟨[(2,(AI 8))],h,x⟩)
 (pK (oLen v0) fun t3=>
 pK (oBin .gtr t3 (AI 100)) fun t4=>
 z0i t4 (K .ret ⟨[(2,(AI 2))],h,x⟩)
 (pK (oLen v0) fun t5=>
 NW C gl (.loop (.scope q1)) ⟨[(0,v0),(13,v0),(14,t5),(15,(AI 0))],h,x⟩ (z0q 1 (seqN C gl q2 K))))
theorem E_q044 {C gl q1 q2 v0 h x K}:NW C gl (ztY q1 q2) ⟨enter [v0],h,x⟩ K=zak C gl q1 q2 v0 h x K:=by kernel_rfl
theorem e_q044 {C gl v0 h x K}:NW C gl zkV.body ⟨enter [v0],h,x⟩ K=zak C gl z3c z6a v0 h x K:=E_q044
def z3b:ACode:=.pr [0,1,2,8] (.seq (rg [bN 9 .lss 8 (cI 6)] [0,1,2,8,9])
(.seq (.cond 9 .skip
(.exit 0))
(.seq (.block 1 (.seq (rg [mV 10 0,
mV 11 1,
mV 12 2,
cL 13 z5A [10,11,12],
mV 7 13] [0,1,2,7,8])
(.seq (rg [mV 14 1,
mV 15 7,
cL 16 z3T [14,15],
bN 17 .eql 16 (cI 0)] [0,1,2,7,8,17])
(.cond 17 (.seq (rg [mV 18 7,
mV 6 18] [6])
.ret)
.skip))))
(rg [bN 19 .add 8 (cI 1),
mV 8 19] [0,1,2,8]))))
def zd9 (C:Hd) (gl:GL) (v0 v1 v2 v8:AV) (h:Heap) (x:Esc) (K:KT):Prop:=
 pK (oBin .lss v8 (AI 6)) fun t1=>
 z0i t1 (C z5A [v0,v1,v2] h fun t2 h3 y4=>
 C z3T [v1,t2] h3 fun t5 h6 y7=>
 pK (oBin .eql t5 (AI 0)) fun t8=>
 z0i t8 (K .ret ⟨[(6,t2)],h6,(y7++(y4++x))⟩)
 (pK (oBin .add v8 (AI 1)) fun t9=>
 K .normal ⟨[(0,v0),(1,v1),(2,v2),(8,t9)],h6,(y7++(y4++x))⟩))
 (K (.exit 0) ⟨[(0,v0),(1,v1),(2,v2),(8,v8),(9,t1)],h,x⟩)
theorem znS {C gl e h x K}:NW C gl z3b ⟨e,h,x⟩ K=zd9 C gl (aget e 0) (aget e 1) (aget e 2) (aget e 8) h x K:=by kernel_rfl
theorem zp4 {C gl e h x K}:NW C gl (.loop z3b) ⟨e,h,x⟩ K=z0N C gl z3b K [(0,aget e 0),(1,aget e 1),(2,aget e 2),(8,aget e 8)] h x:=z0x
def z5Z:ACode:=.pr [] (.seq (rg [mV 6 (.c (.p (.sl (some 4) [])))] [6])
.ret)
def zdA (C:Hd) (gl:GL) (h:Heap) (x:Esc) (K:KT):Prop:=
 K .ret ⟨[(6,(.p (.sl (some 4) [])))],h,x⟩
theorem znT {C gl e h x K}:NW C gl z5Z ⟨e,h,x⟩ K=zdA C gl h x K:=by kernel_rfl
def ztX (q1 q2:ACode):ACode:=(.seq (rg [mV 6 (.c (.p (.sl (some 4) [])))] [0,1,2])
(.seq (.seq (rg [mV 8 (cI 0)] [0,1,2,8])
(.block 0 (.loop q1)))
q2))
def zkS:AFun:=⟨3,[.t 6],ztX z3b z5Z,false,false⟩
def zd8 (C:Hd) (gl:GL) (q1 q2:ACode) (v0 v1 v2:AV) (h:Heap) (x:Esc) (K:KT):Prop:=
 NW C gl (.loop q1) ⟨[(0,v0),(1,v1),(2,v2),(8,(AI 0))],h,x⟩ (z0q 0 (seqN C gl q2 K))
theorem E_q03r {C gl q1 q2 v0 v1 v2 h x K}:NW C gl (ztX q1 q2) ⟨enter [v0,v1,v2],h,x⟩ K=zd8 C gl q1 q2 v0 v1 v2 h x K:=by kernel_rfl
theorem e_q03r {C gl v0 v1 v2 h x K}:NW C gl zkS.body ⟨enter [v0,v1,v2],h,x⟩ K=zd8 C gl z3b z5Z v0 v1 v2 h x K:=E_q03r
def P_q03b:ACode:=(.seq (rg [mV 6 (cS [])] [0,1,2])
(.seq (.seq (rg [mV 9 1,
bN 10 .eql 9 (cS []),
mV 11 10,
gD 12 11 false (.mv 2),
gD 13 11 false (.bin .eql 12 (cS [])),
uO 14 (.pick 11 cT 13)] [0,1,2,14])
(.cond 14 (.seq (rg [mV 15 2,
mV 6 15] [6])
.ret)
.skip))
(.seq (rg [mV 16 0,
mV 17 1,
uO 18 (.lens 17),
cL 19 z1c [16,18],
mV 7 19] [0,1,2,7])
(.seq (rg [mV 20 2,
mV 21 0,
mV 22 2,
uO 23 (.lens 22),
cL 24 z1c [21,23],
uO 25 (.idxs 20 24),
mV 8 25] [0,1,7,8])
(.seq (.seq (rg [mV 26 0,
cL 27 z1c [26,(cI 3)]] [1,7,8,27])
(.block 0 (.seq (rg [bN 29 .eql 27 (cI 0),
mV 28 29] [1,7,8,27,28])
(.cond 28 (.seq (dr [dF (mV 30 1) [1],
dF (mV 31 7) [7],
dF (uO 32 (.slstr 30 none (some 31))) [30,31],
dF (mV 33 8) [8],
dF (uO 34 (.conv (.i .i32) 33)) [33],
dF (uO 35 (.conv .r2s 34)) [34],
dF (bN 36 .add 32 35) [32,35],
dF (mV 37 1) [1],
dF (mV 38 7) [7],
dF (bN 39 .add 38 (cI 1)) [38],
dF (uO 40 (.slstr 37 (some 39) none)) [37,39],
dF (bN 41 .add 36 40) [36,40],
dF (mV 6 41) [41]] [6])
.ret)
(.seq (rg [bN 43 .eql 27 (cI 1),
mV 42 43] [1,7,8,42])
(.cond 42 (.seq (dr [dF (mV 44 1) [1],
dF (mV 45 7) [7],
dF (uO 46 (.slstr 44 none (some 45))) [44,45],
dF (mV 47 8) [8],
dF (uO 48 (.conv (.i .i32) 47)) [47],
dF (uO 49 (.conv .r2s 48)) [48],
dF (bN 50 .add 46 49) [46,49],
dF (mV 51 1) [1],
dF (mV 52 7) [7],
dF (uO 53 (.slstr 51 (some 52) none)) [51,52],
dF (bN 54 .add 50 53) [50,53],
dF (mV 6 54) [54]] [6])
.ret)
.skip))))))
(.seq (dr [dF (mV 55 1) [1],
dF (mV 56 7) [7],
dF (uO 57 (.slstr 55 none (some 56))) [55,56],
dF (mV 58 1) [1],
dF (mV 59 7) [7],
dF (bN 60 .add 59 (cI 1)) [59],
dF (uO 61 (.slstr 58 (some 60) none)) [58,60],
dF (bN 62 .add 57 61) [57,61],
dF (mV 6 62) [62]] [6])
.ret))))))
def zkH:AFun:=⟨3,[.t 6],P_q03b,false,false⟩
def zgK (C:Hd) (gl:GL) (v0 v1 v2:AV) (h:Heap) (x:Esc) (K:KT):Prop:=
 pK (oBin .eql v1 (.p (.str []))) fun t1=>
 gM t1 false v2 h fun t2 h3 y4=>
 gP t1 false (oBin .eql t2 (.p (.str []))) h3 fun t5 h6 y7=>
 pK (z0y t1 (AB true) t5) fun t8=>
 z0i t8 (K .ret ⟨[(6,v2)],h6,(y7++(y4++x))⟩)
 (pK (z1g v1) fun t9=>
 C z1c [v0,t9] h6 fun t10 h11 y12=>
 pK (z1g v2) fun t13=>
 C z1c [v0,t13] h11 fun t14 h15 y16=>
 pK (z1D v2 t14) fun t17=>
 C z1c [v0,(AI 3)] h15 fun t18 h19 y20=>
 pK (oBin .eql t18 (AI 0)) fun t21=>
 z0i t21 (pK (z1h v1 none (some t10)) fun t22=>
 pK (z1y .i32 t17) fun t23=>
 (h19=h19∧([]:Esc)=[])∧(wK (zfR .r2s t23 h19) fun t24 h25 y26=>
 (h25=h19∧y26=[])∧(pK (oBin .add t22 t24) fun t27=>
 pK (oBin .add t10 (AI 1)) fun t28=>
 pK (z1h v1 (some t28) none) fun t29=>
 pK (oBin .add t27 t29) fun t30=>
 K .ret ⟨[(6,t30)],h25,(y26++(y20++(y16++(y12++(y7++(y4++x))))))⟩)))
 (pK (oBin .eql t18 (AI 1)) fun t31=>
 z0i t31 (pK (z1h v1 none (some t10)) fun t32=>
 pK (z1y .i32 t17) fun t33=>
 (h19=h19∧([]:Esc)=[])∧(wK (zfR .r2s t33 h19) fun t34 h35 y36=>
 (h35=h19∧y36=[])∧(pK (oBin .add t32 t34) fun t37=>
 pK (z1h v1 (some t10) none) fun t38=>
 pK (oBin .add t37 t38) fun t39=>
 K .ret ⟨[(6,t39)],h35,(y36++(y20++(y16++(y12++(y7++(y4++x))))))⟩)))
 (pK (z1h v1 none (some t10)) fun t40=>
 pK (oBin .add t10 (AI 1)) fun t41=>
 pK (z1h v1 (some t41) none) fun t42=>
 pK (oBin .add t40 t42) fun t43=>
 K .ret ⟨[(6,t43)],h19,(y20++(y16++(y12++(y7++(y4++x)))))⟩)))
theorem e_q03b {C gl v0 v1 v2 h x K}:NW C gl zkH.body ⟨enter [v0,v1,v2],h,x⟩ K=zgK C gl v0 v1 v2 h x K:=by kernel_rfl
def P_q022:ACode:=(.seq (rg [mV 4 (cI 0)] [0,1])
(.seq (.seq (rg [mV 6 0,
cL 7 z7e [6],
mV 5 7] [0,1,5])
(.seq (rg [mV 8 5,
bN 9 .neq 8 (cI 0)] [0,1,5,9])
(.cond 9 (.seq (rg [mV 10 5,
mV 4 10] [4])
.ret)
.skip)))
(.seq (rg [mV 11 0,
mV 12 1,
cL 13 z59 [11,12],
mV 4 13] [4])
.ret)))
def zkw:AFun:=⟨2,[.t 4],P_q022,false,false⟩
def zgF (C:Hd) (gl:GL) (v0 v1:AV) (h:Heap) (x:Esc) (K:KT):Prop:=
 C z7e [v0] h fun t1 h2 y3=>
 pK (oBin .neq t1 (AI 0)) fun t4=>
 z0i t4 (K .ret ⟨[(4,t1)],h2,(y3++x)⟩)
 (C z59 [v0,v1] h2 fun t5 h6 y7=>
 K .ret ⟨[(4,t5)],h6,(y7++(y3++x))⟩)
theorem e_q022 {C gl v0 v1 h x K}:NW C gl zkw.body ⟨enter [v0,v1],h,x⟩ K=zgF C gl v0 v1 h x K:=by kernel_rfl
def P_q08y:ACode:=(.seq (rg [mV 4 (cI 0),
mV 5 (.c (.nili))] [0,1])
(.seq (rg [mV 6 0,
cL 7 z7r [6]] [0,1])
(.seq (rg [mV 8 0,
mV 9 0,
uO 10 (.nilchk 9),
fA 11 1 none 10,
lD 12 none 11,
mV 13 1,
uO 14 (.uns 3 5 [12,13]),
uO 15 (.nilchk 8),
fA 16 1 none 15,
wO (.store none 16 14)] [1])
(.seq (rg [mV 17 1,
uO 18 (.lens 17),
mV 4 18,
mV 5 (.c (.nili))] [4,5])
.ret))))
def zl3:AFun:=⟨2,[.t 4,.t 5],P_q08y,false,false⟩
def zmN (C:Hd) (gl:GL) (v0 v1:AV) (h:Heap) (x:Esc) (K:KT):Prop:=
 C z7r [v0] h fun t1 h2 y3=>
 pK (oNil v0) fun t4=>
 pK (z0j 1 none t4) fun t5=>
 pK (z0g none t5 h2) fun t6=>
 wK (z1z 3 5 [t6,v1] h2) fun t7 h8 y9=>
 pK (oNil v0) fun t10=>
 pK (z0j 1 none t10) fun t11=>
 wK (z00 none t11 t7 h8) fun t12 h13 y14=>
 pK (z1g v1) fun t15=>
 K .ret ⟨[(4,t15),(5,(.nili))],h13,(y14++(y9++(y3++x)))⟩
theorem e_q08y {C gl v0 v1 h x K}:NW C gl zl3.body ⟨enter [v0,v1],h,x⟩ K=zmN C gl v0 v1 h x K:=by kernel_rfl
def P_q08x:ACode:=(.seq (rg [mV 4 (.c (.nili))] [0,1])
(.seq (rg [mV 5 0,
cL 6 z7r [5]] [0,1])
(.seq (rg [mV 7 0,
mV 8 0,
uO 9 (.nilchk 8),
fA 10 1 none 9,
lD 11 none 10,
mV 12 1,
uO 13 (.bsl false none 1 (.int .u8 0) [(0,12)]),
uO 14 (.uns 3 5 [11,13]),
uO 15 (.nilchk 7),
fA 16 1 none 15,
wO (.store none 16 14)] [])
(.seq (rg [mV 4 (.c (.nili))] [4])
.ret))))
def zl2:AFun:=⟨2,[.t 4],P_q08x,false,false⟩
def zmM (C:Hd) (gl:GL) (v0 v1:AV) (h:Heap) (x:Esc) (K:KT):Prop:=
 C z7r [v0] h fun t1 h2 y3=>
 pK (oNil v0) fun t4=>
 pK (z0j 1 none t4) fun t5=>
 pK (z0g none t5 h2) fun t6=>
 wK (oBsl false none 1 (.int .u8 0) [(0,v1)] h2) fun t7 h8 y9=>
 wK (z1z 3 5 [t6,t7] h8) fun t10 h11 y12=>
 pK (oNil v0) fun t13=>
 pK (z0j 1 none t13) fun t14=>
 wK (z00 none t14 t10 h11) fun t15 h16 y17=>
 K .ret ⟨[(4,(.nili))],h16,(y17++(y12++(y9++(y3++x))))⟩
theorem e_q08x {C gl v0 v1 h x K}:NW C gl zl2.body ⟨enter [v0,v1],h,x⟩ K=zmM C gl v0 v1 h x K:=by kernel_rfl
def P_q08v:ACode:=(.seq (rg [mV 2 (cI 0)] [0])
(.seq (rg [mV 3 0,
uO 4 (.nilchk 3),
fA 5 1 none 4,
lD 6 none 5,
uO 7 (.uns 4 0 [6]),
mV 2 7] [2])
.ret))
def zl0:AFun:=⟨1,[.t 2],P_q08v,false,false⟩
def zmL (C:Hd) (gl:GL) (v0:AV) (h:Heap) (x:Esc) (K:KT):Prop:=
 pK (oNil v0) fun t1=>
 pK (z0j 1 none t1) fun t2=>
 pK (z0g none t2 h) fun t3=>
 wK (z1z 4 0 [t3] h) fun t4 h5 y6=>
 K .ret ⟨[(2,t4)],h5,(y6++x)⟩
theorem e_q08v {C gl v0 h x K}:NW C gl zl0.body ⟨enter [v0],h,x⟩ K=zmL C gl v0 h x K:=by kernel_rfl
def P_q08w:ACode:=(.seq (rg [mV 2 (cS [])] [0])
(.seq (dr [dF (mV 3 0) [0],
dF (uO 4 (.nilchk 3)) [3],
dF (fA 5 1 none 4) [4],
dF (lD 6 none 5) [5],
dF (uO 7 (.uns 5 5 [6])) [6],
dF (mV 8 0) [0],
dF (uO 9 (.nilchk 8)) [8],
dF (fA 10 1 none 9) [9],
dF (lD 11 none 10) [10],
dF (uO 12 (.uns 4 0 [11])) [11],
dT (uO 13 (.uns 6 5 [7,12])) [7,12],
dF (mV 2 13) [13]] [2])
.ret))
def zl1:AFun:=⟨1,[.t 2],P_q08w,false,false⟩
def zha (C:Hd) (gl:GL) (v0:AV) (h:Heap) (x:Esc) (K:KT):Prop:=
 pK (oNil v0) fun t1=>
 pK (z0j 1 none t1) fun t2=>
 pK (z0g none t2 h) fun t3=>
 wK (z1z 5 5 [t3] h) fun t4 h5 y6=>
 (h5=h∧y6=[])∧(pK (oNil v0) fun t7=>
 pK (z0j 1 none t7) fun t8=>
 pK (z0g none t8 h5) fun t9=>
 wK (z1z 4 0 [t9] h5) fun t10 h11 y12=>
 (h11=h5∧y12=[])∧(wK (z1z 6 5 [t4,t10] h11) fun t13 h14 y15=>
 K .ret ⟨[(2,t13)],h14,(y15++(y12++(y6++x)))⟩))
theorem e_q08w {C gl v0 h x K}:NW C gl zl1.body ⟨enter [v0],h,x⟩ K=zha C gl v0 h x K:=by kernel_rfl
def P_q052:ACode:=(.seq (rg [uO 3 (.box 1),
mV 4 (cI 0)] [0,3])
(.seq (.block 0 (.seq (rg [fA 8 0 none 3,
lD 9 none 8,
cL 10 z4O [9],
uO 11 (.un .not 10),
mV 12 11,
gD 13 12 false (.faddr 2 none 3),
gD 14 12 false (.load none 13),
gD 15 12 false (.call z4O [14]),
gD 16 12 false (.un .not 15),
uO 17 (.pick 12 cT 16),
mV 7 17] [0,3,7])
(.cond 7 (.seq (rg [mV 4 (cI 5)] [4])
.ret)
(.seq (rg [fA 19 1 none 3,
lD 20 none 19,
cL 21 zaI [20],
uO 22 (.un .not 21),
mV 18 22] [0,3,18])
(.cond 18 (.seq (rg [mV 4 (cI 1)] [4])
.ret)
(.seq (rg [fA 24 3 none 3,
lD 25 none 24,
cL 26 z4R [25,(.f z8L)],
mV 23 26] [0,3,23])
(.cond 23 (.seq (rg [mV 4 (cI 1)] [4])
.ret)
.skip)))))))
(.seq (rg [fA 27 3 none 3,
lD 28 none 27,
lN 29 28,
mV 5 29] [0,3,5])
(.seq (.seq (rg [mV 30 0,
fA 31 3 none 3,
lD 32 none 31,
cL 33 zaO [30,32],
mV 6 33] [0,5,6])
(.seq (rg [mV 34 5,
mV 35 0,
lN 36 35,
cL 37 z18 [34,(cI 1),36],
uO 38 (.un .not 37),
mV 39 38,
gD 40 39 false (.mv 6),
gD 41 39 false (.bin .geq 40 (cI 0)),
gD 42 39 false (.mv 41),
gD 43 42 true (.mv 6),
gD 44 42 true (.mv 5),
gD 45 42 true (.bin .sub 44 (cI 1)),
gD 46 42 true (.bin .neq 43 45),
gD 47 39 false (.pick 42 46 cF),
uO 48 (.pick 39 cT 47),
mV 49 48,
gD 50 49 false (.mv 6),
gD 51 49 false (.bin .lss 50 (cI 0)),
gD 52 49 false (.mv 51),
gD 53 52 true (.mv 5),
gD 54 52 true (.mv 0),
gD 55 52 true (.len 54),
gD 56 52 true (.bin .neq 53 55),
gD 57 49 false (.pick 52 56 cF),
uO 58 (.pick 49 cT 57)] [58])
(.cond 58 (.seq (rg [mV 4 (cI 3)] [4])
.ret)
.skip)))
(.seq (rg [mV 4 (cI 0)] [4])
.ret)))))
def zll:AFun:=⟨2,[.t 4],P_q052,false,false⟩
def z3P (C:Hd) (gl:GL) (v0 v1:AV) (h:Heap) (x:Esc) (K:KT):Prop:=
 wK (oBox v1 h) fun t1 h2 y3=>
 pK (z0j 0 none t1) fun t4=>
 pK (z0g none t4 h2) fun t5=>
 C z4O [t5] h2 fun t6 h7 y8=>
 pK (oUn .not t6) fun t9=>
 gP t9 false (z0j 2 none t1) h7 fun t10 h11 y12=>
 gP t9 false (z0g none t10 h11) h11 fun t13 h14 y15=>
 gV t9 false h14 (C z4O [t13] h14) fun t16 h17 y18=>
 gP t9 false (oUn .not t16) h17 fun t19 h20 y21=>
 pK (z0y t9 (AB true) t19) fun t22=>
 z0i t22 (K .ret ⟨[(4,(AI 5))],h20,(y21++(y18++(y15++(y12++(y8++(y3++x))))))⟩)
 (pK (z0j 1 none t1) fun t23=>
 pK (z0g none t23 h20) fun t24=>
 C zaI [t24] h20 fun t25 h26 y27=>
 pK (oUn .not t25) fun t28=>
 z0i t28 (K .ret ⟨[(4,(AI 1))],h26,(y27++(y21++(y18++(y15++(y12++(y8++(y3++x)))))))⟩)
 (pK (z0j 3 none t1) fun t29=>
 pK (z0g none t29 h26) fun t30=>
 C z4R [t30,(.fn z8L [])] h26 fun t31 h32 y33=>
 z0i t31 (K .ret ⟨[(4,(AI 1))],h32,(y33++(y27++(y21++(y18++(y15++(y12++(y8++(y3++x))))))))⟩)
 (pK (z0j 3 none t1) fun t34=>
 pK (z0g none t34 h32) fun t35=>
 pK (oLen t35) fun t36=>
 pK (z0j 3 none t1) fun t37=>
 pK (z0g none t37 h32) fun t38=>
 C zaO [v0,t38] h32 fun t39 h40 y41=>
 pK (oLen v0) fun t42=>
 C z18 [t36,(AI 1),t42] h40 fun t43 h44 y45=>
 pK (oUn .not t43) fun t46=>
 gM t46 false t39 h44 fun t47 h48 y49=>
 gP t46 false (oBin .geq t47 (AI 0)) h48 fun t50 h51 y52=>
 gM t46 false t50 h51 fun t53 h54 y55=>
 gM t53 true t39 h54 fun t56 h57 y58=>
 gM t53 true t36 h57 fun t59 h60 y61=>
 gP t53 true (oBin .sub t59 (AI 1)) h60 fun t62 h63 y64=>
 gP t53 true (oBin .neq t56 t62) h63 fun t65 h66 y67=>
 gP t46 false (z0y t53 t65 (AB false)) h66 fun t68 h69 y70=>
 pK (z0y t46 (AB true) t68) fun t71=>
 gM t71 false t39 h69 fun t72 h73 y74=>
 gP t71 false (oBin .lss t72 (AI 0)) h73 fun t75 h76 y77=>
 gM t71 false t75 h76 fun t78 h79 y80=>
 gM t78 true t36 h79 fun t81 h82 y83=>
 gM t78 true v0 h82 fun t84 h85 y86=>
 gP t78 true (oLen t84) h85 fun t87 h88 y89=>
 gP t78 true (oBin .neq t81 t87) h88 fun t90 h91 y92=>
 gP t71 false (z0y t78 t90 (AB false)) h91 fun t93 h94 y95=>
 pK (z0y t71 (AB true) t93) fun t96=>
 z0i t96 (K .ret ⟨[(4,(AI 3))],h94,(y95++(y92++(y89++(y86++(y83++(y80++(y77++(y74++(y70++(y67++(y64++(y61++(y58++(y55++(y52++(y49++(y45++(y41++(y33++(y27++(y21++(y18++(y15++(y12++(y8++(y3++x))))))))))))))))))))))))))⟩)
 (K .ret ⟨[(4,(AI 0))],h94,(y95++(y92++(y89++(y86++(y83++(y80++(y77++(y74++(y70++(y67++(y64++(y61++(y58++(y55++(y52++(y49++(y45++(y41++(y33++(y27++(y21++(y18++(y15++(y12++(y8++(y3++x))))))))))))))))))))))))))⟩))))
theorem e_q052 {C gl v0 v1 h x K}:NW C gl zll.body ⟨enter [v0,v1],h,x⟩ K=z3P C gl v0 v1 h x K:=by kernel_rfl
def P_q054:ACode:=(.seq (rg [uO 2 (.box 0),
uO 3 (.box 1),
mV 4 (cI 0)] [2,3])
(.seq (.seq (rg [fA 5 1 none 2,
lD 6 none 5,
fA 7 1 none 3,
lD 8 none 7,
bN 9 .neq 6 8] [2,3,9])
(.cond 9 (.seq (rg [fA 10 1 none 2,
lD 11 none 10,
fA 12 1 none 3,
lD 13 none 12,
bN 14 .sub 11 13,
cL 15 zaR [14],
mV 4 15] [4])
.ret)
.skip))
(.seq (rg [fA 16 0 none 2,
lD 17 none 16,
fA 18 0 none 3,
lD 19 none 18,
cL 20 z4S [17,19],
mV 4 20] [4])
.ret)))
def zln:AFun:=⟨2,[.t 4],P_q054,false,false⟩
def zgU (C:Hd) (gl:GL) (v0 v1:AV) (h:Heap) (x:Esc) (K:KT):Prop:=
 wK (oBox v0 h) fun t1 h2 y3=>
 wK (oBox v1 h2) fun t4 h5 y6=>
 pK (z0j 1 none t1) fun t7=>
 pK (z0g none t7 h5) fun t8=>
 pK (z0j 1 none t4) fun t9=>
 pK (z0g none t9 h5) fun t10=>
 pK (oBin .neq t8 t10) fun t11=>
 z0i t11 (pK (z0j 1 none t1) fun t12=>
 pK (z0g none t12 h5) fun t13=>
 pK (z0j 1 none t4) fun t14=>
 pK (z0g none t14 h5) fun t15=>
 pK (oBin .sub t13 t15) fun t16=>
 C zaR [t16] h5 fun t17 h18 y19=>
 K .ret ⟨[(4,t17)],h18,(y19++(y6++(y3++x)))⟩)
 (pK (z0j 0 none t1) fun t20=>
 pK (z0g none t20 h5) fun t21=>
 pK (z0j 0 none t4) fun t22=>
 pK (z0g none t22 h5) fun t23=>
 C z4S [t21,t23] h5 fun t24 h25 y26=>
 K .ret ⟨[(4,t24)],h25,(y26++(y6++(y3++x)))⟩)
theorem e_q054 {C gl v0 v1 h x K}:NW C gl zln.body ⟨enter [v0,v1],h,x⟩ K=zgU C gl v0 v1 h x K:=by kernel_rfl
def z3e:ACode:=.pr [3,6,7,8] (.seq (rg [bN 9 .lss 8 7] [3,6,7,8,9])
(.seq (.cond 9 .skip
(.exit 0))
(.seq (.block 1 (.seq (rg [iA 10 none 6 8,
lD 11 none 10,
mV 5 11] [3,5,6,7,8])
(rg [mV 12 3,
mV 13 5,
cL 14 z3I [13],
uO 15 (.bsl false none 1 (.str []) [(0,14)]),
uO 16 (.app none 12 15),
mV 3 16] [3,6,7,8])))
(rg [bN 17 .add 8 (cI 1),
mV 8 17] [3,6,7,8]))))
def zdE (C:Hd) (gl:GL) (v3 v6 v7 v8:AV) (h:Heap) (x:Esc) (K:KT):Prop:=
 pK (oBin .lss v8 v7) fun t1=>
 z0i t1 (pK (z0p none v6 v8 h) fun t2=>
 pK (z0g none t2 h) fun t3=>
 C z3I [t3] h fun t4 h5 y6=>
 wK (oBsl false none 1 (.str []) [(0,t4)] h5) fun t7 h8 y9=>
 wK (oApp none v3 t7 h8) fun t10 h11 y12=>
 pK (oBin .add v8 (AI 1)) fun t13=>
 K .normal ⟨[(3,t10),(6,v6),(7,v7),(8,t13)],h11,(y12++(y9++(y6++x)))⟩)
 (K (.exit 0) ⟨[(3,v3),(6,v6),(7,v7),(8,v8),(9,t1)],h,x⟩)
theorem znX {C gl e h x K}:NW C gl z3e ⟨e,h,x⟩ K=zdE C gl (aget e 3) (aget e 6) (aget e 7) (aget e 8) h x K:=by kernel_rfl
theorem zp7 {C gl e h x K}:NW C gl (.loop (.scope z3e)) ⟨e,h,x⟩ K=z0N C gl (.scope z3e) K [(3,aget e 3),(6,aget e 6),(7,aget e 7),(8,aget e 8)] h x:=z11
def z6c:ACode:=.pr [3] (.seq (rg [mV 18 3,
cL 19 zhm [18,(cS [32])],
mV 2 19] [2])
.ret)
def z8r (C:Hd) (gl:GL) (v3:AV) (h:Heap) (x:Esc) (K:KT):Prop:=
 C zhm [v3,(.p (.str [32]))] h fun t1 h2 y3=>
 K .ret ⟨[(2,t1)],h2,(y3++x)⟩
theorem z8A {C gl e h x K}:NW C gl z6c ⟨e,h,x⟩ K=z8r C gl (aget e 3) h x K:=by kernel_rfl
def zua (q1 q2:ACode):ACode:=(.seq (rg [mV 2 (cS [])] [0])
(.seq (rg [uO 3 (.new0 none)] [0,3])
(.seq (.seq (rg [mV 6 0,
lN 7 6,
mV 8 (cI 0)] [3,6,7,8])
(.block 0 (.loop (.scope q1))))
q2)))
def zkZ:AFun:=⟨1,[.t 2],zua z3e z6c,false,false⟩
def zgP (C:Hd) (gl:GL) (q1 q2:ACode) (v0:AV) (h:Heap) (x:Esc) (K:KT):Prop:=
 nwK none h fun t1 h2 y3=>
 pK (oLen v0) fun t4=>
 NW C gl (.loop (.scope q1)) ⟨[(3,t1),(6,v0),(7,t4),(8,(AI 0))],h2,(y3++x)⟩ (z0q 0 (seqN C gl q2 K))
theorem E_q049 {C gl q1 q2 v0 h x K}:NW C gl (zua q1 q2) ⟨enter [v0],h,x⟩ K=zgP C gl q1 q2 v0 h x K:=by kernel_rfl
theorem e_q049 {C gl v0 h x K}:NW C gl zkZ.body ⟨enter [v0],h,x⟩ K=zgP C gl z3e z6c v0 h x K:=E_q049
def z2U:ACode:=.pr [0,13,14,15] (.seq (rg [bN 16 .lss 15 14] [0,13,14,15,16])
(.seq (.cond 16 .skip
(.exit 1))
(.seq (.block 2 (.seq (rg [mV 17 15,
iA 18 (some 4) 13 15,
lD 19 (some 4) 18,
uO 4 (.alloc [.p (.str []),.p (.int .i64 0),.p (.int .i64 0),.p (.int .i64 0)]),
mV 3 17,
wO (.store (some 4) 4 19)] [0,3,4,13,14,15])
(.block 3 (.seq (rg [fA 21 0 none 4,
lD 22 none 21,
cL 23 z4M [22],
uO 24 (.un .not 23),
mV 20 24] [0,3,4,13,14,15,20])
(.cond 20 (.seq (rg [mV 2 (cI 5)] [2])
.ret)
(.seq (dr [dF (mV 26 0) [0],
dF (mV 27 3) [3],
dF (uO 28 (.slice (some 4) 26 none (some 27) none)) [26,27],
dF (fA 29 0 none 4) [4],
dF (lD 30 none 29) [29],
dT (cL 31 za8 [28,30]) [28,30],
dF (bN 32 .geq 31 (cI 0)) [31],
dF (mV 25 32) [32]] [0,4,13,14,15,25])
(.cond 25 (.seq (rg [mV 2 (cI 6)] [2])
.ret)
(.seq (rg [fA 34 1 none 4,
lD 35 none 34,
fA 36 2 none 4,
lD 37 none 36,
cL 38 z2k [35,(cI (-100000)),37],
mV 39 38,
gD 40 39 false (.faddr 2 none 4),
gD 41 39 false (.load none 40),
gD 42 39 false (.bin .gtr 41 (cI 100000)),
uO 43 (.pick 39 cT 42),
mV 44 43,
gD 45 44 false (.faddr 3 none 4),
gD 46 44 false (.load none 45),
gD 47 44 false (.call z2k [46,(cI 2),(cI 100)]),
uO 48 (.pick 44 cT 47),
mV 33 48] [0,13,14,15,33])
(.cond 33 (.seq (rg [mV 2 (cI 1)] [2])
.ret)
.skip)))))))))
(rg [bN 49 .add 15 (cI 1),
mV 15 49] [0,13,14,15]))))
def zdj (C:Hd) (gl:GL) (v0 v13 v14 v15:AV) (h:Heap) (x:Esc) (K:KT):Prop:=
 pK (oBin .lss v15 v14) fun t1=>
 z0i t1 (pK (z0p (some 4) v13 v15 h) fun t2=>
 pK (z0g (some 4) t2 h) fun t3=>
 alK [.p (.str []),.p (.int .i64 0),.p (.int .i64 0),.p (.int .i64 0)] h fun t4 h5 y6=>
 wK (z00 (some 4) t4 t3 h5) fun t7 h8 y9=>
 pK (z0j 0 none t4) fun t10=>
 pK (z0g none t10 h8) fun t11=>
 C z4M [t11] h8 fun t12 h13 y14=>
 pK (oUn .not t12) fun t15=>
 z0i t15 (K .ret ⟨[(2,(AI 5))],h13,(y14++(y9++(y6++x)))⟩)
 (pK (z2q (some 4) v0 none (some v15) none h13) fun t16=>
 pK (z0j 0 none t4) fun t17=>
 pK (z0g none t17 h13) fun t18=>
 z1Q C za8 [t16,t18] h13 fun t19 h20 y21=>
 pK (oBin .geq t19 (AI 0)) fun t22=>
 z0i t22 (K .ret ⟨[(2,(AI 6))],h20,(y21++(y14++(y9++(y6++x))))⟩)
 (pK (z0j 1 none t4) fun t23=>
 pK (z0g none t23 h20) fun t24=>
 pK (z0j 2 none t4) fun t25=>
 pK (z0g none t25 h20) fun t26=>
 C z2k [t24,(AI (-100000)),t26] h20 fun t27 h28 y29=>
 gP t27 false (z0j 2 none t4) h28 fun t30 h31 y32=>
 gP t27 false (z0g none t30 h31) h31 fun t33 h34 y35=>
 gP t27 false (oBin .gtr t33 (AI 100000)) h34 fun t36 h37 y38=>
 pK (z0y t27 (AB true) t36) fun t39=>
 gP t39 false (z0j 3 none t4) h37 fun t40 h41 y42=>
 gP t39 false (z0g none t40 h41) h41 fun t43 h44 y45=>
 gV t39 false h44 (C z2k [t43,(AI 2),(AI 100)] h44) fun t46 h47 y48=>
 pK (z0y t39 (AB true) t46) fun t49=>
 z0i t49 (K .ret ⟨[(2,(AI 1))],h47,(y48++(y45++(y42++(y38++(y35++(y32++(y29++(y21++(y14++(y9++(y6++x)))))))))))⟩)
 (pK (oBin .add v15 (AI 1)) fun t50=>
 K .normal ⟨[(0,v0),(13,v13),(14,v14),(15,t50)],h47,(y48++(y45++(y42++(y38++(y35++(y32++(y29++(y21++(y14++(y9++(y6++x)))))))))))⟩))))
 (K (.exit 1) ⟨[(0,v0),(13,v13),(14,v14),(15,v15),(16,t1)],h,x⟩)
theorem zn6 {C gl e h x K}:NW C gl z2U ⟨e,h,x⟩ K=zdj C gl (aget e 0) (aget e 13) (aget e 14) (aget e 15) h x K:=by kernel_rfl
theorem zpv {C gl e h x K}:NW C gl (.loop (.scope z2U)) ⟨e,h,x⟩ K=z0N C gl (.scope z2U) K [(0,aget e 0),(13,aget e 13),(14,aget e 14),(15,aget e 15)] h x:=z11
def z5Q:ACode:=.pr [] (.seq (rg [mV 2 (cI 0)] [2])
.ret)
def zdk (C:Hd) (gl:GL) (h:Heap) (x:Esc) (K:KT):Prop:=
 K .ret ⟨[(2,(AI 0))],h,x⟩
theorem zn7 {C gl e h x K}:NW C gl z5Q ⟨e,h,x⟩ K=zdk C gl h x K:=by kernel_rfl
def ztN (q1 q2:ACode):ACode:=(.seq (rg [mV 2 (cI 0)] [0])
(.seq (.block 0 (.seq (rg [mV 6 0,
lN 7 6,
bN 8 .eql 7 (cI 0),
mV 5 8] [0,5])
(.cond 5 (.seq (rg [mV 2 (cI 8)] [2])
.ret)
(.seq (rg [mV 10 0,
lN 11 10,
bN 12 .gtr 11 (cI 100),
mV 9 12] [0,9])
(.cond 9 (.seq (rg [mV 2 (cI 2)] [2])
.ret)
.skip)))))
(.seq (.seq (rg [mV 13 0,
lN 14 13,
mV 15 (cI 0)] [0,13,14,15])
(.block 1 (.loop (.scope q1))))
q2)))
def zkv:AFun:=⟨1,[.t 2],ztN z2U z5Q,false,false⟩
def zaf (C:Hd) (gl:GL) (q1 q2:ACode) (v0:AV) (h:Heap) (x:Esc) (K:KT):Prop:=
 pK (oLen v0) fun t1=>
 pK (oBin .eql t1 (AI 0)) fun t2=>
 z0i t2 (K .ret ⟨[(2,(AI 8))],h,x⟩)
 (pK (oLen v0) fun t3=>
 pK (oBin .gtr t3 (AI 100)) fun t4=>
 z0i t4 (K .ret ⟨[(2,(AI 2))],h,x⟩)
 (pK (oLen v0) fun t5=>
 NW C gl (.loop (.scope q1)) ⟨[(0,v0),(13,v0),(14,t5),(15,(AI 0))],h,x⟩ (z0q 1 (seqN C gl q2 K))))
theorem E_q021 {C gl q1 q2 v0 h x K}:NW C gl (ztN q1 q2) ⟨enter [v0],h,x⟩ K=zaf C gl q1 q2 v0 h x K:=by kernel_rfl
theorem e_q021 {C gl v0 h x K}:NW C gl zkv.body ⟨enter [v0],h,x⟩ K=zaf C gl z2U z5Q v0 h x K:=E_q021
def z2M:ACode:=.pr [1,6,7,15,16,17] (.seq (rg [bN 18 .lss 17 16] [1,6,7,15,16,17,18])
(.seq (.cond 18 .skip
(.exit 0))
(.seq (.block 1 (.seq (rg [mV 19 17,
iA 20 none 15 17,
lD 21 none 20,
mV 8 19,
mV 9 21] [1,6,7,8,9,15,16,17])
(.seq (rg [mV 22 7,
uO 23 (.un .not 22),
mV 24 23,
gD 25 24 true (.mv 8),
gD 26 24 true (.mv 6),
gD 27 24 true (.len 26),
gD 28 24 true (.bin .sub 27 (cI 1)),
gD 29 24 true (.bin .eql 25 28),
uO 30 (.pick 24 29 cF),
mV 31 30,
gD 32 31 false (.mv 1),
gD 33 31 false (.mv 9),
gD 34 31 false (.callv 32 [33]),
gD 35 31 false (.un .not 34),
uO 36 (.pick 31 cT 35)] [1,6,7,8,15,16,17,36])
(.cond 36 (.seq (rg [mV 37 8,
mV 4 37,
mV 5 cF] [4,5])
.ret)
.skip))))
(rg [bN 38 .add 17 (cI 1),
mV 17 38] [1,6,7,15,16,17]))))
def zcQ (C:Hd) (gl:GL) (v1 v6 v7 v15 v16 v17:AV) (h:Heap) (x:Esc) (K:KT):Prop:=
 pK (oBin .lss v17 v16) fun t1=>
 z0i t1 (pK (z0p none v15 v17 h) fun t2=>
 pK (z0g none t2 h) fun t3=>
 pK (oUn .not v7) fun t4=>
 gM t4 true v17 h fun t5 h6 y7=>
 gM t4 true v6 h6 fun t8 h9 y10=>
 gP t4 true (oLen t8) h9 fun t11 h12 y13=>
 gP t4 true (oBin .sub t11 (AI 1)) h12 fun t14 h15 y16=>
 gP t4 true (oBin .eql t5 t14) h15 fun t17 h18 y19=>
 pK (z0y t4 t17 (AB false)) fun t20=>
 gM t20 false v1 h18 fun t21 h22 y23=>
 gM t20 false t3 h22 fun t24 h25 y26=>
 gV t20 false h25 (z3M C t21 [t24] h25) fun t27 h28 y29=>
 gP t20 false (oUn .not t27) h28 fun t30 h31 y32=>
 pK (z0y t20 (AB true) t30) fun t33=>
 z0i t33 (K .ret ⟨[(4,v17),(5,(AB false))],h31,(y32++(y29++(y26++(y23++(y19++(y16++(y13++(y10++(y7++x)))))))))⟩)
 (pK (oBin .add v17 (AI 1)) fun t34=>
 K .normal ⟨[(1,v1),(6,v6),(7,v7),(15,v15),(16,v16),(17,t34)],h31,(y32++(y29++(y26++(y23++(y19++(y16++(y13++(y10++(y7++x)))))))))⟩))
 (K (.exit 0) ⟨[(1,v1),(6,v6),(7,v7),(15,v15),(16,v16),(17,v17),(18,t1)],h,x⟩)
theorem znk {C gl e h x K}:NW C gl z2M ⟨e,h,x⟩ K=zcQ C gl (aget e 1) (aget e 6) (aget e 7) (aget e 15) (aget e 16) (aget e 17) h x K:=by kernel_rfl
theorem zpk {C gl e h x K}:NW C gl (.loop z2M) ⟨e,h,x⟩ K=z0N C gl z2M K [(1,aget e 1),(6,aget e 6),(7,aget e 7),(15,aget e 15),(16,aget e 16),(17,aget e 17)] h x:=z0x
def z5H:ACode:=.pr [] (.seq (rg [mV 4 (cI 0),
mV 5 cT] [4,5])
.ret)
def z8e (C:Hd) (gl:GL) (h:Heap) (x:Esc) (K:KT):Prop:=
 K .ret ⟨[(4,(AI 0)),(5,(AB true))],h,x⟩
theorem z83 {C gl e h x K}:NW C gl z5H ⟨e,h,x⟩ K=z8e C gl h x K:=by kernel_rfl
def ztE (q1 q2:ACode):ACode:=(.seq (rg [mV 4 (cI 0),
mV 5 cF] [0,1])
(.seq (rg [mV 11 0,
cL 12 zat [11],
mV 10 12,
eX 13 10 0,
eX 14 10 1,
mV 6 13,
mV 7 14] [1,6,7])
(.seq (.seq (rg [mV 15 6,
lN 16 15,
mV 17 (cI 0)] [1,6,7,15,16,17])
(.block 0 (.loop q1)))
q2)))
def zjY:AFun:=⟨2,[.t 4,.t 5],ztE z2M z5H,false,false⟩
def zg3 (C:Hd) (gl:GL) (q1 q2:ACode) (v0 v1:AV) (h:Heap) (x:Esc) (K:KT):Prop:=
 C zat [v0] h fun t1 h2 y3=>
 pK (oExt t1 0) fun t4=>
 pK (oExt t1 1) fun t5=>
 pK (oLen t4) fun t6=>
 NW C gl (.loop q1) ⟨[(1,v1),(6,t4),(7,t5),(15,t4),(16,t6),(17,(AI 0))],h2,(y3++x)⟩ (z0q 0 (seqN C gl q2 K))
theorem E_q001 {C gl q1 q2 v0 v1 h x K}:NW C gl (ztE q1 q2) ⟨enter [v0,v1],h,x⟩ K=zg3 C gl q1 q2 v0 v1 h x K:=by kernel_rfl
theorem e_q001 {C gl v0 v1 h x K}:NW C gl zjY.body ⟨enter [v0,v1],h,x⟩ K=zg3 C gl z2M z5H v0 v1 h x K:=E_q001
def P_q024:ACode:=(.seq (rg [mV 3 cF] [0,1])
(.seq (rg [mV 7 0,
cL 8 za9 [7],
mV 6 8,
eX 9 6 0,
eX 10 6 1,
uO 4 (.alloc [.p (.str []),.p (.int .i64 0),.p (.str []),.sl0 none]),
wO (.store (some 4) 4 9),
mV 5 10] [1,4,5])
(.seq (rg [lD 11 none 1,
lD 12 (some 4) 4,
uO 13 (.bsl false (some 4) 1 (.agg [.str [],.int .i64 0,.str [],.sl none []]) [(0,12)]),
uO 14 (.app (some 4) 11 13),
wO (.store none 1 14)] [5])
(.seq (rg [mV 15 5,
mV 3 15] [3])
.ret))))
def zky:AFun:=⟨2,[.t 3],P_q024,false,false⟩
def zmy (C:Hd) (gl:GL) (v0 v1:AV) (h:Heap) (x:Esc) (K:KT):Prop:=
 C za9 [v0] h fun t1 h2 y3=>
 pK (oExt t1 0) fun t4=>
 pK (oExt t1 1) fun t5=>
 alK [.p (.str []),.p (.int .i64 0),.p (.str []),.sl0 none] h2 fun t6 h7 y8=>
 wK (z00 (some 4) t6 t4 h7) fun t9 h10 y11=>
 pK (z0g none v1 h10) fun t12=>
 pK (z0g (some 4) t6 h10) fun t13=>
 wK (oBsl false (some 4) 1 (.agg [.str [],.int .i64 0,.str [],.sl none []]) [(0,t13)] h10) fun t14 h15 y16=>
 wK (oApp (some 4) t12 t14 h15) fun t17 h18 y19=>
 wK (z00 none v1 t17 h18) fun t20 h21 y22=>
 K .ret ⟨[(3,t5)],h21,(y22++(y19++(y16++(y11++(y8++(y3++x))))))⟩
theorem e_q024 {C gl v0 v1 h x K}:NW C gl zky.body ⟨enter [v0,v1],h,x⟩ K=zmy C gl v0 v1 h x K:=by kernel_rfl
def P_q02e:ACode:=(.seq (rg [uO 2 (.alloc [.p (.str []),.p (.int .i64 0),.p (.str []),.sl0 none]),
mV 3 cF] [0,2])
(.seq (rg [mV 8 0,
cL 9 z4T [8,(cS [32])],
mV 4 9] [2,4])
(.seq (.seq (rg [mV 10 4,
lN 11 10,
bN 12 .lss 11 (cI 4),
mV 13 12,
gD 14 13 false (.mv 4),
gD 15 13 false (.call z7o [14,(cS [])]),
uO 16 (.pick 13 cT 15)] [2,4,16])
(.cond 16 (.seq (rg [uO 17 (.build [.p (.str []),.p (.int .i64 0),.p (.str []),.sl0 none] []),
wO (.store (some 4) 2 17),
mV 3 cF] [2,3])
.ret)
.skip))
(.seq (rg [mV 19 4,
iA 20 none 19 (cI 1),
lD 21 none 20,
cL 22 z6Z [21,(cI 15)],
mV 18 22,
eX 23 18 0,
eX 24 18 1,
mV 5 23,
mV 6 24] [2,4,5,6])
(.seq (.seq (rg [mV 25 6,
uO 26 (.un .not 25)] [2,4,5,26])
(.cond 26 (.seq (rg [uO 27 (.build [.p (.str []),.p (.int .i64 0),.p (.str []),.sl0 none] []),
wO (.store (some 4) 2 27),
mV 3 cF] [2,3])
.ret)
.skip))
(.seq (rg [mV 29 4,
uO 30 (.slice none 29 (some (cI 3)) none none),
cL 31 zav [30,(cI 15)],
mV 28 31,
eX 32 28 0,
eX 33 28 1,
mV 7 32,
mV 6 33] [2,4,5,6,7])
(.seq (dr [dF (mV 34 4) [4],
dF (iA 35 none 34 (cI 0)) [34],
dF (lD 36 none 35) [35],
dF (mV 37 5) [5],
dF (mV 38 4) [4],
dF (iA 39 none 38 (cI 2)) [38],
dF (lD 40 none 39) [39],
dF (mV 41 7) [7],
dF (uO 42 (.build [.p (.str []),.p (.int .i64 0),.p (.str []),.sl0 none] [(0,1,36),(1,1,37),(2,1,40),(3,1,41)])) [36,37,40,41],
dF (mV 43 6) [6],
dT (wO (.store (some 4) 2 42)) [2,42],
dF (mV 3 43) [43]] [2,3])
.ret)))))))
def zk8:AFun:=⟨1,[.cell 2 (some 4),.t 3],P_q02e,false,false⟩
def zai (C:Hd) (gl:GL) (v0:AV) (h:Heap) (x:Esc) (K:KT):Prop:=
 alK [.p (.str []),.p (.int .i64 0),.p (.str []),.sl0 none] h fun t1 h2 y3=>
 C z4T [v0,(.p (.str [32]))] h2 fun t4 h5 y6=>
 pK (oLen t4) fun t7=>
 pK (oBin .lss t7 (AI 4)) fun t8=>
 gM t8 false t4 h5 fun t9 h10 y11=>
 gV t8 false h10 (C z7o [t9,(.p (.str []))] h10) fun t12 h13 y14=>
 pK (z0y t8 (AB true) t12) fun t15=>
 z0i t15 (pK (z1E [.p (.str []),.p (.int .i64 0),.p (.str []),.sl0 none] []) fun t16=>
 wK (z00 (some 4) t1 t16 h13) fun t17 h18 y19=>
 K .ret ⟨[(2,t1),(3,(AB false))],h18,(y19++(y14++(y11++(y6++(y3++x)))))⟩)
 (pK (z0p none t4 (AI 1) h13) fun t20=>
 pK (z0g none t20 h13) fun t21=>
 C z6Z [t21,(AI 15)] h13 fun t22 h23 y24=>
 pK (oExt t22 0) fun t25=>
 pK (oExt t22 1) fun t26=>
 pK (oUn .not t26) fun t27=>
 z0i t27 (pK (z1E [.p (.str []),.p (.int .i64 0),.p (.str []),.sl0 none] []) fun t28=>
 wK (z00 (some 4) t1 t28 h23) fun t29 h30 y31=>
 K .ret ⟨[(2,t1),(3,(AB false))],h30,(y31++(y24++(y14++(y11++(y6++(y3++x))))))⟩)
 (pK (z2q none t4 (some (AI 3)) none none h23) fun t32=>
 C zav [t32,(AI 15)] h23 fun t33 h34 y35=>
 pK (oExt t33 0) fun t36=>
 pK (oExt t33 1) fun t37=>
 pK (z0p none t4 (AI 0) h34) fun t38=>
 pK (z0g none t38 h34) fun t39=>
 pK (z0p none t4 (AI 2) h34) fun t40=>
 pK (z0g none t40 h34) fun t41=>
 pK (z1E [.p (.str []),.p (.int .i64 0),.p (.str []),.sl0 none] [(0,1,t39),(1,1,t25),(2,1,t41),(3,1,t36)]) fun t42=>
 wK (z00 (some 4) t1 t42 h34) fun t43 h44 y45=>
 K .ret ⟨[(2,t1),(3,t37)],h44,(y45++(y35++(y24++(y14++(y11++(y6++(y3++x)))))))⟩))
theorem e_q02e {C gl v0 h x K}:NW C gl zk8.body ⟨enter [v0],h,x⟩ K=zai C gl v0 h x K:=by kernel_rfl
def z2X:ACode:=.pr [0,1,11,12,13] (.seq (rg [bN 14 .lss 13 12] [0,1,11,12,13,14])
(.seq (.cond 14 .skip
(.exit 0))
(.seq (.block 1 (.seq (rg [mV 15 13,
iA 16 (some 4) 11 13,
lD 17 (some 4) 16,
uO 6 (.alloc [.p (.str []),.p (.int .i64 0),.p (.str []),.sl0 none]),
mV 5 15,
wO (.store (some 4) 6 17)] [0,1,5,6,11,12,13])
(.seq (.seq (rg [mV 18 0,
lD 19 (some 4) 6,
cL 20 zaA [18,19],
mV 7 20] [0,1,5,6,7,11,12,13])
(.seq (rg [mV 21 7,
bN 22 .neq 21 (cI 0)] [0,1,5,6,7,11,12,13,22])
(.cond 22 (.seq (rg [mV 23 7,
mV 4 23] [4])
.ret)
.skip)))
(.seq (dr [dF (mV 24 5) [5],
dF (bN 25 .gtr 24 (cI 0)) [24],
dF (mV 26 25) [25],
dF (gD 27 26 true (.load (some 4) 6)) [6,26],
dF (gD 28 26 true (.mv 1)) [1,26],
dF (gD 29 26 true (.mv 5)) [5,26],
dF (gD 30 26 true (.bin .sub 29 (cI 1))) [29,26],
dF (gD 31 26 true (.iaddr (some 4) 28 30)) [28,30,26],
dF (gD 32 26 true (.load (some 4) 31)) [31,26],
dT (gD 33 26 true (.call za5 [27,32])) [27,32,26],
dF (gD 34 26 true (.bin .leq 33 (cI 0))) [33,26],
dF (uO 35 (.pick 26 34 cF)) [26,34]] [0,1,11,12,13,35])
(.cond 35 (.seq (rg [mV 4 (cI 7)] [4])
.ret)
.skip)))))
(rg [bN 36 .add 13 (cI 1),
mV 13 36] [0,1,11,12,13]))))
def zdq (C:Hd) (gl:GL) (v0 v1 v11 v12 v13:AV) (h:Heap) (x:Esc) (K:KT):Prop:=
 pK (oBin .lss v13 v12) fun t1=>
 z0i t1 (pK (z0p (some 4) v11 v13 h) fun t2=>
 pK (z0g (some 4) t2 h) fun t3=>
 alK [.p (.str []),.p (.int .i64 0),.p (.str []),.sl0 none] h fun t4 h5 y6=>
 wK (z00 (some 4) t4 t3 h5) fun t7 h8 y9=>
 pK (z0g (some 4) t4 h8) fun t10=>
 C zaA [v0,t10] h8 fun t11 h12 y13=>
 pK (oBin .neq t11 (AI 0)) fun t14=>
 z0i t14 (K .ret ⟨[(4,t11)],h12,(y13++(y9++(y6++x)))⟩)
 (pK (oBin .gtr v13 (AI 0)) fun t15=>
 gP t15 true (z0g (some 4) t4 h12) h12 fun t16 h17 y18=>
 gM t15 true v1 h17 fun t19 h20 y21=>
 gM t15 true v13 h20 fun t22 h23 y24=>
 gP t15 true (oBin .sub t22 (AI 1)) h23 fun t25 h26 y27=>
 gP t15 true (z0p (some 4) t19 t25 h26) h26 fun t28 h29 y30=>
 gP t15 true (z0g (some 4) t28 h29) h29 fun t31 h32 y33=>
 gV t15 true h32 (z1Q C za5 [t16,t31] h32) fun t34 h35 y36=>
 gP t15 true (oBin .leq t34 (AI 0)) h35 fun t37 h38 y39=>
 pK (z0y t15 t37 (AB false)) fun t40=>
 z0i t40 (K .ret ⟨[(4,(AI 7))],h38,(y39++(y36++(y33++(y30++(y27++(y24++(y21++(y18++(y13++(y9++(y6++x)))))))))))⟩)
 (pK (oBin .add v13 (AI 1)) fun t41=>
 K .normal ⟨[(0,v0),(1,v1),(11,v11),(12,v12),(13,t41)],h38,(y39++(y36++(y33++(y30++(y27++(y24++(y21++(y18++(y13++(y9++(y6++x)))))))))))⟩)))
 (K (.exit 0) ⟨[(0,v0),(1,v1),(11,v11),(12,v12),(13,v13),(14,t1)],h,x⟩)
theorem znC {C gl e h x K}:NW C gl z2X ⟨e,h,x⟩ K=zdq C gl (aget e 0) (aget e 1) (aget e 11) (aget e 12) (aget e 13) h x K:=by kernel_rfl
theorem zpz {C gl e h x K}:NW C gl (.loop (.scope z2X)) ⟨e,h,x⟩ K=z0N C gl (.scope z2X) K [(0,aget e 0),(1,aget e 1),(11,aget e 11),(12,aget e 12),(13,aget e 13)] h x:=z11
def z5T:ACode:=.pr [] (.seq (rg [mV 4 (cI 0)] [4])
.ret)
def zdr (C:Hd) (gl:GL) (h:Heap) (x:Esc) (K:KT):Prop:=
 K .ret ⟨[(4,(AI 0))],h,x⟩
theorem znD {C gl e h x K}:NW C gl z5T ⟨e,h,x⟩ K=zdr C gl h x K:=by kernel_rfl
def ztQ (q1 q2:ACode):ACode:=(.seq (rg [mV 4 (cI 0)] [0,1])
(.seq (.seq (rg [mV 8 1,
lN 9 8,
bN 10 .gtr 9 (cI 5000)] [0,1,10])
(.cond 10 (.seq (rg [mV 4 (cI 2)] [4])
.ret)
.skip))
(.seq (.seq (rg [mV 11 1,
lN 12 11,
mV 13 (cI 0)] [0,1,11,12,13])
(.block 0 (.loop (.scope q1))))
q2)))
def zgt:AFun:=⟨2,[.t 4],ztQ z2X z5T,false,false⟩
def zdp (C:Hd) (gl:GL) (q1 q2:ACode) (v0 v1:AV) (h:Heap) (x:Esc) (K:KT):Prop:=
 pK (oLen v1) fun t1=>
 pK (oBin .gtr t1 (AI 5000)) fun t2=>
 z0i t2 (K .ret ⟨[(4,(AI 2))],h,x⟩)
 (pK (oLen v1) fun t3=>
 NW C gl (.loop (.scope q1)) ⟨[(0,v0),(1,v1),(11,v1),(12,t3),(13,(AI 0))],h,x⟩ (z0q 0 (seqN C gl q2 K)))
theorem E_q02h {C gl q1 q2 v0 v1 h x K}:NW C gl (ztQ q1 q2) ⟨enter [v0,v1],h,x⟩ K=zdp C gl q1 q2 v0 v1 h x K:=by kernel_rfl
theorem e_q02h {C gl v0 v1 h x K}:NW C gl zgt.body ⟨enter [v0,v1],h,x⟩ K=zdp C gl z2X z5T v0 v1 h x K:=E_q02h
def z3d:ACode:=.pr [0,1,6] (.seq (.seq (rg [mV 10 0,
bN 11 .neq 10 (cS [])] [0,1,6,11])
(.cond 11 .skip
(.exit 0)))
(.seq (.block 1 (.seq (rg [mV 15 0,
cL 16 z8P [15,(cS [10])],
mV 14 16,
eX 17 14 0,
eX 18 14 1,
eX 19 14 2,
mV 7 17,
mV 8 18,
mV 9 19] [1,6,7,8,9])
(.seq (.seq (rg [mV 20 9,
uO 21 (.un .not 20),
mV 22 21,
gD 23 22 false (.mv 1),
gD 24 22 false (.mv 7),
gD 25 22 false (.callv 23 [24]),
gD 26 22 false (.un .not 25),
uO 27 (.pick 22 cT 26)] [1,6,8,27])
(.cond 27 (.seq (rg [mV 28 6,
mV 4 28,
mV 5 cF] [4,5])
.ret)
.skip))
(rg [mV 29 8,
mV 0 29] [0,1,6]))))
(rg [mV 12 6,
bN 13 .add 12 (cI 1),
mV 6 13] [0,1,6])))
def zdD (C:Hd) (gl:GL) (v0 v1 v6:AV) (h:Heap) (x:Esc) (K:KT):Prop:=
 pK (oBin .neq v0 (.p (.str []))) fun t1=>
 z0i t1 (C z8P [v0,(.p (.str [10]))] h fun t2 h3 y4=>
 pK (oExt t2 0) fun t5=>
 pK (oExt t2 1) fun t6=>
 pK (oExt t2 2) fun t7=>
 pK (oUn .not t7) fun t8=>
 gM t8 false v1 h3 fun t9 h10 y11=>
 gM t8 false t5 h10 fun t12 h13 y14=>
 gV t8 false h13 (z3M C t9 [t12] h13) fun t15 h16 y17=>
 gP t8 false (oUn .not t15) h16 fun t18 h19 y20=>
 pK (z0y t8 (AB true) t18) fun t21=>
 z0i t21 (K .ret ⟨[(4,v6),(5,(AB false))],h19,(y20++(y17++(y14++(y11++(y4++x)))))⟩)
 (pK (oBin .add v6 (AI 1)) fun t22=>
 K .normal ⟨[(0,t6),(1,v1),(6,t22)],h19,(y20++(y17++(y14++(y11++(y4++x)))))⟩))
 (K (.exit 0) ⟨[(0,v0),(1,v1),(6,v6),(11,t1)],h,x⟩)
theorem znW {C gl e h x K}:NW C gl z3d ⟨e,h,x⟩ K=zdD C gl (aget e 0) (aget e 1) (aget e 6) h x K:=by kernel_rfl
theorem zp6 {C gl e h x K}:NW C gl (.loop z3d) ⟨e,h,x⟩ K=z0N C gl z3d K [(0,aget e 0),(1,aget e 1),(6,aget e 6)] h x:=z0x
def z6b:ACode:=.pr [] (.seq (rg [mV 4 (cI 0),
mV 5 cT] [4,5])
.ret)
def z8q (C:Hd) (gl:GL) (h:Heap) (x:Esc) (K:KT):Prop:=
 K .ret ⟨[(4,(AI 0)),(5,(AB true))],h,x⟩
theorem z89 {C gl e h x K}:NW C gl z6b ⟨e,h,x⟩ K=z8q C gl h x K:=by kernel_rfl
def ztZ (q1 q2:ACode):ACode:=(.seq (rg [mV 4 (cI 0),
mV 5 cF] [0,1])
(.seq (.seq (rg [mV 6 (cI 0)] [0,1,6])
(.block 0 (.loop q1)))
q2))
def zkW:AFun:=⟨2,[.t 4,.t 5],ztZ z3d z6b,false,false⟩
def zgO (C:Hd) (gl:GL) (q1 q2:ACode) (v0 v1:AV) (h:Heap) (x:Esc) (K:KT):Prop:=
 NW C gl (.loop q1) ⟨[(0,v0),(1,v1),(6,(AI 0))],h,x⟩ (z0q 0 (seqN C gl q2 K))
theorem E_q045 {C gl q1 q2 v0 v1 h x K}:NW C gl (ztZ q1 q2) ⟨enter [v0,v1],h,x⟩ K=zgO C gl q1 q2 v0 v1 h x K:=by kernel_rfl
theorem e_q045 {C gl v0 v1 h x K}:NW C gl zkW.body ⟨enter [v0,v1],h,x⟩ K=zgO C gl z3d z6b v0 v1 h x K:=E_q045
end Go.Am
end
