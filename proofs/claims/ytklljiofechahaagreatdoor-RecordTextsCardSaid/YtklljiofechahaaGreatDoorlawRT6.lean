/- Texts of the proof, laid together: CodesC, CodesD, CodesE, AmL, AmC. -/
import Derived.KernelRfl
import Derived.Test.YtklljiofechahaaGreatDoorlawRT5
set_option linter.all false
section
/- The functions asv abstract code,and asv formulas over their values: printed by program out of the translation. -/
set_option linter.unusedVariables false
set_option maxRecDepth 100000
namespace Go.Am
def P_q04e:ACode:=(.seq (rg [mV 3 cF] [0,1])
(.seq (rg [mV 11 0,
cL 12 zaN [11],
mV 10 12,
eX 13 10 0,
eX 14 10 1,
mV 4 13,
mV 5 14] [1,4,5])
(.seq (.seq (rg [mV 15 5,
uO 16 (.un .not 15),
mV 17 16,
gD 18 17 false (.mv 4),
gD 19 17 false (.len 18),
gD 20 17 false (.bin .lss 19 (cI 4)),
uO 21 (.pick 17 cT 20)] [1,4,21])
(.cond 21 (.seq (rg [mV 3 cF] [3])
.ret)
.skip))
(.seq (rg [mV 23 4,
iA 24 none 23 (cI 1),
lD 25 none 24,
cL 26 z7l [25,(cI 15)],
mV 22 26,
eX 27 22 0,
eX 28 22 1,
mV 6 27,
mV 7 28] [1,4,6,7])
(.seq (rg [mV 30 4,
uO 31 (.slice none 30 (some (cI 3)) none none),
cL 32 zaK [31,(cI 15)],
mV 29 32,
eX 33 29 0,
eX 34 29 1,
mV 8 33,
mV 9 34] [1,4,6,7,8,9])
(.seq (dr [dF (lD 35 none 1) [1],
dF (mV 36 4) [4],
dF (iA 37 none 36 (cI 0)) [36],
dF (lD 38 none 37) [37],
dF (mV 39 6) [6],
dF (mV 40 4) [4],
dF (iA 41 none 40 (cI 2)) [40],
dF (lD 42 none 41) [41],
dF (mV 43 8) [8],
dF (uO 44 (.build [.p (.str []),.p (.int .i64 0),.p (.str []),.sl0 none] [(0,1,38),(1,1,39),(2,1,42),(3,1,43)])) [38,39,42,43],
dF (uO 45 (.bsl false (some 4) 1 (.agg [.str [],.int .i64 0,.str [],.sl none []]) [(0,44)])) [44],
dT (uO 46 (.app (some 4) 35 45)) [35,45],
dT (wO (.store none 1 46)) [1,46]] [7,9])
(.seq (rg [mV 47 7,
mV 48 47,
gD 49 48 true (.mv 9),
uO 50 (.pick 48 49 cF),
mV 3 50] [3])
.ret)))))))
def zld:AFun:=⟨2,[.t 3],P_q04e,false,false⟩
def zao (C:Hd) (gl:GL) (v0 v1:AV) (h:Heap) (x:Esc) (K:KT):Prop:=
 C zaN [v0] h fun t1 h2 y3=>
 pK (oExt t1 0) fun t4=>
 pK (oExt t1 1) fun t5=>
 pK (oUn .not t5) fun t6=>
 gM t6 false t4 h2 fun t7 h8 y9=>
 gP t6 false (oLen t7) h8 fun t10 h11 y12=>
 gP t6 false (oBin .lss t10 (AI 4)) h11 fun t13 h14 y15=>
 pK (z0y t6 (AB true) t13) fun t16=>
 z0i t16 (K .ret ⟨[(3,(AB false))],h14,(y15++(y12++(y9++(y3++x))))⟩)
 (pK (z0p none t4 (AI 1) h14) fun t17=>
 pK (z0g none t17 h14) fun t18=>
 C z7l [t18,(AI 15)] h14 fun t19 h20 y21=>
 pK (oExt t19 0) fun t22=>
 pK (oExt t19 1) fun t23=>
 pK (z2q none t4 (some (AI 3)) none none h20) fun t24=>
 C zaK [t24,(AI 15)] h20 fun t25 h26 y27=>
 pK (oExt t25 0) fun t28=>
 pK (oExt t25 1) fun t29=>
 pK (z0g none v1 h26) fun t30=>
 pK (z0p none t4 (AI 0) h26) fun t31=>
 pK (z0g none t31 h26) fun t32=>
 pK (z0p none t4 (AI 2) h26) fun t33=>
 pK (z0g none t33 h26) fun t34=>
 pK (z1E [.p (.str []),.p (.int .i64 0),.p (.str []),.sl0 none] [(0,1,t32),(1,1,t22),(2,1,t34),(3,1,t28)]) fun t35=>
 wK (oBsl false (some 4) 1 (.agg [.str [],.int .i64 0,.str [],.sl none []]) [(0,t35)] h26) fun t36 h37 y38=>
 (h37=h26∧y38=[])∧(wK (oApp (some 4) t30 t36 h37) fun t39 h40 y41=>
 wK (z00 none v1 t39 h40) fun t42 h43 y44=>
 gM t23 true t29 h43 fun t45 h46 y47=>
 pK (z0y t23 t45 (AB false)) fun t48=>
 K .ret ⟨[(3,t48)],h46,(y47++(y44++(y41++(y38++(y27++(y21++(y15++(y12++(y9++(y3++x))))))))))⟩))
theorem e_q04e {C gl v0 v1 h x K}:NW C gl zld.body ⟨enter [v0,v1],h,x⟩ K=zao C gl v0 v1 h x K:=by kernel_rfl
def P_q04p:ACode:=(.seq (rg [mV 2 (.c (.p (.sl none []))),
mV 3 cF] [0])
(.seq (rg [mV 5 0,
cL 6 z4T [5,(cS [32])],
mV 4 6] [4])
(.seq (rg [mV 7 4,
mV 8 4,
cL 9 z7o [8,(cS [])],
uO 10 (.un .not 9),
mV 2 7,
mV 3 10] [2,3])
.ret)))
def zlh:AFun:=⟨1,[.t 2,.t 3],P_q04p,false,false⟩
def zmF (C:Hd) (gl:GL) (v0:AV) (h:Heap) (x:Esc) (K:KT):Prop:=
 C z4T [v0,(.p (.str [32]))] h fun t1 h2 y3=>
 C z7o [t1,(.p (.str []))] h2 fun t4 h5 y6=>
 pK (oUn .not t4) fun t7=>
 K .ret ⟨[(2,t1),(3,t7)],h5,(y6++(y3++x))⟩
theorem e_q04p {C gl v0 h x K}:NW C gl zlh.body ⟨enter [v0],h,x⟩ K=zmF C gl v0 h x K:=by kernel_rfl
def P_q048:ACode:=(.seq (rg [mV 4 (cI 0),
mV 5 cF] [0,1])
(.seq (rg [mV 9 0,
cL 10 z7s [9,(cS [45])],
mV 6 10] [0,1,6])
(.seq (.seq (rg [mV 11 6,
bN 12 .eql 11 (cS []),
mV 13 12,
gD 14 13 false (.mv 6),
gD 15 13 false (.lens 14),
gD 16 13 false (.mv 1),
gD 17 13 false (.bin .gtr 15 16),
uO 18 (.pick 13 cT 17),
mV 19 18,
gD 20 19 false (.mv 6),
gD 21 19 false (.call z4Q [20,(cS [48,49,50,51,52,53,54,55,56,57])]),
gD 22 19 false (.un .not 21),
uO 23 (.pick 19 cT 22)] [0,23])
(.cond 23 (.seq (rg [mV 4 (cI 0),
mV 5 cF] [4,5])
.ret)
.skip))
(.seq (rg [mV 25 0,
cL 26 z8M [25],
mV 24 26,
eX 27 24 0,
eX 28 24 1,
mV 7 27,
mV 8 28] [0,7,8])
(.seq (rg [mV 29 7,
mV 30 8,
uO 31 (.isnil 3 false 30),
mV 32 31,
gD 33 32 true (.mv 7),
gD 34 32 true (.call z3I [33]),
gD 35 32 true (.mv 0),
gD 36 32 true (.bin .eql 34 35),
uO 37 (.pick 32 36 cF),
mV 4 29,
mV 5 37] [4,5])
.ret)))))
def zkY:AFun:=⟨2,[.t 4,.t 5],P_q048,false,false⟩
def zal (C:Hd) (gl:GL) (v0 v1:AV) (h:Heap) (x:Esc) (K:KT):Prop:=
 C z7s [v0,(.p (.str [45]))] h fun t1 h2 y3=>
 pK (oBin .eql t1 (.p (.str []))) fun t4=>
 gM t4 false t1 h2 fun t5 h6 y7=>
 gP t4 false (z1g t5) h6 fun t8 h9 y10=>
 gM t4 false v1 h9 fun t11 h12 y13=>
 gP t4 false (oBin .gtr t8 t11) h12 fun t14 h15 y16=>
 pK (z0y t4 (AB true) t14) fun t17=>
 gM t17 false t1 h15 fun t18 h19 y20=>
 gV t17 false h19 (C z4Q [t18,(.p (.str [48,49,50,51,52,53,54,55,56,57]))] h19) fun t21 h22 y23=>
 gP t17 false (oUn .not t21) h22 fun t24 h25 y26=>
 pK (z0y t17 (AB true) t24) fun t27=>
 z0i t27 (K .ret ⟨[(4,(AI 0)),(5,(AB false))],h25,(y26++(y23++(y20++(y16++(y13++(y10++(y7++(y3++x))))))))⟩)
 (C z8M [v0] h25 fun t28 h29 y30=>
 pK (oExt t28 0) fun t31=>
 pK (oExt t28 1) fun t32=>
 pK (zbj 3 false t32) fun t33=>
 gM t33 true t31 h29 fun t34 h35 y36=>
 gV t33 true h35 (C z3I [t34] h35) fun t37 h38 y39=>
 gM t33 true v0 h38 fun t40 h41 y42=>
 gP t33 true (oBin .eql t37 t40) h41 fun t43 h44 y45=>
 pK (z0y t33 t43 (AB false)) fun t46=>
 K .ret ⟨[(4,t31),(5,t46)],h44,(y45++(y42++(y39++(y36++(y30++(y26++(y23++(y20++(y16++(y13++(y10++(y7++(y3++x)))))))))))))⟩)
theorem e_q048 {C gl v0 v1 h x K}:NW C gl zkY.body ⟨enter [v0,v1],h,x⟩ K=zal C gl v0 v1 h x K:=by kernel_rfl
def z3f:ACode:=.pr [1,6,7,12,13,14] (.seq (rg [bN 15 .lss 14 13] [1,6,7,12,13,14,15])
(.seq (.cond 15 .skip
(.exit 0))
(.seq (.block 1 (.seq (rg [iA 16 none 12 14,
lD 17 none 16,
mV 9 17] [1,6,7,9,12,13,14])
(.seq (rg [mV 19 9,
mV 20 1,
cL 21 z7l [19,20],
mV 18 21,
eX 22 18 0,
eX 23 18 1,
mV 10 22,
mV 11 23] [1,6,7,10,11,12,13,14])
(rg [mV 24 6,
mV 25 10,
uO 26 (.bsl false none 1 (.int .i64 0) [(0,25)]),
uO 27 (.app none 24 26),
mV 28 7,
mV 29 28,
gD 30 29 true (.mv 11),
uO 31 (.pick 29 30 cF),
mV 6 27,
mV 7 31] [1,6,7,12,13,14]))))
(rg [bN 32 .add 14 (cI 1),
mV 14 32] [1,6,7,12,13,14]))))
def zdF (C:Hd) (gl:GL) (v1 v6 v7 v12 v13 v14:AV) (h:Heap) (x:Esc) (K:KT):Prop:=
 pK (oBin .lss v14 v13) fun t1=>
 z0i t1 (pK (z0p none v12 v14 h) fun t2=>
 pK (z0g none t2 h) fun t3=>
 C z7l [t3,v1] h fun t4 h5 y6=>
 pK (oExt t4 0) fun t7=>
 pK (oExt t4 1) fun t8=>
 wK (oBsl false none 1 (.int .i64 0) [(0,t7)] h5) fun t9 h10 y11=>
 wK (oApp none v6 t9 h10) fun t12 h13 y14=>
 gM v7 true t8 h13 fun t15 h16 y17=>
 pK (z0y v7 t15 (AB false)) fun t18=>
 pK (oBin .add v14 (AI 1)) fun t19=>
 K .normal ⟨[(1,v1),(6,t12),(7,t18),(12,v12),(13,v13),(14,t19)],h16,(y17++(y14++(y11++(y6++x))))⟩)
 (K (.exit 0) ⟨[(1,v1),(6,v6),(7,v7),(12,v12),(13,v13),(14,v14),(15,t1)],h,x⟩)
theorem znY {C gl e h x K}:NW C gl z3f ⟨e,h,x⟩ K=zdF C gl (aget e 1) (aget e 6) (aget e 7) (aget e 12) (aget e 13) (aget e 14) h x K:=by kernel_rfl
theorem zp8 {C gl e h x K}:NW C gl (.loop (.scope z3f)) ⟨e,h,x⟩ K=z0N C gl (.scope z3f) K [(1,aget e 1),(6,aget e 6),(7,aget e 7),(12,aget e 12),(13,aget e 13),(14,aget e 14)] h x:=z11
def z6d:ACode:=.pr [6,7] (.seq (rg [mV 33 6,
mV 34 7,
mV 4 33,
mV 5 34] [4,5])
.ret)
def z8s (C:Hd) (gl:GL) (v6 v7:AV) (h:Heap) (x:Esc) (K:KT):Prop:=
 K .ret ⟨[(4,v6),(5,v7)],h,x⟩
theorem z8B {C gl e h x K}:NW C gl z6d ⟨e,h,x⟩ K=z8s C gl (aget e 6) (aget e 7) h x K:=by kernel_rfl
def zub (q1 q2:ACode):ACode:=(.seq (rg [mV 4 (.c (.p (.sl none []))),
mV 5 cF] [0,1])
(.seq (rg [uO 6 (.new0 none)] [0,1,6])
(.seq (rg [mV 7 cT] [0,1,6,7])
(.seq (.seq (rg [mV 12 0,
lN 13 12,
mV 14 (cI 0)] [1,6,7,12,13,14])
(.block 0 (.loop (.scope q1))))
q2))))
def zla:AFun:=⟨2,[.t 4,.t 5],zub z3f z6d,false,false⟩
def zgQ (C:Hd) (gl:GL) (q1 q2:ACode) (v0 v1:AV) (h:Heap) (x:Esc) (K:KT):Prop:=
 nwK none h fun t1 h2 y3=>
 pK (oLen v0) fun t4=>
 NW C gl (.loop (.scope q1)) ⟨[(1,v1),(6,t1),(7,(AB true)),(12,v0),(13,t4),(14,(AI 0))],h2,(y3++x)⟩ (z0q 0 (seqN C gl q2 K))
theorem E_q04a {C gl q1 q2 v0 v1 h x K}:NW C gl (zub q1 q2) ⟨enter [v0,v1],h,x⟩ K=zgQ C gl q1 q2 v0 v1 h x K:=by kernel_rfl
theorem e_q04a {C gl v0 v1 h x K}:NW C gl zla.body ⟨enter [v0,v1],h,x⟩ K=zgQ C gl z3f z6d v0 v1 h x K:=E_q04a
def P_q025:ACode:=(.seq (rg [uO 2 (.alloc [.p (.int .i64 0),.p (.int .i64 0)]),
uO 3 (.alloc [.p (.int .i64 0),.p (.int .i64 0)]),
mV 4 (cI 0)] [0,2,3])
(.seq (.seq (rg [mV 9 0,
cL 10 zaC [9,(cI 1)],
mV 5 10] [0,2,3,5])
(.seq (rg [mV 11 5,
bN 12 .neq 11 (cI 0)] [0,2,3,5,12])
(.cond 12 (.seq (rg [uO 13 (.build [.p (.int .i64 0),.p (.int .i64 0)] []),
uO 14 (.build [.p (.int .i64 0),.p (.int .i64 0)] []),
mV 15 5,
wO (.store (some 2) 2 13),
wO (.store (some 2) 3 14),
mV 4 15] [2,3,4])
.ret)
.skip)))
(.seq (rg [mV 17 0,
cL 18 zaB [17],
mV 16 18,
eX 19 16 0,
eX 20 16 1,
mV 6 19,
mV 7 20] [0,2,3,6,7])
(.seq (rg [mV 21 0,
lN 22 21,
mV 8 22] [2,3,6,7,8])
(.seq (rg [mV 23 6,
mV 24 8,
cL 25 z6Y [23,24],
mV 26 7,
mV 27 8,
mV 28 8,
bN 29 .mul 27 28,
cL 30 z6Y [26,29],
wO (.store (some 2) 2 25),
wO (.store (some 2) 3 30),
mV 4 (cI 0)] [2,3,4])
.ret)))))
def zkz:AFun:=⟨1,[.cell 2 (some 2),.cell 3 (some 2),.t 4],P_q025,false,false⟩
def zgG (C:Hd) (gl:GL) (v0:AV) (h:Heap) (x:Esc) (K:KT):Prop:=
 alK [.p (.int .i64 0),.p (.int .i64 0)] h fun t1 h2 y3=>
 alK [.p (.int .i64 0),.p (.int .i64 0)] h2 fun t4 h5 y6=>
 C zaC [v0,(AI 1)] h5 fun t7 h8 y9=>
 pK (oBin .neq t7 (AI 0)) fun t10=>
 z0i t10 (pK (z1E [.p (.int .i64 0),.p (.int .i64 0)] []) fun t11=>
 pK (z1E [.p (.int .i64 0),.p (.int .i64 0)] []) fun t12=>
 wK (z00 (some 2) t1 t11 h8) fun t13 h14 y15=>
 wK (z00 (some 2) t4 t12 h14) fun t16 h17 y18=>
 K .ret ⟨[(2,t1),(3,t4),(4,t7)],h17,(y18++(y15++(y9++(y6++(y3++x)))))⟩)
 (C zaB [v0] h8 fun t19 h20 y21=>
 pK (oExt t19 0) fun t22=>
 pK (oExt t19 1) fun t23=>
 pK (oLen v0) fun t24=>
 C z6Y [t22,t24] h20 fun t25 h26 y27=>
 pK (oBin .mul t24 t24) fun t28=>
 C z6Y [t23,t28] h26 fun t29 h30 y31=>
 wK (z00 (some 2) t1 t25 h30) fun t32 h33 y34=>
 wK (z00 (some 2) t4 t29 h33) fun t35 h36 y37=>
 K .ret ⟨[(2,t1),(3,t4),(4,(AI 0))],h36,(y37++(y34++(y31++(y27++(y21++(y9++(y6++(y3++x))))))))⟩)
theorem e_q025 {C gl v0 h x K}:NW C gl zkz.body ⟨enter [v0],h,x⟩ K=zgG C gl v0 h x K:=by kernel_rfl
def z2O:ACode:=.pr [0,23,24] (.seq (rg [bN 25 .lss 24 23] [0,23,24,25])
(.seq (.cond 25 .skip
(.exit 0))
(.seq (.block 1 (.seq (rg [mV 26 24,
mV 3 26] [0,3,23,24])
(.seq (rg [mV 27 0,
mV 28 3,
uO 29 (.idxs 27 28),
mV 4 29] [0,4,23,24])
(.seq (rg [mV 30 4,
bN 31 .geq 30 (.c (.p (.int .u8 97))),
mV 32 31,
gD 33 32 true (.mv 4),
gD 34 32 true (.bin .leq 33 (.c (.p (.int .u8 122)))),
uO 35 (.pick 32 34 cF),
mV 36 35,
gD 37 36 false (.mv 4),
gD 38 36 false (.bin .geq 37 (.c (.p (.int .u8 48)))),
gD 39 36 false (.mv 38),
gD 40 39 true (.mv 4),
gD 41 39 true (.bin .leq 40 (.c (.p (.int .u8 57)))),
gD 42 36 false (.pick 39 41 cF),
uO 43 (.pick 36 cT 42),
mV 44 43,
gD 45 44 false (.mv 4),
gD 46 44 false (.bin .eql 45 (.c (.p (.int .u8 45)))),
uO 47 (.pick 44 cT 46),
mV 48 47,
gD 49 48 false (.mv 4),
gD 50 48 false (.bin .eql 49 (.c (.p (.int .u8 95)))),
uO 51 (.pick 48 cT 50),
uO 52 (.un .not 51)] [0,23,24,52])
(.cond 52 (.seq (rg [mV 2 cF] [2])
.ret)
.skip)))))
(rg [bN 53 .add 24 (cI 1),
mV 24 53] [0,23,24]))))
def zcT (C:Hd) (gl:GL) (v0 v23 v24:AV) (h:Heap) (x:Esc) (K:KT):Prop:=
 pK (oBin .lss v24 v23) fun t1=>
 z0i t1 (pK (z1D v0 v24) fun t2=>
 pK (oBin .geq t2 (.p (.int .u8 97))) fun t3=>
 gM t3 true t2 h fun t4 h5 y6=>
 gP t3 true (oBin .leq t4 (.p (.int .u8 122))) h5 fun t7 h8 y9=>
 pK (z0y t3 t7 (AB false)) fun t10=>
 gM t10 false t2 h8 fun t11 h12 y13=>
 gP t10 false (oBin .geq t11 (.p (.int .u8 48))) h12 fun t14 h15 y16=>
 gM t10 false t14 h15 fun t17 h18 y19=>
 gM t17 true t2 h18 fun t20 h21 y22=>
 gP t17 true (oBin .leq t20 (.p (.int .u8 57))) h21 fun t23 h24 y25=>
 gP t10 false (z0y t17 t23 (AB false)) h24 fun t26 h27 y28=>
 pK (z0y t10 (AB true) t26) fun t29=>
 gM t29 false t2 h27 fun t30 h31 y32=>
 gP t29 false (oBin .eql t30 (.p (.int .u8 45))) h31 fun t33 h34 y35=>
 pK (z0y t29 (AB true) t33) fun t36=>
 gM t36 false t2 h34 fun t37 h38 y39=>
 gP t36 false (oBin .eql t37 (.p (.int .u8 95))) h38 fun t40 h41 y42=>
 pK (z0y t36 (AB true) t40) fun t43=>
 pK (oUn .not t43) fun t44=>
 z0i t44 (K .ret ⟨[(2,(AB false))],h41,(y42++(y39++(y35++(y32++(y28++(y25++(y22++(y19++(y16++(y13++(y9++(y6++x))))))))))))⟩)
 (pK (oBin .add v24 (AI 1)) fun t45=>
 K .normal ⟨[(0,v0),(23,v23),(24,t45)],h41,(y42++(y39++(y35++(y32++(y28++(y25++(y22++(y19++(y16++(y13++(y9++(y6++x))))))))))))⟩))
 (K (.exit 0) ⟨[(0,v0),(23,v23),(24,v24),(25,t1)],h,x⟩)
theorem znn {C gl e h x K}:NW C gl z2O ⟨e,h,x⟩ K=zcT C gl (aget e 0) (aget e 23) (aget e 24) h x K:=by kernel_rfl
theorem zpm {C gl e h x K}:NW C gl (.loop z2O) ⟨e,h,x⟩ K=z0N C gl z2O K [(0,aget e 0),(23,aget e 23),(24,aget e 24)] h x:=z0x
def z5J:ACode:=.pr [] (.seq (rg [mV 2 cT] [2])
.ret)
def zcU (C:Hd) (gl:GL) (h:Heap) (x:Esc) (K:KT):Prop:=
 K .ret ⟨[(2,(AB true))],h,x⟩
theorem zno {C gl e h x K}:NW C gl z5J ⟨e,h,x⟩ K=zcU C gl h x K:=by kernel_rfl
def ztG (q1 q2:ACode):ACode:=(.seq (rg [mV 2 cF] [0])
(.seq (.seq (rg [mV 5 0,
bN 6 .eql 5 (cS []),
mV 7 6,
gD 8 7 false (.mv 0),
gD 9 7 false (.lens 8),
gD 10 7 false (.bin .gtr 9 (cI 40)),
uO 11 (.pick 7 cT 10),
mV 12 11,
gD 13 12 false (.mv 0),
gD 14 12 false (.idxs 13 (cI 0)),
gD 15 12 false (.bin .lss 14 (.c (.p (.int .u8 97)))),
uO 16 (.pick 12 cT 15),
mV 17 16,
gD 18 17 false (.mv 0),
gD 19 17 false (.idxs 18 (cI 0)),
gD 20 17 false (.bin .gtr 19 (.c (.p (.int .u8 122)))),
uO 21 (.pick 17 cT 20)] [0,21])
(.cond 21 (.seq (rg [mV 2 cF] [2])
.ret)
.skip))
(.seq (.seq (rg [mV 22 0,
uO 23 (.lens 22),
mV 24 (cI 0)] [0,23,24])
(.block 0 (.loop q1)))
q2)))
def zkb:AFun:=⟨1,[.t 2],ztG z2O z5J,false,false⟩
def z6U (C:Hd) (gl:GL) (q1 q2:ACode) (v0:AV) (h:Heap) (x:Esc) (K:KT):Prop:=
 pK (oBin .eql v0 (.p (.str []))) fun t1=>
 gM t1 false v0 h fun t2 h3 y4=>
 gP t1 false (z1g t2) h3 fun t5 h6 y7=>
 gP t1 false (oBin .gtr t5 (AI 40)) h6 fun t8 h9 y10=>
 pK (z0y t1 (AB true) t8) fun t11=>
 gM t11 false v0 h9 fun t12 h13 y14=>
 gP t11 false (z1D t12 (AI 0)) h13 fun t15 h16 y17=>
 gP t11 false (oBin .lss t15 (.p (.int .u8 97))) h16 fun t18 h19 y20=>
 pK (z0y t11 (AB true) t18) fun t21=>
 gM t21 false v0 h19 fun t22 h23 y24=>
 gP t21 false (z1D t22 (AI 0)) h23 fun t25 h26 y27=>
 gP t21 false (oBin .gtr t25 (.p (.int .u8 122))) h26 fun t28 h29 y30=>
 pK (z0y t21 (AB true) t28) fun t31=>
 z0i t31 (K .ret ⟨[(2,(AB false))],h29,(y30++(y27++(y24++(y20++(y17++(y14++(y10++(y7++(y4++x)))))))))⟩)
 (pK (z1g v0) fun t32=>
 NW C gl (.loop q1) ⟨[(0,v0),(23,t32),(24,(AI 0))],h29,(y30++(y27++(y24++(y20++(y17++(y14++(y10++(y7++(y4++x)))))))))⟩ (z0q 0 (seqN C gl q2 K)))
theorem E_q005 {C gl q1 q2 v0 h x K}:NW C gl (ztG q1 q2) ⟨enter [v0],h,x⟩ K=z6U C gl q1 q2 v0 h x K:=by kernel_rfl
theorem e_q005 {C gl v0 h x K}:NW C gl zkb.body ⟨enter [v0],h,x⟩ K=z6U C gl z2O z5J v0 h x K:=E_q005
def P_q046:ACode:=(.seq (rg [mV 2 cF] [0])
(.seq (rg [mV 3 0,
cL 4 z18 [3,(cI 0),(cI 345686399999)],
mV 2 4] [2])
.ret))
def zkX:AFun:=⟨1,[.t 2],P_q046,false,false⟩
def zmC (C:Hd) (gl:GL) (v0:AV) (h:Heap) (x:Esc) (K:KT):Prop:=
 C z18 [v0,(AI 0),(AI 345686399999)] h fun t1 h2 y3=>
 K .ret ⟨[(2,t1)],h2,(y3++x)⟩
theorem e_q046 {C gl v0 h x K}:NW C gl zkX.body ⟨enter [v0],h,x⟩ K=zmC C gl v0 h x K:=by kernel_rfl
def P_q043:ACode:=(.seq (rg [mV 2 cF] [0])
(.seq (rg [mV 3 0,
uO 4 (.lens 3),
cL 5 z18 [4,(cI 1),(cI 40)],
mV 6 5,
gD 7 6 true (.mv 0),
gD 8 6 true (.slstr 7 none (some (cI 1))),
gD 9 6 true (.call z4Q [8,(cS [97,98,99,100,101,102,103,104,105,106,107,108,109,110,111,112,113,114,115,116,117,118,119,120,121,122])]),
uO 10 (.pick 6 9 cF),
mV 11 10,
gD 12 11 true (.mv 0),
gD 13 11 true (.call z4Q [12,(cS [97,98,99,100,101,102,103,104,105,106,107,108,109,110,111,112,113,114,115,116,117,118,119,120,121,122,48,49,50,51,52,53,54,55,56,57,45,95])]),
uO 14 (.pick 11 13 cF),
mV 2 14] [2])
.ret))
def zkU:AFun:=⟨1,[.t 2],P_q043,false,false⟩
def zaj (C:Hd) (gl:GL) (v0:AV) (h:Heap) (x:Esc) (K:KT):Prop:=
 pK (z1g v0) fun t1=>
 C z18 [t1,(AI 1),(AI 40)] h fun t2 h3 y4=>
 gM t2 true v0 h3 fun t5 h6 y7=>
 gP t2 true (z1h t5 none (some (AI 1))) h6 fun t8 h9 y10=>
 gV t2 true h9 (C z4Q [t8,(.p (.str [97,98,99,100,101,102,103,104,105,106,107,108,109,110,111,112,113,114,115,116,117,118,119,120,121,122]))] h9) fun t11 h12 y13=>
 pK (z0y t2 t11 (AB false)) fun t14=>
 gM t14 true v0 h12 fun t15 h16 y17=>
 gV t14 true h16 (C z4Q [t15,(.p (.str [97,98,99,100,101,102,103,104,105,106,107,108,109,110,111,112,113,114,115,116,117,118,119,120,121,122,48,49,50,51,52,53,54,55,56,57,45,95]))] h16) fun t18 h19 y20=>
 pK (z0y t14 t18 (AB false)) fun t21=>
 K .ret ⟨[(2,t21)],h19,(y20++(y17++(y13++(y10++(y7++(y4++x))))))⟩
theorem e_q043 {C gl v0 h x K}:NW C gl zkU.body ⟨enter [v0],h,x⟩ K=zaj C gl v0 h x K:=by kernel_rfl
def P_q05k:ACode:=(.seq (rg [mV 4 cF] [0,1])
(.seq (rg [mV 5 0,
mV 6 1,
cL 7 zaW [5,6],
bN 8 .geq 7 (cI 0),
mV 4 8] [4])
.ret))
def zlr:AFun:=⟨2,[.t 4],P_q05k,true,false⟩
def zmJ (C:Hd) (gl:GL) (v0 v1:AV) (h:Heap) (x:Esc) (K:KT):Prop:=
 C zaW [v0,v1] h fun t1 h2 y3=>
 pK (oBin .geq t1 (AI 0)) fun t4=>
 K .ret ⟨[(4,t4)],h2,(y3++x)⟩
theorem e_q05k {C gl v0 v1 h x K}:NW C gl zlr.body ⟨enter [v0,v1],h,x⟩ K=zmJ C gl v0 v1 h x K:=by kernel_rfl
def P_q057:ACode:=(.seq (rg [mV 2 (cI 0)] [0])
(.seq (.block 0 (.seq (rg [mV 4 0,
bN 5 .lss 4 (cI 0),
mV 3 5] [0,3])
(.cond 3 (.seq (rg [mV 2 (cI (-1))] [2])
.ret)
(.seq (rg [mV 7 0,
bN 8 .gtr 7 (cI 0),
mV 6 8] [6])
(.cond 6 (.seq (rg [mV 2 (cI 1)] [2])
.ret)
.skip)))))
(.seq (rg [mV 2 (cI 0)] [2])
.ret)))
def zlo:AFun:=⟨1,[.t 2],P_q057,false,false⟩
def zdN (C:Hd) (gl:GL) (v0:AV) (h:Heap) (x:Esc) (K:KT):Prop:=
 pK (oBin .lss v0 (AI 0)) fun t1=>
 z0i t1 (K .ret ⟨[(2,(AI (-1)))],h,x⟩)
 (pK (oBin .gtr v0 (AI 0)) fun t2=>
 z0i t2 (K .ret ⟨[(2,(AI 1))],h,x⟩)
 (K .ret ⟨[(2,(AI 0))],h,x⟩))
theorem e_q057 {C gl v0 h x K}:NW C gl zlo.body ⟨enter [v0],h,x⟩ K=zdN C gl v0 h x K:=by kernel_rfl
def z5W:ACode:=.pr [0] (.seq (rg [mV 15 0,
mV 4 15] [4])
.ret)
def zdw (C:Hd) (gl:GL) (v0:AV) (h:Heap) (x:Esc) (K:KT):Prop:=
 K .ret ⟨[(4,v0)],h,x⟩
theorem znG {C gl e h x K}:NW C gl z5W ⟨e,h,x⟩ K=zdw C gl (aget e 0) h x K:=by kernel_rfl
def ztT (q1:ACode):ACode:=(.seq (rg [mV 4 (cI 0)] [0,1])
(.seq (.seq (rg [mV 5 1,
bN 6 .lss 5 (cI 1)] [0,1,6])
(.cond 6 (.seq (rg [mV 4 (cI 0)] [4])
.ret)
.skip))
(.seq (rg [mV 7 0,
mV 8 1,
bN 9 .rem 7 8,
mV 0 9] [0,1])
(.seq (.seq (rg [mV 10 0,
bN 11 .lss 10 (cI 0)] [0,1,11])
(.cond 11 (rg [mV 12 0,
mV 13 1,
bN 14 .add 12 13,
mV 0 14] [0])
.skip))
q1))))
def zkG:AFun:=⟨2,[.t 4],ztT z5W,false,false⟩
def zgJ (C:Hd) (gl:GL) (q1:ACode) (v0 v1:AV) (h:Heap) (x:Esc) (K:KT):Prop:=
 pK (oBin .lss v1 (AI 1)) fun t1=>
 z0i t1 (K .ret ⟨[(4,(AI 0))],h,x⟩)
 (pK (oBin .rem v0 v1) fun t2=>
 pK (oBin .lss t2 (AI 0)) fun t3=>
 z0i t3 (pK (oBin .add t2 v1) fun t4=>
 NW C gl q1 ⟨[(0,t4)],h,x⟩ K)
 (NW C gl q1 ⟨[(0,t2),(1,v1),(11,t3)],h,x⟩ K))
theorem E_q039 {C gl q1 v0 v1 h x K}:NW C gl (ztT q1) ⟨enter [v0,v1],h,x⟩ K=zgJ C gl q1 v0 v1 h x K:=by kernel_rfl
theorem e_q039 {C gl v0 v1 h x K}:NW C gl zkG.body ⟨enter [v0,v1],h,x⟩ K=zgJ C gl z5W v0 v1 h x K:=E_q039
def z3r:ACode:=.pr [0,1,2,6,7,8] (.seq (.seq (rg [mV 11 8,
mV 12 1,
bN 13 .leq 11 12] [0,1,2,6,7,8,13])
(.cond 13 .skip
(.exit 0)))
(.block 1 (.seq (rg [mV 14 0,
mV 15 7,
mV 16 8,
mV 17 2,
cL 18 z7q [14,15,16,17]] [0,1,2,6,8])
(.seq (rg [mV 19 8,
mV 7 19] [0,1,2,6,7,8])
(rg [mV 20 8,
mV 21 6,
bN 22 .add 20 21,
mV 8 22] [0,1,2,6,7,8])))))
def zei (C:Hd) (gl:GL) (v0 v1 v2 v6 v7 v8:AV) (h:Heap) (x:Esc) (K:KT):Prop:=
 pK (oBin .leq v8 v1) fun t1=>
 z0i t1 (C z7q [v0,v7,v8,v2] h fun t2 h3 y4=>
 pK (oBin .add v8 v6) fun t5=>
 K .normal ⟨[(0,v0),(1,v1),(2,v2),(6,v6),(7,v8),(8,t5)],h3,(y4++x)⟩)
 (K (.exit 0) ⟨[(0,v0),(1,v1),(2,v2),(6,v6),(7,v7),(8,v8),(13,t1)],h,x⟩)
theorem zoz {C gl e h x K}:NW C gl z3r ⟨e,h,x⟩ K=zei C gl (aget e 0) (aget e 1) (aget e 2) (aget e 6) (aget e 7) (aget e 8) h x K:=by kernel_rfl
theorem zpM {C gl e h x K}:NW C gl (.loop z3r) ⟨e,h,x⟩ K=z0N C gl z3r K [(0,aget e 0),(1,aget e 1),(2,aget e 2),(6,aget e 6),(7,aget e 7),(8,aget e 8)] h x:=z0x
def z4k:ACode:=.pr [0,1,2,6,7,8] (.seq (.seq (rg [mV 33 8,
mV 34 1,
bN 35 .leq 33 34] [0,1,2,6,7,8,35])
(.cond 35 .skip
(.exit 4)))
(.block 5 (.seq (rg [mV 36 0,
mV 37 7,
mV 38 7,
mV 39 6,
bN 40 .add 38 39,
mV 41 8,
mV 42 2,
cL 43 zhk [36,37,40,41,42]] [0,1,2,6,8])
(.seq (rg [mV 44 8,
mV 7 44] [0,1,2,6,7,8])
(rg [mV 45 8,
mV 46 6,
bN 47 .mul (cI 2) 46,
bN 48 .add 45 47,
mV 8 48] [0,1,2,6,7,8])))))
def zej (C:Hd) (gl:GL) (v0 v1 v2 v6 v7 v8:AV) (h:Heap) (x:Esc) (K:KT):Prop:=
 pK (oBin .leq v8 v1) fun t1=>
 z0i t1 (pK (oBin .add v7 v6) fun t2=>
 C zhk [v0,v7,t2,v8,v2] h fun t3 h4 y5=>
 pK (oBin .mul (AI 2) v6) fun t6=>
 pK (oBin .add v8 t6) fun t7=>
 K .normal ⟨[(0,v0),(1,v1),(2,v2),(6,v6),(7,v8),(8,t7)],h4,(y5++x)⟩)
 (K (.exit 4) ⟨[(0,v0),(1,v1),(2,v2),(6,v6),(7,v7),(8,v8),(35,t1)],h,x⟩)
theorem zo0 {C gl e h x K}:NW C gl z4k ⟨e,h,x⟩ K=zej C gl (aget e 0) (aget e 1) (aget e 2) (aget e 6) (aget e 7) (aget e 8) h x K:=by kernel_rfl
theorem zpN {C gl e h x K}:NW C gl (.loop z4k) ⟨e,h,x⟩ K=z0N C gl z4k K [(0,aget e 0),(1,aget e 1),(2,aget e 2),(6,aget e 6),(7,aget e 7),(8,aget e 8)] h x:=z0x
def z9r:ACode:=.pr [0,1,2,6] (rg [mV 61 6,
bN 62 .mul 61 (cI 2),
mV 6 62] [0,1,2,6])
def zek (C:Hd) (gl:GL) (v0 v1 v2 v6:AV) (h:Heap) (x:Esc) (K:KT):Prop:=
 pK (oBin .mul v6 (AI 2)) fun t1=>
 K .normal ⟨[(0,v0),(1,v1),(2,v2),(6,t1)],h,x⟩
theorem zo1 {C gl e h x K}:NW C gl z9r ⟨e,h,x⟩ K=zek C gl (aget e 0) (aget e 1) (aget e 2) (aget e 6) h x K:=by kernel_rfl
def zc8 (q3:ACode):ACode:=.pr [0,1,2,6,7] (.seq (.seq (rg [mV 49 7,
mV 50 6,
bN 51 .add 49 50,
mV 9 51] [0,1,2,6,7,9])
(.seq (rg [mV 52 9,
mV 53 1,
bN 54 .lss 52 53] [0,1,2,6,7,9,54])
(.cond 54 (rg [mV 55 0,
mV 56 7,
mV 57 9,
mV 58 1,
mV 59 2,
cL 60 zhk [55,56,57,58,59]] [0,1,2,6])
.skip)))
q3)
def z9s:ACode:=zc8 z9r
def z8x (C:Hd) (gl:GL) (q3:ACode) (v0 v1 v2 v6 v7:AV) (h:Heap) (x:Esc) (K:KT):Prop:=
 pK (oBin .add v7 v6) fun t1=>
 pK (oBin .lss t1 v1) fun t2=>
 z0i t2 (C zhk [v0,v7,t1,v1,v2] h fun t3 h4 y5=>
 NW C gl q3 ⟨[(0,v0),(1,v1),(2,v2),(6,v6)],h4,(y5++x)⟩ K)
 (NW C gl q3 ⟨[(0,v0),(1,v1),(2,v2),(6,v6),(7,v7),(9,t1),(54,t2)],h,x⟩ K)
theorem zjN {C gl q3 e h x K}:NW C gl (zc8 q3) ⟨e,h,x⟩ K=z8x C gl q3 (aget e 0) (aget e 1) (aget e 2) (aget e 6) (aget e 7) h x K:=by kernel_rfl
theorem zo2 {C gl e h x K}:NW C gl z9s ⟨e,h,x⟩ K=z8x C gl z9r (aget e 0) (aget e 1) (aget e 2) (aget e 6) (aget e 7) h x K:=zjN
def zc9 (q2 q4:ACode):ACode:=.pr [0,1,2,6] (.seq (.seq (rg [mV 28 6,
mV 29 1,
bN 30 .lss 28 29] [0,1,2,6,30])
(.cond 30 .skip
(.exit 2)))
(.block 3 (.seq (rg [mV 31 6,
bN 32 .mul (cI 2) 31,
mV 7 (cI 0),
mV 8 32] [0,1,2,6,7,8])
(.seq (.block 4 (.loop q2))
q4))))
def z4l:ACode:=zc9 z4k z9s
def z8y (C:Hd) (gl:GL) (q2 q4:ACode) (v0 v1 v2 v6:AV) (h:Heap) (x:Esc) (K:KT):Prop:=
 pK (oBin .lss v6 v1) fun t1=>
 z0i t1 (pK (oBin .mul (AI 2) v6) fun t2=>
 NW C gl (.loop q2) ⟨[(0,v0),(1,v1),(2,v2),(6,v6),(7,(AI 0)),(8,t2)],h,x⟩ (z0q 4 (seqN C gl q4 (z0q 3 K))))
 (K (.exit 2) ⟨[(0,v0),(1,v1),(2,v2),(6,v6),(30,t1)],h,x⟩)
theorem zjO {C gl q2 q4 e h x K}:NW C gl (zc9 q2 q4) ⟨e,h,x⟩ K=z8y C gl q2 q4 (aget e 0) (aget e 1) (aget e 2) (aget e 6) h x K:=by kernel_rfl
theorem zo3 {C gl e h x K}:NW C gl z4l ⟨e,h,x⟩ K=z8y C gl z4k z9s (aget e 0) (aget e 1) (aget e 2) (aget e 6) h x K:=zjO
theorem zpO {C gl e h x K}:NW C gl (.loop z4l) ⟨e,h,x⟩ K=z0N C gl z4l K [(0,aget e 0),(1,aget e 1),(2,aget e 2),(6,aget e 6)] h x:=z0x
def zcA (q5:ACode):ACode:=.pr [0,1,2,6,7] (.seq (rg [mV 23 0,
mV 24 7,
mV 25 1,
mV 26 2,
cL 27 z7q [23,24,25,26]] [0,1,2,6])
(.block 2 (.loop q5)))
def z6o:ACode:=zcA z4l
def z8z (C:Hd) (gl:GL) (q5:ACode) (v0 v1 v2 v6 v7:AV) (h:Heap) (x:Esc) (K:KT):Prop:=
 C z7q [v0,v7,v1,v2] h fun t1 h2 y3=>
 NW C gl (.loop q5) ⟨[(0,v0),(1,v1),(2,v2),(6,v6)],h2,(y3++x)⟩ (z0q 2 K)
theorem zjP {C gl q5 e h x K}:NW C gl (zcA q5) ⟨e,h,x⟩ K=z8z C gl q5 (aget e 0) (aget e 1) (aget e 2) (aget e 6) (aget e 7) h x K:=by kernel_rfl
theorem zo4 {C gl e h x K}:NW C gl z6o ⟨e,h,x⟩ K=z8z C gl z4l (aget e 0) (aget e 1) (aget e 2) (aget e 6) (aget e 7) h x K:=zjP
def zun (q1 q6:ACode):ACode:=(.seq (rg [mV 6 (cI 20)] [0,1,2,6])
(.seq (rg [mV 10 6,
mV 7 (cI 0),
mV 8 10] [0,1,2,6,7,8])
(.seq (.block 0 (.loop q1))
q6)))
def zlz:AFun:=⟨3,[],zun z3r z6o,true,false⟩
def zgZ (C:Hd) (gl:GL) (q1 q6:ACode) (v0 v1 v2:AV) (h:Heap) (x:Esc) (K:KT):Prop:=
 NW C gl (.loop q1) ⟨[(0,v0),(1,v1),(2,v2),(6,(AI 20)),(7,(AI 0)),(8,(AI 20))],h,x⟩ (z0q 0 (seqN C gl q6 K))
theorem E_q07h {C gl q1 q6 v0 v1 v2 h x K}:NW C gl (zun q1 q6) ⟨enter [v0,v1,v2],h,x⟩ K=zgZ C gl q1 q6 v0 v1 v2 h x K:=by kernel_rfl
theorem e_q07h {C gl v0 v1 v2 h x K}:NW C gl zlz.body ⟨enter [v0,v1,v2],h,x⟩ K=zgZ C gl z3r z6o v0 v1 v2 h x K:=E_q07h
def P_q00v:ACode:=(.seq (rg [mV 2 cF] [0])
(.seq (rg [mV 3 0,
mV 4 0,
bN 5 .neq 3 4,
mV 2 5] [2])
.ret))
def zkj:AFun:=⟨1,[.t 2],P_q00v,false,false⟩
def zmu (C:Hd) (gl:GL) (v0:AV) (h:Heap) (x:Esc) (K:KT):Prop:=
 pK (oBin .neq v0 v0) fun t1=>
 K .ret ⟨[(2,t1)],h,x⟩
theorem e_q00v {C gl v0 h x K}:NW C gl zkj.body ⟨enter [v0],h,x⟩ K=zmu C gl v0 h x K:=by kernel_rfl
def P_q01b:ACode:=(.seq (rg [mV 4 (cI 0)] [0,1])
(.seq (rg [mV 5 0,
mV 6 1,
cL 7 z0f [5,6],
mV 4 7] [4])
.ret))
def zkk:AFun:=⟨2,[.t 4],P_q01b,false,false⟩
def zmv (C:Hd) (gl:GL) (v0 v1:AV) (h:Heap) (x:Esc) (K:KT):Prop:=
 C z0f [v0,v1] h fun t1 h2 y3=>
 K .ret ⟨[(4,t1)],h2,(y3++x)⟩
theorem e_q01b {C gl v0 v1 h x K}:NW C gl zkk.body ⟨enter [v0,v1],h,x⟩ K=zmv C gl v0 v1 h x K:=by kernel_rfl
def P_q04k:ACode:=(.seq (rg [uO 3 (.box 1),
mV 4 (cI 0)] [0,3])
(.seq (rg [mV 5 0,
uO 6 (.mkfn z8K [3]),
cL 7 z7p [5,6],
mV 4 7] [4])
.ret))
def zlf:AFun:=⟨2,[.t 4],P_q04k,false,false⟩
def zmD (C:Hd) (gl:GL) (v0 v1:AV) (h:Heap) (x:Esc) (K:KT):Prop:=
 wK (oBox v1 h) fun t1 h2 y3=>
 C z7p [v0,(.fn z8K [t1])] h2 fun t4 h5 y6=>
 K .ret ⟨[(4,t4)],h5,(y6++(y3++x))⟩
theorem e_q04k {C gl v0 v1 h x K}:NW C gl zlf.body ⟨enter [v0,v1],h,x⟩ K=zmD C gl v0 v1 h x K:=by kernel_rfl
def P_q050:ACode:=(.seq (rg [mV 6 cF] [0,1,2])
(.seq (rg [mV 7 1,
mV 8 0,
bN 9 .leq 7 8,
mV 10 9,
gD 11 10 true (.mv 0),
gD 12 10 true (.mv 2),
gD 13 10 true (.bin .leq 11 12),
uO 14 (.pick 10 13 cF),
mV 6 14] [6])
.ret))
def zlj:AFun:=⟨3,[.t 6],P_q050,false,false⟩
def zmG (C:Hd) (gl:GL) (v0 v1 v2:AV) (h:Heap) (x:Esc) (K:KT):Prop:=
 pK (oBin .leq v1 v0) fun t1=>
 gM t1 true v0 h fun t2 h3 y4=>
 gM t1 true v2 h3 fun t5 h6 y7=>
 gP t1 true (oBin .leq t2 t5) h6 fun t8 h9 y10=>
 pK (z0y t1 t8 (AB false)) fun t11=>
 K .ret ⟨[(6,t11)],h9,(y10++(y7++(y4++x)))⟩
theorem e_q050 {C gl v0 v1 v2 h x K}:NW C gl zlj.body ⟨enter [v0,v1,v2],h,x⟩ K=zmG C gl v0 v1 v2 h x K:=by kernel_rfl
def P_q08z:ACode:=(.seq (rg [mV 2 0,
uO 3 (.nilchk 2),
fA 4 0 none 3,
lD 5 none 4,
uO 6 (.isnil 0 false 5)] [0,6])
(.cond 6 (rg [mV 7 0,
mV 8 0,
uO 9 (.uns 1 107 [8]),
uO 10 (.uns 7 z0R [(.f z0R),9]),
uO 11 (.uns 1 107 [10]),
uO 12 (.nilchk 7),
fA 13 0 none 12,
wO (.store none 13 11)] [])
(.seq (rg [mV 14 0,
uO 15 (.nilchk 14),
fA 16 0 none 15,
lD 17 none 16,
mV 18 0,
uO 19 (.uns 2 0 [17,18])] [19])
(.cond 19 .bad
.skip))))
def zl4:AFun:=⟨1,[],P_q08z,false,false⟩
def zhb (C:Hd) (gl:GL) (v0:AV) (h:Heap) (x:Esc) (K:KT):Prop:=
 pK (oNil v0) fun t1=>
 pK (z0j 0 none t1) fun t2=>
 pK (z0g none t2 h) fun t3=>
 pK (zbj 0 false t3) fun t4=>
 z0i t4 (wK (z1z 1 107 [v0] h) fun t5 h6 y7=>
 wK (z1z 7 z0R [(.fn z0R []),t5] h6) fun t8 h9 y10=>
 wK (z1z 1 107 [t8] h9) fun t11 h12 y13=>
 pK (oNil v0) fun t14=>
 pK (z0j 0 none t14) fun t15=>
 wK (z00 none t15 t11 h12) fun t16 h17 y18=>
 K .normal ⟨[],h17,(y18++(y13++(y10++(y7++x))))⟩)
 (pK (oNil v0) fun t19=>
 pK (z0j 0 none t19) fun t20=>
 pK (z0g none t20 h) fun t21=>
 wK (z1z 2 0 [t21,v0] h) fun t22 h23 y24=>
 z0i t22 (False)
 (K .normal ⟨[(19,t22)],h23,(y24++x)⟩))
theorem e_q08z {C gl v0 h x K}:NW C gl zl4.body ⟨enter [v0],h,x⟩ K=zhb C gl v0 h x K:=by kernel_rfl
def P_q05i:ACode:=(.seq (rg [mV 4 cF] [0,1])
(.seq (rg [mV 5 0,
mV 6 1,
cL 7 zaV [5,6],
bN 8 .geq 7 (cI 0),
mV 4 8] [4])
.ret))
def zlq:AFun:=⟨2,[.t 4],P_q05i,true,false⟩
def zmI (C:Hd) (gl:GL) (v0 v1:AV) (h:Heap) (x:Esc) (K:KT):Prop:=
 C zaV [v0,v1] h fun t1 h2 y3=>
 pK (oBin .geq t1 (AI 0)) fun t4=>
 K .ret ⟨[(4,t4)],h2,(y3++x)⟩
theorem e_q05i {C gl v0 v1 h x K}:NW C gl zlq.body ⟨enter [v0,v1],h,x⟩ K=zmI C gl v0 v1 h x K:=by kernel_rfl
def P_q053:ACode:=(.seq (rg [mV 2 cF] [0])
(.seq (rg [mV 3 0,
cL 4 z18 [3,(cI (-100000)),(cI 100000)],
uO 5 (.un .not 4),
mV 2 5] [2])
.ret))
def zlm:AFun:=⟨1,[.t 2],P_q053,false,false⟩
def zmH (C:Hd) (gl:GL) (v0:AV) (h:Heap) (x:Esc) (K:KT):Prop:=
 C z18 [v0,(AI (-100000)),(AI 100000)] h fun t1 h2 y3=>
 pK (oUn .not t1) fun t4=>
 K .ret ⟨[(2,t4)],h2,(y3++x)⟩
theorem e_q053 {C gl v0 h x K}:NW C gl zlm.body ⟨enter [v0],h,x⟩ K=zmH C gl v0 h x K:=by kernel_rfl
def z3i:ACode:=.pr [0,7,8,9] (.seq (rg [bN 10 .lss 9 8] [0,7,8,9,10])
(.seq (.cond 10 .skip
(.exit 0))
(.seq (.block 1 (.seq (rg [mV 11 9,
iA 12 none 7 9,
lD 13 none 12,
mV 5 11,
mV 6 13] [0,5,6,7,8,9])
(.seq (dr [dF (mV 14 5) [5],
dF (mV 15 0) [0],
dF (lN 16 15) [15],
dF (bN 17 .lss 14 16) [14,16],
dF (mV 18 17) [17],
dF (gD 19 18 true (.mv 6)) [6,18],
dF (gD 20 18 true (.mv 0)) [0,18],
dF (gD 21 18 true (.mv 5)) [5,18],
dF (gD 22 18 true (.iaddr (some 4) 20 21)) [20,21,18],
dF (gD 23 18 true (.faddr 1 none 22)) [22,18],
dF (gD 24 18 true (.load none 23)) [23,18],
dF (gD 25 18 true (.mv 0)) [0,18],
dF (gD 26 18 true (.mv 5)) [5,18],
dF (gD 27 18 true (.iaddr (some 4) 25 26)) [25,26,18],
dF (gD 28 18 true (.faddr 2 none 27)) [27,18],
dF (gD 29 18 true (.load none 28)) [28,18],
dT (gD 30 18 true (.call z18 [19,24,29])) [19,24,29,18],
dF (gD 31 18 true (.un .not 30)) [30,18],
dF (uO 32 (.pick 18 31 cF)) [18,31]] [0,5,7,8,9,32])
(.cond 32 (.seq (rg [mV 33 5,
mV 4 33] [4])
.ret)
.skip))))
(rg [bN 34 .add 9 (cI 1),
mV 9 34] [0,7,8,9]))))
def zdJ (C:Hd) (gl:GL) (v0 v7 v8 v9:AV) (h:Heap) (x:Esc) (K:KT):Prop:=
 pK (oBin .lss v9 v8) fun t1=>
 z0i t1 (pK (z0p none v7 v9 h) fun t2=>
 pK (z0g none t2 h) fun t3=>
 pK (oLen v0) fun t4=>
 pK (oBin .lss v9 t4) fun t5=>
 gM t5 true t3 h fun t6 h7 y8=>
 gM t5 true v0 h7 fun t9 h10 y11=>
 gM t5 true v9 h10 fun t12 h13 y14=>
 gP t5 true (z0p (some 4) t9 t12 h13) h13 fun t15 h16 y17=>
 gP t5 true (z0j 1 none t15) h16 fun t18 h19 y20=>
 gP t5 true (z0g none t18 h19) h19 fun t21 h22 y23=>
 gM t5 true v0 h22 fun t24 h25 y26=>
 gM t5 true v9 h25 fun t27 h28 y29=>
 gP t5 true (z0p (some 4) t24 t27 h28) h28 fun t30 h31 y32=>
 gP t5 true (z0j 2 none t30) h31 fun t33 h34 y35=>
 gP t5 true (z0g none t33 h34) h34 fun t36 h37 y38=>
 gV t5 true h37 (z1Q C z18 [t6,t21,t36] h37) fun t39 h40 y41=>
 gP t5 true (oUn .not t39) h40 fun t42 h43 y44=>
 pK (z0y t5 t42 (AB false)) fun t45=>
 z0i t45 (K .ret ⟨[(4,v9)],h43,(y44++(y41++(y38++(y35++(y32++(y29++(y26++(y23++(y20++(y17++(y14++(y11++(y8++x)))))))))))))⟩)
 (pK (oBin .add v9 (AI 1)) fun t46=>
 K .normal ⟨[(0,v0),(7,v7),(8,v8),(9,t46)],h43,(y44++(y41++(y38++(y35++(y32++(y29++(y26++(y23++(y20++(y17++(y14++(y11++(y8++x)))))))))))))⟩))
 (K (.exit 0) ⟨[(0,v0),(7,v7),(8,v8),(9,v9),(10,t1)],h,x⟩)
theorem zoc {C gl e h x K}:NW C gl z3i ⟨e,h,x⟩ K=zdJ C gl (aget e 0) (aget e 7) (aget e 8) (aget e 9) h x K:=by kernel_rfl
theorem zpB {C gl e h x K}:NW C gl (.loop z3i) ⟨e,h,x⟩ K=z0N C gl z3i K [(0,aget e 0),(7,aget e 7),(8,aget e 8),(9,aget e 9)] h x:=z0x
def z6g:ACode:=.pr [] (.seq (rg [mV 4 (cI (-1))] [4])
.ret)
def zdK (C:Hd) (gl:GL) (h:Heap) (x:Esc) (K:KT):Prop:=
 K .ret ⟨[(4,(AI (-1)))],h,x⟩
theorem zod {C gl e h x K}:NW C gl z6g ⟨e,h,x⟩ K=zdK C gl h x K:=by kernel_rfl
def zue (q1 q2:ACode):ACode:=(.seq (rg [mV 4 (cI 0)] [0,1])
(.seq (.seq (rg [mV 7 1,
lN 8 7,
mV 9 (cI 0)] [0,7,8,9])
(.block 0 (.loop q1)))
q2))
def zli:AFun:=⟨2,[.t 4],zue z3i z6g,false,false⟩
def zgS (C:Hd) (gl:GL) (q1 q2:ACode) (v0 v1:AV) (h:Heap) (x:Esc) (K:KT):Prop:=
 pK (oLen v1) fun t1=>
 NW C gl (.loop q1) ⟨[(0,v0),(7,v1),(8,t1),(9,(AI 0))],h,x⟩ (z0q 0 (seqN C gl q2 K))
theorem E_q04t {C gl q1 q2 v0 v1 h x K}:NW C gl (zue q1 q2) ⟨enter [v0,v1],h,x⟩ K=zgS C gl q1 q2 v0 v1 h x K:=by kernel_rfl
theorem e_q04t {C gl v0 v1 h x K}:NW C gl zli.body ⟨enter [v0,v1],h,x⟩ K=zgS C gl z3i z6g v0 v1 h x K:=E_q04t
def P_q02a:ACode:=(.seq (rg [uO 3 (.box 1),
mV 4 (cI 0)] [0,3])
(.seq (rg [mV 5 0,
uO 6 (.mkfn z8G [3]),
cL 7 z7p [5,6],
mV 4 7] [4])
.ret))
def zk4:AFun:=⟨2,[.t 4],P_q02a,false,false⟩
def zm0 (C:Hd) (gl:GL) (v0 v1:AV) (h:Heap) (x:Esc) (K:KT):Prop:=
 wK (oBox v1 h) fun t1 h2 y3=>
 C z7p [v0,(.fn z8G [t1])] h2 fun t4 h5 y6=>
 K .ret ⟨[(4,t4)],h5,(y6++(y3++x))⟩
theorem e_q02a {C gl v0 v1 h x K}:NW C gl zk4.body ⟨enter [v0,v1],h,x⟩ K=zm0 C gl v0 v1 h x K:=by kernel_rfl
def P_q00a:ACode:=(.seq (rg [mV 6 cF] [0,1,2])
(.seq (rg [mV 7 0,
mV 8 1,
bN 9 .lss 7 8,
mV 10 9,
gD 11 10 false (.mv 0),
gD 12 10 false (.mv 2),
gD 13 10 false (.bin .gtr 11 12),
uO 14 (.pick 10 cT 13),
mV 6 14] [6])
.ret))
def zkg:AFun:=⟨3,[.t 6],P_q00a,false,false⟩
def zmt (C:Hd) (gl:GL) (v0 v1 v2:AV) (h:Heap) (x:Esc) (K:KT):Prop:=
 pK (oBin .lss v0 v1) fun t1=>
 gM t1 false v0 h fun t2 h3 y4=>
 gM t1 false v2 h3 fun t5 h6 y7=>
 gP t1 false (oBin .gtr t2 t5) h6 fun t8 h9 y10=>
 pK (z0y t1 (AB true) t8) fun t11=>
 K .ret ⟨[(6,t11)],h9,(y10++(y7++(y4++x)))⟩
theorem e_q00a {C gl v0 v1 v2 h x K}:NW C gl zkg.body ⟨enter [v0,v1,v2],h,x⟩ K=zmt C gl v0 v1 v2 h x K:=by kernel_rfl
def P_q006:ACode:=(.seq (rg [mV 2 (.c (.p (.sl none []))),
mV 3 cF] [0])
(.seq (.seq (rg [mV 5 0,
bN 6 .eql 5 (cS [])] [0,6])
(.cond 6 (.seq (rg [mV 2 (.c (.p (.sl none []))),
mV 3 cT] [2,3])
.ret)
.skip))
(.seq (rg [mV 8 0,
cL 9 zba [8,(cS [10])],
mV 7 9,
eX 10 7 0,
eX 11 7 1,
mV 4 10,
mV 3 11] [3,4])
(.seq (rg [mV 12 4,
cL 13 z4T [12,(cS [10])],
mV 14 3,
mV 2 13,
mV 3 14] [2,3])
.ret))))
def zkc:AFun:=⟨1,[.t 2,.t 3],P_q006,false,false⟩
def zg5 (C:Hd) (gl:GL) (v0:AV) (h:Heap) (x:Esc) (K:KT):Prop:=
 pK (oBin .eql v0 (.p (.str []))) fun t1=>
 z0i t1 (K .ret ⟨[(2,(.p (.sl none []))),(3,(AB true))],h,x⟩)
 (C zba [v0,(.p (.str [10]))] h fun t2 h3 y4=>
 pK (oExt t2 0) fun t5=>
 pK (oExt t2 1) fun t6=>
 C z4T [t5,(.p (.str [10]))] h3 fun t7 h8 y9=>
 K .ret ⟨[(2,t7),(3,t6)],h8,(y9++(y4++x))⟩)
theorem e_q006 {C gl v0 h x K}:NW C gl zkc.body ⟨enter [v0],h,x⟩ K=zg5 C gl v0 h x K:=by kernel_rfl
def P_q09a:ACode:=(.seq (rg [mV 4 (.c (.p (.sl none [])))] [0,1])
(.seq (rg [mV 5 0,
mV 6 1,
cL 7 zbd [5,6,(cI 0),(cI (-1))],
mV 4 7] [4])
.ret))
def zlA:AFun:=⟨2,[.t 4],P_q09a,false,false⟩
def zmS (C:Hd) (gl:GL) (v0 v1:AV) (h:Heap) (x:Esc) (K:KT):Prop:=
 C zbd [v0,v1,(AI 0),(AI (-1))] h fun t1 h2 y3=>
 K .ret ⟨[(4,t1)],h2,(y3++x)⟩
theorem e_q09a {C gl v0 v1 h x K}:NW C gl zlA.body ⟨enter [v0,v1],h,x⟩ K=zmS C gl v0 v1 h x K:=by kernel_rfl
def z2r:ACode:=.pr [0,6,38,39] (.seq (rg [bN 40 .lss 39 38] [0,6,38,39,40])
(.seq (.cond 40 .skip
(.exit 0))
(.seq (.block 1 (.seq (rg [mV 41 39,
mV 7 41] [0,6,7,38,39])
(.seq (rg [mV 42 6,
mV 43 7,
uO 44 (.idxs 42 43),
bN 45 .lss 44 (.c (.p (.int .u8 48))),
mV 46 45,
gD 47 46 false (.mv 6),
gD 48 46 false (.mv 7),
gD 49 46 false (.idxs 47 48),
gD 50 46 false (.bin .gtr 49 (.c (.p (.int .u8 57)))),
uO 51 (.pick 46 cT 50)] [0,6,38,39,51])
(.cond 51 (.seq (rg [mV 4 (cI 0),
mV 5 cF] [4,5])
.ret)
.skip))))
(rg [bN 52 .add 39 (cI 1),
mV 39 52] [0,6,38,39]))))
def zcV (C:Hd) (gl:GL) (v0 v6 v38 v39:AV) (h:Heap) (x:Esc) (K:KT):Prop:=
 pK (oBin .lss v39 v38) fun t1=>
 z0i t1 (pK (z1D v6 v39) fun t2=>
 pK (oBin .lss t2 (.p (.int .u8 48))) fun t3=>
 gM t3 false v6 h fun t4 h5 y6=>
 gM t3 false v39 h5 fun t7 h8 y9=>
 gP t3 false (z1D t4 t7) h8 fun t10 h11 y12=>
 gP t3 false (oBin .gtr t10 (.p (.int .u8 57))) h11 fun t13 h14 y15=>
 pK (z0y t3 (AB true) t13) fun t16=>
 z0i t16 (K .ret ⟨[(4,(AI 0)),(5,(AB false))],h14,(y15++(y12++(y9++(y6++x))))⟩)
 (pK (oBin .add v39 (AI 1)) fun t17=>
 K .normal ⟨[(0,v0),(6,v6),(38,v38),(39,t17)],h14,(y15++(y12++(y9++(y6++x))))⟩))
 (K (.exit 0) ⟨[(0,v0),(6,v6),(38,v38),(39,v39),(40,t1)],h,x⟩)
theorem znp {C gl e h x K}:NW C gl z2r ⟨e,h,x⟩ K=zcV C gl (aget e 0) (aget e 6) (aget e 38) (aget e 39) h x K:=by kernel_rfl
theorem zpn {C gl e h x K}:NW C gl (.loop z2r) ⟨e,h,x⟩ K=z0N C gl z2r K [(0,aget e 0),(6,aget e 6),(38,aget e 38),(39,aget e 39)] h x:=z0x
def z5K:ACode:=.pr [0] (.seq (rg [mV 54 0,
cL 55 z8M [54],
mV 53 55,
eX 56 53 0,
eX 57 53 1,
mV 8 56,
mV 9 57] [8,9])
(.seq (dr [dF (mV 58 8) [8],
dF (mV 59 9) [9],
dF (uO 60 (.isnil 3 false 59)) [59],
dF (mV 4 58) [58],
dF (mV 5 60) [60]] [4,5])
.ret))
def z5z (C:Hd) (gl:GL) (v0:AV) (h:Heap) (x:Esc) (K:KT):Prop:=
 C z8M [v0] h fun t1 h2 y3=>
 pK (oExt t1 0) fun t4=>
 pK (oExt t1 1) fun t5=>
 pK (zbj 3 false t5) fun t6=>
 K .ret ⟨[(4,t4),(5,t6)],h2,(y3++x)⟩
theorem z54 {C gl e h x K}:NW C gl z5K ⟨e,h,x⟩ K=z5z C gl (aget e 0) h x K:=by kernel_rfl
def ztH (q1 q2:ACode):ACode:=(.seq (rg [mV 4 (cI 0),
mV 5 cF] [0,1])
(.seq (rg [mV 10 0,
cL 11 z7s [10,(cS [45])],
mV 6 11] [0,1,6])
(.seq (.seq (rg [mV 12 6,
bN 13 .eql 12 (cS []),
mV 14 13,
gD 15 14 false (.mv 6),
gD 16 14 false (.lens 15),
gD 17 14 false (.mv 1),
gD 18 14 false (.bin .gtr 16 17),
uO 19 (.pick 14 cT 18),
mV 20 19,
gD 21 20 false (.mv 6),
gD 22 20 false (.idxs 21 (cI 0)),
gD 23 20 false (.bin .eql 22 (.c (.p (.int .u8 48)))),
gD 24 20 false (.mv 23),
gD 25 24 true (.mv 6),
gD 26 24 true (.lens 25),
gD 27 24 true (.bin .gtr 26 (cI 1)),
gD 28 24 true (.mv 27),
gD 29 28 false (.mv 0),
gD 30 28 false (.lens 29),
gD 31 28 false (.mv 6),
gD 32 28 false (.lens 31),
gD 33 28 false (.bin .gtr 30 32),
gD 34 24 true (.pick 28 cT 33),
gD 35 20 false (.pick 24 34 cF),
uO 36 (.pick 20 cT 35)] [0,6,36])
(.cond 36 (.seq (rg [mV 4 (cI 0),
mV 5 cF] [4,5])
.ret)
.skip))
(.seq (.seq (rg [mV 37 6,
uO 38 (.lens 37),
mV 39 (cI 0)] [0,6,38,39])
(.block 0 (.loop q1)))
q2))))
def zke:AFun:=⟨2,[.t 4,.t 5],ztH z2r z5K,false,false⟩
def z5y (C:Hd) (gl:GL) (q1 q2:ACode) (v0 v1:AV) (h:Heap) (x:Esc) (K:KT):Prop:=
 C z7s [v0,(.p (.str [45]))] h fun t1 h2 y3=>
 pK (oBin .eql t1 (.p (.str []))) fun t4=>
 gM t4 false t1 h2 fun t5 h6 y7=>
 gP t4 false (z1g t5) h6 fun t8 h9 y10=>
 gM t4 false v1 h9 fun t11 h12 y13=>
 gP t4 false (oBin .gtr t8 t11) h12 fun t14 h15 y16=>
 pK (z0y t4 (AB true) t14) fun t17=>
 gM t17 false t1 h15 fun t18 h19 y20=>
 gP t17 false (z1D t18 (AI 0)) h19 fun t21 h22 y23=>
 gP t17 false (oBin .eql t21 (.p (.int .u8 48))) h22 fun t24 h25 y26=>
 gM t17 false t24 h25 fun t27 h28 y29=>
 gM t27 true t1 h28 fun t30 h31 y32=>
 gP t27 true (z1g t30) h31 fun t33 h34 y35=>
 gP t27 true (oBin .gtr t33 (AI 1)) h34 fun t36 h37 y38=>
 gM t27 true t36 h37 fun t39 h40 y41=>
 gM t39 false v0 h40 fun t42 h43 y44=>
 gP t39 false (z1g t42) h43 fun t45 h46 y47=>
 gM t39 false t1 h46 fun t48 h49 y50=>
 gP t39 false (z1g t48) h49 fun t51 h52 y53=>
 gP t39 false (oBin .gtr t45 t51) h52 fun t54 h55 y56=>
 gP t27 true (z0y t39 (AB true) t54) h55 fun t57 h58 y59=>
 gP t17 false (z0y t27 t57 (AB false)) h58 fun t60 h61 y62=>
 pK (z0y t17 (AB true) t60) fun t63=>
 z0i t63 (K .ret ⟨[(4,(AI 0)),(5,(AB false))],h61,(y62++(y59++(y56++(y53++(y50++(y47++(y44++(y41++(y38++(y35++(y32++(y29++(y26++(y23++(y20++(y16++(y13++(y10++(y7++(y3++x))))))))))))))))))))⟩)
 (pK (z1g t1) fun t64=>
 NW C gl (.loop q1) ⟨[(0,v0),(6,t1),(38,t64),(39,(AI 0))],h61,(y62++(y59++(y56++(y53++(y50++(y47++(y44++(y41++(y38++(y35++(y32++(y29++(y26++(y23++(y20++(y16++(y13++(y10++(y7++(y3++x))))))))))))))))))))⟩ (z0q 0 (seqN C gl q2 K)))
theorem E_q008 {C gl q1 q2 v0 v1 h x K}:NW C gl (ztH q1 q2) ⟨enter [v0,v1],h,x⟩ K=z5y C gl q1 q2 v0 v1 h x K:=by kernel_rfl
theorem e_q008 {C gl v0 v1 h x K}:NW C gl zke.body ⟨enter [v0,v1],h,x⟩ K=z5y C gl z2r z5K v0 v1 h x K:=E_q008
def z2P:ACode:=.pr [1,6,11,12,13] (.seq (rg [bN 14 .lss 13 12] [1,6,11,12,13,14])
(.seq (.cond 14 .skip
(.exit 0))
(.seq (.block 1 (.seq (rg [iA 15 none 11 13,
lD 16 none 15,
mV 8 16] [1,6,8,11,12,13])
(.seq (rg [mV 18 8,
mV 19 1,
cL 20 z6Z [18,19],
mV 17 20,
eX 21 17 0,
eX 22 17 1,
mV 9 21,
mV 10 22] [1,6,9,10,11,12,13])
(.seq (.seq (rg [mV 23 10,
uO 24 (.un .not 23)] [1,6,9,11,12,13,24])
(.cond 24 (.seq (rg [mV 4 (.c (.p (.sl none []))),
mV 5 cF] [4,5])
.ret)
.skip))
(rg [mV 25 6,
mV 26 9,
uO 27 (.bsl false none 1 (.int .i64 0) [(0,26)]),
uO 28 (.app none 25 27),
mV 6 28] [1,6,11,12,13])))))
(rg [bN 29 .add 13 (cI 1),
mV 13 29] [1,6,11,12,13]))))
def zcW (C:Hd) (gl:GL) (v1 v6 v11 v12 v13:AV) (h:Heap) (x:Esc) (K:KT):Prop:=
 pK (oBin .lss v13 v12) fun t1=>
 z0i t1 (pK (z0p none v11 v13 h) fun t2=>
 pK (z0g none t2 h) fun t3=>
 C z6Z [t3,v1] h fun t4 h5 y6=>
 pK (oExt t4 0) fun t7=>
 pK (oExt t4 1) fun t8=>
 pK (oUn .not t8) fun t9=>
 z0i t9 (K .ret ⟨[(4,(.p (.sl none []))),(5,(AB false))],h5,(y6++x)⟩)
 (wK (oBsl false none 1 (.int .i64 0) [(0,t7)] h5) fun t10 h11 y12=>
 wK (oApp none v6 t10 h11) fun t13 h14 y15=>
 pK (oBin .add v13 (AI 1)) fun t16=>
 K .normal ⟨[(1,v1),(6,t13),(11,v11),(12,v12),(13,t16)],h14,(y15++(y12++(y6++x)))⟩))
 (K (.exit 0) ⟨[(1,v1),(6,v6),(11,v11),(12,v12),(13,v13),(14,t1)],h,x⟩)
theorem znq {C gl e h x K}:NW C gl z2P ⟨e,h,x⟩ K=zcW C gl (aget e 1) (aget e 6) (aget e 11) (aget e 12) (aget e 13) h x K:=by kernel_rfl
theorem zpo {C gl e h x K}:NW C gl (.loop (.scope z2P)) ⟨e,h,x⟩ K=z0N C gl (.scope z2P) K [(1,aget e 1),(6,aget e 6),(11,aget e 11),(12,aget e 12),(13,aget e 13)] h x:=z11
def z5L:ACode:=.pr [6] (.seq (rg [mV 30 6,
mV 4 30,
mV 5 cT] [4,5])
.ret)
def z8f (C:Hd) (gl:GL) (v6:AV) (h:Heap) (x:Esc) (K:KT):Prop:=
 K .ret ⟨[(4,v6),(5,(AB true))],h,x⟩
theorem z84 {C gl e h x K}:NW C gl z5L ⟨e,h,x⟩ K=z8f C gl (aget e 6) h x K:=by kernel_rfl
def ztI (q1 q2:ACode):ACode:=(.seq (rg [mV 4 (.c (.p (.sl none []))),
mV 5 cF] [0,1])
(.seq (rg [uO 6 (.new0 none)] [0,1,6])
(.seq (.seq (rg [mV 11 0,
lN 12 11,
mV 13 (cI 0)] [1,6,11,12,13])
(.block 0 (.loop (.scope q1))))
q2)))
def zkf:AFun:=⟨2,[.t 4,.t 5],ztI z2P z5L,false,false⟩
def zg6 (C:Hd) (gl:GL) (q1 q2:ACode) (v0 v1:AV) (h:Heap) (x:Esc) (K:KT):Prop:=
 nwK none h fun t1 h2 y3=>
 pK (oLen v0) fun t4=>
 NW C gl (.loop (.scope q1)) ⟨[(1,v1),(6,t1),(11,v0),(12,t4),(13,(AI 0))],h2,(y3++x)⟩ (z0q 0 (seqN C gl q2 K))
theorem E_q009 {C gl q1 q2 v0 v1 h x K}:NW C gl (ztI q1 q2) ⟨enter [v0,v1],h,x⟩ K=zg6 C gl q1 q2 v0 v1 h x K:=by kernel_rfl
theorem e_q009 {C gl v0 v1 h x K}:NW C gl zkf.body ⟨enter [v0,v1],h,x⟩ K=zg6 C gl z2P z5L v0 v1 h x K:=E_q009
def P_q02f:ACode:=(.seq (rg [uO 3 (.box 1),
mV 4 (cI 0)] [0,3])
(.seq (.block 0 (.seq (rg [fA 6 0 none 3,
lD 7 none 6,
cL 8 z4M [7],
uO 9 (.un .not 8),
mV 10 9,
gD 11 10 false (.faddr 2 none 3),
gD 12 10 false (.load none 11),
gD 13 10 false (.call z4M [12]),
gD 14 10 false (.un .not 13),
uO 15 (.pick 10 cT 14),
mV 5 15] [0,3,5])
(.cond 5 (.seq (rg [mV 4 (cI 5)] [4])
.ret)
(.seq (rg [fA 17 1 none 3,
lD 18 none 17,
cL 19 zau [18],
uO 20 (.un .not 19),
mV 21 20,
gD 22 21 false (.faddr 3 none 3),
gD 23 21 false (.load none 22),
gD 24 21 false (.call z4R [23,(.f z8H)]),
uO 25 (.pick 21 cT 24),
mV 16 25] [0,3,16])
(.cond 16 (.seq (rg [mV 4 (cI 1)] [4])
.ret)
(.seq (rg [mV 27 0,
lD 28 (some 4) 3,
cL 29 za6 [27,28],
uO 30 (.un .not 29),
mV 26 30] [26])
(.cond 26 (.seq (rg [mV 4 (cI 3)] [4])
.ret)
.skip)))))))
(.seq (rg [mV 4 (cI 0)] [4])
.ret)))
def zk9:AFun:=⟨2,[.t 4],P_q02f,false,false⟩
def z6V (C:Hd) (gl:GL) (v0 v1:AV) (h:Heap) (x:Esc) (K:KT):Prop:=
 wK (oBox v1 h) fun t1 h2 y3=>
 pK (z0j 0 none t1) fun t4=>
 pK (z0g none t4 h2) fun t5=>
 C z4M [t5] h2 fun t6 h7 y8=>
 pK (oUn .not t6) fun t9=>
 gP t9 false (z0j 2 none t1) h7 fun t10 h11 y12=>
 gP t9 false (z0g none t10 h11) h11 fun t13 h14 y15=>
 gV t9 false h14 (C z4M [t13] h14) fun t16 h17 y18=>
 gP t9 false (oUn .not t16) h17 fun t19 h20 y21=>
 pK (z0y t9 (AB true) t19) fun t22=>
 z0i t22 (K .ret ⟨[(4,(AI 5))],h20,(y21++(y18++(y15++(y12++(y8++(y3++x))))))⟩)
 (pK (z0j 1 none t1) fun t23=>
 pK (z0g none t23 h20) fun t24=>
 C zau [t24] h20 fun t25 h26 y27=>
 pK (oUn .not t25) fun t28=>
 gP t28 false (z0j 3 none t1) h26 fun t29 h30 y31=>
 gP t28 false (z0g none t29 h30) h30 fun t32 h33 y34=>
 gV t28 false h33 (C z4R [t32,(.fn z8H [])] h33) fun t35 h36 y37=>
 pK (z0y t28 (AB true) t35) fun t38=>
 z0i t38 (K .ret ⟨[(4,(AI 1))],h36,(y37++(y34++(y31++(y27++(y21++(y18++(y15++(y12++(y8++(y3++x))))))))))⟩)
 (pK (z0g (some 4) t1 h36) fun t39=>
 C za6 [v0,t39] h36 fun t40 h41 y42=>
 pK (oUn .not t40) fun t43=>
 z0i t43 (K .ret ⟨[(4,(AI 3))],h41,(y42++(y37++(y34++(y31++(y27++(y21++(y18++(y15++(y12++(y8++(y3++x)))))))))))⟩)
 (K .ret ⟨[(4,(AI 0))],h41,(y42++(y37++(y34++(y31++(y27++(y21++(y18++(y15++(y12++(y8++(y3++x)))))))))))⟩)))
theorem e_q02f {C gl v0 v1 h x K}:NW C gl zk9.body ⟨enter [v0,v1],h,x⟩ K=z6V C gl v0 v1 h x K:=by kernel_rfl
def P_q027:ACode:=(.seq (rg [uO 2 (.box 0),
uO 3 (.box 1),
mV 4 (cI 0)] [2,3])
(.seq (dr [dF (fA 5 1 none 2) [2],
dF (lD 6 none 5) [5],
dF (fA 7 1 none 3) [3],
dF (lD 8 none 7) [7],
dT (cL 9 z7a [6,8]) [6,8],
dF (fA 10 0 none 2) [2],
dA (lD 11 none 10) [10] false [4] [],
dF (fA 12 0 none 3) [3],
dA (lD 13 none 12) [12] false [4] [],
dT (cL 14 z4S [11,13]) [11,13],
dF (uO 15 (.bsl false none 2 (.int .i64 0) [(0,9),(1,14)])) [9,14],
dT (cL 16 z7b [15]) [15],
dF (mV 4 16) [16]] [4])
.ret))
def zk1:AFun:=⟨2,[.t 4],P_q027,false,false⟩
def zmz (C:Hd) (gl:GL) (v0 v1:AV) (h:Heap) (x:Esc) (K:KT):Prop:=
 wK (oBox v0 h) fun t1 h2 y3=>
 wK (oBox v1 h2) fun t4 h5 y6=>
 pK (z0j 1 none t1) fun t7=>
 pK (z0g none t7 h5) fun t8=>
 pK (z0j 1 none t4) fun t9=>
 pK (z0g none t9 h5) fun t10=>
 z1Q C z7a [t8,t10] h5 fun t11 h12 y13=>
 pK (z0j 0 none t1) fun t14=>
 pK (z0g none t14 h12) fun t15=>
 (pK (z0g none t14 h5) fun v=>(fun u (g1:Heap) (y1:Esc)=>u=t15∧g1=h5∧y1=[]) v h5 [])∧(pK (z0j 0 none t4) fun t16=>
 pK (z0g none t16 h12) fun t17=>
 (pK (z0g none t16 h5) fun v=>(fun u (g1:Heap) (y1:Esc)=>u=t17∧g1=h5∧y1=[]) v h5 [])∧(z1Q C z4S [t15,t17] h12 fun t18 h19 y20=>
 wK (oBsl false none 2 (.int .i64 0) [(0,t11),(1,t18)] h19) fun t21 h22 y23=>
 (h22=h19∧y23=[])∧(z1Q C z7b [t21] h22 fun t24 h25 y26=>
 K .ret ⟨[(4,t24)],h25,(y26++(y23++(y20++(y13++(y6++(y3++x))))))⟩)))
theorem e_q027 {C gl v0 v1 h x K}:NW C gl zk1.body ⟨enter [v0,v1],h,x⟩ K=zmz C gl v0 v1 h x K:=by kernel_rfl
def P_q094:ACode:=(.seq (rg [mV 4 (cS []),
mV 5 (cS []),
mV 6 cF] [0,1])
(.seq (rg [mV 7 0,
mV 8 1,
cL 9 z8E [7,8],
eX 10 9 0,
eX 11 9 1,
eX 12 9 2,
mV 4 10,
mV 5 11,
mV 6 12] [4,5,6])
.ret))
def zl6:AFun:=⟨2,[.t 4,.t 5,.t 6],P_q094,false,false⟩
def zhc (C:Hd) (gl:GL) (v0 v1:AV) (h:Heap) (x:Esc) (K:KT):Prop:=
 C z8E [v0,v1] h fun t1 h2 y3=>
 pK (oExt t1 0) fun t4=>
 pK (oExt t1 1) fun t5=>
 pK (oExt t1 2) fun t6=>
 K .ret ⟨[(4,t4),(5,t5),(6,t6)],h2,(y3++x)⟩
theorem e_q094 {C gl v0 v1 h x K}:NW C gl zl6.body ⟨enter [v0,v1],h,x⟩ K=zhc C gl v0 v1 h x K:=by kernel_rfl
def P_q09c:ACode:=(.seq (rg [mV 4 (cS [])] [0,1])
(.seq (rg [mV 5 0,
mV 6 1,
cL 7 za0 [5,6],
mV 4 7] [4])
.ret))
def zlB:AFun:=⟨2,[.t 4],P_q09c,false,false⟩
def zmT (C:Hd) (gl:GL) (v0 v1:AV) (h:Heap) (x:Esc) (K:KT):Prop:=
 C za0 [v0,v1] h fun t1 h2 y3=>
 K .ret ⟨[(4,t1)],h2,(y3++x)⟩
theorem e_q09c {C gl v0 v1 h x K}:NW C gl zlB.body ⟨enter [v0,v1],h,x⟩ K=zmT C gl v0 v1 h x K:=by kernel_rfl
def z3j:ACode:=.pr [0,1,7,8] (.seq (rg [bN 9 .lss 8 7] [0,1,7,8,9])
(.seq (.cond 9 .skip
(.exit 0))
(.seq (.block 1 (.seq (rg [mV 10 8,
mV 5 10] [0,1,5,7,8])
(.seq (rg [mV 11 1,
mV 12 0,
mV 13 5,
uO 14 (.idxs 12 13),
cL 15 zbc [11,14],
bN 16 .lss 15 (cI 0)] [0,1,7,8,16])
(.cond 16 (.seq (rg [mV 4 cF] [4])
.ret)
.skip))))
(rg [bN 17 .add 8 (cI 1),
mV 8 17] [0,1,7,8]))))
def zdL (C:Hd) (gl:GL) (v0 v1 v7 v8:AV) (h:Heap) (x:Esc) (K:KT):Prop:=
 pK (oBin .lss v8 v7) fun t1=>
 z0i t1 (pK (z1D v0 v8) fun t2=>
 C zbc [v1,t2] h fun t3 h4 y5=>
 pK (oBin .lss t3 (AI 0)) fun t6=>
 z0i t6 (K .ret ⟨[(4,(AB false))],h4,(y5++x)⟩)
 (pK (oBin .add v8 (AI 1)) fun t7=>
 K .normal ⟨[(0,v0),(1,v1),(7,v7),(8,t7)],h4,(y5++x)⟩))
 (K (.exit 0) ⟨[(0,v0),(1,v1),(7,v7),(8,v8),(9,t1)],h,x⟩)
theorem zoe {C gl e h x K}:NW C gl z3j ⟨e,h,x⟩ K=zdL C gl (aget e 0) (aget e 1) (aget e 7) (aget e 8) h x K:=by kernel_rfl
theorem zpC {C gl e h x K}:NW C gl (.loop z3j) ⟨e,h,x⟩ K=z0N C gl z3j K [(0,aget e 0),(1,aget e 1),(7,aget e 7),(8,aget e 8)] h x:=z0x
def z6h:ACode:=.pr [] (.seq (rg [mV 4 cT] [4])
.ret)
def zdM (C:Hd) (gl:GL) (h:Heap) (x:Esc) (K:KT):Prop:=
 K .ret ⟨[(4,(AB true))],h,x⟩
theorem zof {C gl e h x K}:NW C gl z6h ⟨e,h,x⟩ K=zdM C gl h x K:=by kernel_rfl
def zuf (q1 q2:ACode):ACode:=(.seq (rg [mV 4 cF] [0,1])
(.seq (.seq (rg [mV 6 0,
uO 7 (.lens 6),
mV 8 (cI 0)] [0,1,7,8])
(.block 0 (.loop q1)))
q2))
def zlk:AFun:=⟨2,[.t 4],zuf z3j z6h,false,false⟩
def zgT (C:Hd) (gl:GL) (q1 q2:ACode) (v0 v1:AV) (h:Heap) (x:Esc) (K:KT):Prop:=
 pK (z1g v0) fun t1=>
 NW C gl (.loop q1) ⟨[(0,v0),(1,v1),(7,t1),(8,(AI 0))],h,x⟩ (z0q 0 (seqN C gl q2 K))
theorem E_q051 {C gl q1 q2 v0 v1 h x K}:NW C gl (zuf q1 q2) ⟨enter [v0,v1],h,x⟩ K=zgT C gl q1 q2 v0 v1 h x K:=by kernel_rfl
theorem e_q051 {C gl v0 v1 h x K}:NW C gl zlk.body ⟨enter [v0,v1],h,x⟩ K=zgT C gl z3j z6h v0 v1 h x K:=E_q051
def P_q02j:ACode:=(.seq (rg [mV 4 (cI 0)] [0,1])
(.seq (.block 0 (.seq (rg [mV 6 0,
lN 7 6,
mV 8 1,
bN 9 .lss 7 8,
mV 5 9] [0,5])
(.cond 5 (.seq (rg [mV 4 (cI 8)] [4])
.ret)
(.seq (rg [mV 11 0,
lN 12 11,
bN 13 .gtr 12 (cI 5000),
mV 10 13] [0,10])
(.cond 10 (.seq (rg [mV 4 (cI 2)] [4])
.ret)
(.seq (rg [mV 15 0,
cL 16 z4R [15,(.f z8I)],
mV 14 16] [14])
(.cond 14 (.seq (rg [mV 4 (cI 1)] [4])
.ret)
.skip)))))))
(.seq (rg [mV 4 (cI 0)] [4])
.ret)))
def zkC:AFun:=⟨2,[.t 4],P_q02j,false,false⟩
def zdu (C:Hd) (gl:GL) (v0 v1:AV) (h:Heap) (x:Esc) (K:KT):Prop:=
 pK (oLen v0) fun t1=>
 pK (oBin .lss t1 v1) fun t2=>
 z0i t2 (K .ret ⟨[(4,(AI 8))],h,x⟩)
 (pK (oLen v0) fun t3=>
 pK (oBin .gtr t3 (AI 5000)) fun t4=>
 z0i t4 (K .ret ⟨[(4,(AI 2))],h,x⟩)
 (C z4R [v0,(.fn z8I [])] h fun t5 h6 y7=>
 z0i t5 (K .ret ⟨[(4,(AI 1))],h6,(y7++x)⟩)
 (K .ret ⟨[(4,(AI 0))],h6,(y7++x)⟩)))
theorem e_q02j {C gl v0 v1 h x K}:NW C gl zkC.body ⟨enter [v0,v1],h,x⟩ K=zdu C gl v0 v1 h x K:=by kernel_rfl
def z2Y:ACode:=.pr [0,2,4,7,8,9] (.seq (rg [bN 10 .lss 9 8] [0,2,4,7,8,9,10])
(.seq (.cond 10 .skip
(.exit 0))
(.seq (.block 1 (.seq (rg [iA 11 none 7 9,
lD 12 none 11,
mV 6 12] [0,2,4,6,7,8,9])
(.seq (rg [mV 13 2,
mV 14 6,
bN 15 .add 13 14,
mV 2 15] [0,2,4,6,7,8,9])
(rg [mV 16 4,
mV 17 6,
mV 18 6,
bN 19 .mul 17 18,
bN 20 .add 16 19,
mV 4 20] [0,2,4,7,8,9]))))
(rg [bN 21 .add 9 (cI 1),
mV 9 21] [0,2,4,7,8,9]))))
def zds (C:Hd) (gl:GL) (v0 v2 v4 v7 v8 v9:AV) (h:Heap) (x:Esc) (K:KT):Prop:=
 pK (oBin .lss v9 v8) fun t1=>
 z0i t1 (pK (z0p none v7 v9 h) fun t2=>
 pK (z0g none t2 h) fun t3=>
 pK (oBin .add v2 t3) fun t4=>
 pK (oBin .mul t3 t3) fun t5=>
 pK (oBin .add v4 t5) fun t6=>
 pK (oBin .add v9 (AI 1)) fun t7=>
 K .normal ⟨[(0,v0),(2,t4),(4,t6),(7,v7),(8,v8),(9,t7)],h,x⟩)
 (K (.exit 0) ⟨[(0,v0),(2,v2),(4,v4),(7,v7),(8,v8),(9,v9),(10,t1)],h,x⟩)
theorem znE {C gl e h x K}:NW C gl z2Y ⟨e,h,x⟩ K=zds C gl (aget e 0) (aget e 2) (aget e 4) (aget e 7) (aget e 8) (aget e 9) h x K:=by kernel_rfl
theorem zp0 {C gl e h x K}:NW C gl (.loop z2Y) ⟨e,h,x⟩ K=z0N C gl z2Y K [(0,aget e 0),(2,aget e 2),(4,aget e 4),(7,aget e 7),(8,aget e 8),(9,aget e 9)] h x:=z0x
def z5U:ACode:=.pr [0,2,4] (.seq (rg [mV 22 2,
mV 23 0,
lN 24 23,
mV 25 4,
bN 26 .mul 24 25,
mV 27 2,
mV 28 2,
bN 29 .mul 27 28,
bN 30 .sub 26 29,
mV 2 22,
mV 3 30] [2,3])
.ret)
def zdt (C:Hd) (gl:GL) (v0 v2 v4:AV) (h:Heap) (x:Esc) (K:KT):Prop:=
 pK (oLen v0) fun t1=>
 pK (oBin .mul t1 v4) fun t2=>
 pK (oBin .mul v2 v2) fun t3=>
 pK (oBin .sub t2 t3) fun t4=>
 K .ret ⟨[(2,v2),(3,t4)],h,x⟩
theorem znF {C gl e h x K}:NW C gl z5U ⟨e,h,x⟩ K=zdt C gl (aget e 0) (aget e 2) (aget e 4) h x K:=by kernel_rfl
def ztR (q1 q2:ACode):ACode:=(.seq (rg [mV 2 (cI 0),
mV 3 (cI 0)] [0,2])
(.seq (rg [mV 4 (cI 0)] [0,2,4])
(.seq (.seq (rg [mV 7 0,
lN 8 7,
mV 9 (cI 0)] [0,2,4,7,8,9])
(.block 0 (.loop q1)))
q2)))
def zkB:AFun:=⟨1,[.t 2,.t 3],ztR z2Y z5U,false,false⟩
def zgI (C:Hd) (gl:GL) (q1 q2:ACode) (v0:AV) (h:Heap) (x:Esc) (K:KT):Prop:=
 pK (oLen v0) fun t1=>
 NW C gl (.loop q1) ⟨[(0,v0),(2,(AI 0)),(4,(AI 0)),(7,v0),(8,t1),(9,(AI 0))],h,x⟩ (z0q 0 (seqN C gl q2 K))
theorem E_q02i {C gl q1 q2 v0 h x K}:NW C gl (ztR q1 q2) ⟨enter [v0],h,x⟩ K=zgI C gl q1 q2 v0 h x K:=by kernel_rfl
theorem e_q02i {C gl v0 h x K}:NW C gl zkB.body ⟨enter [v0],h,x⟩ K=zgI C gl z2Y z5U v0 h x K:=E_q02i
def P_q003:ACode:=(.seq (rg [uO 4 (.alloc [.p (.int .i64 0),.p (.int .i64 0)])] [0,1,4])
(.seq (rg [mV 6 0,
mV 7 0,
uO 8 (.un .neg 7),
uO 9 (.mx [6,8]),
mV 10 1,
cL 11 zas [9,10],
mV 5 11] [0,1,4,5])
(.seq (dr [dF (mV 12 0) [0],
dF (mV 13 5) [5],
dF (bN 14 .quo 12 13) [12,13],
dF (mV 15 1) [1],
dF (mV 16 5) [5],
dF (bN 17 .quo 15 16) [15,16],
dF (uO 18 (.build [.p (.int .i64 0),.p (.int .i64 0)] [(0,1,14),(1,1,17)])) [14,17],
dT (wO (.store (some 2) 4 18)) [4,18]] [4])
.ret)))
def zjZ:AFun:=⟨2,[.cell 4 (some 2)],P_q003,false,false⟩
def zmr (C:Hd) (gl:GL) (v0 v1:AV) (h:Heap) (x:Esc) (K:KT):Prop:=
 alK [.p (.int .i64 0),.p (.int .i64 0)] h fun t1 h2 y3=>
 pK (oUn .neg v0) fun t4=>
 pK (oMx [v0,t4]) fun t5=>
 C zas [t5,v1] h2 fun t6 h7 y8=>
 pK (oBin .quo v0 t6) fun t9=>
 pK (oBin .quo v1 t6) fun t10=>
 pK (z1E [.p (.int .i64 0),.p (.int .i64 0)] [(0,1,t9),(1,1,t10)]) fun t11=>
 wK (z00 (some 2) t1 t11 h7) fun t12 h13 y14=>
 K .ret ⟨[(4,t1)],h13,(y14++(y8++(y3++x)))⟩
theorem e_q003 {C gl v0 v1 h x K}:NW C gl zjZ.body ⟨enter [v0,v1],h,x⟩ K=zmr C gl v0 v1 h x K:=by kernel_rfl
def z3p:ACode:=.pr [0,1,7,8] (.seq (rg [bN 9 .lss 8 7] [0,1,7,8,9])
(.seq (.cond 9 .skip
(.exit 0))
(.seq (.block 1 (.seq (rg [mV 10 8,
mV 5 10] [0,1,5,7,8])
(.seq (rg [mV 11 1,
mV 12 0,
mV 13 5,
iA 14 none 12 13,
lD 15 none 14,
bN 16 .eql 11 15] [0,1,5,7,8,16])
(.cond 16 (.seq (rg [mV 17 5,
mV 4 17] [4])
.ret)
.skip))))
(rg [bN 18 .add 8 (cI 1),
mV 8 18] [0,1,7,8]))))
def zee (C:Hd) (gl:GL) (v0 v1 v7 v8:AV) (h:Heap) (x:Esc) (K:KT):Prop:=
 pK (oBin .lss v8 v7) fun t1=>
 z0i t1 (pK (z0p none v0 v8 h) fun t2=>
 pK (z0g none t2 h) fun t3=>
 pK (oBin .eql v1 t3) fun t4=>
 z0i t4 (K .ret ⟨[(4,v8)],h,x⟩)
 (pK (oBin .add v8 (AI 1)) fun t5=>
 K .normal ⟨[(0,v0),(1,v1),(7,v7),(8,t5)],h,x⟩))
 (K (.exit 0) ⟨[(0,v0),(1,v1),(7,v7),(8,v8),(9,t1)],h,x⟩)
theorem zou {C gl e h x K}:NW C gl z3p ⟨e,h,x⟩ K=zee C gl (aget e 0) (aget e 1) (aget e 7) (aget e 8) h x K:=by kernel_rfl
theorem zpJ {C gl e h x K}:NW C gl (.loop z3p) ⟨e,h,x⟩ K=z0N C gl z3p K [(0,aget e 0),(1,aget e 1),(7,aget e 7),(8,aget e 8)] h x:=z0x
def z6n:ACode:=.pr [] (.seq (rg [mV 4 (cI (-1))] [4])
.ret)
def zef (C:Hd) (gl:GL) (h:Heap) (x:Esc) (K:KT):Prop:=
 K .ret ⟨[(4,(AI (-1)))],h,x⟩
theorem zov {C gl e h x K}:NW C gl z6n ⟨e,h,x⟩ K=zef C gl h x K:=by kernel_rfl
def zul (q1 q2:ACode):ACode:=(.seq (rg [mV 4 (cI 0)] [0,1])
(.seq (.seq (rg [mV 6 0,
lN 7 6,
mV 8 (cI 0)] [0,1,7,8])
(.block 0 (.loop q1)))
q2))
def zlw:AFun:=⟨2,[.t 4],zul z3p z6n,true,false⟩
def zgX (C:Hd) (gl:GL) (q1 q2:ACode) (v0 v1:AV) (h:Heap) (x:Esc) (K:KT):Prop:=
 pK (oLen v0) fun t1=>
 NW C gl (.loop q1) ⟨[(0,v0),(1,v1),(7,t1),(8,(AI 0))],h,x⟩ (z0q 0 (seqN C gl q2 K))
theorem E_q05z {C gl q1 q2 v0 v1 h x K}:NW C gl (zul q1 q2) ⟨enter [v0,v1],h,x⟩ K=zgX C gl q1 q2 v0 v1 h x K:=by kernel_rfl
theorem e_q05z {C gl v0 v1 h x K}:NW C gl zlw.body ⟨enter [v0,v1],h,x⟩ K=zgX C gl z3p z6n v0 v1 h x K:=E_q05z
end Go.Am
end
section
/- The functions asv abstract code,and asv formulas over their values: printed by program out of the translation. -/
set_option linter.unusedVariables false
set_option maxRecDepth 100000
namespace Go.Am
def z4j:ACode:=.pr [0,1,2,3,8,9] (.seq (.seq (dr [dF (mV 18 9) [9],
dF (mV 19 1) [1],
dF (bN 20 .gtr 18 19) [18,19],
dF (mV 21 20) [20],
dF (gD 22 21 true (.mv 3)) [3,21],
dF (gD 23 21 true (.mv 0)) [0,21],
dF (gD 24 21 true (.mv 9)) [9,21],
dF (gD 25 21 true (.iaddr (some 4) 23 24)) [23,24,21],
dF (gD 26 21 true (.load (some 4) 25)) [25,21],
dF (gD 27 21 true (.mv 0)) [0,21],
dF (gD 28 21 true (.mv 9)) [9,21],
dF (gD 29 21 true (.bin .sub 28 (cI 1))) [28,21],
dF (gD 30 21 true (.iaddr (some 4) 27 29)) [27,29,21],
dF (gD 31 21 true (.load (some 4) 30)) [30,21],
dT (gD 32 21 true (.callv 22 [26,31])) [22,26,31,21],
dF (gD 33 21 true (.bin .lss 32 (cI 0))) [32,21],
dF (uO 34 (.pick 21 33 cF)) [21,33]] [0,1,2,3,8,9,34])
(.cond 34 .skip
(.exit 2)))
(.seq (.block 3 (dr [dF (mV 37 0) [0],
dF (mV 38 9) [9],
dF (mV 39 0) [0],
dF (mV 40 9) [9],
dF (bN 41 .sub 40 (cI 1)) [40],
dF (mV 42 0) [0],
dF (mV 43 9) [9],
dF (bN 44 .sub 43 (cI 1)) [43],
dF (iA 45 (some 4) 42 44) [42,44],
dF (lD 46 (some 4) 45) [45],
dF (mV 47 0) [0],
dF (mV 48 9) [9],
dF (iA 49 (some 4) 47 48) [47,48],
dF (lD 50 (some 4) 49) [49],
dF (iA 51 (some 4) 37 38) [37,38],
dT (wO (.store (some 4) 51 46)) [51,46],
dF (iA 52 (some 4) 39 41) [39,41],
dT (wO (.store (some 4) 52 50)) [52,50]] [0,1,2,3,8,9]))
(rg [mV 35 9,
bN 36 .sub 35 (cI 1),
mV 9 36] [0,1,2,3,8,9])))
def zeg (C:Hd) (gl:GL) (v0 v1 v2 v3 v8 v9:AV) (h:Heap) (x:Esc) (K:KT):Prop:=
 pK (oBin .gtr v9 v1) fun t1=>
 gM t1 true v3 h fun t2 h3 y4=>
 gM t1 true v0 h3 fun t5 h6 y7=>
 gM t1 true v9 h6 fun t8 h9 y10=>
 gP t1 true (z0p (some 4) t5 t8 h9) h9 fun t11 h12 y13=>
 gP t1 true (z0g (some 4) t11 h12) h12 fun t14 h15 y16=>
 gM t1 true v0 h15 fun t17 h18 y19=>
 gM t1 true v9 h18 fun t20 h21 y22=>
 gP t1 true (oBin .sub t20 (AI 1)) h21 fun t23 h24 y25=>
 gP t1 true (z0p (some 4) t17 t23 h24) h24 fun t26 h27 y28=>
 gP t1 true (z0g (some 4) t26 h27) h27 fun t29 h30 y31=>
 gV t1 true h30 (z5s C t2 [t14,t29] h30) fun t32 h33 y34=>
 gP t1 true (oBin .lss t32 (AI 0)) h33 fun t35 h36 y37=>
 pK (z0y t1 t35 (AB false)) fun t38=>
 z0i t38 (pK (oBin .sub v9 (AI 1)) fun t39=>
 pK (oBin .sub v9 (AI 1)) fun t40=>
 pK (z0p (some 4) v0 t40 h36) fun t41=>
 pK (z0g (some 4) t41 h36) fun t42=>
 pK (z0p (some 4) v0 v9 h36) fun t43=>
 pK (z0g (some 4) t43 h36) fun t44=>
 pK (z0p (some 4) v0 v9 h36) fun t45=>
 wK (z00 (some 4) t45 t42 h36) fun t46 h47 y48=>
 pK (z0p (some 4) v0 t39 h47) fun t49=>
 wK (z00 (some 4) t49 t44 h47) fun t50 h51 y52=>
 pK (oBin .sub v9 (AI 1)) fun t53=>
 K .normal ⟨[(0,v0),(1,v1),(2,v2),(3,v3),(8,v8),(9,t53)],h51,(y52++(y48++(y37++(y34++(y31++(y28++(y25++(y22++(y19++(y16++(y13++(y10++(y7++(y4++x))))))))))))))⟩)
 (K (.exit 2) ⟨[(0,v0),(1,v1),(2,v2),(3,v3),(8,v8),(9,v9),(34,t38)],h36,(y37++(y34++(y31++(y28++(y25++(y22++(y19++(y16++(y13++(y10++(y7++(y4++x))))))))))))⟩)
theorem zow {C gl e h x K}:NW C gl z4j ⟨e,h,x⟩ K=zeg C gl (aget e 0) (aget e 1) (aget e 2) (aget e 3) (aget e 8) (aget e 9) h x K:=by kernel_rfl
theorem zpK {C gl e h x K}:NW C gl (.loop z4j) ⟨e,h,x⟩ K=z0N C gl z4j K [(0,aget e 0),(1,aget e 1),(2,aget e 2),(3,aget e 3),(8,aget e 8),(9,aget e 9)] h x:=z0x
def z9q:ACode:=.pr [0,1,2,3,8] (rg [mV 15 8,
bN 16 .add 15 (cI 1),
mV 8 16] [0,1,2,3,8])
def zeh (C:Hd) (gl:GL) (v0 v1 v2 v3 v8:AV) (h:Heap) (x:Esc) (K:KT):Prop:=
 pK (oBin .add v8 (AI 1)) fun t1=>
 K .normal ⟨[(0,v0),(1,v1),(2,v2),(3,v3),(8,t1)],h,x⟩
theorem zox {C gl e h x K}:NW C gl z9q ⟨e,h,x⟩ K=zeh C gl (aget e 0) (aget e 1) (aget e 2) (aget e 3) (aget e 8) h x K:=by kernel_rfl
def zc7 (q1 q2:ACode):ACode:=.pr [0,1,2,3,8] (.seq (.seq (rg [mV 12 8,
mV 13 2,
bN 14 .lss 12 13] [0,1,2,3,8,14])
(.cond 14 .skip
(.exit 0)))
(.seq (.block 1 (.seq (rg [mV 17 8,
mV 9 17] [0,1,2,3,8,9])
(.block 2 (.loop q1))))
q2))
def z3q:ACode:=zc7 z4j z9q
def z8w (C:Hd) (gl:GL) (q1 q2:ACode) (v0 v1 v2 v3 v8:AV) (h:Heap) (x:Esc) (K:KT):Prop:=
 pK (oBin .lss v8 v2) fun t1=>
 z0i t1 (NW C gl (.loop q1) ⟨[(0,v0),(1,v1),(2,v2),(3,v3),(8,v8),(9,v8)],h,x⟩ (z0q 2 (z0q 1 (seqN C gl q2 K))))
 (K (.exit 0) ⟨[(0,v0),(1,v1),(2,v2),(3,v3),(8,v8),(14,t1)],h,x⟩)
theorem zjM {C gl q1 q2 e h x K}:NW C gl (zc7 q1 q2) ⟨e,h,x⟩ K=z8w C gl q1 q2 (aget e 0) (aget e 1) (aget e 2) (aget e 3) (aget e 8) h x K:=by kernel_rfl
theorem zoy {C gl e h x K}:NW C gl z3q ⟨e,h,x⟩ K=z8w C gl z4j z9q (aget e 0) (aget e 1) (aget e 2) (aget e 3) (aget e 8) h x K:=zjM
theorem zpL {C gl e h x K}:NW C gl (.loop z3q) ⟨e,h,x⟩ K=z0N C gl z3q K [(0,aget e 0),(1,aget e 1),(2,aget e 2),(3,aget e 3),(8,aget e 8)] h x:=z0x
def zum (q3:ACode):ACode:=(.seq (rg [mV 10 1,
bN 11 .add 10 (cI 1),
mV 8 11] [0,1,2,3,8])
(.block 0 (.loop q3)))
def zly:AFun:=⟨4,[],zum z3q,true,false⟩
def zgY (C:Hd) (gl:GL) (q3:ACode) (v0 v1 v2 v3:AV) (h:Heap) (x:Esc) (K:KT):Prop:=
 pK (oBin .add v1 (AI 1)) fun t1=>
 NW C gl (.loop q3) ⟨[(0,v0),(1,v1),(2,v2),(3,v3),(8,t1)],h,x⟩ (z0q 0 K)
theorem E_q06i {C gl q3 v0 v1 v2 v3 h x K}:NW C gl (zum q3) ⟨enter [v0,v1,v2,v3],h,x⟩ K=zgY C gl q3 v0 v1 v2 v3 h x K:=by kernel_rfl
theorem e_q06i {C gl v0 v1 v2 v3 h x K}:NW C gl zly.body ⟨enter [v0,v1,v2,v3],h,x⟩ K=zgY C gl z3q v0 v1 v2 v3 h x K:=E_q06i
def z3n:ACode:=.pr [0,1,7,8] (.seq (rg [bN 9 .lss 8 7] [0,1,7,8,9])
(.seq (.cond 9 .skip
(.exit 0))
(.seq (.block 1 (.seq (rg [mV 10 8,
mV 5 10] [0,1,5,7,8])
(.seq (rg [mV 11 1,
mV 12 0,
mV 13 5,
iA 14 (some 4) 12 13,
lD 15 (some 4) 14,
uO 16 (.callv 11 [15])] [0,1,5,7,8,16])
(.cond 16 (.seq (rg [mV 17 5,
mV 4 17] [4])
.ret)
.skip))))
(rg [bN 18 .add 8 (cI 1),
mV 8 18] [0,1,7,8]))))
def zdZ (C:Hd) (gl:GL) (v0 v1 v7 v8:AV) (h:Heap) (x:Esc) (K:KT):Prop:=
 pK (oBin .lss v8 v7) fun t1=>
 z0i t1 (pK (z0p (some 4) v0 v8 h) fun t2=>
 pK (z0g (some 4) t2 h) fun t3=>
 z3M C v1 [t3] h fun t4 h5 y6=>
 z0i t4 (K .ret ⟨[(4,v8)],h5,(y6++x)⟩)
 (pK (oBin .add v8 (AI 1)) fun t7=>
 K .normal ⟨[(0,v0),(1,v1),(7,v7),(8,t7)],h5,(y6++x)⟩))
 (K (.exit 0) ⟨[(0,v0),(1,v1),(7,v7),(8,v8),(9,t1)],h,x⟩)
theorem zoq {C gl e h x K}:NW C gl z3n ⟨e,h,x⟩ K=zdZ C gl (aget e 0) (aget e 1) (aget e 7) (aget e 8) h x K:=by kernel_rfl
theorem zpH {C gl e h x K}:NW C gl (.loop z3n) ⟨e,h,x⟩ K=z0N C gl z3n K [(0,aget e 0),(1,aget e 1),(7,aget e 7),(8,aget e 8)] h x:=z0x
def z6l:ACode:=.pr [] (.seq (rg [mV 4 (cI (-1))] [4])
.ret)
def zea (C:Hd) (gl:GL) (h:Heap) (x:Esc) (K:KT):Prop:=
 K .ret ⟨[(4,(AI (-1)))],h,x⟩
theorem zor {C gl e h x K}:NW C gl z6l ⟨e,h,x⟩ K=zea C gl h x K:=by kernel_rfl
def zuj (q1 q2:ACode):ACode:=(.seq (rg [mV 4 (cI 0)] [0,1])
(.seq (.seq (rg [mV 6 0,
lN 7 6,
mV 8 (cI 0)] [0,1,7,8])
(.block 0 (.loop q1)))
q2))
def zlu:AFun:=⟨2,[.t 4],zuj z3n z6l,true,false⟩
def zgV (C:Hd) (gl:GL) (q1 q2:ACode) (v0 v1:AV) (h:Heap) (x:Esc) (K:KT):Prop:=
 pK (oLen v0) fun t1=>
 NW C gl (.loop q1) ⟨[(0,v0),(1,v1),(7,t1),(8,(AI 0))],h,x⟩ (z0q 0 (seqN C gl q2 K))
theorem E_q05v {C gl q1 q2 v0 v1 h x K}:NW C gl (zuj q1 q2) ⟨enter [v0,v1],h,x⟩ K=zgV C gl q1 q2 v0 v1 h x K:=by kernel_rfl
theorem e_q05v {C gl v0 v1 h x K}:NW C gl zlu.body ⟨enter [v0,v1],h,x⟩ K=zgV C gl z3n z6l v0 v1 h x K:=E_q05v
def P_q04l:ACode:=(.seq (rg [uO 2 (.box 0),
mV 3 cF] [1,2])
(.seq (rg [fA 4 0 none 2,
lD 5 none 4,
lD 6 none 1,
bN 7 .eql 5 6,
mV 3 7] [3])
.ret))
def zlg:AFun:=⟨2,[.t 3],P_q04l,false,false⟩
def zmE (C:Hd) (gl:GL) (v0 v1:AV) (h:Heap) (x:Esc) (K:KT):Prop:=
 wK (oBox v0 h) fun t1 h2 y3=>
 pK (z0j 0 none t1) fun t4=>
 pK (z0g none t4 h2) fun t5=>
 pK (z0g none v1 h2) fun t6=>
 pK (oBin .eql t5 t6) fun t7=>
 K .ret ⟨[(3,t7)],h2,(y3++x)⟩
theorem e_q04l {C gl v0 v1 h x K}:NW C gl zlg.body ⟨enter [v0,v1],h,x⟩ K=zmE C gl v0 v1 h x K:=by kernel_rfl
def z3o:ACode:=.pr [0,1,7,8] (.seq (rg [bN 9 .lss 8 7] [0,1,7,8,9])
(.seq (.cond 9 .skip
(.exit 0))
(.seq (.block 1 (.seq (rg [mV 10 8,
mV 5 10] [0,1,5,7,8])
(.seq (rg [mV 11 1,
mV 12 0,
mV 13 5,
iA 14 none 12 13,
lD 15 none 14,
uO 16 (.callv 11 [15])] [0,1,5,7,8,16])
(.cond 16 (.seq (rg [mV 17 5,
mV 4 17] [4])
.ret)
.skip))))
(rg [bN 18 .add 8 (cI 1),
mV 8 18] [0,1,7,8]))))
def zeb (C:Hd) (gl:GL) (v0 v1 v7 v8:AV) (h:Heap) (x:Esc) (K:KT):Prop:=
 pK (oBin .lss v8 v7) fun t1=>
 z0i t1 (pK (z0p none v0 v8 h) fun t2=>
 pK (z0g none t2 h) fun t3=>
 z3M C v1 [t3] h fun t4 h5 y6=>
 z0i t4 (K .ret ⟨[(4,v8)],h5,(y6++x)⟩)
 (pK (oBin .add v8 (AI 1)) fun t7=>
 K .normal ⟨[(0,v0),(1,v1),(7,v7),(8,t7)],h5,(y6++x)⟩))
 (K (.exit 0) ⟨[(0,v0),(1,v1),(7,v7),(8,v8),(9,t1)],h,x⟩)
theorem zos {C gl e h x K}:NW C gl z3o ⟨e,h,x⟩ K=zeb C gl (aget e 0) (aget e 1) (aget e 7) (aget e 8) h x K:=by kernel_rfl
theorem zpI {C gl e h x K}:NW C gl (.loop z3o) ⟨e,h,x⟩ K=z0N C gl z3o K [(0,aget e 0),(1,aget e 1),(7,aget e 7),(8,aget e 8)] h x:=z0x
def z6m:ACode:=.pr [] (.seq (rg [mV 4 (cI (-1))] [4])
.ret)
def zec (C:Hd) (gl:GL) (h:Heap) (x:Esc) (K:KT):Prop:=
 K .ret ⟨[(4,(AI (-1)))],h,x⟩
theorem zot {C gl e h x K}:NW C gl z6m ⟨e,h,x⟩ K=zec C gl h x K:=by kernel_rfl
def zuk (q1 q2:ACode):ACode:=(.seq (rg [mV 4 (cI 0)] [0,1])
(.seq (.seq (rg [mV 6 0,
lN 7 6,
mV 8 (cI 0)] [0,1,7,8])
(.block 0 (.loop q1)))
q2))
def zlv:AFun:=⟨2,[.t 4],zuk z3o z6m,true,false⟩
def zgW (C:Hd) (gl:GL) (q1 q2:ACode) (v0 v1:AV) (h:Heap) (x:Esc) (K:KT):Prop:=
 pK (oLen v0) fun t1=>
 NW C gl (.loop q1) ⟨[(0,v0),(1,v1),(7,t1),(8,(AI 0))],h,x⟩ (z0q 0 (seqN C gl q2 K))
theorem E_q05w {C gl q1 q2 v0 v1 h x K}:NW C gl (zuk q1 q2) ⟨enter [v0,v1],h,x⟩ K=zgW C gl q1 q2 v0 v1 h x K:=by kernel_rfl
theorem e_q05w {C gl v0 v1 h x K}:NW C gl zlv.body ⟨enter [v0,v1],h,x⟩ K=zgW C gl z3o z6m v0 v1 h x K:=E_q05w
def P_q02b:ACode:=(.seq (rg [uO 2 (.box 0),
mV 3 cF] [1,2])
(.seq (rg [fA 4 0 none 2,
lD 5 none 4,
lD 6 none 1,
bN 7 .eql 5 6,
mV 3 7] [3])
.ret))
def zk5:AFun:=⟨2,[.t 3],P_q02b,false,false⟩
def zm1 (C:Hd) (gl:GL) (v0 v1:AV) (h:Heap) (x:Esc) (K:KT):Prop:=
 wK (oBox v0 h) fun t1 h2 y3=>
 pK (z0j 0 none t1) fun t4=>
 pK (z0g none t4 h2) fun t5=>
 pK (z0g none v1 h2) fun t6=>
 pK (oBin .eql t5 t6) fun t7=>
 K .ret ⟨[(3,t7)],h2,(y3++x)⟩
theorem e_q02b {C gl v0 v1 h x K}:NW C gl zk5.body ⟨enter [v0,v1],h,x⟩ K=zm1 C gl v0 v1 h x K:=by kernel_rfl
def P_q095:ACode:=(.seq (rg [mV 4 (cS []),
mV 5 cF] [0,1])
(.seq (rg [mV 6 0,
mV 7 1,
cL 8 zax [6,7],
eX 9 8 0,
eX 10 8 1,
mV 4 9,
mV 5 10] [4,5])
.ret))
def zl7:AFun:=⟨2,[.t 4,.t 5],P_q095,false,false⟩
def zmP (C:Hd) (gl:GL) (v0 v1:AV) (h:Heap) (x:Esc) (K:KT):Prop:=
 C zax [v0,v1] h fun t1 h2 y3=>
 pK (oExt t1 0) fun t4=>
 pK (oExt t1 1) fun t5=>
 K .ret ⟨[(4,t4),(5,t5)],h2,(y3++x)⟩
theorem e_q095 {C gl v0 v1 h x K}:NW C gl zl7.body ⟨enter [v0,v1],h,x⟩ K=zmP C gl v0 v1 h x K:=by kernel_rfl
def z4n:ACode:=.pr [0,1,2,3,9,10] (.seq (.seq (rg [mV 34 10,
mV 35 3,
bN 36 .lss 34 35] [0,1,2,3,9,10,36])
(.cond 36 .skip
(.exit 0)))
(.block 1 (.seq (rg [mV 37 0,
mV 38 1,
cL 39 zbb [37,38],
mV 11 39] [0,1,2,3,9,10,11])
(.seq (.seq (rg [mV 40 11,
bN 41 .lss 40 (cI 0)] [0,1,2,3,9,10,11,41])
(.cond 41 (.exit 0)
.skip))
(.seq (rg [mV 42 9,
mV 43 10,
mV 44 0,
mV 45 11,
mV 46 2,
bN 47 .add 45 46,
uO 48 (.slstr 44 none (some 47)),
iA 49 none 42 43,
wO (.store none 49 48)] [0,1,2,3,9,10,11])
(.seq (rg [mV 50 0,
mV 51 11,
mV 52 1,
uO 53 (.lens 52),
bN 54 .add 51 53,
uO 55 (.slstr 50 (some 54) none),
mV 0 55] [0,1,2,3,9,10])
(rg [mV 56 10,
bN 57 .add 56 (cI 1),
mV 10 57] [0,1,2,3,9,10])))))))
def zen (C:Hd) (gl:GL) (v0 v1 v2 v3 v9 v10:AV) (h:Heap) (x:Esc) (K:KT):Prop:=
 pK (oBin .lss v10 v3) fun t1=>
 z0i t1 (C zbb [v0,v1] h fun t2 h3 y4=>
 pK (oBin .lss t2 (AI 0)) fun t5=>
 z0i t5 (K (.exit 0) ⟨[(0,v0),(1,v1),(2,v2),(3,v3),(9,v9),(10,v10),(11,t2),(41,t5)],h3,(y4++x)⟩)
 (pK (oBin .add t2 v2) fun t6=>
 pK (z1h v0 none (some t6)) fun t7=>
 pK (z0p none v9 v10 h3) fun t8=>
 wK (z00 none t8 t7 h3) fun t9 h10 y11=>
 pK (z1g v1) fun t12=>
 pK (oBin .add t2 t12) fun t13=>
 pK (z1h v0 (some t13) none) fun t14=>
 pK (oBin .add v10 (AI 1)) fun t15=>
 K .normal ⟨[(0,t14),(1,v1),(2,v2),(3,v3),(9,v9),(10,t15)],h10,(y11++(y4++x))⟩))
 (K (.exit 0) ⟨[(0,v0),(1,v1),(2,v2),(3,v3),(9,v9),(10,v10),(36,t1)],h,x⟩)
theorem zo9 {C gl e h x K}:NW C gl z4n ⟨e,h,x⟩ K=zen C gl (aget e 0) (aget e 1) (aget e 2) (aget e 3) (aget e 9) (aget e 10) h x K:=by kernel_rfl
theorem zpQ {C gl e h x K}:NW C gl (.loop z4n) ⟨e,h,x⟩ K=z0N C gl z4n K [(0,aget e 0),(1,aget e 1),(2,aget e 2),(3,aget e 3),(9,aget e 9),(10,aget e 10)] h x:=z0x
def z9v:ACode:=.pr [0,9,10] (.seq (rg [mV 58 9,
mV 59 10,
mV 60 0,
iA 61 none 58 59,
wO (.store none 61 60)] [9,10])
(.seq (rg [mV 62 9,
mV 63 10,
bN 64 .add 63 (cI 1),
uO 65 (.slice none 62 none (some 64) none),
mV 8 65] [8])
.ret))
def zeo (C:Hd) (gl:GL) (v0 v9 v10:AV) (h:Heap) (x:Esc) (K:KT):Prop:=
 pK (z0p none v9 v10 h) fun t1=>
 wK (z00 none t1 v0 h) fun t2 h3 y4=>
 pK (oBin .add v10 (AI 1)) fun t5=>
 pK (z2q none v9 none (some t5) none h3) fun t6=>
 K .ret ⟨[(8,t6)],h3,(y4++x)⟩
theorem zoA {C gl e h x K}:NW C gl z9v ⟨e,h,x⟩ K=zeo C gl (aget e 0) (aget e 9) (aget e 10) h x K:=by kernel_rfl
def zcD (q1 q2:ACode):ACode:=.pr [0,1,2,3] (.seq (rg [mV 25 3,
mV 26 0,
uO 27 (.lens 26),
bN 28 .add 27 (cI 1),
uO 29 (.mn [25,28]),
mV 3 29] [0,1,2,3])
(.seq (rg [mV 30 3,
uO 31 (.mksl none (.str []) 30 30),
mV 9 31] [0,1,2,3,9])
(.seq (rg [mV 32 3,
bN 33 .sub 32 (cI 1),
mV 3 33] [0,1,2,3,9])
(.seq (rg [mV 10 (cI 0)] [0,1,2,3,9,10])
(.seq (.block 0 (.loop q1))
q2)))))
def z6q:ACode:=zcD z4n z9v
def z52 (C:Hd) (gl:GL) (q1 q2:ACode) (v0 v1 v2 v3:AV) (h:Heap) (x:Esc) (K:KT):Prop:=
 pK (z1g v0) fun t1=>
 pK (oBin .add t1 (AI 1)) fun t2=>
 pK (oMn [v3,t2]) fun t3=>
 wK (zsK none (.str []) t3 t3 h) fun t4 h5 y6=>
 pK (oBin .sub t3 (AI 1)) fun t7=>
 NW C gl (.loop q1) ⟨[(0,v0),(1,v1),(2,v2),(3,t7),(9,t4),(10,(AI 0))],h5,(y6++x)⟩ (z0q 0 (seqN C gl q2 K))
theorem zjS {C gl q1 q2 e h x K}:NW C gl (zcD q1 q2) ⟨e,h,x⟩ K=z52 C gl q1 q2 (aget e 0) (aget e 1) (aget e 2) (aget e 3) h x K:=by kernel_rfl
theorem z8D {C gl e h x K}:NW C gl z6q ⟨e,h,x⟩ K=z52 C gl z4n z9v (aget e 0) (aget e 1) (aget e 2) (aget e 3) h x K:=zjS
def zup (q3:ACode):ACode:=(.seq (rg [mV 8 (.c (.p (.sl none [])))] [0,1,2,3])
(.seq (.seq (rg [mV 12 3,
bN 13 .eql 12 (cI 0)] [0,1,2,3,13])
(.cond 13 (.seq (rg [mV 8 (.c (.p (.sl none [])))] [8])
.ret)
.skip))
(.seq (.seq (rg [mV 14 1,
bN 15 .eql 14 (cS [])] [0,1,2,3,15])
(.cond 15 (.seq (rg [mV 16 0,
mV 17 3,
cL 18 ze1 [16,17],
mV 8 18] [8])
.ret)
.skip))
(.seq (.seq (rg [mV 19 3,
bN 20 .lss 19 (cI 0)] [0,1,2,3,20])
(.cond 20 (rg [mV 21 0,
mV 22 1,
cL 23 zhl [21,22],
bN 24 .add 23 (cI 1),
mV 3 24] [0,1,2,3])
.skip))
q3))))
def zlD:AFun:=⟨4,[.t 8],zup z6q,false,false⟩
def zhd (C:Hd) (gl:GL) (q3:ACode) (v0 v1 v2 v3:AV) (h:Heap) (x:Esc) (K:KT):Prop:=
 pK (oBin .eql v3 (AI 0)) fun t1=>
 z0i t1 (K .ret ⟨[(8,(.p (.sl none [])))],h,x⟩)
 (pK (oBin .eql v1 (.p (.str []))) fun t2=>
 z0i t2 (C ze1 [v0,v3] h fun t3 h4 y5=>
 K .ret ⟨[(8,t3)],h4,(y5++x)⟩)
 (pK (oBin .lss v3 (AI 0)) fun t6=>
 z0i t6 (C zhl [v0,v1] h fun t7 h8 y9=>
 pK (oBin .add t7 (AI 1)) fun t10=>
 NW C gl q3 ⟨[(0,v0),(1,v1),(2,v2),(3,t10)],h8,(y9++x)⟩ K)
 (NW C gl q3 ⟨[(0,v0),(1,v1),(2,v2),(3,v3),(20,t6)],h,x⟩ K)))
theorem E_q09f {C gl q3 v0 v1 v2 v3 h x K}:NW C gl (zup q3) ⟨enter [v0,v1,v2,v3],h,x⟩ K=zhd C gl q3 v0 v1 v2 v3 h x K:=by kernel_rfl
theorem e_q09f {C gl v0 v1 v2 v3 h x K}:NW C gl zlD.body ⟨enter [v0,v1,v2,v3],h,x⟩ K=zhd C gl z6q v0 v1 v2 v3 h x K:=E_q09f
def P_q007:ACode:=(.seq (rg [mV 2 cF] [0])
(.seq (rg [mV 3 0,
cL 4 z2k [3,(cI 0),(cI 345686399999)],
uO 5 (.un .not 4),
mV 2 5] [2])
.ret))
def zkd:AFun:=⟨1,[.t 2],P_q007,false,false⟩
def zms (C:Hd) (gl:GL) (v0:AV) (h:Heap) (x:Esc) (K:KT):Prop:=
 C z2k [v0,(AI 0),(AI 345686399999)] h fun t1 h2 y3=>
 pK (oUn .not t1) fun t4=>
 K .ret ⟨[(2,t4)],h2,(y3++x)⟩
theorem e_q007 {C gl v0 h x K}:NW C gl zkd.body ⟨enter [v0],h,x⟩ K=zms C gl v0 h x K:=by kernel_rfl
def P_q02g:ACode:=(.seq (rg [mV 2 cF] [0])
(.seq (rg [mV 3 0,
cL 4 z7g [3],
uO 5 (.un .not 4),
mV 2 5] [2])
.ret))
def zkA:AFun:=⟨1,[.t 2],P_q02g,false,false⟩
def zm4 (C:Hd) (gl:GL) (v0:AV) (h:Heap) (x:Esc) (K:KT):Prop:=
 C z7g [v0] h fun t1 h2 y3=>
 pK (oUn .not t1) fun t4=>
 K .ret ⟨[(2,t4)],h2,(y3++x)⟩
theorem e_q02g {C gl v0 h x K}:NW C gl zkA.body ⟨enter [v0],h,x⟩ K=zm4 C gl v0 h x K:=by kernel_rfl
def P_q02d:ACode:=(.seq (rg [mV 2 cF] [0])
(.seq (rg [mV 3 0,
cL 4 z2k [3,(cI (-100000)),(cI 100000)],
uO 5 (.un .not 4),
mV 2 5] [2])
.ret))
def zk7:AFun:=⟨1,[.t 2],P_q02d,false,false⟩
def zm3 (C:Hd) (gl:GL) (v0:AV) (h:Heap) (x:Esc) (K:KT):Prop:=
 C z2k [v0,(AI (-100000)),(AI 100000)] h fun t1 h2 y3=>
 pK (oUn .not t1) fun t4=>
 K .ret ⟨[(2,t4)],h2,(y3++x)⟩
theorem e_q02d {C gl v0 h x K}:NW C gl zk7.body ⟨enter [v0],h,x⟩ K=zm3 C gl v0 h x K:=by kernel_rfl
def z2W:ACode:=.pr [0,3,5,23,24,25] (.seq (rg [bN 26 .lss 25 24] [0,3,5,23,24,25,26])
(.seq (.cond 26 .skip
(.exit 0))
(.seq (.block 1 (.seq (rg [mV 27 25,
iA 28 none 23 25,
lD 29 none 28,
mV 6 27,
mV 7 29] [0,3,5,6,7,23,24,25])
(.seq (rg [mV 30 0,
mV 31 6,
iA 32 (some 4) 30 31,
lD 33 (some 4) 32,
mV 34 7,
cL 35 z7f [33,34],
uO 36 (.un .not 35)] [0,3,5,23,24,25,36])
(.cond 36 (.seq (rg [mV 4 cF] [4])
.ret)
.skip))))
(rg [bN 37 .add 25 (cI 1),
mV 25 37] [0,3,5,23,24,25]))))
def zdn (C:Hd) (gl:GL) (v0 v3 v5 v23 v24 v25:AV) (h:Heap) (x:Esc) (K:KT):Prop:=
 pK (oBin .lss v25 v24) fun t1=>
 z0i t1 (pK (z0p none v23 v25 h) fun t2=>
 pK (z0g none t2 h) fun t3=>
 pK (z0p (some 4) v0 v25 h) fun t4=>
 pK (z0g (some 4) t4 h) fun t5=>
 C z7f [t5,t3] h fun t6 h7 y8=>
 pK (oUn .not t6) fun t9=>
 z0i t9 (K .ret ⟨[(4,(AB false))],h7,(y8++x)⟩)
 (pK (oBin .add v25 (AI 1)) fun t10=>
 K .normal ⟨[(0,v0),(3,v3),(5,v5),(23,v23),(24,v24),(25,t10)],h7,(y8++x)⟩))
 (K (.exit 0) ⟨[(0,v0),(3,v3),(5,v5),(23,v23),(24,v24),(25,v25),(26,t1)],h,x⟩)
theorem znA {C gl e h x K}:NW C gl z2W ⟨e,h,x⟩ K=zdn C gl (aget e 0) (aget e 3) (aget e 5) (aget e 23) (aget e 24) (aget e 25) h x K:=by kernel_rfl
theorem zpy {C gl e h x K}:NW C gl (.loop z2W) ⟨e,h,x⟩ K=z0N C gl z2W K [(0,aget e 0),(3,aget e 3),(5,aget e 5),(23,aget e 23),(24,aget e 24),(25,aget e 25)] h x:=z0x
def z5S:ACode:=.pr [0,3,5] (.seq (rg [mV 38 5,
mV 39 0,
lN 40 39,
bN 41 .eql 38 40,
mV 42 41,
gD 43 42 false (.mv 0),
gD 44 42 false (.load (some 4) 3),
gD 45 42 false (.call za7 [43,44]),
gD 46 42 false (.bin .geq 45 (cI 0)),
uO 47 (.pick 42 cT 46),
mV 4 47] [4])
.ret)
def zdo (C:Hd) (gl:GL) (v0 v3 v5:AV) (h:Heap) (x:Esc) (K:KT):Prop:=
 pK (oLen v0) fun t1=>
 pK (oBin .eql v5 t1) fun t2=>
 gM t2 false v0 h fun t3 h4 y5=>
 gP t2 false (z0g (some 4) v3 h4) h4 fun t6 h7 y8=>
 gV t2 false h7 (C za7 [t3,t6] h7) fun t9 h10 y11=>
 gP t2 false (oBin .geq t9 (AI 0)) h10 fun t12 h13 y14=>
 pK (z0y t2 (AB true) t12) fun t15=>
 K .ret ⟨[(4,t15)],h13,(y14++(y11++(y8++(y5++x))))⟩
theorem znB {C gl e h x K}:NW C gl z5S ⟨e,h,x⟩ K=zdo C gl (aget e 0) (aget e 3) (aget e 5) h x K:=by kernel_rfl
def ztP (q1 q2:ACode):ACode:=(.seq (rg [uO 3 (.box 1),
mV 4 cF] [0,3])
(.seq (rg [fA 8 3 none 3,
lD 9 none 8,
lN 10 9,
mV 5 10] [0,3,5])
(.seq (.seq (rg [mV 11 5,
bN 12 .eql 11 (cI 0),
mV 13 12,
gD 14 13 false (.mv 5),
gD 15 13 false (.mv 0),
gD 16 13 false (.len 15),
gD 17 13 false (.bin .gtr 14 16),
uO 18 (.pick 13 cT 17)] [0,3,5,18])
(.cond 18 (.seq (rg [mV 4 cF] [4])
.ret)
.skip))
(.seq (.seq (rg [fA 19 3 none 3,
lD 20 none 19,
mV 21 5,
bN 22 .sub 21 (cI 1),
uO 23 (.slice none 20 none (some 22) none),
lN 24 23,
mV 25 (cI 0)] [0,3,5,23,24,25])
(.block 0 (.loop q1)))
q2))))
def zk2:AFun:=⟨2,[.t 4],ztP z2W z5S,false,false⟩
def zah (C:Hd) (gl:GL) (q1 q2:ACode) (v0 v1:AV) (h:Heap) (x:Esc) (K:KT):Prop:=
 wK (oBox v1 h) fun t1 h2 y3=>
 pK (z0j 3 none t1) fun t4=>
 pK (z0g none t4 h2) fun t5=>
 pK (oLen t5) fun t6=>
 pK (oBin .eql t6 (AI 0)) fun t7=>
 gM t7 false t6 h2 fun t8 h9 y10=>
 gM t7 false v0 h9 fun t11 h12 y13=>
 gP t7 false (oLen t11) h12 fun t14 h15 y16=>
 gP t7 false (oBin .gtr t8 t14) h15 fun t17 h18 y19=>
 pK (z0y t7 (AB true) t17) fun t20=>
 z0i t20 (K .ret ⟨[(4,(AB false))],h18,(y19++(y16++(y13++(y10++(y3++x)))))⟩)
 (pK (z0j 3 none t1) fun t21=>
 pK (z0g none t21 h18) fun t22=>
 pK (oBin .sub t6 (AI 1)) fun t23=>
 pK (z2q none t22 none (some t23) none h18) fun t24=>
 pK (oLen t24) fun t25=>
 NW C gl (.loop q1) ⟨[(0,v0),(3,t1),(5,t6),(23,t24),(24,t25),(25,(AI 0))],h18,(y19++(y16++(y13++(y10++(y3++x)))))⟩ (z0q 0 (seqN C gl q2 K)))
theorem E_q028 {C gl q1 q2 v0 v1 h x K}:NW C gl (ztP q1 q2) ⟨enter [v0,v1],h,x⟩ K=zah C gl q1 q2 v0 v1 h x K:=by kernel_rfl
theorem e_q028 {C gl v0 v1 h x K}:NW C gl zk2.body ⟨enter [v0,v1],h,x⟩ K=zah C gl z2W z5S v0 v1 h x K:=E_q028
def P_q01u:ACode:=(.seq (rg [mV 4 (cS []),
mV 5 (cS []),
mV 6 cF] [0,1])
(.seq (.seq (rg [mV 8 0,
mV 9 1,
cL 10 z7d [8,9],
mV 7 10] [0,1,7])
(.seq (rg [mV 11 7,
bN 12 .geq 11 (cI 0)] [0,1,7,12])
(.cond 12 (.seq (dr [dF (mV 13 0) [0],
dF (mV 14 7) [7],
dF (uO 15 (.slstr 13 none (some 14))) [13,14],
dF (mV 16 0) [0],
dF (mV 17 7) [7],
dF (mV 18 1) [1],
dF (uO 19 (.lens 18)) [18],
dF (bN 20 .add 17 19) [17,19],
dF (uO 21 (.slstr 16 (some 20) none)) [16,20],
dF (mV 4 15) [15],
dF (mV 5 21) [21],
dF (mV 6 cT) []] [4,5,6])
.ret)
.skip)))
(.seq (rg [mV 22 0,
mV 4 22,
mV 5 (cS []),
mV 6 cF] [4,5,6])
.ret)))
def zko:AFun:=⟨2,[.t 4,.t 5,.t 6],P_q01u,false,false⟩
def zg8 (C:Hd) (gl:GL) (v0 v1:AV) (h:Heap) (x:Esc) (K:KT):Prop:=
 C z7d [v0,v1] h fun t1 h2 y3=>
 pK (oBin .geq t1 (AI 0)) fun t4=>
 z0i t4 (pK (z1h v0 none (some t1)) fun t5=>
 pK (z1g v1) fun t6=>
 pK (oBin .add t1 t6) fun t7=>
 pK (z1h v0 (some t7) none) fun t8=>
 K .ret ⟨[(4,t5),(5,t8),(6,(AB true))],h2,(y3++x)⟩)
 (K .ret ⟨[(4,v0),(5,(.p (.str []))),(6,(AB false))],h2,(y3++x)⟩)
theorem e_q01u {C gl v0 v1 h x K}:NW C gl zko.body ⟨enter [v0,v1],h,x⟩ K=zg8 C gl v0 v1 h x K:=by kernel_rfl
def P_q020:ACode:=(.seq (rg [mV 4 (cS [])] [0,1])
(.seq (.seq (rg [mV 5 0,
mV 6 1,
cL 7 zay [5,6]] [0,1,7])
(.cond 7 (.seq (rg [mV 8 0,
mV 9 1,
uO 10 (.lens 9),
uO 11 (.slstr 8 (some 10) none),
mV 4 11] [4])
.ret)
.skip))
(.seq (rg [mV 12 0,
mV 4 12] [4])
.ret)))
def zku:AFun:=⟨2,[.t 4],P_q020,false,false⟩
def zgE (C:Hd) (gl:GL) (v0 v1:AV) (h:Heap) (x:Esc) (K:KT):Prop:=
 C zay [v0,v1] h fun t1 h2 y3=>
 z0i t1 (pK (z1g v1) fun t4=>
 pK (z1h v0 (some t4) none) fun t5=>
 K .ret ⟨[(4,t5)],h2,(y3++x)⟩)
 (K .ret ⟨[(4,v0)],h2,(y3++x)⟩)
theorem e_q020 {C gl v0 v1 h x K}:NW C gl zku.body ⟨enter [v0,v1],h,x⟩ K=zgE C gl v0 v1 h x K:=by kernel_rfl
def P_q097:ACode:=(.seq (rg [mV 4 (cI 0)] [0,1])
(.seq (rg [mV 5 0,
mV 6 1,
cL 7 z3S [5,6],
mV 4 7] [4])
.ret))
def zl9:AFun:=⟨2,[.t 4],P_q097,false,false⟩
def zmR (C:Hd) (gl:GL) (v0 v1:AV) (h:Heap) (x:Esc) (K:KT):Prop:=
 C z3S [v0,v1] h fun t1 h2 y3=>
 K .ret ⟨[(4,t1)],h2,(y3++x)⟩
theorem e_q097 {C gl v0 v1 h x K}:NW C gl zl9.body ⟨enter [v0,v1],h,x⟩ K=zmR C gl v0 v1 h x K:=by kernel_rfl
def P_q02k:ACode:=(.seq (rg [mV 2 cF] [0])
(.seq (rg [mV 3 0,
cL 4 z7g [3],
uO 5 (.un .not 4),
mV 2 5] [2])
.ret))
def zkD:AFun:=⟨1,[.t 2],P_q02k,false,false⟩
def zm5 (C:Hd) (gl:GL) (v0:AV) (h:Heap) (x:Esc) (K:KT):Prop:=
 C z7g [v0] h fun t1 h2 y3=>
 pK (oUn .not t1) fun t4=>
 K .ret ⟨[(2,t4)],h2,(y3++x)⟩
theorem e_q02k {C gl v0 h x K}:NW C gl zkD.body ⟨enter [v0],h,x⟩ K=zm5 C gl v0 h x K:=by kernel_rfl
def z2N:ACode:=.pr [0,1] (.seq (.seq (rg [mV 5 1,
bN 6 .neq 5 (cI 0)] [0,1,6])
(.cond 6 .skip
(.exit 0)))
(.block 1 (dr [dF (mV 7 1) [1],
dF (mV 8 0) [0],
dF (mV 9 1) [1],
dF (bN 10 .rem 8 9) [8,9],
dF (mV 0 7) [7],
dF (mV 1 10) [10]] [0,1])))
def zcR (C:Hd) (gl:GL) (v0 v1:AV) (h:Heap) (x:Esc) (K:KT):Prop:=
 pK (oBin .neq v1 (AI 0)) fun t1=>
 z0i t1 (pK (oBin .rem v0 v1) fun t2=>
 K .normal ⟨[(0,v1),(1,t2)],h,x⟩)
 (K (.exit 0) ⟨[(0,v0),(1,v1),(6,t1)],h,x⟩)
theorem znl {C gl e h x K}:NW C gl z2N ⟨e,h,x⟩ K=zcR C gl (aget e 0) (aget e 1) h x K:=by kernel_rfl
theorem zpl {C gl e h x K}:NW C gl (.loop z2N) ⟨e,h,x⟩ K=z0N C gl z2N K [(0,aget e 0),(1,aget e 1)] h x:=z0x
def z5I:ACode:=.pr [0] (.seq (rg [mV 11 0,
mV 4 11] [4])
.ret)
def zcS (C:Hd) (gl:GL) (v0:AV) (h:Heap) (x:Esc) (K:KT):Prop:=
 K .ret ⟨[(4,v0)],h,x⟩
theorem znm {C gl e h x K}:NW C gl z5I ⟨e,h,x⟩ K=zcS C gl (aget e 0) h x K:=by kernel_rfl
def ztF (q1 q2:ACode):ACode:=(.seq (rg [mV 4 (cI 0)] [0,1])
(.seq (.block 0 (.loop q1))
q2))
def zka:AFun:=⟨2,[.t 4],ztF z2N z5I,false,false⟩
def zg4 (C:Hd) (gl:GL) (q1 q2:ACode) (v0 v1:AV) (h:Heap) (x:Esc) (K:KT):Prop:=
 NW C gl (.loop q1) ⟨[(0,v0),(1,v1)],h,x⟩ (z0q 0 (seqN C gl q2 K))
theorem E_q004 {C gl q1 q2 v0 v1 h x K}:NW C gl (ztF q1 q2) ⟨enter [v0,v1],h,x⟩ K=zg4 C gl q1 q2 v0 v1 h x K:=by kernel_rfl
theorem e_q004 {C gl v0 v1 h x K}:NW C gl zka.body ⟨enter [v0,v1],h,x⟩ K=zg4 C gl z2N z5I v0 v1 h x K:=E_q004
def P_q01v:ACode:=(.seq (rg [mV 4 (cS []),
mV 5 cF] [0,1])
(.seq (.seq (rg [mV 6 0,
mV 7 1,
cL 8 zaz [6,7],
uO 9 (.un .not 8)] [0,1,9])
(.cond 9 (.seq (rg [mV 10 0,
mV 4 10,
mV 5 cF] [4,5])
.ret)
.skip))
(.seq (rg [mV 11 0,
mV 12 0,
uO 13 (.lens 12),
mV 14 1,
uO 15 (.lens 14),
bN 16 .sub 13 15,
uO 17 (.slstr 11 none (some 16)),
mV 4 17,
mV 5 cT] [4,5])
.ret)))
def zkp:AFun:=⟨2,[.t 4,.t 5],P_q01v,false,false⟩
def zg9 (C:Hd) (gl:GL) (v0 v1:AV) (h:Heap) (x:Esc) (K:KT):Prop:=
 C zaz [v0,v1] h fun t1 h2 y3=>
 pK (oUn .not t1) fun t4=>
 z0i t4 (K .ret ⟨[(4,v0),(5,(AB false))],h2,(y3++x)⟩)
 (pK (z1g v0) fun t5=>
 pK (z1g v1) fun t6=>
 pK (oBin .sub t5 t6) fun t7=>
 pK (z1h v0 none (some t7)) fun t8=>
 K .ret ⟨[(4,t8),(5,(AB true))],h2,(y3++x)⟩)
theorem e_q01v {C gl v0 v1 h x K}:NW C gl zkp.body ⟨enter [v0,v1],h,x⟩ K=zg9 C gl v0 v1 h x K:=by kernel_rfl
def z4m:ACode:=.pr [0,1,6,7] (.seq (.seq (rg [mV 22 7,
mV 23 1,
bN 24 .sub 23 (cI 1),
bN 25 .lss 22 24] [0,1,6,7,25])
(.cond 25 .skip
(.exit 0)))
(.seq (.block 1 (.seq (rg [mV 29 0,
cL 30 ze2 [29],
mV 28 30,
eX 31 28 0,
eX 32 28 1,
mV 8 31,
mV 9 32] [0,1,6,7,9])
(.seq (rg [mV 33 6,
mV 34 7,
mV 35 0,
mV 36 9,
uO 37 (.slstr 35 none (some 36)),
iA 38 none 33 34,
wO (.store none 38 37)] [0,1,6,7,9])
(rg [mV 39 0,
mV 40 9,
uO 41 (.slstr 39 (some 40) none),
mV 0 41] [0,1,6,7]))))
(rg [mV 26 7,
bN 27 .add 26 (cI 1),
mV 7 27] [0,1,6,7])))
def zel (C:Hd) (gl:GL) (v0 v1 v6 v7:AV) (h:Heap) (x:Esc) (K:KT):Prop:=
 pK (oBin .sub v1 (AI 1)) fun t1=>
 pK (oBin .lss v7 t1) fun t2=>
 z0i t2 (C ze2 [v0] h fun t3 h4 y5=>
 pK (oExt t3 0) fun t6=>
 pK (oExt t3 1) fun t7=>
 pK (z1h v0 none (some t7)) fun t8=>
 pK (z0p none v6 v7 h4) fun t9=>
 wK (z00 none t9 t8 h4) fun t10 h11 y12=>
 pK (z1h v0 (some t7) none) fun t13=>
 pK (oBin .add v7 (AI 1)) fun t14=>
 K .normal ⟨[(0,t13),(1,v1),(6,v6),(7,t14)],h11,(y12++(y5++x))⟩)
 (K (.exit 0) ⟨[(0,v0),(1,v1),(6,v6),(7,v7),(25,t2)],h,x⟩)
theorem zo5 {C gl e h x K}:NW C gl z4m ⟨e,h,x⟩ K=zel C gl (aget e 0) (aget e 1) (aget e 6) (aget e 7) h x K:=by kernel_rfl
theorem zpP {C gl e h x K}:NW C gl (.loop z4m) ⟨e,h,x⟩ K=z0N C gl z4m K [(0,aget e 0),(1,aget e 1),(6,aget e 6),(7,aget e 7)] h x:=z0x
def z9t:ACode:=.pr [6] (.seq (rg [mV 49 6,
mV 4 49] [4])
.ret)
def zem (C:Hd) (gl:GL) (v6:AV) (h:Heap) (x:Esc) (K:KT):Prop:=
 K .ret ⟨[(4,v6)],h,x⟩
theorem zo6 {C gl e h x K}:NW C gl z9t ⟨e,h,x⟩ K=zem C gl (aget e 6) h x K:=by kernel_rfl
def zcB (q2:ACode):ACode:=.pr [0,1,6] (.seq (.seq (rg [mV 42 1,
bN 43 .gtr 42 (cI 0)] [0,1,6,43])
(.cond 43 (rg [mV 44 6,
mV 45 1,
bN 46 .sub 45 (cI 1),
mV 47 0,
iA 48 none 44 46,
wO (.store none 48 47)] [6])
.skip))
q2)
def z9u:ACode:=zcB z9t
def z81 (C:Hd) (gl:GL) (q2:ACode) (v0 v1 v6:AV) (h:Heap) (x:Esc) (K:KT):Prop:=
 pK (oBin .gtr v1 (AI 0)) fun t1=>
 z0i t1 (pK (oBin .sub v1 (AI 1)) fun t2=>
 pK (z0p none v6 t2 h) fun t3=>
 wK (z00 none t3 v0 h) fun t4 h5 y6=>
 NW C gl q2 ⟨[(6,v6)],h5,(y6++x)⟩ K)
 (NW C gl q2 ⟨[(0,v0),(1,v1),(6,v6),(43,t1)],h,x⟩ K)
theorem zjQ {C gl q2 e h x K}:NW C gl (zcB q2) ⟨e,h,x⟩ K=z81 C gl q2 (aget e 0) (aget e 1) (aget e 6) h x K:=by kernel_rfl
theorem zo7 {C gl e h x K}:NW C gl z9u ⟨e,h,x⟩ K=z81 C gl z9t (aget e 0) (aget e 1) (aget e 6) h x K:=zjQ
def zcC (q1 q3:ACode):ACode:=.pr [0,1] (.seq (rg [mV 20 1,
uO 21 (.mksl none (.str []) 20 20),
mV 6 21] [0,1,6])
(.seq (.seq (rg [mV 7 (cI 0)] [0,1,6,7])
(.block 0 (.loop q1)))
q3))
def z6p:ACode:=zcC z4m z9u
def z82 (C:Hd) (gl:GL) (q1 q3:ACode) (v0 v1:AV) (h:Heap) (x:Esc) (K:KT):Prop:=
 wK (zsK none (.str []) v1 v1 h) fun t1 h2 y3=>
 NW C gl (.loop q1) ⟨[(0,v0),(1,v1),(6,t1),(7,(AI 0))],h2,(y3++x)⟩ (z0q 0 (seqN C gl q3 K))
theorem zjR {C gl q1 q3 e h x K}:NW C gl (zcC q1 q3) ⟨e,h,x⟩ K=z82 C gl q1 q3 (aget e 0) (aget e 1) h x K:=by kernel_rfl
theorem zo8 {C gl e h x K}:NW C gl z6p ⟨e,h,x⟩ K=z82 C gl z4m z9u (aget e 0) (aget e 1) h x K:=zjR
def zuo (q4:ACode):ACode:=(.seq (rg [mV 4 (.c (.p (.sl none [])))] [0,1])
(.seq (rg [mV 10 0,
cL 11 zu6 [10],
mV 5 11] [0,1,5])
(.seq (.seq (rg [mV 12 1,
bN 13 .lss 12 (cI 0),
mV 14 13,
gD 15 14 false (.mv 1),
gD 16 14 false (.mv 5),
gD 17 14 false (.bin .gtr 15 16),
uO 18 (.pick 14 cT 17)] [0,1,5,18])
(.cond 18 (rg [mV 19 5,
mV 1 19] [0,1])
.skip))
q4)))
def zlC:AFun:=⟨2,[.t 4],zuo z6p,false,false⟩
def zmU (C:Hd) (gl:GL) (q4:ACode) (v0 v1:AV) (h:Heap) (x:Esc) (K:KT):Prop:=
 C zu6 [v0] h fun t1 h2 y3=>
 pK (oBin .lss v1 (AI 0)) fun t4=>
 gM t4 false v1 h2 fun t5 h6 y7=>
 gM t4 false t1 h6 fun t8 h9 y10=>
 gP t4 false (oBin .gtr t5 t8) h9 fun t11 h12 y13=>
 pK (z0y t4 (AB true) t11) fun t14=>
 z0i t14 (NW C gl q4 ⟨[(0,v0),(1,t1)],h12,(y13++(y10++(y7++(y3++x))))⟩ K)
 (NW C gl q4 ⟨[(0,v0),(1,v1),(5,t1),(18,t14)],h12,(y13++(y10++(y7++(y3++x))))⟩ K)
theorem E_q09e {C gl q4 v0 v1 h x K}:NW C gl (zuo q4) ⟨enter [v0,v1],h,x⟩ K=zmU C gl q4 v0 v1 h x K:=by kernel_rfl
theorem e_q09e {C gl v0 v1 h x K}:NW C gl zlC.body ⟨enter [v0,v1],h,x⟩ K=zmU C gl z6p v0 v1 h x K:=E_q09e
def P_q096:ACode:=(.seq (rg [mV 4 (cI 0)] [0,1])
(.seq (rg [mV 5 0,
mV 6 1,
cL 7 z7d [5,6],
mV 4 7] [4])
.ret))
def zl8:AFun:=⟨2,[.t 4],P_q096,false,false⟩
def zmQ (C:Hd) (gl:GL) (v0 v1:AV) (h:Heap) (x:Esc) (K:KT):Prop:=
 C z7d [v0,v1] h fun t1 h2 y3=>
 K .ret ⟨[(4,t1)],h2,(y3++x)⟩
theorem e_q096 {C gl v0 v1 h x K}:NW C gl zl8.body ⟨enter [v0,v1],h,x⟩ K=zmQ C gl v0 v1 h x K:=by kernel_rfl
def P_q02c:ACode:=(.seq (rg [uO 2 (.box 0),
mV 4 cF] [1,2])
(.seq (rg [mV 5 1,
fA 6 1 none 2,
lD 7 none 6,
fA 8 2 none 2,
lD 9 none 8,
cL 10 z2k [5,7,9],
uO 11 (.un .not 10),
mV 4 11] [4])
.ret))
def zk6:AFun:=⟨2,[.t 4],P_q02c,false,false⟩
def zm2 (C:Hd) (gl:GL) (v0 v1:AV) (h:Heap) (x:Esc) (K:KT):Prop:=
 wK (oBox v0 h) fun t1 h2 y3=>
 pK (z0j 1 none t1) fun t4=>
 pK (z0g none t4 h2) fun t5=>
 pK (z0j 2 none t1) fun t6=>
 pK (z0g none t6 h2) fun t7=>
 C z2k [v1,t5,t7] h2 fun t8 h9 y10=>
 pK (oUn .not t8) fun t11=>
 K .ret ⟨[(4,t11)],h9,(y10++(y3++x))⟩
theorem e_q02c {C gl v0 v1 h x K}:NW C gl zk6.body ⟨enter [v0,v1],h,x⟩ K=zm2 C gl v0 v1 h x K:=by kernel_rfl
def P_q029:ACode:=(.seq (rg [uO 3 (.box 1),
mV 4 (cI 0)] [0,3])
(.seq (rg [fA 6 3 none 3,
lD 7 none 6,
lN 8 7,
bN 9 .sub 8 (cI 1),
mV 5 9] [0,3,5])
(.seq (.seq (dr [dF (mV 10 0) [0],
dF (mV 11 5) [5],
dF (iA 12 (some 4) 10 11) [10,11],
dF (lD 13 (some 4) 12) [12],
dF (fA 14 3 none 3) [3],
dF (lD 15 none 14) [14],
dF (mV 16 5) [5],
dF (iA 17 none 15 16) [15,16],
dF (lD 18 none 17) [17],
dT (cL 19 z7f [13,18]) [13,18]] [5,19])
(.cond 19 (.seq (rg [mV 4 (cI (-1))] [4])
.ret)
.skip))
(.seq (rg [mV 20 5,
mV 4 20] [4])
.ret))))
def zk3:AFun:=⟨2,[.t 4],P_q029,false,false⟩
def zgH (C:Hd) (gl:GL) (v0 v1:AV) (h:Heap) (x:Esc) (K:KT):Prop:=
 wK (oBox v1 h) fun t1 h2 y3=>
 pK (z0j 3 none t1) fun t4=>
 pK (z0g none t4 h2) fun t5=>
 pK (oLen t5) fun t6=>
 pK (oBin .sub t6 (AI 1)) fun t7=>
 pK (z0p (some 4) v0 t7 h2) fun t8=>
 pK (z0g (some 4) t8 h2) fun t9=>
 pK (z0j 3 none t1) fun t10=>
 pK (z0g none t10 h2) fun t11=>
 pK (z0p none t11 t7 h2) fun t12=>
 pK (z0g none t12 h2) fun t13=>
 z1Q C z7f [t9,t13] h2 fun t14 h15 y16=>
 z0i t14 (K .ret ⟨[(4,(AI (-1)))],h15,(y16++(y3++x))⟩)
 (K .ret ⟨[(4,t7)],h15,(y16++(y3++x))⟩)
theorem e_q029 {C gl v0 v1 h x K}:NW C gl zk3.body ⟨enter [v0,v1],h,x⟩ K=zgH C gl v0 v1 h x K:=by kernel_rfl
def z9g:ACode:=.pr [0,1,5,6,7,8,9,10] (.seq (.seq (rg [mV 78 0,
mV 79 8,
bN 80 .add 79 (cI 1),
uO 81 (.idxs 78 80),
mV 82 7,
bN 83 .eql 81 82,
mV 84 83,
gD 85 84 true (.mv 0),
gD 86 84 true (.mv 8),
gD 87 84 true (.mv 8),
gD 88 84 true (.mv 5),
gD 89 84 true (.bin .add 87 88),
gD 90 84 true (.slstr 85 (some 86) (some 89)),
gD 91 84 true (.mv 1),
gD 92 84 true (.bin .eql 90 91),
uO 93 (.pick 84 92 cF)] [0,1,5,6,7,8,9,10,93])
(.cond 93 (.seq (rg [mV 94 8,
mV 4 94] [4])
.ret)
.skip))
(.seq (rg [mV 95 8,
bN 96 .add 95 (cI 1),
mV 8 96] [0,1,5,6,7,8,9,10])
(.seq (rg [mV 97 10,
bN 98 .add 97 (cI 1),
mV 10 98] [0,1,5,6,7,8,9,10])
(.seq (rg [mV 99 5,
lD 100 none (.g 0),
bN 101 .leq 99 100,
mV 102 101,
gD 103 102 true (.mv 10),
gD 104 102 true (.mv 8),
gD 105 102 true (.call zey [104]),
gD 106 102 true (.bin .gtr 103 105),
uO 107 (.pick 102 106 cF)] [0,1,5,6,7,8,9,10,107])
(.cond 107 (.seq (rg [mV 108 0,
mV 109 8,
uO 110 (.slstr 108 (some 109) none),
mV 111 1,
cL 112 z03 [110,111],
mV 12 112] [8,12])
(.seq (.seq (rg [mV 113 12,
bN 114 .geq 113 (cI 0)] [8,12,114])
(.cond 114 (.seq (rg [mV 115 12,
mV 116 8,
bN 117 .add 115 116,
mV 4 117] [4])
.ret)
.skip))
(.seq (rg [mV 4 (cI (-1))] [4])
.ret)))
(.seq (rg [mV 118 5,
lD 119 none (.g 0),
bN 120 .gtr 118 119,
mV 121 120,
gD 122 121 true (.mv 10),
gD 123 121 true (.mv 8),
gD 124 121 true (.bin .shr 123 (.c (.p (.int .u64 4)))),
gD 125 121 true (.bin .add (cI 4) 124),
gD 126 121 true (.bin .geq 122 125),
uO 127 (.pick 121 126 cF),
mV 128 127,
gD 129 128 true (.mv 8),
gD 130 128 true (.mv 9),
gD 131 128 true (.bin .lss 129 130),
uO 132 (.pick 128 131 cF)] [0,1,5,6,7,8,9,10,132])
(.cond 132 (.seq (rg [mV 133 0,
mV 134 8,
uO 135 (.slstr 133 (some 134) none),
mV 136 1,
cL 137 zez [135,136],
mV 13 137] [8,13])
(.seq (.seq (rg [mV 138 13,
bN 139 .lss 138 (cI 0)] [8,13,139])
(.cond 139 (.seq (rg [mV 4 (cI (-1))] [4])
.ret)
.skip))
(.seq (rg [mV 140 8,
mV 141 13,
bN 142 .add 140 141,
mV 4 142] [4])
.ret)))
.skip)))))))
def zdh (C:Hd) (gl:GL) (v0 v1 v5 v6 v7 v8 v9 v10:AV) (h:Heap) (x:Esc) (K:KT):Prop:=
 pK (oBin .add v8 (AI 1)) fun t1=>
 pK (z1D v0 t1) fun t2=>
 pK (oBin .eql t2 v7) fun t3=>
 gM t3 true v0 h fun t4 h5 y6=>
 gM t3 true v8 h5 fun t7 h8 y9=>
 gM t3 true v8 h8 fun t10 h11 y12=>
 gM t3 true v5 h11 fun t13 h14 y15=>
 gP t3 true (oBin .add t10 t13) h14 fun t16 h17 y18=>
 gP t3 true (z1h t4 (some t7) (some t16)) h17 fun t19 h20 y21=>
 gM t3 true v1 h20 fun t22 h23 y24=>
 gP t3 true (oBin .eql t19 t22) h23 fun t25 h26 y27=>
 pK (z0y t3 t25 (AB false)) fun t28=>
 z0i t28 (K .ret ⟨[(4,v8)],h26,(y27++(y24++(y21++(y18++(y15++(y12++(y9++(y6++x))))))))⟩)
 (pK (oBin .add v8 (AI 1)) fun t29=>
 pK (oBin .add v10 (AI 1)) fun t30=>
 pK (z0g none (gv gl 0) h26) fun t31=>
 pK (oBin .leq v5 t31) fun t32=>
 gM t32 true t30 h26 fun t33 h34 y35=>
 gM t32 true t29 h34 fun t36 h37 y38=>
 gV t32 true h37 (C zey [t36] h37) fun t39 h40 y41=>
 gP t32 true (oBin .gtr t33 t39) h40 fun t42 h43 y44=>
 pK (z0y t32 t42 (AB false)) fun t45=>
 z0i t45 (pK (z1h v0 (some t29) none) fun t46=>
 C z03 [t46,v1] h43 fun t47 h48 y49=>
 pK (oBin .geq t47 (AI 0)) fun t50=>
 z0i t50 (pK (oBin .add t47 t29) fun t51=>
 K .ret ⟨[(4,t51)],h48,(y49++(y44++(y41++(y38++(y35++(y27++(y24++(y21++(y18++(y15++(y12++(y9++(y6++x)))))))))))))⟩)
 (K .ret ⟨[(4,(AI (-1)))],h48,(y49++(y44++(y41++(y38++(y35++(y27++(y24++(y21++(y18++(y15++(y12++(y9++(y6++x)))))))))))))⟩))
 (pK (z0g none (gv gl 0) h43) fun t52=>
 pK (oBin .gtr v5 t52) fun t53=>
 gM t53 true t30 h43 fun t54 h55 y56=>
 gM t53 true t29 h55 fun t57 h58 y59=>
 gP t53 true (oBin .shr t57 (.p (.int .u64 4))) h58 fun t60 h61 y62=>
 gP t53 true (oBin .add (AI 4) t60) h61 fun t63 h64 y65=>
 gP t53 true (oBin .geq t54 t63) h64 fun t66 h67 y68=>
 pK (z0y t53 t66 (AB false)) fun t69=>
 gM t69 true t29 h67 fun t70 h71 y72=>
 gM t69 true v9 h71 fun t73 h74 y75=>
 gP t69 true (oBin .lss t70 t73) h74 fun t76 h77 y78=>
 pK (z0y t69 t76 (AB false)) fun t79=>
 z0i t79 (pK (z1h v0 (some t29) none) fun t80=>
 C zez [t80,v1] h77 fun t81 h82 y83=>
 pK (oBin .lss t81 (AI 0)) fun t84=>
 z0i t84 (K .ret ⟨[(4,(AI (-1)))],h82,(y83++(y78++(y75++(y72++(y68++(y65++(y62++(y59++(y56++(y44++(y41++(y38++(y35++(y27++(y24++(y21++(y18++(y15++(y12++(y9++(y6++x)))))))))))))))))))))⟩)
 (pK (oBin .add t29 t81) fun t85=>
 K .ret ⟨[(4,t85)],h82,(y83++(y78++(y75++(y72++(y68++(y65++(y62++(y59++(y56++(y44++(y41++(y38++(y35++(y27++(y24++(y21++(y18++(y15++(y12++(y9++(y6++x)))))))))))))))))))))⟩))
 (K .normal ⟨[(0,v0),(1,v1),(5,v5),(6,v6),(7,v7),(8,t29),(9,v9),(10,t30),(132,t79)],h77,(y78++(y75++(y72++(y68++(y65++(y62++(y59++(y56++(y44++(y41++(y38++(y35++(y27++(y24++(y21++(y18++(y15++(y12++(y9++(y6++x))))))))))))))))))))⟩)))
theorem zn3 {C gl e h x K}:NW C gl z9g ⟨e,h,x⟩ K=zdh C gl (aget e 0) (aget e 1) (aget e 5) (aget e 6) (aget e 7) (aget e 8) (aget e 9) (aget e 10) h x K:=by kernel_rfl
def zcz (q1:ACode):ACode:=.pr [0,1,5,6,7,8,9,10] (.seq (.seq (rg [mV 57 8,
mV 58 9,
bN 59 .lss 57 58] [0,1,5,6,7,8,9,10,59])
(.cond 59 .skip
(.exit 1)))
(.block 2 (.seq (.seq (rg [mV 60 0,
mV 61 8,
uO 62 (.idxs 60 61),
mV 63 6,
bN 64 .neq 62 63] [0,1,5,6,7,8,9,10,64])
(.cond 64 (.seq (rg [mV 65 0,
mV 66 8,
bN 67 .add 66 (cI 1),
mV 68 9,
uO 69 (.slstr 65 (some 67) (some 68)),
mV 70 6,
cL 71 z3S [69,70],
mV 11 71] [0,1,5,6,7,8,9,10,11])
(.seq (.seq (rg [mV 72 11,
bN 73 .lss 72 (cI 0)] [0,1,5,6,7,8,9,10,11,73])
(.cond 73 (.seq (rg [mV 4 (cI (-1))] [4])
.ret)
.skip))
(rg [mV 74 8,
mV 75 11,
bN 76 .add 75 (cI 1),
bN 77 .add 74 76,
mV 8 77] [0,1,5,6,7,8,9,10])))
.skip))
q1)))
def z2T:ACode:=zcz z9g
def z8j (C:Hd) (gl:GL) (q1:ACode) (v0 v1 v5 v6 v7 v8 v9 v10:AV) (h:Heap) (x:Esc) (K:KT):Prop:=
 pK (oBin .lss v8 v9) fun t1=>
 z0i t1 (pK (z1D v0 v8) fun t2=>
 pK (oBin .neq t2 v6) fun t3=>
 z0i t3 (pK (oBin .add v8 (AI 1)) fun t4=>
 pK (z1h v0 (some t4) (some v9)) fun t5=>
 C z3S [t5,v6] h fun t6 h7 y8=>
 pK (oBin .lss t6 (AI 0)) fun t9=>
 z0i t9 (K .ret ⟨[(4,(AI (-1)))],h7,(y8++x)⟩)
 (pK (oBin .add t6 (AI 1)) fun t10=>
 pK (oBin .add v8 t10) fun t11=>
 NW C gl q1 ⟨[(0,v0),(1,v1),(5,v5),(6,v6),(7,v7),(8,t11),(9,v9),(10,v10)],h7,(y8++x)⟩ (z0q 2 K)))
 (NW C gl q1 ⟨[(0,v0),(1,v1),(5,v5),(6,v6),(7,v7),(8,v8),(9,v9),(10,v10),(64,t3)],h,x⟩ (z0q 2 K)))
 (K (.exit 1) ⟨[(0,v0),(1,v1),(5,v5),(6,v6),(7,v7),(8,v8),(9,v9),(10,v10),(59,t1)],h,x⟩)
theorem zjE {C gl q1 e h x K}:NW C gl (zcz q1) ⟨e,h,x⟩ K=z8j C gl q1 (aget e 0) (aget e 1) (aget e 5) (aget e 6) (aget e 7) (aget e 8) (aget e 9) (aget e 10) h x K:=by kernel_rfl
theorem zn4 {C gl e h x K}:NW C gl z2T ⟨e,h,x⟩ K=z8j C gl z9g (aget e 0) (aget e 1) (aget e 5) (aget e 6) (aget e 7) (aget e 8) (aget e 9) (aget e 10) h x K:=zjE
theorem zpu {C gl e h x K}:NW C gl (.loop z2T) ⟨e,h,x⟩ K=z0N C gl z2T K [(0,aget e 0),(1,aget e 1),(5,aget e 5),(6,aget e 6),(7,aget e 7),(8,aget e 8),(9,aget e 9),(10,aget e 10)] h x:=z0x
def z5P:ACode:=.pr [] (.seq (rg [mV 4 (cI (-1))] [4])
.ret)
def zdi (C:Hd) (gl:GL) (h:Heap) (x:Esc) (K:KT):Prop:=
 K .ret ⟨[(4,(AI (-1)))],h,x⟩
theorem zn5 {C gl e h x K}:NW C gl z5P ⟨e,h,x⟩ K=zdi C gl h x K:=by kernel_rfl
def ztM (q2 q3:ACode):ACode:=(.seq (rg [mV 4 (cI 0)] [0,1])
(.seq (rg [mV 14 1,
uO 15 (.lens 14),
mV 5 15] [0,1,5])
(.seq (.block 0 (.seq (rg [mV 17 5,
bN 18 .eql 17 (cI 0),
mV 19 18,
gD 20 19 false (.mv 1),
gD 21 19 false (.mv 0),
gD 22 19 false (.bin .eql 20 21),
uO 23 (.pick 19 cT 22),
mV 16 23] [0,1,5,16])
(.cond 16 (.seq (rg [mV 4 (cI 0)] [4])
.ret)
(.seq (rg [mV 25 5,
bN 26 .eql 25 (cI 1),
mV 24 26] [0,1,5,24])
(.cond 24 (.seq (rg [mV 27 0,
mV 28 1,
uO 29 (.idxs 28 (cI 0)),
cL 30 z3S [27,29],
mV 4 30] [4])
.ret)
(.seq (rg [mV 32 5,
mV 33 0,
uO 34 (.lens 33),
bN 35 .geq 32 34,
mV 31 35] [0,1,5,31])
(.cond 31 (.seq (rg [mV 4 (cI (-1))] [4])
.ret)
(.seq (rg [mV 37 5,
lD 38 none (.g 0),
bN 39 .leq 37 38,
mV 40 39,
gD 41 40 true (.mv 0),
gD 42 40 true (.lens 41),
gD 43 40 true (.bin .leq 42 (cI 64)),
uO 44 (.pick 40 43 cF),
mV 36 44] [0,1,5,36])
(.cond 36 (.seq (rg [mV 45 0,
mV 46 1,
cL 47 z03 [45,46],
mV 4 47] [4])
.ret)
.skip)))))))))
(.seq (rg [mV 48 1,
uO 49 (.idxs 48 (cI 0)),
mV 6 49] [0,1,5,6])
(.seq (rg [mV 50 1,
uO 51 (.idxs 50 (cI 1)),
mV 7 51] [0,1,5,6,7])
(.seq (rg [mV 8 (cI 0)] [0,1,5,6,7,8])
(.seq (rg [mV 52 0,
uO 53 (.lens 52),
mV 54 5,
bN 55 .sub 53 54,
bN 56 .add 55 (cI 1),
mV 9 56] [0,1,5,6,7,8,9])
(.seq (rg [mV 10 (cI 0)] [0,1,5,6,7,8,9,10])
(.seq (.block 1 (.loop q2))
q3)))))))))
def zks:AFun:=⟨2,[.t 4],ztM z2T z5P,false,false⟩
def zgC (C:Hd) (gl:GL) (q2 q3:ACode) (v0 v1:AV) (h:Heap) (x:Esc) (K:KT):Prop:=
 pK (z1g v1) fun t1=>
 pK (oBin .eql t1 (AI 0)) fun t2=>
 gM t2 false v1 h fun t3 h4 y5=>
 gM t2 false v0 h4 fun t6 h7 y8=>
 gP t2 false (oBin .eql t3 t6) h7 fun t9 h10 y11=>
 pK (z0y t2 (AB true) t9) fun t12=>
 z0i t12 (K .ret ⟨[(4,(AI 0))],h10,(y11++(y8++(y5++x)))⟩)
 (pK (oBin .eql t1 (AI 1)) fun t13=>
 z0i t13 (pK (z1D v1 (AI 0)) fun t14=>
 C z3S [v0,t14] h10 fun t15 h16 y17=>
 K .ret ⟨[(4,t15)],h16,(y17++(y11++(y8++(y5++x))))⟩)
 (pK (z1g v0) fun t18=>
 pK (oBin .geq t1 t18) fun t19=>
 z0i t19 (K .ret ⟨[(4,(AI (-1)))],h10,(y11++(y8++(y5++x)))⟩)
 (pK (z0g none (gv gl 0) h10) fun t20=>
 pK (oBin .leq t1 t20) fun t21=>
 gM t21 true v0 h10 fun t22 h23 y24=>
 gP t21 true (z1g t22) h23 fun t25 h26 y27=>
 gP t21 true (oBin .leq t25 (AI 64)) h26 fun t28 h29 y30=>
 pK (z0y t21 t28 (AB false)) fun t31=>
 z0i t31 (C z03 [v0,v1] h29 fun t32 h33 y34=>
 K .ret ⟨[(4,t32)],h33,(y34++(y30++(y27++(y24++(y11++(y8++(y5++x)))))))⟩)
 (pK (z1D v1 (AI 0)) fun t35=>
 pK (z1D v1 (AI 1)) fun t36=>
 pK (z1g v0) fun t37=>
 pK (oBin .sub t37 t1) fun t38=>
 pK (oBin .add t38 (AI 1)) fun t39=>
 NW C gl (.loop q2) ⟨[(0,v0),(1,v1),(5,t1),(6,t35),(7,t36),(8,(AI 0)),(9,t39),(10,(AI 0))],h29,(y30++(y27++(y24++(y11++(y8++(y5++x))))))⟩ (z0q 1 (seqN C gl q3 K))))))
theorem E_q01y {C gl q2 q3 v0 v1 h x K}:NW C gl (ztM q2 q3) ⟨enter [v0,v1],h,x⟩ K=zgC C gl q2 q3 v0 v1 h x K:=by kernel_rfl
theorem e_q01y {C gl v0 v1 h x K}:NW C gl zks.body ⟨enter [v0,v1],h,x⟩ K=zgC C gl z2T z5P v0 v1 h x K:=E_q01y
def P_q01w:ACode:=(.seq (rg [mV 4 cF] [0,1])
(.seq (rg [mV 5 0,
uO 6 (.lens 5),
mV 7 1,
uO 8 (.lens 7),
bN 9 .geq 6 8,
mV 10 9,
gD 11 10 true (.mv 0),
gD 12 10 true (.mv 1),
gD 13 10 true (.lens 12),
gD 14 10 true (.slstr 11 none (some 13)),
gD 15 10 true (.mv 1),
gD 16 10 true (.bin .eql 14 15),
uO 17 (.pick 10 16 cF),
mV 4 17] [4])
.ret))
def zkq:AFun:=⟨2,[.t 4],P_q01w,false,false⟩
def zgA (C:Hd) (gl:GL) (v0 v1:AV) (h:Heap) (x:Esc) (K:KT):Prop:=
 pK (z1g v0) fun t1=>
 pK (z1g v1) fun t2=>
 pK (oBin .geq t1 t2) fun t3=>
 gM t3 true v0 h fun t4 h5 y6=>
 gM t3 true v1 h5 fun t7 h8 y9=>
 gP t3 true (z1g t7) h8 fun t10 h11 y12=>
 gP t3 true (z1h t4 none (some t10)) h11 fun t13 h14 y15=>
 gM t3 true v1 h14 fun t16 h17 y18=>
 gP t3 true (oBin .eql t13 t16) h17 fun t19 h20 y21=>
 pK (z0y t3 t19 (AB false)) fun t22=>
 K .ret ⟨[(4,t22)],h20,(y21++(y18++(y15++(y12++(y9++(y6++x))))))⟩
theorem e_q01w {C gl v0 v1 h x K}:NW C gl zkq.body ⟨enter [v0,v1],h,x⟩ K=zgA C gl v0 v1 h x K:=by kernel_rfl
def P_q01z:ACode:=(.seq (rg [mV 4 (cI 0)] [0,1])
(.seq (rg [mV 5 0,
mV 6 1,
cL 7 z0l [5,6],
mV 4 7] [4])
.ret))
def zkt:AFun:=⟨2,[.t 4],P_q01z,false,false⟩
def zgD (C:Hd) (gl:GL) (v0 v1:AV) (h:Heap) (x:Esc) (K:KT):Prop:=
 C z0l [v0,v1] h fun t1 h2 y3=>
 K .ret ⟨[(4,t1)],h2,(y3++x)⟩
theorem e_q01z {C gl v0 v1 h x K}:NW C gl zkt.body ⟨enter [v0,v1],h,x⟩ K=zgD C gl v0 v1 h x K:=by kernel_rfl
def P_q01x:ACode:=(.seq (rg [mV 4 cF] [0,1])
(.seq (rg [mV 5 0,
uO 6 (.lens 5),
mV 7 1,
uO 8 (.lens 7),
bN 9 .geq 6 8,
mV 10 9,
gD 11 10 true (.mv 0),
gD 12 10 true (.mv 0),
gD 13 10 true (.lens 12),
gD 14 10 true (.mv 1),
gD 15 10 true (.lens 14),
gD 16 10 true (.bin .sub 13 15),
gD 17 10 true (.slstr 11 (some 16) none),
gD 18 10 true (.mv 1),
gD 19 10 true (.bin .eql 17 18),
uO 20 (.pick 10 19 cF),
mV 4 20] [4])
.ret))
def zkr:AFun:=⟨2,[.t 4],P_q01x,false,false⟩
def zgB (C:Hd) (gl:GL) (v0 v1:AV) (h:Heap) (x:Esc) (K:KT):Prop:=
 pK (z1g v0) fun t1=>
 pK (z1g v1) fun t2=>
 pK (oBin .geq t1 t2) fun t3=>
 gM t3 true v0 h fun t4 h5 y6=>
 gM t3 true v0 h5 fun t7 h8 y9=>
 gP t3 true (z1g t7) h8 fun t10 h11 y12=>
 gM t3 true v1 h11 fun t13 h14 y15=>
 gP t3 true (z1g t13) h14 fun t16 h17 y18=>
 gP t3 true (oBin .sub t10 t16) h17 fun t19 h20 y21=>
 gP t3 true (z1h t4 (some t19) none) h20 fun t22 h23 y24=>
 gM t3 true v1 h23 fun t25 h26 y27=>
 gP t3 true (oBin .eql t22 t25) h26 fun t28 h29 y30=>
 pK (z0y t3 t28 (AB false)) fun t31=>
 K .ret ⟨[(4,t31)],h29,(y30++(y27++(y24++(y21++(y18++(y15++(y12++(y9++(y6++x)))))))))⟩
theorem e_q01x {C gl v0 v1 h x K}:NW C gl zkr.body ⟨enter [v0,v1],h,x⟩ K=zgB C gl v0 v1 h x K:=by kernel_rfl
def P_q09u:ACode:=(.seq (rg [mV 2 (.c (.p (.int .i32 0))),
mV 3 (cI 0)] [0])
(.seq (.seq (rg [mV 4 0,
bN 5 .neq 4 (cS []),
mV 6 5,
gD 7 6 true (.mv 0),
gD 8 6 true (.idxs 7 (cI 0)),
gD 9 6 true (.bin .lss 8 (.c (.p (.int .u8 128)))),
uO 10 (.pick 6 9 cF)] [0,10])
(.cond 10 (.seq (rg [mV 11 0,
uO 12 (.idxs 11 (cI 0)),
uO 13 (.conv (.i .i32) 12),
mV 2 13,
mV 3 (cI 1)] [2,3])
.ret)
(rg [mV 15 0,
cL 16 ze3 [15],
mV 14 16,
eX 17 14 0,
eX 18 14 1,
mV 2 17,
mV 3 18] [2,3])))
.ret))
def zlE:AFun:=⟨1,[.t 2,.t 3],P_q09u,false,false⟩
def zu2 (C:Hd) (gl:GL) (v0:AV) (h:Heap) (x:Esc) (K:KT):Prop:=
 pK (oBin .neq v0 (.p (.str []))) fun t1=>
 gM t1 true v0 h fun t2 h3 y4=>
 gP t1 true (z1D t2 (AI 0)) h3 fun t5 h6 y7=>
 gP t1 true (oBin .lss t5 (.p (.int .u8 128))) h6 fun t8 h9 y10=>
 pK (z0y t1 t8 (AB false)) fun t11=>
 z0i t11 (pK (z1D v0 (AI 0)) fun t12=>
 pK (z1y .i32 t12) fun t13=>
 K .ret ⟨[(2,t13),(3,(AI 1))],h9,(y10++(y7++(y4++x)))⟩)
 (C ze3 [v0] h9 fun t14 h15 y16=>
 pK (oExt t14 0) fun t17=>
 pK (oExt t14 1) fun t18=>
 K .ret ⟨[(2,t17),(3,t18)],h15,(y16++(y10++(y7++(y4++x))))⟩)
theorem e_q09u {C gl v0 h x K}:NW C gl zlE.body ⟨enter [v0],h,x⟩ K=zu2 C gl v0 h x K:=by kernel_rfl
def P_q01c:ACode:=(.seq (rg [mV 2 (cI 0)] [0])
(.seq (rg [mV 3 0,
bN 4 .add 3 (cI 16),
bN 5 .quo 4 (cI 8),
mV 2 5] [2])
.ret))
def zkl:AFun:=⟨1,[.t 2],P_q01c,false,false⟩
def zu1 (C:Hd) (gl:GL) (v0:AV) (h:Heap) (x:Esc) (K:KT):Prop:=
 pK (oBin .add v0 (AI 16)) fun t1=>
 pK (oBin .quo t1 (AI 8)) fun t2=>
 K .ret ⟨[(2,t2)],h,x⟩
theorem e_q01c {C gl v0 h x K}:NW C gl zkl.body ⟨enter [v0],h,x⟩ K=zu1 C gl v0 h x K:=by kernel_rfl
def z2R:ACode:=.pr [0,1,5,6,7,8,9] (.seq (.seq (rg [mV 18 9,
mV 19 7,
bN 20 .lss 18 19] [0,1,5,6,7,8,9,20])
(.cond 20 .skip
(.exit 0)))
(.seq (.block 1 (rg [mV 23 8,
bN 24 .mul 23 (.c (.p (.int .u32 16777619))),
mV 25 0,
mV 26 9,
uO 27 (.idxs 25 26),
uO 28 (.conv (.i .u32) 27),
bN 29 .add 24 28,
mV 8 29] [0,1,5,6,7,8,9]))
(rg [mV 21 9,
bN 22 .add 21 (cI 1),
mV 9 22] [0,1,5,6,7,8,9])))
def zda (C:Hd) (gl:GL) (v0 v1 v5 v6 v7 v8 v9:AV) (h:Heap) (x:Esc) (K:KT):Prop:=
 pK (oBin .lss v9 v7) fun t1=>
 z0i t1 (pK (oBin .mul v8 (.p (.int .u32 16777619))) fun t2=>
 pK (z1D v0 v9) fun t3=>
 pK (z1y .u32 t3) fun t4=>
 pK (oBin .add t2 t4) fun t5=>
 pK (oBin .add v9 (AI 1)) fun t6=>
 K .normal ⟨[(0,v0),(1,v1),(5,v5),(6,v6),(7,v7),(8,t5),(9,t6)],h,x⟩)
 (K (.exit 0) ⟨[(0,v0),(1,v1),(5,v5),(6,v6),(7,v7),(8,v8),(9,v9),(20,t1)],h,x⟩)
theorem znt {C gl e h x K}:NW C gl z2R ⟨e,h,x⟩ K=zda C gl (aget e 0) (aget e 1) (aget e 5) (aget e 6) (aget e 7) (aget e 8) (aget e 9) h x K:=by kernel_rfl
theorem zpq {C gl e h x K}:NW C gl (.loop z2R) ⟨e,h,x⟩ K=z0N C gl z2R K [(0,aget e 0),(1,aget e 1),(5,aget e 5),(6,aget e 6),(7,aget e 7),(8,aget e 8),(9,aget e 9)] h x:=z0x
def z4c:ACode:=.pr [0,1,5,6,7,8,10] (.seq (.seq (rg [mV 41 10,
mV 42 0,
uO 43 (.lens 42),
bN 44 .lss 41 43] [0,1,5,6,7,8,10,44])
(.cond 44 .skip
(.exit 2)))
(.block 3 (.seq (rg [mV 45 8,
bN 46 .mul 45 (.c (.p (.int .u32 16777619))),
mV 8 46] [0,1,5,6,7,8,10])
(.seq (rg [mV 47 8,
mV 48 0,
mV 49 10,
uO 50 (.idxs 48 49),
uO 51 (.conv (.i .u32) 50),
bN 52 .add 47 51,
mV 8 52] [0,1,5,6,7,8,10])
(.seq (rg [mV 53 8,
mV 54 6,
mV 55 0,
mV 56 10,
mV 57 7,
bN 58 .sub 56 57,
uO 59 (.idxs 55 58),
uO 60 (.conv (.i .u32) 59),
bN 61 .mul 54 60,
bN 62 .sub 53 61,
mV 8 62] [0,1,5,6,7,8,10])
(.seq (rg [mV 63 10,
bN 64 .add 63 (cI 1),
mV 10 64] [0,1,5,6,7,8,10])
(.seq (rg [mV 65 8,
mV 66 5,
bN 67 .eql 65 66,
mV 68 67,
gD 69 68 true (.mv 0),
gD 70 68 true (.mv 10),
gD 71 68 true (.mv 7),
gD 72 68 true (.bin .sub 70 71),
gD 73 68 true (.mv 10),
gD 74 68 true (.slstr 69 (some 72) (some 73)),
gD 75 68 true (.mv 1),
gD 76 68 true (.bin .eql 74 75),
uO 77 (.pick 68 76 cF)] [0,1,5,6,7,8,10,77])
(.cond 77 (.seq (rg [mV 78 10,
mV 79 7,
bN 80 .sub 78 79,
mV 4 80] [4])
.ret)
.skip))))))))
def zdb (C:Hd) (gl:GL) (v0 v1 v5 v6 v7 v8 v10:AV) (h:Heap) (x:Esc) (K:KT):Prop:=
 pK (z1g v0) fun t1=>
 pK (oBin .lss v10 t1) fun t2=>
 z0i t2 (pK (oBin .mul v8 (.p (.int .u32 16777619))) fun t3=>
 pK (z1D v0 v10) fun t4=>
 pK (z1y .u32 t4) fun t5=>
 pK (oBin .add t3 t5) fun t6=>
 pK (oBin .sub v10 v7) fun t7=>
 pK (z1D v0 t7) fun t8=>
 pK (z1y .u32 t8) fun t9=>
 pK (oBin .mul v6 t9) fun t10=>
 pK (oBin .sub t6 t10) fun t11=>
 pK (oBin .add v10 (AI 1)) fun t12=>
 pK (oBin .eql t11 v5) fun t13=>
 gM t13 true v0 h fun t14 h15 y16=>
 gM t13 true t12 h15 fun t17 h18 y19=>
 gM t13 true v7 h18 fun t20 h21 y22=>
 gP t13 true (oBin .sub t17 t20) h21 fun t23 h24 y25=>
 gM t13 true t12 h24 fun t26 h27 y28=>
 gP t13 true (z1h t14 (some t23) (some t26)) h27 fun t29 h30 y31=>
 gM t13 true v1 h30 fun t32 h33 y34=>
 gP t13 true (oBin .eql t29 t32) h33 fun t35 h36 y37=>
 pK (z0y t13 t35 (AB false)) fun t38=>
 z0i t38 (pK (oBin .sub t12 v7) fun t39=>
 K .ret ⟨[(4,t39)],h36,(y37++(y34++(y31++(y28++(y25++(y22++(y19++(y16++x))))))))⟩)
 (K .normal ⟨[(0,v0),(1,v1),(5,v5),(6,v6),(7,v7),(8,t11),(10,t12),(77,t38)],h36,(y37++(y34++(y31++(y28++(y25++(y22++(y19++(y16++x))))))))⟩))
 (K (.exit 2) ⟨[(0,v0),(1,v1),(5,v5),(6,v6),(7,v7),(8,v8),(10,v10),(44,t2)],h,x⟩)
theorem znu {C gl e h x K}:NW C gl z4c ⟨e,h,x⟩ K=zdb C gl (aget e 0) (aget e 1) (aget e 5) (aget e 6) (aget e 7) (aget e 8) (aget e 10) h x K:=by kernel_rfl
theorem zpr {C gl e h x K}:NW C gl (.loop z4c) ⟨e,h,x⟩ K=z0N C gl z4c K [(0,aget e 0),(1,aget e 1),(5,aget e 5),(6,aget e 6),(7,aget e 7),(8,aget e 8),(10,aget e 10)] h x:=z0x
def z9c:ACode:=.pr [] (.seq (rg [mV 4 (cI (-1))] [4])
.ret)
def zdc (C:Hd) (gl:GL) (h:Heap) (x:Esc) (K:KT):Prop:=
 K .ret ⟨[(4,(AI (-1)))],h,x⟩
theorem znv {C gl e h x K}:NW C gl z9c ⟨e,h,x⟩ K=zdc C gl h x K:=by kernel_rfl
def zcw (q2 q3:ACode):ACode:=.pr [0,1,5,6,7,8] (.seq (.seq (rg [mV 30 8,
mV 31 5,
bN 32 .eql 30 31,
mV 33 32,
gD 34 33 true (.mv 0),
gD 35 33 true (.mv 7),
gD 36 33 true (.slstr 34 none (some 35)),
gD 37 33 true (.mv 1),
gD 38 33 true (.bin .eql 36 37),
uO 39 (.pick 33 38 cF)] [0,1,5,6,7,8,39])
(.cond 39 (.seq (rg [mV 4 (cI 0)] [4])
.ret)
.skip))
(.seq (.seq (rg [mV 40 7,
mV 10 40] [0,1,5,6,7,8,10])
(.block 2 (.loop q2)))
q3))
def z5N:ACode:=zcw z4c z9c
def z8g (C:Hd) (gl:GL) (q2 q3:ACode) (v0 v1 v5 v6 v7 v8:AV) (h:Heap) (x:Esc) (K:KT):Prop:=
 pK (oBin .eql v8 v5) fun t1=>
 gM t1 true v0 h fun t2 h3 y4=>
 gM t1 true v7 h3 fun t5 h6 y7=>
 gP t1 true (z1h t2 none (some t5)) h6 fun t8 h9 y10=>
 gM t1 true v1 h9 fun t11 h12 y13=>
 gP t1 true (oBin .eql t8 t11) h12 fun t14 h15 y16=>
 pK (z0y t1 t14 (AB false)) fun t17=>
 z0i t17 (K .ret ⟨[(4,(AI 0))],h15,(y16++(y13++(y10++(y7++(y4++x)))))⟩)
 (NW C gl (.loop q2) ⟨[(0,v0),(1,v1),(5,v5),(6,v6),(7,v7),(8,v8),(10,v7)],h15,(y16++(y13++(y10++(y7++(y4++x)))))⟩ (z0q 2 (seqN C gl q3 K)))
theorem zjB {C gl q2 q3 e h x K}:NW C gl (zcw q2 q3) ⟨e,h,x⟩ K=z8g C gl q2 q3 (aget e 0) (aget e 1) (aget e 5) (aget e 6) (aget e 7) (aget e 8) h x K:=by kernel_rfl
theorem znw {C gl e h x K}:NW C gl z5N ⟨e,h,x⟩ K=z8g C gl z4c z9c (aget e 0) (aget e 1) (aget e 5) (aget e 6) (aget e 7) (aget e 8) h x K:=zjB
def ztK (q1 q4:ACode):ACode:=(.seq (rg [mV 4 (cI 0)] [0,1])
(.seq (rg [mV 12 1,
cL 13 ze0 [12],
mV 11 13,
eX 14 11 0,
eX 15 11 1,
mV 5 14,
mV 6 15] [0,1,5,6])
(.seq (rg [mV 16 1,
uO 17 (.lens 16),
mV 7 17] [0,1,5,6,7])
(.seq (rg [mV 8 (.c (.p (.int .u32 0)))] [0,1,5,6,7,8])
(.seq (.seq (rg [mV 9 (cI 0)] [0,1,5,6,7,8,9])
(.block 0 (.loop q1)))
q4)))))
def zkm:AFun:=⟨2,[.t 4],ztK z2R z5N,false,false⟩
def zmw (C:Hd) (gl:GL) (q1 q4:ACode) (v0 v1:AV) (h:Heap) (x:Esc) (K:KT):Prop:=
 C ze0 [v1] h fun t1 h2 y3=>
 pK (oExt t1 0) fun t4=>
 pK (oExt t1 1) fun t5=>
 pK (z1g v1) fun t6=>
 NW C gl (.loop q1) ⟨[(0,v0),(1,v1),(5,t4),(6,t5),(7,t6),(8,(.p (.int .u32 0))),(9,(AI 0))],h2,(y3++x)⟩ (z0q 0 (seqN C gl q4 K))
theorem E_q01d {C gl q1 q4 v0 v1 h x K}:NW C gl (ztK q1 q4) ⟨enter [v0,v1],h,x⟩ K=zmw C gl q1 q4 v0 v1 h x K:=by kernel_rfl
theorem e_q01d {C gl v0 v1 h x K}:NW C gl zkm.body ⟨enter [v0,v1],h,x⟩ K=zmw C gl z2R z5N v0 v1 h x K:=E_q01d
end Go.Am
end
section
/- The functions asv abstract code,and asv formulas over their values: printed by program out of the translation. -/
set_option linter.unusedVariables false
set_option maxRecDepth 100000
namespace Go.Am
def P_q09y:ACode:=(.seq (rg [mV 2 (.c (.p (.int .i32 0))),
mV 3 (cI 0)] [0])
(.seq (rg [mV 13 0,
uO 14 (.lens 13),
mV 4 14] [0,4])
(.seq (.seq (rg [mV 15 4,
bN 16 .lss 15 (cI 1)] [0,4,16])
(.cond 16 (.seq (rg [mV 2 (.c (.p (.int .i32 65533))),
mV 3 (cI 0)] [2,3])
.ret)
.skip))
(.seq (rg [mV 17 0,
uO 18 (.idxs 17 (cI 0)),
mV 5 18] [0,4,5])
(.seq (rg [mV 19 5,
uO 20 (.iaddra 256 none (.g 6) 19),
lD 21 none 20,
mV 6 21] [0,4,5,6])
(.seq (.seq (rg [mV 22 6,
bN 23 .geq 22 (.c (.p (.int .u8 240)))] [0,4,5,6,23])
(.cond 23 (.seq (rg [mV 24 6,
uO 25 (.conv (.i .i32) 24),
bN 26 .shl 25 (.c (.p (.int .u64 31))),
bN 27 .shr 26 (.c (.p (.int .u64 31))),
mV 7 27] [0,7])
(.seq (rg [mV 28 0,
uO 29 (.idxs 28 (cI 0)),
uO 30 (.conv (.i .i32) 29),
mV 31 7,
bN 32 .andNot 30 31,
mV 33 7,
bN 34 .and (.c (.p (.int .i32 65533))) 33,
bN 35 .or 32 34,
mV 2 35,
mV 3 (cI 1)] [2,3])
.ret))
.skip))
(.seq (rg [mV 36 6,
bN 37 .and 36 (.c (.p (.int .u8 7))),
uO 38 (.conv (.i .i64) 37),
mV 8 38] [0,4,5,6,8])
(.seq (rg [mV 39 6,
bN 40 .shr 39 (.c (.p (.int .u64 4))),
uO 41 (.iaddra 16 (some 2) (.g 7) 40),
lD 42 (some 2) 41,
uO 9 (.alloc [.p (.int .u8 0),.p (.int .u8 0)]),
wO (.store (some 2) 9 42)] [0,4,5,8,9])
(.seq (.seq (rg [mV 43 4,
mV 44 8,
bN 45 .lss 43 44] [0,5,8,9,45])
(.cond 45 (.seq (rg [mV 2 (.c (.p (.int .i32 65533))),
mV 3 (cI 1)] [2,3])
.ret)
.skip))
(.seq (rg [mV 46 0,
uO 47 (.idxs 46 (cI 1)),
mV 10 47] [0,5,8,9,10])
(.seq (.seq (rg [mV 48 10,
fA 49 0 none 9,
lD 50 none 49,
bN 51 .lss 48 50,
mV 52 51,
gD 53 52 false (.faddr 1 none 9),
gD 54 52 false (.load none 53),
gD 55 52 false (.mv 10),
gD 56 52 false (.bin .lss 54 55),
uO 57 (.pick 52 cT 56)] [0,5,8,10,57])
(.cond 57 (.seq (rg [mV 2 (.c (.p (.int .i32 65533))),
mV 3 (cI 1)] [2,3])
.ret)
.skip))
(.seq (.seq (rg [mV 58 8,
bN 59 .leq 58 (cI 2)] [0,5,8,10,59])
(.cond 59 (.seq (rg [mV 60 5,
bN 61 .and 60 (.c (.p (.int .u8 31))),
uO 62 (.conv (.i .i32) 61),
bN 63 .shl 62 (.c (.p (.int .u64 6))),
mV 64 10,
bN 65 .and 64 (.c (.p (.int .u8 63))),
uO 66 (.conv (.i .i32) 65),
bN 67 .or 63 66,
mV 2 67,
mV 3 (cI 2)] [2,3])
.ret)
.skip))
(.seq (rg [mV 68 0,
uO 69 (.idxs 68 (cI 2)),
mV 11 69] [0,5,8,10,11])
(.seq (.seq (rg [mV 70 11,
bN 71 .lss 70 (.c (.p (.int .u8 128))),
mV 72 71,
gD 73 72 false (.mv 11),
gD 74 72 false (.bin .lss (.c (.p (.int .u8 191))) 73),
uO 75 (.pick 72 cT 74)] [0,5,8,10,11,75])
(.cond 75 (.seq (rg [mV 2 (.c (.p (.int .i32 65533))),
mV 3 (cI 1)] [2,3])
.ret)
.skip))
(.seq (.seq (rg [mV 76 8,
bN 77 .leq 76 (cI 3)] [0,5,10,11,77])
(.cond 77 (.seq (rg [mV 78 5,
bN 79 .and 78 (.c (.p (.int .u8 15))),
uO 80 (.conv (.i .i32) 79),
bN 81 .shl 80 (.c (.p (.int .u64 12))),
mV 82 10,
bN 83 .and 82 (.c (.p (.int .u8 63))),
uO 84 (.conv (.i .i32) 83),
bN 85 .shl 84 (.c (.p (.int .u64 6))),
bN 86 .or 81 85,
mV 87 11,
bN 88 .and 87 (.c (.p (.int .u8 63))),
uO 89 (.conv (.i .i32) 88),
bN 90 .or 86 89,
mV 2 90,
mV 3 (cI 3)] [2,3])
.ret)
.skip))
(.seq (rg [mV 91 0,
uO 92 (.idxs 91 (cI 3)),
mV 12 92] [5,10,11,12])
(.seq (.seq (rg [mV 93 12,
bN 94 .lss 93 (.c (.p (.int .u8 128))),
mV 95 94,
gD 96 95 false (.mv 12),
gD 97 95 false (.bin .lss (.c (.p (.int .u8 191))) 96),
uO 98 (.pick 95 cT 97)] [5,10,11,12,98])
(.cond 98 (.seq (rg [mV 2 (.c (.p (.int .i32 65533))),
mV 3 (cI 1)] [2,3])
.ret)
.skip))
(.seq (rg [mV 99 5,
bN 100 .and 99 (.c (.p (.int .u8 7))),
uO 101 (.conv (.i .i32) 100),
bN 102 .shl 101 (.c (.p (.int .u64 18))),
mV 103 10,
bN 104 .and 103 (.c (.p (.int .u8 63))),
uO 105 (.conv (.i .i32) 104),
bN 106 .shl 105 (.c (.p (.int .u64 12))),
bN 107 .or 102 106,
mV 108 11,
bN 109 .and 108 (.c (.p (.int .u8 63))),
uO 110 (.conv (.i .i32) 109),
bN 111 .shl 110 (.c (.p (.int .u64 6))),
bN 112 .or 107 111,
mV 113 12,
bN 114 .and 113 (.c (.p (.int .u8 63))),
uO 115 (.conv (.i .i32) 114),
bN 116 .or 112 115,
mV 2 116,
mV 3 (cI 4)] [2,3])
.ret))))))))))))))))))
def zlF:AFun:=⟨1,[.t 2,.t 3],P_q09y,false,false⟩
def zu3 (C:Hd) (gl:GL) (v0:AV) (h:Heap) (x:Esc) (K:KT):Prop:=
 pK (z1g v0) fun t1=>
 pK (oBin .lss t1 (AI 1)) fun t2=>
 z0i t2 (K .ret ⟨[(2,(.p (.int .i32 65533))),(3,(AI 0))],h,x⟩)
 (pK (z1D v0 (AI 0)) fun t3=>
 pK (z9a 256 none (gv gl 6) t3) fun t4=>
 pK (z0g none t4 h) fun t5=>
 pK (oBin .geq t5 (.p (.int .u8 240))) fun t6=>
 z0i t6 (pK (z1y .i32 t5) fun t7=>
 pK (oBin .shl t7 (.p (.int .u64 31))) fun t8=>
 pK (oBin .shr t8 (.p (.int .u64 31))) fun t9=>
 pK (z1D v0 (AI 0)) fun t10=>
 pK (z1y .i32 t10) fun t11=>
 pK (oBin .andNot t11 t9) fun t12=>
 pK (oBin .and (.p (.int .i32 65533)) t9) fun t13=>
 pK (oBin .or t12 t13) fun t14=>
 K .ret ⟨[(2,t14),(3,(AI 1))],h,x⟩)
 (pK (oBin .and t5 (.p (.int .u8 7))) fun t15=>
 pK (z1y .i64 t15) fun t16=>
 pK (oBin .shr t5 (.p (.int .u64 4))) fun t17=>
 pK (z9a 16 (some 2) (gv gl 7) t17) fun t18=>
 pK (z0g (some 2) t18 h) fun t19=>
 alK [.p (.int .u8 0),.p (.int .u8 0)] h fun t20 h21 y22=>
 wK (z00 (some 2) t20 t19 h21) fun t23 h24 y25=>
 pK (oBin .lss t1 t16) fun t26=>
 z0i t26 (K .ret ⟨[(2,(.p (.int .i32 65533))),(3,(AI 1))],h24,(y25++(y22++x))⟩)
 (pK (z1D v0 (AI 1)) fun t27=>
 pK (z0j 0 none t20) fun t28=>
 pK (z0g none t28 h24) fun t29=>
 pK (oBin .lss t27 t29) fun t30=>
 gP t30 false (z0j 1 none t20) h24 fun t31 h32 y33=>
 gP t30 false (z0g none t31 h32) h32 fun t34 h35 y36=>
 gM t30 false t27 h35 fun t37 h38 y39=>
 gP t30 false (oBin .lss t34 t37) h38 fun t40 h41 y42=>
 pK (z0y t30 (AB true) t40) fun t43=>
 z0i t43 (K .ret ⟨[(2,(.p (.int .i32 65533))),(3,(AI 1))],h41,(y42++(y39++(y36++(y33++(y25++(y22++x))))))⟩)
 (pK (oBin .leq t16 (AI 2)) fun t44=>
 z0i t44 (pK (oBin .and t3 (.p (.int .u8 31))) fun t45=>
 pK (z1y .i32 t45) fun t46=>
 pK (oBin .shl t46 (.p (.int .u64 6))) fun t47=>
 pK (oBin .and t27 (.p (.int .u8 63))) fun t48=>
 pK (z1y .i32 t48) fun t49=>
 pK (oBin .or t47 t49) fun t50=>
 K .ret ⟨[(2,t50),(3,(AI 2))],h41,(y42++(y39++(y36++(y33++(y25++(y22++x))))))⟩)
 (pK (z1D v0 (AI 2)) fun t51=>
 pK (oBin .lss t51 (.p (.int .u8 128))) fun t52=>
 gM t52 false t51 h41 fun t53 h54 y55=>
 gP t52 false (oBin .lss (.p (.int .u8 191)) t53) h54 fun t56 h57 y58=>
 pK (z0y t52 (AB true) t56) fun t59=>
 z0i t59 (K .ret ⟨[(2,(.p (.int .i32 65533))),(3,(AI 1))],h57,(y58++(y55++(y42++(y39++(y36++(y33++(y25++(y22++x))))))))⟩)
 (pK (oBin .leq t16 (AI 3)) fun t60=>
 z0i t60 (pK (oBin .and t3 (.p (.int .u8 15))) fun t61=>
 pK (z1y .i32 t61) fun t62=>
 pK (oBin .shl t62 (.p (.int .u64 12))) fun t63=>
 pK (oBin .and t27 (.p (.int .u8 63))) fun t64=>
 pK (z1y .i32 t64) fun t65=>
 pK (oBin .shl t65 (.p (.int .u64 6))) fun t66=>
 pK (oBin .or t63 t66) fun t67=>
 pK (oBin .and t51 (.p (.int .u8 63))) fun t68=>
 pK (z1y .i32 t68) fun t69=>
 pK (oBin .or t67 t69) fun t70=>
 K .ret ⟨[(2,t70),(3,(AI 3))],h57,(y58++(y55++(y42++(y39++(y36++(y33++(y25++(y22++x))))))))⟩)
 (pK (z1D v0 (AI 3)) fun t71=>
 pK (oBin .lss t71 (.p (.int .u8 128))) fun t72=>
 gM t72 false t71 h57 fun t73 h74 y75=>
 gP t72 false (oBin .lss (.p (.int .u8 191)) t73) h74 fun t76 h77 y78=>
 pK (z0y t72 (AB true) t76) fun t79=>
 z0i t79 (K .ret ⟨[(2,(.p (.int .i32 65533))),(3,(AI 1))],h77,(y78++(y75++(y58++(y55++(y42++(y39++(y36++(y33++(y25++(y22++x))))))))))⟩)
 (pK (oBin .and t3 (.p (.int .u8 7))) fun t80=>
 pK (z1y .i32 t80) fun t81=>
 pK (oBin .shl t81 (.p (.int .u64 18))) fun t82=>
 pK (oBin .and t27 (.p (.int .u8 63))) fun t83=>
 pK (z1y .i32 t83) fun t84=>
 pK (oBin .shl t84 (.p (.int .u64 12))) fun t85=>
 pK (oBin .or t82 t85) fun t86=>
 pK (oBin .and t51 (.p (.int .u8 63))) fun t87=>
 pK (z1y .i32 t87) fun t88=>
 pK (oBin .shl t88 (.p (.int .u64 6))) fun t89=>
 pK (oBin .or t86 t89) fun t90=>
 pK (oBin .and t71 (.p (.int .u8 63))) fun t91=>
 pK (z1y .i32 t91) fun t92=>
 pK (oBin .or t90 t92) fun t93=>
 K .ret ⟨[(2,t93),(3,(AI 4))],h77,(y78++(y75++(y58++(y55++(y42++(y39++(y36++(y33++(y25++(y22++x))))))))))⟩))))))))
theorem e_q09y {C gl v0 h x K}:NW C gl zlF.body ⟨enter [v0],h,x⟩ K=zu3 C gl v0 h x K:=by kernel_rfl
def z2S:ACode:=.pr [0,4,5] (.seq (.seq (rg [mV 9 5,
mV 10 0,
uO 11 (.lens 10),
bN 12 .lss 9 11] [0,4,5,12])
(.cond 12 .skip
(.exit 0)))
(.seq (.block 1 (rg [mV 15 4,
bN 16 .mul 15 (.c (.p (.int .u32 16777619))),
mV 17 0,
mV 18 5,
uO 19 (.idxs 17 18),
uO 20 (.conv (.i .u32) 19),
bN 21 .add 16 20,
mV 4 21] [0,4,5]))
(rg [mV 13 5,
bN 14 .add 13 (cI 1),
mV 5 14] [0,4,5])))
def zdd (C:Hd) (gl:GL) (v0 v4 v5:AV) (h:Heap) (x:Esc) (K:KT):Prop:=
 pK (z1g v0) fun t1=>
 pK (oBin .lss v5 t1) fun t2=>
 z0i t2 (pK (oBin .mul v4 (.p (.int .u32 16777619))) fun t3=>
 pK (z1D v0 v5) fun t4=>
 pK (z1y .u32 t4) fun t5=>
 pK (oBin .add t3 t5) fun t6=>
 pK (oBin .add v5 (AI 1)) fun t7=>
 K .normal ⟨[(0,v0),(4,t6),(5,t7)],h,x⟩)
 (K (.exit 0) ⟨[(0,v0),(4,v4),(5,v5),(12,t2)],h,x⟩)
theorem znx {C gl e h x K}:NW C gl z2S ⟨e,h,x⟩ K=zdd C gl (aget e 0) (aget e 4) (aget e 5) h x K:=by kernel_rfl
theorem zps {C gl e h x K}:NW C gl (.loop z2S) ⟨e,h,x⟩ K=z0N C gl z2S K [(0,aget e 0),(4,aget e 4),(5,aget e 5)] h x:=z0x
def z9d:ACode:=.pr [4,6,7,8] (rg [mV 34 7,
mV 35 7,
bN 36 .mul 34 35,
mV 7 36] [4,6,7,8])
def zde (C:Hd) (gl:GL) (v4 v6 v7 v8:AV) (h:Heap) (x:Esc) (K:KT):Prop:=
 pK (oBin .mul v7 v7) fun t1=>
 K .normal ⟨[(4,v4),(6,v6),(7,t1),(8,v8)],h,x⟩
theorem zny {C gl e h x K}:NW C gl z9d ⟨e,h,x⟩ K=zde C gl (aget e 4) (aget e 6) (aget e 7) (aget e 8) h x K:=by kernel_rfl
def z9e:ACode:=.pr [4,6,7,8] (rg [mV 26 8,
bN 27 .shr 26 (.c (.p (.int .u64 1))),
mV 8 27] [4,6,7,8])
def zdf (C:Hd) (gl:GL) (v4 v6 v7 v8:AV) (h:Heap) (x:Esc) (K:KT):Prop:=
 pK (oBin .shr v8 (.p (.int .u64 1))) fun t1=>
 K .normal ⟨[(4,v4),(6,v6),(7,v7),(8,t1)],h,x⟩
theorem znz {C gl e h x K}:NW C gl z9e ⟨e,h,x⟩ K=zdf C gl (aget e 4) (aget e 6) (aget e 7) (aget e 8) h x K:=by kernel_rfl
def zcx (q2 q3:ACode):ACode:=.pr [4,6,7,8] (.seq (.seq (rg [mV 24 8,
bN 25 .gtr 24 (cI 0)] [4,6,7,8,25])
(.cond 25 .skip
(.exit 2)))
(.seq (.block 3 (.seq (.seq (rg [mV 28 8,
bN 29 .and 28 (cI 1),
bN 30 .neq 29 (cI 0)] [4,6,7,8,30])
(.cond 30 (rg [mV 31 6,
mV 32 7,
bN 33 .mul 31 32,
mV 6 33] [4,6,7,8])
.skip))
q2))
q3))
def z4d:ACode:=zcx z9d z9e
def z8h (C:Hd) (gl:GL) (q2 q3:ACode) (v4 v6 v7 v8:AV) (h:Heap) (x:Esc) (K:KT):Prop:=
 pK (oBin .gtr v8 (AI 0)) fun t1=>
 z0i t1 (pK (oBin .and v8 (AI 1)) fun t2=>
 pK (oBin .neq t2 (AI 0)) fun t3=>
 z0i t3 (pK (oBin .mul v6 v7) fun t4=>
 NW C gl q2 ⟨[(4,v4),(6,t4),(7,v7),(8,v8)],h,x⟩ (z0q 3 (seqN C gl q3 K)))
 (NW C gl q2 ⟨[(4,v4),(6,v6),(7,v7),(8,v8),(30,t3)],h,x⟩ (z0q 3 (seqN C gl q3 K))))
 (K (.exit 2) ⟨[(4,v4),(6,v6),(7,v7),(8,v8),(25,t1)],h,x⟩)
theorem zjC {C gl q2 q3 e h x K}:NW C gl (zcx q2 q3) ⟨e,h,x⟩ K=z8h C gl q2 q3 (aget e 4) (aget e 6) (aget e 7) (aget e 8) h x K:=by kernel_rfl
theorem zn0 {C gl e h x K}:NW C gl z4d ⟨e,h,x⟩ K=z8h C gl z9d z9e (aget e 4) (aget e 6) (aget e 7) (aget e 8) h x K:=zjC
theorem zpt {C gl e h x K}:NW C gl (.loop z4d) ⟨e,h,x⟩ K=z0N C gl z4d K [(4,aget e 4),(6,aget e 6),(7,aget e 7),(8,aget e 8)] h x:=z0x
def z9f:ACode:=.pr [4,6] (.seq (rg [mV 37 4,
mV 38 6,
mV 2 37,
mV 3 38] [2,3])
.ret)
def zdg (C:Hd) (gl:GL) (v4 v6:AV) (h:Heap) (x:Esc) (K:KT):Prop:=
 K .ret ⟨[(2,v4),(3,v6)],h,x⟩
theorem zn1 {C gl e h x K}:NW C gl z9f ⟨e,h,x⟩ K=zdg C gl (aget e 4) (aget e 6) h x K:=by kernel_rfl
def zcy (q4 q5:ACode):ACode:=.pr [0,4] (.seq (rg [mV 6 (.c (.p (.int .u32 1))),
mV 7 (.c (.p (.int .u32 16777619)))] [0,4,6,7])
(.seq (.seq (rg [mV 22 0,
uO 23 (.lens 22),
mV 8 23] [4,6,7,8])
(.block 2 (.loop q4)))
q5))
def z5O:ACode:=zcy z4d z9f
def z8i (C:Hd) (gl:GL) (q4 q5:ACode) (v0 v4:AV) (h:Heap) (x:Esc) (K:KT):Prop:=
 pK (z1g v0) fun t1=>
 NW C gl (.loop q4) ⟨[(4,v4),(6,(.p (.int .u32 1))),(7,(.p (.int .u32 16777619))),(8,t1)],h,x⟩ (z0q 2 (seqN C gl q5 K))
theorem zjD {C gl q4 q5 e h x K}:NW C gl (zcy q4 q5) ⟨e,h,x⟩ K=z8i C gl q4 q5 (aget e 0) (aget e 4) h x K:=by kernel_rfl
theorem zn2 {C gl e h x K}:NW C gl z5O ⟨e,h,x⟩ K=z8i C gl z4d z9f (aget e 0) (aget e 4) h x K:=zjD
def ztL (q1 q6:ACode):ACode:=(.seq (rg [mV 2 (.c (.p (.int .u32 0))),
mV 3 (.c (.p (.int .u32 0)))] [0])
(.seq (rg [mV 4 (.c (.p (.int .u32 0)))] [0,4])
(.seq (.seq (rg [mV 5 (cI 0)] [0,4,5])
(.block 0 (.loop q1)))
q6)))
def zkn:AFun:=⟨1,[.t 2,.t 3],ztL z2S z5O,false,false⟩
def zmx (C:Hd) (gl:GL) (q1 q6:ACode) (v0:AV) (h:Heap) (x:Esc) (K:KT):Prop:=
 NW C gl (.loop q1) ⟨[(0,v0),(4,(.p (.int .u32 0))),(5,(AI 0))],h,x⟩ (z0q 0 (seqN C gl q6 K))
theorem E_q01e {C gl q1 q6 v0 h x K}:NW C gl (ztL q1 q6) ⟨enter [v0],h,x⟩ K=zmx C gl q1 q6 v0 h x K:=by kernel_rfl
theorem e_q01e {C gl v0 h x K}:NW C gl zkn.body ⟨enter [v0],h,x⟩ K=zmx C gl z2S z5O v0 h x K:=E_q01e
end Go.Am
end
section
/- The abstract machine,part L: functions of the library that are met by the kit's contracts: plain values in,plain values out,new memory at most. -/
set_option linter.unusedSimpArgs false
set_option linter.unusedVariables false
namespace Go.Am
variable {P:Program} {gl:Nat→Option PV}
structure PureRow (P:Program) (gl:Nat→Option PV) (f:Nat) (spec:List PV→Option AV):Prop where
 enter:∀ us w,(callFunc f us).run P w = .ok (.enter f us) w
 run:∀ (M:Mem) (w:World) (vs:List PV) (r:AV) (us:List Value),(∀ b o v,M.c b o=some v→w.cell? ⟨b,o,none⟩=some v)→(∀ b o,M.b b=some o→w.heap[b]?=some o)→GInv gl M→vs.length=us.length →
  (∀ (j:Nat) (y:PV) (v:Value),vs[j]?=some y→us[j]?=some v→RPV M y v)→spec vs=some r →
  Calls P f us.toArray w fun e w'=>∃ x,e = .returned x∧WExt w w'∧RAV (ExtM M w w') [] [] r x
abbrev z9I:=List (Nat × (List PV→Option AV))
def zbY:z9I→Nat→List AV→Heap→Option (AV × Heap × Esc)
 | [],_,_,_=>none
 | (g,s)::r,f,asv,h=>bif Nat.beq f g then ((unp asv).bind s).map fun v=>(v,h,[]) else zbY r f asv h
theorem zbZ:∀ (gs:z9I),(∀ g s,(g,s)∈gs→PureRow P gl g s)→∀ {f:Nat} {asv:List AV} {h:Heap} {v:AV} {h':Heap} {x:Esc},zbY gs f asv h=some (v,h',x) →
 z15 P gl f asv h fun v1 h1 x1=>v1=v∧h1=h'∧x1=x
 | [],_,f,asv,h,v,h',x,H=>by cases H
 | (g,s)::r,hg,f,asv,h,v,h',x,H=>by
  unfold zbY at H
  cases e1:Nat.beq f g with
  | false=>
   rw[e1] at H
   exact zbZ r (fun g sh hm=>hg g sh (by simp [hm])) H
  | true=>
   rw[e1] at H
   have e:=Nat.eq_of_beq_eq_true e1
   subst e
   have R:=hg f s (by simp)
   simp only[cond_true] at H
   obtain⟨y,hy,e2⟩:=Option.map_eq_some_iff.1 H
   simp only[Prod.mk.injEq] at e2
   obtain⟨rfl,rfl,rfl⟩:=e2
   obtain⟨ps,hps,hs⟩:=Option.bind_eq_some_iff.1 hy
   have hm:=z4F hps
   subst hm
   intro μ w vs Hh Hg hl hr
   refine .inl ⟨R.enter _,?_⟩
   refine (R.run (imm h μ w) w ps y vs (fun b o v hv=>(z1n.1 hv).2) (fun b o hv=>(z8T.1 hv).2) Hg (by simpa using hl) (fun j q v hq hv=>(hr j (.p q) v (by simp [hq]) hv).p_inv) hs).mono fun e w' he=>?_
   obtain⟨u,rfl,g1,g2⟩:=he
   obtain⟨n1,n2⟩:=Hh.ext g1
   have Lq:(ExtM (imm h μ w) w w').le (imm h μ w'):=by
    refine⟨fun b o v hv=>?_,fun b o hv=>?_,rfl,fun _ _ h=>by cases h⟩
    ·dsimp only[ExtM] at hv
     split at hv
     ·exact n2.le.c _ _ _ hv
     ·rename_i hb
      exact z1n.2 ⟨fun hO=>hb (zbV Hh hO),hv⟩
    ·dsimp only[ExtM] at hv
     cases hv
   exact⟨_,_,_,μ,⟨rfl,rfl,rfl⟩,g2.evo ⟨Lq,Nat.zero_le _,fun id o m h1=>by simp at h1⟩,n1,n2,z0k.refl h []⟩
def libF (gs:List (Nat × Sh)) (ps:z9I) (f:Nat) (asv:List AV) (h:Heap):Option (AV × Heap × Esc):=match ziC gs f asv h with
 | some y=>some y
 | none=>match zbY ps f asv h with
  | some y=>some y
  | none=>match z0n h asv with
   | some (asv',h1)=>zbY ps f asv' h1
   | none=>none
theorem zqv {ps:z9I} (hp:∀ g s,(g,s)∈ps→PureRow P gl g s) {f:Nat} {asv asv':List AV} {h h1:Heap} {v:AV} {h':Heap} {x:Esc} (hq:z0n h asv=some (asv',h1)) (H:zbY ps f asv' h1=some (v,h',x)) :
 z15 P gl f asv h fun v1 h2 x1=>v1=v∧h2=h'∧x1=x:=by
 intro μ w vs Hh Hg hl hr
 obtain⟨q1,q2,q3⟩:=z7J asv Hh hl hr hq
 rcases zbZ ps hp H μ w vs q1.1 (Hg.mono q1.2.1.le) q2 q3 with ⟨k1,k2⟩ | ⟨r,w',v2,h2,x2,μ',k1,k2,k3,k4,k5,k6⟩
 ·refine .inl ⟨k1,k2.mono fun e w' he=>?_⟩
  cases e with
  | returned r=>
   obtain⟨v2,h2,x2,μ',k2,k3,k4,k5,k6⟩:=he
   exact⟨v2,h2,x2,μ',k2,k3,k4,q1.2.1.trans k5,by simpa using q1.2.2.trans k6⟩
  | panicked _=>exact he
  | outgrown=>exact he
 ·exact .inr ⟨r,w',v2,h2,x2,μ',k1,k2,k3,k4,q1.2.1.trans k5,by simpa using q1.2.2.trans k6⟩
theorem libF_ok {gs:List (Nat × Sh)} {ps:z9I} (hg:∀ g sh,(g,sh)∈gs→GrowRow P g sh) (hp:∀ g s,(g,s)∈ps→PureRow P gl g s) {f:Nat} {asv:List AV} {h:Heap} {v:AV} {h':Heap} {x:Esc} (H:libF gs ps f asv h=some (v,h',x)) :
 z15 P gl f asv h fun v1 h1 x1=>v1=v∧h1=h'∧x1=x:=by
 unfold libF at H
 split at H
 ·rename_i y hy
  cases H
  exact zhw gs hg hy
 ·split at H
  ·rename_i y hy
   cases H
   exact zbZ ps hp hy
  ·split at H
   ·rename_i asv' h1 hq
    exact zqv hp hq H
   ·cases H
theorem z7H {X:Ctx} {f:Nat} {asv:List AV} {h h':Heap} {v:AV} {x:Esc} {K:Post} (hf:X.fn f=none) (hx:X.ex2 f asv h=some (v,h',x)):z0c X f asv h K=K v h' x:=by
 refine propext (z0c.eq (z0c.fold ?_) K)
 unfold Step
 simp only[hf,hx]
 exact⟨trivial,trivial,trivial⟩
def ze8:List (Nat × Sh)→Nat→Option Sh
 | [],_=>none
 | (g,s)::r,f=>bif Nat.beq f g then some s else ze8 r f
theorem z6C:∀ {gs:List (Nat × Sh)} {f:Nat} {asv:List AV} {h:Heap},ze8 gs f=none→ziC gs f asv h=none
 | [],f,asv,h,_=>rfl
 | (g,s)::r,f,asv,h,hm=>by
  unfold ze8 at hm
  unfold ziC
  cases hq:Nat.beq f g with
  | true=>rw[hq] at hm;cases hm
  | false=>rw[hq] at hm;exact z6C hm
def zeN:z9I→Nat→Option (List PV→Option AV)
 | [],_=>none
 | (g,s)::r,f=>bif Nat.beq f g then some s else zeN r f
theorem z6v:∀ {gs:z9I} {f:Nat} {s:List PV→Option AV} {asv:List AV} {h:Heap},zeN gs f=some s→zbY gs f asv h=((unp asv).bind s).map fun v=>(v,h,[])
 | [],f,s,asv,h,hm=>by cases hm
 | (g,s')::r,f,s,asv,h,hm=>by
  unfold zeN at hm
  unfold zbY
  cases hq:Nat.beq f g with
  | true=>rw[hq] at hm;cases hm;rfl
  | false=>rw[hq] at hm;exact z6v hm
theorem z8U {gs:List (Nat × Sh)} {ps:z9I} {f:Nat} {s:List PV→Option AV} {asv:List AV} {vs:List PV} {v:AV} {h:Heap} (hg:ze8 gs f=none) (hm:zeN ps f=some s) (hu:unp asv=some vs) (hv:s vs=some v):libF gs ps f asv h=some (v,h,[]):=by
 unfold libF;rw[z6C hg,z6v hm,hu];simp [hv]
theorem zs9 {gs:List (Nat × Sh)} {ps:z9I} {f:Nat} {s:List PV→Option AV} {asv asv':List AV} {vs:List PV} {v:AV} {h h1:Heap} (hg:ze8 gs f=none) (hm:zeN ps f=some s) (hn:unp asv=none) (hp:z0n h asv=some (asv',h1)) (hu:unp asv'=some vs) (hv:s vs=some v):libF gs ps f asv h=some (v,h1,[]):=by
 unfold libF
 rw[z6C hg,z6v hm,hn,hp]
 show zbY ps f asv' h1=_
 rw[z6v hm,hu]
 simp [hv]
def glOf:List (Nat × PV)→Nat→Option PV
 | [],_=>none
 | (g,v)::r,n=>bif Nat.beq n g then some v else glOf r n
theorem zxt {f:Nat} (h:(match P.funcs[f]? with | some fn=>fn.body.isSome&&fn.name != "runtime.NumGoroutine" | none=>false)=true) (us:Array Value) (w:World):(callFunc f us).run P w = .ok (.enter f us) w:=by
 cases hf:P.funcs[f]? with
 | none=>rw[hf] at h;cases h
 | some fn=>
  rw[hf] at h
  simp only[Bool.and_eq_true,bne_iff_ne,ne_eq] at h
  cases hb:fn.body with
  | none=>rw[hb] at h;cases h.1
  | some c=>exact zoF hf hb h.2 us w
def digC (n:Nat):UInt8:=UInt8.ofNat (48+n)
def decN (n:Nat):List UInt8:=if n<10 then [digC n] else decN (n / 10)++[digC (n%10)]
termination_by n
decreasing_by omega
def itoa (n:Int):List UInt8:=if n<0 then 45::decN n.natAbs else decN n.natAbs
theorem z3Q {n:Nat} (h:n<10):decN n=[digC n]:=by rw[decN,if_pos h]
theorem zfH {n:Nat} (h:10≤n):decN n=decN (n / 10)++[digC (n%10)]:=by rw[decN,if_neg (by omega)]
def zpf:List PV→Option AV
 | [.int .i64 n]=>bif decide (-9223372036854775808≤n)&&decide (n≤9223372036854775807) then some (.p (.str (itoa n))) else none
 | _=>none
def zbX:PV:=.agg ((List.range 20).map fun i=>.int .u64 ((10^i:Nat):Int))
def digN:Nat→List UInt8→Option Nat
 | acc,[]=>some acc
 | acc,c::r=>if 48≤c.toNat∧c.toNat≤57 then digN (acc*10+(c.toNat-48)) r else none
def zis:List PV→Option AV
 | [.str s]=>if 1≤s.length∧s.length≤18 then match digN 0 s with
  | some n=>some (.tup [.p (.int .i64 (n:Int)),.nili])
  | none=>if s.head?=some 45∧2≤s.length then (digN 0 s.tail).map fun (n:Nat)=>.tup [.p (.int .i64 (-(n:Int))),.nili] else none
  else none
 | _=>none
theorem zeq:∀ (a:List UInt8) (acc:Nat) (c:UInt8),digN acc (a++[c])=(digN acc a).bind fun n=>if 48≤c.toNat∧c.toNat≤57 then some (n*10+(c.toNat-48)) else none
 | [],acc,c=>by
  simp only[List.nil_append,digN,Option.bind_some]
 | d::a,acc,c=>by
  simp only[List.cons_append,digN]
  split
  ·exact zeq a _ c
  ·rfl
theorem zrL {n:Nat} (h:n<10):(digC n).toNat=48+n:=by
 simp only[digC,UInt8.toNat_ofNat']
 omega
theorem zbG:∀ (k n:Nat),n<10^(k+1)→1≤(decN n).length∧(decN n).length≤k+1
 | 0,n,h=>by rw[z3Q (by simpa using h)];simp
 | k+1,n,h=>by
  rcases Nat.lt_or_ge n 10 with h1 | h1
  ·rw[z3Q h1];simp
  ·have:=zbG k (n / 10) (by rw[Nat.div_lt_iff_lt_mul (by omega)];rw[Nat.pow_succ] at h;exact h)
   rw[zfH h1]
   simp;omega
def zg1:List PV→Option AV
 | [.str s,.str [c]]=>some (.p (.int .i64 (s.count c)))
 | _=>none
def z29:List PV→Option (List (List UInt8))
 | []=>some []
 | .str s::r=>(z29 r).map (s :: ·)
 | _=>none
def zpg:List PV→Option AV
 | [.sl none xs,.str sep]=>(z29 xs).bind fun l=>if l.length≤1000000∧(sep.intercalate l).length≤1000000000 then some (.p (.str (sep.intercalate l))) else none
 | _=>none
theorem zji (l:List (List UInt8)):z29 (l.map PV.str)=some l:=by
 induction l with
 | nil=>rfl
 | cons a r ih=>rw[List.map_cons,z29,ih];rfl
theorem zfk:∀ {xs:List PV} {l:List (List UInt8)},z29 xs=some l→xs=l.map PV.str
 | [],l,h=>by simp [z29] at h;subst h;rfl
 | .str s::r,l,h=>by
  rw[z29] at h
  obtain⟨q,hq,rfl⟩:=Option.map_eq_some_iff.1 h
  rw[zfk hq]
  rfl
 | .int _ _::_,l,h=>by simp [z29] at h
 | .bool _::_,l,h=>by simp [z29] at h
 | .sl _ _::_,l,h=>by simp [z29] at h
 | .agg _::_,l,h=>by simp [z29] at h
 | .nilp::_,l,h=>by simp [z29] at h
 | .unk::_,l,h=>by simp [z29] at h
end Go.Am
end
section
/- The abstract machine,part C: z1a calls that say true,asv contracts. -/
set_option linter.all false
namespace Go.Am
variable {P:Program} {gl:Nat→Option PV}
end Go.Am
end
