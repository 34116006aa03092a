/- Texts of the proof, laid together: CodesC, CodesD, CodesE, AmL, AmC. -/
import Derived.KernelRfl
import Derived.Test.YtklljiofechahaaGreatDoorlawET5
set_option linter.all false
section
/- The functions asv abstract code,and asv formulas over their values: printed by program out of the translation. -/
set_option linter.unusedVariables false
set_option maxRecDepth 100000
namespace Go.Am
def P_q043:ACode:=(.seq (rg [mV 2 cF] [0])
(.seq (rg [mV 3 0,
uO 4 (.lens 3),
cL 5 z2c [4,(cI 1),(cI 40)],
mV 6 5,
gD 7 6 true (.mv 0),
gD 8 6 true (.slstr 7 none (some (cI 1))),
gD 9 6 true (.call z44 [8,(cS [97,98,99,100,101,102,103,104,105,106,107,108,109,110,111,112,113,114,115,116,117,118,119,120,121,122])]),
uO 10 (.pick 6 9 cF),
mV 11 10,
gD 12 11 true (.mv 0),
gD 13 11 true (.call z44 [12,(cS [97,98,99,100,101,102,103,104,105,106,107,108,109,110,111,112,113,114,115,116,117,118,119,120,121,122,48,49,50,51,52,53,54,55,56,57,45,95])]),
uO 14 (.pick 11 13 cF),
mV 2 14] [2])
.ret))
def zju:AFun:=⟨1,[.t 2],P_q043,false,false⟩
def z91 (C:Hd) (gl:GL) (v0:AV) (h:Heap) (x:Esc) (K:KT):Prop:=
 pK (z0X v0) fun t1=>
 C z2c [t1,(AI 1),(AI 40)] h fun t2 h3 y4=>
 gM t2 true v0 h3 fun t5 h6 y7=>
 gP t2 true (z0Y t5 none (some (AI 1))) h6 fun t8 h9 y10=>
 gV t2 true h9 (C z44 [t8,(.p (.str [97,98,99,100,101,102,103,104,105,106,107,108,109,110,111,112,113,114,115,116,117,118,119,120,121,122]))] h9) fun t11 h12 y13=>
 pK (z0y t2 t11 (AB false)) fun t14=>
 gM t14 true v0 h12 fun t15 h16 y17=>
 gV t14 true h16 (C z44 [t15,(.p (.str [97,98,99,100,101,102,103,104,105,106,107,108,109,110,111,112,113,114,115,116,117,118,119,120,121,122,48,49,50,51,52,53,54,55,56,57,45,95]))] h16) fun t18 h19 y20=>
 pK (z0y t14 t18 (AB false)) fun t21=>
 K .ret ⟨[(2,t21)],h19,(y20++(y17++(y13++(y10++(y7++(y4++x))))))⟩
theorem e_q043 {C gl v0 h x K}:NW C gl zju.body ⟨enter [v0],h,x⟩ K=z91 C gl v0 h x K:=by kernel_rfl
def P_q05k:ACode:=(.seq (rg [mV 4 cF] [0,1])
(.seq (rg [mV 5 0,
mV 6 1,
cL 7 z3w [5,6],
bN 8 .geq 7 (cI 0),
mV 4 8] [4])
.ret))
def zeZ:AFun:=⟨2,[.t 4],P_q05k,true,false⟩
def zkP (C:Hd) (gl:GL) (v0 v1:AV) (h:Heap) (x:Esc) (K:KT):Prop:=
 C z3w [v0,v1] h fun t1 h2 y3=>
 pK (oBin .geq t1 (AI 0)) fun t4=>
 K .ret ⟨[(4,t4)],h2,(y3++x)⟩
theorem e_q05k {C gl v0 v1 h x K}:NW C gl zeZ.body ⟨enter [v0,v1],h,x⟩ K=zkP C gl v0 v1 h x K:=by kernel_rfl
def P_q057:ACode:=(.seq (rg [mV 2 (cI 0)] [0])
(.seq (.block 0 (.seq (rg [mV 4 0,
bN 5 .lss 4 (cI 0),
mV 3 5] [0,3])
(.cond 3 (.seq (rg [mV 2 (cI (-1))] [2])
.ret)
(.seq (rg [mV 7 0,
bN 8 .gtr 7 (cI 0),
mV 6 8] [6])
(.cond 6 (.seq (rg [mV 2 (cI 1)] [2])
.ret)
.skip)))))
(.seq (rg [mV 2 (cI 0)] [2])
.ret)))
def zj6:AFun:=⟨1,[.t 2],P_q057,false,false⟩
def zct (C:Hd) (gl:GL) (v0:AV) (h:Heap) (x:Esc) (K:KT):Prop:=
 pK (oBin .lss v0 (AI 0)) fun t1=>
 z0j t1 (K .ret ⟨[(2,(AI (-1)))],h,x⟩)
 (pK (oBin .gtr v0 (AI 0)) fun t2=>
 z0j t2 (K .ret ⟨[(2,(AI 1))],h,x⟩)
 (K .ret ⟨[(2,(AI 0))],h,x⟩))
theorem e_q057 {C gl v0 h x K}:NW C gl zj6.body ⟨enter [v0],h,x⟩ K=zct C gl v0 h x K:=by kernel_rfl
def z57:ACode:=.pr [0] (.seq (rg [mV 15 0,
mV 4 15] [4])
.ret)
def zbY (C:Hd) (gl:GL) (v0:AV) (h:Heap) (x:Esc) (K:KT):Prop:=
 K .ret ⟨[(4,v0)],h,x⟩
theorem zlB {C gl e h x K}:NW C gl z57 ⟨e,h,x⟩ K=zbY C gl (aget e 0) h x K:=by kernel_rfl
def zrV (q1:ACode):ACode:=(.seq (rg [mV 4 (cI 0)] [0,1])
(.seq (.seq (rg [mV 5 1,
bN 6 .lss 5 (cI 1)] [0,1,6])
(.cond 6 (.seq (rg [mV 4 (cI 0)] [4])
.ret)
.skip))
(.seq (rg [mV 7 0,
mV 8 1,
bN 9 .rem 7 8,
mV 0 9] [0,1])
(.seq (.seq (rg [mV 10 0,
bN 11 .lss 10 (cI 0)] [0,1,11])
(.cond 11 (rg [mV 12 0,
mV 13 1,
bN 14 .add 12 13,
mV 0 14] [0])
.skip))
q1))))
def zjd:AFun:=⟨2,[.t 4],zrV z57,false,false⟩
def zfx (C:Hd) (gl:GL) (q1:ACode) (v0 v1:AV) (h:Heap) (x:Esc) (K:KT):Prop:=
 pK (oBin .lss v1 (AI 1)) fun t1=>
 z0j t1 (K .ret ⟨[(4,(AI 0))],h,x⟩)
 (pK (oBin .rem v0 v1) fun t2=>
 pK (oBin .lss t2 (AI 0)) fun t3=>
 z0j t3 (pK (oBin .add t2 v1) fun t4=>
 NW C gl q1 ⟨[(0,t4)],h,x⟩ K)
 (NW C gl q1 ⟨[(0,t2),(1,v1),(11,t3)],h,x⟩ K))
theorem E_q039 {C gl q1 v0 v1 h x K}:NW C gl (zrV q1) ⟨enter [v0,v1],h,x⟩ K=zfx C gl q1 v0 v1 h x K:=by kernel_rfl
theorem e_q039 {C gl v0 v1 h x K}:NW C gl zjd.body ⟨enter [v0,v1],h,x⟩ K=zfx C gl z57 v0 v1 h x K:=E_q039
def P_q00v:ACode:=(.seq (rg [mV 2 cF] [0])
(.seq (rg [mV 3 0,
mV 4 0,
bN 5 .neq 3 4,
mV 2 5] [2])
.ret))
def zeW:AFun:=⟨1,[.t 2],P_q00v,false,false⟩
def zkA (C:Hd) (gl:GL) (v0:AV) (h:Heap) (x:Esc) (K:KT):Prop:=
 pK (oBin .neq v0 v0) fun t1=>
 K .ret ⟨[(2,t1)],h,x⟩
theorem e_q00v {C gl v0 h x K}:NW C gl zeW.body ⟨enter [v0],h,x⟩ K=zkA C gl v0 h x K:=by kernel_rfl
def P_q01b:ACode:=(.seq (rg [mV 4 (cI 0)] [0,1])
(.seq (rg [mV 5 0,
mV 6 1,
cL 7 z0f [5,6],
mV 4 7] [4])
.ret))
def zeX:AFun:=⟨2,[.t 4],P_q01b,false,false⟩
def zkB (C:Hd) (gl:GL) (v0 v1:AV) (h:Heap) (x:Esc) (K:KT):Prop:=
 C z0f [v0,v1] h fun t1 h2 y3=>
 K .ret ⟨[(4,t1)],h2,(y3++x)⟩
theorem e_q01b {C gl v0 v1 h x K}:NW C gl zeX.body ⟨enter [v0,v1],h,x⟩ K=zkB C gl v0 v1 h x K:=by kernel_rfl
def P_q050:ACode:=(.seq (rg [mV 6 cF] [0,1,2])
(.seq (rg [mV 7 1,
mV 8 0,
bN 9 .leq 7 8,
mV 10 9,
gD 11 10 true (.mv 0),
gD 12 10 true (.mv 2),
gD 13 10 true (.bin .leq 11 12),
uO 14 (.pick 10 13 cF),
mV 6 14] [6])
.ret))
def zj3:AFun:=⟨3,[.t 6],P_q050,false,false⟩
def zkN (C:Hd) (gl:GL) (v0 v1 v2:AV) (h:Heap) (x:Esc) (K:KT):Prop:=
 pK (oBin .leq v1 v0) fun t1=>
 gM t1 true v0 h fun t2 h3 y4=>
 gM t1 true v2 h3 fun t5 h6 y7=>
 gP t1 true (oBin .leq t2 t5) h6 fun t8 h9 y10=>
 pK (z0y t1 t8 (AB false)) fun t11=>
 K .ret ⟨[(6,t11)],h9,(y10++(y7++(y4++x)))⟩
theorem e_q050 {C gl v0 v1 v2 h x K}:NW C gl zj3.body ⟨enter [v0,v1,v2],h,x⟩ K=zkN C gl v0 v1 v2 h x K:=by kernel_rfl
def P_q08z:ACode:=(.seq (rg [mV 2 0,
uO 3 (.nilchk 2),
fA 4 0 none 3,
lD 5 none 4,
uO 6 (.isnil 0 false 5)] [0,6])
(.cond 6 (rg [mV 7 0,
mV 8 0,
uO 9 (.uns 1 107 [8]),
uO 10 (.uns 7 z0I [(.f z0I),9]),
uO 11 (.uns 1 107 [10]),
uO 12 (.nilchk 7),
fA 13 0 none 12,
wO (.store none 13 11)] [])
(.seq (rg [mV 14 0,
uO 15 (.nilchk 14),
fA 16 0 none 15,
lD 17 none 16,
mV 18 0,
uO 19 (.uns 2 0 [17,18])] [19])
(.cond 19 .bad
.skip))))
def zjN:AFun:=⟨1,[],P_q08z,false,false⟩
def zfH (C:Hd) (gl:GL) (v0:AV) (h:Heap) (x:Esc) (K:KT):Prop:=
 pK (oNil v0) fun t1=>
 pK (z0g 0 none t1) fun t2=>
 pK (z0e none t2 h) fun t3=>
 pK (zaj 0 false t3) fun t4=>
 z0j t4 (wK (z1x 1 107 [v0] h) fun t5 h6 y7=>
 wK (z1x 7 z0I [(.fn z0I []),t5] h6) fun t8 h9 y10=>
 wK (z1x 1 107 [t8] h9) fun t11 h12 y13=>
 pK (oNil v0) fun t14=>
 pK (z0g 0 none t14) fun t15=>
 wK (z0n none t15 t11 h12) fun t16 h17 y18=>
 K .normal ⟨[],h17,(y18++(y13++(y10++(y7++x))))⟩)
 (pK (oNil v0) fun t19=>
 pK (z0g 0 none t19) fun t20=>
 pK (z0e none t20 h) fun t21=>
 wK (z1x 2 0 [t21,v0] h) fun t22 h23 y24=>
 z0j t22 (False)
 (K .normal ⟨[(19,t22)],h23,(y24++x)⟩))
theorem e_q08z {C gl v0 h x K}:NW C gl zjN.body ⟨enter [v0],h,x⟩ K=zfH C gl v0 h x K:=by kernel_rfl
def P_q00a:ACode:=(.seq (rg [mV 6 cF] [0,1,2])
(.seq (rg [mV 7 0,
mV 8 1,
bN 9 .lss 7 8,
mV 10 9,
gD 11 10 false (.mv 0),
gD 12 10 false (.mv 2),
gD 13 10 false (.bin .gtr 11 12),
uO 14 (.pick 10 cT 13),
mV 6 14] [6])
.ret))
def zeT:AFun:=⟨3,[.t 6],P_q00a,false,false⟩
def zk9 (C:Hd) (gl:GL) (v0 v1 v2:AV) (h:Heap) (x:Esc) (K:KT):Prop:=
 pK (oBin .lss v0 v1) fun t1=>
 gM t1 false v0 h fun t2 h3 y4=>
 gM t1 false v2 h3 fun t5 h6 y7=>
 gP t1 false (oBin .gtr t2 t5) h6 fun t8 h9 y10=>
 pK (z0y t1 (AB true) t8) fun t11=>
 K .ret ⟨[(6,t11)],h9,(y10++(y7++(y4++x)))⟩
theorem e_q00a {C gl v0 v1 v2 h x K}:NW C gl zeT.body ⟨enter [v0,v1,v2],h,x⟩ K=zk9 C gl v0 v1 v2 h x K:=by kernel_rfl
def P_q006:ACode:=(.seq (rg [mV 2 (.c (.p (.sl none []))),
mV 3 cF] [0])
(.seq (.seq (rg [mV 5 0,
bN 6 .eql 5 (cS [])] [0,6])
(.cond 6 (.seq (rg [mV 2 (.c (.p (.sl none []))),
mV 3 cT] [2,3])
.ret)
.skip))
(.seq (rg [mV 8 0,
cL 9 z9Y [8,(cS [10])],
mV 7 9,
eX 10 7 0,
eX 11 7 1,
mV 4 10,
mV 3 11] [3,4])
(.seq (rg [mV 12 4,
cL 13 z47 [12,(cS [10])],
mV 14 3,
mV 2 13,
mV 3 14] [2,3])
.ret))))
def ziP:AFun:=⟨1,[.t 2,.t 3],P_q006,false,false⟩
def zfn (C:Hd) (gl:GL) (v0:AV) (h:Heap) (x:Esc) (K:KT):Prop:=
 pK (oBin .eql v0 (.p (.str []))) fun t1=>
 z0j t1 (K .ret ⟨[(2,(.p (.sl none []))),(3,(AB true))],h,x⟩)
 (C z9Y [v0,(.p (.str [10]))] h fun t2 h3 y4=>
 pK (oExt t2 0) fun t5=>
 pK (oExt t2 1) fun t6=>
 C z47 [t5,(.p (.str [10]))] h3 fun t7 h8 y9=>
 K .ret ⟨[(2,t7),(3,t6)],h8,(y9++(y4++x))⟩)
theorem e_q006 {C gl v0 h x K}:NW C gl ziP.body ⟨enter [v0],h,x⟩ K=zfn C gl v0 h x K:=by kernel_rfl
def P_q09a:ACode:=(.seq (rg [mV 4 (.c (.p (.sl none [])))] [0,1])
(.seq (rg [mV 5 0,
mV 6 1,
cL 7 zab [5,6,(cI 0),(cI (-1))],
mV 4 7] [4])
.ret))
def zjS:AFun:=⟨2,[.t 4],P_q09a,false,false⟩
def zkZ (C:Hd) (gl:GL) (v0 v1:AV) (h:Heap) (x:Esc) (K:KT):Prop:=
 C zab [v0,v1,(AI 0),(AI (-1))] h fun t1 h2 y3=>
 K .ret ⟨[(4,t1)],h2,(y3++x)⟩
theorem e_q09a {C gl v0 v1 h x K}:NW C gl zjS.body ⟨enter [v0,v1],h,x⟩ K=zkZ C gl v0 v1 h x K:=by kernel_rfl
def z2g:ACode:=.pr [0,6,38,39] (.seq (rg [bN 40 .lss 39 38] [0,6,38,39,40])
(.seq (.cond 40 .skip
(.exit 0))
(.seq (.block 1 (.seq (rg [mV 41 39,
mV 7 41] [0,6,7,38,39])
(.seq (rg [mV 42 6,
mV 43 7,
uO 44 (.idxs 42 43),
bN 45 .lss 44 (.c (.p (.int .u8 48))),
mV 46 45,
gD 47 46 false (.mv 6),
gD 48 46 false (.mv 7),
gD 49 46 false (.idxs 47 48),
gD 50 46 false (.bin .gtr 49 (.c (.p (.int .u8 57)))),
uO 51 (.pick 46 cT 50)] [0,6,38,39,51])
(.cond 51 (.seq (rg [mV 4 (cI 0),
mV 5 cF] [4,5])
.ret)
.skip))))
(rg [bN 52 .add 39 (cI 1),
mV 39 52] [0,6,38,39]))))
def zbJ (C:Hd) (gl:GL) (v0 v6 v38 v39:AV) (h:Heap) (x:Esc) (K:KT):Prop:=
 pK (oBin .lss v39 v38) fun t1=>
 z0j t1 (pK (z17 v6 v39) fun t2=>
 pK (oBin .lss t2 (.p (.int .u8 48))) fun t3=>
 gM t3 false v6 h fun t4 h5 y6=>
 gM t3 false v39 h5 fun t7 h8 y9=>
 gP t3 false (z17 t4 t7) h8 fun t10 h11 y12=>
 gP t3 false (oBin .gtr t10 (.p (.int .u8 57))) h11 fun t13 h14 y15=>
 pK (z0y t3 (AB true) t13) fun t16=>
 z0j t16 (K .ret ⟨[(4,(AI 0)),(5,(AB false))],h14,(y15++(y12++(y9++(y6++x))))⟩)
 (pK (oBin .add v39 (AI 1)) fun t17=>
 K .normal ⟨[(0,v0),(6,v6),(38,v38),(39,t17)],h14,(y15++(y12++(y9++(y6++x))))⟩))
 (K (.exit 0) ⟨[(0,v0),(6,v6),(38,v38),(39,v39),(40,t1)],h,x⟩)
theorem zlu {C gl e h x K}:NW C gl z2g ⟨e,h,x⟩ K=zbJ C gl (aget e 0) (aget e 6) (aget e 38) (aget e 39) h x K:=by kernel_rfl
theorem zng {C gl e h x K}:NW C gl (.loop z2g) ⟨e,h,x⟩ K=z0T C gl z2g K [(0,aget e 0),(6,aget e 6),(38,aget e 38),(39,aget e 39)] h x:=z0A
def z5y:ACode:=.pr [0] (.seq (rg [mV 54 0,
cL 55 z6K [54],
mV 53 55,
eX 56 53 0,
eX 57 53 1,
mV 8 56,
mV 9 57] [8,9])
(.seq (dr [dF (mV 58 8) [8],
dF (mV 59 9) [9],
dF (uO 60 (.isnil 3 false 59)) [59],
dF (mV 4 58) [58],
dF (mV 5 60) [60]] [4,5])
.ret))
def z5c (C:Hd) (gl:GL) (v0:AV) (h:Heap) (x:Esc) (K:KT):Prop:=
 C z6K [v0] h fun t1 h2 y3=>
 pK (oExt t1 0) fun t4=>
 pK (oExt t1 1) fun t5=>
 pK (zaj 3 false t5) fun t6=>
 K .ret ⟨[(4,t4),(5,t6)],h2,(y3++x)⟩
theorem z5h {C gl e h x K}:NW C gl z5y ⟨e,h,x⟩ K=z5c C gl (aget e 0) h x K:=by kernel_rfl
def zrO (q1 q2:ACode):ACode:=(.seq (rg [mV 4 (cI 0),
mV 5 cF] [0,1])
(.seq (rg [mV 10 0,
cL 11 z6L [10,(cS [45])],
mV 6 11] [0,1,6])
(.seq (.seq (rg [mV 12 6,
bN 13 .eql 12 (cS []),
mV 14 13,
gD 15 14 false (.mv 6),
gD 16 14 false (.lens 15),
gD 17 14 false (.mv 1),
gD 18 14 false (.bin .gtr 16 17),
uO 19 (.pick 14 cT 18),
mV 20 19,
gD 21 20 false (.mv 6),
gD 22 20 false (.idxs 21 (cI 0)),
gD 23 20 false (.bin .eql 22 (.c (.p (.int .u8 48)))),
gD 24 20 false (.mv 23),
gD 25 24 true (.mv 6),
gD 26 24 true (.lens 25),
gD 27 24 true (.bin .gtr 26 (cI 1)),
gD 28 24 true (.mv 27),
gD 29 28 false (.mv 0),
gD 30 28 false (.lens 29),
gD 31 28 false (.mv 6),
gD 32 28 false (.lens 31),
gD 33 28 false (.bin .gtr 30 32),
gD 34 24 true (.pick 28 cT 33),
gD 35 20 false (.pick 24 34 cF),
uO 36 (.pick 20 cT 35)] [0,6,36])
(.cond 36 (.seq (rg [mV 4 (cI 0),
mV 5 cF] [4,5])
.ret)
.skip))
(.seq (.seq (rg [mV 37 6,
uO 38 (.lens 37),
mV 39 (cI 0)] [0,6,38,39])
(.block 0 (.loop q1)))
q2))))
def ziQ:AFun:=⟨2,[.t 4,.t 5],zrO z2g z5y,false,false⟩
def z5b (C:Hd) (gl:GL) (q1 q2:ACode) (v0 v1:AV) (h:Heap) (x:Esc) (K:KT):Prop:=
 C z6L [v0,(.p (.str [45]))] h fun t1 h2 y3=>
 pK (oBin .eql t1 (.p (.str []))) fun t4=>
 gM t4 false t1 h2 fun t5 h6 y7=>
 gP t4 false (z0X t5) h6 fun t8 h9 y10=>
 gM t4 false v1 h9 fun t11 h12 y13=>
 gP t4 false (oBin .gtr t8 t11) h12 fun t14 h15 y16=>
 pK (z0y t4 (AB true) t14) fun t17=>
 gM t17 false t1 h15 fun t18 h19 y20=>
 gP t17 false (z17 t18 (AI 0)) h19 fun t21 h22 y23=>
 gP t17 false (oBin .eql t21 (.p (.int .u8 48))) h22 fun t24 h25 y26=>
 gM t17 false t24 h25 fun t27 h28 y29=>
 gM t27 true t1 h28 fun t30 h31 y32=>
 gP t27 true (z0X t30) h31 fun t33 h34 y35=>
 gP t27 true (oBin .gtr t33 (AI 1)) h34 fun t36 h37 y38=>
 gM t27 true t36 h37 fun t39 h40 y41=>
 gM t39 false v0 h40 fun t42 h43 y44=>
 gP t39 false (z0X t42) h43 fun t45 h46 y47=>
 gM t39 false t1 h46 fun t48 h49 y50=>
 gP t39 false (z0X t48) h49 fun t51 h52 y53=>
 gP t39 false (oBin .gtr t45 t51) h52 fun t54 h55 y56=>
 gP t27 true (z0y t39 (AB true) t54) h55 fun t57 h58 y59=>
 gP t17 false (z0y t27 t57 (AB false)) h58 fun t60 h61 y62=>
 pK (z0y t17 (AB true) t60) fun t63=>
 z0j t63 (K .ret ⟨[(4,(AI 0)),(5,(AB false))],h61,(y62++(y59++(y56++(y53++(y50++(y47++(y44++(y41++(y38++(y35++(y32++(y29++(y26++(y23++(y20++(y16++(y13++(y10++(y7++(y3++x))))))))))))))))))))⟩)
 (pK (z0X t1) fun t64=>
 NW C gl (.loop q1) ⟨[(0,v0),(6,t1),(38,t64),(39,(AI 0))],h61,(y62++(y59++(y56++(y53++(y50++(y47++(y44++(y41++(y38++(y35++(y32++(y29++(y26++(y23++(y20++(y16++(y13++(y10++(y7++(y3++x))))))))))))))))))))⟩ (z0u 0 (seqN C gl q2 K)))
theorem E_q008 {C gl q1 q2 v0 v1 h x K}:NW C gl (zrO q1 q2) ⟨enter [v0,v1],h,x⟩ K=z5b C gl q1 q2 v0 v1 h x K:=by kernel_rfl
theorem e_q008 {C gl v0 v1 h x K}:NW C gl ziQ.body ⟨enter [v0,v1],h,x⟩ K=z5b C gl z2g z5y v0 v1 h x K:=E_q008
def z2D:ACode:=.pr [1,6,11,12,13] (.seq (rg [bN 14 .lss 13 12] [1,6,11,12,13,14])
(.seq (.cond 14 .skip
(.exit 0))
(.seq (.block 1 (.seq (rg [iA 15 none 11 13,
lD 16 none 15,
mV 8 16] [1,6,8,11,12,13])
(.seq (rg [mV 18 8,
mV 19 1,
cL 20 z6C [18,19],
mV 17 20,
eX 21 17 0,
eX 22 17 1,
mV 9 21,
mV 10 22] [1,6,9,10,11,12,13])
(.seq (.seq (rg [mV 23 10,
uO 24 (.un .not 23)] [1,6,9,11,12,13,24])
(.cond 24 (.seq (rg [mV 4 (.c (.p (.sl none []))),
mV 5 cF] [4,5])
.ret)
.skip))
(rg [mV 25 6,
mV 26 9,
uO 27 (.bsl false none 1 (.int .i64 0) [(0,26)]),
uO 28 (.app none 25 27),
mV 6 28] [1,6,11,12,13])))))
(rg [bN 29 .add 13 (cI 1),
mV 13 29] [1,6,11,12,13]))))
def zbK (C:Hd) (gl:GL) (v1 v6 v11 v12 v13:AV) (h:Heap) (x:Esc) (K:KT):Prop:=
 pK (oBin .lss v13 v12) fun t1=>
 z0j t1 (pK (z0p none v11 v13 h) fun t2=>
 pK (z0e none t2 h) fun t3=>
 C z6C [t3,v1] h fun t4 h5 y6=>
 pK (oExt t4 0) fun t7=>
 pK (oExt t4 1) fun t8=>
 pK (oUn .not t8) fun t9=>
 z0j t9 (K .ret ⟨[(4,(.p (.sl none []))),(5,(AB false))],h5,(y6++x)⟩)
 (wK (oBsl false none 1 (.int .i64 0) [(0,t7)] h5) fun t10 h11 y12=>
 wK (oApp none v6 t10 h11) fun t13 h14 y15=>
 pK (oBin .add v13 (AI 1)) fun t16=>
 K .normal ⟨[(1,v1),(6,t13),(11,v11),(12,v12),(13,t16)],h14,(y15++(y12++(y6++x)))⟩))
 (K (.exit 0) ⟨[(1,v1),(6,v6),(11,v11),(12,v12),(13,v13),(14,t1)],h,x⟩)
theorem zlv {C gl e h x K}:NW C gl z2D ⟨e,h,x⟩ K=zbK C gl (aget e 1) (aget e 6) (aget e 11) (aget e 12) (aget e 13) h x K:=by kernel_rfl
theorem znh {C gl e h x K}:NW C gl (.loop (.scope z2D)) ⟨e,h,x⟩ K=z0T C gl (.scope z2D) K [(1,aget e 1),(6,aget e 6),(11,aget e 11),(12,aget e 12),(13,aget e 13)] h x:=z1E
def z5z:ACode:=.pr [6] (.seq (rg [mV 30 6,
mV 4 30,
mV 5 cT] [4,5])
.ret)
def z77 (C:Hd) (gl:GL) (v6:AV) (h:Heap) (x:Esc) (K:KT):Prop:=
 K .ret ⟨[(4,v6),(5,(AB true))],h,x⟩
theorem z7Q {C gl e h x K}:NW C gl z5z ⟨e,h,x⟩ K=z77 C gl (aget e 6) h x K:=by kernel_rfl
def zrP (q1 q2:ACode):ACode:=(.seq (rg [mV 4 (.c (.p (.sl none []))),
mV 5 cF] [0,1])
(.seq (rg [uO 6 (.new0 none)] [0,1,6])
(.seq (.seq (rg [mV 11 0,
lN 12 11,
mV 13 (cI 0)] [1,6,11,12,13])
(.block 0 (.loop (.scope q1))))
q2)))
def ziR:AFun:=⟨2,[.t 4,.t 5],zrP z2D z5z,false,false⟩
def zfo (C:Hd) (gl:GL) (q1 q2:ACode) (v0 v1:AV) (h:Heap) (x:Esc) (K:KT):Prop:=
 nwK none h fun t1 h2 y3=>
 pK (oLen v0) fun t4=>
 NW C gl (.loop (.scope q1)) ⟨[(1,v1),(6,t1),(11,v0),(12,t4),(13,(AI 0))],h2,(y3++x)⟩ (z0u 0 (seqN C gl q2 K))
theorem E_q009 {C gl q1 q2 v0 v1 h x K}:NW C gl (zrP q1 q2) ⟨enter [v0,v1],h,x⟩ K=zfo C gl q1 q2 v0 v1 h x K:=by kernel_rfl
theorem e_q009 {C gl v0 v1 h x K}:NW C gl ziR.body ⟨enter [v0,v1],h,x⟩ K=zfo C gl z2D z5z v0 v1 h x K:=E_q009
def P_q094:ACode:=(.seq (rg [mV 4 (cS []),
mV 5 (cS []),
mV 6 cF] [0,1])
(.seq (rg [mV 7 0,
mV 8 1,
cL 9 z8e [7,8],
eX 10 9 0,
eX 11 9 1,
eX 12 9 2,
mV 4 10,
mV 5 11,
mV 6 12] [4,5,6])
.ret))
def zjO:AFun:=⟨2,[.t 4,.t 5,.t 6],P_q094,false,false⟩
def zfI (C:Hd) (gl:GL) (v0 v1:AV) (h:Heap) (x:Esc) (K:KT):Prop:=
 C z8e [v0,v1] h fun t1 h2 y3=>
 pK (oExt t1 0) fun t4=>
 pK (oExt t1 1) fun t5=>
 pK (oExt t1 2) fun t6=>
 K .ret ⟨[(4,t4),(5,t5),(6,t6)],h2,(y3++x)⟩
theorem e_q094 {C gl v0 v1 h x K}:NW C gl zjO.body ⟨enter [v0,v1],h,x⟩ K=zfI C gl v0 v1 h x K:=by kernel_rfl
def P_q09c:ACode:=(.seq (rg [mV 4 (cS [])] [0,1])
(.seq (rg [mV 5 0,
mV 6 1,
cL 7 z9A [5,6],
mV 4 7] [4])
.ret))
def zjT:AFun:=⟨2,[.t 4],P_q09c,false,false⟩
def zla (C:Hd) (gl:GL) (v0 v1:AV) (h:Heap) (x:Esc) (K:KT):Prop:=
 C z9A [v0,v1] h fun t1 h2 y3=>
 K .ret ⟨[(4,t1)],h2,(y3++x)⟩
theorem e_q09c {C gl v0 v1 h x K}:NW C gl zjT.body ⟨enter [v0,v1],h,x⟩ K=zla C gl v0 v1 h x K:=by kernel_rfl
def z2Q:ACode:=.pr [0,1,7,8] (.seq (rg [bN 9 .lss 8 7] [0,1,7,8,9])
(.seq (.cond 9 .skip
(.exit 0))
(.seq (.block 1 (.seq (rg [mV 10 8,
mV 5 10] [0,1,5,7,8])
(.seq (rg [mV 11 1,
mV 12 0,
mV 13 5,
uO 14 (.idxs 12 13),
cL 15 zaa [11,14],
bN 16 .lss 15 (cI 0)] [0,1,7,8,16])
(.cond 16 (.seq (rg [mV 4 cF] [4])
.ret)
.skip))))
(rg [bN 17 .add 8 (cI 1),
mV 8 17] [0,1,7,8]))))
def zcr (C:Hd) (gl:GL) (v0 v1 v7 v8:AV) (h:Heap) (x:Esc) (K:KT):Prop:=
 pK (oBin .lss v8 v7) fun t1=>
 z0j t1 (pK (z17 v0 v8) fun t2=>
 C zaa [v1,t2] h fun t3 h4 y5=>
 pK (oBin .lss t3 (AI 0)) fun t6=>
 z0j t6 (K .ret ⟨[(4,(AB false))],h4,(y5++x)⟩)
 (pK (oBin .add v8 (AI 1)) fun t7=>
 K .normal ⟨[(0,v0),(1,v1),(7,v7),(8,t7)],h4,(y5++x)⟩))
 (K (.exit 0) ⟨[(0,v0),(1,v1),(7,v7),(8,v8),(9,t1)],h,x⟩)
theorem zlU {C gl e h x K}:NW C gl z2Q ⟨e,h,x⟩ K=zcr C gl (aget e 0) (aget e 1) (aget e 7) (aget e 8) h x K:=by kernel_rfl
theorem znx {C gl e h x K}:NW C gl (.loop z2Q) ⟨e,h,x⟩ K=z0T C gl z2Q K [(0,aget e 0),(1,aget e 1),(7,aget e 7),(8,aget e 8)] h x:=z0A
def z5J:ACode:=.pr [] (.seq (rg [mV 4 cT] [4])
.ret)
def zcs (C:Hd) (gl:GL) (h:Heap) (x:Esc) (K:KT):Prop:=
 K .ret ⟨[(4,(AB true))],h,x⟩
theorem zlV {C gl e h x K}:NW C gl z5J ⟨e,h,x⟩ K=zcs C gl h x K:=by kernel_rfl
def zsf (q1 q2:ACode):ACode:=(.seq (rg [mV 4 cF] [0,1])
(.seq (.seq (rg [mV 6 0,
uO 7 (.lens 6),
mV 8 (cI 0)] [0,1,7,8])
(.block 0 (.loop q1)))
q2))
def zj4:AFun:=⟨2,[.t 4],zsf z2Q z5J,false,false⟩
def zf8 (C:Hd) (gl:GL) (q1 q2:ACode) (v0 v1:AV) (h:Heap) (x:Esc) (K:KT):Prop:=
 pK (z0X v0) fun t1=>
 NW C gl (.loop q1) ⟨[(0,v0),(1,v1),(7,t1),(8,(AI 0))],h,x⟩ (z0u 0 (seqN C gl q2 K))
theorem E_q051 {C gl q1 q2 v0 v1 h x K}:NW C gl (zsf q1 q2) ⟨enter [v0,v1],h,x⟩ K=zf8 C gl q1 q2 v0 v1 h x K:=by kernel_rfl
theorem e_q051 {C gl v0 v1 h x K}:NW C gl zj4.body ⟨enter [v0,v1],h,x⟩ K=zf8 C gl z2Q z5J v0 v1 h x K:=E_q051
def z2V:ACode:=.pr [0,1,2,6,7,8] (.seq (.seq (rg [mV 11 8,
mV 12 1,
bN 13 .leq 11 12] [0,1,2,6,7,8,13])
(.cond 13 .skip
(.exit 0)))
(.block 1 (.seq (rg [mV 14 0,
mV 15 7,
mV 16 8,
mV 17 2,
cL 18 z6I [14,15,16,17]] [0,1,2,6,8])
(.seq (rg [mV 19 8,
mV 7 19] [0,1,2,6,7,8])
(rg [mV 20 8,
mV 21 6,
bN 22 .add 20 21,
mV 8 22] [0,1,2,6,7,8])))))
def zc3 (C:Hd) (gl:GL) (v0 v1 v2 v6 v7 v8:AV) (h:Heap) (x:Esc) (K:KT):Prop:=
 pK (oBin .leq v8 v1) fun t1=>
 z0j t1 (C z6I [v0,v7,v8,v2] h fun t2 h3 y4=>
 pK (oBin .add v8 v6) fun t5=>
 K .normal ⟨[(0,v0),(1,v1),(2,v2),(6,v6),(7,v8),(8,t5)],h3,(y4++x)⟩)
 (K (.exit 0) ⟨[(0,v0),(1,v1),(2,v2),(6,v6),(7,v7),(8,v8),(13,t1)],h,x⟩)
theorem zmf {C gl e h x K}:NW C gl z2V ⟨e,h,x⟩ K=zc3 C gl (aget e 0) (aget e 1) (aget e 2) (aget e 6) (aget e 7) (aget e 8) h x K:=by kernel_rfl
theorem zn3 {C gl e h x K}:NW C gl (.loop z2V) ⟨e,h,x⟩ K=z0T C gl z2V K [(0,aget e 0),(1,aget e 1),(2,aget e 2),(6,aget e 6),(7,aget e 7),(8,aget e 8)] h x:=z0A
def z3V:ACode:=.pr [0,1,2,6,7,8] (.seq (.seq (rg [mV 33 8,
mV 34 1,
bN 35 .leq 33 34] [0,1,2,6,7,8,35])
(.cond 35 .skip
(.exit 4)))
(.block 5 (.seq (rg [mV 36 0,
mV 37 7,
mV 38 7,
mV 39 6,
bN 40 .add 38 39,
mV 41 8,
mV 42 2,
cL 43 zfU [36,37,40,41,42]] [0,1,2,6,8])
(.seq (rg [mV 44 8,
mV 7 44] [0,1,2,6,7,8])
(rg [mV 45 8,
mV 46 6,
bN 47 .mul (cI 2) 46,
bN 48 .add 45 47,
mV 8 48] [0,1,2,6,7,8])))))
def zc4 (C:Hd) (gl:GL) (v0 v1 v2 v6 v7 v8:AV) (h:Heap) (x:Esc) (K:KT):Prop:=
 pK (oBin .leq v8 v1) fun t1=>
 z0j t1 (pK (oBin .add v7 v6) fun t2=>
 C zfU [v0,v7,t2,v8,v2] h fun t3 h4 y5=>
 pK (oBin .mul (AI 2) v6) fun t6=>
 pK (oBin .add v8 t6) fun t7=>
 K .normal ⟨[(0,v0),(1,v1),(2,v2),(6,v6),(7,v8),(8,t7)],h4,(y5++x)⟩)
 (K (.exit 4) ⟨[(0,v0),(1,v1),(2,v2),(6,v6),(7,v7),(8,v8),(35,t1)],h,x⟩)
theorem zmg {C gl e h x K}:NW C gl z3V ⟨e,h,x⟩ K=zc4 C gl (aget e 0) (aget e 1) (aget e 2) (aget e 6) (aget e 7) (aget e 8) h x K:=by kernel_rfl
theorem zn4 {C gl e h x K}:NW C gl (.loop z3V) ⟨e,h,x⟩ K=z0T C gl z3V K [(0,aget e 0),(1,aget e 1),(2,aget e 2),(6,aget e 6),(7,aget e 7),(8,aget e 8)] h x:=z0A
def z8E:ACode:=.pr [0,1,2,6] (rg [mV 61 6,
bN 62 .mul 61 (cI 2),
mV 6 62] [0,1,2,6])
def zc5 (C:Hd) (gl:GL) (v0 v1 v2 v6:AV) (h:Heap) (x:Esc) (K:KT):Prop:=
 pK (oBin .mul v6 (AI 2)) fun t1=>
 K .normal ⟨[(0,v0),(1,v1),(2,v2),(6,t1)],h,x⟩
theorem zmh {C gl e h x K}:NW C gl z8E ⟨e,h,x⟩ K=zc5 C gl (aget e 0) (aget e 1) (aget e 2) (aget e 6) h x K:=by kernel_rfl
def zbv (q3:ACode):ACode:=.pr [0,1,2,6,7] (.seq (.seq (rg [mV 49 7,
mV 50 6,
bN 51 .add 49 50,
mV 9 51] [0,1,2,6,7,9])
(.seq (rg [mV 52 9,
mV 53 1,
bN 54 .lss 52 53] [0,1,2,6,7,9,54])
(.cond 54 (rg [mV 55 0,
mV 56 7,
mV 57 9,
mV 58 1,
mV 59 2,
cL 60 zfU [55,56,57,58,59]] [0,1,2,6])
.skip)))
q3)
def z8F:ACode:=zbv z8E
def z7J (C:Hd) (gl:GL) (q3:ACode) (v0 v1 v2 v6 v7:AV) (h:Heap) (x:Esc) (K:KT):Prop:=
 pK (oBin .add v7 v6) fun t1=>
 pK (oBin .lss t1 v1) fun t2=>
 z0j t2 (C zfU [v0,v7,t1,v1,v2] h fun t3 h4 y5=>
 NW C gl q3 ⟨[(0,v0),(1,v1),(2,v2),(6,v6)],h4,(y5++x)⟩ K)
 (NW C gl q3 ⟨[(0,v0),(1,v1),(2,v2),(6,v6),(7,v7),(9,t1),(54,t2)],h,x⟩ K)
theorem ziA {C gl q3 e h x K}:NW C gl (zbv q3) ⟨e,h,x⟩ K=z7J C gl q3 (aget e 0) (aget e 1) (aget e 2) (aget e 6) (aget e 7) h x K:=by kernel_rfl
theorem zmi {C gl e h x K}:NW C gl z8F ⟨e,h,x⟩ K=z7J C gl z8E (aget e 0) (aget e 1) (aget e 2) (aget e 6) (aget e 7) h x K:=ziA
def zbw (q2 q4:ACode):ACode:=.pr [0,1,2,6] (.seq (.seq (rg [mV 28 6,
mV 29 1,
bN 30 .lss 28 29] [0,1,2,6,30])
(.cond 30 .skip
(.exit 2)))
(.block 3 (.seq (rg [mV 31 6,
bN 32 .mul (cI 2) 31,
mV 7 (cI 0),
mV 8 32] [0,1,2,6,7,8])
(.seq (.block 4 (.loop q2))
q4))))
def z3W:ACode:=zbw z3V z8F
def z7K (C:Hd) (gl:GL) (q2 q4:ACode) (v0 v1 v2 v6:AV) (h:Heap) (x:Esc) (K:KT):Prop:=
 pK (oBin .lss v6 v1) fun t1=>
 z0j t1 (pK (oBin .mul (AI 2) v6) fun t2=>
 NW C gl (.loop q2) ⟨[(0,v0),(1,v1),(2,v2),(6,v6),(7,(AI 0)),(8,t2)],h,x⟩ (z0u 4 (seqN C gl q4 (z0u 3 K))))
 (K (.exit 2) ⟨[(0,v0),(1,v1),(2,v2),(6,v6),(30,t1)],h,x⟩)
theorem ziB {C gl q2 q4 e h x K}:NW C gl (zbw q2 q4) ⟨e,h,x⟩ K=z7K C gl q2 q4 (aget e 0) (aget e 1) (aget e 2) (aget e 6) h x K:=by kernel_rfl
theorem zmj {C gl e h x K}:NW C gl z3W ⟨e,h,x⟩ K=z7K C gl z3V z8F (aget e 0) (aget e 1) (aget e 2) (aget e 6) h x K:=ziB
theorem zn5 {C gl e h x K}:NW C gl (.loop z3W) ⟨e,h,x⟩ K=z0T C gl z3W K [(0,aget e 0),(1,aget e 1),(2,aget e 2),(6,aget e 6)] h x:=z0A
def zbx (q5:ACode):ACode:=.pr [0,1,2,6,7] (.seq (rg [mV 23 0,
mV 24 7,
mV 25 1,
mV 26 2,
cL 27 z6I [23,24,25,26]] [0,1,2,6])
(.block 2 (.loop q5)))
def z5N:ACode:=zbx z3W
def z7L (C:Hd) (gl:GL) (q5:ACode) (v0 v1 v2 v6 v7:AV) (h:Heap) (x:Esc) (K:KT):Prop:=
 C z6I [v0,v7,v1,v2] h fun t1 h2 y3=>
 NW C gl (.loop q5) ⟨[(0,v0),(1,v1),(2,v2),(6,v6)],h2,(y3++x)⟩ (z0u 2 K)
theorem ziC {C gl q5 e h x K}:NW C gl (zbx q5) ⟨e,h,x⟩ K=z7L C gl q5 (aget e 0) (aget e 1) (aget e 2) (aget e 6) (aget e 7) h x K:=by kernel_rfl
theorem zmk {C gl e h x K}:NW C gl z5N ⟨e,h,x⟩ K=z7L C gl z3W (aget e 0) (aget e 1) (aget e 2) (aget e 6) (aget e 7) h x K:=ziC
def zsk (q1 q6:ACode):ACode:=(.seq (rg [mV 6 (cI 20)] [0,1,2,6])
(.seq (rg [mV 10 6,
mV 7 (cI 0),
mV 8 10] [0,1,2,6,7,8])
(.seq (.block 0 (.loop q1))
q6)))
def zjC:AFun:=⟨3,[],zsk z2V z5N,true,false⟩
def zfD (C:Hd) (gl:GL) (q1 q6:ACode) (v0 v1 v2:AV) (h:Heap) (x:Esc) (K:KT):Prop:=
 NW C gl (.loop q1) ⟨[(0,v0),(1,v1),(2,v2),(6,(AI 20)),(7,(AI 0)),(8,(AI 20))],h,x⟩ (z0u 0 (seqN C gl q6 K))
theorem E_q07g {C gl q1 q6 v0 v1 v2 h x K}:NW C gl (zsk q1 q6) ⟨enter [v0,v1,v2],h,x⟩ K=zfD C gl q1 q6 v0 v1 v2 h x K:=by kernel_rfl
theorem e_q07g {C gl v0 v1 v2 h x K}:NW C gl zjC.body ⟨enter [v0,v1,v2],h,x⟩ K=zfD C gl z2V z5N v0 v1 v2 h x K:=E_q07g
def P_q082:ACode:=(.seq (rg [uO 1 (.box 0),
mV 2 (cI 0)] [1])
(.seq (dr [dF (fA 5 3 none 1) [1],
dF (lD 6 none 5) [5],
dF (bN 7 .eql 6 (cI 7)) [6],
dF (fA 8 3 none 1) [1],
dF (lD 9 none 8) [8],
dF (bN 10 .eql 9 (cI 2)) [9],
dF (mV 3 7) [7],
dF (mV 4 10) [10]] [1,3,4])
(.seq (.block 0 (.seq (rg [fA 12 0 none 1,
lD 13 none 12,
cL 14 z1Y [13],
uO 15 (.un .not 14),
mV 11 15] [1,3,4,11])
(.cond 11 (.seq (rg [mV 2 (cI 5)] [2])
.ret)
(.seq (rg [fA 17 1 none 1,
lD 18 none 17,
cL 19 z1Z [18,(cI 1),(cI 1000000)],
mV 20 19,
gD 21 20 false (.faddr 2 none 1),
gD 22 20 false (.load none 21),
gD 23 20 false (.call z6B [22]),
gD 24 20 false (.un .not 23),
uO 25 (.pick 20 cT 24),
mV 16 25] [1,3,4,16])
(.cond 16 (.seq (rg [mV 2 (cI 1)] [2])
.ret)
(.seq (rg [fA 27 3 none 1,
lD 28 none 27,
cL 29 z1Z [28,(cI 1),(cI 7)],
mV 26 29] [1,3,4,26])
(.cond 26 (.seq (rg [mV 2 (cI 4)] [2])
.ret)
(.seq (rg [mV 31 3,
uO 32 (.un .not 31),
mV 33 32,
gD 34 33 true (.faddr 4 none 1),
gD 35 33 true (.load none 34),
gD 36 33 true (.call z1Y [35]),
gD 37 33 true (.un .not 36),
uO 38 (.pick 33 37 cF),
mV 39 38,
gD 40 39 false (.mv 4),
gD 41 39 false (.mv 40),
gD 42 41 true (.faddr 5 none 1),
gD 43 41 true (.load none 42),
gD 44 41 true (.call z1Y [43]),
gD 45 41 true (.un .not 44),
gD 46 39 false (.pick 41 45 cF),
uO 47 (.pick 39 cT 46),
mV 48 47,
gD 49 48 false (.mv 3),
gD 50 48 false (.mv 49),
gD 51 50 true (.faddr 6 none 1),
gD 52 50 true (.load none 51),
gD 53 50 true (.call z1Y [52]),
gD 54 50 true (.un .not 53),
gD 55 48 false (.pick 50 54 cF),
uO 56 (.pick 48 cT 55),
mV 30 56] [1,3,4,30])
(.cond 30 (.seq (rg [mV 2 (cI 5)] [2])
.ret)
(.seq (rg [mV 58 3,
mV 59 58,
gD 60 59 true (.faddr 7 none 1),
gD 61 59 true (.load none 60),
gD 62 59 true (.call z1Z [61,(cI 1),(cI 1000000)]),
uO 63 (.pick 59 62 cF),
mV 57 63] [1,3,4,57])
(.cond 57 (.seq (rg [mV 2 (cI 1)] [2])
.ret)
(.seq (rg [mV 65 3,
mV 66 65,
gD 67 66 true (.faddr 4 none 1),
gD 68 66 true (.load none 67),
gD 69 66 true (.bin .neq 68 (cS [])),
uO 70 (.pick 66 69 cF),
mV 71 70,
gD 72 71 false (.mv 4),
gD 73 71 false (.un .not 72),
gD 74 71 false (.mv 73),
gD 75 74 true (.faddr 5 none 1),
gD 76 74 true (.load none 75),
gD 77 74 true (.bin .neq 76 (cS [])),
gD 78 71 false (.pick 74 77 cF),
uO 79 (.pick 71 cT 78),
mV 80 79,
gD 81 80 false (.mv 3),
gD 82 80 false (.un .not 81),
gD 83 80 false (.mv 82),
gD 84 83 true (.faddr 6 none 1),
gD 85 83 true (.load none 84),
gD 86 83 true (.bin .neq 85 (cS [])),
gD 87 83 true (.mv 86),
gD 88 87 false (.faddr 7 none 1),
gD 89 87 false (.load none 88),
gD 90 87 false (.bin .neq 89 (cI 0)),
gD 91 83 true (.pick 87 cT 90),
gD 92 80 false (.pick 83 91 cF),
uO 93 (.pick 80 cT 92),
mV 64 93] [64])
(.cond 64 (.seq (rg [mV 2 (cI 3)] [2])
.ret)
.skip)))))))))))))
(.seq (rg [mV 2 (cI 0)] [2])
.ret))))
def zfc:AFun:=⟨1,[.t 2],P_q082,false,false⟩
def z5e (C:Hd) (gl:GL) (v0:AV) (h:Heap) (x:Esc) (K:KT):Prop:=
 wK (oBox v0 h) fun t1 h2 y3=>
 pK (z0g 3 none t1) fun t4=>
 pK (z0e none t4 h2) fun t5=>
 pK (oBin .eql t5 (AI 7)) fun t6=>
 pK (z0g 3 none t1) fun t7=>
 pK (z0e none t7 h2) fun t8=>
 pK (oBin .eql t8 (AI 2)) fun t9=>
 pK (z0g 0 none t1) fun t10=>
 pK (z0e none t10 h2) fun t11=>
 C z1Y [t11] h2 fun t12 h13 y14=>
 pK (oUn .not t12) fun t15=>
 z0j t15 (K .ret ⟨[(2,(AI 5))],h13,(y14++(y3++x))⟩)
 (pK (z0g 1 none t1) fun t16=>
 pK (z0e none t16 h13) fun t17=>
 C z1Z [t17,(AI 1),(AI 1000000)] h13 fun t18 h19 y20=>
 gP t18 false (z0g 2 none t1) h19 fun t21 h22 y23=>
 gP t18 false (z0e none t21 h22) h22 fun t24 h25 y26=>
 gV t18 false h25 (C z6B [t24] h25) fun t27 h28 y29=>
 gP t18 false (oUn .not t27) h28 fun t30 h31 y32=>
 pK (z0y t18 (AB true) t30) fun t33=>
 z0j t33 (K .ret ⟨[(2,(AI 1))],h31,(y32++(y29++(y26++(y23++(y20++(y14++(y3++x)))))))⟩)
 (pK (z0g 3 none t1) fun t34=>
 pK (z0e none t34 h31) fun t35=>
 C z1Z [t35,(AI 1),(AI 7)] h31 fun t36 h37 y38=>
 z0j t36 (K .ret ⟨[(2,(AI 4))],h37,(y38++(y32++(y29++(y26++(y23++(y20++(y14++(y3++x))))))))⟩)
 (pK (oUn .not t6) fun t39=>
 gP t39 true (z0g 4 none t1) h37 fun t40 h41 y42=>
 gP t39 true (z0e none t40 h41) h41 fun t43 h44 y45=>
 gV t39 true h44 (C z1Y [t43] h44) fun t46 h47 y48=>
 gP t39 true (oUn .not t46) h47 fun t49 h50 y51=>
 pK (z0y t39 t49 (AB false)) fun t52=>
 gM t52 false t9 h50 fun t53 h54 y55=>
 gM t52 false t53 h54 fun t56 h57 y58=>
 gP t56 true (z0g 5 none t1) h57 fun t59 h60 y61=>
 gP t56 true (z0e none t59 h60) h60 fun t62 h63 y64=>
 gV t56 true h63 (C z1Y [t62] h63) fun t65 h66 y67=>
 gP t56 true (oUn .not t65) h66 fun t68 h69 y70=>
 gP t52 false (z0y t56 t68 (AB false)) h69 fun t71 h72 y73=>
 pK (z0y t52 (AB true) t71) fun t74=>
 gM t74 false t6 h72 fun t75 h76 y77=>
 gM t74 false t75 h76 fun t78 h79 y80=>
 gP t78 true (z0g 6 none t1) h79 fun t81 h82 y83=>
 gP t78 true (z0e none t81 h82) h82 fun t84 h85 y86=>
 gV t78 true h85 (C z1Y [t84] h85) fun t87 h88 y89=>
 gP t78 true (oUn .not t87) h88 fun t90 h91 y92=>
 gP t74 false (z0y t78 t90 (AB false)) h91 fun t93 h94 y95=>
 pK (z0y t74 (AB true) t93) fun t96=>
 z0j t96 (K .ret ⟨[(2,(AI 5))],h94,(y95++(y92++(y89++(y86++(y83++(y80++(y77++(y73++(y70++(y67++(y64++(y61++(y58++(y55++(y51++(y48++(y45++(y42++(y38++(y32++(y29++(y26++(y23++(y20++(y14++(y3++x))))))))))))))))))))))))))⟩)
 (gP t6 true (z0g 7 none t1) h94 fun t97 h98 y99=>
 gP t6 true (z0e none t97 h98) h98 fun t100 h101 y102=>
 gV t6 true h101 (C z1Z [t100,(AI 1),(AI 1000000)] h101) fun t103 h104 y105=>
 pK (z0y t6 t103 (AB false)) fun t106=>
 z0j t106 (K .ret ⟨[(2,(AI 1))],h104,(y105++(y102++(y99++(y95++(y92++(y89++(y86++(y83++(y80++(y77++(y73++(y70++(y67++(y64++(y61++(y58++(y55++(y51++(y48++(y45++(y42++(y38++(y32++(y29++(y26++(y23++(y20++(y14++(y3++x)))))))))))))))))))))))))))))⟩)
 (gP t6 true (z0g 4 none t1) h104 fun t107 h108 y109=>
 gP t6 true (z0e none t107 h108) h108 fun t110 h111 y112=>
 gP t6 true (oBin .neq t110 (.p (.str []))) h111 fun t113 h114 y115=>
 pK (z0y t6 t113 (AB false)) fun t116=>
 gM t116 false t9 h114 fun t117 h118 y119=>
 gP t116 false (oUn .not t117) h118 fun t120 h121 y122=>
 gM t116 false t120 h121 fun t123 h124 y125=>
 gP t123 true (z0g 5 none t1) h124 fun t126 h127 y128=>
 gP t123 true (z0e none t126 h127) h127 fun t129 h130 y131=>
 gP t123 true (oBin .neq t129 (.p (.str []))) h130 fun t132 h133 y134=>
 gP t116 false (z0y t123 t132 (AB false)) h133 fun t135 h136 y137=>
 pK (z0y t116 (AB true) t135) fun t138=>
 gM t138 false t6 h136 fun t139 h140 y141=>
 gP t138 false (oUn .not t139) h140 fun t142 h143 y144=>
 gM t138 false t142 h143 fun t145 h146 y147=>
 gP t145 true (z0g 6 none t1) h146 fun t148 h149 y150=>
 gP t145 true (z0e none t148 h149) h149 fun t151 h152 y153=>
 gP t145 true (oBin .neq t151 (.p (.str []))) h152 fun t154 h155 y156=>
 gM t145 true t154 h155 fun t157 h158 y159=>
 gP t157 false (z0g 7 none t1) h158 fun t160 h161 y162=>
 gP t157 false (z0e none t160 h161) h161 fun t163 h164 y165=>
 gP t157 false (oBin .neq t163 (AI 0)) h164 fun t166 h167 y168=>
 gP t145 true (z0y t157 (AB true) t166) h167 fun t169 h170 y171=>
 gP t138 false (z0y t145 t169 (AB false)) h170 fun t172 h173 y174=>
 pK (z0y t138 (AB true) t172) fun t175=>
 z0j t175 (K .ret ⟨[(2,(AI 3))],h173,(y174++(y171++(y168++(y165++(y162++(y159++(y156++(y153++(y150++(y147++(y144++(y141++(y137++(y134++(y131++(y128++(y125++(y122++(y119++(y115++(y112++(y109++(y105++(y102++(y99++(y95++(y92++(y89++(y86++(y83++(y80++(y77++(y73++(y70++(y67++(y64++(y61++(y58++(y55++(y51++(y48++(y45++(y42++(y38++(y32++(y29++(y26++(y23++(y20++(y14++(y3++x)))))))))))))))))))))))))))))))))))))))))))))))))))⟩)
 (K .ret ⟨[(2,(AI 0))],h173,(y174++(y171++(y168++(y165++(y162++(y159++(y156++(y153++(y150++(y147++(y144++(y141++(y137++(y134++(y131++(y128++(y125++(y122++(y119++(y115++(y112++(y109++(y105++(y102++(y99++(y95++(y92++(y89++(y86++(y83++(y80++(y77++(y73++(y70++(y67++(y64++(y61++(y58++(y55++(y51++(y48++(y45++(y42++(y38++(y32++(y29++(y26++(y23++(y20++(y14++(y3++x)))))))))))))))))))))))))))))))))))))))))))))))))))⟩))))))
theorem e_q082 {C gl v0 h x K}:NW C gl zfc.body ⟨enter [v0],h,x⟩ K=z5e C gl v0 h x K:=by kernel_rfl
def P_q080:ACode:=(.seq (rg [uO 2 (.box 0),
uO 3 (.box 1),
mV 4 (cI 0)] [2,3])
(.seq (dr [dF (fA 5 2 none 2) [2],
dF (lD 6 none 5) [5],
dF (fA 7 2 none 3) [3],
dF (lD 8 none 7) [7],
dT (cL 9 z5m [6,8]) [6,8],
dF (fA 10 0 none 2) [2],
dA (lD 11 none 10) [10] false [4] [],
dF (fA 12 0 none 3) [3],
dA (lD 13 none 12) [12] false [4] [],
dT (cL 14 z5p [11,13]) [11,13],
dF (fA 15 1 none 2) [2],
dA (lD 16 none 15) [15] false [4,9] [],
dF (fA 17 1 none 3) [3],
dA (lD 18 none 17) [17] false [4,9] [],
dT (cL 19 z5m [16,18]) [16,18],
dF (uO 20 (.bsl false none 3 (.int .i64 0) [(0,9),(1,14),(2,19)])) [9,14,19],
dT (cL 21 z8c [20]) [20],
dF (mV 4 21) [21]] [4])
.ret))
def zfb:AFun:=⟨2,[.t 4],P_q080,false,false⟩
def zkS (C:Hd) (gl:GL) (v0 v1:AV) (h:Heap) (x:Esc) (K:KT):Prop:=
 wK (oBox v0 h) fun t1 h2 y3=>
 wK (oBox v1 h2) fun t4 h5 y6=>
 pK (z0g 2 none t1) fun t7=>
 pK (z0e none t7 h5) fun t8=>
 pK (z0g 2 none t4) fun t9=>
 pK (z0e none t9 h5) fun t10=>
 z1u C z5m [t8,t10] h5 fun t11 h12 y13=>
 pK (z0g 0 none t1) fun t14=>
 pK (z0e none t14 h12) fun t15=>
 (pK (z0e none t14 h5) fun v=>(fun u (g1:Heap) (y1:Esc)=>u=t15∧g1=h5∧y1=[]) v h5 [])∧(pK (z0g 0 none t4) fun t16=>
 pK (z0e none t16 h12) fun t17=>
 (pK (z0e none t16 h5) fun v=>(fun u (g1:Heap) (y1:Esc)=>u=t17∧g1=h5∧y1=[]) v h5 [])∧(z1u C z5p [t15,t17] h12 fun t18 h19 y20=>
 pK (z0g 1 none t1) fun t21=>
 pK (z0e none t21 h19) fun t22=>
 (pK (z0e none t21 h5) fun v=>(fun u (g1:Heap) (y1:Esc)=>u=t22∧g1=h5∧y1=[]) v h5 [])∧((pK (z0e none t21 h12) fun v=>(fun u (g1:Heap) (y1:Esc)=>u=t22∧g1=h12∧y1=[]) v h12 [])∧(pK (z0g 1 none t4) fun t23=>
 pK (z0e none t23 h19) fun t24=>
 (pK (z0e none t23 h5) fun v=>(fun u (g1:Heap) (y1:Esc)=>u=t24∧g1=h5∧y1=[]) v h5 [])∧((pK (z0e none t23 h12) fun v=>(fun u (g1:Heap) (y1:Esc)=>u=t24∧g1=h12∧y1=[]) v h12 [])∧(z1u C z5m [t22,t24] h19 fun t25 h26 y27=>
 wK (oBsl false none 3 (.int .i64 0) [(0,t11),(1,t18),(2,t25)] h26) fun t28 h29 y30=>
 (h29=h26∧y30=[])∧(z1u C z8c [t28] h29 fun t31 h32 y33=>
 K .ret ⟨[(4,t31)],h32,(y33++(y30++(y27++(y20++(y13++(y6++(y3++x)))))))⟩)))))))
theorem e_q080 {C gl v0 v1 h x K}:NW C gl zfb.body ⟨enter [v0,v1],h,x⟩ K=zkS C gl v0 v1 h x K:=by kernel_rfl
def z2Y:ACode:=.pr [3,8,9,10] (.seq (rg [bN 11 .lss 10 9] [3,8,9,10,11])
(.seq (.cond 11 .skip
(.exit 0))
(.seq (.block 1 (.seq (rg [iA 12 (some 8) 8 10,
lD 13 (some 8) 12,
uO 5 (.alloc [.p (.str []),.p (.int .i64 0),.p (.int .i64 0),.p (.int .i64 0),.p (.str []),.p (.str []),.p (.str []),.p (.int .i64 0)]),
wO (.store (some 8) 5 13)] [3,5,8,9,10])
(.seq (rg [fA 14 0 none 5,
lD 15 none 14,
fA 16 1 none 5,
lD 17 none 16,
uO 18 (.build [.p (.str []),.p (.int .i64 0)] [(0,1,15),(1,1,17)]),
uO 6 (.alloc [.p (.str []),.p (.int .i64 0)]),
wO (.store (some 2) 6 18)] [3,6,8,9,10])
(.seq (.seq (rg [mV 19 3,
lD 20 (some 2) 6,
uO 21 (.look ((some 2),[2,0]) false (AB false) 19 20)] [3,6,8,9,10,21])
(.cond 21 (.seq (rg [mV 2 cT] [2])
.ret)
.skip))
(rg [mV 22 3,
lD 23 (some 2) 6,
wO (.mupd ((some 2),[2,0]) 22 23 cT)] [3,8,9,10])))))
(rg [bN 24 .add 10 (cI 1),
mV 10 24] [3,8,9,10]))))
def zcG (C:Hd) (gl:GL) (v3 v8 v9 v10:AV) (h:Heap) (x:Esc) (K:KT):Prop:=
 pK (oBin .lss v10 v9) fun t1=>
 z0j t1 (pK (z0p (some 8) v8 v10 h) fun t2=>
 pK (z0e (some 8) t2 h) fun t3=>
 alK [.p (.str []),.p (.int .i64 0),.p (.int .i64 0),.p (.int .i64 0),.p (.str []),.p (.str []),.p (.str []),.p (.int .i64 0)] h fun t4 h5 y6=>
 wK (z0n (some 8) t4 t3 h5) fun t7 h8 y9=>
 pK (z0g 0 none t4) fun t10=>
 pK (z0e none t10 h8) fun t11=>
 pK (z0g 1 none t4) fun t12=>
 pK (z0e none t12 h8) fun t13=>
 pK (z2q [.p (.str []),.p (.int .i64 0)] [(0,1,t11),(1,1,t13)]) fun t14=>
 alK [.p (.str []),.p (.int .i64 0)] h8 fun t15 h16 y17=>
 wK (z0n (some 2) t15 t14 h16) fun t18 h19 y20=>
 pK (z0e (some 2) t15 h19) fun t21=>
 pK (z82 ((some 2),[2,0]) false (AB false) v3 t21 h19) fun t22=>
 z0j t22 (K .ret ⟨[(2,(AB true))],h19,(y20++(y17++(y9++(y6++x))))⟩)
 (pK (z0e (some 2) t15 h19) fun t23=>
 wK (zaM ((some 2),[2,0]) v3 t23 (AB true) h19) fun t24 h25 y26=>
 pK (oBin .add v10 (AI 1)) fun t27=>
 K .normal ⟨[(3,v3),(8,v8),(9,v9),(10,t27)],h25,(y26++(y20++(y17++(y9++(y6++x)))))⟩))
 (K (.exit 0) ⟨[(3,v3),(8,v8),(9,v9),(10,v10),(11,t1)],h,x⟩)
theorem zmr {C gl e h x K}:NW C gl z2Y ⟨e,h,x⟩ K=zcG C gl (aget e 3) (aget e 8) (aget e 9) (aget e 10) h x K:=by kernel_rfl
theorem zn9 {C gl e h x K}:NW C gl (.loop (.scope z2Y)) ⟨e,h,x⟩ K=z0T C gl (.scope z2Y) K [(3,aget e 3),(8,aget e 8),(9,aget e 9),(10,aget e 10)] h x:=z1E
def z5S:ACode:=.pr [] (.seq (rg [mV 2 cF] [2])
.ret)
def zcH (C:Hd) (gl:GL) (h:Heap) (x:Esc) (K:KT):Prop:=
 K .ret ⟨[(2,(AB false))],h,x⟩
theorem zms {C gl e h x K}:NW C gl z5S ⟨e,h,x⟩ K=zcH C gl h x K:=by kernel_rfl
def zsp (q1 q2:ACode):ACode:=(.seq (rg [mV 2 cF] [0])
(.seq (rg [uO 7 (.mkmap),
mV 3 7] [0,3])
(.seq (.seq (rg [mV 8 0,
lN 9 8,
mV 10 (cI 0)] [3,8,9,10])
(.block 0 (.loop (.scope q1))))
q2)))
def zfd:AFun:=⟨1,[.t 2],zsp z2Y z5S,false,false⟩
def zfF (C:Hd) (gl:GL) (q1 q2:ACode) (v0:AV) (h:Heap) (x:Esc) (K:KT):Prop:=
 mmK h fun t1 h2 y3=>
 pK (oLen v0) fun t4=>
 NW C gl (.loop (.scope q1)) ⟨[(3,t1),(8,v0),(9,t4),(10,(AI 0))],h2,(y3++x)⟩ (z0u 0 (seqN C gl q2 K))
theorem E_q08i {C gl q1 q2 v0 h x K}:NW C gl (zsp q1 q2) ⟨enter [v0],h,x⟩ K=zfF C gl q1 q2 v0 h x K:=by kernel_rfl
theorem e_q08i {C gl v0 h x K}:NW C gl zfd.body ⟨enter [v0],h,x⟩ K=zfF C gl z2Y z5S v0 h x K:=E_q08i
def P_q08k:ACode:=(.seq (rg [mV 2 (cS [])] [0])
(.seq (rg [uO 3 (.build [.p (.str []),.p (.str []),.p (.str []),.p (.str []),.p (.str []),.p (.str []),.p (.str [])] [(0,1,(cS [101,110,116,101,114])),(1,1,(cS [115,116,97,114,116])),(2,1,(cS [112,97,115,115])),(3,1,(cS [102,97,105,108])),(4,1,(cS [114,101,112,97,105,114])),(5,1,(cS [115,99,114,97,112])),(6,1,(cS [117,110,100,111]))]),
mV 4 0,
bN 5 .sub 4 (cI 1),
uO 6 (.idxa 7 none 3 5),
mV 2 6] [2])
.ret))
def zjJ:AFun:=⟨1,[.t 2],P_q08k,false,false⟩
def z5f (C:Hd) (gl:GL) (v0:AV) (h:Heap) (x:Esc) (K:KT):Prop:=
 pK (z2q [.p (.str []),.p (.str []),.p (.str []),.p (.str []),.p (.str []),.p (.str []),.p (.str [])] [(0,1,(.p (.str [101,110,116,101,114]))),(1,1,(.p (.str [115,116,97,114,116]))),(2,1,(.p (.str [112,97,115,115]))),(3,1,(.p (.str [102,97,105,108]))),(4,1,(.p (.str [114,101,112,97,105,114]))),(5,1,(.p (.str [115,99,114,97,112]))),(6,1,(.p (.str [117,110,100,111])))]) fun t1=>
 pK (oBin .sub v0 (AI 1)) fun t2=>
 pK (zqT 7 none t1 t2) fun t3=>
 K .ret ⟨[(2,t3)],h,x⟩
theorem e_q08k {C gl v0 h x K}:NW C gl zjJ.body ⟨enter [v0],h,x⟩ K=z5f C gl v0 h x K:=by kernel_rfl
def z2S:ACode:=.pr [0,1,7,8] (.seq (rg [bN 9 .lss 8 7] [0,1,7,8,9])
(.seq (.cond 9 .skip
(.exit 0))
(.seq (.block 1 (.seq (rg [mV 10 8,
mV 5 10] [0,1,5,7,8])
(.seq (rg [mV 11 1,
mV 12 0,
mV 13 5,
iA 14 (some 8) 12 13,
lD 15 (some 8) 14,
uO 16 (.callv 11 [15])] [0,1,5,7,8,16])
(.cond 16 (.seq (rg [mV 17 5,
mV 4 17] [4])
.ret)
.skip))))
(rg [bN 18 .add 8 (cI 1),
mV 8 18] [0,1,7,8]))))
def zcx (C:Hd) (gl:GL) (v0 v1 v7 v8:AV) (h:Heap) (x:Esc) (K:KT):Prop:=
 pK (oBin .lss v8 v7) fun t1=>
 z0j t1 (pK (z0p (some 8) v0 v8 h) fun t2=>
 pK (z0e (some 8) t2 h) fun t3=>
 z4V C v1 [t3] h fun t4 h5 y6=>
 z0j t4 (K .ret ⟨[(4,v8)],h5,(y6++x)⟩)
 (pK (oBin .add v8 (AI 1)) fun t7=>
 K .normal ⟨[(0,v0),(1,v1),(7,v7),(8,t7)],h5,(y6++x)⟩))
 (K (.exit 0) ⟨[(0,v0),(1,v1),(7,v7),(8,v8),(9,t1)],h,x⟩)
theorem zlY {C gl e h x K}:NW C gl z2S ⟨e,h,x⟩ K=zcx C gl (aget e 0) (aget e 1) (aget e 7) (aget e 8) h x K:=by kernel_rfl
theorem znz {C gl e h x K}:NW C gl (.loop z2S) ⟨e,h,x⟩ K=z0T C gl z2S K [(0,aget e 0),(1,aget e 1),(7,aget e 7),(8,aget e 8)] h x:=z0A
def z5L:ACode:=.pr [] (.seq (rg [mV 4 (cI (-1))] [4])
.ret)
def zcy (C:Hd) (gl:GL) (h:Heap) (x:Esc) (K:KT):Prop:=
 K .ret ⟨[(4,(AI (-1)))],h,x⟩
theorem zlZ {C gl e h x K}:NW C gl z5L ⟨e,h,x⟩ K=zcy C gl h x K:=by kernel_rfl
def zsh (q1 q2:ACode):ACode:=(.seq (rg [mV 4 (cI 0)] [0,1])
(.seq (.seq (rg [mV 6 0,
lN 7 6,
mV 8 (cI 0)] [0,1,7,8])
(.block 0 (.loop q1)))
q2))
def zj9:AFun:=⟨2,[.t 4],zsh z2S z5L,true,false⟩
def zfA (C:Hd) (gl:GL) (q1 q2:ACode) (v0 v1:AV) (h:Heap) (x:Esc) (K:KT):Prop:=
 pK (oLen v0) fun t1=>
 NW C gl (.loop q1) ⟨[(0,v0),(1,v1),(7,t1),(8,(AI 0))],h,x⟩ (z0u 0 (seqN C gl q2 K))
theorem E_q05u {C gl q1 q2 v0 v1 h x K}:NW C gl (zsh q1 q2) ⟨enter [v0,v1],h,x⟩ K=zfA C gl q1 q2 v0 v1 h x K:=by kernel_rfl
theorem e_q05u {C gl v0 v1 h x K}:NW C gl zj9.body ⟨enter [v0,v1],h,x⟩ K=zfA C gl z2S z5L v0 v1 h x K:=E_q05u
def z2X:ACode:=.pr [0,3] (.seq (.seq (rg [mV 4 3,
bN 5 .leq 4 (cI 7)] [0,3,5])
(.cond 5 .skip
(.exit 0)))
(.seq (.block 1 (.seq (rg [mV 8 3,
cL 9 z6J [8],
mV 10 0,
bN 11 .eql 9 10] [0,3,11])
(.cond 11 (.seq (rg [mV 12 3,
mV 2 12] [2])
.ret)
.skip)))
(rg [mV 6 3,
bN 7 .add 6 (cI 1),
mV 3 7] [0,3])))
def zcC (C:Hd) (gl:GL) (v0 v3:AV) (h:Heap) (x:Esc) (K:KT):Prop:=
 pK (oBin .leq v3 (AI 7)) fun t1=>
 z0j t1 (C z6J [v3] h fun t2 h3 y4=>
 pK (oBin .eql t2 v0) fun t5=>
 z0j t5 (K .ret ⟨[(2,v3)],h3,(y4++x)⟩)
 (pK (oBin .add v3 (AI 1)) fun t6=>
 K .normal ⟨[(0,v0),(3,t6)],h3,(y4++x)⟩))
 (K (.exit 0) ⟨[(0,v0),(3,v3),(5,t1)],h,x⟩)
theorem zmo {C gl e h x K}:NW C gl z2X ⟨e,h,x⟩ K=zcC C gl (aget e 0) (aget e 3) h x K:=by kernel_rfl
theorem zn8 {C gl e h x K}:NW C gl (.loop z2X) ⟨e,h,x⟩ K=z0T C gl z2X K [(0,aget e 0),(3,aget e 3)] h x:=z0A
def z5Q:ACode:=.pr [] (.seq (rg [mV 2 (cI 0)] [2])
.ret)
def zcD (C:Hd) (gl:GL) (h:Heap) (x:Esc) (K:KT):Prop:=
 K .ret ⟨[(2,(AI 0))],h,x⟩
theorem zmp {C gl e h x K}:NW C gl z5Q ⟨e,h,x⟩ K=zcD C gl h x K:=by kernel_rfl
def zsn (q1 q2:ACode):ACode:=(.seq (rg [mV 2 (cI 0)] [0])
(.seq (.seq (rg [mV 3 (cI 1)] [0,3])
(.block 0 (.loop q1)))
q2))
def zjG:AFun:=⟨1,[.t 2],zsn z2X z5Q,false,false⟩
def zfE (C:Hd) (gl:GL) (q1 q2:ACode) (v0:AV) (h:Heap) (x:Esc) (K:KT):Prop:=
 NW C gl (.loop q1) ⟨[(0,v0),(3,(AI 1))],h,x⟩ (z0u 0 (seqN C gl q2 K))
theorem E_q08c {C gl q1 q2 v0 h x K}:NW C gl (zsn q1 q2) ⟨enter [v0],h,x⟩ K=zfE C gl q1 q2 v0 h x K:=by kernel_rfl
theorem e_q08c {C gl v0 h x K}:NW C gl zjG.body ⟨enter [v0],h,x⟩ K=zfE C gl z2X z5Q v0 h x K:=E_q08c
def z2T:ACode:=.pr [0,1,7,8] (.seq (rg [bN 9 .lss 8 7] [0,1,7,8,9])
(.seq (.cond 9 .skip
(.exit 0))
(.seq (.block 1 (.seq (rg [mV 10 8,
mV 5 10] [0,1,5,7,8])
(.seq (rg [mV 11 1,
mV 12 0,
mV 13 5,
iA 14 none 12 13,
lD 15 none 14,
bN 16 .eql 11 15] [0,1,5,7,8,16])
(.cond 16 (.seq (rg [mV 17 5,
mV 4 17] [4])
.ret)
.skip))))
(rg [bN 18 .add 8 (cI 1),
mV 8 18] [0,1,7,8]))))
def zcz (C:Hd) (gl:GL) (v0 v1 v7 v8:AV) (h:Heap) (x:Esc) (K:KT):Prop:=
 pK (oBin .lss v8 v7) fun t1=>
 z0j t1 (pK (z0p none v0 v8 h) fun t2=>
 pK (z0e none t2 h) fun t3=>
 pK (oBin .eql v1 t3) fun t4=>
 z0j t4 (K .ret ⟨[(4,v8)],h,x⟩)
 (pK (oBin .add v8 (AI 1)) fun t5=>
 K .normal ⟨[(0,v0),(1,v1),(7,v7),(8,t5)],h,x⟩))
 (K (.exit 0) ⟨[(0,v0),(1,v1),(7,v7),(8,v8),(9,t1)],h,x⟩)
theorem zma {C gl e h x K}:NW C gl z2T ⟨e,h,x⟩ K=zcz C gl (aget e 0) (aget e 1) (aget e 7) (aget e 8) h x K:=by kernel_rfl
theorem zn0 {C gl e h x K}:NW C gl (.loop z2T) ⟨e,h,x⟩ K=z0T C gl z2T K [(0,aget e 0),(1,aget e 1),(7,aget e 7),(8,aget e 8)] h x:=z0A
def z5M:ACode:=.pr [] (.seq (rg [mV 4 (cI (-1))] [4])
.ret)
def zc0 (C:Hd) (gl:GL) (h:Heap) (x:Esc) (K:KT):Prop:=
 K .ret ⟨[(4,(AI (-1)))],h,x⟩
theorem zmb {C gl e h x K}:NW C gl z5M ⟨e,h,x⟩ K=zc0 C gl h x K:=by kernel_rfl
def zsi (q1 q2:ACode):ACode:=(.seq (rg [mV 4 (cI 0)] [0,1])
(.seq (.seq (rg [mV 6 0,
lN 7 6,
mV 8 (cI 0)] [0,1,7,8])
(.block 0 (.loop q1)))
q2))
def zfa:AFun:=⟨2,[.t 4],zsi z2T z5M,true,false⟩
def zfB (C:Hd) (gl:GL) (q1 q2:ACode) (v0 v1:AV) (h:Heap) (x:Esc) (K:KT):Prop:=
 pK (oLen v0) fun t1=>
 NW C gl (.loop q1) ⟨[(0,v0),(1,v1),(7,t1),(8,(AI 0))],h,x⟩ (z0u 0 (seqN C gl q2 K))
theorem E_q05z {C gl q1 q2 v0 v1 h x K}:NW C gl (zsi q1 q2) ⟨enter [v0,v1],h,x⟩ K=zfB C gl q1 q2 v0 v1 h x K:=by kernel_rfl
theorem e_q05z {C gl v0 v1 h x K}:NW C gl zfa.body ⟨enter [v0,v1],h,x⟩ K=zfB C gl z2T z5M v0 v1 h x K:=E_q05z
def P_q095:ACode:=(.seq (rg [mV 4 (cS []),
mV 5 cF] [0,1])
(.seq (rg [mV 6 0,
mV 7 1,
cL 8 z97 [6,7],
eX 9 8 0,
eX 10 8 1,
mV 4 9,
mV 5 10] [4,5])
.ret))
def zjP:AFun:=⟨2,[.t 4,.t 5],P_q095,false,false⟩
def zkW (C:Hd) (gl:GL) (v0 v1:AV) (h:Heap) (x:Esc) (K:KT):Prop:=
 C z97 [v0,v1] h fun t1 h2 y3=>
 pK (oExt t1 0) fun t4=>
 pK (oExt t1 1) fun t5=>
 K .ret ⟨[(4,t4),(5,t5)],h2,(y3++x)⟩
theorem e_q095 {C gl v0 v1 h x K}:NW C gl zjP.body ⟨enter [v0,v1],h,x⟩ K=zkW C gl v0 v1 h x K:=by kernel_rfl
def z3Y:ACode:=.pr [0,1,2,3,9,10] (.seq (.seq (rg [mV 34 10,
mV 35 3,
bN 36 .lss 34 35] [0,1,2,3,9,10,36])
(.cond 36 .skip
(.exit 0)))
(.block 1 (.seq (rg [mV 37 0,
mV 38 1,
cL 39 z9Z [37,38],
mV 11 39] [0,1,2,3,9,10,11])
(.seq (.seq (rg [mV 40 11,
bN 41 .lss 40 (cI 0)] [0,1,2,3,9,10,11,41])
(.cond 41 (.exit 0)
.skip))
(.seq (rg [mV 42 9,
mV 43 10,
mV 44 0,
mV 45 11,
mV 46 2,
bN 47 .add 45 46,
uO 48 (.slstr 44 none (some 47)),
iA 49 none 42 43,
wO (.store none 49 48)] [0,1,2,3,9,10,11])
(.seq (rg [mV 50 0,
mV 51 11,
mV 52 1,
uO 53 (.lens 52),
bN 54 .add 51 53,
uO 55 (.slstr 50 (some 54) none),
mV 0 55] [0,1,2,3,9,10])
(rg [mV 56 10,
bN 57 .add 56 (cI 1),
mV 10 57] [0,1,2,3,9,10])))))))
def zcK (C:Hd) (gl:GL) (v0 v1 v2 v3 v9 v10:AV) (h:Heap) (x:Esc) (K:KT):Prop:=
 pK (oBin .lss v10 v3) fun t1=>
 z0j t1 (C z9Z [v0,v1] h fun t2 h3 y4=>
 pK (oBin .lss t2 (AI 0)) fun t5=>
 z0j t5 (K (.exit 0) ⟨[(0,v0),(1,v1),(2,v2),(3,v3),(9,v9),(10,v10),(11,t2),(41,t5)],h3,(y4++x)⟩)
 (pK (oBin .add t2 v2) fun t6=>
 pK (z0Y v0 none (some t6)) fun t7=>
 pK (z0p none v9 v10 h3) fun t8=>
 wK (z0n none t8 t7 h3) fun t9 h10 y11=>
 pK (z0X v1) fun t12=>
 pK (oBin .add t2 t12) fun t13=>
 pK (z0Y v0 (some t13) none) fun t14=>
 pK (oBin .add v10 (AI 1)) fun t15=>
 K .normal ⟨[(0,t14),(1,v1),(2,v2),(3,v3),(9,v9),(10,t15)],h10,(y11++(y4++x))⟩))
 (K (.exit 0) ⟨[(0,v0),(1,v1),(2,v2),(3,v3),(9,v9),(10,v10),(36,t1)],h,x⟩)
theorem zmx {C gl e h x K}:NW C gl z3Y ⟨e,h,x⟩ K=zcK C gl (aget e 0) (aget e 1) (aget e 2) (aget e 3) (aget e 9) (aget e 10) h x K:=by kernel_rfl
theorem znB {C gl e h x K}:NW C gl (.loop z3Y) ⟨e,h,x⟩ K=z0T C gl z3Y K [(0,aget e 0),(1,aget e 1),(2,aget e 2),(3,aget e 3),(9,aget e 9),(10,aget e 10)] h x:=z0A
def z8I:ACode:=.pr [0,9,10] (.seq (rg [mV 58 9,
mV 59 10,
mV 60 0,
iA 61 none 58 59,
wO (.store none 61 60)] [9,10])
(.seq (rg [mV 62 9,
mV 63 10,
bN 64 .add 63 (cI 1),
uO 65 (.slice none 62 none (some 64) none),
mV 8 65] [8])
.ret))
def zcL (C:Hd) (gl:GL) (v0 v9 v10:AV) (h:Heap) (x:Esc) (K:KT):Prop:=
 pK (z0p none v9 v10 h) fun t1=>
 wK (z0n none t1 v0 h) fun t2 h3 y4=>
 pK (oBin .add v10 (AI 1)) fun t5=>
 pK (z6O none v9 none (some t5) none h3) fun t6=>
 K .ret ⟨[(8,t6)],h3,(y4++x)⟩
theorem zmy {C gl e h x K}:NW C gl z8I ⟨e,h,x⟩ K=zcL C gl (aget e 0) (aget e 9) (aget e 10) h x K:=by kernel_rfl
def zb0 (q1 q2:ACode):ACode:=.pr [0,1,2,3] (.seq (rg [mV 25 3,
mV 26 0,
uO 27 (.lens 26),
bN 28 .add 27 (cI 1),
uO 29 (.mn [25,28]),
mV 3 29] [0,1,2,3])
(.seq (rg [mV 30 3,
uO 31 (.mksl none (.str []) 30 30),
mV 9 31] [0,1,2,3,9])
(.seq (rg [mV 32 3,
bN 33 .sub 32 (cI 1),
mV 3 33] [0,1,2,3,9])
(.seq (rg [mV 10 (cI 0)] [0,1,2,3,9,10])
(.seq (.block 0 (.loop q1))
q2)))))
def z5U:ACode:=zb0 z3Y z8I
def z5g (C:Hd) (gl:GL) (q1 q2:ACode) (v0 v1 v2 v3:AV) (h:Heap) (x:Esc) (K:KT):Prop:=
 pK (z0X v0) fun t1=>
 pK (oBin .add t1 (AI 1)) fun t2=>
 pK (oMn [v3,t2]) fun t3=>
 wK (zqU none (.str []) t3 t3 h) fun t4 h5 y6=>
 pK (oBin .sub t3 (AI 1)) fun t7=>
 NW C gl (.loop q1) ⟨[(0,v0),(1,v1),(2,v2),(3,t7),(9,t4),(10,(AI 0))],h5,(y6++x)⟩ (z0u 0 (seqN C gl q2 K))
theorem ziF {C gl q1 q2 e h x K}:NW C gl (zb0 q1 q2) ⟨e,h,x⟩ K=z5g C gl q1 q2 (aget e 0) (aget e 1) (aget e 2) (aget e 3) h x K:=by kernel_rfl
theorem z7Z {C gl e h x K}:NW C gl z5U ⟨e,h,x⟩ K=z5g C gl z3Y z8I (aget e 0) (aget e 1) (aget e 2) (aget e 3) h x K:=ziF
def zsr (q3:ACode):ACode:=(.seq (rg [mV 8 (.c (.p (.sl none [])))] [0,1,2,3])
(.seq (.seq (rg [mV 12 3,
bN 13 .eql 12 (cI 0)] [0,1,2,3,13])
(.cond 13 (.seq (rg [mV 8 (.c (.p (.sl none [])))] [8])
.ret)
.skip))
(.seq (.seq (rg [mV 14 1,
bN 15 .eql 14 (cS [])] [0,1,2,3,15])
(.cond 15 (.seq (rg [mV 16 0,
mV 17 3,
cL 18 zdf [16,17],
mV 8 18] [8])
.ret)
.skip))
(.seq (.seq (rg [mV 19 3,
bN 20 .lss 19 (cI 0)] [0,1,2,3,20])
(.cond 20 (rg [mV 21 0,
mV 22 1,
cL 23 zdd [21,22],
bN 24 .add 23 (cI 1),
mV 3 24] [0,1,2,3])
.skip))
q3))))
def zjV:AFun:=⟨4,[.t 8],zsr z5U,false,false⟩
def zfJ (C:Hd) (gl:GL) (q3:ACode) (v0 v1 v2 v3:AV) (h:Heap) (x:Esc) (K:KT):Prop:=
 pK (oBin .eql v3 (AI 0)) fun t1=>
 z0j t1 (K .ret ⟨[(8,(.p (.sl none [])))],h,x⟩)
 (pK (oBin .eql v1 (.p (.str []))) fun t2=>
 z0j t2 (C zdf [v0,v3] h fun t3 h4 y5=>
 K .ret ⟨[(8,t3)],h4,(y5++x)⟩)
 (pK (oBin .lss v3 (AI 0)) fun t6=>
 z0j t6 (C zdd [v0,v1] h fun t7 h8 y9=>
 pK (oBin .add t7 (AI 1)) fun t10=>
 NW C gl q3 ⟨[(0,v0),(1,v1),(2,v2),(3,t10)],h8,(y9++x)⟩ K)
 (NW C gl q3 ⟨[(0,v0),(1,v1),(2,v2),(3,v3),(20,t6)],h,x⟩ K)))
theorem E_q09f {C gl q3 v0 v1 v2 v3 h x K}:NW C gl (zsr q3) ⟨enter [v0,v1,v2,v3],h,x⟩ K=zfJ C gl q3 v0 v1 v2 v3 h x K:=by kernel_rfl
theorem e_q09f {C gl v0 v1 v2 v3 h x K}:NW C gl zjV.body ⟨enter [v0,v1,v2,v3],h,x⟩ K=zfJ C gl z5U v0 v1 v2 v3 h x K:=E_q09f
def P_q007:ACode:=(.seq (rg [mV 2 cF] [0])
(.seq (rg [mV 3 0,
cL 4 z1Z [3,(cI 0),(cI 345686399999)],
uO 5 (.un .not 4),
mV 2 5] [2])
.ret))
def zeS:AFun:=⟨1,[.t 2],P_q007,false,false⟩
def zk8 (C:Hd) (gl:GL) (v0:AV) (h:Heap) (x:Esc) (K:KT):Prop:=
 C z1Z [v0,(AI 0),(AI 345686399999)] h fun t1 h2 y3=>
 pK (oUn .not t1) fun t4=>
 K .ret ⟨[(2,t4)],h2,(y3++x)⟩
theorem e_q007 {C gl v0 h x K}:NW C gl zeS.body ⟨enter [v0],h,x⟩ K=zk8 C gl v0 h x K:=by kernel_rfl
def P_q01u:ACode:=(.seq (rg [mV 4 (cS []),
mV 5 (cS []),
mV 6 cF] [0,1])
(.seq (.seq (rg [mV 8 0,
mV 9 1,
cL 10 z6D [8,9],
mV 7 10] [0,1,7])
(.seq (rg [mV 11 7,
bN 12 .geq 11 (cI 0)] [0,1,7,12])
(.cond 12 (.seq (dr [dF (mV 13 0) [0],
dF (mV 14 7) [7],
dF (uO 15 (.slstr 13 none (some 14))) [13,14],
dF (mV 16 0) [0],
dF (mV 17 7) [7],
dF (mV 18 1) [1],
dF (uO 19 (.lens 18)) [18],
dF (bN 20 .add 17 19) [17,19],
dF (uO 21 (.slstr 16 (some 20) none)) [16,20],
dF (mV 4 15) [15],
dF (mV 5 21) [21],
dF (mV 6 cT) []] [4,5,6])
.ret)
.skip)))
(.seq (rg [mV 22 0,
mV 4 22,
mV 5 (cS []),
mV 6 cF] [4,5,6])
.ret)))
def ziV:AFun:=⟨2,[.t 4,.t 5,.t 6],P_q01u,false,false⟩
def zfq (C:Hd) (gl:GL) (v0 v1:AV) (h:Heap) (x:Esc) (K:KT):Prop:=
 C z6D [v0,v1] h fun t1 h2 y3=>
 pK (oBin .geq t1 (AI 0)) fun t4=>
 z0j t4 (pK (z0Y v0 none (some t1)) fun t5=>
 pK (z0X v1) fun t6=>
 pK (oBin .add t1 t6) fun t7=>
 pK (z0Y v0 (some t7) none) fun t8=>
 K .ret ⟨[(4,t5),(5,t8),(6,(AB true))],h2,(y3++x)⟩)
 (K .ret ⟨[(4,v0),(5,(.p (.str []))),(6,(AB false))],h2,(y3++x)⟩)
theorem e_q01u {C gl v0 v1 h x K}:NW C gl ziV.body ⟨enter [v0,v1],h,x⟩ K=zfq C gl v0 v1 h x K:=by kernel_rfl
def P_q020:ACode:=(.seq (rg [mV 4 (cS [])] [0,1])
(.seq (.seq (rg [mV 5 0,
mV 6 1,
cL 7 z98 [5,6]] [0,1,7])
(.cond 7 (.seq (rg [mV 8 0,
mV 9 1,
uO 10 (.lens 9),
uO 11 (.slstr 8 (some 10) none),
mV 4 11] [4])
.ret)
.skip))
(.seq (rg [mV 12 0,
mV 4 12] [4])
.ret)))
def zjb:AFun:=⟨2,[.t 4],P_q020,false,false⟩
def zfw (C:Hd) (gl:GL) (v0 v1:AV) (h:Heap) (x:Esc) (K:KT):Prop:=
 C z98 [v0,v1] h fun t1 h2 y3=>
 z0j t1 (pK (z0X v1) fun t4=>
 pK (z0Y v0 (some t4) none) fun t5=>
 K .ret ⟨[(4,t5)],h2,(y3++x)⟩)
 (K .ret ⟨[(4,v0)],h2,(y3++x)⟩)
theorem e_q020 {C gl v0 v1 h x K}:NW C gl zjb.body ⟨enter [v0,v1],h,x⟩ K=zfw C gl v0 v1 h x K:=by kernel_rfl
def P_q097:ACode:=(.seq (rg [mV 4 (cI 0)] [0,1])
(.seq (rg [mV 5 0,
mV 6 1,
cL 7 z3B [5,6],
mV 4 7] [4])
.ret))
def zjR:AFun:=⟨2,[.t 4],P_q097,false,false⟩
def zkY (C:Hd) (gl:GL) (v0 v1:AV) (h:Heap) (x:Esc) (K:KT):Prop:=
 C z3B [v0,v1] h fun t1 h2 y3=>
 K .ret ⟨[(4,t1)],h2,(y3++x)⟩
theorem e_q097 {C gl v0 v1 h x K}:NW C gl zjR.body ⟨enter [v0,v1],h,x⟩ K=zkY C gl v0 v1 h x K:=by kernel_rfl
def z3U:ACode:=.pr [0,1,2,3,8,9] (.seq (.seq (dr [dF (mV 18 9) [9],
dF (mV 19 1) [1],
dF (bN 20 .gtr 18 19) [18,19],
dF (mV 21 20) [20],
dF (gD 22 21 true (.mv 3)) [3,21],
dF (gD 23 21 true (.mv 0)) [0,21],
dF (gD 24 21 true (.mv 9)) [9,21],
dF (gD 25 21 true (.iaddr (some 8) 23 24)) [23,24,21],
dF (gD 26 21 true (.load (some 8) 25)) [25,21],
dF (gD 27 21 true (.mv 0)) [0,21],
dF (gD 28 21 true (.mv 9)) [9,21],
dF (gD 29 21 true (.bin .sub 28 (cI 1))) [28,21],
dF (gD 30 21 true (.iaddr (some 8) 27 29)) [27,29,21],
dF (gD 31 21 true (.load (some 8) 30)) [30,21],
dT (gD 32 21 true (.callv 22 [26,31])) [22,26,31,21],
dF (gD 33 21 true (.bin .lss 32 (cI 0))) [32,21],
dF (uO 34 (.pick 21 33 cF)) [21,33]] [0,1,2,3,8,9,34])
(.cond 34 .skip
(.exit 2)))
(.seq (.block 3 (dr [dF (mV 37 0) [0],
dF (mV 38 9) [9],
dF (mV 39 0) [0],
dF (mV 40 9) [9],
dF (bN 41 .sub 40 (cI 1)) [40],
dF (mV 42 0) [0],
dF (mV 43 9) [9],
dF (bN 44 .sub 43 (cI 1)) [43],
dF (iA 45 (some 8) 42 44) [42,44],
dF (lD 46 (some 8) 45) [45],
dF (mV 47 0) [0],
dF (mV 48 9) [9],
dF (iA 49 (some 8) 47 48) [47,48],
dF (lD 50 (some 8) 49) [49],
dF (iA 51 (some 8) 37 38) [37,38],
dT (wO (.store (some 8) 51 46)) [51,46],
dF (iA 52 (some 8) 39 41) [39,41],
dT (wO (.store (some 8) 52 50)) [52,50]] [0,1,2,3,8,9]))
(rg [mV 35 9,
bN 36 .sub 35 (cI 1),
mV 9 36] [0,1,2,3,8,9])))
def zc1 (C:Hd) (gl:GL) (v0 v1 v2 v3 v8 v9:AV) (h:Heap) (x:Esc) (K:KT):Prop:=
 pK (oBin .gtr v9 v1) fun t1=>
 gM t1 true v3 h fun t2 h3 y4=>
 gM t1 true v0 h3 fun t5 h6 y7=>
 gM t1 true v9 h6 fun t8 h9 y10=>
 gP t1 true (z0p (some 8) t5 t8 h9) h9 fun t11 h12 y13=>
 gP t1 true (z0e (some 8) t11 h12) h12 fun t14 h15 y16=>
 gM t1 true v0 h15 fun t17 h18 y19=>
 gM t1 true v9 h18 fun t20 h21 y22=>
 gP t1 true (oBin .sub t20 (AI 1)) h21 fun t23 h24 y25=>
 gP t1 true (z0p (some 8) t17 t23 h24) h24 fun t26 h27 y28=>
 gP t1 true (z0e (some 8) t26 h27) h27 fun t29 h30 y31=>
 gV t1 true h30 (z7o C t2 [t14,t29] h30) fun t32 h33 y34=>
 gP t1 true (oBin .lss t32 (AI 0)) h33 fun t35 h36 y37=>
 pK (z0y t1 t35 (AB false)) fun t38=>
 z0j t38 (pK (oBin .sub v9 (AI 1)) fun t39=>
 pK (oBin .sub v9 (AI 1)) fun t40=>
 pK (z0p (some 8) v0 t40 h36) fun t41=>
 pK (z0e (some 8) t41 h36) fun t42=>
 pK (z0p (some 8) v0 v9 h36) fun t43=>
 pK (z0e (some 8) t43 h36) fun t44=>
 pK (z0p (some 8) v0 v9 h36) fun t45=>
 wK (z0n (some 8) t45 t42 h36) fun t46 h47 y48=>
 pK (z0p (some 8) v0 t39 h47) fun t49=>
 wK (z0n (some 8) t49 t44 h47) fun t50 h51 y52=>
 pK (oBin .sub v9 (AI 1)) fun t53=>
 K .normal ⟨[(0,v0),(1,v1),(2,v2),(3,v3),(8,v8),(9,t53)],h51,(y52++(y48++(y37++(y34++(y31++(y28++(y25++(y22++(y19++(y16++(y13++(y10++(y7++(y4++x))))))))))))))⟩)
 (K (.exit 2) ⟨[(0,v0),(1,v1),(2,v2),(3,v3),(8,v8),(9,v9),(34,t38)],h36,(y37++(y34++(y31++(y28++(y25++(y22++(y19++(y16++(y13++(y10++(y7++(y4++x))))))))))))⟩)
theorem zmc {C gl e h x K}:NW C gl z3U ⟨e,h,x⟩ K=zc1 C gl (aget e 0) (aget e 1) (aget e 2) (aget e 3) (aget e 8) (aget e 9) h x K:=by kernel_rfl
theorem zn1 {C gl e h x K}:NW C gl (.loop z3U) ⟨e,h,x⟩ K=z0T C gl z3U K [(0,aget e 0),(1,aget e 1),(2,aget e 2),(3,aget e 3),(8,aget e 8),(9,aget e 9)] h x:=z0A
def z8D:ACode:=.pr [0,1,2,3,8] (rg [mV 15 8,
bN 16 .add 15 (cI 1),
mV 8 16] [0,1,2,3,8])
def zc2 (C:Hd) (gl:GL) (v0 v1 v2 v3 v8:AV) (h:Heap) (x:Esc) (K:KT):Prop:=
 pK (oBin .add v8 (AI 1)) fun t1=>
 K .normal ⟨[(0,v0),(1,v1),(2,v2),(3,v3),(8,t1)],h,x⟩
theorem zmd {C gl e h x K}:NW C gl z8D ⟨e,h,x⟩ K=zc2 C gl (aget e 0) (aget e 1) (aget e 2) (aget e 3) (aget e 8) h x K:=by kernel_rfl
def zbu (q1 q2:ACode):ACode:=.pr [0,1,2,3,8] (.seq (.seq (rg [mV 12 8,
mV 13 2,
bN 14 .lss 12 13] [0,1,2,3,8,14])
(.cond 14 .skip
(.exit 0)))
(.seq (.block 1 (.seq (rg [mV 17 8,
mV 9 17] [0,1,2,3,8,9])
(.block 2 (.loop q1))))
q2))
def z2U:ACode:=zbu z3U z8D
def z7I (C:Hd) (gl:GL) (q1 q2:ACode) (v0 v1 v2 v3 v8:AV) (h:Heap) (x:Esc) (K:KT):Prop:=
 pK (oBin .lss v8 v2) fun t1=>
 z0j t1 (NW C gl (.loop q1) ⟨[(0,v0),(1,v1),(2,v2),(3,v3),(8,v8),(9,v8)],h,x⟩ (z0u 2 (z0u 1 (seqN C gl q2 K))))
 (K (.exit 0) ⟨[(0,v0),(1,v1),(2,v2),(3,v3),(8,v8),(14,t1)],h,x⟩)
theorem zi9 {C gl q1 q2 e h x K}:NW C gl (zbu q1 q2) ⟨e,h,x⟩ K=z7I C gl q1 q2 (aget e 0) (aget e 1) (aget e 2) (aget e 3) (aget e 8) h x K:=by kernel_rfl
theorem zme {C gl e h x K}:NW C gl z2U ⟨e,h,x⟩ K=z7I C gl z3U z8D (aget e 0) (aget e 1) (aget e 2) (aget e 3) (aget e 8) h x K:=zi9
theorem zn2 {C gl e h x K}:NW C gl (.loop z2U) ⟨e,h,x⟩ K=z0T C gl z2U K [(0,aget e 0),(1,aget e 1),(2,aget e 2),(3,aget e 3),(8,aget e 8)] h x:=z0A
def zsj (q3:ACode):ACode:=(.seq (rg [mV 10 1,
bN 11 .add 10 (cI 1),
mV 8 11] [0,1,2,3,8])
(.block 0 (.loop q3)))
def zjB:AFun:=⟨4,[],zsj z2U,true,false⟩
def zfC (C:Hd) (gl:GL) (q3:ACode) (v0 v1 v2 v3:AV) (h:Heap) (x:Esc) (K:KT):Prop:=
 pK (oBin .add v1 (AI 1)) fun t1=>
 NW C gl (.loop q3) ⟨[(0,v0),(1,v1),(2,v2),(3,v3),(8,t1)],h,x⟩ (z0u 0 K)
theorem E_q06g {C gl q3 v0 v1 v2 v3 h x K}:NW C gl (zsj q3) ⟨enter [v0,v1,v2,v3],h,x⟩ K=zfC C gl q3 v0 v1 v2 v3 h x K:=by kernel_rfl
theorem e_q06g {C gl v0 v1 v2 v3 h x K}:NW C gl zjB.body ⟨enter [v0,v1,v2,v3],h,x⟩ K=zfC C gl z2U v0 v1 v2 v3 h x K:=E_q06g
def P_q01v:ACode:=(.seq (rg [mV 4 (cS []),
mV 5 cF] [0,1])
(.seq (.seq (rg [mV 6 0,
mV 7 1,
cL 8 z99 [6,7],
uO 9 (.un .not 8)] [0,1,9])
(.cond 9 (.seq (rg [mV 10 0,
mV 4 10,
mV 5 cF] [4,5])
.ret)
.skip))
(.seq (rg [mV 11 0,
mV 12 0,
uO 13 (.lens 12),
mV 14 1,
uO 15 (.lens 14),
bN 16 .sub 13 15,
uO 17 (.slstr 11 none (some 16)),
mV 4 17,
mV 5 cT] [4,5])
.ret)))
def ziW:AFun:=⟨2,[.t 4,.t 5],P_q01v,false,false⟩
def zfr (C:Hd) (gl:GL) (v0 v1:AV) (h:Heap) (x:Esc) (K:KT):Prop:=
 C z99 [v0,v1] h fun t1 h2 y3=>
 pK (oUn .not t1) fun t4=>
 z0j t4 (K .ret ⟨[(4,v0),(5,(AB false))],h2,(y3++x)⟩)
 (pK (z0X v0) fun t5=>
 pK (z0X v1) fun t6=>
 pK (oBin .sub t5 t6) fun t7=>
 pK (z0Y v0 none (some t7)) fun t8=>
 K .ret ⟨[(4,t8),(5,(AB true))],h2,(y3++x)⟩)
theorem e_q01v {C gl v0 v1 h x K}:NW C gl ziW.body ⟨enter [v0,v1],h,x⟩ K=zfr C gl v0 v1 h x K:=by kernel_rfl
end Go.Am
end
section
/- The functions asv abstract code,and asv formulas over their values: printed by program out of the translation. -/
set_option linter.unusedVariables false
set_option maxRecDepth 100000
namespace Go.Am
def z3X:ACode:=.pr [0,1,6,7] (.seq (.seq (rg [mV 22 7,
mV 23 1,
bN 24 .sub 23 (cI 1),
bN 25 .lss 22 24] [0,1,6,7,25])
(.cond 25 .skip
(.exit 0)))
(.seq (.block 1 (.seq (rg [mV 29 0,
cL 30 zdg [29],
mV 28 30,
eX 31 28 0,
eX 32 28 1,
mV 8 31,
mV 9 32] [0,1,6,7,9])
(.seq (rg [mV 33 6,
mV 34 7,
mV 35 0,
mV 36 9,
uO 37 (.slstr 35 none (some 36)),
iA 38 none 33 34,
wO (.store none 38 37)] [0,1,6,7,9])
(rg [mV 39 0,
mV 40 9,
uO 41 (.slstr 39 (some 40) none),
mV 0 41] [0,1,6,7]))))
(rg [mV 26 7,
bN 27 .add 26 (cI 1),
mV 7 27] [0,1,6,7])))
def zcI (C:Hd) (gl:GL) (v0 v1 v6 v7:AV) (h:Heap) (x:Esc) (K:KT):Prop:=
 pK (oBin .sub v1 (AI 1)) fun t1=>
 pK (oBin .lss v7 t1) fun t2=>
 z0j t2 (C zdg [v0] h fun t3 h4 y5=>
 pK (oExt t3 0) fun t6=>
 pK (oExt t3 1) fun t7=>
 pK (z0Y v0 none (some t7)) fun t8=>
 pK (z0p none v6 v7 h4) fun t9=>
 wK (z0n none t9 t8 h4) fun t10 h11 y12=>
 pK (z0Y v0 (some t7) none) fun t13=>
 pK (oBin .add v7 (AI 1)) fun t14=>
 K .normal ⟨[(0,t13),(1,v1),(6,v6),(7,t14)],h11,(y12++(y5++x))⟩)
 (K (.exit 0) ⟨[(0,v0),(1,v1),(6,v6),(7,v7),(25,t2)],h,x⟩)
theorem zmt {C gl e h x K}:NW C gl z3X ⟨e,h,x⟩ K=zcI C gl (aget e 0) (aget e 1) (aget e 6) (aget e 7) h x K:=by kernel_rfl
theorem znA {C gl e h x K}:NW C gl (.loop z3X) ⟨e,h,x⟩ K=z0T C gl z3X K [(0,aget e 0),(1,aget e 1),(6,aget e 6),(7,aget e 7)] h x:=z0A
def z8G:ACode:=.pr [6] (.seq (rg [mV 49 6,
mV 4 49] [4])
.ret)
def zcJ (C:Hd) (gl:GL) (v6:AV) (h:Heap) (x:Esc) (K:KT):Prop:=
 K .ret ⟨[(4,v6)],h,x⟩
theorem zmu {C gl e h x K}:NW C gl z8G ⟨e,h,x⟩ K=zcJ C gl (aget e 6) h x K:=by kernel_rfl
def zby (q2:ACode):ACode:=.pr [0,1,6] (.seq (.seq (rg [mV 42 1,
bN 43 .gtr 42 (cI 0)] [0,1,6,43])
(.cond 43 (rg [mV 44 6,
mV 45 1,
bN 46 .sub 45 (cI 1),
mV 47 0,
iA 48 none 44 46,
wO (.store none 48 47)] [6])
.skip))
q2)
def z8H:ACode:=zby z8G
def z7N (C:Hd) (gl:GL) (q2:ACode) (v0 v1 v6:AV) (h:Heap) (x:Esc) (K:KT):Prop:=
 pK (oBin .gtr v1 (AI 0)) fun t1=>
 z0j t1 (pK (oBin .sub v1 (AI 1)) fun t2=>
 pK (z0p none v6 t2 h) fun t3=>
 wK (z0n none t3 v0 h) fun t4 h5 y6=>
 NW C gl q2 ⟨[(6,v6)],h5,(y6++x)⟩ K)
 (NW C gl q2 ⟨[(0,v0),(1,v1),(6,v6),(43,t1)],h,x⟩ K)
theorem ziD {C gl q2 e h x K}:NW C gl (zby q2) ⟨e,h,x⟩ K=z7N C gl q2 (aget e 0) (aget e 1) (aget e 6) h x K:=by kernel_rfl
theorem zmv {C gl e h x K}:NW C gl z8H ⟨e,h,x⟩ K=z7N C gl z8G (aget e 0) (aget e 1) (aget e 6) h x K:=ziD
def zbz (q1 q3:ACode):ACode:=.pr [0,1] (.seq (rg [mV 20 1,
uO 21 (.mksl none (.str []) 20 20),
mV 6 21] [0,1,6])
(.seq (.seq (rg [mV 7 (cI 0)] [0,1,6,7])
(.block 0 (.loop q1)))
q3))
def z5T:ACode:=zbz z3X z8H
def z7O (C:Hd) (gl:GL) (q1 q3:ACode) (v0 v1:AV) (h:Heap) (x:Esc) (K:KT):Prop:=
 wK (zqU none (.str []) v1 v1 h) fun t1 h2 y3=>
 NW C gl (.loop q1) ⟨[(0,v0),(1,v1),(6,t1),(7,(AI 0))],h2,(y3++x)⟩ (z0u 0 (seqN C gl q3 K))
theorem ziE {C gl q1 q3 e h x K}:NW C gl (zbz q1 q3) ⟨e,h,x⟩ K=z7O C gl q1 q3 (aget e 0) (aget e 1) h x K:=by kernel_rfl
theorem zmw {C gl e h x K}:NW C gl z5T ⟨e,h,x⟩ K=z7O C gl z3X z8H (aget e 0) (aget e 1) h x K:=ziE
def zsq (q4:ACode):ACode:=(.seq (rg [mV 4 (.c (.p (.sl none [])))] [0,1])
(.seq (rg [mV 10 0,
cL 11 zsL [10],
mV 5 11] [0,1,5])
(.seq (.seq (rg [mV 12 1,
bN 13 .lss 12 (cI 0),
mV 14 13,
gD 15 14 false (.mv 1),
gD 16 14 false (.mv 5),
gD 17 14 false (.bin .gtr 15 16),
uO 18 (.pick 14 cT 17)] [0,1,5,18])
(.cond 18 (rg [mV 19 5,
mV 1 19] [0,1])
.skip))
q4)))
def zjU:AFun:=⟨2,[.t 4],zsq z5T,false,false⟩
def zlb (C:Hd) (gl:GL) (q4:ACode) (v0 v1:AV) (h:Heap) (x:Esc) (K:KT):Prop:=
 C zsL [v0] h fun t1 h2 y3=>
 pK (oBin .lss v1 (AI 0)) fun t4=>
 gM t4 false v1 h2 fun t5 h6 y7=>
 gM t4 false t1 h6 fun t8 h9 y10=>
 gP t4 false (oBin .gtr t5 t8) h9 fun t11 h12 y13=>
 pK (z0y t4 (AB true) t11) fun t14=>
 z0j t14 (NW C gl q4 ⟨[(0,v0),(1,t1)],h12,(y13++(y10++(y7++(y3++x))))⟩ K)
 (NW C gl q4 ⟨[(0,v0),(1,v1),(5,t1),(18,t14)],h12,(y13++(y10++(y7++(y3++x))))⟩ K)
theorem E_q09e {C gl q4 v0 v1 h x K}:NW C gl (zsq q4) ⟨enter [v0,v1],h,x⟩ K=zlb C gl q4 v0 v1 h x K:=by kernel_rfl
theorem e_q09e {C gl v0 v1 h x K}:NW C gl zjU.body ⟨enter [v0,v1],h,x⟩ K=zlb C gl z5T v0 v1 h x K:=E_q09e
def P_q096:ACode:=(.seq (rg [mV 4 (cI 0)] [0,1])
(.seq (rg [mV 5 0,
mV 6 1,
cL 7 z6D [5,6],
mV 4 7] [4])
.ret))
def zjQ:AFun:=⟨2,[.t 4],P_q096,false,false⟩
def zkX (C:Hd) (gl:GL) (v0 v1:AV) (h:Heap) (x:Esc) (K:KT):Prop:=
 C z6D [v0,v1] h fun t1 h2 y3=>
 K .ret ⟨[(4,t1)],h2,(y3++x)⟩
theorem e_q096 {C gl v0 v1 h x K}:NW C gl zjQ.body ⟨enter [v0,v1],h,x⟩ K=zkX C gl v0 v1 h x K:=by kernel_rfl
def z89:ACode:=.pr [0,1,5,6,7,8,9,10] (.seq (.seq (rg [mV 78 0,
mV 79 8,
bN 80 .add 79 (cI 1),
uO 81 (.idxs 78 80),
mV 82 7,
bN 83 .eql 81 82,
mV 84 83,
gD 85 84 true (.mv 0),
gD 86 84 true (.mv 8),
gD 87 84 true (.mv 8),
gD 88 84 true (.mv 5),
gD 89 84 true (.bin .add 87 88),
gD 90 84 true (.slstr 85 (some 86) (some 89)),
gD 91 84 true (.mv 1),
gD 92 84 true (.bin .eql 90 91),
uO 93 (.pick 84 92 cF)] [0,1,5,6,7,8,9,10,93])
(.cond 93 (.seq (rg [mV 94 8,
mV 4 94] [4])
.ret)
.skip))
(.seq (rg [mV 95 8,
bN 96 .add 95 (cI 1),
mV 8 96] [0,1,5,6,7,8,9,10])
(.seq (rg [mV 97 10,
bN 98 .add 97 (cI 1),
mV 10 98] [0,1,5,6,7,8,9,10])
(.seq (rg [mV 99 5,
lD 100 none (.g 0),
bN 101 .leq 99 100,
mV 102 101,
gD 103 102 true (.mv 10),
gD 104 102 true (.mv 8),
gD 105 102 true (.call zda [104]),
gD 106 102 true (.bin .gtr 103 105),
uO 107 (.pick 102 106 cF)] [0,1,5,6,7,8,9,10,107])
(.cond 107 (.seq (rg [mV 108 0,
mV 109 8,
uO 110 (.slstr 108 (some 109) none),
mV 111 1,
cL 112 z02 [110,111],
mV 12 112] [8,12])
(.seq (.seq (rg [mV 113 12,
bN 114 .geq 113 (cI 0)] [8,12,114])
(.cond 114 (.seq (rg [mV 115 12,
mV 116 8,
bN 117 .add 115 116,
mV 4 117] [4])
.ret)
.skip))
(.seq (rg [mV 4 (cI (-1))] [4])
.ret)))
(.seq (rg [mV 118 5,
lD 119 none (.g 0),
bN 120 .gtr 118 119,
mV 121 120,
gD 122 121 true (.mv 10),
gD 123 121 true (.mv 8),
gD 124 121 true (.bin .shr 123 (.c (.p (.int .u64 4)))),
gD 125 121 true (.bin .add (cI 4) 124),
gD 126 121 true (.bin .geq 122 125),
uO 127 (.pick 121 126 cF),
mV 128 127,
gD 129 128 true (.mv 8),
gD 130 128 true (.mv 9),
gD 131 128 true (.bin .lss 129 130),
uO 132 (.pick 128 131 cF)] [0,1,5,6,7,8,9,10,132])
(.cond 132 (.seq (rg [mV 133 0,
mV 134 8,
uO 135 (.slstr 133 (some 134) none),
mV 136 1,
cL 137 zdb [135,136],
mV 13 137] [8,13])
(.seq (.seq (rg [mV 138 13,
bN 139 .lss 138 (cI 0)] [8,13,139])
(.cond 139 (.seq (rg [mV 4 (cI (-1))] [4])
.ret)
.skip))
(.seq (rg [mV 140 8,
mV 141 13,
bN 142 .add 140 141,
mV 4 142] [4])
.ret)))
.skip)))))))
def zbV (C:Hd) (gl:GL) (v0 v1 v5 v6 v7 v8 v9 v10:AV) (h:Heap) (x:Esc) (K:KT):Prop:=
 pK (oBin .add v8 (AI 1)) fun t1=>
 pK (z17 v0 t1) fun t2=>
 pK (oBin .eql t2 v7) fun t3=>
 gM t3 true v0 h fun t4 h5 y6=>
 gM t3 true v8 h5 fun t7 h8 y9=>
 gM t3 true v8 h8 fun t10 h11 y12=>
 gM t3 true v5 h11 fun t13 h14 y15=>
 gP t3 true (oBin .add t10 t13) h14 fun t16 h17 y18=>
 gP t3 true (z0Y t4 (some t7) (some t16)) h17 fun t19 h20 y21=>
 gM t3 true v1 h20 fun t22 h23 y24=>
 gP t3 true (oBin .eql t19 t22) h23 fun t25 h26 y27=>
 pK (z0y t3 t25 (AB false)) fun t28=>
 z0j t28 (K .ret ⟨[(4,v8)],h26,(y27++(y24++(y21++(y18++(y15++(y12++(y9++(y6++x))))))))⟩)
 (pK (oBin .add v8 (AI 1)) fun t29=>
 pK (oBin .add v10 (AI 1)) fun t30=>
 pK (z0e none (gv gl 0) h26) fun t31=>
 pK (oBin .leq v5 t31) fun t32=>
 gM t32 true t30 h26 fun t33 h34 y35=>
 gM t32 true t29 h34 fun t36 h37 y38=>
 gV t32 true h37 (C zda [t36] h37) fun t39 h40 y41=>
 gP t32 true (oBin .gtr t33 t39) h40 fun t42 h43 y44=>
 pK (z0y t32 t42 (AB false)) fun t45=>
 z0j t45 (pK (z0Y v0 (some t29) none) fun t46=>
 C z02 [t46,v1] h43 fun t47 h48 y49=>
 pK (oBin .geq t47 (AI 0)) fun t50=>
 z0j t50 (pK (oBin .add t47 t29) fun t51=>
 K .ret ⟨[(4,t51)],h48,(y49++(y44++(y41++(y38++(y35++(y27++(y24++(y21++(y18++(y15++(y12++(y9++(y6++x)))))))))))))⟩)
 (K .ret ⟨[(4,(AI (-1)))],h48,(y49++(y44++(y41++(y38++(y35++(y27++(y24++(y21++(y18++(y15++(y12++(y9++(y6++x)))))))))))))⟩))
 (pK (z0e none (gv gl 0) h43) fun t52=>
 pK (oBin .gtr v5 t52) fun t53=>
 gM t53 true t30 h43 fun t54 h55 y56=>
 gM t53 true t29 h55 fun t57 h58 y59=>
 gP t53 true (oBin .shr t57 (.p (.int .u64 4))) h58 fun t60 h61 y62=>
 gP t53 true (oBin .add (AI 4) t60) h61 fun t63 h64 y65=>
 gP t53 true (oBin .geq t54 t63) h64 fun t66 h67 y68=>
 pK (z0y t53 t66 (AB false)) fun t69=>
 gM t69 true t29 h67 fun t70 h71 y72=>
 gM t69 true v9 h71 fun t73 h74 y75=>
 gP t69 true (oBin .lss t70 t73) h74 fun t76 h77 y78=>
 pK (z0y t69 t76 (AB false)) fun t79=>
 z0j t79 (pK (z0Y v0 (some t29) none) fun t80=>
 C zdb [t80,v1] h77 fun t81 h82 y83=>
 pK (oBin .lss t81 (AI 0)) fun t84=>
 z0j t84 (K .ret ⟨[(4,(AI (-1)))],h82,(y83++(y78++(y75++(y72++(y68++(y65++(y62++(y59++(y56++(y44++(y41++(y38++(y35++(y27++(y24++(y21++(y18++(y15++(y12++(y9++(y6++x)))))))))))))))))))))⟩)
 (pK (oBin .add t29 t81) fun t85=>
 K .ret ⟨[(4,t85)],h82,(y83++(y78++(y75++(y72++(y68++(y65++(y62++(y59++(y56++(y44++(y41++(y38++(y35++(y27++(y24++(y21++(y18++(y15++(y12++(y9++(y6++x)))))))))))))))))))))⟩))
 (K .normal ⟨[(0,v0),(1,v1),(5,v5),(6,v6),(7,v7),(8,t29),(9,v9),(10,t30),(132,t79)],h77,(y78++(y75++(y72++(y68++(y65++(y62++(y59++(y56++(y44++(y41++(y38++(y35++(y27++(y24++(y21++(y18++(y15++(y12++(y9++(y6++x))))))))))))))))))))⟩)))
theorem zl8 {C gl e h x K}:NW C gl z89 ⟨e,h,x⟩ K=zbV C gl (aget e 0) (aget e 1) (aget e 5) (aget e 6) (aget e 7) (aget e 8) (aget e 9) (aget e 10) h x K:=by kernel_rfl
def zbo (q1:ACode):ACode:=.pr [0,1,5,6,7,8,9,10] (.seq (.seq (rg [mV 57 8,
mV 58 9,
bN 59 .lss 57 58] [0,1,5,6,7,8,9,10,59])
(.cond 59 .skip
(.exit 1)))
(.block 2 (.seq (.seq (rg [mV 60 0,
mV 61 8,
uO 62 (.idxs 60 61),
mV 63 6,
bN 64 .neq 62 63] [0,1,5,6,7,8,9,10,64])
(.cond 64 (.seq (rg [mV 65 0,
mV 66 8,
bN 67 .add 66 (cI 1),
mV 68 9,
uO 69 (.slstr 65 (some 67) (some 68)),
mV 70 6,
cL 71 z3B [69,70],
mV 11 71] [0,1,5,6,7,8,9,10,11])
(.seq (.seq (rg [mV 72 11,
bN 73 .lss 72 (cI 0)] [0,1,5,6,7,8,9,10,11,73])
(.cond 73 (.seq (rg [mV 4 (cI (-1))] [4])
.ret)
.skip))
(rg [mV 74 8,
mV 75 11,
bN 76 .add 75 (cI 1),
bN 77 .add 74 76,
mV 8 77] [0,1,5,6,7,8,9,10])))
.skip))
q1)))
def z2H:ACode:=zbo z89
def z7B (C:Hd) (gl:GL) (q1:ACode) (v0 v1 v5 v6 v7 v8 v9 v10:AV) (h:Heap) (x:Esc) (K:KT):Prop:=
 pK (oBin .lss v8 v9) fun t1=>
 z0j t1 (pK (z17 v0 v8) fun t2=>
 pK (oBin .neq t2 v6) fun t3=>
 z0j t3 (pK (oBin .add v8 (AI 1)) fun t4=>
 pK (z0Y v0 (some t4) (some v9)) fun t5=>
 C z3B [t5,v6] h fun t6 h7 y8=>
 pK (oBin .lss t6 (AI 0)) fun t9=>
 z0j t9 (K .ret ⟨[(4,(AI (-1)))],h7,(y8++x)⟩)
 (pK (oBin .add t6 (AI 1)) fun t10=>
 pK (oBin .add v8 t10) fun t11=>
 NW C gl q1 ⟨[(0,v0),(1,v1),(5,v5),(6,v6),(7,v7),(8,t11),(9,v9),(10,v10)],h7,(y8++x)⟩ (z0u 2 K)))
 (NW C gl q1 ⟨[(0,v0),(1,v1),(5,v5),(6,v6),(7,v7),(8,v8),(9,v9),(10,v10),(64,t3)],h,x⟩ (z0u 2 K)))
 (K (.exit 1) ⟨[(0,v0),(1,v1),(5,v5),(6,v6),(7,v7),(8,v8),(9,v9),(10,v10),(59,t1)],h,x⟩)
theorem zi3 {C gl q1 e h x K}:NW C gl (zbo q1) ⟨e,h,x⟩ K=z7B C gl q1 (aget e 0) (aget e 1) (aget e 5) (aget e 6) (aget e 7) (aget e 8) (aget e 9) (aget e 10) h x K:=by kernel_rfl
theorem zl9 {C gl e h x K}:NW C gl z2H ⟨e,h,x⟩ K=z7B C gl z89 (aget e 0) (aget e 1) (aget e 5) (aget e 6) (aget e 7) (aget e 8) (aget e 9) (aget e 10) h x K:=zi3
theorem znn {C gl e h x K}:NW C gl (.loop z2H) ⟨e,h,x⟩ K=z0T C gl z2H K [(0,aget e 0),(1,aget e 1),(5,aget e 5),(6,aget e 6),(7,aget e 7),(8,aget e 8),(9,aget e 9),(10,aget e 10)] h x:=z0A
def z55:ACode:=.pr [] (.seq (rg [mV 4 (cI (-1))] [4])
.ret)
def zbW (C:Hd) (gl:GL) (h:Heap) (x:Esc) (K:KT):Prop:=
 K .ret ⟨[(4,(AI (-1)))],h,x⟩
theorem zlA {C gl e h x K}:NW C gl z55 ⟨e,h,x⟩ K=zbW C gl h x K:=by kernel_rfl
def zrT (q2 q3:ACode):ACode:=(.seq (rg [mV 4 (cI 0)] [0,1])
(.seq (rg [mV 14 1,
uO 15 (.lens 14),
mV 5 15] [0,1,5])
(.seq (.block 0 (.seq (rg [mV 17 5,
bN 18 .eql 17 (cI 0),
mV 19 18,
gD 20 19 false (.mv 1),
gD 21 19 false (.mv 0),
gD 22 19 false (.bin .eql 20 21),
uO 23 (.pick 19 cT 22),
mV 16 23] [0,1,5,16])
(.cond 16 (.seq (rg [mV 4 (cI 0)] [4])
.ret)
(.seq (rg [mV 25 5,
bN 26 .eql 25 (cI 1),
mV 24 26] [0,1,5,24])
(.cond 24 (.seq (rg [mV 27 0,
mV 28 1,
uO 29 (.idxs 28 (cI 0)),
cL 30 z3B [27,29],
mV 4 30] [4])
.ret)
(.seq (rg [mV 32 5,
mV 33 0,
uO 34 (.lens 33),
bN 35 .geq 32 34,
mV 31 35] [0,1,5,31])
(.cond 31 (.seq (rg [mV 4 (cI (-1))] [4])
.ret)
(.seq (rg [mV 37 5,
lD 38 none (.g 0),
bN 39 .leq 37 38,
mV 40 39,
gD 41 40 true (.mv 0),
gD 42 40 true (.lens 41),
gD 43 40 true (.bin .leq 42 (cI 64)),
uO 44 (.pick 40 43 cF),
mV 36 44] [0,1,5,36])
(.cond 36 (.seq (rg [mV 45 0,
mV 46 1,
cL 47 z02 [45,46],
mV 4 47] [4])
.ret)
.skip)))))))))
(.seq (rg [mV 48 1,
uO 49 (.idxs 48 (cI 0)),
mV 6 49] [0,1,5,6])
(.seq (rg [mV 50 1,
uO 51 (.idxs 50 (cI 1)),
mV 7 51] [0,1,5,6,7])
(.seq (rg [mV 8 (cI 0)] [0,1,5,6,7,8])
(.seq (rg [mV 52 0,
uO 53 (.lens 52),
mV 54 5,
bN 55 .sub 53 54,
bN 56 .add 55 (cI 1),
mV 9 56] [0,1,5,6,7,8,9])
(.seq (rg [mV 10 (cI 0)] [0,1,5,6,7,8,9,10])
(.seq (.block 1 (.loop q2))
q3)))))))))
def ziZ:AFun:=⟨2,[.t 4],zrT z2H z55,false,false⟩
def zfu (C:Hd) (gl:GL) (q2 q3:ACode) (v0 v1:AV) (h:Heap) (x:Esc) (K:KT):Prop:=
 pK (z0X v1) fun t1=>
 pK (oBin .eql t1 (AI 0)) fun t2=>
 gM t2 false v1 h fun t3 h4 y5=>
 gM t2 false v0 h4 fun t6 h7 y8=>
 gP t2 false (oBin .eql t3 t6) h7 fun t9 h10 y11=>
 pK (z0y t2 (AB true) t9) fun t12=>
 z0j t12 (K .ret ⟨[(4,(AI 0))],h10,(y11++(y8++(y5++x)))⟩)
 (pK (oBin .eql t1 (AI 1)) fun t13=>
 z0j t13 (pK (z17 v1 (AI 0)) fun t14=>
 C z3B [v0,t14] h10 fun t15 h16 y17=>
 K .ret ⟨[(4,t15)],h16,(y17++(y11++(y8++(y5++x))))⟩)
 (pK (z0X v0) fun t18=>
 pK (oBin .geq t1 t18) fun t19=>
 z0j t19 (K .ret ⟨[(4,(AI (-1)))],h10,(y11++(y8++(y5++x)))⟩)
 (pK (z0e none (gv gl 0) h10) fun t20=>
 pK (oBin .leq t1 t20) fun t21=>
 gM t21 true v0 h10 fun t22 h23 y24=>
 gP t21 true (z0X t22) h23 fun t25 h26 y27=>
 gP t21 true (oBin .leq t25 (AI 64)) h26 fun t28 h29 y30=>
 pK (z0y t21 t28 (AB false)) fun t31=>
 z0j t31 (C z02 [v0,v1] h29 fun t32 h33 y34=>
 K .ret ⟨[(4,t32)],h33,(y34++(y30++(y27++(y24++(y11++(y8++(y5++x)))))))⟩)
 (pK (z17 v1 (AI 0)) fun t35=>
 pK (z17 v1 (AI 1)) fun t36=>
 pK (z0X v0) fun t37=>
 pK (oBin .sub t37 t1) fun t38=>
 pK (oBin .add t38 (AI 1)) fun t39=>
 NW C gl (.loop q2) ⟨[(0,v0),(1,v1),(5,t1),(6,t35),(7,t36),(8,(AI 0)),(9,t39),(10,(AI 0))],h29,(y30++(y27++(y24++(y11++(y8++(y5++x))))))⟩ (z0u 1 (seqN C gl q3 K))))))
theorem E_q01y {C gl q2 q3 v0 v1 h x K}:NW C gl (zrT q2 q3) ⟨enter [v0,v1],h,x⟩ K=zfu C gl q2 q3 v0 v1 h x K:=by kernel_rfl
theorem e_q01y {C gl v0 v1 h x K}:NW C gl ziZ.body ⟨enter [v0,v1],h,x⟩ K=zfu C gl z2H z55 v0 v1 h x K:=E_q01y
def P_q01w:ACode:=(.seq (rg [mV 4 cF] [0,1])
(.seq (rg [mV 5 0,
uO 6 (.lens 5),
mV 7 1,
uO 8 (.lens 7),
bN 9 .geq 6 8,
mV 10 9,
gD 11 10 true (.mv 0),
gD 12 10 true (.mv 1),
gD 13 10 true (.lens 12),
gD 14 10 true (.slstr 11 none (some 13)),
gD 15 10 true (.mv 1),
gD 16 10 true (.bin .eql 14 15),
uO 17 (.pick 10 16 cF),
mV 4 17] [4])
.ret))
def ziX:AFun:=⟨2,[.t 4],P_q01w,false,false⟩
def zfs (C:Hd) (gl:GL) (v0 v1:AV) (h:Heap) (x:Esc) (K:KT):Prop:=
 pK (z0X v0) fun t1=>
 pK (z0X v1) fun t2=>
 pK (oBin .geq t1 t2) fun t3=>
 gM t3 true v0 h fun t4 h5 y6=>
 gM t3 true v1 h5 fun t7 h8 y9=>
 gP t3 true (z0X t7) h8 fun t10 h11 y12=>
 gP t3 true (z0Y t4 none (some t10)) h11 fun t13 h14 y15=>
 gM t3 true v1 h14 fun t16 h17 y18=>
 gP t3 true (oBin .eql t13 t16) h17 fun t19 h20 y21=>
 pK (z0y t3 t19 (AB false)) fun t22=>
 K .ret ⟨[(4,t22)],h20,(y21++(y18++(y15++(y12++(y9++(y6++x))))))⟩
theorem e_q01w {C gl v0 v1 h x K}:NW C gl ziX.body ⟨enter [v0,v1],h,x⟩ K=zfs C gl v0 v1 h x K:=by kernel_rfl
def P_q01z:ACode:=(.seq (rg [mV 4 (cI 0)] [0,1])
(.seq (rg [mV 5 0,
mV 6 1,
cL 7 z0i [5,6],
mV 4 7] [4])
.ret))
def zja:AFun:=⟨2,[.t 4],P_q01z,false,false⟩
def zfv (C:Hd) (gl:GL) (v0 v1:AV) (h:Heap) (x:Esc) (K:KT):Prop:=
 C z0i [v0,v1] h fun t1 h2 y3=>
 K .ret ⟨[(4,t1)],h2,(y3++x)⟩
theorem e_q01z {C gl v0 v1 h x K}:NW C gl zja.body ⟨enter [v0,v1],h,x⟩ K=zfv C gl v0 v1 h x K:=by kernel_rfl
def P_q01x:ACode:=(.seq (rg [mV 4 cF] [0,1])
(.seq (rg [mV 5 0,
uO 6 (.lens 5),
mV 7 1,
uO 8 (.lens 7),
bN 9 .geq 6 8,
mV 10 9,
gD 11 10 true (.mv 0),
gD 12 10 true (.mv 0),
gD 13 10 true (.lens 12),
gD 14 10 true (.mv 1),
gD 15 10 true (.lens 14),
gD 16 10 true (.bin .sub 13 15),
gD 17 10 true (.slstr 11 (some 16) none),
gD 18 10 true (.mv 1),
gD 19 10 true (.bin .eql 17 18),
uO 20 (.pick 10 19 cF),
mV 4 20] [4])
.ret))
def ziY:AFun:=⟨2,[.t 4],P_q01x,false,false⟩
def zft (C:Hd) (gl:GL) (v0 v1:AV) (h:Heap) (x:Esc) (K:KT):Prop:=
 pK (z0X v0) fun t1=>
 pK (z0X v1) fun t2=>
 pK (oBin .geq t1 t2) fun t3=>
 gM t3 true v0 h fun t4 h5 y6=>
 gM t3 true v0 h5 fun t7 h8 y9=>
 gP t3 true (z0X t7) h8 fun t10 h11 y12=>
 gM t3 true v1 h11 fun t13 h14 y15=>
 gP t3 true (z0X t13) h14 fun t16 h17 y18=>
 gP t3 true (oBin .sub t10 t16) h17 fun t19 h20 y21=>
 gP t3 true (z0Y t4 (some t19) none) h20 fun t22 h23 y24=>
 gM t3 true v1 h23 fun t25 h26 y27=>
 gP t3 true (oBin .eql t22 t25) h26 fun t28 h29 y30=>
 pK (z0y t3 t28 (AB false)) fun t31=>
 K .ret ⟨[(4,t31)],h29,(y30++(y27++(y24++(y21++(y18++(y15++(y12++(y9++(y6++x)))))))))⟩
theorem e_q01x {C gl v0 v1 h x K}:NW C gl ziY.body ⟨enter [v0,v1],h,x⟩ K=zft C gl v0 v1 h x K:=by kernel_rfl
def P_q09u:ACode:=(.seq (rg [mV 2 (.c (.p (.int .i32 0))),
mV 3 (cI 0)] [0])
(.seq (.seq (rg [mV 4 0,
bN 5 .neq 4 (cS []),
mV 6 5,
gD 7 6 true (.mv 0),
gD 8 6 true (.idxs 7 (cI 0)),
gD 9 6 true (.bin .lss 8 (.c (.p (.int .u8 128)))),
uO 10 (.pick 6 9 cF)] [0,10])
(.cond 10 (.seq (rg [mV 11 0,
uO 12 (.idxs 11 (cI 0)),
uO 13 (.conv (.i .i32) 12),
mV 2 13,
mV 3 (cI 1)] [2,3])
.ret)
(rg [mV 15 0,
cL 16 zdh [15],
mV 14 16,
eX 17 14 0,
eX 18 14 1,
mV 2 17,
mV 3 18] [2,3])))
.ret))
def zjW:AFun:=⟨1,[.t 2,.t 3],P_q09u,false,false⟩
def zs4 (C:Hd) (gl:GL) (v0:AV) (h:Heap) (x:Esc) (K:KT):Prop:=
 pK (oBin .neq v0 (.p (.str []))) fun t1=>
 gM t1 true v0 h fun t2 h3 y4=>
 gP t1 true (z17 t2 (AI 0)) h3 fun t5 h6 y7=>
 gP t1 true (oBin .lss t5 (.p (.int .u8 128))) h6 fun t8 h9 y10=>
 pK (z0y t1 t8 (AB false)) fun t11=>
 z0j t11 (pK (z17 v0 (AI 0)) fun t12=>
 pK (z1s .i32 t12) fun t13=>
 K .ret ⟨[(2,t13),(3,(AI 1))],h9,(y10++(y7++(y4++x)))⟩)
 (C zdh [v0] h9 fun t14 h15 y16=>
 pK (oExt t14 0) fun t17=>
 pK (oExt t14 1) fun t18=>
 K .ret ⟨[(2,t17),(3,t18)],h15,(y16++(y10++(y7++(y4++x))))⟩)
theorem e_q09u {C gl v0 h x K}:NW C gl zjW.body ⟨enter [v0],h,x⟩ K=zs4 C gl v0 h x K:=by kernel_rfl
def P_q01c:ACode:=(.seq (rg [mV 2 (cI 0)] [0])
(.seq (rg [mV 3 0,
bN 4 .add 3 (cI 16),
bN 5 .quo 4 (cI 8),
mV 2 5] [2])
.ret))
def ziS:AFun:=⟨1,[.t 2],P_q01c,false,false⟩
def zs3 (C:Hd) (gl:GL) (v0:AV) (h:Heap) (x:Esc) (K:KT):Prop:=
 pK (oBin .add v0 (AI 16)) fun t1=>
 pK (oBin .quo t1 (AI 8)) fun t2=>
 K .ret ⟨[(2,t2)],h,x⟩
theorem e_q01c {C gl v0 h x K}:NW C gl ziS.body ⟨enter [v0],h,x⟩ K=zs3 C gl v0 h x K:=by kernel_rfl
def z2F:ACode:=.pr [0,1,5,6,7,8,9] (.seq (.seq (rg [mV 18 9,
mV 19 7,
bN 20 .lss 18 19] [0,1,5,6,7,8,9,20])
(.cond 20 .skip
(.exit 0)))
(.seq (.block 1 (rg [mV 23 8,
bN 24 .mul 23 (.c (.p (.int .u32 16777619))),
mV 25 0,
mV 26 9,
uO 27 (.idxs 25 26),
uO 28 (.conv (.i .u32) 27),
bN 29 .add 24 28,
mV 8 29] [0,1,5,6,7,8,9]))
(rg [mV 21 9,
bN 22 .add 21 (cI 1),
mV 9 22] [0,1,5,6,7,8,9])))
def zbO (C:Hd) (gl:GL) (v0 v1 v5 v6 v7 v8 v9:AV) (h:Heap) (x:Esc) (K:KT):Prop:=
 pK (oBin .lss v9 v7) fun t1=>
 z0j t1 (pK (oBin .mul v8 (.p (.int .u32 16777619))) fun t2=>
 pK (z17 v0 v9) fun t3=>
 pK (z1s .u32 t3) fun t4=>
 pK (oBin .add t2 t4) fun t5=>
 pK (oBin .add v9 (AI 1)) fun t6=>
 K .normal ⟨[(0,v0),(1,v1),(5,v5),(6,v6),(7,v7),(8,t5),(9,t6)],h,x⟩)
 (K (.exit 0) ⟨[(0,v0),(1,v1),(5,v5),(6,v6),(7,v7),(8,v8),(9,v9),(20,t1)],h,x⟩)
theorem zly {C gl e h x K}:NW C gl z2F ⟨e,h,x⟩ K=zbO C gl (aget e 0) (aget e 1) (aget e 5) (aget e 6) (aget e 7) (aget e 8) (aget e 9) h x K:=by kernel_rfl
theorem znj {C gl e h x K}:NW C gl (.loop z2F) ⟨e,h,x⟩ K=z0T C gl z2F K [(0,aget e 0),(1,aget e 1),(5,aget e 5),(6,aget e 6),(7,aget e 7),(8,aget e 8),(9,aget e 9)] h x:=z0A
def z3O:ACode:=.pr [0,1,5,6,7,8,10] (.seq (.seq (rg [mV 41 10,
mV 42 0,
uO 43 (.lens 42),
bN 44 .lss 41 43] [0,1,5,6,7,8,10,44])
(.cond 44 .skip
(.exit 2)))
(.block 3 (.seq (rg [mV 45 8,
bN 46 .mul 45 (.c (.p (.int .u32 16777619))),
mV 8 46] [0,1,5,6,7,8,10])
(.seq (rg [mV 47 8,
mV 48 0,
mV 49 10,
uO 50 (.idxs 48 49),
uO 51 (.conv (.i .u32) 50),
bN 52 .add 47 51,
mV 8 52] [0,1,5,6,7,8,10])
(.seq (rg [mV 53 8,
mV 54 6,
mV 55 0,
mV 56 10,
mV 57 7,
bN 58 .sub 56 57,
uO 59 (.idxs 55 58),
uO 60 (.conv (.i .u32) 59),
bN 61 .mul 54 60,
bN 62 .sub 53 61,
mV 8 62] [0,1,5,6,7,8,10])
(.seq (rg [mV 63 10,
bN 64 .add 63 (cI 1),
mV 10 64] [0,1,5,6,7,8,10])
(.seq (rg [mV 65 8,
mV 66 5,
bN 67 .eql 65 66,
mV 68 67,
gD 69 68 true (.mv 0),
gD 70 68 true (.mv 10),
gD 71 68 true (.mv 7),
gD 72 68 true (.bin .sub 70 71),
gD 73 68 true (.mv 10),
gD 74 68 true (.slstr 69 (some 72) (some 73)),
gD 75 68 true (.mv 1),
gD 76 68 true (.bin .eql 74 75),
uO 77 (.pick 68 76 cF)] [0,1,5,6,7,8,10,77])
(.cond 77 (.seq (rg [mV 78 10,
mV 79 7,
bN 80 .sub 78 79,
mV 4 80] [4])
.ret)
.skip))))))))
def zbP (C:Hd) (gl:GL) (v0 v1 v5 v6 v7 v8 v10:AV) (h:Heap) (x:Esc) (K:KT):Prop:=
 pK (z0X v0) fun t1=>
 pK (oBin .lss v10 t1) fun t2=>
 z0j t2 (pK (oBin .mul v8 (.p (.int .u32 16777619))) fun t3=>
 pK (z17 v0 v10) fun t4=>
 pK (z1s .u32 t4) fun t5=>
 pK (oBin .add t3 t5) fun t6=>
 pK (oBin .sub v10 v7) fun t7=>
 pK (z17 v0 t7) fun t8=>
 pK (z1s .u32 t8) fun t9=>
 pK (oBin .mul v6 t9) fun t10=>
 pK (oBin .sub t6 t10) fun t11=>
 pK (oBin .add v10 (AI 1)) fun t12=>
 pK (oBin .eql t11 v5) fun t13=>
 gM t13 true v0 h fun t14 h15 y16=>
 gM t13 true t12 h15 fun t17 h18 y19=>
 gM t13 true v7 h18 fun t20 h21 y22=>
 gP t13 true (oBin .sub t17 t20) h21 fun t23 h24 y25=>
 gM t13 true t12 h24 fun t26 h27 y28=>
 gP t13 true (z0Y t14 (some t23) (some t26)) h27 fun t29 h30 y31=>
 gM t13 true v1 h30 fun t32 h33 y34=>
 gP t13 true (oBin .eql t29 t32) h33 fun t35 h36 y37=>
 pK (z0y t13 t35 (AB false)) fun t38=>
 z0j t38 (pK (oBin .sub t12 v7) fun t39=>
 K .ret ⟨[(4,t39)],h36,(y37++(y34++(y31++(y28++(y25++(y22++(y19++(y16++x))))))))⟩)
 (K .normal ⟨[(0,v0),(1,v1),(5,v5),(6,v6),(7,v7),(8,t11),(10,t12),(77,t38)],h36,(y37++(y34++(y31++(y28++(y25++(y22++(y19++(y16++x))))))))⟩))
 (K (.exit 2) ⟨[(0,v0),(1,v1),(5,v5),(6,v6),(7,v7),(8,v8),(10,v10),(44,t2)],h,x⟩)
theorem zlz {C gl e h x K}:NW C gl z3O ⟨e,h,x⟩ K=zbP C gl (aget e 0) (aget e 1) (aget e 5) (aget e 6) (aget e 7) (aget e 8) (aget e 10) h x K:=by kernel_rfl
theorem znk {C gl e h x K}:NW C gl (.loop z3O) ⟨e,h,x⟩ K=z0T C gl z3O K [(0,aget e 0),(1,aget e 1),(5,aget e 5),(6,aget e 6),(7,aget e 7),(8,aget e 8),(10,aget e 10)] h x:=z0A
def z84:ACode:=.pr [] (.seq (rg [mV 4 (cI (-1))] [4])
.ret)
def zbQ (C:Hd) (gl:GL) (h:Heap) (x:Esc) (K:KT):Prop:=
 K .ret ⟨[(4,(AI (-1)))],h,x⟩
theorem zl0 {C gl e h x K}:NW C gl z84 ⟨e,h,x⟩ K=zbQ C gl h x K:=by kernel_rfl
def zbl (q2 q3:ACode):ACode:=.pr [0,1,5,6,7,8] (.seq (.seq (rg [mV 30 8,
mV 31 5,
bN 32 .eql 30 31,
mV 33 32,
gD 34 33 true (.mv 0),
gD 35 33 true (.mv 7),
gD 36 33 true (.slstr 34 none (some 35)),
gD 37 33 true (.mv 1),
gD 38 33 true (.bin .eql 36 37),
uO 39 (.pick 33 38 cF)] [0,1,5,6,7,8,39])
(.cond 39 (.seq (rg [mV 4 (cI 0)] [4])
.ret)
.skip))
(.seq (.seq (rg [mV 40 7,
mV 10 40] [0,1,5,6,7,8,10])
(.block 2 (.loop q2)))
q3))
def z52:ACode:=zbl z3O z84
def z78 (C:Hd) (gl:GL) (q2 q3:ACode) (v0 v1 v5 v6 v7 v8:AV) (h:Heap) (x:Esc) (K:KT):Prop:=
 pK (oBin .eql v8 v5) fun t1=>
 gM t1 true v0 h fun t2 h3 y4=>
 gM t1 true v7 h3 fun t5 h6 y7=>
 gP t1 true (z0Y t2 none (some t5)) h6 fun t8 h9 y10=>
 gM t1 true v1 h9 fun t11 h12 y13=>
 gP t1 true (oBin .eql t8 t11) h12 fun t14 h15 y16=>
 pK (z0y t1 t14 (AB false)) fun t17=>
 z0j t17 (K .ret ⟨[(4,(AI 0))],h15,(y16++(y13++(y10++(y7++(y4++x)))))⟩)
 (NW C gl (.loop q2) ⟨[(0,v0),(1,v1),(5,v5),(6,v6),(7,v7),(8,v8),(10,v7)],h15,(y16++(y13++(y10++(y7++(y4++x)))))⟩ (z0u 2 (seqN C gl q3 K)))
theorem zi0 {C gl q2 q3 e h x K}:NW C gl (zbl q2 q3) ⟨e,h,x⟩ K=z78 C gl q2 q3 (aget e 0) (aget e 1) (aget e 5) (aget e 6) (aget e 7) (aget e 8) h x K:=by kernel_rfl
theorem zl1 {C gl e h x K}:NW C gl z52 ⟨e,h,x⟩ K=z78 C gl z3O z84 (aget e 0) (aget e 1) (aget e 5) (aget e 6) (aget e 7) (aget e 8) h x K:=zi0
def zrR (q1 q4:ACode):ACode:=(.seq (rg [mV 4 (cI 0)] [0,1])
(.seq (rg [mV 12 1,
cL 13 zdc [12],
mV 11 13,
eX 14 11 0,
eX 15 11 1,
mV 5 14,
mV 6 15] [0,1,5,6])
(.seq (rg [mV 16 1,
uO 17 (.lens 16),
mV 7 17] [0,1,5,6,7])
(.seq (rg [mV 8 (.c (.p (.int .u32 0)))] [0,1,5,6,7,8])
(.seq (.seq (rg [mV 9 (cI 0)] [0,1,5,6,7,8,9])
(.block 0 (.loop q1)))
q4)))))
def ziT:AFun:=⟨2,[.t 4],zrR z2F z52,false,false⟩
def zkC (C:Hd) (gl:GL) (q1 q4:ACode) (v0 v1:AV) (h:Heap) (x:Esc) (K:KT):Prop:=
 C zdc [v1] h fun t1 h2 y3=>
 pK (oExt t1 0) fun t4=>
 pK (oExt t1 1) fun t5=>
 pK (z0X v1) fun t6=>
 NW C gl (.loop q1) ⟨[(0,v0),(1,v1),(5,t4),(6,t5),(7,t6),(8,(.p (.int .u32 0))),(9,(AI 0))],h2,(y3++x)⟩ (z0u 0 (seqN C gl q4 K))
theorem E_q01d {C gl q1 q4 v0 v1 h x K}:NW C gl (zrR q1 q4) ⟨enter [v0,v1],h,x⟩ K=zkC C gl q1 q4 v0 v1 h x K:=by kernel_rfl
theorem e_q01d {C gl v0 v1 h x K}:NW C gl ziT.body ⟨enter [v0,v1],h,x⟩ K=zkC C gl z2F z52 v0 v1 h x K:=E_q01d
def P_q09y:ACode:=(.seq (rg [mV 2 (.c (.p (.int .i32 0))),
mV 3 (cI 0)] [0])
(.seq (rg [mV 13 0,
uO 14 (.lens 13),
mV 4 14] [0,4])
(.seq (.seq (rg [mV 15 4,
bN 16 .lss 15 (cI 1)] [0,4,16])
(.cond 16 (.seq (rg [mV 2 (.c (.p (.int .i32 65533))),
mV 3 (cI 0)] [2,3])
.ret)
.skip))
(.seq (rg [mV 17 0,
uO 18 (.idxs 17 (cI 0)),
mV 5 18] [0,4,5])
(.seq (rg [mV 19 5,
uO 20 (.iaddra 256 none (.g 6) 19),
lD 21 none 20,
mV 6 21] [0,4,5,6])
(.seq (.seq (rg [mV 22 6,
bN 23 .geq 22 (.c (.p (.int .u8 240)))] [0,4,5,6,23])
(.cond 23 (.seq (rg [mV 24 6,
uO 25 (.conv (.i .i32) 24),
bN 26 .shl 25 (.c (.p (.int .u64 31))),
bN 27 .shr 26 (.c (.p (.int .u64 31))),
mV 7 27] [0,7])
(.seq (rg [mV 28 0,
uO 29 (.idxs 28 (cI 0)),
uO 30 (.conv (.i .i32) 29),
mV 31 7,
bN 32 .andNot 30 31,
mV 33 7,
bN 34 .and (.c (.p (.int .i32 65533))) 33,
bN 35 .or 32 34,
mV 2 35,
mV 3 (cI 1)] [2,3])
.ret))
.skip))
(.seq (rg [mV 36 6,
bN 37 .and 36 (.c (.p (.int .u8 7))),
uO 38 (.conv (.i .i64) 37),
mV 8 38] [0,4,5,6,8])
(.seq (rg [mV 39 6,
bN 40 .shr 39 (.c (.p (.int .u64 4))),
uO 41 (.iaddra 16 (some 2) (.g 7) 40),
lD 42 (some 2) 41,
uO 9 (.alloc [.p (.int .u8 0),.p (.int .u8 0)]),
wO (.store (some 2) 9 42)] [0,4,5,8,9])
(.seq (.seq (rg [mV 43 4,
mV 44 8,
bN 45 .lss 43 44] [0,5,8,9,45])
(.cond 45 (.seq (rg [mV 2 (.c (.p (.int .i32 65533))),
mV 3 (cI 1)] [2,3])
.ret)
.skip))
(.seq (rg [mV 46 0,
uO 47 (.idxs 46 (cI 1)),
mV 10 47] [0,5,8,9,10])
(.seq (.seq (rg [mV 48 10,
fA 49 0 none 9,
lD 50 none 49,
bN 51 .lss 48 50,
mV 52 51,
gD 53 52 false (.faddr 1 none 9),
gD 54 52 false (.load none 53),
gD 55 52 false (.mv 10),
gD 56 52 false (.bin .lss 54 55),
uO 57 (.pick 52 cT 56)] [0,5,8,10,57])
(.cond 57 (.seq (rg [mV 2 (.c (.p (.int .i32 65533))),
mV 3 (cI 1)] [2,3])
.ret)
.skip))
(.seq (.seq (rg [mV 58 8,
bN 59 .leq 58 (cI 2)] [0,5,8,10,59])
(.cond 59 (.seq (rg [mV 60 5,
bN 61 .and 60 (.c (.p (.int .u8 31))),
uO 62 (.conv (.i .i32) 61),
bN 63 .shl 62 (.c (.p (.int .u64 6))),
mV 64 10,
bN 65 .and 64 (.c (.p (.int .u8 63))),
uO 66 (.conv (.i .i32) 65),
bN 67 .or 63 66,
mV 2 67,
mV 3 (cI 2)] [2,3])
.ret)
.skip))
(.seq (rg [mV 68 0,
uO 69 (.idxs 68 (cI 2)),
mV 11 69] [0,5,8,10,11])
(.seq (.seq (rg [mV 70 11,
bN 71 .lss 70 (.c (.p (.int .u8 128))),
mV 72 71,
gD 73 72 false (.mv 11),
gD 74 72 false (.bin .lss (.c (.p (.int .u8 191))) 73),
uO 75 (.pick 72 cT 74)] [0,5,8,10,11,75])
(.cond 75 (.seq (rg [mV 2 (.c (.p (.int .i32 65533))),
mV 3 (cI 1)] [2,3])
.ret)
.skip))
(.seq (.seq (rg [mV 76 8,
bN 77 .leq 76 (cI 3)] [0,5,10,11,77])
(.cond 77 (.seq (rg [mV 78 5,
bN 79 .and 78 (.c (.p (.int .u8 15))),
uO 80 (.conv (.i .i32) 79),
bN 81 .shl 80 (.c (.p (.int .u64 12))),
mV 82 10,
bN 83 .and 82 (.c (.p (.int .u8 63))),
uO 84 (.conv (.i .i32) 83),
bN 85 .shl 84 (.c (.p (.int .u64 6))),
bN 86 .or 81 85,
mV 87 11,
bN 88 .and 87 (.c (.p (.int .u8 63))),
uO 89 (.conv (.i .i32) 88),
bN 90 .or 86 89,
mV 2 90,
mV 3 (cI 3)] [2,3])
.ret)
.skip))
(.seq (rg [mV 91 0,
uO 92 (.idxs 91 (cI 3)),
mV 12 92] [5,10,11,12])
(.seq (.seq (rg [mV 93 12,
bN 94 .lss 93 (.c (.p (.int .u8 128))),
mV 95 94,
gD 96 95 false (.mv 12),
gD 97 95 false (.bin .lss (.c (.p (.int .u8 191))) 96),
uO 98 (.pick 95 cT 97)] [5,10,11,12,98])
(.cond 98 (.seq (rg [mV 2 (.c (.p (.int .i32 65533))),
mV 3 (cI 1)] [2,3])
.ret)
.skip))
(.seq (rg [mV 99 5,
bN 100 .and 99 (.c (.p (.int .u8 7))),
uO 101 (.conv (.i .i32) 100),
bN 102 .shl 101 (.c (.p (.int .u64 18))),
mV 103 10,
bN 104 .and 103 (.c (.p (.int .u8 63))),
uO 105 (.conv (.i .i32) 104),
bN 106 .shl 105 (.c (.p (.int .u64 12))),
bN 107 .or 102 106,
mV 108 11,
bN 109 .and 108 (.c (.p (.int .u8 63))),
uO 110 (.conv (.i .i32) 109),
bN 111 .shl 110 (.c (.p (.int .u64 6))),
bN 112 .or 107 111,
mV 113 12,
bN 114 .and 113 (.c (.p (.int .u8 63))),
uO 115 (.conv (.i .i32) 114),
bN 116 .or 112 115,
mV 2 116,
mV 3 (cI 4)] [2,3])
.ret))))))))))))))))))
def zjX:AFun:=⟨1,[.t 2,.t 3],P_q09y,false,false⟩
def zs5 (C:Hd) (gl:GL) (v0:AV) (h:Heap) (x:Esc) (K:KT):Prop:=
 pK (z0X v0) fun t1=>
 pK (oBin .lss t1 (AI 1)) fun t2=>
 z0j t2 (K .ret ⟨[(2,(.p (.int .i32 65533))),(3,(AI 0))],h,x⟩)
 (pK (z17 v0 (AI 0)) fun t3=>
 pK (z81 256 none (gv gl 6) t3) fun t4=>
 pK (z0e none t4 h) fun t5=>
 pK (oBin .geq t5 (.p (.int .u8 240))) fun t6=>
 z0j t6 (pK (z1s .i32 t5) fun t7=>
 pK (oBin .shl t7 (.p (.int .u64 31))) fun t8=>
 pK (oBin .shr t8 (.p (.int .u64 31))) fun t9=>
 pK (z17 v0 (AI 0)) fun t10=>
 pK (z1s .i32 t10) fun t11=>
 pK (oBin .andNot t11 t9) fun t12=>
 pK (oBin .and (.p (.int .i32 65533)) t9) fun t13=>
 pK (oBin .or t12 t13) fun t14=>
 K .ret ⟨[(2,t14),(3,(AI 1))],h,x⟩)
 (pK (oBin .and t5 (.p (.int .u8 7))) fun t15=>
 pK (z1s .i64 t15) fun t16=>
 pK (oBin .shr t5 (.p (.int .u64 4))) fun t17=>
 pK (z81 16 (some 2) (gv gl 7) t17) fun t18=>
 pK (z0e (some 2) t18 h) fun t19=>
 alK [.p (.int .u8 0),.p (.int .u8 0)] h fun t20 h21 y22=>
 wK (z0n (some 2) t20 t19 h21) fun t23 h24 y25=>
 pK (oBin .lss t1 t16) fun t26=>
 z0j t26 (K .ret ⟨[(2,(.p (.int .i32 65533))),(3,(AI 1))],h24,(y25++(y22++x))⟩)
 (pK (z17 v0 (AI 1)) fun t27=>
 pK (z0g 0 none t20) fun t28=>
 pK (z0e none t28 h24) fun t29=>
 pK (oBin .lss t27 t29) fun t30=>
 gP t30 false (z0g 1 none t20) h24 fun t31 h32 y33=>
 gP t30 false (z0e none t31 h32) h32 fun t34 h35 y36=>
 gM t30 false t27 h35 fun t37 h38 y39=>
 gP t30 false (oBin .lss t34 t37) h38 fun t40 h41 y42=>
 pK (z0y t30 (AB true) t40) fun t43=>
 z0j t43 (K .ret ⟨[(2,(.p (.int .i32 65533))),(3,(AI 1))],h41,(y42++(y39++(y36++(y33++(y25++(y22++x))))))⟩)
 (pK (oBin .leq t16 (AI 2)) fun t44=>
 z0j t44 (pK (oBin .and t3 (.p (.int .u8 31))) fun t45=>
 pK (z1s .i32 t45) fun t46=>
 pK (oBin .shl t46 (.p (.int .u64 6))) fun t47=>
 pK (oBin .and t27 (.p (.int .u8 63))) fun t48=>
 pK (z1s .i32 t48) fun t49=>
 pK (oBin .or t47 t49) fun t50=>
 K .ret ⟨[(2,t50),(3,(AI 2))],h41,(y42++(y39++(y36++(y33++(y25++(y22++x))))))⟩)
 (pK (z17 v0 (AI 2)) fun t51=>
 pK (oBin .lss t51 (.p (.int .u8 128))) fun t52=>
 gM t52 false t51 h41 fun t53 h54 y55=>
 gP t52 false (oBin .lss (.p (.int .u8 191)) t53) h54 fun t56 h57 y58=>
 pK (z0y t52 (AB true) t56) fun t59=>
 z0j t59 (K .ret ⟨[(2,(.p (.int .i32 65533))),(3,(AI 1))],h57,(y58++(y55++(y42++(y39++(y36++(y33++(y25++(y22++x))))))))⟩)
 (pK (oBin .leq t16 (AI 3)) fun t60=>
 z0j t60 (pK (oBin .and t3 (.p (.int .u8 15))) fun t61=>
 pK (z1s .i32 t61) fun t62=>
 pK (oBin .shl t62 (.p (.int .u64 12))) fun t63=>
 pK (oBin .and t27 (.p (.int .u8 63))) fun t64=>
 pK (z1s .i32 t64) fun t65=>
 pK (oBin .shl t65 (.p (.int .u64 6))) fun t66=>
 pK (oBin .or t63 t66) fun t67=>
 pK (oBin .and t51 (.p (.int .u8 63))) fun t68=>
 pK (z1s .i32 t68) fun t69=>
 pK (oBin .or t67 t69) fun t70=>
 K .ret ⟨[(2,t70),(3,(AI 3))],h57,(y58++(y55++(y42++(y39++(y36++(y33++(y25++(y22++x))))))))⟩)
 (pK (z17 v0 (AI 3)) fun t71=>
 pK (oBin .lss t71 (.p (.int .u8 128))) fun t72=>
 gM t72 false t71 h57 fun t73 h74 y75=>
 gP t72 false (oBin .lss (.p (.int .u8 191)) t73) h74 fun t76 h77 y78=>
 pK (z0y t72 (AB true) t76) fun t79=>
 z0j t79 (K .ret ⟨[(2,(.p (.int .i32 65533))),(3,(AI 1))],h77,(y78++(y75++(y58++(y55++(y42++(y39++(y36++(y33++(y25++(y22++x))))))))))⟩)
 (pK (oBin .and t3 (.p (.int .u8 7))) fun t80=>
 pK (z1s .i32 t80) fun t81=>
 pK (oBin .shl t81 (.p (.int .u64 18))) fun t82=>
 pK (oBin .and t27 (.p (.int .u8 63))) fun t83=>
 pK (z1s .i32 t83) fun t84=>
 pK (oBin .shl t84 (.p (.int .u64 12))) fun t85=>
 pK (oBin .or t82 t85) fun t86=>
 pK (oBin .and t51 (.p (.int .u8 63))) fun t87=>
 pK (z1s .i32 t87) fun t88=>
 pK (oBin .shl t88 (.p (.int .u64 6))) fun t89=>
 pK (oBin .or t86 t89) fun t90=>
 pK (oBin .and t71 (.p (.int .u8 63))) fun t91=>
 pK (z1s .i32 t91) fun t92=>
 pK (oBin .or t90 t92) fun t93=>
 K .ret ⟨[(2,t93),(3,(AI 4))],h77,(y78++(y75++(y58++(y55++(y42++(y39++(y36++(y33++(y25++(y22++x))))))))))⟩))))))))
theorem e_q09y {C gl v0 h x K}:NW C gl zjX.body ⟨enter [v0],h,x⟩ K=zs5 C gl v0 h x K:=by kernel_rfl
def z2G:ACode:=.pr [0,4,5] (.seq (.seq (rg [mV 9 5,
mV 10 0,
uO 11 (.lens 10),
bN 12 .lss 9 11] [0,4,5,12])
(.cond 12 .skip
(.exit 0)))
(.seq (.block 1 (rg [mV 15 4,
bN 16 .mul 15 (.c (.p (.int .u32 16777619))),
mV 17 0,
mV 18 5,
uO 19 (.idxs 17 18),
uO 20 (.conv (.i .u32) 19),
bN 21 .add 16 20,
mV 4 21] [0,4,5]))
(rg [mV 13 5,
bN 14 .add 13 (cI 1),
mV 5 14] [0,4,5])))
def zbR (C:Hd) (gl:GL) (v0 v4 v5:AV) (h:Heap) (x:Esc) (K:KT):Prop:=
 pK (z0X v0) fun t1=>
 pK (oBin .lss v5 t1) fun t2=>
 z0j t2 (pK (oBin .mul v4 (.p (.int .u32 16777619))) fun t3=>
 pK (z17 v0 v5) fun t4=>
 pK (z1s .u32 t4) fun t5=>
 pK (oBin .add t3 t5) fun t6=>
 pK (oBin .add v5 (AI 1)) fun t7=>
 K .normal ⟨[(0,v0),(4,t6),(5,t7)],h,x⟩)
 (K (.exit 0) ⟨[(0,v0),(4,v4),(5,v5),(12,t2)],h,x⟩)
theorem zl2 {C gl e h x K}:NW C gl z2G ⟨e,h,x⟩ K=zbR C gl (aget e 0) (aget e 4) (aget e 5) h x K:=by kernel_rfl
theorem znl {C gl e h x K}:NW C gl (.loop z2G) ⟨e,h,x⟩ K=z0T C gl z2G K [(0,aget e 0),(4,aget e 4),(5,aget e 5)] h x:=z0A
def z86:ACode:=.pr [4,6,7,8] (rg [mV 34 7,
mV 35 7,
bN 36 .mul 34 35,
mV 7 36] [4,6,7,8])
def zbS (C:Hd) (gl:GL) (v4 v6 v7 v8:AV) (h:Heap) (x:Esc) (K:KT):Prop:=
 pK (oBin .mul v7 v7) fun t1=>
 K .normal ⟨[(4,v4),(6,v6),(7,t1),(8,v8)],h,x⟩
theorem zl3 {C gl e h x K}:NW C gl z86 ⟨e,h,x⟩ K=zbS C gl (aget e 4) (aget e 6) (aget e 7) (aget e 8) h x K:=by kernel_rfl
def z87:ACode:=.pr [4,6,7,8] (rg [mV 26 8,
bN 27 .shr 26 (.c (.p (.int .u64 1))),
mV 8 27] [4,6,7,8])
def zbT (C:Hd) (gl:GL) (v4 v6 v7 v8:AV) (h:Heap) (x:Esc) (K:KT):Prop:=
 pK (oBin .shr v8 (.p (.int .u64 1))) fun t1=>
 K .normal ⟨[(4,v4),(6,v6),(7,v7),(8,t1)],h,x⟩
theorem zl4 {C gl e h x K}:NW C gl z87 ⟨e,h,x⟩ K=zbT C gl (aget e 4) (aget e 6) (aget e 7) (aget e 8) h x K:=by kernel_rfl
def zbm (q2 q3:ACode):ACode:=.pr [4,6,7,8] (.seq (.seq (rg [mV 24 8,
bN 25 .gtr 24 (cI 0)] [4,6,7,8,25])
(.cond 25 .skip
(.exit 2)))
(.seq (.block 3 (.seq (.seq (rg [mV 28 8,
bN 29 .and 28 (cI 1),
bN 30 .neq 29 (cI 0)] [4,6,7,8,30])
(.cond 30 (rg [mV 31 6,
mV 32 7,
bN 33 .mul 31 32,
mV 6 33] [4,6,7,8])
.skip))
q2))
q3))
def z3P:ACode:=zbm z86 z87
def z79 (C:Hd) (gl:GL) (q2 q3:ACode) (v4 v6 v7 v8:AV) (h:Heap) (x:Esc) (K:KT):Prop:=
 pK (oBin .gtr v8 (AI 0)) fun t1=>
 z0j t1 (pK (oBin .and v8 (AI 1)) fun t2=>
 pK (oBin .neq t2 (AI 0)) fun t3=>
 z0j t3 (pK (oBin .mul v6 v7) fun t4=>
 NW C gl q2 ⟨[(4,v4),(6,t4),(7,v7),(8,v8)],h,x⟩ (z0u 3 (seqN C gl q3 K)))
 (NW C gl q2 ⟨[(4,v4),(6,v6),(7,v7),(8,v8),(30,t3)],h,x⟩ (z0u 3 (seqN C gl q3 K))))
 (K (.exit 2) ⟨[(4,v4),(6,v6),(7,v7),(8,v8),(25,t1)],h,x⟩)
theorem zi1 {C gl q2 q3 e h x K}:NW C gl (zbm q2 q3) ⟨e,h,x⟩ K=z79 C gl q2 q3 (aget e 4) (aget e 6) (aget e 7) (aget e 8) h x K:=by kernel_rfl
theorem zl5 {C gl e h x K}:NW C gl z3P ⟨e,h,x⟩ K=z79 C gl z86 z87 (aget e 4) (aget e 6) (aget e 7) (aget e 8) h x K:=zi1
theorem znm {C gl e h x K}:NW C gl (.loop z3P) ⟨e,h,x⟩ K=z0T C gl z3P K [(4,aget e 4),(6,aget e 6),(7,aget e 7),(8,aget e 8)] h x:=z0A
def z88:ACode:=.pr [4,6] (.seq (rg [mV 37 4,
mV 38 6,
mV 2 37,
mV 3 38] [2,3])
.ret)
def zbU (C:Hd) (gl:GL) (v4 v6:AV) (h:Heap) (x:Esc) (K:KT):Prop:=
 K .ret ⟨[(2,v4),(3,v6)],h,x⟩
theorem zl6 {C gl e h x K}:NW C gl z88 ⟨e,h,x⟩ K=zbU C gl (aget e 4) (aget e 6) h x K:=by kernel_rfl
def zbn (q4 q5:ACode):ACode:=.pr [0,4] (.seq (rg [mV 6 (.c (.p (.int .u32 1))),
mV 7 (.c (.p (.int .u32 16777619)))] [0,4,6,7])
(.seq (.seq (rg [mV 22 0,
uO 23 (.lens 22),
mV 8 23] [4,6,7,8])
(.block 2 (.loop q4)))
q5))
def z54:ACode:=zbn z3P z88
def z7A (C:Hd) (gl:GL) (q4 q5:ACode) (v0 v4:AV) (h:Heap) (x:Esc) (K:KT):Prop:=
 pK (z0X v0) fun t1=>
 NW C gl (.loop q4) ⟨[(4,v4),(6,(.p (.int .u32 1))),(7,(.p (.int .u32 16777619))),(8,t1)],h,x⟩ (z0u 2 (seqN C gl q5 K))
theorem zi2 {C gl q4 q5 e h x K}:NW C gl (zbn q4 q5) ⟨e,h,x⟩ K=z7A C gl q4 q5 (aget e 0) (aget e 4) h x K:=by kernel_rfl
theorem zl7 {C gl e h x K}:NW C gl z54 ⟨e,h,x⟩ K=z7A C gl z3P z88 (aget e 0) (aget e 4) h x K:=zi2
def zrS (q1 q6:ACode):ACode:=(.seq (rg [mV 2 (.c (.p (.int .u32 0))),
mV 3 (.c (.p (.int .u32 0)))] [0])
(.seq (rg [mV 4 (.c (.p (.int .u32 0)))] [0,4])
(.seq (.seq (rg [mV 5 (cI 0)] [0,4,5])
(.block 0 (.loop q1)))
q6)))
def ziU:AFun:=⟨1,[.t 2,.t 3],zrS z2G z54,false,false⟩
def zkD (C:Hd) (gl:GL) (q1 q6:ACode) (v0:AV) (h:Heap) (x:Esc) (K:KT):Prop:=
 NW C gl (.loop q1) ⟨[(0,v0),(4,(.p (.int .u32 0))),(5,(AI 0))],h,x⟩ (z0u 0 (seqN C gl q6 K))
theorem E_q01e {C gl q1 q6 v0 h x K}:NW C gl (zrS q1 q6) ⟨enter [v0],h,x⟩ K=zkD C gl q1 q6 v0 h x K:=by kernel_rfl
theorem e_q01e {C gl v0 h x K}:NW C gl ziU.body ⟨enter [v0],h,x⟩ K=zkD C gl z2G z54 v0 h x K:=E_q01e
def zoe:ACode:=.pr [5,6,7] (.seq (rg [bN 8 .lss 7 6] [5,6,7,8])
(.seq (.cond 8 .skip
(.exit 0))
(.seq (.block 1 (.seq (rg [iA 9 none 5 7,
lD 10 none 9,
mV 4 10] [4,5,6,7])
(.seq (rg [mV 11 4,
bN 12 .neq 11 (cI 0)] [4,5,6,7,12])
(.cond 12 (.seq (rg [mV 13 4,
mV 2 13] [2])
.ret)
.skip))))
(rg [bN 14 .add 7 (cI 1),
mV 7 14] [5,6,7]))))
def zof:ACode:=.pr [] (.seq (rg [mV 2 (cI 0)] [2])
.ret)
def P_q002 (q1 q2:ACode):ACode:=(.seq (rg [mV 2 (cI 0)] [0])
(.seq (.seq (rg [mV 5 0,
lN 6 5,
mV 7 (cI 0)] [5,6,7])
(.block 0 (.loop q1)))
q2))
def a_q002:AFun:=⟨1,[.t 2],P_q002 zoe zof,false,false⟩
def P_q036:ACode:=(.seq (rg [mV 0 cF] [])
(.seq (rg [uO 4 (.bsl false none 1 (.str []) [(0,(cS [115,99,97,110]))]),
uO 5 (.build [.sl0 none,.p (.int .i64 0)] [(0,1,4),(1,1,(cI 1))]),
uO 6 (.build [.p (.str []),.p (.int .i64 0),.p (.int .i64 0),.p (.int .i64 0),.p (.str []),.p (.str []),.p (.str []),.p (.int .i64 0)] [(0,1,(cS [97])),(1,1,(cI 1)),(3,1,(cI 1)),(4,1,(cS [98]))]),
uO 7 (.bsl false (some 8) 1 (.agg [.str [],.int .i64 0,.int .i64 0,.int .i64 0,.str [],.str [],.str [],.int .i64 0]) [(0,6)]),
cL 8 zsB [5,7,(cS [98]),(cI 0)],
mV 3 8,
eX 9 3 0,
eX 10 3 1,
uO 1 (.alloc [.p (.int .i64 0),.p (.int .i64 0),.p (.str []),.p (.str []),.p (.int .i64 0)]),
wO (.store (some 5) 1 9),
mV 2 10] [1,2])
(.seq (rg [mV 11 2,
bN 12 .eql 11 (cI 0),
mV 13 12,
gD 14 13 true (.faddr 0 none 1),
gD 15 13 true (.load none 14),
gD 16 13 true (.bin .eql 15 (cI 1)),
uO 17 (.pick 13 16 cF),
mV 18 17,
gD 19 18 true (.faddr 2 none 1),
gD 20 18 true (.load none 19),
gD 21 18 true (.bin .eql 20 (cS [115,99,97,110])),
uO 22 (.pick 18 21 cF),
mV 0 22] [0])
.ret)))
def a_q036:AFun:=⟨0,[.t 0],P_q036,false,false⟩
def zog:ACode:=.pr [1,16,17,18] (.seq (rg [bN 19 .lss 18 17] [1,16,17,18,19])
(.seq (.cond 19 .skip
(.exit 1))
(.seq (.block 2 (.seq (rg [mV 20 18,
iA 21 none 16 18,
lD 22 none 21,
mV 3 20,
mV 4 22] [1,3,4,16,17,18])
(.block 3 (.seq (rg [mV 24 4,
cL 25 z1Y [24],
uO 26 (.un .not 25),
mV 23 26] [1,3,4,16,17,18,23])
(.cond 23 (.seq (rg [mV 2 (cI 5)] [2])
.ret)
(.seq (rg [fA 28 0 none 1,
lD 29 none 28,
mV 30 3,
uO 31 (.slice none 29 none (some 30) none),
mV 32 4,
cL 33 z45 [31,32],
mV 27 33] [1,16,17,18,27])
(.cond 27 (.seq (rg [mV 2 (cI 6)] [2])
.ret)
.skip)))))))
(rg [bN 34 .add 18 (cI 1),
mV 18 34] [1,16,17,18]))))
def zoh:ACode:=.pr [1] (.seq (.seq (rg [fA 35 1 none 1,
lD 36 none 35,
cL 37 z1Z [36,(cI 1),(cI 10)]] [37])
(.cond 37 (.seq (rg [mV 2 (cI 1)] [2])
.ret)
.skip))
(.seq (rg [mV 2 (cI 0)] [2])
.ret))
def P_q07r (q1 q2:ACode):ACode:=(.seq (rg [uO 1 (.box 0),
mV 2 (cI 0)] [1])
(.seq (.block 0 (.seq (rg [fA 6 0 none 1,
lD 7 none 6,
lN 8 7,
bN 9 .eql 8 (cI 0),
mV 5 9] [1,5])
(.cond 5 (.seq (rg [mV 2 (cI 8)] [2])
.ret)
(.seq (rg [fA 11 0 none 1,
lD 12 none 11,
lN 13 12,
bN 14 .gtr 13 (cI 20),
mV 10 14] [1,10])
(.cond 10 (.seq (rg [mV 2 (cI 2)] [2])
.ret)
.skip)))))
(.seq (.seq (rg [fA 15 0 none 1,
lD 16 none 15,
lN 17 16,
mV 18 (cI 0)] [1,16,17,18])
(.block 1 (.loop q1)))
q2)))
def a_q07r:AFun:=⟨1,[.t 2],P_q07r zog zoh,false,false⟩
def P_q07t:ACode:=(.seq (rg [uO 4 (.box 0),
uO 8 (.alloc [.p (.int .i64 0),.p (.int .i64 0),.p (.str []),.p (.str []),.p (.int .i64 0)]),
mV 9 (cI 0)] [1,2,3,4,8])
(.seq (.seq (rg [lD 12 (some 2) 4,
mV 13 1,
mV 14 3,
cL 15 zsD [12,13,14],
mV 10 15] [1,2,3,4,8,10])
(.seq (rg [mV 16 10,
bN 17 .neq 16 (cI 0)] [1,2,3,4,8,10,17])
(.cond 17 (.seq (rg [uO 18 (.build [.p (.int .i64 0),.p (.int .i64 0),.p (.str []),.p (.str []),.p (.int .i64 0)] []),
mV 19 10,
wO (.store (some 5) 8 18),
mV 9 19] [8,9])
.ret)
.skip)))
(.seq (.seq (rg [mV 20 2,
cL 21 z1Y [20],
uO 22 (.un .not 21)] [1,2,3,4,8,22])
(.cond 22 (.seq (rg [uO 23 (.build [.p (.int .i64 0),.p (.int .i64 0),.p (.str []),.p (.str []),.p (.int .i64 0)] []),
wO (.store (some 5) 8 23),
mV 9 (cI 5)] [8,9])
.ret)
.skip))
(.seq (dr [dF (lD 24 (some 2) 4) [4],
dF (mV 25 1) [1],
dF (mV 26 3) [3],
dA (cL 27 zsK [25,26]) [25,26] true [] [0],
dT (cL 28 zsI [24,27]) [24,27],
dF (uO 29 (.nilchk 28)) [28],
dF (fA 30 2 none 29) [29],
dF (lD 31 none 30) [30],
dF (mV 32 2) [2],
dF (uO 33 (.look (none,[2]) false (.nilp) 31 32)) [31,32],
dF (mV 11 33) [33]] [8,11])
(.seq (.seq (rg [mV 34 11,
uO 35 (.isnil 0 false 34)] [8,11,35])
(.cond 35 (.seq (rg [uO 36 (.build [.p (.int .i64 0),.p (.int .i64 0),.p (.str []),.p (.str []),.p (.int .i64 0)] []),
wO (.store (some 5) 8 36),
mV 9 (cI 8)] [8,9])
.ret)
.skip))
(.seq (rg [mV 37 11,
uO 38 (.nilchk 37),
lD 39 (some 5) 38,
wO (.store (some 5) 8 39),
mV 9 (cI 0)] [8,9])
.ret))))))
def a_q07t:AFun:=⟨4,[.cell 8 (some 5),.t 9],P_q07t,false,false⟩
def zoi:ACode:=.pr [0,3,4,5] (rg [mV 16 5,
bN 17 .sub 16 (cI 1),
mV 5 17] [0,3,4,5])
def ziH (q1:ACode):ACode:=.pr [0,3,4,5] (.seq (.seq (rg [mV 14 5,
bN 15 .geq 14 (cI 0)] [0,3,4,5,15])
(.cond 15 .skip
(.exit 0)))
(.seq (.block 1 (.seq (rg [mV 18 0,
mV 19 5,
iA 20 (some 8) 18 19,
lD 21 (some 8) 20,
uO 6 (.alloc [.p (.str []),.p (.int .i64 0),.p (.int .i64 0),.p (.int .i64 0),.p (.str []),.p (.str []),.p (.str []),.p (.int .i64 0)]),
wO (.store (some 8) 6 21)] [0,3,4,5,6])
(.seq (rg [mV 22 4,
mV 23 5,
mV 24 3,
fA 25 0 none 6,
lD 26 none 25,
fA 27 1 none 6,
lD 28 none 27,
uO 29 (.build [.p (.str []),.p (.int .i64 0)] [(0,1,26),(1,1,28)]),
uO 30 (.look ((some 2),[2,0]) false (AB false) 24 29),
uO 31 (.un .not 30),
iA 32 none 22 23,
wO (.store none 32 31)] [0,3,4,5,6])
(.seq (rg [mV 33 4,
mV 34 5,
iA 35 none 33 34,
lD 36 none 35,
mV 37 36,
gD 38 37 true (.faddr 3 none 6),
gD 39 37 true (.load none 38),
gD 40 37 true (.bin .eql 39 (cI 7)),
uO 41 (.pick 37 40 cF)] [0,3,4,5,6,41])
(.cond 41 (rg [mV 42 3,
fA 43 6 none 6,
lD 44 none 43,
fA 45 7 none 6,
lD 46 none 45,
uO 47 (.build [.p (.str []),.p (.int .i64 0)] [(0,1,44),(1,1,46)]),
wO (.mupd ((some 2),[2,0]) 42 47 cT)] [0,3,4,5])
.skip)))))
q1))
def zoj:ACode:=ziH zoi
def zok:ACode:=.pr [4] (.seq (rg [mV 48 4,
mV 2 48] [2])
.ret)
def P_q081 (q2 q3:ACode):ACode:=(.seq (rg [mV 2 (.c (.p (.sl none [])))] [0])
(.seq (rg [uO 7 (.mkmap),
mV 3 7] [0,3])
(.seq (rg [mV 8 0,
lN 9 8,
uO 10 (.mksl none (.bool false) 9 9),
mV 4 10] [0,3,4])
(.seq (.seq (rg [mV 11 0,
lN 12 11,
bN 13 .sub 12 (cI 1),
mV 5 13] [0,3,4,5])
(.block 0 (.loop (.scope q2))))
q3))))
def a_q081:AFun:=⟨1,[.t 2],P_q081 zoj zok,false,false⟩
def P_q083:ACode:=(.seq (rg [uO 3 (.box 0),
mV 6 (cI 0)] [1,2,3])
(.seq (rg [lD 7 (some 2) 3,
cL 8 zsA [7],
mV 9 1,
cL 10 z3E [9],
mV 11 2,
cL 12 zsJ [11],
uO 13 (.bsl false none 3 (.int .i64 0) [(0,8),(1,10),(2,12)]),
cL 14 zs9 [13],
mV 6 14] [6])
.ret))
def a_q083:AFun:=⟨3,[.t 6],P_q083,false,false⟩
def P_q084:ACode:=(.seq (rg [mV 4 (cI 0)] [0,1])
(.seq (rg [mV 5 0,
uO 6 (.nilchk 5),
fA 7 0 (some 2) 6,
fA 8 0 none 7,
lD 9 none 8,
mV 10 1,
cL 11 z3w [9,10],
mV 4 11] [4])
.ret))
def a_q084:AFun:=⟨2,[.t 4],P_q084,false,false⟩
def zol:ACode:=.pr [] (.seq (rg [mV 6 (cI 0)] [6])
.ret)
def zom:ACode:=.pr [] (.seq (rg [mV 6 (cI 0)] [6])
.ret)
def ziI (q2:ACode):ACode:=.pr [0,1] (.seq (rg [mV 98 1,
uO 99 (.nilchk 98),
fA 100 4 none 99,
lD 101 none 100,
bN 102 .add 101 (cI 1),
uO 103 (.nilchk 98),
fA 104 4 none 103,
wO (.store none 104 102)] [0,1])
(.seq (rg [mV 105 1,
uO 106 (.nilchk 105),
fA 107 0 none 106,
wO (.store none 107 (cI 3))] [0,1])
(.seq (.seq (dr [dF (mV 108 1) [1],
dF (uO 109 (.nilchk 108)) [108],
dF (fA 110 4 none 109) [109],
dF (lD 111 none 110) [110],
dF (mV 112 0) [0],
dF (uO 113 (.nilchk 112)) [112],
dF (fA 114 0 (some 2) 113) [113],
dF (fA 115 1 none 114) [114],
dF (lD 116 none 115) [115],
dF (bN 117 .eql 111 116) [111,116]] [1,117])
(.cond 117 (rg [mV 118 1,
uO 119 (.nilchk 118),
fA 120 0 none 119,
wO (.store none 120 (cI 5))] [])
.skip))
q2)))
def zon:ACode:=ziI zom
def P_q085 (q1 q3:ACode):ACode:=(.seq (rg [uO 5 (.box 2),
mV 6 (cI 0)] [0,1,5])
(.seq (.block 0 (.seq (rg [mV 10 1,
uO 11 (.nilchk 10),
fA 12 0 none 11,
lD 13 none 12,
bN 14 .neq 13 (cI 2),
mV 9 14] [0,1,5,9])
(.cond 9 (.seq (rg [mV 6 (cI 11)] [6])
.ret)
(.seq (dr [dF (mV 16 1) [1],
dF (uO 17 (.nilchk 16)) [16],
dF (fA 18 3 none 17) [17],
dF (lD 19 none 18) [18],
dF (fA 20 0 none 5) [5],
dF (lD 21 none 20) [20],
dF (bN 22 .neq 19 21) [19,21],
dF (mV 15 22) [22]] [0,1,5,15])
(.cond 15 (.seq (rg [mV 6 (cI 13)] [6])
.ret)
.skip)))))
(.seq (rg [fA 23 3 none 5,
lD 24 none 23,
bN 25 .eql 24 (cI 3),
mV 7 25] [0,1,5,7])
(.seq (dr [dF (mV 26 0) [0],
dF (mV 27 0) [0],
dF (uO 28 (.nilchk 27)) [27],
dF (fA 29 4 none 28) [28],
dF (lD 30 none 29) [29],
dF (fA 31 4 none 5) [5],
dF (lD 32 none 31) [31],
dF (mV 33 1) [1],
dF (uO 34 (.nilchk 33)) [33],
dF (fA 35 2 none 34) [34],
dF (lD 36 none 35) [35],
dF (mV 37 1) [1],
dF (uO 38 (.nilchk 37)) [37],
dF (fA 39 1 none 38) [38],
dF (lD 40 none 39) [39],
dF (fA 41 2 none 5) [5],
dF (lD 42 none 41) [41],
dF (mV 43 7) [7],
dF (uO 44 (.build [.p (.str []),.p (.str []),.p (.int .i64 0),.p (.int .i64 0),.p (.bool false)] [(0,1,32),(1,1,36),(2,1,40),(3,1,42),(4,1,43)])) [32,36,40,42,43],
dF (uO 45 (.bsl false (some 5) 1 (.agg [.str [],.str [],.int .i64 0,.int .i64 0,.bool false]) [(0,44)])) [44],
dT (uO 46 (.app (some 5) 30 45)) [30,45],
dF (uO 47 (.nilchk 26)) [26],
dF (fA 48 4 none 47) [47],
dT (wO (.store none 48 46)) [48,46]] [0,1,5,7])
(.seq (rg [mV 49 0,
mV 50 1,
fA 51 2 none 5,
lD 52 none 51,
cL 53 zmE [49,50,52]] [0,1,5,7])
(.seq (rg [mV 54 1,
fA 55 2 none 5,
lD 56 none 55,
uO 57 (.nilchk 54),
fA 58 1 none 57,
wO (.store none 58 56)] [0,1,7])
(.seq (.seq (rg [mV 59 7] [0,1,59])
(.cond 59 (.seq (rg [mV 60 1,
uO 61 (.nilchk 60),
fA 62 4 none 61,
wO (.store none 62 (cI 0))] [0,1])
(.seq (rg [mV 63 0,
mV 64 1,
uO 65 (.nilchk 64),
fA 66 2 none 65,
lD 67 none 66,
cL 68 zsE [63,67],
bN 69 .add 68 (cI 1),
mV 8 69] [0,1,8])
(.seq (.seq (rg [mV 70 8,
mV 71 0,
uO 72 (.nilchk 71),
fA 73 0 (some 2) 72,
fA 74 0 none 73,
lD 75 none 74,
lN 76 75,
bN 77 .eql 70 76] [0,1,8,77])
(.cond 77 (rg [mV 78 1,
mV 79 1,
uO 80 (.nilchk 78),
fA 81 0 none 80,
wO (.store none 81 (cI 4)),
uO 82 (.nilchk 79),
fA 83 2 none 82,
wO (.store none 83 (cS []))] [])
(rg [mV 84 1,
mV 85 1,
mV 86 0,
uO 87 (.nilchk 86),
fA 88 0 (some 2) 87,
fA 89 0 none 88,
lD 90 none 89,
mV 91 8,
iA 92 none 90 91,
lD 93 none 92,
uO 94 (.nilchk 84),
fA 95 0 none 94,
wO (.store none 95 (cI 1)),
uO 96 (.nilchk 85),
fA 97 2 none 96,
wO (.store none 97 93)] [])))
q1)))
.skip))
q3)))))))
def a_q085:AFun:=⟨3,[.t 6],P_q085 zol zon,false,false⟩
def zoo:ACode:=.pr [0,1,2,11,12] (rg [bN 47 .add 12 (cI 1),
mV 12 47] [0,1,2,11,12])
def ziJ (q1:ACode):ACode:=.pr [0,1,2,11,12] (.seq (rg [bN 13 .lss 12 11] [0,1,2,11,12,13])
(.seq (.cond 13 .skip
(.exit 0))
(.seq (.block 1 (.seq (rg [mV 14 12,
mV 6 14] [0,1,2,6,11,12])
(.seq (dr [dF (mV 15 0) [0],
dF (uO 16 (.nilchk 15)) [15],
dF (fA 17 5 none 16) [16],
dF (lD 18 none 17) [17],
dF (mV 19 6) [6],
dF (iA 20 (some 3) 18 19) [18,19],
dF (fA 21 0 none 20) [20],
dF (lD 22 none 21) [21],
dF (mV 23 1) [1],
dF (uO 24 (.nilchk 23)) [23],
dF (fA 25 3 none 24) [24],
dF (lD 26 none 25) [25],
dF (bN 27 .eql 22 26) [22,26],
dF (mV 28 27) [27],
dF (gD 29 28 true (.mv 0)) [0,28],
dF (gD 30 28 true (.nilchk 29)) [29,28],
dF (gD 31 28 true (.faddr 5 none 30)) [30,28],
dF (gD 32 28 true (.load none 31)) [31,28],
dF (gD 33 28 true (.mv 6)) [6,28],
dF (gD 34 28 true (.iaddr (some 3) 32 33)) [32,33,28],
dF (gD 35 28 true (.faddr 2 none 34)) [34,28],
dF (gD 36 28 true (.load none 35)) [35,28],
dF (gD 37 28 true (.bin .lss 36 (cI 0))) [36,28],
dF (uO 38 (.pick 28 37 cF)) [28,37]] [0,1,2,6,11,12,38])
(.cond 38 (rg [mV 39 0,
uO 40 (.nilchk 39),
fA 41 5 none 40,
lD 42 none 41,
mV 43 6,
mV 44 2,
iA 45 (some 3) 42 43,
fA 46 2 none 45,
wO (.store none 46 44)] [0,1,2,11,12])
.skip))))
q1)))
def zop:ACode:=ziJ zoo
def zoq:ACode:=.pr [0,1] (.seq (dr [dF (mV 48 0) [0],
dF (uO 49 (.nilchk 48)) [48],
dF (fA 50 3 none 49) [49],
dF (lD 51 none 50) [50],
dF (mV 52 1) [1],
dF (uO 53 (.nilchk 52)) [52],
dF (fA 54 3 none 53) [53],
dF (lD 55 none 54) [54],
dT (wO (.mdel (none,[2]) 51 55)) [51,55]] [1])
(rg [mV 56 1,
uO 57 (.nilchk 56),
fA 58 3 none 57,
wO (.store none 58 (cS []))] []))
def P_q086 (q2 q3:ACode):ACode:=(.seq (.seq (rg [mV 7 0,
uO 8 (.nilchk 7),
fA 9 5 none 8,
lD 10 none 9,
lN 11 10,
mV 12 (cI 0)] [0,1,2,11,12])
(.block 0 (.loop q2)))
q3)
def a_q086:AFun:=⟨3,[],P_q086 zop zoq,false,false⟩
def P_q087:ACode:=(.seq (rg [uO 5 (.box 2),
mV 6 (cI 0)] [0,1,5])
(.seq (dr [dF (mV 10 0) [0],
dF (uO 11 (.nilchk 10)) [10],
dF (fA 12 3 none 11) [11],
dF (lD 13 none 12) [12],
dF (fA 14 0 none 5) [5],
dF (lD 15 none 14) [14],
dF (uO 16 (.look (none,[2]) true (.p (.str [])) 13 15)) [13,15],
dF (mV 9 16) [16],
dF (eX 17 9 0) [9],
dF (eX 18 9 1) [9],
dF (mV 7 17) [17],
dF (mV 8 18) [18]] [0,1,5,8])
(.seq (.block 0 (.seq (rg [mV 20 1,
uO 21 (.nilchk 20),
fA 22 0 none 21,
lD 23 none 22,
bN 24 .neq 23 (cI 1),
mV 19 24] [0,1,5,8,19])
(.cond 19 (.seq (rg [mV 6 (cI 11)] [6])
.ret)
(.seq (dr [dF (fA 26 5 none 5) [5],
dF (lD 27 none 26) [26],
dF (mV 28 1) [1],
dF (uO 29 (.nilchk 28)) [28],
dF (fA 30 2 none 29) [29],
dF (lD 31 none 30) [30],
dF (bN 32 .neq 27 31) [27,31],
dF (mV 25 32) [32]] [0,1,5,8,25])
(.cond 25 (.seq (rg [mV 6 (cI 3)] [6])
.ret)
(.seq (rg [mV 34 8,
mV 33 34] [0,1,5,33])
(.cond 33 (.seq (rg [mV 6 (cI 12)] [6])
.ret)
.skip)))))))
(.seq (dr [dF (mV 35 1) [1],
dF (mV 36 1) [1],
dF (mV 37 1) [1],
dF (fA 38 2 none 5) [5],
dF (lD 39 none 38) [38],
dF (fA 40 0 none 5) [5],
dF (lD 41 none 40) [40],
dF (uO 42 (.nilchk 35)) [35],
dF (fA 43 0 none 42) [42],
dA (wO (.store none 43 (cI 2))) [43] true [] [4,6],
dF (uO 44 (.nilchk 36)) [36],
dF (fA 45 1 none 44) [44],
dA (wO (.store none 45 39)) [45,39] true [] [6],
dF (uO 46 (.nilchk 37)) [37],
dF (fA 47 3 none 46) [46],
dT (wO (.store none 47 41)) [47,41]] [0,5])
(.seq (dr [dF (mV 48 0) [0],
dF (uO 49 (.nilchk 48)) [48],
dF (fA 50 3 none 49) [49],
dF (lD 51 none 50) [50],
dF (fA 52 0 none 5) [5],
dF (lD 53 none 52) [52],
dF (fA 54 4 none 5) [5],
dF (lD 55 none 54) [54],
dT (wO (.mupd (none,[2]) 51 53 55)) [51,53,55]] [0,5])
(.seq (dr [dF (mV 56 0) [0],
dF (mV 57 0) [0],
dF (uO 58 (.nilchk 57)) [57],
dF (fA 59 5 none 58) [58],
dF (lD 60 none 59) [59],
dF (fA 61 0 none 5) [5],
dF (lD 62 none 61) [61],
dF (fA 63 2 none 5) [5],
dF (lD 64 none 63) [63],
dF (uO 65 (.build [.p (.str []),.p (.int .i64 0),.p (.int .i64 0)] [(0,1,62),(1,1,64),(2,1,(cI (-1)))])) [62,64],
dF (uO 66 (.bsl false (some 3) 1 (.agg [.str [],.int .i64 0,.int .i64 0]) [(0,65)])) [65],
dT (uO 67 (.app (some 3) 60 66)) [60,66],
dF (uO 68 (.nilchk 56)) [56],
dF (fA 69 5 none 68) [68],
dT (wO (.store none 69 67)) [69,67]] [])
(.seq (rg [mV 6 (cI 0)] [6])
.ret)))))))
def a_q087:AFun:=⟨3,[.t 6],P_q087,false,false⟩
end Go.Am
end
section
/- The functions asv abstract code,and asv formulas over their values: printed by program out of the translation. -/
set_option linter.unusedVariables false
set_option maxRecDepth 100000
namespace Go.Am
def zor:ACode:=.pr [0,3,5,38,45] (.cond 45 (.seq (rg [mV 48 0,
mV 49 5,
lD 50 (some 8) 3,
cL 51 zsF [48,49,50],
mV 4 51] [4])
.ret)
(.seq (rg [bN 53 .eql 38 (cI 5),
mV 52 53] [0,3,5,52])
(.cond 52 (.seq (.seq (rg [mV 54 5,
uO 55 (.nilchk 54),
fA 56 0 none 55,
lD 57 none 56,
bN 58 .neq 57 (cI 3)] [3,5,58])
(.cond 58 (.seq (rg [mV 4 (cI 11)] [4])
.ret)
.skip))
(.seq (dr [dF (mV 59 5) [5],
dF (mV 60 5) [5],
dF (fA 61 2 none 3) [3],
dF (lD 62 none 61) [61],
dF (uO 63 (.nilchk 59)) [59],
dF (fA 64 0 none 63) [63],
dA (wO (.store none 64 (cI 1))) [64] true [] [3],
dF (uO 65 (.nilchk 60)) [60],
dF (fA 66 1 none 65) [65],
dT (wO (.store none 66 62)) [66,62]] [])
(.seq (rg [mV 4 (cI 0)] [4])
.ret)))
.skip)))
def zos:ACode:=.pr [3,5] (.seq (dr [dF (mV 89 5) [5],
dF (mV 90 5) [5],
dF (fA 91 2 none 3) [3],
dF (lD 92 none 91) [91],
dF (uO 93 (.nilchk 89)) [89],
dF (fA 94 0 none 93) [93],
dA (wO (.store none 94 (cI 5))) [94] true [] [3],
dF (uO 95 (.nilchk 90)) [90],
dF (fA 96 1 none 95) [95],
dT (wO (.store none 96 92)) [96,92]] [])
(.seq (rg [mV 4 (cI 0)] [4])
.ret))
def ziK (q2:ACode):ACode:=.pr [0,3,5] (.seq (.seq (rg [mV 67 5,
uO 68 (.nilchk 67),
fA 69 0 none 68,
lD 70 none 69,
bN 71 .eql 70 (cI 4),
mV 72 71,
gD 73 72 false (.mv 5),
gD 74 72 false (.nilchk 73),
gD 75 72 false (.faddr 0 none 74),
gD 76 72 false (.load none 75),
gD 77 72 false (.bin .eql 76 (cI 5)),
uO 78 (.pick 72 cT 77)] [0,3,5,78])
(.cond 78 (.seq (rg [mV 4 (cI 11)] [4])
.ret)
.skip))
(.seq (.seq (rg [mV 79 5,
uO 80 (.nilchk 79),
fA 81 0 none 80,
lD 82 none 81,
bN 83 .eql 82 (cI 2)] [0,3,5,83])
(.cond 83 (rg [mV 84 0,
mV 85 5,
fA 86 2 none 3,
lD 87 none 86,
cL 88 zmE [84,85,87]] [3,5])
.skip))
q2))
def zot:ACode:=ziK zos
def P_q088 (q1 q3:ACode):ACode:=(.seq (rg [uO 3 (.box 1),
mV 4 (cI 0)] [0,3])
(.seq (dr [dF (mV 6 0) [0],
dF (uO 7 (.nilchk 6)) [6],
dF (fA 8 2 none 7) [7],
dF (lD 9 none 8) [8],
dF (fA 10 4 none 3) [3],
dF (lD 11 none 10) [10],
dF (uO 12 (.look (none,[2]) false (.nilp) 9 11)) [9,11],
dF (mV 5 12) [12]] [0,3,5])
(.seq (.seq (rg [fA 13 3 none 3,
lD 14 none 13,
bN 15 .eql 14 (cI 1)] [0,3,5,15])
(.cond 15 (.seq (.seq (rg [mV 16 5,
uO 17 (.isnil 0 true 16)] [0,3,17])
(.cond 17 (.seq (rg [mV 4 (cI 6)] [4])
.ret)
.skip))
(.seq (dr [dF (mV 18 0) [0],
dF (uO 19 (.nilchk 18)) [18],
dF (fA 20 2 none 19) [19],
dF (lD 21 none 20) [20],
dF (fA 22 4 none 3) [3],
dF (lD 23 none 22) [22],
dF (fA 24 2 none 3) [3],
dF (lD 25 none 24) [24],
dF (mV 26 0) [0],
dF (uO 27 (.nilchk 26)) [26],
dF (fA 28 0 (some 2) 27) [27],
dF (fA 29 0 none 28) [28],
dF (lD 30 none 29) [29],
dF (iA 31 none 30 (cI 0)) [30],
dF (lD 32 none 31) [31],
dF (uO 33 (.build [.p (.int .i64 0),.p (.int .i64 0),.p (.str []),.p (.str []),.p (.int .i64 0)] [(0,1,(cI 1)),(1,1,25),(2,1,32)])) [25,32],
dA (uO 34 (.box 33)) [33] true [] [3,5],
dT (wO (.mupd (none,[2]) 21 23 34)) [21,23,34]] [])
(.seq (rg [mV 4 (cI 0)] [4])
.ret)))
.skip))
(.seq (.seq (rg [mV 35 5,
uO 36 (.isnil 0 false 35)] [0,3,5,36])
(.cond 36 (.seq (rg [mV 4 (cI 8)] [4])
.ret)
.skip))
(.seq (.seq (rg [fA 37 3 none 3,
lD 38 none 37] [0,3,5,38])
(.block 0 (.seq (rg [bN 40 .eql 38 (cI 2),
mV 39 40] [0,3,5,38,39])
(.cond 39 (.seq (rg [mV 41 0,
mV 42 5,
lD 43 (some 8) 3,
cL 44 zsG [41,42,43],
mV 4 44] [4])
.ret)
(.seq (.seq (rg [bN 46 .eql 38 (cI 3),
mV 45 46] [0,3,5,38,45])
(.cond 45 .skip
(rg [bN 47 .eql 38 (cI 4),
mV 45 47] [0,3,5,38,45])))
q1)))))
q3)))))
def a_q088:AFun:=⟨2,[.t 4],P_q088 zor zot,false,false⟩
def zou:ACode:=.pr [5,6,17,18,19] (rg [bN 59 .add 19 (cI 1),
mV 19 59] [5,6,17,18,19])
def ziL (q1:ACode):ACode:=.pr [5,6,17,18,19] (.seq (rg [bN 20 .lss 19 18] [5,6,17,18,19,20])
(.seq (.cond 20 .skip
(.exit 0))
(.seq (.block 1 (.seq (rg [mV 21 19,
iA 22 (some 8) 17 19,
lD 23 (some 8) 22,
uO 8 (.alloc [.p (.str []),.p (.int .i64 0),.p (.int .i64 0),.p (.int .i64 0),.p (.str []),.p (.str []),.p (.str []),.p (.int .i64 0)]),
mV 7 21,
wO (.store (some 8) 8 23)] [5,6,7,8,17,18,19])
(.seq (.seq (rg [mV 24 6,
mV 25 7,
iA 26 none 24 25,
lD 27 none 26,
uO 28 (.un .not 27),
mV 29 28,
gD 30 29 false (.faddr 3 none 8),
gD 31 29 false (.load none 30),
gD 32 29 false (.bin .eql 31 (cI 7)),
uO 33 (.pick 29 cT 32)] [5,6,7,8,17,18,19,33])
(.cond 33 (.exit 1)
.skip))
(.seq (rg [mV 34 5,
lD 35 (some 8) 8,
cL 36 zsH [34,35],
mV 9 36] [5,6,7,9,17,18,19])
(.seq (rg [mV 37 9,
bN 38 .neq 37 (cI 0)] [5,6,7,9,17,18,19,38])
(.cond 38 (.seq (rg [mV 39 5,
mV 40 5,
uO 41 (.nilchk 40),
fA 42 6 none 41,
lD 43 none 42,
mV 44 7,
uO 45 (.bsl false none 1 (.int .i64 0) [(0,44)]),
uO 46 (.app none 43 45),
uO 47 (.nilchk 39),
fA 48 6 none 47,
wO (.store none 48 46)] [5,6,9,17,18,19])
(rg [mV 49 5,
mV 50 5,
uO 51 (.nilchk 50),
fA 52 7 none 51,
lD 53 none 52,
mV 54 9,
uO 55 (.bsl false none 1 (.int .i64 0) [(0,54)]),
uO 56 (.app none 53 55),
uO 57 (.nilchk 49),
fA 58 7 none 57,
wO (.store none 58 56)] [5,6,17,18,19]))
.skip))))))
q1)))
def zov:ACode:=ziL zou
def zow:ACode:=.pr [5] (.seq (rg [mV 60 5,
mV 4 60] [4])
.ret)
def P_q08b (q2 q3:ACode):ACode:=(.seq (rg [uO 2 (.box 0),
mV 4 (.c (.nilp))] [1,2])
(.seq (rg [lD 10 (some 2) 2,
uO 11 (.mkmap),
uO 12 (.mkmap),
uO 13 (.build [.sl0 none,.p (.int .i64 0),.nilm,.nilm,.sl0 (some 5),.sl0 (some 3),.sl0 none,.sl0 none] [(0,2,10),(2,1,11),(3,1,12)]),
uO 14 (.box 13),
mV 5 14] [1,5])
(.seq (rg [mV 15 1,
cL 16 zsC [15],
mV 6 16] [1,5,6])
(.seq (.seq (rg [mV 17 1,
lN 18 17,
mV 19 (cI 0)] [5,6,17,18,19])
(.block 0 (.loop (.scope q2))))
q3))))
def a_q08b:AFun:=⟨2,[.t 4],P_q08b zov zow,false,false⟩
def P_q08e:ACode:=(.seq (rg [mV 2 (cI 0)] [0])
(.seq (.seq (rg [mV 3 0,
cL 4 z6B [3],
uO 5 (.un .not 4)] [5])
(.cond 5 (.seq (rg [mV 2 (cI 1)] [2])
.ret)
.skip))
(.seq (rg [mV 2 (cI 0)] [2])
.ret)))
def a_q08e:AFun:=⟨1,[.t 2],P_q08e,false,false⟩
def zox:ACode:=.pr [0,1,5] (.seq (.seq (rg [mV 8 5,
bN 9 .gtr 8 (cI 0),
mV 10 9,
gD 11 10 true (.mv 0),
gD 12 10 true (.mv 5),
gD 13 10 true (.bin .sub 12 (cI 1)),
gD 14 10 true (.iaddr (some 8) 11 13),
gD 15 10 true (.faddr 2 none 14),
gD 16 10 true (.load none 15),
gD 17 10 true (.mv 1),
gD 18 10 true (.bin .gtr 16 17),
uO 19 (.pick 10 18 cF)] [0,1,5,19])
(.cond 19 .skip
(.exit 0)))
(.block 1 (rg [mV 20 5,
bN 21 .sub 20 (cI 1),
mV 5 21] [0,1,5])))
def zoy:ACode:=.pr [0,5] (.seq (rg [mV 22 0,
mV 23 5,
uO 24 (.slice (some 8) 22 none (some 23) none),
mV 4 24] [4])
.ret)
def P_q08j (q1 q2:ACode):ACode:=(.seq (rg [mV 4 (.c (.p (.sl (some 8) [])))] [0,1])
(.seq (rg [mV 6 0,
lN 7 6,
mV 5 7] [0,1,5])
(.seq (.block 0 (.loop q1))
q2)))
def a_q08j:AFun:=⟨2,[.t 4],P_q08j zox zoy,false,false⟩
end Go.Am
end
section
/- The abstract machine,part L: functions of the library that are met by the kit's contracts: plain values in,plain values out,new memory at most. -/
set_option linter.unusedSimpArgs false
set_option linter.unusedVariables false
namespace Go.Am
variable {P:Program} {gl:Nat→Option PV}
structure PureRow (P:Program) (gl:Nat→Option PV) (f:Nat) (spec:List PV→Option AV):Prop where
 enter:∀ us w,(callFunc f us).run P w = .ok (.enter f us) w
 run:∀ (M:Mem) (w:World) (vs:List PV) (r:AV) (us:List Value),(∀ b o v,M.c b o=some v→w.cell? ⟨b,o,none⟩=some v)→(∀ b o,M.b b=some o→w.heap[b]?=some o)→GInv gl M→vs.length=us.length →
  (∀ (j:Nat) (y:PV) (v:Value),vs[j]?=some y→us[j]?=some v→RPV M y v)→spec vs=some r →
  Calls P f us.toArray w fun e w'=>∃ x,e = .returned x∧WExt w w'∧RAV (ExtM M w w') [] [] r x
abbrev z7l:=List (Nat × (List PV→Option AV))
def zaQ:z7l→Nat→List AV→Heap→Option (AV × Heap × Esc)
 | [],_,_,_=>none
 | (g,s)::r,f,asv,h=>bif Nat.beq f g then ((unp asv).bind s).map fun v=>(v,h,[]) else zaQ r f asv h
theorem zaR:∀ (gs:z7l),(∀ g s,(g,s)∈gs→PureRow P gl g s)→∀ {f:Nat} {asv:List AV} {h:Heap} {v:AV} {h':Heap} {x:Esc},zaQ gs f asv h=some (v,h',x) →
 z11 P gl f asv h fun v1 h1 x1=>v1=v∧h1=h'∧x1=x
 | [],_,f,asv,h,v,h',x,H=>by cases H
 | (g,s)::r,hg,f,asv,h,v,h',x,H=>by
  unfold zaQ at H
  cases e1:Nat.beq f g with
  | false=>
   rw[e1] at H
   exact zaR r (fun g sh hm=>hg g sh (by simp [hm])) H
  | true=>
   rw[e1] at H
   have e:=Nat.eq_of_beq_eq_true e1
   subst e
   have R:=hg f s (by simp)
   simp only[cond_true] at H
   obtain⟨y,hy,e2⟩:=Option.map_eq_some_iff.1 H
   simp only[Prod.mk.injEq] at e2
   obtain⟨rfl,rfl,rfl⟩:=e2
   obtain⟨ps,hps,hs⟩:=Option.bind_eq_some_iff.1 hy
   have hm:=z4w hps
   subst hm
   intro μ w vs Hh Hg hl hr
   refine .inl ⟨R.enter _,?_⟩
   refine (R.run (imm h μ w) w ps y vs (fun b o v hv=>(z0Z.1 hv).2) (fun b o hv=>(z3H.1 hv).2) Hg (by simpa using hl) (fun j q v hq hv=>(hr j (.p q) v (by simp [hq]) hv).p_inv) hs).mono fun e w' he=>?_
   obtain⟨u,rfl,g1,g2⟩:=he
   obtain⟨n1,n2⟩:=Hh.ext g1
   have Lq:(ExtM (imm h μ w) w w').le (imm h μ w'):=by
    refine⟨fun b o v hv=>?_,fun b o hv=>?_,rfl,fun _ _ h=>by cases h⟩
    ·dsimp only[ExtM] at hv
     split at hv
     ·exact n2.le.c _ _ _ hv
     ·rename_i hb
      exact z0Z.2 ⟨fun hO=>hb (zaN Hh hO),hv⟩
    ·dsimp only[ExtM] at hv
     cases hv
   exact⟨_,_,_,μ,⟨rfl,rfl,rfl⟩,g2.evo ⟨Lq,Nat.zero_le _,fun id o m h1=>by simp at h1⟩,n1,n2,z0k.refl h []⟩
def libF (gs:List (Nat × Sh)) (ps:z7l) (f:Nat) (asv:List AV) (h:Heap):Option (AV × Heap × Esc):=match zh3 gs f asv h with
 | some y=>some y
 | none=>match zaQ ps f asv h with
  | some y=>some y
  | none=>match z0o h asv with
   | some (asv',h1)=>zaQ ps f asv' h1
   | none=>none
theorem zo3 {ps:z7l} (hp:∀ g s,(g,s)∈ps→PureRow P gl g s) {f:Nat} {asv asv':List AV} {h h1:Heap} {v:AV} {h':Heap} {x:Esc} (hq:z0o h asv=some (asv',h1)) (H:zaQ ps f asv' h1=some (v,h',x)) :
 z11 P gl f asv h fun v1 h2 x1=>v1=v∧h2=h'∧x1=x:=by
 intro μ w vs Hh Hg hl hr
 obtain⟨q1,q2,q3⟩:=z7d asv Hh hl hr hq
 rcases zaR ps hp H μ w vs q1.1 (Hg.mono q1.2.1.le) q2 q3 with ⟨k1,k2⟩ | ⟨r,w',v2,h2,x2,μ',k1,k2,k3,k4,k5,k6⟩
 ·refine .inl ⟨k1,k2.mono fun e w' he=>?_⟩
  cases e with
  | returned r=>
   obtain⟨v2,h2,x2,μ',k2,k3,k4,k5,k6⟩:=he
   exact⟨v2,h2,x2,μ',k2,k3,k4,q1.2.1.trans k5,by simpa using q1.2.2.trans k6⟩
  | panicked _=>exact he
  | outgrown=>exact he
 ·exact .inr ⟨r,w',v2,h2,x2,μ',k1,k2,k3,k4,q1.2.1.trans k5,by simpa using q1.2.2.trans k6⟩
theorem libF_ok {gs:List (Nat × Sh)} {ps:z7l} (hg:∀ g sh,(g,sh)∈gs→GrowRow P g sh) (hp:∀ g s,(g,s)∈ps→PureRow P gl g s) {f:Nat} {asv:List AV} {h:Heap} {v:AV} {h':Heap} {x:Esc} (H:libF gs ps f asv h=some (v,h',x)) :
 z11 P gl f asv h fun v1 h1 x1=>v1=v∧h1=h'∧x1=x:=by
 unfold libF at H
 split at H
 ·rename_i y hy
  cases H
  exact zge gs hg hy
 ·split at H
  ·rename_i y hy
   cases H
   exact zaR ps hp hy
  ·split at H
   ·rename_i asv' h1 hq
    exact zo3 hp hq H
   ·cases H
theorem z5s {X:Ctx} {f:Nat} {asv:List AV} {h h':Heap} {v:AV} {x:Esc} {K:Post} (hf:X.fn f=none) (hx:X.ex2 f asv h=some (v,h',x)):z0c X f asv h K=K v h' x:=by
 refine propext (z0c.eq (z0c.fold ?_) K)
 unfold Step
 simp only[hf,hx]
 exact⟨trivial,trivial,trivial⟩
def zdl:List (Nat × Sh)→Nat→Option Sh
 | [],_=>none
 | (g,s)::r,f=>bif Nat.beq f g then some s else zdl r f
theorem z6p:∀ {gs:List (Nat × Sh)} {f:Nat} {asv:List AV} {h:Heap},zdl gs f=none→zh3 gs f asv h=none
 | [],f,asv,h,_=>rfl
 | (g,s)::r,f,asv,h,hm=>by
  unfold zdl at hm
  unfold zh3
  cases hq:Nat.beq f g with
  | true=>rw[hq] at hm;cases hm
  | false=>rw[hq] at hm;exact z6p hm
def zd1:z7l→Nat→Option (List PV→Option AV)
 | [],_=>none
 | (g,s)::r,f=>bif Nat.beq f g then some s else zd1 r f
theorem z5X:∀ {gs:z7l} {f:Nat} {s:List PV→Option AV} {asv:List AV} {h:Heap},zd1 gs f=some s→zaQ gs f asv h=((unp asv).bind s).map fun v=>(v,h,[])
 | [],f,s,asv,h,hm=>by cases hm
 | (g,s')::r,f,s,asv,h,hm=>by
  unfold zd1 at hm
  unfold zaQ
  cases hq:Nat.beq f g with
  | true=>rw[hq] at hm;cases hm;rfl
  | false=>rw[hq] at hm;exact z5X hm
theorem z8t {gs:List (Nat × Sh)} {ps:z7l} {f:Nat} {s:List PV→Option AV} {asv:List AV} {vs:List PV} {v:AV} {h:Heap} (hg:zdl gs f=none) (hm:zd1 ps f=some s) (hu:unp asv=some vs) (hv:s vs=some v):libF gs ps f asv h=some (v,h,[]):=by
 unfold libF;rw[z6p hg,z5X hm,hu];simp [hv]
theorem zqK {gs:List (Nat × Sh)} {ps:z7l} {f:Nat} {s:List PV→Option AV} {asv asv':List AV} {vs:List PV} {v:AV} {h h1:Heap} (hg:zdl gs f=none) (hm:zd1 ps f=some s) (hn:unp asv=none) (hp:z0o h asv=some (asv',h1)) (hu:unp asv'=some vs) (hv:s vs=some v):libF gs ps f asv h=some (v,h1,[]):=by
 unfold libF
 rw[z6p hg,z5X hm,hn,hp]
 show zaQ ps f asv' h1=_
 rw[z5X hm,hu]
 simp [hv]
def glOf:List (Nat × PV)→Nat→Option PV
 | [],_=>none
 | (g,v)::r,n=>bif Nat.beq n g then some v else glOf r n
theorem zv0 {f:Nat} (h:(match P.funcs[f]? with | some fn=>fn.body.isSome&&fn.name != "runtime.NumGoroutine" | none=>false)=true) (us:Array Value) (w:World):(callFunc f us).run P w = .ok (.enter f us) w:=by
 cases hf:P.funcs[f]? with
 | none=>rw[hf] at h;cases h
 | some fn=>
  rw[hf] at h
  simp only[Bool.and_eq_true,bne_iff_ne,ne_eq] at h
  cases hb:fn.body with
  | none=>rw[hb] at h;cases h.1
  | some c=>exact zm7 hf hb h.2 us w
def digC (n:Nat):UInt8:=UInt8.ofNat (48+n)
def decN (n:Nat):List UInt8:=if n<10 then [digC n] else decN (n / 10)++[digC (n%10)]
termination_by n
decreasing_by omega
def itoa (n:Int):List UInt8:=if n<0 then 45::decN n.natAbs else decN n.natAbs
theorem z39 {n:Nat} (h:n<10):decN n=[digC n]:=by rw[decN,if_pos h]
theorem zev {n:Nat} (h:10≤n):decN n=decN (n / 10)++[digC (n%10)]:=by rw[decN,if_neg (by omega)]
def zh7:List PV→Option AV
 | [.int .i64 n]=>bif decide (-9223372036854775808≤n)&&decide (n≤9223372036854775807) then some (.p (.str (itoa n))) else none
 | _=>none
def zaP:PV:=.agg ((List.range 20).map fun i=>.int .u64 ((10^i:Nat):Int))
def digN:Nat→List UInt8→Option Nat
 | acc,[]=>some acc
 | acc,c::r=>if 48≤c.toNat∧c.toNat≤57 then digN (acc*10+(c.toNat-48)) r else none
def zej:List PV→Option AV
 | [.str s]=>if 1≤s.length∧s.length≤18 then match digN 0 s with
  | some n=>some (.tup [.p (.int .i64 (n:Int)),.nili])
  | none=>if s.head?=some 45∧2≤s.length then (digN 0 s.tail).map fun (n:Nat)=>.tup [.p (.int .i64 (-(n:Int))),.nili] else none
  else none
 | _=>none
theorem zcN:∀ (a:List UInt8) (acc:Nat) (c:UInt8),digN acc (a++[c])=(digN acc a).bind fun n=>if 48≤c.toNat∧c.toNat≤57 then some (n*10+(c.toNat-48)) else none
 | [],acc,c=>by
  simp only[List.nil_append,digN,Option.bind_some]
 | d::a,acc,c=>by
  simp only[List.cons_append,digN]
  split
  ·exact zcN a _ c
  ·rfl
theorem zpX {n:Nat} (h:n<10):(digC n).toNat=48+n:=by
 simp only[digC,UInt8.toNat_ofNat']
 omega
theorem za9:∀ (k n:Nat),n<10^(k+1)→1≤(decN n).length∧(decN n).length≤k+1
 | 0,n,h=>by rw[z39 (by simpa using h)];simp
 | k+1,n,h=>by
  rcases Nat.lt_or_ge n 10 with h1 | h1
  ·rw[z39 h1];simp
  ·have:=za9 k (n / 10) (by rw[Nat.div_lt_iff_lt_mul (by omega)];rw[Nat.pow_succ] at h;exact h)
   rw[zev h1]
   simp;omega
def zbF:List PV→Option AV
 | [.str s,.str [c]]=>some (.p (.int .i64 (s.count c)))
 | _=>none
def z2u:List PV→Option (List (List UInt8))
 | []=>some []
 | .str s::r=>(z2u r).map (s :: ·)
 | _=>none
def zh8:List PV→Option AV
 | [.sl none xs,.str sep]=>(z2u xs).bind fun l=>if l.length≤1000000∧(sep.intercalate l).length≤1000000000 then some (.p (.str (sep.intercalate l))) else none
 | _=>none
theorem zhW (l:List (List UInt8)):z2u (l.map PV.str)=some l:=by
 induction l with
 | nil=>rfl
 | cons a r ih=>rw[List.map_cons,z2u,ih];rfl
theorem zdQ:∀ {xs:List PV} {l:List (List UInt8)},z2u xs=some l→xs=l.map PV.str
 | [],l,h=>by simp [z2u] at h;subst h;rfl
 | .str s::r,l,h=>by
  rw[z2u] at h
  obtain⟨q,hq,rfl⟩:=Option.map_eq_some_iff.1 h
  rw[zdQ hq]
  rfl
 | .int _ _::_,l,h=>by simp [z2u] at h
 | .bool _::_,l,h=>by simp [z2u] at h
 | .sl _ _::_,l,h=>by simp [z2u] at h
 | .agg _::_,l,h=>by simp [z2u] at h
 | .nilp::_,l,h=>by simp [z2u] at h
 | .unk::_,l,h=>by simp [z2u] at h
end Go.Am
end
section
/- The abstract machine,part C: z1j calls that say true,asv contracts. -/
set_option linter.all false
namespace Go.Am
variable {P:Program} {gl:Nat→Option PV}
def zvv:List PV→Option AV
 | []=>some (AB true)
 | _=>none
theorem RPV.mono' {M M':Mem} (hM:∀ b o v,M.c b o=some v→M'.c b o=some v) {v:PV} {x:Value} (H:RPV M v x):RPV M' v x:=by
 induction H with
 | int k n=>exact .int k n
 | bool b=>exact .bool b
 | str s=>exact .str s
 | nilp=>exact .nilp
 | unk k n=>exact .unk k n
 | nils sh a cap=>exact .nils sh a cap
 | sl sh xs b o cap f hne hc he hm hr ih=>exact .sl sh xs b o cap f hne hc he (fun j y hy=>hM _ _ _ (hm j y hy)) ih
 | agg cs vs hl hr ih=>exact .agg cs vs hl ih
theorem GInv.mono' {M M':Mem} (hc:∀ b o v,M.c b o=some v→M'.c b o=some v) (hb:∀ b o,M.b b=some o→M'.b b=some o) (H:GInv gl M):GInv gl M':=fun n v hv=>by
 obtain⟨h1,cs,t,x,h2,h3⟩:=H n v hv
 refine⟨?_,cs,t,x,hb _ _ h2,h3⟩
 cases h1 with | vp _ _ _ f hm hr=>exact .vp v n 0 f (fun j y hy=>hc _ _ _ (hm j y hy)) (fun j y hy=>(hr j y hy).mono' hc)
theorem zpt {X:Ctx} (HX:Fits P X) {f:Nat} (H:z0c X f [] [] fun v h x=>v=AB true∧h=[]∧x=[]) (he:∀ us w,(callFunc f us).run P w = .ok (.enter f us) w):PureRow P X.gl f zvv:=by
 refine⟨he,fun M w vs r us hc hb hG hl hr hs=>?_⟩
 cases vs with
 | cons a l=>cases hs
 | nil=>
  have hu:us=[]:=List.length_eq_zero_iff.1 (by simpa using hl.symm)
  subst hu
  simp only[zvv,Option.some.injEq] at hs
  subst hs
  have hno:∀ b o,¬ za1 ([]:Heap) ([]:Mu) b o:=fun b o ⟨id,n,h1,_⟩=>by simp at h1
  have hnt:∀ b,¬ zhd ([]:Mu) b:=fun b ⟨id,n,h1⟩=>by simp at h1
  have hG':GInv X.gl (imm [] [] w):=hG.mono' (fun b o v h=>z0Z.2 ⟨hno b o,hc b o v h⟩) (fun b o h=>z3H.2 ⟨hnt b,hb b o h⟩)
  have hR:HeapRel [] [] w:=⟨rfl,fun id o m h1=>by simp at h1,fun i j b n n' h1=>by simp at h1,fun i b n h1=>by simp at h1⟩
  rcases z9v HX H [] w [] hR hG' rfl (fun j y v h1=>by simp at h1) with ⟨_,q⟩ | ⟨r,w',v,h',x,μ',q,_⟩
  ·refine q.mono fun e w' h=>?_
   cases e with
   | panicked _=>exact h.elim
   | outgrown=>exact h.elim
   | returned r=>
    obtain⟨v,h',x,μ',⟨rfl,rfl,rfl⟩,h1,h2,h3,h4⟩:=h
    have hm:μ'=[]:=List.length_eq_zero_iff.1 (by simpa using h2.len)
    subst hm
    have hbl:∀ b o,w.heap[b]?=some o→w'.heap[b]?=some o:=fun b o h=>(z3H.1 (h3.le.b b o (z3H.2 ⟨hnt b,h⟩))).2
    refine⟨r,rfl,⟨?_,fun b hb=>?_,?_⟩,?_⟩
    ·rcases Nat.lt_or_ge w'.heap.size w.heap.size with q | q
     ·have:=hbl w'.heap.size _ (Array.getElem?_eq_getElem q)
      simp at this
     ·exact q
    ·rw[hbl b _ (Array.getElem?_eq_getElem hb),Array.getElem?_eq_getElem hb]
    ·have:=h3.le.z
     simpa [imm] using this
    ·have:=h1.p_bool
     rw[this]
     exact .p _ _ (.bool true)
  ·rw[he] at q
   cases q
end Go.Am
end
