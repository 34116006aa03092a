/- Texts of the proof, laid together: CodesB, CodesC. -/
import Derived.KernelRfl
import Derived.Test.YtkbafocpdpcekaaGreatDoorlawQD4
set_option linter.all false
section
/- The functions asv abstract code,and asv formulas over their values: printed by program out of the translation. -/
set_option linter.unusedVariables false
set_option maxRecDepth 100000
namespace Go.Am
def oT:ACode:=.pr [1,3,4,15,16,17] (rg [bN 39 .add 17 (cI 1),
mV 17 39] [1,3,4,15,16,17])
def HY (C:Hd)(gl:GL)(v1 v3 v4 v15 v16 v17:AV)(h:aA)(x:Esc)(K:KT):Prop:=
 pK (eA .add v17 (AI 1)) fun t1=>
 K .normal ⟨[(1,v1),(3,v3),(4,v4),(15,v15),(16,v16),(17,t1)],h,x⟩
theorem zcl {C gl e h x K}:NW C gl oT ⟨e,h,x⟩ K=HY C gl (bA e 1) (bA e 3) (bA e 4) (bA e 15) (bA e 16) (bA e 17) h x K:=by kernel_rfl
def xV (q1:ACode):ACode:=.pr [1,3,4,15,16,17] (.seq (rg [bN 18 .lss 17 16] [1,3,4,15,16,17,18])
(.seq (.cond 18 .skip
(.exit 0))
(.seq (.block 1 (.seq (rg [iA 19 (some 4) 15 17,
lD 20 (some 4) 19,
uO 6 (.alloc [.p (.int .i64 0),.p (.str []),.p (.int .i64 0),.p (.int .i64 0)]),
wO (.store (some 4) 6 20)] [1,3,4,6,15,16,17])
(.seq (rg [fA 21 0 none 6,
lD 22 none 21,
bN 23 .eql 22 (cI 2),
mV 24 23,
gD 25 24 true (.faddr 2 none 6),
gD 26 24 true (.load none 25),
gD 27 24 true (.bin .geq 26 (cI 0)),
uO 28 (.pick 24 27 cF)] [1,3,4,6,15,16,17,28])
(.cond 28 (dr [dF (mV 29 4) [4],
dF (fA 30 2 none 6) [6],
dF (lD 31 none 30) [30],
dF (fA 32 3 none 6) [6],
dF (lD 33 none 32) [32],
dF (uO 34 (.build [.p (.int .i64 0),.p (.int .i64 0)] [(0,1,31),(1,1,33)])) [31,33],
dF (uO 35 (.look ((some 2),[0,0]) false (AI 0) 29 34)) [29,34],
dF (bN 36 .add 35 (cI 1)) [35],
dA (uO 37 (.ment ((some 2),[0,0]) (AI 0) 29 34)) [29,34] true [] [6],
dF (eX 38 37 1) [37],
dT (wO (.estore 29 38 36)) [29,38,36]] [1,3,4,15,16,17])
.skip))))
q1)))
def nJ:ACode:=xV oT
def bR (C:Hd)(gl:GL)(q1:ACode)(v1 v3 v4 v15 v16 v17:AV)(h:aA)(x:Esc)(K:KT):Prop:=
 pK (eA .lss v17 v16) fun t1=>
 oA t1 (pK (uA (some 4) v15 v17 h) fun t2=>
 pK (lA (some 4) t2 h) fun t3=>
 alK [.p (.int .i64 0),.p (.str []),.p (.int .i64 0),.p (.int .i64 0)] h fun t4 h5 y6=>
 wK (NA (some 4) t4 t3 h5) fun t7 h8 y9=>
 pK (nA 0 none t4) fun t10=>
 pK (lA none t10 h8) fun t11=>
 pK (eA .eql t11 (AI 2)) fun t12=>
 gP t12 true (nA 2 none t4) h8 fun t13 h14 y15=>
 gP t12 true (lA none t13 h14) h14 fun t16 h17 y18=>
 gP t12 true (eA .geq t16 (AI 0)) h17 fun t19 h20 y21=>
 pK (MA t12 t19 (AB false)) fun t22=>
 oA t22 (pK (nA 2 none t4) fun t23=>
 pK (lA none t23 h20) fun t24=>
 pK (nA 3 none t4) fun t25=>
 pK (lA none t25 h20) fun t26=>
 pK (vB [.p (.int .i64 0),.p (.int .i64 0)] [(0,1,t24),(1,1,t26)]) fun t27=>
 pK (kB ((some 2),[0,0]) false (AI 0) v4 t27 h20) fun t28=>
 pK (eA .add t28 (AI 1)) fun t29=>
 wK (fJ ((some 2),[0,0]) (AI 0) v4 t27 h20) fun t30 h31 y32=>
 (pK (kB ((some 2),[0,0]) false (AI 0) v4 t27 h31) fun v=>(fun u (g1:aA) (y1:Esc)=>u=t28∧g1=h31∧y1=[]) v h31 [])∧(pK (DC t30 1) fun t33=>
 wK (eJ v4 t33 t29 h31) fun t34 h35 y36=>
 NW C gl q1 ⟨[(1,v1),(3,v3),(4,v4),(15,v15),(16,v16),(17,v17)],h35,(y36++(y32++(y21++(y18++(y15++(y9++(y6++x)))))))⟩ K))
 (NW C gl q1 ⟨[(1,v1),(3,v3),(4,v4),(6,t4),(15,v15),(16,v16),(17,v17),(28,t22)],h20,(y21++(y18++(y15++(y9++(y6++x)))))⟩ K))
 (K (.exit 0) ⟨[(1,v1),(3,v3),(4,v4),(15,v15),(16,v16),(17,v17),(18,t1)],h,x⟩)
theorem z4O {C gl q1 e h x K}:NW C gl (xV q1) ⟨e,h,x⟩ K=bR C gl q1 (bA e 1) (bA e 3) (bA e 4) (bA e 15) (bA e 16) (bA e 17) h x K:=by kernel_rfl
theorem zcm {C gl e h x K}:NW C gl nJ ⟨e,h,x⟩ K=bR C gl oT (bA e 1) (bA e 3) (bA e 4) (bA e 15) (bA e 16) (bA e 17) h x K:=z4O
theorem zfW {C gl e h x K}:NW C gl (.loop (.scope nJ)) ⟨e,h,x⟩ K=LA C gl (.scope nJ) K [(1,bA e 1),(3,bA e 3),(4,bA e 4),(15,bA e 15),(16,bA e 16),(17,bA e 17)] h x:=MB
def pT:ACode:=.pr [3,4,42,43] (rg [bN 58 .add 43 (cI 1),
mV 43 58] [3,4,42,43])
def IY (C:Hd)(gl:GL)(v3 v4 v42 v43:AV)(h:aA)(x:Esc)(K:KT):Prop:=
 pK (eA .add v43 (AI 1)) fun t1=>
 K .normal ⟨[(3,v3),(4,v4),(42,v42),(43,t1)],h,x⟩
theorem zcn {C gl e h x K}:NW C gl pT ⟨e,h,x⟩ K=IY C gl (bA e 3) (bA e 4) (bA e 42) (bA e 43) h x K:=by kernel_rfl
def yV (q3:ACode):ACode:=.pr [3,4,42,43] (.seq (rg [bN 44 .lss 43 42] [3,4,42,43,44])
(.seq (.cond 44 .skip
(.exit 2))
(.seq (.block 3 (.seq (rg [mV 45 43,
mV 7 45] [3,4,7,42,43])
(.seq (dr [dF (mV 46 4) [4],
dF (mV 47 7) [7],
dF (uO 48 (.build [.p (.int .i64 0),.p (.int .i64 0)] [(0,1,47),(1,1,(cI 1))])) [47],
dF (uO 49 (.look ((some 2),[0,0]) false (AI 0) 46 48)) [46,48],
dF (mV 50 4) [4],
dF (mV 51 7) [7],
dF (uO 52 (.build [.p (.int .i64 0),.p (.int .i64 0)] [(0,1,51),(1,1,(cI 0))])) [51],
dF (uO 53 (.look ((some 2),[0,0]) false (AI 0) 50 52)) [50,52],
dF (bN 54 .gtr 49 53) [49,53]] [3,4,7,42,43,54])
(.cond 54 (rg [mV 55 3,
mV 56 7,
iA 57 none 55 56,
wO (.store none 57 (.c (.p (.int .u8 49))))] [3,4,42,43])
.skip))))
q3)))
def kL:ACode:=yV pT
def cR (C:Hd)(gl:GL)(q3:ACode)(v3 v4 v42 v43:AV)(h:aA)(x:Esc)(K:KT):Prop:=
 pK (eA .lss v43 v42) fun t1=>
 oA t1 (pK (vB [.p (.int .i64 0),.p (.int .i64 0)] [(0,1,v43),(1,1,(AI 1))]) fun t2=>
 pK (kB ((some 2),[0,0]) false (AI 0) v4 t2 h) fun t3=>
 pK (vB [.p (.int .i64 0),.p (.int .i64 0)] [(0,1,v43),(1,1,(AI 0))]) fun t4=>
 pK (kB ((some 2),[0,0]) false (AI 0) v4 t4 h) fun t5=>
 pK (eA .gtr t3 t5) fun t6=>
 oA t6 (pK (uA none v3 v43 h) fun t7=>
 wK (NA none t7 (.p (.int .u8 49)) h) fun t8 h9 y10=>
 NW C gl q3 ⟨[(3,v3),(4,v4),(42,v42),(43,v43)],h9,(y10++x)⟩ K)
 (NW C gl q3 ⟨[(3,v3),(4,v4),(7,v43),(42,v42),(43,v43),(54,t6)],h,x⟩ K))
 (K (.exit 2) ⟨[(3,v3),(4,v4),(42,v42),(43,v43),(44,t1)],h,x⟩)
theorem z4P {C gl q3 e h x K}:NW C gl (yV q3) ⟨e,h,x⟩ K=cR C gl q3 (bA e 3) (bA e 4) (bA e 42) (bA e 43) h x K:=by kernel_rfl
theorem zco {C gl e h x K}:NW C gl kL ⟨e,h,x⟩ K=cR C gl pT (bA e 3) (bA e 4) (bA e 42) (bA e 43) h x K:=z4P
theorem zfX {C gl e h x K}:NW C gl (.loop kL) ⟨e,h,x⟩ K=LA C gl kL K [(3,bA e 3),(4,bA e 4),(42,bA e 42),(43,bA e 43)] h x:=gC
def qT:ACode:=.pr [3] (.seq (rg [mV 59 3,
mV 2 59] [2])
.ret)
def JY (C:Hd)(gl:GL)(v3:AV)(h:aA)(x:Esc)(K:KT):Prop:=
 K .ret ⟨[(2,v3)],h,x⟩
theorem zcp {C gl e h x K}:NW C gl qT ⟨e,h,x⟩ K=JY C gl (bA e 3) h x K:=by kernel_rfl
def zV (q4 q5:ACode):ACode:=.pr [1,3,4] (.seq (.seq (rg [fA 40 1 none 1,
lD 41 none 40,
lN 42 41,
mV 43 (cI 0)] [3,4,42,43])
(.block 2 (.loop q4)))
q5)
def qO:ACode:=zV kL qT
def dR (C:Hd)(gl:GL)(q4 q5:ACode)(v1 v3 v4:AV)(h:aA)(x:Esc)(K:KT):Prop:=
 pK (nA 1 none v1) fun t1=>
 pK (lA none t1 h) fun t2=>
 pK (AA t2) fun t3=>
 NW C gl (.loop q4) ⟨[(3,v3),(4,v4),(42,t3),(43,(AI 0))],h,x⟩ (yA 2 (RA C gl q5 K))
theorem z4Q {C gl q4 q5 e h x K}:NW C gl (zV q4 q5) ⟨e,h,x⟩ K=dR C gl q4 q5 (bA e 1) (bA e 3) (bA e 4) h x K:=by kernel_rfl
theorem zcq {C gl e h x K}:NW C gl qO ⟨e,h,x⟩ K=dR C gl kL qT (bA e 1) (bA e 3) (bA e 4) h x K:=z4Q
def wV (q2 q6:ACode):ACode:=(.seq (rg [uO 1 (.box 0),
mV 2 (.c (.p (.sl none [])))] [1])
(.seq (rg [fA 8 1 none 1,
lD 9 none 8,
lN 10 9,
cL 11 TI [(cS [48]),10],
uO 12 (.conv .s2b 11),
mV 3 12] [1,3])
(.seq (rg [uO 13 (.mkmap),
mV 4 13] [1,3,4])
(.seq (.seq (rg [fA 14 1 none 1,
lD 15 none 14,
lN 16 15,
mV 17 (cI 0)] [1,3,4,15,16,17])
(.block 0 (.loop (.scope q2))))
q6))))
def IP:AFun:=⟨1,[.t 2],wV nJ qO,false,false⟩
def WM (C:Hd)(gl:GL)(q2 q6:ACode)(v0:AV)(h:aA)(x:Esc)(K:KT):Prop:=
 wK (uB v0 h) fun t1 h2 y3=>
 pK (nA 1 none t1) fun t4=>
 pK (lA none t4 h2) fun t5=>
 pK (AA t5) fun t6=>
 C TI [(.p (.str [48])),t6] h2 fun t7 h8 y9=>
 wK (jF .s2b t7 h8) fun t10 h11 y12=>
 mmK h11 fun t13 h14 y15=>
 pK (nA 1 none t1) fun t16=>
 pK (lA none t16 h14) fun t17=>
 pK (AA t17) fun t18=>
 NW C gl (.loop (.scope q2)) ⟨[(1,t1),(3,t10),(4,t13),(15,t17),(16,t18),(17,(AI 0))],h14,(y15++(y12++(y9++(y3++x))))⟩ (yA 0 (RA C gl q6 K))
theorem z4N {C gl q2 q6 v0 h x K}:NW C gl (wV q2 q6) ⟨enter [v0],h,x⟩ K=WM C gl q2 q6 v0 h x K:=by kernel_rfl
theorem zck {C gl v0 h x K}:NW C gl IP.body ⟨enter [v0],h,x⟩ K=WM C gl nJ qO v0 h x K:=z4N
def z6T:ACode:=(.seq (rg [mV 4 cF] [0,1])
(.seq (rg [mV 5 0,
mV 6 1,
cL 7 zB [5,6],
bN 8 .eql 7 (cI 0),
mV 4 8] [4])
.ret))
def UP:AFun:=⟨2,[.t 4],z6T,false,false⟩
def uR (C:Hd)(gl:GL)(v0 v1:AV)(h:aA)(x:Esc)(K:KT):Prop:=
 C zB [v0,v1] h fun t1 h2 y3=>
 pK (eA .eql t1 (AI 0)) fun t4=>
 K .ret ⟨[(4,t4)],h2,(y3++x)⟩
theorem zcN {C gl v0 v1 h x K}:NW C gl UP.body ⟨enter [v0,v1],h,x⟩ K=uR C gl v0 v1 h x K:=by kernel_rfl
def DT:ACode:=.pr [0,3,6,14,15,25,31] (.cond 31 (rg [mV 34 3,
mV 35 6,
uO 36 (.build [.p (.int .i64 0),.p (.str []),.p (.int .i64 0),.p (.int .i64 0)] [(0,1,(cI 1)),(1,1,35),(2,1,(cI (-1)))]),
uO 37 (.bsl false (some 4) 1 (.agg [.int .i64 0,.str [],.int .i64 0,.int .i64 0]) [(0,36)]),
uO 38 (.app (some 4) 34 37),
mV 3 38] [0,3,14,15])
(.seq (rg [bN 40 .eql 25 (cI 2),
mV 39 40] [0,3,6,14,15,25,39])
(.cond 39 (rg [mV 41 3,
mV 42 6,
uO 43 (.build [.p (.int .i64 0),.p (.str []),.p (.int .i64 0),.p (.int .i64 0)] [(0,1,(cI 2)),(1,1,42),(2,1,(cI (-1)))]),
uO 44 (.bsl false (some 4) 1 (.agg [.int .i64 0,.str [],.int .i64 0,.int .i64 0]) [(0,43)]),
uO 45 (.app (some 4) 41 44),
mV 3 45] [0,3,14,15])
(.seq (rg [bN 47 .eql 25 (cI 3),
mV 46 47] [0,3,6,14,15,46])
(.cond 46 (rg [mV 48 3,
uO 49 (.build [.p (.int .i64 0),.p (.str []),.p (.int .i64 0),.p (.int .i64 0)] [(0,1,(cI 3)),(2,1,(cI (-1)))]),
uO 50 (.bsl false (some 4) 1 (.agg [.int .i64 0,.str [],.int .i64 0,.int .i64 0]) [(0,49)]),
uO 51 (.app (some 4) 48 50),
mV 3 51] [0,3,14,15])
(rg [mV 26 3,
mV 27 6,
uO 28 (.build [.p (.int .i64 0),.p (.str []),.p (.int .i64 0),.p (.int .i64 0)] [(0,1,(cI 2)),(1,1,27),(2,1,(cI (-1)))]),
uO 29 (.bsl false (some 4) 1 (.agg [.int .i64 0,.str [],.int .i64 0,.int .i64 0]) [(0,28)]),
uO 30 (.app (some 4) 26 29),
mV 3 30] [0,3,14,15]))))))
def YY (C:Hd)(gl:GL)(v0 v3 v6 v14 v15 v25 v31:AV)(h:aA)(x:Esc)(K:KT):Prop:=
 oA v31 (pK (vB [.p (.int .i64 0),.p (.str []),.p (.int .i64 0),.p (.int .i64 0)] [(0,1,(AI 1)),(1,1,v6),(2,1,(AI (-1)))]) fun t1=>
 wK (ZA false (some 4) 1 (.agg [.int .i64 0,.str [],.int .i64 0,.int .i64 0]) [(0,t1)] h) fun t2 h3 y4=>
 wK (DD (some 4) v3 t2 h3) fun t5 h6 y7=>
 K .normal ⟨[(0,v0),(3,t5),(14,v14),(15,v15)],h6,(y7++(y4++x))⟩)
 (pK (eA .eql v25 (AI 2)) fun t8=>
 oA t8 (pK (vB [.p (.int .i64 0),.p (.str []),.p (.int .i64 0),.p (.int .i64 0)] [(0,1,(AI 2)),(1,1,v6),(2,1,(AI (-1)))]) fun t9=>
 wK (ZA false (some 4) 1 (.agg [.int .i64 0,.str [],.int .i64 0,.int .i64 0]) [(0,t9)] h) fun t10 h11 y12=>
 wK (DD (some 4) v3 t10 h11) fun t13 h14 y15=>
 K .normal ⟨[(0,v0),(3,t13),(14,v14),(15,v15)],h14,(y15++(y12++x))⟩)
 (pK (eA .eql v25 (AI 3)) fun t16=>
 oA t16 (pK (vB [.p (.int .i64 0),.p (.str []),.p (.int .i64 0),.p (.int .i64 0)] [(0,1,(AI 3)),(2,1,(AI (-1)))]) fun t17=>
 wK (ZA false (some 4) 1 (.agg [.int .i64 0,.str [],.int .i64 0,.int .i64 0]) [(0,t17)] h) fun t18 h19 y20=>
 wK (DD (some 4) v3 t18 h19) fun t21 h22 y23=>
 K .normal ⟨[(0,v0),(3,t21),(14,v14),(15,v15)],h22,(y23++(y20++x))⟩)
 (pK (vB [.p (.int .i64 0),.p (.str []),.p (.int .i64 0),.p (.int .i64 0)] [(0,1,(AI 2)),(1,1,v6),(2,1,(AI (-1)))]) fun t24=>
 wK (ZA false (some 4) 1 (.agg [.int .i64 0,.str [],.int .i64 0,.int .i64 0]) [(0,t24)] h) fun t25 h26 y27=>
 wK (DD (some 4) v3 t25 h26) fun t28 h29 y30=>
 K .normal ⟨[(0,v0),(3,t28),(14,v14),(15,v15)],h29,(y30++(y27++x))⟩)))
theorem zcW {C gl e h x K}:NW C gl DT ⟨e,h,x⟩ K=YY C gl (bA e 0) (bA e 3) (bA e 6) (bA e 14) (bA e 15) (bA e 25) (bA e 31) h x K:=by kernel_rfl
def FT:ACode:=.pr [0,3,14,15] (rg [bN 52 .add 15 (cI 1),
mV 15 52] [0,3,14,15])
def ZY (C:Hd)(gl:GL)(v0 v3 v14 v15:AV)(h:aA)(x:Esc)(K:KT):Prop:=
 pK (eA .add v15 (AI 1)) fun t1=>
 K .normal ⟨[(0,v0),(3,v3),(14,v14),(15,t1)],h,x⟩
theorem zcX {C gl e h x K}:NW C gl FT ⟨e,h,x⟩ K=ZY C gl (bA e 0) (bA e 3) (bA e 14) (bA e 15) h x K:=by kernel_rfl
def aW (q1 q2:ACode):ACode:=.pr [0,3,14,15] (.seq (rg [bN 16 .lss 15 14] [0,3,14,15,16])
(.seq (.cond 16 .skip
(.exit 0))
(.seq (.block 1 (.seq (rg [mV 17 15,
mV 5 17] [0,3,5,14,15])
(.seq (rg [mV 18 5,
bN 19 .rem 18 (cI 4),
bN 20 .add (cI 97) 19,
uO 21 (.conv (.i .i32) 20),
uO 22 (.conv .r2s 21),
bN 23 .add (cS [112]) 22,
mV 6 23] [0,3,6,14,15])
(.seq (rg [mV 24 0,
cL 25 zB [24,(cI 5)]] [0,3,6,14,15,25])
(.block 2 (.seq (.seq (rg [bN 32 .eql 25 (cI 0),
mV 31 32] [0,3,6,14,15,25,31])
(.cond 31 .skip
(rg [bN 33 .eql 25 (cI 1),
mV 31 33] [0,3,6,14,15,25,31])))
q1))))))
q2)))
def DH:ACode:=aW DT FT
def yR (C:Hd)(gl:GL)(q1 q2:ACode)(v0 v3 v14 v15:AV)(h:aA)(x:Esc)(K:KT):Prop:=
 pK (eA .lss v15 v14) fun t1=>
 oA t1 (pK (eA .rem v15 (AI 4)) fun t2=>
 pK (eA .add (AI 97) t2) fun t3=>
 pK (ED .i32 t3) fun t4=>
 wK (jF .r2s t4 h) fun t5 h6 y7=>
 pK (eA .add (.p (.str [112])) t5) fun t8=>
 C zB [v0,(AI 5)] h6 fun t9 h10 y11=>
 pK (eA .eql t9 (AI 0)) fun t12=>
 oA t12 (NW C gl q1 ⟨[(0,v0),(3,v3),(6,t8),(14,v14),(15,v15),(25,t9),(31,t12)],h10,(y11++(y7++x))⟩ (yA 2 (yA 1 (RA C gl q2 K))))
 (pK (eA .eql t9 (AI 1)) fun t13=>
 NW C gl q1 ⟨[(0,v0),(3,v3),(6,t8),(14,v14),(15,v15),(25,t9),(31,t13)],h10,(y11++(y7++x))⟩ (yA 2 (yA 1 (RA C gl q2 K)))))
 (K (.exit 0) ⟨[(0,v0),(3,v3),(14,v14),(15,v15),(16,t1)],h,x⟩)
theorem z5p {C gl q1 q2 e h x K}:NW C gl (aW q1 q2) ⟨e,h,x⟩ K=yR C gl q1 q2 (bA e 0) (bA e 3) (bA e 14) (bA e 15) h x K:=by kernel_rfl
theorem zcY {C gl e h x K}:NW C gl DH ⟨e,h,x⟩ K=yR C gl DT FT (bA e 0) (bA e 3) (bA e 14) (bA e 15) h x K:=z5p
theorem zgi {C gl e h x K}:NW C gl (.loop (.scope DH)) ⟨e,h,x⟩ K=LA C gl (.scope DH) K [(0,bA e 0),(3,bA e 3),(14,bA e 14),(15,bA e 15)] h x:=MB
def GT:ACode:=.pr [0,3,54,55] (rg [bN 89 .add 55 (cI 1),
mV 55 89] [0,3,54,55])
def aZ (C:Hd)(gl:GL)(v0 v3 v54 v55:AV)(h:aA)(x:Esc)(K:KT):Prop:=
 pK (eA .add v55 (AI 1)) fun t1=>
 K .normal ⟨[(0,v0),(3,v3),(54,v54),(55,t1)],h,x⟩
theorem zcZ {C gl e h x K}:NW C gl GT ⟨e,h,x⟩ K=aZ C gl (bA e 0) (bA e 3) (bA e 54) (bA e 55) h x K:=by kernel_rfl
def bW (q4:ACode):ACode:=.pr [0,3,54,55] (.seq (rg [bN 56 .lss 55 54] [0,3,54,55,56])
(.seq (.cond 56 .skip
(.exit 3))
(.seq (.block 4 (.seq (rg [mV 57 55,
mV 7 57] [0,3,7,54,55])
(.seq (rg [mV 58 3,
mV 59 7,
iA 60 (some 4) 58 59,
fA 61 0 none 60,
lD 62 none 61,
bN 63 .eql 62 (cI 2),
mV 64 63,
gD 65 64 true (.mv 0),
gD 66 64 true (.call rC [65,(cI 2)]),
uO 67 (.pick 64 66 cF)] [0,3,7,54,55,67])
(.cond 67 (.seq (rg [mV 68 0,
mV 69 3,
lN 70 69,
cL 71 zB [68,70],
mV 8 71] [0,3,7,8,54,55])
(.seq (rg [mV 72 3,
mV 73 8,
iA 74 (some 4) 72 73,
fA 75 0 none 74,
lD 76 none 75,
bN 77 .eql 76 (cI 3)] [0,3,7,8,54,55,77])
(.cond 77 (rg [mV 78 3,
mV 79 7,
mV 80 3,
mV 81 7,
mV 82 8,
mV 83 0,
cL 84 zB [83,(cI 2)],
iA 85 (some 4) 78 79,
fA 86 2 none 85,
wO (.store none 86 82),
iA 87 (some 4) 80 81,
fA 88 3 none 87,
wO (.store none 88 84)] [0,3,54,55])
.skip)))
.skip))))
q4)))
def wJ:ACode:=bW GT
def zR (C:Hd)(gl:GL)(q4:ACode)(v0 v3 v54 v55:AV)(h:aA)(x:Esc)(K:KT):Prop:=
 pK (eA .lss v55 v54) fun t1=>
 oA t1 (pK (uA (some 4) v3 v55 h) fun t2=>
 pK (nA 0 none t2) fun t3=>
 pK (lA none t3 h) fun t4=>
 pK (eA .eql t4 (AI 2)) fun t5=>
 gM t5 true v0 h fun t6 h7 y8=>
 gV t5 true h7 (C rC [t6,(AI 2)] h7) fun t9 h10 y11=>
 pK (MA t5 t9 (AB false)) fun t12=>
 oA t12 (pK (AA v3) fun t13=>
 C zB [v0,t13] h10 fun t14 h15 y16=>
 pK (uA (some 4) v3 t14 h15) fun t17=>
 pK (nA 0 none t17) fun t18=>
 pK (lA none t18 h15) fun t19=>
 pK (eA .eql t19 (AI 3)) fun t20=>
 oA t20 (C zB [v0,(AI 2)] h15 fun t21 h22 y23=>
 pK (uA (some 4) v3 v55 h22) fun t24=>
 pK (nA 2 none t24) fun t25=>
 wK (NA none t25 t14 h22) fun t26 h27 y28=>
 pK (uA (some 4) v3 v55 h27) fun t29=>
 pK (nA 3 none t29) fun t30=>
 wK (NA none t30 t21 h27) fun t31 h32 y33=>
 NW C gl q4 ⟨[(0,v0),(3,v3),(54,v54),(55,v55)],h32,(y33++(y28++(y23++(y16++(y11++(y8++x))))))⟩ K)
 (NW C gl q4 ⟨[(0,v0),(3,v3),(7,v55),(8,t14),(54,v54),(55,v55),(77,t20)],h15,(y16++(y11++(y8++x)))⟩ K))
 (NW C gl q4 ⟨[(0,v0),(3,v3),(7,v55),(54,v54),(55,v55),(67,t12)],h10,(y11++(y8++x))⟩ K))
 (K (.exit 3) ⟨[(0,v0),(3,v3),(54,v54),(55,v55),(56,t1)],h,x⟩)
theorem z5q {C gl q4 e h x K}:NW C gl (bW q4) ⟨e,h,x⟩ K=zR C gl q4 (bA e 0) (bA e 3) (bA e 54) (bA e 55) h x K:=by kernel_rfl
theorem zda {C gl e h x K}:NW C gl wJ ⟨e,h,x⟩ K=zR C gl GT (bA e 0) (bA e 3) (bA e 54) (bA e 55) h x K:=z5q
theorem zgj {C gl e h x K}:NW C gl (.loop wJ) ⟨e,h,x⟩ K=LA C gl wJ K [(0,bA e 0),(3,bA e 3),(54,bA e 54),(55,bA e 55)] h x:=gC
def HT:ACode:=.pr [3,9,11,96,97,98] (rg [mV 114 9,
lD 115 (some 4) 11,
uO 116 (.bsl false (some 4) 1 (.agg [.int .i64 0,.str [],.int .i64 0,.int .i64 0]) [(0,115)]),
uO 117 (.app (some 4) 114 116),
mV 9 117] [3,9,96,97,98])
def bZ (C:Hd)(gl:GL)(v3 v9 v11 v96 v97 v98:AV)(h:aA)(x:Esc)(K:KT):Prop:=
 pK (lA (some 4) v11 h) fun t1=>
 wK (ZA false (some 4) 1 (.agg [.int .i64 0,.str [],.int .i64 0,.int .i64 0]) [(0,t1)] h) fun t2 h3 y4=>
 wK (DD (some 4) v9 t2 h3) fun t5 h6 y7=>
 K .normal ⟨[(3,v3),(9,t5),(96,v96),(97,v97),(98,v98)],h6,(y7++(y4++x))⟩
theorem zdb {C gl e h x K}:NW C gl HT ⟨e,h,x⟩ K=bZ C gl (bA e 3) (bA e 9) (bA e 11) (bA e 96) (bA e 97) (bA e 98) h x K:=by kernel_rfl
def IT:ACode:=.pr [3,9,96,97,98] (rg [bN 118 .add 98 (cI 1),
mV 98 118] [3,9,96,97,98])
def cZ (C:Hd)(gl:GL)(v3 v9 v96 v97 v98:AV)(h:aA)(x:Esc)(K:KT):Prop:=
 pK (eA .add v98 (AI 1)) fun t1=>
 K .normal ⟨[(3,v3),(9,v9),(96,v96),(97,v97),(98,t1)],h,x⟩
theorem zdc {C gl e h x K}:NW C gl IT ⟨e,h,x⟩ K=cZ C gl (bA e 3) (bA e 9) (bA e 96) (bA e 97) (bA e 98) h x K:=by kernel_rfl
def cW (q6 q7:ACode):ACode:=.pr [3,9,96,97,98] (.seq (rg [bN 99 .lss 98 97] [3,9,96,97,98,99])
(.seq (.cond 99 .skip
(.exit 5))
(.seq (.block 6 (.seq (rg [mV 100 98,
iA 101 (some 4) 96 98,
lD 102 (some 4) 101,
uO 11 (.alloc [.p (.int .i64 0),.p (.str []),.p (.int .i64 0),.p (.int .i64 0)]),
mV 10 100,
wO (.store (some 4) 11 102)] [3,9,10,11,96,97,98])
(.seq (.seq (rg [fA 103 1 none 11,
lD 104 none 103,
bN 105 .neq 104 (cS []),
mV 106 105,
gD 107 106 true (.mv 3),
gD 108 106 true (.mv 10),
gD 109 106 true (.slice (some 4) 107 none (some 108) none),
gD 110 106 true (.mkfn gH [11]),
gD 111 106 true (.call VC [109,110]),
uO 112 (.pick 106 111 cF)] [3,9,11,96,97,98,112])
(.cond 112 (rg [uO 113 (.build [.p (.int .i64 0),.p (.str []),.p (.int .i64 0),.p (.int .i64 0)] [(0,1,(cI 4)),(2,1,(cI (-1)))]),
wO (.store (some 4) 11 113)] [3,9,11,96,97,98])
.skip))
q6)))
q7)))
def xJ:ACode:=cW HT IT
def AR (C:Hd)(gl:GL)(q6 q7:ACode)(v3 v9 v96 v97 v98:AV)(h:aA)(x:Esc)(K:KT):Prop:=
 pK (eA .lss v98 v97) fun t1=>
 oA t1 (pK (uA (some 4) v96 v98 h) fun t2=>
 pK (lA (some 4) t2 h) fun t3=>
 alK [.p (.int .i64 0),.p (.str []),.p (.int .i64 0),.p (.int .i64 0)] h fun t4 h5 y6=>
 wK (NA (some 4) t4 t3 h5) fun t7 h8 y9=>
 pK (nA 1 none t4) fun t10=>
 pK (lA none t10 h8) fun t11=>
 pK (eA .neq t11 (.p (.str []))) fun t12=>
 gM t12 true v3 h8 fun t13 h14 y15=>
 gM t12 true v98 h14 fun t16 h17 y18=>
 gP t12 true (jE (some 4) t13 none (some t16) none h17) h17 fun t19 h20 y21=>
 gM t12 true (.fn gH [t4]) h20 fun t22 h23 y24=>
 gV t12 true h23 (C VC [t19,t22] h23) fun t25 h26 y27=>
 pK (MA t12 t25 (AB false)) fun t28=>
 oA t28 (pK (vB [.p (.int .i64 0),.p (.str []),.p (.int .i64 0),.p (.int .i64 0)] [(0,1,(AI 4)),(2,1,(AI (-1)))]) fun t29=>
 wK (NA (some 4) t4 t29 h26) fun t30 h31 y32=>
 NW C gl q6 ⟨[(3,v3),(9,v9),(11,t4),(96,v96),(97,v97),(98,v98)],h31,(y32++(y27++(y24++(y21++(y18++(y15++(y9++(y6++x))))))))⟩ (yA 6 (RA C gl q7 K)))
 (NW C gl q6 ⟨[(3,v3),(9,v9),(11,t4),(96,v96),(97,v97),(98,v98),(112,t28)],h26,(y27++(y24++(y21++(y18++(y15++(y9++(y6++x)))))))⟩ (yA 6 (RA C gl q7 K))))
 (K (.exit 5) ⟨[(3,v3),(9,v9),(96,v96),(97,v97),(98,v98),(99,t1)],h,x⟩)
theorem z5r {C gl q6 q7 e h x K}:NW C gl (cW q6 q7) ⟨e,h,x⟩ K=AR C gl q6 q7 (bA e 3) (bA e 9) (bA e 96) (bA e 97) (bA e 98) h x K:=by kernel_rfl
theorem zdd {C gl e h x K}:NW C gl xJ ⟨e,h,x⟩ K=AR C gl HT IT (bA e 3) (bA e 9) (bA e 96) (bA e 97) (bA e 98) h x K:=z5r
theorem zgk {C gl e h x K}:NW C gl (.loop (.scope xJ)) ⟨e,h,x⟩ K=LA C gl (.scope xJ) K [(3,bA e 3),(9,bA e 9),(96,bA e 96),(97,bA e 97),(98,bA e 98)] h x:=MB
def JT:ACode:=.pr [9] (.seq (rg [mV 119 9,
mV 2 119] [2])
.ret)
def dZ (C:Hd)(gl:GL)(v9:AV)(h:aA)(x:Esc)(K:KT):Prop:=
 K .ret ⟨[(2,v9)],h,x⟩
theorem zde {C gl e h x K}:NW C gl JT ⟨e,h,x⟩ K=dZ C gl (bA e 9) h x K:=by kernel_rfl
def XV (q8 q9:ACode):ACode:=.pr [3] (.seq (rg [uO 9 (.new0 (some 4))] [3,9])
(.seq (.seq (rg [mV 96 3,
lN 97 96,
mV 98 (cI 0)] [3,9,96,97,98])
(.block 5 (.loop (.scope q8))))
q9))
def DO:ACode:=XV xJ JT
def xK (C:Hd)(gl:GL)(q8 q9:ACode)(v3:AV)(h:aA)(x:Esc)(K:KT):Prop:=
 nwK (some 4) h fun t1 h2 y3=>
 pK (AA v3) fun t4=>
 NW C gl (.loop (.scope q8)) ⟨[(3,v3),(9,t1),(96,v3),(97,t4),(98,(AI 0))],h2,(y3++x)⟩ (yA 5 (RA C gl q9 K))
theorem z5m {C gl q8 q9 e h x K}:NW C gl (XV q8 q9) ⟨e,h,x⟩ K=xK C gl q8 q9 (bA e 3) h x K:=by kernel_rfl
theorem iS {C gl e h x K}:NW C gl DO ⟨e,h,x⟩ K=xK C gl xJ JT (bA e 3) h x K:=z5m
def YV (q10:ACode):ACode:=.pr [0,3] (.seq (.seq (rg [mV 90 0,
cL 91 rC [90,(cI 6)]] [3,91])
(.cond 91 (rg [mV 92 3,
uO 93 (.build [.p (.int .i64 0),.p (.str []),.p (.int .i64 0),.p (.int .i64 0)] [(0,1,(cI 4)),(2,1,(cI (-1)))]),
uO 94 (.bsl false (some 4) 1 (.agg [.int .i64 0,.str [],.int .i64 0,.int .i64 0]) [(0,93)]),
uO 95 (.app (some 4) 92 94),
mV 3 95] [3])
.skip))
q10)
def ET:ACode:=YV DO
def oI (C:Hd)(gl:GL)(q10:ACode)(v0 v3:AV)(h:aA)(x:Esc)(K:KT):Prop:=
 C rC [v0,(AI 6)] h fun t1 h2 y3=>
 oA t1 (pK (vB [.p (.int .i64 0),.p (.str []),.p (.int .i64 0),.p (.int .i64 0)] [(0,1,(AI 4)),(2,1,(AI (-1)))]) fun t4=>
 wK (ZA false (some 4) 1 (.agg [.int .i64 0,.str [],.int .i64 0,.int .i64 0]) [(0,t4)] h2) fun t5 h6 y7=>
 wK (DD (some 4) v3 t5 h6) fun t8 h9 y10=>
 NW C gl q10 ⟨[(3,t8)],h9,(y10++(y7++(y3++x)))⟩ K)
 (NW C gl q10 ⟨[(3,v3),(91,t1)],h2,(y3++x)⟩ K)
theorem z5n {C gl q10 e h x K}:NW C gl (YV q10) ⟨e,h,x⟩ K=oI C gl q10 (bA e 0) (bA e 3) h x K:=by kernel_rfl
theorem jS {C gl e h x K}:NW C gl ET ⟨e,h,x⟩ K=oI C gl DO (bA e 0) (bA e 3) h x K:=z5n
def ZV (q5 q11:ACode):ACode:=.pr [0,3] (.seq (.seq (rg [mV 53 3,
lN 54 53,
mV 55 (cI 0)] [0,3,54,55])
(.block 3 (.loop q5)))
q11)
def EO:ACode:=ZV wJ ET
def yK (C:Hd)(gl:GL)(q5 q11:ACode)(v0 v3:AV)(h:aA)(x:Esc)(K:KT):Prop:=
 pK (AA v3) fun t1=>
 NW C gl (.loop q5) ⟨[(0,v0),(3,v3),(54,t1),(55,(AI 0))],h,x⟩ (yA 3 (RA C gl q11 K))
theorem z5o {C gl q5 q11 e h x K}:NW C gl (ZV q5 q11) ⟨e,h,x⟩ K=yK C gl q5 q11 (bA e 0) (bA e 3) h x K:=by kernel_rfl
theorem kS {C gl e h x K}:NW C gl EO ⟨e,h,x⟩ K=yK C gl wJ ET (bA e 0) (bA e 3) h x K:=z5o
def WV (q3 q12:ACode):ACode:=(.seq (rg [mV 2 (.c (.p (.sl (some 4) [])))] [0])
(.seq (rg [uO 3 (.new0 (some 4))] [0,3])
(.seq (rg [mV 12 0,
cL 13 VE [12,(cI 0),(cI 6)],
mV 4 13] [0,3,4])
(.seq (.seq (rg [mV 14 4,
mV 15 (cI 0)] [0,3,14,15])
(.block 0 (.loop (.scope q3))))
q12))))
def bQ:AFun:=⟨1,[.t 2],WV DH EO,false,true⟩
def mN (C:Hd)(gl:GL)(q3 q12:ACode)(v0:AV)(h:aA)(x:Esc)(K:KT):Prop:=
 nwK (some 4) h fun t1 h2 y3=>
 C VE [v0,(AI 0),(AI 6)] h2 fun t4 h5 y6=>
 NW C gl (.loop (.scope q3)) ⟨[(0,v0),(3,t1),(14,t4),(15,(AI 0))],h5,(y6++(y3++x))⟩ (yA 0 (RA C gl q12 K))
theorem z5l {C gl q3 q12 v0 h x K}:NW C gl (WV q3 q12) ⟨enter [v0],h,x⟩ K=mN C gl q3 q12 v0 h x K:=by kernel_rfl
theorem zcV {C gl v0 h x K}:NW C gl bQ.body ⟨enter [v0],h,x⟩ K=mN C gl DH EO v0 h x K:=z5l
def z7n:ACode:=(.seq (rg [uO 3 (.box 1),
mV 4 cF] [0,3])
(.seq (rg [mV 5 0,
lD 6 (some 2) 3,
cL 7 PI [5,6],
bN 8 .geq 7 (cI 0),
mV 4 8] [4])
.ret))
def wQ:AFun:=⟨2,[.t 4],z7n,true,false⟩
def IR (C:Hd)(gl:GL)(v0 v1:AV)(h:aA)(x:Esc)(K:KT):Prop:=
 wK (uB v1 h) fun t1 h2 y3=>
 pK (lA (some 2) t1 h2) fun t4=>
 C PI [v0,t4] h2 fun t5 h6 y7=>
 pK (eA .geq t5 (AI 0)) fun t8=>
 K .ret ⟨[(4,t8)],h6,(y7++(y3++x))⟩
theorem zdL {C gl v0 v1 h x K}:NW C gl wQ.body ⟨enter [v0,v1],h,x⟩ K=IR C gl v0 v1 h x K:=by kernel_rfl
def z6Y:ACode:=(.seq (rg [mV 4 (cS [])] [0,1])
(.seq (rg [mV 5 1,
mV 6 0,
mV 7 1,
lN 8 7,
cL 9 zB [6,8],
iA 10 none 5 9,
lD 11 none 10,
mV 4 11] [4])
.ret))
def aQ:AFun:=⟨2,[.t 4],z6Y,false,false⟩
def xR (C:Hd)(gl:GL)(v0 v1:AV)(h:aA)(x:Esc)(K:KT):Prop:=
 pK (AA v1) fun t1=>
 C zB [v0,t1] h fun t2 h3 y4=>
 pK (uA none v1 t2 h3) fun t5=>
 pK (lA none t5 h3) fun t6=>
 K .ret ⟨[(4,t6)],h3,(y4++x)⟩
theorem zcU {C gl v0 v1 h x K}:NW C gl aQ.body ⟨enter [v0,v1],h,x⟩ K=xR C gl v0 v1 h x K:=by kernel_rfl
def z7s:ACode:=(.seq (rg [mV 5 0,
lN 6 5,
mV 4 6] [0,1,4])
(rg [mV 7 0,
mV 8 4,
mV 9 4,
uO 10 (.conv (.i .u64) 9),
cL 11 mG [10],
mV 12 1,
cL 13 ZE [7,(cI 0),8,11,12]] []))
def AQ:AFun:=⟨2,[],z7s,true,false⟩
def KR (C:Hd)(gl:GL)(v0 v1:AV)(h:aA)(x:Esc)(K:KT):Prop:=
 pK (AA v0) fun t1=>
 pK (ED .u64 t1) fun t2=>
 C mG [t2] h fun t3 h4 y5=>
 C ZE [v0,(AI 0),t1,t3,v1] h4 fun t6 h7 y8=>
 K .normal ⟨[],h7,(y8++(y5++x))⟩
theorem zec {C gl v0 v1 h x K}:NW C gl AQ.body ⟨enter [v0,v1],h,x⟩ K=KR C gl v0 v1 h x K:=by kernel_rfl
def z6S:ACode:=(.seq (rg [uO 2 (.box 0),
uO 3 (.box 1),
mV 4 (cI 0)] [2,3])
(.seq (rg [fA 5 0 none 2,
lD 6 none 5,
fA 7 1 none 2,
lD 8 none 7,
fA 9 2 none 2,
lD 10 none 9,
uO 11 (.bsl false none 3 (.str []) [(0,6),(1,8),(2,10)]),
fA 12 0 none 3,
lD 13 none 12,
fA 14 1 none 3,
lD 15 none 14,
fA 16 2 none 3,
lD 17 none 16,
uO 18 (.bsl false none 3 (.str []) [(0,13),(1,15),(2,17)]),
cL 19 qG [11,18],
mV 4 19] [4])
.ret))
def TP:AFun:=⟨2,[.t 4],z6S,false,false⟩
def sR (C:Hd)(gl:GL)(v0 v1:AV)(h:aA)(x:Esc)(K:KT):Prop:=
 wK (uB v0 h) fun t1 h2 y3=>
 wK (uB v1 h2) fun t4 h5 y6=>
 pK (nA 0 none t1) fun t7=>
 pK (lA none t7 h5) fun t8=>
 pK (nA 1 none t1) fun t9=>
 pK (lA none t9 h5) fun t10=>
 pK (nA 2 none t1) fun t11=>
 pK (lA none t11 h5) fun t12=>
 wK (ZA false none 3 (.str []) [(0,t8),(1,t10),(2,t12)] h5) fun t13 h14 y15=>
 pK (nA 0 none t4) fun t16=>
 pK (lA none t16 h14) fun t17=>
 pK (nA 1 none t4) fun t18=>
 pK (lA none t18 h14) fun t19=>
 pK (nA 2 none t4) fun t20=>
 pK (lA none t20 h14) fun t21=>
 wK (ZA false none 3 (.str []) [(0,t17),(1,t19),(2,t21)] h14) fun t22 h23 y24=>
 C qG [t13,t22] h23 fun t25 h26 y27=>
 K .ret ⟨[(4,t25)],h26,(y27++(y24++(y15++(y6++(y3++x)))))⟩
theorem zcM {C gl v0 v1 h x K}:NW C gl TP.body ⟨enter [v0,v1],h,x⟩ K=sR C gl v0 v1 h x K:=by kernel_rfl
def EJ:ACode:=.pr [0,1,9,10,11] (.seq (rg [bN 12 .lss 11 10] [0,1,9,10,11,12])
(.seq (.cond 12 .skip
(.exit 0))
(.seq (.block 1 (.seq (rg [mV 13 11,
iA 14 none 9 11,
lD 15 none 14,
mV 5 13,
mV 6 15] [0,1,5,6,9,10,11])
(.seq (.seq (rg [mV 16 5,
mV 17 1,
lN 18 17,
bN 19 .geq 16 18] [0,1,5,6,9,10,11,19])
(.cond 19 (.seq (rg [mV 4 (cI 1)] [4])
.ret)
.skip))
(.seq (rg [mV 20 1,
mV 21 5,
iA 22 none 20 21,
lD 23 none 22,
mV 7 23] [0,1,6,7,9,10,11])
(.seq (rg [mV 24 6,
mV 25 7,
cL 26 xI [24,25],
mV 8 26] [0,1,8,9,10,11])
(.seq (rg [mV 27 8,
bN 28 .neq 27 (cI 0)] [0,1,8,9,10,11,28])
(.cond 28 (.seq (rg [mV 29 8,
mV 4 29] [4])
.ret)
.skip)))))))
(rg [bN 30 .add 11 (cI 1),
mV 11 30] [0,1,9,10,11]))))
def wZ (C:Hd)(gl:GL)(v0 v1 v9 v10 v11:AV)(h:aA)(x:Esc)(K:KT):Prop:=
 pK (eA .lss v11 v10) fun t1=>
 oA t1 (pK (uA none v9 v11 h) fun t2=>
 pK (lA none t2 h) fun t3=>
 pK (AA v1) fun t4=>
 pK (eA .geq v11 t4) fun t5=>
 oA t5 (K .ret ⟨[(4,(AI 1))],h,x⟩)
 (pK (uA none v1 v11 h) fun t6=>
 pK (lA none t6 h) fun t7=>
 C xI [t3,t7] h fun t8 h9 y10=>
 pK (eA .neq t8 (AI 0)) fun t11=>
 oA t11 (K .ret ⟨[(4,t8)],h9,(y10++x)⟩)
 (pK (eA .add v11 (AI 1)) fun t12=>
 K .normal ⟨[(0,v0),(1,v1),(9,v9),(10,v10),(11,t12)],h9,(y10++x)⟩)))
 (K (.exit 0) ⟨[(0,v0),(1,v1),(9,v9),(10,v10),(11,v11),(12,t1)],h,x⟩)
theorem zdH {C gl e h x K}:NW C gl EJ ⟨e,h,x⟩ K=wZ C gl (bA e 0) (bA e 1) (bA e 9) (bA e 10) (bA e 11) h x K:=by kernel_rfl
theorem zgw {C gl e h x K}:NW C gl (.loop EJ) ⟨e,h,x⟩ K=LA C gl EJ K [(0,bA e 0),(1,bA e 1),(9,bA e 9),(10,bA e 10),(11,bA e 11)] h x:=gC
def MO:ACode:=.pr [0,1] (.seq (.seq (rg [mV 31 0,
lN 32 31,
mV 33 1,
lN 34 33,
bN 35 .lss 32 34] [35])
(.cond 35 (.seq (rg [mV 4 (cI (-1))] [4])
.ret)
.skip))
(.seq (rg [mV 4 (cI 0)] [4])
.ret))
def xZ (C:Hd)(gl:GL)(v0 v1:AV)(h:aA)(x:Esc)(K:KT):Prop:=
 pK (AA v0) fun t1=>
 pK (AA v1) fun t2=>
 pK (eA .lss t1 t2) fun t3=>
 oA t3 (K .ret ⟨[(4,(AI (-1)))],h,x⟩)
 (K .ret ⟨[(4,(AI 0))],h,x⟩)
theorem zdI {C gl e h x K}:NW C gl MO ⟨e,h,x⟩ K=xZ C gl (bA e 0) (bA e 1) h x K:=by kernel_rfl
def qW (q1 q2:ACode):ACode:=(.seq (rg [mV 4 (cI 0)] [0,1])
(.seq (.seq (rg [mV 9 0,
lN 10 9,
mV 11 (cI 0)] [0,1,9,10,11])
(.block 0 (.loop q1)))
q2))
def uQ:AFun:=⟨2,[.t 4],qW EJ MO,false,false⟩
def sN (C:Hd)(gl:GL)(q1 q2:ACode)(v0 v1:AV)(h:aA)(x:Esc)(K:KT):Prop:=
 pK (AA v0) fun t1=>
 NW C gl (.loop q1) ⟨[(0,v0),(1,v1),(9,v0),(10,t1),(11,(AI 0))],h,x⟩ (yA 0 (RA C gl q2 K))
theorem z56 {C gl q1 q2 v0 v1 h x K}:NW C gl (qW q1 q2) ⟨enter [v0,v1],h,x⟩ K=sN C gl q1 q2 v0 v1 h x K:=by kernel_rfl
theorem zdG {C gl v0 v1 h x K}:NW C gl uQ.body ⟨enter [v0,v1],h,x⟩ K=sN C gl EJ MO v0 v1 h x K:=z56
def zJ:ACode:=.pr [3,7,8,9] (.seq (rg [bN 10 .lss 9 8] [3,7,8,9,10])
(.seq (.cond 10 .skip
(.exit 0))
(.seq (.block 1 (.seq (rg [iA 11 (some 3) 7 9,
lD 12 (some 3) 11,
uO 5 (.alloc [.p (.str []),.p (.str []),.p (.str [])]),
wO (.store (some 3) 5 12)] [3,5,7,8,9])
(rg [mV 13 3,
fA 14 0 none 5,
lD 15 none 14,
uO 16 (.bsl false none 1 (.str []) [(0,15)]),
uO 17 (.app none 13 16),
mV 3 17] [3,7,8,9])))
(rg [bN 18 .add 9 (cI 1),
mV 9 18] [3,7,8,9]))))
def jZ (C:Hd)(gl:GL)(v3 v7 v8 v9:AV)(h:aA)(x:Esc)(K:KT):Prop:=
 pK (eA .lss v9 v8) fun t1=>
 oA t1 (pK (uA (some 3) v7 v9 h) fun t2=>
 pK (lA (some 3) t2 h) fun t3=>
 alK [.p (.str []),.p (.str []),.p (.str [])] h fun t4 h5 y6=>
 wK (NA (some 3) t4 t3 h5) fun t7 h8 y9=>
 pK (nA 0 none t4) fun t10=>
 pK (lA none t10 h8) fun t11=>
 wK (ZA false none 1 (.str []) [(0,t11)] h8) fun t12 h13 y14=>
 wK (DD none v3 t12 h13) fun t15 h16 y17=>
 pK (eA .add v9 (AI 1)) fun t18=>
 K .normal ⟨[(3,t15),(7,v7),(8,v8),(9,t18)],h16,(y17++(y14++(y9++(y6++x))))⟩)
 (K (.exit 0) ⟨[(3,v3),(7,v7),(8,v8),(9,v9),(10,t1)],h,x⟩)
theorem zdq {C gl e h x K}:NW C gl zJ ⟨e,h,x⟩ K=jZ C gl (bA e 3) (bA e 7) (bA e 8) (bA e 9) h x K:=by kernel_rfl
theorem zgp {C gl e h x K}:NW C gl (.loop (.scope zJ)) ⟨e,h,x⟩ K=LA C gl (.scope zJ) K [(3,bA e 3),(7,bA e 7),(8,bA e 8),(9,bA e 9)] h x:=MB
def HO:ACode:=.pr [3] (.seq (rg [mV 19 3,
cL 20 oH [19]] [3])
(.seq (rg [mV 21 3,
cL 22 XE [21],
mV 2 22] [2])
.ret))
def kZ (C:Hd)(gl:GL)(v3:AV)(h:aA)(x:Esc)(K:KT):Prop:=
 C oH [v3] h fun t1 h2 y3=>
 C XE [v3] h2 fun t4 h5 y6=>
 K .ret ⟨[(2,t4)],h5,(y6++(y3++x))⟩
theorem zdr {C gl e h x K}:NW C gl HO ⟨e,h,x⟩ K=kZ C gl (bA e 3) h x K:=by kernel_rfl
def iW (q1 q2:ACode):ACode:=(.seq (rg [uO 1 (.box 0),
mV 2 (.c (.p (.sl none [])))] [1])
(.seq (rg [uO 3 (.new0 none)] [1,3])
(.seq (.seq (rg [fA 6 1 none 1,
lD 7 none 6,
lN 8 7,
mV 9 (cI 0)] [3,7,8,9])
(.block 0 (.loop (.scope q1))))
q2)))
def jQ:AFun:=⟨1,[.t 2],iW zJ HO,true,true⟩
def AK (C:Hd)(gl:GL)(q1 q2:ACode)(v0:AV)(h:aA)(x:Esc)(K:KT):Prop:=
 wK (uB v0 h) fun t1 h2 y3=>
 nwK none h2 fun t4 h5 y6=>
 pK (nA 1 none t1) fun t7=>
 pK (lA none t7 h5) fun t8=>
 pK (AA t8) fun t9=>
 NW C gl (.loop (.scope q1)) ⟨[(3,t4),(7,t8),(8,t9),(9,(AI 0))],h5,(y6++(y3++x))⟩ (yA 0 (RA C gl q2 K))
theorem z5w {C gl q1 q2 v0 h x K}:NW C gl (iW q1 q2) ⟨enter [v0],h,x⟩ K=AK C gl q1 q2 v0 h x K:=by kernel_rfl
theorem zdp {C gl v0 h x K}:NW C gl jQ.body ⟨enter [v0],h,x⟩ K=AK C gl zJ HO v0 h x K:=z5w
def z6U:ACode:=(.seq (rg [mV 4 (cI 0)] [0,1])
(.seq (rg [mV 7 0,
uO 8 (.nilchk 7),
fA 9 1 none 8,
lD 10 none 9,
bN 11 .add 10 (cI 1),
uO 12 (.nilchk 7),
fA 13 1 none 12,
wO (.store none 13 11)] [0,1])
(.seq (.seq (rg [mV 14 0,
uO 15 (.nilchk 14),
fA 16 0 none 15,
lD 17 none 16,
lN 18 17,
bN 19 .eql 18 (cI 0)] [0,1,19])
(.cond 19 (.seq (rg [mV 20 0,
uO 21 (.nilchk 20),
fA 22 1 none 21,
lD 23 none 22,
bN 24 .mul 23 (cI 7919),
mV 25 1,
cL 26 UE [24,25],
mV 4 26] [4])
.ret)
.skip))
(.seq (dr [dF (mV 27 0) [0],
dF (uO 28 (.nilchk 27)) [27],
dF (fA 29 1 none 28) [28],
dF (lD 30 none 29) [29],
dF (bN 31 .sub 30 (cI 1)) [30],
dF (mV 32 0) [0],
dF (uO 33 (.nilchk 32)) [32],
dF (fA 34 0 none 33) [33],
dF (lD 35 none 34) [34],
dF (lN 36 35) [35],
dF (bN 37 .rem 31 36) [31,36],
dF (mV 5 37) [37]] [0,1,5])
(.seq (dr [dF (mV 38 0) [0],
dF (uO 39 (.nilchk 38)) [38],
dF (fA 40 1 none 39) [39],
dF (lD 41 none 40) [40],
dF (bN 42 .sub 41 (cI 1)) [41],
dF (mV 43 0) [0],
dF (uO 44 (.nilchk 43)) [43],
dF (fA 45 0 none 44) [44],
dF (lD 46 none 45) [45],
dF (lN 47 46) [46],
dF (bN 48 .quo 42 47) [42,47],
dF (mV 6 48) [48]] [0,1,5,6])
(.seq (rg [mV 49 0,
uO 50 (.nilchk 49),
fA 51 0 none 50,
lD 52 none 51,
mV 53 5,
iA 54 none 52 53,
lD 55 none 54,
cL 56 UE [55,(cI 1073741824)],
mV 57 6,
mV 58 5,
bN 59 .add (cI 7919) 58,
bN 60 .mul 57 59,
bN 61 .add 56 60,
mV 62 1,
cL 63 UE [61,62],
mV 4 63] [4])
.ret))))))
def VP:AFun:=⟨2,[.t 4],z6U,false,false⟩
def gN (C:Hd)(gl:GL)(v0 v1:AV)(h:aA)(x:Esc)(K:KT):Prop:=
 pK (VA v0) fun t1=>
 pK (nA 1 none t1) fun t2=>
 pK (lA none t2 h) fun t3=>
 pK (eA .add t3 (AI 1)) fun t4=>
 pK (VA v0) fun t5=>
 pK (nA 1 none t5) fun t6=>
 wK (NA none t6 t4 h) fun t7 h8 y9=>
 pK (VA v0) fun t10=>
 pK (nA 0 none t10) fun t11=>
 pK (lA none t11 h8) fun t12=>
 pK (AA t12) fun t13=>
 pK (eA .eql t13 (AI 0)) fun t14=>
 oA t14 (pK (VA v0) fun t15=>
 pK (nA 1 none t15) fun t16=>
 pK (lA none t16 h8) fun t17=>
 pK (eA .mul t17 (AI 7919)) fun t18=>
 C UE [t18,v1] h8 fun t19 h20 y21=>
 K .ret ⟨[(4,t19)],h20,(y21++(y9++x))⟩)
 (pK (VA v0) fun t22=>
 pK (nA 1 none t22) fun t23=>
 pK (lA none t23 h8) fun t24=>
 pK (eA .sub t24 (AI 1)) fun t25=>
 pK (VA v0) fun t26=>
 pK (nA 0 none t26) fun t27=>
 pK (lA none t27 h8) fun t28=>
 pK (AA t28) fun t29=>
 pK (eA .rem t25 t29) fun t30=>
 pK (VA v0) fun t31=>
 pK (nA 1 none t31) fun t32=>
 pK (lA none t32 h8) fun t33=>
 pK (eA .sub t33 (AI 1)) fun t34=>
 pK (VA v0) fun t35=>
 pK (nA 0 none t35) fun t36=>
 pK (lA none t36 h8) fun t37=>
 pK (AA t37) fun t38=>
 pK (eA .quo t34 t38) fun t39=>
 pK (VA v0) fun t40=>
 pK (nA 0 none t40) fun t41=>
 pK (lA none t41 h8) fun t42=>
 pK (uA none t42 t30 h8) fun t43=>
 pK (lA none t43 h8) fun t44=>
 C UE [t44,(AI 1073741824)] h8 fun t45 h46 y47=>
 pK (eA .add (AI 7919) t30) fun t48=>
 pK (eA .mul t39 t48) fun t49=>
 pK (eA .add t45 t49) fun t50=>
 C UE [t50,v1] h46 fun t51 h52 y53=>
 K .ret ⟨[(4,t51)],h52,(y53++(y47++(y9++x)))⟩)
theorem zcO {C gl v0 v1 h x K}:NW C gl VP.body ⟨enter [v0,v1],h,x⟩ K=gN C gl v0 v1 h x K:=by kernel_rfl
def z7a:ACode:=(.seq (rg [mV 8 0,
cL 9 zB [8,(cI 6)]] [0,1,9])
(.block 0 (.seq (rg [bN 103 .eql 9 (cI 0),
mV 102 103] [0,1,9,102])
(.cond 102 (.seq (rg [mV 104 1,
uO 105 (.nilchk 104),
fA 106 0 none 105,
lD 107 none 106,
lN 108 107,
bN 109 .gtr 108 (cI 0)] [0,1,109])
(.cond 109 (dr [dF (mV 110 1) [1],
dF (uO 111 (.nilchk 110)) [110],
dF (fA 112 0 none 111) [111],
dF (lD 113 none 112) [112],
dF (mV 114 0) [0],
dF (mV 115 1) [1],
dF (uO 116 (.nilchk 115)) [115],
dF (fA 117 0 none 116) [116],
dF (lD 118 none 117) [117],
dF (lN 119 118) [118],
dA (cL 120 zB [114,119]) [114,119] true [] [3],
dF (mV 121 0) [0],
dA (uO 122 (.bsl false none 4 (.str []) [(0,(cS [])),(1,(cS [65])),(2,(cS [117])),(3,(cS [122,122]))])) [] false [10] [],
dA (cL 123 wC [121,122]) [121,122] true [] [3],
dF (iA 124 (some 2) 113 120) [113,120],
dF (fA 125 0 none 124) [124],
dT (wO (.store none 125 123)) [125,123]] [])
.skip))
(.seq (rg [bN 127 .eql 9 (cI 1),
mV 126 127] [0,1,9,126])
(.cond 126 (.seq (rg [mV 128 1,
uO 129 (.nilchk 128),
fA 130 1 none 129,
lD 131 none 130,
lN 132 131,
bN 133 .gtr 132 (cI 0)] [0,1,133])
(.cond 133 (.seq (dr [dF (mV 134 1) [1],
dF (uO 135 (.nilchk 134)) [134],
dF (fA 136 1 none 135) [135],
dF (lD 137 none 136) [136],
dF (mV 138 0) [0],
dF (mV 139 1) [1],
dF (uO 140 (.nilchk 139)) [139],
dF (fA 141 1 none 140) [140],
dF (lD 142 none 141) [141],
dF (lN 143 142) [142],
dA (cL 144 zB [138,143]) [138,143] true [] [3],
dF (iA 145 (some 3) 137 144) [137,144],
dF (mV 4 145) [145]] [0,4])
(dr [dF (mV 146 4) [4],
dF (mV 147 4) [4],
dF (mV 148 4) [4],
dF (mV 149 0) [0],
dF (mV 150 4) [4],
dF (uO 151 (.nilchk 150)) [150],
dF (fA 152 0 none 151) [151],
dF (lD 153 none 152) [152],
dF (uO 154 (.bsl false none 3 (.str []) [(0,153),(1,(cS [])),(2,(cS [110,49]))])) [153],
dT (cL 155 wC [149,154]) [149,154],
dF (mV 156 0) [0],
dF (mV 157 4) [4],
dF (uO 158 (.nilchk 157)) [157],
dF (fA 159 1 none 158) [158],
dA (lD 160 none 159) [159] false [9] [],
dA (uO 161 (.bsl false none 3 (.str []) [(0,160),(1,(cS [122,122])),(2,(cS [117]))])) [160] false [9] [],
dT (cL 162 wC [156,161]) [156,161],
dF (mV 163 0) [0],
dF (mV 164 4) [4],
dF (uO 165 (.nilchk 164)) [164],
dF (fA 166 2 none 165) [165],
dA (lD 167 none 166) [166] false [9,16] [],
dA (uO 168 (.bsl false none 3 (.str []) [(0,167),(1,(cS [112,122])),(2,(cS []))])) [167] false [9,16] [],
dT (cL 169 wC [163,168]) [163,168],
dF (uO 170 (.nilchk 146)) [146],
dF (fA 171 0 none 170) [170],
dT (wO (.store none 171 155)) [171,155],
dF (uO 172 (.nilchk 147)) [147],
dF (fA 173 1 none 172) [172],
dT (wO (.store none 173 162)) [173,162],
dF (uO 174 (.nilchk 148)) [148],
dF (fA 175 2 none 174) [174],
dT (wO (.store none 175 169)) [175,169]] []))
.skip))
(.seq (rg [bN 177 .eql 9 (cI 2),
mV 176 177] [0,1,176])
(.cond 176 (.seq (rg [mV 178 1,
uO 179 (.nilchk 178),
fA 180 2 none 179,
lD 181 none 180,
lN 182 181,
bN 183 .gtr 182 (cI 0)] [0,1,183])
(.cond 183 (.seq (dr [dF (mV 184 1) [1],
dF (uO 185 (.nilchk 184)) [184],
dF (fA 186 2 none 185) [185],
dF (lD 187 none 186) [186],
dF (mV 188 0) [0],
dF (mV 189 1) [1],
dF (uO 190 (.nilchk 189)) [189],
dF (fA 191 2 none 190) [190],
dF (lD 192 none 191) [191],
dF (lN 193 192) [192],
dA (cL 194 zB [188,193]) [188,193] true [] [3],
dF (iA 195 (some 2) 187 194) [187,194],
dF (mV 5 195) [195]] [0,5])
(rg [mV 196 5,
mV 197 5,
mV 198 0,
mV 199 5,
uO 200 (.nilchk 199),
fA 201 0 none 200,
lD 202 none 201,
uO 203 (.bsl false none 3 (.str []) [(0,202),(1,(cS [122,122])),(2,(cS [110,49]))]),
cL 204 wC [198,203],
mV 205 0,
cL 206 CI [205,(cI 0),(cI 1)],
uO 207 (.nilchk 196),
fA 208 0 none 207,
wO (.store none 208 204),
uO 209 (.nilchk 197),
fA 210 1 none 209,
wO (.store none 210 206)] []))
.skip))
(.seq (.seq (rg [mV 10 1,
uO 11 (.nilchk 10),
fA 12 0 none 11,
lD 13 none 12,
lN 14 13,
bN 15 .eql 14 (cI 0)] [0,1,15])
(.cond 15 .ret
.skip))
(.seq (dr [dF (mV 16 1) [1],
dF (uO 17 (.nilchk 16)) [16],
dF (fA 18 0 none 17) [17],
dF (lD 19 none 18) [18],
dF (mV 20 0) [0],
dF (mV 21 1) [1],
dF (uO 22 (.nilchk 21)) [21],
dF (fA 23 0 none 22) [22],
dF (lD 24 none 23) [23],
dF (lN 25 24) [24],
dA (cL 26 zB [20,25]) [20,25] true [] [3],
dF (iA 27 (some 2) 19 26) [19,26],
dF (mV 6 27) [27]] [0,6])
(.seq (rg [mV 28 6,
uO 29 (.nilchk 28),
fA 30 1 none 29,
lD 31 none 30,
lN 32 31,
bN 33 .gtr 32 (cI 0)] [0,6,33])
(.cond 33 (.seq (dr [dF (mV 34 6) [6],
dF (uO 35 (.nilchk 34)) [34],
dF (fA 36 1 none 35) [35],
dF (lD 37 none 36) [36],
dF (mV 38 0) [0],
dF (mV 39 6) [6],
dF (uO 40 (.nilchk 39)) [39],
dF (fA 41 1 none 40) [40],
dF (lD 42 none 41) [41],
dF (lN 43 42) [42],
dA (cL 44 zB [38,43]) [38,43] true [] [3],
dF (iA 45 (some 4) 37 44) [37,44],
dF (mV 7 45) [45]] [0,7])
(dr [dF (mV 46 7) [7],
dF (mV 47 7) [7],
dF (mV 48 7) [7],
dF (mV 49 7) [7],
dF (mV 50 0) [0],
dF (mV 51 7) [7],
dF (uO 52 (.nilchk 51)) [51],
dF (fA 53 0 none 52) [52],
dF (lD 54 none 53) [53],
dF (mV 55 7) [7],
dF (uO 56 (.nilchk 55)) [55],
dF (fA 57 0 none 56) [56],
dF (lD 58 none 57) [57],
dF (uO 59 (.bsl false none 5 (.int .i64 0) [(0,54),(1,58),(2,(cI 0)),(3,(cI 5)),(4,(cI 3))])) [54,58],
dT (cL 60 AD [50,59]) [50,59],
dF (mV 61 0) [0],
dF (mV 62 7) [7],
dF (uO 63 (.nilchk 62)) [62],
dF (fA 64 1 none 63) [63],
dA (lD 65 none 64) [64] false [14] [],
dF (mV 66 7) [7],
dF (uO 67 (.nilchk 66)) [66],
dF (fA 68 1 none 67) [67],
dA (lD 69 none 68) [68] false [14] [],
dA (uO 70 (.bsl false none 5 (.str []) [(0,65),(1,69),(2,(cS [])),(3,(cS [112,97])),(4,(cS [65]))])) [65,69] false [14] [],
dT (cL 71 wC [61,70]) [61,70],
dF (mV 72 0) [0],
dF (mV 73 7) [7],
dF (uO 74 (.nilchk 73)) [73],
dF (fA 75 2 none 74) [74],
dA (lD 76 none 75) [75] false [14,25] [],
dF (mV 77 7) [7],
dF (uO 78 (.nilchk 77)) [77],
dF (fA 79 2 none 78) [78],
dA (lD 80 none 79) [79] false [14,25] [],
dA (uO 81 (.bsl false none 7 (.int .i64 0) [(0,76),(1,80),(2,(cI (-1))),(3,(cI (-2))),(4,(cI 0)),(5,(cI 99)),(6,(cI 1099511627776))])) [76,80] false [14,25] [],
dT (cL 82 AD [72,81]) [72,81],
dF (mV 83 0) [0],
dF (mV 84 7) [7],
dF (uO 85 (.nilchk 84)) [84],
dF (fA 86 3 none 85) [85],
dA (lD 87 none 86) [86] false [14,25,36] [],
dF (mV 88 7) [7],
dF (uO 89 (.nilchk 88)) [88],
dF (fA 90 3 none 89) [89],
dA (lD 91 none 90) [90] false [14,25,36] [],
dA (uO 92 (.bsl false none 6 (.int .i64 0) [(0,87),(1,91),(2,(cI 0)),(3,(cI 1)),(4,(cI 2)),(5,(cI (-1)))])) [87,91] false [14,25,36] [],
dT (cL 93 AD [83,92]) [83,92],
dF (uO 94 (.nilchk 46)) [46],
dF (fA 95 0 none 94) [94],
dT (wO (.store none 95 60)) [95,60],
dF (uO 96 (.nilchk 47)) [47],
dF (fA 97 1 none 96) [96],
dT (wO (.store none 97 71)) [97,71],
dF (uO 98 (.nilchk 48)) [48],
dF (fA 99 2 none 98) [98],
dT (wO (.store none 99 82)) [99,82],
dF (uO 100 (.nilchk 49)) [49],
dF (fA 101 3 none 100) [100],
dT (wO (.store none 101 93)) [101,93]] []))
.skip))))))))))))
def dQ:AFun:=⟨2,[],z7a,false,false⟩
def uE (C:Hd)(gl:GL)(v0 v1:AV)(h:aA)(x:Esc)(K:KT):Prop:=
 C zB [v0,(AI 6)] h fun t1 h2 y3=>
 pK (eA .eql t1 (AI 0)) fun t4=>
 oA t4 (pK (VA v1) fun t5=>
 pK (nA 0 none t5) fun t6=>
 pK (lA none t6 h2) fun t7=>
 pK (AA t7) fun t8=>
 pK (eA .gtr t8 (AI 0)) fun t9=>
 oA t9 (pK (VA v1) fun t10=>
 pK (nA 0 none t10) fun t11=>
 pK (lA none t11 h2) fun t12=>
 pK (VA v1) fun t13=>
 pK (nA 0 none t13) fun t14=>
 pK (lA none t14 h2) fun t15=>
 pK (AA t15) fun t16=>
 FB C zB [v0,t16] h2 fun t17 h18 y19=>
 (pK (lA none t11 h18) fun v=>(fun u (g1:aA) (y1:Esc)=>u=t12∧g1=h18∧y1=[]) v h18 [])∧(wK (ZA false none 4 (.str []) [(0,(.p (.str []))),(1,(.p (.str [65]))),(2,(.p (.str [117]))),(3,(.p (.str [122,122])))] h18) fun t20 h21 y22=>
 (h21=h18∧y22=[])∧((wK (ZA false none 4 (.str []) [(0,(.p (.str []))),(1,(.p (.str [65]))),(2,(.p (.str [117]))),(3,(.p (.str [122,122])))] h2) (fun u (g1:aA) (y1:Esc)=>u=t20∧g1=h2∧y1=[]))∧(FB C wC [v0,t20] h21 fun t23 h24 y25=>
 (pK (lA none t11 h24) fun v=>(fun u (g1:aA) (y1:Esc)=>u=t12∧g1=h24∧y1=[]) v h24 [])∧(pK (uA (some 2) t12 t17 h24) fun t26=>
 pK (nA 0 none t26) fun t27=>
 wK (NA none t27 t23 h24) fun t28 h29 y30=>
 K .normal ⟨[],h29,(y30++(y25++(y22++(y19++(y3++x)))))⟩)))))
 (K .normal ⟨[(0,v0),(1,v1),(109,t9)],h2,(y3++x)⟩))
 (pK (eA .eql t1 (AI 1)) fun t31=>
 oA t31 (pK (VA v1) fun t32=>
 pK (nA 1 none t32) fun t33=>
 pK (lA none t33 h2) fun t34=>
 pK (AA t34) fun t35=>
 pK (eA .gtr t35 (AI 0)) fun t36=>
 oA t36 (pK (VA v1) fun t37=>
 pK (nA 1 none t37) fun t38=>
 pK (lA none t38 h2) fun t39=>
 pK (VA v1) fun t40=>
 pK (nA 1 none t40) fun t41=>
 pK (lA none t41 h2) fun t42=>
 pK (AA t42) fun t43=>
 FB C zB [v0,t43] h2 fun t44 h45 y46=>
 (pK (lA none t38 h45) fun v=>(fun u (g1:aA) (y1:Esc)=>u=t39∧g1=h45∧y1=[]) v h45 [])∧(pK (uA (some 3) t39 t44 h45) fun t47=>
 pK (VA t47) fun t48=>
 pK (nA 0 none t48) fun t49=>
 pK (lA none t49 h45) fun t50=>
 wK (ZA false none 3 (.str []) [(0,t50),(1,(.p (.str []))),(2,(.p (.str [110,49])))] h45) fun t51 h52 y53=>
 (h52=h45∧y53=[])∧(FB C wC [v0,t51] h52 fun t54 h55 y56=>
 pK (VA t47) fun t57=>
 pK (nA 1 none t57) fun t58=>
 pK (lA none t58 h55) fun t59=>
 (pK (lA none t58 h52) fun v=>(fun u (g1:aA) (y1:Esc)=>u=t59∧g1=h52∧y1=[]) v h52 [])∧(wK (ZA false none 3 (.str []) [(0,t59),(1,(.p (.str [122,122]))),(2,(.p (.str [117])))] h55) fun t60 h61 y62=>
 (h61=h55∧y62=[])∧((wK (ZA false none 3 (.str []) [(0,t59),(1,(.p (.str [122,122]))),(2,(.p (.str [117])))] h52) (fun u (g1:aA) (y1:Esc)=>u=t60∧g1=h52∧y1=[]))∧(FB C wC [v0,t60] h61 fun t63 h64 y65=>
 pK (VA t47) fun t66=>
 pK (nA 2 none t66) fun t67=>
 pK (lA none t67 h64) fun t68=>
 (pK (lA none t67 h52) fun v=>(fun u (g1:aA) (y1:Esc)=>u=t68∧g1=h52∧y1=[]) v h52 [])∧((pK (lA none t67 h61) fun v=>(fun u (g1:aA) (y1:Esc)=>u=t68∧g1=h61∧y1=[]) v h61 [])∧(wK (ZA false none 3 (.str []) [(0,t68),(1,(.p (.str [112,122]))),(2,(.p (.str [])))] h64) fun t69 h70 y71=>
 (h70=h64∧y71=[])∧((wK (ZA false none 3 (.str []) [(0,t68),(1,(.p (.str [112,122]))),(2,(.p (.str [])))] h52) (fun u (g1:aA) (y1:Esc)=>u=t69∧g1=h52∧y1=[]))∧((wK (ZA false none 3 (.str []) [(0,t68),(1,(.p (.str [112,122]))),(2,(.p (.str [])))] h61) (fun u (g1:aA) (y1:Esc)=>u=t69∧g1=h61∧y1=[]))∧(FB C wC [v0,t69] h70 fun t72 h73 y74=>
 pK (VA t47) fun t75=>
 pK (nA 0 none t75) fun t76=>
 wK (NA none t76 t54 h73) fun t77 h78 y79=>
 pK (VA t47) fun t80=>
 pK (nA 1 none t80) fun t81=>
 wK (NA none t81 t63 h78) fun t82 h83 y84=>
 pK (VA t47) fun t85=>
 pK (nA 2 none t85) fun t86=>
 wK (NA none t86 t72 h83) fun t87 h88 y89=>
 K .normal ⟨[],h88,(y89++(y84++(y79++(y74++(y71++(y65++(y62++(y56++(y53++(y46++(y3++x)))))))))))⟩)))))))))))
 (K .normal ⟨[(0,v0),(1,v1),(133,t36)],h2,(y3++x)⟩))
 (pK (eA .eql t1 (AI 2)) fun t90=>
 oA t90 (pK (VA v1) fun t91=>
 pK (nA 2 none t91) fun t92=>
 pK (lA none t92 h2) fun t93=>
 pK (AA t93) fun t94=>
 pK (eA .gtr t94 (AI 0)) fun t95=>
 oA t95 (pK (VA v1) fun t96=>
 pK (nA 2 none t96) fun t97=>
 pK (lA none t97 h2) fun t98=>
 pK (VA v1) fun t99=>
 pK (nA 2 none t99) fun t100=>
 pK (lA none t100 h2) fun t101=>
 pK (AA t101) fun t102=>
 FB C zB [v0,t102] h2 fun t103 h104 y105=>
 (pK (lA none t97 h104) fun v=>(fun u (g1:aA) (y1:Esc)=>u=t98∧g1=h104∧y1=[]) v h104 [])∧(pK (uA (some 2) t98 t103 h104) fun t106=>
 pK (VA t106) fun t107=>
 pK (nA 0 none t107) fun t108=>
 pK (lA none t108 h104) fun t109=>
 wK (ZA false none 3 (.str []) [(0,t109),(1,(.p (.str [122,122]))),(2,(.p (.str [110,49])))] h104) fun t110 h111 y112=>
 C wC [v0,t110] h111 fun t113 h114 y115=>
 C CI [v0,(AI 0),(AI 1)] h114 fun t116 h117 y118=>
 pK (VA t106) fun t119=>
 pK (nA 0 none t119) fun t120=>
 wK (NA none t120 t113 h117) fun t121 h122 y123=>
 pK (VA t106) fun t124=>
 pK (nA 1 none t124) fun t125=>
 wK (NA none t125 t116 h122) fun t126 h127 y128=>
 K .normal ⟨[],h127,(y128++(y123++(y118++(y115++(y112++(y105++(y3++x)))))))⟩))
 (K .normal ⟨[(0,v0),(1,v1),(183,t95)],h2,(y3++x)⟩))
 (pK (VA v1) fun t129=>
 pK (nA 0 none t129) fun t130=>
 pK (lA none t130 h2) fun t131=>
 pK (AA t131) fun t132=>
 pK (eA .eql t132 (AI 0)) fun t133=>
 oA t133 (K .ret ⟨[(0,v0),(1,v1),(15,t133)],h2,(y3++x)⟩)
 (pK (VA v1) fun t134=>
 pK (nA 0 none t134) fun t135=>
 pK (lA none t135 h2) fun t136=>
 pK (VA v1) fun t137=>
 pK (nA 0 none t137) fun t138=>
 pK (lA none t138 h2) fun t139=>
 pK (AA t139) fun t140=>
 FB C zB [v0,t140] h2 fun t141 h142 y143=>
 (pK (lA none t135 h142) fun v=>(fun u (g1:aA) (y1:Esc)=>u=t136∧g1=h142∧y1=[]) v h142 [])∧(pK (uA (some 2) t136 t141 h142) fun t144=>
 pK (VA t144) fun t145=>
 pK (nA 1 none t145) fun t146=>
 pK (lA none t146 h142) fun t147=>
 pK (AA t147) fun t148=>
 pK (eA .gtr t148 (AI 0)) fun t149=>
 oA t149 (pK (VA t144) fun t150=>
 pK (nA 1 none t150) fun t151=>
 pK (lA none t151 h142) fun t152=>
 pK (VA t144) fun t153=>
 pK (nA 1 none t153) fun t154=>
 pK (lA none t154 h142) fun t155=>
 pK (AA t155) fun t156=>
 FB C zB [v0,t156] h142 fun t157 h158 y159=>
 (pK (lA none t151 h158) fun v=>(fun u (g1:aA) (y1:Esc)=>u=t152∧g1=h158∧y1=[]) v h158 [])∧(pK (uA (some 4) t152 t157 h158) fun t160=>
 pK (VA t160) fun t161=>
 pK (nA 0 none t161) fun t162=>
 pK (lA none t162 h158) fun t163=>
 pK (VA t160) fun t164=>
 pK (nA 0 none t164) fun t165=>
 pK (lA none t165 h158) fun t166=>
 wK (ZA false none 5 (.int .i64 0) [(0,t163),(1,t166),(2,(AI 0)),(3,(AI 5)),(4,(AI 3))] h158) fun t167 h168 y169=>
 (h168=h158∧y169=[])∧(FB C AD [v0,t167] h168 fun t170 h171 y172=>
 pK (VA t160) fun t173=>
 pK (nA 1 none t173) fun t174=>
 pK (lA none t174 h171) fun t175=>
 (pK (lA none t174 h168) fun v=>(fun u (g1:aA) (y1:Esc)=>u=t175∧g1=h168∧y1=[]) v h168 [])∧(pK (VA t160) fun t176=>
 pK (nA 1 none t176) fun t177=>
 pK (lA none t177 h171) fun t178=>
 (pK (lA none t177 h168) fun v=>(fun u (g1:aA) (y1:Esc)=>u=t178∧g1=h168∧y1=[]) v h168 [])∧(wK (ZA false none 5 (.str []) [(0,t175),(1,t178),(2,(.p (.str []))),(3,(.p (.str [112,97]))),(4,(.p (.str [65])))] h171) fun t179 h180 y181=>
 (h180=h171∧y181=[])∧((wK (ZA false none 5 (.str []) [(0,t175),(1,t178),(2,(.p (.str []))),(3,(.p (.str [112,97]))),(4,(.p (.str [65])))] h168) (fun u (g1:aA) (y1:Esc)=>u=t179∧g1=h168∧y1=[]))∧(FB C wC [v0,t179] h180 fun t182 h183 y184=>
 pK (VA t160) fun t185=>
 pK (nA 2 none t185) fun t186=>
 pK (lA none t186 h183) fun t187=>
 (pK (lA none t186 h168) fun v=>(fun u (g1:aA) (y1:Esc)=>u=t187∧g1=h168∧y1=[]) v h168 [])∧((pK (lA none t186 h180) fun v=>(fun u (g1:aA) (y1:Esc)=>u=t187∧g1=h180∧y1=[]) v h180 [])∧(pK (VA t160) fun t188=>
 pK (nA 2 none t188) fun t189=>
 pK (lA none t189 h183) fun t190=>
 (pK (lA none t189 h168) fun v=>(fun u (g1:aA) (y1:Esc)=>u=t190∧g1=h168∧y1=[]) v h168 [])∧((pK (lA none t189 h180) fun v=>(fun u (g1:aA) (y1:Esc)=>u=t190∧g1=h180∧y1=[]) v h180 [])∧(wK (ZA false none 7 (.int .i64 0) [(0,t187),(1,t190),(2,(AI (-1))),(3,(AI (-2))),(4,(AI 0)),(5,(AI 99)),(6,(AI 1099511627776))] h183) fun t191 h192 y193=>
 (h192=h183∧y193=[])∧((wK (ZA false none 7 (.int .i64 0) [(0,t187),(1,t190),(2,(AI (-1))),(3,(AI (-2))),(4,(AI 0)),(5,(AI 99)),(6,(AI 1099511627776))] h168) (fun u (g1:aA) (y1:Esc)=>u=t191∧g1=h168∧y1=[]))∧((wK (ZA false none 7 (.int .i64 0) [(0,t187),(1,t190),(2,(AI (-1))),(3,(AI (-2))),(4,(AI 0)),(5,(AI 99)),(6,(AI 1099511627776))] h180) (fun u (g1:aA) (y1:Esc)=>u=t191∧g1=h180∧y1=[]))∧(FB C AD [v0,t191] h192 fun t194 h195 y196=>
 pK (VA t160) fun t197=>
 pK (nA 3 none t197) fun t198=>
 pK (lA none t198 h195) fun t199=>
 (pK (lA none t198 h168) fun v=>(fun u (g1:aA) (y1:Esc)=>u=t199∧g1=h168∧y1=[]) v h168 [])∧((pK (lA none t198 h180) fun v=>(fun u (g1:aA) (y1:Esc)=>u=t199∧g1=h180∧y1=[]) v h180 [])∧((pK (lA none t198 h192) fun v=>(fun u (g1:aA) (y1:Esc)=>u=t199∧g1=h192∧y1=[]) v h192 [])∧(pK (VA t160) fun t200=>
 pK (nA 3 none t200) fun t201=>
 pK (lA none t201 h195) fun t202=>
 (pK (lA none t201 h168) fun v=>(fun u (g1:aA) (y1:Esc)=>u=t202∧g1=h168∧y1=[]) v h168 [])∧((pK (lA none t201 h180) fun v=>(fun u (g1:aA) (y1:Esc)=>u=t202∧g1=h180∧y1=[]) v h180 [])∧((pK (lA none t201 h192) fun v=>(fun u (g1:aA) (y1:Esc)=>u=t202∧g1=h192∧y1=[]) v h192 [])∧(wK (ZA false none 6 (.int .i64 0) [(0,t199),(1,t202),(2,(AI 0)),(3,(AI 1)),(4,(AI 2)),(5,(AI (-1)))] h195) fun t203 h204 y205=>
 (h204=h195∧y205=[])∧((wK (ZA false none 6 (.int .i64 0) [(0,t199),(1,t202),(2,(AI 0)),(3,(AI 1)),(4,(AI 2)),(5,(AI (-1)))] h168) (fun u (g1:aA) (y1:Esc)=>u=t203∧g1=h168∧y1=[]))∧((wK (ZA false none 6 (.int .i64 0) [(0,t199),(1,t202),(2,(AI 0)),(3,(AI 1)),(4,(AI 2)),(5,(AI (-1)))] h180) (fun u (g1:aA) (y1:Esc)=>u=t203∧g1=h180∧y1=[]))∧((wK (ZA false none 6 (.int .i64 0) [(0,t199),(1,t202),(2,(AI 0)),(3,(AI 1)),(4,(AI 2)),(5,(AI (-1)))] h192) (fun u (g1:aA) (y1:Esc)=>u=t203∧g1=h192∧y1=[]))∧(FB C AD [v0,t203] h204 fun t206 h207 y208=>
 pK (VA t160) fun t209=>
 pK (nA 0 none t209) fun t210=>
 wK (NA none t210 t170 h207) fun t211 h212 y213=>
 pK (VA t160) fun t214=>
 pK (nA 1 none t214) fun t215=>
 wK (NA none t215 t182 h212) fun t216 h217 y218=>
 pK (VA t160) fun t219=>
 pK (nA 2 none t219) fun t220=>
 wK (NA none t220 t194 h217) fun t221 h222 y223=>
 pK (VA t160) fun t224=>
 pK (nA 3 none t224) fun t225=>
 wK (NA none t225 t206 h222) fun t226 h227 y228=>
 K .normal ⟨[],h227,(y228++(y223++(y218++(y213++(y208++(y205++(y196++(y193++(y184++(y181++(y172++(y169++(y159++(y143++(y3++x)))))))))))))))⟩))))))))))))))))))))))))
 (K .normal ⟨[(0,v0),(6,t144),(33,t149)],h142,(y143++(y3++x))⟩))))))
theorem zdg {C gl v0 v1 h x K}:NW C gl dQ.body ⟨enter [v0,v1],h,x⟩ K=uE C gl v0 v1 h x K:=by kernel_rfl
def z7c:ACode:=(.seq (rg [mV 2 cF] [0])
(.seq (rg [mV 3 0,
uO 4 (.lens 3),
cL 5 kD [4,(cI 1),(cI 40)],
mV 6 5,
gD 7 6 true (.mv 0),
gD 8 6 true (.slstr 7 none (some (cI 1))),
gD 9 6 true (.call oG [8,(cS [97,98,99,100,101,102,103,104,105,106,107,108,109,110,111,112,113,114,115,116,117,118,119,120,121,122])]),
uO 10 (.pick 6 9 cF),
mV 11 10,
gD 12 11 true (.mv 0),
gD 13 11 true (.call oG [12,(cS [97,98,99,100,101,102,103,104,105,106,107,108,109,110,111,112,113,114,115,116,117,118,119,120,121,122,48,49,50,51,52,53,54,55,56,57,45,95])]),
uO 14 (.pick 11 13 cF),
mV 2 14] [2])
.ret))
def iQ:AFun:=⟨1,[.t 2],z7c,false,false⟩
def pI (C:Hd)(gl:GL)(v0:AV)(h:aA)(x:Esc)(K:KT):Prop:=
 pK (vG v0) fun t1=>
 C kD [t1,(AI 1),(AI 40)] h fun t2 h3 y4=>
 gM t2 true v0 h3 fun t5 h6 y7=>
 gP t2 true (lO t5 none (some (AI 1))) h6 fun t8 h9 y10=>
 gV t2 true h9 (C oG [t8,(.p (.str [97,98,99,100,101,102,103,104,105,106,107,108,109,110,111,112,113,114,115,116,117,118,119,120,121,122]))] h9) fun t11 h12 y13=>
 pK (MA t2 t11 (AB false)) fun t14=>
 gM t14 true v0 h12 fun t15 h16 y17=>
 gV t14 true h16 (C oG [t15,(.p (.str [97,98,99,100,101,102,103,104,105,106,107,108,109,110,111,112,113,114,115,116,117,118,119,120,121,122,48,49,50,51,52,53,54,55,56,57,45,95]))] h16) fun t18 h19 y20=>
 pK (MA t14 t18 (AB false)) fun t21=>
 K .ret ⟨[(2,t21)],h19,(y20++(y17++(y13++(y10++(y7++(y4++x))))))⟩
theorem zdo {C gl v0 h x K}:NW C gl iQ.body ⟨enter [v0],h,x⟩ K=pI C gl v0 h x K:=by kernel_rfl
def BJ:ACode:=.pr [1,13,14,15] (.seq (rg [bN 16 .lss 15 14] [1,13,14,15,16])
(.seq (.cond 16 .skip
(.exit 0))
(.seq (.block 1 (.seq (rg [iA 17 (some 4) 13 15,
lD 18 (some 4) 17,
uO 4 (.alloc [.p (.int .i64 0),.p (.str []),.p (.int .i64 0),.p (.int .i64 0)]),
wO (.store (some 4) 4 18)] [1,4,13,14,15])
(.seq (rg [fA 19 1 none 1,
lD 20 none 19,
lD 21 (some 4) 4,
cL 22 HI [20,21],
mV 5 22] [1,5,13,14,15])
(.seq (rg [mV 23 5,
bN 24 .neq 23 (cI 0)] [1,5,13,14,15,24])
(.cond 24 (.seq (rg [mV 25 5,
mV 2 25] [2])
.ret)
.skip)))))
(rg [bN 26 .add 15 (cI 1),
mV 15 26] [1,13,14,15]))))
def nZ (C:Hd)(gl:GL)(v1 v13 v14 v15:AV)(h:aA)(x:Esc)(K:KT):Prop:=
 pK (eA .lss v15 v14) fun t1=>
 oA t1 (pK (uA (some 4) v13 v15 h) fun t2=>
 pK (lA (some 4) t2 h) fun t3=>
 alK [.p (.int .i64 0),.p (.str []),.p (.int .i64 0),.p (.int .i64 0)] h fun t4 h5 y6=>
 wK (NA (some 4) t4 t3 h5) fun t7 h8 y9=>
 pK (nA 1 none v1) fun t10=>
 pK (lA none t10 h8) fun t11=>
 pK (lA (some 4) t4 h8) fun t12=>
 C HI [t11,t12] h8 fun t13 h14 y15=>
 pK (eA .neq t13 (AI 0)) fun t16=>
 oA t16 (K .ret ⟨[(2,t13)],h14,(y15++(y9++(y6++x)))⟩)
 (pK (eA .add v15 (AI 1)) fun t17=>
 K .normal ⟨[(1,v1),(13,v13),(14,v14),(15,t17)],h14,(y15++(y9++(y6++x)))⟩))
 (K (.exit 0) ⟨[(1,v1),(13,v13),(14,v14),(15,v15),(16,t1)],h,x⟩)
theorem zd2 {C gl e h x K}:NW C gl BJ ⟨e,h,x⟩ K=nZ C gl (bA e 1) (bA e 13) (bA e 14) (bA e 15) h x K:=by kernel_rfl
theorem zgr {C gl e h x K}:NW C gl (.loop (.scope BJ)) ⟨e,h,x⟩ K=LA C gl (.scope BJ) K [(1,bA e 1),(13,bA e 13),(14,bA e 14),(15,bA e 15)] h x:=MB
def qL:ACode:=.pr [1,28,29,30] (.seq (rg [bN 31 .lss 30 29] [1,28,29,30,31])
(.seq (.cond 31 .skip
(.exit 2))
(.seq (.block 3 (.seq (rg [mV 32 30,
iA 33 (some 4) 28 30,
lD 34 (some 4) 33,
uO 7 (.alloc [.p (.int .i64 0),.p (.str []),.p (.int .i64 0),.p (.int .i64 0)]),
mV 6 32,
wO (.store (some 4) 7 34)] [1,6,7,28,29,30])
(.seq (rg [fA 35 1 none 7,
lD 36 none 35,
bN 37 .neq 36 (cS []),
mV 38 37,
gD 39 38 true (.faddr 1 none 1),
gD 40 38 true (.load none 39),
gD 41 38 true (.mv 6),
gD 42 38 true (.slice (some 4) 40 none (some 41) none),
gD 43 38 true (.mkfn lH [7]),
gD 44 38 true (.call VC [42,43]),
uO 45 (.pick 38 44 cF)] [1,28,29,30,45])
(.cond 45 (.seq (rg [mV 2 (cI 6)] [2])
.ret)
.skip))))
(rg [bN 46 .add 30 (cI 1),
mV 30 46] [1,28,29,30]))))
def oZ (C:Hd)(gl:GL)(v1 v28 v29 v30:AV)(h:aA)(x:Esc)(K:KT):Prop:=
 pK (eA .lss v30 v29) fun t1=>
 oA t1 (pK (uA (some 4) v28 v30 h) fun t2=>
 pK (lA (some 4) t2 h) fun t3=>
 alK [.p (.int .i64 0),.p (.str []),.p (.int .i64 0),.p (.int .i64 0)] h fun t4 h5 y6=>
 wK (NA (some 4) t4 t3 h5) fun t7 h8 y9=>
 pK (nA 1 none t4) fun t10=>
 pK (lA none t10 h8) fun t11=>
 pK (eA .neq t11 (.p (.str []))) fun t12=>
 gP t12 true (nA 1 none v1) h8 fun t13 h14 y15=>
 gP t12 true (lA none t13 h14) h14 fun t16 h17 y18=>
 gM t12 true v30 h17 fun t19 h20 y21=>
 gP t12 true (jE (some 4) t16 none (some t19) none h20) h20 fun t22 h23 y24=>
 gM t12 true (.fn lH [t4]) h23 fun t25 h26 y27=>
 gV t12 true h26 (C VC [t22,t25] h26) fun t28 h29 y30=>
 pK (MA t12 t28 (AB false)) fun t31=>
 oA t31 (K .ret ⟨[(2,(AI 6))],h29,(y30++(y27++(y24++(y21++(y18++(y15++(y9++(y6++x))))))))⟩)
 (pK (eA .add v30 (AI 1)) fun t32=>
 K .normal ⟨[(1,v1),(28,v28),(29,v29),(30,t32)],h29,(y30++(y27++(y24++(y21++(y18++(y15++(y9++(y6++x))))))))⟩))
 (K (.exit 2) ⟨[(1,v1),(28,v28),(29,v29),(30,v30),(31,t1)],h,x⟩)
theorem zd3 {C gl e h x K}:NW C gl qL ⟨e,h,x⟩ K=oZ C gl (bA e 1) (bA e 28) (bA e 29) (bA e 30) h x K:=by kernel_rfl
theorem zgs {C gl e h x K}:NW C gl (.loop (.scope qL)) ⟨e,h,x⟩ K=LA C gl (.scope qL) K [(1,bA e 1),(28,bA e 28),(29,bA e 29),(30,bA e 30)] h x:=MB
def MT:ACode:=.pr [] (.seq (rg [mV 2 (cI 0)] [2])
.ret)
def pZ (C:Hd)(gl:GL)(h:aA)(x:Esc)(K:KT):Prop:=
 K .ret ⟨[(2,(AI 0))],h,x⟩
theorem zd4 {C gl e h x K}:NW C gl MT ⟨e,h,x⟩ K=pZ C gl h x K:=by kernel_rfl
def lW (q2 q3:ACode):ACode:=.pr [1] (.seq (.seq (rg [fA 27 1 none 1,
lD 28 none 27,
lN 29 28,
mV 30 (cI 0)] [1,28,29,30])
(.block 2 (.loop (.scope q2))))
q3)
def rL:ACode:=lW qL MT
def DK (C:Hd)(gl:GL)(q2 q3:ACode)(v1:AV)(h:aA)(x:Esc)(K:KT):Prop:=
 pK (nA 1 none v1) fun t1=>
 pK (lA none t1 h) fun t2=>
 pK (AA t2) fun t3=>
 NW C gl (.loop (.scope q2)) ⟨[(1,v1),(28,t2),(29,t3),(30,(AI 0))],h,x⟩ (yA 2 (RA C gl q3 K))
theorem z5z {C gl q2 q3 e h x K}:NW C gl (lW q2 q3) ⟨e,h,x⟩ K=DK C gl q2 q3 (bA e 1) h x K:=by kernel_rfl
theorem lS {C gl e h x K}:NW C gl rL ⟨e,h,x⟩ K=DK C gl qL MT (bA e 1) h x K:=z5z
def kW (q1 q4:ACode):ACode:=(.seq (rg [uO 1 (.box 0),
mV 2 (cI 0)] [1])
(.seq (.seq (rg [fA 8 1 none 1,
lD 9 none 8,
lN 10 9,
bN 11 .gtr 10 (cI 200)] [1,11])
(.cond 11 (.seq (rg [mV 2 (cI 2)] [2])
.ret)
.skip))
(.seq (.seq (rg [fA 12 1 none 1,
lD 13 none 12,
lN 14 13,
mV 15 (cI 0)] [1,13,14,15])
(.block 0 (.loop (.scope q1))))
q4)))
def sQ:AFun:=⟨1,[.t 2],kW BJ rL,false,false⟩
def CK (C:Hd)(gl:GL)(q1 q4:ACode)(v0:AV)(h:aA)(x:Esc)(K:KT):Prop:=
 wK (uB v0 h) fun t1 h2 y3=>
 pK (nA 1 none t1) fun t4=>
 pK (lA none t4 h2) fun t5=>
 pK (AA t5) fun t6=>
 pK (eA .gtr t6 (AI 200)) fun t7=>
 oA t7 (K .ret ⟨[(2,(AI 2))],h2,(y3++x)⟩)
 (pK (nA 1 none t1) fun t8=>
 pK (lA none t8 h2) fun t9=>
 pK (AA t9) fun t10=>
 NW C gl (.loop (.scope q1)) ⟨[(1,t1),(13,t9),(14,t10),(15,(AI 0))],h2,(y3++x)⟩ (yA 0 (RA C gl q4 K)))
theorem z5y {C gl q1 q4 v0 h x K}:NW C gl (kW q1 q4) ⟨enter [v0],h,x⟩ K=CK C gl q1 q4 v0 h x K:=by kernel_rfl
theorem zd1 {C gl v0 h x K}:NW C gl sQ.body ⟨enter [v0],h,x⟩ K=CK C gl BJ rL v0 h x K:=z5y
def z7g:ACode:=(.seq (rg [uO 3 (.box 0),
uO 5 (.box 2),
mV 6 cF] [1,3,5])
(.seq (rg [lD 8 (some 3) 3,
mV 9 1,
cL 10 GI [8,9],
mV 7 10] [3,5,7])
(.seq (rg [mV 11 7,
bN 12 .geq 11 (cI 0),
mV 13 12,
gD 14 13 true (.load none 5),
gD 15 13 true (.bin .neq 14 (cS [])),
uO 16 (.pick 13 15 cF),
mV 17 16,
gD 18 17 true (.faddr 0 none 3),
gD 19 17 true (.load none 18),
gD 20 17 true (.mv 7),
gD 21 17 true (.iaddr (some 2) 19 20),
gD 22 17 true (.faddr 1 none 21),
gD 23 17 true (.load none 22),
gD 24 17 true (.mkfn kH [5]),
gD 25 17 true (.call VC [23,24]),
uO 26 (.pick 17 25 cF),
mV 6 26] [6])
.ret)))
def oQ:AFun:=⟨3,[.t 6],z7g,false,false⟩
def BK (C:Hd)(gl:GL)(v0 v1 v2:AV)(h:aA)(x:Esc)(K:KT):Prop:=
 wK (uB v0 h) fun t1 h2 y3=>
 wK (uB v2 h2) fun t4 h5 y6=>
 pK (lA (some 3) t1 h5) fun t7=>
 C GI [t7,v1] h5 fun t8 h9 y10=>
 pK (eA .geq t8 (AI 0)) fun t11=>
 gP t11 true (lA none t4 h9) h9 fun t12 h13 y14=>
 gP t11 true (eA .neq t12 (.p (.str []))) h13 fun t15 h16 y17=>
 pK (MA t11 t15 (AB false)) fun t18=>
 gP t18 true (nA 0 none t1) h16 fun t19 h20 y21=>
 gP t18 true (lA none t19 h20) h20 fun t22 h23 y24=>
 gM t18 true t8 h23 fun t25 h26 y27=>
 gP t18 true (uA (some 2) t22 t25 h26) h26 fun t28 h29 y30=>
 gP t18 true (nA 1 none t28) h29 fun t31 h32 y33=>
 gP t18 true (lA none t31 h32) h32 fun t34 h35 y36=>
 gM t18 true (.fn kH [t4]) h35 fun t37 h38 y39=>
 gV t18 true h38 (C VC [t34,t37] h38) fun t40 h41 y42=>
 pK (MA t18 t40 (AB false)) fun t43=>
 K .ret ⟨[(6,t43)],h41,(y42++(y39++(y36++(y33++(y30++(y27++(y24++(y21++(y17++(y14++(y10++(y6++(y3++x)))))))))))))⟩
theorem zdv {C gl v0 v1 v2 h x K}:NW C gl oQ.body ⟨enter [v0,v1,v2],h,x⟩ K=BK C gl v0 v1 v2 h x K:=by kernel_rfl
def z7l:ACode:=(.seq (rg [mV 4 cF] [0,1])
(.seq (rg [mV 5 0,
mV 6 1,
cL 7 OI [5,6],
bN 8 .geq 7 (cI 0),
mV 4 8] [4])
.ret))
def vQ:AFun:=⟨2,[.t 4],z7l,true,false⟩
def HR (C:Hd)(gl:GL)(v0 v1:AV)(h:aA)(x:Esc)(K:KT):Prop:=
 C OI [v0,v1] h fun t1 h2 y3=>
 pK (eA .geq t1 (AI 0)) fun t4=>
 K .ret ⟨[(4,t4)],h2,(y3++x)⟩
theorem zdK {C gl v0 v1 h x K}:NW C gl vQ.body ⟨enter [v0,v1],h,x⟩ K=HR C gl v0 v1 h x K:=by kernel_rfl
end Go.Am
end
section
/- The functions asv abstract code,and asv formulas over their values: printed by program out of the translation. -/
set_option linter.unusedVariables false
set_option maxRecDepth 100000
namespace Go.Am
def z7b:ACode:=(.seq (rg [uO 2 (.box 0),
mV 3 cF] [1,2])
(.seq (rg [fA 4 1 none 2,
lD 5 none 4,
fA 6 1 none 1,
lD 7 none 6,
bN 8 .eql 5 7,
mV 9 8,
gD 10 9 true (.faddr 2 none 2),
gD 11 9 true (.load none 10),
gD 12 9 true (.faddr 2 none 1),
gD 13 9 true (.load none 12),
gD 14 9 true (.bin .eql 11 13),
uO 15 (.pick 9 14 cF),
mV 3 15] [3])
.ret))
def gQ:AFun:=⟨2,[.t 3],z7b,false,false⟩
def oN (C:Hd)(gl:GL)(v0 v1:AV)(h:aA)(x:Esc)(K:KT):Prop:=
 wK (uB v0 h) fun t1 h2 y3=>
 pK (nA 1 none t1) fun t4=>
 pK (lA none t4 h2) fun t5=>
 pK (nA 1 none v1) fun t6=>
 pK (lA none t6 h2) fun t7=>
 pK (eA .eql t5 t7) fun t8=>
 gP t8 true (nA 2 none t1) h2 fun t9 h10 y11=>
 gP t8 true (lA none t9 h10) h10 fun t12 h13 y14=>
 gP t8 true (nA 2 none v1) h13 fun t15 h16 y17=>
 gP t8 true (lA none t15 h16) h16 fun t18 h19 y20=>
 gP t8 true (eA .eql t12 t18) h19 fun t21 h22 y23=>
 pK (MA t8 t21 (AB false)) fun t24=>
 K .ret ⟨[(3,t24)],h22,(y23++(y20++(y17++(y14++(y11++(y3++x))))))⟩
theorem zdn {C gl v0 v1 h x K}:NW C gl gQ.body ⟨enter [v0,v1],h,x⟩ K=oN C gl v0 v1 h x K:=by kernel_rfl
def z7p:ACode:=(.seq (rg [mV 4 cF] [0,1])
(.seq (rg [mV 5 0,
mV 6 1,
cL 7 rG [5,6],
bN 8 .geq 7 (cI 0),
mV 4 8] [4])
.ret))
def vM:AFun:=⟨2,[.t 4],z7p,true,false⟩
def JR (C:Hd)(gl:GL)(v0 v1:AV)(h:aA)(x:Esc)(K:KT):Prop:=
 C rG [v0,v1] h fun t1 h2 y3=>
 pK (eA .geq t1 (AI 0)) fun t4=>
 K .ret ⟨[(4,t4)],h2,(y3++x)⟩
theorem zdM {C gl v0 v1 h x K}:NW C gl vM.body ⟨enter [v0,v1],h,x⟩ K=JR C gl v0 v1 h x K:=by kernel_rfl
def z7i:ACode:=(.seq (rg [mV 6 cF] [0,1,2])
(.seq (rg [mV 7 1,
mV 8 0,
bN 9 .leq 7 8,
mV 10 9,
gD 11 10 true (.mv 0),
gD 12 10 true (.mv 2),
gD 13 10 true (.bin .leq 11 12),
uO 14 (.pick 10 13 cF),
mV 6 14] [6])
.ret))
def qQ:AFun:=⟨3,[.t 6],z7i,false,false⟩
def ER (C:Hd)(gl:GL)(v0 v1 v2:AV)(h:aA)(x:Esc)(K:KT):Prop:=
 pK (eA .leq v1 v0) fun t1=>
 gM t1 true v0 h fun t2 h3 y4=>
 gM t1 true v2 h3 fun t5 h6 y7=>
 gP t1 true (eA .leq t2 t5) h6 fun t8 h9 y10=>
 pK (MA t1 t8 (AB false)) fun t11=>
 K .ret ⟨[(6,t11)],h9,(y10++(y7++(y4++x)))⟩
theorem zdx {C gl v0 v1 v2 h x K}:NW C gl qQ.body ⟨enter [v0,v1,v2],h,x⟩ K=ER C gl v0 v1 v2 h x K:=by kernel_rfl
def gJ:ACode:=.pr [0,23,24] (.seq (rg [bN 25 .lss 24 23] [0,23,24,25])
(.seq (.cond 25 .skip
(.exit 0))
(.seq (.block 1 (.seq (rg [mV 26 24,
mV 3 26] [0,3,23,24])
(.seq (rg [mV 27 0,
mV 28 3,
uO 29 (.idxs 27 28),
mV 4 29] [0,4,23,24])
(.seq (rg [mV 30 4,
bN 31 .geq 30 (.c (.p (.int .u8 97))),
mV 32 31,
gD 33 32 true (.mv 4),
gD 34 32 true (.bin .leq 33 (.c (.p (.int .u8 122)))),
uO 35 (.pick 32 34 cF),
mV 36 35,
gD 37 36 false (.mv 4),
gD 38 36 false (.bin .geq 37 (.c (.p (.int .u8 48)))),
gD 39 36 false (.mv 38),
gD 40 39 true (.mv 4),
gD 41 39 true (.bin .leq 40 (.c (.p (.int .u8 57)))),
gD 42 36 false (.pick 39 41 cF),
uO 43 (.pick 36 cT 42),
mV 44 43,
gD 45 44 false (.mv 4),
gD 46 44 false (.bin .eql 45 (.c (.p (.int .u8 45)))),
uO 47 (.pick 44 cT 46),
mV 48 47,
gD 49 48 false (.mv 4),
gD 50 48 false (.bin .eql 49 (.c (.p (.int .u8 95)))),
uO 51 (.pick 48 cT 50),
uO 52 (.un .not 51)] [0,23,24,52])
(.cond 52 (.seq (rg [mV 2 cF] [2])
.ret)
.skip)))))
(rg [bN 53 .add 24 (cI 1),
mV 24 53] [0,23,24]))))
def sY (C:Hd)(gl:GL)(v0 v23 v24:AV)(h:aA)(x:Esc)(K:KT):Prop:=
 pK (eA .lss v24 v23) fun t1=>
 oA t1 (pK (zE v0 v24) fun t2=>
 pK (eA .geq t2 (.p (.int .u8 97))) fun t3=>
 gM t3 true t2 h fun t4 h5 y6=>
 gP t3 true (eA .leq t4 (.p (.int .u8 122))) h5 fun t7 h8 y9=>
 pK (MA t3 t7 (AB false)) fun t10=>
 gM t10 false t2 h8 fun t11 h12 y13=>
 gP t10 false (eA .geq t11 (.p (.int .u8 48))) h12 fun t14 h15 y16=>
 gM t10 false t14 h15 fun t17 h18 y19=>
 gM t17 true t2 h18 fun t20 h21 y22=>
 gP t17 true (eA .leq t20 (.p (.int .u8 57))) h21 fun t23 h24 y25=>
 gP t10 false (MA t17 t23 (AB false)) h24 fun t26 h27 y28=>
 pK (MA t10 (AB true) t26) fun t29=>
 gM t29 false t2 h27 fun t30 h31 y32=>
 gP t29 false (eA .eql t30 (.p (.int .u8 45))) h31 fun t33 h34 y35=>
 pK (MA t29 (AB true) t33) fun t36=>
 gM t36 false t2 h34 fun t37 h38 y39=>
 gP t36 false (eA .eql t37 (.p (.int .u8 95))) h38 fun t40 h41 y42=>
 pK (MA t36 (AB true) t40) fun t43=>
 pK (oUn .not t43) fun t44=>
 oA t44 (K .ret ⟨[(2,(AB false))],h41,(y42++(y39++(y35++(y32++(y28++(y25++(y22++(y19++(y16++(y13++(y9++(y6++x))))))))))))⟩)
 (pK (eA .add v24 (AI 1)) fun t45=>
 K .normal ⟨[(0,v0),(23,v23),(24,t45)],h41,(y42++(y39++(y35++(y32++(y28++(y25++(y22++(y19++(y16++(y13++(y9++(y6++x))))))))))))⟩))
 (K (.exit 0) ⟨[(0,v0),(23,v23),(24,v24),(25,t1)],h,x⟩)
theorem zbH {C gl e h x K}:NW C gl gJ ⟨e,h,x⟩ K=sY C gl (bA e 0) (bA e 23) (bA e 24) h x K:=by kernel_rfl
theorem zfN {C gl e h x K}:NW C gl (.loop gJ) ⟨e,h,x⟩ K=LA C gl gJ K [(0,bA e 0),(23,bA e 23),(24,bA e 24)] h x:=gC
def nO:ACode:=.pr [] (.seq (rg [mV 2 cT] [2])
.ret)
def tY (C:Hd)(gl:GL)(h:aA)(x:Esc)(K:KT):Prop:=
 K .ret ⟨[(2,(AB true))],h,x⟩
theorem zbI {C gl e h x K}:NW C gl nO ⟨e,h,x⟩ K=tY C gl h x K:=by kernel_rfl
def nV (q1 q2:ACode):ACode:=(.seq (rg [mV 2 cF] [0])
(.seq (.seq (rg [mV 5 0,
bN 6 .eql 5 (cS []),
mV 7 6,
gD 8 7 false (.mv 0),
gD 9 7 false (.lens 8),
gD 10 7 false (.bin .gtr 9 (cI 40)),
uO 11 (.pick 7 cT 10),
mV 12 11,
gD 13 12 false (.mv 0),
gD 14 12 false (.idxs 13 (cI 0)),
gD 15 12 false (.bin .lss 14 (.c (.p (.int .u8 97)))),
uO 16 (.pick 12 cT 15),
mV 17 16,
gD 18 17 false (.mv 0),
gD 19 17 false (.idxs 18 (cI 0)),
gD 20 17 false (.bin .gtr 19 (.c (.p (.int .u8 122)))),
uO 21 (.pick 17 cT 20)] [0,21])
(.cond 21 (.seq (rg [mV 2 cF] [2])
.ret)
.skip))
(.seq (.seq (rg [mV 22 0,
uO 23 (.lens 22),
mV 24 (cI 0)] [0,23,24])
(.block 0 (.loop q1)))
q2)))
def YL:AFun:=⟨1,[.t 2],nV gJ nO,false,false⟩
def bG (C:Hd)(gl:GL)(q1 q2:ACode)(v0:AV)(h:aA)(x:Esc)(K:KT):Prop:=
 pK (eA .eql v0 (.p (.str []))) fun t1=>
 gM t1 false v0 h fun t2 h3 y4=>
 gP t1 false (vG t2) h3 fun t5 h6 y7=>
 gP t1 false (eA .gtr t5 (AI 40)) h6 fun t8 h9 y10=>
 pK (MA t1 (AB true) t8) fun t11=>
 gM t11 false v0 h9 fun t12 h13 y14=>
 gP t11 false (zE t12 (AI 0)) h13 fun t15 h16 y17=>
 gP t11 false (eA .lss t15 (.p (.int .u8 97))) h16 fun t18 h19 y20=>
 pK (MA t11 (AB true) t18) fun t21=>
 gM t21 false v0 h19 fun t22 h23 y24=>
 gP t21 false (zE t22 (AI 0)) h23 fun t25 h26 y27=>
 gP t21 false (eA .gtr t25 (.p (.int .u8 122))) h26 fun t28 h29 y30=>
 pK (MA t21 (AB true) t28) fun t31=>
 oA t31 (K .ret ⟨[(2,(AB false))],h29,(y30++(y27++(y24++(y20++(y17++(y14++(y10++(y7++(y4++x)))))))))⟩)
 (pK (vG v0) fun t32=>
 NW C gl (.loop q1) ⟨[(0,v0),(23,t32),(24,(AI 0))],h29,(y30++(y27++(y24++(y20++(y17++(y14++(y10++(y7++(y4++x)))))))))⟩ (yA 0 (RA C gl q2 K)))
theorem z4E {C gl q1 q2 v0 h x K}:NW C gl (nV q1 q2) ⟨enter [v0],h,x⟩ K=bG C gl q1 q2 v0 h x K:=by kernel_rfl
theorem zbG {C gl v0 h x K}:NW C gl YL.body ⟨enter [v0],h,x⟩ K=bG C gl gJ nO v0 h x K:=z4E
def kJ:ACode:=.pr [1,13,14,15] (.seq (rg [bN 16 .lss 15 14] [1,13,14,15,16])
(.seq (.cond 16 .skip
(.exit 0))
(.seq (.block 1 (.seq (rg [iA 17 (some 4) 13 15,
lD 18 (some 4) 17,
uO 4 (.alloc [.p (.int .i64 0),.p (.str []),.p (.int .i64 0),.p (.int .i64 0)]),
wO (.store (some 4) 4 18)] [1,4,13,14,15])
(.seq (rg [lD 19 (some 2) 1,
lD 20 (some 4) 4,
cL 21 YG [19,20],
mV 5 21] [1,5,13,14,15])
(.seq (rg [mV 22 5,
bN 23 .neq 22 (cI 0)] [1,5,13,14,15,23])
(.cond 23 (.seq (rg [mV 24 5,
mV 2 24] [2])
.ret)
.skip)))))
(rg [bN 25 .add 15 (cI 1),
mV 15 25] [1,13,14,15]))))
def zY (C:Hd)(gl:GL)(v1 v13 v14 v15:AV)(h:aA)(x:Esc)(K:KT):Prop:=
 pK (eA .lss v15 v14) fun t1=>
 oA t1 (pK (uA (some 4) v13 v15 h) fun t2=>
 pK (lA (some 4) t2 h) fun t3=>
 alK [.p (.int .i64 0),.p (.str []),.p (.int .i64 0),.p (.int .i64 0)] h fun t4 h5 y6=>
 wK (NA (some 4) t4 t3 h5) fun t7 h8 y9=>
 pK (lA (some 2) v1 h8) fun t10=>
 pK (lA (some 4) t4 h8) fun t11=>
 C YG [t10,t11] h8 fun t12 h13 y14=>
 pK (eA .neq t12 (AI 0)) fun t15=>
 oA t15 (K .ret ⟨[(2,t12)],h13,(y14++(y9++(y6++x)))⟩)
 (pK (eA .add v15 (AI 1)) fun t16=>
 K .normal ⟨[(1,v1),(13,v13),(14,v14),(15,t16)],h13,(y14++(y9++(y6++x)))⟩))
 (K (.exit 0) ⟨[(1,v1),(13,v13),(14,v14),(15,v15),(16,t1)],h,x⟩)
theorem zbU {C gl e h x K}:NW C gl kJ ⟨e,h,x⟩ K=zY C gl (bA e 1) (bA e 13) (bA e 14) (bA e 15) h x K:=by kernel_rfl
theorem zfR {C gl e h x K}:NW C gl (.loop (.scope kJ)) ⟨e,h,x⟩ K=LA C gl (.scope kJ) K [(1,bA e 1),(13,bA e 13),(14,bA e 14),(15,bA e 15)] h x:=MB
def fL:ACode:=.pr [1,27,28,29] (.seq (rg [bN 30 .lss 29 28] [1,27,28,29,30])
(.seq (.cond 30 .skip
(.exit 2))
(.seq (.block 3 (.seq (rg [mV 31 29,
iA 32 (some 4) 27 29,
lD 33 (some 4) 32,
uO 7 (.alloc [.p (.int .i64 0),.p (.str []),.p (.int .i64 0),.p (.int .i64 0)]),
mV 6 31,
wO (.store (some 4) 7 33)] [1,6,7,27,28,29])
(.seq (rg [lD 34 (some 4) 7,
cL 35 RD [34],
mV 36 35,
gD 37 36 true (.faddr 1 none 1),
gD 38 36 true (.load none 37),
gD 39 36 true (.mv 6),
gD 40 36 true (.slice (some 4) 38 none (some 39) none),
gD 41 36 true (.mkfn jG [7]),
gD 42 36 true (.call VC [40,41]),
uO 43 (.pick 36 42 cF)] [1,27,28,29,43])
(.cond 43 (.seq (rg [mV 2 (cI 6)] [2])
.ret)
.skip))))
(rg [bN 44 .add 29 (cI 1),
mV 29 44] [1,27,28,29]))))
def AY (C:Hd)(gl:GL)(v1 v27 v28 v29:AV)(h:aA)(x:Esc)(K:KT):Prop:=
 pK (eA .lss v29 v28) fun t1=>
 oA t1 (pK (uA (some 4) v27 v29 h) fun t2=>
 pK (lA (some 4) t2 h) fun t3=>
 alK [.p (.int .i64 0),.p (.str []),.p (.int .i64 0),.p (.int .i64 0)] h fun t4 h5 y6=>
 wK (NA (some 4) t4 t3 h5) fun t7 h8 y9=>
 pK (lA (some 4) t4 h8) fun t10=>
 C RD [t10] h8 fun t11 h12 y13=>
 gP t11 true (nA 1 none v1) h12 fun t14 h15 y16=>
 gP t11 true (lA none t14 h15) h15 fun t17 h18 y19=>
 gM t11 true v29 h18 fun t20 h21 y22=>
 gP t11 true (jE (some 4) t17 none (some t20) none h21) h21 fun t23 h24 y25=>
 gM t11 true (.fn jG [t4]) h24 fun t26 h27 y28=>
 gV t11 true h27 (C VC [t23,t26] h27) fun t29 h30 y31=>
 pK (MA t11 t29 (AB false)) fun t32=>
 oA t32 (K .ret ⟨[(2,(AI 6))],h30,(y31++(y28++(y25++(y22++(y19++(y16++(y13++(y9++(y6++x)))))))))⟩)
 (pK (eA .add v29 (AI 1)) fun t33=>
 K .normal ⟨[(1,v1),(27,v27),(28,v28),(29,t33)],h30,(y31++(y28++(y25++(y22++(y19++(y16++(y13++(y9++(y6++x)))))))))⟩))
 (K (.exit 2) ⟨[(1,v1),(27,v27),(28,v28),(29,v29),(30,t1)],h,x⟩)
theorem zbV {C gl e h x K}:NW C gl fL ⟨e,h,x⟩ K=AY C gl (bA e 1) (bA e 27) (bA e 28) (bA e 29) h x K:=by kernel_rfl
theorem zfS {C gl e h x K}:NW C gl (.loop (.scope fL)) ⟨e,h,x⟩ K=LA C gl (.scope fL) K [(1,bA e 1),(27,bA e 27),(28,bA e 28),(29,bA e 29)] h x:=MB
def mT:ACode:=.pr [] (.seq (rg [mV 2 (cI 0)] [2])
.ret)
def BY (C:Hd)(gl:GL)(h:aA)(x:Esc)(K:KT):Prop:=
 K .ret ⟨[(2,(AI 0))],h,x⟩
theorem zbW {C gl e h x K}:NW C gl mT ⟨e,h,x⟩ K=BY C gl h x K:=by kernel_rfl
def sV (q2 q3:ACode):ACode:=.pr [1] (.seq (.seq (rg [fA 26 1 none 1,
lD 27 none 26,
lN 28 27,
mV 29 (cI 0)] [1,27,28,29])
(.block 2 (.loop (.scope q2))))
q3)
def gL:ACode:=sV fL mT
def rK (C:Hd)(gl:GL)(q2 q3:ACode)(v1:AV)(h:aA)(x:Esc)(K:KT):Prop:=
 pK (nA 1 none v1) fun t1=>
 pK (lA none t1 h) fun t2=>
 pK (AA t2) fun t3=>
 NW C gl (.loop (.scope q2)) ⟨[(1,v1),(27,t2),(28,t3),(29,(AI 0))],h,x⟩ (yA 2 (RA C gl q3 K))
theorem z4J {C gl q2 q3 e h x K}:NW C gl (sV q2 q3) ⟨e,h,x⟩ K=rK C gl q2 q3 (bA e 1) h x K:=by kernel_rfl
theorem bS {C gl e h x K}:NW C gl gL ⟨e,h,x⟩ K=rK C gl fL mT (bA e 1) h x K:=z4J
def rV (q1 q4:ACode):ACode:=(.seq (rg [uO 1 (.box 0),
mV 2 (cI 0)] [1])
(.seq (.seq (rg [fA 8 1 none 1,
lD 9 none 8,
lN 10 9,
bN 11 .gtr 10 (cI 200)] [1,11])
(.cond 11 (.seq (rg [mV 2 (cI 2)] [2])
.ret)
.skip))
(.seq (.seq (rg [fA 12 1 none 1,
lD 13 none 12,
lN 14 13,
mV 15 (cI 0)] [1,13,14,15])
(.block 0 (.loop (.scope q1))))
q4)))
def eM:AFun:=⟨1,[.t 2],rV kJ gL,false,false⟩
def qK (C:Hd)(gl:GL)(q1 q4:ACode)(v0:AV)(h:aA)(x:Esc)(K:KT):Prop:=
 wK (uB v0 h) fun t1 h2 y3=>
 pK (nA 1 none t1) fun t4=>
 pK (lA none t4 h2) fun t5=>
 pK (AA t5) fun t6=>
 pK (eA .gtr t6 (AI 200)) fun t7=>
 oA t7 (K .ret ⟨[(2,(AI 2))],h2,(y3++x)⟩)
 (pK (nA 1 none t1) fun t8=>
 pK (lA none t8 h2) fun t9=>
 pK (AA t9) fun t10=>
 NW C gl (.loop (.scope q1)) ⟨[(1,t1),(13,t9),(14,t10),(15,(AI 0))],h2,(y3++x)⟩ (yA 0 (RA C gl q4 K)))
theorem z4I {C gl q1 q4 v0 h x K}:NW C gl (rV q1 q4) ⟨enter [v0],h,x⟩ K=qK C gl q1 q4 v0 h x K:=by kernel_rfl
theorem zbT {C gl v0 h x K}:NW C gl eM.body ⟨enter [v0],h,x⟩ K=qK C gl kJ gL v0 h x K:=z4I
def lJ:ACode:=.pr [1,14,15,16] (.seq (rg [bN 17 .lss 16 15] [1,14,15,16,17])
(.seq (.cond 17 .skip
(.exit 0))
(.seq (.block 1 (.seq (rg [mV 18 16,
iA 19 (some 3) 14 16,
lD 20 (some 3) 19,
uO 4 (.alloc [.p (.str []),.p (.str []),.p (.str [])]),
mV 3 18,
wO (.store (some 3) 4 20)] [1,3,4,14,15,16])
(.block 2 (.seq (rg [fA 22 0 none 4,
lD 23 none 22,
cL 24 NC [23],
uO 25 (.un .not 24),
mV 21 25] [1,3,4,14,15,16,21])
(.cond 21 (.seq (rg [mV 2 (cI 5)] [2])
.ret)
(.seq (rg [lD 27 (some 3) 1,
fA 28 1 none 4,
lD 29 none 28,
fA 30 2 none 4,
lD 31 none 30,
cL 32 cH [27,29,31],
uO 33 (.un .not 32),
mV 26 33] [1,3,4,14,15,16,26])
(.cond 26 (.seq (rg [mV 2 (cI 8)] [2])
.ret)
(.seq (dr [dF (mV 35 3) [3],
dF (bN 36 .gtr 35 (cI 0)) [35],
dF (mV 37 36) [36],
dF (gD 38 37 true (.load (some 3) 4)) [4,37],
dF (gD 39 37 true (.faddr 1 none 1)) [1,37],
dF (gD 40 37 true (.load none 39)) [39,37],
dF (gD 41 37 true (.mv 3)) [3,37],
dF (gD 42 37 true (.bin .sub 41 (cI 1))) [41,37],
dF (gD 43 37 true (.iaddr (some 3) 40 42)) [40,42,37],
dF (gD 44 37 true (.load (some 3) 43)) [43,37],
dT (gD 45 37 true (.call XG [38,44])) [38,44,37],
dF (gD 46 37 true (.bin .leq 45 (cI 0))) [45,37],
dF (uO 47 (.pick 37 46 cF)) [37,46],
dF (mV 34 47) [47]] [1,14,15,16,34])
(.cond 34 (.seq (rg [mV 2 (cI 7)] [2])
.ret)
.skip)))))))))
(rg [bN 48 .add 16 (cI 1),
mV 16 48] [1,14,15,16]))))
def CY (C:Hd)(gl:GL)(v1 v14 v15 v16:AV)(h:aA)(x:Esc)(K:KT):Prop:=
 pK (eA .lss v16 v15) fun t1=>
 oA t1 (pK (uA (some 3) v14 v16 h) fun t2=>
 pK (lA (some 3) t2 h) fun t3=>
 alK [.p (.str []),.p (.str []),.p (.str [])] h fun t4 h5 y6=>
 wK (NA (some 3) t4 t3 h5) fun t7 h8 y9=>
 pK (nA 0 none t4) fun t10=>
 pK (lA none t10 h8) fun t11=>
 C NC [t11] h8 fun t12 h13 y14=>
 pK (oUn .not t12) fun t15=>
 oA t15 (K .ret ⟨[(2,(AI 5))],h13,(y14++(y9++(y6++x)))⟩)
 (pK (lA (some 3) v1 h13) fun t16=>
 pK (nA 1 none t4) fun t17=>
 pK (lA none t17 h13) fun t18=>
 pK (nA 2 none t4) fun t19=>
 pK (lA none t19 h13) fun t20=>
 C cH [t16,t18,t20] h13 fun t21 h22 y23=>
 pK (oUn .not t21) fun t24=>
 oA t24 (K .ret ⟨[(2,(AI 8))],h22,(y23++(y14++(y9++(y6++x))))⟩)
 (pK (eA .gtr v16 (AI 0)) fun t25=>
 gP t25 true (lA (some 3) t4 h22) h22 fun t26 h27 y28=>
 gP t25 true (nA 1 none v1) h27 fun t29 h30 y31=>
 gP t25 true (lA none t29 h30) h30 fun t32 h33 y34=>
 gM t25 true v16 h33 fun t35 h36 y37=>
 gP t25 true (eA .sub t35 (AI 1)) h36 fun t38 h39 y40=>
 gP t25 true (uA (some 3) t32 t38 h39) h39 fun t41 h42 y43=>
 gP t25 true (lA (some 3) t41 h42) h42 fun t44 h45 y46=>
 gV t25 true h45 (FB C XG [t26,t44] h45) fun t47 h48 y49=>
 gP t25 true (eA .leq t47 (AI 0)) h48 fun t50 h51 y52=>
 pK (MA t25 t50 (AB false)) fun t53=>
 oA t53 (K .ret ⟨[(2,(AI 7))],h51,(y52++(y49++(y46++(y43++(y40++(y37++(y34++(y31++(y28++(y23++(y14++(y9++(y6++x)))))))))))))⟩)
 (pK (eA .add v16 (AI 1)) fun t54=>
 K .normal ⟨[(1,v1),(14,v14),(15,v15),(16,t54)],h51,(y52++(y49++(y46++(y43++(y40++(y37++(y34++(y31++(y28++(y23++(y14++(y9++(y6++x)))))))))))))⟩))))
 (K (.exit 0) ⟨[(1,v1),(14,v14),(15,v15),(16,v16),(17,t1)],h,x⟩)
theorem zcc {C gl e h x K}:NW C gl lJ ⟨e,h,x⟩ K=CY C gl (bA e 1) (bA e 14) (bA e 15) (bA e 16) h x K:=by kernel_rfl
theorem zfT {C gl e h x K}:NW C gl (.loop (.scope lJ)) ⟨e,h,x⟩ K=LA C gl (.scope lJ) K [(1,bA e 1),(14,bA e 14),(15,bA e 15),(16,bA e 16)] h x:=MB
def iL:ACode:=.pr [5,51,52,53] (.seq (rg [bN 54 .lss 53 52] [5,51,52,53,54])
(.seq (.cond 54 .skip
(.exit 3))
(.seq (.block 4 (.seq (rg [iA 55 (some 3) 51 53,
lD 56 (some 3) 55,
uO 7 (.alloc [.p (.str []),.p (.str []),.p (.str [])]),
wO (.store (some 3) 7 56)] [5,7,51,52,53])
(.seq (rg [fA 57 1 none 7,
lD 58 none 57,
fA 59 2 none 7,
lD 60 none 59,
uO 61 (.build [.p (.str []),.p (.str [])] [(0,1,58),(1,1,60)]),
uO 8 (.alloc [.p (.str []),.p (.str [])]),
wO (.store (some 2) 8 61)] [5,8,51,52,53])
(.seq (.seq (rg [mV 62 5,
lD 63 (some 2) 8,
uO 64 (.look ((some 2),[2,2]) false (AB false) 62 63)] [5,8,51,52,53,64])
(.cond 64 (.seq (rg [mV 2 (cI 6)] [2])
.ret)
.skip))
(rg [mV 65 5,
lD 66 (some 2) 8,
wO (.mupd ((some 2),[2,2]) 65 66 cT)] [5,51,52,53])))))
(rg [bN 67 .add 53 (cI 1),
mV 53 67] [5,51,52,53]))))
def DY (C:Hd)(gl:GL)(v5 v51 v52 v53:AV)(h:aA)(x:Esc)(K:KT):Prop:=
 pK (eA .lss v53 v52) fun t1=>
 oA t1 (pK (uA (some 3) v51 v53 h) fun t2=>
 pK (lA (some 3) t2 h) fun t3=>
 alK [.p (.str []),.p (.str []),.p (.str [])] h fun t4 h5 y6=>
 wK (NA (some 3) t4 t3 h5) fun t7 h8 y9=>
 pK (nA 1 none t4) fun t10=>
 pK (lA none t10 h8) fun t11=>
 pK (nA 2 none t4) fun t12=>
 pK (lA none t12 h8) fun t13=>
 pK (vB [.p (.str []),.p (.str [])] [(0,1,t11),(1,1,t13)]) fun t14=>
 alK [.p (.str []),.p (.str [])] h8 fun t15 h16 y17=>
 wK (NA (some 2) t15 t14 h16) fun t18 h19 y20=>
 pK (lA (some 2) t15 h19) fun t21=>
 pK (kB ((some 2),[2,2]) false (AB false) v5 t21 h19) fun t22=>
 oA t22 (K .ret ⟨[(2,(AI 6))],h19,(y20++(y17++(y9++(y6++x))))⟩)
 (pK (lA (some 2) t15 h19) fun t23=>
 wK (BB ((some 2),[2,2]) v5 t23 (AB true) h19) fun t24 h25 y26=>
 pK (eA .add v53 (AI 1)) fun t27=>
 K .normal ⟨[(5,v5),(51,v51),(52,v52),(53,t27)],h25,(y26++(y20++(y17++(y9++(y6++x)))))⟩))
 (K (.exit 3) ⟨[(5,v5),(51,v51),(52,v52),(53,v53),(54,t1)],h,x⟩)
theorem zcd {C gl e h x K}:NW C gl iL ⟨e,h,x⟩ K=DY C gl (bA e 5) (bA e 51) (bA e 52) (bA e 53) h x K:=by kernel_rfl
theorem zfU {C gl e h x K}:NW C gl (.loop (.scope iL)) ⟨e,h,x⟩ K=LA C gl (.scope iL) K [(5,bA e 5),(51,bA e 51),(52,bA e 52),(53,bA e 53)] h x:=MB
def nT:ACode:=.pr [] (.seq (rg [mV 2 (cI 0)] [2])
.ret)
def EY (C:Hd)(gl:GL)(h:aA)(x:Esc)(K:KT):Prop:=
 K .ret ⟨[(2,(AI 0))],h,x⟩
theorem zce {C gl e h x K}:NW C gl nT ⟨e,h,x⟩ K=EY C gl h x K:=by kernel_rfl
def uV (q2 q3:ACode):ACode:=.pr [1] (.seq (rg [uO 49 (.mkmap),
mV 5 49] [1,5])
(.seq (.seq (rg [fA 50 1 none 1,
lD 51 none 50,
lN 52 51,
mV 53 (cI 0)] [5,51,52,53])
(.block 3 (.loop (.scope q2))))
q3))
def jL:ACode:=uV iL nT
def kI (C:Hd)(gl:GL)(q2 q3:ACode)(v1:AV)(h:aA)(x:Esc)(K:KT):Prop:=
 mmK h fun t1 h2 y3=>
 pK (nA 1 none v1) fun t4=>
 pK (lA none t4 h2) fun t5=>
 pK (AA t5) fun t6=>
 NW C gl (.loop (.scope q2)) ⟨[(5,t1),(51,t5),(52,t6),(53,(AI 0))],h2,(y3++x)⟩ (yA 3 (RA C gl q3 K))
theorem z4L {C gl q2 q3 e h x K}:NW C gl (uV q2 q3) ⟨e,h,x⟩ K=kI C gl q2 q3 (bA e 1) h x K:=by kernel_rfl
theorem GN {C gl e h x K}:NW C gl jL ⟨e,h,x⟩ K=kI C gl iL nT (bA e 1) h x K:=z4L
def tV (q1 q4:ACode):ACode:=(.seq (rg [uO 1 (.box 0),
mV 2 (cI 0)] [1])
(.seq (.seq (rg [fA 9 1 none 1,
lD 10 none 9,
lN 11 10,
bN 12 .gtr 11 (cI 1000)] [1,12])
(.cond 12 (.seq (rg [mV 2 (cI 2)] [2])
.ret)
.skip))
(.seq (.seq (rg [fA 13 1 none 1,
lD 14 none 13,
lN 15 14,
mV 16 (cI 0)] [1,14,15,16])
(.block 0 (.loop (.scope q1))))
q4)))
def mM:AFun:=⟨1,[.t 2],tV lJ jL,false,false⟩
def SM (C:Hd)(gl:GL)(q1 q4:ACode)(v0:AV)(h:aA)(x:Esc)(K:KT):Prop:=
 wK (uB v0 h) fun t1 h2 y3=>
 pK (nA 1 none t1) fun t4=>
 pK (lA none t4 h2) fun t5=>
 pK (AA t5) fun t6=>
 pK (eA .gtr t6 (AI 1000)) fun t7=>
 oA t7 (K .ret ⟨[(2,(AI 2))],h2,(y3++x)⟩)
 (pK (nA 1 none t1) fun t8=>
 pK (lA none t8 h2) fun t9=>
 pK (AA t9) fun t10=>
 NW C gl (.loop (.scope q1)) ⟨[(1,t1),(14,t9),(15,t10),(16,(AI 0))],h2,(y3++x)⟩ (yA 0 (RA C gl q4 K)))
theorem z4K {C gl q1 q4 v0 h x K}:NW C gl (tV q1 q4) ⟨enter [v0],h,x⟩ K=SM C gl q1 q4 v0 h x K:=by kernel_rfl
theorem zcb {C gl v0 h x K}:NW C gl mM.body ⟨enter [v0],h,x⟩ K=SM C gl lJ jL v0 h x K:=z4K
def mJ:ACode:=.pr [3,7,8,9] (.seq (rg [bN 10 .lss 9 8] [3,7,8,9,10])
(.seq (.cond 10 .skip
(.exit 0))
(.seq (.block 1 (.seq (rg [iA 11 (some 3) 7 9,
lD 12 (some 3) 11,
uO 5 (.alloc [.p (.str []),.p (.str []),.p (.str [])]),
wO (.store (some 3) 5 12)] [3,5,7,8,9])
(rg [mV 13 3,
fA 14 0 none 5,
lD 15 none 14,
uO 16 (.bsl false none 1 (.str []) [(0,15)]),
uO 17 (.app none 13 16),
mV 3 17] [3,7,8,9])))
(rg [bN 18 .add 9 (cI 1),
mV 9 18] [3,7,8,9]))))
def FY (C:Hd)(gl:GL)(v3 v7 v8 v9:AV)(h:aA)(x:Esc)(K:KT):Prop:=
 pK (eA .lss v9 v8) fun t1=>
 oA t1 (pK (uA (some 3) v7 v9 h) fun t2=>
 pK (lA (some 3) t2 h) fun t3=>
 alK [.p (.str []),.p (.str []),.p (.str [])] h fun t4 h5 y6=>
 wK (NA (some 3) t4 t3 h5) fun t7 h8 y9=>
 pK (nA 0 none t4) fun t10=>
 pK (lA none t10 h8) fun t11=>
 wK (ZA false none 1 (.str []) [(0,t11)] h8) fun t12 h13 y14=>
 wK (DD none v3 t12 h13) fun t15 h16 y17=>
 pK (eA .add v9 (AI 1)) fun t18=>
 K .normal ⟨[(3,t15),(7,v7),(8,v8),(9,t18)],h16,(y17++(y14++(y9++(y6++x))))⟩)
 (K (.exit 0) ⟨[(3,v3),(7,v7),(8,v8),(9,v9),(10,t1)],h,x⟩)
theorem zcg {C gl e h x K}:NW C gl mJ ⟨e,h,x⟩ K=FY C gl (bA e 3) (bA e 7) (bA e 8) (bA e 9) h x K:=by kernel_rfl
theorem zfV {C gl e h x K}:NW C gl (.loop (.scope mJ)) ⟨e,h,x⟩ K=LA C gl (.scope mJ) K [(3,bA e 3),(7,bA e 7),(8,bA e 8),(9,bA e 9)] h x:=MB
def pO:ACode:=.pr [3] (.seq (rg [mV 19 3,
cL 20 XE [19],
mV 2 20] [2])
.ret)
def GY (C:Hd)(gl:GL)(v3:AV)(h:aA)(x:Esc)(K:KT):Prop:=
 C XE [v3] h fun t1 h2 y3=>
 K .ret ⟨[(2,t1)],h2,(y3++x)⟩
theorem zch {C gl e h x K}:NW C gl pO ⟨e,h,x⟩ K=GY C gl (bA e 3) h x K:=by kernel_rfl
def vV (q1 q2:ACode):ACode:=(.seq (rg [uO 1 (.box 0),
mV 2 (.c (.p (.sl none [])))] [1])
(.seq (rg [uO 3 (.new0 none)] [1,3])
(.seq (.seq (rg [fA 6 1 none 1,
lD 7 none 6,
lN 8 7,
mV 9 (cI 0)] [3,7,8,9])
(.block 0 (.loop (.scope q1))))
q2)))
def nM:AFun:=⟨1,[.t 2],vV mJ pO,false,true⟩
def TM (C:Hd)(gl:GL)(q1 q2:ACode)(v0:AV)(h:aA)(x:Esc)(K:KT):Prop:=
 wK (uB v0 h) fun t1 h2 y3=>
 nwK none h2 fun t4 h5 y6=>
 pK (nA 1 none t1) fun t7=>
 pK (lA none t7 h5) fun t8=>
 pK (AA t8) fun t9=>
 NW C gl (.loop (.scope q1)) ⟨[(3,t4),(7,t8),(8,t9),(9,(AI 0))],h5,(y6++(y3++x))⟩ (yA 0 (RA C gl q2 K))
theorem z4M {C gl q1 q2 v0 h x K}:NW C gl (vV q1 q2) ⟨enter [v0],h,x⟩ K=TM C gl q1 q2 v0 h x K:=by kernel_rfl
theorem zcf {C gl v0 h x K}:NW C gl nM.body ⟨enter [v0],h,x⟩ K=TM C gl mJ pO v0 h x K:=z4M
def z6c:ACode:=(.seq (rg [mV 6 cF] [0,1,2])
(.seq (rg [mV 7 0,
mV 8 1,
bN 9 .lss 7 8,
mV 10 9,
gD 11 10 false (.mv 0),
gD 12 10 false (.mv 2),
gD 13 10 false (.bin .gtr 11 12),
uO 14 (.pick 10 cT 13),
mV 6 14] [6])
.ret))
def ZL:AFun:=⟨3,[.t 6],z6c,false,false⟩
def YQ (C:Hd)(gl:GL)(v0 v1 v2:AV)(h:aA)(x:Esc)(K:KT):Prop:=
 pK (eA .lss v0 v1) fun t1=>
 gM t1 false v0 h fun t2 h3 y4=>
 gM t1 false v2 h3 fun t5 h6 y7=>
 gP t1 false (eA .gtr t2 t5) h6 fun t8 h9 y10=>
 pK (MA t1 (AB true) t8) fun t11=>
 K .ret ⟨[(6,t11)],h9,(y10++(y7++(y4++x)))⟩
theorem zbJ {C gl v0 v1 v2 h x K}:NW C gl ZL.body ⟨enter [v0,v1,v2],h,x⟩ K=YQ C gl v0 v1 v2 h x K:=by kernel_rfl
def z6X:ACode:=(.seq (rg [mV 6 (cI 0)] [0,1,2])
(.seq (.seq (rg [mV 7 2,
mV 8 1,
bN 9 .lss 7 8] [0,1,2,9])
(.cond 9 (.seq (rg [mV 10 1,
mV 6 10] [6])
.ret)
.skip))
(.seq (rg [mV 11 1,
mV 12 0,
mV 13 2,
mV 14 1,
bN 15 .sub 13 14,
bN 16 .add 15 (cI 1),
cL 17 zB [12,16],
bN 18 .add 11 17,
mV 6 18] [6])
.ret)))
def YP:AFun:=⟨3,[.t 6],z6X,false,false⟩
def wR (C:Hd)(gl:GL)(v0 v1 v2:AV)(h:aA)(x:Esc)(K:KT):Prop:=
 pK (eA .lss v2 v1) fun t1=>
 oA t1 (K .ret ⟨[(6,v1)],h,x⟩)
 (pK (eA .sub v2 v1) fun t2=>
 pK (eA .add t2 (AI 1)) fun t3=>
 C zB [v0,t3] h fun t4 h5 y6=>
 pK (eA .add v1 t4) fun t7=>
 K .ret ⟨[(6,t7)],h5,(y6++x)⟩)
theorem zcR {C gl v0 v1 v2 h x K}:NW C gl YP.body ⟨enter [v0,v1,v2],h,x⟩ K=wR C gl v0 v1 v2 h x K:=by kernel_rfl
def z7k:ACode:=(.seq (rg [mV 4 cF] [0,1])
(.seq (rg [mV 5 0,
mV 6 1,
cL 7 mH [5,6],
bN 8 .geq 7 (cI 0),
mV 4 8] [4])
.ret))
def uM:AFun:=⟨2,[.t 4],z7k,true,false⟩
def tN (C:Hd)(gl:GL)(v0 v1:AV)(h:aA)(x:Esc)(K:KT):Prop:=
 C mH [v0,v1] h fun t1 h2 y3=>
 pK (eA .geq t1 (AI 0)) fun t4=>
 K .ret ⟨[(4,t4)],h2,(y3++x)⟩
theorem zdJ {C gl v0 v1 h x K}:NW C gl uM.body ⟨enter [v0,v1],h,x⟩ K=tN C gl v0 v1 h x K:=by kernel_rfl
def z6Z:ACode:=(.seq (rg [uO 2 (.box 0),
mV 3 cF] [1,2])
(.seq (rg [fA 4 0 none 2,
lD 5 none 4,
fA 6 0 none 1,
lD 7 none 6,
bN 8 .eql 5 7,
mV 9 8,
gD 10 9 true (.faddr 1 none 2),
gD 11 9 true (.load none 10),
gD 12 9 true (.faddr 1 none 1),
gD 13 9 true (.load none 12),
gD 14 9 true (.bin .eql 11 13),
uO 15 (.pick 9 14 cF),
mV 3 15] [3])
.ret))
def cQ:AFun:=⟨2,[.t 3],z6Z,false,false⟩
def nN (C:Hd)(gl:GL)(v0 v1:AV)(h:aA)(x:Esc)(K:KT):Prop:=
 wK (uB v0 h) fun t1 h2 y3=>
 pK (nA 0 none t1) fun t4=>
 pK (lA none t4 h2) fun t5=>
 pK (nA 0 none v1) fun t6=>
 pK (lA none t6 h2) fun t7=>
 pK (eA .eql t5 t7) fun t8=>
 gP t8 true (nA 1 none t1) h2 fun t9 h10 y11=>
 gP t8 true (lA none t9 h10) h10 fun t12 h13 y14=>
 gP t8 true (nA 1 none v1) h13 fun t15 h16 y17=>
 gP t8 true (lA none t15 h16) h16 fun t18 h19 y20=>
 gP t8 true (eA .eql t12 t18) h19 fun t21 h22 y23=>
 pK (MA t8 t21 (AB false)) fun t24=>
 K .ret ⟨[(3,t24)],h22,(y23++(y20++(y17++(y14++(y11++(y3++x))))))⟩
theorem zdf {C gl v0 v1 h x K}:NW C gl cQ.body ⟨enter [v0,v1],h,x⟩ K=nN C gl v0 v1 h x K:=by kernel_rfl
def IJ:ACode:=.pr [0,3,7,8] (.seq (rg [bN 9 .lss 8 7] [0,3,7,8,9])
(.seq (.cond 9 .skip
(.exit 0))
(.seq (.block 1 (.seq (rg [mV 10 8,
mV 5 10] [0,3,5,7,8])
(.seq (dr [dF (lD 11 (some 2) 3) [3],
dF (mV 12 0) [0],
dF (mV 13 5) [5],
dF (iA 14 (some 2) 12 13) [12,13],
dF (lD 15 (some 2) 14) [14],
dF (uO 16 (.eqa [2,2] false 11 15)) [11,15]] [0,3,5,7,8,16])
(.cond 16 (.seq (rg [mV 17 5,
mV 4 17] [4])
.ret)
.skip))))
(rg [bN 18 .add 8 (cI 1),
mV 8 18] [0,3,7,8]))))
def EZ (C:Hd)(gl:GL)(v0 v3 v7 v8:AV)(h:aA)(x:Esc)(K:KT):Prop:=
 pK (eA .lss v8 v7) fun t1=>
 oA t1 (pK (lA (some 2) v3 h) fun t2=>
 pK (uA (some 2) v0 v8 h) fun t3=>
 pK (lA (some 2) t3 h) fun t4=>
 pK (oEqa [2,2] false t2 t4) fun t5=>
 oA t5 (K .ret ⟨[(4,v8)],h,x⟩)
 (pK (eA .add v8 (AI 1)) fun t6=>
 K .normal ⟨[(0,v0),(3,v3),(7,v7),(8,t6)],h,x⟩))
 (K (.exit 0) ⟨[(0,v0),(3,v3),(7,v7),(8,v8),(9,t1)],h,x⟩)
theorem zdX {C gl e h x K}:NW C gl IJ ⟨e,h,x⟩ K=EZ C gl (bA e 0) (bA e 3) (bA e 7) (bA e 8) h x K:=by kernel_rfl
theorem zg0 {C gl e h x K}:NW C gl (.loop IJ) ⟨e,h,x⟩ K=LA C gl IJ K [(0,bA e 0),(3,bA e 3),(7,bA e 7),(8,bA e 8)] h x:=gC
def QO:ACode:=.pr [] (.seq (rg [mV 4 (cI (-1))] [4])
.ret)
def FZ (C:Hd)(gl:GL)(h:aA)(x:Esc)(K:KT):Prop:=
 K .ret ⟨[(4,(AI (-1)))],h,x⟩
theorem zdY {C gl e h x K}:NW C gl QO ⟨e,h,x⟩ K=FZ C gl h x K:=by kernel_rfl
def uW (q1 q2:ACode):ACode:=(.seq (rg [uO 3 (.box 1),
mV 4 (cI 0)] [0,3])
(.seq (.seq (rg [mV 6 0,
lN 7 6,
mV 8 (cI 0)] [0,3,7,8])
(.block 0 (.loop q1)))
q2))
def zQ:AFun:=⟨2,[.t 4],uW IJ QO,true,false⟩
def xN (C:Hd)(gl:GL)(q1 q2:ACode)(v0 v1:AV)(h:aA)(x:Esc)(K:KT):Prop:=
 wK (uB v1 h) fun t1 h2 y3=>
 pK (AA v0) fun t4=>
 NW C gl (.loop q1) ⟨[(0,v0),(3,t1),(7,t4),(8,(AI 0))],h2,(y3++x)⟩ (yA 0 (RA C gl q2 K))
theorem z5A {C gl q1 q2 v0 v1 h x K}:NW C gl (uW q1 q2) ⟨enter [v0,v1],h,x⟩ K=xN C gl q1 q2 v0 v1 h x K:=by kernel_rfl
theorem zdW {C gl v0 v1 h x K}:NW C gl zQ.body ⟨enter [v0,v1],h,x⟩ K=xN C gl IJ QO v0 v1 h x K:=z5A
def ST:ACode:=.pr [0,1,2,3,4,10,11,12,13] (.seq (.seq (dr [dF (mV 81 1) [1],
dF (bN 82 .gtr 81 (cI 0)) [81],
dF (mV 83 82) [82],
dF (gD 84 83 true (.mv 4)) [4,83],
dF (gD 85 83 true (.mv 0)) [0,83],
dF (gD 86 83 true (.mv 1)) [1,83],
dF (gD 87 83 true (.bin .sub 86 (cI 1))) [86,83],
dF (gD 88 83 true (.iaddr (some 3) 85 87)) [85,87,83],
dF (gD 89 83 true (.load (some 3) 88)) [88,83],
dF (gD 90 83 true (.mv 0)) [0,83],
dF (gD 91 83 true (.mv 13)) [13,83],
dF (gD 92 83 true (.iaddr (some 3) 90 91)) [90,91,83],
dF (gD 93 83 true (.load (some 3) 92)) [92,83],
dT (gD 94 83 true (.callv 84 [89,93])) [84,89,93,83],
dF (gD 95 83 true (.bin .lss 94 (cI 0))) [94,83],
dF (gD 96 83 true (.un .not 95)) [95,83],
dF (uO 97 (.pick 83 96 cF)) [83,96]] [0,1,2,3,4,10,11,12,13,97])
(.cond 97 (.seq (rg [mV 98 0,
mV 99 1,
mV 100 2,
mV 101 13,
mV 102 4,
cL 103 z0U [98,99,100,101,102],
mV 15 103] [0,2,3,4,10,11,15])
(.seq (rg [mV 104 15,
mV 1 104] [0,1,2,3,4,10,11])
(.exit 1)))
.skip))
(.seq (rg [mV 106 0,
mV 107 1,
mV 108 2,
mV 109 13,
mV 110 4,
cL 111 z0T [106,107,108,109,110],
mV 105 111,
eX 112 105 0,
eX 113 105 1,
mV 16 112,
mV 17 113] [0,1,2,3,4,12,16,17])
(.seq (rg [mV 114 17,
mV 11 114] [0,1,2,3,4,11,12,16])
(.seq (rg [mV 115 16,
mV 116 1,
bN 117 .sub 115 116,
mV 118 2,
mV 119 16,
bN 120 .sub 118 119,
mV 18 117,
mV 19 120] [0,1,2,3,4,11,12,16,18,19])
(.seq (rg [mV 121 12,
bN 122 .quo 121 (cI 8),
mV 20 122] [0,1,2,3,4,11,16,18,19,20])
(.seq (rg [mV 123 18,
mV 124 19,
bN 125 .lss 123 124] [0,1,2,3,4,11,16,18,19,20,125])
(.cond 125 (.seq (rg [mV 126 18,
mV 127 20,
bN 128 .geq 126 127,
mV 10 128] [0,1,2,3,4,10,11,16])
(.seq (rg [mV 129 0,
mV 130 1,
mV 131 16,
mV 132 3,
mV 133 4,
cL 134 ZE [129,130,131,132,133]] [0,2,3,4,10,11,16])
(rg [mV 135 16,
bN 136 .add 135 (cI 1),
mV 1 136] [0,1,2,3,4,10,11])))
(.seq (rg [mV 137 19,
mV 138 20,
bN 139 .geq 137 138,
mV 10 139] [0,1,2,3,4,10,11,16])
(.seq (rg [mV 140 0,
mV 141 16,
bN 142 .add 141 (cI 1),
mV 143 2,
mV 144 3,
mV 145 4,
cL 146 ZE [140,142,143,144,145]] [0,1,3,4,10,11,16])
(rg [mV 147 16,
mV 2 147] [0,1,2,3,4,10,11]))))))))))
def NZ (C:Hd)(gl:GL)(v0 v1 v2 v3 v4 v10 v11 v12 v13:AV)(h:aA)(x:Esc)(K:KT):Prop:=
 pK (eA .gtr v1 (AI 0)) fun t1=>
 gM t1 true v4 h fun t2 h3 y4=>
 gM t1 true v0 h3 fun t5 h6 y7=>
 gM t1 true v1 h6 fun t8 h9 y10=>
 gP t1 true (eA .sub t8 (AI 1)) h9 fun t11 h12 y13=>
 gP t1 true (uA (some 3) t5 t11 h12) h12 fun t14 h15 y16=>
 gP t1 true (lA (some 3) t14 h15) h15 fun t17 h18 y19=>
 gM t1 true v0 h18 fun t20 h21 y22=>
 gM t1 true v13 h21 fun t23 h24 y25=>
 gP t1 true (uA (some 3) t20 t23 h24) h24 fun t26 h27 y28=>
 gP t1 true (lA (some 3) t26 h27) h27 fun t29 h30 y31=>
 gV t1 true h30 (ZH C t2 [t17,t29] h30) fun t32 h33 y34=>
 gP t1 true (eA .lss t32 (AI 0)) h33 fun t35 h36 y37=>
 gP t1 true (oUn .not t35) h36 fun t38 h39 y40=>
 pK (MA t1 t38 (AB false)) fun t41=>
 oA t41 (C z0U [v0,v1,v2,v13,v4] h39 fun t42 h43 y44=>
 K (.exit 1) ⟨[(0,v0),(1,t42),(2,v2),(3,v3),(4,v4),(10,v10),(11,v11)],h43,(y44++(y40++(y37++(y34++(y31++(y28++(y25++(y22++(y19++(y16++(y13++(y10++(y7++(y4++x))))))))))))))⟩)
 (C z0T [v0,v1,v2,v13,v4] h39 fun t45 h46 y47=>
 pK (DC t45 0) fun t48=>
 pK (DC t45 1) fun t49=>
 pK (eA .sub t48 v1) fun t50=>
 pK (eA .sub v2 t48) fun t51=>
 pK (eA .quo v12 (AI 8)) fun t52=>
 pK (eA .lss t50 t51) fun t53=>
 oA t53 (pK (eA .geq t50 t52) fun t54=>
 C ZE [v0,v1,t48,v3,v4] h46 fun t55 h56 y57=>
 pK (eA .add t48 (AI 1)) fun t58=>
 K .normal ⟨[(0,v0),(1,t58),(2,v2),(3,v3),(4,v4),(10,t54),(11,t49)],h56,(y57++(y47++(y40++(y37++(y34++(y31++(y28++(y25++(y22++(y19++(y16++(y13++(y10++(y7++(y4++x)))))))))))))))⟩)
 (pK (eA .geq t51 t52) fun t59=>
 pK (eA .add t48 (AI 1)) fun t60=>
 C ZE [v0,t60,v2,v3,v4] h46 fun t61 h62 y63=>
 K .normal ⟨[(0,v0),(1,v1),(2,t48),(3,v3),(4,v4),(10,t59),(11,t49)],h62,(y63++(y47++(y40++(y37++(y34++(y31++(y28++(y25++(y22++(y19++(y16++(y13++(y10++(y7++(y4++x)))))))))))))))⟩))
theorem zeo {C gl e h x K}:NW C gl ST ⟨e,h,x⟩ K=NZ C gl (bA e 0) (bA e 1) (bA e 2) (bA e 3) (bA e 4) (bA e 10) (bA e 11) (bA e 12) (bA e 13) h x K:=by kernel_rfl
def CW (q1:ACode):ACode:=.pr [0,1,2,3,4,10,11,12,13,14] (.seq (.seq (rg [mV 68 10,
mV 69 68,
gD 70 69 true (.mv 11),
uO 71 (.pick 69 70 cF),
mV 72 71,
gD 73 72 true (.mv 14),
gD 74 72 true (.bin .eql 73 (cI 1)),
uO 75 (.pick 72 74 cF)] [0,1,2,3,4,10,11,12,13,75])
(.cond 75 (.seq (rg [mV 76 0,
mV 77 1,
mV 78 2,
mV 79 4,
cL 80 z0R [76,77,78,79]] [0,1,2,3,4,10,11,12,13,80])
(.cond 80 .ret
.skip))
.skip))
q1)
def TT:ACode:=CW ST
def OR (C:Hd)(gl:GL)(q1:ACode)(v0 v1 v2 v3 v4 v10 v11 v12 v13 v14:AV)(h:aA)(x:Esc)(K:KT):Prop:=
 gM v10 true v11 h fun t1 h2 y3=>
 pK (MA v10 t1 (AB false)) fun t4=>
 gM t4 true v14 h2 fun t5 h6 y7=>
 gP t4 true (eA .eql t5 (AI 1)) h6 fun t8 h9 y10=>
 pK (MA t4 t8 (AB false)) fun t11=>
 oA t11 (C z0R [v0,v1,v2,v4] h9 fun t12 h13 y14=>
 oA t12 (K .ret ⟨[(0,v0),(1,v1),(2,v2),(3,v3),(4,v4),(10,v10),(11,v11),(12,v12),(13,v13),(80,t12)],h13,(y14++(y10++(y7++(y3++x))))⟩)
 (NW C gl q1 ⟨[(0,v0),(1,v1),(2,v2),(3,v3),(4,v4),(10,v10),(11,v11),(12,v12),(13,v13),(80,t12)],h13,(y14++(y10++(y7++(y3++x))))⟩ K))
 (NW C gl q1 ⟨[(0,v0),(1,v1),(2,v2),(3,v3),(4,v4),(10,v10),(11,v11),(12,v12),(13,v13),(75,t11)],h9,(y10++(y7++(y3++x)))⟩ K)
theorem z5H {C gl q1 e h x K}:NW C gl (CW q1) ⟨e,h,x⟩ K=OR C gl q1 (bA e 0) (bA e 1) (bA e 2) (bA e 3) (bA e 4) (bA e 10) (bA e 11) (bA e 12) (bA e 13) (bA e 14) h x K:=by kernel_rfl
theorem zep {C gl e h x K}:NW C gl TT ⟨e,h,x⟩ K=OR C gl ST (bA e 0) (bA e 1) (bA e 2) (bA e 3) (bA e 4) (bA e 10) (bA e 11) (bA e 12) (bA e 13) (bA e 14) h x K:=z5H
def DW (q2:ACode):ACode:=.pr [0,1,2,3,4,10,11,12] (.seq (rg [mV 48 0,
mV 49 1,
mV 50 2,
mV 51 4,
cL 52 z0N [48,49,50,51],
mV 47 52,
eX 53 47 0,
eX 54 47 1,
mV 13 53,
mV 14 54] [0,1,2,3,4,10,11,12,13,14])
(.seq (.seq (rg [mV 55 14,
bN 56 .eql 55 (cI 2)] [0,1,2,3,4,10,11,12,13,14,56])
(.cond 56 (.seq (rg [mV 57 0,
mV 58 1,
mV 59 2,
mV 60 4,
cL 61 z0X [57,58,59,60]] [0,1,2,3,4,10,11,12,13])
(.seq (rg [mV 62 2,
bN 63 .sub 62 (cI 1),
mV 64 13,
mV 65 1,
bN 66 .sub 64 65,
bN 67 .sub 63 66,
mV 13 67] [0,1,2,3,4,10,11,12,13])
(rg [mV 14 (cI 1)] [0,1,2,3,4,10,11,12,13,14])))
.skip))
q2))
def UT:ACode:=DW TT
def PR (C:Hd)(gl:GL)(q2:ACode)(v0 v1 v2 v3 v4 v10 v11 v12:AV)(h:aA)(x:Esc)(K:KT):Prop:=
 C z0N [v0,v1,v2,v4] h fun t1 h2 y3=>
 pK (DC t1 0) fun t4=>
 pK (DC t1 1) fun t5=>
 pK (eA .eql t5 (AI 2)) fun t6=>
 oA t6 (C z0X [v0,v1,v2,v4] h2 fun t7 h8 y9=>
 pK (eA .sub v2 (AI 1)) fun t10=>
 pK (eA .sub t4 v1) fun t11=>
 pK (eA .sub t10 t11) fun t12=>
 NW C gl q2 ⟨[(0,v0),(1,v1),(2,v2),(3,v3),(4,v4),(10,v10),(11,v11),(12,v12),(13,t12),(14,(AI 1))],h8,(y9++(y3++x))⟩ K)
 (NW C gl q2 ⟨[(0,v0),(1,v1),(2,v2),(3,v3),(4,v4),(10,v10),(11,v11),(12,v12),(13,t4),(14,t5),(56,t6)],h2,(y3++x)⟩ K)
theorem z5I {C gl q2 e h x K}:NW C gl (DW q2) ⟨e,h,x⟩ K=PR C gl q2 (bA e 0) (bA e 1) (bA e 2) (bA e 3) (bA e 4) (bA e 10) (bA e 11) (bA e 12) h x K:=by kernel_rfl
theorem zeq {C gl e h x K}:NW C gl UT ⟨e,h,x⟩ K=PR C gl TT (bA e 0) (bA e 1) (bA e 2) (bA e 3) (bA e 4) (bA e 10) (bA e 11) (bA e 12) h x K:=z5I
def EW (q3:ACode):ACode:=.pr [0,1,2,3,4,10,11] (.block 1 (.seq (rg [mV 21 2,
mV 22 1,
bN 23 .sub 21 22,
mV 12 23] [0,1,2,3,4,10,11,12])
(.seq (.seq (rg [mV 24 12,
bN 25 .leq 24 (cI 12)] [0,1,2,3,4,10,11,12,25])
(.cond 25 (.seq (rg [mV 26 0,
mV 27 1,
mV 28 2,
mV 29 4,
cL 30 QI [26,27,28,29]] [])
.ret)
.skip))
(.seq (.seq (rg [mV 31 3,
bN 32 .eql 31 (cI 0)] [0,1,2,3,4,10,11,12,32])
(.cond 32 (.seq (rg [mV 33 0,
mV 34 1,
mV 35 2,
mV 36 4,
cL 37 z0P [33,34,35,36]] [])
.ret)
.skip))
(.seq (.seq (rg [mV 38 10,
uO 39 (.un .not 38)] [0,1,2,3,4,10,11,12,39])
(.cond 39 (.seq (rg [mV 40 0,
mV 41 1,
mV 42 2,
mV 43 4,
cL 44 z0L [40,41,42,43]] [0,1,2,3,4,10,11,12])
(rg [mV 45 3,
bN 46 .sub 45 (cI 1),
mV 3 46] [0,1,2,3,4,10,11,12]))
.skip))
q3)))))
def MJ:ACode:=EW UT
def QR (C:Hd)(gl:GL)(q3:ACode)(v0 v1 v2 v3 v4 v10 v11:AV)(h:aA)(x:Esc)(K:KT):Prop:=
 pK (eA .sub v2 v1) fun t1=>
 pK (eA .leq t1 (AI 12)) fun t2=>
 oA t2 (C QI [v0,v1,v2,v4] h fun t3 h4 y5=>
 K .ret ⟨[],h4,(y5++x)⟩)
 (pK (eA .eql v3 (AI 0)) fun t6=>
 oA t6 (C z0P [v0,v1,v2,v4] h fun t7 h8 y9=>
 K .ret ⟨[],h8,(y9++x)⟩)
 (pK (oUn .not v10) fun t10=>
 oA t10 (C z0L [v0,v1,v2,v4] h fun t11 h12 y13=>
 pK (eA .sub v3 (AI 1)) fun t14=>
 NW C gl q3 ⟨[(0,v0),(1,v1),(2,v2),(3,t14),(4,v4),(10,v10),(11,v11),(12,t1)],h12,(y13++x)⟩ (yA 1 K))
 (NW C gl q3 ⟨[(0,v0),(1,v1),(2,v2),(3,v3),(4,v4),(10,v10),(11,v11),(12,t1),(39,t10)],h,x⟩ (yA 1 K))))
theorem z5J {C gl q3 e h x K}:NW C gl (EW q3) ⟨e,h,x⟩ K=QR C gl q3 (bA e 0) (bA e 1) (bA e 2) (bA e 3) (bA e 4) (bA e 10) (bA e 11) h x K:=by kernel_rfl
theorem zer {C gl e h x K}:NW C gl MJ ⟨e,h,x⟩ K=QR C gl UT (bA e 0) (bA e 1) (bA e 2) (bA e 3) (bA e 4) (bA e 10) (bA e 11) h x K:=z5J
theorem zg6 {C gl e h x K}:NW C gl (.loop MJ) ⟨e,h,x⟩ K=LA C gl MJ K [(0,bA e 0),(1,bA e 1),(2,bA e 2),(3,bA e 3),(4,bA e 4),(10,bA e 10),(11,bA e 11)] h x:=gC
def BW (q4:ACode):ACode:=(.seq (rg [mV 10 cT] [0,1,2,3,4,10])
(.seq (rg [mV 11 cT] [0,1,2,3,4,10,11])
(.block 0 (.loop q4))))
def EQ:AFun:=⟨5,[],BW MJ,true,false⟩
def CN (C:Hd)(gl:GL)(q4:ACode)(v0 v1 v2 v3 v4:AV)(h:aA)(x:Esc)(K:KT):Prop:=
 NW C gl (.loop q4) ⟨[(0,v0),(1,v1),(2,v2),(3,v3),(4,v4),(10,(AB true)),(11,(AB true))],h,x⟩ (yA 0 K)
theorem z5G {C gl q4 v0 v1 v2 v3 v4 h x K}:NW C gl (BW q4) ⟨enter [v0,v1,v2,v3,v4],h,x⟩ K=CN C gl q4 v0 v1 v2 v3 v4 h x K:=by kernel_rfl
theorem zen {C gl v0 v1 v2 v3 v4 h x K}:NW C gl EQ.body ⟨enter [v0,v1,v2,v3,v4],h,x⟩ K=CN C gl MJ v0 v1 v2 v3 v4 h x K:=z5G
def z6O:ACode:=(.seq (rg [mV 2 (cI 0)] [0])
(.seq (.cond cF (.seq (rg [mV 3 0,
uO 4 (.conv (.i .u32) 3),
cL 5 z0E [4],
mV 2 5] [2])
.ret)
.skip)
(.seq (rg [mV 6 0,
cL 7 zI [6],
mV 2 7] [2])
.ret)))
def NP:AFun:=⟨1,[.t 2],z6O,false,false⟩
def jR (C:Hd)(gl:GL)(v0:AV)(h:aA)(x:Esc)(K:KT):Prop:=
 oA (AB false) (pK (ED .u32 v0) fun t1=>
 C z0E [t1] h fun t2 h3 y4=>
 K .ret ⟨[(2,t2)],h3,(y4++x)⟩)
 (C zI [v0] h fun t5 h6 y7=>
 K .ret ⟨[(2,t5)],h6,(y7++x)⟩)
theorem zcz {C gl v0 h x K}:NW C gl NP.body ⟨enter [v0],h,x⟩ K=jR C gl v0 h x K:=by kernel_rfl
def z6x:ACode:=(.seq (rg [mV 4 (cI 0)] [0,1])
(.seq (rg [mV 7 0,
cL 8 dE [7],
mV 5 8] [0,1,5])
(.seq (rg [mV 9 1,
cL 10 dE [9],
mV 6 10] [0,1,5,6])
(.seq (.seq (rg [mV 11 5] [0,1,6,11])
(.cond 11 (.seq (.seq (rg [mV 12 6] [12])
(.cond 12 (.seq (rg [mV 4 (cI 0)] [4])
.ret)
.skip))
(.seq (rg [mV 4 (cI (-1))] [4])
.ret))
.skip))
(.seq (.seq (rg [mV 13 6] [0,1,13])
(.cond 13 (.seq (rg [mV 4 (cI 1)] [4])
.ret)
.skip))
(.seq (.seq (rg [mV 14 0,
mV 15 1,
bN 16 .lss 14 15] [0,1,16])
(.cond 16 (.seq (rg [mV 4 (cI (-1))] [4])
.ret)
.skip))
(.seq (.seq (rg [mV 17 0,
mV 18 1,
bN 19 .gtr 17 18] [19])
(.cond 19 (.seq (rg [mV 4 (cI 1)] [4])
.ret)
.skip))
(.seq (rg [mV 4 (cI 0)] [4])
.ret))))))))
def JP:AFun:=⟨2,[.t 4],z6x,false,false⟩
def tK (C:Hd)(gl:GL)(v0 v1:AV)(h:aA)(x:Esc)(K:KT):Prop:=
 C dE [v0] h fun t1 h2 y3=>
 C dE [v1] h2 fun t4 h5 y6=>
 oA t1 (oA t4 (K .ret ⟨[(4,(AI 0))],h5,(y6++(y3++x))⟩)
 (K .ret ⟨[(4,(AI (-1)))],h5,(y6++(y3++x))⟩))
 (oA t4 (K .ret ⟨[(4,(AI 1))],h5,(y6++(y3++x))⟩)
 (pK (eA .lss v0 v1) fun t7=>
 oA t7 (K .ret ⟨[(4,(AI (-1)))],h5,(y6++(y3++x))⟩)
 (pK (eA .gtr v0 v1) fun t8=>
 oA t8 (K .ret ⟨[(4,(AI 1))],h5,(y6++(y3++x))⟩)
 (K .ret ⟨[(4,(AI 0))],h5,(y6++(y3++x))⟩))))
theorem zcr {C gl v0 v1 h x K}:NW C gl JP.body ⟨enter [v0,v1],h,x⟩ K=tK C gl v0 v1 h x K:=by kernel_rfl
def z7t:ACode:=(.seq (rg [mV 3 0,
lN 4 3,
mV 2 4] [0,2])
(rg [mV 5 0,
mV 6 2,
mV 7 2,
uO 8 (.conv (.i .u64) 7),
cL 9 mG [8],
cL 10 aF [5,(cI 0),6,9]] []))
def BQ:AFun:=⟨1,[],z7t,true,false⟩
def LR (C:Hd)(gl:GL)(v0:AV)(h:aA)(x:Esc)(K:KT):Prop:=
 pK (AA v0) fun t1=>
 pK (ED .u64 t1) fun t2=>
 C mG [t2] h fun t3 h4 y5=>
 C aF [v0,(AI 0),t1,t3] h4 fun t6 h7 y8=>
 K .normal ⟨[],h7,(y8++(y5++x))⟩
theorem zee {C gl v0 h x K}:NW C gl BQ.body ⟨enter [v0],h,x⟩ K=LR C gl v0 h x K:=by kernel_rfl
def NT:ACode:=.pr [0,3,4,5] (rg [mV 33 5,
bN 34 .add 33 (cI 1),
mV 5 34] [0,3,4,5])
def sZ (C:Hd)(gl:GL)(v0 v3 v4 v5:AV)(h:aA)(x:Esc)(K:KT):Prop:=
 pK (eA .add v5 (AI 1)) fun t1=>
 K .normal ⟨[(0,v0),(3,v3),(4,v4),(5,t1)],h,x⟩
theorem zdA {C gl e h x K}:NW C gl NT ⟨e,h,x⟩ K=sZ C gl (bA e 0) (bA e 3) (bA e 4) (bA e 5) h x K:=by kernel_rfl
def oW (q1:ACode):ACode:=.pr [0,3,4,5] (.seq (.seq (rg [mV 29 5,
mV 30 4,
lN 31 30,
bN 32 .lss 29 31] [0,3,4,5,32])
(.cond 32 .skip
(.exit 2)))
(.seq (.block 3 (.seq (dr [dF (mV 35 4) [4],
dF (mV 36 5) [5],
dF (iA 37 none 35 36) [35,36],
dF (lD 38 none 37) [37],
dF (mV 39 4) [4],
dF (mV 40 5) [5],
dF (bN 41 .sub 40 (cI 1)) [40],
dF (iA 42 none 39 41) [39,41],
dF (lD 43 none 42) [42],
dF (bN 44 .neq 38 43) [38,43]] [0,3,4,5,44])
(.cond 44 (.seq (rg [mV 45 0,
mV 46 3,
mV 47 4,
mV 48 5,
iA 49 none 47 48,
lD 50 none 49,
iA 51 none 45 46,
wO (.store none 51 50)] [0,3,4,5])
(rg [mV 52 3,
bN 53 .add 52 (cI 1),
mV 3 53] [0,3,4,5]))
.skip)))
q1))
def sL:ACode:=oW NT
def FR (C:Hd)(gl:GL)(q1:ACode)(v0 v3 v4 v5:AV)(h:aA)(x:Esc)(K:KT):Prop:=
 pK (AA v4) fun t1=>
 pK (eA .lss v5 t1) fun t2=>
 oA t2 (pK (uA none v4 v5 h) fun t3=>
 pK (lA none t3 h) fun t4=>
 pK (eA .sub v5 (AI 1)) fun t5=>
 pK (uA none v4 t5 h) fun t6=>
 pK (lA none t6 h) fun t7=>
 pK (eA .neq t4 t7) fun t8=>
 oA t8 (pK (uA none v4 v5 h) fun t9=>
 pK (lA none t9 h) fun t10=>
 pK (uA none v0 v3 h) fun t11=>
 wK (NA none t11 t10 h) fun t12 h13 y14=>
 pK (eA .add v3 (AI 1)) fun t15=>
 NW C gl q1 ⟨[(0,v0),(3,t15),(4,v4),(5,v5)],h13,(y14++x)⟩ K)
 (NW C gl q1 ⟨[(0,v0),(3,v3),(4,v4),(5,v5),(44,t8)],h,x⟩ K))
 (K (.exit 2) ⟨[(0,v0),(3,v3),(4,v4),(5,v5),(32,t2)],h,x⟩)
theorem z54 {C gl q1 e h x K}:NW C gl (oW q1) ⟨e,h,x⟩ K=FR C gl q1 (bA e 0) (bA e 3) (bA e 4) (bA e 5) h x K:=by kernel_rfl
theorem zdB {C gl e h x K}:NW C gl sL ⟨e,h,x⟩ K=FR C gl NT (bA e 0) (bA e 3) (bA e 4) (bA e 5) h x K:=z54
theorem zgu {C gl e h x K}:NW C gl (.loop sL) ⟨e,h,x⟩ K=LA C gl sL K [(0,bA e 0),(3,bA e 3),(4,bA e 4),(5,bA e 5)] h x:=gC
def OT:ACode:=.pr [0,3] (.seq (rg [mV 54 0,
mV 55 3,
uO 56 (.slice none 54 (some 55) none none),
wO (.clr none (.str []) 56)] [0,3])
(.seq (rg [mV 57 0,
mV 58 3,
uO 59 (.slice none 57 none (some 58) none),
mV 2 59] [2])
.ret))
def tZ (C:Hd)(gl:GL)(v0 v3:AV)(h:aA)(x:Esc)(K:KT):Prop:=
 pK (jE none v0 (some v3) none none h) fun t1=>
 wK (oClr none (.str []) t1 h) fun t2 h3 y4=>
 pK (jE none v0 none (some v3) none h3) fun t5=>
 K .ret ⟨[(2,t5)],h3,(y4++x)⟩
theorem zdC {C gl e h x K}:NW C gl OT ⟨e,h,x⟩ K=tZ C gl (bA e 0) (bA e 3) h x K:=by kernel_rfl
def PT:ACode:=.pr [0,3] (rg [mV 14 3,
bN 15 .add 14 (cI 1),
mV 3 15] [0,3])
def uZ (C:Hd)(gl:GL)(v0 v3:AV)(h:aA)(x:Esc)(K:KT):Prop:=
 pK (eA .add v3 (AI 1)) fun t1=>
 K .normal ⟨[(0,v0),(3,t1)],h,x⟩
theorem zdD {C gl e h x K}:NW C gl PT ⟨e,h,x⟩ K=uZ C gl (bA e 0) (bA e 3) h x K:=by kernel_rfl
def pW (q2 q3 q4:ACode):ACode:=.pr [0,3] (.seq (.seq (rg [mV 10 3,
mV 11 0,
lN 12 11,
bN 13 .lss 10 12] [0,3,13])
(.cond 13 .skip
(.exit 0)))
(.seq (.block 1 (.seq (dr [dF (mV 16 0) [0],
dF (mV 17 3) [3],
dF (iA 18 none 16 17) [16,17],
dF (lD 19 none 18) [18],
dF (mV 20 0) [0],
dF (mV 21 3) [3],
dF (bN 22 .sub 21 (cI 1)) [21],
dF (iA 23 none 20 22) [20,22],
dF (lD 24 none 23) [23],
dF (bN 25 .eql 19 24) [19,24]] [0,3,25])
(.cond 25 (.seq (rg [mV 26 0,
mV 27 3,
uO 28 (.slice none 26 (some 27) none none),
mV 4 28] [0,3,4])
(.seq (.seq (rg [mV 5 (cI 1)] [0,3,4,5])
(.block 2 (.loop q2)))
q3))
.skip)))
q4))
def DJ:ACode:=pW sL OT PT
def GR (C:Hd)(gl:GL)(q2 q3 q4:ACode)(v0 v3:AV)(h:aA)(x:Esc)(K:KT):Prop:=
 pK (AA v0) fun t1=>
 pK (eA .lss v3 t1) fun t2=>
 oA t2 (pK (uA none v0 v3 h) fun t3=>
 pK (lA none t3 h) fun t4=>
 pK (eA .sub v3 (AI 1)) fun t5=>
 pK (uA none v0 t5 h) fun t6=>
 pK (lA none t6 h) fun t7=>
 pK (eA .eql t4 t7) fun t8=>
 oA t8 (pK (jE none v0 (some v3) none none h) fun t9=>
 NW C gl (.loop q2) ⟨[(0,v0),(3,v3),(4,t9),(5,(AI 1))],h,x⟩ (yA 2 (RA C gl q3 (yA 1 (RA C gl q4 K)))))
 (NW C gl q4 ⟨[(0,v0),(3,v3),(25,t8)],h,x⟩ K))
 (K (.exit 0) ⟨[(0,v0),(3,v3),(13,t2)],h,x⟩)
theorem z55 {C gl q2 q3 q4 e h x K}:NW C gl (pW q2 q3 q4) ⟨e,h,x⟩ K=GR C gl q2 q3 q4 (bA e 0) (bA e 3) h x K:=by kernel_rfl
theorem zdE {C gl e h x K}:NW C gl DJ ⟨e,h,x⟩ K=GR C gl sL OT PT (bA e 0) (bA e 3) h x K:=z55
theorem zgv {C gl e h x K}:NW C gl (.loop DJ) ⟨e,h,x⟩ K=LA C gl DJ K [(0,bA e 0),(3,bA e 3)] h x:=gC
def LO:ACode:=.pr [0] (.seq (rg [mV 60 0,
mV 2 60] [2])
.ret)
def vZ (C:Hd)(gl:GL)(v0:AV)(h:aA)(x:Esc)(K:KT):Prop:=
 K .ret ⟨[(2,v0)],h,x⟩
theorem zdF {C gl e h x K}:NW C gl LO ⟨e,h,x⟩ K=vZ C gl (bA e 0) h x K:=by kernel_rfl
def nW (q5 q6:ACode):ACode:=(.seq (rg [mV 2 (.c (.p (.sl none [])))] [0])
(.seq (.seq (rg [mV 6 0,
lN 7 6,
bN 8 .lss 7 (cI 2)] [0,8])
(.cond 8 (.seq (rg [mV 9 0,
mV 2 9] [2])
.ret)
.skip))
(.seq (.seq (rg [mV 3 (cI 1)] [0,3])
(.block 0 (.loop q5)))
q6)))
def tM:AFun:=⟨1,[.t 2],nW DJ LO,true,false⟩
def EK (C:Hd)(gl:GL)(q5 q6:ACode)(v0:AV)(h:aA)(x:Esc)(K:KT):Prop:=
 pK (AA v0) fun t1=>
 pK (eA .lss t1 (AI 2)) fun t2=>
 oA t2 (K .ret ⟨[(2,v0)],h,x⟩)
 (NW C gl (.loop q5) ⟨[(0,v0),(3,(AI 1))],h,x⟩ (yA 0 (RA C gl q6 K)))
theorem z52 {C gl q5 q6 v0 h x K}:NW C gl (nW q5 q6) ⟨enter [v0],h,x⟩ K=EK C gl q5 q6 v0 h x K:=by kernel_rfl
theorem zd9 {C gl v0 h x K}:NW C gl tM.body ⟨enter [v0],h,x⟩ K=EK C gl DJ LO v0 h x K:=z52
def vO:ACode:=.pr [0] (.seq (rg [mV 15 0,
mV 4 15] [4])
.ret)
def RY (C:Hd)(gl:GL)(v0:AV)(h:aA)(x:Esc)(K:KT):Prop:=
 K .ret ⟨[(4,v0)],h,x⟩
theorem zcB {C gl e h x K}:NW C gl vO ⟨e,h,x⟩ K=RY C gl (bA e 0) h x K:=by kernel_rfl
def JV (q1:ACode):ACode:=(.seq (rg [mV 4 (cI 0)] [0,1])
(.seq (.seq (rg [mV 5 1,
bN 6 .lss 5 (cI 1)] [0,1,6])
(.cond 6 (.seq (rg [mV 4 (cI 0)] [4])
.ret)
.skip))
(.seq (rg [mV 7 0,
mV 8 1,
bN 9 .rem 7 8,
mV 0 9] [0,1])
(.seq (.seq (rg [mV 10 0,
bN 11 .lss 10 (cI 0)] [0,1,11])
(.cond 11 (rg [mV 12 0,
mV 13 1,
bN 14 .add 12 13,
mV 0 14] [0])
.skip))
q1))))
def QP:AFun:=⟨2,[.t 4],JV vO,false,false⟩
def dN (C:Hd)(gl:GL)(q1:ACode)(v0 v1:AV)(h:aA)(x:Esc)(K:KT):Prop:=
 pK (eA .lss v1 (AI 1)) fun t1=>
 oA t1 (K .ret ⟨[(4,(AI 0))],h,x⟩)
 (pK (eA .rem v0 v1) fun t2=>
 pK (eA .lss t2 (AI 0)) fun t3=>
 oA t3 (pK (eA .add t2 v1) fun t4=>
 NW C gl q1 ⟨[(0,t4)],h,x⟩ K)
 (NW C gl q1 ⟨[(0,t2),(1,v1),(11,t3)],h,x⟩ K))
theorem z4Z {C gl q1 v0 v1 h x K}:NW C gl (JV q1) ⟨enter [v0,v1],h,x⟩ K=dN C gl q1 v0 v1 h x K:=by kernel_rfl
theorem zcA {C gl v0 v1 h x K}:NW C gl QP.body ⟨enter [v0,v1],h,x⟩ K=dN C gl vO v0 v1 h x K:=z4Z
def z6V:ACode:=(.seq (rg [mV 6 (cI 0)] [0,1,2])
(.seq (.seq (rg [mV 7 0,
cL 8 rC [7,(cI 12)]] [0,1,2,8])
(.cond 8 (.seq (rg [mV 9 0,
mV 10 1,
bN 11 .sub 10 (cI 1),
mV 12 2,
bN 13 .add 12 (cI 1),
mV 14 1,
mV 15 2,
uO 16 (.bsl false none 6 (.int .i64 0) [(0,11),(1,13),(2,14),(3,15),(4,(cI (-1099511627776))),(5,(cI 1099511627776))]),
cL 17 AD [9,16],
mV 6 17] [6])
.ret)
.skip))
(.seq (rg [mV 18 0,
mV 19 1,
mV 20 2,
cL 21 VE [18,19,20],
mV 6 21] [6])
.ret)))
def WP:AFun:=⟨3,[.t 6],z6V,false,false⟩
def iN (C:Hd)(gl:GL)(v0 v1 v2:AV)(h:aA)(x:Esc)(K:KT):Prop:=
 C rC [v0,(AI 12)] h fun t1 h2 y3=>
 oA t1 (pK (eA .sub v1 (AI 1)) fun t4=>
 pK (eA .add v2 (AI 1)) fun t5=>
 wK (ZA false none 6 (.int .i64 0) [(0,t4),(1,t5),(2,v1),(3,v2),(4,(AI (-1099511627776))),(5,(AI 1099511627776))] h2) fun t6 h7 y8=>
 C AD [v0,t6] h7 fun t9 h10 y11=>
 K .ret ⟨[(6,t9)],h10,(y11++(y8++(y3++x)))⟩)
 (C VE [v0,v1,v2] h2 fun t12 h13 y14=>
 K .ret ⟨[(6,t12)],h13,(y14++(y3++x))⟩)
theorem zcP {C gl v0 v1 v2 h x K}:NW C gl WP.body ⟨enter [v0,v1,v2],h,x⟩ K=iN C gl v0 v1 v2 h x K:=by kernel_rfl
def z6W:ACode:=(.seq (rg [mV 4 (cI 0)] [0,1])
(.seq (rg [mV 5 1,
mV 6 0,
mV 7 1,
lN 8 7,
cL 9 zB [6,8],
iA 10 none 5 9,
lD 11 none 10,
mV 4 11] [4])
.ret))
def XP:AFun:=⟨2,[.t 4],z6W,false,false⟩
def vR (C:Hd)(gl:GL)(v0 v1:AV)(h:aA)(x:Esc)(K:KT):Prop:=
 pK (AA v1) fun t1=>
 C zB [v0,t1] h fun t2 h3 y4=>
 pK (uA none v1 t2 h3) fun t5=>
 pK (lA none t5 h3) fun t6=>
 K .ret ⟨[(4,t6)],h3,(y4++x)⟩
theorem zcQ {C gl v0 v1 h x K}:NW C gl XP.body ⟨enter [v0,v1],h,x⟩ K=vR C gl v0 v1 h x K:=by kernel_rfl
def AJ:ACode:=.pr [0,1,7,8] (.seq (rg [bN 9 .lss 8 7] [0,1,7,8,9])
(.seq (.cond 9 .skip
(.exit 0))
(.seq (.block 1 (.seq (rg [mV 10 8,
mV 5 10] [0,1,5,7,8])
(.seq (rg [mV 11 1,
mV 12 0,
mV 13 5,
uO 14 (.idxs 12 13),
cL 15 SI [11,14],
bN 16 .lss 15 (cI 0)] [0,1,7,8,16])
(.cond 16 (.seq (rg [mV 4 cF] [4])
.ret)
.skip))))
(rg [bN 17 .add 8 (cI 1),
mV 8 17] [0,1,7,8]))))
def lZ (C:Hd)(gl:GL)(v0 v1 v7 v8:AV)(h:aA)(x:Esc)(K:KT):Prop:=
 pK (eA .lss v8 v7) fun t1=>
 oA t1 (pK (zE v0 v8) fun t2=>
 C SI [v1,t2] h fun t3 h4 y5=>
 pK (eA .lss t3 (AI 0)) fun t6=>
 oA t6 (K .ret ⟨[(4,(AB false))],h4,(y5++x)⟩)
 (pK (eA .add v8 (AI 1)) fun t7=>
 K .normal ⟨[(0,v0),(1,v1),(7,v7),(8,t7)],h4,(y5++x)⟩))
 (K (.exit 0) ⟨[(0,v0),(1,v1),(7,v7),(8,v8),(9,t1)],h,x⟩)
theorem zdz {C gl e h x K}:NW C gl AJ ⟨e,h,x⟩ K=lZ C gl (bA e 0) (bA e 1) (bA e 7) (bA e 8) h x K:=by kernel_rfl
theorem zgq {C gl e h x K}:NW C gl (.loop AJ) ⟨e,h,x⟩ K=LA C gl AJ K [(0,bA e 0),(1,bA e 1),(7,bA e 7),(8,bA e 8)] h x:=gC
def JO:ACode:=.pr [] (.seq (rg [mV 4 cT] [4])
.ret)
def mZ (C:Hd)(gl:GL)(h:aA)(x:Esc)(K:KT):Prop:=
 K .ret ⟨[(4,(AB true))],h,x⟩
theorem zd0 {C gl e h x K}:NW C gl JO ⟨e,h,x⟩ K=mZ C gl h x K:=by kernel_rfl
def jW (q1 q2:ACode):ACode:=(.seq (rg [mV 4 cF] [0,1])
(.seq (.seq (rg [mV 6 0,
uO 7 (.lens 6),
mV 8 (cI 0)] [0,1,7,8])
(.block 0 (.loop q1)))
q2))
def rQ:AFun:=⟨2,[.t 4],jW AJ JO,false,false⟩
def pN (C:Hd)(gl:GL)(q1 q2:ACode)(v0 v1:AV)(h:aA)(x:Esc)(K:KT):Prop:=
 pK (vG v0) fun t1=>
 NW C gl (.loop q1) ⟨[(0,v0),(1,v1),(7,t1),(8,(AI 0))],h,x⟩ (yA 0 (RA C gl q2 K))
theorem z5x {C gl q1 q2 v0 v1 h x K}:NW C gl (jW q1 q2) ⟨enter [v0,v1],h,x⟩ K=pN C gl q1 q2 v0 v1 h x K:=by kernel_rfl
theorem zdy {C gl v0 v1 h x K}:NW C gl rQ.body ⟨enter [v0,v1],h,x⟩ K=pN C gl AJ JO v0 v1 h x K:=z5x
def z7f:ACode:=(.seq (rg [uO 3 (.box 1),
mV 4 (cI 0)] [0,3])
(.seq (rg [fA 6 0 none 3,
lD 7 none 6,
bN 8 .eql 7 (cI 1),
mV 9 8,
gD 10 9 false (.faddr 0 none 3),
gD 11 9 false (.load none 10),
gD 12 9 false (.bin .eql 11 (cI 2)),
uO 13 (.pick 9 cT 12),
mV 5 13] [0,3,5])
(.seq (.block 0 (.seq (rg [fA 15 0 none 3,
lD 16 none 15,
cL 17 kD [16,(cI 1),(cI 4)],
uO 18 (.un .not 17),
mV 14 18] [0,3,5,14])
(.cond 14 (.seq (rg [mV 4 (cI 4)] [4])
.ret)
(.seq (rg [mV 20 5,
mV 21 20,
gD 22 21 true (.faddr 1 none 3),
gD 23 21 true (.load none 22),
gD 24 21 true (.call WE [23]),
gD 25 21 true (.un .not 24),
uO 26 (.pick 21 25 cF),
mV 19 26] [0,3,5,19])
(.cond 19 (.seq (rg [mV 4 (cI 5)] [4])
.ret)
(.seq (rg [mV 28 5,
uO 29 (.un .not 28),
mV 30 29,
gD 31 30 true (.faddr 1 none 3),
gD 32 30 true (.load none 31),
gD 33 30 true (.bin .neq 32 (cS [])),
uO 34 (.pick 30 33 cF),
mV 27 34] [0,3,27])
(.cond 27 (.seq (rg [mV 4 (cI 3)] [4])
.ret)
(.seq (rg [fA 36 0 none 3,
lD 37 none 36,
bN 38 .neq 37 (cI 2),
mV 39 38,
gD 40 39 true (.faddr 2 none 3),
gD 41 39 true (.load none 40),
gD 42 39 true (.bin .neq 41 (cI (-1))),
gD 43 39 true (.mv 42),
gD 44 43 false (.faddr 3 none 3),
gD 45 43 false (.load none 44),
gD 46 43 false (.bin .neq 45 (cI 0)),
gD 47 39 true (.pick 43 cT 46),
uO 48 (.pick 39 47 cF),
mV 35 48] [0,3,35])
(.cond 35 (.seq (rg [mV 4 (cI 3)] [4])
.ret)
(.seq (rg [fA 50 0 none 3,
lD 51 none 50,
bN 52 .neq 51 (cI 2),
mV 49 52] [0,3,49])
(.cond 49 (.seq (rg [mV 4 (cI 0)] [4])
.ret)
(.seq (rg [fA 54 2 none 3,
lD 55 none 54,
bN 56 .neq 55 (cI (-1)),
mV 57 56,
gD 58 57 true (.faddr 2 none 3),
gD 59 57 true (.load none 58),
gD 60 57 true (.mv 0),
gD 61 57 true (.len 60),
gD 62 57 true (.bin .sub 61 (cI 1)),
gD 63 57 true (.call kD [59,(cI 0),62]),
gD 64 57 true (.un .not 63),
gD 65 57 true (.mv 64),
gD 66 65 false (.mv 0),
gD 67 65 false (.faddr 2 none 3),
gD 68 65 false (.load none 67),
gD 69 65 false (.iaddr (some 4) 66 68),
gD 70 65 false (.faddr 0 none 69),
gD 71 65 false (.load none 70),
gD 72 65 false (.bin .neq 71 (cI 3)),
gD 73 57 true (.pick 65 cT 72),
uO 74 (.pick 57 73 cF),
mV 53 74] [3,53])
(.cond 53 (.seq (rg [mV 4 (cI 8)] [4])
.ret)
(.seq (rg [fA 76 3 none 3,
lD 77 none 76,
cL 78 kD [77,(cI 0),(cI 1)],
uO 79 (.un .not 78),
mV 80 79,
gD 81 80 false (.faddr 2 none 3),
gD 82 80 false (.load none 81),
gD 83 80 false (.bin .eql 82 (cI (-1))),
gD 84 80 false (.mv 83),
gD 85 84 true (.faddr 3 none 3),
gD 86 84 true (.load none 85),
gD 87 84 true (.bin .neq 86 (cI 0)),
gD 88 80 false (.pick 84 87 cF),
uO 89 (.pick 80 cT 88),
mV 75 89] [75])
(.cond 75 (.seq (rg [mV 4 (cI 1)] [4])
.ret)
.skip)))))))))))))))
(.seq (rg [mV 4 (cI 0)] [4])
.ret))))
def nQ:AFun:=⟨2,[.t 4],z7f,false,false⟩
def nC (C:Hd)(gl:GL)(v0 v1:AV)(h:aA)(x:Esc)(K:KT):Prop:=
 wK (uB v1 h) fun t1 h2 y3=>
 pK (nA 0 none t1) fun t4=>
 pK (lA none t4 h2) fun t5=>
 pK (eA .eql t5 (AI 1)) fun t6=>
 gP t6 false (nA 0 none t1) h2 fun t7 h8 y9=>
 gP t6 false (lA none t7 h8) h8 fun t10 h11 y12=>
 gP t6 false (eA .eql t10 (AI 2)) h11 fun t13 h14 y15=>
 pK (MA t6 (AB true) t13) fun t16=>
 pK (nA 0 none t1) fun t17=>
 pK (lA none t17 h14) fun t18=>
 C kD [t18,(AI 1),(AI 4)] h14 fun t19 h20 y21=>
 pK (oUn .not t19) fun t22=>
 oA t22 (K .ret ⟨[(4,(AI 4))],h20,(y21++(y15++(y12++(y9++(y3++x)))))⟩)
 (gP t16 true (nA 1 none t1) h20 fun t23 h24 y25=>
 gP t16 true (lA none t23 h24) h24 fun t26 h27 y28=>
 gV t16 true h27 (C WE [t26] h27) fun t29 h30 y31=>
 gP t16 true (oUn .not t29) h30 fun t32 h33 y34=>
 pK (MA t16 t32 (AB false)) fun t35=>
 oA t35 (K .ret ⟨[(4,(AI 5))],h33,(y34++(y31++(y28++(y25++(y21++(y15++(y12++(y9++(y3++x)))))))))⟩)
 (pK (oUn .not t16) fun t36=>
 gP t36 true (nA 1 none t1) h33 fun t37 h38 y39=>
 gP t36 true (lA none t37 h38) h38 fun t40 h41 y42=>
 gP t36 true (eA .neq t40 (.p (.str []))) h41 fun t43 h44 y45=>
 pK (MA t36 t43 (AB false)) fun t46=>
 oA t46 (K .ret ⟨[(4,(AI 3))],h44,(y45++(y42++(y39++(y34++(y31++(y28++(y25++(y21++(y15++(y12++(y9++(y3++x))))))))))))⟩)
 (pK (nA 0 none t1) fun t47=>
 pK (lA none t47 h44) fun t48=>
 pK (eA .neq t48 (AI 2)) fun t49=>
 gP t49 true (nA 2 none t1) h44 fun t50 h51 y52=>
 gP t49 true (lA none t50 h51) h51 fun t53 h54 y55=>
 gP t49 true (eA .neq t53 (AI (-1))) h54 fun t56 h57 y58=>
 gM t49 true t56 h57 fun t59 h60 y61=>
 gP t59 false (nA 3 none t1) h60 fun t62 h63 y64=>
 gP t59 false (lA none t62 h63) h63 fun t65 h66 y67=>
 gP t59 false (eA .neq t65 (AI 0)) h66 fun t68 h69 y70=>
 gP t49 true (MA t59 (AB true) t68) h69 fun t71 h72 y73=>
 pK (MA t49 t71 (AB false)) fun t74=>
 oA t74 (K .ret ⟨[(4,(AI 3))],h72,(y73++(y70++(y67++(y64++(y61++(y58++(y55++(y52++(y45++(y42++(y39++(y34++(y31++(y28++(y25++(y21++(y15++(y12++(y9++(y3++x))))))))))))))))))))⟩)
 (pK (nA 0 none t1) fun t75=>
 pK (lA none t75 h72) fun t76=>
 pK (eA .neq t76 (AI 2)) fun t77=>
 oA t77 (K .ret ⟨[(4,(AI 0))],h72,(y73++(y70++(y67++(y64++(y61++(y58++(y55++(y52++(y45++(y42++(y39++(y34++(y31++(y28++(y25++(y21++(y15++(y12++(y9++(y3++x))))))))))))))))))))⟩)
 (pK (nA 2 none t1) fun t78=>
 pK (lA none t78 h72) fun t79=>
 pK (eA .neq t79 (AI (-1))) fun t80=>
 gP t80 true (nA 2 none t1) h72 fun t81 h82 y83=>
 gP t80 true (lA none t81 h82) h82 fun t84 h85 y86=>
 gM t80 true v0 h85 fun t87 h88 y89=>
 gP t80 true (AA t87) h88 fun t90 h91 y92=>
 gP t80 true (eA .sub t90 (AI 1)) h91 fun t93 h94 y95=>
 gV t80 true h94 (C kD [t84,(AI 0),t93] h94) fun t96 h97 y98=>
 gP t80 true (oUn .not t96) h97 fun t99 h100 y101=>
 gM t80 true t99 h100 fun t102 h103 y104=>
 gM t102 false v0 h103 fun t105 h106 y107=>
 gP t102 false (nA 2 none t1) h106 fun t108 h109 y110=>
 gP t102 false (lA none t108 h109) h109 fun t111 h112 y113=>
 gP t102 false (uA (some 4) t105 t111 h112) h112 fun t114 h115 y116=>
 gP t102 false (nA 0 none t114) h115 fun t117 h118 y119=>
 gP t102 false (lA none t117 h118) h118 fun t120 h121 y122=>
 gP t102 false (eA .neq t120 (AI 3)) h121 fun t123 h124 y125=>
 gP t80 true (MA t102 (AB true) t123) h124 fun t126 h127 y128=>
 pK (MA t80 t126 (AB false)) fun t129=>
 oA t129 (K .ret ⟨[(4,(AI 8))],h127,(y128++(y125++(y122++(y119++(y116++(y113++(y110++(y107++(y104++(y101++(y98++(y95++(y92++(y89++(y86++(y83++(y73++(y70++(y67++(y64++(y61++(y58++(y55++(y52++(y45++(y42++(y39++(y34++(y31++(y28++(y25++(y21++(y15++(y12++(y9++(y3++x))))))))))))))))))))))))))))))))))))⟩)
 (pK (nA 3 none t1) fun t130=>
 pK (lA none t130 h127) fun t131=>
 C kD [t131,(AI 0),(AI 1)] h127 fun t132 h133 y134=>
 pK (oUn .not t132) fun t135=>
 gP t135 false (nA 2 none t1) h133 fun t136 h137 y138=>
 gP t135 false (lA none t136 h137) h137 fun t139 h140 y141=>
 gP t135 false (eA .eql t139 (AI (-1))) h140 fun t142 h143 y144=>
 gM t135 false t142 h143 fun t145 h146 y147=>
 gP t145 true (nA 3 none t1) h146 fun t148 h149 y150=>
 gP t145 true (lA none t148 h149) h149 fun t151 h152 y153=>
 gP t145 true (eA .neq t151 (AI 0)) h152 fun t154 h155 y156=>
 gP t135 false (MA t145 t154 (AB false)) h155 fun t157 h158 y159=>
 pK (MA t135 (AB true) t157) fun t160=>
 oA t160 (K .ret ⟨[(4,(AI 1))],h158,(y159++(y156++(y153++(y150++(y147++(y144++(y141++(y138++(y134++(y128++(y125++(y122++(y119++(y116++(y113++(y110++(y107++(y104++(y101++(y98++(y95++(y92++(y89++(y86++(y83++(y73++(y70++(y67++(y64++(y61++(y58++(y55++(y52++(y45++(y42++(y39++(y34++(y31++(y28++(y25++(y21++(y15++(y12++(y9++(y3++x)))))))))))))))))))))))))))))))))))))))))))))⟩)
 (K .ret ⟨[(4,(AI 0))],h158,(y159++(y156++(y153++(y150++(y147++(y144++(y141++(y138++(y134++(y128++(y125++(y122++(y119++(y116++(y113++(y110++(y107++(y104++(y101++(y98++(y95++(y92++(y89++(y86++(y83++(y73++(y70++(y67++(y64++(y61++(y58++(y55++(y52++(y45++(y42++(y39++(y34++(y31++(y28++(y25++(y21++(y15++(y12++(y9++(y3++x)))))))))))))))))))))))))))))))))))))))))))))⟩)))))))
theorem zdu {C gl v0 v1 h x K}:NW C gl nQ.body ⟨enter [v0,v1],h,x⟩ K=nC C gl v0 v1 h x K:=by kernel_rfl
def z7j:ACode:=(.seq (rg [uO 2 (.box 0),
mV 3 cF] [1,2])
(.seq (rg [fA 4 0 none 2,
lD 5 none 4,
fA 6 0 none 1,
lD 7 none 6,
bN 8 .eql 5 7,
mV 9 8,
gD 10 9 true (.faddr 1 none 2),
gD 11 9 true (.load none 10),
gD 12 9 true (.faddr 1 none 1),
gD 13 9 true (.load none 12),
gD 14 9 true (.bin .eql 11 13),
uO 15 (.pick 9 14 cF),
mV 3 15] [3])
.ret))
def tQ:AFun:=⟨2,[.t 3],z7j,false,false⟩
def qN (C:Hd)(gl:GL)(v0 v1:AV)(h:aA)(x:Esc)(K:KT):Prop:=
 wK (uB v0 h) fun t1 h2 y3=>
 pK (nA 0 none t1) fun t4=>
 pK (lA none t4 h2) fun t5=>
 pK (nA 0 none v1) fun t6=>
 pK (lA none t6 h2) fun t7=>
 pK (eA .eql t5 t7) fun t8=>
 gP t8 true (nA 1 none t1) h2 fun t9 h10 y11=>
 gP t8 true (lA none t9 h10) h10 fun t12 h13 y14=>
 gP t8 true (nA 1 none v1) h13 fun t15 h16 y17=>
 gP t8 true (lA none t15 h16) h16 fun t18 h19 y20=>
 gP t8 true (eA .eql t12 t18) h19 fun t21 h22 y23=>
 pK (MA t8 t21 (AB false)) fun t24=>
 K .ret ⟨[(3,t24)],h22,(y23++(y20++(y17++(y14++(y11++(y3++x))))))⟩
theorem zd5 {C gl v0 v1 h x K}:NW C gl tQ.body ⟨enter [v0,v1],h,x⟩ K=qN C gl v0 v1 h x K:=by kernel_rfl
def z7d:ACode:=(.seq (rg [uO 2 (.box 0),
uO 3 (.box 1),
mV 4 (cI 0)] [2,3])
(.seq (rg [fA 5 0 none 2,
lD 6 none 5,
uO 7 (.mkfn jH [3]),
cL 8 NI [6,7],
mV 4 8] [4])
.ret))
def kQ:AFun:=⟨2,[.t 4],z7d,false,false⟩
def BR (C:Hd)(gl:GL)(v0 v1:AV)(h:aA)(x:Esc)(K:KT):Prop:=
 wK (uB v0 h) fun t1 h2 y3=>
 wK (uB v1 h2) fun t4 h5 y6=>
 pK (nA 0 none t1) fun t7=>
 pK (lA none t7 h5) fun t8=>
 C NI [t8,(.fn jH [t4])] h5 fun t9 h10 y11=>
 K .ret ⟨[(4,t9)],h10,(y11++(y6++(y3++x)))⟩
theorem zds {C gl v0 v1 h x K}:NW C gl kQ.body ⟨enter [v0,v1],h,x⟩ K=BR C gl v0 v1 h x K:=by kernel_rfl
def z7h:ACode:=(.seq (rg [uO 2 (.box 0),
mV 3 cF] [1,2])
(.seq (rg [fA 4 1 none 2,
lD 5 none 4,
lD 6 none 1,
bN 7 .eql 5 6,
mV 3 7] [3])
.ret))
def pQ:AFun:=⟨2,[.t 3],z7h,false,false⟩
def DR (C:Hd)(gl:GL)(v0 v1:AV)(h:aA)(x:Esc)(K:KT):Prop:=
 wK (uB v0 h) fun t1 h2 y3=>
 pK (nA 1 none t1) fun t4=>
 pK (lA none t4 h2) fun t5=>
 pK (lA none v1 h2) fun t6=>
 pK (eA .eql t5 t6) fun t7=>
 K .ret ⟨[(3,t7)],h2,(y3++x)⟩
theorem zdw {C gl v0 v1 h x K}:NW C gl pQ.body ⟨enter [v0,v1],h,x⟩ K=DR C gl v0 v1 h x K:=by kernel_rfl
end Go.Am
end
