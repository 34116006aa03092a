/- Texts of the proof, laid together: CodesE, AmL, AmC, AmK, AmV, Ctx, SpStream, MathFrac, SpBase, SpList, PSort, SpShp, SpLen, SpFind, SpU64, PFlt, PBits, PShort, PDet, PPop, PSeen, PRed, PRed2. -/
import Derived.KernelRfl
import Derived.Laws.AppendOwn
import Derived.Test.YtahgfbhabpiplaaGreatDoorlawRE5
set_option linter.all false
section
/- The functions asv abstract code,and asv formulas over their values: printed by program out of the translation. -/
set_option linter.all false
set_option maxRecDepth 100000
namespace Go.Am
def zh2:ACode:=(.seq (rg [mV 2 cF] [0])
(.seq (rg [mV 3 0,
cL 4 DB [3,(cI 0),(cI 15)],
uO 5 (.un .not 4),
mV 2 5] [2])
.ret))
def z6m:AFun:=⟨1,[.t 2],zh2,false,false⟩
def z5g:ACode:=(.seq (rg [mV 4 (cI 0)] [0,1])
(.seq (rg [uO 6 (.build [.p (.int .i64 0),.p (.int .i64 0)] [(0,1,(cI 1)),(1,1,(cI 0))]),
uO 7 (.build [.p (.int .i64 0),.p (.int .i64 0)] [(0,1,(cI 1)),(1,1,(cI 2))]),
uO 8 (.build [.p (.int .i64 0),.p (.int .i64 0)] [(0,1,(cI 3)),(1,1,(cI 9))]),
uO 9 (.build [.p (.int .i64 0),.p (.int .i64 0)] [(0,1,(cI 4)),(1,1,(cI 5))]),
uO 10 (.build [.p (.int .i64 0),.p (.int .i64 0)] [(0,1,(cI 4)),(1,1,(cI 5))]),
uO 11 (.build [.p (.int .i64 0),.p (.int .i64 0)] [(0,1,(cI 6)),(1,1,(cI 8))]),
uO 12 (.build [.p (.int .i64 0),.p (.int .i64 0)] [(0,1,(cI 6)),(1,1,(cI 7))]),
uO 13 (.build [.p (.int .i64 0),.p (.int .i64 0)] [(0,1,(cI 4)),(1,1,(cI 8))]),
uO 14 (.build [.p (.int .i64 0),.p (.int .i64 0)] [(0,1,(cI 1)),(1,1,(cI 2))]),
uO 15 (.build [.p (.int .i64 0),.p (.int .i64 0)] [(0,1,(cI 10)),(1,1,(cI 0))]),
uO 16 (.build [.p (.int .i64 0),.p (.int .i64 0)] [(0,1,(cI 11)),(1,1,(cI 12))]),
uO 17 (.build [.p (.int .i64 0),.p (.int .i64 0)] [(0,1,(cI 11)),(1,1,(cI 12))]),
uO 18 (.build [.p (.int .i64 0),.p (.int .i64 0)] [(0,1,(cI 13)),(1,1,(cI 15))]),
uO 19 (.build [.p (.int .i64 0),.p (.int .i64 0)] [(0,1,(cI 13)),(1,1,(cI 14))]),
uO 20 (.build [.p (.int .i64 0),.p (.int .i64 0)] [(0,1,(cI 11)),(1,1,(cI 15))]),
uO 21 (.build [.p (.int .i64 0),.p (.int .i64 0)] [(0,1,(cI 1)),(1,1,(cI 2))]),
uO 22 (.build [.p (.int .i64 0),.p (.int .i64 0),.p (.int .i64 0),.p (.int .i64 0),.p (.int .i64 0),.p (.int .i64 0),.p (.int .i64 0),.p (.int .i64 0),.p (.int .i64 0),.p (.int .i64 0),.p (.int .i64 0),.p (.int .i64 0),.p (.int .i64 0),.p (.int .i64 0),.p (.int .i64 0),.p (.int .i64 0),.p (.int .i64 0),.p (.int .i64 0),.p (.int .i64 0),.p (.int .i64 0),.p (.int .i64 0),.p (.int .i64 0),.p (.int .i64 0),.p (.int .i64 0),.p (.int .i64 0),.p (.int .i64 0),.p (.int .i64 0),.p (.int .i64 0),.p (.int .i64 0),.p (.int .i64 0),.p (.int .i64 0),.p (.int .i64 0)] [(0,2,6),(2,2,7),(4,2,8),(6,2,9),(8,2,10),(10,2,11),(12,2,12),(14,2,13),(16,2,14),(18,2,15),(20,2,16),(22,2,17),(24,2,18),(26,2,19),(28,2,20),(30,2,21)]),
uO 5 (.alloc [.p (.int .i64 0),.p (.int .i64 0),.p (.int .i64 0),.p (.int .i64 0),.p (.int .i64 0),.p (.int .i64 0),.p (.int .i64 0),.p (.int .i64 0),.p (.int .i64 0),.p (.int .i64 0),.p (.int .i64 0),.p (.int .i64 0),.p (.int .i64 0),.p (.int .i64 0),.p (.int .i64 0),.p (.int .i64 0),.p (.int .i64 0),.p (.int .i64 0),.p (.int .i64 0),.p (.int .i64 0),.p (.int .i64 0),.p (.int .i64 0),.p (.int .i64 0),.p (.int .i64 0),.p (.int .i64 0),.p (.int .i64 0),.p (.int .i64 0),.p (.int .i64 0),.p (.int .i64 0),.p (.int .i64 0),.p (.int .i64 0),.p (.int .i64 0)]),
wO (.store (some 32) 5 22)] [0,1,5])
(.seq (rg [mV 23 0,
mV 24 1,
uO 25 (.iaddra 16 (some 2) 5 23),
uO 26 (.iaddra 2 none 25 24),
lD 27 none 26,
mV 4 27] [4])
.ret)))
def zJ:AFun:=⟨2,[.t 4],z5g,false,false⟩
def gU (C:Hd)(gl:GL)(v0 v1:AV)(h:aA)(x:Esc)(K:KT):Prop:=
 pK (OB [.p (.int .i64 0),.p (.int .i64 0)] [(0,1,(AI 1)),(1,1,(AI 0))]) fun t1=>
 pK (OB [.p (.int .i64 0),.p (.int .i64 0)] [(0,1,(AI 1)),(1,1,(AI 2))]) fun t2=>
 pK (OB [.p (.int .i64 0),.p (.int .i64 0)] [(0,1,(AI 3)),(1,1,(AI 9))]) fun t3=>
 pK (OB [.p (.int .i64 0),.p (.int .i64 0)] [(0,1,(AI 4)),(1,1,(AI 5))]) fun t4=>
 pK (OB [.p (.int .i64 0),.p (.int .i64 0)] [(0,1,(AI 4)),(1,1,(AI 5))]) fun t5=>
 pK (OB [.p (.int .i64 0),.p (.int .i64 0)] [(0,1,(AI 6)),(1,1,(AI 8))]) fun t6=>
 pK (OB [.p (.int .i64 0),.p (.int .i64 0)] [(0,1,(AI 6)),(1,1,(AI 7))]) fun t7=>
 pK (OB [.p (.int .i64 0),.p (.int .i64 0)] [(0,1,(AI 4)),(1,1,(AI 8))]) fun t8=>
 pK (OB [.p (.int .i64 0),.p (.int .i64 0)] [(0,1,(AI 1)),(1,1,(AI 2))]) fun t9=>
 pK (OB [.p (.int .i64 0),.p (.int .i64 0)] [(0,1,(AI 10)),(1,1,(AI 0))]) fun t10=>
 pK (OB [.p (.int .i64 0),.p (.int .i64 0)] [(0,1,(AI 11)),(1,1,(AI 12))]) fun t11=>
 pK (OB [.p (.int .i64 0),.p (.int .i64 0)] [(0,1,(AI 11)),(1,1,(AI 12))]) fun t12=>
 pK (OB [.p (.int .i64 0),.p (.int .i64 0)] [(0,1,(AI 13)),(1,1,(AI 15))]) fun t13=>
 pK (OB [.p (.int .i64 0),.p (.int .i64 0)] [(0,1,(AI 13)),(1,1,(AI 14))]) fun t14=>
 pK (OB [.p (.int .i64 0),.p (.int .i64 0)] [(0,1,(AI 11)),(1,1,(AI 15))]) fun t15=>
 pK (OB [.p (.int .i64 0),.p (.int .i64 0)] [(0,1,(AI 1)),(1,1,(AI 2))]) fun t16=>
 pK (OB [.p (.int .i64 0),.p (.int .i64 0),.p (.int .i64 0),.p (.int .i64 0),.p (.int .i64 0),.p (.int .i64 0),.p (.int .i64 0),.p (.int .i64 0),.p (.int .i64 0),.p (.int .i64 0),.p (.int .i64 0),.p (.int .i64 0),.p (.int .i64 0),.p (.int .i64 0),.p (.int .i64 0),.p (.int .i64 0),.p (.int .i64 0),.p (.int .i64 0),.p (.int .i64 0),.p (.int .i64 0),.p (.int .i64 0),.p (.int .i64 0),.p (.int .i64 0),.p (.int .i64 0),.p (.int .i64 0),.p (.int .i64 0),.p (.int .i64 0),.p (.int .i64 0),.p (.int .i64 0),.p (.int .i64 0),.p (.int .i64 0),.p (.int .i64 0)] [(0,2,t1),(2,2,t2),(4,2,t3),(6,2,t4),(8,2,t5),(10,2,t6),(12,2,t7),(14,2,t8),(16,2,t9),(18,2,t10),(20,2,t11),(22,2,t12),(24,2,t13),(26,2,t14),(28,2,t15),(30,2,t16)]) fun t17=>
 alK [.p (.int .i64 0),.p (.int .i64 0),.p (.int .i64 0),.p (.int .i64 0),.p (.int .i64 0),.p (.int .i64 0),.p (.int .i64 0),.p (.int .i64 0),.p (.int .i64 0),.p (.int .i64 0),.p (.int .i64 0),.p (.int .i64 0),.p (.int .i64 0),.p (.int .i64 0),.p (.int .i64 0),.p (.int .i64 0),.p (.int .i64 0),.p (.int .i64 0),.p (.int .i64 0),.p (.int .i64 0),.p (.int .i64 0),.p (.int .i64 0),.p (.int .i64 0),.p (.int .i64 0),.p (.int .i64 0),.p (.int .i64 0),.p (.int .i64 0),.p (.int .i64 0),.p (.int .i64 0),.p (.int .i64 0),.p (.int .i64 0),.p (.int .i64 0)] h fun t18 h19 y20=>
 wK (FC (some 32) t18 t17 h19) fun t21 h22 y23=>
 pK (bH 16 (some 2) t18 v0) fun t24=>
 pK (bH 2 none t24 v1) fun t25=>
 pK (BA none t25 h22) fun t26=>
 K .ret ⟨[(4,t26)],h22,(y23++(y20++x))⟩
theorem zcb {C gl v0 v1 h x K}:NW C gl zJ.body ⟨enter [v0,v1],h,x⟩ K=gU C gl v0 v1 h x K:=by kernel_rfl
def uW:ACode:=.pr [1,5,6,7,25] (rg [bN 53 .add 25 (cI 1),
mV 25 53] [1,5,6,7,25])
def qZ (C:Hd)(gl:GL)(v1 v5 v6 v7 v25:AV)(h:aA)(x:Esc)(K:KT):Prop:=
 pK (qA .add v25 (AI 1)) fun t1=>
 K .normal ⟨[(1,v1),(5,v5),(6,v6),(7,v7),(25,t1)],h,x⟩
theorem zcd {C gl e h x K}:NW C gl uW ⟨e,h,x⟩ K=qZ C gl (bA e 1) (bA e 5) (bA e 6) (bA e 7) (bA e 25) h x K:=by kernel_rfl
def VX (q1:ACode):ACode:=.pr [1,5,6,7,25] (.seq (rg [bN 26 .lss 25 (cI 2)] [1,5,6,7,25,26])
(.seq (.cond 26 .skip
(.exit 2))
(.seq (.block 3 (.seq (rg [mV 27 25,
mV 8 27] [1,5,6,7,8,25])
(.seq (rg [mV 28 7,
mV 29 8,
cL 30 PG [28,29],
mV 9 30] [1,5,6,7,8,9,25])
(.seq (rg [mV 32 5,
mV 33 9,
uO 34 (.look (none,[0]) true (.p (.str [])) 32 33),
mV 31 34,
eX 35 31 0,
eX 36 31 1,
mV 10 35,
mV 11 36] [1,5,6,7,8,9,11,25])
(.seq (rg [mV 37 11,
uO 38 (.un .not 37)] [1,5,6,7,8,9,25,38])
(.cond 38 (.seq (rg [mV 39 5,
mV 40 9,
mV 41 5,
mV 42 7,
uO 43 (.look (none,[0]) false (.p (.str [])) 41 42),
mV 44 8,
bN 45 .add (cI 48) 44,
uO 46 (.conv (.i .i32) 45),
uO 47 (.conv .r2s 46),
bN 48 .add 43 47,
wO (.mupd (none,[0]) 39 40 48)] [1,5,6,7,9,25])
(rg [mV 49 6,
mV 50 9,
uO 51 (.bsl false none 1 (.int .i64 0) [(0,50)]),
uO 52 (.mnext (some none) [49,51]),
mV 6 52] [1,5,6,7,25]))
.skip))))))
q1)))
def mL:ACode:=VX uW
def iU (C:Hd)(gl:GL)(q1:ACode)(v1 v5 v6 v7 v25:AV)(h:aA)(x:Esc)(K:KT):Prop:=
 pK (qA .lss v25 (AI 2)) fun t1=>
 NA t1 (C PG [v7,v25] h fun t2 h3 y4=>
 pK (BD (none,[0]) true (.p (.str [])) v5 t2 h3) fun t5=>
 pK (aH t5 0) fun t6=>
 pK (aH t5 1) fun t7=>
 pK (oUn .not t7) fun t8=>
 NA t8 (pK (BD (none,[0]) false (.p (.str [])) v5 v7 h3) fun t9=>
 pK (qA .add (AI 48) v25) fun t10=>
 pK (gI .i32 t10) fun t11=>
 wK (oD .r2s t11 h3) fun t12 h13 y14=>
 pK (qA .add t9 t12) fun t15=>
 wK (BE (none,[0]) v5 t2 t15 h13) fun t16 h17 y18=>
 wK (gE false none 1 (.int .i64 0) [(0,t2)] h17) fun t19 h20 y21=>
 nqK (some none) [v6,t19] h20 fun t22 h23 y24=>
 NW C gl q1 ⟨[(1,v1),(5,v5),(6,t22),(7,v7),(25,v25)],h23,(y24++(y21++(y18++(y14++(y4++x)))))⟩ K)
 (NW C gl q1 ⟨[(1,v1),(5,v5),(6,v6),(7,v7),(8,v25),(9,t2),(25,v25),(38,t8)],h3,(y4++x)⟩ K))
 (K (.exit 2) ⟨[(1,v1),(5,v5),(6,v6),(7,v7),(25,v25),(26,t1)],h,x⟩)
theorem z4Y {C gl q1 e h x K}:NW C gl (VX q1) ⟨e,h,x⟩ K=iU C gl q1 (bA e 1) (bA e 5) (bA e 6) (bA e 7) (bA e 25) h x K:=by kernel_rfl
theorem zce {C gl e h x K}:NW C gl mL ⟨e,h,x⟩ K=iU C gl uW (bA e 1) (bA e 5) (bA e 6) (bA e 7) (bA e 25) h x K:=z4Y
theorem zem {C gl e h x K}:NW C gl (.loop mL) ⟨e,h,x⟩ K=EA C gl mL K [(1,bA e 1),(5,bA e 5),(6,bA e 6),(7,bA e 7),(25,bA e 25)] h x:=YA
def WX (q2:ACode):ACode:=.pr [1,5,6] (.seq (.seq (rg [mV 17 6,
lN 18 17,
bN 19 .gtr 18 (cI 0)] [1,5,6,19])
(.cond 19 .skip
(.exit 0)))
(.block 1 (.seq (rg [mV 20 6,
iA 21 none 20 (cI 0),
lD 22 none 21,
mV 7 22] [1,5,6,7])
(.seq (rg [mV 23 6,
uO 24 (.slice none 23 (some (cI 1)) none none),
mV 6 24] [1,5,6,7])
(.seq (rg [mV 25 (cI 0)] [1,5,6,7,25])
(.block 2 (.loop q2)))))))
def nL:ACode:=WX mL
def jU (C:Hd)(gl:GL)(q2:ACode)(v1 v5 v6:AV)(h:aA)(x:Esc)(K:KT):Prop:=
 pK (YB v6) fun t1=>
 pK (qA .gtr t1 (AI 0)) fun t2=>
 NA t2 (pK (vB none v6 (AI 0) h) fun t3=>
 pK (BA none t3 h) fun t4=>
 pK (OD none v6 (some (AI 1)) none none h) fun t5=>
 NW C gl (.loop q2) ⟨[(1,v1),(5,v5),(6,t5),(7,t4),(25,(AI 0))],h,x⟩ (eC 2 (eC 1 K)))
 (K (.exit 0) ⟨[(1,v1),(5,v5),(6,v6),(19,t2)],h,x⟩)
theorem z4Z {C gl q2 e h x K}:NW C gl (WX q2) ⟨e,h,x⟩ K=jU C gl q2 (bA e 1) (bA e 5) (bA e 6) h x K:=by kernel_rfl
theorem zcf {C gl e h x K}:NW C gl nL ⟨e,h,x⟩ K=jU C gl mL (bA e 1) (bA e 5) (bA e 6) h x K:=z4Z
theorem zen {C gl e h x K}:NW C gl (.loop nL) ⟨e,h,x⟩ K=EA C gl nL K [(1,bA e 1),(5,bA e 5),(6,bA e 6)] h x:=YA
def vW:ACode:=.pr [1,5] (.seq (rg [mV 54 5,
mV 55 1,
uO 56 (.look (none,[0]) false (.p (.str [])) 54 55),
mV 4 56] [4])
.ret)
def rZ (C:Hd)(gl:GL)(v1 v5:AV)(h:aA)(x:Esc)(K:KT):Prop:=
 pK (BD (none,[0]) false (.p (.str [])) v5 v1 h) fun t1=>
 K .ret ⟨[(4,t1)],h,x⟩
theorem zcg {C gl e h x K}:NW C gl vW ⟨e,h,x⟩ K=rZ C gl (bA e 1) (bA e 5) h x K:=by kernel_rfl
def UX (q3 q4:ACode):ACode:=(.det (.seq (rg [mV 4 (cS [])] [0,1])
(.seq (rg [uO 12 (.mkmap),
mV 13 0,
wO (.mupd (none,[0]) 12 13 (cS [])),
mV 14 12,
mV 5 14] [0,1,5])
(.seq (rg [mV 15 0,
uO 16 (.bsl true none 1 (.int .i64 0) [(0,15)]),
mV 6 16] [1,5,6])
(.seq (.block 0 (.loop q3))
q4)))))
def UL:AFun:=⟨2,[.t 4],UX nL vW,false,false⟩
def pN (C:Hd)(gl:GL)(q3 q4:ACode)(v0 v1:AV)(h:aA)(x:Esc)(K:KT):Prop:=
 mmK h fun t1 h2 y3=>
 wK (BE (none,[0]) t1 v0 (.p (.str [])) h2) fun t4 h5 y6=>
 wK (gE true none 1 (.int .i64 0) [(0,v0)] h5) fun t7 h8 y9=>
 NW C gl (.loop q3) ⟨[(1,v1),(5,t1),(6,t7)],h8,(y9++(y6++(y3++x)))⟩ (eC 0 (TD C gl q4 K))
theorem z4X {C gl q3 q4 v0 v1 h x K}:NW C gl (UX q3 q4) ⟨enter [v0,v1],h,x⟩ K=pN C gl q3 q4 v0 v1 h x K:=by kernel_rfl
theorem zcc {C gl v0 v1 h x K}:NW C gl UL.body ⟨enter [v0,v1],h,x⟩ K=pN C gl nL vW v0 v1 h x K:=z4X
def zh4:ACode:=.pr [0,10,11,12] (.seq (rg [bN 13 .lss 12 11] [0,10,11,12,13])
(.seq (.cond 13 .skip
(.exit 0))
(.seq (.block 1 (.seq (rg [iA 14 (some 6) 10 12,
lD 15 (some 6) 14,
uO 4 (.alloc [.p (.int .i64 0),.p (.int .i64 0),.p (.int .i64 0),.p (.str []),.p (.str []),.p (.str [])]),
wO (.store (some 6) 4 15)] [0,4,10,11,12])
(.seq (.seq (rg [fA 16 0 none 4,
lD 17 none 16,
cL 18 DB [17,(cI 1),(cI 10)]] [0,4,10,11,12,18])
(.cond 18 (.seq (rg [mV 2 (cI 4)] [2])
.ret)
.skip))
(.seq (rg [lD 20 (some 6) 4,
cL 21 z0L [20],
mV 19 21,
eX 22 19 0,
eX 23 19 1,
uO 5 (.alloc [.p (.int .i64 0),.p (.int .i64 0),.p (.int .i64 0),.p (.str []),.p (.str []),.p (.str [])]),
wO (.store (some 6) 5 22),
mV 6 23] [0,4,5,6,10,11,12])
(.block 2 (.seq (rg [mV 25 6,
bN 26 .neq 25 (cI 0),
mV 24 26] [0,4,5,6,10,11,12,24])
(.cond 24 (.seq (rg [mV 27 6,
mV 2 27] [2])
.ret)
(.seq (rg [lD 29 (some 6) 5,
fA 30 0 none 4,
lD 31 none 30,
uO 32 (.build [.p (.int .i64 0),.p (.int .i64 0),.p (.int .i64 0),.p (.str []),.p (.str []),.p (.str [])] [(0,1,31)]),
uO 33 (.eqa [0,0,0,2,2,2] true 29 32),
mV 28 33] [0,10,11,12,28])
(.cond 28 (.seq (rg [mV 2 (cI 3)] [2])
.ret)
.skip)))))))))
(rg [bN 34 .add 12 (cI 1),
mV 12 34] [0,10,11,12]))))
def zh5:ACode:=.pr [0] (.seq (.seq (rg [mV 35 0,
cL 36 GU [35,(.c (.nilp))],
uO 37 (.nilchk 36),
fA 38 37 none 37,
lD 39 none 38,
bN 40 .gtr 39 (cI 20000)] [40])
(.cond 40 (.seq (rg [mV 2 (cI 2)] [2])
.ret)
.skip))
(.seq (rg [mV 2 (cI 0)] [2])
.ret))
def zh3:ACode:=(.seq (rg [mV 2 (cI 0)] [0])
(.seq (.seq (rg [mV 7 0,
lN 8 7,
bN 9 .gtr 8 (cI 1000)] [0,9])
(.cond 9 (.seq (rg [mV 2 (cI 2)] [2])
.ret)
.skip))
(.seq (.seq (rg [mV 10 0,
lN 11 10,
mV 12 (cI 0)] [0,10,11,12])
(.block 0 (.loop (.scope zh4))))
zh5)))
def z6n:AFun:=⟨1,[.t 2],zh3,false,false⟩
def zh6:ACode:=(.seq (rg [mV 2 (cI 0),
mV 3 (cI 0)] [0])
(.seq (.seq (rg [mV 5 0,
cL 6 z0I [5],
mV 4 6] [0,4])
(.seq (rg [mV 7 4,
bN 8 .neq 7 (cI 0)] [0,4,8])
(.cond 8 (.seq (rg [mV 9 4,
mV 2 (cI 0),
mV 3 9] [2,3])
.ret)
.skip)))
(.seq (rg [mV 10 0,
cL 11 GU [10,(.c (.nilp))],
uO 12 (.nilchk 11),
fA 13 37 none 12,
lD 14 none 13,
mV 2 14,
mV 3 (cI 0)] [2,3])
.ret)))
def z6o:AFun:=⟨1,[.t 2,.t 3],zh6,false,false⟩
def zh7:ACode:=(.seq (rg [mV 2 cF] [0])
(.seq (rg [mV 3 0,
bN 4 .eql 3 (cI 7),
mV 5 4,
gD 6 5 false (.mv 0),
gD 7 5 false (.bin .eql 6 (cI 8)),
uO 8 (.pick 5 cT 7),
mV 2 8] [2])
.ret))
def z6p:AFun:=⟨1,[.t 2],zh7,false,false⟩
def zh8:ACode:=(.seq (rg [mV 2 cF] [0])
(.seq (rg [mV 3 0,
cL 4 DB [3,(cI 1),(cI 6)],
uO 5 (.un .not 4),
mV 2 5] [2])
.ret))
def z6q:AFun:=⟨1,[.t 2],zh8,false,false⟩
def zhA:ACode:=.pr [2,4] (.seq (rg [lD 56 (some 6) 4,
wO (.store (some 6) 2 56),
mV 3 (cI 0)] [2,3])
.ret)
def zh9:ACode:=(.seq (rg [uO 1 (.box 0),
uO 2 (.alloc [.p (.int .i64 0),.p (.int .i64 0),.p (.int .i64 0),.p (.str []),.p (.str []),.p (.str [])]),
mV 3 (cI 0)] [1,2])
(.seq (rg [lD 5 (some 6) 1,
uO 4 (.alloc [.p (.int .i64 0),.p (.int .i64 0),.p (.int .i64 0),.p (.str []),.p (.str []),.p (.str [])]),
wO (.store (some 6) 4 5)] [1,2,4])
(.seq (.block 0 (.seq (rg [fA 18 0 none 1,
lD 19 none 18,
bN 20 .eql 19 (cI 1),
mV 21 20,
gD 22 21 false (.faddr 0 none 1),
gD 23 21 false (.load none 22),
gD 24 21 false (.bin .eql 23 (cI 2)),
uO 25 (.pick 21 cT 24),
mV 26 25,
gD 27 26 false (.faddr 0 none 1),
gD 28 26 false (.load none 27),
gD 29 26 false (.bin .eql 28 (cI 10)),
uO 30 (.pick 26 cT 29),
mV 17 30] [1,2,4,17])
(.cond 17 (.seq (rg [fA 31 1 none 4,
wO (.store none 31 (cI 0))] [1,2,4])
(.seq (rg [fA 32 1 none 1,
lD 33 none 32,
cL 34 z0Q [33],
uO 35 (.un .not 34)] [2,4,35])
(.cond 35 (.seq (rg [lD 36 (some 6) 4,
wO (.store (some 6) 2 36),
mV 3 (cI 1)] [2,3])
.ret)
.skip)))
(.seq (rg [fA 38 0 none 1,
lD 39 none 38,
bN 40 .eql 39 (cI 9),
mV 37 40] [1,2,4,37])
(.cond 37 (.seq (rg [fA 41 2 none 4,
wO (.store none 41 (cI 0))] [1,2,4])
(.seq (rg [fA 42 2 none 1,
lD 43 none 42,
cL 44 DB [43,(cI 0),(cI 20000)]] [2,4,44])
(.cond 44 (.seq (rg [lD 45 (some 6) 4,
wO (.store (some 6) 2 45),
mV 3 (cI 1)] [2,3])
.ret)
.skip)))
(.seq (rg [fA 47 0 none 1,
lD 48 none 47,
cL 49 FU [48],
mV 46 49] [1,2,4,46])
(.cond 46 (.seq (rg [fA 50 3 none 4,
wO (.store none 50 (cS [])),
fA 51 4 none 4,
wO (.store none 51 (cS [])),
fA 52 5 none 4,
wO (.store none 52 (cS []))] [1,2,4])
(.seq (dr [dF (lD 53 (some 6) 4) [4],
dF (lD 54 (some 6) 1) [1],
dA (cL 55 z0O [54]) [54] true [] [0],
dT (wO (.store (some 6) 2 53)) [2,53],
dF (mV 3 55) [55]] [2,3])
.ret))
(.seq (rg [fA 6 3 none 4,
wO (.store none 6 (cS []))] [1,2,4])
(.seq (.seq (rg [fA 7 3 none 1,
lD 8 none 7,
cL 9 bE [8],
uO 10 (.un .not 9)] [1,2,4,10])
(.cond 10 (.seq (rg [lD 11 (some 6) 4,
wO (.store (some 6) 2 11),
mV 3 (cI 9)] [2,3])
.ret)
.skip))
(.seq (rg [fA 12 3 none 1,
lD 13 none 12,
uO 14 (.lens 13),
bN 15 .gtr 14 (cI 2000)] [2,4,15])
(.cond 15 (.seq (rg [lD 16 (some 6) 4,
wO (.store (some 6) 2 16),
mV 3 (cI 2)] [2,3])
.ret)
.skip)))))))))))
zhA)))
def z6r:AFun:=⟨1,[.cell 2 (some 6),.t 3],zh9,false,false⟩
def zhC:ACode:=.pr [5,13,14,15] (.seq (rg [bN 16 .lss 15 14] [5,13,14,15,16])
(.seq (.cond 16 .skip
(.exit 0))
(.seq (.block 1 (.seq (rg [iA 17 (some 6) 13 15,
lD 18 (some 6) 17,
uO 7 (.alloc [.p (.int .i64 0),.p (.int .i64 0),.p (.int .i64 0),.p (.str []),.p (.str []),.p (.str [])]),
wO (.store (some 6) 7 18)] [5,7,13,14,15])
(.seq (.seq (rg [mV 19 5,
uO 20 (.nilchk 19),
fA 21 37 none 20,
lD 22 none 21,
bN 23 .gtr 22 (cI 20000)] [5,7,13,14,15,23])
(.cond 23 (.exit 0)
.skip))
(rg [mV 24 5,
lD 25 (some 6) 7,
cL 26 z0N [24,25]] [5,13,14,15]))))
(rg [bN 27 .add 15 (cI 1),
mV 15 27] [5,13,14,15]))))
def zhD:ACode:=.pr [5] (.seq (rg [mV 28 5,
mV 4 28] [4])
.ret)
def zhB:ACode:=(.seq (rg [mV 4 (.c (.nilp))] [0,1])
(.seq (rg [cL 8 z0R [],
mV 9 1,
uO 10 (.isnil 0 true 9),
uO 11 (.build [.p (.int .i64 0),.p (.int .i64 0),.p (.int .i64 0),.p (.str []),.p (.str []),.p (.str []),.p (.int .i64 0),.p (.int .i64 0),.p (.int .i64 0),.p (.str []),.p (.str []),.p (.str []),.p (.int .i64 0),.p (.int .i64 0),.p (.int .i64 0),.p (.str []),.p (.str []),.p (.str []),.p (.int .i64 0),.p (.int .i64 0),.p (.int .i64 0),.p (.str []),.p (.str []),.p (.str []),.p (.int .i64 0),.p (.int .i64 0),.p (.int .i64 0),.p (.str []),.p (.str []),.p (.str []),.p (.int .i64 0),.p (.int .i64 0),.p (.int .i64 0),.p (.str []),.p (.str []),.p (.str []),.p (.int .i64 0),.p (.int .i64 0),.p (.int .i64 0),.p (.int .i64 0),.sl0 none,.sl0 none,.sl0 none,.sl0 none,.sl0 none,.p (.bool false)] [(0,36,8),(36,1,(cI 0)),(45,1,10)]),
uO 12 (.uns 12 0 [11]),
mV 5 12] [0,5])
(.seq (.seq (rg [mV 13 0,
lN 14 13,
mV 15 (cI 0)] [5,13,14,15])
(.block 0 (.loop (.scope zhC))))
zhD)))
def z6s:AFun:=⟨2,[.t 4],zhB,false,false⟩
def zhE:ACode:=(.seq (rg [mV 8 0,
uO 9 (.nilchk 8),
fA 10 37 none 9,
lD 11 none 10,
bN 12 .add 11 (cI 1),
uO 13 (.nilchk 8),
fA 14 37 none 13,
wO (.store none 14 12)] [0,1,2,3])
(.seq (rg [mV 15 0,
uO 16 (.nilchk 15),
fA 17 45 none 16,
lD 18 none 17] [0,1,2,3,18])
(.cond 18 (dr [dF (mV 19 0) [0],
dF (mV 20 0) [0],
dF (mV 21 0) [0],
dF (mV 22 0) [0],
dF (uO 23 (.nilchk 22)) [22],
dF (fA 24 42 none 23) [23],
dF (lD 25 none 24) [24],
dF (mV 26 1) [1],
dF (uO 27 (.bsl false none 1 (.int .u8 0) [(0,26)])) [26],
dT (uO 28 (.app none 25 27)) [25,27],
dF (mV 29 0) [0],
dF (uO 30 (.nilchk 29)) [29],
dF (fA 31 43 none 30) [30],
dA (lD 32 none 31) [31] false [9] [],
dF (mV 33 2) [2],
dA (uO 34 (.bsl false none 1 (.int .u8 0) [(0,33)])) [33] false [9] [],
dT (uO 35 (.app none 32 34)) [32,34],
dF (mV 36 0) [0],
dF (uO 37 (.nilchk 36)) [36],
dF (fA 38 44 none 37) [37],
dA (lD 39 none 38) [38] false [9,16] [],
dF (mV 40 3) [3],
dA (uO 41 (.bsl false none 1 (.int .u8 0) [(0,40)])) [40] false [9,16] [],
dT (uO 42 (.app none 39 41)) [39,41],
dF (uO 43 (.nilchk 19)) [19],
dF (fA 44 42 none 43) [43],
dT (wO (.store none 44 28)) [44,28],
dF (uO 45 (.nilchk 20)) [20],
dF (fA 46 43 none 45) [45],
dT (wO (.store none 46 35)) [46,35],
dF (uO 47 (.nilchk 21)) [21],
dF (fA 48 44 none 47) [47],
dT (wO (.store none 48 42)) [48,42]] [])
.skip)))
def z6t:AFun:=⟨4,[],zhE,false,false⟩
def zhG:ACode:=.pr [0,3,5,7,9,10,11,12,13,14,93,94] (rg [mV 126 0,
mV 127 13,
mV 128 10,
mV 129 12,
uO 130 (.idxs 128 129),
mV 131 14,
cL 132 BN [126,127,130,131]] [0,3,5,7,9,10,11,93,94])
def zhH:ACode:=.pr [0,3,5,7,9,10,11,12,13,14,93,94] (.seq (.seq (rg [mV 102 12,
mV 103 5,
uO 104 (.lens 103),
bN 105 .sub 102 104,
mV 15 105] [0,3,5,7,9,10,11,12,13,14,15,93,94])
(.seq (rg [mV 106 15,
bN 107 .geq 106 (cI 0),
mV 108 107,
gD 109 108 true (.mv 15),
gD 110 108 true (.faddr 5 none 3),
gD 111 108 true (.load none 110),
gD 112 108 true (.lens 111),
gD 113 108 true (.bin .lss 109 112),
uO 114 (.pick 108 113 cF),
mV 115 114,
gD 116 115 true (.faddr 5 none 3),
gD 117 115 true (.load none 116),
gD 118 115 true (.mv 15),
gD 119 115 true (.idxs 117 118),
gD 120 115 true (.bin .eql 119 (.c (.p (.int .u8 49)))),
uO 121 (.pick 115 120 cF)] [0,3,5,7,9,10,11,12,13,14,15,93,94,121])
(.cond 121 (rg [fA 122 4 none 3,
lD 123 none 122,
mV 124 15,
uO 125 (.idxs 123 124),
mV 14 125] [0,3,5,7,9,10,11,12,13,14,93,94])
.skip)))
zhG)
def zhI:ACode:=.pr [0,3,5,7,9,10,11,93,94] (rg [bN 133 .add 94 (cI 1),
mV 94 133] [0,3,5,7,9,10,11,93,94])
def zhJ:ACode:=.pr [0,3,5,7,9,10,11,93,94] (.seq (rg [bN 95 .lss 94 93] [0,3,5,7,9,10,11,93,94,95])
(.seq (.cond 95 .skip
(.exit 0))
(.seq (.block 1 (.seq (rg [mV 96 94,
mV 12 96] [0,3,5,7,9,10,11,12,93,94])
(.seq (rg [mV 13 (.c (.p (.int .u8 48))),
mV 14 (.c (.p (.int .u8 120)))] [0,3,5,7,9,10,11,12,13,14,93,94])
(.seq (.seq (rg [mV 97 12,
mV 98 10,
uO 99 (.lens 98),
bN 100 .sub 99 (cI 1),
bN 101 .eql 97 100] [0,3,5,7,9,10,11,12,13,14,93,94,101])
(.cond 101 (rg [mV 13 (.c (.p (.int .u8 49)))] [0,3,5,7,9,10,11,12,13,14,93,94])
.skip))
zhH))))
zhI)))
def zhK:ACode:=.pr [0,7,9,11] (.seq (rg [mV 134 0,
mV 135 9,
uO 136 (.nilchk 134),
fA 137 36 none 136,
wO (.store none 137 135)] [0,7,11])
(.seq (rg [mV 138 0,
mV 139 7,
cL 140 LK [138,139]] [11])
(.seq (rg [mV 141 11,
mV 4 141] [4])
.ret)))
def zhL:ACode:=.pr [0,3,5,7,9,10] (.seq (rg [mV 85 0,
uO 86 (.nilchk 85),
fA 87 37 none 86,
lD 88 none 87,
mV 89 5,
uO 90 (.lens 89),
bN 91 .add 88 90,
mV 11 91] [0,3,5,7,9,10,11])
(.seq (.seq (rg [mV 92 10,
uO 93 (.lens 92),
mV 94 (cI 0)] [0,3,5,7,9,10,11,93,94])
(.block 0 (.loop zhJ)))
zhK))
def zhM:ACode:=.pr [0,3,5,6,7,8,9] (.seq (rg [mV 55 0,
mV 56 8,
cL 57 LK [55,56]] [0,3,5,6,7,9])
(.seq (rg [mV 58 5,
fA 59 3 none 3,
lD 60 none 59,
bN 61 .add 58 60,
mV 62 6,
bN 63 .add 61 62,
mV 10 63] [0,3,5,7,9,10])
(.seq (.seq (rg [fA 64 0 none 3,
lD 65 none 64,
bN 66 .eql 65 (cI 7)] [0,3,5,7,9,10,66])
(.cond 66 (rg [mV 67 0,
uO 68 (.nilchk 67),
fA 69 38 none 68,
lD 70 none 69,
mV 71 10,
uO 72 (.lens 71),
bN 73 .add 70 72,
uO 74 (.nilchk 67),
fA 75 38 none 74,
wO (.store none 75 73)] [0,3,5,7,9,10])
(rg [mV 76 0,
uO 77 (.nilchk 76),
fA 78 39 none 77,
lD 79 none 78,
mV 80 10,
uO 81 (.lens 80),
bN 82 .add 79 81,
uO 83 (.nilchk 76),
fA 84 39 none 83,
wO (.store none 84 82)] [0,3,5,7,9,10])))
zhL)))
def zhF:ACode:=(.seq (rg [uO 3 (.box 1),
mV 4 (cI 0)] [0,3])
(.seq (dr [dF (mV 16 0) [0],
dF (uO 17 (.nilchk 16)) [16],
dF (fA 18 0 (some 36) 17) [17],
dF (fA 19 24 (some 6) 18) [18],
dF (fA 20 3 none 19) [19],
dF (lD 21 none 20) [20],
dF (mV 22 0) [0],
dF (uO 23 (.nilchk 22)) [22],
dF (fA 24 0 (some 36) 23) [23],
dF (fA 25 30 (some 6) 24) [24],
dF (fA 26 3 none 25) [25],
dF (lD 27 none 26) [26],
dF (mV 28 0) [0],
dF (uO 29 (.nilchk 28)) [28],
dF (fA 30 0 (some 36) 29) [29],
dF (fA 31 6 (some 6) 30) [30],
dF (fA 32 1 none 31) [31],
dF (lD 33 none 32) [32],
dF (mV 5 21) [21],
dF (mV 6 27) [27],
dF (mV 7 33) [33],
dF (mV 8 (cI 4)) [],
dF (mV 9 (cI 5)) []] [0,3,5,6,7,8,9])
(.seq (.seq (rg [fA 34 0 none 3,
lD 35 none 34,
bN 36 .eql 35 (cI 7)] [0,3,5,6,7,8,9,36])
(.cond 36 (dr [dF (mV 37 0) [0],
dF (uO 38 (.nilchk 37)) [37],
dF (fA 39 0 (some 36) 38) [38],
dF (fA 40 12 (some 6) 39) [39],
dF (fA 41 3 none 40) [40],
dF (lD 42 none 41) [41],
dF (mV 43 0) [0],
dF (uO 44 (.nilchk 43)) [43],
dF (fA 45 0 (some 36) 44) [44],
dF (fA 46 18 (some 6) 45) [45],
dF (fA 47 3 none 46) [46],
dF (lD 48 none 47) [47],
dF (mV 49 0) [0],
dF (uO 50 (.nilchk 49)) [49],
dF (fA 51 0 (some 36) 50) [50],
dF (fA 52 0 (some 6) 51) [51],
dF (fA 53 1 none 52) [52],
dF (lD 54 none 53) [53],
dF (mV 5 42) [42],
dF (mV 6 48) [48],
dF (mV 7 54) [54],
dF (mV 8 (cI 11)) [],
dF (mV 9 (cI 12)) []] [0,3,5,6,7,8,9])
.skip))
zhM)))
def z6u:AFun:=⟨2,[.t 4],zhF,false,false⟩
def zhN:ACode:=.pr [0,4,35,36] (.seq (rg [bN 37 .lss 36 35] [0,4,35,36,37])
(.seq (.cond 37 .skip
(.exit 1))
(.seq (.block 2 (rg [mV 38 0,
cL 39 BN [38,(.c (.p (.int .u8 48))),(.c (.p (.int .u8 48))),(.c (.p (.int .u8 120)))]] [0,4,35,36]))
(rg [bN 40 .add 36 (cI 1),
mV 36 40] [0,4,35,36]))))
def zhO:ACode:=.pr [0,4] (.seq (dr [dF (mV 41 0) [0],
dF (mV 42 0) [0],
dF (uO 43 (.nilchk 42)) [42],
dF (fA 44 40 none 43) [43],
dF (lD 45 none 44) [44],
dF (mV 46 0) [0],
dF (uO 47 (.nilchk 46)) [46],
dF (fA 48 36 none 47) [47],
dF (lD 49 none 48) [48],
dF (uO 50 (.bsl false none 1 (.int .i64 0) [(0,49)])) [49],
dT (uO 51 (.app none 45 50)) [45,50],
dF (uO 52 (.nilchk 41)) [41],
dF (fA 53 40 none 52) [52],
dT (wO (.store none 53 51)) [53,51]] [0,4])
(rg [mV 54 0,
mV 55 0,
uO 56 (.nilchk 55),
fA 57 41 none 56,
lD 58 none 57,
mV 59 4,
uO 60 (.bsl false none 1 (.int .i64 0) [(0,59)]),
uO 61 (.app none 58 60),
uO 62 (.nilchk 54),
fA 63 41 none 62,
wO (.store none 63 61)] []))
def z5h (q1 q2:ACode):ACode:=(.seq (rg [uO 3 (.box 1)] [0,3])
(.seq (rg [mV 4 (cI 0)] [0,3,4])
(.seq (.block 0 (.seq (rg [fA 10 0 none 3,
lD 11 none 10,
cL 12 z0K [11],
mV 9 12] [0,3,4,9])
(.cond 9 (dr [dF (mV 13 0) [0],
dF (uO 14 (.nilchk 13)) [13],
dF (fA 15 0 (some 36) 14) [14],
dF (fA 16 0 none 3) [3],
dF (lD 17 none 16) [16],
dT (cL 18 z0P [15,17]) [15,17],
dA (lD 19 (some 6) 3) [3] false [5] [],
dF (uO 20 (.nilchk 18)) [18],
dT (wO (.store (some 6) 20 19)) [20,19]] [0,4])
(.seq (rg [fA 22 0 none 3,
lD 23 none 22,
cL 24 FU [23],
mV 21 24] [0,3,4,21])
(.cond 21 (rg [mV 25 0,
lD 26 (some 6) 3,
cL 27 z0M [25,26],
mV 4 27] [0,4])
(.seq (rg [fA 29 0 none 3,
lD 30 none 29,
bN 31 .eql 30 (cI 9),
mV 28 31] [0,3,4,28])
(.cond 28 (.seq (rg [mV 32 0,
cL 33 LK [32,(cI 1)]] [0,3,4])
(.seq (rg [fA 34 2 none 3,
lD 35 none 34,
mV 36 (cI 0)] [0,4,35,36])
(.block 1 (.loop q1))))
(rg [mV 5 0,
fA 6 1 none 3,
lD 7 none 6,
cL 8 LK [5,7]] [0,4]))))))))
q2)))
def z6v:AFun:=⟨2,[],z5h zhN zhO,false,false⟩
def zhQ:ACode:=.pr [0,1,4,17,18] (.seq (rg [bN 19 .lss 18 17] [0,1,4,17,18,19])
(.seq (.cond 19 .skip
(.exit 0))
(.seq (.block 1 (.seq (rg [mV 20 18,
mV 6 20] [0,1,4,6,17,18])
(rg [mV 21 0,
mV 22 4,
mV 23 6,
uO 24 (.idxs 22 23),
cL 25 BN [21,24,(.c (.p (.int .u8 48))),(.c (.p (.int .u8 120)))]] [0,1,4,17,18])))
(rg [bN 26 .add 18 (cI 1),
mV 18 26] [0,1,4,17,18]))))
def zhR:ACode:=.pr [0,1] (rg [mV 27 0,
mV 28 1,
uO 29 (.nilchk 27),
fA 30 36 none 29,
wO (.store none 30 28)] [])
def zhP:ACode:=(.seq (rg [mV 8 0,
uO 9 (.nilchk 8),
fA 10 36 none 9,
lD 11 none 10,
mV 12 1,
cL 13 z0H [11,12],
mV 7 13,
eX 14 7 0,
eX 15 7 1,
mV 4 14,
mV 5 15] [0,1,4])
(.seq (.seq (rg [mV 16 4,
uO 17 (.lens 16),
mV 18 (cI 0)] [0,1,4,17,18])
(.block 0 (.loop zhQ)))
zhR))
def z6w:AFun:=⟨2,[],zhP,false,false⟩
def zhS:ACode:=(.seq (rg [uO 1 (.box 0),
mV 2 (cI 0)] [1])
(.seq (.block 0 (.seq (rg [fA 4 3 none 1,
lD 5 none 4,
bN 6 .eql 5 (cS []),
mV 3 6] [1,3])
(.cond 3 (.seq (rg [mV 2 (cI 8)] [2])
.ret)
(.seq (rg [fA 8 3 none 1,
lD 9 none 8,
cL 10 bE [9],
uO 11 (.un .not 10),
mV 7 11] [1,7])
(.cond 7 (.seq (rg [mV 2 (cI 9)] [2])
.ret)
(.seq (rg [fA 13 3 none 1,
lD 14 none 13,
uO 15 (.lens 14),
bN 16 .gtr 15 (cI 2000),
mV 12 16] [1,12])
(.cond 12 (.seq (rg [mV 2 (cI 2)] [2])
.ret)
(.seq (rg [fA 18 4 none 1,
lD 19 none 18,
bN 20 .neq 19 (cS []),
mV 21 20,
gD 22 21 true (.faddr 4 none 1),
gD 23 21 true (.load none 22),
gD 24 21 true (.lens 23),
gD 25 21 true (.faddr 3 none 1),
gD 26 21 true (.load none 25),
gD 27 21 true (.lens 26),
gD 28 21 true (.bin .neq 24 27),
gD 29 21 true (.mv 28),
gD 30 29 false (.faddr 5 none 1),
gD 31 29 false (.load none 30),
gD 32 29 false (.lens 31),
gD 33 29 false (.faddr 3 none 1),
gD 34 29 false (.load none 33),
gD 35 29 false (.lens 34),
gD 36 29 false (.bin .neq 32 35),
gD 37 21 true (.pick 29 cT 36),
uO 38 (.pick 21 37 cF),
mV 17 38] [1,17])
(.cond 17 (.seq (rg [mV 2 (cI 3)] [2])
.ret)
(.seq (rg [fA 40 4 none 1,
lD 41 none 40,
cL 42 bE [41],
uO 43 (.un .not 42),
mV 44 43,
gD 45 44 false (.faddr 5 none 1),
gD 46 44 false (.load none 45),
gD 47 44 false (.call bE [46]),
gD 48 44 false (.un .not 47),
uO 49 (.pick 44 cT 48),
mV 39 49] [1,39])
(.cond 39 (.seq (rg [mV 2 (cI 9)] [2])
.ret)
(.seq (rg [fA 51 4 none 1,
lD 52 none 51,
bN 53 .eql 52 (cS []),
mV 54 53,
gD 55 54 true (.faddr 5 none 1),
gD 56 54 true (.load none 55),
gD 57 54 true (.bin .neq 56 (cS [])),
uO 58 (.pick 54 57 cF),
mV 50 58] [50])
(.cond 50 (.seq (rg [mV 2 (cI 3)] [2])
.ret)
.skip)))))))))))))
(.seq (rg [mV 2 (cI 0)] [2])
.ret)))
def z6x:AFun:=⟨1,[.t 2],zhS,false,false⟩
def zhT:ACode:=(.seq (rg [mV 4 (.c (.nilp))] [0,1])
(.seq (.seq (rg [mV 5 1] [0,5])
(.block 0 (.seq (rg [bN 7 .eql 5 (cI 1),
mV 6 7] [0,5,6])
(.cond 6 (.seq (rg [mV 8 0,
uO 9 (.nilchk 8),
fA 10 0 (some 6) 9,
mV 4 10] [4])
.ret)
(.seq (rg [bN 12 .eql 5 (cI 2),
mV 11 12] [0,5,11])
(.cond 11 (.seq (rg [mV 13 0,
uO 14 (.nilchk 13),
fA 15 6 (some 6) 14,
mV 4 15] [4])
.ret)
(.seq (rg [bN 17 .eql 5 (cI 3),
mV 16 17] [0,5,16])
(.cond 16 (.seq (rg [mV 18 0,
uO 19 (.nilchk 18),
fA 20 12 (some 6) 19,
mV 4 20] [4])
.ret)
(.seq (rg [bN 22 .eql 5 (cI 4),
mV 21 22] [0,5,21])
(.cond 21 (.seq (rg [mV 23 0,
uO 24 (.nilchk 23),
fA 25 18 (some 6) 24,
mV 4 25] [4])
.ret)
(.seq (rg [bN 27 .eql 5 (cI 5),
mV 26 27] [0,26])
(.cond 26 (.seq (rg [mV 28 0,
uO 29 (.nilchk 28),
fA 30 24 (some 6) 29,
mV 4 30] [4])
.ret)
.skip))))))))))))
(.seq (rg [mV 31 0,
uO 32 (.nilchk 31),
fA 33 30 (some 6) 32,
mV 4 33] [4])
.ret)))
def z6y:AFun:=⟨2,[.t 4],zhT,false,false⟩
def zhU:ACode:=(.seq (rg [mV 2 cF] [0])
(.seq (rg [mV 3 0,
bN 4 .eql 3 (cI 0),
mV 5 4,
gD 6 5 false (.mv 0),
gD 7 5 false (.bin .eql 6 (cI 1)),
uO 8 (.pick 5 cT 7),
mV 9 8,
gD 10 9 false (.mv 0),
gD 11 9 false (.bin .eql 10 (cI 6)),
uO 12 (.pick 9 cT 11),
mV 13 12,
gD 14 13 false (.mv 0),
gD 15 13 false (.bin .eql 14 (cI 13)),
uO 16 (.pick 13 cT 15),
mV 2 16] [2])
.ret))
def z6z:AFun:=⟨1,[.t 2],zhU,false,false⟩
def zhV:ACode:=(.seq (rg [uO 0 (.alloc [.p (.int .i64 0),.p (.int .i64 0),.p (.int .i64 0),.p (.str []),.p (.str []),.p (.str []),.p (.int .i64 0),.p (.int .i64 0),.p (.int .i64 0),.p (.str []),.p (.str []),.p (.str []),.p (.int .i64 0),.p (.int .i64 0),.p (.int .i64 0),.p (.str []),.p (.str []),.p (.str []),.p (.int .i64 0),.p (.int .i64 0),.p (.int .i64 0),.p (.str []),.p (.str []),.p (.str []),.p (.int .i64 0),.p (.int .i64 0),.p (.int .i64 0),.p (.str []),.p (.str []),.p (.str []),.p (.int .i64 0),.p (.int .i64 0),.p (.int .i64 0),.p (.str []),.p (.str []),.p (.str [])])] [0])
(.seq (rg [uO 1 (.build [.p (.int .i64 0),.p (.int .i64 0),.p (.int .i64 0),.p (.str []),.p (.str []),.p (.str [])] [(0,1,(cI 1)),(1,1,(cI 1))]),
uO 2 (.build [.p (.int .i64 0),.p (.int .i64 0),.p (.int .i64 0),.p (.str []),.p (.str []),.p (.str [])] [(0,1,(cI 2)),(1,1,(cI 1))]),
uO 3 (.build [.p (.int .i64 0),.p (.int .i64 0),.p (.int .i64 0),.p (.str []),.p (.str []),.p (.str [])] [(0,1,(cI 3))]),
uO 4 (.build [.p (.int .i64 0),.p (.int .i64 0),.p (.int .i64 0),.p (.str []),.p (.str []),.p (.str [])] [(0,1,(cI 4))]),
uO 5 (.build [.p (.int .i64 0),.p (.int .i64 0),.p (.int .i64 0),.p (.str []),.p (.str []),.p (.str [])] [(0,1,(cI 5))]),
uO 6 (.build [.p (.int .i64 0),.p (.int .i64 0),.p (.int .i64 0),.p (.str []),.p (.str []),.p (.str [])] [(0,1,(cI 6))]),
uO 7 (.build [.p (.int .i64 0),.p (.int .i64 0),.p (.int .i64 0),.p (.str []),.p (.str []),.p (.str []),.p (.int .i64 0),.p (.int .i64 0),.p (.int .i64 0),.p (.str []),.p (.str []),.p (.str []),.p (.int .i64 0),.p (.int .i64 0),.p (.int .i64 0),.p (.str []),.p (.str []),.p (.str []),.p (.int .i64 0),.p (.int .i64 0),.p (.int .i64 0),.p (.str []),.p (.str []),.p (.str []),.p (.int .i64 0),.p (.int .i64 0),.p (.int .i64 0),.p (.str []),.p (.str []),.p (.str []),.p (.int .i64 0),.p (.int .i64 0),.p (.int .i64 0),.p (.str []),.p (.str []),.p (.str [])] [(0,6,1),(6,6,2),(12,6,3),(18,6,4),(24,6,5),(30,6,6)]),
wO (.store (some 36) 0 7)] [0])
.ret))
def z60:AFun:=⟨0,[.cell 0 (some 36)],zhV,false,false⟩
end Go.Am
end
section
/- The abstract machine,part L: functions of the library that are met by the kit's contracts: plain values in,plain values out,new memory at most. -/
set_option linter.unusedSimpArgs false
set_option linter.unusedVariables false
namespace Go.Am
variable {P:Program} {gl:Nat→Option PV}
structure PureRow (P:Program) (gl:Nat→Option PV) (f:Nat) (spec:List PV→Option AV):Prop where
 enter:∀us w,(callFunc f us).run P w = .ok (.enter f us) w
 run:∀(M:Mem) (w:World) (vs:List PV) (r:AV) (us:List Value),(∀b o v,M.c b o=some v→w.cell? ⟨b,o,none⟩=some v)→(∀b o,M.b b=some o→w.heap[b]?=some o)→fD gl M→vs.length=us.length →
  (∀(j:Nat) (y:PV) (v:Value),vs[j]?=some y→us[j]?=some v→RPV M y v)→spec vs=some r →
  Calls P f us.toArray w fun e w'=>∃x,e = .returned x∧WExt w w'∧RAV (eD M w w') [] [] r x
abbrev MC:=List (Nat × (List PV→Option AV))
def aG:MC→Nat→List AV→aA→Option (AV × aA × Esc)
 | [],_,_,_=>none
 | (g,s)::r,f,asv,h=>bif Nat.beq f g then((unp asv).bind s).map fun v=>(v,h,[]) else aG r f asv h
theorem FW:∀ (gs:MC),(∀ g s,(g,s)∈gs→PureRow P gl g s)→∀ {f:Nat} {asv:List AV} {h:aA} {v:AV} {h':aA} {x:Esc},aG gs f asv h=some (v,h',x) →
 EB P gl f asv h fun v1 h1 x1=>v1=v∧h1=h'∧x1=x
 | [],_,f,asv,h,v,h',x,H=>by cases H
 | (g,s)::r,hg,f,asv,h,v,h',x,H=>by
  unfold aG at H;cases e1:Nat.beq f g with
  | false=>
   rw[e1]at H;exact FW r (fun g sh hm=>hg g sh (by simp [hm])) H
  | true=>
   rw[e1]at H;have e:=Nat.eq_of_beq_eq_true e1
   subst e;have R:=hg f s (by simp)
   simp only[cond_true]at H;obtain⟨y,hy,e2⟩:=Option.map_eq_some_iff.1 H;simp only[Prod.mk.injEq]at e2;obtain⟨rfl,rfl,rfl⟩:=e2;obtain⟨ps,hps,hs⟩:=Option.bind_eq_some_iff.1 hy;have hm:=vJ hps
   subst hm;intro μ w vs Hh Hg hl hr;refine .inl ⟨R.enter _,?_⟩;refine(R.run (imm h μ w) w ps y vs (fun b o v hv=>(tC.1 hv).2) (fun b o hv=>(LF.1 hv).2) Hg (by simpa using hl) (fun j q v hq hv=>(hr j (.p q) v (by simp [hq]) hv).p_inv) hs).mono fun e w' he=>?_
   obtain⟨u,rfl,g1,g2⟩:=he;obtain⟨n1,n2⟩:=Hh.ext g1;have Lq:(eD (imm h μ w) w w').le (imm h μ w'):=by
    refine⟨fun b o v hv=>?_,fun b o hv=>?_,rfl,fun _ _ h=>by cases h⟩
    ·dsimp only[eD]at hv
     split at hv
     ·exact n2.le.c _ _ _ hv
     ·rename_i hb
      exact tC.2 ⟨fun hO=>hb (fO Hh hO),hv⟩
    ·dsimp only[eD]at hv
     cases hv
   exact⟨_,_,_,μ,⟨rfl,rfl,rfl⟩,g2.evo ⟨Lq,Nat.zero_le _,fun id o m h1=>by simp at h1⟩,n1,n2,mA.refl h []⟩
def zE (gs:List (Nat × Sh))(ps:MC)(f:Nat)(asv:List AV)(h:aA):Option (AV×aA×Esc):=match YH gs f asv h with
 | some y=>some y
 | none=>match aG ps f asv h with
  | some y=>some y
  | none=>match nA h asv with
   | some (asv',h1)=>aG ps f asv' h1
   | none=>none
theorem zin {ps:MC}(hp:∀ g s,(g,s)∈ps→PureRow P gl g s){f:Nat}{asv asv':List AV}{h h1:aA}{v:AV}{h':aA}{x:Esc}(hq:nA h asv=some (asv',h1))(H:aG ps f asv' h1=some (v,h',x)) :
 EB P gl f asv h fun v1 h2 x1=>v1=v∧h2=h'∧x1=x:=by
 intro μ w vs Hh Hg hl hr;obtain⟨q1,q2,q3⟩:=PP asv Hh hl hr hq;rcases FW ps hp H μ w vs q1.1 (Hg.mono q1.2.1.le) q2 q3 with⟨k1,k2⟩|⟨r,w',v2,h2,x2,μ',k1,k2,k3,k4,k5,k6⟩
 ·refine .inl ⟨k1,k2.mono fun e w' he=>?_⟩
  cases e with
  | returned r=>
   obtain⟨v2,h2,x2,μ',k2,k3,k4,k5,k6⟩:=he;exact⟨v2,h2,x2,μ',k2,k3,k4,q1.2.1.trans k5,by simpa using q1.2.2.trans k6⟩
  | panicked _=>exact he
  | outgrown=>exact he
 ·exact .inr ⟨r,w',v2,h2,x2,μ',k1,k2,k3,k4,q1.2.1.trans k5,by simpa using q1.2.2.trans k6⟩
theorem zex {gs:List (Nat × Sh)}{ps:MC}(hg:∀ g sh,(g,sh)∈gs→GrowRow P g sh)(hp:∀ g s,(g,s)∈ps→PureRow P gl g s){f:Nat}{asv:List AV}{h:aA}{v:AV}{h':aA}{x:Esc}(H:zE gs ps f asv h=some (v,h',x)) :
 EB P gl f asv h fun v1 h1 x1=>v1=v∧h1=h'∧x1=x:=by
 unfold zE at H;split at H
 ·rename_i y hy
  cases H;exact z1F gs hg hy
 ·split at H
  ·rename_i y hy
   cases H;exact FW ps hp hy
  ·split at H
   ·rename_i asv' h1 hq
    exact zin hp hq H
   ·cases H
theorem QN {X:Ctx}{f:Nat}{asv:List AV}{h h':aA}{v:AV}{x:Esc}{K:jA}(hf:X.fn f=none)(hx:X.ex2 f asv h=some (v,h',x)):eA X f asv h K=K v h' x:=by
 refine propext (eA.eq (eA.fold ?_) K);unfold IB;simp only[hf,hx];exact⟨trivial,trivial,trivial⟩
def GN:List (Nat × Sh)→Nat→Option Sh
 | [],_=>none
 | (g,s)::r,f=>bif Nat.beq f g then some s else GN r f
theorem z1E:∀ {gs:List (Nat × Sh)} {f:Nat} {asv:List AV} {h:aA},GN gs f=none→YH gs f asv h=none
 | [],f,asv,h,_=>rfl
 | (g,s)::r,f,asv,h,hm=>by
  unfold GN at hm;unfold YH;cases hq:Nat.beq f g with
  | true=>rw[hq]at hm;cases hm
  | false=>rw[hq]at hm;exact z1E hm
def QP:MC→Nat→Option (List PV→Option AV)
 | [],_=>none
 | (g,s)::r,f=>bif Nat.beq f g then some s else QP r f
theorem z2F:∀ {gs:MC} {f:Nat} {s:List PV→Option AV} {asv:List AV} {h:aA},QP gs f=some s→aG gs f asv h=((unp asv).bind s).map fun v=>(v,h,[])
 | [],f,s,asv,h,hm=>by cases hm
 | (g,s')::r,f,s,asv,h,hm=>by
  unfold QP at hm;unfold aG;cases hq:Nat.beq f g with
  | true=>rw[hq]at hm;cases hm;rfl
  | false=>rw[hq]at hm;exact z2F hm
theorem z1Y {gs:List (Nat × Sh)}{ps:MC}{f:Nat}{s:List PV→Option AV}{asv:List AV}{vs:List PV}{v:AV}{h:aA}(hg:GN gs f=none)(hm:QP ps f=some s)(hu:unp asv=some vs)(hv:s vs=some v):zE gs ps f asv h=some (v,h,[]):=by
 unfold zE;rw[z1E hg,z2F hm,hu];simp [hv]
def glOf:List (Nat × PV)→Nat→Option PV
 | [],_=>none
 | (g,v)::r,n=>bif Nat.beq n g then some v else glOf r n
theorem zlz {f:Nat}(h:(match P.funcs[f]? with | some fn=>fn.body.isSome&&fn.name != "runtime.NumGoroutine" | none=>false)=true)(us:Array Value)(w:World):(callFunc f us).run P w = .ok (.enter f us) w:=by
 cases hf:P.funcs[f]? with
 | none=>rw[hf]at h;cases h
 | some fn=>
  rw[hf]at h;simp only[Bool.and_eq_true,bne_iff_ne,ne_eq]at h;cases hb:fn.body with
  | none=>rw[hb]at h;cases h.1
  | some c=>exact mU hf hb h.2 us w
theorem zl1 {M:Mem}:fD (glOf []) M:=fun n v hv=>by cases hv
def CD (s:List UInt8):Nat→List UInt8
 | 0=>[]
 | c+1=>s++CD s c
def fJ:List PV→Option AV
 | [.str s,.int .i64 c]=>if 0≤c∧s.length*c.toNat≤1000000∧c≤1000000 then some (.p (.str (CD s c.toNat))) else none
 | _=>none
def yL (s cs:List UInt8):List UInt8:=(s.reverse.dropWhile (cs.contains ·)).reverse.dropWhile (cs.contains ·)
def trimS:List PV→Option AV
 | [.str s,.str cs]=>if s.length≤1000000∧cs.length≤1000∧cs.all (fun b=>decide (b.toNat<128))=true then some (.p (.str (yL s cs))) else none
 | _=>none
end Go.Am
end
section
/- The abstract machine,part C: BB calls that say true,asv contracts. -/
set_option linter.all false
namespace Go.Am
variable {P:Program} {gl:Nat→Option PV}
def oX:List PV→Option AV
 | []=>some (AB true)
 | _=>none
theorem RPV.mono' {M M':Mem}(hM:∀ b o v,M.c b o=some v→M'.c b o=some v){v:PV}{x:Value}(H:RPV M v x):RPV M' v x:=by
 induction H with
 | int k n=>exact .int k n
 | bool b=>exact .bool b
 | str s=>exact .str s
 | nilp=>exact .nilp
 | unk k n=>exact .unk k n
 | nils sh a cap=>exact .nils sh a cap
 | sl sh xs b o cap f hne hc he hm hr ih=>exact .sl sh xs b o cap f hne hc he (fun j y hy=>hM _ _ _ (hm j y hy)) ih
 | agg cs vs hl hr ih=>exact .agg cs vs hl ih
theorem fD.mono' {M M':Mem}(hc:∀ b o v,M.c b o=some v→M'.c b o=some v)(hb:∀ b o,M.b b=some o→M'.b b=some o)(H:fD gl M):fD gl M':=fun n v hv=>by
 obtain⟨h1,cs,t,x,h2,h3⟩:=H n v hv;refine⟨?_,cs,t,x,hb _ _ h2,h3⟩;cases h1 with|vp _ _ _ f hm hr=>exact .vp v n 0 f (fun j y hy=>hc _ _ _ (hm j y hy)) (fun j y hy=>(hr j y hy).mono' hc)
theorem zl2 {X:Ctx}(HX:Fits P X){f:Nat}(H:eA X f [] [] fun v h x=>v=AB true∧h=[]∧x=[])(he:∀ us w,(callFunc f us).run P w = .ok (.enter f us) w):PureRow P X.gl f oX:=by
 refine⟨he,fun M w vs r us hc hb hG hl hr hs=>?_⟩
 cases vs with
 | cons a l=>cases hs
 | nil=>
  have hu:us=[]:=List.length_eq_zero_iff.1 (by simpa using hl.symm)
  subst hu;simp only[oX,Option.some.injEq]at hs;subst hs;have hno:∀b o,¬LE ([]:aA) ([]:Mu) b o:=fun b o ⟨id,n,h1,_⟩=>by simp at h1
  have hnt:∀b,¬nH ([]:Mu) b:=fun b ⟨id,n,h1⟩=>by simp at h1
  have hG':fD X.gl (imm [] [] w):=hG.mono' (fun b o v h=>tC.2 ⟨hno b o,hc b o v h⟩) (fun b o h=>LF.2 ⟨hnt b,hb b o h⟩)
  have hR:HeapRel [] [] w:=⟨rfl,fun id o m h1=>by simp at h1,fun i j b n n' h1=>by simp at h1,fun i b n h1=>by simp at h1⟩
  rcases EY HX H [] w [] hR hG' rfl (fun j y v h1=>by simp at h1) with⟨_,q⟩|⟨r,w',v,h',x,μ',q,_⟩
  ·refine q.mono fun e w' h=>?_
   cases e with
   | panicked _=>exact h.elim
   | outgrown=>exact h.elim
   | returned r=>
    obtain⟨v,h',x,μ',⟨rfl,rfl,rfl⟩,h1,h2,h3,h4⟩:=h;have hm:μ'=[]:=List.length_eq_zero_iff.1 (by simpa using h2.len)
    subst hm;have hbl:∀b o,w.heap[b]?=some o→w'.heap[b]?=some o:=fun b o h=>(LF.1 (h3.le.b b o (LF.2 ⟨hnt b,h⟩))).2
    refine⟨r,rfl,⟨?_,fun b hb=>?_,?_⟩,?_⟩
    ·rcases Nat.lt_or_ge w'.heap.size w.heap.size with q|q
     ·have:=hbl w'.heap.size _ (Array.getElem?_eq_getElem q)
      simp at this
     ·exact q
    ·rw[hbl b _ (Array.getElem?_eq_getElem hb),Array.getElem?_eq_getElem hb]
    ·have:=h3.le.z
     simpa [imm] using this
    ·have:=h1.p_bool
     rw[this];exact .p _ _ (.bool true)
  ·rw[he]at q
   cases q
end Go.Am
end
section
/- The abstract machine,part K: slices.Sorted(maps.Keys(m)) at a map keyed by strings: its keys,sorted;met by the kit's contract. -/
set_option linter.all false
namespace Go.Am
variable {P:Program} {gl:Nat→Option PV}
def z3O (ss:List (List UInt8)):List (List UInt8):=ss.mergeSort fun x y=>decide (x≤y)
def LN:List ME→Option (List (List UInt8))
 | []=>some []
 | e::r=>match e.key with
  | .str s=>(LN r).map (s :: ·)
  | _=>none
theorem z1S:∀ {es:List ME} {ss:List (List UInt8)},LN es=some ss→es.map (·.key)=ss.map .str
 | [],ss,h=>by cases h;rfl
 | e::r,ss,h=>by
  unfold LN at h;split at h
  ·rename_i s hs
   obtain⟨t,ht,rfl⟩:=Option.map_eq_some_iff.1 h;simp [hs,z1S ht]
  ·cases h
def yJ (w w':World)(x:Value)(ss:List (List UInt8)):Prop:=(ss=[]∧x = .slice none 0 0) ∨
 ∃b cap,x = .slice (some ⟨b,0,none⟩) ss.length cap∧w.heap.size≤b∧ss.length≤cap∧∀(j:Nat) (s:List UInt8),ss[j]?=some s→w'.cell? ⟨b,j,none⟩=some (.string ⟨s.toArray⟩)
theorem yJ.rpv {M:Mem}{w w':World}{x:Value}{ss:List (List UInt8)}(h:yJ w w' x ss):RPV (eD M w w') (.sl none (ss.map .str)) x:=by
 rcases h with⟨rfl,rfl⟩|⟨b,cap,rfl,hb,hc,hx⟩
 ·exact .nils _ _ _
 ·cases hs:ss with
  | nil=>exact .nils _ _ _
  | cons s0 r=>
   rw[←hs];have hne:ss≠[]:=by rw[hs];simp
   have hfl:(ss.map PV.str).flatMap PV.cells=ss.map PV.str:=by
    rw[List.flatMap_map];clear hx hc hne hs;induction ss with
    | nil=>rfl
    | cons a t ih=>rw[List.flatMap_cons,ih];rfl
   have:=RPV.sl (M:=eD M w w') none (ss.map .str) b 0 cap (fun j=>.string ⟨(ss.getD j []).toArray⟩) (by simpa using hne) (by simpa using hc) (fun x hx=>by
    obtain⟨s,_,rfl⟩:=List.mem_map.1 hx;rfl) (fun j y hy=>by
    rw[hfl,List.getElem?_map]at hy;obtain⟨s,hs,rfl⟩:=Option.map_eq_some_iff.1 hy;show(if b<w.heap.size then M.c b (0+j) else w'.cell? ⟨b,0+j,none⟩)=_
    rw[if_neg (by omega),Nat.zero_add,hx j s hs]
    simp [List.getD,hs]) (fun j y hy=>by
    rw[hfl,List.getElem?_map]at hy;obtain⟨s,hs,rfl⟩:=Option.map_eq_some_iff.1 hy;simp only[List.getD,hs,Option.getD_some];exact .str s)
   simpa using this
structure KeysRow (P:Program) (f g:Nat):Prop where
 enter:∀us w,(callFunc f us).run P w = .ok (.enter f us) w
 run:∀(w:World) (bq bm clk:Nat) (ces:Array MapEntry) (ss:List (List UInt8)),w.cell? ⟨bq,0,none⟩=some (.map (some bm))→w.heap[bm]?=some (.map ces clk) →
  ces.toList.map (·.key)=ss.map (fun s=>Value.string ⟨s.toArray⟩)→(∀x∈ces.toList,x.born<clk)→(ces.toList.map (·.born)).Nodup→ss.Nodup→(∀s∈ss,s.length≤maxLen)→ss.length≤1000000 →
  Calls P f #[.func (.func g) #[] #[.pointer (some ⟨bq,0,none⟩)]] w fun e w'=>∃x,e = .returned x∧WExt w w'∧yJ w w' x (z3O ss)
 nil:∀(w:World) (bq:Nat),w.cell? ⟨bq,0,none⟩=some (.map none) →
  Calls P f #[.func (.func g) #[] #[.pointer (some ⟨bq,0,none⟩)]] w fun e w'=>∃x,e = .returned x∧WExt w w'∧yJ w w' x []
def z1U (es:List ME):Option (List (List UInt8)):=match LN es with
 | some ss=>if ss.Nodup∧(es.map (·.born)).Nodup∧ss.length≤1000000∧∀s∈ss,s.length≤maxLen then some (z3O ss) else none
 | none=>none
abbrev FD:=List (Nat × Nat)
def NN:FD→Nat→List AV→aA→Option (AV × aA × Esc)
 | [],_,_,_=>none
 | (g,m)::r,f,asv,h=>bif Nat.beq f g&&(match asv with
  | [.fn k [.ref _ 0]]=>Nat.beq k m
  | _=>false) then(match asv with
  | [.fn _ [.ref q 0]]=>(match h[q]? with
   | some (.box [.mp id])=>(match h[id]? with
    | some (.amap es _)=>(z1U es).map fun ss=>(.p (.sl none (ss.map .str)),h,[])
    | _=>none)
   | some (.box [.nilm])=>some (.p (.sl none []),h,[])
   | _=>none)
  | _=>none) else NN r f asv h
theorem z1T:∀ (gs:FD),(∀ g m,(g,m)∈gs→KeysRow P g m)→∀ {f:Nat} {asv:List AV} {h:aA} {v:AV} {h':aA} {x:Esc},NN gs f asv h=some (v,h',x) →
 EB P gl f asv h fun v1 h1 x1=>v1=v∧h1=h'∧x1=x
 | [],_,f,asv,h,v,h',x,H=>by cases H
 | (g,m)::r,hg,f,asv,h,v,h',x,H=>by
  unfold NN at H;rw[Bool.cond_eq_ite]at H;generalize hbb:(Nat.beq f g&&_)=bb at H;cases bb with
  | true=>
   rw[if_pos rfl]at H;rw[Bool.and_eq_true]at hbb;obtain⟨hf,hb⟩:=hbb;have e:=Nat.eq_of_beq_eq_true hf
   subst e;split at hb
   ·rename_i k q
    have e:=Nat.eq_of_beq_eq_true hb
    subst e;have R:=hg f k (by simp)
    have key:∃ss:List (List UInt8),(v,h',x)=(.p (.sl none (ss.map .str)),h,[])∧∀(μ:Mu) (w:World) (u:Value),HeapRel h μ w→RAV (imm h μ w) h μ (.fn k [.ref q 0]) u →
     Calls P f #[u] w fun e w'=>∃x,e = .returned x∧WExt w w'∧yJ w w' x ss:=by
     have arg:∀(μ:Mu) (w:World) (u:Value) (cs:List AV),h[q]?=some (.box cs)→HeapRel h μ w→RAV (imm h μ w) h μ (.fn k [.ref q 0]) u →
      ∀a,cs[0]?=some a→∃b v,u = .func (.func k) #[] #[.pointer (some ⟨b,0,none⟩)]∧w.cell? ⟨b,0,none⟩=some v∧RAV (imm h μ w) h μ a v:=by
      intro μ w u cs hq Hh hu a ha;cases hu with
      | fn _ _ vs hl hr=>
       match vs,hl with
       | [u0],_=>
        have q0:=hr 0 _ u0 rfl rfl
        cases q0 with
        | ref _ _ b n cs' ho hm=>
         have O:=Hh.obj q _ _ hq hm
         obtain⟨b',c,e1,B,hc⟩:=O;cases e1;obtain⟨_,v,hv,hR⟩:=hc 0 a ha;obtain⟨_,E,lo,hi,hB,_⟩:=B;refine⟨b,v,rfl,?_,hR⟩;simp only[World.cell?,hB];simpa using hv
     split at H;case h_2=>cases H
     rename_i k' q' hq0;cases hq0;split at H
     ·rename_i id hq
      split at H
      ·rename_i es c hid
       obtain⟨ss,hk,e2⟩:=Option.map_eq_some_iff.1 H;refine⟨ss,e2.symm,fun μ w u Hh hu=>?_⟩
       obtain⟨b,v,rfl,hcell,hR⟩:=arg μ w u _ hq Hh hu _ rfl;unfold z1U at hk;split at hk
       ·rename_i s0 hs0
        split at hk
        ·rename_i hc
         cases hk;obtain⟨k1,k2,k3,k4⟩:=hc
         cases hR with
         | mp _ bm nm es' c' ho hm=>
          rw[hid]at ho;cases ho;have O:=Hh.obj id _ _ hid hm
          obtain⟨b',n',ces,e1,hblk,hsz,hborn,hes⟩:=O;cases e1;have hkeys:=z1S hs0
          have hlen:es.length=s0.length:=by simpa using congrArg List.length hkeys
          refine R.run w b bm c ces s0 hcell hblk ?_ ?_ ?_ k1 k4 k3
          ·apply List.ext_getElem?
           intro i;simp only[List.getElem?_map,Array.getElem?_toList];by_cases hi:i<es.length
           ·have h1:es[i]?=some es[i]:=List.getElem?_eq_getElem hi
            have h2:ces[i]?=some (ces[i]'(by omega)):=Array.getElem?_eq_getElem (by omega)
            have h3:s0[i]?=some (s0[i]'(by omega)):=List.getElem?_eq_getElem (by omega)
            obtain⟨r1,_⟩:=hes i _ _ h1 h2;have h4:=congrArg (·[i]?) hkeys
            simp only[List.getElem?_map,h1,h3,Option.map_some,Option.some.injEq]at h4;rw[h4]at r1;rw[h2,h3];simp only[Option.map_some];revert r1
            generalize ces[i].key=kk;intro r1;cases r1;rfl
           ·rw[Array.getElem?_eq_none (by omega),List.getElem?_eq_none (by omega)]
            rfl
          ·intro x hx
           obtain⟨i,hi,rfl⟩:=List.mem_iff_getElem.1 hx;have hi':i<ces.size:=by simpa using hi
           have h1:es[i]?=some (es[i]'(by omega)):=List.getElem?_eq_getElem (by omega)
           have h2:ces[i]?=some ces[i]:=Array.getElem?_eq_getElem hi'
           obtain⟨_,_,_,r4⟩:=hes i _ _ h1 h2;have:=hborn _ (List.getElem_mem (l:=es) (n:=i) (by omega))
           simp only[Array.getElem_toList];omega
          ·have:ces.toList.map (·.born)=es.map (·.born):=by
            apply List.ext_getElem?
            intro i;simp only[List.getElem?_map,Array.getElem?_toList];by_cases hi:i<es.length
            ·have h1:es[i]?=some es[i]:=List.getElem?_eq_getElem hi
             have h2:ces[i]?=some (ces[i]'(by omega)):=Array.getElem?_eq_getElem (by omega)
             obtain⟨_,_,_,r4⟩:=hes i _ _ h1 h2;rw[h1,h2];simp [r4]
            ·rw[Array.getElem?_eq_none (by omega),List.getElem?_eq_none (by omega)]
             rfl
           rw[this];exact k2
        ·cases hk
       ·cases hk
      ·cases H
     ·rename_i hq
      refine⟨[],(Option.some.inj H).symm,fun μ w u Hh hu=>?_⟩
      obtain⟨b,v,rfl,hcell,hR⟩:=arg μ w u _ hq Hh hu _ rfl;cases hR;exact R.nil w b hcell
     ·cases H
    obtain⟨ss,e3,hrun⟩:=key;cases e3;intro μ w vs Hh Hg hl hr;match vs,hl with
    | [u],_=>
     refine .inl ⟨R.enter _,(hrun μ w u Hh (hr 0 _ u rfl rfl)).mono fun e w' he=>?_⟩
     obtain⟨u,rfl,g1,g2⟩:=he;obtain⟨n1,n2⟩:=Hh.ext g1;have Lq:(eD (imm h μ w) w w').le (imm h μ w'):=by
      refine⟨fun b o v hv=>?_,fun b o hv=>?_,rfl,fun _ _ h=>by cases h⟩
      ·dsimp only[eD]at hv
       split at hv
       ·exact n2.le.c _ _ _ hv
       ·rename_i hb
        exact tC.2 ⟨fun hO=>hb (fO Hh hO),hv⟩
      ·dsimp only[eD]at hv
       cases hv
     have g3:RAV (eD (imm h μ w) w w') [] [] (.p (.sl none (ss.map .str))) u:=.p _ _ g2.rpv
     exact⟨_,_,_,μ,⟨rfl,rfl,rfl⟩,g3.evo ⟨Lq,Nat.zero_le _,fun id o m h1=>by simp at h1⟩,n1,n2,mA.refl h []⟩
   ·cases hb
  | false=>
   rw[if_neg (by simp)]at H
   exact z1T r (fun g m hm=>hg g m (by simp [hm])) H
def libK (ks:FD)(gs:List (Nat × Sh))(ps:MC)(f:Nat)(asv:List AV)(h:aA):Option (AV×aA×Esc):=match NN ks f asv h with
 | some y=>some y
 | none=>zE gs ps f asv h
theorem zey {ks:FD}{gs:List (Nat × Sh)}{ps:MC}(hk:∀ g m,(g,m)∈ks→KeysRow P g m)(hg:∀ g sh,(g,sh)∈gs→GrowRow P g sh)(hp:∀ g s,(g,s)∈ps→PureRow P gl g s){f:Nat}{asv:List AV}{h:aA}{v:AV}{h':aA}{x:Esc}(H:libK ks gs ps f asv h=some (v,h',x)) :
 EB P gl f asv h fun v1 h1 x1=>v1=v∧h1=h'∧x1=x:=by
 unfold libK at H;split at H
 ·rename_i y hy
  cases H;exact z1T ks hk hy
 ·exact zex hg hp H
def ON:FD→Nat→Nat→Bool
 | [],_,_=>false
 | (g,m)::r,f,k=>(Nat.beq f g&&Nat.beq k m)||ON r f k
end Go.Am
end
section
/- The abstract machine,part V: slices.Collect(slices.Values(l)) at whole numbers: a new row that holds them. -/
set_option linter.all false
namespace Go.Am
variable {P:Program} {gl:Nat→Option PV}
def ZH:PV→Bool
 | .int .u64 _=>true
 | _=>false
def jG:List PV→List Int
 | .int .u64 n::r=>n::jG r
 | _::r=>0::jG r
 | []=>[]
theorem z4e:∀ xs:List PV,(jG xs).length=xs.length
 | []=>rfl
 | x::r=>by
  have ih:=z4e r
  cases x with
  | int k n=>cases k <;> simp [jG,ih]
  | _=>simp [jG,ih]
theorem z4d:∀ {xs:List PV},xs.all ZH=true→xs=(jG xs).map (PV.int .u64)
 | [],_=>rfl
 | x::r,h=>by
  rw[List.all_cons,Bool.and_eq_true]at h;obtain⟨h1,h2⟩:=h;unfold ZH at h1;split at h1
  ·rename_i n
   rw[jG,List.map_cons,←z4d h2]
  ·cases h1
theorem z1e:∀ zs:List Int,(zs.map (PV.int .u64)).flatMap PV.cells=zs.map (PV.int .u64)
 | []=>rfl
 | a::t=>by rw[List.map_cons,List.flatMap_cons,z1e t];rfl
def z4G (P:Program)(fn g:Nat):Prop:=
 (∀(bq b off len cap:Nat) (zs:List Int) (w:World),zs.length=len→0<len→len≤1000000→w.cell? ⟨bq,0,none⟩=some (.slice (some ⟨b,off,none⟩) len cap) →
  (b<w.heap.size∧∀j,j<len→w.cell? ⟨b,off+j,none⟩=some (.int .u64 (zs[j]?.getD 0))) →
  Calls P fn #[.func (.func g) #[] #[.pointer (some ⟨bq,0,none⟩)]] w fun e W'=>∃v,e = .returned v∧(∃T,W'.ownsRow w.heap.size T 1 v len (zs.map (Value.int .u64)))∧Go.RowKit.Below w.heap.size w W') ∧
 (∀(bq:Nat) (a:Option Addr) (cap:Nat) (w:World),w.cell? ⟨bq,0,none⟩=some (.slice a 0 cap) →
  Calls P fn #[.func (.func g) #[] #[.pointer (some ⟨bq,0,none⟩)]] w fun e W'=>e = .returned (.slice none 0 0)∧Go.RowKit.Below w.heap.size w W')
structure CollRow (P:Program) (f g:Nat):Prop where
 enter:∀us w,(callFunc f us).run P w = .ok (.enter f us) w
 said:z4G P f g
def wH:FD→Nat→List AV→aA→Option (AV × aA × Esc)
 | [],_,_,_=>none
 | (g,m)::r,f,asv,h=>bif Nat.beq f g&&(match asv with
  | [.fn k [.ref _ 0]]=>Nat.beq k m
  | _=>false) then(match asv with
  | [.fn _ [.ref q 0]]=>(match h[q]? with
   | some (.box [.p (.sl none xs)])=>if xs.all ZH=true∧xs.length≤1000000 then some (.own h.length xs.length 0 xs.length,h++[.row none xs 0],[]) else none
   | _=>none)
  | _=>none) else wH r f asv h
theorem YY:∀ (gs:FD),(∀ g m,(g,m)∈gs→CollRow P g m)→∀ {f:Nat} {asv:List AV} {h:aA} {v:AV} {h':aA} {x:Esc},wH gs f asv h=some (v,h',x) →
 EB P gl f asv h fun v1 h1 x1=>v1=v∧h1=h'∧x1=x
 | [],_,f,asv,h,v,h',x,H=>by cases H
 | (g,m)::r,hg,f,asv,h,v,h',x,H=>by
  unfold wH at H;rw[Bool.cond_eq_ite]at H;generalize hbb:(Nat.beq f g&&_)=bb at H;cases bb with
  | false=>
   rw[if_neg (by simp)]at H
   exact YY r (fun g m hm=>hg g m (by simp [hm])) H
  | true=>
   rw[if_pos rfl]at H;rw[Bool.and_eq_true]at hbb;obtain⟨hf,hb⟩:=hbb;have e:=Nat.eq_of_beq_eq_true hf
   subst e;split at hb;case h_2=>cases hb
   rename_i k q;have e:=Nat.eq_of_beq_eq_true hb
   subst e;have R:=hg f k (by simp)
   split at H;case h_2=>cases H
   rename_i k' q' hq0;cases hq0;split at H;case h_2=>cases H
   rename_i xs hq;split at H;case isFalse=>cases H
   rename_i hcd;obtain⟨hall,hlen⟩:=hcd;simp only[Option.some.injEq,Prod.mk.injEq]at H;obtain⟨rfl,rfl,rfl⟩:=H;intro μ w vs Hh Hg hl hr;match vs,hl with
   | [u],_=>
    refine .inl ⟨R.enter _,?_⟩;have arg:∀u,RAV (imm h μ w) h μ (.fn k [.ref q 0]) u→∃b v,u = .func (.func k) #[] #[.pointer (some ⟨b,0,none⟩)]∧w.cell? ⟨b,0,none⟩=some v∧RPV (imm h μ w) (.sl none xs) v:=by
     intro u hu;cases hu with
     | fn _ _ vs hl hr=>
      match vs,hl with
      | [u0],_=>
       have q0:=hr 0 _ u0 rfl rfl
       cases q0 with
       | ref _ _ b n cs' ho hm=>
        have O:=Hh.obj q _ _ hq hm
        obtain⟨b',c,e1,B,hc⟩:=O;cases e1;obtain⟨_,v,hv,hR⟩:=hc 0 _ rfl;obtain⟨_,E,lo,hi,hB,_⟩:=B;refine⟨b,v,rfl,?_,hR.p_inv⟩;simp only[World.cell?,hB];simpa using hv
    obtain⟨bq,v,rfl,hcell,hR⟩:=arg u (hr 0 _ u rfl rfl);have sizes:∀{W':World},Go.RowKit.Below w.heap.size w W'→WExt w W':=fun h=>⟨h.size,fun b hb=>h.block b hb,by unfold zed;rw[h.os,h.tape,h.output]⟩
    cases xs with
    | nil=>
     have:∃a cap,v = .slice a 0 cap:=by
      cases hR with
      | nils _ a cap=>exact⟨_,_,rfl⟩
      | sl _ _ b o cap f hne=>exact absurd rfl hne
     obtain⟨a,cap,rfl⟩:=this;refine(R.said.2 bq a cap w hcell).mono fun e w' he=>?_
     obtain⟨rfl,hB⟩:=he;obtain⟨n1,n2⟩:=Hh.ext (sizes hB);obtain⟨m1,m2⟩:=UK n1 none;refine⟨_,_,_,_,⟨rfl,rfl,rfl⟩,?_,m1,n2.trans m2,mA.push (by simp [Obj.top])⟩
     exact .own h.length 0 0 0 _ 0 none [] 0 none (Nat.le_refl _) (by simp) (by rw[←Hh.len];simp) (by simp) (by simp) (fun _=>rfl)
    | cons x0 r0=>
     have hne:x0::r0≠[]:=by simp
     generalize x0::r0=xs at *;have hz:=z4d hall
     have hzl:=z4e xs
     generalize jG xs=zs at *;subst hz;rw[List.length_map]at hlen;have hsl:∃(b o cap:Nat) (f:Nat→Value),v = .slice (some ⟨b,o,none⟩) (zs.map (PV.int .u64)).length cap∧(∀(j:Nat) (y:PV),((zs.map (PV.int .u64)).flatMap PV.cells)[j]?=some y→(imm h μ w) b (o+j)=some (f j))∧(∀(j:Nat) (y:PV),((zs.map (PV.int .u64)).flatMap PV.cells)[j]?=some y→RPV (imm h μ w) y (f j)):=by
      clear hcell;generalize zs.map (PV.int .u64)=X at *;cases hR with
      | nils _ a cap=>exact absurd rfl hne
      | sl _ _ b o cap f _ hcap hshp hm hrr=>exact⟨b,o,cap,f,rfl,hm,hrr⟩
     obtain⟨b,o,cap,f,rfl,hm,hrr⟩:=hsl
     ·skip
      have hfl:=z1e zs
      rw[hfl]at hm hrr;have hc:∀j,j<zs.length→w.cell? ⟨b,o+j,none⟩=some (.int .u64 (zs[j]?.getD 0)):=fun j hj=>by
       have hg:(zs.map (PV.int .u64))[j]?=some (.int .u64 zs[j]):=by rw[List.getElem?_map,List.getElem?_eq_getElem hj];rfl
       have h1:=(tC.1 (hm j _ hg)).2
       have h2:=hrr j _ hg
       rw[h1,List.getElem?_eq_getElem hj,Option.getD_some];revert h2
       generalize f j=fj;intro h2;cases h2;rfl
      have hpos:0<zs.length:=by
       rcases Nat.eq_zero_or_pos zs.length with h0|h0
       ·exact absurd (by rw[List.length_eq_zero_iff.1 h0];rfl) hne
       ·exact h0
      rw[List.length_map]at hcell;refine(R.said.1 bq b o zs.length cap zs w rfl hpos hlen hcell ⟨JJ (hc 0 hpos),hc⟩).mono fun e w' he=>?_
      obtain⟨v',rfl,⟨T,hrow⟩,hB⟩:=he;rcases hrow.2 with⟨_,h0⟩|⟨g,cap',cur,rfl,hbase,hgb,r1,r2,r3,r4⟩
      ·omega
      ·have hBlk:QA w' g cur.size cur:=⟨rfl,T,0,0,hgb,fun _ h=>by omega⟩
       obtain⟨n1,n2⟩:=QF (sh:=none) (xs:=zs.map (PV.int .u64)) Hh (sizes hB) hbase (Array.getElem?_eq_some_iff.1 hgb).1 hBlk (by rw[r3,List.length_map];show zs.length*1≤_;omega)
        (fun x hx=>by obtain⟨n,_,rfl⟩:=List.mem_map.1 hx;rfl) (fun i j x y hx hy=>by
         obtain⟨z,hz,rfl⟩:∃z,zs[i]?=some z∧PV.int .u64 z=x:=by
          rw[List.getElem?_map]at hx;obtain⟨z,h1,h2⟩:=Option.map_eq_some_iff.1 hx;exact⟨z,h1,h2⟩
         have hi:=tA hz
         match j with
         | 0=>
          cases hy;refine⟨.int .u64 z,?_,.int _ _⟩
          have h1:(cur.toList.take (zs.length*1))[i]?=some (.int .u64 z):=by rw[r4,List.getElem?_map,hz];rfl
          rw[List.getElem?_take,if_pos (by omega),Array.getElem?_toList]at h1
          show cur[i*1+0]?=_
          rw[show i*1+0=i by omega]
          exact h1
         | j+1=>simp [PV.cells]at hy)
       refine⟨_,_,_,_,⟨rfl,rfl,rfl⟩,?_,n1,n2,mA.push (by simp [Obj.top])⟩
       rw[List.length_map];refine .own h.length zs.length 0 zs.length _ cap' none (zs.map (PV.int .u64)) 0 (some (g,cur.size)) r1 (by simp) (by rw[←Hh.len];simp) (by simp) (by omega) (fun _=>?_)
       exact .inr ⟨by simp,by rw[r3];show(0+cap')*1≤_;omega⟩
def aI (cs ks:FD)(gs:List (Nat × Sh))(ps:MC)(f:Nat)(asv:List AV)(h:aA):Option (AV×aA×Esc):=match wH cs f asv h with
 | some y=>some y
 | none=>libK ks gs ps f asv h
theorem libV_ok {cs ks:FD}{gs:List (Nat × Sh)}{ps:MC}(hc:∀ g m,(g,m)∈cs→CollRow P g m)(hk:∀ g m,(g,m)∈ks→KeysRow P g m)(hg:∀ g sh,(g,sh)∈gs→GrowRow P g sh)(hp:∀ g s,(g,s)∈ps→PureRow P gl g s){f:Nat}{asv:List AV}{h:aA}{v:AV}{h':aA}{x:Esc}(H:aI cs ks gs ps f asv h=some (v,h',x)) :
 EB P gl f asv h fun v1 h1 x1=>v1=v∧h1=h'∧x1=x:=by
 unfold aI at H;split at H
 ·rename_i y hy
  cases H;exact YY cs hc hy
 ·exact zey hk hg hp H
theorem XY:∀ {ks:FD} {f m q:Nat} {h:aA} {xs:List PV},ON ks f m=true→h[q]?=some (.box [.p (.sl none xs)])→xs.all ZH=true→xs.length≤1000000 →
 wH ks f [.fn m [.ref q 0]] h=some (.own h.length xs.length 0 xs.length,h++[.row none xs 0],[])
 | [],f,m,q,h,xs,hk,_,_,_=>by cases hk
 | (g,k)::r,f,m,q,h,xs,hk,h1,h2,h3=>by
  unfold ON at hk;unfold wH;cases hb:Nat.beq f g&&Nat.beq m k with
  | true=>simp [hb,h1,h2,h3]
  | false=>rw[hb]at hk;simp only[hb,cond_false];exact XY (by simpa using hk) h1 h2 h3
theorem zez {cs ks:FD}{gs:List (Nat × Sh)}{ps:MC}{f m q:Nat}{h:aA}{xs:List PV}(hk:ON cs f m=true)(h1:h[q]?=some (.box [.p (.sl none xs)]))(h2:xs.all ZH=true)(h3:xs.length≤1000000) :
 aI cs ks gs ps f [.fn m [.ref q 0]] h=some (.own h.length xs.length 0 xs.length,h++[.row none xs 0],[]):=by
 unfold aI;rw[XY hk h1 h2 h3]
end Go.Am
end
section
/- The functions together. -/
set_option linter.all false
set_option maxRecDepth 100000
namespace Go.Am
def fns:List (Nat × AFun):=[(zN,IQ),(mK,LQ),(nK,MQ),(dK,wQ),(eK,xQ),(fK,yQ),(QH,lR),(ND,RQ),(MD,NQ),(UC,SQ),(EF,zQ),(rK,VQ),(oK,TQ),(JG,PL),(cE,RL),(wE,oR),(JF,WQ),(kD,OQ),(lK,KQ),(xK,fR),(GF,BQ),(HF,CQ),(IG,HQ),(uE,NL),(FF,JL),(zK,iR),(FK,qR),(GK,rR),(uK,aR),(NH,PQ),(GG,LL),(vE,bR),(PH,dR),(BK,kR),(qK,UQ),(tK,YQ),(SH,TL),(FG,KL),(HG,ML),(IF,OL),(XE,tQ),(NG,uR),(MH,FQ),(LG,JQ),(OH,QQ),(DG,HL),(EG,IL),(AK,jR),(LH,AQ),(EK,pR),(sK,XQ),(RH,SL),(KF,QL),(DB,DL),(iK,DQ),(CK,mR),(MG,ZQ),(KH,FL),(YE,EL),(HK,sR),(kK,GQ),(bE,CL),(DK,nR),(OG,vR),(vK,cR),(yK,gR),(IK,tR),(DF,uQ),(JK,wR),(JH,vQ),(jK,EQ)]
def GRL:List (Nat × Sh):=[]
def PRL:MC:=[(VH,fJ),(KK,trimS),(KG,oX)]
def GLL:List (Nat × PV):=[]
def CRL:FD:=[(AN,TH)]
def PK:List (Nat × AFun)→Nat→Option AFun
 | [],_=>none
 | (k,F)::r,n=>bif Nat.beq k n then some F else PK r n
def X:Ctx:=⟨PK fns,glOf GLL,HH CF xN,aI CRL [] GRL PRL⟩
theorem z1k {p:Nat→AFun→Bool}:∀(l:List (Nat×AFun)),(l.all fun y=>p y.1 y.2)=true→∀n F,PK l n=some F→p n F=true
 | [],_,n,F,h=>by cases h
 | (k,G)::r,ha,n,F,h=>by
  simp only[List.all_cons,Bool.and_eq_true]at ha;simp only[PK]at h;cases hk:Nat.beq k n with
  | true=>
   rw[hk]at h;have:=Nat.eq_of_beq_eq_true hk;simp only[cond_true,Option.some.injEq]at h;subst this;subst h;exact ha.1
  | false=>
   rw[hk]at h;exact z1k r ha.2 n F h
def fns0:List (Nat × AFun):=[(KG,z5M),(JG,PL),(cE,RL),(z0p,z5D),(uE,NL),(z0q,z5E),(GG,LL),(uU,z5o),(z0c,z5u),(z0y,z5N),(z0J,z6o),(z0t,z5H),(z04,z5W),(SH,TL),(FG,KL),(HG,ML),(IF,OL),(z0r,z5F),(DG,HL),(RH,SL),(KF,QL),(wU,z5B),(DB,DL),(ZZ,z5p),(z0a,z5s),(z0l,z56),(yN,z57),(z0I,z6n),(GU,z6s),(z0w,z5K),(z0v,z5J),(z08,z6a),(tE,z5q),(z0D,z6g),(z0G,z6j),(KH,FL),(YE,EL),(bE,CL),(z0b,z5t),(z0f,z5x),(z00,z5P),(z0L,z6r),(z0R,z60),(z0N,z6v),(z0x,z5L),(z0u,z5I),(YZ,z5n),(z03,z5V),(z02,z5U),(z0E,z6h),(z06,z5Y),(z0C,z6f),(z0g,z5y),(z0k,z55),(zU,z5R),(z0m,z58),(z0Q,z6z),(FU,z6p),(z0O,z6x),(z0K,z6q),(z0P,z6y),(z0M,z6u),(LK,z6w),(BN,z6t),(z07,z5Z),(z05,z5X),(z0F,z6i),(vU,z5r),(z0B,z6e),(z0A,z6c),(CU,z6d),(z0e,z5w),(cK,z54),(yU,z5Q),(z0h,z5z),(z0n,z59),(z0d,z5v),(BU,z5T),(z0H,z6l),(xU,z5C),(UH,z6k),(z09,z6b),(z01,z5S),(z0i,z50),(z0o,z5A),(DU,z6m),(QG,UL),(z0s,z5G),(z0z,z5O),(z0j,z52),(PG,zJ)]
def PRL0:MC:=[(VH,fJ),(KK,trimS)]
def X0:Ctx:=⟨PK fns0,glOf GLL,HH CF xN,zE GRL PRL0⟩
theorem zkr:X0.fn QG=some UL:=by kernel_rfl
theorem zkq:X0.fn PG=some zJ:=by kernel_rfl
theorem cY:X.NoNext:=fun f F h=>z1k (p:=fun _ F=>F.isDet||F.body.noNext) fns (by kernel_rfl) f F h
theorem zkG:X.fn zN=some IQ:=by kernel_rfl
theorem z7M {u0 v0:AV}{h h1:aA}{P:jA}(hp:nA h [u0]=some ([v0],h1)):eA X zN [u0] h P=(SJ (eA X) X.gl [(0,v0)] h1 [] (oA [.t 2] false h.length P)).1:=by rw[DA zkG rfl hp rfl];exact zao
theorem zkK:X.fn mK=some LQ:=by kernel_rfl
theorem z7Q {u0 v0:AV}{h h1:aA}{P:jA}(hp:nA h [u0]=some ([v0],h1)):eA X mK [u0] h P=(EM (eA X) X.gl [(0,v0)] h1 [] (oA [.t 2] false h.length P)).1:=by rw[DA zkK rfl hp rfl];exact za4
theorem zkL:X.fn nK=some MQ:=by kernel_rfl
theorem z7R {u0 u1 v0 v1:AV}{h h1:aA}{P:jA}(hp:nA h [u0,u1]=some ([v0,v1],h1)):eA X nK [u0,u1] h P=(FM (eA X) X.gl [(0,v0),(1,v1)] h1 [] (oA [.t 4] true h.length P)).1:=by rw[DA zkL rfl hp rfl];exact zaC
theorem zk0:X.fn dK=some wQ:=by kernel_rfl
theorem z7z {u0 u1 v0 v1:AV}{h h1:aA}{P:jA}(hp:nA h [u0,u1]=some ([v0,v1],h1)):eA X dK [u0,u1] h P=(NJ (eA X) X.gl [(0,v0),(1,v1)] h1 [] (oA [.t 4,.t 5] false h.length P)).1:=by rw[DA zk0 rfl hp rfl];exact z9o
theorem zk1:X.fn eK=some xQ:=by kernel_rfl
theorem z71 {u0 u1 v0 v1:AV}{h h1:aA}{P:jA}(hp:nA h [u0,u1]=some ([v0,v1],h1)):eA X eK [u0,u1] h P=(OJ (eA X) X.gl [(0,v0),(1,v1)] h1 [] (oA [.t 4,.t 5] false h.length P)).1:=by rw[DA zk1 rfl hp rfl];exact z9v
theorem zk2:X.fn fK=some yQ:=by kernel_rfl
theorem z73 {u0 u1 v0 v1:AV}{h h1:aA}{P:jA}(hp:nA h [u0,u1]=some ([v0,v1],h1)):eA X fK [u0,u1] h P=(BH (eA X) X.gl [(0,v0),(1,v1)] h1 [] (oA [.t 4,.t 5] false h.length P)).1:=by rw[DA zk2 rfl hp rfl];exact z95
theorem zlk:X.fn QH=some lR:=by kernel_rfl
theorem z8p {u0 u1 v0 v1:AV}{h h1:aA}{P:jA}(hp:nA h [u0,u1]=some ([v0,v1],h1)):eA X QH [u0,u1] h P=(XJ (eA X) X.gl [(0,v0),(1,v1)] h1 [] (oA [.t 4] false h.length P)).1:=by rw[DA zlk rfl hp rfl];exact zbz
theorem zkQ:X.fn ND=some RQ:=by kernel_rfl
theorem z7V {u0 u1 v0 v1:AV}{h h1:aA}{P:jA}(hp:nA h [u0,u1]=some ([v0,v1],h1)):eA X ND [u0,u1] h P=(IM (eA X) X.gl [(0,v0),(1,v1)] h1 [] (oA [.t 4] false h.length P)).1:=by rw[DA zkQ rfl hp rfl];exact zaN
theorem zkM:X.fn MD=some NQ:=by kernel_rfl
theorem z7S {u0 u1 v0 v1:AV}{h h1:aA}{P:jA}(hp:nA h [u0,u1]=some ([v0,v1],h1)):eA X MD [u0,u1] h P=(GM (eA X) X.gl [(0,v0),(1,v1)] h1 [] (oA [.t 4] false h.length P)).1:=by rw[DA zkM rfl hp rfl];exact zaF
theorem zkR:X.fn UC=some SQ:=by kernel_rfl
theorem z7W {u0 u1 u2 v0 v1 v2:AV}{h h1:aA}{P:jA}(hp:nA h [u0,u1,u2]=some ([v0,v1,v2],h1)):eA X UC [u0,u1,u2] h P=(JM (eA X) X.gl [(0,v0),(1,v1),(2,v2)] h1 [] (oA [.t 6] false h.length P)).1:=by rw[DA zkR rfl hp rfl];exact zaO
theorem z40:X.fn EF=some zQ:=by kernel_rfl
theorem z74 {u0 u1 v0 v1:AV}{h h1:aA}{P:jA}(hp:nA h [u0,u1]=some ([v0,v1],h1)):eA X EF [u0,u1] h P=(PJ (eA X) X.gl [(0,v0),(1,v1)] h1 [] (oA [.t 4,.t 5] false h.length P)).1:=by rw[DA z40 rfl hp rfl];exact z9C
theorem zkU:X.fn rK=some VQ:=by kernel_rfl
theorem z7Z {u0 v0:AV}{h h1:aA}{P:jA}(hp:nA h [u0]=some ([v0],h1)):eA X rK [u0] h P=(MM (eA X) X.gl [(0,v0)] h1 [] (oA [.t 2] false h.length P)).1:=by rw[DA zkU rfl hp rfl];exact zaR
theorem zkS:X.fn oK=some TQ:=by kernel_rfl
theorem z7X {u0 u1 v0 v1:AV}{h h1:aA}{P:jA}(hp:nA h [u0,u1]=some ([v0,v1],h1)):eA X oK [u0,u1] h P=(KM (eA X) X.gl [(0,v0),(1,v1)] h1 [] (oA [.t 4] false h.length P)).1:=by rw[DA zkS rfl hp rfl];exact zaP
theorem zkH:X.fn JG=some PL:=by kernel_rfl
theorem z7N {u0 v0:AV}{h h1:aA}{P:jA}(hp:nA h [u0]=some ([v0],h1)):eA X JG [u0] h P=(CM (eA X) X.gl [(0,v0)] h1 [] (oA [.t 2] false h.length P)).1:=by rw[DA zkH rfl hp rfl];exact zav
theorem zli:X.fn cE=some RL:=by kernel_rfl
theorem z8n {u0 u1 h P}:eA X cE [u0,u1] h P=(XM (eA X) X.gl [(0,u0),(1,u1)] h [] (oA [.t 4] false h.length P)).1:=by rw[AC zli rfl rfl];exact zbu
theorem zlp:X.fn wE=some oR:=by kernel_rfl
theorem z8u {u0 h P}:eA X wE [u0] h P=(eN (eA X) X.gl [(0,u0)] h [] (oA [] false h.length P)).1:=by rw[AC zlp rfl rfl];exact zbE
theorem zkV:X.fn JF=some WQ:=by kernel_rfl
theorem z8a {u0 u1 v0 v1:AV}{h h1:aA}{P:jA}(hp:nA h [u0,u1]=some ([v0,v1],h1)):eA X JF [u0,u1] h P=(NM (eA X) X.gl [(0,v0),(1,v1)] h1 [] (oA [.t 4] false h.length P)).1:=by rw[DA zkV rfl hp rfl];exact zaU
theorem zkN:X.fn kD=some OQ:=by kernel_rfl
theorem z7T {u0 u1 v0 v1:AV}{h h1:aA}{P:jA}(hp:nA h [u0,u1]=some ([v0,v1],h1)):eA X kD [u0,u1] h P=(UJ (eA X) X.gl [(0,v0),(1,v1)] h1 [] (oA [.t 4] false h.length P)).1:=by rw[DA zkN rfl hp rfl];exact zaG
theorem zkJ:X.fn lK=some KQ:=by kernel_rfl
theorem z7P {u0 u1 v0 v1:AV}{h h1:aA}{P:jA}(hp:nA h [u0,u1]=some ([v0,v1],h1)):eA X lK [u0,u1] h P=BG (eA X) X.gl YO v0 v1 h1 [] (oA [.cell 4 (some 2)] false h.length P):=by rw[DA zkJ rfl hp rfl];exact za0
theorem zld:X.fn xK=some fR:=by kernel_rfl
theorem z8i {u0 v0:AV}{h h1:aA}{P:jA}(hp:nA h [u0]=some ([v0],h1)):eA X xK [u0] h P = ∃v h' x,P v h' x∧(TM (eA X) X.gl [(0,v0)] h1 [] (oA [.t 2] true h.length fun v1 h1 x1=>v1=v∧h1=h'∧x1=x)).1:=by rw[HJ zld rfl hp rfl];exact XZ fun v h' x=>congrArg (And (P v h' x)) zbj
theorem zk6:X.fn GF=some BQ:=by kernel_rfl
theorem z7C {u0 u1 v0 v1:AV}{h h1:aA}{P:jA}(hp:nA h [u0,u1]=some ([v0,v1],h1)):eA X GF [u0,u1] h P=(RJ (eA X) X.gl [(0,v0),(1,v1)] h1 [] (oA [.t 4] false h.length P)).1:=by rw[DA zk6 rfl hp rfl];exact z9P
theorem zk7:X.fn HF=some CQ:=by kernel_rfl
theorem z7D {u0 u1 v0 v1:AV}{h h1:aA}{P:jA}(hp:nA h [u0,u1]=some ([v0,v1],h1)):eA X HF [u0,u1] h P=(uM (eA X) X.gl [(0,v0),(1,v1)] h1 [] (oA [.t 4] false h.length P)).1:=by rw[DA zk7 rfl hp rfl];exact z9Q
theorem zkF:X.fn IG=some HQ:=by kernel_rfl
theorem z7L {u0 v0:AV}{h h1:aA}{P:jA}(hp:nA h [u0]=some ([v0],h1)):eA X IG [u0] h P=(BM (eA X) X.gl [(0,v0)] h1 [] (oA [.t 2] false h.length P)).1:=by rw[DA zkF rfl hp rfl];exact zan
theorem zkA:X.fn uE=some NL:=by kernel_rfl
theorem z7G {u0 v0:AV}{h h1:aA}{P:jA}(hp:nA h [u0]=some ([v0],h1)):eA X uE [u0] h P=(xM (eA X) X.gl [(0,v0)] h1 [] (oA [.t 2] false h.length P)).1:=by rw[DA zkA rfl hp rfl];exact zaa
theorem z42:X.fn FF=some JL:=by kernel_rfl
theorem z78 {u0 u1 v0 v1:AV}{h h1:aA}{P:jA}(hp:nA h [u0,u1]=some ([v0,v1],h1)):eA X FF [u0,u1] h P=(sM (eA X) X.gl [(0,v0),(1,v1)] h1 [] (oA [.t 4] false h.length P)).1:=by rw[DA z42 rfl hp rfl];exact z9J
theorem zlf:X.fn zK=some iR:=by kernel_rfl
theorem z8k {u0 h P}:eA X zK [u0] h P=(WJ (eA X) X.gl [(0,u0)] h [] (oA [.t 2] false h.length P)).1:=by rw[AC zlf rfl rfl];exact zbl
theorem zlr:X.fn FK=some qR:=by kernel_rfl
theorem z8w {u0 v0:AV}{h h1:aA}{P:jA}(hp:nA h [u0]=some ([v0],h1)):eA X FK [u0] h P=(gN (eA X) X.gl [(0,v0)] h1 [] (oA [.t 2] true h.length P)).1:=by rw[DA zlr rfl hp rfl];exact zbG
theorem zls:X.fn GK=some rR:=by kernel_rfl
theorem z8x {u0 v0:AV}{h h1:aA}{P:jA}(hp:nA h [u0]=some ([v0],h1)):eA X GK [u0] h P=(iN (eA X) X.gl [(0,v0)] h1 [] (oA [.t 2] false h.length P)).1:=by rw[DA zls rfl hp rfl];exact zbH
theorem zkZ:X.fn uK=some aR:=by kernel_rfl
theorem z8e {u0 v0:AV}{h h1:aA}{P:jA}(hp:nA h [u0]=some ([v0],h1)):eA X uK [u0] h P=(EH (eA X) X.gl [(0,v0)] h1 [] (oA [.t 2] false h.length P)).1:=by rw[DA zkZ rfl hp rfl];exact zbb
theorem zkO:X.fn NH=some PQ:=by kernel_rfl
theorem DY {u0 u1 u2 v0 v1 v2:AV}{h h1:aA}{P:jA}(hp:nA h [u0,u1,u2]=some ([v0,v1,v2],h1)):eA X NH [u0,u1,u2] h P=(VJ (eA X) X.gl [(0,v0),(1,v1),(2,v2)] h1 [] (oA [.t 6] false h.length P)).1:=by rw[DA zkO rfl hp rfl];exact zaH
theorem zk5:X.fn GG=some LL:=by kernel_rfl
theorem z7B {u0 v0:AV}{h h1:aA}{P:jA}(hp:nA h [u0]=some ([v0],h1)):eA X GG [u0] h P=(tM (eA X) X.gl [(0,v0)] h1 [] (oA [.t 2] false h.length P)).1:=by rw[DA zk5 rfl hp rfl];exact z9O
theorem zla:X.fn vE=some bR:=by kernel_rfl
theorem z8f {u0 u1 u2 v0 v1 v2:AV}{h h1:aA}{P:jA}(hp:nA h [u0,u1,u2]=some ([v0,v1,v2],h1)):eA X vE [u0,u1,u2] h P=(QM (eA X) X.gl [(0,v0),(1,v1),(2,v2)] h1 [] (oA [.t 6] false h.length P)).1:=by rw[DA zla rfl hp rfl];exact zbe
theorem zlc:X.fn PH=some dR:=by kernel_rfl
theorem z8h {u0 v0:AV}{h h1:aA}{P:jA}(hp:nA h [u0]=some ([v0],h1)):eA X PH [u0] h P=(SM (eA X) X.gl [(0,v0)] h1 [] (oA [.t 2] false h.length P)).1:=by rw[DA zlc rfl hp rfl];exact zbi
theorem zlj:X.fn BK=some kR:=by kernel_rfl
theorem z8o {u0 u1 h P}:eA X BK [u0,u1] h P=(YM (eA X) X.gl [(0,u0),(1,u1)] h [] (oA [.t 4] false h.length P)).1:=by rw[AC zlj rfl rfl];exact zbv
theorem zkT:X.fn qK=some UQ:=by kernel_rfl
theorem z7Y {u0 u1 v0 v1:AV}{h h1:aA}{P:jA}(hp:nA h [u0,u1]=some ([v0,v1],h1)):eA X qK [u0,u1] h P=(LM (eA X) X.gl [(0,v0),(1,v1)] h1 [] (oA [.t 3] false h.length P)).1:=by rw[DA zkT rfl hp rfl];exact zaQ
theorem zkX:X.fn tK=some YQ:=by kernel_rfl
theorem z8c {u0 u1 v0 v1:AV}{h h1:aA}{P:jA}(hp:nA h [u0,u1]=some ([v0,v1],h1)):eA X tK [u0,u1] h P=VE (eA X) X.gl jP v0 v1 h1 [] (oA [.t 4] false h.length P):=by rw[DA zkX rfl hp rfl];exact zaW
theorem zlo:X.fn SH=some TL:=by kernel_rfl
theorem z8t {u0 u1 h P}:eA X SH [u0,u1] h P=(dN (eA X) X.gl [(0,u0),(1,u1)] h [] (oA [.t 4] false h.length P)).1:=by rw[AC zlo rfl rfl];exact zbB
theorem zk4:X.fn FG=some KL:=by kernel_rfl
theorem z7A {u0 u1 v0 v1:AV}{h h1:aA}{P:jA}(hp:nA h [u0,u1]=some ([v0,v1],h1)):eA X FG [u0,u1] h P=(QJ (eA X) X.gl [(0,v0),(1,v1)] h1 [] (oA [.t 4] false h.length P)).1:=by rw[DA zk4 rfl hp rfl];exact z9L
theorem zk9:X.fn HG=some ML:=by kernel_rfl
theorem z7F {u0 v0:AV}{h h1:aA}{P:jA}(hp:nA h [u0]=some ([v0],h1)):eA X HG [u0] h P=(wM (eA X) X.gl [(0,v0)] h1 [] (oA [.t 2] true h.length P)).1:=by rw[DA zk9 rfl hp rfl];exact z9U
theorem zkB:X.fn IF=some OL:=by kernel_rfl
theorem z7H {u0 u1 u2 h P}:eA X IF [u0,u1,u2] h P=UE (eA X) X.gl MO NO u0 u1 u2 h [] (oA [] false h.length P):=by rw[AC zkB rfl rfl];exact zab
theorem zku:X.fn XE=some tQ:=by kernel_rfl
theorem z7t {u0 u1 v0 v1:AV}{h h1:aA}{P:jA}(hp:nA h [u0,u1]=some ([v0,v1],h1)):eA X XE [u0,u1] h P=(nM (eA X) X.gl [(0,v0),(1,v1)] h1 [] (oA [.t 4] false h.length P)).1:=by rw[DA zku rfl hp rfl];exact z9b
theorem zlv:X.fn NG=some uR:=by kernel_rfl
theorem z80 {u0 u1 u2 u3 h P}:eA X NG [u0,u1,u2,u3] h P=(mN (eA X) X.gl [(0,u0),(1,u1),(2,u2),(3,u3)] h [] (oA [] false h.length P)).1:=by rw[AC zlv rfl rfl];exact zbQ
theorem zkD:X.fn MH=some FQ:=by kernel_rfl
theorem z7J {u0 v0:AV}{h h1:aA}{P:jA}(hp:nA h [u0]=some ([v0],h1)):eA X MH [u0] h P=(zM (eA X) X.gl [(0,v0)] h1 [] (oA [.t 2] false h.length P)).1:=by rw[DA zkD rfl hp rfl];exact zai
theorem zkI:X.fn LG=some JQ:=by kernel_rfl
theorem z7O {u0 u1 v0 v1:AV}{h h1:aA}{P:jA}(hp:nA h [u0,u1]=some ([v0,v1],h1)):eA X LG [u0,u1] h P=(DM (eA X) X.gl [(0,v0),(1,v1)] h1 [] (oA [.t 4] false h.length P)).1:=by rw[DA zkI rfl hp rfl];exact zay
theorem zkP:X.fn OH=some QQ:=by kernel_rfl
theorem z7U {u0 u1 v0 v1:AV}{h h1:aA}{P:jA}(hp:nA h [u0,u1]=some ([v0,v1],h1)):eA X OH [u0,u1] h P=(HM (eA X) X.gl [(0,v0),(1,v1)] h1 [] (oA [.t 4] true h.length P)).1:=by rw[DA zkP rfl hp rfl];exact zaI
theorem zkz:X.fn DG=some HL:=by kernel_rfl
theorem z7y {u0 v0:AV}{h h1:aA}{P:jA}(hp:nA h [u0]=some ([v0],h1)):eA X DG [u0] h P=(AH (eA X) X.gl [(0,v0)] h1 [] (oA [.t 2] false h.length P)).1:=by rw[DA zkz rfl hp rfl];exact z9l
theorem z41:X.fn EG=some IL:=by kernel_rfl
theorem z77 {u0 u1 u2 v0 v1 v2:AV}{h h1:aA}{P:jA}(hp:nA h [u0,u1,u2]=some ([v0,v1,v2],h1)):eA X EG [u0,u1,u2] h P=(rM (eA X) X.gl [(0,v0),(1,v1),(2,v2)] h1 [] (oA [.t 6] false h.length P)).1:=by rw[DA z41 rfl hp rfl];exact z9G
theorem zlh:X.fn AK=some jR:=by kernel_rfl
theorem z8m {u0 u1 h P}:eA X AK [u0,u1] h P=(WM (eA X) X.gl [(0,u0),(1,u1)] h [] (oA [.t 4] false h.length P)).1:=by rw[AC zlh rfl rfl];exact zbt
theorem zk3:X.fn LH=some AQ:=by kernel_rfl
theorem z79 {u0 u1 v0 v1:AV}{h h1:aA}{P:jA}(hp:nA h [u0,u1]=some ([v0,v1],h1)):eA X LH [u0,u1] h P=(CH (eA X) X.gl [(0,v0),(1,v1)] h1 [] (oA [.t 3] false h.length P)).1:=by rw[DA zk3 rfl hp rfl];exact z9K
theorem zlq:X.fn EK=some pR:=by kernel_rfl
theorem z8v {u0 h P}:eA X EK [u0] h P=(fN (eA X) X.gl [(0,u0)] h [] (oA [] false h.length P)).1:=by rw[AC zlq rfl rfl];exact zbF
theorem zkW:X.fn sK=some XQ:=by kernel_rfl
theorem z8b {u0 v0:AV}{h h1:aA}{P:jA}(hp:nA h [u0]=some ([v0],h1)):eA X sK [u0] h P=(OM (eA X) X.gl [(0,v0)] h1 [] (oA [.t 2] false h.length P)).1:=by rw[DA zkW rfl hp rfl];exact zaV
theorem zlm:X.fn RH=some SL:=by kernel_rfl
theorem z8r {u0 u1 h P}:eA X RH [u0,u1] h P=(aN (eA X) X.gl [(0,u0),(1,u1)] h [] (oA [.t 4] false h.length P)).1:=by rw[AC zlm rfl rfl];exact zb5
theorem zlg:X.fn KF=some QL:=by kernel_rfl
theorem z8l {u0 u1 h P}:eA X KF [u0,u1] h P=(VM (eA X) X.gl [(0,u0),(1,u1)] h [] (oA [.t 4] false h.length P)).1:=by rw[AC zlg rfl rfl];exact zbs
theorem zkt:X.fn DB=some DL:=by kernel_rfl
theorem z7s {u0 u1 u2 v0 v1 v2:AV}{h h1:aA}{P:jA}(hp:nA h [u0,u1,u2]=some ([v0,v1,v2],h1)):eA X DB [u0,u1,u2] h P=(mM (eA X) X.gl [(0,v0),(1,v1),(2,v2)] h1 [] (oA [.t 6] false h.length P)).1:=by rw[DA zkt rfl hp rfl];exact z9a
theorem zk8:X.fn iK=some DQ:=by kernel_rfl
theorem z7E {u0 u1 u2 v0 v1 v2:AV}{h h1:aA}{P:jA}(hp:nA h [u0,u1,u2]=some ([v0,v1,v2],h1)):eA X iK [u0,u1,u2] h P=(vM (eA X) X.gl [(0,v0),(1,v1),(2,v2)] h1 [] (oA [.t 6] false h.length P)).1:=by rw[DA zk8 rfl hp rfl];exact z9T
theorem zll:X.fn CK=some mR:=by kernel_rfl
theorem z8q {u0 u1 h P}:eA X CK [u0,u1] h P=(ZM (eA X) X.gl [(0,u0),(1,u1)] h [] (oA [.t 4] false h.length P)).1:=by rw[AC zll rfl rfl];exact zb2
theorem zkY:X.fn MG=some ZQ:=by kernel_rfl
theorem z8d {u0 u1 v0 v1:AV}{h h1:aA}{P:jA}(hp:nA h [u0,u1]=some ([v0,v1],h1)):eA X MG [u0,u1] h P=(PM (eA X) X.gl [(0,v0),(1,v1)] h1 [] (oA [.t 3] false h.length P)).1:=by rw[DA zkY rfl hp rfl];exact zba
theorem zky:X.fn KH=some FL:=by kernel_rfl
theorem z7x {u0 u1 v0 v1:AV}{h h1:aA}{P:jA}(hp:nA h [u0,u1]=some ([v0,v1],h1)):eA X KH [u0,u1] h P=yF (eA X) X.gl jI jO v0 v1 h1 [] (oA [.t 4] false h.length P):=by rw[DA zky rfl hp rfl];exact z9f
theorem zkw:X.fn YE=some EL:=by kernel_rfl
theorem z7v {u0 v0:AV}{h h1:aA}{P:jA}(hp:nA h [u0]=some ([v0],h1)):eA X YE [u0] h P=(pM (eA X) X.gl [(0,v0)] h1 [] (oA [.t 2] false h.length P)).1:=by rw[DA zkw rfl hp rfl];exact z9d
theorem zlt:X.fn HK=some sR:=by kernel_rfl
theorem z8y {u0 u1 u2 h P}:eA X HK [u0,u1,u2] h P=(jN (eA X) X.gl [(0,u0),(1,u1),(2,u2)] h [] (oA [] false h.length P)).1:=by rw[AC zlt rfl rfl];exact zbI
theorem zkE:X.fn kK=some GQ:=by kernel_rfl
theorem z7K {u0 v0:AV}{h h1:aA}{P:jA}(hp:nA h [u0]=some ([v0],h1)):eA X kK [u0] h P=(AM (eA X) X.gl [(0,v0)] h1 [] (oA [.t 2] false h.length P)).1:=by rw[DA zkE rfl hp rfl];exact zaj
theorem zks:X.fn bE=some CL:=by kernel_rfl
theorem z7r {u0 v0:AV}{h h1:aA}{P:jA}(hp:nA h [u0]=some ([v0],h1)):eA X bE [u0] h P=(lM (eA X) X.gl [(0,v0)] h1 [] (oA [.t 2] false h.length P)).1:=by rw[DA zks rfl hp rfl];exact z8Z
theorem zln:X.fn DK=some nR:=by kernel_rfl
theorem z8s {u0 u1 h P}:eA X DK [u0,u1] h P=(cN (eA X) X.gl [(0,u0),(1,u1)] h [] (oA [.t 4] false h.length P)).1:=by rw[AC zln rfl rfl];exact zb8
theorem zlw:X.fn OG=some vR:=by kernel_rfl
theorem z81 {u0 u1 u2 u3 h P}:eA X OG [u0,u1,u2,u3] h P=(nN (eA X) X.gl [(0,u0),(1,u1),(2,u2),(3,u3)] h [] (oA [] false h.length P)).1:=by rw[AC zlw rfl rfl];exact zbV
theorem zlb:X.fn vK=some cR:=by kernel_rfl
theorem z8g {u0 u1 v0 v1:AV}{h h1:aA}{P:jA}(hp:nA h [u0,u1]=some ([v0,v1],h1)):eA X vK [u0,u1] h P=(RM (eA X) X.gl [(0,v0),(1,v1)] h1 [] (oA [.t 4] false h.length P)).1:=by rw[DA zlb rfl hp rfl];exact zbf
theorem zle:X.fn yK=some gR:=by kernel_rfl
theorem z8j {u0 v0:AV}{h h1:aA}{P:jA}(hp:nA h [u0]=some ([v0],h1)):eA X yK [u0] h P = ∃v h' x,P v h' x∧(UM (eA X) X.gl [(0,v0)] h1 [] (oA [.t 2] true h.length fun v1 h1 x1=>v1=v∧h1=h'∧x1=x)).1:=by rw[HJ zle rfl hp rfl];exact XZ fun v h' x=>congrArg (And (P v h' x)) zbk
theorem zlu:X.fn IK=some tR:=by kernel_rfl
theorem z8z {u0 u1 u2 h P}:eA X IK [u0,u1,u2] h P=(kN (eA X) X.gl [(0,u0),(1,u1),(2,u2)] h [] (oA [] false h.length P)).1:=by rw[AC zlu rfl rfl];exact zbM
theorem zkv:X.fn DF=some uQ:=by kernel_rfl
theorem z7u {u0 u1 v0 v1:AV}{h h1:aA}{P:jA}(hp:nA h [u0,u1]=some ([v0,v1],h1)):eA X DF [u0,u1] h P=(oM (eA X) X.gl [(0,v0),(1,v1)] h1 [] (oA [.t 4] false h.length P)).1:=by rw[DA zkv rfl hp rfl];exact z9c
theorem zlx:X.fn JK=some wR:=by kernel_rfl
theorem z82 {u0 u1 v0 v1:AV}{h h1:aA}{P:jA}(hp:nA h [u0,u1]=some ([v0,v1],h1)):eA X JK [u0,u1] h P=(oN (eA X) X.gl [(0,v0),(1,v1)] h1 [] (oA [.t 4] false h.length P)).1:=by rw[DA zlx rfl hp rfl];exact zca
theorem zkx:X.fn JH=some vQ:=by kernel_rfl
theorem z7w {u0 v0:AV}{h h1:aA}{P:jA}(hp:nA h [u0]=some ([v0],h1)):eA X JH [u0] h P=(qM (eA X) X.gl [(0,v0)] h1 [] (oA [.t 2] false h.length P)).1:=by rw[DA zkx rfl hp rfl];exact z9e
theorem zkC:X.fn jK=some EQ:=by kernel_rfl
theorem z7I {u0 u1 v0 v1:AV}{h h1:aA}{P:jA}(hp:nA h [u0,u1]=some ([v0,v1],h1)):eA X jK [u0,u1] h P=(yM (eA X) X.gl [(0,v0),(1,v1)] h1 [] (oA [.t 4] false h.length P)).1:=by rw[DA zkC rfl hp rfl];exact zah
attribute [go_sem] zap zaq zar zas zat zau lU zdJ zdK zdL QS RS SS TS US VS TJ za5 za6 za7 za8 za9 zaA zaB zdN zdO zdP aT bT eT fT gT iT jT zaD zaE zdQ kT lT z9p
attribute [go_sem] z9q z9r z9s z9t z9u zd3 zd4 YR ZR aS bS dS eS z9w z9x z9y z9z z90 z91 z92 z93 z94 zd5 zd6 zd7 fS gS iS jS kS lS mS nS oS z96 z97 z98 z99 z9A z9B
attribute [go_sem] zd8 zd9 pS qS rS sS tS uS zb0 zb1 zea GT HT z9D z9E z9F zdA vS xS yS zaS zaT zdT qT rT zaw zax zdM WS XS za1 za2 za3 nZ LD ZS z9R z9S zdD ES
attribute [go_sem] FS zbm zbn zbo zbp zbq zbr zdX zdY xT yT zT AT BT CT zbc zbd zdV tT uT zbw zbx zby zdZ DT ET FT zaX zaY zaZ zdU oZ pZ DH zbC zbD zef PT QT z9M
attribute [go_sem] z9N zdC CS DS z9V z9W z9X z9Y z9Z zdE zdF GS IS JS KS LS zac zad zae zaf zag zdG zdH zdI kZ lZ MS mZ zF zbR zbS zbT zbU zek XT YT ZT aU zaz YS
attribute [go_sem] zaJ zaK zaL zaM zdR zdS mT nT oT pT z9m z9n zd2 WR XR z9H z9I zdB zS BS zb6 zb7 zec LT MT zb3 zb4 zeb IT JT z9g z9h z9i z9j z9k zd0 zd1 hZ iZ jZ
attribute [go_sem] zH VR zbJ zbK zbL zeg zeh RT ST TT zak zal zam NS OS PS zb9 zbA zee NT OT zbW zbX zbY zbZ zel bU cU dU fU zbg zbh zdW vT wT zbN zbO zbP zei zej
attribute [go_sem] UT VT WT zcd zce zcf zcg zem zen qZ iU jU rZ
end Go.Am
end
section
/- The stream of numbers out of which the laws draw. -/
open Go
namespace Go.Am
abbrev eI (n:Int):PV:=.int .i64 n
abbrev AL (l:List Int):AV:=.p (.sl none (l.map eI))
abbrev rA (L:List Int)(a:Int):Obj:=.box [AL L,AI a]
def tF (x n:Int):Int:=if n<1 then 0 else if x.tmod n<0 then IntKind.i64.wrap (x.tmod n+n) else x.tmod n
theorem z3o (x n:Int)(h:aA)(K:jA):eA X LG [AI x,AI n] h K=K (AI (tF x n)) h []:=by
 refine CA ?_;rw[z7O rfl];simp only[DM,go_sem];unfold tF;by_cases h1:n<1
 ·simp only[h1,if_true]
 ·simp only[h1,if_false,show ¬n=0 by omega]
  split <;> rfl
theorem z6O (x n:Int)(h1:1≤n)(h2:n≤4611686018427387904):0≤tF x n∧tF x n<n:=by
 unfold tF;rw[if_neg (by omega)]
 have:=Int.tmod_lt_of_pos x (show 0<n by omega)
 have h3 : -n<x.tmod n:=by
  have:=Int.lt_tmod_of_pos x (show 0<n by omega)
  exact this
 split
 ·rw[yA _ (by omega) (by omega)];omega
 ·omega
def bB (L:List Int)(a n:Int):Int:=
 if L.length=0 then tF (IntKind.i64.wrap ((a+1)*7919)) n
 else tF (IntKind.i64.wrap (tF (L.getD (a.tmod L.length).toNat 0) 1073741824+IntKind.i64.wrap (IntKind.i64.wrap (a.tdiv L.length)*IntKind.i64.wrap (7919+a.tmod L.length)))) n
theorem YG (L:List Int)(a n:Int)(h1:1≤n)(h2:n≤4611686018427387904):0≤bB L a n∧bB L a n<n:=by
 unfold bB;split <;> exact z6O _ _ h1 h2
theorem mE {h:aA}{id:Nat}{o':Obj}(hid:id<h.length):(h.set id o')[id]?=some o':=by simp [hid]
theorem gF {h:aA}{id:Nat}{o:Obj}(hh:h[id]?=some o):id<h.length:=(List.getElem?_eq_some_iff.1 hh).1
def OA (n:Nat)(a:Int):Prop:=0≤a∧a+n<4611686018427387904
theorem IC {n m:Nat}{a b:Int}(H:OA m a)(h:a≤b)(hn:b+n≤a+m):OA n b:=by unfold OA at *;omega
theorem dJ {a:Int}(H:OA 14 a):OA 0 (a)∧OA 0 (a+1)∧OA 0 (a+1+1)∧OA 0 (a+1+1+1)∧OA 0 (a+1+1+1+1)∧OA 0 (a+1+1+1+1+1)∧OA 0 (a+1+1+1+1+1+1)∧OA 0 (a+1+1+1+1+1+1+1)∧OA 0 (a+1+1+1+1+1+1+1+1)∧OA 0 (a+1+1+1+1+1+1+1+1+1)∧OA 0 (a+1+1+1+1+1+1+1+1+1+1)∧OA 0 (a+1+1+1+1+1+1+1+1+1+1+1)∧OA 0 (a+1+1+1+1+1+1+1+1+1+1+1+1)∧OA 0 (a+1+1+1+1+1+1+1+1+1+1+1+1+1)∧OA 0 (a+1+1+1+1+1+1+1+1+1+1+1+1+1+1):=by
 unfold OA at *;omega
def Gen (f:Nat)(args:List AV)(L:List Int)(a a2:Int)(v:AV):Prop:=∀(h:aA) (id:Nat) (K:jA),h[id]?=some (rA L a)→eA X f (.ref id 0::args) h K=K v (h.set id (rA L a2)) []
section
variable {f:Nat} {args:List AV} {L:List Int} {a a2:Int} {v:AV} {h l:aA} {id:Nat} {K:jA}
theorem Gen.set (g:Gen f args L a a2 v)(hid:id<h.length):eA X f (.ref id 0::args) (h.set id (rA L a)) K=K v (h.set id (rA L a2)) []:=by
 rw[g _ _ _ (mE hid),List.set_set]
theorem Gen.app (g:Gen f args L a a2 v)(hid:id<h.length):eA X f (.ref id 0::args) (h.set id (rA L a)++l) K=K v (h.set id (rA L a2)++l) []:=by
 rw[g _ _ _ (by rw[z1C (by simpa using hid)];exact mE hid),z3H (by simpa using hid),List.set_set]
theorem Gen.hd (g:Gen f args L a a2 v):eA X f (.ref 0 0::args) (rA L a::l) K=K v (rA L a2::l) []:=by
 rw[g _ _ _ rfl];rfl
theorem Gen.of (H:∀ (h:aA) (id:Nat),id<h.length→eA X f (.ref id 0::args) (h.set id (rA L a)) fun v1 h1 x1=>v1=v∧h1=h.set id (rA L a2)∧x1=[]):Gen f args L a a2 v:=by
 intro h id K hh;have hid:=gF hh
 have:h.set id (rA L a)=h:=by
  apply List.ext_getElem?
  intro i;rw[List.getElem?_set];split
  ·rename_i e;subst e;rw[hh]
  ·rfl
 have k:=H h id hid
 rw[this]at k;exact CA k
end
def yC (f:Nat)(args:List AV)(L:List Int)(a:Int)(Q:AV→Int→Prop):Prop:=∀(h:aA) (id:Nat),h[id]?=some (rA L a)→∃v a2,Q v a2∧∀K:jA,eA X f (.ref id 0::args) h K=K v (h.set id (rA L a2)) []
section
variable {f:Nat} {args:List AV} {L:List Int} {a:Int} {Q:AV→Int→Prop}
theorem yC.set (g:yC f args L a Q){h:aA}{id:Nat}(hid:id<h.length):∃v a2,Q v a2∧∀K:jA,eA X f (.ref id 0::args) (h.set id (rA L a)) K=K v (h.set id (rA L a2)) []:=by
 obtain⟨v,a2,q,r⟩:=g _ _ (mE hid);exact⟨v,a2,q,fun K=>by rw[r,List.set_set]⟩
theorem yC.app (g:yC f args L a Q){h l:aA}{id:Nat}(hid:id<h.length):∃v a2,Q v a2∧∀K:jA,eA X f (.ref id 0::args) (h.set id (rA L a)++l) K=K v (h.set id (rA L a2)++l) []:=by
 obtain⟨v,a2,q,r⟩:=g (h.set id (rA L a)++l) id (by rw[z1C (by simpa using hid)];exact mE hid)
 exact⟨v,a2,q,fun K=>by rw[r,z3H (by simpa using hid),List.set_set]⟩
theorem yC.hd (g:yC f args L a Q){l:aA}:∃v a2,Q v a2∧∀K:jA,eA X f (.ref 0 0::args) (rA L a::l) K=K v (rA L a2::l) []:=g (rA L a::l) 0 rfl
theorem yC.of (H:∀ (h:aA) (id:Nat),id<h.length→eA X f (.ref id 0::args) (h.set id (rA L a)) fun v1 h1 x1=>∃ a2,Q v1 a2∧h1=h.set id (rA L a2)∧x1=[]):yC f args L a Q:=by
 intro h id hh;have hid:=gF hh
 have:h.set id (rA L a)=h:=by
  apply List.ext_getElem?
  intro i;rw[List.getElem?_set];split
  ·rename_i e;subst e;rw[hh]
  ·rfl
 have k:=H h id hid
 rw[this]at k;obtain⟨v,h',x,⟨a2,q,e1,e2⟩,r⟩:=eA.one cY k;subst e1;subst e2
 exact⟨v,a2,q,r⟩
end
def jE (l:List Int)(L:List Int)(a:Int):Int:=l.getD (bB L a l.length).toNat 0
theorem JP {l L:List Int}{a:Int}(hl:0<l.length)(hl2:l.length<4611686018427387904):jE l L a∈l:=by
 obtain⟨b1,b2⟩:=YG L a l.length (by omega) (by omega)
 unfold jE;have:(bB L a l.length).toNat<l.length:=by omega
 simp only[List.getD,List.getElem?_eq_getElem this,Option.getD_some];exact List.getElem_mem _
def isI:PV→Bool
 | .int .i64 _=>true
 | _=>false
def unI:PV→Int
 | .int _ n=>n
 | _=>0
theorem zkc {xs:List PV}(h:xs.all isI=true):xs=(xs.map unI).map eI:=by
 induction xs with
 | nil=>rfl
 | cons x r ih=>
  simp only[List.all_cons,Bool.and_eq_true]at h;simp only[List.map_cons];rw[←ih h.2];cases x with
  | int k n=>cases k <;> first|rfl|cases h.1
  | _=>cases h.1
set_option maxHeartbeats 400000 in
theorem z17 (L:List Int)(a n:Int)(hp:OA 0 a):Gen kD [AI n] L a (a+1) (AI (bB L a n)):=by
 refine Gen.of fun h id hid=>?_
 rw[z7T rfl];obtain⟨h0,h1⟩:=hp;have w1:IntKind.i64.wrap (a+1)=a+1:=yA _ (by omega) (by omega)
 have w2:IntKind.i64.wrap (a+1-1)=a:=by rw[yA _ (by omega) (by omega)];omega
 have hs:∀o',(h.set id o')[id]?=some o':=fun o'=>mE hid
 rcases Nat.eq_zero_or_pos L.length with hl|hl
 ·simp only[UJ,go_sem,hs,z3o,hl,w1]
  simp only[bB,hl,if_true]
 ·have e1:((L.length:Int)=0)=False:=by simp only[eq_iff_iff,iff_false];omega
  have e2:0≤a.tmod L.length:=Int.tmod_nonneg _ h0
  have e3:a.tmod L.length<L.length:=Int.tmod_lt_of_pos _ (by omega)
  have e4:=AE (k:=.i64) e2
  have e5:(L.map eI)[(a.tmod L.length).toNat]?=some (eI (L.getD (a.tmod L.length).toNat 0)):=by
   rw[aB eI (show(a.tmod L.length).toNat<L.length by omega)]
   simp [List.getD,show(a.tmod L.length).toNat<L.length by omega]
  simp only[UJ,go_sem,hs,z3o,e1,w1,w2,e4,e5];simp only[bB,show ¬L.length=0 by omega,if_false]
section
variable {L:List Int} {a:Int} {h l:aA} {id:Nat} {K:jA}
theorem kJ (hid:id<h.length)(hp:OA 0 a)(n:Int):eA X kD [.ref id 0,AI n] (h.set id (rA L a)) K=K (AI (bB L a n)) (h.set id (rA L (a+1))) []:=(z17 L a n hp).set hid
theorem z3t (hid:id<h.length)(hp:OA 0 a)(n:Int):eA X kD [.ref id 0,AI n] (h.set id (rA L a)++l) K=K (AI (bB L a n)) (h.set id (rA L (a+1))++l) []:=(z17 L a n hp).app hid
theorem z16 (hp:OA 0 a)(n:Int):Gen MD [AI n] L a (a+1) (AB (decide (bB L a n=0))):=by
 refine Gen.of fun h id hid=>?_
 rw[z7S rfl];simp only[GM,go_sem,kJ hid hp]
theorem z3r (hid:id<h.length)(hp:OA 0 a)(n:Int):eA X MD [.ref id 0,AI n] (h.set id (rA L a)) K=K (AB (decide (bB L a n=0))) (h.set id (rA L (a+1))) []:=(z16 hp n).set hid
theorem z3q (hid:id<h.length)(hp:OA 0 a)(n:Int):eA X MD [.ref id 0,AI n] (h.set id (rA L a)++l) K=K (AB (decide (bB L a n=0))) (h.set id (rA L (a+1))++l) []:=(z16 hp n).app hid
theorem z18 (hp:OA 0 a)(xs:List PV)(hx:xs.all isI=true)(hl:0<xs.length)(hl2:xs.length<4611686018427387904) :
 Gen ND [.p (.sl none xs)] L a (a+1) (AI (jE (xs.map unI) L a)):=by
 refine Gen.of fun h id hid=>?_
 rw[z7V rfl];obtain⟨b1,b2⟩:=YG L a xs.length (by omega) (by omega)
 have e4:=AE (k:=.i64) b1
 have e5:xs[(bB L a xs.length).toNat]?=some (eI (jE (xs.map unI) L a)):=by
  have hm:=zkc hx
  generalize hq:xs.map unI=q at *;subst hm;simp only[List.length_map]at *;rw[aB eI (show(bB L a q.length).toNat<q.length by omega)]
  simp [jE,List.getD,show(bB L a q.length).toNat<q.length by omega]
 simp only[IM,go_sem,kJ hid hp,e4,e5]
theorem z3v (hid:id<h.length)(hp:OA 0 a){xs:List PV}(hx:xs.all isI=true)(hl:0<xs.length)(hl2:xs.length<4611686018427387904) :
 eA X ND [.ref id 0,.p (.sl none xs)] (h.set id (rA L a)) K=K (AI (jE (xs.map unI) L a)) (h.set id (rA L (a+1))) []:=(z18 hp xs hx hl hl2).set hid
theorem z3u (hid:id<h.length)(hp:OA 0 a){xs:List PV}(hx:xs.all isI=true)(hl:0<xs.length)(hl2:xs.length<4611686018427387904) :
 eA X ND [.ref id 0,.p (.sl none xs)] (h.set id (rA L a)++l) K=K (AI (jE (xs.map unI) L a)) (h.set id (rA L (a+1))++l) []:=(z18 hp xs hx hl hl2).app hid
def pD (u v:Int)(L:List Int)(a:Int):Int:=u+bB L a (v-u+1)
theorem bG {u v:Int}(L:List Int)(a:Int)(h1:u≤v)(h2:v≤u+4611686018427387900):u≤pD u v L a∧pD u v L a≤v:=by
 have:=YG L a (v-u+1) (by omega) (by omega)
 unfold pD;omega
theorem z19 (hp:OA 0 a)(u v:Int)(huv:u≤v)(hu : -1152921504606846976≤u)(hv:v≤1152921504606846976) :
 Gen UC [AI u,AI v] L a (a+1) (AI (pD u v L a)):=by
 refine Gen.of fun h id hid=>?_
 rw[z7W rfl];obtain⟨b1,b2⟩:=bG L a huv (by omega)
 have w1:IntKind.i64.wrap (v-u)=v-u:=yA _ (by omega) (by omega)
 have w2:IntKind.i64.wrap (v-u+1)=v-u+1:=yA _ (by omega) (by omega)
 have w3:IntKind.i64.wrap (u+bB L a (v-u+1))=pD u v L a:=yA (pD u v L a) (by omega) (by omega)
 simp only[JM,go_sem,show ¬v<u by omega,w1,w2,kJ hid hp,w3]
theorem z3x (hid:id<h.length)(hp:OA 0 a){u v:Int}(huv:u≤v)(hu : -1152921504606846976≤u)(hv:v≤1152921504606846976) :
 eA X UC [.ref id 0,AI u,AI v] (h.set id (rA L a)) K=K (AI (pD u v L a)) (h.set id (rA L (a+1))) []:=(z19 hp u v huv hu hv).set hid
theorem z3w (hid:id<h.length)(hp:OA 0 a){u v:Int}(huv:u≤v)(hu : -1152921504606846976≤u)(hv:v≤1152921504606846976) :
 eA X UC [.ref id 0,AI u,AI v] (h.set id (rA L a)++l) K=K (AI (pD u v L a)) (h.set id (rA L (a+1))++l) []:=(z19 hp u v huv hu hv).app hid
end
attribute [go_sem ↓] kJ z3t z3r z3q z3v z3u z3x z3w
attribute [go_sem] kJ z3t z3r z3q z3v z3u z3x z3w isI unI
end Go.Am
end
section
/- Plain laws of fractions in lowest terms. -/
namespace Go.Am
def low (a b:Int):Int×Int:=(a.tdiv (Int.gcd a b),b.tdiv (Int.gcd a b))
end Go.Am
end
section
/- Small functions of numbers and of lists of numbers. -/
open Go
namespace Go.Am
variable {h:aA} {K:jA}
theorem fG (n a b:Int):eA X DB [AI n,AI a,AI b] h K=K (AB (decide (n<a)||decide (b<n))) h []:=by
 refine CA ?_;rw[z7s rfl];by_cases h1:n<a <;> simp only[mM,go_sem,h1]
theorem gG (n a b:Int):eA X vE [AI n,AI a,AI b] h K=K (AB (decide (a≤n)&&decide (n≤b))) h []:=by
 refine CA ?_;rw[z8f rfl];by_cases h1:a≤n <;> simp only[QM,go_sem,h1]
theorem z4c (n:Int)(h1:0≤n)(h2:n<18446744073709551616):IntKind.u64.wrap n=n:=by
 simp [IntKind.wrap,IntKind.bits,IntKind.signed];omega
abbrev AU (n:Int):AV:=.p (.int .u64 n)
end Go.Am
end
section
/- Functions of lists. -/
open Go
namespace Go.Am
variable {h:aA} {K:jA}
theorem ziW (a:Int):eA X YE [AI a] h K=K (AB false) h []:=by
 refine CA ?_;rw[z7v rfl];simp only[pM,go_sem]
theorem zjF (l:List Int)(a b:Int)(hv:∀ n∈l,a≤n∧n≤b):(l.length:Int)*a≤l.sum∧l.sum≤(l.length:Int)*b:=by
 induction l with
 | nil=>simp
 | cons x r ih=>
  obtain⟨i1,i2⟩:=ih (fun n hn=>hv n (by simp [hn]))
  obtain⟨x1,x2⟩:=hv x (by simp)
  simp only[List.length_cons,List.sum_cons,Int.natCast_add,Int.add_mul];omega
theorem zjG {l:List Int}{B:Int}(hv:∀ n∈l,-B≤n∧n≤B){N:Nat}(hl:l.length≤N)(hB:0≤B) : -(N*B)≤l.sum∧l.sum≤N*B:=by
 obtain⟨h1,h2⟩:=zjF l (-B) B hv;have:(l.length:Int)*B≤N*B:=Int.mul_le_mul_of_nonneg_right (by omega) hB
 rw[Int.mul_neg]at h1;omega
theorem zjH {l:List Int}{B:Int}(hv:∀ n∈l,-B≤n∧n≤B){N:Nat}(hl:l.length≤N)(hB:0≤B)(k:Nat) : -(N*B)≤(l.take k).sum∧(l.take k).sum≤N*B:=
 zjG (fun n hn=>hv n (List.mem_of_mem_take hn)) (by simp;omega) hB
theorem ziE (l m:List Int)(hl:l.length≤1000000000):eA X QH [AL l,AL m] h K=K (AB (decide (l=m))) h []:=by
 refine CA ?_;rw[z8p rfl];by_cases hlen:l.length=m.length
 ·simp only[XJ,go_sem,hlen]
  refine LA (fun k:Nat=>⟨[(0,AL l),(1,AL m),(12,AI m.length),(13,AI k)],h,[]⟩) (fun k=>k≤m.length∧l.take k=m.take k) (fun k=>m.length-k) 0 rfl (by simp) ?_
  rintro k ⟨hk,hp⟩
  rcases Nat.lt_or_ge k m.length with hlt|hge
  ·have hg1:=aB eI (show k<l.length by omega)
   have hg2:=aB eI hlt
   have w2:IntKind.i64.wrap ((k:Int)+1)=((k+1:Nat):Int):=yA _ (by omega) (by omega)
   by_cases he:l[k]=m[k]
   ·simp only[go_sem,hlt,hg1,hg2,w2,he]
    exact⟨k+1,rfl,⟨by omega,by rw[List.take_succ_eq_append_getElem (by omega),List.take_succ_eq_append_getElem hlt,hp,he]⟩,by omega⟩
   ·simp only[go_sem,hlt,hg1,hg2,w2,he]
    have:¬l=m:=fun h=>he (by simp only[h])
    simp [this]
  ·have e1:k=m.length:=by omega
   have e2:l=m:=by rw[←List.take_length (l:=l),←List.take_length (l:=m),hlen,←e1,hp]
   subst e1;simp only[go_sem,Nat.lt_irrefl];simp [e2]
 ·have e1:((l.length:Int)=m.length)=False:=by simp only[eq_iff_iff,iff_false];omega
  simp only[XJ,go_sem,e1];have:¬l=m:=fun h=>hlen (by rw[h])
  simp [this]
def oH (g:Nat)(caps:List AV)(p:PV→Bool)(xs:List PV)(h:aA):Prop:=∀x∈xs,∀K:jA,eA X g (.p x::caps) h K=K (AB (p x)) h []
def YC (p:PV→Bool)(xs:List PV):Int:=if xs.findIdx p<xs.length then(xs.findIdx p:Int) else -1
theorem z1H (p:PV→Bool)(xs:List PV):decide (0≤YC p xs)=xs.any p:=by
 unfold YC;rw[Bool.eq_iff_iff];by_cases h:xs.findIdx p<xs.length
 ·rw[if_pos h];simp only[decide_eq_true_eq,List.any_eq_true]
  exact⟨fun _=>⟨_,List.getElem_mem h,List.findIdx_getElem⟩,fun _=>by omega⟩
 ·rw[if_neg h];simp only[decide_eq_true_eq,List.any_eq_true]
  refine⟨fun h=>by omega,fun⟨x,hx,hp⟩=>absurd (List.findIdx_lt_length_of_exists ⟨x,hx,hp⟩) h⟩
def XH:List Int→Int
 | []=>0
 | e::r=>if e=0 then XH r else e
end Go.Am
end
section
/- Plain lists: insertion sort asv Go's package slices does it on short lists;deleting;compacting. -/
namespace Go.Am
variable {α:Type}
def SB (lt:α→α→Bool)(x:α):List α→List α
 | []=>[x]
 | y::r=>bif lt x y then y::SB lt x r else x::y::r
def ZC (lt:α→α→Bool)(l:List α):List α:=l.foldl (fun r x=>SB lt x r) []
def UB (lt:α→α→Bool)(l:List α):List α:=(ZC lt l).reverse
theorem z1I (lt:α→α→Bool)(x:α):∀r:List α,(SB lt x r).Perm (x::r)
 | []=>.refl _
 | y::r=>by
  unfold SB;cases lt x y with
  | true=>exact((z1I lt x r).cons y).trans (.swap _ _ _)
  | false=>exact .refl _
theorem z1O (lt:α→α→Bool):∀(l r:List α),(l.foldl (fun r x=>SB lt x r) r).Perm (l++r)
 | [],r=>.refl _
 | x::l,r=>by
  simp only[List.foldl_cons,List.cons_append];refine(z1O lt l _).trans ?_;exact((z1I lt x r).append_left l).trans (List.perm_middle)
theorem KN (lt:α→α→Bool)(l:List α):(ZC lt l).Perm l:=by
 have:=z1O lt l [];rwa [List.append_nil]at this
theorem z1Q (lt:α→α→Bool)(l:List α):(UB lt l).Perm l:=(List.reverse_perm _).trans (KN lt l)
theorem NU (lt:α→α→Bool)(l:List α):(UB lt l).length=l.length:=(z1Q lt l).length_eq
theorem OF {lt:α→α→Bool}{l:List α}{x:α}:x∈UB lt l↔x∈l:=(z1Q lt l).mem_iff
theorem z1N (lt:α→α→Bool)(l:List α):(ZC lt l).length=l.length:=(KN lt l).length_eq
theorem z1P (lt:α→α→Bool)(l:List α)(k:Nat)(hk:k<l.length):ZC lt (l.take (k+1))=SB lt l[k] (ZC lt (l.take k)):=by
 rw[List.take_succ_eq_append_getElem hk];unfold ZC;rw[List.foldl_append];rfl
theorem z2h {β:Type}(f:α→β){lt:α→α→Bool}{lt':β→β→Bool}(h:∀ a b,lt' (f a) (f b)=lt a b)(x:α):∀r:List α,SB lt' (f x) (r.map f)=(SB lt x r).map f
 | []=>rfl
 | y::r=>by
  simp only[List.map_cons,SB,h];cases lt x y with
  | true=>simp only[cond_true,List.map_cons,z2h f h x r]
  | false=>rfl
theorem z1J (lt:α→α→Bool)(x:α)(A:List α):∀B:List α,(∀b∈B,lt x b=true)→SB lt x (B++A)=B++SB lt x A
 | [],_=>rfl
 | b::B,h=>by
  simp only[List.cons_append,SB,h b (by simp),cond_true]
  rw[z1J lt x A B (fun b hb=>h b (by simp [hb]))]
theorem z1K (A C:List α)(x:α):(A.reverse++x::C)[A.length]?=some x:=by
 rw[List.getElem?_append_right (by simp)];simp
theorem z1L (A C:List α)(x y:α):((y::A).reverse++x::C)[A.length]?=some y:=by
 rw[List.getElem?_append_left (by simp)];simp
theorem z1M (A C:List α)(x y:α):(((y::A).reverse++x::C).set (A.length+1) y).set A.length x=A.reverse++x::y::C:=by
 have e:(y::A).reverse++x::C=A.reverse++y::x::C:=by simp
 rw[e,List.set_append_right _ _ (by simp),List.length_reverse,Nat.add_sub_cancel_left,List.set_append_right _ _ (by simp),List.length_reverse,Nat.sub_self]
 rfl
theorem IN (lt:α→α→Bool)(x:α)(A B:List α)(hB:∀ b∈B,lt x b=true)(hA:∀ y r,A=y::r→lt x y=false):SB lt x (B++A)=B++x::A:=by
 rw[z1J lt x A B hB];cases A with
 | nil=>rfl
 | cons y r=>simp only[SB,hA y r rfl,cond_false]
theorem zdy {β:Type}(f:α→β){lt:α→α→Bool}{lt':β→β→Bool}(h:∀ a b,lt' (f a) (f b)=lt a b)(l:List α):UB lt' (l.map f)=(UB lt l).map f:=by
 have key:∀(l r:List α),(l.map f).foldl (fun r x=>SB lt' x r) (r.map f)=(l.foldl (fun r x=>SB lt x r) r).map f:=by
  intro l;induction l with
  | nil=>intro r;rfl
  | cons x l ih=>intro r;simp only[List.map_cons,List.foldl_cons,z2h f h,ih]
 unfold UB ZC;have:=key l [];simp only[List.map_nil]at this;rw[this,List.map_reverse]
end Go.Am
namespace Go.Am
variable {α:Type}
def BC (q:α→α→Bool)(prev:α):List α→List α
 | []=>[]
 | x::r=>bif q x prev then BC q x r else x::BC q x r
def FB (q:α→α→Bool):List α→List α
 | []=>[]
 | x::r=>x::BC q x r
theorem VY (q:α→α→Bool):∀(l:List α) (p:α),(BC q p l).length≤l.length
 | [],_=>Nat.le_refl _
 | x::r,p=>by
  unfold BC;have:=VY q r x;cases q x p with
  | true=>simp only[cond_true,List.length_cons];omega
  | false=>simp only[cond_false,List.length_cons];omega
theorem z8G (q:α→α→Bool)(l:List α):(FB q l).length≤l.length:=by
 cases l with
 | nil=>exact Nat.le_refl _
 | cons x r=>have:=VY q r x;simp only[FB,List.length_cons];omega
theorem TR (q:α→α→Bool):∀(l:List α) (p:α),∀x∈BC q p l,x∈l
 | [],_,x,h=>h
 | y::r,p,x,h=>by
  unfold BC at h;cases hq:q y p with
  | true=>rw[hq]at h;exact List.mem_cons_of_mem _ (TR q r y x h)
  | false=>
   rw[hq]at h;rcases List.mem_cons.1 h with rfl|h
   ·simp
   ·exact List.mem_cons_of_mem _ (TR q r y x h)
theorem z8I {q:α→α→Bool}{l:List α}{x:α}(h:x∈FB q l):x∈l:=by
 cases l with
 | nil=>exact h
 | cons y r=>
  rcases List.mem_cons.1 h with rfl|h
  ·simp
  ·exact List.mem_cons_of_mem _ (TR q r y x h)
theorem WY (q:α→α→Bool)(z:α):∀(l:List α) (p:α),BC q p (l++[z])=BC q p l++(bif q z ((p::l).getLast (by simp)) then [] else [z])
 | [],p=>by simp only[List.nil_append,BC,List.getLast_singleton]
 | x::r,p=>by
  simp only[List.cons_append,BC,WY q z r x];have e:(p::x::r).getLast (by simp)=(x::r).getLast (by simp):=List.getLast_cons (by simp)
  rw[e];cases q x p <;> rfl
theorem ZY (q:α→α→Bool)(l:List α)(k:Nat)(hk:k+1<l.length):FB q (l.take (k+1+1))=FB q (l.take (k+1))++(bif q l[k+1] l[k] then [] else [l[k+1]]):=by
 rw[List.take_succ_eq_append_getElem hk];cases l with
 | nil=>simp at hk
 | cons x r=>
  simp only[List.take_succ_cons,List.cons_append,FB,WY];have e:(x::r.take k).getLast (by simp)=(x::r)[k]:=by
   have:x::r.take k=(x::r).take (k+1):=rfl
   simp only[this];rw[List.getLast_eq_getElem];simp only[List.getElem_take];congr 1
   simp only[List.length_take,List.length_cons]at hk ⊢;omega
  rw[e]
theorem z8H {β:Type}(f:α→β){q:α→α→Bool}{q':β→β→Bool}(h:∀ a b,q' (f a) (f b)=q a b)(l:List α):FB q' (l.map f)=(FB q l).map f:=by
 have key:∀(l:List α) (p:α),BC q' (f p) (l.map f)=(BC q p l).map f:=by
  intro l;induction l with
  | nil=>intro p;rfl
  | cons x r ih=>
   intro p;simp only[List.map_cons,BC,h,ih];cases q x p <;> rfl
 cases l with
 | nil=>rfl
 | cons x r=>simp only[List.map_cons,FB,key]
end Go.Am
end
section
/- Values of a shape: loads and stores in rows. -/
open Go
namespace Go.Am
variable {h:aA} {K:jA}
theorem nE {sh:Sh}{x:PV}(hx:x.shp sh=true):qB sh 0 x=some x:=by
 cases sh with
 | none=>exact z8T hx
 | some n=>
  cases x with
  | agg cs=>
   simp only[PV.shp,Bool.and_eq_true,beq_iff_eq]at hx;simp [qB,hx.1];exact List.take_of_length_le (by omega)
  | _=>cases hx
theorem qJ {sh:Sh}{x:PV}(hx:x.shp sh=true):x.cells.length=gA sh:=by
 cases sh with
 | none=>cases x <;> first|rfl|cases hx
 | some n=>
  cases x with
  | agg cs=>simp only[PV.shp,Bool.and_eq_true,beq_iff_eq]at hx;exact hx.1
  | _=>cases hx
theorem pJ {sh:Sh}{x:PV}(hx:x.shp sh=true):x.cells.all PV.sc=true:=by
 cases sh with
 | none=>cases x <;> first|rfl|cases hx
 | some n=>
  cases x with
  | agg cs=>simp only[PV.shp,Bool.and_eq_true,beq_iff_eq]at hx;exact hx.2
  | _=>cases hx
theorem rJ {sh:Sh}{x y:PV}(hx:x.shp sh=true)(hy:y.shp sh=true)(id i fz:Nat)(xs:List PV)(h1:aA):stE sh id i 0 fz sh xs x h1 (some y)=some (.und,h1.set id (.row sh (xs.set i x) fz),[]):=by
 cases sh with
 | none=>
  cases y with
  | agg cs=>cases hy
  | _=>simp only[PV.shp]at hx;simp [stE,hx]
 | some n=>
  cases y with
  | agg cs=>
   cases x with
   | agg ds=>
    simp only[PV.shp,Bool.and_eq_true,beq_iff_eq]at hx hy;simp [stE,PV.cells,splice,hx.1,hy.1,show cs.drop n=[] from List.drop_of_length_le (by omega)]
   | _=>cases hx
  | _=>cases hy
def KC (sh:Sh)(xs:List PV):Prop:=∀x∈xs,x.shp sh=true
theorem lF {sh:Sh}{xs:List PV}(hx:KC sh xs){i:Nat}(hi:i<xs.length):xs[i].shp sh=true:=hx _ (List.getElem_mem hi)
theorem HE {h:aA}{id:Nat}{o:Obj}(hh:h[id]?=some o):h.set id o=h:=by
 apply List.ext_getElem?
 intro i;rw[List.getElem?_set];split
 ·rename_i e;subst e;rw[hh];simp [gF hh]
 ·rfl
structure Shows (sh:Sh) (v:AV) (xs:List PV) (h:aA):Prop where
 len:YB v=some (AI xs.length)
 get:∀(k:Nat) (hk:k<xs.length),∃a,vB sh v (AI k) h=some a∧BA sh a h=some (.p xs[k])
theorem fX {sh:Sh}{xs:List PV}(hs:KC sh xs):Shows sh (.p (.sl sh xs)) xs h:=by
 refine⟨rfl,fun k hk=>⟨.vp xs[k],?_,?_⟩⟩
 ·simp [vB,WA,hk]
 ·simp only[z2b,nE (lF hs hk)];rfl
theorem zjm {sh:Sh}{id off len fz:Nat}{xs:List PV}(hs:KC sh xs)(hh:h[id]?=some (.row sh xs fz))(hl:off+len≤xs.length):Shows sh (.own id xs.length off len) (win xs off len) h:=by
 have hw:(win xs off len).length=len:=by simp [win];omega
 refine⟨by rw[hw];rfl,fun k hk=>⟨.rref id xs.length (off+k) 0,?_,?_⟩⟩
 ·rw[hw]at hk
  simp [vB,WA,hh,hl,hk]
 ·have hk':off+k<xs.length:=by rw[hw]at hk;omega
  have e:(win xs off len)[k]=xs[off+k]:=by simp [win]
  rw[e];simp only[z2a,hh,z1V,if_true,List.getElem?_eq_getElem hk',Option.bind_some,nE (lF hs hk'),Option.map_some]
theorem zjl {sh:Sh}{id fz:Nat}{xs:List PV}(hs:KC sh xs)(hh:h[id]?=some (.row sh xs fz)):Shows sh (.own id xs.length 0 xs.length) xs h:=by
 have:=zjm hs hh (off:=0) (len:=xs.length) (by omega)
 rwa [z4w]at this
def ZX (g:Nat)(caps:List AV)(p:PV→Bool)(xs:List PV)(id:Nat)(h:aA):Prop:=∀(o:Obj) (t:aA) (x:PV),x∈xs→∀K:jA,eA X g (.p x::caps) (h.set id o++t) K=K (AB (p x)) (h.set id o++t) []
theorem zjn {n:Nat}{x:PV}(hx:x.shp (some n)=true):∃cs,x = .agg cs∧cs.length=n∧cs.all PV.sc=true:=by
 cases x with
 | agg cs=>simp only[PV.shp,Bool.and_eq_true,beq_iff_eq]at hx;exact⟨cs,rfl,hx.1,hx.2⟩
 | _=>cases hx
theorem z4j:∀ cs:List PV,unp (cs.map AV.p)=some cs
 | []=>rfl
 | c::cs=>by simp [unp,z4j cs]
theorem z8V {n:Nat}{cs:List PV}(h:cs.length=n):cut (some n) 0 (cs.map AV.p)=some (.p (.agg cs)):=by
 unfold cut;simp only[List.length_map,h,Nat.zero_add,Nat.le_refl,if_true,List.drop_zero];rw[List.take_of_length_le (by simp [h])]
 unfold mkA;rw[z4j]
end Go.Am
end
section
/- Lengths of numbers in bits,and comparisons of plain values. -/
open Go
namespace Go.Am
variable {h:aA} {K:jA}
set_option maxRecDepth 20000
theorem zjI (k:Nat)(hk:k<256):∃b,([0,1,2,2,3,3,3,3,4,4,4,4,4,4,4,4,5,5,5,5,5,5,5,5,5,5,5,5,5,5,5,5,6,6,6,6,6,6,6,6,6,6,6,6,6,6,6,6,6,6,6,6,6,6,6,6,6,6,6,6,6,6,6,6,7,7,7,7,7,7,7,7,7,7,7,7,7,7,7,7,7,7,7,7,7,7,7,7,7,7,7,7,7,7,7,7,7,7,7,7,7,7,7,7,7,7,7,7,7,7,7,7,7,7,7,7,7,7,7,7,7,7,7,7,7,7,7,7,8,8,8,8,8,8,8,8,8,8,8,8,8,8,8,8,8,8,8,8,8,8,8,8,8,8,8,8,8,8,8,8,8,8,8,8,8,8,8,8,8,8,8,8,8,8,8,8,8,8,8,8,8,8,8,8,8,8,8,8,8,8,8,8,8,8,8,8,8,8,8,8,8,8,8,8,8,8,8,8,8,8,8,8,8,8,8,8,8,8,8,8,8,8,8,8,8,8,8,8,8,8,8,8,8,8,8,8,8,8,8,8,8,8,8,8,8,8,8,8,8,8,8,8,8,8,8,8]:List UInt8)[k]?=some b:=⟨_,List.getElem?_eq_getElem (Nat.lt_of_lt_of_eq hk (by kernel_rfl))⟩
theorem z1X (x:Int)(h0:0≤x)(h1:x<256):∃m:Int,∀(h:aA) (K:jA),eA X MH [AU x] h K=K (AI m) h []:=by
 obtain⟨b,hb⟩:=zjI x.toNat (by omega)
 refine⟨IntKind.i64.wrap (0+IntKind.i64.wrap b.toNat),fun h K=>?_⟩
 have w:IntKind.u8.wrap x=x:=by simp [IntKind.wrap,IntKind.bits,IntKind.signed];omega
 have b1:¬(4294967296≤x):=by omega
 have b2:¬(65536≤x):=by omega
 have b3:¬(256≤x):=by omega
 have hn:=AE (k:=.u8) h0
 have key:∀(h:aA) (K:jA),eA X kK [AU x] h K=K (AI (IntKind.i64.wrap (0+IntKind.i64.wrap b.toNat))) h []:=by
  intro h K;refine CA ?_;rw[z7K rfl];simp only[AM,go_sem,b1,b2,b3,w,hn,hb]
 refine CA ?_;rw[z7J rfl];simp only[zM,go_sem,key]
theorem ziG (a b:Int):eA X XE [AI a,AI b] h K=K (AB (decide (a<b))) h []:=by
 refine CA ?_;rw[z7t rfl];simp only[nM,go_sem,ziW]
def ltI (a b:Int):Bool:=decide (a<b)
def ltP (a b:PV):Bool:=match a,b with
 | .int _ a,.int _ b=>decide (a<b)
 | _,_=>false
theorem zew {l:List Int}:∀x∈l.map eI,∀y∈l.map eI,∀(h:aA) (K:jA),eA X XE [.p x,.p y] h K=K (AB (ltP x y)) h []:=by
 intro x hx y hy h K;obtain⟨a,_,rfl⟩:=List.mem_map.1 hx;obtain⟨b,_,rfl⟩:=List.mem_map.1 hy;exact ziG a b
theorem gX {l:List Int}:KC none (l.map eI):=fun x hx=>by obtain⟨n,_,rfl⟩:=List.mem_map.1 hx;rfl
end Go.Am
end
section
/- Finding values in lists: printed by program. -/
open Go
set_option linter.unusedSimpArgs false
namespace Go.Am
attribute [-go_sem] PV.cells
variable {h:aA} {K:jA}
theorem z5b {v:AV}{g:Nat}{caps:List AV}{p:PV→Bool}{xs:List PV}(hv:Shows none v xs h)(hp:oH g caps p xs h)(hl:xs.length≤1000000000) :
 eA X RH [v,.fn g caps] h K=K (AI (YC p xs)) h []:=by
 refine CA ?_;rw[z8r];have vl:=hv.len
 simp only[aN,go_sem,vl];refine LA (fun k:Nat=>⟨[(0,v),(1,.fn g caps),(7,AI xs.length),(8,AI k)],h,[]⟩) (fun k=>k≤xs.length∧∀x∈xs.take k,p x=false) (fun k=>xs.length-k) 0 rfl (by simp) ?_
 rintro k ⟨hk,hn⟩
 rcases Nat.lt_or_ge k xs.length with hlt|hge
 ·obtain⟨a,ha,hb⟩:=hv.get k hlt
  have w2:IntKind.i64.wrap ((k:Int)+1)=((k+1:Nat):Int):=yA _ (by omega) (by omega)
  have ht:=hp _ (List.getElem_mem hlt)
  cases hpk:p xs[k]with
  | true=>
   have hf:xs.findIdx p=k:=by
    rw[List.findIdx_eq hlt];refine⟨hpk,fun j hj=>?_⟩
    have:=hn xs[j] (by rw[List.mem_take_iff_getElem];exact⟨j,by omega,rfl⟩)
    simpa using this
   simp only[go_sem,hlt,ha,hb,ht,hpk,w2];simp only[YC,hf,hlt,if_true]
  | false=>
   simp only[go_sem,hlt,ha,hb,ht,hpk,w2];refine⟨k+1,rfl,⟨by omega,fun x hx=>?_⟩,by omega⟩
   rw[List.take_succ_eq_append_getElem hlt,List.mem_append,List.mem_singleton]at hx;rcases hx with hx|hx
   ·exact hn x hx
   ·rw[hx];exact hpk
 ·have e1:k=xs.length:=by omega
  subst e1;simp only[go_sem,Nat.lt_irrefl];rw[List.take_length]at hn;have:¬xs.findIdx p<xs.length:=by
   rw[Nat.not_lt,Nat.le_iff_lt_or_eq];right
   exact(List.findIdx_eq_length.2 (fun x hx=>by simp [hn x hx])).symm
  simp [YC,this]
theorem z4I {g:Nat}{caps:List AV}{p:PV→Bool}{xs:List PV}(hp:oH g caps p xs h)(hs:KC none xs)(hl:xs.length≤1000000000) :
 eA X KF [.p (.sl none xs),.fn g caps] h K=K (AB (xs.any p)) h []:=by
 refine CA ?_;rw[z8l];have vi:=fun K=>z5b (h:=h) (K:=K) (fX hs) hp hl
 simp only[VM,go_sem,vi,z1H]
end Go.Am
end
section
/- Numbers of 64 bits sorted,compacted,looked for;lists of lists looked through: printed by program. -/
open Go
set_option linter.unusedSimpArgs false
namespace Go.Am
attribute [-go_sem] PV.cells splice
variable {h:aA} {K:jA}
theorem z5c {v:AV}{g:Nat}{caps:List AV}{p:PV→Bool}{xs:List PV}(hv:Shows none v xs h)(hp:oH g caps p xs h)(hl:xs.length≤1000000000) :
 eA X DK [v,.fn g caps] h K=K (AI (YC p xs)) h []:=by
 refine CA ?_;rw[z8s];have vl:=hv.len
 simp only[cN,go_sem,vl];refine LA (fun k:Nat=>⟨[(0,v),(1,.fn g caps),(7,AI xs.length),(8,AI k)],h,[]⟩) (fun k=>k≤xs.length∧∀x∈xs.take k,p x=false) (fun k=>xs.length-k) 0 rfl (by simp) ?_
 rintro k ⟨hk,hn⟩
 rcases Nat.lt_or_ge k xs.length with hlt|hge
 ·obtain⟨a,ha,hb⟩:=hv.get k hlt
  have w2:IntKind.i64.wrap ((k:Int)+1)=((k+1:Nat):Int):=yA _ (by omega) (by omega)
  have ht:=hp _ (List.getElem_mem hlt)
  cases hpk:p xs[k]with
  | true=>
   have hf:xs.findIdx p=k:=by
    rw[List.findIdx_eq hlt];refine⟨hpk,fun j hj=>?_⟩
    have:=hn xs[j] (by rw[List.mem_take_iff_getElem];exact⟨j,by omega,rfl⟩)
    simpa using this
   simp only[go_sem,hlt,ha,hb,ht,hpk,w2];simp only[YC,hf,hlt,if_true]
  | false=>
   simp only[go_sem,hlt,ha,hb,ht,hpk,w2];refine⟨k+1,rfl,⟨by omega,fun x hx=>?_⟩,by omega⟩
   rw[List.take_succ_eq_append_getElem hlt,List.mem_append,List.mem_singleton]at hx;rcases hx with hx|hx
   ·exact hn x hx
   ·rw[hx];exact hpk
 ·have e1:k=xs.length:=by omega
  subst e1;simp only[go_sem,Nat.lt_irrefl];rw[List.take_length]at hn;have:¬xs.findIdx p<xs.length:=by
   rw[Nat.not_lt,Nat.le_iff_lt_or_eq];right
   exact(List.findIdx_eq_length.2 (fun x hx=>by simp [hn x hx])).symm
  simp [YC,this]
theorem z4J {g:Nat}{caps:List AV}{p:PV→Bool}{xs:List PV}(hp:oH g caps p xs h)(hs:KC none xs)(hl:xs.length≤1000000000) :
 eA X AK [.p (.sl none xs),.fn g caps] h K=K (AB (xs.any p)) h []:=by
 refine CA ?_;rw[z8m];have vi:=fun K=>z5c (h:=h) (K:=K) (fX hs) hp hl
 simp only[WM,go_sem,vi,z1H]
theorem zdr (id n:Nat)(l tl:List PV)(hn:n=l.length+tl.length)(hs:KC none l)(hl:l.length≤1000)(hh:h[id]?=some (.row none (l++tl) 0)){lt:PV→PV→Bool}(hc:∀ x∈l,∀ y∈l,∀ (h:aA) (K:jA),eA X DF [.p x,.p y] h K=K (AB (lt x y)) h []) :
 eA X IK [.own id n 0 l.length,AI 0,AI l.length] h K=K (.tup []) (h.set id (.row none (UB lt l++tl) 0)) []:=by
 refine CA ?_;rw[z8z];have hid:=gF hh
 have hst:∀o,(h.set id o)[id]?=some o:=fun o=>mE hid
 simp only[kN,go_sem,show IntKind.i64.wrap 1=1 from rfl]
 refine LA (fun i:Nat=>⟨[(0,.own id n 0 l.length),(1,AI 0),(2,AI l.length),(6,AI i)],h.set id (.row none ((ZC lt (l.take i)).reverse++(l.drop i++tl)) 0),[]⟩) (fun i=>1≤i∧(i≤l.length∨i=1)) (fun i=>l.length-i) 1 ?_ (by simp) ?_
 ·have:(ZC lt (l.take 1)).reverse++(l.drop 1++tl)=l++tl:=by cases l <;> rfl
  rw[this,HE hh];rfl
 rintro i ⟨hi1,hi2⟩
 rcases Nat.lt_or_ge i l.length with hlt|hge
 ·simp only[go_sem,hlt]
  have hxl:l[i]∈l:=List.getElem_mem hlt
  generalize hx:l[i]=x at *;generalize hR:ZC lt (l.take i)=R;have hRl:R.length=i:=by rw[←hR,z1N];simp;omega
  have hRm:∀z∈R,z∈l:=fun z hz=>List.mem_of_mem_take ((KN lt (l.take i)).mem_iff.1 (by rw[hR];exact hz))
  have hdrop:l.drop i=x::l.drop (i+1):=by rw[←hx];exact List.drop_eq_getElem_cons hlt
  have hnext:ZC lt (l.take (i+1))=SB lt x R:=by rw[z1P _ _ _ hlt,hR,hx]
  refine LA (fun t:List PV×List PV=>⟨[(0,.own id n 0 l.length),(1,AI 0),(2,AI l.length),(6,AI i),(7,AI t.1.length)],h.set id (.row none (t.1.reverse++x::t.2) 0),[]⟩)
   (fun t=>∃B,R=B++t.1∧t.2=B.reverse++(l.drop (i+1)++tl)∧∀b∈B,lt x b=true) (fun t=>t.1.length) (R,l.drop (i+1)++tl) (by rw[hdrop,hRl];rfl) ⟨[],rfl,rfl,by simp⟩ ?_
  rintro⟨A,C⟩ ⟨B,q1,q2,q3⟩
  dsimp only at q1 q2 q3;have hlen:(A.reverse++x::C).length=n:=by
   have:R.length=B.length+A.length:=by rw[q1];simp
   rw[q2];simp;omega
  have hBA:B.length+A.length<l.length:=by
   have:R.length=B.length+A.length:=by rw[q1];simp
   omega
  have hln:l.length≤n:=by omega
  have w1:IntKind.i64.wrap ((i:Int)+1)=((i+1:Nat):Int):=yA _ (by omega) (by omega)
  cases A with
  | nil=>
   have hd:SB lt x R=B++[x]:=by rw[q1];exact IN lt x [] B q3 (fun y r h=>by cases h)
   simp only[go_sem,Int.lt_irrefl,w1];refine⟨i+1,?_,by omega,by omega⟩
   simp only[hnext,hd,q2,List.reverse_append,List.reverse_nil,List.nil_append,List.reverse_cons,List.append_assoc,List.cons_append]
  | cons y A=>
   have hyl:y∈l:=hRm y (by rw[q1];simp)
   have g1:=z1K (y::A) C x
   have g2:=z1L A C x y
   have sw:=z1M A C x y
   simp only[List.length_cons]at hBA;generalize hrow:(y::A).reverse++x::C=row at *;simp only[List.length_cons]at g1;have w2:IntKind.i64.wrap (((A.length+1:Nat):Int)-1)=(A.length:Int):=by rw[yA _ (by omega) (by omega)];omega
   have p1:(0:Int)<((A.length+1:Nat):Int):=by omega
   have b1:A.length+1<l.length:=by omega
   have b2:A.length<l.length:=by omega
   have cx:=nE (hs x hxl)
   have cy:=nE (hs y hyl)
   have hcc:=fun h K=>hc x hxl y hyl h K
   cases hxy:lt x y with
   | false=>
    have hd:SB lt x R=B++x::y::A:=by rw[q1];exact IN lt x (y::A) B q3 (fun z r h=>by cases h;exact hxy)
    simp only[go_sem,hst,p1,hlen,g1,g2,w2,b1,b2,hln,cx,cy,hcc,hxy,w1];refine⟨i+1,?_,by omega,by omega⟩
    simp only[hnext,hd,←hrow,q2,List.reverse_append,List.reverse_cons,List.append_assoc,List.cons_append,List.nil_append]
   | true=>
    have g3:(row.set (A.length+1) y)[A.length]?=some y:=by rw[List.getElem?_set_ne (by omega),g2]
    have lx:=qJ (hs x hxl)
    have ly:=qJ (hs y hyl)
    have sx:=pJ (hs x hxl)
    have sy:=pJ (hs y hyl)
    simp only[gA]at lx ly;have t1:=fun i xs h1=>rJ (hs x hxl) (hs y hyl) id i 0 xs h1
    have t2:=fun i xs h1=>rJ (hs y hyl) (hs x hxl) id i 0 xs h1
    simp only[go_sem,hst,p1,hlen,g1,g2,g3,w2,b1,b2,hln,cx,cy,hcc,hxy,lx,ly,sx,sy,t1,t2,sw];refine⟨(A,y::C),rfl,⟨B++[y],by simp [q1],by simp [q2],fun b hb=>?_⟩,by simp⟩
    rw[List.mem_append,List.mem_singleton]at hb;rcases hb with hb|rfl
    ·exact q3 b hb
    ·exact hxy
 ·have hge':¬i<l.length:=by omega
  have e1:l.take i=l:=List.take_of_length_le hge
  have e2:l.drop i=[]:=List.drop_of_length_le hge
  simp only[go_sem,hge',e1,e2];rfl
theorem z5k (id n:Nat)(l tl:List PV)(hn:n=l.length+tl.length)(hs:KC none l)(hl:l.length≤12)(hh:h[id]?=some (.row none (l++tl) 0)){lt:PV→PV→Bool}(hc:∀ x∈l,∀ y∈l,∀ (h:aA) (K:jA),eA X DF [.p x,.p y] h K=K (AB (lt x y)) h []) :
 eA X EK [.own id n 0 l.length] h K=K (.tup []) (h.set id (.row none (UB lt l++tl) 0)) []:=by
 refine CA ?_;rw[z8v];have w0:IntKind.u64.wrap (l.length:Int)=l.length:=z4c _ (by omega) (by omega)
 obtain⟨m,hm⟩:=z1X (l.length:Int) (by omega) (by omega)
 have is:=fun h' (hq:h'=h) K=>zdr (h:=h) (K:=K) id n l tl hn hs (by omega) hh hc
 have key:∀K:jA,eA X OG [.own id n 0 l.length,AI 0,AI l.length,AI m] h K=K (.tup []) (h.set id (.row none (UB lt l++tl) 0)) []:=by
  intro K;refine CA ?_;rw[z81];simp only[nN,go_sem];refine LA (fun _:Unit=>⟨[(0,.own id n 0 l.length),(1,AI 0),(2,AI l.length),(3,AI m),(8,AB true),(9,AB true)],h,[]⟩) (fun _=>True) (fun _=>0) () rfl trivial ?_
  intro _ _;have w1:IntKind.i64.wrap ((l.length:Int)-0)=l.length:=by rw[yA _ (by omega) (by omega)];omega
  have b1:((l.length:Int)≤12):=by omega
  simp only[go_sem,w1,b1,is _ rfl]
 simp only[fN,go_sem,w0,hm,key]
theorem z4H (id:Nat)(l:List PV)(hs:KC none l)(hl:l.length≤100000)(hh:h[id]?=some (.row none l 0)){q:PV→PV→Bool}(hq1:∀ x∈l,∀ y∈l,qA .eql (.p x) (.p y)=some (AB (q x y)))(hq2:∀ x∈l,∀ y∈l,qA .neq (.p x) (.p y)=some (AB (!q x y))) :
 eA X zK [.own id l.length 0 l.length] h K=K (.own id l.length 0 (FB q l).length) (h.set id (.row none (FB q l++List.replicate (l.length-(FB q l).length) (PV.int .u64 0)) 0)) []:=by
 refine CA ?_;rw[z8k];have hid:=gF hh
 have hst:∀o,(h.set id o)[id]?=some o:=fun o=>mE hid
 have hb:¬h.length≤id:=by omega
 have hb2:max h.length (id+1)=h.length:=by omega
 have hb3:id+1≤h.length:=hid
 by_cases h2:l.length<2
 ·have h2':(l.length:Int)<2:=by omega
  have e:FB q l=l:=by
   cases l with
   | nil=>rfl
   | cons x r=>
    have:r=[]:=List.length_eq_zero_iff.1 (by simp only[List.length_cons]at h2;omega)
    subst this;rfl
  simp only[WJ,go_sem,h2',e,Nat.sub_self,List.replicate_zero,List.append_nil,hb,hb2,hb3];rw[HE hh]
 have h2':¬(l.length:Int)<2:=by omega
 simp only[WJ,go_sem,h2'];refine LA (fun k:Nat=>⟨[(0,.own id l.length 0 l.length),(3,AI ((k+1:Nat):Int))],h,[]⟩) (fun k=>k+1≤l.length∧FB q (l.take (k+1))=l.take (k+1)) (fun k=>l.length-(k+1)) 0 rfl ⟨by omega,?_⟩ ?_
 ·cases l with
  | nil=>rfl
  | cons x r=>rfl
 rintro k ⟨hk,hc⟩
 rcases Nat.lt_or_ge (k+1) l.length with hlt|hge
 ·have hk0:k<l.length:=by omega
  have g1:l[k+1]?=some l[k+1]:=List.getElem?_eq_getElem hlt
  have g2:l[k]?=some l[k]:=List.getElem?_eq_getElem hk0
  have c1:=nE (lF hs hlt)
  have c2:=nE (lF hs hk0)
  have w1:IntKind.i64.wrap (((k+1:Nat):Int)-1)=(k:Int):=by rw[yA _ (by omega) (by omega)];omega
  have w2:IntKind.i64.wrap (((k+1:Nat):Int)+1)=((k+1+1:Nat):Int):=yA _ (by omega) (by omega)
  have hqk:=hq1 _ (List.getElem_mem hlt) _ (List.getElem_mem hk0)
  have hcs:=ZY q l k hlt
  cases hqx:q l[k+1] l[k]with
  | false=>
   rw[hqx]at hcs;simp only[go_sem,hh,hlt,hk0,g1,g2,c1,c2,w1,w2,hqk,hqx];exact⟨k+1,rfl,⟨by omega,by rw[hcs,hc,cond_false,List.take_succ_eq_append_getElem hlt]⟩,by omega⟩
  | true=>
   rw[hqx,cond_true,List.append_nil,hc]at hcs;have hle:k+1≤l.length:=by omega
   simp only[go_sem,hh,hlt,hk0,hle,g1,g2,c1,c2,w1,hqk,hqx];have e0:k+1+(l.length-(k+1))=l.length:=by omega
   refine LA (fun t:List PV×Nat×Nat=>⟨[(0,.own id l.length 0 l.length),(3,AI ((t.2.1:Nat):Int)),(4,.own id l.length (k+1) (l.length-(k+1))),(5,AI ((t.2.2+1:Nat):Int))],h.set id (.row none t.1 0),[]⟩)
    (fun t=>t.1.length=l.length∧KC none t.1∧t.2.1≤k+1+t.2.2∧k+1+t.2.2<l.length∧t.1.take t.2.1=FB q (l.take (k+1+t.2.2+1))∧t.1.drop (k+1+t.2.2)=l.drop (k+1+t.2.2)) (fun t=>l.length-t.2.2)
    (l,k+1,0) (by rw[HE hh];rfl) ⟨rfl,hs,by simp,by simpa using hlt,by simpa using hcs.symm,rfl⟩ ?_
   rintro⟨row,i,j⟩ ⟨r1,r2,r3,r4,r5,r6⟩
   dsimp only at r1 r2 r3 r4 r5 r6;rcases Nat.lt_or_ge (k+1+j+1) l.length with hlt2|hge2
   ·have a1:row[k+1+j+1]?=some l[k+1+j+1]:=by
     have:=congrArg (·[1]?) r6
     simp only[List.getElem?_drop]at this;rw[this,List.getElem?_eq_getElem hlt2]
    have a2:row[k+1+j]?=some l[k+1+j]:=by
     have:=congrArg (·[0]?) r6
     simp only[List.getElem?_drop,Nat.add_zero]at this;rw[this,List.getElem?_eq_getElem r4]
    have s1:=lF hs hlt2
    have d1:=nE s1
    have d2:=nE (lF hs r4)
    have hil:i<l.length:=by omega
    have hir:i<row.length:=by omega
    have g3:row[i]?=some row[i]:=List.getElem?_eq_getElem hir
    have t1:=fun xs h1=>rJ s1 (lF r2 hir) id i 0 xs h1
    have lx:=qJ s1
    have sx:=pJ s1
    simp only[gA]at lx;have v1:IntKind.i64.wrap (((j+1:Nat):Int)-1)=(j:Int):=by rw[yA _ (by omega) (by omega)];omega
    have v2:IntKind.i64.wrap (((j+1:Nat):Int)+1)=((j+1+1:Nat):Int):=yA _ (by omega) (by omega)
    have v3:IntKind.i64.wrap ((i:Int)+1)=((i+1:Nat):Int):=yA _ (by omega) (by omega)
    have p1:j+1<l.length-(k+1):=by omega
    have p2:j<l.length-(k+1):=by omega
    have p3:k+1+(j+1)=k+1+j+1:=by omega
    have p4:k+1+(l.length-(k+1))≤l.length:=by omega
    have hqj:=hq2 _ (List.getElem_mem hlt2) _ (List.getElem_mem r4)
    have hcs2:=ZY q l (k+1+j) hlt2
    cases hqy:q l[k+1+j+1] l[k+1+j]with
    | true=>
     rw[hqy,cond_true,List.append_nil]at hcs2;simp only[go_sem,hst,r1,p1,p2,p3,p4,e0,a1,a2,d1,d2,v1,v2,hqj,hqy];refine⟨(row,i,j+1),rfl,⟨r1,r2,by dsimp only;omega,by dsimp only;omega,?_,?_⟩,by dsimp only;omega⟩
     ·dsimp only;rw[r5,←hcs2];rfl
     ·dsimp only;rw[show k+1+(j+1)=k+1+j+1 from rfl,←List.drop_drop,r6,List.drop_drop]
    | false=>
     rw[hqy,cond_false]at hcs2;simp only[go_sem,hst,r1,p1,p2,p3,p4,e0,a1,a2,g3,d1,d2,v1,v2,v3,hil,hqj,hqy,lx,sx,t1];refine⟨(row.set i l[k+1+j+1],i+1,j+1),rfl,⟨by simpa using r1,fun x hx=>?_,by dsimp only;omega,by dsimp only;omega,?_,?_⟩,by dsimp only;omega⟩
     ·rcases List.mem_or_eq_of_mem_set hx with hx|rfl
      ·exact r2 x hx
      ·exact s1
     ·dsimp only
      rw[show k+1+(j+1)+1=k+1+j+1+1 from rfl,hcs2,←r5,List.take_succ_eq_append_getElem (by simp;omega)]
      simp [List.take_set_of_le]
     ·dsimp only
      rw[List.drop_set_of_lt (by omega),show k+1+(j+1)=k+1+j+1 from rfl,←List.drop_drop,r6,List.drop_drop]
   ·have ej:k+1+j+1=l.length:=by omega
    rw[ej,List.take_length]at r5;have hil:i≤l.length:=by omega
    have hm:(FB q l).length=i:=by rw[←r5];simp;omega
    have p1:¬(j+1<l.length-(k+1)):=by omega
    have sp:splice row i (List.replicate (l.length-i) (PV.int .u64 0))=FB q l++List.replicate (l.length-i) (PV.int .u64 0):=by
     unfold splice;rw[r5,List.length_replicate,List.drop_of_length_le (by omega),List.append_nil]
    have rl:(FB q l++List.replicate (l.length-i) (PV.int .u64 0)).length=l.length:=by simp only[List.length_append,hm,List.length_replicate];omega
    rw[hm];generalize FB q l++List.replicate (l.length-i) (PV.int .u64 0)=row' at *;simp only[go_sem,hst,r1,rl,hil,p1,sp,show i+(l.length-i)=l.length by omega,hb,hb2,hb3]
 ·have ek:k+1=l.length:=by omega
  rw[ek,List.take_length]at hc;have hge':¬k+1<l.length:=by omega
  simp only[go_sem,hge',hc,Nat.sub_self,List.replicate_zero,List.append_nil,hb,hb2,hb3];rw[HE hh]
end Go.Am
end
section
/- Faults of nets: what the words mean,in plain Lean. -/
set_option linter.all false
namespace Go.Am
def LU (c:UInt8):Bool:=[48,49].contains c
def oB (s:List UInt8):Bool:=s.all LU
theorem YJ (p:UInt8→Bool):∀l:List UInt8,l.dropWhile p=[]↔l.all p=true
 | []=>by simp
 | c::r=>by
  rw[List.dropWhile_cons,List.all_cons];cases hp:p c with
  | true=>simp only[if_true,Bool.true_and];exact YJ p r
  | false=>simp
theorem zjX (s:List UInt8):decide ((s.reverse.dropWhile ([48,49].contains ·)).reverse.dropWhile ([48,49].contains ·)=[])=oB s:=by
 rw[Bool.eq_iff_iff,decide_eq_true_eq,YJ,List.all_reverse];have hb:oB s=s.all ([48,49].contains ·):=rfl
 rw[hb];constructor
 ·intro h
  rw[←YJ]at h;have key:∀l:List UInt8,(l.dropWhile ([48,49].contains ·)).all ([48,49].contains ·)=true→l.all ([48,49].contains ·)=true:=by
   intro l;induction l with
   | nil=>intro _;rfl
   | cons c r ih=>
    rw[List.dropWhile_cons];split
    ·rename_i hp;intro h;rw[List.all_cons,hp,ih h];rfl
    ·exact id
  have:=key s.reverse ((YJ _ _).1 h);rwa [List.all_reverse]at this
 ·intro h
  have key:∀l:List UInt8,l.all ([48,49].contains ·)=true→(l.dropWhile ([48,49].contains ·)).all ([48,49].contains ·)=true:=by
   intro l hl;rw[(YJ _ l).2 hl];rfl
  exact key _ (by rwa [List.all_reverse])
def VD (long:Nat):List (List UInt8)→Int
 | []=>0
 | s::r=>if oB s=false then 3 else if 64<s.length then 2 else if s.length≠long then 3 else VD long r
def vC (t:List (List UInt8)):Int:=if t.length=0 then 8 else if 100<t.length then 2 else VD (t.headD []).length t
structure Flt where
 kind:Int
 nets:List Int
 deriving DecidableEq
def GC (n:Int)(x:Int):Bool:=decide (x<0)||decide (n-1<x)
def IE (k:Int):Bool:=decide (3≤k)&&decide (k≤5)
def FE:List Int→Bool
 | a::b::r=>decide (a<b)&&FE (b::r)
 | _=>true
def uB (n:Int)(f:Flt):Int:=
 if n<1∨100<n then 1 else if f.kind<1∨6<f.kind then 4 else if f.nets.length=0 then 8 else if 6<f.nets.length then 2
 else if f.nets.any (GC n)=true then 1 else if IE f.kind≠decide (1<f.nets.length) then 3
 else if FE (if f.kind=5 then f.nets.drop 1 else f.nets)=false then 7
 else if f.kind=5∧(f.nets.drop 1).contains (f.nets.headD 0)=true then 6 else 0
def eF (n:Int):List Flt→Int
 | []=>0
 | f::r=>if uB n f≠0 then uB n f else eF n r
theorem z2W (l:List Int)(k:Nat)(hk:k+1<l.length):FE (l.drop k)=(decide (l[k]<l[k+1])&&FE (l.drop (k+1))):=by
 rw[List.drop_eq_getElem_cons (show k<l.length by omega),List.drop_eq_getElem_cons hk]
 rfl
theorem z2V (l:List Int)(k:Nat)(hk:l.length≤k+1):FE (l.drop k)=true:=by
 have:(l.drop k).length≤1:=by simp;omega
 match l.drop k,this with
 | [],_=>rfl
 | [a],_=>rfl
 | _::_::_,h=>simp at h
end Go.Am
end
section
/- Numbers asv sets of bits;rows of a test asv numbers. -/
set_option linter.all false
namespace Go.Am
theorem kG (n:Nat)(h:n<18446744073709551616):IntKind.u64.wrap (n:Int)=(n:Int):=by
 simp [IntKind.wrap,IntKind.bits,IntKind.signed];omega
theorem bvN (a:Nat):BitVec.ofInt 64 (a:Int)=BitVec.ofNat 64 a:=by simp
theorem iC:(2:Nat)^64=18446744073709551616:=rfl
theorem JN {a b:Nat}(ha:a<18446744073709551616)(hb:b<18446744073709551616):ior .u64 a b=((a ||| b:Nat):Int):=by
 show IntKind.u64.wrap ((BitVec.ofInt 64 (a:Int) ||| BitVec.ofInt 64 (b:Int)).toNat:Int)=_
 rw[bvN,bvN,BitVec.toNat_or,BitVec.toNat_ofNat,BitVec.toNat_ofNat,Nat.mod_eq_of_lt (by rw[iC];exact ha),Nat.mod_eq_of_lt (by rw[iC];exact hb)]
 exact kG _ (by rw[←iC]at *;exact Nat.or_lt_two_pow ha hb)
theorem yE {a b:Nat}(ha:a<18446744073709551616)(hb:b<18446744073709551616):XC .u64 a b=((a &&& b:Nat):Int):=by
 show IntKind.u64.wrap ((BitVec.ofInt 64 (a:Int) &&& BitVec.ofInt 64 (b:Int)).toNat:Int)=_
 rw[bvN,bvN,BitVec.toNat_and,BitVec.toNat_ofNat,BitVec.toNat_ofNat,Nat.mod_eq_of_lt (by rw[iC];exact ha),Nat.mod_eq_of_lt (by rw[iC];exact hb)]
 exact kG _ (by rw[←iC]at *;exact Nat.lt_of_le_of_lt Nat.and_le_left ha)
theorem z1R {a b:Nat}(ha:a<18446744073709551616)(hb:b<18446744073709551616):WG .u64 a b=((a ^^^ b:Nat):Int):=by
 show IntKind.u64.wrap ((BitVec.ofInt 64 (a:Int) ^^^ BitVec.ofInt 64 (b:Int)).toNat:Int)=_
 rw[bvN,bvN,BitVec.toNat_xor,BitVec.toNat_ofNat,BitVec.toNat_ofNat,Nat.mod_eq_of_lt (by rw[iC];exact ha),Nat.mod_eq_of_lt (by rw[iC];exact hb)]
 exact kG _ (by rw[←iC]at *;exact Nat.xor_lt_two_pow ha hb)
theorem MU {a i:Nat}(hi:i≤64)(hl:a*2^i<18446744073709551616):NF .u64 (a:Int) (i:Int)=((a*2^i:Nat):Int):=by
 unfold NF;have:min ((i:Int)).toNat IntKind.u64.bits=i:=by simp only[IntKind.bits,Int.toNat_natCast];omega
 rw[this,←kG _ hl];congr 1
theorem VG {a i:Nat}(hi:i≤64):yD .u64 (a:Int) (i:Int)=((a / 2^i:Nat):Int):=by
 unfold yD;have:min ((i:Int)).toNat IntKind.u64.bits=i:=by simp only[IntKind.bits,Int.toNat_natCast];omega
 rw[this];rw[show((2:Int)^i)=((2^i:Nat):Int) by simp]
 exact(Int.ofNat_fdiv a (2^i)).symm
theorem z6A (n i:Nat):(n / 2^i) &&& 1=if n.testBit i then 1 else 0:=by
 rw[Nat.and_one_is_mod];have:=Nat.testBit_eq_decide_div_mod_eq (x:=n) (i:=i);rw[this];split
 ·rename_i h;simpa using h
 ·rename_i h;simp at h;omega
def MA:List UInt8→Nat
 | []=>0
 | c::r=>(c.toNat-48)+2*MA r
theorem GR {c:UInt8}{r:List UInt8}(h:oB (c::r)=true):(c=48∨c=49)∧oB r=true:=by
 unfold oB at *;rw[List.all_cons,Bool.and_eq_true]at h;refine⟨?_,h.2⟩;have:=h.1;unfold LU at this;simpa [List.contains_cons] using this
theorem SP:∀ (s:List UInt8),oB s=true→MA s<2^s.length
 | [],_=>by simp [MA]
 | c::r,h=>by
  obtain⟨h1,h2⟩:=GR h;have:=SP r h2;rw[MA,List.length_cons,Nat.pow_succ];rcases h1 with rfl|rfl <;> simp <;> omega
theorem OW:∀ (s:List UInt8) (i:Nat),oB s=true→(MA s).testBit i=decide (s[i]?=some 49)
 | [],i,_=>by simp [MA]
 | c::r,0,h=>by
  obtain⟨h1,h2⟩:=GR h;rw[MA,Nat.testBit_zero];rcases h1 with rfl|rfl <;> simp <;> omega
 | c::r,i+1,h=>by
  obtain⟨h1,h2⟩:=GR h;have ih:=OW r i h2
  rw[MA,Nat.testBit_succ,List.getElem?_cons_succ,←ih];congr 1
  rcases h1 with rfl|rfl <;> simp <;> omega
theorem vY {s:List UInt8}(k:Nat)(h:oB s=true):oB (s.take k)=true:=by
 unfold oB at *;rw[List.all_eq_true]at *;exact fun x hx=>h x (List.mem_of_mem_take hx)
theorem z7k {s:List UInt8}{k:Nat}(hk:k<s.length)(h:oB s=true):s[k]=48∨s[k]=49:=by
 unfold oB at h;have:=List.all_eq_true.1 h _ (List.getElem_mem hk);unfold LU at this;simpa [List.contains_cons] using this
theorem z2Y:∀ (s:List UInt8) (c:UInt8),MA (s++[c])=MA s+(c.toNat-48)*2^s.length
 | [],c=>by simp [MA]
 | a::r,c=>by
  rw[List.cons_append,MA,z2Y r c,MA,List.length_cons,Nat.pow_succ,Nat.mul_add,Nat.mul_left_comm 2,Nat.mul_comm 2 (2^r.length),Nat.add_assoc]
theorem zfc (a b i:Nat)(h:a<2^i):a ||| b*2^i=a+b*2^i:=by
 have:=Nat.two_pow_add_eq_or_of_lt h b;rw[Nat.or_comm,Nat.mul_comm b,←this,Nat.add_comm]
theorem zi5 {s:List UInt8}{k:Nat}(hk:k<s.length)(h:oB s=true):MA (s.take k) ||| (s[k].toNat-48)*2^k=MA (s.take (k+1)):=by
 have h1:=SP (s.take k) (vY k h)
 rw[List.length_take,Nat.min_eq_left (by omega)]at h1
 rw[zfc _ _ _ h1,List.take_succ_eq_append_getElem hk,z2Y,List.length_take,Nat.min_eq_left (by omega)]
def VA (r:List Nat)(n:Int):Nat:=r.getD n.toNat 0
def WC (r:List Nat)(f:Flt)(ones:Nat):Nat:=
 if f.kind=1 then 0 else if f.kind=2∨f.kind=6 then ones
 else if f.kind=3 then f.nets.foldl (fun v n=>v &&& VA r n) (VA r (f.nets.headD 0))
 else if f.kind=4 then f.nets.foldl (fun v n=>v ||| VA r n) (VA r (f.nets.headD 0))
 else VA r (f.nets.headD 0)
def ZB (v:Nat):List Int→List Nat→List Nat
 | [],r=>r
 | n::l,r=>ZB v l (r.set n.toNat v)
def DC (r:List Nat)(f:Flt)(ones:Nat):List Nat:=ZB (WC r f ones) f.nets r
theorem aX (v:Nat):∀(l:List Int) (r:List Nat),(ZB v l r).length=r.length
 | [],r=>rfl
 | n::l,r=>by rw[ZB,aX v l,List.length_set]
theorem z3E (v:Nat):∀(l:List Int) (r:List Nat) (k:Nat),(∀n∈l,0≤n)→(ZB v l r)[k]?=if(k:Int)∈l∧k<r.length then some v else r[k]?
 | [],r,k,_=>by simp [ZB]
 | n::l,r,k,h=>by
  rw[ZB,z3E v l _ k (fun m hm=>h m (by simp [hm])),List.length_set,List.getElem?_set]
  have h0:=h n (by simp)
  by_cases hk:k<r.length
  ·by_cases hm:(k:Int)∈l
   ·simp [hk,hm]
   ·by_cases hn:n.toNat=k
    ·have:(k:Int)=n:=by omega
     simp [hk,hm,hn,this]
    ·have:¬(k:Int)=n:=by omega
     simp [hk,hm,hn,this]
  ·have hn:r[k]?=none:=List.getElem?_eq_none (by omega)
   simp [hk,hn];intro e;omega
theorem z3G (v:Nat)(n:Int):∀(l:List Int) (r:List Nat),ZB v (l++[n]) r=(ZB v l r).set n.toNat v
 | [],r=>rfl
 | m::l,r=>by rw[List.cons_append,ZB,z3G v n l,ZB]
theorem QK {f:Nat→Nat→Nat}{B:Nat}(hf:∀ a b,a<B→b<B→f a b<B)(g:Int→Nat)(hg:∀ n,g n<B):∀(l:List Int) (v:Nat),v<B→l.foldl (fun v n=>f v (g n)) v<B
 | [],v,h=>h
 | n::l,v,h=>by rw[List.foldl_cons];exact QK hf g hg l _ (hf _ _ h (hg n))
theorem z2X {r:List Nat}{B:Nat}(hr:∀ x∈r,x<B)(h0:0<B)(n:Int):VA r n<B:=by
 unfold VA;rw[List.getD_eq_getElem?_getD];cases hq:r[n.toNat]? with
 | none=>exact h0
 | some x=>exact hr x (List.mem_of_getElem? hq)
theorem zcI {r:List Nat}{f:Flt}{ones e:Nat}(hr:∀ x∈r,x<2^e)(ho:ones<2^e):WC r f ones<2^e:=by
 have h0:0<2^e:=Nat.two_pow_pos e
 have hq:=z2X hr h0
 unfold WC;split
 ·exact h0
 split
 ·exact ho
 split
 ·exact QK (f:=(· &&& ·)) (fun a b ha hb=>Nat.lt_of_le_of_lt Nat.and_le_left ha) (VA r) hq _ _ (hq _)
 split
 ·exact QK (f:=(· ||| ·)) (fun a b ha hb=>Nat.or_lt_two_pow ha hb) (VA r) hq _ _ (hq _)
 ·exact hq _
theorem z3F {v B:Nat}(hv:v<B):∀(l:List Int) (r:List Nat),(∀x∈r,x<B)→∀x∈ZB v l r,x<B
 | [],r,h=>h
 | n::l,r,h=>by
  rw[ZB];refine z3F hv l _ (fun x hx=>?_)
  rcases List.mem_or_eq_of_mem_set hx with hx|rfl
  ·exact h x hx
  ·exact hv
theorem z1r {r:List Nat}{f:Flt}{ones e:Nat}(hr:∀ x∈r,x<2^e)(ho:ones<2^e):∀x∈DC r f ones,x<2^e:=z3F (zcI hr ho) _ _ hr
theorem FN (r:List Nat)(f:Flt)(ones:Nat):(DC r f ones).length=r.length:=aX _ _ _
end Go.Am
end
section
/- Shorted nets respond alike: in plain Lean. -/
set_option linter.all false
namespace Go.Am
section
variable (r:List Nat) (x y:Int) (ones:Nat)
def hJ (f:Flt)(i:Nat):Nat:=if(i:Int)∈f.nets then WC r f ones else r.getD i 0
variable {r x y ones}
end
end Go.Am
end
section
/- What a fault changes,and the first vector that shows it: in plain Lean. -/
set_option linter.all false
namespace Go.Am
def dtK (r2 r:List Nat):Nat→Nat
 | 0=>0
 | k+1=>dtK r2 r k ||| (r2.getD k 0 ^^^ r.getD k 0)
def CG (lg:Nat)(r:List Nat)(f:Flt):Nat:=dtK (DC r f (2^lg-1)) r r.length
theorem DZ (r2 r:List Nat)(v:Nat):∀k,(dtK r2 r k).testBit v=true↔∃i,i<k∧(r2.getD i 0).testBit v≠(r.getD i 0).testBit v
 | 0=>by simp [dtK]
 | k+1=>by
  rw[dtK,Nat.testBit_or,Nat.testBit_xor,Bool.or_eq_true,DZ r2 r v k];constructor
  ·rintro (⟨i,h1,h2⟩|h)
   ·exact⟨i,by omega,h2⟩
   ·exact⟨k,by omega,by simpa using h⟩
  ·rintro⟨i,h1,h2⟩
   by_cases hi:i=k
   ·subst hi;right;simpa using h2
   ·left;exact⟨i,by omega,h2⟩
theorem kU {r2 r:List Nat}{e:Nat}(h2:∀ x∈r2,x<2^e)(h1:∀ x∈r,x<2^e):∀k,dtK r2 r k<2^e
 | 0=>Nat.two_pow_pos e
 | k+1=>by
  have g:∀(l:List Nat),(∀x∈l,x<2^e)→l.getD k 0<2^e:=fun l hl=>by
   rw[List.getD_eq_getElem?_getD];cases hq:l[k]? with
   | none=>exact Nat.two_pow_pos e
   | some x=>exact hl x (List.mem_of_getElem? hq)
  exact Nat.or_lt_two_pow (kU h2 h1 k) (Nat.xor_lt_two_pow (g _ h2) (g _ h1))
theorem zeZ (lg:Nat):2^lg-1<2^lg:=by have:=Nat.two_pow_pos lg;omega
theorem tZ {lg:Nat}{r:List Nat}{f:Flt}(h:∀ x∈r,x<2^lg):CG lg r f<2^lg:=kU (z1r h (zeZ lg)) h _
end Go.Am
end
section
/- How many bits are set: the library's way of counting them. -/
set_option linter.all false
namespace Go.Am
def uA:Nat→Nat→Nat
 | 0,_=>0
 | k+1,n=>n%2+uA k (n / 2)
def hB:List Nat→Nat
 | []=>0
 | b::r=>b+256*hB r
def rD:Nat→Nat→List Nat
 | 0,_=>[]
 | k+1,n=>n%256::rD k (n / 256)
theorem z1G:∀ (k n:Nat),n<256^k→hB (rD k n)=n
 | 0,n,h=>by simp at h;simp [rD,hB,h]
 | k+1,n,h=>by
  rw[Nat.pow_succ]at h;rw[rD,hB,z1G k _ (by omega)]
  omega
theorem z3U:∀ (k n:Nat),∀ b∈rD k n,b<256
 | 0,n,b,h=>by cases h
 | k+1,n,b,h=>by
  rcases List.mem_cons.1 h with e|e
  ·omega
  ·exact z3U k _ b e
theorem EW:∀ (k j n:Nat),uA (k+j) n=uA k n+uA j (n / 2^k)
 | 0,j,n=>by simp [uA]
 | k+1,j,n=>by
  rw[Nat.add_right_comm,uA,EW k j,uA,Nat.pow_succ,Nat.mul_comm (2^k) 2,←Nat.div_div_eq_div_mul,Nat.add_assoc]
theorem z2B:∀ (k n m:Nat),uA k (n+2^k*m)=uA k n
 | 0,n,m=>rfl
 | k+1,n,m=>by
  have e1:(n+2^(k+1)*m)%2=n%2:=by rw[Nat.pow_succ,Nat.mul_comm (2^k) 2,Nat.mul_assoc];omega
  have e2:(n+2^(k+1)*m) / 2=n / 2+2^k*m:=by rw[Nat.pow_succ,Nat.mul_comm (2^k) 2,Nat.mul_assoc];omega
  rw[uA,e1,e2,z2B k,uA]
theorem z2A:∀ (k n:Nat),uA (8*k) n=((rD k n).map (uA 8)).sum
 | 0,n=>rfl
 | k+1,n=>by
  rw[Nat.mul_add,Nat.add_comm,EW,z2A k,rD,List.map_cons,List.sum_cons];have h:uA 8 n=uA 8 (n%256):=by
   have:=z2B 8 (n%256) (n / 256);rw[show n%256+2^8*(n / 256)=n by omega]at this
   exact this
  rw[h]
theorem CJ {d e:Nat}(y m:Nat)(hd:d<256)(he:e<256):(d+256*y) &&& (e+256*m)=(d &&& e)+256*(y &&& m):=by
 have h8:(256:Nat)=2^8:=rfl
 have h3:d &&& e<2^8:=Nat.lt_of_le_of_lt Nat.and_le_left hd
 rw[h8,Nat.add_comm d,Nat.add_comm e,Nat.add_comm (d &&& e),Nat.two_pow_add_eq_or_of_lt (by omega),Nat.two_pow_add_eq_or_of_lt (by omega),Nat.two_pow_add_eq_or_of_lt h3]
 apply Nat.eq_of_testBit_eq
 intro i;have hz:∀a,a<2^8→8≤i→a.testBit i=false:=fun a ha hi=>Nat.testBit_lt_two_pow (Nat.lt_of_lt_of_le ha (Nat.pow_le_pow_right (by omega) hi))
 simp only[Nat.testBit_and,Nat.testBit_or,Nat.testBit_two_pow_mul];by_cases hi:8≤i
 ·simp [hi,hz d (by omega) hi,hz e (by omega) hi]
 ·simp [hi]
def t1 (b:Nat):Nat:=(b / 2 &&& 85)+(b &&& 85)
def t2 (b:Nat):Nat:=(b / 4 &&& 51)+(b &&& 51)
theorem f1:∀ b:Fin 256,∀ c:Fin 2,(b.val / 2+128*c.val) &&& 85=b.val / 2 &&& 85:=by decide +kernel
theorem f2:∀ b:Fin 256,∀ c:Fin 4,(b.val / 4+64*c.val) &&& 51=b.val / 4 &&& 51:=by decide +kernel
theorem f3:∀ b:Fin 256,t1 b.val<256∧t2 b.val<256∧t2 (t1 b.val)≤68∧t2 (t1 b.val)%16≤4∧t2 (t1 b.val) / 16+t2 (t1 b.val)%16=uA 8 b.val:=by decide +kernel
theorem f4:∀ c:Fin 69,∀ k:Fin 5,c.val%16≤4→(c.val / 16+c.val+16*k.val) &&& 15=c.val / 16+c.val%16:=by decide +kernel
theorem l1:∀ l:List Nat,(∀ b∈l,b<256)→(hB l / 2 &&& hB (l.map fun _=>85))+(hB l &&& hB (l.map fun _=>85))=hB (l.map t1)
 | [],_=>rfl
 | b::r,h=>by
  have hb:=h b (by simp)
  have ih:=l1 r fun x hx=>h x (by simp [hx])
  simp only[hB,List.map_cons];have e:(b+256*hB r) / 2=(b / 2+128*(hB r%2))+256*(hB r / 2):=by omega
  rw[e,CJ _ _ (by omega) (by omega),CJ _ _ hb (by omega),f1 ⟨b,hb⟩ ⟨hB r%2,by omega⟩,←ih]
  unfold t1;dsimp only;omega
theorem l2:∀ l:List Nat,(∀ b∈l,b<256)→(hB l / 4 &&& hB (l.map fun _=>51))+(hB l &&& hB (l.map fun _=>51))=hB (l.map t2)
 | [],_=>rfl
 | b::r,h=>by
  have hb:=h b (by simp)
  have ih:=l2 r fun x hx=>h x (by simp [hx])
  simp only[hB,List.map_cons];have e:(b+256*hB r) / 4=(b / 4+64*(hB r%4))+256*(hB r / 4):=by omega
  rw[e,CJ _ _ (by omega) (by omega),CJ _ _ hb (by omega),f2 ⟨b,hb⟩ ⟨hB r%4,by omega⟩,←ih]
  unfold t2;dsimp only;omega
theorem zcV {l:List Nat}(h:∀ b∈l,b%16≤4):hB l%16≤4:=by
 cases l with
 | nil=>simp [hB]
 | cons b r=>have:=h b (by simp);simp only[hB];omega
theorem l3:∀ l:List Nat,(∀ b∈l,b≤68∧b%16≤4)→(hB l / 16+hB l) &&& hB (l.map fun _=>15)=hB (l.map fun c=>c / 16+c%16)
 | [],_=>rfl
 | b::r,h=>by
  obtain⟨hb,hb2⟩:=h b (by simp)
  have ih:=l3 r fun x hx=>h x (by simp [hx])
  have hm:=zcV (l:=r) fun x hx=>(h x (by simp [hx])).2
  simp only[hB,List.map_cons];have e:(b+256*hB r) / 16+(b+256*hB r)=(b / 16+b+16*(hB r%16))+256*(hB r / 16+hB r):=by omega
  rw[e,CJ _ _ (by omega) (by omega),f4 ⟨b,by omega⟩ ⟨hB r%16,by omega⟩ hb2,ih]
def SA (x:Nat):Nat:=(x / 2 &&& 6148914691236517205)+(x &&& 6148914691236517205)
def yB (x:Nat):Nat:=(x / 4 &&& 3689348814741910323)+(x &&& 3689348814741910323)
def VB (x:Nat):Nat:=(x / 16+x) &&& 1085102592571150095
theorem zih {x:Nat}(h:x<18446744073709551616):VB (yB (SA x))=hB ((rD 8 x).map (uA 8)):=by
 have h0:=z1G 8 x (by rw[show(256:Nat)^8=18446744073709551616 from rfl];exact h)
 have hb:=z3U 8 x
 have hlen:rD 8 x=[x%256,x / 256%256,x / 256 / 256%256,x / 256 / 256 / 256%256,x / 256 / 256 / 256 / 256%256,x / 256 / 256 / 256 / 256 / 256%256,x / 256 / 256 / 256 / 256 / 256 / 256%256,x / 256 / 256 / 256 / 256 / 256 / 256 / 256%256]:=rfl
 have m1:hB ((rD 8 x).map fun _=>85)=6148914691236517205:=by rw[hlen];simp [hB]
 have m2:hB (((rD 8 x).map t1).map fun _=>51)=3689348814741910323:=by rw[hlen];simp [hB]
 have m3:hB ((((rD 8 x).map t1).map t2).map fun _=>15)=1085102592571150095:=by rw[hlen];simp [hB]
 generalize rD 8 x=l at *;have q1:∀b∈l.map t1,b<256:=fun b hb'=>by
  obtain⟨c,hc,rfl⟩:=List.mem_map.1 hb';exact(f3 ⟨c,hb c hc⟩).1
 have q2:∀b∈(l.map t1).map t2,b≤68∧b%16≤4:=fun b hb'=>by
  rw[List.map_map]at hb';obtain⟨c,hc,rfl⟩:=List.mem_map.1 hb';have:=f3 ⟨c,hb c hc⟩;exact⟨this.2.2.1,this.2.2.2.1⟩
 have s1:SA x=hB (l.map t1):=by rw[←l1 l hb,m1,h0];rfl
 have s2:yB (SA x)=hB ((l.map t1).map t2):=by rw[s1,←l2 _ q1,m2];rfl
 have s3:VB (yB (SA x))=hB (((l.map t1).map t2).map fun c=>c / 16+c%16):=by rw[s2,←l3 _ q2,m3];rfl
 rw[s3,List.map_map,List.map_map];congr 1
 apply List.map_congr_left
 intro c hc;exact(f3 ⟨c,hb c hc⟩).2.2.2.2
theorem NP:∀ (k n:Nat),uA k n≤k
 | 0,n=>Nat.le_refl _
 | k+1,n=>by have:=NP k (n / 2);rw[uA];omega
theorem dv1 (p y:Nat)(h:p<256):(p+256*y) / 256=y:=by omega
theorem dv2 (p y:Nat)(h:p<65536):(p+65536*y) / 65536=y:=by omega
theorem dv4 (p y:Nat)(h:p<4294967296):(p+4294967296*y) / 4294967296=y:=by omega
theorem md7 (s y:Nat)(h:s<128):(s+128*y)%128=s:=by omega
theorem sm1 (p0 p1 p2 p3 p4 p5 p6 p7:Nat):p0+256*(p1+256*(p2+256*(p3+256*(p4+256*(p5+256*(p6+256*(p7+256*0)))))))+(p1+256*(p2+256*(p3+256*(p4+256*(p5+256*(p6+256*(p7+256*0)))))))
 = ((p0+p1)+256*(p1+p2))+65536*((p2+p3)+256*((p3+p4)+256*((p4+p5)+256*((p5+p6)+256*((p6+p7)+256*p7))))):=by omega
theorem sm2 (p0 p1 p2 p3 p4 p5 p6 p7:Nat):((p0+p1)+256*(p1+p2))+65536*((p2+p3)+256*((p3+p4)+256*((p4+p5)+256*((p5+p6)+256*((p6+p7)+256*p7)))))+((p2+p3)+256*((p3+p4)+256*((p4+p5)+256*((p5+p6)+256*((p6+p7)+256*p7)))))
 = ((p0+p1+p2+p3)+256*(p1+p2+p3+p4)+65536*(p2+p3+p4+p5)+16777216*(p3+p4+p5+p6))+4294967296*((p4+p5+p6+p7)+256*((p5+p6+p7)+256*((p6+p7)+256*p7))):=by omega
theorem sm3 (p0 p1 p2 p3 p4 p5 p6 p7:Nat):((p0+p1+p2+p3)+256*(p1+p2+p3+p4)+65536*(p2+p3+p4+p5)+16777216*(p3+p4+p5+p6))+4294967296*((p4+p5+p6+p7)+256*((p5+p6+p7)+256*((p6+p7)+256*p7)))+((p4+p5+p6+p7)+256*((p5+p6+p7)+256*((p6+p7)+256*p7)))
 = (p0+p1+p2+p3+p4+p5+p6+p7)+128*(2*(p1+p2+p3+p4)+512*(p2+p3+p4+p5)+131072*(p3+p4+p5+p6)+33554432*((p4+p5+p6+p7)+256*((p5+p6+p7)+256*((p6+p7)+256*p7)))+2*((p5+p6+p7)+256*((p6+p7)+256*p7))):=by omega
def popL (x:Nat):Nat:=(((VB (yB (SA x))+VB (yB (SA x)) / 256)+(VB (yB (SA x))+VB (yB (SA x)) / 256) / 65536)+((VB (yB (SA x))+VB (yB (SA x)) / 256)+(VB (yB (SA x))+VB (yB (SA x)) / 256) / 65536) / 4294967296)%128
theorem bd2 {a b c:Nat}(h0:a≤8)(h1:b≤8)(h2:c≤8):(a+b)+256*(b+c)<65536:=by omega
theorem bd4 {a b c d:Nat}(h0:a≤32)(h1:b≤32)(h2:c≤32)(h3:d≤32):a+256*b+65536*c+16777216*d<4294967296:=by omega
theorem bd1 {a b c d:Nat}(h0:a≤8)(h1:b≤8)(h2:c≤8)(h3:d≤8):a+b+c+d≤32:=by omega
theorem bd8 {a b c d e f g i:Nat}(h0:a≤8)(h1:b≤8)(h2:c≤8)(h3:d≤8)(h4:e≤8)(h5:f≤8)(h6:g≤8)(h7:i≤8):a+b+c+d+e+f+g+i<128:=by omega
theorem zij (p0 p1 p2 p3 p4 p5 p6 p7 Y A B:Nat)(h0:p0≤8)(h1:p1≤8)(h2:p2≤8)(h3:p3≤8)(h4:p4≤8)(h5:p5≤8)(h6:p6≤8)(h7:p7≤8)
 (hY:Y=hB [p0,p1,p2,p3,p4,p5,p6,p7]) (hA:A=Y+Y / 256) (hB':B=A+A / 65536):(B+B / 4294967296)%128=p0+p1+p2+p3+p4+p5+p6+p7:=by
 simp only[hB]at hY;have e1:Y / 256=p1+256*(p2+256*(p3+256*(p4+256*(p5+256*(p6+256*(p7+256*0)))))):=by rw[hY];exact dv1 _ _ (Nat.lt_of_le_of_lt h0 (by decide))
 rw[e1,hY,sm1]at hA;have e2:A / 65536=(p2+p3)+256*((p3+p4)+256*((p4+p5)+256*((p5+p6)+256*((p6+p7)+256*p7)))):=by rw[hA];exact dv2 _ _ (bd2 h0 h1 h2)
 rw[e2,hA,sm2]at hB';have e3:B / 4294967296=(p4+p5+p6+p7)+256*((p5+p6+p7)+256*((p6+p7)+256*p7)):=by rw[hB'];exact dv4 _ _ (bd4 (bd1 h0 h1 h2 h3) (bd1 h1 h2 h3 h4) (bd1 h2 h3 h4 h5) (bd1 h3 h4 h5 h6))
 rw[e3,hB',sm3];exact md7 _ _ (bd8 h0 h1 h2 h3 h4 h5 h6 h7)
theorem zig {x:Nat}(h:x<18446744073709551616):popL x=uA 64 x:=by
 have e:=zih h
 have s:=z2A 8 x
 have g:=NP 8
 unfold popL;rw[show(64:Nat)=8*8 from rfl,s]
 simp only[rD,List.map_cons,List.map_nil,List.sum_cons,List.sum_nil]at e ⊢;rw[zij _ _ _ _ _ _ _ _ _ _ _ (g _) (g _) (g _) (g _) (g _) (g _) (g _) (g _) e rfl rfl];simp only[Nat.add_zero,Nat.add_assoc]
end Go.Am
end
section
/- What a fault makes of a bit,the reference's way: in plain Lean. -/
set_option linter.all false
namespace Go.Am
theorem lY (g:Int→Nat)(v:Nat):∀(l:List Int) (a:Nat),(l.foldl (fun a n=>a &&& g n) a).testBit v=(a.testBit v&&l.all fun n=>(g n).testBit v)
 | [],a=>by simp
 | n::l,a=>by rw[List.foldl_cons,lY g v l,Nat.testBit_and,List.all_cons,Bool.and_assoc]
theorem z22 (g:Int→Nat)(v:Nat):∀(l:List Int) (a:Nat),(l.foldl (fun a n=>a ||| g n) a).testBit v=(a.testBit v||l.any fun n=>(g n).testBit v)
 | [],a=>by simp
 | n::l,a=>by rw[List.foldl_cons,z22 g v l,Nat.testBit_or,List.any_cons,Bool.or_assoc]
theorem zcW {l:List Int}(h:l≠[]):l.headD 0∈l:=by
 cases l with
 | nil=>exact absurd rfl h
 | cons a r=>simp
def cH (r:List Nat)(v:Nat)(l:List Int):Nat:=l.countP fun n=>(VA r n).testBit v
def tL (r:List Nat)(f:Flt)(v:Nat):Bool:=
 if f.kind=2∨f.kind=6 then true else if f.kind=3 then decide (cH r v f.nets=f.nets.length) else if f.kind=4 then decide (0<cH r v f.nets) else if f.kind=5 then(VA r (f.nets.headD 0)).testBit v else false
theorem z3B {r:List Nat}{f:Flt}{v lg:Nat}(h0:f.nets≠[])(hk:1≤f.kind∧f.kind≤6)(hv:v<lg):(WC r f (2^lg-1)).testBit v=tL r f v:=by
 unfold WC tL;have hm:=zcW h0
 by_cases k1:f.kind=1
 ·rw[if_pos k1,if_neg (by omega),if_neg (by omega),if_neg (by omega),if_neg (by omega),Nat.zero_testBit]
 ·rw[if_neg k1]
  by_cases k2:f.kind=2∨f.kind=6
  ·rw[if_pos k2,if_pos k2,Nat.testBit_two_pow_sub_one];simpa using hv
  ·rw[if_neg k2,if_neg k2]
   by_cases k3:f.kind=3
   ·rw[if_pos k3,if_pos k3,lY]
    rw[Bool.eq_iff_iff,Bool.and_eq_true,decide_eq_true_eq,List.all_eq_true];unfold cH;rw[List.countP_eq_length];exact⟨fun h=>h.2,fun h=>⟨h _ hm,h⟩⟩
   ·rw[if_neg k3,if_neg k3]
    by_cases k4:f.kind=4
    ·rw[if_pos k4,if_pos k4,z22]
     rw[Bool.eq_iff_iff,Bool.or_eq_true,decide_eq_true_eq,List.any_eq_true];unfold cH;rw[List.countP_pos_iff];exact⟨fun h=>by rcases h with h|h;exact⟨_,hm,h⟩;exact h,fun h=>.inr h⟩
    ·rw[if_neg k4,if_neg k4,if_pos (by omega)]
def vA (lg d:Nat):List Nat:=(List.range lg).filter fun v=>d.testBit v
end Go.Am
end
section
/- Vectors that are enough: sets of vectors asv numbers,and asv lists;in plain Lean. -/
set_option linter.all false
namespace Go.Am
def sB (D:List Nat)(s:Nat):Bool:=D.all fun m=>decide (m=0)||decide (m &&& s≠0)
theorem z8R {D E:List Nat}(h:∀ m,m∈D↔m∈E)(s:Nat):sB D s=sB E s:=by
 unfold sB;rw[Bool.eq_iff_iff,List.all_eq_true,List.all_eq_true];exact⟨fun q x hx=>q x ((h x).2 hx),fun q x hx=>q x ((h x).1 hx)⟩
theorem fE {lg d v:Nat}:v∈vA lg d↔v<lg∧d.testBit v=true:=by
 unfold vA;rw[List.mem_filter,List.mem_range]
theorem FR {d lg v:Nat}(hd:d<2^lg)(h:d.testBit v=true):v<lg:=by
 rcases Nat.lt_or_ge v lg with h1|h1
 ·exact h1
 ·rw[Nat.testBit_lt_two_pow (Nat.lt_of_lt_of_le hd (Nat.pow_le_pow_right (by omega) h1))]at h;cases h
theorem mY {m s lg:Nat}(hm:m<2^lg):m &&& s≠0↔∃v,v∈vA lg m∧v∈vA lg s:=by
 constructor
 ·intro h
  apply Decidable.byContradiction
  intro hn;apply h
  apply Nat.eq_of_testBit_eq
  intro i;rw[Nat.zero_testBit,Nat.testBit_and];cases h1:m.testBit i with
  | false=>rfl
  | true=>
   cases h2:s.testBit i with
   | false=>rfl
   | true=>exact absurd ⟨i,fE.2 ⟨FR hm h1,h1⟩,fE.2 ⟨FR hm h1,h2⟩⟩ hn
 ·rintro⟨v,h1,h2⟩ h
  have:=congrArg (fun x=>Nat.testBit x v) h
  simp only[Nat.testBit_and,(fE.1 h1).2,(fE.1 h2).2,Nat.zero_testBit]at this;cases this
def UF (s v:Nat):Nat:=s &&& (18446744073709551615-2^v)
theorem UU (s v:Nat):UF s v≤s:=Nat.and_le_left
def dC (D:List Nat)(lg:Nat):Nat→Nat
 | 0=>2^lg-1
 | k+1=>if sB D (UF (dC D lg k) (lg-1-k)) then UF (dC D lg k) (lg-1-k) else dC D lg k
theorem HW (D:List Nat)(lg:Nat):∀k,dC D lg k≤2^lg-1
 | 0=>Nat.le_refl _
 | k+1=>by
  have:=HW D lg k;rw[dC];split
  ·exact Nat.le_trans (UU _ _) this
  ·exact this
theorem fZ {D:List Nat}{lg:Nat}(hD:∀ m∈D,m<2^lg):sB D (2^lg-1)=true:=by
 unfold sB;rw[List.all_eq_true];intro m hm;have:m &&& (2^lg-1)=m:=by rw[Nat.and_two_pow_sub_one_eq_mod,Nat.mod_eq_of_lt (hD m hm)]
 rw[this];by_cases h:m=0 <;> simp [h]
theorem z2K {D:List Nat}{lg:Nat}(hD:∀ m∈D,m<2^lg):∀k,sB D (dC D lg k)=true
 | 0=>fZ hD
 | k+1=>by
  rw[dC];split
  ·rename_i h;exact h
  ·exact z2K hD k
end Go.Am
end
section
/- The smallest choice of vectors,both ways;in plain Lean. -/
set_option linter.all false
namespace Go.Am
theorem MP:∀ (k n:Nat),(vA k n).length=uA k n
 | 0,n=>rfl
 | k+1,n=>by
  unfold vA;rw[List.range_succ_eq_map,List.filter_cons,List.filter_map];have e:((List.range k).filter ((fun v=>n.testBit v) ∘ Nat.succ)).length=uA k (n / 2):=by
   rw[←MP k (n / 2)];unfold vA;congr 1
   apply List.filter_congr
   intro x _;simp [Function.comp,Nat.testBit_succ]
  rw[uA];rcases Nat.mod_two_eq_zero_or_one n with h|h
  ·rw[if_neg (by rw[Nat.testBit_zero];simp [h]),List.length_map,e];omega
  ·rw[if_pos (by rw[Nat.testBit_zero];simp [h]),List.length_cons,List.length_map,e];omega
theorem z29:∀ k,uA k 0=0
 | 0=>rfl
 | k+1=>by rw[uA,z29 k]
theorem DW {k n:Nat}(hk:k≤64)(hn:n<2^k):uA 64 n=uA k n:=by
 have:=EW k (64-k) n;rw[Nat.add_sub_cancel' hk,Nat.div_eq_of_lt hn,z29]at this;exact this
def iL (l:List Nat):List Int:=l.map fun(n:Nat)=>(n:Int)
def lowB (d:Nat):Nat:=d &&& (18446744073709551616-d)
theorem zly {a b:Nat}(h:a≠b):a ^^^ b≠0:=fun e=>h (by
 apply Nat.eq_of_testBit_eq
 intro i;have:=congrArg (fun x=>Nat.testBit x i) e
 simp only[Nat.testBit_xor,Nat.zero_testBit]at this;revert this
 cases a.testBit i <;> cases b.testBit i <;> simp)
def UD (a b:Nat):Bool:=decide (uA 64 b<uA 64 a)||(decide (uA 64 a=uA 64 b)&&decide (a &&& lowB (a ^^^ b)=0))
def mB (D:List Nat)(lg:Nat):Nat→Nat
 | 0=>2^lg-1
 | s+1=>if UD s (mB D lg s) then mB D lg s else if sB D s then s else mB D lg s
theorem jX (D:List Nat)(lg:Nat):∀s,s≤2^lg→mB D lg s<2^lg
 | 0,_=>by have:=Nat.two_pow_pos lg;rw[mB];omega
 | s+1,h=>by
  have:=jX D lg s (by omega)
  rw[mB];split
  ·exact this
  ·split
   ·omega
   ·exact this
theorem iX {D:List Nat}{lg:Nat}(hD:∀ m∈D,m<2^lg):∀s,sB D (mB D lg s)=true
 | 0=>fZ hD
 | s+1=>by
  rw[mB];split
  ·exact iX hD s
  ·split
   ·rename_i h;exact h
   ·exact iX hD s
end Go.Am
end
