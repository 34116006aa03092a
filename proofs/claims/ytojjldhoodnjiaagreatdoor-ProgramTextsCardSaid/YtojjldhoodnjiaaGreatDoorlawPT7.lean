/- Texts of the proof, laid together: CodesE, AmC, Ctx, SpStream, MathFrac, SpBase, SpList, SpShp, SpStr, SpIdx, SpLen, SpMap, SpStrs, SpFind, SpLimD, SpLim, SpLotA, SpRecD, SpGenA, SpSome, SpGenL, SpRec, SpSortRec, SpCompact, SpGenR, PMerge, SpMrgA, SpSort, SpMrgB, SpMrgC, SpMrgD, PFin, SpTxt, AmL4, AmL5, SpSplit, SpLines, SpNum, SpNums, SpQNum, SpFlt1, SpFlt2, SpWords, SpJoin. -/
import Derived.KernelRfl
import Derived.Shelf.Strings.Repeat
import Derived.Shelf.Strings.SlTrimAscii
import Derived.Shelf.Spec.TrailingZeros
import Derived.Shelf.Strings.Count
import Derived.Shelf.Strings.OnBuilder
import Derived.Test.YtojjldhoodnjiaaGreatDoorlawPT6
set_option linter.all false
section
/- The functions asv abstract code,and asv formulas over their values: printed by program out of the translation. -/
set_option linter.unusedVariables false
set_option maxRecDepth 100000
namespace Go.Am
def z4H:ACode:=.pr [0,1,2,3,9,10] (.seq (.seq (rg [mV 34 10,
mV 35 3,
bN 36 .lss 34 35] [0,1,2,3,9,10,36])
(.cond 36 .skip
(.exit 0)))
(.block 1 (.seq (rg [mV 37 0,
mV 38 1,
cL 39 zbk [37,38],
mV 11 39] [0,1,2,3,9,10,11])
(.seq (.seq (rg [mV 40 11,
bN 41 .lss 40 (cI 0)] [0,1,2,3,9,10,11,41])
(.cond 41 (.exit 0)
.skip))
(.seq (rg [mV 42 9,
mV 43 10,
mV 44 0,
mV 45 11,
mV 46 2,
bN 47 .add 45 46,
uO 48 (.slstr 44 none (some 47)),
iA 49 none 42 43,
wO (.store none 49 48)] [0,1,2,3,9,10,11])
(.seq (rg [mV 50 0,
mV 51 11,
mV 52 1,
uO 53 (.lens 52),
bN 54 .add 51 53,
uO 55 (.slstr 50 (some 54) none),
mV 0 55] [0,1,2,3,9,10])
(rg [mV 56 10,
bN 57 .add 56 (cI 1),
mV 10 57] [0,1,2,3,9,10])))))))
def zeD (C:Hd) (gl:GL) (v0 v1 v2 v3 v9 v10:AV) (h:Heap) (x:Esc) (K:KT):Prop:=
 pK (oBin .lss v10 v3) fun t1=>
 z0i t1 (C zbk [v0,v1] h fun t2 h3 y4=>
 pK (oBin .lss t2 (AI 0)) fun t5=>
 z0i t5 (K (.exit 0) ⟨[(0,v0),(1,v1),(2,v2),(3,v3),(9,v9),(10,v10),(11,t2),(41,t5)],h3,(y4++x)⟩)
 (pK (oBin .add t2 v2) fun t6=>
 pK (z1s v0 none (some t6)) fun t7=>
 pK (z0r none v9 v10 h3) fun t8=>
 wK (z0k none t8 t7 h3) fun t9 h10 y11=>
 pK (z06 v1) fun t12=>
 pK (oBin .add t2 t12) fun t13=>
 pK (z1s v0 (some t13) none) fun t14=>
 pK (oBin .add v10 (AI 1)) fun t15=>
 K .normal ⟨[(0,t14),(1,v1),(2,v2),(3,v3),(9,v9),(10,t15)],h10,(y11++(y4++x))⟩))
 (K (.exit 0) ⟨[(0,v0),(1,v1),(2,v2),(3,v3),(9,v9),(10,v10),(36,t1)],h,x⟩)
theorem zpz {C gl e h x K}:NW C gl z4H ⟨e,h,x⟩ K=zeD C gl (aget e 0) (aget e 1) (aget e 2) (aget e 3) (aget e 9) (aget e 10) h x K:=by kernel_rfl
theorem zqW {C gl e h x K}:NW C gl (.loop z4H) ⟨e,h,x⟩ K=z0Z C gl z4H K [(0,aget e 0),(1,aget e 1),(2,aget e 2),(3,aget e 3),(9,aget e 9),(10,aget e 10)] h x:=z0C
def z9P:ACode:=.pr [0,9,10] (.seq (rg [mV 58 9,
mV 59 10,
mV 60 0,
iA 61 none 58 59,
wO (.store none 61 60)] [9,10])
(.seq (rg [mV 62 9,
mV 63 10,
bN 64 .add 63 (cI 1),
uO 65 (.slice none 62 none (some 64) none),
mV 8 65] [8])
.ret))
def zeE (C:Hd) (gl:GL) (v0 v9 v10:AV) (h:Heap) (x:Esc) (K:KT):Prop:=
 pK (z0r none v9 v10 h) fun t1=>
 wK (z0k none t1 v0 h) fun t2 h3 y4=>
 pK (oBin .add v10 (AI 1)) fun t5=>
 pK (zb7 none v9 none (some t5) none h3) fun t6=>
 K .ret ⟨[(8,t6)],h3,(y4++x)⟩
theorem zp0 {C gl e h x K}:NW C gl z9P ⟨e,h,x⟩ K=zeE C gl (aget e 0) (aget e 9) (aget e 10) h x K:=by kernel_rfl
def zdw (q1 q2:ACode):ACode:=.pr [0,1,2,3] (.seq (rg [mV 25 3,
mV 26 0,
uO 27 (.lens 26),
bN 28 .add 27 (cI 1),
uO 29 (.mn [25,28]),
mV 3 29] [0,1,2,3])
(.seq (rg [mV 30 3,
uO 31 (.mksl none (.str []) 30 30),
mV 9 31] [0,1,2,3,9])
(.seq (rg [mV 32 3,
bN 33 .sub 32 (cI 1),
mV 3 33] [0,1,2,3,9])
(.seq (rg [mV 10 (cI 0)] [0,1,2,3,9,10])
(.seq (.block 0 (.loop q1))
q2)))))
def z6O:ACode:=zdw z4H z9P
def z6b (C:Hd) (gl:GL) (q1 q2:ACode) (v0 v1 v2 v3:AV) (h:Heap) (x:Esc) (K:KT):Prop:=
 pK (z06 v0) fun t1=>
 pK (oBin .add t1 (AI 1)) fun t2=>
 pK (oMn [v3,t2]) fun t3=>
 wK (zut none (.str []) t3 t3 h) fun t4 h5 y6=>
 pK (oBin .sub t3 (AI 1)) fun t7=>
 NW C gl (.loop q1) ⟨[(0,v0),(1,v1),(2,v2),(3,t7),(9,t4),(10,(AI 0))],h5,(y6++x)⟩ (z0s 0 (seqN C gl q2 K))
theorem zlh {C gl q1 q2 e h x K}:NW C gl (zdw q1 q2) ⟨e,h,x⟩ K=z6b C gl q1 q2 (aget e 0) (aget e 1) (aget e 2) (aget e 3) h x K:=by kernel_rfl
theorem z9l {C gl e h x K}:NW C gl z6O ⟨e,h,x⟩ K=z6b C gl z4H z9P (aget e 0) (aget e 1) (aget e 2) (aget e 3) h x K:=zlh
def zwb (q3:ACode):ACode:=(.seq (rg [mV 8 (.c (.p (.sl none [])))] [0,1,2,3])
(.seq (.seq (rg [mV 12 3,
bN 13 .eql 12 (cI 0)] [0,1,2,3,13])
(.cond 13 (.seq (rg [mV 8 (.c (.p (.sl none [])))] [8])
.ret)
.skip))
(.seq (.seq (rg [mV 14 1,
bN 15 .eql 14 (cS [])] [0,1,2,3,15])
(.cond 15 (.seq (rg [mV 16 0,
mV 17 3,
cL 18 zfs [16,17],
mV 8 18] [8])
.ret)
.skip))
(.seq (.seq (rg [mV 19 3,
bN 20 .lss 19 (cI 0)] [0,1,2,3,20])
(.cond 20 (rg [mV 21 0,
mV 22 1,
cL 23 zhU [21,22],
bN 24 .add 23 (cI 1),
mV 3 24] [0,1,2,3])
.skip))
q3))))
def zm2:AFun:=⟨4,[.t 8],zwb z6O,false,false⟩
def zhJ (C:Hd) (gl:GL) (q3:ACode) (v0 v1 v2 v3:AV) (h:Heap) (x:Esc) (K:KT):Prop:=
 pK (oBin .eql v3 (AI 0)) fun t1=>
 z0i t1 (K .ret ⟨[(8,(.p (.sl none [])))],h,x⟩)
 (pK (oBin .eql v1 (.p (.str []))) fun t2=>
 z0i t2 (C zfs [v0,v3] h fun t3 h4 y5=>
 K .ret ⟨[(8,t3)],h4,(y5++x)⟩)
 (pK (oBin .lss v3 (AI 0)) fun t6=>
 z0i t6 (C zhU [v0,v1] h fun t7 h8 y9=>
 pK (oBin .add t7 (AI 1)) fun t10=>
 NW C gl q3 ⟨[(0,v0),(1,v1),(2,v2),(3,t10)],h8,(y9++x)⟩ K)
 (NW C gl q3 ⟨[(0,v0),(1,v1),(2,v2),(3,v3),(20,t6)],h,x⟩ K)))
theorem E_q05h {C gl q3 v0 v1 v2 v3 h x K}:NW C gl (zwb q3) ⟨enter [v0,v1,v2,v3],h,x⟩ K=zhJ C gl q3 v0 v1 v2 v3 h x K:=by kernel_rfl
theorem e_q05h {C gl v0 v1 v2 v3 h x K}:NW C gl zm2.body ⟨enter [v0,v1,v2,v3],h,x⟩ K=zhJ C gl z6O v0 v1 v2 v3 h x K:=E_q05h
def P_q05e:ACode:=(.seq (rg [mV 4 (cS [])] [0,1])
(.seq (rg [mV 5 0,
mV 6 1,
cL 7 zaN [5,6],
mV 4 7] [4])
.ret))
def zm0:AFun:=⟨2,[.t 4],P_q05e,false,false⟩
def znV (C:Hd) (gl:GL) (v0 v1:AV) (h:Heap) (x:Esc) (K:KT):Prop:=
 C zaN [v0,v1] h fun t1 h2 y3=>
 K .ret ⟨[(4,t1)],h2,(y3++x)⟩
theorem e_q05e {C gl v0 v1 h x K}:NW C gl zm0.body ⟨enter [v0,v1],h,x⟩ K=znV C gl v0 v1 h x K:=by kernel_rfl
def P_q01r:ACode:=(.seq (rg [mV 4 (cS []),
mV 5 (cS []),
mV 6 cF] [0,1])
(.seq (.seq (rg [mV 8 0,
mV 9 1,
cL 10 z7Q [8,9],
mV 7 10] [0,1,7])
(.seq (rg [mV 11 7,
bN 12 .geq 11 (cI 0)] [0,1,7,12])
(.cond 12 (.seq (dr [dF (mV 13 0) [0],
dF (mV 14 7) [7],
dF (uO 15 (.slstr 13 none (some 14))) [13,14],
dF (mV 16 0) [0],
dF (mV 17 7) [7],
dF (mV 18 1) [1],
dF (uO 19 (.lens 18)) [18],
dF (bN 20 .add 17 19) [17,19],
dF (uO 21 (.slstr 16 (some 20) none)) [16,20],
dF (mV 4 15) [15],
dF (mV 5 21) [21],
dF (mV 6 cT) []] [4,5,6])
.ret)
.skip)))
(.seq (rg [mV 22 0,
mV 4 22,
mV 5 (cS []),
mV 6 cF] [4,5,6])
.ret)))
def zl1:AFun:=⟨2,[.t 4,.t 5,.t 6],P_q01r,false,false⟩
def zhq (C:Hd) (gl:GL) (v0 v1:AV) (h:Heap) (x:Esc) (K:KT):Prop:=
 C z7Q [v0,v1] h fun t1 h2 y3=>
 pK (oBin .geq t1 (AI 0)) fun t4=>
 z0i t4 (pK (z1s v0 none (some t1)) fun t5=>
 pK (z06 v1) fun t6=>
 pK (oBin .add t1 t6) fun t7=>
 pK (z1s v0 (some t7) none) fun t8=>
 K .ret ⟨[(4,t5),(5,t8),(6,(AB true))],h2,(y3++x)⟩)
 (K .ret ⟨[(4,v0),(5,(.p (.str []))),(6,(AB false))],h2,(y3++x)⟩)
theorem e_q01r {C gl v0 v1 h x K}:NW C gl zl1.body ⟨enter [v0,v1],h,x⟩ K=zhq C gl v0 v1 h x K:=by kernel_rfl
def P_q05q:ACode:=(.seq (rg [mV 2 cF] [0])
(.seq (rg [mV 3 0,
cL 4 z4h [3,(cI 0),(cI 15)],
uO 5 (.un .not 4),
mV 2 5] [2])
.ret))
def zm4:AFun:=⟨1,[.t 2],P_q05q,false,false⟩
def znY (C:Hd) (gl:GL) (v0:AV) (h:Heap) (x:Esc) (K:KT):Prop:=
 C z4h [v0,(AI 0),(AI 15)] h fun t1 h2 y3=>
 pK (oUn .not t1) fun t4=>
 K .ret ⟨[(2,t4)],h2,(y3++x)⟩
theorem e_q05q {C gl v0 h x K}:NW C gl zm4.body ⟨enter [v0],h,x⟩ K=znY C gl v0 h x K:=by kernel_rfl
def z9Q:ACode:=.pr [1,5,6,7,25] (rg [bN 53 .add 25 (cI 1),
mV 25 53] [1,5,6,7,25])
def zeG (C:Hd) (gl:GL) (v1 v5 v6 v7 v25:AV) (h:Heap) (x:Esc) (K:KT):Prop:=
 pK (oBin .add v25 (AI 1)) fun t1=>
 K .normal ⟨[(1,v1),(5,v5),(6,v6),(7,v7),(25,t1)],h,x⟩
theorem zp1 {C gl e h x K}:NW C gl z9Q ⟨e,h,x⟩ K=zeG C gl (aget e 1) (aget e 5) (aget e 6) (aget e 7) (aget e 25) h x K:=by kernel_rfl
def zdx (q1:ACode):ACode:=.pr [1,5,6,7,25] (.seq (rg [bN 26 .lss 25 (cI 2)] [1,5,6,7,25,26])
(.seq (.cond 26 .skip
(.exit 2))
(.seq (.block 3 (.seq (rg [mV 27 25,
mV 8 27] [1,5,6,7,8,25])
(.seq (rg [mV 28 7,
mV 29 8,
cL 30 z8d [28,29],
mV 9 30] [1,5,6,7,8,9,25])
(.seq (rg [mV 32 5,
mV 33 9,
uO 34 (.look (none,[0]) true (.p (.str [])) 32 33),
mV 31 34,
eX 35 31 0,
eX 36 31 1,
mV 10 35,
mV 11 36] [1,5,6,7,8,9,11,25])
(.seq (rg [mV 37 11,
uO 38 (.un .not 37)] [1,5,6,7,8,9,25,38])
(.cond 38 (.seq (rg [mV 39 5,
mV 40 9,
mV 41 5,
mV 42 7,
uO 43 (.look (none,[0]) false (.p (.str [])) 41 42),
mV 44 8,
bN 45 .add (cI 48) 44,
uO 46 (.conv (.i .i32) 45),
uO 47 (.conv .r2s 46),
bN 48 .add 43 47,
wO (.mupd (none,[0]) 39 40 48)] [1,5,6,7,9,25])
(rg [mV 49 6,
mV 50 9,
uO 51 (.bsl false none 1 (.int .i64 0) [(0,50)]),
uO 52 (.mnext (some none) [49,51]),
mV 6 52] [1,5,6,7,25]))
.skip))))))
q1)))
def z4I:ACode:=zdx z9Q
def z9b (C:Hd) (gl:GL) (q1:ACode) (v1 v5 v6 v7 v25:AV) (h:Heap) (x:Esc) (K:KT):Prop:=
 pK (oBin .lss v25 (AI 2)) fun t1=>
 z0i t1 (C z8d [v7,v25] h fun t2 h3 y4=>
 pK (z8m (none,[0]) true (.p (.str [])) v5 t2 h3) fun t5=>
 pK (oExt t5 0) fun t6=>
 pK (oExt t5 1) fun t7=>
 pK (oUn .not t7) fun t8=>
 z0i t8 (pK (z8m (none,[0]) false (.p (.str [])) v5 v7 h3) fun t9=>
 pK (oBin .add (AI 48) v25) fun t10=>
 pK (z1w .i32 t10) fun t11=>
 wK (z95 .r2s t11 h3) fun t12 h13 y14=>
 pK (oBin .add t9 t12) fun t15=>
 wK (zc7 (none,[0]) v5 t2 t15 h13) fun t16 h17 y18=>
 wK (oBsl false none 1 (.int .i64 0) [(0,t2)] h17) fun t19 h20 y21=>
 nqK (some none) [v6,t19] h20 fun t22 h23 y24=>
 NW C gl q1 ⟨[(1,v1),(5,v5),(6,t22),(7,v7),(25,v25)],h23,(y24++(y21++(y18++(y14++(y4++x)))))⟩ K)
 (NW C gl q1 ⟨[(1,v1),(5,v5),(6,v6),(7,v7),(8,v25),(9,t2),(25,v25),(38,t8)],h3,(y4++x)⟩ K))
 (K (.exit 2) ⟨[(1,v1),(5,v5),(6,v6),(7,v7),(25,v25),(26,t1)],h,x⟩)
theorem zli {C gl q1 e h x K}:NW C gl (zdx q1) ⟨e,h,x⟩ K=z9b C gl q1 (aget e 1) (aget e 5) (aget e 6) (aget e 7) (aget e 25) h x K:=by kernel_rfl
theorem zp2 {C gl e h x K}:NW C gl z4I ⟨e,h,x⟩ K=z9b C gl z9Q (aget e 1) (aget e 5) (aget e 6) (aget e 7) (aget e 25) h x K:=zli
theorem zqX {C gl e h x K}:NW C gl (.loop z4I) ⟨e,h,x⟩ K=z0Z C gl z4I K [(1,aget e 1),(5,aget e 5),(6,aget e 6),(7,aget e 7),(25,aget e 25)] h x:=z0C
def zdy (q2:ACode):ACode:=.pr [1,5,6] (.seq (.seq (rg [mV 17 6,
lN 18 17,
bN 19 .gtr 18 (cI 0)] [1,5,6,19])
(.cond 19 .skip
(.exit 0)))
(.block 1 (.seq (rg [mV 20 6,
iA 21 none 20 (cI 0),
lD 22 none 21,
mV 7 22] [1,5,6,7])
(.seq (rg [mV 23 6,
uO 24 (.slice none 23 (some (cI 1)) none none),
mV 6 24] [1,5,6,7])
(.seq (rg [mV 25 (cI 0)] [1,5,6,7,25])
(.block 2 (.loop q2)))))))
def z3C:ACode:=zdy z4I
def z9c (C:Hd) (gl:GL) (q2:ACode) (v1 v5 v6:AV) (h:Heap) (x:Esc) (K:KT):Prop:=
 pK (oLen v6) fun t1=>
 pK (oBin .gtr t1 (AI 0)) fun t2=>
 z0i t2 (pK (z0r none v6 (AI 0) h) fun t3=>
 pK (z0e none t3 h) fun t4=>
 pK (zb7 none v6 (some (AI 1)) none none h) fun t5=>
 NW C gl (.loop q2) ⟨[(1,v1),(5,v5),(6,t5),(7,t4),(25,(AI 0))],h,x⟩ (z0s 2 (z0s 1 K)))
 (K (.exit 0) ⟨[(1,v1),(5,v5),(6,v6),(19,t2)],h,x⟩)
theorem zlj {C gl q2 e h x K}:NW C gl (zdy q2) ⟨e,h,x⟩ K=z9c C gl q2 (aget e 1) (aget e 5) (aget e 6) h x K:=by kernel_rfl
theorem zp3 {C gl e h x K}:NW C gl z3C ⟨e,h,x⟩ K=z9c C gl z4I (aget e 1) (aget e 5) (aget e 6) h x K:=zlj
theorem zqY {C gl e h x K}:NW C gl (.loop z3C) ⟨e,h,x⟩ K=z0Z C gl z3C K [(1,aget e 1),(5,aget e 5),(6,aget e 6)] h x:=z0C
def z6P:ACode:=.pr [1,5] (.seq (rg [mV 54 5,
mV 55 1,
uO 56 (.look (none,[0]) false (.p (.str [])) 54 55),
mV 4 56] [4])
.ret)
def zeH (C:Hd) (gl:GL) (v1 v5:AV) (h:Heap) (x:Esc) (K:KT):Prop:=
 pK (z8m (none,[0]) false (.p (.str [])) v5 v1 h) fun t1=>
 K .ret ⟨[(4,t1)],h,x⟩
theorem zp4 {C gl e h x K}:NW C gl z6P ⟨e,h,x⟩ K=zeH C gl (aget e 1) (aget e 5) h x K:=by kernel_rfl
def zwc (q3 q4:ACode):ACode:=(.det (.seq (rg [mV 4 (cS [])] [0,1])
(.seq (rg [uO 12 (.mkmap),
mV 13 0,
wO (.mupd (none,[0]) 12 13 (cS [])),
mV 14 12,
mV 5 14] [0,1,5])
(.seq (rg [mV 15 0,
uO 16 (.bsl true none 1 (.int .i64 0) [(0,15)]),
mV 6 16] [1,5,6])
(.seq (.block 0 (.loop q3))
q4)))))
def zhe:AFun:=⟨2,[.t 4],zwc z3C z6P,false,false⟩
def zeF (C:Hd) (gl:GL) (q3 q4:ACode) (v0 v1:AV) (h:Heap) (x:Esc) (K:KT):Prop:=
 mmK h fun t1 h2 y3=>
 wK (zc7 (none,[0]) t1 v0 (.p (.str [])) h2) fun t4 h5 y6=>
 wK (oBsl true none 1 (.int .i64 0) [(0,v0)] h5) fun t7 h8 y9=>
 NW C gl (.loop q3) ⟨[(1,v1),(5,t1),(6,t7)],h8,(y9++(y6++(y3++x)))⟩ (z0s 0 (seqN C gl q4 K))
theorem E_q05s {C gl q3 q4 v0 v1 h x K}:NW C gl (zwc q3 q4) ⟨enter [v0,v1],h,x⟩ K=zeF C gl q3 q4 v0 v1 h x K:=by kernel_rfl
theorem zw4 {C gl v0 v1 h x K}:NW C gl zhe.body ⟨enter [v0,v1],h,x⟩ K=zeF C gl z3C z6P v0 v1 h x K:=E_q05s
def z3r:ACode:=.pr [0,4,5] (.seq (.seq (rg [mV 9 5,
mV 10 0,
uO 11 (.lens 10),
bN 12 .lss 9 11] [0,4,5,12])
(.cond 12 .skip
(.exit 0)))
(.seq (.block 1 (rg [mV 15 4,
bN 16 .mul 15 (.c (.p (.int .u32 16777619))),
mV 17 0,
mV 18 5,
uO 19 (.idxs 17 18),
uO 20 (.conv (.i .u32) 19),
bN 21 .add 16 20,
mV 4 21] [0,4,5]))
(rg [mV 13 5,
bN 14 .add 13 (cI 1),
mV 5 14] [0,4,5])))
def zdP (C:Hd) (gl:GL) (v0 v4 v5:AV) (h:Heap) (x:Esc) (K:KT):Prop:=
 pK (z06 v0) fun t1=>
 pK (oBin .lss v5 t1) fun t2=>
 z0i t2 (pK (oBin .mul v4 (.p (.int .u32 16777619))) fun t3=>
 pK (z1I v0 v5) fun t4=>
 pK (z1w .u32 t4) fun t5=>
 pK (oBin .add t3 t5) fun t6=>
 pK (oBin .add v5 (AI 1)) fun t7=>
 K .normal ⟨[(0,v0),(4,t6),(5,t7)],h,x⟩)
 (K (.exit 0) ⟨[(0,v0),(4,v4),(5,v5),(12,t2)],h,x⟩)
theorem zox {C gl e h x K}:NW C gl z3r ⟨e,h,x⟩ K=zdP C gl (aget e 0) (aget e 4) (aget e 5) h x K:=by kernel_rfl
theorem zq9 {C gl e h x K}:NW C gl (.loop z3r) ⟨e,h,x⟩ K=z0Z C gl z3r K [(0,aget e 0),(4,aget e 4),(5,aget e 5)] h x:=z0C
def z9A:ACode:=.pr [4,6,7,8] (rg [mV 34 7,
mV 35 7,
bN 36 .mul 34 35,
mV 7 36] [4,6,7,8])
def zdQ (C:Hd) (gl:GL) (v4 v6 v7 v8:AV) (h:Heap) (x:Esc) (K:KT):Prop:=
 pK (oBin .mul v7 v7) fun t1=>
 K .normal ⟨[(4,v4),(6,v6),(7,t1),(8,v8)],h,x⟩
theorem zoy {C gl e h x K}:NW C gl z9A ⟨e,h,x⟩ K=zdQ C gl (aget e 4) (aget e 6) (aget e 7) (aget e 8) h x K:=by kernel_rfl
def z9B:ACode:=.pr [4,6,7,8] (rg [mV 26 8,
bN 27 .shr 26 (.c (.p (.int .u64 1))),
mV 8 27] [4,6,7,8])
def zdR (C:Hd) (gl:GL) (v4 v6 v7 v8:AV) (h:Heap) (x:Esc) (K:KT):Prop:=
 pK (oBin .shr v8 (.p (.int .u64 1))) fun t1=>
 K .normal ⟨[(4,v4),(6,v6),(7,v7),(8,t1)],h,x⟩
theorem zoz {C gl e h x K}:NW C gl z9B ⟨e,h,x⟩ K=zdR C gl (aget e 4) (aget e 6) (aget e 7) (aget e 8) h x K:=by kernel_rfl
def zdi (q2 q3:ACode):ACode:=.pr [4,6,7,8] (.seq (.seq (rg [mV 24 8,
bN 25 .gtr 24 (cI 0)] [4,6,7,8,25])
(.cond 25 .skip
(.exit 2)))
(.seq (.block 3 (.seq (.seq (rg [mV 28 8,
bN 29 .and 28 (cI 1),
bN 30 .neq 29 (cI 0)] [4,6,7,8,30])
(.cond 30 (rg [mV 31 6,
mV 32 7,
bN 33 .mul 31 32,
mV 6 33] [4,6,7,8])
.skip))
q2))
q3))
def z4C:ACode:=zdi z9A z9B
def z8O (C:Hd) (gl:GL) (q2 q3:ACode) (v4 v6 v7 v8:AV) (h:Heap) (x:Esc) (K:KT):Prop:=
 pK (oBin .gtr v8 (AI 0)) fun t1=>
 z0i t1 (pK (oBin .and v8 (AI 1)) fun t2=>
 pK (oBin .neq t2 (AI 0)) fun t3=>
 z0i t3 (pK (oBin .mul v6 v7) fun t4=>
 NW C gl q2 ⟨[(4,v4),(6,t4),(7,v7),(8,v8)],h,x⟩ (z0s 3 (seqN C gl q3 K)))
 (NW C gl q2 ⟨[(4,v4),(6,v6),(7,v7),(8,v8),(30,t3)],h,x⟩ (z0s 3 (seqN C gl q3 K))))
 (K (.exit 2) ⟨[(4,v4),(6,v6),(7,v7),(8,v8),(25,t1)],h,x⟩)
theorem zkT {C gl q2 q3 e h x K}:NW C gl (zdi q2 q3) ⟨e,h,x⟩ K=z8O C gl q2 q3 (aget e 4) (aget e 6) (aget e 7) (aget e 8) h x K:=by kernel_rfl
theorem zo0 {C gl e h x K}:NW C gl z4C ⟨e,h,x⟩ K=z8O C gl z9A z9B (aget e 4) (aget e 6) (aget e 7) (aget e 8) h x K:=zkT
theorem zqA {C gl e h x K}:NW C gl (.loop z4C) ⟨e,h,x⟩ K=z0Z C gl z4C K [(4,aget e 4),(6,aget e 6),(7,aget e 7),(8,aget e 8)] h x:=z0C
def z9C:ACode:=.pr [4,6] (.seq (rg [mV 37 4,
mV 38 6,
mV 2 37,
mV 3 38] [2,3])
.ret)
def zdS (C:Hd) (gl:GL) (v4 v6:AV) (h:Heap) (x:Esc) (K:KT):Prop:=
 K .ret ⟨[(2,v4),(3,v6)],h,x⟩
theorem zo1 {C gl e h x K}:NW C gl z9C ⟨e,h,x⟩ K=zdS C gl (aget e 4) (aget e 6) h x K:=by kernel_rfl
def zdj (q4 q5:ACode):ACode:=.pr [0,4] (.seq (rg [mV 6 (.c (.p (.int .u32 1))),
mV 7 (.c (.p (.int .u32 16777619)))] [0,4,6,7])
(.seq (.seq (rg [mV 22 0,
uO 23 (.lens 22),
mV 8 23] [4,6,7,8])
(.block 2 (.loop q4)))
q5))
def z6w:ACode:=zdj z4C z9C
def z8P (C:Hd) (gl:GL) (q4 q5:ACode) (v0 v4:AV) (h:Heap) (x:Esc) (K:KT):Prop:=
 pK (z06 v0) fun t1=>
 NW C gl (.loop q4) ⟨[(4,v4),(6,(.p (.int .u32 1))),(7,(.p (.int .u32 16777619))),(8,t1)],h,x⟩ (z0s 2 (seqN C gl q5 K))
theorem zkU {C gl q4 q5 e h x K}:NW C gl (zdj q4 q5) ⟨e,h,x⟩ K=z8P C gl q4 q5 (aget e 0) (aget e 4) h x K:=by kernel_rfl
theorem zo2 {C gl e h x K}:NW C gl z6w ⟨e,h,x⟩ K=z8P C gl z4C z9C (aget e 0) (aget e 4) h x K:=zkU
def zvB (q1 q6:ACode):ACode:=(.seq (rg [mV 2 (.c (.p (.int .u32 0))),
mV 3 (.c (.p (.int .u32 0)))] [0])
(.seq (rg [mV 4 (.c (.p (.int .u32 0)))] [0,4])
(.seq (.seq (rg [mV 5 (cI 0)] [0,4,5])
(.block 0 (.loop q1)))
q6)))
def zl0:AFun:=⟨1,[.t 2,.t 3],zvB z3r z6w,false,false⟩
def zn8 (C:Hd) (gl:GL) (q1 q6:ACode) (v0:AV) (h:Heap) (x:Esc) (K:KT):Prop:=
 NW C gl (.loop q1) ⟨[(0,v0),(4,(.p (.int .u32 0))),(5,(AI 0))],h,x⟩ (z0s 0 (seqN C gl q6 K))
theorem E_q01b {C gl q1 q6 v0 h x K}:NW C gl (zvB q1 q6) ⟨enter [v0],h,x⟩ K=zn8 C gl q1 q6 v0 h x K:=by kernel_rfl
theorem e_q01b {C gl v0 h x K}:NW C gl zl0.body ⟨enter [v0],h,x⟩ K=zn8 C gl z3r z6w v0 h x K:=E_q01b
def P_q058:ACode:=(.seq (rg [mV 4 (cI 0)] [0,1])
(.seq (rg [mV 5 0,
mV 6 1,
cL 7 z42 [5,6],
mV 4 7] [4])
.ret))
def zmy:AFun:=⟨2,[.t 4],P_q058,false,false⟩
def znT (C:Hd) (gl:GL) (v0 v1:AV) (h:Heap) (x:Esc) (K:KT):Prop:=
 C z42 [v0,v1] h fun t1 h2 y3=>
 K .ret ⟨[(4,t1)],h2,(y3++x)⟩
theorem e_q058 {C gl v0 v1 h x K}:NW C gl zmy.body ⟨enter [v0,v1],h,x⟩ K=znT C gl v0 v1 h x K:=by kernel_rfl
def z9G:ACode:=.pr [0,1,6,8,9,12,13,14] (.seq (.seq (rg [mV 31 9,
mV 32 1,
bN 33 .eql 31 32] [0,1,6,8,12,13,14,33])
(.cond 33 (.seq (rg [mV 34 8,
mV 4 34] [4])
.ret)
.skip))
(rg [mV 35 6,
mV 36 8,
bN 37 .add 36 (cS [48]),
mV 38 8,
bN 39 .add 38 (cS [49]),
uO 40 (.bsl false none 2 (.str []) [(0,37),(1,39)]),
uO 41 (.app none 35 40),
mV 6 41] [0,1,6,12,13,14]))
def zej (C:Hd) (gl:GL) (v0 v1 v6 v8 v9 v12 v13 v14:AV) (h:Heap) (x:Esc) (K:KT):Prop:=
 pK (oBin .eql v9 v1) fun t1=>
 z0i t1 (K .ret ⟨[(4,v8)],h,x⟩)
 (pK (oBin .add v8 (.p (.str [48]))) fun t2=>
 pK (oBin .add v8 (.p (.str [49]))) fun t3=>
 wK (oBsl false none 2 (.str []) [(0,t2),(1,t3)] h) fun t4 h5 y6=>
 wK (oApp none v6 t4 h5) fun t7 h8 y9=>
 K .normal ⟨[(0,v0),(1,v1),(6,t7),(12,v12),(13,v13),(14,v14)],h8,(y9++(y6++x))⟩)
theorem zoL {C gl e h x K}:NW C gl z9G ⟨e,h,x⟩ K=zej C gl (aget e 0) (aget e 1) (aget e 6) (aget e 8) (aget e 9) (aget e 12) (aget e 13) (aget e 14) h x K:=by kernel_rfl
def z9H:ACode:=.pr [0,1,6,12,13,14] (rg [bN 42 .add 14 (cI 1),
mV 14 42] [0,1,6,12,13,14])
def zek (C:Hd) (gl:GL) (v0 v1 v6 v12 v13 v14:AV) (h:Heap) (x:Esc) (K:KT):Prop:=
 pK (oBin .add v14 (AI 1)) fun t1=>
 K .normal ⟨[(0,v0),(1,v1),(6,v6),(12,v12),(13,v13),(14,t1)],h,x⟩
theorem zoM {C gl e h x K}:NW C gl z9H ⟨e,h,x⟩ K=zek C gl (aget e 0) (aget e 1) (aget e 6) (aget e 12) (aget e 13) (aget e 14) h x K:=by kernel_rfl
def zdo (q1 q2:ACode):ACode:=.pr [0,1,6,12,13,14] (.seq (rg [bN 15 .lss 14 13] [0,1,6,12,13,14,15])
(.seq (.cond 15 .skip
(.exit 2))
(.seq (.block 3 (.seq (rg [iA 16 none 12 14,
lD 17 none 16,
mV 8 17] [0,1,6,8,12,13,14])
(.seq (rg [mV 18 0,
mV 9 18] [0,1,6,8,9,12,13,14])
(.seq (.seq (rg [mV 19 0,
mV 20 8,
cL 21 zaT [19,20],
mV 10 21] [0,1,6,8,9,10,12,13,14])
(.seq (rg [mV 22 10,
lN 23 22,
bN 24 .gtr 23 (cI 0)] [0,1,6,8,9,10,12,13,14,24])
(.cond 24 (rg [mV 25 10,
mV 26 10,
lN 27 26,
bN 28 .sub 27 (cI 1),
iA 29 none 25 28,
lD 30 none 29,
mV 9 30] [0,1,6,8,9,12,13,14])
.skip)))
q1))))
q2)))
def z4F:ACode:=zdo z9G z9H
def z8T (C:Hd) (gl:GL) (q1 q2:ACode) (v0 v1 v6 v12 v13 v14:AV) (h:Heap) (x:Esc) (K:KT):Prop:=
 pK (oBin .lss v14 v13) fun t1=>
 z0i t1 (pK (z0r none v12 v14 h) fun t2=>
 pK (z0e none t2 h) fun t3=>
 C zaT [v0,t3] h fun t4 h5 y6=>
 pK (oLen t4) fun t7=>
 pK (oBin .gtr t7 (AI 0)) fun t8=>
 z0i t8 (pK (oLen t4) fun t9=>
 pK (oBin .sub t9 (AI 1)) fun t10=>
 pK (z0r none t4 t10 h5) fun t11=>
 pK (z0e none t11 h5) fun t12=>
 NW C gl q1 ⟨[(0,v0),(1,v1),(6,v6),(8,t3),(9,t12),(12,v12),(13,v13),(14,v14)],h5,(y6++x)⟩ (z0s 3 (seqN C gl q2 K)))
 (NW C gl q1 ⟨[(0,v0),(1,v1),(6,v6),(8,t3),(9,v0),(10,t4),(12,v12),(13,v13),(14,v14),(24,t8)],h5,(y6++x)⟩ (z0s 3 (seqN C gl q2 K))))
 (K (.exit 2) ⟨[(0,v0),(1,v1),(6,v6),(12,v12),(13,v13),(14,v14),(15,t1)],h,x⟩)
theorem zkZ {C gl q1 q2 e h x K}:NW C gl (zdo q1 q2) ⟨e,h,x⟩ K=z8T C gl q1 q2 (aget e 0) (aget e 1) (aget e 6) (aget e 12) (aget e 13) (aget e 14) h x K:=by kernel_rfl
theorem zoN {C gl e h x K}:NW C gl z4F ⟨e,h,x⟩ K=z8T C gl z9G z9H (aget e 0) (aget e 1) (aget e 6) (aget e 12) (aget e 13) (aget e 14) h x K:=zkZ
theorem zqH {C gl e h x K}:NW C gl (.loop (.scope z4F)) ⟨e,h,x⟩ K=z0Z C gl (.scope z4F) K [(0,aget e 0),(1,aget e 1),(6,aget e 6),(12,aget e 12),(13,aget e 13),(14,aget e 14)] h x:=z1F
def z9I:ACode:=.pr [0,1,6] (rg [mV 43 6,
mV 5 43] [0,1,5])
def zel (C:Hd) (gl:GL) (v0 v1 v6:AV) (h:Heap) (x:Esc) (K:KT):Prop:=
 K .normal ⟨[(0,v0),(1,v1),(5,v6)],h,x⟩
theorem zoO {C gl e h x K}:NW C gl z9I ⟨e,h,x⟩ K=zel C gl (aget e 0) (aget e 1) (aget e 6) h x K:=by kernel_rfl
def zdp (q3 q4:ACode):ACode:=.pr [0,1,5] (.block 1 (.seq (rg [uO 6 (.new0 none)] [0,1,5,6])
(.seq (.seq (rg [mV 12 5,
lN 13 12,
mV 14 (cI 0)] [0,1,6,12,13,14])
(.block 2 (.loop (.scope q3))))
q4)))
def z3x:ACode:=zdp z4F z9I
def z8U (C:Hd) (gl:GL) (q3 q4:ACode) (v0 v1 v5:AV) (h:Heap) (x:Esc) (K:KT):Prop:=
 nwK none h fun t1 h2 y3=>
 pK (oLen v5) fun t4=>
 NW C gl (.loop (.scope q3)) ⟨[(0,v0),(1,v1),(6,t1),(12,v5),(13,t4),(14,(AI 0))],h2,(y3++x)⟩ (z0s 2 (seqN C gl q4 (z0s 1 K)))
theorem zla {C gl q3 q4 e h x K}:NW C gl (zdp q3 q4) ⟨e,h,x⟩ K=z8U C gl q3 q4 (aget e 0) (aget e 1) (aget e 5) h x K:=by kernel_rfl
theorem zoP {C gl e h x K}:NW C gl z3x ⟨e,h,x⟩ K=z8U C gl z4F z9I (aget e 0) (aget e 1) (aget e 5) h x K:=zla
theorem zqI {C gl e h x K}:NW C gl (.loop z3x) ⟨e,h,x⟩ K=z0Z C gl z3x K [(0,aget e 0),(1,aget e 1),(5,aget e 5)] h x:=z0C
def zvK (q5:ACode):ACode:=(.seq (rg [mV 4 (cS [])] [0,1])
(.seq (rg [uO 11 (.bsl false none 1 (.str []) [(0,(cS []))]),
mV 5 11] [0,1,5])
(.block 0 (.loop q5))))
def zlN:AFun:=⟨2,[.t 4],zvK z3x,false,false⟩
def zh5 (C:Hd) (gl:GL) (q5:ACode) (v0 v1:AV) (h:Heap) (x:Esc) (K:KT):Prop:=
 wK (oBsl false none 1 (.str []) [(0,(.p (.str [])))] h) fun t1 h2 y3=>
 NW C gl (.loop q5) ⟨[(0,v0),(1,v1),(5,t1)],h2,(y3++x)⟩ (z0s 0 K)
theorem E_q02y {C gl q5 v0 v1 h x K}:NW C gl (zvK q5) ⟨enter [v0,v1],h,x⟩ K=zh5 C gl q5 v0 v1 h x K:=by kernel_rfl
theorem e_q02y {C gl v0 v1 h x K}:NW C gl zlN.body ⟨enter [v0,v1],h,x⟩ K=zh5 C gl z3x v0 v1 h x K:=E_q02y
def z9L:ACode:=.pr [1,3,12,13] (rg [bN 28 .add 13 (cI 1),
mV 13 28] [1,3,12,13])
def zey (C:Hd) (gl:GL) (v1 v3 v12 v13:AV) (h:Heap) (x:Esc) (K:KT):Prop:=
 pK (oBin .add v13 (AI 1)) fun t1=>
 K .normal ⟨[(1,v1),(3,v3),(12,v12),(13,t1)],h,x⟩
theorem zpf {C gl e h x K}:NW C gl z9L ⟨e,h,x⟩ K=zey C gl (aget e 1) (aget e 3) (aget e 12) (aget e 13) h x K:=by kernel_rfl
def zds (q1:ACode):ACode:=.pr [1,3,12,13] (.seq (rg [bN 14 .lss 13 12] [1,3,12,13,14])
(.seq (.cond 14 .skip
(.exit 0))
(.seq (.block 1 (.seq (rg [mV 15 13,
mV 4 15] [1,3,4,12,13])
(.seq (rg [fA 16 5 none 1,
lD 17 none 16,
mV 18 4,
uO 19 (.idxs 17 18),
bN 20 .eql 19 (.c (.p (.int .u8 49)))] [1,3,4,12,13,20])
(.cond 20 (rg [mV 21 3,
mV 22 4,
fA 23 4 none 1,
lD 24 none 23,
mV 25 4,
uO 26 (.idxs 24 25),
iA 27 none 21 22,
wO (.store none 27 26)] [1,3,12,13])
.skip))))
q1)))
def z35:ACode:=zds z9L
def z8X (C:Hd) (gl:GL) (q1:ACode) (v1 v3 v12 v13:AV) (h:Heap) (x:Esc) (K:KT):Prop:=
 pK (oBin .lss v13 v12) fun t1=>
 z0i t1 (pK (z0d 5 none v1) fun t2=>
 pK (z0e none t2 h) fun t3=>
 pK (z1I t3 v13) fun t4=>
 pK (oBin .eql t4 (.p (.int .u8 49))) fun t5=>
 z0i t5 (pK (z0d 4 none v1) fun t6=>
 pK (z0e none t6 h) fun t7=>
 pK (z1I t7 v13) fun t8=>
 pK (z0r none v3 v13 h) fun t9=>
 wK (z0k none t9 t8 h) fun t10 h11 y12=>
 NW C gl q1 ⟨[(1,v1),(3,v3),(12,v12),(13,v13)],h11,(y12++x)⟩ K)
 (NW C gl q1 ⟨[(1,v1),(3,v3),(4,v13),(12,v12),(13,v13),(20,t5)],h,x⟩ K))
 (K (.exit 0) ⟨[(1,v1),(3,v3),(12,v12),(13,v13),(14,t1)],h,x⟩)
theorem zld {C gl q1 e h x K}:NW C gl (zds q1) ⟨e,h,x⟩ K=z8X C gl q1 (aget e 1) (aget e 3) (aget e 12) (aget e 13) h x K:=by kernel_rfl
theorem zpg {C gl e h x K}:NW C gl z35 ⟨e,h,x⟩ K=z8X C gl z9L (aget e 1) (aget e 3) (aget e 12) (aget e 13) h x K:=zld
theorem zqP {C gl e h x K}:NW C gl (.loop z35) ⟨e,h,x⟩ K=z0Z C gl z35 K [(1,aget e 1),(3,aget e 3),(12,aget e 12),(13,aget e 13)] h x:=z0C
def z6F:ACode:=.pr [3] (.seq (rg [mV 29 3,
uO 30 (.conv .b2s 29),
mV 2 30] [2])
.ret)
def zez (C:Hd) (gl:GL) (v3:AV) (h:Heap) (x:Esc) (K:KT):Prop:=
 wK (z95 .b2s v3 h) fun t1 h2 y3=>
 K .ret ⟨[(2,t1)],h2,(y3++x)⟩
theorem zph {C gl e h x K}:NW C gl z6F ⟨e,h,x⟩ K=zez C gl (aget e 3) h x K:=by kernel_rfl
def zvT (q2 q3:ACode):ACode:=(.seq (rg [uO 1 (.box 0),
mV 2 (cS [])] [1])
(.seq (rg [fA 5 3 none 1,
lD 6 none 5,
uO 7 (.lens 6),
cL 8 z1q [(cS [120]),7],
uO 9 (.conv .s2b 8),
mV 3 9] [1,3])
(.seq (.seq (rg [fA 10 5 none 1,
lD 11 none 10,
uO 12 (.lens 11),
mV 13 (cI 0)] [1,3,12,13])
(.block 0 (.loop q2)))
q3)))
def zmd:AFun:=⟨1,[.t 2],zvT z35 z6F,false,false⟩
def zhB (C:Hd) (gl:GL) (q2 q3:ACode) (v0:AV) (h:Heap) (x:Esc) (K:KT):Prop:=
 wK (oBox v0 h) fun t1 h2 y3=>
 pK (z0d 3 none t1) fun t4=>
 pK (z0e none t4 h2) fun t5=>
 pK (z06 t5) fun t6=>
 C z1q [(.p (.str [120])),t6] h2 fun t7 h8 y9=>
 wK (z95 .s2b t7 h8) fun t10 h11 y12=>
 pK (z0d 5 none t1) fun t13=>
 pK (z0e none t13 h11) fun t14=>
 pK (z06 t14) fun t15=>
 NW C gl (.loop q2) ⟨[(1,t1),(3,t10),(12,t15),(13,(AI 0))],h11,(y12++(y9++(y3++x)))⟩ (z0s 0 (seqN C gl q3 K))
theorem E_q03h {C gl q2 q3 v0 h x K}:NW C gl (zvT q2 q3) ⟨enter [v0],h,x⟩ K=zhB C gl q2 q3 v0 h x K:=by kernel_rfl
theorem e_q03h {C gl v0 h x K}:NW C gl zmd.body ⟨enter [v0],h,x⟩ K=zhB C gl z35 z6F v0 h x K:=E_q03h
def P_q01s:ACode:=(.seq (rg [mV 4 (cS []),
mV 5 cF] [0,1])
(.seq (.seq (rg [mV 6 0,
mV 7 1,
cL 8 zaM [6,7],
uO 9 (.un .not 8)] [0,1,9])
(.cond 9 (.seq (rg [mV 10 0,
mV 4 10,
mV 5 cF] [4,5])
.ret)
.skip))
(.seq (rg [mV 11 0,
mV 12 0,
uO 13 (.lens 12),
mV 14 1,
uO 15 (.lens 14),
bN 16 .sub 13 15,
uO 17 (.slstr 11 none (some 16)),
mV 4 17,
mV 5 cT] [4,5])
.ret)))
def zl2:AFun:=⟨2,[.t 4,.t 5],P_q01s,false,false⟩
def zhr (C:Hd) (gl:GL) (v0 v1:AV) (h:Heap) (x:Esc) (K:KT):Prop:=
 C zaM [v0,v1] h fun t1 h2 y3=>
 pK (oUn .not t1) fun t4=>
 z0i t4 (K .ret ⟨[(4,v0),(5,(AB false))],h2,(y3++x)⟩)
 (pK (z06 v0) fun t5=>
 pK (z06 v1) fun t6=>
 pK (oBin .sub t5 t6) fun t7=>
 pK (z1s v0 none (some t7)) fun t8=>
 K .ret ⟨[(4,t8),(5,(AB true))],h2,(y3++x)⟩)
theorem e_q01s {C gl v0 v1 h x K}:NW C gl zl2.body ⟨enter [v0,v1],h,x⟩ K=zhr C gl v0 v1 h x K:=by kernel_rfl
def z4G:ACode:=.pr [0,1,6,7] (.seq (.seq (rg [mV 22 7,
mV 23 1,
bN 24 .sub 23 (cI 1),
bN 25 .lss 22 24] [0,1,6,7,25])
(.cond 25 .skip
(.exit 0)))
(.seq (.block 1 (.seq (rg [mV 29 0,
cL 30 zft [29],
mV 28 30,
eX 31 28 0,
eX 32 28 1,
mV 8 31,
mV 9 32] [0,1,6,7,9])
(.seq (rg [mV 33 6,
mV 34 7,
mV 35 0,
mV 36 9,
uO 37 (.slstr 35 none (some 36)),
iA 38 none 33 34,
wO (.store none 38 37)] [0,1,6,7,9])
(rg [mV 39 0,
mV 40 9,
uO 41 (.slstr 39 (some 40) none),
mV 0 41] [0,1,6,7]))))
(rg [mV 26 7,
bN 27 .add 26 (cI 1),
mV 7 27] [0,1,6,7])))
def zeB (C:Hd) (gl:GL) (v0 v1 v6 v7:AV) (h:Heap) (x:Esc) (K:KT):Prop:=
 pK (oBin .sub v1 (AI 1)) fun t1=>
 pK (oBin .lss v7 t1) fun t2=>
 z0i t2 (C zft [v0] h fun t3 h4 y5=>
 pK (oExt t3 0) fun t6=>
 pK (oExt t3 1) fun t7=>
 pK (z1s v0 none (some t7)) fun t8=>
 pK (z0r none v6 v7 h4) fun t9=>
 wK (z0k none t9 t8 h4) fun t10 h11 y12=>
 pK (z1s v0 (some t7) none) fun t13=>
 pK (oBin .add v7 (AI 1)) fun t14=>
 K .normal ⟨[(0,t13),(1,v1),(6,v6),(7,t14)],h11,(y12++(y5++x))⟩)
 (K (.exit 0) ⟨[(0,v0),(1,v1),(6,v6),(7,v7),(25,t2)],h,x⟩)
theorem zpv {C gl e h x K}:NW C gl z4G ⟨e,h,x⟩ K=zeB C gl (aget e 0) (aget e 1) (aget e 6) (aget e 7) h x K:=by kernel_rfl
theorem zqV {C gl e h x K}:NW C gl (.loop z4G) ⟨e,h,x⟩ K=z0Z C gl z4G K [(0,aget e 0),(1,aget e 1),(6,aget e 6),(7,aget e 7)] h x:=z0C
def z9N:ACode:=.pr [6] (.seq (rg [mV 49 6,
mV 4 49] [4])
.ret)
def zeC (C:Hd) (gl:GL) (v6:AV) (h:Heap) (x:Esc) (K:KT):Prop:=
 K .ret ⟨[(4,v6)],h,x⟩
theorem zpw {C gl e h x K}:NW C gl z9N ⟨e,h,x⟩ K=zeC C gl (aget e 6) h x K:=by kernel_rfl
def zdu (q2:ACode):ACode:=.pr [0,1,6] (.seq (.seq (rg [mV 42 1,
bN 43 .gtr 42 (cI 0)] [0,1,6,43])
(.cond 43 (rg [mV 44 6,
mV 45 1,
bN 46 .sub 45 (cI 1),
mV 47 0,
iA 48 none 44 46,
wO (.store none 48 47)] [6])
.skip))
q2)
def z9O:ACode:=zdu z9N
def z8Z (C:Hd) (gl:GL) (q2:ACode) (v0 v1 v6:AV) (h:Heap) (x:Esc) (K:KT):Prop:=
 pK (oBin .gtr v1 (AI 0)) fun t1=>
 z0i t1 (pK (oBin .sub v1 (AI 1)) fun t2=>
 pK (z0r none v6 t2 h) fun t3=>
 wK (z0k none t3 v0 h) fun t4 h5 y6=>
 NW C gl q2 ⟨[(6,v6)],h5,(y6++x)⟩ K)
 (NW C gl q2 ⟨[(0,v0),(1,v1),(6,v6),(43,t1)],h,x⟩ K)
theorem zlf {C gl q2 e h x K}:NW C gl (zdu q2) ⟨e,h,x⟩ K=z8Z C gl q2 (aget e 0) (aget e 1) (aget e 6) h x K:=by kernel_rfl
theorem zpx {C gl e h x K}:NW C gl z9O ⟨e,h,x⟩ K=z8Z C gl z9N (aget e 0) (aget e 1) (aget e 6) h x K:=zlf
def zdv (q1 q3:ACode):ACode:=.pr [0,1] (.seq (rg [mV 20 1,
uO 21 (.mksl none (.str []) 20 20),
mV 6 21] [0,1,6])
(.seq (.seq (rg [mV 7 (cI 0)] [0,1,6,7])
(.block 0 (.loop q1)))
q3))
def z6N:ACode:=zdv z4G z9O
def z9a (C:Hd) (gl:GL) (q1 q3:ACode) (v0 v1:AV) (h:Heap) (x:Esc) (K:KT):Prop:=
 wK (zut none (.str []) v1 v1 h) fun t1 h2 y3=>
 NW C gl (.loop q1) ⟨[(0,v0),(1,v1),(6,t1),(7,(AI 0))],h2,(y3++x)⟩ (z0s 0 (seqN C gl q3 K))
theorem zlg {C gl q1 q3 e h x K}:NW C gl (zdv q1 q3) ⟨e,h,x⟩ K=z9a C gl q1 q3 (aget e 0) (aget e 1) h x K:=by kernel_rfl
theorem zpy {C gl e h x K}:NW C gl z6N ⟨e,h,x⟩ K=z9a C gl z4G z9O (aget e 0) (aget e 1) h x K:=zlg
def zwa (q4:ACode):ACode:=(.seq (rg [mV 4 (.c (.p (.sl none [])))] [0,1])
(.seq (rg [mV 10 0,
cL 11 zw6 [10],
mV 5 11] [0,1,5])
(.seq (.seq (rg [mV 12 1,
bN 13 .lss 12 (cI 0),
mV 14 13,
gD 15 14 false (.mv 1),
gD 16 14 false (.mv 5),
gD 17 14 false (.bin .gtr 15 16),
uO 18 (.pick 14 cT 17)] [0,1,5,18])
(.cond 18 (rg [mV 19 5,
mV 1 19] [0,1])
.skip))
q4)))
def zm1:AFun:=⟨2,[.t 4],zwa z6N,false,false⟩
def znW (C:Hd) (gl:GL) (q4:ACode) (v0 v1:AV) (h:Heap) (x:Esc) (K:KT):Prop:=
 C zw6 [v0] h fun t1 h2 y3=>
 pK (oBin .lss v1 (AI 0)) fun t4=>
 gM t4 false v1 h2 fun t5 h6 y7=>
 gM t4 false t1 h6 fun t8 h9 y10=>
 gP t4 false (oBin .gtr t5 t8) h9 fun t11 h12 y13=>
 pK (z09 t4 (AB true) t11) fun t14=>
 z0i t14 (NW C gl q4 ⟨[(0,v0),(1,t1)],h12,(y13++(y10++(y7++(y3++x))))⟩ K)
 (NW C gl q4 ⟨[(0,v0),(1,v1),(5,t1),(18,t14)],h12,(y13++(y10++(y7++(y3++x))))⟩ K)
theorem E_q05g {C gl q4 v0 v1 h x K}:NW C gl (zwa q4) ⟨enter [v0,v1],h,x⟩ K=znW C gl q4 v0 v1 h x K:=by kernel_rfl
theorem e_q05g {C gl v0 v1 h x K}:NW C gl zm1.body ⟨enter [v0,v1],h,x⟩ K=znW C gl z6N v0 v1 h x K:=E_q05g
def P_q01x:ACode:=(.seq (rg [mV 4 (cS [])] [0,1])
(.seq (.seq (rg [mV 5 0,
mV 6 1,
cL 7 zaL [5,6]] [0,1,7])
(.cond 7 (.seq (rg [mV 8 0,
mV 9 1,
uO 10 (.lens 9),
uO 11 (.slstr 8 (some 10) none),
mV 4 11] [4])
.ret)
.skip))
(.seq (rg [mV 12 0,
mV 4 12] [4])
.ret)))
def zl7:AFun:=⟨2,[.t 4],P_q01x,false,false⟩
def zhw (C:Hd) (gl:GL) (v0 v1:AV) (h:Heap) (x:Esc) (K:KT):Prop:=
 C zaL [v0,v1] h fun t1 h2 y3=>
 z0i t1 (pK (z06 v1) fun t4=>
 pK (z1s v0 (some t4) none) fun t5=>
 K .ret ⟨[(4,t5)],h2,(y3++x)⟩)
 (K .ret ⟨[(4,v0)],h2,(y3++x)⟩)
theorem e_q01x {C gl v0 v1 h x K}:NW C gl zl7.body ⟨enter [v0,v1],h,x⟩ K=zhw C gl v0 v1 h x K:=by kernel_rfl
def P_q05r:ACode:=(.seq (rg [mV 4 (cI 0)] [0,1])
(.seq (rg [uO 6 (.build [.p (.int .i64 0),.p (.int .i64 0)] [(0,1,(cI 1)),(1,1,(cI 0))]),
uO 7 (.build [.p (.int .i64 0),.p (.int .i64 0)] [(0,1,(cI 1)),(1,1,(cI 2))]),
uO 8 (.build [.p (.int .i64 0),.p (.int .i64 0)] [(0,1,(cI 3)),(1,1,(cI 9))]),
uO 9 (.build [.p (.int .i64 0),.p (.int .i64 0)] [(0,1,(cI 4)),(1,1,(cI 5))]),
uO 10 (.build [.p (.int .i64 0),.p (.int .i64 0)] [(0,1,(cI 4)),(1,1,(cI 5))]),
uO 11 (.build [.p (.int .i64 0),.p (.int .i64 0)] [(0,1,(cI 6)),(1,1,(cI 8))]),
uO 12 (.build [.p (.int .i64 0),.p (.int .i64 0)] [(0,1,(cI 6)),(1,1,(cI 7))]),
uO 13 (.build [.p (.int .i64 0),.p (.int .i64 0)] [(0,1,(cI 4)),(1,1,(cI 8))]),
uO 14 (.build [.p (.int .i64 0),.p (.int .i64 0)] [(0,1,(cI 1)),(1,1,(cI 2))]),
uO 15 (.build [.p (.int .i64 0),.p (.int .i64 0)] [(0,1,(cI 10)),(1,1,(cI 0))]),
uO 16 (.build [.p (.int .i64 0),.p (.int .i64 0)] [(0,1,(cI 11)),(1,1,(cI 12))]),
uO 17 (.build [.p (.int .i64 0),.p (.int .i64 0)] [(0,1,(cI 11)),(1,1,(cI 12))]),
uO 18 (.build [.p (.int .i64 0),.p (.int .i64 0)] [(0,1,(cI 13)),(1,1,(cI 15))]),
uO 19 (.build [.p (.int .i64 0),.p (.int .i64 0)] [(0,1,(cI 13)),(1,1,(cI 14))]),
uO 20 (.build [.p (.int .i64 0),.p (.int .i64 0)] [(0,1,(cI 11)),(1,1,(cI 15))]),
uO 21 (.build [.p (.int .i64 0),.p (.int .i64 0)] [(0,1,(cI 1)),(1,1,(cI 2))]),
uO 22 (.build [.p (.int .i64 0),.p (.int .i64 0),.p (.int .i64 0),.p (.int .i64 0),.p (.int .i64 0),.p (.int .i64 0),.p (.int .i64 0),.p (.int .i64 0),.p (.int .i64 0),.p (.int .i64 0),.p (.int .i64 0),.p (.int .i64 0),.p (.int .i64 0),.p (.int .i64 0),.p (.int .i64 0),.p (.int .i64 0),.p (.int .i64 0),.p (.int .i64 0),.p (.int .i64 0),.p (.int .i64 0),.p (.int .i64 0),.p (.int .i64 0),.p (.int .i64 0),.p (.int .i64 0),.p (.int .i64 0),.p (.int .i64 0),.p (.int .i64 0),.p (.int .i64 0),.p (.int .i64 0),.p (.int .i64 0),.p (.int .i64 0),.p (.int .i64 0)] [(0,2,6),(2,2,7),(4,2,8),(6,2,9),(8,2,10),(10,2,11),(12,2,12),(14,2,13),(16,2,14),(18,2,15),(20,2,16),(22,2,17),(24,2,18),(26,2,19),(28,2,20),(30,2,21)]),
uO 5 (.alloc [.p (.int .i64 0),.p (.int .i64 0),.p (.int .i64 0),.p (.int .i64 0),.p (.int .i64 0),.p (.int .i64 0),.p (.int .i64 0),.p (.int .i64 0),.p (.int .i64 0),.p (.int .i64 0),.p (.int .i64 0),.p (.int .i64 0),.p (.int .i64 0),.p (.int .i64 0),.p (.int .i64 0),.p (.int .i64 0),.p (.int .i64 0),.p (.int .i64 0),.p (.int .i64 0),.p (.int .i64 0),.p (.int .i64 0),.p (.int .i64 0),.p (.int .i64 0),.p (.int .i64 0),.p (.int .i64 0),.p (.int .i64 0),.p (.int .i64 0),.p (.int .i64 0),.p (.int .i64 0),.p (.int .i64 0),.p (.int .i64 0),.p (.int .i64 0)]),
wO (.store (some 32) 5 22)] [0,1,5])
(.seq (rg [mV 23 0,
mV 24 1,
uO 25 (.iaddra 16 (some 2) 5 23),
uO 26 (.iaddra 2 none 25 24),
lD 27 none 26,
mV 4 27] [4])
.ret)))
def zd3:AFun:=⟨2,[.t 4],P_q05r,false,false⟩
def zhK (C:Hd) (gl:GL) (v0 v1:AV) (h:Heap) (x:Esc) (K:KT):Prop:=
 pK (z0x [.p (.int .i64 0),.p (.int .i64 0)] [(0,1,(AI 1)),(1,1,(AI 0))]) fun t1=>
 pK (z0x [.p (.int .i64 0),.p (.int .i64 0)] [(0,1,(AI 1)),(1,1,(AI 2))]) fun t2=>
 pK (z0x [.p (.int .i64 0),.p (.int .i64 0)] [(0,1,(AI 3)),(1,1,(AI 9))]) fun t3=>
 pK (z0x [.p (.int .i64 0),.p (.int .i64 0)] [(0,1,(AI 4)),(1,1,(AI 5))]) fun t4=>
 pK (z0x [.p (.int .i64 0),.p (.int .i64 0)] [(0,1,(AI 4)),(1,1,(AI 5))]) fun t5=>
 pK (z0x [.p (.int .i64 0),.p (.int .i64 0)] [(0,1,(AI 6)),(1,1,(AI 8))]) fun t6=>
 pK (z0x [.p (.int .i64 0),.p (.int .i64 0)] [(0,1,(AI 6)),(1,1,(AI 7))]) fun t7=>
 pK (z0x [.p (.int .i64 0),.p (.int .i64 0)] [(0,1,(AI 4)),(1,1,(AI 8))]) fun t8=>
 pK (z0x [.p (.int .i64 0),.p (.int .i64 0)] [(0,1,(AI 1)),(1,1,(AI 2))]) fun t9=>
 pK (z0x [.p (.int .i64 0),.p (.int .i64 0)] [(0,1,(AI 10)),(1,1,(AI 0))]) fun t10=>
 pK (z0x [.p (.int .i64 0),.p (.int .i64 0)] [(0,1,(AI 11)),(1,1,(AI 12))]) fun t11=>
 pK (z0x [.p (.int .i64 0),.p (.int .i64 0)] [(0,1,(AI 11)),(1,1,(AI 12))]) fun t12=>
 pK (z0x [.p (.int .i64 0),.p (.int .i64 0)] [(0,1,(AI 13)),(1,1,(AI 15))]) fun t13=>
 pK (z0x [.p (.int .i64 0),.p (.int .i64 0)] [(0,1,(AI 13)),(1,1,(AI 14))]) fun t14=>
 pK (z0x [.p (.int .i64 0),.p (.int .i64 0)] [(0,1,(AI 11)),(1,1,(AI 15))]) fun t15=>
 pK (z0x [.p (.int .i64 0),.p (.int .i64 0)] [(0,1,(AI 1)),(1,1,(AI 2))]) fun t16=>
 pK (z0x [.p (.int .i64 0),.p (.int .i64 0),.p (.int .i64 0),.p (.int .i64 0),.p (.int .i64 0),.p (.int .i64 0),.p (.int .i64 0),.p (.int .i64 0),.p (.int .i64 0),.p (.int .i64 0),.p (.int .i64 0),.p (.int .i64 0),.p (.int .i64 0),.p (.int .i64 0),.p (.int .i64 0),.p (.int .i64 0),.p (.int .i64 0),.p (.int .i64 0),.p (.int .i64 0),.p (.int .i64 0),.p (.int .i64 0),.p (.int .i64 0),.p (.int .i64 0),.p (.int .i64 0),.p (.int .i64 0),.p (.int .i64 0),.p (.int .i64 0),.p (.int .i64 0),.p (.int .i64 0),.p (.int .i64 0),.p (.int .i64 0),.p (.int .i64 0)] [(0,2,t1),(2,2,t2),(4,2,t3),(6,2,t4),(8,2,t5),(10,2,t6),(12,2,t7),(14,2,t8),(16,2,t9),(18,2,t10),(20,2,t11),(22,2,t12),(24,2,t13),(26,2,t14),(28,2,t15),(30,2,t16)]) fun t17=>
 alK [.p (.int .i64 0),.p (.int .i64 0),.p (.int .i64 0),.p (.int .i64 0),.p (.int .i64 0),.p (.int .i64 0),.p (.int .i64 0),.p (.int .i64 0),.p (.int .i64 0),.p (.int .i64 0),.p (.int .i64 0),.p (.int .i64 0),.p (.int .i64 0),.p (.int .i64 0),.p (.int .i64 0),.p (.int .i64 0),.p (.int .i64 0),.p (.int .i64 0),.p (.int .i64 0),.p (.int .i64 0),.p (.int .i64 0),.p (.int .i64 0),.p (.int .i64 0),.p (.int .i64 0),.p (.int .i64 0),.p (.int .i64 0),.p (.int .i64 0),.p (.int .i64 0),.p (.int .i64 0),.p (.int .i64 0),.p (.int .i64 0),.p (.int .i64 0)] h fun t18 h19 y20=>
 wK (z0k (some 32) t18 t17 h19) fun t21 h22 y23=>
 pK (z5J 16 (some 2) t18 v0) fun t24=>
 pK (z5J 2 none t24 v1) fun t25=>
 pK (z0e none t25 h22) fun t26=>
 K .ret ⟨[(4,t26)],h22,(y23++(y20++x))⟩
theorem zw3 {C gl v0 v1 h x K}:NW C gl zd3.body ⟨enter [v0,v1],h,x⟩ K=zhK C gl v0 v1 h x K:=by kernel_rfl
def P_q01u:ACode:=(.seq (rg [mV 4 cF] [0,1])
(.seq (rg [mV 5 0,
uO 6 (.lens 5),
mV 7 1,
uO 8 (.lens 7),
bN 9 .geq 6 8,
mV 10 9,
gD 11 10 true (.mv 0),
gD 12 10 true (.mv 0),
gD 13 10 true (.lens 12),
gD 14 10 true (.mv 1),
gD 15 10 true (.lens 14),
gD 16 10 true (.bin .sub 13 15),
gD 17 10 true (.slstr 11 (some 16) none),
gD 18 10 true (.mv 1),
gD 19 10 true (.bin .eql 17 18),
uO 20 (.pick 10 19 cF),
mV 4 20] [4])
.ret))
def zl4:AFun:=⟨2,[.t 4],P_q01u,false,false⟩
def zht (C:Hd) (gl:GL) (v0 v1:AV) (h:Heap) (x:Esc) (K:KT):Prop:=
 pK (z06 v0) fun t1=>
 pK (z06 v1) fun t2=>
 pK (oBin .geq t1 t2) fun t3=>
 gM t3 true v0 h fun t4 h5 y6=>
 gM t3 true v0 h5 fun t7 h8 y9=>
 gP t3 true (z06 t7) h8 fun t10 h11 y12=>
 gM t3 true v1 h11 fun t13 h14 y15=>
 gP t3 true (z06 t13) h14 fun t16 h17 y18=>
 gP t3 true (oBin .sub t10 t16) h17 fun t19 h20 y21=>
 gP t3 true (z1s t4 (some t19) none) h20 fun t22 h23 y24=>
 gM t3 true v1 h23 fun t25 h26 y27=>
 gP t3 true (oBin .eql t22 t25) h26 fun t28 h29 y30=>
 pK (z09 t3 t28 (AB false)) fun t31=>
 K .ret ⟨[(4,t31)],h29,(y30++(y27++(y24++(y21++(y18++(y15++(y12++(y9++(y6++x)))))))))⟩
theorem e_q01u {C gl v0 v1 h x K}:NW C gl zl4.body ⟨enter [v0,v1],h,x⟩ K=zht C gl v0 v1 h x K:=by kernel_rfl
def P_q05w:ACode:=(.seq (rg [mV 2 (.c (.p (.int .i32 0))),
mV 3 (cI 0)] [0])
(.seq (.seq (rg [mV 4 0,
bN 5 .neq 4 (cS []),
mV 6 5,
gD 7 6 true (.mv 0),
gD 8 6 true (.idxs 7 (cI 0)),
gD 9 6 true (.bin .lss 8 (.c (.p (.int .u8 128)))),
uO 10 (.pick 6 9 cF)] [0,10])
(.cond 10 (.seq (rg [mV 11 0,
uO 12 (.idxs 11 (cI 0)),
uO 13 (.conv (.i .i32) 12),
mV 2 13,
mV 3 (cI 1)] [2,3])
.ret)
(rg [mV 15 0,
cL 16 zfu [15],
mV 14 16,
eX 17 14 0,
eX 18 14 1,
mV 2 17,
mV 3 18] [2,3])))
.ret))
def zm5:AFun:=⟨1,[.t 2,.t 3],P_q05w,false,false⟩
def zw0 (C:Hd) (gl:GL) (v0:AV) (h:Heap) (x:Esc) (K:KT):Prop:=
 pK (oBin .neq v0 (.p (.str []))) fun t1=>
 gM t1 true v0 h fun t2 h3 y4=>
 gP t1 true (z1I t2 (AI 0)) h3 fun t5 h6 y7=>
 gP t1 true (oBin .lss t5 (.p (.int .u8 128))) h6 fun t8 h9 y10=>
 pK (z09 t1 t8 (AB false)) fun t11=>
 z0i t11 (pK (z1I v0 (AI 0)) fun t12=>
 pK (z1w .i32 t12) fun t13=>
 K .ret ⟨[(2,t13),(3,(AI 1))],h9,(y10++(y7++(y4++x)))⟩)
 (C zfu [v0] h9 fun t14 h15 y16=>
 pK (oExt t14 0) fun t17=>
 pK (oExt t14 1) fun t18=>
 K .ret ⟨[(2,t17),(3,t18)],h15,(y16++(y10++(y7++(y4++x))))⟩)
theorem e_q05w {C gl v0 h x K}:NW C gl zm5.body ⟨enter [v0],h,x⟩ K=zw0 C gl v0 h x K:=by kernel_rfl
def P_q060:ACode:=(.seq (rg [mV 2 (.c (.p (.int .i32 0))),
mV 3 (cI 0)] [0])
(.seq (rg [mV 13 0,
uO 14 (.lens 13),
mV 4 14] [0,4])
(.seq (.seq (rg [mV 15 4,
bN 16 .lss 15 (cI 1)] [0,4,16])
(.cond 16 (.seq (rg [mV 2 (.c (.p (.int .i32 65533))),
mV 3 (cI 0)] [2,3])
.ret)
.skip))
(.seq (rg [mV 17 0,
uO 18 (.idxs 17 (cI 0)),
mV 5 18] [0,4,5])
(.seq (rg [mV 19 5,
uO 20 (.iaddra 256 none (.g 4) 19),
lD 21 none 20,
mV 6 21] [0,4,5,6])
(.seq (.seq (rg [mV 22 6,
bN 23 .geq 22 (.c (.p (.int .u8 240)))] [0,4,5,6,23])
(.cond 23 (.seq (rg [mV 24 6,
uO 25 (.conv (.i .i32) 24),
bN 26 .shl 25 (.c (.p (.int .u64 31))),
bN 27 .shr 26 (.c (.p (.int .u64 31))),
mV 7 27] [0,7])
(.seq (rg [mV 28 0,
uO 29 (.idxs 28 (cI 0)),
uO 30 (.conv (.i .i32) 29),
mV 31 7,
bN 32 .andNot 30 31,
mV 33 7,
bN 34 .and (.c (.p (.int .i32 65533))) 33,
bN 35 .or 32 34,
mV 2 35,
mV 3 (cI 1)] [2,3])
.ret))
.skip))
(.seq (rg [mV 36 6,
bN 37 .and 36 (.c (.p (.int .u8 7))),
uO 38 (.conv (.i .i64) 37),
mV 8 38] [0,4,5,6,8])
(.seq (rg [mV 39 6,
bN 40 .shr 39 (.c (.p (.int .u64 4))),
uO 41 (.iaddra 16 (some 2) (.g 5) 40),
lD 42 (some 2) 41,
uO 9 (.alloc [.p (.int .u8 0),.p (.int .u8 0)]),
wO (.store (some 2) 9 42)] [0,4,5,8,9])
(.seq (.seq (rg [mV 43 4,
mV 44 8,
bN 45 .lss 43 44] [0,5,8,9,45])
(.cond 45 (.seq (rg [mV 2 (.c (.p (.int .i32 65533))),
mV 3 (cI 1)] [2,3])
.ret)
.skip))
(.seq (rg [mV 46 0,
uO 47 (.idxs 46 (cI 1)),
mV 10 47] [0,5,8,9,10])
(.seq (.seq (rg [mV 48 10,
fA 49 0 none 9,
lD 50 none 49,
bN 51 .lss 48 50,
mV 52 51,
gD 53 52 false (.faddr 1 none 9),
gD 54 52 false (.load none 53),
gD 55 52 false (.mv 10),
gD 56 52 false (.bin .lss 54 55),
uO 57 (.pick 52 cT 56)] [0,5,8,10,57])
(.cond 57 (.seq (rg [mV 2 (.c (.p (.int .i32 65533))),
mV 3 (cI 1)] [2,3])
.ret)
.skip))
(.seq (.seq (rg [mV 58 8,
bN 59 .leq 58 (cI 2)] [0,5,8,10,59])
(.cond 59 (.seq (rg [mV 60 5,
bN 61 .and 60 (.c (.p (.int .u8 31))),
uO 62 (.conv (.i .i32) 61),
bN 63 .shl 62 (.c (.p (.int .u64 6))),
mV 64 10,
bN 65 .and 64 (.c (.p (.int .u8 63))),
uO 66 (.conv (.i .i32) 65),
bN 67 .or 63 66,
mV 2 67,
mV 3 (cI 2)] [2,3])
.ret)
.skip))
(.seq (rg [mV 68 0,
uO 69 (.idxs 68 (cI 2)),
mV 11 69] [0,5,8,10,11])
(.seq (.seq (rg [mV 70 11,
bN 71 .lss 70 (.c (.p (.int .u8 128))),
mV 72 71,
gD 73 72 false (.mv 11),
gD 74 72 false (.bin .lss (.c (.p (.int .u8 191))) 73),
uO 75 (.pick 72 cT 74)] [0,5,8,10,11,75])
(.cond 75 (.seq (rg [mV 2 (.c (.p (.int .i32 65533))),
mV 3 (cI 1)] [2,3])
.ret)
.skip))
(.seq (.seq (rg [mV 76 8,
bN 77 .leq 76 (cI 3)] [0,5,10,11,77])
(.cond 77 (.seq (rg [mV 78 5,
bN 79 .and 78 (.c (.p (.int .u8 15))),
uO 80 (.conv (.i .i32) 79),
bN 81 .shl 80 (.c (.p (.int .u64 12))),
mV 82 10,
bN 83 .and 82 (.c (.p (.int .u8 63))),
uO 84 (.conv (.i .i32) 83),
bN 85 .shl 84 (.c (.p (.int .u64 6))),
bN 86 .or 81 85,
mV 87 11,
bN 88 .and 87 (.c (.p (.int .u8 63))),
uO 89 (.conv (.i .i32) 88),
bN 90 .or 86 89,
mV 2 90,
mV 3 (cI 3)] [2,3])
.ret)
.skip))
(.seq (rg [mV 91 0,
uO 92 (.idxs 91 (cI 3)),
mV 12 92] [5,10,11,12])
(.seq (.seq (rg [mV 93 12,
bN 94 .lss 93 (.c (.p (.int .u8 128))),
mV 95 94,
gD 96 95 false (.mv 12),
gD 97 95 false (.bin .lss (.c (.p (.int .u8 191))) 96),
uO 98 (.pick 95 cT 97)] [5,10,11,12,98])
(.cond 98 (.seq (rg [mV 2 (.c (.p (.int .i32 65533))),
mV 3 (cI 1)] [2,3])
.ret)
.skip))
(.seq (rg [mV 99 5,
bN 100 .and 99 (.c (.p (.int .u8 7))),
uO 101 (.conv (.i .i32) 100),
bN 102 .shl 101 (.c (.p (.int .u64 18))),
mV 103 10,
bN 104 .and 103 (.c (.p (.int .u8 63))),
uO 105 (.conv (.i .i32) 104),
bN 106 .shl 105 (.c (.p (.int .u64 12))),
bN 107 .or 102 106,
mV 108 11,
bN 109 .and 108 (.c (.p (.int .u8 63))),
uO 110 (.conv (.i .i32) 109),
bN 111 .shl 110 (.c (.p (.int .u64 6))),
bN 112 .or 107 111,
mV 113 12,
bN 114 .and 113 (.c (.p (.int .u8 63))),
uO 115 (.conv (.i .i32) 114),
bN 116 .or 112 115,
mV 2 116,
mV 3 (cI 4)] [2,3])
.ret))))))))))))))))))
def zm6:AFun:=⟨1,[.t 2,.t 3],P_q060,false,false⟩
def zw1 (C:Hd) (gl:GL) (v0:AV) (h:Heap) (x:Esc) (K:KT):Prop:=
 pK (z06 v0) fun t1=>
 pK (oBin .lss t1 (AI 1)) fun t2=>
 z0i t2 (K .ret ⟨[(2,(.p (.int .i32 65533))),(3,(AI 0))],h,x⟩)
 (pK (z1I v0 (AI 0)) fun t3=>
 pK (z5J 256 none (gv gl 4) t3) fun t4=>
 pK (z0e none t4 h) fun t5=>
 pK (oBin .geq t5 (.p (.int .u8 240))) fun t6=>
 z0i t6 (pK (z1w .i32 t5) fun t7=>
 pK (oBin .shl t7 (.p (.int .u64 31))) fun t8=>
 pK (oBin .shr t8 (.p (.int .u64 31))) fun t9=>
 pK (z1I v0 (AI 0)) fun t10=>
 pK (z1w .i32 t10) fun t11=>
 pK (oBin .andNot t11 t9) fun t12=>
 pK (oBin .and (.p (.int .i32 65533)) t9) fun t13=>
 pK (oBin .or t12 t13) fun t14=>
 K .ret ⟨[(2,t14),(3,(AI 1))],h,x⟩)
 (pK (oBin .and t5 (.p (.int .u8 7))) fun t15=>
 pK (z1w .i64 t15) fun t16=>
 pK (oBin .shr t5 (.p (.int .u64 4))) fun t17=>
 pK (z5J 16 (some 2) (gv gl 5) t17) fun t18=>
 pK (z0e (some 2) t18 h) fun t19=>
 alK [.p (.int .u8 0),.p (.int .u8 0)] h fun t20 h21 y22=>
 wK (z0k (some 2) t20 t19 h21) fun t23 h24 y25=>
 pK (oBin .lss t1 t16) fun t26=>
 z0i t26 (K .ret ⟨[(2,(.p (.int .i32 65533))),(3,(AI 1))],h24,(y25++(y22++x))⟩)
 (pK (z1I v0 (AI 1)) fun t27=>
 pK (z0d 0 none t20) fun t28=>
 pK (z0e none t28 h24) fun t29=>
 pK (oBin .lss t27 t29) fun t30=>
 gP t30 false (z0d 1 none t20) h24 fun t31 h32 y33=>
 gP t30 false (z0e none t31 h32) h32 fun t34 h35 y36=>
 gM t30 false t27 h35 fun t37 h38 y39=>
 gP t30 false (oBin .lss t34 t37) h38 fun t40 h41 y42=>
 pK (z09 t30 (AB true) t40) fun t43=>
 z0i t43 (K .ret ⟨[(2,(.p (.int .i32 65533))),(3,(AI 1))],h41,(y42++(y39++(y36++(y33++(y25++(y22++x))))))⟩)
 (pK (oBin .leq t16 (AI 2)) fun t44=>
 z0i t44 (pK (oBin .and t3 (.p (.int .u8 31))) fun t45=>
 pK (z1w .i32 t45) fun t46=>
 pK (oBin .shl t46 (.p (.int .u64 6))) fun t47=>
 pK (oBin .and t27 (.p (.int .u8 63))) fun t48=>
 pK (z1w .i32 t48) fun t49=>
 pK (oBin .or t47 t49) fun t50=>
 K .ret ⟨[(2,t50),(3,(AI 2))],h41,(y42++(y39++(y36++(y33++(y25++(y22++x))))))⟩)
 (pK (z1I v0 (AI 2)) fun t51=>
 pK (oBin .lss t51 (.p (.int .u8 128))) fun t52=>
 gM t52 false t51 h41 fun t53 h54 y55=>
 gP t52 false (oBin .lss (.p (.int .u8 191)) t53) h54 fun t56 h57 y58=>
 pK (z09 t52 (AB true) t56) fun t59=>
 z0i t59 (K .ret ⟨[(2,(.p (.int .i32 65533))),(3,(AI 1))],h57,(y58++(y55++(y42++(y39++(y36++(y33++(y25++(y22++x))))))))⟩)
 (pK (oBin .leq t16 (AI 3)) fun t60=>
 z0i t60 (pK (oBin .and t3 (.p (.int .u8 15))) fun t61=>
 pK (z1w .i32 t61) fun t62=>
 pK (oBin .shl t62 (.p (.int .u64 12))) fun t63=>
 pK (oBin .and t27 (.p (.int .u8 63))) fun t64=>
 pK (z1w .i32 t64) fun t65=>
 pK (oBin .shl t65 (.p (.int .u64 6))) fun t66=>
 pK (oBin .or t63 t66) fun t67=>
 pK (oBin .and t51 (.p (.int .u8 63))) fun t68=>
 pK (z1w .i32 t68) fun t69=>
 pK (oBin .or t67 t69) fun t70=>
 K .ret ⟨[(2,t70),(3,(AI 3))],h57,(y58++(y55++(y42++(y39++(y36++(y33++(y25++(y22++x))))))))⟩)
 (pK (z1I v0 (AI 3)) fun t71=>
 pK (oBin .lss t71 (.p (.int .u8 128))) fun t72=>
 gM t72 false t71 h57 fun t73 h74 y75=>
 gP t72 false (oBin .lss (.p (.int .u8 191)) t73) h74 fun t76 h77 y78=>
 pK (z09 t72 (AB true) t76) fun t79=>
 z0i t79 (K .ret ⟨[(2,(.p (.int .i32 65533))),(3,(AI 1))],h77,(y78++(y75++(y58++(y55++(y42++(y39++(y36++(y33++(y25++(y22++x))))))))))⟩)
 (pK (oBin .and t3 (.p (.int .u8 7))) fun t80=>
 pK (z1w .i32 t80) fun t81=>
 pK (oBin .shl t81 (.p (.int .u64 18))) fun t82=>
 pK (oBin .and t27 (.p (.int .u8 63))) fun t83=>
 pK (z1w .i32 t83) fun t84=>
 pK (oBin .shl t84 (.p (.int .u64 12))) fun t85=>
 pK (oBin .or t82 t85) fun t86=>
 pK (oBin .and t51 (.p (.int .u8 63))) fun t87=>
 pK (z1w .i32 t87) fun t88=>
 pK (oBin .shl t88 (.p (.int .u64 6))) fun t89=>
 pK (oBin .or t86 t89) fun t90=>
 pK (oBin .and t71 (.p (.int .u8 63))) fun t91=>
 pK (z1w .i32 t91) fun t92=>
 pK (oBin .or t90 t92) fun t93=>
 K .ret ⟨[(2,t93),(3,(AI 4))],h77,(y78++(y75++(y58++(y55++(y42++(y39++(y36++(y33++(y25++(y22++x))))))))))⟩))))))))
theorem e_q060 {C gl v0 h x K}:NW C gl zm6.body ⟨enter [v0],h,x⟩ K=zw1 C gl v0 h x K:=by kernel_rfl
end Go.Am
end
section
/- The abstract machine,part C: z19 calls that say true,asv contracts. -/
set_option linter.all false
namespace Go.Am
variable {P:Program} {gl:Nat→Option PV}
end Go.Am
end
section
/- The functions together. -/
set_option linter.unusedVariables false
set_option maxRecDepth 100000
namespace Go.Am
def fns:List (Nat × AFun):=[(zhT,zl8),(zaS,zlK),(z3n,zlJ),(zbh,zmo),(zbo,zm7),(zaT,zlO),(z7R,zlE),(zaR,zlD),(zbq,zmA),(z4k,zhd),(z7T,zlR),(zbp,zm8),(zaV,zlS),(zaO,zl9),(z12,zlG),(z4n,zhf),(z6k,zmG),(zbr,zmC),(zby,zmN),(zbw,zmK),(zaU,zlP),(zbk,zmx),(zaP,zlB),(z2z,zlF),(z1p,zlI),(zaQ,zlC),(z2n,zmt),(zbu,zmF),(z9q,zmr),(z4m,zms),(zba,zlZ),(z9o,zlX),(zbc,zmb),(zaH,zlu),(z9t,zm9),(zbv,zmH),(zaW,zlU),(z9n,zlT),(zbb,zma),(z56,zlA),(z4h,zlx),(zbs,zmD),(zb0,zmP),(z2P,zmB),(z8e,zmJ),(z4o,zmL),(z58,zmI),(z7Q,zl5),(z4i,zlM),(z7S,zlH),(z22,zlL),(zbi,zmu),(z8g,zmR),(z8f,zmQ),(zbg,zmk),(z2O,zme),(z4j,zlQ),(zbf,zmj),(zbe,zmi),(z6j,zmc),(z7W,zml),(z4l,zmf),(zaY,zlW),(z7Z,zmp),(zaI,zlv),(z57,zmz),(z7Y,zmn),(zbt,zmE),(zaJ,zlw),(z9r,zmv),(zaZ,zlY),(z44,zmq),(zaX,zlV),(zbz,zmO),(zbx,zmM),(z4g,zlt),(zbn,zm3),(z42,zl6),(zfp,zly),(zfq,zlz),(zaL,zl3),(z7X,zmm),(z7U,zmg),(z43,zmh),(zbj,zmw),(zbm,zm2),(z8b,zm0),(z9m,zl1),(z8c,zm4),(z9s,zhe),(zfr,zl0),(zbl,zmy),(z2m,zlN),(zbd,zmd),(zaK,zl2),(zfs,zm1),(zaN,zl7),(z8d,zd3),(zaM,zl4),(zft,zm5),(zfu,zm6)]
def GRL:List (Nat × Sh):=[]
def PRL:zau:=[(z7V,z7k),(z9p,zj4),(z8a,zq2),(zhU,zhm),(zhV,zq3),(z1q,z9Y),(zhW,trimS)]
def GLL:List (Nat × PV):=[(1,zcC)]
def fnOf:List (Nat × AFun)→Nat→Option AFun
 | [],_=>none
 | (k,F)::r,n=>bif Nat.beq k n then some F else fnOf r n
def X:Ctx:=⟨fnOf fns,glOf GLL,extF z0n z0K,libF GRL PRL⟩
theorem zie {p:Nat→AFun→Bool}:∀ (l:List (Nat × AFun)),(l.all fun y=>p y.1 y.2)=true→∀ n F,fnOf l n=some F→p n F=true
 | [],_,n,F,h=>by cases h
 | (k,G)::r,ha,n,F,h=>by
  simp only[List.all_cons,Bool.and_eq_true] at ha
  simp only[fnOf] at h
  cases hk:Nat.beq k n with
  | true=>
   rw[hk] at h
   have:=Nat.eq_of_beq_eq_true hk
   simp only[cond_true,Option.some.injEq] at h
   subst this;subst h;exact ha.1
  | false=>
   rw[hk] at h
   exact zie r ha.2 n F h
theorem zhc:X.NoNext:=fun f F h=>zie (p:=fun _ F=>F.isDet||F.body.noNext) fns (by kernel_rfl) f F h
theorem x_q02i:X.fn zhT=some zl8:=by kernel_rfl
theorem c_q02i {u0 v0:AV} {h h1:Heap} {P:Post} (hp:z0p h [u0]=some ([v0],h1)):z0c X zhT [u0] h P=zdV (z0c X) X.gl z6y v0 h1 [] (finR [.t 2] false h.length P):=by rw[z0g x_q02i rfl hp rfl];exact e_q02i
theorem x_q02v:X.fn zaS=some zlK:=by kernel_rfl
theorem c_q02v {u0 u1 v0 v1:AV} {h h1:Heap} {P:Post} (hp:z0p h [u0,u1]=some ([v0,v1],h1)):z0c X zaS [u0,u1] h P=zh3 (z0c X) X.gl z3v z64 v0 v1 h1 [] (finR [.t 4] false h.length P):=by rw[z0g x_q02v rfl hp rfl];exact e_q02v
theorem x_q02u:X.fn z3n=some zlJ:=by kernel_rfl
theorem c_q02u {u0 u1 u2 v0 v1 v2:AV} {h h1:Heap} {P:Post} (hp:z0p h [u0,u1,u2]=some ([v0,v1,v2],h1)):z0c X z3n [u0,u1,u2] h P=znC (z0c X) X.gl v0 v1 v2 h1 [] (finR [.t 6] false h.length P):=by rw[z0g x_q02u rfl hp rfl];exact e_q02u
theorem x_q03z:X.fn zbh=some zmo:=by kernel_rfl
theorem c_q03z {u0 u1 v0 v1:AV} {h h1:Heap} {P:Post} (hp:z0p h [u0,u1]=some ([v0,v1],h1)):z0c X zbh [u0,u1] h P=ze4 (z0c X) X.gl z39 z6K v0 v1 h1 [] (finR [.t 4] false h.length P):=by rw[z0g x_q03z rfl hp rfl];exact e_q03z
theorem x_q063:X.fn zbo=some zm7:=by kernel_rfl
theorem c_q063 {u0 v0:AV} {h h1:Heap} {P:Post} (hp:z0p h [u0]=some ([v0],h1)):z0c X zbo [u0] h P=zhL (z0c X) X.gl v0 h1 [] (finR [.t 2,.t 3] false h.length P):=by rw[z0g x_q063 rfl hp rfl];exact e_q063
theorem x_q02z:X.fn zaT=some zlO:=by kernel_rfl
theorem c_q02z {u0 u1 v0 v1:AV} {h h1:Heap} {P:Post} (hp:z0p h [u0,u1]=some ([v0,v1],h1)):z0c X zaT [u0,u1] h P=zh6 (z0c X) X.gl z3y z66 v0 v1 h1 [] (finR [.t 4] false h.length P):=by rw[z0g x_q02z rfl hp rfl];exact e_q02z
theorem x_q02p:X.fn z7R=some zlE:=by kernel_rfl
theorem c_q02p {u0 u1 v0 v1:AV} {h h1:Heap} {P:Post} (hp:z0p h [u0,u1]=some ([v0,v1],h1)):z0c X z7R [u0,u1] h P=zh0 (z0c X) X.gl z3u z63 v0 v1 h1 [] (finR [.t 4] false h.length P):=by rw[z0g x_q02p rfl hp rfl];exact e_q02p
theorem x_q02o:X.fn zaR=some zlD:=by kernel_rfl
theorem c_q02o {u0 v0:AV} {h h1:Heap} {P:Post} (hp:z0p h [u0]=some ([v0],h1)):z0c X zaR [u0] h P=zhz (z0c X) X.gl z3t z62 v0 h1 [] (finR [.t 2] false h.length P):=by rw[z0g x_q02o rfl hp rfl];exact e_q02o
theorem x_q069:X.fn zbq=some zmA:=by kernel_rfl
theorem c_q069 {u0 v0:AV} {h h1:Heap} {P:Post} (hp:z0p h [u0]=some ([v0],h1)):z0c X zbq [u0] h P=zeM (z0c X) X.gl z26 z6R v0 h1 [] (finR [.t 2,.t 3] false h.length P):=by rw[z0g x_q069 rfl hp rfl];exact e_q069
theorem zwR:X.fn z4k=some zhd:=by kernel_rfl
theorem c_q033 {u0 v0:AV} {h h1:Heap} {P:Post} (hp:z0p h [u0]=some ([v0],h1)):z0c X z4k [u0] h P=zeq (z0c X) X.gl z30 z68 v0 h1 [] (finR [.t 2] false h.length P):=by rw[z0g zwR rfl hp rfl];exact e_q033
theorem x_q032:X.fn z7T=some zlR:=by kernel_rfl
theorem c_q032 {u0 v0:AV} {h h1:Heap} {P:Post} (hp:z0p h [u0]=some ([v0],h1)):z0c X z7T [u0] h P=zh7 (z0c X) X.gl z3z z67 v0 h1 [] (finR [.t 2] false h.length P):=by rw[z0g x_q032 rfl hp rfl];exact e_q032
theorem x_q064:X.fn zbp=some zm8:=by kernel_rfl
theorem c_q064 {u0 v0:AV} {h h1:Heap} {P:Post} (hp:z0p h [u0]=some ([v0],h1)):z0c X zbp [u0] h P=zeL (z0c X) X.gl v0 h1 [] (finR [.t 2,.t 3,.t 4] false h.length P):=by rw[z0g x_q064 rfl hp rfl];exact e_q064
theorem x_q034:X.fn zaV=some zlS:=by kernel_rfl
theorem c_q034 {u0 v0:AV} {h h1:Heap} {P:Post} (hp:z0p h [u0]=some ([v0],h1)):z0c X zaV [u0] h P=zet (z0c X) X.gl v0 h1 [] (finR [.t 2,.t 3,.t 4] false h.length P):=by rw[z0g x_q034 rfl hp rfl];exact e_q034
theorem x_q02k:X.fn zaO=some zl9:=by kernel_rfl
theorem c_q02k {h h1:Heap} {P:Post} (hp:z0p h []=some ([],h1)):z0c X zaO [] h P=zn9 (z0c X) X.gl  h1 [] (finR [.t 0] false h.length P):=by rw[z0g x_q02k rfl hp rfl];exact e_q02k
theorem x_q02r:X.fn z12=some zlG:=by kernel_rfl
theorem c_q02r {u0 u1 v0 v1:AV} {h h1:Heap} {P:Post} (hp:z0p h [u0,u1]=some ([v0,v1],h1)):z0c X z12 [u0,u1] h P=zh1 (z0c X) X.gl v0 v1 h1 [] (finR [.t 4] false h.length P):=by rw[z0g x_q02r rfl hp rfl];exact e_q02r
theorem zwU:X.fn z4n=some zhf:=by kernel_rfl
theorem c_q062 {u0 v0:AV} {h h1:Heap} {P:Post} (hp:z0p h [u0]=some ([v0],h1)):z0c X z4n [u0] h P=zeI (z0c X) X.gl z3D z6Q v0 h1 [] (finR [.t 2] false h.length P):=by rw[z0g zwU rfl hp rfl];exact e_q062
theorem x_q06h:X.fn z6k=some zmG:=by kernel_rfl
theorem zww {u0 u1 v0 v1:AV} {h h1:Heap} {P:Post} (hp:z0p h [u0,u1]=some ([v0,v1],h1)):z0c X z6k [u0,u1] h P=zeU (z0c X) X.gl z27 z4J v0 v1 h1 [] (finR [.t 4] false h.length P):=by rw[z0g x_q06h rfl hp rfl];exact e_q06h
theorem x_q06d:X.fn zbr=some zmC:=by kernel_rfl
theorem c_q06d {u0 v0:AV} {h h1:Heap} {P:Post} (hp:z0p h [u0]=some ([v0],h1)):z0c X zbr [u0] h P=zeQ (z0c X) X.gl v0 h1 [] (finR [.t 2] false h.length P):=by rw[z0g x_q06d rfl hp rfl];exact e_q06d
theorem x_q06o:X.fn zby=some zmN:=by kernel_rfl
theorem c_q06o {u0 u1 v0 v1:AV} {h h1:Heap} {P:Post} (hp:z0p h [u0,u1]=some ([v0,v1],h1)):z0c X zby [u0,u1] h P=z7N (z0c X) X.gl v0 v1 h1 [] (finR [.t 4] false h.length P):=by rw[z0g x_q06o rfl hp rfl];exact e_q06o
theorem x_q06l:X.fn zbw=some zmK:=by kernel_rfl
theorem c_q06l {u0 u1 v0 v1:AV} {h h1:Heap} {P:Post} (hp:z0p h [u0,u1]=some ([v0,v1],h1)):z0c X zbw [u0,u1] h P=z3k (z0c X) X.gl z29 z4N v0 v1 h1 [] (finR [] false h.length P):=by rw[z0g x_q06l rfl hp rfl];exact e_q06l
theorem x_q030:X.fn zaU=some zlP:=by kernel_rfl
theorem c_q030 {u0 u1 v0 v1:AV} {h h1:Heap} {P:Post} (hp:z0p h [u0,u1]=some ([v0,v1],h1)):z0c X zaU [u0,u1] h P=znE (z0c X) X.gl v0 v1 h1 [] (finR [.t 4] false h.length P):=by rw[z0g x_q030 rfl hp rfl];exact e_q030
theorem x_q057:X.fn zbk=some zmx:=by kernel_rfl
theorem c_q057 {u0 u1 v0 v1:AV} {h h1:Heap} {P:Post} (hp:z0p h [u0,u1]=some ([v0,v1],h1)):z0c X zbk [u0,u1] h P=znS (z0c X) X.gl v0 v1 h1 [] (finR [.t 4] false h.length P):=by rw[z0g x_q057 rfl hp rfl];exact e_q057
theorem x_q02m:X.fn zaP=some zlB:=by kernel_rfl
theorem c_q02m {u0 v0:AV} {h h1:Heap} {P:Post} (hp:z0p h [u0]=some ([v0],h1)):z0c X zaP [u0] h P=z4f (z0c X) X.gl z60 z61 v0 h1 [] (finR [.cell 2 (some 6)] false h.length P):=by rw[z0g x_q02m rfl hp rfl];exact e_q02m
theorem x_q02q:X.fn z2z=some zlF:=by kernel_rfl
theorem c_q02q {u0 u1 v0 v1:AV} {h h1:Heap} {P:Post} (hp:z0p h [u0,u1]=some ([v0,v1],h1)):z0c X z2z [u0,u1] h P=znA (z0c X) X.gl v0 v1 h1 [] (finR [.t 4] false h.length P):=by rw[z0g x_q02q rfl hp rfl];exact e_q02q
theorem x_q02t:X.fn z1p=some zlI:=by kernel_rfl
theorem c_q02t {u0 u1 v0 v1:AV} {h h1:Heap} {P:Post} (hp:z0p h [u0,u1]=some ([v0,v1],h1)):z0c X z1p [u0,u1] h P=znB (z0c X) X.gl v0 v1 h1 [] (finR [.t 4] false h.length P):=by rw[z0g x_q02t rfl hp rfl];exact e_q02t
theorem x_q02n:X.fn zaQ=some zlC:=by kernel_rfl
theorem c_q02n {u0 u1 u2 v0 v1 v2:AV} {h h1:Heap} {P:Post} (hp:z0p h [u0,u1,u2]=some ([v0,v1,v2],h1)):z0c X zaQ [u0,u1,u2] h P=zhy (z0c X) X.gl v0 v1 v2 h1 [] (finR [.t 6] false h.length P):=by rw[z0g x_q02n rfl hp rfl];exact e_q02n
theorem x_q04y:X.fn z2n=some zmt:=by kernel_rfl
theorem c_q04y {u0 u1 v0 v1:AV} {h h1:Heap} {P:Post} (hp:z0p h [u0,u1]=some ([v0,v1],h1)):z0c X z2n [u0,u1] h P=znQ (z0c X) X.gl v0 v1 h1 [] (finR [.t 4,.t 5] false h.length P):=by rw[z0g x_q04y rfl hp rfl];exact e_q04y
theorem x_q06g:X.fn zbu=some zmF:=by kernel_rfl
theorem c_q06g {u0 v0:AV} {h h1:Heap} {P:Post} (hp:z0p h [u0]=some ([v0],h1)):z0c X zbu [u0] h P=z6c (z0c X) X.gl v0 h1 [] (finR [.t 2] false h.length P):=by rw[z0g x_q06g rfl hp rfl];exact e_q06g
theorem x_q04w:X.fn z9q=some zmr:=by kernel_rfl
theorem c_q04w {u0 v0:AV} {h h1:Heap} {P:Post} (hp:z0p h [u0]=some ([v0],h1)):z0c X z9q [u0] h P=znP (z0c X) X.gl v0 h1 [] (finR [.t 2] false h.length P):=by rw[z0g x_q04w rfl hp rfl];exact e_q04w
theorem x_q04x:X.fn z4m=some zms:=by kernel_rfl
theorem c_q04x {u0 v0:AV} {h h1:Heap} {P:Post} (hp:z0p h [u0]=some ([v0],h1)):z0c X z4m [u0] h P=zhG (z0c X) X.gl v0 h1 [] (finR [.t 2] false h.length P):=by rw[z0g x_q04x rfl hp rfl];exact e_q04x
theorem x_q03d:X.fn zba=some zlZ:=by kernel_rfl
theorem c_q03d {u0 v0:AV} {h h1:Heap} {P:Post} (hp:z0p h [u0]=some ([v0],h1)):z0c X zba [u0] h P=z2l (z0c X) X.gl z6C z6D v0 h1 [] (finR [.t 2] false h.length P):=by rw[z0g x_q03d rfl hp rfl];exact e_q03d
theorem x_q03a:X.fn z9o=some zlX:=by kernel_rfl
theorem c_q03a {u0 v0:AV} {h h1:Heap} {P:Post} (hp:z0p h [u0]=some ([v0],h1)):z0c X z9o [u0] h P=zhA (z0c X) X.gl z34 z6B v0 h1 [] (finR [.t 2,.t 3,.t 4] false h.length P):=by rw[z0g x_q03a rfl hp rfl];exact e_q03a
theorem x_q03f:X.fn zbc=some zmb:=by kernel_rfl
theorem c_q03f {u0 v0:AV} {h h1:Heap} {P:Post} (hp:z0p h [u0]=some ([v0],h1)):z0c X zbc [u0] h P=z7L (z0c X) X.gl v0 h1 [] (finR [.t 2] false h.length P):=by rw[z0g x_q03f rfl hp rfl];exact e_q03f
theorem x_q001:X.fn zaH=some zlu:=by kernel_rfl
theorem c_q001 {u0 u1 v0 v1:AV} {h h1:Heap} {P:Post} (hp:z0p h [u0,u1]=some ([v0,v1],h1)):z0c X zaH [u0,u1] h P=zho (z0c X) X.gl z3p z6t v0 v1 h1 [] (finR [.t 4,.t 5] false h.length P):=by rw[z0g x_q001 rfl hp rfl];exact e_q001
theorem x_q065:X.fn z9t=some zm9:=by kernel_rfl
theorem c_q065 {u0 u1 v0 v1:AV} {h h1:Heap} {P:Post} (hp:z0p h [u0,u1]=some ([v0,v1],h1)):z0c X z9t [u0,u1] h P=znZ (z0c X) X.gl v0 v1 h1 [] (finR [.t 3] false h.length P):=by rw[z0g x_q065 rfl hp rfl];exact e_q065
theorem x_q06i:X.fn zbv=some zmH:=by kernel_rfl
theorem c_q06i {u0 v0:AV} {h h1:Heap} {P:Post} (hp:z0p h [u0]=some ([v0],h1)):z0c X zbv [u0] h P=z2w (z0c X) X.gl z28 z4K z4L v0 h1 [] (finR [.cell 2 (some 6),.t 3] false h.length P):=by rw[z0g x_q06i rfl hp rfl];exact e_q06i
theorem x_q036:X.fn zaW=some zlU:=by kernel_rfl
theorem c_q036 {u0 u1 v0 v1:AV} {h h1:Heap} {P:Post} (hp:z0p h [u0,u1]=some ([v0,v1],h1)):z0c X zaW [u0,u1] h P=zh8 (z0c X) X.gl z32 z69 v0 v1 h1 [] (finR [.t 4,.t 5] false h.length P):=by rw[z0g x_q036 rfl hp rfl];exact e_q036
theorem x_q035:X.fn z9n=some zlT:=by kernel_rfl
theorem c_q035 {u0 u1 v0 v1:AV} {h h1:Heap} {P:Post} (hp:z0p h [u0,u1]=some ([v0,v1],h1)):z0c X z9n [u0,u1] h P=znG (z0c X) X.gl v0 v1 h1 [] (finR [.t 3] false h.length P):=by rw[z0g x_q035 rfl hp rfl];exact e_q035
theorem x_q03e:X.fn zbb=some zma:=by kernel_rfl
theorem c_q03e {u0 v0:AV} {h h1:Heap} {P:Post} (hp:z0p h [u0]=some ([v0],h1)):z0c X zbb [u0] h P=z2M (z0c X) X.gl z6E v0 h1 [] (finR [.cell 2 (some 6),.t 3] false h.length P):=by rw[z0g x_q03e rfl hp rfl];exact e_q03e
theorem x_q02l:X.fn z56=some zlA:=by kernel_rfl
theorem c_q02l {u0 u1 v0 v1:AV} {h h1:Heap} {P:Post} (hp:z0p h [u0,u1]=some ([v0,v1],h1)):z0c X z56 [u0,u1] h P=zhx (z0c X) X.gl z6z v0 v1 h1 [] (finR [.t 4] false h.length P):=by rw[z0g x_q02l rfl hp rfl];exact e_q02l
theorem x_q009:X.fn z4h=some zlx:=by kernel_rfl
theorem c_q009 {u0 u1 u2 v0 v1 v2:AV} {h h1:Heap} {P:Post} (hp:z0p h [u0,u1,u2]=some ([v0,v1,v2],h1)):z0c X z4h [u0,u1,u2] h P=zn6 (z0c X) X.gl v0 v1 v2 h1 [] (finR [.t 6] false h.length P):=by rw[z0g x_q009 rfl hp rfl];exact e_q009
theorem x_q06e:X.fn zbs=some zmD:=by kernel_rfl
theorem c_q06e {u0 v0:AV} {h h1:Heap} {P:Post} (hp:z0p h [u0]=some ([v0],h1)):z0c X zbs [u0] h P=z2N (z0c X) X.gl z6S v0 h1 [] (finR [.cell 2 (some 6),.t 3] false h.length P):=by rw[z0g x_q06e rfl hp rfl];exact e_q06e
theorem x_q06r:X.fn zb0=some zmP:=by kernel_rfl
theorem c_q06r {h h1:Heap} {P:Post} (hp:z0p h []=some ([],h1)):z0c X zb0 [] h P=zoa (z0c X) X.gl  h1 [] (finR [.cell 0 (some 36)] false h.length P):=by rw[z0g x_q06r rfl hp rfl];exact e_q06r
theorem x_q06c:X.fn z2P=some zmB:=by kernel_rfl
theorem c_q06c {u0 v0:AV} {h h1:Heap} {P:Post} (hp:z0p h [u0]=some ([v0],h1)):z0c X z2P [u0] h P=zeP (z0c X) X.gl v0 h1 [] (finR [.t 2] false h.length P):=by rw[z0g x_q06c rfl hp rfl];exact e_q06c
theorem x_q06k:X.fn z8e=some zmJ:=by kernel_rfl
theorem zwx {u0 u1 v0 v1:AV} {h h1:Heap} {P:Post} (hp:z0p h [u0,u1]=some ([v0,v1],h1)):z0c X z8e [u0,u1] h P=zeY (z0c X) X.gl z6U v0 v1 h1 [] (finR [.t 4] false h.length P):=by rw[z0g x_q06k rfl hp rfl];exact e_q06k
theorem x_q06m:X.fn z4o=some zmL:=by kernel_rfl
theorem c_q06m {u0 u1 v0 v1:AV} {h h1:Heap} {P:Post} (hp:z0p h [u0,u1]=some ([v0,v1],h1)):z0c X z4o [u0,u1] h P=zhO (z0c X) X.gl z3F z6V v0 v1 h1 [] (finR [] false h.length P):=by rw[z0g x_q06m rfl hp rfl];exact e_q06m
theorem x_q06j:X.fn z58=some zmI:=by kernel_rfl
theorem c_q06j {u0 u1 u2 u3 v0 v1 v2 v3:AV} {h h1:Heap} {P:Post} (hp:z0p h [u0,u1,u2,u3]=some ([v0,v1,v2,v3],h1)):z0c X z58 [u0,u1,u2,u3] h P=zhN (z0c X) X.gl v0 v1 v2 v3 h1 [] (finR [] false h.length P):=by rw[z0g x_q06j rfl hp rfl];exact e_q06j
theorem x_q01v:X.fn z7Q=some zl5:=by kernel_rfl
theorem c_q01v {u0 u1 v0 v1:AV} {h h1:Heap} {P:Post} (hp:z0p h [u0,u1]=some ([v0,v1],h1)):z0c X z7Q [u0,u1] h P=zhu (z0c X) X.gl z3s z6x v0 v1 h1 [] (finR [.t 4] false h.length P):=by rw[z0g x_q01v rfl hp rfl];exact e_q01v
theorem x_q02x:X.fn z4i=some zlM:=by kernel_rfl
theorem c_q02x {u0 u1 v0 v1:AV} {h h1:Heap} {P:Post} (hp:z0p h [u0,u1]=some ([v0,v1],h1)):z0c X z4i [u0,u1] h P=zh4 (z0c X) X.gl z3w z65 v0 v1 h1 [] (finR [.t 4] false h.length P):=by rw[z0g x_q02x rfl hp rfl];exact e_q02x
theorem x_q02s:X.fn z7S=some zlH:=by kernel_rfl
theorem zwu {u0 u1 u2 v0 v1 v2:AV} {h h1:Heap} {P:Post} (hp:z0p h [u0,u1,u2]=some ([v0,v1,v2],h1)):z0c X z7S [u0,u1,u2] h P=zh2 (z0c X) X.gl v0 v1 v2 h1 [] (finR [.t 6] false h.length P):=by rw[z0g x_q02s rfl hp rfl];exact e_q02s
theorem x_q02w:X.fn z22=some zlL:=by kernel_rfl
theorem c_q02w {u0 u1 v0 v1:AV} {h h1:Heap} {P:Post} (hp:z0p h [u0,u1]=some ([v0,v1],h1)):z0c X z22 [u0,u1] h P=znD (z0c X) X.gl v0 v1 h1 [] (finR [.t 4] false h.length P):=by rw[z0g x_q02w rfl hp rfl];exact e_q02w
theorem x_q04z:X.fn zbi=some zmu:=by kernel_rfl
theorem c_q04z {u0 v0:AV} {h h1:Heap} {P:Post} (hp:z0p h [u0]=some ([v0],h1)):z0c X zbi [u0] h P=zhH (z0c X) X.gl v0 h1 [] (finR [] false h.length P):=by rw[z0g x_q04z rfl hp rfl];exact e_q04z
theorem x_q06u:X.fn z8g=some zmR:=by kernel_rfl
theorem c_q06u {u0 v0:AV} {h h1:Heap} {P:Post} (hp:z0p h [u0]=some ([v0],h1)):z0c X z8g [u0] h P=zob (z0c X) X.gl v0 h1 [] (finR [.t 2] false h.length P):=by rw[z0g x_q06u rfl hp rfl];exact e_q06u
theorem x_q06s:X.fn z8f=some zmQ:=by kernel_rfl
theorem c_q06s {u0 v0:AV} {h h1:Heap} {P:Post} (hp:z0p h [u0]=some ([v0],h1)):z0c X z8f [u0] h P=zaF (z0c X) X.gl v0 h1 [] (finR [.t 2] false h.length P):=by rw[z0g x_q06s rfl hp rfl];exact e_q06s
theorem x_q03p:X.fn zbg=some zmk:=by kernel_rfl
theorem c_q03p {u0 v0:AV} {h h1:Heap} {P:Post} (hp:z0p h [u0]=some ([v0],h1)):z0c X zbg [u0] h P=znL (z0c X) X.gl v0 h1 [] (finR [.t 2] false h.length P):=by rw[z0g x_q03p rfl hp rfl];exact e_q03p
theorem x_q03i:X.fn z2O=some zme:=by kernel_rfl
theorem c_q03i {u0 u1 u2 v0 v1 v2:AV} {h h1:Heap} {P:Post} (hp:z0p h [u0,u1,u2]=some ([v0,v1,v2],h1)):z0c X z2O [u0,u1,u2] h P=znJ (z0c X) X.gl v0 v1 v2 h1 [] (finR [.t 6] false h.length P):=by rw[z0g x_q03i rfl hp rfl];exact e_q03i
theorem x_q031:X.fn z4j=some zlQ:=by kernel_rfl
theorem c_q031 {u0 v0:AV} {h h1:Heap} {P:Post} (hp:z0p h [u0]=some ([v0],h1)):z0c X z4j [u0] h P=znF (z0c X) X.gl v0 h1 [] (finR [.t 2] false h.length P):=by rw[z0g x_q031 rfl hp rfl];exact e_q031
theorem x_q03n:X.fn zbf=some zmj:=by kernel_rfl
theorem c_q03n {u0 v0:AV} {h h1:Heap} {P:Post} (hp:z0p h [u0]=some ([v0],h1)):z0c X zbf [u0] h P=z3i (z0c X) X.gl v0 h1 [] (finR [.t 2] false h.length P):=by rw[z0g x_q03n rfl hp rfl];exact e_q03n
theorem x_q03m:X.fn zbe=some zmi:=by kernel_rfl
theorem c_q03m {u0 v0:AV} {h h1:Heap} {P:Post} (hp:z0p h [u0]=some ([v0],h1)):z0c X zbe [u0] h P=zhD (z0c X) X.gl z38 z6J v0 h1 [] (finR [.t 2] false h.length P):=by rw[z0g x_q03m rfl hp rfl];exact e_q03m
theorem x_q03g:X.fn z6j=some zmc:=by kernel_rfl
theorem c_q03g {h h1:Heap} {P:Post} (hp:z0p h []=some ([],h1)):z0c X z6j [] h P=znI (z0c X) X.gl  h1 [] (finR [.t 0] false h.length P):=by rw[z0g x_q03g rfl hp rfl];exact e_q03g
theorem x_q03q:X.fn z7W=some zml:=by kernel_rfl
theorem c_q03q {h h1:Heap} {P:Post} (hp:z0p h []=some ([],h1)):z0c X z7W [] h P=znM (z0c X) X.gl  h1 [] (finR [.t 0,.t 1] false h.length P):=by rw[z0g x_q03q rfl hp rfl];exact e_q03q
theorem x_q03j:X.fn z4l=some zmf:=by kernel_rfl
theorem c_q03j {u0 v0:AV} {h h1:Heap} {P:Post} (hp:z0p h [u0]=some ([v0],h1)):z0c X z4l [u0] h P=znK (z0c X) X.gl v0 h1 [] (finR [.t 2] false h.length P):=by rw[z0g x_q03j rfl hp rfl];exact e_q03j
theorem x_q038:X.fn zaY=some zlW:=by kernel_rfl
theorem c_q038 {u0 v0:AV} {h h1:Heap} {P:Post} (hp:z0p h [u0]=some ([v0],h1)):z0c X zaY [u0] h P=zh9 (z0c X) X.gl z33 z6A v0 h1 [] (finR [.t 2] false h.length P):=by rw[z0g x_q038 rfl hp rfl];exact e_q038
theorem x_q044:X.fn z7Z=some zmp:=by kernel_rfl
theorem c_q044 {u0 u1 h P}:z0c X z7Z [u0,u1] h P=zhE (z0c X) X.gl z3A z6L u0 u1 h [] (finR [.t 4] false h.length P):=by rw[z8o x_q044 rfl rfl];exact e_q044
theorem x_q006:X.fn zaI=some zlv:=by kernel_rfl
theorem c_q006 {u0 v0:AV} {h h1:Heap} {P:Post} (hp:z0p h [u0]=some ([v0],h1)):z0c X zaI [u0] h P=zhp (z0c X) X.gl v0 h1 [] (finR [.t 2,.t 3] false h.length P):=by rw[z0g x_q006 rfl hp rfl];exact e_q006
theorem x_q05c:X.fn z57=some zmz:=by kernel_rfl
theorem c_q05c {u0 u1 v0 v1:AV} {h h1:Heap} {P:Post} (hp:z0p h [u0,u1]=some ([v0,v1],h1)):z0c X z57 [u0,u1] h P=znU (z0c X) X.gl v0 v1 h1 [] (finR [.t 4] false h.length P):=by rw[z0g x_q05c rfl hp rfl];exact e_q05c
theorem x_q03y:X.fn z7Y=some zmn:=by kernel_rfl
theorem c_q03y {u0 u1 h P}:z0c X z7Y [u0,u1] h P=znO (z0c X) X.gl u0 u1 h [] (finR [.t 4] false h.length P):=by rw[z8o x_q03y rfl rfl];exact e_q03y
theorem x_q06f:X.fn zbt=some zmE:=by kernel_rfl
theorem c_q06f {u0 v0:AV} {h h1:Heap} {P:Post} (hp:z0p h [u0]=some ([v0],h1)):z0c X zbt [u0] h P=zhM (z0c X) X.gl z3E z6T v0 h1 [] (finR [.t 2] false h.length P):=by rw[z0g x_q06f rfl hp rfl];exact e_q06f
theorem x_q008:X.fn zaJ=some zlw:=by kernel_rfl
theorem c_q008 {u0 u1 v0 v1:AV} {h h1:Heap} {P:Post} (hp:z0p h [u0,u1]=some ([v0,v1],h1)):z0c X zaJ [u0,u1] h P=z5Z (z0c X) X.gl z25 z6u v0 v1 h1 [] (finR [.t 4,.t 5] false h.length P):=by rw[z0g x_q008 rfl hp rfl];exact e_q008
theorem x_q054:X.fn z9r=some zmv:=by kernel_rfl
theorem zwv {u0 u1 v0 v1:AV} {h h1:Heap} {P:Post} (hp:z0p h [u0,u1]=some ([v0,v1],h1)):z0c X z9r [u0,u1] h P=zhI (z0c X) X.gl v0 v1 h1 [] (finR [.t 4,.t 5,.t 6] false h.length P):=by rw[z0g x_q054 rfl hp rfl];exact e_q054
theorem x_q03c:X.fn zaZ=some zlY:=by kernel_rfl
theorem c_q03c {u0 v0:AV} {h h1:Heap} {P:Post} (hp:z0p h [u0]=some ([v0],h1)):z0c X zaZ [u0] h P=znH (z0c X) X.gl v0 h1 [] (finR [.t 2,.t 3] false h.length P):=by rw[z0g x_q03c rfl hp rfl];exact e_q03c
theorem x_q045:X.fn z44=some zmq:=by kernel_rfl
theorem c_q045 {u0 u1 h P}:z0c X z44 [u0,u1] h P=zhF (z0c X) X.gl z3B z6M u0 u1 h [] (finR [.t 4] false h.length P):=by rw[z8o x_q045 rfl rfl];exact e_q045
theorem x_q037:X.fn zaX=some zlV:=by kernel_rfl
theorem c_q037 {u0 u1 v0 v1:AV} {h h1:Heap} {P:Post} (hp:z0p h [u0,u1]=some ([v0,v1],h1)):z0c X zaX [u0,u1] h P=zaE (z0c X) X.gl v0 v1 h1 [] (finR [.t 4,.t 5] false h.length P):=by rw[z0g x_q037 rfl hp rfl];exact e_q037
theorem x_q06q:X.fn zbz=some zmO:=by kernel_rfl
theorem c_q06q {u0 v0:AV} {h h1:Heap} {P:Post} (hp:z0p h [u0]=some ([v0],h1)):z0c X zbz [u0] h P=z9h (z0c X) X.gl v0 h1 [] (finR [.t 2] false h.length P):=by rw[z0g x_q06q rfl hp rfl];exact e_q06q
theorem x_q06n:X.fn zbx=some zmM:=by kernel_rfl
theorem c_q06n {u0 v0:AV} {h h1:Heap} {P:Post} (hp:z0p h [u0]=some ([v0],h1)):z0c X zbx [u0] h P=z3l (z0c X) X.gl v0 h1 [] (finR [.t 2] false h.length P):=by rw[z0g x_q06n rfl hp rfl];exact e_q06n
theorem x_q000:X.fn z4g=some zlt:=by kernel_rfl
theorem c_q000 {u0 v0:AV} {h h1:Heap} {P:Post} (hp:z0p h [u0]=some ([v0],h1)):z0c X z4g [u0] h P=zn5 (z0c X) X.gl v0 h1 [] (finR [.t 2] false h.length P):=by rw[z0g x_q000 rfl hp rfl];exact e_q000
theorem x_q05p:X.fn zbn=some zm3:=by kernel_rfl
theorem c_q05p {u0 u1 v0 v1:AV} {h h1:Heap} {P:Post} (hp:z0p h [u0,u1]=some ([v0,v1],h1)):z0c X zbn [u0,u1] h P=znX (z0c X) X.gl v0 v1 h1 [] (finR [.t 4,.t 5] false h.length P):=by rw[z0g x_q05p rfl hp rfl];exact e_q05p
theorem x_q01w:X.fn z42=some zl6:=by kernel_rfl
theorem zwt {u0 u1 v0 v1:AV} {h h1:Heap} {P:Post} (hp:z0p h [u0,u1]=some ([v0,v1],h1)):z0c X z42 [u0,u1] h P=zhv (z0c X) X.gl v0 v1 h1 [] (finR [.t 4] false h.length P):=by rw[z0g x_q01w rfl hp rfl];exact e_q01w
theorem x_q019:X.fn zfp=some zly:=by kernel_rfl
theorem c_q019 {u0 v0:AV} {h h1:Heap} {P:Post} (hp:z0p h [u0]=some ([v0],h1)):z0c X zfp [u0] h P=zwz (z0c X) X.gl v0 h1 [] (finR [.t 2] false h.length P):=by rw[z0g x_q019 rfl hp rfl];exact e_q019
theorem x_q01a:X.fn zfq=some zlz:=by kernel_rfl
theorem c_q01a {u0 u1 v0 v1:AV} {h h1:Heap} {P:Post} (hp:z0p h [u0,u1]=some ([v0,v1],h1)):z0c X zfq [u0,u1] h P=zn7 (z0c X) X.gl z3q z6v v0 v1 h1 [] (finR [.t 4] false h.length P):=by rw[z0g x_q01a rfl hp rfl];exact e_q01a
theorem x_q01t:X.fn zaL=some zl3:=by kernel_rfl
theorem c_q01t {u0 u1 v0 v1:AV} {h h1:Heap} {P:Post} (hp:z0p h [u0,u1]=some ([v0,v1],h1)):z0c X zaL [u0,u1] h P=zhs (z0c X) X.gl v0 v1 h1 [] (finR [.t 4] false h.length P):=by rw[z0g x_q01t rfl hp rfl];exact e_q01t
theorem x_q03x:X.fn z7X=some zmm:=by kernel_rfl
theorem c_q03x {u0 u1 h P}:z0c X z7X [u0,u1] h P=znN (z0c X) X.gl u0 u1 h [] (finR [.t 4] false h.length P):=by rw[z8o x_q03x rfl rfl];exact e_q03x
theorem x_q03k:X.fn z7U=some zmg:=by kernel_rfl
theorem c_q03k {u0 u1 v0 v1:AV} {h h1:Heap} {P:Post} (hp:z0p h [u0,u1]=some ([v0,v1],h1)):z0c X z7U [u0,u1] h P=zhC (z0c X) X.gl z36 z6G v0 v1 h1 [] (finR [.t 4] false h.length P):=by rw[z0g x_q03k rfl hp rfl];exact e_q03k
theorem x_q03l:X.fn z43=some zmh:=by kernel_rfl
theorem zdB {u0 u1 u2 v0 v1 v2:AV} {h h1:Heap} {P:Post} (hp:z0p h [u0,u1,u2]=some ([v0,v1,v2],h1)):z0c X z43 [u0,u1,u2] h P=z7M (z0c X) X.gl z6H z6I v0 v1 v2 h1 [] (finR [.cell 6 (some 5)] false h.length P):=by rw[z0g x_q03l rfl hp rfl];exact e_q03l
theorem x_q055:X.fn zbj=some zmw:=by kernel_rfl
theorem c_q055 {u0 u1 v0 v1:AV} {h h1:Heap} {P:Post} (hp:z0p h [u0,u1]=some ([v0,v1],h1)):z0c X zbj [u0,u1] h P=znR (z0c X) X.gl v0 v1 h1 [] (finR [.t 4,.t 5] false h.length P):=by rw[z0g x_q055 rfl hp rfl];exact e_q055
theorem x_q05h:X.fn zbm=some zm2:=by kernel_rfl
theorem c_q05h {u0 u1 u2 u3 v0 v1 v2 v3:AV} {h h1:Heap} {P:Post} (hp:z0p h [u0,u1,u2,u3]=some ([v0,v1,v2,v3],h1)):z0c X zbm [u0,u1,u2,u3] h P=zhJ (z0c X) X.gl z6O v0 v1 v2 v3 h1 [] (finR [.t 8] false h.length P):=by rw[z0g x_q05h rfl hp rfl];exact e_q05h
theorem x_q05e:X.fn z8b=some zm0:=by kernel_rfl
theorem c_q05e {u0 u1 v0 v1:AV} {h h1:Heap} {P:Post} (hp:z0p h [u0,u1]=some ([v0,v1],h1)):z0c X z8b [u0,u1] h P=znV (z0c X) X.gl v0 v1 h1 [] (finR [.t 4] false h.length P):=by rw[z0g x_q05e rfl hp rfl];exact e_q05e
theorem x_q01r:X.fn z9m=some zl1:=by kernel_rfl
theorem zws {u0 u1 v0 v1:AV} {h h1:Heap} {P:Post} (hp:z0p h [u0,u1]=some ([v0,v1],h1)):z0c X z9m [u0,u1] h P=zhq (z0c X) X.gl v0 v1 h1 [] (finR [.t 4,.t 5,.t 6] false h.length P):=by rw[z0g x_q01r rfl hp rfl];exact e_q01r
theorem x_q05q:X.fn z8c=some zm4:=by kernel_rfl
theorem c_q05q {u0 v0:AV} {h h1:Heap} {P:Post} (hp:z0p h [u0]=some ([v0],h1)):z0c X z8c [u0] h P=znY (z0c X) X.gl v0 h1 [] (finR [.t 2] false h.length P):=by rw[z0g x_q05q rfl hp rfl];exact e_q05q
theorem zwT:X.fn z9s=some zhe:=by kernel_rfl
theorem c_q05s {u0 u1 v0 v1:AV} {h h1:Heap} {P:Post} (hp:z0p h [u0,u1]=some ([v0,v1],h1)):z0c X z9s [u0,u1] h P = ∃ v h' x,P v h' x∧zeF (z0c X) X.gl z3C z6P v0 v1 h1 [] (finR [.t 4] false h.length fun v1 h1 x1=>v1=v∧h1=h'∧x1=x):=by rw[z2L zwT rfl hp rfl];exact zqb fun v h' x=>congrArg (And (P v h' x)) zw4
theorem x_q01b:X.fn zfr=some zl0:=by kernel_rfl
theorem c_q01b {u0 v0:AV} {h h1:Heap} {P:Post} (hp:z0p h [u0]=some ([v0],h1)):z0c X zfr [u0] h P=zn8 (z0c X) X.gl z3r z6w v0 h1 [] (finR [.t 2,.t 3] false h.length P):=by rw[z0g x_q01b rfl hp rfl];exact e_q01b
theorem x_q058:X.fn zbl=some zmy:=by kernel_rfl
theorem c_q058 {u0 u1 v0 v1:AV} {h h1:Heap} {P:Post} (hp:z0p h [u0,u1]=some ([v0,v1],h1)):z0c X zbl [u0,u1] h P=znT (z0c X) X.gl v0 v1 h1 [] (finR [.t 4] false h.length P):=by rw[z0g x_q058 rfl hp rfl];exact e_q058
theorem x_q02y:X.fn z2m=some zlN:=by kernel_rfl
theorem c_q02y {u0 u1 v0 v1:AV} {h h1:Heap} {P:Post} (hp:z0p h [u0,u1]=some ([v0,v1],h1)):z0c X z2m [u0,u1] h P=zh5 (z0c X) X.gl z3x v0 v1 h1 [] (finR [.t 4] false h.length P):=by rw[z0g x_q02y rfl hp rfl];exact e_q02y
theorem x_q03h:X.fn zbd=some zmd:=by kernel_rfl
theorem c_q03h {u0 v0:AV} {h h1:Heap} {P:Post} (hp:z0p h [u0]=some ([v0],h1)):z0c X zbd [u0] h P=zhB (z0c X) X.gl z35 z6F v0 h1 [] (finR [.t 2] false h.length P):=by rw[z0g x_q03h rfl hp rfl];exact e_q03h
theorem x_q01s:X.fn zaK=some zl2:=by kernel_rfl
theorem c_q01s {u0 u1 v0 v1:AV} {h h1:Heap} {P:Post} (hp:z0p h [u0,u1]=some ([v0,v1],h1)):z0c X zaK [u0,u1] h P=zhr (z0c X) X.gl v0 v1 h1 [] (finR [.t 4,.t 5] false h.length P):=by rw[z0g x_q01s rfl hp rfl];exact e_q01s
theorem x_q05g:X.fn zfs=some zm1:=by kernel_rfl
theorem c_q05g {u0 u1 v0 v1:AV} {h h1:Heap} {P:Post} (hp:z0p h [u0,u1]=some ([v0,v1],h1)):z0c X zfs [u0,u1] h P=znW (z0c X) X.gl z6N v0 v1 h1 [] (finR [.t 4] false h.length P):=by rw[z0g x_q05g rfl hp rfl];exact e_q05g
theorem x_q01x:X.fn zaN=some zl7:=by kernel_rfl
theorem c_q01x {u0 u1 v0 v1:AV} {h h1:Heap} {P:Post} (hp:z0p h [u0,u1]=some ([v0,v1],h1)):z0c X zaN [u0,u1] h P=zhw (z0c X) X.gl v0 v1 h1 [] (finR [.t 4] false h.length P):=by rw[z0g x_q01x rfl hp rfl];exact e_q01x
theorem zwS:X.fn z8d=some zd3:=by kernel_rfl
theorem c_q05r {u0 u1 v0 v1:AV} {h h1:Heap} {P:Post} (hp:z0p h [u0,u1]=some ([v0,v1],h1)):z0c X z8d [u0,u1] h P=zhK (z0c X) X.gl v0 v1 h1 [] (finR [.t 4] false h.length P):=by rw[z0g zwS rfl hp rfl];exact zw3
theorem x_q01u:X.fn zaM=some zl4:=by kernel_rfl
theorem c_q01u {u0 u1 v0 v1:AV} {h h1:Heap} {P:Post} (hp:z0p h [u0,u1]=some ([v0,v1],h1)):z0c X zaM [u0,u1] h P=zht (z0c X) X.gl v0 v1 h1 [] (finR [.t 4] false h.length P):=by rw[z0g x_q01u rfl hp rfl];exact e_q01u
theorem x_q05w:X.fn zft=some zm5:=by kernel_rfl
theorem c_q05w {u0 v0:AV} {h h1:Heap} {P:Post} (hp:z0p h [u0]=some ([v0],h1)):z0c X zft [u0] h P=zw0 (z0c X) X.gl v0 h1 [] (finR [.t 2,.t 3] false h.length P):=by rw[z0g x_q05w rfl hp rfl];exact e_q05w
theorem x_q060:X.fn zfu=some zm6:=by kernel_rfl
theorem c_q060 {u0 v0:AV} {h h1:Heap} {P:Post} (hp:z0p h [u0]=some ([v0],h1)):z0c X zfu [u0] h P=zw1 (z0c X) X.gl v0 h1 [] (finR [.t 2,.t 3] false h.length P):=by rw[z0g x_q060 rfl hp rfl];exact e_q060
attribute [go_sem] z6g z4x zoH zoI zqF zef zeg zpp zpq zqS ze5 ze6 zoQ zoR zqJ zem zen zoD zoE zoF zoG zqD zqE zeb zec zee z8S zoB zoC zqC zdZ zea zp7 zp8 zra zeN zeO zoU zoV zqL
attribute [go_sem] zer zes zoS zoT zqK zeo zep zp5 zp6 zqZ zeJ zeK zpC zpD zrc zeV zeW zpO zpP zrf zfc z4y zo7 zo8 zo9 zoA zdX z8R zdY z10 zpa zpb zpc zpd z2v z11 z0Q z3h zoY zoZ
attribute [go_sem] zqO zew zex zor z9i zq5 zdK z8M zpE zpF zpG zrd zeX z6d z3j zoW z9j zqM zeu z8V zpe z1N zo6 zdW zp9 zeR zpH zpI zpJ zpK zpL zpM zpN zre zeZ z9d zfa z9e zfb z9f
attribute [go_sem] z9g zpQ zpR zrg zfd zfe zo3 zo4 zo5 zqB zdT z8Q zdU zoJ zoK zqG zeh zei zpn zpo zqR ze2 ze3 zoX z9k zqN zev z8W zpr zps zqT ze7 ze8 zpA zpB zrb zeS zeT zos z6f
attribute [go_sem] zq6 zdL z6a zpt zpu zqU ze9 zeA zot zou zov zow zq7 zq8 zdM zdN zdO z8N zpi zpj zqQ ze0 ze1 zpk zpl zpm z2d z8Y z1O zpz zp0 z9l zqW zeD zeE z6b zp1 zp2 zp3 zp4
attribute [go_sem] zqX zqY zeG z9b z9c zeH zox zoy zoz zo0 zo1 zo2 zq9 zqA zdP zdQ zdR z8O zdS z8P zoL zoM zoN zoO zoP zqH zqI zej zek z8T zel z8U zpf zpg zph zqP zey z8X zez zpv
attribute [go_sem] zpw zpx zpy zqV zeB zeC z8Z z9a
end Go.Am
end
section
/- The stream of numbers out of which the laws draw. -/
open Go
namespace Go.Am
abbrev eI (n:Int):PV:=.int .i64 n
abbrev AL (l:List Int):AV:=.p (.sl none (l.map eI))
abbrev strm (L:List Int) (a:Int):Obj:=.box [AL L,AI a]
def zd8 (x n:Int):Int:=if n<1 then 0 else if x.tmod n<0 then IntKind.i64.wrap (x.tmod n+n) else x.tmod n
theorem zse (x n:Int) (h:Heap) (K:Post):z0c X z56 [AI x,AI n] h K=K (AI (zd8 x n)) h []:=by
 refine rule ?_
 rw[c_q02l rfl]
 simp only[zhx,go_sem]
 unfold zd8
 by_cases h1:n<1
 ·simp only[h1,if_true]
 ·simp only[h1,if_false,show ¬ n=0 by omega]
  split <;> rfl
theorem zti (x n:Int) (h1:1≤n) (h2:n≤4611686018427387904):0≤zd8 x n∧zd8 x n<n:=by
 unfold zd8
 rw[if_neg (by omega)]
 have:=Int.tmod_lt_of_pos x (show 0<n by omega)
 have h3 : -n<x.tmod n:=by
  have:=Int.lt_tmod_of_pos x (show 0<n by omega)
  exact this
 split
 ·rw[z0j _ (by omega) (by omega)];omega
 ·omega
def z1D (L:List Int) (a n:Int):Int:=
 if L.length=0 then zd8 (IntKind.i64.wrap ((a+1)*7919)) n
 else zd8 (IntKind.i64.wrap (zd8 (L.getD (a.tmod L.length).toNat 0) 1073741824+IntKind.i64.wrap (IntKind.i64.wrap (a.tdiv L.length)*IntKind.i64.wrap (7919+a.tmod L.length)))) n
theorem z2S (L:List Int) (a n:Int) (h1:1≤n) (h2:n≤4611686018427387904):0≤z1D L a n∧z1D L a n<n:=by
 unfold z1D
 split <;> exact zti _ _ h1 h2
theorem z7j {h:Heap} {id:Nat} {o':Obj} (hid:id<h.length):(h.set id o')[id]?=some o':=by simp [hid]
theorem z6o {h:Heap} {id:Nat} {o:Obj} (hh:h[id]?=some o):id<h.length:=(List.getElem?_eq_some_iff.1 hh).1
def posN (n:Nat) (a:Int):Prop:=0≤a∧a+n<4611686018427387904
theorem z0X {n m:Nat} {a b:Int} (H:posN m a) (h:a≤b) (hn:b+n≤a+m):posN n b:=by unfold posN at *;omega
theorem zi5 {a:Int} (H:posN 14 a):posN 0 (a)∧posN 0 (a+1)∧posN 0 (a+1+1)∧posN 0 (a+1+1+1)∧posN 0 (a+1+1+1+1)∧posN 0 (a+1+1+1+1+1)∧posN 0 (a+1+1+1+1+1+1)∧posN 0 (a+1+1+1+1+1+1+1)∧posN 0 (a+1+1+1+1+1+1+1+1)∧posN 0 (a+1+1+1+1+1+1+1+1+1)∧posN 0 (a+1+1+1+1+1+1+1+1+1+1)∧posN 0 (a+1+1+1+1+1+1+1+1+1+1+1)∧posN 0 (a+1+1+1+1+1+1+1+1+1+1+1+1)∧posN 0 (a+1+1+1+1+1+1+1+1+1+1+1+1+1)∧posN 0 (a+1+1+1+1+1+1+1+1+1+1+1+1+1+1):=by
 unfold posN at *;omega
def Gen (f:Nat) (args:List AV) (L:List Int) (a a2:Int) (v:AV):Prop:=∀ (h:Heap) (id:Nat) (K:Post),h[id]?=some (strm L a)→z0c X f (.ref id 0::args) h K=K v (h.set id (strm L a2)) []
section
variable {f:Nat} {args:List AV} {L:List Int} {a a2:Int} {v:AV} {h l:Heap} {id:Nat} {K:Post}
theorem Gen.set (g:Gen f args L a a2 v) (hid:id<h.length):z0c X f (.ref id 0::args) (h.set id (strm L a)) K=K v (h.set id (strm L a2)) []:=by
 rw[g _ _ _ (z7j hid),List.set_set]
theorem Gen.app (g:Gen f args L a a2 v) (hid:id<h.length):z0c X f (.ref id 0::args) (h.set id (strm L a)++l) K=K v (h.set id (strm L a2)++l) []:=by
 rw[g _ _ _ (by rw[zqt (by simpa using hid)];exact z7j hid),zsv (by simpa using hid),List.set_set]
theorem Gen.hd (g:Gen f args L a a2 v):z0c X f (.ref 0 0::args) (strm L a::l) K=K v (strm L a2::l) []:=by
 rw[g _ _ _ rfl];rfl
theorem Gen.of (H:∀ (h:Heap) (id:Nat),id<h.length→z0c X f (.ref id 0::args) (h.set id (strm L a)) fun v1 h1 x1=>v1=v∧h1=h.set id (strm L a2)∧x1=[]):Gen f args L a a2 v:=by
 intro h id K hh
 have hid:=z6o hh
 have:h.set id (strm L a)=h:=by
  apply List.ext_getElem?
  intro i
  rw[List.getElem?_set]
  split
  ·rename_i e;subst e;rw[hh]
  ·rfl
 have k:=H h id hid
 rw[this] at k
 exact rule k
end
def GenE (f:Nat) (args:List AV) (L:List Int) (a:Int) (Q:AV→Int→Prop):Prop:=∀ (h:Heap) (id:Nat),h[id]?=some (strm L a)→∃ v a2,Q v a2∧∀ K:Post,z0c X f (.ref id 0::args) h K=K v (h.set id (strm L a2)) []
section
variable {f:Nat} {args:List AV} {L:List Int} {a:Int} {Q:AV→Int→Prop}
theorem GenE.set (g:GenE f args L a Q) {h:Heap} {id:Nat} (hid:id<h.length):∃ v a2,Q v a2∧∀ K:Post,z0c X f (.ref id 0::args) (h.set id (strm L a)) K=K v (h.set id (strm L a2)) []:=by
 obtain⟨v,a2,q,r⟩:=g _ _ (z7j hid)
 exact⟨v,a2,q,fun K=>by rw[r,List.set_set]⟩
theorem GenE.app (g:GenE f args L a Q) {h l:Heap} {id:Nat} (hid:id<h.length):∃ v a2,Q v a2∧∀ K:Post,z0c X f (.ref id 0::args) (h.set id (strm L a)++l) K=K v (h.set id (strm L a2)++l) []:=by
 obtain⟨v,a2,q,r⟩:=g (h.set id (strm L a)++l) id (by rw[zqt (by simpa using hid)];exact z7j hid)
 exact⟨v,a2,q,fun K=>by rw[r,zsv (by simpa using hid),List.set_set]⟩
theorem GenE.hd (g:GenE f args L a Q) {l:Heap}:∃ v a2,Q v a2∧∀ K:Post,z0c X f (.ref 0 0::args) (strm L a::l) K=K v (strm L a2::l) []:=g (strm L a::l) 0 rfl
theorem GenE.of (H:∀ (h:Heap) (id:Nat),id<h.length→z0c X f (.ref id 0::args) (h.set id (strm L a)) fun v1 h1 x1=>∃ a2,Q v1 a2∧h1=h.set id (strm L a2)∧x1=[]):GenE f args L a Q:=by
 intro h id hh
 have hid:=z6o hh
 have:h.set id (strm L a)=h:=by
  apply List.ext_getElem?
  intro i
  rw[List.getElem?_set]
  split
  ·rename_i e;subst e;rw[hh]
  ·rfl
 have k:=H h id hid
 rw[this] at k
 obtain⟨v,h',x,⟨a2,q,e1,e2⟩,r⟩:=z0c.one zhc k
 subst e1;subst e2
 exact⟨v,a2,q,r⟩
end
def z2Z (l:List Int) (L:List Int) (a:Int):Int:=l.getD (z1D L a l.length).toNat 0
theorem z6Y {l L:List Int} {a:Int} (hl:0<l.length) (hl2:l.length<4611686018427387904):z2Z l L a∈l:=by
 obtain⟨b1,b2⟩:=z2S L a l.length (by omega) (by omega)
 unfold z2Z
 have:(z1D L a l.length).toNat<l.length:=by omega
 simp only[List.getD,List.getElem?_eq_getElem this,Option.getD_some]
 exact List.getElem_mem _
def isI:PV→Bool
 | .int .i64 _=>true
 | _=>false
def unI:PV→Int
 | .int _ n=>n
 | _=>0
theorem zz1 {xs:List PV} (h:xs.all isI=true):xs=(xs.map unI).map eI:=by
 induction xs with
 | nil=>rfl
 | cons x r ih=>
  simp only[List.all_cons,Bool.and_eq_true] at h
  simp only[List.map_cons]
  rw[← ih h.2]
  cases x with
  | int k n=>cases k <;> first | rfl | cases h.1
  | _=>cases h.1
set_option maxHeartbeats 400000 in
theorem zqp (L:List Int) (a n:Int) (hp:posN 0 a):Gen z12 [AI n] L a (a+1) (AI (z1D L a n)):=by
 refine Gen.of fun h id hid=>?_
 rw[c_q02r rfl]
 obtain⟨h0,h1⟩:=hp
 have w1:IntKind.i64.wrap (a+1)=a+1:=z0j _ (by omega) (by omega)
 have w2:IntKind.i64.wrap (a+1-1)=a:=by rw[z0j _ (by omega) (by omega)];omega
 have hs:∀ o',(h.set id o')[id]?=some o':=fun o'=>z7j hid
 rcases Nat.eq_zero_or_pos L.length with hl | hl
 ·simp only[zh1,go_sem,hs,zse,hl,w1]
  simp only[z1D,hl,if_true]
 ·have e1:((L.length:Int)=0)=False:=by simp only[eq_iff_iff,iff_false];omega
  have e2:0≤a.tmod L.length:=Int.tmod_nonneg _ h0
  have e3:a.tmod L.length<L.length:=Int.tmod_lt_of_pos _ (by omega)
  have e4:=z94 (k:=.i64) e2
  have e5:(L.map eI)[(a.tmod L.length).toNat]?=some (eI (L.getD (a.tmod L.length).toNat 0)):=by
   rw[z1B eI (show (a.tmod L.length).toNat<L.length by omega)]
   simp [List.getD,show (a.tmod L.length).toNat<L.length by omega]
  simp only[zh1,go_sem,hs,zse,e1,w1,w2,e4,e5]
  simp only[z1D,show ¬ L.length=0 by omega,if_false]
section
variable {L:List Int} {a:Int} {h l:Heap} {id:Nat} {K:Post}
theorem z2r (hid:id<h.length) (hp:posN 0 a) (n:Int):z0c X z12 [.ref id 0,AI n] (h.set id (strm L a)) K=K (AI (z1D L a n)) (h.set id (strm L (a+1))) []:=(zqp L a n hp).set hid
theorem zbK (hid:id<h.length) (hp:posN 0 a) (n:Int):z0c X z12 [.ref id 0,AI n] (h.set id (strm L a)++l) K=K (AI (z1D L a n)) (h.set id (strm L (a+1))++l) []:=(zqp L a n hp).app hid
theorem zfH (hp:posN 0 a) (n:Int):z0c X z12 [.ref 0 0,AI n] (strm L a::l) K=K (AI (z1D L a n)) (strm L (a+1)::l) []:=(zqp L a n hp).hd
theorem zqo (hp:posN 0 a) (n:Int):Gen z2z [AI n] L a (a+1) (AB (decide (z1D L a n=0))):=by
 refine Gen.of fun h id hid=>?_
 rw[c_q02q rfl]
 simp only[znA,go_sem,z2r hid hp]
theorem zbJ (hid:id<h.length) (hp:posN 0 a) (n:Int):z0c X z2z [.ref id 0,AI n] (h.set id (strm L a)) K=K (AB (decide (z1D L a n=0))) (h.set id (strm L (a+1))) []:=(zqo hp n).set hid
theorem zbI (hid:id<h.length) (hp:posN 0 a) (n:Int):z0c X z2z [.ref id 0,AI n] (h.set id (strm L a)++l) K=K (AB (decide (z1D L a n=0))) (h.set id (strm L (a+1))++l) []:=(zqo hp n).app hid
theorem zfG (hp:posN 0 a) (n:Int):z0c X z2z [.ref 0 0,AI n] (strm L a::l) K=K (AB (decide (z1D L a n=0))) (strm L (a+1)::l) []:=(zqo hp n).hd
theorem zqq (hp:posN 0 a) (xs:List PV) (hx:xs.all isI=true) (hl:0<xs.length) (hl2:xs.length<4611686018427387904) :
 Gen z1p [.p (.sl none xs)] L a (a+1) (AI (z2Z (xs.map unI) L a)):=by
 refine Gen.of fun h id hid=>?_
 rw[c_q02t rfl]
 obtain⟨b1,b2⟩:=z2S L a xs.length (by omega) (by omega)
 have e4:=z94 (k:=.i64) b1
 have e5:xs[(z1D L a xs.length).toNat]?=some (eI (z2Z (xs.map unI) L a)):=by
  have hm:=zz1 hx
  generalize hq:xs.map unI=q at *
  subst hm
  simp only[List.length_map] at *
  rw[z1B eI (show (z1D L a q.length).toNat<q.length by omega)]
  simp [z2Z,List.getD,show (z1D L a q.length).toNat<q.length by omega]
 simp only[znB,go_sem,z2r hid hp,e4,e5]
theorem zbM (hid:id<h.length) (hp:posN 0 a) {xs:List PV} (hx:xs.all isI=true) (hl:0<xs.length) (hl2:xs.length<4611686018427387904) :
 z0c X z1p [.ref id 0,.p (.sl none xs)] (h.set id (strm L a)) K=K (AI (z2Z (xs.map unI) L a)) (h.set id (strm L (a+1))) []:=(zqq hp xs hx hl hl2).set hid
theorem zbL (hid:id<h.length) (hp:posN 0 a) {xs:List PV} (hx:xs.all isI=true) (hl:0<xs.length) (hl2:xs.length<4611686018427387904) :
 z0c X z1p [.ref id 0,.p (.sl none xs)] (h.set id (strm L a)++l) K=K (AI (z2Z (xs.map unI) L a)) (h.set id (strm L (a+1))++l) []:=(zqq hp xs hx hl hl2).app hid
theorem zfI (hp:posN 0 a) {xs:List PV} (hx:xs.all isI=true) (hl:0<xs.length) (hl2:xs.length<4611686018427387904) :
 z0c X z1p [.ref 0 0,.p (.sl none xs)] (strm L a::l) K=K (AI (z2Z (xs.map unI) L a)) (strm L (a+1)::l) []:=(zqq hp xs hx hl hl2).hd
def z1S (u v:Int) (L:List Int) (a:Int):Int:=u+z1D L a (v-u+1)
theorem z7c {u v:Int} (L:List Int) (a:Int) (h1:u≤v) (h2:v≤u+4611686018427387900):u≤z1S u v L a∧z1S u v L a≤v:=by
 have:=z2S L a (v-u+1) (by omega) (by omega)
 unfold z1S;omega
theorem zg9 (hp:posN 0 a) (u v:Int) (huv:u≤v) (hu : -1152921504606846976≤u) (hv:v≤1152921504606846976) :
 Gen z3n [AI u,AI v] L a (a+1) (AI (z1S u v L a)):=by
 refine Gen.of fun h id hid=>?_
 rw[c_q02u rfl]
 obtain⟨b1,b2⟩:=z7c L a huv (by omega)
 have w1:IntKind.i64.wrap (v-u)=v-u:=z0j _ (by omega) (by omega)
 have w2:IntKind.i64.wrap (v-u+1)=v-u+1:=z0j _ (by omega) (by omega)
 have w3:IntKind.i64.wrap (u+z1D L a (v-u+1))=z1S u v L a:=z0j (z1S u v L a) (by omega) (by omega)
 simp only[znC,go_sem,show ¬ v<u by omega,w1,w2,z2r hid hp,w3]
theorem zah (hid:id<h.length) (hp:posN 0 a) {u v:Int} (huv:u≤v) (hu : -1152921504606846976≤u) (hv:v≤1152921504606846976) :
 z0c X z3n [.ref id 0,AI u,AI v] (h.set id (strm L a)) K=K (AI (z1S u v L a)) (h.set id (strm L (a+1))) []:=(zg9 hp u v huv hu hv).set hid
theorem zag (hid:id<h.length) (hp:posN 0 a) {u v:Int} (huv:u≤v) (hu : -1152921504606846976≤u) (hv:v≤1152921504606846976) :
 z0c X z3n [.ref id 0,AI u,AI v] (h.set id (strm L a)++l) K=K (AI (z1S u v L a)) (h.set id (strm L (a+1))++l) []:=(zg9 hp u v huv hu hv).app hid
theorem zbN (hp:posN 0 a) {u v:Int} (huv:u≤v) (hu : -1152921504606846976≤u) (hv:v≤1152921504606846976) :
 z0c X z3n [.ref 0 0,AI u,AI v] (strm L a::l) K=K (AI (z1S u v L a)) (strm L (a+1)::l) []:=(zg9 hp u v huv hu hv).hd
end
attribute [go_sem ↓] z2r zbK zfH zbJ zbI zfG zbM zbL zfI zah zag zbN
attribute [go_sem] z2r zbK zfH zbJ zbI zfG zbM zbL zfI zah zag zbN isI unI
end Go.Am
end
section
/- Plain laws of fractions in lowest terms. -/
namespace Go.Am
end Go.Am
end
section
/- Small functions of numbers and of lists of numbers. -/
open Go
namespace Go.Am
variable {h:Heap} {K:Post}
theorem z8n (n a b:Int):z0c X z4h [AI n,AI a,AI b] h K=K (AB (decide (n<a)||decide (b<n))) h []:=by
 refine rule ?_
 rw[c_q009 rfl]
 by_cases h1:n<a <;> simp only[zn6,go_sem,h1]
theorem s_in (n a b:Int):z0c X z2O [AI n,AI a,AI b] h K=K (AB (decide (a≤n)&&decide (n≤b))) h []:=by
 refine rule ?_
 rw[c_q03i rfl]
 by_cases h1:a≤n <;> simp only[znJ,go_sem,h1]
end Go.Am
end
section
/- Functions of lists. -/
open Go
namespace Go.Am
variable {h:Heap} {K:Post}
end Go.Am
end
section
/- Values of a shape: loads and stores in rows. -/
open Go
namespace Go.Am
variable {h:Heap} {K:Post}
theorem zzb {sh:Sh} {x:PV} (hx:x.shp sh=true):cutP sh 0 x=some x:=by
 cases sh with
 | none=>exact zx9 hx
 | some n=>
  cases x with
  | agg cs=>
   simp only[PV.shp,Bool.and_eq_true,beq_iff_eq] at hx
   simp [cutP,hx.1]
   exact List.take_of_length_le (by omega)
  | _=>cases hx
theorem zsx {sh:Sh} {x y:PV} (hx:x.shp sh=true) (hy:y.shp sh=true) (id i fz:Nat) (xs:List PV) (h1:Heap):stE sh id i 0 fz sh xs x h1 (some y)=some (.und,h1.set id (.row sh (xs.set i x) fz),[]):=by
 cases sh with
 | none=>
  cases y with
  | agg cs=>cases hy
  | _=>simp only[PV.shp] at hx;simp [stE,hx]
 | some n=>
  cases y with
  | agg cs=>
   cases x with
   | agg ds=>
    simp only[PV.shp,Bool.and_eq_true,beq_iff_eq] at hx hy
    simp [stE,PV.cells,splice,hx.1,hy.1,show cs.drop n=[] from List.drop_of_length_le (by omega)]
   | _=>cases hx
  | _=>cases hy
def shps (sh:Sh) (xs:List PV):Prop:=∀ x∈xs,x.shp sh=true
theorem zvh {sh:Sh} {xs:List PV} (hx:shps sh xs) {i:Nat} (hi:i<xs.length):xs[i].shp sh=true:=hx _ (List.getElem_mem hi)
theorem zvg {h:Heap} {id:Nat} {o:Obj} (hh:h[id]?=some o):h.set id o=h:=by
 apply List.ext_getElem?
 intro i
 rw[List.getElem?_set]
 split
 ·rename_i e;subst e;rw[hh];simp [z6o hh]
 ·rfl
structure Shows (sh:Sh) (v:AV) (xs:List PV) (h:Heap):Prop where
 len:oLen v=some (AI xs.length)
 get:∀ (k:Nat) (hk:k<xs.length),∃ a,z0r sh v (AI k) h=some a∧z0e sh a h=some (.p xs[k])
theorem zcU {sh:Sh} {xs:List PV} (hs:shps sh xs):Shows sh (.p (.sl sh xs)) xs h:=by
 refine⟨rfl,fun k hk=>⟨.vp xs[k],?_,?_⟩⟩
 ·simp [z0r,z1k,hk]
 ·simp only[zrn,zzb (zvh hs hk)];rfl
end Go.Am
end
section
/- Strings: keys,the library's functions without text. -/
open Go
set_option linter.unusedSimpArgs false
namespace Go.Am
variable {h:Heap} {K:Post}
abbrev AS (s:List UInt8):AV:=.p (.str s)
theorem X_ext:X.ext=extF z0n z0K:=rfl
theorem ziM (s:List UInt8) (c:UInt8):z0c X z0n [AS s,.p (.int .u8 c.toNat)] h K=K (AI (idxB s c)) h []:=by
 have:=ztK (X:=X) (f:=z0n) (asv:=[AS s,.p (.int .u8 c.toNat)]) (vs:=[.str s,.int .u8 c.toNat]) (h:=h) (h1:=h) (r:=.int .i64 (idxB s c)) (K:=K) (by kernel_rfl) rfl rfl rfl ?_
 ·exact this
 ·rw[X_ext]
  unfold extF
  rw[show Nat.beq z0n z0n=true from by kernel_rfl]
  simp
theorem zaf (s:List UInt8) (c:UInt8):z0c X zbl [AS s,.p (.int .u8 c.toNat)] h K=K (AI (idxB s c)) h []:=by
 have key:∀ (h:Heap) (K:Post),z0c X z42 [AS s,.p (.int .u8 c.toNat)] h K=K (AI (idxB s c)) h []:=by
  intro h K
  refine rule ?_
  rw[zwt rfl]
  simp only[zhv,go_sem,ziM]
 refine rule ?_
 rw[c_q058 rfl]
 simp only[znT,go_sem,key]
theorem zuc (s:List UInt8) (c:UInt8):decide (idxB s c<0) = !s.contains c:=by
 unfold idxB
 rw[Bool.eq_iff_iff]
 by_cases hf:s.findIdx (· == c)<s.length
 ·rw[if_pos hf]
  have:=List.findIdx_getElem (w:=hf)
  simp only[beq_iff_eq] at this
  have hm:c∈s:=by rw[← this];exact List.getElem_mem hf
  simp [hm]
 ·rw[if_neg hf]
  have hm:¬ c∈s:=fun hm=>hf (List.findIdx_lt_length_of_exists ⟨c,hm,by simp⟩)
  simp [hm]
theorem zwL (s t:List UInt8) (hl:s.length≤1000000000):z0c X z7U [AS s,AS t] h K=K (AB (s.all fun c=>t.contains c)) h []:=by
 refine rule ?_
 rw[c_q03k rfl]
 simp only[zhC,go_sem]
 refine z0T (fun k:Nat=>⟨[(0,AS s),(1,AS t),(7,AI s.length),(8,AI k)],h,[]⟩) (fun k=>k≤s.length∧(s.take k).all (fun c=>t.contains c)=true) (fun k=>s.length-k) 0 rfl ⟨by omega,rfl⟩ ?_
 rintro k ⟨hk,hp⟩
 rcases Nat.lt_or_ge k s.length with hlt | hge
 ·have hg:s[k]?=some s[k]:=List.getElem?_eq_getElem hlt
  have w2:IntKind.i64.wrap ((k:Int)+1)=((k+1:Nat):Int):=z0j _ (by omega) (by omega)
  have hi:=zuc t s[k]
  by_cases hc:idxB t s[k]<0
  ·have:s.all (fun c=>t.contains c)=false:=by
    rw[List.all_eq_false]
    refine⟨_,List.getElem_mem hlt,?_⟩
    rw[decide_eq_true hc] at hi
    cases hq:t.contains s[k] with
    | true=>rw[hq] at hi;cases hi
    | false=>simp
   simp only[go_sem,hlt,hg,zaf,hc,this]
  ·rw[decide_eq_false hc] at hi
   have hq:t.contains s[k]=true:=by cases hq:t.contains s[k] with | true=>rfl | false=>rw[hq] at hi;cases hi
   simp only[go_sem,hlt,hg,zaf,hc,w2]
   exact⟨k+1,rfl,⟨by omega,by rw[List.take_succ_eq_append_getElem hlt,List.all_append,hp];simp only[List.all_cons,List.all_nil,hq];rfl⟩,by omega⟩
 ·have ek:k=s.length:=by omega
  subst ek
  rw[List.take_length] at hp
  simp only[go_sem,Nat.lt_irrefl,hp]
end Go.Am
end
section
/- Where a byte stands in a text. -/
open Go
set_option linter.all false
namespace Go.Am
variable {h:Heap} {K:Post}
theorem zcR (s:List UInt8) (c:UInt8):z0c X z42 [AS s,.p (.int .u8 c.toNat)] h K=K (AI (idxB s c)) h []:=by
 refine rule ?_
 rw[zwt rfl]
 simp only[zhv,go_sem,ziM]
theorem zqy (a b:List UInt8) (c:UInt8) (ha:c∉a):idxB (a++c::b) c=(a.length:Int):=by
 unfold idxB
 have h1:(a++c::b).findIdx (· == c)=a.length:=by
  rw[List.findIdx_append]
  have:a.findIdx (· == c)=a.length:=by
   rw[List.findIdx_eq_length]
   intro x hx
   simp
   intro e;subst e;exact ha hx
  rw[this,if_neg (by omega)]
  simp [List.findIdx_cons]
 rw[h1,if_pos (by simp)]
end Go.Am
end
section
/- Lengths of numbers in bits,and comparisons of plain values. -/
open Go
namespace Go.Am
variable {h:Heap} {K:Post}
set_option maxRecDepth 20000
theorem zsy {l:List Int}:shps none (l.map eI):=fun x hx=>by obtain⟨n,_,rfl⟩:=List.mem_map.1 hx;rfl
end Go.Am
end
section
/- Maps,asv lists of keys with values. -/
open Go
set_option linter.all false
namespace Go.Am
section
variable {α β:Type} [DecidableEq α]
def mesF (key:α→PV) (val:β→AV):Nat→List (α × β)→List ME
 | _,[]=>[]
 | n,e::r=>⟨key e.1,val e.2,n⟩::mesF key val (n+1) r
def mobj (key:α→PV) (val:β→AV) (l:List (α × β)):Obj:=.amap (mesF key val 0 l) l.length
def z1R (k:α):List (α × β)→Option Nat
 | []=>none
 | e::r=>if k=e.1 then some 0 else (z1R k r).map (· + 1)
def getM (k:α):List (α × β)→Option β
 | []=>none
 | e::r=>if k=e.1 then some e.2 else getM k r
def updM (k:α) (v:β):List (α × β)→List (α × β)
 | []=>[(k,v)]
 | e::r=>if k=e.1 then (k,v)::r else e::updM k v r
def KeyI (key:α→PV):Prop:=∀ a b,PV.eqv (key a) (key b)=some (decide (a=b))
theorem zc0:KeyI (fun n:Int=>PV.int .i64 n):=fun a b=>by simp [PV.eqv,PV.eq1]
theorem z9y {n:Int} {k:IntKind}:z5x (none,[0]) (.p (.int k n))=some (.int k n):=by simp [z5x,PV.key,PV.shp,PV.sc,PV.cells,PV.kind]
variable {key:α→PV} {val:β→AV}
theorem z92 (hk:KeyI key) (k:α):∀ (l:List (α × β)) (n:Nat),z24 (key k) (mesF key val n l)=some (z1R k l)
 | [],n=>rfl
 | e::r,n=>by
  simp only[mesF,z24,hk k e.1,z1R]
  by_cases h:k=e.1
  ·simp [h]
  ·simp [h,z92 hk k r (n+1)]
theorem zc3:∀ (l:List (α × β)) (n i:Nat),(mesF key val n l)[i]?=(l[i]?).map fun e=>⟨key e.1,val e.2,n+i⟩
 | [],n,i=>rfl
 | e::r,n,0=>rfl
 | e::r,n,i+1=>by simp only[mesF,List.getElem?_cons_succ,zc3 r (n+1) i];rw[show n+1+i=n+(i+1) by omega]
theorem zjg {k:α}:∀ {l:List (α × β)} {i:Nat},z1R k l=some i→i<l.length
 | [],i,h=>by cases h
 | e::r,i,h=>by
  unfold z1R at h
  split at h
  ·cases h;simp
  ·obtain⟨j,hj,e2⟩:=Option.map_eq_some_iff.1 h
   have:=zjg hj
   simp;omega
theorem zaq {k:α}:∀ {l:List (α × β)} {i:Nat},z1R k l=some i→l[i]?=(getM k l).map fun v=>(k,v)
 | [],i,h=>by cases h
 | e::r,i,h=>by
  unfold z1R at h
  unfold getM
  split at h
  ·rename_i hk;cases h;simp [hk]
  ·rename_i hk
   obtain⟨j,hj,e2⟩:=Option.map_eq_some_iff.1 h
   subst e2
   rw[if_neg hk,List.getElem?_cons_succ]
   exact zaq hj
theorem zbZ {k:α}:∀ {l:List (α × β)},z1R k l=none→getM k l=none
 | [],h=>rfl
 | e::r,h=>by
  unfold z1R at h
  unfold getM
  split at h
  ·cases h
  ·rename_i hk
   rw[if_neg hk]
   exact zbZ (by simpa using h)
theorem zca {k:α}:∀ {l:List (α × β)} {i:Nat},z1R k l=some i→(getM k l).isSome=true
 | [],i,h=>by cases h
 | e::r,i,h=>by
  unfold z1R at h
  unfold getM
  split at h
  ·rename_i hk;simp [hk]
  ·rename_i hk
   obtain⟨j,hj,e2⟩:=Option.map_eq_some_iff.1 h
   rw[if_neg hk]
   exact zca hj
theorem zun {k:α} {l:List (α × β)} {n:Nat}:((z1R k l).bind fun i=>(mesF key val n l)[i]?).map ME.val=(getM k l).map val:=by
 cases h:z1R k l with
 | none=>rw[zbZ h];rfl
 | some i=>
  simp only[Option.bind_some,zc3,zaq h]
  cases getM k l <;> rfl
theorem ziY {k:α} {v:β}:∀ {l:List (α × β)},z1R k l=none→updM k v l=l++[(k,v)]
 | [],h=>rfl
 | e::r,h=>by
  unfold z1R at h
  unfold updM
  split at h
  ·cases h
  ·rename_i hk
   rw[if_neg hk,ziY (by simpa using h)];rfl
theorem ziZ {k:α} {v:β}:∀ {l:List (α × β)} {i:Nat},z1R k l=some i→updM k v l=l.set i (k,v)
 | [],i,h=>by cases h
 | e::r,i,h=>by
  unfold z1R at h
  unfold updM
  split at h
  ·rename_i hk;cases h;simp [hk]
  ·rename_i hk
   obtain⟨j,hj,e2⟩:=Option.map_eq_some_iff.1 h
   subst e2
   rw[if_neg hk,ziZ hj];rfl
theorem zir (k:α) (v:β):∀ (l:List (α × β)) (n:Nat),mesF key val n (l++[(k,v)])=mesF key val n l++[⟨key k,val v,n+l.length⟩]
 | [],n=>rfl
 | e::r,n=>by simp only[List.cons_append,mesF,zir k v r (n+1),List.length_cons];rw[show n+1+r.length=n+(r.length+1) by omega]
theorem zka {k:α} {v:β} {l:List (α × β)} {i n:Nat} (h:z1R k l=some i):(mesF key val n l).modify i (fun e=>{ e with val:=val v })=mesF key val n (l.set i (k,v)):=by
 apply List.ext_getElem?
 intro j
 rw[List.getElem?_modify,zc3,zc3,List.getElem?_set]
 have hi:=zjg h
 have hg:=zaq h
 by_cases hij:i=j
 ·subst hij
  rw[hg]
  simp only[if_true,hi]
  obtain⟨w,hw⟩:=Option.isSome_iff_exists.1 (zca h)
  rw[hw];rfl
 ·simp [hij]
variable {h:Heap} {id:Nat} {l:List (α × β)} {kk:Sh × List Nat} {k:α}
theorem zis (hh:h[id]?=some (mobj key val l)):mget h (.mp id)=some (id,mesF key val 0 l,l.length):=by
 simp only[mget,hh,mobj]
theorem zip (hk:KeyI key) (hh:h[id]?=some (mobj key val l)) (hq:z5x kk (.p (key k))=some (key k)) {ok:Bool} {z:AV} :
 z8m kk ok z (.mp id) (.p (key k)) h=some (bif ok then .tup [((getM k l).map val).getD z,AV.p (.bool (getM k l).isSome)] else ((getM k l).map val).getD z):=by
 simp only[z8m,hq,zis hh,Option.map_some,z92 hk,zun,Option.isSome_map]
 rfl
theorem zuq (hk:KeyI key) (hh:h[id]?=some (mobj key val l)) (hq:z5x kk (.p (key k))=some (key k)) {v:β} (hv:okIn (val v)=true) :
 zc7 kk (.mp id) (.p (key k)) (val v) h=some (.und,h.set id (mobj key val (updM k v l)),z2J id (val v)):=by
 simp only[zc7,hq,zis hh,hv,z92 hk]
 cases hw:z1R k l with
 | none=>
  simp only[mobj,ziY hw,zir,List.length_append,List.length_cons,List.length_nil,Nat.zero_add]
 | some i=>
  simp only[mobj,ziZ hw,zka hw,List.length_set]
end
end Go.Am
end
section
/- Lists of strings sorted,left out: printed by program. -/
open Go
set_option linter.unusedSimpArgs false
namespace Go.Am
attribute [-go_sem] PV.cells splice
variable {h:Heap} {K:Post}
end Go.Am
end
section
/- Finding values in lists: printed by program. -/
open Go
set_option linter.unusedSimpArgs false
namespace Go.Am
attribute [-go_sem] PV.cells
variable {h:Heap} {K:Post}
end Go.Am
end
section
/- Limits: what they are,what is wrong with them. -/
open Go
namespace Go.Am
variable {h:Heap} {K:Post}
structure Lim where
 key:List UInt8
 lo:Int
 hi:Int
 bin:Int
def inB (a n b:Int):Bool:=decide (a≤n)&&decide (n≤b)
end Go.Am
end
section
/- What is wrong with limits,both ways: printed by program. -/
open Go
set_option linter.unusedSimpArgs false
namespace Go.Am
variable {h:Heap} {K:Post}
end Go.Am
end
section
/- Package lot on measured values,and what the reference says of them. -/
open Go
namespace Go.Am
variable {h:Heap} {K:Post}
end Go.Am
end
section
/- Records: what they are,what is wrong with them. -/
open Go
set_option linter.unusedSimpArgs false
namespace Go.Am
variable {h:Heap} {K:Post}
theorem zrQ {b:Nat} {P:Post} {vs:List AV} {h:Heap}:retK true b P (some vs) h []=P (z1l vs) (h.take (max b (z1l vs).top)) []:=by
 simp [retK,z2I,z19]
attribute [go_sem] zrQ
structure Rec where
 unit:List UInt8
 time:Int
 site:List UInt8
 res:List Int
def good (x:Lim) (n:Int):Bool:=inB x.lo n x.hi
def zxT (l:List Lim) (res:List Int):List Bool:=List.zipWith good l res
def zxO (l:List Lim) (res:List Int):Int:=if (zxT l res).findIdx (fun b=>!b)<(zxT l res).length then ((zxT l res).findIdx (fun b=>!b):Int) else -1
end Go.Am
end
section
/- What is drawn: numbers,measured values. -/
open Go
namespace Go.Am
variable {L:List Int} {a:Int}
theorem g_Odd (hp:posN 14 a) (u v:Int) (huv:u≤v) (hu : -1000000000000≤u) (hv:v≤1000000000000):∃ k a2:Int,a≤a2∧a2≤a+2 ∧ -1099511627776≤k∧k≤1099511627776 ∧
 Gen z7S [AI u,AI v] L a a2 (AI k):=by
 have w1:IntKind.i64.wrap (u-1)=u-1:=z0j _ (by omega) (by omega)
 have w2:IntKind.i64.wrap (v+1)=v+1:=z0j _ (by omega) (by omega)
 by_cases hf:z1D L a 12=0
 ·have hm:=z6Y (L:=L) (a:=a+1) (l:=[u-1,v+1,u,v,-1099511627776,1099511627776]) (by simp) (by simp)
  simp only[List.mem_cons,List.not_mem_nil,or_false] at hm
  refine⟨z2Z [u-1,v+1,u,v,-1099511627776,1099511627776] L (a+1),a+1+1,by omega,by omega,by omega,by omega,Gen.of fun h id hid=>?_⟩
  rw[zwu rfl]
  simp only[zh2,go_sem,hid,zi5 hp,hf,w1,w2]
 ·have hm:=z7c L (a+1) huv (by omega)
  refine⟨z1S u v L (a+1),a+1+1,by omega,by omega,by omega,by omega,Gen.of fun h id hid=>?_⟩
  rw[zwu rfl]
  simp only[zh2,go_sem,hid,zi5 hp,hf,w1,w2,huv,show -1152921504606846976≤u by omega,show v≤1152921504606846976 by omega]
end Go.Am
end
section
/- Strings that are drawn. -/
open Go
set_option linter.unusedSimpArgs false
namespace Go.Am
variable {L:List Int} {a:Int} {h l:Heap} {id:Nat} {K:Post}
def isS:PV→Bool
 | .str _=>true
 | _=>false
def unS:PV→List UInt8
 | .str s=>s
 | _=>[]
def z5z (l:List (List UInt8)) (L:List Int) (a:Int):List UInt8:=l.getD (z1D L a l.length).toNat []
theorem z6X {l:List (List UInt8)} {L:List Int} {a:Int} (hl:0<l.length) (hl2:l.length<4611686018427387904):z5z l L a∈l:=by
 obtain⟨b1,b2⟩:=z2S L a l.length (by omega) (by omega)
 unfold z5z
 have:(z1D L a l.length).toNat<l.length:=by omega
 simp only[List.getD,List.getElem?_eq_getElem this,Option.getD_some]
 exact List.getElem_mem _
theorem zz2 {xs:List PV} (h:xs.all isS=true):xs=(xs.map unS).map PV.str:=by
 induction xs with
 | nil=>rfl
 | cons x r ih=>
  simp only[List.all_cons,Bool.and_eq_true] at h
  simp only[List.map_cons]
  rw[← ih h.2]
  cases x <;> first | rfl | cases h.1
theorem zqr (hp:posN 0 a) (xs:List PV) (hx:xs.all isS=true) (hl:0<xs.length) (hl2:xs.length<4611686018427387904) :
 Gen z22 [.p (.sl none xs)] L a (a+1) (AS (z5z (xs.map unS) L a)):=by
 refine Gen.of fun h id hid=>?_
 rw[c_q02w rfl]
 obtain⟨b1,b2⟩:=z2S L a xs.length (by omega) (by omega)
 have e4:=z94 (k:=.i64) b1
 have e5:xs[(z1D L a xs.length).toNat]?=some (.str (z5z (xs.map unS) L a)):=by
  have hm:=zz2 hx
  generalize hq:xs.map unS=q at *
  subst hm
  simp only[List.length_map] at *
  rw[z1B PV.str (show (z1D L a q.length).toNat<q.length by omega)]
  simp [z5z,List.getD,show (z1D L a q.length).toNat<q.length by omega]
 simp only[znD,go_sem,z2r hid hp,e4,e5]
theorem zbQ (hid:id<h.length) (hp:posN 0 a) {xs:List PV} (hx:xs.all isS=true) (hl:0<xs.length) (hl2:xs.length<4611686018427387904) :
 z0c X z22 [.ref id 0,.p (.sl none xs)] (h.set id (strm L a)) K=K (AS (z5z (xs.map unS) L a)) (h.set id (strm L (a+1))) []:=(zqr hp xs hx hl hl2).set hid
theorem zbP (hid:id<h.length) (hp:posN 0 a) {xs:List PV} (hx:xs.all isS=true) (hl:0<xs.length) (hl2:xs.length<4611686018427387904) :
 z0c X z22 [.ref id 0,.p (.sl none xs)] (h.set id (strm L a)++l) K=K (AS (z5z (xs.map unS) L a)) (h.set id (strm L (a+1))++l) []:=(zqr hp xs hx hl hl2).app hid
theorem zfJ (hp:posN 0 a) {xs:List PV} (hx:xs.all isS=true) (hl:0<xs.length) (hl2:xs.length<4611686018427387904) :
 z0c X z22 [.ref 0 0,.p (.sl none xs)] (strm L a::l) K=K (AS (z5z (xs.map unS) L a)) (strm L (a+1)::l) []:=(zqr hp xs hx hl hl2).hd
attribute [go_sem ↓] zbQ zbP zfJ
attribute [go_sem] zbQ zbP zfJ isS unS
end Go.Am
end
section
/- What is drawn: strings,limits. -/
open Go
set_option linter.unusedSimpArgs false
namespace Go.Am
variable {L:List Int} {a:Int} {h l:Heap} {id:Nat} {K:Post}
end Go.Am
end
section
/- Records: what is wrong with them,both ways. -/
open Go
set_option linter.unusedSimpArgs false
namespace Go.Am
variable {h:Heap} {K:Post}
end Go.Am
end
section
/- Sorting records: printed by program. -/
open Go
set_option linter.unusedSimpArgs false
namespace Go.Am
attribute [-go_sem] PV.cells splice
variable {h:Heap} {K:Post}
end Go.Am
end
section
/- Leaving out what is alike: printed by program. -/
open Go
set_option linter.unusedSimpArgs false
namespace Go.Am
attribute [-go_sem] PV.cells splice
variable {h:Heap} {K:Post}
end Go.Am
end
section
/- What is drawn: records. -/
open Go
set_option linter.unusedSimpArgs false
namespace Go.Am
variable {L:List Int} {a:Int} {h l:Heap} {id:Nat} {K:Post}
end Go.Am
end
section
/- Merging two ordered lists: by sorting and leaving out what is alike,and by looking each one up. Plain lists. -/
namespace Go.Am
variable {α:Type}
structure Ordr (c:α→α→Int):Prop where
 neg:∀ a b,c b a = - c a b
 trans:∀ a b d,c a b≤0→c b d≤0→c a d≤0
theorem Ordr.refl {c:α→α→Int} (o:Ordr c) (a:α):c a a=0:=by have:=o.neg a a;omega
variable {c:α→α→Int} {q:α→α→Bool} {a b:List α}
end Go.Am
end
section
/- Records alike;copies;bins. -/
open Go
set_option linter.unusedSimpArgs false
namespace Go.Am
variable {h:Heap} {K:Post}
def zyW (a b:Rec):Bool:=decide (a.unit=b.unit)&&(decide (a.time=b.time)&&(decide (a.site=b.site)&&decide (a.res=b.res)))
theorem zsm (a b:Rec):zyW a b=true↔a=b:=by
 cases a;cases b
 simp [zyW]
end Go.Am
end
section
/- Sorting numbers: printed by program. -/
open Go
set_option linter.unusedSimpArgs false
namespace Go.Am
attribute [-go_sem] PV.cells splice
variable {h:Heap} {K:Post}
end Go.Am
end
section
/- Bins,both ways;lists joined;records sorted. -/
open Go
set_option linter.unusedSimpArgs false
namespace Go.Am
variable {h:Heap} {K:Post}
end Go.Am
end
section
/- Lists of records joined,compared,merged. -/
open Go
set_option linter.unusedSimpArgs false
namespace Go.Am
variable {h:Heap} {K:Post}
instance:DecidableEq Rec:=fun a b=>decidable_of_iff (zyW a b=true) (zsm a b)
end Go.Am
end
section
/- Records merged asv the reference does it. -/
open Go
set_option linter.unusedSimpArgs false
namespace Go.Am
variable {h:Heap} {K:Post}
end Go.Am
end
section
/- Retests: which record of a unit counts. Plain lists;both ways yield the same. -/
set_option linter.all false
namespace Go.Am
def badR (l:List Lim) (r:Rec):Bool:=decide (0≤zxO l r.res)
def rec0:Rec:=⟨[],0,[],[]⟩
def cntL (l:List Lim) (rule:Int) (f:List Rec):Rec:=
 if rule=1 then f.headD rec0 else if f.findIdx (fun x=>!badR l x)<f.length∧rule=3 then f.getD (f.findIdx fun x=>!badR l x) rec0 else f.getLastD rec0
end Go.Am
end
section
/- Lists of strings. -/
open Go
set_option linter.all false
namespace Go.Am
variable {h:Heap} {K:Post}
theorem zgq:X.ex2=libF GRL PRL:=rfl
abbrev AStr (us:List (List UInt8)):AV:=.p (.sl none (us.map PV.str))
theorem zvs {us:List (List UInt8)}:shps none (us.map PV.str):=fun x hx=>by obtain⟨n,_,rfl⟩:=List.mem_map.1 hx;rfl
end Go.Am
end
section
/- The abstract machine,part L4: strings.Repeat,strings.Trim,math/bits.TrailingZeros64 asv rows. -/
set_option linter.all false
namespace Go.Am
variable {P:Program} {gl:Nat→Option PV}
open Go.Shelf
theorem z3d {w w':World} (h:Go.RowKit.Below w.heap.size w w'):WExt w w':=⟨h.size,fun b hb=>h.block b hb,by unfold zed;rw[h.os,h.tape,h.output]⟩
theorem zrk (s:List UInt8):∀ c,Go.Lib.repeatL s c=repL s c
 | 0=>rfl
 | c+1=>by rw[Go.Lib.repeatL,repL,zrk s c]
theorem repeatRow {ρ:Ren} (L:Go.Proofs.Lays.n105 P ρ) (E:Go.Proofs.Builder.Extra P ρ) (he:∀ us w,(callFunc (ρ.f 105) us).run P w = .ok (.enter (ρ.f 105) us) w):PureRow P gl (ρ.f 105) z9Y where
 enter:=he
 run M w vs r us hc hb hG hl hr hs:=by
  unfold z9Y at hs
  split at hs
  ·rename_i s c
   split at hs
   ·rename_i hbd
    match us,hl with
    | [u,v],_=>
     have q:=hr 0 _ u rfl rfl
     cases q
     have q2:=hr 1 _ v rfl rfl
     cases q2
     simp only[Option.some.injEq] at hs
     subst hs
     obtain⟨n,rfl⟩:=Int.eq_ofNat_of_zero_le hbd.1
     have hsz:(⟨s.toArray⟩:ByteArray).size=s.length:=by simp [ByteArray.size]
     simp only[Int.toNat_natCast] at hbd ⊢
     refine (Go.Proofs.Any.strings_Repeat L E ⟨s.toArray⟩ n w (by omega) (by rw[hsz];omega)).mono fun e w' h=>?_
     obtain⟨rfl,h⟩:=h
     exact⟨_,rfl,z3d h,by rw[zrk];exact .p _ _ (.str _)⟩
   ·cases hs
  ·cases hs
theorem zul (s cs:List UInt8):Go.Lib.trimS s cs=zv2 s cs:=rfl
theorem trimRow {ρ:Ren} (L:Go.Proofs.Lays.n160 P ρ) (h116:(P.info? (ρ.t 116)).map (fun i=>(i.zero,i.size))=some (some (.agg (Array.replicate 256 (.bool false))),256)) (he:∀ us w,(callFunc (ρ.f 160) us).run P w = .ok (.enter (ρ.f 160) us) w):PureRow P gl (ρ.f 160) trimS where
 enter:=he
 run M w vs r us hc hb hG hl hr hs:=by
  unfold trimS at hs
  split at hs
  ·rename_i s cs
   split at hs
   ·rename_i hbd
    match us,hl with
    | [u,v],_=>
     have q:=hr 0 _ u rfl rfl
     cases q
     have q2:=hr 1 _ v rfl rfl
     cases q2
     simp only[Option.some.injEq] at hs
     subst hs
     have hsz:∀ l:List UInt8,(⟨l.toArray⟩:ByteArray).size=l.length:=fun l=>by simp [ByteArray.size]
     refine (Go.Proofs.Any.strings_Trim_laid L h116 ⟨s.toArray⟩ ⟨cs.toArray⟩ w (by rw[hsz];omega) (by rw[hsz];omega) (Go.Proofs.ascii_of_all hbd.2.2)).mono fun e w' h=>?_
     obtain⟨rfl,h⟩:=h
     exact⟨_,rfl,z3d h,by rw[← zul];exact .p _ _ (.str _)⟩
   ·cases hs
  ·cases hs
end Go.Am
end
section
/- The abstract machine,part L5: strings.Count at one byte,strings.Join asv rows. -/
set_option linter.all false
namespace Go.Am
variable {P:Program} {gl:Nat→Option PV}
open Go.Shelf
theorem countRow {ρ:Ren} (L:Go.Proofs.Lays.n138 P ρ) (he:∀ us w,(callFunc (ρ.f 138) us).run P w = .ok (.enter (ρ.f 138) us) w):PureRow P gl (ρ.f 138) zhm where
 enter:=he
 run M w vs r us hc hb hG hl hr hs:=by
  unfold zhm at hs
  split at hs
  ·rename_i s c
   match us,hl with
   | [u,v],_=>
    have q:=hr 0 _ u rfl rfl
    cases q
    have q2:=hr 1 _ v rfl rfl
    cases q2
    simp only[Option.some.injEq] at hs
    subst hs
    refine (Go.Proofs.Any.strings_Count_one L ⟨s.toArray⟩ c w).mono fun e w' h=>?_
    obtain⟨rfl,rfl⟩:=h
    exact⟨_,rfl,WExt.refl _,.p _ _ (.int _ _)⟩
  ·cases hs
theorem zql (l:List (List UInt8)):(l.map PV.str).flatMap PV.cells=l.map PV.str:=by
 induction l with
 | nil=>rfl
 | cons a r ih=>rw[List.map_cons,List.flatMap_cons,ih];rfl
theorem joinRow {ρ:Ren} (L:Go.Proofs.Lays.n156 P ρ) (E:Go.Proofs.Builder.Extra P ρ) (he:∀ us w,(callFunc (ρ.f 156) us).run P w = .ok (.enter (ρ.f 156) us) w):PureRow P gl (ρ.f 156) zq3 where
 enter:=he
 run M w vs r us hc hb hG hl hr hs:=by
  unfold zq3 at hs
  split at hs
  ·rename_i xs sep
   obtain⟨l,hlx,hs2⟩:=Option.bind_eq_some_iff.1 hs
   have hx:=zgc hlx
   subst hx
   split at hs2
   ·rename_i hbd
    simp only[Option.some.injEq] at hs2
    subst hs2
    match us,hl with
    | [u,v],_=>
     have q:=hr 0 _ u rfl rfl
     have q2:=hr 1 _ v rfl rfl
     cases q2
     have hmk:∀ x:List UInt8,(⟨x.toArray⟩:ByteArray).data.toList=x:=fun x=>rfl
     have key:∀ (bk o c:Nat),bk<w.heap.size→l.length≤c→(∀ (j:Nat) (x:List UInt8),l[j]?=some x→w.cell? ⟨bk,o+j,none⟩=some (.string ⟨x.toArray⟩)) →
      Calls P (ρ.f 156) #[.slice (some ⟨bk,o,none⟩) l.length c,.string ⟨sep.toArray⟩] w fun e w'=>∃ x,e = .returned x∧WExt w w'∧RAV (ExtM M w w') [] [] (.p (.str (sep.intercalate l))) x:=by
      intro bk o c h1 h2 h3
      have hm:(l.map fun x=>(⟨x.toArray⟩:ByteArray)).map (·.data.toList)=l:=by
       rw[List.map_map]
       conv=>rhs;rw[← List.map_id l]
       exact List.map_congr_left (fun x _=>rfl)
      have hJ:=Go.Proofs.Any.strings_Join L E bk o c (l.map fun x=>(⟨x.toArray⟩:ByteArray)) ⟨sep.toArray⟩ w (fun j x hx=>by
       rw[List.getElem?_map] at hx
       obtain⟨y,hy,rfl⟩:=Option.map_eq_some_iff.1 hx
       exact h3 j y hy) h1 (by simp;omega) (by simpa using h2) (by rw[hm];show (sep.intercalate l).length≤_;omega)
      rw[hm,List.length_map] at hJ
      refine hJ.mono fun e w' h=>?_
      obtain⟨rfl,h⟩:=h
      exact⟨_,rfl,z3d h,.p _ _ (.str _)⟩
     generalize hxs:l.map PV.str=xs at q hl hr
     cases q with
     | nils _ a cap=>
      have h0:l=[]:=List.map_eq_nil_iff.1 hxs
      subst h0
      refine (Go.Proofs.Any.strings_Join_none L E a cap ⟨sep.toArray⟩ w).mono fun e w' h=>?_
      obtain⟨rfl,rfl⟩:=h
      exact⟨_,rfl,WExt.refl _,.p _ _ (.str [])⟩
     | sl _ _ b o cap f hne hcap hshp hm hrr=>
      subst hxs
      rw[List.length_map] at hcap ⊢
      rw[zql] at hm hrr
      have hcell:∀ (j:Nat) (x:List UInt8),l[j]?=some x→w.cell? ⟨b,o+j,none⟩=some (.string ⟨x.toArray⟩):=by
       intro j x hx
       have hy:(l.map PV.str)[j]?=some (.str x):=by rw[List.getElem?_map,hx];rfl
       have h1:=hc _ _ _ (hm j _ hy)
       have h2:=hrr j _ hy
       generalize hf:f j=fj at h1 h2
       cases h2
       exact h1
      refine key b o cap ?_ hcap hcell
      cases l with
      | nil=>exact absurd rfl hne
      | cons a r=>exact Go.Am.cell_lt (hcell 0 a rfl)
   ·cases hs2
  ·cases hs
end Go.Am
end
section
/- Texts split at a byte. -/
open Go
set_option linter.all false
namespace Go.Am
variable {h:Heap} {K:Post}
theorem zyN (s:List UInt8) (c:UInt8):z0c X zhU [AS s,AS [c]] h K=K (AI (s.count c)) h []:=by
 refine z3U (X:=X) (by kernel_rfl) ?_
 rw[zgq]
 exact z3o (vs:=[.str s,.str [c]]) (by kernel_rfl) (s:=zhm) (by kernel_rfl) rfl rfl
theorem z77 (s:List UInt8) (c:UInt8) (hs:s.length≤1000000):z0c X z7Q [AS s,AS [c]] h K=K (AI (idxB s c)) h []:=by
 refine rule ?_
 rw[c_q01v rfl]
 have q:=fun h K=>zcR (h:=h) (K:=K) s c
 simp only[zhu,go_sem,↓q,q,List.length_cons,List.length_nil]
 split
 ·rename_i h1;subst h1;simp [idxB]
 ·trivial
theorem zuN (s:List UInt8) (c:UInt8) (hs:s.length≤1000000):z0c X zbk [AS s,AS [c]] h K=K (AI (idxB s c)) h []:=by
 refine rule ?_
 rw[c_q057 rfl]
 have q:=fun h K=>z77 (h:=h) (K:=K) s c hs
 simp only[znS,go_sem,↓q,q]
theorem zxV {s:List UInt8} {c:UInt8} (h:c∉s):idxB s c = -1:=by
 unfold idxB
 rw[if_neg]
 rw[List.findIdx_lt_length]
 rintro⟨x,hx,e⟩
 simp at e
 subst e
 exact h hx
theorem zza {α:Type} (a:List α) (x y:α) (b:List α):(a++x::b).set a.length y=a++y::b:=by simp
def z5N (c:UInt8) (s:List UInt8) (k:Nat):List PV:=((z0m c s).take k).map PV.str++List.replicate (s.count c+1-k) (.str [])
theorem zs1 (c:UInt8) (s:List UInt8) (k:Nat) (hk:k≤s.count c+1):(z5N c s k).length=s.count c+1:=by
 unfold z5N
 have:=z0O c s
 simp;omega
theorem zfY (c:UInt8) (s:List UInt8) (k:Nat) (hk:k<s.count c+1) (p:List UInt8) (hp:(z0m c s)[k]?=some p):(z5N c s k).set k (.str p)=z5N c s (k+1):=by
 have hl:=z0O c s
 have e:((z0m c s).take k).map PV.str=((z0m c s).take k).map PV.str:=rfl
 have el:(((z0m c s).take k).map PV.str).length=k:=by simp;omega
 unfold z5N
 rw[show s.count c+1-k=(s.count c+1-(k+1))+1 by omega,List.replicate_succ]
 conv=>lhs;arg 2;rw[← el]
 rw[zza,List.take_succ,hp]
 simp
theorem zfX (c:UInt8) (s:List UInt8) (k:Nat) (hk:k<s.count c+1):(z5N c s k)[k]?=some (.str []):=by
 have hl:=z0O c s
 unfold z5N
 rw[List.getElem?_append_right (by simp;omega)]
 rw[List.getElem?_replicate,if_pos (by simp;omega)]
theorem zs0 (c:UInt8) (s:List UInt8):z5N c s (s.count c+1)=(z0m c s).map PV.str:=by
 have hl:=z0O c s
 unfold z5N
 rw[List.take_of_length_le (by omega),Nat.sub_self]
 simp
attribute [-go_sem] z9l
theorem zkn (s:List UInt8) (c:UInt8) (hs:s.length≤1000000):z0c X zbm [AS s,AS [c],AI 0,AI (-1)] h K=K (AStr (z0m c s)) h []:=by
 refine rule ?_
 rw[c_q05h rfl]
 have ec:=fun h K=>zyN (h:=h) (K:=K) s c
 have hcl:s.count c≤s.length:=List.count_le_length
 have w1:IntKind.i64.wrap ((s.count c:Int)+1)=((s.count c+1:Nat):Int):=z0j _ (by omega) (by omega)
 simp only[zhJ,go_sem,↓ec,ec,w1]
 rw[z9l]
 have w2:IntKind.i64.wrap ((s.length:Int)+1)=((s.length+1:Nat):Int):=z0j _ (by omega) (by omega)
 have w3:min ((s.count c+1:Nat):Int) ((s.length+1:Nat):Int)=((s.count c+1:Nat):Int):=by omega
 have w4:IntKind.i64.wrap (((s.count c+1:Nat):Int)-1)=(s.count c:Int):=by rw[z0j _ (by omega) (by omega)];omega
 have hm:s.count c+1≤z0J:=by unfold z0J;omega
 simp only[z6b,go_sem,w2,w3,w4,hm]
 have row0:List.replicate (s.count c+1) (PV.str [])=z5N c s 0:=by simp [z5N]
 rw[row0]
 refine z0T (fun k:Nat=>⟨[(0,AS (z16 c k s)),(1,AS [c]),(2,AI 0),(3,AI (s.count c)),(9,.own h.length (s.count c+1) 0 (s.count c+1)),(10,AI k)],h++[.row none (z5N c s k) 0],[]⟩) (fun k=>k≤s.count c) (fun k=>s.count c-k) 0 rfl (by omega) ?_
 intro k hk
 obtain⟨r1,r2,r3⟩:=z3G c k s hk
 have hrl:=zs1 c s k (by omega)
 have hsl:=z0O c s
 rcases Nat.lt_or_ge k (s.count c) with hlt | hge
 ·obtain⟨a,b,hab,ha⟩:=zn4 (c:=c) (s:=z16 c k s) (List.count_pos_iff.1 (by omega))
  have hi:=fun h K=>zuN (h:=h) (K:=K) (z16 c k s) c (by omega)
  have hix:idxB (z16 c k s) c=(a.length:Int):=by rw[hab];exact zqy a b c ha
  rw[hix] at hi
  have hnext:z16 c (k+1) s=b:=by rw[z9Z,hab,zxL ha]
  have hrl2:(z16 c k s).length=a.length+(b.length+1):=by rw[hab];simp
  have g1:(z0m c s)[k]?=some a:=by
   have:=congrArg (fun l=>l[0]?) r1
   simp only[List.getElem?_drop,Nat.add_zero] at this
   rw[← this,hab,z5t ha]
   rfl
  have W1:win (z16 c k s) 0 a.length=a:=by rw[hab];unfold win;simp
  have W2:win (z16 c k s) (a.length+1) ((z16 c k s).length-(a.length+1))=b:=by
   rw[hab];unfold win
   rw[show a++c::b=(a++[c])++b by simp,List.drop_left' (by simp)]
   exact List.take_of_length_le (by simp;omega)
  have hp:¬ (a.length:Int)<0:=by omega
  have wa:IntKind.i64.wrap ((a.length:Int)+0)=(a.length:Int):=by rw[Int.add_zero];exact z0j _ (by omega) (by omega)
  have wb:IntKind.i64.wrap ((a.length:Int)+1)=((a.length+1:Nat):Int):=z0j _ (by omega) (by omega)
  have wk:IntKind.i64.wrap ((k:Int)+1)=((k+1:Nat):Int):=z0j _ (by omega) (by omega)
  have hlt':(k:Int)<(s.count c:Int):=by omega
  have hse:=zfY c s k (by omega) a g1
  have st:=fun h1=>zsx (sh:=none) (x:=.str a) (y:=.str []) rfl rfl h.length k 0 (z5N c s k) h1
  have c1:a.length≤(z16 c k s).length:=by omega
  have c2:a.length+1≤(z16 c k s).length:=by omega
  have c3:k<s.count c+1:=by omega
  simp only[go_sem,hlt',hi,↓hi,hp,wa,wb,wk,hrl,W1,W2,zfX c s k c3,st,hse,c1,c2,c3]
  exact⟨k+1,by rw[hnext],by omega,by omega⟩
 ·have hk':k=s.count c:=by omega
  have hlt':¬ (k:Int)<(s.count c:Int):=by omega
  have st:=fun h1=>zsx (sh:=none) (x:=.str (z16 c k s)) (y:=.str []) rfl rfl h.length k 0 (z5N c s k) h1
  have c3:k<s.count c+1:=by omega
  have wk:IntKind.i64.wrap ((k:Int)+1)=((k+1:Nat):Int):=z0j _ (by omega) (by omega)
  have g1:(z0m c s)[k]?=some (z16 c k s):=by
   have:=congrArg (fun l=>l[0]?) r1
   simp only[List.getElem?_drop,Nat.add_zero] at this
   rw[← this,z5O (List.count_eq_zero.1 (by omega))]
   rfl
  have hse:(z5N c s k).set k (.str (z16 c k s))=(z0m c s).map PV.str:=by
   rw[zfY c s k c3 _ g1,hk',zs0]
  have c4:k+1=s.count c+1:=by omega
  have hwin:win ((z0m c s).map PV.str) 0 (s.count c+1)=(z0m c s).map PV.str:=by unfold win;rw[List.drop_zero,List.take_of_length_le (by simp;omega)]
  have hml:((z0m c s).map PV.str).length=s.count c+1:=by simp [hsl]
  simp only[go_sem,hlt',hrl,zfX c s k c3,st,hse,c3,wk,hml,c4,hwin]
theorem zgN (s:List UInt8) (c:UInt8) (hs:s.length≤1000000):z0c X z57 [AS s,AS [c]] h K=K (AStr (z0m c s)) h []:=by
 refine rule ?_
 rw[c_q05c rfl]
 have q:=fun h K=>zkn (h:=h) (K:=K) s c hs
 simp only[znU,go_sem,↓q,q]
theorem zcP (s p:List UInt8) (hs:s.length≤1000000) (hp:p.length≤1000000):z0c X zaL [AS s,AS p] h K=K (AB (decide (s.take p.length=p))) h []:=by
 refine rule ?_
 rw[c_q01t rfl]
 by_cases h1:p.length≤s.length
 ·have h1':(p.length:Int)≤(s.length:Int):=by omega
  have W:win s 0 p.length=s.take p.length:=by unfold win;simp
  simp only[zhs,go_sem,h1',h1,W]
 ·have h1':¬ (p.length:Int)≤(s.length:Int):=by omega
  have e:decide (s.take p.length=p)=false:=by
   simp only[decide_eq_false_iff_not]
   intro e
   have:=congrArg List.length e
   simp at this
   omega
  simp only[zhs,go_sem,h1',h1,e]
theorem z8k (s p:List UInt8) (hs:s.length≤1000000) (hp:p.length≤1000000):z0c X z8b [AS s,AS p] h K=K (AS (if s.take p.length=p then s.drop p.length else s)) h []:=by
 refine rule ?_
 rw[c_q05e rfl]
 have key:∀ (h:Heap) (K:Post),z0c X zaN [AS s,AS p] h K=K (AS (if s.take p.length=p then s.drop p.length else s)) h []:=by
  intro h K
  refine rule ?_
  rw[c_q01x rfl]
  have q:=fun h K=>zcP (h:=h) (K:=K) s p hs hp
  by_cases e:s.take p.length=p
  ·have hl:p.length≤s.length:=by
    have:=congrArg List.length e
    simp at this
    omega
   have W:win s p.length (s.length-p.length)=s.drop p.length:=by unfold win;rw[List.take_of_length_le (by simp)]
   simp only[zhw,go_sem,↓q,q,e,decide_true,hl,W]
  ·simp only[zhw,go_sem,↓q,q,e,decide_false]
 simp only[znV,go_sem,↓key,key]
end Go.Am
end
section
/- Lines of a text. -/
open Go
set_option linter.all false
namespace Go.Am
variable {h:Heap} {K:Post}
theorem zcQ (s p:List UInt8) (hs:s.length≤1000000) (hp:p.length≤1000000):z0c X zaM [AS s,AS p] h K=K (AB (decide (p.length≤s.length∧s.drop (s.length-p.length)=p))) h []:=by
 refine rule ?_
 rw[c_q01u rfl]
 by_cases h1:p.length≤s.length
 ·have h1':(p.length:Int)≤(s.length:Int):=by omega
  have w:IntKind.i64.wrap ((s.length:Int)-(p.length:Int))=((s.length-p.length:Nat):Int):=by rw[z0j _ (by omega) (by omega)];omega
  have W:win s (s.length-p.length) (s.length-(s.length-p.length))=s.drop (s.length-p.length):=by unfold win;rw[List.take_of_length_le (by simp)]
  have h2:s.length-p.length≤s.length:=by omega
  simp only[zht,go_sem,h1',h1,w,W,h2]
 ·have h1':¬ (p.length:Int)≤(s.length:Int):=by omega
  simp only[zht,go_sem,h1',h1]
def z3m (s:List UInt8):Bool:=decide (s.getLast?=some 10)
def z3e (s:List UInt8):List UInt8:=if z3m s then s.dropLast else s
theorem zg7 (s:List UInt8):decide (([10]:List UInt8).length≤s.length∧s.drop (s.length-([10]:List UInt8).length)=[10])=z3m s:=by
 unfold z3m
 rw[decide_eq_decide]
 rcases List.eq_nil_or_concat s with rfl | ⟨r,x,rfl⟩
 ·simp
 ·simp
theorem zcL (s:List UInt8) (hs:s.length≤1000000):z0c X zbj [AS s,AS [10]] h K=K (.tup [AS (z3e s),AB (z3m s)]) h []:=by
 refine rule ?_
 rw[c_q055 rfl]
 have key:∀ (h:Heap) (K:Post),z0c X zaK [AS s,AS [10]] h K=K (.tup [AS (z3e s),AB (z3m s)]) h []:=by
  intro h K
  refine rule ?_
  rw[c_q01s rfl]
  have q:=fun h K=>zcQ (h:=h) (K:=K) s [10] hs (by simp)
  rw[zg7] at q
  cases e:z3m s with
  | false=>
   have eb:z3e s=s:=by unfold z3e;rw[e];rfl
   rw[e] at q
   simp only[zhr,go_sem,↓q,q,eb]
  | true=>
   have eb:z3e s=s.dropLast:=by unfold z3e;rw[e];rfl
   rw[e] at q
   have h1:1≤s.length:=by
    cases s with
    | nil=>simp [z3m] at e
    | cons a r=>simp
   have w:IntKind.i64.wrap ((s.length:Int)-1)=((s.length-1:Nat):Int):=by rw[z0j _ (by omega) (by omega)];omega
   have W:win s 0 (s.length-1)=s.dropLast:=by unfold win;rw[List.drop_zero,List.dropLast_eq_take]
   have h2:s.length-1≤s.length:=by omega
   simp only[zhr,go_sem,↓q,q,eb,List.length_cons,List.length_nil,w,W,h2]
 simp only[znR,go_sem,↓key,key]
def z1r (s:List UInt8):List (List UInt8):=if s=[] then [] else z0m 10 (z3e s)
def zfm (s:List UInt8):Bool:=decide (s=[])||z3m s
theorem zyP (s:List UInt8) (hs:s.length≤1000000):z0c X zaI [AS s] h K=K (.tup [AStr (z1r s),AB (zfm s)]) h []:=by
 refine rule ?_
 rw[c_q006 rfl]
 by_cases h0:s=[]
 ·subst h0
  simp only[zhp,go_sem]
  rfl
 ·have q:=fun h K=>zcL (h:=h) (K:=K) s hs
  have hb:(z3e s).length≤1000000:=by
   unfold z3e
   split
   ·simp;omega
   ·exact hs
  have q2:=fun h K=>zgN (h:=h) (K:=K) (z3e s) 10 hb
  have e1:z1r s=z0m 10 (z3e s):=by unfold z1r;rw[if_neg h0]
  have e2:zfm s=z3m s:=by unfold zfm;simp [h0]
  simp only[zhp,go_sem,h0,↓q,q,↓q2,q2,e1,e2]
end Go.Am
end
section
/- Numbers read. -/
open Go
set_option linter.all false
namespace Go.Am
variable {h:Heap} {K:Post}
theorem zsd {s:List UInt8} (h1:z0G s≠[]) (h2:(z0G s).length≤17) (h3:(z0G s).all digB=true):z0c X z9p [AS s] h K=K (.tup [AI (numV s),.nili]) h []:=by
 refine z3U (X:=X) (by kernel_rfl) ?_
 rw[zgq]
 exact z3o (vs:=[.str s]) (by kernel_rfl) (s:=zj4) rfl rfl (ztg h1 h2 h3)
theorem z91 {K':Ex→St→Prop} (s d:List UInt8) (hd:d.length≤1000000) (h1:d.all digB=false→K' .ret ⟨[(4,AI 0),(5,AB false)],h,[]⟩)
 (h2:d.all digB=true→K' (.exit 0) ⟨[(0,AS s),(6,AS d),(38,AI d.length),(39,AI d.length),(40,AB false)],h,[]⟩) :
 z0Z (z0c X) X.gl z25 K' [(0,AS s),(6,AS d),(38,AI d.length),(39,AI 0)] h []:=by
 refine z0T (fun k:Nat=>⟨[(0,AS s),(6,AS d),(38,AI d.length),(39,AI k)],h,[]⟩) (fun k=>k≤d.length∧(d.take k).all digB=true) (fun k=>d.length-k) 0 rfl ⟨by omega,by simp⟩ ?_
 rintro k ⟨hk,hp⟩
 rcases Nat.lt_or_ge k d.length with hlt | hge
 ·have hlt':(k:Int)<(d.length:Int):=by omega
  have hg:d[k]?=some d[k]:=List.getElem?_eq_getElem hlt
  have wk:IntKind.i64.wrap ((k:Int)+1)=((k+1:Nat):Int):=z0j _ (by omega) (by omega)
  have hnot:digB d[k]=false→d.all digB=false:=fun e=>by
   rw[← Bool.not_eq_true,List.all_eq_true]
   intro ha
   have:=ha d[k] (List.getElem_mem hlt)
   rw[e] at this
   cases this
  by_cases c1:d[k].toNat<48
  ·have c1':(d[k].toNat:Int)<48:=by omega
   have:=h1 (hnot (by simp [digB];omega))
   simp only[go_sem,hlt',hg,c1',this]
  ·have c1':¬ (d[k].toNat:Int)<48:=by omega
   by_cases c2:57<d[k].toNat
   ·have c2':(57:Int)<(d[k].toNat:Int):=by omega
    have:=h1 (hnot (by simp [digB];omega))
    simp only[go_sem,hlt',hg,c1',c2',this]
   ·have c2':¬ (57:Int)<(d[k].toNat:Int):=by omega
    simp only[go_sem,hlt',hg,c1',c2',wk]
    refine⟨k+1,rfl,⟨by omega,?_⟩,by omega⟩
    rw[List.take_succ,hg,List.all_append,hp]
    simp [digB]
    omega
 ·have hk':k=d.length:=by omega
  have hlt':¬ (k:Int)<(d.length:Int):=by omega
  have:=h2 (by rw[← hp,hk',List.take_length])
  subst hk'
  simp only[go_sem,Nat.lt_irrefl,decide_false,this]
attribute [-go_sem] z6f
theorem zsg (s:List UInt8) (dg:Nat) (hd:dg≤17) (hs:s.length≤1000000):z0c X zaJ [AS s,AI dg] h K=K (.tup [AI (if numF dg s then numV s else 0),AB (numF dg s)]) h []:=by
 refine rule ?_
 rw[c_q008 rfl]
 have q:=fun h K=>z8k (h:=h) (K:=K) s [45] hs (by simp)
 have eq:(if s.take ([45]:List UInt8).length=[45] then s.drop ([45]:List UInt8).length else s)=z0G s:=rfl
 rw[eq] at q
 obtain⟨d,hdd⟩:∃ d,z0G s=d:=⟨_,rfl⟩
 have hsl:d.length≤s.length:=by rw[← hdd];unfold z0G;split <;> simp
 have nF:numF dg s=(!d.isEmpty&&decide (d.length≤dg) && !(decide (d.head?=some 48)&&(decide (1<d.length)||decide (d.length<s.length)))&&d.all digB):=by unfold numF;rw[hdd]
 rw[hdd] at q
 by_cases h0:d=[]
 ·subst h0
  have e:numF dg s=false:=by rw[nF];rfl
  simp only[z5Z,go_sem,↓q,q,e]
 by_cases h1:dg<d.length
 ·have h1':(dg:Int)<(d.length:Int):=by omega
  have e:numF dg s=false:=by
   have a3:decide (d.length≤dg)=false:=by simpa using h1
   rw[nF,a3];simp
  simp only[z5Z,go_sem,↓q,q,e,h0,h1']
 have h1':¬ (dg:Int)<(d.length:Int):=by omega
 obtain⟨c,r,rfl⟩:∃ c r,d=c::r:=by cases d with | nil=>exact absurd rfl h0 | cons c r=>exact⟨c,r,rfl⟩
 have h1n:¬ dg<r.length+1:=h1
 have h1i:¬ (dg:Int)<((r.length+1:Nat):Int):=by omega
 have hl6:(c::r).length≤1000000:=by omega
 have fin:∀ (e:numF dg s=(c::r).all digB) (hb:(c::r).all digB=true) (h:Heap) (K:Post),z0c X z9p [AS s] h K=K (.tup [AI (numV s),.nili]) h []:=fun e hb h K=>zsd (by rw[hdd];simp) (by rw[hdd];omega) (by rw[hdd];exact hb)
 by_cases hc:c=48
 ·have hc':(c.toNat:Int)=48:=by subst hc;rfl
  by_cases h3:1<r.length+1
  ·have h3':(1:Int)<((r.length+1:Nat):Int):=by omega
   have e:numF dg s=false:=by
    have a1:decide (1<(c::r).length)=true:=by simpa using h3
    have a4:decide ((c::r).head?=some 48)=true:=by simp [hc]
    rw[nF,a1,a4];simp
   simp only[z5Z,go_sem,↓q,q,h0,h1',h1n,h1i,hc',h3',e]
  have h3':¬ (1:Int)<((r.length+1:Nat):Int):=by omega
  by_cases h4:r.length+1<s.length
  ·have h4':((r.length+1:Nat):Int)<(s.length:Int):=by omega
   have e:numF dg s=false:=by
    have a1:decide ((c::r).length<s.length)=true:=by simpa using h4
    have a4:decide ((c::r).head?=some 48)=true:=by simp [hc]
    rw[nF,a1,a4];simp
   simp only[z5Z,go_sem,↓q,q,h0,h1',h1n,h1i,hc',h3',h4',e]
  have h4':¬ ((r.length+1:Nat):Int)<(s.length:Int):=by omega
  have e:numF dg s=(c::r).all digB:=by
   rw[nF]
   have a1:decide (1<(c::r).length)=false:=by simpa using h3
   have a2:decide ((c::r).length<s.length)=false:=by simpa using h4
   have a3:decide ((c::r).length≤dg)=true:=by simpa using h1n
   rw[a1,a2,a3]
   simp
  simp only[z5Z,go_sem,↓q,q,h0,h1',h1n,h1i,hc',h3',h4']
  refine z91 s (c::r) hl6 (fun hb=>?_) (fun hb=>?_)
  ·rw[hb] at e
   simp only[go_sem,e]
  ·have ea:=fin e hb
   rw[hb] at e
   rw[z3O,z4b,z6f]
   simp only[z6a,go_sem,↓ea,ea,e]
 ·have hc':¬ (c.toNat:Int)=48:=by
   intro q
   apply hc
   apply UInt8.toNat_inj.1
   exact Int.ofNat_inj.1 q
  have e:numF dg s=(c::r).all digB:=by
   rw[nF]
   have a3:decide ((c::r).length≤dg)=true:=by simpa using h1n
   rw[a3]
   simp [hc]
  simp only[z5Z,go_sem,↓q,q,h0,h1',h1n,h1i,hc']
  refine z91 s (c::r) hl6 (fun hb=>?_) (fun hb=>?_)
  ·rw[hb] at e
   simp only[go_sem,e]
  ·have ea:=fin e hb
   rw[hb] at e
   rw[z3O,z4b,z6f]
   simp only[z6a,go_sem,↓ea,ea,e]
end Go.Am
end
section
/- Several numbers read. -/
open Go
set_option linter.all false
namespace Go.Am
variable {h:Heap} {K:Post}
end Go.Am
end
section
/- Numbers read,the reference's way. -/
open Go
set_option linter.all false
namespace Go.Am
variable {h:Heap} {K:Post}
set_option maxRecDepth 100000 in
theorem zfh (c:UInt8):([48,49,50,51,52,53,54,55,56,57]:List UInt8).contains c=digB c:=by
 have:∀ n:Fin 256,([48,49,50,51,52,53,54,55,56,57]:List UInt8).contains (UInt8.ofNat n.val)=digB (UInt8.ofNat n.val):=by decide
 simpa using this ⟨c.toNat,c.toNat_lt⟩
theorem zgL (n:Int) (h1 : -1000000000000000000≤n) (h2:n≤1000000000000000000):z0c X z8a [AI n] h K=K (AS (itoa n)) h []:=by
 refine z3U (X:=X) (by kernel_rfl) ?_
 rw[zgq]
 exact z3o (vs:=[.int .i64 n]) (by kernel_rfl) (s:=zq2) (by kernel_rfl) rfl (by
  unfold zq2
  have a1:decide (-9223372036854775808≤n)=true:=by simp;omega
  have a2:decide (n≤9223372036854775807)=true:=by simp;omega
  show (bif decide (-9223372036854775808≤n)&&decide (n≤9223372036854775807) then some (AV.p (PV.str (itoa n))) else none)=_
  rw[a1,a2]
  rfl)
theorem zoe:∀ (d:List UInt8) (acc n k:Nat),acc<10^k→digN acc d=some n→n<10^(k+d.length)
 | [],acc,n,k,ha,h=>by simp only[digN,Option.some.injEq] at h;subst h;simpa using ha
 | c::r,acc,n,k,ha,h=>by
  unfold digN at h
  split at h
  ·rename_i hc
   have:=zoe r (acc*10+(c.toNat-48)) n (k+1) (by rw[Nat.pow_succ];omega) h
   rw[List.length_cons,show k+(r.length+1)=k+1+r.length by omega]
   exact this
  ·cases h
theorem zy4 {s:List UInt8} (h2:(z0G s).length≤17) (h:(z0G s).all digB=true) : -1000000000000000000≤numV s∧numV s≤1000000000000000000:=by
 obtain⟨n,hn⟩:=z8s (z0G s) 0 h
 have b:=zoe _ 0 n 0 (by simp) hn
 have h18:10^(0+(z0G s).length)≤10^17:=Nat.pow_le_pow_right (by omega) (by omega)
 have e17:(10:Nat)^17=100000000000000000:=rfl
 unfold numV
 rw[hn]
 simp only[Option.getD_some]
 split <;> omega
theorem zsh (s:List UInt8) (dg:Nat) (hd:dg≤17) (hs:s.length≤1000000):z0c X zaX [AS s,AI dg] h K=K (.tup [AI (numR dg s),AB (numF dg s)]) h []:=by
 refine rule ?_
 rw[c_q037 rfl]
 have q:=fun h K=>z8k (h:=h) (K:=K) s [45] hs (by simp)
 have eq:(if s.take ([45]:List UInt8).length=[45] then s.drop ([45]:List UInt8).length else s)=z0G s:=rfl
 rw[eq] at q
 have hsl:(z0G s).length≤s.length:=by unfold z0G;split <;> simp
 have qo:=fun h K=>zwL (h:=h) (K:=K) (z0G s) [48,49,50,51,52,53,54,55,56,57] (by omega)
 have eo:((z0G s).all fun c=>([48,49,50,51,52,53,54,55,56,57]:List UInt8).contains c)=(z0G s).all digB:=by congr 1;funext c;exact zfh c
 rw[eo] at qo
 by_cases h0:z0G s=[]
 ·have e:numF dg s=false:=by unfold numF;rw[h0];rfl
  have e2:numR dg s=0:=by unfold numR;rw[if_neg (fun z=>z.1 h0)]
  rw[h0] at q
  simp only[zaE,go_sem,↓q,q,e,e2]
 by_cases h1:dg<(z0G s).length
 ·have h1':(dg:Int)<((z0G s).length:Int):=by omega
  have e:numF dg s=false:=by
   have a3:decide ((z0G s).length≤dg)=false:=by simpa using h1
   unfold numF;rw[a3];simp
  have e2:numR dg s=0:=by unfold numR;rw[if_neg (fun z=>by omega)]
  simp only[zaE,go_sem,↓q,q,e,e2,h0,h1',h1]
 have h1':¬ (dg:Int)<((z0G s).length:Int):=by omega
 cases ha:(z0G s).all digB with
 | false=>
  have e:numF dg s=false:=by unfold numF;rw[ha];simp
  have e2:numR dg s=0:=by unfold numR;rw[if_neg (fun z=>by rw[ha] at z;exact absurd z.2.2 (by simp))]
  rw[ha] at qo
  simp only[zaE,go_sem,↓q,q,↓qo,qo,e,e2,h0,h1',h1]
 | true=>
  have e2:numR dg s=numV s:=by unfold numR;rw[if_pos ⟨h0,by omega,ha⟩]
  have bd:=zy4 (s:=s) (by omega) ha
  have qa:=fun h K=>zsd (h:=h) (K:=K) (s:=s) h0 (by omega) ha
  have qi:=fun h K=>zgL (h:=h) (K:=K) (numV s) bd.1 bd.2
  have e:numF dg s=decide (itoa (numV s)=s):=by
   rw[zuf h0 ha]
   unfold numF
   have a3:decide ((z0G s).length≤dg)=true:=by simpa using h1
   have a4:(z0G s).isEmpty=false:=by cases hq:z0G s with | nil=>exact absurd hq h0 | cons _ _=>rfl
   rw[a3,a4,ha]
   simp
  rw[ha] at qo
  simp only[zaE,go_sem,↓q,q,↓qo,qo,↓qa,qa,↓qi,qi,e,e2,h0,h1',h1]
end Go.Am
end
section
/- Tests and faults: what is wrong with them,both ways. -/
open Go
set_option linter.all false
namespace Go.Am
variable {h:Heap} {K:Post}
theorem s_Trim (s cs:List UInt8) (hs:s.length≤1000000) (hc:cs.length≤1000) (ha:cs.all (fun b=>decide (b.toNat<128))=true):z0c X zhW [AS s,AS cs] h K=K (AS (zv2 s cs)) h []:=by
 refine z3U (X:=X) (by kernel_rfl) ?_
 rw[zgq]
 exact z3o (vs:=[.str s,.str cs]) (by kernel_rfl) (s:=trimS) (by kernel_rfl) rfl (by simp only[trimS];rw[if_pos ⟨hs,hc,ha⟩])
theorem zcJ (s:List UInt8) (hs:s.length≤1000000):z0c X z4g [AS s] h K=K (AB (z0V s)) h []:=by
 refine rule ?_
 rw[c_q000 rfl]
 have e:=fun h K=>s_Trim (h:=h) (K:=K) s [48,49] hs (by simp) (by decide)
 have b:decide (zv2 s [48,49]=[])=z0V s:=zsA s
 simp only[zn5,go_sem,e,b]
theorem zcK (s:List UInt8) (hs:s.length≤1000000):z0c X z4j [AS s] h K=K (AB (z0V s)) h []:=by
 refine rule ?_
 rw[c_q031 rfl]
 have e:=fun h K=>zwL (h:=h) (K:=K) s [48,49] (by omega)
 have b:(s.all fun c=>[48,49].contains c)=z0V s:=rfl
 simp only[znF,go_sem,e,b]
end Go.Am
end
section
/- Faults: what is wrong with them,both ways. -/
open Go
set_option linter.all false
namespace Go.Am
variable {h:Heap} {K:Post}
theorem zv7 {v:AV} (l:List Int) (hv:Shows none v (l.map eI) h) (x:Int) (hl:l.length≤1000000):z0c X z7Z [v,AI x] h K=K (AI (if l.findIdx (fun y=>decide (y=x))<l.length then (l.findIdx (fun y=>decide (y=x)):Int) else -1)) h []:=by
 refine rule ?_
 rw[c_q044]
 have vl:=hv.len
 rw[List.length_map] at vl
 simp only[zhE,go_sem,vl]
 refine z0T (fun k:Nat=>⟨[(0,v),(1,AI x),(7,AI l.length),(8,AI k)],h,[]⟩) (fun k=>k≤l.length∧∀ y∈l.take k,decide (y=x)=false) (fun k=>l.length-k) 0 rfl (by simp) ?_
 rintro k ⟨hk,hn⟩
 rcases Nat.lt_or_ge k l.length with hlt | hge
 ·obtain⟨a,ha,hb⟩:=hv.get k (by simpa using hlt)
  rw[List.getElem_map] at hb
  have w2:IntKind.i64.wrap ((k:Int)+1)=((k+1:Nat):Int):=z0j _ (by omega) (by omega)
  by_cases hpk:x=l[k]
  ·have hf:l.findIdx (fun y=>decide (y=x))=k:=by
    rw[List.findIdx_eq hlt]
    refine⟨by simp [hpk],fun j hj=>?_⟩
    have:=hn l[j] (by rw[List.mem_take_iff_getElem];exact⟨j,by omega,rfl⟩)
    simpa using this
   simp only[go_sem,hlt,ha,hb,hpk.symm,w2]
   simp only[hf,hlt,if_true]
  ·simp only[go_sem,hlt,ha,hb,hpk,w2]
   refine⟨k+1,rfl,⟨by omega,fun y hy=>?_⟩,by omega⟩
   rw[List.take_succ_eq_append_getElem hlt,List.mem_append,List.mem_singleton] at hy
   rcases hy with hy | hy
   ·exact hn y hy
   ·rw[hy];simp;exact fun e=>hpk e.symm
 ·have e1:k=l.length:=by omega
  subst e1
  simp only[go_sem,Nat.lt_irrefl]
  rw[List.take_length] at hn
  have:¬ l.findIdx (fun y=>decide (y=x))<l.length:=by
   rw[Nat.not_lt,Nat.le_iff_lt_or_eq];right
   exact (List.findIdx_eq_length.2 (fun y hy=>by simp [hn y hy])).symm
  rw[if_neg this]
theorem zkR {v:AV} (l:List Int) (hv:∀ h':Heap,h'=h→Shows none v (l.map eI) h') (x:Int) (hl:l.length≤1000000):z0c X z7X [v,AI x] h K=K (AB (l.contains x)) h []:=by
 refine rule ?_
 rw[c_q03x]
 have e:=fun K=>zv7 (h:=h) (K:=K) l (hv h rfl) x hl
 have hd:decide (0≤(if l.findIdx (fun y=>decide (y=x))<l.length then (l.findIdx (fun y=>decide (y=x)):Int) else -1))=l.contains x:=by
  rw[Bool.eq_iff_iff,decide_eq_true_eq,List.contains_iff_mem]
  constructor
  ·intro hq
   split at hq
   ·rename_i hlt
    have:=List.findIdx_getElem (w:=hlt)
    simp only[decide_eq_true_eq] at this
    exact this ▸ List.getElem_mem hlt
   ·omega
  ·intro hm
   rw[if_pos (List.findIdx_lt_length_of_exists ⟨x,hm,by simp⟩)];omega
 simp only[znN,go_sem,e,hd]
theorem zgK (l:List Int) (x:Int) (hl:l.length≤1000000):z0c X z7X [AL l,AI x] h K=K (AB (l.contains x)) h []:=zkR l (fun h' _=>zcU zsy) x hl
end Go.Am
end
section
/- Where a string stands among strings;words. -/
open Go
set_option linter.all false
namespace Go.Am
variable {h:Heap} {K:Post}
theorem zlo {v:AV} (l:List (List UInt8)) (hv:Shows none v (l.map PV.str) h) (x:List UInt8) (hl:l.length≤1000000):z0c X z44 [v,AS x] h K=K (AI (if l.findIdx (fun y=>decide (y=x))<l.length then (l.findIdx (fun y=>decide (y=x)):Int) else -1)) h []:=by
 refine rule ?_
 rw[c_q045]
 have vl:=hv.len
 rw[List.length_map] at vl
 simp only[zhF,go_sem,vl]
 refine z0T (fun k:Nat=>⟨[(0,v),(1,AS x),(7,AI l.length),(8,AI k)],h,[]⟩) (fun k=>k≤l.length∧∀ y∈l.take k,decide (y=x)=false) (fun k=>l.length-k) 0 rfl (by simp) ?_
 rintro k ⟨hk,hn⟩
 rcases Nat.lt_or_ge k l.length with hlt | hge
 ·obtain⟨a,ha,hb⟩:=hv.get k (by simpa using hlt)
  rw[List.getElem_map] at hb
  have w2:IntKind.i64.wrap ((k:Int)+1)=((k+1:Nat):Int):=z0j _ (by omega) (by omega)
  by_cases hpk:x=l[k]
  ·have hf:l.findIdx (fun y=>decide (y=x))=k:=by
    rw[List.findIdx_eq hlt]
    refine⟨by simp [hpk],fun j hj=>?_⟩
    have:=hn l[j] (by rw[List.mem_take_iff_getElem];exact⟨j,by omega,rfl⟩)
    simpa using this
   simp only[go_sem,hlt,ha,hb,hpk.symm,w2]
   simp only[hf,hlt,if_true]
  ·simp only[go_sem,hlt,ha,hb,hpk,w2]
   refine⟨k+1,rfl,⟨by omega,fun y hy=>?_⟩,by omega⟩
   rw[List.take_succ_eq_append_getElem hlt,List.mem_append,List.mem_singleton] at hy
   rcases hy with hy | hy
   ·exact hn y hy
   ·rw[hy];simp;exact fun e=>hpk e.symm
 ·have e1:k=l.length:=by omega
  subst e1
  simp only[go_sem,Nat.lt_irrefl]
  rw[List.take_length] at hn
  have:¬ l.findIdx (fun y=>decide (y=x))<l.length:=by
   rw[Nat.not_lt,Nat.le_iff_lt_or_eq];right
   exact (List.findIdx_eq_length.2 (fun y hy=>by simp [hn y hy])).symm
  rw[if_neg this]
theorem zdf {v:AV} (l:List (List UInt8)) (hv:∀ h':Heap,h'=h→Shows none v (l.map PV.str) h') (x:List UInt8) (hl:l.length≤1000000):z0c X z7Y [v,AS x] h K=K (AB (l.contains x)) h []:=by
 refine rule ?_
 rw[c_q03y]
 have e:=fun K=>zlo (h:=h) (K:=K) l (hv h rfl) x hl
 have hd:decide (0≤(if l.findIdx (fun y=>decide (y=x))<l.length then (l.findIdx (fun y=>decide (y=x)):Int) else -1))=l.contains x:=by
  rw[Bool.eq_iff_iff,decide_eq_true_eq,List.contains_iff_mem]
  constructor
  ·intro hq
   split at hq
   ·rename_i hlt
    have:=List.findIdx_getElem (w:=hlt)
    simp only[decide_eq_true_eq] at this
    exact this ▸ List.getElem_mem hlt
   ·omega
  ·intro hm
   rw[if_pos (List.findIdx_lt_length_of_exists ⟨x,hm,by simp⟩)];omega
 simp only[znO,go_sem,e,hd]
theorem strS (ws:List (List UInt8)) {h:Heap}:Shows none (AStr ws) (ws.map PV.str) h:=zcU zvs
theorem z1X {c:UInt8}:∀ {s p:List UInt8},p∈z0m c s→p.length≤s.length
 | [],p,h=>by simp [z0m] at h;subst h;simp
 | b::r,p,h=>by
  rw[z0m.eq_2] at h
  split at h
  ·rcases List.mem_cons.1 h with rfl | h
   ·simp
   ·have:=z1X h;simp;omega
  ·split at h
   ·rename_i hq;exact absurd hq (z4W c r)
   ·rename_i p0 q hq
    rcases List.mem_cons.1 h with rfl | h
    ·have:=z1X (s:=r) (p:=p0) (by rw[hq];simp);simp;omega
    ·have:=z1X (s:=r) (p:=p) (by rw[hq];simp [h]);simp;omega
theorem zuR (s:List UInt8) (hs:s.length≤900000):z0c X zaZ [AS s] h K=K (.tup [AStr (z0m 32 s),AB (zwQ s)]) h []:=by
 refine rule ?_
 rw[c_q03c rfl]
 have q:=fun h K=>zgN (h:=h) (K:=K) s 32 (by omega)
 have hl:(z0m 32 s).length≤1000000:=by
  rw[z0O]
  have:s.count 32≤s.length:=List.count_le_length
  omega
 have q2:=fun h K=>zdf (h:=h) (K:=K) (z0m 32 s) (fun h' _=>strS _) [] hl
 simp only[znH,go_sem,↓q,q,↓q2,q2]
 rfl
end Go.Am
end
section
/- Numbers written,joined. -/
open Go
set_option linter.all false
namespace Go.Am
variable {h:Heap} {K:Post}
theorem zug {l:List (List UInt8)} {sep:List UInt8} (h1:l.length≤1000000) (h2:(sep.intercalate l).length≤1000000000):zq3 [.sl none (l.map PV.str),.str sep]=some (AS (sep.intercalate l)):=by
 show (z2X (l.map PV.str)).bind _=_
 rw[zky,Option.bind_some,if_pos ⟨h1,h2⟩]
theorem zsf (l:List (List UInt8)) (sep:List UInt8) {id:Nat} (hh:h[id]?=some (.row none (l.map PV.str) 0)) (h1:l.length≤1000000) (h2:(sep.intercalate l).length≤1000000000):z0c X zhV [.own id l.length 0 l.length,AS sep] h K=K (AS (sep.intercalate l)) (frz h id l.length) []:=by
 refine z3U (X:=X) (by kernel_rfl) ?_
 rw[zgq]
 have hrd:rd h (.own id l.length 0 l.length)=some (none,l.map PV.str):=by
  simp only[rd,hh,List.length_map,Nat.zero_add,Nat.le_refl,and_self,if_true]
  unfold win
  rw[List.drop_zero,List.take_of_length_le (by simp)]
 exact zui (vs:=[.sl none (l.map PV.str),.str sep]) (asv':=[AStr l,AS sep]) (by kernel_rfl) (s:=zq3) (by kernel_rfl) rfl (by
  simp only[z0p,hrd,Nat.zero_add,Option.map_some,pur]) rfl (zug h1 h2)
attribute [-go_sem] z9k
theorem zkl (l:List Int) (hb:∀ n∈l,-1000000000000000000≤n∧n≤1000000000000000000) (hl:l.length≤1000000) (h2:(zrx l).length≤1000000000):z0c X zaY [AL l] h K=K (AS (zrx l)) h []:=by
 refine rule ?_
 rw[c_q038 rfl]
 simp only[zh9,go_sem]
 refine z0T (fun k:Nat=>⟨[(3,.own h.length k 0 k),(6,AL l),(7,AI l.length),(8,AI k)],h++[.row none ((l.take k).map fun n=>PV.str (itoa n)) 0],[]⟩) (fun k=>k≤l.length) (fun k=>l.length-k) 0 (by simp) (by omega) ?_
 intro k hk
 have hrl:((l.take k).map fun n=>PV.str (itoa n)).length=k:=by simp;omega
 rcases Nat.lt_or_ge k l.length with hlt | hge
 ·have hg:=z1B eI hlt
  have cz:cutP none 0 (eI l[k])=some (eI l[k]):=rfl
  have wk:IntKind.i64.wrap ((k:Int)+1)=((k+1:Nat):Int):=z0j _ (by omega) (by omega)
  have b:=hb _ (List.getElem_mem hlt)
  have q:=fun h K=>zgL (h:=h) (K:=K) l[k] b.1 b.2
  have hm:k+1≤z0J:=by unfold z0J;omega
  simp only[go_sem,hlt,hg,cz,↓q,q,hrl,hm,wk]
  refine⟨k+1,?_,by omega,by omega⟩
  rw[List.take_succ,List.getElem?_eq_getElem hlt,List.map_append]
  rfl
 ·have hk':k=l.length:=by omega
  subst hk'
  rw[List.take_length] at hrl
  rw[List.take_length]
  have em:(l.map fun n=>PV.str (itoa n))=(l.map itoa).map PV.str:=by rw[List.map_map];rfl
  have lm:(l.map itoa).length=l.length:=by simp
  have hh:(h++[Obj.row none ((l.map itoa).map PV.str) 0])[h.length]?=some (.row none ((l.map itoa).map PV.str) 0):=by simp
  have qj:=fun K=>zsf (K:=K) (l.map itoa) [32] hh (by rw[lm];exact hl) h2
  rw[lm] at qj
  simp only[go_sem,Nat.lt_irrefl,decide_false,hrl]
  rw[z9k,em]
  simp only[z8W,go_sem,↓qj,qj]
  rfl
end Go.Am
end
