/- Texts of the proof, laid together: CodesB, CodesC. -/
import Derived.KernelRfl
import Derived.Test.YthlhdniejglcnaaGreatDoorlawPS4
set_option linter.all false
section
/- The functions asv abstract code,and asv formulas over their values: printed by program out of the translation. -/
set_option linter.all false
set_option maxRecDepth 100000
namespace Go.Am
def dL:ACode:=.pr [2,11,12,50,51,52] (.seq (rg [bN 53 .lss 52 51] [2,11,12,50,51,52,53])
(.seq (.cond 53 .skip
(.exit 0))
(.seq (.block 1 (.seq (rg [iA 54 none 50 52,
lD 55 none 54,
mV 14 55] [2,11,12,14,50,51,52])
(rg [mV 56 12,
mV 57 14,
mV 58 11,
mV 59 14,
uO 60 (.look (none,[0]) false (.p (.str [])) 58 59),
uO 61 (.build [.p (.int .i64 0),.p (.int .i64 0),.p (.int .i64 0),.p (.str []),.p (.str []),.p (.str [])] [(0,1,57),(3,1,60)]),
uO 62 (.bsl false (some 6) 1 (.agg [.int .i64 0,.int .i64 0,.int .i64 0,.str [],.str [],.str []]) [(0,61)]),
uO 63 (.app (some 6) 56 62),
mV 12 63] [2,11,12,50,51,52])))
(rg [bN 64 .add 52 (cI 1),
mV 52 64] [2,11,12,50,51,52]))))
def wM (C:Hd)(gl:GL)(e:En)(h:aA)(x:Esc)(K:KT):Sf C gl dL e h x K:=⟨_,by simp only[dL,↓wZ,AO.still];rfl⟩
theorem XW {C gl e h x K}:NW C gl dL ⟨e,h,x⟩ K=(wM C gl e h x K).1:=(wM C gl e h x K).2
theorem zfh {C gl e h x K}:NW C gl (.loop (.scope dL)) ⟨e,h,x⟩ K=ZA C gl (.scope dL) K [(2,kA e 2),(11,kA e 11),(12,kA e 12),(50,kA e 50),(51,kA e 51),(52,kA e 52)] h x:=WC
def zS:ACode:=.pr [11,12,16,65,66,67,84] (.cond 84 (rg [fA 87 3 none 16,
lD 88 none 87,
mV 89 11,
fA 90 0 none 16,
lD 91 none 90,
uO 92 (.look (none,[0]) false (.p (.str [])) 89 91),
bN 93 .add 88 92,
fA 94 3 none 16,
wO (.store none 94 93)] [11,12,16,65,66,67])
.skip)
def HJ (C:Hd)(gl:GL)(e:En)(h:aA)(x:Esc)(K:KT):Sf C gl zS e h x K:=⟨_,by simp only[zS,↓wZ,AO.still];rfl⟩
theorem MQ {C gl e h x K}:NW C gl zS ⟨e,h,x⟩ K=(HJ C gl e h x K).1:=(HJ C gl e h x K).2
def BS:ACode:=.pr [11,12,16,65,66,67,72,73] (.cond 73 (rg [mV 76 11,
fA 77 0 none 16,
lD 78 none 77,
uO 79 (.look (none,[0]) false (.p (.str [])) 76 78),
fA 80 3 none 16,
lD 81 none 80,
bN 82 .add 79 81,
fA 83 3 none 16,
wO (.store none 83 82)] [11,12,16,65,66,67])
(.seq (.seq (rg [bN 85 .eql 72 (cI 4),
mV 84 85] [11,12,16,65,66,67,72,84])
(.cond 84 .skip
(rg [bN 86 .eql 72 (cI 6),
mV 84 86] [11,12,16,65,66,67,84])))
zS))
def UG (C:Hd)(gl:GL)(e:En)(h:aA)(x:Esc)(K:KT):Sf C gl BS e h x K:=⟨_,by simp only[BS,↓wZ,AO.still];rfl⟩
theorem LJ {C gl e h x K}:NW C gl BS ⟨e,h,x⟩ K=(UG C gl e h x K).1:=(UG C gl e h x K).2
def CS:ACode:=.pr [11,12,16,65,66,67] (rg [mV 95 12,
lD 96 (some 6) 16,
uO 97 (.bsl false (some 6) 1 (.agg [.int .i64 0,.int .i64 0,.int .i64 0,.str [],.str [],.str []]) [(0,96)]),
uO 98 (.app (some 6) 95 97),
mV 12 98] [11,12,65,66,67])
def VG (C:Hd)(gl:GL)(e:En)(h:aA)(x:Esc)(K:KT):Sf C gl CS e h x K:=⟨_,by simp only[CS,↓wZ,AO.still];rfl⟩
theorem MJ {C gl e h x K}:NW C gl CS ⟨e,h,x⟩ K=(VG C gl e h x K).1:=(VG C gl e h x K).2
def DS:ACode:=.pr [11,12,65,66,67] (rg [bN 99 .add 67 (cI 1),
mV 67 99] [11,12,65,66,67])
def WG (C:Hd)(gl:GL)(e:En)(h:aA)(x:Esc)(K:KT):Sf C gl DS e h x K:=⟨_,by simp only[DS,↓wZ,AO.still];rfl⟩
theorem NJ {C gl e h x K}:NW C gl DS ⟨e,h,x⟩ K=(WG C gl e h x K).1:=(WG C gl e h x K).2
def fL:ACode:=.pr [11,12,65,66,67] (.seq (rg [bN 68 .lss 67 66] [11,12,65,66,67,68])
(.seq (.cond 68 .skip
(.exit 2))
(.seq (.block 3 (.seq (rg [iA 69 (some 6) 65 67,
lD 70 (some 6) 69,
uO 16 (.alloc [.p (.int .i64 0),.p (.int .i64 0),.p (.int .i64 0),.p (.str []),.p (.str []),.p (.str [])]),
wO (.store (some 6) 16 70)] [11,12,16,65,66,67])
(.seq (.seq (rg [fA 71 0 none 16,
lD 72 none 71] [11,12,16,65,66,67,72])
(.block 4 (.seq (.seq (rg [bN 74 .eql 72 (cI 3),
mV 73 74] [11,12,16,65,66,67,72,73])
(.cond 73 .skip
(rg [bN 75 .eql 72 (cI 5),
mV 73 75] [11,12,16,65,66,67,72,73])))
BS)))
CS)))
DS)))
def KF (C:Hd)(gl:GL)(e:En)(h:aA)(x:Esc)(K:KT):Sf C gl fL e h x K:=⟨_,by simp only[fL,↓wZ,AO.still];rfl⟩
theorem aH {C gl e h x K}:NW C gl fL ⟨e,h,x⟩ K=(KF C gl e h x K).1:=(KF C gl e h x K).2
theorem zfi {C gl e h x K}:NW C gl (.loop (.scope fL)) ⟨e,h,x⟩ K=ZA C gl (.scope fL) K [(11,kA e 11),(12,kA e 12),(65,kA e 65),(66,kA e 66),(67,kA e 67)] h x:=WC
def ES:ACode:=.pr [12] (.seq (.seq (rg [mV 100 12,
cL 101 sG [100],
mV 17 101] [12,17])
(.seq (rg [mV 102 17,
bN 103 .neq 102 (cI 0)] [12,17,103])
(.cond 103 (.seq (rg [mV 104 17,
mV 6 (.c (.p (.sl (some 6) []))),
mV 7 104] [6,7])
.ret)
.skip)))
(.seq (rg [mV 105 12,
mV 6 105,
mV 7 (cI 0)] [6,7])
.ret))
def xM (C:Hd)(gl:GL)(e:En)(h:aA)(x:Esc)(K:KT):Sf C gl ES e h x K:=⟨_,by simp only[ES,↓wZ,AO.still];rfl⟩
theorem YW {C gl e h x K}:NW C gl ES ⟨e,h,x⟩ K=(xM C gl e h x K).1:=(xM C gl e h x K).2
def FS:ACode:=.pr [2,11,12] (.seq (.seq (rg [mV 65 2,
lN 66 65,
mV 67 (cI 0)] [11,12,65,66,67])
(.block 2 (.loop (.scope fL))))
ES)
def qQ (C:Hd)(gl:GL)(e:En)(h:aA)(x:Esc)(K:KT):Sf C gl FS e h x K:=⟨_,by simp only[FS,↓wZ,AO.still];rfl⟩
theorem z2r {C gl e h x K}:NW C gl FS ⟨e,h,x⟩ K=(qQ C gl e h x K).1:=(qQ C gl e h x K).2
def bO:ACode:=.pr [2,11] (.seq (rg [uO 12 (.new0 (some 6))] [2,11,12])
(.seq (.seq (rg [uO 50 (.bsl false none 4 (.int .i64 0) [(0,(cI 3)),(1,(cI 4)),(2,(cI 5)),(3,(cI 6))]),
lN 51 50,
mV 52 (cI 0)] [2,11,12,50,51,52])
(.block 0 (.loop (.scope dL))))
FS))
def yM (C:Hd)(gl:GL)(e:En)(h:aA)(x:Esc)(K:KT):Sf C gl bO e h x K:=⟨_,by simp only[bO,↓wZ,AO.still];rfl⟩
theorem ZW {C gl e h x K}:NW C gl bO ⟨e,h,x⟩ K=(yM C gl e h x K).1:=(yM C gl e h x K).2
def hZ:ACode:=(.det (.seq (rg [uO 4 (.box 1),
mV 6 (.c (.p (.sl (some 6) []))),
mV 7 (cI 0)] [0,2,4])
(.seq (.seq (rg [mV 18 0,
mV 19 2,
cL 20 eK [18,19],
mV 8 20] [0,2,4,8])
(.seq (rg [mV 21 8,
bN 22 .neq 21 (cI 0)] [0,2,4,8,22])
(.cond 22 (.seq (rg [mV 23 8,
mV 6 (.c (.p (.sl (some 6) []))),
mV 7 23] [6,7])
.ret)
.skip)))
(.seq (rg [mV 24 0,
uO 25 (.mkfn cK [4]),
cL 26 sI [24,25],
mV 9 26] [0,2,9])
(.seq (.seq (rg [mV 27 9,
bN 28 .lss 27 (cI 0)] [0,2,9,28])
(.cond 28 (.seq (rg [mV 6 (.c (.p (.sl (some 6) []))),
mV 7 (cI 8)] [6,7])
.ret)
.skip))
(.seq (rg [mV 10 (.f AN)] [0,2,9,10])
(.seq (.condu (.c .anyb) (.block 7 (.block 13 (.block 0 (.block 1 (.block 2 (.block 3 (.block 4 (.block 5 (.block 6 (.block 7 (.block 8 (.block 9 (.block 10 (.block 11 (.block 12 (.block 13 (.block 14 (.block 15 (.block 16 (.block 17 (.block 18 (.block 19 (.block 20 (.block 21 (.block 22 (.block 23 (.block 24 (.block 25 (.condu (.c .anyb) (.block 7 (.block 20 (.block 0 (.block 1 (.block 2 (.block 3 (.block 4 (.block 5 (.block 6 (.block 7 (.block 8 (.block 9 (.block 10 (.block 11 (.block 12 (.block 13 (.block 14 (.block 15 (.block 16 (.block 17 (.block 18 (.block 19 (.block 20 (.block 21 (.block 22 (.block 23 (.block 24 (.block 25 (.condu (.c .anyb) (.block 13 (.block 20 (.block 0 (.block 1 (.block 2 (.block 3 (.block 4 (.block 5 (.block 6 (.block 7 (.block 8 (.block 9 (.block 10 (.block 11 (.block 12 (.block 13 (.block 14 (.block 15 (.block 16 (.block 17 (.block 18 (.block 19 (.block 20 (.block 21 (.block 22 (.block 23 (.block 24 (.block 25 (.condu (.c .anyb) (.block 7 (.block 23 (.block 0 (.block 1 (.block 2 (.block 3 (.block 4 (.block 5 (.block 6 (.block 7 (.block 8 (.block 9 (.block 10 (.block 11 (.block 12 (.block 13 (.block 14 (.block 15 (.block 16 (.block 17 (.block 18 (.block 19 (.block 20 (.block 21 (.block 22 (.block 23 (.block 24 (.block 25 (.condu (.c .anyb) (.block 13 (.block 23 (.block 0 (.block 1 (.block 2 (.block 3 (.block 4 (.block 5 (.block 6 (.block 7 (.block 8 (.block 9 (.block 10 (.block 11 (.block 12 (.block 13 (.block 14 (.block 15 (.block 16 (.block 17 (.block 18 (.block 19 (.block 20 (.block 21 (.block 22 (.block 23 (.block 24 (.block 25 (.condu (.c .anyb) (.block 20 (.block 23 (.block 0 (.block 1 (.block 2 (.block 3 (.block 4 (.block 5 (.block 6 (.block 7 (.block 8 (.block 9 (.block 10 (.block 11 (.block 12 (.block 13 (.block 14 (.block 15 (.block 16 (.block 17 (.block 18 (.block 19 (.block 20 (.block 21 (.block 22 (.block 23 (.block 24 (.block 25 (dr [dT (uO 29 (.mkmap)) [],
dF (mV 30 10) [10],
dF (mV 31 0) [0],
dF (mV 32 9) [9],
dF (bN 33 .add 32 (cI 1)) [32],
dA (uO 34 (.slice (some 5) 31 (some 33) none none)) [31,33] false [0] [],
dA (uO 35 (.callv 30 [34])) [30,34] false [0] [],
dT (wO (.mupd (none,[0]) 29 (cI 3) 35)) [29,35],
dF (mV 36 10) [10],
dF (mV 37 0) [0],
dF (mV 38 9) [9],
dA (uO 39 (.slice (some 5) 37 none (some 38) none)) [37,38] false [0,7] [],
dA (uO 40 (.callv 36 [39])) [36,39] false [0,7] [],
dT (wO (.mupd (none,[0]) 29 (cI 4) 40)) [29,40],
dF (mV 41 0) [0],
dF (lN 42 41) [41],
dF (bN 43 .sub 42 (cI 1)) [42],
dF (mV 44 9) [9],
dF (bN 45 .sub 43 44) [43,44],
dA (cL 46 MA [(cS [48]),45]) [45] false [0,7,13] [],
dT (wO (.mupd (none,[0]) 29 (cI 5) 46)) [29,46],
dF (mV 47 9) [9],
dA (cL 48 MA [(cS [48]),47]) [47] false [0,7,13,20] [],
dT (wO (.mupd (none,[0]) 29 (cI 6) 48)) [29,48],
dF (mV 49 29) [29],
dF (mV 11 49) [49]] [2,11])))))))))))))))))))))))))))))
(.block 23 (.block 20 (.block 0 (.block 1 (.block 2 (.block 3 (.block 4 (.block 5 (.block 6 (.block 7 (.block 8 (.block 9 (.block 10 (.block 11 (.block 12 (.block 13 (.block 14 (.block 15 (.block 16 (.block 17 (.block 18 (.block 19 (.block 21 (.block 22 (.block 23 (.block 20 (.block 24 (.block 25 (dr [dT (uO 29 (.mkmap)) [],
dF (mV 30 10) [10],
dF (mV 31 0) [0],
dF (mV 32 9) [9],
dF (bN 33 .add 32 (cI 1)) [32],
dA (uO 34 (.slice (some 5) 31 (some 33) none none)) [31,33] false [0] [],
dA (uO 35 (.callv 30 [34])) [30,34] false [0] [],
dT (wO (.mupd (none,[0]) 29 (cI 3) 35)) [29,35],
dF (mV 36 10) [10],
dF (mV 37 0) [0],
dF (mV 38 9) [9],
dA (uO 39 (.slice (some 5) 37 none (some 38) none)) [37,38] false [0,7] [],
dA (uO 40 (.callv 36 [39])) [36,39] false [0,7] [],
dT (wO (.mupd (none,[0]) 29 (cI 4) 40)) [29,40],
dF (mV 41 0) [0],
dF (lN 42 41) [41],
dF (bN 43 .sub 42 (cI 1)) [42],
dF (mV 44 9) [9],
dF (bN 45 .sub 43 44) [43,44],
dA (cL 46 MA [(cS [48]),45]) [45] false [0,7,13] [],
dF (mV 47 9) [9],
dA (cL 48 MA [(cS [48]),47]) [47] false [0,7,13] [],
dT (wO (.mupd (none,[0]) 29 (cI 6) 48)) [29,48],
dT (wO (.mupd (none,[0]) 29 (cI 5) 46)) [29,46],
dF (mV 49 29) [29],
dF (mV 11 49) [49]] [2,11]))))))))))))))))))))))))))))))))))))))))))))))))))))))))))
(.block 23 (.block 13 (.block 0 (.block 1 (.block 2 (.block 3 (.block 4 (.block 5 (.block 6 (.block 7 (.block 8 (.block 9 (.block 10 (.block 11 (.block 12 (.block 14 (.block 15 (.block 16 (.block 17 (.block 18 (.block 19 (.block 21 (.block 22 (.block 23 (.block 13 (.block 20 (.block 24 (.block 25 (dr [dT (uO 29 (.mkmap)) [],
dF (mV 30 10) [10],
dF (mV 31 0) [0],
dF (mV 32 9) [9],
dF (bN 33 .add 32 (cI 1)) [32],
dA (uO 34 (.slice (some 5) 31 (some 33) none none)) [31,33] false [0] [],
dA (uO 35 (.callv 30 [34])) [30,34] false [0] [],
dT (wO (.mupd (none,[0]) 29 (cI 3) 35)) [29,35],
dF (mV 36 10) [10],
dF (mV 37 0) [0],
dF (mV 38 9) [9],
dA (uO 39 (.slice (some 5) 37 none (some 38) none)) [37,38] false [0,7] [],
dA (uO 40 (.callv 36 [39])) [36,39] false [0,7] [],
dF (mV 41 0) [0],
dF (lN 42 41) [41],
dF (bN 43 .sub 42 (cI 1)) [42],
dF (mV 44 9) [9],
dF (bN 45 .sub 43 44) [43,44],
dA (cL 46 MA [(cS [48]),45]) [45] false [0,7] [],
dF (mV 47 9) [9],
dA (cL 48 MA [(cS [48]),47]) [47] false [0,7] [],
dT (wO (.mupd (none,[0]) 29 (cI 6) 48)) [29,48],
dT (wO (.mupd (none,[0]) 29 (cI 4) 40)) [29,40],
dT (wO (.mupd (none,[0]) 29 (cI 5) 46)) [29,46],
dF (mV 49 29) [29],
dF (mV 11 49) [49]] [2,11]))))))))))))))))))))))))))))))))))))))))))))))))))))))))))
(.block 23 (.block 7 (.block 0 (.block 1 (.block 2 (.block 3 (.block 4 (.block 5 (.block 6 (.block 8 (.block 9 (.block 10 (.block 11 (.block 12 (.block 14 (.block 15 (.block 16 (.block 17 (.block 18 (.block 19 (.block 21 (.block 22 (.block 23 (.block 7 (.block 13 (.block 20 (.block 24 (.block 25 (dr [dT (uO 29 (.mkmap)) [],
dF (mV 30 10) [10],
dF (mV 31 0) [0],
dF (mV 32 9) [9],
dF (bN 33 .add 32 (cI 1)) [32],
dA (uO 34 (.slice (some 5) 31 (some 33) none none)) [31,33] false [0] [],
dA (uO 35 (.callv 30 [34])) [30,34] false [0] [],
dF (mV 36 10) [10],
dF (mV 37 0) [0],
dF (mV 38 9) [9],
dA (uO 39 (.slice (some 5) 37 none (some 38) none)) [37,38] false [0] [],
dA (uO 40 (.callv 36 [39])) [36,39] false [0] [],
dF (mV 41 0) [0],
dF (lN 42 41) [41],
dF (bN 43 .sub 42 (cI 1)) [42],
dF (mV 44 9) [9],
dF (bN 45 .sub 43 44) [43,44],
dA (cL 46 MA [(cS [48]),45]) [45] false [0] [],
dF (mV 47 9) [9],
dA (cL 48 MA [(cS [48]),47]) [47] false [0] [],
dT (wO (.mupd (none,[0]) 29 (cI 6) 48)) [29,48],
dT (wO (.mupd (none,[0]) 29 (cI 3) 35)) [29,35],
dT (wO (.mupd (none,[0]) 29 (cI 4) 40)) [29,40],
dT (wO (.mupd (none,[0]) 29 (cI 5) 46)) [29,46],
dF (mV 49 29) [29],
dF (mV 11 49) [49]] [2,11]))))))))))))))))))))))))))))))))))))))))))))))))))))))))))
(.block 20 (.block 13 (.block 0 (.block 1 (.block 2 (.block 3 (.block 4 (.block 5 (.block 6 (.block 7 (.block 8 (.block 9 (.block 10 (.block 11 (.block 12 (.block 14 (.block 15 (.block 16 (.block 17 (.block 18 (.block 19 (.block 20 (.block 13 (.block 21 (.block 22 (.block 23 (.block 24 (.block 25 (.condu (.c .anyb) (.block 7 (.block 23 (.block 0 (.block 1 (.block 2 (.block 3 (.block 4 (.block 5 (.block 6 (.block 7 (.block 8 (.block 9 (.block 10 (.block 11 (.block 12 (.block 13 (.block 14 (.block 15 (.block 16 (.block 17 (.block 18 (.block 19 (.block 20 (.block 21 (.block 22 (.block 23 (.block 24 (.block 25 (.condu (.c .anyb) (.block 19 (.block 23 (.block 0 (.block 1 (.block 2 (.block 3 (.block 4 (.block 5 (.block 6 (.block 7 (.block 8 (.block 9 (.block 10 (.block 11 (.block 12 (.block 13 (.block 14 (.block 15 (.block 16 (.block 17 (.block 18 (.block 19 (.block 20 (.block 21 (.block 22 (.block 23 (.block 24 (.block 25 (.condu (.c .anyb) (.block 20 (.block 23 (.block 0 (.block 1 (.block 2 (.block 3 (.block 4 (.block 5 (.block 6 (.block 7 (.block 8 (.block 9 (.block 10 (.block 11 (.block 12 (.block 13 (.block 14 (.block 15 (.block 16 (.block 17 (.block 18 (.block 19 (.block 20 (.block 21 (.block 22 (.block 23 (.block 24 (.block 25 (dr [dT (uO 29 (.mkmap)) [],
dF (mV 30 10) [10],
dF (mV 31 0) [0],
dF (mV 32 9) [9],
dF (bN 33 .add 32 (cI 1)) [32],
dA (uO 34 (.slice (some 5) 31 (some 33) none none)) [31,33] false [0] [],
dA (uO 35 (.callv 30 [34])) [30,34] false [0] [],
dT (wO (.mupd (none,[0]) 29 (cI 3) 35)) [29,35],
dF (mV 36 10) [10],
dF (mV 37 0) [0],
dF (mV 38 9) [9],
dA (uO 39 (.slice (some 5) 37 none (some 38) none)) [37,38] false [0,7] [],
dA (uO 40 (.callv 36 [39])) [36,39] false [0,7] [],
dF (mV 41 0) [0],
dF (lN 42 41) [41],
dF (bN 43 .sub 42 (cI 1)) [42],
dF (mV 44 9) [9],
dF (bN 45 .sub 43 44) [43,44],
dA (cL 46 MA [(cS [48]),45]) [45] false [0,7] [],
dT (wO (.mupd (none,[0]) 29 (cI 5) 46)) [29,46],
dT (wO (.mupd (none,[0]) 29 (cI 4) 40)) [29,40],
dF (mV 47 9) [9],
dA (cL 48 MA [(cS [48]),47]) [47] false [0,7,19,20] [],
dT (wO (.mupd (none,[0]) 29 (cI 6) 48)) [29,48],
dF (mV 49 29) [29],
dF (mV 11 49) [49]] [2,11])))))))))))))))))))))))))))))
(.block 23 (.block 20 (.block 0 (.block 1 (.block 2 (.block 3 (.block 4 (.block 5 (.block 6 (.block 7 (.block 8 (.block 9 (.block 10 (.block 11 (.block 12 (.block 13 (.block 14 (.block 15 (.block 16 (.block 17 (.block 18 (.block 19 (.block 21 (.block 22 (.block 23 (.block 20 (.block 24 (.block 25 (dr [dT (uO 29 (.mkmap)) [],
dF (mV 30 10) [10],
dF (mV 31 0) [0],
dF (mV 32 9) [9],
dF (bN 33 .add 32 (cI 1)) [32],
dA (uO 34 (.slice (some 5) 31 (some 33) none none)) [31,33] false [0] [],
dA (uO 35 (.callv 30 [34])) [30,34] false [0] [],
dT (wO (.mupd (none,[0]) 29 (cI 3) 35)) [29,35],
dF (mV 36 10) [10],
dF (mV 37 0) [0],
dF (mV 38 9) [9],
dA (uO 39 (.slice (some 5) 37 none (some 38) none)) [37,38] false [0,7] [],
dA (uO 40 (.callv 36 [39])) [36,39] false [0,7] [],
dF (mV 41 0) [0],
dF (lN 42 41) [41],
dF (bN 43 .sub 42 (cI 1)) [42],
dF (mV 44 9) [9],
dF (bN 45 .sub 43 44) [43,44],
dA (cL 46 MA [(cS [48]),45]) [45] false [0,7] [],
dT (wO (.mupd (none,[0]) 29 (cI 5) 46)) [29,46],
dF (mV 47 9) [9],
dA (cL 48 MA [(cS [48]),47]) [47] false [0,7,19] [],
dT (wO (.mupd (none,[0]) 29 (cI 6) 48)) [29,48],
dT (wO (.mupd (none,[0]) 29 (cI 4) 40)) [29,40],
dF (mV 49 29) [29],
dF (mV 11 49) [49]] [2,11]))))))))))))))))))))))))))))))))))))))))))))))))))))))))))
(.block 23 (.block 19 (.block 0 (.block 1 (.block 2 (.block 3 (.block 4 (.block 5 (.block 6 (.block 7 (.block 8 (.block 9 (.block 10 (.block 11 (.block 12 (.block 13 (.block 14 (.block 15 (.block 16 (.block 17 (.block 18 (.block 21 (.block 22 (.block 23 (.block 19 (.block 20 (.block 24 (.block 25 (dr [dT (uO 29 (.mkmap)) [],
dF (mV 30 10) [10],
dF (mV 31 0) [0],
dF (mV 32 9) [9],
dF (bN 33 .add 32 (cI 1)) [32],
dA (uO 34 (.slice (some 5) 31 (some 33) none none)) [31,33] false [0] [],
dA (uO 35 (.callv 30 [34])) [30,34] false [0] [],
dT (wO (.mupd (none,[0]) 29 (cI 3) 35)) [29,35],
dF (mV 36 10) [10],
dF (mV 37 0) [0],
dF (mV 38 9) [9],
dA (uO 39 (.slice (some 5) 37 none (some 38) none)) [37,38] false [0,7] [],
dA (uO 40 (.callv 36 [39])) [36,39] false [0,7] [],
dF (mV 41 0) [0],
dF (lN 42 41) [41],
dF (bN 43 .sub 42 (cI 1)) [42],
dF (mV 44 9) [9],
dF (bN 45 .sub 43 44) [43,44],
dA (cL 46 MA [(cS [48]),45]) [45] false [0,7] [],
dF (mV 47 9) [9],
dA (cL 48 MA [(cS [48]),47]) [47] false [0,7] [],
dT (wO (.mupd (none,[0]) 29 (cI 6) 48)) [29,48],
dT (wO (.mupd (none,[0]) 29 (cI 5) 46)) [29,46],
dT (wO (.mupd (none,[0]) 29 (cI 4) 40)) [29,40],
dF (mV 49 29) [29],
dF (mV 11 49) [49]] [2,11]))))))))))))))))))))))))))))))))))))))))))))))))))))))))))
(.block 23 (.block 7 (.block 0 (.block 1 (.block 2 (.block 3 (.block 4 (.block 5 (.block 6 (.block 8 (.block 9 (.block 10 (.block 11 (.block 12 (.block 13 (.block 14 (.block 15 (.block 16 (.block 17 (.block 18 (.block 21 (.block 22 (.block 23 (.block 7 (.block 19 (.block 20 (.block 24 (.block 25 (dr [dT (uO 29 (.mkmap)) [],
dF (mV 30 10) [10],
dF (mV 31 0) [0],
dF (mV 32 9) [9],
dF (bN 33 .add 32 (cI 1)) [32],
dA (uO 34 (.slice (some 5) 31 (some 33) none none)) [31,33] false [0] [],
dA (uO 35 (.callv 30 [34])) [30,34] false [0] [],
dF (mV 36 10) [10],
dF (mV 37 0) [0],
dF (mV 38 9) [9],
dA (uO 39 (.slice (some 5) 37 none (some 38) none)) [37,38] false [0] [],
dA (uO 40 (.callv 36 [39])) [36,39] false [0] [],
dF (mV 41 0) [0],
dF (lN 42 41) [41],
dF (bN 43 .sub 42 (cI 1)) [42],
dF (mV 44 9) [9],
dF (bN 45 .sub 43 44) [43,44],
dA (cL 46 MA [(cS [48]),45]) [45] false [0] [],
dF (mV 47 9) [9],
dA (cL 48 MA [(cS [48]),47]) [47] false [0] [],
dT (wO (.mupd (none,[0]) 29 (cI 6) 48)) [29,48],
dT (wO (.mupd (none,[0]) 29 (cI 3) 35)) [29,35],
dT (wO (.mupd (none,[0]) 29 (cI 5) 46)) [29,46],
dT (wO (.mupd (none,[0]) 29 (cI 4) 40)) [29,40],
dF (mV 49 29) [29],
dF (mV 11 49) [49]] [2,11])))))))))))))))))))))))))))))))))))))))))))))))))))))))))))))))))))))))))))))))))))))))
(.block 20 (.block 7 (.block 0 (.block 1 (.block 2 (.block 3 (.block 4 (.block 5 (.block 6 (.block 8 (.block 9 (.block 10 (.block 11 (.block 12 (.block 14 (.block 15 (.block 16 (.block 17 (.block 18 (.block 19 (.block 20 (.block 7 (.block 13 (.block 21 (.block 22 (.block 23 (.block 24 (.block 25 (.condu (.c .anyb) (.block 18 (.block 23 (.block 0 (.block 1 (.block 2 (.block 3 (.block 4 (.block 5 (.block 6 (.block 7 (.block 8 (.block 9 (.block 10 (.block 11 (.block 12 (.block 13 (.block 14 (.block 15 (.block 16 (.block 17 (.block 18 (.block 19 (.block 20 (.block 21 (.block 22 (.block 23 (.block 24 (.block 25 (.condu (.c .anyb) (.block 19 (.block 23 (.block 0 (.block 1 (.block 2 (.block 3 (.block 4 (.block 5 (.block 6 (.block 7 (.block 8 (.block 9 (.block 10 (.block 11 (.block 12 (.block 13 (.block 14 (.block 15 (.block 16 (.block 17 (.block 18 (.block 19 (.block 20 (.block 21 (.block 22 (.block 23 (.block 24 (.block 25 (.condu (.c .anyb) (.block 20 (.block 23 (.block 0 (.block 1 (.block 2 (.block 3 (.block 4 (.block 5 (.block 6 (.block 7 (.block 8 (.block 9 (.block 10 (.block 11 (.block 12 (.block 13 (.block 14 (.block 15 (.block 16 (.block 17 (.block 18 (.block 19 (.block 20 (.block 21 (.block 22 (.block 23 (.block 24 (.block 25 (dr [dT (uO 29 (.mkmap)) [],
dF (mV 30 10) [10],
dF (mV 31 0) [0],
dF (mV 32 9) [9],
dF (bN 33 .add 32 (cI 1)) [32],
dA (uO 34 (.slice (some 5) 31 (some 33) none none)) [31,33] false [0] [],
dA (uO 35 (.callv 30 [34])) [30,34] false [0] [],
dF (mV 36 10) [10],
dF (mV 37 0) [0],
dF (mV 38 9) [9],
dA (uO 39 (.slice (some 5) 37 none (some 38) none)) [37,38] false [0] [],
dA (uO 40 (.callv 36 [39])) [36,39] false [0] [],
dF (mV 41 0) [0],
dF (lN 42 41) [41],
dF (bN 43 .sub 42 (cI 1)) [42],
dF (mV 44 9) [9],
dF (bN 45 .sub 43 44) [43,44],
dA (cL 46 MA [(cS [48]),45]) [45] false [0] [],
dT (wO (.mupd (none,[0]) 29 (cI 5) 46)) [29,46],
dT (wO (.mupd (none,[0]) 29 (cI 3) 35)) [29,35],
dT (wO (.mupd (none,[0]) 29 (cI 4) 40)) [29,40],
dF (mV 47 9) [9],
dA (cL 48 MA [(cS [48]),47]) [47] false [0,18,19,20] [],
dT (wO (.mupd (none,[0]) 29 (cI 6) 48)) [29,48],
dF (mV 49 29) [29],
dF (mV 11 49) [49]] [2,11])))))))))))))))))))))))))))))
(.block 23 (.block 20 (.block 0 (.block 1 (.block 2 (.block 3 (.block 4 (.block 5 (.block 6 (.block 7 (.block 8 (.block 9 (.block 10 (.block 11 (.block 12 (.block 13 (.block 14 (.block 15 (.block 16 (.block 17 (.block 18 (.block 19 (.block 21 (.block 22 (.block 23 (.block 20 (.block 24 (.block 25 (dr [dT (uO 29 (.mkmap)) [],
dF (mV 30 10) [10],
dF (mV 31 0) [0],
dF (mV 32 9) [9],
dF (bN 33 .add 32 (cI 1)) [32],
dA (uO 34 (.slice (some 5) 31 (some 33) none none)) [31,33] false [0] [],
dA (uO 35 (.callv 30 [34])) [30,34] false [0] [],
dF (mV 36 10) [10],
dF (mV 37 0) [0],
dF (mV 38 9) [9],
dA (uO 39 (.slice (some 5) 37 none (some 38) none)) [37,38] false [0] [],
dA (uO 40 (.callv 36 [39])) [36,39] false [0] [],
dF (mV 41 0) [0],
dF (lN 42 41) [41],
dF (bN 43 .sub 42 (cI 1)) [42],
dF (mV 44 9) [9],
dF (bN 45 .sub 43 44) [43,44],
dA (cL 46 MA [(cS [48]),45]) [45] false [0] [],
dT (wO (.mupd (none,[0]) 29 (cI 5) 46)) [29,46],
dT (wO (.mupd (none,[0]) 29 (cI 3) 35)) [29,35],
dF (mV 47 9) [9],
dA (cL 48 MA [(cS [48]),47]) [47] false [0,18,19] [],
dT (wO (.mupd (none,[0]) 29 (cI 6) 48)) [29,48],
dT (wO (.mupd (none,[0]) 29 (cI 4) 40)) [29,40],
dF (mV 49 29) [29],
dF (mV 11 49) [49]] [2,11]))))))))))))))))))))))))))))))))))))))))))))))))))))))))))
(.block 23 (.block 19 (.block 0 (.block 1 (.block 2 (.block 3 (.block 4 (.block 5 (.block 6 (.block 7 (.block 8 (.block 9 (.block 10 (.block 11 (.block 12 (.block 13 (.block 14 (.block 15 (.block 16 (.block 17 (.block 18 (.block 21 (.block 22 (.block 23 (.block 19 (.block 20 (.block 24 (.block 25 (dr [dT (uO 29 (.mkmap)) [],
dF (mV 30 10) [10],
dF (mV 31 0) [0],
dF (mV 32 9) [9],
dF (bN 33 .add 32 (cI 1)) [32],
dA (uO 34 (.slice (some 5) 31 (some 33) none none)) [31,33] false [0] [],
dA (uO 35 (.callv 30 [34])) [30,34] false [0] [],
dF (mV 36 10) [10],
dF (mV 37 0) [0],
dF (mV 38 9) [9],
dA (uO 39 (.slice (some 5) 37 none (some 38) none)) [37,38] false [0] [],
dA (uO 40 (.callv 36 [39])) [36,39] false [0] [],
dF (mV 41 0) [0],
dF (lN 42 41) [41],
dF (bN 43 .sub 42 (cI 1)) [42],
dF (mV 44 9) [9],
dF (bN 45 .sub 43 44) [43,44],
dA (cL 46 MA [(cS [48]),45]) [45] false [0] [],
dT (wO (.mupd (none,[0]) 29 (cI 5) 46)) [29,46],
dF (mV 47 9) [9],
dA (cL 48 MA [(cS [48]),47]) [47] false [0,18] [],
dT (wO (.mupd (none,[0]) 29 (cI 6) 48)) [29,48],
dT (wO (.mupd (none,[0]) 29 (cI 3) 35)) [29,35],
dT (wO (.mupd (none,[0]) 29 (cI 4) 40)) [29,40],
dF (mV 49 29) [29],
dF (mV 11 49) [49]] [2,11]))))))))))))))))))))))))))))))))))))))))))))))))))))))))))
(.block 23 (.block 18 (.block 0 (.block 1 (.block 2 (.block 3 (.block 4 (.block 5 (.block 6 (.block 7 (.block 8 (.block 9 (.block 10 (.block 11 (.block 12 (.block 13 (.block 14 (.block 15 (.block 16 (.block 17 (.block 21 (.block 22 (.block 23 (.block 18 (.block 19 (.block 20 (.block 24 (.block 25 (dr [dT (uO 29 (.mkmap)) [],
dF (mV 30 10) [10],
dF (mV 31 0) [0],
dF (mV 32 9) [9],
dF (bN 33 .add 32 (cI 1)) [32],
dA (uO 34 (.slice (some 5) 31 (some 33) none none)) [31,33] false [0] [],
dA (uO 35 (.callv 30 [34])) [30,34] false [0] [],
dF (mV 36 10) [10],
dF (mV 37 0) [0],
dF (mV 38 9) [9],
dA (uO 39 (.slice (some 5) 37 none (some 38) none)) [37,38] false [0] [],
dA (uO 40 (.callv 36 [39])) [36,39] false [0] [],
dF (mV 41 0) [0],
dF (lN 42 41) [41],
dF (bN 43 .sub 42 (cI 1)) [42],
dF (mV 44 9) [9],
dF (bN 45 .sub 43 44) [43,44],
dA (cL 46 MA [(cS [48]),45]) [45] false [0] [],
dF (mV 47 9) [9],
dA (cL 48 MA [(cS [48]),47]) [47] false [0] [],
dT (wO (.mupd (none,[0]) 29 (cI 6) 48)) [29,48],
dT (wO (.mupd (none,[0]) 29 (cI 5) 46)) [29,46],
dT (wO (.mupd (none,[0]) 29 (cI 3) 35)) [29,35],
dT (wO (.mupd (none,[0]) 29 (cI 4) 40)) [29,40],
dF (mV 49 29) [29],
dF (mV 11 49) [49]] [2,11])))))))))))))))))))))))))))))))))))))))))))))))))))))))))))))))))))))))))))))))))))))))
(.block 13 (.block 7 (.block 0 (.block 1 (.block 2 (.block 3 (.block 4 (.block 5 (.block 6 (.block 8 (.block 9 (.block 10 (.block 11 (.block 12 (.block 13 (.block 7 (.block 14 (.block 15 (.block 16 (.block 17 (.block 18 (.block 19 (.block 20 (.block 21 (.block 22 (.block 23 (.block 24 (.block 25 (.condu (.c .anyb) (.block 12 (.block 20 (.block 0 (.block 1 (.block 2 (.block 3 (.block 4 (.block 5 (.block 6 (.block 7 (.block 8 (.block 9 (.block 10 (.block 11 (.block 12 (.block 13 (.block 14 (.block 15 (.block 16 (.block 17 (.block 18 (.block 19 (.block 20 (.block 21 (.block 22 (.block 23 (.block 24 (.block 25 (.condu (.c .anyb) (.block 13 (.block 20 (.block 0 (.block 1 (.block 2 (.block 3 (.block 4 (.block 5 (.block 6 (.block 7 (.block 8 (.block 9 (.block 10 (.block 11 (.block 12 (.block 13 (.block 14 (.block 15 (.block 16 (.block 17 (.block 18 (.block 19 (.block 20 (.block 21 (.block 22 (.block 23 (.block 24 (.block 25 (.condu (.c .anyb) (.block 12 (.block 23 (.block 0 (.block 1 (.block 2 (.block 3 (.block 4 (.block 5 (.block 6 (.block 7 (.block 8 (.block 9 (.block 10 (.block 11 (.block 12 (.block 13 (.block 14 (.block 15 (.block 16 (.block 17 (.block 18 (.block 19 (.block 20 (.block 21 (.block 22 (.block 23 (.block 24 (.block 25 (.condu (.c .anyb) (.block 13 (.block 23 (.block 0 (.block 1 (.block 2 (.block 3 (.block 4 (.block 5 (.block 6 (.block 7 (.block 8 (.block 9 (.block 10 (.block 11 (.block 12 (.block 13 (.block 14 (.block 15 (.block 16 (.block 17 (.block 18 (.block 19 (.block 20 (.block 21 (.block 22 (.block 23 (.block 24 (.block 25 (.condu (.c .anyb) (.block 20 (.block 23 (.block 0 (.block 1 (.block 2 (.block 3 (.block 4 (.block 5 (.block 6 (.block 7 (.block 8 (.block 9 (.block 10 (.block 11 (.block 12 (.block 13 (.block 14 (.block 15 (.block 16 (.block 17 (.block 18 (.block 19 (.block 20 (.block 21 (.block 22 (.block 23 (.block 24 (.block 25 (dr [dT (uO 29 (.mkmap)) [],
dF (mV 30 10) [10],
dF (mV 31 0) [0],
dF (mV 32 9) [9],
dF (bN 33 .add 32 (cI 1)) [32],
dA (uO 34 (.slice (some 5) 31 (some 33) none none)) [31,33] false [0] [],
dA (uO 35 (.callv 30 [34])) [30,34] false [0] [],
dF (mV 36 10) [10],
dF (mV 37 0) [0],
dF (mV 38 9) [9],
dA (uO 39 (.slice (some 5) 37 none (some 38) none)) [37,38] false [0] [],
dA (uO 40 (.callv 36 [39])) [36,39] false [0] [],
dT (wO (.mupd (none,[0]) 29 (cI 4) 40)) [29,40],
dT (wO (.mupd (none,[0]) 29 (cI 3) 35)) [29,35],
dF (mV 41 0) [0],
dF (lN 42 41) [41],
dF (bN 43 .sub 42 (cI 1)) [42],
dF (mV 44 9) [9],
dF (bN 45 .sub 43 44) [43,44],
dA (cL 46 MA [(cS [48]),45]) [45] false [0,12,13] [],
dT (wO (.mupd (none,[0]) 29 (cI 5) 46)) [29,46],
dF (mV 47 9) [9],
dA (cL 48 MA [(cS [48]),47]) [47] false [0,12,13,20] [],
dT (wO (.mupd (none,[0]) 29 (cI 6) 48)) [29,48],
dF (mV 49 29) [29],
dF (mV 11 49) [49]] [2,11])))))))))))))))))))))))))))))
(.block 23 (.block 20 (.block 0 (.block 1 (.block 2 (.block 3 (.block 4 (.block 5 (.block 6 (.block 7 (.block 8 (.block 9 (.block 10 (.block 11 (.block 12 (.block 13 (.block 14 (.block 15 (.block 16 (.block 17 (.block 18 (.block 19 (.block 21 (.block 22 (.block 23 (.block 20 (.block 24 (.block 25 (dr [dT (uO 29 (.mkmap)) [],
dF (mV 30 10) [10],
dF (mV 31 0) [0],
dF (mV 32 9) [9],
dF (bN 33 .add 32 (cI 1)) [32],
dA (uO 34 (.slice (some 5) 31 (some 33) none none)) [31,33] false [0] [],
dA (uO 35 (.callv 30 [34])) [30,34] false [0] [],
dF (mV 36 10) [10],
dF (mV 37 0) [0],
dF (mV 38 9) [9],
dA (uO 39 (.slice (some 5) 37 none (some 38) none)) [37,38] false [0] [],
dA (uO 40 (.callv 36 [39])) [36,39] false [0] [],
dT (wO (.mupd (none,[0]) 29 (cI 4) 40)) [29,40],
dT (wO (.mupd (none,[0]) 29 (cI 3) 35)) [29,35],
dF (mV 41 0) [0],
dF (lN 42 41) [41],
dF (bN 43 .sub 42 (cI 1)) [42],
dF (mV 44 9) [9],
dF (bN 45 .sub 43 44) [43,44],
dA (cL 46 MA [(cS [48]),45]) [45] false [0,12,13] [],
dF (mV 47 9) [9],
dA (cL 48 MA [(cS [48]),47]) [47] false [0,12,13] [],
dT (wO (.mupd (none,[0]) 29 (cI 6) 48)) [29,48],
dT (wO (.mupd (none,[0]) 29 (cI 5) 46)) [29,46],
dF (mV 49 29) [29],
dF (mV 11 49) [49]] [2,11]))))))))))))))))))))))))))))))))))))))))))))))))))))))))))
(.block 23 (.block 13 (.block 0 (.block 1 (.block 2 (.block 3 (.block 4 (.block 5 (.block 6 (.block 7 (.block 8 (.block 9 (.block 10 (.block 11 (.block 12 (.block 14 (.block 15 (.block 16 (.block 17 (.block 18 (.block 19 (.block 21 (.block 22 (.block 23 (.block 13 (.block 20 (.block 24 (.block 25 (dr [dT (uO 29 (.mkmap)) [],
dF (mV 30 10) [10],
dF (mV 31 0) [0],
dF (mV 32 9) [9],
dF (bN 33 .add 32 (cI 1)) [32],
dA (uO 34 (.slice (some 5) 31 (some 33) none none)) [31,33] false [0] [],
dA (uO 35 (.callv 30 [34])) [30,34] false [0] [],
dF (mV 36 10) [10],
dF (mV 37 0) [0],
dF (mV 38 9) [9],
dA (uO 39 (.slice (some 5) 37 none (some 38) none)) [37,38] false [0] [],
dA (uO 40 (.callv 36 [39])) [36,39] false [0] [],
dT (wO (.mupd (none,[0]) 29 (cI 4) 40)) [29,40],
dF (mV 41 0) [0],
dF (lN 42 41) [41],
dF (bN 43 .sub 42 (cI 1)) [42],
dF (mV 44 9) [9],
dF (bN 45 .sub 43 44) [43,44],
dA (cL 46 MA [(cS [48]),45]) [45] false [0,12] [],
dF (mV 47 9) [9],
dA (cL 48 MA [(cS [48]),47]) [47] false [0,12] [],
dT (wO (.mupd (none,[0]) 29 (cI 6) 48)) [29,48],
dT (wO (.mupd (none,[0]) 29 (cI 3) 35)) [29,35],
dT (wO (.mupd (none,[0]) 29 (cI 5) 46)) [29,46],
dF (mV 49 29) [29],
dF (mV 11 49) [49]] [2,11]))))))))))))))))))))))))))))))))))))))))))))))))))))))))))
(.block 23 (.block 12 (.block 0 (.block 1 (.block 2 (.block 3 (.block 4 (.block 5 (.block 6 (.block 7 (.block 8 (.block 9 (.block 10 (.block 11 (.block 14 (.block 15 (.block 16 (.block 17 (.block 18 (.block 19 (.block 21 (.block 22 (.block 23 (.block 12 (.block 13 (.block 20 (.block 24 (.block 25 (dr [dT (uO 29 (.mkmap)) [],
dF (mV 30 10) [10],
dF (mV 31 0) [0],
dF (mV 32 9) [9],
dF (bN 33 .add 32 (cI 1)) [32],
dA (uO 34 (.slice (some 5) 31 (some 33) none none)) [31,33] false [0] [],
dA (uO 35 (.callv 30 [34])) [30,34] false [0] [],
dF (mV 36 10) [10],
dF (mV 37 0) [0],
dF (mV 38 9) [9],
dA (uO 39 (.slice (some 5) 37 none (some 38) none)) [37,38] false [0] [],
dA (uO 40 (.callv 36 [39])) [36,39] false [0] [],
dF (mV 41 0) [0],
dF (lN 42 41) [41],
dF (bN 43 .sub 42 (cI 1)) [42],
dF (mV 44 9) [9],
dF (bN 45 .sub 43 44) [43,44],
dA (cL 46 MA [(cS [48]),45]) [45] false [0] [],
dF (mV 47 9) [9],
dA (cL 48 MA [(cS [48]),47]) [47] false [0] [],
dT (wO (.mupd (none,[0]) 29 (cI 6) 48)) [29,48],
dT (wO (.mupd (none,[0]) 29 (cI 4) 40)) [29,40],
dT (wO (.mupd (none,[0]) 29 (cI 3) 35)) [29,35],
dT (wO (.mupd (none,[0]) 29 (cI 5) 46)) [29,46],
dF (mV 49 29) [29],
dF (mV 11 49) [49]] [2,11]))))))))))))))))))))))))))))))))))))))))))))))))))))))))))
(.block 20 (.block 13 (.block 0 (.block 1 (.block 2 (.block 3 (.block 4 (.block 5 (.block 6 (.block 7 (.block 8 (.block 9 (.block 10 (.block 11 (.block 12 (.block 14 (.block 15 (.block 16 (.block 17 (.block 18 (.block 19 (.block 20 (.block 13 (.block 21 (.block 22 (.block 23 (.block 24 (.block 25 (.condu (.c .anyb) (.block 12 (.block 23 (.block 0 (.block 1 (.block 2 (.block 3 (.block 4 (.block 5 (.block 6 (.block 7 (.block 8 (.block 9 (.block 10 (.block 11 (.block 12 (.block 13 (.block 14 (.block 15 (.block 16 (.block 17 (.block 18 (.block 19 (.block 20 (.block 21 (.block 22 (.block 23 (.block 24 (.block 25 (.condu (.c .anyb) (.block 19 (.block 23 (.block 0 (.block 1 (.block 2 (.block 3 (.block 4 (.block 5 (.block 6 (.block 7 (.block 8 (.block 9 (.block 10 (.block 11 (.block 12 (.block 13 (.block 14 (.block 15 (.block 16 (.block 17 (.block 18 (.block 19 (.block 20 (.block 21 (.block 22 (.block 23 (.block 24 (.block 25 (.condu (.c .anyb) (.block 20 (.block 23 (.block 0 (.block 1 (.block 2 (.block 3 (.block 4 (.block 5 (.block 6 (.block 7 (.block 8 (.block 9 (.block 10 (.block 11 (.block 12 (.block 13 (.block 14 (.block 15 (.block 16 (.block 17 (.block 18 (.block 19 (.block 20 (.block 21 (.block 22 (.block 23 (.block 24 (.block 25 (dr [dT (uO 29 (.mkmap)) [],
dF (mV 30 10) [10],
dF (mV 31 0) [0],
dF (mV 32 9) [9],
dF (bN 33 .add 32 (cI 1)) [32],
dA (uO 34 (.slice (some 5) 31 (some 33) none none)) [31,33] false [0] [],
dA (uO 35 (.callv 30 [34])) [30,34] false [0] [],
dF (mV 36 10) [10],
dF (mV 37 0) [0],
dF (mV 38 9) [9],
dA (uO 39 (.slice (some 5) 37 none (some 38) none)) [37,38] false [0] [],
dA (uO 40 (.callv 36 [39])) [36,39] false [0] [],
dT (wO (.mupd (none,[0]) 29 (cI 4) 40)) [29,40],
dF (mV 41 0) [0],
dF (lN 42 41) [41],
dF (bN 43 .sub 42 (cI 1)) [42],
dF (mV 44 9) [9],
dF (bN 45 .sub 43 44) [43,44],
dA (cL 46 MA [(cS [48]),45]) [45] false [0,12] [],
dT (wO (.mupd (none,[0]) 29 (cI 5) 46)) [29,46],
dT (wO (.mupd (none,[0]) 29 (cI 3) 35)) [29,35],
dF (mV 47 9) [9],
dA (cL 48 MA [(cS [48]),47]) [47] false [0,12,19,20] [],
dT (wO (.mupd (none,[0]) 29 (cI 6) 48)) [29,48],
dF (mV 49 29) [29],
dF (mV 11 49) [49]] [2,11])))))))))))))))))))))))))))))
(.block 23 (.block 20 (.block 0 (.block 1 (.block 2 (.block 3 (.block 4 (.block 5 (.block 6 (.block 7 (.block 8 (.block 9 (.block 10 (.block 11 (.block 12 (.block 13 (.block 14 (.block 15 (.block 16 (.block 17 (.block 18 (.block 19 (.block 21 (.block 22 (.block 23 (.block 20 (.block 24 (.block 25 (dr [dT (uO 29 (.mkmap)) [],
dF (mV 30 10) [10],
dF (mV 31 0) [0],
dF (mV 32 9) [9],
dF (bN 33 .add 32 (cI 1)) [32],
dA (uO 34 (.slice (some 5) 31 (some 33) none none)) [31,33] false [0] [],
dA (uO 35 (.callv 30 [34])) [30,34] false [0] [],
dF (mV 36 10) [10],
dF (mV 37 0) [0],
dF (mV 38 9) [9],
dA (uO 39 (.slice (some 5) 37 none (some 38) none)) [37,38] false [0] [],
dA (uO 40 (.callv 36 [39])) [36,39] false [0] [],
dT (wO (.mupd (none,[0]) 29 (cI 4) 40)) [29,40],
dF (mV 41 0) [0],
dF (lN 42 41) [41],
dF (bN 43 .sub 42 (cI 1)) [42],
dF (mV 44 9) [9],
dF (bN 45 .sub 43 44) [43,44],
dA (cL 46 MA [(cS [48]),45]) [45] false [0,12] [],
dT (wO (.mupd (none,[0]) 29 (cI 5) 46)) [29,46],
dF (mV 47 9) [9],
dA (cL 48 MA [(cS [48]),47]) [47] false [0,12,19] [],
dT (wO (.mupd (none,[0]) 29 (cI 6) 48)) [29,48],
dT (wO (.mupd (none,[0]) 29 (cI 3) 35)) [29,35],
dF (mV 49 29) [29],
dF (mV 11 49) [49]] [2,11]))))))))))))))))))))))))))))))))))))))))))))))))))))))))))
(.block 23 (.block 19 (.block 0 (.block 1 (.block 2 (.block 3 (.block 4 (.block 5 (.block 6 (.block 7 (.block 8 (.block 9 (.block 10 (.block 11 (.block 12 (.block 13 (.block 14 (.block 15 (.block 16 (.block 17 (.block 18 (.block 21 (.block 22 (.block 23 (.block 19 (.block 20 (.block 24 (.block 25 (dr [dT (uO 29 (.mkmap)) [],
dF (mV 30 10) [10],
dF (mV 31 0) [0],
dF (mV 32 9) [9],
dF (bN 33 .add 32 (cI 1)) [32],
dA (uO 34 (.slice (some 5) 31 (some 33) none none)) [31,33] false [0] [],
dA (uO 35 (.callv 30 [34])) [30,34] false [0] [],
dF (mV 36 10) [10],
dF (mV 37 0) [0],
dF (mV 38 9) [9],
dA (uO 39 (.slice (some 5) 37 none (some 38) none)) [37,38] false [0] [],
dA (uO 40 (.callv 36 [39])) [36,39] false [0] [],
dT (wO (.mupd (none,[0]) 29 (cI 4) 40)) [29,40],
dF (mV 41 0) [0],
dF (lN 42 41) [41],
dF (bN 43 .sub 42 (cI 1)) [42],
dF (mV 44 9) [9],
dF (bN 45 .sub 43 44) [43,44],
dA (cL 46 MA [(cS [48]),45]) [45] false [0,12] [],
dF (mV 47 9) [9],
dA (cL 48 MA [(cS [48]),47]) [47] false [0,12] [],
dT (wO (.mupd (none,[0]) 29 (cI 6) 48)) [29,48],
dT (wO (.mupd (none,[0]) 29 (cI 5) 46)) [29,46],
dT (wO (.mupd (none,[0]) 29 (cI 3) 35)) [29,35],
dF (mV 49 29) [29],
dF (mV 11 49) [49]] [2,11]))))))))))))))))))))))))))))))))))))))))))))))))))))))))))
(.block 23 (.block 12 (.block 0 (.block 1 (.block 2 (.block 3 (.block 4 (.block 5 (.block 6 (.block 7 (.block 8 (.block 9 (.block 10 (.block 11 (.block 13 (.block 14 (.block 15 (.block 16 (.block 17 (.block 18 (.block 21 (.block 22 (.block 23 (.block 12 (.block 19 (.block 20 (.block 24 (.block 25 (dr [dT (uO 29 (.mkmap)) [],
dF (mV 30 10) [10],
dF (mV 31 0) [0],
dF (mV 32 9) [9],
dF (bN 33 .add 32 (cI 1)) [32],
dA (uO 34 (.slice (some 5) 31 (some 33) none none)) [31,33] false [0] [],
dA (uO 35 (.callv 30 [34])) [30,34] false [0] [],
dF (mV 36 10) [10],
dF (mV 37 0) [0],
dF (mV 38 9) [9],
dA (uO 39 (.slice (some 5) 37 none (some 38) none)) [37,38] false [0] [],
dA (uO 40 (.callv 36 [39])) [36,39] false [0] [],
dF (mV 41 0) [0],
dF (lN 42 41) [41],
dF (bN 43 .sub 42 (cI 1)) [42],
dF (mV 44 9) [9],
dF (bN 45 .sub 43 44) [43,44],
dA (cL 46 MA [(cS [48]),45]) [45] false [0] [],
dF (mV 47 9) [9],
dA (cL 48 MA [(cS [48]),47]) [47] false [0] [],
dT (wO (.mupd (none,[0]) 29 (cI 6) 48)) [29,48],
dT (wO (.mupd (none,[0]) 29 (cI 4) 40)) [29,40],
dT (wO (.mupd (none,[0]) 29 (cI 5) 46)) [29,46],
dT (wO (.mupd (none,[0]) 29 (cI 3) 35)) [29,35],
dF (mV 49 29) [29],
dF (mV 11 49) [49]] [2,11])))))))))))))))))))))))))))))))))))))))))))))))))))))))))))))))))))))))))))))))))))))))
(.block 20 (.block 12 (.block 0 (.block 1 (.block 2 (.block 3 (.block 4 (.block 5 (.block 6 (.block 7 (.block 8 (.block 9 (.block 10 (.block 11 (.block 14 (.block 15 (.block 16 (.block 17 (.block 18 (.block 19 (.block 20 (.block 12 (.block 13 (.block 21 (.block 22 (.block 23 (.block 24 (.block 25 (.condu (.c .anyb) (.block 18 (.block 23 (.block 0 (.block 1 (.block 2 (.block 3 (.block 4 (.block 5 (.block 6 (.block 7 (.block 8 (.block 9 (.block 10 (.block 11 (.block 12 (.block 13 (.block 14 (.block 15 (.block 16 (.block 17 (.block 18 (.block 19 (.block 20 (.block 21 (.block 22 (.block 23 (.block 24 (.block 25 (.condu (.c .anyb) (.block 19 (.block 23 (.block 0 (.block 1 (.block 2 (.block 3 (.block 4 (.block 5 (.block 6 (.block 7 (.block 8 (.block 9 (.block 10 (.block 11 (.block 12 (.block 13 (.block 14 (.block 15 (.block 16 (.block 17 (.block 18 (.block 19 (.block 20 (.block 21 (.block 22 (.block 23 (.block 24 (.block 25 (.condu (.c .anyb) (.block 20 (.block 23 (.block 0 (.block 1 (.block 2 (.block 3 (.block 4 (.block 5 (.block 6 (.block 7 (.block 8 (.block 9 (.block 10 (.block 11 (.block 12 (.block 13 (.block 14 (.block 15 (.block 16 (.block 17 (.block 18 (.block 19 (.block 20 (.block 21 (.block 22 (.block 23 (.block 24 (.block 25 (dr [dT (uO 29 (.mkmap)) [],
dF (mV 30 10) [10],
dF (mV 31 0) [0],
dF (mV 32 9) [9],
dF (bN 33 .add 32 (cI 1)) [32],
dA (uO 34 (.slice (some 5) 31 (some 33) none none)) [31,33] false [0] [],
dA (uO 35 (.callv 30 [34])) [30,34] false [0] [],
dF (mV 36 10) [10],
dF (mV 37 0) [0],
dF (mV 38 9) [9],
dA (uO 39 (.slice (some 5) 37 none (some 38) none)) [37,38] false [0] [],
dA (uO 40 (.callv 36 [39])) [36,39] false [0] [],
dF (mV 41 0) [0],
dF (lN 42 41) [41],
dF (bN 43 .sub 42 (cI 1)) [42],
dF (mV 44 9) [9],
dF (bN 45 .sub 43 44) [43,44],
dA (cL 46 MA [(cS [48]),45]) [45] false [0] [],
dT (wO (.mupd (none,[0]) 29 (cI 5) 46)) [29,46],
dT (wO (.mupd (none,[0]) 29 (cI 4) 40)) [29,40],
dT (wO (.mupd (none,[0]) 29 (cI 3) 35)) [29,35],
dF (mV 47 9) [9],
dA (cL 48 MA [(cS [48]),47]) [47] false [0,18,19,20] [],
dT (wO (.mupd (none,[0]) 29 (cI 6) 48)) [29,48],
dF (mV 49 29) [29],
dF (mV 11 49) [49]] [2,11])))))))))))))))))))))))))))))
(.block 23 (.block 20 (.block 0 (.block 1 (.block 2 (.block 3 (.block 4 (.block 5 (.block 6 (.block 7 (.block 8 (.block 9 (.block 10 (.block 11 (.block 12 (.block 13 (.block 14 (.block 15 (.block 16 (.block 17 (.block 18 (.block 19 (.block 21 (.block 22 (.block 23 (.block 20 (.block 24 (.block 25 (dr [dT (uO 29 (.mkmap)) [],
dF (mV 30 10) [10],
dF (mV 31 0) [0],
dF (mV 32 9) [9],
dF (bN 33 .add 32 (cI 1)) [32],
dA (uO 34 (.slice (some 5) 31 (some 33) none none)) [31,33] false [0] [],
dA (uO 35 (.callv 30 [34])) [30,34] false [0] [],
dF (mV 36 10) [10],
dF (mV 37 0) [0],
dF (mV 38 9) [9],
dA (uO 39 (.slice (some 5) 37 none (some 38) none)) [37,38] false [0] [],
dA (uO 40 (.callv 36 [39])) [36,39] false [0] [],
dF (mV 41 0) [0],
dF (lN 42 41) [41],
dF (bN 43 .sub 42 (cI 1)) [42],
dF (mV 44 9) [9],
dF (bN 45 .sub 43 44) [43,44],
dA (cL 46 MA [(cS [48]),45]) [45] false [0] [],
dT (wO (.mupd (none,[0]) 29 (cI 5) 46)) [29,46],
dT (wO (.mupd (none,[0]) 29 (cI 4) 40)) [29,40],
dF (mV 47 9) [9],
dA (cL 48 MA [(cS [48]),47]) [47] false [0,18,19] [],
dT (wO (.mupd (none,[0]) 29 (cI 6) 48)) [29,48],
dT (wO (.mupd (none,[0]) 29 (cI 3) 35)) [29,35],
dF (mV 49 29) [29],
dF (mV 11 49) [49]] [2,11]))))))))))))))))))))))))))))))))))))))))))))))))))))))))))
(.block 23 (.block 19 (.block 0 (.block 1 (.block 2 (.block 3 (.block 4 (.block 5 (.block 6 (.block 7 (.block 8 (.block 9 (.block 10 (.block 11 (.block 12 (.block 13 (.block 14 (.block 15 (.block 16 (.block 17 (.block 18 (.block 21 (.block 22 (.block 23 (.block 19 (.block 20 (.block 24 (.block 25 (dr [dT (uO 29 (.mkmap)) [],
dF (mV 30 10) [10],
dF (mV 31 0) [0],
dF (mV 32 9) [9],
dF (bN 33 .add 32 (cI 1)) [32],
dA (uO 34 (.slice (some 5) 31 (some 33) none none)) [31,33] false [0] [],
dA (uO 35 (.callv 30 [34])) [30,34] false [0] [],
dF (mV 36 10) [10],
dF (mV 37 0) [0],
dF (mV 38 9) [9],
dA (uO 39 (.slice (some 5) 37 none (some 38) none)) [37,38] false [0] [],
dA (uO 40 (.callv 36 [39])) [36,39] false [0] [],
dF (mV 41 0) [0],
dF (lN 42 41) [41],
dF (bN 43 .sub 42 (cI 1)) [42],
dF (mV 44 9) [9],
dF (bN 45 .sub 43 44) [43,44],
dA (cL 46 MA [(cS [48]),45]) [45] false [0] [],
dT (wO (.mupd (none,[0]) 29 (cI 5) 46)) [29,46],
dF (mV 47 9) [9],
dA (cL 48 MA [(cS [48]),47]) [47] false [0,18] [],
dT (wO (.mupd (none,[0]) 29 (cI 6) 48)) [29,48],
dT (wO (.mupd (none,[0]) 29 (cI 4) 40)) [29,40],
dT (wO (.mupd (none,[0]) 29 (cI 3) 35)) [29,35],
dF (mV 49 29) [29],
dF (mV 11 49) [49]] [2,11]))))))))))))))))))))))))))))))))))))))))))))))))))))))))))
(.block 23 (.block 18 (.block 0 (.block 1 (.block 2 (.block 3 (.block 4 (.block 5 (.block 6 (.block 7 (.block 8 (.block 9 (.block 10 (.block 11 (.block 12 (.block 13 (.block 14 (.block 15 (.block 16 (.block 17 (.block 21 (.block 22 (.block 23 (.block 18 (.block 19 (.block 20 (.block 24 (.block 25 (dr [dT (uO 29 (.mkmap)) [],
dF (mV 30 10) [10],
dF (mV 31 0) [0],
dF (mV 32 9) [9],
dF (bN 33 .add 32 (cI 1)) [32],
dA (uO 34 (.slice (some 5) 31 (some 33) none none)) [31,33] false [0] [],
dA (uO 35 (.callv 30 [34])) [30,34] false [0] [],
dF (mV 36 10) [10],
dF (mV 37 0) [0],
dF (mV 38 9) [9],
dA (uO 39 (.slice (some 5) 37 none (some 38) none)) [37,38] false [0] [],
dA (uO 40 (.callv 36 [39])) [36,39] false [0] [],
dF (mV 41 0) [0],
dF (lN 42 41) [41],
dF (bN 43 .sub 42 (cI 1)) [42],
dF (mV 44 9) [9],
dF (bN 45 .sub 43 44) [43,44],
dA (cL 46 MA [(cS [48]),45]) [45] false [0] [],
dF (mV 47 9) [9],
dA (cL 48 MA [(cS [48]),47]) [47] false [0] [],
dT (wO (.mupd (none,[0]) 29 (cI 6) 48)) [29,48],
dT (wO (.mupd (none,[0]) 29 (cI 5) 46)) [29,46],
dT (wO (.mupd (none,[0]) 29 (cI 4) 40)) [29,40],
dT (wO (.mupd (none,[0]) 29 (cI 3) 35)) [29,35],
dF (mV 49 29) [29],
dF (mV 11 49) [49]] [2,11]))))))))))))))))))))))))))))))))))))))))))))))))))))))))))))))))))))))))))))))))))))))))
bO)))))))
def eV:AFun:=⟨3,[.t 6,.t 7],hZ,false,false⟩
set_option maxHeartbeats 4000000 in
def GJ (C:Hd)(gl:GL)(e:En)(h:aA)(x:Esc)(K:KT):Sf C gl hZ e h x K:=⟨_,by simp (config:={maxSteps:=9999999}) only[hZ,↓wZ,AO.still];rfl⟩
theorem zdh {C gl v0 v1 v2 h x K}:NW C gl eV.body ⟨enter [v0,v1,v2],h,x⟩ K=(GJ C gl [(0,v0),(1,v1),(2,v2)] h x K).1:=(GJ C gl [(0,v0),(1,v1),(2,v2)] h x K).2
def oY:ACode:=(.seq (rg [mV 4 (cI 0)] [0,1])
(.seq (rg [mV 5 1,
mV 6 0,
mV 7 1,
lN 8 7,
cL 9 qE [6,8],
iA 10 none 5 9,
lD 11 none 10,
mV 4 11] [4])
.ret))
def pU:AFun:=⟨2,[.t 4],oY,false,false⟩
def FP (C:Hd)(gl:GL)(e:En)(h:aA)(x:Esc)(K:KT):Sf C gl oY e h x K:=⟨_,by simp only[oY,↓wZ,AO.still];rfl⟩
theorem zce {C gl v0 v1 h x K}:NW C gl pU.body ⟨enter [v0,v1],h,x⟩ K=(FP C gl [(0,v0),(1,v1)] h x K).1:=(FP C gl [(0,v0),(1,v1)] h x K).2
def qZ:ACode:=(.seq (rg [mV 4 (cI 0)] [0,1])
(.seq (rg [mV 5 0,
cL 6 jH [5],
mV 7 1,
cL 8 sG [7],
uO 9 (.bsl false none 2 (.int .i64 0) [(0,6),(1,8)]),
cL 10 dH [9],
mV 4 10] [4])
.ret))
def lV:AFun:=⟨2,[.t 4],qZ,false,false⟩
def wQ (C:Hd)(gl:GL)(e:En)(h:aA)(x:Esc)(K:KT):Sf C gl qZ e h x K:=⟨_,by simp only[qZ,↓wZ,AO.still];rfl⟩
theorem zdt {C gl v0 v1 h x K}:NW C gl lV.body ⟨enter [v0,v1],h,x⟩ K=(wQ C gl [(0,v0),(1,v1)] h x K).1:=(wQ C gl [(0,v0),(1,v1)] h x K).2
def JS:ACode:=.pr [5,6,8,11,29,30,31] (rg [mV 59 8,
mV 60 11,
uO 61 (.bsl false none 1 (.str []) [(0,60)]),
uO 62 (.app none 59 61),
mV 8 62] [5,6,8,29,30,31])
def CM (C:Hd)(gl:GL)(e:En)(h:aA)(x:Esc)(K:KT):Sf C gl JS e h x K:=⟨_,by simp only[JS,↓wZ,AO.still];rfl⟩
theorem bX {C gl e h x K}:NW C gl JS ⟨e,h,x⟩ K=(CM C gl e h x K).1:=(CM C gl e h x K).2
def KS:ACode:=.pr [5,6,8,29,30,31] (rg [bN 63 .add 31 (cI 1),
mV 31 63] [5,6,8,29,30,31])
def DM (C:Hd)(gl:GL)(e:En)(h:aA)(x:Esc)(K:KT):Sf C gl KS e h x K:=⟨_,by simp only[KS,↓wZ,AO.still];rfl⟩
theorem cX {C gl e h x K}:NW C gl KS ⟨e,h,x⟩ K=(DM C gl e h x K).1:=(DM C gl e h x K).2
def iL:ACode:=.pr [5,6,8,29,30,31] (.seq (rg [bN 32 .lss 31 30] [5,6,8,29,30,31,32])
(.seq (.cond 32 .skip
(.exit 0))
(.seq (.block 1 (.seq (rg [mV 33 31,
iA 34 (some 6) 29 31,
lD 35 (some 6) 34,
uO 10 (.alloc [.p (.int .i64 0),.p (.int .i64 0),.p (.int .i64 0),.p (.str []),.p (.str []),.p (.str [])]),
mV 9 33,
wO (.store (some 6) 10 35)] [5,6,8,9,10,29,30,31])
(.seq (rg [mV 11 (cS [])] [5,6,8,9,10,11,29,30,31])
(.seq (.seq (rg [fA 36 0 none 10,
lD 37 none 36,
cL 38 tG [37]] [5,6,8,9,10,11,29,30,31,38])
(.cond 38 (dr [dF (mV 39 6) [6],
dF (mV 40 5) [5],
dF (uO 41 (.nilchk 40)) [40],
dF (fA 42 41 none 41) [41],
dF (lD 43 none 42) [42],
dF (mV 44 9) [9],
dF (iA 45 none 43 44) [43,44],
dF (lD 46 none 45) [45],
dF (mV 47 5) [5],
dF (uO 48 (.nilchk 47)) [47],
dF (fA 49 41 none 48) [48],
dF (lD 50 none 49) [49],
dF (mV 51 9) [9],
dF (iA 52 none 50 51) [50,51],
dF (lD 53 none 52) [52],
dF (fA 54 3 none 10) [10],
dF (lD 55 none 54) [54],
dF (uO 56 (.lens 55)) [55],
dF (bN 57 .add 53 56) [53,56],
dF (uO 58 (.slstr 39 (some 46) (some 57))) [39,46,57],
dF (mV 11 58) [58]] [5,6,8,11,29,30,31])
.skip))
JS))))
KS)))
def KJ (C:Hd)(gl:GL)(e:En)(h:aA)(x:Esc)(K:KT):Sf C gl iL e h x K:=⟨_,by simp only[iL,↓wZ,AO.still];rfl⟩
theorem NQ {C gl e h x K}:NW C gl iL ⟨e,h,x⟩ K=(KJ C gl e h x K).1:=(KJ C gl e h x K).2
theorem zfl {C gl e h x K}:NW C gl (.loop (.scope iL)) ⟨e,h,x⟩ K=ZA C gl (.scope iL) K [(5,kA e 5),(6,kA e 6),(8,kA e 8),(29,kA e 29),(30,kA e 30),(31,kA e 31)] h x:=WC
def LS:ACode:=.pr [8] (.seq (rg [mV 64 8,
mV 4 64] [4])
.ret)
def vQ (C:Hd)(gl:GL)(e:En)(h:aA)(x:Esc)(K:KT):Sf C gl LS e h x K:=⟨_,by simp only[LS,↓wZ,AO.still];rfl⟩
theorem z2t {C gl e h x K}:NW C gl LS ⟨e,h,x⟩ K=(vQ C gl e h x K).1:=(vQ C gl e h x K).2
def pZ:ACode:=(.seq (rg [mV 4 (.c (.p (.sl none [])))] [0,1])
(.seq (rg [mV 12 1,
cL 13 CN [12],
mV 5 13] [0,1,5])
(.seq (dr [dF (mV 15 0) [0],
dF (mV 16 5) [5],
dF (uO 17 (.nilchk 16)) [16],
dF (fA 18 42 none 17) [17],
dF (lD 19 none 18) [18],
dF (uO 20 (.conv .b2s 19)) [19],
dF (mV 21 5) [5],
dF (uO 22 (.nilchk 21)) [21],
dF (fA 23 43 none 22) [22],
dF (lD 24 none 23) [23],
dF (uO 25 (.conv .b2s 24)) [24],
dT (cL 26 qN [15,20,25]) [15,20,25],
dF (mV 14 26) [26],
dF (eX 27 14 0) [14],
dF (eX 28 14 1) [14],
dF (mV 6 27) [27],
dF (mV 7 28) [28]] [1,5,6])
(.seq (rg [uO 8 (.new0 none)] [1,5,6,8])
(.seq (.seq (rg [mV 29 1,
lN 30 29,
mV 31 (cI 0)] [5,6,8,29,30,31])
(.block 0 (.loop (.scope iL))))
LS)))))
def kV:AFun:=⟨2,[.t 4],pZ,false,false⟩
def uQ (C:Hd)(gl:GL)(e:En)(h:aA)(x:Esc)(K:KT):Sf C gl pZ e h x K:=⟨_,by simp only[pZ,↓wZ,AO.still];rfl⟩
theorem zds {C gl v0 v1 h x K}:NW C gl kV.body ⟨enter [v0,v1],h,x⟩ K=(uQ C gl [(0,v0),(1,v1)] h x K).1:=(uQ C gl [(0,v0),(1,v1)] h x K).2
def lZ:ACode:=(.seq (rg [mV 2 cF] [0])
(.seq (rg [mV 3 0,
bN 4 .eql 3 (cI 7),
mV 5 4,
gD 6 5 false (.mv 0),
gD 7 5 false (.bin .eql 6 (cI 8)),
uO 8 (.pick 5 cT 7),
mV 2 8] [2])
.ret))
def QO:AFun:=⟨1,[.t 2],lZ,false,false⟩
def IJ (C:Hd)(gl:GL)(e:En)(h:aA)(x:Esc)(K:KT):Sf C gl lZ e h x K:=⟨_,by simp only[lZ,↓wZ,AO.still];rfl⟩
theorem zdl {C gl v0 h x K}:NW C gl QO.body ⟨enter [v0],h,x⟩ K=(IJ C gl [(0,v0)] h x K).1:=(IJ C gl [(0,v0)] h x K).2
def uY:ACode:=(.seq (rg [mV 2 cF] [0])
(.seq (rg [mV 3 0,
uO 4 (.lens 3),
cL 5 iH [4,(cI 1),(cI 40)],
mV 6 5,
gD 7 6 true (.mv 0),
gD 8 6 true (.call tI [7,(cS [97,98,99,100,101,102,103,104,105,106,107,108,109,110,111,112,113,114,115,116,117,118,119,120,121,122,48,49,50,51,52,53,54,55,56,57,45,95])]),
gD 9 6 true (.bin .eql 8 (cS [])),
uO 10 (.pick 6 9 cF),
mV 11 10,
gD 12 11 true (.mv 0),
gD 13 11 true (.idxs 12 (cI 0)),
gD 14 11 true (.call mN [(cS [97,98,99,100,101,102,103,104,105,106,107,108,109,110,111,112,113,114,115,116,117,118,119,120,121,122]),13]),
gD 15 11 true (.bin .geq 14 (cI 0)),
uO 16 (.pick 11 15 cF),
mV 2 16] [2])
.ret))
def vU:AFun:=⟨1,[.t 2],uY,false,false⟩
def gI (C:Hd)(gl:GL)(e:En)(h:aA)(x:Esc)(K:KT):Sf C gl uY e h x K:=⟨_,by simp only[uY,↓wZ,AO.still];rfl⟩
theorem zck {C gl v0 h x K}:NW C gl vU.body ⟨enter [v0],h,x⟩ K=(gI C gl [(0,v0)] h x K).1:=(gI C gl [(0,v0)] h x K).2
def DY:ACode:=(.seq (rg [mV 4 cF] [0,1])
(.seq (rg [mV 5 0,
mV 6 1,
cL 7 sI [5,6],
bN 8 .geq 7 (cI 0),
mV 4 8] [4])
.ret))
def EU:AFun:=⟨2,[.t 4],DY,true,false⟩
def QP (C:Hd)(gl:GL)(e:En)(h:aA)(x:Esc)(K:KT):Sf C gl DY e h x K:=⟨_,by simp only[DY,↓wZ,AO.still];rfl⟩
theorem zct {C gl v0 v1 h x K}:NW C gl EU.body ⟨enter [v0,v1],h,x⟩ K=(QP C gl [(0,v0),(1,v1)] h x K).1:=(QP C gl [(0,v0),(1,v1)] h x K).2
def tY:ACode:=(.seq (rg [uO 2 (.box 0),
mV 3 cF] [1,2])
(.seq (rg [fA 4 0 none 2,
lD 5 none 4,
fA 6 0 none 1,
lD 7 none 6,
bN 8 .eql 5 7,
mV 3 8] [3])
.ret))
def uU:AFun:=⟨2,[.t 3],tY,false,false⟩
def JP (C:Hd)(gl:GL)(e:En)(h:aA)(x:Esc)(K:KT):Sf C gl tY e h x K:=⟨_,by simp only[tY,↓wZ,AO.still];rfl⟩
theorem zcj {C gl v0 v1 h x K}:NW C gl uU.body ⟨enter [v0,v1],h,x⟩ K=(JP C gl [(0,v0),(1,v1)] h x K).1:=(JP C gl [(0,v0),(1,v1)] h x K).2
def vY:ACode:=(.seq (rg [mV 6 cF] [0,1,2])
(.seq (rg [mV 7 1,
mV 8 0,
bN 9 .leq 7 8,
mV 10 9,
gD 11 10 true (.mv 0),
gD 12 10 true (.mv 2),
gD 13 10 true (.bin .leq 11 12),
uO 14 (.pick 10 13 cF),
mV 6 14] [6])
.ret))
def wU:AFun:=⟨3,[.t 6],vY,false,false⟩
def KP (C:Hd)(gl:GL)(e:En)(h:aA)(x:Esc)(K:KT):Sf C gl vY e h x K:=⟨_,by simp only[vY,↓wZ,AO.still];rfl⟩
theorem zcl {C gl v0 v1 v2 h x K}:NW C gl wU.body ⟨enter [v0,v1,v2],h,x⟩ K=(KP C gl [(0,v0),(1,v1),(2,v2)] h x K).1:=(KP C gl [(0,v0),(1,v1),(2,v2)] h x K).2
def MK:ACode:=.pr [1,18,19,20] (.seq (rg [bN 21 .lss 20 19] [1,18,19,20,21])
(.seq (.cond 21 .skip
(.exit 0))
(.seq (.block 1 (.seq (rg [mV 22 20,
iA 23 (some 2) 18 20,
lD 24 (some 2) 23,
uO 4 (.alloc [.p (.str []),.p (.int .i64 0)]),
mV 3 22,
wO (.store (some 2) 4 24)] [1,3,4,18,19,20])
(.block 2 (.seq (rg [fA 26 0 none 4,
lD 27 none 26,
cL 28 UJ [27],
uO 29 (.un .not 28),
mV 25 29] [1,3,4,18,19,20,25])
(.cond 25 (.seq (rg [mV 2 (cI 5)] [2])
.ret)
(.seq (rg [fA 31 0 none 4,
lD 32 none 31,
bN 33 .eql 32 (cS [98,121,112,97,115,115]),
mV 34 33,
gD 35 34 false (.faddr 0 none 4),
gD 36 34 false (.load none 35),
gD 37 34 false (.bin .eql 36 (cS [105,100,99,111,100,101])),
uO 38 (.pick 34 cT 37),
mV 39 38,
gD 40 39 false (.faddr 3 none 1),
gD 41 39 false (.load none 40),
gD 42 39 false (.mv 3),
gD 43 39 false (.slice (some 2) 41 none (some 42) none),
gD 44 39 false (.mkfn dN [4]),
gD 45 39 false (.call rI [43,44]),
uO 46 (.pick 39 cT 45),
mV 30 46] [1,4,18,19,20,30])
(.cond 30 (.seq (rg [mV 2 (cI 6)] [2])
.ret)
(.seq (rg [fA 48 1 none 4,
lD 49 none 48,
cL 50 iH [49,(cI 1),(cI 1000)],
uO 51 (.un .not 50),
mV 47 51] [1,18,19,20,47])
(.cond 47 (.seq (rg [mV 2 (cI 1)] [2])
.ret)
.skip)))))))))
(rg [bN 52 .add 20 (cI 1),
mV 20 52] [1,18,19,20]))))
def aF (C:Hd)(gl:GL)(e:En)(h:aA)(x:Esc)(K:KT):Sf C gl MK e h x K:=⟨_,by simp only[MK,↓wZ,AO.still];rfl⟩
theorem pG {C gl e h x K}:NW C gl MK ⟨e,h,x⟩ K=(aF C gl e h x K).1:=(aF C gl e h x K).2
theorem zeP {C gl e h x K}:NW C gl (.loop (.scope MK)) ⟨e,h,x⟩ K=ZA C gl (.scope MK) K [(1,kA e 1),(18,kA e 18),(19,kA e 19),(20,kA e 20)] h x:=WC
def NK:ACode:=.pr [1,55,56] (.seq (rg [bN 57 .lss 56 55] [1,55,56,57])
(.seq (.cond 57 .skip
(.exit 3))
(.seq (.block 4 (.seq (rg [mV 58 56,
mV 5 58] [1,5,55,56])
(.seq (rg [lD 59 (some 5) 1,
mV 60 5,
cL 61 YM [59,60],
mV 6 61] [1,6,55,56])
(.seq (rg [mV 62 6,
bN 63 .neq 62 (cI 0)] [1,6,55,56,63])
(.cond 63 (.seq (rg [mV 64 6,
mV 2 64] [2])
.ret)
.skip)))))
(rg [bN 65 .add 56 (cI 1),
mV 56 65] [1,55,56]))))
def iI (C:Hd)(gl:GL)(e:En)(h:aA)(x:Esc)(K:KT):Sf C gl NK e h x K:=⟨_,by simp only[NK,↓wZ,AO.still];rfl⟩
theorem IM {C gl e h x K}:NW C gl NK ⟨e,h,x⟩ K=(iI C gl e h x K).1:=(iI C gl e h x K).2
theorem zeQ {C gl e h x K}:NW C gl (.loop NK) ⟨e,h,x⟩ K=ZA C gl NK K [(1,kA e 1),(55,kA e 55),(56,kA e 56)] h x:=GC
def XR:ACode:=.pr [] (.seq (rg [mV 2 (cI 0)] [2])
.ret)
def nM (C:Hd)(gl:GL)(e:En)(h:aA)(x:Esc)(K:KT):Sf C gl XR e h x K:=⟨_,by simp only[XR,↓wZ,AO.still];rfl⟩
theorem PW {C gl e h x K}:NW C gl XR ⟨e,h,x⟩ K=(nM C gl e h x K).1:=(nM C gl e h x K).2
def ZN:ACode:=.pr [1] (.seq (.seq (rg [fA 53 4 none 1,
lD 54 none 53,
lN 55 54,
mV 56 (cI 0)] [1,55,56])
(.block 3 (.loop NK)))
XR)
def oM (C:Hd)(gl:GL)(e:En)(h:aA)(x:Esc)(K:KT):Sf C gl ZN e h x K:=⟨_,by simp only[ZN,↓wZ,AO.still];rfl⟩
theorem QW {C gl e h x K}:NW C gl ZN ⟨e,h,x⟩ K=(oM C gl e h x K).1:=(oM C gl e h x K).2
def zY:ACode:=(.seq (rg [uO 1 (.box 0),
mV 2 (cI 0)] [1])
(.seq (.seq (rg [fA 7 3 none 1,
lD 8 none 7,
lN 9 8,
bN 10 .gtr 9 (cI 10),
mV 11 10,
gD 12 11 false (.faddr 4 none 1),
gD 13 11 false (.load none 12),
gD 14 11 false (.len 13),
gD 15 11 false (.bin .gtr 14 (cI 100)),
uO 16 (.pick 11 cT 15)] [1,16])
(.cond 16 (.seq (rg [mV 2 (cI 2)] [2])
.ret)
.skip))
(.seq (.seq (rg [fA 17 3 none 1,
lD 18 none 17,
lN 19 18,
mV 20 (cI 0)] [1,18,19,20])
(.block 0 (.loop (.scope MK))))
ZN)))
def AU:AFun:=⟨1,[.t 2],zY,false,false⟩
def zJ (C:Hd)(gl:GL)(e:En)(h:aA)(x:Esc)(K:KT):Sf C gl zY e h x K:=⟨_,by simp only[zY,↓wZ,AO.still];rfl⟩
theorem zcp {C gl v0 h x K}:NW C gl AU.body ⟨enter [v0],h,x⟩ K=(zJ C gl [(0,v0)] h x K).1:=(zJ C gl [(0,v0)] h x K).2
def bL:ACode:=.pr [0,10,11,12] (.seq (rg [bN 13 .lss 12 11] [0,10,11,12,13])
(.seq (.cond 13 .skip
(.exit 0))
(.seq (.block 1 (.seq (rg [iA 14 (some 6) 10 12,
lD 15 (some 6) 14,
uO 4 (.alloc [.p (.int .i64 0),.p (.int .i64 0),.p (.int .i64 0),.p (.str []),.p (.str []),.p (.str [])]),
wO (.store (some 6) 4 15)] [0,4,10,11,12])
(.seq (.seq (rg [fA 16 0 none 4,
lD 17 none 16,
cL 18 WB [17,(cI 1),(cI 10)]] [0,4,10,11,12,18])
(.cond 18 (.seq (rg [mV 2 (cI 4)] [2])
.ret)
.skip))
(.seq (rg [lD 20 (some 6) 4,
cL 21 dK [20],
mV 19 21,
eX 22 19 0,
eX 23 19 1,
uO 5 (.alloc [.p (.int .i64 0),.p (.int .i64 0),.p (.int .i64 0),.p (.str []),.p (.str []),.p (.str [])]),
wO (.store (some 6) 5 22),
mV 6 23] [0,4,5,6,10,11,12])
(.block 2 (.seq (rg [mV 25 6,
bN 26 .neq 25 (cI 0),
mV 24 26] [0,4,5,6,10,11,12,24])
(.cond 24 (.seq (rg [mV 27 6,
mV 2 27] [2])
.ret)
(.seq (rg [lD 29 (some 6) 5,
fA 30 0 none 4,
lD 31 none 30,
uO 32 (.build [.p (.int .i64 0),.p (.int .i64 0),.p (.int .i64 0),.p (.str []),.p (.str []),.p (.str [])] [(0,1,31)]),
uO 33 (.eqa [0,0,0,2,2,2] true 29 32),
mV 28 33] [0,10,11,12,28])
(.cond 28 (.seq (rg [mV 2 (cI 3)] [2])
.ret)
.skip)))))))))
(rg [bN 34 .add 12 (cI 1),
mV 12 34] [0,10,11,12]))))
def xW (C:Hd)(gl:GL)(e:En)(h:aA)(x:Esc)(K:KT):Sf C gl bL e h x K:=⟨_,by simp only[bL,↓wZ,AO.still];rfl⟩
theorem zdf {C gl e h x K}:NW C gl bL ⟨e,h,x⟩ K=(xW C gl e h x K).1:=(xW C gl e h x K).2
theorem zfg {C gl e h x K}:NW C gl (.loop (.scope bL)) ⟨e,h,x⟩ K=ZA C gl (.scope bL) K [(0,kA e 0),(10,kA e 10),(11,kA e 11),(12,kA e 12)] h x:=WC
def yS:ACode:=.pr [0] (.seq (.seq (rg [mV 35 0,
cL 36 QF [35,(.c (.nilp))],
uO 37 (.nilchk 36),
fA 38 37 none 37,
lD 39 none 38,
bN 40 .gtr 39 (cI 20000)] [40])
(.cond 40 (.seq (rg [mV 2 (cI 2)] [2])
.ret)
.skip))
(.seq (rg [mV 2 (cI 0)] [2])
.ret))
def yW (C:Hd)(gl:GL)(e:En)(h:aA)(x:Esc)(K:KT):Sf C gl yS e h x K:=⟨_,by simp only[yS,↓wZ,AO.still];rfl⟩
theorem zdg {C gl e h x K}:NW C gl yS ⟨e,h,x⟩ K=(yW C gl e h x K).1:=(yW C gl e h x K).2
def gZ:ACode:=(.seq (rg [mV 2 (cI 0)] [0])
(.seq (.seq (rg [mV 7 0,
lN 8 7,
bN 9 .gtr 8 (cI 1000)] [0,9])
(.cond 9 (.seq (rg [mV 2 (cI 2)] [2])
.ret)
.skip))
(.seq (.seq (rg [mV 10 0,
lN 11 10,
mV 12 (cI 0)] [0,10,11,12])
(.block 0 (.loop (.scope bL))))
yS)))
def PO:AFun:=⟨1,[.t 2],gZ,false,false⟩
def vM (C:Hd)(gl:GL)(e:En)(h:aA)(x:Esc)(K:KT):Sf C gl gZ e h x K:=⟨_,by simp only[gZ,↓wZ,AO.still];rfl⟩
theorem zde {C gl v0 h x K}:NW C gl PO.body ⟨enter [v0],h,x⟩ K=(vM C gl [(0,v0)] h x K).1:=(vM C gl [(0,v0)] h x K).2
end Go.Am
end
section
/- The functions asv abstract code,and asv formulas over their values: printed by program out of the translation. -/
set_option linter.all false
set_option maxRecDepth 100000
namespace Go.Am
def NI:ACode:=.pr [5,13,14,15] (.seq (rg [bN 16 .lss 15 14] [5,13,14,15,16])
(.seq (.cond 16 .skip
(.exit 0))
(.seq (.block 1 (.seq (rg [iA 17 (some 6) 13 15,
lD 18 (some 6) 17,
uO 7 (.alloc [.p (.int .i64 0),.p (.int .i64 0),.p (.int .i64 0),.p (.str []),.p (.str []),.p (.str [])]),
wO (.store (some 6) 7 18)] [5,7,13,14,15])
(.seq (.seq (rg [mV 19 5,
uO 20 (.nilchk 19),
fA 21 37 none 20,
lD 22 none 21,
bN 23 .gtr 22 (cI 20000)] [5,7,13,14,15,23])
(.cond 23 (.exit 0)
.skip))
(rg [mV 24 5,
lD 25 (some 6) 7,
cL 26 fK [24,25]] [5,13,14,15]))))
(rg [bN 27 .add 15 (cI 1),
mV 15 27] [5,13,14,15]))))
def BW (C:Hd)(gl:GL)(e:En)(h:aA)(x:Esc)(K:KT):Sf C gl NI e h x K:=⟨_,by simp only[NI,↓wZ,AO.still];rfl⟩
theorem zdq {C gl e h x K}:NW C gl NI ⟨e,h,x⟩ K=(BW C gl e h x K).1:=(BW C gl e h x K).2
theorem zfk {C gl e h x K}:NW C gl (.loop (.scope NI)) ⟨e,h,x⟩ K=ZA C gl (.scope NI) K [(5,kA e 5),(13,kA e 13),(14,kA e 14),(15,kA e 15)] h x:=WC
def cO:ACode:=.pr [5] (.seq (rg [mV 28 5,
mV 4 28] [4])
.ret)
def CW (C:Hd)(gl:GL)(e:En)(h:aA)(x:Esc)(K:KT):Sf C gl cO e h x K:=⟨_,by simp only[cO,↓wZ,AO.still];rfl⟩
theorem zdr {C gl e h x K}:NW C gl cO ⟨e,h,x⟩ K=(CW C gl e h x K).1:=(CW C gl e h x K).2
def oZ:ACode:=(.seq (rg [mV 4 (.c (.nilp))] [0,1])
(.seq (rg [cL 8 kK [],
mV 9 1,
uO 10 (.isnil 0 true 9),
uO 11 (.build [.p (.int .i64 0),.p (.int .i64 0),.p (.int .i64 0),.p (.str []),.p (.str []),.p (.str []),.p (.int .i64 0),.p (.int .i64 0),.p (.int .i64 0),.p (.str []),.p (.str []),.p (.str []),.p (.int .i64 0),.p (.int .i64 0),.p (.int .i64 0),.p (.str []),.p (.str []),.p (.str []),.p (.int .i64 0),.p (.int .i64 0),.p (.int .i64 0),.p (.str []),.p (.str []),.p (.str []),.p (.int .i64 0),.p (.int .i64 0),.p (.int .i64 0),.p (.str []),.p (.str []),.p (.str []),.p (.int .i64 0),.p (.int .i64 0),.p (.int .i64 0),.p (.str []),.p (.str []),.p (.str []),.p (.int .i64 0),.p (.int .i64 0),.p (.int .i64 0),.p (.int .i64 0),.sl0 none,.sl0 none,.sl0 none,.sl0 none,.sl0 none,.p (.bool false)] [(0,36,8),(36,1,(cI 0)),(45,1,10)]),
uO 12 (.uns 12 0 [11]),
mV 5 12] [0,5])
(.seq (.seq (rg [mV 13 0,
lN 14 13,
mV 15 (cI 0)] [5,13,14,15])
(.block 0 (.loop (.scope NI))))
cO)))
def TO:AFun:=⟨2,[.t 4],oZ,false,false⟩
def BM (C:Hd)(gl:GL)(e:En)(h:aA)(x:Esc)(K:KT):Sf C gl oZ e h x K:=⟨_,by simp only[oZ,↓wZ,AO.still];rfl⟩
theorem zdp {C gl v0 v1 h x K}:NW C gl TO.body ⟨enter [v0,v1],h,x⟩ K=(BM C gl [(0,v0),(1,v1)] h x K).1:=(BM C gl [(0,v0),(1,v1)] h x K).2
def xZ:ACode:=(.seq (rg [mV 2 (.c (.nilp))] [0])
(.seq (rg [uO 3 (.alloc [.p (.bool false)]),
wO (.store none 3 cT)] [0,3])
(.seq (rg [mV 4 0,
cL 5 QF [4,3],
mV 2 5] [2])
.ret)))
def nV:AFun:=⟨1,[.t 2],xZ,false,false⟩
def yQ (C:Hd)(gl:GL)(e:En)(h:aA)(x:Esc)(K:KT):Sf C gl xZ e h x K:=⟨_,by simp only[xZ,↓wZ,AO.still];rfl⟩
theorem zdB {C gl v0 h x K}:NW C gl nV.body ⟨enter [v0],h,x⟩ K=(yQ C gl [(0,v0)] h x K).1:=(yQ C gl [(0,v0)] h x K).2
def SR:ACode:=.pr [0] (.seq (rg [mV 15 0,
mV 4 15] [4])
.ret)
def eW (C:Hd)(gl:GL)(e:En)(h:aA)(x:Esc)(K:KT):Sf C gl SR e h x K:=⟨_,by simp only[SR,↓wZ,AO.still];rfl⟩
theorem zca {C gl e h x K}:NW C gl SR ⟨e,h,x⟩ K=(eW C gl e h x K).1:=(eW C gl e h x K).2
def kY:ACode:=(.seq (rg [mV 4 (cI 0)] [0,1])
(.seq (.seq (rg [mV 5 1,
bN 6 .lss 5 (cI 1)] [0,1,6])
(.cond 6 (.seq (rg [mV 4 (cI 0)] [4])
.ret)
.skip))
(.seq (rg [mV 7 0,
mV 8 1,
bN 9 .rem 7 8,
mV 0 9] [0,1])
(.seq (.seq (rg [mV 10 0,
bN 11 .lss 10 (cI 0)] [0,1,11])
(.cond 11 (rg [mV 12 0,
mV 13 1,
bN 14 .add 12 13,
mV 0 14] [0])
.skip))
SR))))
def lU:AFun:=⟨2,[.t 4],kY,false,false⟩
def CP (C:Hd)(gl:GL)(e:En)(h:aA)(x:Esc)(K:KT):Sf C gl kY e h x K:=⟨_,by simp only[kY,↓wZ,AO.still];rfl⟩
theorem zbZ {C gl v0 v1 h x K}:NW C gl lU.body ⟨enter [v0,v1],h,x⟩ K=(CP C gl [(0,v0),(1,v1)] h x K).1:=(CP C gl [(0,v0),(1,v1)] h x K).2
def PK:ACode:=.pr [0,1,7,8] (.seq (rg [bN 9 .lss 8 7] [0,1,7,8,9])
(.seq (.cond 9 .skip
(.exit 0))
(.seq (.block 1 (.seq (rg [mV 10 8,
mV 5 10] [0,1,5,7,8])
(.seq (rg [mV 11 1,
mV 12 0,
mV 13 5,
iA 14 (some 5) 12 13,
lD 15 (some 5) 14,
uO 16 (.callv 11 [15])] [0,1,5,7,8,16])
(.cond 16 (.seq (rg [mV 17 5,
mV 4 17] [4])
.ret)
.skip))))
(rg [bN 18 .add 8 (cI 1),
mV 8 18] [0,1,7,8]))))
def iW (C:Hd)(gl:GL)(e:En)(h:aA)(x:Esc)(K:KT):Sf C gl PK e h x K:=⟨_,by simp only[PK,↓wZ,AO.still];rfl⟩
theorem zc0 {C gl e h x K}:NW C gl PK ⟨e,h,x⟩ K=(iW C gl e h x K).1:=(iW C gl e h x K).2
theorem zeS {C gl e h x K}:NW C gl (.loop PK) ⟨e,h,x⟩ K=ZA C gl PK K [(0,kA e 0),(1,kA e 1),(7,kA e 7),(8,kA e 8)] h x:=GC
def ZR:ACode:=.pr [] (.seq (rg [mV 4 (cI (-1))] [4])
.ret)
def jW (C:Hd)(gl:GL)(e:En)(h:aA)(x:Esc)(K:KT):Sf C gl ZR e h x K:=⟨_,by simp only[ZR,↓wZ,AO.still];rfl⟩
theorem zc1 {C gl e h x K}:NW C gl ZR ⟨e,h,x⟩ K=(jW C gl e h x K).1:=(jW C gl e h x K).2
def HY:ACode:=(.seq (rg [mV 4 (cI 0)] [0,1])
(.seq (.seq (rg [mV 6 0,
lN 7 6,
mV 8 (cI 0)] [0,1,7,8])
(.block 0 (.loop PK)))
ZR))
def IU:AFun:=⟨2,[.t 4],HY,true,false⟩
def TP (C:Hd)(gl:GL)(e:En)(h:aA)(x:Esc)(K:KT):Sf C gl HY e h x K:=⟨_,by simp only[HY,↓wZ,AO.still];rfl⟩
theorem zcz {C gl v0 v1 h x K}:NW C gl IU.body ⟨enter [v0,v1],h,x⟩ K=(TP C gl [(0,v0),(1,v1)] h x K).1:=(TP C gl [(0,v0),(1,v1)] h x K).2
def iZ:ACode:=(.seq (rg [uO 2 (.box 0),
mV 3 cF] [1,2])
(.seq (rg [fA 4 0 none 2,
lD 5 none 4,
lD 6 none 1,
bN 7 .eql 5 6,
mV 3 7] [3])
.ret))
def fV:AFun:=⟨2,[.t 3],iZ,false,false⟩
def rQ (C:Hd)(gl:GL)(e:En)(h:aA)(x:Esc)(K:KT):Sf C gl iZ e h x K:=⟨_,by simp only[iZ,↓wZ,AO.still];rfl⟩
theorem zdi {C gl v0 v1 h x K}:NW C gl fV.body ⟨enter [v0,v1],h,x⟩ K=(rQ C gl [(0,v0),(1,v1)] h x K).1:=(rQ C gl [(0,v0),(1,v1)] h x K).2
def gL:ACode:=.pr [3,6,7,8] (.seq (rg [bN 9 .lss 8 7] [3,6,7,8,9])
(.seq (.cond 9 .skip
(.exit 0))
(.seq (.block 1 (.seq (rg [iA 10 (some 5) 6 8,
lD 11 (some 5) 10,
uO 5 (.alloc [.p (.str []),.p (.int .i64 0),.p (.int .i64 0),.sl0 (some 2),.sl0 (some 2)]),
wO (.store (some 5) 5 11)] [3,5,6,7,8])
(rg [mV 12 3,
fA 13 1 none 5,
lD 14 none 13,
bN 15 .add 12 14,
mV 3 15] [3,6,7,8])))
(rg [bN 16 .add 8 (cI 1),
mV 8 16] [3,6,7,8]))))
def zM (C:Hd)(gl:GL)(e:En)(h:aA)(x:Esc)(K:KT):Sf C gl gL e h x K:=⟨_,by simp only[gL,↓wZ,AO.still];rfl⟩
theorem aX {C gl e h x K}:NW C gl gL ⟨e,h,x⟩ K=(zM C gl e h x K).1:=(zM C gl e h x K).2
theorem zfj {C gl e h x K}:NW C gl (.loop (.scope gL)) ⟨e,h,x⟩ K=ZA C gl (.scope gL) K [(3,kA e 3),(6,kA e 6),(7,kA e 7),(8,kA e 8)] h x:=WC
def GS:ACode:=.pr [3] (.seq (rg [mV 17 3,
cL 18 MA [(cS [49]),17],
mV 2 18] [2])
.ret)
def tQ (C:Hd)(gl:GL)(e:En)(h:aA)(x:Esc)(K:KT):Sf C gl GS e h x K:=⟨_,by simp only[GS,↓wZ,AO.still];rfl⟩
theorem z2s {C gl e h x K}:NW C gl GS ⟨e,h,x⟩ K=(tQ C gl e h x K).1:=(tQ C gl e h x K).2
def jZ:ACode:=(.seq (rg [mV 2 (cS [])] [0])
(.seq (rg [mV 3 (cI 0)] [0,3])
(.seq (.seq (rg [mV 6 0,
lN 7 6,
mV 8 (cI 0)] [3,6,7,8])
(.block 0 (.loop (.scope gL))))
GS)))
def iV:AFun:=⟨1,[.t 2],jZ,false,false⟩
def sQ (C:Hd)(gl:GL)(e:En)(h:aA)(x:Esc)(K:KT):Sf C gl jZ e h x K:=⟨_,by simp only[jZ,↓wZ,AO.still];rfl⟩
theorem zdj {C gl v0 h x K}:NW C gl iV.body ⟨enter [v0],h,x⟩ K=(sQ C gl [(0,v0)] h x K).1:=(sQ C gl [(0,v0)] h x K).2
def mZ:ACode:=(.seq (rg [mV 2 cF] [0])
(.seq (rg [mV 3 0,
cL 4 WB [3,(cI 1),(cI 6)],
uO 5 (.un .not 4),
mV 2 5] [2])
.ret))
def RO:AFun:=⟨1,[.t 2],mZ,false,false⟩
def JJ (C:Hd)(gl:GL)(e:En)(h:aA)(x:Esc)(K:KT):Sf C gl mZ e h x K:=⟨_,by simp only[mZ,↓wZ,AO.still];rfl⟩
theorem zdm {C gl v0 h x K}:NW C gl RO.body ⟨enter [v0],h,x⟩ K=(JJ C gl [(0,v0)] h x K).1:=(JJ C gl [(0,v0)] h x K).2
def vZ:ACode:=(.seq (rg [mV 4 (.c (.nilp))] [0,1])
(.seq (.seq (rg [mV 5 1] [0,5])
(.block 0 (.seq (rg [bN 7 .eql 5 (cI 1),
mV 6 7] [0,5,6])
(.cond 6 (.seq (rg [mV 8 0,
uO 9 (.nilchk 8),
fA 10 0 (some 6) 9,
mV 4 10] [4])
.ret)
(.seq (rg [bN 12 .eql 5 (cI 2),
mV 11 12] [0,5,11])
(.cond 11 (.seq (rg [mV 13 0,
uO 14 (.nilchk 13),
fA 15 6 (some 6) 14,
mV 4 15] [4])
.ret)
(.seq (rg [bN 17 .eql 5 (cI 3),
mV 16 17] [0,5,16])
(.cond 16 (.seq (rg [mV 18 0,
uO 19 (.nilchk 18),
fA 20 12 (some 6) 19,
mV 4 20] [4])
.ret)
(.seq (rg [bN 22 .eql 5 (cI 4),
mV 21 22] [0,5,21])
(.cond 21 (.seq (rg [mV 23 0,
uO 24 (.nilchk 23),
fA 25 18 (some 6) 24,
mV 4 25] [4])
.ret)
(.seq (rg [bN 27 .eql 5 (cI 5),
mV 26 27] [0,26])
(.cond 26 (.seq (rg [mV 28 0,
uO 29 (.nilchk 28),
fA 30 24 (some 6) 29,
mV 4 30] [4])
.ret)
.skip))))))))))))
(.seq (rg [mV 31 0,
uO 32 (.nilchk 31),
fA 33 30 (some 6) 32,
mV 4 33] [4])
.ret)))
def aP:AFun:=⟨2,[.t 4],vZ,false,false⟩
def nG (C:Hd)(gl:GL)(e:En)(h:aA)(x:Esc)(K:KT):Sf C gl vZ e h x K:=⟨_,by simp only[vZ,↓wZ,AO.still];rfl⟩
theorem zdA {C gl v0 v1 h x K}:NW C gl aP.body ⟨enter [v0,v1],h,x⟩ K=(nG C gl [(0,v0),(1,v1)] h x K).1:=(nG C gl [(0,v0),(1,v1)] h x K).2
def OI:ACode:=.pr [0,4,35,36] (.seq (rg [bN 37 .lss 36 35] [0,4,35,36,37])
(.seq (.cond 37 .skip
(.exit 1))
(.seq (.block 2 (rg [mV 38 0,
cL 39 uG [38,(.c (.p (.int .u8 48))),(.c (.p (.int .u8 48))),(.c (.p (.int .u8 120)))]] [0,4,35,36]))
(rg [bN 40 .add 36 (cI 1),
mV 36 40] [0,4,35,36]))))
def z1S (C:Hd)(gl:GL)(v0 v4 v35 v36:AV)(h:aA)(x:Esc)(K:KT):Prop:=
 pK (gB .lss v36 v35) fun t1=>
 mD t1 (C uG [v0,(.p (.int .u8 48)),(.p (.int .u8 48)),(.p (.int .u8 120))] h fun t2 h3 y4=>
 pK (gB .add v36 (AI 1)) fun t5=>
 K .normal ⟨[(0,v0),(4,v4),(35,v35),(36,t5)],h3,(y4++x)⟩)
 (K (.exit 1) ⟨[(0,v0),(4,v4),(35,v35),(36,v36),(37,t1)],h,x⟩)
theorem zd4 {C gl e h x K}:NW C gl OI ⟨e,h,x⟩ K=z1S C gl (kA e 0) (kA e 4) (kA e 35) (kA e 36) h x K:=by kernel_rfl
theorem zfn {C gl e h x K}:NW C gl (.loop OI) ⟨e,h,x⟩ K=ZA C gl OI K [(0,kA e 0),(4,kA e 4),(35,kA e 35),(36,kA e 36)] h x:=GC
def dO:ACode:=.pr [0,4] (.seq (dr [dF (mV 41 0) [0],
dF (mV 42 0) [0],
dF (uO 43 (.nilchk 42)) [42],
dF (fA 44 40 none 43) [43],
dF (lD 45 none 44) [44],
dF (mV 46 0) [0],
dF (uO 47 (.nilchk 46)) [46],
dF (fA 48 36 none 47) [47],
dF (lD 49 none 48) [48],
dF (uO 50 (.bsl false none 1 (.int .i64 0) [(0,49)])) [49],
dT (uO 51 (.app none 45 50)) [45,50],
dF (uO 52 (.nilchk 41)) [41],
dF (fA 53 40 none 52) [52],
dT (wO (.store none 53 51)) [53,51]] [0,4])
(rg [mV 54 0,
mV 55 0,
uO 56 (.nilchk 55),
fA 57 41 none 56,
lD 58 none 57,
mV 59 4,
uO 60 (.bsl false none 1 (.int .i64 0) [(0,59)]),
uO 61 (.app none 58 60),
uO 62 (.nilchk 54),
fA 63 41 none 62,
wO (.store none 63 61)] []))
def GM (C:Hd)(gl:GL)(v0 v4:AV)(h:aA)(x:Esc)(K:KT):Prop:=
 pK (uE v0) fun t1=>
 pK (SC 40 none t1) fun t2=>
 pK (eC none t2 h) fun t3=>
 pK (uE v0) fun t4=>
 pK (SC 36 none t4) fun t5=>
 pK (eC none t5 h) fun t6=>
 wK (CG false none 1 (.int .i64 0) [(0,t6)] h) fun t7 h8 y9=>
 (h8=h∧y9=[])∧(wK (tK none t3 t7 h8) fun t10 h11 y12=>
 pK (uE v0) fun t13=>
 pK (SC 40 none t13) fun t14=>
 wK (nF none t14 t10 h11) fun t15 h16 y17=>
 pK (uE v0) fun t18=>
 pK (SC 41 none t18) fun t19=>
 pK (eC none t19 h16) fun t20=>
 wK (CG false none 1 (.int .i64 0) [(0,v4)] h16) fun t21 h22 y23=>
 wK (tK none t20 t21 h22) fun t24 h25 y26=>
 pK (uE v0) fun t27=>
 pK (SC 41 none t27) fun t28=>
 wK (nF none t28 t24 h25) fun t29 h30 y31=>
 K .normal ⟨[],h30,(y31++(y26++(y23++(y17++(y12++(y9++x))))))⟩)
theorem zd5 {C gl e h x K}:NW C gl dO ⟨e,h,x⟩ K=GM C gl (kA e 0) (kA e 4) h x K:=by kernel_rfl
def z0J (q1 q2:ACode):ACode:=(.seq (rg [uO 3 (.box 1)] [0,3])
(.seq (rg [mV 4 (cI 0)] [0,3,4])
(.seq (.block 0 (.seq (rg [fA 10 0 none 3,
lD 11 none 10,
cL 12 yI [11],
mV 9 12] [0,3,4,9])
(.cond 9 (dr [dF (mV 13 0) [0],
dF (uO 14 (.nilchk 13)) [13],
dF (fA 15 0 (some 36) 14) [14],
dF (fA 16 0 none 3) [3],
dF (lD 17 none 16) [16],
dT (cL 18 zI [15,17]) [15,17],
dA (lD 19 (some 6) 3) [3] false [5] [],
dF (uO 20 (.nilchk 18)) [18],
dT (wO (.store (some 6) 20 19)) [20,19]] [0,4])
(.seq (rg [fA 22 0 none 3,
lD 23 none 22,
cL 24 tG [23],
mV 21 24] [0,3,4,21])
(.cond 21 (rg [mV 25 0,
lD 26 (some 6) 3,
cL 27 vG [25,26],
mV 4 27] [0,4])
(.seq (rg [fA 29 0 none 3,
lD 30 none 29,
bN 31 .eql 30 (cI 9),
mV 28 31] [0,3,4,28])
(.cond 28 (.seq (rg [mV 32 0,
cL 33 kF [32,(cI 1)]] [0,3,4])
(.seq (rg [fA 34 2 none 3,
lD 35 none 34,
mV 36 (cI 0)] [0,4,35,36])
(.block 1 (.loop q1))))
(rg [mV 5 0,
fA 6 1 none 3,
lD 7 none 6,
cL 8 kF [5,7]] [0,4]))))))))
q2)))
def XO:AFun:=⟨2,[],z0J OI dO,false,false⟩
def oE (C:Hd)(gl:GL)(q1 q2:ACode)(v0 v1:AV)(h:aA)(x:Esc)(K:KT):Prop:=
 wK (NN v1 h) fun t1 h2 y3=>
 pK (SC 0 none t1) fun t4=>
 pK (eC none t4 h2) fun t5=>
 C yI [t5] h2 fun t6 h7 y8=>
 mD t6 (pK (uE v0) fun t9=>
 pK (SC 0 (some 36) t9) fun t10=>
 pK (SC 0 none t1) fun t11=>
 pK (eC none t11 h7) fun t12=>
 UE C zI [t10,t12] h7 fun t13 h14 y15=>
 pK (eC (some 6) t1 h14) fun t16=>
 (pK (eC (some 6) t1 h7) fun v=>(fun u (g1:aA) (y1:Esc)=>u=t16∧g1=h7∧y1=[]) v h7 [])∧(pK (uE t13) fun t17=>
 wK (nF (some 6) t17 t16 h14) fun t18 h19 y20=>
 NW C gl q2 ⟨[(0,v0),(4,(AI 0))],h19,(y20++(y15++(y8++(y3++x))))⟩ K))
 (pK (SC 0 none t1) fun t21=>
 pK (eC none t21 h7) fun t22=>
 C tG [t22] h7 fun t23 h24 y25=>
 mD t23 (pK (eC (some 6) t1 h24) fun t26=>
 C vG [v0,t26] h24 fun t27 h28 y29=>
 NW C gl q2 ⟨[(0,v0),(4,t27)],h28,(y29++(y25++(y8++(y3++x))))⟩ K)
 (pK (SC 0 none t1) fun t30=>
 pK (eC none t30 h24) fun t31=>
 pK (gB .eql t31 (AI 9)) fun t32=>
 mD t32 (C kF [v0,(AI 1)] h24 fun t33 h34 y35=>
 pK (SC 2 none t1) fun t36=>
 pK (eC none t36 h34) fun t37=>
 NW C gl (.loop q1) ⟨[(0,v0),(4,(AI 0)),(35,t37),(36,(AI 0))],h34,(y35++(y25++(y8++(y3++x))))⟩ (ED 1 (ED 0 (HG C gl q2 K))))
 (pK (SC 1 none t1) fun t38=>
 pK (eC none t38 h24) fun t39=>
 C kF [v0,t39] h24 fun t40 h41 y42=>
 NW C gl q2 ⟨[(0,v0),(4,(AI 0))],h41,(y42++(y25++(y8++(y3++x))))⟩ K)))
theorem z74 {C gl q1 q2 v0 v1 h x K}:NW C gl (z0J q1 q2) ⟨enter [v0,v1],h,x⟩ K=oE C gl q1 q2 v0 v1 h x K:=by kernel_rfl
theorem zd3 {C gl v0 v1 h x K}:NW C gl XO.body ⟨enter [v0,v1],h,x⟩ K=oE C gl OI dO v0 v1 h x K:=z74
def AK:ACode:=.pr [5,6,7] (.seq (rg [bN 8 .lss 7 6] [5,6,7,8])
(.seq (.cond 8 .skip
(.exit 0))
(.seq (.block 1 (.seq (rg [iA 9 none 5 7,
lD 10 none 9,
mV 4 10] [4,5,6,7])
(.seq (rg [mV 11 4,
bN 12 .neq 11 (cI 0)] [4,5,6,7,12])
(.cond 12 (.seq (rg [mV 13 4,
mV 2 13] [2])
.ret)
.skip))))
(rg [bN 14 .add 7 (cI 1),
mV 7 14] [5,6,7]))))
def GV (C:Hd)(gl:GL)(e:En)(h:aA)(x:Esc)(K:KT):Sf C gl AK e h x K:=⟨_,by simp only[AK,↓wZ,AO.still];rfl⟩
theorem zb6 {C gl e h x K}:NW C gl AK ⟨e,h,x⟩ K=(GV C gl e h x K).1:=(GV C gl e h x K).2
theorem zeD {C gl e h x K}:NW C gl (.loop AK) ⟨e,h,x⟩ K=ZA C gl AK K [(5,kA e 5),(6,kA e 6),(7,kA e 7)] h x:=GC
def AR:ACode:=.pr [] (.seq (rg [mV 2 (cI 0)] [2])
.ret)
def HV (C:Hd)(gl:GL)(e:En)(h:aA)(x:Esc)(K:KT):Sf C gl AR e h x K:=⟨_,by simp only[AR,↓wZ,AO.still];rfl⟩
theorem zb7 {C gl e h x K}:NW C gl AR ⟨e,h,x⟩ K=(HV C gl e h x K).1:=(HV C gl e h x K).2
def YX:ACode:=(.seq (rg [mV 2 (cI 0)] [0])
(.seq (.seq (rg [mV 5 0,
lN 6 5,
mV 7 (cI 0)] [5,6,7])
(.block 0 (.loop AK)))
AR))
def JO:AFun:=⟨1,[.t 2],YX,false,false⟩
def wP (C:Hd)(gl:GL)(e:En)(h:aA)(x:Esc)(K:KT):Sf C gl YX e h x K:=⟨_,by simp only[YX,↓wZ,AO.still];rfl⟩
theorem zb5 {C gl v0 h x K}:NW C gl JO.body ⟨enter [v0],h,x⟩ K=(wP C gl [(0,v0)] h x K).1:=(wP C gl [(0,v0)] h x K).2
def TK:ACode:=.pr [0,14,15,16] (.seq (rg [bN 17 .lss 16 15] [0,14,15,16,17])
(.seq (.cond 17 .skip
(.exit 1))
(.seq (.block 2 (.seq (rg [mV 18 16,
iA 19 (some 5) 14 16,
lD 20 (some 5) 19,
uO 4 (.alloc [.p (.str []),.p (.int .i64 0),.p (.int .i64 0),.sl0 (some 2),.sl0 (some 2)]),
mV 3 18,
wO (.store (some 5) 4 20)] [0,3,4,14,15,16])
(.seq (dr [dF (lD 21 (some 5) 4) [4],
dF (mV 22 0) [0],
dF (mV 23 3) [3],
dF (uO 24 (.slice (some 5) 22 none (some 23) none)) [22,23],
dT (cL 25 rN [21,24]) [21,24],
dF (mV 5 25) [25]] [0,5,14,15,16])
(.seq (rg [mV 26 5,
bN 27 .neq 26 (cI 0)] [0,5,14,15,16,27])
(.cond 27 (.seq (rg [mV 28 5,
mV 2 28] [2])
.ret)
.skip)))))
(rg [bN 29 .add 16 (cI 1),
mV 16 29] [0,14,15,16]))))
def BJ (C:Hd)(gl:GL)(e:En)(h:aA)(x:Esc)(K:KT):Sf C gl TK e h x K:=⟨_,by simp only[TK,↓wZ,AO.still];rfl⟩
theorem JQ {C gl e h x K}:NW C gl TK ⟨e,h,x⟩ K=(BJ C gl e h x K).1:=(BJ C gl e h x K).2
theorem zeW {C gl e h x K}:NW C gl (.loop (.scope TK)) ⟨e,h,x⟩ K=ZA C gl (.scope TK) K [(0,kA e 0),(14,kA e 14),(15,kA e 15),(16,kA e 16)] h x:=WC
def iS:ACode:=.pr [] (.seq (rg [mV 2 (cI 0)] [2])
.ret)
def aQ (C:Hd)(gl:GL)(e:En)(h:aA)(x:Esc)(K:KT):Sf C gl iS e h x K:=⟨_,by simp only[iS,↓wZ,AO.still];rfl⟩
theorem z2m {C gl e h x K}:NW C gl iS ⟨e,h,x⟩ K=(aQ C gl e h x K).1:=(aQ C gl e h x K).2
def PY:ACode:=(.seq (rg [mV 2 (cI 0)] [0])
(.seq (.block 0 (.seq (rg [mV 7 0,
lN 8 7,
bN 9 .eql 8 (cI 0),
mV 6 9] [0,6])
(.cond 6 (.seq (rg [mV 2 (cI 8)] [2])
.ret)
(.seq (rg [mV 11 0,
lN 12 11,
bN 13 .gtr 12 (cI 20),
mV 10 13] [0,10])
(.cond 10 (.seq (rg [mV 2 (cI 2)] [2])
.ret)
.skip)))))
(.seq (.seq (rg [mV 14 0,
lN 15 14,
mV 16 (cI 0)] [0,14,15,16])
(.block 1 (.loop (.scope TK))))
iS)))
def QU:AFun:=⟨1,[.t 2],PY,false,false⟩
def AJ (C:Hd)(gl:GL)(e:En)(h:aA)(x:Esc)(K:KT):Sf C gl PY e h x K:=⟨_,by simp only[PY,↓wZ,AO.still];rfl⟩
theorem zcE {C gl v0 h x K}:NW C gl QU.body ⟨enter [v0],h,x⟩ K=(AJ C gl [(0,v0)] h x K).1:=(AJ C gl [(0,v0)] h x K).2
def oS:ACode:=.pr [1,2,8,10,46,47] (rg [bN 73 .add 47 (cI 1),
mV 47 73] [1,2,8,10,46,47])
def pW (C:Hd)(gl:GL)(e:En)(h:aA)(x:Esc)(K:KT):Sf C gl oS e h x K:=⟨_,by simp only[oS,↓wZ,AO.still];rfl⟩
theorem zcI {C gl e h x K}:NW C gl oS ⟨e,h,x⟩ K=(pW C gl e h x K).1:=(pW C gl e h x K).2
def VK:ACode:=.pr [1,2,8,10,46,47] (.seq (rg [bN 48 .lss 47 46] [1,2,8,10,46,47,48])
(.seq (.cond 48 .skip
(.exit 1))
(.seq (.block 2 (.seq (rg [mV 49 47,
mV 11 49] [1,2,8,10,11,46,47])
(.seq (dr [dF (mV 50 8) [8],
dF (mV 51 1) [1],
dF (mV 52 11) [11],
dF (uO 53 (.idxs 51 52)) [51,52],
dF (bN 54 .sub 53 (.c (.p (.int .u8 48)))) [53],
dF (uO 55 (.conv (.i .i64) 54)) [54],
dF (mV 56 2) [2],
dF (mV 57 11) [11],
dF (uO 58 (.idxs 56 57)) [56,57],
dF (bN 59 .sub 58 (.c (.p (.int .u8 48)))) [58],
dF (uO 60 (.conv (.i .i64) 59)) [59],
dT (cL 61 oN [50,55,60]) [50,55,60],
dF (mV 12 61) [61]] [1,2,8,10,12,46,47])
(.seq (rg [mV 62 12,
bN 63 .lss 62 (cI 0)] [1,2,8,10,12,46,47,63])
(.cond 63 (rg [mV 64 10,
uO 65 (.bsl false none 1 (.int .u8 0) [(0,(.c (.p (.int .u8 122))))]),
uO 66 (.app none 64 65),
mV 10 66] [1,2,8,10,46,47])
(rg [mV 67 10,
mV 68 12,
bN 69 .add (cI 48) 68,
uO 70 (.conv (.i .u8) 69),
uO 71 (.bsl false none 1 (.int .u8 0) [(0,70)]),
uO 72 (.app none 67 71),
mV 10 72] [1,2,8,10,46,47]))))))
oS)))
def DJ (C:Hd)(gl:GL)(e:En)(h:aA)(x:Esc)(K:KT):Sf C gl VK e h x K:=⟨_,by simp only[VK,↓wZ,AO.still];rfl⟩
theorem LQ {C gl e h x K}:NW C gl VK ⟨e,h,x⟩ K=(DJ C gl e h x K).1:=(DJ C gl e h x K).2
theorem zeZ {C gl e h x K}:NW C gl (.loop (.scope VK)) ⟨e,h,x⟩ K=ZA C gl (.scope VK) K [(1,kA e 1),(2,kA e 2),(8,kA e 8),(10,kA e 10),(46,kA e 46),(47,kA e 47)] h x:=WC
def qS:ACode:=.pr [10] (.seq (rg [mV 74 10,
uO 75 (.conv .b2s 74),
mV 6 75,
mV 7 (cI 0)] [6,7])
.ret)
def qW (C:Hd)(gl:GL)(e:En)(h:aA)(x:Esc)(K:KT):Sf C gl qS e h x K:=⟨_,by simp only[qS,↓wZ,AO.still];rfl⟩
theorem zcJ {C gl e h x K}:NW C gl qS ⟨e,h,x⟩ K=(qW C gl e h x K).1:=(qW C gl e h x K).2
def SY:ACode:=(.seq (rg [mV 6 (cS []),
mV 7 (cI 0)] [0,1,2])
(.seq (rg [mV 14 0,
cL 15 pN [14],
mV 13 15,
eX 16 13 0,
eX 17 13 1,
mV 8 16,
mV 9 17] [1,2,8,9])
(.seq (.seq (rg [mV 18 9,
bN 19 .neq 18 (cI 0)] [1,2,8,9,19])
(.cond 19 (.seq (rg [mV 20 9,
mV 6 (cS []),
mV 7 20] [6,7])
.ret)
.skip))
(.seq (.block 0 (.seq (rg [mV 22 1,
uO 23 (.lens 22),
bN 24 .gtr 23 (cI 20000),
mV 25 24,
gD 26 25 false (.mv 2),
gD 27 25 false (.lens 26),
gD 28 25 false (.bin .gtr 27 (cI 20000)),
uO 29 (.pick 25 cT 28),
mV 21 29] [1,2,8,21])
(.cond 21 (.seq (rg [mV 6 (cS []),
mV 7 (cI 2)] [6,7])
.ret)
(.seq (rg [mV 31 1,
uO 32 (.lens 31),
mV 33 2,
uO 34 (.lens 33),
bN 35 .neq 32 34,
mV 30 35] [1,2,8,30])
(.cond 30 (.seq (rg [mV 6 (cS []),
mV 7 (cI 3)] [6,7])
.ret)
(.seq (rg [mV 37 1,
cL 38 ZD [37],
uO 39 (.un .not 38),
mV 40 39,
gD 41 40 false (.mv 2),
gD 42 40 false (.call ZD [41]),
gD 43 40 false (.un .not 42),
uO 44 (.pick 40 cT 43),
mV 36 44] [1,2,8,36])
(.cond 36 (.seq (rg [mV 6 (cS []),
mV 7 (cI 9)] [6,7])
.ret)
.skip)))))))
(.seq (rg [uO 10 (.new0 none)] [1,2,8,10])
(.seq (.seq (rg [mV 45 1,
uO 46 (.lens 45),
mV 47 (cI 0)] [1,2,8,10,46,47])
(.block 1 (.loop (.scope VK))))
qS))))))
def SU:AFun:=⟨3,[.t 6,.t 7],SY,false,false⟩
def dQ (C:Hd)(gl:GL)(e:En)(h:aA)(x:Esc)(K:KT):Sf C gl SY e h x K:=⟨_,by simp only[SY,↓wZ,AO.still];rfl⟩
theorem zcH {C gl v0 v1 v2 h x K}:NW C gl SU.body ⟨enter [v0,v1,v2],h,x⟩ K=(dQ C gl [(0,v0),(1,v1),(2,v2)] h x K).1:=(dQ C gl [(0,v0),(1,v1),(2,v2)] h x K).2
def MY:ACode:=(.seq (rg [mV 4 (cI 0)] [0,1])
(.seq (rg [mV 5 0,
mV 6 1,
cL 7 eH [5,6],
mV 4 7] [4])
.ret))
def NU:AFun:=⟨2,[.t 4],MY,false,false⟩
def YP (C:Hd)(gl:GL)(e:En)(h:aA)(x:Esc)(K:KT):Sf C gl MY e h x K:=⟨_,by simp only[MY,↓wZ,AO.still];rfl⟩
theorem zcA {C gl v0 v1 h x K}:NW C gl NU.body ⟨enter [v0,v1],h,x⟩ K=(YP C gl [(0,v0),(1,v1)] h x K).1:=(YP C gl [(0,v0),(1,v1)] h x K).2
def FY:ACode:=(.seq (rg [mV 4 cF] [0,1])
(.seq (rg [mV 5 0,
mV 6 1,
cL 7 XJ [5,6],
bN 8 .geq 7 (cI 0),
mV 4 8] [4])
.ret))
def GU:AFun:=⟨2,[.t 4],FY,true,false⟩
def SP (C:Hd)(gl:GL)(e:En)(h:aA)(x:Esc)(K:KT):Sf C gl FY e h x K:=⟨_,by simp only[FY,↓wZ,AO.still];rfl⟩
theorem zcv {C gl v0 v1 h x K}:NW C gl GU.body ⟨enter [v0,v1],h,x⟩ K=(SP C gl [(0,v0),(1,v1)] h x K).1:=(SP C gl [(0,v0),(1,v1)] h x K).2
def AY:ACode:=(.seq (rg [uO 2 (.box 0),
mV 3 cF] [1,2])
(.seq (rg [fA 4 0 none 2,
lD 5 none 4,
fA 6 0 none 1,
lD 7 none 6,
bN 8 .eql 5 7,
mV 3 8] [3])
.ret))
def BU:AFun:=⟨2,[.t 3],AY,false,false⟩
def NP (C:Hd)(gl:GL)(e:En)(h:aA)(x:Esc)(K:KT):Sf C gl AY e h x K:=⟨_,by simp only[AY,↓wZ,AO.still];rfl⟩
theorem zcq {C gl v0 v1 h x K}:NW C gl BU.body ⟨enter [v0,v1],h,x⟩ K=(NP C gl [(0,v0),(1,v1)] h x K).1:=(NP C gl [(0,v0),(1,v1)] h x K).2
def wY:ACode:=(.seq (rg [uO 2 (.box 0),
mV 4 (cI 0)] [1,2])
(.seq (rg [fA 7 4 none 2,
lD 8 none 7,
mV 9 1,
iA 10 (some 2) 8 9,
lD 11 (some 2) 10,
uO 5 (.alloc [.p (.str []),.p (.str [])]),
wO (.store (some 2) 5 11)] [1,2,5])
(.seq (rg [fA 12 3 none 2,
lD 13 none 12,
uO 14 (.mkfn ZM [5]),
cL 15 rI [13,14],
mV 6 15] [1,2,5,6])
(.seq (.block 0 (.seq (rg [fA 17 0 none 5,
lD 18 none 17,
uO 19 (.lens 18),
fA 20 1 none 2,
lD 21 none 20,
bN 22 .neq 19 21,
mV 16 22] [1,2,5,6,16])
(.cond 16 (.seq (rg [mV 4 (cI 3)] [4])
.ret)
(.seq (rg [fA 24 0 none 5,
lD 25 none 24,
cL 26 VM [25],
bN 27 .neq 26 (cI 0),
mV 23 27] [1,2,5,6,23])
(.cond 23 (.seq (rg [mV 4 (cI 9)] [4])
.ret)
(.seq (rg [fA 29 0 none 5,
lD 30 none 29,
cL 31 ZJ [30,(cS [48])],
uO 32 (.un .not 31),
mV 28 32] [1,2,5,6,28])
(.cond 28 (.seq (rg [mV 4 (cI 16)] [4])
.ret)
(.seq (rg [fA 34 4 none 2,
lD 35 none 34,
mV 36 1,
uO 37 (.slice (some 2) 35 none (some 36) none),
uO 38 (.mkfn aN [5]),
cL 39 WJ [37,38],
mV 33 39] [2,5,6,33])
(.cond 33 (.seq (rg [mV 4 (cI 6)] [4])
.ret)
(.seq (rg [fA 41 1 none 5,
lD 42 none 41,
bN 43 .eql 42 (cS [98,121,112,97,115,115]),
mV 44 43,
gD 45 44 false (.faddr 1 none 5),
gD 46 44 false (.load none 45),
gD 47 44 false (.bin .eql 46 (cS [105,100,99,111,100,101])),
gD 48 44 false (.mv 47),
gD 49 48 true (.faddr 2 none 2),
gD 50 48 true (.load none 49),
gD 51 48 true (.bin .neq 50 (cI 0)),
gD 52 44 false (.pick 48 51 cF),
uO 53 (.pick 44 cT 52),
mV 54 53,
gD 55 54 false (.mv 6),
uO 56 (.pick 54 cT 55),
mV 40 56] [40])
(.cond 40 (.seq (rg [mV 4 (cI 0)] [4])
.ret)
.skip)))))))))))
(.seq (rg [mV 4 (cI 8)] [4])
.ret)))))
def xU:AFun:=⟨2,[.t 4],wY,false,false⟩
def mE (C:Hd)(gl:GL)(e:En)(h:aA)(x:Esc)(K:KT):Sf C gl wY e h x K:=⟨_,by simp only[wY,↓wZ,AO.still];rfl⟩
theorem zcm {C gl v0 v1 h x K}:NW C gl xU.body ⟨enter [v0,v1],h,x⟩ K=(mE C gl [(0,v0),(1,v1)] h x K).1:=(mE C gl [(0,v0),(1,v1)] h x K).2
def aY:ACode:=(.seq (rg [mV 6 cF] [0,1,2])
(.seq (rg [mV 7 0,
mV 8 1,
bN 9 .lss 7 8,
mV 10 9,
gD 11 10 false (.mv 0),
gD 12 10 false (.mv 2),
gD 13 10 false (.bin .gtr 11 12),
uO 14 (.pick 10 cT 13),
mV 6 14] [6])
.ret))
def LO:AFun:=⟨3,[.t 6],aY,false,false⟩
def xP (C:Hd)(gl:GL)(e:En)(h:aA)(x:Esc)(K:KT):Sf C gl aY e h x K:=⟨_,by simp only[aY,↓wZ,AO.still];rfl⟩
theorem zbB {C gl v0 v1 v2 h x K}:NW C gl LO.body ⟨enter [v0,v1,v2],h,x⟩ K=(xP C gl [(0,v0),(1,v1),(2,v2)] h x K).1:=(xP C gl [(0,v0),(1,v1),(2,v2)] h x K).2
def IS:ACode:=.pr [2,4] (.seq (rg [lD 56 (some 6) 4,
wO (.store (some 6) 2 56),
mV 3 (cI 0)] [2,3])
.ret)
def zW (C:Hd)(gl:GL)(e:En)(h:aA)(x:Esc)(K:KT):Sf C gl IS e h x K:=⟨_,by simp only[IS,↓wZ,AO.still];rfl⟩
theorem zdo {C gl e h x K}:NW C gl IS ⟨e,h,x⟩ K=(zW C gl e h x K).1:=(zW C gl e h x K).2
def nZ:ACode:=(.seq (rg [uO 1 (.box 0),
uO 2 (.alloc [.p (.int .i64 0),.p (.int .i64 0),.p (.int .i64 0),.p (.str []),.p (.str []),.p (.str [])]),
mV 3 (cI 0)] [1,2])
(.seq (rg [lD 5 (some 6) 1,
uO 4 (.alloc [.p (.int .i64 0),.p (.int .i64 0),.p (.int .i64 0),.p (.str []),.p (.str []),.p (.str [])]),
wO (.store (some 6) 4 5)] [1,2,4])
(.seq (.block 0 (.seq (rg [fA 18 0 none 1,
lD 19 none 18,
bN 20 .eql 19 (cI 1),
mV 21 20,
gD 22 21 false (.faddr 0 none 1),
gD 23 21 false (.load none 22),
gD 24 21 false (.bin .eql 23 (cI 2)),
uO 25 (.pick 21 cT 24),
mV 26 25,
gD 27 26 false (.faddr 0 none 1),
gD 28 26 false (.load none 27),
gD 29 26 false (.bin .eql 28 (cI 10)),
uO 30 (.pick 26 cT 29),
mV 17 30] [1,2,4,17])
(.cond 17 (.seq (rg [fA 31 1 none 4,
wO (.store none 31 (cI 0))] [1,2,4])
(.seq (rg [fA 32 1 none 1,
lD 33 none 32,
cL 34 jK [33],
uO 35 (.un .not 34)] [2,4,35])
(.cond 35 (.seq (rg [lD 36 (some 6) 4,
wO (.store (some 6) 2 36),
mV 3 (cI 1)] [2,3])
.ret)
.skip)))
(.seq (rg [fA 38 0 none 1,
lD 39 none 38,
bN 40 .eql 39 (cI 9),
mV 37 40] [1,2,4,37])
(.cond 37 (.seq (rg [fA 41 2 none 4,
wO (.store none 41 (cI 0))] [1,2,4])
(.seq (rg [fA 42 2 none 1,
lD 43 none 42,
cL 44 WB [43,(cI 0),(cI 20000)]] [2,4,44])
(.cond 44 (.seq (rg [lD 45 (some 6) 4,
wO (.store (some 6) 2 45),
mV 3 (cI 1)] [2,3])
.ret)
.skip)))
(.seq (rg [fA 47 0 none 1,
lD 48 none 47,
cL 49 tG [48],
mV 46 49] [1,2,4,46])
(.cond 46 (.seq (rg [fA 50 3 none 4,
wO (.store none 50 (cS [])),
fA 51 4 none 4,
wO (.store none 51 (cS [])),
fA 52 5 none 4,
wO (.store none 52 (cS []))] [1,2,4])
(.seq (dr [dF (lD 53 (some 6) 4) [4],
dF (lD 54 (some 6) 1) [1],
dA (cL 55 iK [54]) [54] true [] [0],
dT (wO (.store (some 6) 2 53)) [2,53],
dF (mV 3 55) [55]] [2,3])
.ret))
(.seq (rg [fA 6 3 none 4,
wO (.store none 6 (cS []))] [1,2,4])
(.seq (.seq (rg [fA 7 3 none 1,
lD 8 none 7,
cL 9 ZD [8],
uO 10 (.un .not 9)] [1,2,4,10])
(.cond 10 (.seq (rg [lD 11 (some 6) 4,
wO (.store (some 6) 2 11),
mV 3 (cI 9)] [2,3])
.ret)
.skip))
(.seq (rg [fA 12 3 none 1,
lD 13 none 12,
uO 14 (.lens 13),
bN 15 .gtr 14 (cI 2000)] [2,4,15])
(.cond 15 (.seq (rg [lD 16 (some 6) 4,
wO (.store (some 6) 2 16),
mV 3 (cI 2)] [2,3])
.ret)
.skip)))))))))))
IS)))
def SO:AFun:=⟨1,[.cell 2 (some 6),.t 3],nZ,false,false⟩
def WD (C:Hd)(gl:GL)(e:En)(h:aA)(x:Esc)(K:KT):Sf C gl nZ e h x K:=⟨_,by simp only[nZ,↓wZ,AO.still];rfl⟩
theorem zdn {C gl v0 h x K}:NW C gl SO.body ⟨enter [v0],h,x⟩ K=(WD C gl [(0,v0)] h x K).1:=(WD C gl [(0,v0)] h x K).2
def zZ:ACode:=(.seq (rg [uO 0 (.alloc [.p (.int .i64 0),.p (.int .i64 0),.p (.int .i64 0),.p (.str []),.p (.str []),.p (.str []),.p (.int .i64 0),.p (.int .i64 0),.p (.int .i64 0),.p (.str []),.p (.str []),.p (.str []),.p (.int .i64 0),.p (.int .i64 0),.p (.int .i64 0),.p (.str []),.p (.str []),.p (.str []),.p (.int .i64 0),.p (.int .i64 0),.p (.int .i64 0),.p (.str []),.p (.str []),.p (.str []),.p (.int .i64 0),.p (.int .i64 0),.p (.int .i64 0),.p (.str []),.p (.str []),.p (.str []),.p (.int .i64 0),.p (.int .i64 0),.p (.int .i64 0),.p (.str []),.p (.str []),.p (.str [])])] [0])
(.seq (rg [uO 1 (.build [.p (.int .i64 0),.p (.int .i64 0),.p (.int .i64 0),.p (.str []),.p (.str []),.p (.str [])] [(0,1,(cI 1)),(1,1,(cI 1))]),
uO 2 (.build [.p (.int .i64 0),.p (.int .i64 0),.p (.int .i64 0),.p (.str []),.p (.str []),.p (.str [])] [(0,1,(cI 2)),(1,1,(cI 1))]),
uO 3 (.build [.p (.int .i64 0),.p (.int .i64 0),.p (.int .i64 0),.p (.str []),.p (.str []),.p (.str [])] [(0,1,(cI 3))]),
uO 4 (.build [.p (.int .i64 0),.p (.int .i64 0),.p (.int .i64 0),.p (.str []),.p (.str []),.p (.str [])] [(0,1,(cI 4))]),
uO 5 (.build [.p (.int .i64 0),.p (.int .i64 0),.p (.int .i64 0),.p (.str []),.p (.str []),.p (.str [])] [(0,1,(cI 5))]),
uO 6 (.build [.p (.int .i64 0),.p (.int .i64 0),.p (.int .i64 0),.p (.str []),.p (.str []),.p (.str [])] [(0,1,(cI 6))]),
uO 7 (.build [.p (.int .i64 0),.p (.int .i64 0),.p (.int .i64 0),.p (.str []),.p (.str []),.p (.str []),.p (.int .i64 0),.p (.int .i64 0),.p (.int .i64 0),.p (.str []),.p (.str []),.p (.str []),.p (.int .i64 0),.p (.int .i64 0),.p (.int .i64 0),.p (.str []),.p (.str []),.p (.str []),.p (.int .i64 0),.p (.int .i64 0),.p (.int .i64 0),.p (.str []),.p (.str []),.p (.str []),.p (.int .i64 0),.p (.int .i64 0),.p (.int .i64 0),.p (.str []),.p (.str []),.p (.str []),.p (.int .i64 0),.p (.int .i64 0),.p (.int .i64 0),.p (.str []),.p (.str []),.p (.str [])] [(0,6,1),(6,6,2),(12,6,3),(18,6,4),(24,6,5),(30,6,6)]),
wO (.store (some 36) 0 7)] [0])
.ret))
def cP:AFun:=⟨0,[.cell 0 (some 36)],zZ,false,false⟩
def zQ (C:Hd)(gl:GL)(e:En)(h:aA)(x:Esc)(K:KT):Sf C gl zZ e h x K:=⟨_,by simp only[zZ,↓wZ,AO.still];rfl⟩
theorem zdD {C gl h x K}:NW C gl cP.body ⟨enter [],h,x⟩ K=(zQ C gl [] h x K).1:=(zQ C gl [] h x K).2
def BK:ACode:=.pr [0,23,24] (.seq (rg [bN 25 .lss 24 23] [0,23,24,25])
(.seq (.cond 25 .skip
(.exit 0))
(.seq (.block 1 (.seq (rg [mV 26 24,
mV 3 26] [0,3,23,24])
(.seq (rg [mV 27 0,
mV 28 3,
uO 29 (.idxs 27 28),
mV 4 29] [0,4,23,24])
(.seq (rg [mV 30 4,
bN 31 .geq 30 (.c (.p (.int .u8 97))),
mV 32 31,
gD 33 32 true (.mv 4),
gD 34 32 true (.bin .leq 33 (.c (.p (.int .u8 122)))),
uO 35 (.pick 32 34 cF),
mV 36 35,
gD 37 36 false (.mv 4),
gD 38 36 false (.bin .geq 37 (.c (.p (.int .u8 48)))),
gD 39 36 false (.mv 38),
gD 40 39 true (.mv 4),
gD 41 39 true (.bin .leq 40 (.c (.p (.int .u8 57)))),
gD 42 36 false (.pick 39 41 cF),
uO 43 (.pick 36 cT 42),
mV 44 43,
gD 45 44 false (.mv 4),
gD 46 44 false (.bin .eql 45 (.c (.p (.int .u8 45)))),
uO 47 (.pick 44 cT 46),
mV 48 47,
gD 49 48 false (.mv 4),
gD 50 48 false (.bin .eql 49 (.c (.p (.int .u8 95)))),
uO 51 (.pick 48 cT 50),
uO 52 (.un .not 51)] [0,23,24,52])
(.cond 52 (.seq (rg [mV 2 cF] [2])
.ret)
.skip)))))
(rg [bN 53 .add 24 (cI 1),
mV 24 53] [0,23,24]))))
def IV (C:Hd)(gl:GL)(e:En)(h:aA)(x:Esc)(K:KT):Sf C gl BK e h x K:=⟨_,by simp only[BK,↓wZ,AO.still];rfl⟩
theorem zb9 {C gl e h x K}:NW C gl BK ⟨e,h,x⟩ K=(IV C gl e h x K).1:=(IV C gl e h x K).2
theorem zeE {C gl e h x K}:NW C gl (.loop BK) ⟨e,h,x⟩ K=ZA C gl BK K [(0,kA e 0),(23,kA e 23),(24,kA e 24)] h x:=GC
def BR:ACode:=.pr [] (.seq (rg [mV 2 cT] [2])
.ret)
def JV (C:Hd)(gl:GL)(e:En)(h:aA)(x:Esc)(K:KT):Sf C gl BR e h x K:=⟨_,by simp only[BR,↓wZ,AO.still];rfl⟩
theorem zbA {C gl e h x K}:NW C gl BR ⟨e,h,x⟩ K=(JV C gl e h x K).1:=(JV C gl e h x K).2
def ZX:ACode:=(.seq (rg [mV 2 cF] [0])
(.seq (.seq (rg [mV 5 0,
bN 6 .eql 5 (cS []),
mV 7 6,
gD 8 7 false (.mv 0),
gD 9 7 false (.lens 8),
gD 10 7 false (.bin .gtr 9 (cI 40)),
uO 11 (.pick 7 cT 10),
mV 12 11,
gD 13 12 false (.mv 0),
gD 14 12 false (.idxs 13 (cI 0)),
gD 15 12 false (.bin .lss 14 (.c (.p (.int .u8 97)))),
uO 16 (.pick 12 cT 15),
mV 17 16,
gD 18 17 false (.mv 0),
gD 19 17 false (.idxs 18 (cI 0)),
gD 20 17 false (.bin .gtr 19 (.c (.p (.int .u8 122)))),
uO 21 (.pick 17 cT 20)] [0,21])
(.cond 21 (.seq (rg [mV 2 cF] [2])
.ret)
.skip))
(.seq (.seq (rg [mV 22 0,
uO 23 (.lens 22),
mV 24 (cI 0)] [0,23,24])
(.block 0 (.loop BK)))
BR)))
def KO:AFun:=⟨1,[.t 2],ZX,false,false⟩
def SG (C:Hd)(gl:GL)(e:En)(h:aA)(x:Esc)(K:KT):Sf C gl ZX e h x K:=⟨_,by simp only[ZX,↓wZ,AO.still];rfl⟩
theorem zb8 {C gl v0 h x K}:NW C gl KO.body ⟨enter [v0],h,x⟩ K=(SG C gl [(0,v0)] h x K).1:=(SG C gl [(0,v0)] h x K).2
def MS:ACode:=.pr [0,3,5,7,9,10,11,12,13,14,93,94] (rg [mV 126 0,
mV 127 13,
mV 128 10,
mV 129 12,
uO 130 (.idxs 128 129),
mV 131 14,
cL 132 uG [126,127,130,131]] [0,3,5,7,9,10,11,93,94])
def DW (C:Hd)(gl:GL)(e:En)(h:aA)(x:Esc)(K:KT):Sf C gl MS e h x K:=⟨_,by simp only[MS,↓wZ,AO.still];rfl⟩
theorem zdw {C gl e h x K}:NW C gl MS ⟨e,h,x⟩ K=(DW C gl e h x K).1:=(DW C gl e h x K).2
def NS:ACode:=.pr [0,3,5,7,9,10,11,12,13,14,93,94] (.seq (.seq (rg [mV 102 12,
mV 103 5,
uO 104 (.lens 103),
bN 105 .sub 102 104,
mV 15 105] [0,3,5,7,9,10,11,12,13,14,15,93,94])
(.seq (rg [mV 106 15,
bN 107 .geq 106 (cI 0),
mV 108 107,
gD 109 108 true (.mv 15),
gD 110 108 true (.faddr 5 none 3),
gD 111 108 true (.load none 110),
gD 112 108 true (.lens 111),
gD 113 108 true (.bin .lss 109 112),
uO 114 (.pick 108 113 cF),
mV 115 114,
gD 116 115 true (.faddr 5 none 3),
gD 117 115 true (.load none 116),
gD 118 115 true (.mv 15),
gD 119 115 true (.idxs 117 118),
gD 120 115 true (.bin .eql 119 (.c (.p (.int .u8 49)))),
uO 121 (.pick 115 120 cF)] [0,3,5,7,9,10,11,12,13,14,15,93,94,121])
(.cond 121 (rg [fA 122 4 none 3,
lD 123 none 122,
mV 124 15,
uO 125 (.idxs 123 124),
mV 14 125] [0,3,5,7,9,10,11,12,13,14,93,94])
.skip)))
MS)
def EW (C:Hd)(gl:GL)(e:En)(h:aA)(x:Esc)(K:KT):Sf C gl NS e h x K:=⟨_,by simp only[NS,↓wZ,AO.still];rfl⟩
theorem zdx {C gl e h x K}:NW C gl NS ⟨e,h,x⟩ K=(EW C gl e h x K).1:=(EW C gl e h x K).2
def OS:ACode:=.pr [0,3,5,7,9,10,11,93,94] (rg [bN 133 .add 94 (cI 1),
mV 94 133] [0,3,5,7,9,10,11,93,94])
def FW (C:Hd)(gl:GL)(e:En)(h:aA)(x:Esc)(K:KT):Sf C gl OS e h x K:=⟨_,by simp only[OS,↓wZ,AO.still];rfl⟩
theorem zdy {C gl e h x K}:NW C gl OS ⟨e,h,x⟩ K=(FW C gl e h x K).1:=(FW C gl e h x K).2
def jL:ACode:=.pr [0,3,5,7,9,10,11,93,94] (.seq (rg [bN 95 .lss 94 93] [0,3,5,7,9,10,11,93,94,95])
(.seq (.cond 95 .skip
(.exit 0))
(.seq (.block 1 (.seq (rg [mV 96 94,
mV 12 96] [0,3,5,7,9,10,11,12,93,94])
(.seq (rg [mV 13 (.c (.p (.int .u8 48))),
mV 14 (.c (.p (.int .u8 120)))] [0,3,5,7,9,10,11,12,13,14,93,94])
(.seq (.seq (rg [mV 97 12,
mV 98 10,
uO 99 (.lens 98),
bN 100 .sub 99 (cI 1),
bN 101 .eql 97 100] [0,3,5,7,9,10,11,12,13,14,93,94,101])
(.cond 101 (rg [mV 13 (.c (.p (.int .u8 49)))] [0,3,5,7,9,10,11,12,13,14,93,94])
.skip))
NS))))
OS)))
def GW (C:Hd)(gl:GL)(e:En)(h:aA)(x:Esc)(K:KT):Sf C gl jL e h x K:=⟨_,by simp only[jL,↓wZ,AO.still];rfl⟩
theorem zdz {C gl e h x K}:NW C gl jL ⟨e,h,x⟩ K=(GW C gl e h x K).1:=(GW C gl e h x K).2
theorem zfm {C gl e h x K}:NW C gl (.loop jL) ⟨e,h,x⟩ K=ZA C gl jL K [(0,kA e 0),(3,kA e 3),(5,kA e 5),(7,kA e 7),(9,kA e 9),(10,kA e 10),(11,kA e 11),(93,kA e 93),(94,kA e 94)] h x:=GC
def PS:ACode:=.pr [0,7,9,11] (.seq (rg [mV 134 0,
mV 135 9,
uO 136 (.nilchk 134),
fA 137 36 none 136,
wO (.store none 137 135)] [0,7,11])
(.seq (rg [mV 138 0,
mV 139 7,
cL 140 kF [138,139]] [11])
(.seq (rg [mV 141 11,
mV 4 141] [4])
.ret)))
def HW (C:Hd)(gl:GL)(e:En)(h:aA)(x:Esc)(K:KT):Sf C gl PS e h x K:=⟨_,by simp only[PS,↓wZ,AO.still];rfl⟩
theorem zd0 {C gl e h x K}:NW C gl PS ⟨e,h,x⟩ K=(HW C gl e h x K).1:=(HW C gl e h x K).2
def QS:ACode:=.pr [0,3,5,7,9,10] (.seq (rg [mV 85 0,
uO 86 (.nilchk 85),
fA 87 37 none 86,
lD 88 none 87,
mV 89 5,
uO 90 (.lens 89),
bN 91 .add 88 90,
mV 11 91] [0,3,5,7,9,10,11])
(.seq (.seq (rg [mV 92 10,
uO 93 (.lens 92),
mV 94 (cI 0)] [0,3,5,7,9,10,11,93,94])
(.block 0 (.loop jL)))
PS))
def IW (C:Hd)(gl:GL)(e:En)(h:aA)(x:Esc)(K:KT):Sf C gl QS e h x K:=⟨_,by simp only[QS,↓wZ,AO.still];rfl⟩
theorem zd1 {C gl e h x K}:NW C gl QS ⟨e,h,x⟩ K=(IW C gl e h x K).1:=(IW C gl e h x K).2
def RS:ACode:=.pr [0,3,5,6,7,8,9] (.seq (rg [mV 55 0,
mV 56 8,
cL 57 kF [55,56]] [0,3,5,6,7,9])
(.seq (rg [mV 58 5,
fA 59 3 none 3,
lD 60 none 59,
bN 61 .add 58 60,
mV 62 6,
bN 63 .add 61 62,
mV 10 63] [0,3,5,7,9,10])
(.seq (.seq (rg [fA 64 0 none 3,
lD 65 none 64,
bN 66 .eql 65 (cI 7)] [0,3,5,7,9,10,66])
(.cond 66 (rg [mV 67 0,
uO 68 (.nilchk 67),
fA 69 38 none 68,
lD 70 none 69,
mV 71 10,
uO 72 (.lens 71),
bN 73 .add 70 72,
uO 74 (.nilchk 67),
fA 75 38 none 74,
wO (.store none 75 73)] [0,3,5,7,9,10])
(rg [mV 76 0,
uO 77 (.nilchk 76),
fA 78 39 none 77,
lD 79 none 78,
mV 80 10,
uO 81 (.lens 80),
bN 82 .add 79 81,
uO 83 (.nilchk 76),
fA 84 39 none 83,
wO (.store none 84 82)] [0,3,5,7,9,10])))
QS)))
def JW (C:Hd)(gl:GL)(e:En)(h:aA)(x:Esc)(K:KT):Sf C gl RS e h x K:=⟨_,by simp only[RS,↓wZ,AO.still];rfl⟩
theorem zd2 {C gl e h x K}:NW C gl RS ⟨e,h,x⟩ K=(JW C gl e h x K).1:=(JW C gl e h x K).2
def sZ:ACode:=(.seq (rg [uO 3 (.box 1),
mV 4 (cI 0)] [0,3])
(.seq (dr [dF (mV 16 0) [0],
dF (uO 17 (.nilchk 16)) [16],
dF (fA 18 0 (some 36) 17) [17],
dF (fA 19 24 (some 6) 18) [18],
dF (fA 20 3 none 19) [19],
dF (lD 21 none 20) [20],
dF (mV 22 0) [0],
dF (uO 23 (.nilchk 22)) [22],
dF (fA 24 0 (some 36) 23) [23],
dF (fA 25 30 (some 6) 24) [24],
dF (fA 26 3 none 25) [25],
dF (lD 27 none 26) [26],
dF (mV 28 0) [0],
dF (uO 29 (.nilchk 28)) [28],
dF (fA 30 0 (some 36) 29) [29],
dF (fA 31 6 (some 6) 30) [30],
dF (fA 32 1 none 31) [31],
dF (lD 33 none 32) [32],
dF (mV 5 21) [21],
dF (mV 6 27) [27],
dF (mV 7 33) [33],
dF (mV 8 (cI 4)) [],
dF (mV 9 (cI 5)) []] [0,3,5,6,7,8,9])
(.seq (.seq (rg [fA 34 0 none 3,
lD 35 none 34,
bN 36 .eql 35 (cI 7)] [0,3,5,6,7,8,9,36])
(.cond 36 (dr [dF (mV 37 0) [0],
dF (uO 38 (.nilchk 37)) [37],
dF (fA 39 0 (some 36) 38) [38],
dF (fA 40 12 (some 6) 39) [39],
dF (fA 41 3 none 40) [40],
dF (lD 42 none 41) [41],
dF (mV 43 0) [0],
dF (uO 44 (.nilchk 43)) [43],
dF (fA 45 0 (some 36) 44) [44],
dF (fA 46 18 (some 6) 45) [45],
dF (fA 47 3 none 46) [46],
dF (lD 48 none 47) [47],
dF (mV 49 0) [0],
dF (uO 50 (.nilchk 49)) [49],
dF (fA 51 0 (some 36) 50) [50],
dF (fA 52 0 (some 6) 51) [51],
dF (fA 53 1 none 52) [52],
dF (lD 54 none 53) [53],
dF (mV 5 42) [42],
dF (mV 6 48) [48],
dF (mV 7 54) [54],
dF (mV 8 (cI 11)) [],
dF (mV 9 (cI 12)) []] [0,3,5,6,7,8,9])
.skip))
RS)))
def WO:AFun:=⟨2,[.t 4],sZ,false,false⟩
def FM (C:Hd)(gl:GL)(e:En)(h:aA)(x:Esc)(K:KT):Sf C gl sZ e h x K:=⟨_,by simp only[sZ,↓wZ,AO.still];rfl⟩
theorem zdv {C gl v0 v1 h x K}:NW C gl WO.body ⟨enter [v0,v1],h,x⟩ K=(FM C gl [(0,v0),(1,v1)] h x K).1:=(FM C gl [(0,v0),(1,v1)] h x K).2
def kL:ACode:=.pr [0,1,4,17,18] (.seq (rg [bN 19 .lss 18 17] [0,1,4,17,18,19])
(.seq (.cond 19 .skip
(.exit 0))
(.seq (.block 1 (.seq (rg [mV 20 18,
mV 6 20] [0,1,4,6,17,18])
(rg [mV 21 0,
mV 22 4,
mV 23 6,
uO 24 (.idxs 22 23),
cL 25 uG [21,24,(.c (.p (.int .u8 48))),(.c (.p (.int .u8 120)))]] [0,1,4,17,18])))
(rg [bN 26 .add 18 (cI 1),
mV 18 26] [0,1,4,17,18]))))
def KW (C:Hd)(gl:GL)(e:En)(h:aA)(x:Esc)(K:KT):Sf C gl kL e h x K:=⟨_,by simp only[kL,↓wZ,AO.still];rfl⟩
theorem zd7 {C gl e h x K}:NW C gl kL ⟨e,h,x⟩ K=(KW C gl e h x K).1:=(KW C gl e h x K).2
theorem zfo {C gl e h x K}:NW C gl (.loop kL) ⟨e,h,x⟩ K=ZA C gl kL K [(0,kA e 0),(1,kA e 1),(4,kA e 4),(17,kA e 17),(18,kA e 18)] h x:=GC
def SS:ACode:=.pr [0,1] (rg [mV 27 0,
mV 28 1,
uO 29 (.nilchk 27),
fA 30 36 none 29,
wO (.store none 30 28)] [])
def LW (C:Hd)(gl:GL)(e:En)(h:aA)(x:Esc)(K:KT):Sf C gl SS e h x K:=⟨_,by simp only[SS,↓wZ,AO.still];rfl⟩
theorem zd8 {C gl e h x K}:NW C gl SS ⟨e,h,x⟩ K=(LW C gl e h x K).1:=(LW C gl e h x K).2
def tZ:ACode:=(.seq (rg [mV 8 0,
uO 9 (.nilchk 8),
fA 10 36 none 9,
lD 11 none 10,
mV 12 1,
cL 13 aK [11,12],
mV 7 13,
eX 14 7 0,
eX 15 7 1,
mV 4 14,
mV 5 15] [0,1,4])
(.seq (.seq (rg [mV 16 4,
uO 17 (.lens 16),
mV 18 (cI 0)] [0,1,4,17,18])
(.block 0 (.loop kL)))
SS))
def YO:AFun:=⟨2,[],tZ,false,false⟩
def xQ (C:Hd)(gl:GL)(e:En)(h:aA)(x:Esc)(K:KT):Sf C gl tZ e h x K:=⟨_,by simp only[tZ,↓wZ,AO.still];rfl⟩
theorem zd6 {C gl v0 v1 h x K}:NW C gl YO.body ⟨enter [v0,v1],h,x⟩ K=(xQ C gl [(0,v0),(1,v1)] h x K).1:=(xQ C gl [(0,v0),(1,v1)] h x K).2
def rZ:ACode:=(.seq (rg [mV 8 0,
uO 9 (.nilchk 8),
fA 10 37 none 9,
lD 11 none 10,
bN 12 .add 11 (cI 1),
uO 13 (.nilchk 8),
fA 14 37 none 13,
wO (.store none 14 12)] [0,1,2,3])
(.seq (rg [mV 15 0,
uO 16 (.nilchk 15),
fA 17 45 none 16,
lD 18 none 17] [0,1,2,3,18])
(.cond 18 (dr [dF (mV 19 0) [0],
dF (mV 20 0) [0],
dF (mV 21 0) [0],
dF (mV 22 0) [0],
dF (uO 23 (.nilchk 22)) [22],
dF (fA 24 42 none 23) [23],
dF (lD 25 none 24) [24],
dF (mV 26 1) [1],
dF (uO 27 (.bsl false none 1 (.int .u8 0) [(0,26)])) [26],
dT (uO 28 (.app none 25 27)) [25,27],
dF (mV 29 0) [0],
dF (uO 30 (.nilchk 29)) [29],
dF (fA 31 43 none 30) [30],
dA (lD 32 none 31) [31] false [9] [],
dF (mV 33 2) [2],
dA (uO 34 (.bsl false none 1 (.int .u8 0) [(0,33)])) [33] false [9] [],
dT (uO 35 (.app none 32 34)) [32,34],
dF (mV 36 0) [0],
dF (uO 37 (.nilchk 36)) [36],
dF (fA 38 44 none 37) [37],
dA (lD 39 none 38) [38] false [9,16] [],
dF (mV 40 3) [3],
dA (uO 41 (.bsl false none 1 (.int .u8 0) [(0,40)])) [40] false [9,16] [],
dT (uO 42 (.app none 39 41)) [39,41],
dF (uO 43 (.nilchk 19)) [19],
dF (fA 44 42 none 43) [43],
dT (wO (.store none 44 28)) [44,28],
dF (uO 45 (.nilchk 20)) [20],
dF (fA 46 43 none 45) [45],
dT (wO (.store none 46 35)) [46,35],
dF (uO 47 (.nilchk 21)) [21],
dF (fA 48 44 none 47) [47],
dT (wO (.store none 48 42)) [48,42]] [])
.skip)))
def UO:AFun:=⟨4,[],rZ,false,false⟩
def EM (C:Hd)(gl:GL)(e:En)(h:aA)(x:Esc)(K:KT):Sf C gl rZ e h x K:=⟨_,by simp only[rZ,↓wZ,AO.still];rfl⟩
theorem zdu {C gl v0 v1 v2 v3 h x K}:NW C gl UO.body ⟨enter [v0,v1,v2,v3],h,x⟩ K=(EM C gl [(0,v0),(1,v1),(2,v2),(3,v3)] h x K).1:=(EM C gl [(0,v0),(1,v1),(2,v2),(3,v3)] h x K).2
def TY:ACode:=(.seq (rg [uO 2 (.box 0),
mV 4 (cI 0)] [1,2])
(.seq (.block 0 (.seq (rg [fA 6 0 none 2,
lD 7 none 6,
cL 8 zD [7],
uO 9 (.un .not 8),
mV 5 9] [1,2,5])
(.cond 5 (.seq (rg [mV 4 (cI 5)] [4])
.ret)
(.seq (rg [mV 11 1,
uO 12 (.mkfn sN [2]),
cL 13 VJ [11,12],
mV 10 13] [2,10])
(.cond 10 (.seq (rg [mV 4 (cI 6)] [4])
.ret)
(.seq (rg [fA 15 1 none 2,
lD 16 none 15,
cL 17 WB [16,(cI 2),(cI 32)],
mV 18 17,
gD 19 18 false (.faddr 2 none 2),
gD 20 18 false (.load none 19),
gD 21 18 false (.call WB [20,(cI 0),(cI 4294967295)]),
uO 22 (.pick 18 cT 21),
mV 14 22] [2,14])
(.cond 14 (.seq (rg [mV 4 (cI 1)] [4])
.ret)
(.seq (rg [fA 24 2 none 2,
lD 25 none 24,
bN 26 .neq 25 (cI 0),
mV 27 26,
gD 28 27 true (.faddr 2 none 2),
gD 29 27 true (.load none 28),
gD 30 27 true (.bin .rem 29 (cI 2)),
gD 31 27 true (.bin .eql 30 (cI 0)),
uO 32 (.pick 27 31 cF),
mV 23 32] [2,23])
(.cond 23 (.seq (rg [mV 4 (cI 3)] [4])
.ret)
(.seq (rg [fA 34 3 none 2,
lD 35 none 34,
lN 36 35,
bN 37 .gtr 36 (cI 10),
mV 38 37,
gD 39 38 false (.faddr 4 none 2),
gD 40 38 false (.load none 39),
gD 41 38 false (.len 40),
gD 42 38 false (.bin .gtr 41 (cI 100)),
uO 43 (.pick 38 cT 42),
mV 33 43] [2,33])
(.cond 33 (.seq (rg [mV 4 (cI 2)] [4])
.ret)
.skip)))))))))))
(.seq (dr [dF (lD 44 (some 5) 2) [2],
dT (cL 45 xN [44]) [44],
dA (lD 46 (some 5) 2) [2] false [1] [],
dT (cL 47 tN [46]) [46],
dF (uO 48 (.bsl false none 2 (.int .i64 0) [(0,45),(1,47)])) [45,47],
dT (cL 49 dH [48]) [48],
dF (mV 4 49) [49]] [4])
.ret)))
def TU:AFun:=⟨2,[.t 4],TY,false,false⟩
def VD (C:Hd)(gl:GL)(e:En)(h:aA)(x:Esc)(K:KT):Sf C gl TY e h x K:=⟨_,by simp only[TY,↓wZ,AO.still];rfl⟩
theorem zcK {C gl v0 v1 h x K}:NW C gl TU.body ⟨enter [v0,v1],h,x⟩ K=(VD C gl [(0,v0),(1,v1)] h x K).1:=(VD C gl [(0,v0),(1,v1)] h x K).2
def MI:ACode:=.pr [5,8,18,19,20,38,39,40] (.seq (rg [bN 41 .lss 40 39] [5,8,18,19,20,38,39,40,41])
(.seq (.cond 41 .skip
(.exit 2))
(.seq (.block 3 (.seq (rg [iA 42 (some 2) 38 40,
lD 43 (some 2) 42,
uO 10 (.alloc [.p (.str []),.p (.int .i64 0)]),
wO (.store (some 2) 10 43)] [5,8,10,18,19,20,38,39,40])
(.seq (dr [dF (mV 44 8) [8],
dF (uO 45 (.nilchk 44)) [44],
dF (fA 46 7 none 45) [45],
dF (lD 47 none 46) [46],
dF (fA 48 0 none 10) [10],
dF (lD 49 none 48) [48],
dF (fA 50 1 none 10) [10],
dF (lD 51 none 50) [50],
dA (cL 52 MA [(cS [48]),51]) [51] true [] [3,5],
dT (wO (.mupd (none,[2]) 47 49 52)) [47,49,52]] [5,8,10,18,19,20,38,39,40])
(dr [dF (mV 53 8) [8],
dF (uO 54 (.nilchk 53)) [53],
dF (fA 55 8 none 54) [54],
dF (lD 56 none 55) [55],
dF (fA 57 0 none 10) [10],
dF (lD 58 none 57) [57],
dF (mV 59 8) [8],
dF (uO 60 (.nilchk 59)) [59],
dF (fA 61 7 none 60) [60],
dF (lD 62 none 61) [61],
dF (fA 63 0 none 10) [10],
dF (lD 64 none 63) [63],
dF (uO 65 (.look (none,[2]) false (.p (.str [])) 62 64)) [62,64],
dT (wO (.mupd (none,[2]) 56 58 65)) [56,58,65]] [5,8,18,19,20,38,39,40]))))
(rg [bN 66 .add 40 (cI 1),
mV 40 66] [5,8,18,19,20,38,39,40]))))
def TG (C:Hd)(gl:GL)(e:En)(h:aA)(x:Esc)(K:KT):Sf C gl MI e h x K:=⟨_,by simp only[MI,↓wZ,AO.still];rfl⟩
theorem LM {C gl e h x K}:NW C gl MI ⟨e,h,x⟩ K=(TG C gl e h x K).1:=(TG C gl e h x K).2
theorem zeX {C gl e h x K}:NW C gl (.loop (.scope MI)) ⟨e,h,x⟩ K=ZA C gl (.scope MI) K [(5,kA e 5),(8,kA e 8),(18,kA e 18),(19,kA e 19),(20,kA e 20),(38,kA e 38),(39,kA e 39),(40,kA e 40)] h x:=WC
def jS:ACode:=.pr [5,8,18,19,20] (rg [mV 67 5,
mV 68 5,
uO 69 (.nilchk 68),
fA 70 1 none 69,
lD 71 none 70,
mV 72 8,
uO 73 (.uns 9 0 [72]),
uO 74 (.uns 11 0 [71,73]),
uO 75 (.nilchk 67),
fA 76 1 none 75,
wO (.store none 76 74)] [5,18,19,20])
def qM (C:Hd)(gl:GL)(e:En)(h:aA)(x:Esc)(K:KT):Sf C gl jS e h x K:=⟨_,by simp only[jS,↓wZ,AO.still];rfl⟩
theorem TW {C gl e h x K}:NW C gl jS ⟨e,h,x⟩ K=(qM C gl e h x K).1:=(qM C gl e h x K).2
def lS:ACode:=.pr [5,18,19,20] (rg [bN 77 .add 20 (cI 1),
mV 20 77] [5,18,19,20])
def rM (C:Hd)(gl:GL)(e:En)(h:aA)(x:Esc)(K:KT):Sf C gl lS e h x K:=⟨_,by simp only[lS,↓wZ,AO.still];rfl⟩
theorem UW {C gl e h x K}:NW C gl lS ⟨e,h,x⟩ K=(rM C gl e h x K).1:=(rM C gl e h x K).2
def UK:ACode:=.pr [5,18,19,20] (.seq (rg [bN 21 .lss 20 19] [5,18,19,20,21])
(.seq (.cond 21 .skip
(.exit 0))
(.seq (.block 1 (.seq (rg [iA 22 (some 5) 18 20,
lD 23 (some 5) 22,
uO 7 (.alloc [.p (.str []),.p (.int .i64 0),.p (.int .i64 0),.sl0 (some 2),.sl0 (some 2)]),
wO (.store (some 5) 7 23)] [5,7,18,19,20])
(.seq (dr [dF (fA 24 3 none 7) [7],
dF (lD 25 none 24) [24],
dT (cL 26 gN [25]) [25],
dF (fA 27 4 none 7) [7],
dA (lD 28 none 27) [27] false [2] [],
dT (cL 29 fN [28]) [28],
dF (fA 30 3 none 7) [7],
dT (wO (.store none 30 26)) [30,26],
dF (fA 31 4 none 7) [7],
dT (wO (.store none 31 29)) [31,29]] [5,7,18,19,20])
(.seq (rg [lD 32 (some 5) 7,
uO 33 (.mkmap),
uO 34 (.mkmap),
uO 35 (.build [.p (.str []),.p (.int .i64 0),.p (.int .i64 0),.sl0 (some 2),.sl0 (some 2),.p (.str []),.p (.str []),.nilm,.nilm] [(0,5,32),(6,1,(cS [48])),(7,1,33),(8,1,34)]),
uO 36 (.uns 12 0 [35]),
mV 8 36] [5,7,8,18,19,20])
(.seq (.seq (rg [fA 37 3 none 7,
lD 38 none 37,
lN 39 38,
mV 40 (cI 0)] [5,8,18,19,20,38,39,40])
(.block 2 (.loop (.scope MI))))
jS)))))
lS)))
def CJ (C:Hd)(gl:GL)(e:En)(h:aA)(x:Esc)(K:KT):Sf C gl UK e h x K:=⟨_,by simp only[UK,↓wZ,AO.still];rfl⟩
theorem KQ {C gl e h x K}:NW C gl UK ⟨e,h,x⟩ K=(CJ C gl e h x K).1:=(CJ C gl e h x K).2
theorem zeY {C gl e h x K}:NW C gl (.loop (.scope UK)) ⟨e,h,x⟩ K=ZA C gl (.scope UK) K [(5,kA e 5),(18,kA e 18),(19,kA e 19),(20,kA e 20)] h x:=WC
def nS:ACode:=.pr [5] (.seq (rg [mV 78 5,
mV 2 78,
mV 3 (cI 0)] [2,3])
.ret)
def sM (C:Hd)(gl:GL)(e:En)(h:aA)(x:Esc)(K:KT):Sf C gl nS e h x K:=⟨_,by simp only[nS,↓wZ,AO.still];rfl⟩
theorem VW {C gl e h x K}:NW C gl nS ⟨e,h,x⟩ K=(sM C gl e h x K).1:=(sM C gl e h x K).2
def QY:ACode:=(.seq (rg [mV 2 (.c (.nilp)),
mV 3 (cI 0)] [0])
(.seq (.seq (rg [mV 11 0,
cL 12 jH [11],
mV 4 12] [0,4])
(.seq (rg [mV 13 4,
bN 14 .neq 13 (cI 0)] [0,4,14])
(.cond 14 (.seq (rg [mV 15 4,
mV 2 (.c (.nilp)),
mV 3 15] [2,3])
.ret)
.skip)))
(.seq (rg [uO 16 (.build [.p (.int .i64 0),.sl0 none] [(0,1,(cI 0))]),
uO 17 (.uns 12 1 [16]),
mV 5 17] [0,5])
(.seq (.seq (rg [mV 18 0,
lN 19 18,
mV 20 (cI 0)] [5,18,19,20])
(.block 0 (.loop (.scope UK))))
nS))))
def RU:AFun:=⟨1,[.t 2,.t 3],QY,false,false⟩
def bQ (C:Hd)(gl:GL)(e:En)(h:aA)(x:Esc)(K:KT):Sf C gl QY e h x K:=⟨_,by simp only[QY,↓wZ,AO.still];rfl⟩
theorem zcF {C gl v0 h x K}:NW C gl RU.body ⟨enter [v0],h,x⟩ K=(bQ C gl [(0,v0)] h x K).1:=(bQ C gl [(0,v0)] h x K).2
def XX:ACode:=(.seq (rg [mV 2 cF] [0])
(.seq (rg [mV 3 0,
cL 4 tI [3,(cS [48,49])],
bN 5 .eql 4 (cS []),
mV 2 5] [2])
.ret))
def HO:AFun:=⟨1,[.t 2],XX,false,false⟩
def vP (C:Hd)(gl:GL)(e:En)(h:aA)(x:Esc)(K:KT):Sf C gl XX e h x K:=⟨_,by simp only[XX,↓wZ,AO.still];rfl⟩
theorem zb4 {C gl v0 h x K}:NW C gl HO.body ⟨enter [v0],h,x⟩ K=(vP C gl [(0,v0)] h x K).1:=(vP C gl [(0,v0)] h x K).2
def SK:ACode:=.pr [0,1,7,17,18,19] (.seq (rg [bN 20 .lss 19 18] [0,1,7,17,18,19,20])
(.seq (.cond 20 .skip
(.exit 0))
(.seq (.block 1 (.seq (rg [iA 21 none 17 19,
lD 22 none 21,
mV 9 22] [0,1,7,9,17,18,19])
(rg [mV 23 0,
mV 24 9,
mV 25 7,
cL 26 nN [23,24,25],
mV 7 26] [0,1,7,17,18,19])))
(rg [bN 27 .add 19 (cI 1),
mV 19 27] [0,1,7,17,18,19]))))
def oW (C:Hd)(gl:GL)(e:En)(h:aA)(x:Esc)(K:KT):Sf C gl SK e h x K:=⟨_,by simp only[SK,↓wZ,AO.still];rfl⟩
theorem zcD {C gl e h x K}:NW C gl SK ⟨e,h,x⟩ K=(oW C gl e h x K).1:=(oW C gl e h x K).2
theorem zeV {C gl e h x K}:NW C gl (.loop SK) ⟨e,h,x⟩ K=ZA C gl SK K [(0,kA e 0),(1,kA e 1),(7,kA e 7),(17,kA e 17),(18,kA e 18),(19,kA e 19)] h x:=GC
def fS:ACode:=.pr [0,1,10] (.seq (rg [mV 43 0,
mV 44 0,
uO 45 (.nilchk 44),
fA 46 0 none 45,
lD 47 none 46,
mV 48 1,
cL 49 HE [47,48],
uO 50 (.nilchk 43),
fA 51 0 none 50,
wO (.store none 51 49)] [10])
(.seq (rg [mV 52 10,
mV 6 52] [6])
.ret))
def jI (C:Hd)(gl:GL)(e:En)(h:aA)(x:Esc)(K:KT):Sf C gl fS e h x K:=⟨_,by simp only[fS,↓wZ,AO.still];rfl⟩
theorem JM {C gl e h x K}:NW C gl fS ⟨e,h,x⟩ K=(jI C gl e h x K).1:=(jI C gl e h x K).2
def gS:ACode:=.pr [0,1,7] (.seq (rg [mV 10 (cI (-1))] [0,1,7,10])
(.seq (.seq (rg [mV 28 0,
uO 29 (.nilchk 28),
fA 30 0 none 29,
lD 31 none 30,
bN 32 .eql 31 (cI 4),
mV 33 32,
gD 34 33 false (.mv 0),
gD 35 33 false (.nilchk 34),
gD 36 33 false (.faddr 0 none 35),
gD 37 33 false (.load none 36),
gD 38 33 false (.bin .eql 37 (cI 11)),
uO 39 (.pick 33 cT 38)] [0,1,7,10,39])
(.cond 39 (rg [mV 40 7,
bN 41 .sub 40 (.c (.p (.int .u8 48))),
uO 42 (.conv (.i .i64) 41),
mV 10 42] [0,1,10])
.skip))
fS))
def kI (C:Hd)(gl:GL)(e:En)(h:aA)(x:Esc)(K:KT):Sf C gl gS e h x K:=⟨_,by simp only[gS,↓wZ,AO.still];rfl⟩
theorem KM {C gl e h x K}:NW C gl gS ⟨e,h,x⟩ K=(kI C gl e h x K).1:=(kI C gl e h x K).2
def OY:ACode:=(.seq (rg [mV 6 (cI 0)] [0,1,2])
(.seq (rg [mV 11 2,
bN 12 .add (cI 48) 11,
uO 13 (.conv (.i .u8) 12),
mV 7 13] [0,1,7])
(.seq (.seq (rg [mV 14 0,
uO 15 (.nilchk 14),
fA 16 1 none 15,
lD 17 none 16,
lN 18 17,
mV 19 (cI 0)] [0,1,7,17,18,19])
(.block 0 (.loop SK)))
gS)))
def PU:AFun:=⟨3,[.t 6],OY,false,false⟩
def ZP (C:Hd)(gl:GL)(e:En)(h:aA)(x:Esc)(K:KT):Sf C gl OY e h x K:=⟨_,by simp only[OY,↓wZ,AO.still];rfl⟩
theorem zcC {C gl v0 v1 v2 h x K}:NW C gl PU.body ⟨enter [v0,v1,v2],h,x⟩ K=(ZP C gl [(0,v0),(1,v1),(2,v2)] h x K).1:=(ZP C gl [(0,v0),(1,v1),(2,v2)] h x K).2
def fY:ACode:=(.seq (rg [mV 4 (cI 0)] [0,1])
(.seq (rg [mV 5 0,
mV 6 1,
cL 7 cH [5,6],
mV 4 7] [4])
.ret))
def iU:AFun:=⟨2,[.t 4],fY,false,false⟩
def iM (C:Hd)(gl:GL)(e:En)(h:aA)(x:Esc)(K:KT):Sf C gl fY e h x K:=⟨_,by simp only[fY,↓wZ,AO.still];rfl⟩
theorem zbT {C gl v0 v1 h x K}:NW C gl iU.body ⟨enter [v0,v1],h,x⟩ K=(iM C gl [(0,v0),(1,v1)] h x K).1:=(iM C gl [(0,v0),(1,v1)] h x K).2
def RK:ACode:=.pr [0,1,7,8] (.seq (rg [bN 9 .lss 8 7] [0,1,7,8,9])
(.seq (.cond 9 .skip
(.exit 0))
(.seq (.block 1 (.seq (rg [mV 10 8,
mV 5 10] [0,1,5,7,8])
(.seq (rg [mV 11 1,
mV 12 0,
mV 13 5,
iA 14 (some 2) 12 13,
lD 15 (some 2) 14,
uO 16 (.callv 11 [15])] [0,1,5,7,8,16])
(.cond 16 (.seq (rg [mV 17 5,
mV 4 17] [4])
.ret)
.skip))))
(rg [bN 18 .add 8 (cI 1),
mV 8 18] [0,1,7,8]))))
def mW (C:Hd)(gl:GL)(e:En)(h:aA)(x:Esc)(K:KT):Sf C gl RK e h x K:=⟨_,by simp only[RK,↓wZ,AO.still];rfl⟩
theorem zc6 {C gl e h x K}:NW C gl RK ⟨e,h,x⟩ K=(mW C gl e h x K).1:=(mW C gl e h x K).2
theorem zeU {C gl e h x K}:NW C gl (.loop RK) ⟨e,h,x⟩ K=ZA C gl RK K [(0,kA e 0),(1,kA e 1),(7,kA e 7),(8,kA e 8)] h x:=GC
def bS:ACode:=.pr [] (.seq (rg [mV 4 (cI (-1))] [4])
.ret)
def nW (C:Hd)(gl:GL)(e:En)(h:aA)(x:Esc)(K:KT):Sf C gl bS e h x K:=⟨_,by simp only[bS,↓wZ,AO.still];rfl⟩
theorem zc7 {C gl e h x K}:NW C gl bS ⟨e,h,x⟩ K=(nW C gl e h x K).1:=(nW C gl e h x K).2
def JY:ACode:=(.seq (rg [mV 4 (cI 0)] [0,1])
(.seq (.seq (rg [mV 6 0,
lN 7 6,
mV 8 (cI 0)] [0,1,7,8])
(.block 0 (.loop RK)))
bS))
def KU:AFun:=⟨2,[.t 4],JY,true,false⟩
def VP (C:Hd)(gl:GL)(e:En)(h:aA)(x:Esc)(K:KT):Sf C gl JY e h x K:=⟨_,by simp only[JY,↓wZ,AO.still];rfl⟩
theorem zc5 {C gl v0 v1 h x K}:NW C gl KU.body ⟨enter [v0,v1],h,x⟩ K=(VP C gl [(0,v0),(1,v1)] h x K).1:=(VP C gl [(0,v0),(1,v1)] h x K).2
def xY:ACode:=(.seq (rg [uO 2 (.box 0),
mV 3 cF] [1,2])
(.seq (rg [fA 4 0 none 2,
lD 5 none 4,
fA 6 1 none 1,
lD 7 none 6,
bN 8 .eql 5 7,
mV 3 8] [3])
.ret))
def yU:AFun:=⟨2,[.t 3],xY,false,false⟩
def LP (C:Hd)(gl:GL)(e:En)(h:aA)(x:Esc)(K:KT):Sf C gl xY e h x K:=⟨_,by simp only[xY,↓wZ,AO.still];rfl⟩
theorem zcn {C gl v0 v1 h x K}:NW C gl yU.body ⟨enter [v0,v1],h,x⟩ K=(LP C gl [(0,v0),(1,v1)] h x K).1:=(LP C gl [(0,v0),(1,v1)] h x K).2
def rY:ACode:=(.seq (rg [mV 2 (cI 0)] [0])
(.seq (.seq (rg [mV 3 0,
cL 4 tI [3,(cS [48,49])],
bN 5 .neq 4 (cS [])] [5])
(.cond 5 (.seq (rg [mV 2 (cI 9)] [2])
.ret)
.skip))
(.seq (rg [mV 2 (cI 0)] [2])
.ret)))
def sU:AFun:=⟨1,[.t 2],rY,false,false⟩
def mM (C:Hd)(gl:GL)(e:En)(h:aA)(x:Esc)(K:KT):Sf C gl rY e h x K:=⟨_,by simp only[rY,↓wZ,AO.still];rfl⟩
theorem zch {C gl v0 h x K}:NW C gl sU.body ⟨enter [v0],h,x⟩ K=(mM C gl [(0,v0)] h x K).1:=(mM C gl [(0,v0)] h x K).2
def KY:ACode:=(.seq (rg [mV 4 cF] [0,1])
(.seq (rg [mV 5 0,
mV 6 1,
cL 7 kN [5,6],
bN 8 .geq 7 (cI 0),
mV 4 8] [4])
.ret))
def LU:AFun:=⟨2,[.t 4],KY,false,false⟩
def WP (C:Hd)(gl:GL)(e:En)(h:aA)(x:Esc)(K:KT):Sf C gl KY e h x K:=⟨_,by simp only[KY,↓wZ,AO.still];rfl⟩
theorem zc8 {C gl v0 v1 h x K}:NW C gl LU.body ⟨enter [v0,v1],h,x⟩ K=(WP C gl [(0,v0),(1,v1)] h x K).1:=(WP C gl [(0,v0),(1,v1)] h x K).2
def EY:ACode:=(.seq (rg [mV 4 cF] [0,1])
(.seq (rg [mV 5 0,
mV 6 1,
cL 7 jN [5,6],
bN 8 .geq 7 (cI 0),
mV 4 8] [4])
.ret))
def FU:AFun:=⟨2,[.t 4],EY,true,false⟩
def RP (C:Hd)(gl:GL)(e:En)(h:aA)(x:Esc)(K:KT):Sf C gl EY e h x K:=⟨_,by simp only[EY,↓wZ,AO.still];rfl⟩
theorem zcu {C gl v0 v1 h x K}:NW C gl FU.body ⟨enter [v0,v1],h,x⟩ K=(RP C gl [(0,v0),(1,v1)] h x K).1:=(RP C gl [(0,v0),(1,v1)] h x K).2
end Go.Am
end
