/- Texts of the proof, laid together: CodesA, CodesB. -/
import Derived.KernelRfl
import Derived.Test.YthlhdniejglcnaaGreatDoorlawPR4
set_option linter.all false
section
/- The functions asv abstract code,and asv formulas over their values: printed by program out of the translation. -/
set_option linter.all false
set_option maxRecDepth 100000
namespace Go.Am
def TU:ACode:=.pr [6,7,8,9,10,11,12,13,14,15,16,17] (.seq (rg [mV 66 7,
mV 67 13,
bN 68 .eql 66 67,
mV 69 68,
gD 70 69 true (.mv 6),
gD 71 69 true (.mv 14),
gD 72 69 true (.call uL [70,71]),
uO 73 (.pick 69 72 cF),
mV 74 73,
gD 75 74 true (.mv 10),
gD 76 74 true (.mv 13),
gD 77 74 true (.bin .eql 75 76),
uO 78 (.pick 74 77 cF),
mV 79 78,
gD 80 79 true (.mv 8),
gD 81 79 true (.mv 15),
gD 82 79 true (.call nJ [80,81]),
uO 83 (.pick 79 82 cF),
mV 84 83,
gD 85 84 true (.mv 9),
gD 86 84 true (.mv 16),
gD 87 84 true (.call nJ [85,86]),
uO 88 (.pick 84 87 cF),
mV 89 88,
gD 90 89 true (.mv 12),
gD 91 89 true (.mv 13),
gD 92 89 true (.bin .eql 90 91),
uO 93 (.pick 89 92 cF),
mV 94 93,
gD 95 94 true (.mv 11),
gD 96 94 true (.mv 17),
gD 97 94 true (.call tL [95,96]),
uO 98 (.pick 94 97 cF),
mV 99 98,
gD 100 99 true (.call rP []),
uO 101 (.pick 99 100 cF),
mV 2 101] [2])
.ret)
def xK (C:Hd)(gl:GL)(e:En)(h:aA)(x:Esc)(K:KT):Sf C gl TU e h x K:=⟨_,by simp only[TU,↓wZ,AO.still];rfl⟩
theorem QT {C gl e h x K}:NW C gl TU ⟨e,h,x⟩ K=(xK C gl e h x K).1:=(xK C gl e h x K).2
def z32:ACode:=(.seq (rg [mV 2 cF] [0])
(.seq (rg [mV 18 0,
uO 19 (.build [.sl0 none,.p (.int .i64 0)] [(0,1,18)]),
uO 20 (.box 19),
mV 3 20] [3])
(.seq (rg [mV 21 3,
cL 22 tP [21],
mV 23 3,
mV 24 3,
cL 25 UF [24,(cI 0),(cI 6)],
cL 26 uP [23,25],
mV 4 22,
mV 5 26] [4,5])
(.seq (rg [mV 28 4,
mV 29 5,
cL 30 FL [28,29],
mV 27 30,
eX 31 27 0,
eX 32 27 1,
mV 6 31,
mV 7 32] [4,5,6,7])
(.seq (rg [mV 34 4,
mV 35 5,
cL 36 mQ [34,35],
mV 33 36,
eX 37 33 0,
eX 38 33 1,
eX 39 33 2,
mV 8 37,
mV 9 38,
mV 10 39] [4,5,6,7,8,9,10])
(.seq (rg [mV 41 4,
mV 42 5,
cL 43 EL [41,42],
mV 40 43,
eX 44 40 0,
eX 45 40 1,
mV 11 44,
mV 12 45] [4,5,6,7,8,9,10,11,12])
(.seq (rg [mV 46 4,
cL 47 wP [46],
mV 48 5,
cL 49 mL [48],
uO 50 (.bsl false none 2 (.int .i64 0) [(0,47),(1,49)]),
cL 51 qP [50],
mV 13 51] [4,5,6,7,8,9,10,11,12,13])
(.seq (rg [mV 14 (.c (.p (.sl none [])))] [4,5,6,7,8,9,10,11,12,13,14])
(.seq (rg [mV 15 (.c (.p (.sl none []))),
mV 16 (.c (.p (.sl none [])))] [4,5,6,7,8,9,10,11,12,13,14,15,16])
(.seq (rg [mV 17 (.c (.p (.sl (some 6) [])))] [4,5,6,7,8,9,10,11,12,13,14,15,16,17])
(.seq (.seq (rg [mV 52 13,
bN 53 .eql 52 (cI 0)] [4,5,6,7,8,9,10,11,12,13,14,15,16,17,53])
(.cond 53 (.seq (rg [mV 54 4,
mV 55 5,
cL 56 iJ [54,55],
mV 57 4,
mV 58 5,
cL 59 LP [57,58],
mV 14 56,
mV 17 59] [4,5,6,7,8,9,10,11,12,13,14,17])
(rg [mV 61 4,
mV 62 5,
cL 63 KP [61,62],
mV 60 63,
eX 64 60 0,
eX 65 60 1,
mV 15 64,
mV 16 65] [6,7,8,9,10,11,12,13,14,15,16,17]))
.skip))
TU)))))))))))
def mY:AFun:=⟨1,[.t 2],z32,false,false⟩
def iO (C:Hd)(gl:GL)(e:En)(h:aA)(x:Esc)(K:KT):Sf C gl z32 e h x K:=⟨_,by simp only[z32,↓wZ,AO.still];rfl⟩
theorem zhg {C gl v0 h x K}:NW C gl mY.body ⟨enter [v0],h,x⟩ K=(iO C gl [(0,v0)] h x K).1:=(iO C gl [(0,v0)] h x K).2
def YU:ACode:=.pr [0,3,6,8,9,10] (rg [mV 57 3,
lD 58 (some 5) 6,
uO 59 (.bsl false (some 5) 1 (.agg [.str [],.int .i64 0,.int .i64 0,.sl (some 2) [],.sl (some 2) []]) [(0,58)]),
uO 60 (.app (some 5) 57 59),
mV 3 60] [0,3,8,9,10])
def LF (C:Hd)(gl:GL)(e:En)(h:aA)(x:Esc)(K:KT):Sf C gl YU e h x K:=⟨_,by simp only[YU,↓wZ,AO.still];rfl⟩
theorem NG {C gl e h x K}:NW C gl YU ⟨e,h,x⟩ K=(LF C gl e h x K).1:=(LF C gl e h x K).2
def ZU:ACode:=.pr [0,3,8,9,10] (rg [bN 61 .add 10 (cI 1),
mV 10 61] [0,3,8,9,10])
def uF (C:Hd)(gl:GL)(e:En)(h:aA)(x:Esc)(K:KT):Sf C gl ZU e h x K:=⟨_,by simp only[ZU,↓wZ,AO.still];rfl⟩
theorem rG {C gl e h x K}:NW C gl ZU ⟨e,h,x⟩ K=(uF C gl e h x K).1:=(uF C gl e h x K).2
def fM:ACode:=.pr [0,3,8,9,10] (.seq (rg [bN 11 .lss 10 9] [0,3,8,9,10,11])
(.seq (.cond 11 .skip
(.exit 0))
(.seq (.block 1 (.seq (rg [iA 12 none 8 10,
lD 13 none 12,
mV 5 13] [0,3,5,8,9,10])
(.seq (.seq (rg [mV 14 0,
cL 15 nE [14,(cI 3)],
mV 16 15,
gD 17 16 true (.mv 3),
gD 18 16 true (.len 17),
gD 19 16 true (.bin .gtr 18 (cI 0)),
uO 20 (.pick 16 19 cF)] [0,3,5,8,9,10,20])
(.cond 20 (.exit 1)
.skip))
(.seq (rg [mV 21 5,
mV 22 0,
cL 23 UF [22,(cI 2),(cI 4)],
mV 24 0,
uO 25 (.bsl false none 4 (.int .i64 0) [(0,(cI 0)),(1,(cI 0)),(2,(cI 5)),(3,(cI 257))]),
cL 26 JC [24,25],
uO 27 (.build [.p (.str []),.p (.int .i64 0),.p (.int .i64 0),.sl0 (some 2),.sl0 (some 2)] [(0,1,21),(1,1,23),(2,1,26)]),
uO 6 (.alloc [.p (.str []),.p (.int .i64 0),.p (.int .i64 0),.sl0 (some 2),.sl0 (some 2)]),
wO (.store (some 5) 6 27)] [0,3,6,8,9,10])
(.seq (rg [mV 28 0,
cL 29 UF [28,(cI 1),(cI 4)],
uO 30 (.build [.p (.str []),.p (.int .i64 0)] [(0,1,(cS [100,97,116,97])),(1,1,29)]),
uO 31 (.bsl true (some 2) 1 (.agg [.str [],.int .i64 0]) [(0,30)]),
fA 32 3 none 6,
wO (.store none 32 31)] [0,3,6,8,9,10])
(.seq (rg [fA 33 1 none 6,
lD 34 none 33,
cL 35 PB [(cS [48]),34],
uO 36 (.build [.p (.str []),.p (.str [])] [(0,1,35),(1,1,(cS [100,97,116,97]))]),
uO 37 (.bsl true (some 2) 1 (.agg [.str [],.str []]) [(0,36)]),
fA 38 4 none 6,
wO (.store none 38 37)] [0,3,6,8,9,10])
(.seq (.seq (rg [fA 39 2 none 6,
lD 40 none 39,
bN 41 .neq 40 (cI 0),
mV 42 41,
gD 43 42 true (.mv 0),
gD 44 42 true (.call nE [43,(cI 2)]),
uO 45 (.pick 42 44 cF)] [0,3,6,8,9,10,45])
(.cond 45 (dr [dF (fA 46 4 none 6) [6],
dF (lD 47 none 46) [46],
dF (fA 48 1 none 6) [6],
dF (lD 49 none 48) [48],
dF (bN 50 .sub 49 (cI 1)) [49],
dA (cL 51 PB [(cS [48]),50]) [50] true [] [1],
dF (bN 52 .add (cS [49]) 51) [51],
dF (uO 53 (.build [.p (.str []),.p (.str [])] [(0,1,52),(1,1,(cS [105,100,99,111,100,101]))])) [52],
dF (uO 54 (.bsl false (some 2) 1 (.agg [.str [],.str []]) [(0,53)])) [53],
dT (uO 55 (.app (some 2) 47 54)) [47,54],
dF (fA 56 4 none 6) [6],
dT (wO (.store none 56 55)) [56,55]] [0,3,6,8,9,10])
.skip))
YU)))))))
ZU)))
def TE (C:Hd)(gl:GL)(e:En)(h:aA)(x:Esc)(K:KT):Sf C gl fM e h x K:=⟨_,by simp only[fM,↓wZ,AO.still];rfl⟩
theorem QF {C gl e h x K}:NW C gl fM ⟨e,h,x⟩ K=(TE C gl e h x K).1:=(TE C gl e h x K).2
theorem zl8 {C gl e h x K}:NW C gl (.loop (.scope fM)) ⟨e,h,x⟩ K=NA C gl (.scope fM) K [(0,eA e 0),(3,eA e 3),(8,eA e 8),(9,eA e 9),(10,eA e 10)] h x:=fC
def PQ:ACode:=.pr [3] (.seq (rg [mV 100 3,
mV 2 100] [2])
.ret)
def yK (C:Hd)(gl:GL)(e:En)(h:aA)(x:Esc)(K:KT):Sf C gl PQ e h x K:=⟨_,by simp only[PQ,↓wZ,AO.still];rfl⟩
theorem RT {C gl e h x K}:NW C gl PQ ⟨e,h,x⟩ K=(yK C gl e h x K).1:=(yK C gl e h x K).2
def QQ:ACode:=.pr [0,3] (.seq (.seq (rg [mV 62 0,
cL 63 nE [62,(cI 20)]] [0,3,63])
(.cond 63 (.seq (rg [mV 64 3,
mV 65 0,
mV 66 3,
lN 67 66,
cL 68 bF [65,67],
iA 69 (some 5) 64 68,
mV 7 69] [0,3,7])
(dr [dF (mV 70 7) [7],
dF (mV 71 7) [7],
dF (mV 72 7) [7],
dF (mV 73 0) [0],
dF (mV 74 7) [7],
dF (uO 75 (.nilchk 74)) [74],
dF (fA 76 0 none 75) [75],
dF (lD 77 none 76) [76],
dF (uO 78 (.bsl false none 3 (.str []) [(0,77),(1,(cS [])),(2,(cS [117]))])) [77],
dT (cL 79 AE [73,78]) [73,78],
dF (mV 80 0) [0],
dF (mV 81 7) [7],
dF (uO 82 (.nilchk 81)) [81],
dF (fA 83 1 none 82) [82],
dA (lD 84 none 83) [83] false [9] [],
dA (uO 85 (.bsl false none 3 (.int .i64 0) [(0,84),(1,(cI 1)),(2,(cI 33))])) [84] false [9] [],
dT (cL 86 JC [80,85]) [80,85],
dF (mV 87 0) [0],
dF (mV 88 7) [7],
dF (uO 89 (.nilchk 88)) [88],
dF (fA 90 2 none 89) [89],
dA (lD 91 none 90) [90] false [9,16] [],
dA (uO 92 (.bsl false none 3 (.int .i64 0) [(0,91),(1,(cI 4)),(2,(cI (-1)))])) [91] false [9,16] [],
dT (cL 93 JC [87,92]) [87,92],
dF (uO 94 (.nilchk 70)) [70],
dF (fA 95 0 none 94) [94],
dT (wO (.store none 95 79)) [95,79],
dF (uO 96 (.nilchk 71)) [71],
dF (fA 97 1 none 96) [96],
dT (wO (.store none 97 86)) [97,86],
dF (uO 98 (.nilchk 72)) [72],
dF (fA 99 2 none 98) [98],
dT (wO (.store none 99 93)) [99,93]] [3]))
.skip))
PQ)
def WI (C:Hd)(gl:GL)(e:En)(h:aA)(x:Esc)(K:KT):Sf C gl QQ e h x K:=⟨_,by simp only[QQ,↓wZ,AO.still];rfl⟩
theorem ST {C gl e h x K}:NW C gl QQ ⟨e,h,x⟩ K=(WI C gl e h x K).1:=(WI C gl e h x K).2
def z38:ACode:=(.seq (rg [mV 2 (.c (.p (.sl (some 5) [])))] [0])
(.seq (rg [uO 3 (.new0 (some 5))] [0,3])
(.seq (.seq (rg [uO 8 (.bsl false none 3 (.str []) [(0,(cS [117])),(1,(cS [118])),(2,(cS [119]))]),
lN 9 8,
mV 10 (cI 0)] [0,3,8,9,10])
(.block 0 (.loop (.scope fM))))
QQ)))
def rY:AFun:=⟨1,[.t 2],z38,false,false⟩
def gS (C:Hd)(gl:GL)(e:En)(h:aA)(x:Esc)(K:KT):Sf C gl z38 e h x K:=⟨_,by simp only[z38,↓wZ,AO.still];rfl⟩
theorem zhs {C gl v0 h x K}:NW C gl rY.body ⟨enter [v0],h,x⟩ K=(gS C gl [(0,v0)] h x K).1:=(gS C gl [(0,v0)] h x K).2
def iM:ACode:=.pr [0,5,6,7] (.seq (rg [bN 8 .lss 7 6] [0,5,6,7,8])
(.seq (.cond 8 .skip
(.exit 0))
(.seq (.block 1 (rg [mV 9 5,
mV 10 0,
cL 11 sP [10],
uO 12 (.bsl false (some 6) 1 (.agg [.int .i64 0,.int .i64 0,.int .i64 0,.str [],.str [],.str []]) [(0,11)]),
uO 13 (.app (some 6) 9 12),
mV 5 13] [0,5,6,7]))
(rg [bN 14 .add 7 (cI 1),
mV 7 14] [0,5,6,7]))))
def z1g (C:Hd)(gl:GL)(e:En)(h:aA)(x:Esc)(K:KT):Sf C gl iM e h x K:=⟨_,by simp only[iM,↓wZ,AO.still];rfl⟩
theorem zhu {C gl e h x K}:NW C gl iM ⟨e,h,x⟩ K=(z1g C gl e h x K).1:=(z1g C gl e h x K).2
theorem zl9 {C gl e h x K}:NW C gl (.loop (.scope iM)) ⟨e,h,x⟩ K=NA C gl (.scope iM) K [(0,eA e 0),(5,eA e 5),(6,eA e 6),(7,eA e 7)] h x:=fC
def jM:ACode:=.pr [0,5,17] (.seq (rg [bN 18 .lss 17 (cI 11)] [0,5,17,18])
(.seq (.cond 18 .skip
(.exit 2))
(.seq (.block 3 (rg [mV 19 5,
mV 20 0,
uO 21 (.bsl false none 3 (.int .i64 0) [(0,(cI 1800)),(1,(cI 1830)),(2,(cI 2000))]),
cL 22 JC [20,21],
cL 23 PB [(cS [49]),22],
uO 24 (.build [.p (.int .i64 0),.p (.int .i64 0),.p (.int .i64 0),.p (.str []),.p (.str []),.p (.str [])] [(0,1,(cI 8)),(3,1,23)]),
uO 25 (.bsl false (some 6) 1 (.agg [.int .i64 0,.int .i64 0,.int .i64 0,.str [],.str [],.str []]) [(0,24)]),
uO 26 (.app (some 6) 19 25),
mV 5 26] [0,5,17]))
(rg [bN 27 .add 17 (cI 1),
mV 17 27] [0,5,17]))))
def z1h (C:Hd)(gl:GL)(e:En)(h:aA)(x:Esc)(K:KT):Sf C gl jM e h x K:=⟨_,by simp only[jM,↓wZ,AO.still];rfl⟩
theorem zhv {C gl e h x K}:NW C gl jM ⟨e,h,x⟩ K=(z1h C gl e h x K).1:=(z1h C gl e h x K).2
theorem zlA {C gl e h x K}:NW C gl (.loop (.scope jM)) ⟨e,h,x⟩ K=NA C gl (.scope jM) K [(0,eA e 0),(5,eA e 5),(17,eA e 17)] h x:=fC
def aV:ACode:=.pr [5] (.seq (rg [mV 28 5,
mV 4 28] [4])
.ret)
def z1i (C:Hd)(gl:GL)(e:En)(h:aA)(x:Esc)(K:KT):Sf C gl aV e h x K:=⟨_,by simp only[aV,↓wZ,AO.still];rfl⟩
theorem zhw {C gl e h x K}:NW C gl aV ⟨e,h,x⟩ K=(z1i C gl e h x K).1:=(z1i C gl e h x K).2
def bV:ACode:=.pr [0,5] (.seq (.seq (rg [mV 15 0,
cL 16 nE [15,(cI 80)]] [0,5,16])
(.cond 16 (.seq (rg [mV 17 (cI 0)] [0,5,17])
(.block 2 (.loop (.scope jM))))
.skip))
aV)
def z1j (C:Hd)(gl:GL)(e:En)(h:aA)(x:Esc)(K:KT):Sf C gl bV e h x K:=⟨_,by simp only[bV,↓wZ,AO.still];rfl⟩
theorem zhx {C gl e h x K}:NW C gl bV ⟨e,h,x⟩ K=(z1j C gl e h x K).1:=(z1j C gl e h x K).2
def z39:ACode:=(.seq (rg [mV 4 (.c (.p (.sl (some 6) [])))] [0,1])
(.seq (rg [uO 5 (.new0 (some 6))] [0,1,5])
(.seq (.seq (rg [mV 6 1,
mV 7 (cI 0)] [0,5,6,7])
(.block 0 (.loop (.scope iM))))
bV)))
def sY:AFun:=⟨2,[.t 4],z39,false,false⟩
def iS (C:Hd)(gl:GL)(e:En)(h:aA)(x:Esc)(K:KT):Sf C gl z39 e h x K:=⟨_,by simp only[z39,↓wZ,AO.still];rfl⟩
theorem zht {C gl v0 v1 h x K}:NW C gl sY.body ⟨enter [v0,v1],h,x⟩ K=(iS C gl [(0,v0),(1,v1)] h x K).1:=(iS C gl [(0,v0),(1,v1)] h x K).2
def z3E:ACode:=(.seq (rg [mV 6 (cI 0)] [0,1,2])
(.seq (.seq (rg [mV 7 2,
mV 8 1,
bN 9 .lss 7 8] [0,1,2,9])
(.cond 9 (.seq (rg [mV 10 1,
mV 6 10] [6])
.ret)
.skip))
(.seq (rg [mV 11 1,
mV 12 0,
mV 13 2,
mV 14 1,
bN 15 .sub 13 14,
bN 16 .add 15 (cI 1),
cL 17 bF [12,16],
bN 18 .add 11 17,
mV 6 18] [6])
.ret)))
def xY:AFun:=⟨3,[.t 6],z3E,false,false⟩
def lS (C:Hd)(gl:GL)(e:En)(h:aA)(x:Esc)(K:KT):Sf C gl z3E e h x K:=⟨_,by simp only[z3E,↓wZ,AO.still];rfl⟩
theorem zh2 {C gl v0 v1 v2 h x K}:NW C gl xY.body ⟨enter [v0,v1,v2],h,x⟩ K=(lS C gl [(0,v0),(1,v1),(2,v2)] h x K).1:=(lS C gl [(0,v0),(1,v1),(2,v2)] h x K).2
def z4Y:ACode:=(.seq (rg [mV 4 (.c (.p (.sl none []))),
mV 5 (cI 0)] [0,1])
(.seq (.seq (rg [mV 7 0,
mV 8 1,
cL 9 sJ [7,8],
mV 6 9] [0,1,6])
(.seq (rg [mV 10 6,
bN 11 .neq 10 (cI 0)] [0,1,6,11])
(.cond 11 (.seq (rg [mV 12 6,
mV 4 (.c (.p (.sl none []))),
mV 5 12] [4,5])
.ret)
.skip)))
(.seq (rg [mV 13 0,
mV 14 1,
cL 15 rJ [13,14],
mV 4 15,
mV 5 (cI 0)] [4,5])
.ret)))
def z0a:AFun:=⟨2,[.t 4,.t 5],z4Y,false,false⟩
def WO (C:Hd)(gl:GL)(e:En)(h:aA)(x:Esc)(K:KT):Sf C gl z4Y e h x K:=⟨_,by simp only[z4Y,↓wZ,AO.still];rfl⟩
theorem zjK {C gl v0 v1 h x K}:NW C gl z0a.body ⟨enter [v0,v1],h,x⟩ K=(WO C gl [(0,v0),(1,v1)] h x K).1:=(WO C gl [(0,v0),(1,v1)] h x K).2
def uW:ACode:=.pr [1,8,9,10,11,12,22,23,24,34,35] (rg [bN 61 .add 35 (cI 1),
mV 35 61] [1,8,9,10,11,12,22,23,24,34,35])
def cJ (C:Hd)(gl:GL)(e:En)(h:aA)(x:Esc)(K:KT):Sf C gl uW e h x K:=⟨_,by simp only[uW,↓wZ,AO.still];rfl⟩
theorem jP {C gl e h x K}:NW C gl uW ⟨e,h,x⟩ K=(cJ C gl e h x K).1:=(cJ C gl e h x K).2
def ZM:ACode:=.pr [1,8,9,10,11,12,22,23,24,34,35] (.seq (rg [bN 36 .lss 35 34] [1,8,9,10,11,12,22,23,24,34,35,36])
(.seq (.cond 36 .skip
(.exit 2))
(.seq (.block 3 (.seq (rg [mV 37 35,
mV 13 37] [1,8,9,10,11,12,13,22,23,24,34,35])
(.seq (dr [dF (mV 38 1) [1],
dF (mV 39 10) [10],
dF (iA 40 (some 6) 38 39) [38,39],
dF (fA 41 5 none 40) [40],
dF (lD 42 none 41) [41],
dF (mV 43 13) [13],
dF (uO 44 (.idxs 42 43)) [42,43],
dF (bN 45 .eql 44 (.c (.p (.int .u8 49)))) [44],
dF (mV 46 45) [45],
dF (gD 47 46 true (.mv 11)) [11,46],
dF (gD 48 46 true (.mv 13)) [13,46],
dF (gD 49 46 true (.idxs 47 48)) [47,48,46],
dF (gD 50 46 true (.mv 1)) [1,46],
dF (gD 51 46 true (.mv 10)) [10,46],
dF (gD 52 46 true (.iaddr (some 6) 50 51)) [50,51,46],
dF (gD 53 46 true (.faddr 4 none 52)) [52,46],
dF (gD 54 46 true (.load none 53)) [53,46],
dF (gD 55 46 true (.mv 13)) [13,46],
dF (gD 56 46 true (.idxs 54 55)) [54,55,46],
dF (gD 57 46 true (.bin .neq 49 56)) [49,56,46],
dF (uO 58 (.pick 46 57 cF)) [46,57]] [1,8,9,10,11,12,22,23,24,34,35,58])
(.cond 58 (rg [mV 59 12,
bN 60 .add 59 (cI 1),
mV 12 60] [1,8,9,10,11,12,22,23,24,34,35])
.skip))))
uW)))
def dJ (C:Hd)(gl:GL)(e:En)(h:aA)(x:Esc)(K:KT):Sf C gl ZM e h x K:=⟨_,by simp only[ZM,↓wZ,AO.still];rfl⟩
theorem kP {C gl e h x K}:NW C gl ZM ⟨e,h,x⟩ K=(dJ C gl e h x K).1:=(dJ C gl e h x K).2
theorem zms {C gl e h x K}:NW C gl (.loop ZM) ⟨e,h,x⟩ K=NA C gl ZM K [(1,eA e 1),(8,eA e 8),(9,eA e 9),(10,eA e 10),(11,eA e 11),(12,eA e 12),(22,eA e 22),(23,eA e 23),(24,eA e 24),(34,eA e 34),(35,eA e 35)] h x:=MB
def vW:ACode:=.pr [1,8,9,10,12,22,23,24] (.seq (rg [mV 62 12,
bN 63 .gtr 62 (cI 0)] [1,8,9,10,12,22,23,24,63])
(.cond 63 (rg [mV 64 8,
mV 65 10,
uO 66 (.bsl false none 1 (.int .i64 0) [(0,65)]),
uO 67 (.app none 64 66),
mV 68 9,
mV 69 12,
uO 70 (.bsl false none 1 (.int .i64 0) [(0,69)]),
uO 71 (.app none 68 70),
mV 8 67,
mV 9 71] [1,8,9,22,23,24])
.skip))
def qG (C:Hd)(gl:GL)(e:En)(h:aA)(x:Esc)(K:KT):Sf C gl vW e h x K:=⟨_,by simp only[vW,↓wZ,AO.still];rfl⟩
theorem KH {C gl e h x K}:NW C gl vW ⟨e,h,x⟩ K=(qG C gl e h x K).1:=(qG C gl e h x K).2
def wW:ACode:=.pr [1,8,9,22,23,24] (rg [bN 72 .add 24 (cI 1),
mV 24 72] [1,8,9,22,23,24])
def RO (C:Hd)(gl:GL)(e:En)(h:aA)(x:Esc)(K:KT):Sf C gl wW e h x K:=⟨_,by simp only[wW,↓wZ,AO.still];rfl⟩
theorem z2D {C gl e h x K}:NW C gl wW ⟨e,h,x⟩ K=(RO C gl e h x K).1:=(RO C gl e h x K).2
def aN:ACode:=.pr [1,8,9,22,23,24] (.seq (rg [bN 25 .lss 24 23] [1,8,9,22,23,24,25])
(.seq (.cond 25 .skip
(.exit 0))
(.seq (.block 1 (.seq (rg [mV 26 24,
iA 27 none 22 24,
lD 28 none 27,
mV 10 26,
mV 11 28] [1,8,9,10,11,22,23,24])
(.seq (rg [mV 12 (cI 0)] [1,8,9,10,11,12,22,23,24])
(.seq (.seq (rg [mV 29 1,
mV 30 10,
iA 31 (some 6) 29 30,
fA 32 5 none 31,
lD 33 none 32,
uO 34 (.lens 33),
mV 35 (cI 0)] [1,8,9,10,11,12,22,23,24,34,35])
(.block 2 (.loop ZM)))
vW))))
wW)))
def z2b (C:Hd)(gl:GL)(e:En)(h:aA)(x:Esc)(K:KT):Sf C gl aN e h x K:=⟨_,by simp only[aN,↓wZ,AO.still];rfl⟩
theorem zjI {C gl e h x K}:NW C gl aN ⟨e,h,x⟩ K=(z2b C gl e h x K).1:=(z2b C gl e h x K).2
theorem zmt {C gl e h x K}:NW C gl (.loop (.scope aN)) ⟨e,h,x⟩ K=NA C gl (.scope aN) K [(1,eA e 1),(8,eA e 8),(9,eA e 9),(22,eA e 22),(23,eA e 23),(24,eA e 24)] h x:=fC
def xW:ACode:=.pr [8,9] (.seq (rg [mV 73 8,
mV 74 9,
mV 4 73,
mV 5 74,
mV 6 (cI 0)] [4,5,6])
.ret)
def ET (C:Hd)(gl:GL)(e:En)(h:aA)(x:Esc)(K:KT):Sf C gl xW e h x K:=⟨_,by simp only[xW,↓wZ,AO.still];rfl⟩
theorem z8F {C gl e h x K}:NW C gl xW ⟨e,h,x⟩ K=(ET C gl e h x K).1:=(ET C gl e h x K).2
def z4W:ACode:=(.seq (rg [mV 4 (.c (.p (.sl none []))),
mV 5 (.c (.p (.sl none []))),
mV 6 (cI 0)] [0,1])
(.seq (.seq (rg [mV 14 0,
mV 15 1,
cL 16 sJ [14,15],
mV 7 16] [0,1,7])
(.seq (rg [mV 17 7,
bN 18 .neq 17 (cI 0)] [0,1,7,18])
(.cond 18 (.seq (rg [mV 19 7,
mV 4 (.c (.p (.sl none []))),
mV 5 (.c (.p (.sl none []))),
mV 6 19] [4,5,6])
.ret)
.skip)))
(.seq (rg [uO 8 (.new0 none),
uO 9 (.new0 none)] [0,1,8,9])
(.seq (.seq (rg [mV 20 0,
mV 21 1,
cL 22 rJ [20,21],
lN 23 22,
mV 24 (cI 0)] [1,8,9,22,23,24])
(.block 0 (.loop (.scope aN))))
xW))))
def YZ:AFun:=⟨2,[.t 4,.t 5,.t 6],z4W,false,false⟩
def QO (C:Hd)(gl:GL)(e:En)(h:aA)(x:Esc)(K:KT):Sf C gl z4W e h x K:=⟨_,by simp only[z4W,↓wZ,AO.still];rfl⟩
theorem zjH {C gl v0 v1 h x K}:NW C gl YZ.body ⟨enter [v0,v1],h,x⟩ K=(QO C gl [(0,v0),(1,v1)] h x K).1:=(QO C gl [(0,v0),(1,v1)] h x K).2
def yW:ACode:=.pr [7,20,21,22] (rg [bN 45 .add 22 (cI 1),
mV 22 45] [7,20,21,22])
def TO (C:Hd)(gl:GL)(e:En)(h:aA)(x:Esc)(K:KT):Sf C gl yW e h x K:=⟨_,by simp only[yW,↓wZ,AO.still];rfl⟩
theorem z2E {C gl e h x K}:NW C gl yW ⟨e,h,x⟩ K=(TO C gl e h x K).1:=(TO C gl e h x K).2
def cN:ACode:=.pr [7,20,21,22] (.seq (rg [bN 23 .lss 22 21] [7,20,21,22,23])
(.seq (.cond 23 .skip
(.exit 0))
(.seq (.block 1 (.seq (rg [mV 24 22,
iA 25 none 20 22,
lD 26 none 25,
mV 8 24,
mV 9 26] [7,8,9,20,21,22])
(.seq (rg [mV 27 7,
mV 28 8,
iA 29 (some 6) 27 28,
fA 30 0 none 29,
lD 31 none 30,
cL 32 SG [31]] [7,8,9,20,21,22,32])
(.cond 32 (rg [mV 33 7,
mV 34 8,
mV 35 7,
mV 36 8,
mV 37 9,
mV 38 9,
uO 39 (.lens 38),
cL 40 PB [(cS [49]),39],
iA 41 (some 6) 33 34,
fA 42 4 none 41,
wO (.store none 42 37),
iA 43 (some 6) 35 36,
fA 44 5 none 43,
wO (.store none 44 40)] [7,20,21,22])
.skip))))
yW)))
def UO (C:Hd)(gl:GL)(e:En)(h:aA)(x:Esc)(K:KT):Sf C gl cN e h x K:=⟨_,by simp only[cN,↓wZ,AO.still];rfl⟩
theorem z2F {C gl e h x K}:NW C gl cN ⟨e,h,x⟩ K=(UO C gl e h x K).1:=(UO C gl e h x K).2
theorem zmu {C gl e h x K}:NW C gl (.loop cN) ⟨e,h,x⟩ K=NA C gl cN K [(7,eA e 7),(20,eA e 20),(21,eA e 21),(22,eA e 22)] h x:=MB
def zW:ACode:=.pr [7] (.seq (rg [mV 46 7,
mV 4 46,
mV 5 (cI 0)] [4,5])
.ret)
def FT (C:Hd)(gl:GL)(e:En)(h:aA)(x:Esc)(K:KT):Sf C gl zW e h x K:=⟨_,by simp only[zW,↓wZ,AO.still];rfl⟩
theorem z8G {C gl e h x K}:NW C gl zW ⟨e,h,x⟩ K=(FT C gl e h x K).1:=(FT C gl e h x K).2
def z4X:ACode:=(.seq (rg [mV 4 (.c (.p (.sl (some 6) []))),
mV 5 (cI 0)] [0,1])
(.seq (.seq (rg [mV 10 0,
mV 11 1,
cL 12 sJ [10,11],
mV 6 12] [0,1,6])
(.seq (rg [mV 13 6,
bN 14 .neq 13 (cI 0)] [0,1,6,14])
(.cond 14 (.seq (rg [mV 15 6,
mV 4 (.c (.p (.sl (some 6) []))),
mV 5 15] [4,5])
.ret)
.skip)))
(.seq (rg [mV 16 1,
cL 17 qL [16],
mV 7 17] [0,1,7])
(.seq (.seq (rg [mV 18 0,
mV 19 1,
cL 20 rJ [18,19],
lN 21 20,
mV 22 (cI 0)] [7,20,21,22])
(.block 0 (.loop cN)))
zW))))
def ZZ:AFun:=⟨2,[.t 4,.t 5],z4X,false,false⟩
def SO (C:Hd)(gl:GL)(e:En)(h:aA)(x:Esc)(K:KT):Sf C gl z4X e h x K:=⟨_,by simp only[z4X,↓wZ,AO.still];rfl⟩
theorem zjJ {C gl v0 v1 h x K}:NW C gl ZZ.body ⟨enter [v0,v1],h,x⟩ K=(SO C gl [(0,v0),(1,v1)] h x K).1:=(SO C gl [(0,v0),(1,v1)] h x K).2
def eM:ACode:=.pr [5,6,7] (.seq (rg [bN 8 .lss 7 6] [5,6,7,8])
(.seq (.cond 8 .skip
(.exit 0))
(.seq (.block 1 (.seq (rg [iA 9 none 5 7,
lD 10 none 9,
mV 4 10] [4,5,6,7])
(.seq (rg [mV 11 4,
bN 12 .neq 11 (cI 0)] [4,5,6,7,12])
(.cond 12 (.seq (rg [mV 13 4,
mV 2 13] [2])
.ret)
.skip))))
(rg [bN 14 .add 7 (cI 1),
mV 7 14] [5,6,7]))))
def z1c (C:Hd)(gl:GL)(e:En)(h:aA)(x:Esc)(K:KT):Sf C gl eM e h x K:=⟨_,by simp only[eM,↓wZ,AO.still];rfl⟩
theorem zhi {C gl e h x K}:NW C gl eM ⟨e,h,x⟩ K=(z1c C gl e h x K).1:=(z1c C gl e h x K).2
theorem zl7 {C gl e h x K}:NW C gl (.loop eM) ⟨e,h,x⟩ K=NA C gl eM K [(5,eA e 5),(6,eA e 6),(7,eA e 7)] h x:=MB
def UU:ACode:=.pr [] (.seq (rg [mV 2 (cI 0)] [2])
.ret)
def z1d (C:Hd)(gl:GL)(e:En)(h:aA)(x:Esc)(K:KT):Sf C gl UU e h x K:=⟨_,by simp only[UU,↓wZ,AO.still];rfl⟩
theorem zhj {C gl e h x K}:NW C gl UU ⟨e,h,x⟩ K=(z1d C gl e h x K).1:=(z1d C gl e h x K).2
def z33:ACode:=(.seq (rg [mV 2 (cI 0)] [0])
(.seq (.seq (rg [mV 5 0,
lN 6 5,
mV 7 (cI 0)] [5,6,7])
(.block 0 (.loop eM)))
UU))
def nY:AFun:=⟨1,[.t 2],z33,false,false⟩
def dS (C:Hd)(gl:GL)(e:En)(h:aA)(x:Esc)(K:KT):Sf C gl z33 e h x K:=⟨_,by simp only[z33,↓wZ,AO.still];rfl⟩
theorem zhh {C gl v0 h x K}:NW C gl nY.body ⟨enter [v0],h,x⟩ K=(dS C gl [(0,v0)] h x K).1:=(dS C gl [(0,v0)] h x K).2
def lM:ACode:=.pr [0,14,15,16] (.seq (rg [bN 17 .lss 16 15] [0,14,15,16,17])
(.seq (.cond 17 .skip
(.exit 1))
(.seq (.block 2 (.seq (rg [mV 18 16,
iA 19 (some 5) 14 16,
lD 20 (some 5) 19,
uO 4 (.alloc [.p (.str []),.p (.int .i64 0),.p (.int .i64 0),.sl0 (some 2),.sl0 (some 2)]),
mV 3 18,
wO (.store (some 5) 4 20)] [0,3,4,14,15,16])
(.seq (.block 3 (.seq (rg [fA 22 0 none 4,
lD 23 none 22,
cL 24 jL [23],
uO 25 (.un .not 24),
mV 21 25] [0,3,4,14,15,16,21])
(.cond 21 (.seq (rg [mV 2 (cI 5)] [2])
.ret)
(.seq (rg [mV 27 0,
mV 28 3,
uO 29 (.slice (some 5) 27 none (some 28) none),
uO 30 (.mkfn xP [4]),
cL 31 rL [29,30],
mV 26 31] [0,4,14,15,16,26])
(.cond 26 (.seq (rg [mV 2 (cI 6)] [2])
.ret)
(.seq (rg [fA 33 1 none 4,
lD 34 none 33,
cL 35 OH [34,(cI 2),(cI 32)],
uO 36 (.un .not 35),
mV 37 36,
gD 38 37 false (.faddr 2 none 4),
gD 39 37 false (.load none 38),
gD 40 37 false (.call OH [39,(cI 0),(cI 4294967295)]),
gD 41 37 false (.un .not 40),
uO 42 (.pick 37 cT 41),
mV 32 42] [0,4,14,15,16,32])
(.cond 32 (.seq (rg [mV 2 (cI 1)] [2])
.ret)
(.seq (rg [fA 44 2 none 4,
lD 45 none 44,
bN 46 .neq 45 (cI 0),
mV 47 46,
gD 48 47 true (.faddr 2 none 4),
gD 49 47 true (.load none 48),
gD 50 47 true (.bin .rem 49 (cI 2)),
gD 51 47 true (.bin .eql 50 (cI 0)),
uO 52 (.pick 47 51 cF),
mV 43 52] [0,4,14,15,16,43])
(.cond 43 (.seq (rg [mV 2 (cI 3)] [2])
.ret)
.skip)))))))))
(.seq (rg [lD 53 (some 5) 4,
cL 54 IP [53],
mV 5 54] [0,5,14,15,16])
(.seq (rg [mV 55 5,
bN 56 .neq 55 (cI 0)] [0,5,14,15,16,56])
(.cond 56 (.seq (rg [mV 57 5,
mV 2 57] [2])
.ret)
.skip))))))
(rg [bN 58 .add 16 (cI 1),
mV 16 58] [0,14,15,16]))))
def UE (C:Hd)(gl:GL)(e:En)(h:aA)(x:Esc)(K:KT):Sf C gl lM e h x K:=⟨_,by simp only[lM,↓wZ,AO.still];rfl⟩
theorem RF {C gl e h x K}:NW C gl lM ⟨e,h,x⟩ K=(UE C gl e h x K).1:=(UE C gl e h x K).2
theorem zlC {C gl e h x K}:NW C gl (.loop (.scope lM)) ⟨e,h,x⟩ K=NA C gl (.scope lM) K [(0,eA e 0),(14,eA e 14),(15,eA e 15),(16,eA e 16)] h x:=fC
def dV:ACode:=.pr [] (.seq (rg [mV 2 (cI 0)] [2])
.ret)
def pS (C:Hd)(gl:GL)(e:En)(h:aA)(x:Esc)(K:KT):Sf C gl dV e h x K:=⟨_,by simp only[dV,↓wZ,AO.still];rfl⟩
theorem z86 {C gl e h x K}:NW C gl dV ⟨e,h,x⟩ K=(pS C gl e h x K).1:=(pS C gl e h x K).2
def z3I:ACode:=(.seq (rg [mV 2 (cI 0)] [0])
(.seq (.block 0 (.seq (rg [mV 7 0,
lN 8 7,
bN 9 .eql 8 (cI 0),
mV 6 9] [0,6])
(.cond 6 (.seq (rg [mV 2 (cI 8)] [2])
.ret)
(.seq (rg [mV 11 0,
lN 12 11,
bN 13 .gtr 12 (cI 20),
mV 10 13] [0,10])
(.cond 10 (.seq (rg [mV 2 (cI 2)] [2])
.ret)
.skip)))))
(.seq (.seq (rg [mV 14 0,
lN 15 14,
mV 16 (cI 0)] [0,14,15,16])
(.block 1 (.loop (.scope lM))))
dV)))
def BY:AFun:=⟨1,[.t 2],z3I,false,false⟩
def zK (C:Hd)(gl:GL)(e:En)(h:aA)(x:Esc)(K:KT):Sf C gl z3I e h x K:=⟨_,by simp only[z3I,↓wZ,AO.still];rfl⟩
theorem zh8 {C gl v0 h x K}:NW C gl BY.body ⟨enter [v0],h,x⟩ K=(zK C gl [(0,v0)] h x K).1:=(zK C gl [(0,v0)] h x K).2
def xM:ACode:=.pr [0,12,13,14] (.seq (rg [bN 15 .lss 14 13] [0,12,13,14,15])
(.seq (.cond 15 .skip
(.exit 0))
(.seq (.block 1 (.seq (rg [iA 16 (some 6) 12 14,
lD 17 (some 6) 16,
uO 4 (.alloc [.p (.int .i64 0),.p (.int .i64 0),.p (.int .i64 0),.p (.str []),.p (.str []),.p (.str [])]),
wO (.store (some 6) 4 17)] [0,4,12,13,14])
(.seq (rg [lD 18 (some 6) 4,
cL 19 MP [18],
mV 5 19] [0,5,12,13,14])
(.seq (rg [mV 20 5,
bN 21 .neq 20 (cI 0)] [0,5,12,13,14,21])
(.cond 21 (.seq (rg [mV 22 5,
mV 2 22] [2])
.ret)
.skip)))))
(rg [bN 23 .add 14 (cI 1),
mV 14 23] [0,12,13,14]))))
def z1y (C:Hd)(gl:GL)(e:En)(h:aA)(x:Esc)(K:KT):Sf C gl xM e h x K:=⟨_,by simp only[xM,↓wZ,AO.still];rfl⟩
theorem zie {C gl e h x K}:NW C gl xM ⟨e,h,x⟩ K=(z1y C gl e h x K).1:=(z1y C gl e h x K).2
theorem zlQ {C gl e h x K}:NW C gl (.loop (.scope xM)) ⟨e,h,x⟩ K=NA C gl (.scope xM) K [(0,eA e 0),(12,eA e 12),(13,eA e 13),(14,eA e 14)] h x:=fC
def xV:ACode:=.pr [0] (.seq (.seq (rg [mV 25 0,
cL 26 jJ [25],
mV 24 26,
eX 27 24 0,
eX 28 24 1,
eX 29 24 2,
mV 6 27,
mV 7 28,
mV 8 29] [6])
(.seq (rg [mV 30 6,
uO 31 (.lens 30),
bN 32 .gtr 31 (cI 20000)] [32])
(.cond 32 (.seq (rg [mV 2 (cI 2)] [2])
.ret)
.skip)))
(.seq (rg [mV 2 (cI 0)] [2])
.ret))
def z1z (C:Hd)(gl:GL)(e:En)(h:aA)(x:Esc)(K:KT):Sf C gl xV e h x K:=⟨_,by simp only[xV,↓wZ,AO.still];rfl⟩
theorem zif {C gl e h x K}:NW C gl xV ⟨e,h,x⟩ K=(z1z C gl e h x K).1:=(z1z C gl e h x K).2
def z4b:ACode:=(.seq (rg [mV 2 (cI 0)] [0])
(.seq (.seq (rg [mV 9 0,
lN 10 9,
bN 11 .gtr 10 (cI 1000)] [0,11])
(.cond 11 (.seq (rg [mV 2 (cI 2)] [2])
.ret)
.skip))
(.seq (.seq (rg [mV 12 0,
lN 13 12,
mV 14 (cI 0)] [0,12,13,14])
(.block 0 (.loop (.scope xM))))
xV)))
def UY:AFun:=⟨1,[.t 2],z4b,false,false⟩
def xO (C:Hd)(gl:GL)(e:En)(h:aA)(x:Esc)(K:KT):Sf C gl z4b e h x K:=⟨_,by simp only[z4b,↓wZ,AO.still];rfl⟩
theorem zid {C gl v0 h x K}:NW C gl UY.body ⟨enter [v0],h,x⟩ K=(xO C gl [(0,v0)] h x K).1:=(xO C gl [(0,v0)] h x K).2
def FV:ACode:=.pr [1,8,9,10,12,13,25,26,27] (dr [dF (mV 54 9) [9],
dF (mV 55 13) [13],
dF (uO 56 (.bsl false none 1 (.str []) [(0,55)])) [55],
dT (uO 57 (.app none 54 56)) [54,56],
dF (mV 58 10) [10],
dF (fA 59 0 none 12) [12],
dA (lD 60 none 59) [59] false [3] [],
dF (uO 61 (.lens 60)) [60],
dF (bN 62 .add 58 61) [58,61],
dF (mV 9 57) [57],
dF (mV 10 62) [62]] [1,8,9,10,25,26,27])
def CO (C:Hd)(gl:GL)(e:En)(h:aA)(x:Esc)(K:KT):Sf C gl FV e h x K:=⟨_,by simp only[FV,↓wZ,AO.still];rfl⟩
theorem z25 {C gl e h x K}:NW C gl FV ⟨e,h,x⟩ K=(CO C gl e h x K).1:=(CO C gl e h x K).2
def GV:ACode:=.pr [1,8,9,10,25,26,27] (rg [bN 63 .add 27 (cI 1),
mV 27 63] [1,8,9,10,25,26,27])
def DO (C:Hd)(gl:GL)(e:En)(h:aA)(x:Esc)(K:KT):Sf C gl GV e h x K:=⟨_,by simp only[GV,↓wZ,AO.still];rfl⟩
theorem z26 {C gl e h x K}:NW C gl GV ⟨e,h,x⟩ K=(DO C gl e h x K).1:=(DO C gl e h x K).2
def BM:ACode:=.pr [1,8,9,10,25,26,27] (.seq (rg [bN 28 .lss 27 26] [1,8,9,10,25,26,27,28])
(.seq (.cond 28 .skip
(.exit 0))
(.seq (.block 1 (.seq (rg [mV 29 27,
iA 30 (some 5) 25 27,
lD 31 (some 5) 30,
uO 12 (.alloc [.p (.str []),.p (.str []),.p (.str []),.p (.int .i64 0),.p (.int .i64 0)]),
mV 11 29,
wO (.store (some 5) 12 31)] [1,8,9,10,11,12,25,26,27])
(.seq (rg [mV 13 (cS [])] [1,8,9,10,11,12,13,25,26,27])
(.seq (.seq (rg [mV 32 1,
mV 33 11,
iA 34 (some 6) 32 33,
lD 35 (some 6) 34,
cL 36 VF [35]] [1,8,9,10,11,12,13,25,26,27,36])
(.cond 36 (dr [dF (mV 37 8) [8],
dF (mV 38 10) [10],
dF (fA 39 3 none 12) [12],
dF (lD 40 none 39) [39],
dF (bN 41 .add 38 40) [38,40],
dF (mV 42 10) [10],
dF (fA 43 3 none 12) [12],
dF (lD 44 none 43) [43],
dF (bN 45 .add 42 44) [42,44],
dF (mV 46 1) [1],
dF (mV 47 11) [11],
dF (iA 48 (some 6) 46 47) [46,47],
dF (fA 49 3 none 48) [48],
dF (lD 50 none 49) [49],
dF (uO 51 (.lens 50)) [50],
dF (bN 52 .add 45 51) [45,51],
dF (uO 53 (.slstr 37 (some 41) (some 52))) [37,41,52],
dF (mV 13 53) [53]] [1,8,9,10,12,13,25,26,27])
.skip))
FV))))
GV)))
def z11 (C:Hd)(gl:GL)(e:En)(h:aA)(x:Esc)(K:KT):Sf C gl BM e h x K:=⟨_,by simp only[BM,↓wZ,AO.still];rfl⟩
theorem zik {C gl e h x K}:NW C gl BM ⟨e,h,x⟩ K=(z11 C gl e h x K).1:=(z11 C gl e h x K).2
theorem zlU {C gl e h x K}:NW C gl (.loop (.scope BM)) ⟨e,h,x⟩ K=NA C gl (.scope BM) K [(1,eA e 1),(8,eA e 8),(9,eA e 9),(10,eA e 10),(25,eA e 25),(26,eA e 26),(27,eA e 27)] h x:=fC
def HV:ACode:=.pr [9] (.seq (rg [mV 64 9,
mV 4 64] [4])
.ret)
def JS (C:Hd)(gl:GL)(e:En)(h:aA)(x:Esc)(K:KT):Sf C gl HV e h x K:=⟨_,by simp only[HV,↓wZ,AO.still];rfl⟩
theorem z89 {C gl e h x K}:NW C gl HV ⟨e,h,x⟩ K=(JS C gl e h x K).1:=(JS C gl e h x K).2
def z4e:ACode:=(.seq (rg [mV 4 (.c (.p (.sl none [])))] [0,1])
(.seq (rg [mV 15 1,
cL 16 jJ [15],
mV 14 16,
eX 17 14 0,
eX 18 14 1,
eX 19 14 2,
mV 5 17,
mV 6 18,
mV 7 19] [0,1,5,6])
(.seq (rg [mV 20 0,
mV 21 5,
mV 22 6,
cL 23 DP [20,21,22],
mV 8 23] [1,8])
(.seq (rg [uO 9 (.new0 none)] [1,8,9])
(.seq (rg [mV 10 (cI 0)] [1,8,9,10])
(.seq (.seq (rg [mV 24 1,
cL 25 nL [24],
lN 26 25,
mV 27 (cI 0)] [1,8,9,10,25,26,27])
(.block 0 (.loop (.scope BM))))
HV))))))
def XY:AFun:=⟨2,[.t 4],z4e,false,false⟩
def IS (C:Hd)(gl:GL)(e:En)(h:aA)(x:Esc)(K:KT):Sf C gl z4e e h x K:=⟨_,by simp only[z4e,↓wZ,AO.still];rfl⟩
theorem zij {C gl v0 v1 h x K}:NW C gl XY.body ⟨enter [v0,v1],h,x⟩ K=(IS C gl [(0,v0),(1,v1)] h x K).1:=(IS C gl [(0,v0),(1,v1)] h x K).2
def DV:ACode:=.pr [1,5,12,13,14] (rg [bN 36 .add 14 (cI 1),
mV 14 36] [1,5,12,13,14])
def zO (C:Hd)(gl:GL)(e:En)(h:aA)(x:Esc)(K:KT):Sf C gl DV e h x K:=⟨_,by simp only[DV,↓wZ,AO.still];rfl⟩
theorem z23 {C gl e h x K}:NW C gl DV ⟨e,h,x⟩ K=(zO C gl e h x K).1:=(zO C gl e h x K).2
def AM:ACode:=.pr [1,5,12,13,14] (.seq (rg [bN 15 .lss 14 13] [1,5,12,13,14,15])
(.seq (.cond 15 .skip
(.exit 0))
(.seq (.block 1 (.seq (rg [mV 16 14,
iA 17 none 12 14,
lD 18 none 17,
mV 6 16,
mV 7 18] [1,5,6,7,12,13,14])
(.seq (rg [mV 19 1,
mV 20 6,
iA 21 (some 6) 19 20,
lD 22 (some 6) 21,
cL 23 VF [22]] [1,5,6,7,12,13,14,23])
(.cond 23 (rg [mV 24 5,
mV 25 6,
mV 26 5,
mV 27 6,
mV 28 7,
mV 29 7,
uO 30 (.lens 29),
cL 31 PB [(cS [49]),30],
iA 32 (some 6) 24 25,
fA 33 4 none 32,
wO (.store none 33 28),
iA 34 (some 6) 26 27,
fA 35 5 none 34,
wO (.store none 35 31)] [1,5,12,13,14])
.skip))))
DV)))
def BO (C:Hd)(gl:GL)(e:En)(h:aA)(x:Esc)(K:KT):Sf C gl AM e h x K:=⟨_,by simp only[AM,↓wZ,AO.still];rfl⟩
theorem z24 {C gl e h x K}:NW C gl AM ⟨e,h,x⟩ K=(BO C gl e h x K).1:=(BO C gl e h x K).2
theorem zlT {C gl e h x K}:NW C gl (.loop AM) ⟨e,h,x⟩ K=NA C gl AM K [(1,eA e 1),(5,eA e 5),(12,eA e 12),(13,eA e 13),(14,eA e 14)] h x:=MB
def EV:ACode:=.pr [5] (.seq (rg [mV 37 5,
mV 4 37] [4])
.ret)
def GS (C:Hd)(gl:GL)(e:En)(h:aA)(x:Esc)(K:KT):Sf C gl EV e h x K:=⟨_,by simp only[EV,↓wZ,AO.still];rfl⟩
theorem z88 {C gl e h x K}:NW C gl EV ⟨e,h,x⟩ K=(GS C gl e h x K).1:=(GS C gl e h x K).2
def z4d:ACode:=(.seq (rg [mV 4 (.c (.p (.sl (some 6) [])))] [0,1])
(.seq (rg [mV 8 1,
cL 9 qL [8],
mV 5 9] [0,1,5])
(.seq (.seq (rg [mV 10 0,
mV 11 1,
cL 12 iJ [10,11],
lN 13 12,
mV 14 (cI 0)] [1,5,12,13,14])
(.block 0 (.loop AM)))
EV)))
def WY:AFun:=⟨2,[.t 4],z4d,false,false⟩
def FS (C:Hd)(gl:GL)(e:En)(h:aA)(x:Esc)(K:KT):Sf C gl z4d e h x K:=⟨_,by simp only[z4d,↓wZ,AO.still];rfl⟩
theorem zii {C gl v0 v1 h x K}:NW C gl WY.body ⟨enter [v0,v1],h,x⟩ K=(FS C gl [(0,v0),(1,v1)] h x K).1:=(FS C gl [(0,v0),(1,v1)] h x K).2
def yV:ACode:=.pr [1,6,7,8,9,10,15,16,17,27,28,29] (rg [bN 52 .add 29 (cI 1),
mV 29 52] [1,6,7,8,9,10,15,16,17,27,28,29])
def AH (C:Hd)(gl:GL)(e:En)(h:aA)(x:Esc)(K:KT):Sf C gl yV e h x K:=⟨_,by simp only[yV,↓wZ,AO.still];rfl⟩
theorem YK {C gl e h x K}:NW C gl yV ⟨e,h,x⟩ K=(AH C gl e h x K).1:=(AH C gl e h x K).2
def yM:ACode:=.pr [1,6,7,8,9,10,15,16,17,27,28,29] (.seq (rg [bN 30 .lss 29 28] [1,6,7,8,9,10,15,16,17,27,28,29,30])
(.seq (.cond 30 .skip
(.exit 2))
(.seq (.block 3 (.seq (rg [mV 31 29,
iA 32 none 27 29,
lD 33 none 32,
mV 11 31,
mV 12 33] [1,6,7,8,9,10,11,12,15,16,17,27,28,29])
(.seq (rg [mV 34 1,
mV 35 8,
iA 36 (some 6) 34 35,
lD 37 (some 6) 36,
cL 38 VF [37],
mV 39 38,
gD 40 39 true (.mv 12),
gD 41 39 true (.bin .neq 40 (.c (.p (.int .u8 120)))),
uO 42 (.pick 39 41 cF),
mV 43 42,
gD 44 43 true (.mv 12),
gD 45 43 true (.mv 9),
gD 46 43 true (.mv 11),
gD 47 43 true (.idxs 45 46),
gD 48 43 true (.bin .neq 44 47),
uO 49 (.pick 43 48 cF)] [1,6,7,8,9,10,15,16,17,27,28,29,49])
(.cond 49 (rg [mV 50 10,
bN 51 .add 50 (cI 1),
mV 10 51] [1,6,7,8,9,10,15,16,17,27,28,29])
.skip))))
yV)))
def BH (C:Hd)(gl:GL)(e:En)(h:aA)(x:Esc)(K:KT):Sf C gl yM e h x K:=⟨_,by simp only[yM,↓wZ,AO.still];rfl⟩
theorem ZK {C gl e h x K}:NW C gl yM ⟨e,h,x⟩ K=(BH C gl e h x K).1:=(BH C gl e h x K).2
theorem zlR {C gl e h x K}:NW C gl (.loop yM) ⟨e,h,x⟩ K=NA C gl yM K [(1,eA e 1),(6,eA e 6),(7,eA e 7),(8,eA e 8),(9,eA e 9),(10,eA e 10),(15,eA e 15),(16,eA e 16),(17,eA e 17),(27,eA e 27),(28,eA e 28),(29,eA e 29)] h x:=MB
def zV:ACode:=.pr [1,6,7,8,10,15,16,17] (.seq (rg [mV 53 10,
bN 54 .gtr 53 (cI 0)] [1,6,7,8,10,15,16,17,54])
(.cond 54 (rg [mV 55 6,
mV 56 8,
uO 57 (.bsl false none 1 (.int .i64 0) [(0,56)]),
uO 58 (.app none 55 57),
mV 59 7,
mV 60 10,
uO 61 (.bsl false none 1 (.int .i64 0) [(0,60)]),
uO 62 (.app none 59 61),
mV 6 58,
mV 7 62] [1,6,7,15,16,17])
.skip))
def NK (C:Hd)(gl:GL)(e:En)(h:aA)(x:Esc)(K:KT):Sf C gl zV e h x K:=⟨_,by simp only[zV,↓wZ,AO.still];rfl⟩
theorem YT {C gl e h x K}:NW C gl zV ⟨e,h,x⟩ K=(NK C gl e h x K).1:=(NK C gl e h x K).2
def BV:ACode:=.pr [1,6,7,15,16,17] (rg [bN 63 .add 17 (cI 1),
mV 17 63] [1,6,7,15,16,17])
def yO (C:Hd)(gl:GL)(e:En)(h:aA)(x:Esc)(K:KT):Sf C gl BV e h x K:=⟨_,by simp only[BV,↓wZ,AO.still];rfl⟩
theorem z22 {C gl e h x K}:NW C gl BV ⟨e,h,x⟩ K=(yO C gl e h x K).1:=(yO C gl e h x K).2
def zM:ACode:=.pr [1,6,7,15,16,17] (.seq (rg [bN 18 .lss 17 16] [1,6,7,15,16,17,18])
(.seq (.cond 18 .skip
(.exit 0))
(.seq (.block 1 (.seq (rg [mV 19 17,
iA 20 none 15 17,
lD 21 none 20,
mV 8 19,
mV 9 21] [1,6,7,8,9,15,16,17])
(.seq (rg [mV 10 (cI 0)] [1,6,7,8,9,10,15,16,17])
(.seq (.seq (rg [mV 22 1,
mV 23 8,
iA 24 (some 6) 22 23,
lD 25 (some 6) 24,
cL 26 PH [25],
uO 27 (.conv .s2b 26),
lN 28 27,
mV 29 (cI 0)] [1,6,7,8,9,10,15,16,17,27,28,29])
(.block 2 (.loop yM)))
zV))))
BV)))
def z10 (C:Hd)(gl:GL)(e:En)(h:aA)(x:Esc)(K:KT):Sf C gl zM e h x K:=⟨_,by simp only[zM,↓wZ,AO.still];rfl⟩
theorem zih {C gl e h x K}:NW C gl zM ⟨e,h,x⟩ K=(z10 C gl e h x K).1:=(z10 C gl e h x K).2
theorem zlS {C gl e h x K}:NW C gl (.loop (.scope zM)) ⟨e,h,x⟩ K=NA C gl (.scope zM) K [(1,eA e 1),(6,eA e 6),(7,eA e 7),(15,eA e 15),(16,eA e 16),(17,eA e 17)] h x:=fC
def CV:ACode:=.pr [6,7] (.seq (rg [mV 64 6,
mV 65 7,
mV 4 64,
mV 5 65] [4,5])
.ret)
def ES (C:Hd)(gl:GL)(e:En)(h:aA)(x:Esc)(K:KT):Sf C gl CV e h x K:=⟨_,by simp only[CV,↓wZ,AO.still];rfl⟩
theorem z87 {C gl e h x K}:NW C gl CV ⟨e,h,x⟩ K=(ES C gl e h x K).1:=(ES C gl e h x K).2
def z4c:ACode:=(.seq (rg [mV 4 (.c (.p (.sl none []))),
mV 5 (.c (.p (.sl none [])))] [0,1])
(.seq (rg [uO 6 (.new0 none),
uO 7 (.new0 none)] [0,1,6,7])
(.seq (.seq (rg [mV 13 0,
mV 14 1,
cL 15 iJ [13,14],
lN 16 15,
mV 17 (cI 0)] [1,6,7,15,16,17])
(.block 0 (.loop (.scope zM))))
CV)))
def VY:AFun:=⟨2,[.t 4,.t 5],z4c,false,false⟩
def DS (C:Hd)(gl:GL)(e:En)(h:aA)(x:Esc)(K:KT):Sf C gl z4c e h x K:=⟨_,by simp only[z4c,↓wZ,AO.still];rfl⟩
theorem zig {C gl v0 v1 h x K}:NW C gl VY.body ⟨enter [v0,v1],h,x⟩ K=(DS C gl [(0,v0),(1,v1)] h x K).1:=(DS C gl [(0,v0),(1,v1)] h x K).2
def IM:ACode:=.pr [0,1,12,13] (.seq (rg [bN 14 .lss 13 12] [0,1,12,13,14])
(.seq (.cond 14 .skip
(.exit 0))
(.seq (.block 1 (.seq (rg [mV 15 13,
mV 5 15] [0,1,5,12,13])
(.seq (dr [dF (mV 16 0) [0],
dF (mV 17 5) [5],
dF (iA 18 none 16 17) [16,17],
dF (lD 19 none 18) [18],
dF (mV 20 1) [1],
dF (mV 21 5) [5],
dF (iA 22 none 20 21) [20,21],
dF (lD 23 none 22) [22],
dF (bN 24 .neq 19 23) [19,23]] [0,1,12,13,24])
(.cond 24 (.seq (rg [mV 4 cF] [4])
.ret)
.skip))))
(rg [bN 25 .add 13 (cI 1),
mV 13 25] [0,1,12,13]))))
def z1G (C:Hd)(gl:GL)(e:En)(h:aA)(x:Esc)(K:KT):Sf C gl IM e h x K:=⟨_,by simp only[IM,↓wZ,AO.still];rfl⟩
theorem ziQ {C gl e h x K}:NW C gl IM ⟨e,h,x⟩ K=(z1G C gl e h x K).1:=(z1G C gl e h x K).2
theorem zmb {C gl e h x K}:NW C gl (.loop IM) ⟨e,h,x⟩ K=NA C gl IM K [(0,eA e 0),(1,eA e 1),(12,eA e 12),(13,eA e 13)] h x:=MB
def WV:ACode:=.pr [] (.seq (rg [mV 4 cT] [4])
.ret)
def z1H (C:Hd)(gl:GL)(e:En)(h:aA)(x:Esc)(K:KT):Sf C gl WV e h x K:=⟨_,by simp only[WV,↓wZ,AO.still];rfl⟩
theorem ziR {C gl e h x K}:NW C gl WV ⟨e,h,x⟩ K=(z1H C gl e h x K).1:=(z1H C gl e h x K).2
def z4z:ACode:=(.seq (rg [mV 4 cF] [0,1])
(.seq (.seq (rg [mV 6 0,
lN 7 6,
mV 8 1,
lN 9 8,
bN 10 .neq 7 9] [0,1,10])
(.cond 10 (.seq (rg [mV 4 cF] [4])
.ret)
.skip))
(.seq (.seq (rg [mV 11 0,
lN 12 11,
mV 13 (cI 0)] [0,1,12,13])
(.block 0 (.loop IM)))
WV)))
def rZ:AFun:=⟨2,[.t 4],z4z,false,false⟩
def YS (C:Hd)(gl:GL)(e:En)(h:aA)(x:Esc)(K:KT):Sf C gl z4z e h x K:=⟨_,by simp only[z4z,↓wZ,AO.still];rfl⟩
theorem ziP {C gl v0 v1 h x K}:NW C gl rZ.body ⟨enter [v0,v1],h,x⟩ K=(YS C gl [(0,v0),(1,v1)] h x K).1:=(YS C gl [(0,v0),(1,v1)] h x K).2
def HM:ACode:=.pr [0,1,12,13] (.seq (rg [bN 14 .lss 13 12] [0,1,12,13,14])
(.seq (.cond 14 .skip
(.exit 0))
(.seq (.block 1 (.seq (rg [mV 15 13,
mV 5 15] [0,1,5,12,13])
(.seq (dr [dF (mV 16 0) [0],
dF (mV 17 5) [5],
dF (iA 18 none 16 17) [16,17],
dF (lD 19 none 18) [18],
dF (mV 20 1) [1],
dF (mV 21 5) [5],
dF (iA 22 none 20 21) [20,21],
dF (lD 23 none 22) [22],
dF (bN 24 .neq 19 23) [19,23]] [0,1,12,13,24])
(.cond 24 (.seq (rg [mV 4 cF] [4])
.ret)
.skip))))
(rg [bN 25 .add 13 (cI 1),
mV 13 25] [0,1,12,13]))))
def z1E (C:Hd)(gl:GL)(e:En)(h:aA)(x:Esc)(K:KT):Sf C gl HM e h x K:=⟨_,by simp only[HM,↓wZ,AO.still];rfl⟩
theorem ziN {C gl e h x K}:NW C gl HM ⟨e,h,x⟩ K=(z1E C gl e h x K).1:=(z1E C gl e h x K).2
theorem zma {C gl e h x K}:NW C gl (.loop HM) ⟨e,h,x⟩ K=NA C gl HM K [(0,eA e 0),(1,eA e 1),(12,eA e 12),(13,eA e 13)] h x:=MB
def VV:ACode:=.pr [] (.seq (rg [mV 4 cT] [4])
.ret)
def z1F (C:Hd)(gl:GL)(e:En)(h:aA)(x:Esc)(K:KT):Sf C gl VV e h x K:=⟨_,by simp only[VV,↓wZ,AO.still];rfl⟩
theorem ziO {C gl e h x K}:NW C gl VV ⟨e,h,x⟩ K=(z1F C gl e h x K).1:=(z1F C gl e h x K).2
def z4y:ACode:=(.seq (rg [mV 4 cF] [0,1])
(.seq (.seq (rg [mV 6 0,
lN 7 6,
mV 8 1,
lN 9 8,
bN 10 .neq 7 9] [0,1,10])
(.cond 10 (.seq (rg [mV 4 cF] [4])
.ret)
.skip))
(.seq (.seq (rg [mV 11 0,
lN 12 11,
mV 13 (cI 0)] [0,1,12,13])
(.block 0 (.loop HM)))
VV)))
def qZ:AFun:=⟨2,[.t 4],z4y,false,false⟩
def FO (C:Hd)(gl:GL)(e:En)(h:aA)(x:Esc)(K:KT):Sf C gl z4y e h x K:=⟨_,by simp only[z4y,↓wZ,AO.still];rfl⟩
theorem ziM {C gl v0 v1 h x K}:NW C gl qZ.body ⟨enter [v0,v1],h,x⟩ K=(FO C gl [(0,v0),(1,v1)] h x K).1:=(FO C gl [(0,v0),(1,v1)] h x K).2
def GM:ACode:=.pr [0,1,12,13] (.seq (rg [bN 14 .lss 13 12] [0,1,12,13,14])
(.seq (.cond 14 .skip
(.exit 0))
(.seq (.block 1 (.seq (rg [mV 15 13,
mV 5 15] [0,1,5,12,13])
(.seq (dr [dF (mV 16 0) [0],
dF (mV 17 5) [5],
dF (iA 18 (some 6) 16 17) [16,17],
dF (lD 19 (some 6) 18) [18],
dF (mV 20 1) [1],
dF (mV 21 5) [5],
dF (iA 22 (some 6) 20 21) [20,21],
dF (lD 23 (some 6) 22) [22],
dF (uO 24 (.eqa [0,0,0,2,2,2] true 19 23)) [19,23]] [0,1,12,13,24])
(.cond 24 (.seq (rg [mV 4 cF] [4])
.ret)
.skip))))
(rg [bN 25 .add 13 (cI 1),
mV 13 25] [0,1,12,13]))))
def z1C (C:Hd)(gl:GL)(e:En)(h:aA)(x:Esc)(K:KT):Sf C gl GM e h x K:=⟨_,by simp only[GM,↓wZ,AO.still];rfl⟩
theorem ziK {C gl e h x K}:NW C gl GM ⟨e,h,x⟩ K=(z1C C gl e h x K).1:=(z1C C gl e h x K).2
theorem zlZ {C gl e h x K}:NW C gl (.loop GM) ⟨e,h,x⟩ K=NA C gl GM K [(0,eA e 0),(1,eA e 1),(12,eA e 12),(13,eA e 13)] h x:=MB
def UV:ACode:=.pr [] (.seq (rg [mV 4 cT] [4])
.ret)
def z1D (C:Hd)(gl:GL)(e:En)(h:aA)(x:Esc)(K:KT):Sf C gl UV e h x K:=⟨_,by simp only[UV,↓wZ,AO.still];rfl⟩
theorem ziL {C gl e h x K}:NW C gl UV ⟨e,h,x⟩ K=(z1D C gl e h x K).1:=(z1D C gl e h x K).2
def z4x:ACode:=(.seq (rg [mV 4 cF] [0,1])
(.seq (.seq (rg [mV 6 0,
lN 7 6,
mV 8 1,
lN 9 8,
bN 10 .neq 7 9] [0,1,10])
(.cond 10 (.seq (rg [mV 4 cF] [4])
.ret)
.skip))
(.seq (.seq (rg [mV 11 0,
lN 12 11,
mV 13 (cI 0)] [0,1,12,13])
(.block 0 (.loop GM)))
UV)))
def pZ:AFun:=⟨2,[.t 4],z4x,false,false⟩
def EO (C:Hd)(gl:GL)(e:En)(h:aA)(x:Esc)(K:KT):Sf C gl z4x e h x K:=⟨_,by simp only[z4x,↓wZ,AO.still];rfl⟩
theorem ziJ {C gl v0 v1 h x K}:NW C gl pZ.body ⟨enter [v0,v1],h,x⟩ K=(EO C gl [(0,v0),(1,v1)] h x K).1:=(EO C gl [(0,v0),(1,v1)] h x K).2
def z34:ACode:=(.seq (rg [mV 0 cF] [])
(.seq (rg [uO 4 (.build [.p (.int .i64 0),.p (.int .i64 0),.p (.int .i64 0),.p (.str []),.p (.str []),.p (.str [])] [(0,1,(cI 7)),(3,1,(cS [49,48]))]),
uO 5 (.bsl false (some 6) 1 (.agg [.int .i64 0,.int .i64 0,.int .i64 0,.str [],.str [],.str []]) [(0,4)]),
cL 6 lQ [5],
mV 3 6,
eX 7 3 0,
eX 8 3 1,
mV 1 7,
mV 2 8] [1,2])
(.seq (rg [mV 9 2,
bN 10 .eql 9 (cI 0),
mV 11 10,
gD 12 11 true (.mv 1),
gD 13 11 true (.bin .eql 12 (cI 9)),
uO 14 (.pick 11 13 cF),
mV 0 14] [0])
.ret)))
def oY:AFun:=⟨0,[.t 0],z34,false,false⟩
def eS (C:Hd)(gl:GL)(e:En)(h:aA)(x:Esc)(K:KT):Sf C gl z34 e h x K:=⟨_,by simp only[z34,↓wZ,AO.still];rfl⟩
theorem zhk {C gl h x K}:NW C gl oY.body ⟨enter [],h,x⟩ K=(eS C gl [] h x K).1:=(eS C gl [] h x K).2
def z3B:ACode:=(.seq (rg [mV 4 (cI 0)] [0,1])
(.seq (rg [mV 7 0,
uO 8 (.nilchk 7),
fA 9 1 none 8,
lD 10 none 9,
bN 11 .add 10 (cI 1),
uO 12 (.nilchk 7),
fA 13 1 none 12,
wO (.store none 13 11)] [0,1])
(.seq (.seq (rg [mV 14 0,
uO 15 (.nilchk 14),
fA 16 0 none 15,
lD 17 none 16,
lN 18 17,
bN 19 .eql 18 (cI 0)] [0,1,19])
(.cond 19 (.seq (rg [mV 20 0,
uO 21 (.nilchk 20),
fA 22 1 none 21,
lD 23 none 22,
bN 24 .mul 23 (cI 7919),
mV 25 1,
cL 26 hJ [24,25],
mV 4 26] [4])
.ret)
.skip))
(.seq (dr [dF (mV 27 0) [0],
dF (uO 28 (.nilchk 27)) [27],
dF (fA 29 1 none 28) [28],
dF (lD 30 none 29) [29],
dF (bN 31 .sub 30 (cI 1)) [30],
dF (mV 32 0) [0],
dF (uO 33 (.nilchk 32)) [32],
dF (fA 34 0 none 33) [33],
dF (lD 35 none 34) [34],
dF (lN 36 35) [35],
dF (bN 37 .rem 31 36) [31,36],
dF (mV 5 37) [37]] [0,1,5])
(.seq (dr [dF (mV 38 0) [0],
dF (uO 39 (.nilchk 38)) [38],
dF (fA 40 1 none 39) [39],
dF (lD 41 none 40) [40],
dF (bN 42 .sub 41 (cI 1)) [41],
dF (mV 43 0) [0],
dF (uO 44 (.nilchk 43)) [43],
dF (fA 45 0 none 44) [44],
dF (lD 46 none 45) [45],
dF (lN 47 46) [46],
dF (bN 48 .quo 42 47) [42,47],
dF (mV 6 48) [48]] [0,1,5,6])
(.seq (rg [mV 49 0,
uO 50 (.nilchk 49),
fA 51 0 none 50,
lD 52 none 51,
mV 53 5,
iA 54 none 52 53,
lD 55 none 54,
cL 56 hJ [55,(cI 1073741824)],
mV 57 6,
mV 58 5,
bN 59 .add (cI 7919) 58,
bN 60 .mul 57 59,
bN 61 .add 56 60,
mV 62 1,
cL 63 hJ [61,62],
mV 4 63] [4])
.ret))))))
def uY:AFun:=⟨2,[.t 4],z3B,false,false⟩
def jO (C:Hd)(gl:GL)(e:En)(h:aA)(x:Esc)(K:KT):Sf C gl z3B e h x K:=⟨_,by simp only[z3B,↓wZ,AO.still];rfl⟩
theorem zhz {C gl v0 v1 h x K}:NW C gl uY.body ⟨enter [v0,v1],h,x⟩ K=(jO C gl [(0,v0),(1,v1)] h x K).1:=(jO C gl [(0,v0),(1,v1)] h x K).2
def z3F:ACode:=(.seq (rg [mV 4 (cS [])] [0,1])
(.seq (rg [mV 5 1,
mV 6 0,
mV 7 1,
lN 8 7,
cL 9 bF [6,8],
iA 10 none 5 9,
lD 11 none 10,
mV 4 11] [4])
.ret))
def yY:AFun:=⟨2,[.t 4],z3F,false,false⟩
def nS (C:Hd)(gl:GL)(e:En)(h:aA)(x:Esc)(K:KT):Sf C gl z3F e h x K:=⟨_,by simp only[z3F,↓wZ,AO.still];rfl⟩
theorem zh3 {C gl v0 v1 h x K}:NW C gl yY.body ⟨enter [v0,v1],h,x⟩ K=(nS C gl [(0,v0),(1,v1)] h x K).1:=(nS C gl [(0,v0),(1,v1)] h x K).2
def z3A:ACode:=(.seq (rg [mV 4 cF] [0,1])
(.seq (rg [mV 5 0,
mV 6 1,
cL 7 bF [5,6],
bN 8 .eql 7 (cI 0),
mV 4 8] [4])
.ret))
def tY:AFun:=⟨2,[.t 4],z3A,false,false⟩
def jS (C:Hd)(gl:GL)(e:En)(h:aA)(x:Esc)(K:KT):Sf C gl z3A e h x K:=⟨_,by simp only[z3A,↓wZ,AO.still];rfl⟩
theorem zhy {C gl v0 v1 h x K}:NW C gl tY.body ⟨enter [v0,v1],h,x⟩ K=(jS C gl [(0,v0),(1,v1)] h x K).1:=(jS C gl [(0,v0),(1,v1)] h x K).2
def z3D:ACode:=(.seq (rg [mV 4 (cI 0)] [0,1])
(.seq (rg [mV 5 1,
mV 6 0,
mV 7 1,
lN 8 7,
cL 9 bF [6,8],
iA 10 none 5 9,
lD 11 none 10,
mV 4 11] [4])
.ret))
def wY:AFun:=⟨2,[.t 4],z3D,false,false⟩
def kS (C:Hd)(gl:GL)(e:En)(h:aA)(x:Esc)(K:KT):Sf C gl z3D e h x K:=⟨_,by simp only[z3D,↓wZ,AO.still];rfl⟩
theorem zh1 {C gl v0 v1 h x K}:NW C gl wY.body ⟨enter [v0,v1],h,x⟩ K=(kS C gl [(0,v0),(1,v1)] h x K).1:=(kS C gl [(0,v0),(1,v1)] h x K).2
end Go.Am
end
section
/- The functions asv abstract code,and asv formulas over their values: printed by program out of the translation. -/
set_option linter.all false
set_option maxRecDepth 100000
namespace Go.Am
def z36:ACode:=.pr [0,2,3,30] (.cond 30 (.seq (rg [mV 33 0,
mV 34 0,
uO 35 (.bsl false none 5 (.int .i64 0) [(0,(cI 1)),(1,(cI 2)),(2,(cI 3)),(3,(cI 5)),(4,(cI 8))]),
cL 36 JC [34,35],
cL 37 xF [33,36],
fA 38 3 none 3,
wO (.store none 38 37)] [0,2,3])
(.seq (rg [mV 39 0,
cL 40 nE [39,(cI 2)]] [0,2,3,40])
(.cond 40 (dr [dF (mV 41 0) [0],
dF (fA 42 3 none 3) [3],
dF (lD 43 none 42) [42],
dF (uO 44 (.lens 43)) [43],
dT (cL 45 xF [41,44]) [41,44],
dF (mV 46 0) [0],
dF (fA 47 3 none 3) [3],
dA (lD 48 none 47) [47] false [4] [],
dF (uO 49 (.lens 48)) [48],
dT (cL 50 xF [46,49]) [46,49],
dF (fA 51 4 none 3) [3],
dT (wO (.store none 51 45)) [51,45],
dF (fA 52 5 none 3) [3],
dT (wO (.store none 52 50)) [52,50]] [0,2,3])
.skip)))
(rg [mV 10 0,
mV 11 0,
uO 12 (.bsl false none 5 (.int .i64 0) [(0,(cI 0)),(1,(cI 0)),(2,(cI 1)),(3,(cI 2)),(4,(cI 3))]),
cL 13 JC [11,12],
cL 14 xF [10,13],
fA 15 3 none 3,
wO (.store none 15 14)] [0,2,3]))
def z8m (C:Hd)(gl:GL)(v0 v2 v3 v30:AV)(h:aA)(x:Esc)(K:KT):Prop:=
 jB v30 (wK (XC false none 5 (.int .i64 0) [(0,(AI 1)),(1,(AI 2)),(2,(AI 3)),(3,(AI 5)),(4,(AI 8))] h) fun t1 h2 y3=>
 C JC [v0,t1] h2 fun t4 h5 y6=>
 C xF [v0,t4] h5 fun t7 h8 y9=>
 pK (IA 3 none v3) fun t10=>
 wK (tB none t10 t7 h8) fun t11 h12 y13=>
 C nE [v0,(AI 2)] h12 fun t14 h15 y16=>
 jB t14 (pK (IA 3 none v3) fun t17=>
 pK (FA none t17 h15) fun t18=>
 pK (ND t18) fun t19=>
 lC C xF [v0,t19] h15 fun t20 h21 y22=>
 pK (IA 3 none v3) fun t23=>
 pK (FA none t23 h21) fun t24=>
 (pK (FA none t23 h15) fun v=>(fun u (g1:aA) (y1:Esc)=>u=t24∧g1=h15∧y1=[]) v h15 [])∧(pK (ND t24) fun t25=>
 lC C xF [v0,t25] h21 fun t26 h27 y28=>
 pK (IA 4 none v3) fun t29=>
 wK (tB none t29 t20 h27) fun t30 h31 y32=>
 pK (IA 5 none v3) fun t33=>
 wK (tB none t33 t26 h31) fun t34 h35 y36=>
 K .normal ⟨[(0,v0),(2,v2),(3,v3)],h35,(y36++(y32++(y28++(y22++(y16++(y13++(y9++(y6++(y3++x)))))))))⟩))
 (K .normal ⟨[(0,v0),(2,v2),(3,v3),(40,t14)],h15,(y16++(y13++(y9++(y6++(y3++x)))))⟩))
 (wK (XC false none 5 (.int .i64 0) [(0,(AI 0)),(1,(AI 0)),(2,(AI 1)),(3,(AI 2)),(4,(AI 3))] h) fun t37 h38 y39=>
 C JC [v0,t37] h38 fun t40 h41 y42=>
 C xF [v0,t40] h41 fun t43 h44 y45=>
 pK (IA 3 none v3) fun t46=>
 wK (tB none t46 t43 h44) fun t47 h48 y49=>
 K .normal ⟨[(0,v0),(2,v2),(3,v3)],h48,(y49++(y45++(y42++(y39++x))))⟩)
theorem zho {C gl e h x K}:NW C gl z36 ⟨e,h,x⟩ K=z8m C gl (eA e 0) (eA e 2) (eA e 3) (eA e 30) h x K:=by kernel_rfl
def z6H (q1:ACode):ACode:=.pr [0,2,3,9,16] (.cond 16 (rg [mV 20 0,
uO 21 (.bsl false none 5 (.int .i64 0) [(0,(cI 0)),(1,(cI 1)),(2,(cI 1)),(3,(cI 6)),(4,(cI 13))]),
cL 22 JC [20,21],
fA 23 1 none 3,
wO (.store none 23 22)] [0,2,3])
(.seq (rg [bN 25 .eql 9 (cI 9),
mV 24 25] [0,2,3,9,24])
(.cond 24 (rg [mV 26 0,
uO 27 (.bsl false none 4 (.int .i64 0) [(0,(cI 0)),(1,(cI 0)),(2,(cI 1)),(3,(cI 3))]),
cL 28 JC [26,27],
fA 29 2 none 3,
wO (.store none 29 28)] [0,2,3])
(.seq (.seq (rg [bN 31 .eql 9 (cI 7),
mV 30 31] [0,2,3,9,30])
(.cond 30 .skip
(rg [bN 32 .eql 9 (cI 8),
mV 30 32] [0,2,3,30])))
q1))))
def WU:ACode:=z6H z36
def z1f (C:Hd)(gl:GL)(q1:ACode)(v0 v2 v3 v9 v16:AV)(h:aA)(x:Esc)(K:KT):Prop:=
 jB v16 (wK (XC false none 5 (.int .i64 0) [(0,(AI 0)),(1,(AI 1)),(2,(AI 1)),(3,(AI 6)),(4,(AI 13))] h) fun t1 h2 y3=>
 C JC [v0,t1] h2 fun t4 h5 y6=>
 pK (IA 1 none v3) fun t7=>
 wK (tB none t7 t4 h5) fun t8 h9 y10=>
 K .normal ⟨[(0,v0),(2,v2),(3,v3)],h9,(y10++(y6++(y3++x)))⟩)
 (pK (DA .eql v9 (AI 9)) fun t11=>
 jB t11 (wK (XC false none 4 (.int .i64 0) [(0,(AI 0)),(1,(AI 0)),(2,(AI 1)),(3,(AI 3))] h) fun t12 h13 y14=>
 C JC [v0,t12] h13 fun t15 h16 y17=>
 pK (IA 2 none v3) fun t18=>
 wK (tB none t18 t15 h16) fun t19 h20 y21=>
 K .normal ⟨[(0,v0),(2,v2),(3,v3)],h20,(y21++(y17++(y14++x)))⟩)
 (pK (DA .eql v9 (AI 7)) fun t22=>
 jB t22 (NW C gl q1 ⟨[(0,v0),(2,v2),(3,v3),(9,v9),(30,t22)],h,x⟩ K)
 (pK (DA .eql v9 (AI 8)) fun t23=>
 NW C gl q1 ⟨[(0,v0),(2,v2),(3,v3),(30,t23)],h,x⟩ K)))
theorem zcO {C gl q1 e h x K}:NW C gl (z6H q1) ⟨e,h,x⟩ K=z1f C gl q1 (eA e 0) (eA e 2) (eA e 3) (eA e 9) (eA e 16) h x K:=by kernel_rfl
theorem zhp {C gl e h x K}:NW C gl WU ⟨e,h,x⟩ K=z1f C gl z36 (eA e 0) (eA e 2) (eA e 3) (eA e 9) (eA e 16) h x K:=zcO
def OQ:ACode:=.pr [2,3] (.seq (rg [lD 99 (some 6) 3,
wO (.store (some 6) 2 99)] [2])
.ret)
def z8n (C:Hd)(gl:GL)(v2 v3:AV)(h:aA)(x:Esc)(K:KT):Prop:=
 pK (FA (some 6) v3 h) fun t1=>
 wK (tB (some 6) v2 t1 h) fun t2 h3 y4=>
 K .ret ⟨[(2,v2)],h3,(y4++x)⟩
theorem zhq {C gl e h x K}:NW C gl OQ ⟨e,h,x⟩ K=z8n C gl (eA e 2) (eA e 3) h x K:=by kernel_rfl
def z6I (q3:ACode):ACode:=.pr [0,2,3] (.seq (.seq (rg [mV 53 0,
cL 54 nE [53,(cI 60)]] [0,2,3,54])
(.cond 54 (.seq (rg [mV 55 0,
cL 56 bF [55,(cI 4)]] [0,2,3,56])
(.block 1 (.seq (rg [bN 71 .eql 56 (cI 0),
mV 70 71] [0,2,3,56,70])
(.cond 70 (rg [mV 72 0,
cL 73 NH [72,(cI 1),(cI 10)],
fA 74 0 none 3,
wO (.store none 74 73)] [2,3])
(.seq (rg [bN 76 .eql 56 (cI 1),
mV 75 76] [0,2,3,56,75])
(.cond 75 (rg [mV 77 0,
cL 78 NH [77,(cI 0),(cI 15)],
mV 79 0,
uO 80 (.bsl false none 5 (.int .i64 0) [(0,(cI 0)),(1,(cI 1)),(2,(cI (-1))),(3,(cI 20000)),(4,(cI 20001))]),
cL 81 JC [79,80],
fA 82 1 none 3,
wO (.store none 82 78),
fA 83 2 none 3,
wO (.store none 83 81)] [2,3])
(.seq (rg [bN 85 .eql 56 (cI 2),
mV 84 85] [0,2,3,84])
(.cond 84 (dr [dF (fA 86 3 none 3) [3],
dF (lD 87 none 86) [86],
dF (mV 88 0) [0],
dF (fA 89 3 none 3) [3],
dF (lD 90 none 89) [89],
dF (uO 91 (.lens 90)) [90],
dF (bN 92 .sub (cI 2000) 91) [91],
dA (cL 93 PB [(cS [48]),92]) [92] true [] [1],
dA (cL 94 PB [(cS [48]),(cI 2001)]) [] true [] [1],
dF (uO 95 (.bsl false none 4 (.str []) [(0,(cS [120])),(1,(cS [])),(2,93),(3,94)])) [93,94],
dA (cL 96 AE [88,95]) [88,95] true [] [1],
dF (bN 97 .add 87 96) [87,96],
dF (fA 98 3 none 3) [3],
dT (wO (.store none 98 97)) [98,97]] [2,3])
(dr [dF (mV 57 0) [0],
dF (fA 58 4 none 3) [3],
dF (lD 59 none 58) [58],
dF (bN 60 .add 59 (cS [49])) [59],
dF (uO 61 (.bsl false none 3 (.str []) [(0,(cS [])),(1,(cS [48])),(2,60)])) [60],
dT (cL 62 AE [57,61]) [57,61],
dF (mV 63 0) [0],
dF (fA 64 5 none 3) [3],
dA (lD 65 none 64) [64] false [5] [],
dA (uO 66 (.bsl false none 4 (.str []) [(0,(cS [])),(1,(cS [49])),(2,(cS [120])),(3,65)])) [65] false [5] [],
dT (cL 67 AE [63,66]) [63,66],
dF (fA 68 4 none 3) [3],
dT (wO (.store none 68 62)) [68,62],
dF (fA 69 5 none 3) [3],
dT (wO (.store none 69 67)) [69,67]] [2,3])))))))))
.skip))
q3)
def XU:ACode:=z6I OQ
def KF (C:Hd)(gl:GL)(q3:ACode)(v0 v2 v3:AV)(h:aA)(x:Esc)(K:KT):Prop:=
 C nE [v0,(AI 60)] h fun t1 h2 y3=>
 jB t1 (C bF [v0,(AI 4)] h2 fun t4 h5 y6=>
 pK (DA .eql t4 (AI 0)) fun t7=>
 jB t7 (C NH [v0,(AI 1),(AI 10)] h5 fun t8 h9 y10=>
 pK (IA 0 none v3) fun t11=>
 wK (tB none t11 t8 h9) fun t12 h13 y14=>
 NW C gl q3 ⟨[(2,v2),(3,v3)],h13,(y14++(y10++(y6++(y3++x))))⟩ K)
 (pK (DA .eql t4 (AI 1)) fun t15=>
 jB t15 (C NH [v0,(AI 0),(AI 15)] h5 fun t16 h17 y18=>
 wK (XC false none 5 (.int .i64 0) [(0,(AI 0)),(1,(AI 1)),(2,(AI (-1))),(3,(AI 20000)),(4,(AI 20001))] h17) fun t19 h20 y21=>
 C JC [v0,t19] h20 fun t22 h23 y24=>
 pK (IA 1 none v3) fun t25=>
 wK (tB none t25 t16 h23) fun t26 h27 y28=>
 pK (IA 2 none v3) fun t29=>
 wK (tB none t29 t22 h27) fun t30 h31 y32=>
 NW C gl q3 ⟨[(2,v2),(3,v3)],h31,(y32++(y28++(y24++(y21++(y18++(y6++(y3++x)))))))⟩ K)
 (pK (DA .eql t4 (AI 2)) fun t33=>
 jB t33 (pK (IA 3 none v3) fun t34=>
 pK (FA none t34 h5) fun t35=>
 pK (IA 3 none v3) fun t36=>
 pK (FA none t36 h5) fun t37=>
 pK (ND t37) fun t38=>
 pK (DA .sub (AI 2000) t38) fun t39=>
 lC C PB [(.p (.str [48])),t39] h5 fun t40 h41 y42=>
 (pK (FA none t34 h41) fun v=>(fun u (g1:aA) (y1:Esc)=>u=t35∧g1=h41∧y1=[]) v h41 [])∧(lC C PB [(.p (.str [48])),(AI 2001)] h41 fun t43 h44 y45=>
 (pK (FA none t34 h44) fun v=>(fun u (g1:aA) (y1:Esc)=>u=t35∧g1=h44∧y1=[]) v h44 [])∧(wK (XC false none 4 (.str []) [(0,(.p (.str [120]))),(1,(.p (.str []))),(2,t40),(3,t43)] h44) fun t46 h47 y48=>
 (h47=h44∧y48=[])∧(lC C AE [v0,t46] h47 fun t49 h50 y51=>
 (pK (FA none t34 h50) fun v=>(fun u (g1:aA) (y1:Esc)=>u=t35∧g1=h50∧y1=[]) v h50 [])∧(pK (DA .add t35 t49) fun t52=>
 pK (IA 3 none v3) fun t53=>
 wK (tB none t53 t52 h50) fun t54 h55 y56=>
 NW C gl q3 ⟨[(2,v2),(3,v3)],h55,(y56++(y51++(y48++(y45++(y42++(y6++(y3++x)))))))⟩ K)))))
 (pK (IA 4 none v3) fun t57=>
 pK (FA none t57 h5) fun t58=>
 pK (DA .add t58 (.p (.str [49]))) fun t59=>
 wK (XC false none 3 (.str []) [(0,(.p (.str []))),(1,(.p (.str [48]))),(2,t59)] h5) fun t60 h61 y62=>
 (h61=h5∧y62=[])∧(lC C AE [v0,t60] h61 fun t63 h64 y65=>
 pK (IA 5 none v3) fun t66=>
 pK (FA none t66 h64) fun t67=>
 (pK (FA none t66 h61) fun v=>(fun u (g1:aA) (y1:Esc)=>u=t67∧g1=h61∧y1=[]) v h61 [])∧(wK (XC false none 4 (.str []) [(0,(.p (.str []))),(1,(.p (.str [49]))),(2,(.p (.str [120]))),(3,t67)] h64) fun t68 h69 y70=>
 (h69=h64∧y70=[])∧((wK (XC false none 4 (.str []) [(0,(.p (.str []))),(1,(.p (.str [49]))),(2,(.p (.str [120]))),(3,t67)] h61) (fun u (g1:aA) (y1:Esc)=>u=t68∧g1=h61∧y1=[]))∧(lC C AE [v0,t68] h69 fun t71 h72 y73=>
 pK (IA 4 none v3) fun t74=>
 wK (tB none t74 t63 h72) fun t75 h76 y77=>
 pK (IA 5 none v3) fun t78=>
 wK (tB none t78 t71 h76) fun t79 h80 y81=>
 NW C gl q3 ⟨[(2,v2),(3,v3)],h80,(y81++(y77++(y73++(y70++(y65++(y62++(y6++(y3++x))))))))⟩ K))))))))
 (NW C gl q3 ⟨[(0,v0),(2,v2),(3,v3),(54,t1)],h2,(y3++x)⟩ K)
theorem zcP {C gl q3 e h x K}:NW C gl (z6I q3) ⟨e,h,x⟩ K=KF C gl q3 (eA e 0) (eA e 2) (eA e 3) h x K:=by kernel_rfl
theorem zhr {C gl e h x K}:NW C gl XU ⟨e,h,x⟩ K=KF C gl OQ (eA e 0) (eA e 2) (eA e 3) h x K:=zcP
def z6G (q2 q4:ACode):ACode:=(.seq (rg [uO 2 (.alloc [.p (.int .i64 0),.p (.int .i64 0),.p (.int .i64 0),.p (.str []),.p (.str []),.p (.str [])])] [0,2])
(.seq (rg [mV 4 0,
uO 5 (.bsl false none 13 (.int .i64 0) [(0,(cI 7)),(1,(cI 7)),(2,(cI 8)),(3,(cI 8)),(4,(cI 8)),(5,(cI 1)),(6,(cI 2)),(7,(cI 3)),(8,(cI 4)),(9,(cI 5)),(10,(cI 6)),(11,(cI 9)),(12,(cI 10))]),
cL 6 JC [4,5],
uO 7 (.build [.p (.int .i64 0),.p (.int .i64 0),.p (.int .i64 0),.p (.str []),.p (.str []),.p (.str [])] [(0,1,6)]),
uO 3 (.alloc [.p (.int .i64 0),.p (.int .i64 0),.p (.int .i64 0),.p (.str []),.p (.str []),.p (.str [])]),
wO (.store (some 6) 3 7)] [0,2,3])
(.seq (.seq (rg [fA 8 0 none 3,
lD 9 none 8] [0,2,3,9])
(.block 0 (.seq (.seq (rg [bN 17 .eql 9 (cI 1),
mV 16 17] [0,2,3,9,16])
(.cond 16 .skip
(.seq (rg [bN 18 .eql 9 (cI 2),
mV 16 18] [0,2,3,9,16])
(.cond 16 .skip
(rg [bN 19 .eql 9 (cI 10),
mV 16 19] [0,2,3,9,16])))))
q2)))
q4)))
def qY:AFun:=⟨1,[.cell 2 (some 6)],z6G WU XU,false,false⟩
def tF (C:Hd)(gl:GL)(q2 q4:ACode)(v0:AV)(h:aA)(x:Esc)(K:KT):Prop:=
 alK [.p (.int .i64 0),.p (.int .i64 0),.p (.int .i64 0),.p (.str []),.p (.str []),.p (.str [])] h fun t1 h2 y3=>
 wK (XC false none 13 (.int .i64 0) [(0,(AI 7)),(1,(AI 7)),(2,(AI 8)),(3,(AI 8)),(4,(AI 8)),(5,(AI 1)),(6,(AI 2)),(7,(AI 3)),(8,(AI 4)),(9,(AI 5)),(10,(AI 6)),(11,(AI 9)),(12,(AI 10))] h2) fun t4 h5 y6=>
 C JC [v0,t4] h5 fun t7 h8 y9=>
 pK (xC [.p (.int .i64 0),.p (.int .i64 0),.p (.int .i64 0),.p (.str []),.p (.str []),.p (.str [])] [(0,1,t7)]) fun t10=>
 alK [.p (.int .i64 0),.p (.int .i64 0),.p (.int .i64 0),.p (.str []),.p (.str []),.p (.str [])] h8 fun t11 h12 y13=>
 wK (tB (some 6) t11 t10 h12) fun t14 h15 y16=>
 pK (IA 0 none t11) fun t17=>
 pK (FA none t17 h15) fun t18=>
 pK (DA .eql t18 (AI 1)) fun t19=>
 jB t19 (NW C gl q2 ⟨[(0,v0),(2,t1),(3,t11),(9,t18),(16,t19)],h15,(y16++(y13++(y9++(y6++(y3++x)))))⟩ (tC 0 (yD C gl q4 K)))
 (pK (DA .eql t18 (AI 2)) fun t20=>
 jB t20 (NW C gl q2 ⟨[(0,v0),(2,t1),(3,t11),(9,t18),(16,t20)],h15,(y16++(y13++(y9++(y6++(y3++x)))))⟩ (tC 0 (yD C gl q4 K)))
 (pK (DA .eql t18 (AI 10)) fun t21=>
 NW C gl q2 ⟨[(0,v0),(2,t1),(3,t11),(9,t18),(16,t21)],h15,(y16++(y13++(y9++(y6++(y3++x)))))⟩ (tC 0 (yD C gl q4 K))))
theorem zcN {C gl q2 q4 v0 h x K}:NW C gl (z6G q2 q4) ⟨enter [v0],h,x⟩ K=tF C gl q2 q4 v0 h x K:=by kernel_rfl
theorem zhn {C gl v0 h x K}:NW C gl qY.body ⟨enter [v0],h,x⟩ K=tF C gl WU XU v0 h x K:=zcN
def z5e:ACode:=(.seq (rg [mV 4 (cI 0)] [0,1])
(.seq (rg [mV 5 0,
cL 6 SH [5],
mV 7 1,
cL 8 qJ [7],
uO 9 (.bsl false none 2 (.int .i64 0) [(0,6),(1,8)]),
cL 10 gL [9],
mV 4 10] [4])
.ret))
def z0g:AFun:=⟨2,[.t 4],z5e,false,false⟩
def IT (C:Hd)(gl:GL)(e:En)(h:aA)(x:Esc)(K:KT):Sf C gl z5e e h x K:=⟨_,by simp only[z5e,↓wZ,AO.still];rfl⟩
theorem zjT {C gl v0 v1 h x K}:NW C gl z0g.body ⟨enter [v0,v1],h,x⟩ K=(IT C gl [(0,v0),(1,v1)] h x K).1:=(IT C gl [(0,v0),(1,v1)] h x K).2
def CW:ACode:=.pr [5,6,8,11,29,30,31] (rg [mV 59 8,
mV 60 11,
uO 61 (.bsl false none 1 (.str []) [(0,60)]),
uO 62 (.app none 59 61),
mV 8 62] [5,6,8,29,30,31])
def YO (C:Hd)(gl:GL)(e:En)(h:aA)(x:Esc)(K:KT):Sf C gl CW e h x K:=⟨_,by simp only[CW,↓wZ,AO.still];rfl⟩
theorem z2G {C gl e h x K}:NW C gl CW ⟨e,h,x⟩ K=(YO C gl e h x K).1:=(YO C gl e h x K).2
def DW:ACode:=.pr [5,6,8,29,30,31] (rg [bN 63 .add 31 (cI 1),
mV 31 63] [5,6,8,29,30,31])
def ZO (C:Hd)(gl:GL)(e:En)(h:aA)(x:Esc)(K:KT):Sf C gl DW e h x K:=⟨_,by simp only[DW,↓wZ,AO.still];rfl⟩
theorem z2H {C gl e h x K}:NW C gl DW ⟨e,h,x⟩ K=(ZO C gl e h x K).1:=(ZO C gl e h x K).2
def dN:ACode:=.pr [5,6,8,29,30,31] (.seq (rg [bN 32 .lss 31 30] [5,6,8,29,30,31,32])
(.seq (.cond 32 .skip
(.exit 0))
(.seq (.block 1 (.seq (rg [mV 33 31,
iA 34 (some 6) 29 31,
lD 35 (some 6) 34,
uO 10 (.alloc [.p (.int .i64 0),.p (.int .i64 0),.p (.int .i64 0),.p (.str []),.p (.str []),.p (.str [])]),
mV 9 33,
wO (.store (some 6) 10 35)] [5,6,8,9,10,29,30,31])
(.seq (rg [mV 11 (cS [])] [5,6,8,9,10,11,29,30,31])
(.seq (.seq (rg [fA 36 0 none 10,
lD 37 none 36,
cL 38 SG [37]] [5,6,8,9,10,11,29,30,31,38])
(.cond 38 (dr [dF (mV 39 6) [6],
dF (mV 40 5) [5],
dF (uO 41 (.nilchk 40)) [40],
dF (fA 42 41 none 41) [41],
dF (lD 43 none 42) [42],
dF (mV 44 9) [9],
dF (iA 45 none 43 44) [43,44],
dF (lD 46 none 45) [45],
dF (mV 47 5) [5],
dF (uO 48 (.nilchk 47)) [47],
dF (fA 49 41 none 48) [48],
dF (lD 50 none 49) [49],
dF (mV 51 9) [9],
dF (iA 52 none 50 51) [50,51],
dF (lD 53 none 52) [52],
dF (fA 54 3 none 10) [10],
dF (lD 55 none 54) [54],
dF (uO 56 (.lens 55)) [55],
dF (bN 57 .add 53 56) [53,56],
dF (uO 58 (.slstr 39 (some 46) (some 57))) [39,46,57],
dF (mV 11 58) [58]] [5,6,8,11,29,30,31])
.skip))
CW))))
DW)))
def XK (C:Hd)(gl:GL)(e:En)(h:aA)(x:Esc)(K:KT):Sf C gl dN e h x K:=⟨_,by simp only[dN,↓wZ,AO.still];rfl⟩
theorem cU {C gl e h x K}:NW C gl dN ⟨e,h,x⟩ K=(XK C gl e h x K).1:=(XK C gl e h x K).2
theorem zmw {C gl e h x K}:NW C gl (.loop (.scope dN)) ⟨e,h,x⟩ K=NA C gl (.scope dN) K [(5,eA e 5),(6,eA e 6),(8,eA e 8),(29,eA e 29),(30,eA e 30),(31,eA e 31)] h x:=fC
def EW:ACode:=.pr [8] (.seq (rg [mV 64 8,
mV 4 64] [4])
.ret)
def HT (C:Hd)(gl:GL)(e:En)(h:aA)(x:Esc)(K:KT):Sf C gl EW e h x K:=⟨_,by simp only[EW,↓wZ,AO.still];rfl⟩
theorem z8H {C gl e h x K}:NW C gl EW ⟨e,h,x⟩ K=(HT C gl e h x K).1:=(HT C gl e h x K).2
def z5d:ACode:=(.seq (rg [mV 4 (.c (.p (.sl none [])))] [0,1])
(.seq (rg [mV 12 1,
cL 13 qQ [12],
mV 5 13] [0,1,5])
(.seq (dr [dF (mV 15 0) [0],
dF (mV 16 5) [5],
dF (uO 17 (.nilchk 16)) [16],
dF (fA 18 42 none 17) [17],
dF (lD 19 none 18) [18],
dF (uO 20 (.conv .b2s 19)) [19],
dF (mV 21 5) [5],
dF (uO 22 (.nilchk 21)) [21],
dF (fA 23 43 none 22) [22],
dF (lD 24 none 23) [23],
dF (uO 25 (.conv .b2s 24)) [24],
dT (cL 26 aQ [15,20,25]) [15,20,25],
dF (mV 14 26) [26],
dF (eX 27 14 0) [14],
dF (eX 28 14 1) [14],
dF (mV 6 27) [27],
dF (mV 7 28) [28]] [1,5,6])
(.seq (rg [uO 8 (.new0 none)] [1,5,6,8])
(.seq (.seq (rg [mV 29 1,
lN 30 29,
mV 31 (cI 0)] [5,6,8,29,30,31])
(.block 0 (.loop (.scope dN))))
EW)))))
def z0f:AFun:=⟨2,[.t 4],z5d,false,false⟩
def GT (C:Hd)(gl:GL)(e:En)(h:aA)(x:Esc)(K:KT):Sf C gl z5d e h x K:=⟨_,by simp only[z5d,↓wZ,AO.still];rfl⟩
theorem zjS {C gl v0 v1 h x K}:NW C gl z0f.body ⟨enter [v0,v1],h,x⟩ K=(GT C gl [(0,v0),(1,v1)] h x K).1:=(GT C gl [(0,v0),(1,v1)] h x K).2
def z4q:ACode:=(.det (.seq (rg [mV 2 (.c (.p (.sl (some 6) [])))] [0])
(.seq (.seq (rg [mV 3 0,
uO 4 (.isnil 4 false 3)] [0,4])
(.condu 4 (.seq (rg [uO 2 (.new0 (some 6))] [2])
.ret)
.skip))
(.seq (rg [uO 5 (.bsl true (some 6) 0 (.agg [.int .i64 0,.int .i64 0,.int .i64 0,.str [],.str [],.str []]) []),
mV 6 0,
uO 7 (.app (some 6) 5 6),
mV 2 7] [2])
.ret))))
def iZ:AFun:=⟨1,[.t 2],z4q,false,true⟩
def RS (C:Hd)(gl:GL)(e:En)(h:aA)(x:Esc)(K:KT):Sf C gl z4q e h x K:=⟨_,by simp only[z4q,↓wZ,AO.still];rfl⟩
theorem ziC {C gl v0 h x K}:NW C gl iZ.body ⟨enter [v0],h,x⟩ K=(RS C gl [(0,v0)] h x K).1:=(RS C gl [(0,v0)] h x K).2
def z4Z:ACode:=(.seq (rg [mV 2 cF] [0])
(.seq (rg [mV 3 0,
bN 4 .eql 3 (cI 7),
mV 5 4,
gD 6 5 false (.mv 0),
gD 7 5 false (.bin .eql 6 (cI 8)),
uO 8 (.pick 5 cT 7),
mV 2 8] [2])
.ret))
def z0b:AFun:=⟨1,[.t 2],z4Z,false,false⟩
def VK (C:Hd)(gl:GL)(e:En)(h:aA)(x:Esc)(K:KT):Sf C gl z4Z e h x K:=⟨_,by simp only[z4Z,↓wZ,AO.still];rfl⟩
theorem zjL {C gl v0 h x K}:NW C gl z0b.body ⟨enter [v0],h,x⟩ K=(VK C gl [(0,v0)] h x K).1:=(VK C gl [(0,v0)] h x K).2
def z3K:ACode:=(.seq (rg [mV 2 cF] [0])
(.seq (rg [mV 3 0,
uO 4 (.lens 3),
cL 5 OH [4,(cI 1),(cI 40)],
mV 6 5,
gD 7 6 true (.mv 0),
gD 8 6 true (.call zL [7,(cS [97,98,99,100,101,102,103,104,105,106,107,108,109,110,111,112,113,114,115,116,117,118,119,120,121,122,48,49,50,51,52,53,54,55,56,57,45,95])]),
gD 9 6 true (.bin .eql 8 (cS [])),
uO 10 (.pick 6 9 cF),
mV 11 10,
gD 12 11 true (.mv 0),
gD 13 11 true (.idxs 12 (cI 0)),
gD 14 11 true (.call yL [(cS [97,98,99,100,101,102,103,104,105,106,107,108,109,110,111,112,113,114,115,116,117,118,119,120,121,122]),13]),
gD 15 11 true (.bin .geq 14 (cI 0)),
uO 16 (.pick 11 15 cF),
mV 2 16] [2])
.ret))
def DY:AFun:=⟨1,[.t 2],z3K,false,false⟩
def XI (C:Hd)(gl:GL)(e:En)(h:aA)(x:Esc)(K:KT):Sf C gl z3K e h x K:=⟨_,by simp only[z3K,↓wZ,AO.still];rfl⟩
theorem zhA {C gl v0 h x K}:NW C gl DY.body ⟨enter [v0],h,x⟩ K=(XI C gl [(0,v0)] h x K).1:=(XI C gl [(0,v0)] h x K).2
def z4t:ACode:=(.seq (rg [mV 4 cF] [0,1])
(.seq (rg [mV 5 0,
mV 6 1,
cL 7 RP [5,6],
bN 8 .geq 7 (cI 0),
mV 4 8] [4])
.ret))
def lZ:AFun:=⟨2,[.t 4],z4t,true,false⟩
def US (C:Hd)(gl:GL)(e:En)(h:aA)(x:Esc)(K:KT):Sf C gl z4t e h x K:=⟨_,by simp only[z4t,↓wZ,AO.still];rfl⟩
theorem ziF {C gl v0 v1 h x K}:NW C gl lZ.body ⟨enter [v0,v1],h,x⟩ K=(US C gl [(0,v0),(1,v1)] h x K).1:=(US C gl [(0,v0),(1,v1)] h x K).2
def z3J:ACode:=(.seq (rg [uO 2 (.box 0),
mV 3 cF] [1,2])
(.seq (rg [fA 4 0 none 2,
lD 5 none 4,
fA 6 0 none 1,
lD 7 none 6,
bN 8 .eql 5 7,
mV 3 8] [3])
.ret))
def CY:AFun:=⟨2,[.t 3],z3J,false,false⟩
def qS (C:Hd)(gl:GL)(e:En)(h:aA)(x:Esc)(K:KT):Sf C gl z3J e h x K:=⟨_,by simp only[z3J,↓wZ,AO.still];rfl⟩
theorem zh9 {C gl v0 v1 h x K}:NW C gl CY.body ⟨enter [v0,v1],h,x⟩ K=(qS C gl [(0,v0),(1,v1)] h x K).1:=(qS C gl [(0,v0),(1,v1)] h x K).2
def z3U:ACode:=(.seq (rg [mV 6 cF] [0,1,2])
(.seq (rg [mV 7 1,
mV 8 0,
bN 9 .leq 7 8,
mV 10 9,
gD 11 10 true (.mv 0),
gD 12 10 true (.mv 2),
gD 13 10 true (.bin .leq 11 12),
uO 14 (.pick 10 13 cF),
mV 6 14] [6])
.ret))
def NY:AFun:=⟨3,[.t 6],z3U,false,false⟩
def xS (C:Hd)(gl:GL)(e:En)(h:aA)(x:Esc)(K:KT):Sf C gl z3U e h x K:=⟨_,by simp only[z3U,↓wZ,AO.still];rfl⟩
theorem zhW {C gl v0 v1 v2 h x K}:NW C gl NY.body ⟨enter [v0,v1,v2],h,x⟩ K=(xS C gl [(0,v0),(1,v1),(2,v2)] h x K).1:=(xS C gl [(0,v0),(1,v1),(2,v2)] h x K).2
def vM:ACode:=.pr [1,18,19,20] (.seq (rg [bN 21 .lss 20 19] [1,18,19,20,21])
(.seq (.cond 21 .skip
(.exit 0))
(.seq (.block 1 (.seq (rg [mV 22 20,
iA 23 (some 2) 18 20,
lD 24 (some 2) 23,
uO 4 (.alloc [.p (.str []),.p (.int .i64 0)]),
mV 3 22,
wO (.store (some 2) 4 24)] [1,3,4,18,19,20])
(.block 2 (.seq (rg [fA 26 0 none 4,
lD 27 none 26,
cL 28 jL [27],
uO 29 (.un .not 28),
mV 25 29] [1,3,4,18,19,20,25])
(.cond 25 (.seq (rg [mV 2 (cI 5)] [2])
.ret)
(.seq (rg [fA 31 0 none 4,
lD 32 none 31,
bN 33 .eql 32 (cS [98,121,112,97,115,115]),
mV 34 33,
gD 35 34 false (.faddr 0 none 4),
gD 36 34 false (.load none 35),
gD 37 34 false (.bin .eql 36 (cS [105,100,99,111,100,101])),
uO 38 (.pick 34 cT 37),
mV 39 38,
gD 40 39 false (.faddr 3 none 1),
gD 41 39 false (.load none 40),
gD 42 39 false (.mv 3),
gD 43 39 false (.slice (some 2) 41 none (some 42) none),
gD 44 39 false (.mkfn JP [4]),
gD 45 39 false (.call lJ [43,44]),
uO 46 (.pick 39 cT 45),
mV 30 46] [1,4,18,19,20,30])
(.cond 30 (.seq (rg [mV 2 (cI 6)] [2])
.ret)
(.seq (rg [fA 48 1 none 4,
lD 49 none 48,
cL 50 OH [49,(cI 1),(cI 1000)],
uO 51 (.un .not 50),
mV 47 51] [1,18,19,20,47])
(.cond 47 (.seq (rg [mV 2 (cI 1)] [2])
.ret)
.skip)))))))))
(rg [bN 52 .add 20 (cI 1),
mV 20 52] [1,18,19,20]))))
def MF (C:Hd)(gl:GL)(e:En)(h:aA)(x:Esc)(K:KT):Sf C gl vM e h x K:=⟨_,by simp only[vM,↓wZ,AO.still];rfl⟩
theorem OG {C gl e h x K}:NW C gl vM ⟨e,h,x⟩ K=(MF C gl e h x K).1:=(MF C gl e h x K).2
theorem zlO {C gl e h x K}:NW C gl (.loop (.scope vM)) ⟨e,h,x⟩ K=NA C gl (.scope vM) K [(1,eA e 1),(18,eA e 18),(19,eA e 19),(20,eA e 20)] h x:=fC
def wM:ACode:=.pr [1,55,56] (.seq (rg [bN 57 .lss 56 55] [1,55,56,57])
(.seq (.cond 57 .skip
(.exit 3))
(.seq (.block 4 (.seq (rg [mV 58 56,
mV 5 58] [1,5,55,56])
(.seq (rg [lD 59 (some 5) 1,
mV 60 5,
cL 61 FP [59,60],
mV 6 61] [1,6,55,56])
(.seq (rg [mV 62 6,
bN 63 .neq 62 (cI 0)] [1,6,55,56,63])
(.cond 63 (.seq (rg [mV 64 6,
mV 2 64] [2])
.ret)
.skip)))))
(rg [bN 65 .add 56 (cI 1),
mV 56 65] [1,55,56]))))
def YI (C:Hd)(gl:GL)(e:En)(h:aA)(x:Esc)(K:KT):Sf C gl wM e h x K:=⟨_,by simp only[wM,↓wZ,AO.still];rfl⟩
theorem dP {C gl e h x K}:NW C gl wM ⟨e,h,x⟩ K=(YI C gl e h x K).1:=(YI C gl e h x K).2
theorem zlP {C gl e h x K}:NW C gl (.loop wM) ⟨e,h,x⟩ K=NA C gl wM K [(1,eA e 1),(55,eA e 55),(56,eA e 56)] h x:=MB
def wV:ACode:=.pr [] (.seq (rg [mV 2 (cI 0)] [2])
.ret)
def tO (C:Hd)(gl:GL)(e:En)(h:aA)(x:Esc)(K:KT):Sf C gl wV e h x K:=⟨_,by simp only[wV,↓wZ,AO.still];rfl⟩
theorem z2y {C gl e h x K}:NW C gl wV ⟨e,h,x⟩ K=(tO C gl e h x K).1:=(tO C gl e h x K).2
def RQ:ACode:=.pr [1] (.seq (.seq (rg [fA 53 4 none 1,
lD 54 none 53,
lN 55 54,
mV 56 (cI 0)] [1,55,56])
(.block 3 (.loop wM)))
wV)
def vO (C:Hd)(gl:GL)(e:En)(h:aA)(x:Esc)(K:KT):Sf C gl RQ e h x K:=⟨_,by simp only[RQ,↓wZ,AO.still];rfl⟩
theorem z2z {C gl e h x K}:NW C gl RQ ⟨e,h,x⟩ K=(vO C gl e h x K).1:=(vO C gl e h x K).2
def z3Y:ACode:=(.seq (rg [uO 1 (.box 0),
mV 2 (cI 0)] [1])
(.seq (.seq (rg [fA 7 3 none 1,
lD 8 none 7,
lN 9 8,
bN 10 .gtr 9 (cI 10),
mV 11 10,
gD 12 11 false (.faddr 4 none 1),
gD 13 11 false (.load none 12),
gD 14 11 false (.len 13),
gD 15 11 false (.bin .gtr 14 (cI 100)),
uO 16 (.pick 11 cT 15)] [1,16])
(.cond 16 (.seq (rg [mV 2 (cI 2)] [2])
.ret)
.skip))
(.seq (.seq (rg [fA 17 3 none 1,
lD 18 none 17,
lN 19 18,
mV 20 (cI 0)] [1,18,19,20])
(.block 0 (.loop (.scope vM))))
RQ)))
def RY:AFun:=⟨1,[.t 2],z3Y,false,false⟩
def MK (C:Hd)(gl:GL)(e:En)(h:aA)(x:Esc)(K:KT):Sf C gl z3Y e h x K:=⟨_,by simp only[z3Y,↓wZ,AO.still];rfl⟩
theorem zia {C gl v0 h x K}:NW C gl RY.body ⟨enter [v0],h,x⟩ K=(MK C gl [(0,v0)] h x K).1:=(MK C gl [(0,v0)] h x K).2
def z4g:ACode:=.pr [1,3,48] (.cond 48 (.seq (dr [dF (fA 51 3 none 1) [1],
dF (lD 52 none 51) [51],
dF (fA 53 4 none 1) [1],
dF (lD 54 none 53) [53],
dF (fA 55 5 none 1) [1],
dF (lD 56 none 55) [55],
dF (fA 57 3 none 3) [3],
dA (wO (.store none 57 52)) [57,52] true [] [3,5],
dF (fA 58 4 none 3) [3],
dA (wO (.store none 58 54)) [58,54] true [] [5],
dF (fA 59 5 none 3) [3],
dT (wO (.store none 59 56)) [59,56]] [1,3])
(.seq (rg [lD 60 (some 6) 1,
cL 61 oL [60],
mV 4 61] [1,3,4])
(.seq (rg [mV 62 4,
bN 63 .neq 62 (cI 0)] [1,3,4,63])
(.cond 63 (.seq (rg [mV 64 4,
mV 2 64] [2])
.ret)
.skip))))
(.seq (rg [mV 2 (cI 4)] [2])
.ret))
def ZI (C:Hd)(gl:GL)(v1 v3 v48:AV)(h:aA)(x:Esc)(K:KT):Prop:=
 jB v48 (pK (IA 3 none v1) fun t1=>
 pK (FA none t1 h) fun t2=>
 pK (IA 4 none v1) fun t3=>
 pK (FA none t3 h) fun t4=>
 pK (IA 5 none v1) fun t5=>
 pK (FA none t5 h) fun t6=>
 pK (IA 3 none v3) fun t7=>
 wK (tB none t7 t2 h) fun t8 h9 y10=>
 (pK (FA none t3 h9) fun v=>(fun u (g1:aA) (y1:Esc)=>u=t4∧g1=h9∧y1=[]) v h9 [])∧((pK (FA none t5 h9) fun v=>(fun u (g1:aA) (y1:Esc)=>u=t6∧g1=h9∧y1=[]) v h9 [])∧(pK (IA 4 none v3) fun t11=>
 wK (tB none t11 t4 h9) fun t12 h13 y14=>
 (pK (FA none t5 h13) fun v=>(fun u (g1:aA) (y1:Esc)=>u=t6∧g1=h13∧y1=[]) v h13 [])∧(pK (IA 5 none v3) fun t15=>
 wK (tB none t15 t6 h13) fun t16 h17 y18=>
 pK (FA (some 6) v1 h17) fun t19=>
 C oL [t19] h17 fun t20 h21 y22=>
 pK (DA .neq t20 (AI 0)) fun t23=>
 jB t23 (K .ret ⟨[(2,t20)],h21,(y22++(y18++(y14++(y10++x))))⟩)
 (K .normal ⟨[(1,v1),(3,v3),(4,t20),(63,t23)],h21,(y22++(y18++(y14++(y10++x))))⟩)))))
 (K .ret ⟨[(2,(AI 4))],h,x⟩)
theorem ziq {C gl e h x K}:NW C gl z4g ⟨e,h,x⟩ K=ZI C gl (eA e 1) (eA e 3) (eA e 48) h x K:=by kernel_rfl
def z6K (q1:ACode):ACode:=.pr [1,3,9,30] (.cond 30 (.seq (rg [fA 35 3 none 1,
lD 36 none 35,
fA 37 3 none 3,
wO (.store none 37 36)] [1,3])
(.block 1 (.seq (rg [fA 39 3 none 1,
lD 40 none 39,
cL 41 RG [40],
uO 42 (.un .not 41),
mV 38 42] [1,3,38])
(.cond 38 (.seq (rg [mV 2 (cI 9)] [2])
.ret)
(.seq (rg [fA 44 3 none 1,
lD 45 none 44,
uO 46 (.lens 45),
bN 47 .gtr 46 (cI 2000),
mV 43 47] [1,3,43])
(.cond 43 (.seq (rg [mV 2 (cI 2)] [2])
.ret)
.skip))))))
(.seq (.seq (rg [bN 49 .eql 9 (cI 7),
mV 48 49] [1,3,9,48])
(.cond 48 .skip
(rg [bN 50 .eql 9 (cI 8),
mV 48 50] [1,3,48])))
q1))
def z4h:ACode:=z6K z4g
def NF (C:Hd)(gl:GL)(q1:ACode)(v1 v3 v9 v30:AV)(h:aA)(x:Esc)(K:KT):Prop:=
 jB v30 (pK (IA 3 none v1) fun t1=>
 pK (FA none t1 h) fun t2=>
 pK (IA 3 none v3) fun t3=>
 wK (tB none t3 t2 h) fun t4 h5 y6=>
 pK (IA 3 none v1) fun t7=>
 pK (FA none t7 h5) fun t8=>
 C RG [t8] h5 fun t9 h10 y11=>
 pK (oUn .not t9) fun t12=>
 jB t12 (K .ret ⟨[(2,(AI 9))],h10,(y11++(y6++x))⟩)
 (pK (IA 3 none v1) fun t13=>
 pK (FA none t13 h10) fun t14=>
 pK (ND t14) fun t15=>
 pK (DA .gtr t15 (AI 2000)) fun t16=>
 jB t16 (K .ret ⟨[(2,(AI 2))],h10,(y11++(y6++x))⟩)
 (K .normal ⟨[(1,v1),(3,v3),(43,t16)],h10,(y11++(y6++x))⟩)))
 (pK (DA .eql v9 (AI 7)) fun t17=>
 jB t17 (NW C gl q1 ⟨[(1,v1),(3,v3),(9,v9),(48,t17)],h,x⟩ K)
 (pK (DA .eql v9 (AI 8)) fun t18=>
 NW C gl q1 ⟨[(1,v1),(3,v3),(48,t18)],h,x⟩ K))
theorem zcR {C gl q1 e h x K}:NW C gl (z6K q1) ⟨e,h,x⟩ K=NF C gl q1 (eA e 1) (eA e 3) (eA e 9) (eA e 30) h x K:=by kernel_rfl
theorem zir {C gl e h x K}:NW C gl z4h ⟨e,h,x⟩ K=NF C gl z4g (eA e 1) (eA e 3) (eA e 9) (eA e 30) h x K:=zcR
def z6L (q2:ACode):ACode:=.pr [1,3,9,10] (.cond 10 (.seq (rg [fA 14 1 none 1,
lD 15 none 14,
fA 16 1 none 3,
wO (.store none 16 15)] [1,3])
(.seq (rg [fA 17 1 none 1,
lD 18 none 17,
cL 19 pL [18],
uO 20 (.un .not 19)] [1,3,20])
(.cond 20 (.seq (rg [mV 2 (cI 1)] [2])
.ret)
.skip)))
(.seq (rg [bN 22 .eql 9 (cI 9),
mV 21 22] [1,3,9,21])
(.cond 21 (.seq (rg [fA 23 2 none 1,
lD 24 none 23,
fA 25 2 none 3,
wO (.store none 25 24)] [1,3])
(.seq (rg [fA 26 2 none 1,
lD 27 none 26,
cL 28 kJ [27,(cI 0),(cI 20000)],
uO 29 (.un .not 28)] [1,3,29])
(.cond 29 (.seq (rg [mV 2 (cI 1)] [2])
.ret)
.skip)))
(.seq (.seq (rg [bN 31 .eql 9 (cI 3),
mV 30 31] [1,3,9,30])
(.cond 30 .skip
(.seq (rg [bN 32 .eql 9 (cI 4),
mV 30 32] [1,3,9,30])
(.cond 30 .skip
(.seq (rg [bN 33 .eql 9 (cI 5),
mV 30 33] [1,3,9,30])
(.cond 30 .skip
(rg [bN 34 .eql 9 (cI 6),
mV 30 34] [1,3,9,30])))))))
q2))))
def JV:ACode:=z6L z4h
def ID (C:Hd)(gl:GL)(q2:ACode)(v1 v3 v9 v10:AV)(h:aA)(x:Esc)(K:KT):Prop:=
 jB v10 (pK (IA 1 none v1) fun t1=>
 pK (FA none t1 h) fun t2=>
 pK (IA 1 none v3) fun t3=>
 wK (tB none t3 t2 h) fun t4 h5 y6=>
 pK (IA 1 none v1) fun t7=>
 pK (FA none t7 h5) fun t8=>
 C pL [t8] h5 fun t9 h10 y11=>
 pK (oUn .not t9) fun t12=>
 jB t12 (K .ret ⟨[(2,(AI 1))],h10,(y11++(y6++x))⟩)
 (K .normal ⟨[(1,v1),(3,v3),(20,t12)],h10,(y11++(y6++x))⟩))
 (pK (DA .eql v9 (AI 9)) fun t13=>
 jB t13 (pK (IA 2 none v1) fun t14=>
 pK (FA none t14 h) fun t15=>
 pK (IA 2 none v3) fun t16=>
 wK (tB none t16 t15 h) fun t17 h18 y19=>
 pK (IA 2 none v1) fun t20=>
 pK (FA none t20 h18) fun t21=>
 C kJ [t21,(AI 0),(AI 20000)] h18 fun t22 h23 y24=>
 pK (oUn .not t22) fun t25=>
 jB t25 (K .ret ⟨[(2,(AI 1))],h23,(y24++(y19++x))⟩)
 (K .normal ⟨[(1,v1),(3,v3),(29,t25)],h23,(y24++(y19++x))⟩))
 (pK (DA .eql v9 (AI 3)) fun t26=>
 jB t26 (NW C gl q2 ⟨[(1,v1),(3,v3),(9,v9),(30,t26)],h,x⟩ K)
 (pK (DA .eql v9 (AI 4)) fun t27=>
 jB t27 (NW C gl q2 ⟨[(1,v1),(3,v3),(9,v9),(30,t27)],h,x⟩ K)
 (pK (DA .eql v9 (AI 5)) fun t28=>
 jB t28 (NW C gl q2 ⟨[(1,v1),(3,v3),(9,v9),(30,t28)],h,x⟩ K)
 (pK (DA .eql v9 (AI 6)) fun t29=>
 NW C gl q2 ⟨[(1,v1),(3,v3),(9,v9),(30,t29)],h,x⟩ K)))))
theorem zcS {C gl q2 e h x K}:NW C gl (z6L q2) ⟨e,h,x⟩ K=ID C gl q2 (eA e 1) (eA e 3) (eA e 9) (eA e 10) h x K:=by kernel_rfl
theorem zis {C gl e h x K}:NW C gl JV ⟨e,h,x⟩ K=ID C gl z4h (eA e 1) (eA e 3) (eA e 9) (eA e 10) h x K:=zcS
def KV:ACode:=.pr [1,3] (.seq (.seq (rg [lD 65 (some 6) 1,
lD 66 (some 6) 3,
uO 67 (.eqa [0,0,0,2,2,2] true 65 66)] [67])
(.cond 67 (.seq (rg [mV 2 (cI 3)] [2])
.ret)
.skip))
(.seq (rg [mV 2 (cI 0)] [2])
.ret))
def OK (C:Hd)(gl:GL)(v1 v3:AV)(h:aA)(x:Esc)(K:KT):Prop:=
 pK (FA (some 6) v1 h) fun t1=>
 pK (FA (some 6) v3 h) fun t2=>
 pK (YA [0,0,0,2,2,2] true t1 t2) fun t3=>
 jB t3 (K .ret ⟨[(2,(AI 3))],h,x⟩)
 (K .ret ⟨[(2,(AI 0))],h,x⟩)
theorem zit {C gl e h x K}:NW C gl KV ⟨e,h,x⟩ K=OK C gl (eA e 1) (eA e 3) h x K:=by kernel_rfl
def z6J (q3 q4:ACode):ACode:=(.seq (rg [uO 1 (.box 0),
mV 2 (cI 0)] [1])
(.seq (rg [fA 5 0 none 1,
lD 6 none 5,
uO 7 (.build [.p (.int .i64 0),.p (.int .i64 0),.p (.int .i64 0),.p (.str []),.p (.str []),.p (.str [])] [(0,1,6)]),
uO 3 (.alloc [.p (.int .i64 0),.p (.int .i64 0),.p (.int .i64 0),.p (.str []),.p (.str []),.p (.str [])]),
wO (.store (some 6) 3 7)] [1,3])
(.seq (.seq (rg [fA 8 0 none 1,
lD 9 none 8] [1,3,9])
(.block 0 (.seq (.seq (rg [bN 11 .eql 9 (cI 1),
mV 10 11] [1,3,9,10])
(.cond 10 .skip
(.seq (rg [bN 12 .eql 9 (cI 2),
mV 10 12] [1,3,9,10])
(.cond 10 .skip
(rg [bN 13 .eql 9 (cI 10),
mV 10 13] [1,3,9,10])))))
q3)))
q4)))
def ZY:AFun:=⟨1,[.t 2],z6J JV KV,false,false⟩
def aE (C:Hd)(gl:GL)(q3 q4:ACode)(v0:AV)(h:aA)(x:Esc)(K:KT):Prop:=
 wK (CJ v0 h) fun t1 h2 y3=>
 pK (IA 0 none t1) fun t4=>
 pK (FA none t4 h2) fun t5=>
 pK (xC [.p (.int .i64 0),.p (.int .i64 0),.p (.int .i64 0),.p (.str []),.p (.str []),.p (.str [])] [(0,1,t5)]) fun t6=>
 alK [.p (.int .i64 0),.p (.int .i64 0),.p (.int .i64 0),.p (.str []),.p (.str []),.p (.str [])] h2 fun t7 h8 y9=>
 wK (tB (some 6) t7 t6 h8) fun t10 h11 y12=>
 pK (IA 0 none t1) fun t13=>
 pK (FA none t13 h11) fun t14=>
 pK (DA .eql t14 (AI 1)) fun t15=>
 jB t15 (NW C gl q3 ⟨[(1,t1),(3,t7),(9,t14),(10,t15)],h11,(y12++(y9++(y3++x)))⟩ (tC 0 (yD C gl q4 K)))
 (pK (DA .eql t14 (AI 2)) fun t16=>
 jB t16 (NW C gl q3 ⟨[(1,t1),(3,t7),(9,t14),(10,t16)],h11,(y12++(y9++(y3++x)))⟩ (tC 0 (yD C gl q4 K)))
 (pK (DA .eql t14 (AI 10)) fun t17=>
 NW C gl q3 ⟨[(1,t1),(3,t7),(9,t14),(10,t17)],h11,(y12++(y9++(y3++x)))⟩ (tC 0 (yD C gl q4 K))))
theorem zcQ {C gl q3 q4 v0 h x K}:NW C gl (z6J q3 q4) ⟨enter [v0],h,x⟩ K=aE C gl q3 q4 v0 h x K:=by kernel_rfl
theorem zio {C gl v0 h x K}:NW C gl ZY.body ⟨enter [v0],h,x⟩ K=aE C gl JV KV v0 h x K:=zcQ
def CM:ACode:=.pr [5,6,7,11,12,13] (.seq (rg [bN 14 .lss 13 12] [5,6,7,11,12,13,14])
(.seq (.cond 14 .skip
(.exit 0))
(.seq (.block 1 (.seq (rg [iA 15 (some 5) 11 13,
lD 16 (some 5) 15,
uO 9 (.alloc [.p (.str []),.p (.str []),.p (.str []),.p (.int .i64 0),.p (.int .i64 0)]),
wO (.store (some 5) 9 16)] [5,6,7,9,11,12,13])
(.seq (rg [fA 17 0 none 9,
lD 18 none 17,
cL 19 tG [5,18]] [5,6,7,9,11,12,13])
(.seq (rg [fA 20 1 none 9,
lD 21 none 20,
cL 22 tG [6,21]] [5,6,7,9,11,12,13])
(rg [fA 23 2 none 9,
lD 24 none 23,
cL 25 tG [7,24]] [5,6,7,11,12,13])))))
(rg [bN 26 .add 13 (cI 1),
mV 13 26] [5,6,7,11,12,13]))))
def z12 (C:Hd)(gl:GL)(e:En)(h:aA)(x:Esc)(K:KT):Sf C gl CM e h x K:=⟨_,by simp only[CM,↓wZ,AO.still];rfl⟩
theorem zim {C gl e h x K}:NW C gl CM ⟨e,h,x⟩ K=(z12 C gl e h x K).1:=(z12 C gl e h x K).2
theorem zlV {C gl e h x K}:NW C gl (.loop (.scope CM)) ⟨e,h,x⟩ K=NA C gl (.scope CM) K [(5,eA e 5),(6,eA e 6),(7,eA e 7),(11,eA e 11),(12,eA e 12),(13,eA e 13)] h x:=fC
def IV:ACode:=.pr [5,6,7] (.seq (rg [cL 27 oJ [5],
cL 28 oJ [6],
cL 29 oJ [7],
mV 2 27,
mV 3 28,
mV 4 29] [2,3,4])
.ret)
def z13 (C:Hd)(gl:GL)(e:En)(h:aA)(x:Esc)(K:KT):Sf C gl IV e h x K:=⟨_,by simp only[IV,↓wZ,AO.still];rfl⟩
theorem zin {C gl e h x K}:NW C gl IV ⟨e,h,x⟩ K=(z13 C gl e h x K).1:=(z13 C gl e h x K).2
def z4f:ACode:=(.seq (rg [mV 2 (cS []),
mV 3 (cS []),
mV 4 (cS [])] [0])
(.seq (rg [uO 5 (.uns 0 115 [(cI 5)]),
uO 6 (.uns 0 115 [(cI 5)]),
uO 7 (.uns 0 115 [(cI 5)])] [0,5,6,7])
(.seq (.seq (rg [mV 10 0,
cL 11 nL [10],
lN 12 11,
mV 13 (cI 0)] [5,6,7,11,12,13])
(.block 0 (.loop (.scope CM))))
IV)))
def YY:AFun:=⟨1,[.t 2,.t 3,.t 4],z4f,false,false⟩
def KS (C:Hd)(gl:GL)(e:En)(h:aA)(x:Esc)(K:KT):Sf C gl z4f e h x K:=⟨_,by simp only[z4f,↓wZ,AO.still];rfl⟩
theorem zil {C gl v0 h x K}:NW C gl YY.body ⟨enter [v0],h,x⟩ K=(KS C gl [(0,v0)] h x K).1:=(KS C gl [(0,v0)] h x K).2
def pV:ACode:=.pr [1,2,7,8,14,15] (rg [bN 38 .add 15 (cI 1),
mV 15 38] [1,2,7,8,14,15])
def z1r (C:Hd)(gl:GL)(e:En)(h:aA)(x:Esc)(K:KT):Sf C gl pV e h x K:=⟨_,by simp only[pV,↓wZ,AO.still];rfl⟩
theorem zhM {C gl e h x K}:NW C gl pV ⟨e,h,x⟩ K=(z1r C gl e h x K).1:=(z1r C gl e h x K).2
def rM:ACode:=.pr [1,2,7,8,14,15] (.seq (rg [bN 16 .lss 15 14] [1,2,7,8,14,15,16])
(.seq (.cond 16 .skip
(.exit 0))
(.seq (.block 1 (.seq (rg [mV 17 15,
mV 9 17] [1,2,7,8,9,14,15])
(.seq (dr [dF (mV 18 7) [7],
dF (mV 19 1) [1],
dF (mV 20 9) [9],
dF (uO 21 (.idxs 19 20)) [19,20],
dF (bN 22 .sub 21 (.c (.p (.int .u8 48)))) [21],
dF (uO 23 (.conv (.i .i64) 22)) [22],
dF (mV 24 2) [2],
dF (mV 25 9) [9],
dF (uO 26 (.idxs 24 25)) [24,25],
dF (bN 27 .sub 26 (.c (.p (.int .u8 48)))) [26],
dF (uO 28 (.conv (.i .i64) 27)) [27],
dT (cL 29 zP [18,23,28]) [18,23,28],
dF (mV 10 29) [29]] [1,2,7,8,10,14,15])
(.seq (rg [mV 30 10,
bN 31 .geq 30 (cI 0)] [1,2,7,8,10,14,15,31])
(.cond 31 (rg [mV 32 8,
mV 33 10,
cL 34 wL [33],
bN 35 .add 32 34,
mV 8 35] [1,2,7,8,14,15])
(rg [mV 36 8,
bN 37 .add 36 (cS [122]),
mV 8 37] [1,2,7,8,14,15]))))))
pV)))
def HK (C:Hd)(gl:GL)(e:En)(h:aA)(x:Esc)(K:KT):Sf C gl rM e h x K:=⟨_,by simp only[rM,↓wZ,AO.still];rfl⟩
theorem XT {C gl e h x K}:NW C gl rM ⟨e,h,x⟩ K=(HK C gl e h x K).1:=(HK C gl e h x K).2
theorem zlK {C gl e h x K}:NW C gl (.loop rM) ⟨e,h,x⟩ K=NA C gl rM K [(1,eA e 1),(2,eA e 2),(7,eA e 7),(8,eA e 8),(14,eA e 14),(15,eA e 15)] h x:=MB
def qV:ACode:=.pr [8] (.seq (rg [mV 39 8,
mV 6 39] [6])
.ret)
def z1s (C:Hd)(gl:GL)(e:En)(h:aA)(x:Esc)(K:KT):Sf C gl qV e h x K:=⟨_,by simp only[qV,↓wZ,AO.still];rfl⟩
theorem zhN {C gl e h x K}:NW C gl qV ⟨e,h,x⟩ K=(z1s C gl e h x K).1:=(z1s C gl e h x K).2
def z3Q:ACode:=(.seq (rg [mV 6 (cS [])] [0,1,2])
(.seq (rg [mV 11 0,
cL 12 yP [11],
mV 7 12] [1,2,7])
(.seq (rg [mV 8 (cS [])] [1,2,7,8])
(.seq (.seq (rg [mV 13 1,
uO 14 (.lens 13),
mV 15 (cI 0)] [1,2,7,8,14,15])
(.block 0 (.loop rM)))
qV))))
def JY:AFun:=⟨3,[.t 6],z3Q,false,false⟩
def tS (C:Hd)(gl:GL)(e:En)(h:aA)(x:Esc)(K:KT):Sf C gl z3Q e h x K:=⟨_,by simp only[z3Q,↓wZ,AO.still];rfl⟩
theorem zhL {C gl v0 v1 v2 h x K}:NW C gl JY.body ⟨enter [v0,v1,v2],h,x⟩ K=(tS C gl [(0,v0),(1,v1),(2,v2)] h x K).1:=(tS C gl [(0,v0),(1,v1),(2,v2)] h x K).2
def FM:ACode:=.pr [0,3,4,8,9] (.seq (rg [bN 10 .lss 9 8] [0,3,4,8,9,10])
(.seq (.cond 10 .skip
(.exit 0))
(.seq (.block 1 (.seq (rg [mV 11 9,
mV 5 11] [0,3,4,5,8,9])
(.seq (rg [mV 12 0,
mV 13 5,
mV 14 4,
cL 15 sG [12,13,14],
uO 6 (.alloc [.p (.str []),.p (.str []),.p (.str []),.p (.int .i64 0),.p (.int .i64 0)]),
wO (.store (some 5) 6 15)] [0,3,6,8,9])
(dr [dF (mV 16 3) [3],
dF (lD 17 (some 5) 6) [6],
dF (uO 18 (.bsl false (some 5) 1 (.agg [.str [],.str [],.str [],.int .i64 0,.int .i64 0]) [(0,17)])) [17],
dT (uO 19 (.app (some 5) 16 18)) [16,18],
dF (fA 20 4 none 6) [6],
dA (lD 21 none 20) [20] false [3] [],
dF (mV 3 19) [19],
dF (mV 4 21) [21]] [0,3,4,8,9]))))
(rg [bN 22 .add 9 (cI 1),
mV 9 22] [0,3,4,8,9]))))
def z1A (C:Hd)(gl:GL)(e:En)(h:aA)(x:Esc)(K:KT):Sf C gl FM e h x K:=⟨_,by simp only[FM,↓wZ,AO.still];rfl⟩
theorem zi8 {C gl e h x K}:NW C gl FM ⟨e,h,x⟩ K=(z1A C gl e h x K).1:=(z1A C gl e h x K).2
theorem zlY {C gl e h x K}:NW C gl (.loop (.scope FM)) ⟨e,h,x⟩ K=NA C gl (.scope FM) K [(0,eA e 0),(3,eA e 3),(4,eA e 4),(8,eA e 8),(9,eA e 9)] h x:=fC
def TV:ACode:=.pr [3] (.seq (rg [mV 23 3,
mV 2 23] [2])
.ret)
def z1B (C:Hd)(gl:GL)(e:En)(h:aA)(x:Esc)(K:KT):Sf C gl TV e h x K:=⟨_,by simp only[TV,↓wZ,AO.still];rfl⟩
theorem zi9 {C gl e h x K}:NW C gl TV ⟨e,h,x⟩ K=(z1B C gl e h x K).1:=(z1B C gl e h x K).2
def z4n:ACode:=(.seq (rg [mV 2 (.c (.p (.sl (some 5) [])))] [0])
(.seq (rg [uO 3 (.new0 (some 5))] [0,3])
(.seq (rg [mV 4 (cI 0)] [0,3,4])
(.seq (.seq (rg [mV 7 0,
lN 8 7,
mV 9 (cI 0)] [0,3,4,8,9])
(.block 0 (.loop (.scope FM))))
TV))))
def fZ:AFun:=⟨1,[.t 2],z4n,false,false⟩
def PS (C:Hd)(gl:GL)(e:En)(h:aA)(x:Esc)(K:KT):Sf C gl z4n e h x K:=⟨_,by simp only[z4n,↓wZ,AO.still];rfl⟩
theorem zi7 {C gl v0 h x K}:NW C gl fZ.body ⟨enter [v0],h,x⟩ K=(PS C gl [(0,v0)] h x K).1:=(PS C gl [(0,v0)] h x K).2
def z4k:ACode:=(.seq (rg [uO 1 (.box 0),
mV 2 cF] [1])
(.seq (rg [fA 3 0 none 1,
lD 4 none 3,
cL 5 kJ [4,(cI 7),(cI 8)],
mV 2 5] [2])
.ret))
def cZ:AFun:=⟨1,[.t 2],z4k,false,false⟩
def NS (C:Hd)(gl:GL)(e:En)(h:aA)(x:Esc)(K:KT):Sf C gl z4k e h x K:=⟨_,by simp only[z4k,↓wZ,AO.still];rfl⟩
theorem ziz {C gl v0 h x K}:NW C gl cZ.body ⟨enter [v0],h,x⟩ K=(NS C gl [(0,v0)] h x K).1:=(NS C gl [(0,v0)] h x K).2
def MV:ACode:=.pr [1,3,12,13] (rg [bN 28 .add 13 (cI 1),
mV 13 28] [1,3,12,13])
def z14 (C:Hd)(gl:GL)(e:En)(h:aA)(x:Esc)(K:KT):Sf C gl MV e h x K:=⟨_,by simp only[MV,↓wZ,AO.still];rfl⟩
theorem ziv {C gl e h x K}:NW C gl MV ⟨e,h,x⟩ K=(z14 C gl e h x K).1:=(z14 C gl e h x K).2
def DM:ACode:=.pr [1,3,12,13] (.seq (rg [bN 14 .lss 13 12] [1,3,12,13,14])
(.seq (.cond 14 .skip
(.exit 0))
(.seq (.block 1 (.seq (rg [mV 15 13,
mV 4 15] [1,3,4,12,13])
(.seq (rg [fA 16 5 none 1,
lD 17 none 16,
mV 18 4,
uO 19 (.idxs 17 18),
bN 20 .eql 19 (.c (.p (.int .u8 49)))] [1,3,4,12,13,20])
(.cond 20 (rg [mV 21 3,
mV 22 4,
fA 23 4 none 1,
lD 24 none 23,
mV 25 4,
uO 26 (.idxs 24 25),
iA 27 none 21 22,
wO (.store none 27 26)] [1,3,12,13])
.skip))))
MV)))
def z15 (C:Hd)(gl:GL)(e:En)(h:aA)(x:Esc)(K:KT):Sf C gl DM e h x K:=⟨_,by simp only[DM,↓wZ,AO.still];rfl⟩
theorem ziw {C gl e h x K}:NW C gl DM ⟨e,h,x⟩ K=(z15 C gl e h x K).1:=(z15 C gl e h x K).2
theorem zlW {C gl e h x K}:NW C gl (.loop DM) ⟨e,h,x⟩ K=NA C gl DM K [(1,eA e 1),(3,eA e 3),(12,eA e 12),(13,eA e 13)] h x:=MB
def NV:ACode:=.pr [3] (.seq (rg [mV 29 3,
uO 30 (.conv .b2s 29),
mV 2 30] [2])
.ret)
def z16 (C:Hd)(gl:GL)(e:En)(h:aA)(x:Esc)(K:KT):Sf C gl NV e h x K:=⟨_,by simp only[NV,↓wZ,AO.still];rfl⟩
theorem zix {C gl e h x K}:NW C gl NV ⟨e,h,x⟩ K=(z16 C gl e h x K).1:=(z16 C gl e h x K).2
def z4i:ACode:=(.seq (rg [uO 1 (.box 0),
mV 2 (cS [])] [1])
(.seq (rg [fA 5 3 none 1,
lD 6 none 5,
uO 7 (.lens 6),
cL 8 PB [(cS [120]),7],
uO 9 (.conv .s2b 8),
mV 3 9] [1,3])
(.seq (.seq (rg [fA 10 5 none 1,
lD 11 none 10,
uO 12 (.lens 11),
mV 13 (cI 0)] [1,3,12,13])
(.block 0 (.loop DM)))
NV)))
def aZ:AFun:=⟨1,[.t 2],z4i,false,false⟩
def LS (C:Hd)(gl:GL)(e:En)(h:aA)(x:Esc)(K:KT):Sf C gl z4i e h x K:=⟨_,by simp only[z4i,↓wZ,AO.still];rfl⟩
theorem ziu {C gl v0 h x K}:NW C gl aZ.body ⟨enter [v0],h,x⟩ K=(LS C gl [(0,v0)] h x K).1:=(LS C gl [(0,v0)] h x K).2
def z4V:ACode:=(.seq (rg [mV 2 (cI 0),
mV 3 (cI 0)] [0])
(.seq (.seq (rg [mV 5 0,
cL 6 qJ [5],
mV 4 6] [0,4])
(.seq (rg [mV 7 4,
bN 8 .neq 7 (cI 0)] [0,4,8])
(.cond 8 (.seq (rg [mV 9 4,
mV 2 (cI 0),
mV 3 9] [2,3])
.ret)
.skip)))
(.seq (rg [mV 10 0,
cL 11 TG [10,(.c (.nilp))],
uO 12 (.nilchk 11),
fA 13 37 none 12,
lD 14 none 13,
mV 2 14,
mV 3 (cI 0)] [2,3])
.ret)))
def XZ:AFun:=⟨1,[.t 2,.t 3],z4V,false,false⟩
def PO (C:Hd)(gl:GL)(e:En)(h:aA)(x:Esc)(K:KT):Sf C gl z4V e h x K:=⟨_,by simp only[z4V,↓wZ,AO.still];rfl⟩
theorem zjG {C gl v0 h x K}:NW C gl XZ.body ⟨enter [v0],h,x⟩ K=(PO C gl [(0,v0)] h x K).1:=(PO C gl [(0,v0)] h x K).2
def YM:ACode:=.pr [0,10,11,12] (.seq (rg [bN 13 .lss 12 11] [0,10,11,12,13])
(.seq (.cond 13 .skip
(.exit 0))
(.seq (.block 1 (.seq (rg [iA 14 (some 6) 10 12,
lD 15 (some 6) 14,
uO 4 (.alloc [.p (.int .i64 0),.p (.int .i64 0),.p (.int .i64 0),.p (.str []),.p (.str []),.p (.str [])]),
wO (.store (some 6) 4 15)] [0,4,10,11,12])
(.seq (.seq (rg [fA 16 0 none 4,
lD 17 none 16,
cL 18 TF [17,(cI 1),(cI 10)]] [0,4,10,11,12,18])
(.cond 18 (.seq (rg [mV 2 (cI 4)] [2])
.ret)
.skip))
(.seq (rg [lD 20 (some 6) 4,
cL 21 nQ [20],
mV 19 21,
eX 22 19 0,
eX 23 19 1,
uO 5 (.alloc [.p (.int .i64 0),.p (.int .i64 0),.p (.int .i64 0),.p (.str []),.p (.str []),.p (.str [])]),
wO (.store (some 6) 5 22),
mV 6 23] [0,4,5,6,10,11,12])
(.block 2 (.seq (rg [mV 25 6,
bN 26 .neq 25 (cI 0),
mV 24 26] [0,4,5,6,10,11,12,24])
(.cond 24 (.seq (rg [mV 27 6,
mV 2 27] [2])
.ret)
(.seq (rg [lD 29 (some 6) 5,
fA 30 0 none 4,
lD 31 none 30,
uO 32 (.build [.p (.int .i64 0),.p (.int .i64 0),.p (.int .i64 0),.p (.str []),.p (.str []),.p (.str [])] [(0,1,31)]),
uO 33 (.eqa [0,0,0,2,2,2] true 29 32),
mV 28 33] [0,10,11,12,28])
(.cond 28 (.seq (rg [mV 2 (cI 3)] [2])
.ret)
.skip)))))))))
(rg [bN 34 .add 12 (cI 1),
mV 12 34] [0,10,11,12]))))
def z1Z (C:Hd)(gl:GL)(e:En)(h:aA)(x:Esc)(K:KT):Sf C gl YM e h x K:=⟨_,by simp only[YM,↓wZ,AO.still];rfl⟩
theorem zjE {C gl e h x K}:NW C gl YM ⟨e,h,x⟩ K=(z1Z C gl e h x K).1:=(z1Z C gl e h x K).2
theorem zmr {C gl e h x K}:NW C gl (.loop (.scope YM)) ⟨e,h,x⟩ K=NA C gl (.scope YM) K [(0,eA e 0),(10,eA e 10),(11,eA e 11),(12,eA e 12)] h x:=fC
def tW:ACode:=.pr [0] (.seq (.seq (rg [mV 35 0,
cL 36 TG [35,(.c (.nilp))],
uO 37 (.nilchk 36),
fA 38 37 none 37,
lD 39 none 38,
bN 40 .gtr 39 (cI 20000)] [40])
(.cond 40 (.seq (rg [mV 2 (cI 2)] [2])
.ret)
.skip))
(.seq (rg [mV 2 (cI 0)] [2])
.ret))
def z2a (C:Hd)(gl:GL)(e:En)(h:aA)(x:Esc)(K:KT):Sf C gl tW e h x K:=⟨_,by simp only[tW,↓wZ,AO.still];rfl⟩
theorem zjF {C gl e h x K}:NW C gl tW ⟨e,h,x⟩ K=(z2a C gl e h x K).1:=(z2a C gl e h x K).2
def z4U:ACode:=(.seq (rg [mV 2 (cI 0)] [0])
(.seq (.seq (rg [mV 7 0,
lN 8 7,
bN 9 .gtr 8 (cI 1000)] [0,9])
(.cond 9 (.seq (rg [mV 2 (cI 2)] [2])
.ret)
.skip))
(.seq (.seq (rg [mV 10 0,
lN 11 10,
mV 12 (cI 0)] [0,10,11,12])
(.block 0 (.loop (.scope YM))))
tW)))
def WZ:AFun:=⟨1,[.t 2],z4U,false,false⟩
def OO (C:Hd)(gl:GL)(e:En)(h:aA)(x:Esc)(K:KT):Sf C gl z4U e h x K:=⟨_,by simp only[z4U,↓wZ,AO.still];rfl⟩
theorem zjD {C gl v0 h x K}:NW C gl WZ.body ⟨enter [v0],h,x⟩ K=(OO C gl [(0,v0)] h x K).1:=(OO C gl [(0,v0)] h x K).2
def LJ:ACode:=.pr [5,13,14,15] (.seq (rg [bN 16 .lss 15 14] [5,13,14,15,16])
(.seq (.cond 16 .skip
(.exit 0))
(.seq (.block 1 (.seq (rg [iA 17 (some 6) 13 15,
lD 18 (some 6) 17,
uO 7 (.alloc [.p (.int .i64 0),.p (.int .i64 0),.p (.int .i64 0),.p (.str []),.p (.str []),.p (.str [])]),
wO (.store (some 6) 7 18)] [5,7,13,14,15])
(.seq (.seq (rg [mV 19 5,
uO 20 (.nilchk 19),
fA 21 37 none 20,
lD 22 none 21,
bN 23 .gtr 22 (cI 20000)] [5,7,13,14,15,23])
(.cond 23 (.exit 0)
.skip))
(rg [mV 24 5,
lD 25 (some 6) 7,
cL 26 oQ [24,25]] [5,13,14,15]))))
(rg [bN 27 .add 15 (cI 1),
mV 15 27] [5,13,14,15]))))
def z2d (C:Hd)(gl:GL)(e:En)(h:aA)(x:Esc)(K:KT):Sf C gl LJ e h x K:=⟨_,by simp only[LJ,↓wZ,AO.still];rfl⟩
theorem zjQ {C gl e h x K}:NW C gl LJ ⟨e,h,x⟩ K=(z2d C gl e h x K).1:=(z2d C gl e h x K).2
theorem zmv {C gl e h x K}:NW C gl (.loop (.scope LJ)) ⟨e,h,x⟩ K=NA C gl (.scope LJ) K [(5,eA e 5),(13,eA e 13),(14,eA e 14),(15,eA e 15)] h x:=fC
def TQ:ACode:=.pr [5] (.seq (rg [mV 28 5,
mV 4 28] [4])
.ret)
def z2e (C:Hd)(gl:GL)(e:En)(h:aA)(x:Esc)(K:KT):Sf C gl TQ e h x K:=⟨_,by simp only[TQ,↓wZ,AO.still];rfl⟩
theorem zjR {C gl e h x K}:NW C gl TQ ⟨e,h,x⟩ K=(z2e C gl e h x K).1:=(z2e C gl e h x K).2
def z5c:ACode:=(.seq (rg [mV 4 (.c (.nilp))] [0,1])
(.seq (rg [cL 8 sQ [],
mV 9 1,
uO 10 (.isnil 0 true 9),
uO 11 (.build [.p (.int .i64 0),.p (.int .i64 0),.p (.int .i64 0),.p (.str []),.p (.str []),.p (.str []),.p (.int .i64 0),.p (.int .i64 0),.p (.int .i64 0),.p (.str []),.p (.str []),.p (.str []),.p (.int .i64 0),.p (.int .i64 0),.p (.int .i64 0),.p (.str []),.p (.str []),.p (.str []),.p (.int .i64 0),.p (.int .i64 0),.p (.int .i64 0),.p (.str []),.p (.str []),.p (.str []),.p (.int .i64 0),.p (.int .i64 0),.p (.int .i64 0),.p (.str []),.p (.str []),.p (.str []),.p (.int .i64 0),.p (.int .i64 0),.p (.int .i64 0),.p (.str []),.p (.str []),.p (.str []),.p (.int .i64 0),.p (.int .i64 0),.p (.int .i64 0),.p (.int .i64 0),.sl0 none,.sl0 none,.sl0 none,.sl0 none,.sl0 none,.p (.bool false)] [(0,36,8),(36,1,(cI 0)),(45,1,10)]),
uO 12 (.uns 12 0 [11]),
mV 5 12] [0,5])
(.seq (.seq (rg [mV 13 0,
lN 14 13,
mV 15 (cI 0)] [5,13,14,15])
(.block 0 (.loop (.scope LJ))))
TQ)))
def z0e:AFun:=⟨2,[.t 4],z5c,false,false⟩
def XO (C:Hd)(gl:GL)(e:En)(h:aA)(x:Esc)(K:KT):Sf C gl z5c e h x K:=⟨_,by simp only[z5c,↓wZ,AO.still];rfl⟩
theorem zjP {C gl v0 v1 h x K}:NW C gl z0e.body ⟨enter [v0,v1],h,x⟩ K=(XO C gl [(0,v0),(1,v1)] h x K).1:=(XO C gl [(0,v0),(1,v1)] h x K).2
def z45:ACode:=(.seq (rg [mV 4 (cI 0),
mV 5 (.c (.nili))] [0,1])
(.seq (rg [mV 6 0,
cL 7 UP [6]] [0,1])
(.seq (rg [mV 8 0,
mV 9 0,
uO 10 (.nilchk 9),
fA 11 1 none 10,
lD 12 none 11,
mV 13 1,
uO 14 (.uns 3 5 [12,13]),
uO 15 (.nilchk 8),
fA 16 1 none 15,
wO (.store none 16 14)] [1])
(.seq (rg [mV 17 1,
uO 18 (.lens 17),
mV 4 18,
mV 5 (.c (.nili))] [4,5])
.ret))))
def yZ:AFun:=⟨2,[.t 4,.t 5],z45,false,false⟩
def gT (C:Hd)(gl:GL)(e:En)(h:aA)(x:Esc)(K:KT):Sf C gl z45 e h x K:=⟨_,by simp only[z45,↓wZ,AO.still];rfl⟩
theorem zjf {C gl v0 v1 h x K}:NW C gl yZ.body ⟨enter [v0,v1],h,x⟩ K=(gT C gl [(0,v0),(1,v1)] h x K).1:=(gT C gl [(0,v0),(1,v1)] h x K).2
def z44:ACode:=(.seq (rg [mV 2 (cS [])] [0])
(.seq (dr [dF (mV 3 0) [0],
dF (uO 4 (.nilchk 3)) [3],
dF (fA 5 1 none 4) [4],
dF (lD 6 none 5) [5],
dF (uO 7 (.uns 5 5 [6])) [6],
dF (mV 8 0) [0],
dF (uO 9 (.nilchk 8)) [8],
dF (fA 10 1 none 9) [9],
dF (lD 11 none 10) [10],
dF (uO 12 (.uns 4 0 [11])) [11],
dT (uO 13 (.uns 6 5 [7,12])) [7,12],
dF (mV 2 13) [13]] [2])
.ret))
def xZ:AFun:=⟨1,[.t 2],z44,false,false⟩
def GO (C:Hd)(gl:GL)(e:En)(h:aA)(x:Esc)(K:KT):Sf C gl z44 e h x K:=⟨_,by simp only[z44,↓wZ,AO.still];rfl⟩
theorem zje {C gl v0 h x K}:NW C gl xZ.body ⟨enter [v0],h,x⟩ K=(GO C gl [(0,v0)] h x K).1:=(GO C gl [(0,v0)] h x K).2
def z4a:ACode:=(.seq (rg [mV 2 cF] [0])
(.seq (rg [mV 3 0,
cL 4 NP [3,(cS [48,49])],
mV 2 4] [2])
.ret))
def TY:AFun:=⟨1,[.t 2],z4a,false,false⟩
def CS (C:Hd)(gl:GL)(e:En)(h:aA)(x:Esc)(K:KT):Sf C gl z4a e h x K:=⟨_,by simp only[z4a,↓wZ,AO.still];rfl⟩
theorem zic {C gl v0 h x K}:NW C gl TY.body ⟨enter [v0],h,x⟩ K=(CS C gl [(0,v0)] h x K).1:=(CS C gl [(0,v0)] h x K).2
def z5k:ACode:=(.seq (rg [mV 2 (.c (.nilp))] [0])
(.seq (rg [uO 3 (.alloc [.p (.bool false)]),
wO (.store none 3 cT)] [0,3])
(.seq (rg [mV 4 0,
cL 5 TG [4,3],
mV 2 5] [2])
.ret)))
def z0n:AFun:=⟨1,[.t 2],z5k,false,false⟩
def LT (C:Hd)(gl:GL)(e:En)(h:aA)(x:Esc)(K:KT):Sf C gl z5k e h x K:=⟨_,by simp only[z5k,↓wZ,AO.still];rfl⟩
theorem zkl {C gl v0 h x K}:NW C gl z0n.body ⟨enter [v0],h,x⟩ K=(LT C gl [(0,v0)] h x K).1:=(LT C gl [(0,v0)] h x K).2
def VU:ACode:=.pr [0] (.seq (rg [mV 15 0,
mV 4 15] [4])
.ret)
def z1e (C:Hd)(gl:GL)(e:En)(h:aA)(x:Esc)(K:KT):Sf C gl VU e h x K:=⟨_,by simp only[VU,↓wZ,AO.still];rfl⟩
theorem zhm {C gl e h x K}:NW C gl VU ⟨e,h,x⟩ K=(z1e C gl e h x K).1:=(z1e C gl e h x K).2
def z35:ACode:=(.seq (rg [mV 4 (cI 0)] [0,1])
(.seq (.seq (rg [mV 5 1,
bN 6 .lss 5 (cI 1)] [0,1,6])
(.cond 6 (.seq (rg [mV 4 (cI 0)] [4])
.ret)
.skip))
(.seq (rg [mV 7 0,
mV 8 1,
bN 9 .rem 7 8,
mV 0 9] [0,1])
(.seq (.seq (rg [mV 10 0,
bN 11 .lss 10 (cI 0)] [0,1,11])
(.cond 11 (rg [mV 12 0,
mV 13 1,
bN 14 .add 12 13,
mV 0 14] [0])
.skip))
VU))))
def pY:AFun:=⟨2,[.t 4],z35,false,false⟩
def fS (C:Hd)(gl:GL)(e:En)(h:aA)(x:Esc)(K:KT):Sf C gl z35 e h x K:=⟨_,by simp only[z35,↓wZ,AO.still];rfl⟩
theorem zhl {C gl v0 v1 h x K}:NW C gl pY.body ⟨enter [v0,v1],h,x⟩ K=(fS C gl [(0,v0),(1,v1)] h x K).1:=(fS C gl [(0,v0),(1,v1)] h x K).2
def JM:ACode:=.pr [0,1,7,8] (.seq (rg [bN 9 .lss 8 7] [0,1,7,8,9])
(.seq (.cond 9 .skip
(.exit 0))
(.seq (.block 1 (.seq (rg [mV 10 8,
mV 5 10] [0,1,5,7,8])
(.seq (rg [mV 11 1,
mV 12 0,
mV 13 5,
iA 14 (some 5) 12 13,
lD 15 (some 5) 14,
uO 16 (.callv 11 [15])] [0,1,5,7,8,16])
(.cond 16 (.seq (rg [mV 17 5,
mV 4 17] [4])
.ret)
.skip))))
(rg [bN 18 .add 8 (cI 1),
mV 8 18] [0,1,7,8]))))
def z1I (C:Hd)(gl:GL)(e:En)(h:aA)(x:Esc)(K:KT):Sf C gl JM e h x K:=⟨_,by simp only[JM,↓wZ,AO.still];rfl⟩
theorem ziT {C gl e h x K}:NW C gl JM ⟨e,h,x⟩ K=(z1I C gl e h x K).1:=(z1I C gl e h x K).2
theorem zmc {C gl e h x K}:NW C gl (.loop JM) ⟨e,h,x⟩ K=NA C gl JM K [(0,eA e 0),(1,eA e 1),(7,eA e 7),(8,eA e 8)] h x:=MB
def XV:ACode:=.pr [] (.seq (rg [mV 4 (cI (-1))] [4])
.ret)
def z1J (C:Hd)(gl:GL)(e:En)(h:aA)(x:Esc)(K:KT):Sf C gl XV e h x K:=⟨_,by simp only[XV,↓wZ,AO.still];rfl⟩
theorem ziU {C gl e h x K}:NW C gl XV ⟨e,h,x⟩ K=(z1J C gl e h x K).1:=(z1J C gl e h x K).2
def z40:ACode:=(.seq (rg [mV 4 (cI 0)] [0,1])
(.seq (.seq (rg [mV 6 0,
lN 7 6,
mV 8 (cI 0)] [0,1,7,8])
(.block 0 (.loop JM)))
XV))
def sZ:AFun:=⟨2,[.t 4],z40,true,false⟩
def ZS (C:Hd)(gl:GL)(e:En)(h:aA)(x:Esc)(K:KT):Sf C gl z40 e h x K:=⟨_,by simp only[z40,↓wZ,AO.still];rfl⟩
theorem ziS {C gl v0 v1 h x K}:NW C gl sZ.body ⟨enter [v0,v1],h,x⟩ K=(ZS C gl [(0,v0),(1,v1)] h x K).1:=(ZS C gl [(0,v0),(1,v1)] h x K).2
def z5a:ACode:=(.seq (rg [mV 2 cF] [0])
(.seq (rg [mV 3 0,
cL 4 TF [3,(cI 1),(cI 6)],
uO 5 (.un .not 4),
mV 2 5] [2])
.ret))
def z0c:AFun:=⟨1,[.t 2],z5a,false,false⟩
def WK (C:Hd)(gl:GL)(e:En)(h:aA)(x:Esc)(K:KT):Sf C gl z5a e h x K:=⟨_,by simp only[z5a,↓wZ,AO.still];rfl⟩
theorem zjM {C gl v0 h x K}:NW C gl z0c.body ⟨enter [v0],h,x⟩ K=(WK C gl [(0,v0)] h x K).1:=(WK C gl [(0,v0)] h x K).2
def z5j:ACode:=(.seq (rg [mV 4 (.c (.nilp))] [0,1])
(.seq (.seq (rg [mV 5 1] [0,5])
(.block 0 (.seq (rg [bN 7 .eql 5 (cI 1),
mV 6 7] [0,5,6])
(.cond 6 (.seq (rg [mV 8 0,
uO 9 (.nilchk 8),
fA 10 0 (some 6) 9,
mV 4 10] [4])
.ret)
(.seq (rg [bN 12 .eql 5 (cI 2),
mV 11 12] [0,5,11])
(.cond 11 (.seq (rg [mV 13 0,
uO 14 (.nilchk 13),
fA 15 6 (some 6) 14,
mV 4 15] [4])
.ret)
(.seq (rg [bN 17 .eql 5 (cI 3),
mV 16 17] [0,5,16])
(.cond 16 (.seq (rg [mV 18 0,
uO 19 (.nilchk 18),
fA 20 12 (some 6) 19,
mV 4 20] [4])
.ret)
(.seq (rg [bN 22 .eql 5 (cI 4),
mV 21 22] [0,5,21])
(.cond 21 (.seq (rg [mV 23 0,
uO 24 (.nilchk 23),
fA 25 18 (some 6) 24,
mV 4 25] [4])
.ret)
(.seq (rg [bN 27 .eql 5 (cI 5),
mV 26 27] [0,26])
(.cond 26 (.seq (rg [mV 28 0,
uO 29 (.nilchk 28),
fA 30 24 (some 6) 29,
mV 4 30] [4])
.ret)
.skip))))))))))))
(.seq (rg [mV 31 0,
uO 32 (.nilchk 31),
fA 33 30 (some 6) 32,
mV 4 33] [4])
.ret)))
def z0m:AFun:=⟨2,[.t 4],z5j,false,false⟩
def MG (C:Hd)(gl:GL)(e:En)(h:aA)(x:Esc)(K:KT):Sf C gl z5j e h x K:=⟨_,by simp only[z5j,↓wZ,AO.still];rfl⟩
theorem zkk {C gl v0 v1 h x K}:NW C gl z0m.body ⟨enter [v0,v1],h,x⟩ K=(MG C gl [(0,v0),(1,v1)] h x K).1:=(MG C gl [(0,v0),(1,v1)] h x K).2
def MJ:ACode:=.pr [0,4,35,36] (.seq (rg [bN 37 .lss 36 35] [0,4,35,36,37])
(.seq (.cond 37 .skip
(.exit 1))
(.seq (.block 2 (rg [mV 38 0,
cL 39 TH [38,(.c (.p (.int .u8 48))),(.c (.p (.int .u8 48))),(.c (.p (.int .u8 120)))]] [0,4,35,36]))
(rg [bN 40 .add 36 (cI 1),
mV 36 40] [0,4,35,36]))))
def z8q (C:Hd)(gl:GL)(v0 v4 v35 v36:AV)(h:aA)(x:Esc)(K:KT):Prop:=
 pK (DA .lss v36 v35) fun t1=>
 jB t1 (C TH [v0,(.p (.int .u8 48)),(.p (.int .u8 48)),(.p (.int .u8 120))] h fun t2 h3 y4=>
 pK (DA .add v36 (AI 1)) fun t5=>
 K .normal ⟨[(0,v0),(4,v4),(35,v35),(36,t5)],h3,(y4++x)⟩)
 (K (.exit 1) ⟨[(0,v0),(4,v4),(35,v35),(36,v36),(37,t1)],h,x⟩)
theorem zke {C gl e h x K}:NW C gl MJ ⟨e,h,x⟩ K=z8q C gl (eA e 0) (eA e 4) (eA e 35) (eA e 36) h x K:=by kernel_rfl
theorem zmy {C gl e h x K}:NW C gl (.loop MJ) ⟨e,h,x⟩ K=NA C gl MJ K [(0,eA e 0),(4,eA e 4),(35,eA e 35),(36,eA e 36)] h x:=MB
def UQ:ACode:=.pr [0,4] (.seq (dr [dF (mV 41 0) [0],
dF (mV 42 0) [0],
dF (uO 43 (.nilchk 42)) [42],
dF (fA 44 40 none 43) [43],
dF (lD 45 none 44) [44],
dF (mV 46 0) [0],
dF (uO 47 (.nilchk 46)) [46],
dF (fA 48 36 none 47) [47],
dF (lD 49 none 48) [48],
dF (uO 50 (.bsl false none 1 (.int .i64 0) [(0,49)])) [49],
dT (uO 51 (.app none 45 50)) [45,50],
dF (uO 52 (.nilchk 41)) [41],
dF (fA 53 40 none 52) [52],
dT (wO (.store none 53 51)) [53,51]] [0,4])
(rg [mV 54 0,
mV 55 0,
uO 56 (.nilchk 55),
fA 57 41 none 56,
lD 58 none 57,
mV 59 4,
uO 60 (.bsl false none 1 (.int .i64 0) [(0,59)]),
uO 61 (.app none 58 60),
uO 62 (.nilchk 54),
fA 63 41 none 62,
wO (.store none 63 61)] []))
def cP (C:Hd)(gl:GL)(v0 v4:AV)(h:aA)(x:Esc)(K:KT):Prop:=
 pK (fF v0) fun t1=>
 pK (IA 40 none t1) fun t2=>
 pK (FA none t2 h) fun t3=>
 pK (fF v0) fun t4=>
 pK (IA 36 none t4) fun t5=>
 pK (FA none t5 h) fun t6=>
 wK (XC false none 1 (.int .i64 0) [(0,t6)] h) fun t7 h8 y9=>
 (h8=h∧y9=[])∧(wK (RL none t3 t7 h8) fun t10 h11 y12=>
 pK (fF v0) fun t13=>
 pK (IA 40 none t13) fun t14=>
 wK (tB none t14 t10 h11) fun t15 h16 y17=>
 pK (fF v0) fun t18=>
 pK (IA 41 none t18) fun t19=>
 pK (FA none t19 h16) fun t20=>
 wK (XC false none 1 (.int .i64 0) [(0,v4)] h16) fun t21 h22 y23=>
 wK (RL none t20 t21 h22) fun t24 h25 y26=>
 pK (fF v0) fun t27=>
 pK (IA 41 none t27) fun t28=>
 wK (tB none t28 t24 h25) fun t29 h30 y31=>
 K .normal ⟨[],h30,(y31++(y26++(y23++(y17++(y12++(y9++x))))))⟩)
theorem zkf {C gl e h x K}:NW C gl UQ ⟨e,h,x⟩ K=cP C gl (eA e 0) (eA e 4) h x K:=by kernel_rfl
def z6R (q1 q2:ACode):ACode:=(.seq (rg [uO 3 (.box 1)] [0,3])
(.seq (rg [mV 4 (cI 0)] [0,3,4])
(.seq (.block 0 (.seq (rg [fA 10 0 none 3,
lD 11 none 10,
cL 12 HL [11],
mV 9 12] [0,3,4,9])
(.cond 9 (dr [dF (mV 13 0) [0],
dF (uO 14 (.nilchk 13)) [13],
dF (fA 15 0 (some 36) 14) [14],
dF (fA 16 0 none 3) [3],
dF (lD 17 none 16) [16],
dT (cL 18 IL [15,17]) [15,17],
dA (lD 19 (some 6) 3) [3] false [5] [],
dF (uO 20 (.nilchk 18)) [18],
dT (wO (.store (some 6) 20 19)) [20,19]] [0,4])
(.seq (rg [fA 22 0 none 3,
lD 23 none 22,
cL 24 SG [23],
mV 21 24] [0,3,4,21])
(.cond 21 (rg [mV 25 0,
lD 26 (some 6) 3,
cL 27 UH [25,26],
mV 4 27] [0,4])
(.seq (rg [fA 29 0 none 3,
lD 30 none 29,
bN 31 .eql 30 (cI 9),
mV 28 31] [0,3,4,28])
(.cond 28 (.seq (rg [mV 32 0,
cL 33 vG [32,(cI 1)]] [0,3,4])
(.seq (rg [fA 34 2 none 3,
lD 35 none 34,
mV 36 (cI 0)] [0,4,35,36])
(.block 1 (.loop q1))))
(rg [mV 5 0,
fA 6 1 none 3,
lD 7 none 6,
cL 8 vG [5,7]] [0,4]))))))))
q2)))
def z0j:AFun:=⟨2,[],z6R MJ UQ,false,false⟩
def XE (C:Hd)(gl:GL)(q1 q2:ACode)(v0 v1:AV)(h:aA)(x:Esc)(K:KT):Prop:=
 wK (CJ v1 h) fun t1 h2 y3=>
 pK (IA 0 none t1) fun t4=>
 pK (FA none t4 h2) fun t5=>
 C HL [t5] h2 fun t6 h7 y8=>
 jB t6 (pK (fF v0) fun t9=>
 pK (IA 0 (some 36) t9) fun t10=>
 pK (IA 0 none t1) fun t11=>
 pK (FA none t11 h7) fun t12=>
 lC C IL [t10,t12] h7 fun t13 h14 y15=>
 pK (FA (some 6) t1 h14) fun t16=>
 (pK (FA (some 6) t1 h7) fun v=>(fun u (g1:aA) (y1:Esc)=>u=t16∧g1=h7∧y1=[]) v h7 [])∧(pK (fF t13) fun t17=>
 wK (tB (some 6) t17 t16 h14) fun t18 h19 y20=>
 NW C gl q2 ⟨[(0,v0),(4,(AI 0))],h19,(y20++(y15++(y8++(y3++x))))⟩ K))
 (pK (IA 0 none t1) fun t21=>
 pK (FA none t21 h7) fun t22=>
 C SG [t22] h7 fun t23 h24 y25=>
 jB t23 (pK (FA (some 6) t1 h24) fun t26=>
 C UH [v0,t26] h24 fun t27 h28 y29=>
 NW C gl q2 ⟨[(0,v0),(4,t27)],h28,(y29++(y25++(y8++(y3++x))))⟩ K)
 (pK (IA 0 none t1) fun t30=>
 pK (FA none t30 h24) fun t31=>
 pK (DA .eql t31 (AI 9)) fun t32=>
 jB t32 (C vG [v0,(AI 1)] h24 fun t33 h34 y35=>
 pK (IA 2 none t1) fun t36=>
 pK (FA none t36 h34) fun t37=>
 NW C gl (.loop q1) ⟨[(0,v0),(4,(AI 0)),(35,t37),(36,(AI 0))],h34,(y35++(y25++(y8++(y3++x))))⟩ (tC 1 (tC 0 (yD C gl q2 K))))
 (pK (IA 1 none t1) fun t38=>
 pK (FA none t38 h24) fun t39=>
 C vG [v0,t39] h24 fun t40 h41 y42=>
 NW C gl q2 ⟨[(0,v0),(4,(AI 0))],h41,(y42++(y25++(y8++(y3++x))))⟩ K)))
theorem zcY {C gl q1 q2 v0 v1 h x K}:NW C gl (z6R q1 q2) ⟨enter [v0,v1],h,x⟩ K=XE C gl q1 q2 v0 v1 h x K:=by kernel_rfl
theorem zkd {C gl v0 v1 h x K}:NW C gl z0j.body ⟨enter [v0,v1],h,x⟩ K=XE C gl MJ UQ v0 v1 h x K:=zcY
end Go.Am
end
