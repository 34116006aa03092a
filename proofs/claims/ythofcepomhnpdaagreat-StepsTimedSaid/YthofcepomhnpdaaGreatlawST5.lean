import Derived.KernelRfl
import Derived.Test.YthofcepomhnpdaaGreatlawST4
set_option linter.all false
set_option maxRecDepth 100000
set_option maxHeartbeats 0
namespace Go.Am
section
variable (C:Hd)(gl:GL)(e:En)(h:aA)(x:Esc)(K:KT)
def sO:ACode:=.pr [1,2,5,12] (.seq (rg [uO 13 (.mnext none [12]),
eX 14 13 0] [1,2,5,12,14])
(.seq (.cond 14 .skip
(.exit 0))
(.block 1 (.seq (rg [uO 15 (.mentry 12),
eX 16 15 0,
eX 17 15 1,
mV 6 16,
mV 7 17] [1,2,5,6,7,12])
(.seq (rg [mV 18 7,
uO 19 (.nilchk 18),
fA 20 0 none 19,
lD 21 none 20,
bN 22 .eql 21 (cI 1),
mV 23 22,
gD 24 23 true (.mv 7),
gD 25 23 true (.nilchk 24),
gD 26 23 true (.faddr 2 none 25),
gD 27 23 true (.load none 26),
gD 28 23 true (.mv 1),
gD 29 23 true (.bin .eql 27 28),
uO 30 (.pick 23 29 cF)] [1,2,5,6,12,30])
(.cond 30 (rg [mV 31 5,
mV 32 6,
uO 33 (.bsl false none 1 (.str []) [(0,32)]),
uO 34 (.app none 31 33),
mV 5 34] [1,2,5,12])
.skip))))))
def z4s:Sf C gl sO e h x K:=⟨_,by simp only[sO,↓wZ,AO.still];rfl⟩
theorem zn3:NW C gl sO ⟨e,h,x⟩ K=(z4s C gl e h x K).1:=(z4s ..).2
theorem zq8 {C gl e h x K}:NW C gl (.loop (.scope sO)) ⟨e,h,x⟩ K=yA C gl (.scope sO) K [(1,bA e 1),(2,bA e 2),(5,bA e 5),(12,bA e 12)] h x:=wC
def yY:ACode:=.pr [2,5] (.seq (rg [mV 35 5,
uO 36 (.mkfn zM [2]),
cL 37 yQ [35,36]] [5])
(.seq (rg [mV 38 5,
mV 4 38] [4])
.ret))
def z4t:Sf C gl yY e h x K:=⟨_,by simp only[yY,↓wZ,AO.still];rfl⟩
theorem zn4:NW C gl yY ⟨e,h,x⟩ K=(z4t C gl e h x K).1:=(z4t ..).2
def z75:ACode:=(.det (.seq (rg [uO 2 (.box 0),
mV 4 (.c (.p (.sl none [])))] [1,2])
(.seq (rg [uO 5 (.new0 none)] [1,2,5])
(.seq (.seq (rg [lD 8 none 2,
uO 9 (.nilchk 8),
fA 10 2 none 9,
lD 11 none 10,
uO 12 (.mrange 11)] [1,2,5,12])
(.block 0 (.loop (.scope sO))))
yY))))
def z1i:AFun:=⟨2,[.t 4],z75,false,false⟩
def pV:Sf C gl z75 e h x K:=⟨_,by simp only[z75,↓wZ,AO.still];rfl⟩
theorem zn2 {C gl v0 v1 h x K}:NW C gl z1i.body ⟨enter [v0,v1],h,x⟩ K=(pV C gl [(0,v0),(1,v1)] h x K).1:=(pV C gl [(0,v0),(1,v1)] h x K).2
def qN:ACode:=.pr [1,16,17,18] (.seq (rg [bN 19 .lss 18 17] [1,16,17,18,19])
(.seq (.cond 19 .skip
(.exit 1))
(.seq (.block 2 (.seq (rg [mV 20 18,
iA 21 none 16 18,
lD 22 none 21,
mV 3 20,
mV 4 22] [1,3,4,16,17,18])
(.seq (.seq (rg [mV 23 4,
cL 24 bF [23],
uO 25 (.un .not 24)] [1,3,4,16,17,18,25])
(.cond 25 (.seq (rg [mV 2 (cI 5)] [2])
.ret)
.skip))
(.seq (rg [fA 26 0 none 1,
lD 27 none 26,
mV 28 3,
uO 29 (.slice none 27 none (some 28) none),
mV 30 4,
cL 31 WH [29,30]] [1,16,17,18,31])
(.cond 31 (.seq (rg [mV 2 (cI 6)] [2])
.ret)
.skip)))))
(rg [bN 32 .add 18 (cI 1),
mV 18 32] [1,16,17,18]))))
def z2g:Sf C gl qN e h x K:=⟨_,by simp only[qN,↓wZ,AO.still];rfl⟩
theorem zkq:NW C gl qN ⟨e,h,x⟩ K=(z2g C gl e h x K).1:=(z2g ..).2
theorem zpF {C gl e h x K}:NW C gl (.loop qN) ⟨e,h,x⟩ K=yA C gl qN K [(1,bA e 1),(16,bA e 16),(17,bA e 17),(18,bA e 18)] h x:=mB
def ZW:ACode:=.pr [1] (.seq (.seq (rg [fA 33 1 none 1,
lD 34 none 33,
cL 35 yE [34,(cI 1),(cI 10)],
uO 36 (.un .not 35)] [36])
(.cond 36 (.seq (rg [mV 2 (cI 1)] [2])
.ret)
.skip))
(.seq (rg [mV 2 (cI 0)] [2])
.ret))
def KP:Sf C gl ZW e h x K:=⟨_,by simp only[ZW,↓wZ,AO.still];rfl⟩
theorem z49:NW C gl ZW ⟨e,h,x⟩ K=(KP C gl e h x K).1:=(KP ..).2
def z6s:ACode:=(.seq (rg [uO 1 (.box 0),
mV 2 (cI 0)] [1])
(.seq (.block 0 (.seq (rg [fA 6 0 none 1,
lD 7 none 6,
lN 8 7,
bN 9 .eql 8 (cI 0),
mV 5 9] [1,5])
(.cond 5 (.seq (rg [mV 2 (cI 8)] [2])
.ret)
(.seq (rg [fA 11 0 none 1,
lD 12 none 11,
lN 13 12,
bN 14 .gtr 13 (cI 20),
mV 10 14] [1,10])
(.cond 10 (.seq (rg [mV 2 (cI 2)] [2])
.ret)
.skip)))))
(.seq (.seq (rg [fA 15 0 none 1,
lD 16 none 15,
lN 17 16,
mV 18 (cI 0)] [1,16,17,18])
(.block 1 (.loop qN)))
ZW)))
def z0r:AFun:=⟨1,[.t 2],z6s,false,false⟩
def BL:Sf C gl z6s e h x K:=⟨_,by simp only[z6s,↓wZ,AO.still];rfl⟩
theorem zkp {C gl v0 h x K}:NW C gl z0r.body ⟨enter [v0],h,x⟩ K=(BL C gl [(0,v0)] h x K).1:=(BL C gl [(0,v0)] h x K).2
def oN:ACode:=.pr [0,11,12,13] (.seq (rg [bN 14 .lss 13 12] [0,11,12,13,14])
(.seq (.cond 14 .skip
(.exit 0))
(.seq (.block 1 (.seq (rg [mV 15 13,
iA 16 (some 8) 11 13,
lD 17 (some 8) 16,
uO 4 (.alloc [.p (.str []),.p (.int .i64 0),.p (.int .i64 0),.p (.int .i64 0),.p (.str []),.p (.str []),.p (.str []),.p (.int .i64 0)]),
mV 3 15,
wO (.store (some 8) 4 17)] [0,3,4,11,12,13])
(.seq (.seq (rg [lD 18 (some 8) 4,
cL 19 jQ [18],
mV 5 19] [0,3,4,5,11,12,13])
(.seq (rg [mV 20 5,
bN 21 .neq 20 (cI 0)] [0,3,4,5,11,12,13,21])
(.cond 21 (.seq (rg [mV 22 5,
mV 2 22] [2])
.ret)
.skip)))
(.seq (dr [dF (mV 23 3) [3],
dF (bN 24 .gtr 23 (cI 0)) [23],
dF (mV 25 24) [24],
dF (gD 26 25 true (.mv 0)) [0,25],
dF (gD 27 25 true (.mv 3)) [3,25],
dF (gD 28 25 true (.bin .sub 27 (cI 1))) [27,25],
dF (gD 29 25 true (.iaddr (some 8) 26 28)) [26,28,25],
dF (gD 30 25 true (.load (some 8) 29)) [29,25],
dF (gD 31 25 true (.load (some 8) 4)) [4,25],
dT (gD 32 25 true (.call VH [30,31])) [30,31,25],
dF (gD 33 25 true (.bin .geq 32 (cI 0))) [32,25],
dF (uO 34 (.pick 25 33 cF)) [25,33]] [0,11,12,13,34])
(.cond 34 (.seq (rg [mV 2 (cI 7)] [2])
.ret)
.skip)))))
(rg [bN 35 .add 13 (cI 1),
mV 13 35] [0,11,12,13]))))
def z2d:Sf C gl oN e h x K:=⟨_,by simp only[oN,↓wZ,AO.still];rfl⟩
theorem zki:NW C gl oN ⟨e,h,x⟩ K=(z2d C gl e h x K).1:=(z2d ..).2
theorem zpD {C gl e h x K}:NW C gl (.loop (.scope oN)) ⟨e,h,x⟩ K=yA C gl (.scope oN) K [(0,bA e 0),(11,bA e 11),(12,bA e 12),(13,bA e 13)] h x:=wC
def pN:ACode:=.pr [0,36,37,38] (.seq (rg [bN 39 .lss 38 37] [0,36,37,38,39])
(.seq (.cond 39 .skip
(.exit 2))
(.seq (.block 3 (.seq (rg [mV 40 38,
iA 41 (some 8) 36 38,
lD 42 (some 8) 41,
uO 7 (.alloc [.p (.str []),.p (.int .i64 0),.p (.int .i64 0),.p (.int .i64 0),.p (.str []),.p (.str []),.p (.str []),.p (.int .i64 0)]),
mV 6 40,
wO (.store (some 8) 7 42)] [0,6,7,36,37,38])
(.seq (rg [mV 43 0,
mV 44 6,
uO 45 (.slice (some 8) 43 none (some 44) none),
uO 46 (.mkfn dM [7]),
cL 47 uQ [45,46]] [0,36,37,38,47])
(.cond 47 (.seq (rg [mV 2 (cI 6)] [2])
.ret)
.skip))))
(rg [bN 48 .add 38 (cI 1),
mV 38 48] [0,36,37,38]))))
def z2e:Sf C gl pN e h x K:=⟨_,by simp only[pN,↓wZ,AO.still];rfl⟩
theorem zkj:NW C gl pN ⟨e,h,x⟩ K=(z2e C gl e h x K).1:=(z2e ..).2
theorem zpE {C gl e h x K}:NW C gl (.loop (.scope pN)) ⟨e,h,x⟩ K=yA C gl (.scope pN) K [(0,bA e 0),(36,bA e 36),(37,bA e 37),(38,bA e 38)] h x:=wC
def WW:ACode:=.pr [] (.seq (rg [mV 2 (cI 0)] [2])
.ret)
def z2f:Sf C gl WW e h x K:=⟨_,by simp only[WW,↓wZ,AO.still];rfl⟩
theorem zkk:NW C gl WW ⟨e,h,x⟩ K=(z2f C gl e h x K).1:=(z2f ..).2
def XW:ACode:=.pr [0] (.seq (.seq (rg [mV 36 0,
lN 37 36,
mV 38 (cI 0)] [0,36,37,38])
(.block 2 (.loop (.scope pN))))
WW)
def qU:Sf C gl XW e h x K:=⟨_,by simp only[XW,↓wZ,AO.still];rfl⟩
theorem z48:NW C gl XW ⟨e,h,x⟩ K=(qU C gl e h x K).1:=(qU ..).2
def z6p:ACode:=(.seq (rg [mV 2 (cI 0)] [0])
(.seq (.seq (rg [mV 8 0,
lN 9 8,
bN 10 .gtr 9 (cI 2000)] [0,10])
(.cond 10 (.seq (rg [mV 2 (cI 2)] [2])
.ret)
.skip))
(.seq (.seq (rg [mV 11 0,
lN 12 11,
mV 13 (cI 0)] [0,11,12,13])
(.block 0 (.loop (.scope oN))))
XW)))
def z0n:AFun:=⟨1,[.t 2],z6p,false,false⟩
def JP:Sf C gl z6p e h x K:=⟨_,by simp only[z6p,↓wZ,AO.still];rfl⟩
theorem zkh {C gl v0 h x K}:NW C gl z0n.body ⟨enter [v0],h,x⟩ K=(JP C gl [(0,v0)] h x K).1:=(JP C gl [(0,v0)] h x K).2
def z6v:ACode:=(.seq (rg [mV 2 cF] [0])
(.seq (rg [mV 3 0,
cL 4 yE [3,(cI 0),(cI 345686399999)],
mV 2 4] [2])
.ret))
def z0u:AFun:=⟨1,[.t 2],z6v,false,false⟩
def tU:Sf C gl z6v e h x K:=⟨_,by simp only[z6v,↓wZ,AO.still];rfl⟩
theorem zkt {C gl v0 h x K}:NW C gl z0u.body ⟨enter [v0],h,x⟩ K=(tU C gl [(0,v0)] h x K).1:=(tU C gl [(0,v0)] h x K).2
def z6d:ACode:=(.seq (rg [mV 4 (cI 0)] [0,1])
(.seq (.seq (rg [mV 5 0] [1,5])
(.cond 5 (.seq (rg [mV 6 1,
mV 4 6] [4])
.ret)
.skip))
(.seq (rg [mV 4 (cI 0)] [4])
.ret)))
def z0a:AFun:=⟨2,[.t 4],z6d,false,false⟩
def eU:Sf C gl z6d e h x K:=⟨_,by simp only[z6d,↓wZ,AO.still];rfl⟩
theorem zjG {C gl v0 v1 h x K}:NW C gl z0a.body ⟨enter [v0,v1],h,x⟩ K=(eU C gl [(0,v0),(1,v1)] h x K).1:=(eU C gl [(0,v0),(1,v1)] h x K).2
def z6V:ACode:=(.seq (rg [mV 4 cF] [0,1])
(.seq (rg [mV 5 0,
mV 6 1,
cL 7 WI [5,6],
bN 8 .geq 7 (cI 0),
mV 4 8] [4])
.ret))
def OS:AFun:=⟨2,[.t 4],z6V,true,false⟩
def PU:Sf C gl z6V e h x K:=⟨_,by simp only[z6V,↓wZ,AO.still];rfl⟩
theorem zlF {C gl v0 v1 h x K}:NW C gl OS.body ⟨enter [v0,v1],h,x⟩ K=(PU C gl [(0,v0),(1,v1)] h x K).1:=(PU C gl [(0,v0),(1,v1)] h x K).2
def z6t:ACode:=(.seq (rg [mV 2 cF] [0])
(.seq (rg [mV 3 0,
uO 4 (.lens 3),
cL 5 yE [4,(cI 1),(cI 40)],
mV 6 5,
gD 7 6 true (.mv 0),
gD 8 6 true (.slstr 7 none (some (cI 1))),
gD 9 6 true (.call mM [8,(cS [97,98,99,100,101,102,103,104,105,106,107,108,109,110,111,112,113,114,115,116,117,118,119,120,121,122])]),
uO 10 (.pick 6 9 cF),
mV 11 10,
gD 12 11 true (.mv 0),
gD 13 11 true (.call mM [12,(cS [97,98,99,100,101,102,103,104,105,106,107,108,109,110,111,112,113,114,115,116,117,118,119,120,121,122,48,49,50,51,52,53,54,55,56,57,45,95])]),
uO 14 (.pick 11 13 cF),
mV 2 14] [2])
.ret))
def z0s:AFun:=⟨1,[.t 2],z6t,false,false⟩
def QJ:Sf C gl z6t e h x K:=⟨_,by simp only[z6t,↓wZ,AO.still];rfl⟩
theorem zkr {C gl v0 h x K}:NW C gl z0s.body ⟨enter [v0],h,x⟩ K=(QJ C gl [(0,v0)] h x K).1:=(QJ C gl [(0,v0)] h x K).2
def z6G:ACode:=(.seq (rg [mV 6 cF] [0,1,2])
(.seq (rg [mV 7 1,
mV 8 0,
bN 9 .leq 7 8,
mV 10 9,
gD 11 10 true (.mv 0),
gD 12 10 true (.mv 2),
gD 13 10 true (.bin .leq 11 12),
uO 14 (.pick 10 13 cF),
mV 6 14] [6])
.ret))
def z0D:AFun:=⟨3,[.t 6],z6G,false,false⟩
def IU:Sf C gl z6G e h x K:=⟨_,by simp only[z6G,↓wZ,AO.still];rfl⟩
theorem zlc {C gl v0 v1 v2 h x K}:NW C gl z0D.body ⟨enter [v0,v1,v2],h,x⟩ K=(IU C gl [(0,v0),(1,v1),(2,v2)] h x K).1:=(IU C gl [(0,v0),(1,v1),(2,v2)] h x K).2
def UW:ACode:=.pr [0,1,5,8,9] (rg [bN 20 .add 9 (cI 1),
mV 9 20] [0,1,5,8,9])
def z2a:Sf C gl UW e h x K:=⟨_,by simp only[UW,↓wZ,AO.still];rfl⟩
theorem zke:NW C gl UW ⟨e,h,x⟩ K=(z2a C gl e h x K).1:=(z2a ..).2
def nN:ACode:=.pr [0,1,5,8,9] (.seq (rg [bN 10 .lss 9 8] [0,1,5,8,9,10])
(.seq (.cond 10 .skip
(.exit 0))
(.seq (.block 1 (.seq (rg [mV 11 9,
mV 6 11] [0,1,5,6,8,9])
(.seq (rg [mV 12 0,
mV 13 6,
mV 14 1,
cL 15 kM [12,13,14]] [0,1,5,6,8,9,15])
(.cond 15 (rg [mV 16 5,
mV 17 6,
uO 18 (.bsl false none 1 (.int .i64 0) [(0,17)]),
uO 19 (.app none 16 18),
mV 5 19] [0,1,5,8,9])
.skip))))
UW)))
def z2b:Sf C gl nN e h x K:=⟨_,by simp only[nN,↓wZ,AO.still];rfl⟩
theorem zkf:NW C gl nN ⟨e,h,x⟩ K=(z2b C gl e h x K).1:=(z2b ..).2
theorem zpC {C gl e h x K}:NW C gl (.loop (.scope nN)) ⟨e,h,x⟩ K=yA C gl (.scope nN) K [(0,bA e 0),(1,bA e 1),(5,bA e 5),(8,bA e 8),(9,bA e 9)] h x:=wC
def VW:ACode:=.pr [5] (.seq (rg [mV 21 5,
mV 4 21] [4])
.ret)
def z2c:Sf C gl VW e h x K:=⟨_,by simp only[VW,↓wZ,AO.still];rfl⟩
theorem zkg:NW C gl VW ⟨e,h,x⟩ K=(z2c C gl e h x K).1:=(z2c ..).2
def z6o:ACode:=(.seq (rg [mV 4 (.c (.p (.sl none [])))] [0,1])
(.seq (rg [uO 5 (.new0 none)] [0,1,5])
(.seq (.seq (rg [mV 7 0,
lN 8 7,
mV 9 (cI 0)] [0,1,5,8,9])
(.block 0 (.loop (.scope nN))))
VW)))
def z0m:AFun:=⟨2,[.t 4],z6o,false,false⟩
def pU:Sf C gl z6o e h x K:=⟨_,by simp only[z6o,↓wZ,AO.still];rfl⟩
theorem zkd {C gl v0 v1 h x K}:NW C gl z0m.body ⟨enter [v0,v1],h,x⟩ K=(pU C gl [(0,v0),(1,v1)] h x K).1:=(pU C gl [(0,v0),(1,v1)] h x K).2
def BR:ACode:=.pr [0,3,5,52,96] (.cond 96 (.seq (.block 3 (.seq (rg [fA 100 0 none 5,
lD 101 none 100,
bN 102 .neq 101 (cI 2),
mV 99 102] [0,3,5,99])
(.cond 99 (.seq (rg [mV 4 (cI 11)] [4])
.ret)
(.seq (rg [fA 104 3 none 5,
lD 105 none 104,
fA 106 0 none 3,
lD 107 none 106,
bN 108 .neq 105 107,
mV 103 108] [0,3,5,103])
(.cond 103 (.seq (rg [mV 4 (cI 13)] [4])
.ret)
.skip)))))
(.seq (rg [mV 109 0,
fA 110 4 none 3,
lD 111 none 110,
fA 112 2 none 3,
lD 113 none 112,
fA 114 3 none 3,
lD 115 none 114,
bN 116 .eql 115 (cI 3),
cL 117 pQ [109,111,113,116]] [0,3,5])
(rg [mV 118 0,
lD 119 (some 5) 5,
fA 120 2 none 3,
lD 121 none 120,
fA 122 3 none 3,
lD 123 none 122,
bN 124 .eql 123 (cI 3),
cL 125 oQ [118,119,121,124],
wO (.store (some 5) 5 125)] [0,3,5])))
(.seq (rg [bN 127 .eql 52 (cI 5),
mV 126 127] [0,3,5,52,126])
(.cond 126 (.seq (.seq (rg [fA 128 0 none 5,
lD 129 none 128,
bN 130 .neq 129 (cI 3)] [0,3,5,130])
(.cond 130 (.seq (rg [mV 4 (cI 11)] [4])
.ret)
.skip))
(dr [dF (fA 131 2 none 3) [3],
dF (lD 132 none 131) [131],
dF (fA 133 0 none 5) [5],
dA (wO (.store none 133 (cI 1))) [133] true [] [1],
dF (fA 134 1 none 5) [5],
dT (wO (.store none 134 132)) [134,132]] [0,3,5]))
(.seq (rg [bN 136 .eql 52 (cI 6),
mV 135 136] [0,3,5,135])
(.cond 135 (.seq (.seq (rg [fA 137 0 none 5,
lD 138 none 137,
bN 139 .eql 138 (cI 4),
mV 140 139,
gD 141 140 false (.faddr 0 none 5),
gD 142 140 false (.load none 141),
gD 143 140 false (.bin .eql 142 (cI 5)),
uO 144 (.pick 140 cT 143)] [0,3,5,144])
(.cond 144 (.seq (rg [mV 4 (cI 11)] [4])
.ret)
.skip))
(.seq (rg [mV 145 0,
lD 146 (some 8) 3,
cL 147 rQ [145,146]] [0,3,5])
(dr [dF (fA 148 2 none 3) [3],
dF (lD 149 none 148) [148],
dF (fA 150 0 none 5) [5],
dA (wO (.store none 150 (cI 5))) [150] true [] [1],
dF (fA 151 1 none 5) [5],
dT (wO (.store none 151 149)) [151,149],
dF (fA 152 3 none 5) [5],
dT (wO (.store none 152 (cS []))) [152]] [0,3,5])))
.skip)))))
def ZF:Sf C gl BR e h x K:=⟨_,by simp only[BR,↓wZ,AO.still];rfl⟩
theorem z4A:NW C gl BR ⟨e,h,x⟩ K=(ZF C gl e h x K).1:=(ZF ..).2
def nX:ACode:=.pr [0,3,5] (.seq (dr [dF (mV 153 0) [0],
dF (uO 154 (.nilchk 153)) [153],
dF (fA 155 2 none 154) [154],
dF (lD 156 none 155) [155],
dF (fA 157 4 none 3) [3],
dF (lD 158 none 157) [157],
dF (lD 159 (some 5) 5) [5],
dT (wO (.mupd (none,[2]) 156 158 159)) [156,158,159]] [])
(.seq (rg [mV 4 (cI 0)] [4])
.ret))
def z2y:Sf C gl nX e h x K:=⟨_,by simp only[nX,↓wZ,AO.still];rfl⟩
theorem zkP:NW C gl nX ⟨e,h,x⟩ K=(z2y C gl e h x K).1:=(z2y ..).2
def z6B:ACode:=(.seq (rg [uO 3 (.box 1),
mV 4 (cI 0)] [0,3])
(.seq (dr [dF (mV 8 0) [0],
dF (uO 9 (.nilchk 8)) [8],
dF (fA 10 2 none 9) [9],
dF (lD 11 none 10) [10],
dF (fA 12 4 none 3) [3],
dF (lD 13 none 12) [12],
dF (uO 14 (.look (none,[2]) true (.p (.agg [.int .i64 0,.int .i64 0,.str [],.str [],.int .i64 0])) 11 13)) [11,13],
dF (mV 7 14) [14],
dF (eX 15 7 0) [7],
dF (eX 16 7 1) [7],
dA (uO 5 (.alloc [.p (.int .i64 0),.p (.int .i64 0),.p (.str []),.p (.str []),.p (.int .i64 0)])) [] true [] [3,5,6],
dT (wO (.store (some 5) 5 15)) [5,15],
dF (mV 6 16) [16]] [0,3,5,6])
(.seq (.block 0 (.seq (rg [fA 18 3 none 3,
lD 19 none 18,
bN 20 .eql 19 (cI 7),
mV 17 20] [0,3,5,6,17])
(.cond 17 (.seq (rg [mV 4 (cI 0)] [4])
.ret)
(.seq (rg [fA 22 3 none 3,
lD 23 none 22,
bN 24 .eql 23 (cI 1),
mV 25 24,
gD 26 25 true (.mv 6),
uO 27 (.pick 25 26 cF),
mV 21 27] [0,3,5,6,21])
(.cond 21 (.seq (rg [mV 4 (cI 6)] [4])
.ret)
(.seq (rg [fA 29 3 none 3,
lD 30 none 29,
bN 31 .eql 30 (cI 1),
mV 28 31] [0,3,5,6,28])
(.cond 28 (.seq (dr [dF (mV 32 0) [0],
dF (uO 33 (.nilchk 32)) [32],
dF (fA 34 2 none 33) [33],
dF (lD 35 none 34) [34],
dF (fA 36 4 none 3) [3],
dF (lD 37 none 36) [36],
dF (fA 38 2 none 3) [3],
dF (lD 39 none 38) [38],
dF (mV 40 0) [0],
dF (uO 41 (.nilchk 40)) [40],
dF (fA 42 0 (some 2) 41) [41],
dF (fA 43 0 none 42) [42],
dF (lD 44 none 43) [43],
dF (iA 45 none 44 (cI 0)) [44],
dF (lD 46 none 45) [45],
dF (uO 47 (.build [.p (.int .i64 0),.p (.int .i64 0),.p (.str []),.p (.str []),.p (.int .i64 0)] [(0,1,(cI 1)),(1,1,39),(2,1,46)])) [39,46],
dT (wO (.mupd (none,[2]) 35 37 47)) [35,37,47]] [])
(.seq (rg [mV 4 (cI 0)] [4])
.ret))
(.seq (rg [mV 49 6,
uO 50 (.un .not 49),
mV 48 50] [0,3,5,48])
(.cond 48 (.seq (rg [mV 4 (cI 8)] [4])
.ret)
.skip)))))))))
(.seq (.seq (rg [fA 51 3 none 3,
lD 52 none 51] [0,3,5,52])
(.block 1 (.seq (rg [bN 54 .eql 52 (cI 2),
mV 53 54] [0,3,5,52,53])
(.cond 53 (.seq (.block 2 (.seq (rg [fA 56 0 none 5,
lD 57 none 56,
bN 58 .neq 57 (cI 1),
mV 55 58] [0,3,5,55])
(.cond 55 (.seq (rg [mV 4 (cI 11)] [4])
.ret)
(.seq (rg [fA 60 2 none 5,
lD 61 none 60,
fA 62 5 none 3,
lD 63 none 62,
bN 64 .neq 61 63,
mV 59 64] [0,3,5,59])
(.cond 59 (.seq (rg [mV 4 (cI 3)] [4])
.ret)
(.seq (rg [mV 66 0,
fA 67 0 none 3,
lD 68 none 67,
cL 69 qQ [66,68],
bN 70 .neq 69 (cS []),
mV 65 70] [0,3,5,65])
(.cond 65 (.seq (rg [mV 4 (cI 12)] [4])
.ret)
.skip)))))))
(.seq (dr [dF (fA 71 2 none 3) [3],
dF (lD 72 none 71) [71],
dF (fA 73 0 none 3) [3],
dF (lD 74 none 73) [73],
dF (fA 75 0 none 5) [5],
dA (wO (.store none 75 (cI 2))) [75] true [] [1,3],
dF (fA 76 1 none 5) [5],
dA (wO (.store none 76 72)) [76,72] true [] [3],
dF (fA 77 3 none 5) [5],
dT (wO (.store none 77 74)) [77,74]] [0,3,5])
(dr [dF (mV 78 0) [0],
dF (mV 79 0) [0],
dF (uO 80 (.nilchk 79)) [79],
dF (fA 81 3 none 80) [80],
dF (lD 82 none 81) [81],
dF (fA 83 4 none 3) [3],
dF (lD 84 none 83) [83],
dF (fA 85 0 none 3) [3],
dF (lD 86 none 85) [85],
dF (fA 87 5 none 3) [3],
dF (lD 88 none 87) [87],
dF (fA 89 2 none 3) [3],
dF (lD 90 none 89) [89],
dF (uO 91 (.build [.p (.str []),.p (.str []),.p (.str []),.p (.int .i64 0),.p (.int .i64 0),.p (.bool false)] [(0,1,84),(1,1,86),(2,1,88),(3,1,90),(4,1,(cI (-1)))])) [84,86,88,90],
dF (uO 92 (.bsl false (some 6) 1 (.agg [.str [],.str [],.str [],.int .i64 0,.int .i64 0,.bool false]) [(0,91)])) [91],
dT (uO 93 (.app (some 6) 82 92)) [82,92],
dF (uO 94 (.nilchk 78)) [78],
dF (fA 95 3 none 94) [94],
dT (wO (.store none 95 93)) [95,93]] [0,3,5])))
(.seq (.seq (rg [bN 97 .eql 52 (cI 3),
mV 96 97] [0,3,5,52,96])
(.cond 96 .skip
(rg [bN 98 .eql 52 (cI 4),
mV 96 98] [0,3,5,52,96])))
BR)))))
nX))))
def z08:AFun:=⟨2,[.t 4],z6B,false,false⟩
def vE:Sf C gl z6B e h x K:=⟨_,by simp only[z6B,↓wZ,AO.still];rfl⟩
theorem zkO {C gl v0 v1 h x K}:NW C gl z08.body ⟨enter [v0,v1],h,x⟩ K=(vE C gl [(0,v0),(1,v1)] h x K).1:=(vE C gl [(0,v0),(1,v1)] h x K).2
def tX:ACode:=.pr [0,1,4,6,7,9,10,14,15,16,23,24,25] (rg [bN 50 .add 25 (cI 1),
mV 25 50] [0,1,4,6,7,9,10,14,15,16,23,24,25])
def z2H:Sf C gl tX e h x K:=⟨_,by simp only[tX,↓wZ,AO.still];rfl⟩
theorem zlh:NW C gl tX ⟨e,h,x⟩ K=(z2H C gl e h x K).1:=(z2H ..).2
def CN:ACode:=.pr [0,1,4,6,7,9,10,14,15,16,23,24,25] (.seq (rg [bN 26 .lss 25 24] [0,1,4,6,7,9,10,14,15,16,23,24,25,26])
(.seq (.cond 26 .skip
(.exit 2))
(.seq (.block 3 (.seq (rg [mV 27 25,
iA 28 (some 6) 23 25,
lD 29 (some 6) 28,
uO 12 (.alloc [.p (.str []),.p (.str []),.p (.str []),.p (.int .i64 0),.p (.int .i64 0),.p (.bool false)]),
mV 11 27,
wO (.store (some 6) 12 29)] [0,1,4,6,7,9,10,11,12,14,15,16,23,24,25])
(.seq (rg [fA 30 0 none 12,
lD 31 none 30,
mV 32 9,
bN 33 .eql 31 32,
mV 34 33,
gD 35 34 true (.faddr 2 none 12),
gD 36 34 true (.load none 35),
gD 37 34 true (.mv 1),
gD 38 34 true (.bin .eql 36 37),
uO 39 (.pick 34 38 cF),
mV 40 39,
gD 41 40 true (.faddr 4 none 12),
gD 42 40 true (.load none 41),
gD 43 40 true (.bin .geq 42 (cI 0)),
uO 44 (.pick 40 43 cF),
mV 45 44,
gD 46 45 true (.mv 10),
gD 47 45 true (.bin .lss 46 (cI 0)),
uO 48 (.pick 45 47 cF)] [0,1,4,6,7,9,10,11,14,15,16,23,24,25,48])
(.cond 48 (rg [mV 49 11,
mV 10 49] [0,1,4,6,7,9,10,14,15,16,23,24,25])
.skip))))
tX)))
def z2I:Sf C gl CN e h x K:=⟨_,by simp only[CN,↓wZ,AO.still];rfl⟩
theorem zli:NW C gl CN ⟨e,h,x⟩ K=(z2I C gl e h x K).1:=(z2I ..).2
theorem zpR {C gl e h x K}:NW C gl (.loop (.scope CN)) ⟨e,h,x⟩ K=yA C gl (.scope CN) K [(0,bA e 0),(1,bA e 1),(4,bA e 4),(6,bA e 6),(7,bA e 7),(9,bA e 9),(10,bA e 10),(14,bA e 14),(15,bA e 15),(16,bA e 16),(23,bA e 23),(24,bA e 24),(25,bA e 25)] h x:=wC
def uX:ACode:=.pr [0,1,4,6,7,10,14,15,16] (.seq (rg [mV 51 10,
bN 52 .geq 51 (cI 0)] [0,1,4,6,7,10,14,15,16,52])
(.cond 52 (.seq (rg [mV 53 7,
bN 54 .add 53 (cI 1),
mV 7 54] [0,1,4,6,7,10,14,15,16])
(.seq (rg [mV 55 0,
uO 56 (.nilchk 55),
fA 57 3 none 56,
lD 58 none 57,
mV 59 10,
iA 60 (some 6) 58 59,
fA 61 5 none 60,
lD 62 none 61] [0,1,4,6,7,14,15,16,62])
(.cond 62 (rg [mV 63 6,
bN 64 .add 63 (cI 1),
mV 6 64] [0,1,4,6,7,14,15,16])
.skip)))
.skip))
def z2J:Sf C gl uX e h x K:=⟨_,by simp only[uX,↓wZ,AO.still];rfl⟩
theorem zlj:NW C gl uX ⟨e,h,x⟩ K=(z2J C gl e h x K).1:=(z2J ..).2
def vX:ACode:=.pr [0,1,4,6,7,14,15,16] (rg [bN 65 .add 16 (cI 1),
mV 16 65] [0,1,4,6,7,14,15,16])
def z2K:Sf C gl vX e h x K:=⟨_,by simp only[vX,↓wZ,AO.still];rfl⟩
theorem zlk:NW C gl vX ⟨e,h,x⟩ K=(z2K C gl e h x K).1:=(z2K ..).2
def DN:ACode:=.pr [0,1,4,6,7,14,15,16] (.seq (rg [bN 17 .lss 16 15] [0,1,4,6,7,14,15,16,17])
(.seq (.cond 17 .skip
(.exit 0))
(.seq (.block 1 (.seq (rg [iA 18 none 14 16,
lD 19 none 18,
mV 9 19] [0,1,4,6,7,9,14,15,16])
(.seq (rg [mV 10 (cI (-1))] [0,1,4,6,7,9,10,14,15,16])
(.seq (.seq (rg [mV 20 0,
uO 21 (.nilchk 20),
fA 22 3 none 21,
lD 23 none 22,
lN 24 23,
mV 25 (cI 0)] [0,1,4,6,7,9,10,14,15,16,23,24,25])
(.block 2 (.loop (.scope CN))))
uX))))
vX)))
def z2L:Sf C gl DN e h x K:=⟨_,by simp only[DN,↓wZ,AO.still];rfl⟩
theorem zll:NW C gl DN ⟨e,h,x⟩ K=(z2L C gl e h x K).1:=(z2L ..).2
theorem zpS {C gl e h x K}:NW C gl (.loop (.scope DN)) ⟨e,h,x⟩ K=yA C gl (.scope DN) K [(0,bA e 0),(1,bA e 1),(4,bA e 4),(6,bA e 6),(7,bA e 7),(14,bA e 14),(15,bA e 15),(16,bA e 16)] h x:=wC
def wX:ACode:=.pr [4,6,7] (.seq (.seq (rg [mV 66 7,
bN 67 .eql 66 (cI 0)] [4,6,7,67])
(.cond 67 (.seq (rg [uO 68 (.build [.p (.int .i64 0),.p (.int .i64 0)] []),
wO (.store (some 2) 4 68),
mV 5 (cI 8)] [4,5])
.ret)
.skip))
(.seq (rg [mV 69 6,
mV 70 7,
cL 71 lQ [69,70],
wO (.store (some 2) 4 71),
mV 5 (cI 0)] [4,5])
.ret))
def z2M:Sf C gl wX e h x K:=⟨_,by simp only[wX,↓wZ,AO.still];rfl⟩
theorem zlm:NW C gl wX ⟨e,h,x⟩ K=(z2M C gl e h x K).1:=(z2M ..).2
def z6I:ACode:=(.seq (rg [uO 4 (.alloc [.p (.int .i64 0),.p (.int .i64 0)]),
mV 5 (cI 0)] [0,1,4])
(.seq (rg [mV 6 (cI 0),
mV 7 (cI 0)] [0,1,4,6,7])
(.seq (.seq (rg [mV 13 0,
cL 14 iK [13],
lN 15 14,
mV 16 (cI 0)] [0,1,4,6,7,14,15,16])
(.block 0 (.loop (.scope DN))))
wX)))
def z0F:AFun:=⟨2,[.cell 4 (some 2),.t 5],z6I,false,false⟩
def KU:Sf C gl z6I e h x K:=⟨_,by simp only[z6I,↓wZ,AO.still];rfl⟩
theorem zlg {C gl v0 v1 h x K}:NW C gl z0F.body ⟨enter [v0,v1],h,x⟩ K=(KU C gl [(0,v0),(1,v1)] h x K).1:=(KU C gl [(0,v0),(1,v1)] h x K).2
def yX:ACode:=.pr [1,7,17,18,19] (rg [bN 51 .add 19 (cI 1),
mV 19 51] [1,7,17,18,19])
def z2U:Sf C gl yX e h x K:=⟨_,by simp only[yX,↓wZ,AO.still];rfl⟩
theorem zl4:NW C gl yX ⟨e,h,x⟩ K=(z2U C gl e h x K).1:=(z2U ..).2
def HN:ACode:=.pr [1,7,17,18,19] (.seq (rg [bN 20 .lss 19 18] [1,7,17,18,19,20])
(.seq (.cond 20 .skip
(.exit 0))
(.seq (.block 1 (.seq (rg [iA 21 none 17 19,
lD 22 none 21,
mV 9 22] [1,7,9,17,18,19])
(.seq (rg [mV 23 7,
mV 24 1,
mV 25 9,
iA 26 (some 8) 24 25,
lD 27 (some 8) 26,
cL 28 lM [23,27],
mV 10 28] [1,7,9,10,17,18,19])
(.seq (rg [mV 29 10,
bN 30 .neq 29 (cI 0)] [1,7,9,10,17,18,19,30])
(.cond 30 (dr [dF (mV 31 7) [7],
dF (mV 32 7) [7],
dF (mV 33 7) [7],
dF (uO 34 (.nilchk 33)) [33],
dF (fA 35 4 none 34) [34],
dF (lD 36 none 35) [35],
dF (mV 37 9) [9],
dF (uO 38 (.bsl false none 1 (.int .i64 0) [(0,37)])) [37],
dT (uO 39 (.app none 36 38)) [36,38],
dF (mV 40 7) [7],
dF (uO 41 (.nilchk 40)) [40],
dF (fA 42 5 none 41) [41],
dA (lD 43 none 42) [42] false [8] [],
dF (mV 44 10) [10],
dA (uO 45 (.bsl false none 1 (.int .i64 0) [(0,44)])) [44] false [8] [],
dT (uO 46 (.app none 43 45)) [43,45],
dF (uO 47 (.nilchk 31)) [31],
dF (fA 48 4 none 47) [47],
dT (wO (.store none 48 39)) [48,39],
dF (uO 49 (.nilchk 32)) [32],
dF (fA 50 5 none 49) [49],
dT (wO (.store none 50 46)) [50,46]] [1,7,17,18,19])
.skip)))))
yX)))
def z2V:Sf C gl HN e h x K:=⟨_,by simp only[HN,↓wZ,AO.still];rfl⟩
theorem zl5:NW C gl HN ⟨e,h,x⟩ K=(z2V C gl e h x K).1:=(z2V ..).2
theorem zqb {C gl e h x K}:NW C gl (.loop (.scope HN)) ⟨e,h,x⟩ K=yA C gl (.scope HN) K [(1,bA e 1),(7,bA e 7),(17,bA e 17),(18,bA e 18),(19,bA e 19)] h x:=wC
def zX:ACode:=.pr [7] (.seq (rg [mV 52 7,
mV 6 52] [6])
.ret)
def z2W:Sf C gl zX e h x K:=⟨_,by simp only[zX,↓wZ,AO.still];rfl⟩
theorem zl6:NW C gl zX ⟨e,h,x⟩ K=(z2W C gl e h x K).1:=(z2W ..).2
def z6Q:ACode:=(.seq (rg [uO 3 (.uns 12 0 [0]),
mV 6 (.c (.nilp))] [1,2,3])
(.seq (rg [lD 11 (some 2) 3,
uO 12 (.mkmap),
uO 13 (.build [.sl0 none,.p (.int .i64 0),.nilm,.sl0 (some 6),.sl0 none,.sl0 none] [(0,2,11),(2,1,12)]),
uO 14 (.uns 12 0 [13]),
mV 7 14] [1,2,7])
(.seq (.seq (rg [mV 15 1,
mV 16 2,
cL 17 cM [15,16],
lN 18 17,
mV 19 (cI 0)] [1,7,17,18,19])
(.block 0 (.loop (.scope HN))))
zX)))
def z0G:AFun:=⟨3,[.t 6],z6Q,false,false⟩
def MU:Sf C gl z6Q e h x K:=⟨_,by simp only[z6Q,↓wZ,AO.still];rfl⟩
theorem zl3 {C gl v0 v1 v2 h x K}:NW C gl z0G.body ⟨enter [v0,v1,v2],h,x⟩ K=(MU C gl [(0,v0),(1,v1),(2,v2)] h x K).1:=(MU C gl [(0,v0),(1,v1),(2,v2)] h x K).2
def CR:ACode:=.pr [1,4,6,8,9,10,11,17,18,19,33] (.seq (.seq (rg [mV 48 9,
mV 49 11,
bN 50 .rem 48 49,
bN 51 .eql 50 (cI 0)] [1,4,6,8,9,10,11,17,18,19,33,51])
(.cond 51 .skip
(.exit 6)))
(.block 7 (.seq (rg [mV 52 9,
mV 53 11,
bN 54 .quo 52 53,
mV 9 54] [1,4,6,8,9,10,11,17,18,19,33])
(rg [mV 55 6,
mV 56 11,
uO 57 (.look (none,[0]) false (AI 0) 55 56),
mV 58 10,
bN 59 .add 57 58,
wO (.mupd (none,[0]) 55 56 59)] [1,4,6,8,9,10,11,17,18,19,33]))))
def zan (C:Hd)(gl:GL)(v1 v4 v6 v8 v9 v10 v11 v17 v18 v19 v33:AV)(h:aA)(x:Esc)(K:KT):Prop:=
 pK (CA .rem v9 v11) λt1=>
 pK (CA .eql t1 (AI 0)) λt2=>
 BB t2 (pK (CA .quo v9 v11) λt3=>
 pK (UA (none,[0]) false (AI 0) v6 v11 h) λt4=>
 pK (CA .add t4 v10) λt5=>
 wK (ZA (none,[0]) v6 v11 t5 h) λt6 h7 y8=>
 K .normal ⟨[(1,v1),(4,v4),(6,v6),(8,v8),(9,t3),(10,v10),(11,v11),(17,v17),(18,v18),(19,v19),(33,v33)],h7,(y8++x)⟩)
 (K (.exit 6) ⟨[(1,v1),(4,v4),(6,v6),(8,v8),(9,v9),(10,v10),(11,v11),(17,v17),(18,v18),(19,v19),(33,v33),(51,t2)],h,x⟩)
theorem zlo {C gl e h x K}:NW C gl CR ⟨e,h,x⟩ K=zan C gl (bA e 1) (bA e 4) (bA e 6) (bA e 8) (bA e 9) (bA e 10) (bA e 11) (bA e 17) (bA e 18) (bA e 19) (bA e 33) h x K:=by kernel_rfl
theorem zpT {C gl e h x K}:NW C gl (.loop CR) ⟨e,h,x⟩ K=yA C gl CR K [(1,bA e 1),(4,bA e 4),(6,bA e 6),(8,bA e 8),(9,bA e 9),(10,bA e 10),(11,bA e 11),(17,bA e 17),(18,bA e 18),(19,bA e 19),(33,bA e 33)] h x:=mB
def z6M:ACode:=.pr [1,4,6,8,9,10,11,17,18,19,33] (rg [mV 46 11,
bN 47 .add 46 (cI 1),
mV 11 47] [1,4,6,8,9,10,11,17,18,19,33])
def zar (C:Hd)(gl:GL)(v1 v4 v6 v8 v9 v10 v11 v17 v18 v19 v33:AV)(h:aA)(x:Esc)(K:KT):Prop:=
 pK (CA .add v11 (AI 1)) λt1=>
 K .normal ⟨[(1,v1),(4,v4),(6,v6),(8,v8),(9,v9),(10,v10),(11,t1),(17,v17),(18,v18),(19,v19),(33,v33)],h,x⟩
theorem zlw {C gl e h x K}:NW C gl z6M ⟨e,h,x⟩ K=zar C gl (bA e 1) (bA e 4) (bA e 6) (bA e 8) (bA e 9) (bA e 10) (bA e 11) (bA e 17) (bA e 18) (bA e 19) (bA e 33) h x K:=by kernel_rfl
def z8Y (q1 q2:ACode):ACode:=.pr [1,4,6,8,9,10,11,17,18,19,33] (.seq (.seq (rg [mV 44 9,
bN 45 .gtr 44 (cI 1)] [1,4,6,8,9,10,11,17,18,19,33,45])
(.cond 45 .skip
(.exit 4)))
(.seq (.block 5 (.block 6 (.loop q1)))
q2))
def IR:ACode:=z8Y CR z6M
def z2R (C:Hd)(gl:GL)(q1 q2:ACode)(v1 v4 v6 v8 v9 v10 v11 v17 v18 v19 v33:AV)(h:aA)(x:Esc)(K:KT):Prop:=
 pK (CA .gtr v9 (AI 1)) λt1=>
 BB t1 (NW C gl (.loop q1) ⟨[(1,v1),(4,v4),(6,v6),(8,v8),(9,v9),(10,v10),(11,v11),(17,v17),(18,v18),(19,v19),(33,v33),(45,t1)],h,x⟩ (iC 6 (iC 5 (mD C gl q2 K))))
 (K (.exit 4) ⟨[(1,v1),(4,v4),(6,v6),(8,v8),(9,v9),(10,v10),(11,v11),(17,v17),(18,v18),(19,v19),(33,v33),(45,t1)],h,x⟩)
theorem zfp {C gl q1 q2 e h x K}:NW C gl (z8Y q1 q2) ⟨e,h,x⟩ K=z2R C gl q1 q2 (bA e 1) (bA e 4) (bA e 6) (bA e 8) (bA e 9) (bA e 10) (bA e 11) (bA e 17) (bA e 18) (bA e 19) (bA e 33) h x K:=by kernel_rfl
theorem zlx {C gl e h x K}:NW C gl IR ⟨e,h,x⟩ K=z2R C gl CR z6M (bA e 1) (bA e 4) (bA e 6) (bA e 8) (bA e 9) (bA e 10) (bA e 11) (bA e 17) (bA e 18) (bA e 19) (bA e 33) h x K:=zfp
theorem zpX {C gl e h x K}:NW C gl (.loop IR) ⟨e,h,x⟩ K=yA C gl IR K [(1,bA e 1),(4,bA e 4),(6,bA e 6),(8,bA e 8),(9,bA e 9),(10,bA e 10),(11,bA e 11),(17,bA e 17),(18,bA e 18),(19,bA e 19),(33,bA e 33)] h x:=mB
def z8Z (q3:ACode):ACode:=.pr [1,4,6,8,17,18,19,33] (.seq (rg [uO 34 (.mnext none [33]),
eX 35 34 0] [1,4,6,8,17,18,19,33,35])
(.seq (.cond 35 .skip
(.exit 2))
(.block 3 (.seq (rg [uO 36 (.mentry 33),
eX 37 36 0,
eX 38 36 1,
mV 9 37,
mV 10 38] [1,4,6,8,9,10,17,18,19,33])
(.seq (.seq (rg [fA 39 0 none 8,
lD 40 none 39,
fA 41 1 none 8,
lD 42 none 41,
bN 43 .eql 40 42] [1,4,6,8,9,10,17,18,19,33,43])
(.cond 43 (.exit 2)
.skip))
(.seq (rg [mV 11 (cI 2)] [1,4,6,8,9,10,11,17,18,19,33])
(.block 4 (.loop q3))))))))
def NK:ACode:=z8Z IR
def z2S (C:Hd)(gl:GL)(q3:ACode)(v1 v4 v6 v8 v17 v18 v19 v33:AV)(h:aA)(x:Esc)(K:KT):Prop:=
 nxK v33 h λt1 h2 y3=>
 pK (oC t1 0) λt4=>
 BB t4 (wK (ZB v33 h2) λt5 h6 y7=>
 pK (oC t5 0) λt8=>
 pK (oC t5 1) λt9=>
 pK (RA 0 none v8) λt10=>
 pK (uA none t10 h6) λt11=>
 pK (RA 1 none v8) λt12=>
 pK (uA none t12 h6) λt13=>
 pK (CA .eql t11 t13) λt14=>
 BB t14 (K (.exit 2) ⟨[(1,v1),(4,v4),(6,v6),(8,v8),(9,t8),(10,t9),(17,v17),(18,v18),(19,v19),(33,v33),(43,t14)],h6,(y7++(y3++x))⟩)
 (NW C gl (.loop q3) ⟨[(1,v1),(4,v4),(6,v6),(8,v8),(9,t8),(10,t9),(11,(AI 2)),(17,v17),(18,v18),(19,v19),(33,v33)],h6,(y7++(y3++x))⟩ (iC 4 (iC 3 K))))
 (K (.exit 2) ⟨[(1,v1),(4,v4),(6,v6),(8,v8),(17,v17),(18,v18),(19,v19),(33,v33),(35,t4)],h2,(y3++x)⟩)
theorem zfq {C gl q3 e h x K}:NW C gl (z8Z q3) ⟨e,h,x⟩ K=z2S C gl q3 (bA e 1) (bA e 4) (bA e 6) (bA e 8) (bA e 17) (bA e 18) (bA e 19) (bA e 33) h x K:=by kernel_rfl
theorem zly {C gl e h x K}:NW C gl NK ⟨e,h,x⟩ K=z2S C gl IR (bA e 1) (bA e 4) (bA e 6) (bA e 8) (bA e 17) (bA e 18) (bA e 19) (bA e 33) h x K:=zfq
theorem zpY {C gl e h x K}:NW C gl (.loop NK) ⟨e,h,x⟩ K=yA C gl NK K [(1,bA e 1),(4,bA e 4),(6,bA e 6),(8,bA e 8),(17,bA e 17),(18,bA e 18),(19,bA e 19),(33,bA e 33)] h x:=mB
def z9a (q4:ACode):ACode:=.pr [1,4,6,8,17,18,19,33] (.block 2 (.loop q4))
def z6N:ACode:=z9a NK
def NI (C:Hd)(gl:GL)(q4:ACode)(v1 v4 v6 v8 v17 v18 v19 v33:AV)(h:aA)(x:Esc)(K:KT):Prop:=
 NW C gl (.loop q4) ⟨[(1,v1),(4,v4),(6,v6),(8,v8),(17,v17),(18,v18),(19,v19),(33,v33)],h,x⟩ (iC 2 K)
theorem zfr {C gl q4 e h x K}:NW C gl (z9a q4) ⟨e,h,x⟩ K=NI C gl q4 (bA e 1) (bA e 4) (bA e 6) (bA e 8) (bA e 17) (bA e 18) (bA e 19) (bA e 33) h x K:=by kernel_rfl
theorem z4B {C gl e h x K}:NW C gl z6N ⟨e,h,x⟩ K=NI C gl NK (bA e 1) (bA e 4) (bA e 6) (bA e 8) (bA e 17) (bA e 18) (bA e 19) (bA e 33) h x K:=zfr
def z6O:ACode:=.pr [1,4,6,17,18,19] (rg [bN 60 .add 19 (cI 1),
mV 19 60] [1,4,6,17,18,19])
def zas (C:Hd)(gl:GL)(v1 v4 v6 v17 v18 v19:AV)(h:aA)(x:Esc)(K:KT):Prop:=
 pK (CA .add v19 (AI 1)) λt1=>
 K .normal ⟨[(1,v1),(4,v4),(6,v6),(17,v17),(18,v18),(19,t1)],h,x⟩
theorem zlz {C gl e h x K}:NW C gl z6O ⟨e,h,x⟩ K=zas C gl (bA e 1) (bA e 4) (bA e 6) (bA e 17) (bA e 18) (bA e 19) h x K:=by kernel_rfl
def z9b (q5 q6:ACode):ACode:=.pr [1,4,6,17,18,19] (.seq (rg [bN 20 .lss 19 18] [1,4,6,17,18,19,20])
(.seq (.cond 20 .skip
(.exit 0))
(.seq (.block 1 (.seq (rg [iA 21 (some 2) 17 19,
lD 22 (some 2) 21,
uO 8 (.alloc [.p (.int .i64 0),.p (.int .i64 0)]),
wO (.store (some 2) 8 22)] [1,4,6,8,17,18,19])
(.seq (.seq (rg [fA 23 0 none 8,
lD 24 none 23,
bN 25 .eql 24 (cI 0)] [1,4,6,8,17,18,19,25])
(.cond 25 (.seq (rg [uO 26 (.build [.p (.int .i64 0),.p (.int .i64 0)] [(0,1,(cI 0)),(1,1,(cI 1))]),
wO (.store (some 2) 4 26),
mV 5 (cI 0)] [4,5])
.ret)
.skip))
(.seq (.condu (.c .anyb) (.block 3 (.block 6 (.block 0 (.block 1 (.block 2 (.block 3 (.block 4 (.block 5 (.block 6 (.block 7 (.block 8 (dr [dT (uO 27 (.mkmap)) [],
dF (fA 28 0 none 8) [8],
dA (lD 29 none 28) [28] false [0] [],
dT (wO (.mupd (none,[0]) 27 29 (cI 1))) [27,29],
dF (fA 30 1 none 8) [8],
dA (lD 31 none 30) [30] false [0,3] [],
dT (wO (.mupd (none,[0]) 27 31 (cI (-1)))) [27,31],
dF (mV 32 27) [27],
dT (uO 33 (.mrange 32)) [32]] [1,4,6,8,17,18,19,33]))))))))))))
(.block 6 (.block 3 (.block 0 (.block 1 (.block 2 (.block 4 (.block 5 (.block 6 (.block 3 (.block 7 (.block 8 (dr [dT (uO 27 (.mkmap)) [],
dF (fA 28 0 none 8) [8],
dA (lD 29 none 28) [28] false [0] [],
dF (fA 30 1 none 8) [8],
dA (lD 31 none 30) [30] false [0] [],
dA (wO (.mupd (none,[0]) 27 31 (cI (-1)))) [27,31] true [] [2],
dT (wO (.mupd (none,[0]) 27 29 (cI 1))) [27,29],
dF (mV 32 27) [27],
dT (uO 33 (.mrange 32)) [32]] [1,4,6,8,17,18,19,33])))))))))))))
q5))))
q6)))
def FN:ACode:=z9b z6N z6O
def z2T (C:Hd)(gl:GL)(q5 q6:ACode)(v1 v4 v6 v17 v18 v19:AV)(h:aA)(x:Esc)(K:KT):Prop:=
 pK (CA .lss v19 v18) λt1=>
 BB t1 (pK (OF (some 2) v17 v19 h) λt2=>
 pK (uA (some 2) t2 h) λt3=>
 alK [.p (.int .i64 0),.p (.int .i64 0)] h λt4 h5 y6=>
 wK (vB (some 2) t4 t3 h5) λt7 h8 y9=>
 pK (RA 0 none t4) λt10=>
 pK (uA none t10 h8) λt11=>
 pK (CA .eql t11 (AI 0)) λt12=>
 BB t12 (pK (jF [.p (.int .i64 0),.p (.int .i64 0)] [(0,1,(AI 0)),(1,1,(AI 1))]) λt13=>
 wK (vB (some 2) v4 t13 h8) λt14 h15 y16=>
 K .ret ⟨[(4,v4),(5,(AI 0))],h15,(y16++(y9++(y6++x)))⟩)
 (BP .anyb (mmK h8 λt17 h18 y19=>
 pK (RA 0 none t4) λt20=>
 pK (uA none t20 h18) λt21=>
 (pK (uA none t20 h8) λv=>(λu (g1:aA) (y1:Esc)=>u=t21/\g1=h8/\y1=[]) v h8 [])/\(wK (ZA (none,[0]) t17 t21 (AI 1) h18) λt22 h23 y24=>
 pK (RA 1 none t4) λt25=>
 pK (uA none t25 h23) λt26=>
 (pK (uA none t25 h8) λv=>(λu (g1:aA) (y1:Esc)=>u=t26/\g1=h8/\y1=[]) v h8 [])/\((pK (uA none t25 h18) λv=>(λu (g1:aA) (y1:Esc)=>u=t26/\g1=h18/\y1=[]) v h18 [])/\(wK (ZA (none,[0]) t17 t26 (AI (-1)) h23) λt27 h28 y29=>
 wK (WB t17 h28) λt30 h31 y32=>
 NW C gl q5 ⟨[(1,v1),(4,v4),(6,v6),(8,t4),(17,v17),(18,v18),(19,v19),(33,t30)],h31,(y32++(y29++(y24++(y19++(y9++(y6++x))))))⟩ (iC 1 (mD C gl q6 K))))))
 (mmK h8 λt33 h34 y35=>
 pK (RA 0 none t4) λt36=>
 pK (uA none t36 h34) λt37=>
 (pK (uA none t36 h8) λv=>(λu (g1:aA) (y1:Esc)=>u=t37/\g1=h8/\y1=[]) v h8 [])/\(pK (RA 1 none t4) λt38=>
 pK (uA none t38 h34) λt39=>
 (pK (uA none t38 h8) λv=>(λu (g1:aA) (y1:Esc)=>u=t39/\g1=h8/\y1=[]) v h8 [])/\(wK (ZA (none,[0]) t33 t39 (AI (-1)) h34) λt40 h41 y42=>
 (pK (uA none t36 h41) λv=>(λu (g1:aA) (y1:Esc)=>u=t37/\g1=h41/\y1=[]) v h41 [])/\(wK (ZA (none,[0]) t33 t37 (AI 1) h41) λt43 h44 y45=>
 wK (WB t33 h44) λt46 h47 y48=>
 NW C gl q5 ⟨[(1,v1),(4,v4),(6,v6),(8,t4),(17,v17),(18,v18),(19,v19),(33,t46)],h47,(y48++(y45++(y42++(y35++(y9++(y6++x))))))⟩ (iC 1 (mD C gl q6 K))))))))
 (K (.exit 0) ⟨[(1,v1),(4,v4),(6,v6),(17,v17),(18,v18),(19,v19),(20,t1)],h,x⟩)
theorem zfs {C gl q5 q6 e h x K}:NW C gl (z9b q5 q6) ⟨e,h,x⟩ K=z2T C gl q5 q6 (bA e 1) (bA e 4) (bA e 6) (bA e 17) (bA e 18) (bA e 19) h x K:=by kernel_rfl
theorem zl0 {C gl e h x K}:NW C gl FN ⟨e,h,x⟩ K=z2T C gl z6N z6O (bA e 1) (bA e 4) (bA e 6) (bA e 17) (bA e 18) (bA e 19) h x K:=zfs
theorem zpZ {C gl e h x K}:NW C gl (.loop (.scope FN)) ⟨e,h,x⟩ K=yA C gl (.scope FN) K [(1,bA e 1),(4,bA e 4),(6,bA e 6),(17,bA e 17),(18,bA e 18),(19,bA e 19)] h x:=wC
def JR:ACode:=.pr [1,4,6,12,13,14] (.seq (.seq (rg [mV 70 14,
bN 71 .lss 70 (cI 0)] [1,4,6,12,13,14,71])
(.cond 71 .skip
(.exit 10)))
(.seq (.block 11 (.seq (rg [fA 74 1 none 12,
lD 75 none 74,
mV 76 13,
bN 77 .mul 75 76,
fA 78 1 none 12,
wO (.store none 78 77)] [1,4,6,12,13,14])
(.seq (rg [fA 79 1 none 12,
lD 80 none 79,
bN 81 .gtr 80 (cI 1000000000000000)] [1,4,6,12,13,14,81])
(.cond 81 (.seq (rg [uO 82 (.build [.p (.int .i64 0),.p (.int .i64 0)] []),
wO (.store (some 2) 4 82),
mV 5 (cI 12)] [4,5])
.ret)
.skip))))
(rg [mV 72 14,
bN 73 .add 72 (cI 1),
mV 14 73] [1,4,6,12,13,14])))
def zat (C:Hd)(gl:GL)(v1 v4 v6 v12 v13 v14:AV)(h:aA)(x:Esc)(K:KT):Prop:=
 pK (CA .lss v14 (AI 0)) λt1=>
 BB t1 (pK (RA 1 none v12) λt2=>
 pK (uA none t2 h) λt3=>
 pK (CA .mul t3 v13) λt4=>
 pK (RA 1 none v12) λt5=>
 wK (vB none t5 t4 h) λt6 h7 y8=>
 pK (RA 1 none v12) λt9=>
 pK (uA none t9 h7) λt10=>
 pK (CA .gtr t10 (AI 1000000000000000)) λt11=>
 BB t11 (pK (jF [.p (.int .i64 0),.p (.int .i64 0)] []) λt12=>
 wK (vB (some 2) v4 t12 h7) λt13 h14 y15=>
 K .ret ⟨[(4,v4),(5,(AI 12))],h14,(y15++(y8++x))⟩)
 (pK (CA .add v14 (AI 1)) λt16=>
 K .normal ⟨[(1,v1),(4,v4),(6,v6),(12,v12),(13,v13),(14,t16)],h7,(y8++x)⟩))
 (K (.exit 10) ⟨[(1,v1),(4,v4),(6,v6),(12,v12),(13,v13),(14,v14),(71,t1)],h,x⟩)
theorem zl1 {C gl e h x K}:NW C gl JR ⟨e,h,x⟩ K=zat C gl (bA e 1) (bA e 4) (bA e 6) (bA e 12) (bA e 13) (bA e 14) h x K:=by kernel_rfl
theorem zqa {C gl e h x K}:NW C gl (.loop JR) ⟨e,h,x⟩ K=yA C gl JR K [(1,bA e 1),(4,bA e 4),(6,bA e 6),(12,bA e 12),(13,bA e 13),(14,bA e 14)] h x:=mB
def z6P:ACode:=.pr [1,4,6,12,13] (rg [mV 65 13,
bN 66 .add 65 (cI 1),
mV 13 66] [1,4,6,12,13])
def zau (C:Hd)(gl:GL)(v1 v4 v6 v12 v13:AV)(h:aA)(x:Esc)(K:KT):Prop:=
 pK (CA .add v13 (AI 1)) λt1=>
 K .normal ⟨[(1,v1),(4,v4),(6,v6),(12,v12),(13,t1)],h,x⟩
theorem zl2 {C gl e h x K}:NW C gl z6P ⟨e,h,x⟩ K=zau C gl (bA e 1) (bA e 4) (bA e 6) (bA e 12) (bA e 13) h x K:=by kernel_rfl
def z8U (q8 q9:ACode):ACode:=.pr [1,4,6,12,13] (.seq (.seq (rg [mV 62 13,
mV 63 1,
bN 64 .leq 62 63] [1,4,6,12,13,64])
(.cond 64 .skip
(.exit 8)))
(.seq (.block 9 (.seq (rg [mV 67 6,
mV 68 13,
uO 69 (.look (none,[0]) false (AI 0) 67 68),
mV 14 69] [1,4,6,12,13,14])
(.block 10 (.loop q8))))
q9))
def DR:ACode:=z8U JR z6P
def z2N (C:Hd)(gl:GL)(q8 q9:ACode)(v1 v4 v6 v12 v13:AV)(h:aA)(x:Esc)(K:KT):Prop:=
 pK (CA .leq v13 v1) λt1=>
 BB t1 (pK (UA (none,[0]) false (AI 0) v6 v13 h) λt2=>
 NW C gl (.loop q8) ⟨[(1,v1),(4,v4),(6,v6),(12,v12),(13,v13),(14,t2)],h,x⟩ (iC 10 (iC 9 (mD C gl q9 K))))
 (K (.exit 8) ⟨[(1,v1),(4,v4),(6,v6),(12,v12),(13,v13),(64,t1)],h,x⟩)
theorem zfl {C gl q8 q9 e h x K}:NW C gl (z8U q8 q9) ⟨e,h,x⟩ K=z2N C gl q8 q9 (bA e 1) (bA e 4) (bA e 6) (bA e 12) (bA e 13) h x K:=by kernel_rfl
theorem zlp {C gl e h x K}:NW C gl DR ⟨e,h,x⟩ K=z2N C gl JR z6P (bA e 1) (bA e 4) (bA e 6) (bA e 12) (bA e 13) h x K:=zfl
theorem zpU {C gl e h x K}:NW C gl (.loop DR) ⟨e,h,x⟩ K=yA C gl DR K [(1,bA e 1),(4,bA e 4),(6,bA e 6),(12,bA e 12),(13,bA e 13)] h x:=mB
def ER:ACode:=.pr [1,4,6,12,15,91,92] (.seq (rg [bN 93 .lss 92 91] [1,4,6,12,15,91,92,93])
(.seq (.cond 93 .skip
(.exit 14))
(.seq (.block 15 (rg [fA 94 0 none 12,
lD 95 none 94,
mV 96 15,
bN 97 .mul 95 96,
fA 98 0 none 12,
wO (.store none 98 97)] [1,4,6,12,15,91,92]))
(rg [bN 99 .add 92 (cI 1),
mV 92 99] [1,4,6,12,15,91,92]))))
def zao (C:Hd)(gl:GL)(v1 v4 v6 v12 v15 v91 v92:AV)(h:aA)(x:Esc)(K:KT):Prop:=
 pK (CA .lss v92 v91) λt1=>
 BB t1 (pK (RA 0 none v12) λt2=>
 pK (uA none t2 h) λt3=>
 pK (CA .mul t3 v15) λt4=>
 pK (RA 0 none v12) λt5=>
 wK (vB none t5 t4 h) λt6 h7 y8=>
 pK (CA .add v92 (AI 1)) λt9=>
 K .normal ⟨[(1,v1),(4,v4),(6,v6),(12,v12),(15,v15),(91,v91),(92,t9)],h7,(y8++x)⟩)
 (K (.exit 14) ⟨[(1,v1),(4,v4),(6,v6),(12,v12),(15,v15),(91,v91),(92,v92),(93,t1)],h,x⟩)
theorem zlq {C gl e h x K}:NW C gl ER ⟨e,h,x⟩ K=zao C gl (bA e 1) (bA e 4) (bA e 6) (bA e 12) (bA e 15) (bA e 91) (bA e 92) h x K:=by kernel_rfl
theorem zpV {C gl e h x K}:NW C gl (.loop ER) ⟨e,h,x⟩ K=yA C gl ER K [(1,bA e 1),(4,bA e 4),(6,bA e 6),(12,bA e 12),(15,bA e 15),(91,bA e 91),(92,bA e 92)] h x:=mB
def z6J:ACode:=.pr [1,4,6,12,15] (rg [mV 86 15,
bN 87 .add 86 (cI 1),
mV 15 87] [1,4,6,12,15])
def zap (C:Hd)(gl:GL)(v1 v4 v6 v12 v15:AV)(h:aA)(x:Esc)(K:KT):Prop:=
 pK (CA .add v15 (AI 1)) λt1=>
 K .normal ⟨[(1,v1),(4,v4),(6,v6),(12,v12),(15,t1)],h,x⟩
theorem zlr {C gl e h x K}:NW C gl z6J ⟨e,h,x⟩ K=zap C gl (bA e 1) (bA e 4) (bA e 6) (bA e 12) (bA e 15) h x K:=by kernel_rfl
def z8V (q11 q12:ACode):ACode:=.pr [1,4,6,12,15] (.seq (.seq (rg [mV 83 15,
mV 84 1,
bN 85 .leq 83 84] [1,4,6,12,15,85])
(.cond 85 .skip
(.exit 12)))
(.seq (.block 13 (.seq (rg [mV 88 6,
mV 89 15,
uO 90 (.look (none,[0]) false (AI 0) 88 89),
uO 91 (.mx [90,(cI 0)]),
mV 92 (cI 0)] [1,4,6,12,15,91,92])
(.block 14 (.loop q11))))
q12))
def HR:ACode:=z8V ER z6J
def z2O (C:Hd)(gl:GL)(q11 q12:ACode)(v1 v4 v6 v12 v15:AV)(h:aA)(x:Esc)(K:KT):Prop:=
 pK (CA .leq v15 v1) λt1=>
 BB t1 (pK (UA (none,[0]) false (AI 0) v6 v15 h) λt2=>
 pK (oMx [t2,(AI 0)]) λt3=>
 NW C gl (.loop q11) ⟨[(1,v1),(4,v4),(6,v6),(12,v12),(15,v15),(91,t3),(92,(AI 0))],h,x⟩ (iC 14 (iC 13 (mD C gl q12 K))))
 (K (.exit 12) ⟨[(1,v1),(4,v4),(6,v6),(12,v12),(15,v15),(85,t1)],h,x⟩)
theorem zfm {C gl q11 q12 e h x K}:NW C gl (z8V q11 q12) ⟨e,h,x⟩ K=z2O C gl q11 q12 (bA e 1) (bA e 4) (bA e 6) (bA e 12) (bA e 15) h x K:=by kernel_rfl
theorem zls {C gl e h x K}:NW C gl HR ⟨e,h,x⟩ K=z2O C gl ER z6J (bA e 1) (bA e 4) (bA e 6) (bA e 12) (bA e 15) h x K:=zfm
theorem zpW {C gl e h x K}:NW C gl (.loop HR) ⟨e,h,x⟩ K=yA C gl HR K [(1,bA e 1),(4,bA e 4),(6,bA e 6),(12,bA e 12),(15,bA e 15)] h x:=mB
def z6K:ACode:=.pr [4,12] (.seq (rg [lD 100 (some 2) 12,
wO (.store (some 2) 4 100),
mV 5 (cI 0)] [4,5])
.ret)
def zaq (C:Hd)(gl:GL)(v4 v12:AV)(h:aA)(x:Esc)(K:KT):Prop:=
 pK (uA (some 2) v12 h) λt1=>
 wK (vB (some 2) v4 t1 h) λt2 h3 y4=>
 K .ret ⟨[(4,v4),(5,(AI 0))],h3,(y4++x)⟩
theorem zlt {C gl e h x K}:NW C gl z6K ⟨e,h,x⟩ K=zaq C gl (bA e 4) (bA e 12) h x K:=by kernel_rfl
def z8W (q13 q14:ACode):ACode:=.pr [1,4,6,12] (.seq (.seq (rg [mV 15 (cI 2)] [1,4,6,12,15])
(.block 12 (.loop q13)))
q14)
def z6L:ACode:=z8W HR z6K
def z2P (C:Hd)(gl:GL)(q13 q14:ACode)(v1 v4 v6 v12:AV)(h:aA)(x:Esc)(K:KT):Prop:=
 NW C gl (.loop q13) ⟨[(1,v1),(4,v4),(6,v6),(12,v12),(15,(AI 2))],h,x⟩ (iC 12 (mD C gl q14 K))
theorem zfn {C gl q13 q14 e h x K}:NW C gl (z8W q13 q14) ⟨e,h,x⟩ K=z2P C gl q13 q14 (bA e 1) (bA e 4) (bA e 6) (bA e 12) h x K:=by kernel_rfl
theorem zlu {C gl e h x K}:NW C gl z6L ⟨e,h,x⟩ K=z2P C gl HR z6K (bA e 1) (bA e 4) (bA e 6) (bA e 12) h x K:=zfn
def z8X (q10 q15:ACode):ACode:=.pr [1,4,6] (.seq (rg [uO 61 (.build [.p (.int .i64 0),.p (.int .i64 0)] [(0,1,(cI 1)),(1,1,(cI 1))]),
uO 12 (.alloc [.p (.int .i64 0),.p (.int .i64 0)]),
wO (.store (some 2) 12 61)] [1,4,6,12])
(.seq (.seq (rg [mV 13 (cI 2)] [1,4,6,12,13])
(.block 8 (.loop q10)))
q15))
def xX:ACode:=z8X DR z6L
def z2Q (C:Hd)(gl:GL)(q10 q15:ACode)(v1 v4 v6:AV)(h:aA)(x:Esc)(K:KT):Prop:=
 pK (jF [.p (.int .i64 0),.p (.int .i64 0)] [(0,1,(AI 1)),(1,1,(AI 1))]) λt1=>
 alK [.p (.int .i64 0),.p (.int .i64 0)] h λt2 h3 y4=>
 wK (vB (some 2) t2 t1 h3) λt5 h6 y7=>
 NW C gl (.loop q10) ⟨[(1,v1),(4,v4),(6,v6),(12,t2),(13,(AI 2))],h6,(y7++(y4++x))⟩ (iC 8 (mD C gl q15 K))
theorem zfo {C gl q10 q15 e h x K}:NW C gl (z8X q10 q15) ⟨e,h,x⟩ K=z2Q C gl q10 q15 (bA e 1) (bA e 4) (bA e 6) h x K:=by kernel_rfl
theorem zlv {C gl e h x K}:NW C gl xX ⟨e,h,x⟩ K=z2Q C gl DR z6L (bA e 1) (bA e 4) (bA e 6) h x K:=zfo
def z8T (q7 q16:ACode):ACode:=(.det (.seq (rg [uO 4 (.alloc [.p (.int .i64 0),.p (.int .i64 0)]),
mV 5 (cI 0)] [0,1,4])
(.seq (rg [uO 16 (.mkmap),
mV 6 16] [0,1,4,6])
(.seq (.seq (rg [mV 17 0,
lN 18 17,
mV 19 (cI 0)] [1,4,6,17,18,19])
(.block 0 (.loop (.scope q7))))
q16))))
def NS:AFun:=⟨2,[.cell 4 (some 2),.t 5],z8T FN xX,false,false⟩
def LU (C:Hd)(gl:GL)(q7 q16:ACode)(v0 v1:AV)(h:aA)(x:Esc)(K:KT):Prop:=
 alK [.p (.int .i64 0),.p (.int .i64 0)] h λt1 h2 y3=>
 mmK h2 λt4 h5 y6=>
 pK (jJ v0) λt7=>
 NW C gl (.loop (.scope q7)) ⟨[(1,v1),(4,t1),(6,t4),(17,v0),(18,t7),(19,(AI 0))],h5,(y6++(y3++x))⟩ (iC 0 (mD C gl q16 K))
theorem zfk {C gl q7 q16 v0 v1 h x K}:NW C gl (z8T q7 q16) ⟨enter [v0,v1],h,x⟩ K=LU C gl q7 q16 v0 v1 h x K:=by kernel_rfl
theorem zln {C gl v0 v1 h x K}:NW C gl NS.body ⟨enter [v0,v1],h,x⟩ K=LU C gl FN xX v0 v1 h x K:=zfk
def yN:ACode:=.pr [3,9] (.seq (rg [uO 10 (.mnext none [9]),
eX 11 10 0] [3,9,11])
(.seq (.cond 11 .skip
(.exit 0))
(.block 1 (.seq (rg [uO 12 (.mentry 9),
eX 13 12 0,
mV 4 13] [3,4,9])
(rg [mV 14 3,
mV 15 4,
uO 16 (.bsl false none 1 (.str []) [(0,15)]),
uO 17 (.app none 14 16),
mV 3 17] [3,9])))))
def z25:Sf C gl yN e h x K:=⟨_,by simp only[yN,↓wZ,AO.still];rfl⟩
theorem zkU:NW C gl yN ⟨e,h,x⟩ K=(z25 C gl e h x K).1:=(z25 ..).2
theorem zpN {C gl e h x K}:NW C gl (.loop (.scope yN)) ⟨e,h,x⟩ K=yA C gl (.scope yN) K [(3,bA e 3),(9,bA e 9)] h x:=wC
def pX:ACode:=.pr [3] (.seq (rg [mV 18 3,
cL 19 rM [18]] [3])
(.seq (rg [mV 20 3,
mV 2 20] [2])
.ret))
def z2A:Sf C gl pX e h x K:=⟨_,by simp only[pX,↓wZ,AO.still];rfl⟩
theorem zkV:NW C gl pX ⟨e,h,x⟩ K=(z2A C gl e h x K).1:=(z2A ..).2
def z6D:ACode:=(.det (.seq (rg [mV 2 (.c (.p (.sl none [])))] [0])
(.seq (rg [uO 3 (.new0 none)] [0,3])
(.seq (.seq (rg [mV 5 0,
uO 6 (.nilchk 5),
fA 7 2 none 6,
lD 8 none 7,
uO 9 (.mrange 8)] [3,9])
(.block 0 (.loop (.scope yN))))
pX))))
def z0A:AFun:=⟨1,[.t 2],z6D,false,true⟩
def FU:Sf C gl z6D e h x K:=⟨_,by simp only[z6D,↓wZ,AO.still];rfl⟩
theorem zkT {C gl v0 h x K}:NW C gl z0A.body ⟨enter [v0],h,x⟩ K=(FU C gl [(0,v0)] h x K).1:=(FU C gl [(0,v0)] h x K).2
def z62:ACode:=(.seq (rg [uO 4 (.box 0),
uO 6 (.box 2),
mV 8 (.c (.p (.sl none [])))] [1,3,4,6])
(.seq (rg [lD 11 (some 2) 4,
mV 12 1,
mV 13 3,
cL 14 HF [11,12,13],
uO 9 (.alloc [.nilp]),
wO (.store none 9 14)] [6,9])
(.seq (rg [lD 15 none 9,
cL 16 iK [15],
uO 17 (.mkfn fM [9,6]),
cL 18 vQ [16,17],
mV 10 18] [9,10])
(.seq (rg [mV 19 10,
uO 20 (.mkfn iM [9]),
cL 21 zQ [19,20]] [10])
(.seq (rg [mV 22 10,
mV 8 22] [8])
.ret)))))
def z01:AFun:=⟨4,[.t 8],z62,false,false⟩
def zU:Sf C gl z62 e h x K:=⟨_,by simp only[z62,↓wZ,AO.still];rfl⟩
theorem zkB {C gl v0 v1 v2 v3 h x K}:NW C gl z01.body ⟨enter [v0,v1,v2,v3],h,x⟩ K=(zU C gl [(0,v0),(1,v1),(2,v2),(3,v3)] h x K).1:=(zU C gl [(0,v0),(1,v1),(2,v2),(3,v3)] h x K).2
def KW:ACode:=.pr [0] (.seq (rg [mV 15 0,
mV 4 15] [4])
.ret)
def z1S:Sf C gl KW e h x K:=⟨_,by simp only[KW,↓wZ,AO.still];rfl⟩
theorem zjI:NW C gl KW ⟨e,h,x⟩ K=(z1S C gl e h x K).1:=(z1S ..).2
def z6e:ACode:=(.seq (rg [mV 4 (cI 0)] [0,1])
(.seq (.seq (rg [mV 5 1,
bN 6 .lss 5 (cI 1)] [0,1,6])
(.cond 6 (.seq (rg [mV 4 (cI 0)] [4])
.ret)
.skip))
(.seq (rg [mV 7 0,
mV 8 1,
bN 9 .rem 7 8,
mV 0 9] [0,1])
(.seq (.seq (rg [mV 10 0,
bN 11 .lss 10 (cI 0)] [0,1,11])
(.cond 11 (rg [mV 12 0,
mV 13 1,
bN 14 .add 12 13,
mV 0 14] [0])
.skip))
KW))))
def z0b:AFun:=⟨2,[.t 4],z6e,false,false⟩
def fU:Sf C gl z6e e h x K:=⟨_,by simp only[z6e,↓wZ,AO.still];rfl⟩
theorem zjH {C gl v0 v1 h x K}:NW C gl z0b.body ⟨enter [v0,v1],h,x⟩ K=(fU C gl [(0,v0),(1,v1)] h x K).1:=(fU C gl [(0,v0),(1,v1)] h x K).2
def ZN:ACode:=.pr [0,1,2,6,7,8] (.seq (.seq (rg [mV 11 8,
mV 12 1,
bN 13 .leq 11 12] [0,1,2,6,7,8,13])
(.cond 13 .skip
(.exit 0)))
(.block 1 (.seq (rg [mV 14 0,
mV 15 7,
mV 16 8,
mV 17 2,
cL 18 XH [14,15,16,17]] [0,1,2,6,8])
(.seq (rg [mV 19 8,
mV 7 19] [0,1,2,6,7,8])
(rg [mV 20 8,
mV 21 6,
bN 22 .add 20 21,
mV 8 22] [0,1,2,6,7,8])))))
def z39:Sf C gl ZN e h x K:=⟨_,by simp only[ZN,↓wZ,AO.still];rfl⟩
theorem zm0:NW C gl ZN ⟨e,h,x⟩ K=(z39 C gl e h x K).1:=(z39 ..).2
theorem zqs {C gl e h x K}:NW C gl (.loop ZN) ⟨e,h,x⟩ K=yA C gl ZN K [(0,bA e 0),(1,bA e 1),(2,bA e 2),(6,bA e 6),(7,bA e 7),(8,bA e 8)] h x:=mB
def aO:ACode:=.pr [0,1,2,6,7,8] (.seq (.seq (rg [mV 33 8,
mV 34 1,
bN 35 .leq 33 34] [0,1,2,6,7,8,35])
(.cond 35 .skip
(.exit 4)))
(.block 5 (.seq (rg [mV 36 0,
mV 37 7,
mV 38 7,
mV 39 6,
bN 40 .add 38 39,
mV 41 8,
mV 42 2,
cL 43 zaY [36,37,40,41,42]] [0,1,2,6,8])
(.seq (rg [mV 44 8,
mV 7 44] [0,1,2,6,7,8])
(rg [mV 45 8,
mV 46 6,
bN 47 .mul (cI 2) 46,
bN 48 .add 45 47,
mV 8 48] [0,1,2,6,7,8])))))
def z3A:Sf C gl aO e h x K:=⟨_,by simp only[aO,↓wZ,AO.still];rfl⟩
theorem zm1:NW C gl aO ⟨e,h,x⟩ K=(z3A C gl e h x K).1:=(z3A ..).2
theorem zqt {C gl e h x K}:NW C gl (.loop aO) ⟨e,h,x⟩ K=yA C gl aO K [(0,bA e 0),(1,bA e 1),(2,bA e 2),(6,bA e 6),(7,bA e 7),(8,bA e 8)] h x:=mB
def UX:ACode:=.pr [0,1,2,6] (rg [mV 61 6,
bN 62 .mul 61 (cI 2),
mV 6 62] [0,1,2,6])
def z3B:Sf C gl UX e h x K:=⟨_,by simp only[UX,↓wZ,AO.still];rfl⟩
theorem zm2:NW C gl UX ⟨e,h,x⟩ K=(z3B C gl e h x K).1:=(z3B ..).2
def VX:ACode:=.pr [0,1,2,6,7] (.seq (.seq (rg [mV 49 7,
mV 50 6,
bN 51 .add 49 50,
mV 9 51] [0,1,2,6,7,9])
(.seq (rg [mV 52 9,
mV 53 1,
bN 54 .lss 52 53] [0,1,2,6,7,9,54])
(.cond 54 (rg [mV 55 0,
mV 56 7,
mV 57 9,
mV 58 1,
mV 59 2,
cL 60 zaY [55,56,57,58,59]] [0,1,2,6])
.skip)))
UX)
def z3C:Sf C gl VX e h x K:=⟨_,by simp only[VX,↓wZ,AO.still];rfl⟩
theorem zm3:NW C gl VX ⟨e,h,x⟩ K=(z3C C gl e h x K).1:=(z3C ..).2
def bO:ACode:=.pr [0,1,2,6] (.seq (.seq (rg [mV 28 6,
mV 29 1,
bN 30 .lss 28 29] [0,1,2,6,30])
(.cond 30 .skip
(.exit 2)))
(.block 3 (.seq (rg [mV 31 6,
bN 32 .mul (cI 2) 31,
mV 7 (cI 0),
mV 8 32] [0,1,2,6,7,8])
(.seq (.block 4 (.loop aO))
VX))))
def z3D:Sf C gl bO e h x K:=⟨_,by simp only[bO,↓wZ,AO.still];rfl⟩
theorem zm4:NW C gl bO ⟨e,h,x⟩ K=(z3D C gl e h x K).1:=(z3D ..).2
theorem zqu {C gl e h x K}:NW C gl (.loop bO) ⟨e,h,x⟩ K=yA C gl bO K [(0,bA e 0),(1,bA e 1),(2,bA e 2),(6,bA e 6)] h x:=mB
def WX:ACode:=.pr [0,1,2,6,7] (.seq (rg [mV 23 0,
mV 24 7,
mV 25 1,
mV 26 2,
cL 27 XH [23,24,25,26]] [0,1,2,6])
(.block 2 (.loop bO)))
def z3E:Sf C gl WX e h x K:=⟨_,by simp only[WX,↓wZ,AO.still];rfl⟩
theorem zm5:NW C gl WX ⟨e,h,x⟩ K=(z3E C gl e h x K).1:=(z3E ..).2
def z7l:ACode:=(.seq (rg [mV 6 (cI 20)] [0,1,2,6])
(.seq (rg [mV 10 6,
mV 7 (cI 0),
mV 8 10] [0,1,2,6,7,8])
(.seq (.block 0 (.loop ZN))
WX)))
def z0Z:AFun:=⟨3,[],z7l,true,false⟩
def eV:Sf C gl z7l e h x K:=⟨_,by simp only[z7l,↓wZ,AO.still];rfl⟩
theorem zmz {C gl v0 v1 v2 h x K}:NW C gl z0Z.body ⟨enter [v0,v1,v2],h,x⟩ K=(eV C gl [(0,v0),(1,v1),(2,v2)] h x K).1:=(eV C gl [(0,v0),(1,v1),(2,v2)] h x K).2
def z6S:ACode:=(.seq (rg [mV 2 (cI 0)] [0])
(.seq (.block 0 (.seq (rg [mV 4 0,
bN 5 .lss 4 (cI 0),
mV 3 5] [0,3])
(.cond 3 (.seq (rg [mV 2 (cI (-1))] [2])
.ret)
(.seq (rg [mV 7 0,
bN 8 .gtr 7 (cI 0),
mV 6 8] [6])
(.cond 6 (.seq (rg [mV 2 (cI 1)] [2])
.ret)
.skip)))))
(.seq (rg [mV 2 (cI 0)] [2])
.ret)))
def z0I:AFun:=⟨1,[.t 2],z6S,false,false⟩
def DL:Sf C gl z6S e h x K:=⟨_,by simp only[z6S,↓wZ,AO.still];rfl⟩
theorem zl8 {C gl v0 h x K}:NW C gl z0I.body ⟨enter [v0],h,x⟩ K=(DL C gl [(0,v0)] h x K).1:=(DL C gl [(0,v0)] h x K).2
def z7C:ACode:=(.seq (rg [mV 4 (cI 0)] [0,1])
(.seq (rg [mV 5 0,
mV 6 1,
cL 7 UL [5,6],
mV 4 7] [4])
.ret))
def kT:AFun:=⟨2,[.t 4],z7C,false,false⟩
def uV:Sf C gl z7C e h x K:=⟨_,by simp only[z7C,↓wZ,AO.still];rfl⟩
theorem znJ {C gl v0 v1 h x K}:NW C gl kT.body ⟨enter [v0,v1],h,x⟩ K=(uV C gl [(0,v0),(1,v1)] h x K).1:=(uV C gl [(0,v0),(1,v1)] h x K).2
def mY:ACode:=.pr [0,3,4,5] (rg [mV 16 5,
bN 17 .sub 16 (cI 1),
mV 5 17] [0,3,4,5])
def z4d:Sf C gl mY e h x K:=⟨_,by simp only[mY,↓wZ,AO.still];rfl⟩
theorem znf:NW C gl mY ⟨e,h,x⟩ K=(z4d C gl e h x K).1:=(z4d ..).2
def pO:ACode:=.pr [0,3,4,5] (.seq (.seq (rg [mV 14 5,
bN 15 .geq 14 (cI 0)] [0,3,4,5,15])
(.cond 15 .skip
(.exit 0)))
(.seq (.block 1 (.seq (rg [mV 18 0,
mV 19 5,
iA 20 (some 8) 18 19,
lD 21 (some 8) 20,
uO 6 (.alloc [.p (.str []),.p (.int .i64 0),.p (.int .i64 0),.p (.int .i64 0),.p (.str []),.p (.str []),.p (.str []),.p (.int .i64 0)]),
wO (.store (some 8) 6 21)] [0,3,4,5,6])
(.seq (rg [mV 22 4,
mV 23 5,
mV 24 3,
fA 25 0 none 6,
lD 26 none 25,
fA 27 1 none 6,
lD 28 none 27,
uO 29 (.build [.p (.str []),.p (.int .i64 0)] [(0,1,26),(1,1,28)]),
uO 30 (.look ((some 2),[2,0]) false (AB false) 24 29),
uO 31 (.un .not 30),
iA 32 none 22 23,
wO (.store none 32 31)] [0,3,4,5,6])
(.seq (rg [mV 33 4,
mV 34 5,
iA 35 none 33 34,
lD 36 none 35,
mV 37 36,
gD 38 37 true (.faddr 3 none 6),
gD 39 37 true (.load none 38),
gD 40 37 true (.bin .eql 39 (cI 7)),
uO 41 (.pick 37 40 cF)] [0,3,4,5,6,41])
(.cond 41 (rg [mV 42 3,
fA 43 6 none 6,
lD 44 none 43,
fA 45 7 none 6,
lD 46 none 45,
uO 47 (.build [.p (.str []),.p (.int .i64 0)] [(0,1,44),(1,1,46)]),
wO (.mupd ((some 2),[2,0]) 42 47 cT)] [0,3,4,5])
.skip)))))
mY))
def z4e:Sf C gl pO e h x K:=⟨_,by simp only[pO,↓wZ,AO.still];rfl⟩
theorem zng:NW C gl pO ⟨e,h,x⟩ K=(z4e C gl e h x K).1:=(z4e ..).2
theorem zq5 {C gl e h x K}:NW C gl (.loop (.scope pO)) ⟨e,h,x⟩ K=yA C gl (.scope pO) K [(0,bA e 0),(3,bA e 3),(4,bA e 4),(5,bA e 5)] h x:=wC
def nY:ACode:=.pr [4] (.seq (rg [mV 48 4,
mV 2 48] [2])
.ret)
def z4f:Sf C gl nY e h x K:=⟨_,by simp only[nY,↓wZ,AO.still];rfl⟩
theorem znh:NW C gl nY ⟨e,h,x⟩ K=(z4f C gl e h x K).1:=(z4f ..).2
def z7w:ACode:=(.seq (rg [mV 2 (.c (.p (.sl none [])))] [0])
(.seq (rg [uO 7 (.mkmap),
mV 3 7] [0,3])
(.seq (rg [mV 8 0,
lN 9 8,
uO 10 (.mksl none (.bool false) 9 9),
mV 4 10] [0,3,4])
(.seq (.seq (rg [mV 11 0,
lN 12 11,
bN 13 .sub 12 (cI 1),
mV 5 13] [0,3,4,5])
(.block 0 (.loop (.scope pO))))
nY))))
def VS:AFun:=⟨1,[.t 2],z7w,false,false⟩
def jV:Sf C gl z7w e h x K:=⟨_,by simp only[z7w,↓wZ,AO.still];rfl⟩
theorem zne {C gl v0 h x K}:NW C gl VS.body ⟨enter [v0],h,x⟩ K=(jV C gl [(0,v0)] h x K).1:=(jV C gl [(0,v0)] h x K).2
end
section
variable (C:Hd)(gl:GL)(e:En)(h:aA)(x:Esc)(K:KT)
def vY:ACode:=.pr [0,3,5,38,45] (.cond 45 (.seq (rg [mV 48 0,
mV 49 5,
lD 50 (some 8) 3,
cL 51 wM [48,49,50],
mV 4 51] [4])
.ret)
(.seq (rg [bN 53 .eql 38 (cI 5),
mV 52 53] [0,3,5,52])
(.cond 52 (.seq (.seq (rg [mV 54 5,
uO 55 (.nilchk 54),
fA 56 0 none 55,
lD 57 none 56,
bN 58 .neq 57 (cI 3)] [3,5,58])
(.cond 58 (.seq (rg [mV 4 (cI 11)] [4])
.ret)
.skip))
(.seq (dr [dF (mV 59 5) [5],
dF (mV 60 5) [5],
dF (fA 61 2 none 3) [3],
dF (lD 62 none 61) [61],
dF (uO 63 (.nilchk 59)) [59],
dF (fA 64 0 none 63) [63],
dA (wO (.store none 64 (cI 1))) [64] true [] [3],
dF (uO 65 (.nilchk 60)) [60],
dF (fA 66 1 none 65) [65],
dT (wO (.store none 66 62)) [66,62]] [])
(.seq (rg [mV 4 (cI 0)] [4])
.ret)))
.skip)))
def z4p:Sf C gl vY e h x K:=⟨_,by simp only[vY,↓wZ,AO.still];rfl⟩
theorem znz:NW C gl vY ⟨e,h,x⟩ K=(z4p C gl e h x K).1:=(z4p ..).2
def wY:ACode:=.pr [3,5] (.seq (dr [dF (mV 89 5) [5],
dF (mV 90 5) [5],
dF (fA 91 2 none 3) [3],
dF (lD 92 none 91) [91],
dF (uO 93 (.nilchk 89)) [89],
dF (fA 94 0 none 93) [93],
dA (wO (.store none 94 (cI 5))) [94] true [] [3],
dF (uO 95 (.nilchk 90)) [90],
dF (fA 96 1 none 95) [95],
dT (wO (.store none 96 92)) [96,92]] [])
(.seq (rg [mV 4 (cI 0)] [4])
.ret))
def z4q:Sf C gl wY e h x K:=⟨_,by simp only[wY,↓wZ,AO.still];rfl⟩
theorem zn0:NW C gl wY ⟨e,h,x⟩ K=(z4q C gl e h x K).1:=(z4q ..).2
def xY:ACode:=.pr [0,3,5] (.seq (.seq (rg [mV 67 5,
uO 68 (.nilchk 67),
fA 69 0 none 68,
lD 70 none 69,
bN 71 .eql 70 (cI 4),
mV 72 71,
gD 73 72 false (.mv 5),
gD 74 72 false (.nilchk 73),
gD 75 72 false (.faddr 0 none 74),
gD 76 72 false (.load none 75),
gD 77 72 false (.bin .eql 76 (cI 5)),
uO 78 (.pick 72 cT 77)] [0,3,5,78])
(.cond 78 (.seq (rg [mV 4 (cI 11)] [4])
.ret)
.skip))
(.seq (.seq (rg [mV 79 5,
uO 80 (.nilchk 79),
fA 81 0 none 80,
lD 82 none 81,
bN 83 .eql 82 (cI 2)] [0,3,5,83])
(.cond 83 (rg [mV 84 0,
mV 85 5,
fA 86 2 none 3,
lD 87 none 86,
cL 88 yK [84,85,87]] [3,5])
.skip))
wY))
def z4r:Sf C gl xY e h x K:=⟨_,by simp only[xY,↓wZ,AO.still];rfl⟩
theorem zn1:NW C gl xY ⟨e,h,x⟩ K=(z4r C gl e h x K).1:=(z4r ..).2
def z74:ACode:=(.seq (rg [uO 3 (.box 1),
mV 4 (cI 0)] [0,3])
(.seq (dr [dF (mV 6 0) [0],
dF (uO 7 (.nilchk 6)) [6],
dF (fA 8 2 none 7) [7],
dF (lD 9 none 8) [8],
dF (fA 10 4 none 3) [3],
dF (lD 11 none 10) [10],
dF (uO 12 (.look (none,[2]) false (.nilp) 9 11)) [9,11],
dF (mV 5 12) [12]] [0,3,5])
(.seq (.seq (rg [fA 13 3 none 3,
lD 14 none 13,
bN 15 .eql 14 (cI 1)] [0,3,5,15])
(.cond 15 (.seq (.seq (rg [mV 16 5,
uO 17 (.isnil 0 true 16)] [0,3,17])
(.cond 17 (.seq (rg [mV 4 (cI 6)] [4])
.ret)
.skip))
(.seq (dr [dF (mV 18 0) [0],
dF (uO 19 (.nilchk 18)) [18],
dF (fA 20 2 none 19) [19],
dF (lD 21 none 20) [20],
dF (fA 22 4 none 3) [3],
dF (lD 23 none 22) [22],
dF (fA 24 2 none 3) [3],
dF (lD 25 none 24) [24],
dF (mV 26 0) [0],
dF (uO 27 (.nilchk 26)) [26],
dF (fA 28 0 (some 2) 27) [27],
dF (fA 29 0 none 28) [28],
dF (lD 30 none 29) [29],
dF (iA 31 none 30 (cI 0)) [30],
dF (lD 32 none 31) [31],
dF (uO 33 (.build [.p (.int .i64 0),.p (.int .i64 0),.p (.str []),.p (.str []),.p (.int .i64 0)] [(0,1,(cI 1)),(1,1,25),(2,1,32)])) [25,32],
dA (uO 34 (.box 33)) [33] true [] [3,5],
dT (wO (.mupd (none,[2]) 21 23 34)) [21,23,34]] [])
(.seq (rg [mV 4 (cI 0)] [4])
.ret)))
.skip))
(.seq (.seq (rg [mV 35 5,
uO 36 (.isnil 0 false 35)] [0,3,5,36])
(.cond 36 (.seq (rg [mV 4 (cI 8)] [4])
.ret)
.skip))
(.seq (.seq (rg [fA 37 3 none 3,
lD 38 none 37] [0,3,5,38])
(.block 0 (.seq (rg [bN 40 .eql 38 (cI 2),
mV 39 40] [0,3,5,38,39])
(.cond 39 (.seq (rg [mV 41 0,
mV 42 5,
lD 43 (some 8) 3,
cL 44 yM [41,42,43],
mV 4 44] [4])
.ret)
(.seq (.seq (rg [bN 46 .eql 38 (cI 3),
mV 45 46] [0,3,5,38,45])
(.cond 45 .skip
(rg [bN 47 .eql 38 (cI 4),
mV 45 47] [0,3,5,38,45])))
vY)))))
xY)))))
def eT:AFun:=⟨2,[.t 4],z74,false,false⟩
def wE:Sf C gl z74 e h x K:=⟨_,by simp only[z74,↓wZ,AO.still];rfl⟩
theorem zny {C gl v0 v1 h x K}:NW C gl eT.body ⟨enter [v0,v1],h,x⟩ K=(wE C gl [(0,v0),(1,v1)] h x K).1:=(wE C gl [(0,v0),(1,v1)] h x K).2
def XM:ACode:=.pr [0,1] (.seq (.seq (rg [mV 5 1,
bN 6 .neq 5 (cI 0)] [0,1,6])
(.cond 6 .skip
(.exit 0)))
(.block 1 (dr [dF (mV 7 1) [1],
dF (mV 8 0) [0],
dF (mV 9 1) [1],
dF (bN 10 .rem 8 9) [8,9],
dF (mV 0 7) [7],
dF (mV 1 10) [10]] [0,1])))
def z15:Sf C gl XM e h x K:=⟨_,by simp only[XM,↓wZ,AO.still];rfl⟩
theorem ziZ:NW C gl XM ⟨e,h,x⟩ K=(z15 C gl e h x K).1:=(z15 ..).2
theorem zpz {C gl e h x K}:NW C gl (.loop XM) ⟨e,h,x⟩ K=yA C gl XM K [(0,bA e 0),(1,bA e 1)] h x:=mB
def wW:ACode:=.pr [0] (.seq (rg [mV 11 0,
mV 4 11] [4])
.ret)
def z16:Sf C gl wW e h x K:=⟨_,by simp only[wW,↓wZ,AO.still];rfl⟩
theorem zja:NW C gl wW ⟨e,h,x⟩ K=(z16 C gl e h x K).1:=(z16 ..).2
def z5I:ACode:=(.seq (rg [mV 4 (cI 0)] [0,1])
(.seq (.block 0 (.loop XM))
wW))
def MZ:AFun:=⟨2,[.t 4],z5I,false,false⟩
def NT:Sf C gl z5I e h x K:=⟨_,by simp only[z5I,↓wZ,AO.still];rfl⟩
theorem ziY {C gl v0 v1 h x K}:NW C gl MZ.body ⟨enter [v0,v1],h,x⟩ K=(NT C gl [(0,v0),(1,v1)] h x K).1:=(NT C gl [(0,v0),(1,v1)] h x K).2
def z78:ACode:=(.seq (rg [mV 2 (cI 0)] [0])
(.seq (.seq (rg [mV 3 0,
cL 4 XJ [3],
uO 5 (.un .not 4)] [5])
(.cond 5 (.seq (rg [mV 2 (cI 1)] [2])
.ret)
.skip))
(.seq (rg [mV 2 (cI 0)] [2])
.ret)))
def gT:AFun:=⟨1,[.t 2],z78,false,false⟩
def XP:Sf C gl z78 e h x K:=⟨_,by simp only[z78,↓wZ,AO.still];rfl⟩
theorem znA {C gl v0 h x K}:NW C gl gT.body ⟨enter [v0],h,x⟩ K=(XP C gl [(0,v0)] h x K).1:=(XP C gl [(0,v0)] h x K).2
def fN:ACode:=.pr [0,1,2,5] (.seq (.seq (rg [mV 10 0,
mV 11 5,
bN 12 .rem 10 11,
bN 13 .eql 12 (cI 0)] [0,1,2,5,13])
(.cond 13 .skip
(.exit 2)))
(.block 3 (.seq (rg [mV 14 0,
mV 15 5,
bN 16 .quo 14 15,
mV 0 16] [0,1,2,5])
(rg [lD 17 none 2,
mV 18 5,
uO 19 (.look (none,[0]) false (AI 0) 17 18),
mV 20 1,
bN 21 .add 19 20,
wO (.mupd (none,[0]) 17 18 21)] [0,1,2,5]))))
def z1H:Sf C gl fN e h x K:=⟨_,by simp only[fN,↓wZ,AO.still];rfl⟩
theorem zjq:NW C gl fN ⟨e,h,x⟩ K=(z1H C gl e h x K).1:=(z1H ..).2
theorem zp6 {C gl e h x K}:NW C gl (.loop fN) ⟨e,h,x⟩ K=yA C gl fN K [(0,bA e 0),(1,bA e 1),(2,bA e 2),(5,bA e 5)] h x:=mB
def CW:ACode:=.pr [0,1,2,5] (rg [mV 8 5,
bN 9 .add 8 (cI 1),
mV 5 9] [0,1,2,5])
def z1I:Sf C gl CW e h x K:=⟨_,by simp only[CW,↓wZ,AO.still];rfl⟩
theorem zjr:NW C gl CW ⟨e,h,x⟩ K=(z1I C gl e h x K).1:=(z1I ..).2
def gN:ACode:=.pr [0,1,2,5] (.seq (.seq (rg [mV 6 0,
bN 7 .gtr 6 (cI 1)] [0,1,2,5,7])
(.cond 7 .skip
(.exit 0)))
(.seq (.block 1 (.block 2 (.loop fN)))
CW))
def z1J:Sf C gl gN e h x K:=⟨_,by simp only[gN,↓wZ,AO.still];rfl⟩
theorem zjs:NW C gl gN ⟨e,h,x⟩ K=(z1J C gl e h x K).1:=(z1J ..).2
theorem zp7 {C gl e h x K}:NW C gl (.loop gN) ⟨e,h,x⟩ K=yA C gl gN K [(0,bA e 0),(1,bA e 1),(2,bA e 2),(5,bA e 5)] h x:=mB
def z5N:ACode:=(.seq (rg [mV 5 (cI 2)] [0,1,2,5])
(.block 0 (.loop gN)))
def NZ:AFun:=⟨3,[],z5N,false,false⟩
def ST:Sf C gl z5N e h x K:=⟨_,by simp only[z5N,↓wZ,AO.still];rfl⟩
theorem zjp {C gl v0 v1 v2 h x K}:NW C gl NZ.body ⟨enter [v0,v1,v2],h,x⟩ K=(ST C gl [(0,v0),(1,v1),(2,v2)] h x K).1:=(ST C gl [(0,v0),(1,v1),(2,v2)] h x K).2
def z5L:ACode:=(.seq (rg [mV 6 cF] [0,1,2])
(.seq (rg [mV 7 0,
mV 8 1,
bN 9 .lss 7 8,
mV 10 9,
gD 11 10 false (.mv 0),
gD 12 10 false (.mv 2),
gD 13 10 false (.bin .gtr 11 12),
uO 14 (.pick 10 cT 13),
mV 6 14] [6])
.ret))
def GS:AFun:=⟨3,[.t 6],z5L,false,false⟩
def PT:Sf C gl z5L e h x K:=⟨_,by simp only[z5L,↓wZ,AO.still];rfl⟩
theorem zjf {C gl v0 v1 v2 h x K}:NW C gl GS.body ⟨enter [v0,v1,v2],h,x⟩ K=(PT C gl [(0,v0),(1,v1),(2,v2)] h x K).1:=(PT C gl [(0,v0),(1,v1),(2,v2)] h x K).2
def z7x:ACode:=(.seq (rg [uO 1 (.box 0),
mV 2 (cI 0)] [1])
(.seq (dr [dF (fA 5 3 none 1) [1],
dF (lD 6 none 5) [5],
dF (bN 7 .eql 6 (cI 7)) [6],
dF (fA 8 3 none 1) [1],
dF (lD 9 none 8) [8],
dF (bN 10 .eql 9 (cI 2)) [9],
dF (mV 3 7) [7],
dF (mV 4 10) [10]] [1,3,4])
(.seq (.block 0 (.seq (rg [fA 12 0 none 1,
lD 13 none 12,
cL 14 cG [13],
uO 15 (.un .not 14),
mV 11 15] [1,3,4,11])
(.cond 11 (.seq (rg [mV 2 (cI 5)] [2])
.ret)
(.seq (rg [fA 17 1 none 1,
lD 18 none 17,
cL 19 dG [18,(cI 1),(cI 1000000)],
mV 20 19,
gD 21 20 false (.faddr 2 none 1),
gD 22 20 false (.load none 21),
gD 23 20 false (.call XJ [22]),
gD 24 20 false (.un .not 23),
uO 25 (.pick 20 cT 24),
mV 16 25] [1,3,4,16])
(.cond 16 (.seq (rg [mV 2 (cI 1)] [2])
.ret)
(.seq (rg [fA 27 3 none 1,
lD 28 none 27,
cL 29 dG [28,(cI 1),(cI 7)],
mV 26 29] [1,3,4,26])
(.cond 26 (.seq (rg [mV 2 (cI 4)] [2])
.ret)
(.seq (rg [mV 31 3,
uO 32 (.un .not 31),
mV 33 32,
gD 34 33 true (.faddr 4 none 1),
gD 35 33 true (.load none 34),
gD 36 33 true (.call cG [35]),
gD 37 33 true (.un .not 36),
uO 38 (.pick 33 37 cF),
mV 39 38,
gD 40 39 false (.mv 4),
gD 41 39 false (.mv 40),
gD 42 41 true (.faddr 5 none 1),
gD 43 41 true (.load none 42),
gD 44 41 true (.call cG [43]),
gD 45 41 true (.un .not 44),
gD 46 39 false (.pick 41 45 cF),
uO 47 (.pick 39 cT 46),
mV 48 47,
gD 49 48 false (.mv 3),
gD 50 48 false (.mv 49),
gD 51 50 true (.faddr 6 none 1),
gD 52 50 true (.load none 51),
gD 53 50 true (.call cG [52]),
gD 54 50 true (.un .not 53),
gD 55 48 false (.pick 50 54 cF),
uO 56 (.pick 48 cT 55),
mV 30 56] [1,3,4,30])
(.cond 30 (.seq (rg [mV 2 (cI 5)] [2])
.ret)
(.seq (rg [mV 58 3,
mV 59 58,
gD 60 59 true (.faddr 7 none 1),
gD 61 59 true (.load none 60),
gD 62 59 true (.call dG [61,(cI 1),(cI 1000000)]),
uO 63 (.pick 59 62 cF),
mV 57 63] [1,3,4,57])
(.cond 57 (.seq (rg [mV 2 (cI 1)] [2])
.ret)
(.seq (rg [mV 65 3,
mV 66 65,
gD 67 66 true (.faddr 4 none 1),
gD 68 66 true (.load none 67),
gD 69 66 true (.bin .neq 68 (cS [])),
uO 70 (.pick 66 69 cF),
mV 71 70,
gD 72 71 false (.mv 4),
gD 73 71 false (.un .not 72),
gD 74 71 false (.mv 73),
gD 75 74 true (.faddr 5 none 1),
gD 76 74 true (.load none 75),
gD 77 74 true (.bin .neq 76 (cS [])),
gD 78 71 false (.pick 74 77 cF),
uO 79 (.pick 71 cT 78),
mV 80 79,
gD 81 80 false (.mv 3),
gD 82 80 false (.un .not 81),
gD 83 80 false (.mv 82),
gD 84 83 true (.faddr 6 none 1),
gD 85 83 true (.load none 84),
gD 86 83 true (.bin .neq 85 (cS [])),
gD 87 83 true (.mv 86),
gD 88 87 false (.faddr 7 none 1),
gD 89 87 false (.load none 88),
gD 90 87 false (.bin .neq 89 (cI 0)),
gD 91 83 true (.pick 87 cT 90),
gD 92 80 false (.pick 83 91 cF),
uO 93 (.pick 80 cT 92),
mV 64 93] [64])
(.cond 64 (.seq (rg [mV 2 (cI 3)] [2])
.ret)
.skip)))))))))))))
(.seq (rg [mV 2 (cI 0)] [2])
.ret))))
def WS:AFun:=⟨1,[.t 2],z7x,false,false⟩
def fH:Sf C gl z7x e h x K:=⟨_,by simp only[z7x,↓wZ,AO.still];rfl⟩
theorem zni {C gl v0 h x K}:NW C gl WS.body ⟨enter [v0],h,x⟩ K=(fH C gl [(0,v0)] h x K).1:=(fH C gl [(0,v0)] h x K).2
def z7v:ACode:=(.seq (rg [uO 2 (.box 0),
uO 3 (.box 1),
mV 4 (cI 0)] [2,3])
(.seq (dr [dF (fA 5 2 none 2) [2],
dF (lD 6 none 5) [5],
dF (fA 7 2 none 3) [3],
dF (lD 8 none 7) [7],
dT (cL 9 PI [6,8]) [6,8],
dF (fA 10 0 none 2) [2],
dA (lD 11 none 10) [10] false [4] [],
dF (fA 12 0 none 3) [3],
dA (lD 13 none 12) [12] false [4] [],
dT (cL 14 XI [11,13]) [11,13],
dF (fA 15 1 none 2) [2],
dA (lD 16 none 15) [15] false [4,9] [],
dF (fA 17 1 none 3) [3],
dA (lD 18 none 17) [17] false [4,9] [],
dT (cL 19 PI [16,18]) [16,18],
dF (uO 20 (.bsl false none 3 (.int .i64 0) [(0,9),(1,14),(2,19)])) [9,14,19],
dT (cL 21 ZJ [20]) [20],
dF (mV 4 21) [21]] [4])
.ret))
def US:AFun:=⟨2,[.t 4],z7v,false,false⟩
def iV:Sf C gl z7v e h x K:=⟨_,by simp only[z7v,↓wZ,AO.still];rfl⟩
theorem znd {C gl v0 v1 h x K}:NW C gl US.body ⟨enter [v0,v1],h,x⟩ K=(iV C gl [(0,v0),(1,v1)] h x K).1:=(iV C gl [(0,v0),(1,v1)] h x K).2
def vO:ACode:=.pr [3,8,9,10] (.seq (rg [bN 11 .lss 10 9] [3,8,9,10,11])
(.seq (.cond 11 .skip
(.exit 0))
(.seq (.block 1 (.seq (rg [iA 12 (some 8) 8 10,
lD 13 (some 8) 12,
uO 5 (.alloc [.p (.str []),.p (.int .i64 0),.p (.int .i64 0),.p (.int .i64 0),.p (.str []),.p (.str []),.p (.str []),.p (.int .i64 0)]),
wO (.store (some 8) 5 13)] [3,5,8,9,10])
(.seq (rg [fA 14 0 none 5,
lD 15 none 14,
fA 16 1 none 5,
lD 17 none 16,
uO 18 (.build [.p (.str []),.p (.int .i64 0)] [(0,1,15),(1,1,17)]),
uO 6 (.alloc [.p (.str []),.p (.int .i64 0)]),
wO (.store (some 2) 6 18)] [3,6,8,9,10])
(.seq (.seq (rg [mV 19 3,
lD 20 (some 2) 6,
uO 21 (.look ((some 2),[2,0]) false (AB false) 19 20)] [3,6,8,9,10,21])
(.cond 21 (.seq (rg [mV 2 cT] [2])
.ret)
.skip))
(rg [mV 22 3,
lD 23 (some 2) 6,
wO (.mupd ((some 2),[2,0]) 22 23 cT)] [3,8,9,10])))))
(rg [bN 24 .add 10 (cI 1),
mV 10 24] [3,8,9,10]))))
def z4y:Sf C gl vO e h x K:=⟨_,by simp only[vO,↓wZ,AO.still];rfl⟩
theorem znE:NW C gl vO ⟨e,h,x⟩ K=(z4y C gl e h x K).1:=(z4y ..).2
theorem zqA {C gl e h x K}:NW C gl (.loop (.scope vO)) ⟨e,h,x⟩ K=yA C gl (.scope vO) K [(3,bA e 3),(8,bA e 8),(9,bA e 9),(10,bA e 10)] h x:=wC
def CY:ACode:=.pr [] (.seq (rg [mV 2 cF] [2])
.ret)
def z4z:Sf C gl CY e h x K:=⟨_,by simp only[CY,↓wZ,AO.still];rfl⟩
theorem znF:NW C gl CY ⟨e,h,x⟩ K=(z4z C gl e h x K).1:=(z4z ..).2
def z7A:ACode:=(.seq (rg [mV 2 cF] [0])
(.seq (rg [uO 7 (.mkmap),
mV 3 7] [0,3])
(.seq (.seq (rg [mV 8 0,
lN 9 8,
mV 10 (cI 0)] [3,8,9,10])
(.block 0 (.loop (.scope vO))))
CY)))
def iT:AFun:=⟨1,[.t 2],z7A,false,false⟩
def sV:Sf C gl z7A e h x K:=⟨_,by simp only[z7A,↓wZ,AO.still];rfl⟩
theorem znD {C gl v0 h x K}:NW C gl iT.body ⟨enter [v0],h,x⟩ K=(sV C gl [(0,v0)] h x K).1:=(sV C gl [(0,v0)] h x K).2
def z7f:ACode:=(.seq (rg [mV 3 0,
lN 4 3,
mV 2 4] [0,2])
(rg [mV 5 0,
mV 6 2,
mV 7 2,
uO 8 (.conv (.i .u64) 7),
cL 9 VL [8],
cL 10 nK [5,(cI 0),6,9]] []))
def z0T:AFun:=⟨1,[],z7f,true,false⟩
def ZU:Sf C gl z7f e h x K:=⟨_,by simp only[z7f,↓wZ,AO.still];rfl⟩
theorem zmc {C gl v0 h x K}:NW C gl z0T.body ⟨enter [v0],h,x⟩ K=(ZU C gl [(0,v0)] h x K).1:=(ZU C gl [(0,v0)] h x K).2
def z7c:ACode:=(.seq (rg [mV 5 0,
lN 6 5,
mV 4 6] [0,1,4])
(rg [mV 7 0,
mV 8 4,
mV 9 4,
uO 10 (.conv (.i .u64) 9),
cL 11 VL [10],
mV 12 1,
cL 13 mK [7,(cI 0),8,11,12]] []))
def z0Q:AFun:=⟨2,[],z7c,true,false⟩
def WU:Sf C gl z7c e h x K:=⟨_,by simp only[z7c,↓wZ,AO.still];rfl⟩
theorem zlZ {C gl v0 v1 h x K}:NW C gl z0Q.body ⟨enter [v0,v1],h,x⟩ K=(WU C gl [(0,v0),(1,v1)] h x K).1:=(WU C gl [(0,v0),(1,v1)] h x K).2
def z76:ACode:=(.seq (rg [mV 5 (cI 0)] [0,1,2])
(.seq (dr [dF (lD 6 none 2) [2],
dF (uO 7 (.nilchk 6)) [6],
dF (fA 8 2 none 7) [7],
dF (lD 9 none 8) [8],
dF (mV 10 0) [0],
dF (uO 11 (.look (none,[2]) false (.nilp) 9 10)) [9,10],
dF (uO 12 (.nilchk 11)) [11],
dF (fA 13 1 none 12) [12],
dF (lD 14 none 13) [13],
dF (lD 15 none 2) [2],
dF (uO 16 (.nilchk 15)) [15],
dF (fA 17 2 none 16) [16],
dF (lD 18 none 17) [17],
dF (mV 19 1) [1],
dF (uO 20 (.look (none,[2]) false (.nilp) 18 19)) [18,19],
dF (uO 21 (.nilchk 20)) [20],
dF (fA 22 1 none 21) [21],
dF (lD 23 none 22) [22],
dT (cL 24 PI [14,23]) [14,23],
dF (mV 25 0) [0],
dF (mV 26 1) [1],
dT (cL 27 XI [25,26]) [25,26],
dF (uO 28 (.bsl false none 2 (.int .i64 0) [(0,24),(1,27)])) [24,27],
dT (cL 29 ZJ [28]) [28],
dF (mV 5 29) [29]] [5])
.ret))
def z1j:AFun:=⟨3,[.t 5],z76,false,false⟩
def qV:Sf C gl z76 e h x K:=⟨_,by simp only[z76,↓wZ,AO.still];rfl⟩
theorem zn5 {C gl v0 v1 v2 h x K}:NW C gl z1j.body ⟨enter [v0,v1,v2],h,x⟩ K=(qV C gl [(0,v0),(1,v1),(2,v2)] h x K).1:=(qV C gl [(0,v0),(1,v1),(2,v2)] h x K).2
def iN:ACode:=.pr [3,6,7,8] (.seq (rg [bN 9 .lss 8 7] [3,6,7,8,9])
(.seq (.cond 9 .skip
(.exit 0))
(.seq (.block 1 (.seq (rg [iA 10 none 6 8,
lD 11 none 10,
mV 5 11] [3,5,6,7,8])
(.seq (rg [mV 12 5,
mV 13 3,
bN 14 .neq 12 13] [3,5,6,7,8,14])
(.cond 14 (.seq (rg [mV 15 5,
mV 2 15] [2])
.ret)
.skip))))
(rg [bN 16 .add 8 (cI 1),
mV 8 16] [3,6,7,8]))))
def z1K:Sf C gl iN e h x K:=⟨_,by simp only[iN,↓wZ,AO.still];rfl⟩
theorem zjx:NW C gl iN ⟨e,h,x⟩ K=(z1K C gl e h x K).1:=(z1K ..).2
theorem zp8 {C gl e h x K}:NW C gl (.loop iN) ⟨e,h,x⟩ K=yA C gl iN K [(3,bA e 3),(6,bA e 6),(7,bA e 7),(8,bA e 8)] h x:=mB
def DW:ACode:=.pr [3] (.seq (rg [mV 17 3,
mV 2 17] [2])
.ret)
def z1L:Sf C gl DW e h x K:=⟨_,by simp only[DW,↓wZ,AO.still];rfl⟩
theorem zjy:NW C gl DW ⟨e,h,x⟩ K=(z1L C gl e h x K).1:=(z1L ..).2
def z5R:ACode:=(.seq (rg [mV 2 (cI 0)] [0])
(.seq (rg [mV 3 (cI 0)] [0,3])
(.seq (.seq (rg [mV 6 0,
lN 7 6,
mV 8 (cI 0)] [3,6,7,8])
(.block 0 (.loop iN)))
DW)))
def KS:AFun:=⟨1,[.t 2],z5R,false,false⟩
def UT:Sf C gl z5R e h x K:=⟨_,by simp only[z5R,↓wZ,AO.still];rfl⟩
theorem zjw {C gl v0 h x K}:NW C gl KS.body ⟨enter [v0],h,x⟩ K=(UT C gl [(0,v0)] h x K).1:=(UT C gl [(0,v0)] h x K).2
def z5P:ACode:=(.seq (rg [mV 4 (cI 0)] [0,1])
(.seq (rg [mV 7 0,
cL 8 aK [7],
mV 5 8] [0,1,5])
(.seq (rg [mV 9 1,
cL 10 aK [9],
mV 6 10] [0,1,5,6])
(.seq (.seq (rg [mV 11 5] [0,1,6,11])
(.cond 11 (.seq (.seq (rg [mV 12 6] [12])
(.cond 12 (.seq (rg [mV 4 (cI 0)] [4])
.ret)
.skip))
(.seq (rg [mV 4 (cI (-1))] [4])
.ret))
.skip))
(.seq (.seq (rg [mV 13 6] [0,1,13])
(.cond 13 (.seq (rg [mV 4 (cI 1)] [4])
.ret)
.skip))
(.seq (.seq (rg [mV 14 0,
mV 15 1,
bN 16 .lss 14 15] [0,1,16])
(.cond 16 (.seq (rg [mV 4 (cI (-1))] [4])
.ret)
.skip))
(.seq (.seq (rg [mV 17 0,
mV 18 1,
bN 19 .gtr 17 18] [19])
(.cond 19 (.seq (rg [mV 4 (cI 1)] [4])
.ret)
.skip))
(.seq (rg [mV 4 (cI 0)] [4])
.ret))))))))
def JS:AFun:=⟨2,[.t 4],z5P,false,false⟩
def xL:Sf C gl z5P e h x K:=⟨_,by simp only[z5P,↓wZ,AO.still];rfl⟩
theorem zju {C gl v0 v1 h x K}:NW C gl JS.body ⟨enter [v0,v1],h,x⟩ K=(xL C gl [(0,v0),(1,v1)] h x K).1:=(xL C gl [(0,v0),(1,v1)] h x K).2
def YW:ACode:=.pr [1,3,4] (.seq (.block 0 (.seq (rg [fA 45 0 none 1,
lD 46 none 45,
cL 47 bF [46],
uO 48 (.un .not 47),
mV 44 48] [1,3,4,44])
(.cond 44 (.seq (rg [mV 2 (cI 5)] [2])
.ret)
(.seq (rg [fA 50 1 none 1,
lD 51 none 50,
cL 52 yE [51,(cI 1),(cI 1000000)],
uO 53 (.un .not 52),
mV 54 53,
gD 55 54 false (.faddr 2 none 1),
gD 56 54 false (.load none 55),
gD 57 54 false (.call dK [56]),
gD 58 54 false (.un .not 57),
uO 59 (.pick 54 cT 58),
mV 49 59] [1,3,4,49])
(.cond 49 (.seq (rg [mV 2 (cI 1)] [2])
.ret)
(.seq (rg [fA 61 3 none 1,
lD 62 none 61,
cL 63 yE [62,(cI 1),(cI 7)],
uO 64 (.un .not 63),
mV 60 64] [1,3,4,60])
(.cond 60 (.seq (rg [mV 2 (cI 4)] [2])
.ret)
(.seq (rg [mV 66 4,
uO 67 (.un .not 66),
mV 65 67] [1,3,65])
(.cond 65 (.seq (rg [mV 2 (cI 5)] [2])
.ret)
(.seq (rg [fA 69 3 none 1,
lD 70 none 69,
bN 71 .eql 70 (cI 7),
mV 72 71,
gD 73 72 true (.faddr 7 none 1),
gD 74 72 true (.load none 73),
gD 75 72 true (.call yE [74,(cI 1),(cI 1000000)]),
gD 76 72 true (.un .not 75),
uO 77 (.pick 72 76 cF),
mV 68 77] [1,3,68])
(.cond 68 (.seq (rg [mV 2 (cI 1)] [2])
.ret)
(.seq (rg [lD 79 (some 8) 1,
lD 80 (some 8) 3,
uO 81 (.eqa [2,0,0,0,2,2,2,0] true 79 80),
mV 78 81] [78])
(.cond 78 (.seq (rg [mV 2 (cI 3)] [2])
.ret)
.skip)))))))))))))
(.seq (rg [mV 2 (cI 0)] [2])
.ret))
def XE (C:Hd)(gl:GL)(v1 v3 v4:AV)(h:aA)(x:Esc)(K:KT):Prop:=
 pK (RA 0 none v1) λt1=>
 pK (uA none t1 h) λt2=>
 C bF [t2] h λt3 h4 y5=>
 pK (oUn .not t3) λt6=>
 BB t6 (K .ret ⟨[(2,(AI 5))],h4,(y5++x)⟩)
 (pK (RA 1 none v1) λt7=>
 pK (uA none t7 h4) λt8=>
 C yE [t8,(AI 1),(AI 1000000)] h4 λt9 h10 y11=>
 pK (oUn .not t9) λt12=>
 gP t12 false (RA 2 none v1) h10 λt13 h14 y15=>
 gP t12 false (uA none t13 h14) h14 λt16 h17 y18=>
 gV t12 false h17 (C dK [t16] h17) λt19 h20 y21=>
 gP t12 false (oUn .not t19) h20 λt22 h23 y24=>
 pK (jD t12 (AB true) t22) λt25=>
 BB t25 (K .ret ⟨[(2,(AI 1))],h23,(y24++(y21++(y18++(y15++(y11++(y5++x))))))⟩)
 (pK (RA 3 none v1) λt26=>
 pK (uA none t26 h23) λt27=>
 C yE [t27,(AI 1),(AI 7)] h23 λt28 h29 y30=>
 pK (oUn .not t28) λt31=>
 BB t31 (K .ret ⟨[(2,(AI 4))],h29,(y30++(y24++(y21++(y18++(y15++(y11++(y5++x)))))))⟩)
 (pK (oUn .not v4) λt32=>
 BB t32 (K .ret ⟨[(2,(AI 5))],h29,(y30++(y24++(y21++(y18++(y15++(y11++(y5++x)))))))⟩)
 (pK (RA 3 none v1) λt33=>
 pK (uA none t33 h29) λt34=>
 pK (CA .eql t34 (AI 7)) λt35=>
 gP t35 true (RA 7 none v1) h29 λt36 h37 y38=>
 gP t35 true (uA none t36 h37) h37 λt39 h40 y41=>
 gV t35 true h40 (C yE [t39,(AI 1),(AI 1000000)] h40) λt42 h43 y44=>
 gP t35 true (oUn .not t42) h43 λt45 h46 y47=>
 pK (jD t35 t45 (AB false)) λt48=>
 BB t48 (K .ret ⟨[(2,(AI 1))],h46,(y47++(y44++(y41++(y38++(y30++(y24++(y21++(y18++(y15++(y11++(y5++x)))))))))))⟩)
 (pK (uA (some 8) v1 h46) λt49=>
 pK (uA (some 8) v3 h46) λt50=>
 pK (TA [2,0,0,0,2,2,2,0] true t49 t50) λt51=>
 BB t51 (K .ret ⟨[(2,(AI 3))],h46,(y47++(y44++(y41++(y38++(y30++(y24++(y21++(y18++(y15++(y11++(y5++x)))))))))))⟩)
 (K .ret ⟨[(2,(AI 0))],h46,(y47++(y44++(y41++(y38++(y30++(y24++(y21++(y18++(y15++(y11++(y5++x)))))))))))⟩))))))
theorem zkn {C gl e h x K}:NW C gl YW ⟨e,h,x⟩ K=XE C gl (bA e 1) (bA e 3) (bA e 4) h x K:=by kernel_rfl
def z8S (q1:ACode):ACode:=(.seq (rg [uO 1 (.box 0),
mV 2 (cI 0)] [1])
(.seq (rg [fA 5 0 none 1,
lD 6 none 5,
fA 7 1 none 1,
lD 8 none 7,
fA 9 2 none 1,
lD 10 none 9,
fA 11 3 none 1,
lD 12 none 11,
uO 13 (.build [.p (.str []),.p (.int .i64 0),.p (.int .i64 0),.p (.int .i64 0),.p (.str []),.p (.str []),.p (.str []),.p (.int .i64 0)] [(0,1,6),(1,1,8),(2,1,10),(3,1,12)]),
uO 3 (.alloc [.p (.str []),.p (.int .i64 0),.p (.int .i64 0),.p (.int .i64 0),.p (.str []),.p (.str []),.p (.str []),.p (.int .i64 0)]),
wO (.store (some 8) 3 13)] [1,3])
(.seq (rg [mV 4 cT] [1,3])
(.seq (.seq (rg [fA 14 3 none 1,
lD 15 none 14,
bN 16 .eql 15 (cI 7)] [1,3,16])
(.cond 16 (dr [dF (fA 17 6 none 1) [1],
dF (lD 18 none 17) [17],
dF (fA 19 7 none 1) [1],
dF (lD 20 none 19) [19],
dF (fA 21 6 none 1) [1],
dF (lD 22 none 21) [21],
dA (cL 23 bF [22]) [22] true [] [1,3],
dF (fA 24 6 none 3) [3],
dA (wO (.store none 24 18)) [24,18] true [] [3],
dF (fA 25 7 none 3) [3],
dT (wO (.store none 25 20)) [25,20],
dF (mV 4 23) [23]] [1,3,4])
(.seq (dr [dF (fA 26 4 none 1) [1],
dF (lD 27 none 26) [26],
dF (fA 28 4 none 1) [1],
dF (lD 29 none 28) [28],
dA (cL 30 bF [29]) [29] true [] [1],
dF (fA 31 4 none 3) [3],
dT (wO (.store none 31 27)) [31,27],
dF (mV 4 30) [30]] [1,3,4])
(.seq (rg [fA 32 3 none 1,
lD 33 none 32,
bN 34 .eql 33 (cI 2)] [1,3,4,34])
(.cond 34 (dr [dF (fA 35 5 none 1) [1],
dF (lD 36 none 35) [35],
dF (mV 37 4) [4],
dF (mV 38 37) [37],
dF (gD 39 38 true (.faddr 5 none 1)) [1,38],
dF (gD 40 38 true (.load none 39)) [39,38],
dA (gD 41 38 true (.call bF [40])) [40,38] true [] [1],
dF (uO 42 (.pick 38 41 cF)) [38,41],
dF (fA 43 5 none 3) [3],
dT (wO (.store none 43 36)) [43,36],
dF (mV 4 42) [42]] [1,3,4])
.skip)))))
q1))))
def z0p:AFun:=⟨1,[.t 2],z8S YW,false,false⟩
def MI (C:Hd)(gl:GL)(q1:ACode)(v0:AV)(h:aA)(x:Esc)(K:KT):Prop:=
 wK (SM v0 h) λt1 h2 y3=>
 pK (RA 0 none t1) λt4=>
 pK (uA none t4 h2) λt5=>
 pK (RA 1 none t1) λt6=>
 pK (uA none t6 h2) λt7=>
 pK (RA 2 none t1) λt8=>
 pK (uA none t8 h2) λt9=>
 pK (RA 3 none t1) λt10=>
 pK (uA none t10 h2) λt11=>
 pK (jF [.p (.str []),.p (.int .i64 0),.p (.int .i64 0),.p (.int .i64 0),.p (.str []),.p (.str []),.p (.str []),.p (.int .i64 0)] [(0,1,t5),(1,1,t7),(2,1,t9),(3,1,t11)]) λt12=>
 alK [.p (.str []),.p (.int .i64 0),.p (.int .i64 0),.p (.int .i64 0),.p (.str []),.p (.str []),.p (.str []),.p (.int .i64 0)] h2 λt13 h14 y15=>
 wK (vB (some 8) t13 t12 h14) λt16 h17 y18=>
 pK (RA 3 none t1) λt19=>
 pK (uA none t19 h17) λt20=>
 pK (CA .eql t20 (AI 7)) λt21=>
 BB t21 (pK (RA 6 none t1) λt22=>
 pK (uA none t22 h17) λt23=>
 pK (RA 7 none t1) λt24=>
 pK (uA none t24 h17) λt25=>
 pK (RA 6 none t1) λt26=>
 pK (uA none t26 h17) λt27=>
 uD C bF [t27] h17 λt28 h29 y30=>
 (pK (uA none t22 h29) λv=>(λu (g1:aA) (y1:Esc)=>u=t23/\g1=h29/\y1=[]) v h29 [])/\((pK (uA none t24 h29) λv=>(λu (g1:aA) (y1:Esc)=>u=t25/\g1=h29/\y1=[]) v h29 [])/\(pK (RA 6 none t13) λt31=>
 wK (vB none t31 t23 h29) λt32 h33 y34=>
 (pK (uA none t24 h33) λv=>(λu (g1:aA) (y1:Esc)=>u=t25/\g1=h33/\y1=[]) v h33 [])/\(pK (RA 7 none t13) λt35=>
 wK (vB none t35 t25 h33) λt36 h37 y38=>
 NW C gl q1 ⟨[(1,t1),(3,t13),(4,t28)],h37,(y38++(y34++(y30++(y18++(y15++(y3++x))))))⟩ K))))
 (pK (RA 4 none t1) λt39=>
 pK (uA none t39 h17) λt40=>
 pK (RA 4 none t1) λt41=>
 pK (uA none t41 h17) λt42=>
 uD C bF [t42] h17 λt43 h44 y45=>
 (pK (uA none t39 h44) λv=>(λu (g1:aA) (y1:Esc)=>u=t40/\g1=h44/\y1=[]) v h44 [])/\(pK (RA 4 none t13) λt46=>
 wK (vB none t46 t40 h44) λt47 h48 y49=>
 pK (RA 3 none t1) λt50=>
 pK (uA none t50 h48) λt51=>
 pK (CA .eql t51 (AI 2)) λt52=>
 BB t52 (pK (RA 5 none t1) λt53=>
 pK (uA none t53 h48) λt54=>
 gP t43 true (RA 5 none t1) h48 λt55 h56 y57=>
 gP t43 true (uA none t55 h56) h56 λt58 h59 y60=>
 gV t43 true h59 (uD C bF [t58] h59) λt61 h62 y63=>
 (pK (uA none t53 h62) λv=>(λu (g1:aA) (y1:Esc)=>u=t54/\g1=h62/\y1=[]) v h62 [])/\(pK (jD t43 t61 (AB false)) λt64=>
 pK (RA 5 none t13) λt65=>
 wK (vB none t65 t54 h62) λt66 h67 y68=>
 NW C gl q1 ⟨[(1,t1),(3,t13),(4,t64)],h67,(y68++(y63++(y60++(y57++(y49++(y45++(y18++(y15++(y3++x)))))))))⟩ K))
 (NW C gl q1 ⟨[(1,t1),(3,t13),(4,t43),(34,t52)],h48,(y49++(y45++(y18++(y15++(y3++x)))))⟩ K)))
theorem zfj {C gl q1 v0 h x K}:NW C gl (z8S q1) ⟨enter [v0],h,x⟩ K=MI C gl q1 v0 h x K:=by kernel_rfl
theorem zkm {C gl v0 h x K}:NW C gl z0p.body ⟨enter [v0],h,x⟩ K=MI C gl YW v0 h x K:=zfj
def z6U:ACode:=(.seq (rg [mV 4 cF] [0,1])
(.seq (rg [mV 5 0,
mV 6 1,
cL 7 wQ [5,6],
bN 8 .geq 7 (cI 0),
mV 4 8] [4])
.ret))
def z0K:AFun:=⟨2,[.t 4],z6U,true,false⟩
def OU:Sf C gl z6U e h x K:=⟨_,by simp only[z6U,↓wZ,AO.still];rfl⟩
theorem zlE {C gl v0 v1 h x K}:NW C gl z0K.body ⟨enter [v0,v1],h,x⟩ K=(OU C gl [(0,v0),(1,v1)] h x K).1:=(OU C gl [(0,v0),(1,v1)] h x K).2
def z6q:ACode:=(.seq (rg [uO 2 (.box 0),
mV 3 cF] [1,2])
(.seq (rg [lD 4 (some 8) 2,
lD 5 (some 8) 1,
cL 6 sQ [4,5],
mV 3 6] [3])
.ret))
def z0o:AFun:=⟨2,[.t 3],z6q,false,false⟩
def rU:Sf C gl z6q e h x K:=⟨_,by simp only[z6q,↓wZ,AO.still];rfl⟩
theorem zkl {C gl v0 v1 h x K}:NW C gl z0o.body ⟨enter [v0,v1],h,x⟩ K=(rU C gl [(0,v0),(1,v1)] h x K).1:=(rU C gl [(0,v0),(1,v1)] h x K).2
def z6R:ACode:=(.seq (rg [uO 2 (.box 0),
uO 3 (.box 1),
mV 4 cF] [2,3])
(.seq (rg [fA 5 0 none 2,
lD 6 none 5,
fA 7 0 none 3,
lD 8 none 7,
bN 9 .eql 6 8,
mV 10 9,
gD 11 10 true (.faddr 1 none 2),
gD 12 10 true (.load none 11),
gD 13 10 true (.faddr 1 none 3),
gD 14 10 true (.load none 13),
gD 15 10 true (.bin .eql 12 14),
uO 16 (.pick 10 15 cF),
mV 4 16] [4])
.ret))
def z0H:AFun:=⟨2,[.t 4],z6R,false,false⟩
def NP:Sf C gl z6R e h x K:=⟨_,by simp only[z6R,↓wZ,AO.still];rfl⟩
theorem zl7 {C gl v0 v1 h x K}:NW C gl z0H.body ⟨enter [v0,v1],h,x⟩ K=(NP C gl [(0,v0),(1,v1)] h x K).1:=(NP C gl [(0,v0),(1,v1)] h x K).2
def PN:ACode:=.pr [0,1,7,8] (.seq (rg [bN 9 .lss 8 7] [0,1,7,8,9])
(.seq (.cond 9 .skip
(.exit 0))
(.seq (.block 1 (.seq (rg [mV 10 8,
mV 5 10] [0,1,5,7,8])
(.seq (rg [mV 11 1,
mV 12 0,
mV 13 5,
iA 14 none 12 13,
lD 15 none 14,
bN 16 .eql 11 15] [0,1,5,7,8,16])
(.cond 16 (.seq (rg [mV 17 5,
mV 4 17] [4])
.ret)
.skip))))
(rg [bN 18 .add 8 (cI 1),
mV 8 18] [0,1,7,8]))))
def z3m:Sf C gl PN e h x K:=⟨_,by simp only[PN,↓wZ,AO.still];rfl⟩
theorem zlX:NW C gl PN ⟨e,h,x⟩ K=(z3m C gl e h x K).1:=(z3m ..).2
theorem zqj {C gl e h x K}:NW C gl (.loop PN) ⟨e,h,x⟩ K=yA C gl PN K [(0,bA e 0),(1,bA e 1),(7,bA e 7),(8,bA e 8)] h x:=mB
def JX:ACode:=.pr [] (.seq (rg [mV 4 (cI (-1))] [4])
.ret)
def z3n:Sf C gl JX e h x K:=⟨_,by simp only[JX,↓wZ,AO.still];rfl⟩
theorem zlY:NW C gl JX ⟨e,h,x⟩ K=(z3n C gl e h x K).1:=(z3n ..).2
def z7b:ACode:=(.seq (rg [mV 4 (cI 0)] [0,1])
(.seq (.seq (rg [mV 6 0,
lN 7 6,
mV 8 (cI 0)] [0,1,7,8])
(.block 0 (.loop PN)))
JX))
def PS:AFun:=⟨2,[.t 4],z7b,true,false⟩
def VU:Sf C gl z7b e h x K:=⟨_,by simp only[z7b,↓wZ,AO.still];rfl⟩
theorem zlW {C gl v0 v1 h x K}:NW C gl PS.body ⟨enter [v0,v1],h,x⟩ K=(VU C gl [(0,v0),(1,v1)] h x K).1:=(VU C gl [(0,v0),(1,v1)] h x K).2
def BN:ACode:=.pr [0,1,7,8] (.seq (rg [bN 9 .lss 8 7] [0,1,7,8,9])
(.seq (.cond 9 .skip
(.exit 0))
(.seq (.block 1 (.seq (rg [mV 10 8,
mV 5 10] [0,1,5,7,8])
(.seq (rg [mV 11 1,
mV 12 0,
mV 13 5,
uO 14 (.idxs 12 13),
cL 15 EQ [11,14],
bN 16 .lss 15 (cI 0)] [0,1,7,8,16])
(.cond 16 (.seq (rg [mV 4 cF] [4])
.ret)
.skip))))
(rg [bN 17 .add 8 (cI 1),
mV 8 17] [0,1,7,8]))))
def z2F:Sf C gl BN e h x K:=⟨_,by simp only[BN,↓wZ,AO.still];rfl⟩
theorem zle:NW C gl BN ⟨e,h,x⟩ K=(z2F C gl e h x K).1:=(z2F ..).2
theorem zpQ {C gl e h x K}:NW C gl (.loop BN) ⟨e,h,x⟩ K=yA C gl BN K [(0,bA e 0),(1,bA e 1),(7,bA e 7),(8,bA e 8)] h x:=mB
def sX:ACode:=.pr [] (.seq (rg [mV 4 cT] [4])
.ret)
def z2G:Sf C gl sX e h x K:=⟨_,by simp only[sX,↓wZ,AO.still];rfl⟩
theorem zlf:NW C gl sX ⟨e,h,x⟩ K=(z2G C gl e h x K).1:=(z2G ..).2
def z6H:ACode:=(.seq (rg [mV 4 cF] [0,1])
(.seq (.seq (rg [mV 6 0,
uO 7 (.lens 6),
mV 8 (cI 0)] [0,1,7,8])
(.block 0 (.loop BN)))
sX))
def z0E:AFun:=⟨2,[.t 4],z6H,false,false⟩
def JU:Sf C gl z6H e h x K:=⟨_,by simp only[z6H,↓wZ,AO.still];rfl⟩
theorem zld {C gl v0 v1 h x K}:NW C gl z0E.body ⟨enter [v0,v1],h,x⟩ K=(JU C gl [(0,v0),(1,v1)] h x K).1:=(JU C gl [(0,v0),(1,v1)] h x K).2
def vN:ACode:=.pr [0,1,2,7] (.seq (.seq (rg [mV 17 7,
mV 18 0,
lN 19 18,
bN 20 .lss 17 19,
mV 21 20,
gD 22 21 true (.mv 0),
gD 23 21 true (.mv 7),
gD 24 21 true (.iaddr (some 8) 22 23),
gD 25 21 true (.faddr 2 none 24),
gD 26 21 true (.load none 25),
gD 27 21 true (.mv 2),
gD 28 21 true (.bin .leq 26 27),
uO 29 (.pick 21 28 cF)] [0,1,2,7,29])
(.cond 29 .skip
(.exit 0)))
(.seq (.block 1 (.seq (dr [dF (mV 32 0) [0],
dF (mV 33 7) [7],
dF (iA 34 (some 8) 32 33) [32,33],
dF (fA 35 3 none 34) [34],
dF (lD 36 none 35) [35],
dF (bN 37 .eql 36 (cI 7)) [36],
dF (mV 38 37) [37],
dF (gD 39 38 true (.mv 0)) [0,38],
dF (gD 40 38 true (.mv 7)) [7,38],
dF (gD 41 38 true (.iaddr (some 8) 39 40)) [39,40,38],
dF (gD 42 38 true (.faddr 6 none 41)) [41,38],
dF (gD 43 38 true (.load none 42)) [42,38],
dF (gD 44 38 true (.mv 0)) [0,38],
dF (gD 45 38 true (.mv 1)) [1,38],
dF (gD 46 38 true (.iaddr (some 8) 44 45)) [44,45,38],
dF (gD 47 38 true (.faddr 0 none 46)) [46,38],
dF (gD 48 38 true (.load none 47)) [47,38],
dF (gD 49 38 true (.bin .eql 43 48)) [43,48,38],
dF (uO 50 (.pick 38 49 cF)) [38,49],
dF (mV 51 50) [50],
dF (gD 52 51 true (.mv 0)) [0,51],
dF (gD 53 51 true (.mv 7)) [7,51],
dF (gD 54 51 true (.iaddr (some 8) 52 53)) [52,53,51],
dF (gD 55 51 true (.faddr 7 none 54)) [54,51],
dF (gD 56 51 true (.load none 55)) [55,51],
dF (gD 57 51 true (.mv 0)) [0,51],
dF (gD 58 51 true (.mv 1)) [1,51],
dF (gD 59 51 true (.iaddr (some 8) 57 58)) [57,58,51],
dF (gD 60 51 true (.faddr 1 none 59)) [59,51],
dF (gD 61 51 true (.load none 60)) [60,51],
dF (gD 62 51 true (.bin .eql 56 61)) [56,61,51],
dF (uO 63 (.pick 51 62 cF)) [51,62],
dF (mV 64 63) [63],
dF (gD 65 64 true (.mv 0)) [0,64],
dF (gD 66 64 true (.mv 7)) [7,64],
dF (gD 67 64 true (.mv 2)) [2,64],
dT (gD 68 64 true (.call kM [65,66,67])) [65,66,67,64],
dF (uO 69 (.pick 64 68 cF)) [64,68]] [0,1,2,7,69])
(.cond 69 (.seq (rg [mV 6 cF] [6])
.ret)
.skip)))
(rg [mV 30 7,
bN 31 .add 30 (cI 1),
mV 7 31] [0,1,2,7])))
def z2s:Sf C gl vN e h x K:=⟨_,by simp only[vN,↓wZ,AO.still];rfl⟩
theorem zkG:NW C gl vN ⟨e,h,x⟩ K=(z2s C gl e h x K).1:=(z2s ..).2
theorem zpK {C gl e h x K}:NW C gl (.loop vN) ⟨e,h,x⟩ K=yA C gl vN K [(0,bA e 0),(1,bA e 1),(2,bA e 2),(7,bA e 7)] h x:=mB
def jX:ACode:=.pr [] (.seq (rg [mV 6 cT] [6])
.ret)
def z2t:Sf C gl jX e h x K:=⟨_,by simp only[jX,↓wZ,AO.still];rfl⟩
theorem zkH:NW C gl jX ⟨e,h,x⟩ K=(z2t C gl e h x K).1:=(z2t ..).2
def z68:ACode:=(.seq (rg [mV 6 cF] [0,1,2])
(.seq (.seq (rg [mV 8 0,
mV 9 1,
iA 10 (some 8) 8 9,
fA 11 2 none 10,
lD 12 none 11,
mV 13 2,
bN 14 .gtr 12 13] [0,1,2,14])
(.cond 14 (.seq (rg [mV 6 cF] [6])
.ret)
.skip))
(.seq (.seq (rg [mV 15 1,
bN 16 .add 15 (cI 1),
mV 7 16] [0,1,2,7])
(.block 0 (.loop vN)))
jX)))
def z05:AFun:=⟨3,[.t 6],z68,false,false⟩
def MP:Sf C gl z68 e h x K:=⟨_,by simp only[z68,↓wZ,AO.still];rfl⟩
theorem zkF {C gl v0 v1 v2 h x K}:NW C gl z05.body ⟨enter [v0,v1,v2],h,x⟩ K=(MP C gl [(0,v0),(1,v1),(2,v2)] h x K).1:=(MP C gl [(0,v0),(1,v1),(2,v2)] h x K).2
def zN:ACode:=.pr [1,11] (.seq (rg [uO 12 (.mnext none [11]),
eX 13 12 0] [1,11,13])
(.seq (.cond 13 .skip
(.exit 0))
(.block 1 (.seq (rg [uO 14 (.mentry 11),
eX 15 14 0,
eX 16 14 1,
uO 6 (.alloc [.p (.int .i64 0),.p (.int .i64 0),.p (.str []),.p (.str []),.p (.int .i64 0)]),
mV 5 15,
wO (.store (some 5) 6 16)] [1,5,6,11])
(.seq (rg [fA 17 0 none 6,
lD 18 none 17,
bN 19 .eql 18 (cI 2),
mV 20 19,
gD 21 20 true (.faddr 3 none 6),
gD 22 20 true (.load none 21),
gD 23 20 true (.mv 1),
gD 24 20 true (.bin .eql 22 23),
uO 25 (.pick 20 24 cF)] [1,5,11,25])
(.cond 25 (.seq (rg [mV 26 5,
mV 4 26] [4])
.ret)
.skip))))))
def z2B:Sf C gl zN e h x K:=⟨_,by simp only[zN,↓wZ,AO.still];rfl⟩
theorem zkX:NW C gl zN ⟨e,h,x⟩ K=(z2B C gl e h x K).1:=(z2B ..).2
theorem zpO {C gl e h x K}:NW C gl (.loop (.scope zN)) ⟨e,h,x⟩ K=yA C gl (.scope zN) K [(1,bA e 1),(11,bA e 11)] h x:=wC
def qX:ACode:=.pr [] (.seq (rg [mV 4 (cS [])] [4])
.ret)
def z2C:Sf C gl qX e h x K:=⟨_,by simp only[qX,↓wZ,AO.still];rfl⟩
theorem zkY:NW C gl qX ⟨e,h,x⟩ K=(z2C C gl e h x K).1:=(z2C ..).2
def z6E:ACode:=(.det (.seq (rg [mV 4 (cS [])] [0,1])
(.seq (.seq (rg [mV 7 0,
uO 8 (.nilchk 7),
fA 9 2 none 8,
lD 10 none 9,
uO 11 (.mrange 10)] [1,11])
(.block 0 (.loop (.scope zN))))
qX)))
def z0B:AFun:=⟨2,[.t 4],z6E,false,false⟩
def GU:Sf C gl z6E e h x K:=⟨_,by simp only[z6E,↓wZ,AO.still];rfl⟩
theorem zkW {C gl v0 v1 h x K}:NW C gl z0B.body ⟨enter [v0,v1],h,x⟩ K=(GU C gl [(0,v0),(1,v1)] h x K).1:=(GU C gl [(0,v0),(1,v1)] h x K).2
def oX:ACode:=.pr [0,1,2,3,13,14] (rg [bN 54 .add 14 (cI 1),
mV 14 54] [0,1,2,3,13,14])
def z2z:Sf C gl oX e h x K:=⟨_,by simp only[oX,↓wZ,AO.still];rfl⟩
theorem zkR:NW C gl oX ⟨e,h,x⟩ K=(z2z C gl e h x K).1:=(z2z ..).2
def xN:ACode:=.pr [0,1,2,3,13,14] (.seq (rg [bN 15 .lss 14 13] [0,1,2,3,13,14,15])
(.seq (.cond 15 .skip
(.exit 0))
(.seq (.block 1 (.seq (rg [mV 16 14,
mV 8 16] [0,1,2,3,8,13,14])
(.seq (rg [mV 17 0,
uO 18 (.nilchk 17),
fA 19 3 none 18,
lD 20 none 19,
mV 21 8,
iA 22 (some 6) 20 21,
fA 23 0 none 22,
lD 24 none 23,
mV 25 1,
bN 26 .eql 24 25,
mV 27 26,
gD 28 27 true (.mv 0),
gD 29 27 true (.nilchk 28),
gD 30 27 true (.faddr 3 none 29),
gD 31 27 true (.load none 30),
gD 32 27 true (.mv 8),
gD 33 27 true (.iaddr (some 6) 31 32),
gD 34 27 true (.faddr 4 none 33),
gD 35 27 true (.load none 34),
gD 36 27 true (.bin .lss 35 (cI 0)),
uO 37 (.pick 27 36 cF)] [0,1,2,3,8,13,14,37])
(.cond 37 (dr [dF (mV 38 0) [0],
dF (uO 39 (.nilchk 38)) [38],
dF (fA 40 3 none 39) [39],
dF (lD 41 none 40) [40],
dF (mV 42 8) [8],
dF (mV 43 0) [0],
dF (uO 44 (.nilchk 43)) [43],
dF (fA 45 3 none 44) [44],
dF (lD 46 none 45) [45],
dF (mV 47 8) [8],
dF (mV 48 2) [2],
dF (mV 49 3) [3],
dF (iA 50 (some 6) 41 42) [41,42],
dF (fA 51 4 none 50) [50],
dT (wO (.store none 51 48)) [51,48],
dF (iA 52 (some 6) 46 47) [46,47],
dF (fA 53 5 none 52) [52],
dT (wO (.store none 53 49)) [53,49]] [0,1,2,3,13,14])
.skip))))
oX)))
def z21:Sf C gl xN e h x K:=⟨_,by simp only[xN,↓wZ,AO.still];rfl⟩
theorem zkS:NW C gl xN ⟨e,h,x⟩ K=(z21 C gl e h x K).1:=(z21 ..).2
theorem zpM {C gl e h x K}:NW C gl (.loop xN) ⟨e,h,x⟩ K=yA C gl xN K [(0,bA e 0),(1,bA e 1),(2,bA e 2),(3,bA e 3),(13,bA e 13),(14,bA e 14)] h x:=mB
def z6C:ACode:=(.seq (rg [mV 9 0,
uO 10 (.nilchk 9),
fA 11 3 none 10,
lD 12 none 11,
lN 13 12,
mV 14 (cI 0)] [0,1,2,3,13,14])
(.block 0 (.loop xN)))
def z09:AFun:=⟨4,[],z6C,false,false⟩
def EU:Sf C gl z6C e h x K:=⟨_,by simp only[z6C,↓wZ,AO.still];rfl⟩
theorem zkQ {C gl v0 v1 v2 v3 h x K}:NW C gl z09.body ⟨enter [v0,v1,v2,v3],h,x⟩ K=(EU C gl [(0,v0),(1,v1),(2,v2),(3,v3)] h x K).1:=(EU C gl [(0,v0),(1,v1),(2,v2),(3,v3)] h x K).2
def lX:ACode:=.pr [5,8] (.seq (rg [lD 29 (some 5) 5,
wO (.store (some 5) 8 29)] [8])
.ret)
def z2w:Sf C gl lX e h x K:=⟨_,by simp only[lX,↓wZ,AO.still];rfl⟩
theorem zkM:NW C gl lX ⟨e,h,x⟩ K=(z2w C gl e h x K).1:=(z2w ..).2
def mX:ACode:=.pr [0,2,5,8] (.seq (dr [dF (mV 30 0) [0],
dF (uO 31 (.nilchk 30)) [30],
dF (fA 32 0 (some 2) 31) [31],
dF (fA 33 0 none 32) [32],
dF (lD 34 none 33) [33],
dF (fA 35 2 none 5) [5],
dF (lD 36 none 35) [35],
dT (cL 37 WI [34,36]) [34,36],
dF (bN 38 .add 37 (cI 1)) [37],
dF (mV 9 38) [38]] [0,2,8,9])
(.seq (.seq (rg [mV 39 9,
mV 40 0,
uO 41 (.nilchk 40),
fA 42 0 (some 2) 41,
fA 43 0 none 42,
lD 44 none 43,
lN 45 44,
bN 46 .eql 39 45] [0,2,8,9,46])
(.cond 46 (.seq (rg [mV 47 2,
uO 48 (.build [.p (.int .i64 0),.p (.int .i64 0),.p (.str []),.p (.str []),.p (.int .i64 0)] [(0,1,(cI 4)),(1,1,47)]),
wO (.store (some 5) 8 48)] [8])
.ret)
.skip))
(.seq (rg [mV 49 2,
mV 50 0,
uO 51 (.nilchk 50),
fA 52 0 (some 2) 51,
fA 53 0 none 52,
lD 54 none 53,
mV 55 9,
iA 56 none 54 55,
lD 57 none 56,
uO 58 (.build [.p (.int .i64 0),.p (.int .i64 0),.p (.str []),.p (.str []),.p (.int .i64 0)] [(0,1,(cI 1)),(1,1,49),(2,1,57)]),
wO (.store (some 5) 8 58)] [8])
.ret)))
def z2x:Sf C gl mX e h x K:=⟨_,by simp only[mX,↓wZ,AO.still];rfl⟩
theorem zkN:NW C gl mX ⟨e,h,x⟩ K=(z2x C gl e h x K).1:=(z2x ..).2
def z6A:ACode:=(.seq (rg [uO 5 (.box 1),
uO 8 (.alloc [.p (.int .i64 0),.p (.int .i64 0),.p (.str []),.p (.str []),.p (.int .i64 0)])] [0,2,3,5,8])
(.seq (.seq (rg [mV 10 3,
uO 11 (.un .not 10)] [0,2,5,8,11])
(.cond 11 (.seq (rg [fA 12 4 none 5,
lD 13 none 12,
bN 14 .add 13 (cI 1),
fA 15 4 none 5,
wO (.store none 15 14)] [0,2,5,8])
(.seq (rg [mV 16 2,
fA 17 0 none 5,
wO (.store none 17 (cI 3)),
fA 18 1 none 5,
wO (.store none 18 16),
fA 19 3 none 5,
wO (.store none 19 (cS []))] [0,5,8])
(.seq (.seq (dr [dF (fA 20 4 none 5) [5],
dF (lD 21 none 20) [20],
dF (mV 22 0) [0],
dF (uO 23 (.nilchk 22)) [22],
dF (fA 24 0 (some 2) 23) [23],
dF (fA 25 1 none 24) [24],
dF (lD 26 none 25) [25],
dF (bN 27 .eql 21 26) [21,26]] [5,8,27])
(.cond 27 (rg [fA 28 0 none 5,
wO (.store none 28 (cI 5))] [5,8])
.skip))
lX)))
.skip))
mX))
def z07:AFun:=⟨4,[.cell 8 (some 5)],z6A,false,false⟩
def SJ:Sf C gl z6A e h x K:=⟨_,by simp only[z6A,↓wZ,AO.still];rfl⟩
theorem zkL {C gl v0 v1 v2 v3 h x K}:NW C gl z07.body ⟨enter [v0,v1,v2,v3],h,x⟩ K=(SJ C gl [(0,v0),(1,v1),(2,v2),(3,v3)] h x K).1:=(SJ C gl [(0,v0),(1,v1),(2,v2),(3,v3)] h x K).2
def rX:ACode:=.pr [0,3,9,10] (rg [bN 51 .add 10 (cI 1),
mV 10 51] [0,3,9,10])
def z2D:Sf C gl rX e h x K:=⟨_,by simp only[rX,↓wZ,AO.still];rfl⟩
theorem zla:NW C gl rX ⟨e,h,x⟩ K=(z2D C gl e h x K).1:=(z2D ..).2
def AN:ACode:=.pr [0,3,9,10] (.seq (rg [bN 11 .lss 10 9] [0,3,9,10,11])
(.seq (.cond 11 .skip
(.exit 0))
(.seq (.block 1 (.seq (rg [mV 12 10,
mV 4 12] [0,3,4,9,10])
(.seq (dr [dF (mV 13 0) [0],
dF (uO 14 (.nilchk 13)) [13],
dF (fA 15 3 none 14) [14],
dF (lD 16 none 15) [15],
dF (mV 17 4) [4],
dF (iA 18 (some 6) 16 17) [16,17],
dF (fA 19 0 none 18) [18],
dF (lD 20 none 19) [19],
dF (fA 21 4 none 3) [3],
dF (lD 22 none 21) [21],
dF (bN 23 .eql 20 22) [20,22],
dF (mV 24 23) [23],
dF (gD 25 24 true (.mv 0)) [0,24],
dF (gD 26 24 true (.nilchk 25)) [25,24],
dF (gD 27 24 true (.faddr 3 none 26)) [26,24],
dF (gD 28 24 true (.load none 27)) [27,24],
dF (gD 29 24 true (.mv 4)) [4,24],
dF (gD 30 24 true (.iaddr (some 6) 28 29)) [28,29,24],
dF (gD 31 24 true (.faddr 4 none 30)) [30,24],
dF (gD 32 24 true (.load none 31)) [31,24],
dF (gD 33 24 true (.bin .lss 32 (cI 0))) [32,24],
dF (uO 34 (.pick 24 33 cF)) [24,33]] [0,3,4,9,10,34])
(.cond 34 (dr [dF (mV 35 0) [0],
dF (uO 36 (.nilchk 35)) [35],
dF (fA 37 3 none 36) [36],
dF (lD 38 none 37) [37],
dF (mV 39 4) [4],
dF (mV 40 0) [0],
dF (uO 41 (.nilchk 40)) [40],
dF (fA 42 3 none 41) [41],
dF (lD 43 none 42) [42],
dF (mV 44 4) [4],
dF (fA 45 2 none 3) [3],
dF (lD 46 none 45) [45],
dF (iA 47 (some 6) 38 39) [38,39],
dF (fA 48 4 none 47) [47],
dT (wO (.store none 48 46)) [48,46],
dF (iA 49 (some 6) 43 44) [43,44],
dF (fA 50 0 none 49) [49],
dT (wO (.store none 50 (cS []))) [50]] [0,3,9,10])
.skip))))
rX)))
def z2E:Sf C gl AN e h x K:=⟨_,by simp only[AN,↓wZ,AO.still];rfl⟩
theorem zlb:NW C gl AN ⟨e,h,x⟩ K=(z2E C gl e h x K).1:=(z2E ..).2
theorem zpP {C gl e h x K}:NW C gl (.loop AN) ⟨e,h,x⟩ K=yA C gl AN K [(0,bA e 0),(3,bA e 3),(9,bA e 9),(10,bA e 10)] h x:=mB
def z6F:ACode:=(.seq (rg [uO 3 (.box 1)] [0,3])
(.seq (rg [mV 5 0,
uO 6 (.nilchk 5),
fA 7 3 none 6,
lD 8 none 7,
lN 9 8,
mV 10 (cI 0)] [0,3,9,10])
(.block 0 (.loop AN))))
def z0C:AFun:=⟨2,[],z6F,false,false⟩
def HU:Sf C gl z6F e h x K:=⟨_,by simp only[z6F,↓wZ,AO.still];rfl⟩
theorem zkZ {C gl v0 v1 h x K}:NW C gl z0C.body ⟨enter [v0,v1],h,x⟩ K=(HU C gl [(0,v0),(1,v1)] h x K).1:=(HU C gl [(0,v0),(1,v1)] h x K).2
def z6u:ACode:=(.seq (rg [uO 4 (.alloc [.p (.int .i64 0),.p (.int .i64 0)])] [0,1,4])
(.seq (rg [mV 6 0,
mV 7 1,
cL 8 nQ [6,7],
mV 5 8] [0,1,4,5])
(.seq (dr [dF (mV 9 0) [0],
dF (mV 10 5) [5],
dF (bN 11 .quo 9 10) [9,10],
dF (mV 12 1) [1],
dF (mV 13 5) [5],
dF (bN 14 .quo 12 13) [12,13],
dF (uO 15 (.build [.p (.int .i64 0),.p (.int .i64 0)] [(0,1,11),(1,1,14)])) [11,14],
dT (wO (.store (some 2) 4 15)) [4,15]] [4])
.ret)))
def z0t:AFun:=⟨2,[.cell 4 (some 2)],z6u,false,false⟩
def sU:Sf C gl z6u e h x K:=⟨_,by simp only[z6u,↓wZ,AO.still];rfl⟩
theorem zks {C gl v0 v1 h x K}:NW C gl z0t.body ⟨enter [v0,v1],h,x⟩ K=(sU C gl [(0,v0),(1,v1)] h x K).1:=(sU C gl [(0,v0),(1,v1)] h x K).2
def CX:ACode:=.pr [0,1,5,6] (rg [mV 20 6,
bN 21 .add 20 (cI 1),
mV 6 21] [0,1,5,6])
def z3b:Sf C gl CX e h x K:=⟨_,by simp only[CX,↓wZ,AO.still];rfl⟩
theorem zlH:NW C gl CX ⟨e,h,x⟩ K=(z3b C gl e h x K).1:=(z3b ..).2
def KN:ACode:=.pr [0,1,5,6] (.seq (.seq (rg [mV 16 6,
mV 17 0,
lN 18 17,
bN 19 .lss 16 18] [0,1,5,6,19])
(.cond 19 .skip
(.exit 0)))
(.seq (.block 1 (.seq (rg [mV 22 0,
mV 23 6,
iA 24 none 22 23,
lD 25 none 24,
mV 7 25] [0,1,5,6,7])
(.seq (rg [mV 26 1,
mV 27 7,
uO 28 (.callv 26 [27]),
uO 29 (.un .not 28)] [0,1,5,6,7,29])
(.cond 29 (.seq (rg [mV 30 0,
mV 31 5,
mV 32 7,
iA 33 none 30 31,
wO (.store none 33 32)] [0,1,5,6])
(rg [mV 34 5,
bN 35 .add 34 (cI 1),
mV 5 35] [0,1,5,6]))
.skip))))
CX))
def z3c:Sf C gl KN e h x K:=⟨_,by simp only[KN,↓wZ,AO.still];rfl⟩
theorem zlI:NW C gl KN ⟨e,h,x⟩ K=(z3c C gl e h x K).1:=(z3c ..).2
theorem zqe {C gl e h x K}:NW C gl (.loop KN) ⟨e,h,x⟩ K=yA C gl KN K [(0,bA e 0),(1,bA e 1),(5,bA e 5),(6,bA e 6)] h x:=mB
def DX:ACode:=.pr [0,5] (.seq (rg [mV 36 0,
mV 37 5,
uO 38 (.slice none 36 (some 37) none none),
wO (.clr none (.str []) 38)] [0,5])
(.seq (rg [mV 39 0,
mV 40 5,
uO 41 (.slice none 39 none (some 40) none),
mV 4 41] [4])
.ret))
def z3d:Sf C gl DX e h x K:=⟨_,by simp only[DX,↓wZ,AO.still];rfl⟩
theorem zlJ:NW C gl DX ⟨e,h,x⟩ K=(z3d C gl e h x K).1:=(z3d ..).2
def z6W:ACode:=(.seq (rg [mV 4 (.c (.p (.sl none [])))] [0,1])
(.seq (rg [mV 8 0,
mV 9 1,
cL 10 xQ [8,9],
mV 5 10] [0,1,5])
(.seq (.seq (rg [mV 11 5,
bN 12 .eql 11 (cI (-1))] [0,1,5,12])
(.cond 12 (.seq (rg [mV 13 0,
mV 4 13] [4])
.ret)
.skip))
(.seq (.seq (rg [mV 14 5,
bN 15 .add 14 (cI 1),
mV 6 15] [0,1,5,6])
(.block 0 (.loop KN)))
DX))))
def z0L:AFun:=⟨2,[.t 4],z6W,true,false⟩
def QU:Sf C gl z6W e h x K:=⟨_,by simp only[z6W,↓wZ,AO.still];rfl⟩
theorem zlG {C gl v0 v1 h x K}:NW C gl z0L.body ⟨enter [v0,v1],h,x⟩ K=(QU C gl [(0,v0),(1,v1)] h x K).1:=(QU C gl [(0,v0),(1,v1)] h x K).2
def z65:ACode:=(.seq (rg [mV 4 cF] [0,1,2])
(.seq (dr [dF (lD 5 none 1) [1],
dF (uO 6 (.nilchk 5)) [5],
dF (fA 7 2 none 6) [6],
dF (lD 8 none 7) [7],
dF (mV 9 0) [0],
dF (uO 10 (.look (none,[2]) false (.p (.agg [.int .i64 0,.int .i64 0,.str [],.str [],.int .i64 0])) 8 9)) [8,9],
dF (uO 11 (.field 0 none 10)) [10],
dF (bN 12 .neq 11 (cI 1)) [11],
dF (mV 13 12) [12],
dF (gD 14 13 false (.load none 1)) [1,13],
dF (gD 15 13 false (.nilchk 14)) [14,13],
dF (gD 16 13 false (.faddr 2 none 15)) [15,13],
dF (gD 17 13 false (.load none 16)) [16,13],
dF (gD 18 13 false (.mv 0)) [0,13],
dF (gD 19 13 false (.look (none,[2]) false (.p (.agg [.int .i64 0,.int .i64 0,.str [],.str [],.int .i64 0])) 17 18)) [17,18,13],
dF (gD 20 13 false (.field 2 none 19)) [19,13],
dF (gD 21 13 false (.load none 2)) [2,13],
dF (gD 22 13 false (.bin .neq 20 21)) [20,21,13],
dF (uO 23 (.pick 13 cT 22)) [13,22],
dF (mV 4 23) [23]] [4])
.ret))
def z02:AFun:=⟨3,[.t 4],z65,false,false⟩
def CL:Sf C gl z65 e h x K:=⟨_,by simp only[z65,↓wZ,AO.still];rfl⟩
theorem zkC {C gl v0 v1 v2 h x K}:NW C gl z02.body ⟨enter [v0,v1,v2],h,x⟩ K=(CL C gl [(0,v0),(1,v1),(2,v2)] h x K).1:=(CL C gl [(0,v0),(1,v1),(2,v2)] h x K).2
def z7e:ACode:=(rg [mV 4 0,
mV 5 0,
lN 6 5,
mV 7 1,
cL 8 CQ [4,6,7]] [])
def z0S:AFun:=⟨2,[],z7e,true,false⟩
def YU:Sf C gl z7e e h x K:=⟨_,by simp only[z7e,↓wZ,AO.still];rfl⟩
theorem zmb {C gl v0 v1 h x K}:NW C gl z0S.body ⟨enter [v0,v1],h,x⟩ K=(YU C gl [(0,v0),(1,v1)] h x K).1:=(YU C gl [(0,v0),(1,v1)] h x K).2
def z66:ACode:=(.seq (rg [mV 5 (cI 0)] [0,1,2])
(.seq (dr [dF (lD 6 none 2) [2],
dF (uO 7 (.nilchk 6)) [6],
dF (fA 8 2 none 7) [7],
dF (lD 9 none 8) [8],
dF (mV 10 0) [0],
dF (uO 11 (.look (none,[2]) false (.p (.agg [.int .i64 0,.int .i64 0,.str [],.str [],.int .i64 0])) 9 10)) [9,10],
dF (uO 12 (.field 1 none 11)) [11],
dF (lD 13 none 2) [2],
dF (uO 14 (.nilchk 13)) [13],
dF (fA 15 2 none 14) [14],
dF (lD 16 none 15) [15],
dF (mV 17 1) [1],
dF (uO 18 (.look (none,[2]) false (.p (.agg [.int .i64 0,.int .i64 0,.str [],.str [],.int .i64 0])) 16 17)) [16,17],
dF (uO 19 (.field 1 none 18)) [18],
dF (bN 20 .sub 12 19) [12,19],
dT (cL 21 kK [20]) [20],
dF (mV 5 21) [21]] [5])
.ret))
def z03:AFun:=⟨3,[.t 5],z66,false,false⟩
def CU:Sf C gl z66 e h x K:=⟨_,by simp only[z66,↓wZ,AO.still];rfl⟩
theorem zkD {C gl v0 v1 v2 h x K}:NW C gl z03.body ⟨enter [v0,v1,v2],h,x⟩ K=(CU C gl [(0,v0),(1,v1),(2,v2)] h x K).1:=(CU C gl [(0,v0),(1,v1),(2,v2)] h x K).2
def RN:ACode:=.pr [0,1,2,3,8,9] (.seq (.seq (dr [dF (mV 18 9) [9],
dF (mV 19 1) [1],
dF (bN 20 .gtr 18 19) [18,19],
dF (mV 21 20) [20],
dF (gD 22 21 true (.mv 3)) [3,21],
dF (gD 23 21 true (.mv 0)) [0,21],
dF (gD 24 21 true (.mv 9)) [9,21],
dF (gD 25 21 true (.iaddr (some 8) 23 24)) [23,24,21],
dF (gD 26 21 true (.load (some 8) 25)) [25,21],
dF (gD 27 21 true (.mv 0)) [0,21],
dF (gD 28 21 true (.mv 9)) [9,21],
dF (gD 29 21 true (.bin .sub 28 (cI 1))) [28,21],
dF (gD 30 21 true (.iaddr (some 8) 27 29)) [27,29,21],
dF (gD 31 21 true (.load (some 8) 30)) [30,21],
dT (gD 32 21 true (.callv 22 [26,31])) [22,26,31,21],
dF (gD 33 21 true (.bin .lss 32 (cI 0))) [32,21],
dF (uO 34 (.pick 21 33 cF)) [21,33]] [0,1,2,3,8,9,34])
(.cond 34 .skip
(.exit 2)))
(.seq (.block 3 (dr [dF (mV 37 0) [0],
dF (mV 38 9) [9],
dF (mV 39 0) [0],
dF (mV 40 9) [9],
dF (bN 41 .sub 40 (cI 1)) [40],
dF (mV 42 0) [0],
dF (mV 43 9) [9],
dF (bN 44 .sub 43 (cI 1)) [43],
dF (iA 45 (some 8) 42 44) [42,44],
dF (lD 46 (some 8) 45) [45],
dF (mV 47 0) [0],
dF (mV 48 9) [9],
dF (iA 49 (some 8) 47 48) [47,48],
dF (lD 50 (some 8) 49) [49],
dF (iA 51 (some 8) 37 38) [37,38],
dT (wO (.store (some 8) 51 46)) [51,46],
dF (iA 52 (some 8) 39 41) [39,41],
dT (wO (.store (some 8) 52 50)) [52,50]] [0,1,2,3,8,9]))
(rg [mV 35 9,
bN 36 .sub 35 (cI 1),
mV 9 36] [0,1,2,3,8,9])))
def z3o:Sf C gl RN e h x K:=⟨_,by simp only[RN,↓wZ,AO.still];rfl⟩
theorem zme:NW C gl RN ⟨e,h,x⟩ K=(z3o C gl e h x K).1:=(z3o ..).2
theorem zqk {C gl e h x K}:NW C gl (.loop RN) ⟨e,h,x⟩ K=yA C gl RN K [(0,bA e 0),(1,bA e 1),(2,bA e 2),(3,bA e 3),(8,bA e 8),(9,bA e 9)] h x:=mB
def KX:ACode:=.pr [0,1,2,3,8] (rg [mV 15 8,
bN 16 .add 15 (cI 1),
mV 8 16] [0,1,2,3,8])
def z3p:Sf C gl KX e h x K:=⟨_,by simp only[KX,↓wZ,AO.still];rfl⟩
theorem zmf:NW C gl KX ⟨e,h,x⟩ K=(z3p C gl e h x K).1:=(z3p ..).2
def SN:ACode:=.pr [0,1,2,3,8] (.seq (.seq (rg [mV 12 8,
mV 13 2,
bN 14 .lss 12 13] [0,1,2,3,8,14])
(.cond 14 .skip
(.exit 0)))
(.seq (.block 1 (.seq (rg [mV 17 8,
mV 9 17] [0,1,2,3,8,9])
(.block 2 (.loop RN))))
KX))
def z3q:Sf C gl SN e h x K:=⟨_,by simp only[SN,↓wZ,AO.still];rfl⟩
theorem zmg:NW C gl SN ⟨e,h,x⟩ K=(z3q C gl e h x K).1:=(z3q ..).2
theorem zql {C gl e h x K}:NW C gl (.loop SN) ⟨e,h,x⟩ K=yA C gl SN K [(0,bA e 0),(1,bA e 1),(2,bA e 2),(3,bA e 3),(8,bA e 8)] h x:=mB
def z7g:ACode:=(.seq (rg [mV 10 1,
bN 11 .add 10 (cI 1),
mV 8 11] [0,1,2,3,8])
(.block 0 (.loop SN)))
def z0U:AFun:=⟨4,[],z7g,true,false⟩
def PP:Sf C gl z7g e h x K:=⟨_,by simp only[z7g,↓wZ,AO.still];rfl⟩
theorem zmd {C gl v0 v1 v2 v3 h x K}:NW C gl z0U.body ⟨enter [v0,v1,v2,v3],h,x⟩ K=(PP C gl [(0,v0),(1,v1),(2,v2),(3,v3)] h x K).1:=(PP C gl [(0,v0),(1,v1),(2,v2),(3,v3)] h x K).2
def z5U:ACode:=(.seq (rg [mV 4 (cI 0)] [0,1])
(.seq (rg [mV 5 0,
mV 6 1,
cL 7 SH [5,6],
mV 4 7] [4])
.ret))
def MS:AFun:=⟨2,[.t 4],z5U,false,false⟩
def XT:Sf C gl z5U e h x K:=⟨_,by simp only[z5U,↓wZ,AO.still];rfl⟩
theorem zj1 {C gl v0 v1 h x K}:NW C gl MS.body ⟨enter [v0,v1],h,x⟩ K=(XT C gl [(0,v0),(1,v1)] h x K).1:=(XT C gl [(0,v0),(1,v1)] h x K).2
end
end Go.Am
