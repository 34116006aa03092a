/- Texts of the proof, laid together: CodesA, CodesB. -/
import Derived.KernelRfl
import Derived.Test.YthlhdniejglcnaaGreatDoorlawTV4
set_option linter.all false
section
/- The functions asv abstract code,and asv formulas over their values: printed by program out of the translation. -/
set_option linter.all false
set_option maxRecDepth 100000
namespace Go.Am
def DJ:ACode:=.pr [4,5,6,7,8,9,39,40,43,44,45] (.seq (rg [bN 46 .lss 45 44] [4,5,6,7,8,9,39,40,43,44,45,46])
(.seq (.cond 46 .skip
(.exit 2))
(.seq (.block 3 (.seq (rg [iA 47 none 43 45,
lD 48 none 47,
mV 11 48] [4,5,6,7,8,9,11,39,40,43,44,45])
(rg [mV 49 9,
mV 50 11,
mV 51 8,
mV 52 8,
bN 53 .add 52 (cI 1),
uO 54 (.slstr 50 (some 51) (some 53)),
bN 55 .add 49 54,
mV 9 55] [4,5,6,7,8,9,39,40,43,44,45])))
(rg [bN 56 .add 45 (cI 1),
mV 45 56] [4,5,6,7,8,9,39,40,43,44,45]))))
def CI (C:Hd)(gl:GL)(e:En)(h:aA)(x:Esc)(K:KT):Sf C gl DJ e h x K:=⟨_,by simp only[DJ,↓wZ,AO.still];rfl⟩
theorem NO {C gl e h x K}:NW C gl DJ ⟨e,h,x⟩ K=(CI C gl e h x K).1:=(CI C gl e h x K).2
theorem zbu {C gl e h x K}:NW C gl (.loop DJ) ⟨e,h,x⟩ K=RA C gl DJ K [(4,jA e 4),(5,jA e 5),(6,jA e 6),(7,jA e 7),(8,jA e 8),(9,jA e 9),(39,jA e 39),(40,jA e 40),(43,jA e 43),(44,jA e 44),(45,jA e 45)] h x:=XB
def SP:ACode:=.pr [4,5,6,7,9,39,40] (rg [mV 57 7,
mV 58 9,
uO 59 (.build [.p (.int .i64 0),.p (.int .i64 0),.p (.int .i64 0),.p (.str []),.p (.str []),.p (.str [])] [(0,1,(cI 8)),(3,1,58)]),
uO 60 (.bsl false (some 6) 1 (.agg [.int .i64 0,.int .i64 0,.int .i64 0,.str [],.str [],.str []]) [(0,59)]),
uO 61 (.app (some 6) 57 60),
mV 7 61] [4,5,6,7,39,40])
def PK (C:Hd)(gl:GL)(e:En)(h:aA)(x:Esc)(K:KT):Sf C gl SP e h x K:=⟨_,by simp only[SP,↓wZ,AO.still];rfl⟩
theorem tU {C gl e h x K}:NW C gl SP ⟨e,h,x⟩ K=(PK C gl e h x K).1:=(PK C gl e h x K).2
def TP:ACode:=.pr [4,5,6,7,39,40] (rg [bN 62 .add 40 (cI 1),
mV 40 62] [4,5,6,7,39,40])
def QK (C:Hd)(gl:GL)(e:En)(h:aA)(x:Esc)(K:KT):Sf C gl TP e h x K:=⟨_,by simp only[TP,↓wZ,AO.still];rfl⟩
theorem uU {C gl e h x K}:NW C gl TP ⟨e,h,x⟩ K=(QK C gl e h x K).1:=(QK C gl e h x K).2
def EJ:ACode:=.pr [4,5,6,7,39,40] (.seq (rg [bN 41 .lss 40 39] [4,5,6,7,39,40,41])
(.seq (.cond 41 .skip
(.exit 0))
(.seq (.block 1 (.seq (rg [mV 42 40,
mV 8 42] [4,5,6,7,8,39,40])
(.seq (rg [mV 9 (cS [])] [4,5,6,7,8,9,39,40])
(.seq (.seq (rg [mV 43 4,
lN 44 43,
mV 45 (cI 0)] [4,5,6,7,8,9,39,40,43,44,45])
(.block 2 (.loop DJ)))
SP))))
TP)))
def DI (C:Hd)(gl:GL)(e:En)(h:aA)(x:Esc)(K:KT):Sf C gl EJ e h x K:=⟨_,by simp only[EJ,↓wZ,AO.still];rfl⟩
theorem OO {C gl e h x K}:NW C gl EJ ⟨e,h,x⟩ K=(DI C gl e h x K).1:=(DI C gl e h x K).2
theorem zbv {C gl e h x K}:NW C gl (.loop (.scope EJ)) ⟨e,h,x⟩ K=RA C gl (.scope EJ) K [(4,jA e 4),(5,jA e 5),(6,jA e 6),(7,jA e 7),(39,jA e 39),(40,jA e 40)] h x:=GD
def FJ:ACode:=.pr [4,5,98,99,100] (.seq (rg [bN 101 .lss 100 99] [4,5,98,99,100,101])
(.seq (.cond 101 .skip
(.exit 4))
(.seq (.block 5 (.seq (rg [mV 102 100,
iA 103 none 98 100,
lD 104 none 103,
mV 17 102,
mV 18 104] [4,5,17,18,98,99,100])
(.seq (rg [mV 105 17,
bN 106 .gtr 105 (cI 0),
mV 107 106,
gD 108 107 true (.mv 18),
gD 109 107 true (.mv 5),
gD 110 107 true (.call iF [(cS [48]),109]),
gD 111 107 true (.bin .neq 108 110),
uO 112 (.pick 107 111 cF),
mV 113 112,
gD 114 113 false (.mv 17),
gD 115 113 false (.bin .eql 114 (cI 0)),
gD 116 113 false (.mv 115),
gD 117 116 true (.mv 18),
gD 118 116 true (.bin .neq 117 (cS [49,48])),
gD 119 113 false (.pick 116 118 cF),
uO 120 (.pick 113 cT 119)] [4,5,98,99,100,120])
(.cond 120 (.seq (rg [mV 2 cF] [2])
.ret)
.skip))))
(rg [bN 121 .add 100 (cI 1),
mV 100 121] [4,5,98,99,100]))))
def oH (C:Hd)(gl:GL)(e:En)(h:aA)(x:Esc)(K:KT):Sf C gl FJ e h x K:=⟨_,by simp only[FJ,↓wZ,AO.still];rfl⟩
theorem kL {C gl e h x K}:NW C gl FJ ⟨e,h,x⟩ K=(oH C gl e h x K).1:=(oH C gl e h x K).2
theorem zbw {C gl e h x K}:NW C gl (.loop FJ) ⟨e,h,x⟩ K=RA C gl FJ K [(4,jA e 4),(5,jA e 5),(98,jA e 98),(99,jA e 99),(100,jA e 100)] h x:=XB
def UP:ACode:=.pr [4] (.seq (rg [mV 122 4,
cL 123 RI [122],
bN 124 .eql 123 (cI 0),
mV 125 124,
gD 126 125 true (.call SI []),
uO 127 (.pick 125 126 cF),
mV 2 127] [2])
.ret)
def RK (C:Hd)(gl:GL)(e:En)(h:aA)(x:Esc)(K:KT):Sf C gl UP e h x K:=⟨_,by simp only[UP,↓wZ,AO.still];rfl⟩
theorem vU {C gl e h x K}:NW C gl UP ⟨e,h,x⟩ K=(RK C gl e h x K).1:=(RK C gl e h x K).2
def VP:ACode:=.pr [4,5,6,7] (.seq (rg [mV 64 6,
mV 65 7,
cL 66 XI [64,65],
mV 63 66,
eX 67 63 0,
eX 68 63 1,
mV 12 67,
mV 13 68] [4,5,7,12,13])
(.seq (rg [mV 70 7,
cL 71 WI [70],
mV 69 71,
eX 72 69 0,
eX 73 69 1,
eX 74 69 2,
mV 14 72,
mV 15 73,
mV 16 74] [4,5,7,12,13,15,16])
(.seq (.seq (rg [mV 75 13,
bN 76 .neq 75 (cI 0),
mV 77 76,
gD 78 77 false (.mv 16),
gD 79 77 false (.bin .neq 78 (cI 0)),
uO 80 (.pick 77 cT 79),
mV 81 80,
gD 82 81 false (.mv 12),
gD 83 81 false (.len 82),
gD 84 81 false (.mv 7),
gD 85 81 false (.len 84),
gD 86 81 false (.bin .neq 83 85),
uO 87 (.pick 81 cT 86),
mV 88 87,
gD 89 88 false (.mv 15),
gD 90 88 false (.mv 5),
gD 91 88 false (.mv 4),
gD 92 88 false (.iaddr none 91 (cI 0)),
gD 93 88 false (.load none 92),
gD 94 88 false (.lens 93),
gD 95 88 false (.bin .mul 90 94),
gD 96 88 false (.bin .neq 89 95),
uO 97 (.pick 88 cT 96)] [4,5,12,97])
(.cond 97 (.seq (rg [mV 2 cF] [2])
.ret)
.skip))
(.seq (.seq (rg [mV 98 12,
lN 99 98,
mV 100 (cI 0)] [4,5,98,99,100])
(.block 4 (.loop FJ)))
UP))))
def SK (C:Hd)(gl:GL)(e:En)(h:aA)(x:Esc)(K:KT):Sf C gl VP e h x K:=⟨_,by simp only[VP,↓wZ,AO.still];rfl⟩
theorem wU {C gl e h x K}:NW C gl VP ⟨e,h,x⟩ K=(SK C gl e h x K).1:=(SK C gl e h x K).2
def LV:ACode:=(.seq (rg [mV 2 cF] [0])
(.seq (rg [mV 19 0,
uO 20 (.build [.sl0 none,.p (.int .i64 0)] [(0,1,19)]),
uO 21 (.box 20),
mV 3 21] [3])
(.seq (rg [mV 22 3,
cL 23 vL [22],
mV 4 23] [4])
(.seq (rg [mV 24 4,
lN 25 24,
uO 26 (.mx [(cI 1),25]),
mV 5 26] [4,5])
(.seq (rg [mV 27 5,
uO 28 (.build [.p (.str []),.p (.int .i64 0)] [(0,1,(cS [100,97,116,97])),(1,1,27)]),
uO 29 (.bsl false (some 2) 1 (.agg [.str [],.int .i64 0]) [(0,28)]),
uO 30 (.build [.p (.str []),.p (.str [])] [(0,1,(cS [48,48])),(1,1,(cS [100,97,116,97]))]),
uO 31 (.bsl false (some 2) 1 (.agg [.str [],.str []]) [(0,30)]),
uO 32 (.build [.p (.str []),.p (.int .i64 0),.p (.int .i64 0),.sl0 (some 2),.sl0 (some 2)] [(0,1,(cS [117])),(1,1,(cI 2)),(3,1,29),(4,1,31)]),
uO 33 (.bsl false (some 5) 1 (.agg [.str [],.int .i64 0,.int .i64 0,.sl (some 2) [],.sl (some 2) []]) [(0,32)]),
mV 6 33] [4,5,6])
(.seq (rg [uO 34 (.build [.p (.int .i64 0),.p (.int .i64 0),.p (.int .i64 0),.p (.str []),.p (.str []),.p (.str [])] [(0,1,(cI 7)),(3,1,(cS [48,48]))]),
uO 35 (.bsl true (some 6) 1 (.agg [.int .i64 0,.int .i64 0,.int .i64 0,.str [],.str [],.str []]) [(0,34)]),
mV 7 35] [4,5,6,7])
(.seq (.seq (rg [mV 36 4,
iA 37 none 36 (cI 0),
lD 38 none 37,
uO 39 (.lens 38),
mV 40 (cI 0)] [4,5,6,7,39,40])
(.block 0 (.loop (.scope EJ))))
VP)))))))
def ZR:AFun:=⟨1,[.t 2],LV,false,false⟩
def WN (C:Hd)(gl:GL)(e:En)(h:aA)(x:Esc)(K:KT):Sf C gl LV e h x K:=⟨_,by simp only[LV,↓wZ,AO.still];rfl⟩
theorem z8L {C gl v0 h x K}:NW C gl ZR.body ⟨enter [v0],h,x⟩ K=(WN C gl [(0,v0)] h x K).1:=(WN C gl [(0,v0)] h x K).2
def FV:ACode:=(.seq (rg [mV 6 (cI 0)] [0,1,2])
(.seq (.seq (rg [mV 7 2,
mV 8 1,
bN 9 .lss 7 8] [0,1,2,9])
(.cond 9 (.seq (rg [mV 10 1,
mV 6 10] [6])
.ret)
.skip))
(.seq (rg [mV 11 1,
mV 12 0,
mV 13 2,
mV 14 1,
bN 15 .sub 13 14,
bN 16 .add 15 (cI 1),
cL 17 FE [12,16],
bN 18 .add 11 17,
mV 6 18] [6])
.ret)))
def SR:AFun:=⟨3,[.t 6],FV,false,false⟩
def RN (C:Hd)(gl:GL)(e:En)(h:aA)(x:Esc)(K:KT):Sf C gl FV e h x K:=⟨_,by simp only[FV,↓wZ,AO.still];rfl⟩
theorem z89 {C gl v0 v1 v2 h x K}:NW C gl SR.body ⟨enter [v0,v1,v2],h,x⟩ K=(RN C gl [(0,v0),(1,v1),(2,v2)] h x K).1:=(RN C gl [(0,v0),(1,v1),(2,v2)] h x K).2
def vW:ACode:=(.seq (rg [mV 4 (.c (.p (.sl none []))),
mV 5 (cI 0)] [0,1])
(.seq (.seq (rg [mV 7 0,
mV 8 1,
cL 9 ZL [7,8],
mV 6 9] [0,1,6])
(.seq (rg [mV 10 6,
bN 11 .neq 10 (cI 0)] [0,1,6,11])
(.cond 11 (.seq (rg [mV 12 6,
mV 4 (.c (.p (.sl none []))),
mV 5 12] [4,5])
.ret)
.skip)))
(.seq (rg [mV 13 0,
mV 14 1,
cL 15 YL [13,14],
mV 4 15,
mV 5 (cI 0)] [4,5])
.ret)))
def IS:AFun:=⟨2,[.t 4,.t 5],vW,false,false⟩
def aL (C:Hd)(gl:GL)(e:En)(h:aA)(x:Esc)(K:KT):Sf C gl vW e h x K:=⟨_,by simp only[vW,↓wZ,AO.still];rfl⟩
theorem z9A {C gl v0 v1 h x K}:NW C gl IS.body ⟨enter [v0,v1],h,x⟩ K=(aL C gl [(0,v0),(1,v1)] h x K).1:=(aL C gl [(0,v0),(1,v1)] h x K).2
def AJ:ACode:=.pr [0,4] (.seq (rg [bN 5 .lss 4 (cI 6)] [0,4,5])
(.seq (.cond 5 .skip
(.exit 0))
(.seq (.block 1 (.seq (rg [mV 6 0,
cL 7 uL [6],
mV 3 7] [0,3,4])
(.seq (rg [mV 8 3,
cL 9 RI [8],
bN 10 .eql 9 (cI 0),
mV 11 10,
gD 12 11 true (.mv 3),
gD 13 11 true (.iaddr none 12 (cI 0)),
gD 14 11 true (.load none 13),
gD 15 11 true (.lens 14),
gD 16 11 true (.bin .lss 15 (cI 20)),
uO 17 (.pick 11 16 cF)] [0,3,4,17])
(.cond 17 (.seq (rg [mV 18 3,
mV 2 18] [2])
.ret)
.skip))))
(rg [bN 19 .add 4 (cI 1),
mV 4 19] [0,4]))))
def HT (C:Hd)(gl:GL)(e:En)(h:aA)(x:Esc)(K:KT):Sf C gl AJ e h x K:=⟨_,by simp only[AJ,↓wZ,AO.still];rfl⟩
theorem z8B {C gl e h x K}:NW C gl AJ ⟨e,h,x⟩ K=(HT C gl e h x K).1:=(HT C gl e h x K).2
theorem zbr {C gl e h x K}:NW C gl (.loop AJ) ⟨e,h,x⟩ K=RA C gl AJ K [(0,jA e 0),(4,jA e 4)] h x:=XB
def PP:ACode:=.pr [] (.seq (rg [uO 20 (.bsl false none 2 (.str []) [(0,(cS [48,49])),(1,(cS [49,48]))]),
mV 2 20] [2])
.ret)
def IT (C:Hd)(gl:GL)(e:En)(h:aA)(x:Esc)(K:KT):Sf C gl PP e h x K:=⟨_,by simp only[PP,↓wZ,AO.still];rfl⟩
theorem z8C {C gl e h x K}:NW C gl PP ⟨e,h,x⟩ K=(IT C gl e h x K).1:=(IT C gl e h x K).2
def GV:ACode:=(.seq (rg [mV 2 (.c (.p (.sl none [])))] [0])
(.seq (.seq (rg [mV 4 (cI 0)] [0,4])
(.block 0 (.loop AJ)))
PP))
def UR:AFun:=⟨1,[.t 2],GV,false,false⟩
def SN (C:Hd)(gl:GL)(e:En)(h:aA)(x:Esc)(K:KT):Sf C gl GV e h x K:=⟨_,by simp only[GV,↓wZ,AO.still];rfl⟩
theorem z8A {C gl v0 h x K}:NW C gl UR.body ⟨enter [v0],h,x⟩ K=(SN C gl [(0,v0)] h x K).1:=(SN C gl [(0,v0)] h x K).2
def tW:ACode:=(.seq (rg [mV 2 (cI 0),
mV 3 (cI 0),
mV 4 (cI 0)] [0])
(.seq (.seq (rg [mV 7 0,
cL 8 JF [7],
mV 5 8] [0,5])
(.seq (rg [mV 9 5,
bN 10 .neq 9 (cI 0)] [0,5,10])
(.cond 10 (.seq (rg [mV 11 5,
mV 2 (cI 0),
mV 3 (cI 0),
mV 4 11] [2,3,4])
.ret)
.skip)))
(.seq (rg [mV 12 0,
cL 13 GE [12,(.c (.nilp))],
mV 6 13] [6])
(.seq (dr [dF (mV 14 6) [6],
dF (uO 15 (.nilchk 14)) [14],
dF (fA 16 38 none 15) [15],
dF (lD 17 none 16) [16],
dF (mV 18 6) [6],
dF (uO 19 (.nilchk 18)) [18],
dF (fA 20 39 none 19) [19],
dF (lD 21 none 20) [20],
dF (mV 2 17) [17],
dF (mV 3 21) [21],
dF (mV 4 (cI 0)) []] [2,3,4])
.ret))))
def GS:AFun:=⟨1,[.t 2,.t 3,.t 4],tW,false,false⟩
def YK (C:Hd)(gl:GL)(e:En)(h:aA)(x:Esc)(K:KT):Sf C gl tW e h x K:=⟨_,by simp only[tW,↓wZ,AO.still];rfl⟩
theorem z96 {C gl v0 h x K}:NW C gl GS.body ⟨enter [v0],h,x⟩ K=(YK C gl [(0,v0)] h x K).1:=(YK C gl [(0,v0)] h x K).2
def BJ:ACode:=.pr [0,13,14,15] (.seq (rg [bN 16 .lss 15 14] [0,13,14,15,16])
(.seq (.cond 16 .skip
(.exit 1))
(.seq (.block 2 (.seq (rg [iA 17 none 13 15,
lD 18 none 17,
mV 4 18] [0,4,13,14,15])
(.block 3 (.seq (rg [mV 20 4,
cL 21 wL [20],
uO 22 (.un .not 21),
mV 19 22] [0,4,13,14,15,19])
(.cond 19 (.seq (rg [mV 2 (cI 3)] [2])
.ret)
(.seq (rg [mV 24 4,
uO 25 (.lens 24),
bN 26 .gtr 25 (cI 64),
mV 23 26] [0,4,13,14,15,23])
(.cond 23 (.seq (rg [mV 2 (cI 2)] [2])
.ret)
(.seq (rg [mV 28 4,
uO 29 (.lens 28),
mV 30 0,
iA 31 none 30 (cI 0),
lD 32 none 31,
uO 33 (.lens 32),
bN 34 .neq 29 33,
mV 27 34] [0,13,14,15,27])
(.cond 27 (.seq (rg [mV 2 (cI 3)] [2])
.ret)
.skip)))))))))
(rg [bN 35 .add 15 (cI 1),
mV 15 35] [0,13,14,15]))))
def JT (C:Hd)(gl:GL)(e:En)(h:aA)(x:Esc)(K:KT):Sf C gl BJ e h x K:=⟨_,by simp only[BJ,↓wZ,AO.still];rfl⟩
theorem z8G {C gl e h x K}:NW C gl BJ ⟨e,h,x⟩ K=(JT C gl e h x K).1:=(JT C gl e h x K).2
theorem zbs {C gl e h x K}:NW C gl (.loop BJ) ⟨e,h,x⟩ K=RA C gl BJ K [(0,jA e 0),(13,jA e 13),(14,jA e 14),(15,jA e 15)] h x:=XB
def QP:ACode:=.pr [] (.seq (rg [mV 2 (cI 0)] [2])
.ret)
def LT (C:Hd)(gl:GL)(e:En)(h:aA)(x:Esc)(K:KT):Sf C gl QP e h x K:=⟨_,by simp only[QP,↓wZ,AO.still];rfl⟩
theorem z8H {C gl e h x K}:NW C gl QP ⟨e,h,x⟩ K=(LT C gl e h x K).1:=(LT C gl e h x K).2
def JV:ACode:=(.seq (rg [mV 2 (cI 0)] [0])
(.seq (.block 0 (.seq (rg [mV 6 0,
lN 7 6,
bN 8 .eql 7 (cI 0),
mV 5 8] [0,5])
(.cond 5 (.seq (rg [mV 2 (cI 8)] [2])
.ret)
(.seq (rg [mV 10 0,
lN 11 10,
bN 12 .gtr 11 (cI 100),
mV 9 12] [0,9])
(.cond 9 (.seq (rg [mV 2 (cI 2)] [2])
.ret)
.skip)))))
(.seq (.seq (rg [mV 13 0,
lN 14 13,
mV 15 (cI 0)] [0,13,14,15])
(.block 1 (.loop BJ)))
QP)))
def XR:AFun:=⟨1,[.t 2],JV,false,false⟩
def BI (C:Hd)(gl:GL)(e:En)(h:aA)(x:Esc)(K:KT):Sf C gl JV e h x K:=⟨_,by simp only[JV,↓wZ,AO.still];rfl⟩
theorem z8F {C gl v0 h x K}:NW C gl XR.body ⟨enter [v0],h,x⟩ K=(BI C gl [(0,v0)] h x K).1:=(BI C gl [(0,v0)] h x K).2
def DV:ACode:=(.seq (rg [mV 4 (cI 0)] [0,1])
(.seq (rg [mV 7 0,
uO 8 (.nilchk 7),
fA 9 1 none 8,
lD 10 none 9,
bN 11 .add 10 (cI 1),
uO 12 (.nilchk 7),
fA 13 1 none 12,
wO (.store none 13 11)] [0,1])
(.seq (.seq (rg [mV 14 0,
uO 15 (.nilchk 14),
fA 16 0 none 15,
lD 17 none 16,
lN 18 17,
bN 19 .eql 18 (cI 0)] [0,1,19])
(.cond 19 (.seq (rg [mV 20 0,
uO 21 (.nilchk 20),
fA 22 1 none 21,
lD 23 none 22,
bN 24 .mul 23 (cI 7919),
mV 25 1,
cL 26 rH [24,25],
mV 4 26] [4])
.ret)
.skip))
(.seq (dr [dF (mV 27 0) [0],
dF (uO 28 (.nilchk 27)) [27],
dF (fA 29 1 none 28) [28],
dF (lD 30 none 29) [29],
dF (bN 31 .sub 30 (cI 1)) [30],
dF (mV 32 0) [0],
dF (uO 33 (.nilchk 32)) [32],
dF (fA 34 0 none 33) [33],
dF (lD 35 none 34) [34],
dF (lN 36 35) [35],
dF (bN 37 .rem 31 36) [31,36],
dF (mV 5 37) [37]] [0,1,5])
(.seq (dr [dF (mV 38 0) [0],
dF (uO 39 (.nilchk 38)) [38],
dF (fA 40 1 none 39) [39],
dF (lD 41 none 40) [40],
dF (bN 42 .sub 41 (cI 1)) [41],
dF (mV 43 0) [0],
dF (uO 44 (.nilchk 43)) [43],
dF (fA 45 0 none 44) [44],
dF (lD 46 none 45) [45],
dF (lN 47 46) [46],
dF (bN 48 .quo 42 47) [42,47],
dF (mV 6 48) [48]] [0,1,5,6])
(.seq (rg [mV 49 0,
uO 50 (.nilchk 49),
fA 51 0 none 50,
lD 52 none 51,
mV 53 5,
iA 54 none 52 53,
lD 55 none 54,
cL 56 rH [55,(cI 1073741824)],
mV 57 6,
mV 58 5,
bN 59 .add (cI 7919) 58,
bN 60 .mul 57 59,
bN 61 .add 56 60,
mV 62 1,
cL 63 rH [61,62],
mV 4 63] [4])
.ret))))))
def PR:AFun:=⟨2,[.t 4],DV,false,false⟩
def OK (C:Hd)(gl:GL)(e:En)(h:aA)(x:Esc)(K:KT):Sf C gl DV e h x K:=⟨_,by simp only[DV,↓wZ,AO.still];rfl⟩
theorem z87 {C gl v0 v1 h x K}:NW C gl PR.body ⟨enter [v0,v1],h,x⟩ K=(OK C gl [(0,v0),(1,v1)] h x K).1:=(OK C gl [(0,v0),(1,v1)] h x K).2
def HV:ACode:=(.seq (rg [mV 4 (cS [])] [0,1])
(.seq (rg [mV 5 1,
mV 6 0,
mV 7 1,
lN 8 7,
cL 9 FE [6,8],
iA 10 none 5 9,
lD 11 none 10,
mV 4 11] [4])
.ret))
def VR:AFun:=⟨2,[.t 4],HV,false,false⟩
def TN (C:Hd)(gl:GL)(e:En)(h:aA)(x:Esc)(K:KT):Sf C gl HV e h x K:=⟨_,by simp only[HV,↓wZ,AO.still];rfl⟩
theorem z8D {C gl v0 v1 h x K}:NW C gl VR.body ⟨enter [v0,v1],h,x⟩ K=(TN C gl [(0,v0),(1,v1)] h x K).1:=(TN C gl [(0,v0),(1,v1)] h x K).2
def CV:ACode:=(.seq (rg [mV 4 cF] [0,1])
(.seq (rg [mV 5 0,
mV 6 1,
cL 7 FE [5,6],
bN 8 .eql 7 (cI 0),
mV 4 8] [4])
.ret))
def OR:AFun:=⟨2,[.t 4],CV,false,false⟩
def PN (C:Hd)(gl:GL)(e:En)(h:aA)(x:Esc)(K:KT):Sf C gl CV e h x K:=⟨_,by simp only[CV,↓wZ,AO.still];rfl⟩
theorem z86 {C gl v0 v1 h x K}:NW C gl OR.body ⟨enter [v0,v1],h,x⟩ K=(PN C gl [(0,v0),(1,v1)] h x K).1:=(PN C gl [(0,v0),(1,v1)] h x K).2
def EV:ACode:=(.seq (rg [mV 4 (cI 0)] [0,1])
(.seq (rg [mV 5 1,
mV 6 0,
mV 7 1,
lN 8 7,
cL 9 FE [6,8],
iA 10 none 5 9,
lD 11 none 10,
mV 4 11] [4])
.ret))
def QR:AFun:=⟨2,[.t 4],EV,false,false⟩
def QN (C:Hd)(gl:GL)(e:En)(h:aA)(x:Esc)(K:KT):Sf C gl EV e h x K:=⟨_,by simp only[EV,↓wZ,AO.still];rfl⟩
theorem z88 {C gl v0 v1 h x K}:NW C gl QR.body ⟨enter [v0,v1],h,x⟩ K=(QN C gl [(0,v0),(1,v1)] h x K).1:=(QN C gl [(0,v0),(1,v1)] h x K).2
def CW:ACode:=(.seq (rg [mV 4 (cI 0)] [0,1])
(.seq (rg [mV 5 0,
cL 6 AG [5],
mV 7 1,
cL 8 JF [7],
uO 9 (.bsl false none 2 (.int .i64 0) [(0,6),(1,8)]),
cL 10 uG [9],
mV 4 10] [4])
.ret))
def KS:AFun:=⟨2,[.t 4],CW,false,false⟩
def GO (C:Hd)(gl:GL)(e:En)(h:aA)(x:Esc)(K:KT):Sf C gl CW e h x K:=⟨_,by simp only[CW,↓wZ,AO.still];rfl⟩
theorem z9J {C gl v0 v1 h x K}:NW C gl KS.body ⟨enter [v0,v1],h,x⟩ K=(GO C gl [(0,v0),(1,v1)] h x K).1:=(GO C gl [(0,v0),(1,v1)] h x K).2
def sQ:ACode:=.pr [5,6,8,11,29,30,31] (rg [mV 59 8,
mV 60 11,
uO 61 (.bsl false none 1 (.str []) [(0,60)]),
uO 62 (.app none 59 61),
mV 8 62] [5,6,8,29,30,31])
def dL (C:Hd)(gl:GL)(e:En)(h:aA)(x:Esc)(K:KT):Sf C gl sQ e h x K:=⟨_,by simp only[sQ,↓wZ,AO.still];rfl⟩
theorem DU {C gl e h x K}:NW C gl sQ ⟨e,h,x⟩ K=(dL C gl e h x K).1:=(dL C gl e h x K).2
def tQ:ACode:=.pr [5,6,8,29,30,31] (rg [bN 63 .add 31 (cI 1),
mV 31 63] [5,6,8,29,30,31])
def eL (C:Hd)(gl:GL)(e:En)(h:aA)(x:Esc)(K:KT):Sf C gl tQ e h x K:=⟨_,by simp only[tQ,↓wZ,AO.still];rfl⟩
theorem EU {C gl e h x K}:NW C gl tQ ⟨e,h,x⟩ K=(eL C gl e h x K).1:=(eL C gl e h x K).2
def TJ:ACode:=.pr [5,6,8,29,30,31] (.seq (rg [bN 32 .lss 31 30] [5,6,8,29,30,31,32])
(.seq (.cond 32 .skip
(.exit 0))
(.seq (.block 1 (.seq (rg [mV 33 31,
iA 34 (some 6) 29 31,
lD 35 (some 6) 34,
uO 10 (.alloc [.p (.int .i64 0),.p (.int .i64 0),.p (.int .i64 0),.p (.str []),.p (.str []),.p (.str [])]),
mV 9 33,
wO (.store (some 6) 10 35)] [5,6,8,9,10,29,30,31])
(.seq (rg [mV 11 (cS [])] [5,6,8,9,10,11,29,30,31])
(.seq (.seq (rg [fA 36 0 none 10,
lD 37 none 36,
cL 38 KF [37]] [5,6,8,9,10,11,29,30,31,38])
(.cond 38 (dr [dF (mV 39 6) [6],
dF (mV 40 5) [5],
dF (uO 41 (.nilchk 40)) [40],
dF (fA 42 41 none 41) [41],
dF (lD 43 none 42) [42],
dF (mV 44 9) [9],
dF (iA 45 none 43 44) [43,44],
dF (lD 46 none 45) [45],
dF (mV 47 5) [5],
dF (uO 48 (.nilchk 47)) [47],
dF (fA 49 41 none 48) [48],
dF (lD 50 none 49) [49],
dF (mV 51 9) [9],
dF (iA 52 none 50 51) [50,51],
dF (lD 53 none 52) [52],
dF (fA 54 3 none 10) [10],
dF (lD 55 none 54) [54],
dF (uO 56 (.lens 55)) [55],
dF (bN 57 .add 53 56) [53,56],
dF (uO 58 (.slstr 39 (some 46) (some 57))) [39,46,57],
dF (mV 11 58) [58]] [5,6,8,11,29,30,31])
.skip))
sQ))))
tQ)))
def MI (C:Hd)(gl:GL)(e:En)(h:aA)(x:Esc)(K:KT):Sf C gl TJ e h x K:=⟨_,by simp only[TJ,↓wZ,AO.still];rfl⟩
theorem SO {C gl e h x K}:NW C gl TJ ⟨e,h,x⟩ K=(MI C gl e h x K).1:=(MI C gl e h x K).2
theorem zbD {C gl e h x K}:NW C gl (.loop (.scope TJ)) ⟨e,h,x⟩ K=RA C gl (.scope TJ) K [(5,jA e 5),(6,jA e 6),(8,jA e 8),(29,jA e 29),(30,jA e 30),(31,jA e 31)] h x:=GD
def uQ:ACode:=.pr [8] (.seq (rg [mV 64 8,
mV 4 64] [4])
.ret)
def FO (C:Hd)(gl:GL)(e:En)(h:aA)(x:Esc)(K:KT):Sf C gl uQ e h x K:=⟨_,by simp only[uQ,↓wZ,AO.still];rfl⟩
theorem PZ {C gl e h x K}:NW C gl uQ ⟨e,h,x⟩ K=(FO C gl e h x K).1:=(FO C gl e h x K).2
def BW:ACode:=(.seq (rg [mV 4 (.c (.p (.sl none [])))] [0,1])
(.seq (rg [mV 12 1,
cL 13 aM [12],
mV 5 13] [0,1,5])
(.seq (dr [dF (mV 15 0) [0],
dF (mV 16 5) [5],
dF (uO 17 (.nilchk 16)) [16],
dF (fA 18 42 none 17) [17],
dF (lD 19 none 18) [18],
dF (uO 20 (.conv .b2s 19)) [19],
dF (mV 21 5) [5],
dF (uO 22 (.nilchk 21)) [21],
dF (fA 23 43 none 22) [22],
dF (lD 24 none 23) [23],
dF (uO 25 (.conv .b2s 24)) [24],
dT (cL 26 OL [15,20,25]) [15,20,25],
dF (mV 14 26) [26],
dF (eX 27 14 0) [14],
dF (eX 28 14 1) [14],
dF (mV 6 27) [27],
dF (mV 7 28) [28]] [1,5,6])
(.seq (rg [uO 8 (.new0 none)] [1,5,6,8])
(.seq (.seq (rg [mV 29 1,
lN 30 29,
mV 31 (cI 0)] [5,6,8,29,30,31])
(.block 0 (.loop (.scope TJ))))
uQ)))))
def JS:AFun:=⟨2,[.t 4],BW,false,false⟩
def EO (C:Hd)(gl:GL)(e:En)(h:aA)(x:Esc)(K:KT):Sf C gl BW e h x K:=⟨_,by simp only[BW,↓wZ,AO.still];rfl⟩
theorem z9I {C gl v0 v1 h x K}:NW C gl JS.body ⟨enter [v0,v1],h,x⟩ K=(EO C gl [(0,v0),(1,v1)] h x K).1:=(EO C gl [(0,v0),(1,v1)] h x K).2
def wW:ACode:=(.seq (rg [mV 2 cF] [0])
(.seq (rg [mV 3 0,
bN 4 .eql 3 (cI 7),
mV 5 4,
gD 6 5 false (.mv 0),
gD 7 5 false (.bin .eql 6 (cI 8)),
uO 8 (.pick 5 cT 7),
mV 2 8] [2])
.ret))
def gN:AFun:=⟨1,[.t 2],wW,false,false⟩
def KI (C:Hd)(gl:GL)(e:En)(h:aA)(x:Esc)(K:KT):Sf C gl wW e h x K:=⟨_,by simp only[wW,↓wZ,AO.still];rfl⟩
theorem z9B {C gl v0 h x K}:NW C gl gN.body ⟨enter [v0],h,x⟩ K=(KI C gl [(0,v0)] h x K).1:=(KI C gl [(0,v0)] h x K).2
def OV:ACode:=(.seq (rg [mV 4 cF] [0,1])
(.seq (rg [mV 5 0,
mV 6 1,
cL 7 EL [5,6],
bN 8 .geq 7 (cI 0),
mV 4 8] [4])
.ret))
def dS:AFun:=⟨2,[.t 4],OV,true,false⟩
def ZN (C:Hd)(gl:GL)(e:En)(h:aA)(x:Esc)(K:KT):Sf C gl OV e h x K:=⟨_,by simp only[OV,↓wZ,AO.still];rfl⟩
theorem z8O {C gl v0 v1 h x K}:NW C gl dS.body ⟨enter [v0,v1],h,x⟩ K=(ZN C gl [(0,v0),(1,v1)] h x K).1:=(ZN C gl [(0,v0),(1,v1)] h x K).2
def xJ:ACode:=.pr [0,3,4,5,11,12,14,15] (.seq (rg [bN 16 .lss 15 14] [0,3,4,5,11,12,14,15,16])
(.seq (.cond 16 .skip
(.exit 2))
(.seq (.block 3 (rg [mV 17 5,
mV 18 0,
uO 19 (.bsl false none 2 (.str []) [(0,(cS [48])),(1,(cS [49]))]),
cL 20 zG [18,19],
bN 21 .add 17 20,
mV 5 21] [0,3,4,5,11,12,14,15]))
(rg [bN 22 .add 15 (cI 1),
mV 15 22] [0,3,4,5,11,12,14,15]))))
def AT (C:Hd)(gl:GL)(e:En)(h:aA)(x:Esc)(K:KT):Sf C gl xJ e h x K:=⟨_,by simp only[xJ,↓wZ,AO.still];rfl⟩
theorem z8z {C gl e h x K}:NW C gl xJ ⟨e,h,x⟩ K=(AT C gl e h x K).1:=(AT C gl e h x K).2
theorem zbo {C gl e h x K}:NW C gl (.loop xJ) ⟨e,h,x⟩ K=RA C gl xJ K [(0,jA e 0),(3,jA e 3),(4,jA e 4),(5,jA e 5),(11,jA e 11),(12,jA e 12),(14,jA e 14),(15,jA e 15)] h x:=XB
def LP:ACode:=.pr [0,3,4,5,11,12] (rg [mV 23 3,
mV 24 5,
uO 25 (.bsl false none 1 (.str []) [(0,24)]),
uO 26 (.app none 23 25),
mV 3 26] [0,3,4,11,12])
def BT (C:Hd)(gl:GL)(e:En)(h:aA)(x:Esc)(K:KT):Sf C gl LP e h x K:=⟨_,by simp only[LP,↓wZ,AO.still];rfl⟩
theorem z80 {C gl e h x K}:NW C gl LP ⟨e,h,x⟩ K=(BT C gl e h x K).1:=(BT C gl e h x K).2
def MP:ACode:=.pr [0,3,4,11,12] (rg [bN 27 .add 12 (cI 1),
mV 12 27] [0,3,4,11,12])
def CT (C:Hd)(gl:GL)(e:En)(h:aA)(x:Esc)(K:KT):Sf C gl MP e h x K:=⟨_,by simp only[MP,↓wZ,AO.still];rfl⟩
theorem z81 {C gl e h x K}:NW C gl MP ⟨e,h,x⟩ K=(CT C gl e h x K).1:=(CT C gl e h x K).2
def yJ:ACode:=.pr [0,3,4,11,12] (.seq (rg [bN 13 .lss 12 11] [0,3,4,11,12,13])
(.seq (.cond 13 .skip
(.exit 0))
(.seq (.block 1 (.seq (rg [mV 5 (cS [])] [0,3,4,5,11,12])
(.seq (.seq (rg [mV 14 4,
mV 15 (cI 0)] [0,3,4,5,11,12,14,15])
(.block 2 (.loop xJ)))
LP)))
MP)))
def DT (C:Hd)(gl:GL)(e:En)(h:aA)(x:Esc)(K:KT):Sf C gl yJ e h x K:=⟨_,by simp only[yJ,↓wZ,AO.still];rfl⟩
theorem z82 {C gl e h x K}:NW C gl yJ ⟨e,h,x⟩ K=(DT C gl e h x K).1:=(DT C gl e h x K).2
theorem zbp {C gl e h x K}:NW C gl (.loop (.scope yJ)) ⟨e,h,x⟩ K=RA C gl (.scope yJ) K [(0,jA e 0),(3,jA e 3),(4,jA e 4),(11,jA e 11),(12,jA e 12)] h x:=GD
def zJ:ACode:=.pr [0,3,50,51] (.seq (rg [bN 52 .lss 51 50] [0,3,50,51,52])
(.seq (.cond 52 .skip
(.exit 5))
(.seq (.block 6 (.seq (rg [mV 53 51,
mV 6 53] [0,3,6,50,51])
(rg [mV 54 3,
mV 55 6,
mV 56 0,
uO 57 (.bsl false none 3 (.str []) [(0,(cS [48])),(1,(cS [49])),(2,(cS [48,49]))]),
cL 58 zG [56,57],
mV 59 0,
cL 60 yG [59,(cI 0),(cI 1)],
bN 61 .add (cI 32) 60,
cL 62 iF [58,61],
mV 63 0,
cL 64 yG [63,(cI 0),(cI 32)],
cL 65 iF [(cS [49]),64],
bN 66 .add 62 65,
iA 67 none 54 55,
wO (.store none 67 66)] [0,3,50,51])))
(rg [bN 68 .add 51 (cI 1),
mV 51 68] [0,3,50,51]))))
def ET (C:Hd)(gl:GL)(e:En)(h:aA)(x:Esc)(K:KT):Sf C gl zJ e h x K:=⟨_,by simp only[zJ,↓wZ,AO.still];rfl⟩
theorem z83 {C gl e h x K}:NW C gl zJ ⟨e,h,x⟩ K=(ET C gl e h x K).1:=(ET C gl e h x K).2
theorem zbq {C gl e h x K}:NW C gl (.loop zJ) ⟨e,h,x⟩ K=RA C gl zJ K [(0,jA e 0),(3,jA e 3),(50,jA e 50),(51,jA e 51)] h x:=XB
def NP:ACode:=.pr [3] (.seq (rg [mV 69 3,
mV 2 69] [2])
.ret)
def FT (C:Hd)(gl:GL)(e:En)(h:aA)(x:Esc)(K:KT):Sf C gl NP e h x K:=⟨_,by simp only[NP,↓wZ,AO.still];rfl⟩
theorem z84 {C gl e h x K}:NW C gl NP ⟨e,h,x⟩ K=(FT C gl e h x K).1:=(FT C gl e h x K).2
def OP:ACode:=.pr [0,3] (.seq (.block 4 (.seq (rg [mV 29 0,
cL 30 xG [29,(cI 20)],
mV 28 30] [0,3,28])
(.cond 28 (dr [dF (mV 31 3) [3],
dF (mV 32 0) [0],
dF (mV 33 3) [3],
dF (lN 34 33) [33],
dT (cL 35 FE [32,34]) [32,34],
dF (iA 36 none 31 35) [31,35],
dF (lD 37 none 36) [36],
dF (mV 38 0) [0],
dA (uO 39 (.bsl false none 2 (.str []) [(0,(cS [48])),(1,(cS [120]))])) [] false [4] [],
dA (cL 40 zG [38,39]) [38,39] true [] [5,6],
dF (bN 41 .add 37 40) [37,40],
dF (iA 42 none 31 35) [31,35],
dT (wO (.store none 42 41)) [42,41]] [3])
(.seq (rg [mV 44 0,
cL 45 xG [44,(cI 40)],
mV 43 45] [0,3,43])
(.cond 43 (.seq (rg [mV 2 (.c (.p (.sl none [])))] [2])
.ret)
(.seq (rg [mV 47 0,
cL 48 xG [47,(cI 40)],
mV 46 48] [0,3,46])
(.cond 46 (.seq (rg [mV 49 3,
lN 50 49,
mV 51 (cI 0)] [0,3,50,51])
(.block 5 (.loop zJ)))
.skip)))))))
NP)
def GT (C:Hd)(gl:GL)(e:En)(h:aA)(x:Esc)(K:KT):Sf C gl OP e h x K:=⟨_,by simp only[OP,↓wZ,AO.still];rfl⟩
theorem z85 {C gl e h x K}:NW C gl OP ⟨e,h,x⟩ K=(GT C gl e h x K).1:=(GT C gl e h x K).2
def BV:ACode:=(.seq (rg [mV 2 (.c (.p (.sl none [])))] [0])
(.seq (rg [uO 3 (.new0 none)] [0,3])
(.seq (rg [mV 7 0,
uO 8 (.bsl false none 6 (.int .i64 0) [(0,(cI 0)),(1,(cI 1)),(2,(cI 2)),(3,(cI 3)),(4,(cI 4)),(5,(cI 5))]),
cL 9 QI [7,8],
mV 4 9] [0,3,4])
(.seq (.seq (rg [mV 10 0,
cL 11 yG [10,(cI 1),(cI 5)],
mV 12 (cI 0)] [0,3,4,11,12])
(.block 0 (.loop (.scope yJ))))
OP))))
def NR:AFun:=⟨1,[.t 2],BV,false,false⟩
def ON (C:Hd)(gl:GL)(e:En)(h:aA)(x:Esc)(K:KT):Sf C gl BV e h x K:=⟨_,by simp only[BV,↓wZ,AO.still];rfl⟩
theorem z8y {C gl v0 h x K}:NW C gl NR.body ⟨enter [v0],h,x⟩ K=(ON C gl [(0,v0)] h x K).1:=(ON C gl [(0,v0)] h x K).2
def SJ:ACode:=.pr [0,10,11,12] (.seq (rg [bN 13 .lss 12 11] [0,10,11,12,13])
(.seq (.cond 13 .skip
(.exit 0))
(.seq (.block 1 (.seq (rg [iA 14 (some 6) 10 12,
lD 15 (some 6) 14,
uO 4 (.alloc [.p (.int .i64 0),.p (.int .i64 0),.p (.int .i64 0),.p (.str []),.p (.str []),.p (.str [])]),
wO (.store (some 6) 4 15)] [0,4,10,11,12])
(.seq (.seq (rg [fA 16 0 none 4,
lD 17 none 16,
cL 18 gC [17,(cI 1),(cI 10)]] [0,4,10,11,12,18])
(.cond 18 (.seq (rg [mV 2 (cI 4)] [2])
.ret)
.skip))
(.seq (rg [lD 20 (some 6) 4,
cL 21 YI [20],
mV 19 21,
eX 22 19 0,
eX 23 19 1,
uO 5 (.alloc [.p (.int .i64 0),.p (.int .i64 0),.p (.int .i64 0),.p (.str []),.p (.str []),.p (.str [])]),
wO (.store (some 6) 5 22),
mV 6 23] [0,4,5,6,10,11,12])
(.block 2 (.seq (rg [mV 25 6,
bN 26 .neq 25 (cI 0),
mV 24 26] [0,4,5,6,10,11,12,24])
(.cond 24 (.seq (rg [mV 27 6,
mV 2 27] [2])
.ret)
(.seq (rg [lD 29 (some 6) 5,
fA 30 0 none 4,
lD 31 none 30,
uO 32 (.build [.p (.int .i64 0),.p (.int .i64 0),.p (.int .i64 0),.p (.str []),.p (.str []),.p (.str [])] [(0,1,31)]),
uO 33 (.eqa [0,0,0,2,2,2] true 29 32),
mV 28 33] [0,10,11,12,28])
(.cond 28 (.seq (rg [mV 2 (cI 3)] [2])
.ret)
.skip)))))))))
(rg [bN 34 .add 12 (cI 1),
mV 12 34] [0,10,11,12]))))
def dU (C:Hd)(gl:GL)(e:En)(h:aA)(x:Esc)(K:KT):Sf C gl SJ e h x K:=⟨_,by simp only[SJ,↓wZ,AO.still];rfl⟩
theorem z98 {C gl e h x K}:NW C gl SJ ⟨e,h,x⟩ K=(dU C gl e h x K).1:=(dU C gl e h x K).2
theorem zbB {C gl e h x K}:NW C gl (.loop (.scope SJ)) ⟨e,h,x⟩ K=RA C gl (.scope SJ) K [(0,jA e 0),(10,jA e 10),(11,jA e 11),(12,jA e 12)] h x:=GD
def qQ:ACode:=.pr [0] (.seq (.seq (rg [mV 35 0,
cL 36 GE [35,(.c (.nilp))],
uO 37 (.nilchk 36),
fA 38 37 none 37,
lD 39 none 38,
bN 40 .gtr 39 (cI 20000)] [40])
(.cond 40 (.seq (rg [mV 2 (cI 2)] [2])
.ret)
.skip))
(.seq (rg [mV 2 (cI 0)] [2])
.ret))
def eU (C:Hd)(gl:GL)(e:En)(h:aA)(x:Esc)(K:KT):Sf C gl qQ e h x K:=⟨_,by simp only[qQ,↓wZ,AO.still];rfl⟩
theorem z99 {C gl e h x K}:NW C gl qQ ⟨e,h,x⟩ K=(eU C gl e h x K).1:=(eU C gl e h x K).2
def uW:ACode:=(.seq (rg [mV 2 (cI 0)] [0])
(.seq (.seq (rg [mV 7 0,
lN 8 7,
bN 9 .gtr 8 (cI 1000)] [0,9])
(.cond 9 (.seq (rg [mV 2 (cI 2)] [2])
.ret)
.skip))
(.seq (.seq (rg [mV 10 0,
lN 11 10,
mV 12 (cI 0)] [0,10,11,12])
(.block 0 (.loop (.scope SJ))))
qQ)))
def fN:AFun:=⟨1,[.t 2],uW,false,false⟩
def ZK (C:Hd)(gl:GL)(e:En)(h:aA)(x:Esc)(K:KT):Sf C gl uW e h x K:=⟨_,by simp only[uW,↓wZ,AO.still];rfl⟩
theorem z97 {C gl v0 h x K}:NW C gl fN.body ⟨enter [v0],h,x⟩ K=(ZK C gl [(0,v0)] h x K).1:=(ZK C gl [(0,v0)] h x K).2
def HH:ACode:=.pr [5,13,14,15] (.seq (rg [bN 16 .lss 15 14] [5,13,14,15,16])
(.seq (.cond 16 .skip
(.exit 0))
(.seq (.block 1 (.seq (rg [iA 17 (some 6) 13 15,
lD 18 (some 6) 17,
uO 7 (.alloc [.p (.int .i64 0),.p (.int .i64 0),.p (.int .i64 0),.p (.str []),.p (.str []),.p (.str [])]),
wO (.store (some 6) 7 18)] [5,7,13,14,15])
(.seq (.seq (rg [mV 19 5,
uO 20 (.nilchk 19),
fA 21 37 none 20,
lD 22 none 21,
bN 23 .gtr 22 (cI 20000)] [5,7,13,14,15,23])
(.cond 23 (.exit 0)
.skip))
(rg [mV 24 5,
lD 25 (some 6) 7,
cL 26 ZI [24,25]] [5,13,14,15]))))
(rg [bN 27 .add 15 (cI 1),
mV 15 27] [5,13,14,15]))))
def gU (C:Hd)(gl:GL)(e:En)(h:aA)(x:Esc)(K:KT):Sf C gl HH e h x K:=⟨_,by simp only[HH,↓wZ,AO.still];rfl⟩
theorem z9G {C gl e h x K}:NW C gl HH ⟨e,h,x⟩ K=(gU C gl e h x K).1:=(gU C gl e h x K).2
theorem zbC {C gl e h x K}:NW C gl (.loop (.scope HH)) ⟨e,h,x⟩ K=RA C gl (.scope HH) K [(5,jA e 5),(13,jA e 13),(14,jA e 14),(15,jA e 15)] h x:=GD
def wM:ACode:=.pr [5] (.seq (rg [mV 28 5,
mV 4 28] [4])
.ret)
def iU (C:Hd)(gl:GL)(e:En)(h:aA)(x:Esc)(K:KT):Sf C gl wM e h x K:=⟨_,by simp only[wM,↓wZ,AO.still];rfl⟩
theorem z9H {C gl e h x K}:NW C gl wM ⟨e,h,x⟩ K=(iU C gl e h x K).1:=(iU C gl e h x K).2
def zW:ACode:=(.seq (rg [mV 4 (.c (.nilp))] [0,1])
(.seq (rg [cL 8 cJ [],
mV 9 1,
uO 10 (.isnil 0 true 9),
uO 11 (.build [.p (.int .i64 0),.p (.int .i64 0),.p (.int .i64 0),.p (.str []),.p (.str []),.p (.str []),.p (.int .i64 0),.p (.int .i64 0),.p (.int .i64 0),.p (.str []),.p (.str []),.p (.str []),.p (.int .i64 0),.p (.int .i64 0),.p (.int .i64 0),.p (.str []),.p (.str []),.p (.str []),.p (.int .i64 0),.p (.int .i64 0),.p (.int .i64 0),.p (.str []),.p (.str []),.p (.str []),.p (.int .i64 0),.p (.int .i64 0),.p (.int .i64 0),.p (.str []),.p (.str []),.p (.str []),.p (.int .i64 0),.p (.int .i64 0),.p (.int .i64 0),.p (.str []),.p (.str []),.p (.str []),.p (.int .i64 0),.p (.int .i64 0),.p (.int .i64 0),.p (.int .i64 0),.sl0 none,.sl0 none,.sl0 none,.sl0 none,.sl0 none,.p (.bool false)] [(0,36,8),(36,1,(cI 0)),(45,1,10)]),
uO 12 (.uns 12 0 [11]),
mV 5 12] [0,5])
(.seq (.seq (rg [mV 13 0,
lN 14 13,
mV 15 (cI 0)] [5,13,14,15])
(.block 0 (.loop (.scope HH))))
wM)))
def kN:AFun:=⟨2,[.t 4],zW,false,false⟩
def bL (C:Hd)(gl:GL)(e:En)(h:aA)(x:Esc)(K:KT):Sf C gl zW e h x K:=⟨_,by simp only[zW,↓wZ,AO.still];rfl⟩
theorem z9F {C gl v0 v1 h x K}:NW C gl kN.body ⟨enter [v0,v1],h,x⟩ K=(bL C gl [(0,v0),(1,v1)] h x K).1:=(bL C gl [(0,v0),(1,v1)] h x K).2
def IV:ACode:=(.seq (rg [mV 2 cF] [0])
(.seq (rg [mV 3 0,
cL 4 xL [3,(cS [48,49])],
mV 2 4] [2])
.ret))
def WR:AFun:=⟨1,[.t 2],IV,false,false⟩
def UN (C:Hd)(gl:GL)(e:En)(h:aA)(x:Esc)(K:KT):Sf C gl IV e h x K:=⟨_,by simp only[IV,↓wZ,AO.still];rfl⟩
theorem z8E {C gl v0 h x K}:NW C gl WR.body ⟨enter [v0],h,x⟩ K=(UN C gl [(0,v0)] h x K).1:=(UN C gl [(0,v0)] h x K).2
def IW:ACode:=(.seq (rg [mV 2 (.c (.nilp))] [0])
(.seq (rg [uO 3 (.alloc [.p (.bool false)]),
wO (.store none 3 cT)] [0,3])
(.seq (rg [mV 4 0,
cL 5 GE [4,3],
mV 2 5] [2])
.ret)))
def LS:AFun:=⟨1,[.t 2],IW,false,false⟩
def JO (C:Hd)(gl:GL)(e:En)(h:aA)(x:Esc)(K:KT):Sf C gl IW e h x K:=⟨_,by simp only[IW,↓wZ,AO.still];rfl⟩
theorem zab {C gl v0 h x K}:NW C gl LS.body ⟨enter [v0],h,x⟩ K=(JO C gl [(0,v0)] h x K).1:=(JO C gl [(0,v0)] h x K).2
def KP:ACode:=.pr [0] (.seq (rg [mV 15 0,
mV 4 15] [4])
.ret)
def zT (C:Hd)(gl:GL)(e:En)(h:aA)(x:Esc)(K:KT):Sf C gl KP e h x K:=⟨_,by simp only[KP,↓wZ,AO.still];rfl⟩
theorem z8x {C gl e h x K}:NW C gl KP ⟨e,h,x⟩ K=(zT C gl e h x K).1:=(zT C gl e h x K).2
def zV:ACode:=(.seq (rg [mV 4 (cI 0)] [0,1])
(.seq (.seq (rg [mV 5 1,
bN 6 .lss 5 (cI 1)] [0,1,6])
(.cond 6 (.seq (rg [mV 4 (cI 0)] [4])
.ret)
.skip))
(.seq (rg [mV 7 0,
mV 8 1,
bN 9 .rem 7 8,
mV 0 9] [0,1])
(.seq (.seq (rg [mV 10 0,
bN 11 .lss 10 (cI 0)] [0,1,11])
(.cond 11 (rg [mV 12 0,
mV 13 1,
bN 14 .add 12 13,
mV 0 14] [0])
.skip))
KP))))
def MR:AFun:=⟨2,[.t 4],zV,false,false⟩
def NN (C:Hd)(gl:GL)(e:En)(h:aA)(x:Esc)(K:KT):Sf C gl zV e h x K:=⟨_,by simp only[zV,↓wZ,AO.still];rfl⟩
theorem z8w {C gl v0 v1 h x K}:NW C gl MR.body ⟨enter [v0,v1],h,x⟩ K=(NN C gl [(0,v0),(1,v1)] h x K).1:=(NN C gl [(0,v0),(1,v1)] h x K).2
def GJ:ACode:=.pr [0,1,7,8] (.seq (rg [bN 9 .lss 8 7] [0,1,7,8,9])
(.seq (.cond 9 .skip
(.exit 0))
(.seq (.block 1 (.seq (rg [mV 10 8,
mV 5 10] [0,1,5,7,8])
(.seq (rg [mV 11 1,
mV 12 0,
mV 13 5,
iA 14 (some 5) 12 13,
lD 15 (some 5) 14,
uO 16 (.callv 11 [15])] [0,1,5,7,8,16])
(.cond 16 (.seq (rg [mV 17 5,
mV 4 17] [4])
.ret)
.skip))))
(rg [bN 18 .add 8 (cI 1),
mV 8 18] [0,1,7,8]))))
def OT (C:Hd)(gl:GL)(e:En)(h:aA)(x:Esc)(K:KT):Sf C gl GJ e h x K:=⟨_,by simp only[GJ,↓wZ,AO.still];rfl⟩
theorem z8S {C gl e h x K}:NW C gl GJ ⟨e,h,x⟩ K=(OT C gl e h x K).1:=(OT C gl e h x K).2
theorem zbx {C gl e h x K}:NW C gl (.loop GJ) ⟨e,h,x⟩ K=RA C gl GJ K [(0,jA e 0),(1,jA e 1),(7,jA e 7),(8,jA e 8)] h x:=XB
def WP:ACode:=.pr [] (.seq (rg [mV 4 (cI (-1))] [4])
.ret)
def PT (C:Hd)(gl:GL)(e:En)(h:aA)(x:Esc)(K:KT):Sf C gl WP e h x K:=⟨_,by simp only[WP,↓wZ,AO.still];rfl⟩
theorem z8T {C gl e h x K}:NW C gl WP ⟨e,h,x⟩ K=(PT C gl e h x K).1:=(PT C gl e h x K).2
def TV:ACode:=(.seq (rg [mV 4 (cI 0)] [0,1])
(.seq (.seq (rg [mV 6 0,
lN 7 6,
mV 8 (cI 0)] [0,1,7,8])
(.block 0 (.loop GJ)))
WP))
def gS:AFun:=⟨2,[.t 4],TV,true,false⟩
def cO (C:Hd)(gl:GL)(e:En)(h:aA)(x:Esc)(K:KT):Sf C gl TV e h x K:=⟨_,by simp only[TV,↓wZ,AO.still];rfl⟩
theorem z8R {C gl v0 v1 h x K}:NW C gl gS.body ⟨enter [v0,v1],h,x⟩ K=(cO C gl [(0,v0),(1,v1)] h x K).1:=(cO C gl [(0,v0),(1,v1)] h x K).2
def xW:ACode:=(.seq (rg [mV 2 cF] [0])
(.seq (rg [mV 3 0,
cL 4 gC [3,(cI 1),(cI 6)],
uO 5 (.un .not 4),
mV 2 5] [2])
.ret))
def iN:AFun:=⟨1,[.t 2],xW,false,false⟩
def LI (C:Hd)(gl:GL)(e:En)(h:aA)(x:Esc)(K:KT):Sf C gl xW e h x K:=⟨_,by simp only[xW,↓wZ,AO.still];rfl⟩
theorem z9C {C gl v0 h x K}:NW C gl iN.body ⟨enter [v0],h,x⟩ K=(LI C gl [(0,v0)] h x K).1:=(LI C gl [(0,v0)] h x K).2
def HW:ACode:=(.seq (rg [mV 4 (.c (.nilp))] [0,1])
(.seq (.seq (rg [mV 5 1] [0,5])
(.block 0 (.seq (rg [bN 7 .eql 5 (cI 1),
mV 6 7] [0,5,6])
(.cond 6 (.seq (rg [mV 8 0,
uO 9 (.nilchk 8),
fA 10 0 (some 6) 9,
mV 4 10] [4])
.ret)
(.seq (rg [bN 12 .eql 5 (cI 2),
mV 11 12] [0,5,11])
(.cond 11 (.seq (rg [mV 13 0,
uO 14 (.nilchk 13),
fA 15 6 (some 6) 14,
mV 4 15] [4])
.ret)
(.seq (rg [bN 17 .eql 5 (cI 3),
mV 16 17] [0,5,16])
(.cond 16 (.seq (rg [mV 18 0,
uO 19 (.nilchk 18),
fA 20 12 (some 6) 19,
mV 4 20] [4])
.ret)
(.seq (rg [bN 22 .eql 5 (cI 4),
mV 21 22] [0,5,21])
(.cond 21 (.seq (rg [mV 23 0,
uO 24 (.nilchk 23),
fA 25 18 (some 6) 24,
mV 4 25] [4])
.ret)
(.seq (rg [bN 27 .eql 5 (cI 5),
mV 26 27] [0,26])
(.cond 26 (.seq (rg [mV 28 0,
uO 29 (.nilchk 28),
fA 30 24 (some 6) 29,
mV 4 30] [4])
.ret)
.skip))))))))))))
(.seq (rg [mV 31 0,
uO 32 (.nilchk 31),
fA 33 30 (some 6) 32,
mV 4 33] [4])
.ret)))
def rN:AFun:=⟨2,[.t 4],HW,false,false⟩
def FF (C:Hd)(gl:GL)(e:En)(h:aA)(x:Esc)(K:KT):Sf C gl HW e h x K:=⟨_,by simp only[HW,↓wZ,AO.still];rfl⟩
theorem zaa {C gl v0 v1 h x K}:NW C gl rN.body ⟨enter [v0,v1],h,x⟩ K=(FF C gl [(0,v0),(1,v1)] h x K).1:=(FF C gl [(0,v0),(1,v1)] h x K).2
def JH:ACode:=.pr [0,4,35,36] (.seq (rg [bN 37 .lss 36 35] [0,4,35,36,37])
(.seq (.cond 37 .skip
(.exit 1))
(.seq (.block 2 (rg [mV 38 0,
cL 39 LF [38,(.c (.p (.int .u8 48))),(.c (.p (.int .u8 48))),(.c (.p (.int .u8 120)))]] [0,4,35,36]))
(rg [bN 40 .add 36 (cI 1),
mV 36 40] [0,4,35,36]))))
def qZ (C:Hd)(gl:GL)(v0 v4 v35 v36:AV)(h:aA)(x:Esc)(K:KT):Prop:=
 pK (SA .lss v36 v35) fun t1=>
 OC t1 (C LF [v0,(.p (.int .u8 48)),(.p (.int .u8 48)),(.p (.int .u8 120))] h fun t2 h3 y4=>
 pK (SA .add v36 (AI 1)) fun t5=>
 K .normal ⟨[(0,v0),(4,v4),(35,v35),(36,t5)],h3,(y4++x)⟩)
 (K (.exit 1) ⟨[(0,v0),(4,v4),(35,v35),(36,v36),(37,t1)],h,x⟩)
theorem z9U {C gl e h x K}:NW C gl JH ⟨e,h,x⟩ K=qZ C gl (jA e 0) (jA e 4) (jA e 35) (jA e 36) h x K:=by kernel_rfl
theorem zbF {C gl e h x K}:NW C gl (.loop JH) ⟨e,h,x⟩ K=RA C gl JH K [(0,jA e 0),(4,jA e 4),(35,jA e 35),(36,jA e 36)] h x:=XB
def xM:ACode:=.pr [0,4] (.seq (dr [dF (mV 41 0) [0],
dF (mV 42 0) [0],
dF (uO 43 (.nilchk 42)) [42],
dF (fA 44 40 none 43) [43],
dF (lD 45 none 44) [44],
dF (mV 46 0) [0],
dF (uO 47 (.nilchk 46)) [46],
dF (fA 48 36 none 47) [47],
dF (lD 49 none 48) [48],
dF (uO 50 (.bsl false none 1 (.int .i64 0) [(0,49)])) [49],
dT (uO 51 (.app none 45 50)) [45,50],
dF (uO 52 (.nilchk 41)) [41],
dF (fA 53 40 none 52) [52],
dT (wO (.store none 53 51)) [53,51]] [0,4])
(rg [mV 54 0,
mV 55 0,
uO 56 (.nilchk 55),
fA 57 41 none 56,
lD 58 none 57,
mV 59 4,
uO 60 (.bsl false none 1 (.int .i64 0) [(0,59)]),
uO 61 (.app none 58 60),
uO 62 (.nilchk 54),
fA 63 41 none 62,
wO (.store none 63 61)] []))
def iL (C:Hd)(gl:GL)(v0 v4:AV)(h:aA)(x:Esc)(K:KT):Prop:=
 pK (oE v0) fun t1=>
 pK (QC 40 none t1) fun t2=>
 pK (MB none t2 h) fun t3=>
 pK (oE v0) fun t4=>
 pK (QC 36 none t4) fun t5=>
 pK (MB none t5 h) fun t6=>
 wK (SF false none 1 (.int .i64 0) [(0,t6)] h) fun t7 h8 y9=>
 (h8=h∧y9=[])∧(wK (kJ none t3 t7 h8) fun t10 h11 y12=>
 pK (oE v0) fun t13=>
 pK (QC 40 none t13) fun t14=>
 wK (KE none t14 t10 h11) fun t15 h16 y17=>
 pK (oE v0) fun t18=>
 pK (QC 41 none t18) fun t19=>
 pK (MB none t19 h16) fun t20=>
 wK (SF false none 1 (.int .i64 0) [(0,v4)] h16) fun t21 h22 y23=>
 wK (kJ none t20 t21 h22) fun t24 h25 y26=>
 pK (oE v0) fun t27=>
 pK (QC 41 none t27) fun t28=>
 wK (KE none t28 t24 h25) fun t29 h30 y31=>
 K .normal ⟨[],h30,(y31++(y26++(y23++(y17++(y12++(y9++x))))))⟩)
theorem z9V {C gl e h x K}:NW C gl xM ⟨e,h,x⟩ K=iL C gl (jA e 0) (jA e 4) h x K:=by kernel_rfl
def dY (q1 q2:ACode):ACode:=(.seq (rg [uO 3 (.box 1)] [0,3])
(.seq (rg [mV 4 (cI 0)] [0,3,4])
(.seq (.block 0 (.seq (rg [fA 10 0 none 3,
lD 11 none 10,
cL 12 uH [11],
mV 9 12] [0,3,4,9])
(.cond 9 (dr [dF (mV 13 0) [0],
dF (uO 14 (.nilchk 13)) [13],
dF (fA 15 0 (some 36) 14) [14],
dF (fA 16 0 none 3) [3],
dF (lD 17 none 16) [16],
dT (cL 18 vH [15,17]) [15,17],
dA (lD 19 (some 6) 3) [3] false [5] [],
dF (uO 20 (.nilchk 18)) [18],
dT (wO (.store (some 6) 20 19)) [20,19]] [0,4])
(.seq (rg [fA 22 0 none 3,
lD 23 none 22,
cL 24 KF [23],
mV 21 24] [0,3,4,21])
(.cond 21 (rg [mV 25 0,
lD 26 (some 6) 3,
cL 27 MF [25,26],
mV 4 27] [0,4])
(.seq (rg [fA 29 0 none 3,
lD 30 none 29,
bN 31 .eql 30 (cI 9),
mV 28 31] [0,3,4,28])
(.cond 28 (.seq (rg [mV 32 0,
cL 33 HE [32,(cI 1)]] [0,3,4])
(.seq (rg [fA 34 2 none 3,
lD 35 none 34,
mV 36 (cI 0)] [0,4,35,36])
(.block 1 (.loop q1))))
(rg [mV 5 0,
fA 6 1 none 3,
lD 7 none 6,
cL 8 HE [5,7]] [0,4]))))))))
q2)))
def oN:AFun:=⟨2,[],dY JH xM,false,false⟩
def PD (C:Hd)(gl:GL)(q1 q2:ACode)(v0 v1:AV)(h:aA)(x:Esc)(K:KT):Prop:=
 wK (lM v1 h) fun t1 h2 y3=>
 pK (QC 0 none t1) fun t4=>
 pK (MB none t4 h2) fun t5=>
 C uH [t5] h2 fun t6 h7 y8=>
 OC t6 (pK (oE v0) fun t9=>
 pK (QC 0 (some 36) t9) fun t10=>
 pK (QC 0 none t1) fun t11=>
 pK (MB none t11 h7) fun t12=>
 XE C vH [t10,t12] h7 fun t13 h14 y15=>
 pK (MB (some 6) t1 h14) fun t16=>
 (pK (MB (some 6) t1 h7) fun v=>(fun u (g1:aA) (y1:Esc)=>u=t16∧g1=h7∧y1=[]) v h7 [])∧(pK (oE t13) fun t17=>
 wK (KE (some 6) t17 t16 h14) fun t18 h19 y20=>
 NW C gl q2 ⟨[(0,v0),(4,(AI 0))],h19,(y20++(y15++(y8++(y3++x))))⟩ K))
 (pK (QC 0 none t1) fun t21=>
 pK (MB none t21 h7) fun t22=>
 C KF [t22] h7 fun t23 h24 y25=>
 OC t23 (pK (MB (some 6) t1 h24) fun t26=>
 C MF [v0,t26] h24 fun t27 h28 y29=>
 NW C gl q2 ⟨[(0,v0),(4,t27)],h28,(y29++(y25++(y8++(y3++x))))⟩ K)
 (pK (QC 0 none t1) fun t30=>
 pK (MB none t30 h24) fun t31=>
 pK (SA .eql t31 (AI 9)) fun t32=>
 OC t32 (C HE [v0,(AI 1)] h24 fun t33 h34 y35=>
 pK (QC 2 none t1) fun t36=>
 pK (MB none t36 h34) fun t37=>
 NW C gl (.loop q1) ⟨[(0,v0),(4,(AI 0)),(35,t37),(36,(AI 0))],h34,(y35++(y25++(y8++(y3++x))))⟩ (cD 1 (cD 0 (aG C gl q2 K))))
 (pK (QC 1 none t1) fun t38=>
 pK (MB none t38 h24) fun t39=>
 C HE [v0,t39] h24 fun t40 h41 y42=>
 NW C gl q2 ⟨[(0,v0),(4,(AI 0))],h41,(y42++(y25++(y8++(y3++x))))⟩ K)))
theorem z40 {C gl q1 q2 v0 v1 h x K}:NW C gl (dY q1 q2) ⟨enter [v0,v1],h,x⟩ K=PD C gl q1 q2 v0 v1 h x K:=by kernel_rfl
theorem z9T {C gl v0 v1 h x K}:NW C gl oN.body ⟨enter [v0,v1],h,x⟩ K=PD C gl JH xM v0 v1 h x K:=z40
def qJ:ACode:=.pr [5,6,7] (.seq (rg [bN 8 .lss 7 6] [5,6,7,8])
(.seq (.cond 8 .skip
(.exit 0))
(.seq (.block 1 (.seq (rg [iA 9 none 5 7,
lD 10 none 9,
mV 4 10] [4,5,6,7])
(.seq (rg [mV 11 4,
bN 12 .neq 11 (cI 0)] [4,5,6,7,12])
(.cond 12 (.seq (rg [mV 13 4,
mV 2 13] [2])
.ret)
.skip))))
(rg [bN 14 .add 7 (cI 1),
mV 7 14] [5,6,7]))))
def YS (C:Hd)(gl:GL)(e:En)(h:aA)(x:Esc)(K:KT):Sf C gl qJ e h x K:=⟨_,by simp only[qJ,↓wZ,AO.still];rfl⟩
theorem z7Y {C gl e h x K}:NW C gl qJ ⟨e,h,x⟩ K=(YS C gl e h x K).1:=(YS C gl e h x K).2
theorem zbh {C gl e h x K}:NW C gl (.loop qJ) ⟨e,h,x⟩ K=RA C gl qJ K [(5,jA e 5),(6,jA e 6),(7,jA e 7)] h x:=XB
def AP:ACode:=.pr [] (.seq (rg [mV 2 (cI 0)] [2])
.ret)
def ZS (C:Hd)(gl:GL)(e:En)(h:aA)(x:Esc)(K:KT):Sf C gl AP e h x K:=⟨_,by simp only[AP,↓wZ,AO.still];rfl⟩
theorem z7Z {C gl e h x K}:NW C gl AP ⟨e,h,x⟩ K=(ZS C gl e h x K).1:=(ZS C gl e h x K).2
def rV:ACode:=(.seq (rg [mV 2 (cI 0)] [0])
(.seq (.seq (rg [mV 5 0,
lN 6 5,
mV 7 (cI 0)] [5,6,7])
(.block 0 (.loop qJ)))
AP))
def YM:AFun:=⟨1,[.t 2],rV,false,false⟩
def KN (C:Hd)(gl:GL)(e:En)(h:aA)(x:Esc)(K:KT):Sf C gl rV e h x K:=⟨_,by simp only[rV,↓wZ,AO.still];rfl⟩
theorem z7X {C gl v0 h x K}:NW C gl YM.body ⟨enter [v0],h,x⟩ K=(KN C gl [(0,v0)] h x K).1:=(KN C gl [(0,v0)] h x K).2
def KJ:ACode:=.pr [0,14,15,16] (.seq (rg [bN 17 .lss 16 15] [0,14,15,16,17])
(.seq (.cond 17 .skip
(.exit 1))
(.seq (.block 2 (.seq (rg [mV 18 16,
iA 19 (some 5) 14 16,
lD 20 (some 5) 19,
uO 4 (.alloc [.p (.str []),.p (.int .i64 0),.p (.int .i64 0),.sl0 (some 2),.sl0 (some 2)]),
mV 3 18,
wO (.store (some 5) 4 20)] [0,3,4,14,15,16])
(.seq (dr [dF (lD 21 (some 5) 4) [4],
dF (mV 22 0) [0],
dF (mV 23 3) [3],
dF (uO 24 (.slice (some 5) 22 none (some 23) none)) [22,23],
dT (cL 25 PL [21,24]) [21,24],
dF (mV 5 25) [25]] [0,5,14,15,16])
(.seq (rg [mV 26 5,
bN 27 .neq 26 (cI 0)] [0,5,14,15,16,27])
(.cond 27 (.seq (rg [mV 28 5,
mV 2 28] [2])
.ret)
.skip)))))
(rg [bN 29 .add 16 (cI 1),
mV 16 29] [0,14,15,16]))))
def FI (C:Hd)(gl:GL)(e:En)(h:aA)(x:Esc)(K:KT):Sf C gl KJ e h x K:=⟨_,by simp only[KJ,↓wZ,AO.still];rfl⟩
theorem PO {C gl e h x K}:NW C gl KJ ⟨e,h,x⟩ K=(FI C gl e h x K).1:=(FI C gl e h x K).2
theorem zb1 {C gl e h x K}:NW C gl (.loop (.scope KJ)) ⟨e,h,x⟩ K=RA C gl (.scope KJ) K [(0,jA e 0),(14,jA e 14),(15,jA e 15),(16,jA e 16)] h x:=GD
def dQ:ACode:=.pr [] (.seq (rg [mV 2 (cI 0)] [2])
.ret)
def mO (C:Hd)(gl:GL)(e:En)(h:aA)(x:Esc)(K:KT):Sf C gl dQ e h x K:=⟨_,by simp only[dQ,↓wZ,AO.still];rfl⟩
theorem KZ {C gl e h x K}:NW C gl dQ ⟨e,h,x⟩ K=(mO C gl e h x K).1:=(mO C gl e h x K).2
def bW:ACode:=(.seq (rg [mV 2 (cI 0)] [0])
(.seq (.block 0 (.seq (rg [mV 7 0,
lN 8 7,
bN 9 .eql 8 (cI 0),
mV 6 9] [0,6])
(.cond 6 (.seq (rg [mV 2 (cI 8)] [2])
.ret)
(.seq (rg [mV 11 0,
lN 12 11,
bN 13 .gtr 12 (cI 20),
mV 10 13] [0,10])
(.cond 10 (.seq (rg [mV 2 (cI 2)] [2])
.ret)
.skip)))))
(.seq (.seq (rg [mV 14 0,
lN 15 14,
mV 16 (cI 0)] [0,14,15,16])
(.block 1 (.loop (.scope KJ))))
dQ)))
def qS:AFun:=⟨1,[.t 2],bW,false,false⟩
def EI (C:Hd)(gl:GL)(e:En)(h:aA)(x:Esc)(K:KT):Sf C gl bW e h x K:=⟨_,by simp only[bW,↓wZ,AO.still];rfl⟩
theorem z9g {C gl v0 h x K}:NW C gl qS.body ⟨enter [v0],h,x⟩ K=(EI C gl [(0,v0)] h x K).1:=(EI C gl [(0,v0)] h x K).2
def iQ:ACode:=.pr [1,2,8,10,46,47] (rg [bN 73 .add 47 (cI 1),
mV 47 73] [1,2,8,10,46,47])
def VT (C:Hd)(gl:GL)(e:En)(h:aA)(x:Esc)(K:KT):Sf C gl iQ e h x K:=⟨_,by simp only[iQ,↓wZ,AO.still];rfl⟩
theorem z9k {C gl e h x K}:NW C gl iQ ⟨e,h,x⟩ K=(VT C gl e h x K).1:=(VT C gl e h x K).2
def MJ:ACode:=.pr [1,2,8,10,46,47] (.seq (rg [bN 48 .lss 47 46] [1,2,8,10,46,47,48])
(.seq (.cond 48 .skip
(.exit 1))
(.seq (.block 2 (.seq (rg [mV 49 47,
mV 11 49] [1,2,8,10,11,46,47])
(.seq (dr [dF (mV 50 8) [8],
dF (mV 51 1) [1],
dF (mV 52 11) [11],
dF (uO 53 (.idxs 51 52)) [51,52],
dF (bN 54 .sub 53 (.c (.p (.int .u8 48)))) [53],
dF (uO 55 (.conv (.i .i64) 54)) [54],
dF (mV 56 2) [2],
dF (mV 57 11) [11],
dF (uO 58 (.idxs 56 57)) [56,57],
dF (bN 59 .sub 58 (.c (.p (.int .u8 48)))) [58],
dF (uO 60 (.conv (.i .i64) 59)) [59],
dT (cL 61 ML [50,55,60]) [50,55,60],
dF (mV 12 61) [61]] [1,2,8,10,12,46,47])
(.seq (rg [mV 62 12,
bN 63 .lss 62 (cI 0)] [1,2,8,10,12,46,47,63])
(.cond 63 (rg [mV 64 10,
uO 65 (.bsl false none 1 (.int .u8 0) [(0,(.c (.p (.int .u8 122))))]),
uO 66 (.app none 64 65),
mV 10 66] [1,2,8,10,46,47])
(rg [mV 67 10,
mV 68 12,
bN 69 .add (cI 48) 68,
uO 70 (.conv (.i .u8) 69),
uO 71 (.bsl false none 1 (.int .u8 0) [(0,70)]),
uO 72 (.app none 67 71),
mV 10 72] [1,2,8,10,46,47]))))))
iQ)))
def HI (C:Hd)(gl:GL)(e:En)(h:aA)(x:Esc)(K:KT):Sf C gl MJ e h x K:=⟨_,by simp only[MJ,↓wZ,AO.still];rfl⟩
theorem RO {C gl e h x K}:NW C gl MJ ⟨e,h,x⟩ K=(HI C gl e h x K).1:=(HI C gl e h x K).2
theorem zb4 {C gl e h x K}:NW C gl (.loop (.scope MJ)) ⟨e,h,x⟩ K=RA C gl (.scope MJ) K [(1,jA e 1),(2,jA e 2),(8,jA e 8),(10,jA e 10),(46,jA e 46),(47,jA e 47)] h x:=GD
def jQ:ACode:=.pr [10] (.seq (rg [mV 74 10,
uO 75 (.conv .b2s 74),
mV 6 75,
mV 7 (cI 0)] [6,7])
.ret)
def WT (C:Hd)(gl:GL)(e:En)(h:aA)(x:Esc)(K:KT):Sf C gl jQ e h x K:=⟨_,by simp only[jQ,↓wZ,AO.still];rfl⟩
theorem z9l {C gl e h x K}:NW C gl jQ ⟨e,h,x⟩ K=(WT C gl e h x K).1:=(WT C gl e h x K).2
def eW:ACode:=(.seq (rg [mV 6 (cS []),
mV 7 (cI 0)] [0,1,2])
(.seq (rg [mV 14 0,
cL 15 NL [14],
mV 13 15,
eX 16 13 0,
eX 17 13 1,
mV 8 16,
mV 9 17] [1,2,8,9])
(.seq (.seq (rg [mV 18 9,
bN 19 .neq 18 (cI 0)] [1,2,8,9,19])
(.cond 19 (.seq (rg [mV 20 9,
mV 6 (cS []),
mV 7 20] [6,7])
.ret)
.skip))
(.seq (.block 0 (.seq (rg [mV 22 1,
uO 23 (.lens 22),
bN 24 .gtr 23 (cI 20000),
mV 25 24,
gD 26 25 false (.mv 2),
gD 27 25 false (.lens 26),
gD 28 25 false (.bin .gtr 27 (cI 20000)),
uO 29 (.pick 25 cT 28),
mV 21 29] [1,2,8,21])
(.cond 21 (.seq (rg [mV 6 (cS []),
mV 7 (cI 2)] [6,7])
.ret)
(.seq (rg [mV 31 1,
uO 32 (.lens 31),
mV 33 2,
uO 34 (.lens 33),
bN 35 .neq 32 34,
mV 30 35] [1,2,8,30])
(.cond 30 (.seq (rg [mV 6 (cS []),
mV 7 (cI 3)] [6,7])
.ret)
(.seq (rg [mV 37 1,
cL 38 RD [37],
uO 39 (.un .not 38),
mV 40 39,
gD 41 40 false (.mv 2),
gD 42 40 false (.call RD [41]),
gD 43 40 false (.un .not 42),
uO 44 (.pick 40 cT 43),
mV 36 44] [1,2,8,36])
(.cond 36 (.seq (rg [mV 6 (cS []),
mV 7 (cI 9)] [6,7])
.ret)
.skip)))))))
(.seq (rg [uO 10 (.new0 none)] [1,2,8,10])
(.seq (.seq (rg [mV 45 1,
uO 46 (.lens 45),
mV 47 (cI 0)] [1,2,8,10,46,47])
(.block 1 (.loop (.scope MJ))))
jQ))))))
def sS:AFun:=⟨3,[.t 6,.t 7],eW,false,false⟩
def pO (C:Hd)(gl:GL)(e:En)(h:aA)(x:Esc)(K:KT):Sf C gl eW e h x K:=⟨_,by simp only[eW,↓wZ,AO.still];rfl⟩
theorem z9j {C gl v0 v1 v2 h x K}:NW C gl sS.body ⟨enter [v0,v1,v2],h,x⟩ K=(pO C gl [(0,v0),(1,v1),(2,v2)] h x K).1:=(pO C gl [(0,v0),(1,v1),(2,v2)] h x K).2
def YV:ACode:=(.seq (rg [mV 4 (cI 0)] [0,1])
(.seq (rg [mV 5 0,
mV 6 1,
cL 7 vG [5,6],
mV 4 7] [4])
.ret))
def nS:AFun:=⟨2,[.t 4],YV,false,false⟩
def jO (C:Hd)(gl:GL)(e:En)(h:aA)(x:Esc)(K:KT):Sf C gl YV e h x K:=⟨_,by simp only[YV,↓wZ,AO.still];rfl⟩
theorem z9c {C gl v0 v1 h x K}:NW C gl nS.body ⟨enter [v0,v1],h,x⟩ K=(jO C gl [(0,v0),(1,v1)] h x K).1:=(jO C gl [(0,v0),(1,v1)] h x K).2
def SV:ACode:=(.seq (rg [mV 4 cF] [0,1])
(.seq (rg [mV 5 0,
mV 6 1,
cL 7 TI [5,6],
bN 8 .geq 7 (cI 0),
mV 4 8] [4])
.ret))
def fS:AFun:=⟨2,[.t 4],SV,true,false⟩
def bO (C:Hd)(gl:GL)(e:En)(h:aA)(x:Esc)(K:KT):Sf C gl SV e h x K:=⟨_,by simp only[SV,↓wZ,AO.still];rfl⟩
theorem z8Q {C gl v0 v1 h x K}:NW C gl fS.body ⟨enter [v0,v1],h,x⟩ K=(bO C gl [(0,v0),(1,v1)] h x K).1:=(bO C gl [(0,v0),(1,v1)] h x K).2
def tV:ACode:=(.seq (rg [mV 6 cF] [0,1,2])
(.seq (rg [mV 7 0,
mV 8 1,
bN 9 .lss 7 8,
mV 10 9,
gD 11 10 false (.mv 0),
gD 12 10 false (.mv 2),
gD 13 10 false (.bin .gtr 11 12),
uO 14 (.pick 10 cT 13),
mV 6 14] [6])
.ret))
def aN:AFun:=⟨3,[.t 6],tV,false,false⟩
def LN (C:Hd)(gl:GL)(e:En)(h:aA)(x:Esc)(K:KT):Sf C gl tV e h x K:=⟨_,by simp only[tV,↓wZ,AO.still];rfl⟩
theorem z8d {C gl v0 v1 v2 h x K}:NW C gl aN.body ⟨enter [v0,v1,v2],h,x⟩ K=(LN C gl [(0,v0),(1,v1),(2,v2)] h x K).1:=(LN C gl [(0,v0),(1,v1),(2,v2)] h x K).2
def rQ:ACode:=.pr [2,4] (.seq (rg [lD 56 (some 6) 4,
wO (.store (some 6) 2 56),
mV 3 (cI 0)] [2,3])
.ret)
def fU (C:Hd)(gl:GL)(e:En)(h:aA)(x:Esc)(K:KT):Sf C gl rQ e h x K:=⟨_,by simp only[rQ,↓wZ,AO.still];rfl⟩
theorem z9E {C gl e h x K}:NW C gl rQ ⟨e,h,x⟩ K=(fU C gl e h x K).1:=(fU C gl e h x K).2
def yW:ACode:=(.seq (rg [uO 1 (.box 0),
uO 2 (.alloc [.p (.int .i64 0),.p (.int .i64 0),.p (.int .i64 0),.p (.str []),.p (.str []),.p (.str [])]),
mV 3 (cI 0)] [1,2])
(.seq (rg [lD 5 (some 6) 1,
uO 4 (.alloc [.p (.int .i64 0),.p (.int .i64 0),.p (.int .i64 0),.p (.str []),.p (.str []),.p (.str [])]),
wO (.store (some 6) 4 5)] [1,2,4])
(.seq (.block 0 (.seq (rg [fA 18 0 none 1,
lD 19 none 18,
bN 20 .eql 19 (cI 1),
mV 21 20,
gD 22 21 false (.faddr 0 none 1),
gD 23 21 false (.load none 22),
gD 24 21 false (.bin .eql 23 (cI 2)),
uO 25 (.pick 21 cT 24),
mV 26 25,
gD 27 26 false (.faddr 0 none 1),
gD 28 26 false (.load none 27),
gD 29 26 false (.bin .eql 28 (cI 10)),
uO 30 (.pick 26 cT 29),
mV 17 30] [1,2,4,17])
(.cond 17 (.seq (rg [fA 31 1 none 4,
wO (.store none 31 (cI 0))] [1,2,4])
(.seq (rg [fA 32 1 none 1,
lD 33 none 32,
cL 34 bJ [33],
uO 35 (.un .not 34)] [2,4,35])
(.cond 35 (.seq (rg [lD 36 (some 6) 4,
wO (.store (some 6) 2 36),
mV 3 (cI 1)] [2,3])
.ret)
.skip)))
(.seq (rg [fA 38 0 none 1,
lD 39 none 38,
bN 40 .eql 39 (cI 9),
mV 37 40] [1,2,4,37])
(.cond 37 (.seq (rg [fA 41 2 none 4,
wO (.store none 41 (cI 0))] [1,2,4])
(.seq (rg [fA 42 2 none 1,
lD 43 none 42,
cL 44 gC [43,(cI 0),(cI 20000)]] [2,4,44])
(.cond 44 (.seq (rg [lD 45 (some 6) 4,
wO (.store (some 6) 2 45),
mV 3 (cI 1)] [2,3])
.ret)
.skip)))
(.seq (rg [fA 47 0 none 1,
lD 48 none 47,
cL 49 KF [48],
mV 46 49] [1,2,4,46])
(.cond 46 (.seq (rg [fA 50 3 none 4,
wO (.store none 50 (cS [])),
fA 51 4 none 4,
wO (.store none 51 (cS [])),
fA 52 5 none 4,
wO (.store none 52 (cS []))] [1,2,4])
(.seq (dr [dF (lD 53 (some 6) 4) [4],
dF (lD 54 (some 6) 1) [1],
dA (cL 55 aJ [54]) [54] true [] [0],
dT (wO (.store (some 6) 2 53)) [2,53],
dF (mV 3 55) [55]] [2,3])
.ret))
(.seq (rg [fA 6 3 none 4,
wO (.store none 6 (cS []))] [1,2,4])
(.seq (.seq (rg [fA 7 3 none 1,
lD 8 none 7,
cL 9 RD [8],
uO 10 (.un .not 9)] [1,2,4,10])
(.cond 10 (.seq (rg [lD 11 (some 6) 4,
wO (.store (some 6) 2 11),
mV 3 (cI 9)] [2,3])
.ret)
.skip))
(.seq (rg [fA 12 3 none 1,
lD 13 none 12,
uO 14 (.lens 13),
bN 15 .gtr 14 (cI 2000)] [2,4,15])
(.cond 15 (.seq (rg [lD 16 (some 6) 4,
wO (.store (some 6) 2 16),
mV 3 (cI 2)] [2,3])
.ret)
.skip)))))))))))
rQ)))
def jN:AFun:=⟨1,[.cell 2 (some 6),.t 3],yW,false,false⟩
def xD (C:Hd)(gl:GL)(e:En)(h:aA)(x:Esc)(K:KT):Sf C gl yW e h x K:=⟨_,by simp only[yW,↓wZ,AO.still];rfl⟩
theorem z9D {C gl v0 h x K}:NW C gl jN.body ⟨enter [v0],h,x⟩ K=(xD C gl [(0,v0)] h x K).1:=(xD C gl [(0,v0)] h x K).2
def KW:ACode:=(.seq (rg [uO 0 (.alloc [.p (.int .i64 0),.p (.int .i64 0),.p (.int .i64 0),.p (.str []),.p (.str []),.p (.str []),.p (.int .i64 0),.p (.int .i64 0),.p (.int .i64 0),.p (.str []),.p (.str []),.p (.str []),.p (.int .i64 0),.p (.int .i64 0),.p (.int .i64 0),.p (.str []),.p (.str []),.p (.str []),.p (.int .i64 0),.p (.int .i64 0),.p (.int .i64 0),.p (.str []),.p (.str []),.p (.str []),.p (.int .i64 0),.p (.int .i64 0),.p (.int .i64 0),.p (.str []),.p (.str []),.p (.str []),.p (.int .i64 0),.p (.int .i64 0),.p (.int .i64 0),.p (.str []),.p (.str []),.p (.str [])])] [0])
(.seq (rg [uO 1 (.build [.p (.int .i64 0),.p (.int .i64 0),.p (.int .i64 0),.p (.str []),.p (.str []),.p (.str [])] [(0,1,(cI 1)),(1,1,(cI 1))]),
uO 2 (.build [.p (.int .i64 0),.p (.int .i64 0),.p (.int .i64 0),.p (.str []),.p (.str []),.p (.str [])] [(0,1,(cI 2)),(1,1,(cI 1))]),
uO 3 (.build [.p (.int .i64 0),.p (.int .i64 0),.p (.int .i64 0),.p (.str []),.p (.str []),.p (.str [])] [(0,1,(cI 3))]),
uO 4 (.build [.p (.int .i64 0),.p (.int .i64 0),.p (.int .i64 0),.p (.str []),.p (.str []),.p (.str [])] [(0,1,(cI 4))]),
uO 5 (.build [.p (.int .i64 0),.p (.int .i64 0),.p (.int .i64 0),.p (.str []),.p (.str []),.p (.str [])] [(0,1,(cI 5))]),
uO 6 (.build [.p (.int .i64 0),.p (.int .i64 0),.p (.int .i64 0),.p (.str []),.p (.str []),.p (.str [])] [(0,1,(cI 6))]),
uO 7 (.build [.p (.int .i64 0),.p (.int .i64 0),.p (.int .i64 0),.p (.str []),.p (.str []),.p (.str []),.p (.int .i64 0),.p (.int .i64 0),.p (.int .i64 0),.p (.str []),.p (.str []),.p (.str []),.p (.int .i64 0),.p (.int .i64 0),.p (.int .i64 0),.p (.str []),.p (.str []),.p (.str []),.p (.int .i64 0),.p (.int .i64 0),.p (.int .i64 0),.p (.str []),.p (.str []),.p (.str []),.p (.int .i64 0),.p (.int .i64 0),.p (.int .i64 0),.p (.str []),.p (.str []),.p (.str []),.p (.int .i64 0),.p (.int .i64 0),.p (.int .i64 0),.p (.str []),.p (.str []),.p (.str [])] [(0,6,1),(6,6,2),(12,6,3),(18,6,4),(24,6,5),(30,6,6)]),
wO (.store (some 36) 0 7)] [0])
.ret))
def tN:AFun:=⟨0,[.cell 0 (some 36)],KW,false,false⟩
def KO (C:Hd)(gl:GL)(e:En)(h:aA)(x:Esc)(K:KT):Sf C gl KW e h x K:=⟨_,by simp only[KW,↓wZ,AO.still];rfl⟩
theorem zad {C gl h x K}:NW C gl tN.body ⟨enter [],h,x⟩ K=(KO C gl [] h x K).1:=(KO C gl [] h x K).2
end Go.Am
end
section
/- The functions asv abstract code,and asv formulas over their values: printed by program out of the translation. -/
set_option linter.all false
set_option maxRecDepth 100000
namespace Go.Am
def CJ:ACode:=.pr [0,1,7,8] (.seq (rg [bN 9 .lss 8 7] [0,1,7,8,9])
(.seq (.cond 9 .skip
(.exit 0))
(.seq (.block 1 (.seq (rg [mV 10 8,
mV 5 10] [0,1,5,7,8])
(.seq (rg [mV 11 1,
mV 12 0,
mV 13 5,
uO 14 (.idxs 12 13),
cL 15 JL [11,14],
bN 16 .lss 15 (cI 0)] [0,1,7,8,16])
(.cond 16 (.seq (rg [mV 4 cF] [4])
.ret)
.skip))))
(rg [bN 17 .add 8 (cI 1),
mV 8 17] [0,1,7,8]))))
def MT (C:Hd)(gl:GL)(e:En)(h:aA)(x:Esc)(K:KT):Sf C gl CJ e h x K:=⟨_,by simp only[CJ,↓wZ,AO.still];rfl⟩
theorem z8J {C gl e h x K}:NW C gl CJ ⟨e,h,x⟩ K=(MT C gl e h x K).1:=(MT C gl e h x K).2
theorem zbt {C gl e h x K}:NW C gl (.loop CJ) ⟨e,h,x⟩ K=RA C gl CJ K [(0,jA e 0),(1,jA e 1),(7,jA e 7),(8,jA e 8)] h x:=XB
def RP:ACode:=.pr [] (.seq (rg [mV 4 cT] [4])
.ret)
def NT (C:Hd)(gl:GL)(e:En)(h:aA)(x:Esc)(K:KT):Sf C gl RP e h x K:=⟨_,by simp only[RP,↓wZ,AO.still];rfl⟩
theorem z8K {C gl e h x K}:NW C gl RP ⟨e,h,x⟩ K=(NT C gl e h x K).1:=(NT C gl e h x K).2
def KV:ACode:=(.seq (rg [mV 4 cF] [0,1])
(.seq (.seq (rg [mV 6 0,
uO 7 (.lens 6),
mV 8 (cI 0)] [0,1,7,8])
(.block 0 (.loop CJ)))
RP))
def YR:AFun:=⟨2,[.t 4],KV,false,false⟩
def VN (C:Hd)(gl:GL)(e:En)(h:aA)(x:Esc)(K:KT):Sf C gl KV e h x K:=⟨_,by simp only[KV,↓wZ,AO.still];rfl⟩
theorem z8I {C gl v0 v1 h x K}:NW C gl YR.body ⟨enter [v0,v1],h,x⟩ K=(VN C gl [(0,v0),(1,v1)] h x K).1:=(VN C gl [(0,v0),(1,v1)] h x K).2
def rJ:ACode:=.pr [0,23,24] (.seq (rg [bN 25 .lss 24 23] [0,23,24,25])
(.seq (.cond 25 .skip
(.exit 0))
(.seq (.block 1 (.seq (rg [mV 26 24,
mV 3 26] [0,3,23,24])
(.seq (rg [mV 27 0,
mV 28 3,
uO 29 (.idxs 27 28),
mV 4 29] [0,4,23,24])
(.seq (rg [mV 30 4,
bN 31 .geq 30 (.c (.p (.int .u8 97))),
mV 32 31,
gD 33 32 true (.mv 4),
gD 34 32 true (.bin .leq 33 (.c (.p (.int .u8 122)))),
uO 35 (.pick 32 34 cF),
mV 36 35,
gD 37 36 false (.mv 4),
gD 38 36 false (.bin .geq 37 (.c (.p (.int .u8 48)))),
gD 39 36 false (.mv 38),
gD 40 39 true (.mv 4),
gD 41 39 true (.bin .leq 40 (.c (.p (.int .u8 57)))),
gD 42 36 false (.pick 39 41 cF),
uO 43 (.pick 36 cT 42),
mV 44 43,
gD 45 44 false (.mv 4),
gD 46 44 false (.bin .eql 45 (.c (.p (.int .u8 45)))),
uO 47 (.pick 44 cT 46),
mV 48 47,
gD 49 48 false (.mv 4),
gD 50 48 false (.bin .eql 49 (.c (.p (.int .u8 95)))),
uO 51 (.pick 48 cT 50),
uO 52 (.un .not 51)] [0,23,24,52])
(.cond 52 (.seq (rg [mV 2 cF] [2])
.ret)
.skip)))))
(rg [bN 53 .add 24 (cI 1),
mV 24 53] [0,23,24]))))
def aT (C:Hd)(gl:GL)(e:En)(h:aA)(x:Esc)(K:KT):Sf C gl rJ e h x K:=⟨_,by simp only[rJ,↓wZ,AO.still];rfl⟩
theorem z8b {C gl e h x K}:NW C gl rJ ⟨e,h,x⟩ K=(aT C gl e h x K).1:=(aT C gl e h x K).2
theorem zbi {C gl e h x K}:NW C gl (.loop rJ) ⟨e,h,x⟩ K=RA C gl rJ K [(0,jA e 0),(23,jA e 23),(24,jA e 24)] h x:=XB
def BP:ACode:=.pr [] (.seq (rg [mV 2 cT] [2])
.ret)
def bT (C:Hd)(gl:GL)(e:En)(h:aA)(x:Esc)(K:KT):Sf C gl BP e h x K:=⟨_,by simp only[BP,↓wZ,AO.still];rfl⟩
theorem z8c {C gl e h x K}:NW C gl BP ⟨e,h,x⟩ K=(bT C gl e h x K).1:=(bT C gl e h x K).2
def sV:ACode:=(.seq (rg [mV 2 cF] [0])
(.seq (.seq (rg [mV 5 0,
bN 6 .eql 5 (cS []),
mV 7 6,
gD 8 7 false (.mv 0),
gD 9 7 false (.lens 8),
gD 10 7 false (.bin .gtr 9 (cI 40)),
uO 11 (.pick 7 cT 10),
mV 12 11,
gD 13 12 false (.mv 0),
gD 14 12 false (.idxs 13 (cI 0)),
gD 15 12 false (.bin .lss 14 (.c (.p (.int .u8 97)))),
uO 16 (.pick 12 cT 15),
mV 17 16,
gD 18 17 false (.mv 0),
gD 19 17 false (.idxs 18 (cI 0)),
gD 20 17 false (.bin .gtr 19 (.c (.p (.int .u8 122)))),
uO 21 (.pick 17 cT 20)] [0,21])
(.cond 21 (.seq (rg [mV 2 cF] [2])
.ret)
.skip))
(.seq (.seq (rg [mV 22 0,
uO 23 (.lens 22),
mV 24 (cI 0)] [0,23,24])
(.block 0 (.loop rJ)))
BP)))
def ZM:AFun:=⟨1,[.t 2],sV,false,false⟩
def nG (C:Hd)(gl:GL)(e:En)(h:aA)(x:Esc)(K:KT):Sf C gl sV e h x K:=⟨_,by simp only[sV,↓wZ,AO.still];rfl⟩
theorem z8a {C gl v0 h x K}:NW C gl ZM.body ⟨enter [v0],h,x⟩ K=(nG C gl [(0,v0)] h x K).1:=(nG C gl [(0,v0)] h x K).2
def vQ:ACode:=.pr [0,3,5,7,9,10,11,12,13,14,93,94] (rg [mV 126 0,
mV 127 13,
mV 128 10,
mV 129 12,
uO 130 (.idxs 128 129),
mV 131 14,
cL 132 LF [126,127,130,131]] [0,3,5,7,9,10,11,93,94])
def jU (C:Hd)(gl:GL)(e:En)(h:aA)(x:Esc)(K:KT):Sf C gl vQ e h x K:=⟨_,by simp only[vQ,↓wZ,AO.still];rfl⟩
theorem z9M {C gl e h x K}:NW C gl vQ ⟨e,h,x⟩ K=(jU C gl e h x K).1:=(jU C gl e h x K).2
def wQ:ACode:=.pr [0,3,5,7,9,10,11,12,13,14,93,94] (.seq (.seq (rg [mV 102 12,
mV 103 5,
uO 104 (.lens 103),
bN 105 .sub 102 104,
mV 15 105] [0,3,5,7,9,10,11,12,13,14,15,93,94])
(.seq (rg [mV 106 15,
bN 107 .geq 106 (cI 0),
mV 108 107,
gD 109 108 true (.mv 15),
gD 110 108 true (.faddr 5 none 3),
gD 111 108 true (.load none 110),
gD 112 108 true (.lens 111),
gD 113 108 true (.bin .lss 109 112),
uO 114 (.pick 108 113 cF),
mV 115 114,
gD 116 115 true (.faddr 5 none 3),
gD 117 115 true (.load none 116),
gD 118 115 true (.mv 15),
gD 119 115 true (.idxs 117 118),
gD 120 115 true (.bin .eql 119 (.c (.p (.int .u8 49)))),
uO 121 (.pick 115 120 cF)] [0,3,5,7,9,10,11,12,13,14,15,93,94,121])
(.cond 121 (rg [fA 122 4 none 3,
lD 123 none 122,
mV 124 15,
uO 125 (.idxs 123 124),
mV 14 125] [0,3,5,7,9,10,11,12,13,14,93,94])
.skip)))
vQ)
def kU (C:Hd)(gl:GL)(e:En)(h:aA)(x:Esc)(K:KT):Sf C gl wQ e h x K:=⟨_,by simp only[wQ,↓wZ,AO.still];rfl⟩
theorem z9N {C gl e h x K}:NW C gl wQ ⟨e,h,x⟩ K=(kU C gl e h x K).1:=(kU C gl e h x K).2
def xQ:ACode:=.pr [0,3,5,7,9,10,11,93,94] (rg [bN 133 .add 94 (cI 1),
mV 94 133] [0,3,5,7,9,10,11,93,94])
def lU (C:Hd)(gl:GL)(e:En)(h:aA)(x:Esc)(K:KT):Sf C gl xQ e h x K:=⟨_,by simp only[xQ,↓wZ,AO.still];rfl⟩
theorem z9O {C gl e h x K}:NW C gl xQ ⟨e,h,x⟩ K=(lU C gl e h x K).1:=(lU C gl e h x K).2
def UJ:ACode:=.pr [0,3,5,7,9,10,11,93,94] (.seq (rg [bN 95 .lss 94 93] [0,3,5,7,9,10,11,93,94,95])
(.seq (.cond 95 .skip
(.exit 0))
(.seq (.block 1 (.seq (rg [mV 96 94,
mV 12 96] [0,3,5,7,9,10,11,12,93,94])
(.seq (rg [mV 13 (.c (.p (.int .u8 48))),
mV 14 (.c (.p (.int .u8 120)))] [0,3,5,7,9,10,11,12,13,14,93,94])
(.seq (.seq (rg [mV 97 12,
mV 98 10,
uO 99 (.lens 98),
bN 100 .sub 99 (cI 1),
bN 101 .eql 97 100] [0,3,5,7,9,10,11,12,13,14,93,94,101])
(.cond 101 (rg [mV 13 (.c (.p (.int .u8 49)))] [0,3,5,7,9,10,11,12,13,14,93,94])
.skip))
wQ))))
xQ)))
def mU (C:Hd)(gl:GL)(e:En)(h:aA)(x:Esc)(K:KT):Sf C gl UJ e h x K:=⟨_,by simp only[UJ,↓wZ,AO.still];rfl⟩
theorem z9P {C gl e h x K}:NW C gl UJ ⟨e,h,x⟩ K=(mU C gl e h x K).1:=(mU C gl e h x K).2
theorem zbE {C gl e h x K}:NW C gl (.loop UJ) ⟨e,h,x⟩ K=RA C gl UJ K [(0,jA e 0),(3,jA e 3),(5,jA e 5),(7,jA e 7),(9,jA e 9),(10,jA e 10),(11,jA e 11),(93,jA e 93),(94,jA e 94)] h x:=XB
def yQ:ACode:=.pr [0,7,9,11] (.seq (rg [mV 134 0,
mV 135 9,
uO 136 (.nilchk 134),
fA 137 36 none 136,
wO (.store none 137 135)] [0,7,11])
(.seq (rg [mV 138 0,
mV 139 7,
cL 140 HE [138,139]] [11])
(.seq (rg [mV 141 11,
mV 4 141] [4])
.ret)))
def nU (C:Hd)(gl:GL)(e:En)(h:aA)(x:Esc)(K:KT):Sf C gl yQ e h x K:=⟨_,by simp only[yQ,↓wZ,AO.still];rfl⟩
theorem z9Q {C gl e h x K}:NW C gl yQ ⟨e,h,x⟩ K=(nU C gl e h x K).1:=(nU C gl e h x K).2
def zQ:ACode:=.pr [0,3,5,7,9,10] (.seq (rg [mV 85 0,
uO 86 (.nilchk 85),
fA 87 37 none 86,
lD 88 none 87,
mV 89 5,
uO 90 (.lens 89),
bN 91 .add 88 90,
mV 11 91] [0,3,5,7,9,10,11])
(.seq (.seq (rg [mV 92 10,
uO 93 (.lens 92),
mV 94 (cI 0)] [0,3,5,7,9,10,11,93,94])
(.block 0 (.loop UJ)))
yQ))
def oU (C:Hd)(gl:GL)(e:En)(h:aA)(x:Esc)(K:KT):Sf C gl zQ e h x K:=⟨_,by simp only[zQ,↓wZ,AO.still];rfl⟩
theorem z9R {C gl e h x K}:NW C gl zQ ⟨e,h,x⟩ K=(oU C gl e h x K).1:=(oU C gl e h x K).2
def AQ:ACode:=.pr [0,3,5,6,7,8,9] (.seq (rg [mV 55 0,
mV 56 8,
cL 57 HE [55,56]] [0,3,5,6,7,9])
(.seq (rg [mV 58 5,
fA 59 3 none 3,
lD 60 none 59,
bN 61 .add 58 60,
mV 62 6,
bN 63 .add 61 62,
mV 10 63] [0,3,5,7,9,10])
(.seq (.seq (rg [fA 64 0 none 3,
lD 65 none 64,
bN 66 .eql 65 (cI 7)] [0,3,5,7,9,10,66])
(.cond 66 (rg [mV 67 0,
uO 68 (.nilchk 67),
fA 69 38 none 68,
lD 70 none 69,
mV 71 10,
uO 72 (.lens 71),
bN 73 .add 70 72,
uO 74 (.nilchk 67),
fA 75 38 none 74,
wO (.store none 75 73)] [0,3,5,7,9,10])
(rg [mV 76 0,
uO 77 (.nilchk 76),
fA 78 39 none 77,
lD 79 none 78,
mV 80 10,
uO 81 (.lens 80),
bN 82 .add 79 81,
uO 83 (.nilchk 76),
fA 84 39 none 83,
wO (.store none 84 82)] [0,3,5,7,9,10])))
zQ)))
def pU (C:Hd)(gl:GL)(e:En)(h:aA)(x:Esc)(K:KT):Sf C gl AQ e h x K:=⟨_,by simp only[AQ,↓wZ,AO.still];rfl⟩
theorem z9S {C gl e h x K}:NW C gl AQ ⟨e,h,x⟩ K=(pU C gl e h x K).1:=(pU C gl e h x K).2
def EW:ACode:=(.seq (rg [uO 3 (.box 1),
mV 4 (cI 0)] [0,3])
(.seq (dr [dF (mV 16 0) [0],
dF (uO 17 (.nilchk 16)) [16],
dF (fA 18 0 (some 36) 17) [17],
dF (fA 19 24 (some 6) 18) [18],
dF (fA 20 3 none 19) [19],
dF (lD 21 none 20) [20],
dF (mV 22 0) [0],
dF (uO 23 (.nilchk 22)) [22],
dF (fA 24 0 (some 36) 23) [23],
dF (fA 25 30 (some 6) 24) [24],
dF (fA 26 3 none 25) [25],
dF (lD 27 none 26) [26],
dF (mV 28 0) [0],
dF (uO 29 (.nilchk 28)) [28],
dF (fA 30 0 (some 36) 29) [29],
dF (fA 31 6 (some 6) 30) [30],
dF (fA 32 1 none 31) [31],
dF (lD 33 none 32) [32],
dF (mV 5 21) [21],
dF (mV 6 27) [27],
dF (mV 7 33) [33],
dF (mV 8 (cI 4)) [],
dF (mV 9 (cI 5)) []] [0,3,5,6,7,8,9])
(.seq (.seq (rg [fA 34 0 none 3,
lD 35 none 34,
bN 36 .eql 35 (cI 7)] [0,3,5,6,7,8,9,36])
(.cond 36 (dr [dF (mV 37 0) [0],
dF (uO 38 (.nilchk 37)) [37],
dF (fA 39 0 (some 36) 38) [38],
dF (fA 40 12 (some 6) 39) [39],
dF (fA 41 3 none 40) [40],
dF (lD 42 none 41) [41],
dF (mV 43 0) [0],
dF (uO 44 (.nilchk 43)) [43],
dF (fA 45 0 (some 36) 44) [44],
dF (fA 46 18 (some 6) 45) [45],
dF (fA 47 3 none 46) [46],
dF (lD 48 none 47) [47],
dF (mV 49 0) [0],
dF (uO 50 (.nilchk 49)) [49],
dF (fA 51 0 (some 36) 50) [50],
dF (fA 52 0 (some 6) 51) [51],
dF (fA 53 1 none 52) [52],
dF (lD 54 none 53) [53],
dF (mV 5 42) [42],
dF (mV 6 48) [48],
dF (mV 7 54) [54],
dF (mV 8 (cI 11)) [],
dF (mV 9 (cI 12)) []] [0,3,5,6,7,8,9])
.skip))
AQ)))
def nN:AFun:=⟨2,[.t 4],EW,false,false⟩
def gL (C:Hd)(gl:GL)(e:En)(h:aA)(x:Esc)(K:KT):Sf C gl EW e h x K:=⟨_,by simp only[EW,↓wZ,AO.still];rfl⟩
theorem z9L {C gl v0 v1 h x K}:NW C gl nN.body ⟨enter [v0,v1],h,x⟩ K=(gL C gl [(0,v0),(1,v1)] h x K).1:=(gL C gl [(0,v0),(1,v1)] h x K).2
def VJ:ACode:=.pr [0,1,4,17,18] (.seq (rg [bN 19 .lss 18 17] [0,1,4,17,18,19])
(.seq (.cond 19 .skip
(.exit 0))
(.seq (.block 1 (.seq (rg [mV 20 18,
mV 6 20] [0,1,4,6,17,18])
(rg [mV 21 0,
mV 22 4,
mV 23 6,
uO 24 (.idxs 22 23),
cL 25 LF [21,24,(.c (.p (.int .u8 48))),(.c (.p (.int .u8 120)))]] [0,1,4,17,18])))
(rg [bN 26 .add 18 (cI 1),
mV 18 26] [0,1,4,17,18]))))
def qU (C:Hd)(gl:GL)(e:En)(h:aA)(x:Esc)(K:KT):Sf C gl VJ e h x K:=⟨_,by simp only[VJ,↓wZ,AO.still];rfl⟩
theorem z9X {C gl e h x K}:NW C gl VJ ⟨e,h,x⟩ K=(qU C gl e h x K).1:=(qU C gl e h x K).2
theorem zbG {C gl e h x K}:NW C gl (.loop VJ) ⟨e,h,x⟩ K=RA C gl VJ K [(0,jA e 0),(1,jA e 1),(4,jA e 4),(17,jA e 17),(18,jA e 18)] h x:=XB
def BQ:ACode:=.pr [0,1] (rg [mV 27 0,
mV 28 1,
uO 29 (.nilchk 27),
fA 30 36 none 29,
wO (.store none 30 28)] [])
def rU (C:Hd)(gl:GL)(e:En)(h:aA)(x:Esc)(K:KT):Sf C gl BQ e h x K:=⟨_,by simp only[BQ,↓wZ,AO.still];rfl⟩
theorem z9Y {C gl e h x K}:NW C gl BQ ⟨e,h,x⟩ K=(rU C gl e h x K).1:=(rU C gl e h x K).2
def FW:ACode:=(.seq (rg [mV 8 0,
uO 9 (.nilchk 8),
fA 10 36 none 9,
lD 11 none 10,
mV 12 1,
cL 13 UI [11,12],
mV 7 13,
eX 14 7 0,
eX 15 7 1,
mV 4 14,
mV 5 15] [0,1,4])
(.seq (.seq (rg [mV 16 4,
uO 17 (.lens 16),
mV 18 (cI 0)] [0,1,4,17,18])
(.block 0 (.loop VJ)))
BQ))
def pN:AFun:=⟨2,[],FW,false,false⟩
def HO (C:Hd)(gl:GL)(e:En)(h:aA)(x:Esc)(K:KT):Sf C gl FW e h x K:=⟨_,by simp only[FW,↓wZ,AO.still];rfl⟩
theorem z9W {C gl v0 v1 h x K}:NW C gl pN.body ⟨enter [v0,v1],h,x⟩ K=(HO C gl [(0,v0),(1,v1)] h x K).1:=(HO C gl [(0,v0),(1,v1)] h x K).2
def DW:ACode:=(.seq (rg [mV 8 0,
uO 9 (.nilchk 8),
fA 10 37 none 9,
lD 11 none 10,
bN 12 .add 11 (cI 1),
uO 13 (.nilchk 8),
fA 14 37 none 13,
wO (.store none 14 12)] [0,1,2,3])
(.seq (rg [mV 15 0,
uO 16 (.nilchk 15),
fA 17 45 none 16,
lD 18 none 17] [0,1,2,3,18])
(.cond 18 (dr [dF (mV 19 0) [0],
dF (mV 20 0) [0],
dF (mV 21 0) [0],
dF (mV 22 0) [0],
dF (uO 23 (.nilchk 22)) [22],
dF (fA 24 42 none 23) [23],
dF (lD 25 none 24) [24],
dF (mV 26 1) [1],
dF (uO 27 (.bsl false none 1 (.int .u8 0) [(0,26)])) [26],
dT (uO 28 (.app none 25 27)) [25,27],
dF (mV 29 0) [0],
dF (uO 30 (.nilchk 29)) [29],
dF (fA 31 43 none 30) [30],
dA (lD 32 none 31) [31] false [9] [],
dF (mV 33 2) [2],
dA (uO 34 (.bsl false none 1 (.int .u8 0) [(0,33)])) [33] false [9] [],
dT (uO 35 (.app none 32 34)) [32,34],
dF (mV 36 0) [0],
dF (uO 37 (.nilchk 36)) [36],
dF (fA 38 44 none 37) [37],
dA (lD 39 none 38) [38] false [9,16] [],
dF (mV 40 3) [3],
dA (uO 41 (.bsl false none 1 (.int .u8 0) [(0,40)])) [40] false [9,16] [],
dT (uO 42 (.app none 39 41)) [39,41],
dF (uO 43 (.nilchk 19)) [19],
dF (fA 44 42 none 43) [43],
dT (wO (.store none 44 28)) [44,28],
dF (uO 45 (.nilchk 20)) [20],
dF (fA 46 43 none 45) [45],
dT (wO (.store none 46 35)) [46,35],
dF (uO 47 (.nilchk 21)) [21],
dF (fA 48 44 none 47) [47],
dT (wO (.store none 48 42)) [48,42]] [])
.skip)))
def mN:AFun:=⟨4,[],DW,false,false⟩
def fL (C:Hd)(gl:GL)(e:En)(h:aA)(x:Esc)(K:KT):Sf C gl DW e h x K:=⟨_,by simp only[DW,↓wZ,AO.still];rfl⟩
theorem z9K {C gl v0 v1 v2 v3 h x K}:NW C gl mN.body ⟨enter [v0,v1,v2,v3],h,x⟩ K=(fL C gl [(0,v0),(1,v1),(2,v2),(3,v3)] h x K).1:=(fL C gl [(0,v0),(1,v1),(2,v2),(3,v3)] h x K).2
def fW:ACode:=(.seq (rg [uO 2 (.box 0),
mV 4 (cI 0)] [1,2])
(.seq (.block 0 (.seq (rg [fA 6 0 none 2,
lD 7 none 6,
cL 8 SD [7],
uO 9 (.un .not 8),
mV 5 9] [1,2,5])
(.cond 5 (.seq (rg [mV 4 (cI 5)] [4])
.ret)
(.seq (rg [mV 11 1,
uO 12 (.mkfn QL [2]),
cL 13 BL [11,12],
mV 10 13] [2,10])
(.cond 10 (.seq (rg [mV 4 (cI 6)] [4])
.ret)
(.seq (rg [fA 15 1 none 2,
lD 16 none 15,
cL 17 gC [16,(cI 2),(cI 32)],
mV 18 17,
gD 19 18 false (.faddr 2 none 2),
gD 20 18 false (.load none 19),
gD 21 18 false (.call gC [20,(cI 0),(cI 4294967295)]),
uO 22 (.pick 18 cT 21),
mV 14 22] [2,14])
(.cond 14 (.seq (rg [mV 4 (cI 1)] [4])
.ret)
(.seq (rg [fA 24 2 none 2,
lD 25 none 24,
bN 26 .neq 25 (cI 0),
mV 27 26,
gD 28 27 true (.faddr 2 none 2),
gD 29 27 true (.load none 28),
gD 30 27 true (.bin .rem 29 (cI 2)),
gD 31 27 true (.bin .eql 30 (cI 0)),
uO 32 (.pick 27 31 cF),
mV 23 32] [2,23])
(.cond 23 (.seq (rg [mV 4 (cI 3)] [4])
.ret)
(.seq (rg [fA 34 3 none 2,
lD 35 none 34,
lN 36 35,
bN 37 .gtr 36 (cI 10),
mV 38 37,
gD 39 38 false (.faddr 4 none 2),
gD 40 38 false (.load none 39),
gD 41 38 false (.len 40),
gD 42 38 false (.bin .gtr 41 (cI 100)),
uO 43 (.pick 38 cT 42),
mV 33 43] [2,33])
(.cond 33 (.seq (rg [mV 4 (cI 2)] [4])
.ret)
.skip)))))))))))
(.seq (dr [dF (lD 44 (some 5) 2) [2],
dT (cL 45 VL [44]) [44],
dA (lD 46 (some 5) 2) [2] false [1] [],
dT (cL 47 RL [46]) [46],
dF (uO 48 (.bsl false none 2 (.int .i64 0) [(0,45),(1,47)])) [45,47],
dT (cL 49 uG [48]) [48],
dF (mV 4 49) [49]] [4])
.ret)))
def tS:AFun:=⟨2,[.t 4],fW,false,false⟩
def wD (C:Hd)(gl:GL)(e:En)(h:aA)(x:Esc)(K:KT):Sf C gl fW e h x K:=⟨_,by simp only[fW,↓wZ,AO.still];rfl⟩
theorem z9m {C gl v0 v1 h x K}:NW C gl tS.body ⟨enter [v0,v1],h,x⟩ K=(wD C gl [(0,v0),(1,v1)] h x K).1:=(wD C gl [(0,v0),(1,v1)] h x K).2
def GH:ACode:=.pr [5,8,18,19,20,38,39,40] (.seq (rg [bN 41 .lss 40 39] [5,8,18,19,20,38,39,40,41])
(.seq (.cond 41 .skip
(.exit 2))
(.seq (.block 3 (.seq (rg [iA 42 (some 2) 38 40,
lD 43 (some 2) 42,
uO 10 (.alloc [.p (.str []),.p (.int .i64 0)]),
wO (.store (some 2) 10 43)] [5,8,10,18,19,20,38,39,40])
(.seq (dr [dF (mV 44 8) [8],
dF (uO 45 (.nilchk 44)) [44],
dF (fA 46 7 none 45) [45],
dF (lD 47 none 46) [46],
dF (fA 48 0 none 10) [10],
dF (lD 49 none 48) [48],
dF (fA 50 1 none 10) [10],
dF (lD 51 none 50) [50],
dA (cL 52 iF [(cS [48]),51]) [51] true [] [3,5],
dT (wO (.mupd (none,[2]) 47 49 52)) [47,49,52]] [5,8,10,18,19,20,38,39,40])
(dr [dF (mV 53 8) [8],
dF (uO 54 (.nilchk 53)) [53],
dF (fA 55 8 none 54) [54],
dF (lD 56 none 55) [55],
dF (fA 57 0 none 10) [10],
dF (lD 58 none 57) [57],
dF (mV 59 8) [8],
dF (uO 60 (.nilchk 59)) [59],
dF (fA 61 7 none 60) [60],
dF (lD 62 none 61) [61],
dF (fA 63 0 none 10) [10],
dF (lD 64 none 63) [63],
dF (uO 65 (.look (none,[2]) false (.p (.str [])) 62 64)) [62,64],
dT (wO (.mupd (none,[2]) 56 58 65)) [56,58,65]] [5,8,18,19,20,38,39,40]))))
(rg [bN 66 .add 40 (cI 1),
mV 40 66] [5,8,18,19,20,38,39,40]))))
def oG (C:Hd)(gl:GL)(e:En)(h:aA)(x:Esc)(K:KT):Sf C gl GH e h x K:=⟨_,by simp only[GH,↓wZ,AO.still];rfl⟩
theorem nL {C gl e h x K}:NW C gl GH ⟨e,h,x⟩ K=(oG C gl e h x K).1:=(oG C gl e h x K).2
theorem zb2 {C gl e h x K}:NW C gl (.loop (.scope GH)) ⟨e,h,x⟩ K=RA C gl (.scope GH) K [(5,jA e 5),(8,jA e 8),(18,jA e 18),(19,jA e 19),(20,jA e 20),(38,jA e 38),(39,jA e 39),(40,jA e 40)] h x:=GD
def eQ:ACode:=.pr [5,8,18,19,20] (rg [mV 67 5,
mV 68 5,
uO 69 (.nilchk 68),
fA 70 1 none 69,
lD 71 none 70,
mV 72 8,
uO 73 (.uns 9 0 [72]),
uO 74 (.uns 11 0 [71,73]),
uO 75 (.nilchk 67),
fA 76 1 none 75,
wO (.store none 76 74)] [5,18,19,20])
def TK (C:Hd)(gl:GL)(e:En)(h:aA)(x:Esc)(K:KT):Sf C gl eQ e h x K:=⟨_,by simp only[eQ,↓wZ,AO.still];rfl⟩
theorem zU {C gl e h x K}:NW C gl eQ ⟨e,h,x⟩ K=(TK C gl e h x K).1:=(TK C gl e h x K).2
def fQ:ACode:=.pr [5,18,19,20] (rg [bN 77 .add 20 (cI 1),
mV 20 77] [5,18,19,20])
def UK (C:Hd)(gl:GL)(e:En)(h:aA)(x:Esc)(K:KT):Sf C gl fQ e h x K:=⟨_,by simp only[fQ,↓wZ,AO.still];rfl⟩
theorem AU {C gl e h x K}:NW C gl fQ ⟨e,h,x⟩ K=(UK C gl e h x K).1:=(UK C gl e h x K).2
def LJ:ACode:=.pr [5,18,19,20] (.seq (rg [bN 21 .lss 20 19] [5,18,19,20,21])
(.seq (.cond 21 .skip
(.exit 0))
(.seq (.block 1 (.seq (rg [iA 22 (some 5) 18 20,
lD 23 (some 5) 22,
uO 7 (.alloc [.p (.str []),.p (.int .i64 0),.p (.int .i64 0),.sl0 (some 2),.sl0 (some 2)]),
wO (.store (some 5) 7 23)] [5,7,18,19,20])
(.seq (dr [dF (fA 24 3 none 7) [7],
dF (lD 25 none 24) [24],
dT (cL 26 zL [25]) [25],
dF (fA 27 4 none 7) [7],
dA (lD 28 none 27) [27] false [2] [],
dT (cL 29 yL [28]) [28],
dF (fA 30 3 none 7) [7],
dT (wO (.store none 30 26)) [30,26],
dF (fA 31 4 none 7) [7],
dT (wO (.store none 31 29)) [31,29]] [5,7,18,19,20])
(.seq (rg [lD 32 (some 5) 7,
uO 33 (.mkmap),
uO 34 (.mkmap),
uO 35 (.build [.p (.str []),.p (.int .i64 0),.p (.int .i64 0),.sl0 (some 2),.sl0 (some 2),.p (.str []),.p (.str []),.nilm,.nilm] [(0,5,32),(6,1,(cS [48])),(7,1,33),(8,1,34)]),
uO 36 (.uns 12 0 [35]),
mV 8 36] [5,7,8,18,19,20])
(.seq (.seq (rg [fA 37 3 none 7,
lD 38 none 37,
lN 39 38,
mV 40 (cI 0)] [5,8,18,19,20,38,39,40])
(.block 2 (.loop (.scope GH))))
eQ)))))
fQ)))
def GI (C:Hd)(gl:GL)(e:En)(h:aA)(x:Esc)(K:KT):Sf C gl LJ e h x K:=⟨_,by simp only[LJ,↓wZ,AO.still];rfl⟩
theorem QO {C gl e h x K}:NW C gl LJ ⟨e,h,x⟩ K=(GI C gl e h x K).1:=(GI C gl e h x K).2
theorem zb3 {C gl e h x K}:NW C gl (.loop (.scope LJ)) ⟨e,h,x⟩ K=RA C gl (.scope LJ) K [(5,jA e 5),(18,jA e 18),(19,jA e 19),(20,jA e 20)] h x:=GD
def gQ:ACode:=.pr [5] (.seq (rg [mV 78 5,
mV 2 78,
mV 3 (cI 0)] [2,3])
.ret)
def VK (C:Hd)(gl:GL)(e:En)(h:aA)(x:Esc)(K:KT):Sf C gl gQ e h x K:=⟨_,by simp only[gQ,↓wZ,AO.still];rfl⟩
theorem BU {C gl e h x K}:NW C gl gQ ⟨e,h,x⟩ K=(VK C gl e h x K).1:=(VK C gl e h x K).2
def cW:ACode:=(.seq (rg [mV 2 (.c (.nilp)),
mV 3 (cI 0)] [0])
(.seq (.seq (rg [mV 11 0,
cL 12 AG [11],
mV 4 12] [0,4])
(.seq (rg [mV 13 4,
bN 14 .neq 13 (cI 0)] [0,4,14])
(.cond 14 (.seq (rg [mV 15 4,
mV 2 (.c (.nilp)),
mV 3 15] [2,3])
.ret)
.skip)))
(.seq (rg [uO 16 (.build [.p (.int .i64 0),.sl0 none] [(0,1,(cI 0))]),
uO 17 (.uns 12 1 [16]),
mV 5 17] [0,5])
(.seq (.seq (rg [mV 18 0,
lN 19 18,
mV 20 (cI 0)] [5,18,19,20])
(.block 0 (.loop (.scope LJ))))
gQ))))
def rS:AFun:=⟨1,[.t 2,.t 3],cW,false,false⟩
def nO (C:Hd)(gl:GL)(e:En)(h:aA)(x:Esc)(K:KT):Sf C gl cW e h x K:=⟨_,by simp only[cW,↓wZ,AO.still];rfl⟩
theorem z9h {C gl v0 h x K}:NW C gl rS.body ⟨enter [v0],h,x⟩ K=(nO C gl [(0,v0)] h x K).1:=(nO C gl [(0,v0)] h x K).2
def qV:ACode:=(.seq (rg [mV 2 cF] [0])
(.seq (rg [mV 3 0,
cL 4 KL [3,(cS [48,49])],
bN 5 .eql 4 (cS []),
mV 2 5] [2])
.ret))
def XM:AFun:=⟨1,[.t 2],qV,false,false⟩
def JN (C:Hd)(gl:GL)(e:En)(h:aA)(x:Esc)(K:KT):Sf C gl qV e h x K:=⟨_,by simp only[qV,↓wZ,AO.still];rfl⟩
theorem z7W {C gl v0 h x K}:NW C gl XM.body ⟨enter [v0],h,x⟩ K=(JN C gl [(0,v0)] h x K).1:=(JN C gl [(0,v0)] h x K).2
def JJ:ACode:=.pr [0,1,7,17,18,19] (.seq (rg [bN 20 .lss 19 18] [0,1,7,17,18,19,20])
(.seq (.cond 20 .skip
(.exit 0))
(.seq (.block 1 (.seq (rg [iA 21 none 17 19,
lD 22 none 21,
mV 9 22] [0,1,7,9,17,18,19])
(rg [mV 23 0,
mV 24 9,
mV 25 7,
cL 26 LL [23,24,25],
mV 7 26] [0,1,7,17,18,19])))
(rg [bN 27 .add 19 (cI 1),
mV 19 27] [0,1,7,17,18,19]))))
def UT (C:Hd)(gl:GL)(e:En)(h:aA)(x:Esc)(K:KT):Sf C gl JJ e h x K:=⟨_,by simp only[JJ,↓wZ,AO.still];rfl⟩
theorem z9f {C gl e h x K}:NW C gl JJ ⟨e,h,x⟩ K=(UT C gl e h x K).1:=(UT C gl e h x K).2
theorem zb0 {C gl e h x K}:NW C gl (.loop JJ) ⟨e,h,x⟩ K=RA C gl JJ K [(0,jA e 0),(1,jA e 1),(7,jA e 7),(17,jA e 17),(18,jA e 18),(19,jA e 19)] h x:=XB
def bQ:ACode:=.pr [0,1,10] (.seq (rg [mV 43 0,
mV 44 0,
uO 45 (.nilchk 44),
fA 46 0 none 45,
lD 47 none 46,
mV 48 1,
cL 49 lE [47,48],
uO 50 (.nilchk 43),
fA 51 0 none 50,
wO (.store none 51 49)] [10])
(.seq (rg [mV 52 10,
mV 6 52] [6])
.ret))
def pH (C:Hd)(gl:GL)(e:En)(h:aA)(x:Esc)(K:KT):Sf C gl bQ e h x K:=⟨_,by simp only[bQ,↓wZ,AO.still];rfl⟩
theorem lL {C gl e h x K}:NW C gl bQ ⟨e,h,x⟩ K=(pH C gl e h x K).1:=(pH C gl e h x K).2
def cQ:ACode:=.pr [0,1,7] (.seq (rg [mV 10 (cI (-1))] [0,1,7,10])
(.seq (.seq (rg [mV 28 0,
uO 29 (.nilchk 28),
fA 30 0 none 29,
lD 31 none 30,
bN 32 .eql 31 (cI 4),
mV 33 32,
gD 34 33 false (.mv 0),
gD 35 33 false (.nilchk 34),
gD 36 33 false (.faddr 0 none 35),
gD 37 33 false (.load none 36),
gD 38 33 false (.bin .eql 37 (cI 11)),
uO 39 (.pick 33 cT 38)] [0,1,7,10,39])
(.cond 39 (rg [mV 40 7,
bN 41 .sub 40 (.c (.p (.int .u8 48))),
uO 42 (.conv (.i .i64) 41),
mV 10 42] [0,1,10])
.skip))
bQ))
def qH (C:Hd)(gl:GL)(e:En)(h:aA)(x:Esc)(K:KT):Sf C gl cQ e h x K:=⟨_,by simp only[cQ,↓wZ,AO.still];rfl⟩
theorem mL {C gl e h x K}:NW C gl cQ ⟨e,h,x⟩ K=(qH C gl e h x K).1:=(qH C gl e h x K).2
def aW:ACode:=(.seq (rg [mV 6 (cI 0)] [0,1,2])
(.seq (rg [mV 11 2,
bN 12 .add (cI 48) 11,
uO 13 (.conv (.i .u8) 12),
mV 7 13] [0,1,7])
(.seq (.seq (rg [mV 14 0,
uO 15 (.nilchk 14),
fA 16 1 none 15,
lD 17 none 16,
lN 18 17,
mV 19 (cI 0)] [0,1,7,17,18,19])
(.block 0 (.loop JJ)))
cQ)))
def pS:AFun:=⟨3,[.t 6],aW,false,false⟩
def lO (C:Hd)(gl:GL)(e:En)(h:aA)(x:Esc)(K:KT):Sf C gl aW e h x K:=⟨_,by simp only[aW,↓wZ,AO.still];rfl⟩
theorem z9e {C gl v0 v1 v2 h x K}:NW C gl pS.body ⟨enter [v0,v1,v2],h,x⟩ K=(lO C gl [(0,v0),(1,v1),(2,v2)] h x K).1:=(lO C gl [(0,v0),(1,v1),(2,v2)] h x K).2
def yV:ACode:=(.seq (rg [mV 4 (cI 0)] [0,1])
(.seq (rg [mV 5 0,
mV 6 1,
cL 7 tG [5,6],
mV 4 7] [4])
.ret))
def LR:AFun:=⟨2,[.t 4],yV,false,false⟩
def NK (C:Hd)(gl:GL)(e:En)(h:aA)(x:Esc)(K:KT):Sf C gl yV e h x K:=⟨_,by simp only[yV,↓wZ,AO.still];rfl⟩
theorem z8v {C gl v0 v1 h x K}:NW C gl LR.body ⟨enter [v0,v1],h,x⟩ K=(NK C gl [(0,v0),(1,v1)] h x K).1:=(NK C gl [(0,v0),(1,v1)] h x K).2
def IJ:ACode:=.pr [0,1,7,8] (.seq (rg [bN 9 .lss 8 7] [0,1,7,8,9])
(.seq (.cond 9 .skip
(.exit 0))
(.seq (.block 1 (.seq (rg [mV 10 8,
mV 5 10] [0,1,5,7,8])
(.seq (rg [mV 11 1,
mV 12 0,
mV 13 5,
iA 14 (some 2) 12 13,
lD 15 (some 2) 14,
uO 16 (.callv 11 [15])] [0,1,5,7,8,16])
(.cond 16 (.seq (rg [mV 17 5,
mV 4 17] [4])
.ret)
.skip))))
(rg [bN 18 .add 8 (cI 1),
mV 8 18] [0,1,7,8]))))
def ST (C:Hd)(gl:GL)(e:En)(h:aA)(x:Esc)(K:KT):Sf C gl IJ e h x K:=⟨_,by simp only[IJ,↓wZ,AO.still];rfl⟩
theorem z8Y {C gl e h x K}:NW C gl IJ ⟨e,h,x⟩ K=(ST C gl e h x K).1:=(ST C gl e h x K).2
theorem zbz {C gl e h x K}:NW C gl (.loop IJ) ⟨e,h,x⟩ K=RA C gl IJ K [(0,jA e 0),(1,jA e 1),(7,jA e 7),(8,jA e 8)] h x:=XB
def YP:ACode:=.pr [] (.seq (rg [mV 4 (cI (-1))] [4])
.ret)
def TT (C:Hd)(gl:GL)(e:En)(h:aA)(x:Esc)(K:KT):Sf C gl YP e h x K:=⟨_,by simp only[YP,↓wZ,AO.still];rfl⟩
theorem z8Z {C gl e h x K}:NW C gl YP ⟨e,h,x⟩ K=(TT C gl e h x K).1:=(TT C gl e h x K).2
def VV:ACode:=(.seq (rg [mV 4 (cI 0)] [0,1])
(.seq (.seq (rg [mV 6 0,
lN 7 6,
mV 8 (cI 0)] [0,1,7,8])
(.block 0 (.loop IJ)))
YP))
def jS:AFun:=⟨2,[.t 4],VV,true,false⟩
def eO (C:Hd)(gl:GL)(e:En)(h:aA)(x:Esc)(K:KT):Sf C gl VV e h x K:=⟨_,by simp only[VV,↓wZ,AO.still];rfl⟩
theorem z8X {C gl v0 v1 h x K}:NW C gl jS.body ⟨enter [v0,v1],h,x⟩ K=(eO C gl [(0,v0),(1,v1)] h x K).1:=(eO C gl [(0,v0),(1,v1)] h x K).2
def WV:ACode:=(.seq (rg [mV 4 cF] [0,1])
(.seq (rg [mV 5 0,
mV 6 1,
cL 7 IL [5,6],
bN 8 .geq 7 (cI 0),
mV 4 8] [4])
.ret))
def kS:AFun:=⟨2,[.t 4],WV,false,false⟩
def fO (C:Hd)(gl:GL)(e:En)(h:aA)(x:Esc)(K:KT):Sf C gl WV e h x K:=⟨_,by simp only[WV,↓wZ,AO.still];rfl⟩
theorem z9a {C gl v0 v1 h x K}:NW C gl kS.body ⟨enter [v0,v1],h,x⟩ K=(fO C gl [(0,v0),(1,v1)] h x K).1:=(fO C gl [(0,v0),(1,v1)] h x K).2
def QV:ACode:=(.seq (rg [mV 4 cF] [0,1])
(.seq (rg [mV 5 0,
mV 6 1,
cL 7 FL [5,6],
bN 8 .geq 7 (cI 0),
mV 4 8] [4])
.ret))
def eS:AFun:=⟨2,[.t 4],QV,true,false⟩
def aO (C:Hd)(gl:GL)(e:En)(h:aA)(x:Esc)(K:KT):Sf C gl QV e h x K:=⟨_,by simp only[QV,↓wZ,AO.still];rfl⟩
theorem z8P {C gl v0 v1 h x K}:NW C gl eS.body ⟨enter [v0,v1],h,x⟩ K=(aO C gl [(0,v0),(1,v1)] h x K).1:=(aO C gl [(0,v0),(1,v1)] h x K).2
def JW:ACode:=(.seq (rg [mV 2 cF] [0])
(.seq (rg [mV 3 0,
bN 4 .eql 3 (cI 0),
mV 5 4,
gD 6 5 false (.mv 0),
gD 7 5 false (.bin .eql 6 (cI 1)),
uO 8 (.pick 5 cT 7),
mV 9 8,
gD 10 9 false (.mv 0),
gD 11 9 false (.bin .eql 10 (cI 6)),
uO 12 (.pick 9 cT 11),
mV 13 12,
gD 14 13 false (.mv 0),
gD 15 13 false (.bin .eql 14 (cI 13)),
uO 16 (.pick 13 cT 15),
mV 2 16] [2])
.ret))
def sN:AFun:=⟨1,[.t 2],JW,false,false⟩
def pG (C:Hd)(gl:GL)(e:En)(h:aA)(x:Esc)(K:KT):Sf C gl JW e h x K:=⟨_,by simp only[JW,↓wZ,AO.still];rfl⟩
theorem zac {C gl v0 h x K}:NW C gl sN.body ⟨enter [v0],h,x⟩ K=(pG C gl [(0,v0)] h x K).1:=(pG C gl [(0,v0)] h x K).2
def GW:ACode:=(.seq (rg [uO 1 (.box 0),
mV 2 (cI 0)] [1])
(.seq (.block 0 (.seq (rg [fA 4 3 none 1,
lD 5 none 4,
bN 6 .eql 5 (cS []),
mV 3 6] [1,3])
(.cond 3 (.seq (rg [mV 2 (cI 8)] [2])
.ret)
(.seq (rg [fA 8 3 none 1,
lD 9 none 8,
cL 10 RD [9],
uO 11 (.un .not 10),
mV 7 11] [1,7])
(.cond 7 (.seq (rg [mV 2 (cI 9)] [2])
.ret)
(.seq (rg [fA 13 3 none 1,
lD 14 none 13,
uO 15 (.lens 14),
bN 16 .gtr 15 (cI 2000),
mV 12 16] [1,12])
(.cond 12 (.seq (rg [mV 2 (cI 2)] [2])
.ret)
(.seq (rg [fA 18 4 none 1,
lD 19 none 18,
bN 20 .neq 19 (cS []),
mV 21 20,
gD 22 21 true (.faddr 4 none 1),
gD 23 21 true (.load none 22),
gD 24 21 true (.lens 23),
gD 25 21 true (.faddr 3 none 1),
gD 26 21 true (.load none 25),
gD 27 21 true (.lens 26),
gD 28 21 true (.bin .neq 24 27),
gD 29 21 true (.mv 28),
gD 30 29 false (.faddr 5 none 1),
gD 31 29 false (.load none 30),
gD 32 29 false (.lens 31),
gD 33 29 false (.faddr 3 none 1),
gD 34 29 false (.load none 33),
gD 35 29 false (.lens 34),
gD 36 29 false (.bin .neq 32 35),
gD 37 21 true (.pick 29 cT 36),
uO 38 (.pick 21 37 cF),
mV 17 38] [1,17])
(.cond 17 (.seq (rg [mV 2 (cI 3)] [2])
.ret)
(.seq (rg [fA 40 4 none 1,
lD 41 none 40,
cL 42 RD [41],
uO 43 (.un .not 42),
mV 44 43,
gD 45 44 false (.faddr 5 none 1),
gD 46 44 false (.load none 45),
gD 47 44 false (.call RD [46]),
gD 48 44 false (.un .not 47),
uO 49 (.pick 44 cT 48),
mV 39 49] [1,39])
(.cond 39 (.seq (rg [mV 2 (cI 9)] [2])
.ret)
(.seq (rg [fA 51 4 none 1,
lD 52 none 51,
bN 53 .eql 52 (cS []),
mV 54 53,
gD 55 54 true (.faddr 5 none 1),
gD 56 54 true (.load none 55),
gD 57 54 true (.bin .neq 56 (cS [])),
uO 58 (.pick 54 57 cF),
mV 50 58] [50])
(.cond 50 (.seq (rg [mV 2 (cI 3)] [2])
.ret)
.skip)))))))))))))
(.seq (rg [mV 2 (cI 0)] [2])
.ret)))
def qN:AFun:=⟨1,[.t 2],GW,false,false⟩
def yD (C:Hd)(gl:GL)(e:En)(h:aA)(x:Esc)(K:KT):Sf C gl GW e h x K:=⟨_,by simp only[GW,↓wZ,AO.still];rfl⟩
theorem z9Z {C gl v0 h x K}:NW C gl qN.body ⟨enter [v0],h,x⟩ K=(yD C gl [(0,v0)] h x K).1:=(yD C gl [(0,v0)] h x K).2
def dW:ACode:=(.seq (rg [mV 4 (cS []),
mV 5 (cI 0)] [0,1])
(.seq (.seq (rg [mV 6 0,
cL 7 sH [6],
uO 8 (.un .not 7),
mV 9 8,
gD 10 9 false (.mv 1),
gD 11 9 false (.call sH [10]),
gD 12 9 false (.un .not 11),
uO 13 (.pick 9 cT 12)] [0,1,13])
(.cond 13 (.seq (rg [mV 4 (cS []),
mV 5 (cI 1)] [4,5])
.ret)
.skip))
(.seq (rg [mV 14 0,
mV 15 1,
cL 16 jF [14,15],
mV 4 16,
mV 5 (cI 0)] [4,5])
.ret)))
def cN:AFun:=⟨2,[.t 4,.t 5],dW,false,false⟩
def oO (C:Hd)(gl:GL)(e:En)(h:aA)(x:Esc)(K:KT):Sf C gl dW e h x K:=⟨_,by simp only[dW,↓wZ,AO.still];rfl⟩
theorem z9i {C gl v0 v1 h x K}:NW C gl cN.body ⟨enter [v0,v1],h,x⟩ K=(oO C gl [(0,v0),(1,v1)] h x K).1:=(oO C gl [(0,v0),(1,v1)] h x K).2
def gW:ACode:=(.seq (rg [uO 2 (.box 0),
mV 3 cF] [1,2])
(.seq (rg [fA 4 0 none 2,
lD 5 none 4,
fA 6 0 none 1,
lD 7 none 6,
bN 8 .eql 5 7,
mV 3 8] [3])
.ret))
def uS:AFun:=⟨2,[.t 3],gW,false,false⟩
def qO (C:Hd)(gl:GL)(e:En)(h:aA)(x:Esc)(K:KT):Sf C gl gW e h x K:=⟨_,by simp only[gW,↓wZ,AO.still];rfl⟩
theorem z9n {C gl v0 v1 h x K}:NW C gl uS.body ⟨enter [v0,v1],h,x⟩ K=(qO C gl [(0,v0),(1,v1)] h x K).1:=(qO C gl [(0,v0),(1,v1)] h x K).2
def QJ:ACode:=.pr [1,6,7,8] (.seq (rg [bN 9 .lss 8 7] [1,6,7,8,9])
(.seq (.cond 9 .skip
(.exit 0))
(.seq (.block 1 (.seq (rg [mV 10 8,
iA 11 (some 2) 6 8,
lD 12 (some 2) 11,
uO 4 (.alloc [.p (.str []),.p (.int .i64 0)]),
mV 3 10,
wO (.store (some 2) 4 12)] [1,3,4,6,7,8])
(.block 2 (.seq (rg [fA 14 0 none 4,
lD 15 none 14,
cL 16 SD [15],
uO 17 (.un .not 16),
mV 13 17] [1,3,4,6,7,8,13])
(.cond 13 (.seq (rg [mV 2 (cI 5)] [2])
.ret)
(.seq (rg [fA 19 0 none 4,
lD 20 none 19,
bN 21 .eql 20 (cS [98,121,112,97,115,115]),
mV 22 21,
gD 23 22 false (.faddr 0 none 4),
gD 24 22 false (.load none 23),
gD 25 22 false (.bin .eql 24 (cS [105,100,99,111,100,101])),
uO 26 (.pick 22 cT 25),
mV 27 26,
gD 28 27 false (.faddr 3 none 1),
gD 29 27 false (.load none 28),
gD 30 27 false (.mv 3),
gD 31 27 false (.slice (some 2) 29 none (some 30) none),
gD 32 27 false (.mkfn WL [4]),
gD 33 27 false (.call DL [31,32]),
uO 34 (.pick 27 cT 33),
mV 18 34] [1,4,6,7,8,18])
(.cond 18 (.seq (rg [mV 2 (cI 6)] [2])
.ret)
(.seq (rg [fA 36 1 none 4,
lD 37 none 36,
cL 38 gC [37,(cI 1),(cI 1000)],
mV 35 38] [1,6,7,8,35])
(.cond 35 (.seq (rg [mV 2 (cI 1)] [2])
.ret)
.skip)))))))))
(rg [bN 39 .add 8 (cI 1),
mV 8 39] [1,6,7,8]))))
def eF (C:Hd)(gl:GL)(e:En)(h:aA)(x:Esc)(K:KT):Sf C gl QJ e h x K:=⟨_,by simp only[QJ,↓wZ,AO.still];rfl⟩
theorem rG {C gl e h x K}:NW C gl QJ ⟨e,h,x⟩ K=(eF C gl e h x K).1:=(eF C gl e h x K).2
theorem zb9 {C gl e h x K}:NW C gl (.loop (.scope QJ)) ⟨e,h,x⟩ K=RA C gl (.scope QJ) K [(1,jA e 1),(6,jA e 6),(7,jA e 7),(8,jA e 8)] h x:=GD
def nQ:ACode:=.pr [] (.seq (rg [mV 2 (cI 0)] [2])
.ret)
def BO (C:Hd)(gl:GL)(e:En)(h:aA)(x:Esc)(K:KT):Sf C gl nQ e h x K:=⟨_,by simp only[nQ,↓wZ,AO.still];rfl⟩
theorem OZ {C gl e h x K}:NW C gl nQ ⟨e,h,x⟩ K=(BO C gl e h x K).1:=(BO C gl e h x K).2
def qW:ACode:=(.seq (rg [uO 1 (.box 0),
mV 2 (cI 0)] [1])
(.seq (.seq (rg [fA 5 3 none 1,
lD 6 none 5,
lN 7 6,
mV 8 (cI 0)] [1,6,7,8])
(.block 0 (.loop (.scope QJ))))
nQ))
def DS:AFun:=⟨1,[.t 2],qW,false,false⟩
def zO (C:Hd)(gl:GL)(e:En)(h:aA)(x:Esc)(K:KT):Sf C gl qW e h x K:=⟨_,by simp only[qW,↓wZ,AO.still];rfl⟩
theorem z91 {C gl v0 h x K}:NW C gl DS.body ⟨enter [v0],h,x⟩ K=(zO C gl [(0,v0)] h x K).1:=(zO C gl [(0,v0)] h x K).2
def NJ:ACode:=.pr [1,8,9,10] (.seq (rg [bN 11 .lss 10 9] [1,8,9,10,11])
(.seq (.cond 11 .skip
(.exit 0))
(.seq (.block 1 (.seq (rg [mV 12 10,
iA 13 (some 2) 8 10,
lD 14 (some 2) 13,
uO 4 (.alloc [.p (.str []),.p (.str [])]),
mV 3 12,
wO (.store (some 2) 4 14)] [1,3,4,8,9,10])
(.seq (.block 2 (.seq (rg [fA 16 0 none 4,
lD 17 none 16,
uO 18 (.lens 17),
fA 19 1 none 1,
lD 20 none 19,
bN 21 .neq 18 20,
mV 15 21] [1,3,4,8,9,10,15])
(.cond 15 (.seq (rg [mV 2 (cI 3)] [2])
.ret)
(.seq (rg [fA 23 0 none 4,
lD 24 none 23,
cL 25 RD [24],
uO 26 (.un .not 25),
mV 22 26] [1,3,4,8,9,10,22])
(.cond 22 (.seq (rg [mV 2 (cI 9)] [2])
.ret)
(.seq (rg [fA 28 0 none 4,
lD 29 none 28,
cL 30 HL [29,(cS [48])],
uO 31 (.un .not 30),
mV 27 31] [1,3,4,8,9,10,27])
(.cond 27 (.seq (rg [mV 2 (cI 16)] [2])
.ret)
(.seq (rg [fA 33 4 none 1,
lD 34 none 33,
mV 35 3,
uO 36 (.slice (some 2) 34 none (some 35) none),
uO 37 (.mkfn SL [4]),
cL 38 CL [36,37],
mV 32 38] [1,4,8,9,10,32])
(.cond 32 (.seq (rg [mV 2 (cI 6)] [2])
.ret)
.skip)))))))))
(.seq (rg [lD 40 (some 5) 1,
fA 41 1 none 4,
lD 42 none 41,
cL 43 tH [40,42],
mV 39 43,
eX 44 39 0,
eX 45 39 1,
uO 5 (.alloc [.p (.str []),.p (.int .i64 0)]),
wO (.store (some 2) 5 44),
mV 6 45] [1,6,8,9,10])
(.seq (rg [mV 46 6,
uO 47 (.un .not 46)] [1,8,9,10,47])
(.cond 47 (.seq (rg [mV 2 (cI 8)] [2])
.ret)
.skip))))))
(rg [bN 48 .add 10 (cI 1),
mV 10 48] [1,8,9,10]))))
def bF (C:Hd)(gl:GL)(e:En)(h:aA)(x:Esc)(K:KT):Sf C gl NJ e h x K:=⟨_,by simp only[NJ,↓wZ,AO.still];rfl⟩
theorem qG {C gl e h x K}:NW C gl NJ ⟨e,h,x⟩ K=(bF C gl e h x K).1:=(bF C gl e h x K).2
theorem zb5 {C gl e h x K}:NW C gl (.loop (.scope NJ)) ⟨e,h,x⟩ K=RA C gl (.scope NJ) K [(1,jA e 1),(8,jA e 8),(9,jA e 9),(10,jA e 10)] h x:=GD
def kQ:ACode:=.pr [] (.seq (rg [mV 2 (cI 0)] [2])
.ret)
def sO (C:Hd)(gl:GL)(e:En)(h:aA)(x:Esc)(K:KT):Sf C gl kQ e h x K:=⟨_,by simp only[kQ,↓wZ,AO.still];rfl⟩
theorem LZ {C gl e h x K}:NW C gl kQ ⟨e,h,x⟩ K=(sO C gl e h x K).1:=(sO C gl e h x K).2
def iW:ACode:=(.seq (rg [uO 1 (.box 0),
mV 2 (cI 0)] [1])
(.seq (.seq (rg [fA 7 4 none 1,
lD 8 none 7,
lN 9 8,
mV 10 (cI 0)] [1,8,9,10])
(.block 0 (.loop (.scope NJ))))
kQ))
def vS:AFun:=⟨1,[.t 2],iW,false,false⟩
def rO (C:Hd)(gl:GL)(e:En)(h:aA)(x:Esc)(K:KT):Sf C gl iW e h x K:=⟨_,by simp only[iW,↓wZ,AO.still];rfl⟩
theorem z9o {C gl v0 h x K}:NW C gl vS.body ⟨enter [v0],h,x⟩ K=(rO C gl [(0,v0)] h x K).1:=(rO C gl [(0,v0)] h x K).2
def NV:ACode:=(.det (.seq (rg [mV 2 (.c (.p (.sl (some 2) [])))] [0])
(.seq (.seq (rg [mV 3 0,
uO 4 (.isnil 4 false 3)] [0,4])
(.condu 4 (.seq (rg [mV 2 (.c (.p (.sl (some 2) [])))] [2])
.ret)
.skip))
(.seq (rg [uO 5 (.bsl true (some 2) 0 (.agg [.str [],.int .i64 0]) []),
mV 6 0,
uO 7 (.app (some 2) 5 6),
mV 2 7] [2])
.ret))))
def bS:AFun:=⟨1,[.t 2],NV,false,false⟩
def YN (C:Hd)(gl:GL)(e:En)(h:aA)(x:Esc)(K:KT):Sf C gl NV e h x K:=⟨_,by simp only[NV,↓wZ,AO.still];rfl⟩
theorem z8N {C gl v0 h x K}:NW C gl bS.body ⟨enter [v0],h,x⟩ K=(YN C gl [(0,v0)] h x K).1:=(YN C gl [(0,v0)] h x K).2
def MV:ACode:=(.det (.seq (rg [mV 2 (.c (.p (.sl (some 2) [])))] [0])
(.seq (.seq (rg [mV 3 0,
uO 4 (.isnil 4 false 3)] [0,4])
(.condu 4 (.seq (rg [mV 2 (.c (.p (.sl (some 2) [])))] [2])
.ret)
.skip))
(.seq (rg [uO 5 (.bsl true (some 2) 0 (.agg [.str [],.str []]) []),
mV 6 0,
uO 7 (.app (some 2) 5 6),
mV 2 7] [2])
.ret))))
def aS:AFun:=⟨1,[.t 2],MV,false,false⟩
def XN (C:Hd)(gl:GL)(e:En)(h:aA)(x:Esc)(K:KT):Sf C gl MV e h x K:=⟨_,by simp only[MV,↓wZ,AO.still];rfl⟩
theorem z8M {C gl v0 h x K}:NW C gl aS.body ⟨enter [v0],h,x⟩ K=(XN C gl [(0,v0)] h x K).1:=(XN C gl [(0,v0)] h x K).2
def ZP:ACode:=.pr [1,2,12,25] (.cond 25 (.seq (rg [mV 28 1,
uO 29 (.nilchk 28),
fA 30 6 none 29,
lD 31 none 30,
uO 32 (.idxs 31 (cI 0)),
mV 7 32] [1,2,7])
(.seq (rg [mV 33 1,
mV 34 1,
uO 35 (.nilchk 34),
fA 36 6 none 35,
lD 37 none 36,
uO 38 (.slstr 37 (some (cI 1)) none),
mV 39 2,
uO 40 (.conv (.i .i32) 39),
uO 41 (.conv .r2s 40),
bN 42 .add 38 41,
uO 43 (.nilchk 33),
fA 44 6 none 43,
wO (.store none 44 42)] [7])
(.seq (rg [mV 45 7,
mV 6 45] [6])
.ret)))
(.seq (rg [bN 47 .eql 12 (cI 8),
mV 46 47] [1,2,12,46])
(.cond 46 (.seq (rg [mV 48 1,
cL 49 VI [48],
uO 50 (.field 0 none 49),
mV 8 50] [1,2,8])
(.seq (rg [mV 51 8,
bN 52 .neq 51 (cS [98,121,112,97,115,115]),
mV 53 52,
gD 54 53 true (.mv 8),
gD 55 53 true (.bin .neq 54 (cS [105,100,99,111,100,101])),
uO 56 (.pick 53 55 cF)] [1,2,8,56])
(.cond 56 (dr [dF (mV 57 1) [1],
dF (uO 58 (.nilchk 57)) [57],
dF (fA 59 8 none 58) [58],
dF (lD 60 none 59) [59],
dF (mV 61 8) [8],
dF (mV 62 1) [1],
dF (uO 63 (.nilchk 62)) [62],
dF (fA 64 6 none 63) [63],
dF (lD 65 none 64) [64],
dT (wO (.mupd (none,[2]) 60 61 65)) [60,61,65]] [2])
.skip)))
(.seq (rg [bN 67 .eql 12 (cI 10),
mV 66 67] [1,2,12,66])
(.cond 66 (rg [mV 68 1,
mV 69 1,
uO 70 (.nilchk 69),
fA 71 0 (some 5) 70,
fA 72 1 none 71,
lD 73 none 72,
bN 74 .sub 73 (cI 1),
cL 75 iF [(cS [48]),74],
bN 76 .add (cS [49]) 75,
uO 77 (.nilchk 68),
fA 78 6 none 77,
wO (.store none 78 76)] [2])
(.seq (rg [bN 80 .eql 12 (cI 15),
mV 79 80] [1,2,79])
(.cond 79 (rg [mV 81 1,
mV 82 1,
uO 83 (.nilchk 82),
fA 84 6 none 83,
lD 85 none 84,
uO 86 (.nilchk 81),
fA 87 5 none 86,
wO (.store none 87 85)] [2])
.skip)))))))
def kE (C:Hd)(gl:GL)(e:En)(h:aA)(x:Esc)(K:KT):Sf C gl ZP e h x K:=⟨_,by simp only[ZP,↓wZ,AO.still];rfl⟩
theorem xU {C gl e h x K}:NW C gl ZP ⟨e,h,x⟩ K=(kE C gl e h x K).1:=(kE C gl e h x K).2
def aQ:ACode:=.pr [2] (.seq (rg [mV 88 2,
mV 6 88] [6])
.ret)
def vD (C:Hd)(gl:GL)(e:En)(h:aA)(x:Esc)(K:KT):Sf C gl aQ e h x K:=⟨_,by simp only[aQ,↓wZ,AO.still];rfl⟩
theorem yU {C gl e h x K}:NW C gl aQ ⟨e,h,x⟩ K=(vD C gl e h x K).1:=(vD C gl e h x K).2
def ZV:ACode:=(.seq (rg [mV 6 (.c (.p (.int .u8 0)))] [0,1,2])
(.seq (.seq (rg [mV 9 0,
uO 10 (.nilchk 9),
fA 11 0 none 10,
lD 12 none 11] [1,2,12])
(.block 0 (.seq (rg [bN 14 .eql 12 (cI 0),
mV 13 14] [1,2,12,13])
(.cond 13 (rg [mV 15 1,
uO 16 (.nilchk 15),
fA 17 5 none 16,
wO (.store none 17 (cS []))] [2])
(.seq (rg [bN 19 .eql 12 (cI 3),
mV 18 19] [1,2,12,18])
(.cond 18 (rg [mV 20 1,
mV 21 1,
cL 22 TL [21],
uO 23 (.nilchk 20),
fA 24 6 none 23,
wO (.store none 24 22)] [2])
(.seq (.seq (rg [bN 26 .eql 12 (cI 4),
mV 25 26] [1,2,12,25])
(.cond 25 .skip
(rg [bN 27 .eql 12 (cI 11),
mV 25 27] [1,2,12,25])))
ZP)))))))
aQ))
def oS:AFun:=⟨3,[.t 6],ZV,false,false⟩
def OD (C:Hd)(gl:GL)(e:En)(h:aA)(x:Esc)(K:KT):Sf C gl ZV e h x K:=⟨_,by simp only[ZV,↓wZ,AO.still];rfl⟩
theorem z9d {C gl v0 v1 v2 h x K}:NW C gl oS.body ⟨enter [v0,v1,v2],h,x⟩ K=(OD C gl [(0,v0),(1,v1),(2,v2)] h x K).1:=(OD C gl [(0,v0),(1,v1),(2,v2)] h x K).2
def z45:ACode:=(.seq (rg [mV 4 (cI 0)] [0,1])
(.seq (rg [uO 6 (.build [.p (.int .i64 0),.p (.int .i64 0)] [(0,1,(cI 1)),(1,1,(cI 0))]),
uO 7 (.build [.p (.int .i64 0),.p (.int .i64 0)] [(0,1,(cI 1)),(1,1,(cI 2))]),
uO 8 (.build [.p (.int .i64 0),.p (.int .i64 0)] [(0,1,(cI 3)),(1,1,(cI 9))]),
uO 9 (.build [.p (.int .i64 0),.p (.int .i64 0)] [(0,1,(cI 4)),(1,1,(cI 5))]),
uO 10 (.build [.p (.int .i64 0),.p (.int .i64 0)] [(0,1,(cI 4)),(1,1,(cI 5))]),
uO 11 (.build [.p (.int .i64 0),.p (.int .i64 0)] [(0,1,(cI 6)),(1,1,(cI 8))]),
uO 12 (.build [.p (.int .i64 0),.p (.int .i64 0)] [(0,1,(cI 6)),(1,1,(cI 7))]),
uO 13 (.build [.p (.int .i64 0),.p (.int .i64 0)] [(0,1,(cI 4)),(1,1,(cI 8))]),
uO 14 (.build [.p (.int .i64 0),.p (.int .i64 0)] [(0,1,(cI 1)),(1,1,(cI 2))]),
uO 15 (.build [.p (.int .i64 0),.p (.int .i64 0)] [(0,1,(cI 10)),(1,1,(cI 0))]),
uO 16 (.build [.p (.int .i64 0),.p (.int .i64 0)] [(0,1,(cI 11)),(1,1,(cI 12))]),
uO 17 (.build [.p (.int .i64 0),.p (.int .i64 0)] [(0,1,(cI 11)),(1,1,(cI 12))]),
uO 18 (.build [.p (.int .i64 0),.p (.int .i64 0)] [(0,1,(cI 13)),(1,1,(cI 15))]),
uO 19 (.build [.p (.int .i64 0),.p (.int .i64 0)] [(0,1,(cI 13)),(1,1,(cI 14))]),
uO 20 (.build [.p (.int .i64 0),.p (.int .i64 0)] [(0,1,(cI 11)),(1,1,(cI 15))]),
uO 21 (.build [.p (.int .i64 0),.p (.int .i64 0)] [(0,1,(cI 1)),(1,1,(cI 2))]),
uO 22 (.build [.p (.int .i64 0),.p (.int .i64 0),.p (.int .i64 0),.p (.int .i64 0),.p (.int .i64 0),.p (.int .i64 0),.p (.int .i64 0),.p (.int .i64 0),.p (.int .i64 0),.p (.int .i64 0),.p (.int .i64 0),.p (.int .i64 0),.p (.int .i64 0),.p (.int .i64 0),.p (.int .i64 0),.p (.int .i64 0),.p (.int .i64 0),.p (.int .i64 0),.p (.int .i64 0),.p (.int .i64 0),.p (.int .i64 0),.p (.int .i64 0),.p (.int .i64 0),.p (.int .i64 0),.p (.int .i64 0),.p (.int .i64 0),.p (.int .i64 0),.p (.int .i64 0),.p (.int .i64 0),.p (.int .i64 0),.p (.int .i64 0),.p (.int .i64 0)] [(0,2,6),(2,2,7),(4,2,8),(6,2,9),(8,2,10),(10,2,11),(12,2,12),(14,2,13),(16,2,14),(18,2,15),(20,2,16),(22,2,17),(24,2,18),(26,2,19),(28,2,20),(30,2,21)]),
uO 5 (.alloc [.p (.int .i64 0),.p (.int .i64 0),.p (.int .i64 0),.p (.int .i64 0),.p (.int .i64 0),.p (.int .i64 0),.p (.int .i64 0),.p (.int .i64 0),.p (.int .i64 0),.p (.int .i64 0),.p (.int .i64 0),.p (.int .i64 0),.p (.int .i64 0),.p (.int .i64 0),.p (.int .i64 0),.p (.int .i64 0),.p (.int .i64 0),.p (.int .i64 0),.p (.int .i64 0),.p (.int .i64 0),.p (.int .i64 0),.p (.int .i64 0),.p (.int .i64 0),.p (.int .i64 0),.p (.int .i64 0),.p (.int .i64 0),.p (.int .i64 0),.p (.int .i64 0),.p (.int .i64 0),.p (.int .i64 0),.p (.int .i64 0),.p (.int .i64 0)]),
wO (.store (some 32) 5 22)] [0,1,5])
(.seq (rg [mV 23 0,
mV 24 1,
uO 25 (.iaddra 16 (some 2) 5 23),
uO 26 (.iaddra 2 none 25 24),
lD 27 none 26,
mV 4 27] [4])
.ret)))
def aH:AFun:=⟨2,[.t 4],z45,false,false⟩
def xO (C:Hd)(gl:GL)(v0 v1:AV)(h:aA)(x:Esc)(K:KT):Prop:=
 pK (iC [.p (.int .i64 0),.p (.int .i64 0)] [(0,1,(AI 1)),(1,1,(AI 0))]) fun t1=>
 pK (iC [.p (.int .i64 0),.p (.int .i64 0)] [(0,1,(AI 1)),(1,1,(AI 2))]) fun t2=>
 pK (iC [.p (.int .i64 0),.p (.int .i64 0)] [(0,1,(AI 3)),(1,1,(AI 9))]) fun t3=>
 pK (iC [.p (.int .i64 0),.p (.int .i64 0)] [(0,1,(AI 4)),(1,1,(AI 5))]) fun t4=>
 pK (iC [.p (.int .i64 0),.p (.int .i64 0)] [(0,1,(AI 4)),(1,1,(AI 5))]) fun t5=>
 pK (iC [.p (.int .i64 0),.p (.int .i64 0)] [(0,1,(AI 6)),(1,1,(AI 8))]) fun t6=>
 pK (iC [.p (.int .i64 0),.p (.int .i64 0)] [(0,1,(AI 6)),(1,1,(AI 7))]) fun t7=>
 pK (iC [.p (.int .i64 0),.p (.int .i64 0)] [(0,1,(AI 4)),(1,1,(AI 8))]) fun t8=>
 pK (iC [.p (.int .i64 0),.p (.int .i64 0)] [(0,1,(AI 1)),(1,1,(AI 2))]) fun t9=>
 pK (iC [.p (.int .i64 0),.p (.int .i64 0)] [(0,1,(AI 10)),(1,1,(AI 0))]) fun t10=>
 pK (iC [.p (.int .i64 0),.p (.int .i64 0)] [(0,1,(AI 11)),(1,1,(AI 12))]) fun t11=>
 pK (iC [.p (.int .i64 0),.p (.int .i64 0)] [(0,1,(AI 11)),(1,1,(AI 12))]) fun t12=>
 pK (iC [.p (.int .i64 0),.p (.int .i64 0)] [(0,1,(AI 13)),(1,1,(AI 15))]) fun t13=>
 pK (iC [.p (.int .i64 0),.p (.int .i64 0)] [(0,1,(AI 13)),(1,1,(AI 14))]) fun t14=>
 pK (iC [.p (.int .i64 0),.p (.int .i64 0)] [(0,1,(AI 11)),(1,1,(AI 15))]) fun t15=>
 pK (iC [.p (.int .i64 0),.p (.int .i64 0)] [(0,1,(AI 1)),(1,1,(AI 2))]) fun t16=>
 pK (iC [.p (.int .i64 0),.p (.int .i64 0),.p (.int .i64 0),.p (.int .i64 0),.p (.int .i64 0),.p (.int .i64 0),.p (.int .i64 0),.p (.int .i64 0),.p (.int .i64 0),.p (.int .i64 0),.p (.int .i64 0),.p (.int .i64 0),.p (.int .i64 0),.p (.int .i64 0),.p (.int .i64 0),.p (.int .i64 0),.p (.int .i64 0),.p (.int .i64 0),.p (.int .i64 0),.p (.int .i64 0),.p (.int .i64 0),.p (.int .i64 0),.p (.int .i64 0),.p (.int .i64 0),.p (.int .i64 0),.p (.int .i64 0),.p (.int .i64 0),.p (.int .i64 0),.p (.int .i64 0),.p (.int .i64 0),.p (.int .i64 0),.p (.int .i64 0)] [(0,2,t1),(2,2,t2),(4,2,t3),(6,2,t4),(8,2,t5),(10,2,t6),(12,2,t7),(14,2,t8),(16,2,t9),(18,2,t10),(20,2,t11),(22,2,t12),(24,2,t13),(26,2,t14),(28,2,t15),(30,2,t16)]) fun t17=>
 alK [.p (.int .i64 0),.p (.int .i64 0),.p (.int .i64 0),.p (.int .i64 0),.p (.int .i64 0),.p (.int .i64 0),.p (.int .i64 0),.p (.int .i64 0),.p (.int .i64 0),.p (.int .i64 0),.p (.int .i64 0),.p (.int .i64 0),.p (.int .i64 0),.p (.int .i64 0),.p (.int .i64 0),.p (.int .i64 0),.p (.int .i64 0),.p (.int .i64 0),.p (.int .i64 0),.p (.int .i64 0),.p (.int .i64 0),.p (.int .i64 0),.p (.int .i64 0),.p (.int .i64 0),.p (.int .i64 0),.p (.int .i64 0),.p (.int .i64 0),.p (.int .i64 0),.p (.int .i64 0),.p (.int .i64 0),.p (.int .i64 0),.p (.int .i64 0)] h fun t18 h19 y20=>
 wK (KE (some 32) t18 t17 h19) fun t21 h22 y23=>
 pK (DH 16 (some 2) t18 v0) fun t24=>
 pK (DH 2 none t24 v1) fun t25=>
 pK (MB none t25 h22) fun t26=>
 K .ret ⟨[(4,t26)],h22,(y23++(y20++x))⟩
theorem MZ {C gl v0 v1 h x K}:NW C gl aH.body ⟨enter [v0,v1],h,x⟩ K=xO C gl v0 v1 h x K:=by kernel_rfl
def XV:ACode:=(.seq (rg [mV 4 (cI 0)] [0,1])
(.seq (rg [mV 5 0,
mV 6 1,
cL 7 tL [5,6],
mV 4 7] [4])
.ret))
def lS:AFun:=⟨2,[.t 4],XV,false,false⟩
def iO (C:Hd)(gl:GL)(e:En)(h:aA)(x:Esc)(K:KT):Sf C gl XV e h x K:=⟨_,by simp only[XV,↓wZ,AO.still];rfl⟩
theorem z9b {C gl v0 v1 h x K}:NW C gl lS.body ⟨enter [v0,v1],h,x⟩ K=(iO C gl [(0,v0),(1,v1)] h x K).1:=(iO C gl [(0,v0),(1,v1)] h x K).2
def HJ:ACode:=.pr [0,1,7,8] (.seq (rg [bN 9 .lss 8 7] [0,1,7,8,9])
(.seq (.cond 9 .skip
(.exit 0))
(.seq (.block 1 (.seq (rg [mV 10 8,
mV 5 10] [0,1,5,7,8])
(.seq (rg [mV 11 1,
mV 12 0,
mV 13 5,
iA 14 (some 2) 12 13,
lD 15 (some 2) 14,
uO 16 (.callv 11 [15])] [0,1,5,7,8,16])
(.cond 16 (.seq (rg [mV 17 5,
mV 4 17] [4])
.ret)
.skip))))
(rg [bN 18 .add 8 (cI 1),
mV 8 18] [0,1,7,8]))))
def QT (C:Hd)(gl:GL)(e:En)(h:aA)(x:Esc)(K:KT):Sf C gl HJ e h x K:=⟨_,by simp only[HJ,↓wZ,AO.still];rfl⟩
theorem z8V {C gl e h x K}:NW C gl HJ ⟨e,h,x⟩ K=(QT C gl e h x K).1:=(QT C gl e h x K).2
theorem zby {C gl e h x K}:NW C gl (.loop HJ) ⟨e,h,x⟩ K=RA C gl HJ K [(0,jA e 0),(1,jA e 1),(7,jA e 7),(8,jA e 8)] h x:=XB
def XP:ACode:=.pr [] (.seq (rg [mV 4 (cI (-1))] [4])
.ret)
def RT (C:Hd)(gl:GL)(e:En)(h:aA)(x:Esc)(K:KT):Sf C gl XP e h x K:=⟨_,by simp only[XP,↓wZ,AO.still];rfl⟩
theorem z8W {C gl e h x K}:NW C gl XP ⟨e,h,x⟩ K=(RT C gl e h x K).1:=(RT C gl e h x K).2
def UV:ACode:=(.seq (rg [mV 4 (cI 0)] [0,1])
(.seq (.seq (rg [mV 6 0,
lN 7 6,
mV 8 (cI 0)] [0,1,7,8])
(.block 0 (.loop HJ)))
XP))
def iS:AFun:=⟨2,[.t 4],UV,true,false⟩
def dO (C:Hd)(gl:GL)(e:En)(h:aA)(x:Esc)(K:KT):Sf C gl UV e h x K:=⟨_,by simp only[UV,↓wZ,AO.still];rfl⟩
theorem z8U {C gl v0 v1 h x K}:NW C gl iS.body ⟨enter [v0,v1],h,x⟩ K=(dO C gl [(0,v0),(1,v1)] h x K).1:=(dO C gl [(0,v0),(1,v1)] h x K).2
def kW:ACode:=(.seq (rg [mV 2 cF] [0])
(.seq (rg [mV 3 0,
cL 4 gC [3,(cI 0),(cI 15)],
uO 5 (.un .not 4),
mV 2 5] [2])
.ret))
def dN:AFun:=⟨1,[.t 2],kW,false,false⟩
def vO (C:Hd)(gl:GL)(e:En)(h:aA)(x:Esc)(K:KT):Sf C gl kW e h x K:=⟨_,by simp only[kW,↓wZ,AO.still];rfl⟩
theorem z9q {C gl v0 h x K}:NW C gl dN.body ⟨enter [v0],h,x⟩ K=(vO C gl [(0,v0)] h x K).1:=(vO C gl [(0,v0)] h x K).2
def lW:ACode:=.pr [1,5,6,7,25] (rg [bN 53 .add 25 (cI 1),
mV 25 53] [1,5,6,7,25])
def oZ (C:Hd)(gl:GL)(v1 v5 v6 v7 v25:AV)(h:aA)(x:Esc)(K:KT):Prop:=
 pK (SA .add v25 (AI 1)) fun t1=>
 K .normal ⟨[(1,v1),(5,v5),(6,v6),(7,v7),(25,t1)],h,x⟩
theorem z9r {C gl e h x K}:NW C gl lW ⟨e,h,x⟩ K=oZ C gl (jA e 1) (jA e 5) (jA e 6) (jA e 7) (jA e 25) h x K:=by kernel_rfl
def bY (q1:ACode):ACode:=.pr [1,5,6,7,25] (.seq (rg [bN 26 .lss 25 (cI 2)] [1,5,6,7,25,26])
(.seq (.cond 26 .skip
(.exit 2))
(.seq (.block 3 (.seq (rg [mV 27 25,
mV 8 27] [1,5,6,7,8,25])
(.seq (rg [mV 28 7,
mV 29 8,
cL 30 lE [28,29],
mV 9 30] [1,5,6,7,8,9,25])
(.seq (rg [mV 32 5,
mV 33 9,
uO 34 (.look (none,[0]) true (.p (.str [])) 32 33),
mV 31 34,
eX 35 31 0,
eX 36 31 1,
mV 10 35,
mV 11 36] [1,5,6,7,8,9,11,25])
(.seq (rg [mV 37 11,
uO 38 (.un .not 37)] [1,5,6,7,8,9,25,38])
(.cond 38 (.seq (rg [mV 39 5,
mV 40 9,
mV 41 5,
mV 42 7,
uO 43 (.look (none,[0]) false (.p (.str [])) 41 42),
mV 44 8,
bN 45 .add (cI 48) 44,
uO 46 (.conv (.i .i32) 45),
uO 47 (.conv .r2s 46),
bN 48 .add 43 47,
wO (.mupd (none,[0]) 39 40 48)] [1,5,6,7,9,25])
(rg [mV 49 6,
mV 50 9,
uO 51 (.bsl false none 1 (.int .i64 0) [(0,50)]),
uO 52 (.mnext (some none) [49,51]),
mV 6 52] [1,5,6,7,25]))
.skip))))))
q1)))
def vM:ACode:=bY lW
def XT (C:Hd)(gl:GL)(q1:ACode)(v1 v5 v6 v7 v25:AV)(h:aA)(x:Esc)(K:KT):Prop:=
 pK (SA .lss v25 (AI 2)) fun t1=>
 OC t1 (C lE [v7,v25] h fun t2 h3 y4=>
 pK (CB (none,[0]) true (.p (.str [])) v5 t2 h3) fun t5=>
 pK (BH t5 0) fun t6=>
 pK (BH t5 1) fun t7=>
 pK (oUn .not t7) fun t8=>
 OC t8 (pK (CB (none,[0]) false (.p (.str [])) v5 v7 h3) fun t9=>
 pK (SA .add (AI 48) v25) fun t10=>
 pK (lJ .i32 t10) fun t11=>
 wK (CD .r2s t11 h3) fun t12 h13 y14=>
 pK (SA .add t9 t12) fun t15=>
 wK (NB (none,[0]) v5 t2 t15 h13) fun t16 h17 y18=>
 wK (SF false none 1 (.int .i64 0) [(0,t2)] h17) fun t19 h20 y21=>
 nqK (some none) [v6,t19] h20 fun t22 h23 y24=>
 NW C gl q1 ⟨[(1,v1),(5,v5),(6,t22),(7,v7),(25,v25)],h23,(y24++(y21++(y18++(y14++(y4++x)))))⟩ K)
 (NW C gl q1 ⟨[(1,v1),(5,v5),(6,v6),(7,v7),(8,v25),(9,t2),(25,v25),(38,t8)],h3,(y4++x)⟩ K))
 (K (.exit 2) ⟨[(1,v1),(5,v5),(6,v6),(7,v7),(25,v25),(26,t1)],h,x⟩)
theorem z4y {C gl q1 e h x K}:NW C gl (bY q1) ⟨e,h,x⟩ K=XT C gl q1 (jA e 1) (jA e 5) (jA e 6) (jA e 7) (jA e 25) h x K:=by kernel_rfl
theorem z9s {C gl e h x K}:NW C gl vM ⟨e,h,x⟩ K=XT C gl lW (jA e 1) (jA e 5) (jA e 6) (jA e 7) (jA e 25) h x K:=z4y
theorem zb6 {C gl e h x K}:NW C gl (.loop vM) ⟨e,h,x⟩ K=RA C gl vM K [(1,jA e 1),(5,jA e 5),(6,jA e 6),(7,jA e 7),(25,jA e 25)] h x:=XB
def cY (q2:ACode):ACode:=.pr [1,5,6] (.seq (.seq (rg [mV 17 6,
lN 18 17,
bN 19 .gtr 18 (cI 0)] [1,5,6,19])
(.cond 19 .skip
(.exit 0)))
(.block 1 (.seq (rg [mV 20 6,
iA 21 none 20 (cI 0),
lD 22 none 21,
mV 7 22] [1,5,6,7])
(.seq (rg [mV 23 6,
uO 24 (.slice none 23 (some (cI 1)) none none),
mV 6 24] [1,5,6,7])
(.seq (rg [mV 25 (cI 0)] [1,5,6,7,25])
(.block 2 (.loop q2)))))))
def OJ:ACode:=cY vM
def YT (C:Hd)(gl:GL)(q2:ACode)(v1 v5 v6:AV)(h:aA)(x:Esc)(K:KT):Prop:=
 pK (UF v6) fun t1=>
 pK (SA .gtr t1 (AI 0)) fun t2=>
 OC t2 (pK (XD none v6 (AI 0) h) fun t3=>
 pK (MB none t3 h) fun t4=>
 pK (EH none v6 (some (AI 1)) none none h) fun t5=>
 NW C gl (.loop q2) ⟨[(1,v1),(5,v5),(6,t5),(7,t4),(25,(AI 0))],h,x⟩ (cD 2 (cD 1 K)))
 (K (.exit 0) ⟨[(1,v1),(5,v5),(6,v6),(19,t2)],h,x⟩)
theorem z4z {C gl q2 e h x K}:NW C gl (cY q2) ⟨e,h,x⟩ K=YT C gl q2 (jA e 1) (jA e 5) (jA e 6) h x K:=by kernel_rfl
theorem z9t {C gl e h x K}:NW C gl OJ ⟨e,h,x⟩ K=YT C gl vM (jA e 1) (jA e 5) (jA e 6) h x K:=z4z
theorem zb7 {C gl e h x K}:NW C gl (.loop OJ) ⟨e,h,x⟩ K=RA C gl OJ K [(1,jA e 1),(5,jA e 5),(6,jA e 6)] h x:=XB
def lQ:ACode:=.pr [1,5] (.seq (rg [mV 54 5,
mV 55 1,
uO 56 (.look (none,[0]) false (.p (.str [])) 54 55),
mV 4 56] [4])
.ret)
def pZ (C:Hd)(gl:GL)(v1 v5:AV)(h:aA)(x:Esc)(K:KT):Prop:=
 pK (CB (none,[0]) false (.p (.str [])) v5 v1 h) fun t1=>
 K .ret ⟨[(4,t1)],h,x⟩
theorem z9u {C gl e h x K}:NW C gl lQ ⟨e,h,x⟩ K=pZ C gl (jA e 1) (jA e 5) h x K:=by kernel_rfl
def aY (q3 q4:ACode):ACode:=(.det (.seq (rg [mV 4 (cS [])] [0,1])
(.seq (rg [uO 12 (.mkmap),
mV 13 0,
wO (.mupd (none,[0]) 12 13 (cS [])),
mV 14 12,
mV 5 14] [0,1,5])
(.seq (rg [mV 15 0,
uO 16 (.bsl true none 1 (.int .i64 0) [(0,15)]),
mV 6 16] [1,5,6])
(.seq (.block 0 (.loop q3))
q4)))))
def nI:AFun:=⟨2,[.t 4],aY OJ lQ,false,false⟩
def WK (C:Hd)(gl:GL)(q3 q4:ACode)(v0 v1:AV)(h:aA)(x:Esc)(K:KT):Prop:=
 mmK h fun t1 h2 y3=>
 wK (NB (none,[0]) t1 v0 (.p (.str [])) h2) fun t4 h5 y6=>
 wK (SF true none 1 (.int .i64 0) [(0,v0)] h5) fun t7 h8 y9=>
 NW C gl (.loop q3) ⟨[(1,v1),(5,t1),(6,t7)],h8,(y9++(y6++(y3++x)))⟩ (cD 0 (aG C gl q4 K))
theorem z4x {C gl q3 q4 v0 v1 h x K}:NW C gl (aY q3 q4) ⟨enter [v0,v1],h,x⟩ K=WK C gl q3 q4 v0 v1 h x K:=by kernel_rfl
theorem NZ {C gl v0 v1 h x K}:NW C gl nI.body ⟨enter [v0,v1],h,x⟩ K=WK C gl OJ lQ v0 v1 h x K:=z4x
def rW:ACode:=(.seq (rg [uO 2 (.box 0),
mV 3 cF] [1,2])
(.seq (rg [fA 4 0 none 2,
lD 5 none 4,
fA 6 0 none 1,
lD 7 none 6,
bN 8 .eql 5 7,
mV 3 8] [3])
.ret))
def ES:AFun:=⟨2,[.t 3],rW,false,false⟩
def CO (C:Hd)(gl:GL)(e:En)(h:aA)(x:Esc)(K:KT):Sf C gl rW e h x K:=⟨_,by simp only[rW,↓wZ,AO.still];rfl⟩
theorem z92 {C gl v0 v1 h x K}:NW C gl ES.body ⟨enter [v0,v1],h,x⟩ K=(CO C gl [(0,v0),(1,v1)] h x K).1:=(CO C gl [(0,v0),(1,v1)] h x K).2
def jW:ACode:=(.seq (rg [uO 2 (.box 0),
mV 3 cF] [1,2])
(.seq (rg [fA 4 0 none 2,
lD 5 none 4,
fA 6 0 none 1,
lD 7 none 6,
bN 8 .eql 5 7,
mV 3 8] [3])
.ret))
def xS:AFun:=⟨2,[.t 3],jW,false,false⟩
def tO (C:Hd)(gl:GL)(e:En)(h:aA)(x:Esc)(K:KT):Sf C gl jW e h x K:=⟨_,by simp only[jW,↓wZ,AO.still];rfl⟩
theorem z9p {C gl v0 v1 h x K}:NW C gl xS.body ⟨enter [v0,v1],h,x⟩ K=(tO C gl [(0,v0),(1,v1)] h x K).1:=(tO C gl [(0,v0),(1,v1)] h x K).2
def oW:ACode:=(.seq (rg [uO 2 (.box 0),
uO 3 (.box 1),
uO 4 (.alloc [.p (.str []),.p (.int .i64 0)]),
mV 5 cF] [2,3,4])
(.seq (.block 0 (.seq (rg [lD 8 none 3,
bN 9 .eql 8 (cS [98,121,112,97,115,115]),
mV 7 9] [2,3,4,7])
(.cond 7 (.seq (rg [uO 10 (.build [.p (.str []),.p (.int .i64 0)] [(0,1,(cS [98,121,112,97,115,115])),(1,1,(cI 1))]),
wO (.store (some 2) 4 10),
mV 5 cT] [4,5])
.ret)
(.seq (rg [lD 12 none 3,
bN 13 .eql 12 (cS [105,100,99,111,100,101]),
mV 14 13,
gD 15 14 true (.faddr 2 none 2),
gD 16 14 true (.load none 15),
gD 17 14 true (.bin .neq 16 (cI 0)),
uO 18 (.pick 14 17 cF),
mV 11 18] [2,3,4,11])
(.cond 11 (.seq (rg [uO 19 (.build [.p (.str []),.p (.int .i64 0)] [(0,1,(cS [105,100,99,111,100,101])),(1,1,(cI 32))]),
wO (.store (some 2) 4 19),
mV 5 cT] [4,5])
.ret)
.skip)))))
(.seq (rg [fA 20 3 none 2,
lD 21 none 20,
uO 22 (.mkfn UL [3]),
cL 23 TI [21,22],
mV 6 23] [2,4,6])
(.seq (.seq (rg [mV 24 6,
bN 25 .lss 24 (cI 0)] [2,4,6,25])
(.cond 25 (.seq (rg [uO 26 (.build [.p (.str []),.p (.int .i64 0)] []),
wO (.store (some 2) 4 26),
mV 5 cF] [4,5])
.ret)
.skip))
(.seq (rg [fA 27 3 none 2,
lD 28 none 27,
mV 29 6,
iA 30 (some 2) 28 29,
lD 31 (some 2) 30,
wO (.store (some 2) 4 31),
mV 5 cT] [4,5])
.ret)))))
def BS:AFun:=⟨2,[.cell 4 (some 2),.t 5],oW,false,false⟩
def EF (C:Hd)(gl:GL)(e:En)(h:aA)(x:Esc)(K:KT):Sf C gl oW e h x K:=⟨_,by simp only[oW,↓wZ,AO.still];rfl⟩
theorem z9z {C gl v0 v1 h x K}:NW C gl BS.body ⟨enter [v0,v1],h,x⟩ K=(EF C gl [(0,v0),(1,v1)] h x K).1:=(EF C gl [(0,v0),(1,v1)] h x K).2
end Go.Am
end
