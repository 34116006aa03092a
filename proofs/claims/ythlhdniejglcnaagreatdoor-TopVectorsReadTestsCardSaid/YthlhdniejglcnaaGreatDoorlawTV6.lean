/- Texts of the proof, laid together: CodesC, CodesD, AmL, AmC, Ctx, SpStream, MathFrac, SpBase, SpList, SpShp, SpStr, PTap2, SpTapT, SpMap, SpTap1, SpBld, SpTap2. -/
import Derived.KernelRfl
import Derived.Test.YthlhdniejglcnaaGreatDoorlawTV5
set_option linter.all false
section
/- The functions asv abstract code,and asv formulas over their values: printed by program out of the translation. -/
set_option linter.all false
set_option maxRecDepth 100000
namespace Go.Am
def PJ:ACode:=.pr [0,4,21] (.seq (rg [bN 22 .lss 21 (cI 32)] [0,4,21,22])
(.seq (.cond 22 .skip
(.exit 1))
(.seq (.block 2 (.seq (rg [mV 23 21,
mV 5 23] [0,4,5,21])
(rg [mV 24 4,
mV 25 0,
uO 26 (.nilchk 25),
fA 27 0 (some 5) 26,
fA 28 2 none 27,
lD 29 none 28,
mV 30 5,
bN 31 .shr 29 30,
bN 32 .and 31 (cI 1),
bN 33 .add (cI 48) 32,
uO 34 (.conv (.i .u8) 33),
uO 35 (.bsl false none 1 (.int .u8 0) [(0,34)]),
uO 36 (.app none 24 35),
mV 4 36] [0,4,21])))
(rg [bN 37 .add 21 (cI 1),
mV 21 37] [0,4,21]))))
def ZT (C:Hd)(gl:GL)(e:En)(h:aA)(x:Esc)(K:KT):Sf C gl PJ e h x K:=⟨_,by simp only[PJ,↓wZ,AO.still];rfl⟩
theorem z9w {C gl e h x K}:NW C gl PJ ⟨e,h,x⟩ K=(ZT C gl e h x K).1:=(ZT C gl e h x K).2
theorem zb8 {C gl e h x K}:NW C gl (.loop (.scope PJ)) ⟨e,h,x⟩ K=RA C gl (.scope PJ) K [(0,jA e 0),(4,jA e 4),(21,jA e 21)] h x:=GD
def mQ:ACode:=.pr [4] (.seq (rg [mV 38 4,
uO 39 (.conv .b2s 38),
mV 2 39] [2])
.ret)
def aU (C:Hd)(gl:GL)(e:En)(h:aA)(x:Esc)(K:KT):Sf C gl mQ e h x K:=⟨_,by simp only[mQ,↓wZ,AO.still];rfl⟩
theorem z9x {C gl e h x K}:NW C gl mQ ⟨e,h,x⟩ K=(aU C gl e h x K).1:=(aU C gl e h x K).2
def mW:ACode:=(.seq (rg [mV 2 (cS [])] [0])
(.seq (rg [mV 6 0,
cL 7 VI [6],
uO 3 (.alloc [.p (.str []),.p (.int .i64 0)]),
wO (.store (some 2) 3 7)] [0,3])
(.seq (rg [fA 8 0 none 3,
lD 9 none 8] [0,3,9])
(.block 0 (.seq (rg [bN 18 .eql 9 (cS [98,121,112,97,115,115]),
mV 17 18] [0,3,9,17])
(.cond 17 (.seq (rg [mV 2 (cS [48])] [2])
.ret)
(.seq (rg [bN 20 .eql 9 (cS [105,100,99,111,100,101]),
mV 19 20] [0,3,19])
(.cond 19 (.seq (rg [uO 4 (.new0 none)] [0,4])
(.seq (.seq (rg [mV 21 (cI 0)] [0,4,21])
(.block 1 (.loop (.scope PJ))))
mQ))
(.seq (dr [dF (mV 10 0) [0],
dF (uO 11 (.nilchk 10)) [10],
dF (fA 12 7 none 11) [11],
dF (lD 13 none 12) [12],
dF (fA 14 0 none 3) [3],
dF (lD 15 none 14) [14],
dF (uO 16 (.look (none,[2]) false (.p (.str [])) 13 15)) [13,15],
dF (mV 2 16) [16]] [2])
.ret)))))))))
def yS:AFun:=⟨1,[.t 2],mW,false,false⟩
def II (C:Hd)(gl:GL)(e:En)(h:aA)(x:Esc)(K:KT):Sf C gl mW e h x K:=⟨_,by simp only[mW,↓wZ,AO.still];rfl⟩
theorem z9v {C gl v0 h x K}:NW C gl yS.body ⟨enter [v0],h,x⟩ K=(II C gl [(0,v0)] h x K).1:=(II C gl [(0,v0)] h x K).2
def nW:ACode:=(.seq (rg [uO 2 (.alloc [.p (.str []),.p (.int .i64 0)])] [0,2])
(.seq (.seq (rg [mV 5 0,
uO 6 (.nilchk 5),
fA 7 5 none 6,
lD 8 none 7,
bN 9 .eql 8 (cS [])] [0,2,9])
(.cond 9 (.seq (.seq (rg [mV 11 0,
uO 12 (.nilchk 11),
fA 13 0 (some 5) 12,
lD 14 (some 5) 13,
cL 15 tH [14,(cS [105,100,99,111,100,101])],
mV 10 15,
eX 16 10 0,
eX 17 10 1,
uO 3 (.alloc [.p (.str []),.p (.int .i64 0)]),
wO (.store (some 2) 3 16),
mV 4 17] [2,3,4])
(.seq (rg [mV 18 4] [2,3,18])
(.cond 18 (.seq (rg [lD 19 (some 2) 3,
wO (.store (some 2) 2 19)] [2])
.ret)
.skip)))
(.seq (rg [uO 20 (.build [.p (.str []),.p (.int .i64 0)] [(0,1,(cS [98,121,112,97,115,115])),(1,1,(cI 1))]),
wO (.store (some 2) 2 20)] [2])
.ret))
.skip))
(.seq (dr [dF (mV 21 0) [0],
dF (uO 22 (.nilchk 21)) [21],
dF (fA 23 0 (some 5) 22) [22],
dF (lD 24 (some 5) 23) [23],
dF (mV 25 0) [0],
dF (uO 26 (.nilchk 25)) [25],
dF (fA 27 5 none 26) [26],
dF (lD 28 none 27) [27],
dT (cL 29 XL [24,28]) [24,28],
dT (wO (.store (some 2) 2 29)) [2,29]] [2])
.ret)))
def zS:AFun:=⟨1,[.cell 2 (some 2)],nW,false,false⟩
def JI (C:Hd)(gl:GL)(e:En)(h:aA)(x:Esc)(K:KT):Sf C gl nW e h x K:=⟨_,by simp only[nW,↓wZ,AO.still];rfl⟩
theorem z9y {C gl v0 h x K}:NW C gl zS.body ⟨enter [v0],h,x⟩ K=(JI C gl [(0,v0)] h x K).1:=(JI C gl [(0,v0)] h x K).2
def IP:ACode:=.pr [0,1,5,6,7,8,9,10] (.seq (.seq (rg [mV 78 0,
mV 79 8,
bN 80 .add 79 (cI 1),
uO 81 (.idxs 78 80),
mV 82 7,
bN 83 .eql 81 82,
mV 84 83,
gD 85 84 true (.mv 0),
gD 86 84 true (.mv 8),
gD 87 84 true (.mv 8),
gD 88 84 true (.mv 5),
gD 89 84 true (.bin .add 87 88),
gD 90 84 true (.slstr 85 (some 86) (some 89)),
gD 91 84 true (.mv 1),
gD 92 84 true (.bin .eql 90 91),
uO 93 (.pick 84 92 cF)] [0,1,5,6,7,8,9,10,93])
(.cond 93 (.seq (rg [mV 94 8,
mV 4 94] [4])
.ret)
.skip))
(.seq (rg [mV 95 8,
bN 96 .add 95 (cI 1),
mV 8 96] [0,1,5,6,7,8,9,10])
(.seq (rg [mV 97 10,
bN 98 .add 97 (cI 1),
mV 10 98] [0,1,5,6,7,8,9,10])
(.seq (rg [mV 99 5,
lD 100 none (.g 0),
bN 101 .leq 99 100,
mV 102 101,
gD 103 102 true (.mv 10),
gD 104 102 true (.mv 8),
gD 105 102 true (.call ZO [104]),
gD 106 102 true (.bin .gtr 103 105),
uO 107 (.pick 102 106 cF)] [0,1,5,6,7,8,9,10,107])
(.cond 107 (.seq (rg [mV 108 0,
mV 109 8,
uO 110 (.slstr 108 (some 109) none),
mV 111 1,
cL 112 z0g [110,111],
mV 12 112] [8,12])
(.seq (.seq (rg [mV 113 12,
bN 114 .geq 113 (cI 0)] [8,12,114])
(.cond 114 (.seq (rg [mV 115 12,
mV 116 8,
bN 117 .add 115 116,
mV 4 117] [4])
.ret)
.skip))
(.seq (rg [mV 4 (cI (-1))] [4])
.ret)))
(.seq (rg [mV 118 5,
lD 119 none (.g 0),
bN 120 .gtr 118 119,
mV 121 120,
gD 122 121 true (.mv 10),
gD 123 121 true (.mv 8),
gD 124 121 true (.bin .shr 123 (.c (.p (.int .u64 4)))),
gD 125 121 true (.bin .add (cI 4) 124),
gD 126 121 true (.bin .geq 122 125),
uO 127 (.pick 121 126 cF),
mV 128 127,
gD 129 128 true (.mv 8),
gD 130 128 true (.mv 9),
gD 131 128 true (.bin .lss 129 130),
uO 132 (.pick 128 131 cF)] [0,1,5,6,7,8,9,10,132])
(.cond 132 (.seq (rg [mV 133 0,
mV 134 8,
uO 135 (.slstr 133 (some 134) none),
mV 136 1,
cL 137 aP [135,136],
mV 13 137] [8,13])
(.seq (.seq (rg [mV 138 13,
bN 139 .lss 138 (cI 0)] [8,13,139])
(.cond 139 (.seq (rg [mV 4 (cI (-1))] [4])
.ret)
.skip))
(.seq (rg [mV 140 8,
mV 141 13,
bN 142 .add 140 141,
mV 4 142] [4])
.ret)))
.skip)))))))
def vT (C:Hd)(gl:GL)(e:En)(h:aA)(x:Esc)(K:KT):Sf C gl IP e h x K:=⟨_,by simp only[IP,↓wZ,AO.still];rfl⟩
theorem z8s {C gl e h x K}:NW C gl IP ⟨e,h,x⟩ K=(vT C gl e h x K).1:=(vT C gl e h x K).2
def wJ:ACode:=.pr [0,1,5,6,7,8,9,10] (.seq (.seq (rg [mV 57 8,
mV 58 9,
bN 59 .lss 57 58] [0,1,5,6,7,8,9,10,59])
(.cond 59 .skip
(.exit 1)))
(.block 2 (.seq (.seq (rg [mV 60 0,
mV 61 8,
uO 62 (.idxs 60 61),
mV 63 6,
bN 64 .neq 62 63] [0,1,5,6,7,8,9,10,64])
(.cond 64 (.seq (rg [mV 65 0,
mV 66 8,
bN 67 .add 66 (cI 1),
mV 68 9,
uO 69 (.slstr 65 (some 67) (some 68)),
mV 70 6,
cL 71 vG [69,70],
mV 11 71] [0,1,5,6,7,8,9,10,11])
(.seq (.seq (rg [mV 72 11,
bN 73 .lss 72 (cI 0)] [0,1,5,6,7,8,9,10,11,73])
(.cond 73 (.seq (rg [mV 4 (cI (-1))] [4])
.ret)
.skip))
(rg [mV 74 8,
mV 75 11,
bN 76 .add 75 (cI 1),
bN 77 .add 74 76,
mV 8 77] [0,1,5,6,7,8,9,10])))
.skip))
IP)))
def xT (C:Hd)(gl:GL)(e:En)(h:aA)(x:Esc)(K:KT):Sf C gl wJ e h x K:=⟨_,by simp only[wJ,↓wZ,AO.still];rfl⟩
theorem z8t {C gl e h x K}:NW C gl wJ ⟨e,h,x⟩ K=(xT C gl e h x K).1:=(xT C gl e h x K).2
theorem zbn {C gl e h x K}:NW C gl (.loop wJ) ⟨e,h,x⟩ K=RA C gl wJ K [(0,jA e 0),(1,jA e 1),(5,jA e 5),(6,jA e 6),(7,jA e 7),(8,jA e 8),(9,jA e 9),(10,jA e 10)] h x:=XB
def JP:ACode:=.pr [] (.seq (rg [mV 4 (cI (-1))] [4])
.ret)
def yT (C:Hd)(gl:GL)(e:En)(h:aA)(x:Esc)(K:KT):Sf C gl JP e h x K:=⟨_,by simp only[JP,↓wZ,AO.still];rfl⟩
theorem z8u {C gl e h x K}:NW C gl JP ⟨e,h,x⟩ K=(yT C gl e h x K).1:=(yT C gl e h x K).2
def xV:ACode:=(.seq (rg [mV 4 (cI 0)] [0,1])
(.seq (rg [mV 14 1,
uO 15 (.lens 14),
mV 5 15] [0,1,5])
(.seq (.block 0 (.seq (rg [mV 17 5,
bN 18 .eql 17 (cI 0),
mV 19 18,
gD 20 19 false (.mv 1),
gD 21 19 false (.mv 0),
gD 22 19 false (.bin .eql 20 21),
uO 23 (.pick 19 cT 22),
mV 16 23] [0,1,5,16])
(.cond 16 (.seq (rg [mV 4 (cI 0)] [4])
.ret)
(.seq (rg [mV 25 5,
bN 26 .eql 25 (cI 1),
mV 24 26] [0,1,5,24])
(.cond 24 (.seq (rg [mV 27 0,
mV 28 1,
uO 29 (.idxs 28 (cI 0)),
cL 30 vG [27,29],
mV 4 30] [4])
.ret)
(.seq (rg [mV 32 5,
mV 33 0,
uO 34 (.lens 33),
bN 35 .geq 32 34,
mV 31 35] [0,1,5,31])
(.cond 31 (.seq (rg [mV 4 (cI (-1))] [4])
.ret)
(.seq (rg [mV 37 5,
lD 38 none (.g 0),
bN 39 .leq 37 38,
mV 40 39,
gD 41 40 true (.mv 0),
gD 42 40 true (.lens 41),
gD 43 40 true (.bin .leq 42 (cI 64)),
uO 44 (.pick 40 43 cF),
mV 36 44] [0,1,5,36])
(.cond 36 (.seq (rg [mV 45 0,
mV 46 1,
cL 47 z0g [45,46],
mV 4 47] [4])
.ret)
.skip)))))))))
(.seq (rg [mV 48 1,
uO 49 (.idxs 48 (cI 0)),
mV 6 49] [0,1,5,6])
(.seq (rg [mV 50 1,
uO 51 (.idxs 50 (cI 1)),
mV 7 51] [0,1,5,6,7])
(.seq (rg [mV 8 (cI 0)] [0,1,5,6,7,8])
(.seq (rg [mV 52 0,
uO 53 (.lens 52),
mV 54 5,
bN 55 .sub 53 54,
bN 56 .add 55 (cI 1),
mV 9 56] [0,1,5,6,7,8,9])
(.seq (rg [mV 10 (cI 0)] [0,1,5,6,7,8,9,10])
(.seq (.block 1 (.loop wJ))
JP)))))))))
def KR:AFun:=⟨2,[.t 4],xV,false,false⟩
def MN (C:Hd)(gl:GL)(e:En)(h:aA)(x:Esc)(K:KT):Sf C gl xV e h x K:=⟨_,by simp only[xV,↓wZ,AO.still];rfl⟩
theorem z8r {C gl v0 v1 h x K}:NW C gl KR.body ⟨enter [v0,v1],h,x⟩ K=(MN C gl [(0,v0),(1,v1)] h x K).1:=(MN C gl [(0,v0),(1,v1)] h x K).2
def pW:ACode:=(.seq (rg [uO 2 (.box 0),
mV 3 cF] [1,2])
(.seq (rg [fA 4 0 none 2,
lD 5 none 4,
lD 6 none 1,
bN 7 .eql 5 6,
mV 3 7] [3])
.ret))
def CS:AFun:=⟨2,[.t 3],pW,false,false⟩
def yO (C:Hd)(gl:GL)(e:En)(h:aA)(x:Esc)(K:KT):Sf C gl pW e h x K:=⟨_,by simp only[pW,↓wZ,AO.still];rfl⟩
theorem z90 {C gl v0 v1 h x K}:NW C gl CS.body ⟨enter [v0,v1],h,x⟩ K=(yO C gl [(0,v0),(1,v1)] h x K).1:=(yO C gl [(0,v0),(1,v1)] h x K).2
def oQ:ACode:=.pr [1,2,4,5,11,12,13] (rg [bN 23 .add 13 (cI 1),
mV 13 23] [1,2,4,5,11,12,13])
def bU (C:Hd)(gl:GL)(e:En)(h:aA)(x:Esc)(K:KT):Sf C gl oQ e h x K:=⟨_,by simp only[oQ,↓wZ,AO.still];rfl⟩
theorem z94 {C gl e h x K}:NW C gl oQ ⟨e,h,x⟩ K=(bU C gl e h x K).1:=(bU C gl e h x K).2
def RJ:ACode:=.pr [1,2,4,5,11,12,13] (.seq (rg [bN 14 .lss 13 12] [1,2,4,5,11,12,13,14])
(.seq (.cond 14 .skip
(.exit 0))
(.seq (.block 1 (.seq (rg [iA 15 (some 2) 11 13,
lD 16 (some 2) 15,
uO 7 (.alloc [.p (.str []),.p (.str [])]),
wO (.store (some 2) 7 16)] [1,2,4,5,7,11,12,13])
(.seq (rg [fA 17 0 none 7,
lD 18 none 17,
mV 19 1,
bN 20 .eql 18 19] [1,2,4,5,7,11,12,13,20])
(.cond 20 (rg [fA 21 1 none 7,
lD 22 none 21,
mV 5 22] [1,2,4,5,11,12,13])
.skip))))
oQ)))
def cU (C:Hd)(gl:GL)(e:En)(h:aA)(x:Esc)(K:KT):Sf C gl RJ e h x K:=⟨_,by simp only[RJ,↓wZ,AO.still];rfl⟩
theorem z95 {C gl e h x K}:NW C gl RJ ⟨e,h,x⟩ K=(cU C gl e h x K).1:=(cU C gl e h x K).2
theorem zbA {C gl e h x K}:NW C gl (.loop (.scope RJ)) ⟨e,h,x⟩ K=RA C gl (.scope RJ) K [(1,jA e 1),(2,jA e 2),(4,jA e 4),(5,jA e 5),(11,jA e 11),(12,jA e 12),(13,jA e 13)] h x:=GD
def pQ:ACode:=.pr [2,4,5] (.seq (rg [lD 25 (some 5) 2,
mV 26 5,
cL 27 tH [25,26],
mV 24 27,
eX 28 24 0,
eX 29 24 1,
uO 8 (.alloc [.p (.str []),.p (.int .i64 0)]),
wO (.store (some 2) 8 28),
mV 9 29] [4,8])
(.seq (rg [lD 30 (some 2) 8,
wO (.store (some 2) 4 30)] [4])
.ret))
def XK (C:Hd)(gl:GL)(e:En)(h:aA)(x:Esc)(K:KT):Sf C gl pQ e h x K:=⟨_,by simp only[pQ,↓wZ,AO.still];rfl⟩
theorem CU {C gl e h x K}:NW C gl pQ ⟨e,h,x⟩ K=(XK C gl e h x K).1:=(XK C gl e h x K).2
def sW:ACode:=(.seq (rg [uO 2 (.box 0),
uO 4 (.alloc [.p (.str []),.p (.int .i64 0)])] [1,2,4])
(.seq (rg [mV 5 (cS [98,121,112,97,115,115])] [1,2,4,5])
(.seq (.seq (rg [fA 10 4 none 2,
lD 11 none 10,
lN 12 11,
mV 13 (cI 0)] [1,2,4,5,11,12,13])
(.block 0 (.loop (.scope RJ))))
pQ)))
def FS:AFun:=⟨2,[.cell 4 (some 2)],sW,false,false⟩
def DO (C:Hd)(gl:GL)(e:En)(h:aA)(x:Esc)(K:KT):Sf C gl sW e h x K:=⟨_,by simp only[sW,↓wZ,AO.still];rfl⟩
theorem z93 {C gl v0 v1 h x K}:NW C gl FS.body ⟨enter [v0,v1],h,x⟩ K=(DO C gl [(0,v0),(1,v1)] h x K).1:=(DO C gl [(0,v0),(1,v1)] h x K).2
def uV:ACode:=(.seq (rg [mV 2 (cI 0)] [0])
(.seq (rg [mV 3 0,
bN 4 .add 3 (cI 16),
bN 5 .quo 4 (cI 8),
mV 2 5] [2])
.ret))
def HR:AFun:=⟨1,[.t 2],uV,false,false⟩
def fT (C:Hd)(gl:GL)(e:En)(h:aA)(x:Esc)(K:KT):Sf C gl uV e h x K:=⟨_,by simp only[uV,↓wZ,AO.still];rfl⟩
theorem z8e {C gl v0 h x K}:NW C gl HR.body ⟨enter [v0],h,x⟩ K=(fT C gl [(0,v0)] h x K).1:=(fT C gl [(0,v0)] h x K).2
def sJ:ACode:=.pr [0,1,5,6,7,8,9] (.seq (.seq (rg [mV 18 9,
mV 19 7,
bN 20 .lss 18 19] [0,1,5,6,7,8,9,20])
(.cond 20 .skip
(.exit 0)))
(.seq (.block 1 (rg [mV 23 8,
bN 24 .mul 23 (.c (.p (.int .u32 16777619))),
mV 25 0,
mV 26 9,
uO 27 (.idxs 25 26),
uO 28 (.conv (.i .u32) 27),
bN 29 .add 24 28,
mV 8 29] [0,1,5,6,7,8,9]))
(rg [mV 21 9,
bN 22 .add 21 (cI 1),
mV 9 22] [0,1,5,6,7,8,9])))
def iT (C:Hd)(gl:GL)(e:En)(h:aA)(x:Esc)(K:KT):Sf C gl sJ e h x K:=⟨_,by simp only[sJ,↓wZ,AO.still];rfl⟩
theorem z8g {C gl e h x K}:NW C gl sJ ⟨e,h,x⟩ K=(iT C gl e h x K).1:=(iT C gl e h x K).2
theorem zbj {C gl e h x K}:NW C gl (.loop sJ) ⟨e,h,x⟩ K=RA C gl sJ K [(0,jA e 0),(1,jA e 1),(5,jA e 5),(6,jA e 6),(7,jA e 7),(8,jA e 8),(9,jA e 9)] h x:=XB
def tJ:ACode:=.pr [0,1,5,6,7,8,10] (.seq (.seq (rg [mV 41 10,
mV 42 0,
uO 43 (.lens 42),
bN 44 .lss 41 43] [0,1,5,6,7,8,10,44])
(.cond 44 .skip
(.exit 2)))
(.block 3 (.seq (rg [mV 45 8,
bN 46 .mul 45 (.c (.p (.int .u32 16777619))),
mV 8 46] [0,1,5,6,7,8,10])
(.seq (rg [mV 47 8,
mV 48 0,
mV 49 10,
uO 50 (.idxs 48 49),
uO 51 (.conv (.i .u32) 50),
bN 52 .add 47 51,
mV 8 52] [0,1,5,6,7,8,10])
(.seq (rg [mV 53 8,
mV 54 6,
mV 55 0,
mV 56 10,
mV 57 7,
bN 58 .sub 56 57,
uO 59 (.idxs 55 58),
uO 60 (.conv (.i .u32) 59),
bN 61 .mul 54 60,
bN 62 .sub 53 61,
mV 8 62] [0,1,5,6,7,8,10])
(.seq (rg [mV 63 10,
bN 64 .add 63 (cI 1),
mV 10 64] [0,1,5,6,7,8,10])
(.seq (rg [mV 65 8,
mV 66 5,
bN 67 .eql 65 66,
mV 68 67,
gD 69 68 true (.mv 0),
gD 70 68 true (.mv 10),
gD 71 68 true (.mv 7),
gD 72 68 true (.bin .sub 70 71),
gD 73 68 true (.mv 10),
gD 74 68 true (.slstr 69 (some 72) (some 73)),
gD 75 68 true (.mv 1),
gD 76 68 true (.bin .eql 74 75),
uO 77 (.pick 68 76 cF)] [0,1,5,6,7,8,10,77])
(.cond 77 (.seq (rg [mV 78 10,
mV 79 7,
bN 80 .sub 78 79,
mV 4 80] [4])
.ret)
.skip))))))))
def jT (C:Hd)(gl:GL)(e:En)(h:aA)(x:Esc)(K:KT):Sf C gl tJ e h x K:=⟨_,by simp only[tJ,↓wZ,AO.still];rfl⟩
theorem z8h {C gl e h x K}:NW C gl tJ ⟨e,h,x⟩ K=(jT C gl e h x K).1:=(jT C gl e h x K).2
theorem zbk {C gl e h x K}:NW C gl (.loop tJ) ⟨e,h,x⟩ K=RA C gl tJ K [(0,jA e 0),(1,jA e 1),(5,jA e 5),(6,jA e 6),(7,jA e 7),(8,jA e 8),(10,jA e 10)] h x:=XB
def CP:ACode:=.pr [] (.seq (rg [mV 4 (cI (-1))] [4])
.ret)
def kT (C:Hd)(gl:GL)(e:En)(h:aA)(x:Esc)(K:KT):Sf C gl CP e h x K:=⟨_,by simp only[CP,↓wZ,AO.still];rfl⟩
theorem z8i {C gl e h x K}:NW C gl CP ⟨e,h,x⟩ K=(kT C gl e h x K).1:=(kT C gl e h x K).2
def DP:ACode:=.pr [0,1,5,6,7,8] (.seq (.seq (rg [mV 30 8,
mV 31 5,
bN 32 .eql 30 31,
mV 33 32,
gD 34 33 true (.mv 0),
gD 35 33 true (.mv 7),
gD 36 33 true (.slstr 34 none (some 35)),
gD 37 33 true (.mv 1),
gD 38 33 true (.bin .eql 36 37),
uO 39 (.pick 33 38 cF)] [0,1,5,6,7,8,39])
(.cond 39 (.seq (rg [mV 4 (cI 0)] [4])
.ret)
.skip))
(.seq (.seq (rg [mV 40 7,
mV 10 40] [0,1,5,6,7,8,10])
(.block 2 (.loop tJ)))
CP))
def mT (C:Hd)(gl:GL)(e:En)(h:aA)(x:Esc)(K:KT):Sf C gl DP e h x K:=⟨_,by simp only[DP,↓wZ,AO.still];rfl⟩
theorem z8j {C gl e h x K}:NW C gl DP ⟨e,h,x⟩ K=(mT C gl e h x K).1:=(mT C gl e h x K).2
def vV:ACode:=(.seq (rg [mV 4 (cI 0)] [0,1])
(.seq (rg [mV 12 1,
cL 13 bP [12],
mV 11 13,
eX 14 11 0,
eX 15 11 1,
mV 5 14,
mV 6 15] [0,1,5,6])
(.seq (rg [mV 16 1,
uO 17 (.lens 16),
mV 7 17] [0,1,5,6,7])
(.seq (rg [mV 8 (.c (.p (.int .u32 0)))] [0,1,5,6,7,8])
(.seq (.seq (rg [mV 9 (cI 0)] [0,1,5,6,7,8,9])
(.block 0 (.loop sJ)))
DP)))))
def IR:AFun:=⟨2,[.t 4],vV,false,false⟩
def gT (C:Hd)(gl:GL)(e:En)(h:aA)(x:Esc)(K:KT):Sf C gl vV e h x K:=⟨_,by simp only[vV,↓wZ,AO.still];rfl⟩
theorem z8f {C gl v0 v1 h x K}:NW C gl IR.body ⟨enter [v0,v1],h,x⟩ K=(gT C gl [(0,v0),(1,v1)] h x K).1:=(gT C gl [(0,v0),(1,v1)] h x K).2
def uJ:ACode:=.pr [0,4,5] (.seq (.seq (rg [mV 9 5,
mV 10 0,
uO 11 (.lens 10),
bN 12 .lss 9 11] [0,4,5,12])
(.cond 12 .skip
(.exit 0)))
(.seq (.block 1 (rg [mV 15 4,
bN 16 .mul 15 (.c (.p (.int .u32 16777619))),
mV 17 0,
mV 18 5,
uO 19 (.idxs 17 18),
uO 20 (.conv (.i .u32) 19),
bN 21 .add 16 20,
mV 4 21] [0,4,5]))
(rg [mV 13 5,
bN 14 .add 13 (cI 1),
mV 5 14] [0,4,5])))
def oT (C:Hd)(gl:GL)(e:En)(h:aA)(x:Esc)(K:KT):Sf C gl uJ e h x K:=⟨_,by simp only[uJ,↓wZ,AO.still];rfl⟩
theorem z8l {C gl e h x K}:NW C gl uJ ⟨e,h,x⟩ K=(oT C gl e h x K).1:=(oT C gl e h x K).2
theorem zbl {C gl e h x K}:NW C gl (.loop uJ) ⟨e,h,x⟩ K=RA C gl uJ K [(0,jA e 0),(4,jA e 4),(5,jA e 5)] h x:=XB
def EP:ACode:=.pr [4,6,7,8] (rg [mV 34 7,
mV 35 7,
bN 36 .mul 34 35,
mV 7 36] [4,6,7,8])
def pT (C:Hd)(gl:GL)(e:En)(h:aA)(x:Esc)(K:KT):Sf C gl EP e h x K:=⟨_,by simp only[EP,↓wZ,AO.still];rfl⟩
theorem z8m {C gl e h x K}:NW C gl EP ⟨e,h,x⟩ K=(pT C gl e h x K).1:=(pT C gl e h x K).2
def FP:ACode:=.pr [4,6,7,8] (rg [mV 26 8,
bN 27 .shr 26 (.c (.p (.int .u64 1))),
mV 8 27] [4,6,7,8])
def qT (C:Hd)(gl:GL)(e:En)(h:aA)(x:Esc)(K:KT):Sf C gl FP e h x K:=⟨_,by simp only[FP,↓wZ,AO.still];rfl⟩
theorem z8n {C gl e h x K}:NW C gl FP ⟨e,h,x⟩ K=(qT C gl e h x K).1:=(qT C gl e h x K).2
def vJ:ACode:=.pr [4,6,7,8] (.seq (.seq (rg [mV 24 8,
bN 25 .gtr 24 (cI 0)] [4,6,7,8,25])
(.cond 25 .skip
(.exit 2)))
(.seq (.block 3 (.seq (.seq (rg [mV 28 8,
bN 29 .and 28 (cI 1),
bN 30 .neq 29 (cI 0)] [4,6,7,8,30])
(.cond 30 (rg [mV 31 6,
mV 32 7,
bN 33 .mul 31 32,
mV 6 33] [4,6,7,8])
.skip))
EP))
FP))
def rT (C:Hd)(gl:GL)(e:En)(h:aA)(x:Esc)(K:KT):Sf C gl vJ e h x K:=⟨_,by simp only[vJ,↓wZ,AO.still];rfl⟩
theorem z8o {C gl e h x K}:NW C gl vJ ⟨e,h,x⟩ K=(rT C gl e h x K).1:=(rT C gl e h x K).2
theorem zbm {C gl e h x K}:NW C gl (.loop vJ) ⟨e,h,x⟩ K=RA C gl vJ K [(4,jA e 4),(6,jA e 6),(7,jA e 7),(8,jA e 8)] h x:=XB
def GP:ACode:=.pr [4,6] (.seq (rg [mV 37 4,
mV 38 6,
mV 2 37,
mV 3 38] [2,3])
.ret)
def tT (C:Hd)(gl:GL)(e:En)(h:aA)(x:Esc)(K:KT):Sf C gl GP e h x K:=⟨_,by simp only[GP,↓wZ,AO.still];rfl⟩
theorem z8p {C gl e h x K}:NW C gl GP ⟨e,h,x⟩ K=(tT C gl e h x K).1:=(tT C gl e h x K).2
def HP:ACode:=.pr [0,4] (.seq (rg [mV 6 (.c (.p (.int .u32 1))),
mV 7 (.c (.p (.int .u32 16777619)))] [0,4,6,7])
(.seq (.seq (rg [mV 22 0,
uO 23 (.lens 22),
mV 8 23] [4,6,7,8])
(.block 2 (.loop vJ)))
GP))
def uT (C:Hd)(gl:GL)(e:En)(h:aA)(x:Esc)(K:KT):Sf C gl HP e h x K:=⟨_,by simp only[HP,↓wZ,AO.still];rfl⟩
theorem z8q {C gl e h x K}:NW C gl HP ⟨e,h,x⟩ K=(uT C gl e h x K).1:=(uT C gl e h x K).2
def wV:ACode:=(.seq (rg [mV 2 (.c (.p (.int .u32 0))),
mV 3 (.c (.p (.int .u32 0)))] [0])
(.seq (rg [mV 4 (.c (.p (.int .u32 0)))] [0,4])
(.seq (.seq (rg [mV 5 (cI 0)] [0,4,5])
(.block 0 (.loop uJ)))
HP)))
def JR:AFun:=⟨1,[.t 2,.t 3],wV,false,false⟩
def nT (C:Hd)(gl:GL)(e:En)(h:aA)(x:Esc)(K:KT):Sf C gl wV e h x K:=⟨_,by simp only[wV,↓wZ,AO.still];rfl⟩
theorem z8k {C gl v0 h x K}:NW C gl JR.body ⟨enter [v0],h,x⟩ K=(nT C gl [(0,v0)] h x K).1:=(nT C gl [(0,v0)] h x K).2
def zcC:ACode:=(.seq (rg [uO 4 (.alloc [.p (.int .i64 0),.p (.int .i64 0)])] [0,1,4])
(.seq (rg [mV 6 0,
mV 7 0,
uO 8 (.un .neg 7),
uO 9 (.mx [6,8]),
mV 10 1,
cL 11 z0h [9,10],
mV 5 11] [0,1,4,5])
(.seq (dr [dF (mV 12 0) [0],
dF (mV 13 5) [5],
dF (bN 14 .quo 12 13) [12,13],
dF (mV 15 1) [1],
dF (mV 16 5) [5],
dF (bN 17 .quo 15 16) [15,16],
dF (uO 18 (.build [.p (.int .i64 0),.p (.int .i64 0)] [(0,1,14),(1,1,17)])) [14,17],
dT (wO (.store (some 2) 4 18)) [4,18]] [4])
.ret)))
def z4B:AFun:=⟨2,[.cell 4 (some 2)],zcC,false,false⟩
def zcE:ACode:=.pr [0,1] (.seq (.seq (rg [mV 5 1,
bN 6 .neq 5 (cI 0)] [0,1,6])
(.cond 6 .skip
(.exit 0)))
(.block 1 (dr [dF (mV 7 1) [1],
dF (mV 8 0) [0],
dF (mV 9 1) [1],
dF (bN 10 .rem 8 9) [8,9],
dF (mV 0 7) [7],
dF (mV 1 10) [10]] [0,1])))
def zcF:ACode:=.pr [0] (.seq (rg [mV 11 0,
mV 4 11] [4])
.ret)
def zcD:ACode:=(.seq (rg [mV 4 (cI 0)] [0,1])
(.seq (.block 0 (.loop zcE))
zcF))
def z4C:AFun:=⟨2,[.t 4],zcD,false,false⟩
def zcG:ACode:=(.seq (rg [mV 2 cF] [0])
(.seq (rg [mV 3 0,
cL 4 gC [3,(cI 0),(cI 345686399999)],
uO 5 (.un .not 4),
mV 2 5] [2])
.ret))
def z4D:AFun:=⟨1,[.t 2],zcG,false,false⟩
def zcH:ACode:=(.seq (rg [mV 4 (cI 0)] [0,1])
(.seq (rg [mV 7 0,
cL 8 RU [7],
mV 5 8] [0,1,5])
(.seq (rg [mV 9 1,
cL 10 RU [9],
mV 6 10] [0,1,5,6])
(.seq (.seq (rg [mV 11 5] [0,1,6,11])
(.cond 11 (.seq (.seq (rg [mV 12 6] [12])
(.cond 12 (.seq (rg [mV 4 (cI 0)] [4])
.ret)
.skip))
(.seq (rg [mV 4 (cI (-1))] [4])
.ret))
.skip))
(.seq (.seq (rg [mV 13 6] [0,1,13])
(.cond 13 (.seq (rg [mV 4 (cI 1)] [4])
.ret)
.skip))
(.seq (.seq (rg [mV 14 0,
mV 15 1,
bN 16 .lss 14 15] [0,1,16])
(.cond 16 (.seq (rg [mV 4 (cI (-1))] [4])
.ret)
.skip))
(.seq (.seq (rg [mV 17 0,
mV 18 1,
bN 19 .gtr 17 18] [19])
(.cond 19 (.seq (rg [mV 4 (cI 1)] [4])
.ret)
.skip))
(.seq (rg [mV 4 (cI 0)] [4])
.ret))))))))
def z4E:AFun:=⟨2,[.t 4],zcH,false,false⟩
def zcJ:ACode:=.pr [3,6,7,8] (.seq (rg [bN 9 .lss 8 7] [3,6,7,8,9])
(.seq (.cond 9 .skip
(.exit 0))
(.seq (.block 1 (.seq (rg [iA 10 none 6 8,
lD 11 none 10,
mV 5 11] [3,5,6,7,8])
(.seq (rg [mV 12 5,
mV 13 3,
bN 14 .neq 12 13] [3,5,6,7,8,14])
(.cond 14 (.seq (rg [mV 15 5,
mV 2 15] [2])
.ret)
.skip))))
(rg [bN 16 .add 8 (cI 1),
mV 8 16] [3,6,7,8]))))
def zcK:ACode:=.pr [3] (.seq (rg [mV 17 3,
mV 2 17] [2])
.ret)
def zcI:ACode:=(.seq (rg [mV 2 (cI 0)] [0])
(.seq (rg [mV 3 (cI 0)] [0,3])
(.seq (.seq (rg [mV 6 0,
lN 7 6,
mV 8 (cI 0)] [3,6,7,8])
(.block 0 (.loop zcJ)))
zcK)))
def z4F:AFun:=⟨1,[.t 2],zcI,false,false⟩
def zcL:ACode:=(.seq (rg [mV 2 cF] [0])
(.seq (rg [mV 3 0,
mV 4 0,
bN 5 .neq 3 4,
mV 2 5] [2])
.ret))
def z4G:AFun:=⟨1,[.t 2],zcL,false,false⟩
def zcN:ACode:=.pr [0,3,27,28,29] (.seq (rg [bN 30 .lss 29 28] [0,3,27,28,29,30])
(.seq (.cond 30 .skip
(.exit 1))
(.seq (.block 2 (.seq (rg [iA 31 none 27 29,
lD 32 none 31,
mV 6 32] [0,3,6,27,28,29])
(.seq (rg [mV 33 6,
mV 34 0,
bN 35 .sub 34 (cI 1),
cL 36 gC [33,(cI 0),35]] [0,3,27,28,29,36])
(.cond 36 (.seq (rg [mV 4 (cI 1)] [4])
.ret)
.skip))))
(rg [bN 37 .add 29 (cI 1),
mV 29 37] [0,3,27,28,29]))))
def zcO:ACode:=.pr [3,7,8] (.seq (.seq (rg [mV 53 8,
mV 54 7,
lN 55 54,
bN 56 .lss 53 55] [3,7,8,56])
(.cond 56 .skip
(.exit 3)))
(.seq (.block 4 (.seq (dr [dF (mV 59 7) [7],
dF (mV 60 8) [8],
dF (iA 61 none 59 60) [59,60],
dF (lD 62 none 61) [61],
dF (mV 63 7) [7],
dF (mV 64 8) [8],
dF (bN 65 .sub 64 (cI 1)) [64],
dF (iA 66 none 63 65) [63,65],
dF (lD 67 none 66) [66],
dF (bN 68 .leq 62 67) [62,67]] [3,7,8,68])
(.cond 68 (.seq (rg [mV 4 (cI 7)] [4])
.ret)
.skip)))
(rg [mV 57 8,
bN 58 .add 57 (cI 1),
mV 8 58] [3,7,8])))
def zcP:ACode:=.pr [3,7] (.seq (.seq (rg [fA 69 0 none 3,
lD 70 none 69,
bN 71 .eql 70 (cI 5),
mV 72 71,
gD 73 72 true (.mv 7),
gD 74 72 true (.faddr 1 none 3),
gD 75 72 true (.load none 74),
gD 76 72 true (.iaddr none 75 (cI 0)),
gD 77 72 true (.load none 76),
gD 78 72 true (.call z00 [73,77]),
uO 79 (.pick 72 78 cF)] [79])
(.cond 79 (.seq (rg [mV 4 (cI 6)] [4])
.ret)
.skip))
(.seq (rg [mV 4 (cI 0)] [4])
.ret))
def zcQ:ACode:=.pr [3,7] (.seq (.seq (rg [mV 8 (cI 1)] [3,7,8])
(.block 3 (.loop zcO)))
zcP)
def zcR:ACode:=.pr [3] (.seq (.seq (dr [dF (fA 38 0 none 3) [3],
dF (lD 39 none 38) [38],
dT (cL 40 z0o [39]) [39],
dF (fA 41 1 none 3) [3],
dA (lD 42 none 41) [41] false [2] [],
dF (lN 43 42) [42],
dF (bN 44 .gtr 43 (cI 1)) [43],
dF (uO 45 (.eqa [] true 40 44)) [40,44]] [3,45])
(.cond 45 (.seq (rg [mV 4 (cI 3)] [4])
.ret)
.skip))
(.seq (rg [fA 46 1 none 3,
lD 47 none 46,
mV 7 47] [3,7])
(.seq (.seq (rg [fA 48 0 none 3,
lD 49 none 48,
bN 50 .eql 49 (cI 5)] [3,7,50])
(.cond 50 (rg [mV 51 7,
uO 52 (.slice none 51 (some (cI 1)) none none),
mV 7 52] [3,7])
.skip))
zcQ)))
def zcM:ACode:=(.seq (rg [uO 3 (.box 1),
mV 4 (cI 0)] [0,3])
(.seq (.block 0 (.seq (rg [mV 10 0,
cL 11 gC [10,(cI 1),(cI 100)],
mV 9 11] [0,3,9])
(.cond 9 (.seq (rg [mV 4 (cI 1)] [4])
.ret)
(.seq (rg [fA 13 0 none 3,
lD 14 none 13,
cL 15 gC [14,(cI 1),(cI 6)],
mV 12 15] [0,3,12])
(.cond 12 (.seq (rg [mV 4 (cI 4)] [4])
.ret)
(.seq (rg [fA 17 1 none 3,
lD 18 none 17,
lN 19 18,
bN 20 .eql 19 (cI 0),
mV 16 20] [0,3,16])
(.cond 16 (.seq (rg [mV 4 (cI 8)] [4])
.ret)
(.seq (rg [fA 22 1 none 3,
lD 23 none 22,
lN 24 23,
bN 25 .gtr 24 (cI 6),
mV 21 25] [0,3,21])
(.cond 21 (.seq (rg [mV 4 (cI 2)] [4])
.ret)
.skip)))))))))
(.seq (.seq (rg [fA 26 1 none 3,
lD 27 none 26,
lN 28 27,
mV 29 (cI 0)] [0,3,27,28,29])
(.block 1 (.loop zcN)))
zcR)))
def z4H:AFun:=⟨2,[.t 4],zcM,false,false⟩
def zcT:ACode:=.pr [0,13,14,15] (.seq (rg [bN 16 .lss 15 14] [0,13,14,15,16])
(.seq (.cond 16 .skip
(.exit 1))
(.seq (.block 2 (.seq (rg [iA 17 none 13 15,
lD 18 none 17,
mV 4 18] [0,4,13,14,15])
(.block 3 (.seq (rg [mV 20 4,
cL 21 RD [20],
uO 22 (.un .not 21),
mV 19 22] [0,4,13,14,15,19])
(.cond 19 (.seq (rg [mV 2 (cI 3)] [2])
.ret)
(.seq (rg [mV 24 4,
uO 25 (.lens 24),
bN 26 .gtr 25 (cI 64),
mV 23 26] [0,4,13,14,15,23])
(.cond 23 (.seq (rg [mV 2 (cI 2)] [2])
.ret)
(.seq (rg [mV 28 4,
uO 29 (.lens 28),
mV 30 0,
iA 31 none 30 (cI 0),
lD 32 none 31,
uO 33 (.lens 32),
bN 34 .neq 29 33,
mV 27 34] [0,13,14,15,27])
(.cond 27 (.seq (rg [mV 2 (cI 3)] [2])
.ret)
.skip)))))))))
(rg [bN 35 .add 15 (cI 1),
mV 15 35] [0,13,14,15]))))
def zcU:ACode:=.pr [] (.seq (rg [mV 2 (cI 0)] [2])
.ret)
def zcS:ACode:=(.seq (rg [mV 2 (cI 0)] [0])
(.seq (.block 0 (.seq (rg [mV 6 0,
lN 7 6,
bN 8 .eql 7 (cI 0),
mV 5 8] [0,5])
(.cond 5 (.seq (rg [mV 2 (cI 8)] [2])
.ret)
(.seq (rg [mV 10 0,
lN 11 10,
bN 12 .gtr 11 (cI 100),
mV 9 12] [0,9])
(.cond 9 (.seq (rg [mV 2 (cI 2)] [2])
.ret)
.skip)))))
(.seq (.seq (rg [mV 13 0,
lN 14 13,
mV 15 (cI 0)] [0,13,14,15])
(.block 1 (.loop zcT)))
zcU)))
def z4I:AFun:=⟨1,[.t 2],zcS,false,false⟩
def zcW:ACode:=.pr [0,7,18,19,20] (.seq (rg [bN 21 .lss 20 19] [0,7,18,19,20,21])
(.seq (.cond 21 .skip
(.exit 0))
(.seq (.block 1 (.seq (rg [iA 22 (some 2) 18 20,
lD 23 (some 2) 22,
uO 9 (.alloc [.p (.int .i64 0),.sl0 none]),
wO (.store (some 2) 9 23)] [0,7,9,18,19,20])
(dr [dF (mV 24 7) [7],
dF (lD 25 (some 2) 9) [9],
dF (mV 26 0) [0],
dF (iA 27 none 26 (cI 0)) [26],
dF (lD 28 none 27) [27],
dF (uO 29 (.lens 28)) [28],
dA (cL 30 z0r [29]) [29] true [] [1],
dT (cL 31 z0s [24,25,30]) [24,25,30]] [0,7,18,19,20])))
(rg [bN 32 .add 20 (cI 1),
mV 20 32] [0,7,18,19,20]))))
def zcX:ACode:=.pr [0,7] (.seq (rg [mV 33 7,
mV 34 0,
iA 35 none 34 (cI 0),
lD 36 none 35,
uO 37 (.lens 36),
cL 38 z0q [33,37],
mV 4 38,
mV 5 (cI 0)] [4,5])
.ret)
def zcV:ACode:=(.seq (rg [mV 4 (.c (.p (.sl none []))),
mV 5 (cI 0)] [0,1])
(.seq (.seq (rg [mV 10 0,
mV 11 1,
cL 12 z0n [10,11],
mV 6 12] [0,1,6])
(.seq (rg [mV 13 6,
bN 14 .neq 13 (cI 0)] [0,1,6,14])
(.cond 14 (.seq (rg [mV 15 6,
mV 4 (.c (.p (.sl none []))),
mV 5 15] [4,5])
.ret)
.skip)))
(.seq (rg [mV 16 0,
cL 17 z0p [16],
mV 7 17] [0,1,7])
(.seq (.seq (rg [mV 18 1,
lN 19 18,
mV 20 (cI 0)] [0,7,18,19,20])
(.block 0 (.loop (.scope zcW))))
zcX))))
def z4J:AFun:=⟨2,[.t 4,.t 5],zcV,false,false⟩
def zcY:ACode:=(.seq (rg [uO 3 (.box 1),
mV 4 (.c (.p (.sl none []))),
mV 5 (cI 0)] [0,3])
(.seq (rg [mV 6 0,
lD 7 (some 2) 3,
uO 8 (.bsl false (some 2) 1 (.agg [.int .i64 0,.sl none []]) [(0,7)]),
cL 9 z0l [6,8],
eX 10 9 0,
eX 11 9 1,
mV 4 10,
mV 5 11] [4,5])
.ret))
def z4K:AFun:=⟨2,[.t 4,.t 5],zcY,false,false⟩
def zda:ACode:=.pr [0,14,15,16] (.seq (rg [bN 17 .lss 16 15] [0,14,15,16,17])
(.seq (.cond 17 .skip
(.exit 0))
(.seq (.block 1 (.seq (rg [iA 18 (some 2) 14 16,
lD 19 (some 2) 18,
uO 7 (.alloc [.p (.int .i64 0),.sl0 none]),
wO (.store (some 2) 7 19)] [0,7,14,15,16])
(.seq (rg [mV 20 0,
lN 21 20,
lD 22 (some 2) 7,
cL 23 z0j [21,22],
mV 8 23] [0,8,14,15,16])
(.seq (rg [mV 24 8,
bN 25 .neq 24 (cI 0)] [0,8,14,15,16,25])
(.cond 25 (.seq (rg [mV 26 8,
mV 4 26] [4])
.ret)
.skip)))))
(rg [bN 27 .add 16 (cI 1),
mV 16 27] [0,14,15,16]))))
def zdb:ACode:=.pr [] (.seq (rg [mV 4 (cI 0)] [4])
.ret)
def zcZ:ACode:=(.seq (rg [mV 4 (cI 0)] [0,1])
(.seq (.seq (rg [mV 9 0,
cL 10 z0k [9],
mV 5 10] [0,1,5])
(.seq (rg [mV 11 5,
bN 12 .neq 11 (cI 0)] [0,1,5,12])
(.cond 12 (.seq (rg [mV 13 5,
mV 4 13] [4])
.ret)
.skip)))
(.seq (.seq (rg [mV 14 1,
lN 15 14,
mV 16 (cI 0)] [0,14,15,16])
(.block 0 (.loop (.scope zda))))
zdb)))
def z4L:AFun:=⟨2,[.t 4],zcZ,false,false⟩
def zdc:ACode:=(.seq (rg [mV 2 cF] [0])
(.seq (rg [mV 3 0,
cL 4 gC [3,(cI 3),(cI 5)],
uO 5 (.un .not 4),
mV 2 5] [2])
.ret))
def z4M:AFun:=⟨1,[.t 2],zdc,false,false⟩
def zde:ACode:=.pr [3,5,6,8,9,10,15,16] (.seq (rg [bN 17 .lss 16 15] [3,5,6,8,9,10,15,16,17])
(.seq (.cond 17 .skip
(.exit 2))
(.seq (.block 3 (.seq (rg [mV 18 16,
mV 7 18] [3,5,6,7,8,9,10,15,16])
(rg [mV 19 6,
mV 20 5,
mV 21 7,
uO 22 (.idxs 20 21),
bN 23 .sub 22 (.c (.p (.int .u8 48))),
uO 24 (.conv (.i .u64) 23),
mV 25 7,
bN 26 .shl 24 25,
bN 27 .or 19 26,
mV 6 27] [3,5,6,8,9,10,15,16])))
(rg [bN 28 .add 16 (cI 1),
mV 16 28] [3,5,6,8,9,10,15,16]))))
def zdf:ACode:=.pr [3,6,8,9,10] (rg [mV 29 3,
mV 30 6,
uO 31 (.bsl false none 1 (.int .u64 0) [(0,30)]),
uO 32 (.app none 29 31),
mV 3 32] [3,8,9,10])
def zdg:ACode:=.pr [3,8,9,10] (rg [bN 33 .add 10 (cI 1),
mV 10 33] [3,8,9,10])
def zdh:ACode:=.pr [3,8,9,10] (.seq (rg [bN 11 .lss 10 9] [3,8,9,10,11])
(.seq (.cond 11 .skip
(.exit 0))
(.seq (.block 1 (.seq (rg [iA 12 none 8 10,
lD 13 none 12,
mV 5 13] [3,5,8,9,10])
(.seq (rg [mV 6 (.c (.p (.int .u64 0)))] [3,5,6,8,9,10])
(.seq (.seq (rg [mV 14 5,
uO 15 (.lens 14),
mV 16 (cI 0)] [3,5,6,8,9,10,15,16])
(.block 2 (.loop zde)))
zdf))))
zdg)))
def zdi:ACode:=.pr [3] (.seq (rg [mV 34 3,
mV 2 34] [2])
.ret)
def zdd:ACode:=(.seq (rg [mV 2 (.c (.p (.sl none [])))] [0])
(.seq (rg [uO 3 (.new0 none)] [0,3])
(.seq (.seq (rg [mV 8 0,
lN 9 8,
mV 10 (cI 0)] [3,8,9,10])
(.block 0 (.loop (.scope zdh))))
zdi)))
def z4N:AFun:=⟨1,[.t 2],zdd,false,true⟩
def zdk:ACode:=.pr [1,5,7,8,10,11,12,19,20] (.seq (rg [bN 21 .lss 20 19] [1,5,7,8,10,11,12,19,20,21])
(.seq (.cond 21 .skip
(.exit 2))
(.seq (.block 3 (.seq (rg [mV 22 20,
mV 9 22] [1,5,7,8,9,10,11,12,19,20])
(rg [mV 23 8,
mV 24 9,
mV 25 7,
mV 26 9,
bN 27 .shr 25 26,
bN 28 .and 27 (.c (.p (.int .u64 1))),
bN 29 .add (.c (.p (.int .u64 48))) 28,
uO 30 (.conv (.i .u8) 29),
iA 31 none 23 24,
wO (.store none 31 30)] [1,5,7,8,10,11,12,19,20])))
(rg [bN 32 .add 20 (cI 1),
mV 20 32] [1,5,7,8,10,11,12,19,20]))))
def zdl:ACode:=.pr [1,5,8,10,11,12] (rg [mV 33 5,
mV 34 8,
uO 35 (.conv .b2s 34),
uO 36 (.bsl false none 1 (.str []) [(0,35)]),
uO 37 (.app none 33 36),
mV 5 37] [1,5,10,11,12])
def zdm:ACode:=.pr [1,5,10,11,12] (rg [bN 38 .add 12 (cI 1),
mV 12 38] [1,5,10,11,12])
def zdn:ACode:=.pr [1,5,10,11,12] (.seq (rg [bN 13 .lss 12 11] [1,5,10,11,12,13])
(.seq (.cond 13 .skip
(.exit 0))
(.seq (.block 1 (.seq (rg [iA 14 none 10 12,
lD 15 none 14,
mV 7 15] [1,5,7,10,11,12])
(.seq (rg [mV 16 1,
uO 17 (.mksl none (.int .u8 0) 16 16),
mV 8 17] [1,5,7,8,10,11,12])
(.seq (.seq (rg [mV 18 8,
lN 19 18,
mV 20 (cI 0)] [1,5,7,8,10,11,12,19,20])
(.block 2 (.loop zdk)))
zdl))))
zdm)))
def zdo:ACode:=.pr [5] (.seq (rg [mV 39 5,
mV 4 39] [4])
.ret)
def zdj:ACode:=(.seq (rg [mV 4 (.c (.p (.sl none [])))] [0,1])
(.seq (rg [uO 5 (.new0 none)] [0,1,5])
(.seq (.seq (rg [mV 10 0,
lN 11 10,
mV 12 (cI 0)] [1,5,10,11,12])
(.block 0 (.loop (.scope zdn))))
zdo)))
def z4O:AFun:=⟨2,[.t 4],zdj,false,false⟩
def zdp:ACode:=(.seq (rg [mV 2 (.c (.p (.int .u64 0)))] [0])
(.seq (rg [mV 3 0,
bN 4 .shl (.c (.p (.int .u64 1))) 3,
bN 5 .sub 4 (.c (.p (.int .u64 1))),
mV 2 5] [2])
.ret))
def z4P:AFun:=⟨1,[.t 2],zdp,false,false⟩
def zdr:ACode:=.pr [0,4,6,31,32,33] (.seq (rg [bN 34 .lss 33 32] [0,4,6,31,32,33,34])
(.seq (.cond 34 .skip
(.exit 1))
(.seq (.block 2 (.seq (rg [iA 35 none 31 33,
lD 36 none 35,
mV 8 36] [0,4,6,8,31,32,33])
(rg [mV 37 6,
mV 38 0,
mV 39 8,
iA 40 none 38 39,
lD 41 none 40,
bN 42 .and 37 41,
mV 6 42] [0,4,6,31,32,33])))
(rg [bN 43 .add 33 (cI 1),
mV 33 43] [0,4,6,31,32,33]))))
def zds:ACode:=.pr [0,4,6,47,48,49] (.seq (rg [bN 50 .lss 49 48] [0,4,6,47,48,49,50])
(.seq (.cond 50 .skip
(.exit 3))
(.seq (.block 4 (.seq (rg [iA 51 none 47 49,
lD 52 none 51,
mV 10 52] [0,4,6,10,47,48,49])
(rg [mV 53 6,
mV 54 0,
mV 55 10,
iA 56 none 54 55,
lD 57 none 56,
bN 58 .or 53 57,
mV 6 58] [0,4,6,47,48,49])))
(rg [bN 59 .add 49 (cI 1),
mV 49 59] [0,4,6,47,48,49]))))
def zdt:ACode:=.pr [0,2,4,6,21,24] (.cond 24 (rg [mV 27 2,
mV 6 27] [0,4,6])
(.seq (rg [bN 29 .eql 21 (cI 3),
mV 28 29] [0,4,6,21,28])
(.cond 28 (.seq (rg [fA 30 1 none 4,
lD 31 none 30,
lN 32 31,
mV 33 (cI 0)] [0,4,6,31,32,33])
(.block 1 (.loop zdr)))
(.seq (rg [bN 45 .eql 21 (cI 4),
mV 44 45] [0,4,6,44])
(.cond 44 (.seq (rg [fA 46 1 none 4,
lD 47 none 46,
lN 48 47,
mV 49 (cI 0)] [0,4,6,47,48,49])
(.block 3 (.loop zds)))
.skip)))))
def zdu:ACode:=.pr [0,6,61,62,63] (.seq (rg [bN 64 .lss 63 62] [0,6,61,62,63,64])
(.seq (.cond 64 .skip
(.exit 5))
(.seq (.block 6 (.seq (rg [iA 65 none 61 63,
lD 66 none 65,
mV 12 66] [0,6,12,61,62,63])
(rg [mV 67 0,
mV 68 12,
mV 69 6,
iA 70 none 67 68,
wO (.store none 70 69)] [0,6,61,62,63])))
(rg [bN 71 .add 63 (cI 1),
mV 63 71] [0,6,61,62,63]))))
def zdv:ACode:=.pr [0,4,6] (.seq (rg [fA 60 1 none 4,
lD 61 none 60,
lN 62 61,
mV 63 (cI 0)] [0,6,61,62,63])
(.block 5 (.loop zdu)))
def zdq:ACode:=(.seq (rg [uO 4 (.box 1)] [0,2,4])
(.seq (rg [mV 13 0,
fA 14 1 none 4,
lD 15 none 14,
iA 16 none 15 (cI 0),
lD 17 none 16,
iA 18 none 13 17,
lD 19 none 18,
mV 6 19] [0,2,4,6])
(.seq (.seq (rg [fA 20 0 none 4,
lD 21 none 20] [0,2,4,6,21])
(.block 0 (.seq (rg [bN 23 .eql 21 (cI 1),
mV 22 23] [0,2,4,6,21,22])
(.cond 22 (rg [mV 6 (.c (.p (.int .u64 0)))] [0,4,6])
(.seq (.seq (rg [bN 25 .eql 21 (cI 2),
mV 24 25] [0,2,4,6,21,24])
(.cond 24 .skip
(rg [bN 26 .eql 21 (cI 6),
mV 24 26] [0,2,4,6,21,24])))
zdt)))))
zdv)))
def z4Q:AFun:=⟨3,[],zdq,true,false⟩
def zdw:ACode:=(.seq (rg [mV 4 (cI 0)] [0,1])
(.seq (rg [mV 5 0,
mV 6 1,
cL 7 YO [5,6],
mV 4 7] [4])
.ret))
def z4R:AFun:=⟨2,[.t 4],zdw,false,false⟩
def zdx:ACode:=(.seq (rg [uO 2 (.alloc [.p (.int .i64 0),.p (.int .i64 0)]),
uO 3 (.alloc [.p (.int .i64 0),.p (.int .i64 0)]),
mV 4 (cI 0)] [0,2,3])
(.seq (.seq (rg [mV 9 0,
cL 10 z0x [9,(cI 1)],
mV 5 10] [0,2,3,5])
(.seq (rg [mV 11 5,
bN 12 .neq 11 (cI 0)] [0,2,3,5,12])
(.cond 12 (.seq (rg [uO 13 (.build [.p (.int .i64 0),.p (.int .i64 0)] []),
uO 14 (.build [.p (.int .i64 0),.p (.int .i64 0)] []),
mV 15 5,
wO (.store (some 2) 2 13),
wO (.store (some 2) 3 14),
mV 4 15] [2,3,4])
.ret)
.skip)))
(.seq (rg [mV 17 0,
cL 18 z0w [17],
mV 16 18,
eX 19 16 0,
eX 20 16 1,
mV 6 19,
mV 7 20] [0,2,3,6,7])
(.seq (rg [mV 21 0,
lN 22 21,
mV 8 22] [2,3,6,7,8])
(.seq (rg [mV 23 6,
mV 24 8,
cL 25 OU [23,24],
mV 26 7,
mV 27 8,
mV 28 8,
bN 29 .mul 27 28,
cL 30 OU [26,29],
wO (.store (some 2) 2 25),
wO (.store (some 2) 3 30),
mV 4 (cI 0)] [2,3,4])
.ret)))))
def z4S:AFun:=⟨1,[.cell 2 (some 2),.cell 3 (some 2),.t 4],zdx,false,false⟩
def zdy:ACode:=(.seq (rg [mV 2 cF] [0])
(.seq (rg [mV 3 0,
cL 4 gC [3,(cI (-100000)),(cI 100000)],
uO 5 (.un .not 4),
mV 2 5] [2])
.ret))
def z4T:AFun:=⟨1,[.t 2],zdy,false,false⟩
def zd0:ACode:=.pr [0,2,4,7,8,9] (.seq (rg [bN 10 .lss 9 8] [0,2,4,7,8,9,10])
(.seq (.cond 10 .skip
(.exit 0))
(.seq (.block 1 (.seq (rg [iA 11 none 7 9,
lD 12 none 11,
mV 6 12] [0,2,4,6,7,8,9])
(.seq (rg [mV 13 2,
mV 14 6,
bN 15 .add 13 14,
mV 2 15] [0,2,4,6,7,8,9])
(rg [mV 16 4,
mV 17 6,
mV 18 6,
bN 19 .mul 17 18,
bN 20 .add 16 19,
mV 4 20] [0,2,4,7,8,9]))))
(rg [bN 21 .add 9 (cI 1),
mV 9 21] [0,2,4,7,8,9]))))
def zd1:ACode:=.pr [0,2,4] (.seq (rg [mV 22 2,
mV 23 0,
lN 24 23,
mV 25 4,
bN 26 .mul 24 25,
mV 27 2,
mV 28 2,
bN 29 .mul 27 28,
bN 30 .sub 26 29,
mV 2 22,
mV 3 30] [2,3])
.ret)
def zdz:ACode:=(.seq (rg [mV 2 (cI 0),
mV 3 (cI 0)] [0,2])
(.seq (rg [mV 4 (cI 0)] [0,2,4])
(.seq (.seq (rg [mV 7 0,
lN 8 7,
mV 9 (cI 0)] [0,2,4,7,8,9])
(.block 0 (.loop zd0)))
zd1)))
def z4U:AFun:=⟨1,[.t 2,.t 3],zdz,false,false⟩
def zd2:ACode:=(.seq (rg [mV 4 (cI 0)] [0,1])
(.seq (.block 0 (.seq (rg [mV 6 0,
lN 7 6,
mV 8 1,
bN 9 .lss 7 8,
mV 5 9] [0,5])
(.cond 5 (.seq (rg [mV 4 (cI 8)] [4])
.ret)
(.seq (rg [mV 11 0,
lN 12 11,
bN 13 .gtr 12 (cI 5000),
mV 10 13] [0,10])
(.cond 10 (.seq (rg [mV 4 (cI 2)] [4])
.ret)
(.seq (rg [mV 15 0,
cL 16 z0z [15,(.f z0y)],
mV 14 16] [14])
(.cond 14 (.seq (rg [mV 4 (cI 1)] [4])
.ret)
.skip)))))))
(.seq (rg [mV 4 (cI 0)] [4])
.ret)))
def z4V:AFun:=⟨2,[.t 4],zd2,false,false⟩
def zd3:ACode:=(.seq (rg [mV 2 cF] [0])
(.seq (rg [mV 3 0,
cL 4 z0v [3],
uO 5 (.un .not 4),
mV 2 5] [2])
.ret))
def z4W:AFun:=⟨1,[.t 2],zd3,false,false⟩
def zd4:ACode:=(.seq (rg [mV 0 cF] [])
(.seq (rg [uO 11 (.bsl false none 1 (.str []) [(0,(cS [48,49]))]),
uO 12 (.bsl false none 1 (.int .i64 0) [(0,(cI 0))]),
uO 13 (.build [.p (.int .i64 0),.sl0 none] [(0,1,(cI 2)),(1,1,12)]),
cL 14 z0m [11,13],
mV 10 14,
eX 15 10 0,
eX 16 10 1,
mV 1 15,
mV 2 16] [1,2])
(.seq (rg [uO 18 (.build [.p (.int .i64 0),.p (.int .i64 0),.p (.int .i64 0),.p (.str []),.p (.str []),.p (.str [])] [(0,1,(cI 7)),(3,1,(cS [49,48]))]),
uO 19 (.bsl false (some 6) 1 (.agg [.int .i64 0,.int .i64 0,.int .i64 0,.str [],.str [],.str []]) [(0,18)]),
cL 20 z0K [19],
mV 17 20,
eX 21 17 0,
eX 22 17 1,
mV 3 21,
mV 4 22] [1,2,3,4])
(.seq (rg [uO 24 (.bsl false none 2 (.int .i64 0) [(0,(cI 1)),(1,(cI 3))]),
cL 25 z0u [24],
mV 23 25,
eX 26 23 0,
eX 27 23 1,
eX 28 23 2,
uO 5 (.alloc [.p (.int .i64 0),.p (.int .i64 0)]),
uO 6 (.alloc [.p (.int .i64 0),.p (.int .i64 0)]),
wO (.store (some 2) 5 26),
wO (.store (some 2) 6 27),
mV 7 28] [1,2,3,4,5,7])
(.seq (rg [uO 30 (.bsl false none 1 (.str []) [(0,(cS [115,99,97,110]))]),
uO 31 (.build [.sl0 none,.p (.int .i64 0)] [(0,1,30),(1,1,(cI 1))]),
uO 32 (.build [.p (.str []),.p (.int .i64 0),.p (.int .i64 0),.p (.int .i64 0),.p (.str []),.p (.str []),.p (.str []),.p (.int .i64 0)] [(0,1,(cS [97])),(1,1,(cI 1)),(3,1,(cI 1)),(4,1,(cS [98]))]),
uO 33 (.bsl false (some 8) 1 (.agg [.str [],.int .i64 0,.int .i64 0,.int .i64 0,.str [],.str [],.str [],.int .i64 0]) [(0,32)]),
cL 34 z06 [31,33,(cS [98]),(cI 0)],
mV 29 34,
eX 35 29 0,
eX 36 29 1,
uO 8 (.alloc [.p (.int .i64 0),.p (.int .i64 0),.p (.str []),.p (.str []),.p (.int .i64 0)]),
wO (.store (some 5) 8 35),
mV 9 36] [1,2,3,4,5,7,8,9])
(.seq (rg [mV 37 2,
bN 38 .eql 37 (cI 0),
mV 39 38,
gD 40 39 true (.mv 4),
gD 41 39 true (.bin .eql 40 (cI 0)),
uO 42 (.pick 39 41 cF),
mV 43 42,
gD 44 43 true (.mv 7),
gD 45 43 true (.bin .eql 44 (cI 0)),
uO 46 (.pick 43 45 cF),
mV 47 46,
gD 48 47 true (.mv 9),
gD 49 47 true (.bin .eql 48 (cI 0)),
uO 50 (.pick 47 49 cF),
mV 51 50,
gD 52 51 true (.mv 1),
gD 53 51 true (.len 52),
gD 54 51 true (.bin .eql 53 (cI 1)),
uO 55 (.pick 51 54 cF),
mV 56 55,
gD 57 56 true (.mv 1),
gD 58 56 true (.iaddr none 57 (cI 0)),
gD 59 56 true (.load none 58),
gD 60 56 true (.bin .eql 59 (cS [49,49])),
uO 61 (.pick 56 60 cF),
mV 62 61,
gD 63 62 true (.mv 3),
gD 64 62 true (.bin .eql 63 (cI 9)),
uO 65 (.pick 62 64 cF),
mV 66 65,
gD 67 66 true (.faddr 0 none 5),
gD 68 66 true (.load none 67),
gD 69 66 true (.bin .eql 68 (cI 2)),
uO 70 (.pick 66 69 cF),
mV 71 70,
gD 72 71 true (.faddr 0 none 8),
gD 73 71 true (.load none 72),
gD 74 71 true (.bin .eql 73 (cI 1)),
uO 75 (.pick 71 74 cF),
mV 0 75] [0])
.ret))))))
def z4X:AFun:=⟨0,[.t 0],zd4,false,false⟩
def zd5:ACode:=(.seq (rg [mV 4 cF] [0,1])
(.seq (rg [mV 5 0,
mV 6 1,
cL 7 z02 [5,6],
bN 8 .geq 7 (cI 0),
mV 4 8] [4])
.ret))
def z4Y:AFun:=⟨2,[.t 4],zd5,true,false⟩
def zd6:ACode:=(.seq (rg [mV 4 cF] [0,1])
(.seq (rg [mV 5 0,
mV 6 1,
cL 7 z03 [5,6],
bN 8 .geq 7 (cI 0),
mV 4 8] [4])
.ret))
def z4Z:AFun:=⟨2,[.t 4],zd6,true,false⟩
def zd7:ACode:=(.seq (rg [mV 4 cF] [0,1])
(.seq (rg [mV 5 0,
mV 6 1,
cL 7 SU [5,6],
bN 8 .geq 7 (cI 0),
mV 4 8] [4])
.ret))
def z5a:AFun:=⟨2,[.t 4],zd7,true,false⟩
def zd9:ACode:=.pr [0,1,7,8] (.seq (rg [bN 9 .lss 8 7] [0,1,7,8,9])
(.seq (.cond 9 .skip
(.exit 0))
(.seq (.block 1 (.seq (rg [mV 10 8,
mV 5 10] [0,1,5,7,8])
(.seq (rg [mV 11 1,
mV 12 0,
mV 13 5,
iA 14 none 12 13,
lD 15 none 14,
uO 16 (.callv 11 [15])] [0,1,5,7,8,16])
(.cond 16 (.seq (rg [mV 17 5,
mV 4 17] [4])
.ret)
.skip))))
(rg [bN 18 .add 8 (cI 1),
mV 8 18] [0,1,7,8]))))
def zdA:ACode:=.pr [] (.seq (rg [mV 4 (cI (-1))] [4])
.ret)
def zd8:ACode:=(.seq (rg [mV 4 (cI 0)] [0,1])
(.seq (.seq (rg [mV 6 0,
lN 7 6,
mV 8 (cI 0)] [0,1,7,8])
(.block 0 (.loop zd9)))
zdA))
def z5b:AFun:=⟨2,[.t 4],zd8,true,false⟩
def zdC:ACode:=.pr [0,1,7,8] (.seq (rg [bN 9 .lss 8 7] [0,1,7,8,9])
(.seq (.cond 9 .skip
(.exit 0))
(.seq (.block 1 (.seq (rg [mV 10 8,
mV 5 10] [0,1,5,7,8])
(.seq (rg [mV 11 1,
mV 12 0,
mV 13 5,
iA 14 none 12 13,
lD 15 none 14,
bN 16 .eql 11 15] [0,1,5,7,8,16])
(.cond 16 (.seq (rg [mV 17 5,
mV 4 17] [4])
.ret)
.skip))))
(rg [bN 18 .add 8 (cI 1),
mV 8 18] [0,1,7,8]))))
def zdD:ACode:=.pr [] (.seq (rg [mV 4 (cI (-1))] [4])
.ret)
def zdB:ACode:=(.seq (rg [mV 4 (cI 0)] [0,1])
(.seq (.seq (rg [mV 6 0,
lN 7 6,
mV 8 (cI 0)] [0,1,7,8])
(.block 0 (.loop zdC)))
zdD))
def z5c:AFun:=⟨2,[.t 4],zdB,true,false⟩
def zdF:ACode:=.pr [0,1,7,8] (.seq (rg [bN 9 .lss 8 7] [0,1,7,8,9])
(.seq (.cond 9 .skip
(.exit 0))
(.seq (.block 1 (.seq (rg [mV 10 8,
mV 5 10] [0,1,5,7,8])
(.seq (rg [mV 11 1,
mV 12 0,
mV 13 5,
iA 14 none 12 13,
lD 15 none 14,
bN 16 .eql 11 15] [0,1,5,7,8,16])
(.cond 16 (.seq (rg [mV 17 5,
mV 4 17] [4])
.ret)
.skip))))
(rg [bN 18 .add 8 (cI 1),
mV 8 18] [0,1,7,8]))))
def zdG:ACode:=.pr [] (.seq (rg [mV 4 (cI (-1))] [4])
.ret)
def zdE:ACode:=(.seq (rg [mV 4 (cI 0)] [0,1])
(.seq (.seq (rg [mV 6 0,
lN 7 6,
mV 8 (cI 0)] [0,1,7,8])
(.block 0 (.loop zdF)))
zdG))
def z5d:AFun:=⟨2,[.t 4],zdE,true,false⟩
def zdI:ACode:=.pr [0,9,10,11] (.seq (rg [bN 12 .lss 11 10] [0,9,10,11,12])
(.seq (.cond 12 .skip
(.exit 0))
(.seq (.block 1 (.seq (rg [mV 13 11,
iA 14 (some 8) 9 11,
lD 15 (some 8) 14,
uO 4 (.alloc [.p (.str []),.p (.int .i64 0),.p (.int .i64 0),.p (.int .i64 0),.p (.str []),.p (.str []),.p (.str []),.p (.int .i64 0)]),
mV 3 13,
wO (.store (some 8) 4 15)] [0,3,4,9,10,11])
(.seq (.seq (rg [lD 16 (some 8) 4,
cL 17 z09 [16],
mV 5 17] [0,3,4,5,9,10,11])
(.seq (rg [mV 18 5,
bN 19 .neq 18 (cI 0)] [0,3,4,5,9,10,11,19])
(.cond 19 (.seq (rg [mV 20 5,
mV 2 20] [2])
.ret)
.skip)))
(.seq (dr [dF (mV 21 3) [3],
dF (bN 22 .gtr 21 (cI 0)) [21],
dF (mV 23 22) [22],
dF (gD 24 23 true (.load (some 8) 4)) [4,23],
dF (gD 25 23 true (.mv 0)) [0,23],
dF (gD 26 23 true (.mv 3)) [3,23],
dF (gD 27 23 true (.bin .sub 26 (cI 1))) [26,23],
dF (gD 28 23 true (.iaddr (some 8) 25 27)) [25,27,23],
dF (gD 29 23 true (.load (some 8) 28)) [28,23],
dT (gD 30 23 true (.call z07 [24,29])) [24,29,23],
dF (gD 31 23 true (.bin .leq 30 (cI 0))) [30,23],
dF (uO 32 (.pick 23 31 cF)) [23,31]] [0,9,10,11,32])
(.cond 32 (.seq (rg [mV 2 (cI 7)] [2])
.ret)
.skip)))))
(rg [bN 33 .add 11 (cI 1),
mV 11 33] [0,9,10,11]))))
def zdJ:ACode:=.pr [0] (.seq (.seq (rg [mV 34 0,
cL 35 z0H [34]] [35])
(.cond 35 (.seq (rg [mV 2 (cI 6)] [2])
.ret)
.skip))
(.seq (rg [mV 2 (cI 0)] [2])
.ret))
def zdH:ACode:=(.seq (rg [mV 2 (cI 0)] [0])
(.seq (.seq (rg [mV 6 0,
lN 7 6,
bN 8 .gtr 7 (cI 2000)] [0,8])
(.cond 8 (.seq (rg [mV 2 (cI 2)] [2])
.ret)
.skip))
(.seq (.seq (rg [mV 9 0,
lN 10 9,
mV 11 (cI 0)] [0,9,10,11])
(.block 0 (.loop (.scope zdI))))
zdJ)))
def z5e:AFun:=⟨1,[.t 2],zdH,false,false⟩
def zdL:ACode:=.pr [1,16,17,18] (.seq (rg [bN 19 .lss 18 17] [1,16,17,18,19])
(.seq (.cond 19 .skip
(.exit 1))
(.seq (.block 2 (.seq (rg [mV 20 18,
iA 21 none 16 18,
lD 22 none 21,
mV 3 20,
mV 4 22] [1,3,4,16,17,18])
(.block 3 (.seq (rg [mV 24 4,
cL 25 SD [24],
uO 26 (.un .not 25),
mV 23 26] [1,3,4,16,17,18,23])
(.cond 23 (.seq (rg [mV 2 (cI 5)] [2])
.ret)
(.seq (rg [fA 28 0 none 1,
lD 29 none 28,
mV 30 3,
uO 31 (.slice none 29 none (some 30) none),
mV 32 4,
cL 33 z01 [31,32],
mV 27 33] [1,16,17,18,27])
(.cond 27 (.seq (rg [mV 2 (cI 6)] [2])
.ret)
.skip)))))))
(rg [bN 34 .add 18 (cI 1),
mV 18 34] [1,16,17,18]))))
def zdM:ACode:=.pr [1] (.seq (.seq (rg [fA 35 1 none 1,
lD 36 none 35,
cL 37 gC [36,(cI 1),(cI 10)]] [37])
(.cond 37 (.seq (rg [mV 2 (cI 1)] [2])
.ret)
.skip))
(.seq (rg [mV 2 (cI 0)] [2])
.ret))
def zdK:ACode:=(.seq (rg [uO 1 (.box 0),
mV 2 (cI 0)] [1])
(.seq (.block 0 (.seq (rg [fA 6 0 none 1,
lD 7 none 6,
lN 8 7,
bN 9 .eql 8 (cI 0),
mV 5 9] [1,5])
(.cond 5 (.seq (rg [mV 2 (cI 8)] [2])
.ret)
(.seq (rg [fA 11 0 none 1,
lD 12 none 11,
lN 13 12,
bN 14 .gtr 13 (cI 20),
mV 10 14] [1,10])
(.cond 10 (.seq (rg [mV 2 (cI 2)] [2])
.ret)
.skip)))))
(.seq (.seq (rg [fA 15 0 none 1,
lD 16 none 15,
lN 17 16,
mV 18 (cI 0)] [1,16,17,18])
(.block 1 (.loop zdL)))
zdM)))
def z5f:AFun:=⟨1,[.t 2],zdK,false,false⟩
def zdN:ACode:=(.seq (rg [uO 4 (.box 0),
uO 8 (.alloc [.p (.int .i64 0),.p (.int .i64 0),.p (.str []),.p (.str []),.p (.int .i64 0)]),
mV 9 (cI 0)] [1,2,3,4,8])
(.seq (.seq (rg [lD 12 (some 2) 4,
mV 13 1,
mV 14 3,
cL 15 z0A [12,13,14],
mV 10 15] [1,2,3,4,8,10])
(.seq (rg [mV 16 10,
bN 17 .neq 16 (cI 0)] [1,2,3,4,8,10,17])
(.cond 17 (.seq (rg [uO 18 (.build [.p (.int .i64 0),.p (.int .i64 0),.p (.str []),.p (.str []),.p (.int .i64 0)] []),
mV 19 10,
wO (.store (some 5) 8 18),
mV 9 19] [8,9])
.ret)
.skip)))
(.seq (.seq (rg [mV 20 2,
cL 21 SD [20],
uO 22 (.un .not 21)] [1,2,3,4,8,22])
(.cond 22 (.seq (rg [uO 23 (.build [.p (.int .i64 0),.p (.int .i64 0),.p (.str []),.p (.str []),.p (.int .i64 0)] []),
wO (.store (some 5) 8 23),
mV 9 (cI 5)] [8,9])
.ret)
.skip))
(.seq (dr [dF (lD 24 (some 2) 4) [4],
dF (mV 25 1) [1],
dF (mV 26 3) [3],
dA (cL 27 z0I [25,26]) [25,26] true [] [0],
dT (cL 28 z0F [24,27]) [24,27],
dF (uO 29 (.nilchk 28)) [28],
dF (fA 30 2 none 29) [29],
dF (lD 31 none 30) [30],
dF (mV 32 2) [2],
dF (uO 33 (.look (none,[2]) false (.nilp) 31 32)) [31,32],
dF (mV 11 33) [33]] [8,11])
(.seq (.seq (rg [mV 34 11,
uO 35 (.isnil 0 false 34)] [8,11,35])
(.cond 35 (.seq (rg [uO 36 (.build [.p (.int .i64 0),.p (.int .i64 0),.p (.str []),.p (.str []),.p (.int .i64 0)] []),
wO (.store (some 5) 8 36),
mV 9 (cI 8)] [8,9])
.ret)
.skip))
(.seq (rg [mV 37 11,
uO 38 (.nilchk 37),
lD 39 (some 5) 38,
wO (.store (some 5) 8 39),
mV 9 (cI 0)] [8,9])
.ret))))))
def z5g:AFun:=⟨4,[.cell 8 (some 5),.t 9],zdN,false,false⟩
def zdO:ACode:=(.seq (rg [uO 2 (.box 0),
uO 3 (.box 1),
mV 4 (cI 0)] [2,3])
(.seq (dr [dF (fA 5 2 none 2) [2],
dF (lD 6 none 5) [5],
dF (fA 7 2 none 3) [3],
dF (lD 8 none 7) [7],
dT (cL 9 QU [6,8]) [6,8],
dF (fA 10 0 none 2) [2],
dA (lD 11 none 10) [10] false [4] [],
dF (fA 12 0 none 3) [3],
dA (lD 13 none 12) [12] false [4] [],
dT (cL 14 z0J [11,13]) [11,13],
dF (fA 15 1 none 2) [2],
dA (lD 16 none 15) [15] false [4,9] [],
dF (fA 17 1 none 3) [3],
dA (lD 18 none 17) [17] false [4,9] [],
dT (cL 19 QU [16,18]) [16,18],
dF (uO 20 (.bsl false none 3 (.int .i64 0) [(0,9),(1,14),(2,19)])) [9,14,19],
dT (cL 21 z0i [20]) [20],
dF (mV 4 21) [21]] [4])
.ret))
def z5h:AFun:=⟨2,[.t 4],zdO,false,false⟩
def zdQ:ACode:=.pr [0,3,4,5] (rg [mV 16 5,
bN 17 .sub 16 (cI 1),
mV 5 17] [0,3,4,5])
def zdR:ACode:=.pr [0,3,4,5] (.seq (.seq (rg [mV 14 5,
bN 15 .geq 14 (cI 0)] [0,3,4,5,15])
(.cond 15 .skip
(.exit 0)))
(.seq (.block 1 (.seq (rg [mV 18 0,
mV 19 5,
iA 20 (some 8) 18 19,
lD 21 (some 8) 20,
uO 6 (.alloc [.p (.str []),.p (.int .i64 0),.p (.int .i64 0),.p (.int .i64 0),.p (.str []),.p (.str []),.p (.str []),.p (.int .i64 0)]),
wO (.store (some 8) 6 21)] [0,3,4,5,6])
(.seq (rg [mV 22 4,
mV 23 5,
mV 24 3,
fA 25 0 none 6,
lD 26 none 25,
fA 27 1 none 6,
lD 28 none 27,
uO 29 (.build [.p (.str []),.p (.int .i64 0)] [(0,1,26),(1,1,28)]),
uO 30 (.look ((some 2),[2,0]) false (AB false) 24 29),
uO 31 (.un .not 30),
iA 32 none 22 23,
wO (.store none 32 31)] [0,3,4,5,6])
(.seq (rg [mV 33 4,
mV 34 5,
iA 35 none 33 34,
lD 36 none 35,
mV 37 36,
gD 38 37 true (.faddr 3 none 6),
gD 39 37 true (.load none 38),
gD 40 37 true (.bin .eql 39 (cI 7)),
uO 41 (.pick 37 40 cF)] [0,3,4,5,6,41])
(.cond 41 (rg [mV 42 3,
fA 43 6 none 6,
lD 44 none 43,
fA 45 7 none 6,
lD 46 none 45,
uO 47 (.build [.p (.str []),.p (.int .i64 0)] [(0,1,44),(1,1,46)]),
wO (.mupd ((some 2),[2,0]) 42 47 cT)] [0,3,4,5])
.skip)))))
zdQ))
def zdS:ACode:=.pr [4] (.seq (rg [mV 48 4,
mV 2 48] [2])
.ret)
def zdP:ACode:=(.seq (rg [mV 2 (.c (.p (.sl none [])))] [0])
(.seq (rg [uO 7 (.mkmap),
mV 3 7] [0,3])
(.seq (rg [mV 8 0,
lN 9 8,
uO 10 (.mksl none (.bool false) 9 9),
mV 4 10] [0,3,4])
(.seq (.seq (rg [mV 11 0,
lN 12 11,
bN 13 .sub 12 (cI 1),
mV 5 13] [0,3,4,5])
(.block 0 (.loop (.scope zdR))))
zdS))))
def z5i:AFun:=⟨1,[.t 2],zdP,false,false⟩
end Go.Am
end
section
/- The functions asv abstract code,and asv formulas over their values: printed by program out of the translation. -/
set_option linter.all false
set_option maxRecDepth 100000
namespace Go.Am
def zdT:ACode:=(.seq (rg [uO 1 (.box 0),
mV 2 (cI 0)] [1])
(.seq (dr [dF (fA 5 3 none 1) [1],
dF (lD 6 none 5) [5],
dF (bN 7 .eql 6 (cI 7)) [6],
dF (fA 8 3 none 1) [1],
dF (lD 9 none 8) [8],
dF (bN 10 .eql 9 (cI 2)) [9],
dF (mV 3 7) [7],
dF (mV 4 10) [10]] [1,3,4])
(.seq (.block 0 (.seq (rg [fA 12 0 none 1,
lD 13 none 12,
cL 14 SD [13],
uO 15 (.un .not 14),
mV 11 15] [1,3,4,11])
(.cond 11 (.seq (rg [mV 2 (cI 5)] [2])
.ret)
(.seq (rg [fA 17 1 none 1,
lD 18 none 17,
cL 19 gC [18,(cI 1),(cI 1000000)],
mV 20 19,
gD 21 20 false (.faddr 2 none 1),
gD 22 20 false (.load none 21),
gD 23 20 false (.call PU [22]),
gD 24 20 false (.un .not 23),
uO 25 (.pick 20 cT 24),
mV 16 25] [1,3,4,16])
(.cond 16 (.seq (rg [mV 2 (cI 1)] [2])
.ret)
(.seq (rg [fA 27 3 none 1,
lD 28 none 27,
cL 29 gC [28,(cI 1),(cI 7)],
mV 26 29] [1,3,4,26])
(.cond 26 (.seq (rg [mV 2 (cI 4)] [2])
.ret)
(.seq (rg [mV 31 3,
uO 32 (.un .not 31),
mV 33 32,
gD 34 33 true (.faddr 4 none 1),
gD 35 33 true (.load none 34),
gD 36 33 true (.call SD [35]),
gD 37 33 true (.un .not 36),
uO 38 (.pick 33 37 cF),
mV 39 38,
gD 40 39 false (.mv 4),
gD 41 39 false (.mv 40),
gD 42 41 true (.faddr 5 none 1),
gD 43 41 true (.load none 42),
gD 44 41 true (.call SD [43]),
gD 45 41 true (.un .not 44),
gD 46 39 false (.pick 41 45 cF),
uO 47 (.pick 39 cT 46),
mV 48 47,
gD 49 48 false (.mv 3),
gD 50 48 false (.mv 49),
gD 51 50 true (.faddr 6 none 1),
gD 52 50 true (.load none 51),
gD 53 50 true (.call SD [52]),
gD 54 50 true (.un .not 53),
gD 55 48 false (.pick 50 54 cF),
uO 56 (.pick 48 cT 55),
mV 30 56] [1,3,4,30])
(.cond 30 (.seq (rg [mV 2 (cI 5)] [2])
.ret)
(.seq (rg [mV 58 3,
mV 59 58,
gD 60 59 true (.faddr 7 none 1),
gD 61 59 true (.load none 60),
gD 62 59 true (.call gC [61,(cI 1),(cI 1000000)]),
uO 63 (.pick 59 62 cF),
mV 57 63] [1,3,4,57])
(.cond 57 (.seq (rg [mV 2 (cI 1)] [2])
.ret)
(.seq (rg [mV 65 3,
mV 66 65,
gD 67 66 true (.faddr 4 none 1),
gD 68 66 true (.load none 67),
gD 69 66 true (.bin .neq 68 (cS [])),
uO 70 (.pick 66 69 cF),
mV 71 70,
gD 72 71 false (.mv 4),
gD 73 71 false (.un .not 72),
gD 74 71 false (.mv 73),
gD 75 74 true (.faddr 5 none 1),
gD 76 74 true (.load none 75),
gD 77 74 true (.bin .neq 76 (cS [])),
gD 78 71 false (.pick 74 77 cF),
uO 79 (.pick 71 cT 78),
mV 80 79,
gD 81 80 false (.mv 3),
gD 82 80 false (.un .not 81),
gD 83 80 false (.mv 82),
gD 84 83 true (.faddr 6 none 1),
gD 85 83 true (.load none 84),
gD 86 83 true (.bin .neq 85 (cS [])),
gD 87 83 true (.mv 86),
gD 88 87 false (.faddr 7 none 1),
gD 89 87 false (.load none 88),
gD 90 87 false (.bin .neq 89 (cI 0)),
gD 91 83 true (.pick 87 cT 90),
gD 92 80 false (.pick 83 91 cF),
uO 93 (.pick 80 cT 92),
mV 64 93] [64])
(.cond 64 (.seq (rg [mV 2 (cI 3)] [2])
.ret)
.skip)))))))))))))
(.seq (rg [mV 2 (cI 0)] [2])
.ret))))
def z5j:AFun:=⟨1,[.t 2],zdT,false,false⟩
def zdU:ACode:=(.seq (rg [uO 3 (.box 0),
mV 6 (cI 0)] [1,2,3])
(.seq (rg [lD 7 (some 2) 3,
cL 8 z05 [7],
mV 9 1,
cL 10 z04 [9],
mV 11 2,
cL 12 z0G [11],
uO 13 (.bsl false none 3 (.int .i64 0) [(0,8),(1,10),(2,12)]),
cL 14 uG [13],
mV 6 14] [6])
.ret))
def z5k:AFun:=⟨3,[.t 6],zdU,false,false⟩
def zdV:ACode:=(.seq (rg [mV 4 (cI 0)] [0,1])
(.seq (rg [mV 5 0,
uO 6 (.nilchk 5),
fA 7 0 (some 2) 6,
fA 8 0 none 7,
lD 9 none 8,
mV 10 1,
cL 11 SU [9,10],
mV 4 11] [4])
.ret))
def z5l:AFun:=⟨2,[.t 4],zdV,false,false⟩
def zdX:ACode:=.pr [] (.seq (rg [mV 6 (cI 0)] [6])
.ret)
def zdY:ACode:=.pr [] (.seq (rg [mV 6 (cI 0)] [6])
.ret)
def zdZ:ACode:=.pr [0,1] (.seq (rg [mV 98 1,
uO 99 (.nilchk 98),
fA 100 4 none 99,
lD 101 none 100,
bN 102 .add 101 (cI 1),
uO 103 (.nilchk 98),
fA 104 4 none 103,
wO (.store none 104 102)] [0,1])
(.seq (rg [mV 105 1,
uO 106 (.nilchk 105),
fA 107 0 none 106,
wO (.store none 107 (cI 3))] [0,1])
(.seq (.seq (dr [dF (mV 108 1) [1],
dF (uO 109 (.nilchk 108)) [108],
dF (fA 110 4 none 109) [109],
dF (lD 111 none 110) [110],
dF (mV 112 0) [0],
dF (uO 113 (.nilchk 112)) [112],
dF (fA 114 0 (some 2) 113) [113],
dF (fA 115 1 none 114) [114],
dF (lD 116 none 115) [115],
dF (bN 117 .eql 111 116) [111,116]] [1,117])
(.cond 117 (rg [mV 118 1,
uO 119 (.nilchk 118),
fA 120 0 none 119,
wO (.store none 120 (cI 5))] [])
.skip))
zdY)))
def zdW:ACode:=(.seq (rg [uO 5 (.box 2),
mV 6 (cI 0)] [0,1,5])
(.seq (.block 0 (.seq (rg [mV 10 1,
uO 11 (.nilchk 10),
fA 12 0 none 11,
lD 13 none 12,
bN 14 .neq 13 (cI 2),
mV 9 14] [0,1,5,9])
(.cond 9 (.seq (rg [mV 6 (cI 11)] [6])
.ret)
(.seq (dr [dF (mV 16 1) [1],
dF (uO 17 (.nilchk 16)) [16],
dF (fA 18 3 none 17) [17],
dF (lD 19 none 18) [18],
dF (fA 20 0 none 5) [5],
dF (lD 21 none 20) [20],
dF (bN 22 .neq 19 21) [19,21],
dF (mV 15 22) [22]] [0,1,5,15])
(.cond 15 (.seq (rg [mV 6 (cI 13)] [6])
.ret)
.skip)))))
(.seq (rg [fA 23 3 none 5,
lD 24 none 23,
bN 25 .eql 24 (cI 3),
mV 7 25] [0,1,5,7])
(.seq (dr [dF (mV 26 0) [0],
dF (mV 27 0) [0],
dF (uO 28 (.nilchk 27)) [27],
dF (fA 29 4 none 28) [28],
dF (lD 30 none 29) [29],
dF (fA 31 4 none 5) [5],
dF (lD 32 none 31) [31],
dF (mV 33 1) [1],
dF (uO 34 (.nilchk 33)) [33],
dF (fA 35 2 none 34) [34],
dF (lD 36 none 35) [35],
dF (mV 37 1) [1],
dF (uO 38 (.nilchk 37)) [37],
dF (fA 39 1 none 38) [38],
dF (lD 40 none 39) [39],
dF (fA 41 2 none 5) [5],
dF (lD 42 none 41) [41],
dF (mV 43 7) [7],
dF (uO 44 (.build [.p (.str []),.p (.str []),.p (.int .i64 0),.p (.int .i64 0),.p (.bool false)] [(0,1,32),(1,1,36),(2,1,40),(3,1,42),(4,1,43)])) [32,36,40,42,43],
dF (uO 45 (.bsl false (some 5) 1 (.agg [.str [],.str [],.int .i64 0,.int .i64 0,.bool false]) [(0,44)])) [44],
dT (uO 46 (.app (some 5) 30 45)) [30,45],
dF (uO 47 (.nilchk 26)) [26],
dF (fA 48 4 none 47) [47],
dT (wO (.store none 48 46)) [48,46]] [0,1,5,7])
(.seq (rg [mV 49 0,
mV 50 1,
fA 51 2 none 5,
lD 52 none 51,
cL 53 TU [49,50,52]] [0,1,5,7])
(.seq (rg [mV 54 1,
fA 55 2 none 5,
lD 56 none 55,
uO 57 (.nilchk 54),
fA 58 1 none 57,
wO (.store none 58 56)] [0,1,7])
(.seq (.seq (rg [mV 59 7] [0,1,59])
(.cond 59 (.seq (rg [mV 60 1,
uO 61 (.nilchk 60),
fA 62 4 none 61,
wO (.store none 62 (cI 0))] [0,1])
(.seq (rg [mV 63 0,
mV 64 1,
uO 65 (.nilchk 64),
fA 66 2 none 65,
lD 67 none 66,
cL 68 z0B [63,67],
bN 69 .add 68 (cI 1),
mV 8 69] [0,1,8])
(.seq (.seq (rg [mV 70 8,
mV 71 0,
uO 72 (.nilchk 71),
fA 73 0 (some 2) 72,
fA 74 0 none 73,
lD 75 none 74,
lN 76 75,
bN 77 .eql 70 76] [0,1,8,77])
(.cond 77 (rg [mV 78 1,
mV 79 1,
uO 80 (.nilchk 78),
fA 81 0 none 80,
wO (.store none 81 (cI 4)),
uO 82 (.nilchk 79),
fA 83 2 none 82,
wO (.store none 83 (cS []))] [])
(rg [mV 84 1,
mV 85 1,
mV 86 0,
uO 87 (.nilchk 86),
fA 88 0 (some 2) 87,
fA 89 0 none 88,
lD 90 none 89,
mV 91 8,
iA 92 none 90 91,
lD 93 none 92,
uO 94 (.nilchk 84),
fA 95 0 none 94,
wO (.store none 95 (cI 1)),
uO 96 (.nilchk 85),
fA 97 2 none 96,
wO (.store none 97 93)] [])))
zdX)))
.skip))
zdZ)))))))
def z5m:AFun:=⟨3,[.t 6],zdW,false,false⟩
def zeb:ACode:=.pr [0,1,2,11,12] (rg [bN 47 .add 12 (cI 1),
mV 12 47] [0,1,2,11,12])
def zec:ACode:=.pr [0,1,2,11,12] (.seq (rg [bN 13 .lss 12 11] [0,1,2,11,12,13])
(.seq (.cond 13 .skip
(.exit 0))
(.seq (.block 1 (.seq (rg [mV 14 12,
mV 6 14] [0,1,2,6,11,12])
(.seq (dr [dF (mV 15 0) [0],
dF (uO 16 (.nilchk 15)) [15],
dF (fA 17 5 none 16) [16],
dF (lD 18 none 17) [17],
dF (mV 19 6) [6],
dF (iA 20 (some 3) 18 19) [18,19],
dF (fA 21 0 none 20) [20],
dF (lD 22 none 21) [21],
dF (mV 23 1) [1],
dF (uO 24 (.nilchk 23)) [23],
dF (fA 25 3 none 24) [24],
dF (lD 26 none 25) [25],
dF (bN 27 .eql 22 26) [22,26],
dF (mV 28 27) [27],
dF (gD 29 28 true (.mv 0)) [0,28],
dF (gD 30 28 true (.nilchk 29)) [29,28],
dF (gD 31 28 true (.faddr 5 none 30)) [30,28],
dF (gD 32 28 true (.load none 31)) [31,28],
dF (gD 33 28 true (.mv 6)) [6,28],
dF (gD 34 28 true (.iaddr (some 3) 32 33)) [32,33,28],
dF (gD 35 28 true (.faddr 2 none 34)) [34,28],
dF (gD 36 28 true (.load none 35)) [35,28],
dF (gD 37 28 true (.bin .lss 36 (cI 0))) [36,28],
dF (uO 38 (.pick 28 37 cF)) [28,37]] [0,1,2,6,11,12,38])
(.cond 38 (rg [mV 39 0,
uO 40 (.nilchk 39),
fA 41 5 none 40,
lD 42 none 41,
mV 43 6,
mV 44 2,
iA 45 (some 3) 42 43,
fA 46 2 none 45,
wO (.store none 46 44)] [0,1,2,11,12])
.skip))))
zeb)))
def zee:ACode:=.pr [0,1] (.seq (dr [dF (mV 48 0) [0],
dF (uO 49 (.nilchk 48)) [48],
dF (fA 50 3 none 49) [49],
dF (lD 51 none 50) [50],
dF (mV 52 1) [1],
dF (uO 53 (.nilchk 52)) [52],
dF (fA 54 3 none 53) [53],
dF (lD 55 none 54) [54],
dT (wO (.mdel (none,[2]) 51 55)) [51,55]] [1])
(rg [mV 56 1,
uO 57 (.nilchk 56),
fA 58 3 none 57,
wO (.store none 58 (cS []))] []))
def zea:ACode:=(.seq (.seq (rg [mV 7 0,
uO 8 (.nilchk 7),
fA 9 5 none 8,
lD 10 none 9,
lN 11 10,
mV 12 (cI 0)] [0,1,2,11,12])
(.block 0 (.loop zec)))
zee)
def z5n:AFun:=⟨3,[],zea,false,false⟩
def zef:ACode:=(.seq (rg [uO 5 (.box 2),
mV 6 (cI 0)] [0,1,5])
(.seq (dr [dF (mV 10 0) [0],
dF (uO 11 (.nilchk 10)) [10],
dF (fA 12 3 none 11) [11],
dF (lD 13 none 12) [12],
dF (fA 14 0 none 5) [5],
dF (lD 15 none 14) [14],
dF (uO 16 (.look (none,[2]) true (.p (.str [])) 13 15)) [13,15],
dF (mV 9 16) [16],
dF (eX 17 9 0) [9],
dF (eX 18 9 1) [9],
dF (mV 7 17) [17],
dF (mV 8 18) [18]] [0,1,5,8])
(.seq (.block 0 (.seq (rg [mV 20 1,
uO 21 (.nilchk 20),
fA 22 0 none 21,
lD 23 none 22,
bN 24 .neq 23 (cI 1),
mV 19 24] [0,1,5,8,19])
(.cond 19 (.seq (rg [mV 6 (cI 11)] [6])
.ret)
(.seq (dr [dF (fA 26 5 none 5) [5],
dF (lD 27 none 26) [26],
dF (mV 28 1) [1],
dF (uO 29 (.nilchk 28)) [28],
dF (fA 30 2 none 29) [29],
dF (lD 31 none 30) [30],
dF (bN 32 .neq 27 31) [27,31],
dF (mV 25 32) [32]] [0,1,5,8,25])
(.cond 25 (.seq (rg [mV 6 (cI 3)] [6])
.ret)
(.seq (rg [mV 34 8,
mV 33 34] [0,1,5,33])
(.cond 33 (.seq (rg [mV 6 (cI 12)] [6])
.ret)
.skip)))))))
(.seq (dr [dF (mV 35 1) [1],
dF (mV 36 1) [1],
dF (mV 37 1) [1],
dF (fA 38 2 none 5) [5],
dF (lD 39 none 38) [38],
dF (fA 40 0 none 5) [5],
dF (lD 41 none 40) [40],
dF (uO 42 (.nilchk 35)) [35],
dF (fA 43 0 none 42) [42],
dA (wO (.store none 43 (cI 2))) [43] true [] [4,6],
dF (uO 44 (.nilchk 36)) [36],
dF (fA 45 1 none 44) [44],
dA (wO (.store none 45 39)) [45,39] true [] [6],
dF (uO 46 (.nilchk 37)) [37],
dF (fA 47 3 none 46) [46],
dT (wO (.store none 47 41)) [47,41]] [0,5])
(.seq (dr [dF (mV 48 0) [0],
dF (uO 49 (.nilchk 48)) [48],
dF (fA 50 3 none 49) [49],
dF (lD 51 none 50) [50],
dF (fA 52 0 none 5) [5],
dF (lD 53 none 52) [52],
dF (fA 54 4 none 5) [5],
dF (lD 55 none 54) [54],
dT (wO (.mupd (none,[2]) 51 53 55)) [51,53,55]] [0,5])
(.seq (dr [dF (mV 56 0) [0],
dF (mV 57 0) [0],
dF (uO 58 (.nilchk 57)) [57],
dF (fA 59 5 none 58) [58],
dF (lD 60 none 59) [59],
dF (fA 61 0 none 5) [5],
dF (lD 62 none 61) [61],
dF (fA 63 2 none 5) [5],
dF (lD 64 none 63) [63],
dF (uO 65 (.build [.p (.str []),.p (.int .i64 0),.p (.int .i64 0)] [(0,1,62),(1,1,64),(2,1,(cI (-1)))])) [62,64],
dF (uO 66 (.bsl false (some 3) 1 (.agg [.str [],.int .i64 0,.int .i64 0]) [(0,65)])) [65],
dT (uO 67 (.app (some 3) 60 66)) [60,66],
dF (uO 68 (.nilchk 56)) [56],
dF (fA 69 5 none 68) [68],
dT (wO (.store none 69 67)) [69,67]] [])
(.seq (rg [mV 6 (cI 0)] [6])
.ret)))))))
def z5o:AFun:=⟨3,[.t 6],zef,false,false⟩
def zeh:ACode:=.pr [0,3,5,38,45] (.cond 45 (.seq (rg [mV 48 0,
mV 49 5,
lD 50 (some 8) 3,
cL 51 z0C [48,49,50],
mV 4 51] [4])
.ret)
(.seq (rg [bN 53 .eql 38 (cI 5),
mV 52 53] [0,3,5,52])
(.cond 52 (.seq (.seq (rg [mV 54 5,
uO 55 (.nilchk 54),
fA 56 0 none 55,
lD 57 none 56,
bN 58 .neq 57 (cI 3)] [3,5,58])
(.cond 58 (.seq (rg [mV 4 (cI 11)] [4])
.ret)
.skip))
(.seq (dr [dF (mV 59 5) [5],
dF (mV 60 5) [5],
dF (fA 61 2 none 3) [3],
dF (lD 62 none 61) [61],
dF (uO 63 (.nilchk 59)) [59],
dF (fA 64 0 none 63) [63],
dA (wO (.store none 64 (cI 1))) [64] true [] [3],
dF (uO 65 (.nilchk 60)) [60],
dF (fA 66 1 none 65) [65],
dT (wO (.store none 66 62)) [66,62]] [])
(.seq (rg [mV 4 (cI 0)] [4])
.ret)))
.skip)))
def zei:ACode:=.pr [3,5] (.seq (dr [dF (mV 89 5) [5],
dF (mV 90 5) [5],
dF (fA 91 2 none 3) [3],
dF (lD 92 none 91) [91],
dF (uO 93 (.nilchk 89)) [89],
dF (fA 94 0 none 93) [93],
dA (wO (.store none 94 (cI 5))) [94] true [] [3],
dF (uO 95 (.nilchk 90)) [90],
dF (fA 96 1 none 95) [95],
dT (wO (.store none 96 92)) [96,92]] [])
(.seq (rg [mV 4 (cI 0)] [4])
.ret))
def zej:ACode:=.pr [0,3,5] (.seq (.seq (rg [mV 67 5,
uO 68 (.nilchk 67),
fA 69 0 none 68,
lD 70 none 69,
bN 71 .eql 70 (cI 4),
mV 72 71,
gD 73 72 false (.mv 5),
gD 74 72 false (.nilchk 73),
gD 75 72 false (.faddr 0 none 74),
gD 76 72 false (.load none 75),
gD 77 72 false (.bin .eql 76 (cI 5)),
uO 78 (.pick 72 cT 77)] [0,3,5,78])
(.cond 78 (.seq (rg [mV 4 (cI 11)] [4])
.ret)
.skip))
(.seq (.seq (rg [mV 79 5,
uO 80 (.nilchk 79),
fA 81 0 none 80,
lD 82 none 81,
bN 83 .eql 82 (cI 2)] [0,3,5,83])
(.cond 83 (rg [mV 84 0,
mV 85 5,
fA 86 2 none 3,
lD 87 none 86,
cL 88 TU [84,85,87]] [3,5])
.skip))
zei))
def zeg:ACode:=(.seq (rg [uO 3 (.box 1),
mV 4 (cI 0)] [0,3])
(.seq (dr [dF (mV 6 0) [0],
dF (uO 7 (.nilchk 6)) [6],
dF (fA 8 2 none 7) [7],
dF (lD 9 none 8) [8],
dF (fA 10 4 none 3) [3],
dF (lD 11 none 10) [10],
dF (uO 12 (.look (none,[2]) false (.nilp) 9 11)) [9,11],
dF (mV 5 12) [12]] [0,3,5])
(.seq (.seq (rg [fA 13 3 none 3,
lD 14 none 13,
bN 15 .eql 14 (cI 1)] [0,3,5,15])
(.cond 15 (.seq (.seq (rg [mV 16 5,
uO 17 (.isnil 0 true 16)] [0,3,17])
(.cond 17 (.seq (rg [mV 4 (cI 6)] [4])
.ret)
.skip))
(.seq (dr [dF (mV 18 0) [0],
dF (uO 19 (.nilchk 18)) [18],
dF (fA 20 2 none 19) [19],
dF (lD 21 none 20) [20],
dF (fA 22 4 none 3) [3],
dF (lD 23 none 22) [22],
dF (fA 24 2 none 3) [3],
dF (lD 25 none 24) [24],
dF (mV 26 0) [0],
dF (uO 27 (.nilchk 26)) [26],
dF (fA 28 0 (some 2) 27) [27],
dF (fA 29 0 none 28) [28],
dF (lD 30 none 29) [29],
dF (iA 31 none 30 (cI 0)) [30],
dF (lD 32 none 31) [31],
dF (uO 33 (.build [.p (.int .i64 0),.p (.int .i64 0),.p (.str []),.p (.str []),.p (.int .i64 0)] [(0,1,(cI 1)),(1,1,25),(2,1,32)])) [25,32],
dA (uO 34 (.box 33)) [33] true [] [3,5],
dT (wO (.mupd (none,[2]) 21 23 34)) [21,23,34]] [])
(.seq (rg [mV 4 (cI 0)] [4])
.ret)))
.skip))
(.seq (.seq (rg [mV 35 5,
uO 36 (.isnil 0 false 35)] [0,3,5,36])
(.cond 36 (.seq (rg [mV 4 (cI 8)] [4])
.ret)
.skip))
(.seq (.seq (rg [fA 37 3 none 3,
lD 38 none 37] [0,3,5,38])
(.block 0 (.seq (rg [bN 40 .eql 38 (cI 2),
mV 39 40] [0,3,5,38,39])
(.cond 39 (.seq (rg [mV 41 0,
mV 42 5,
lD 43 (some 8) 3,
cL 44 z0D [41,42,43],
mV 4 44] [4])
.ret)
(.seq (.seq (rg [bN 46 .eql 38 (cI 3),
mV 45 46] [0,3,5,38,45])
(.cond 45 .skip
(rg [bN 47 .eql 38 (cI 4),
mV 45 47] [0,3,5,38,45])))
zeh)))))
zej)))))
def z5p:AFun:=⟨2,[.t 4],zeg,false,false⟩
def zel:ACode:=.pr [5,6,17,18,19] (rg [bN 59 .add 19 (cI 1),
mV 19 59] [5,6,17,18,19])
def zem:ACode:=.pr [5,6,17,18,19] (.seq (rg [bN 20 .lss 19 18] [5,6,17,18,19,20])
(.seq (.cond 20 .skip
(.exit 0))
(.seq (.block 1 (.seq (rg [mV 21 19,
iA 22 (some 8) 17 19,
lD 23 (some 8) 22,
uO 8 (.alloc [.p (.str []),.p (.int .i64 0),.p (.int .i64 0),.p (.int .i64 0),.p (.str []),.p (.str []),.p (.str []),.p (.int .i64 0)]),
mV 7 21,
wO (.store (some 8) 8 23)] [5,6,7,8,17,18,19])
(.seq (.seq (rg [mV 24 6,
mV 25 7,
iA 26 none 24 25,
lD 27 none 26,
uO 28 (.un .not 27),
mV 29 28,
gD 30 29 false (.faddr 3 none 8),
gD 31 29 false (.load none 30),
gD 32 29 false (.bin .eql 31 (cI 7)),
uO 33 (.pick 29 cT 32)] [5,6,7,8,17,18,19,33])
(.cond 33 (.exit 1)
.skip))
(.seq (rg [mV 34 5,
lD 35 (some 8) 8,
cL 36 z0E [34,35],
mV 9 36] [5,6,7,9,17,18,19])
(.seq (rg [mV 37 9,
bN 38 .neq 37 (cI 0)] [5,6,7,9,17,18,19,38])
(.cond 38 (.seq (rg [mV 39 5,
mV 40 5,
uO 41 (.nilchk 40),
fA 42 6 none 41,
lD 43 none 42,
mV 44 7,
uO 45 (.bsl false none 1 (.int .i64 0) [(0,44)]),
uO 46 (.app none 43 45),
uO 47 (.nilchk 39),
fA 48 6 none 47,
wO (.store none 48 46)] [5,6,9,17,18,19])
(rg [mV 49 5,
mV 50 5,
uO 51 (.nilchk 50),
fA 52 7 none 51,
lD 53 none 52,
mV 54 9,
uO 55 (.bsl false none 1 (.int .i64 0) [(0,54)]),
uO 56 (.app none 53 55),
uO 57 (.nilchk 49),
fA 58 7 none 57,
wO (.store none 58 56)] [5,6,17,18,19]))
.skip))))))
zel)))
def zen:ACode:=.pr [5] (.seq (rg [mV 60 5,
mV 4 60] [4])
.ret)
def zek:ACode:=(.seq (rg [uO 2 (.uns 12 0 [0]),
mV 4 (.c (.nilp))] [1,2])
(.seq (rg [lD 10 (some 2) 2,
uO 11 (.mkmap),
uO 12 (.mkmap),
uO 13 (.build [.sl0 none,.p (.int .i64 0),.nilm,.nilm,.sl0 (some 5),.sl0 (some 3),.sl0 none,.sl0 none] [(0,2,10),(2,1,11),(3,1,12)]),
uO 14 (.uns 12 0 [13]),
mV 5 14] [1,5])
(.seq (rg [mV 15 1,
cL 16 z08 [15],
mV 6 16] [1,5,6])
(.seq (.seq (rg [mV 17 1,
lN 18 17,
mV 19 (cI 0)] [5,6,17,18,19])
(.block 0 (.loop (.scope zem))))
zen))))
def z5q:AFun:=⟨2,[.t 4],zek,false,false⟩
def zeo:ACode:=(.seq (rg [mV 2 (cI 0)] [0])
(.seq (.seq (rg [mV 3 0,
cL 4 PU [3],
uO 5 (.un .not 4)] [5])
(.cond 5 (.seq (rg [mV 2 (cI 1)] [2])
.ret)
.skip))
(.seq (rg [mV 2 (cI 0)] [2])
.ret)))
def z5r:AFun:=⟨1,[.t 2],zeo,false,false⟩
def zeq:ACode:=.pr [3,8,9,10] (.seq (rg [bN 11 .lss 10 9] [3,8,9,10,11])
(.seq (.cond 11 .skip
(.exit 0))
(.seq (.block 1 (.seq (rg [iA 12 (some 8) 8 10,
lD 13 (some 8) 12,
uO 5 (.alloc [.p (.str []),.p (.int .i64 0),.p (.int .i64 0),.p (.int .i64 0),.p (.str []),.p (.str []),.p (.str []),.p (.int .i64 0)]),
wO (.store (some 8) 5 13)] [3,5,8,9,10])
(.seq (rg [fA 14 0 none 5,
lD 15 none 14,
fA 16 1 none 5,
lD 17 none 16,
uO 18 (.build [.p (.str []),.p (.int .i64 0)] [(0,1,15),(1,1,17)]),
uO 6 (.alloc [.p (.str []),.p (.int .i64 0)]),
wO (.store (some 2) 6 18)] [3,6,8,9,10])
(.seq (.seq (rg [mV 19 3,
lD 20 (some 2) 6,
uO 21 (.look ((some 2),[2,0]) false (AB false) 19 20)] [3,6,8,9,10,21])
(.cond 21 (.seq (rg [mV 2 cT] [2])
.ret)
.skip))
(rg [mV 22 3,
lD 23 (some 2) 6,
wO (.mupd ((some 2),[2,0]) 22 23 cT)] [3,8,9,10])))))
(rg [bN 24 .add 10 (cI 1),
mV 10 24] [3,8,9,10]))))
def zer:ACode:=.pr [] (.seq (rg [mV 2 cF] [2])
.ret)
def zep:ACode:=(.seq (rg [mV 2 cF] [0])
(.seq (rg [uO 7 (.mkmap),
mV 3 7] [0,3])
(.seq (.seq (rg [mV 8 0,
lN 9 8,
mV 10 (cI 0)] [3,8,9,10])
(.block 0 (.loop (.scope zeq))))
zer)))
def z5s:AFun:=⟨1,[.t 2],zep,false,false⟩
def zet:ACode:=.pr [0,1,5] (.seq (.seq (rg [mV 8 5,
bN 9 .gtr 8 (cI 0),
mV 10 9,
gD 11 10 true (.mv 0),
gD 12 10 true (.mv 5),
gD 13 10 true (.bin .sub 12 (cI 1)),
gD 14 10 true (.iaddr (some 8) 11 13),
gD 15 10 true (.faddr 2 none 14),
gD 16 10 true (.load none 15),
gD 17 10 true (.mv 1),
gD 18 10 true (.bin .gtr 16 17),
uO 19 (.pick 10 18 cF)] [0,1,5,19])
(.cond 19 .skip
(.exit 0)))
(.block 1 (rg [mV 20 5,
bN 21 .sub 20 (cI 1),
mV 5 21] [0,1,5])))
def zeu:ACode:=.pr [0,5] (.seq (rg [mV 22 0,
mV 23 5,
uO 24 (.slice (some 8) 22 none (some 23) none),
mV 4 24] [4])
.ret)
def zes:ACode:=(.seq (rg [mV 4 (.c (.p (.sl (some 8) [])))] [0,1])
(.seq (rg [mV 6 0,
lN 7 6,
mV 5 7] [0,1,5])
(.seq (.block 0 (.loop zet))
zeu)))
def z5t:AFun:=⟨2,[.t 4],zes,false,false⟩
def zev:ACode:=(.seq (rg [mV 4 (cI 0)] [0,1])
(.seq (rg [mV 5 0,
mV 6 1,
cL 7 z0t [5,6],
mV 4 7] [4])
.ret))
def z5u:AFun:=⟨2,[.t 4],zev,false,false⟩
def zew:ACode:=(.seq (rg [mV 2 (cI 0),
mV 3 (cI 0)] [0])
(.seq (.seq (rg [mV 5 0,
cL 6 JF [5],
mV 4 6] [0,4])
(.seq (rg [mV 7 4,
bN 8 .neq 7 (cI 0)] [0,4,8])
(.cond 8 (.seq (rg [mV 9 4,
mV 2 (cI 0),
mV 3 9] [2,3])
.ret)
.skip)))
(.seq (rg [mV 10 0,
cL 11 GE [10,(.c (.nilp))],
uO 12 (.nilchk 11),
fA 13 37 none 12,
lD 14 none 13,
mV 2 14,
mV 3 (cI 0)] [2,3])
.ret)))
def z5v:AFun:=⟨1,[.t 2,.t 3],zew,false,false⟩
end Go.Am
end
section
/- The abstract machine,part L: functions of the library that are met by the kit's contracts: plain values in,plain values out,new memory at most. -/
set_option linter.unusedSimpArgs false
set_option linter.unusedVariables false
namespace Go.Am
variable {P:Program} {gl:Nat→Option PV}
structure PureRow (P:Program) (gl:Nat→Option PV) (f:Nat) (spec:List PV→Option AV):Prop where
 enter:∀us w,(callFunc f us).run P w = .ok (.enter f us) w
 run:∀(M:Mem) (w:World) (vs:List PV) (r:AV) (us:List Value),(∀b o v,M.c b o=some v→w.cell? ⟨b,o,none⟩=some v)→(∀b o,M.b b=some o→w.heap[b]?=some o)→rD gl M→vs.length=us.length →
  (∀(j:Nat) (y:PV) (v:Value),vs[j]?=some y→us[j]?=some v→RPV M y v)→spec vs=some r →
  Calls P f us.toArray w fun e w'=>∃x,e = .returned x∧WExt w w'∧RAV (gG M w w') [] [] r x
abbrev UE:=List (Nat × (List PV→Option AV))
def NG:UE→Nat→List AV→aA→Option (AV × aA × Esc)
 | [],_,_,_=>none
 | (g,s)::r,f,asv,h=>bif Nat.beq f g then((unp asv).bind s).map fun v=>(v,h,[]) else NG r f asv h
theorem VW:∀ (gs:UE),(∀ g s,(g,s)∈gs→PureRow P gl g s)→∀ {f:Nat} {asv:List AV} {h:aA} {v:AV} {h':aA} {x:Esc},NG gs f asv h=some (v,h',x) →
 kC P gl f asv h fun v1 h1 x1=>v1=v∧h1=h'∧x1=x
 | [],_,f,asv,h,v,h',x,H=>by cases H
 | (g,s)::r,hg,f,asv,h,v,h',x,H=>by
  unfold NG at H;cases e1:Nat.beq f g with
  | false=>
   rw[e1]at H;exact VW r (fun g sh hm=>hg g sh (by simp [hm])) H
  | true=>
   rw[e1]at H;have e:=Nat.eq_of_beq_eq_true e1
   subst e;have R:=hg f s (by simp)
   simp only[cond_true]at H;obtain⟨y,hy,e2⟩:=Option.map_eq_some_iff.1 H;simp only[Prod.mk.injEq]at e2;obtain⟨rfl,rfl,rfl⟩:=e2;obtain⟨ps,hps,hs⟩:=Option.bind_eq_some_iff.1 hy;have hm:=zK hps
   subst hm;intro μ w vs Hh Hg hl hr;refine .inl ⟨R.enter _,?_⟩;refine(R.run (imm h μ w) w ps y vs (fun b o v hv=>(kD.1 hv).2) (fun b o hv=>(DG.1 hv).2) Hg (by simpa using hl) (fun j q v hq hv=>(hr j (.p q) v (by simp [hq]) hv).p_inv) hs).mono fun e w' he=>?_
   obtain⟨u,rfl,g1,g2⟩:=he;obtain⟨n1,n2⟩:=Hh.ext g1;have Lq:(gG (imm h μ w) w w').le (imm h μ w'):=by
    refine⟨fun b o v hv=>?_,fun b o hv=>?_,rfl,fun _ _ h=>by cases h⟩
    ·dsimp only[gG]at hv
     split at hv
     ·exact n2.le.c _ _ _ hv
     ·rename_i hb
      exact kD.2 ⟨fun hO=>hb (pV Hh hO),hv⟩
    ·dsimp only[gG]at hv
     cases hv
   exact⟨_,_,_,μ,⟨rfl,rfl,rfl⟩,g2.evo ⟨Lq,Nat.zero_le _,fun id o m h1=>by simp at h1⟩,n1,n2,oA.refl h []⟩
def lF (gs:List (Nat × Sh))(ps:UE)(f:Nat)(asv:List AV)(h:aA):Option (AV×aA×Esc):=match fJ gs f asv h with
 | some y=>some y
 | none=>match NG ps f asv h with
  | some y=>some y
  | none=>match qA h asv with
   | some (asv',h1)=>NG ps f asv' h1
   | none=>none
theorem zeB {ps:UE}(hp:∀ g s,(g,s)∈ps→PureRow P gl g s){f:Nat}{asv asv':List AV}{h h1:aA}{v:AV}{h':aA}{x:Esc}(hq:qA h asv=some (asv',h1))(H:NG ps f asv' h1=some (v,h',x)) :
 kC P gl f asv h fun v1 h2 x1=>v1=v∧h2=h'∧x1=x:=by
 intro μ w vs Hh Hg hl hr;obtain⟨q1,q2,q3⟩:=HQ asv Hh hl hr hq;rcases VW ps hp H μ w vs q1.1 (Hg.mono q1.2.1.le) q2 q3 with⟨k1,k2⟩|⟨r,w',v2,h2,x2,μ',k1,k2,k3,k4,k5,k6⟩
 ·refine .inl ⟨k1,k2.mono fun e w' he=>?_⟩
  cases e with
  | returned r=>
   obtain⟨v2,h2,x2,μ',k2,k3,k4,k5,k6⟩:=he;exact⟨v2,h2,x2,μ',k2,k3,k4,q1.2.1.trans k5,by simpa using q1.2.2.trans k6⟩
  | panicked _=>exact he
  | outgrown=>exact he
 ·exact .inr ⟨r,w',v2,h2,x2,μ',k1,k2,k3,k4,q1.2.1.trans k5,by simpa using q1.2.2.trans k6⟩
theorem libF_ok {gs:List (Nat × Sh)}{ps:UE}(hg:∀ g sh,(g,sh)∈gs→GrowRow P g sh)(hp:∀ g s,(g,s)∈ps→PureRow P gl g s){f:Nat}{asv:List AV}{h:aA}{v:AV}{h':aA}{x:Esc}(H:lF gs ps f asv h=some (v,h',x)) :
 kC P gl f asv h fun v1 h1 x1=>v1=v∧h1=h'∧x1=x:=by
 unfold lF at H;split at H
 ·rename_i y hy
  cases H;exact z10 gs hg hy
 ·split at H
  ·rename_i y hy
   cases H;exact VW ps hp hy
  ·split at H
   ·rename_i asv' h1 hq
    exact zeB hp hq H
   ·cases H
theorem fV {X:Ctx}{f:Nat}{asv:List AV}{h h':aA}{v:AV}{x:Esc}{K:kA}(hf:X.fn f=none)(hx:X.ex2 f asv h=some (v,h',x)):eA X f asv h K=K v h' x:=by
 refine propext (eA.eq (eA.fold ?_) K);unfold QB;simp only[hf,hx];exact⟨trivial,trivial,trivial⟩
def kP:List (Nat × Sh)→Nat→Option Sh
 | [],_=>none
 | (g,s)::r,f=>bif Nat.beq f g then some s else kP r f
theorem z1z:∀ {gs:List (Nat × Sh)} {f:Nat} {asv:List AV} {h:aA},kP gs f=none→fJ gs f asv h=none
 | [],f,asv,h,_=>rfl
 | (g,s)::r,f,asv,h,hm=>by
  unfold kP at hm;unfold fJ;cases hq:Nat.beq f g with
  | true=>rw[hq]at hm;cases hm
  | false=>rw[hq]at hm;exact z1z hm
def IQ:UE→Nat→Option (List PV→Option AV)
 | [],_=>none
 | (g,s)::r,f=>bif Nat.beq f g then some s else IQ r f
theorem z2s:∀ {gs:UE} {f:Nat} {s:List PV→Option AV} {asv:List AV} {h:aA},IQ gs f=some s→NG gs f asv h=((unp asv).bind s).map fun v=>(v,h,[])
 | [],f,s,asv,h,hm=>by cases hm
 | (g,s')::r,f,s,asv,h,hm=>by
  unfold IQ at hm;unfold NG;cases hq:Nat.beq f g with
  | true=>rw[hq]at hm;cases hm;rfl
  | false=>rw[hq]at hm;exact z2s hm
theorem z1C {gs:List (Nat × Sh)}{ps:UE}{f:Nat}{s:List PV→Option AV}{asv:List AV}{vs:List PV}{v:AV}{h:aA}(hg:kP gs f=none)(hm:IQ ps f=some s)(hu:unp asv=some vs)(hv:s vs=some v):lF gs ps f asv h=some (v,h,[]):=by
 unfold lF;rw[z1z hg,z2s hm,hu];simp [hv]
def glOf:List (Nat × PV)→Nat→Option PV
 | [],_=>none
 | (g,v)::r,n=>bif Nat.beq n g then some v else glOf r n
theorem zic {f:Nat}(h:(match P.funcs[f]? with | some fn=>fn.body.isSome&&fn.name != "runtime.NumGoroutine" | none=>false)=true)(us:Array Value)(w:World):(callFunc f us).run P w = .ok (.enter f us) w:=by
 cases hf:P.funcs[f]? with
 | none=>rw[hf]at h;cases h
 | some fn=>
  rw[hf]at h;simp only[Bool.and_eq_true,bne_iff_ne,ne_eq]at h;cases hb:fn.body with
  | none=>rw[hb]at h;cases h.1
  | some c=>exact FU hf hb h.2 us w
theorem zif {M:Mem}:rD (glOf []) M:=fun n v hv=>by cases hv
def oD (s:List UInt8):Nat→List UInt8
 | 0=>[]
 | c+1=>s++oD s c
def lK:List PV→Option AV
 | [.str s,.int .i64 c]=>if 0≤c∧s.length*c.toNat≤1000000∧c≤1000000 then some (.p (.str (oD s c.toNat))) else none
 | _=>none
def TM (s cs:List UInt8):List UInt8:=(s.reverse.dropWhile (cs.contains ·)).reverse.dropWhile (cs.contains ·)
def trimS:List PV→Option AV
 | [.str s,.str cs]=>if s.length≤1000000∧cs.length≤1000∧cs.all (fun b=>decide (b.toNat<128))=true then some (.p (.str (TM s cs))) else none
 | _=>none
end Go.Am
end
section
/- The abstract machine,part C: GB calls that say true,asv contracts. -/
set_option linter.all false
namespace Go.Am
variable {P:Program} {gl:Nat→Option PV}
def CX:List PV→Option AV
 | []=>some (AB true)
 | _=>none
theorem RPV.mono' {M M':Mem}(hM:∀ b o v,M.c b o=some v→M'.c b o=some v){v:PV}{x:Value}(H:RPV M v x):RPV M' v x:=by
 induction H with
 | int k n=>exact .int k n
 | bool b=>exact .bool b
 | str s=>exact .str s
 | nilp=>exact .nilp
 | unk k n=>exact .unk k n
 | nils sh a cap=>exact .nils sh a cap
 | sl sh xs b o cap f hne hc he hm hr ih=>exact .sl sh xs b o cap f hne hc he (fun j y hy=>hM _ _ _ (hm j y hy)) ih
 | agg cs vs hl hr ih=>exact .agg cs vs hl ih
theorem rD.mono' {M M':Mem}(hc:∀ b o v,M.c b o=some v→M'.c b o=some v)(hb:∀ b o,M.b b=some o→M'.b b=some o)(H:rD gl M):rD gl M':=fun n v hv=>by
 obtain⟨h1,cs,t,x,h2,h3⟩:=H n v hv;refine⟨?_,cs,t,x,hb _ _ h2,h3⟩;cases h1 with|vp _ _ _ f hm hr=>exact .vp v n 0 f (fun j y hy=>hc _ _ _ (hm j y hy)) (fun j y hy=>(hr j y hy).mono' hc)
theorem zig {X:Ctx}(HX:Fits P X){f:Nat}(H:eA X f [] [] fun v h x=>v=AB true∧h=[]∧x=[])(he:∀ us w,(callFunc f us).run P w = .ok (.enter f us) w):PureRow P X.gl f CX:=by
 refine⟨he,fun M w vs r us hc hb hG hl hr hs=>?_⟩
 cases vs with
 | cons a l=>cases hs
 | nil=>
  have hu:us=[]:=List.length_eq_zero_iff.1 (by simpa using hl.symm)
  subst hu;simp only[CX,Option.some.injEq]at hs;subst hs;have hno:∀b o,¬wF ([]:aA) ([]:Mu) b o:=fun b o ⟨id,n,h1,_⟩=>by simp at h1
  have hnt:∀b,¬mI ([]:Mu) b:=fun b ⟨id,n,h1⟩=>by simp at h1
  have hG':rD X.gl (imm [] [] w):=hG.mono' (fun b o v h=>kD.2 ⟨hno b o,hc b o v h⟩) (fun b o h=>DG.2 ⟨hnt b,hb b o h⟩)
  have hR:HeapRel [] [] w:=⟨rfl,fun id o m h1=>by simp at h1,fun i j b n n' h1=>by simp at h1,fun i b n h1=>by simp at h1⟩
  rcases RY HX H [] w [] hR hG' rfl (fun j y v h1=>by simp at h1) with⟨_,q⟩|⟨r,w',v,h',x,μ',q,_⟩
  ·refine q.mono fun e w' h=>?_
   cases e with
   | panicked _=>exact h.elim
   | outgrown=>exact h.elim
   | returned r=>
    obtain⟨v,h',x,μ',⟨rfl,rfl,rfl⟩,h1,h2,h3,h4⟩:=h;have hm:μ'=[]:=List.length_eq_zero_iff.1 (by simpa using h2.len)
    subst hm;have hbl:∀b o,w.heap[b]?=some o→w'.heap[b]?=some o:=fun b o h=>(DG.1 (h3.le.b b o (DG.2 ⟨hnt b,h⟩))).2
    refine⟨r,rfl,⟨?_,fun b hb=>?_,?_⟩,?_⟩
    ·rcases Nat.lt_or_ge w'.heap.size w.heap.size with q|q
     ·have:=hbl w'.heap.size _ (Array.getElem?_eq_getElem q)
      simp at this
     ·exact q
    ·rw[hbl b _ (Array.getElem?_eq_getElem hb),Array.getElem?_eq_getElem hb]
    ·have:=h3.le.z
     simpa [imm] using this
    ·have:=h1.p_bool
     rw[this];exact .p _ _ (.bool true)
  ·rw[he]at q
   cases q
end Go.Am
end
section
/- The functions together. -/
set_option linter.all false
set_option maxRecDepth 100000
namespace Go.Am
def fns:List (Nat × AFun):=[(cP,ZR),(yG,SR),(XI,IS),(vL,UR),(WI,GS),(RI,XR),(FE,PR),(zG,VR),(xG,OR),(QI,QR),(ZL,KS),(YL,JS),(KF,gN),(BL,dS),(uL,NR),(JF,fN),(GE,kN),(wL,WR),(aM,LS),(rH,MR),(EL,gS),(uH,iN),(vH,rN),(ZI,oN),(uG,YM),(AG,qS),(OL,sS),(JL,nS),(DL,fS),(gC,aN),(YI,jN),(cJ,tN),(xL,YR),(SD,ZM),(MF,nN),(HE,pN),(LF,mN),(PL,tS),(NL,rS),(RD,XM),(ML,pS),(vG,LR),(TI,jS),(HL,kS),(CL,eS),(bJ,sN),(aJ,qN),(UI,cN),(QL,uS),(VL,DS),(RL,vS),(zL,bS),(yL,aS),(LL,oS),(lE,aH),(IL,lS),(FL,iS),(sH,dN),(jF,nI),(WL,ES),(SL,xS),(tH,BS),(TL,yS),(VI,zS),(tL,KR),(UL,CS),(XL,FS),(ZO,HR),(aP,IR),(bP,JR)]
def GRL:List (Nat × Sh):=[]
def PRL:UE:=[(iF,lK),(KL,trimS),(SI,CX)]
def GLL:List (Nat × PV):=[]
def dM:List (Nat × AFun)→Nat→Option AFun
 | [],_=>none
 | (k,F)::r,n=>bif Nat.beq k n then some F else dM r n
def X:Ctx:=⟨dM fns,glOf GLL,PI tG YO,lF GRL PRL⟩
theorem z0W {p:Nat→AFun→Bool}:∀(l:List (Nat×AFun)),(l.all fun y=>p y.1 y.2)=true→∀n F,dM l n=some F→p n F=true
 | [],_,n,F,h=>by cases h
 | (k,G)::r,ha,n,F,h=>by
  simp only[List.all_cons,Bool.and_eq_true]at ha;simp only[dM]at h;cases hk:Nat.beq k n with
  | true=>
   rw[hk]at h;have:=Nat.eq_of_beq_eq_true hk;simp only[cond_true,Option.some.injEq]at h;subst this;subst h;exact ha.1
  | false=>
   rw[hk]at h;exact z0W r ha.2 n F h
def fns0:List (Nat × AFun):=[(SI,z4X),(KF,gN),(z0K,z5v),(JF,fN),(GE,kN),(z0m,z4K),(z0u,z4S),(z06,z5g),(uH,iN),(vH,rN),(ZI,oN),(uG,YM),(gC,aN),(YI,jN),(cJ,tN),(z0l,z4J),(z0x,z4V),(z0w,z4U),(OU,z4B),(z0A,z5k),(SD,ZM),(z0F,z5q),(z0I,z5t),(MF,nN),(HE,pN),(LF,mN),(RD,XM),(z00,z4Z),(bJ,sN),(aJ,qN),(z0n,z4L),(z0p,z4N),(z0s,z4Q),(z0r,z4P),(z0q,z4O),(z0z,z4Y),(z0y,z4W),(z0v,z4T),(z0h,z4C),(z05,z5f),(z04,z5e),(z0G,z5r),(z08,z5i),(z0E,z5p),(UI,cN),(lE,aH),(z03,z5c),(z0k,z4I),(z0j,z4H),(z02,z5b),(z01,z5a),(z09,z5j),(z07,z5h),(z0H,z5s),(PU,z4D),(z0D,z5o),(z0C,z5m),(TU,z5n),(sH,dN),(jF,nI),(z0o,z4M),(SU,z5d),(z0i,z4F),(QU,z4E),(z0J,z5u),(z0B,z5l),(RU,z4G),(z0t,z4R)]
def PRL0:UE:=[(iF,lK),(KL,trimS)]
def X0:Ctx:=⟨dM fns0,glOf GLL,PI tG YO,lF GRL PRL0⟩
theorem zgX:X0.fn jF=some nI:=by kernel_rfl
theorem zgW:X0.fn lE=some aH:=by kernel_rfl
theorem jY:X.NoNext:=fun f F h=>z0W (p:=fun _ F=>F.isDet||F.body.noNext) fns (by kernel_rfl) f F h
theorem zhs:X.fn cP=some ZR:=by kernel_rfl
theorem z65 {u0 v0:AV}{h h1:aA}{P:kA}(hp:qA h [u0]=some ([v0],h1)):eA X cP [u0] h P=(WN (eA X) X.gl [(0,v0)] h1 [] (sA [.t 2] false h.length P)).1:=by rw[BA zhs rfl hp rfl];exact z8L
theorem zhm:X.fn yG=some SR:=by kernel_rfl
theorem z6z {u0 u1 u2 v0 v1 v2:AV}{h h1:aA}{P:kA}(hp:qA h [u0,u1,u2]=some ([v0,v1,v2],h1)):eA X yG [u0,u1,u2] h P=(RN (eA X) X.gl [(0,v0),(1,v1),(2,v2)] h1 [] (sA [.t 6] false h.length P)).1:=by rw[BA zhm rfl hp rfl];exact z89
theorem z4d:X.fn XI=some IS:=by kernel_rfl
theorem z7b {u0 u1 v0 v1:AV}{h h1:aA}{P:kA}(hp:qA h [u0,u1]=some ([v0,v1],h1)):eA X XI [u0,u1] h P=(aL (eA X) X.gl [(0,v0),(1,v1)] h1 [] (sA [.t 4,.t 5] false h.length P)).1:=by rw[BA z4d rfl hp rfl];exact z9A
theorem zhn:X.fn vL=some UR:=by kernel_rfl
theorem z60 {u0 v0:AV}{h h1:aA}{P:kA}(hp:qA h [u0]=some ([v0],h1)):eA X vL [u0] h P=(SN (eA X) X.gl [(0,v0)] h1 [] (sA [.t 2] false h.length P)).1:=by rw[BA zhn rfl hp rfl];exact z8A
theorem z4c:X.fn WI=some GS:=by kernel_rfl
theorem z6Z {u0 v0:AV}{h h1:aA}{P:kA}(hp:qA h [u0]=some ([v0],h1)):eA X WI [u0] h P=(YK (eA X) X.gl [(0,v0)] h1 [] (sA [.t 2,.t 3,.t 4] false h.length P)).1:=by rw[BA z4c rfl hp rfl];exact z96
theorem zhq:X.fn RI=some XR:=by kernel_rfl
theorem z63 {u0 v0:AV}{h h1:aA}{P:kA}(hp:qA h [u0]=some ([v0],h1)):eA X RI [u0] h P=(BI (eA X) X.gl [(0,v0)] h1 [] (sA [.t 2] false h.length P)).1:=by rw[BA zhq rfl hp rfl];exact z8F
theorem zhk:X.fn FE=some PR:=by kernel_rfl
theorem z6x {u0 u1 v0 v1:AV}{h h1:aA}{P:kA}(hp:qA h [u0,u1]=some ([v0,v1],h1)):eA X FE [u0,u1] h P=(OK (eA X) X.gl [(0,v0),(1,v1)] h1 [] (sA [.t 4] false h.length P)).1:=by rw[BA zhk rfl hp rfl];exact z87
theorem zho:X.fn zG=some VR:=by kernel_rfl
theorem z61 {u0 u1 v0 v1:AV}{h h1:aA}{P:kA}(hp:qA h [u0,u1]=some ([v0,v1],h1)):eA X zG [u0,u1] h P=(TN (eA X) X.gl [(0,v0),(1,v1)] h1 [] (sA [.t 4] false h.length P)).1:=by rw[BA zho rfl hp rfl];exact z8D
theorem zhj:X.fn xG=some OR:=by kernel_rfl
theorem z6w {u0 u1 v0 v1:AV}{h h1:aA}{P:kA}(hp:qA h [u0,u1]=some ([v0,v1],h1)):eA X xG [u0,u1] h P=(PN (eA X) X.gl [(0,v0),(1,v1)] h1 [] (sA [.t 4] false h.length P)).1:=by rw[BA zhj rfl hp rfl];exact z86
theorem zhl:X.fn QI=some QR:=by kernel_rfl
theorem z6y {u0 u1 v0 v1:AV}{h h1:aA}{P:kA}(hp:qA h [u0,u1]=some ([v0,v1],h1)):eA X QI [u0,u1] h P=(QN (eA X) X.gl [(0,v0),(1,v1)] h1 [] (sA [.t 4] false h.length P)).1:=by rw[BA zhl rfl hp rfl];exact z88
theorem zhS:X.fn ZL=some KS:=by kernel_rfl
theorem z7g {u0 u1 v0 v1:AV}{h h1:aA}{P:kA}(hp:qA h [u0,u1]=some ([v0,v1],h1)):eA X ZL [u0,u1] h P=(GO (eA X) X.gl [(0,v0),(1,v1)] h1 [] (sA [.t 4] false h.length P)).1:=by rw[BA zhS rfl hp rfl];exact z9J
theorem zhR:X.fn YL=some JS:=by kernel_rfl
theorem z7f {u0 u1 v0 v1:AV}{h h1:aA}{P:kA}(hp:qA h [u0,u1]=some ([v0,v1],h1)):eA X YL [u0,u1] h P=(EO (eA X) X.gl [(0,v0),(1,v1)] h1 [] (sA [.t 4] false h.length P)).1:=by rw[BA zhR rfl hp rfl];exact z9I
theorem zhN:X.fn KF=some gN:=by kernel_rfl
theorem z7c {u0 v0:AV}{h h1:aA}{P:kA}(hp:qA h [u0]=some ([v0],h1)):eA X KF [u0] h P=(KI (eA X) X.gl [(0,v0)] h1 [] (sA [.t 2] false h.length P)).1:=by rw[BA zhN rfl hp rfl];exact z9B
theorem zhv:X.fn BL=some dS:=by kernel_rfl
theorem z68 {u0 u1 h P}:eA X BL [u0,u1] h P=(ZN (eA X) X.gl [(0,u0),(1,u1)] h [] (sA [.t 4] false h.length P)).1:=by rw[sI zhv rfl rfl];exact z8O
theorem zhi:X.fn uL=some NR:=by kernel_rfl
theorem z6v {u0 v0:AV}{h h1:aA}{P:kA}(hp:qA h [u0]=some ([v0],h1)):eA X uL [u0] h P=(ON (eA X) X.gl [(0,v0)] h1 [] (sA [.t 2] false h.length P)).1:=by rw[BA zhi rfl hp rfl];exact z8y
theorem zhM:X.fn JF=some fN:=by kernel_rfl
theorem z7a {u0 v0:AV}{h h1:aA}{P:kA}(hp:qA h [u0]=some ([v0],h1)):eA X JF [u0] h P=(ZK (eA X) X.gl [(0,v0)] h1 [] (sA [.t 2] false h.length P)).1:=by rw[BA zhM rfl hp rfl];exact z97
theorem zhQ:X.fn GE=some kN:=by kernel_rfl
theorem PY {u0 u1 v0 v1:AV}{h h1:aA}{P:kA}(hp:qA h [u0,u1]=some ([v0,v1],h1)):eA X GE [u0,u1] h P=(bL (eA X) X.gl [(0,v0),(1,v1)] h1 [] (sA [.t 4] false h.length P)).1:=by rw[BA zhQ rfl hp rfl];exact z9F
theorem zhp:X.fn wL=some WR:=by kernel_rfl
theorem z62 {u0 v0:AV}{h h1:aA}{P:kA}(hp:qA h [u0]=some ([v0],h1)):eA X wL [u0] h P=(UN (eA X) X.gl [(0,v0)] h1 [] (sA [.t 2] false h.length P)).1:=by rw[BA zhp rfl hp rfl];exact z8E
theorem zhZ:X.fn aM=some LS:=by kernel_rfl
theorem z7m {u0 v0:AV}{h h1:aA}{P:kA}(hp:qA h [u0]=some ([v0],h1)):eA X aM [u0] h P=(JO (eA X) X.gl [(0,v0)] h1 [] (sA [.t 2] false h.length P)).1:=by rw[BA zhZ rfl hp rfl];exact zab
theorem zhh:X.fn rH=some MR:=by kernel_rfl
theorem z6u {u0 u1 v0 v1:AV}{h h1:aA}{P:kA}(hp:qA h [u0,u1]=some ([v0,v1],h1)):eA X rH [u0,u1] h P=(NN (eA X) X.gl [(0,v0),(1,v1)] h1 [] (sA [.t 4] false h.length P)).1:=by rw[BA zhh rfl hp rfl];exact z8w
theorem zhy:X.fn EL=some gS:=by kernel_rfl
theorem z6B {u0 u1 h P}:eA X EL [u0,u1] h P=(cO (eA X) X.gl [(0,u0),(1,u1)] h [] (sA [.t 4] false h.length P)).1:=by rw[sI zhy rfl rfl];exact z8R
theorem zhO:X.fn uH=some iN:=by kernel_rfl
theorem z7d {u0 v0:AV}{h h1:aA}{P:kA}(hp:qA h [u0]=some ([v0],h1)):eA X uH [u0] h P=(LI (eA X) X.gl [(0,v0)] h1 [] (sA [.t 2] false h.length P)).1:=by rw[BA zhO rfl hp rfl];exact z9C
theorem zhY:X.fn vH=some rN:=by kernel_rfl
theorem z7l {u0 u1 v0 v1:AV}{h h1:aA}{P:kA}(hp:qA h [u0,u1]=some ([v0,v1],h1)):eA X vH [u0,u1] h P=(FF (eA X) X.gl [(0,v0),(1,v1)] h1 [] (sA [.t 4] false h.length P)).1:=by rw[BA zhY rfl hp rfl];exact zaa
theorem zhV:X.fn ZI=some oN:=by kernel_rfl
theorem z7i {u0 u1 v0 v1:AV}{h h1:aA}{P:kA}(hp:qA h [u0,u1]=some ([v0,v1],h1)):eA X ZI [u0,u1] h P=PD (eA X) X.gl JH xM v0 v1 h1 [] (sA [] false h.length P):=by rw[BA zhV rfl hp rfl];exact z9T
theorem zgZ:X.fn uG=some YM:=by kernel_rfl
theorem z6q {u0 v0:AV}{h h1:aA}{P:kA}(hp:qA h [u0]=some ([v0],h1)):eA X uG [u0] h P=(KN (eA X) X.gl [(0,v0)] h1 [] (sA [.t 2] false h.length P)).1:=by rw[BA zgZ rfl hp rfl];exact z7X
theorem zh6:X.fn AG=some qS:=by kernel_rfl
theorem z6J {u0 v0:AV}{h h1:aA}{P:kA}(hp:qA h [u0]=some ([v0],h1)):eA X AG [u0] h P=(EI (eA X) X.gl [(0,v0)] h1 [] (sA [.t 2] false h.length P)).1:=by rw[BA zh6 rfl hp rfl];exact z9g
theorem zh9:X.fn OL=some sS:=by kernel_rfl
theorem z6M {u0 u1 u2 v0 v1 v2:AV}{h h1:aA}{P:kA}(hp:qA h [u0,u1,u2]=some ([v0,v1,v2],h1)):eA X OL [u0,u1,u2] h P=(pO (eA X) X.gl [(0,v0),(1,v1),(2,v2)] h1 [] (sA [.t 6,.t 7] false h.length P)).1:=by rw[BA zh9 rfl hp rfl];exact z9j
theorem zh3:X.fn JL=some nS:=by kernel_rfl
theorem z6G {u0 u1 v0 v1:AV}{h h1:aA}{P:kA}(hp:qA h [u0,u1]=some ([v0,v1],h1)):eA X JL [u0,u1] h P=(jO (eA X) X.gl [(0,v0),(1,v1)] h1 [] (sA [.t 4] false h.length P)).1:=by rw[BA zh3 rfl hp rfl];exact z9c
theorem zhx:X.fn DL=some fS:=by kernel_rfl
theorem z6A {u0 u1 h P}:eA X DL [u0,u1] h P=(bO (eA X) X.gl [(0,u0),(1,u1)] h [] (sA [.t 4] false h.length P)).1:=by rw[sI zhx rfl rfl];exact z8Q
theorem zhb:X.fn gC=some aN:=by kernel_rfl
theorem z6s {u0 u1 u2 v0 v1 v2:AV}{h h1:aA}{P:kA}(hp:qA h [u0,u1,u2]=some ([v0,v1,v2],h1)):eA X gC [u0,u1,u2] h P=(LN (eA X) X.gl [(0,v0),(1,v1),(2,v2)] h1 [] (sA [.t 6] false h.length P)).1:=by rw[BA zhb rfl hp rfl];exact z8d
theorem zhP:X.fn YI=some jN:=by kernel_rfl
theorem z7e {u0 v0:AV}{h h1:aA}{P:kA}(hp:qA h [u0]=some ([v0],h1)):eA X YI [u0] h P=(xD (eA X) X.gl [(0,v0)] h1 [] (sA [.cell 2 (some 6),.t 3] false h.length P)).1:=by rw[BA zhP rfl hp rfl];exact z9D
theorem zib:X.fn cJ=some tN:=by kernel_rfl
theorem z7o {h h1:aA}{P:kA}(hp:qA h []=some ([],h1)):eA X cJ [] h P=(KO (eA X) X.gl [] h1 [] (sA [.cell 0 (some 36)] false h.length P)).1:=by rw[BA zib rfl hp rfl];exact zad
theorem zhr:X.fn xL=some YR:=by kernel_rfl
theorem z64 {u0 u1 v0 v1:AV}{h h1:aA}{P:kA}(hp:qA h [u0,u1]=some ([v0,v1],h1)):eA X xL [u0,u1] h P=(VN (eA X) X.gl [(0,v0),(1,v1)] h1 [] (sA [.t 4] false h.length P)).1:=by rw[BA zhr rfl hp rfl];exact z8I
theorem zha:X.fn SD=some ZM:=by kernel_rfl
theorem z6r {u0 v0:AV}{h h1:aA}{P:kA}(hp:qA h [u0]=some ([v0],h1)):eA X SD [u0] h P=(nG (eA X) X.gl [(0,v0)] h1 [] (sA [.t 2] false h.length P)).1:=by rw[BA zha rfl hp rfl];exact z8a
theorem zhU:X.fn MF=some nN:=by kernel_rfl
theorem QY {u0 u1 v0 v1:AV}{h h1:aA}{P:kA}(hp:qA h [u0,u1]=some ([v0,v1],h1)):eA X MF [u0,u1] h P=(gL (eA X) X.gl [(0,v0),(1,v1)] h1 [] (sA [.t 4] false h.length P)).1:=by rw[BA zhU rfl hp rfl];exact z9L
theorem zhW:X.fn HE=some pN:=by kernel_rfl
theorem z7j {u0 u1 v0 v1:AV}{h h1:aA}{P:kA}(hp:qA h [u0,u1]=some ([v0,v1],h1)):eA X HE [u0,u1] h P=(HO (eA X) X.gl [(0,v0),(1,v1)] h1 [] (sA [] false h.length P)).1:=by rw[BA zhW rfl hp rfl];exact z9W
theorem zhT:X.fn LF=some mN:=by kernel_rfl
theorem z7h {u0 u1 u2 u3 v0 v1 v2 v3:AV}{h h1:aA}{P:kA}(hp:qA h [u0,u1,u2,u3]=some ([v0,v1,v2,v3],h1)):eA X LF [u0,u1,u2,u3] h P=(fL (eA X) X.gl [(0,v0),(1,v1),(2,v2),(3,v3)] h1 [] (sA [] false h.length P)).1:=by rw[BA zhT rfl hp rfl];exact z9K
theorem zhA:X.fn PL=some tS:=by kernel_rfl
theorem z6N {u0 u1 v0 v1:AV}{h h1:aA}{P:kA}(hp:qA h [u0,u1]=some ([v0,v1],h1)):eA X PL [u0,u1] h P=(wD (eA X) X.gl [(0,v0),(1,v1)] h1 [] (sA [.t 4] false h.length P)).1:=by rw[BA zhA rfl hp rfl];exact z9m
theorem zh7:X.fn NL=some rS:=by kernel_rfl
theorem z6K {u0 v0:AV}{h h1:aA}{P:kA}(hp:qA h [u0]=some ([v0],h1)):eA X NL [u0] h P=(nO (eA X) X.gl [(0,v0)] h1 [] (sA [.t 2,.t 3] false h.length P)).1:=by rw[BA zh7 rfl hp rfl];exact z9h
theorem zgY:X.fn RD=some XM:=by kernel_rfl
theorem z6p {u0 v0:AV}{h h1:aA}{P:kA}(hp:qA h [u0]=some ([v0],h1)):eA X RD [u0] h P=(JN (eA X) X.gl [(0,v0)] h1 [] (sA [.t 2] false h.length P)).1:=by rw[BA zgY rfl hp rfl];exact z7W
theorem zh5:X.fn ML=some pS:=by kernel_rfl
theorem z6I {u0 u1 u2 v0 v1 v2:AV}{h h1:aA}{P:kA}(hp:qA h [u0,u1,u2]=some ([v0,v1,v2],h1)):eA X ML [u0,u1,u2] h P=(lO (eA X) X.gl [(0,v0),(1,v1),(2,v2)] h1 [] (sA [.t 6] false h.length P)).1:=by rw[BA zh5 rfl hp rfl];exact z9e
theorem zhg:X.fn vG=some LR:=by kernel_rfl
theorem OY {u0 u1 v0 v1:AV}{h h1:aA}{P:kA}(hp:qA h [u0,u1]=some ([v0,v1],h1)):eA X vG [u0,u1] h P=(NK (eA X) X.gl [(0,v0),(1,v1)] h1 [] (sA [.t 4] false h.length P)).1:=by rw[BA zhg rfl hp rfl];exact z8v
theorem zh0:X.fn TI=some jS:=by kernel_rfl
theorem z6D {u0 u1 h P}:eA X TI [u0,u1] h P=(eO (eA X) X.gl [(0,u0),(1,u1)] h [] (sA [.t 4] false h.length P)).1:=by rw[sI zh0 rfl rfl];exact z8X
theorem zh1:X.fn HL=some kS:=by kernel_rfl
theorem z6E {u0 u1 v0 v1:AV}{h h1:aA}{P:kA}(hp:qA h [u0,u1]=some ([v0,v1],h1)):eA X HL [u0,u1] h P=(fO (eA X) X.gl [(0,v0),(1,v1)] h1 [] (sA [.t 4] false h.length P)).1:=by rw[BA zh1 rfl hp rfl];exact z9a
theorem zhw:X.fn CL=some eS:=by kernel_rfl
theorem z69 {u0 u1 h P}:eA X CL [u0,u1] h P=(aO (eA X) X.gl [(0,u0),(1,u1)] h [] (sA [.t 4] false h.length P)).1:=by rw[sI zhw rfl rfl];exact z8P
theorem zia:X.fn bJ=some sN:=by kernel_rfl
theorem z7n {u0 v0:AV}{h h1:aA}{P:kA}(hp:qA h [u0]=some ([v0],h1)):eA X bJ [u0] h P=(pG (eA X) X.gl [(0,v0)] h1 [] (sA [.t 2] false h.length P)).1:=by rw[BA zia rfl hp rfl];exact zac
theorem zhX:X.fn aJ=some qN:=by kernel_rfl
theorem z7k {u0 v0:AV}{h h1:aA}{P:kA}(hp:qA h [u0]=some ([v0],h1)):eA X aJ [u0] h P=(yD (eA X) X.gl [(0,v0)] h1 [] (sA [.t 2] false h.length P)).1:=by rw[BA zhX rfl hp rfl];exact z9Z
theorem zh8:X.fn UI=some cN:=by kernel_rfl
theorem z6L {u0 u1 v0 v1:AV}{h h1:aA}{P:kA}(hp:qA h [u0,u1]=some ([v0,v1],h1)):eA X UI [u0,u1] h P=(oO (eA X) X.gl [(0,v0),(1,v1)] h1 [] (sA [.t 4,.t 5] false h.length P)).1:=by rw[BA zh8 rfl hp rfl];exact z9i
theorem zhB:X.fn QL=some uS:=by kernel_rfl
theorem z6O {u0 u1 v0 v1:AV}{h h1:aA}{P:kA}(hp:qA h [u0,u1]=some ([v0,v1],h1)):eA X QL [u0,u1] h P=(qO (eA X) X.gl [(0,v0),(1,v1)] h1 [] (sA [.t 3] false h.length P)).1:=by rw[BA zhB rfl hp rfl];exact z9n
theorem zhJ:X.fn VL=some DS:=by kernel_rfl
theorem z6W {u0 v0:AV}{h h1:aA}{P:kA}(hp:qA h [u0]=some ([v0],h1)):eA X VL [u0] h P=(zO (eA X) X.gl [(0,v0)] h1 [] (sA [.t 2] false h.length P)).1:=by rw[BA zhJ rfl hp rfl];exact z91
theorem zhC:X.fn RL=some vS:=by kernel_rfl
theorem z6P {u0 v0:AV}{h h1:aA}{P:kA}(hp:qA h [u0]=some ([v0],h1)):eA X RL [u0] h P=(rO (eA X) X.gl [(0,v0)] h1 [] (sA [.t 2] false h.length P)).1:=by rw[BA zhC rfl hp rfl];exact z9o
theorem zhu:X.fn zL=some bS:=by kernel_rfl
theorem z67 {u0 v0:AV}{h h1:aA}{P:kA}(hp:qA h [u0]=some ([v0],h1)):eA X zL [u0] h P = ∃v h' x,P v h' x∧(YN (eA X) X.gl [(0,v0)] h1 [] (sA [.t 2] false h.length fun v1 h1 x1=>v1=v∧h1=h'∧x1=x)).1:=by rw[tI zhu rfl hp rfl];exact NU fun v h' x=>congrArg (And (P v h' x)) z8N
theorem zht:X.fn yL=some aS:=by kernel_rfl
theorem z66 {u0 v0:AV}{h h1:aA}{P:kA}(hp:qA h [u0]=some ([v0],h1)):eA X yL [u0] h P = ∃v h' x,P v h' x∧(XN (eA X) X.gl [(0,v0)] h1 [] (sA [.t 2] false h.length fun v1 h1 x1=>v1=v∧h1=h'∧x1=x)).1:=by rw[tI zht rfl hp rfl];exact NU fun v h' x=>congrArg (And (P v h' x)) z8M
theorem zh4:X.fn LL=some oS:=by kernel_rfl
theorem z6H {u0 u1 u2 v0 v1 v2:AV}{h h1:aA}{P:kA}(hp:qA h [u0,u1,u2]=some ([v0,v1,v2],h1)):eA X LL [u0,u1,u2] h P=(OD (eA X) X.gl [(0,v0),(1,v1),(2,v2)] h1 [] (sA [.t 6] false h.length P)).1:=by rw[BA zh4 rfl hp rfl];exact z9d
theorem z4a:X.fn lE=some aH:=by kernel_rfl
theorem c_q0ef {u0 u1 v0 v1:AV}{h h1:aA}{P:kA}(hp:qA h [u0,u1]=some ([v0,v1],h1)):eA X lE [u0,u1] h P=xO (eA X) X.gl v0 v1 h1 [] (sA [.t 4] false h.length P):=by rw[BA z4a rfl hp rfl];exact MZ
theorem zh2:X.fn IL=some lS:=by kernel_rfl
theorem z6F {u0 u1 v0 v1:AV}{h h1:aA}{P:kA}(hp:qA h [u0,u1]=some ([v0,v1],h1)):eA X IL [u0,u1] h P=(iO (eA X) X.gl [(0,v0),(1,v1)] h1 [] (sA [.t 4] false h.length P)).1:=by rw[BA zh2 rfl hp rfl];exact z9b
theorem zhz:X.fn FL=some iS:=by kernel_rfl
theorem z6C {u0 u1 h P}:eA X FL [u0,u1] h P=(dO (eA X) X.gl [(0,u0),(1,u1)] h [] (sA [.t 4] false h.length P)).1:=by rw[sI zhz rfl rfl];exact z8U
theorem zhE:X.fn sH=some dN:=by kernel_rfl
theorem z6R {u0 v0:AV}{h h1:aA}{P:kA}(hp:qA h [u0]=some ([v0],h1)):eA X sH [u0] h P=(vO (eA X) X.gl [(0,v0)] h1 [] (sA [.t 2] false h.length P)).1:=by rw[BA zhE rfl hp rfl];exact z9q
theorem z4b:X.fn jF=some nI:=by kernel_rfl
theorem c_q0eg {u0 u1 v0 v1:AV}{h h1:aA}{P:kA}(hp:qA h [u0,u1]=some ([v0,v1],h1)):eA X jF [u0,u1] h P = ∃v h' x,P v h' x∧WK (eA X) X.gl OJ lQ v0 v1 h1 [] (sA [.t 4] false h.length fun v1 h1 x1=>v1=v∧h1=h'∧x1=x):=by rw[tI z4b rfl hp rfl];exact NU fun v h' x=>congrArg (And (P v h' x)) NZ
theorem zhK:X.fn WL=some ES:=by kernel_rfl
theorem z6X {u0 u1 v0 v1:AV}{h h1:aA}{P:kA}(hp:qA h [u0,u1]=some ([v0,v1],h1)):eA X WL [u0,u1] h P=(CO (eA X) X.gl [(0,v0),(1,v1)] h1 [] (sA [.t 3] false h.length P)).1:=by rw[BA zhK rfl hp rfl];exact z92
theorem zhD:X.fn SL=some xS:=by kernel_rfl
theorem z6Q {u0 u1 v0 v1:AV}{h h1:aA}{P:kA}(hp:qA h [u0,u1]=some ([v0,v1],h1)):eA X SL [u0,u1] h P=(tO (eA X) X.gl [(0,v0),(1,v1)] h1 [] (sA [.t 3] false h.length P)).1:=by rw[BA zhD rfl hp rfl];exact z9p
theorem zhH:X.fn tH=some BS:=by kernel_rfl
theorem z6U {u0 u1 v0 v1:AV}{h h1:aA}{P:kA}(hp:qA h [u0,u1]=some ([v0,v1],h1)):eA X tH [u0,u1] h P=(EF (eA X) X.gl [(0,v0),(1,v1)] h1 [] (sA [.cell 4 (some 2),.t 5] false h.length P)).1:=by rw[BA zhH rfl hp rfl];exact z9z
theorem zhF:X.fn TL=some yS:=by kernel_rfl
theorem z6S {u0 v0:AV}{h h1:aA}{P:kA}(hp:qA h [u0]=some ([v0],h1)):eA X TL [u0] h P=(II (eA X) X.gl [(0,v0)] h1 [] (sA [.t 2] false h.length P)).1:=by rw[BA zhF rfl hp rfl];exact z9v
theorem zhG:X.fn VI=some zS:=by kernel_rfl
theorem z6T {u0 v0:AV}{h h1:aA}{P:kA}(hp:qA h [u0]=some ([v0],h1)):eA X VI [u0] h P=(JI (eA X) X.gl [(0,v0)] h1 [] (sA [.cell 2 (some 2)] false h.length P)).1:=by rw[BA zhG rfl hp rfl];exact z9y
theorem zhf:X.fn tL=some KR:=by kernel_rfl
theorem z6t {u0 u1 v0 v1:AV}{h h1:aA}{P:kA}(hp:qA h [u0,u1]=some ([v0,v1],h1)):eA X tL [u0,u1] h P=(MN (eA X) X.gl [(0,v0),(1,v1)] h1 [] (sA [.t 4] false h.length P)).1:=by rw[BA zhf rfl hp rfl];exact z8r
theorem zhI:X.fn UL=some CS:=by kernel_rfl
theorem z6V {u0 u1 v0 v1:AV}{h h1:aA}{P:kA}(hp:qA h [u0,u1]=some ([v0,v1],h1)):eA X UL [u0,u1] h P=(yO (eA X) X.gl [(0,v0),(1,v1)] h1 [] (sA [.t 3] false h.length P)).1:=by rw[BA zhI rfl hp rfl];exact z90
theorem zhL:X.fn XL=some FS:=by kernel_rfl
theorem z6Y {u0 u1 v0 v1:AV}{h h1:aA}{P:kA}(hp:qA h [u0,u1]=some ([v0,v1],h1)):eA X XL [u0,u1] h P=(DO (eA X) X.gl [(0,v0),(1,v1)] h1 [] (sA [.cell 4 (some 2)] false h.length P)).1:=by rw[BA zhL rfl hp rfl];exact z93
theorem zhc:X.fn ZO=some HR:=by kernel_rfl
theorem c_q06a {u0 v0:AV}{h h1:aA}{P:kA}(hp:qA h [u0]=some ([v0],h1)):eA X ZO [u0] h P=(fT (eA X) X.gl [(0,v0)] h1 [] (sA [.t 2] false h.length P)).1:=by rw[BA zhc rfl hp rfl];exact z8e
theorem zhd:X.fn aP=some IR:=by kernel_rfl
theorem c_q06b {u0 u1 v0 v1:AV}{h h1:aA}{P:kA}(hp:qA h [u0,u1]=some ([v0,v1],h1)):eA X aP [u0,u1] h P=(gT (eA X) X.gl [(0,v0),(1,v1)] h1 [] (sA [.t 4] false h.length P)).1:=by rw[BA zhd rfl hp rfl];exact z8f
theorem zhe:X.fn bP=some JR:=by kernel_rfl
theorem c_q06c {u0 v0:AV}{h h1:aA}{P:kA}(hp:qA h [u0]=some ([v0],h1)):eA X bP [u0] h P=(nT (eA X) X.gl [(0,v0)] h1 [] (sA [.t 2,.t 3] false h.length P)).1:=by rw[BA zhe rfl hp rfl];exact z8k
attribute [go_sem] NO tU uU OO kL vU wU zbu zbv zbw CI PK QK DI oH RK SK z8B z8C zbr HT IT z8G z8H zbs JT LT DU EU SO PZ zbD dL eL MI FO z8z z80 z81 z82
attribute [go_sem] z83 z84 z85 zbo zbp zbq AT BT CT DT ET FT GT z98 z99 zbB dU eU z9G z9H zbC gU iU z8x zT z8S z8T zbx OT PT z9U z9V zbF qZ iL z7Y z7Z zbh YS ZS
attribute [go_sem] PO KZ zb1 FI mO z9k RO z9l zb4 VT HI WT z9E fU z8J z8K zbt MT NT z8b z8c zbi aT bT z9M z9N z9O z9P z9Q z9R z9S zbE jU kU lU mU nU oU pU z9X
attribute [go_sem] z9Y zbG qU rU nL zU AU QO BU zb2 zb3 oG TK UK GI VK z9f lL mL zb0 UT pH qH z8Y z8Z zbz ST TT rG OZ zb9 eF BO qG LZ zb5 bF sO xU yU
attribute [go_sem] kE vD z8V z8W zby QT RT z9r z9s z9t z9u zb6 zb7 oZ XT YT pZ z9w z9x zb8 ZT aU z8s z8t z8u zbn vT xT yT z94 z95 CU zbA bU cU XK z8g z8h z8i z8j
attribute [go_sem] zbj zbk iT jT kT mT z8l z8m z8n z8o z8p z8q zbl zbm oT pT qT rT tT uT
end Go.Am
end
section
/- The stream of numbers out of which the laws draw. -/
open Go
namespace Go.Am
abbrev eI (n:Int):PV:=.int .i64 n
abbrev AL (l:List Int):AV:=.p (.sl none (l.map eI))
abbrev MA (L:List Int)(a:Int):Obj:=.box [AL L,AI a]
def iG (x n:Int):Int:=if n<1 then 0 else if x.tmod n<0 then IntKind.i64.wrap (x.tmod n+n) else x.tmod n
theorem z2R (x n:Int)(h:aA)(K:kA):eA X rH [AI x,AI n] h K=K (AI (iG x n)) h []:=by
 refine CA ?_;rw[z6u rfl];simp only[NN,go_sem];unfold iG;by_cases h1:n<1
 ·simp only[h1,if_true]
 ·simp only[h1,if_false,show ¬n=0 by omega]
  split <;> rfl
theorem z5P (x n:Int)(h1:1≤n)(h2:n≤4611686018427387904):0≤iG x n∧iG x n<n:=by
 unfold iG;rw[if_neg (by omega)]
 have:=Int.tmod_lt_of_pos x (show 0<n by omega)
 have h3 : -n<x.tmod n:=by
  have:=Int.lt_tmod_of_pos x (show 0<n by omega)
  exact this
 split
 ·rw[GA _ (by omega) (by omega)];omega
 ·omega
def LB (L:List Int)(a n:Int):Int:=
 if L.length=0 then iG (IntKind.i64.wrap ((a+1)*7919)) n
 else iG (IntKind.i64.wrap (iG (L.getD (a.tmod L.length).toNat 0) 1073741824+IntKind.i64.wrap (IntKind.i64.wrap (a.tdiv L.length)*IntKind.i64.wrap (7919+a.tmod L.length)))) n
theorem jJ (L:List Int)(a n:Int)(h1:1≤n)(h2:n≤4611686018427387904):0≤LB L a n∧LB L a n<n:=by
 unfold LB;split <;> exact z5P _ _ h1 h2
theorem LM {h:aA}{id:Nat}{o':Obj}(hid:id<h.length):(h.set id o')[id]?=some o':=by simp [hid]
theorem iP {h:aA}{id:Nat}{o:Obj}(hh:h[id]?=some o):id<h.length:=(List.getElem?_eq_some_iff.1 hh).1
def jB (n:Nat)(a:Int):Prop:=0≤a∧a+n<4611686018427387904
theorem OH {n m:Nat}{a b:Int}(H:jB m a)(h:a≤b)(hn:b+n≤a+m):jB n b:=by unfold jB at *;omega
theorem z2n {a:Int}(H:jB 14 a):jB 0 (a)∧jB 0 (a+1)∧jB 0 (a+1+1)∧jB 0 (a+1+1+1)∧jB 0 (a+1+1+1+1)∧jB 0 (a+1+1+1+1+1)∧jB 0 (a+1+1+1+1+1+1)∧jB 0 (a+1+1+1+1+1+1+1)∧jB 0 (a+1+1+1+1+1+1+1+1)∧jB 0 (a+1+1+1+1+1+1+1+1+1)∧jB 0 (a+1+1+1+1+1+1+1+1+1+1)∧jB 0 (a+1+1+1+1+1+1+1+1+1+1+1)∧jB 0 (a+1+1+1+1+1+1+1+1+1+1+1+1)∧jB 0 (a+1+1+1+1+1+1+1+1+1+1+1+1+1)∧jB 0 (a+1+1+1+1+1+1+1+1+1+1+1+1+1+1):=by
 unfold jB at *;omega
def Gen (f:Nat)(args:List AV)(L:List Int)(a a2:Int)(v:AV):Prop:=∀(h:aA) (id:Nat) (K:kA),h[id]?=some (MA L a)→eA X f (.ref id 0::args) h K=K v (h.set id (MA L a2)) []
section
variable {f:Nat} {args:List AV} {L:List Int} {a a2:Int} {v:AV} {h l:aA} {id:Nat} {K:kA}
theorem Gen.set (g:Gen f args L a a2 v)(hid:id<h.length):eA X f (.ref id 0::args) (h.set id (MA L a)) K=K v (h.set id (MA L a2)) []:=by
 rw[g _ _ _ (LM hid),List.set_set]
theorem Gen.app (g:Gen f args L a a2 v)(hid:id<h.length):eA X f (.ref id 0::args) (h.set id (MA L a)++l) K=K v (h.set id (MA L a2)++l) []:=by
 rw[g _ _ _ (by rw[z1x (by simpa using hid)];exact LM hid),z3x (by simpa using hid),List.set_set]
theorem Gen.hd (g:Gen f args L a a2 v):eA X f (.ref 0 0::args) (MA L a::l) K=K v (MA L a2::l) []:=by
 rw[g _ _ _ rfl];rfl
theorem Gen.of (H:∀ (h:aA) (id:Nat),id<h.length→eA X f (.ref id 0::args) (h.set id (MA L a)) fun v1 h1 x1=>v1=v∧h1=h.set id (MA L a2)∧x1=[]):Gen f args L a a2 v:=by
 intro h id K hh;have hid:=iP hh
 have:h.set id (MA L a)=h:=by
  apply List.ext_getElem?
  intro i;rw[List.getElem?_set];split
  ·rename_i e;subst e;rw[hh]
  ·rfl
 have k:=H h id hid
 rw[this]at k;exact CA k
end
def eE (f:Nat)(args:List AV)(L:List Int)(a:Int)(Q:AV→Int→Prop):Prop:=∀(h:aA) (id:Nat),h[id]?=some (MA L a)→∃v a2,Q v a2∧∀K:kA,eA X f (.ref id 0::args) h K=K v (h.set id (MA L a2)) []
section
variable {f:Nat} {args:List AV} {L:List Int} {a:Int} {Q:AV→Int→Prop}
theorem eE.set (g:eE f args L a Q){h:aA}{id:Nat}(hid:id<h.length):∃v a2,Q v a2∧∀K:kA,eA X f (.ref id 0::args) (h.set id (MA L a)) K=K v (h.set id (MA L a2)) []:=by
 obtain⟨v,a2,q,r⟩:=g _ _ (LM hid);exact⟨v,a2,q,fun K=>by rw[r,List.set_set]⟩
theorem eE.app (g:eE f args L a Q){h l:aA}{id:Nat}(hid:id<h.length):∃v a2,Q v a2∧∀K:kA,eA X f (.ref id 0::args) (h.set id (MA L a)++l) K=K v (h.set id (MA L a2)++l) []:=by
 obtain⟨v,a2,q,r⟩:=g (h.set id (MA L a)++l) id (by rw[z1x (by simpa using hid)];exact LM hid)
 exact⟨v,a2,q,fun K=>by rw[r,z3x (by simpa using hid),List.set_set]⟩
theorem eE.hd (g:eE f args L a Q){l:aA}:∃v a2,Q v a2∧∀K:kA,eA X f (.ref 0 0::args) (MA L a::l) K=K v (MA L a2::l) []:=g (MA L a::l) 0 rfl
theorem eE.of (H:∀ (h:aA) (id:Nat),id<h.length→eA X f (.ref id 0::args) (h.set id (MA L a)) fun v1 h1 x1=>∃ a2,Q v1 a2∧h1=h.set id (MA L a2)∧x1=[]):eE f args L a Q:=by
 intro h id hh;have hid:=iP hh
 have:h.set id (MA L a)=h:=by
  apply List.ext_getElem?
  intro i;rw[List.getElem?_set];split
  ·rename_i e;subst e;rw[hh]
  ·rfl
 have k:=H h id hid
 rw[this]at k;obtain⟨v,h',x,⟨a2,q,e1,e2⟩,r⟩:=eA.one jY k;subst e1;subst e2
 exact⟨v,a2,q,r⟩
end
def MH (l:List Int)(L:List Int)(a:Int):Int:=l.getD (LB L a l.length).toNat 0
theorem ze3 {l L:List Int}{a:Int}(hl:0<l.length)(hl2:l.length<4611686018427387904):MH l L a∈l:=by
 obtain⟨b1,b2⟩:=jJ L a l.length (by omega) (by omega)
 unfold MH;have:(LB L a l.length).toNat<l.length:=by omega
 simp only[List.getD,List.getElem?_eq_getElem this,Option.getD_some];exact List.getElem_mem _
def isI:PV→Bool
 | .int .i64 _=>true
 | _=>false
def unI:PV→Int
 | .int _ n=>n
 | _=>0
theorem zgH {xs:List PV}(h:xs.all isI=true):xs=(xs.map unI).map eI:=by
 induction xs with
 | nil=>rfl
 | cons x r ih=>
  simp only[List.all_cons,Bool.and_eq_true]at h;simp only[List.map_cons];rw[←ih h.2];cases x with
  | int k n=>cases k <;> first|rfl|cases h.1
  | _=>cases h.1
set_option maxHeartbeats 400000 in
theorem z1s (L:List Int)(a n:Int)(hp:jB 0 a):Gen FE [AI n] L a (a+1) (AI (LB L a n)):=by
 refine Gen.of fun h id hid=>?_
 rw[z6x rfl];obtain⟨h0,h1⟩:=hp;have w1:IntKind.i64.wrap (a+1)=a+1:=GA _ (by omega) (by omega)
 have w2:IntKind.i64.wrap (a+1-1)=a:=by rw[GA _ (by omega) (by omega)];omega
 have hs:∀o',(h.set id o')[id]?=some o':=fun o'=>LM hid
 rcases Nat.eq_zero_or_pos L.length with hl|hl
 ·simp only[OK,go_sem,hs,z2R,hl,w1]
  simp only[LB,hl,if_true]
 ·have e1:((L.length:Int)=0)=False:=by simp only[eq_iff_iff,iff_false];omega
  have e2:0≤a.tmod L.length:=Int.tmod_nonneg _ h0
  have e3:a.tmod L.length<L.length:=Int.tmod_lt_of_pos _ (by omega)
  have e4:=lV (k:=.i64) e2
  have e5:(L.map eI)[(a.tmod L.length).toNat]?=some (eI (L.getD (a.tmod L.length).toNat 0)):=by
   rw[sC eI (show(a.tmod L.length).toNat<L.length by omega)]
   simp [List.getD,show(a.tmod L.length).toNat<L.length by omega]
  simp only[OK,go_sem,hs,z2R,e1,w1,w2,e4,e5];simp only[LB,show ¬L.length=0 by omega,if_false]
section
variable {L:List Int} {a:Int} {h l:aA} {id:Nat} {K:kA}
theorem sK (hid:id<h.length)(hp:jB 0 a)(n:Int):eA X FE [.ref id 0,AI n] (h.set id (MA L a)) K=K (AI (LB L a n)) (h.set id (MA L (a+1))) []:=(z1s L a n hp).set hid
theorem z2Y (hid:id<h.length)(hp:jB 0 a)(n:Int):eA X FE [.ref id 0,AI n] (h.set id (MA L a)++l) K=K (AI (LB L a n)) (h.set id (MA L (a+1))++l) []:=(z1s L a n hp).app hid
theorem zaB (hp:jB 0 a)(n:Int):Gen xG [AI n] L a (a+1) (AB (decide (LB L a n=0))):=by
 refine Gen.of fun h id hid=>?_
 rw[z6w rfl];simp only[PN,go_sem,sK hid hp]
theorem z2V (hid:id<h.length)(hp:jB 0 a)(n:Int):eA X xG [.ref id 0,AI n] (h.set id (MA L a)++l) K=K (AB (decide (LB L a n=0))) (h.set id (MA L (a+1))++l) []:=(zaB hp n).app hid
theorem zaC (hp:jB 0 a)(xs:List PV)(hx:xs.all isI=true)(hl:0<xs.length)(hl2:xs.length<4611686018427387904) :
 Gen QI [.p (.sl none xs)] L a (a+1) (AI (MH (xs.map unI) L a)):=by
 refine Gen.of fun h id hid=>?_
 rw[z6y rfl];obtain⟨b1,b2⟩:=jJ L a xs.length (by omega) (by omega)
 have e4:=lV (k:=.i64) b1
 have e5:xs[(LB L a xs.length).toNat]?=some (eI (MH (xs.map unI) L a)):=by
  have hm:=zgH hx
  generalize hq:xs.map unI=q at *;subst hm;simp only[List.length_map]at *;rw[sC eI (show(LB L a q.length).toNat<q.length by omega)]
  simp [MH,List.getD,show(LB L a q.length).toNat<q.length by omega]
 simp only[QN,go_sem,sK hid hp,e4,e5]
theorem z2Z (hid:id<h.length)(hp:jB 0 a){xs:List PV}(hx:xs.all isI=true)(hl:0<xs.length)(hl2:xs.length<4611686018427387904) :
 eA X QI [.ref id 0,.p (.sl none xs)] (h.set id (MA L a)++l) K=K (AI (MH (xs.map unI) L a)) (h.set id (MA L (a+1))++l) []:=(zaC hp xs hx hl hl2).app hid
def pF (u v:Int)(L:List Int)(a:Int):Int:=u+LB L a (v-u+1)
theorem JQ {u v:Int}(L:List Int)(a:Int)(h1:u≤v)(h2:v≤u+4611686018427387900):u≤pF u v L a∧pF u v L a≤v:=by
 have:=jJ L a (v-u+1) (by omega) (by omega)
 unfold pF;omega
theorem zaD (hp:jB 0 a)(u v:Int)(huv:u≤v)(hu : -1152921504606846976≤u)(hv:v≤1152921504606846976) :
 Gen yG [AI u,AI v] L a (a+1) (AI (pF u v L a)):=by
 refine Gen.of fun h id hid=>?_
 rw[z6z rfl];obtain⟨b1,b2⟩:=JQ L a huv (by omega)
 have w1:IntKind.i64.wrap (v-u)=v-u:=GA _ (by omega) (by omega)
 have w2:IntKind.i64.wrap (v-u+1)=v-u+1:=GA _ (by omega) (by omega)
 have w3:IntKind.i64.wrap (u+LB L a (v-u+1))=pF u v L a:=GA (pF u v L a) (by omega) (by omega)
 simp only[RN,go_sem,show ¬v<u by omega,w1,w2,sK hid hp,w3]
theorem z3a (hid:id<h.length)(hp:jB 0 a){u v:Int}(huv:u≤v)(hu : -1152921504606846976≤u)(hv:v≤1152921504606846976) :
 eA X yG [.ref id 0,AI u,AI v] (h.set id (MA L a)++l) K=K (AI (pF u v L a)) (h.set id (MA L (a+1))++l) []:=(zaD hp u v huv hu hv).app hid
end
attribute [go_sem ↓] sK z2Y z2V z2Z z3a
attribute [go_sem] sK z2Y z2V z2Z z3a isI unI
end Go.Am
end
section
/- Plain laws of fractions in lowest terms. -/
namespace Go.Am
end Go.Am
end
section
/- Small functions of numbers and of lists of numbers. -/
open Go
namespace Go.Am
variable {h:aA} {K:kA}
theorem cC (n a b:Int):eA X gC [AI n,AI a,AI b] h K=K (AB (decide (n<a)||decide (b<n))) h []:=by
 refine CA ?_;rw[z6s rfl];by_cases h1:n<a <;> simp only[LN,go_sem,h1]
end Go.Am
end
section
/- Functions of lists. -/
open Go
namespace Go.Am
variable {h:aA} {K:kA}
theorem zgz (l:List Int)(a b:Int)(hv:∀ n∈l,a≤n∧n≤b):(l.length:Int)*a≤l.sum∧l.sum≤(l.length:Int)*b:=by
 induction l with
 | nil=>simp
 | cons x r ih=>
  obtain⟨i1,i2⟩:=ih (fun n hn=>hv n (by simp [hn]))
  obtain⟨x1,x2⟩:=hv x (by simp)
  simp only[List.length_cons,List.sum_cons,Int.natCast_add,Int.add_mul];omega
theorem zg0 {l:List Int}{B:Int}(hv:∀ n∈l,-B≤n∧n≤B){N:Nat}(hl:l.length≤N)(hB:0≤B) : -(N*B)≤l.sum∧l.sum≤N*B:=by
 obtain⟨h1,h2⟩:=zgz l (-B) B hv;have:(l.length:Int)*B≤N*B:=Int.mul_le_mul_of_nonneg_right (by omega) hB
 rw[Int.mul_neg]at h1;omega
theorem zg1 {l:List Int}{B:Int}(hv:∀ n∈l,-B≤n∧n≤B){N:Nat}(hl:l.length≤N)(hB:0≤B)(k:Nat) : -(N*B)≤(l.take k).sum∧(l.take k).sum≤N*B:=
 zg0 (fun n hn=>hv n (List.mem_of_mem_take hn)) (by simp;omega) hB
def VE (g:Nat)(caps:List AV)(p:PV→Bool)(xs:List PV)(h:aA):Prop:=∀x∈xs,∀K:kA,eA X g (.p x::caps) h K=K (AB (p x)) h []
def BD (p:PV→Bool)(xs:List PV):Int:=if xs.findIdx p<xs.length then(xs.findIdx p:Int) else -1
theorem aV (p:PV→Bool)(xs:List PV):decide (0≤BD p xs)=xs.any p:=by
 unfold BD;rw[Bool.eq_iff_iff];by_cases h:xs.findIdx p<xs.length
 ·rw[if_pos h];simp only[decide_eq_true_eq,List.any_eq_true]
  exact⟨fun _=>⟨_,List.getElem_mem h,List.findIdx_getElem⟩,fun _=>by omega⟩
 ·rw[if_neg h];simp only[decide_eq_true_eq,List.any_eq_true]
  refine⟨fun h=>by omega,fun⟨x,hx,hp⟩=>absurd (List.findIdx_lt_length_of_exists ⟨x,hx,hp⟩) h⟩
end Go.Am
end
section
/- Values of a shape: loads and stores in rows. -/
open Go
namespace Go.Am
variable {h:aA} {K:kA}
theorem zfW {sh:Sh}{x:PV}(hx:x.shp sh=true):bB sh 0 x=some x:=by
 cases sh with
 | none=>exact z7K hx
 | some n=>
  cases x with
  | agg cs=>
   simp only[PV.shp,Bool.and_eq_true,beq_iff_eq]at hx;simp [bB,hx.1];exact List.take_of_length_le (by omega)
  | _=>cases hx
def SG (sh:Sh)(xs:List PV):Prop:=∀x∈xs,x.shp sh=true
theorem zfX {sh:Sh}{xs:List PV}(hx:SG sh xs){i:Nat}(hi:i<xs.length):xs[i].shp sh=true:=hx _ (List.getElem_mem hi)
theorem zfV {h:aA}{id:Nat}{o:Obj}(hh:h[id]?=some o):h.set id o=h:=by
 apply List.ext_getElem?
 intro i;rw[List.getElem?_set];split
 ·rename_i e;subst e;rw[hh];simp [iP hh]
 ·rfl
structure Shows (sh:Sh) (v:AV) (xs:List PV) (h:aA):Prop where
 len:UF v=some (AI xs.length)
 get:∀(k:Nat) (hk:k<xs.length),∃a,XD sh v (AI k) h=some a∧MB sh a h=some (.p xs[k])
theorem oR {sh:Sh}{xs:List PV}(hs:SG sh xs):Shows sh (.p (.sl sh xs)) xs h:=by
 refine⟨rfl,fun k hk=>⟨.vp xs[k],?_,?_⟩⟩
 ·simp [XD,ZA,hk]
 ·simp only[z1E,zfW (zfX hs hk)];rfl
end Go.Am
end
section
/- Strings: keys,the library's functions without text. -/
open Go
set_option linter.unusedSimpArgs false
namespace Go.Am
variable {h:aA} {K:kA}
abbrev AS (s:List UInt8):AV:=.p (.str s)
theorem X_ext:X.ext=PI tG YO:=rfl
theorem z3d (s:List UInt8)(c:UInt8):eA X tG [AS s,.p (.int .u8 c.toNat)] h K=K (AI (DC s c)) h []:=by
 have:=zao (X:=X) (f:=tG) (asv:=[AS s,.p (.int .u8 c.toNat)]) (vs:=[.str s,.int .u8 c.toNat]) (h:=h) (h1:=h) (r:=.int .i64 (DC s c)) (K:=K) (by kernel_rfl) rfl rfl rfl ?_
 ·exact this
 ·rw[X_ext]
  unfold PI;rw[show Nat.beq tG tG=true from by kernel_rfl]
  simp
theorem z2W (s:List UInt8)(c:UInt8):eA X JL [AS s,.p (.int .u8 c.toNat)] h K=K (AI (DC s c)) h []:=by
 have key:∀(h:aA) (K:kA),eA X vG [AS s,.p (.int .u8 c.toNat)] h K=K (AI (DC s c)) h []:=by
  intro h K;refine CA ?_;rw[OY rfl];simp only[NK,go_sem,z3d]
 refine CA ?_;rw[z6G rfl];simp only[jO,go_sem,key]
def FG (c:UInt8):Bool:=decide ((97:Int)≤c.toNat)&&decide ((c.toNat:Int)≤122)||decide ((48:Int)≤c.toNat)&&decide ((c.toNat:Int)≤57)||decide ((c.toNat:Int)=45)||decide ((c.toNat:Int)=95)
def XC (s:List UInt8):Bool:=match s with
 | []=>false
 | c::r=>decide (r.length<40)&&(decide ((97:Int)≤c.toNat)&&decide ((c.toNat:Int)≤122))&&(c::r).all FG
theorem z2X (s:List UInt8)(hl:s.length≤1000000000):eA X SD [AS s] h K=K (AB (XC s)) h []:=by
 refine CA ?_;rw[z6r rfl];cases s with
 | nil=>simp only[nG,go_sem,XC]
 | cons c r=>
  have n0:((c::r)=[])=False:=by simp
  have e1:(((r.length+1:Nat):Int)≤40)=(r.length<40):=by simp only[eq_iff_iff];omega
  by_cases h1:(40:Int)<((r.length+1:Nat):Int)
  ·have:¬r.length<40:=by omega
   simp only[nG,go_sem,n0,h1,XC,this]
  have h1':r.length<40:=by omega
  by_cases h2:(c.toNat:Int)<97
  ·have:¬(97:Int)≤c.toNat:=by omega
   simp only[nG,go_sem,n0,h1,h2,XC,this,h1']
  have h2':(97:Int)≤c.toNat:=by omega
  by_cases h3:(122:Int)<c.toNat
  ·have:¬(c.toNat:Int)≤122:=by omega
   simp only[nG,go_sem,n0,h1,h2,h3,XC,this,h1',h2']
  have h3':(c.toNat:Int)≤122:=by omega
  have ek:XC (c::r)=(c::r).all FG:=by simp [XC,h1',h2',h3']
  rw[ek];generalize hB:(c::r).all FG=B;simp only[nG,go_sem,n0,h1,h2,h3];have hlen:(c::r).length=r.length+1:=rfl
  rw[←hlen];generalize c::r=s at *;refine nB (fun k:Nat=>⟨[(0,AS s),(23,AI s.length),(24,AI k)],h,[]⟩) (fun k=>k≤s.length∧(s.take k).all FG=true) (fun k=>s.length-k) 0 rfl ⟨by omega,rfl⟩ ?_
  rintro k ⟨hk,hp⟩
  rcases Nat.lt_or_ge k s.length with hlt|hge
  ·have hg:s[k]?=some s[k]:=List.getElem?_eq_getElem hlt
   have w2:IntKind.i64.wrap ((k:Int)+1)=((k+1:Nat):Int):=GA _ (by omega) (by omega)
   generalize hc:s[k]=c at *;have key:(decide ((97:Int)≤c.toNat)&&decide ((c.toNat:Int)≤122)||decide ((48:Int)≤c.toNat)&&decide ((c.toNat:Int)≤57)||decide ((c.toNat:Int)=45)||decide ((c.toNat:Int)=95))=FG c:=rfl
   cases hkc:FG c with
   | true=>
    rw[hkc]at key;have hn:(s.take (k+1)).all FG=true:=by rw[List.take_succ_eq_append_getElem hlt,List.all_append,hp,hc];simp [hkc]
    by_cases b1:(97:Int)≤c.toNat <;> by_cases b2:(c.toNat:Int)≤122 <;> by_cases b3:(48:Int)≤c.toNat <;> by_cases b4:(c.toNat:Int)≤57 <;> by_cases b5:(c.toNat:Int)=45 <;> by_cases b6:(c.toNat:Int)=95
    all_goals first
     | (simp only[b1,b2,b3,b4,b5,b6,decide_true,decide_false,Bool.and_self,Bool.and_true,Bool.and_false,Bool.or_self,Bool.or_true,Bool.or_false,Bool.true_or,Bool.false_or,Bool.false_and,reduceCtorEq]at key;done)
     | (exfalso;omega)
     | (simp only[go_sem,hlt,hg,w2,b1,b2,b3,b4,b5,b6];exact⟨k+1,rfl,⟨by omega,hn⟩,by omega⟩)
   | false=>
    rw[hkc]at key;have hn:s.all FG=false:=by rw[List.all_eq_false];exact⟨_,List.getElem_mem hlt,by rw[hc,hkc];simp⟩
    rw[hn]at hB;subst hB;by_cases b1:(97:Int)≤c.toNat <;> by_cases b2:(c.toNat:Int)≤122 <;> by_cases b3:(48:Int)≤c.toNat <;> by_cases b4:(c.toNat:Int)≤57 <;> by_cases b5:(c.toNat:Int)=45 <;> by_cases b6:(c.toNat:Int)=95
    all_goals first
     | (simp only[b1,b2,b3,b4,b5,b6,decide_true,decide_false,Bool.and_self,Bool.and_true,Bool.and_false,Bool.or_self,Bool.or_true,Bool.or_false,Bool.true_or,Bool.false_or,Bool.false_and,reduceCtorEq]at key;done)
     | (exfalso;omega)
     | (simp only[go_sem,hlt,hg,b1,b2,b3,b4,b5,b6])
  ·have ek:k=s.length:=by omega
   subst ek;rw[List.take_length,hB]at hp;subst hp;simp only[go_sem,Nat.lt_irrefl]
theorem z12 (s:List UInt8)(c:UInt8):decide (DC s c<0) = !s.contains c:=by
 unfold DC;rw[Bool.eq_iff_iff];by_cases hf:s.findIdx (· == c)<s.length
 ·rw[if_pos hf]
  have:=List.findIdx_getElem (w:=hf);simp only[beq_iff_eq]at this;have hm:c∈s:=by rw[←this];exact List.getElem_mem hf
  simp [hm]
 ·rw[if_neg hf]
  have hm:¬c∈s:=fun hm=>hf (List.findIdx_lt_length_of_exists ⟨c,hm,by simp⟩)
  simp [hm]
theorem zfy (s t:List UInt8)(hl:s.length≤1000000000):eA X xL [AS s,AS t] h K=K (AB (s.all fun c=>t.contains c)) h []:=by
 refine CA ?_;rw[z64 rfl];simp only[VN,go_sem];refine nB (fun k:Nat=>⟨[(0,AS s),(1,AS t),(7,AI s.length),(8,AI k)],h,[]⟩) (fun k=>k≤s.length∧(s.take k).all (fun c=>t.contains c)=true) (fun k=>s.length-k) 0 rfl ⟨by omega,rfl⟩ ?_
 rintro k ⟨hk,hp⟩
 rcases Nat.lt_or_ge k s.length with hlt|hge
 ·have hg:s[k]?=some s[k]:=List.getElem?_eq_getElem hlt
  have w2:IntKind.i64.wrap ((k:Int)+1)=((k+1:Nat):Int):=GA _ (by omega) (by omega)
  have hi:=z12 t s[k]
  by_cases hc:DC t s[k]<0
  ·have:s.all (fun c=>t.contains c)=false:=by
    rw[List.all_eq_false];refine⟨_,List.getElem_mem hlt,?_⟩;rw[decide_eq_true hc]at hi;cases hq:t.contains s[k]with
    | true=>rw[hq]at hi;cases hi
    | false=>simp
   simp only[go_sem,hlt,hg,z2W,hc,this]
  ·rw[decide_eq_false hc]at hi
   have hq:t.contains s[k]=true:=by cases hq:t.contains s[k]with|true=>rfl|false=>rw[hq]at hi;cases hi
   simp only[go_sem,hlt,hg,z2W,hc,w2];exact⟨k+1,rfl,⟨by omega,by rw[List.take_succ_eq_append_getElem hlt,List.all_append,hp];simp only[List.all_cons,List.all_nil,hq];rfl⟩,by omega⟩
 ·have ek:k=s.length:=by omega
  subst ek;rw[List.take_length]at hp;simp only[go_sem,Nat.lt_irrefl,hp]
end Go.Am
end
section
/- What is wrong with devices,plainly. -/
set_option linter.all false
namespace Go.Am
def zC (pre:List TReg)(r:TReg):Int:=
 if XC r.name=false then 5 else if r.name=rB∨r.name=DB∨(pre.any fun x=>decide (x.name=r.name))=true then 6 else if r.long<1∨1000<r.long then 1 else 0
def nD:List TReg→List TReg→Int
 | _,[]=>0
 | pre,r::rs=>if zC pre r≠0 then zC pre r else nD (pre++[r]) rs
def wC (d:TDev)(pre:List TIns)(x:TIns):Int:=
 if(x.code.length:Int)≠d.long then 3 else if zA x.code=false then 9 else if x.code.contains 48=false then 16 else if(pre.any fun y=>decide (y.code=x.code))=true then 6 else if(bC d x.reg).isSome=false then 8 else 0
def TD (d:TDev):List TIns→List TIns→Int
 | _,[]=>0
 | pre,x::xs=>if wC d pre x≠0 then wC d pre x else TD d (pre++[x]) xs
def BE (pre:List TDev)(d:TDev):Int:=
 if XC d.name=false then 5 else if(pre.any fun x=>decide (x.name=d.name))=true then 6 else if(d.long<2∨32<d.long)∨(d.id<0∨4294967295<d.id) then 1
 else if d.id≠0∧d.id.tmod 2=0 then 3 else if(10:Int)<d.regs.length∨(100:Int)<d.ins.length then 2 else if nD [] d.regs≠0 then nD [] d.regs else TD d [] d.ins
def GF:List TDev→List TDev→Int
 | _,[]=>0
 | pre,d::ds=>if BE pre d≠0 then BE pre d else GF (pre++[d]) ds
def CE (ds:List TDev):Int:=if ds.length=0 then 8 else if 20<ds.length then 2 else GF [] ds
theorem zbf {s:List UInt8}(h:XC s=true):s.length≤40∧s≠[]:=by
 unfold XC at h;cases s with
 | nil=>cases h
 | cons c r=>
  simp only[Bool.and_eq_true,decide_eq_true_eq]at h;simp;omega
theorem z2z:∀ {rs pre:List TReg},nD pre rs=0→(∀ r∈rs,r.name≠rB∧r.name≠DB∧1≤r.long∧r.long≤1000∧∀ x∈pre,x.name≠r.name)∧(rs.map TReg.name).Nodup
 | [],_,_=>⟨by simp,by simp⟩
 | r::rs,pre,h=>by
  unfold nD at h;by_cases h0:zC pre r≠0
  ·rw[if_pos h0]at h;exact absurd h h0
  rw[if_neg h0]at h;obtain⟨a1,a2⟩:=z2z h;have h0:zC pre r=0:=by omega
  unfold zC at h0;split at h0
  ·cases h0
  split at h0
  ·cases h0
  rename_i n1;split at h0
  ·cases h0
  rename_i n2;rw[not_or,not_or]at n1;obtain⟨b1,b2,b3⟩:=n1;have b3:∀x∈pre,x.name≠r.name:=fun x hx e=>b3 (List.any_eq_true.2 ⟨x,hx,by simpa using e⟩)
  refine⟨fun y hy=>?_,?_⟩
  ·rcases List.mem_cons.1 hy with e|e
   ·subst e;exact⟨b1,b2,by omega,by omega,b3⟩
   ·obtain⟨c1,c2,c3,c4,c5⟩:=a1 y e
    exact⟨c1,c2,c3,c4,fun x hx=>c5 x (List.mem_append_left _ hx)⟩
  ·rw[List.map_cons,List.nodup_cons]
   refine⟨fun hm=>?_,a2⟩
   obtain⟨y,hy,e⟩:=List.mem_map.1 hm;exact(a1 y hy).2.2.2.2 r (by simp) e.symm
theorem z17 {d:TDev}:∀{xs pre:List TIns},TD d pre xs=0→∀x∈xs,(x.code.length:Int)=d.long∧(bC d x.reg).isSome=true
 | [],_,_,x,hx=>by cases hx
 | y::xs,pre,h,x,hx=>by
  unfold TD at h;by_cases h0:wC d pre y≠0
  ·rw[if_pos h0]at h;exact absurd h h0
  rw[if_neg h0]at h;have h0:wC d pre y=0:=by omega
  rcases List.mem_cons.1 hx with e|e
  ·subst e
   unfold wC at h0;split at h0
   ·cases h0
   rename_i n1;split at h0
   ·cases h0
   split at h0
   ·cases h0
   split at h0
   ·cases h0
   split at h0
   ·cases h0
   rename_i n5;exact⟨by omega,by cases q:(bC d x.reg).isSome with|true=>rfl|false=>exact absurd q n5⟩
  ·exact z17 h x e
theorem z7P {pre:List TDev}{d:TDev}(h:BE pre d=0):DevOk d∧∀x∈pre,x.name≠d.name:=by
 unfold BE at h;split at h
 ·cases h
 rename_i n1;split at h
 ·cases h
 rename_i n2;split at h
 ·cases h
 rename_i n3;split at h
 ·cases h
 split at h
 ·cases h
 rename_i n5;split at h
 ·rename_i n6;exact absurd h n6
 rename_i n6;have kn:XC d.name=true:=by simpa using n1
 obtain⟨r1,r2⟩:=z2z (show nD [] d.regs=0 by omega)
 have i1:=z17 h
 refine⟨⟨by omega,by omega,by omega,by omega,fun x hx e=>?_,fun x hx=>(i1 x hx).2,fun r hr=>(r1 r hr).1,fun r hr=>(r1 r hr).2.1,fun r hr=>⟨(r1 r hr).2.2.1,by have:=(r1 r hr).2.2.2.1;omega⟩,r2,by omega,by omega,by have:=(zbf kn).1;omega⟩,fun x hx e=>n2 (List.any_eq_true.2 ⟨x,hx,by simpa using e⟩)⟩
 have:=(i1 x hx).1;rw[e]at this;simp at this;omega
theorem sZ:∀ {ds pre:List TDev},GF pre ds=0→(∀ d∈ds,DevOk d∧∀ x∈pre,x.name≠d.name)∧(ds.map TDev.name).Nodup
 | [],_,_=>⟨by simp,by simp⟩
 | d::ds,pre,h=>by
  unfold GF at h;by_cases h0:BE pre d≠0
  ·rw[if_pos h0]at h;exact absurd h h0
  rw[if_neg h0]at h;obtain⟨b1,b2⟩:=z7P (show BE pre d=0 by omega)
  obtain⟨a1,a2⟩:=sZ h;refine⟨fun y hy=>?_,?_⟩
  ·rcases List.mem_cons.1 hy with e|e
   ·subst e;exact⟨b1,b2⟩
   ·obtain⟨c1,c2⟩:=a1 y e
    exact⟨c1,fun x hx=>c2 x (List.mem_append_left _ hx)⟩
  ·rw[List.map_cons,List.nodup_cons]
   refine⟨fun hm=>?_,a2⟩
   obtain⟨y,hy,e⟩:=List.mem_map.1 hm;exact(a1 y hy).2 d (by simp) e.symm
theorem z7R {ds:List TDev}(h:CE ds=0):(∀d∈ds,DevOk d)∧(ds.map TDev.name).Nodup∧ds≠[]∧ds.length≤20:=by
 unfold CE at h;split at h
 ·cases h
 rename_i n1;split at h
 ·cases h
 obtain⟨a1,a2⟩:=sZ h;exact⟨fun d hd=>(a1 d hd).1,a2,fun e=>n1 (by rw[e];rfl),by omega⟩
structure DevB (d:TDev):Prop where
 n:d.name.length≤1000
 rs:d.regs.length≤1000
 is:d.ins.length≤1000
 rn:∀r∈d.regs,r.name.length≤1000
 ic:∀x∈d.ins,x.code.length≤1000∧x.reg.length≤1000
end Go.Am
end
section
/- Devices looked through: printed by program. -/
open Go
set_option linter.unusedSimpArgs false
namespace Go.Am
attribute [-go_sem] PV.cells splice
variable {h:aA} {K:kA}
theorem XX {v:AV}{g:Nat}{caps:List AV}{p:PV→Bool}{xs:List PV}(hv:Shows (some 2) v xs h)(hp:VE g caps p xs h)(hl:xs.length≤1000000000) :
 eA X TI [v,.fn g caps] h K=K (AI (BD p xs)) h []:=by
 refine CA ?_;rw[z6D];have vl:=hv.len
 simp only[eO,go_sem,vl];refine nB (fun k:Nat=>⟨[(0,v),(1,.fn g caps),(7,AI xs.length),(8,AI k)],h,[]⟩) (fun k=>k≤xs.length∧∀x∈xs.take k,p x=false) (fun k=>xs.length-k) 0 rfl (by simp) ?_
 rintro k ⟨hk,hn⟩
 rcases Nat.lt_or_ge k xs.length with hlt|hge
 ·obtain⟨a,ha,hb⟩:=hv.get k hlt
  have w2:IntKind.i64.wrap ((k:Int)+1)=((k+1:Nat):Int):=GA _ (by omega) (by omega)
  have ht:=hp _ (List.getElem_mem hlt)
  cases hpk:p xs[k]with
  | true=>
   have hf:xs.findIdx p=k:=by
    rw[List.findIdx_eq hlt];refine⟨hpk,fun j hj=>?_⟩
    have:=hn xs[j] (by rw[List.mem_take_iff_getElem];exact⟨j,by omega,rfl⟩)
    simpa using this
   simp only[go_sem,hlt,ha,hb,ht,hpk,w2];simp only[BD,hf,hlt,if_true]
  | false=>
   simp only[go_sem,hlt,ha,hb,ht,hpk,w2];refine⟨k+1,rfl,⟨by omega,fun x hx=>?_⟩,by omega⟩
   rw[List.take_succ_eq_append_getElem hlt,List.mem_append,List.mem_singleton]at hx;rcases hx with hx|hx
   ·exact hn x hx
   ·rw[hx];exact hpk
 ·have e1:k=xs.length:=by omega
  subst e1;simp only[go_sem,Nat.lt_irrefl];rw[List.take_length]at hn;have:¬xs.findIdx p<xs.length:=by
   rw[Nat.not_lt,Nat.le_iff_lt_or_eq];right
   exact(List.findIdx_eq_length.2 (fun x hx=>by simp [hn x hx])).symm
  simp [BD,this]
theorem z4w {g:Nat}{caps:List AV}{p:PV→Bool}{xs:List PV}(hp:VE g caps p xs h)(hs:SG (some 2) xs)(hl:xs.length≤1000000000) :
 eA X DL [.p (.sl (some 2) xs),.fn g caps] h K=K (AB (xs.any p)) h []:=by
 refine CA ?_;rw[z6A];have vi:=fun K=>XX (h:=h) (K:=K) (oR hs) hp hl
 simp only[bO,go_sem,vi,aV]
theorem z42 {v:AV}{g:Nat}{caps:List AV}{p:PV→Bool}{xs:List PV}(hv:Shows (some 2) v xs h)(hp:VE g caps p xs h)(hl:xs.length≤1000000000) :
 eA X FL [v,.fn g caps] h K=K (AI (BD p xs)) h []:=by
 refine CA ?_;rw[z6C];have vl:=hv.len
 simp only[dO,go_sem,vl];refine nB (fun k:Nat=>⟨[(0,v),(1,.fn g caps),(7,AI xs.length),(8,AI k)],h,[]⟩) (fun k=>k≤xs.length∧∀x∈xs.take k,p x=false) (fun k=>xs.length-k) 0 rfl (by simp) ?_
 rintro k ⟨hk,hn⟩
 rcases Nat.lt_or_ge k xs.length with hlt|hge
 ·obtain⟨a,ha,hb⟩:=hv.get k hlt
  have w2:IntKind.i64.wrap ((k:Int)+1)=((k+1:Nat):Int):=GA _ (by omega) (by omega)
  have ht:=hp _ (List.getElem_mem hlt)
  cases hpk:p xs[k]with
  | true=>
   have hf:xs.findIdx p=k:=by
    rw[List.findIdx_eq hlt];refine⟨hpk,fun j hj=>?_⟩
    have:=hn xs[j] (by rw[List.mem_take_iff_getElem];exact⟨j,by omega,rfl⟩)
    simpa using this
   simp only[go_sem,hlt,ha,hb,ht,hpk,w2];simp only[BD,hf,hlt,if_true]
  | false=>
   simp only[go_sem,hlt,ha,hb,ht,hpk,w2];refine⟨k+1,rfl,⟨by omega,fun x hx=>?_⟩,by omega⟩
   rw[List.take_succ_eq_append_getElem hlt,List.mem_append,List.mem_singleton]at hx;rcases hx with hx|hx
   ·exact hn x hx
   ·rw[hx];exact hpk
 ·have e1:k=xs.length:=by omega
  subst e1;simp only[go_sem,Nat.lt_irrefl];rw[List.take_length]at hn;have:¬xs.findIdx p<xs.length:=by
   rw[Nat.not_lt,Nat.le_iff_lt_or_eq];right
   exact(List.findIdx_eq_length.2 (fun x hx=>by simp [hn x hx])).symm
  simp [BD,this]
theorem z4v {g:Nat}{caps:List AV}{p:PV→Bool}{xs:List PV}(hp:VE g caps p xs h)(hs:SG (some 2) xs)(hl:xs.length≤1000000000) :
 eA X CL [.p (.sl (some 2) xs),.fn g caps] h K=K (AB (xs.any p)) h []:=by
 refine CA ?_;rw[z69];have vi:=fun K=>z42 (h:=h) (K:=K) (oR hs) hp hl
 simp only[aO,go_sem,vi,aV]
theorem z41 {v:AV}{g:Nat}{caps:List AV}{p:PV→Bool}{xs:List PV}(hv:Shows (some 5) v xs h)(hp:VE g caps p xs h)(hl:xs.length≤1000000000) :
 eA X EL [v,.fn g caps] h K=K (AI (BD p xs)) h []:=by
 refine CA ?_;rw[z6B];have vl:=hv.len
 simp only[cO,go_sem,vl];refine nB (fun k:Nat=>⟨[(0,v),(1,.fn g caps),(7,AI xs.length),(8,AI k)],h,[]⟩) (fun k=>k≤xs.length∧∀x∈xs.take k,p x=false) (fun k=>xs.length-k) 0 rfl (by simp) ?_
 rintro k ⟨hk,hn⟩
 rcases Nat.lt_or_ge k xs.length with hlt|hge
 ·obtain⟨a,ha,hb⟩:=hv.get k hlt
  have w2:IntKind.i64.wrap ((k:Int)+1)=((k+1:Nat):Int):=GA _ (by omega) (by omega)
  have ht:=hp _ (List.getElem_mem hlt)
  cases hpk:p xs[k]with
  | true=>
   have hf:xs.findIdx p=k:=by
    rw[List.findIdx_eq hlt];refine⟨hpk,fun j hj=>?_⟩
    have:=hn xs[j] (by rw[List.mem_take_iff_getElem];exact⟨j,by omega,rfl⟩)
    simpa using this
   simp only[go_sem,hlt,ha,hb,ht,hpk,w2];simp only[BD,hf,hlt,if_true]
  | false=>
   simp only[go_sem,hlt,ha,hb,ht,hpk,w2];refine⟨k+1,rfl,⟨by omega,fun x hx=>?_⟩,by omega⟩
   rw[List.take_succ_eq_append_getElem hlt,List.mem_append,List.mem_singleton]at hx;rcases hx with hx|hx
   ·exact hn x hx
   ·rw[hx];exact hpk
 ·have e1:k=xs.length:=by omega
  subst e1;simp only[go_sem,Nat.lt_irrefl];rw[List.take_length]at hn;have:¬xs.findIdx p<xs.length:=by
   rw[Nat.not_lt,Nat.le_iff_lt_or_eq];right
   exact(List.findIdx_eq_length.2 (fun x hx=>by simp [hn x hx])).symm
  simp [BD,this]
theorem z4u {g:Nat}{caps:List AV}{p:PV→Bool}{xs:List PV}(hp:VE g caps p xs h)(hs:SG (some 5) xs)(hl:xs.length≤1000000000) :
 eA X BL [.p (.sl (some 5) xs),.fn g caps] h K=K (AB (xs.any p)) h []:=by
 refine CA ?_;rw[z68];have vi:=fun K=>z41 (h:=h) (K:=K) (oR hs) hp hl
 simp only[ZN,go_sem,vi,aV]
end Go.Am
end
section
/- Maps,asv lists of keys with values. -/
open Go
set_option linter.all false
namespace Go.Am
section
variable {α β:Type} [DecidableEq α]
def VD (key:α→PV)(val:β→AV):Nat→List (α×β)→List ME
 | _,[]=>[]
 | n,e::r=>⟨key e.1,val e.2,n⟩::VD key val (n+1) r
def EA (key:α→PV)(val:β→AV)(l:List (α × β)):Obj:=.amap (VD key val 0 l) l.length
def AC (k:α):List (α×β)→Option Nat
 | []=>none
 | e::r=>if k=e.1 then some 0 else(AC k r).map (· + 1)
def TA (k:α):List (α×β)→Option β
 | []=>none
 | e::r=>if k=e.1 then some e.2 else TA k r
def lB (k:α)(v:β):List (α×β)→List (α×β)
 | []=>[(k,v)]
 | e::r=>if k=e.1 then(k,v)::r else e::lB k v r
def DK (key:α→PV):Prop:=∀a b,PV.eqv (key a) (key b)=some (decide (a=b))
theorem z19:DK PV.str:=fun a b=>rfl
theorem cV:DK (fun n:Int=>PV.int .i64 n):=fun a b=>by simp [PV.eqv,PV.eq1]
theorem z1A {s:List UInt8}:FC (none,[2]) (.p (.str s))=some (.str s):=by simp [FC,PV.key,PV.shp,PV.sc,PV.cells,PV.kind]
theorem dV {n:Int}{k:IntKind}:FC (none,[0]) (.p (.int k n))=some (.int k n):=by simp [FC,PV.key,PV.shp,PV.sc,PV.cells,PV.kind]
variable {key:α→PV} {val:β→AV}
theorem jV (hk:DK key)(k:α):∀(l:List (α×β)) (n:Nat),aC (key k) (VD key val n l)=some (AC k l)
 | [],n=>rfl
 | e::r,n=>by
  simp only[VD,aC,hk k e.1,AC];by_cases h:k=e.1
  ·simp [h]
  ·simp [h,jV hk k r (n+1)]
theorem rP:∀ (l:List (α × β)) (n i:Nat),(VD key val n l)[i]?=(l[i]?).map fun e=>⟨key e.1,val e.2,n+i⟩
 | [],n,i=>rfl
 | e::r,n,0=>rfl
 | e::r,n,i+1=>by simp only[VD,List.getElem?_cons_succ,rP r (n+1) i];rw[show n+1+i=n+(i+1) by omega]
theorem z3V {k:α}:∀{l:List (α×β)} {i:Nat},AC k l=some i→i<l.length
 | [],i,h=>by cases h
 | e::r,i,h=>by
  unfold AC at h;split at h
  ·cases h;simp
  ·obtain⟨j,hj,e2⟩:=Option.map_eq_some_iff.1 h
   have:=z3V hj;simp;omega
theorem FX {k:α}:∀{l:List (α×β)} {i:Nat},AC k l=some i→l[i]?=(TA k l).map fun v=>(k,v)
 | [],i,h=>by cases h
 | e::r,i,h=>by
  unfold AC at h;unfold TA;split at h
  ·rename_i hk;cases h;simp [hk]
  ·rename_i hk
   obtain⟨j,hj,e2⟩:=Option.map_eq_some_iff.1 h;subst e2;rw[if_neg hk,List.getElem?_cons_succ];exact FX hj
theorem z3W {k:α}:∀{l:List (α×β)},AC k l=none→TA k l=none
 | [],h=>rfl
 | e::r,h=>by
  unfold AC at h;unfold TA;split at h
  ·cases h
  ·rename_i hk
   rw[if_neg hk];exact z3W (by simpa using h)
theorem z3X {k:α}:∀{l:List (α×β)} {i:Nat},AC k l=some i→(TA k l).isSome=true
 | [],i,h=>by cases h
 | e::r,i,h=>by
  unfold AC at h;unfold TA;split at h
  ·rename_i hk;simp [hk]
  ·rename_i hk
   obtain⟨j,hj,e2⟩:=Option.map_eq_some_iff.1 h;rw[if_neg hk];exact z3X hj
theorem zbY {k:α}{l:List (α × β)}{n:Nat}:((AC k l).bind fun i=>(VD key val n l)[i]?).map ME.val=(TA k l).map val:=by
 cases h:AC k l with
 | none=>rw[z3W h];rfl
 | some i=>
  simp only[Option.bind_some,rP,FX h];cases TA k l <;> rfl
theorem z3L {k:α}{v:β}:∀{l:List (α×β)},AC k l=none→lB k v l=l++[(k,v)]
 | [],h=>rfl
 | e::r,h=>by
  unfold AC at h;unfold lB;split at h
  ·cases h
  ·rename_i hk
   rw[if_neg hk,z3L (by simpa using h)];rfl
theorem z3M {k:α}{v:β}:∀{l:List (α×β)} {i:Nat},AC k l=some i→lB k v l=l.set i (k,v)
 | [],i,h=>by cases h
 | e::r,i,h=>by
  unfold AC at h;unfold lB;split at h
  ·rename_i hk;cases h;simp [hk]
  ·rename_i hk
   obtain⟨j,hj,e2⟩:=Option.map_eq_some_iff.1 h;subst e2;rw[if_neg hk,z3M hj];rfl
theorem z1L (k:α)(v:β):∀(l:List (α×β)) (n:Nat),VD key val n (l++[(k,v)])=VD key val n l++[⟨key k,val v,n+l.length⟩]
 | [],n=>rfl
 | e::r,n=>by simp only[List.cons_append,VD,z1L k v r (n+1),List.length_cons];rw[show n+1+r.length=n+(r.length+1) by omega]
theorem zcd {k:α}{v:β}{l:List (α × β)}{i n:Nat}(h:AC k l=some i):(VD key val n l).modify i (fun e=>{ e with val:=val v })=VD key val n (l.set i (k,v)):=by
 apply List.ext_getElem?
 intro j;rw[List.getElem?_modify,rP,rP,List.getElem?_set];have hi:=z3V h
 have hg:=FX h
 by_cases hij:i=j
 ·subst hij
  rw[hg];simp only[if_true,hi];obtain⟨w,hw⟩:=Option.isSome_iff_exists.1 (z3X h);rw[hw];rfl
 ·simp [hij]
variable {h:aA} {id:Nat} {l:List (α × β)} {kk:Sh × List Nat} {k:α}
theorem z1M (hh:h[id]?=some (EA key val l)):SB h (.mp id)=some (id,VD key val 0 l,l.length):=by
 simp only[SB,hh,EA]
theorem iV (hk:DK key)(hh:h[id]?=some (EA key val l))(hq:FC kk (.p (key k))=some (key k)){ok:Bool}{z:AV} :
 CB kk ok z (.mp id) (.p (key k)) h=some (bif ok then .tup [((TA k l).map val).getD z,AV.p (.bool (TA k l).isSome)] else((TA k l).map val).getD z):=by
 simp only[CB,hq,z1M hh,Option.map_some,jV hk,zbY,Option.isSome_map];rfl
theorem z1O (hk:DK key)(hh:h[id]?=some (EA key val l))(hq:FC kk (.p (key k))=some (key k)){v:β}(hv:JG (val v)=true) :
 NB kk (.mp id) (.p (key k)) (val v) h=some (.und,h.set id (EA key val (lB k v l)),vC id (val v)):=by
 simp only[NB,hq,z1M hh,hv,jV hk];cases hw:AC k l with
 | none=>
  simp only[EA,z3L hw,z1L,List.length_append,List.length_cons,List.length_nil,Nat.zero_add]
 | some i=>
  simp only[EA,z3M hw,zcd hw,List.length_set]
end
end Go.Am
end
section
/- Devices on a chain: which register is selected: the program. -/
open Go
set_option linter.all false
set_option maxRecDepth 100000
namespace Go.Am
variable {h:aA} {K:kA}
attribute [-go_sem] PA
def FA (r:TReg):PV:=.agg [.str r.name,eI r.long]
def vB (i:TIns):PV:=.agg [.str i.code,.str i.reg]
def dB (d:TDev):PV:=.agg [.str d.name,eI d.long,eI d.id,.sl (some 2) (d.regs.map FA),.sl (some 2) (d.ins.map vB)]
abbrev tB (d:TDev):AV:=.p (dB d)
abbrev qD (ds:List TDev):AV:=.p (.sl (some 5) (ds.map dB))
def ZB (d:TDev):List AV:=[AS d.name,AI d.long,AI d.id,.p (.sl (some 2) (d.regs.map FA)),.p (.sl (some 2) (d.ins.map vB))]
theorem z2y {l:List TReg}:SG (some 2) (l.map FA):=fun x hx=>by obtain⟨n,_,rfl⟩:=List.mem_map.1 hx;rfl
theorem zaZ {l:List TIns}:SG (some 2) (l.map vB):=fun x hx=>by obtain⟨n,_,rfl⟩:=List.mem_map.1 hx;rfl
theorem z7Q {l:List TDev}:SG (some 5) (l.map dB):=fun x hx=>by obtain⟨n,_,rfl⟩:=List.mem_map.1 hx;rfl
def WD (n:List UInt8):PV→Bool
 | .agg (.str s::_)=>decide (s=n)
 | _=>false
theorem z13 {α:Type}(f:α→PV){p:PV→Bool}{q:α→Bool}(hpq:∀ x,p (f x)=q x)(l:List α) :
 (l.find? q=none∧BD p (l.map f) = -1)∨∃k,∃hk:k<l.length,l.find? q=some l[k]∧BD p (l.map f)=(k:Int):=by
 have e:(l.map f).findIdx p=l.findIdx q:=by
  rw[List.findIdx_map];congr 1
  funext x
  exact hpq x
 unfold BD;rw[e,List.length_map];by_cases h:l.findIdx q<l.length
 ·right
  refine⟨l.findIdx q,h,z0U (fun x hx=>?_) (List.getElem?_eq_getElem h) List.findIdx_getElem,if_pos h⟩
  obtain⟨j,hj,rfl⟩:=List.mem_take_iff_getElem.1 hx;have:=List.not_of_lt_findIdx (p:=q) (xs:=l) (i:=j) (by omega)
  simpa using this
 ·left
  refine⟨?_,if_neg h⟩;rw[List.find?_eq_none];intro x hx;have:l.findIdx q=l.length:=by have:=List.findIdx_le_length (p:=q) (xs:=l);omega
  rw[List.findIdx_eq_length]at this;simp [this x hx]
def kK (d:TDev)(n:List UInt8):AV:=match bC d n with
 | some r=>.tup [.p (FA r),AB true]
 | none=>.tup [.p (.agg [.str [],eI 0]),AB false]
set_option maxHeartbeats 2000000 in
theorem qX (d:TDev)(n:List UInt8)(hl:d.regs.length≤1000000):eA X tH [tB d,AS n] h K=K (kK d n) h []:=by
 refine CA ?_;rw[z6U rfl];unfold kK bC rB DB;by_cases h1:n=[98,121,112,97,115,115]
 ·subst h1
  simp only[EF,go_sem,Nat.add_assoc,tB,dB,FA,if_true,splice]
 have tl:VE UL [.ref (h.length+1) 0] (WD n) (d.regs.map FA) (h++[.box (ZB d),.box [AS n],.box [AS [],AI 0]]):=fun x hx K=>by
  obtain⟨r,_,rfl⟩:=List.mem_map.1 hx;refine CA ?_;rw[z6V rfl];simp only[yO,go_sem,FA,WD]
 have ix:=fun K=>XX (h:=h++[.box (ZB d),.box [AS n],.box [AS [],AI 0]]) (K:=K) (oR z2y) tl (by simp;omega)
 rw[if_neg h1];unfold ZB at ix;by_cases h2:n=[105,100,99,111,100,101]
 ·subst h2
  have h1:¬([105,100,99,111,100,101]:List UInt8)=[98,121,112,97,115,115]:=by decide
  by_cases h3:d.id=0
  ·rw[if_neg (by simp [h3])]
   rcases z13 FA (p:=WD [105,100,99,111,100,101]) (q:=fun r=>r.name==[105,100,99,111,100,101]) (fun x=>by show decide (x.name=_)=(x.name==_);rw[Bool.eq_iff_iff];simp) d.regs with⟨e1,e2⟩|⟨k,hk,e1,e2⟩
   ·rw[e2]at ix
    rw[e1];simp only[EF,go_sem,Nat.add_assoc,tB,dB,h1,eq_true h3,↓ix,ix,splice]
   ·rw[e2]at ix
    rw[e1];have hg:=sC FA hk
    have k0:¬(k:Int)<0:=by omega
    have cx:bB (some 2) 0 (FA d.regs[k])=some (FA d.regs[k]):=rfl
    generalize d.regs[k]=r at *;have fp:∀y:TReg,FA y = .agg [.str y.name,eI y.long]:=fun _=>rfl
    rw[fp]at hg cx;simp only[EF,go_sem,Nat.add_assoc,tB,dB,h1,eq_true h3,↓ix,ix,hk,hg,k0,cx,fp,splice]
  ·rw[if_pos ⟨rfl,h3⟩]
   simp only[EF,go_sem,Nat.add_assoc,tB,dB,h1,h3,FA,splice]
 ·rw[if_neg (by simp [h2])]
  rcases z13 FA (p:=WD n) (q:=fun r=>r.name==n) (fun x=>by show decide (x.name=n)=(x.name==n);rw[Bool.eq_iff_iff];simp) d.regs with⟨e1,e2⟩|⟨k,hk,e1,e2⟩
  ·rw[e2]at ix
   rw[e1];simp only[EF,go_sem,Nat.add_assoc,tB,dB,h1,h2,↓ix,ix,splice]
  ·rw[e2]at ix
   rw[e1];have hg:=sC FA hk
   have k0:¬(k:Int)<0:=by omega
   have cx:bB (some 2) 0 (FA d.regs[k])=some (FA d.regs[k]):=rfl
   generalize d.regs[k]=r at *;have fp:∀y:TReg,FA y = .agg [.str y.name,eI y.long]:=fun _=>rfl
   rw[fp]at hg cx;simp only[EF,go_sem,Nat.add_assoc,tB,dB,h1,h2,↓ix,ix,hk,hg,k0,cx,fp,splice]
attribute [-go_sem] CU XK
theorem zfD (d:TDev)(code:List UInt8)(hl:d.regs.length≤1000000)(hi:d.ins.length≤1000000):eA X XL [tB d,AS code] h K=K (.p (FA ((bC d (ZF d code)).getD ⟨[],0⟩))) h []:=by
 refine CA ?_;rw[z6Y rfl];have e3:=@CU
 simp only[DO,go_sem,tB,dB,List.length_map];refine nB (fun k:Nat=>⟨[(1,AS code),(2,.ref h.length 0),(4,.ref (h.length+1) 0),(5,AS ((d.ins.take k).foldl (fun n x=>if x.code=code then x.reg else n) rB)),(11,.p (.sl (some 2) (d.ins.map vB))),(12,AI d.ins.length),(13,AI k)],h++[.box (ZB d),.box [AS [],AI 0]],[]⟩) (fun k=>k≤d.ins.length) (fun k=>d.ins.length-k) 0 rfl (by omega) ?_
 intro k hk;rcases Nat.lt_or_ge k d.ins.length with hlt|hge
 ·have hg:=sC vB hlt
  have w2:IntKind.i64.wrap ((k:Int)+1)=((k+1:Nat):Int):=GA _ (by omega) (by omega)
  have ef:(d.ins.take (k+1)).foldl (fun n x=>if x.code=code then x.reg else n) rB=if d.ins[k].code=code then d.ins[k].reg else(d.ins.take k).foldl (fun n x=>if x.code=code then x.reg else n) rB:=by
   rw[List.take_succ_eq_append_getElem hlt,List.foldl_append];rfl
  have cx:bB (some 2) 0 (vB d.ins[k])=some (vB d.ins[k]):=rfl
  generalize (d.ins.take k).foldl (fun n x=>if x.code=code then x.reg else n) rB=nm at *
  generalize d.ins[k]=i at *;have fp:∀y:TIns,vB y = .agg [.str y.code,.str y.reg]:=fun _=>rfl
  rw[fp]at hg cx;by_cases hc:i.code=code
  ·rw[if_pos hc]at ef
   simp only[go_sem,Nat.add_assoc,hlt,hg,cx,w2,hc,splice];exact⟨k+1,by rw[ef],by omega,by omega⟩
  ·rw[if_neg hc]at ef
   simp only[go_sem,Nat.add_assoc,hlt,hg,cx,w2,hc,splice];exact⟨k+1,by rw[ef],by omega,by omega⟩
 ·have ek:k=d.ins.length:=by omega
  subst ek;rw[List.take_length];have q:=fun h K=>qX (h:=h) (K:=K) d (ZF d code) hl
  unfold kK at q;simp only[go_sem,Nat.lt_irrefl];rw[e3];simp only[XK];have fd:tB d = .p (.agg [.str d.name,eI d.long,eI d.id,.sl (some 2) (d.regs.map FA),.sl (some 2) (d.ins.map vB)]):=rfl
  have fs:ZF d code=d.ins.foldl (fun n x=>if x.code=code then x.reg else n) rB:=rfl
  rw[fd]at q;rw[←fs];cases hr:bC d (ZF d code) with
  | none=>
   rw[hr]at q;dsimp only at q;simp only[go_sem,Nat.add_assoc,ZB,splice,↓q,q,Option.getD_none,FA]
  | some r=>
   rw[hr]at q;dsimp only at q;simp only[go_sem,Nat.add_assoc,ZB,splice,↓q,q,Option.getD_some,FA]
abbrev SM:=List (List UInt8 × List UInt8)
def YA (s:List UInt8):AV:=AS s
def IB (d:TDev)(p:YB)(mi mo:Nat):List AV:=[AS d.name,AI d.long,AI d.id,.p (.sl (some 2) (d.regs.map FA)),.p (.sl (some 2) (d.ins.map vB)),AS p.1,AS p.2,.mp mi,.mp mo]
theorem z3h (d:TDev)(p:YB)(mi mo:Nat){id:Nat}(hh:h[id]?=some (.box (IB d p mi mo)))(hl:d.regs.length≤1000000)(hi:d.ins.length≤1000000):eA X VI [.ref id 0] h K=K (.p (FA (PB d p.1))) h []:=by
 refine CA ?_;rw[z6T rfl];have hid:id<h.length:=by
  rcases Nat.lt_or_ge id h.length with h1|h1
  ·exact h1
  ·rw[List.getElem?_eq_none h1]at hh;cases hh
 have g:∀l:aA,(h++l)[id]?=some (.box (IB d p mi mo)):=fun l=>by rw[List.getElem?_append_left hid];exact hh
 obtain⟨i,s⟩:=p;unfold PB;dsimp only;have q1:=fun h K=>qX (h:=h) (K:=K) d DB hl
 have q2:=fun h K=>zfD (h:=h) (K:=K) d i hl hi
 unfold kK DB at q1;unfold IB at g hh;have fd:tB d = .p (.agg [.str d.name,eI d.long,eI d.id,.sl (some 2) (d.regs.map FA),.sl (some 2) (d.ins.map vB)]):=rfl
 rw[fd]at q1 q2;unfold DB;by_cases hc:i=[]
 ·subst hc
  rw[if_pos rfl];cases hr:bC d [105,100,99,111,100,101]with
  | none=>
   rw[hr]at q1;dsimp only at q1;simp only[JI,go_sem,Nat.add_assoc,hid,g,hh,splice,↓q1,q1,FA,rB]
  | some r=>
   rw[hr]at q1;dsimp only at q1;simp only[JI,go_sem,Nat.add_assoc,hid,g,hh,splice,↓q1,q1,FA]
 ·rw[if_neg hc]
  generalize (bC d (ZF d i)).getD ⟨[],0⟩=r at *;have fp:∀y:TReg,FA y = .agg [.str y.name,eI y.long]:=fun _=>rfl
  rw[fp]at q2;simp only[JI,go_sem,Nat.add_assoc,hid,g,hh,hc,splice,↓q2,q2,fp]
end Go.Am
end
section
/- A builder of strings. -/
open Go
set_option linter.all false
namespace Go.Am
variable {h:aA} {K:kA}
def bldB (u:Bool)(id n:Nat):Obj:=.box [bif u then .ref id 0 else .bt 0 bldT id 0,.bt 1 bldE (id+1) n]
theorem qI (s:List UInt8):(AA s).length=s.length:=by simp [AA]
theorem sR (s:List UInt8):uE (AA s)=some s:=by
 induction s with
 | nil=>rfl
 | cons a r ih=>
  have h1:(0:Int)≤(a.toNat:Int)∧(a.toNat:Int)<256:=⟨by omega,by have:=a.toNat_lt;omega⟩
  have e:AA (a::r) = .int .u8 a.toNat::AA r:=rfl
  rw[e];unfold uE;rw[if_pos h1,ih];simp
end Go.Am
end
section
/- Devices on a chain: what is captured;clones: the program. -/
open Go
set_option linter.all false
set_option maxRecDepth 100000
namespace Go.Am
variable {h:aA} {K:kA}
attribute [-go_sem] PA
theorem zfn (l:List TReg)(hl:l.length≤1000000):eA X zL [.p (.sl (some 2) (l.map FA))] h K=K (.p (.sl (some 2) (l.map FA))) h []:=by
 refine CA ?_;rw[z67 rfl];simp only[YN];cases l with
 | nil=>
  refine⟨_,_,_,⟨rfl,rfl,rfl⟩,?_⟩;simp only[List.map_nil,List.length_nil,go_sem];trivial
 | cons x r=>
  refine⟨_,_,_,⟨rfl,rfl,rfl⟩,?_⟩;have hm:r.length+1≤LA:=by simp only[List.length_cons]at hl;unfold LA;omega
  simp only[List.map_cons,List.length_cons,go_sem,hm];rw[dE (by simp)]
theorem zfm (l:List TIns)(hl:l.length≤1000000):eA X yL [.p (.sl (some 2) (l.map vB))] h K=K (.p (.sl (some 2) (l.map vB))) h []:=by
 refine CA ?_;rw[z66 rfl];simp only[XN];cases l with
 | nil=>
  refine⟨_,_,_,⟨rfl,rfl,rfl⟩,?_⟩;simp only[List.map_nil,List.length_nil,go_sem];trivial
 | cons x r=>
  refine⟨_,_,_,⟨rfl,rfl,rfl⟩,?_⟩;have hm:r.length+1≤LA:=by simp only[List.length_cons]at hl;unfold LA;omega
  simp only[List.map_cons,List.length_cons,go_sem,hm];rw[dE (by simp)]
theorem zaS {id:Int}(h0:0≤id)(h1:id≤4294967295){k:Nat}(hk:k<32):BG .i64 (yH .i64 id (k:Int)) 1=(((id.toNat >>> k)%2:Nat):Int):=by
 obtain⟨n,rfl⟩:∃n:Nat,id=n:=⟨id.toNat,by omega⟩
 have e:yH .i64 (n:Int) (k:Int)=((n / 2^k:Nat):Int):=by
  unfold yH;have:min ((k:Int)).toNat IntKind.i64.bits=k:=by simp only[IntKind.bits,Int.toNat_natCast];omega
  rw[this,show((2:Int)^k)=((2^k:Nat):Int) by simp]
  exact(Int.ofNat_fdiv n (2^k)).symm
 have hn:n / 2^k≤n:=Nat.div_le_self _ _
 rw[e,Int.toNat_natCast,Nat.shiftRight_eq_div_pow];generalize n / 2^k=m at *;unfold BG;have b1:BitVec.ofInt IntKind.i64.bits (m:Int)=BitVec.ofNat 64 m:=by
  show BitVec.ofInt 64 (m:Int)=_
  simp
 have b2:BitVec.ofInt IntKind.i64.bits (1:Int)=BitVec.ofNat 64 1:=rfl
 have e2:(BitVec.ofInt IntKind.i64.bits (m:Int) &&& BitVec.ofInt IntKind.i64.bits 1).toNat=m%2:=by
  rw[b1,b2];show(BitVec.ofNat 64 m &&& BitVec.ofNat 64 1).toNat=_
  rw[BitVec.toNat_and,BitVec.toNat_ofNat,BitVec.toNat_ofNat,Nat.mod_eq_of_lt (by omega),Nat.mod_eq_of_lt (by omega),Nat.and_one_is_mod]
 rw[e2];exact GA _ (by omega) (by omega)
theorem zaR {id:Int}{k:Nat}(hk:k<32):(CC id)[k]?=some (UInt8.ofNat (48+(id.toNat >>> k)%2)):=by
 unfold CC;simp [hk]
theorem z11 {id:Int}:(CC id).length=32:=by simp [CC]
def InM (d:TDev)(m:SM):Prop:=∀r∈d.regs,TA r.name m=some (zs r.long.toNat)
theorem z1G {hp:aA}{id:Nat}{m:SM}{k:List UInt8}(hh:hp[id]?=some (EA PV.str YA m)):CB (none,[2]) false (.p (.str [])) (.mp id) (AS k) hp=some (AS ((TA k m).getD [])):=by
 have:=iV (key:=PV.str) (val:=YA) z19 hh (kk:=(none,[2])) (k:=k) z1A (ok:=false) (z:=AS []);rw[this];cases TA k m <;> rfl
theorem EX {hp:aA}{id:Nat}{m:SM}{k v:List UInt8}(hh:hp[id]?=some (EA PV.str YA m)):NB (none,[2]) (.mp id) (AS k) (AS v) hp=some (.und,hp.set id (EA PV.str YA (lB k v m)),[]):=
 z1O (key:=PV.str) (val:=YA) z19 hh (kk:=(none,[2])) (k:=k) z1A (v:=v) rfl
attribute [-go_sem] CB
set_option maxHeartbeats 2000000 in
theorem zft (d:TDev)(D:DevOk d)(p:YB)(mi mo:Nat){id:Nat}(hh:h[id]?=some (.box (IB d p mi mo))){m:SM}(hm:h[mi]?=some (EA PV.str YA m))(hI:InM d m)(hl:d.regs.length≤1000000)(hi:d.ins.length≤1000000) :
 eA X TL [.ref id 0] h K=K (AS (zF d p.1)) h []:=by
 refine CA ?_;rw[z6S rfl];have hid:id<h.length:=by
  rcases Nat.lt_or_ge id h.length with h1|h1
  ·exact h1
  ·rw[List.getElem?_eq_none h1]at hh;cases hh
 have him:mi<h.length:=by
  rcases Nat.lt_or_ge mi h.length with h1|h1
  ·exact h1
  ·rw[List.getElem?_eq_none h1]at hm;cases hm
 have g:∀l:aA,(h++l)[id]?=some (.box (IB d p mi mo)):=fun l=>by rw[List.getElem?_append_left hid];exact hh
 have q:=fun h (hh:h[id]?=some (.box (IB d p mi mo))) K=>z3h (h:=h) (K:=K) d p mi mo hh hl hi
 have q0:=q h hh
 have sc:=z3t D p.1
 have lk:∀l:aA,∀k:List UInt8,CB (none,[2]) false (.p (.str [])) (.mp mi) (AS k) (h++l)=some (AS ((TA k m).getD [])):=fun l k=>z1G (by rw[List.getElem?_append_left him];exact hm)
 unfold zF;generalize PB d p.1=r at *;have fp:∀y:TReg,FA y = .agg [.str y.name,eI y.long]:=fun _=>rfl
 unfold rB DB at *;rw[fp]at q0;dsimp only;by_cases h1:r.name=[98,121,112,97,115,115]
 ·rw[if_pos h1]
  simp only[II,go_sem,Nat.add_assoc,↓q0,q0,h1,splice]
 rw[if_neg h1];by_cases h2:r.name=[105,100,99,111,100,101]
 ·rw[if_pos h2]
  have n1:¬([105,100,99,111,100,101]:List UInt8)=[98,121,112,97,115,115]:=by decide
  simp only[II,go_sem,Nat.add_assoc,↓q0,q0,h2,n1,splice];refine nB (fun k:Nat=>⟨[(0,.ref id 0),(4,.own (h.length+1) k 0 k),(21,AI k)],h++[.box [AS [105,100,99,111,100,101],AI r.long],.row none (AA ((CC d.id).take k)) 0],[]⟩) (fun k=>k≤32) (fun k=>32-k) 0 rfl (by omega) ?_
  intro k hk;have hlk:(AA ((CC d.id).take k)).length=k:=by simp [AA,z11];omega
  rcases Nat.lt_or_ge k 32 with hlt|hge
  ·have hlt':(k:Int)<32:=by omega
   have k0:¬(k:Int)<0:=by omega
   have w2:IntKind.i64.wrap ((k:Int)+1)=((k+1:Nat):Int):=GA _ (by omega) (by omega)
   have ib:=zaS D.i0 D.i1 hlt
   have hg:=zaR (id:=d.id) hlt
   have hx:(d.id.toNat >>> k)%2<2:=Nat.mod_lt _ (by omega)
   generalize (d.id.toNat >>> k)%2=b at *;have w3:IntKind.i64.wrap (48+(b:Int))=((48+b:Nat):Int):=by rw[GA _ (by omega) (by omega)];omega
   have w4:IntKind.u8.wrap ((48+b:Nat):Int)=((48+b:Nat):Int):=by simp [IntKind.wrap,IntKind.bits,IntKind.signed];omega
   have gd:∀l:aA,ldB none 2 (h++l)[id]?=some (AI d.id):=fun l=>by rw[g l];rfl
   have e1:AA ((CC d.id).take (k+1))=AA ((CC d.id).take k)++[.int .u8 ((48+b:Nat):Int)]:=by
    rw[List.take_add_one,hg];simp only[Option.toList,AA,List.map_append,List.map_cons,List.map_nil];rw[UInt8.toNat_ofNat'];congr 4
    omega
   have ms:k+1≤LA:=by unfold LA;omega
   have f1:id≤h.length+1:=by omega
   simp only[go_sem,Nat.add_assoc,hlt',k0,gd,ib,w2,w3,w4,hlk,ms,f1];refine⟨k+1,?_,by omega,by omega⟩
   rw[e1]
  ·have ek:k=32:=by omega
   subst ek;have et:(CC d.id).take 32=CC d.id:=List.take_of_length_le (by rw[z11];omega)
   rw[et]at hlk ⊢;have tb:uE (AA (CC d.id))=some (CC d.id):=sR _
   have wf:win (AA (CC d.id)) 0 32=AA (CC d.id):=dE hlk
   simp only[go_sem,Nat.lt_irrefl,Nat.add_assoc,hlk,wf,tb]
 ·rw[if_neg h2]
  have hr:r∈d.regs:=by
   rcases sc with c|c|c
   ·exact absurd c h1
   ·exact absurd c h2
   ·exact c
  have hg:=hI r hr
  have lk':=fun l=>lk l r.name
  rw[hg,Option.getD_some]at lk';have gd:∀l:aA,ldB none 7 (h++l)[id]?=some (.mp mi):=fun l=>by rw[g l];rfl
  simp only[II,go_sem,Nat.add_assoc,↓q0,q0,h1,h2,gd,lk',splice]
end Go.Am
end
