/- Texts of the proof, laid together: CodesB, CodesC, CodesD. -/
import Derived.KernelRfl
import Derived.Test.YtpmbmbgfmcmlhaaGreatDoorlawUA4
set_option linter.all false
section
/- The functions asv abstract code,and asv formulas over their values: printed by program out of the translation. -/
set_option linter.all false
set_option maxRecDepth 100000
namespace Go.Am
def kX:ACode:=(.seq (rg [mV 4 (cI 0)] [0,1])
(.seq (rg [mV 7 0,
uO 8 (.nilchk 7),
fA 9 1 none 8,
lD 10 none 9,
bN 11 .add 10 (cI 1),
uO 12 (.nilchk 7),
fA 13 1 none 12,
wO (.store none 13 11)] [0,1])
(.seq (.seq (rg [mV 14 0,
uO 15 (.nilchk 14),
fA 16 0 none 15,
lD 17 none 16,
lN 18 17,
bN 19 .eql 18 (cI 0)] [0,1,19])
(.cond 19 (.seq (rg [mV 20 0,
uO 21 (.nilchk 20),
fA 22 1 none 21,
lD 23 none 22,
bN 24 .mul 23 (cI 7919),
mV 25 1,
cL 26 SG [24,25],
mV 4 26] [4])
.ret)
.skip))
(.seq (dr [dF (mV 27 0) [0],
dF (uO 28 (.nilchk 27)) [27],
dF (fA 29 1 none 28) [28],
dF (lD 30 none 29) [29],
dF (bN 31 .sub 30 (cI 1)) [30],
dF (mV 32 0) [0],
dF (uO 33 (.nilchk 32)) [32],
dF (fA 34 0 none 33) [33],
dF (lD 35 none 34) [34],
dF (lN 36 35) [35],
dF (bN 37 .rem 31 36) [31,36],
dF (mV 5 37) [37]] [0,1,5])
(.seq (dr [dF (mV 38 0) [0],
dF (uO 39 (.nilchk 38)) [38],
dF (fA 40 1 none 39) [39],
dF (lD 41 none 40) [40],
dF (bN 42 .sub 41 (cI 1)) [41],
dF (mV 43 0) [0],
dF (uO 44 (.nilchk 43)) [43],
dF (fA 45 0 none 44) [44],
dF (lD 46 none 45) [45],
dF (lN 47 46) [46],
dF (bN 48 .quo 42 47) [42,47],
dF (mV 6 48) [48]] [0,1,5,6])
(.seq (rg [mV 49 0,
uO 50 (.nilchk 49),
fA 51 0 none 50,
lD 52 none 51,
mV 53 5,
iA 54 none 52 53,
lD 55 none 54,
cL 56 SG [55,(cI 1073741824)],
mV 57 6,
mV 58 5,
bN 59 .add (cI 7919) 58,
bN 60 .mul 57 59,
bN 61 .add 56 60,
mV 62 1,
cL 63 SG [61,62],
mV 4 63] [4])
.ret))))))
def IR:AFun:=⟨2,[.t 4],kX,false,false⟩
def yK (C:Hd)(gl:GL)(e:En)(h:aA)(x:Esc)(K:KT):Sf C gl kX e h x K:=⟨_,by simp only[kX,↓wZ,AO.still];rfl⟩
theorem zbB {C gl v0 v1 h x K}:NW C gl IR.body ⟨enter [v0,v1],h,x⟩ K=(yK C gl [(0,v0),(1,v1)] h x K).1:=(yK C gl [(0,v0),(1,v1)] h x K).2
def WI:ACode:=.pr [5,6,7] (.seq (rg [bN 8 .lss 7 6] [5,6,7,8])
(.seq (.cond 8 .skip
(.exit 0))
(.seq (.block 1 (.seq (rg [iA 9 none 5 7,
lD 10 none 9,
mV 4 10] [4,5,6,7])
(.seq (rg [mV 11 4,
bN 12 .neq 11 (cI 0)] [4,5,6,7,12])
(.cond 12 (.seq (rg [mV 13 4,
mV 2 13] [2])
.ret)
.skip))))
(rg [bN 14 .add 7 (cI 1),
mV 7 14] [5,6,7]))))
def YS (C:Hd)(gl:GL)(e:En)(h:aA)(x:Esc)(K:KT):Sf C gl WI e h x K:=⟨_,by simp only[WI,↓wZ,AO.still];rfl⟩
theorem zaq {C gl e h x K}:NW C gl WI ⟨e,h,x⟩ K=(YS C gl e h x K).1:=(YS C gl e h x K).2
theorem zeH {C gl e h x K}:NW C gl (.loop WI) ⟨e,h,x⟩ K=DA C gl WI K [(5,bA e 5),(6,bA e 6),(7,bA e 7)] h x:=mB
def fP:ACode:=.pr [] (.seq (rg [mV 2 (cI 0)] [2])
.ret)
def ZS (C:Hd)(gl:GL)(e:En)(h:aA)(x:Esc)(K:KT):Sf C gl fP e h x K:=⟨_,by simp only[fP,↓wZ,AO.still];rfl⟩
theorem zar {C gl e h x K}:NW C gl fP ⟨e,h,x⟩ K=(ZS C gl e h x K).1:=(ZS C gl e h x K).2
def qW:ACode:=(.seq (rg [mV 2 (cI 0)] [0])
(.seq (.seq (rg [mV 5 0,
lN 6 5,
mV 7 (cI 0)] [5,6,7])
(.block 0 (.loop WI)))
fP))
def BM:AFun:=⟨1,[.t 2],qW,false,false⟩
def kN (C:Hd)(gl:GL)(e:En)(h:aA)(x:Esc)(K:KT):Sf C gl qW e h x K:=⟨_,by simp only[qW,↓wZ,AO.still];rfl⟩
theorem zap {C gl v0 h x K}:NW C gl BM.body ⟨enter [v0],h,x⟩ K=(kN C gl [(0,v0)] h x K).1:=(kN C gl [(0,v0)] h x K).2
def EW:ACode:=(.seq (rg [mV 4 (cI 0)] [0,1])
(.seq (.seq (rg [mV 6 0,
cL 7 NK [6],
mV 5 7] [0,1,5])
(.seq (rg [mV 8 5,
bN 9 .neq 8 (cI 0)] [0,1,5,9])
(.cond 9 (.seq (rg [mV 10 5,
mV 4 10] [4])
.ret)
.skip)))
(.seq (rg [mV 11 0,
mV 12 1,
cL 13 SK [11,12],
mV 4 13] [4])
.ret)))
def fR:AFun:=⟨2,[.t 4],EW,false,false⟩
def qK (C:Hd)(gl:GL)(e:En)(h:aA)(x:Esc)(K:KT):Sf C gl EW e h x K:=⟨_,by simp only[EW,↓wZ,AO.still];rfl⟩
theorem zaH {C gl v0 v1 h x K}:NW C gl fR.body ⟨enter [v0,v1],h,x⟩ K=(qK C gl [(0,v0),(1,v1)] h x K).1:=(qK C gl [(0,v0),(1,v1)] h x K).2
def wJ:ACode:=.pr [0,3,9,10,11] (.seq (rg [bN 12 .lss 11 10] [0,3,9,10,11,12])
(.seq (.cond 12 .skip
(.exit 0))
(.seq (.block 1 (.seq (rg [iA 13 none 9 11,
lD 14 none 13,
mV 5 14] [0,3,5,9,10,11])
(.seq (rg [mV 15 3,
mV 16 5,
lN 17 16,
bN 18 .add 15 17,
mV 3 18] [0,3,9,10,11])
(.seq (rg [mV 19 3,
bN 20 .lss 19 (cI 0)] [0,3,9,10,11,20])
(.cond 20 .bad
.skip)))))
(rg [bN 22 .add 11 (cI 1),
mV 11 22] [0,3,9,10,11]))))
def oU (C:Hd)(gl:GL)(e:En)(h:aA)(x:Esc)(K:KT):Sf C gl wJ e h x K:=⟨_,by simp only[wJ,↓wZ,AO.still];rfl⟩
theorem zc2 {C gl e h x K}:NW C gl wJ ⟨e,h,x⟩ K=(oU C gl e h x K).1:=(oU C gl e h x K).2
theorem zfi {C gl e h x K}:NW C gl (.loop wJ) ⟨e,h,x⟩ K=DA C gl wJ K [(0,bA e 0),(3,bA e 3),(9,bA e 9),(10,bA e 10),(11,bA e 11)] h x:=mB
def xJ:ACode:=.pr [6,25,26,27] (.seq (rg [bN 28 .lss 27 26] [6,25,26,27,28])
(.seq (.cond 28 .skip
(.exit 2))
(.seq (.block 3 (.seq (rg [iA 29 none 25 27,
lD 30 none 29,
mV 8 30] [6,8,25,26,27])
(rg [mV 31 6,
mV 32 8,
uO 33 (.app (some 4) 31 32),
mV 6 33] [6,25,26,27])))
(rg [bN 34 .add 27 (cI 1),
mV 27 34] [6,25,26,27]))))
def pU (C:Hd)(gl:GL)(e:En)(h:aA)(x:Esc)(K:KT):Sf C gl xJ e h x K:=⟨_,by simp only[xJ,↓wZ,AO.still];rfl⟩
theorem zc3 {C gl e h x K}:NW C gl xJ ⟨e,h,x⟩ K=(pU C gl e h x K).1:=(pU C gl e h x K).2
theorem zfj {C gl e h x K}:NW C gl (.loop (.scope xJ)) ⟨e,h,x⟩ K=DA C gl (.scope xJ) K [(6,bA e 6),(25,bA e 25),(26,bA e 26),(27,bA e 27)] h x:=CC
def UP:ACode:=.pr [6] (.seq (rg [mV 35 6,
mV 2 35] [2])
.ret)
def qU (C:Hd)(gl:GL)(e:En)(h:aA)(x:Esc)(K:KT):Sf C gl UP e h x K:=⟨_,by simp only[UP,↓wZ,AO.still];rfl⟩
theorem zc4 {C gl e h x K}:NW C gl UP ⟨e,h,x⟩ K=(qU C gl e h x K).1:=(qU C gl e h x K).2
def VP:ACode:=.pr [0,3] (.seq (rg [mV 23 3,
cL 24 zV [(.c (.sl0 (some 4))),23],
mV 6 24] [0,6])
(.seq (.seq (rg [mV 25 0,
lN 26 25,
mV 27 (cI 0)] [6,25,26,27])
(.block 2 (.loop (.scope xJ))))
UP))
def rU (C:Hd)(gl:GL)(e:En)(h:aA)(x:Esc)(K:KT):Sf C gl VP e h x K:=⟨_,by simp only[VP,↓wZ,AO.still];rfl⟩
theorem zc5 {C gl e h x K}:NW C gl VP ⟨e,h,x⟩ K=(rU C gl e h x K).1:=(rU C gl e h x K).2
def NX:ACode:=(.seq (rg [mV 2 (.c (.p (.sl (some 4) [])))] [0])
(.seq (rg [mV 3 (cI 0)] [0,3])
(.seq (.seq (rg [mV 9 0,
lN 10 9,
mV 11 (cI 0)] [0,3,9,10,11])
(.block 0 (.loop wJ)))
VP)))
def lS:AFun:=⟨1,[.t 2],NX,false,true⟩
def aO (C:Hd)(gl:GL)(e:En)(h:aA)(x:Esc)(K:KT):Sf C gl NX e h x K:=⟨_,by simp only[NX,↓wZ,AO.still];rfl⟩
theorem zc1 {C gl v0 h x K}:NW C gl lS.body ⟨enter [v0],h,x⟩ K=(aO C gl [(0,v0)] h x K).1:=(aO C gl [(0,v0)] h x K).2
def UX:ACode:=(rg [mV 4 0,
mV 5 0,
lN 6 5,
mV 7 1,
cL 8 YG [4,6,7]] [])
def qS:AFun:=⟨2,[],UX,true,false⟩
def XH (C:Hd)(gl:GL)(e:En)(h:aA)(x:Esc)(K:KT):Sf C gl UX e h x K:=⟨_,by simp only[UX,↓wZ,AO.still];rfl⟩
theorem zcK {C gl v0 v1 h x K}:NW C gl qS.body ⟨enter [v0,v1],h,x⟩ K=(XH C gl [(0,v0),(1,v1)] h x K).1:=(XH C gl [(0,v0),(1,v1)] h x K).2
def IW:ACode:=(.seq (rg [uO 2 (.box 0),
uO 3 (.box 1),
mV 4 (cI 0)] [2,3])
(.seq (dr [dF (fA 5 1 none 2) [2],
dF (lD 6 none 5) [5],
dF (fA 7 1 none 3) [3],
dF (lD 8 none 7) [7],
dT (cL 9 lF [6,8]) [6,8],
dF (fA 10 0 none 2) [2],
dA (lD 11 none 10) [10] false [4] [],
dF (fA 12 0 none 3) [3],
dA (lD 13 none 12) [12] false [4] [],
dT (cL 14 oD [11,13]) [11,13],
dF (uO 15 (.bsl false none 2 (.int .i64 0) [(0,9),(1,14)])) [9,14],
dT (cL 16 mF [15]) [15],
dF (mV 4 16) [16]] [4])
.ret))
def lR:AFun:=⟨2,[.t 4],IW,false,false⟩
def uN (C:Hd)(gl:GL)(e:En)(h:aA)(x:Esc)(K:KT):Sf C gl IW e h x K:=⟨_,by simp only[IW,↓wZ,AO.still];rfl⟩
theorem zaT {C gl v0 v1 h x K}:NW C gl lR.body ⟨enter [v0,v1],h,x⟩ K=(uN C gl [(0,v0),(1,v1)] h x K).1:=(uN C gl [(0,v0),(1,v1)] h x K).2
def QP:ACode:=.pr [0,1,5,6,7] (rg [mV 36 7,
bN 37 .add 36 (cI 1),
mV 7 37] [0,1,5,6,7])
def gU (C:Hd)(gl:GL)(e:En)(h:aA)(x:Esc)(K:KT):Sf C gl QP e h x K:=⟨_,by simp only[QP,↓wZ,AO.still];rfl⟩
theorem zcv {C gl e h x K}:NW C gl QP ⟨e,h,x⟩ K=(gU C gl e h x K).1:=(gU C gl e h x K).2
def uJ:ACode:=.pr [0,1,5,6,7] (.seq (.seq (rg [mV 32 7,
mV 33 6,
lN 34 33,
bN 35 .lss 32 34] [0,1,5,6,7,35])
(.cond 35 .skip
(.exit 2)))
(.seq (.block 3 (.seq (dr [dF (mV 38 1) [1],
dF (mV 39 6) [6],
dF (mV 40 7) [7],
dF (iA 41 (some 4) 39 40) [39,40],
dF (lD 42 (some 4) 41) [41],
dF (mV 43 6) [6],
dF (mV 44 7) [7],
dF (bN 45 .sub 44 (cI 1)) [44],
dF (iA 46 (some 4) 43 45) [43,45],
dF (lD 47 (some 4) 46) [46],
dT (uO 48 (.callv 38 [42,47])) [38,42,47],
dF (uO 49 (.un .not 48)) [48]] [0,1,5,6,7,49])
(.cond 49 (.seq (rg [mV 50 0,
mV 51 5,
mV 52 6,
mV 53 7,
iA 54 (some 4) 52 53,
lD 55 (some 4) 54,
iA 56 (some 4) 50 51,
wO (.store (some 4) 56 55)] [0,1,5,6,7])
(rg [mV 57 5,
bN 58 .add 57 (cI 1),
mV 5 58] [0,1,5,6,7]))
.skip)))
QP))
def iU (C:Hd)(gl:GL)(e:En)(h:aA)(x:Esc)(K:KT):Sf C gl uJ e h x K:=⟨_,by simp only[uJ,↓wZ,AO.still];rfl⟩
theorem zcw {C gl e h x K}:NW C gl uJ ⟨e,h,x⟩ K=(iU C gl e h x K).1:=(iU C gl e h x K).2
theorem zfg {C gl e h x K}:NW C gl (.loop uJ) ⟨e,h,x⟩ K=DA C gl uJ K [(0,bA e 0),(1,bA e 1),(5,bA e 5),(6,bA e 6),(7,bA e 7)] h x:=mB
def RP:ACode:=.pr [0,5] (.seq (rg [mV 59 0,
mV 60 5,
uO 61 (.slice (some 4) 59 (some 60) none none),
wO (.clr (some 4) (.agg [.str [],.int .i64 0,.str [],.sl none []]) 61)] [0,5])
(.seq (rg [mV 62 0,
mV 63 5,
uO 64 (.slice (some 4) 62 none (some 63) none),
mV 4 64] [4])
.ret))
def jU (C:Hd)(gl:GL)(e:En)(h:aA)(x:Esc)(K:KT):Sf C gl RP e h x K:=⟨_,by simp only[RP,↓wZ,AO.still];rfl⟩
theorem zcx {C gl e h x K}:NW C gl RP ⟨e,h,x⟩ K=(jU C gl e h x K).1:=(jU C gl e h x K).2
def SP:ACode:=.pr [0,1,5] (rg [mV 16 5,
bN 17 .add 16 (cI 1),
mV 5 17] [0,1,5])
def kU (C:Hd)(gl:GL)(e:En)(h:aA)(x:Esc)(K:KT):Sf C gl SP e h x K:=⟨_,by simp only[SP,↓wZ,AO.still];rfl⟩
theorem zcy {C gl e h x K}:NW C gl SP ⟨e,h,x⟩ K=(kU C gl e h x K).1:=(kU C gl e h x K).2
def vJ:ACode:=.pr [0,1,5] (.seq (.seq (rg [mV 12 5,
mV 13 0,
lN 14 13,
bN 15 .lss 12 14] [0,1,5,15])
(.cond 15 .skip
(.exit 0)))
(.seq (.block 1 (.seq (dr [dF (mV 18 1) [1],
dF (mV 19 0) [0],
dF (mV 20 5) [5],
dF (iA 21 (some 4) 19 20) [19,20],
dF (lD 22 (some 4) 21) [21],
dF (mV 23 0) [0],
dF (mV 24 5) [5],
dF (bN 25 .sub 24 (cI 1)) [24],
dF (iA 26 (some 4) 23 25) [23,25],
dF (lD 27 (some 4) 26) [26],
dT (uO 28 (.callv 18 [22,27])) [18,22,27]] [0,1,5,28])
(.cond 28 (.seq (rg [mV 29 0,
mV 30 5,
uO 31 (.slice (some 4) 29 (some 30) none none),
mV 6 31] [0,1,5,6])
(.seq (.seq (rg [mV 7 (cI 1)] [0,1,5,6,7])
(.block 2 (.loop uJ)))
RP))
.skip)))
SP))
def lU (C:Hd)(gl:GL)(e:En)(h:aA)(x:Esc)(K:KT):Sf C gl vJ e h x K:=⟨_,by simp only[vJ,↓wZ,AO.still];rfl⟩
theorem zcz {C gl e h x K}:NW C gl vJ ⟨e,h,x⟩ K=(lU C gl e h x K).1:=(lU C gl e h x K).2
theorem zfh {C gl e h x K}:NW C gl (.loop vJ) ⟨e,h,x⟩ K=DA C gl vJ K [(0,bA e 0),(1,bA e 1),(5,bA e 5)] h x:=mB
def TP:ACode:=.pr [0] (.seq (rg [mV 65 0,
mV 4 65] [4])
.ret)
def nU (C:Hd)(gl:GL)(e:En)(h:aA)(x:Esc)(K:KT):Sf C gl TP e h x K:=⟨_,by simp only[TP,↓wZ,AO.still];rfl⟩
theorem zc0 {C gl e h x K}:NW C gl TP ⟨e,h,x⟩ K=(nU C gl e h x K).1:=(nU C gl e h x K).2
def MX:ACode:=(.seq (rg [mV 4 (.c (.p (.sl (some 4) [])))] [0,1])
(.seq (.seq (rg [mV 8 0,
lN 9 8,
bN 10 .lss 9 (cI 2)] [0,1,10])
(.cond 10 (.seq (rg [mV 11 0,
mV 4 11] [4])
.ret)
.skip))
(.seq (.seq (rg [mV 5 (cI 1)] [0,1,5])
(.block 0 (.loop vJ)))
TP)))
def kS:AFun:=⟨2,[.t 4],MX,true,false⟩
def CK (C:Hd)(gl:GL)(e:En)(h:aA)(x:Esc)(K:KT):Sf C gl MX e h x K:=⟨_,by simp only[MX,↓wZ,AO.still];rfl⟩
theorem zcu {C gl v0 v1 h x K}:NW C gl kS.body ⟨enter [v0,v1],h,x⟩ K=(CK C gl [(0,v0),(1,v1)] h x K).1:=(CK C gl [(0,v0),(1,v1)] h x K).2
def ZW:ACode:=(.seq (rg [uO 2 (.box 0),
uO 3 (.box 1),
mV 4 cF] [2,3])
(.seq (rg [fA 5 0 none 2,
lD 6 none 5,
fA 7 0 none 3,
lD 8 none 7,
bN 9 .eql 6 8,
mV 10 9,
gD 11 10 true (.faddr 1 none 2),
gD 12 10 true (.load none 11),
gD 13 10 true (.faddr 1 none 3),
gD 14 10 true (.load none 13),
gD 15 10 true (.bin .eql 12 14),
uO 16 (.pick 10 15 cF),
mV 17 16,
gD 18 17 true (.faddr 2 none 2),
gD 19 17 true (.load none 18),
gD 20 17 true (.faddr 2 none 3),
gD 21 17 true (.load none 20),
gD 22 17 true (.bin .eql 19 21),
uO 23 (.pick 17 22 cF),
mV 24 23,
gD 25 24 true (.faddr 3 none 2),
gD 26 24 true (.load none 25),
gD 27 24 true (.faddr 3 none 3),
gD 28 24 true (.load none 27),
gD 29 24 true (.call DI [26,28]),
uO 30 (.pick 24 29 cF),
mV 4 30] [4])
.ret))
def zR:AFun:=⟨2,[.t 4],ZW,false,false⟩
def HG (C:Hd)(gl:GL)(e:En)(h:aA)(x:Esc)(K:KT):Sf C gl ZW e h x K:=⟨_,by simp only[ZW,↓wZ,AO.still];rfl⟩
theorem zbq {C gl v0 v1 h x K}:NW C gl zR.body ⟨enter [v0,v1],h,x⟩ K=(HG C gl [(0,v0),(1,v1)] h x K).1:=(HG C gl [(0,v0),(1,v1)] h x K).2
def KW:ACode:=(.seq (rg [uO 1 (.box 0),
uO 2 (.alloc [.p (.str []),.p (.int .i64 0),.p (.str []),.sl0 none])] [1,2])
(.seq (rg [fA 3 3 none 1,
lD 4 none 3,
cL 5 jL [4],
fA 6 3 none 1,
wO (.store none 6 5)] [1,2])
(.seq (rg [lD 7 (some 4) 1,
wO (.store (some 4) 2 7)] [2])
.ret)))
def nR:AFun:=⟨1,[.cell 2 (some 4)],KW,false,false⟩
def vN (C:Hd)(gl:GL)(e:En)(h:aA)(x:Esc)(K:KT):Sf C gl KW e h x K:=⟨_,by simp only[KW,↓wZ,AO.still];rfl⟩
theorem zaX {C gl v0 h x K}:NW C gl nR.body ⟨enter [v0],h,x⟩ K=(vN C gl [(0,v0)] h x K).1:=(vN C gl [(0,v0)] h x K).2
def zP:ACode:=.pr [7] (.seq (rg [mV 17 7,
mV 6 17] [6])
.ret)
def ET (C:Hd)(gl:GL)(e:En)(h:aA)(x:Esc)(K:KT):Sf C gl zP e h x K:=⟨_,by simp only[zP,↓wZ,AO.still];rfl⟩
theorem zbp {C gl e h x K}:NW C gl zP ⟨e,h,x⟩ K=(ET C gl e h x K).1:=(ET C gl e h x K).2
def YW:ACode:=(.seq (rg [mV 6 (cI 0)] [0,1,2])
(.seq (rg [mV 8 0,
mV 9 1,
cL 10 nF [8,9],
mV 7 10] [2,7])
(.seq (.seq (rg [mV 11 7,
bN 12 .eql 11 (cI 0),
mV 13 12,
gD 14 13 true (.mv 2),
gD 15 13 true (.call tB [14,(cI 1),(cI 3)]),
uO 16 (.pick 13 15 cF)] [7,16])
(.cond 16 (rg [mV 7 (cI 4)] [7])
.skip))
zP)))
def yR:AFun:=⟨3,[.t 6],YW,false,false⟩
def SH (C:Hd)(gl:GL)(e:En)(h:aA)(x:Esc)(K:KT):Sf C gl YW e h x K:=⟨_,by simp only[YW,↓wZ,AO.still];rfl⟩
theorem zbo {C gl v0 v1 v2 h x K}:NW C gl yR.body ⟨enter [v0,v1,v2],h,x⟩ K=(SH C gl [(0,v0),(1,v1),(2,v2)] h x K).1:=(SH C gl [(0,v0),(1,v1),(2,v2)] h x K).2
def wP:ACode:=.pr [0,2,7,8,14,15,16] (rg [bN 57 .add 16 (cI 1),
mV 16 57] [0,2,7,8,14,15,16])
def zT (C:Hd)(gl:GL)(e:En)(h:aA)(x:Esc)(K:KT):Sf C gl wP e h x K:=⟨_,by simp only[wP,↓wZ,AO.still];rfl⟩
theorem zba {C gl e h x K}:NW C gl wP ⟨e,h,x⟩ K=(zT C gl e h x K).1:=(zT C gl e h x K).2
def iJ:ACode:=.pr [0,2,7,8,14,15,16] (.seq (rg [bN 17 .lss 16 15] [0,2,7,8,14,15,16,17])
(.seq (.cond 17 .skip
(.exit 0))
(.seq (.block 1 (.seq (rg [iA 18 (some 4) 14 16,
lD 19 (some 4) 18,
uO 10 (.alloc [.p (.str []),.p (.int .i64 0),.p (.str []),.sl0 none]),
wO (.store (some 4) 10 19)] [0,2,7,8,10,14,15,16])
(.seq (rg [mV 21 7,
fA 22 0 none 10,
lD 23 none 22,
uO 24 (.look (none,[2]) true (AI 0) 21 23),
mV 20 24,
eX 25 20 0,
eX 26 20 1,
mV 11 25,
mV 12 26] [0,2,7,8,10,11,12,14,15,16])
(.seq (.seq (rg [mV 27 12,
uO 28 (.un .not 27)] [0,2,7,8,10,11,14,15,16,28])
(.cond 28 (.seq (rg [mV 29 7,
fA 30 0 none 10,
lD 31 none 30,
mV 32 8,
lN 33 32,
wO (.mupd (none,[2]) 29 31 33)] [0,2,7,8,10,14,15,16])
(.seq (rg [mV 34 8,
lD 35 (some 4) 10,
uO 36 (.bsl false (some 4) 1 (.agg [.str [],.int .i64 0,.str [],.sl none []]) [(0,35)]),
uO 37 (.app (some 4) 34 36),
mV 8 37] [0,2,7,8,14,15,16])
(.exit 1)))
.skip))
(.seq (rg [mV 38 2,
bN 39 .eql 38 (cI 2),
mV 40 39,
gD 41 40 false (.mv 2),
gD 42 40 false (.bin .eql 41 (cI 3)),
gD 43 40 false (.mv 42),
gD 44 43 true (.mv 0),
gD 45 43 true (.mv 8),
gD 46 43 true (.mv 11),
gD 47 43 true (.iaddr (some 4) 45 46),
gD 48 43 true (.load (some 4) 47),
gD 49 43 true (.call oF [44,48]),
gD 50 43 true (.bin .geq 49 (cI 0)),
gD 51 40 false (.pick 43 50 cF),
uO 52 (.pick 40 cT 51)] [0,2,7,8,10,11,14,15,16,52])
(.cond 52 (rg [mV 53 8,
mV 54 11,
lD 55 (some 4) 10,
iA 56 (some 4) 53 54,
wO (.store (some 4) 56 55)] [0,2,7,8,14,15,16])
.skip))))))
wP)))
def AT (C:Hd)(gl:GL)(e:En)(h:aA)(x:Esc)(K:KT):Sf C gl iJ e h x K:=⟨_,by simp only[iJ,↓wZ,AO.still];rfl⟩
theorem zbb {C gl e h x K}:NW C gl iJ ⟨e,h,x⟩ K=(AT C gl e h x K).1:=(AT C gl e h x K).2
theorem zeT {C gl e h x K}:NW C gl (.loop (.scope iJ)) ⟨e,h,x⟩ K=DA C gl (.scope iJ) K [(0,bA e 0),(2,bA e 2),(7,bA e 7),(8,bA e 8),(14,bA e 14),(15,bA e 15),(16,bA e 16)] h x:=CC
def xP:ACode:=.pr [8] (.seq (rg [mV 58 8,
cL 59 kL [58,(.f qI)]] [8])
(.seq (rg [mV 60 8,
mV 6 60] [6])
.ret))
def BT (C:Hd)(gl:GL)(e:En)(h:aA)(x:Esc)(K:KT):Sf C gl xP e h x K:=⟨_,by simp only[xP,↓wZ,AO.still];rfl⟩
theorem zbc {C gl e h x K}:NW C gl xP ⟨e,h,x⟩ K=(BT C gl e h x K).1:=(BT C gl e h x K).2
def MW:ACode:=(.seq (rg [mV 6 (.c (.p (.sl (some 4) [])))] [0,1,2])
(.seq (rg [uO 13 (.mkmap),
mV 7 13] [0,1,2,7])
(.seq (rg [uO 8 (.new0 (some 4))] [0,1,2,7,8])
(.seq (.seq (rg [mV 14 1,
lN 15 14,
mV 16 (cI 0)] [0,2,7,8,14,15,16])
(.block 0 (.loop (.scope iJ))))
xP))))
def pR:AFun:=⟨3,[.t 6],MW,false,false⟩
def wN (C:Hd)(gl:GL)(e:En)(h:aA)(x:Esc)(K:KT):Sf C gl MW e h x K:=⟨_,by simp only[MW,↓wZ,AO.still];rfl⟩
theorem zaZ {C gl v0 v1 v2 h x K}:NW C gl pR.body ⟨enter [v0,v1,v2],h,x⟩ K=(wN C gl [(0,v0),(1,v1),(2,v2)] h x K).1:=(wN C gl [(0,v0),(1,v1),(2,v2)] h x K).2
def HW:ACode:=(.seq (rg [uO 3 (.box 1),
mV 4 (cI 0)] [0,3])
(.seq (.seq (rg [mV 6 0,
lD 7 (some 4) 3,
cL 8 oF [6,7],
mV 5 8] [0,5])
(.seq (rg [mV 9 5,
bN 10 .geq 9 (cI 0)] [0,5,10])
(.cond 10 (.seq (rg [mV 11 0,
mV 12 5,
iA 13 (some 4) 11 12,
fA 14 3 none 13,
lD 15 none 14,
mV 4 15] [4])
.ret)
.skip)))
(.seq (rg [mV 4 (cI 1)] [4])
.ret)))
def kR:AFun:=⟨2,[.t 4],HW,false,false⟩
def tK (C:Hd)(gl:GL)(e:En)(h:aA)(x:Esc)(K:KT):Sf C gl HW e h x K:=⟨_,by simp only[HW,↓wZ,AO.still];rfl⟩
theorem zaS {C gl v0 v1 h x K}:NW C gl kR.body ⟨enter [v0,v1],h,x⟩ K=(tK C gl [(0,v0),(1,v1)] h x K).1:=(tK C gl [(0,v0),(1,v1)] h x K).2
def UW:ACode:=(.seq (rg [uO 4 (.alloc [.p (.str []),.p (.str [])])] [0,1,4])
(.seq (rg [mV 5 0,
mV 6 1,
cL 7 mL [6],
uO 8 (.build [.p (.str []),.p (.str [])] [(0,1,5),(1,1,7)]),
wO (.store (some 2) 4 8)] [4])
.ret))
def uR:AFun:=⟨2,[.cell 4 (some 2)],UW,false,false⟩
def CN (C:Hd)(gl:GL)(e:En)(h:aA)(x:Esc)(K:KT):Sf C gl UW e h x K:=⟨_,by simp only[UW,↓wZ,AO.still];rfl⟩
theorem zbi {C gl v0 v1 h x K}:NW C gl uR.body ⟨enter [v0,v1],h,x⟩ K=(CN C gl [(0,v0),(1,v1)] h x K).1:=(CN C gl [(0,v0),(1,v1)] h x K).2
def zJ:ACode:=.pr [0,1,12,13] (.seq (rg [bN 14 .lss 13 12] [0,1,12,13,14])
(.seq (.cond 14 .skip
(.exit 0))
(.seq (.block 1 (.seq (rg [mV 15 13,
mV 5 15] [0,1,5,12,13])
(.seq (dr [dF (mV 16 0) [0],
dF (mV 17 5) [5],
dF (iA 18 none 16 17) [16,17],
dF (lD 19 none 18) [18],
dF (mV 20 1) [1],
dF (mV 21 5) [5],
dF (iA 22 none 20 21) [20,21],
dF (lD 23 none 22) [22],
dF (bN 24 .neq 19 23) [19,23]] [0,1,12,13,24])
(.cond 24 (.seq (rg [mV 4 cF] [4])
.ret)
.skip))))
(rg [bN 25 .add 13 (cI 1),
mV 13 25] [0,1,12,13]))))
def uU (C:Hd)(gl:GL)(e:En)(h:aA)(x:Esc)(K:KT):Sf C gl zJ e h x K:=⟨_,by simp only[zJ,↓wZ,AO.still];rfl⟩
theorem zcB {C gl e h x K}:NW C gl zJ ⟨e,h,x⟩ K=(uU C gl e h x K).1:=(uU C gl e h x K).2
theorem zfl {C gl e h x K}:NW C gl (.loop zJ) ⟨e,h,x⟩ K=DA C gl zJ K [(0,bA e 0),(1,bA e 1),(12,bA e 12),(13,bA e 13)] h x:=mB
def XP:ACode:=.pr [] (.seq (rg [mV 4 cT] [4])
.ret)
def vU (C:Hd)(gl:GL)(e:En)(h:aA)(x:Esc)(K:KT):Sf C gl XP e h x K:=⟨_,by simp only[XP,↓wZ,AO.still];rfl⟩
theorem zcC {C gl e h x K}:NW C gl XP ⟨e,h,x⟩ K=(vU C gl e h x K).1:=(vU C gl e h x K).2
def QX:ACode:=(.seq (rg [mV 4 cF] [0,1])
(.seq (.seq (rg [mV 6 0,
lN 7 6,
mV 8 1,
lN 9 8,
bN 10 .neq 7 9] [0,1,10])
(.cond 10 (.seq (rg [mV 4 cF] [4])
.ret)
.skip))
(.seq (.seq (rg [mV 11 0,
lN 12 11,
mV 13 (cI 0)] [0,1,12,13])
(.block 0 (.loop zJ)))
XP)))
def nS:AFun:=⟨2,[.t 4],QX,false,false⟩
def EK (C:Hd)(gl:GL)(e:En)(h:aA)(x:Esc)(K:KT):Sf C gl QX e h x K:=⟨_,by simp only[QX,↓wZ,AO.still];rfl⟩
theorem zcA {C gl v0 v1 h x K}:NW C gl nS.body ⟨enter [v0,v1],h,x⟩ K=(EK C gl [(0,v0),(1,v1)] h x K).1:=(EK C gl [(0,v0),(1,v1)] h x K).2
def LW:ACode:=(.seq (rg [uO 3 (.box 1),
mV 4 (cI 0)] [0,3])
(.seq (rg [fA 6 3 none 3,
lD 7 none 6,
lN 8 7,
bN 9 .sub 8 (cI 1),
mV 5 9] [0,3,5])
(.seq (.seq (dr [dF (mV 10 0) [0],
dF (mV 11 5) [5],
dF (iA 12 (some 4) 10 11) [10,11],
dF (lD 13 (some 4) 12) [12],
dF (fA 14 3 none 3) [3],
dF (lD 15 none 14) [14],
dF (mV 16 5) [5],
dF (iA 17 none 15 16) [15,16],
dF (lD 18 none 17) [17],
dT (cL 19 sI [13,18]) [13,18]] [5,19])
(.cond 19 (.seq (rg [mV 4 (cI (-1))] [4])
.ret)
.skip))
(.seq (rg [mV 20 5,
mV 4 20] [4])
.ret))))
def oR:AFun:=⟨2,[.t 4],LW,false,false⟩
def uK (C:Hd)(gl:GL)(e:En)(h:aA)(x:Esc)(K:KT):Sf C gl LW e h x K:=⟨_,by simp only[LW,↓wZ,AO.still];rfl⟩
theorem zaY {C gl v0 v1 h x K}:NW C gl oR.body ⟨enter [v0,v1],h,x⟩ K=(uK C gl [(0,v0),(1,v1)] h x K).1:=(uK C gl [(0,v0),(1,v1)] h x K).2
def rW:ACode:=(.seq (rg [uO 4 (.alloc [.p (.int .i64 0),.p (.int .i64 0)])] [0,1,4])
(.seq (rg [mV 6 0,
mV 7 0,
uO 8 (.un .neg 7),
uO 9 (.mx [6,8]),
mV 10 1,
cL 11 kI [9,10],
mV 5 11] [0,1,4,5])
(.seq (dr [dF (mV 12 0) [0],
dF (mV 13 5) [5],
dF (bN 14 .quo 12 13) [12,13],
dF (mV 15 1) [1],
dF (mV 16 5) [5],
dF (bN 17 .quo 15 16) [15,16],
dF (uO 18 (.build [.p (.int .i64 0),.p (.int .i64 0)] [(0,1,14),(1,1,17)])) [14,17],
dT (wO (.store (some 2) 4 18)) [4,18]] [4])
.ret)))
def CM:AFun:=⟨2,[.cell 4 (some 2)],rW,false,false⟩
def mN (C:Hd)(gl:GL)(e:En)(h:aA)(x:Esc)(K:KT):Sf C gl rW e h x K:=⟨_,by simp only[rW,↓wZ,AO.still];rfl⟩
theorem zas {C gl v0 v1 h x K}:NW C gl CM.body ⟨enter [v0,v1],h,x⟩ K=(mN C gl [(0,v0),(1,v1)] h x K).1:=(mN C gl [(0,v0),(1,v1)] h x K).2
def mX:ACode:=(.seq (rg [mV 4 (cI 0)] [0,1])
(.seq (rg [mV 5 1,
mV 6 0,
mV 7 1,
lN 8 7,
cL 9 OC [6,8],
iA 10 none 5 9,
lD 11 none 10,
mV 4 11] [4])
.ret))
def KR:AFun:=⟨2,[.t 4],mX,false,false⟩
def LN (C:Hd)(gl:GL)(e:En)(h:aA)(x:Esc)(K:KT):Sf C gl mX e h x K:=⟨_,by simp only[mX,↓wZ,AO.still];rfl⟩
theorem zbD {C gl v0 v1 h x K}:NW C gl KR.body ⟨enter [v0,v1],h,x⟩ K=(LN C gl [(0,v0),(1,v1)] h x K).1:=(LN C gl [(0,v0),(1,v1)] h x K).2
def iX:ACode:=(.seq (rg [mV 4 cF] [0,1])
(.seq (rg [mV 5 0,
mV 6 1,
cL 7 OC [5,6],
bN 8 .eql 7 (cI 0),
mV 4 8] [4])
.ret))
def GR:AFun:=⟨2,[.t 4],iX,false,false⟩
def KN (C:Hd)(gl:GL)(e:En)(h:aA)(x:Esc)(K:KT):Sf C gl iX e h x K:=⟨_,by simp only[iX,↓wZ,AO.still];rfl⟩
theorem zb8 {C gl v0 v1 h x K}:NW C gl GR.body ⟨enter [v0,v1],h,x⟩ K=(KN C gl [(0,v0),(1,v1)] h x K).1:=(KN C gl [(0,v0),(1,v1)] h x K).2
def vX:ACode:=(.seq (rg [mV 4 (cS [])] [0,1])
(.seq (rg [mV 5 1,
mV 6 0,
mV 7 1,
lN 8 7,
cL 9 OC [6,8],
iA 10 none 5 9,
lD 11 none 10,
mV 4 11] [4])
.ret))
def SR:AFun:=⟨2,[.t 4],vX,false,false⟩
def RN (C:Hd)(gl:GL)(e:En)(h:aA)(x:Esc)(K:KT):Sf C gl vX e h x K:=⟨_,by simp only[vX,↓wZ,AO.still];rfl⟩
theorem zbW {C gl v0 v1 h x K}:NW C gl SR.body ⟨enter [v0,v1],h,x⟩ K=(RN C gl [(0,v0),(1,v1)] h x K).1:=(RN C gl [(0,v0),(1,v1)] h x K).2
def lX:ACode:=(.seq (rg [mV 6 (cI 0)] [0,1,2])
(.seq (.seq (rg [mV 7 0,
cL 8 TD [7,(cI 12)]] [0,1,2,8])
(.cond 8 (.seq (rg [mV 9 0,
mV 10 1,
bN 11 .sub 10 (cI 1),
mV 12 2,
bN 13 .add 12 (cI 1),
mV 14 1,
mV 15 2,
uO 16 (.bsl false none 6 (.int .i64 0) [(0,11),(1,13),(2,14),(3,15),(4,(cI (-1099511627776))),(5,(cI 1099511627776))]),
cL 17 sC [9,16],
mV 6 17] [6])
.ret)
.skip))
(.seq (rg [mV 18 0,
mV 19 1,
mV 20 2,
cL 21 lE [18,19,20],
mV 6 21] [6])
.ret)))
def JR:AFun:=⟨3,[.t 6],lX,false,false⟩
def zK (C:Hd)(gl:GL)(e:En)(h:aA)(x:Esc)(K:KT):Sf C gl lX e h x K:=⟨_,by simp only[lX,↓wZ,AO.still];rfl⟩
theorem zbC {C gl v0 v1 v2 h x K}:NW C gl JR.body ⟨enter [v0,v1,v2],h,x⟩ K=(zK C gl [(0,v0),(1,v1),(2,v2)] h x K).1:=(zK C gl [(0,v0),(1,v1),(2,v2)] h x K).2
def wX:ACode:=(.seq (rg [mV 2 cF] [0])
(.seq (rg [mV 3 0,
uO 4 (.lens 3),
cL 5 UD [4,(cI 1),(cI 40)],
mV 6 5,
gD 7 6 true (.mv 0),
gD 8 6 true (.slstr 7 none (some (cI 1))),
gD 9 6 true (.call yI [8,(cS [97,98,99,100,101,102,103,104,105,106,107,108,109,110,111,112,113,114,115,116,117,118,119,120,121,122])]),
uO 10 (.pick 6 9 cF),
mV 11 10,
gD 12 11 true (.mv 0),
gD 13 11 true (.call yI [12,(cS [97,98,99,100,101,102,103,104,105,106,107,108,109,110,111,112,113,114,115,116,117,118,119,120,121,122,48,49,50,51,52,53,54,55,56,57,45,95])]),
uO 14 (.pick 11 13 cF),
mV 2 14] [2])
.ret))
def TR:AFun:=⟨1,[.t 2],wX,false,false⟩
def IG (C:Hd)(gl:GL)(e:En)(h:aA)(x:Esc)(K:KT):Sf C gl wX e h x K:=⟨_,by simp only[wX,↓wZ,AO.still];rfl⟩
theorem zbX {C gl v0 h x K}:NW C gl TR.body ⟨enter [v0],h,x⟩ K=(IG C gl [(0,v0)] h x K).1:=(IG C gl [(0,v0)] h x K).2
def BX:ACode:=(.seq (rg [uO 3 (.box 1),
mV 4 (cI 0)] [0,3])
(.seq (rg [mV 5 0,
uO 6 (.mkfn xI [3]),
cL 7 EI [5,6],
mV 4 7] [4])
.ret))
def YR:AFun:=⟨2,[.t 4],BX,false,false⟩
def TN (C:Hd)(gl:GL)(e:En)(h:aA)(x:Esc)(K:KT):Sf C gl BX e h x K:=⟨_,by simp only[BX,↓wZ,AO.still];rfl⟩
theorem zcg {C gl v0 v1 h x K}:NW C gl YR.body ⟨enter [v0,v1],h,x⟩ K=(TN C gl [(0,v0),(1,v1)] h x K).1:=(TN C gl [(0,v0),(1,v1)] h x K).2
def EX:ACode:=(.seq (rg [mV 6 cF] [0,1,2])
(.seq (rg [mV 7 1,
mV 8 0,
bN 9 .leq 7 8,
mV 10 9,
gD 11 10 true (.mv 0),
gD 12 10 true (.mv 2),
gD 13 10 true (.bin .leq 11 12),
uO 14 (.pick 10 13 cF),
mV 6 14] [6])
.ret))
def bS:AFun:=⟨3,[.t 6],EX,false,false⟩
def WN (C:Hd)(gl:GL)(e:En)(h:aA)(x:Esc)(K:KT):Sf C gl EX e h x K:=⟨_,by simp only[EX,↓wZ,AO.still];rfl⟩
theorem zcl {C gl v0 v1 v2 h x K}:NW C gl bS.body ⟨enter [v0,v1,v2],h,x⟩ K=(WN C gl [(0,v0),(1,v1),(2,v2)] h x K).1:=(WN C gl [(0,v0),(1,v1),(2,v2)] h x K).2
def rX:ACode:=(.seq (rg [uO 2 (.box 0),
uO 3 (.box 1),
mV 4 (cI 0)] [2,3])
(.seq (dr [dF (fA 5 1 none 2) [2],
dF (lD 6 none 5) [5],
dF (fA 7 1 none 3) [3],
dF (lD 8 none 7) [7],
dT (cL 9 lF [6,8]) [6,8],
dF (fA 10 0 none 2) [2],
dA (lD 11 none 10) [10] false [4] [],
dF (fA 12 0 none 3) [3],
dA (lD 13 none 12) [12] false [4] [],
dT (cL 14 oD [11,13]) [11,13],
dF (uO 15 (.bsl false none 2 (.int .i64 0) [(0,9),(1,14)])) [9,14],
dT (cL 16 mF [15]) [15],
dF (mV 4 16) [16]] [4])
.ret))
def NR:AFun:=⟨2,[.t 4],rX,false,false⟩
def ON (C:Hd)(gl:GL)(e:En)(h:aA)(x:Esc)(K:KT):Sf C gl rX e h x K:=⟨_,by simp only[rX,↓wZ,AO.still];rfl⟩
theorem zbO {C gl v0 v1 h x K}:NW C gl NR.body ⟨enter [v0,v1],h,x⟩ K=(ON C gl [(0,v0),(1,v1)] h x K).1:=(ON C gl [(0,v0),(1,v1)] h x K).2
def ZI:ACode:=.pr [3,6,7,8] (.seq (rg [bN 9 .lss 8 7] [3,6,7,8,9])
(.seq (.cond 9 .skip
(.exit 0))
(.seq (.block 1 (.seq (rg [iA 10 none 6 8,
lD 11 none 10,
mV 5 11] [3,5,6,7,8])
(.seq (rg [mV 12 5,
mV 13 3,
bN 14 .neq 12 13] [3,5,6,7,8,14])
(.cond 14 (.seq (rg [mV 15 5,
mV 2 15] [2])
.ret)
.skip))))
(rg [bN 16 .add 8 (cI 1),
mV 8 16] [3,6,7,8]))))
def gT (C:Hd)(gl:GL)(e:En)(h:aA)(x:Esc)(K:KT):Sf C gl ZI e h x K:=⟨_,by simp only[ZI,↓wZ,AO.still];rfl⟩
theorem za3 {C gl e h x K}:NW C gl ZI ⟨e,h,x⟩ K=(gT C gl e h x K).1:=(gT C gl e h x K).2
theorem zeK {C gl e h x K}:NW C gl (.loop ZI) ⟨e,h,x⟩ K=DA C gl ZI K [(3,bA e 3),(6,bA e 6),(7,bA e 7),(8,bA e 8)] h x:=mB
def kP:ACode:=.pr [3] (.seq (rg [mV 17 3,
mV 2 17] [2])
.ret)
def iT (C:Hd)(gl:GL)(e:En)(h:aA)(x:Esc)(K:KT):Sf C gl kP e h x K:=⟨_,by simp only[kP,↓wZ,AO.still];rfl⟩
theorem za4 {C gl e h x K}:NW C gl kP ⟨e,h,x⟩ K=(iT C gl e h x K).1:=(iT C gl e h x K).2
def xW:ACode:=(.seq (rg [mV 2 (cI 0)] [0])
(.seq (rg [mV 3 (cI 0)] [0,3])
(.seq (.seq (rg [mV 6 0,
lN 7 6,
mV 8 (cI 0)] [3,6,7,8])
(.block 0 (.loop ZI)))
kP)))
def IM:AFun:=⟨1,[.t 2],xW,false,false⟩
def qN (C:Hd)(gl:GL)(e:En)(h:aA)(x:Esc)(K:KT):Sf C gl xW e h x K:=⟨_,by simp only[xW,↓wZ,AO.still];rfl⟩
theorem za2 {C gl v0 h x K}:NW C gl IM.body ⟨enter [v0],h,x⟩ K=(qN C gl [(0,v0)] h x K).1:=(qN C gl [(0,v0)] h x K).2
def wW:ACode:=(.seq (rg [mV 4 (cI 0)] [0,1])
(.seq (rg [mV 7 0,
cL 8 MG [7],
mV 5 8] [0,1,5])
(.seq (rg [mV 9 1,
cL 10 MG [9],
mV 6 10] [0,1,5,6])
(.seq (.seq (rg [mV 11 5] [0,1,6,11])
(.cond 11 (.seq (.seq (rg [mV 12 6] [12])
(.cond 12 (.seq (rg [mV 4 (cI 0)] [4])
.ret)
.skip))
(.seq (rg [mV 4 (cI (-1))] [4])
.ret))
.skip))
(.seq (.seq (rg [mV 13 6] [0,1,13])
(.cond 13 (.seq (rg [mV 4 (cI 1)] [4])
.ret)
.skip))
(.seq (.seq (rg [mV 14 0,
mV 15 1,
bN 16 .lss 14 15] [0,1,16])
(.cond 16 (.seq (rg [mV 4 (cI (-1))] [4])
.ret)
.skip))
(.seq (.seq (rg [mV 17 0,
mV 18 1,
bN 19 .gtr 17 18] [19])
(.cond 19 (.seq (rg [mV 4 (cI 1)] [4])
.ret)
.skip))
(.seq (rg [mV 4 (cI 0)] [4])
.ret))))))))
def HM:AFun:=⟨2,[.t 4],wW,false,false⟩
def NH (C:Hd)(gl:GL)(e:En)(h:aA)(x:Esc)(K:KT):Sf C gl wW e h x K:=⟨_,by simp only[wW,↓wZ,AO.still];rfl⟩
theorem za1 {C gl v0 v1 h x K}:NW C gl HM.body ⟨enter [v0,v1],h,x⟩ K=(NH C gl [(0,v0),(1,v1)] h x K).1:=(NH C gl [(0,v0),(1,v1)] h x K).2
def bY:ACode:=(.seq (rg [mV 4 (cI 0)] [0,1])
(.seq (rg [mV 5 0,
mV 6 1,
cL 7 lI [5,6],
mV 4 7] [4])
.ret))
def PM:AFun:=⟨2,[.t 4],bY,false,false⟩
def lO (C:Hd)(gl:GL)(e:En)(h:aA)(x:Esc)(K:KT):Sf C gl bY e h x K:=⟨_,by simp only[bY,↓wZ,AO.still];rfl⟩
theorem zdu {C gl v0 v1 h x K}:NW C gl PM.body ⟨enter [v0,v1],h,x⟩ K=(lO C gl [(0,v0),(1,v1)] h x K).1:=(lO C gl [(0,v0),(1,v1)] h x K).2
def sX:ACode:=(.seq (rg [uO 2 (.box 0),
uO 3 (.box 1),
mV 4 cF] [2,3])
(.seq (rg [fA 5 1 none 2,
lD 6 none 5,
fA 7 1 none 3,
lD 8 none 7,
bN 9 .eql 6 8,
mV 10 9,
gD 11 10 true (.faddr 0 none 2),
gD 12 10 true (.load none 11),
gD 13 10 true (.faddr 0 none 3),
gD 14 10 true (.load none 13),
gD 15 10 true (.bin .eql 12 14),
uO 16 (.pick 10 15 cF),
mV 4 16] [4])
.ret))
def OR:AFun:=⟨2,[.t 4],sX,false,false⟩
def AK (C:Hd)(gl:GL)(e:En)(h:aA)(x:Esc)(K:KT):Sf C gl sX e h x K:=⟨_,by simp only[sX,↓wZ,AO.still];rfl⟩
theorem zbP {C gl v0 v1 h x K}:NW C gl OR.body ⟨enter [v0,v1],h,x⟩ K=(AK C gl [(0,v0),(1,v1)] h x K).1:=(AK C gl [(0,v0),(1,v1)] h x K).2
def GX:ACode:=(.seq (rg [uO 3 (.box 1),
mV 4 (cI 0)] [0,3])
(.seq (.block 0 (.seq (rg [fA 8 0 none 3,
lD 9 none 8,
cL 10 WG [9],
uO 11 (.un .not 10),
mV 12 11,
gD 13 12 false (.faddr 2 none 3),
gD 14 12 false (.load none 13),
gD 15 12 false (.call WG [14]),
gD 16 12 false (.un .not 15),
uO 17 (.pick 12 cT 16),
mV 7 17] [0,3,7])
(.cond 7 (.seq (rg [mV 4 (cI 5)] [4])
.ret)
(.seq (rg [fA 19 1 none 3,
lD 20 none 19,
cL 21 aL [20],
uO 22 (.un .not 21),
mV 18 22] [0,3,18])
(.cond 18 (.seq (rg [mV 4 (cI 1)] [4])
.ret)
(.seq (rg [fA 24 3 none 3,
lD 25 none 24,
cL 26 UF [25,(.f zI)],
mV 23 26] [0,3,23])
(.cond 23 (.seq (rg [mV 4 (cI 1)] [4])
.ret)
.skip)))))))
(.seq (rg [fA 27 3 none 3,
lD 28 none 27,
lN 29 28,
mV 5 29] [0,3,5])
(.seq (.seq (rg [mV 30 0,
fA 31 3 none 3,
lD 32 none 31,
cL 33 eL [30,32],
mV 6 33] [0,5,6])
(.seq (rg [mV 34 5,
mV 35 0,
lN 36 35,
cL 37 UD [34,(cI 1),36],
uO 38 (.un .not 37),
mV 39 38,
gD 40 39 false (.mv 6),
gD 41 39 false (.bin .geq 40 (cI 0)),
gD 42 39 false (.mv 41),
gD 43 42 true (.mv 6),
gD 44 42 true (.mv 5),
gD 45 42 true (.bin .sub 44 (cI 1)),
gD 46 42 true (.bin .neq 43 45),
gD 47 39 false (.pick 42 46 cF),
uO 48 (.pick 39 cT 47),
mV 49 48,
gD 50 49 false (.mv 6),
gD 51 49 false (.bin .lss 50 (cI 0)),
gD 52 49 false (.mv 51),
gD 53 52 true (.mv 5),
gD 54 52 true (.mv 0),
gD 55 52 true (.len 54),
gD 56 52 true (.bin .neq 53 55),
gD 57 49 false (.pick 52 56 cF),
uO 58 (.pick 49 cT 57)] [58])
(.cond 58 (.seq (rg [mV 4 (cI 3)] [4])
.ret)
.skip)))
(.seq (rg [mV 4 (cI 0)] [4])
.ret)))))
def eS:AFun:=⟨2,[.t 4],GX,false,false⟩
def SD (C:Hd)(gl:GL)(e:En)(h:aA)(x:Esc)(K:KT):Sf C gl GX e h x K:=⟨_,by simp only[GX,↓wZ,AO.still];rfl⟩
theorem zcp {C gl v0 v1 h x K}:NW C gl eS.body ⟨enter [v0,v1],h,x⟩ K=(SD C gl [(0,v0),(1,v1)] h x K).1:=(SD C gl [(0,v0),(1,v1)] h x K).2
def JX:ACode:=(.seq (rg [uO 2 (.box 0),
uO 3 (.box 1),
mV 4 (cI 0)] [2,3])
(.seq (.seq (rg [fA 5 1 none 2,
lD 6 none 5,
fA 7 1 none 3,
lD 8 none 7,
bN 9 .neq 6 8] [2,3,9])
(.cond 9 (.seq (rg [fA 10 1 none 2,
lD 11 none 10,
fA 12 1 none 3,
lD 13 none 12,
bN 14 .sub 11 13,
cL 15 iL [14],
mV 4 15] [4])
.ret)
.skip))
(.seq (rg [fA 16 0 none 2,
lD 17 none 16,
fA 18 0 none 3,
lD 19 none 18,
cL 20 oD [17,19],
mV 4 20] [4])
.ret)))
def gS:AFun:=⟨2,[.t 4],JX,false,false⟩
def BK (C:Hd)(gl:GL)(e:En)(h:aA)(x:Esc)(K:KT):Sf C gl JX e h x K:=⟨_,by simp only[JX,↓wZ,AO.still];rfl⟩
theorem zcr {C gl v0 v1 h x K}:NW C gl gS.body ⟨enter [v0,v1],h,x⟩ K=(BK C gl [(0,v0),(1,v1)] h x K).1:=(BK C gl [(0,v0),(1,v1)] h x K).2
def HP:ACode:=.pr [0] (.seq (rg [mV 15 0,
mV 4 15] [4])
.ret)
def QT (C:Hd)(gl:GL)(e:En)(h:aA)(x:Esc)(K:KT):Sf C gl HP e h x K:=⟨_,by simp only[HP,↓wZ,AO.still];rfl⟩
theorem zb7 {C gl e h x K}:NW C gl HP ⟨e,h,x⟩ K=(QT C gl e h x K).1:=(QT C gl e h x K).2
def gX:ACode:=(.seq (rg [mV 4 (cI 0)] [0,1])
(.seq (.seq (rg [mV 5 1,
bN 6 .lss 5 (cI 1)] [0,1,6])
(.cond 6 (.seq (rg [mV 4 (cI 0)] [4])
.ret)
.skip))
(.seq (rg [mV 7 0,
mV 8 1,
bN 9 .rem 7 8,
mV 0 9] [0,1])
(.seq (.seq (rg [mV 10 0,
bN 11 .lss 10 (cI 0)] [0,1,11])
(.cond 11 (rg [mV 12 0,
mV 13 1,
bN 14 .add 12 13,
mV 0 14] [0])
.skip))
HP))))
def FR:AFun:=⟨2,[.t 4],gX,false,false⟩
def JN (C:Hd)(gl:GL)(e:En)(h:aA)(x:Esc)(K:KT):Sf C gl gX e h x K:=⟨_,by simp only[gX,↓wZ,AO.still];rfl⟩
theorem zb6 {C gl v0 v1 h x K}:NW C gl FR.body ⟨enter [v0,v1],h,x⟩ K=(JN C gl [(0,v0),(1,v1)] h x K).1:=(JN C gl [(0,v0),(1,v1)] h x K).2
def cJ:ACode:=.pr [0,13,14,15] (.seq (rg [bN 16 .lss 15 14] [0,13,14,15,16])
(.seq (.cond 16 .skip
(.exit 1))
(.seq (.block 2 (.seq (rg [mV 17 15,
iA 18 (some 4) 13 15,
lD 19 (some 4) 18,
uO 4 (.alloc [.p (.str []),.p (.int .i64 0),.p (.int .i64 0),.p (.int .i64 0)]),
mV 3 17,
wO (.store (some 4) 4 19)] [0,3,4,13,14,15])
(.block 3 (.seq (rg [fA 21 0 none 4,
lD 22 none 21,
cL 23 IC [22],
uO 24 (.un .not 23),
mV 20 24] [0,3,4,13,14,15,20])
(.cond 20 (.seq (rg [mV 2 (cI 5)] [2])
.ret)
(.seq (dr [dF (mV 26 0) [0],
dF (mV 27 3) [3],
dF (uO 28 (.slice (some 4) 26 none (some 27) none)) [26,27],
dF (fA 29 0 none 4) [4],
dF (lD 30 none 29) [29],
dT (cL 31 QK [28,30]) [28,30],
dF (bN 32 .geq 31 (cI 0)) [31],
dF (mV 25 32) [32]] [0,4,13,14,15,25])
(.cond 25 (.seq (rg [mV 2 (cI 6)] [2])
.ret)
(.seq (rg [fA 34 1 none 4,
lD 35 none 34,
fA 36 2 none 4,
lD 37 none 36,
cL 38 tB [35,(cI (-100000)),37],
mV 39 38,
gD 40 39 false (.faddr 2 none 4),
gD 41 39 false (.load none 40),
gD 42 39 false (.bin .gtr 41 (cI 100000)),
uO 43 (.pick 39 cT 42),
mV 44 43,
gD 45 44 false (.faddr 3 none 4),
gD 46 44 false (.load none 45),
gD 47 44 false (.call tB [46,(cI 2),(cI 100)]),
uO 48 (.pick 44 cT 47),
mV 33 48] [0,13,14,15,33])
(.cond 33 (.seq (rg [mV 2 (cI 1)] [2])
.ret)
.skip)))))))))
(rg [bN 49 .add 15 (cI 1),
mV 15 49] [0,13,14,15]))))
def oT (C:Hd)(gl:GL)(e:En)(h:aA)(x:Esc)(K:KT):Sf C gl cJ e h x K:=⟨_,by simp only[cJ,↓wZ,AO.still];rfl⟩
theorem zaF {C gl e h x K}:NW C gl cJ ⟨e,h,x⟩ K=(oT C gl e h x K).1:=(oT C gl e h x K).2
theorem zeN {C gl e h x K}:NW C gl (.loop (.scope cJ)) ⟨e,h,x⟩ K=DA C gl (.scope cJ) K [(0,bA e 0),(13,bA e 13),(14,bA e 14),(15,bA e 15)] h x:=CC
def oP:ACode:=.pr [] (.seq (rg [mV 2 (cI 0)] [2])
.ret)
def pT (C:Hd)(gl:GL)(e:En)(h:aA)(x:Esc)(K:KT):Sf C gl oP e h x K:=⟨_,by simp only[oP,↓wZ,AO.still];rfl⟩
theorem zaG {C gl e h x K}:NW C gl oP ⟨e,h,x⟩ K=(pT C gl e h x K).1:=(pT C gl e h x K).2
def DW:ACode:=(.seq (rg [mV 2 (cI 0)] [0])
(.seq (.block 0 (.seq (rg [mV 6 0,
lN 7 6,
bN 8 .eql 7 (cI 0),
mV 5 8] [0,5])
(.cond 5 (.seq (rg [mV 2 (cI 8)] [2])
.ret)
(.seq (rg [mV 10 0,
lN 11 10,
bN 12 .gtr 11 (cI 100),
mV 9 12] [0,9])
(.cond 9 (.seq (rg [mV 2 (cI 2)] [2])
.ret)
.skip)))))
(.seq (.seq (rg [mV 13 0,
lN 14 13,
mV 15 (cI 0)] [0,13,14,15])
(.block 1 (.loop (.scope cJ))))
oP)))
def eR:AFun:=⟨1,[.t 2],DW,false,false⟩
def OH (C:Hd)(gl:GL)(e:En)(h:aA)(x:Esc)(K:KT):Sf C gl DW e h x K:=⟨_,by simp only[DW,↓wZ,AO.still];rfl⟩
theorem zaE {C gl v0 h x K}:NW C gl eR.body ⟨enter [v0],h,x⟩ K=(OH C gl [(0,v0)] h x K).1:=(OH C gl [(0,v0)] h x K).2
def jJ:ACode:=.pr [0,1,11,12,13] (.seq (rg [bN 14 .lss 13 12] [0,1,11,12,13,14])
(.seq (.cond 14 .skip
(.exit 0))
(.seq (.block 1 (.seq (rg [mV 15 13,
iA 16 (some 4) 11 13,
lD 17 (some 4) 16,
uO 6 (.alloc [.p (.str []),.p (.int .i64 0),.p (.str []),.sl0 none]),
mV 5 15,
wO (.store (some 4) 6 17)] [0,1,5,6,11,12,13])
(.seq (.seq (rg [mV 18 0,
lD 19 (some 4) 6,
cL 20 RK [18,19],
mV 7 20] [0,1,5,6,7,11,12,13])
(.seq (rg [mV 21 7,
bN 22 .neq 21 (cI 0)] [0,1,5,6,7,11,12,13,22])
(.cond 22 (.seq (rg [mV 23 7,
mV 4 23] [4])
.ret)
.skip)))
(.seq (dr [dF (mV 24 5) [5],
dF (bN 25 .gtr 24 (cI 0)) [24],
dF (mV 26 25) [25],
dF (gD 27 26 true (.load (some 4) 6)) [6,26],
dF (gD 28 26 true (.mv 1)) [1,26],
dF (gD 29 26 true (.mv 5)) [5,26],
dF (gD 30 26 true (.bin .sub 29 (cI 1))) [29,26],
dF (gD 31 26 true (.iaddr (some 4) 28 30)) [28,30,26],
dF (gD 32 26 true (.load (some 4) 31)) [31,26],
dT (gD 33 26 true (.call HE [27,32])) [27,32,26],
dF (gD 34 26 true (.bin .leq 33 (cI 0))) [33,26],
dF (uO 35 (.pick 26 34 cF)) [26,34]] [0,1,11,12,13,35])
(.cond 35 (.seq (rg [mV 4 (cI 7)] [4])
.ret)
.skip)))))
(rg [bN 36 .add 13 (cI 1),
mV 13 36] [0,1,11,12,13]))))
def CT (C:Hd)(gl:GL)(e:En)(h:aA)(x:Esc)(K:KT):Sf C gl jJ e h x K:=⟨_,by simp only[jJ,↓wZ,AO.still];rfl⟩
theorem zbm {C gl e h x K}:NW C gl jJ ⟨e,h,x⟩ K=(CT C gl e h x K).1:=(CT C gl e h x K).2
theorem zeU {C gl e h x K}:NW C gl (.loop (.scope jJ)) ⟨e,h,x⟩ K=DA C gl (.scope jJ) K [(0,bA e 0),(1,bA e 1),(11,bA e 11),(12,bA e 12),(13,bA e 13)] h x:=CC
def yP:ACode:=.pr [] (.seq (rg [mV 4 (cI 0)] [4])
.ret)
def DT (C:Hd)(gl:GL)(e:En)(h:aA)(x:Esc)(K:KT):Sf C gl yP e h x K:=⟨_,by simp only[yP,↓wZ,AO.still];rfl⟩
theorem zbn {C gl e h x K}:NW C gl yP ⟨e,h,x⟩ K=(DT C gl e h x K).1:=(DT C gl e h x K).2
def XW:ACode:=(.seq (rg [mV 4 (cI 0)] [0,1])
(.seq (.seq (rg [mV 8 1,
lN 9 8,
bN 10 .gtr 9 (cI 5000)] [0,1,10])
(.cond 10 (.seq (rg [mV 4 (cI 2)] [4])
.ret)
.skip))
(.seq (.seq (rg [mV 11 1,
lN 12 11,
mV 13 (cI 0)] [0,1,11,12,13])
(.block 0 (.loop (.scope jJ))))
yP)))
def xR:AFun:=⟨2,[.t 4],XW,false,false⟩
def vK (C:Hd)(gl:GL)(e:En)(h:aA)(x:Esc)(K:KT):Sf C gl XW e h x K:=⟨_,by simp only[XW,↓wZ,AO.still];rfl⟩
theorem zbl {C gl v0 v1 h x K}:NW C gl xR.body ⟨enter [v0,v1],h,x⟩ K=(vK C gl [(0,v0),(1,v1)] h x K).1:=(vK C gl [(0,v0),(1,v1)] h x K).2
def GJ:ACode:=.pr [0,1,2,6,7,8] (.seq (.seq (rg [mV 11 8,
mV 12 1,
bN 13 .leq 11 12] [0,1,2,6,7,8,13])
(.cond 13 .skip
(.exit 0)))
(.block 1 (.seq (rg [mV 14 0,
mV 15 7,
mV 16 8,
mV 17 2,
cL 18 DD [14,15,16,17]] [0,1,2,6,8])
(.seq (rg [mV 19 8,
mV 7 19] [0,1,2,6,7,8])
(rg [mV 20 8,
mV 21 6,
bN 22 .add 20 21,
mV 8 22] [0,1,2,6,7,8])))))
def KU (C:Hd)(gl:GL)(e:En)(h:aA)(x:Esc)(K:KT):Sf C gl GJ e h x K:=⟨_,by simp only[GJ,↓wZ,AO.still];rfl⟩
theorem zcY {C gl e h x K}:NW C gl GJ ⟨e,h,x⟩ K=(KU C gl e h x K).1:=(KU C gl e h x K).2
theorem zfs {C gl e h x K}:NW C gl (.loop GJ) ⟨e,h,x⟩ K=DA C gl GJ K [(0,bA e 0),(1,bA e 1),(2,bA e 2),(6,bA e 6),(7,bA e 7),(8,bA e 8)] h x:=mB
def HJ:ACode:=.pr [0,1,2,6,7,8] (.seq (.seq (rg [mV 33 8,
mV 34 1,
bN 35 .leq 33 34] [0,1,2,6,7,8,35])
(.cond 35 .skip
(.exit 4)))
(.block 5 (.seq (rg [mV 36 0,
mV 37 7,
mV 38 7,
mV 39 6,
bN 40 .add 38 39,
mV 41 8,
mV 42 2,
cL 43 mE [36,37,40,41,42]] [0,1,2,6,8])
(.seq (rg [mV 44 8,
mV 7 44] [0,1,2,6,7,8])
(rg [mV 45 8,
mV 46 6,
bN 47 .mul (cI 2) 46,
bN 48 .add 45 47,
mV 8 48] [0,1,2,6,7,8])))))
def LU (C:Hd)(gl:GL)(e:En)(h:aA)(x:Esc)(K:KT):Sf C gl HJ e h x K:=⟨_,by simp only[HJ,↓wZ,AO.still];rfl⟩
theorem zcZ {C gl e h x K}:NW C gl HJ ⟨e,h,x⟩ K=(LU C gl e h x K).1:=(LU C gl e h x K).2
theorem zft {C gl e h x K}:NW C gl (.loop HJ) ⟨e,h,x⟩ K=DA C gl HJ K [(0,bA e 0),(1,bA e 1),(2,bA e 2),(6,bA e 6),(7,bA e 7),(8,bA e 8)] h x:=mB
def fQ:ACode:=.pr [0,1,2,6] (rg [mV 61 6,
bN 62 .mul 61 (cI 2),
mV 6 62] [0,1,2,6])
def MU (C:Hd)(gl:GL)(e:En)(h:aA)(x:Esc)(K:KT):Sf C gl fQ e h x K:=⟨_,by simp only[fQ,↓wZ,AO.still];rfl⟩
theorem zda {C gl e h x K}:NW C gl fQ ⟨e,h,x⟩ K=(MU C gl e h x K).1:=(MU C gl e h x K).2
def gQ:ACode:=.pr [0,1,2,6,7] (.seq (.seq (rg [mV 49 7,
mV 50 6,
bN 51 .add 49 50,
mV 9 51] [0,1,2,6,7,9])
(.seq (rg [mV 52 9,
mV 53 1,
bN 54 .lss 52 53] [0,1,2,6,7,9,54])
(.cond 54 (rg [mV 55 0,
mV 56 7,
mV 57 9,
mV 58 1,
mV 59 2,
cL 60 mE [55,56,57,58,59]] [0,1,2,6])
.skip)))
fQ)
def NU (C:Hd)(gl:GL)(e:En)(h:aA)(x:Esc)(K:KT):Sf C gl gQ e h x K:=⟨_,by simp only[gQ,↓wZ,AO.still];rfl⟩
theorem zdb {C gl e h x K}:NW C gl gQ ⟨e,h,x⟩ K=(NU C gl e h x K).1:=(NU C gl e h x K).2
def IJ:ACode:=.pr [0,1,2,6] (.seq (.seq (rg [mV 28 6,
mV 29 1,
bN 30 .lss 28 29] [0,1,2,6,30])
(.cond 30 .skip
(.exit 2)))
(.block 3 (.seq (rg [mV 31 6,
bN 32 .mul (cI 2) 31,
mV 7 (cI 0),
mV 8 32] [0,1,2,6,7,8])
(.seq (.block 4 (.loop HJ))
gQ))))
def OU (C:Hd)(gl:GL)(e:En)(h:aA)(x:Esc)(K:KT):Sf C gl IJ e h x K:=⟨_,by simp only[IJ,↓wZ,AO.still];rfl⟩
theorem zdc {C gl e h x K}:NW C gl IJ ⟨e,h,x⟩ K=(OU C gl e h x K).1:=(OU C gl e h x K).2
theorem zfu {C gl e h x K}:NW C gl (.loop IJ) ⟨e,h,x⟩ K=DA C gl IJ K [(0,bA e 0),(1,bA e 1),(2,bA e 2),(6,bA e 6)] h x:=mB
def iQ:ACode:=.pr [0,1,2,6,7] (.seq (rg [mV 23 0,
mV 24 7,
mV 25 1,
mV 26 2,
cL 27 DD [23,24,25,26]] [0,1,2,6])
(.block 2 (.loop IJ)))
def PU (C:Hd)(gl:GL)(e:En)(h:aA)(x:Esc)(K:KT):Sf C gl iQ e h x K:=⟨_,by simp only[iQ,↓wZ,AO.still];rfl⟩
theorem zdd {C gl e h x K}:NW C gl iQ ⟨e,h,x⟩ K=(PU C gl e h x K).1:=(PU C gl e h x K).2
def YX:ACode:=(.seq (rg [mV 6 (cI 20)] [0,1,2,6])
(.seq (rg [mV 10 6,
mV 7 (cI 0),
mV 8 10] [0,1,2,6,7,8])
(.seq (.block 0 (.loop GJ))
iQ)))
def uS:AFun:=⟨3,[],YX,true,false⟩
def ZH (C:Hd)(gl:GL)(e:En)(h:aA)(x:Esc)(K:KT):Sf C gl YX e h x K:=⟨_,by simp only[YX,↓wZ,AO.still];rfl⟩
theorem zcX {C gl v0 v1 v2 h x K}:NW C gl uS.body ⟨enter [v0,v1,v2],h,x⟩ K=(ZH C gl [(0,v0),(1,v1),(2,v2)] h x K).1:=(ZH C gl [(0,v0),(1,v1),(2,v2)] h x K).2
def LX:ACode:=(.det (.seq (rg [mV 2 (.c (.p (.sl none [])))] [0])
(.seq (.seq (rg [mV 3 0,
uO 4 (.isnil 4 false 3)] [0,4])
(.condu 4 (.seq (rg [uO 2 (.new0 none)] [2])
.ret)
.skip))
(.seq (rg [uO 5 (.bsl true none 0 (.int .i64 0) []),
mV 6 0,
uO 7 (.app none 5 6),
mV 2 7] [2])
.ret))))
def jS:AFun:=⟨1,[.t 2],LX,false,true⟩
def ZN (C:Hd)(gl:GL)(e:En)(h:aA)(x:Esc)(K:KT):Sf C gl LX e h x K:=⟨_,by simp only[LX,↓wZ,AO.still];rfl⟩
theorem zct {C gl v0 h x K}:NW C gl jS.body ⟨enter [v0],h,x⟩ K=(ZN C gl [(0,v0)] h x K).1:=(ZN C gl [(0,v0)] h x K).2
def vW:ACode:=(.seq (rg [mV 6 cF] [0,1,2])
(.seq (rg [mV 7 0,
mV 8 1,
bN 9 .lss 7 8,
mV 10 9,
gD 11 10 false (.mv 0),
gD 12 10 false (.mv 2),
gD 13 10 false (.bin .gtr 11 12),
uO 14 (.pick 10 cT 13),
mV 6 14] [6])
.ret))
def GM:AFun:=⟨3,[.t 6],vW,false,false⟩
def pN (C:Hd)(gl:GL)(e:En)(h:aA)(x:Esc)(K:KT):Sf C gl vW e h x K:=⟨_,by simp only[vW,↓wZ,AO.still];rfl⟩
theorem za0 {C gl v0 v1 v2 h x K}:NW C gl GM.body ⟨enter [v0,v1,v2],h,x⟩ K=(pN C gl [(0,v0),(1,v1),(2,v2)] h x K).1:=(pN C gl [(0,v0),(1,v1),(2,v2)] h x K).2
def TX:ACode:=(.seq (rg [mV 5 0,
lN 6 5,
mV 4 6] [0,1,4])
(rg [mV 7 0,
mV 8 4,
mV 9 4,
uO 10 (.conv (.i .u64) 9),
cL 11 TK [10],
mV 12 1,
cL 13 XG [7,(cI 0),8,11,12]] []))
def pS:AFun:=⟨2,[],TX,true,false⟩
def eO (C:Hd)(gl:GL)(e:En)(h:aA)(x:Esc)(K:KT):Sf C gl TX e h x K:=⟨_,by simp only[TX,↓wZ,AO.still];rfl⟩
theorem zcJ {C gl v0 v1 h x K}:NW C gl pS.body ⟨enter [v0,v1],h,x⟩ K=(eO C gl [(0,v0),(1,v1)] h x K).1:=(eO C gl [(0,v0),(1,v1)] h x K).2
def OW:ACode:=(.seq (rg [uO 2 (.box 0),
uO 3 (.box 1),
mV 4 (cI 0)] [2,3])
(.seq (rg [fA 5 0 none 2,
lD 6 none 5,
fA 7 0 none 3,
lD 8 none 7,
cL 9 oD [6,8],
mV 4 9] [4])
.ret))
def qR:AFun:=⟨2,[.t 4],OW,false,false⟩
def xN (C:Hd)(gl:GL)(e:En)(h:aA)(x:Esc)(K:KT):Sf C gl OW e h x K:=⟨_,by simp only[OW,↓wZ,AO.still];rfl⟩
theorem zbd {C gl v0 v1 h x K}:NW C gl qR.body ⟨enter [v0,v1],h,x⟩ K=(xN C gl [(0,v0),(1,v1)] h x K).1:=(xN C gl [(0,v0),(1,v1)] h x K).2
def RW:ACode:=(.seq (rg [uO 2 (.box 0),
mV 4 cF] [1,2])
(.seq (rg [mV 5 1,
fA 6 1 none 2,
lD 7 none 6,
fA 8 2 none 2,
lD 9 none 8,
cL 10 tB [5,7,9],
uO 11 (.un .not 10),
mV 4 11] [4])
.ret))
def tR:AFun:=⟨2,[.t 4],RW,false,false⟩
def AN (C:Hd)(gl:GL)(e:En)(h:aA)(x:Esc)(K:KT):Sf C gl RW e h x K:=⟨_,by simp only[RW,↓wZ,AO.still];rfl⟩
theorem zbg {C gl v0 v1 h x K}:NW C gl tR.body ⟨enter [v0,v1],h,x⟩ K=(AN C gl [(0,v0),(1,v1)] h x K).1:=(AN C gl [(0,v0),(1,v1)] h x K).2
def XI:ACode:=.pr [0,1] (.seq (.seq (rg [mV 5 1,
bN 6 .neq 5 (cI 0)] [0,1,6])
(.cond 6 .skip
(.exit 0)))
(.block 1 (dr [dF (mV 7 1) [1],
dF (mV 8 0) [0],
dF (mV 9 1) [1],
dF (bN 10 .rem 8 9) [8,9],
dF (mV 0 7) [7],
dF (mV 1 10) [10]] [0,1])))
def aT (C:Hd)(gl:GL)(e:En)(h:aA)(x:Esc)(K:KT):Sf C gl XI e h x K:=⟨_,by simp only[XI,↓wZ,AO.still];rfl⟩
theorem zau {C gl e h x K}:NW C gl XI ⟨e,h,x⟩ K=(aT C gl e h x K).1:=(aT C gl e h x K).2
theorem zeI {C gl e h x K}:NW C gl (.loop XI) ⟨e,h,x⟩ K=DA C gl XI K [(0,bA e 0),(1,bA e 1)] h x:=mB
def iP:ACode:=.pr [0] (.seq (rg [mV 11 0,
mV 4 11] [4])
.ret)
def bT (C:Hd)(gl:GL)(e:En)(h:aA)(x:Esc)(K:KT):Sf C gl iP e h x K:=⟨_,by simp only[iP,↓wZ,AO.still];rfl⟩
theorem zav {C gl e h x K}:NW C gl iP ⟨e,h,x⟩ K=(bT C gl e h x K).1:=(bT C gl e h x K).2
def sW:ACode:=(.seq (rg [mV 4 (cI 0)] [0,1])
(.seq (.block 0 (.loop XI))
iP))
def DM:AFun:=⟨2,[.t 4],sW,false,false⟩
def nN (C:Hd)(gl:GL)(e:En)(h:aA)(x:Esc)(K:KT):Sf C gl sW e h x K:=⟨_,by simp only[sW,↓wZ,AO.still];rfl⟩
theorem zat {C gl v0 v1 h x K}:NW C gl DM.body ⟨enter [v0,v1],h,x⟩ K=(nN C gl [(0,v0),(1,v1)] h x K).1:=(nN C gl [(0,v0),(1,v1)] h x K).2
def YI:ACode:=.pr [0,23,24] (.seq (rg [bN 25 .lss 24 23] [0,23,24,25])
(.seq (.cond 25 .skip
(.exit 0))
(.seq (.block 1 (.seq (rg [mV 26 24,
mV 3 26] [0,3,23,24])
(.seq (rg [mV 27 0,
mV 28 3,
uO 29 (.idxs 27 28),
mV 4 29] [0,4,23,24])
(.seq (rg [mV 30 4,
bN 31 .geq 30 (.c (.p (.int .u8 97))),
mV 32 31,
gD 33 32 true (.mv 4),
gD 34 32 true (.bin .leq 33 (.c (.p (.int .u8 122)))),
uO 35 (.pick 32 34 cF),
mV 36 35,
gD 37 36 false (.mv 4),
gD 38 36 false (.bin .geq 37 (.c (.p (.int .u8 48)))),
gD 39 36 false (.mv 38),
gD 40 39 true (.mv 4),
gD 41 39 true (.bin .leq 40 (.c (.p (.int .u8 57)))),
gD 42 36 false (.pick 39 41 cF),
uO 43 (.pick 36 cT 42),
mV 44 43,
gD 45 44 false (.mv 4),
gD 46 44 false (.bin .eql 45 (.c (.p (.int .u8 45)))),
uO 47 (.pick 44 cT 46),
mV 48 47,
gD 49 48 false (.mv 4),
gD 50 48 false (.bin .eql 49 (.c (.p (.int .u8 95)))),
uO 51 (.pick 48 cT 50),
uO 52 (.un .not 51)] [0,23,24,52])
(.cond 52 (.seq (rg [mV 2 cF] [2])
.ret)
.skip)))))
(rg [bN 53 .add 24 (cI 1),
mV 24 53] [0,23,24]))))
def eT (C:Hd)(gl:GL)(e:En)(h:aA)(x:Esc)(K:KT):Sf C gl YI e h x K:=⟨_,by simp only[YI,↓wZ,AO.still];rfl⟩
theorem zax {C gl e h x K}:NW C gl YI ⟨e,h,x⟩ K=(eT C gl e h x K).1:=(eT C gl e h x K).2
theorem zeJ {C gl e h x K}:NW C gl (.loop YI) ⟨e,h,x⟩ K=DA C gl YI K [(0,bA e 0),(23,bA e 23),(24,bA e 24)] h x:=mB
def jP:ACode:=.pr [] (.seq (rg [mV 2 cT] [2])
.ret)
def fT (C:Hd)(gl:GL)(e:En)(h:aA)(x:Esc)(K:KT):Sf C gl jP e h x K:=⟨_,by simp only[jP,↓wZ,AO.still];rfl⟩
theorem zay {C gl e h x K}:NW C gl jP ⟨e,h,x⟩ K=(fT C gl e h x K).1:=(fT C gl e h x K).2
def tW:ACode:=(.seq (rg [mV 2 cF] [0])
(.seq (.seq (rg [mV 5 0,
bN 6 .eql 5 (cS []),
mV 7 6,
gD 8 7 false (.mv 0),
gD 9 7 false (.lens 8),
gD 10 7 false (.bin .gtr 9 (cI 40)),
uO 11 (.pick 7 cT 10),
mV 12 11,
gD 13 12 false (.mv 0),
gD 14 12 false (.idxs 13 (cI 0)),
gD 15 12 false (.bin .lss 14 (.c (.p (.int .u8 97)))),
uO 16 (.pick 12 cT 15),
mV 17 16,
gD 18 17 false (.mv 0),
gD 19 17 false (.idxs 18 (cI 0)),
gD 20 17 false (.bin .gtr 19 (.c (.p (.int .u8 122)))),
uO 21 (.pick 17 cT 20)] [0,21])
(.cond 21 (.seq (rg [mV 2 cF] [2])
.ret)
.skip))
(.seq (.seq (rg [mV 22 0,
uO 23 (.lens 22),
mV 24 (cI 0)] [0,23,24])
(.block 0 (.loop YI)))
jP)))
def EM:AFun:=⟨1,[.t 2],tW,false,false⟩
def JF (C:Hd)(gl:GL)(e:En)(h:aA)(x:Esc)(K:KT):Sf C gl tW e h x K:=⟨_,by simp only[tW,↓wZ,AO.still];rfl⟩
theorem zaw {C gl v0 h x K}:NW C gl EM.body ⟨enter [v0],h,x⟩ K=(JF C gl [(0,v0)] h x K).1:=(JF C gl [(0,v0)] h x K).2
def tJ:ACode:=.pr [0,1,7,8] (.seq (rg [bN 9 .lss 8 7] [0,1,7,8,9])
(.seq (.cond 9 .skip
(.exit 0))
(.seq (.block 1 (.seq (rg [mV 10 8,
mV 5 10] [0,1,5,7,8])
(.seq (rg [mV 11 1,
mV 12 0,
mV 13 5,
uO 14 (.idxs 12 13),
cL 15 nL [11,14],
bN 16 .lss 15 (cI 0)] [0,1,7,8,16])
(.cond 16 (.seq (rg [mV 4 cF] [4])
.ret)
.skip))))
(rg [bN 17 .add 8 (cI 1),
mV 8 17] [0,1,7,8]))))
def eU (C:Hd)(gl:GL)(e:En)(h:aA)(x:Esc)(K:KT):Sf C gl tJ e h x K:=⟨_,by simp only[tJ,↓wZ,AO.still];rfl⟩
theorem zcn {C gl e h x K}:NW C gl tJ ⟨e,h,x⟩ K=(eU C gl e h x K).1:=(eU C gl e h x K).2
theorem zff {C gl e h x K}:NW C gl (.loop tJ) ⟨e,h,x⟩ K=DA C gl tJ K [(0,bA e 0),(1,bA e 1),(7,bA e 7),(8,bA e 8)] h x:=mB
def PP:ACode:=.pr [] (.seq (rg [mV 4 cT] [4])
.ret)
def fU (C:Hd)(gl:GL)(e:En)(h:aA)(x:Esc)(K:KT):Sf C gl PP e h x K:=⟨_,by simp only[PP,↓wZ,AO.still];rfl⟩
theorem zco {C gl e h x K}:NW C gl PP ⟨e,h,x⟩ K=(fU C gl e h x K).1:=(fU C gl e h x K).2
def FX:ACode:=(.seq (rg [mV 4 cF] [0,1])
(.seq (.seq (rg [mV 6 0,
uO 7 (.lens 6),
mV 8 (cI 0)] [0,1,7,8])
(.block 0 (.loop tJ)))
PP))
def dS:AFun:=⟨2,[.t 4],FX,false,false⟩
def XN (C:Hd)(gl:GL)(e:En)(h:aA)(x:Esc)(K:KT):Sf C gl FX e h x K:=⟨_,by simp only[FX,↓wZ,AO.still];rfl⟩
theorem zcm {C gl v0 v1 h x K}:NW C gl dS.body ⟨enter [v0,v1],h,x⟩ K=(XN C gl [(0,v0),(1,v1)] h x K).1:=(XN C gl [(0,v0),(1,v1)] h x K).2
def AJ:ACode:=.pr [0,1,7,8] (.seq (rg [bN 9 .lss 8 7] [0,1,7,8,9])
(.seq (.cond 9 .skip
(.exit 0))
(.seq (.block 1 (.seq (rg [mV 10 8,
mV 5 10] [0,1,5,7,8])
(.seq (rg [mV 11 1,
mV 12 0,
mV 13 5,
iA 14 (some 4) 12 13,
lD 15 (some 4) 14,
uO 16 (.callv 11 [15])] [0,1,5,7,8,16])
(.cond 16 (.seq (rg [mV 17 5,
mV 4 17] [4])
.ret)
.skip))))
(rg [bN 18 .add 8 (cI 1),
mV 8 18] [0,1,7,8]))))
def wU (C:Hd)(gl:GL)(e:En)(h:aA)(x:Esc)(K:KT):Sf C gl AJ e h x K:=⟨_,by simp only[AJ,↓wZ,AO.still];rfl⟩
theorem zcE {C gl e h x K}:NW C gl AJ ⟨e,h,x⟩ K=(wU C gl e h x K).1:=(wU C gl e h x K).2
theorem zfm {C gl e h x K}:NW C gl (.loop AJ) ⟨e,h,x⟩ K=DA C gl AJ K [(0,bA e 0),(1,bA e 1),(7,bA e 7),(8,bA e 8)] h x:=mB
def YP:ACode:=.pr [] (.seq (rg [mV 4 (cI (-1))] [4])
.ret)
def xU (C:Hd)(gl:GL)(e:En)(h:aA)(x:Esc)(K:KT):Sf C gl YP e h x K:=⟨_,by simp only[YP,↓wZ,AO.still];rfl⟩
theorem zcF {C gl e h x K}:NW C gl YP ⟨e,h,x⟩ K=(xU C gl e h x K).1:=(xU C gl e h x K).2
def RX:ACode:=(.seq (rg [mV 4 (cI 0)] [0,1])
(.seq (.seq (rg [mV 6 0,
lN 7 6,
mV 8 (cI 0)] [0,1,7,8])
(.block 0 (.loop AJ)))
YP))
def oS:AFun:=⟨2,[.t 4],RX,true,false⟩
def cO (C:Hd)(gl:GL)(e:En)(h:aA)(x:Esc)(K:KT):Sf C gl RX e h x K:=⟨_,by simp only[RX,↓wZ,AO.still];rfl⟩
theorem zcD {C gl v0 v1 h x K}:NW C gl oS.body ⟨enter [v0,v1],h,x⟩ K=(cO C gl [(0,v0),(1,v1)] h x K).1:=(cO C gl [(0,v0),(1,v1)] h x K).2
def CX:ACode:=(.seq (rg [uO 2 (.box 0),
mV 3 cF] [1,2])
(.seq (rg [fA 4 0 none 2,
lD 5 none 4,
lD 6 none 1,
bN 7 .eql 5 6,
mV 3 7] [3])
.ret))
def ZR:AFun:=⟨2,[.t 3],CX,false,false⟩
def UN (C:Hd)(gl:GL)(e:En)(h:aA)(x:Esc)(K:KT):Sf C gl CX e h x K:=⟨_,by simp only[CX,↓wZ,AO.still];rfl⟩
theorem zch {C gl v0 v1 h x K}:NW C gl ZR.body ⟨enter [v0,v1],h,x⟩ K=(UN C gl [(0,v0),(1,v1)] h x K).1:=(UN C gl [(0,v0),(1,v1)] h x K).2
end Go.Am
end
section
/- The functions asv abstract code,and asv formulas over their values: printed by program out of the translation. -/
set_option linter.all false
set_option maxRecDepth 100000
namespace Go.Am
def yW:ACode:=(.seq (rg [mV 2 cF] [0])
(.seq (rg [mV 3 0,
mV 4 0,
bN 5 .neq 3 4,
mV 2 5] [2])
.ret))
def JM:AFun:=⟨1,[.t 2],yW,false,false⟩
def rN (C:Hd)(gl:GL)(e:En)(h:aA)(x:Esc)(K:KT):Sf C gl yW e h x K:=⟨_,by simp only[yW,↓wZ,AO.still];rfl⟩
theorem za5 {C gl v0 h x K}:NW C gl JM.body ⟨enter [v0],h,x⟩ K=(rN C gl [(0,v0)] h x K).1:=(rN C gl [(0,v0)] h x K).2
def zW:ACode:=(.seq (rg [mV 4 (cI 0)] [0,1])
(.seq (rg [mV 5 0,
mV 6 1,
cL 7 kF [5,6],
mV 4 7] [4])
.ret))
def KM:AFun:=⟨2,[.t 4],zW,false,false⟩
def sN (C:Hd)(gl:GL)(e:En)(h:aA)(x:Esc)(K:KT):Sf C gl zW e h x K:=⟨_,by simp only[zW,↓wZ,AO.still];rfl⟩
theorem za6 {C gl v0 v1 h x K}:NW C gl KM.body ⟨enter [v0,v1],h,x⟩ K=(sN C gl [(0,v0),(1,v1)] h x K).1:=(sN C gl [(0,v0),(1,v1)] h x K).2
def yX:ACode:=(.seq (rg [mV 2 cF] [0])
(.seq (rg [mV 3 0,
cL 4 UD [3,(cI 0),(cI 345686399999)],
mV 2 4] [2])
.ret))
def VR:AFun:=⟨1,[.t 2],yX,false,false⟩
def SN (C:Hd)(gl:GL)(e:En)(h:aA)(x:Esc)(K:KT):Sf C gl yX e h x K:=⟨_,by simp only[yX,↓wZ,AO.still];rfl⟩
theorem zcb {C gl v0 h x K}:NW C gl VR.body ⟨enter [v0],h,x⟩ K=(SN C gl [(0,v0)] h x K).1:=(SN C gl [(0,v0)] h x K).2
def OX:ACode:=(.seq (rg [mV 4 cF] [0,1])
(.seq (rg [mV 5 0,
mV 6 1,
cL 7 FI [5,6],
bN 8 .geq 7 (cI 0),
mV 4 8] [4])
.ret))
def NM:AFun:=⟨2,[.t 4],OX,true,false⟩
def bO (C:Hd)(gl:GL)(e:En)(h:aA)(x:Esc)(K:KT):Sf C gl OX e h x K:=⟨_,by simp only[OX,↓wZ,AO.still];rfl⟩
theorem zc6 {C gl v0 v1 h x K}:NW C gl NM.body ⟨enter [v0,v1],h,x⟩ K=(bO C gl [(0,v0),(1,v1)] h x K).1:=(bO C gl [(0,v0),(1,v1)] h x K).2
def IX:ACode:=(.seq (rg [mV 2 cF] [0])
(.seq (rg [mV 3 0,
cL 4 UD [3,(cI (-100000)),(cI 100000)],
uO 5 (.un .not 4),
mV 2 5] [2])
.ret))
def fS:AFun:=⟨1,[.t 2],IX,false,false⟩
def YN (C:Hd)(gl:GL)(e:En)(h:aA)(x:Esc)(K:KT):Sf C gl IX e h x K:=⟨_,by simp only[IX,↓wZ,AO.still];rfl⟩
theorem zcq {C gl v0 h x K}:NW C gl fS.body ⟨enter [v0],h,x⟩ K=(YN C gl [(0,v0)] h x K).1:=(YN C gl [(0,v0)] h x K).2
def sJ:ACode:=.pr [0,7,8,9] (.seq (rg [bN 10 .lss 9 8] [0,7,8,9,10])
(.seq (.cond 10 .skip
(.exit 0))
(.seq (.block 1 (.seq (rg [mV 11 9,
iA 12 none 7 9,
lD 13 none 12,
mV 5 11,
mV 6 13] [0,5,6,7,8,9])
(.seq (dr [dF (mV 14 5) [5],
dF (mV 15 0) [0],
dF (lN 16 15) [15],
dF (bN 17 .lss 14 16) [14,16],
dF (mV 18 17) [17],
dF (gD 19 18 true (.mv 6)) [6,18],
dF (gD 20 18 true (.mv 0)) [0,18],
dF (gD 21 18 true (.mv 5)) [5,18],
dF (gD 22 18 true (.iaddr (some 4) 20 21)) [20,21,18],
dF (gD 23 18 true (.faddr 1 none 22)) [22,18],
dF (gD 24 18 true (.load none 23)) [23,18],
dF (gD 25 18 true (.mv 0)) [0,18],
dF (gD 26 18 true (.mv 5)) [5,18],
dF (gD 27 18 true (.iaddr (some 4) 25 26)) [25,26,18],
dF (gD 28 18 true (.faddr 2 none 27)) [27,18],
dF (gD 29 18 true (.load none 28)) [28,18],
dT (gD 30 18 true (.call UD [19,24,29])) [19,24,29,18],
dF (gD 31 18 true (.un .not 30)) [30,18],
dF (uO 32 (.pick 18 31 cF)) [18,31]] [0,5,7,8,9,32])
(.cond 32 (.seq (rg [mV 33 5,
mV 4 33] [4])
.ret)
.skip))))
(rg [bN 34 .add 9 (cI 1),
mV 9 34] [0,7,8,9]))))
def cU (C:Hd)(gl:GL)(e:En)(h:aA)(x:Esc)(K:KT):Sf C gl sJ e h x K:=⟨_,by simp only[sJ,↓wZ,AO.still];rfl⟩
theorem zcj {C gl e h x K}:NW C gl sJ ⟨e,h,x⟩ K=(cU C gl e h x K).1:=(cU C gl e h x K).2
theorem zfe {C gl e h x K}:NW C gl (.loop sJ) ⟨e,h,x⟩ K=DA C gl sJ K [(0,bA e 0),(7,bA e 7),(8,bA e 8),(9,bA e 9)] h x:=mB
def OP:ACode:=.pr [] (.seq (rg [mV 4 (cI (-1))] [4])
.ret)
def dU (C:Hd)(gl:GL)(e:En)(h:aA)(x:Esc)(K:KT):Sf C gl OP e h x K:=⟨_,by simp only[OP,↓wZ,AO.still];rfl⟩
theorem zck {C gl e h x K}:NW C gl OP ⟨e,h,x⟩ K=(dU C gl e h x K).1:=(dU C gl e h x K).2
def DX:ACode:=(.seq (rg [mV 4 (cI 0)] [0,1])
(.seq (.seq (rg [mV 7 1,
lN 8 7,
mV 9 (cI 0)] [0,7,8,9])
(.block 0 (.loop sJ)))
OP))
def aS:AFun:=⟨2,[.t 4],DX,false,false⟩
def VN (C:Hd)(gl:GL)(e:En)(h:aA)(x:Esc)(K:KT):Sf C gl DX e h x K:=⟨_,by simp only[DX,↓wZ,AO.still];rfl⟩
theorem zci {C gl v0 v1 h x K}:NW C gl aS.body ⟨enter [v0,v1],h,x⟩ K=(VN C gl [(0,v0),(1,v1)] h x K).1:=(VN C gl [(0,v0),(1,v1)] h x K).2
def KX:ACode:=(.seq (rg [mV 2 (cI 0)] [0])
(.seq (.block 0 (.seq (rg [mV 4 0,
bN 5 .lss 4 (cI 0),
mV 3 5] [0,3])
(.cond 3 (.seq (rg [mV 2 (cI (-1))] [2])
.ret)
(.seq (rg [mV 7 0,
bN 8 .gtr 7 (cI 0),
mV 6 8] [6])
(.cond 6 (.seq (rg [mV 2 (cI 1)] [2])
.ret)
.skip)))))
(.seq (rg [mV 2 (cI 0)] [2])
.ret)))
def iS:AFun:=⟨1,[.t 2],KX,false,false⟩
def WH (C:Hd)(gl:GL)(e:En)(h:aA)(x:Esc)(K:KT):Sf C gl KX e h x K:=⟨_,by simp only[KX,↓wZ,AO.still];rfl⟩
theorem zcs {C gl v0 h x K}:NW C gl iS.body ⟨enter [v0],h,x⟩ K=(WH C gl [(0,v0)] h x K).1:=(WH C gl [(0,v0)] h x K).2
def PW:ACode:=(.seq (rg [uO 3 (.box 1),
mV 4 (cI 0)] [0,3])
(.seq (rg [mV 5 0,
uO 6 (.mkfn rI [3]),
cL 7 EI [5,6],
mV 4 7] [4])
.ret))
def rR:AFun:=⟨2,[.t 4],PW,false,false⟩
def yN (C:Hd)(gl:GL)(e:En)(h:aA)(x:Esc)(K:KT):Sf C gl PW e h x K:=⟨_,by simp only[PW,↓wZ,AO.still];rfl⟩
theorem zbe {C gl v0 v1 h x K}:NW C gl rR.body ⟨enter [v0,v1],h,x⟩ K=(yN C gl [(0,v0),(1,v1)] h x K).1:=(yN C gl [(0,v0),(1,v1)] h x K).2
def VW:ACode:=(.seq (rg [uO 3 (.box 1),
mV 4 (cI 0)] [0,3])
(.seq (.block 0 (.seq (rg [fA 6 0 none 3,
lD 7 none 6,
cL 8 IC [7],
uO 9 (.un .not 8),
mV 10 9,
gD 11 10 false (.faddr 2 none 3),
gD 12 10 false (.load none 11),
gD 13 10 false (.call IC [12]),
gD 14 10 false (.un .not 13),
uO 15 (.pick 10 cT 14),
mV 5 15] [0,3,5])
(.cond 5 (.seq (rg [mV 4 (cI 5)] [4])
.ret)
(.seq (rg [fA 17 1 none 3,
lD 18 none 17,
cL 19 QF [18],
uO 20 (.un .not 19),
mV 21 20,
gD 22 21 false (.faddr 3 none 3),
gD 23 21 false (.load none 22),
gD 24 21 false (.call UF [23,(.f uI)]),
uO 25 (.pick 21 cT 24),
mV 16 25] [0,3,16])
(.cond 16 (.seq (rg [mV 4 (cI 1)] [4])
.ret)
(.seq (rg [mV 27 0,
lD 28 (some 4) 3,
cL 29 PK [27,28],
uO 30 (.un .not 29),
mV 26 30] [26])
(.cond 26 (.seq (rg [mV 4 (cI 3)] [4])
.ret)
.skip)))))))
(.seq (rg [mV 4 (cI 0)] [4])
.ret)))
def vR:AFun:=⟨2,[.t 4],VW,false,false⟩
def gF (C:Hd)(gl:GL)(e:En)(h:aA)(x:Esc)(K:KT):Sf C gl VW e h x K:=⟨_,by simp only[VW,↓wZ,AO.still];rfl⟩
theorem zbj {C gl v0 v1 h x K}:NW C gl vR.body ⟨enter [v0,v1],h,x⟩ K=(gF C gl [(0,v0),(1,v1)] h x K).1:=(gF C gl [(0,v0),(1,v1)] h x K).2
def CJ:ACode:=.pr [0,1,2,3,8,9] (.seq (.seq (dr [dF (mV 18 9) [9],
dF (mV 19 1) [1],
dF (bN 20 .gtr 18 19) [18,19],
dF (mV 21 20) [20],
dF (gD 22 21 true (.mv 3)) [3,21],
dF (gD 23 21 true (.mv 0)) [0,21],
dF (gD 24 21 true (.mv 9)) [9,21],
dF (gD 25 21 true (.iaddr (some 4) 23 24)) [23,24,21],
dF (gD 26 21 true (.load (some 4) 25)) [25,21],
dF (gD 27 21 true (.mv 0)) [0,21],
dF (gD 28 21 true (.mv 9)) [9,21],
dF (gD 29 21 true (.bin .sub 28 (cI 1))) [28,21],
dF (gD 30 21 true (.iaddr (some 4) 27 29)) [27,29,21],
dF (gD 31 21 true (.load (some 4) 30)) [30,21],
dT (gD 32 21 true (.callv 22 [26,31])) [22,26,31,21],
dF (gD 33 21 true (.bin .lss 32 (cI 0))) [32,21],
dF (uO 34 (.pick 21 33 cF)) [21,33]] [0,1,2,3,8,9,34])
(.cond 34 .skip
(.exit 2)))
(.seq (.block 3 (dr [dF (mV 37 0) [0],
dF (mV 38 9) [9],
dF (mV 39 0) [0],
dF (mV 40 9) [9],
dF (bN 41 .sub 40 (cI 1)) [40],
dF (mV 42 0) [0],
dF (mV 43 9) [9],
dF (bN 44 .sub 43 (cI 1)) [43],
dF (iA 45 (some 4) 42 44) [42,44],
dF (lD 46 (some 4) 45) [45],
dF (mV 47 0) [0],
dF (mV 48 9) [9],
dF (iA 49 (some 4) 47 48) [47,48],
dF (lD 50 (some 4) 49) [49],
dF (iA 51 (some 4) 37 38) [37,38],
dT (wO (.store (some 4) 51 46)) [51,46],
dF (iA 52 (some 4) 39 41) [39,41],
dT (wO (.store (some 4) 52 50)) [52,50]] [0,1,2,3,8,9]))
(rg [mV 35 9,
bN 36 .sub 35 (cI 1),
mV 9 36] [0,1,2,3,8,9])))
def BU (C:Hd)(gl:GL)(e:En)(h:aA)(x:Esc)(K:KT):Sf C gl CJ e h x K:=⟨_,by simp only[CJ,↓wZ,AO.still];rfl⟩
theorem zcM {C gl e h x K}:NW C gl CJ ⟨e,h,x⟩ K=(BU C gl e h x K).1:=(BU C gl e h x K).2
theorem zfo {C gl e h x K}:NW C gl (.loop CJ) ⟨e,h,x⟩ K=DA C gl CJ K [(0,bA e 0),(1,bA e 1),(2,bA e 2),(3,bA e 3),(8,bA e 8),(9,bA e 9)] h x:=mB
def aQ:ACode:=.pr [0,1,2,3,8] (rg [mV 15 8,
bN 16 .add 15 (cI 1),
mV 8 16] [0,1,2,3,8])
def CU (C:Hd)(gl:GL)(e:En)(h:aA)(x:Esc)(K:KT):Sf C gl aQ e h x K:=⟨_,by simp only[aQ,↓wZ,AO.still];rfl⟩
theorem zcN {C gl e h x K}:NW C gl aQ ⟨e,h,x⟩ K=(CU C gl e h x K).1:=(CU C gl e h x K).2
def DJ:ACode:=.pr [0,1,2,3,8] (.seq (.seq (rg [mV 12 8,
mV 13 2,
bN 14 .lss 12 13] [0,1,2,3,8,14])
(.cond 14 .skip
(.exit 0)))
(.seq (.block 1 (.seq (rg [mV 17 8,
mV 9 17] [0,1,2,3,8,9])
(.block 2 (.loop CJ))))
aQ))
def DU (C:Hd)(gl:GL)(e:En)(h:aA)(x:Esc)(K:KT):Sf C gl DJ e h x K:=⟨_,by simp only[DJ,↓wZ,AO.still];rfl⟩
theorem zcO {C gl e h x K}:NW C gl DJ ⟨e,h,x⟩ K=(DU C gl e h x K).1:=(DU C gl e h x K).2
theorem zfp {C gl e h x K}:NW C gl (.loop DJ) ⟨e,h,x⟩ K=DA C gl DJ K [(0,bA e 0),(1,bA e 1),(2,bA e 2),(3,bA e 3),(8,bA e 8)] h x:=mB
def VX:ACode:=(.seq (rg [mV 10 1,
bN 11 .add 10 (cI 1),
mV 8 11] [0,1,2,3,8])
(.block 0 (.loop DJ)))
def rS:AFun:=⟨4,[],VX,true,false⟩
def YH (C:Hd)(gl:GL)(e:En)(h:aA)(x:Esc)(K:KT):Sf C gl VX e h x K:=⟨_,by simp only[VX,↓wZ,AO.still];rfl⟩
theorem zcL {C gl v0 v1 v2 v3 h x K}:NW C gl rS.body ⟨enter [v0,v1,v2,v3],h,x⟩ K=(YH C gl [(0,v0),(1,v1),(2,v2),(3,v3)] h x K).1:=(YH C gl [(0,v0),(1,v1),(2,v2),(3,v3)] h x K).2
def KJ:ACode:=.pr [0,1,4,10,11] (.seq (.seq (rg [mV 31 10,
mV 32 11,
bN 33 .lss 31 32] [0,1,4,10,11,33])
(.cond 33 .skip
(.exit 0)))
(.block 1 (.seq (rg [mV 34 10,
mV 35 11,
bN 36 .add 34 35,
uO 37 (.conv (.i .u64) 36),
bN 38 .shr 37 (.c (.p (.int .u64 1))),
uO 39 (.conv (.i .i64) 38),
mV 12 39] [0,1,4,10,11,12])
(.seq (dr [dF (mV 40 4) [4],
dF (mV 41 0) [0],
dF (mV 42 12) [12],
dF (iA 43 (some 4) 41 42) [41,42],
dF (lD 44 (some 4) 43) [43],
dF (mV 45 0) [0],
dF (mV 46 1) [1],
dF (iA 47 (some 4) 45 46) [45,46],
dF (lD 48 (some 4) 47) [47],
dT (uO 49 (.callv 40 [44,48])) [40,44,48],
dF (bN 50 .lss 49 (cI 0)) [49]] [0,1,4,10,11,12,50])
(.cond 50 (rg [mV 51 12,
bN 52 .add 51 (cI 1),
mV 10 52] [0,1,4,10,11])
(rg [mV 53 12,
mV 11 53] [0,1,4,10,11]))))))
def RU (C:Hd)(gl:GL)(e:En)(h:aA)(x:Esc)(K:KT):Sf C gl KJ e h x K:=⟨_,by simp only[KJ,↓wZ,AO.still];rfl⟩
theorem zdh {C gl e h x K}:NW C gl KJ ⟨e,h,x⟩ K=(RU C gl e h x K).1:=(RU C gl e h x K).2
theorem zfw {C gl e h x K}:NW C gl (.loop KJ) ⟨e,h,x⟩ K=DA C gl KJ K [(0,bA e 0),(1,bA e 1),(4,bA e 4),(10,bA e 10),(11,bA e 11)] h x:=mB
def LJ:ACode:=.pr [0,10,13] (.seq (.seq (rg [mV 55 13,
mV 56 10,
bN 57 .sub 56 (cI 1),
bN 58 .lss 55 57] [0,10,13,58])
(.cond 58 .skip
(.exit 2)))
(.seq (.block 3 (dr [dF (mV 61 0) [0],
dF (mV 62 13) [13],
dF (mV 63 0) [0],
dF (mV 64 13) [13],
dF (bN 65 .add 64 (cI 1)) [64],
dF (mV 66 0) [0],
dF (mV 67 13) [13],
dF (bN 68 .add 67 (cI 1)) [67],
dF (iA 69 (some 4) 66 68) [66,68],
dF (lD 70 (some 4) 69) [69],
dF (mV 71 0) [0],
dF (mV 72 13) [13],
dF (iA 73 (some 4) 71 72) [71,72],
dF (lD 74 (some 4) 73) [73],
dF (iA 75 (some 4) 61 62) [61,62],
dT (wO (.store (some 4) 75 70)) [75,70],
dF (iA 76 (some 4) 63 65) [63,65],
dT (wO (.store (some 4) 76 74)) [76,74]] [0,10,13]))
(rg [mV 59 13,
bN 60 .add 59 (cI 1),
mV 13 60] [0,10,13])))
def WU (C:Hd)(gl:GL)(e:En)(h:aA)(x:Esc)(K:KT):Sf C gl LJ e h x K:=⟨_,by simp only[LJ,↓wZ,AO.still];rfl⟩
theorem zdm {C gl e h x K}:NW C gl LJ ⟨e,h,x⟩ K=(WU C gl e h x K).1:=(WU C gl e h x K).2
theorem zfx {C gl e h x K}:NW C gl (.loop LJ) ⟨e,h,x⟩ K=DA C gl LJ K [(0,bA e 0),(10,bA e 10),(13,bA e 13)] h x:=mB
def mQ:ACode:=.pr [] .ret
def XU (C:Hd)(gl:GL)(e:En)(h:aA)(x:Esc)(K:KT):Sf C gl mQ e h x K:=⟨_,by simp only[mQ,↓wZ,AO.still];rfl⟩
theorem zdn {C gl e h x K}:NW C gl mQ ⟨e,h,x⟩ K=(XU C gl e h x K).1:=(XU C gl e h x K).2
def nQ:ACode:=.pr [0,1,10] (.seq (.seq (rg [mV 54 1,
mV 13 54] [0,10,13])
(.block 2 (.loop LJ)))
mQ)
def YU (C:Hd)(gl:GL)(e:En)(h:aA)(x:Esc)(K:KT):Sf C gl nQ e h x K:=⟨_,by simp only[nQ,↓wZ,AO.still];rfl⟩
theorem zdo {C gl e h x K}:NW C gl nQ ⟨e,h,x⟩ K=(YU C gl e h x K).1:=(YU C gl e h x K).2
def MJ:ACode:=.pr [0,2,4,14,15] (.seq (.seq (rg [mV 83 14,
mV 84 15,
bN 85 .lss 83 84] [0,2,4,14,15,85])
(.cond 85 .skip
(.exit 4)))
(.block 5 (.seq (rg [mV 86 14,
mV 87 15,
bN 88 .add 86 87,
uO 89 (.conv (.i .u64) 88),
bN 90 .shr 89 (.c (.p (.int .u64 1))),
uO 91 (.conv (.i .i64) 90),
mV 16 91] [0,2,4,14,15,16])
(.seq (dr [dF (mV 92 4) [4],
dF (mV 93 0) [0],
dF (mV 94 2) [2],
dF (iA 95 (some 4) 93 94) [93,94],
dF (lD 96 (some 4) 95) [95],
dF (mV 97 0) [0],
dF (mV 98 16) [16],
dF (iA 99 (some 4) 97 98) [97,98],
dF (lD 100 (some 4) 99) [99],
dT (uO 101 (.callv 92 [96,100])) [92,96,100],
dF (bN 102 .lss 101 (cI 0)) [101],
dF (uO 103 (.un .not 102)) [102]] [0,2,4,14,15,16,103])
(.cond 103 (rg [mV 104 16,
bN 105 .add 104 (cI 1),
mV 14 105] [0,2,4,14,15])
(rg [mV 106 16,
mV 15 106] [0,2,4,14,15]))))))
def ZU (C:Hd)(gl:GL)(e:En)(h:aA)(x:Esc)(K:KT):Sf C gl MJ e h x K:=⟨_,by simp only[MJ,↓wZ,AO.still];rfl⟩
theorem zdp {C gl e h x K}:NW C gl MJ ⟨e,h,x⟩ K=(ZU C gl e h x K).1:=(ZU C gl e h x K).2
theorem zfy {C gl e h x K}:NW C gl (.loop MJ) ⟨e,h,x⟩ K=DA C gl MJ K [(0,bA e 0),(2,bA e 2),(4,bA e 4),(14,bA e 14),(15,bA e 15)] h x:=mB
def NJ:ACode:=.pr [0,14,17] (.seq (.seq (rg [mV 108 17,
mV 109 14,
bN 110 .gtr 108 109] [0,14,17,110])
(.cond 110 .skip
(.exit 6)))
(.seq (.block 7 (dr [dF (mV 113 0) [0],
dF (mV 114 17) [17],
dF (mV 115 0) [0],
dF (mV 116 17) [17],
dF (bN 117 .sub 116 (cI 1)) [116],
dF (mV 118 0) [0],
dF (mV 119 17) [17],
dF (bN 120 .sub 119 (cI 1)) [119],
dF (iA 121 (some 4) 118 120) [118,120],
dF (lD 122 (some 4) 121) [121],
dF (mV 123 0) [0],
dF (mV 124 17) [17],
dF (iA 125 (some 4) 123 124) [123,124],
dF (lD 126 (some 4) 125) [125],
dF (iA 127 (some 4) 113 114) [113,114],
dT (wO (.store (some 4) 127 122)) [127,122],
dF (iA 128 (some 4) 115 117) [115,117],
dT (wO (.store (some 4) 128 126)) [128,126]] [0,14,17]))
(rg [mV 111 17,
bN 112 .sub 111 (cI 1),
mV 17 112] [0,14,17])))
def aV (C:Hd)(gl:GL)(e:En)(h:aA)(x:Esc)(K:KT):Sf C gl NJ e h x K:=⟨_,by simp only[NJ,↓wZ,AO.still];rfl⟩
theorem zdq {C gl e h x K}:NW C gl NJ ⟨e,h,x⟩ K=(aV C gl e h x K).1:=(aV C gl e h x K).2
theorem zfz {C gl e h x K}:NW C gl (.loop NJ) ⟨e,h,x⟩ K=DA C gl NJ K [(0,bA e 0),(14,bA e 14),(17,bA e 17)] h x:=mB
def oQ:ACode:=.pr [] .ret
def bV (C:Hd)(gl:GL)(e:En)(h:aA)(x:Esc)(K:KT):Sf C gl oQ e h x K:=⟨_,by simp only[oQ,↓wZ,AO.still];rfl⟩
theorem zdr {C gl e h x K}:NW C gl oQ ⟨e,h,x⟩ K=(bV C gl e h x K).1:=(bV C gl e h x K).2
def pQ:ACode:=.pr [0,2,14] (.seq (.seq (rg [mV 107 2,
mV 17 107] [0,14,17])
(.block 6 (.loop NJ)))
oQ)
def cV (C:Hd)(gl:GL)(e:En)(h:aA)(x:Esc)(K:KT):Sf C gl pQ e h x K:=⟨_,by simp only[pQ,↓wZ,AO.still];rfl⟩
theorem zds {C gl e h x K}:NW C gl pQ ⟨e,h,x⟩ K=(cV C gl e h x K).1:=(cV C gl e h x K).2
def pH:ACode:=.pr [0,1,2,3,4,18,19,20,21,22] (.seq (.seq (rg [mV 149 20,
mV 150 21,
bN 151 .lss 149 150] [0,1,2,3,4,18,19,20,21,22,151])
(.cond 151 .skip
(.exit 8)))
(.block 9 (.seq (rg [mV 152 20,
mV 153 21,
bN 154 .add 152 153,
uO 155 (.conv (.i .u64) 154),
bN 156 .shr 155 (.c (.p (.int .u64 1))),
uO 157 (.conv (.i .i64) 156),
mV 23 157] [0,1,2,3,4,18,19,20,21,22,23])
(.seq (dr [dF (mV 158 4) [4],
dF (mV 159 0) [0],
dF (mV 160 22) [22],
dF (mV 161 23) [23],
dF (bN 162 .sub 160 161) [160,161],
dF (iA 163 (some 4) 159 162) [159,162],
dF (lD 164 (some 4) 163) [163],
dF (mV 165 0) [0],
dF (mV 166 23) [23],
dF (iA 167 (some 4) 165 166) [165,166],
dF (lD 168 (some 4) 167) [167],
dT (uO 169 (.callv 158 [164,168])) [158,164,168],
dF (bN 170 .lss 169 (cI 0)) [169],
dF (uO 171 (.un .not 170)) [170]] [0,1,2,3,4,18,19,20,21,22,23,171])
(.cond 171 (rg [mV 172 23,
bN 173 .add 172 (cI 1),
mV 20 173] [0,1,2,3,4,18,19,20,21,22])
(rg [mV 174 23,
mV 21 174] [0,1,2,3,4,18,19,20,21,22]))))))
def dV (C:Hd)(gl:GL)(e:En)(h:aA)(x:Esc)(K:KT):Sf C gl pH e h x K:=⟨_,by simp only[pH,↓wZ,AO.still];rfl⟩
theorem zdt {C gl e h x K}:NW C gl pH ⟨e,h,x⟩ K=(dV C gl e h x K).1:=(dV C gl e h x K).2
theorem zf0 {C gl e h x K}:NW C gl (.loop pH) ⟨e,h,x⟩ K=DA C gl pH K [(0,bA e 0),(1,bA e 1),(2,bA e 2),(3,bA e 3),(4,bA e 4),(18,bA e 18),(19,bA e 19),(20,bA e 20),(21,bA e 21),(22,bA e 22)] h x:=mB
def bM:ACode:=.pr [0,3,4,18,24] (.seq (rg [mV 206 18,
mV 207 24,
bN 208 .lss 206 207,
mV 209 208,
gD 210 209 true (.mv 24),
gD 211 209 true (.mv 3),
gD 212 209 true (.bin .lss 210 211),
uO 213 (.pick 209 212 cF)] [0,3,4,18,24,213])
(.cond 213 (rg [mV 214 0,
mV 215 18,
mV 216 24,
mV 217 3,
mV 218 4,
cL 219 mE [214,215,216,217,218]] [])
.skip))
def bI (C:Hd)(gl:GL)(e:En)(h:aA)(x:Esc)(K:KT):Sf C gl bM e h x K:=⟨_,by simp only[bM,↓wZ,AO.still];rfl⟩
theorem nV {C gl e h x K}:NW C gl bM ⟨e,h,x⟩ K=(bI C gl e h x K).1:=(bI C gl e h x K).2
def cM:ACode:=.pr [0,1,3,4,18,20,24] (.seq (.seq (rg [mV 192 1,
mV 193 20,
bN 194 .lss 192 193,
mV 195 194,
gD 196 195 true (.mv 20),
gD 197 195 true (.mv 18),
gD 198 195 true (.bin .lss 196 197),
uO 199 (.pick 195 198 cF)] [0,1,3,4,18,20,24,199])
(.cond 199 (rg [mV 200 0,
mV 201 1,
mV 202 20,
mV 203 18,
mV 204 4,
cL 205 mE [200,201,202,203,204]] [0,3,4,18,24])
.skip))
bM)
def dI (C:Hd)(gl:GL)(e:En)(h:aA)(x:Esc)(K:KT):Sf C gl cM e h x K:=⟨_,by simp only[cM,↓wZ,AO.still];rfl⟩
theorem oV {C gl e h x K}:NW C gl cM ⟨e,h,x⟩ K=(dI C gl e h x K).1:=(dI C gl e h x K).2
def dM:ACode:=.pr [0,1,2,3,4,18,19,20] (.seq (rg [mV 175 19,
mV 176 20,
bN 177 .sub 175 176,
mV 24 177] [0,1,2,3,4,18,20,24])
(.seq (.seq (rg [mV 178 20,
mV 179 2,
bN 180 .lss 178 179,
mV 181 180,
gD 182 181 true (.mv 2),
gD 183 181 true (.mv 24),
gD 184 181 true (.bin .lss 182 183),
uO 185 (.pick 181 184 cF)] [0,1,2,3,4,18,20,24,185])
(.cond 185 (rg [mV 186 0,
mV 187 20,
mV 188 2,
mV 189 24,
mV 190 4,
cL 191 lL [186,187,188,189,190]] [0,1,3,4,18,20,24])
.skip))
cM))
def SU (C:Hd)(gl:GL)(e:En)(h:aA)(x:Esc)(K:KT):Sf C gl dM e h x K:=⟨_,by simp only[dM,↓wZ,AO.still];rfl⟩
theorem zdi {C gl e h x K}:NW C gl dM ⟨e,h,x⟩ K=(SU C gl e h x K).1:=(SU C gl e h x K).2
def jQ:ACode:=.pr [0,1,2,3,4,18,19,20,21] (.seq (rg [mV 147 19,
bN 148 .sub 147 (cI 1),
mV 22 148] [0,1,2,3,4,18,19,20,21,22])
(.seq (.block 8 (.loop pH))
dM))
def TU (C:Hd)(gl:GL)(e:En)(h:aA)(x:Esc)(K:KT):Sf C gl jQ e h x K:=⟨_,by simp only[jQ,↓wZ,AO.still];rfl⟩
theorem zdj {C gl e h x K}:NW C gl jQ ⟨e,h,x⟩ K=(TU C gl e h x K).1:=(TU C gl e h x K).2
def kQ:ACode:=.pr [0,1,2,3,4] (.seq (rg [mV 129 1,
mV 130 3,
bN 131 .add 129 130,
uO 132 (.conv (.i .u64) 131),
bN 133 .shr 132 (.c (.p (.int .u64 1))),
uO 134 (.conv (.i .i64) 133),
mV 18 134] [0,1,2,3,4,18])
(.seq (rg [mV 135 18,
mV 136 2,
bN 137 .add 135 136,
mV 19 137] [0,1,2,3,4,18,19])
(.seq (rg [mV 20 (cI 0),
mV 21 (cI 0)] [0,1,2,3,4,18,19])
(.seq (.seq (rg [mV 138 2,
mV 139 18,
bN 140 .gtr 138 139] [0,1,2,3,4,18,19,140])
(.cond 140 (.seq (rg [mV 141 19,
mV 142 3,
bN 143 .sub 141 142,
mV 20 143] [0,1,2,3,4,18,19,20])
(rg [mV 144 18,
mV 21 144] [0,1,2,3,4,18,19,20,21]))
(.seq (rg [mV 145 1,
mV 20 145] [0,1,2,3,4,18,19,20])
(rg [mV 146 2,
mV 21 146] [0,1,2,3,4,18,19,20,21]))))
jQ))))
def UU (C:Hd)(gl:GL)(e:En)(h:aA)(x:Esc)(K:KT):Sf C gl kQ e h x K:=⟨_,by simp only[kQ,↓wZ,AO.still];rfl⟩
theorem zdk {C gl e h x K}:NW C gl kQ ⟨e,h,x⟩ K=(UU C gl e h x K).1:=(UU C gl e h x K).2
def lQ:ACode:=.pr [0,1,2,3,4] (.seq (.seq (rg [mV 77 3,
mV 78 2,
bN 79 .sub 77 78,
bN 80 .eql 79 (cI 1)] [0,1,2,3,4,80])
(.cond 80 (.seq (rg [mV 81 1,
mV 14 81] [0,2,4,14])
(.seq (rg [mV 82 2,
mV 15 82] [0,2,4,14,15])
(.seq (.block 4 (.loop MJ))
pQ)))
.skip))
kQ)
def VU (C:Hd)(gl:GL)(e:En)(h:aA)(x:Esc)(K:KT):Sf C gl lQ e h x K:=⟨_,by simp only[lQ,↓wZ,AO.still];rfl⟩
theorem zdl {C gl e h x K}:NW C gl lQ ⟨e,h,x⟩ K=(VU C gl e h x K).1:=(VU C gl e h x K).2
def aY:ACode:=(.seq (.seq (rg [mV 25 2,
mV 26 1,
bN 27 .sub 25 26,
bN 28 .eql 27 (cI 1)] [0,1,2,3,4,28])
(.cond 28 (.seq (rg [mV 29 2,
mV 10 29] [0,1,3,4,10])
(.seq (rg [mV 30 3,
mV 11 30] [0,1,4,10,11])
(.seq (.block 0 (.loop KJ))
nQ)))
.skip))
lQ)
def xS:AFun:=⟨5,[],aY,true,false⟩
def aI (C:Hd)(gl:GL)(e:En)(h:aA)(x:Esc)(K:KT):Sf C gl aY e h x K:=⟨_,by simp only[aY,↓wZ,AO.still];rfl⟩
theorem zdg {C gl v0 v1 v2 v3 v4 h x K}:NW C gl xS.body ⟨enter [v0,v1,v2,v3,v4],h,x⟩ K=(aI C gl [(0,v0),(1,v1),(2,v2),(3,v3),(4,v4)] h x K).1:=(aI C gl [(0,v0),(1,v1),(2,v2),(3,v3),(4,v4)] h x K).2
def bQ:ACode:=.pr [0,1,2,3,4,10,11,12,13] (.seq (.seq (dr [dF (mV 81 1) [1],
dF (bN 82 .gtr 81 (cI 0)) [81],
dF (mV 83 82) [82],
dF (gD 84 83 true (.mv 4)) [4,83],
dF (gD 85 83 true (.mv 0)) [0,83],
dF (gD 86 83 true (.mv 1)) [1,83],
dF (gD 87 83 true (.bin .sub 86 (cI 1))) [86,83],
dF (gD 88 83 true (.iaddr (some 4) 85 87)) [85,87,83],
dF (gD 89 83 true (.load (some 4) 88)) [88,83],
dF (gD 90 83 true (.mv 0)) [0,83],
dF (gD 91 83 true (.mv 13)) [13,83],
dF (gD 92 83 true (.iaddr (some 4) 90 91)) [90,91,83],
dF (gD 93 83 true (.load (some 4) 92)) [92,83],
dT (gD 94 83 true (.callv 84 [89,93])) [84,89,93,83],
dF (gD 95 83 true (.bin .lss 94 (cI 0))) [94,83],
dF (gD 96 83 true (.un .not 95)) [95,83],
dF (uO 97 (.pick 83 96 cF)) [83,96]] [0,1,2,3,4,10,11,12,13,97])
(.cond 97 (.seq (rg [mV 98 0,
mV 99 1,
mV 100 2,
mV 101 13,
mV 102 4,
cL 103 zdK [98,99,100,101,102],
mV 15 103] [0,2,3,4,10,11,15])
(.seq (rg [mV 104 15,
mV 1 104] [0,1,2,3,4,10,11])
(.exit 1)))
.skip))
(.seq (rg [mV 106 0,
mV 107 1,
mV 108 2,
mV 109 13,
mV 110 4,
cL 111 zdJ [106,107,108,109,110],
mV 105 111,
eX 112 105 0,
eX 113 105 1,
mV 16 112,
mV 17 113] [0,1,2,3,4,12,16,17])
(.seq (rg [mV 114 17,
mV 11 114] [0,1,2,3,4,11,12,16])
(.seq (rg [mV 115 16,
mV 116 1,
bN 117 .sub 115 116,
mV 118 2,
mV 119 16,
bN 120 .sub 118 119,
mV 18 117,
mV 19 120] [0,1,2,3,4,11,12,16,18,19])
(.seq (rg [mV 121 12,
bN 122 .quo 121 (cI 8),
mV 20 122] [0,1,2,3,4,11,16,18,19,20])
(.seq (rg [mV 123 18,
mV 124 19,
bN 125 .lss 123 124] [0,1,2,3,4,11,16,18,19,20,125])
(.cond 125 (.seq (rg [mV 126 18,
mV 127 20,
bN 128 .geq 126 127,
mV 10 128] [0,1,2,3,4,10,11,16])
(.seq (rg [mV 129 0,
mV 130 1,
mV 131 16,
mV 132 3,
mV 133 4,
cL 134 XG [129,130,131,132,133]] [0,2,3,4,10,11,16])
(rg [mV 135 16,
bN 136 .add 135 (cI 1),
mV 1 136] [0,1,2,3,4,10,11])))
(.seq (rg [mV 137 19,
mV 138 20,
bN 139 .geq 137 138,
mV 10 139] [0,1,2,3,4,10,11,16])
(.seq (rg [mV 140 0,
mV 141 16,
bN 142 .add 141 (cI 1),
mV 143 2,
mV 144 3,
mV 145 4,
cL 146 XG [140,142,143,144,145]] [0,1,3,4,10,11,16])
(rg [mV 147 16,
mV 2 147] [0,1,2,3,4,10,11]))))))))))
def EU (C:Hd)(gl:GL)(e:En)(h:aA)(x:Esc)(K:KT):Sf C gl bQ e h x K:=⟨_,by simp only[bQ,↓wZ,AO.still];rfl⟩
theorem zcQ {C gl e h x K}:NW C gl bQ ⟨e,h,x⟩ K=(EU C gl e h x K).1:=(EU C gl e h x K).2
def cQ:ACode:=.pr [0,1,2,3,4,10,11,12,13,14] (.seq (.seq (rg [mV 68 10,
mV 69 68,
gD 70 69 true (.mv 11),
uO 71 (.pick 69 70 cF),
mV 72 71,
gD 73 72 true (.mv 14),
gD 74 72 true (.bin .eql 73 (cI 1)),
uO 75 (.pick 72 74 cF)] [0,1,2,3,4,10,11,12,13,75])
(.cond 75 (.seq (rg [mV 76 0,
mV 77 1,
mV 78 2,
mV 79 4,
cL 80 zdI [76,77,78,79]] [0,1,2,3,4,10,11,12,13,80])
(.cond 80 .ret
.skip))
.skip))
bQ)
def FU (C:Hd)(gl:GL)(e:En)(h:aA)(x:Esc)(K:KT):Sf C gl cQ e h x K:=⟨_,by simp only[cQ,↓wZ,AO.still];rfl⟩
theorem zcR {C gl e h x K}:NW C gl cQ ⟨e,h,x⟩ K=(FU C gl e h x K).1:=(FU C gl e h x K).2
def dQ:ACode:=.pr [0,1,2,3,4,10,11,12] (.seq (rg [mV 48 0,
mV 49 1,
mV 50 2,
mV 51 4,
cL 52 zdG [48,49,50,51],
mV 47 52,
eX 53 47 0,
eX 54 47 1,
mV 13 53,
mV 14 54] [0,1,2,3,4,10,11,12,13,14])
(.seq (.seq (rg [mV 55 14,
bN 56 .eql 55 (cI 2)] [0,1,2,3,4,10,11,12,13,14,56])
(.cond 56 (.seq (rg [mV 57 0,
mV 58 1,
mV 59 2,
mV 60 4,
cL 61 zdL [57,58,59,60]] [0,1,2,3,4,10,11,12,13])
(.seq (rg [mV 62 2,
bN 63 .sub 62 (cI 1),
mV 64 13,
mV 65 1,
bN 66 .sub 64 65,
bN 67 .sub 63 66,
mV 13 67] [0,1,2,3,4,10,11,12,13])
(rg [mV 14 (cI 1)] [0,1,2,3,4,10,11,12,13,14])))
.skip))
cQ))
def GU (C:Hd)(gl:GL)(e:En)(h:aA)(x:Esc)(K:KT):Sf C gl dQ e h x K:=⟨_,by simp only[dQ,↓wZ,AO.still];rfl⟩
theorem zcS {C gl e h x K}:NW C gl dQ ⟨e,h,x⟩ K=(GU C gl e h x K).1:=(GU C gl e h x K).2
def EJ:ACode:=.pr [0,1,2,3,4,10,11] (.block 1 (.seq (rg [mV 21 2,
mV 22 1,
bN 23 .sub 21 22,
mV 12 23] [0,1,2,3,4,10,11,12])
(.seq (.seq (rg [mV 24 12,
bN 25 .leq 24 (cI 12)] [0,1,2,3,4,10,11,12,25])
(.cond 25 (.seq (rg [mV 26 0,
mV 27 1,
mV 28 2,
mV 29 4,
cL 30 DD [26,27,28,29]] [])
.ret)
.skip))
(.seq (.seq (rg [mV 31 3,
bN 32 .eql 31 (cI 0)] [0,1,2,3,4,10,11,12,32])
(.cond 32 (.seq (rg [mV 33 0,
mV 34 1,
mV 35 2,
mV 36 4,
cL 37 zdH [33,34,35,36]] [])
.ret)
.skip))
(.seq (.seq (rg [mV 38 10,
uO 39 (.un .not 38)] [0,1,2,3,4,10,11,12,39])
(.cond 39 (.seq (rg [mV 40 0,
mV 41 1,
mV 42 2,
mV 43 4,
cL 44 zdF [40,41,42,43]] [0,1,2,3,4,10,11,12])
(rg [mV 45 3,
bN 46 .sub 45 (cI 1),
mV 3 46] [0,1,2,3,4,10,11,12]))
.skip))
dQ)))))
def HU (C:Hd)(gl:GL)(e:En)(h:aA)(x:Esc)(K:KT):Sf C gl EJ e h x K:=⟨_,by simp only[EJ,↓wZ,AO.still];rfl⟩
theorem zcT {C gl e h x K}:NW C gl EJ ⟨e,h,x⟩ K=(HU C gl e h x K).1:=(HU C gl e h x K).2
theorem zfq {C gl e h x K}:NW C gl (.loop EJ) ⟨e,h,x⟩ K=DA C gl EJ K [(0,bA e 0),(1,bA e 1),(2,bA e 2),(3,bA e 3),(4,bA e 4),(10,bA e 10),(11,bA e 11)] h x:=mB
def WX:ACode:=(.seq (rg [mV 10 cT] [0,1,2,3,4,10])
(.seq (rg [mV 11 cT] [0,1,2,3,4,10,11])
(.block 0 (.loop EJ))))
def sS:AFun:=⟨5,[],WX,true,false⟩
def fO (C:Hd)(gl:GL)(e:En)(h:aA)(x:Esc)(K:KT):Sf C gl WX e h x K:=⟨_,by simp only[WX,↓wZ,AO.still];rfl⟩
theorem zcP {C gl v0 v1 v2 v3 v4 h x K}:NW C gl sS.body ⟨enter [v0,v1,v2,v3,v4],h,x⟩ K=(fO C gl [(0,v0),(1,v1),(2,v2),(3,v3),(4,v4)] h x K).1:=(fO C gl [(0,v0),(1,v1),(2,v2),(3,v3),(4,v4)] h x K).2
def aX:ACode:=(.seq (rg [mV 2 (cI 0)] [0])
(.seq (.cond cF (.seq (rg [mV 3 0,
uO 4 (.conv (.i .u32) 3),
cL 5 zdE [4],
mV 2 5] [2])
.ret)
.skip)
(.seq (rg [mV 6 0,
cL 7 UK [6],
mV 2 7] [2])
.ret)))
def AR:AFun:=⟨1,[.t 2],aX,false,false⟩
def EN (C:Hd)(gl:GL)(e:En)(h:aA)(x:Esc)(K:KT):Sf C gl aX e h x K:=⟨_,by simp only[aX,↓wZ,AO.still];rfl⟩
theorem zbr {C gl v0 h x K}:NW C gl AR.body ⟨enter [v0],h,x⟩ K=(EN C gl [(0,v0)] h x K).1:=(EN C gl [(0,v0)] h x K).2
def TW:ACode:=(.seq (rg [mV 2 cF] [0])
(.seq (rg [mV 3 0,
cL 4 tB [3,(cI (-100000)),(cI 100000)],
uO 5 (.un .not 4),
mV 2 5] [2])
.ret))
def LM:AFun:=⟨1,[.t 2],TW,false,false⟩
def BN (C:Hd)(gl:GL)(e:En)(h:aA)(x:Esc)(K:KT):Sf C gl TW e h x K:=⟨_,by simp only[TW,↓wZ,AO.still];rfl⟩
theorem zbh {C gl v0 h x K}:NW C gl LM.body ⟨enter [v0],h,x⟩ K=(BN C gl [(0,v0)] h x K).1:=(BN C gl [(0,v0)] h x K).2
def cY:ACode:=(.seq (rg [mV 4 (cI 0)] [0,1])
(.seq (rg [mV 5 0,
mV 6 1,
cL 7 LK [5,6],
mV 4 7] [4])
.ret))
def yS:AFun:=⟨2,[.t 4],cY,false,false⟩
def mO (C:Hd)(gl:GL)(e:En)(h:aA)(x:Esc)(K:KT):Sf C gl cY e h x K:=⟨_,by simp only[cY,↓wZ,AO.still];rfl⟩
theorem zdv {C gl v0 v1 h x K}:NW C gl yS.body ⟨enter [v0,v1],h,x⟩ K=(mO C gl [(0,v0),(1,v1)] h x K).1:=(mO C gl [(0,v0),(1,v1)] h x K).2
def BJ:ACode:=.pr [0,1,7,8] (.seq (rg [bN 9 .lss 8 7] [0,1,7,8,9])
(.seq (.cond 9 .skip
(.exit 0))
(.seq (.block 1 (.seq (rg [mV 10 8,
mV 5 10] [0,1,5,7,8])
(.seq (rg [mV 11 1,
mV 12 0,
mV 13 5,
iA 14 none 12 13,
lD 15 none 14,
uO 16 (.callv 11 [15])] [0,1,5,7,8,16])
(.cond 16 (.seq (rg [mV 17 5,
mV 4 17] [4])
.ret)
.skip))))
(rg [bN 18 .add 8 (cI 1),
mV 8 18] [0,1,7,8]))))
def yU (C:Hd)(gl:GL)(e:En)(h:aA)(x:Esc)(K:KT):Sf C gl BJ e h x K:=⟨_,by simp only[BJ,↓wZ,AO.still];rfl⟩
theorem zcH {C gl e h x K}:NW C gl BJ ⟨e,h,x⟩ K=(yU C gl e h x K).1:=(yU C gl e h x K).2
theorem zfn {C gl e h x K}:NW C gl (.loop BJ) ⟨e,h,x⟩ K=DA C gl BJ K [(0,bA e 0),(1,bA e 1),(7,bA e 7),(8,bA e 8)] h x:=mB
def ZP:ACode:=.pr [] (.seq (rg [mV 4 (cI (-1))] [4])
.ret)
def zU (C:Hd)(gl:GL)(e:En)(h:aA)(x:Esc)(K:KT):Sf C gl ZP e h x K:=⟨_,by simp only[ZP,↓wZ,AO.still];rfl⟩
theorem zcI {C gl e h x K}:NW C gl ZP ⟨e,h,x⟩ K=(zU C gl e h x K).1:=(zU C gl e h x K).2
def SX:ACode:=(.seq (rg [mV 4 (cI 0)] [0,1])
(.seq (.seq (rg [mV 6 0,
lN 7 6,
mV 8 (cI 0)] [0,1,7,8])
(.block 0 (.loop BJ)))
ZP))
def OM:AFun:=⟨2,[.t 4],SX,true,false⟩
def dO (C:Hd)(gl:GL)(e:En)(h:aA)(x:Esc)(K:KT):Sf C gl SX e h x K:=⟨_,by simp only[SX,↓wZ,AO.still];rfl⟩
theorem zcG {C gl v0 v1 h x K}:NW C gl OM.body ⟨enter [v0,v1],h,x⟩ K=(dO C gl [(0,v0),(1,v1)] h x K).1:=(dO C gl [(0,v0),(1,v1)] h x K).2
def QW:ACode:=(.seq (rg [uO 2 (.box 0),
mV 3 cF] [1,2])
(.seq (rg [fA 4 0 none 2,
lD 5 none 4,
lD 6 none 1,
bN 7 .eql 5 6,
mV 3 7] [3])
.ret))
def sR:AFun:=⟨2,[.t 3],QW,false,false⟩
def zN (C:Hd)(gl:GL)(e:En)(h:aA)(x:Esc)(K:KT):Sf C gl QW e h x K:=⟨_,by simp only[QW,↓wZ,AO.still];rfl⟩
theorem zbf {C gl v0 v1 h x K}:NW C gl sR.body ⟨enter [v0,v1],h,x⟩ K=(zN C gl [(0,v0),(1,v1)] h x K).1:=(zN C gl [(0,v0),(1,v1)] h x K).2
def uW:ACode:=(.seq (rg [mV 2 cF] [0])
(.seq (rg [mV 3 0,
cL 4 tB [3,(cI 0),(cI 345686399999)],
uO 5 (.un .not 4),
mV 2 5] [2])
.ret))
def FM:AFun:=⟨1,[.t 2],uW,false,false⟩
def oN (C:Hd)(gl:GL)(e:En)(h:aA)(x:Esc)(K:KT):Sf C gl uW e h x K:=⟨_,by simp only[uW,↓wZ,AO.still];rfl⟩
theorem zaz {C gl v0 h x K}:NW C gl FM.body ⟨enter [v0],h,x⟩ K=(oN C gl [(0,v0)] h x K).1:=(oN C gl [(0,v0)] h x K).2
def WW:ACode:=(.seq (rg [mV 2 cF] [0])
(.seq (rg [mV 3 0,
cL 4 OG [3],
uO 5 (.un .not 4),
mV 2 5] [2])
.ret))
def wR:AFun:=⟨1,[.t 2],WW,false,false⟩
def DN (C:Hd)(gl:GL)(e:En)(h:aA)(x:Esc)(K:KT):Sf C gl WW e h x K:=⟨_,by simp only[WW,↓wZ,AO.still];rfl⟩
theorem zbk {C gl v0 h x K}:NW C gl wR.body ⟨enter [v0],h,x⟩ K=(DN C gl [(0,v0)] h x K).1:=(DN C gl [(0,v0)] h x K).2
def hJ:ACode:=.pr [0,3,5,23,24,25] (.seq (rg [bN 26 .lss 25 24] [0,3,5,23,24,25,26])
(.seq (.cond 26 .skip
(.exit 0))
(.seq (.block 1 (.seq (rg [mV 27 25,
iA 28 none 23 25,
lD 29 none 28,
mV 6 27,
mV 7 29] [0,3,5,6,7,23,24,25])
(.seq (rg [mV 30 0,
mV 31 6,
iA 32 (some 4) 30 31,
lD 33 (some 4) 32,
mV 34 7,
cL 35 sI [33,34],
uO 36 (.un .not 35)] [0,3,5,23,24,25,36])
(.cond 36 (.seq (rg [mV 4 cF] [4])
.ret)
.skip))))
(rg [bN 37 .add 25 (cI 1),
mV 25 37] [0,3,5,23,24,25]))))
def xT (C:Hd)(gl:GL)(e:En)(h:aA)(x:Esc)(K:KT):Sf C gl hJ e h x K:=⟨_,by simp only[hJ,↓wZ,AO.still];rfl⟩
theorem zaV {C gl e h x K}:NW C gl hJ ⟨e,h,x⟩ K=(xT C gl e h x K).1:=(xT C gl e h x K).2
theorem zeS {C gl e h x K}:NW C gl (.loop hJ) ⟨e,h,x⟩ K=DA C gl hJ K [(0,bA e 0),(3,bA e 3),(5,bA e 5),(23,bA e 23),(24,bA e 24),(25,bA e 25)] h x:=mB
def vP:ACode:=.pr [0,3,5] (.seq (rg [mV 38 5,
mV 39 0,
lN 40 39,
bN 41 .eql 38 40,
mV 42 41,
gD 43 42 false (.mv 0),
gD 44 42 false (.load (some 4) 3),
gD 45 42 false (.call oF [43,44]),
gD 46 42 false (.bin .geq 45 (cI 0)),
uO 47 (.pick 42 cT 46),
mV 4 47] [4])
.ret)
def yT (C:Hd)(gl:GL)(e:En)(h:aA)(x:Esc)(K:KT):Sf C gl vP e h x K:=⟨_,by simp only[vP,↓wZ,AO.still];rfl⟩
theorem zaW {C gl e h x K}:NW C gl vP ⟨e,h,x⟩ K=(yT C gl e h x K).1:=(yT C gl e h x K).2
def JW:ACode:=(.seq (rg [uO 3 (.box 1),
mV 4 cF] [0,3])
(.seq (rg [fA 8 3 none 3,
lD 9 none 8,
lN 10 9,
mV 5 10] [0,3,5])
(.seq (.seq (rg [mV 11 5,
bN 12 .eql 11 (cI 0),
mV 13 12,
gD 14 13 false (.mv 5),
gD 15 13 false (.mv 0),
gD 16 13 false (.len 15),
gD 17 13 false (.bin .gtr 14 16),
uO 18 (.pick 13 cT 17)] [0,3,5,18])
(.cond 18 (.seq (rg [mV 4 cF] [4])
.ret)
.skip))
(.seq (.seq (rg [fA 19 3 none 3,
lD 20 none 19,
mV 21 5,
bN 22 .sub 21 (cI 1),
uO 23 (.slice none 20 none (some 22) none),
lN 24 23,
mV 25 (cI 0)] [0,3,5,23,24,25])
(.block 0 (.loop hJ)))
vP))))
def mR:AFun:=⟨2,[.t 4],JW,false,false⟩
def RH (C:Hd)(gl:GL)(e:En)(h:aA)(x:Esc)(K:KT):Sf C gl JW e h x K:=⟨_,by simp only[JW,↓wZ,AO.still];rfl⟩
theorem zaU {C gl v0 v1 h x K}:NW C gl mR.body ⟨enter [v0,v1],h,x⟩ K=(RH C gl [(0,v0),(1,v1)] h x K).1:=(RH C gl [(0,v0),(1,v1)] h x K).2
def FJ:ACode:=.pr [0,2,4,10,11] (.seq (.seq (rg [mV 18 10,
mV 19 11,
bN 20 .neq 18 19] [0,2,4,10,11,20])
(.cond 20 .skip
(.exit 0)))
(.block 1 (.seq (rg [mV 21 10,
mV 22 11,
bN 23 .gtr 21 22] [0,2,4,10,11,23])
(.cond 23 (.seq (rg [mV 24 0,
mV 25 2,
mV 26 10,
bN 27 .sub 25 26,
mV 28 2,
mV 29 11,
mV 30 4,
cL 31 ZG [24,27,28,29,30]] [0,2,4,10,11])
(rg [mV 32 10,
mV 33 11,
bN 34 .sub 32 33,
mV 10 34] [0,2,4,10,11]))
(.seq (rg [mV 35 0,
mV 36 2,
mV 37 10,
bN 38 .sub 36 37,
mV 39 2,
mV 40 11,
bN 41 .add 39 40,
mV 42 10,
bN 43 .sub 41 42,
mV 44 10,
mV 45 4,
cL 46 ZG [35,38,43,44,45]] [0,2,4,10,11])
(rg [mV 47 11,
mV 48 10,
bN 49 .sub 47 48,
mV 11 49] [0,2,4,10,11]))))))
def IU (C:Hd)(gl:GL)(e:En)(h:aA)(x:Esc)(K:KT):Sf C gl FJ e h x K:=⟨_,by simp only[FJ,↓wZ,AO.still];rfl⟩
theorem zcV {C gl e h x K}:NW C gl FJ ⟨e,h,x⟩ K=(IU C gl e h x K).1:=(IU C gl e h x K).2
theorem zfr {C gl e h x K}:NW C gl (.loop FJ) ⟨e,h,x⟩ K=DA C gl FJ K [(0,bA e 0),(2,bA e 2),(4,bA e 4),(10,bA e 10),(11,bA e 11)] h x:=mB
def eQ:ACode:=.pr [0,2,4,10] (rg [mV 50 0,
mV 51 2,
mV 52 10,
bN 53 .sub 51 52,
mV 54 2,
mV 55 10,
mV 56 4,
cL 57 ZG [50,53,54,55,56]] [])
def JU (C:Hd)(gl:GL)(e:En)(h:aA)(x:Esc)(K:KT):Sf C gl eQ e h x K:=⟨_,by simp only[eQ,↓wZ,AO.still];rfl⟩
theorem zcW {C gl e h x K}:NW C gl eQ ⟨e,h,x⟩ K=(JU C gl e h x K).1:=(JU C gl e h x K).2
def XX:ACode:=(.seq (rg [mV 12 2,
mV 13 1,
bN 14 .sub 12 13,
mV 10 14] [0,2,3,4,10])
(.seq (rg [mV 15 3,
mV 16 2,
bN 17 .sub 15 16,
mV 11 17] [0,2,4,10,11])
(.seq (.block 0 (.loop FJ))
eQ)))
def tS:AFun:=⟨5,[],XX,true,false⟩
def iO (C:Hd)(gl:GL)(e:En)(h:aA)(x:Esc)(K:KT):Sf C gl XX e h x K:=⟨_,by simp only[XX,↓wZ,AO.still];rfl⟩
theorem zcU {C gl v0 v1 v2 v3 v4 h x K}:NW C gl tS.body ⟨enter [v0,v1,v2,v3,v4],h,x⟩ K=(iO C gl [(0,v0),(1,v1),(2,v2),(3,v3),(4,v4)] h x K).1:=(iO C gl [(0,v0),(1,v1),(2,v2),(3,v3),(4,v4)] h x K).2
def AP:ACode:=.pr [0,2] (.seq (rg [mV 19 2,
mV 20 0,
uO 21 (.conv (.i .u8) 20),
uO 22 (.idxs (cS [0,1,2,2,3,3,3,3,4,4,4,4,4,4,4,4,5,5,5,5,5,5,5,5,5,5,5,5,5,5,5,5,6,6,6,6,6,6,6,6,6,6,6,6,6,6,6,6,6,6,6,6,6,6,6,6,6,6,6,6,6,6,6,6,7,7,7,7,7,7,7,7,7,7,7,7,7,7,7,7,7,7,7,7,7,7,7,7,7,7,7,7,7,7,7,7,7,7,7,7,7,7,7,7,7,7,7,7,7,7,7,7,7,7,7,7,7,7,7,7,7,7,7,7,7,7,7,7,8,8,8,8,8,8,8,8,8,8,8,8,8,8,8,8,8,8,8,8,8,8,8,8,8,8,8,8,8,8,8,8,8,8,8,8,8,8,8,8,8,8,8,8,8,8,8,8,8,8,8,8,8,8,8,8,8,8,8,8,8,8,8,8,8,8,8,8,8,8,8,8,8,8,8,8,8,8,8,8,8,8,8,8,8,8,8,8,8,8,8,8,8,8,8,8,8,8,8,8,8,8,8,8,8,8,8,8,8,8,8,8,8,8,8,8,8,8,8,8,8,8,8,8,8,8,8,8]) 21),
uO 23 (.conv (.i .i64) 22),
bN 24 .add 19 23,
mV 2 24] [2])
.ret)
def FT (C:Hd)(gl:GL)(e:En)(h:aA)(x:Esc)(K:KT):Sf C gl AP e h x K:=⟨_,by simp only[AP,↓wZ,AO.still];rfl⟩
theorem zbt {C gl e h x K}:NW C gl AP ⟨e,h,x⟩ K=(FT C gl e h x K).1:=(FT C gl e h x K).2
def BP:ACode:=.pr [0,2] (.seq (.seq (rg [mV 13 0,
bN 14 .geq 13 (.c (.p (.int .u64 256)))] [0,2,14])
(.cond 14 (.seq (rg [mV 15 0,
bN 16 .shr 15 (.c (.p (.int .u64 8))),
mV 0 16] [0,2])
(rg [mV 17 2,
bN 18 .add 17 (cI 8),
mV 2 18] [0,2]))
.skip))
AP)
def GT (C:Hd)(gl:GL)(e:En)(h:aA)(x:Esc)(K:KT):Sf C gl BP e h x K:=⟨_,by simp only[BP,↓wZ,AO.still];rfl⟩
theorem zbu {C gl e h x K}:NW C gl BP ⟨e,h,x⟩ K=(GT C gl e h x K).1:=(GT C gl e h x K).2
def CP:ACode:=.pr [0,2] (.seq (.seq (rg [mV 7 0,
bN 8 .geq 7 (.c (.p (.int .u64 65536)))] [0,2,8])
(.cond 8 (.seq (rg [mV 9 0,
bN 10 .shr 9 (.c (.p (.int .u64 16))),
mV 0 10] [0,2])
(rg [mV 11 2,
bN 12 .add 11 (cI 16),
mV 2 12] [0,2]))
.skip))
BP)
def HT (C:Hd)(gl:GL)(e:En)(h:aA)(x:Esc)(K:KT):Sf C gl CP e h x K:=⟨_,by simp only[CP,↓wZ,AO.still];rfl⟩
theorem zbv {C gl e h x K}:NW C gl CP ⟨e,h,x⟩ K=(HT C gl e h x K).1:=(HT C gl e h x K).2
def bX:ACode:=(.seq (rg [mV 2 (cI 0)] [0,2])
(.seq (.seq (rg [mV 3 0,
bN 4 .geq 3 (.c (.p (.int .u64 4294967296)))] [0,2,4])
(.cond 4 (.seq (rg [mV 5 0,
bN 6 .shr 5 (.c (.p (.int .u64 32))),
mV 0 6] [0])
(rg [mV 2 (cI 32)] [0,2]))
.skip))
CP))
def BR:AFun:=⟨1,[.t 2],bX,false,false⟩
def FN (C:Hd)(gl:GL)(e:En)(h:aA)(x:Esc)(K:KT):Sf C gl bX e h x K:=⟨_,by simp only[bX,↓wZ,AO.still];rfl⟩
theorem zbs {C gl v0 h x K}:NW C gl BR.body ⟨enter [v0],h,x⟩ K=(FN C gl [(0,v0)] h x K).1:=(FN C gl [(0,v0)] h x K).2
def BW:ACode:=(.seq (rg [mV 4 (cI 0)] [0,1])
(.seq (rg [mV 5 0,
mV 6 1,
cL 7 jF [5,6],
mV 4 7] [4])
.ret))
def cR:AFun:=⟨2,[.t 4],BW,false,false⟩
def tN (C:Hd)(gl:GL)(e:En)(h:aA)(x:Esc)(K:KT):Sf C gl BW e h x K:=⟨_,by simp only[BW,↓wZ,AO.still];rfl⟩
theorem za7 {C gl v0 v1 h x K}:NW C gl cR.body ⟨enter [v0,v1],h,x⟩ K=(tN C gl [(0,v0),(1,v1)] h x K).1:=(tN C gl [(0,v0),(1,v1)] h x K).2
def JJ:ACode:=.pr [0,1,2,3,10] (.seq (.seq (rg [mV 11 10,
mV 12 3,
bN 13 .lss 11 12] [0,1,2,3,10,13])
(.cond 13 .skip
(.exit 0)))
(.seq (.block 1 (dr [dF (mV 16 0) [0],
dF (mV 17 1) [1],
dF (mV 18 10) [10],
dF (bN 19 .add 17 18) [17,18],
dF (mV 20 0) [0],
dF (mV 21 2) [2],
dF (mV 22 10) [10],
dF (bN 23 .add 21 22) [21,22],
dF (mV 24 0) [0],
dF (mV 25 2) [2],
dF (mV 26 10) [10],
dF (bN 27 .add 25 26) [25,26],
dF (iA 28 (some 4) 24 27) [24,27],
dF (lD 29 (some 4) 28) [28],
dF (mV 30 0) [0],
dF (mV 31 1) [1],
dF (mV 32 10) [10],
dF (bN 33 .add 31 32) [31,32],
dF (iA 34 (some 4) 30 33) [30,33],
dF (lD 35 (some 4) 34) [34],
dF (iA 36 (some 4) 16 19) [16,19],
dT (wO (.store (some 4) 36 29)) [36,29],
dF (iA 37 (some 4) 20 23) [20,23],
dT (wO (.store (some 4) 37 35)) [37,35]] [0,1,2,3,10]))
(rg [mV 14 10,
bN 15 .add 14 (cI 1),
mV 10 15] [0,1,2,3,10])))
def QU (C:Hd)(gl:GL)(e:En)(h:aA)(x:Esc)(K:KT):Sf C gl JJ e h x K:=⟨_,by simp only[JJ,↓wZ,AO.still];rfl⟩
theorem zdf {C gl e h x K}:NW C gl JJ ⟨e,h,x⟩ K=(QU C gl e h x K).1:=(QU C gl e h x K).2
theorem zfv {C gl e h x K}:NW C gl (.loop JJ) ⟨e,h,x⟩ K=DA C gl JJ K [(0,bA e 0),(1,bA e 1),(2,bA e 2),(3,bA e 3),(10,bA e 10)] h x:=mB
def ZX:ACode:=(.seq (rg [mV 10 (cI 0)] [0,1,2,3,10])
(.block 0 (.loop JJ)))
def vS:AFun:=⟨5,[],ZX,true,false⟩
def jO (C:Hd)(gl:GL)(e:En)(h:aA)(x:Esc)(K:KT):Sf C gl ZX e h x K:=⟨_,by simp only[ZX,↓wZ,AO.still];rfl⟩
theorem zde {C gl v0 v1 v2 v3 v4 h x K}:NW C gl vS.body ⟨enter [v0,v1,v2,v3,v4],h,x⟩ K=(jO C gl [(0,v0),(1,v1),(2,v2),(3,v3),(4,v4)] h x K).1:=(jO C gl [(0,v0),(1,v1),(2,v2),(3,v3),(4,v4)] h x K).2
def zg3:ACode:=(.seq (rg [mV 2 cF] [0])
(.seq (rg [mV 3 0,
cL 4 DV [3,(cS [48,49])],
bN 5 .eql 4 (cS []),
mV 2 5] [2])
.ret))
def z6u:AFun:=⟨1,[.t 2],zg3,false,false⟩
def zg5:ACode:=.pr [2,19,20,21] (.seq (rg [bN 22 .lss 21 20] [2,19,20,21,22])
(.seq (.cond 22 .skip
(.exit 0))
(.seq (.block 1 (.seq (rg [mV 23 21,
iA 24 none 19 21,
lD 25 none 24,
mV 6 23,
mV 7 25] [2,6,7,19,20,21])
(.seq (rg [mV 26 7,
uO 27 (.lens 26),
fA 28 0 none 2,
lD 29 none 28,
mV 30 6,
iA 31 (some 2) 29 30,
fA 32 1 none 31,
lD 33 none 32,
lN 34 33,
bN 35 .neq 27 34,
mV 36 35,
gD 37 36 false (.mv 7),
gD 38 36 false (.call LG [37]),
gD 39 36 false (.un .not 38),
uO 40 (.pick 36 cT 39)] [2,19,20,21,40])
(.cond 40 (.seq (rg [mV 4 (cI 3)] [4])
.ret)
.skip))))
(rg [bN 41 .add 21 (cI 1),
mV 21 41] [2,19,20,21]))))
def zg6:ACode:=.pr [] (.seq (rg [mV 4 (cI 0)] [4])
.ret)
def zg4:ACode:=(.seq (rg [uO 2 (.box 0),
mV 4 (cI 0)] [1,2])
(.seq (.seq (rg [lD 8 (some 3) 2,
cL 9 z13 [8],
mV 5 9] [1,2,5])
(.seq (rg [mV 10 5,
bN 11 .neq 10 (cI 0)] [1,2,5,11])
(.cond 11 (.seq (rg [mV 12 5,
mV 4 12] [4])
.ret)
.skip)))
(.seq (.seq (rg [mV 13 1,
lN 14 13,
fA 15 0 none 2,
lD 16 none 15,
lN 17 16,
bN 18 .neq 14 17] [1,2,18])
(.cond 18 (.seq (rg [mV 4 (cI 3)] [4])
.ret)
.skip))
(.seq (.seq (rg [mV 19 1,
lN 20 19,
mV 21 (cI 0)] [2,19,20,21])
(.block 0 (.loop zg5)))
zg6))))
def z6v:AFun:=⟨2,[.t 4],zg4,false,false⟩
def zg8:ACode:=.pr [1,15,16,17] (.seq (rg [bN 18 .lss 17 16] [1,15,16,17,18])
(.seq (.cond 18 .skip
(.exit 0))
(.seq (.block 1 (.seq (rg [mV 19 17,
iA 20 (some 2) 15 17,
lD 21 (some 2) 20,
uO 4 (.alloc [.p (.str []),.sl0 (some 4)]),
mV 3 19,
wO (.store (some 2) 4 21)] [1,3,4,15,16,17])
(.seq (.block 2 (.seq (rg [fA 23 0 none 4,
lD 24 none 23,
cL 25 IC [24],
uO 26 (.un .not 25),
mV 22 26] [1,3,4,15,16,17,22])
(.cond 22 (.seq (rg [mV 2 (cI 5)] [2])
.ret)
(.seq (dr [dF (mV 28 3) [3],
dF (bN 29 .gtr 28 (cI 0)) [28],
dF (mV 30 29) [29],
dF (gD 31 30 true (.faddr 0 none 4)) [4,30],
dF (gD 32 30 true (.load none 31)) [31,30],
dF (gD 33 30 true (.faddr 0 none 1)) [1,30],
dF (gD 34 30 true (.load none 33)) [33,30],
dF (gD 35 30 true (.mv 3)) [3,30],
dF (gD 36 30 true (.bin .sub 35 (cI 1))) [35,30],
dF (gD 37 30 true (.iaddr (some 2) 34 36)) [34,36,30],
dF (gD 38 30 true (.faddr 0 none 37)) [37,30],
dF (gD 39 30 true (.load none 38)) [38,30],
dF (gD 40 30 true (.bin .leq 32 39)) [32,39,30],
dF (uO 41 (.pick 30 40 cF)) [30,40],
dF (mV 27 41) [41]] [1,4,15,16,17,27])
(.cond 27 (.seq (rg [mV 2 (cI 7)] [2])
.ret)
.skip)))))
(.seq (rg [lD 42 (some 2) 4,
cL 43 z18 [42],
mV 5 43] [1,5,15,16,17])
(.seq (rg [mV 44 5,
bN 45 .neq 44 (cI 0)] [1,5,15,16,17,45])
(.cond 45 (.seq (rg [mV 46 5,
mV 2 46] [2])
.ret)
.skip))))))
(rg [bN 47 .add 17 (cI 1),
mV 17 47] [1,15,16,17]))))
def zg9:ACode:=.pr [1,7,59,60,61] (.seq (rg [bN 62 .lss 61 60] [1,7,59,60,61,62])
(.seq (.cond 62 .skip
(.exit 3))
(.seq (.block 4 (.seq (rg [mV 63 61,
iA 64 (some 2) 59 61,
lD 65 (some 2) 64,
uO 9 (.alloc [.p (.str []),.p (.int .i64 0)]),
mV 8 63,
wO (.store (some 2) 9 65)] [1,7,8,9,59,60,61])
(.block 5 (.seq (rg [mV 67 7,
fA 68 0 none 9,
lD 69 none 68,
cL 70 yV [67,69],
uO 71 (.un .not 70),
mV 66 71] [1,7,8,9,59,60,61,66])
(.cond 66 (.seq (rg [mV 2 (cI 8)] [2])
.ret)
(.seq (rg [fA 73 1 none 9,
lD 74 none 73,
cL 75 tB [74,(cI 0),(cI 1)],
mV 72 75] [1,7,8,9,59,60,61,72])
(.cond 72 (.seq (rg [mV 2 (cI 1)] [2])
.ret)
(.seq (dr [dF (mV 77 8) [8],
dF (bN 78 .gtr 77 (cI 0)) [77],
dF (mV 79 78) [78],
dF (gD 80 79 true (.faddr 0 none 9)) [9,79],
dF (gD 81 79 true (.load none 80)) [80,79],
dF (gD 82 79 true (.faddr 2 none 1)) [1,79],
dF (gD 83 79 true (.load none 82)) [82,79],
dF (gD 84 79 true (.mv 8)) [8,79],
dF (gD 85 79 true (.bin .sub 84 (cI 1))) [84,79],
dF (gD 86 79 true (.iaddr (some 2) 83 85)) [83,85,79],
dF (gD 87 79 true (.faddr 0 none 86)) [86,79],
dF (gD 88 79 true (.load none 87)) [87,79],
dF (gD 89 79 true (.bin .leq 81 88)) [81,88,79],
dF (uO 90 (.pick 79 89 cF)) [79,89],
dF (mV 76 90) [90]] [1,7,59,60,61,76])
(.cond 76 (.seq (rg [mV 2 (cI 7)] [2])
.ret)
.skip)))))))))
(rg [bN 91 .add 61 (cI 1),
mV 61 91] [1,7,59,60,61]))))
def zgA:ACode:=.pr [] (.seq (rg [mV 2 (cI 0)] [2])
.ret)
def zgB:ACode:=.pr [1] (.seq (.seq (rg [lD 48 (some 3) 1,
cL 49 z1C [48],
mV 6 49] [1,6])
(.seq (rg [mV 50 6,
bN 51 .neq 50 (cI 0)] [1,6,51])
(.cond 51 (.seq (rg [mV 52 6,
mV 2 52] [2])
.ret)
.skip)))
(.seq (rg [lD 53 (some 3) 1,
cL 54 xO [53],
mV 7 54] [1,7])
(.seq (.seq (rg [mV 55 7,
lN 56 55,
bN 57 .gtr 56 (cI 100)] [1,7,57])
(.cond 57 (.seq (rg [mV 2 (cI 2)] [2])
.ret)
.skip))
(.seq (.seq (rg [fA 58 2 none 1,
lD 59 none 58,
lN 60 59,
mV 61 (cI 0)] [1,7,59,60,61])
(.block 3 (.loop (.scope zg9))))
zgA))))
def zg7:ACode:=(.seq (rg [uO 1 (.box 0),
mV 2 (cI 0)] [1])
(.seq (.seq (rg [fA 10 0 none 1,
lD 11 none 10,
lN 12 11,
bN 13 .gtr 12 (cI 40)] [1,13])
(.cond 13 (.seq (rg [mV 2 (cI 2)] [2])
.ret)
.skip))
(.seq (.seq (rg [fA 14 0 none 1,
lD 15 none 14,
lN 16 15,
mV 17 (cI 0)] [1,15,16,17])
(.block 0 (.loop (.scope zg8))))
zgB)))
def z6w:AFun:=⟨1,[.t 2],zg7,false,false⟩
def zgD:ACode:=.pr [7,8,21,22,23] (.seq (rg [bN 24 .lss 23 22] [7,8,21,22,23,24])
(.seq (.cond 24 .skip
(.exit 0))
(.seq (.block 1 (.seq (rg [iA 25 none 21 23,
lD 26 none 25,
mV 10 26] [7,8,10,21,22,23])
(rg [mV 27 8,
mV 28 7,
mV 29 10,
uO 30 (.look (none,[2]) false (AI 0) 28 29),
uO 31 (.bsl false none 1 (.int .i64 0) [(0,30)]),
uO 32 (.app none 27 31),
mV 8 32] [7,8,21,22,23])))
(rg [bN 33 .add 23 (cI 1),
mV 23 33] [7,8,21,22,23]))))
def zgE:ACode:=.pr [8] (.seq (rg [mV 34 8,
mV 4 34,
mV 5 (cI 0)] [4,5])
.ret)
def zgC:ACode:=(.seq (rg [uO 2 (.box 0),
mV 4 (.c (.p (.sl none []))),
mV 5 (cI 0)] [1,2])
(.seq (.seq (rg [lD 11 (some 3) 2,
mV 12 1,
cL 13 z12 [11,12],
mV 6 13] [1,2,6])
(.seq (rg [mV 14 6,
bN 15 .neq 14 (cI 0)] [1,2,6,15])
(.cond 15 (.seq (rg [mV 16 6,
mV 4 (.c (.p (.sl none []))),
mV 5 16] [4,5])
.ret)
.skip)))
(.seq (rg [lD 17 (some 3) 2,
mV 18 1,
cL 19 z1D [17,18],
mV 7 19] [2,7])
(.seq (rg [uO 8 (.new0 none)] [2,7,8])
(.seq (.seq (rg [lD 20 (some 3) 2,
cL 21 xO [20],
lN 22 21,
mV 23 (cI 0)] [7,8,21,22,23])
(.block 0 (.loop (.scope zgD))))
zgE)))))
def z6x:AFun:=⟨2,[.t 4,.t 5],zgC,false,false⟩
def zgF:ACode:=(.seq (rg [uO 2 (.box 0),
uO 3 (.box 1),
mV 4 (cI 0)] [2,3])
(.seq (dr [dF (fA 5 0 none 2) [2],
dF (lD 6 none 5) [5],
dF (fA 7 0 none 3) [3],
dF (lD 8 none 7) [7],
dT (cL 9 oD [6,8]) [6,8],
dF (fA 10 1 none 2) [2],
dA (lD 11 none 10) [10] false [4] [],
dF (fA 12 1 none 3) [3],
dA (lD 13 none 12) [12] false [4] [],
dT (cL 14 oD [11,13]) [11,13],
dF (fA 15 2 none 2) [2],
dA (lD 16 none 15) [15] false [4,9] [],
dF (fA 17 2 none 3) [3],
dA (lD 18 none 17) [17] false [4,9] [],
dT (cL 19 oD [16,18]) [16,18],
dF (uO 20 (.bsl false none 3 (.int .i64 0) [(0,9),(1,14),(2,19)])) [9,14,19],
dT (cL 21 mF [20]) [20],
dF (mV 4 21) [21]] [4])
.ret))
def z6y:AFun:=⟨2,[.t 4],zgF,false,false⟩
def zgG:ACode:=(.seq (rg [uO 2 (.box 0),
uO 3 (.box 1),
mV 4 (cI 0)] [2,3])
(.seq (.block 0 (.seq (rg [fA 6 0 none 3,
lD 7 none 6,
cL 8 tB [7,(cI 1),(cI 4)],
mV 5 8] [2,3,5])
(.cond 5 (.seq (rg [mV 4 (cI 4)] [4])
.ret)
(.seq (rg [lD 10 (some 4) 3,
cL 11 KK [10],
mV 12 11,
gD 13 12 true (.faddr 1 none 3),
gD 14 12 true (.load none 13),
gD 15 12 true (.call IC [14]),
gD 16 12 true (.un .not 15),
uO 17 (.pick 12 16 cF),
mV 9 17] [2,3,9])
(.cond 9 (.seq (rg [mV 4 (cI 5)] [4])
.ret)
(.seq (rg [lD 19 (some 4) 3,
cL 20 KK [19],
uO 21 (.un .not 20),
mV 22 21,
gD 23 22 true (.faddr 1 none 3),
gD 24 22 true (.load none 23),
gD 25 22 true (.bin .neq 24 (cS [])),
uO 26 (.pick 22 25 cF),
mV 18 26] [2,3,18])
(.cond 18 (.seq (rg [mV 4 (cI 3)] [4])
.ret)
.skip)))))))
(.seq (.seq (rg [fA 27 0 none 3,
lD 28 none 27,
bN 29 .neq 28 (cI 2)] [2,3,29])
(.cond 29 (.seq (.seq (rg [fA 30 2 none 3,
lD 31 none 30,
bN 32 .neq 31 (cI (-1)),
mV 33 32,
gD 34 33 false (.faddr 3 none 3),
gD 35 33 false (.load none 34),
gD 36 33 false (.bin .neq 35 (cI 0)),
uO 37 (.pick 33 cT 36)] [37])
(.cond 37 (.seq (rg [mV 4 (cI 3)] [4])
.ret)
.skip))
(.seq (rg [mV 4 (cI 0)] [4])
.ret))
.skip))
(.seq (.block 1 (.seq (rg [fA 39 2 none 3,
lD 40 none 39,
bN 41 .neq 40 (cI (-1)),
mV 42 41,
gD 43 42 true (.faddr 2 none 3),
gD 44 42 true (.load none 43),
gD 45 42 true (.faddr 1 none 2),
gD 46 42 true (.load none 45),
gD 47 42 true (.len 46),
gD 48 42 true (.bin .sub 47 (cI 1)),
gD 49 42 true (.call tB [44,(cI 0),48]),
gD 50 42 true (.mv 49),
gD 51 50 false (.faddr 1 none 2),
gD 52 50 false (.load none 51),
gD 53 50 false (.faddr 2 none 3),
gD 54 50 false (.load none 53),
gD 55 50 false (.iaddr (some 4) 52 54),
gD 56 50 false (.faddr 0 none 55),
gD 57 50 false (.load none 56),
gD 58 50 false (.bin .neq 57 (cI 3)),
gD 59 42 true (.pick 50 cT 58),
uO 60 (.pick 42 59 cF),
mV 38 60] [3,38])
(.cond 38 (.seq (rg [mV 4 (cI 8)] [4])
.ret)
(.seq (rg [fA 62 3 none 3,
lD 63 none 62,
cL 64 tB [63,(cI 0),(cI 1)],
mV 65 64,
gD 66 65 false (.faddr 2 none 3),
gD 67 65 false (.load none 66),
gD 68 65 false (.bin .eql 67 (cI (-1))),
gD 69 65 false (.mv 68),
gD 70 69 true (.faddr 3 none 3),
gD 71 69 true (.load none 70),
gD 72 69 true (.bin .neq 71 (cI 0)),
gD 73 65 false (.pick 69 72 cF),
uO 74 (.pick 65 cT 73),
mV 61 74] [61])
(.cond 61 (.seq (rg [mV 4 (cI 1)] [4])
.ret)
.skip)))))
(.seq (rg [mV 4 (cI 0)] [4])
.ret)))))
def z6z:AFun:=⟨2,[.t 4],zgG,false,false⟩
end Go.Am
end
section
/- The functions asv abstract code,and asv formulas over their values: printed by program out of the translation. -/
set_option linter.all false
set_option maxRecDepth 100000
namespace Go.Am
def zgI:ACode:=.pr [1,5,6,7,8,17,18,19,25,26,27] (rg [bN 57 .add 27 (cI 1),
mV 27 57] [1,5,6,7,8,17,18,19,25,26,27])
def zgJ:ACode:=.pr [1,5,6,7,8,17,18,19,25,26,27] (.seq (rg [bN 28 .lss 27 26] [1,5,6,7,8,17,18,19,25,26,27,28])
(.seq (.cond 28 .skip
(.exit 2))
(.seq (.block 3 (.seq (rg [mV 29 27,
iA 30 (some 4) 25 27,
lD 31 (some 4) 30,
uO 10 (.alloc [.p (.int .i64 0),.p (.str []),.p (.int .i64 0),.p (.int .i64 0)]),
mV 9 29,
wO (.store (some 4) 10 31)] [1,5,6,7,8,9,10,17,18,19,25,26,27])
(.seq (.seq (rg [fA 32 0 none 10,
lD 33 none 32,
mV 34 1,
bN 35 .neq 33 34] [1,5,6,7,8,9,10,17,18,19,25,26,27,35])
(.cond 35 (.exit 3)
.skip))
(.seq (rg [mV 37 5,
fA 38 0 none 8,
lD 39 none 38,
fA 40 1 none 10,
lD 41 none 40,
uO 42 (.build [.p (.str []),.p (.str [])] [(0,1,39),(1,1,41)]),
uO 43 (.look ((some 2),[2,2]) true (.p (.str [])) 37 42),
mV 36 43,
eX 44 36 0,
eX 45 36 1,
mV 11 44,
mV 12 45] [1,5,6,7,8,9,11,12,17,18,19,25,26,27])
(.seq (rg [mV 46 12] [1,5,6,7,8,9,11,17,18,19,25,26,27,46])
(.cond 46 (rg [mV 47 6,
mV 48 11,
mV 49 6,
mV 50 11,
uO 51 (.look (none,[2]) false (.sl0 (some 2)) 49 50),
mV 52 7,
mV 53 9,
uO 54 (.build [.p (.int .i64 0),.p (.int .i64 0)] [(0,1,52),(1,1,53)]),
uO 55 (.bsl false (some 2) 1 (.agg [.int .i64 0,.int .i64 0]) [(0,54)]),
uO 56 (.app (some 2) 51 55),
wO (.mupd (none,[2]) 47 48 56)] [1,5,6,7,8,17,18,19,25,26,27])
.skip))))))
zgI)))
def zgK:ACode:=.pr [1,5,6,17,18,19] (rg [bN 58 .add 19 (cI 1),
mV 19 58] [1,5,6,17,18,19])
def zgL:ACode:=.pr [1,5,6,17,18,19] (.seq (rg [bN 20 .lss 19 18] [1,5,6,17,18,19,20])
(.seq (.cond 20 .skip
(.exit 0))
(.seq (.block 1 (.seq (rg [mV 21 19,
iA 22 (some 2) 17 19,
lD 23 (some 2) 22,
uO 8 (.alloc [.p (.str []),.sl0 (some 4)]),
mV 7 21,
wO (.store (some 2) 8 23)] [1,5,6,7,8,17,18,19])
(.seq (rg [fA 24 1 none 8,
lD 25 none 24,
lN 26 25,
mV 27 (cI 0)] [1,5,6,7,8,17,18,19,25,26,27])
(.block 2 (.loop (.scope zgJ))))))
zgK)))
def zgM:ACode:=.pr [6] (.seq (rg [mV 59 6,
mV 4 59] [4])
.ret)
def zgH:ACode:=(.seq (rg [uO 2 (.box 0),
mV 4 (.c (.nilm))] [1,2])
(.seq (rg [lD 13 (some 3) 2,
cL 14 z1E [13],
mV 5 14] [1,2,5])
(.seq (rg [uO 15 (.mkmap),
mV 6 15] [1,2,5,6])
(.seq (.seq (rg [fA 16 0 none 2,
lD 17 none 16,
lN 18 17,
mV 19 (cI 0)] [1,5,6,17,18,19])
(.block 0 (.loop (.scope zgL))))
zgM))))
def z60:AFun:=⟨2,[.t 4],zgH,false,false⟩
def zgO:ACode:=.pr [1,13,14,15] (.seq (rg [bN 16 .lss 15 14] [1,13,14,15,16])
(.seq (.cond 16 .skip
(.exit 0))
(.seq (.block 1 (.seq (rg [iA 17 (some 4) 13 15,
lD 18 (some 4) 17,
uO 4 (.alloc [.p (.int .i64 0),.p (.str []),.p (.int .i64 0),.p (.int .i64 0)]),
wO (.store (some 4) 4 18)] [1,4,13,14,15])
(.seq (rg [lD 19 (some 2) 1,
lD 20 (some 4) 4,
cL 21 z16 [19,20],
mV 5 21] [1,5,13,14,15])
(.seq (rg [mV 22 5,
bN 23 .neq 22 (cI 0)] [1,5,13,14,15,23])
(.cond 23 (.seq (rg [mV 24 5,
mV 2 24] [2])
.ret)
.skip)))))
(rg [bN 25 .add 15 (cI 1),
mV 15 25] [1,13,14,15]))))
def zgP:ACode:=.pr [1,27,28,29] (.seq (rg [bN 30 .lss 29 28] [1,27,28,29,30])
(.seq (.cond 30 .skip
(.exit 2))
(.seq (.block 3 (.seq (rg [mV 31 29,
iA 32 (some 4) 27 29,
lD 33 (some 4) 32,
uO 7 (.alloc [.p (.int .i64 0),.p (.str []),.p (.int .i64 0),.p (.int .i64 0)]),
mV 6 31,
wO (.store (some 4) 7 33)] [1,6,7,27,28,29])
(.seq (rg [lD 34 (some 4) 7,
cL 35 KK [34],
mV 36 35,
gD 37 36 true (.faddr 1 none 1),
gD 38 36 true (.load none 37),
gD 39 36 true (.mv 6),
gD 40 36 true (.slice (some 4) 38 none (some 39) none),
gD 41 36 true (.mkfn z19 [7]),
gD 42 36 true (.call xV [40,41]),
uO 43 (.pick 36 42 cF)] [1,27,28,29,43])
(.cond 43 (.seq (rg [mV 2 (cI 6)] [2])
.ret)
.skip))))
(rg [bN 44 .add 29 (cI 1),
mV 29 44] [1,27,28,29]))))
def zgQ:ACode:=.pr [] (.seq (rg [mV 2 (cI 0)] [2])
.ret)
def zgR:ACode:=.pr [1] (.seq (.seq (rg [fA 26 1 none 1,
lD 27 none 26,
lN 28 27,
mV 29 (cI 0)] [1,27,28,29])
(.block 2 (.loop (.scope zgP))))
zgQ)
def zgN:ACode:=(.seq (rg [uO 1 (.box 0),
mV 2 (cI 0)] [1])
(.seq (.seq (rg [fA 8 1 none 1,
lD 9 none 8,
lN 10 9,
bN 11 .gtr 10 (cI 200)] [1,11])
(.cond 11 (.seq (rg [mV 2 (cI 2)] [2])
.ret)
.skip))
(.seq (.seq (rg [fA 12 1 none 1,
lD 13 none 12,
lN 14 13,
mV 15 (cI 0)] [1,13,14,15])
(.block 0 (.loop (.scope zgO))))
zgR)))
def z61:AFun:=⟨1,[.t 2],zgN,false,false⟩
def zgS:ACode:=(.seq (rg [uO 2 (.box 0),
mV 3 cF] [1,2])
(.seq (rg [fA 4 0 none 2,
lD 5 none 4,
fA 6 0 none 1,
lD 7 none 6,
bN 8 .eql 5 7,
mV 9 8,
gD 10 9 true (.faddr 1 none 2),
gD 11 9 true (.load none 10),
gD 12 9 true (.faddr 1 none 1),
gD 13 9 true (.load none 12),
gD 14 9 true (.bin .eql 11 13),
uO 15 (.pick 9 14 cF),
mV 3 15] [3])
.ret))
def z62:AFun:=⟨2,[.t 3],zgS,false,false⟩
def zgT:ACode:=(.seq (rg [uO 2 (.box 0),
mV 4 (cI 0)] [1,2])
(.seq (rg [fA 8 0 none 2,
lD 9 none 8,
mV 10 1,
cL 11 z1W [9,10,(.f z1B)],
mV 7 11,
eX 12 7 0,
eX 13 7 1,
mV 5 12,
mV 6 13] [5,6])
(.seq (.seq (rg [mV 14 6,
uO 15 (.un .not 14)] [5,15])
(.cond 15 (.seq (rg [mV 4 (cI (-1))] [4])
.ret)
.skip))
(.seq (rg [mV 16 5,
mV 4 16] [4])
.ret))))
def z63:AFun:=⟨2,[.t 4],zgT,false,false⟩
def zgU:ACode:=(.seq (rg [uO 2 (.box 0),
mV 4 (cI 0)] [1,2])
(.seq (rg [fA 5 0 none 2,
lD 6 none 5,
mV 7 1,
cL 8 oD [6,7],
mV 4 8] [4])
.ret))
def z64:AFun:=⟨2,[.t 4],zgU,false,false⟩
def zgV:ACode:=(.seq (rg [uO 1 (.box 0),
mV 2 cF] [1])
(.seq (rg [fA 3 0 none 1,
lD 4 none 3,
bN 5 .eql 4 (cI 1),
mV 6 5,
gD 7 6 false (.faddr 0 none 1),
gD 8 6 false (.load none 7),
gD 9 6 false (.bin .eql 8 (cI 2)),
uO 10 (.pick 6 cT 9),
mV 2 10] [2])
.ret))
def z65:AFun:=⟨1,[.t 2],zgV,false,false⟩
def zgX:ACode:=.pr [1,14,15,16] (.seq (rg [bN 17 .lss 16 15] [1,14,15,16,17])
(.seq (.cond 17 .skip
(.exit 0))
(.seq (.block 1 (.seq (rg [mV 18 16,
iA 19 (some 3) 14 16,
lD 20 (some 3) 19,
uO 4 (.alloc [.p (.str []),.p (.str []),.p (.str [])]),
mV 3 18,
wO (.store (some 3) 4 20)] [1,3,4,14,15,16])
(.block 2 (.seq (rg [fA 22 0 none 4,
lD 23 none 22,
cL 24 IC [23],
uO 25 (.un .not 24),
mV 21 25] [1,3,4,14,15,16,21])
(.cond 21 (.seq (rg [mV 2 (cI 5)] [2])
.ret)
(.seq (rg [lD 27 (some 3) 1,
fA 28 1 none 4,
lD 29 none 28,
fA 30 2 none 4,
lD 31 none 30,
cL 32 z1F [27,29,31],
uO 33 (.un .not 32),
mV 26 33] [1,3,4,14,15,16,26])
(.cond 26 (.seq (rg [mV 2 (cI 8)] [2])
.ret)
(.seq (dr [dF (mV 35 3) [3],
dF (bN 36 .gtr 35 (cI 0)) [35],
dF (mV 37 36) [36],
dF (gD 38 37 true (.load (some 3) 4)) [4,37],
dF (gD 39 37 true (.faddr 1 none 1)) [1,37],
dF (gD 40 37 true (.load none 39)) [39,37],
dF (gD 41 37 true (.mv 3)) [3,37],
dF (gD 42 37 true (.bin .sub 41 (cI 1))) [41,37],
dF (gD 43 37 true (.iaddr (some 3) 40 42)) [40,42,37],
dF (gD 44 37 true (.load (some 3) 43)) [43,37],
dT (gD 45 37 true (.call z15 [38,44])) [38,44,37],
dF (gD 46 37 true (.bin .leq 45 (cI 0))) [45,37],
dF (uO 47 (.pick 37 46 cF)) [37,46],
dF (mV 34 47) [47]] [1,14,15,16,34])
(.cond 34 (.seq (rg [mV 2 (cI 7)] [2])
.ret)
.skip)))))))))
(rg [bN 48 .add 16 (cI 1),
mV 16 48] [1,14,15,16]))))
def zgY:ACode:=.pr [5,51,52,53] (.seq (rg [bN 54 .lss 53 52] [5,51,52,53,54])
(.seq (.cond 54 .skip
(.exit 3))
(.seq (.block 4 (.seq (rg [iA 55 (some 3) 51 53,
lD 56 (some 3) 55,
uO 7 (.alloc [.p (.str []),.p (.str []),.p (.str [])]),
wO (.store (some 3) 7 56)] [5,7,51,52,53])
(.seq (rg [fA 57 1 none 7,
lD 58 none 57,
fA 59 2 none 7,
lD 60 none 59,
uO 61 (.build [.p (.str []),.p (.str [])] [(0,1,58),(1,1,60)]),
uO 8 (.alloc [.p (.str []),.p (.str [])]),
wO (.store (some 2) 8 61)] [5,8,51,52,53])
(.seq (.seq (rg [mV 62 5,
lD 63 (some 2) 8,
uO 64 (.look ((some 2),[2,2]) false (AB false) 62 63)] [5,8,51,52,53,64])
(.cond 64 (.seq (rg [mV 2 (cI 6)] [2])
.ret)
.skip))
(rg [mV 65 5,
lD 66 (some 2) 8,
wO (.mupd ((some 2),[2,2]) 65 66 cT)] [5,51,52,53])))))
(rg [bN 67 .add 53 (cI 1),
mV 53 67] [5,51,52,53]))))
def zgZ:ACode:=.pr [] (.seq (rg [mV 2 (cI 0)] [2])
.ret)
def zha:ACode:=.pr [1] (.seq (rg [uO 49 (.mkmap),
mV 5 49] [1,5])
(.seq (.seq (rg [fA 50 1 none 1,
lD 51 none 50,
lN 52 51,
mV 53 (cI 0)] [5,51,52,53])
(.block 3 (.loop (.scope zgY))))
zgZ))
def zgW:ACode:=(.seq (rg [uO 1 (.box 0),
mV 2 (cI 0)] [1])
(.seq (.seq (rg [fA 9 1 none 1,
lD 10 none 9,
lN 11 10,
bN 12 .gtr 11 (cI 1000)] [1,12])
(.cond 12 (.seq (rg [mV 2 (cI 2)] [2])
.ret)
.skip))
(.seq (.seq (rg [fA 13 1 none 1,
lD 14 none 13,
lN 15 14,
mV 16 (cI 0)] [1,14,15,16])
(.block 0 (.loop (.scope zgX))))
zha)))
def z66:AFun:=⟨1,[.t 2],zgW,false,false⟩
def zhc:ACode:=.pr [1,2,5,20,21,22] (.seq (rg [bN 23 .lss 22 21] [1,2,5,20,21,22,23])
(.seq (.cond 23 .skip
(.exit 0))
(.seq (.block 1 (.seq (rg [iA 24 none 20 22,
lD 25 none 24,
mV 7 25] [1,2,5,7,20,21,22])
(rg [mV 26 5,
mV 27 7,
wO (.mupd (none,[2]) 26 27 (cI 2))] [1,2,5,20,21,22])))
(rg [bN 28 .add 22 (cI 1),
mV 22 28] [1,2,5,20,21,22]))))
def zhd:ACode:=.pr [1,2,5,30,31,32] (.seq (rg [bN 33 .lss 32 31] [1,2,5,30,31,32,33])
(.seq (.cond 33 .skip
(.exit 2))
(.seq (.block 3 (.seq (rg [iA 34 (some 2) 30 32,
lD 35 (some 2) 34,
uO 9 (.alloc [.p (.str []),.p (.int .i64 0)]),
wO (.store (some 2) 9 35)] [1,2,5,9,30,31,32])
(rg [mV 36 5,
fA 37 0 none 9,
lD 38 none 37,
fA 39 1 none 9,
lD 40 none 39,
wO (.mupd (none,[2]) 36 38 40)] [1,2,5,30,31,32])))
(rg [bN 41 .add 32 (cI 1),
mV 32 41] [1,2,5,30,31,32]))))
def zhe:ACode:=.pr [1,2,5,10,17,44,50,51,52] (rg [mV 100 5,
mV 101 10,
mV 102 17,
wO (.mupd (none,[2]) 100 101 102),
mV 12 cT] [1,2,5,10,12,44,50,51,52])
def zhf:ACode:=.pr [1,2,5,10,12,44,50,51,52] (rg [bN 103 .add 52 (cI 1),
mV 52 103] [1,2,5,10,12,44,50,51,52])
def zhg:ACode:=.pr [1,2,5,10,12,44,50,51,52] (.seq (rg [bN 53 .lss 52 51] [1,2,5,10,12,44,50,51,52,53])
(.seq (.cond 53 .skip
(.exit 6))
(.seq (.block 7 (.seq (rg [iA 54 (some 2) 50 52,
lD 55 (some 2) 54,
uO 14 (.alloc [.p (.int .i64 0),.p (.int .i64 0)]),
wO (.store (some 2) 14 55)] [1,2,5,10,12,14,44,50,51,52])
(.seq (dr [dF (fA 56 0 none 2) [2],
dF (lD 57 none 56) [56],
dF (fA 58 0 none 14) [14],
dF (lD 59 none 58) [58],
dF (iA 60 (some 2) 57 59) [57,59],
dF (fA 61 1 none 60) [60],
dF (lD 62 none 61) [61],
dF (fA 63 1 none 14) [14],
dF (lD 64 none 63) [63],
dF (iA 65 (some 4) 62 64) [62,64],
dF (lD 66 (some 4) 65) [65],
dF (mV 67 1) [1],
dF (fA 68 0 none 14) [14],
dF (lD 69 none 68) [68],
dF (iA 70 none 67 69) [67,69],
dF (lD 71 none 70) [70],
dA (uO 15 (.alloc [.p (.int .i64 0),.p (.str []),.p (.int .i64 0),.p (.int .i64 0)])) [] true [] [1,3,4,6,8,9,10,13,14,15],
dA (wO (.store (some 4) 15 66)) [15,66] true [] [13,14,15],
dF (mV 16 71) [71]] [1,2,5,10,12,14,15,16,44,50,51,52])
(.seq (.seq (dr [dF (fA 72 2 none 15) [15],
dF (lD 73 none 72) [72],
dF (bN 74 .geq 73 (cI 0)) [73],
dF (mV 75 74) [74],
dF (gD 76 75 true (.mv 16)) [16,75],
dF (gD 77 75 true (.faddr 2 none 15)) [15,75],
dF (gD 78 75 true (.load none 77)) [77,75],
dF (gD 79 75 true (.idxs 76 78)) [76,78,75],
dF (gD 80 75 true (.bin .sub 79 (.c (.p (.int .u8 48))))) [79,75],
dF (gD 81 75 true (.conv (.i .i64) 80)) [80,75],
dF (gD 82 75 true (.faddr 3 none 15)) [15,75],
dF (gD 83 75 true (.load none 82)) [82,75],
dF (gD 84 75 true (.bin .eql 81 83)) [81,83,75],
dF (uO 85 (.pick 75 84 cF)) [75,84]] [1,2,5,10,12,14,16,44,50,51,52,85])
(.cond 85 (.exit 7)
.skip))
(.seq (rg [mV 86 16,
fA 87 1 none 14,
lD 88 none 87,
uO 89 (.idxs 86 88),
bN 90 .sub 89 (.c (.p (.int .u8 48))),
uO 91 (.conv (.i .i64) 90),
mV 17 91] [1,2,5,10,12,17,44,50,51,52])
(.seq (.seq (rg [mV 92 12,
mV 93 92,
gD 94 93 true (.mv 5),
gD 95 93 true (.mv 10),
gD 96 93 true (.look (none,[2]) false (AI 0) 94 95),
gD 97 93 true (.mv 17),
gD 98 93 true (.bin .neq 96 97),
uO 99 (.pick 93 98 cF)] [1,2,5,10,17,44,50,51,52,99])
(.cond 99 (rg [mV 17 (cI 3)] [1,2,5,10,17,44,50,51,52])
.skip))
zhe))))))
zhf)))
def zhh:ACode:=.pr [1,2,5,44] (.seq (rg [uO 45 (.mnext none [44]),
eX 46 45 0] [1,2,5,44,46])
(.seq (.cond 46 .skip
(.exit 4))
(.block 5 (.seq (rg [uO 47 (.mentry 44),
eX 48 47 0,
eX 49 47 1,
mV 10 48,
mV 11 49] [1,2,5,10,11,44])
(.seq (rg [mV 12 cF] [1,2,5,10,11,12,44])
(.seq (rg [mV 50 11,
lN 51 50,
mV 52 (cI 0)] [1,2,5,10,12,44,50,51,52])
(.block 6 (.loop (.scope zhg)))))))))
def zhi:ACode:=.pr [5] (.seq (rg [mV 104 5,
mV 4 104] [4])
.ret)
def zhj:ACode:=.pr [1,2,5] (.seq (.seq (rg [lD 42 (some 3) 2,
cL 43 z17 [42,(cI 2)],
uO 44 (.mrange 43)] [1,2,5,44])
(.block 4 (.loop (.scope zhh))))
zhi)
def zhk:ACode:=.pr [1,2,5] (.seq (.seq (rg [fA 29 2 none 2,
lD 30 none 29,
lN 31 30,
mV 32 (cI 0)] [1,2,5,30,31,32])
(.block 2 (.loop (.scope zhd))))
zhj)
def zhb:ACode:=(.det (.seq (rg [uO 2 (.box 0),
mV 4 (.c (.nilm))] [1,2])
(.seq (rg [uO 18 (.mkmap),
mV 5 18] [1,2,5])
(.seq (.seq (rg [lD 19 (some 3) 2,
cL 20 xO [19],
lN 21 20,
mV 22 (cI 0)] [1,2,5,20,21,22])
(.block 0 (.loop zhc)))
zhk))))
def z67:AFun:=⟨2,[.t 4],zhb,false,false⟩
def zhm:ACode:=.pr [3,7,8,9] (.seq (rg [bN 10 .lss 9 8] [3,7,8,9,10])
(.seq (.cond 10 .skip
(.exit 0))
(.seq (.block 1 (.seq (rg [iA 11 (some 3) 7 9,
lD 12 (some 3) 11,
uO 5 (.alloc [.p (.str []),.p (.str []),.p (.str [])]),
wO (.store (some 3) 5 12)] [3,5,7,8,9])
(rg [mV 13 3,
fA 14 0 none 5,
lD 15 none 14,
uO 16 (.bsl false none 1 (.str []) [(0,15)]),
uO 17 (.app none 13 16),
mV 3 17] [3,7,8,9])))
(rg [bN 18 .add 9 (cI 1),
mV 9 18] [3,7,8,9]))))
def zhn:ACode:=.pr [3] (.seq (rg [mV 19 3,
cL 20 z1X [19],
mV 2 20] [2])
.ret)
def zhl:ACode:=(.seq (rg [uO 1 (.box 0),
mV 2 (.c (.p (.sl none [])))] [1])
(.seq (rg [uO 3 (.new0 none)] [1,3])
(.seq (.seq (rg [fA 6 1 none 1,
lD 7 none 6,
lN 8 7,
mV 9 (cI 0)] [3,7,8,9])
(.block 0 (.loop (.scope zhm))))
zhn)))
def z68:AFun:=⟨1,[.t 2],zhl,false,true⟩
def zhp:ACode:=.pr [3,8,9,10] (.seq (rg [bN 11 .lss 10 9] [3,8,9,10,11])
(.seq (.cond 11 .skip
(.exit 0))
(.seq (.block 1 (.seq (rg [iA 12 (some 3) 8 10,
lD 13 (some 3) 12,
uO 5 (.alloc [.p (.str []),.p (.str []),.p (.str [])]),
wO (.store (some 3) 5 13)] [3,5,8,9,10])
(rg [mV 14 3,
fA 15 1 none 5,
lD 16 none 15,
fA 17 2 none 5,
lD 18 none 17,
uO 19 (.build [.p (.str []),.p (.str [])] [(0,1,16),(1,1,18)]),
fA 20 0 none 5,
lD 21 none 20,
wO (.mupd ((some 2),[2,2]) 14 19 21)] [3,8,9,10])))
(rg [bN 22 .add 10 (cI 1),
mV 10 22] [3,8,9,10]))))
def zhq:ACode:=.pr [3] (.seq (rg [mV 23 3,
mV 2 23] [2])
.ret)
def zho:ACode:=(.seq (rg [uO 1 (.box 0),
mV 2 (.c (.nilm))] [1])
(.seq (rg [uO 6 (.mkmap),
mV 3 6] [1,3])
(.seq (.seq (rg [fA 7 1 none 1,
lD 8 none 7,
lN 9 8,
mV 10 (cI 0)] [3,8,9,10])
(.block 0 (.loop (.scope zhp))))
zhq)))
def z69:AFun:=⟨1,[.t 2],zho,false,false⟩
def zhr:ACode:=(.seq (rg [uO 3 (.box 0),
uO 5 (.box 2),
mV 6 cF] [1,3,5])
(.seq (rg [lD 8 (some 3) 3,
mV 9 1,
cL 10 z1A [8,9],
mV 7 10] [3,5,7])
(.seq (rg [mV 11 7,
bN 12 .geq 11 (cI 0),
mV 13 12,
gD 14 13 true (.faddr 0 none 3),
gD 15 13 true (.load none 14),
gD 16 13 true (.mv 7),
gD 17 13 true (.iaddr (some 2) 15 16),
gD 18 13 true (.faddr 1 none 17),
gD 19 13 true (.load none 18),
gD 20 13 true (.mkfn z1G [5]),
gD 21 13 true (.call xV [19,20]),
uO 22 (.pick 13 21 cF),
mV 6 22] [6])
.ret)))
def z6A:AFun:=⟨3,[.t 6],zhr,false,false⟩
def zhs:ACode:=(.seq (rg [uO 2 (.box 0),
mV 3 cF] [1,2])
(.seq (rg [lD 4 (some 4) 2,
cL 5 KK [4],
mV 6 5,
gD 7 6 true (.faddr 1 none 2),
gD 8 6 true (.load none 7),
gD 9 6 true (.load none 1),
gD 10 6 true (.bin .eql 8 9),
uO 11 (.pick 6 10 cF),
mV 3 11] [3])
.ret))
def z6B:AFun:=⟨2,[.t 3],zhs,false,false⟩
def zhu:ACode:=.pr [0,3,27,28,29] (.seq (rg [bN 30 .lss 29 28] [0,3,27,28,29,30])
(.seq (.cond 30 .skip
(.exit 1))
(.seq (.block 2 (.seq (rg [iA 31 none 27 29,
lD 32 none 31,
mV 6 32] [0,3,6,27,28,29])
(.seq (rg [mV 33 6,
mV 34 0,
bN 35 .sub 34 (cI 1),
cL 36 tB [33,(cI 0),35]] [0,3,27,28,29,36])
(.cond 36 (.seq (rg [mV 4 (cI 1)] [4])
.ret)
.skip))))
(rg [bN 37 .add 29 (cI 1),
mV 29 37] [0,3,27,28,29]))))
def zhv:ACode:=.pr [3,7,8] (.seq (.seq (rg [mV 53 8,
mV 54 7,
lN 55 54,
bN 56 .lss 53 55] [3,7,8,56])
(.cond 56 .skip
(.exit 3)))
(.seq (.block 4 (.seq (dr [dF (mV 59 7) [7],
dF (mV 60 8) [8],
dF (iA 61 none 59 60) [59,60],
dF (lD 62 none 61) [61],
dF (mV 63 7) [7],
dF (mV 64 8) [8],
dF (bN 65 .sub 64 (cI 1)) [64],
dF (iA 66 none 63 65) [63,65],
dF (lD 67 none 66) [66],
dF (bN 68 .leq 62 67) [62,67]] [3,7,8,68])
(.cond 68 (.seq (rg [mV 4 (cI 7)] [4])
.ret)
.skip)))
(rg [mV 57 8,
bN 58 .add 57 (cI 1),
mV 8 58] [3,7,8])))
def zhw:ACode:=.pr [3,7] (.seq (.seq (rg [fA 69 0 none 3,
lD 70 none 69,
bN 71 .eql 70 (cI 5),
mV 72 71,
gD 73 72 true (.mv 7),
gD 74 72 true (.faddr 1 none 3),
gD 75 72 true (.load none 74),
gD 76 72 true (.iaddr none 75 (cI 0)),
gD 77 72 true (.load none 76),
gD 78 72 true (.call z1Y [73,77]),
uO 79 (.pick 72 78 cF)] [79])
(.cond 79 (.seq (rg [mV 4 (cI 6)] [4])
.ret)
.skip))
(.seq (rg [mV 4 (cI 0)] [4])
.ret))
def zhx:ACode:=.pr [3,7] (.seq (.seq (rg [mV 8 (cI 1)] [3,7,8])
(.block 3 (.loop zhv)))
zhw)
def zhy:ACode:=.pr [3] (.seq (.seq (dr [dF (fA 38 0 none 3) [3],
dF (lD 39 none 38) [38],
dT (cL 40 z1M [39]) [39],
dF (fA 41 1 none 3) [3],
dA (lD 42 none 41) [41] false [2] [],
dF (lN 43 42) [42],
dF (bN 44 .gtr 43 (cI 1)) [43],
dF (uO 45 (.eqa [] true 40 44)) [40,44]] [3,45])
(.cond 45 (.seq (rg [mV 4 (cI 3)] [4])
.ret)
.skip))
(.seq (rg [fA 46 1 none 3,
lD 47 none 46,
mV 7 47] [3,7])
(.seq (.seq (rg [fA 48 0 none 3,
lD 49 none 48,
bN 50 .eql 49 (cI 5)] [3,7,50])
(.cond 50 (rg [mV 51 7,
uO 52 (.slice none 51 (some (cI 1)) none none),
mV 7 52] [3,7])
.skip))
zhx)))
def zht:ACode:=(.seq (rg [uO 3 (.box 1),
mV 4 (cI 0)] [0,3])
(.seq (.block 0 (.seq (rg [mV 10 0,
cL 11 tB [10,(cI 1),(cI 100)],
mV 9 11] [0,3,9])
(.cond 9 (.seq (rg [mV 4 (cI 1)] [4])
.ret)
(.seq (rg [fA 13 0 none 3,
lD 14 none 13,
cL 15 tB [14,(cI 1),(cI 6)],
mV 12 15] [0,3,12])
(.cond 12 (.seq (rg [mV 4 (cI 4)] [4])
.ret)
(.seq (rg [fA 17 1 none 3,
lD 18 none 17,
lN 19 18,
bN 20 .eql 19 (cI 0),
mV 16 20] [0,3,16])
(.cond 16 (.seq (rg [mV 4 (cI 8)] [4])
.ret)
(.seq (rg [fA 22 1 none 3,
lD 23 none 22,
lN 24 23,
bN 25 .gtr 24 (cI 6),
mV 21 25] [0,3,21])
(.cond 21 (.seq (rg [mV 4 (cI 2)] [4])
.ret)
.skip)))))))))
(.seq (.seq (rg [fA 26 1 none 3,
lD 27 none 26,
lN 28 27,
mV 29 (cI 0)] [0,3,27,28,29])
(.block 1 (.loop zhu)))
zhy)))
def z6C:AFun:=⟨2,[.t 4],zht,false,false⟩
def zh0:ACode:=.pr [0,13,14,15] (.seq (rg [bN 16 .lss 15 14] [0,13,14,15,16])
(.seq (.cond 16 .skip
(.exit 1))
(.seq (.block 2 (.seq (rg [iA 17 none 13 15,
lD 18 none 17,
mV 4 18] [0,4,13,14,15])
(.block 3 (.seq (rg [mV 20 4,
cL 21 LG [20],
uO 22 (.un .not 21),
mV 19 22] [0,4,13,14,15,19])
(.cond 19 (.seq (rg [mV 2 (cI 3)] [2])
.ret)
(.seq (rg [mV 24 4,
uO 25 (.lens 24),
bN 26 .gtr 25 (cI 64),
mV 23 26] [0,4,13,14,15,23])
(.cond 23 (.seq (rg [mV 2 (cI 2)] [2])
.ret)
(.seq (rg [mV 28 4,
uO 29 (.lens 28),
mV 30 0,
iA 31 none 30 (cI 0),
lD 32 none 31,
uO 33 (.lens 32),
bN 34 .neq 29 33,
mV 27 34] [0,13,14,15,27])
(.cond 27 (.seq (rg [mV 2 (cI 3)] [2])
.ret)
.skip)))))))))
(rg [bN 35 .add 15 (cI 1),
mV 15 35] [0,13,14,15]))))
def zh1:ACode:=.pr [] (.seq (rg [mV 2 (cI 0)] [2])
.ret)
def zhz:ACode:=(.seq (rg [mV 2 (cI 0)] [0])
(.seq (.block 0 (.seq (rg [mV 6 0,
lN 7 6,
bN 8 .eql 7 (cI 0),
mV 5 8] [0,5])
(.cond 5 (.seq (rg [mV 2 (cI 8)] [2])
.ret)
(.seq (rg [mV 10 0,
lN 11 10,
bN 12 .gtr 11 (cI 100),
mV 9 12] [0,9])
(.cond 9 (.seq (rg [mV 2 (cI 2)] [2])
.ret)
.skip)))))
(.seq (.seq (rg [mV 13 0,
lN 14 13,
mV 15 (cI 0)] [0,13,14,15])
(.block 1 (.loop zh0)))
zh1)))
def z6D:AFun:=⟨1,[.t 2],zhz,false,false⟩
def zh3:ACode:=.pr [0,7,18,19,20] (.seq (rg [bN 21 .lss 20 19] [0,7,18,19,20,21])
(.seq (.cond 21 .skip
(.exit 0))
(.seq (.block 1 (.seq (rg [iA 22 (some 2) 18 20,
lD 23 (some 2) 22,
uO 9 (.alloc [.p (.int .i64 0),.sl0 none]),
wO (.store (some 2) 9 23)] [0,7,9,18,19,20])
(dr [dF (mV 24 7) [7],
dF (lD 25 (some 2) 9) [9],
dF (mV 26 0) [0],
dF (iA 27 none 26 (cI 0)) [26],
dF (lD 28 none 27) [27],
dF (uO 29 (.lens 28)) [28],
dA (cL 30 z1P [29]) [29] true [] [1],
dT (cL 31 z1Q [24,25,30]) [24,25,30]] [0,7,18,19,20])))
(rg [bN 32 .add 20 (cI 1),
mV 20 32] [0,7,18,19,20]))))
def zh4:ACode:=.pr [0,7] (.seq (rg [mV 33 7,
mV 34 0,
iA 35 none 34 (cI 0),
lD 36 none 35,
uO 37 (.lens 36),
cL 38 z1O [33,37],
mV 4 38,
mV 5 (cI 0)] [4,5])
.ret)
def zh2:ACode:=(.seq (rg [mV 4 (.c (.p (.sl none []))),
mV 5 (cI 0)] [0,1])
(.seq (.seq (rg [mV 10 0,
mV 11 1,
cL 12 z1L [10,11],
mV 6 12] [0,1,6])
(.seq (rg [mV 13 6,
bN 14 .neq 13 (cI 0)] [0,1,6,14])
(.cond 14 (.seq (rg [mV 15 6,
mV 4 (.c (.p (.sl none []))),
mV 5 15] [4,5])
.ret)
.skip)))
(.seq (rg [mV 16 0,
cL 17 z1N [16],
mV 7 17] [0,1,7])
(.seq (.seq (rg [mV 18 1,
lN 19 18,
mV 20 (cI 0)] [0,7,18,19,20])
(.block 0 (.loop (.scope zh3))))
zh4))))
def z6E:AFun:=⟨2,[.t 4,.t 5],zh2,false,false⟩
def zh5:ACode:=(.seq (rg [uO 3 (.box 1),
mV 4 (.c (.p (.sl none []))),
mV 5 (cI 0)] [0,3])
(.seq (rg [mV 6 0,
lD 7 (some 2) 3,
uO 8 (.bsl false (some 2) 1 (.agg [.int .i64 0,.sl none []]) [(0,7)]),
cL 9 z1J [6,8],
eX 10 9 0,
eX 11 9 1,
mV 4 10,
mV 5 11] [4,5])
.ret))
def z6F:AFun:=⟨2,[.t 4,.t 5],zh5,false,false⟩
def zh7:ACode:=.pr [0,14,15,16] (.seq (rg [bN 17 .lss 16 15] [0,14,15,16,17])
(.seq (.cond 17 .skip
(.exit 0))
(.seq (.block 1 (.seq (rg [iA 18 (some 2) 14 16,
lD 19 (some 2) 18,
uO 7 (.alloc [.p (.int .i64 0),.sl0 none]),
wO (.store (some 2) 7 19)] [0,7,14,15,16])
(.seq (rg [mV 20 0,
lN 21 20,
lD 22 (some 2) 7,
cL 23 z1H [21,22],
mV 8 23] [0,8,14,15,16])
(.seq (rg [mV 24 8,
bN 25 .neq 24 (cI 0)] [0,8,14,15,16,25])
(.cond 25 (.seq (rg [mV 26 8,
mV 4 26] [4])
.ret)
.skip)))))
(rg [bN 27 .add 16 (cI 1),
mV 16 27] [0,14,15,16]))))
def zh8:ACode:=.pr [] (.seq (rg [mV 4 (cI 0)] [4])
.ret)
def zh6:ACode:=(.seq (rg [mV 4 (cI 0)] [0,1])
(.seq (.seq (rg [mV 9 0,
cL 10 z1I [9],
mV 5 10] [0,1,5])
(.seq (rg [mV 11 5,
bN 12 .neq 11 (cI 0)] [0,1,5,12])
(.cond 12 (.seq (rg [mV 13 5,
mV 4 13] [4])
.ret)
.skip)))
(.seq (.seq (rg [mV 14 1,
lN 15 14,
mV 16 (cI 0)] [0,14,15,16])
(.block 0 (.loop (.scope zh7))))
zh8)))
def z6G:AFun:=⟨2,[.t 4],zh6,false,false⟩
def zh9:ACode:=(.seq (rg [mV 2 cF] [0])
(.seq (rg [mV 3 0,
cL 4 tB [3,(cI 3),(cI 5)],
uO 5 (.un .not 4),
mV 2 5] [2])
.ret))
def z6H:AFun:=⟨1,[.t 2],zh9,false,false⟩
def zhB:ACode:=.pr [3,5,6,8,9,10,15,16] (.seq (rg [bN 17 .lss 16 15] [3,5,6,8,9,10,15,16,17])
(.seq (.cond 17 .skip
(.exit 2))
(.seq (.block 3 (.seq (rg [mV 18 16,
mV 7 18] [3,5,6,7,8,9,10,15,16])
(rg [mV 19 6,
mV 20 5,
mV 21 7,
uO 22 (.idxs 20 21),
bN 23 .sub 22 (.c (.p (.int .u8 48))),
uO 24 (.conv (.i .u64) 23),
mV 25 7,
bN 26 .shl 24 25,
bN 27 .or 19 26,
mV 6 27] [3,5,6,8,9,10,15,16])))
(rg [bN 28 .add 16 (cI 1),
mV 16 28] [3,5,6,8,9,10,15,16]))))
def zhC:ACode:=.pr [3,6,8,9,10] (rg [mV 29 3,
mV 30 6,
uO 31 (.bsl false none 1 (.int .u64 0) [(0,30)]),
uO 32 (.app none 29 31),
mV 3 32] [3,8,9,10])
def zhD:ACode:=.pr [3,8,9,10] (rg [bN 33 .add 10 (cI 1),
mV 10 33] [3,8,9,10])
def zhE:ACode:=.pr [3,8,9,10] (.seq (rg [bN 11 .lss 10 9] [3,8,9,10,11])
(.seq (.cond 11 .skip
(.exit 0))
(.seq (.block 1 (.seq (rg [iA 12 none 8 10,
lD 13 none 12,
mV 5 13] [3,5,8,9,10])
(.seq (rg [mV 6 (.c (.p (.int .u64 0)))] [3,5,6,8,9,10])
(.seq (.seq (rg [mV 14 5,
uO 15 (.lens 14),
mV 16 (cI 0)] [3,5,6,8,9,10,15,16])
(.block 2 (.loop zhB)))
zhC))))
zhD)))
def zhF:ACode:=.pr [3] (.seq (rg [mV 34 3,
mV 2 34] [2])
.ret)
def zhA:ACode:=(.seq (rg [mV 2 (.c (.p (.sl none [])))] [0])
(.seq (rg [uO 3 (.new0 none)] [0,3])
(.seq (.seq (rg [mV 8 0,
lN 9 8,
mV 10 (cI 0)] [3,8,9,10])
(.block 0 (.loop (.scope zhE))))
zhF)))
def z6I:AFun:=⟨1,[.t 2],zhA,false,true⟩
def zhH:ACode:=.pr [1,5,7,8,10,11,12,19,20] (.seq (rg [bN 21 .lss 20 19] [1,5,7,8,10,11,12,19,20,21])
(.seq (.cond 21 .skip
(.exit 2))
(.seq (.block 3 (.seq (rg [mV 22 20,
mV 9 22] [1,5,7,8,9,10,11,12,19,20])
(rg [mV 23 8,
mV 24 9,
mV 25 7,
mV 26 9,
bN 27 .shr 25 26,
bN 28 .and 27 (.c (.p (.int .u64 1))),
bN 29 .add (.c (.p (.int .u64 48))) 28,
uO 30 (.conv (.i .u8) 29),
iA 31 none 23 24,
wO (.store none 31 30)] [1,5,7,8,10,11,12,19,20])))
(rg [bN 32 .add 20 (cI 1),
mV 20 32] [1,5,7,8,10,11,12,19,20]))))
def zhI:ACode:=.pr [1,5,8,10,11,12] (rg [mV 33 5,
mV 34 8,
uO 35 (.conv .b2s 34),
uO 36 (.bsl false none 1 (.str []) [(0,35)]),
uO 37 (.app none 33 36),
mV 5 37] [1,5,10,11,12])
def zhJ:ACode:=.pr [1,5,10,11,12] (rg [bN 38 .add 12 (cI 1),
mV 12 38] [1,5,10,11,12])
def zhK:ACode:=.pr [1,5,10,11,12] (.seq (rg [bN 13 .lss 12 11] [1,5,10,11,12,13])
(.seq (.cond 13 .skip
(.exit 0))
(.seq (.block 1 (.seq (rg [iA 14 none 10 12,
lD 15 none 14,
mV 7 15] [1,5,7,10,11,12])
(.seq (rg [mV 16 1,
uO 17 (.mksl none (.int .u8 0) 16 16),
mV 8 17] [1,5,7,8,10,11,12])
(.seq (.seq (rg [mV 18 8,
lN 19 18,
mV 20 (cI 0)] [1,5,7,8,10,11,12,19,20])
(.block 2 (.loop zhH)))
zhI))))
zhJ)))
def zhL:ACode:=.pr [5] (.seq (rg [mV 39 5,
mV 4 39] [4])
.ret)
def zhG:ACode:=(.seq (rg [mV 4 (.c (.p (.sl none [])))] [0,1])
(.seq (rg [uO 5 (.new0 none)] [0,1,5])
(.seq (.seq (rg [mV 10 0,
lN 11 10,
mV 12 (cI 0)] [1,5,10,11,12])
(.block 0 (.loop (.scope zhK))))
zhL)))
def z6J:AFun:=⟨2,[.t 4],zhG,false,false⟩
def zhM:ACode:=(.seq (rg [mV 2 (.c (.p (.int .u64 0)))] [0])
(.seq (rg [mV 3 0,
bN 4 .shl (.c (.p (.int .u64 1))) 3,
bN 5 .sub 4 (.c (.p (.int .u64 1))),
mV 2 5] [2])
.ret))
def z6K:AFun:=⟨1,[.t 2],zhM,false,false⟩
def zhO:ACode:=.pr [0,4,6,31,32,33] (.seq (rg [bN 34 .lss 33 32] [0,4,6,31,32,33,34])
(.seq (.cond 34 .skip
(.exit 1))
(.seq (.block 2 (.seq (rg [iA 35 none 31 33,
lD 36 none 35,
mV 8 36] [0,4,6,8,31,32,33])
(rg [mV 37 6,
mV 38 0,
mV 39 8,
iA 40 none 38 39,
lD 41 none 40,
bN 42 .and 37 41,
mV 6 42] [0,4,6,31,32,33])))
(rg [bN 43 .add 33 (cI 1),
mV 33 43] [0,4,6,31,32,33]))))
def zhP:ACode:=.pr [0,4,6,47,48,49] (.seq (rg [bN 50 .lss 49 48] [0,4,6,47,48,49,50])
(.seq (.cond 50 .skip
(.exit 3))
(.seq (.block 4 (.seq (rg [iA 51 none 47 49,
lD 52 none 51,
mV 10 52] [0,4,6,10,47,48,49])
(rg [mV 53 6,
mV 54 0,
mV 55 10,
iA 56 none 54 55,
lD 57 none 56,
bN 58 .or 53 57,
mV 6 58] [0,4,6,47,48,49])))
(rg [bN 59 .add 49 (cI 1),
mV 49 59] [0,4,6,47,48,49]))))
def zhQ:ACode:=.pr [0,2,4,6,21,24] (.cond 24 (rg [mV 27 2,
mV 6 27] [0,4,6])
(.seq (rg [bN 29 .eql 21 (cI 3),
mV 28 29] [0,4,6,21,28])
(.cond 28 (.seq (rg [fA 30 1 none 4,
lD 31 none 30,
lN 32 31,
mV 33 (cI 0)] [0,4,6,31,32,33])
(.block 1 (.loop zhO)))
(.seq (rg [bN 45 .eql 21 (cI 4),
mV 44 45] [0,4,6,44])
(.cond 44 (.seq (rg [fA 46 1 none 4,
lD 47 none 46,
lN 48 47,
mV 49 (cI 0)] [0,4,6,47,48,49])
(.block 3 (.loop zhP)))
.skip)))))
def zhR:ACode:=.pr [0,6,61,62,63] (.seq (rg [bN 64 .lss 63 62] [0,6,61,62,63,64])
(.seq (.cond 64 .skip
(.exit 5))
(.seq (.block 6 (.seq (rg [iA 65 none 61 63,
lD 66 none 65,
mV 12 66] [0,6,12,61,62,63])
(rg [mV 67 0,
mV 68 12,
mV 69 6,
iA 70 none 67 68,
wO (.store none 70 69)] [0,6,61,62,63])))
(rg [bN 71 .add 63 (cI 1),
mV 63 71] [0,6,61,62,63]))))
def zhS:ACode:=.pr [0,4,6] (.seq (rg [fA 60 1 none 4,
lD 61 none 60,
lN 62 61,
mV 63 (cI 0)] [0,6,61,62,63])
(.block 5 (.loop zhR)))
def zhN:ACode:=(.seq (rg [uO 4 (.box 1)] [0,2,4])
(.seq (rg [mV 13 0,
fA 14 1 none 4,
lD 15 none 14,
iA 16 none 15 (cI 0),
lD 17 none 16,
iA 18 none 13 17,
lD 19 none 18,
mV 6 19] [0,2,4,6])
(.seq (.seq (rg [fA 20 0 none 4,
lD 21 none 20] [0,2,4,6,21])
(.block 0 (.seq (rg [bN 23 .eql 21 (cI 1),
mV 22 23] [0,2,4,6,21,22])
(.cond 22 (rg [mV 6 (.c (.p (.int .u64 0)))] [0,4,6])
(.seq (.seq (rg [bN 25 .eql 21 (cI 2),
mV 24 25] [0,2,4,6,21,24])
(.cond 24 .skip
(rg [bN 26 .eql 21 (cI 6),
mV 24 26] [0,2,4,6,21,24])))
zhQ)))))
zhS)))
def z6L:AFun:=⟨3,[],zhN,true,false⟩
def zhT:ACode:=(.seq (rg [uO 2 (.alloc [.p (.int .i64 0),.p (.int .i64 0)]),
uO 3 (.alloc [.p (.int .i64 0),.p (.int .i64 0)]),
mV 4 (cI 0)] [0,2,3])
(.seq (.seq (rg [mV 9 0,
cL 10 z1T [9,(cI 1)],
mV 5 10] [0,2,3,5])
(.seq (rg [mV 11 5,
bN 12 .neq 11 (cI 0)] [0,2,3,5,12])
(.cond 12 (.seq (rg [uO 13 (.build [.p (.int .i64 0),.p (.int .i64 0)] []),
uO 14 (.build [.p (.int .i64 0),.p (.int .i64 0)] []),
mV 15 5,
wO (.store (some 2) 2 13),
wO (.store (some 2) 3 14),
mV 4 15] [2,3,4])
.ret)
.skip)))
(.seq (rg [mV 17 0,
cL 18 z1S [17],
mV 16 18,
eX 19 16 0,
eX 20 16 1,
mV 6 19,
mV 7 20] [0,2,3,6,7])
(.seq (rg [mV 21 0,
lN 22 21,
mV 8 22] [2,3,6,7,8])
(.seq (rg [mV 23 6,
mV 24 8,
cL 25 PF [23,24],
mV 26 7,
mV 27 8,
mV 28 8,
bN 29 .mul 27 28,
cL 30 PF [26,29],
wO (.store (some 2) 2 25),
wO (.store (some 2) 3 30),
mV 4 (cI 0)] [2,3,4])
.ret)))))
def z6M:AFun:=⟨1,[.cell 2 (some 2),.cell 3 (some 2),.t 4],zhT,false,false⟩
def zhV:ACode:=.pr [0,2,4,7,8,9] (.seq (rg [bN 10 .lss 9 8] [0,2,4,7,8,9,10])
(.seq (.cond 10 .skip
(.exit 0))
(.seq (.block 1 (.seq (rg [iA 11 none 7 9,
lD 12 none 11,
mV 6 12] [0,2,4,6,7,8,9])
(.seq (rg [mV 13 2,
mV 14 6,
bN 15 .add 13 14,
mV 2 15] [0,2,4,6,7,8,9])
(rg [mV 16 4,
mV 17 6,
mV 18 6,
bN 19 .mul 17 18,
bN 20 .add 16 19,
mV 4 20] [0,2,4,7,8,9]))))
(rg [bN 21 .add 9 (cI 1),
mV 9 21] [0,2,4,7,8,9]))))
def zhW:ACode:=.pr [0,2,4] (.seq (rg [mV 22 2,
mV 23 0,
lN 24 23,
mV 25 4,
bN 26 .mul 24 25,
mV 27 2,
mV 28 2,
bN 29 .mul 27 28,
bN 30 .sub 26 29,
mV 2 22,
mV 3 30] [2,3])
.ret)
def zhU:ACode:=(.seq (rg [mV 2 (cI 0),
mV 3 (cI 0)] [0,2])
(.seq (rg [mV 4 (cI 0)] [0,2,4])
(.seq (.seq (rg [mV 7 0,
lN 8 7,
mV 9 (cI 0)] [0,2,4,7,8,9])
(.block 0 (.loop zhV)))
zhW)))
def z6N:AFun:=⟨1,[.t 2,.t 3],zhU,false,false⟩
def zhX:ACode:=(.seq (rg [mV 4 (cI 0)] [0,1])
(.seq (.block 0 (.seq (rg [mV 6 0,
lN 7 6,
mV 8 1,
bN 9 .lss 7 8,
mV 5 9] [0,5])
(.cond 5 (.seq (rg [mV 4 (cI 8)] [4])
.ret)
(.seq (rg [mV 11 0,
lN 12 11,
bN 13 .gtr 12 (cI 5000),
mV 10 13] [0,10])
(.cond 10 (.seq (rg [mV 4 (cI 2)] [4])
.ret)
(.seq (rg [mV 15 0,
cL 16 UF [15,(.f z1U)],
mV 14 16] [14])
(.cond 14 (.seq (rg [mV 4 (cI 1)] [4])
.ret)
.skip)))))))
(.seq (rg [mV 4 (cI 0)] [4])
.ret)))
def z6O:AFun:=⟨2,[.t 4],zhX,false,false⟩
def zhY:ACode:=(.seq (rg [mV 2 cF] [0])
(.seq (rg [mV 3 0,
cL 4 OG [3],
uO 5 (.un .not 4),
mV 2 5] [2])
.ret))
def z6P:AFun:=⟨1,[.t 2],zhY,false,false⟩
def zhZ:ACode:=(.seq (rg [mV 0 cF] [])
(.seq (rg [cL 13 z1V [],
uO 14 (.bsl false none 1 (.str []) [(0,(cS [49]))]),
cL 15 z14 [13,14],
mV 12 15,
eX 16 12 0,
eX 17 12 1,
mV 1 16,
mV 2 17] [1,2])
(.seq (rg [uO 19 (.bsl false none 1 (.str []) [(0,(cS [48,49]))]),
uO 20 (.bsl false none 1 (.int .i64 0) [(0,(cI 0))]),
uO 21 (.build [.p (.int .i64 0),.sl0 none] [(0,1,(cI 2)),(1,1,20)]),
cL 22 z1K [19,21],
mV 18 22,
eX 23 18 0,
eX 24 18 1,
mV 3 23,
mV 4 24] [1,2,3,4])
(.seq (rg [uO 26 (.build [.p (.int .i64 0),.p (.int .i64 0),.p (.int .i64 0),.p (.str []),.p (.str []),.p (.str [])] [(0,1,(cI 7)),(3,1,(cS [49,48]))]),
uO 27 (.bsl false (some 6) 1 (.agg [.int .i64 0,.int .i64 0,.int .i64 0,.str [],.str [],.str []]) [(0,26)]),
cL 28 z2s [27],
mV 25 28,
eX 29 25 0,
eX 30 25 1,
mV 5 29,
mV 6 30] [1,2,3,4,5,6])
(.seq (rg [uO 32 (.bsl false none 2 (.int .i64 0) [(0,(cI 1)),(1,(cI 3))]),
cL 33 z1R [32],
mV 31 33,
eX 34 31 0,
eX 35 31 1,
eX 36 31 2,
uO 7 (.alloc [.p (.int .i64 0),.p (.int .i64 0)]),
uO 8 (.alloc [.p (.int .i64 0),.p (.int .i64 0)]),
wO (.store (some 2) 7 34),
wO (.store (some 2) 8 35),
mV 9 36] [1,2,3,4,5,6,7,9])
(.seq (rg [uO 38 (.bsl false none 1 (.str []) [(0,(cS [115,99,97,110]))]),
uO 39 (.build [.sl0 none,.p (.int .i64 0)] [(0,1,38),(1,1,(cI 1))]),
uO 40 (.build [.p (.str []),.p (.int .i64 0),.p (.int .i64 0),.p (.int .i64 0),.p (.str []),.p (.str []),.p (.str []),.p (.int .i64 0)] [(0,1,(cS [97])),(1,1,(cI 1)),(3,1,(cI 1)),(4,1,(cS [98]))]),
uO 41 (.bsl false (some 8) 1 (.agg [.str [],.int .i64 0,.int .i64 0,.int .i64 0,.str [],.str [],.str [],.int .i64 0]) [(0,40)]),
cL 42 z2d [39,41,(cS [98]),(cI 0)],
mV 37 42,
eX 43 37 0,
eX 44 37 1,
uO 10 (.alloc [.p (.int .i64 0),.p (.int .i64 0),.p (.str []),.p (.str []),.p (.int .i64 0)]),
wO (.store (some 5) 10 43),
mV 11 44] [1,2,3,4,5,6,7,9,10,11])
(.seq (rg [mV 45 2,
mV 46 4,
mV 47 6,
mV 48 9,
mV 49 11,
uO 50 (.bsl false none 5 (.int .i64 0) [(0,45),(1,46),(2,47),(3,48),(4,49)]),
cL 51 RF [50],
bN 52 .eql 51 (cI 0),
mV 53 52,
gD 54 53 true (.mv 1),
gD 55 53 true (.len 54),
gD 56 53 true (.bin .eql 55 (cI 1)),
uO 57 (.pick 53 56 cF),
mV 58 57,
gD 59 58 true (.mv 1),
gD 60 58 true (.iaddr none 59 (cI 0)),
gD 61 58 true (.load none 60),
gD 62 58 true (.bin .eql 61 (cI 1)),
uO 63 (.pick 58 62 cF),
mV 64 63,
gD 65 64 true (.mv 3),
gD 66 64 true (.len 65),
gD 67 64 true (.bin .eql 66 (cI 1)),
uO 68 (.pick 64 67 cF),
mV 69 68,
gD 70 69 true (.mv 3),
gD 71 69 true (.iaddr none 70 (cI 0)),
gD 72 69 true (.load none 71),
gD 73 69 true (.bin .eql 72 (cS [49,49])),
uO 74 (.pick 69 73 cF),
mV 75 74,
gD 76 75 true (.mv 5),
gD 77 75 true (.bin .eql 76 (cI 9)),
uO 78 (.pick 75 77 cF),
mV 79 78,
gD 80 79 true (.faddr 0 none 7),
gD 81 79 true (.load none 80),
gD 82 79 true (.bin .eql 81 (cI 2)),
uO 83 (.pick 79 82 cF),
mV 84 83,
gD 85 84 true (.faddr 0 none 10),
gD 86 84 true (.load none 85),
gD 87 84 true (.bin .eql 86 (cI 1)),
uO 88 (.pick 84 87 cF),
mV 0 88] [0])
.ret)))))))
def z6Q:AFun:=⟨0,[.t 0],zhZ,false,false⟩
def zia:ACode:=(.seq (rg [uO 0 (.alloc [.sl0 (some 2),.sl0 (some 3),.sl0 (some 2)])] [0])
(.seq (rg [uO 1 (.build [.p (.int .i64 0),.p (.str []),.p (.int .i64 0),.p (.int .i64 0)] [(0,1,(cI 2)),(1,1,(cS [97])),(2,1,(cI (-1)))]),
uO 2 (.bsl false (some 4) 1 (.agg [.int .i64 0,.str [],.int .i64 0,.int .i64 0]) [(0,1)]),
uO 3 (.build [.p (.str []),.sl0 (some 4)] [(0,1,(cS [117])),(1,1,2)]),
uO 4 (.bsl false (some 2) 1 (.agg [.str [],.sl (some 4) []]) [(0,3)]),
uO 5 (.build [.p (.str []),.p (.str []),.p (.str [])] [(0,1,(cS [110])),(1,1,(cS [117])),(2,1,(cS [97]))]),
uO 6 (.bsl false (some 3) 1 (.agg [.str [],.str [],.str []]) [(0,5)]),
uO 7 (.build [.sl0 (some 2),.sl0 (some 3),.sl0 (some 2)] [(0,1,4),(1,1,6)]),
wO (.store (some 3) 0 7)] [0])
.ret))
def z6R:AFun:=⟨0,[.cell 0 (some 3)],zia,false,false⟩
def zic:ACode:=.pr [0,1,2,8,9,10] (.seq (.seq (rg [mV 15 9,
mV 16 10,
bN 17 .lss 15 16] [0,1,2,8,9,10,17])
(.cond 17 .skip
(.exit 0)))
(.block 1 (.seq (rg [mV 18 9,
mV 19 10,
bN 20 .add 18 19,
uO 21 (.conv (.i .u64) 20),
bN 22 .shr 21 (.c (.p (.int .u64 1))),
uO 23 (.conv (.i .i64) 22),
mV 11 23] [0,1,2,8,9,10,11])
(.seq (rg [mV 24 2,
mV 25 0,
mV 26 11,
iA 27 (some 2) 25 26,
lD 28 (some 2) 27,
mV 29 1,
uO 30 (.callv 24 [28,29]),
bN 31 .lss 30 (cI 0)] [0,1,2,8,9,10,11,31])
(.cond 31 (rg [mV 32 11,
bN 33 .add 32 (cI 1),
mV 9 33] [0,1,2,8,9,10])
(rg [mV 34 11,
mV 10 34] [0,1,2,8,9,10]))))))
def zid:ACode:=.pr [0,1,2,8,9] (.seq (rg [mV 35 9,
mV 36 9,
mV 37 8,
bN 38 .lss 36 37,
mV 39 38,
gD 40 39 true (.mv 2),
gD 41 39 true (.mv 0),
gD 42 39 true (.mv 9),
gD 43 39 true (.iaddr (some 2) 41 42),
gD 44 39 true (.load (some 2) 43),
gD 45 39 true (.mv 1),
gD 46 39 true (.callv 40 [44,45]),
gD 47 39 true (.bin .eql 46 (cI 0)),
uO 48 (.pick 39 47 cF),
mV 6 35,
mV 7 48] [6,7])
.ret)
def zib:ACode:=(.seq (rg [mV 6 (cI 0),
mV 7 cF] [0,1,2])
(.seq (rg [mV 12 0,
lN 13 12,
mV 8 13] [0,1,2,8])
(.seq (rg [mV 14 8,
mV 9 (cI 0),
mV 10 14] [0,1,2,8,9,10])
(.seq (.block 0 (.loop zic))
zid))))
def z6S:AFun:=⟨3,[.t 6,.t 7],zib,false,false⟩
def zif:ACode:=.pr [0,3,4,5] (rg [mV 33 5,
bN 34 .add 33 (cI 1),
mV 5 34] [0,3,4,5])
def zig:ACode:=.pr [0,3,4,5] (.seq (.seq (rg [mV 29 5,
mV 30 4,
lN 31 30,
bN 32 .lss 29 31] [0,3,4,5,32])
(.cond 32 .skip
(.exit 2)))
(.seq (.block 3 (.seq (dr [dF (mV 35 4) [4],
dF (mV 36 5) [5],
dF (iA 37 none 35 36) [35,36],
dF (lD 38 none 37) [37],
dF (mV 39 4) [4],
dF (mV 40 5) [5],
dF (bN 41 .sub 40 (cI 1)) [40],
dF (iA 42 none 39 41) [39,41],
dF (lD 43 none 42) [42],
dF (bN 44 .neq 38 43) [38,43]] [0,3,4,5,44])
(.cond 44 (.seq (rg [mV 45 0,
mV 46 3,
mV 47 4,
mV 48 5,
iA 49 none 47 48,
lD 50 none 49,
iA 51 none 45 46,
wO (.store none 51 50)] [0,3,4,5])
(rg [mV 52 3,
bN 53 .add 52 (cI 1),
mV 3 53] [0,3,4,5]))
.skip)))
zif))
def zih:ACode:=.pr [0,3] (.seq (rg [mV 54 0,
mV 55 3,
uO 56 (.slice none 54 (some 55) none none),
wO (.clr none (.str []) 56)] [0,3])
(.seq (rg [mV 57 0,
mV 58 3,
uO 59 (.slice none 57 none (some 58) none),
mV 2 59] [2])
.ret))
def zii:ACode:=.pr [0,3] (rg [mV 14 3,
bN 15 .add 14 (cI 1),
mV 3 15] [0,3])
def zij:ACode:=.pr [0,3] (.seq (.seq (rg [mV 10 3,
mV 11 0,
lN 12 11,
bN 13 .lss 10 12] [0,3,13])
(.cond 13 .skip
(.exit 0)))
(.seq (.block 1 (.seq (dr [dF (mV 16 0) [0],
dF (mV 17 3) [3],
dF (iA 18 none 16 17) [16,17],
dF (lD 19 none 18) [18],
dF (mV 20 0) [0],
dF (mV 21 3) [3],
dF (bN 22 .sub 21 (cI 1)) [21],
dF (iA 23 none 20 22) [20,22],
dF (lD 24 none 23) [23],
dF (bN 25 .eql 19 24) [19,24]] [0,3,25])
(.cond 25 (.seq (rg [mV 26 0,
mV 27 3,
uO 28 (.slice none 26 (some 27) none none),
mV 4 28] [0,3,4])
(.seq (.seq (rg [mV 5 (cI 1)] [0,3,4,5])
(.block 2 (.loop zig)))
zih))
.skip)))
zii))
def zik:ACode:=.pr [0] (.seq (rg [mV 60 0,
mV 2 60] [2])
.ret)
def zie:ACode:=(.seq (rg [mV 2 (.c (.p (.sl none [])))] [0])
(.seq (.seq (rg [mV 6 0,
lN 7 6,
bN 8 .lss 7 (cI 2)] [0,8])
(.cond 8 (.seq (rg [mV 9 0,
mV 2 9] [2])
.ret)
.skip))
(.seq (.seq (rg [mV 3 (cI 1)] [0,3])
(.block 0 (.loop zij)))
zik)))
def z6T:AFun:=⟨1,[.t 2],zie,true,false⟩
def zil:ACode:=(.seq (rg [mV 4 cF] [0,1])
(.seq (rg [mV 5 0,
mV 6 1,
cL 7 z1Z [5,6],
bN 8 .geq 7 (cI 0),
mV 4 8] [4])
.ret))
def z6U:AFun:=⟨2,[.t 4],zil,true,false⟩
def zim:ACode:=(.seq (rg [mV 4 cF] [0,1])
(.seq (rg [mV 5 0,
mV 6 1,
cL 7 z2a [5,6],
bN 8 .geq 7 (cI 0),
mV 4 8] [4])
.ret))
def z6V:AFun:=⟨2,[.t 4],zim,true,false⟩
def zin:ACode:=(.seq (rg [mV 4 cF] [0,1])
(.seq (rg [mV 5 0,
mV 6 1,
cL 7 BV [5,6],
bN 8 .geq 7 (cI 0),
mV 4 8] [4])
.ret))
def z6W:AFun:=⟨2,[.t 4],zin,true,false⟩
def zip:ACode:=.pr [0,1,7,8] (.seq (rg [bN 9 .lss 8 7] [0,1,7,8,9])
(.seq (.cond 9 .skip
(.exit 0))
(.seq (.block 1 (.seq (rg [mV 10 8,
mV 5 10] [0,1,5,7,8])
(.seq (rg [mV 11 1,
mV 12 0,
mV 13 5,
iA 14 (some 4) 12 13,
lD 15 (some 4) 14,
uO 16 (.callv 11 [15])] [0,1,5,7,8,16])
(.cond 16 (.seq (rg [mV 17 5,
mV 4 17] [4])
.ret)
.skip))))
(rg [bN 18 .add 8 (cI 1),
mV 8 18] [0,1,7,8]))))
def ziq:ACode:=.pr [] (.seq (rg [mV 4 (cI (-1))] [4])
.ret)
def zio:ACode:=(.seq (rg [mV 4 (cI 0)] [0,1])
(.seq (.seq (rg [mV 6 0,
lN 7 6,
mV 8 (cI 0)] [0,1,7,8])
(.block 0 (.loop zip)))
ziq))
def z6X:AFun:=⟨2,[.t 4],zio,true,false⟩
def zis:ACode:=.pr [0,1,7,8] (.seq (rg [bN 9 .lss 8 7] [0,1,7,8,9])
(.seq (.cond 9 .skip
(.exit 0))
(.seq (.block 1 (.seq (rg [mV 10 8,
mV 5 10] [0,1,5,7,8])
(.seq (rg [mV 11 1,
mV 12 0,
mV 13 5,
iA 14 none 12 13,
lD 15 none 14,
bN 16 .eql 11 15] [0,1,5,7,8,16])
(.cond 16 (.seq (rg [mV 17 5,
mV 4 17] [4])
.ret)
.skip))))
(rg [bN 18 .add 8 (cI 1),
mV 8 18] [0,1,7,8]))))
def zit:ACode:=.pr [] (.seq (rg [mV 4 (cI (-1))] [4])
.ret)
def zir:ACode:=(.seq (rg [mV 4 (cI 0)] [0,1])
(.seq (.seq (rg [mV 6 0,
lN 7 6,
mV 8 (cI 0)] [0,1,7,8])
(.block 0 (.loop zis)))
zit))
def z6Y:AFun:=⟨2,[.t 4],zir,true,false⟩
def ziv:ACode:=.pr [0,1,7,8] (.seq (rg [bN 9 .lss 8 7] [0,1,7,8,9])
(.seq (.cond 9 .skip
(.exit 0))
(.seq (.block 1 (.seq (rg [mV 10 8,
mV 5 10] [0,1,5,7,8])
(.seq (rg [mV 11 1,
mV 12 0,
mV 13 5,
iA 14 none 12 13,
lD 15 none 14,
bN 16 .eql 11 15] [0,1,5,7,8,16])
(.cond 16 (.seq (rg [mV 17 5,
mV 4 17] [4])
.ret)
.skip))))
(rg [bN 18 .add 8 (cI 1),
mV 8 18] [0,1,7,8]))))
def ziw:ACode:=.pr [] (.seq (rg [mV 4 (cI (-1))] [4])
.ret)
def ziu:ACode:=(.seq (rg [mV 4 (cI 0)] [0,1])
(.seq (.seq (rg [mV 6 0,
lN 7 6,
mV 8 (cI 0)] [0,1,7,8])
(.block 0 (.loop ziv)))
ziw))
def z6Z:AFun:=⟨2,[.t 4],ziu,true,false⟩
def ziy:ACode:=.pr [0,9,10,11] (.seq (rg [bN 12 .lss 11 10] [0,9,10,11,12])
(.seq (.cond 12 .skip
(.exit 0))
(.seq (.block 1 (.seq (rg [mV 13 11,
iA 14 (some 8) 9 11,
lD 15 (some 8) 14,
uO 4 (.alloc [.p (.str []),.p (.int .i64 0),.p (.int .i64 0),.p (.int .i64 0),.p (.str []),.p (.str []),.p (.str []),.p (.int .i64 0)]),
mV 3 13,
wO (.store (some 8) 4 15)] [0,3,4,9,10,11])
(.seq (.seq (rg [lD 16 (some 8) 4,
cL 17 z2g [16],
mV 5 17] [0,3,4,5,9,10,11])
(.seq (rg [mV 18 5,
bN 19 .neq 18 (cI 0)] [0,3,4,5,9,10,11,19])
(.cond 19 (.seq (rg [mV 20 5,
mV 2 20] [2])
.ret)
.skip)))
(.seq (dr [dF (mV 21 3) [3],
dF (bN 22 .gtr 21 (cI 0)) [21],
dF (mV 23 22) [22],
dF (gD 24 23 true (.load (some 8) 4)) [4,23],
dF (gD 25 23 true (.mv 0)) [0,23],
dF (gD 26 23 true (.mv 3)) [3,23],
dF (gD 27 23 true (.bin .sub 26 (cI 1))) [26,23],
dF (gD 28 23 true (.iaddr (some 8) 25 27)) [25,27,23],
dF (gD 29 23 true (.load (some 8) 28)) [28,23],
dT (gD 30 23 true (.call z2e [24,29])) [24,29,23],
dF (gD 31 23 true (.bin .leq 30 (cI 0))) [30,23],
dF (uO 32 (.pick 23 31 cF)) [23,31]] [0,9,10,11,32])
(.cond 32 (.seq (rg [mV 2 (cI 7)] [2])
.ret)
.skip)))))
(rg [bN 33 .add 11 (cI 1),
mV 11 33] [0,9,10,11]))))
def ziz:ACode:=.pr [0] (.seq (.seq (rg [mV 34 0,
cL 35 z2o [34]] [35])
(.cond 35 (.seq (rg [mV 2 (cI 6)] [2])
.ret)
.skip))
(.seq (rg [mV 2 (cI 0)] [2])
.ret))
def zix:ACode:=(.seq (rg [mV 2 (cI 0)] [0])
(.seq (.seq (rg [mV 6 0,
lN 7 6,
bN 8 .gtr 7 (cI 2000)] [0,8])
(.cond 8 (.seq (rg [mV 2 (cI 2)] [2])
.ret)
.skip))
(.seq (.seq (rg [mV 9 0,
lN 10 9,
mV 11 (cI 0)] [0,9,10,11])
(.block 0 (.loop (.scope ziy))))
ziz)))
def z7a:AFun:=⟨1,[.t 2],zix,false,false⟩
def zi1:ACode:=.pr [1,16,17,18] (.seq (rg [bN 19 .lss 18 17] [1,16,17,18,19])
(.seq (.cond 19 .skip
(.exit 1))
(.seq (.block 2 (.seq (rg [mV 20 18,
iA 21 none 16 18,
lD 22 none 21,
mV 3 20,
mV 4 22] [1,3,4,16,17,18])
(.block 3 (.seq (rg [mV 24 4,
cL 25 IC [24],
uO 26 (.un .not 25),
mV 23 26] [1,3,4,16,17,18,23])
(.cond 23 (.seq (rg [mV 2 (cI 5)] [2])
.ret)
(.seq (rg [fA 28 0 none 1,
lD 29 none 28,
mV 30 3,
uO 31 (.slice none 29 none (some 30) none),
mV 32 4,
cL 33 yV [31,32],
mV 27 33] [1,16,17,18,27])
(.cond 27 (.seq (rg [mV 2 (cI 6)] [2])
.ret)
.skip)))))))
(rg [bN 34 .add 18 (cI 1),
mV 18 34] [1,16,17,18]))))
def zi2:ACode:=.pr [1] (.seq (.seq (rg [fA 35 1 none 1,
lD 36 none 35,
cL 37 tB [36,(cI 1),(cI 10)]] [37])
(.cond 37 (.seq (rg [mV 2 (cI 1)] [2])
.ret)
.skip))
(.seq (rg [mV 2 (cI 0)] [2])
.ret))
def zi0:ACode:=(.seq (rg [uO 1 (.box 0),
mV 2 (cI 0)] [1])
(.seq (.block 0 (.seq (rg [fA 6 0 none 1,
lD 7 none 6,
lN 8 7,
bN 9 .eql 8 (cI 0),
mV 5 9] [1,5])
(.cond 5 (.seq (rg [mV 2 (cI 8)] [2])
.ret)
(.seq (rg [fA 11 0 none 1,
lD 12 none 11,
lN 13 12,
bN 14 .gtr 13 (cI 20),
mV 10 14] [1,10])
(.cond 10 (.seq (rg [mV 2 (cI 2)] [2])
.ret)
.skip)))))
(.seq (.seq (rg [fA 15 0 none 1,
lD 16 none 15,
lN 17 16,
mV 18 (cI 0)] [1,16,17,18])
(.block 1 (.loop zi1)))
zi2)))
def z7b:AFun:=⟨1,[.t 2],zi0,false,false⟩
def zi3:ACode:=(.seq (rg [uO 4 (.box 0),
uO 8 (.alloc [.p (.int .i64 0),.p (.int .i64 0),.p (.str []),.p (.str []),.p (.int .i64 0)]),
mV 9 (cI 0)] [1,2,3,4,8])
(.seq (.seq (rg [lD 12 (some 2) 4,
mV 13 1,
mV 14 3,
cL 15 z2h [12,13,14],
mV 10 15] [1,2,3,4,8,10])
(.seq (rg [mV 16 10,
bN 17 .neq 16 (cI 0)] [1,2,3,4,8,10,17])
(.cond 17 (.seq (rg [uO 18 (.build [.p (.int .i64 0),.p (.int .i64 0),.p (.str []),.p (.str []),.p (.int .i64 0)] []),
mV 19 10,
wO (.store (some 5) 8 18),
mV 9 19] [8,9])
.ret)
.skip)))
(.seq (.seq (rg [mV 20 2,
cL 21 IC [20],
uO 22 (.un .not 21)] [1,2,3,4,8,22])
(.cond 22 (.seq (rg [uO 23 (.build [.p (.int .i64 0),.p (.int .i64 0),.p (.str []),.p (.str []),.p (.int .i64 0)] []),
wO (.store (some 5) 8 23),
mV 9 (cI 5)] [8,9])
.ret)
.skip))
(.seq (dr [dF (lD 24 (some 2) 4) [4],
dF (mV 25 1) [1],
dF (mV 26 3) [3],
dA (cL 27 z2p [25,26]) [25,26] true [] [0],
dT (cL 28 z2m [24,27]) [24,27],
dF (uO 29 (.nilchk 28)) [28],
dF (fA 30 2 none 29) [29],
dF (lD 31 none 30) [30],
dF (mV 32 2) [2],
dF (uO 33 (.look (none,[2]) false (.nilp) 31 32)) [31,32],
dF (mV 11 33) [33]] [8,11])
(.seq (.seq (rg [mV 34 11,
uO 35 (.isnil 0 false 34)] [8,11,35])
(.cond 35 (.seq (rg [uO 36 (.build [.p (.int .i64 0),.p (.int .i64 0),.p (.str []),.p (.str []),.p (.int .i64 0)] []),
wO (.store (some 5) 8 36),
mV 9 (cI 8)] [8,9])
.ret)
.skip))
(.seq (rg [mV 37 11,
uO 38 (.nilchk 37),
lD 39 (some 5) 38,
wO (.store (some 5) 8 39),
mV 9 (cI 0)] [8,9])
.ret))))))
def z7c:AFun:=⟨4,[.cell 8 (some 5),.t 9],zi3,false,false⟩
def zi4:ACode:=(.seq (rg [uO 2 (.box 0),
uO 3 (.box 1),
mV 4 (cI 0)] [2,3])
(.seq (dr [dF (fA 5 2 none 2) [2],
dF (lD 6 none 5) [5],
dF (fA 7 2 none 3) [3],
dF (lD 8 none 7) [7],
dT (cL 9 lF [6,8]) [6,8],
dF (fA 10 0 none 2) [2],
dA (lD 11 none 10) [10] false [4] [],
dF (fA 12 0 none 3) [3],
dA (lD 13 none 12) [12] false [4] [],
dT (cL 14 oD [11,13]) [11,13],
dF (fA 15 1 none 2) [2],
dA (lD 16 none 15) [15] false [4,9] [],
dF (fA 17 1 none 3) [3],
dA (lD 18 none 17) [17] false [4,9] [],
dT (cL 19 lF [16,18]) [16,18],
dF (uO 20 (.bsl false none 3 (.int .i64 0) [(0,9),(1,14),(2,19)])) [9,14,19],
dT (cL 21 mF [20]) [20],
dF (mV 4 21) [21]] [4])
.ret))
def z7d:AFun:=⟨2,[.t 4],zi4,false,false⟩
def zi6:ACode:=.pr [0,3,4,5] (rg [mV 16 5,
bN 17 .sub 16 (cI 1),
mV 5 17] [0,3,4,5])
def zi7:ACode:=.pr [0,3,4,5] (.seq (.seq (rg [mV 14 5,
bN 15 .geq 14 (cI 0)] [0,3,4,5,15])
(.cond 15 .skip
(.exit 0)))
(.seq (.block 1 (.seq (rg [mV 18 0,
mV 19 5,
iA 20 (some 8) 18 19,
lD 21 (some 8) 20,
uO 6 (.alloc [.p (.str []),.p (.int .i64 0),.p (.int .i64 0),.p (.int .i64 0),.p (.str []),.p (.str []),.p (.str []),.p (.int .i64 0)]),
wO (.store (some 8) 6 21)] [0,3,4,5,6])
(.seq (rg [mV 22 4,
mV 23 5,
mV 24 3,
fA 25 0 none 6,
lD 26 none 25,
fA 27 1 none 6,
lD 28 none 27,
uO 29 (.build [.p (.str []),.p (.int .i64 0)] [(0,1,26),(1,1,28)]),
uO 30 (.look ((some 2),[2,0]) false (AB false) 24 29),
uO 31 (.un .not 30),
iA 32 none 22 23,
wO (.store none 32 31)] [0,3,4,5,6])
(.seq (rg [mV 33 4,
mV 34 5,
iA 35 none 33 34,
lD 36 none 35,
mV 37 36,
gD 38 37 true (.faddr 3 none 6),
gD 39 37 true (.load none 38),
gD 40 37 true (.bin .eql 39 (cI 7)),
uO 41 (.pick 37 40 cF)] [0,3,4,5,6,41])
(.cond 41 (rg [mV 42 3,
fA 43 6 none 6,
lD 44 none 43,
fA 45 7 none 6,
lD 46 none 45,
uO 47 (.build [.p (.str []),.p (.int .i64 0)] [(0,1,44),(1,1,46)]),
wO (.mupd ((some 2),[2,0]) 42 47 cT)] [0,3,4,5])
.skip)))))
zi6))
def zi8:ACode:=.pr [4] (.seq (rg [mV 48 4,
mV 2 48] [2])
.ret)
def zi5:ACode:=(.seq (rg [mV 2 (.c (.p (.sl none [])))] [0])
(.seq (rg [uO 7 (.mkmap),
mV 3 7] [0,3])
(.seq (rg [mV 8 0,
lN 9 8,
uO 10 (.mksl none (.bool false) 9 9),
mV 4 10] [0,3,4])
(.seq (.seq (rg [mV 11 0,
lN 12 11,
bN 13 .sub 12 (cI 1),
mV 5 13] [0,3,4,5])
(.block 0 (.loop (.scope zi7))))
zi8))))
def z7e:AFun:=⟨1,[.t 2],zi5,false,false⟩
def zi9:ACode:=(.seq (rg [uO 1 (.box 0),
mV 2 (cI 0)] [1])
(.seq (dr [dF (fA 5 3 none 1) [1],
dF (lD 6 none 5) [5],
dF (bN 7 .eql 6 (cI 7)) [6],
dF (fA 8 3 none 1) [1],
dF (lD 9 none 8) [8],
dF (bN 10 .eql 9 (cI 2)) [9],
dF (mV 3 7) [7],
dF (mV 4 10) [10]] [1,3,4])
(.seq (.block 0 (.seq (rg [fA 12 0 none 1,
lD 13 none 12,
cL 14 IC [13],
uO 15 (.un .not 14),
mV 11 15] [1,3,4,11])
(.cond 11 (.seq (rg [mV 2 (cI 5)] [2])
.ret)
(.seq (rg [fA 17 1 none 1,
lD 18 none 17,
cL 19 tB [18,(cI 1),(cI 1000000)],
mV 20 19,
gD 21 20 false (.faddr 2 none 1),
gD 22 20 false (.load none 21),
gD 23 20 false (.call QF [22]),
gD 24 20 false (.un .not 23),
uO 25 (.pick 20 cT 24),
mV 16 25] [1,3,4,16])
(.cond 16 (.seq (rg [mV 2 (cI 1)] [2])
.ret)
(.seq (rg [fA 27 3 none 1,
lD 28 none 27,
cL 29 tB [28,(cI 1),(cI 7)],
mV 26 29] [1,3,4,26])
(.cond 26 (.seq (rg [mV 2 (cI 4)] [2])
.ret)
(.seq (rg [mV 31 3,
uO 32 (.un .not 31),
mV 33 32,
gD 34 33 true (.faddr 4 none 1),
gD 35 33 true (.load none 34),
gD 36 33 true (.call IC [35]),
gD 37 33 true (.un .not 36),
uO 38 (.pick 33 37 cF),
mV 39 38,
gD 40 39 false (.mv 4),
gD 41 39 false (.mv 40),
gD 42 41 true (.faddr 5 none 1),
gD 43 41 true (.load none 42),
gD 44 41 true (.call IC [43]),
gD 45 41 true (.un .not 44),
gD 46 39 false (.pick 41 45 cF),
uO 47 (.pick 39 cT 46),
mV 48 47,
gD 49 48 false (.mv 3),
gD 50 48 false (.mv 49),
gD 51 50 true (.faddr 6 none 1),
gD 52 50 true (.load none 51),
gD 53 50 true (.call IC [52]),
gD 54 50 true (.un .not 53),
gD 55 48 false (.pick 50 54 cF),
uO 56 (.pick 48 cT 55),
mV 30 56] [1,3,4,30])
(.cond 30 (.seq (rg [mV 2 (cI 5)] [2])
.ret)
(.seq (rg [mV 58 3,
mV 59 58,
gD 60 59 true (.faddr 7 none 1),
gD 61 59 true (.load none 60),
gD 62 59 true (.call tB [61,(cI 1),(cI 1000000)]),
uO 63 (.pick 59 62 cF),
mV 57 63] [1,3,4,57])
(.cond 57 (.seq (rg [mV 2 (cI 1)] [2])
.ret)
(.seq (rg [mV 65 3,
mV 66 65,
gD 67 66 true (.faddr 4 none 1),
gD 68 66 true (.load none 67),
gD 69 66 true (.bin .neq 68 (cS [])),
uO 70 (.pick 66 69 cF),
mV 71 70,
gD 72 71 false (.mv 4),
gD 73 71 false (.un .not 72),
gD 74 71 false (.mv 73),
gD 75 74 true (.faddr 5 none 1),
gD 76 74 true (.load none 75),
gD 77 74 true (.bin .neq 76 (cS [])),
gD 78 71 false (.pick 74 77 cF),
uO 79 (.pick 71 cT 78),
mV 80 79,
gD 81 80 false (.mv 3),
gD 82 80 false (.un .not 81),
gD 83 80 false (.mv 82),
gD 84 83 true (.faddr 6 none 1),
gD 85 83 true (.load none 84),
gD 86 83 true (.bin .neq 85 (cS [])),
gD 87 83 true (.mv 86),
gD 88 87 false (.faddr 7 none 1),
gD 89 87 false (.load none 88),
gD 90 87 false (.bin .neq 89 (cI 0)),
gD 91 83 true (.pick 87 cT 90),
gD 92 80 false (.pick 83 91 cF),
uO 93 (.pick 80 cT 92),
mV 64 93] [64])
(.cond 64 (.seq (rg [mV 2 (cI 3)] [2])
.ret)
.skip)))))))))))))
(.seq (rg [mV 2 (cI 0)] [2])
.ret))))
def z7f:AFun:=⟨1,[.t 2],zi9,false,false⟩
def ziA:ACode:=(.seq (rg [uO 3 (.box 0),
mV 6 (cI 0)] [1,2,3])
(.seq (rg [lD 7 (some 2) 3,
cL 8 z2c [7],
mV 9 1,
cL 10 z2b [9],
mV 11 2,
cL 12 z2n [11],
uO 13 (.bsl false none 3 (.int .i64 0) [(0,8),(1,10),(2,12)]),
cL 14 OF [13],
mV 6 14] [6])
.ret))
def z7g:AFun:=⟨3,[.t 6],ziA,false,false⟩
def ziB:ACode:=(.seq (rg [mV 4 (cI 0)] [0,1])
(.seq (rg [mV 5 0,
uO 6 (.nilchk 5),
fA 7 0 (some 2) 6,
fA 8 0 none 7,
lD 9 none 8,
mV 10 1,
cL 11 BV [9,10],
mV 4 11] [4])
.ret))
def z7h:AFun:=⟨2,[.t 4],ziB,false,false⟩
end Go.Am
end
