/- Texts of the proof, laid together: CodesB, CodesC, CodesD. -/
import Derived.KernelRfl
import Derived.Test.YtahgfbhabpiplaaGreatDoorlawRE4
set_option linter.all false
section
/- The functions asv abstract code,and asv formulas over their values: printed by program out of the translation. -/
set_option linter.all false
set_option maxRecDepth 100000
namespace Go.Am
def mP:ACode:=.pr [0,3,4,5] (rg [mV 33 5,
bN 34 .add 33 (cI 1),
mV 5 34] [0,3,4,5])
def xT (C:Hd)(gl:GL)(e:En)(h:aA)(x:Esc)(K:KT):Sf C gl mP e h x K:=⟨_,by simp only[mP,↓wZ,AO.still];rfl⟩
theorem zbm {C gl e h x K}:NW C gl mP ⟨e,h,x⟩ K=(xT C gl e h x K).1:=(xT C gl e h x K).2
def PI:ACode:=.pr [0,3,4,5] (.seq (.seq (rg [mV 29 5,
mV 30 4,
lN 31 30,
bN 32 .lss 29 31] [0,3,4,5,32])
(.cond 32 .skip
(.exit 2)))
(.seq (.block 3 (.seq (dr [dF (mV 35 4) [4],
dF (mV 36 5) [5],
dF (iA 37 none 35 36) [35,36],
dF (lD 38 none 37) [37],
dF (mV 39 4) [4],
dF (mV 40 5) [5],
dF (bN 41 .sub 40 (cI 1)) [40],
dF (iA 42 none 39 41) [39,41],
dF (lD 43 none 42) [42],
dF (bN 44 .neq 38 43) [38,43]] [0,3,4,5,44])
(.cond 44 (.seq (rg [mV 45 0,
mV 46 3,
mV 47 4,
mV 48 5,
iA 49 none 47 48,
lD 50 none 49,
iA 51 none 45 46,
wO (.store none 51 50)] [0,3,4,5])
(rg [mV 52 3,
bN 53 .add 52 (cI 1),
mV 3 53] [0,3,4,5]))
.skip)))
mP))
def yT (C:Hd)(gl:GL)(e:En)(h:aA)(x:Esc)(K:KT):Sf C gl PI e h x K:=⟨_,by simp only[PI,↓wZ,AO.still];rfl⟩
theorem zbn {C gl e h x K}:NW C gl PI ⟨e,h,x⟩ K=(yT C gl e h x K).1:=(yT C gl e h x K).2
theorem zdX {C gl e h x K}:NW C gl (.loop PI) ⟨e,h,x⟩ K=EA C gl PI K [(0,bA e 0),(3,bA e 3),(4,bA e 4),(5,bA e 5)] h x:=YA
def nP:ACode:=.pr [0,3] (.seq (rg [mV 54 0,
mV 55 3,
uO 56 (.slice none 54 (some 55) none none),
wO (.clr none (.int .u64 0) 56)] [0,3])
(.seq (rg [mV 57 0,
mV 58 3,
uO 59 (.slice none 57 none (some 58) none),
mV 2 59] [2])
.ret))
def zT (C:Hd)(gl:GL)(e:En)(h:aA)(x:Esc)(K:KT):Sf C gl nP e h x K:=⟨_,by simp only[nP,↓wZ,AO.still];rfl⟩
theorem zbo {C gl e h x K}:NW C gl nP ⟨e,h,x⟩ K=(zT C gl e h x K).1:=(zT C gl e h x K).2
def oP:ACode:=.pr [0,3] (rg [mV 14 3,
bN 15 .add 14 (cI 1),
mV 3 15] [0,3])
def AT (C:Hd)(gl:GL)(e:En)(h:aA)(x:Esc)(K:KT):Sf C gl oP e h x K:=⟨_,by simp only[oP,↓wZ,AO.still];rfl⟩
theorem zbp {C gl e h x K}:NW C gl oP ⟨e,h,x⟩ K=(AT C gl e h x K).1:=(AT C gl e h x K).2
def QI:ACode:=.pr [0,3] (.seq (.seq (rg [mV 10 3,
mV 11 0,
lN 12 11,
bN 13 .lss 10 12] [0,3,13])
(.cond 13 .skip
(.exit 0)))
(.seq (.block 1 (.seq (dr [dF (mV 16 0) [0],
dF (mV 17 3) [3],
dF (iA 18 none 16 17) [16,17],
dF (lD 19 none 18) [18],
dF (mV 20 0) [0],
dF (mV 21 3) [3],
dF (bN 22 .sub 21 (cI 1)) [21],
dF (iA 23 none 20 22) [20,22],
dF (lD 24 none 23) [23],
dF (bN 25 .eql 19 24) [19,24]] [0,3,25])
(.cond 25 (.seq (rg [mV 26 0,
mV 27 3,
uO 28 (.slice none 26 (some 27) none none),
mV 4 28] [0,3,4])
(.seq (.seq (rg [mV 5 (cI 1)] [0,3,4,5])
(.block 2 (.loop PI)))
nP))
.skip)))
oP))
def BT (C:Hd)(gl:GL)(e:En)(h:aA)(x:Esc)(K:KT):Sf C gl QI e h x K:=⟨_,by simp only[QI,↓wZ,AO.still];rfl⟩
theorem zbq {C gl e h x K}:NW C gl QI ⟨e,h,x⟩ K=(BT C gl e h x K).1:=(BT C gl e h x K).2
theorem zdY {C gl e h x K}:NW C gl (.loop QI) ⟨e,h,x⟩ K=EA C gl QI K [(0,bA e 0),(3,bA e 3)] h x:=YA
def pP:ACode:=.pr [0] (.seq (rg [mV 60 0,
mV 2 60] [2])
.ret)
def CT (C:Hd)(gl:GL)(e:En)(h:aA)(x:Esc)(K:KT):Sf C gl pP e h x K:=⟨_,by simp only[pP,↓wZ,AO.still];rfl⟩
theorem zbr {C gl e h x K}:NW C gl pP ⟨e,h,x⟩ K=(CT C gl e h x K).1:=(CT C gl e h x K).2
def aW:ACode:=(.seq (rg [mV 2 (.c (.p (.sl none [])))] [0])
(.seq (.seq (rg [mV 6 0,
lN 7 6,
bN 8 .lss 7 (cI 2)] [0,8])
(.cond 8 (.seq (rg [mV 9 0,
mV 2 9] [2])
.ret)
.skip))
(.seq (.seq (rg [mV 3 (cI 1)] [0,3])
(.block 0 (.loop QI)))
pP)))
def iR:AFun:=⟨1,[.t 2],aW,true,false⟩
def WJ (C:Hd)(gl:GL)(e:En)(h:aA)(x:Esc)(K:KT):Sf C gl aW e h x K:=⟨_,by simp only[aW,↓wZ,AO.still];rfl⟩
theorem zbl {C gl v0 h x K}:NW C gl iR.body ⟨enter [v0],h,x⟩ K=(WJ C gl [(0,v0)] h x K).1:=(WJ C gl [(0,v0)] h x K).2
def nW:ACode:=(.seq (rg [mV 2 (.c (.p (.sl none [])))] [0])
(.seq (rg [mV 4 0,
cL 5 AN [4],
mV 3 5] [3])
(.seq (rg [mV 6 3,
cL 7 EK [6]] [3])
(.seq (rg [mV 8 3,
mV 2 8] [2])
.ret))))
def qR:AFun:=⟨1,[.t 2],nW,false,true⟩
def gN (C:Hd)(gl:GL)(e:En)(h:aA)(x:Esc)(K:KT):Sf C gl nW e h x K:=⟨_,by simp only[nW,↓wZ,AO.still];rfl⟩
theorem zbG {C gl v0 h x K}:NW C gl qR.body ⟨enter [v0],h,x⟩ K=(gN C gl [(0,v0)] h x K).1:=(gN C gl [(0,v0)] h x K).2
def oW:ACode:=(.seq (rg [uO 1 (.box 0),
mV 2 (.c (.nilf))] [1])
(.seq (rg [uO 3 (.mkfn TH [1]),
mV 2 3] [2])
.ret))
def rR:AFun:=⟨1,[.t 2],oW,false,false⟩
def iN (C:Hd)(gl:GL)(e:En)(h:aA)(x:Esc)(K:KT):Sf C gl oW e h x K:=⟨_,by simp only[oW,↓wZ,AO.still];rfl⟩
theorem zbH {C gl v0 h x K}:NW C gl rR.body ⟨enter [v0],h,x⟩ K=(iN C gl [(0,v0)] h x K).1:=(iN C gl [(0,v0)] h x K).2
def NI:ACode:=.pr [0,13,14,15] (.seq (rg [bN 16 .lss 15 14] [0,13,14,15,16])
(.seq (.cond 16 .skip
(.exit 1))
(.seq (.block 2 (.seq (rg [iA 17 none 13 15,
lD 18 none 17,
mV 4 18] [0,4,13,14,15])
(.block 3 (.seq (rg [mV 20 4,
cL 21 sK [20],
uO 22 (.un .not 21),
mV 19 22] [0,4,13,14,15,19])
(.cond 19 (.seq (rg [mV 2 (cI 3)] [2])
.ret)
(.seq (rg [mV 24 4,
uO 25 (.lens 24),
bN 26 .gtr 25 (cI 64),
mV 23 26] [0,4,13,14,15,23])
(.cond 23 (.seq (rg [mV 2 (cI 2)] [2])
.ret)
(.seq (rg [mV 28 4,
uO 29 (.lens 28),
mV 30 0,
iA 31 none 30 (cI 0),
lD 32 none 31,
uO 33 (.lens 32),
bN 34 .neq 29 33,
mV 27 34] [0,13,14,15,27])
(.cond 27 (.seq (rg [mV 2 (cI 3)] [2])
.ret)
.skip)))))))))
(rg [bN 35 .add 15 (cI 1),
mV 15 35] [0,13,14,15]))))
def tT (C:Hd)(gl:GL)(e:En)(h:aA)(x:Esc)(K:KT):Sf C gl NI e h x K:=⟨_,by simp only[NI,↓wZ,AO.still];rfl⟩
theorem zbc {C gl e h x K}:NW C gl NI ⟨e,h,x⟩ K=(tT C gl e h x K).1:=(tT C gl e h x K).2
theorem zdV {C gl e h x K}:NW C gl (.loop NI) ⟨e,h,x⟩ K=EA C gl NI K [(0,bA e 0),(13,bA e 13),(14,bA e 14),(15,bA e 15)] h x:=YA
def kP:ACode:=.pr [] (.seq (rg [mV 2 (cI 0)] [2])
.ret)
def uT (C:Hd)(gl:GL)(e:En)(h:aA)(x:Esc)(K:KT):Sf C gl kP e h x K:=⟨_,by simp only[kP,↓wZ,AO.still];rfl⟩
theorem zbd {C gl e h x K}:NW C gl kP ⟨e,h,x⟩ K=(uT C gl e h x K).1:=(uT C gl e h x K).2
def UV:ACode:=(.seq (rg [mV 2 (cI 0)] [0])
(.seq (.block 0 (.seq (rg [mV 6 0,
lN 7 6,
bN 8 .eql 7 (cI 0),
mV 5 8] [0,5])
(.cond 5 (.seq (rg [mV 2 (cI 8)] [2])
.ret)
(.seq (rg [mV 10 0,
lN 11 10,
bN 12 .gtr 11 (cI 100),
mV 9 12] [0,9])
(.cond 9 (.seq (rg [mV 2 (cI 2)] [2])
.ret)
.skip)))))
(.seq (.seq (rg [mV 13 0,
lN 14 13,
mV 15 (cI 0)] [0,13,14,15])
(.block 1 (.loop NI)))
kP)))
def aR:AFun:=⟨1,[.t 2],UV,false,false⟩
def EH (C:Hd)(gl:GL)(e:En)(h:aA)(x:Esc)(K:KT):Sf C gl UV e h x K:=⟨_,by simp only[UV,↓wZ,AO.still];rfl⟩
theorem zbb {C gl v0 h x K}:NW C gl aR.body ⟨enter [v0],h,x⟩ K=(EH C gl [(0,v0)] h x K).1:=(EH C gl [(0,v0)] h x K).2
def JV:ACode:=(.seq (rg [mV 6 (cI 0)] [0,1,2])
(.seq (.seq (rg [mV 7 0,
cL 8 MD [7,(cI 12)]] [0,1,2,8])
(.cond 8 (.seq (rg [mV 9 0,
mV 10 1,
bN 11 .sub 10 (cI 1),
mV 12 2,
bN 13 .add 12 (cI 1),
mV 14 1,
mV 15 2,
uO 16 (.bsl false none 6 (.int .i64 0) [(0,11),(1,13),(2,14),(3,15),(4,(cI (-1099511627776))),(5,(cI 1099511627776))]),
cL 17 ND [9,16],
mV 6 17] [6])
.ret)
.skip))
(.seq (rg [mV 18 0,
mV 19 1,
mV 20 2,
cL 21 UC [18,19,20],
mV 6 21] [6])
.ret)))
def PQ:AFun:=⟨3,[.t 6],JV,false,false⟩
def VJ (C:Hd)(gl:GL)(e:En)(h:aA)(x:Esc)(K:KT):Sf C gl JV e h x K:=⟨_,by simp only[JV,↓wZ,AO.still];rfl⟩
theorem zaH {C gl v0 v1 v2 h x K}:NW C gl PQ.body ⟨enter [v0,v1,v2],h,x⟩ K=(VJ C gl [(0,v0),(1,v1),(2,v2)] h x K).1:=(VJ C gl [(0,v0),(1,v1),(2,v2)] h x K).2
def qV:ACode:=(.seq (rg [mV 2 cF] [0])
(.seq (rg [mV 3 0,
cL 4 DB [3,(cI 3),(cI 5)],
uO 5 (.un .not 4),
mV 2 5] [2])
.ret))
def LL:AFun:=⟨1,[.t 2],qV,false,false⟩
def tM (C:Hd)(gl:GL)(e:En)(h:aA)(x:Esc)(K:KT):Sf C gl qV e h x K:=⟨_,by simp only[qV,↓wZ,AO.still];rfl⟩
theorem z9O {C gl v0 h x K}:NW C gl LL.body ⟨enter [v0],h,x⟩ K=(tM C gl [(0,v0)] h x K).1:=(tM C gl [(0,v0)] h x K).2
def VV:ACode:=(.seq (rg [mV 6 cF] [0,1,2])
(.seq (rg [mV 7 1,
mV 8 0,
bN 9 .leq 7 8,
mV 10 9,
gD 11 10 true (.mv 0),
gD 12 10 true (.mv 2),
gD 13 10 true (.bin .leq 11 12),
uO 14 (.pick 10 13 cF),
mV 6 14] [6])
.ret))
def bR:AFun:=⟨3,[.t 6],VV,false,false⟩
def QM (C:Hd)(gl:GL)(e:En)(h:aA)(x:Esc)(K:KT):Sf C gl VV e h x K:=⟨_,by simp only[VV,↓wZ,AO.still];rfl⟩
theorem zbe {C gl v0 v1 v2 h x K}:NW C gl bR.body ⟨enter [v0,v1,v2],h,x⟩ K=(QM C gl [(0,v0),(1,v1),(2,v2)] h x K).1:=(QM C gl [(0,v0),(1,v1),(2,v2)] h x K).2
def XV:ACode:=(.seq (rg [mV 2 cF] [0])
(.seq (rg [mV 3 0,
cL 4 vE [3,(cI 3),(cI 5)],
mV 2 4] [2])
.ret))
def dR:AFun:=⟨1,[.t 2],XV,false,false⟩
def SM (C:Hd)(gl:GL)(e:En)(h:aA)(x:Esc)(K:KT):Sf C gl XV e h x K:=⟨_,by simp only[XV,↓wZ,AO.still];rfl⟩
theorem zbi {C gl v0 h x K}:NW C gl dR.body ⟨enter [v0],h,x⟩ K=(SM C gl [(0,v0)] h x K).1:=(SM C gl [(0,v0)] h x K).2
def qP:ACode:=.pr [0,1,5,6] (rg [mV 20 6,
bN 21 .add 20 (cI 1),
mV 6 21] [0,1,5,6])
def DT (C:Hd)(gl:GL)(e:En)(h:aA)(x:Esc)(K:KT):Sf C gl qP e h x K:=⟨_,by simp only[qP,↓wZ,AO.still];rfl⟩
theorem zbw {C gl e h x K}:NW C gl qP ⟨e,h,x⟩ K=(DT C gl e h x K).1:=(DT C gl e h x K).2
def RI:ACode:=.pr [0,1,5,6] (.seq (.seq (rg [mV 16 6,
mV 17 0,
lN 18 17,
bN 19 .lss 16 18] [0,1,5,6,19])
(.cond 19 .skip
(.exit 0)))
(.seq (.block 1 (.seq (rg [mV 22 0,
mV 23 6,
iA 24 (some 2) 22 23,
lD 25 (some 2) 24,
uO 7 (.alloc [.p (.int .i64 0),.sl0 none]),
wO (.store (some 2) 7 25)] [0,1,5,6,7])
(.seq (rg [mV 26 1,
lD 27 (some 2) 7,
uO 28 (.callv 26 [27]),
uO 29 (.un .not 28)] [0,1,5,6,7,29])
(.cond 29 (.seq (rg [mV 30 0,
mV 31 5,
lD 32 (some 2) 7,
iA 33 (some 2) 30 31,
wO (.store (some 2) 33 32)] [0,1,5,6])
(rg [mV 34 5,
bN 35 .add 34 (cI 1),
mV 5 35] [0,1,5,6]))
.skip))))
qP))
def ET (C:Hd)(gl:GL)(e:En)(h:aA)(x:Esc)(K:KT):Sf C gl RI e h x K:=⟨_,by simp only[RI,↓wZ,AO.still];rfl⟩
theorem zbx {C gl e h x K}:NW C gl RI ⟨e,h,x⟩ K=(ET C gl e h x K).1:=(ET C gl e h x K).2
theorem zdZ {C gl e h x K}:NW C gl (.loop (.scope RI)) ⟨e,h,x⟩ K=EA C gl (.scope RI) K [(0,bA e 0),(1,bA e 1),(5,bA e 5),(6,bA e 6)] h x:=vD
def rP:ACode:=.pr [0,5] (.seq (rg [mV 36 0,
mV 37 5,
uO 38 (.slice (some 2) 36 (some 37) none none),
wO (.clr (some 2) (.agg [.int .i64 0,.sl none []]) 38)] [0,5])
(.seq (rg [mV 39 0,
mV 40 5,
uO 41 (.slice (some 2) 39 none (some 40) none),
mV 4 41] [4])
.ret))
def FT (C:Hd)(gl:GL)(e:En)(h:aA)(x:Esc)(K:KT):Sf C gl rP e h x K:=⟨_,by simp only[rP,↓wZ,AO.still];rfl⟩
theorem zby {C gl e h x K}:NW C gl rP ⟨e,h,x⟩ K=(FT C gl e h x K).1:=(FT C gl e h x K).2
def eW:ACode:=(.seq (rg [mV 4 (.c (.p (.sl (some 2) [])))] [0,1])
(.seq (rg [mV 8 0,
mV 9 1,
cL 10 CK [8,9],
mV 5 10] [0,1,5])
(.seq (.seq (rg [mV 11 5,
bN 12 .eql 11 (cI (-1))] [0,1,5,12])
(.cond 12 (.seq (rg [mV 13 0,
mV 4 13] [4])
.ret)
.skip))
(.seq (.seq (rg [mV 14 5,
bN 15 .add 14 (cI 1),
mV 6 15] [0,1,5,6])
(.block 0 (.loop (.scope RI))))
rP))))
def kR:AFun:=⟨2,[.t 4],eW,true,false⟩
def YM (C:Hd)(gl:GL)(e:En)(h:aA)(x:Esc)(K:KT):Sf C gl eW e h x K:=⟨_,by simp only[eW,↓wZ,AO.still];rfl⟩
theorem zbv {C gl v0 v1 h x K}:NW C gl kR.body ⟨enter [v0,v1],h,x⟩ K=(YM C gl [(0,v0),(1,v1)] h x K).1:=(YM C gl [(0,v0),(1,v1)] h x K).2
def OV:ACode:=(.seq (rg [uO 2 (.box 0),
mV 3 cF] [1,2])
(.seq (rg [lD 4 none 1,
lD 5 (some 2) 2,
cL 6 tK [4,5],
bN 7 .neq 6 (cI 0),
mV 3 7] [3])
.ret))
def UQ:AFun:=⟨2,[.t 3],OV,false,false⟩
def LM (C:Hd)(gl:GL)(e:En)(h:aA)(x:Esc)(K:KT):Sf C gl OV e h x K:=⟨_,by simp only[OV,↓wZ,AO.still];rfl⟩
theorem zaQ {C gl v0 v1 h x K}:NW C gl UQ.body ⟨enter [v0,v1],h,x⟩ K=(LM C gl [(0,v0),(1,v1)] h x K).1:=(LM C gl [(0,v0),(1,v1)] h x K).2
def MI:ACode:=.pr [3,5,6] (.seq (.seq (rg [mV 48 6,
mV 49 5,
lN 50 49,
bN 51 .lss 48 50] [3,5,6,51])
(.cond 51 .skip
(.exit 1)))
(.seq (.block 2 (.seq (dr [dF (mV 54 5) [5],
dF (mV 55 6) [6],
dF (iA 56 none 54 55) [54,55],
dF (lD 57 none 56) [56],
dF (mV 58 5) [5],
dF (mV 59 6) [6],
dF (bN 60 .sub 59 (cI 1)) [59],
dF (iA 61 none 58 60) [58,60],
dF (lD 62 none 61) [61],
dF (bN 63 .leq 57 62) [57,62]] [3,5,6,63])
(.cond 63 (.seq (rg [mV 4 (cI 7)] [4])
.ret)
.skip)))
(rg [mV 52 6,
bN 53 .add 52 (cI 1),
mV 6 53] [3,5,6])))
def oZ (C:Hd)(gl:GL)(v3 v5 v6:AV)(h:aA)(x:Esc)(K:KT):Prop:=
 pK (YB v5) fun t1=>
 pK (qA .lss v6 t1) fun t2=>
 NA t2 (pK (vB none v5 v6 h) fun t3=>
 pK (BA none t3 h) fun t4=>
 pK (qA .sub v6 (AI 1)) fun t5=>
 pK (vB none v5 t5 h) fun t6=>
 pK (BA none t6 h) fun t7=>
 pK (qA .leq t4 t7) fun t8=>
 NA t8 (K .ret ⟨[(4,(AI 7))],h,x⟩)
 (pK (qA .add v6 (AI 1)) fun t9=>
 K .normal ⟨[(3,v3),(5,v5),(6,t9)],h,x⟩))
 (K (.exit 1) ⟨[(3,v3),(5,v5),(6,v6),(51,t2)],h,x⟩)
theorem zaX {C gl e h x K}:NW C gl MI ⟨e,h,x⟩ K=oZ C gl (bA e 3) (bA e 5) (bA e 6) h x K:=by kernel_rfl
theorem zdU {C gl e h x K}:NW C gl (.loop MI) ⟨e,h,x⟩ K=EA C gl MI K [(3,bA e 3),(5,bA e 5),(6,bA e 6)] h x:=YA
def iP:ACode:=.pr [3,5] (.seq (.seq (rg [fA 64 0 none 3,
lD 65 none 64,
bN 66 .eql 65 (cI 5),
mV 67 66,
gD 68 67 true (.mv 5),
gD 69 67 true (.faddr 1 none 3),
gD 70 67 true (.load none 69),
gD 71 67 true (.iaddr none 70 (cI 0)),
gD 72 67 true (.load none 71),
gD 73 67 true (.call cE [68,72]),
uO 74 (.pick 67 73 cF)] [74])
(.cond 74 (.seq (rg [mV 4 (cI 6)] [4])
.ret)
.skip))
(.seq (rg [mV 4 (cI 0)] [4])
.ret))
def pZ (C:Hd)(gl:GL)(v3 v5:AV)(h:aA)(x:Esc)(K:KT):Prop:=
 pK (RA 0 none v3) fun t1=>
 pK (BA none t1 h) fun t2=>
 pK (qA .eql t2 (AI 5)) fun t3=>
 gM t3 true v5 h fun t4 h5 y6=>
 gP t3 true (RA 1 none v3) h5 fun t7 h8 y9=>
 gP t3 true (BA none t7 h8) h8 fun t10 h11 y12=>
 gP t3 true (vB none t10 (AI 0) h11) h11 fun t13 h14 y15=>
 gP t3 true (BA none t13 h14) h14 fun t16 h17 y18=>
 gV t3 true h17 (C cE [t4,t16] h17) fun t19 h20 y21=>
 pK (TF t3 t19 (AB false)) fun t22=>
 NA t22 (K .ret ⟨[(4,(AI 6))],h20,(y21++(y18++(y15++(y12++(y9++(y6++x))))))⟩)
 (K .ret ⟨[(4,(AI 0))],h20,(y21++(y18++(y15++(y12++(y9++(y6++x))))))⟩)
theorem zaY {C gl e h x K}:NW C gl iP ⟨e,h,x⟩ K=pZ C gl (bA e 3) (bA e 5) h x K:=by kernel_rfl
def TX (q1 q2:ACode):ACode:=.pr [3,5] (.seq (.seq (rg [mV 6 (cI 1)] [3,5,6])
(.block 1 (.loop q1)))
q2)
def jP:ACode:=TX MI iP
def DH (C:Hd)(gl:GL)(q1 q2:ACode)(v3 v5:AV)(h:aA)(x:Esc)(K:KT):Prop:=
 NW C gl (.loop q1) ⟨[(3,v3),(5,v5),(6,(AI 1))],h,x⟩ (eC 1 (TD C gl q2 K))
theorem z4W {C gl q1 q2 e h x K}:NW C gl (TX q1 q2) ⟨e,h,x⟩ K=DH C gl q1 q2 (bA e 3) (bA e 5) h x K:=by kernel_rfl
theorem zaZ {C gl e h x K}:NW C gl jP ⟨e,h,x⟩ K=DH C gl MI iP (bA e 3) (bA e 5) h x K:=z4W
def SX (q3:ACode):ACode:=(.seq (rg [uO 2 (.box 0),
uO 3 (.box 1),
mV 4 (cI 0)] [2,3])
(.seq (.block 0 (.seq (rg [lD 8 none 2,
cL 9 vE [8,(cI 1),(cI 100)],
uO 10 (.un .not 9),
mV 7 10] [2,3,7])
(.cond 7 (.seq (rg [mV 4 (cI 1)] [4])
.ret)
(.seq (rg [fA 12 0 none 3,
lD 13 none 12,
cL 14 vE [13,(cI 1),(cI 6)],
uO 15 (.un .not 14),
mV 11 15] [2,3,11])
(.cond 11 (.seq (rg [mV 4 (cI 4)] [4])
.ret)
(.seq (rg [fA 17 1 none 3,
lD 18 none 17,
lN 19 18,
bN 20 .eql 19 (cI 0),
mV 16 20] [2,3,16])
(.cond 16 (.seq (rg [mV 4 (cI 8)] [4])
.ret)
(.seq (rg [fA 22 1 none 3,
lD 23 none 22,
lN 24 23,
bN 25 .gtr 24 (cI 6),
mV 21 25] [2,3,21])
(.cond 21 (.seq (rg [mV 4 (cI 2)] [4])
.ret)
(.seq (rg [fA 27 1 none 3,
lD 28 none 27,
uO 29 (.mkfn MG [2]),
cL 30 KF [28,29],
mV 26 30] [3,26])
(.cond 26 (.seq (rg [mV 4 (cI 1)] [4])
.ret)
(.seq (dr [dF (fA 32 0 none 3) [3],
dF (lD 33 none 32) [32],
dT (cL 34 PH [33]) [33],
dF (fA 35 1 none 3) [3],
dA (lD 36 none 35) [35] false [2] [],
dF (lN 37 36) [36],
dF (bN 38 .gtr 37 (cI 1)) [37],
dF (uO 39 (.eqa [] true 34 38)) [34,38],
dF (mV 31 39) [39]] [3,31])
(.cond 31 (.seq (rg [mV 4 (cI 3)] [4])
.ret)
.skip)))))))))))))
(.seq (rg [fA 40 1 none 3,
lD 41 none 40,
mV 5 41] [3,5])
(.seq (.seq (rg [fA 42 0 none 3,
lD 43 none 42,
bN 44 .eql 43 (cI 5)] [3,5,44])
(.cond 44 (rg [fA 45 1 none 3,
lD 46 none 45,
uO 47 (.slice none 46 (some (cI 1)) none none),
mV 5 47] [3,5])
.skip))
q3))))
def YQ:AFun:=⟨2,[.t 4],SX jP,false,false⟩
def VE (C:Hd)(gl:GL)(q3:ACode)(v0 v1:AV)(h:aA)(x:Esc)(K:KT):Prop:=
 wK (SF v0 h) fun t1 h2 y3=>
 wK (SF v1 h2) fun t4 h5 y6=>
 pK (BA none t1 h5) fun t7=>
 C vE [t7,(AI 1),(AI 100)] h5 fun t8 h9 y10=>
 pK (oUn .not t8) fun t11=>
 NA t11 (K .ret ⟨[(4,(AI 1))],h9,(y10++(y6++(y3++x)))⟩)
 (pK (RA 0 none t4) fun t12=>
 pK (BA none t12 h9) fun t13=>
 C vE [t13,(AI 1),(AI 6)] h9 fun t14 h15 y16=>
 pK (oUn .not t14) fun t17=>
 NA t17 (K .ret ⟨[(4,(AI 4))],h15,(y16++(y10++(y6++(y3++x))))⟩)
 (pK (RA 1 none t4) fun t18=>
 pK (BA none t18 h15) fun t19=>
 pK (YB t19) fun t20=>
 pK (qA .eql t20 (AI 0)) fun t21=>
 NA t21 (K .ret ⟨[(4,(AI 8))],h15,(y16++(y10++(y6++(y3++x))))⟩)
 (pK (RA 1 none t4) fun t22=>
 pK (BA none t22 h15) fun t23=>
 pK (YB t23) fun t24=>
 pK (qA .gtr t24 (AI 6)) fun t25=>
 NA t25 (K .ret ⟨[(4,(AI 2))],h15,(y16++(y10++(y6++(y3++x))))⟩)
 (pK (RA 1 none t4) fun t26=>
 pK (BA none t26 h15) fun t27=>
 C KF [t27,(.fn MG [t1])] h15 fun t28 h29 y30=>
 NA t28 (K .ret ⟨[(4,(AI 1))],h29,(y30++(y16++(y10++(y6++(y3++x)))))⟩)
 (pK (RA 0 none t4) fun t31=>
 pK (BA none t31 h29) fun t32=>
 KD C PH [t32] h29 fun t33 h34 y35=>
 pK (RA 1 none t4) fun t36=>
 pK (BA none t36 h34) fun t37=>
 (pK (BA none t36 h29) fun v=>(fun u (g1:aA) (y1:Esc)=>u=t37∧g1=h29∧y1=[]) v h29 [])∧(pK (YB t37) fun t38=>
 pK (qA .gtr t38 (AI 1)) fun t39=>
 pK (ZG [] true t33 t39) fun t40=>
 NA t40 (K .ret ⟨[(4,(AI 3))],h34,(y35++(y30++(y16++(y10++(y6++(y3++x))))))⟩)
 (pK (RA 1 none t4) fun t41=>
 pK (BA none t41 h34) fun t42=>
 pK (RA 0 none t4) fun t43=>
 pK (BA none t43 h34) fun t44=>
 pK (qA .eql t44 (AI 5)) fun t45=>
 NA t45 (pK (RA 1 none t4) fun t46=>
 pK (BA none t46 h34) fun t47=>
 pK (OD none t47 (some (AI 1)) none none h34) fun t48=>
 NW C gl q3 ⟨[(3,t4),(5,t48)],h34,(y35++(y30++(y16++(y10++(y6++(y3++x))))))⟩ K)
 (NW C gl q3 ⟨[(3,t4),(5,t42),(44,t45)],h34,(y35++(y30++(y16++(y10++(y6++(y3++x))))))⟩ K))))))))
theorem z4V {C gl q3 v0 v1 h x K}:NW C gl (SX q3) ⟨enter [v0,v1],h,x⟩ K=VE C gl q3 v0 v1 h x K:=by kernel_rfl
theorem zaW {C gl v0 v1 h x K}:NW C gl YQ.body ⟨enter [v0,v1],h,x⟩ K=VE C gl jP v0 v1 h x K:=z4V
def WI:ACode:=.pr [0,1,7,8] (.seq (rg [bN 9 .lss 8 7] [0,1,7,8,9])
(.seq (.cond 9 .skip
(.exit 0))
(.seq (.block 1 (.seq (rg [mV 10 8,
mV 5 10] [0,1,5,7,8])
(.seq (rg [mV 11 1,
mV 12 0,
mV 13 5,
iA 14 none 12 13,
lD 15 none 14,
bN 16 .eql 11 15] [0,1,5,7,8,16])
(.cond 16 (.seq (rg [mV 17 5,
mV 4 17] [4])
.ret)
.skip))))
(rg [bN 18 .add 8 (cI 1),
mV 8 18] [0,1,7,8]))))
def PT (C:Hd)(gl:GL)(e:En)(h:aA)(x:Esc)(K:KT):Sf C gl WI e h x K:=⟨_,by simp only[WI,↓wZ,AO.still];rfl⟩
theorem zbC {C gl e h x K}:NW C gl WI ⟨e,h,x⟩ K=(PT C gl e h x K).1:=(PT C gl e h x K).2
theorem zef {C gl e h x K}:NW C gl (.loop WI) ⟨e,h,x⟩ K=EA C gl WI K [(0,bA e 0),(1,bA e 1),(7,bA e 7),(8,bA e 8)] h x:=YA
def wP:ACode:=.pr [] (.seq (rg [mV 4 (cI (-1))] [4])
.ret)
def QT (C:Hd)(gl:GL)(e:En)(h:aA)(x:Esc)(K:KT):Sf C gl wP e h x K:=⟨_,by simp only[wP,↓wZ,AO.still];rfl⟩
theorem zbD {C gl e h x K}:NW C gl wP ⟨e,h,x⟩ K=(QT C gl e h x K).1:=(QT C gl e h x K).2
def kW:ACode:=(.seq (rg [mV 4 (cI 0)] [0,1])
(.seq (.seq (rg [mV 6 0,
lN 7 6,
mV 8 (cI 0)] [0,1,7,8])
(.block 0 (.loop WI)))
wP))
def TL:AFun:=⟨2,[.t 4],kW,true,false⟩
def dN (C:Hd)(gl:GL)(e:En)(h:aA)(x:Esc)(K:KT):Sf C gl kW e h x K:=⟨_,by simp only[kW,↓wZ,AO.still];rfl⟩
theorem zbB {C gl v0 v1 h x K}:NW C gl TL.body ⟨enter [v0,v1],h,x⟩ K=(dN C gl [(0,v0),(1,v1)] h x K).1:=(dN C gl [(0,v0),(1,v1)] h x K).2
def vI:ACode:=.pr [0,14,15,16] (.seq (rg [bN 17 .lss 16 15] [0,14,15,16,17])
(.seq (.cond 17 .skip
(.exit 0))
(.seq (.block 1 (.seq (rg [iA 18 (some 2) 14 16,
lD 19 (some 2) 18,
uO 7 (.alloc [.p (.int .i64 0),.sl0 none]),
wO (.store (some 2) 7 19)] [0,7,14,15,16])
(.seq (rg [mV 20 0,
lN 21 20,
lD 22 (some 2) 7,
cL 23 KH [21,22],
mV 8 23] [0,8,14,15,16])
(.seq (rg [mV 24 8,
bN 25 .neq 24 (cI 0)] [0,8,14,15,16,25])
(.cond 25 (.seq (rg [mV 26 8,
mV 4 26] [4])
.ret)
.skip)))))
(rg [bN 27 .add 16 (cI 1),
mV 16 27] [0,14,15,16]))))
def CS (C:Hd)(gl:GL)(e:En)(h:aA)(x:Esc)(K:KT):Sf C gl vI e h x K:=⟨_,by simp only[vI,↓wZ,AO.still];rfl⟩
theorem z9M {C gl e h x K}:NW C gl vI ⟨e,h,x⟩ K=(CS C gl e h x K).1:=(CS C gl e h x K).2
theorem zdC {C gl e h x K}:NW C gl (.loop (.scope vI)) ⟨e,h,x⟩ K=EA C gl (.scope vI) K [(0,bA e 0),(14,bA e 14),(15,bA e 15),(16,bA e 16)] h x:=vD
def GO:ACode:=.pr [] (.seq (rg [mV 4 (cI 0)] [4])
.ret)
def DS (C:Hd)(gl:GL)(e:En)(h:aA)(x:Esc)(K:KT):Sf C gl GO e h x K:=⟨_,by simp only[GO,↓wZ,AO.still];rfl⟩
theorem z9N {C gl e h x K}:NW C gl GO ⟨e,h,x⟩ K=(DS C gl e h x K).1:=(DS C gl e h x K).2
def pV:ACode:=(.seq (rg [mV 4 (cI 0)] [0,1])
(.seq (.seq (rg [mV 9 0,
cL 10 DG [9],
mV 5 10] [0,1,5])
(.seq (rg [mV 11 5,
bN 12 .neq 11 (cI 0)] [0,1,5,12])
(.cond 12 (.seq (rg [mV 13 5,
mV 4 13] [4])
.ret)
.skip)))
(.seq (.seq (rg [mV 14 1,
lN 15 14,
mV 16 (cI 0)] [0,14,15,16])
(.block 0 (.loop (.scope vI))))
GO)))
def KL:AFun:=⟨2,[.t 4],pV,false,false⟩
def QJ (C:Hd)(gl:GL)(e:En)(h:aA)(x:Esc)(K:KT):Sf C gl pV e h x K:=⟨_,by simp only[pV,↓wZ,AO.still];rfl⟩
theorem z9L {C gl v0 v1 h x K}:NW C gl KL.body ⟨enter [v0,v1],h,x⟩ K=(QJ C gl [(0,v0),(1,v1)] h x K).1:=(QJ C gl [(0,v0),(1,v1)] h x K).2
def xI:ACode:=.pr [3,5,6,8,9,10,15,16] (.seq (rg [bN 17 .lss 16 15] [3,5,6,8,9,10,15,16,17])
(.seq (.cond 17 .skip
(.exit 2))
(.seq (.block 3 (.seq (rg [mV 18 16,
mV 7 18] [3,5,6,7,8,9,10,15,16])
(rg [mV 19 6,
mV 20 5,
mV 21 7,
uO 22 (.idxs 20 21),
bN 23 .sub 22 (.c (.p (.int .u8 48))),
uO 24 (.conv (.i .u64) 23),
mV 25 7,
bN 26 .shl 24 25,
bN 27 .or 19 26,
mV 6 27] [3,5,6,8,9,10,15,16])))
(rg [bN 28 .add 16 (cI 1),
mV 16 28] [3,5,6,8,9,10,15,16]))))
def GS (C:Hd)(gl:GL)(e:En)(h:aA)(x:Esc)(K:KT):Sf C gl xI e h x K:=⟨_,by simp only[xI,↓wZ,AO.still];rfl⟩
theorem z9V {C gl e h x K}:NW C gl xI ⟨e,h,x⟩ K=(GS C gl e h x K).1:=(GS C gl e h x K).2
theorem zdE {C gl e h x K}:NW C gl (.loop xI) ⟨e,h,x⟩ K=EA C gl xI K [(3,bA e 3),(5,bA e 5),(6,bA e 6),(8,bA e 8),(9,bA e 9),(10,bA e 10),(15,bA e 15),(16,bA e 16)] h x:=YA
def JO:ACode:=.pr [3,6,8,9,10] (rg [mV 29 3,
mV 30 6,
uO 31 (.bsl false none 1 (.int .u64 0) [(0,30)]),
uO 32 (.app none 29 31),
mV 3 32] [3,8,9,10])
def IS (C:Hd)(gl:GL)(e:En)(h:aA)(x:Esc)(K:KT):Sf C gl JO e h x K:=⟨_,by simp only[JO,↓wZ,AO.still];rfl⟩
theorem z9W {C gl e h x K}:NW C gl JO ⟨e,h,x⟩ K=(IS C gl e h x K).1:=(IS C gl e h x K).2
def KO:ACode:=.pr [3,8,9,10] (rg [bN 33 .add 10 (cI 1),
mV 10 33] [3,8,9,10])
def JS (C:Hd)(gl:GL)(e:En)(h:aA)(x:Esc)(K:KT):Sf C gl KO e h x K:=⟨_,by simp only[KO,↓wZ,AO.still];rfl⟩
theorem z9X {C gl e h x K}:NW C gl KO ⟨e,h,x⟩ K=(JS C gl e h x K).1:=(JS C gl e h x K).2
def yI:ACode:=.pr [3,8,9,10] (.seq (rg [bN 11 .lss 10 9] [3,8,9,10,11])
(.seq (.cond 11 .skip
(.exit 0))
(.seq (.block 1 (.seq (rg [iA 12 none 8 10,
lD 13 none 12,
mV 5 13] [3,5,8,9,10])
(.seq (rg [mV 6 (.c (.p (.int .u64 0)))] [3,5,6,8,9,10])
(.seq (.seq (rg [mV 14 5,
uO 15 (.lens 14),
mV 16 (cI 0)] [3,5,6,8,9,10,15,16])
(.block 2 (.loop xI)))
JO))))
KO)))
def KS (C:Hd)(gl:GL)(e:En)(h:aA)(x:Esc)(K:KT):Sf C gl yI e h x K:=⟨_,by simp only[yI,↓wZ,AO.still];rfl⟩
theorem z9Y {C gl e h x K}:NW C gl yI ⟨e,h,x⟩ K=(KS C gl e h x K).1:=(KS C gl e h x K).2
theorem zdF {C gl e h x K}:NW C gl (.loop (.scope yI)) ⟨e,h,x⟩ K=EA C gl (.scope yI) K [(3,bA e 3),(8,bA e 8),(9,bA e 9),(10,bA e 10)] h x:=vD
def LO:ACode:=.pr [3] (.seq (rg [mV 34 3,
mV 2 34] [2])
.ret)
def LS (C:Hd)(gl:GL)(e:En)(h:aA)(x:Esc)(K:KT):Sf C gl LO e h x K:=⟨_,by simp only[LO,↓wZ,AO.still];rfl⟩
theorem z9Z {C gl e h x K}:NW C gl LO ⟨e,h,x⟩ K=(LS C gl e h x K).1:=(LS C gl e h x K).2
def uV:ACode:=(.seq (rg [mV 2 (.c (.p (.sl none [])))] [0])
(.seq (rg [uO 3 (.new0 none)] [0,3])
(.seq (.seq (rg [mV 8 0,
lN 9 8,
mV 10 (cI 0)] [3,8,9,10])
(.block 0 (.loop (.scope yI))))
LO)))
def ML:AFun:=⟨1,[.t 2],uV,false,true⟩
def wM (C:Hd)(gl:GL)(e:En)(h:aA)(x:Esc)(K:KT):Sf C gl uV e h x K:=⟨_,by simp only[uV,↓wZ,AO.still];rfl⟩
theorem z9U {C gl v0 h x K}:NW C gl ML.body ⟨enter [v0],h,x⟩ K=(wM C gl [(0,v0)] h x K).1:=(wM C gl [(0,v0)] h x K).2
def jL:ACode:=.pr [0,4,6,31,32,33] (.seq (rg [bN 34 .lss 33 32] [0,4,6,31,32,33,34])
(.seq (.cond 34 .skip
(.exit 1))
(.seq (.block 2 (.seq (rg [iA 35 none 31 33,
lD 36 none 35,
mV 8 36] [0,4,6,8,31,32,33])
(rg [mV 37 6,
mV 38 0,
mV 39 8,
iA 40 none 38 39,
lD 41 none 40,
bN 42 .and 37 41,
mV 6 42] [0,4,6,31,32,33])))
(rg [bN 43 .add 33 (cI 1),
mV 33 43] [0,4,6,31,32,33]))))
def kZ (C:Hd)(gl:GL)(v0 v4 v6 v31 v32 v33:AV)(h:aA)(x:Esc)(K:KT):Prop:=
 pK (qA .lss v33 v32) fun t1=>
 NA t1 (pK (vB none v31 v33 h) fun t2=>
 pK (BA none t2 h) fun t3=>
 pK (vB none v0 t3 h) fun t4=>
 pK (BA none t4 h) fun t5=>
 pK (qA .and v6 t5) fun t6=>
 pK (qA .add v33 (AI 1)) fun t7=>
 K .normal ⟨[(0,v0),(4,v4),(6,t6),(31,v31),(32,v32),(33,t7)],h,x⟩)
 (K (.exit 1) ⟨[(0,v0),(4,v4),(6,v6),(31,v31),(32,v32),(33,v33),(34,t1)],h,x⟩)
theorem zac {C gl e h x K}:NW C gl jL ⟨e,h,x⟩ K=kZ C gl (bA e 0) (bA e 4) (bA e 6) (bA e 31) (bA e 32) (bA e 33) h x K:=by kernel_rfl
theorem zdG {C gl e h x K}:NW C gl (.loop jL) ⟨e,h,x⟩ K=EA C gl jL K [(0,bA e 0),(4,bA e 4),(6,bA e 6),(31,bA e 31),(32,bA e 32),(33,bA e 33)] h x:=YA
def kL:ACode:=.pr [0,4,6,47,48,49] (.seq (rg [bN 50 .lss 49 48] [0,4,6,47,48,49,50])
(.seq (.cond 50 .skip
(.exit 3))
(.seq (.block 4 (.seq (rg [iA 51 none 47 49,
lD 52 none 51,
mV 10 52] [0,4,6,10,47,48,49])
(rg [mV 53 6,
mV 54 0,
mV 55 10,
iA 56 none 54 55,
lD 57 none 56,
bN 58 .or 53 57,
mV 6 58] [0,4,6,47,48,49])))
(rg [bN 59 .add 49 (cI 1),
mV 49 59] [0,4,6,47,48,49]))))
def lZ (C:Hd)(gl:GL)(v0 v4 v6 v47 v48 v49:AV)(h:aA)(x:Esc)(K:KT):Prop:=
 pK (qA .lss v49 v48) fun t1=>
 NA t1 (pK (vB none v47 v49 h) fun t2=>
 pK (BA none t2 h) fun t3=>
 pK (vB none v0 t3 h) fun t4=>
 pK (BA none t4 h) fun t5=>
 pK (qA .or v6 t5) fun t6=>
 pK (qA .add v49 (AI 1)) fun t7=>
 K .normal ⟨[(0,v0),(4,v4),(6,t6),(47,v47),(48,v48),(49,t7)],h,x⟩)
 (K (.exit 3) ⟨[(0,v0),(4,v4),(6,v6),(47,v47),(48,v48),(49,v49),(50,t1)],h,x⟩)
theorem zad {C gl e h x K}:NW C gl kL ⟨e,h,x⟩ K=lZ C gl (bA e 0) (bA e 4) (bA e 6) (bA e 47) (bA e 48) (bA e 49) h x K:=by kernel_rfl
theorem zdH {C gl e h x K}:NW C gl (.loop kL) ⟨e,h,x⟩ K=EA C gl kL K [(0,bA e 0),(4,bA e 4),(6,bA e 6),(47,bA e 47),(48,bA e 48),(49,bA e 49)] h x:=YA
def NX (q1 q2:ACode):ACode:=.pr [0,2,4,6,21,24] (.cond 24 (rg [mV 27 2,
mV 6 27] [0,4,6])
(.seq (rg [bN 29 .eql 21 (cI 3),
mV 28 29] [0,4,6,21,28])
(.cond 28 (.seq (rg [fA 30 1 none 4,
lD 31 none 30,
lN 32 31,
mV 33 (cI 0)] [0,4,6,31,32,33])
(.block 1 (.loop q1)))
(.seq (rg [bN 45 .eql 21 (cI 4),
mV 44 45] [0,4,6,44])
(.cond 44 (.seq (rg [fA 46 1 none 4,
lD 47 none 46,
lN 48 47,
mV 49 (cI 0)] [0,4,6,47,48,49])
(.block 3 (.loop q2)))
.skip)))))
def MO:ACode:=NX jL kL
def MS (C:Hd)(gl:GL)(q1 q2:ACode)(v0 v2 v4 v6 v21 v24:AV)(h:aA)(x:Esc)(K:KT):Prop:=
 NA v24 (K .normal ⟨[(0,v0),(4,v4),(6,v2)],h,x⟩)
 (pK (qA .eql v21 (AI 3)) fun t1=>
 NA t1 (pK (RA 1 none v4) fun t2=>
 pK (BA none t2 h) fun t3=>
 pK (YB t3) fun t4=>
 NW C gl (.loop q1) ⟨[(0,v0),(4,v4),(6,v6),(31,t3),(32,t4),(33,(AI 0))],h,x⟩ (eC 1 K))
 (pK (qA .eql v21 (AI 4)) fun t5=>
 NA t5 (pK (RA 1 none v4) fun t6=>
 pK (BA none t6 h) fun t7=>
 pK (YB t7) fun t8=>
 NW C gl (.loop q2) ⟨[(0,v0),(4,v4),(6,v6),(47,t7),(48,t8),(49,(AI 0))],h,x⟩ (eC 3 K))
 (K .normal ⟨[(0,v0),(4,v4),(6,v6),(44,t5)],h,x⟩)))
theorem z4Q {C gl q1 q2 e h x K}:NW C gl (NX q1 q2) ⟨e,h,x⟩ K=MS C gl q1 q2 (bA e 0) (bA e 2) (bA e 4) (bA e 6) (bA e 21) (bA e 24) h x K:=by kernel_rfl
theorem zae {C gl e h x K}:NW C gl MO ⟨e,h,x⟩ K=MS C gl jL kL (bA e 0) (bA e 2) (bA e 4) (bA e 6) (bA e 21) (bA e 24) h x K:=z4Q
def YF:ACode:=.pr [0,6,61,62,63] (.seq (rg [bN 64 .lss 63 62] [0,6,61,62,63,64])
(.seq (.cond 64 .skip
(.exit 5))
(.seq (.block 6 (.seq (rg [iA 65 none 61 63,
lD 66 none 65,
mV 12 66] [0,6,12,61,62,63])
(rg [mV 67 0,
mV 68 12,
mV 69 6,
iA 70 none 67 68,
wO (.store none 70 69)] [0,6,61,62,63])))
(rg [bN 71 .add 63 (cI 1),
mV 63 71] [0,6,61,62,63]))))
def mZ (C:Hd)(gl:GL)(v0 v6 v61 v62 v63:AV)(h:aA)(x:Esc)(K:KT):Prop:=
 pK (qA .lss v63 v62) fun t1=>
 NA t1 (pK (vB none v61 v63 h) fun t2=>
 pK (BA none t2 h) fun t3=>
 pK (vB none v0 t3 h) fun t4=>
 wK (FC none t4 v6 h) fun t5 h6 y7=>
 pK (qA .add v63 (AI 1)) fun t8=>
 K .normal ⟨[(0,v0),(6,v6),(61,v61),(62,v62),(63,t8)],h6,(y7++x)⟩)
 (K (.exit 5) ⟨[(0,v0),(6,v6),(61,v61),(62,v62),(63,v63),(64,t1)],h,x⟩)
theorem zaf {C gl e h x K}:NW C gl YF ⟨e,h,x⟩ K=mZ C gl (bA e 0) (bA e 6) (bA e 61) (bA e 62) (bA e 63) h x K:=by kernel_rfl
theorem zdI {C gl e h x K}:NW C gl (.loop YF) ⟨e,h,x⟩ K=EA C gl YF K [(0,bA e 0),(6,bA e 6),(61,bA e 61),(62,bA e 62),(63,bA e 63)] h x:=YA
def OX (q4:ACode):ACode:=.pr [0,4,6] (.seq (rg [fA 60 1 none 4,
lD 61 none 60,
lN 62 61,
mV 63 (cI 0)] [0,6,61,62,63])
(.block 5 (.loop q4)))
def NO:ACode:=OX YF
def zF (C:Hd)(gl:GL)(q4:ACode)(v0 v4 v6:AV)(h:aA)(x:Esc)(K:KT):Prop:=
 pK (RA 1 none v4) fun t1=>
 pK (BA none t1 h) fun t2=>
 pK (YB t2) fun t3=>
 NW C gl (.loop q4) ⟨[(0,v0),(6,v6),(61,t2),(62,t3),(63,(AI 0))],h,x⟩ (eC 5 K)
theorem z4R {C gl q4 e h x K}:NW C gl (OX q4) ⟨e,h,x⟩ K=zF C gl q4 (bA e 0) (bA e 4) (bA e 6) h x K:=by kernel_rfl
theorem zag {C gl e h x K}:NW C gl NO ⟨e,h,x⟩ K=zF C gl YF (bA e 0) (bA e 4) (bA e 6) h x K:=z4R
def MX (q3 q5:ACode):ACode:=(.seq (rg [uO 4 (.box 1)] [0,2,4])
(.seq (rg [mV 13 0,
fA 14 1 none 4,
lD 15 none 14,
iA 16 none 15 (cI 0),
lD 17 none 16,
iA 18 none 13 17,
lD 19 none 18,
mV 6 19] [0,2,4,6])
(.seq (.seq (rg [fA 20 0 none 4,
lD 21 none 20] [0,2,4,6,21])
(.block 0 (.seq (rg [bN 23 .eql 21 (cI 1),
mV 22 23] [0,2,4,6,21,22])
(.cond 22 (rg [mV 6 (.c (.p (.int .u64 0)))] [0,4,6])
(.seq (.seq (rg [bN 25 .eql 21 (cI 2),
mV 24 25] [0,2,4,6,21,24])
(.cond 24 .skip
(rg [bN 26 .eql 21 (cI 6),
mV 24 26] [0,2,4,6,21,24])))
q3)))))
q5)))
def OL:AFun:=⟨3,[],MX MO NO,true,false⟩
def UE (C:Hd)(gl:GL)(q3 q5:ACode)(v0 v1 v2:AV)(h:aA)(x:Esc)(K:KT):Prop:=
 wK (SF v1 h) fun t1 h2 y3=>
 pK (RA 1 none t1) fun t4=>
 pK (BA none t4 h2) fun t5=>
 pK (vB none t5 (AI 0) h2) fun t6=>
 pK (BA none t6 h2) fun t7=>
 pK (vB none v0 t7 h2) fun t8=>
 pK (BA none t8 h2) fun t9=>
 pK (RA 0 none t1) fun t10=>
 pK (BA none t10 h2) fun t11=>
 pK (qA .eql t11 (AI 1)) fun t12=>
 NA t12 (NW C gl q5 ⟨[(0,v0),(4,t1),(6,(.p (.int .u64 0)))],h2,(y3++x)⟩ K)
 (pK (qA .eql t11 (AI 2)) fun t13=>
 NA t13 (NW C gl q3 ⟨[(0,v0),(2,v2),(4,t1),(6,t9),(21,t11),(24,t13)],h2,(y3++x)⟩ (eC 0 (TD C gl q5 K)))
 (pK (qA .eql t11 (AI 6)) fun t14=>
 NW C gl q3 ⟨[(0,v0),(2,v2),(4,t1),(6,t9),(21,t11),(24,t14)],h2,(y3++x)⟩ (eC 0 (TD C gl q5 K))))
theorem z4P {C gl q3 q5 v0 v1 v2 h x K}:NW C gl (MX q3 q5) ⟨enter [v0,v1,v2],h,x⟩ K=UE C gl q3 q5 v0 v1 v2 h x K:=by kernel_rfl
theorem zab {C gl v0 v1 v2 h x K}:NW C gl OL.body ⟨enter [v0,v1,v2],h,x⟩ K=UE C gl MO NO v0 v1 v2 h x K:=z4P
def ZU:ACode:=(.seq (rg [mV 4 cF] [0,1])
(.seq (rg [mV 5 0,
cL 6 YE [5],
mV 7 6,
gD 8 7 true (.mv 1),
gD 9 7 true (.call YE [8]),
gD 10 7 true (.un .not 9),
uO 11 (.pick 7 10 cF),
mV 12 11,
gD 13 12 false (.mv 0),
gD 14 12 false (.mv 1),
gD 15 12 false (.bin .lss 13 14),
uO 16 (.pick 12 cT 15),
mV 4 16] [4])
.ret))
def tQ:AFun:=⟨2,[.t 4],ZU,false,false⟩
def nM (C:Hd)(gl:GL)(e:En)(h:aA)(x:Esc)(K:KT):Sf C gl ZU e h x K:=⟨_,by simp only[ZU,↓wZ,AO.still];rfl⟩
theorem z9b {C gl v0 v1 h x K}:NW C gl tQ.body ⟨enter [v0,v1],h,x⟩ K=(nM C gl [(0,v0),(1,v1)] h x K).1:=(nM C gl [(0,v0),(1,v1)] h x K).2
def zP:ACode:=.pr [0,1,2,3,8,9,10,11] (.seq (.seq (dr [dF (mV 73 1) [1],
dF (bN 74 .gtr 73 (cI 0)) [73],
dF (mV 75 74) [74],
dF (gD 76 75 true (.mv 0)) [0,75],
dF (gD 77 75 true (.mv 1)) [1,75],
dF (gD 78 75 true (.bin .sub 77 (cI 1))) [77,75],
dF (gD 79 75 true (.iaddr none 76 78)) [76,78,75],
dF (gD 80 75 true (.load none 79)) [79,75],
dF (gD 81 75 true (.mv 0)) [0,75],
dF (gD 82 75 true (.mv 11)) [11,75],
dF (gD 83 75 true (.iaddr none 81 82)) [81,82,75],
dF (gD 84 75 true (.load none 83)) [83,75],
dT (gD 85 75 true (.call XE [80,84])) [80,84,75],
dF (gD 86 75 true (.un .not 85)) [85,75],
dF (uO 87 (.pick 75 86 cF)) [75,86]] [0,1,2,3,8,9,10,11,87])
(.cond 87 (.seq (rg [mV 88 0,
mV 89 1,
mV 90 2,
mV 91 11,
cL 92 zc0 [88,89,90,91],
mV 13 92] [0,2,3,8,9,13])
(.seq (rg [mV 93 13,
mV 1 93] [0,1,2,3,8,9])
(.exit 1)))
.skip))
(.seq (rg [mV 95 0,
mV 96 1,
mV 97 2,
mV 98 11,
cL 99 zc2 [95,96,97,98],
mV 94 99,
eX 100 94 0,
eX 101 94 1,
mV 14 100,
mV 15 101] [0,1,2,3,10,14,15])
(.seq (rg [mV 102 15,
mV 9 102] [0,1,2,3,9,10,14])
(.seq (rg [mV 103 14,
mV 104 1,
bN 105 .sub 103 104,
mV 106 2,
mV 107 14,
bN 108 .sub 106 107,
mV 16 105,
mV 17 108] [0,1,2,3,9,10,14,16,17])
(.seq (rg [mV 109 10,
bN 110 .quo 109 (cI 8),
mV 18 110] [0,1,2,3,9,14,16,17,18])
(.seq (rg [mV 111 16,
mV 112 17,
bN 113 .lss 111 112] [0,1,2,3,9,14,16,17,18,113])
(.cond 113 (.seq (rg [mV 114 16,
mV 115 18,
bN 116 .geq 114 115,
mV 8 116] [0,1,2,3,8,9,14])
(.seq (rg [mV 117 0,
mV 118 1,
mV 119 14,
mV 120 3,
cL 121 NG [117,118,119,120]] [0,2,3,8,9,14])
(rg [mV 122 14,
bN 123 .add 122 (cI 1),
mV 1 123] [0,1,2,3,8,9])))
(.seq (rg [mV 124 17,
mV 125 18,
bN 126 .geq 124 125,
mV 8 126] [0,1,2,3,8,9,14])
(.seq (rg [mV 127 0,
mV 128 14,
bN 129 .add 128 (cI 1),
mV 130 2,
mV 131 3,
cL 132 NG [127,129,130,131]] [0,1,3,8,9,14])
(rg [mV 133 14,
mV 2 133] [0,1,2,3,8,9]))))))))))
def XT (C:Hd)(gl:GL)(e:En)(h:aA)(x:Esc)(K:KT):Sf C gl zP e h x K:=⟨_,by simp only[zP,↓wZ,AO.still];rfl⟩
theorem zbR {C gl e h x K}:NW C gl zP ⟨e,h,x⟩ K=(XT C gl e h x K).1:=(XT C gl e h x K).2
def AP:ACode:=.pr [0,1,2,3,8,9,10,11,12] (.seq (.seq (rg [mV 61 8,
mV 62 61,
gD 63 62 true (.mv 9),
uO 64 (.pick 62 63 cF),
mV 65 64,
gD 66 65 true (.mv 12),
gD 67 65 true (.bin .eql 66 (cI 1)),
uO 68 (.pick 65 67 cF)] [0,1,2,3,8,9,10,11,68])
(.cond 68 (.seq (rg [mV 69 0,
mV 70 1,
mV 71 2,
cL 72 zcy [69,70,71]] [0,1,2,3,8,9,10,11,72])
(.cond 72 .ret
.skip))
.skip))
zP)
def YT (C:Hd)(gl:GL)(e:En)(h:aA)(x:Esc)(K:KT):Sf C gl AP e h x K:=⟨_,by simp only[AP,↓wZ,AO.still];rfl⟩
theorem zbS {C gl e h x K}:NW C gl AP ⟨e,h,x⟩ K=(YT C gl e h x K).1:=(YT C gl e h x K).2
def BP:ACode:=.pr [0,1,2,3,8,9,10] (.seq (rg [mV 43 0,
mV 44 1,
mV 45 2,
cL 46 zcu [43,44,45],
mV 42 46,
eX 47 42 0,
eX 48 42 1,
mV 11 47,
mV 12 48] [0,1,2,3,8,9,10,11,12])
(.seq (.seq (rg [mV 49 12,
bN 50 .eql 49 (cI 2)] [0,1,2,3,8,9,10,11,12,50])
(.cond 50 (.seq (rg [mV 51 0,
mV 52 1,
mV 53 2,
cL 54 zc4 [51,52,53]] [0,1,2,3,8,9,10,11])
(.seq (rg [mV 55 2,
bN 56 .sub 55 (cI 1),
mV 57 11,
mV 58 1,
bN 59 .sub 57 58,
bN 60 .sub 56 59,
mV 11 60] [0,1,2,3,8,9,10,11])
(rg [mV 12 (cI 1)] [0,1,2,3,8,9,10,11,12])))
.skip))
AP))
def ZT (C:Hd)(gl:GL)(e:En)(h:aA)(x:Esc)(K:KT):Sf C gl BP e h x K:=⟨_,by simp only[BP,↓wZ,AO.still];rfl⟩
theorem zbT {C gl e h x K}:NW C gl BP ⟨e,h,x⟩ K=(ZT C gl e h x K).1:=(ZT C gl e h x K).2
def bJ:ACode:=.pr [0,1,2,3,8,9] (.block 1 (.seq (rg [mV 19 2,
mV 20 1,
bN 21 .sub 19 20,
mV 10 21] [0,1,2,3,8,9,10])
(.seq (.seq (rg [mV 22 10,
bN 23 .leq 22 (cI 12)] [0,1,2,3,8,9,10,23])
(.cond 23 (.seq (rg [mV 24 0,
mV 25 1,
mV 26 2,
cL 27 HK [24,25,26]] [])
.ret)
.skip))
(.seq (.seq (rg [mV 28 3,
bN 29 .eql 28 (cI 0)] [0,1,2,3,8,9,10,29])
(.cond 29 (.seq (rg [mV 30 0,
mV 31 1,
mV 32 2,
cL 33 zcw [30,31,32]] [])
.ret)
.skip))
(.seq (.seq (rg [mV 34 8,
uO 35 (.un .not 34)] [0,1,2,3,8,9,10,35])
(.cond 35 (.seq (rg [mV 36 0,
mV 37 1,
mV 38 2,
cL 39 zcs [36,37,38]] [0,1,2,3,8,9,10])
(rg [mV 40 3,
bN 41 .sub 40 (cI 1),
mV 3 41] [0,1,2,3,8,9,10]))
.skip))
BP)))))
def aU (C:Hd)(gl:GL)(e:En)(h:aA)(x:Esc)(K:KT):Sf C gl bJ e h x K:=⟨_,by simp only[bJ,↓wZ,AO.still];rfl⟩
theorem zbU {C gl e h x K}:NW C gl bJ ⟨e,h,x⟩ K=(aU C gl e h x K).1:=(aU C gl e h x K).2
theorem zek {C gl e h x K}:NW C gl (.loop bJ) ⟨e,h,x⟩ K=EA C gl bJ K [(0,bA e 0),(1,bA e 1),(2,bA e 2),(3,bA e 3),(8,bA e 8),(9,bA e 9)] h x:=YA
def rW:ACode:=(.seq (rg [mV 8 cT] [0,1,2,3,8])
(.seq (rg [mV 9 cT] [0,1,2,3,8,9])
(.block 0 (.loop bJ))))
def uR:AFun:=⟨4,[],rW,true,false⟩
def mN (C:Hd)(gl:GL)(e:En)(h:aA)(x:Esc)(K:KT):Sf C gl rW e h x K:=⟨_,by simp only[rW,↓wZ,AO.still];rfl⟩
theorem zbQ {C gl v0 v1 v2 v3 h x K}:NW C gl uR.body ⟨enter [v0,v1,v2,v3],h,x⟩ K=(mN C gl [(0,v0),(1,v1),(2,v2),(3,v3)] h x K).1:=(mN C gl [(0,v0),(1,v1),(2,v2),(3,v3)] h x K).2
def xV:ACode:=(.seq (rg [mV 2 (cI 0)] [0])
(.seq (.cond cF (.seq (rg [mV 3 0,
uO 4 (.conv (.i .u32) 3),
cL 5 zcr [4],
mV 2 5] [2])
.ret)
.skip)
(.seq (rg [mV 6 0,
cL 7 kK [6],
mV 2 7] [2])
.ret)))
def FQ:AFun:=⟨1,[.t 2],xV,false,false⟩
def zM (C:Hd)(gl:GL)(e:En)(h:aA)(x:Esc)(K:KT):Sf C gl xV e h x K:=⟨_,by simp only[xV,↓wZ,AO.still];rfl⟩
theorem zai {C gl v0 h x K}:NW C gl FQ.body ⟨enter [v0],h,x⟩ K=(zM C gl [(0,v0)] h x K).1:=(zM C gl [(0,v0)] h x K).2
def XO:ACode:=.pr [0] (.seq (rg [mV 15 0,
mV 4 15] [4])
.ret)
def YS (C:Hd)(gl:GL)(e:En)(h:aA)(x:Esc)(K:KT):Sf C gl XO e h x K:=⟨_,by simp only[XO,↓wZ,AO.still];rfl⟩
theorem zaz {C gl e h x K}:NW C gl XO ⟨e,h,x⟩ K=(YS C gl e h x K).1:=(YS C gl e h x K).2
def DV:ACode:=(.seq (rg [mV 4 (cI 0)] [0,1])
(.seq (.seq (rg [mV 5 1,
bN 6 .lss 5 (cI 1)] [0,1,6])
(.cond 6 (.seq (rg [mV 4 (cI 0)] [4])
.ret)
.skip))
(.seq (rg [mV 7 0,
mV 8 1,
bN 9 .rem 7 8,
mV 0 9] [0,1])
(.seq (.seq (rg [mV 10 0,
bN 11 .lss 10 (cI 0)] [0,1,11])
(.cond 11 (rg [mV 12 0,
mV 13 1,
bN 14 .add 12 13,
mV 0 14] [0])
.skip))
XO))))
def JQ:AFun:=⟨2,[.t 4],DV,false,false⟩
def DM (C:Hd)(gl:GL)(e:En)(h:aA)(x:Esc)(K:KT):Sf C gl DV e h x K:=⟨_,by simp only[DV,↓wZ,AO.still];rfl⟩
theorem zay {C gl v0 v1 h x K}:NW C gl JQ.body ⟨enter [v0,v1],h,x⟩ K=(DM C gl [(0,v0),(1,v1)] h x K).1:=(DM C gl [(0,v0),(1,v1)] h x K).2
def JI:ACode:=.pr [0,1,5,9,10] (.seq (rg [bN 11 .lss 10 9] [0,1,5,9,10,11])
(.seq (.cond 11 .skip
(.exit 0))
(.seq (.block 1 (.seq (rg [mV 12 10,
mV 6 12] [0,1,5,6,9,10])
(rg [mV 13 5,
mV 14 6,
uO 15 (.bsl false none 1 (.int .i64 0) [(0,14)]),
uO 16 (.app none 13 15),
mV 5 16] [0,1,5,9,10])))
(rg [bN 17 .add 10 (cI 1),
mV 10 17] [0,1,5,9,10]))))
def mT (C:Hd)(gl:GL)(e:En)(h:aA)(x:Esc)(K:KT):Sf C gl JI e h x K:=⟨_,by simp only[JI,↓wZ,AO.still];rfl⟩
theorem zaJ {C gl e h x K}:NW C gl JI ⟨e,h,x⟩ K=(mT C gl e h x K).1:=(mT C gl e h x K).2
theorem zdR {C gl e h x K}:NW C gl (.loop (.scope JI)) ⟨e,h,x⟩ K=EA C gl (.scope JI) K [(0,bA e 0),(1,bA e 1),(5,bA e 5),(9,bA e 9),(10,bA e 10)] h x:=vD
def KI:ACode:=.pr [0,5,7] (.seq (.seq (rg [mV 20 7,
bN 21 .gtr 20 (cI 0)] [0,5,7,21])
(.cond 21 .skip
(.exit 2)))
(.seq (.block 3 (.seq (rg [mV 24 0,
mV 25 7,
bN 26 .add 25 (cI 1),
cL 27 kD [24,26],
mV 8 27] [0,5,7,8])
(dr [dF (mV 28 5) [5],
dF (mV 29 7) [7],
dF (mV 30 5) [5],
dF (mV 31 8) [8],
dF (mV 32 5) [5],
dF (mV 33 8) [8],
dF (iA 34 none 32 33) [32,33],
dF (lD 35 none 34) [34],
dF (mV 36 5) [5],
dF (mV 37 7) [7],
dF (iA 38 none 36 37) [36,37],
dF (lD 39 none 38) [38],
dF (iA 40 none 28 29) [28,29],
dT (wO (.store none 40 35)) [40,35],
dF (iA 41 none 30 31) [30,31],
dT (wO (.store none 41 39)) [41,39]] [0,5,7])))
(rg [mV 22 7,
bN 23 .sub 22 (cI 1),
mV 7 23] [0,5,7])))
def nT (C:Hd)(gl:GL)(e:En)(h:aA)(x:Esc)(K:KT):Sf C gl KI e h x K:=⟨_,by simp only[KI,↓wZ,AO.still];rfl⟩
theorem zaK {C gl e h x K}:NW C gl KI ⟨e,h,x⟩ K=(nT C gl e h x K).1:=(nT C gl e h x K).2
theorem zdS {C gl e h x K}:NW C gl (.loop KI) ⟨e,h,x⟩ K=EA C gl KI K [(0,bA e 0),(5,bA e 5),(7,bA e 7)] h x:=YA
def eP:ACode:=.pr [5] (.seq (rg [mV 42 5,
mV 4 42] [4])
.ret)
def oT (C:Hd)(gl:GL)(e:En)(h:aA)(x:Esc)(K:KT):Sf C gl eP e h x K:=⟨_,by simp only[eP,↓wZ,AO.still];rfl⟩
theorem zaL {C gl e h x K}:NW C gl eP ⟨e,h,x⟩ K=(oT C gl e h x K).1:=(oT C gl e h x K).2
def fP:ACode:=.pr [0,1,5] (.seq (.seq (rg [mV 18 1,
bN 19 .sub 18 (cI 1),
mV 7 19] [0,5,7])
(.block 2 (.loop KI)))
eP)
def pT (C:Hd)(gl:GL)(e:En)(h:aA)(x:Esc)(K:KT):Sf C gl fP e h x K:=⟨_,by simp only[fP,↓wZ,AO.still];rfl⟩
theorem zaM {C gl e h x K}:NW C gl fP ⟨e,h,x⟩ K=(pT C gl e h x K).1:=(pT C gl e h x K).2
def KV:ACode:=(.seq (rg [mV 4 (.c (.p (.sl none [])))] [0,1])
(.seq (rg [uO 5 (.new0 none)] [0,1,5])
(.seq (.seq (rg [mV 9 1,
mV 10 (cI 0)] [0,1,5,9,10])
(.block 0 (.loop (.scope JI))))
fP)))
def QQ:AFun:=⟨2,[.t 4],KV,false,true⟩
def HM (C:Hd)(gl:GL)(e:En)(h:aA)(x:Esc)(K:KT):Sf C gl KV e h x K:=⟨_,by simp only[KV,↓wZ,AO.still];rfl⟩
theorem zaI {C gl v0 v1 h x K}:NW C gl QQ.body ⟨enter [v0,v1],h,x⟩ K=(HM C gl [(0,v0),(1,v1)] h x K).1:=(HM C gl [(0,v0),(1,v1)] h x K).2
def lI:ACode:=.pr [0,13,14,15] (.seq (rg [bN 16 .lss 15 14] [0,13,14,15,16])
(.seq (.cond 16 .skip
(.exit 1))
(.seq (.block 2 (.seq (rg [iA 17 none 13 15,
lD 18 none 17,
mV 4 18] [0,4,13,14,15])
(.block 3 (.seq (rg [mV 20 4,
cL 21 bE [20],
uO 22 (.un .not 21),
mV 19 22] [0,4,13,14,15,19])
(.cond 19 (.seq (rg [mV 2 (cI 3)] [2])
.ret)
(.seq (rg [mV 24 4,
uO 25 (.lens 24),
bN 26 .gtr 25 (cI 64),
mV 23 26] [0,4,13,14,15,23])
(.cond 23 (.seq (rg [mV 2 (cI 2)] [2])
.ret)
(.seq (rg [mV 28 4,
uO 29 (.lens 28),
mV 30 0,
iA 31 none 30 (cI 0),
lD 32 none 31,
uO 33 (.lens 32),
bN 34 .neq 29 33,
mV 27 34] [0,13,14,15,27])
(.cond 27 (.seq (rg [mV 2 (cI 3)] [2])
.ret)
.skip)))))))))
(rg [bN 35 .add 15 (cI 1),
mV 15 35] [0,13,14,15]))))
def WR (C:Hd)(gl:GL)(e:En)(h:aA)(x:Esc)(K:KT):Sf C gl lI e h x K:=⟨_,by simp only[lI,↓wZ,AO.still];rfl⟩
theorem z9m {C gl e h x K}:NW C gl lI ⟨e,h,x⟩ K=(WR C gl e h x K).1:=(WR C gl e h x K).2
theorem zd2 {C gl e h x K}:NW C gl (.loop lI) ⟨e,h,x⟩ K=EA C gl lI K [(0,bA e 0),(13,bA e 13),(14,bA e 14),(15,bA e 15)] h x:=YA
def lO:ACode:=.pr [] (.seq (rg [mV 2 (cI 0)] [2])
.ret)
def XR (C:Hd)(gl:GL)(e:En)(h:aA)(x:Esc)(K:KT):Sf C gl lO e h x K:=⟨_,by simp only[lO,↓wZ,AO.still];rfl⟩
theorem z9n {C gl e h x K}:NW C gl lO ⟨e,h,x⟩ K=(XR C gl e h x K).1:=(XR C gl e h x K).2
def eV:ACode:=(.seq (rg [mV 2 (cI 0)] [0])
(.seq (.block 0 (.seq (rg [mV 6 0,
lN 7 6,
bN 8 .eql 7 (cI 0),
mV 5 8] [0,5])
(.cond 5 (.seq (rg [mV 2 (cI 8)] [2])
.ret)
(.seq (rg [mV 10 0,
lN 11 10,
bN 12 .gtr 11 (cI 100),
mV 9 12] [0,9])
(.cond 9 (.seq (rg [mV 2 (cI 2)] [2])
.ret)
.skip)))))
(.seq (.seq (rg [mV 13 0,
lN 14 13,
mV 15 (cI 0)] [0,13,14,15])
(.block 1 (.loop lI)))
lO)))
def HL:AFun:=⟨1,[.t 2],eV,false,false⟩
def AH (C:Hd)(gl:GL)(e:En)(h:aA)(x:Esc)(K:KT):Sf C gl eV e h x K:=⟨_,by simp only[eV,↓wZ,AO.still];rfl⟩
theorem z9l {C gl v0 h x K}:NW C gl HL.body ⟨enter [v0],h,x⟩ K=(AH C gl [(0,v0)] h x K).1:=(AH C gl [(0,v0)] h x K).2
def uI:ACode:=.pr [0,7,13,14,15] (.seq (rg [bN 16 .lss 15 14] [0,7,13,14,15,16])
(.seq (.cond 16 .skip
(.exit 0))
(.seq (.block 1 (.seq (rg [mV 17 15,
iA 18 none 13 15,
lD 19 none 18,
mV 8 17,
mV 9 19] [0,7,8,9,13,14,15])
(rg [mV 20 7,
mV 21 9,
mV 22 0,
mV 23 8,
iA 24 none 22 23,
lD 25 none 24,
bN 26 .xor 21 25,
bN 27 .or 20 26,
mV 7 27] [0,7,13,14,15])))
(rg [bN 28 .add 15 (cI 1),
mV 15 28] [0,7,13,14,15]))))
def zS (C:Hd)(gl:GL)(e:En)(h:aA)(x:Esc)(K:KT):Sf C gl uI e h x K:=⟨_,by simp only[uI,↓wZ,AO.still];rfl⟩
theorem z9H {C gl e h x K}:NW C gl uI ⟨e,h,x⟩ K=(zS C gl e h x K).1:=(zS C gl e h x K).2
theorem zdB {C gl e h x K}:NW C gl (.loop uI) ⟨e,h,x⟩ K=EA C gl uI K [(0,bA e 0),(7,bA e 7),(13,bA e 13),(14,bA e 14),(15,bA e 15)] h x:=YA
def FO:ACode:=.pr [7] (.seq (rg [mV 29 7,
mV 6 29] [6])
.ret)
def BS (C:Hd)(gl:GL)(e:En)(h:aA)(x:Esc)(K:KT):Sf C gl FO e h x K:=⟨_,by simp only[FO,↓wZ,AO.still];rfl⟩
theorem z9I {C gl e h x K}:NW C gl FO ⟨e,h,x⟩ K=(BS C gl e h x K).1:=(BS C gl e h x K).2
def lV:ACode:=(.seq (rg [uO 4 (.box 1),
mV 6 (.c (.p (.int .u64 0)))] [0,2,4])
(.seq (rg [mV 7 (.c (.p (.int .u64 0)))] [0,2,4,7])
(.seq (.seq (rg [mV 10 0,
lD 11 (some 2) 4,
mV 12 2,
cL 13 iK [10,11,12],
lN 14 13,
mV 15 (cI 0)] [0,7,13,14,15])
(.block 0 (.loop uI)))
FO)))
def IL:AFun:=⟨3,[.t 6],lV,false,false⟩
def rM (C:Hd)(gl:GL)(e:En)(h:aA)(x:Esc)(K:KT):Sf C gl lV e h x K:=⟨_,by simp only[lV,↓wZ,AO.still];rfl⟩
theorem z9G {C gl v0 v1 v2 h x K}:NW C gl IL.body ⟨enter [v0,v1,v2],h,x⟩ K=(rM C gl [(0,v0),(1,v1),(2,v2)] h x K).1:=(rM C gl [(0,v0),(1,v1),(2,v2)] h x K).2
def cW:ACode:=(.seq (rg [mV 4 cF] [0,1])
(.seq (rg [mV 5 0,
mV 6 1,
cL 7 DK [5,6],
bN 8 .geq 7 (cI 0),
mV 4 8] [4])
.ret))
def jR:AFun:=⟨2,[.t 4],cW,true,false⟩
def WM (C:Hd)(gl:GL)(e:En)(h:aA)(x:Esc)(K:KT):Sf C gl cW e h x K:=⟨_,by simp only[cW,↓wZ,AO.still];rfl⟩
theorem zbt {C gl v0 v1 h x K}:NW C gl jR.body ⟨enter [v0,v1],h,x⟩ K=(WM C gl [(0,v0),(1,v1)] h x K).1:=(WM C gl [(0,v0),(1,v1)] h x K).2
def oV:ACode:=(.seq (rg [mV 3 cF] [0,1])
(.seq (rg [mV 4 0,
bN 5 .neq 4 (.c (.p (.int .u64 0))),
mV 6 5,
gD 7 6 true (.mv 0),
gD 8 6 true (.load none 1),
gD 9 6 true (.bin .and 7 8),
gD 10 6 true (.bin .eql 9 (.c (.p (.int .u64 0)))),
uO 11 (.pick 6 10 cF),
mV 3 11] [3])
.ret))
def AQ:AFun:=⟨2,[.t 3],oV,false,false⟩
def CH (C:Hd)(gl:GL)(e:En)(h:aA)(x:Esc)(K:KT):Sf C gl oV e h x K:=⟨_,by simp only[oV,↓wZ,AO.still];rfl⟩
theorem z9K {C gl v0 v1 h x K}:NW C gl AQ.body ⟨enter [v0,v1],h,x⟩ K=(CH C gl [(0,v0),(1,v1)] h x K).1:=(CH C gl [(0,v0),(1,v1)] h x K).2
def mW:ACode:=(.seq (rg [mV 3 0,
lN 4 3,
mV 2 4] [0,2])
(rg [mV 5 0,
mV 6 2,
mV 7 2,
uO 8 (.conv (.i .u64) 7),
cL 9 MH [8],
cL 10 OG [5,(cI 0),6,9]] []))
def pR:AFun:=⟨1,[],mW,true,false⟩
def fN (C:Hd)(gl:GL)(e:En)(h:aA)(x:Esc)(K:KT):Sf C gl mW e h x K:=⟨_,by simp only[mW,↓wZ,AO.still];rfl⟩
theorem zbF {C gl v0 h x K}:NW C gl pR.body ⟨enter [v0],h,x⟩ K=(fN C gl [(0,v0)] h x K).1:=(fN C gl [(0,v0)] h x K).2
def SV:ACode:=(.seq (rg [mV 2 cF] [0])
(.seq (rg [mV 3 0,
cL 4 vK [3,(cS [48,49])],
mV 2 4] [2])
.ret))
def XQ:AFun:=⟨1,[.t 2],SV,false,false⟩
def OM (C:Hd)(gl:GL)(e:En)(h:aA)(x:Esc)(K:KT):Sf C gl SV e h x K:=⟨_,by simp only[SV,↓wZ,AO.still];rfl⟩
theorem zaV {C gl v0 h x K}:NW C gl XQ.body ⟨enter [v0],h,x⟩ K=(OM C gl [(0,v0)] h x K).1:=(OM C gl [(0,v0)] h x K).2
def UI:ACode:=.pr [0,1,7,8] (.seq (rg [bN 9 .lss 8 7] [0,1,7,8,9])
(.seq (.cond 9 .skip
(.exit 0))
(.seq (.block 1 (.seq (rg [mV 10 8,
mV 5 10] [0,1,5,7,8])
(.seq (rg [mV 11 1,
mV 12 0,
mV 13 5,
iA 14 none 12 13,
lD 15 none 14,
uO 16 (.callv 11 [15])] [0,1,5,7,8,16])
(.cond 16 (.seq (rg [mV 17 5,
mV 4 17] [4])
.ret)
.skip))))
(rg [bN 18 .add 8 (cI 1),
mV 8 18] [0,1,7,8]))))
def LT (C:Hd)(gl:GL)(e:En)(h:aA)(x:Esc)(K:KT):Sf C gl UI e h x K:=⟨_,by simp only[UI,↓wZ,AO.still];rfl⟩
theorem zb6 {C gl e h x K}:NW C gl UI ⟨e,h,x⟩ K=(LT C gl e h x K).1:=(LT C gl e h x K).2
theorem zec {C gl e h x K}:NW C gl (.loop UI) ⟨e,h,x⟩ K=EA C gl UI K [(0,bA e 0),(1,bA e 1),(7,bA e 7),(8,bA e 8)] h x:=YA
def uP:ACode:=.pr [] (.seq (rg [mV 4 (cI (-1))] [4])
.ret)
def MT (C:Hd)(gl:GL)(e:En)(h:aA)(x:Esc)(K:KT):Sf C gl uP e h x K:=⟨_,by simp only[uP,↓wZ,AO.still];rfl⟩
theorem zb7 {C gl e h x K}:NW C gl uP ⟨e,h,x⟩ K=(MT C gl e h x K).1:=(MT C gl e h x K).2
def iW:ACode:=(.seq (rg [mV 4 (cI 0)] [0,1])
(.seq (.seq (rg [mV 6 0,
lN 7 6,
mV 8 (cI 0)] [0,1,7,8])
(.block 0 (.loop UI)))
uP))
def SL:AFun:=⟨2,[.t 4],iW,true,false⟩
def aN (C:Hd)(gl:GL)(e:En)(h:aA)(x:Esc)(K:KT):Sf C gl iW e h x K:=⟨_,by simp only[iW,↓wZ,AO.still];rfl⟩
theorem zb5 {C gl v0 v1 h x K}:NW C gl SL.body ⟨enter [v0,v1],h,x⟩ K=(aN C gl [(0,v0),(1,v1)] h x K).1:=(aN C gl [(0,v0),(1,v1)] h x K).2
def bW:ACode:=(.seq (rg [mV 4 cF] [0,1])
(.seq (rg [mV 5 0,
mV 6 1,
cL 7 RH [5,6],
bN 8 .geq 7 (cI 0),
mV 4 8] [4])
.ret))
def QL:AFun:=⟨2,[.t 4],bW,true,false⟩
def VM (C:Hd)(gl:GL)(e:En)(h:aA)(x:Esc)(K:KT):Sf C gl bW e h x K:=⟨_,by simp only[bW,↓wZ,AO.still];rfl⟩
theorem zbs {C gl v0 v1 h x K}:NW C gl QL.body ⟨enter [v0,v1],h,x⟩ K=(VM C gl [(0,v0),(1,v1)] h x K).1:=(VM C gl [(0,v0),(1,v1)] h x K).2
def YU:ACode:=(.seq (rg [mV 6 cF] [0,1,2])
(.seq (rg [mV 7 0,
mV 8 1,
bN 9 .lss 7 8,
mV 10 9,
gD 11 10 false (.mv 0),
gD 12 10 false (.mv 2),
gD 13 10 false (.bin .gtr 11 12),
uO 14 (.pick 10 cT 13),
mV 6 14] [6])
.ret))
def DL:AFun:=⟨3,[.t 6],YU,false,false⟩
def mM (C:Hd)(gl:GL)(e:En)(h:aA)(x:Esc)(K:KT):Sf C gl YU e h x K:=⟨_,by simp only[YU,↓wZ,AO.still];rfl⟩
theorem z9a {C gl v0 v1 v2 h x K}:NW C gl DL.body ⟨enter [v0,v1,v2],h,x⟩ K=(mM C gl [(0,v0),(1,v1),(2,v2)] h x K).1:=(mM C gl [(0,v0),(1,v1),(2,v2)] h x K).2
def tV:ACode:=(.seq (rg [uO 4 (.box 1),
mV 6 (.c (.p (.sl none [])))] [0,2,4])
(.seq (rg [mV 8 0,
cL 9 yK [8],
mV 7 9] [2,4,7])
(.seq (dr [dF (mV 10 7) [7],
dF (lD 11 (some 2) 4) [4],
dF (mV 12 2) [2],
dA (cL 13 uE [12]) [12] true [] [1],
dT (cL 14 IF [10,11,13]) [10,11,13]] [7])
(.seq (rg [mV 15 7,
mV 6 15] [6])
.ret))))
def DQ:AFun:=⟨3,[.t 6],tV,false,false⟩
def vM (C:Hd)(gl:GL)(e:En)(h:aA)(x:Esc)(K:KT):Sf C gl tV e h x K:=⟨_,by simp only[tV,↓wZ,AO.still];rfl⟩
theorem z9T {C gl v0 v1 v2 h x K}:NW C gl DQ.body ⟨enter [v0,v1,v2],h,x⟩ K=(vM C gl [(0,v0),(1,v1),(2,v2)] h x K).1:=(vM C gl [(0,v0),(1,v1),(2,v2)] h x K).2
def TI:ACode:=.pr [0,1,7,8] (.seq (rg [bN 9 .lss 8 7] [0,1,7,8,9])
(.seq (.cond 9 .skip
(.exit 0))
(.seq (.block 1 (.seq (rg [mV 10 8,
mV 5 10] [0,1,5,7,8])
(.seq (rg [mV 11 1,
mV 12 0,
mV 13 5,
iA 14 (some 2) 12 13,
lD 15 (some 2) 14,
uO 16 (.callv 11 [15])] [0,1,5,7,8,16])
(.cond 16 (.seq (rg [mV 17 5,
mV 4 17] [4])
.ret)
.skip))))
(rg [bN 18 .add 8 (cI 1),
mV 8 18] [0,1,7,8]))))
def IT (C:Hd)(gl:GL)(e:En)(h:aA)(x:Esc)(K:KT):Sf C gl TI e h x K:=⟨_,by simp only[TI,↓wZ,AO.still];rfl⟩
theorem zb3 {C gl e h x K}:NW C gl TI ⟨e,h,x⟩ K=(IT C gl e h x K).1:=(IT C gl e h x K).2
theorem zeb {C gl e h x K}:NW C gl (.loop TI) ⟨e,h,x⟩ K=EA C gl TI K [(0,bA e 0),(1,bA e 1),(7,bA e 7),(8,bA e 8)] h x:=YA
def tP:ACode:=.pr [] (.seq (rg [mV 4 (cI (-1))] [4])
.ret)
def JT (C:Hd)(gl:GL)(e:En)(h:aA)(x:Esc)(K:KT):Sf C gl tP e h x K:=⟨_,by simp only[tP,↓wZ,AO.still];rfl⟩
theorem zb4 {C gl e h x K}:NW C gl tP ⟨e,h,x⟩ K=(JT C gl e h x K).1:=(JT C gl e h x K).2
def gW:ACode:=(.seq (rg [mV 4 (cI 0)] [0,1])
(.seq (.seq (rg [mV 6 0,
lN 7 6,
mV 8 (cI 0)] [0,1,7,8])
(.block 0 (.loop TI)))
tP))
def mR:AFun:=⟨2,[.t 4],gW,true,false⟩
def ZM (C:Hd)(gl:GL)(e:En)(h:aA)(x:Esc)(K:KT):Sf C gl gW e h x K:=⟨_,by simp only[gW,↓wZ,AO.still];rfl⟩
theorem zb2 {C gl v0 v1 h x K}:NW C gl mR.body ⟨enter [v0,v1],h,x⟩ K=(ZM C gl [(0,v0),(1,v1)] h x K).1:=(ZM C gl [(0,v0),(1,v1)] h x K).2
def TV:ACode:=(.seq (rg [mV 3 cF] [0,1])
(.seq (rg [mV 4 0,
lD 5 none 1,
bN 6 .sub 5 (cI 1),
cL 7 vE [4,(cI 0),6],
uO 8 (.un .not 7),
mV 3 8] [3])
.ret))
def ZQ:AFun:=⟨2,[.t 3],TV,false,false⟩
def PM (C:Hd)(gl:GL)(e:En)(h:aA)(x:Esc)(K:KT):Sf C gl TV e h x K:=⟨_,by simp only[TV,↓wZ,AO.still];rfl⟩
theorem zba {C gl v0 v1 h x K}:NW C gl ZQ.body ⟨enter [v0,v1],h,x⟩ K=(PM C gl [(0,v0),(1,v1)] h x K).1:=(PM C gl [(0,v0),(1,v1)] h x K).2
end Go.Am
end
section
/- The functions asv abstract code,and asv formulas over their values: printed by program out of the translation. -/
set_option linter.all false
set_option maxRecDepth 100000
namespace Go.Am
def jI:ACode:=.pr [0,3,27,28,29] (.seq (rg [bN 30 .lss 29 28] [0,3,27,28,29,30])
(.seq (.cond 30 .skip
(.exit 1))
(.seq (.block 2 (.seq (rg [iA 31 none 27 29,
lD 32 none 31,
mV 6 32] [0,3,6,27,28,29])
(.seq (rg [mV 33 6,
mV 34 0,
bN 35 .sub 34 (cI 1),
cL 36 DB [33,(cI 0),35]] [0,3,27,28,29,36])
(.cond 36 (.seq (rg [mV 4 (cI 1)] [4])
.ret)
.skip))))
(rg [bN 37 .add 29 (cI 1),
mV 29 37] [0,3,27,28,29]))))
def hZ (C:Hd)(gl:GL)(v0 v3 v27 v28 v29:AV)(h:aA)(x:Esc)(K:KT):Prop:=
 pK (qA .lss v29 v28) fun t1=>
 NA t1 (pK (vB none v27 v29 h) fun t2=>
 pK (BA none t2 h) fun t3=>
 pK (qA .sub v0 (AI 1)) fun t4=>
 C DB [t3,(AI 0),t4] h fun t5 h6 y7=>
 NA t5 (K .ret ⟨[(4,(AI 1))],h6,(y7++x)⟩)
 (pK (qA .add v29 (AI 1)) fun t8=>
 K .normal ⟨[(0,v0),(3,v3),(27,v27),(28,v28),(29,t8)],h6,(y7++x)⟩))
 (K (.exit 1) ⟨[(0,v0),(3,v3),(27,v27),(28,v28),(29,v29),(30,t1)],h,x⟩)
theorem z9g {C gl e h x K}:NW C gl jI ⟨e,h,x⟩ K=hZ C gl (bA e 0) (bA e 3) (bA e 27) (bA e 28) (bA e 29) h x K:=by kernel_rfl
theorem zd0 {C gl e h x K}:NW C gl (.loop jI) ⟨e,h,x⟩ K=EA C gl jI K [(0,bA e 0),(3,bA e 3),(27,bA e 27),(28,bA e 28),(29,bA e 29)] h x:=YA
def kI:ACode:=.pr [3,7,8] (.seq (.seq (rg [mV 53 8,
mV 54 7,
lN 55 54,
bN 56 .lss 53 55] [3,7,8,56])
(.cond 56 .skip
(.exit 3)))
(.seq (.block 4 (.seq (dr [dF (mV 59 7) [7],
dF (mV 60 8) [8],
dF (iA 61 none 59 60) [59,60],
dF (lD 62 none 61) [61],
dF (mV 63 7) [7],
dF (mV 64 8) [8],
dF (bN 65 .sub 64 (cI 1)) [64],
dF (iA 66 none 63 65) [63,65],
dF (lD 67 none 66) [66],
dF (bN 68 .leq 62 67) [62,67]] [3,7,8,68])
(.cond 68 (.seq (rg [mV 4 (cI 7)] [4])
.ret)
.skip)))
(rg [mV 57 8,
bN 58 .add 57 (cI 1),
mV 8 58] [3,7,8])))
def iZ (C:Hd)(gl:GL)(v3 v7 v8:AV)(h:aA)(x:Esc)(K:KT):Prop:=
 pK (YB v7) fun t1=>
 pK (qA .lss v8 t1) fun t2=>
 NA t2 (pK (vB none v7 v8 h) fun t3=>
 pK (BA none t3 h) fun t4=>
 pK (qA .sub v8 (AI 1)) fun t5=>
 pK (vB none v7 t5 h) fun t6=>
 pK (BA none t6 h) fun t7=>
 pK (qA .leq t4 t7) fun t8=>
 NA t8 (K .ret ⟨[(4,(AI 7))],h,x⟩)
 (pK (qA .add v8 (AI 1)) fun t9=>
 K .normal ⟨[(3,v3),(7,v7),(8,t9)],h,x⟩))
 (K (.exit 3) ⟨[(3,v3),(7,v7),(8,v8),(56,t2)],h,x⟩)
theorem z9h {C gl e h x K}:NW C gl kI ⟨e,h,x⟩ K=iZ C gl (bA e 3) (bA e 7) (bA e 8) h x K:=by kernel_rfl
theorem zd1 {C gl e h x K}:NW C gl (.loop kI) ⟨e,h,x⟩ K=EA C gl kI K [(3,bA e 3),(7,bA e 7),(8,bA e 8)] h x:=YA
def iO:ACode:=.pr [3,7] (.seq (.seq (rg [fA 69 0 none 3,
lD 70 none 69,
bN 71 .eql 70 (cI 5),
mV 72 71,
gD 73 72 true (.mv 7),
gD 74 72 true (.faddr 1 none 3),
gD 75 72 true (.load none 74),
gD 76 72 true (.iaddr none 75 (cI 0)),
gD 77 72 true (.load none 76),
gD 78 72 true (.call cE [73,77]),
uO 79 (.pick 72 78 cF)] [79])
(.cond 79 (.seq (rg [mV 4 (cI 6)] [4])
.ret)
.skip))
(.seq (rg [mV 4 (cI 0)] [4])
.ret))
def jZ (C:Hd)(gl:GL)(v3 v7:AV)(h:aA)(x:Esc)(K:KT):Prop:=
 pK (RA 0 none v3) fun t1=>
 pK (BA none t1 h) fun t2=>
 pK (qA .eql t2 (AI 5)) fun t3=>
 gM t3 true v7 h fun t4 h5 y6=>
 gP t3 true (RA 1 none v3) h5 fun t7 h8 y9=>
 gP t3 true (BA none t7 h8) h8 fun t10 h11 y12=>
 gP t3 true (vB none t10 (AI 0) h11) h11 fun t13 h14 y15=>
 gP t3 true (BA none t13 h14) h14 fun t16 h17 y18=>
 gV t3 true h17 (C cE [t4,t16] h17) fun t19 h20 y21=>
 pK (TF t3 t19 (AB false)) fun t22=>
 NA t22 (K .ret ⟨[(4,(AI 6))],h20,(y21++(y18++(y15++(y12++(y9++(y6++x))))))⟩)
 (K .ret ⟨[(4,(AI 0))],h20,(y21++(y18++(y15++(y12++(y9++(y6++x))))))⟩)
theorem z9i {C gl e h x K}:NW C gl iO ⟨e,h,x⟩ K=jZ C gl (bA e 3) (bA e 7) h x K:=by kernel_rfl
def KX (q2 q3:ACode):ACode:=.pr [3,7] (.seq (.seq (rg [mV 8 (cI 1)] [3,7,8])
(.block 3 (.loop q2)))
q3)
def dV:ACode:=KX kI iO
def zH (C:Hd)(gl:GL)(q2 q3:ACode)(v3 v7:AV)(h:aA)(x:Esc)(K:KT):Prop:=
 NW C gl (.loop q2) ⟨[(3,v3),(7,v7),(8,(AI 1))],h,x⟩ (eC 3 (TD C gl q3 K))
theorem z4N {C gl q2 q3 e h x K}:NW C gl (KX q2 q3) ⟨e,h,x⟩ K=zH C gl q2 q3 (bA e 3) (bA e 7) h x K:=by kernel_rfl
theorem z9j {C gl e h x K}:NW C gl dV ⟨e,h,x⟩ K=zH C gl kI iO (bA e 3) (bA e 7) h x K:=z4N
def LX (q4:ACode):ACode:=.pr [3] (.seq (.seq (dr [dF (fA 38 0 none 3) [3],
dF (lD 39 none 38) [38],
dT (cL 40 GG [39]) [39],
dF (fA 41 1 none 3) [3],
dA (lD 42 none 41) [41] false [2] [],
dF (lN 43 42) [42],
dF (bN 44 .gtr 43 (cI 1)) [43],
dF (uO 45 (.eqa [] true 40 44)) [40,44]] [3,45])
(.cond 45 (.seq (rg [mV 4 (cI 3)] [4])
.ret)
.skip))
(.seq (rg [fA 46 1 none 3,
lD 47 none 46,
mV 7 47] [3,7])
(.seq (.seq (rg [fA 48 0 none 3,
lD 49 none 48,
bN 50 .eql 49 (cI 5)] [3,7,50])
(.cond 50 (rg [mV 51 7,
uO 52 (.slice none 51 (some (cI 1)) none none),
mV 7 52] [3,7])
.skip))
q4)))
def jO:ACode:=LX dV
def VR (C:Hd)(gl:GL)(q4:ACode)(v3:AV)(h:aA)(x:Esc)(K:KT):Prop:=
 pK (RA 0 none v3) fun t1=>
 pK (BA none t1 h) fun t2=>
 KD C GG [t2] h fun t3 h4 y5=>
 pK (RA 1 none v3) fun t6=>
 pK (BA none t6 h4) fun t7=>
 (pK (BA none t6 h) fun v=>(fun u (g1:aA) (y1:Esc)=>u=t7∧g1=h∧y1=[]) v h [])∧(pK (YB t7) fun t8=>
 pK (qA .gtr t8 (AI 1)) fun t9=>
 pK (ZG [] true t3 t9) fun t10=>
 NA t10 (K .ret ⟨[(4,(AI 3))],h4,(y5++x)⟩)
 (pK (RA 1 none v3) fun t11=>
 pK (BA none t11 h4) fun t12=>
 pK (RA 0 none v3) fun t13=>
 pK (BA none t13 h4) fun t14=>
 pK (qA .eql t14 (AI 5)) fun t15=>
 NA t15 (pK (OD none t12 (some (AI 1)) none none h4) fun t16=>
 NW C gl q4 ⟨[(3,v3),(7,t16)],h4,(y5++x)⟩ K)
 (NW C gl q4 ⟨[(3,v3),(7,t12),(50,t15)],h4,(y5++x)⟩ K)))
theorem z4O {C gl q4 e h x K}:NW C gl (LX q4) ⟨e,h,x⟩ K=VR C gl q4 (bA e 3) h x K:=by kernel_rfl
theorem z9k {C gl e h x K}:NW C gl jO ⟨e,h,x⟩ K=VR C gl dV (bA e 3) h x K:=z4O
def JX (q1 q5:ACode):ACode:=(.seq (rg [uO 3 (.box 1),
mV 4 (cI 0)] [0,3])
(.seq (.block 0 (.seq (rg [mV 10 0,
cL 11 DB [10,(cI 1),(cI 100)],
mV 9 11] [0,3,9])
(.cond 9 (.seq (rg [mV 4 (cI 1)] [4])
.ret)
(.seq (rg [fA 13 0 none 3,
lD 14 none 13,
cL 15 DB [14,(cI 1),(cI 6)],
mV 12 15] [0,3,12])
(.cond 12 (.seq (rg [mV 4 (cI 4)] [4])
.ret)
(.seq (rg [fA 17 1 none 3,
lD 18 none 17,
lN 19 18,
bN 20 .eql 19 (cI 0),
mV 16 20] [0,3,16])
(.cond 16 (.seq (rg [mV 4 (cI 8)] [4])
.ret)
(.seq (rg [fA 22 1 none 3,
lD 23 none 22,
lN 24 23,
bN 25 .gtr 24 (cI 6),
mV 21 25] [0,3,21])
(.cond 21 (.seq (rg [mV 4 (cI 2)] [4])
.ret)
.skip)))))))))
(.seq (.seq (rg [fA 26 1 none 3,
lD 27 none 26,
lN 28 27,
mV 29 (cI 0)] [0,3,27,28,29])
(.block 1 (.loop q1)))
q5)))
def FL:AFun:=⟨2,[.t 4],JX jI jO,false,false⟩
def yF (C:Hd)(gl:GL)(q1 q5:ACode)(v0 v1:AV)(h:aA)(x:Esc)(K:KT):Prop:=
 wK (SF v1 h) fun t1 h2 y3=>
 C DB [v0,(AI 1),(AI 100)] h2 fun t4 h5 y6=>
 NA t4 (K .ret ⟨[(4,(AI 1))],h5,(y6++(y3++x))⟩)
 (pK (RA 0 none t1) fun t7=>
 pK (BA none t7 h5) fun t8=>
 C DB [t8,(AI 1),(AI 6)] h5 fun t9 h10 y11=>
 NA t9 (K .ret ⟨[(4,(AI 4))],h10,(y11++(y6++(y3++x)))⟩)
 (pK (RA 1 none t1) fun t12=>
 pK (BA none t12 h10) fun t13=>
 pK (YB t13) fun t14=>
 pK (qA .eql t14 (AI 0)) fun t15=>
 NA t15 (K .ret ⟨[(4,(AI 8))],h10,(y11++(y6++(y3++x)))⟩)
 (pK (RA 1 none t1) fun t16=>
 pK (BA none t16 h10) fun t17=>
 pK (YB t17) fun t18=>
 pK (qA .gtr t18 (AI 6)) fun t19=>
 NA t19 (K .ret ⟨[(4,(AI 2))],h10,(y11++(y6++(y3++x)))⟩)
 (pK (RA 1 none t1) fun t20=>
 pK (BA none t20 h10) fun t21=>
 pK (YB t21) fun t22=>
 NW C gl (.loop q1) ⟨[(0,v0),(3,t1),(27,t21),(28,t22),(29,(AI 0))],h10,(y11++(y6++(y3++x)))⟩ (eC 1 (TD C gl q5 K))))))
theorem z4M {C gl q1 q5 v0 v1 h x K}:NW C gl (JX q1 q5) ⟨enter [v0,v1],h,x⟩ K=yF C gl q1 q5 v0 v1 h x K:=by kernel_rfl
theorem z9f {C gl v0 v1 h x K}:NW C gl FL.body ⟨enter [v0,v1],h,x⟩ K=yF C gl jI jO v0 v1 h x K:=z4M
def bV:ACode:=(.seq (rg [mV 2 cF] [0])
(.seq (rg [mV 3 0,
mV 4 0,
bN 5 .neq 3 4,
mV 2 5] [2])
.ret))
def EL:AFun:=⟨1,[.t 2],bV,false,false⟩
def pM (C:Hd)(gl:GL)(e:En)(h:aA)(x:Esc)(K:KT):Sf C gl bV e h x K:=⟨_,by simp only[bV,↓wZ,AO.still];rfl⟩
theorem z9d {C gl v0 h x K}:NW C gl EL.body ⟨enter [v0],h,x⟩ K=(pM C gl [(0,v0)] h x K).1:=(pM C gl [(0,v0)] h x K).2
def XI:ACode:=.pr [0,1,2,6,7] (.seq (.seq (dr [dF (mV 16 7) [7],
dF (mV 17 1) [1],
dF (bN 18 .gtr 16 17) [16,17],
dF (mV 19 18) [18],
dF (gD 20 19 true (.mv 0)) [0,19],
dF (gD 21 19 true (.mv 7)) [7,19],
dF (gD 22 19 true (.iaddr none 20 21)) [20,21,19],
dF (gD 23 19 true (.load none 22)) [22,19],
dF (gD 24 19 true (.mv 0)) [0,19],
dF (gD 25 19 true (.mv 7)) [7,19],
dF (gD 26 19 true (.bin .sub 25 (cI 1))) [25,19],
dF (gD 27 19 true (.iaddr none 24 26)) [24,26,19],
dF (gD 28 19 true (.load none 27)) [27,19],
dT (gD 29 19 true (.call XE [23,28])) [23,28,19],
dF (uO 30 (.pick 19 29 cF)) [19,29]] [0,1,2,6,7,30])
(.cond 30 .skip
(.exit 2)))
(.seq (.block 3 (dr [dF (mV 33 0) [0],
dF (mV 34 7) [7],
dF (mV 35 0) [0],
dF (mV 36 7) [7],
dF (bN 37 .sub 36 (cI 1)) [36],
dF (mV 38 0) [0],
dF (mV 39 7) [7],
dF (bN 40 .sub 39 (cI 1)) [39],
dF (iA 41 none 38 40) [38,40],
dF (lD 42 none 41) [41],
dF (mV 43 0) [0],
dF (mV 44 7) [7],
dF (iA 45 none 43 44) [43,44],
dF (lD 46 none 45) [45],
dF (iA 47 none 33 34) [33,34],
dT (wO (.store none 47 42)) [47,42],
dF (iA 48 none 35 37) [35,37],
dT (wO (.store none 48 46)) [48,46]] [0,1,2,6,7]))
(rg [mV 31 7,
bN 32 .sub 31 (cI 1),
mV 7 32] [0,1,2,6,7])))
def RT (C:Hd)(gl:GL)(e:En)(h:aA)(x:Esc)(K:KT):Sf C gl XI e h x K:=⟨_,by simp only[XI,↓wZ,AO.still];rfl⟩
theorem zbJ {C gl e h x K}:NW C gl XI ⟨e,h,x⟩ K=(RT C gl e h x K).1:=(RT C gl e h x K).2
theorem zeg {C gl e h x K}:NW C gl (.loop XI) ⟨e,h,x⟩ K=EA C gl XI K [(0,bA e 0),(1,bA e 1),(2,bA e 2),(6,bA e 6),(7,bA e 7)] h x:=YA
def xP:ACode:=.pr [0,1,2,6] (rg [mV 13 6,
bN 14 .add 13 (cI 1),
mV 6 14] [0,1,2,6])
def ST (C:Hd)(gl:GL)(e:En)(h:aA)(x:Esc)(K:KT):Sf C gl xP e h x K:=⟨_,by simp only[xP,↓wZ,AO.still];rfl⟩
theorem zbK {C gl e h x K}:NW C gl xP ⟨e,h,x⟩ K=(ST C gl e h x K).1:=(ST C gl e h x K).2
def YI:ACode:=.pr [0,1,2,6] (.seq (.seq (rg [mV 10 6,
mV 11 2,
bN 12 .lss 10 11] [0,1,2,6,12])
(.cond 12 .skip
(.exit 0)))
(.seq (.block 1 (.seq (rg [mV 15 6,
mV 7 15] [0,1,2,6,7])
(.block 2 (.loop XI))))
xP))
def TT (C:Hd)(gl:GL)(e:En)(h:aA)(x:Esc)(K:KT):Sf C gl YI e h x K:=⟨_,by simp only[YI,↓wZ,AO.still];rfl⟩
theorem zbL {C gl e h x K}:NW C gl YI ⟨e,h,x⟩ K=(TT C gl e h x K).1:=(TT C gl e h x K).2
theorem zeh {C gl e h x K}:NW C gl (.loop YI) ⟨e,h,x⟩ K=EA C gl YI K [(0,bA e 0),(1,bA e 1),(2,bA e 2),(6,bA e 6)] h x:=YA
def pW:ACode:=(.seq (rg [mV 8 1,
bN 9 .add 8 (cI 1),
mV 6 9] [0,1,2,6])
(.block 0 (.loop YI)))
def sR:AFun:=⟨3,[],pW,true,false⟩
def jN (C:Hd)(gl:GL)(e:En)(h:aA)(x:Esc)(K:KT):Sf C gl pW e h x K:=⟨_,by simp only[pW,↓wZ,AO.still];rfl⟩
theorem zbI {C gl v0 v1 v2 h x K}:NW C gl sR.body ⟨enter [v0,v1,v2],h,x⟩ K=(jN C gl [(0,v0),(1,v1),(2,v2)] h x K).1:=(jN C gl [(0,v0),(1,v1),(2,v2)] h x K).2
def OO:ACode:=.pr [0,2] (.seq (rg [mV 19 2,
mV 20 0,
uO 21 (.conv (.i .u8) 20),
uO 22 (.idxs (cS [0,1,2,2,3,3,3,3,4,4,4,4,4,4,4,4,5,5,5,5,5,5,5,5,5,5,5,5,5,5,5,5,6,6,6,6,6,6,6,6,6,6,6,6,6,6,6,6,6,6,6,6,6,6,6,6,6,6,6,6,6,6,6,6,7,7,7,7,7,7,7,7,7,7,7,7,7,7,7,7,7,7,7,7,7,7,7,7,7,7,7,7,7,7,7,7,7,7,7,7,7,7,7,7,7,7,7,7,7,7,7,7,7,7,7,7,7,7,7,7,7,7,7,7,7,7,7,7,8,8,8,8,8,8,8,8,8,8,8,8,8,8,8,8,8,8,8,8,8,8,8,8,8,8,8,8,8,8,8,8,8,8,8,8,8,8,8,8,8,8,8,8,8,8,8,8,8,8,8,8,8,8,8,8,8,8,8,8,8,8,8,8,8,8,8,8,8,8,8,8,8,8,8,8,8,8,8,8,8,8,8,8,8,8,8,8,8,8,8,8,8,8,8,8,8,8,8,8,8,8,8,8,8,8,8,8,8,8,8,8,8,8,8,8,8,8,8,8,8,8,8,8,8,8,8,8]) 21),
uO 23 (.conv (.i .i64) 22),
bN 24 .add 19 23,
mV 2 24] [2])
.ret)
def NS (C:Hd)(gl:GL)(e:En)(h:aA)(x:Esc)(K:KT):Sf C gl OO e h x K:=⟨_,by simp only[OO,↓wZ,AO.still];rfl⟩
theorem zak {C gl e h x K}:NW C gl OO ⟨e,h,x⟩ K=(NS C gl e h x K).1:=(NS C gl e h x K).2
def PO:ACode:=.pr [0,2] (.seq (.seq (rg [mV 13 0,
bN 14 .geq 13 (.c (.p (.int .u64 256)))] [0,2,14])
(.cond 14 (.seq (rg [mV 15 0,
bN 16 .shr 15 (.c (.p (.int .u64 8))),
mV 0 16] [0,2])
(rg [mV 17 2,
bN 18 .add 17 (cI 8),
mV 2 18] [0,2]))
.skip))
OO)
def OS (C:Hd)(gl:GL)(e:En)(h:aA)(x:Esc)(K:KT):Sf C gl PO e h x K:=⟨_,by simp only[PO,↓wZ,AO.still];rfl⟩
theorem zal {C gl e h x K}:NW C gl PO ⟨e,h,x⟩ K=(OS C gl e h x K).1:=(OS C gl e h x K).2
def QO:ACode:=.pr [0,2] (.seq (.seq (rg [mV 7 0,
bN 8 .geq 7 (.c (.p (.int .u64 65536)))] [0,2,8])
(.cond 8 (.seq (rg [mV 9 0,
bN 10 .shr 9 (.c (.p (.int .u64 16))),
mV 0 10] [0,2])
(rg [mV 11 2,
bN 12 .add 11 (cI 16),
mV 2 12] [0,2]))
.skip))
PO)
def PS (C:Hd)(gl:GL)(e:En)(h:aA)(x:Esc)(K:KT):Sf C gl QO e h x K:=⟨_,by simp only[QO,↓wZ,AO.still];rfl⟩
theorem zam {C gl e h x K}:NW C gl QO ⟨e,h,x⟩ K=(PS C gl e h x K).1:=(PS C gl e h x K).2
def yV:ACode:=(.seq (rg [mV 2 (cI 0)] [0,2])
(.seq (.seq (rg [mV 3 0,
bN 4 .geq 3 (.c (.p (.int .u64 4294967296)))] [0,2,4])
(.cond 4 (.seq (rg [mV 5 0,
bN 6 .shr 5 (.c (.p (.int .u64 32))),
mV 0 6] [0])
(rg [mV 2 (cI 32)] [0,2]))
.skip))
QO))
def GQ:AFun:=⟨1,[.t 2],yV,false,false⟩
def AM (C:Hd)(gl:GL)(e:En)(h:aA)(x:Esc)(K:KT):Sf C gl yV e h x K:=⟨_,by simp only[yV,↓wZ,AO.still];rfl⟩
theorem zaj {C gl v0 h x K}:NW C gl GQ.body ⟨enter [v0],h,x⟩ K=(AM C gl [(0,v0)] h x K).1:=(AM C gl [(0,v0)] h x K).2
def XU:ACode:=(.seq (rg [mV 2 cF] [0])
(.seq (rg [mV 3 0,
cL 4 KK [3,(cS [48,49])],
bN 5 .eql 4 (cS []),
mV 2 5] [2])
.ret))
def CL:AFun:=⟨1,[.t 2],XU,false,false⟩
def lM (C:Hd)(gl:GL)(e:En)(h:aA)(x:Esc)(K:KT):Sf C gl XU e h x K:=⟨_,by simp only[XU,↓wZ,AO.still];rfl⟩
theorem z8Z {C gl v0 h x K}:NW C gl CL.body ⟨enter [v0],h,x⟩ K=(lM C gl [(0,v0)] h x K).1:=(lM C gl [(0,v0)] h x K).2
def VI:ACode:=.pr [0,1,7,8] (.seq (rg [bN 9 .lss 8 7] [0,1,7,8,9])
(.seq (.cond 9 .skip
(.exit 0))
(.seq (.block 1 (.seq (rg [mV 10 8,
mV 5 10] [0,1,5,7,8])
(.seq (rg [mV 11 1,
mV 12 0,
mV 13 5,
iA 14 none 12 13,
lD 15 none 14,
uO 16 (.callv 11 [15])] [0,1,5,7,8,16])
(.cond 16 (.seq (rg [mV 17 5,
mV 4 17] [4])
.ret)
.skip))))
(rg [bN 18 .add 8 (cI 1),
mV 8 18] [0,1,7,8]))))
def NT (C:Hd)(gl:GL)(e:En)(h:aA)(x:Esc)(K:KT):Sf C gl VI e h x K:=⟨_,by simp only[VI,↓wZ,AO.still];rfl⟩
theorem zb9 {C gl e h x K}:NW C gl VI ⟨e,h,x⟩ K=(NT C gl e h x K).1:=(NT C gl e h x K).2
theorem zee {C gl e h x K}:NW C gl (.loop VI) ⟨e,h,x⟩ K=EA C gl VI K [(0,bA e 0),(1,bA e 1),(7,bA e 7),(8,bA e 8)] h x:=YA
def vP:ACode:=.pr [] (.seq (rg [mV 4 (cI (-1))] [4])
.ret)
def OT (C:Hd)(gl:GL)(e:En)(h:aA)(x:Esc)(K:KT):Sf C gl vP e h x K:=⟨_,by simp only[vP,↓wZ,AO.still];rfl⟩
theorem zbA {C gl e h x K}:NW C gl vP ⟨e,h,x⟩ K=(OT C gl e h x K).1:=(OT C gl e h x K).2
def jW:ACode:=(.seq (rg [mV 4 (cI 0)] [0,1])
(.seq (.seq (rg [mV 6 0,
lN 7 6,
mV 8 (cI 0)] [0,1,7,8])
(.block 0 (.loop VI)))
vP))
def nR:AFun:=⟨2,[.t 4],jW,true,false⟩
def cN (C:Hd)(gl:GL)(e:En)(h:aA)(x:Esc)(K:KT):Sf C gl jW e h x K:=⟨_,by simp only[jW,↓wZ,AO.still];rfl⟩
theorem zb8 {C gl v0 v1 h x K}:NW C gl nR.body ⟨enter [v0,v1],h,x⟩ K=(cN C gl [(0,v0),(1,v1)] h x K).1:=(cN C gl [(0,v0),(1,v1)] h x K).2
def CP:ACode:=.pr [0,1,2,3,8,9,10,11] (.seq (.seq (dr [dF (mV 73 1) [1],
dF (bN 74 .gtr 73 (cI 0)) [73],
dF (mV 75 74) [74],
dF (gD 76 75 true (.mv 0)) [0,75],
dF (gD 77 75 true (.mv 1)) [1,75],
dF (gD 78 75 true (.bin .sub 77 (cI 1))) [77,75],
dF (gD 79 75 true (.iaddr none 76 78)) [76,78,75],
dF (gD 80 75 true (.load none 79)) [79,75],
dF (gD 81 75 true (.mv 0)) [0,75],
dF (gD 82 75 true (.mv 11)) [11,75],
dF (gD 83 75 true (.iaddr none 81 82)) [81,82,75],
dF (gD 84 75 true (.load none 83)) [83,75],
dT (gD 85 75 true (.call DF [80,84])) [80,84,75],
dF (gD 86 75 true (.un .not 85)) [85,75],
dF (uO 87 (.pick 75 86 cF)) [75,86]] [0,1,2,3,8,9,10,11,87])
(.cond 87 (.seq (rg [mV 88 0,
mV 89 1,
mV 90 2,
mV 91 11,
cL 92 zc1 [88,89,90,91],
mV 13 92] [0,2,3,8,9,13])
(.seq (rg [mV 93 13,
mV 1 93] [0,1,2,3,8,9])
(.exit 1)))
.skip))
(.seq (rg [mV 95 0,
mV 96 1,
mV 97 2,
mV 98 11,
cL 99 zc3 [95,96,97,98],
mV 94 99,
eX 100 94 0,
eX 101 94 1,
mV 14 100,
mV 15 101] [0,1,2,3,10,14,15])
(.seq (rg [mV 102 15,
mV 9 102] [0,1,2,3,9,10,14])
(.seq (rg [mV 103 14,
mV 104 1,
bN 105 .sub 103 104,
mV 106 2,
mV 107 14,
bN 108 .sub 106 107,
mV 16 105,
mV 17 108] [0,1,2,3,9,10,14,16,17])
(.seq (rg [mV 109 10,
bN 110 .quo 109 (cI 8),
mV 18 110] [0,1,2,3,9,14,16,17,18])
(.seq (rg [mV 111 16,
mV 112 17,
bN 113 .lss 111 112] [0,1,2,3,9,14,16,17,18,113])
(.cond 113 (.seq (rg [mV 114 16,
mV 115 18,
bN 116 .geq 114 115,
mV 8 116] [0,1,2,3,8,9,14])
(.seq (rg [mV 117 0,
mV 118 1,
mV 119 14,
mV 120 3,
cL 121 OG [117,118,119,120]] [0,2,3,8,9,14])
(rg [mV 122 14,
bN 123 .add 122 (cI 1),
mV 1 123] [0,1,2,3,8,9])))
(.seq (rg [mV 124 17,
mV 125 18,
bN 126 .geq 124 125,
mV 8 126] [0,1,2,3,8,9,14])
(.seq (rg [mV 127 0,
mV 128 14,
bN 129 .add 128 (cI 1),
mV 130 2,
mV 131 3,
cL 132 OG [127,129,130,131]] [0,1,3,8,9,14])
(rg [mV 133 14,
mV 2 133] [0,1,2,3,8,9]))))))))))
def bU (C:Hd)(gl:GL)(e:En)(h:aA)(x:Esc)(K:KT):Sf C gl CP e h x K:=⟨_,by simp only[CP,↓wZ,AO.still];rfl⟩
theorem zbW {C gl e h x K}:NW C gl CP ⟨e,h,x⟩ K=(bU C gl e h x K).1:=(bU C gl e h x K).2
def DP:ACode:=.pr [0,1,2,3,8,9,10,11,12] (.seq (.seq (rg [mV 61 8,
mV 62 61,
gD 63 62 true (.mv 9),
uO 64 (.pick 62 63 cF),
mV 65 64,
gD 66 65 true (.mv 12),
gD 67 65 true (.bin .eql 66 (cI 1)),
uO 68 (.pick 65 67 cF)] [0,1,2,3,8,9,10,11,68])
(.cond 68 (.seq (rg [mV 69 0,
mV 70 1,
mV 71 2,
cL 72 zcz [69,70,71]] [0,1,2,3,8,9,10,11,72])
(.cond 72 .ret
.skip))
.skip))
CP)
def cU (C:Hd)(gl:GL)(e:En)(h:aA)(x:Esc)(K:KT):Sf C gl DP e h x K:=⟨_,by simp only[DP,↓wZ,AO.still];rfl⟩
theorem zbX {C gl e h x K}:NW C gl DP ⟨e,h,x⟩ K=(cU C gl e h x K).1:=(cU C gl e h x K).2
def EP:ACode:=.pr [0,1,2,3,8,9,10] (.seq (rg [mV 43 0,
mV 44 1,
mV 45 2,
cL 46 zcv [43,44,45],
mV 42 46,
eX 47 42 0,
eX 48 42 1,
mV 11 47,
mV 12 48] [0,1,2,3,8,9,10,11,12])
(.seq (.seq (rg [mV 49 12,
bN 50 .eql 49 (cI 2)] [0,1,2,3,8,9,10,11,12,50])
(.cond 50 (.seq (rg [mV 51 0,
mV 52 1,
mV 53 2,
cL 54 zc5 [51,52,53]] [0,1,2,3,8,9,10,11])
(.seq (rg [mV 55 2,
bN 56 .sub 55 (cI 1),
mV 57 11,
mV 58 1,
bN 59 .sub 57 58,
bN 60 .sub 56 59,
mV 11 60] [0,1,2,3,8,9,10,11])
(rg [mV 12 (cI 1)] [0,1,2,3,8,9,10,11,12])))
.skip))
DP))
def dU (C:Hd)(gl:GL)(e:En)(h:aA)(x:Esc)(K:KT):Sf C gl EP e h x K:=⟨_,by simp only[EP,↓wZ,AO.still];rfl⟩
theorem zbY {C gl e h x K}:NW C gl EP ⟨e,h,x⟩ K=(dU C gl e h x K).1:=(dU C gl e h x K).2
def cJ:ACode:=.pr [0,1,2,3,8,9] (.block 1 (.seq (rg [mV 19 2,
mV 20 1,
bN 21 .sub 19 20,
mV 10 21] [0,1,2,3,8,9,10])
(.seq (.seq (rg [mV 22 10,
bN 23 .leq 22 (cI 12)] [0,1,2,3,8,9,10,23])
(.cond 23 (.seq (rg [mV 24 0,
mV 25 1,
mV 26 2,
cL 27 IK [24,25,26]] [])
.ret)
.skip))
(.seq (.seq (rg [mV 28 3,
bN 29 .eql 28 (cI 0)] [0,1,2,3,8,9,10,29])
(.cond 29 (.seq (rg [mV 30 0,
mV 31 1,
mV 32 2,
cL 33 zcx [30,31,32]] [])
.ret)
.skip))
(.seq (.seq (rg [mV 34 8,
uO 35 (.un .not 34)] [0,1,2,3,8,9,10,35])
(.cond 35 (.seq (rg [mV 36 0,
mV 37 1,
mV 38 2,
cL 39 zct [36,37,38]] [0,1,2,3,8,9,10])
(rg [mV 40 3,
bN 41 .sub 40 (cI 1),
mV 3 41] [0,1,2,3,8,9,10]))
.skip))
EP)))))
def fU (C:Hd)(gl:GL)(e:En)(h:aA)(x:Esc)(K:KT):Sf C gl cJ e h x K:=⟨_,by simp only[cJ,↓wZ,AO.still];rfl⟩
theorem zbZ {C gl e h x K}:NW C gl cJ ⟨e,h,x⟩ K=(fU C gl e h x K).1:=(fU C gl e h x K).2
theorem zel {C gl e h x K}:NW C gl (.loop cJ) ⟨e,h,x⟩ K=EA C gl cJ K [(0,bA e 0),(1,bA e 1),(2,bA e 2),(3,bA e 3),(8,bA e 8),(9,bA e 9)] h x:=YA
def sW:ACode:=(.seq (rg [mV 8 cT] [0,1,2,3,8])
(.seq (rg [mV 9 cT] [0,1,2,3,8,9])
(.block 0 (.loop cJ))))
def vR:AFun:=⟨4,[],sW,true,false⟩
def nN (C:Hd)(gl:GL)(e:En)(h:aA)(x:Esc)(K:KT):Sf C gl sW e h x K:=⟨_,by simp only[sW,↓wZ,AO.still];rfl⟩
theorem zbV {C gl v0 v1 v2 v3 h x K}:NW C gl vR.body ⟨enter [v0,v1,v2,v3],h,x⟩ K=(nN C gl [(0,v0),(1,v1),(2,v2),(3,v3)] h x K).1:=(nN C gl [(0,v0),(1,v1),(2,v2),(3,v3)] h x K).2
def OI:ACode:=.pr [0,1,7,8] (.seq (rg [bN 9 .lss 8 7] [0,1,7,8,9])
(.seq (.cond 9 .skip
(.exit 0))
(.seq (.block 1 (.seq (rg [mV 10 8,
mV 5 10] [0,1,5,7,8])
(.seq (rg [mV 11 1,
mV 12 0,
mV 13 5,
uO 14 (.idxs 12 13),
cL 15 JK [11,14],
bN 16 .lss 15 (cI 0)] [0,1,7,8,16])
(.cond 16 (.seq (rg [mV 4 cF] [4])
.ret)
.skip))))
(rg [bN 17 .add 8 (cI 1),
mV 8 17] [0,1,7,8]))))
def vT (C:Hd)(gl:GL)(e:En)(h:aA)(x:Esc)(K:KT):Sf C gl OI e h x K:=⟨_,by simp only[OI,↓wZ,AO.still];rfl⟩
theorem zbg {C gl e h x K}:NW C gl OI ⟨e,h,x⟩ K=(vT C gl e h x K).1:=(vT C gl e h x K).2
theorem zdW {C gl e h x K}:NW C gl (.loop OI) ⟨e,h,x⟩ K=EA C gl OI K [(0,bA e 0),(1,bA e 1),(7,bA e 7),(8,bA e 8)] h x:=YA
def lP:ACode:=.pr [] (.seq (rg [mV 4 cT] [4])
.ret)
def wT (C:Hd)(gl:GL)(e:En)(h:aA)(x:Esc)(K:KT):Sf C gl lP e h x K:=⟨_,by simp only[lP,↓wZ,AO.still];rfl⟩
theorem zbh {C gl e h x K}:NW C gl lP ⟨e,h,x⟩ K=(wT C gl e h x K).1:=(wT C gl e h x K).2
def WV:ACode:=(.seq (rg [mV 4 cF] [0,1])
(.seq (.seq (rg [mV 6 0,
uO 7 (.lens 6),
mV 8 (cI 0)] [0,1,7,8])
(.block 0 (.loop OI)))
lP))
def cR:AFun:=⟨2,[.t 4],WV,false,false⟩
def RM (C:Hd)(gl:GL)(e:En)(h:aA)(x:Esc)(K:KT):Sf C gl WV e h x K:=⟨_,by simp only[WV,↓wZ,AO.still];rfl⟩
theorem zbf {C gl v0 v1 h x K}:NW C gl cR.body ⟨enter [v0,v1],h,x⟩ K=(RM C gl [(0,v0),(1,v1)] h x K).1:=(RM C gl [(0,v0),(1,v1)] h x K).2
def ZV:ACode:=(.det (.seq (rg [mV 2 (.c (.p (.sl none [])))] [0])
(.seq (.seq (rg [mV 3 0,
uO 4 (.isnil 4 false 3)] [0,4])
(.condu 4 (.seq (rg [uO 2 (.new0 none)] [2])
.ret)
.skip))
(.seq (rg [uO 5 (.bsl true none 0 (.int .u64 0) []),
mV 6 0,
uO 7 (.app none 5 6),
mV 2 7] [2])
.ret))))
def gR:AFun:=⟨1,[.t 2],ZV,false,true⟩
def UM (C:Hd)(gl:GL)(e:En)(h:aA)(x:Esc)(K:KT):Sf C gl ZV e h x K:=⟨_,by simp only[ZV,↓wZ,AO.still];rfl⟩
theorem zbk {C gl v0 h x K}:NW C gl gR.body ⟨enter [v0],h,x⟩ K=(UM C gl [(0,v0)] h x K).1:=(UM C gl [(0,v0)] h x K).2
def ZI:ACode:=.pr [0,1,2,6,7] (.seq (.seq (dr [dF (mV 16 7) [7],
dF (mV 17 1) [1],
dF (bN 18 .gtr 16 17) [16,17],
dF (mV 19 18) [18],
dF (gD 20 19 true (.mv 0)) [0,19],
dF (gD 21 19 true (.mv 7)) [7,19],
dF (gD 22 19 true (.iaddr none 20 21)) [20,21,19],
dF (gD 23 19 true (.load none 22)) [22,19],
dF (gD 24 19 true (.mv 0)) [0,19],
dF (gD 25 19 true (.mv 7)) [7,19],
dF (gD 26 19 true (.bin .sub 25 (cI 1))) [25,19],
dF (gD 27 19 true (.iaddr none 24 26)) [24,26,19],
dF (gD 28 19 true (.load none 27)) [27,19],
dT (gD 29 19 true (.call DF [23,28])) [23,28,19],
dF (uO 30 (.pick 19 29 cF)) [19,29]] [0,1,2,6,7,30])
(.cond 30 .skip
(.exit 2)))
(.seq (.block 3 (dr [dF (mV 33 0) [0],
dF (mV 34 7) [7],
dF (mV 35 0) [0],
dF (mV 36 7) [7],
dF (bN 37 .sub 36 (cI 1)) [36],
dF (mV 38 0) [0],
dF (mV 39 7) [7],
dF (bN 40 .sub 39 (cI 1)) [39],
dF (iA 41 none 38 40) [38,40],
dF (lD 42 none 41) [41],
dF (mV 43 0) [0],
dF (mV 44 7) [7],
dF (iA 45 none 43 44) [43,44],
dF (lD 46 none 45) [45],
dF (iA 47 none 33 34) [33,34],
dT (wO (.store none 47 42)) [47,42],
dF (iA 48 none 35 37) [35,37],
dT (wO (.store none 48 46)) [48,46]] [0,1,2,6,7]))
(rg [mV 31 7,
bN 32 .sub 31 (cI 1),
mV 7 32] [0,1,2,6,7])))
def UT (C:Hd)(gl:GL)(e:En)(h:aA)(x:Esc)(K:KT):Sf C gl ZI e h x K:=⟨_,by simp only[ZI,↓wZ,AO.still];rfl⟩
theorem zbN {C gl e h x K}:NW C gl ZI ⟨e,h,x⟩ K=(UT C gl e h x K).1:=(UT C gl e h x K).2
theorem zei {C gl e h x K}:NW C gl (.loop ZI) ⟨e,h,x⟩ K=EA C gl ZI K [(0,bA e 0),(1,bA e 1),(2,bA e 2),(6,bA e 6),(7,bA e 7)] h x:=YA
def yP:ACode:=.pr [0,1,2,6] (rg [mV 13 6,
bN 14 .add 13 (cI 1),
mV 6 14] [0,1,2,6])
def VT (C:Hd)(gl:GL)(e:En)(h:aA)(x:Esc)(K:KT):Sf C gl yP e h x K:=⟨_,by simp only[yP,↓wZ,AO.still];rfl⟩
theorem zbO {C gl e h x K}:NW C gl yP ⟨e,h,x⟩ K=(VT C gl e h x K).1:=(VT C gl e h x K).2
def aJ:ACode:=.pr [0,1,2,6] (.seq (.seq (rg [mV 10 6,
mV 11 2,
bN 12 .lss 10 11] [0,1,2,6,12])
(.cond 12 .skip
(.exit 0)))
(.seq (.block 1 (.seq (rg [mV 15 6,
mV 7 15] [0,1,2,6,7])
(.block 2 (.loop ZI))))
yP))
def WT (C:Hd)(gl:GL)(e:En)(h:aA)(x:Esc)(K:KT):Sf C gl aJ e h x K:=⟨_,by simp only[aJ,↓wZ,AO.still];rfl⟩
theorem zbP {C gl e h x K}:NW C gl aJ ⟨e,h,x⟩ K=(WT C gl e h x K).1:=(WT C gl e h x K).2
theorem zej {C gl e h x K}:NW C gl (.loop aJ) ⟨e,h,x⟩ K=EA C gl aJ K [(0,bA e 0),(1,bA e 1),(2,bA e 2),(6,bA e 6)] h x:=YA
def qW:ACode:=(.seq (rg [mV 8 1,
bN 9 .add 8 (cI 1),
mV 6 9] [0,1,2,6])
(.block 0 (.loop aJ)))
def tR:AFun:=⟨3,[],qW,true,false⟩
def kN (C:Hd)(gl:GL)(e:En)(h:aA)(x:Esc)(K:KT):Sf C gl qW e h x K:=⟨_,by simp only[qW,↓wZ,AO.still];rfl⟩
theorem zbM {C gl v0 v1 v2 h x K}:NW C gl tR.body ⟨enter [v0,v1,v2],h,x⟩ K=(kN C gl [(0,v0),(1,v1),(2,v2)] h x K).1:=(kN C gl [(0,v0),(1,v1),(2,v2)] h x K).2
def aV:ACode:=(.seq (rg [mV 4 cF] [0,1])
(.seq (rg [mV 5 0,
cL 6 JH [5],
mV 7 6,
gD 8 7 true (.mv 1),
gD 9 7 true (.call JH [8]),
gD 10 7 true (.un .not 9),
uO 11 (.pick 7 10 cF),
mV 12 11,
gD 13 12 false (.mv 0),
gD 14 12 false (.mv 1),
gD 15 12 false (.bin .lss 13 14),
uO 16 (.pick 12 cT 15),
mV 4 16] [4])
.ret))
def uQ:AFun:=⟨2,[.t 4],aV,false,false⟩
def oM (C:Hd)(gl:GL)(e:En)(h:aA)(x:Esc)(K:KT):Sf C gl aV e h x K:=⟨_,by simp only[aV,↓wZ,AO.still];rfl⟩
theorem z9c {C gl v0 v1 h x K}:NW C gl uQ.body ⟨enter [v0,v1],h,x⟩ K=(oM C gl [(0,v0),(1,v1)] h x K).1:=(oM C gl [(0,v0),(1,v1)] h x K).2
def tW:ACode:=(.seq (rg [mV 4 (cI 0)] [0,1])
(.seq (rg [mV 5 0,
mV 6 1,
cL 7 jK [5,6],
mV 4 7] [4])
.ret))
def wR:AFun:=⟨2,[.t 4],tW,false,false⟩
def oN (C:Hd)(gl:GL)(e:En)(h:aA)(x:Esc)(K:KT):Sf C gl tW e h x K:=⟨_,by simp only[tW,↓wZ,AO.still];rfl⟩
theorem zca {C gl v0 v1 h x K}:NW C gl wR.body ⟨enter [v0,v1],h,x⟩ K=(oN C gl [(0,v0),(1,v1)] h x K).1:=(oN C gl [(0,v0),(1,v1)] h x K).2
def cV:ACode:=(.seq (rg [mV 2 cF] [0])
(.seq (rg [mV 3 0,
mV 4 0,
bN 5 .neq 3 4,
mV 2 5] [2])
.ret))
def vQ:AFun:=⟨1,[.t 2],cV,false,false⟩
def qM (C:Hd)(gl:GL)(e:En)(h:aA)(x:Esc)(K:KT):Sf C gl cV e h x K:=⟨_,by simp only[cV,↓wZ,AO.still];rfl⟩
theorem z9e {C gl v0 h x K}:NW C gl vQ.body ⟨enter [v0],h,x⟩ K=(qM C gl [(0,v0)] h x K).1:=(qM C gl [(0,v0)] h x K).2
def wV:ACode:=(.seq (rg [mV 4 (cI 0)] [0,1])
(.seq (rg [mV 5 0,
mV 6 1,
cL 7 CF [5,6],
mV 4 7] [4])
.ret))
def EQ:AFun:=⟨2,[.t 4],wV,false,false⟩
def yM (C:Hd)(gl:GL)(e:En)(h:aA)(x:Esc)(K:KT):Sf C gl wV e h x K:=⟨_,by simp only[wV,↓wZ,AO.still];rfl⟩
theorem zah {C gl v0 v1 h x K}:NW C gl EQ.body ⟨enter [v0,v1],h,x⟩ K=(yM C gl [(0,v0),(1,v1)] h x K).1:=(yM C gl [(0,v0),(1,v1)] h x K).2
def zfi:ACode:=.pr [5,6,7] (.seq (rg [bN 8 .lss 7 6] [5,6,7,8])
(.seq (.cond 8 .skip
(.exit 0))
(.seq (.block 1 (.seq (rg [iA 9 none 5 7,
lD 10 none 9,
mV 4 10] [4,5,6,7])
(.seq (rg [mV 11 4,
bN 12 .neq 11 (cI 0)] [4,5,6,7,12])
(.cond 12 (.seq (rg [mV 13 4,
mV 2 13] [2])
.ret)
.skip))))
(rg [bN 14 .add 7 (cI 1),
mV 7 14] [5,6,7]))))
def zfj:ACode:=.pr [] (.seq (rg [mV 2 (cI 0)] [2])
.ret)
def zfh:ACode:=(.seq (rg [mV 2 (cI 0)] [0])
(.seq (.seq (rg [mV 5 0,
lN 6 5,
mV 7 (cI 0)] [5,6,7])
(.block 0 (.loop zfi)))
zfj))
def z5n:AFun:=⟨1,[.t 2],zfh,false,false⟩
def zfk:ACode:=(.seq (rg [uO 4 (.alloc [.p (.int .i64 0),.p (.int .i64 0)])] [0,1,4])
(.seq (rg [mV 6 0,
mV 7 0,
uO 8 (.un .neg 7),
uO 9 (.mx [6,8]),
mV 10 1,
cL 11 ZZ [9,10],
mV 5 11] [0,1,4,5])
(.seq (dr [dF (mV 12 0) [0],
dF (mV 13 5) [5],
dF (bN 14 .quo 12 13) [12,13],
dF (mV 15 1) [1],
dF (mV 16 5) [5],
dF (bN 17 .quo 15 16) [15,16],
dF (uO 18 (.build [.p (.int .i64 0),.p (.int .i64 0)] [(0,1,14),(1,1,17)])) [14,17],
dT (wO (.store (some 2) 4 18)) [4,18]] [4])
.ret)))
def z5o:AFun:=⟨2,[.cell 4 (some 2)],zfk,false,false⟩
def zfm:ACode:=.pr [0,1] (.seq (.seq (rg [mV 5 1,
bN 6 .neq 5 (cI 0)] [0,1,6])
(.cond 6 .skip
(.exit 0)))
(.block 1 (dr [dF (mV 7 1) [1],
dF (mV 8 0) [0],
dF (mV 9 1) [1],
dF (bN 10 .rem 8 9) [8,9],
dF (mV 0 7) [7],
dF (mV 1 10) [10]] [0,1])))
def zfn:ACode:=.pr [0] (.seq (rg [mV 11 0,
mV 4 11] [4])
.ret)
def zfl:ACode:=(.seq (rg [mV 4 (cI 0)] [0,1])
(.seq (.block 0 (.loop zfm))
zfn))
def z5p:AFun:=⟨2,[.t 4],zfl,false,false⟩
def zfp:ACode:=.pr [0,23,24] (.seq (rg [bN 25 .lss 24 23] [0,23,24,25])
(.seq (.cond 25 .skip
(.exit 0))
(.seq (.block 1 (.seq (rg [mV 26 24,
mV 3 26] [0,3,23,24])
(.seq (rg [mV 27 0,
mV 28 3,
uO 29 (.idxs 27 28),
mV 4 29] [0,4,23,24])
(.seq (rg [mV 30 4,
bN 31 .geq 30 (.c (.p (.int .u8 97))),
mV 32 31,
gD 33 32 true (.mv 4),
gD 34 32 true (.bin .leq 33 (.c (.p (.int .u8 122)))),
uO 35 (.pick 32 34 cF),
mV 36 35,
gD 37 36 false (.mv 4),
gD 38 36 false (.bin .geq 37 (.c (.p (.int .u8 48)))),
gD 39 36 false (.mv 38),
gD 40 39 true (.mv 4),
gD 41 39 true (.bin .leq 40 (.c (.p (.int .u8 57)))),
gD 42 36 false (.pick 39 41 cF),
uO 43 (.pick 36 cT 42),
mV 44 43,
gD 45 44 false (.mv 4),
gD 46 44 false (.bin .eql 45 (.c (.p (.int .u8 45)))),
uO 47 (.pick 44 cT 46),
mV 48 47,
gD 49 48 false (.mv 4),
gD 50 48 false (.bin .eql 49 (.c (.p (.int .u8 95)))),
uO 51 (.pick 48 cT 50),
uO 52 (.un .not 51)] [0,23,24,52])
(.cond 52 (.seq (rg [mV 2 cF] [2])
.ret)
.skip)))))
(rg [bN 53 .add 24 (cI 1),
mV 24 53] [0,23,24]))))
def zfq:ACode:=.pr [] (.seq (rg [mV 2 cT] [2])
.ret)
def zfo:ACode:=(.seq (rg [mV 2 cF] [0])
(.seq (.seq (rg [mV 5 0,
bN 6 .eql 5 (cS []),
mV 7 6,
gD 8 7 false (.mv 0),
gD 9 7 false (.lens 8),
gD 10 7 false (.bin .gtr 9 (cI 40)),
uO 11 (.pick 7 cT 10),
mV 12 11,
gD 13 12 false (.mv 0),
gD 14 12 false (.idxs 13 (cI 0)),
gD 15 12 false (.bin .lss 14 (.c (.p (.int .u8 97)))),
uO 16 (.pick 12 cT 15),
mV 17 16,
gD 18 17 false (.mv 0),
gD 19 17 false (.idxs 18 (cI 0)),
gD 20 17 false (.bin .gtr 19 (.c (.p (.int .u8 122)))),
uO 21 (.pick 17 cT 20)] [0,21])
(.cond 21 (.seq (rg [mV 2 cF] [2])
.ret)
.skip))
(.seq (.seq (rg [mV 22 0,
uO 23 (.lens 22),
mV 24 (cI 0)] [0,23,24])
(.block 0 (.loop zfp)))
zfq)))
def z5q:AFun:=⟨1,[.t 2],zfo,false,false⟩
def zfr:ACode:=(.seq (rg [mV 2 cF] [0])
(.seq (rg [mV 3 0,
cL 4 DB [3,(cI 0),(cI 345686399999)],
uO 5 (.un .not 4),
mV 2 5] [2])
.ret))
def z5r:AFun:=⟨1,[.t 2],zfr,false,false⟩
def zft:ACode:=.pr [2,19,20,21] (.seq (rg [bN 22 .lss 21 20] [2,19,20,21,22])
(.seq (.cond 22 .skip
(.exit 0))
(.seq (.block 1 (.seq (rg [mV 23 21,
iA 24 none 19 21,
lD 25 none 24,
mV 6 23,
mV 7 25] [2,6,7,19,20,21])
(.seq (rg [mV 26 7,
uO 27 (.lens 26),
fA 28 0 none 2,
lD 29 none 28,
mV 30 6,
iA 31 (some 2) 29 30,
fA 32 1 none 31,
lD 33 none 32,
lN 34 33,
bN 35 .neq 27 34,
mV 36 35,
gD 37 36 false (.mv 7),
gD 38 36 false (.call bE [37]),
gD 39 36 false (.un .not 38),
uO 40 (.pick 36 cT 39)] [2,19,20,21,40])
(.cond 40 (.seq (rg [mV 4 (cI 3)] [4])
.ret)
.skip))))
(rg [bN 41 .add 21 (cI 1),
mV 21 41] [2,19,20,21]))))
def zfu:ACode:=.pr [] (.seq (rg [mV 4 (cI 0)] [4])
.ret)
def zfs:ACode:=(.seq (rg [uO 2 (.box 0),
mV 4 (cI 0)] [1,2])
(.seq (.seq (rg [lD 8 (some 3) 2,
cL 9 z0b [8],
mV 5 9] [1,2,5])
(.seq (rg [mV 10 5,
bN 11 .neq 10 (cI 0)] [1,2,5,11])
(.cond 11 (.seq (rg [mV 12 5,
mV 4 12] [4])
.ret)
.skip)))
(.seq (.seq (rg [mV 13 1,
lN 14 13,
fA 15 0 none 2,
lD 16 none 15,
lN 17 16,
bN 18 .neq 14 17] [1,2,18])
(.cond 18 (.seq (rg [mV 4 (cI 3)] [4])
.ret)
.skip))
(.seq (.seq (rg [mV 19 1,
lN 20 19,
mV 21 (cI 0)] [2,19,20,21])
(.block 0 (.loop zft)))
zfu))))
def z5s:AFun:=⟨2,[.t 4],zfs,false,false⟩
def zfw:ACode:=.pr [1,15,16,17] (.seq (rg [bN 18 .lss 17 16] [1,15,16,17,18])
(.seq (.cond 18 .skip
(.exit 0))
(.seq (.block 1 (.seq (rg [mV 19 17,
iA 20 (some 2) 15 17,
lD 21 (some 2) 20,
uO 4 (.alloc [.p (.str []),.sl0 (some 4)]),
mV 3 19,
wO (.store (some 2) 4 21)] [1,3,4,15,16,17])
(.seq (.block 2 (.seq (rg [fA 23 0 none 4,
lD 24 none 23,
cL 25 tE [24],
uO 26 (.un .not 25),
mV 22 26] [1,3,4,15,16,17,22])
(.cond 22 (.seq (rg [mV 2 (cI 5)] [2])
.ret)
(.seq (dr [dF (mV 28 3) [3],
dF (bN 29 .gtr 28 (cI 0)) [28],
dF (mV 30 29) [29],
dF (gD 31 30 true (.faddr 0 none 4)) [4,30],
dF (gD 32 30 true (.load none 31)) [31,30],
dF (gD 33 30 true (.faddr 0 none 1)) [1,30],
dF (gD 34 30 true (.load none 33)) [33,30],
dF (gD 35 30 true (.mv 3)) [3,30],
dF (gD 36 30 true (.bin .sub 35 (cI 1))) [35,30],
dF (gD 37 30 true (.iaddr (some 2) 34 36)) [34,36,30],
dF (gD 38 30 true (.faddr 0 none 37)) [37,30],
dF (gD 39 30 true (.load none 38)) [38,30],
dF (gD 40 30 true (.bin .leq 32 39)) [32,39,30],
dF (uO 41 (.pick 30 40 cF)) [30,40],
dF (mV 27 41) [41]] [1,4,15,16,17,27])
(.cond 27 (.seq (rg [mV 2 (cI 7)] [2])
.ret)
.skip)))))
(.seq (rg [lD 42 (some 2) 4,
cL 43 z0g [42],
mV 5 43] [1,5,15,16,17])
(.seq (rg [mV 44 5,
bN 45 .neq 44 (cI 0)] [1,5,15,16,17,45])
(.cond 45 (.seq (rg [mV 46 5,
mV 2 46] [2])
.ret)
.skip))))))
(rg [bN 47 .add 17 (cI 1),
mV 17 47] [1,15,16,17]))))
def zfx:ACode:=.pr [1,7,59,60,61] (.seq (rg [bN 62 .lss 61 60] [1,7,59,60,61,62])
(.seq (.cond 62 .skip
(.exit 3))
(.seq (.block 4 (.seq (rg [mV 63 61,
iA 64 (some 2) 59 61,
lD 65 (some 2) 64,
uO 9 (.alloc [.p (.str []),.p (.int .i64 0)]),
mV 8 63,
wO (.store (some 2) 9 65)] [1,7,8,9,59,60,61])
(.block 5 (.seq (rg [mV 67 7,
fA 68 0 none 9,
lD 69 none 68,
cL 70 zU [67,69],
uO 71 (.un .not 70),
mV 66 71] [1,7,8,9,59,60,61,66])
(.cond 66 (.seq (rg [mV 2 (cI 8)] [2])
.ret)
(.seq (rg [fA 73 1 none 9,
lD 74 none 73,
cL 75 DB [74,(cI 0),(cI 1)],
mV 72 75] [1,7,8,9,59,60,61,72])
(.cond 72 (.seq (rg [mV 2 (cI 1)] [2])
.ret)
(.seq (dr [dF (mV 77 8) [8],
dF (bN 78 .gtr 77 (cI 0)) [77],
dF (mV 79 78) [78],
dF (gD 80 79 true (.faddr 0 none 9)) [9,79],
dF (gD 81 79 true (.load none 80)) [80,79],
dF (gD 82 79 true (.faddr 2 none 1)) [1,79],
dF (gD 83 79 true (.load none 82)) [82,79],
dF (gD 84 79 true (.mv 8)) [8,79],
dF (gD 85 79 true (.bin .sub 84 (cI 1))) [84,79],
dF (gD 86 79 true (.iaddr (some 2) 83 85)) [83,85,79],
dF (gD 87 79 true (.faddr 0 none 86)) [86,79],
dF (gD 88 79 true (.load none 87)) [87,79],
dF (gD 89 79 true (.bin .leq 81 88)) [81,88,79],
dF (uO 90 (.pick 79 89 cF)) [79,89],
dF (mV 76 90) [90]] [1,7,59,60,61,76])
(.cond 76 (.seq (rg [mV 2 (cI 7)] [2])
.ret)
.skip)))))))))
(rg [bN 91 .add 61 (cI 1),
mV 61 91] [1,7,59,60,61]))))
def zfy:ACode:=.pr [] (.seq (rg [mV 2 (cI 0)] [2])
.ret)
def zfz:ACode:=.pr [1] (.seq (.seq (rg [lD 48 (some 3) 1,
cL 49 z0k [48],
mV 6 49] [1,6])
(.seq (rg [mV 50 6,
bN 51 .neq 50 (cI 0)] [1,6,51])
(.cond 51 (.seq (rg [mV 52 6,
mV 2 52] [2])
.ret)
.skip)))
(.seq (rg [lD 53 (some 3) 1,
cL 54 yN [53],
mV 7 54] [1,7])
(.seq (.seq (rg [mV 55 7,
lN 56 55,
bN 57 .gtr 56 (cI 100)] [1,7,57])
(.cond 57 (.seq (rg [mV 2 (cI 2)] [2])
.ret)
.skip))
(.seq (.seq (rg [fA 58 2 none 1,
lD 59 none 58,
lN 60 59,
mV 61 (cI 0)] [1,7,59,60,61])
(.block 3 (.loop (.scope zfx))))
zfy))))
def zfv:ACode:=(.seq (rg [uO 1 (.box 0),
mV 2 (cI 0)] [1])
(.seq (.seq (rg [fA 10 0 none 1,
lD 11 none 10,
lN 12 11,
bN 13 .gtr 12 (cI 40)] [1,13])
(.cond 13 (.seq (rg [mV 2 (cI 2)] [2])
.ret)
.skip))
(.seq (.seq (rg [fA 14 0 none 1,
lD 15 none 14,
lN 16 15,
mV 17 (cI 0)] [1,15,16,17])
(.block 0 (.loop (.scope zfw))))
zfz)))
def z5t:AFun:=⟨1,[.t 2],zfv,false,false⟩
def zf1:ACode:=.pr [7,8,21,22,23] (.seq (rg [bN 24 .lss 23 22] [7,8,21,22,23,24])
(.seq (.cond 24 .skip
(.exit 0))
(.seq (.block 1 (.seq (rg [iA 25 none 21 23,
lD 26 none 25,
mV 10 26] [7,8,10,21,22,23])
(rg [mV 27 8,
mV 28 7,
mV 29 10,
uO 30 (.look (none,[2]) false (AI 0) 28 29),
uO 31 (.bsl false none 1 (.int .i64 0) [(0,30)]),
uO 32 (.app none 27 31),
mV 8 32] [7,8,21,22,23])))
(rg [bN 33 .add 23 (cI 1),
mV 23 33] [7,8,21,22,23]))))
def zf2:ACode:=.pr [8] (.seq (rg [mV 34 8,
mV 4 34,
mV 5 (cI 0)] [4,5])
.ret)
def zf0:ACode:=(.seq (rg [uO 2 (.box 0),
mV 4 (.c (.p (.sl none []))),
mV 5 (cI 0)] [1,2])
(.seq (.seq (rg [lD 11 (some 3) 2,
mV 12 1,
cL 13 z0a [11,12],
mV 6 13] [1,2,6])
(.seq (rg [mV 14 6,
bN 15 .neq 14 (cI 0)] [1,2,6,15])
(.cond 15 (.seq (rg [mV 16 6,
mV 4 (.c (.p (.sl none []))),
mV 5 16] [4,5])
.ret)
.skip)))
(.seq (rg [lD 17 (some 3) 2,
mV 18 1,
cL 19 z0l [17,18],
mV 7 19] [2,7])
(.seq (rg [uO 8 (.new0 none)] [2,7,8])
(.seq (.seq (rg [lD 20 (some 3) 2,
cL 21 yN [20],
lN 22 21,
mV 23 (cI 0)] [7,8,21,22,23])
(.block 0 (.loop (.scope zf1))))
zf2)))))
def z5u:AFun:=⟨2,[.t 4,.t 5],zf0,false,false⟩
def zf3:ACode:=(.seq (rg [uO 2 (.box 0),
uO 3 (.box 1),
mV 4 (cI 0)] [2,3])
(.seq (dr [dF (fA 5 0 none 2) [2],
dF (lD 6 none 5) [5],
dF (fA 7 0 none 3) [3],
dF (lD 8 none 7) [7],
dT (cL 9 UH [6,8]) [6,8],
dF (fA 10 1 none 2) [2],
dA (lD 11 none 10) [10] false [4] [],
dF (fA 12 1 none 3) [3],
dA (lD 13 none 12) [12] false [4] [],
dT (cL 14 UH [11,13]) [11,13],
dF (fA 15 2 none 2) [2],
dA (lD 16 none 15) [15] false [4,9] [],
dF (fA 17 2 none 3) [3],
dA (lD 18 none 17) [17] false [4,9] [],
dT (cL 19 UH [16,18]) [16,18],
dF (uO 20 (.bsl false none 3 (.int .i64 0) [(0,9),(1,14),(2,19)])) [9,14,19],
dT (cL 21 xU [20]) [20],
dF (mV 4 21) [21]] [4])
.ret))
def z5v:AFun:=⟨2,[.t 4],zf3,false,false⟩
def zf4:ACode:=(.seq (rg [uO 2 (.box 0),
uO 3 (.box 1),
mV 4 (cI 0)] [2,3])
(.seq (.block 0 (.seq (rg [fA 6 0 none 3,
lD 7 none 6,
cL 8 DB [7,(cI 1),(cI 4)],
mV 5 8] [2,3,5])
(.cond 5 (.seq (rg [mV 4 (cI 4)] [4])
.ret)
(.seq (rg [lD 10 (some 4) 3,
cL 11 cK [10],
mV 12 11,
gD 13 12 true (.faddr 1 none 3),
gD 14 12 true (.load none 13),
gD 15 12 true (.call tE [14]),
gD 16 12 true (.un .not 15),
uO 17 (.pick 12 16 cF),
mV 9 17] [2,3,9])
(.cond 9 (.seq (rg [mV 4 (cI 5)] [4])
.ret)
(.seq (rg [lD 19 (some 4) 3,
cL 20 cK [19],
uO 21 (.un .not 20),
mV 22 21,
gD 23 22 true (.faddr 1 none 3),
gD 24 22 true (.load none 23),
gD 25 22 true (.bin .neq 24 (cS [])),
uO 26 (.pick 22 25 cF),
mV 18 26] [2,3,18])
(.cond 18 (.seq (rg [mV 4 (cI 3)] [4])
.ret)
.skip)))))))
(.seq (.seq (rg [fA 27 0 none 3,
lD 28 none 27,
bN 29 .neq 28 (cI 2)] [2,3,29])
(.cond 29 (.seq (.seq (rg [fA 30 2 none 3,
lD 31 none 30,
bN 32 .neq 31 (cI (-1)),
mV 33 32,
gD 34 33 false (.faddr 3 none 3),
gD 35 33 false (.load none 34),
gD 36 33 false (.bin .neq 35 (cI 0)),
uO 37 (.pick 33 cT 36)] [37])
(.cond 37 (.seq (rg [mV 4 (cI 3)] [4])
.ret)
.skip))
(.seq (rg [mV 4 (cI 0)] [4])
.ret))
.skip))
(.seq (.block 1 (.seq (rg [fA 39 2 none 3,
lD 40 none 39,
bN 41 .neq 40 (cI (-1)),
mV 42 41,
gD 43 42 true (.faddr 2 none 3),
gD 44 42 true (.load none 43),
gD 45 42 true (.faddr 1 none 2),
gD 46 42 true (.load none 45),
gD 47 42 true (.len 46),
gD 48 42 true (.bin .sub 47 (cI 1)),
gD 49 42 true (.call DB [44,(cI 0),48]),
gD 50 42 true (.mv 49),
gD 51 50 false (.faddr 1 none 2),
gD 52 50 false (.load none 51),
gD 53 50 false (.faddr 2 none 3),
gD 54 50 false (.load none 53),
gD 55 50 false (.iaddr (some 4) 52 54),
gD 56 50 false (.faddr 0 none 55),
gD 57 50 false (.load none 56),
gD 58 50 false (.bin .neq 57 (cI 3)),
gD 59 42 true (.pick 50 cT 58),
uO 60 (.pick 42 59 cF),
mV 38 60] [3,38])
(.cond 38 (.seq (rg [mV 4 (cI 8)] [4])
.ret)
(.seq (rg [fA 62 3 none 3,
lD 63 none 62,
cL 64 DB [63,(cI 0),(cI 1)],
mV 65 64,
gD 66 65 false (.faddr 2 none 3),
gD 67 65 false (.load none 66),
gD 68 65 false (.bin .eql 67 (cI (-1))),
gD 69 65 false (.mv 68),
gD 70 69 true (.faddr 3 none 3),
gD 71 69 true (.load none 70),
gD 72 69 true (.bin .neq 71 (cI 0)),
gD 73 65 false (.pick 69 72 cF),
uO 74 (.pick 65 cT 73),
mV 61 74] [61])
(.cond 61 (.seq (rg [mV 4 (cI 1)] [4])
.ret)
.skip)))))
(.seq (rg [mV 4 (cI 0)] [4])
.ret)))))
def z5w:AFun:=⟨2,[.t 4],zf4,false,false⟩
def zf6:ACode:=.pr [1,5,6,7,8,17,18,19,25,26,27] (rg [bN 57 .add 27 (cI 1),
mV 27 57] [1,5,6,7,8,17,18,19,25,26,27])
def zf7:ACode:=.pr [1,5,6,7,8,17,18,19,25,26,27] (.seq (rg [bN 28 .lss 27 26] [1,5,6,7,8,17,18,19,25,26,27,28])
(.seq (.cond 28 .skip
(.exit 2))
(.seq (.block 3 (.seq (rg [mV 29 27,
iA 30 (some 4) 25 27,
lD 31 (some 4) 30,
uO 10 (.alloc [.p (.int .i64 0),.p (.str []),.p (.int .i64 0),.p (.int .i64 0)]),
mV 9 29,
wO (.store (some 4) 10 31)] [1,5,6,7,8,9,10,17,18,19,25,26,27])
(.seq (.seq (rg [fA 32 0 none 10,
lD 33 none 32,
mV 34 1,
bN 35 .neq 33 34] [1,5,6,7,8,9,10,17,18,19,25,26,27,35])
(.cond 35 (.exit 3)
.skip))
(.seq (rg [mV 37 5,
fA 38 0 none 8,
lD 39 none 38,
fA 40 1 none 10,
lD 41 none 40,
uO 42 (.build [.p (.str []),.p (.str [])] [(0,1,39),(1,1,41)]),
uO 43 (.look ((some 2),[2,2]) true (.p (.str [])) 37 42),
mV 36 43,
eX 44 36 0,
eX 45 36 1,
mV 11 44,
mV 12 45] [1,5,6,7,8,9,11,12,17,18,19,25,26,27])
(.seq (rg [mV 46 12] [1,5,6,7,8,9,11,17,18,19,25,26,27,46])
(.cond 46 (rg [mV 47 6,
mV 48 11,
mV 49 6,
mV 50 11,
uO 51 (.look (none,[2]) false (.sl0 (some 2)) 49 50),
mV 52 7,
mV 53 9,
uO 54 (.build [.p (.int .i64 0),.p (.int .i64 0)] [(0,1,52),(1,1,53)]),
uO 55 (.bsl false (some 2) 1 (.agg [.int .i64 0,.int .i64 0]) [(0,54)]),
uO 56 (.app (some 2) 51 55),
wO (.mupd (none,[2]) 47 48 56)] [1,5,6,7,8,17,18,19,25,26,27])
.skip))))))
zf6)))
def zf8:ACode:=.pr [1,5,6,17,18,19] (rg [bN 58 .add 19 (cI 1),
mV 19 58] [1,5,6,17,18,19])
def zf9:ACode:=.pr [1,5,6,17,18,19] (.seq (rg [bN 20 .lss 19 18] [1,5,6,17,18,19,20])
(.seq (.cond 20 .skip
(.exit 0))
(.seq (.block 1 (.seq (rg [mV 21 19,
iA 22 (some 2) 17 19,
lD 23 (some 2) 22,
uO 8 (.alloc [.p (.str []),.sl0 (some 4)]),
mV 7 21,
wO (.store (some 2) 8 23)] [1,5,6,7,8,17,18,19])
(.seq (rg [fA 24 1 none 8,
lD 25 none 24,
lN 26 25,
mV 27 (cI 0)] [1,5,6,7,8,17,18,19,25,26,27])
(.block 2 (.loop (.scope zf7))))))
zf8)))
def zfA:ACode:=.pr [6] (.seq (rg [mV 59 6,
mV 4 59] [4])
.ret)
def zf5:ACode:=(.seq (rg [uO 2 (.box 0),
mV 4 (.c (.nilm))] [1,2])
(.seq (rg [lD 13 (some 3) 2,
cL 14 z0m [13],
mV 5 14] [1,2,5])
(.seq (rg [uO 15 (.mkmap),
mV 6 15] [1,2,5,6])
(.seq (.seq (rg [fA 16 0 none 2,
lD 17 none 16,
lN 18 17,
mV 19 (cI 0)] [1,5,6,17,18,19])
(.block 0 (.loop (.scope zf9))))
zfA))))
def z5x:AFun:=⟨2,[.t 4],zf5,false,false⟩
def zfC:ACode:=.pr [1,13,14,15] (.seq (rg [bN 16 .lss 15 14] [1,13,14,15,16])
(.seq (.cond 16 .skip
(.exit 0))
(.seq (.block 1 (.seq (rg [iA 17 (some 4) 13 15,
lD 18 (some 4) 17,
uO 4 (.alloc [.p (.int .i64 0),.p (.str []),.p (.int .i64 0),.p (.int .i64 0)]),
wO (.store (some 4) 4 18)] [1,4,13,14,15])
(.seq (rg [lD 19 (some 2) 1,
lD 20 (some 4) 4,
cL 21 z0e [19,20],
mV 5 21] [1,5,13,14,15])
(.seq (rg [mV 22 5,
bN 23 .neq 22 (cI 0)] [1,5,13,14,15,23])
(.cond 23 (.seq (rg [mV 24 5,
mV 2 24] [2])
.ret)
.skip)))))
(rg [bN 25 .add 15 (cI 1),
mV 15 25] [1,13,14,15]))))
def zfD:ACode:=.pr [1,27,28,29] (.seq (rg [bN 30 .lss 29 28] [1,27,28,29,30])
(.seq (.cond 30 .skip
(.exit 2))
(.seq (.block 3 (.seq (rg [mV 31 29,
iA 32 (some 4) 27 29,
lD 33 (some 4) 32,
uO 7 (.alloc [.p (.int .i64 0),.p (.str []),.p (.int .i64 0),.p (.int .i64 0)]),
mV 6 31,
wO (.store (some 4) 7 33)] [1,6,7,27,28,29])
(.seq (rg [lD 34 (some 4) 7,
cL 35 cK [34],
mV 36 35,
gD 37 36 true (.faddr 1 none 1),
gD 38 36 true (.load none 37),
gD 39 36 true (.mv 6),
gD 40 36 true (.slice (some 4) 38 none (some 39) none),
gD 41 36 true (.mkfn z0h [7]),
gD 42 36 true (.call yU [40,41]),
uO 43 (.pick 36 42 cF)] [1,27,28,29,43])
(.cond 43 (.seq (rg [mV 2 (cI 6)] [2])
.ret)
.skip))))
(rg [bN 44 .add 29 (cI 1),
mV 29 44] [1,27,28,29]))))
def zfE:ACode:=.pr [] (.seq (rg [mV 2 (cI 0)] [2])
.ret)
def zfF:ACode:=.pr [1] (.seq (.seq (rg [fA 26 1 none 1,
lD 27 none 26,
lN 28 27,
mV 29 (cI 0)] [1,27,28,29])
(.block 2 (.loop (.scope zfD))))
zfE)
def zfB:ACode:=(.seq (rg [uO 1 (.box 0),
mV 2 (cI 0)] [1])
(.seq (.seq (rg [fA 8 1 none 1,
lD 9 none 8,
lN 10 9,
bN 11 .gtr 10 (cI 200)] [1,11])
(.cond 11 (.seq (rg [mV 2 (cI 2)] [2])
.ret)
.skip))
(.seq (.seq (rg [fA 12 1 none 1,
lD 13 none 12,
lN 14 13,
mV 15 (cI 0)] [1,13,14,15])
(.block 0 (.loop (.scope zfC))))
zfF)))
def z5y:AFun:=⟨1,[.t 2],zfB,false,false⟩
def zfG:ACode:=(.seq (rg [uO 2 (.box 0),
mV 3 cF] [1,2])
(.seq (rg [fA 4 0 none 2,
lD 5 none 4,
fA 6 0 none 1,
lD 7 none 6,
bN 8 .eql 5 7,
mV 9 8,
gD 10 9 true (.faddr 1 none 2),
gD 11 9 true (.load none 10),
gD 12 9 true (.faddr 1 none 1),
gD 13 9 true (.load none 12),
gD 14 9 true (.bin .eql 11 13),
uO 15 (.pick 9 14 cF),
mV 3 15] [3])
.ret))
def z5z:AFun:=⟨2,[.t 3],zfG,false,false⟩
def zfH:ACode:=(.seq (rg [uO 2 (.box 0),
mV 4 (cI 0)] [1,2])
(.seq (rg [fA 8 0 none 2,
lD 9 none 8,
mV 10 1,
cL 11 z0z [9,10,(.f z0j)],
mV 7 11,
eX 12 7 0,
eX 13 7 1,
mV 5 12,
mV 6 13] [5,6])
(.seq (.seq (rg [mV 14 6,
uO 15 (.un .not 14)] [5,15])
(.cond 15 (.seq (rg [mV 4 (cI (-1))] [4])
.ret)
.skip))
(.seq (rg [mV 16 5,
mV 4 16] [4])
.ret))))
def z50:AFun:=⟨2,[.t 4],zfH,false,false⟩
def zfI:ACode:=(.seq (rg [uO 2 (.box 0),
mV 4 (cI 0)] [1,2])
(.seq (rg [fA 5 0 none 2,
lD 6 none 5,
mV 7 1,
cL 8 UH [6,7],
mV 4 8] [4])
.ret))
def z52:AFun:=⟨2,[.t 4],zfI,false,false⟩
def zfJ:ACode:=(.seq (rg [uO 1 (.box 0),
mV 2 cF] [1])
(.seq (rg [fA 3 0 none 1,
lD 4 none 3,
bN 5 .eql 4 (cI 1),
mV 6 5,
gD 7 6 false (.faddr 0 none 1),
gD 8 6 false (.load none 7),
gD 9 6 false (.bin .eql 8 (cI 2)),
uO 10 (.pick 6 cT 9),
mV 2 10] [2])
.ret))
def z54:AFun:=⟨1,[.t 2],zfJ,false,false⟩
def zfL:ACode:=.pr [1,14,15,16] (.seq (rg [bN 17 .lss 16 15] [1,14,15,16,17])
(.seq (.cond 17 .skip
(.exit 0))
(.seq (.block 1 (.seq (rg [mV 18 16,
iA 19 (some 3) 14 16,
lD 20 (some 3) 19,
uO 4 (.alloc [.p (.str []),.p (.str []),.p (.str [])]),
mV 3 18,
wO (.store (some 3) 4 20)] [1,3,4,14,15,16])
(.block 2 (.seq (rg [fA 22 0 none 4,
lD 23 none 22,
cL 24 tE [23],
uO 25 (.un .not 24),
mV 21 25] [1,3,4,14,15,16,21])
(.cond 21 (.seq (rg [mV 2 (cI 5)] [2])
.ret)
(.seq (rg [lD 27 (some 3) 1,
fA 28 1 none 4,
lD 29 none 28,
fA 30 2 none 4,
lD 31 none 30,
cL 32 z0n [27,29,31],
uO 33 (.un .not 32),
mV 26 33] [1,3,4,14,15,16,26])
(.cond 26 (.seq (rg [mV 2 (cI 8)] [2])
.ret)
(.seq (dr [dF (mV 35 3) [3],
dF (bN 36 .gtr 35 (cI 0)) [35],
dF (mV 37 36) [36],
dF (gD 38 37 true (.load (some 3) 4)) [4,37],
dF (gD 39 37 true (.faddr 1 none 1)) [1,37],
dF (gD 40 37 true (.load none 39)) [39,37],
dF (gD 41 37 true (.mv 3)) [3,37],
dF (gD 42 37 true (.bin .sub 41 (cI 1))) [41,37],
dF (gD 43 37 true (.iaddr (some 3) 40 42)) [40,42,37],
dF (gD 44 37 true (.load (some 3) 43)) [43,37],
dT (gD 45 37 true (.call z0d [38,44])) [38,44,37],
dF (gD 46 37 true (.bin .leq 45 (cI 0))) [45,37],
dF (uO 47 (.pick 37 46 cF)) [37,46],
dF (mV 34 47) [47]] [1,14,15,16,34])
(.cond 34 (.seq (rg [mV 2 (cI 7)] [2])
.ret)
.skip)))))))))
(rg [bN 48 .add 16 (cI 1),
mV 16 48] [1,14,15,16]))))
def zfM:ACode:=.pr [5,51,52,53] (.seq (rg [bN 54 .lss 53 52] [5,51,52,53,54])
(.seq (.cond 54 .skip
(.exit 3))
(.seq (.block 4 (.seq (rg [iA 55 (some 3) 51 53,
lD 56 (some 3) 55,
uO 7 (.alloc [.p (.str []),.p (.str []),.p (.str [])]),
wO (.store (some 3) 7 56)] [5,7,51,52,53])
(.seq (rg [fA 57 1 none 7,
lD 58 none 57,
fA 59 2 none 7,
lD 60 none 59,
uO 61 (.build [.p (.str []),.p (.str [])] [(0,1,58),(1,1,60)]),
uO 8 (.alloc [.p (.str []),.p (.str [])]),
wO (.store (some 2) 8 61)] [5,8,51,52,53])
(.seq (.seq (rg [mV 62 5,
lD 63 (some 2) 8,
uO 64 (.look ((some 2),[2,2]) false (AB false) 62 63)] [5,8,51,52,53,64])
(.cond 64 (.seq (rg [mV 2 (cI 6)] [2])
.ret)
.skip))
(rg [mV 65 5,
lD 66 (some 2) 8,
wO (.mupd ((some 2),[2,2]) 65 66 cT)] [5,51,52,53])))))
(rg [bN 67 .add 53 (cI 1),
mV 53 67] [5,51,52,53]))))
def zfN:ACode:=.pr [] (.seq (rg [mV 2 (cI 0)] [2])
.ret)
def zfO:ACode:=.pr [1] (.seq (rg [uO 49 (.mkmap),
mV 5 49] [1,5])
(.seq (.seq (rg [fA 50 1 none 1,
lD 51 none 50,
lN 52 51,
mV 53 (cI 0)] [5,51,52,53])
(.block 3 (.loop (.scope zfM))))
zfN))
def zfK:ACode:=(.seq (rg [uO 1 (.box 0),
mV 2 (cI 0)] [1])
(.seq (.seq (rg [fA 9 1 none 1,
lD 10 none 9,
lN 11 10,
bN 12 .gtr 11 (cI 1000)] [1,12])
(.cond 12 (.seq (rg [mV 2 (cI 2)] [2])
.ret)
.skip))
(.seq (.seq (rg [fA 13 1 none 1,
lD 14 none 13,
lN 15 14,
mV 16 (cI 0)] [1,14,15,16])
(.block 0 (.loop (.scope zfL))))
zfO)))
def z55:AFun:=⟨1,[.t 2],zfK,false,false⟩
end Go.Am
end
section
/- The functions asv abstract code,and asv formulas over their values: printed by program out of the translation. -/
set_option linter.all false
set_option maxRecDepth 100000
namespace Go.Am
def zfQ:ACode:=.pr [1,2,5,20,21,22] (.seq (rg [bN 23 .lss 22 21] [1,2,5,20,21,22,23])
(.seq (.cond 23 .skip
(.exit 0))
(.seq (.block 1 (.seq (rg [iA 24 none 20 22,
lD 25 none 24,
mV 7 25] [1,2,5,7,20,21,22])
(rg [mV 26 5,
mV 27 7,
wO (.mupd (none,[2]) 26 27 (cI 2))] [1,2,5,20,21,22])))
(rg [bN 28 .add 22 (cI 1),
mV 22 28] [1,2,5,20,21,22]))))
def zfR:ACode:=.pr [1,2,5,30,31,32] (.seq (rg [bN 33 .lss 32 31] [1,2,5,30,31,32,33])
(.seq (.cond 33 .skip
(.exit 2))
(.seq (.block 3 (.seq (rg [iA 34 (some 2) 30 32,
lD 35 (some 2) 34,
uO 9 (.alloc [.p (.str []),.p (.int .i64 0)]),
wO (.store (some 2) 9 35)] [1,2,5,9,30,31,32])
(rg [mV 36 5,
fA 37 0 none 9,
lD 38 none 37,
fA 39 1 none 9,
lD 40 none 39,
wO (.mupd (none,[2]) 36 38 40)] [1,2,5,30,31,32])))
(rg [bN 41 .add 32 (cI 1),
mV 32 41] [1,2,5,30,31,32]))))
def zfS:ACode:=.pr [1,2,5,10,17,44,50,51,52] (rg [mV 100 5,
mV 101 10,
mV 102 17,
wO (.mupd (none,[2]) 100 101 102),
mV 12 cT] [1,2,5,10,12,44,50,51,52])
def zfT:ACode:=.pr [1,2,5,10,12,44,50,51,52] (rg [bN 103 .add 52 (cI 1),
mV 52 103] [1,2,5,10,12,44,50,51,52])
def zfU:ACode:=.pr [1,2,5,10,12,44,50,51,52] (.seq (rg [bN 53 .lss 52 51] [1,2,5,10,12,44,50,51,52,53])
(.seq (.cond 53 .skip
(.exit 6))
(.seq (.block 7 (.seq (rg [iA 54 (some 2) 50 52,
lD 55 (some 2) 54,
uO 14 (.alloc [.p (.int .i64 0),.p (.int .i64 0)]),
wO (.store (some 2) 14 55)] [1,2,5,10,12,14,44,50,51,52])
(.seq (dr [dF (fA 56 0 none 2) [2],
dF (lD 57 none 56) [56],
dF (fA 58 0 none 14) [14],
dF (lD 59 none 58) [58],
dF (iA 60 (some 2) 57 59) [57,59],
dF (fA 61 1 none 60) [60],
dF (lD 62 none 61) [61],
dF (fA 63 1 none 14) [14],
dF (lD 64 none 63) [63],
dF (iA 65 (some 4) 62 64) [62,64],
dF (lD 66 (some 4) 65) [65],
dF (mV 67 1) [1],
dF (fA 68 0 none 14) [14],
dF (lD 69 none 68) [68],
dF (iA 70 none 67 69) [67,69],
dF (lD 71 none 70) [70],
dA (uO 15 (.alloc [.p (.int .i64 0),.p (.str []),.p (.int .i64 0),.p (.int .i64 0)])) [] true [] [1,3,4,6,8,9,10,13,14,15],
dA (wO (.store (some 4) 15 66)) [15,66] true [] [13,14,15],
dF (mV 16 71) [71]] [1,2,5,10,12,14,15,16,44,50,51,52])
(.seq (.seq (dr [dF (fA 72 2 none 15) [15],
dF (lD 73 none 72) [72],
dF (bN 74 .geq 73 (cI 0)) [73],
dF (mV 75 74) [74],
dF (gD 76 75 true (.mv 16)) [16,75],
dF (gD 77 75 true (.faddr 2 none 15)) [15,75],
dF (gD 78 75 true (.load none 77)) [77,75],
dF (gD 79 75 true (.idxs 76 78)) [76,78,75],
dF (gD 80 75 true (.bin .sub 79 (.c (.p (.int .u8 48))))) [79,75],
dF (gD 81 75 true (.conv (.i .i64) 80)) [80,75],
dF (gD 82 75 true (.faddr 3 none 15)) [15,75],
dF (gD 83 75 true (.load none 82)) [82,75],
dF (gD 84 75 true (.bin .eql 81 83)) [81,83,75],
dF (uO 85 (.pick 75 84 cF)) [75,84]] [1,2,5,10,12,14,16,44,50,51,52,85])
(.cond 85 (.exit 7)
.skip))
(.seq (rg [mV 86 16,
fA 87 1 none 14,
lD 88 none 87,
uO 89 (.idxs 86 88),
bN 90 .sub 89 (.c (.p (.int .u8 48))),
uO 91 (.conv (.i .i64) 90),
mV 17 91] [1,2,5,10,12,17,44,50,51,52])
(.seq (.seq (rg [mV 92 12,
mV 93 92,
gD 94 93 true (.mv 5),
gD 95 93 true (.mv 10),
gD 96 93 true (.look (none,[2]) false (AI 0) 94 95),
gD 97 93 true (.mv 17),
gD 98 93 true (.bin .neq 96 97),
uO 99 (.pick 93 98 cF)] [1,2,5,10,17,44,50,51,52,99])
(.cond 99 (rg [mV 17 (cI 3)] [1,2,5,10,17,44,50,51,52])
.skip))
zfS))))))
zfT)))
def zfV:ACode:=.pr [1,2,5,44] (.seq (rg [uO 45 (.mnext none [44]),
eX 46 45 0] [1,2,5,44,46])
(.seq (.cond 46 .skip
(.exit 4))
(.block 5 (.seq (rg [uO 47 (.mentry 44),
eX 48 47 0,
eX 49 47 1,
mV 10 48,
mV 11 49] [1,2,5,10,11,44])
(.seq (rg [mV 12 cF] [1,2,5,10,11,12,44])
(.seq (rg [mV 50 11,
lN 51 50,
mV 52 (cI 0)] [1,2,5,10,12,44,50,51,52])
(.block 6 (.loop (.scope zfU)))))))))
def zfW:ACode:=.pr [5] (.seq (rg [mV 104 5,
mV 4 104] [4])
.ret)
def zfX:ACode:=.pr [1,2,5] (.seq (.seq (rg [lD 42 (some 3) 2,
cL 43 z0f [42,(cI 2)],
uO 44 (.mrange 43)] [1,2,5,44])
(.block 4 (.loop (.scope zfV))))
zfW)
def zfY:ACode:=.pr [1,2,5] (.seq (.seq (rg [fA 29 2 none 2,
lD 30 none 29,
lN 31 30,
mV 32 (cI 0)] [1,2,5,30,31,32])
(.block 2 (.loop (.scope zfR))))
zfX)
def zfP:ACode:=(.det (.seq (rg [uO 2 (.box 0),
mV 4 (.c (.nilm))] [1,2])
(.seq (rg [uO 18 (.mkmap),
mV 5 18] [1,2,5])
(.seq (.seq (rg [lD 19 (some 3) 2,
cL 20 yN [19],
lN 21 20,
mV 22 (cI 0)] [1,2,5,20,21,22])
(.block 0 (.loop zfQ)))
zfY))))
def z56:AFun:=⟨2,[.t 4],zfP,false,false⟩
def zga:ACode:=.pr [3,7,8,9] (.seq (rg [bN 10 .lss 9 8] [3,7,8,9,10])
(.seq (.cond 10 .skip
(.exit 0))
(.seq (.block 1 (.seq (rg [iA 11 (some 3) 7 9,
lD 12 (some 3) 11,
uO 5 (.alloc [.p (.str []),.p (.str []),.p (.str [])]),
wO (.store (some 3) 5 12)] [3,5,7,8,9])
(rg [mV 13 3,
fA 14 0 none 5,
lD 15 none 14,
uO 16 (.bsl false none 1 (.str []) [(0,15)]),
uO 17 (.app none 13 16),
mV 3 17] [3,7,8,9])))
(rg [bN 18 .add 9 (cI 1),
mV 9 18] [3,7,8,9]))))
def zgb:ACode:=.pr [3] (.seq (rg [mV 19 3,
cL 20 z00 [19],
mV 2 20] [2])
.ret)
def zfZ:ACode:=(.seq (rg [uO 1 (.box 0),
mV 2 (.c (.p (.sl none [])))] [1])
(.seq (rg [uO 3 (.new0 none)] [1,3])
(.seq (.seq (rg [fA 6 1 none 1,
lD 7 none 6,
lN 8 7,
mV 9 (cI 0)] [3,7,8,9])
(.block 0 (.loop (.scope zga))))
zgb)))
def z57:AFun:=⟨1,[.t 2],zfZ,false,true⟩
def zgd:ACode:=.pr [3,8,9,10] (.seq (rg [bN 11 .lss 10 9] [3,8,9,10,11])
(.seq (.cond 11 .skip
(.exit 0))
(.seq (.block 1 (.seq (rg [iA 12 (some 3) 8 10,
lD 13 (some 3) 12,
uO 5 (.alloc [.p (.str []),.p (.str []),.p (.str [])]),
wO (.store (some 3) 5 13)] [3,5,8,9,10])
(rg [mV 14 3,
fA 15 1 none 5,
lD 16 none 15,
fA 17 2 none 5,
lD 18 none 17,
uO 19 (.build [.p (.str []),.p (.str [])] [(0,1,16),(1,1,18)]),
fA 20 0 none 5,
lD 21 none 20,
wO (.mupd ((some 2),[2,2]) 14 19 21)] [3,8,9,10])))
(rg [bN 22 .add 10 (cI 1),
mV 10 22] [3,8,9,10]))))
def zge:ACode:=.pr [3] (.seq (rg [mV 23 3,
mV 2 23] [2])
.ret)
def zgc:ACode:=(.seq (rg [uO 1 (.box 0),
mV 2 (.c (.nilm))] [1])
(.seq (rg [uO 6 (.mkmap),
mV 3 6] [1,3])
(.seq (.seq (rg [fA 7 1 none 1,
lD 8 none 7,
lN 9 8,
mV 10 (cI 0)] [3,8,9,10])
(.block 0 (.loop (.scope zgd))))
zge)))
def z58:AFun:=⟨1,[.t 2],zgc,false,false⟩
def zgf:ACode:=(.seq (rg [uO 3 (.box 0),
uO 5 (.box 2),
mV 6 cF] [1,3,5])
(.seq (rg [lD 8 (some 3) 3,
mV 9 1,
cL 10 z0i [8,9],
mV 7 10] [3,5,7])
(.seq (rg [mV 11 7,
bN 12 .geq 11 (cI 0),
mV 13 12,
gD 14 13 true (.faddr 0 none 3),
gD 15 13 true (.load none 14),
gD 16 13 true (.mv 7),
gD 17 13 true (.iaddr (some 2) 15 16),
gD 18 13 true (.faddr 1 none 17),
gD 19 13 true (.load none 18),
gD 20 13 true (.mkfn z0o [5]),
gD 21 13 true (.call yU [19,20]),
uO 22 (.pick 13 21 cF),
mV 6 22] [6])
.ret)))
def z59:AFun:=⟨3,[.t 6],zgf,false,false⟩
def zgg:ACode:=(.seq (rg [uO 2 (.box 0),
mV 3 cF] [1,2])
(.seq (rg [lD 4 (some 4) 2,
cL 5 cK [4],
mV 6 5,
gD 7 6 true (.faddr 1 none 2),
gD 8 6 true (.load none 7),
gD 9 6 true (.load none 1),
gD 10 6 true (.bin .eql 8 9),
uO 11 (.pick 6 10 cF),
mV 3 11] [3])
.ret))
def z5A:AFun:=⟨2,[.t 3],zgg,false,false⟩
def zgh:ACode:=(.seq (rg [mV 4 (cI 0)] [0,1])
(.seq (rg [mV 7 0,
cL 8 YE [7],
mV 5 8] [0,1,5])
(.seq (rg [mV 9 1,
cL 10 YE [9],
mV 6 10] [0,1,5,6])
(.seq (.seq (rg [mV 11 5] [0,1,6,11])
(.cond 11 (.seq (.seq (rg [mV 12 6] [12])
(.cond 12 (.seq (rg [mV 4 (cI 0)] [4])
.ret)
.skip))
(.seq (rg [mV 4 (cI (-1))] [4])
.ret))
.skip))
(.seq (.seq (rg [mV 13 6] [0,1,13])
(.cond 13 (.seq (rg [mV 4 (cI 1)] [4])
.ret)
.skip))
(.seq (.seq (rg [mV 14 0,
mV 15 1,
bN 16 .lss 14 15] [0,1,16])
(.cond 16 (.seq (rg [mV 4 (cI (-1))] [4])
.ret)
.skip))
(.seq (.seq (rg [mV 17 0,
mV 18 1,
bN 19 .gtr 17 18] [19])
(.cond 19 (.seq (rg [mV 4 (cI 1)] [4])
.ret)
.skip))
(.seq (rg [mV 4 (cI 0)] [4])
.ret))))))))
def z5B:AFun:=⟨2,[.t 4],zgh,false,false⟩
def zgj:ACode:=.pr [3,6,7,8] (.seq (rg [bN 9 .lss 8 7] [3,6,7,8,9])
(.seq (.cond 9 .skip
(.exit 0))
(.seq (.block 1 (.seq (rg [iA 10 none 6 8,
lD 11 none 10,
mV 5 11] [3,5,6,7,8])
(.seq (rg [mV 12 5,
mV 13 3,
bN 14 .neq 12 13] [3,5,6,7,8,14])
(.cond 14 (.seq (rg [mV 15 5,
mV 2 15] [2])
.ret)
.skip))))
(rg [bN 16 .add 8 (cI 1),
mV 8 16] [3,6,7,8]))))
def zgk:ACode:=.pr [3] (.seq (rg [mV 17 3,
mV 2 17] [2])
.ret)
def zgi:ACode:=(.seq (rg [mV 2 (cI 0)] [0])
(.seq (rg [mV 3 (cI 0)] [0,3])
(.seq (.seq (rg [mV 6 0,
lN 7 6,
mV 8 (cI 0)] [3,6,7,8])
(.block 0 (.loop zgj)))
zgk)))
def z5C:AFun:=⟨1,[.t 2],zgi,false,false⟩
def zgm:ACode:=.pr [0,7,18,19,20] (.seq (rg [bN 21 .lss 20 19] [0,7,18,19,20,21])
(.seq (.cond 21 .skip
(.exit 0))
(.seq (.block 1 (.seq (rg [iA 22 (some 2) 18 20,
lD 23 (some 2) 22,
uO 9 (.alloc [.p (.int .i64 0),.sl0 none]),
wO (.store (some 2) 9 23)] [0,7,9,18,19,20])
(dr [dF (mV 24 7) [7],
dF (lD 25 (some 2) 9) [9],
dF (mV 26 0) [0],
dF (iA 27 none 26 (cI 0)) [26],
dF (lD 28 none 27) [27],
dF (uO 29 (.lens 28)) [28],
dA (cL 30 uE [29]) [29] true [] [1],
dT (cL 31 IF [24,25,30]) [24,25,30]] [0,7,18,19,20])))
(rg [bN 32 .add 20 (cI 1),
mV 20 32] [0,7,18,19,20]))))
def zgn:ACode:=.pr [0,7] (.seq (rg [mV 33 7,
mV 34 0,
iA 35 none 34 (cI 0),
lD 36 none 35,
uO 37 (.lens 36),
cL 38 z0r [33,37],
mV 4 38,
mV 5 (cI 0)] [4,5])
.ret)
def zgl:ACode:=(.seq (rg [mV 4 (.c (.p (.sl none []))),
mV 5 (cI 0)] [0,1])
(.seq (.seq (rg [mV 10 0,
mV 11 1,
cL 12 FG [10,11],
mV 6 12] [0,1,6])
(.seq (rg [mV 13 6,
bN 14 .neq 13 (cI 0)] [0,1,6,14])
(.cond 14 (.seq (rg [mV 15 6,
mV 4 (.c (.p (.sl none []))),
mV 5 15] [4,5])
.ret)
.skip)))
(.seq (rg [mV 16 0,
cL 17 HG [16],
mV 7 17] [0,1,7])
(.seq (.seq (rg [mV 18 1,
lN 19 18,
mV 20 (cI 0)] [0,7,18,19,20])
(.block 0 (.loop (.scope zgm))))
zgn))))
def z5D:AFun:=⟨2,[.t 4,.t 5],zgl,false,false⟩
def zgo:ACode:=(.seq (rg [uO 3 (.box 1),
mV 4 (.c (.p (.sl none []))),
mV 5 (cI 0)] [0,3])
(.seq (rg [mV 6 0,
lD 7 (some 2) 3,
uO 8 (.bsl false (some 2) 1 (.agg [.int .i64 0,.sl none []]) [(0,7)]),
cL 9 z0p [6,8],
eX 10 9 0,
eX 11 9 1,
mV 4 10,
mV 5 11] [4,5])
.ret))
def z5E:AFun:=⟨2,[.t 4,.t 5],zgo,false,false⟩
def zgq:ACode:=.pr [1,5,7,8,10,11,12,19,20] (.seq (rg [bN 21 .lss 20 19] [1,5,7,8,10,11,12,19,20,21])
(.seq (.cond 21 .skip
(.exit 2))
(.seq (.block 3 (.seq (rg [mV 22 20,
mV 9 22] [1,5,7,8,9,10,11,12,19,20])
(rg [mV 23 8,
mV 24 9,
mV 25 7,
mV 26 9,
bN 27 .shr 25 26,
bN 28 .and 27 (.c (.p (.int .u64 1))),
bN 29 .add (.c (.p (.int .u64 48))) 28,
uO 30 (.conv (.i .u8) 29),
iA 31 none 23 24,
wO (.store none 31 30)] [1,5,7,8,10,11,12,19,20])))
(rg [bN 32 .add 20 (cI 1),
mV 20 32] [1,5,7,8,10,11,12,19,20]))))
def zgr:ACode:=.pr [1,5,8,10,11,12] (rg [mV 33 5,
mV 34 8,
uO 35 (.conv .b2s 34),
uO 36 (.bsl false none 1 (.str []) [(0,35)]),
uO 37 (.app none 33 36),
mV 5 37] [1,5,10,11,12])
def zgs:ACode:=.pr [1,5,10,11,12] (rg [bN 38 .add 12 (cI 1),
mV 12 38] [1,5,10,11,12])
def zgt:ACode:=.pr [1,5,10,11,12] (.seq (rg [bN 13 .lss 12 11] [1,5,10,11,12,13])
(.seq (.cond 13 .skip
(.exit 0))
(.seq (.block 1 (.seq (rg [iA 14 none 10 12,
lD 15 none 14,
mV 7 15] [1,5,7,10,11,12])
(.seq (rg [mV 16 1,
uO 17 (.mksl none (.int .u8 0) 16 16),
mV 8 17] [1,5,7,8,10,11,12])
(.seq (.seq (rg [mV 18 8,
lN 19 18,
mV 20 (cI 0)] [1,5,7,8,10,11,12,19,20])
(.block 2 (.loop zgq)))
zgr))))
zgs)))
def zgu:ACode:=.pr [5] (.seq (rg [mV 39 5,
mV 4 39] [4])
.ret)
def zgp:ACode:=(.seq (rg [mV 4 (.c (.p (.sl none [])))] [0,1])
(.seq (rg [uO 5 (.new0 none)] [0,1,5])
(.seq (.seq (rg [mV 10 0,
lN 11 10,
mV 12 (cI 0)] [1,5,10,11,12])
(.block 0 (.loop (.scope zgt))))
zgu)))
def z5F:AFun:=⟨2,[.t 4],zgp,false,false⟩
def zgv:ACode:=(.seq (rg [mV 4 (cI 0)] [0,1])
(.seq (rg [mV 5 0,
mV 6 1,
cL 7 xN [5,6],
mV 4 7] [4])
.ret))
def z5G:AFun:=⟨2,[.t 4],zgv,false,false⟩
def zgw:ACode:=(.seq (rg [uO 2 (.alloc [.p (.int .i64 0),.p (.int .i64 0)]),
uO 3 (.alloc [.p (.int .i64 0),.p (.int .i64 0)]),
mV 4 (cI 0)] [0,2,3])
(.seq (.seq (rg [mV 9 0,
cL 10 z0w [9,(cI 1)],
mV 5 10] [0,2,3,5])
(.seq (rg [mV 11 5,
bN 12 .neq 11 (cI 0)] [0,2,3,5,12])
(.cond 12 (.seq (rg [uO 13 (.build [.p (.int .i64 0),.p (.int .i64 0)] []),
uO 14 (.build [.p (.int .i64 0),.p (.int .i64 0)] []),
mV 15 5,
wO (.store (some 2) 2 13),
wO (.store (some 2) 3 14),
mV 4 15] [2,3,4])
.ret)
.skip)))
(.seq (rg [mV 17 0,
cL 18 z0v [17],
mV 16 18,
eX 19 16 0,
eX 20 16 1,
mV 6 19,
mV 7 20] [0,2,3,6,7])
(.seq (rg [mV 21 0,
lN 22 21,
mV 8 22] [2,3,6,7,8])
(.seq (rg [mV 23 6,
mV 24 8,
cL 25 uU [23,24],
mV 26 7,
mV 27 8,
mV 28 8,
bN 29 .mul 27 28,
cL 30 uU [26,29],
wO (.store (some 2) 2 25),
wO (.store (some 2) 3 30),
mV 4 (cI 0)] [2,3,4])
.ret)))))
def z5H:AFun:=⟨1,[.cell 2 (some 2),.cell 3 (some 2),.t 4],zgw,false,false⟩
def zgx:ACode:=(.seq (rg [mV 2 cF] [0])
(.seq (rg [mV 3 0,
cL 4 DB [3,(cI (-100000)),(cI 100000)],
uO 5 (.un .not 4),
mV 2 5] [2])
.ret))
def z5I:AFun:=⟨1,[.t 2],zgx,false,false⟩
def zgz:ACode:=.pr [0,2,4,7,8,9] (.seq (rg [bN 10 .lss 9 8] [0,2,4,7,8,9,10])
(.seq (.cond 10 .skip
(.exit 0))
(.seq (.block 1 (.seq (rg [iA 11 none 7 9,
lD 12 none 11,
mV 6 12] [0,2,4,6,7,8,9])
(.seq (rg [mV 13 2,
mV 14 6,
bN 15 .add 13 14,
mV 2 15] [0,2,4,6,7,8,9])
(rg [mV 16 4,
mV 17 6,
mV 18 6,
bN 19 .mul 17 18,
bN 20 .add 16 19,
mV 4 20] [0,2,4,7,8,9]))))
(rg [bN 21 .add 9 (cI 1),
mV 9 21] [0,2,4,7,8,9]))))
def zg0:ACode:=.pr [0,2,4] (.seq (rg [mV 22 2,
mV 23 0,
lN 24 23,
mV 25 4,
bN 26 .mul 24 25,
mV 27 2,
mV 28 2,
bN 29 .mul 27 28,
bN 30 .sub 26 29,
mV 2 22,
mV 3 30] [2,3])
.ret)
def zgy:ACode:=(.seq (rg [mV 2 (cI 0),
mV 3 (cI 0)] [0,2])
(.seq (rg [mV 4 (cI 0)] [0,2,4])
(.seq (.seq (rg [mV 7 0,
lN 8 7,
mV 9 (cI 0)] [0,2,4,7,8,9])
(.block 0 (.loop zgz)))
zg0)))
def z5J:AFun:=⟨1,[.t 2,.t 3],zgy,false,false⟩
def zg1:ACode:=(.seq (rg [mV 4 (cI 0)] [0,1])
(.seq (.block 0 (.seq (rg [mV 6 0,
lN 7 6,
mV 8 1,
bN 9 .lss 7 8,
mV 5 9] [0,5])
(.cond 5 (.seq (rg [mV 4 (cI 8)] [4])
.ret)
(.seq (rg [mV 11 0,
lN 12 11,
bN 13 .gtr 12 (cI 5000),
mV 10 13] [0,10])
(.cond 10 (.seq (rg [mV 4 (cI 2)] [4])
.ret)
(.seq (rg [mV 15 0,
cL 16 KF [15,(.f z0x)],
mV 14 16] [14])
(.cond 14 (.seq (rg [mV 4 (cI 1)] [4])
.ret)
.skip)))))))
(.seq (rg [mV 4 (cI 0)] [4])
.ret)))
def z5K:AFun:=⟨2,[.t 4],zg1,false,false⟩
def zg2:ACode:=(.seq (rg [mV 2 cF] [0])
(.seq (rg [mV 3 0,
cL 4 z0u [3],
uO 5 (.un .not 4),
mV 2 5] [2])
.ret))
def z5L:AFun:=⟨1,[.t 2],zg2,false,false⟩
def zg3:ACode:=(.seq (rg [mV 0 cF] [])
(.seq (rg [cL 13 z0y [],
uO 14 (.bsl false none 1 (.str []) [(0,(cS [49]))]),
cL 15 z0c [13,14],
mV 12 15,
eX 16 12 0,
eX 17 12 1,
mV 1 16,
mV 2 17] [1,2])
(.seq (rg [uO 19 (.bsl false none 1 (.str []) [(0,(cS [48,49]))]),
uO 20 (.bsl false none 1 (.int .i64 0) [(0,(cI 0))]),
uO 21 (.build [.p (.int .i64 0),.sl0 none] [(0,1,(cI 2)),(1,1,20)]),
cL 22 z0q [19,21],
mV 18 22,
eX 23 18 0,
eX 24 18 1,
mV 3 23,
mV 4 24] [1,2,3,4])
(.seq (rg [uO 26 (.build [.p (.int .i64 0),.p (.int .i64 0),.p (.int .i64 0),.p (.str []),.p (.str []),.p (.str [])] [(0,1,(cI 7)),(3,1,(cS [49,48]))]),
uO 27 (.bsl false (some 6) 1 (.agg [.int .i64 0,.int .i64 0,.int .i64 0,.str [],.str [],.str []]) [(0,26)]),
cL 28 z0J [27],
mV 25 28,
eX 29 25 0,
eX 30 25 1,
mV 5 29,
mV 6 30] [1,2,3,4,5,6])
(.seq (rg [uO 32 (.bsl false none 2 (.int .i64 0) [(0,(cI 1)),(1,(cI 3))]),
cL 33 z0t [32],
mV 31 33,
eX 34 31 0,
eX 35 31 1,
eX 36 31 2,
uO 7 (.alloc [.p (.int .i64 0),.p (.int .i64 0)]),
uO 8 (.alloc [.p (.int .i64 0),.p (.int .i64 0)]),
wO (.store (some 2) 7 34),
wO (.store (some 2) 8 35),
mV 9 36] [1,2,3,4,5,6,7,9])
(.seq (rg [uO 38 (.bsl false none 1 (.str []) [(0,(cS [115,99,97,110]))]),
uO 39 (.build [.sl0 none,.p (.int .i64 0)] [(0,1,38),(1,1,(cI 1))]),
uO 40 (.build [.p (.str []),.p (.int .i64 0),.p (.int .i64 0),.p (.int .i64 0),.p (.str []),.p (.str []),.p (.str []),.p (.int .i64 0)] [(0,1,(cS [97])),(1,1,(cI 1)),(3,1,(cI 1)),(4,1,(cS [98]))]),
uO 41 (.bsl false (some 8) 1 (.agg [.str [],.int .i64 0,.int .i64 0,.int .i64 0,.str [],.str [],.str [],.int .i64 0]) [(0,40)]),
cL 42 z04 [39,41,(cS [98]),(cI 0)],
mV 37 42,
eX 43 37 0,
eX 44 37 1,
uO 10 (.alloc [.p (.int .i64 0),.p (.int .i64 0),.p (.str []),.p (.str []),.p (.int .i64 0)]),
wO (.store (some 5) 10 43),
mV 11 44] [1,2,3,4,5,6,7,9,10,11])
(.seq (rg [mV 45 2,
mV 46 4,
mV 47 6,
mV 48 9,
mV 49 11,
uO 50 (.bsl false none 5 (.int .i64 0) [(0,45),(1,46),(2,47),(3,48),(4,49)]),
cL 51 JG [50],
bN 52 .eql 51 (cI 0),
mV 53 52,
gD 54 53 true (.mv 1),
gD 55 53 true (.len 54),
gD 56 53 true (.bin .eql 55 (cI 1)),
uO 57 (.pick 53 56 cF),
mV 58 57,
gD 59 58 true (.mv 1),
gD 60 58 true (.iaddr none 59 (cI 0)),
gD 61 58 true (.load none 60),
gD 62 58 true (.bin .eql 61 (cI 1)),
uO 63 (.pick 58 62 cF),
mV 64 63,
gD 65 64 true (.mv 3),
gD 66 64 true (.len 65),
gD 67 64 true (.bin .eql 66 (cI 1)),
uO 68 (.pick 64 67 cF),
mV 69 68,
gD 70 69 true (.mv 3),
gD 71 69 true (.iaddr none 70 (cI 0)),
gD 72 69 true (.load none 71),
gD 73 69 true (.bin .eql 72 (cS [49,49])),
uO 74 (.pick 69 73 cF),
mV 75 74,
gD 76 75 true (.mv 5),
gD 77 75 true (.bin .eql 76 (cI 9)),
uO 78 (.pick 75 77 cF),
mV 79 78,
gD 80 79 true (.faddr 0 none 7),
gD 81 79 true (.load none 80),
gD 82 79 true (.bin .eql 81 (cI 2)),
uO 83 (.pick 79 82 cF),
mV 84 83,
gD 85 84 true (.faddr 0 none 10),
gD 86 84 true (.load none 85),
gD 87 84 true (.bin .eql 86 (cI 1)),
uO 88 (.pick 84 87 cF),
mV 0 88] [0])
.ret)))))))
def z5M:AFun:=⟨0,[.t 0],zg3,false,false⟩
def zg4:ACode:=(.seq (rg [uO 0 (.alloc [.sl0 (some 2),.sl0 (some 3),.sl0 (some 2)])] [0])
(.seq (rg [uO 1 (.build [.p (.int .i64 0),.p (.str []),.p (.int .i64 0),.p (.int .i64 0)] [(0,1,(cI 2)),(1,1,(cS [97])),(2,1,(cI (-1)))]),
uO 2 (.bsl false (some 4) 1 (.agg [.int .i64 0,.str [],.int .i64 0,.int .i64 0]) [(0,1)]),
uO 3 (.build [.p (.str []),.sl0 (some 4)] [(0,1,(cS [117])),(1,1,2)]),
uO 4 (.bsl false (some 2) 1 (.agg [.str [],.sl (some 4) []]) [(0,3)]),
uO 5 (.build [.p (.str []),.p (.str []),.p (.str [])] [(0,1,(cS [110])),(1,1,(cS [117])),(2,1,(cS [97]))]),
uO 6 (.bsl false (some 3) 1 (.agg [.str [],.str [],.str []]) [(0,5)]),
uO 7 (.build [.sl0 (some 2),.sl0 (some 3),.sl0 (some 2)] [(0,1,4),(1,1,6)]),
wO (.store (some 3) 0 7)] [0])
.ret))
def z5N:AFun:=⟨0,[.cell 0 (some 3)],zg4,false,false⟩
def zg6:ACode:=.pr [0,1,2,8,9,10] (.seq (.seq (rg [mV 15 9,
mV 16 10,
bN 17 .lss 15 16] [0,1,2,8,9,10,17])
(.cond 17 .skip
(.exit 0)))
(.block 1 (.seq (rg [mV 18 9,
mV 19 10,
bN 20 .add 18 19,
uO 21 (.conv (.i .u64) 20),
bN 22 .shr 21 (.c (.p (.int .u64 1))),
uO 23 (.conv (.i .i64) 22),
mV 11 23] [0,1,2,8,9,10,11])
(.seq (rg [mV 24 2,
mV 25 0,
mV 26 11,
iA 27 (some 2) 25 26,
lD 28 (some 2) 27,
mV 29 1,
uO 30 (.callv 24 [28,29]),
bN 31 .lss 30 (cI 0)] [0,1,2,8,9,10,11,31])
(.cond 31 (rg [mV 32 11,
bN 33 .add 32 (cI 1),
mV 9 33] [0,1,2,8,9,10])
(rg [mV 34 11,
mV 10 34] [0,1,2,8,9,10]))))))
def zg7:ACode:=.pr [0,1,2,8,9] (.seq (rg [mV 35 9,
mV 36 9,
mV 37 8,
bN 38 .lss 36 37,
mV 39 38,
gD 40 39 true (.mv 2),
gD 41 39 true (.mv 0),
gD 42 39 true (.mv 9),
gD 43 39 true (.iaddr (some 2) 41 42),
gD 44 39 true (.load (some 2) 43),
gD 45 39 true (.mv 1),
gD 46 39 true (.callv 40 [44,45]),
gD 47 39 true (.bin .eql 46 (cI 0)),
uO 48 (.pick 39 47 cF),
mV 6 35,
mV 7 48] [6,7])
.ret)
def zg5:ACode:=(.seq (rg [mV 6 (cI 0),
mV 7 cF] [0,1,2])
(.seq (rg [mV 12 0,
lN 13 12,
mV 8 13] [0,1,2,8])
(.seq (rg [mV 14 8,
mV 9 (cI 0),
mV 10 14] [0,1,2,8,9,10])
(.seq (.block 0 (.loop zg6))
zg7))))
def z5O:AFun:=⟨3,[.t 6,.t 7],zg5,false,false⟩
def zg9:ACode:=.pr [0,3,4,5] (rg [mV 33 5,
bN 34 .add 33 (cI 1),
mV 5 34] [0,3,4,5])
def zgA:ACode:=.pr [0,3,4,5] (.seq (.seq (rg [mV 29 5,
mV 30 4,
lN 31 30,
bN 32 .lss 29 31] [0,3,4,5,32])
(.cond 32 .skip
(.exit 2)))
(.seq (.block 3 (.seq (dr [dF (mV 35 4) [4],
dF (mV 36 5) [5],
dF (iA 37 none 35 36) [35,36],
dF (lD 38 none 37) [37],
dF (mV 39 4) [4],
dF (mV 40 5) [5],
dF (bN 41 .sub 40 (cI 1)) [40],
dF (iA 42 none 39 41) [39,41],
dF (lD 43 none 42) [42],
dF (bN 44 .neq 38 43) [38,43]] [0,3,4,5,44])
(.cond 44 (.seq (rg [mV 45 0,
mV 46 3,
mV 47 4,
mV 48 5,
iA 49 none 47 48,
lD 50 none 49,
iA 51 none 45 46,
wO (.store none 51 50)] [0,3,4,5])
(rg [mV 52 3,
bN 53 .add 52 (cI 1),
mV 3 53] [0,3,4,5]))
.skip)))
zg9))
def zgB:ACode:=.pr [0,3] (.seq (rg [mV 54 0,
mV 55 3,
uO 56 (.slice none 54 (some 55) none none),
wO (.clr none (.str []) 56)] [0,3])
(.seq (rg [mV 57 0,
mV 58 3,
uO 59 (.slice none 57 none (some 58) none),
mV 2 59] [2])
.ret))
def zgC:ACode:=.pr [0,3] (rg [mV 14 3,
bN 15 .add 14 (cI 1),
mV 3 15] [0,3])
def zgD:ACode:=.pr [0,3] (.seq (.seq (rg [mV 10 3,
mV 11 0,
lN 12 11,
bN 13 .lss 10 12] [0,3,13])
(.cond 13 .skip
(.exit 0)))
(.seq (.block 1 (.seq (dr [dF (mV 16 0) [0],
dF (mV 17 3) [3],
dF (iA 18 none 16 17) [16,17],
dF (lD 19 none 18) [18],
dF (mV 20 0) [0],
dF (mV 21 3) [3],
dF (bN 22 .sub 21 (cI 1)) [21],
dF (iA 23 none 20 22) [20,22],
dF (lD 24 none 23) [23],
dF (bN 25 .eql 19 24) [19,24]] [0,3,25])
(.cond 25 (.seq (rg [mV 26 0,
mV 27 3,
uO 28 (.slice none 26 (some 27) none none),
mV 4 28] [0,3,4])
(.seq (.seq (rg [mV 5 (cI 1)] [0,3,4,5])
(.block 2 (.loop zgA)))
zgB))
.skip)))
zgC))
def zgE:ACode:=.pr [0] (.seq (rg [mV 60 0,
mV 2 60] [2])
.ret)
def zg8:ACode:=(.seq (rg [mV 2 (.c (.p (.sl none [])))] [0])
(.seq (.seq (rg [mV 6 0,
lN 7 6,
bN 8 .lss 7 (cI 2)] [0,8])
(.cond 8 (.seq (rg [mV 9 0,
mV 2 9] [2])
.ret)
.skip))
(.seq (.seq (rg [mV 3 (cI 1)] [0,3])
(.block 0 (.loop zgD)))
zgE)))
def z5P:AFun:=⟨1,[.t 2],zg8,true,false⟩
def zgF:ACode:=(.seq (rg [mV 4 cF] [0,1])
(.seq (rg [mV 5 0,
mV 6 1,
cL 7 z01 [5,6],
bN 8 .geq 7 (cI 0),
mV 4 8] [4])
.ret))
def z5Q:AFun:=⟨2,[.t 4],zgF,true,false⟩
def zgG:ACode:=(.seq (rg [mV 4 cF] [0,1])
(.seq (rg [mV 5 0,
mV 6 1,
cL 7 BU [5,6],
bN 8 .geq 7 (cI 0),
mV 4 8] [4])
.ret))
def z5R:AFun:=⟨2,[.t 4],zgG,true,false⟩
def zgI:ACode:=.pr [0,1,7,8] (.seq (rg [bN 9 .lss 8 7] [0,1,7,8,9])
(.seq (.cond 9 .skip
(.exit 0))
(.seq (.block 1 (.seq (rg [mV 10 8,
mV 5 10] [0,1,5,7,8])
(.seq (rg [mV 11 1,
mV 12 0,
mV 13 5,
iA 14 (some 4) 12 13,
lD 15 (some 4) 14,
uO 16 (.callv 11 [15])] [0,1,5,7,8,16])
(.cond 16 (.seq (rg [mV 17 5,
mV 4 17] [4])
.ret)
.skip))))
(rg [bN 18 .add 8 (cI 1),
mV 8 18] [0,1,7,8]))))
def zgJ:ACode:=.pr [] (.seq (rg [mV 4 (cI (-1))] [4])
.ret)
def zgH:ACode:=(.seq (rg [mV 4 (cI 0)] [0,1])
(.seq (.seq (rg [mV 6 0,
lN 7 6,
mV 8 (cI 0)] [0,1,7,8])
(.block 0 (.loop zgI)))
zgJ))
def z5S:AFun:=⟨2,[.t 4],zgH,true,false⟩
def zgL:ACode:=.pr [0,1,7,8] (.seq (rg [bN 9 .lss 8 7] [0,1,7,8,9])
(.seq (.cond 9 .skip
(.exit 0))
(.seq (.block 1 (.seq (rg [mV 10 8,
mV 5 10] [0,1,5,7,8])
(.seq (rg [mV 11 1,
mV 12 0,
mV 13 5,
iA 14 none 12 13,
lD 15 none 14,
bN 16 .eql 11 15] [0,1,5,7,8,16])
(.cond 16 (.seq (rg [mV 17 5,
mV 4 17] [4])
.ret)
.skip))))
(rg [bN 18 .add 8 (cI 1),
mV 8 18] [0,1,7,8]))))
def zgM:ACode:=.pr [] (.seq (rg [mV 4 (cI (-1))] [4])
.ret)
def zgK:ACode:=(.seq (rg [mV 4 (cI 0)] [0,1])
(.seq (.seq (rg [mV 6 0,
lN 7 6,
mV 8 (cI 0)] [0,1,7,8])
(.block 0 (.loop zgL)))
zgM))
def z5T:AFun:=⟨2,[.t 4],zgK,true,false⟩
def zgO:ACode:=.pr [0,9,10,11] (.seq (rg [bN 12 .lss 11 10] [0,9,10,11,12])
(.seq (.cond 12 .skip
(.exit 0))
(.seq (.block 1 (.seq (rg [mV 13 11,
iA 14 (some 8) 9 11,
lD 15 (some 8) 14,
uO 4 (.alloc [.p (.str []),.p (.int .i64 0),.p (.int .i64 0),.p (.int .i64 0),.p (.str []),.p (.str []),.p (.str []),.p (.int .i64 0)]),
mV 3 13,
wO (.store (some 8) 4 15)] [0,3,4,9,10,11])
(.seq (.seq (rg [lD 16 (some 8) 4,
cL 17 z07 [16],
mV 5 17] [0,3,4,5,9,10,11])
(.seq (rg [mV 18 5,
bN 19 .neq 18 (cI 0)] [0,3,4,5,9,10,11,19])
(.cond 19 (.seq (rg [mV 20 5,
mV 2 20] [2])
.ret)
.skip)))
(.seq (dr [dF (mV 21 3) [3],
dF (bN 22 .gtr 21 (cI 0)) [21],
dF (mV 23 22) [22],
dF (gD 24 23 true (.load (some 8) 4)) [4,23],
dF (gD 25 23 true (.mv 0)) [0,23],
dF (gD 26 23 true (.mv 3)) [3,23],
dF (gD 27 23 true (.bin .sub 26 (cI 1))) [26,23],
dF (gD 28 23 true (.iaddr (some 8) 25 27)) [25,27,23],
dF (gD 29 23 true (.load (some 8) 28)) [28,23],
dT (gD 30 23 true (.call z05 [24,29])) [24,29,23],
dF (gD 31 23 true (.bin .leq 30 (cI 0))) [30,23],
dF (uO 32 (.pick 23 31 cF)) [23,31]] [0,9,10,11,32])
(.cond 32 (.seq (rg [mV 2 (cI 7)] [2])
.ret)
.skip)))))
(rg [bN 33 .add 11 (cI 1),
mV 11 33] [0,9,10,11]))))
def zgP:ACode:=.pr [0] (.seq (.seq (rg [mV 34 0,
cL 35 z0F [34]] [35])
(.cond 35 (.seq (rg [mV 2 (cI 6)] [2])
.ret)
.skip))
(.seq (rg [mV 2 (cI 0)] [2])
.ret))
def zgN:ACode:=(.seq (rg [mV 2 (cI 0)] [0])
(.seq (.seq (rg [mV 6 0,
lN 7 6,
bN 8 .gtr 7 (cI 2000)] [0,8])
(.cond 8 (.seq (rg [mV 2 (cI 2)] [2])
.ret)
.skip))
(.seq (.seq (rg [mV 9 0,
lN 10 9,
mV 11 (cI 0)] [0,9,10,11])
(.block 0 (.loop (.scope zgO))))
zgP)))
def z5U:AFun:=⟨1,[.t 2],zgN,false,false⟩
def zgR:ACode:=.pr [1,16,17,18] (.seq (rg [bN 19 .lss 18 17] [1,16,17,18,19])
(.seq (.cond 19 .skip
(.exit 1))
(.seq (.block 2 (.seq (rg [mV 20 18,
iA 21 none 16 18,
lD 22 none 21,
mV 3 20,
mV 4 22] [1,3,4,16,17,18])
(.block 3 (.seq (rg [mV 24 4,
cL 25 tE [24],
uO 26 (.un .not 25),
mV 23 26] [1,3,4,16,17,18,23])
(.cond 23 (.seq (rg [mV 2 (cI 5)] [2])
.ret)
(.seq (rg [fA 28 0 none 1,
lD 29 none 28,
mV 30 3,
uO 31 (.slice none 29 none (some 30) none),
mV 32 4,
cL 33 zU [31,32],
mV 27 33] [1,16,17,18,27])
(.cond 27 (.seq (rg [mV 2 (cI 6)] [2])
.ret)
.skip)))))))
(rg [bN 34 .add 18 (cI 1),
mV 18 34] [1,16,17,18]))))
def zgS:ACode:=.pr [1] (.seq (.seq (rg [fA 35 1 none 1,
lD 36 none 35,
cL 37 DB [36,(cI 1),(cI 10)]] [37])
(.cond 37 (.seq (rg [mV 2 (cI 1)] [2])
.ret)
.skip))
(.seq (rg [mV 2 (cI 0)] [2])
.ret))
def zgQ:ACode:=(.seq (rg [uO 1 (.box 0),
mV 2 (cI 0)] [1])
(.seq (.block 0 (.seq (rg [fA 6 0 none 1,
lD 7 none 6,
lN 8 7,
bN 9 .eql 8 (cI 0),
mV 5 9] [1,5])
(.cond 5 (.seq (rg [mV 2 (cI 8)] [2])
.ret)
(.seq (rg [fA 11 0 none 1,
lD 12 none 11,
lN 13 12,
bN 14 .gtr 13 (cI 20),
mV 10 14] [1,10])
(.cond 10 (.seq (rg [mV 2 (cI 2)] [2])
.ret)
.skip)))))
(.seq (.seq (rg [fA 15 0 none 1,
lD 16 none 15,
lN 17 16,
mV 18 (cI 0)] [1,16,17,18])
(.block 1 (.loop zgR)))
zgS)))
def z5V:AFun:=⟨1,[.t 2],zgQ,false,false⟩
def zgT:ACode:=(.seq (rg [uO 4 (.box 0),
uO 8 (.alloc [.p (.int .i64 0),.p (.int .i64 0),.p (.str []),.p (.str []),.p (.int .i64 0)]),
mV 9 (cI 0)] [1,2,3,4,8])
(.seq (.seq (rg [lD 12 (some 2) 4,
mV 13 1,
mV 14 3,
cL 15 z08 [12,13,14],
mV 10 15] [1,2,3,4,8,10])
(.seq (rg [mV 16 10,
bN 17 .neq 16 (cI 0)] [1,2,3,4,8,10,17])
(.cond 17 (.seq (rg [uO 18 (.build [.p (.int .i64 0),.p (.int .i64 0),.p (.str []),.p (.str []),.p (.int .i64 0)] []),
mV 19 10,
wO (.store (some 5) 8 18),
mV 9 19] [8,9])
.ret)
.skip)))
(.seq (.seq (rg [mV 20 2,
cL 21 tE [20],
uO 22 (.un .not 21)] [1,2,3,4,8,22])
(.cond 22 (.seq (rg [uO 23 (.build [.p (.int .i64 0),.p (.int .i64 0),.p (.str []),.p (.str []),.p (.int .i64 0)] []),
wO (.store (some 5) 8 23),
mV 9 (cI 5)] [8,9])
.ret)
.skip))
(.seq (dr [dF (lD 24 (some 2) 4) [4],
dF (mV 25 1) [1],
dF (mV 26 3) [3],
dA (cL 27 z0G [25,26]) [25,26] true [] [0],
dT (cL 28 z0D [24,27]) [24,27],
dF (uO 29 (.nilchk 28)) [28],
dF (fA 30 2 none 29) [29],
dF (lD 31 none 30) [30],
dF (mV 32 2) [2],
dF (uO 33 (.look (none,[2]) false (.nilp) 31 32)) [31,32],
dF (mV 11 33) [33]] [8,11])
(.seq (.seq (rg [mV 34 11,
uO 35 (.isnil 0 false 34)] [8,11,35])
(.cond 35 (.seq (rg [uO 36 (.build [.p (.int .i64 0),.p (.int .i64 0),.p (.str []),.p (.str []),.p (.int .i64 0)] []),
wO (.store (some 5) 8 36),
mV 9 (cI 8)] [8,9])
.ret)
.skip))
(.seq (rg [mV 37 11,
uO 38 (.nilchk 37),
lD 39 (some 5) 38,
wO (.store (some 5) 8 39),
mV 9 (cI 0)] [8,9])
.ret))))))
def z5W:AFun:=⟨4,[.cell 8 (some 5),.t 9],zgT,false,false⟩
def zgU:ACode:=(.seq (rg [uO 2 (.box 0),
uO 3 (.box 1),
mV 4 (cI 0)] [2,3])
(.seq (dr [dF (fA 5 2 none 2) [2],
dF (lD 6 none 5) [5],
dF (fA 7 2 none 3) [3],
dF (lD 8 none 7) [7],
dT (cL 9 wU [6,8]) [6,8],
dF (fA 10 0 none 2) [2],
dA (lD 11 none 10) [10] false [4] [],
dF (fA 12 0 none 3) [3],
dA (lD 13 none 12) [12] false [4] [],
dT (cL 14 UH [11,13]) [11,13],
dF (fA 15 1 none 2) [2],
dA (lD 16 none 15) [15] false [4,9] [],
dF (fA 17 1 none 3) [3],
dA (lD 18 none 17) [17] false [4,9] [],
dT (cL 19 wU [16,18]) [16,18],
dF (uO 20 (.bsl false none 3 (.int .i64 0) [(0,9),(1,14),(2,19)])) [9,14,19],
dT (cL 21 xU [20]) [20],
dF (mV 4 21) [21]] [4])
.ret))
def z5X:AFun:=⟨2,[.t 4],zgU,false,false⟩
def zgW:ACode:=.pr [0,3,4,5] (rg [mV 16 5,
bN 17 .sub 16 (cI 1),
mV 5 17] [0,3,4,5])
def zgX:ACode:=.pr [0,3,4,5] (.seq (.seq (rg [mV 14 5,
bN 15 .geq 14 (cI 0)] [0,3,4,5,15])
(.cond 15 .skip
(.exit 0)))
(.seq (.block 1 (.seq (rg [mV 18 0,
mV 19 5,
iA 20 (some 8) 18 19,
lD 21 (some 8) 20,
uO 6 (.alloc [.p (.str []),.p (.int .i64 0),.p (.int .i64 0),.p (.int .i64 0),.p (.str []),.p (.str []),.p (.str []),.p (.int .i64 0)]),
wO (.store (some 8) 6 21)] [0,3,4,5,6])
(.seq (rg [mV 22 4,
mV 23 5,
mV 24 3,
fA 25 0 none 6,
lD 26 none 25,
fA 27 1 none 6,
lD 28 none 27,
uO 29 (.build [.p (.str []),.p (.int .i64 0)] [(0,1,26),(1,1,28)]),
uO 30 (.look ((some 2),[2,0]) false (AB false) 24 29),
uO 31 (.un .not 30),
iA 32 none 22 23,
wO (.store none 32 31)] [0,3,4,5,6])
(.seq (rg [mV 33 4,
mV 34 5,
iA 35 none 33 34,
lD 36 none 35,
mV 37 36,
gD 38 37 true (.faddr 3 none 6),
gD 39 37 true (.load none 38),
gD 40 37 true (.bin .eql 39 (cI 7)),
uO 41 (.pick 37 40 cF)] [0,3,4,5,6,41])
(.cond 41 (rg [mV 42 3,
fA 43 6 none 6,
lD 44 none 43,
fA 45 7 none 6,
lD 46 none 45,
uO 47 (.build [.p (.str []),.p (.int .i64 0)] [(0,1,44),(1,1,46)]),
wO (.mupd ((some 2),[2,0]) 42 47 cT)] [0,3,4,5])
.skip)))))
zgW))
def zgY:ACode:=.pr [4] (.seq (rg [mV 48 4,
mV 2 48] [2])
.ret)
def zgV:ACode:=(.seq (rg [mV 2 (.c (.p (.sl none [])))] [0])
(.seq (rg [uO 7 (.mkmap),
mV 3 7] [0,3])
(.seq (rg [mV 8 0,
lN 9 8,
uO 10 (.mksl none (.bool false) 9 9),
mV 4 10] [0,3,4])
(.seq (.seq (rg [mV 11 0,
lN 12 11,
bN 13 .sub 12 (cI 1),
mV 5 13] [0,3,4,5])
(.block 0 (.loop (.scope zgX))))
zgY))))
def z5Y:AFun:=⟨1,[.t 2],zgV,false,false⟩
def zgZ:ACode:=(.seq (rg [uO 1 (.box 0),
mV 2 (cI 0)] [1])
(.seq (dr [dF (fA 5 3 none 1) [1],
dF (lD 6 none 5) [5],
dF (bN 7 .eql 6 (cI 7)) [6],
dF (fA 8 3 none 1) [1],
dF (lD 9 none 8) [8],
dF (bN 10 .eql 9 (cI 2)) [9],
dF (mV 3 7) [7],
dF (mV 4 10) [10]] [1,3,4])
(.seq (.block 0 (.seq (rg [fA 12 0 none 1,
lD 13 none 12,
cL 14 tE [13],
uO 15 (.un .not 14),
mV 11 15] [1,3,4,11])
(.cond 11 (.seq (rg [mV 2 (cI 5)] [2])
.ret)
(.seq (rg [fA 17 1 none 1,
lD 18 none 17,
cL 19 DB [18,(cI 1),(cI 1000000)],
mV 20 19,
gD 21 20 false (.faddr 2 none 1),
gD 22 20 false (.load none 21),
gD 23 20 false (.call vU [22]),
gD 24 20 false (.un .not 23),
uO 25 (.pick 20 cT 24),
mV 16 25] [1,3,4,16])
(.cond 16 (.seq (rg [mV 2 (cI 1)] [2])
.ret)
(.seq (rg [fA 27 3 none 1,
lD 28 none 27,
cL 29 DB [28,(cI 1),(cI 7)],
mV 26 29] [1,3,4,26])
(.cond 26 (.seq (rg [mV 2 (cI 4)] [2])
.ret)
(.seq (rg [mV 31 3,
uO 32 (.un .not 31),
mV 33 32,
gD 34 33 true (.faddr 4 none 1),
gD 35 33 true (.load none 34),
gD 36 33 true (.call tE [35]),
gD 37 33 true (.un .not 36),
uO 38 (.pick 33 37 cF),
mV 39 38,
gD 40 39 false (.mv 4),
gD 41 39 false (.mv 40),
gD 42 41 true (.faddr 5 none 1),
gD 43 41 true (.load none 42),
gD 44 41 true (.call tE [43]),
gD 45 41 true (.un .not 44),
gD 46 39 false (.pick 41 45 cF),
uO 47 (.pick 39 cT 46),
mV 48 47,
gD 49 48 false (.mv 3),
gD 50 48 false (.mv 49),
gD 51 50 true (.faddr 6 none 1),
gD 52 50 true (.load none 51),
gD 53 50 true (.call tE [52]),
gD 54 50 true (.un .not 53),
gD 55 48 false (.pick 50 54 cF),
uO 56 (.pick 48 cT 55),
mV 30 56] [1,3,4,30])
(.cond 30 (.seq (rg [mV 2 (cI 5)] [2])
.ret)
(.seq (rg [mV 58 3,
mV 59 58,
gD 60 59 true (.faddr 7 none 1),
gD 61 59 true (.load none 60),
gD 62 59 true (.call DB [61,(cI 1),(cI 1000000)]),
uO 63 (.pick 59 62 cF),
mV 57 63] [1,3,4,57])
(.cond 57 (.seq (rg [mV 2 (cI 1)] [2])
.ret)
(.seq (rg [mV 65 3,
mV 66 65,
gD 67 66 true (.faddr 4 none 1),
gD 68 66 true (.load none 67),
gD 69 66 true (.bin .neq 68 (cS [])),
uO 70 (.pick 66 69 cF),
mV 71 70,
gD 72 71 false (.mv 4),
gD 73 71 false (.un .not 72),
gD 74 71 false (.mv 73),
gD 75 74 true (.faddr 5 none 1),
gD 76 74 true (.load none 75),
gD 77 74 true (.bin .neq 76 (cS [])),
gD 78 71 false (.pick 74 77 cF),
uO 79 (.pick 71 cT 78),
mV 80 79,
gD 81 80 false (.mv 3),
gD 82 80 false (.un .not 81),
gD 83 80 false (.mv 82),
gD 84 83 true (.faddr 6 none 1),
gD 85 83 true (.load none 84),
gD 86 83 true (.bin .neq 85 (cS [])),
gD 87 83 true (.mv 86),
gD 88 87 false (.faddr 7 none 1),
gD 89 87 false (.load none 88),
gD 90 87 false (.bin .neq 89 (cI 0)),
gD 91 83 true (.pick 87 cT 90),
gD 92 80 false (.pick 83 91 cF),
uO 93 (.pick 80 cT 92),
mV 64 93] [64])
(.cond 64 (.seq (rg [mV 2 (cI 3)] [2])
.ret)
.skip)))))))))))))
(.seq (rg [mV 2 (cI 0)] [2])
.ret))))
def z5Z:AFun:=⟨1,[.t 2],zgZ,false,false⟩
def zha:ACode:=(.seq (rg [uO 3 (.box 0),
mV 6 (cI 0)] [1,2,3])
(.seq (rg [lD 7 (some 2) 3,
cL 8 z03 [7],
mV 9 1,
cL 10 z02 [9],
mV 11 2,
cL 12 z0E [11],
uO 13 (.bsl false none 3 (.int .i64 0) [(0,8),(1,10),(2,12)]),
cL 14 YZ [13],
mV 6 14] [6])
.ret))
def z6a:AFun:=⟨3,[.t 6],zha,false,false⟩
def zhb:ACode:=(.seq (rg [mV 4 (cI 0)] [0,1])
(.seq (rg [mV 5 0,
uO 6 (.nilchk 5),
fA 7 0 (some 2) 6,
fA 8 0 none 7,
lD 9 none 8,
mV 10 1,
cL 11 BU [9,10],
mV 4 11] [4])
.ret))
def z6b:AFun:=⟨2,[.t 4],zhb,false,false⟩
def zhd:ACode:=.pr [] (.seq (rg [mV 6 (cI 0)] [6])
.ret)
def zhe:ACode:=.pr [] (.seq (rg [mV 6 (cI 0)] [6])
.ret)
def zhf:ACode:=.pr [0,1] (.seq (rg [mV 98 1,
uO 99 (.nilchk 98),
fA 100 4 none 99,
lD 101 none 100,
bN 102 .add 101 (cI 1),
uO 103 (.nilchk 98),
fA 104 4 none 103,
wO (.store none 104 102)] [0,1])
(.seq (rg [mV 105 1,
uO 106 (.nilchk 105),
fA 107 0 none 106,
wO (.store none 107 (cI 3))] [0,1])
(.seq (.seq (dr [dF (mV 108 1) [1],
dF (uO 109 (.nilchk 108)) [108],
dF (fA 110 4 none 109) [109],
dF (lD 111 none 110) [110],
dF (mV 112 0) [0],
dF (uO 113 (.nilchk 112)) [112],
dF (fA 114 0 (some 2) 113) [113],
dF (fA 115 1 none 114) [114],
dF (lD 116 none 115) [115],
dF (bN 117 .eql 111 116) [111,116]] [1,117])
(.cond 117 (rg [mV 118 1,
uO 119 (.nilchk 118),
fA 120 0 none 119,
wO (.store none 120 (cI 5))] [])
.skip))
zhe)))
def zhc:ACode:=(.seq (rg [uO 5 (.box 2),
mV 6 (cI 0)] [0,1,5])
(.seq (.block 0 (.seq (rg [mV 10 1,
uO 11 (.nilchk 10),
fA 12 0 none 11,
lD 13 none 12,
bN 14 .neq 13 (cI 2),
mV 9 14] [0,1,5,9])
(.cond 9 (.seq (rg [mV 6 (cI 11)] [6])
.ret)
(.seq (dr [dF (mV 16 1) [1],
dF (uO 17 (.nilchk 16)) [16],
dF (fA 18 3 none 17) [17],
dF (lD 19 none 18) [18],
dF (fA 20 0 none 5) [5],
dF (lD 21 none 20) [20],
dF (bN 22 .neq 19 21) [19,21],
dF (mV 15 22) [22]] [0,1,5,15])
(.cond 15 (.seq (rg [mV 6 (cI 13)] [6])
.ret)
.skip)))))
(.seq (rg [fA 23 3 none 5,
lD 24 none 23,
bN 25 .eql 24 (cI 3),
mV 7 25] [0,1,5,7])
(.seq (dr [dF (mV 26 0) [0],
dF (mV 27 0) [0],
dF (uO 28 (.nilchk 27)) [27],
dF (fA 29 4 none 28) [28],
dF (lD 30 none 29) [29],
dF (fA 31 4 none 5) [5],
dF (lD 32 none 31) [31],
dF (mV 33 1) [1],
dF (uO 34 (.nilchk 33)) [33],
dF (fA 35 2 none 34) [34],
dF (lD 36 none 35) [35],
dF (mV 37 1) [1],
dF (uO 38 (.nilchk 37)) [37],
dF (fA 39 1 none 38) [38],
dF (lD 40 none 39) [39],
dF (fA 41 2 none 5) [5],
dF (lD 42 none 41) [41],
dF (mV 43 7) [7],
dF (uO 44 (.build [.p (.str []),.p (.str []),.p (.int .i64 0),.p (.int .i64 0),.p (.bool false)] [(0,1,32),(1,1,36),(2,1,40),(3,1,42),(4,1,43)])) [32,36,40,42,43],
dF (uO 45 (.bsl false (some 5) 1 (.agg [.str [],.str [],.int .i64 0,.int .i64 0,.bool false]) [(0,44)])) [44],
dT (uO 46 (.app (some 5) 30 45)) [30,45],
dF (uO 47 (.nilchk 26)) [26],
dF (fA 48 4 none 47) [47],
dT (wO (.store none 48 46)) [48,46]] [0,1,5,7])
(.seq (rg [mV 49 0,
mV 50 1,
fA 51 2 none 5,
lD 52 none 51,
cL 53 CU [49,50,52]] [0,1,5,7])
(.seq (rg [mV 54 1,
fA 55 2 none 5,
lD 56 none 55,
uO 57 (.nilchk 54),
fA 58 1 none 57,
wO (.store none 58 56)] [0,1,7])
(.seq (.seq (rg [mV 59 7] [0,1,59])
(.cond 59 (.seq (rg [mV 60 1,
uO 61 (.nilchk 60),
fA 62 4 none 61,
wO (.store none 62 (cI 0))] [0,1])
(.seq (rg [mV 63 0,
mV 64 1,
uO 65 (.nilchk 64),
fA 66 2 none 65,
lD 67 none 66,
cL 68 z09 [63,67],
bN 69 .add 68 (cI 1),
mV 8 69] [0,1,8])
(.seq (.seq (rg [mV 70 8,
mV 71 0,
uO 72 (.nilchk 71),
fA 73 0 (some 2) 72,
fA 74 0 none 73,
lD 75 none 74,
lN 76 75,
bN 77 .eql 70 76] [0,1,8,77])
(.cond 77 (rg [mV 78 1,
mV 79 1,
uO 80 (.nilchk 78),
fA 81 0 none 80,
wO (.store none 81 (cI 4)),
uO 82 (.nilchk 79),
fA 83 2 none 82,
wO (.store none 83 (cS []))] [])
(rg [mV 84 1,
mV 85 1,
mV 86 0,
uO 87 (.nilchk 86),
fA 88 0 (some 2) 87,
fA 89 0 none 88,
lD 90 none 89,
mV 91 8,
iA 92 none 90 91,
lD 93 none 92,
uO 94 (.nilchk 84),
fA 95 0 none 94,
wO (.store none 95 (cI 1)),
uO 96 (.nilchk 85),
fA 97 2 none 96,
wO (.store none 97 93)] [])))
zhd)))
.skip))
zhf)))))))
def z6c:AFun:=⟨3,[.t 6],zhc,false,false⟩
def zhh:ACode:=.pr [0,1,2,11,12] (rg [bN 47 .add 12 (cI 1),
mV 12 47] [0,1,2,11,12])
def zhi:ACode:=.pr [0,1,2,11,12] (.seq (rg [bN 13 .lss 12 11] [0,1,2,11,12,13])
(.seq (.cond 13 .skip
(.exit 0))
(.seq (.block 1 (.seq (rg [mV 14 12,
mV 6 14] [0,1,2,6,11,12])
(.seq (dr [dF (mV 15 0) [0],
dF (uO 16 (.nilchk 15)) [15],
dF (fA 17 5 none 16) [16],
dF (lD 18 none 17) [17],
dF (mV 19 6) [6],
dF (iA 20 (some 3) 18 19) [18,19],
dF (fA 21 0 none 20) [20],
dF (lD 22 none 21) [21],
dF (mV 23 1) [1],
dF (uO 24 (.nilchk 23)) [23],
dF (fA 25 3 none 24) [24],
dF (lD 26 none 25) [25],
dF (bN 27 .eql 22 26) [22,26],
dF (mV 28 27) [27],
dF (gD 29 28 true (.mv 0)) [0,28],
dF (gD 30 28 true (.nilchk 29)) [29,28],
dF (gD 31 28 true (.faddr 5 none 30)) [30,28],
dF (gD 32 28 true (.load none 31)) [31,28],
dF (gD 33 28 true (.mv 6)) [6,28],
dF (gD 34 28 true (.iaddr (some 3) 32 33)) [32,33,28],
dF (gD 35 28 true (.faddr 2 none 34)) [34,28],
dF (gD 36 28 true (.load none 35)) [35,28],
dF (gD 37 28 true (.bin .lss 36 (cI 0))) [36,28],
dF (uO 38 (.pick 28 37 cF)) [28,37]] [0,1,2,6,11,12,38])
(.cond 38 (rg [mV 39 0,
uO 40 (.nilchk 39),
fA 41 5 none 40,
lD 42 none 41,
mV 43 6,
mV 44 2,
iA 45 (some 3) 42 43,
fA 46 2 none 45,
wO (.store none 46 44)] [0,1,2,11,12])
.skip))))
zhh)))
def zhj:ACode:=.pr [0,1] (.seq (dr [dF (mV 48 0) [0],
dF (uO 49 (.nilchk 48)) [48],
dF (fA 50 3 none 49) [49],
dF (lD 51 none 50) [50],
dF (mV 52 1) [1],
dF (uO 53 (.nilchk 52)) [52],
dF (fA 54 3 none 53) [53],
dF (lD 55 none 54) [54],
dT (wO (.mdel (none,[2]) 51 55)) [51,55]] [1])
(rg [mV 56 1,
uO 57 (.nilchk 56),
fA 58 3 none 57,
wO (.store none 58 (cS []))] []))
def zhg:ACode:=(.seq (.seq (rg [mV 7 0,
uO 8 (.nilchk 7),
fA 9 5 none 8,
lD 10 none 9,
lN 11 10,
mV 12 (cI 0)] [0,1,2,11,12])
(.block 0 (.loop zhi)))
zhj)
def z6d:AFun:=⟨3,[],zhg,false,false⟩
def zhk:ACode:=(.seq (rg [uO 5 (.box 2),
mV 6 (cI 0)] [0,1,5])
(.seq (dr [dF (mV 10 0) [0],
dF (uO 11 (.nilchk 10)) [10],
dF (fA 12 3 none 11) [11],
dF (lD 13 none 12) [12],
dF (fA 14 0 none 5) [5],
dF (lD 15 none 14) [14],
dF (uO 16 (.look (none,[2]) true (.p (.str [])) 13 15)) [13,15],
dF (mV 9 16) [16],
dF (eX 17 9 0) [9],
dF (eX 18 9 1) [9],
dF (mV 7 17) [17],
dF (mV 8 18) [18]] [0,1,5,8])
(.seq (.block 0 (.seq (rg [mV 20 1,
uO 21 (.nilchk 20),
fA 22 0 none 21,
lD 23 none 22,
bN 24 .neq 23 (cI 1),
mV 19 24] [0,1,5,8,19])
(.cond 19 (.seq (rg [mV 6 (cI 11)] [6])
.ret)
(.seq (dr [dF (fA 26 5 none 5) [5],
dF (lD 27 none 26) [26],
dF (mV 28 1) [1],
dF (uO 29 (.nilchk 28)) [28],
dF (fA 30 2 none 29) [29],
dF (lD 31 none 30) [30],
dF (bN 32 .neq 27 31) [27,31],
dF (mV 25 32) [32]] [0,1,5,8,25])
(.cond 25 (.seq (rg [mV 6 (cI 3)] [6])
.ret)
(.seq (rg [mV 34 8,
mV 33 34] [0,1,5,33])
(.cond 33 (.seq (rg [mV 6 (cI 12)] [6])
.ret)
.skip)))))))
(.seq (dr [dF (mV 35 1) [1],
dF (mV 36 1) [1],
dF (mV 37 1) [1],
dF (fA 38 2 none 5) [5],
dF (lD 39 none 38) [38],
dF (fA 40 0 none 5) [5],
dF (lD 41 none 40) [40],
dF (uO 42 (.nilchk 35)) [35],
dF (fA 43 0 none 42) [42],
dA (wO (.store none 43 (cI 2))) [43] true [] [4,6],
dF (uO 44 (.nilchk 36)) [36],
dF (fA 45 1 none 44) [44],
dA (wO (.store none 45 39)) [45,39] true [] [6],
dF (uO 46 (.nilchk 37)) [37],
dF (fA 47 3 none 46) [46],
dT (wO (.store none 47 41)) [47,41]] [0,5])
(.seq (dr [dF (mV 48 0) [0],
dF (uO 49 (.nilchk 48)) [48],
dF (fA 50 3 none 49) [49],
dF (lD 51 none 50) [50],
dF (fA 52 0 none 5) [5],
dF (lD 53 none 52) [52],
dF (fA 54 4 none 5) [5],
dF (lD 55 none 54) [54],
dT (wO (.mupd (none,[2]) 51 53 55)) [51,53,55]] [0,5])
(.seq (dr [dF (mV 56 0) [0],
dF (mV 57 0) [0],
dF (uO 58 (.nilchk 57)) [57],
dF (fA 59 5 none 58) [58],
dF (lD 60 none 59) [59],
dF (fA 61 0 none 5) [5],
dF (lD 62 none 61) [61],
dF (fA 63 2 none 5) [5],
dF (lD 64 none 63) [63],
dF (uO 65 (.build [.p (.str []),.p (.int .i64 0),.p (.int .i64 0)] [(0,1,62),(1,1,64),(2,1,(cI (-1)))])) [62,64],
dF (uO 66 (.bsl false (some 3) 1 (.agg [.str [],.int .i64 0,.int .i64 0]) [(0,65)])) [65],
dT (uO 67 (.app (some 3) 60 66)) [60,66],
dF (uO 68 (.nilchk 56)) [56],
dF (fA 69 5 none 68) [68],
dT (wO (.store none 69 67)) [69,67]] [])
(.seq (rg [mV 6 (cI 0)] [6])
.ret)))))))
def z6e:AFun:=⟨3,[.t 6],zhk,false,false⟩
def zhm:ACode:=.pr [0,3,5,38,45] (.cond 45 (.seq (rg [mV 48 0,
mV 49 5,
lD 50 (some 8) 3,
cL 51 z0A [48,49,50],
mV 4 51] [4])
.ret)
(.seq (rg [bN 53 .eql 38 (cI 5),
mV 52 53] [0,3,5,52])
(.cond 52 (.seq (.seq (rg [mV 54 5,
uO 55 (.nilchk 54),
fA 56 0 none 55,
lD 57 none 56,
bN 58 .neq 57 (cI 3)] [3,5,58])
(.cond 58 (.seq (rg [mV 4 (cI 11)] [4])
.ret)
.skip))
(.seq (dr [dF (mV 59 5) [5],
dF (mV 60 5) [5],
dF (fA 61 2 none 3) [3],
dF (lD 62 none 61) [61],
dF (uO 63 (.nilchk 59)) [59],
dF (fA 64 0 none 63) [63],
dA (wO (.store none 64 (cI 1))) [64] true [] [3],
dF (uO 65 (.nilchk 60)) [60],
dF (fA 66 1 none 65) [65],
dT (wO (.store none 66 62)) [66,62]] [])
(.seq (rg [mV 4 (cI 0)] [4])
.ret)))
.skip)))
def zhn:ACode:=.pr [3,5] (.seq (dr [dF (mV 89 5) [5],
dF (mV 90 5) [5],
dF (fA 91 2 none 3) [3],
dF (lD 92 none 91) [91],
dF (uO 93 (.nilchk 89)) [89],
dF (fA 94 0 none 93) [93],
dA (wO (.store none 94 (cI 5))) [94] true [] [3],
dF (uO 95 (.nilchk 90)) [90],
dF (fA 96 1 none 95) [95],
dT (wO (.store none 96 92)) [96,92]] [])
(.seq (rg [mV 4 (cI 0)] [4])
.ret))
def zho:ACode:=.pr [0,3,5] (.seq (.seq (rg [mV 67 5,
uO 68 (.nilchk 67),
fA 69 0 none 68,
lD 70 none 69,
bN 71 .eql 70 (cI 4),
mV 72 71,
gD 73 72 false (.mv 5),
gD 74 72 false (.nilchk 73),
gD 75 72 false (.faddr 0 none 74),
gD 76 72 false (.load none 75),
gD 77 72 false (.bin .eql 76 (cI 5)),
uO 78 (.pick 72 cT 77)] [0,3,5,78])
(.cond 78 (.seq (rg [mV 4 (cI 11)] [4])
.ret)
.skip))
(.seq (.seq (rg [mV 79 5,
uO 80 (.nilchk 79),
fA 81 0 none 80,
lD 82 none 81,
bN 83 .eql 82 (cI 2)] [0,3,5,83])
(.cond 83 (rg [mV 84 0,
mV 85 5,
fA 86 2 none 3,
lD 87 none 86,
cL 88 CU [84,85,87]] [3,5])
.skip))
zhn))
def zhl:ACode:=(.seq (rg [uO 3 (.box 1),
mV 4 (cI 0)] [0,3])
(.seq (dr [dF (mV 6 0) [0],
dF (uO 7 (.nilchk 6)) [6],
dF (fA 8 2 none 7) [7],
dF (lD 9 none 8) [8],
dF (fA 10 4 none 3) [3],
dF (lD 11 none 10) [10],
dF (uO 12 (.look (none,[2]) false (.nilp) 9 11)) [9,11],
dF (mV 5 12) [12]] [0,3,5])
(.seq (.seq (rg [fA 13 3 none 3,
lD 14 none 13,
bN 15 .eql 14 (cI 1)] [0,3,5,15])
(.cond 15 (.seq (.seq (rg [mV 16 5,
uO 17 (.isnil 0 true 16)] [0,3,17])
(.cond 17 (.seq (rg [mV 4 (cI 6)] [4])
.ret)
.skip))
(.seq (dr [dF (mV 18 0) [0],
dF (uO 19 (.nilchk 18)) [18],
dF (fA 20 2 none 19) [19],
dF (lD 21 none 20) [20],
dF (fA 22 4 none 3) [3],
dF (lD 23 none 22) [22],
dF (fA 24 2 none 3) [3],
dF (lD 25 none 24) [24],
dF (mV 26 0) [0],
dF (uO 27 (.nilchk 26)) [26],
dF (fA 28 0 (some 2) 27) [27],
dF (fA 29 0 none 28) [28],
dF (lD 30 none 29) [29],
dF (iA 31 none 30 (cI 0)) [30],
dF (lD 32 none 31) [31],
dF (uO 33 (.build [.p (.int .i64 0),.p (.int .i64 0),.p (.str []),.p (.str []),.p (.int .i64 0)] [(0,1,(cI 1)),(1,1,25),(2,1,32)])) [25,32],
dA (uO 34 (.box 33)) [33] true [] [3,5],
dT (wO (.mupd (none,[2]) 21 23 34)) [21,23,34]] [])
(.seq (rg [mV 4 (cI 0)] [4])
.ret)))
.skip))
(.seq (.seq (rg [mV 35 5,
uO 36 (.isnil 0 false 35)] [0,3,5,36])
(.cond 36 (.seq (rg [mV 4 (cI 8)] [4])
.ret)
.skip))
(.seq (.seq (rg [fA 37 3 none 3,
lD 38 none 37] [0,3,5,38])
(.block 0 (.seq (rg [bN 40 .eql 38 (cI 2),
mV 39 40] [0,3,5,38,39])
(.cond 39 (.seq (rg [mV 41 0,
mV 42 5,
lD 43 (some 8) 3,
cL 44 z0B [41,42,43],
mV 4 44] [4])
.ret)
(.seq (.seq (rg [bN 46 .eql 38 (cI 3),
mV 45 46] [0,3,5,38,45])
(.cond 45 .skip
(rg [bN 47 .eql 38 (cI 4),
mV 45 47] [0,3,5,38,45])))
zhm)))))
zho)))))
def z6f:AFun:=⟨2,[.t 4],zhl,false,false⟩
def zhq:ACode:=.pr [5,6,17,18,19] (rg [bN 59 .add 19 (cI 1),
mV 19 59] [5,6,17,18,19])
def zhr:ACode:=.pr [5,6,17,18,19] (.seq (rg [bN 20 .lss 19 18] [5,6,17,18,19,20])
(.seq (.cond 20 .skip
(.exit 0))
(.seq (.block 1 (.seq (rg [mV 21 19,
iA 22 (some 8) 17 19,
lD 23 (some 8) 22,
uO 8 (.alloc [.p (.str []),.p (.int .i64 0),.p (.int .i64 0),.p (.int .i64 0),.p (.str []),.p (.str []),.p (.str []),.p (.int .i64 0)]),
mV 7 21,
wO (.store (some 8) 8 23)] [5,6,7,8,17,18,19])
(.seq (.seq (rg [mV 24 6,
mV 25 7,
iA 26 none 24 25,
lD 27 none 26,
uO 28 (.un .not 27),
mV 29 28,
gD 30 29 false (.faddr 3 none 8),
gD 31 29 false (.load none 30),
gD 32 29 false (.bin .eql 31 (cI 7)),
uO 33 (.pick 29 cT 32)] [5,6,7,8,17,18,19,33])
(.cond 33 (.exit 1)
.skip))
(.seq (rg [mV 34 5,
lD 35 (some 8) 8,
cL 36 z0C [34,35],
mV 9 36] [5,6,7,9,17,18,19])
(.seq (rg [mV 37 9,
bN 38 .neq 37 (cI 0)] [5,6,7,9,17,18,19,38])
(.cond 38 (.seq (rg [mV 39 5,
mV 40 5,
uO 41 (.nilchk 40),
fA 42 6 none 41,
lD 43 none 42,
mV 44 7,
uO 45 (.bsl false none 1 (.int .i64 0) [(0,44)]),
uO 46 (.app none 43 45),
uO 47 (.nilchk 39),
fA 48 6 none 47,
wO (.store none 48 46)] [5,6,9,17,18,19])
(rg [mV 49 5,
mV 50 5,
uO 51 (.nilchk 50),
fA 52 7 none 51,
lD 53 none 52,
mV 54 9,
uO 55 (.bsl false none 1 (.int .i64 0) [(0,54)]),
uO 56 (.app none 53 55),
uO 57 (.nilchk 49),
fA 58 7 none 57,
wO (.store none 58 56)] [5,6,17,18,19]))
.skip))))))
zhq)))
def zhs:ACode:=.pr [5] (.seq (rg [mV 60 5,
mV 4 60] [4])
.ret)
def zhp:ACode:=(.seq (rg [uO 2 (.uns 12 0 [0]),
mV 4 (.c (.nilp))] [1,2])
(.seq (rg [lD 10 (some 2) 2,
uO 11 (.mkmap),
uO 12 (.mkmap),
uO 13 (.build [.sl0 none,.p (.int .i64 0),.nilm,.nilm,.sl0 (some 5),.sl0 (some 3),.sl0 none,.sl0 none] [(0,2,10),(2,1,11),(3,1,12)]),
uO 14 (.uns 12 0 [13]),
mV 5 14] [1,5])
(.seq (rg [mV 15 1,
cL 16 z06 [15],
mV 6 16] [1,5,6])
(.seq (.seq (rg [mV 17 1,
lN 18 17,
mV 19 (cI 0)] [5,6,17,18,19])
(.block 0 (.loop (.scope zhr))))
zhs))))
def z6g:AFun:=⟨2,[.t 4],zhp,false,false⟩
def zht:ACode:=(.seq (rg [mV 2 (cI 0)] [0])
(.seq (.seq (rg [mV 3 0,
cL 4 vU [3],
uO 5 (.un .not 4)] [5])
(.cond 5 (.seq (rg [mV 2 (cI 1)] [2])
.ret)
.skip))
(.seq (rg [mV 2 (cI 0)] [2])
.ret)))
def z6h:AFun:=⟨1,[.t 2],zht,false,false⟩
def zhv:ACode:=.pr [3,8,9,10] (.seq (rg [bN 11 .lss 10 9] [3,8,9,10,11])
(.seq (.cond 11 .skip
(.exit 0))
(.seq (.block 1 (.seq (rg [iA 12 (some 8) 8 10,
lD 13 (some 8) 12,
uO 5 (.alloc [.p (.str []),.p (.int .i64 0),.p (.int .i64 0),.p (.int .i64 0),.p (.str []),.p (.str []),.p (.str []),.p (.int .i64 0)]),
wO (.store (some 8) 5 13)] [3,5,8,9,10])
(.seq (rg [fA 14 0 none 5,
lD 15 none 14,
fA 16 1 none 5,
lD 17 none 16,
uO 18 (.build [.p (.str []),.p (.int .i64 0)] [(0,1,15),(1,1,17)]),
uO 6 (.alloc [.p (.str []),.p (.int .i64 0)]),
wO (.store (some 2) 6 18)] [3,6,8,9,10])
(.seq (.seq (rg [mV 19 3,
lD 20 (some 2) 6,
uO 21 (.look ((some 2),[2,0]) false (AB false) 19 20)] [3,6,8,9,10,21])
(.cond 21 (.seq (rg [mV 2 cT] [2])
.ret)
.skip))
(rg [mV 22 3,
lD 23 (some 2) 6,
wO (.mupd ((some 2),[2,0]) 22 23 cT)] [3,8,9,10])))))
(rg [bN 24 .add 10 (cI 1),
mV 10 24] [3,8,9,10]))))
def zhw:ACode:=.pr [] (.seq (rg [mV 2 cF] [2])
.ret)
def zhu:ACode:=(.seq (rg [mV 2 cF] [0])
(.seq (rg [uO 7 (.mkmap),
mV 3 7] [0,3])
(.seq (.seq (rg [mV 8 0,
lN 9 8,
mV 10 (cI 0)] [3,8,9,10])
(.block 0 (.loop (.scope zhv))))
zhw)))
def z6i:AFun:=⟨1,[.t 2],zhu,false,false⟩
def zhy:ACode:=.pr [0,1,5] (.seq (.seq (rg [mV 8 5,
bN 9 .gtr 8 (cI 0),
mV 10 9,
gD 11 10 true (.mv 0),
gD 12 10 true (.mv 5),
gD 13 10 true (.bin .sub 12 (cI 1)),
gD 14 10 true (.iaddr (some 8) 11 13),
gD 15 10 true (.faddr 2 none 14),
gD 16 10 true (.load none 15),
gD 17 10 true (.mv 1),
gD 18 10 true (.bin .gtr 16 17),
uO 19 (.pick 10 18 cF)] [0,1,5,19])
(.cond 19 .skip
(.exit 0)))
(.block 1 (rg [mV 20 5,
bN 21 .sub 20 (cI 1),
mV 5 21] [0,1,5])))
def zhz:ACode:=.pr [0,5] (.seq (rg [mV 22 0,
mV 23 5,
uO 24 (.slice (some 8) 22 none (some 23) none),
mV 4 24] [4])
.ret)
def zhx:ACode:=(.seq (rg [mV 4 (.c (.p (.sl (some 8) [])))] [0,1])
(.seq (rg [mV 6 0,
lN 7 6,
mV 5 7] [0,1,5])
(.seq (.block 0 (.loop zhy))
zhz)))
def z6j:AFun:=⟨2,[.t 4],zhx,false,false⟩
def zh0:ACode:=(.seq (rg [mV 4 (cI 0)] [0,1])
(.seq (rg [mV 5 0,
mV 6 1,
cL 7 z0s [5,6],
mV 4 7] [4])
.ret))
def z6k:AFun:=⟨2,[.t 4],zh0,false,false⟩
def zh1:ACode:=(.seq (rg [mV 4 (cS []),
mV 5 (cI 0)] [0,1])
(.seq (.seq (rg [mV 6 0,
cL 7 DU [6],
uO 8 (.un .not 7),
mV 9 8,
gD 10 9 false (.mv 1),
gD 11 9 false (.call DU [10]),
gD 12 9 false (.un .not 11),
uO 13 (.pick 9 cT 12)] [0,1,13])
(.cond 13 (.seq (rg [mV 4 (cS []),
mV 5 (cI 1)] [4,5])
.ret)
.skip))
(.seq (rg [mV 14 0,
mV 15 1,
cL 16 QG [14,15],
mV 4 16,
mV 5 (cI 0)] [4,5])
.ret)))
def z6l:AFun:=⟨2,[.t 4,.t 5],zh1,false,false⟩
end Go.Am
end
