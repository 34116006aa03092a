/- Texts of the proof, laid together: CodesB, CodesC, CodesD, AmL. -/
import Derived.KernelRfl
import Derived.Test.YtcfpflfpinmmmaaGreatDoorlawTL4
set_option linter.all false
section
/- The functions asv abstract code,and asv formulas FE their values: printed by program out of the translation. -/
set_option linter.all false
set_option maxRecDepth 100000
namespace Go.Am
def uX:ACode:=(.seq (rg [uO 4 (.alloc [.p (.int .i64 0),.p (.int .i64 0)])] [0,1,4])
(.seq (rg [mV 6 0,
mV 7 0,
uO 8 (.un .neg 7),
uO 9 (.mx [6,8]),
mV 10 1,
cL 11 gJ [9,10],
mV 5 11] [0,1,4,5])
(.seq (dr [dF (mV 12 0) [0],
dF (mV 13 5) [5],
dF (bN 14 .quo 12 13) [12,13],
dF (mV 15 1) [1],
dF (mV 16 5) [5],
dF (bN 17 .quo 15 16) [15,16],
dF (uO 18 (.build [.p (.int .i64 0),.p (.int .i64 0)] [(0,1,14),(1,1,17)])) [14,17],
dT (wO (.store (some 2) 4 18)) [4,18]] [4])
.ret)))
def sN:AFun:=⟨2,[.cell 4 (some 2)],uX,false,false⟩
def rO (C:Hd)(gl:GL)(e:En)(h:aA)(x:Esc)(K:KT):Sf C gl uX e h x K:=⟨_,by simp only[uX,↓wZ,AO.still];rfl⟩
theorem zao {C gl v0 v1 h x K}:NW C gl sN.body ⟨enter [v0,v1],h,x⟩ K=(rO C gl [(0,v0),(1,v1)] h x K).1:=(rO C gl [(0,v0),(1,v1)] h x K).2
def zQ:ACode:=.pr [0,6,9,10,32,33,34] (rg [bN 44 .add 34 (cI 1),
mV 34 44] [0,6,9,10,32,33,34])
def EU (C:Hd)(gl:GL)(e:En)(h:aA)(x:Esc)(K:KT):Sf C gl zQ e h x K:=⟨_,by simp only[zQ,↓wZ,AO.still];rfl⟩
theorem zaB {C gl e h x K}:NW C gl zQ ⟨e,h,x⟩ K=(EU C gl e h x K).1:=(EU C gl e h x K).2
def YJ:ACode:=.pr [0,6,9,10,32,33,34] (.seq (rg [bN 35 .lss 34 33] [0,6,9,10,32,33,34,35])
(.seq (.cond 35 .skip
(.exit 0))
(.seq (.block 1 (.seq (rg [iA 36 (some 4) 32 34,
lD 37 (some 4) 36,
uO 12 (.alloc [.p (.str []),.p (.int .i64 0),.p (.str []),.sl0 none]),
wO (.store (some 4) 12 37)] [0,6,9,10,12,32,33,34])
(.seq (rg [mV 38 0,
lD 39 (some 4) 12,
cL 40 CF [38,39],
bN 41 .lss 40 (cI 0)] [0,6,9,10,32,33,34,41])
(.cond 41 (rg [mV 42 9,
bN 43 .add 42 (cI 1),
mV 9 43] [0,6,9,10,32,33,34])
.skip))))
zQ)))
def FU (C:Hd)(gl:GL)(e:En)(h:aA)(x:Esc)(K:KT):Sf C gl YJ e h x K:=⟨_,by simp only[YJ,↓wZ,AO.still];rfl⟩
theorem zaC {C gl e h x K}:NW C gl YJ ⟨e,h,x⟩ K=(FU C gl e h x K).1:=(FU C gl e h x K).2
theorem zff {C gl e h x K}:NW C gl (.loop (.scope YJ)) ⟨e,h,x⟩ K=MA C gl (.scope YJ) K [(0,eA e 0),(6,eA e 6),(9,eA e 9),(10,eA e 10),(32,eA e 32),(33,eA e 33),(34,eA e 34)] h x:=MD
def AQ:ACode:=.pr [6,9,10] (.seq (rg [mV 45 9,
mV 46 10,
lN 47 46,
cL 48 jG [45,47],
wO (.store (some 2) 6 48),
mV 7 (cI 0)] [6,7])
.ret)
def GU (C:Hd)(gl:GL)(e:En)(h:aA)(x:Esc)(K:KT):Sf C gl AQ e h x K:=⟨_,by simp only[AQ,↓wZ,AO.still];rfl⟩
theorem zaD {C gl e h x K}:NW C gl AQ ⟨e,h,x⟩ K=(GU C gl e h x K).1:=(GU C gl e h x K).2
def BQ:ACode:=.pr [0,1,2,6,8] (.seq (.seq (rg [mV 24 8,
bN 25 .neq 24 (cI 0)] [0,1,2,6,8,25])
(.cond 25 (.seq (rg [uO 26 (.build [.p (.int .i64 0),.p (.int .i64 0)] []),
mV 27 8,
wO (.store (some 2) 6 26),
mV 7 27] [6,7])
.ret)
.skip))
(.seq (rg [mV 9 (cI 0)] [0,1,2,6,9])
(.seq (rg [mV 28 0,
mV 29 1,
mV 30 2,
cL 31 ML [28,29,30],
mV 10 31] [0,6,9,10])
(.seq (.seq (rg [mV 32 10,
lN 33 32,
mV 34 (cI 0)] [0,6,9,10,32,33,34])
(.block 0 (.loop (.scope YJ))))
AQ))))
def HU (C:Hd)(gl:GL)(e:En)(h:aA)(x:Esc)(K:KT):Sf C gl BQ e h x K:=⟨_,by simp only[BQ,↓wZ,AO.still];rfl⟩
theorem zaE {C gl e h x K}:NW C gl BQ ⟨e,h,x⟩ K=(HU C gl e h x K).1:=(HU C gl e h x K).2
def JX:ACode:=(.seq (rg [uO 6 (.alloc [.p (.int .i64 0),.p (.int .i64 0)]),
mV 7 (cI 0)] [0,1,2,6])
(.seq (rg [mV 13 0,
mV 14 1,
mV 15 2,
cL 16 PL [13,14,15],
mV 8 16] [0,1,2,6,8])
(.seq (.seq (rg [mV 17 8,
bN 18 .eql 17 (cI 0),
mV 19 18,
gD 20 19 true (.mv 1),
gD 21 19 true (.len 20),
gD 22 19 true (.bin .eql 21 (cI 0)),
uO 23 (.pick 19 22 cF)] [0,1,2,6,8,23])
(.cond 23 (rg [mV 8 (cI 8)] [0,1,2,6,8])
.skip))
BQ)))
def NS:AFun:=⟨3,[.cell 6 (some 2),.t 7],JX,false,false⟩
def SI (C:Hd)(gl:GL)(e:En)(h:aA)(x:Esc)(K:KT):Sf C gl JX e h x K:=⟨_,by simp only[JX,↓wZ,AO.still];rfl⟩
theorem zaA {C gl v0 v1 v2 h x K}:NW C gl NS.body ⟨enter [v0,v1,v2],h,x⟩ K=(SI C gl [(0,v0),(1,v1),(2,v2)] h x K).1:=(SI C gl [(0,v0),(1,v1),(2,v2)] h x K).2
def XY:ACode:=(.seq (rg [uO 3 (.box 0),
mV 6 (cI 0)] [1,2,3])
(.seq (rg [lD 7 (some 2) 3,
cL 8 zJ [7],
mV 9 1,
cL 10 yJ [9],
mV 11 2,
cL 12 IJ [11],
uO 13 (.bsl false none 3 (.int .i64 0) [(0,8),(1,10),(2,12)]),
cL 14 fJ [13],
mV 6 14] [6])
.ret))
def LN:AFun:=⟨3,[.t 6],XY,false,false⟩
def wP (C:Hd)(gl:GL)(e:En)(h:aA)(x:Esc)(K:KT):Sf C gl XY e h x K:=⟨_,by simp only[XY,↓wZ,AO.still];rfl⟩
theorem zcL {C gl v0 v1 v2 h x K}:NW C gl LN.body ⟨enter [v0,v1,v2],h,x⟩ K=(wP C gl [(0,v0),(1,v1),(2,v2)] h x K).1:=(wP C gl [(0,v0),(1,v1),(2,v2)] h x K).2
def fY:ACode:=(.seq (rg [mV 4 (cI 0)] [0,1])
(.seq (rg [mV 5 1,
mV 6 0,
mV 7 1,
lN 8 7,
cL 9 BD [6,8],
iA 10 none 5 9,
lD 11 none 10,
mV 4 11] [4])
.ret))
def lT:AFun:=⟨2,[.t 4],fY,false,false⟩
def QO (C:Hd)(gl:GL)(e:En)(h:aA)(x:Esc)(K:KT):Sf C gl fY e h x K:=⟨_,by simp only[fY,↓wZ,AO.still];rfl⟩
theorem zbn {C gl v0 v1 h x K}:NW C gl lT.body ⟨enter [v0,v1],h,x⟩ K=(QO C gl [(0,v0),(1,v1)] h x K).1:=(QO C gl [(0,v0),(1,v1)] h x K).2
def bY:ACode:=(.seq (rg [mV 4 cF] [0,1])
(.seq (rg [mV 5 0,
mV 6 1,
cL 7 BD [5,6],
bN 8 .eql 7 (cI 0),
mV 4 8] [4])
.ret))
def gT:AFun:=⟨2,[.t 4],bY,false,false⟩
def PO (C:Hd)(gl:GL)(e:En)(h:aA)(x:Esc)(K:KT):Sf C gl bY e h x K:=⟨_,by simp only[bY,↓wZ,AO.still];rfl⟩
theorem zbi {C gl v0 v1 h x K}:NW C gl gT.body ⟨enter [v0,v1],h,x⟩ K=(PO C gl [(0,v0),(1,v1)] h x K).1:=(PO C gl [(0,v0),(1,v1)] h x K).2
def pY:ACode:=(.seq (rg [mV 4 (cS [])] [0,1])
(.seq (rg [mV 5 1,
mV 6 0,
mV 7 1,
lN 8 7,
cL 9 BD [6,8],
iA 10 none 5 9,
lD 11 none 10,
mV 4 11] [4])
.ret))
def tT:AFun:=⟨2,[.t 4],pY,false,false⟩
def XO (C:Hd)(gl:GL)(e:En)(h:aA)(x:Esc)(K:KT):Sf C gl pY e h x K:=⟨_,by simp only[pY,↓wZ,AO.still];rfl⟩
theorem zb6 {C gl v0 v1 h x K}:NW C gl tT.body ⟨enter [v0,v1],h,x⟩ K=(XO C gl [(0,v0),(1,v1)] h x K).1:=(XO C gl [(0,v0),(1,v1)] h x K).2
def eY:ACode:=(.seq (rg [mV 6 (cI 0)] [0,1,2])
(.seq (.seq (rg [mV 7 0,
cL 8 zE [7,(cI 12)]] [0,1,2,8])
(.cond 8 (.seq (rg [mV 9 0,
mV 10 1,
bN 11 .sub 10 (cI 1),
mV 12 2,
bN 13 .add 12 (cI 1),
mV 14 1,
mV 15 2,
uO 16 (.bsl false none 6 (.int .i64 0) [(0,11),(1,13),(2,14),(3,15),(4,(cI (-1099511627776))),(5,(cI 1099511627776))]),
cL 17 MC [9,16],
mV 6 17] [6])
.ret)
.skip))
(.seq (rg [mV 18 0,
mV 19 1,
mV 20 2,
cL 21 DF [18,19,20],
mV 6 21] [6])
.ret)))
def kT:AFun:=⟨3,[.t 6],eY,false,false⟩
def qL (C:Hd)(gl:GL)(e:En)(h:aA)(x:Esc)(K:KT):Sf C gl eY e h x K:=⟨_,by simp only[eY,↓wZ,AO.still];rfl⟩
theorem zbm {C gl v0 v1 v2 h x K}:NW C gl kT.body ⟨enter [v0,v1,v2],h,x⟩ K=(qL C gl [(0,v0),(1,v1),(2,v2)] h x K).1:=(qL C gl [(0,v0),(1,v1),(2,v2)] h x K).2
def qY:ACode:=(.seq (rg [mV 2 cF] [0])
(.seq (rg [mV 3 0,
uO 4 (.lens 3),
cL 5 AE [4,(cI 1),(cI 40)],
mV 6 5,
gD 7 6 true (.mv 0),
gD 8 6 true (.slstr 7 none (some (cI 1))),
gD 9 6 true (.call qJ [8,(cS [97,98,99,100,101,102,103,104,105,106,107,108,109,110,111,112,113,114,115,116,117,118,119,120,121,122])]),
uO 10 (.pick 6 9 cF),
mV 11 10,
gD 12 11 true (.mv 0),
gD 13 11 true (.call qJ [12,(cS [97,98,99,100,101,102,103,104,105,106,107,108,109,110,111,112,113,114,115,116,117,118,119,120,121,122,48,49,50,51,52,53,54,55,56,57,45,95])]),
uO 14 (.pick 11 13 cF),
mV 2 14] [2])
.ret))
def uT:AFun:=⟨1,[.t 2],qY,false,false⟩
def DH (C:Hd)(gl:GL)(e:En)(h:aA)(x:Esc)(K:KT):Sf C gl qY e h x K:=⟨_,by simp only[qY,↓wZ,AO.still];rfl⟩
theorem zb7 {C gl v0 h x K}:NW C gl uT.body ⟨enter [v0],h,x⟩ K=(DH C gl [(0,v0)] h x K).1:=(DH C gl [(0,v0)] h x K).2
def uY:ACode:=(.seq (rg [uO 3 (.box 1),
mV 4 (cI 0)] [0,3])
(.seq (rg [mV 5 0,
uO 6 (.mkfn pJ [3]),
cL 7 vJ [5,6],
mV 4 7] [4])
.ret))
def yT:AFun:=⟨2,[.t 4],uY,false,false⟩
def ZO (C:Hd)(gl:GL)(e:En)(h:aA)(x:Esc)(K:KT):Sf C gl uY e h x K:=⟨_,by simp only[uY,↓wZ,AO.still];rfl⟩
theorem zbF {C gl v0 v1 h x K}:NW C gl yT.body ⟨enter [v0,v1],h,x⟩ K=(ZO C gl [(0,v0),(1,v1)] h x K).1:=(ZO C gl [(0,v0),(1,v1)] h x K).2
def xY:ACode:=(.seq (rg [mV 6 cF] [0,1,2])
(.seq (rg [mV 7 1,
mV 8 0,
bN 9 .leq 7 8,
mV 10 9,
gD 11 10 true (.mv 0),
gD 12 10 true (.mv 2),
gD 13 10 true (.bin .leq 11 12),
uO 14 (.pick 10 13 cF),
mV 6 14] [6])
.ret))
def BT:AFun:=⟨3,[.t 6],xY,false,false⟩
def cP (C:Hd)(gl:GL)(e:En)(h:aA)(x:Esc)(K:KT):Sf C gl xY e h x K:=⟨_,by simp only[xY,↓wZ,AO.still];rfl⟩
theorem zbK {C gl v0 v1 v2 h x K}:NW C gl BT.body ⟨enter [v0,v1,v2],h,x⟩ K=(cP C gl [(0,v0),(1,v1),(2,v2)] h x K).1:=(cP C gl [(0,v0),(1,v1),(2,v2)] h x K).2
def MY:ACode:=(rg [mV 4 0,
mV 5 0,
lN 6 5,
mV 7 1,
cL 8 eM [4,6,7]] [])
def NT:AFun:=⟨2,[],MY,true,false⟩
def qP (C:Hd)(gl:GL)(e:En)(h:aA)(x:Esc)(K:KT):Sf C gl MY e h x K:=⟨_,by simp only[MY,↓wZ,AO.still];rfl⟩
theorem zcr {C gl v0 v1 h x K}:NW C gl NT.body ⟨enter [v0,v1],h,x⟩ K=(qP C gl [(0,v0),(1,v1)] h x K).1:=(qP C gl [(0,v0),(1,v1)] h x K).2
def lY:ACode:=(.seq (rg [uO 2 (.box 0),
uO 3 (.box 1),
mV 4 (cI 0)] [2,3])
(.seq (dr [dF (fA 5 1 none 2) [2],
dF (lD 6 none 5) [5],
dF (fA 7 1 none 3) [3],
dF (lD 8 none 7) [7],
dT (cL 9 kG [6,8]) [6,8],
dF (fA 10 0 none 2) [2],
dA (lD 11 none 10) [10] false [4] [],
dF (fA 12 0 none 3) [3],
dA (lD 13 none 12) [12] false [4] [],
dT (cL 14 GF [11,13]) [11,13],
dF (uO 15 (.bsl false none 2 (.int .i64 0) [(0,9),(1,14)])) [9,14],
dT (cL 16 QG [15]) [15],
dF (mV 4 16) [16]] [4])
.ret))
def oT:AFun:=⟨2,[.t 4],lY,false,false⟩
def TO (C:Hd)(gl:GL)(e:En)(h:aA)(x:Esc)(K:KT):Sf C gl lY e h x K:=⟨_,by simp only[lY,↓wZ,AO.still];rfl⟩
theorem zby {C gl v0 v1 h x K}:NW C gl oT.body ⟨enter [v0,v1],h,x⟩ K=(TO C gl [(0,v0),(1,v1)] h x K).1:=(TO C gl [(0,v0),(1,v1)] h x K).2
def WJ:ACode:=.pr [3,6,7,8] (.seq (rg [bN 9 .lss 8 7] [3,6,7,8,9])
(.seq (.cond 9 .skip
(.exit 0))
(.seq (.block 1 (.seq (rg [iA 10 none 6 8,
lD 11 none 10,
mV 5 11] [3,5,6,7,8])
(.seq (rg [mV 12 5,
mV 13 3,
bN 14 .neq 12 13] [3,5,6,7,8,14])
(.cond 14 (.seq (rg [mV 15 5,
mV 2 15] [2])
.ret)
.skip))))
(rg [bN 16 .add 8 (cI 1),
mV 8 16] [3,6,7,8]))))
def zU (C:Hd)(gl:GL)(e:En)(h:aA)(x:Esc)(K:KT):Sf C gl WJ e h x K:=⟨_,by simp only[WJ,↓wZ,AO.still];rfl⟩
theorem zaz {C gl e h x K}:NW C gl WJ ⟨e,h,x⟩ K=(zU C gl e h x K).1:=(zU C gl e h x K).2
theorem zfd {C gl e h x K}:NW C gl (.loop WJ) ⟨e,h,x⟩ K=MA C gl WJ K [(3,eA e 3),(6,eA e 6),(7,eA e 7),(8,eA e 8)] h x:=FB
def xQ:ACode:=.pr [3] (.seq (rg [mV 17 3,
mV 2 17] [2])
.ret)
def BU (C:Hd)(gl:GL)(e:En)(h:aA)(x:Esc)(K:KT):Sf C gl xQ e h x K:=⟨_,by simp only[xQ,↓wZ,AO.still];rfl⟩
theorem za0 {C gl e h x K}:NW C gl xQ ⟨e,h,x⟩ K=(BU C gl e h x K).1:=(BU C gl e h x K).2
def AX:ACode:=(.seq (rg [mV 2 (cI 0)] [0])
(.seq (rg [mV 3 (cI 0)] [0,3])
(.seq (.seq (rg [mV 6 0,
lN 7 6,
mV 8 (cI 0)] [3,6,7,8])
(.block 0 (.loop WJ)))
xQ)))
def yN:AFun:=⟨1,[.t 2],AX,false,false⟩
def xO (C:Hd)(gl:GL)(e:En)(h:aA)(x:Esc)(K:KT):Sf C gl AX e h x K:=⟨_,by simp only[AX,↓wZ,AO.still];rfl⟩
theorem zay {C gl v0 h x K}:NW C gl yN.body ⟨enter [v0],h,x⟩ K=(xO C gl [(0,v0)] h x K).1:=(xO C gl [(0,v0)] h x K).2
def zX:ACode:=(.seq (rg [mV 4 (cI 0)] [0,1])
(.seq (rg [mV 7 0,
cL 8 KH [7],
mV 5 8] [0,1,5])
(.seq (rg [mV 9 1,
cL 10 KH [9],
mV 6 10] [0,1,5,6])
(.seq (.seq (rg [mV 11 5] [0,1,6,11])
(.cond 11 (.seq (.seq (rg [mV 12 6] [12])
(.cond 12 (.seq (rg [mV 4 (cI 0)] [4])
.ret)
.skip))
(.seq (rg [mV 4 (cI (-1))] [4])
.ret))
.skip))
(.seq (.seq (rg [mV 13 6] [0,1,13])
(.cond 13 (.seq (rg [mV 4 (cI 1)] [4])
.ret)
.skip))
(.seq (.seq (rg [mV 14 0,
mV 15 1,
bN 16 .lss 14 15] [0,1,16])
(.cond 16 (.seq (rg [mV 4 (cI (-1))] [4])
.ret)
.skip))
(.seq (.seq (rg [mV 17 0,
mV 18 1,
bN 19 .gtr 17 18] [19])
(.cond 19 (.seq (rg [mV 4 (cI 1)] [4])
.ret)
.skip))
(.seq (rg [mV 4 (cI 0)] [4])
.ret))))))))
def xN:AFun:=⟨2,[.t 4],zX,false,false⟩
def PI (C:Hd)(gl:GL)(e:En)(h:aA)(x:Esc)(K:KT):Sf C gl zX e h x K:=⟨_,by simp only[zX,↓wZ,AO.still];rfl⟩
theorem zax {C gl v0 v1 h x K}:NW C gl xN.body ⟨enter [v0,v1],h,x⟩ K=(PI C gl [(0,v0),(1,v1)] h x K).1:=(PI C gl [(0,v0),(1,v1)] h x K).2
def jZ:ACode:=(.seq (rg [mV 4 (cI 0)] [0,1])
(.seq (rg [mV 5 0,
mV 6 1,
cL 7 hJ [5,6],
mV 4 7] [4])
.ret))
def VN:AFun:=⟨2,[.t 4],jZ,false,false⟩
def DP (C:Hd)(gl:GL)(e:En)(h:aA)(x:Esc)(K:KT):Sf C gl jZ e h x K:=⟨_,by simp only[jZ,↓wZ,AO.still];rfl⟩
theorem zdr {C gl v0 v1 h x K}:NW C gl VN.body ⟨enter [v0,v1],h,x⟩ K=(DP C gl [(0,v0),(1,v1)] h x K).1:=(DP C gl [(0,v0),(1,v1)] h x K).2
def XQ:ACode:=.pr [0,1,5,6,7] (rg [mV 36 7,
bN 37 .add 36 (cI 1),
mV 7 37] [0,1,5,6,7])
def qV (C:Hd)(gl:GL)(e:En)(h:aA)(x:Esc)(K:KT):Sf C gl XQ e h x K:=⟨_,by simp only[XQ,↓wZ,AO.still];rfl⟩
theorem zbZ {C gl e h x K}:NW C gl XQ ⟨e,h,x⟩ K=(qV C gl e h x K).1:=(qV C gl e h x K).2
def mK:ACode:=.pr [0,1,5,6,7] (.seq (.seq (rg [mV 32 7,
mV 33 6,
lN 34 33,
bN 35 .lss 32 34] [0,1,5,6,7,35])
(.cond 35 .skip
(.exit 2)))
(.seq (.block 3 (.seq (dr [dF (mV 38 1) [1],
dF (mV 39 6) [6],
dF (mV 40 7) [7],
dF (iA 41 (some 4) 39 40) [39,40],
dF (lD 42 (some 4) 41) [41],
dF (mV 43 6) [6],
dF (mV 44 7) [7],
dF (bN 45 .sub 44 (cI 1)) [44],
dF (iA 46 (some 4) 43 45) [43,45],
dF (lD 47 (some 4) 46) [46],
dT (uO 48 (.callv 38 [42,47])) [38,42,47],
dF (uO 49 (.un .not 48)) [48]] [0,1,5,6,7,49])
(.cond 49 (.seq (rg [mV 50 0,
mV 51 5,
mV 52 6,
mV 53 7,
iA 54 (some 4) 52 53,
lD 55 (some 4) 54,
iA 56 (some 4) 50 51,
wO (.store (some 4) 56 55)] [0,1,5,6,7])
(rg [mV 57 5,
bN 58 .add 57 (cI 1),
mV 5 58] [0,1,5,6,7]))
.skip)))
XQ))
def rV (C:Hd)(gl:GL)(e:En)(h:aA)(x:Esc)(K:KT):Sf C gl mK e h x K:=⟨_,by simp only[mK,↓wZ,AO.still];rfl⟩
theorem zca {C gl e h x K}:NW C gl mK ⟨e,h,x⟩ K=(rV C gl e h x K).1:=(rV C gl e h x K).2
theorem zfs {C gl e h x K}:NW C gl (.loop mK) ⟨e,h,x⟩ K=MA C gl mK K [(0,eA e 0),(1,eA e 1),(5,eA e 5),(6,eA e 6),(7,eA e 7)] h x:=FB
def YQ:ACode:=.pr [0,5] (.seq (rg [mV 59 0,
mV 60 5,
uO 61 (.slice (some 4) 59 (some 60) none none),
wO (.clr (some 4) (.agg [.str [],.int .i64 0,.str [],.sl none []]) 61)] [0,5])
(.seq (rg [mV 62 0,
mV 63 5,
uO 64 (.slice (some 4) 62 none (some 63) none),
mV 4 64] [4])
.ret))
def sV (C:Hd)(gl:GL)(e:En)(h:aA)(x:Esc)(K:KT):Sf C gl YQ e h x K:=⟨_,by simp only[YQ,↓wZ,AO.still];rfl⟩
theorem zcb {C gl e h x K}:NW C gl YQ ⟨e,h,x⟩ K=(sV C gl e h x K).1:=(sV C gl e h x K).2
def ZQ:ACode:=.pr [0,1,5] (rg [mV 16 5,
bN 17 .add 16 (cI 1),
mV 5 17] [0,1,5])
def tV (C:Hd)(gl:GL)(e:En)(h:aA)(x:Esc)(K:KT):Sf C gl ZQ e h x K:=⟨_,by simp only[ZQ,↓wZ,AO.still];rfl⟩
theorem zcc {C gl e h x K}:NW C gl ZQ ⟨e,h,x⟩ K=(tV C gl e h x K).1:=(tV C gl e h x K).2
def nK:ACode:=.pr [0,1,5] (.seq (.seq (rg [mV 12 5,
mV 13 0,
lN 14 13,
bN 15 .lss 12 14] [0,1,5,15])
(.cond 15 .skip
(.exit 0)))
(.seq (.block 1 (.seq (dr [dF (mV 18 1) [1],
dF (mV 19 0) [0],
dF (mV 20 5) [5],
dF (iA 21 (some 4) 19 20) [19,20],
dF (lD 22 (some 4) 21) [21],
dF (mV 23 0) [0],
dF (mV 24 5) [5],
dF (bN 25 .sub 24 (cI 1)) [24],
dF (iA 26 (some 4) 23 25) [23,25],
dF (lD 27 (some 4) 26) [26],
dT (uO 28 (.callv 18 [22,27])) [18,22,27]] [0,1,5,28])
(.cond 28 (.seq (rg [mV 29 0,
mV 30 5,
uO 31 (.slice (some 4) 29 (some 30) none none),
mV 6 31] [0,1,5,6])
(.seq (.seq (rg [mV 7 (cI 1)] [0,1,5,6,7])
(.block 2 (.loop mK)))
YQ))
.skip)))
ZQ))
def uV (C:Hd)(gl:GL)(e:En)(h:aA)(x:Esc)(K:KT):Sf C gl nK e h x K:=⟨_,by simp only[nK,↓wZ,AO.still];rfl⟩
theorem zcd {C gl e h x K}:NW C gl nK ⟨e,h,x⟩ K=(uV C gl e h x K).1:=(uV C gl e h x K).2
theorem zft {C gl e h x K}:NW C gl (.loop nK) ⟨e,h,x⟩ K=MA C gl nK K [(0,eA e 0),(1,eA e 1),(5,eA e 5)] h x:=FB
def aR:ACode:=.pr [0] (.seq (rg [mV 65 0,
mV 4 65] [4])
.ret)
def vV (C:Hd)(gl:GL)(e:En)(h:aA)(x:Esc)(K:KT):Sf C gl aR e h x K:=⟨_,by simp only[aR,↓wZ,AO.still];rfl⟩
theorem zce {C gl e h x K}:NW C gl aR ⟨e,h,x⟩ K=(vV C gl e h x K).1:=(vV C gl e h x K).2
def FY:ACode:=(.seq (rg [mV 4 (.c (.p (.sl (some 4) [])))] [0,1])
(.seq (.seq (rg [mV 8 0,
lN 9 8,
bN 10 .lss 9 (cI 2)] [0,1,10])
(.cond 10 (.seq (rg [mV 11 0,
mV 4 11] [4])
.ret)
.skip))
(.seq (.seq (rg [mV 5 (cI 1)] [0,1,5])
(.block 0 (.loop nK)))
aR)))
def JT:AFun:=⟨2,[.t 4],FY,true,false⟩
def tL (C:Hd)(gl:GL)(e:En)(h:aA)(x:Esc)(K:KT):Sf C gl FY e h x K:=⟨_,by simp only[FY,↓wZ,AO.still];rfl⟩
theorem zbY {C gl v0 v1 h x K}:NW C gl JT.body ⟨enter [v0,v1],h,x⟩ K=(tL C gl [(0,v0),(1,v1)] h x K).1:=(tL C gl [(0,v0),(1,v1)] h x K).2
def mY:ACode:=(.seq (rg [uO 2 (.box 0),
uO 3 (.box 1),
mV 4 cF] [2,3])
(.seq (rg [fA 5 1 none 2,
lD 6 none 5,
fA 7 1 none 3,
lD 8 none 7,
bN 9 .eql 6 8,
mV 10 9,
gD 11 10 true (.faddr 0 none 2),
gD 12 10 true (.load none 11),
gD 13 10 true (.faddr 0 none 3),
gD 14 10 true (.load none 13),
gD 15 10 true (.bin .eql 12 14),
uO 16 (.pick 10 15 cF),
mV 4 16] [4])
.ret))
def pT:AFun:=⟨2,[.t 4],mY,false,false⟩
def rL (C:Hd)(gl:GL)(e:En)(h:aA)(x:Esc)(K:KT):Sf C gl mY e h x K:=⟨_,by simp only[mY,↓wZ,AO.still];rfl⟩
theorem zbz {C gl v0 v1 h x K}:NW C gl pT.body ⟨enter [v0,v1],h,x⟩ K=(rL C gl [(0,v0),(1,v1)] h x K).1:=(rL C gl [(0,v0),(1,v1)] h x K).2
def zY:ACode:=(.seq (rg [uO 3 (.box 1),
mV 4 (cI 0)] [0,3])
(.seq (.block 0 (.seq (rg [fA 8 0 none 3,
lD 9 none 8,
cL 10 QH [9],
uO 11 (.un .not 10),
mV 12 11,
gD 13 12 false (.faddr 2 none 3),
gD 14 12 false (.load none 13),
gD 15 12 false (.call QH [14]),
gD 16 12 false (.un .not 15),
uO 17 (.pick 12 cT 16),
mV 7 17] [0,3,7])
(.cond 7 (.seq (rg [mV 4 (cI 5)] [4])
.ret)
(.seq (rg [fA 19 1 none 3,
lD 20 none 19,
cL 21 WL [20],
uO 22 (.un .not 21),
mV 18 22] [0,3,18])
(.cond 18 (.seq (rg [mV 4 (cI 1)] [4])
.ret)
(.seq (rg [fA 24 3 none 3,
lD 25 none 24,
cL 26 RG [25,(.f rJ)],
mV 23 26] [0,3,23])
(.cond 23 (.seq (rg [mV 4 (cI 1)] [4])
.ret)
.skip)))))))
(.seq (rg [fA 27 3 none 3,
lD 28 none 27,
lN 29 28,
mV 5 29] [0,3,5])
(.seq (.seq (rg [mV 30 0,
fA 31 3 none 3,
lD 32 none 31,
cL 33 ZL [30,32],
mV 6 33] [0,5,6])
(.seq (rg [mV 34 5,
mV 35 0,
lN 36 35,
cL 37 AE [34,(cI 1),36],
uO 38 (.un .not 37),
mV 39 38,
gD 40 39 false (.mv 6),
gD 41 39 false (.bin .geq 40 (cI 0)),
gD 42 39 false (.mv 41),
gD 43 42 true (.mv 6),
gD 44 42 true (.mv 5),
gD 45 42 true (.bin .sub 44 (cI 1)),
gD 46 42 true (.bin .neq 43 45),
gD 47 39 false (.pick 42 46 cF),
uO 48 (.pick 39 cT 47),
mV 49 48,
gD 50 49 false (.mv 6),
gD 51 49 false (.bin .lss 50 (cI 0)),
gD 52 49 false (.mv 51),
gD 53 52 true (.mv 5),
gD 54 52 true (.mv 0),
gD 55 52 true (.len 54),
gD 56 52 true (.bin .neq 53 55),
gD 57 49 false (.pick 52 56 cF),
uO 58 (.pick 49 cT 57)] [58])
(.cond 58 (.seq (rg [mV 4 (cI 3)] [4])
.ret)
.skip)))
(.seq (rg [mV 4 (cI 0)] [4])
.ret)))))
def DT:AFun:=⟨2,[.t 4],zY,false,false⟩
def xE (C:Hd)(gl:GL)(e:En)(h:aA)(x:Esc)(K:KT):Sf C gl zY e h x K:=⟨_,by simp only[zY,↓wZ,AO.still];rfl⟩
theorem zbO {C gl v0 v1 h x K}:NW C gl DT.body ⟨enter [v0,v1],h,x⟩ K=(xE C gl [(0,v0),(1,v1)] h x K).1:=(xE C gl [(0,v0),(1,v1)] h x K).2
def BY:ACode:=(.seq (rg [uO 2 (.box 0),
uO 3 (.box 1),
mV 4 (cI 0)] [2,3])
(.seq (.seq (rg [fA 5 1 none 2,
lD 6 none 5,
fA 7 1 none 3,
lD 8 none 7,
bN 9 .neq 6 8] [2,3,9])
(.cond 9 (.seq (rg [fA 10 1 none 2,
lD 11 none 10,
fA 12 1 none 3,
lD 13 none 12,
bN 14 .sub 11 13,
cL 15 cM [14],
mV 4 15] [4])
.ret)
.skip))
(.seq (rg [fA 16 0 none 2,
lD 17 none 16,
fA 18 0 none 3,
lD 19 none 18,
cL 20 GF [17,19],
mV 4 20] [4])
.ret)))
def FT:AFun:=⟨2,[.t 4],BY,false,false⟩
def sL (C:Hd)(gl:GL)(e:En)(h:aA)(x:Esc)(K:KT):Sf C gl BY e h x K:=⟨_,by simp only[BY,↓wZ,AO.still];rfl⟩
theorem zbQ {C gl v0 v1 h x K}:NW C gl FT.body ⟨enter [v0,v1],h,x⟩ K=(sL C gl [(0,v0),(1,v1)] h x K).1:=(sL C gl [(0,v0),(1,v1)] h x K).2
def KQ:ACode:=.pr [0] (.seq (rg [mV 15 0,
mV 4 15] [4])
.ret)
def TU (C:Hd)(gl:GL)(e:En)(h:aA)(x:Esc)(K:KT):Sf C gl KQ e h x K:=⟨_,by simp only[KQ,↓wZ,AO.still];rfl⟩
theorem zbh {C gl e h x K}:NW C gl KQ ⟨e,h,x⟩ K=(TU C gl e h x K).1:=(TU C gl e h x K).2
def aY:ACode:=(.seq (rg [mV 4 (cI 0)] [0,1])
(.seq (.seq (rg [mV 5 1,
bN 6 .lss 5 (cI 1)] [0,1,6])
(.cond 6 (.seq (rg [mV 4 (cI 0)] [4])
.ret)
.skip))
(.seq (rg [mV 7 0,
mV 8 1,
bN 9 .rem 7 8,
mV 0 9] [0,1])
(.seq (.seq (rg [mV 10 0,
bN 11 .lss 10 (cI 0)] [0,1,11])
(.cond 11 (rg [mV 12 0,
mV 13 1,
bN 14 .add 12 13,
mV 0 14] [0])
.skip))
KQ))))
def fT:AFun:=⟨2,[.t 4],aY,false,false⟩
def OO (C:Hd)(gl:GL)(e:En)(h:aA)(x:Esc)(K:KT):Sf C gl aY e h x K:=⟨_,by simp only[aY,↓wZ,AO.still];rfl⟩
theorem zbg {C gl v0 v1 h x K}:NW C gl fT.body ⟨enter [v0,v1],h,x⟩ K=(OO C gl [(0,v0),(1,v1)] h x K).1:=(OO C gl [(0,v0),(1,v1)] h x K).2
def VJ:ACode:=.pr [0,23,24] (.seq (rg [bN 25 .lss 24 23] [0,23,24,25])
(.seq (.cond 25 .skip
(.exit 0))
(.seq (.block 1 (.seq (rg [mV 26 24,
mV 3 26] [0,3,23,24])
(.seq (rg [mV 27 0,
mV 28 3,
uO 29 (.idxs 27 28),
mV 4 29] [0,4,23,24])
(.seq (rg [mV 30 4,
bN 31 .geq 30 (.c (.p (.int .u8 97))),
mV 32 31,
gD 33 32 true (.mv 4),
gD 34 32 true (.bin .leq 33 (.c (.p (.int .u8 122)))),
uO 35 (.pick 32 34 cF),
mV 36 35,
gD 37 36 false (.mv 4),
gD 38 36 false (.bin .geq 37 (.c (.p (.int .u8 48)))),
gD 39 36 false (.mv 38),
gD 40 39 true (.mv 4),
gD 41 39 true (.bin .leq 40 (.c (.p (.int .u8 57)))),
gD 42 36 false (.pick 39 41 cF),
uO 43 (.pick 36 cT 42),
mV 44 43,
gD 45 44 false (.mv 4),
gD 46 44 false (.bin .eql 45 (.c (.p (.int .u8 45)))),
uO 47 (.pick 44 cT 46),
mV 48 47,
gD 49 48 false (.mv 4),
gD 50 48 false (.bin .eql 49 (.c (.p (.int .u8 95)))),
uO 51 (.pick 48 cT 50),
uO 52 (.un .not 51)] [0,23,24,52])
(.cond 52 (.seq (rg [mV 2 cF] [2])
.ret)
.skip)))))
(rg [bN 53 .add 24 (cI 1),
mV 24 53] [0,23,24]))))
def xU (C:Hd)(gl:GL)(e:En)(h:aA)(x:Esc)(K:KT):Sf C gl VJ e h x K:=⟨_,by simp only[VJ,↓wZ,AO.still];rfl⟩
theorem zat {C gl e h x K}:NW C gl VJ ⟨e,h,x⟩ K=(xU C gl e h x K).1:=(xU C gl e h x K).2
theorem zfc {C gl e h x K}:NW C gl (.loop VJ) ⟨e,h,x⟩ K=MA C gl VJ K [(0,eA e 0),(23,eA e 23),(24,eA e 24)] h x:=FB
def wQ:ACode:=.pr [] (.seq (rg [mV 2 cT] [2])
.ret)
def yU (C:Hd)(gl:GL)(e:En)(h:aA)(x:Esc)(K:KT):Sf C gl wQ e h x K:=⟨_,by simp only[wQ,↓wZ,AO.still];rfl⟩
theorem zau {C gl e h x K}:NW C gl wQ ⟨e,h,x⟩ K=(yU C gl e h x K).1:=(yU C gl e h x K).2
def wX:ACode:=(.seq (rg [mV 2 cF] [0])
(.seq (.seq (rg [mV 5 0,
bN 6 .eql 5 (cS []),
mV 7 6,
gD 8 7 false (.mv 0),
gD 9 7 false (.lens 8),
gD 10 7 false (.bin .gtr 9 (cI 40)),
uO 11 (.pick 7 cT 10),
mV 12 11,
gD 13 12 false (.mv 0),
gD 14 12 false (.idxs 13 (cI 0)),
gD 15 12 false (.bin .lss 14 (.c (.p (.int .u8 97)))),
uO 16 (.pick 12 cT 15),
mV 17 16,
gD 18 17 false (.mv 0),
gD 19 17 false (.idxs 18 (cI 0)),
gD 20 17 false (.bin .gtr 19 (.c (.p (.int .u8 122)))),
uO 21 (.pick 17 cT 20)] [0,21])
(.cond 21 (.seq (rg [mV 2 cF] [2])
.ret)
.skip))
(.seq (.seq (rg [mV 22 0,
uO 23 (.lens 22),
mV 24 (cI 0)] [0,23,24])
(.block 0 (.loop VJ)))
wQ)))
def uN:AFun:=⟨1,[.t 2],wX,false,false⟩
def MG (C:Hd)(gl:GL)(e:En)(h:aA)(x:Esc)(K:KT):Sf C gl wX e h x K:=⟨_,by simp only[wX,↓wZ,AO.still];rfl⟩
theorem zas {C gl v0 h x K}:NW C gl uN.body ⟨enter [v0],h,x⟩ K=(MG C gl [(0,v0)] h x K).1:=(MG C gl [(0,v0)] h x K).2
def QX:ACode:=(.seq (rg [uO 3 (.box 1),
mV 4 (cI 0)] [0,3])
(.seq (rg [mV 5 0,
uO 6 (.mkfn kJ [3]),
cL 7 vJ [5,6],
mV 4 7] [4])
.ret))
def US:AFun:=⟨2,[.t 4],QX,false,false⟩
def GO (C:Hd)(gl:GL)(e:En)(h:aA)(x:Esc)(K:KT):Sf C gl QX e h x K:=⟨_,by simp only[QX,↓wZ,AO.still];rfl⟩
theorem zaQ {C gl v0 v1 h x K}:NW C gl US.body ⟨enter [v0,v1],h,x⟩ K=(GO C gl [(0,v0),(1,v1)] h x K).1:=(GO C gl [(0,v0),(1,v1)] h x K).2
def yX:ACode:=(.seq (rg [mV 6 cF] [0,1,2])
(.seq (rg [mV 7 0,
mV 8 1,
bN 9 .lss 7 8,
mV 10 9,
gD 11 10 false (.mv 0),
gD 12 10 false (.mv 2),
gD 13 10 false (.bin .gtr 11 12),
uO 14 (.pick 10 cT 13),
mV 6 14] [6])
.ret))
def wN:AFun:=⟨3,[.t 6],yX,false,false⟩
def vO (C:Hd)(gl:GL)(e:En)(h:aA)(x:Esc)(K:KT):Sf C gl yX e h x K:=⟨_,by simp only[yX,↓wZ,AO.still];rfl⟩
theorem zaw {C gl v0 v1 v2 h x K}:NW C gl wN.body ⟨enter [v0,v1,v2],h,x⟩ K=(vO C gl [(0,v0),(1,v1),(2,v2)] h x K).1:=(vO C gl [(0,v0),(1,v1),(2,v2)] h x K).2
def xX:ACode:=(.seq (rg [mV 2 cF] [0])
(.seq (rg [mV 3 0,
cL 4 OB [3,(cI 0),(cI 345686399999)],
uO 5 (.un .not 4),
mV 2 5] [2])
.ret))
def vN:AFun:=⟨1,[.t 2],xX,false,false⟩
def tO (C:Hd)(gl:GL)(e:En)(h:aA)(x:Esc)(K:KT):Sf C gl xX e h x K:=⟨_,by simp only[xX,↓wZ,AO.still];rfl⟩
theorem zav {C gl v0 h x K}:NW C gl vN.body ⟨enter [v0],h,x⟩ K=(tO C gl [(0,v0)] h x K).1:=(tO C gl [(0,v0)] h x K).2
def GY:ACode:=(.seq (rg [mV 4 cF] [0,1])
(.seq (rg [mV 5 0,
mV 6 1,
cL 7 wJ [5,6],
bN 8 .geq 7 (cI 0),
mV 4 8] [4])
.ret))
def CN:AFun:=⟨2,[.t 4],GY,true,false⟩
def kP (C:Hd)(gl:GL)(e:En)(h:aA)(x:Esc)(K:KT):Sf C gl GY e h x K:=⟨_,by simp only[GY,↓wZ,AO.still];rfl⟩
theorem zcf {C gl v0 v1 h x K}:NW C gl CN.body ⟨enter [v0,v1],h,x⟩ K=(kP C gl [(0,v0),(1,v1)] h x K).1:=(kP C gl [(0,v0),(1,v1)] h x K).2
def VX:ACode:=(.seq (rg [mV 2 cF] [0])
(.seq (rg [mV 3 0,
cL 4 LH [3],
uO 5 (.un .not 4),
mV 2 5] [2])
.ret))
def YS:AFun:=⟨1,[.t 2],VX,false,false⟩
def LO (C:Hd)(gl:GL)(e:En)(h:aA)(x:Esc)(K:KT):Sf C gl VX e h x K:=⟨_,by simp only[VX,↓wZ,AO.still];rfl⟩
theorem zaV {C gl v0 h x K}:NW C gl YS.body ⟨enter [v0],h,x⟩ K=(LO C gl [(0,v0)] h x K).1:=(LO C gl [(0,v0)] h x K).2
def TX:ACode:=(.seq (rg [mV 2 cF] [0])
(.seq (rg [mV 3 0,
cL 4 OB [3,(cI (-100000)),(cI 100000)],
uO 5 (.un .not 4),
mV 2 5] [2])
.ret))
def BN:AFun:=⟨1,[.t 2],TX,false,false⟩
def KO (C:Hd)(gl:GL)(e:En)(h:aA)(x:Esc)(K:KT):Sf C gl TX e h x K:=⟨_,by simp only[TX,↓wZ,AO.still];rfl⟩
theorem zaT {C gl v0 h x K}:NW C gl BN.body ⟨enter [v0],h,x⟩ K=(KO C gl [(0,v0)] h x K).1:=(KO C gl [(0,v0)] h x K).2
def ZJ:ACode:=.pr [0,3,5,23,24,25] (.seq (rg [bN 26 .lss 25 24] [0,3,5,23,24,25,26])
(.seq (.cond 26 .skip
(.exit 0))
(.seq (.block 1 (.seq (rg [mV 27 25,
iA 28 none 23 25,
lD 29 none 28,
mV 6 27,
mV 7 29] [0,3,5,6,7,23,24,25])
(.seq (rg [mV 30 0,
mV 31 6,
iA 32 (some 4) 30 31,
lD 33 (some 4) 32,
mV 34 7,
cL 35 lJ [33,34],
uO 36 (.un .not 35)] [0,3,5,23,24,25,36])
(.cond 36 (.seq (rg [mV 4 cF] [4])
.ret)
.skip))))
(rg [bN 37 .add 25 (cI 1),
mV 25 37] [0,3,5,23,24,25]))))
def IU (C:Hd)(gl:GL)(e:En)(h:aA)(x:Esc)(K:KT):Sf C gl ZJ e h x K:=⟨_,by simp only[ZJ,↓wZ,AO.still];rfl⟩
theorem zaI {C gl e h x K}:NW C gl ZJ ⟨e,h,x⟩ K=(IU C gl e h x K).1:=(IU C gl e h x K).2
theorem zfg {C gl e h x K}:NW C gl (.loop ZJ) ⟨e,h,x⟩ K=MA C gl ZJ K [(0,eA e 0),(3,eA e 3),(5,eA e 5),(23,eA e 23),(24,eA e 24),(25,eA e 25)] h x:=FB
def CQ:ACode:=.pr [0,3,5] (.seq (rg [mV 38 5,
mV 39 0,
lN 40 39,
bN 41 .eql 38 40,
mV 42 41,
gD 43 42 false (.mv 0),
gD 44 42 false (.load (some 4) 3),
gD 45 42 false (.call CF [43,44]),
gD 46 42 false (.bin .geq 45 (cI 0)),
uO 47 (.pick 42 cT 46),
mV 4 47] [4])
.ret)
def JU (C:Hd)(gl:GL)(e:En)(h:aA)(x:Esc)(K:KT):Sf C gl CQ e h x K:=⟨_,by simp only[CQ,↓wZ,AO.still];rfl⟩
theorem zaJ {C gl e h x K}:NW C gl CQ ⟨e,h,x⟩ K=(JU C gl e h x K).1:=(JU C gl e h x K).2
def MX:ACode:=(.seq (rg [uO 3 (.box 1),
mV 4 cF] [0,3])
(.seq (rg [fA 8 3 none 3,
lD 9 none 8,
lN 10 9,
mV 5 10] [0,3,5])
(.seq (.seq (rg [mV 11 5,
bN 12 .eql 11 (cI 0),
mV 13 12,
gD 14 13 false (.mv 5),
gD 15 13 false (.mv 0),
gD 16 13 false (.len 15),
gD 17 13 false (.bin .gtr 14 16),
uO 18 (.pick 13 cT 17)] [0,3,5,18])
(.cond 18 (.seq (rg [mV 4 cF] [4])
.ret)
.skip))
(.seq (.seq (rg [fA 19 3 none 3,
lD 20 none 19,
mV 21 5,
bN 22 .sub 21 (cI 1),
uO 23 (.slice none 20 none (some 22) none),
lN 24 23,
mV 25 (cI 0)] [0,3,5,23,24,25])
(.block 0 (.loop ZJ)))
CQ))))
def QS:AFun:=⟨2,[.t 4],MX,false,false⟩
def TI (C:Hd)(gl:GL)(e:En)(h:aA)(x:Esc)(K:KT):Sf C gl MX e h x K:=⟨_,by simp only[MX,↓wZ,AO.still];rfl⟩
theorem zaH {C gl v0 v1 h x K}:NW C gl QS.body ⟨enter [v0,v1],h,x⟩ K=(TI C gl [(0,v0),(1,v1)] h x K).1:=(TI C gl [(0,v0),(1,v1)] h x K).2
def SX:ACode:=(.seq (rg [uO 2 (.box 0),
mV 4 cF] [1,2])
(.seq (rg [mV 5 1,
fA 6 1 none 2,
lD 7 none 6,
fA 8 2 none 2,
lD 9 none 8,
cL 10 OB [5,7,9],
uO 11 (.un .not 10),
mV 4 11] [4])
.ret))
def WS:AFun:=⟨2,[.t 4],SX,false,false⟩
def JO (C:Hd)(gl:GL)(e:En)(h:aA)(x:Esc)(K:KT):Sf C gl SX e h x K:=⟨_,by simp only[SX,↓wZ,AO.still];rfl⟩
theorem zaS {C gl v0 v1 h x K}:NW C gl WS.body ⟨enter [v0,v1],h,x⟩ K=(JO C gl [(0,v0),(1,v1)] h x K).1:=(JO C gl [(0,v0),(1,v1)] h x K).2
def oR:ACode:=.pr [0,3,4,5] (rg [mV 16 5,
bN 17 .sub 16 (cI 1),
mV 5 17] [0,3,4,5])
def UV (C:Hd)(gl:GL)(e:En)(h:aA)(x:Esc)(K:KT):Sf C gl oR e h x K:=⟨_,by simp only[oR,↓wZ,AO.still];rfl⟩
theorem zcH {C gl e h x K}:NW C gl oR ⟨e,h,x⟩ K=(UV C gl e h x K).1:=(UV C gl e h x K).2
def BK:ACode:=.pr [0,3,4,5] (.seq (.seq (rg [mV 14 5,
bN 15 .geq 14 (cI 0)] [0,3,4,5,15])
(.cond 15 .skip
(.exit 0)))
(.seq (.block 1 (.seq (rg [mV 18 0,
mV 19 5,
iA 20 (some 8) 18 19,
lD 21 (some 8) 20,
uO 6 (.alloc [.p (.str []),.p (.int .i64 0),.p (.int .i64 0),.p (.int .i64 0),.p (.str []),.p (.str []),.p (.str []),.p (.int .i64 0)]),
wO (.store (some 8) 6 21)] [0,3,4,5,6])
(.seq (rg [mV 22 4,
mV 23 5,
mV 24 3,
fA 25 0 none 6,
lD 26 none 25,
fA 27 1 none 6,
lD 28 none 27,
uO 29 (.build [.p (.str []),.p (.int .i64 0)] [(0,1,26),(1,1,28)]),
uO 30 (.look ((some 2),[2,0]) false (AB false) 24 29),
uO 31 (.un .not 30),
iA 32 none 22 23,
wO (.store none 32 31)] [0,3,4,5,6])
(.seq (rg [mV 33 4,
mV 34 5,
iA 35 none 33 34,
lD 36 none 35,
mV 37 36,
gD 38 37 true (.faddr 3 none 6),
gD 39 37 true (.load none 38),
gD 40 37 true (.bin .eql 39 (cI 7)),
uO 41 (.pick 37 40 cF)] [0,3,4,5,6,41])
(.cond 41 (rg [mV 42 3,
fA 43 6 none 6,
lD 44 none 43,
fA 45 7 none 6,
lD 46 none 45,
uO 47 (.build [.p (.str []),.p (.int .i64 0)] [(0,1,44),(1,1,46)]),
wO (.mupd ((some 2),[2,0]) 42 47 cT)] [0,3,4,5])
.skip)))))
oR))
def VV (C:Hd)(gl:GL)(e:En)(h:aA)(x:Esc)(K:KT):Sf C gl BK e h x K:=⟨_,by simp only[BK,↓wZ,AO.still];rfl⟩
theorem zcI {C gl e h x K}:NW C gl BK ⟨e,h,x⟩ K=(VV C gl e h x K).1:=(VV C gl e h x K).2
theorem zf5 {C gl e h x K}:NW C gl (.loop (.scope BK)) ⟨e,h,x⟩ K=MA C gl (.scope BK) K [(0,eA e 0),(3,eA e 3),(4,eA e 4),(5,eA e 5)] h x:=MD
def pR:ACode:=.pr [4] (.seq (rg [mV 48 4,
mV 2 48] [2])
.ret)
def WV (C:Hd)(gl:GL)(e:En)(h:aA)(x:Esc)(K:KT):Sf C gl pR e h x K:=⟨_,by simp only[pR,↓wZ,AO.still];rfl⟩
theorem zcJ {C gl e h x K}:NW C gl pR ⟨e,h,x⟩ K=(WV C gl e h x K).1:=(WV C gl e h x K).2
def VY:ACode:=(.seq (rg [mV 2 (.c (.p (.sl none [])))] [0])
(.seq (rg [uO 7 (.mkmap),
mV 3 7] [0,3])
(.seq (rg [mV 8 0,
lN 9 8,
uO 10 (.mksl none (.bool false) 9 9),
mV 4 10] [0,3,4])
(.seq (.seq (rg [mV 11 0,
lN 12 11,
bN 13 .sub 12 (cI 1),
mV 5 13] [0,3,4,5])
(.block 0 (.loop (.scope BK))))
pR))))
def JN:AFun:=⟨1,[.t 2],VY,false,false⟩
def vP (C:Hd)(gl:GL)(e:En)(h:aA)(x:Esc)(K:KT):Sf C gl VY e h x K:=⟨_,by simp only[VY,↓wZ,AO.still];rfl⟩
theorem zcG {C gl v0 h x K}:NW C gl JN.body ⟨enter [v0],h,x⟩ K=(vP C gl [(0,v0)] h x K).1:=(vP C gl [(0,v0)] h x K).2
def xR:ACode:=.pr [0,3,5,38,45] (.cond 45 (.seq (rg [mV 48 0,
mV 49 5,
lD 50 (some 8) 3,
cL 51 GJ [48,49,50],
mV 4 51] [4])
.ret)
(.seq (rg [bN 53 .eql 38 (cI 5),
mV 52 53] [0,3,5,52])
(.cond 52 (.seq (.seq (rg [mV 54 5,
uO 55 (.nilchk 54),
fA 56 0 none 55,
lD 57 none 56,
bN 58 .neq 57 (cI 3)] [3,5,58])
(.cond 58 (.seq (rg [mV 4 (cI 11)] [4])
.ret)
.skip))
(.seq (dr [dF (mV 59 5) [5],
dF (mV 60 5) [5],
dF (fA 61 2 none 3) [3],
dF (lD 62 none 61) [61],
dF (uO 63 (.nilchk 59)) [59],
dF (fA 64 0 none 63) [63],
dA (wO (.store none 64 (cI 1))) [64] true [] [3],
dF (uO 65 (.nilchk 60)) [60],
dF (fA 66 1 none 65) [65],
dT (wO (.store none 66 62)) [66,62]] [])
(.seq (rg [mV 4 (cI 0)] [4])
.ret)))
.skip)))
def gW (C:Hd)(gl:GL)(e:En)(h:aA)(x:Esc)(K:KT):Sf C gl xR e h x K:=⟨_,by simp only[xR,↓wZ,AO.still];rfl⟩
theorem zdb {C gl e h x K}:NW C gl xR ⟨e,h,x⟩ K=(gW C gl e h x K).1:=(gW C gl e h x K).2
def yR:ACode:=.pr [3,5] (.seq (dr [dF (mV 89 5) [5],
dF (mV 90 5) [5],
dF (fA 91 2 none 3) [3],
dF (lD 92 none 91) [91],
dF (uO 93 (.nilchk 89)) [89],
dF (fA 94 0 none 93) [93],
dA (wO (.store none 94 (cI 5))) [94] true [] [3],
dF (uO 95 (.nilchk 90)) [90],
dF (fA 96 1 none 95) [95],
dT (wO (.store none 96 92)) [96,92]] [])
(.seq (rg [mV 4 (cI 0)] [4])
.ret))
def iW (C:Hd)(gl:GL)(e:En)(h:aA)(x:Esc)(K:KT):Sf C gl yR e h x K:=⟨_,by simp only[yR,↓wZ,AO.still];rfl⟩
theorem zdc {C gl e h x K}:NW C gl yR ⟨e,h,x⟩ K=(iW C gl e h x K).1:=(iW C gl e h x K).2
def zR:ACode:=.pr [0,3,5] (.seq (.seq (rg [mV 67 5,
uO 68 (.nilchk 67),
fA 69 0 none 68,
lD 70 none 69,
bN 71 .eql 70 (cI 4),
mV 72 71,
gD 73 72 false (.mv 5),
gD 74 72 false (.nilchk 73),
gD 75 72 false (.faddr 0 none 74),
gD 76 72 false (.load none 75),
gD 77 72 false (.bin .eql 76 (cI 5)),
uO 78 (.pick 72 cT 77)] [0,3,5,78])
(.cond 78 (.seq (rg [mV 4 (cI 11)] [4])
.ret)
.skip))
(.seq (.seq (rg [mV 79 5,
uO 80 (.nilchk 79),
fA 81 0 none 80,
lD 82 none 81,
bN 83 .eql 82 (cI 2)] [0,3,5,83])
(.cond 83 (rg [mV 84 0,
mV 85 5,
fA 86 2 none 3,
lD 87 none 86,
cL 88 UH [84,85,87]] [3,5])
.skip))
yR))
def jW (C:Hd)(gl:GL)(e:En)(h:aA)(x:Esc)(K:KT):Sf C gl zR e h x K:=⟨_,by simp only[zR,↓wZ,AO.still];rfl⟩
theorem zdd {C gl e h x K}:NW C gl zR ⟨e,h,x⟩ K=(jW C gl e h x K).1:=(jW C gl e h x K).2
def dZ:ACode:=(.seq (rg [uO 3 (.box 1),
mV 4 (cI 0)] [0,3])
(.seq (dr [dF (mV 6 0) [0],
dF (uO 7 (.nilchk 6)) [6],
dF (fA 8 2 none 7) [7],
dF (lD 9 none 8) [8],
dF (fA 10 4 none 3) [3],
dF (lD 11 none 10) [10],
dF (uO 12 (.look (none,[2]) false (.nilp) 9 11)) [9,11],
dF (mV 5 12) [12]] [0,3,5])
(.seq (.seq (rg [fA 13 3 none 3,
lD 14 none 13,
bN 15 .eql 14 (cI 1)] [0,3,5,15])
(.cond 15 (.seq (.seq (rg [mV 16 5,
uO 17 (.isnil 0 true 16)] [0,3,17])
(.cond 17 (.seq (rg [mV 4 (cI 6)] [4])
.ret)
.skip))
(.seq (dr [dF (mV 18 0) [0],
dF (uO 19 (.nilchk 18)) [18],
dF (fA 20 2 none 19) [19],
dF (lD 21 none 20) [20],
dF (fA 22 4 none 3) [3],
dF (lD 23 none 22) [22],
dF (fA 24 2 none 3) [3],
dF (lD 25 none 24) [24],
dF (mV 26 0) [0],
dF (uO 27 (.nilchk 26)) [26],
dF (fA 28 0 (some 2) 27) [27],
dF (fA 29 0 none 28) [28],
dF (lD 30 none 29) [29],
dF (iA 31 none 30 (cI 0)) [30],
dF (lD 32 none 31) [31],
dF (uO 33 (.build [.p (.int .i64 0),.p (.int .i64 0),.p (.str []),.p (.str []),.p (.int .i64 0)] [(0,1,(cI 1)),(1,1,25),(2,1,32)])) [25,32],
dA (uO 34 (.box 33)) [33] true [] [3,5],
dT (wO (.mupd (none,[2]) 21 23 34)) [21,23,34]] [])
(.seq (rg [mV 4 (cI 0)] [4])
.ret)))
.skip))
(.seq (.seq (rg [mV 35 5,
uO 36 (.isnil 0 false 35)] [0,3,5,36])
(.cond 36 (.seq (rg [mV 4 (cI 8)] [4])
.ret)
.skip))
(.seq (.seq (rg [fA 37 3 none 3,
lD 38 none 37] [0,3,5,38])
(.block 0 (.seq (rg [bN 40 .eql 38 (cI 2),
mV 39 40] [0,3,5,38,39])
(.cond 39 (.seq (rg [mV 41 0,
mV 42 5,
lD 43 (some 8) 3,
cL 44 HJ [41,42,43],
mV 4 44] [4])
.ret)
(.seq (.seq (rg [bN 46 .eql 38 (cI 3),
mV 45 46] [0,3,5,38,45])
(.cond 45 .skip
(rg [bN 47 .eql 38 (cI 4),
mV 45 47] [0,3,5,38,45])))
xR)))))
zR)))))
def QN:AFun:=⟨2,[.t 4],dZ,false,false⟩
def yD (C:Hd)(gl:GL)(e:En)(h:aA)(x:Esc)(K:KT):Sf C gl dZ e h x K:=⟨_,by simp only[dZ,↓wZ,AO.still];rfl⟩
theorem zda {C gl v0 v1 h x K}:NW C gl QN.body ⟨enter [v0,v1],h,x⟩ K=(yD C gl [(0,v0),(1,v1)] h x K).1:=(yD C gl [(0,v0),(1,v1)] h x K).2
def UJ:ACode:=.pr [0,1] (.seq (.seq (rg [mV 5 1,
bN 6 .neq 5 (cI 0)] [0,1,6])
(.cond 6 .skip
(.exit 0)))
(.block 1 (dr [dF (mV 7 1) [1],
dF (mV 8 0) [0],
dF (mV 9 1) [1],
dF (bN 10 .rem 8 9) [8,9],
dF (mV 0 7) [7],
dF (mV 1 10) [10]] [0,1])))
def vU (C:Hd)(gl:GL)(e:En)(h:aA)(x:Esc)(K:KT):Sf C gl UJ e h x K:=⟨_,by simp only[UJ,↓wZ,AO.still];rfl⟩
theorem zaq {C gl e h x K}:NW C gl UJ ⟨e,h,x⟩ K=(vU C gl e h x K).1:=(vU C gl e h x K).2
theorem zfb {C gl e h x K}:NW C gl (.loop UJ) ⟨e,h,x⟩ K=MA C gl UJ K [(0,eA e 0),(1,eA e 1)] h x:=FB
def vQ:ACode:=.pr [0] (.seq (rg [mV 11 0,
mV 4 11] [4])
.ret)
def wU (C:Hd)(gl:GL)(e:En)(h:aA)(x:Esc)(K:KT):Sf C gl vQ e h x K:=⟨_,by simp only[vQ,↓wZ,AO.still];rfl⟩
theorem zar {C gl e h x K}:NW C gl vQ ⟨e,h,x⟩ K=(wU C gl e h x K).1:=(wU C gl e h x K).2
def vX:ACode:=(.seq (rg [mV 4 (cI 0)] [0,1])
(.seq (.block 0 (.loop UJ))
vQ))
def tN:AFun:=⟨2,[.t 4],vX,false,false⟩
def sO (C:Hd)(gl:GL)(e:En)(h:aA)(x:Esc)(K:KT):Sf C gl vX e h x K:=⟨_,by simp only[vX,↓wZ,AO.still];rfl⟩
theorem zap {C gl v0 v1 h x K}:NW C gl tN.body ⟨enter [v0,v1],h,x⟩ K=(sO C gl [(0,v0),(1,v1)] h x K).1:=(sO C gl [(0,v0),(1,v1)] h x K).2
def GQ:ACode:=.pr [7] (.seq (rg [mV 17 7,
mV 6 17] [6])
.ret)
def PU (C:Hd)(gl:GL)(e:En)(h:aA)(x:Esc)(K:KT):Sf C gl GQ e h x K:=⟨_,by simp only[GQ,↓wZ,AO.still];rfl⟩
theorem zba {C gl e h x K}:NW C gl GQ ⟨e,h,x⟩ K=(PU C gl e h x K).1:=(PU C gl e h x K).2
def XX:ACode:=(.seq (rg [mV 6 (cI 0)] [0,1,2])
(.seq (rg [mV 8 0,
mV 9 1,
cL 10 FL [8,9],
mV 7 10] [2,7])
(.seq (.seq (rg [mV 11 7,
bN 12 .eql 11 (cI 0),
mV 13 12,
gD 14 13 true (.mv 2),
gD 15 13 true (.call OB [14,(cI 1),(cI 3)]),
uO 16 (.pick 13 15 cF)] [7,16])
(.cond 16 (rg [mV 7 (cI 4)] [7])
.skip))
GQ)))
def aT:AFun:=⟨3,[.t 6],XX,false,false⟩
def UI (C:Hd)(gl:GL)(e:En)(h:aA)(x:Esc)(K:KT):Sf C gl XX e h x K:=⟨_,by simp only[XX,↓wZ,AO.still];rfl⟩
theorem zaZ {C gl v0 v1 v2 h x K}:NW C gl aT.body ⟨enter [v0,v1,v2],h,x⟩ K=(UI C gl [(0,v0),(1,v1),(2,v2)] h x K).1:=(UI C gl [(0,v0),(1,v1),(2,v2)] h x K).2
def DQ:ACode:=.pr [0,2,7,8,14,15,16] (rg [bN 57 .add 16 (cI 1),
mV 16 57] [0,2,7,8,14,15,16])
def KU (C:Hd)(gl:GL)(e:En)(h:aA)(x:Esc)(K:KT):Sf C gl DQ e h x K:=⟨_,by simp only[DQ,↓wZ,AO.still];rfl⟩
theorem zaM {C gl e h x K}:NW C gl DQ ⟨e,h,x⟩ K=(KU C gl e h x K).1:=(KU C gl e h x K).2
def aK:ACode:=.pr [0,2,7,8,14,15,16] (.seq (rg [bN 17 .lss 16 15] [0,2,7,8,14,15,16,17])
(.seq (.cond 17 .skip
(.exit 0))
(.seq (.block 1 (.seq (rg [iA 18 (some 4) 14 16,
lD 19 (some 4) 18,
uO 10 (.alloc [.p (.str []),.p (.int .i64 0),.p (.str []),.sl0 none]),
wO (.store (some 4) 10 19)] [0,2,7,8,10,14,15,16])
(.seq (rg [mV 21 7,
fA 22 0 none 10,
lD 23 none 22,
uO 24 (.look (none,[2]) true (AI 0) 21 23),
mV 20 24,
eX 25 20 0,
eX 26 20 1,
mV 11 25,
mV 12 26] [0,2,7,8,10,11,12,14,15,16])
(.seq (.seq (rg [mV 27 12,
uO 28 (.un .not 27)] [0,2,7,8,10,11,14,15,16,28])
(.cond 28 (.seq (rg [mV 29 7,
fA 30 0 none 10,
lD 31 none 30,
mV 32 8,
lN 33 32,
wO (.mupd (none,[2]) 29 31 33)] [0,2,7,8,10,14,15,16])
(.seq (rg [mV 34 8,
lD 35 (some 4) 10,
uO 36 (.bsl false (some 4) 1 (.agg [.str [],.int .i64 0,.str [],.sl none []]) [(0,35)]),
uO 37 (.app (some 4) 34 36),
mV 8 37] [0,2,7,8,14,15,16])
(.exit 1)))
.skip))
(.seq (rg [mV 38 2,
bN 39 .eql 38 (cI 2),
mV 40 39,
gD 41 40 false (.mv 2),
gD 42 40 false (.bin .eql 41 (cI 3)),
gD 43 40 false (.mv 42),
gD 44 43 true (.mv 0),
gD 45 43 true (.mv 8),
gD 46 43 true (.mv 11),
gD 47 43 true (.iaddr (some 4) 45 46),
gD 48 43 true (.load (some 4) 47),
gD 49 43 true (.call CF [44,48]),
gD 50 43 true (.bin .geq 49 (cI 0)),
gD 51 40 false (.pick 43 50 cF),
uO 52 (.pick 40 cT 51)] [0,2,7,8,10,11,14,15,16,52])
(.cond 52 (rg [mV 53 8,
mV 54 11,
lD 55 (some 4) 10,
iA 56 (some 4) 53 54,
wO (.store (some 4) 56 55)] [0,2,7,8,14,15,16])
.skip))))))
DQ)))
def LU (C:Hd)(gl:GL)(e:En)(h:aA)(x:Esc)(K:KT):Sf C gl aK e h x K:=⟨_,by simp only[aK,↓wZ,AO.still];rfl⟩
theorem zaN {C gl e h x K}:NW C gl aK ⟨e,h,x⟩ K=(LU C gl e h x K).1:=(LU C gl e h x K).2
theorem zfh {C gl e h x K}:NW C gl (.loop (.scope aK)) ⟨e,h,x⟩ K=MA C gl (.scope aK) K [(0,eA e 0),(2,eA e 2),(7,eA e 7),(8,eA e 8),(14,eA e 14),(15,eA e 15),(16,eA e 16)] h x:=MD
def EQ:ACode:=.pr [8] (.seq (rg [mV 58 8,
cL 59 dM [58,(.f jJ)]] [8])
(.seq (rg [mV 60 8,
mV 6 60] [6])
.ret))
def MU (C:Hd)(gl:GL)(e:En)(h:aA)(x:Esc)(K:KT):Sf C gl EQ e h x K:=⟨_,by simp only[EQ,↓wZ,AO.still];rfl⟩
theorem zaO {C gl e h x K}:NW C gl EQ ⟨e,h,x⟩ K=(MU C gl e h x K).1:=(MU C gl e h x K).2
def OX:ACode:=(.seq (rg [mV 6 (.c (.p (.sl (some 4) [])))] [0,1,2])
(.seq (rg [uO 13 (.mkmap),
mV 7 13] [0,1,2,7])
(.seq (rg [uO 8 (.new0 (some 4))] [0,1,2,7,8])
(.seq (.seq (rg [mV 14 1,
lN 15 14,
mV 16 (cI 0)] [0,2,7,8,14,15,16])
(.block 0 (.loop (.scope aK))))
EQ))))
def SS:AFun:=⟨3,[.t 6],OX,false,false⟩
def EO (C:Hd)(gl:GL)(e:En)(h:aA)(x:Esc)(K:KT):Sf C gl OX e h x K:=⟨_,by simp only[OX,↓wZ,AO.still];rfl⟩
theorem zaL {C gl v0 v1 v2 h x K}:NW C gl SS.body ⟨enter [v0,v1,v2],h,x⟩ K=(EO C gl [(0,v0),(1,v1),(2,v2)] h x K).1:=(EO C gl [(0,v0),(1,v1),(2,v2)] h x K).2
def TJ:ACode:=.pr [5,6,7] (.seq (rg [bN 8 .lss 7 6] [5,6,7,8])
(.seq (.cond 8 .skip
(.exit 0))
(.seq (.block 1 (.seq (rg [iA 9 none 5 7,
lD 10 none 9,
mV 4 10] [4,5,6,7])
(.seq (rg [mV 11 4,
bN 12 .neq 11 (cI 0)] [4,5,6,7,12])
(.cond 12 (.seq (rg [mV 13 4,
mV 2 13] [2])
.ret)
.skip))))
(rg [bN 14 .add 7 (cI 1),
mV 7 14] [5,6,7]))))
def tU (C:Hd)(gl:GL)(e:En)(h:aA)(x:Esc)(K:KT):Sf C gl TJ e h x K:=⟨_,by simp only[TJ,↓wZ,AO.still];rfl⟩
theorem zam {C gl e h x K}:NW C gl TJ ⟨e,h,x⟩ K=(tU C gl e h x K).1:=(tU C gl e h x K).2
theorem zfa {C gl e h x K}:NW C gl (.loop TJ) ⟨e,h,x⟩ K=MA C gl TJ K [(5,eA e 5),(6,eA e 6),(7,eA e 7)] h x:=FB
def uQ:ACode:=.pr [] (.seq (rg [mV 2 (cI 0)] [2])
.ret)
def uU (C:Hd)(gl:GL)(e:En)(h:aA)(x:Esc)(K:KT):Sf C gl uQ e h x K:=⟨_,by simp only[uQ,↓wZ,AO.still];rfl⟩
theorem zan {C gl e h x K}:NW C gl uQ ⟨e,h,x⟩ K=(uU C gl e h x K).1:=(uU C gl e h x K).2
def tX:ACode:=(.seq (rg [mV 2 (cI 0)] [0])
(.seq (.seq (rg [mV 5 0,
lN 6 5,
mV 7 (cI 0)] [5,6,7])
(.block 0 (.loop TJ)))
uQ))
def rN:AFun:=⟨1,[.t 2],tX,false,false⟩
def qO (C:Hd)(gl:GL)(e:En)(h:aA)(x:Esc)(K:KT):Sf C gl tX e h x K:=⟨_,by simp only[tX,↓wZ,AO.still];rfl⟩
theorem zal {C gl v0 h x K}:NW C gl rN.body ⟨enter [v0],h,x⟩ K=(qO C gl [(0,v0)] h x K).1:=(qO C gl [(0,v0)] h x K).2
def AK:ACode:=.pr [1,16,17,18] (.seq (rg [bN 19 .lss 18 17] [1,16,17,18,19])
(.seq (.cond 19 .skip
(.exit 1))
(.seq (.block 2 (.seq (rg [mV 20 18,
iA 21 none 16 18,
lD 22 none 21,
mV 3 20,
mV 4 22] [1,3,4,16,17,18])
(.block 3 (.seq (rg [mV 24 4,
cL 25 QD [24],
uO 26 (.un .not 25),
mV 23 26] [1,3,4,16,17,18,23])
(.cond 23 (.seq (rg [mV 2 (cI 5)] [2])
.ret)
(.seq (rg [fA 28 0 none 1,
lD 29 none 28,
mV 30 3,
uO 31 (.slice none 29 none (some 30) none),
mV 32 4,
cL 33 lG [31,32],
mV 27 33] [1,16,17,18,27])
(.cond 27 (.seq (rg [mV 2 (cI 6)] [2])
.ret)
.skip)))))))
(rg [bN 34 .add 18 (cI 1),
mV 18 34] [1,16,17,18]))))
def TV (C:Hd)(gl:GL)(e:En)(h:aA)(x:Esc)(K:KT):Sf C gl AK e h x K:=⟨_,by simp only[AK,↓wZ,AO.still];rfl⟩
theorem zcC {C gl e h x K}:NW C gl AK ⟨e,h,x⟩ K=(TV C gl e h x K).1:=(TV C gl e h x K).2
theorem zf4 {C gl e h x K}:NW C gl (.loop AK) ⟨e,h,x⟩ K=MA C gl AK K [(1,eA e 1),(16,eA e 16),(17,eA e 17),(18,eA e 18)] h x:=FB
def nR:ACode:=.pr [1] (.seq (.seq (rg [fA 35 1 none 1,
lD 36 none 35,
cL 37 OB [36,(cI 1),(cI 10)]] [37])
(.cond 37 (.seq (rg [mV 2 (cI 1)] [2])
.ret)
.skip))
(.seq (rg [mV 2 (cI 0)] [2])
.ret))
def vL (C:Hd)(gl:GL)(e:En)(h:aA)(x:Esc)(K:KT):Sf C gl nR e h x K:=⟨_,by simp only[nR,↓wZ,AO.still];rfl⟩
theorem wW {C gl e h x K}:NW C gl nR ⟨e,h,x⟩ K=(vL C gl e h x K).1:=(vL C gl e h x K).2
def RY:ACode:=(.seq (rg [uO 1 (.box 0),
mV 2 (cI 0)] [1])
(.seq (.block 0 (.seq (rg [fA 6 0 none 1,
lD 7 none 6,
lN 8 7,
bN 9 .eql 8 (cI 0),
mV 5 9] [1,5])
(.cond 5 (.seq (rg [mV 2 (cI 8)] [2])
.ret)
(.seq (rg [fA 11 0 none 1,
lD 12 none 11,
lN 13 12,
bN 14 .gtr 13 (cI 20),
mV 10 14] [1,10])
(.cond 10 (.seq (rg [mV 2 (cI 2)] [2])
.ret)
.skip)))))
(.seq (.seq (rg [fA 15 0 none 1,
lD 16 none 15,
lN 17 16,
mV 18 (cI 0)] [1,16,17,18])
(.block 1 (.loop AK)))
nR)))
def HN:AFun:=⟨1,[.t 2],RY,false,false⟩
def YI (C:Hd)(gl:GL)(e:En)(h:aA)(x:Esc)(K:KT):Sf C gl RY e h x K:=⟨_,by simp only[RY,↓wZ,AO.still];rfl⟩
theorem zcB {C gl v0 h x K}:NW C gl HN.body ⟨enter [v0],h,x⟩ K=(YI C gl [(0,v0)] h x K).1:=(YI C gl [(0,v0)] h x K).2
def zK:ACode:=.pr [0,9,10,11] (.seq (rg [bN 12 .lss 11 10] [0,9,10,11,12])
(.seq (.cond 12 .skip
(.exit 0))
(.seq (.block 1 (.seq (rg [mV 13 11,
iA 14 (some 8) 9 11,
lD 15 (some 8) 14,
uO 4 (.alloc [.p (.str []),.p (.int .i64 0),.p (.int .i64 0),.p (.int .i64 0),.p (.str []),.p (.str []),.p (.str []),.p (.int .i64 0)]),
mV 3 13,
wO (.store (some 8) 4 15)] [0,3,4,9,10,11])
(.seq (.seq (rg [lD 16 (some 8) 4,
cL 17 EJ [16],
mV 5 17] [0,3,4,5,9,10,11])
(.seq (rg [mV 18 5,
bN 19 .neq 18 (cI 0)] [0,3,4,5,9,10,11,19])
(.cond 19 (.seq (rg [mV 20 5,
mV 2 20] [2])
.ret)
.skip)))
(.seq (dr [dF (mV 21 3) [3],
dF (bN 22 .gtr 21 (cI 0)) [21],
dF (mV 23 22) [22],
dF (gD 24 23 true (.load (some 8) 4)) [4,23],
dF (gD 25 23 true (.mv 0)) [0,23],
dF (gD 26 23 true (.mv 3)) [3,23],
dF (gD 27 23 true (.bin .sub 26 (cI 1))) [26,23],
dF (gD 28 23 true (.iaddr (some 8) 25 27)) [25,27,23],
dF (gD 29 23 true (.load (some 8) 28)) [28,23],
dT (gD 30 23 true (.call CJ [24,29])) [24,29,23],
dF (gD 31 23 true (.bin .leq 30 (cI 0))) [30,23],
dF (uO 32 (.pick 23 31 cF)) [23,31]] [0,9,10,11,32])
(.cond 32 (.seq (rg [mV 2 (cI 7)] [2])
.ret)
.skip)))))
(rg [bN 33 .add 11 (cI 1),
mV 11 33] [0,9,10,11]))))
def RV (C:Hd)(gl:GL)(e:En)(h:aA)(x:Esc)(K:KT):Sf C gl zK e h x K:=⟨_,by simp only[zK,↓wZ,AO.still];rfl⟩
theorem zc9 {C gl e h x K}:NW C gl zK ⟨e,h,x⟩ K=(RV C gl e h x K).1:=(RV C gl e h x K).2
theorem zf3 {C gl e h x K}:NW C gl (.loop (.scope zK)) ⟨e,h,x⟩ K=MA C gl (.scope zK) K [(0,eA e 0),(9,eA e 9),(10,eA e 10),(11,eA e 11)] h x:=MD
def mR:ACode:=.pr [0] (.seq (.seq (rg [mV 34 0,
cL 35 JJ [34]] [35])
(.cond 35 (.seq (rg [mV 2 (cI 6)] [2])
.ret)
.skip))
(.seq (rg [mV 2 (cI 0)] [2])
.ret))
def SV (C:Hd)(gl:GL)(e:En)(h:aA)(x:Esc)(K:KT):Sf C gl mR e h x K:=⟨_,by simp only[mR,↓wZ,AO.still];rfl⟩
theorem zcA {C gl e h x K}:NW C gl mR ⟨e,h,x⟩ K=(SV C gl e h x K).1:=(SV C gl e h x K).2
def QY:ACode:=(.seq (rg [mV 2 (cI 0)] [0])
(.seq (.seq (rg [mV 6 0,
lN 7 6,
bN 8 .gtr 7 (cI 2000)] [0,8])
(.cond 8 (.seq (rg [mV 2 (cI 2)] [2])
.ret)
.skip))
(.seq (.seq (rg [mV 9 0,
lN 10 9,
mV 11 (cI 0)] [0,9,10,11])
(.block 0 (.loop (.scope zK))))
mR)))
def GN:AFun:=⟨1,[.t 2],QY,false,false⟩
def uL (C:Hd)(gl:GL)(e:En)(h:aA)(x:Esc)(K:KT):Sf C gl QY e h x K:=⟨_,by simp only[QY,↓wZ,AO.still];rfl⟩
theorem zc8 {C gl v0 h x K}:NW C gl GN.body ⟨enter [v0],h,x⟩ K=(uL C gl [(0,v0)] h x K).1:=(uL C gl [(0,v0)] h x K).2
def fZ:ACode:=(.seq (rg [mV 2 (cI 0)] [0])
(.seq (.seq (rg [mV 3 0,
cL 4 PG [3],
uO 5 (.un .not 4)] [5])
(.cond 5 (.seq (rg [mV 2 (cI 1)] [2])
.ret)
.skip))
(.seq (rg [mV 2 (cI 0)] [2])
.ret)))
def SN:AFun:=⟨1,[.t 2],fZ,false,false⟩
def xL (C:Hd)(gl:GL)(e:En)(h:aA)(x:Esc)(K:KT):Sf C gl fZ e h x K:=⟨_,by simp only[fZ,↓wZ,AO.still];rfl⟩
theorem zdi {C gl v0 h x K}:NW C gl SN.body ⟨enter [v0],h,x⟩ K=(xL C gl [(0,v0)] h x K).1:=(xL C gl [(0,v0)] h x K).2
def kK:ACode:=.pr [0,1,7,8] (.seq (rg [bN 9 .lss 8 7] [0,1,7,8,9])
(.seq (.cond 9 .skip
(.exit 0))
(.seq (.block 1 (.seq (rg [mV 10 8,
mV 5 10] [0,1,5,7,8])
(.seq (rg [mV 11 1,
mV 12 0,
mV 13 5,
uO 14 (.idxs 12 13),
cL 15 jM [11,14],
bN 16 .lss 15 (cI 0)] [0,1,7,8,16])
(.cond 16 (.seq (rg [mV 4 cF] [4])
.ret)
.skip))))
(rg [bN 17 .add 8 (cI 1),
mV 8 17] [0,1,7,8]))))
def jV (C:Hd)(gl:GL)(e:En)(h:aA)(x:Esc)(K:KT):Sf C gl kK e h x K:=⟨_,by simp only[kK,↓wZ,AO.still];rfl⟩
theorem zbM {C gl e h x K}:NW C gl kK ⟨e,h,x⟩ K=(jV C gl e h x K).1:=(jV C gl e h x K).2
theorem zfq {C gl e h x K}:NW C gl (.loop kK) ⟨e,h,x⟩ K=MA C gl kK K [(0,eA e 0),(1,eA e 1),(7,eA e 7),(8,eA e 8)] h x:=FB
def SQ:ACode:=.pr [] (.seq (rg [mV 4 cT] [4])
.ret)
def kV (C:Hd)(gl:GL)(e:En)(h:aA)(x:Esc)(K:KT):Sf C gl SQ e h x K:=⟨_,by simp only[SQ,↓wZ,AO.still];rfl⟩
theorem zbN {C gl e h x K}:NW C gl SQ ⟨e,h,x⟩ K=(kV C gl e h x K).1:=(kV C gl e h x K).2
def yY:ACode:=(.seq (rg [mV 4 cF] [0,1])
(.seq (.seq (rg [mV 6 0,
uO 7 (.lens 6),
mV 8 (cI 0)] [0,1,7,8])
(.block 0 (.loop kK)))
SQ))
def CT:AFun:=⟨2,[.t 4],yY,false,false⟩
def dP (C:Hd)(gl:GL)(e:En)(h:aA)(x:Esc)(K:KT):Sf C gl yY e h x K:=⟨_,by simp only[yY,↓wZ,AO.still];rfl⟩
theorem zbL {C gl v0 v1 h x K}:NW C gl CT.body ⟨enter [v0,v1],h,x⟩ K=(dP C gl [(0,v0),(1,v1)] h x K).1:=(dP C gl [(0,v0),(1,v1)] h x K).2
def oK:ACode:=.pr [0,1,7,8] (.seq (rg [bN 9 .lss 8 7] [0,1,7,8,9])
(.seq (.cond 9 .skip
(.exit 0))
(.seq (.block 1 (.seq (rg [mV 10 8,
mV 5 10] [0,1,5,7,8])
(.seq (rg [mV 11 1,
mV 12 0,
mV 13 5,
iA 14 (some 4) 12 13,
lD 15 (some 4) 14,
uO 16 (.callv 11 [15])] [0,1,5,7,8,16])
(.cond 16 (.seq (rg [mV 17 5,
mV 4 17] [4])
.ret)
.skip))))
(rg [bN 18 .add 8 (cI 1),
mV 8 18] [0,1,7,8]))))
def wV (C:Hd)(gl:GL)(e:En)(h:aA)(x:Esc)(K:KT):Sf C gl oK e h x K:=⟨_,by simp only[oK,↓wZ,AO.still];rfl⟩
theorem zci {C gl e h x K}:NW C gl oK ⟨e,h,x⟩ K=(wV C gl e h x K).1:=(wV C gl e h x K).2
theorem zfu {C gl e h x K}:NW C gl (.loop oK) ⟨e,h,x⟩ K=MA C gl oK K [(0,eA e 0),(1,eA e 1),(7,eA e 7),(8,eA e 8)] h x:=FB
def bR:ACode:=.pr [] (.seq (rg [mV 4 (cI (-1))] [4])
.ret)
def xV (C:Hd)(gl:GL)(e:En)(h:aA)(x:Esc)(K:KT):Sf C gl bR e h x K:=⟨_,by simp only[bR,↓wZ,AO.still];rfl⟩
theorem zcj {C gl e h x K}:NW C gl bR ⟨e,h,x⟩ K=(xV C gl e h x K).1:=(xV C gl e h x K).2
def IY:ACode:=(.seq (rg [mV 4 (cI 0)] [0,1])
(.seq (.seq (rg [mV 6 0,
lN 7 6,
mV 8 (cI 0)] [0,1,7,8])
(.block 0 (.loop oK)))
bR))
def LT:AFun:=⟨2,[.t 4],IY,true,false⟩
def mP (C:Hd)(gl:GL)(e:En)(h:aA)(x:Esc)(K:KT):Sf C gl IY e h x K:=⟨_,by simp only[IY,↓wZ,AO.still];rfl⟩
theorem zch {C gl v0 v1 h x K}:NW C gl LT.body ⟨enter [v0,v1],h,x⟩ K=(mP C gl [(0,v0),(1,v1)] h x K).1:=(mP C gl [(0,v0),(1,v1)] h x K).2
def vY:ACode:=(.seq (rg [uO 2 (.box 0),
mV 3 cF] [1,2])
(.seq (rg [fA 4 0 none 2,
lD 5 none 4,
lD 6 none 1,
bN 7 .eql 5 6,
mV 3 7] [3])
.ret))
def zT:AFun:=⟨2,[.t 3],vY,false,false⟩
def aP (C:Hd)(gl:GL)(e:En)(h:aA)(x:Esc)(K:KT):Sf C gl vY e h x K:=⟨_,by simp only[vY,↓wZ,AO.still];rfl⟩
theorem zbG {C gl v0 v1 h x K}:NW C gl zT.body ⟨enter [v0,v1],h,x⟩ K=(aP C gl [(0,v0),(1,v1)] h x K).1:=(aP C gl [(0,v0),(1,v1)] h x K).2
end Go.Am
end
section
/- The functions asv abstract code,and asv formulas FE their values: printed by program out of the translation. -/
set_option linter.all false
set_option maxRecDepth 100000
namespace Go.Am
def vK:ACode:=.pr [0,1,2,6,7,8] (.seq (.seq (rg [mV 11 8,
mV 12 1,
bN 13 .leq 11 12] [0,1,2,6,7,8,13])
(.cond 13 .skip
(.exit 0)))
(.block 1 (.seq (rg [mV 14 0,
mV 15 7,
mV 16 8,
mV 17 2,
cL 18 SH [14,15,16,17]] [0,1,2,6,8])
(.seq (rg [mV 19 8,
mV 7 19] [0,1,2,6,7,8])
(rg [mV 20 8,
mV 21 6,
bN 22 .add 20 21,
mV 8 22] [0,1,2,6,7,8])))))
def KV (C:Hd)(gl:GL)(e:En)(h:aA)(x:Esc)(K:KT):Sf C gl vK e h x K:=⟨_,by simp only[vK,↓wZ,AO.still];rfl⟩
theorem zc2 {C gl e h x K}:NW C gl vK ⟨e,h,x⟩ K=(KV C gl e h x K).1:=(KV C gl e h x K).2
theorem zf0 {C gl e h x K}:NW C gl (.loop vK) ⟨e,h,x⟩ K=MA C gl vK K [(0,eA e 0),(1,eA e 1),(2,eA e 2),(6,eA e 6),(7,eA e 7),(8,eA e 8)] h x:=FB
def xK:ACode:=.pr [0,1,2,6,7,8] (.seq (.seq (rg [mV 33 8,
mV 34 1,
bN 35 .leq 33 34] [0,1,2,6,7,8,35])
(.cond 35 .skip
(.exit 4)))
(.block 5 (.seq (rg [mV 36 0,
mV 37 7,
mV 38 7,
mV 39 6,
bN 40 .add 38 39,
mV 41 8,
mV 42 2,
cL 43 z2D [36,37,40,41,42]] [0,1,2,6,8])
(.seq (rg [mV 44 8,
mV 7 44] [0,1,2,6,7,8])
(rg [mV 45 8,
mV 46 6,
bN 47 .mul (cI 2) 46,
bN 48 .add 45 47,
mV 8 48] [0,1,2,6,7,8])))))
def LV (C:Hd)(gl:GL)(e:En)(h:aA)(x:Esc)(K:KT):Sf C gl xK e h x K:=⟨_,by simp only[xK,↓wZ,AO.still];rfl⟩
theorem zc3 {C gl e h x K}:NW C gl xK ⟨e,h,x⟩ K=(LV C gl e h x K).1:=(LV C gl e h x K).2
theorem zf1 {C gl e h x K}:NW C gl (.loop xK) ⟨e,h,x⟩ K=MA C gl xK K [(0,eA e 0),(1,eA e 1),(2,eA e 2),(6,eA e 6),(7,eA e 7),(8,eA e 8)] h x:=FB
def jR:ACode:=.pr [0,1,2,6] (rg [mV 61 6,
bN 62 .mul 61 (cI 2),
mV 6 62] [0,1,2,6])
def MV (C:Hd)(gl:GL)(e:En)(h:aA)(x:Esc)(K:KT):Sf C gl jR e h x K:=⟨_,by simp only[jR,↓wZ,AO.still];rfl⟩
theorem zc4 {C gl e h x K}:NW C gl jR ⟨e,h,x⟩ K=(MV C gl e h x K).1:=(MV C gl e h x K).2
def kR:ACode:=.pr [0,1,2,6,7] (.seq (.seq (rg [mV 49 7,
mV 50 6,
bN 51 .add 49 50,
mV 9 51] [0,1,2,6,7,9])
(.seq (rg [mV 52 9,
mV 53 1,
bN 54 .lss 52 53] [0,1,2,6,7,9,54])
(.cond 54 (rg [mV 55 0,
mV 56 7,
mV 57 9,
mV 58 1,
mV 59 2,
cL 60 z2D [55,56,57,58,59]] [0,1,2,6])
.skip)))
jR)
def NV (C:Hd)(gl:GL)(e:En)(h:aA)(x:Esc)(K:KT):Sf C gl kR e h x K:=⟨_,by simp only[kR,↓wZ,AO.still];rfl⟩
theorem zc5 {C gl e h x K}:NW C gl kR ⟨e,h,x⟩ K=(NV C gl e h x K).1:=(NV C gl e h x K).2
def yK:ACode:=.pr [0,1,2,6] (.seq (.seq (rg [mV 28 6,
mV 29 1,
bN 30 .lss 28 29] [0,1,2,6,30])
(.cond 30 .skip
(.exit 2)))
(.block 3 (.seq (rg [mV 31 6,
bN 32 .mul (cI 2) 31,
mV 7 (cI 0),
mV 8 32] [0,1,2,6,7,8])
(.seq (.block 4 (.loop xK))
kR))))
def OV (C:Hd)(gl:GL)(e:En)(h:aA)(x:Esc)(K:KT):Sf C gl yK e h x K:=⟨_,by simp only[yK,↓wZ,AO.still];rfl⟩
theorem zc6 {C gl e h x K}:NW C gl yK ⟨e,h,x⟩ K=(OV C gl e h x K).1:=(OV C gl e h x K).2
theorem zf2 {C gl e h x K}:NW C gl (.loop yK) ⟨e,h,x⟩ K=MA C gl yK K [(0,eA e 0),(1,eA e 1),(2,eA e 2),(6,eA e 6)] h x:=FB
def lR:ACode:=.pr [0,1,2,6,7] (.seq (rg [mV 23 0,
mV 24 7,
mV 25 1,
mV 26 2,
cL 27 SH [23,24,25,26]] [0,1,2,6])
(.block 2 (.loop yK)))
def QV (C:Hd)(gl:GL)(e:En)(h:aA)(x:Esc)(K:KT):Sf C gl lR e h x K:=⟨_,by simp only[lR,↓wZ,AO.still];rfl⟩
theorem zc7 {C gl e h x K}:NW C gl lR ⟨e,h,x⟩ K=(QV C gl e h x K).1:=(QV C gl e h x K).2
def PY:ACode:=(.seq (rg [mV 6 (cI 20)] [0,1,2,6])
(.seq (rg [mV 10 6,
mV 7 (cI 0),
mV 8 10] [0,1,2,6,7,8])
(.seq (.block 0 (.loop vK))
lR)))
def QT:AFun:=⟨3,[],PY,true,false⟩
def tP (C:Hd)(gl:GL)(e:En)(h:aA)(x:Esc)(K:KT):Sf C gl PY e h x K:=⟨_,by simp only[PY,↓wZ,AO.still];rfl⟩
theorem zc1 {C gl v0 v1 v2 h x K}:NW C gl QT.body ⟨enter [v0,v1,v2],h,x⟩ K=(tP C gl [(0,v0),(1,v1),(2,v2)] h x K).1:=(tP C gl [(0,v0),(1,v1),(2,v2)] h x K).2
def BX:ACode:=(.seq (rg [mV 2 cF] [0])
(.seq (rg [mV 3 0,
mV 4 0,
bN 5 .neq 3 4,
mV 2 5] [2])
.ret))
def zN:AFun:=⟨1,[.t 2],BX,false,false⟩
def yO (C:Hd)(gl:GL)(e:En)(h:aA)(x:Esc)(K:KT):Sf C gl BX e h x K:=⟨_,by simp only[BX,↓wZ,AO.still];rfl⟩
theorem za1 {C gl v0 h x K}:NW C gl zN.body ⟨enter [v0],h,x⟩ K=(yO C gl [(0,v0)] h x K).1:=(yO C gl [(0,v0)] h x K).2
def CX:ACode:=(.seq (rg [mV 4 (cI 0)] [0,1])
(.seq (rg [mV 5 0,
mV 6 1,
cL 7 iG [5,6],
mV 4 7] [4])
.ret))
def AN:AFun:=⟨2,[.t 4],CX,false,false⟩
def zO (C:Hd)(gl:GL)(e:En)(h:aA)(x:Esc)(K:KT):Sf C gl CX e h x K:=⟨_,by simp only[CX,↓wZ,AO.still];rfl⟩
theorem za2 {C gl v0 v1 h x K}:NW C gl AN.body ⟨enter [v0,v1],h,x⟩ K=(zO C gl [(0,v0),(1,v1)] h x K).1:=(zO C gl [(0,v0),(1,v1)] h x K).2
def sY:ACode:=(.seq (rg [mV 2 cF] [0])
(.seq (rg [mV 3 0,
cL 4 AE [3,(cI 0),(cI 345686399999)],
mV 2 4] [2])
.ret))
def wT:AFun:=⟨1,[.t 2],sY,false,false⟩
def YO (C:Hd)(gl:GL)(e:En)(h:aA)(x:Esc)(K:KT):Sf C gl sY e h x K:=⟨_,by simp only[sY,↓wZ,AO.still];rfl⟩
theorem zbB {C gl v0 h x K}:NW C gl wT.body ⟨enter [v0],h,x⟩ K=(YO C gl [(0,v0)] h x K).1:=(YO C gl [(0,v0)] h x K).2
def AY:ACode:=(.seq (rg [mV 2 cF] [0])
(.seq (rg [mV 3 0,
cL 4 AE [3,(cI (-100000)),(cI 100000)],
uO 5 (.un .not 4),
mV 2 5] [2])
.ret))
def ET:AFun:=⟨1,[.t 2],AY,false,false⟩
def fP (C:Hd)(gl:GL)(e:En)(h:aA)(x:Esc)(K:KT):Sf C gl AY e h x K:=⟨_,by simp only[AY,↓wZ,AO.still];rfl⟩
theorem zbP {C gl v0 h x K}:NW C gl ET.body ⟨enter [v0],h,x⟩ K=(fP C gl [(0,v0)] h x K).1:=(fP C gl [(0,v0)] h x K).2
def jK:ACode:=.pr [0,7,8,9] (.seq (rg [bN 10 .lss 9 8] [0,7,8,9,10])
(.seq (.cond 10 .skip
(.exit 0))
(.seq (.block 1 (.seq (rg [mV 11 9,
iA 12 none 7 9,
lD 13 none 12,
mV 5 11,
mV 6 13] [0,5,6,7,8,9])
(.seq (dr [dF (mV 14 5) [5],
dF (mV 15 0) [0],
dF (lN 16 15) [15],
dF (bN 17 .lss 14 16) [14,16],
dF (mV 18 17) [17],
dF (gD 19 18 true (.mv 6)) [6,18],
dF (gD 20 18 true (.mv 0)) [0,18],
dF (gD 21 18 true (.mv 5)) [5,18],
dF (gD 22 18 true (.iaddr (some 4) 20 21)) [20,21,18],
dF (gD 23 18 true (.faddr 1 none 22)) [22,18],
dF (gD 24 18 true (.load none 23)) [23,18],
dF (gD 25 18 true (.mv 0)) [0,18],
dF (gD 26 18 true (.mv 5)) [5,18],
dF (gD 27 18 true (.iaddr (some 4) 25 26)) [25,26,18],
dF (gD 28 18 true (.faddr 2 none 27)) [27,18],
dF (gD 29 18 true (.load none 28)) [28,18],
dT (gD 30 18 true (.call AE [19,24,29])) [19,24,29,18],
dF (gD 31 18 true (.un .not 30)) [30,18],
dF (uO 32 (.pick 18 31 cF)) [18,31]] [0,5,7,8,9,32])
(.cond 32 (.seq (rg [mV 33 5,
mV 4 33] [4])
.ret)
.skip))))
(rg [bN 34 .add 9 (cI 1),
mV 9 34] [0,7,8,9]))))
def fV (C:Hd)(gl:GL)(e:En)(h:aA)(x:Esc)(K:KT):Sf C gl jK e h x K:=⟨_,by simp only[jK,↓wZ,AO.still];rfl⟩
theorem zbI {C gl e h x K}:NW C gl jK ⟨e,h,x⟩ K=(fV C gl e h x K).1:=(fV C gl e h x K).2
theorem zfp {C gl e h x K}:NW C gl (.loop jK) ⟨e,h,x⟩ K=MA C gl jK K [(0,eA e 0),(7,eA e 7),(8,eA e 8),(9,eA e 9)] h x:=FB
def RQ:ACode:=.pr [] (.seq (rg [mV 4 (cI (-1))] [4])
.ret)
def iV (C:Hd)(gl:GL)(e:En)(h:aA)(x:Esc)(K:KT):Sf C gl RQ e h x K:=⟨_,by simp only[RQ,↓wZ,AO.still];rfl⟩
theorem zbJ {C gl e h x K}:NW C gl RQ ⟨e,h,x⟩ K=(iV C gl e h x K).1:=(iV C gl e h x K).2
def wY:ACode:=(.seq (rg [mV 4 (cI 0)] [0,1])
(.seq (.seq (rg [mV 7 1,
lN 8 7,
mV 9 (cI 0)] [0,7,8,9])
(.block 0 (.loop jK)))
RQ))
def AT:AFun:=⟨2,[.t 4],wY,false,false⟩
def bP (C:Hd)(gl:GL)(e:En)(h:aA)(x:Esc)(K:KT):Sf C gl wY e h x K:=⟨_,by simp only[wY,↓wZ,AO.still];rfl⟩
theorem zbH {C gl v0 v1 h x K}:NW C gl AT.body ⟨enter [v0,v1],h,x⟩ K=(bP C gl [(0,v0),(1,v1)] h x K).1:=(bP C gl [(0,v0),(1,v1)] h x K).2
def CY:ACode:=(.seq (rg [mV 2 (cI 0)] [0])
(.seq (.block 0 (.seq (rg [mV 4 0,
bN 5 .lss 4 (cI 0),
mV 3 5] [0,3])
(.cond 3 (.seq (rg [mV 2 (cI (-1))] [2])
.ret)
(.seq (rg [mV 7 0,
bN 8 .gtr 7 (cI 0),
mV 6 8] [6])
(.cond 6 (.seq (rg [mV 2 (cI 1)] [2])
.ret)
.skip)))))
(.seq (rg [mV 2 (cI 0)] [2])
.ret)))
def GT:AFun:=⟨1,[.t 2],CY,false,false⟩
def XI (C:Hd)(gl:GL)(e:En)(h:aA)(x:Esc)(K:KT):Sf C gl CY e h x K:=⟨_,by simp only[CY,↓wZ,AO.still];rfl⟩
theorem zbR {C gl v0 h x K}:NW C gl GT.body ⟨enter [v0],h,x⟩ K=(XI C gl [(0,v0)] h x K).1:=(XI C gl [(0,v0)] h x K).2
def RX:ACode:=(.seq (rg [uO 2 (.box 0),
mV 3 cF] [1,2])
(.seq (rg [fA 4 0 none 2,
lD 5 none 4,
lD 6 none 1,
bN 7 .eql 5 6,
mV 3 7] [3])
.ret))
def VS:AFun:=⟨2,[.t 3],RX,false,false⟩
def HO (C:Hd)(gl:GL)(e:En)(h:aA)(x:Esc)(K:KT):Sf C gl RX e h x K:=⟨_,by simp only[RX,↓wZ,AO.still];rfl⟩
theorem zaR {C gl v0 v1 h x K}:NW C gl VS.body ⟨enter [v0,v1],h,x⟩ K=(HO C gl [(0,v0),(1,v1)] h x K).1:=(HO C gl [(0,v0),(1,v1)] h x K).2
def qK:ACode:=.pr [0,1,7,8] (.seq (rg [bN 9 .lss 8 7] [0,1,7,8,9])
(.seq (.cond 9 .skip
(.exit 0))
(.seq (.block 1 (.seq (rg [mV 10 8,
mV 5 10] [0,1,5,7,8])
(.seq (rg [mV 11 1,
mV 12 0,
mV 13 5,
iA 14 none 12 13,
lD 15 none 14,
uO 16 (.callv 11 [15])] [0,1,5,7,8,16])
(.cond 16 (.seq (rg [mV 17 5,
mV 4 17] [4])
.ret)
.skip))))
(rg [bN 18 .add 8 (cI 1),
mV 8 18] [0,1,7,8]))))
def yV (C:Hd)(gl:GL)(e:En)(h:aA)(x:Esc)(K:KT):Sf C gl qK e h x K:=⟨_,by simp only[qK,↓wZ,AO.still];rfl⟩
theorem zcl {C gl e h x K}:NW C gl qK ⟨e,h,x⟩ K=(yV C gl e h x K).1:=(yV C gl e h x K).2
theorem zfv {C gl e h x K}:NW C gl (.loop qK) ⟨e,h,x⟩ K=MA C gl qK K [(0,eA e 0),(1,eA e 1),(7,eA e 7),(8,eA e 8)] h x:=FB
def cR:ACode:=.pr [] (.seq (rg [mV 4 (cI (-1))] [4])
.ret)
def zV (C:Hd)(gl:GL)(e:En)(h:aA)(x:Esc)(K:KT):Sf C gl cR e h x K:=⟨_,by simp only[cR,↓wZ,AO.still];rfl⟩
theorem zcm {C gl e h x K}:NW C gl cR ⟨e,h,x⟩ K=(zV C gl e h x K).1:=(zV C gl e h x K).2
def JY:ACode:=(.seq (rg [mV 4 (cI 0)] [0,1])
(.seq (.seq (rg [mV 6 0,
lN 7 6,
mV 8 (cI 0)] [0,1,7,8])
(.block 0 (.loop qK)))
cR))
def EN:AFun:=⟨2,[.t 4],JY,true,false⟩
def nP (C:Hd)(gl:GL)(e:En)(h:aA)(x:Esc)(K:KT):Sf C gl JY e h x K:=⟨_,by simp only[JY,↓wZ,AO.still];rfl⟩
theorem zck {C gl v0 v1 h x K}:NW C gl EN.body ⟨enter [v0,v1],h,x⟩ K=(nP C gl [(0,v0),(1,v1)] h x K).1:=(nP C gl [(0,v0),(1,v1)] h x K).2
def cZ:ACode:=(.seq (rg [uO 5 (.box 2),
mV 6 (cI 0)] [0,1,5])
(.seq (dr [dF (mV 10 0) [0],
dF (uO 11 (.nilchk 10)) [10],
dF (fA 12 3 none 11) [11],
dF (lD 13 none 12) [12],
dF (fA 14 0 none 5) [5],
dF (lD 15 none 14) [14],
dF (uO 16 (.look (none,[2]) true (.p (.str [])) 13 15)) [13,15],
dF (mV 9 16) [16],
dF (eX 17 9 0) [9],
dF (eX 18 9 1) [9],
dF (mV 7 17) [17],
dF (mV 8 18) [18]] [0,1,5,8])
(.seq (.block 0 (.seq (rg [mV 20 1,
uO 21 (.nilchk 20),
fA 22 0 none 21,
lD 23 none 22,
bN 24 .neq 23 (cI 1),
mV 19 24] [0,1,5,8,19])
(.cond 19 (.seq (rg [mV 6 (cI 11)] [6])
.ret)
(.seq (dr [dF (fA 26 5 none 5) [5],
dF (lD 27 none 26) [26],
dF (mV 28 1) [1],
dF (uO 29 (.nilchk 28)) [28],
dF (fA 30 2 none 29) [29],
dF (lD 31 none 30) [30],
dF (bN 32 .neq 27 31) [27,31],
dF (mV 25 32) [32]] [0,1,5,8,25])
(.cond 25 (.seq (rg [mV 6 (cI 3)] [6])
.ret)
(.seq (rg [mV 34 8,
mV 33 34] [0,1,5,33])
(.cond 33 (.seq (rg [mV 6 (cI 12)] [6])
.ret)
.skip)))))))
(.seq (dr [dF (mV 35 1) [1],
dF (mV 36 1) [1],
dF (mV 37 1) [1],
dF (fA 38 2 none 5) [5],
dF (lD 39 none 38) [38],
dF (fA 40 0 none 5) [5],
dF (lD 41 none 40) [40],
dF (uO 42 (.nilchk 35)) [35],
dF (fA 43 0 none 42) [42],
dA (wO (.store none 43 (cI 2))) [43] true [] [4,6],
dF (uO 44 (.nilchk 36)) [36],
dF (fA 45 1 none 44) [44],
dA (wO (.store none 45 39)) [45,39] true [] [6],
dF (uO 46 (.nilchk 37)) [37],
dF (fA 47 3 none 46) [46],
dT (wO (.store none 47 41)) [47,41]] [0,5])
(.seq (dr [dF (mV 48 0) [0],
dF (uO 49 (.nilchk 48)) [48],
dF (fA 50 3 none 49) [49],
dF (lD 51 none 50) [50],
dF (fA 52 0 none 5) [5],
dF (lD 53 none 52) [52],
dF (fA 54 4 none 5) [5],
dF (lD 55 none 54) [54],
dT (wO (.mupd (none,[2]) 51 53 55)) [51,53,55]] [0,5])
(.seq (dr [dF (mV 56 0) [0],
dF (mV 57 0) [0],
dF (uO 58 (.nilchk 57)) [57],
dF (fA 59 5 none 58) [58],
dF (lD 60 none 59) [59],
dF (fA 61 0 none 5) [5],
dF (lD 62 none 61) [61],
dF (fA 63 2 none 5) [5],
dF (lD 64 none 63) [63],
dF (uO 65 (.build [.p (.str []),.p (.int .i64 0),.p (.int .i64 0)] [(0,1,62),(1,1,64),(2,1,(cI (-1)))])) [62,64],
dF (uO 66 (.bsl false (some 3) 1 (.agg [.str [],.int .i64 0,.int .i64 0]) [(0,65)])) [65],
dT (uO 67 (.app (some 3) 60 66)) [60,66],
dF (uO 68 (.nilchk 56)) [56],
dF (fA 69 5 none 68) [68],
dT (wO (.store none 69 67)) [69,67]] [])
(.seq (rg [mV 6 (cI 0)] [6])
.ret)))))))
def PN:AFun:=⟨3,[.t 6],cZ,false,false⟩
def GH (C:Hd)(gl:GL)(e:En)(h:aA)(x:Esc)(K:KT):Sf C gl cZ e h x K:=⟨_,by simp only[cZ,↓wZ,AO.still];rfl⟩
theorem zcZ {C gl v0 v1 v2 h x K}:NW C gl PN.body ⟨enter [v0,v1,v2],h,x⟩ K=(GH C gl [(0,v0),(1,v1),(2,v2)] h x K).1:=(GH C gl [(0,v0),(1,v1),(2,v2)] h x K).2
def qR:ACode:=.pr [] (.seq (rg [mV 6 (cI 0)] [6])
.ret)
def XV (C:Hd)(gl:GL)(e:En)(h:aA)(x:Esc)(K:KT):Sf C gl qR e h x K:=⟨_,by simp only[qR,↓wZ,AO.still];rfl⟩
theorem zcO {C gl e h x K}:NW C gl qR ⟨e,h,x⟩ K=(XV C gl e h x K).1:=(XV C gl e h x K).2
def rR:ACode:=.pr [] (.seq (rg [mV 6 (cI 0)] [6])
.ret)
def YV (C:Hd)(gl:GL)(e:En)(h:aA)(x:Esc)(K:KT):Sf C gl rR e h x K:=⟨_,by simp only[rR,↓wZ,AO.still];rfl⟩
theorem zcP {C gl e h x K}:NW C gl rR ⟨e,h,x⟩ K=(YV C gl e h x K).1:=(YV C gl e h x K).2
def sR:ACode:=.pr [0,1] (.seq (rg [mV 98 1,
uO 99 (.nilchk 98),
fA 100 4 none 99,
lD 101 none 100,
bN 102 .add 101 (cI 1),
uO 103 (.nilchk 98),
fA 104 4 none 103,
wO (.store none 104 102)] [0,1])
(.seq (rg [mV 105 1,
uO 106 (.nilchk 105),
fA 107 0 none 106,
wO (.store none 107 (cI 3))] [0,1])
(.seq (.seq (dr [dF (mV 108 1) [1],
dF (uO 109 (.nilchk 108)) [108],
dF (fA 110 4 none 109) [109],
dF (lD 111 none 110) [110],
dF (mV 112 0) [0],
dF (uO 113 (.nilchk 112)) [112],
dF (fA 114 0 (some 2) 113) [113],
dF (fA 115 1 none 114) [114],
dF (lD 116 none 115) [115],
dF (bN 117 .eql 111 116) [111,116]] [1,117])
(.cond 117 (rg [mV 118 1,
uO 119 (.nilchk 118),
fA 120 0 none 119,
wO (.store none 120 (cI 5))] [])
.skip))
rR)))
def ZV (C:Hd)(gl:GL)(e:En)(h:aA)(x:Esc)(K:KT):Sf C gl sR e h x K:=⟨_,by simp only[sR,↓wZ,AO.still];rfl⟩
theorem zcQ {C gl e h x K}:NW C gl sR ⟨e,h,x⟩ K=(ZV C gl e h x K).1:=(ZV C gl e h x K).2
def ZY:ACode:=(.seq (rg [uO 5 (.box 2),
mV 6 (cI 0)] [0,1,5])
(.seq (.block 0 (.seq (rg [mV 10 1,
uO 11 (.nilchk 10),
fA 12 0 none 11,
lD 13 none 12,
bN 14 .neq 13 (cI 2),
mV 9 14] [0,1,5,9])
(.cond 9 (.seq (rg [mV 6 (cI 11)] [6])
.ret)
(.seq (dr [dF (mV 16 1) [1],
dF (uO 17 (.nilchk 16)) [16],
dF (fA 18 3 none 17) [17],
dF (lD 19 none 18) [18],
dF (fA 20 0 none 5) [5],
dF (lD 21 none 20) [20],
dF (bN 22 .neq 19 21) [19,21],
dF (mV 15 22) [22]] [0,1,5,15])
(.cond 15 (.seq (rg [mV 6 (cI 13)] [6])
.ret)
.skip)))))
(.seq (rg [fA 23 3 none 5,
lD 24 none 23,
bN 25 .eql 24 (cI 3),
mV 7 25] [0,1,5,7])
(.seq (dr [dF (mV 26 0) [0],
dF (mV 27 0) [0],
dF (uO 28 (.nilchk 27)) [27],
dF (fA 29 4 none 28) [28],
dF (lD 30 none 29) [29],
dF (fA 31 4 none 5) [5],
dF (lD 32 none 31) [31],
dF (mV 33 1) [1],
dF (uO 34 (.nilchk 33)) [33],
dF (fA 35 2 none 34) [34],
dF (lD 36 none 35) [35],
dF (mV 37 1) [1],
dF (uO 38 (.nilchk 37)) [37],
dF (fA 39 1 none 38) [38],
dF (lD 40 none 39) [39],
dF (fA 41 2 none 5) [5],
dF (lD 42 none 41) [41],
dF (mV 43 7) [7],
dF (uO 44 (.build [.p (.str []),.p (.str []),.p (.int .i64 0),.p (.int .i64 0),.p (.bool false)] [(0,1,32),(1,1,36),(2,1,40),(3,1,42),(4,1,43)])) [32,36,40,42,43],
dF (uO 45 (.bsl false (some 5) 1 (.agg [.str [],.str [],.int .i64 0,.int .i64 0,.bool false]) [(0,44)])) [44],
dT (uO 46 (.app (some 5) 30 45)) [30,45],
dF (uO 47 (.nilchk 26)) [26],
dF (fA 48 4 none 47) [47],
dT (wO (.store none 48 46)) [48,46]] [0,1,5,7])
(.seq (rg [mV 49 0,
mV 50 1,
fA 51 2 none 5,
lD 52 none 51,
cL 53 UH [49,50,52]] [0,1,5,7])
(.seq (rg [mV 54 1,
fA 55 2 none 5,
lD 56 none 55,
uO 57 (.nilchk 54),
fA 58 1 none 57,
wO (.store none 58 56)] [0,1,7])
(.seq (.seq (rg [mV 59 7] [0,1,59])
(.cond 59 (.seq (rg [mV 60 1,
uO 61 (.nilchk 60),
fA 62 4 none 61,
wO (.store none 62 (cI 0))] [0,1])
(.seq (rg [mV 63 0,
mV 64 1,
uO 65 (.nilchk 64),
fA 66 2 none 65,
lD 67 none 66,
cL 68 FJ [63,67],
bN 69 .add 68 (cI 1),
mV 8 69] [0,1,8])
(.seq (.seq (rg [mV 70 8,
mV 71 0,
uO 72 (.nilchk 71),
fA 73 0 (some 2) 72,
fA 74 0 none 73,
lD 75 none 74,
lN 76 75,
bN 77 .eql 70 76] [0,1,8,77])
(.cond 77 (rg [mV 78 1,
mV 79 1,
uO 80 (.nilchk 78),
fA 81 0 none 80,
wO (.store none 81 (cI 4)),
uO 82 (.nilchk 79),
fA 83 2 none 82,
wO (.store none 83 (cS []))] [])
(rg [mV 84 1,
mV 85 1,
mV 86 0,
uO 87 (.nilchk 86),
fA 88 0 (some 2) 87,
fA 89 0 none 88,
lD 90 none 89,
mV 91 8,
iA 92 none 90 91,
lD 93 none 92,
uO 94 (.nilchk 84),
fA 95 0 none 94,
wO (.store none 95 (cI 1)),
uO 96 (.nilchk 85),
fA 97 2 none 96,
wO (.store none 97 93)] [])))
qR)))
.skip))
sR)))))))
def NN:AFun:=⟨3,[.t 6],ZY,false,false⟩
def eG (C:Hd)(gl:GL)(e:En)(h:aA)(x:Esc)(K:KT):Sf C gl ZY e h x K:=⟨_,by simp only[ZY,↓wZ,AO.still];rfl⟩
theorem zcN {C gl v0 v1 v2 h x K}:NW C gl NN.body ⟨enter [v0,v1,v2],h,x⟩ K=(eG C gl [(0,v0),(1,v1),(2,v2)] h x K).1:=(eG C gl [(0,v0),(1,v1),(2,v2)] h x K).2
def tR:ACode:=.pr [0,1,2,11,12] (rg [bN 47 .add 12 (cI 1),
mV 12 47] [0,1,2,11,12])
def aW (C:Hd)(gl:GL)(e:En)(h:aA)(x:Esc)(K:KT):Sf C gl tR e h x K:=⟨_,by simp only[tR,↓wZ,AO.still];rfl⟩
theorem zcS {C gl e h x K}:NW C gl tR ⟨e,h,x⟩ K=(aW C gl e h x K).1:=(aW C gl e h x K).2
def CK:ACode:=.pr [0,1,2,11,12] (.seq (rg [bN 13 .lss 12 11] [0,1,2,11,12,13])
(.seq (.cond 13 .skip
(.exit 0))
(.seq (.block 1 (.seq (rg [mV 14 12,
mV 6 14] [0,1,2,6,11,12])
(.seq (dr [dF (mV 15 0) [0],
dF (uO 16 (.nilchk 15)) [15],
dF (fA 17 5 none 16) [16],
dF (lD 18 none 17) [17],
dF (mV 19 6) [6],
dF (iA 20 (some 3) 18 19) [18,19],
dF (fA 21 0 none 20) [20],
dF (lD 22 none 21) [21],
dF (mV 23 1) [1],
dF (uO 24 (.nilchk 23)) [23],
dF (fA 25 3 none 24) [24],
dF (lD 26 none 25) [25],
dF (bN 27 .eql 22 26) [22,26],
dF (mV 28 27) [27],
dF (gD 29 28 true (.mv 0)) [0,28],
dF (gD 30 28 true (.nilchk 29)) [29,28],
dF (gD 31 28 true (.faddr 5 none 30)) [30,28],
dF (gD 32 28 true (.load none 31)) [31,28],
dF (gD 33 28 true (.mv 6)) [6,28],
dF (gD 34 28 true (.iaddr (some 3) 32 33)) [32,33,28],
dF (gD 35 28 true (.faddr 2 none 34)) [34,28],
dF (gD 36 28 true (.load none 35)) [35,28],
dF (gD 37 28 true (.bin .lss 36 (cI 0))) [36,28],
dF (uO 38 (.pick 28 37 cF)) [28,37]] [0,1,2,6,11,12,38])
(.cond 38 (rg [mV 39 0,
uO 40 (.nilchk 39),
fA 41 5 none 40,
lD 42 none 41,
mV 43 6,
mV 44 2,
iA 45 (some 3) 42 43,
fA 46 2 none 45,
wO (.store none 46 44)] [0,1,2,11,12])
.skip))))
tR)))
def bW (C:Hd)(gl:GL)(e:En)(h:aA)(x:Esc)(K:KT):Sf C gl CK e h x K:=⟨_,by simp only[CK,↓wZ,AO.still];rfl⟩
theorem zcT {C gl e h x K}:NW C gl CK ⟨e,h,x⟩ K=(bW C gl e h x K).1:=(bW C gl e h x K).2
theorem zf6 {C gl e h x K}:NW C gl (.loop CK) ⟨e,h,x⟩ K=MA C gl CK K [(0,eA e 0),(1,eA e 1),(2,eA e 2),(11,eA e 11),(12,eA e 12)] h x:=FB
def uR:ACode:=.pr [0,1] (.seq (dr [dF (mV 48 0) [0],
dF (uO 49 (.nilchk 48)) [48],
dF (fA 50 3 none 49) [49],
dF (lD 51 none 50) [50],
dF (mV 52 1) [1],
dF (uO 53 (.nilchk 52)) [52],
dF (fA 54 3 none 53) [53],
dF (lD 55 none 54) [54],
dT (wO (.mdel (none,[2]) 51 55)) [51,55]] [1])
(rg [mV 56 1,
uO 57 (.nilchk 56),
fA 58 3 none 57,
wO (.store none 58 (cS []))] []))
def cW (C:Hd)(gl:GL)(e:En)(h:aA)(x:Esc)(K:KT):Sf C gl uR e h x K:=⟨_,by simp only[uR,↓wZ,AO.still];rfl⟩
theorem zcU {C gl e h x K}:NW C gl uR ⟨e,h,x⟩ K=(cW C gl e h x K).1:=(cW C gl e h x K).2
def aZ:ACode:=(.seq (.seq (rg [mV 7 0,
uO 8 (.nilchk 7),
fA 9 5 none 8,
lD 10 none 9,
lN 11 10,
mV 12 (cI 0)] [0,1,2,11,12])
(.block 0 (.loop CK)))
uR)
def ON:AFun:=⟨3,[],aZ,false,false⟩
def yP (C:Hd)(gl:GL)(e:En)(h:aA)(x:Esc)(K:KT):Sf C gl aZ e h x K:=⟨_,by simp only[aZ,↓wZ,AO.still];rfl⟩
theorem zcR {C gl v0 v1 v2 h x K}:NW C gl ON.body ⟨enter [v0,v1,v2],h,x⟩ K=(yP C gl [(0,v0),(1,v1),(2,v2)] h x K).1:=(yP C gl [(0,v0),(1,v1),(2,v2)] h x K).2
def GX:ACode:=(.seq (rg [mV 4 (cI 0)] [0,1])
(.seq (.seq (rg [mV 6 0,
cL 7 iJ [6],
mV 5 7] [0,1,5])
(.seq (rg [mV 8 5,
bN 9 .neq 8 (cI 0)] [0,1,5,9])
(.cond 9 (.seq (rg [mV 10 5,
mV 4 10] [4])
.ret)
.skip)))
(.seq (rg [mV 11 0,
mV 12 1,
cL 13 OL [11,12],
mV 4 13] [4])
.ret)))
def LS:AFun:=⟨2,[.t 4],GX,false,false⟩
def kL (C:Hd)(gl:GL)(e:En)(h:aA)(x:Esc)(K:KT):Sf C gl GX e h x K:=⟨_,by simp only[GX,↓wZ,AO.still];rfl⟩
theorem za8 {C gl v0 v1 h x K}:NW C gl LS.body ⟨enter [v0,v1],h,x⟩ K=(kL C gl [(0,v0),(1,v1)] h x K).1:=(kL C gl [(0,v0),(1,v1)] h x K).2
def LY:ACode:=(.seq (rg [mV 5 0,
lN 6 5,
mV 4 6] [0,1,4])
(rg [mV 7 0,
mV 8 4,
mV 9 4,
uO 10 (.conv (.i .u64) 9),
cL 11 QL [10],
mV 12 1,
cL 13 TH [7,(cI 0),8,11,12]] []))
def MT:AFun:=⟨2,[],LY,true,false⟩
def pP (C:Hd)(gl:GL)(e:En)(h:aA)(x:Esc)(K:KT):Sf C gl LY e h x K:=⟨_,by simp only[LY,↓wZ,AO.still];rfl⟩
theorem zcq {C gl v0 v1 h x K}:NW C gl MT.body ⟨enter [v0,v1],h,x⟩ K=(pP C gl [(0,v0),(1,v1)] h x K).1:=(pP C gl [(0,v0),(1,v1)] h x K).2
def PX:ACode:=(.seq (rg [uO 2 (.box 0),
uO 3 (.box 1),
mV 4 (cI 0)] [2,3])
(.seq (rg [fA 5 0 none 2,
lD 6 none 5,
fA 7 0 none 3,
lD 8 none 7,
cL 9 GF [6,8],
mV 4 9] [4])
.ret))
def TS:AFun:=⟨2,[.t 4],PX,false,false⟩
def FO (C:Hd)(gl:GL)(e:En)(h:aA)(x:Esc)(K:KT):Sf C gl PX e h x K:=⟨_,by simp only[PX,↓wZ,AO.still];rfl⟩
theorem zaP {C gl v0 v1 h x K}:NW C gl TS.body ⟨enter [v0,v1],h,x⟩ K=(FO C gl [(0,v0),(1,v1)] h x K).1:=(FO C gl [(0,v0),(1,v1)] h x K).2
def WY:ACode:=(.seq (rg [uO 1 (.box 0),
mV 2 (cI 0)] [1])
(.seq (dr [dF (fA 5 3 none 1) [1],
dF (lD 6 none 5) [5],
dF (bN 7 .eql 6 (cI 7)) [6],
dF (fA 8 3 none 1) [1],
dF (lD 9 none 8) [8],
dF (bN 10 .eql 9 (cI 2)) [9],
dF (mV 3 7) [7],
dF (mV 4 10) [10]] [1,3,4])
(.seq (.block 0 (.seq (rg [fA 12 0 none 1,
lD 13 none 12,
cL 14 QD [13],
uO 15 (.un .not 14),
mV 11 15] [1,3,4,11])
(.cond 11 (.seq (rg [mV 2 (cI 5)] [2])
.ret)
(.seq (rg [fA 17 1 none 1,
lD 18 none 17,
cL 19 OB [18,(cI 1),(cI 1000000)],
mV 20 19,
gD 21 20 false (.faddr 2 none 1),
gD 22 20 false (.load none 21),
gD 23 20 false (.call PG [22]),
gD 24 20 false (.un .not 23),
uO 25 (.pick 20 cT 24),
mV 16 25] [1,3,4,16])
(.cond 16 (.seq (rg [mV 2 (cI 1)] [2])
.ret)
(.seq (rg [fA 27 3 none 1,
lD 28 none 27,
cL 29 OB [28,(cI 1),(cI 7)],
mV 26 29] [1,3,4,26])
(.cond 26 (.seq (rg [mV 2 (cI 4)] [2])
.ret)
(.seq (rg [mV 31 3,
uO 32 (.un .not 31),
mV 33 32,
gD 34 33 true (.faddr 4 none 1),
gD 35 33 true (.load none 34),
gD 36 33 true (.call QD [35]),
gD 37 33 true (.un .not 36),
uO 38 (.pick 33 37 cF),
mV 39 38,
gD 40 39 false (.mv 4),
gD 41 39 false (.mv 40),
gD 42 41 true (.faddr 5 none 1),
gD 43 41 true (.load none 42),
gD 44 41 true (.call QD [43]),
gD 45 41 true (.un .not 44),
gD 46 39 false (.pick 41 45 cF),
uO 47 (.pick 39 cT 46),
mV 48 47,
gD 49 48 false (.mv 3),
gD 50 48 false (.mv 49),
gD 51 50 true (.faddr 6 none 1),
gD 52 50 true (.load none 51),
gD 53 50 true (.call QD [52]),
gD 54 50 true (.un .not 53),
gD 55 48 false (.pick 50 54 cF),
uO 56 (.pick 48 cT 55),
mV 30 56] [1,3,4,30])
(.cond 30 (.seq (rg [mV 2 (cI 5)] [2])
.ret)
(.seq (rg [mV 58 3,
mV 59 58,
gD 60 59 true (.faddr 7 none 1),
gD 61 59 true (.load none 60),
gD 62 59 true (.call OB [61,(cI 1),(cI 1000000)]),
uO 63 (.pick 59 62 cF),
mV 57 63] [1,3,4,57])
(.cond 57 (.seq (rg [mV 2 (cI 1)] [2])
.ret)
(.seq (rg [mV 65 3,
mV 66 65,
gD 67 66 true (.faddr 4 none 1),
gD 68 66 true (.load none 67),
gD 69 66 true (.bin .neq 68 (cS [])),
uO 70 (.pick 66 69 cF),
mV 71 70,
gD 72 71 false (.mv 4),
gD 73 71 false (.un .not 72),
gD 74 71 false (.mv 73),
gD 75 74 true (.faddr 5 none 1),
gD 76 74 true (.load none 75),
gD 77 74 true (.bin .neq 76 (cS [])),
gD 78 71 false (.pick 74 77 cF),
uO 79 (.pick 71 cT 78),
mV 80 79,
gD 81 80 false (.mv 3),
gD 82 80 false (.un .not 81),
gD 83 80 false (.mv 82),
gD 84 83 true (.faddr 6 none 1),
gD 85 83 true (.load none 84),
gD 86 83 true (.bin .neq 85 (cS [])),
gD 87 83 true (.mv 86),
gD 88 87 false (.faddr 7 none 1),
gD 89 87 false (.load none 88),
gD 90 87 false (.bin .neq 89 (cI 0)),
gD 91 83 true (.pick 87 cT 90),
gD 92 80 false (.pick 83 91 cF),
uO 93 (.pick 80 cT 92),
mV 64 93] [64])
(.cond 64 (.seq (rg [mV 2 (cI 3)] [2])
.ret)
.skip)))))))))))))
(.seq (rg [mV 2 (cI 0)] [2])
.ret))))
def KN:AFun:=⟨1,[.t 2],WY,false,false⟩
def BF (C:Hd)(gl:GL)(e:En)(h:aA)(x:Esc)(K:KT):Sf C gl WY e h x K:=⟨_,by simp only[WY,↓wZ,AO.still];rfl⟩
theorem zcK {C gl v0 h x K}:NW C gl KN.body ⟨enter [v0],h,x⟩ K=(BF C gl [(0,v0)] h x K).1:=(BF C gl [(0,v0)] h x K).2
def UY:ACode:=(.seq (rg [uO 2 (.box 0),
uO 3 (.box 1),
mV 4 (cI 0)] [2,3])
(.seq (dr [dF (fA 5 2 none 2) [2],
dF (lD 6 none 5) [5],
dF (fA 7 2 none 3) [3],
dF (lD 8 none 7) [7],
dT (cL 9 kG [6,8]) [6,8],
dF (fA 10 0 none 2) [2],
dA (lD 11 none 10) [10] false [4] [],
dF (fA 12 0 none 3) [3],
dA (lD 13 none 12) [12] false [4] [],
dT (cL 14 GF [11,13]) [11,13],
dF (fA 15 1 none 2) [2],
dA (lD 16 none 15) [15] false [4,9] [],
dF (fA 17 1 none 3) [3],
dA (lD 18 none 17) [17] false [4,9] [],
dT (cL 19 kG [16,18]) [16,18],
dF (uO 20 (.bsl false none 3 (.int .i64 0) [(0,9),(1,14),(2,19)])) [9,14,19],
dT (cL 21 QG [20]) [20],
dF (mV 4 21) [21]] [4])
.ret))
def IN:AFun:=⟨2,[.t 4],UY,false,false⟩
def uP (C:Hd)(gl:GL)(e:En)(h:aA)(x:Esc)(K:KT):Sf C gl UY e h x K:=⟨_,by simp only[UY,↓wZ,AO.still];rfl⟩
theorem zcF {C gl v0 v1 h x K}:NW C gl IN.body ⟨enter [v0,v1],h,x⟩ K=(uP C gl [(0,v0),(1,v1)] h x K).1:=(uP C gl [(0,v0),(1,v1)] h x K).2
def FK:ACode:=.pr [3,8,9,10] (.seq (rg [bN 11 .lss 10 9] [3,8,9,10,11])
(.seq (.cond 11 .skip
(.exit 0))
(.seq (.block 1 (.seq (rg [iA 12 (some 8) 8 10,
lD 13 (some 8) 12,
uO 5 (.alloc [.p (.str []),.p (.int .i64 0),.p (.int .i64 0),.p (.int .i64 0),.p (.str []),.p (.str []),.p (.str []),.p (.int .i64 0)]),
wO (.store (some 8) 5 13)] [3,5,8,9,10])
(.seq (rg [fA 14 0 none 5,
lD 15 none 14,
fA 16 1 none 5,
lD 17 none 16,
uO 18 (.build [.p (.str []),.p (.int .i64 0)] [(0,1,15),(1,1,17)]),
uO 6 (.alloc [.p (.str []),.p (.int .i64 0)]),
wO (.store (some 2) 6 18)] [3,6,8,9,10])
(.seq (.seq (rg [mV 19 3,
lD 20 (some 2) 6,
uO 21 (.look ((some 2),[2,0]) false (AB false) 19 20)] [3,6,8,9,10,21])
(.cond 21 (.seq (rg [mV 2 cT] [2])
.ret)
.skip))
(rg [mV 22 3,
lD 23 (some 2) 6,
wO (.mupd ((some 2),[2,0]) 22 23 cT)] [3,8,9,10])))))
(rg [bN 24 .add 10 (cI 1),
mV 10 24] [3,8,9,10]))))
def oW (C:Hd)(gl:GL)(e:En)(h:aA)(x:Esc)(K:KT):Sf C gl FK e h x K:=⟨_,by simp only[FK,↓wZ,AO.still];rfl⟩
theorem zdm {C gl e h x K}:NW C gl FK ⟨e,h,x⟩ K=(oW C gl e h x K).1:=(oW C gl e h x K).2
theorem zf9 {C gl e h x K}:NW C gl (.loop (.scope FK)) ⟨e,h,x⟩ K=MA C gl (.scope FK) K [(3,eA e 3),(8,eA e 8),(9,eA e 9),(10,eA e 10)] h x:=MD
def DR:ACode:=.pr [] (.seq (rg [mV 2 cF] [2])
.ret)
def pW (C:Hd)(gl:GL)(e:En)(h:aA)(x:Esc)(K:KT):Sf C gl DR e h x K:=⟨_,by simp only[DR,↓wZ,AO.still];rfl⟩
theorem zdn {C gl e h x K}:NW C gl DR ⟨e,h,x⟩ K=(pW C gl e h x K).1:=(pW C gl e h x K).2
def hZ:ACode:=(.seq (rg [mV 2 cF] [0])
(.seq (rg [uO 7 (.mkmap),
mV 3 7] [0,3])
(.seq (.seq (rg [mV 8 0,
lN 9 8,
mV 10 (cI 0)] [3,8,9,10])
(.block 0 (.loop (.scope FK))))
DR)))
def TN:AFun:=⟨1,[.t 2],hZ,false,false⟩
def BP (C:Hd)(gl:GL)(e:En)(h:aA)(x:Esc)(K:KT):Sf C gl hZ e h x K:=⟨_,by simp only[hZ,↓wZ,AO.still];rfl⟩
theorem zdl {C gl v0 h x K}:NW C gl TN.body ⟨enter [v0],h,x⟩ K=(BP C gl [(0,v0)] h x K).1:=(BP C gl [(0,v0)] h x K).2
def kZ:ACode:=(.seq (rg [mV 4 (cI 0)] [0,1])
(.seq (rg [mV 5 0,
mV 6 1,
cL 7 DL [5,6],
mV 4 7] [4])
.ret))
def VT:AFun:=⟨2,[.t 4],kZ,false,false⟩
def EP (C:Hd)(gl:GL)(e:En)(h:aA)(x:Esc)(K:KT):Sf C gl kZ e h x K:=⟨_,by simp only[kZ,↓wZ,AO.still];rfl⟩
theorem zds {C gl v0 v1 h x K}:NW C gl VT.body ⟨enter [v0,v1],h,x⟩ K=(EP C gl [(0,v0),(1,v1)] h x K).1:=(EP C gl [(0,v0),(1,v1)] h x K).2
def sK:ACode:=.pr [0,1,2,3,8,9] (.seq (.seq (dr [dF (mV 18 9) [9],
dF (mV 19 1) [1],
dF (bN 20 .gtr 18 19) [18,19],
dF (mV 21 20) [20],
dF (gD 22 21 true (.mv 3)) [3,21],
dF (gD 23 21 true (.mv 0)) [0,21],
dF (gD 24 21 true (.mv 9)) [9,21],
dF (gD 25 21 true (.iaddr (some 4) 23 24)) [23,24,21],
dF (gD 26 21 true (.load (some 4) 25)) [25,21],
dF (gD 27 21 true (.mv 0)) [0,21],
dF (gD 28 21 true (.mv 9)) [9,21],
dF (gD 29 21 true (.bin .sub 28 (cI 1))) [28,21],
dF (gD 30 21 true (.iaddr (some 4) 27 29)) [27,29,21],
dF (gD 31 21 true (.load (some 4) 30)) [30,21],
dT (gD 32 21 true (.callv 22 [26,31])) [22,26,31,21],
dF (gD 33 21 true (.bin .lss 32 (cI 0))) [32,21],
dF (uO 34 (.pick 21 33 cF)) [21,33]] [0,1,2,3,8,9,34])
(.cond 34 .skip
(.exit 2)))
(.seq (.block 3 (dr [dF (mV 37 0) [0],
dF (mV 38 9) [9],
dF (mV 39 0) [0],
dF (mV 40 9) [9],
dF (bN 41 .sub 40 (cI 1)) [40],
dF (mV 42 0) [0],
dF (mV 43 9) [9],
dF (bN 44 .sub 43 (cI 1)) [43],
dF (iA 45 (some 4) 42 44) [42,44],
dF (lD 46 (some 4) 45) [45],
dF (mV 47 0) [0],
dF (mV 48 9) [9],
dF (iA 49 (some 4) 47 48) [47,48],
dF (lD 50 (some 4) 49) [49],
dF (iA 51 (some 4) 37 38) [37,38],
dT (wO (.store (some 4) 51 46)) [51,46],
dF (iA 52 (some 4) 39 41) [39,41],
dT (wO (.store (some 4) 52 50)) [52,50]] [0,1,2,3,8,9]))
(rg [mV 35 9,
bN 36 .sub 35 (cI 1),
mV 9 36] [0,1,2,3,8,9])))
def DV (C:Hd)(gl:GL)(e:En)(h:aA)(x:Esc)(K:KT):Sf C gl sK e h x K:=⟨_,by simp only[sK,↓wZ,AO.still];rfl⟩
theorem zct {C gl e h x K}:NW C gl sK ⟨e,h,x⟩ K=(DV C gl e h x K).1:=(DV C gl e h x K).2
theorem zfx {C gl e h x K}:NW C gl (.loop sK) ⟨e,h,x⟩ K=MA C gl sK K [(0,eA e 0),(1,eA e 1),(2,eA e 2),(3,eA e 3),(8,eA e 8),(9,eA e 9)] h x:=FB
def eR:ACode:=.pr [0,1,2,3,8] (rg [mV 15 8,
bN 16 .add 15 (cI 1),
mV 8 16] [0,1,2,3,8])
def EV (C:Hd)(gl:GL)(e:En)(h:aA)(x:Esc)(K:KT):Sf C gl eR e h x K:=⟨_,by simp only[eR,↓wZ,AO.still];rfl⟩
theorem zcu {C gl e h x K}:NW C gl eR ⟨e,h,x⟩ K=(EV C gl e h x K).1:=(EV C gl e h x K).2
def tK:ACode:=.pr [0,1,2,3,8] (.seq (.seq (rg [mV 12 8,
mV 13 2,
bN 14 .lss 12 13] [0,1,2,3,8,14])
(.cond 14 .skip
(.exit 0)))
(.seq (.block 1 (.seq (rg [mV 17 8,
mV 9 17] [0,1,2,3,8,9])
(.block 2 (.loop sK))))
eR))
def FV (C:Hd)(gl:GL)(e:En)(h:aA)(x:Esc)(K:KT):Sf C gl tK e h x K:=⟨_,by simp only[tK,↓wZ,AO.still];rfl⟩
theorem zcv {C gl e h x K}:NW C gl tK ⟨e,h,x⟩ K=(FV C gl e h x K).1:=(FV C gl e h x K).2
theorem zfy {C gl e h x K}:NW C gl (.loop tK) ⟨e,h,x⟩ K=MA C gl tK K [(0,eA e 0),(1,eA e 1),(2,eA e 2),(3,eA e 3),(8,eA e 8)] h x:=FB
def NY:ACode:=(.seq (rg [mV 10 1,
bN 11 .add 10 (cI 1),
mV 8 11] [0,1,2,3,8])
(.block 0 (.loop tK)))
def OT:AFun:=⟨4,[],NY,true,false⟩
def rP (C:Hd)(gl:GL)(e:En)(h:aA)(x:Esc)(K:KT):Sf C gl NY e h x K:=⟨_,by simp only[NY,↓wZ,AO.still];rfl⟩
theorem zcs {C gl v0 v1 v2 v3 h x K}:NW C gl OT.body ⟨enter [v0,v1,v2,v3],h,x⟩ K=(rP C gl [(0,v0),(1,v1),(2,v2),(3,v3)] h x K).1:=(rP C gl [(0,v0),(1,v1),(2,v2),(3,v3)] h x K).2
def YY:ACode:=(.seq (rg [mV 4 (cI 0)] [0,1])
(.seq (rg [mV 5 0,
uO 6 (.nilchk 5),
fA 7 0 (some 2) 6,
fA 8 0 none 7,
lD 9 none 8,
mV 10 1,
cL 11 RH [9,10],
mV 4 11] [4])
.ret))
def MN:AFun:=⟨2,[.t 4],YY,false,false⟩
def xP (C:Hd)(gl:GL)(e:En)(h:aA)(x:Esc)(K:KT):Sf C gl YY e h x K:=⟨_,by simp only[YY,↓wZ,AO.still];rfl⟩
theorem zcM {C gl v0 v1 h x K}:NW C gl MN.body ⟨enter [v0,v1],h,x⟩ K=(xP C gl [(0,v0),(1,v1)] h x K).1:=(xP C gl [(0,v0),(1,v1)] h x K).2
def bK:ACode:=.pr [0,1,11,12,13] (.seq (rg [bN 14 .lss 13 12] [0,1,11,12,13,14])
(.seq (.cond 14 .skip
(.exit 0))
(.seq (.block 1 (.seq (rg [mV 15 13,
iA 16 (some 4) 11 13,
lD 17 (some 4) 16,
uO 6 (.alloc [.p (.str []),.p (.int .i64 0),.p (.str []),.sl0 none]),
mV 5 15,
wO (.store (some 4) 6 17)] [0,1,5,6,11,12,13])
(.seq (.seq (rg [mV 18 0,
lD 19 (some 4) 6,
cL 20 mJ [18,19],
mV 7 20] [0,1,5,6,7,11,12,13])
(.seq (rg [mV 21 7,
bN 22 .neq 21 (cI 0)] [0,1,5,6,7,11,12,13,22])
(.cond 22 (.seq (rg [mV 23 7,
mV 4 23] [4])
.ret)
.skip)))
(.seq (dr [dF (mV 24 5) [5],
dF (bN 25 .gtr 24 (cI 0)) [24],
dF (mV 26 25) [25],
dF (gD 27 26 true (.load (some 4) 6)) [6,26],
dF (gD 28 26 true (.mv 1)) [1,26],
dF (gD 29 26 true (.mv 5)) [5,26],
dF (gD 30 26 true (.bin .sub 29 (cI 1))) [29,26],
dF (gD 31 26 true (.iaddr (some 4) 28 30)) [28,30,26],
dF (gD 32 26 true (.load (some 4) 31)) [31,26],
dT (gD 33 26 true (.call KL [27,32])) [27,32,26],
dF (gD 34 26 true (.bin .leq 33 (cI 0))) [33,26],
dF (uO 35 (.pick 26 34 cF)) [26,34]] [0,1,11,12,13,35])
(.cond 35 (.seq (rg [mV 4 (cI 7)] [4])
.ret)
.skip)))))
(rg [bN 36 .add 13 (cI 1),
mV 13 36] [0,1,11,12,13]))))
def NU (C:Hd)(gl:GL)(e:En)(h:aA)(x:Esc)(K:KT):Sf C gl bK e h x K:=⟨_,by simp only[bK,↓wZ,AO.still];rfl⟩
theorem zaX {C gl e h x K}:NW C gl bK ⟨e,h,x⟩ K=(NU C gl e h x K).1:=(NU C gl e h x K).2
theorem zfi {C gl e h x K}:NW C gl (.loop (.scope bK)) ⟨e,h,x⟩ K=MA C gl (.scope bK) K [(0,eA e 0),(1,eA e 1),(11,eA e 11),(12,eA e 12),(13,eA e 13)] h x:=MD
def FQ:ACode:=.pr [] (.seq (rg [mV 4 (cI 0)] [4])
.ret)
def OU (C:Hd)(gl:GL)(e:En)(h:aA)(x:Esc)(K:KT):Sf C gl FQ e h x K:=⟨_,by simp only[FQ,↓wZ,AO.still];rfl⟩
theorem zaY {C gl e h x K}:NW C gl FQ ⟨e,h,x⟩ K=(OU C gl e h x K).1:=(OU C gl e h x K).2
def WX:ACode:=(.seq (rg [mV 4 (cI 0)] [0,1])
(.seq (.seq (rg [mV 8 1,
lN 9 8,
bN 10 .gtr 9 (cI 5000)] [0,1,10])
(.cond 10 (.seq (rg [mV 4 (cI 2)] [4])
.ret)
.skip))
(.seq (.seq (rg [mV 11 1,
lN 12 11,
mV 13 (cI 0)] [0,1,11,12,13])
(.block 0 (.loop (.scope bK))))
FQ)))
def ZS:AFun:=⟨2,[.t 4],WX,false,false⟩
def nL (C:Hd)(gl:GL)(e:En)(h:aA)(x:Esc)(K:KT):Sf C gl WX e h x K:=⟨_,by simp only[WX,↓wZ,AO.still];rfl⟩
theorem zaW {C gl v0 v1 h x K}:NW C gl ZS.body ⟨enter [v0,v1],h,x⟩ K=(nL C gl [(0,v0),(1,v1)] h x K).1:=(nL C gl [(0,v0),(1,v1)] h x K).2
def fR:ACode:=.pr [0,1,2,3,4,10,11,12,13] (.seq (.seq (dr [dF (mV 81 1) [1],
dF (bN 82 .gtr 81 (cI 0)) [81],
dF (mV 83 82) [82],
dF (gD 84 83 true (.mv 4)) [4,83],
dF (gD 85 83 true (.mv 0)) [0,83],
dF (gD 86 83 true (.mv 1)) [1,83],
dF (gD 87 83 true (.bin .sub 86 (cI 1))) [86,83],
dF (gD 88 83 true (.iaddr (some 4) 85 87)) [85,87,83],
dF (gD 89 83 true (.load (some 4) 88)) [88,83],
dF (gD 90 83 true (.mv 0)) [0,83],
dF (gD 91 83 true (.mv 13)) [13,83],
dF (gD 92 83 true (.iaddr (some 4) 90 91)) [90,91,83],
dF (gD 93 83 true (.load (some 4) 92)) [92,83],
dT (gD 94 83 true (.callv 84 [89,93])) [84,89,93,83],
dF (gD 95 83 true (.bin .lss 94 (cI 0))) [94,83],
dF (gD 96 83 true (.un .not 95)) [95,83],
dF (uO 97 (.pick 83 96 cF)) [83,96]] [0,1,2,3,4,10,11,12,13,97])
(.cond 97 (.seq (rg [mV 98 0,
mV 99 1,
mV 100 2,
mV 101 13,
mV 102 4,
cL 103 zdM [98,99,100,101,102],
mV 15 103] [0,2,3,4,10,11,15])
(.seq (rg [mV 104 15,
mV 1 104] [0,1,2,3,4,10,11])
(.exit 1)))
.skip))
(.seq (rg [mV 106 0,
mV 107 1,
mV 108 2,
mV 109 13,
mV 110 4,
cL 111 zdL [106,107,108,109,110],
mV 105 111,
eX 112 105 0,
eX 113 105 1,
mV 16 112,
mV 17 113] [0,1,2,3,4,12,16,17])
(.seq (rg [mV 114 17,
mV 11 114] [0,1,2,3,4,11,12,16])
(.seq (rg [mV 115 16,
mV 116 1,
bN 117 .sub 115 116,
mV 118 2,
mV 119 16,
bN 120 .sub 118 119,
mV 18 117,
mV 19 120] [0,1,2,3,4,11,12,16,18,19])
(.seq (rg [mV 121 12,
bN 122 .quo 121 (cI 8),
mV 20 122] [0,1,2,3,4,11,16,18,19,20])
(.seq (rg [mV 123 18,
mV 124 19,
bN 125 .lss 123 124] [0,1,2,3,4,11,16,18,19,20,125])
(.cond 125 (.seq (rg [mV 126 18,
mV 127 20,
bN 128 .geq 126 127,
mV 10 128] [0,1,2,3,4,10,11,16])
(.seq (rg [mV 129 0,
mV 130 1,
mV 131 16,
mV 132 3,
mV 133 4,
cL 134 TH [129,130,131,132,133]] [0,2,3,4,10,11,16])
(rg [mV 135 16,
bN 136 .add 135 (cI 1),
mV 1 136] [0,1,2,3,4,10,11])))
(.seq (rg [mV 137 19,
mV 138 20,
bN 139 .geq 137 138,
mV 10 139] [0,1,2,3,4,10,11,16])
(.seq (rg [mV 140 0,
mV 141 16,
bN 142 .add 141 (cI 1),
mV 143 2,
mV 144 3,
mV 145 4,
cL 146 TH [140,142,143,144,145]] [0,1,3,4,10,11,16])
(rg [mV 147 16,
mV 2 147] [0,1,2,3,4,10,11]))))))))))
def GV (C:Hd)(gl:GL)(e:En)(h:aA)(x:Esc)(K:KT):Sf C gl fR e h x K:=⟨_,by simp only[fR,↓wZ,AO.still];rfl⟩
theorem zcx {C gl e h x K}:NW C gl fR ⟨e,h,x⟩ K=(GV C gl e h x K).1:=(GV C gl e h x K).2
def gR:ACode:=.pr [0,1,2,3,4,10,11,12,13,14] (.seq (.seq (rg [mV 68 10,
mV 69 68,
gD 70 69 true (.mv 11),
uO 71 (.pick 69 70 cF),
mV 72 71,
gD 73 72 true (.mv 14),
gD 74 72 true (.bin .eql 73 (cI 1)),
uO 75 (.pick 72 74 cF)] [0,1,2,3,4,10,11,12,13,75])
(.cond 75 (.seq (rg [mV 76 0,
mV 77 1,
mV 78 2,
mV 79 4,
cL 80 zdK [76,77,78,79]] [0,1,2,3,4,10,11,12,13,80])
(.cond 80 .ret
.skip))
.skip))
fR)
def HV (C:Hd)(gl:GL)(e:En)(h:aA)(x:Esc)(K:KT):Sf C gl gR e h x K:=⟨_,by simp only[gR,↓wZ,AO.still];rfl⟩
theorem zcy {C gl e h x K}:NW C gl gR ⟨e,h,x⟩ K=(HV C gl e h x K).1:=(HV C gl e h x K).2
def iR:ACode:=.pr [0,1,2,3,4,10,11,12] (.seq (rg [mV 48 0,
mV 49 1,
mV 50 2,
mV 51 4,
cL 52 zdI [48,49,50,51],
mV 47 52,
eX 53 47 0,
eX 54 47 1,
mV 13 53,
mV 14 54] [0,1,2,3,4,10,11,12,13,14])
(.seq (.seq (rg [mV 55 14,
bN 56 .eql 55 (cI 2)] [0,1,2,3,4,10,11,12,13,14,56])
(.cond 56 (.seq (rg [mV 57 0,
mV 58 1,
mV 59 2,
mV 60 4,
cL 61 zdN [57,58,59,60]] [0,1,2,3,4,10,11,12,13])
(.seq (rg [mV 62 2,
bN 63 .sub 62 (cI 1),
mV 64 13,
mV 65 1,
bN 66 .sub 64 65,
bN 67 .sub 63 66,
mV 13 67] [0,1,2,3,4,10,11,12,13])
(rg [mV 14 (cI 1)] [0,1,2,3,4,10,11,12,13,14])))
.skip))
gR))
def IV (C:Hd)(gl:GL)(e:En)(h:aA)(x:Esc)(K:KT):Sf C gl iR e h x K:=⟨_,by simp only[iR,↓wZ,AO.still];rfl⟩
theorem zcz {C gl e h x K}:NW C gl iR ⟨e,h,x⟩ K=(IV C gl e h x K).1:=(IV C gl e h x K).2
def uK:ACode:=.pr [0,1,2,3,4,10,11] (.block 1 (.seq (rg [mV 21 2,
mV 22 1,
bN 23 .sub 21 22,
mV 12 23] [0,1,2,3,4,10,11,12])
(.seq (.seq (rg [mV 24 12,
bN 25 .leq 24 (cI 12)] [0,1,2,3,4,10,11,12,25])
(.cond 25 (.seq (rg [mV 26 0,
mV 27 1,
mV 28 2,
mV 29 4,
cL 30 SH [26,27,28,29]] [])
.ret)
.skip))
(.seq (.seq (rg [mV 31 3,
bN 32 .eql 31 (cI 0)] [0,1,2,3,4,10,11,12,32])
(.cond 32 (.seq (rg [mV 33 0,
mV 34 1,
mV 35 2,
mV 36 4,
cL 37 zdJ [33,34,35,36]] [])
.ret)
.skip))
(.seq (.seq (rg [mV 38 10,
uO 39 (.un .not 38)] [0,1,2,3,4,10,11,12,39])
(.cond 39 (.seq (rg [mV 40 0,
mV 41 1,
mV 42 2,
mV 43 4,
cL 44 zdH [40,41,42,43]] [0,1,2,3,4,10,11,12])
(rg [mV 45 3,
bN 46 .sub 45 (cI 1),
mV 3 46] [0,1,2,3,4,10,11,12]))
.skip))
iR)))))
def JV (C:Hd)(gl:GL)(e:En)(h:aA)(x:Esc)(K:KT):Sf C gl uK e h x K:=⟨_,by simp only[uK,↓wZ,AO.still];rfl⟩
theorem zc0 {C gl e h x K}:NW C gl uK ⟨e,h,x⟩ K=(JV C gl e h x K).1:=(JV C gl e h x K).2
theorem zfz {C gl e h x K}:NW C gl (.loop uK) ⟨e,h,x⟩ K=MA C gl uK K [(0,eA e 0),(1,eA e 1),(2,eA e 2),(3,eA e 3),(4,eA e 4),(10,eA e 10),(11,eA e 11)] h x:=FB
def OY:ACode:=(.seq (rg [mV 10 cT] [0,1,2,3,4,10])
(.seq (rg [mV 11 cT] [0,1,2,3,4,10,11])
(.block 0 (.loop uK))))
def PT:AFun:=⟨5,[],OY,true,false⟩
def sP (C:Hd)(gl:GL)(e:En)(h:aA)(x:Esc)(K:KT):Sf C gl OY e h x K:=⟨_,by simp only[OY,↓wZ,AO.still];rfl⟩
theorem zcw {C gl v0 v1 v2 v3 v4 h x K}:NW C gl PT.body ⟨enter [v0,v1,v2,v3,v4],h,x⟩ K=(sP C gl [(0,v0),(1,v1),(2,v2),(3,v3),(4,v4)] h x K).1:=(sP C gl [(0,v0),(1,v1),(2,v2),(3,v3),(4,v4)] h x K).2
def YX:ACode:=(.seq (rg [mV 2 (cI 0)] [0])
(.seq (.cond cF (.seq (rg [mV 3 0,
uO 4 (.conv (.i .u32) 3),
cL 5 zdG [4],
mV 2 5] [2])
.ret)
.skip)
(.seq (rg [mV 6 0,
cL 7 RL [6],
mV 2 7] [2])
.ret)))
def bT:AFun:=⟨1,[.t 2],YX,false,false⟩
def MO (C:Hd)(gl:GL)(e:En)(h:aA)(x:Esc)(K:KT):Sf C gl YX e h x K:=⟨_,by simp only[YX,↓wZ,AO.still];rfl⟩
theorem zbb {C gl v0 h x K}:NW C gl bT.body ⟨enter [v0],h,x⟩ K=(MO C gl [(0,v0)] h x K).1:=(MO C gl [(0,v0)] h x K).2
def DX:ACode:=(.seq (rg [mV 4 (cI 0)] [0,1])
(.seq (rg [mV 5 0,
mV 6 1,
cL 7 gG [5,6],
mV 4 7] [4])
.ret))
def IS:AFun:=⟨2,[.t 4],DX,false,false⟩
def BO (C:Hd)(gl:GL)(e:En)(h:aA)(x:Esc)(K:KT):Sf C gl DX e h x K:=⟨_,by simp only[DX,↓wZ,AO.still];rfl⟩
theorem za3 {C gl v0 v1 h x K}:NW C gl IS.body ⟨enter [v0,v1],h,x⟩ K=(BO C gl [(0,v0),(1,v1)] h x K).1:=(BO C gl [(0,v0),(1,v1)] h x K).2
def LX:ACode:=(.seq (rg [uO 2 (.box 0),
uO 3 (.box 1),
mV 4 (cI 0)] [2,3])
(.seq (dr [dF (fA 5 1 none 2) [2],
dF (lD 6 none 5) [5],
dF (fA 7 1 none 3) [3],
dF (lD 8 none 7) [7],
dT (cL 9 kG [6,8]) [6,8],
dF (fA 10 0 none 2) [2],
dA (lD 11 none 10) [10] false [4] [],
dF (fA 12 0 none 3) [3],
dA (lD 13 none 12) [12] false [4] [],
dT (cL 14 GF [11,13]) [11,13],
dF (uO 15 (.bsl false none 2 (.int .i64 0) [(0,9),(1,14)])) [9,14],
dT (cL 16 QG [15]) [15],
dF (mV 4 16) [16]] [4])
.ret))
def PS:AFun:=⟨2,[.t 4],LX,false,false⟩
def DO (C:Hd)(gl:GL)(e:En)(h:aA)(x:Esc)(K:KT):Sf C gl LX e h x K:=⟨_,by simp only[LX,↓wZ,AO.still];rfl⟩
theorem zaG {C gl v0 v1 h x K}:NW C gl PS.body ⟨enter [v0,v1],h,x⟩ K=(DO C gl [(0,v0),(1,v1)] h x K).1:=(DO C gl [(0,v0),(1,v1)] h x K).2
def HQ:ACode:=.pr [0,2] (.seq (rg [mV 19 2,
mV 20 0,
uO 21 (.conv (.i .u8) 20),
uO 22 (.idxs (cS [0,1,2,2,3,3,3,3,4,4,4,4,4,4,4,4,5,5,5,5,5,5,5,5,5,5,5,5,5,5,5,5,6,6,6,6,6,6,6,6,6,6,6,6,6,6,6,6,6,6,6,6,6,6,6,6,6,6,6,6,6,6,6,6,7,7,7,7,7,7,7,7,7,7,7,7,7,7,7,7,7,7,7,7,7,7,7,7,7,7,7,7,7,7,7,7,7,7,7,7,7,7,7,7,7,7,7,7,7,7,7,7,7,7,7,7,7,7,7,7,7,7,7,7,7,7,7,7,8,8,8,8,8,8,8,8,8,8,8,8,8,8,8,8,8,8,8,8,8,8,8,8,8,8,8,8,8,8,8,8,8,8,8,8,8,8,8,8,8,8,8,8,8,8,8,8,8,8,8,8,8,8,8,8,8,8,8,8,8,8,8,8,8,8,8,8,8,8,8,8,8,8,8,8,8,8,8,8,8,8,8,8,8,8,8,8,8,8,8,8,8,8,8,8,8,8,8,8,8,8,8,8,8,8,8,8,8,8,8,8,8,8,8,8,8,8,8,8,8,8,8,8,8,8,8,8]) 21),
uO 23 (.conv (.i .i64) 22),
bN 24 .add 19 23,
mV 2 24] [2])
.ret)
def QU (C:Hd)(gl:GL)(e:En)(h:aA)(x:Esc)(K:KT):Sf C gl HQ e h x K:=⟨_,by simp only[HQ,↓wZ,AO.still];rfl⟩
theorem zbd {C gl e h x K}:NW C gl HQ ⟨e,h,x⟩ K=(QU C gl e h x K).1:=(QU C gl e h x K).2
def IQ:ACode:=.pr [0,2] (.seq (.seq (rg [mV 13 0,
bN 14 .geq 13 (.c (.p (.int .u64 256)))] [0,2,14])
(.cond 14 (.seq (rg [mV 15 0,
bN 16 .shr 15 (.c (.p (.int .u64 8))),
mV 0 16] [0,2])
(rg [mV 17 2,
bN 18 .add 17 (cI 8),
mV 2 18] [0,2]))
.skip))
HQ)
def RU (C:Hd)(gl:GL)(e:En)(h:aA)(x:Esc)(K:KT):Sf C gl IQ e h x K:=⟨_,by simp only[IQ,↓wZ,AO.still];rfl⟩
theorem zbe {C gl e h x K}:NW C gl IQ ⟨e,h,x⟩ K=(RU C gl e h x K).1:=(RU C gl e h x K).2
def JQ:ACode:=.pr [0,2] (.seq (.seq (rg [mV 7 0,
bN 8 .geq 7 (.c (.p (.int .u64 65536)))] [0,2,8])
(.cond 8 (.seq (rg [mV 9 0,
bN 10 .shr 9 (.c (.p (.int .u64 16))),
mV 0 10] [0,2])
(rg [mV 11 2,
bN 12 .add 11 (cI 16),
mV 2 12] [0,2]))
.skip))
IQ)
def SU (C:Hd)(gl:GL)(e:En)(h:aA)(x:Esc)(K:KT):Sf C gl JQ e h x K:=⟨_,by simp only[JQ,↓wZ,AO.still];rfl⟩
theorem zbf {C gl e h x K}:NW C gl JQ ⟨e,h,x⟩ K=(SU C gl e h x K).1:=(SU C gl e h x K).2
def ZX:ACode:=(.seq (rg [mV 2 (cI 0)] [0,2])
(.seq (.seq (rg [mV 3 0,
bN 4 .geq 3 (.c (.p (.int .u64 4294967296)))] [0,2,4])
(.cond 4 (.seq (rg [mV 5 0,
bN 6 .shr 5 (.c (.p (.int .u64 32))),
mV 0 6] [0])
(rg [mV 2 (cI 32)] [0,2]))
.skip))
JQ))
def eT:AFun:=⟨1,[.t 2],ZX,false,false⟩
def NO (C:Hd)(gl:GL)(e:En)(h:aA)(x:Esc)(K:KT):Sf C gl ZX e h x K:=⟨_,by simp only[ZX,↓wZ,AO.still];rfl⟩
theorem zbc {C gl v0 h x K}:NW C gl eT.body ⟨enter [v0],h,x⟩ K=(NO C gl [(0,v0)] h x K).1:=(NO C gl [(0,v0)] h x K).2
def zg3:ACode:=(.seq (rg [mV 2 cF] [0])
(.seq (rg [mV 3 0,
cL 4 FW [3,(cS [48,49])],
bN 5 .eql 4 (cS []),
mV 2 5] [2])
.ret))
def z6E:AFun:=⟨1,[.t 2],zg3,false,false⟩
def zg5:ACode:=.pr [0,3,27,28,29] (.seq (rg [bN 30 .lss 29 28] [0,3,27,28,29,30])
(.seq (.cond 30 .skip
(.exit 1))
(.seq (.block 2 (.seq (rg [iA 31 none 27 29,
lD 32 none 31,
mV 6 32] [0,3,6,27,28,29])
(.seq (rg [mV 33 6,
mV 34 0,
bN 35 .sub 34 (cI 1),
cL 36 OB [33,(cI 0),35]] [0,3,27,28,29,36])
(.cond 36 (.seq (rg [mV 4 (cI 1)] [4])
.ret)
.skip))))
(rg [bN 37 .add 29 (cI 1),
mV 29 37] [0,3,27,28,29]))))
def zg6:ACode:=.pr [3,7,8] (.seq (.seq (rg [mV 53 8,
mV 54 7,
lN 55 54,
bN 56 .lss 53 55] [3,7,8,56])
(.cond 56 .skip
(.exit 3)))
(.seq (.block 4 (.seq (dr [dF (mV 59 7) [7],
dF (mV 60 8) [8],
dF (iA 61 none 59 60) [59,60],
dF (lD 62 none 61) [61],
dF (mV 63 7) [7],
dF (mV 64 8) [8],
dF (bN 65 .sub 64 (cI 1)) [64],
dF (iA 66 none 63 65) [63,65],
dF (lD 67 none 66) [66],
dF (bN 68 .leq 62 67) [62,67]] [3,7,8,68])
(.cond 68 (.seq (rg [mV 4 (cI 7)] [4])
.ret)
.skip)))
(rg [mV 57 8,
bN 58 .add 57 (cI 1),
mV 8 58] [3,7,8])))
def zg7:ACode:=.pr [3,7] (.seq (.seq (rg [fA 69 0 none 3,
lD 70 none 69,
bN 71 .eql 70 (cI 5),
mV 72 71,
gD 73 72 true (.mv 7),
gD 74 72 true (.faddr 1 none 3),
gD 75 72 true (.load none 74),
gD 76 72 true (.iaddr none 75 (cI 0)),
gD 77 72 true (.load none 76),
gD 78 72 true (.call z2B [73,77]),
uO 79 (.pick 72 78 cF)] [79])
(.cond 79 (.seq (rg [mV 4 (cI 6)] [4])
.ret)
.skip))
(.seq (rg [mV 4 (cI 0)] [4])
.ret))
def zg8:ACode:=.pr [3,7] (.seq (.seq (rg [mV 8 (cI 1)] [3,7,8])
(.block 3 (.loop zg6)))
zg7)
def zg9:ACode:=.pr [3] (.seq (.seq (dr [dF (fA 38 0 none 3) [3],
dF (lD 39 none 38) [38],
dT (cL 40 z22 [39]) [39],
dF (fA 41 1 none 3) [3],
dA (lD 42 none 41) [41] false [2] [],
dF (lN 43 42) [42],
dF (bN 44 .gtr 43 (cI 1)) [43],
dF (uO 45 (.eqa [] true 40 44)) [40,44]] [3,45])
(.cond 45 (.seq (rg [mV 4 (cI 3)] [4])
.ret)
.skip))
(.seq (rg [fA 46 1 none 3,
lD 47 none 46,
mV 7 47] [3,7])
(.seq (.seq (rg [fA 48 0 none 3,
lD 49 none 48,
bN 50 .eql 49 (cI 5)] [3,7,50])
(.cond 50 (rg [mV 51 7,
uO 52 (.slice none 51 (some (cI 1)) none none),
mV 7 52] [3,7])
.skip))
zg8)))
def zg4:ACode:=(.seq (rg [uO 3 (.box 1),
mV 4 (cI 0)] [0,3])
(.seq (.block 0 (.seq (rg [mV 10 0,
cL 11 OB [10,(cI 1),(cI 100)],
mV 9 11] [0,3,9])
(.cond 9 (.seq (rg [mV 4 (cI 1)] [4])
.ret)
(.seq (rg [fA 13 0 none 3,
lD 14 none 13,
cL 15 OB [14,(cI 1),(cI 6)],
mV 12 15] [0,3,12])
(.cond 12 (.seq (rg [mV 4 (cI 4)] [4])
.ret)
(.seq (rg [fA 17 1 none 3,
lD 18 none 17,
lN 19 18,
bN 20 .eql 19 (cI 0),
mV 16 20] [0,3,16])
(.cond 16 (.seq (rg [mV 4 (cI 8)] [4])
.ret)
(.seq (rg [fA 22 1 none 3,
lD 23 none 22,
lN 24 23,
bN 25 .gtr 24 (cI 6),
mV 21 25] [0,3,21])
(.cond 21 (.seq (rg [mV 4 (cI 2)] [4])
.ret)
.skip)))))))))
(.seq (.seq (rg [fA 26 1 none 3,
lD 27 none 26,
lN 28 27,
mV 29 (cI 0)] [0,3,27,28,29])
(.block 1 (.loop zg5)))
zg9)))
def z6F:AFun:=⟨2,[.t 4],zg4,false,false⟩
def zgB:ACode:=.pr [0,13,14,15] (.seq (rg [bN 16 .lss 15 14] [0,13,14,15,16])
(.seq (.cond 16 .skip
(.exit 1))
(.seq (.block 2 (.seq (rg [iA 17 none 13 15,
lD 18 none 17,
mV 4 18] [0,4,13,14,15])
(.block 3 (.seq (rg [mV 20 4,
cL 21 eJ [20],
uO 22 (.un .not 21),
mV 19 22] [0,4,13,14,15,19])
(.cond 19 (.seq (rg [mV 2 (cI 3)] [2])
.ret)
(.seq (rg [mV 24 4,
uO 25 (.lens 24),
bN 26 .gtr 25 (cI 64),
mV 23 26] [0,4,13,14,15,23])
(.cond 23 (.seq (rg [mV 2 (cI 2)] [2])
.ret)
(.seq (rg [mV 28 4,
uO 29 (.lens 28),
mV 30 0,
iA 31 none 30 (cI 0),
lD 32 none 31,
uO 33 (.lens 32),
bN 34 .neq 29 33,
mV 27 34] [0,13,14,15,27])
(.cond 27 (.seq (rg [mV 2 (cI 3)] [2])
.ret)
.skip)))))))))
(rg [bN 35 .add 15 (cI 1),
mV 15 35] [0,13,14,15]))))
def zgC:ACode:=.pr [] (.seq (rg [mV 2 (cI 0)] [2])
.ret)
def zgA:ACode:=(.seq (rg [mV 2 (cI 0)] [0])
(.seq (.block 0 (.seq (rg [mV 6 0,
lN 7 6,
bN 8 .eql 7 (cI 0),
mV 5 8] [0,5])
(.cond 5 (.seq (rg [mV 2 (cI 8)] [2])
.ret)
(.seq (rg [mV 10 0,
lN 11 10,
bN 12 .gtr 11 (cI 100),
mV 9 12] [0,9])
(.cond 9 (.seq (rg [mV 2 (cI 2)] [2])
.ret)
.skip)))))
(.seq (.seq (rg [mV 13 0,
lN 14 13,
mV 15 (cI 0)] [0,13,14,15])
(.block 1 (.loop zgB)))
zgC)))
def z6G:AFun:=⟨1,[.t 2],zgA,false,false⟩
def zgE:ACode:=.pr [0,7,18,19,20] (.seq (rg [bN 21 .lss 20 19] [0,7,18,19,20,21])
(.seq (.cond 21 .skip
(.exit 0))
(.seq (.block 1 (.seq (rg [iA 22 (some 2) 18 20,
lD 23 (some 2) 22,
uO 9 (.alloc [.p (.int .i64 0),.sl0 none]),
wO (.store (some 2) 9 23)] [0,7,9,18,19,20])
(dr [dF (mV 24 7) [7],
dF (lD 25 (some 2) 9) [9],
dF (mV 26 0) [0],
dF (iA 27 none 26 (cI 0)) [26],
dF (lD 28 none 27) [27],
dF (uO 29 (.lens 28)) [28],
dA (cL 30 z25 [29]) [29] true [] [1],
dT (cL 31 z26 [24,25,30]) [24,25,30]] [0,7,18,19,20])))
(rg [bN 32 .add 20 (cI 1),
mV 20 32] [0,7,18,19,20]))))
def zgF:ACode:=.pr [0,7] (.seq (rg [mV 33 7,
mV 34 0,
iA 35 none 34 (cI 0),
lD 36 none 35,
uO 37 (.lens 36),
cL 38 z24 [33,37],
mV 4 38,
mV 5 (cI 0)] [4,5])
.ret)
def zgD:ACode:=(.seq (rg [mV 4 (.c (.p (.sl none []))),
mV 5 (cI 0)] [0,1])
(.seq (.seq (rg [mV 10 0,
mV 11 1,
cL 12 z20 [10,11],
mV 6 12] [0,1,6])
(.seq (rg [mV 13 6,
bN 14 .neq 13 (cI 0)] [0,1,6,14])
(.cond 14 (.seq (rg [mV 15 6,
mV 4 (.c (.p (.sl none []))),
mV 5 15] [4,5])
.ret)
.skip)))
(.seq (rg [mV 16 0,
cL 17 z23 [16],
mV 7 17] [0,1,7])
(.seq (.seq (rg [mV 18 1,
lN 19 18,
mV 20 (cI 0)] [0,7,18,19,20])
(.block 0 (.loop (.scope zgE))))
zgF))))
def z6H:AFun:=⟨2,[.t 4,.t 5],zgD,false,false⟩
def zgG:ACode:=(.seq (rg [uO 3 (.box 1),
mV 4 (.c (.p (.sl none []))),
mV 5 (cI 0)] [0,3])
(.seq (rg [mV 6 0,
lD 7 (some 2) 3,
uO 8 (.bsl false (some 2) 1 (.agg [.int .i64 0,.sl none []]) [(0,7)]),
cL 9 z2y [6,8],
eX 10 9 0,
eX 11 9 1,
mV 4 10,
mV 5 11] [4,5])
.ret))
def z6I:AFun:=⟨2,[.t 4,.t 5],zgG,false,false⟩
end Go.Am
end
section
/- The functions asv abstract code,and asv formulas FE their values: printed by program out of the translation. -/
set_option linter.all false
set_option maxRecDepth 100000
namespace Go.Am
def zgI:ACode:=.pr [0,14,15,16] (.seq (rg [bN 17 .lss 16 15] [0,14,15,16,17])
(.seq (.cond 17 .skip
(.exit 0))
(.seq (.block 1 (.seq (rg [iA 18 (some 2) 14 16,
lD 19 (some 2) 18,
uO 7 (.alloc [.p (.int .i64 0),.sl0 none]),
wO (.store (some 2) 7 19)] [0,7,14,15,16])
(.seq (rg [mV 20 0,
lN 21 20,
lD 22 (some 2) 7,
cL 23 z2w [21,22],
mV 8 23] [0,8,14,15,16])
(.seq (rg [mV 24 8,
bN 25 .neq 24 (cI 0)] [0,8,14,15,16,25])
(.cond 25 (.seq (rg [mV 26 8,
mV 4 26] [4])
.ret)
.skip)))))
(rg [bN 27 .add 16 (cI 1),
mV 16 27] [0,14,15,16]))))
def zgJ:ACode:=.pr [] (.seq (rg [mV 4 (cI 0)] [4])
.ret)
def zgH:ACode:=(.seq (rg [mV 4 (cI 0)] [0,1])
(.seq (.seq (rg [mV 9 0,
cL 10 z2x [9],
mV 5 10] [0,1,5])
(.seq (rg [mV 11 5,
bN 12 .neq 11 (cI 0)] [0,1,5,12])
(.cond 12 (.seq (rg [mV 13 5,
mV 4 13] [4])
.ret)
.skip)))
(.seq (.seq (rg [mV 14 1,
lN 15 14,
mV 16 (cI 0)] [0,14,15,16])
(.block 0 (.loop (.scope zgI))))
zgJ)))
def z6J:AFun:=⟨2,[.t 4],zgH,false,false⟩
def zgK:ACode:=(.seq (rg [mV 2 cF] [0])
(.seq (rg [mV 3 0,
cL 4 OB [3,(cI 3),(cI 5)],
uO 5 (.un .not 4),
mV 2 5] [2])
.ret))
def z6K:AFun:=⟨1,[.t 2],zgK,false,false⟩
def zgM:ACode:=.pr [3,5,6,8,9,10,15,16] (.seq (rg [bN 17 .lss 16 15] [3,5,6,8,9,10,15,16,17])
(.seq (.cond 17 .skip
(.exit 2))
(.seq (.block 3 (.seq (rg [mV 18 16,
mV 7 18] [3,5,6,7,8,9,10,15,16])
(rg [mV 19 6,
mV 20 5,
mV 21 7,
uO 22 (.idxs 20 21),
bN 23 .sub 22 (.c (.p (.int .u8 48))),
uO 24 (.conv (.i .u64) 23),
mV 25 7,
bN 26 .shl 24 25,
bN 27 .or 19 26,
mV 6 27] [3,5,6,8,9,10,15,16])))
(rg [bN 28 .add 16 (cI 1),
mV 16 28] [3,5,6,8,9,10,15,16]))))
def zgN:ACode:=.pr [3,6,8,9,10] (rg [mV 29 3,
mV 30 6,
uO 31 (.bsl false none 1 (.int .u64 0) [(0,30)]),
uO 32 (.app none 29 31),
mV 3 32] [3,8,9,10])
def zgO:ACode:=.pr [3,8,9,10] (rg [bN 33 .add 10 (cI 1),
mV 10 33] [3,8,9,10])
def zgP:ACode:=.pr [3,8,9,10] (.seq (rg [bN 11 .lss 10 9] [3,8,9,10,11])
(.seq (.cond 11 .skip
(.exit 0))
(.seq (.block 1 (.seq (rg [iA 12 none 8 10,
lD 13 none 12,
mV 5 13] [3,5,8,9,10])
(.seq (rg [mV 6 (.c (.p (.int .u64 0)))] [3,5,6,8,9,10])
(.seq (.seq (rg [mV 14 5,
uO 15 (.lens 14),
mV 16 (cI 0)] [3,5,6,8,9,10,15,16])
(.block 2 (.loop zgM)))
zgN))))
zgO)))
def zgQ:ACode:=.pr [3] (.seq (rg [mV 34 3,
mV 2 34] [2])
.ret)
def zgL:ACode:=(.seq (rg [mV 2 (.c (.p (.sl none [])))] [0])
(.seq (rg [uO 3 (.new0 none)] [0,3])
(.seq (.seq (rg [mV 8 0,
lN 9 8,
mV 10 (cI 0)] [3,8,9,10])
(.block 0 (.loop (.scope zgP))))
zgQ)))
def z6L:AFun:=⟨1,[.t 2],zgL,false,true⟩
def zgS:ACode:=.pr [1,5,7,8,10,11,12,19,20] (.seq (rg [bN 21 .lss 20 19] [1,5,7,8,10,11,12,19,20,21])
(.seq (.cond 21 .skip
(.exit 2))
(.seq (.block 3 (.seq (rg [mV 22 20,
mV 9 22] [1,5,7,8,9,10,11,12,19,20])
(rg [mV 23 8,
mV 24 9,
mV 25 7,
mV 26 9,
bN 27 .shr 25 26,
bN 28 .and 27 (.c (.p (.int .u64 1))),
bN 29 .add (.c (.p (.int .u64 48))) 28,
uO 30 (.conv (.i .u8) 29),
iA 31 none 23 24,
wO (.store none 31 30)] [1,5,7,8,10,11,12,19,20])))
(rg [bN 32 .add 20 (cI 1),
mV 20 32] [1,5,7,8,10,11,12,19,20]))))
def zgT:ACode:=.pr [1,5,8,10,11,12] (rg [mV 33 5,
mV 34 8,
uO 35 (.conv .b2s 34),
uO 36 (.bsl false none 1 (.str []) [(0,35)]),
uO 37 (.app none 33 36),
mV 5 37] [1,5,10,11,12])
def zgU:ACode:=.pr [1,5,10,11,12] (rg [bN 38 .add 12 (cI 1),
mV 12 38] [1,5,10,11,12])
def zgV:ACode:=.pr [1,5,10,11,12] (.seq (rg [bN 13 .lss 12 11] [1,5,10,11,12,13])
(.seq (.cond 13 .skip
(.exit 0))
(.seq (.block 1 (.seq (rg [iA 14 none 10 12,
lD 15 none 14,
mV 7 15] [1,5,7,10,11,12])
(.seq (rg [mV 16 1,
uO 17 (.mksl none (.int .u8 0) 16 16),
mV 8 17] [1,5,7,8,10,11,12])
(.seq (.seq (rg [mV 18 8,
lN 19 18,
mV 20 (cI 0)] [1,5,7,8,10,11,12,19,20])
(.block 2 (.loop zgS)))
zgT))))
zgU)))
def zgW:ACode:=.pr [5] (.seq (rg [mV 39 5,
mV 4 39] [4])
.ret)
def zgR:ACode:=(.seq (rg [mV 4 (.c (.p (.sl none [])))] [0,1])
(.seq (rg [uO 5 (.new0 none)] [0,1,5])
(.seq (.seq (rg [mV 10 0,
lN 11 10,
mV 12 (cI 0)] [1,5,10,11,12])
(.block 0 (.loop (.scope zgV))))
zgW)))
def z6M:AFun:=⟨2,[.t 4],zgR,false,false⟩
def zgX:ACode:=(.seq (rg [mV 2 (.c (.p (.int .u64 0)))] [0])
(.seq (rg [mV 3 0,
bN 4 .shl (.c (.p (.int .u64 1))) 3,
bN 5 .sub 4 (.c (.p (.int .u64 1))),
mV 2 5] [2])
.ret))
def z6N:AFun:=⟨1,[.t 2],zgX,false,false⟩
def zgZ:ACode:=.pr [0,4,6,31,32,33] (.seq (rg [bN 34 .lss 33 32] [0,4,6,31,32,33,34])
(.seq (.cond 34 .skip
(.exit 1))
(.seq (.block 2 (.seq (rg [iA 35 none 31 33,
lD 36 none 35,
mV 8 36] [0,4,6,8,31,32,33])
(rg [mV 37 6,
mV 38 0,
mV 39 8,
iA 40 none 38 39,
lD 41 none 40,
bN 42 .and 37 41,
mV 6 42] [0,4,6,31,32,33])))
(rg [bN 43 .add 33 (cI 1),
mV 33 43] [0,4,6,31,32,33]))))
def zha:ACode:=.pr [0,4,6,47,48,49] (.seq (rg [bN 50 .lss 49 48] [0,4,6,47,48,49,50])
(.seq (.cond 50 .skip
(.exit 3))
(.seq (.block 4 (.seq (rg [iA 51 none 47 49,
lD 52 none 51,
mV 10 52] [0,4,6,10,47,48,49])
(rg [mV 53 6,
mV 54 0,
mV 55 10,
iA 56 none 54 55,
lD 57 none 56,
bN 58 .or 53 57,
mV 6 58] [0,4,6,47,48,49])))
(rg [bN 59 .add 49 (cI 1),
mV 49 59] [0,4,6,47,48,49]))))
def zhb:ACode:=.pr [0,2,4,6,21,24] (.cond 24 (rg [mV 27 2,
mV 6 27] [0,4,6])
(.seq (rg [bN 29 .eql 21 (cI 3),
mV 28 29] [0,4,6,21,28])
(.cond 28 (.seq (rg [fA 30 1 none 4,
lD 31 none 30,
lN 32 31,
mV 33 (cI 0)] [0,4,6,31,32,33])
(.block 1 (.loop zgZ)))
(.seq (rg [bN 45 .eql 21 (cI 4),
mV 44 45] [0,4,6,44])
(.cond 44 (.seq (rg [fA 46 1 none 4,
lD 47 none 46,
lN 48 47,
mV 49 (cI 0)] [0,4,6,47,48,49])
(.block 3 (.loop zha)))
.skip)))))
def zhc:ACode:=.pr [0,6,61,62,63] (.seq (rg [bN 64 .lss 63 62] [0,6,61,62,63,64])
(.seq (.cond 64 .skip
(.exit 5))
(.seq (.block 6 (.seq (rg [iA 65 none 61 63,
lD 66 none 65,
mV 12 66] [0,6,12,61,62,63])
(rg [mV 67 0,
mV 68 12,
mV 69 6,
iA 70 none 67 68,
wO (.store none 70 69)] [0,6,61,62,63])))
(rg [bN 71 .add 63 (cI 1),
mV 63 71] [0,6,61,62,63]))))
def zhd:ACode:=.pr [0,4,6] (.seq (rg [fA 60 1 none 4,
lD 61 none 60,
lN 62 61,
mV 63 (cI 0)] [0,6,61,62,63])
(.block 5 (.loop zhc)))
def zgY:ACode:=(.seq (rg [uO 4 (.box 1)] [0,2,4])
(.seq (rg [mV 13 0,
fA 14 1 none 4,
lD 15 none 14,
iA 16 none 15 (cI 0),
lD 17 none 16,
iA 18 none 13 17,
lD 19 none 18,
mV 6 19] [0,2,4,6])
(.seq (.seq (rg [fA 20 0 none 4,
lD 21 none 20] [0,2,4,6,21])
(.block 0 (.seq (rg [bN 23 .eql 21 (cI 1),
mV 22 23] [0,2,4,6,21,22])
(.cond 22 (rg [mV 6 (.c (.p (.int .u64 0)))] [0,4,6])
(.seq (.seq (rg [bN 25 .eql 21 (cI 2),
mV 24 25] [0,2,4,6,21,24])
(.cond 24 .skip
(rg [bN 26 .eql 21 (cI 6),
mV 24 26] [0,2,4,6,21,24])))
zhb)))))
zhd)))
def z6O:AFun:=⟨3,[],zgY,true,false⟩
def zhe:ACode:=(.seq (rg [uO 2 (.alloc [.p (.int .i64 0),.p (.int .i64 0)]),
uO 3 (.alloc [.p (.int .i64 0),.p (.int .i64 0)]),
mV 4 (cI 0)] [0,2,3])
(.seq (.seq (rg [mV 9 0,
cL 10 z29 [9,(cI 1)],
mV 5 10] [0,2,3,5])
(.seq (rg [mV 11 5,
bN 12 .neq 11 (cI 0)] [0,2,3,5,12])
(.cond 12 (.seq (rg [uO 13 (.build [.p (.int .i64 0),.p (.int .i64 0)] []),
uO 14 (.build [.p (.int .i64 0),.p (.int .i64 0)] []),
mV 15 5,
wO (.store (some 2) 2 13),
wO (.store (some 2) 3 14),
mV 4 15] [2,3,4])
.ret)
.skip)))
(.seq (rg [mV 17 0,
cL 18 z28 [17],
mV 16 18,
eX 19 16 0,
eX 20 16 1,
mV 6 19,
mV 7 20] [0,2,3,6,7])
(.seq (rg [mV 21 0,
lN 22 21,
mV 8 22] [2,3,6,7,8])
(.seq (rg [mV 23 6,
mV 24 8,
cL 25 jG [23,24],
mV 26 7,
mV 27 8,
mV 28 8,
bN 29 .mul 27 28,
cL 30 jG [26,29],
wO (.store (some 2) 2 25),
wO (.store (some 2) 3 30),
mV 4 (cI 0)] [2,3,4])
.ret)))))
def z6P:AFun:=⟨1,[.cell 2 (some 2),.cell 3 (some 2),.t 4],zhe,false,false⟩
def zhg:ACode:=.pr [0,2,4,7,8,9] (.seq (rg [bN 10 .lss 9 8] [0,2,4,7,8,9,10])
(.seq (.cond 10 .skip
(.exit 0))
(.seq (.block 1 (.seq (rg [iA 11 none 7 9,
lD 12 none 11,
mV 6 12] [0,2,4,6,7,8,9])
(.seq (rg [mV 13 2,
mV 14 6,
bN 15 .add 13 14,
mV 2 15] [0,2,4,6,7,8,9])
(rg [mV 16 4,
mV 17 6,
mV 18 6,
bN 19 .mul 17 18,
bN 20 .add 16 19,
mV 4 20] [0,2,4,7,8,9]))))
(rg [bN 21 .add 9 (cI 1),
mV 9 21] [0,2,4,7,8,9]))))
def zhh:ACode:=.pr [0,2,4] (.seq (rg [mV 22 2,
mV 23 0,
lN 24 23,
mV 25 4,
bN 26 .mul 24 25,
mV 27 2,
mV 28 2,
bN 29 .mul 27 28,
bN 30 .sub 26 29,
mV 2 22,
mV 3 30] [2,3])
.ret)
def zhf:ACode:=(.seq (rg [mV 2 (cI 0),
mV 3 (cI 0)] [0,2])
(.seq (rg [mV 4 (cI 0)] [0,2,4])
(.seq (.seq (rg [mV 7 0,
lN 8 7,
mV 9 (cI 0)] [0,2,4,7,8,9])
(.block 0 (.loop zhg)))
zhh)))
def z6Q:AFun:=⟨1,[.t 2,.t 3],zhf,false,false⟩
def zhi:ACode:=(.seq (rg [mV 4 (cI 0)] [0,1])
(.seq (.block 0 (.seq (rg [mV 6 0,
lN 7 6,
mV 8 1,
bN 9 .lss 7 8,
mV 5 9] [0,5])
(.cond 5 (.seq (rg [mV 4 (cI 8)] [4])
.ret)
(.seq (rg [mV 11 0,
lN 12 11,
bN 13 .gtr 12 (cI 5000),
mV 10 13] [0,10])
(.cond 10 (.seq (rg [mV 4 (cI 2)] [4])
.ret)
(.seq (rg [mV 15 0,
cL 16 RG [15,(.f z2A)],
mV 14 16] [14])
(.cond 14 (.seq (rg [mV 4 (cI 1)] [4])
.ret)
.skip)))))))
(.seq (rg [mV 4 (cI 0)] [4])
.ret)))
def z6R:AFun:=⟨2,[.t 4],zhi,false,false⟩
def zhj:ACode:=(.seq (rg [mV 2 cF] [0])
(.seq (rg [mV 3 0,
cL 4 LH [3],
uO 5 (.un .not 4),
mV 2 5] [2])
.ret))
def z6S:AFun:=⟨1,[.t 2],zhj,false,false⟩
def zhk:ACode:=(.seq (rg [mV 0 cF] [])
(.seq (rg [uO 11 (.bsl false none 1 (.str []) [(0,(cS [48,49]))]),
uO 12 (.bsl false none 1 (.int .i64 0) [(0,(cI 0))]),
uO 13 (.build [.p (.int .i64 0),.sl0 none] [(0,1,(cI 2)),(1,1,12)]),
cL 14 z2z [11,13],
mV 10 14,
eX 15 10 0,
eX 16 10 1,
mV 1 15,
mV 2 16] [1,2])
(.seq (rg [uO 18 (.build [.p (.int .i64 0),.p (.int .i64 0),.p (.int .i64 0),.p (.str []),.p (.str []),.p (.str [])] [(0,1,(cI 7)),(3,1,(cS [49,48]))]),
uO 19 (.bsl false (some 6) 1 (.agg [.int .i64 0,.int .i64 0,.int .i64 0,.str [],.str [],.str []]) [(0,18)]),
cL 20 z2H [19],
mV 17 20,
eX 21 17 0,
eX 22 17 1,
mV 3 21,
mV 4 22] [1,2,3,4])
(.seq (rg [uO 24 (.bsl false none 2 (.int .i64 0) [(0,(cI 1)),(1,(cI 3))]),
cL 25 z27 [24],
mV 23 25,
eX 26 23 0,
eX 27 23 1,
eX 28 23 2,
uO 5 (.alloc [.p (.int .i64 0),.p (.int .i64 0)]),
uO 6 (.alloc [.p (.int .i64 0),.p (.int .i64 0)]),
wO (.store (some 2) 5 26),
wO (.store (some 2) 6 27),
mV 7 28] [1,2,3,4,5,7])
(.seq (rg [uO 30 (.bsl false none 1 (.str []) [(0,(cS [115,99,97,110]))]),
uO 31 (.build [.sl0 none,.p (.int .i64 0)] [(0,1,30),(1,1,(cI 1))]),
uO 32 (.build [.p (.str []),.p (.int .i64 0),.p (.int .i64 0),.p (.int .i64 0),.p (.str []),.p (.str []),.p (.str []),.p (.int .i64 0)] [(0,1,(cS [97])),(1,1,(cI 1)),(3,1,(cI 1)),(4,1,(cS [98]))]),
uO 33 (.bsl false (some 8) 1 (.agg [.str [],.int .i64 0,.int .i64 0,.int .i64 0,.str [],.str [],.str [],.int .i64 0]) [(0,32)]),
cL 34 z2E [31,33,(cS [98]),(cI 0)],
mV 29 34,
eX 35 29 0,
eX 36 29 1,
uO 8 (.alloc [.p (.int .i64 0),.p (.int .i64 0),.p (.str []),.p (.str []),.p (.int .i64 0)]),
wO (.store (some 5) 8 35),
mV 9 36] [1,2,3,4,5,7,8,9])
(.seq (rg [mV 37 2,
bN 38 .eql 37 (cI 0),
mV 39 38,
gD 40 39 true (.mv 4),
gD 41 39 true (.bin .eql 40 (cI 0)),
uO 42 (.pick 39 41 cF),
mV 43 42,
gD 44 43 true (.mv 7),
gD 45 43 true (.bin .eql 44 (cI 0)),
uO 46 (.pick 43 45 cF),
mV 47 46,
gD 48 47 true (.mv 9),
gD 49 47 true (.bin .eql 48 (cI 0)),
uO 50 (.pick 47 49 cF),
mV 51 50,
gD 52 51 true (.mv 1),
gD 53 51 true (.len 52),
gD 54 51 true (.bin .eql 53 (cI 1)),
uO 55 (.pick 51 54 cF),
mV 56 55,
gD 57 56 true (.mv 1),
gD 58 56 true (.iaddr none 57 (cI 0)),
gD 59 56 true (.load none 58),
gD 60 56 true (.bin .eql 59 (cS [49,49])),
uO 61 (.pick 56 60 cF),
mV 62 61,
gD 63 62 true (.mv 3),
gD 64 62 true (.bin .eql 63 (cI 9)),
uO 65 (.pick 62 64 cF),
mV 66 65,
gD 67 66 true (.faddr 0 none 5),
gD 68 66 true (.load none 67),
gD 69 66 true (.bin .eql 68 (cI 2)),
uO 70 (.pick 66 69 cF),
mV 71 70,
gD 72 71 true (.faddr 0 none 8),
gD 73 71 true (.load none 72),
gD 74 71 true (.bin .eql 73 (cI 1)),
uO 75 (.pick 71 74 cF),
mV 0 75] [0])
.ret))))))
def z6T:AFun:=⟨0,[.t 0],zhk,false,false⟩
def zhl:ACode:=(.seq (rg [mV 4 cF] [0,1])
(.seq (rg [mV 5 0,
mV 6 1,
cL 7 z2C [5,6],
bN 8 .geq 7 (cI 0),
mV 4 8] [4])
.ret))
def z6U:AFun:=⟨2,[.t 4],zhl,true,false⟩
def zhn:ACode:=.pr [0,1,7,8] (.seq (rg [bN 9 .lss 8 7] [0,1,7,8,9])
(.seq (.cond 9 .skip
(.exit 0))
(.seq (.block 1 (.seq (rg [mV 10 8,
mV 5 10] [0,1,5,7,8])
(.seq (rg [mV 11 1,
mV 12 0,
mV 13 5,
iA 14 none 12 13,
lD 15 none 14,
bN 16 .eql 11 15] [0,1,5,7,8,16])
(.cond 16 (.seq (rg [mV 17 5,
mV 4 17] [4])
.ret)
.skip))))
(rg [bN 18 .add 8 (cI 1),
mV 8 18] [0,1,7,8]))))
def zho:ACode:=.pr [] (.seq (rg [mV 4 (cI (-1))] [4])
.ret)
def zhm:ACode:=(.seq (rg [mV 4 (cI 0)] [0,1])
(.seq (.seq (rg [mV 6 0,
lN 7 6,
mV 8 (cI 0)] [0,1,7,8])
(.block 0 (.loop zhn)))
zho))
def z6V:AFun:=⟨2,[.t 4],zhm,true,false⟩
def zhp:ACode:=(.seq (rg [uO 4 (.box 0),
uO 8 (.alloc [.p (.int .i64 0),.p (.int .i64 0),.p (.str []),.p (.str []),.p (.int .i64 0)]),
mV 9 (cI 0)] [1,2,3,4,8])
(.seq (.seq (rg [lD 12 (some 2) 4,
mV 13 1,
mV 14 3,
cL 15 SG [12,13,14],
mV 10 15] [1,2,3,4,8,10])
(.seq (rg [mV 16 10,
bN 17 .neq 16 (cI 0)] [1,2,3,4,8,10,17])
(.cond 17 (.seq (rg [uO 18 (.build [.p (.int .i64 0),.p (.int .i64 0),.p (.str []),.p (.str []),.p (.int .i64 0)] []),
mV 19 10,
wO (.store (some 5) 8 18),
mV 9 19] [8,9])
.ret)
.skip)))
(.seq (.seq (rg [mV 20 2,
cL 21 QD [20],
uO 22 (.un .not 21)] [1,2,3,4,8,22])
(.cond 22 (.seq (rg [uO 23 (.build [.p (.int .i64 0),.p (.int .i64 0),.p (.str []),.p (.str []),.p (.int .i64 0)] []),
wO (.store (some 5) 8 23),
mV 9 (cI 5)] [8,9])
.ret)
.skip))
(.seq (dr [dF (lD 24 (some 2) 4) [4],
dF (mV 25 1) [1],
dF (mV 26 3) [3],
dA (cL 27 TG [25,26]) [25,26] true [] [0],
dT (cL 28 FF [24,27]) [24,27],
dF (uO 29 (.nilchk 28)) [28],
dF (fA 30 2 none 29) [29],
dF (lD 31 none 30) [30],
dF (mV 32 2) [2],
dF (uO 33 (.look (none,[2]) false (.nilp) 31 32)) [31,32],
dF (mV 11 33) [33]] [8,11])
(.seq (.seq (rg [mV 34 11,
uO 35 (.isnil 0 false 34)] [8,11,35])
(.cond 35 (.seq (rg [uO 36 (.build [.p (.int .i64 0),.p (.int .i64 0),.p (.str []),.p (.str []),.p (.int .i64 0)] []),
wO (.store (some 5) 8 36),
mV 9 (cI 8)] [8,9])
.ret)
.skip))
(.seq (rg [mV 37 11,
uO 38 (.nilchk 37),
lD 39 (some 5) 38,
wO (.store (some 5) 8 39),
mV 9 (cI 0)] [8,9])
.ret))))))
def z6W:AFun:=⟨4,[.cell 8 (some 5),.t 9],zhp,false,false⟩
def zhq:ACode:=(.seq (rg [mV 4 (cS []),
mV 5 (cI 0)] [0,1])
(.seq (.seq (rg [mV 6 0,
cL 7 GW [6],
uO 8 (.un .not 7),
mV 9 8,
gD 10 9 false (.mv 1),
gD 11 9 false (.call GW [10]),
gD 12 9 false (.un .not 11),
uO 13 (.pick 9 cT 12)] [0,1,13])
(.cond 13 (.seq (rg [mV 4 (cS []),
mV 5 (cI 1)] [4,5])
.ret)
.skip))
(.seq (rg [mV 14 0,
mV 15 1,
cL 16 WH [14,15],
mV 4 16,
mV 5 (cI 0)] [4,5])
.ret)))
def z6X:AFun:=⟨2,[.t 4,.t 5],zhq,false,false⟩
def zhr:ACode:=(.seq (rg [mV 2 cF] [0])
(.seq (rg [mV 3 0,
cL 4 OB [3,(cI 0),(cI 15)],
uO 5 (.un .not 4),
mV 2 5] [2])
.ret))
def z6Y:AFun:=⟨1,[.t 2],zhr,false,false⟩
def z68:ACode:=(.seq (rg [mV 4 (cI 0)] [0,1])
(.seq (rg [uO 6 (.build [.p (.int .i64 0),.p (.int .i64 0)] [(0,1,(cI 1)),(1,1,(cI 0))]),
uO 7 (.build [.p (.int .i64 0),.p (.int .i64 0)] [(0,1,(cI 1)),(1,1,(cI 2))]),
uO 8 (.build [.p (.int .i64 0),.p (.int .i64 0)] [(0,1,(cI 3)),(1,1,(cI 9))]),
uO 9 (.build [.p (.int .i64 0),.p (.int .i64 0)] [(0,1,(cI 4)),(1,1,(cI 5))]),
uO 10 (.build [.p (.int .i64 0),.p (.int .i64 0)] [(0,1,(cI 4)),(1,1,(cI 5))]),
uO 11 (.build [.p (.int .i64 0),.p (.int .i64 0)] [(0,1,(cI 6)),(1,1,(cI 8))]),
uO 12 (.build [.p (.int .i64 0),.p (.int .i64 0)] [(0,1,(cI 6)),(1,1,(cI 7))]),
uO 13 (.build [.p (.int .i64 0),.p (.int .i64 0)] [(0,1,(cI 4)),(1,1,(cI 8))]),
uO 14 (.build [.p (.int .i64 0),.p (.int .i64 0)] [(0,1,(cI 1)),(1,1,(cI 2))]),
uO 15 (.build [.p (.int .i64 0),.p (.int .i64 0)] [(0,1,(cI 10)),(1,1,(cI 0))]),
uO 16 (.build [.p (.int .i64 0),.p (.int .i64 0)] [(0,1,(cI 11)),(1,1,(cI 12))]),
uO 17 (.build [.p (.int .i64 0),.p (.int .i64 0)] [(0,1,(cI 11)),(1,1,(cI 12))]),
uO 18 (.build [.p (.int .i64 0),.p (.int .i64 0)] [(0,1,(cI 13)),(1,1,(cI 15))]),
uO 19 (.build [.p (.int .i64 0),.p (.int .i64 0)] [(0,1,(cI 13)),(1,1,(cI 14))]),
uO 20 (.build [.p (.int .i64 0),.p (.int .i64 0)] [(0,1,(cI 11)),(1,1,(cI 15))]),
uO 21 (.build [.p (.int .i64 0),.p (.int .i64 0)] [(0,1,(cI 1)),(1,1,(cI 2))]),
uO 22 (.build [.p (.int .i64 0),.p (.int .i64 0),.p (.int .i64 0),.p (.int .i64 0),.p (.int .i64 0),.p (.int .i64 0),.p (.int .i64 0),.p (.int .i64 0),.p (.int .i64 0),.p (.int .i64 0),.p (.int .i64 0),.p (.int .i64 0),.p (.int .i64 0),.p (.int .i64 0),.p (.int .i64 0),.p (.int .i64 0),.p (.int .i64 0),.p (.int .i64 0),.p (.int .i64 0),.p (.int .i64 0),.p (.int .i64 0),.p (.int .i64 0),.p (.int .i64 0),.p (.int .i64 0),.p (.int .i64 0),.p (.int .i64 0),.p (.int .i64 0),.p (.int .i64 0),.p (.int .i64 0),.p (.int .i64 0),.p (.int .i64 0),.p (.int .i64 0)] [(0,2,6),(2,2,7),(4,2,8),(6,2,9),(8,2,10),(10,2,11),(12,2,12),(14,2,13),(16,2,14),(18,2,15),(20,2,16),(22,2,17),(24,2,18),(26,2,19),(28,2,20),(30,2,21)]),
uO 5 (.alloc [.p (.int .i64 0),.p (.int .i64 0),.p (.int .i64 0),.p (.int .i64 0),.p (.int .i64 0),.p (.int .i64 0),.p (.int .i64 0),.p (.int .i64 0),.p (.int .i64 0),.p (.int .i64 0),.p (.int .i64 0),.p (.int .i64 0),.p (.int .i64 0),.p (.int .i64 0),.p (.int .i64 0),.p (.int .i64 0),.p (.int .i64 0),.p (.int .i64 0),.p (.int .i64 0),.p (.int .i64 0),.p (.int .i64 0),.p (.int .i64 0),.p (.int .i64 0),.p (.int .i64 0),.p (.int .i64 0),.p (.int .i64 0),.p (.int .i64 0),.p (.int .i64 0),.p (.int .i64 0),.p (.int .i64 0),.p (.int .i64 0),.p (.int .i64 0)]),
wO (.store (some 32) 5 22)] [0,1,5])
(.seq (rg [mV 23 0,
mV 24 1,
uO 25 (.iaddra 16 (some 2) 5 23),
uO 26 (.iaddra 2 none 25 24),
lD 27 none 26,
mV 4 27] [4])
.ret)))
def bL:AFun:=⟨2,[.t 4],z68,false,false⟩
def sW (C:Hd)(gl:GL)(v0 v1:AV)(h:aA)(x:Esc)(K:KT):Prop:=
 pK (cC [.p (.int .i64 0),.p (.int .i64 0)] [(0,1,(AI 1)),(1,1,(AI 0))]) fun t1=>
 pK (cC [.p (.int .i64 0),.p (.int .i64 0)] [(0,1,(AI 1)),(1,1,(AI 2))]) fun t2=>
 pK (cC [.p (.int .i64 0),.p (.int .i64 0)] [(0,1,(AI 3)),(1,1,(AI 9))]) fun t3=>
 pK (cC [.p (.int .i64 0),.p (.int .i64 0)] [(0,1,(AI 4)),(1,1,(AI 5))]) fun t4=>
 pK (cC [.p (.int .i64 0),.p (.int .i64 0)] [(0,1,(AI 4)),(1,1,(AI 5))]) fun t5=>
 pK (cC [.p (.int .i64 0),.p (.int .i64 0)] [(0,1,(AI 6)),(1,1,(AI 8))]) fun t6=>
 pK (cC [.p (.int .i64 0),.p (.int .i64 0)] [(0,1,(AI 6)),(1,1,(AI 7))]) fun t7=>
 pK (cC [.p (.int .i64 0),.p (.int .i64 0)] [(0,1,(AI 4)),(1,1,(AI 8))]) fun t8=>
 pK (cC [.p (.int .i64 0),.p (.int .i64 0)] [(0,1,(AI 1)),(1,1,(AI 2))]) fun t9=>
 pK (cC [.p (.int .i64 0),.p (.int .i64 0)] [(0,1,(AI 10)),(1,1,(AI 0))]) fun t10=>
 pK (cC [.p (.int .i64 0),.p (.int .i64 0)] [(0,1,(AI 11)),(1,1,(AI 12))]) fun t11=>
 pK (cC [.p (.int .i64 0),.p (.int .i64 0)] [(0,1,(AI 11)),(1,1,(AI 12))]) fun t12=>
 pK (cC [.p (.int .i64 0),.p (.int .i64 0)] [(0,1,(AI 13)),(1,1,(AI 15))]) fun t13=>
 pK (cC [.p (.int .i64 0),.p (.int .i64 0)] [(0,1,(AI 13)),(1,1,(AI 14))]) fun t14=>
 pK (cC [.p (.int .i64 0),.p (.int .i64 0)] [(0,1,(AI 11)),(1,1,(AI 15))]) fun t15=>
 pK (cC [.p (.int .i64 0),.p (.int .i64 0)] [(0,1,(AI 1)),(1,1,(AI 2))]) fun t16=>
 pK (cC [.p (.int .i64 0),.p (.int .i64 0),.p (.int .i64 0),.p (.int .i64 0),.p (.int .i64 0),.p (.int .i64 0),.p (.int .i64 0),.p (.int .i64 0),.p (.int .i64 0),.p (.int .i64 0),.p (.int .i64 0),.p (.int .i64 0),.p (.int .i64 0),.p (.int .i64 0),.p (.int .i64 0),.p (.int .i64 0),.p (.int .i64 0),.p (.int .i64 0),.p (.int .i64 0),.p (.int .i64 0),.p (.int .i64 0),.p (.int .i64 0),.p (.int .i64 0),.p (.int .i64 0),.p (.int .i64 0),.p (.int .i64 0),.p (.int .i64 0),.p (.int .i64 0),.p (.int .i64 0),.p (.int .i64 0),.p (.int .i64 0),.p (.int .i64 0)] [(0,2,t1),(2,2,t2),(4,2,t3),(6,2,t4),(8,2,t5),(10,2,t6),(12,2,t7),(14,2,t8),(16,2,t9),(18,2,t10),(20,2,t11),(22,2,t12),(24,2,t13),(26,2,t14),(28,2,t15),(30,2,t16)]) fun t17=>
 alK [.p (.int .i64 0),.p (.int .i64 0),.p (.int .i64 0),.p (.int .i64 0),.p (.int .i64 0),.p (.int .i64 0),.p (.int .i64 0),.p (.int .i64 0),.p (.int .i64 0),.p (.int .i64 0),.p (.int .i64 0),.p (.int .i64 0),.p (.int .i64 0),.p (.int .i64 0),.p (.int .i64 0),.p (.int .i64 0),.p (.int .i64 0),.p (.int .i64 0),.p (.int .i64 0),.p (.int .i64 0),.p (.int .i64 0),.p (.int .i64 0),.p (.int .i64 0),.p (.int .i64 0),.p (.int .i64 0),.p (.int .i64 0),.p (.int .i64 0),.p (.int .i64 0),.p (.int .i64 0),.p (.int .i64 0),.p (.int .i64 0),.p (.int .i64 0)] h fun t18 h19 y20=>
 wK (oD (some 32) t18 t17 h19) fun t21 h22 y23=>
 pK (lI 16 (some 2) t18 v0) fun t24=>
 pK (lI 2 none t24 v1) fun t25=>
 pK (eB none t25 h22) fun t26=>
 K .ret ⟨[(4,t26)],h22,(y23++(y20++x))⟩
theorem zdt {C gl v0 v1 h x K}:NW C gl bL.body ⟨enter [v0,v1],h,x⟩ K=sW C gl v0 v1 h x K:=by kernel_rfl
def lZ:ACode:=.pr [1,5,6,7,25] (rg [bN 53 .add 25 (cI 1),
mV 25 53] [1,5,6,7,25])
def z1O (C:Hd)(gl:GL)(v1 v5 v6 v7 v25:AV)(h:aA)(x:Esc)(K:KT):Prop:=
 pK (AA .add v25 (AI 1)) fun t1=>
 K .normal ⟨[(1,v1),(5,v5),(6,v6),(7,v7),(25,t1)],h,x⟩
theorem zdv {C gl e h x K}:NW C gl lZ ⟨e,h,x⟩ K=z1O C gl (eA e 1) (eA e 5) (eA e 6) (eA e 7) (eA e 25) h x K:=by kernel_rfl
def z07 (q1:ACode):ACode:=.pr [1,5,6,7,25] (.seq (rg [bN 26 .lss 25 (cI 2)] [1,5,6,7,25,26])
(.seq (.cond 26 .skip
(.exit 2))
(.seq (.block 3 (.seq (rg [mV 27 25,
mV 8 27] [1,5,6,7,8,25])
(.seq (rg [mV 28 7,
mV 29 8,
cL 30 VH [28,29],
mV 9 30] [1,5,6,7,8,9,25])
(.seq (rg [mV 32 5,
mV 33 9,
uO 34 (.look (none,[0]) true (.p (.str [])) 32 33),
mV 31 34,
eX 35 31 0,
eX 36 31 1,
mV 10 35,
mV 11 36] [1,5,6,7,8,9,11,25])
(.seq (rg [mV 37 11,
uO 38 (.un .not 37)] [1,5,6,7,8,9,25,38])
(.cond 38 (.seq (rg [mV 39 5,
mV 40 9,
mV 41 5,
mV 42 7,
uO 43 (.look (none,[0]) false (.p (.str [])) 41 42),
mV 44 8,
bN 45 .add (cI 48) 44,
uO 46 (.conv (.i .i32) 45),
uO 47 (.conv .r2s 46),
bN 48 .add 43 47,
wO (.mupd (none,[0]) 39 40 48)] [1,5,6,7,9,25])
(rg [mV 49 6,
mV 50 9,
uO 51 (.bsl false none 1 (.int .i64 0) [(0,50)]),
uO 52 (.mnext (some none) [49,51]),
mV 6 52] [1,5,6,7,25]))
.skip))))))
q1)))
def RM:ACode:=z07 lZ
def tW (C:Hd)(gl:GL)(q1:ACode)(v1 v5 v6 v7 v25:AV)(h:aA)(x:Esc)(K:KT):Prop:=
 pK (AA .lss v25 (AI 2)) fun t1=>
 CC t1 (C VH [v7,v25] h fun t2 h3 y4=>
 pK (QA (none,[0]) true (.p (.str [])) v5 t2 h3) fun t5=>
 pK (kI t5 0) fun t6=>
 pK (kI t5 1) fun t7=>
 pK (oUn .not t7) fun t8=>
 CC t8 (pK (QA (none,[0]) false (.p (.str [])) v5 v7 h3) fun t9=>
 pK (AA .add (AI 48) v25) fun t10=>
 pK (PJ .i32 t10) fun t11=>
 wK (UD .r2s t11 h3) fun t12 h13 y14=>
 pK (AA .add t9 t12) fun t15=>
 wK (UA (none,[0]) v5 t2 t15 h13) fun t16 h17 y18=>
 wK (PC false none 1 (.int .i64 0) [(0,t2)] h17) fun t19 h20 y21=>
 nqK (some none) [v6,t19] h20 fun t22 h23 y24=>
 NW C gl q1 ⟨[(1,v1),(5,v5),(6,t22),(7,v7),(25,v25)],h23,(y24++(y21++(y18++(y14++(y4++x)))))⟩ K)
 (NW C gl q1 ⟨[(1,v1),(5,v5),(6,v6),(7,v7),(8,v25),(9,t2),(25,v25),(38,t8)],h3,(y4++x)⟩ K))
 (K (.exit 2) ⟨[(1,v1),(5,v5),(6,v6),(7,v7),(25,v25),(26,t1)],h,x⟩)
theorem z63 {C gl q1 e h x K}:NW C gl (z07 q1) ⟨e,h,x⟩ K=tW C gl q1 (eA e 1) (eA e 5) (eA e 6) (eA e 7) (eA e 25) h x K:=by kernel_rfl
theorem zdw {C gl e h x K}:NW C gl RM ⟨e,h,x⟩ K=tW C gl lZ (eA e 1) (eA e 5) (eA e 6) (eA e 7) (eA e 25) h x K:=z63
theorem zfB {C gl e h x K}:NW C gl (.loop RM) ⟨e,h,x⟩ K=MA C gl RM K [(1,eA e 1),(5,eA e 5),(6,eA e 6),(7,eA e 7),(25,eA e 25)] h x:=FB
def z08 (q2:ACode):ACode:=.pr [1,5,6] (.seq (.seq (rg [mV 17 6,
lN 18 17,
bN 19 .gtr 18 (cI 0)] [1,5,6,19])
(.cond 19 .skip
(.exit 0)))
(.block 1 (.seq (rg [mV 20 6,
iA 21 none 20 (cI 0),
lD 22 none 21,
mV 7 22] [1,5,6,7])
(.seq (rg [mV 23 6,
uO 24 (.slice none 23 (some (cI 1)) none none),
mV 6 24] [1,5,6,7])
(.seq (rg [mV 25 (cI 0)] [1,5,6,7,25])
(.block 2 (.loop q2)))))))
def SM:ACode:=z08 RM
def uW (C:Hd)(gl:GL)(q2:ACode)(v1 v5 v6:AV)(h:aA)(x:Esc)(K:KT):Prop:=
 pK (JF v6) fun t1=>
 pK (AA .gtr t1 (AI 0)) fun t2=>
 CC t2 (pK (gE none v6 (AI 0) h) fun t3=>
 pK (eB none t3 h) fun t4=>
 pK (YG none v6 (some (AI 1)) none none h) fun t5=>
 NW C gl (.loop q2) ⟨[(1,v1),(5,v5),(6,t5),(7,t4),(25,(AI 0))],h,x⟩ (sC 2 (sC 1 K)))
 (K (.exit 0) ⟨[(1,v1),(5,v5),(6,v6),(19,t2)],h,x⟩)
theorem z64 {C gl q2 e h x K}:NW C gl (z08 q2) ⟨e,h,x⟩ K=uW C gl q2 (eA e 1) (eA e 5) (eA e 6) h x K:=by kernel_rfl
theorem zdx {C gl e h x K}:NW C gl SM ⟨e,h,x⟩ K=uW C gl RM (eA e 1) (eA e 5) (eA e 6) h x K:=z64
theorem zfC {C gl e h x K}:NW C gl (.loop SM) ⟨e,h,x⟩ K=MA C gl SM K [(1,eA e 1),(5,eA e 5),(6,eA e 6)] h x:=FB
def mZ:ACode:=.pr [1,5] (.seq (rg [mV 54 5,
mV 55 1,
uO 56 (.look (none,[0]) false (.p (.str [])) 54 55),
mV 4 56] [4])
.ret)
def z1P (C:Hd)(gl:GL)(v1 v5:AV)(h:aA)(x:Esc)(K:KT):Prop:=
 pK (QA (none,[0]) false (.p (.str [])) v5 v1 h) fun t1=>
 K .ret ⟨[(4,t1)],h,x⟩
theorem zdy {C gl e h x K}:NW C gl mZ ⟨e,h,x⟩ K=z1P C gl (eA e 1) (eA e 5) h x K:=by kernel_rfl
def z06 (q3 q4:ACode):ACode:=(.det (.seq (rg [mV 4 (cS [])] [0,1])
(.seq (rg [uO 12 (.mkmap),
mV 13 0,
wO (.mupd (none,[0]) 12 13 (cS [])),
mV 14 12,
mV 5 14] [0,1,5])
(.seq (rg [mV 15 0,
uO 16 (.bsl true none 1 (.int .i64 0) [(0,15)]),
mV 6 16] [1,5,6])
(.seq (.block 0 (.loop q3))
q4)))))
def WN:AFun:=⟨2,[.t 4],z06 SM mZ,false,false⟩
def FP (C:Hd)(gl:GL)(q3 q4:ACode)(v0 v1:AV)(h:aA)(x:Esc)(K:KT):Prop:=
 mmK h fun t1 h2 y3=>
 wK (UA (none,[0]) t1 v0 (.p (.str [])) h2) fun t4 h5 y6=>
 wK (PC true none 1 (.int .i64 0) [(0,v0)] h5) fun t7 h8 y9=>
 NW C gl (.loop q3) ⟨[(1,v1),(5,t1),(6,t7)],h8,(y9++(y6++(y3++x)))⟩ (sC 0 (ID C gl q4 K))
theorem z62 {C gl q3 q4 v0 v1 h x K}:NW C gl (z06 q3 q4) ⟨enter [v0,v1],h,x⟩ K=FP C gl q3 q4 v0 v1 h x K:=by kernel_rfl
theorem zdu {C gl v0 v1 h x K}:NW C gl WN.body ⟨enter [v0,v1],h,x⟩ K=FP C gl SM mZ v0 v1 h x K:=z62
def zht:ACode:=.pr [0,10,11,12] (.seq (rg [bN 13 .lss 12 11] [0,10,11,12,13])
(.seq (.cond 13 .skip
(.exit 0))
(.seq (.block 1 (.seq (rg [iA 14 (some 6) 10 12,
lD 15 (some 6) 14,
uO 4 (.alloc [.p (.int .i64 0),.p (.int .i64 0),.p (.int .i64 0),.p (.str []),.p (.str []),.p (.str [])]),
wO (.store (some 6) 4 15)] [0,4,10,11,12])
(.seq (.seq (rg [fA 16 0 none 4,
lD 17 none 16,
cL 18 OB [17,(cI 1),(cI 10)]] [0,4,10,11,12,18])
(.cond 18 (.seq (rg [mV 2 (cI 4)] [2])
.ret)
.skip))
(.seq (rg [lD 20 (some 6) 4,
cL 21 z2J [20],
mV 19 21,
eX 22 19 0,
eX 23 19 1,
uO 5 (.alloc [.p (.int .i64 0),.p (.int .i64 0),.p (.int .i64 0),.p (.str []),.p (.str []),.p (.str [])]),
wO (.store (some 6) 5 22),
mV 6 23] [0,4,5,6,10,11,12])
(.block 2 (.seq (rg [mV 25 6,
bN 26 .neq 25 (cI 0),
mV 24 26] [0,4,5,6,10,11,12,24])
(.cond 24 (.seq (rg [mV 27 6,
mV 2 27] [2])
.ret)
(.seq (rg [lD 29 (some 6) 5,
fA 30 0 none 4,
lD 31 none 30,
uO 32 (.build [.p (.int .i64 0),.p (.int .i64 0),.p (.int .i64 0),.p (.str []),.p (.str []),.p (.str [])] [(0,1,31)]),
uO 33 (.eqa [0,0,0,2,2,2] true 29 32),
mV 28 33] [0,10,11,12,28])
(.cond 28 (.seq (rg [mV 2 (cI 3)] [2])
.ret)
.skip)))))))))
(rg [bN 34 .add 12 (cI 1),
mV 12 34] [0,10,11,12]))))
def zhu:ACode:=.pr [0] (.seq (.seq (rg [mV 35 0,
cL 36 IW [35,(.c (.nilp))],
uO 37 (.nilchk 36),
fA 38 37 none 37,
lD 39 none 38,
bN 40 .gtr 39 (cI 20000)] [40])
(.cond 40 (.seq (rg [mV 2 (cI 2)] [2])
.ret)
.skip))
(.seq (rg [mV 2 (cI 0)] [2])
.ret))
def zhs:ACode:=(.seq (rg [mV 2 (cI 0)] [0])
(.seq (.seq (rg [mV 7 0,
lN 8 7,
bN 9 .gtr 8 (cI 1000)] [0,9])
(.cond 9 (.seq (rg [mV 2 (cI 2)] [2])
.ret)
.skip))
(.seq (.seq (rg [mV 10 0,
lN 11 10,
mV 12 (cI 0)] [0,10,11,12])
(.block 0 (.loop (.scope zht))))
zhu)))
def z6Z:AFun:=⟨1,[.t 2],zhs,false,false⟩
def zhv:ACode:=(.seq (rg [mV 2 (cI 0),
mV 3 (cI 0)] [0])
(.seq (.seq (rg [mV 5 0,
cL 6 z2G [5],
mV 4 6] [0,4])
(.seq (rg [mV 7 4,
bN 8 .neq 7 (cI 0)] [0,4,8])
(.cond 8 (.seq (rg [mV 9 4,
mV 2 (cI 0),
mV 3 9] [2,3])
.ret)
.skip)))
(.seq (rg [mV 10 0,
cL 11 IW [10,(.c (.nilp))],
uO 12 (.nilchk 11),
fA 13 37 none 12,
lD 14 none 13,
mV 2 14,
mV 3 (cI 0)] [2,3])
.ret)))
def z7a:AFun:=⟨1,[.t 2,.t 3],zhv,false,false⟩
def zhw:ACode:=(.seq (rg [mV 2 cF] [0])
(.seq (rg [mV 3 0,
bN 4 .eql 3 (cI 7),
mV 5 4,
gD 6 5 false (.mv 0),
gD 7 5 false (.bin .eql 6 (cI 8)),
uO 8 (.pick 5 cT 7),
mV 2 8] [2])
.ret))
def z7b:AFun:=⟨1,[.t 2],zhw,false,false⟩
def zhx:ACode:=(.seq (rg [mV 2 cF] [0])
(.seq (rg [mV 3 0,
cL 4 OB [3,(cI 1),(cI 6)],
uO 5 (.un .not 4),
mV 2 5] [2])
.ret))
def z7c:AFun:=⟨1,[.t 2],zhx,false,false⟩
def zhz:ACode:=.pr [2,4] (.seq (rg [lD 56 (some 6) 4,
wO (.store (some 6) 2 56),
mV 3 (cI 0)] [2,3])
.ret)
def zhy:ACode:=(.seq (rg [uO 1 (.box 0),
uO 2 (.alloc [.p (.int .i64 0),.p (.int .i64 0),.p (.int .i64 0),.p (.str []),.p (.str []),.p (.str [])]),
mV 3 (cI 0)] [1,2])
(.seq (rg [lD 5 (some 6) 1,
uO 4 (.alloc [.p (.int .i64 0),.p (.int .i64 0),.p (.int .i64 0),.p (.str []),.p (.str []),.p (.str [])]),
wO (.store (some 6) 4 5)] [1,2,4])
(.seq (.block 0 (.seq (rg [fA 18 0 none 1,
lD 19 none 18,
bN 20 .eql 19 (cI 1),
mV 21 20,
gD 22 21 false (.faddr 0 none 1),
gD 23 21 false (.load none 22),
gD 24 21 false (.bin .eql 23 (cI 2)),
uO 25 (.pick 21 cT 24),
mV 26 25,
gD 27 26 false (.faddr 0 none 1),
gD 28 26 false (.load none 27),
gD 29 26 false (.bin .eql 28 (cI 10)),
uO 30 (.pick 26 cT 29),
mV 17 30] [1,2,4,17])
(.cond 17 (.seq (rg [fA 31 1 none 4,
wO (.store none 31 (cI 0))] [1,2,4])
(.seq (rg [fA 32 1 none 1,
lD 33 none 32,
cL 34 z2O [33],
uO 35 (.un .not 34)] [2,4,35])
(.cond 35 (.seq (rg [lD 36 (some 6) 4,
wO (.store (some 6) 2 36),
mV 3 (cI 1)] [2,3])
.ret)
.skip)))
(.seq (rg [fA 38 0 none 1,
lD 39 none 38,
bN 40 .eql 39 (cI 9),
mV 37 40] [1,2,4,37])
(.cond 37 (.seq (rg [fA 41 2 none 4,
wO (.store none 41 (cI 0))] [1,2,4])
(.seq (rg [fA 42 2 none 1,
lD 43 none 42,
cL 44 OB [43,(cI 0),(cI 20000)]] [2,4,44])
(.cond 44 (.seq (rg [lD 45 (some 6) 4,
wO (.store (some 6) 2 45),
mV 3 (cI 1)] [2,3])
.ret)
.skip)))
(.seq (rg [fA 47 0 none 1,
lD 48 none 47,
cL 49 HW [48],
mV 46 49] [1,2,4,46])
(.cond 46 (.seq (rg [fA 50 3 none 4,
wO (.store none 50 (cS [])),
fA 51 4 none 4,
wO (.store none 51 (cS [])),
fA 52 5 none 4,
wO (.store none 52 (cS []))] [1,2,4])
(.seq (dr [dF (lD 53 (some 6) 4) [4],
dF (lD 54 (some 6) 1) [1],
dA (cL 55 z2M [54]) [54] true [] [0],
dT (wO (.store (some 6) 2 53)) [2,53],
dF (mV 3 55) [55]] [2,3])
.ret))
(.seq (rg [fA 6 3 none 4,
wO (.store none 6 (cS []))] [1,2,4])
(.seq (.seq (rg [fA 7 3 none 1,
lD 8 none 7,
cL 9 eJ [8],
uO 10 (.un .not 9)] [1,2,4,10])
(.cond 10 (.seq (rg [lD 11 (some 6) 4,
wO (.store (some 6) 2 11),
mV 3 (cI 9)] [2,3])
.ret)
.skip))
(.seq (rg [fA 12 3 none 1,
lD 13 none 12,
uO 14 (.lens 13),
bN 15 .gtr 14 (cI 2000)] [2,4,15])
(.cond 15 (.seq (rg [lD 16 (some 6) 4,
wO (.store (some 6) 2 16),
mV 3 (cI 2)] [2,3])
.ret)
.skip)))))))))))
zhz)))
def z7d:AFun:=⟨1,[.cell 2 (some 6),.t 3],zhy,false,false⟩
def zh1:ACode:=.pr [5,13,14,15] (.seq (rg [bN 16 .lss 15 14] [5,13,14,15,16])
(.seq (.cond 16 .skip
(.exit 0))
(.seq (.block 1 (.seq (rg [iA 17 (some 6) 13 15,
lD 18 (some 6) 17,
uO 7 (.alloc [.p (.int .i64 0),.p (.int .i64 0),.p (.int .i64 0),.p (.str []),.p (.str []),.p (.str [])]),
wO (.store (some 6) 7 18)] [5,7,13,14,15])
(.seq (.seq (rg [mV 19 5,
uO 20 (.nilchk 19),
fA 21 37 none 20,
lD 22 none 21,
bN 23 .gtr 22 (cI 20000)] [5,7,13,14,15,23])
(.cond 23 (.exit 0)
.skip))
(rg [mV 24 5,
lD 25 (some 6) 7,
cL 26 z2L [24,25]] [5,13,14,15]))))
(rg [bN 27 .add 15 (cI 1),
mV 15 27] [5,13,14,15]))))
def zh2:ACode:=.pr [5] (.seq (rg [mV 28 5,
mV 4 28] [4])
.ret)
def zh0:ACode:=(.seq (rg [mV 4 (.c (.nilp))] [0,1])
(.seq (rg [cL 8 z2P [],
mV 9 1,
uO 10 (.isnil 0 true 9),
uO 11 (.build [.p (.int .i64 0),.p (.int .i64 0),.p (.int .i64 0),.p (.str []),.p (.str []),.p (.str []),.p (.int .i64 0),.p (.int .i64 0),.p (.int .i64 0),.p (.str []),.p (.str []),.p (.str []),.p (.int .i64 0),.p (.int .i64 0),.p (.int .i64 0),.p (.str []),.p (.str []),.p (.str []),.p (.int .i64 0),.p (.int .i64 0),.p (.int .i64 0),.p (.str []),.p (.str []),.p (.str []),.p (.int .i64 0),.p (.int .i64 0),.p (.int .i64 0),.p (.str []),.p (.str []),.p (.str []),.p (.int .i64 0),.p (.int .i64 0),.p (.int .i64 0),.p (.str []),.p (.str []),.p (.str []),.p (.int .i64 0),.p (.int .i64 0),.p (.int .i64 0),.p (.int .i64 0),.sl0 none,.sl0 none,.sl0 none,.sl0 none,.sl0 none,.p (.bool false)] [(0,36,8),(36,1,(cI 0)),(45,1,10)]),
uO 12 (.uns 12 0 [11]),
mV 5 12] [0,5])
(.seq (.seq (rg [mV 13 0,
lN 14 13,
mV 15 (cI 0)] [5,13,14,15])
(.block 0 (.loop (.scope zh1))))
zh2)))
def z7e:AFun:=⟨2,[.t 4],zh0,false,false⟩
def zh3:ACode:=(.seq (rg [mV 8 0,
uO 9 (.nilchk 8),
fA 10 37 none 9,
lD 11 none 10,
bN 12 .add 11 (cI 1),
uO 13 (.nilchk 8),
fA 14 37 none 13,
wO (.store none 14 12)] [0,1,2,3])
(.seq (rg [mV 15 0,
uO 16 (.nilchk 15),
fA 17 45 none 16,
lD 18 none 17] [0,1,2,3,18])
(.cond 18 (dr [dF (mV 19 0) [0],
dF (mV 20 0) [0],
dF (mV 21 0) [0],
dF (mV 22 0) [0],
dF (uO 23 (.nilchk 22)) [22],
dF (fA 24 42 none 23) [23],
dF (lD 25 none 24) [24],
dF (mV 26 1) [1],
dF (uO 27 (.bsl false none 1 (.int .u8 0) [(0,26)])) [26],
dT (uO 28 (.app none 25 27)) [25,27],
dF (mV 29 0) [0],
dF (uO 30 (.nilchk 29)) [29],
dF (fA 31 43 none 30) [30],
dA (lD 32 none 31) [31] false [9] [],
dF (mV 33 2) [2],
dA (uO 34 (.bsl false none 1 (.int .u8 0) [(0,33)])) [33] false [9] [],
dT (uO 35 (.app none 32 34)) [32,34],
dF (mV 36 0) [0],
dF (uO 37 (.nilchk 36)) [36],
dF (fA 38 44 none 37) [37],
dA (lD 39 none 38) [38] false [9,16] [],
dF (mV 40 3) [3],
dA (uO 41 (.bsl false none 1 (.int .u8 0) [(0,40)])) [40] false [9,16] [],
dT (uO 42 (.app none 39 41)) [39,41],
dF (uO 43 (.nilchk 19)) [19],
dF (fA 44 42 none 43) [43],
dT (wO (.store none 44 28)) [44,28],
dF (uO 45 (.nilchk 20)) [20],
dF (fA 46 43 none 45) [45],
dT (wO (.store none 46 35)) [46,35],
dF (uO 47 (.nilchk 21)) [21],
dF (fA 48 44 none 47) [47],
dT (wO (.store none 48 42)) [48,42]] [])
.skip)))
def z7f:AFun:=⟨4,[],zh3,false,false⟩
def zh5:ACode:=.pr [0,3,5,7,9,10,11,12,13,14,93,94] (rg [mV 126 0,
mV 127 13,
mV 128 10,
mV 129 12,
uO 130 (.idxs 128 129),
mV 131 14,
cL 132 OP [126,127,130,131]] [0,3,5,7,9,10,11,93,94])
def zh6:ACode:=.pr [0,3,5,7,9,10,11,12,13,14,93,94] (.seq (.seq (rg [mV 102 12,
mV 103 5,
uO 104 (.lens 103),
bN 105 .sub 102 104,
mV 15 105] [0,3,5,7,9,10,11,12,13,14,15,93,94])
(.seq (rg [mV 106 15,
bN 107 .geq 106 (cI 0),
mV 108 107,
gD 109 108 true (.mv 15),
gD 110 108 true (.faddr 5 none 3),
gD 111 108 true (.load none 110),
gD 112 108 true (.lens 111),
gD 113 108 true (.bin .lss 109 112),
uO 114 (.pick 108 113 cF),
mV 115 114,
gD 116 115 true (.faddr 5 none 3),
gD 117 115 true (.load none 116),
gD 118 115 true (.mv 15),
gD 119 115 true (.idxs 117 118),
gD 120 115 true (.bin .eql 119 (.c (.p (.int .u8 49)))),
uO 121 (.pick 115 120 cF)] [0,3,5,7,9,10,11,12,13,14,15,93,94,121])
(.cond 121 (rg [fA 122 4 none 3,
lD 123 none 122,
mV 124 15,
uO 125 (.idxs 123 124),
mV 14 125] [0,3,5,7,9,10,11,12,13,14,93,94])
.skip)))
zh5)
def zh7:ACode:=.pr [0,3,5,7,9,10,11,93,94] (rg [bN 133 .add 94 (cI 1),
mV 94 133] [0,3,5,7,9,10,11,93,94])
def zh8:ACode:=.pr [0,3,5,7,9,10,11,93,94] (.seq (rg [bN 95 .lss 94 93] [0,3,5,7,9,10,11,93,94,95])
(.seq (.cond 95 .skip
(.exit 0))
(.seq (.block 1 (.seq (rg [mV 96 94,
mV 12 96] [0,3,5,7,9,10,11,12,93,94])
(.seq (rg [mV 13 (.c (.p (.int .u8 48))),
mV 14 (.c (.p (.int .u8 120)))] [0,3,5,7,9,10,11,12,13,14,93,94])
(.seq (.seq (rg [mV 97 12,
mV 98 10,
uO 99 (.lens 98),
bN 100 .sub 99 (cI 1),
bN 101 .eql 97 100] [0,3,5,7,9,10,11,12,13,14,93,94,101])
(.cond 101 (rg [mV 13 (.c (.p (.int .u8 49)))] [0,3,5,7,9,10,11,12,13,14,93,94])
.skip))
zh6))))
zh7)))
def zh9:ACode:=.pr [0,7,9,11] (.seq (rg [mV 134 0,
mV 135 9,
uO 136 (.nilchk 134),
fA 137 36 none 136,
wO (.store none 137 135)] [0,7,11])
(.seq (rg [mV 138 0,
mV 139 7,
cL 140 kM [138,139]] [11])
(.seq (rg [mV 141 11,
mV 4 141] [4])
.ret)))
def zhA:ACode:=.pr [0,3,5,7,9,10] (.seq (rg [mV 85 0,
uO 86 (.nilchk 85),
fA 87 37 none 86,
lD 88 none 87,
mV 89 5,
uO 90 (.lens 89),
bN 91 .add 88 90,
mV 11 91] [0,3,5,7,9,10,11])
(.seq (.seq (rg [mV 92 10,
uO 93 (.lens 92),
mV 94 (cI 0)] [0,3,5,7,9,10,11,93,94])
(.block 0 (.loop zh8)))
zh9))
def zhB:ACode:=.pr [0,3,5,6,7,8,9] (.seq (rg [mV 55 0,
mV 56 8,
cL 57 kM [55,56]] [0,3,5,6,7,9])
(.seq (rg [mV 58 5,
fA 59 3 none 3,
lD 60 none 59,
bN 61 .add 58 60,
mV 62 6,
bN 63 .add 61 62,
mV 10 63] [0,3,5,7,9,10])
(.seq (.seq (rg [fA 64 0 none 3,
lD 65 none 64,
bN 66 .eql 65 (cI 7)] [0,3,5,7,9,10,66])
(.cond 66 (rg [mV 67 0,
uO 68 (.nilchk 67),
fA 69 38 none 68,
lD 70 none 69,
mV 71 10,
uO 72 (.lens 71),
bN 73 .add 70 72,
uO 74 (.nilchk 67),
fA 75 38 none 74,
wO (.store none 75 73)] [0,3,5,7,9,10])
(rg [mV 76 0,
uO 77 (.nilchk 76),
fA 78 39 none 77,
lD 79 none 78,
mV 80 10,
uO 81 (.lens 80),
bN 82 .add 79 81,
uO 83 (.nilchk 76),
fA 84 39 none 83,
wO (.store none 84 82)] [0,3,5,7,9,10])))
zhA)))
def zh4:ACode:=(.seq (rg [uO 3 (.box 1),
mV 4 (cI 0)] [0,3])
(.seq (dr [dF (mV 16 0) [0],
dF (uO 17 (.nilchk 16)) [16],
dF (fA 18 0 (some 36) 17) [17],
dF (fA 19 24 (some 6) 18) [18],
dF (fA 20 3 none 19) [19],
dF (lD 21 none 20) [20],
dF (mV 22 0) [0],
dF (uO 23 (.nilchk 22)) [22],
dF (fA 24 0 (some 36) 23) [23],
dF (fA 25 30 (some 6) 24) [24],
dF (fA 26 3 none 25) [25],
dF (lD 27 none 26) [26],
dF (mV 28 0) [0],
dF (uO 29 (.nilchk 28)) [28],
dF (fA 30 0 (some 36) 29) [29],
dF (fA 31 6 (some 6) 30) [30],
dF (fA 32 1 none 31) [31],
dF (lD 33 none 32) [32],
dF (mV 5 21) [21],
dF (mV 6 27) [27],
dF (mV 7 33) [33],
dF (mV 8 (cI 4)) [],
dF (mV 9 (cI 5)) []] [0,3,5,6,7,8,9])
(.seq (.seq (rg [fA 34 0 none 3,
lD 35 none 34,
bN 36 .eql 35 (cI 7)] [0,3,5,6,7,8,9,36])
(.cond 36 (dr [dF (mV 37 0) [0],
dF (uO 38 (.nilchk 37)) [37],
dF (fA 39 0 (some 36) 38) [38],
dF (fA 40 12 (some 6) 39) [39],
dF (fA 41 3 none 40) [40],
dF (lD 42 none 41) [41],
dF (mV 43 0) [0],
dF (uO 44 (.nilchk 43)) [43],
dF (fA 45 0 (some 36) 44) [44],
dF (fA 46 18 (some 6) 45) [45],
dF (fA 47 3 none 46) [46],
dF (lD 48 none 47) [47],
dF (mV 49 0) [0],
dF (uO 50 (.nilchk 49)) [49],
dF (fA 51 0 (some 36) 50) [50],
dF (fA 52 0 (some 6) 51) [51],
dF (fA 53 1 none 52) [52],
dF (lD 54 none 53) [53],
dF (mV 5 42) [42],
dF (mV 6 48) [48],
dF (mV 7 54) [54],
dF (mV 8 (cI 11)) [],
dF (mV 9 (cI 12)) []] [0,3,5,6,7,8,9])
.skip))
zhB)))
def z7g:AFun:=⟨2,[.t 4],zh4,false,false⟩
def zhC:ACode:=.pr [0,4,35,36] (.seq (rg [bN 37 .lss 36 35] [0,4,35,36,37])
(.seq (.cond 37 .skip
(.exit 1))
(.seq (.block 2 (rg [mV 38 0,
cL 39 OP [38,(.c (.p (.int .u8 48))),(.c (.p (.int .u8 48))),(.c (.p (.int .u8 120)))]] [0,4,35,36]))
(rg [bN 40 .add 36 (cI 1),
mV 36 40] [0,4,35,36]))))
def zhD:ACode:=.pr [0,4] (.seq (dr [dF (mV 41 0) [0],
dF (mV 42 0) [0],
dF (uO 43 (.nilchk 42)) [42],
dF (fA 44 40 none 43) [43],
dF (lD 45 none 44) [44],
dF (mV 46 0) [0],
dF (uO 47 (.nilchk 46)) [46],
dF (fA 48 36 none 47) [47],
dF (lD 49 none 48) [48],
dF (uO 50 (.bsl false none 1 (.int .i64 0) [(0,49)])) [49],
dT (uO 51 (.app none 45 50)) [45,50],
dF (uO 52 (.nilchk 41)) [41],
dF (fA 53 40 none 52) [52],
dT (wO (.store none 53 51)) [53,51]] [0,4])
(rg [mV 54 0,
mV 55 0,
uO 56 (.nilchk 55),
fA 57 41 none 56,
lD 58 none 57,
mV 59 4,
uO 60 (.bsl false none 1 (.int .i64 0) [(0,59)]),
uO 61 (.app none 58 60),
uO 62 (.nilchk 54),
fA 63 41 none 62,
wO (.store none 63 61)] []))
def z69 (q1 q2:ACode):ACode:=(.seq (rg [uO 3 (.box 1)] [0,3])
(.seq (rg [mV 4 (cI 0)] [0,3,4])
(.seq (.block 0 (.seq (rg [fA 10 0 none 3,
lD 11 none 10,
cL 12 z2I [11],
mV 9 12] [0,3,4,9])
(.cond 9 (dr [dF (mV 13 0) [0],
dF (uO 14 (.nilchk 13)) [13],
dF (fA 15 0 (some 36) 14) [14],
dF (fA 16 0 none 3) [3],
dF (lD 17 none 16) [16],
dT (cL 18 z2N [15,17]) [15,17],
dA (lD 19 (some 6) 3) [3] false [5] [],
dF (uO 20 (.nilchk 18)) [18],
dT (wO (.store (some 6) 20 19)) [20,19]] [0,4])
(.seq (rg [fA 22 0 none 3,
lD 23 none 22,
cL 24 HW [23],
mV 21 24] [0,3,4,21])
(.cond 21 (rg [mV 25 0,
lD 26 (some 6) 3,
cL 27 z2K [25,26],
mV 4 27] [0,4])
(.seq (rg [fA 29 0 none 3,
lD 30 none 29,
bN 31 .eql 30 (cI 9),
mV 28 31] [0,3,4,28])
(.cond 28 (.seq (rg [mV 32 0,
cL 33 kM [32,(cI 1)]] [0,3,4])
(.seq (rg [fA 34 2 none 3,
lD 35 none 34,
mV 36 (cI 0)] [0,4,35,36])
(.block 1 (.loop q1))))
(rg [mV 5 0,
fA 6 1 none 3,
lD 7 none 6,
cL 8 kM [5,7]] [0,4]))))))))
q2)))
def z7h:AFun:=⟨2,[],z69 zhC zhD,false,false⟩
def zhF:ACode:=.pr [0,1,4,17,18] (.seq (rg [bN 19 .lss 18 17] [0,1,4,17,18,19])
(.seq (.cond 19 .skip
(.exit 0))
(.seq (.block 1 (.seq (rg [mV 20 18,
mV 6 20] [0,1,4,6,17,18])
(rg [mV 21 0,
mV 22 4,
mV 23 6,
uO 24 (.idxs 22 23),
cL 25 OP [21,24,(.c (.p (.int .u8 48))),(.c (.p (.int .u8 120)))]] [0,1,4,17,18])))
(rg [bN 26 .add 18 (cI 1),
mV 18 26] [0,1,4,17,18]))))
def zhG:ACode:=.pr [0,1] (rg [mV 27 0,
mV 28 1,
uO 29 (.nilchk 27),
fA 30 36 none 29,
wO (.store none 30 28)] [])
def zhE:ACode:=(.seq (rg [mV 8 0,
uO 9 (.nilchk 8),
fA 10 36 none 9,
lD 11 none 10,
mV 12 1,
cL 13 z2F [11,12],
mV 7 13,
eX 14 7 0,
eX 15 7 1,
mV 4 14,
mV 5 15] [0,1,4])
(.seq (.seq (rg [mV 16 4,
uO 17 (.lens 16),
mV 18 (cI 0)] [0,1,4,17,18])
(.block 0 (.loop zhF)))
zhG))
def z7i:AFun:=⟨2,[],zhE,false,false⟩
def zhH:ACode:=(.seq (rg [uO 1 (.box 0),
mV 2 (cI 0)] [1])
(.seq (.block 0 (.seq (rg [fA 4 3 none 1,
lD 5 none 4,
bN 6 .eql 5 (cS []),
mV 3 6] [1,3])
(.cond 3 (.seq (rg [mV 2 (cI 8)] [2])
.ret)
(.seq (rg [fA 8 3 none 1,
lD 9 none 8,
cL 10 eJ [9],
uO 11 (.un .not 10),
mV 7 11] [1,7])
(.cond 7 (.seq (rg [mV 2 (cI 9)] [2])
.ret)
(.seq (rg [fA 13 3 none 1,
lD 14 none 13,
uO 15 (.lens 14),
bN 16 .gtr 15 (cI 2000),
mV 12 16] [1,12])
(.cond 12 (.seq (rg [mV 2 (cI 2)] [2])
.ret)
(.seq (rg [fA 18 4 none 1,
lD 19 none 18,
bN 20 .neq 19 (cS []),
mV 21 20,
gD 22 21 true (.faddr 4 none 1),
gD 23 21 true (.load none 22),
gD 24 21 true (.lens 23),
gD 25 21 true (.faddr 3 none 1),
gD 26 21 true (.load none 25),
gD 27 21 true (.lens 26),
gD 28 21 true (.bin .neq 24 27),
gD 29 21 true (.mv 28),
gD 30 29 false (.faddr 5 none 1),
gD 31 29 false (.load none 30),
gD 32 29 false (.lens 31),
gD 33 29 false (.faddr 3 none 1),
gD 34 29 false (.load none 33),
gD 35 29 false (.lens 34),
gD 36 29 false (.bin .neq 32 35),
gD 37 21 true (.pick 29 cT 36),
uO 38 (.pick 21 37 cF),
mV 17 38] [1,17])
(.cond 17 (.seq (rg [mV 2 (cI 3)] [2])
.ret)
(.seq (rg [fA 40 4 none 1,
lD 41 none 40,
cL 42 eJ [41],
uO 43 (.un .not 42),
mV 44 43,
gD 45 44 false (.faddr 5 none 1),
gD 46 44 false (.load none 45),
gD 47 44 false (.call eJ [46]),
gD 48 44 false (.un .not 47),
uO 49 (.pick 44 cT 48),
mV 39 49] [1,39])
(.cond 39 (.seq (rg [mV 2 (cI 9)] [2])
.ret)
(.seq (rg [fA 51 4 none 1,
lD 52 none 51,
bN 53 .eql 52 (cS []),
mV 54 53,
gD 55 54 true (.faddr 5 none 1),
gD 56 54 true (.load none 55),
gD 57 54 true (.bin .neq 56 (cS [])),
uO 58 (.pick 54 57 cF),
mV 50 58] [50])
(.cond 50 (.seq (rg [mV 2 (cI 3)] [2])
.ret)
.skip)))))))))))))
(.seq (rg [mV 2 (cI 0)] [2])
.ret)))
def z7j:AFun:=⟨1,[.t 2],zhH,false,false⟩
def zhI:ACode:=(.seq (rg [mV 4 (.c (.nilp))] [0,1])
(.seq (.seq (rg [mV 5 1] [0,5])
(.block 0 (.seq (rg [bN 7 .eql 5 (cI 1),
mV 6 7] [0,5,6])
(.cond 6 (.seq (rg [mV 8 0,
uO 9 (.nilchk 8),
fA 10 0 (some 6) 9,
mV 4 10] [4])
.ret)
(.seq (rg [bN 12 .eql 5 (cI 2),
mV 11 12] [0,5,11])
(.cond 11 (.seq (rg [mV 13 0,
uO 14 (.nilchk 13),
fA 15 6 (some 6) 14,
mV 4 15] [4])
.ret)
(.seq (rg [bN 17 .eql 5 (cI 3),
mV 16 17] [0,5,16])
(.cond 16 (.seq (rg [mV 18 0,
uO 19 (.nilchk 18),
fA 20 12 (some 6) 19,
mV 4 20] [4])
.ret)
(.seq (rg [bN 22 .eql 5 (cI 4),
mV 21 22] [0,5,21])
(.cond 21 (.seq (rg [mV 23 0,
uO 24 (.nilchk 23),
fA 25 18 (some 6) 24,
mV 4 25] [4])
.ret)
(.seq (rg [bN 27 .eql 5 (cI 5),
mV 26 27] [0,26])
(.cond 26 (.seq (rg [mV 28 0,
uO 29 (.nilchk 28),
fA 30 24 (some 6) 29,
mV 4 30] [4])
.ret)
.skip))))))))))))
(.seq (rg [mV 31 0,
uO 32 (.nilchk 31),
fA 33 30 (some 6) 32,
mV 4 33] [4])
.ret)))
def z7k:AFun:=⟨2,[.t 4],zhI,false,false⟩
def zhJ:ACode:=(.seq (rg [mV 2 cF] [0])
(.seq (rg [mV 3 0,
bN 4 .eql 3 (cI 0),
mV 5 4,
gD 6 5 false (.mv 0),
gD 7 5 false (.bin .eql 6 (cI 1)),
uO 8 (.pick 5 cT 7),
mV 9 8,
gD 10 9 false (.mv 0),
gD 11 9 false (.bin .eql 10 (cI 6)),
uO 12 (.pick 9 cT 11),
mV 13 12,
gD 14 13 false (.mv 0),
gD 15 13 false (.bin .eql 14 (cI 13)),
uO 16 (.pick 13 cT 15),
mV 2 16] [2])
.ret))
def z7l:AFun:=⟨1,[.t 2],zhJ,false,false⟩
def zhK:ACode:=(.seq (rg [uO 0 (.alloc [.p (.int .i64 0),.p (.int .i64 0),.p (.int .i64 0),.p (.str []),.p (.str []),.p (.str []),.p (.int .i64 0),.p (.int .i64 0),.p (.int .i64 0),.p (.str []),.p (.str []),.p (.str []),.p (.int .i64 0),.p (.int .i64 0),.p (.int .i64 0),.p (.str []),.p (.str []),.p (.str []),.p (.int .i64 0),.p (.int .i64 0),.p (.int .i64 0),.p (.str []),.p (.str []),.p (.str []),.p (.int .i64 0),.p (.int .i64 0),.p (.int .i64 0),.p (.str []),.p (.str []),.p (.str []),.p (.int .i64 0),.p (.int .i64 0),.p (.int .i64 0),.p (.str []),.p (.str []),.p (.str [])])] [0])
(.seq (rg [uO 1 (.build [.p (.int .i64 0),.p (.int .i64 0),.p (.int .i64 0),.p (.str []),.p (.str []),.p (.str [])] [(0,1,(cI 1)),(1,1,(cI 1))]),
uO 2 (.build [.p (.int .i64 0),.p (.int .i64 0),.p (.int .i64 0),.p (.str []),.p (.str []),.p (.str [])] [(0,1,(cI 2)),(1,1,(cI 1))]),
uO 3 (.build [.p (.int .i64 0),.p (.int .i64 0),.p (.int .i64 0),.p (.str []),.p (.str []),.p (.str [])] [(0,1,(cI 3))]),
uO 4 (.build [.p (.int .i64 0),.p (.int .i64 0),.p (.int .i64 0),.p (.str []),.p (.str []),.p (.str [])] [(0,1,(cI 4))]),
uO 5 (.build [.p (.int .i64 0),.p (.int .i64 0),.p (.int .i64 0),.p (.str []),.p (.str []),.p (.str [])] [(0,1,(cI 5))]),
uO 6 (.build [.p (.int .i64 0),.p (.int .i64 0),.p (.int .i64 0),.p (.str []),.p (.str []),.p (.str [])] [(0,1,(cI 6))]),
uO 7 (.build [.p (.int .i64 0),.p (.int .i64 0),.p (.int .i64 0),.p (.str []),.p (.str []),.p (.str []),.p (.int .i64 0),.p (.int .i64 0),.p (.int .i64 0),.p (.str []),.p (.str []),.p (.str []),.p (.int .i64 0),.p (.int .i64 0),.p (.int .i64 0),.p (.str []),.p (.str []),.p (.str []),.p (.int .i64 0),.p (.int .i64 0),.p (.int .i64 0),.p (.str []),.p (.str []),.p (.str []),.p (.int .i64 0),.p (.int .i64 0),.p (.int .i64 0),.p (.str []),.p (.str []),.p (.str []),.p (.int .i64 0),.p (.int .i64 0),.p (.int .i64 0),.p (.str []),.p (.str []),.p (.str [])] [(0,6,1),(6,6,2),(12,6,3),(18,6,4),(24,6,5),(30,6,6)]),
wO (.store (some 36) 0 7)] [0])
.ret))
def z7m:AFun:=⟨0,[.cell 0 (some 36)],zhK,false,false⟩
end Go.Am
end
section
/- The abstract machine,part L: functions of the library that are met by the kit's contracts: plain values in,plain values out,new memory at most. -/
set_option linter.unusedSimpArgs false
set_option linter.unusedVariables false
namespace Go.Am
variable {P:Program} {gl:Nat→Option PV}
structure PureRow (P:Program) (gl:Nat→Option PV) (f:Nat) (spec:List PV→Option AV):Prop where
 enter:∀us w,(callFunc f us).run P w = .ok (.enter f us) w
 run:∀(M:Mem) (w:World) (vs:List PV) (r:AV) (us:List Value),(∀b o v,M.c b o=some v→w.cell? ⟨b,o,none⟩=some v)→(∀b o,M.b b=some o→w.heap[b]?=some o)→LD gl M→vs.length=us.length →
  (∀(j:Nat) (y:PV) (v:Value),vs[j]?=some y→us[j]?=some v→RPV M y v)→spec vs=some r →
  Calls P f us.toArray w fun e w'=>∃x,e = .returned x∧WExt w w'∧RAV (EG M w w') [] [] r x
abbrev pH:=List (Nat × (List PV→Option AV))
def HK:pH→Nat→List AV→aA→Option (AV × aA × Esc)
 | [],_,_,_=>none
 | (g,s)::r,f,asv,h=>bif Nat.beq f g then((unp asv).bind s).map fun v=>(v,h,[]) else HK r f asv h
theorem vZ:∀ (gs:pH),(∀ g s,(g,s)∈gs→PureRow P gl g s)→∀ {f:Nat} {asv:List AV} {h:aA} {v:AV} {h':aA} {x:Esc},HK gs f asv h=some (v,h',x) →
 pC P gl f asv h fun v1 h1 x1=>v1=v∧h1=h'∧x1=x
 | [],_,f,asv,h,v,h',x,H=>by cases H
 | (g,s)::r,hg,f,asv,h,v,h',x,H=>by
  unfold HK at H;cases e1:Nat.beq f g with
  | false=>
   rw[e1]at H;exact vZ r (fun g sh hm=>hg g sh (by simp [hm])) H
  | true=>
   rw[e1]at H;have e:=Nat.eq_of_beq_eq_true e1
   subst e;have R:=hg f s (by simp)
   simp only[cond_true]at H;obtain⟨y,hy,e2⟩:=Option.map_eq_some_iff.1 H;simp only[Prod.mk.injEq]at e2;obtain⟨rfl,rfl,rfl⟩:=e2;obtain⟨ps,hps,hs⟩:=Option.bind_eq_some_iff.1 hy;have hm:=WK hps
   subst hm;intro μ w vs Hh Hg hl hr;refine .inl ⟨R.enter _,?_⟩;refine(R.run (imm h μ w) w ps y vs (fun b o v hv=>(ED.1 hv).2) (fun b o hv=>(VG.1 hv).2) Hg (by simpa using hl) (fun j q v hq hv=>(hr j (.p q) v (by simp [hq]) hv).p_inv) hs).mono fun e w' he=>?_
   obtain⟨u,rfl,g1,g2⟩:=he;obtain⟨n1,n2⟩:=Hh.ext g1;have Lq:(EG (imm h μ w) w w').le (imm h μ w'):=by
    refine⟨fun b o v hv=>?_,fun b o hv=>?_,rfl,fun _ _ h=>by cases h⟩
    ·dsimp only[EG]at hv
     split at hv
     ·exact n2.le.c _ _ _ hv
     ·rename_i hb
      exact ED.2 ⟨fun hO=>hb (sX Hh hO),hv⟩
    ·dsimp only[EG]at hv
     cases hv
   exact⟨_,_,_,μ,⟨rfl,rfl,rfl⟩,g2.evo ⟨Lq,Nat.zero_le _,fun id o m h1=>by simp at h1⟩,n1,n2,nA.refl h []⟩
def libF (gs:List (Nat × Sh))(ps:pH)(f:Nat)(asv:List AV)(h:aA):Option (AV×aA×Esc):=match WP gs f asv h with
 | some y=>some y
 | none=>match HK ps f asv h with
  | some y=>some y
  | none=>match lA h asv with
   | some (asv',h1)=>HK ps f asv' h1
   | none=>none
theorem zhU {ps:pH}(hp:∀ g s,(g,s)∈ps→PureRow P gl g s){f:Nat}{asv asv':List AV}{h h1:aA}{v:AV}{h':aA}{x:Esc}(hq:lA h asv=some (asv',h1))(H:HK ps f asv' h1=some (v,h',x)) :
 pC P gl f asv h fun v1 h2 x1=>v1=v∧h2=h'∧x1=x:=by
 intro μ w vs Hh Hg hl hr;obtain⟨q1,q2,q3⟩:=LR asv Hh hl hr hq;rcases vZ ps hp H μ w vs q1.1 (Hg.mono q1.2.1.le) q2 q3 with⟨k1,k2⟩|⟨r,w',v2,h2,x2,μ',k1,k2,k3,k4,k5,k6⟩
 ·refine .inl ⟨k1,k2.mono fun e w' he=>?_⟩
  cases e with
  | returned r=>
   obtain⟨v2,h2,x2,μ',k2,k3,k4,k5,k6⟩:=he;exact⟨v2,h2,x2,μ',k2,k3,k4,q1.2.1.trans k5,by simpa using q1.2.2.trans k6⟩
  | panicked _=>exact he
  | outgrown=>exact he
 ·exact .inr ⟨r,w',v2,h2,x2,μ',k1,k2,k3,k4,q1.2.1.trans k5,by simpa using q1.2.2.trans k6⟩
theorem libF_ok {gs:List (Nat × Sh)}{ps:pH}(hg:∀ g sh,(g,sh)∈gs→GrowRow P g sh)(hp:∀ g s,(g,s)∈ps→PureRow P gl g s){f:Nat}{asv:List AV}{h:aA}{v:AV}{h':aA}{x:Esc}(H:libF gs ps f asv h=some (v,h',x)) :
 pC P gl f asv h fun v1 h1 x1=>v1=v∧h1=h'∧x1=x:=by
 unfold libF at H;split at H
 ·rename_i y hy
  cases H;exact z3H gs hg hy
 ·split at H
  ·rename_i y hy
   cases H;exact vZ ps hp hy
  ·split at H
   ·rename_i asv' h1 hq
    exact zhU hp hq H
   ·cases H
theorem zfM {X:Ctx}{f:Nat}{asv:List AV}{h h':aA}{v:AV}{x:Esc}{K:jA}(hf:X.fn f=none)(hx:X.ex2 f asv h=some (v,h',x)):bA X f asv h K=K v h' x:=by
 refine propext (bA.eq (bA.fold ?_) K);unfold NB;simp only[hf,hx];exact⟨trivial,trivial,trivial⟩
def glOf:List (Nat × PV)→Nat→Option PV
 | [],_=>none
 | (g,v)::r,n=>bif Nat.beq n g then some v else glOf r n
theorem zmd {f:Nat}(h:(match P.funcs[f]? with | some fn=>fn.body.isSome&&fn.name != "runtime.NumGoroutine" | none=>false)=true)(us:Array Value)(w:World):(callFunc f us).run P w = .ok (.enter f us) w:=by
 cases hf:P.funcs[f]? with
 | none=>rw[hf]at h;cases h
 | some fn=>
  rw[hf]at h;simp only[Bool.and_eq_true,bne_iff_ne,ne_eq]at h;cases hb:fn.body with
  | none=>rw[hb]at h;cases h.1
  | some c=>exact IP hf hb h.2 us w
theorem zmg {M:Mem}:LD (glOf []) M:=fun n v hv=>by cases hv
def z5Q (s cs:List UInt8):List UInt8:=(s.reverse.dropWhile (cs.contains ·)).reverse.dropWhile (cs.contains ·)
def trimS:List PV→Option AV
 | [.str s,.str cs]=>if s.length≤1000000∧cs.length≤1000∧cs.all (fun b=>decide (b.toNat<128))=true then some (.p (.str (z5Q s cs))) else none
 | _=>none
end Go.Am
end
