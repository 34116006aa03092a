/- Texts of the proof, laid together: CodesD, CodesE, CodesF, AmL, AmC. -/
import Derived.KernelRfl
import Derived.Test.YthlhdniejglcnaaGreatDoorlawPS5
set_option linter.all false
section
/- The functions asv abstract code,and asv formulas over their values: printed by program out of the translation. -/
set_option linter.all false
set_option maxRecDepth 100000
namespace Go.Am
def yY:ACode:=(.seq (rg [uO 2 (.box 0),
mV 3 cF] [1,2])
(.seq (rg [fA 4 0 none 2,
lD 5 none 4,
fA 6 0 none 1,
lD 7 none 6,
bN 8 .eql 5 7,
mV 3 8] [3])
.ret))
def zU:AFun:=⟨2,[.t 3],yY,false,false⟩
def MP (C:Hd)(gl:GL)(e:En)(h:aA)(x:Esc)(K:KT):Sf C gl yY e h x K:=⟨_,by simp only[yY,↓wZ,AO.still];rfl⟩
theorem zco {C gl v0 v1 h x K}:NW C gl zU.body ⟨enter [v0,v1],h,x⟩ K=(MP C gl [(0,v0),(1,v1)] h x K).1:=(MP C gl [(0,v0),(1,v1)] h x K).2
def yZ:ACode:=(.seq (rg [mV 2 cF] [0])
(.seq (rg [mV 3 0,
bN 4 .eql 3 (cI 0),
mV 5 4,
gD 6 5 false (.mv 0),
gD 7 5 false (.bin .eql 6 (cI 1)),
uO 8 (.pick 5 cT 7),
mV 9 8,
gD 10 9 false (.mv 0),
gD 11 9 false (.bin .eql 10 (cI 6)),
uO 12 (.pick 9 cT 11),
mV 13 12,
gD 14 13 false (.mv 0),
gD 15 13 false (.bin .eql 14 (cI 13)),
uO 16 (.pick 13 cT 15),
mV 2 16] [2])
.ret))
def bP:AFun:=⟨1,[.t 2],yZ,false,false⟩
def XG (C:Hd)(gl:GL)(e:En)(h:aA)(x:Esc)(K:KT):Sf C gl yZ e h x K:=⟨_,by simp only[yZ,↓wZ,AO.still];rfl⟩
theorem zdC {C gl v0 h x K}:NW C gl bP.body ⟨enter [v0],h,x⟩ K=(XG C gl [(0,v0)] h x K).1:=(XG C gl [(0,v0)] h x K).2
def uZ:ACode:=(.seq (rg [uO 1 (.box 0),
mV 2 (cI 0)] [1])
(.seq (.block 0 (.seq (rg [fA 4 3 none 1,
lD 5 none 4,
bN 6 .eql 5 (cS []),
mV 3 6] [1,3])
(.cond 3 (.seq (rg [mV 2 (cI 8)] [2])
.ret)
(.seq (rg [fA 8 3 none 1,
lD 9 none 8,
cL 10 ZD [9],
uO 11 (.un .not 10),
mV 7 11] [1,7])
(.cond 7 (.seq (rg [mV 2 (cI 9)] [2])
.ret)
(.seq (rg [fA 13 3 none 1,
lD 14 none 13,
uO 15 (.lens 14),
bN 16 .gtr 15 (cI 2000),
mV 12 16] [1,12])
(.cond 12 (.seq (rg [mV 2 (cI 2)] [2])
.ret)
(.seq (rg [fA 18 4 none 1,
lD 19 none 18,
bN 20 .neq 19 (cS []),
mV 21 20,
gD 22 21 true (.faddr 4 none 1),
gD 23 21 true (.load none 22),
gD 24 21 true (.lens 23),
gD 25 21 true (.faddr 3 none 1),
gD 26 21 true (.load none 25),
gD 27 21 true (.lens 26),
gD 28 21 true (.bin .neq 24 27),
gD 29 21 true (.mv 28),
gD 30 29 false (.faddr 5 none 1),
gD 31 29 false (.load none 30),
gD 32 29 false (.lens 31),
gD 33 29 false (.faddr 3 none 1),
gD 34 29 false (.load none 33),
gD 35 29 false (.lens 34),
gD 36 29 false (.bin .neq 32 35),
gD 37 21 true (.pick 29 cT 36),
uO 38 (.pick 21 37 cF),
mV 17 38] [1,17])
(.cond 17 (.seq (rg [mV 2 (cI 3)] [2])
.ret)
(.seq (rg [fA 40 4 none 1,
lD 41 none 40,
cL 42 ZD [41],
uO 43 (.un .not 42),
mV 44 43,
gD 45 44 false (.faddr 5 none 1),
gD 46 44 false (.load none 45),
gD 47 44 false (.call ZD [46]),
gD 48 44 false (.un .not 47),
uO 49 (.pick 44 cT 48),
mV 39 49] [1,39])
(.cond 39 (.seq (rg [mV 2 (cI 9)] [2])
.ret)
(.seq (rg [fA 51 4 none 1,
lD 52 none 51,
bN 53 .eql 52 (cS []),
mV 54 53,
gD 55 54 true (.faddr 5 none 1),
gD 56 54 true (.load none 55),
gD 57 54 true (.bin .neq 56 (cS [])),
uO 58 (.pick 54 57 cF),
mV 50 58] [50])
(.cond 50 (.seq (rg [mV 2 (cI 3)] [2])
.ret)
.skip)))))))))))))
(.seq (rg [mV 2 (cI 0)] [2])
.ret)))
def ZO:AFun:=⟨1,[.t 2],uZ,false,false⟩
def XD (C:Hd)(gl:GL)(e:En)(h:aA)(x:Esc)(K:KT):Sf C gl uZ e h x K:=⟨_,by simp only[uZ,↓wZ,AO.still];rfl⟩
theorem zd9 {C gl v0 h x K}:NW C gl ZO.body ⟨enter [v0],h,x⟩ K=(XD C gl [(0,v0)] h x K).1:=(XD C gl [(0,v0)] h x K).2
def RY:ACode:=(.seq (rg [mV 4 (cS []),
mV 5 (cI 0)] [0,1])
(.seq (.seq (rg [mV 6 0,
cL 7 uI [6],
uO 8 (.un .not 7),
mV 9 8,
gD 10 9 false (.mv 1),
gD 11 9 false (.call uI [10]),
gD 12 9 false (.un .not 11),
uO 13 (.pick 9 cT 12)] [0,1,13])
(.cond 13 (.seq (rg [mV 4 (cS []),
mV 5 (cI 1)] [4,5])
.ret)
.skip))
(.seq (rg [mV 14 0,
mV 15 1,
cL 16 PF [14,15],
mV 4 16,
mV 5 (cI 0)] [4,5])
.ret)))
def NO:AFun:=⟨2,[.t 4,.t 5],RY,false,false⟩
def cQ (C:Hd)(gl:GL)(e:En)(h:aA)(x:Esc)(K:KT):Sf C gl RY e h x K:=⟨_,by simp only[RY,↓wZ,AO.still];rfl⟩
theorem zcG {C gl v0 v1 h x K}:NW C gl NO.body ⟨enter [v0,v1],h,x⟩ K=(cQ C gl [(0,v0),(1,v1)] h x K).1:=(cQ C gl [(0,v0),(1,v1)] h x K).2
def UY:ACode:=(.seq (rg [uO 2 (.box 0),
mV 3 cF] [1,2])
(.seq (rg [fA 4 0 none 2,
lD 5 none 4,
fA 6 0 none 1,
lD 7 none 6,
bN 8 .eql 5 7,
mV 3 8] [3])
.ret))
def UU:AFun:=⟨2,[.t 3],UY,false,false⟩
def eQ (C:Hd)(gl:GL)(e:En)(h:aA)(x:Esc)(K:KT):Sf C gl UY e h x K:=⟨_,by simp only[UY,↓wZ,AO.still];rfl⟩
theorem zcL {C gl v0 v1 h x K}:NW C gl UU.body ⟨enter [v0,v1],h,x⟩ K=(eQ C gl [(0,v0),(1,v1)] h x K).1:=(eQ C gl [(0,v0),(1,v1)] h x K).2
def ZK:ACode:=.pr [1,6,7,8] (.seq (rg [bN 9 .lss 8 7] [1,6,7,8,9])
(.seq (.cond 9 .skip
(.exit 0))
(.seq (.block 1 (.seq (rg [mV 10 8,
iA 11 (some 2) 6 8,
lD 12 (some 2) 11,
uO 4 (.alloc [.p (.str []),.p (.int .i64 0)]),
mV 3 10,
wO (.store (some 2) 4 12)] [1,3,4,6,7,8])
(.block 2 (.seq (rg [fA 14 0 none 4,
lD 15 none 14,
cL 16 zD [15],
uO 17 (.un .not 16),
mV 13 17] [1,3,4,6,7,8,13])
(.cond 13 (.seq (rg [mV 2 (cI 5)] [2])
.ret)
(.seq (rg [fA 19 0 none 4,
lD 20 none 19,
bN 21 .eql 20 (cS [98,121,112,97,115,115]),
mV 22 21,
gD 23 22 false (.faddr 0 none 4),
gD 24 22 false (.load none 23),
gD 25 22 false (.bin .eql 24 (cS [105,100,99,111,100,101])),
uO 26 (.pick 22 cT 25),
mV 27 26,
gD 28 27 false (.faddr 3 none 1),
gD 29 27 false (.load none 28),
gD 30 27 false (.mv 3),
gD 31 27 false (.slice (some 2) 29 none (some 30) none),
gD 32 27 false (.mkfn yN [4]),
gD 33 27 false (.call rI [31,32]),
uO 34 (.pick 27 cT 33),
mV 18 34] [1,4,6,7,8,18])
(.cond 18 (.seq (rg [mV 2 (cI 6)] [2])
.ret)
(.seq (rg [fA 36 1 none 4,
lD 37 none 36,
cL 38 WB [37,(cI 1),(cI 1000)],
mV 35 38] [1,6,7,8,35])
(.cond 35 (.seq (rg [mV 2 (cI 1)] [2])
.ret)
.skip)))))))))
(rg [bN 39 .add 8 (cI 1),
mV 8 39] [1,6,7,8]))))
def JF (C:Hd)(gl:GL)(e:En)(h:aA)(x:Esc)(K:KT):Sf C gl ZK e h x K:=⟨_,by simp only[ZK,↓wZ,AO.still];rfl⟩
theorem ZG {C gl e h x K}:NW C gl ZK ⟨e,h,x⟩ K=(JF C gl e h x K).1:=(JF C gl e h x K).2
theorem zfe {C gl e h x K}:NW C gl (.loop (.scope ZK)) ⟨e,h,x⟩ K=ZA C gl (.scope ZK) K [(1,kA e 1),(6,kA e 6),(7,kA e 7),(8,kA e 8)] h x:=WC
def uS:ACode:=.pr [] (.seq (rg [mV 2 (cI 0)] [2])
.ret)
def nQ (C:Hd)(gl:GL)(e:En)(h:aA)(x:Esc)(K:KT):Sf C gl uS e h x K:=⟨_,by simp only[uS,↓wZ,AO.still];rfl⟩
theorem z2q {C gl e h x K}:NW C gl uS ⟨e,h,x⟩ K=(nQ C gl e h x K).1:=(nQ C gl e h x K).2
def dZ:ACode:=(.seq (rg [uO 1 (.box 0),
mV 2 (cI 0)] [1])
(.seq (.seq (rg [fA 5 3 none 1,
lD 6 none 5,
lN 7 6,
mV 8 (cI 0)] [1,6,7,8])
(.block 0 (.loop (.scope ZK))))
uS))
def bV:AFun:=⟨1,[.t 2],dZ,false,false⟩
def mQ (C:Hd)(gl:GL)(e:En)(h:aA)(x:Esc)(K:KT):Sf C gl dZ e h x K:=⟨_,by simp only[dZ,↓wZ,AO.still];rfl⟩
theorem zcZ {C gl v0 h x K}:NW C gl bV.body ⟨enter [v0],h,x⟩ K=(mQ C gl [(0,v0)] h x K).1:=(mQ C gl [(0,v0)] h x K).2
def WK:ACode:=.pr [1,8,9,10] (.seq (rg [bN 11 .lss 10 9] [1,8,9,10,11])
(.seq (.cond 11 .skip
(.exit 0))
(.seq (.block 1 (.seq (rg [mV 12 10,
iA 13 (some 2) 8 10,
lD 14 (some 2) 13,
uO 4 (.alloc [.p (.str []),.p (.str [])]),
mV 3 12,
wO (.store (some 2) 4 14)] [1,3,4,8,9,10])
(.seq (.block 2 (.seq (rg [fA 16 0 none 4,
lD 17 none 16,
uO 18 (.lens 17),
fA 19 1 none 1,
lD 20 none 19,
bN 21 .neq 18 20,
mV 15 21] [1,3,4,8,9,10,15])
(.cond 15 (.seq (rg [mV 2 (cI 3)] [2])
.ret)
(.seq (rg [fA 23 0 none 4,
lD 24 none 23,
cL 25 ZD [24],
uO 26 (.un .not 25),
mV 22 26] [1,3,4,8,9,10,22])
(.cond 22 (.seq (rg [mV 2 (cI 9)] [2])
.ret)
(.seq (rg [fA 28 0 none 4,
lD 29 none 28,
cL 30 ZJ [29,(cS [48])],
uO 31 (.un .not 30),
mV 27 31] [1,3,4,8,9,10,27])
(.cond 27 (.seq (rg [mV 2 (cI 16)] [2])
.ret)
(.seq (rg [fA 33 4 none 1,
lD 34 none 33,
mV 35 3,
uO 36 (.slice (some 2) 34 none (some 35) none),
uO 37 (.mkfn uN [4]),
cL 38 WJ [36,37],
mV 32 38] [1,4,8,9,10,32])
(.cond 32 (.seq (rg [mV 2 (cI 6)] [2])
.ret)
.skip)))))))))
(.seq (rg [lD 40 (some 5) 1,
fA 41 1 none 4,
lD 42 none 41,
cL 43 vI [40,42],
mV 39 43,
eX 44 39 0,
eX 45 39 1,
uO 5 (.alloc [.p (.str []),.p (.int .i64 0)]),
wO (.store (some 2) 5 44),
mV 6 45] [1,6,8,9,10])
(.seq (rg [mV 46 6,
uO 47 (.un .not 46)] [1,8,9,10,47])
(.cond 47 (.seq (rg [mV 2 (cI 8)] [2])
.ret)
.skip))))))
(rg [bN 48 .add 10 (cI 1),
mV 10 48] [1,8,9,10]))))
def IF (C:Hd)(gl:GL)(e:En)(h:aA)(x:Esc)(K:KT):Sf C gl WK e h x K:=⟨_,by simp only[WK,↓wZ,AO.still];rfl⟩
theorem YG {C gl e h x K}:NW C gl WK ⟨e,h,x⟩ K=(IF C gl e h x K).1:=(IF C gl e h x K).2
theorem zfa {C gl e h x K}:NW C gl (.loop (.scope WK)) ⟨e,h,x⟩ K=ZA C gl (.scope WK) K [(1,kA e 1),(8,kA e 8),(9,kA e 9),(10,kA e 10)] h x:=WC
def rS:ACode:=.pr [] (.seq (rg [mV 2 (cI 0)] [2])
.ret)
def gQ (C:Hd)(gl:GL)(e:En)(h:aA)(x:Esc)(K:KT):Sf C gl rS e h x K:=⟨_,by simp only[rS,↓wZ,AO.still];rfl⟩
theorem z2n {C gl e h x K}:NW C gl rS ⟨e,h,x⟩ K=(gQ C gl e h x K).1:=(gQ C gl e h x K).2
def VY:ACode:=(.seq (rg [uO 1 (.box 0),
mV 2 (cI 0)] [1])
(.seq (.seq (rg [fA 7 4 none 1,
lD 8 none 7,
lN 9 8,
mV 10 (cI 0)] [1,8,9,10])
(.block 0 (.loop (.scope WK))))
rS))
def VU:AFun:=⟨1,[.t 2],VY,false,false⟩
def fQ (C:Hd)(gl:GL)(e:En)(h:aA)(x:Esc)(K:KT):Sf C gl VY e h x K:=⟨_,by simp only[VY,↓wZ,AO.still];rfl⟩
theorem zcM {C gl v0 h x K}:NW C gl VU.body ⟨enter [v0],h,x⟩ K=(fQ C gl [(0,v0)] h x K).1:=(fQ C gl [(0,v0)] h x K).2
def CY:ACode:=(.det (.seq (rg [mV 2 (.c (.p (.sl (some 2) [])))] [0])
(.seq (.seq (rg [mV 3 0,
uO 4 (.isnil 4 false 3)] [0,4])
(.condu 4 (.seq (rg [mV 2 (.c (.p (.sl (some 2) [])))] [2])
.ret)
.skip))
(.seq (rg [uO 5 (.bsl true (some 2) 0 (.agg [.str [],.int .i64 0]) []),
mV 6 0,
uO 7 (.app (some 2) 5 6),
mV 2 7] [2])
.ret))))
def DU:AFun:=⟨1,[.t 2],CY,false,false⟩
def PP (C:Hd)(gl:GL)(e:En)(h:aA)(x:Esc)(K:KT):Sf C gl CY e h x K:=⟨_,by simp only[CY,↓wZ,AO.still];rfl⟩
theorem zcs {C gl v0 h x K}:NW C gl DU.body ⟨enter [v0],h,x⟩ K=(PP C gl [(0,v0)] h x K).1:=(PP C gl [(0,v0)] h x K).2
def BY:ACode:=(.det (.seq (rg [mV 2 (.c (.p (.sl (some 2) [])))] [0])
(.seq (.seq (rg [mV 3 0,
uO 4 (.isnil 4 false 3)] [0,4])
(.condu 4 (.seq (rg [mV 2 (.c (.p (.sl (some 2) [])))] [2])
.ret)
.skip))
(.seq (rg [uO 5 (.bsl true (some 2) 0 (.agg [.str [],.str []]) []),
mV 6 0,
uO 7 (.app (some 2) 5 6),
mV 2 7] [2])
.ret))))
def CU:AFun:=⟨1,[.t 2],BY,false,false⟩
def OP (C:Hd)(gl:GL)(e:En)(h:aA)(x:Esc)(K:KT):Sf C gl BY e h x K:=⟨_,by simp only[BY,↓wZ,AO.still];rfl⟩
theorem zcr {C gl v0 h x K}:NW C gl CU.body ⟨enter [v0],h,x⟩ K=(OP C gl [(0,v0)] h x K).1:=(OP C gl [(0,v0)] h x K).2
def dS:ACode:=.pr [1,2,12,25] (.cond 25 (.seq (rg [mV 28 1,
uO 29 (.nilchk 28),
fA 30 6 none 29,
lD 31 none 30,
uO 32 (.idxs 31 (cI 0)),
mV 7 32] [1,2,7])
(.seq (rg [mV 33 1,
mV 34 1,
uO 35 (.nilchk 34),
fA 36 6 none 35,
lD 37 none 36,
uO 38 (.slstr 37 (some (cI 1)) none),
mV 39 2,
uO 40 (.conv (.i .i32) 39),
uO 41 (.conv .r2s 40),
bN 42 .add 38 41,
uO 43 (.nilchk 33),
fA 44 6 none 43,
wO (.store none 44 42)] [7])
(.seq (rg [mV 45 7,
mV 6 45] [6])
.ret)))
(.seq (rg [bN 47 .eql 12 (cI 8),
mV 46 47] [1,2,12,46])
(.cond 46 (.seq (rg [mV 48 1,
cL 49 bK [48],
uO 50 (.field 0 none 49),
mV 8 50] [1,2,8])
(.seq (rg [mV 51 8,
bN 52 .neq 51 (cS [98,121,112,97,115,115]),
mV 53 52,
gD 54 53 true (.mv 8),
gD 55 53 true (.bin .neq 54 (cS [105,100,99,111,100,101])),
uO 56 (.pick 53 55 cF)] [1,2,8,56])
(.cond 56 (dr [dF (mV 57 1) [1],
dF (uO 58 (.nilchk 57)) [57],
dF (fA 59 8 none 58) [58],
dF (lD 60 none 59) [59],
dF (mV 61 8) [8],
dF (mV 62 1) [1],
dF (uO 63 (.nilchk 62)) [62],
dF (fA 64 6 none 63) [63],
dF (lD 65 none 64) [64],
dT (wO (.mupd (none,[2]) 60 61 65)) [60,61,65]] [2])
.skip)))
(.seq (rg [bN 67 .eql 12 (cI 10),
mV 66 67] [1,2,12,66])
(.cond 66 (rg [mV 68 1,
mV 69 1,
uO 70 (.nilchk 69),
fA 71 0 (some 5) 70,
fA 72 1 none 71,
lD 73 none 72,
bN 74 .sub 73 (cI 1),
cL 75 MA [(cS [48]),74],
bN 76 .add (cS [49]) 75,
uO 77 (.nilchk 68),
fA 78 6 none 77,
wO (.store none 78 76)] [2])
(.seq (rg [bN 80 .eql 12 (cI 15),
mV 79 80] [1,2,79])
(.cond 79 (rg [mV 81 1,
mV 82 1,
uO 83 (.nilchk 82),
fA 84 6 none 83,
lD 85 none 84,
uO 86 (.nilchk 81),
fA 87 5 none 86,
wO (.store none 87 85)] [2])
.skip)))))))
def GE (C:Hd)(gl:GL)(e:En)(h:aA)(x:Esc)(K:KT):Sf C gl dS e h x K:=⟨_,by simp only[dS,↓wZ,AO.still];rfl⟩
theorem RW {C gl e h x K}:NW C gl dS ⟨e,h,x⟩ K=(GE C gl e h x K).1:=(GE C gl e h x K).2
def eS:ACode:=.pr [2] (.seq (rg [mV 88 2,
mV 6 88] [6])
.ret)
def UD (C:Hd)(gl:GL)(e:En)(h:aA)(x:Esc)(K:KT):Sf C gl eS e h x K:=⟨_,by simp only[eS,↓wZ,AO.still];rfl⟩
theorem SW {C gl e h x K}:NW C gl eS ⟨e,h,x⟩ K=(UD C gl e h x K).1:=(UD C gl e h x K).2
def NY:ACode:=(.seq (rg [mV 6 (.c (.p (.int .u8 0)))] [0,1,2])
(.seq (.seq (rg [mV 9 0,
uO 10 (.nilchk 9),
fA 11 0 none 10,
lD 12 none 11] [1,2,12])
(.block 0 (.seq (rg [bN 14 .eql 12 (cI 0),
mV 13 14] [1,2,12,13])
(.cond 13 (rg [mV 15 1,
uO 16 (.nilchk 15),
fA 17 5 none 16,
wO (.store none 17 (cS []))] [2])
(.seq (rg [bN 19 .eql 12 (cI 3),
mV 18 19] [1,2,12,18])
(.cond 18 (rg [mV 20 1,
mV 21 1,
cL 22 vN [21],
uO 23 (.nilchk 20),
fA 24 6 none 23,
wO (.store none 24 22)] [2])
(.seq (.seq (rg [bN 26 .eql 12 (cI 4),
mV 25 26] [1,2,12,25])
(.cond 25 .skip
(rg [bN 27 .eql 12 (cI 11),
mV 25 27] [1,2,12,25])))
dS)))))))
eS))
def OU:AFun:=⟨3,[.t 6],NY,false,false⟩
def nE (C:Hd)(gl:GL)(e:En)(h:aA)(x:Esc)(K:KT):Sf C gl NY e h x K:=⟨_,by simp only[NY,↓wZ,AO.still];rfl⟩
theorem zcB {C gl v0 v1 v2 h x K}:NW C gl OU.body ⟨enter [v0,v1,v2],h,x⟩ K=(nE C gl [(0,v0),(1,v1),(2,v2)] h x K).1:=(nE C gl [(0,v0),(1,v1),(2,v2)] h x K).2
def z7A:ACode:=(.seq (rg [mV 4 (cI 0)] [0,1])
(.seq (rg [uO 6 (.build [.p (.int .i64 0),.p (.int .i64 0)] [(0,1,(cI 1)),(1,1,(cI 0))]),
uO 7 (.build [.p (.int .i64 0),.p (.int .i64 0)] [(0,1,(cI 1)),(1,1,(cI 2))]),
uO 8 (.build [.p (.int .i64 0),.p (.int .i64 0)] [(0,1,(cI 3)),(1,1,(cI 9))]),
uO 9 (.build [.p (.int .i64 0),.p (.int .i64 0)] [(0,1,(cI 4)),(1,1,(cI 5))]),
uO 10 (.build [.p (.int .i64 0),.p (.int .i64 0)] [(0,1,(cI 4)),(1,1,(cI 5))]),
uO 11 (.build [.p (.int .i64 0),.p (.int .i64 0)] [(0,1,(cI 6)),(1,1,(cI 8))]),
uO 12 (.build [.p (.int .i64 0),.p (.int .i64 0)] [(0,1,(cI 6)),(1,1,(cI 7))]),
uO 13 (.build [.p (.int .i64 0),.p (.int .i64 0)] [(0,1,(cI 4)),(1,1,(cI 8))]),
uO 14 (.build [.p (.int .i64 0),.p (.int .i64 0)] [(0,1,(cI 1)),(1,1,(cI 2))]),
uO 15 (.build [.p (.int .i64 0),.p (.int .i64 0)] [(0,1,(cI 10)),(1,1,(cI 0))]),
uO 16 (.build [.p (.int .i64 0),.p (.int .i64 0)] [(0,1,(cI 11)),(1,1,(cI 12))]),
uO 17 (.build [.p (.int .i64 0),.p (.int .i64 0)] [(0,1,(cI 11)),(1,1,(cI 12))]),
uO 18 (.build [.p (.int .i64 0),.p (.int .i64 0)] [(0,1,(cI 13)),(1,1,(cI 15))]),
uO 19 (.build [.p (.int .i64 0),.p (.int .i64 0)] [(0,1,(cI 13)),(1,1,(cI 14))]),
uO 20 (.build [.p (.int .i64 0),.p (.int .i64 0)] [(0,1,(cI 11)),(1,1,(cI 15))]),
uO 21 (.build [.p (.int .i64 0),.p (.int .i64 0)] [(0,1,(cI 1)),(1,1,(cI 2))]),
uO 22 (.build [.p (.int .i64 0),.p (.int .i64 0),.p (.int .i64 0),.p (.int .i64 0),.p (.int .i64 0),.p (.int .i64 0),.p (.int .i64 0),.p (.int .i64 0),.p (.int .i64 0),.p (.int .i64 0),.p (.int .i64 0),.p (.int .i64 0),.p (.int .i64 0),.p (.int .i64 0),.p (.int .i64 0),.p (.int .i64 0),.p (.int .i64 0),.p (.int .i64 0),.p (.int .i64 0),.p (.int .i64 0),.p (.int .i64 0),.p (.int .i64 0),.p (.int .i64 0),.p (.int .i64 0),.p (.int .i64 0),.p (.int .i64 0),.p (.int .i64 0),.p (.int .i64 0),.p (.int .i64 0),.p (.int .i64 0),.p (.int .i64 0),.p (.int .i64 0)] [(0,2,6),(2,2,7),(4,2,8),(6,2,9),(8,2,10),(10,2,11),(12,2,12),(14,2,13),(16,2,14),(18,2,15),(20,2,16),(22,2,17),(24,2,18),(26,2,19),(28,2,20),(30,2,21)]),
uO 5 (.alloc [.p (.int .i64 0),.p (.int .i64 0),.p (.int .i64 0),.p (.int .i64 0),.p (.int .i64 0),.p (.int .i64 0),.p (.int .i64 0),.p (.int .i64 0),.p (.int .i64 0),.p (.int .i64 0),.p (.int .i64 0),.p (.int .i64 0),.p (.int .i64 0),.p (.int .i64 0),.p (.int .i64 0),.p (.int .i64 0),.p (.int .i64 0),.p (.int .i64 0),.p (.int .i64 0),.p (.int .i64 0),.p (.int .i64 0),.p (.int .i64 0),.p (.int .i64 0),.p (.int .i64 0),.p (.int .i64 0),.p (.int .i64 0),.p (.int .i64 0),.p (.int .i64 0),.p (.int .i64 0),.p (.int .i64 0),.p (.int .i64 0),.p (.int .i64 0)]),
wO (.store (some 32) 5 22)] [0,1,5])
(.seq (rg [mV 23 0,
mV 24 1,
uO 25 (.iaddra 16 (some 2) 5 23),
uO 26 (.iaddra 2 none 25 24),
lD 27 none 26,
mV 4 27] [4])
.ret)))
def OH:AFun:=⟨2,[.t 4],z7A,false,false⟩
def kQ (C:Hd)(gl:GL)(v0 v1:AV)(h:aA)(x:Esc)(K:KT):Prop:=
 pK (xC [.p (.int .i64 0),.p (.int .i64 0)] [(0,1,(AI 1)),(1,1,(AI 0))]) fun t1=>
 pK (xC [.p (.int .i64 0),.p (.int .i64 0)] [(0,1,(AI 1)),(1,1,(AI 2))]) fun t2=>
 pK (xC [.p (.int .i64 0),.p (.int .i64 0)] [(0,1,(AI 3)),(1,1,(AI 9))]) fun t3=>
 pK (xC [.p (.int .i64 0),.p (.int .i64 0)] [(0,1,(AI 4)),(1,1,(AI 5))]) fun t4=>
 pK (xC [.p (.int .i64 0),.p (.int .i64 0)] [(0,1,(AI 4)),(1,1,(AI 5))]) fun t5=>
 pK (xC [.p (.int .i64 0),.p (.int .i64 0)] [(0,1,(AI 6)),(1,1,(AI 8))]) fun t6=>
 pK (xC [.p (.int .i64 0),.p (.int .i64 0)] [(0,1,(AI 6)),(1,1,(AI 7))]) fun t7=>
 pK (xC [.p (.int .i64 0),.p (.int .i64 0)] [(0,1,(AI 4)),(1,1,(AI 8))]) fun t8=>
 pK (xC [.p (.int .i64 0),.p (.int .i64 0)] [(0,1,(AI 1)),(1,1,(AI 2))]) fun t9=>
 pK (xC [.p (.int .i64 0),.p (.int .i64 0)] [(0,1,(AI 10)),(1,1,(AI 0))]) fun t10=>
 pK (xC [.p (.int .i64 0),.p (.int .i64 0)] [(0,1,(AI 11)),(1,1,(AI 12))]) fun t11=>
 pK (xC [.p (.int .i64 0),.p (.int .i64 0)] [(0,1,(AI 11)),(1,1,(AI 12))]) fun t12=>
 pK (xC [.p (.int .i64 0),.p (.int .i64 0)] [(0,1,(AI 13)),(1,1,(AI 15))]) fun t13=>
 pK (xC [.p (.int .i64 0),.p (.int .i64 0)] [(0,1,(AI 13)),(1,1,(AI 14))]) fun t14=>
 pK (xC [.p (.int .i64 0),.p (.int .i64 0)] [(0,1,(AI 11)),(1,1,(AI 15))]) fun t15=>
 pK (xC [.p (.int .i64 0),.p (.int .i64 0)] [(0,1,(AI 1)),(1,1,(AI 2))]) fun t16=>
 pK (xC [.p (.int .i64 0),.p (.int .i64 0),.p (.int .i64 0),.p (.int .i64 0),.p (.int .i64 0),.p (.int .i64 0),.p (.int .i64 0),.p (.int .i64 0),.p (.int .i64 0),.p (.int .i64 0),.p (.int .i64 0),.p (.int .i64 0),.p (.int .i64 0),.p (.int .i64 0),.p (.int .i64 0),.p (.int .i64 0),.p (.int .i64 0),.p (.int .i64 0),.p (.int .i64 0),.p (.int .i64 0),.p (.int .i64 0),.p (.int .i64 0),.p (.int .i64 0),.p (.int .i64 0),.p (.int .i64 0),.p (.int .i64 0),.p (.int .i64 0),.p (.int .i64 0),.p (.int .i64 0),.p (.int .i64 0),.p (.int .i64 0),.p (.int .i64 0)] [(0,2,t1),(2,2,t2),(4,2,t3),(6,2,t4),(8,2,t5),(10,2,t6),(12,2,t7),(14,2,t8),(16,2,t9),(18,2,t10),(20,2,t11),(22,2,t12),(24,2,t13),(26,2,t14),(28,2,t15),(30,2,t16)]) fun t17=>
 alK [.p (.int .i64 0),.p (.int .i64 0),.p (.int .i64 0),.p (.int .i64 0),.p (.int .i64 0),.p (.int .i64 0),.p (.int .i64 0),.p (.int .i64 0),.p (.int .i64 0),.p (.int .i64 0),.p (.int .i64 0),.p (.int .i64 0),.p (.int .i64 0),.p (.int .i64 0),.p (.int .i64 0),.p (.int .i64 0),.p (.int .i64 0),.p (.int .i64 0),.p (.int .i64 0),.p (.int .i64 0),.p (.int .i64 0),.p (.int .i64 0),.p (.int .i64 0),.p (.int .i64 0),.p (.int .i64 0),.p (.int .i64 0),.p (.int .i64 0),.p (.int .i64 0),.p (.int .i64 0),.p (.int .i64 0),.p (.int .i64 0),.p (.int .i64 0)] h fun t18 h19 y20=>
 wK (nF (some 32) t18 t17 h19) fun t21 h22 y23=>
 pK (JI 16 (some 2) t18 v0) fun t24=>
 pK (JI 2 none t24 v1) fun t25=>
 pK (eC none t25 h22) fun t26=>
 K .ret ⟨[(4,t26)],h22,(y23++(y20++x))⟩
theorem z2o {C gl v0 v1 h x K}:NW C gl OH.body ⟨enter [v0,v1],h,x⟩ K=kQ C gl v0 v1 h x K:=by kernel_rfl
def LY:ACode:=(.seq (rg [mV 4 (cI 0)] [0,1])
(.seq (rg [mV 5 0,
mV 6 1,
cL 7 TM [5,6],
mV 4 7] [4])
.ret))
def MU:AFun:=⟨2,[.t 4],LY,false,false⟩
def XP (C:Hd)(gl:GL)(e:En)(h:aA)(x:Esc)(K:KT):Sf C gl LY e h x K:=⟨_,by simp only[LY,↓wZ,AO.still];rfl⟩
theorem zc9 {C gl v0 v1 h x K}:NW C gl MU.body ⟨enter [v0,v1],h,x⟩ K=(XP C gl [(0,v0),(1,v1)] h x K).1:=(XP C gl [(0,v0),(1,v1)] h x K).2
def QK:ACode:=.pr [0,1,7,8] (.seq (rg [bN 9 .lss 8 7] [0,1,7,8,9])
(.seq (.cond 9 .skip
(.exit 0))
(.seq (.block 1 (.seq (rg [mV 10 8,
mV 5 10] [0,1,5,7,8])
(.seq (rg [mV 11 1,
mV 12 0,
mV 13 5,
iA 14 (some 2) 12 13,
lD 15 (some 2) 14,
uO 16 (.callv 11 [15])] [0,1,5,7,8,16])
(.cond 16 (.seq (rg [mV 17 5,
mV 4 17] [4])
.ret)
.skip))))
(rg [bN 18 .add 8 (cI 1),
mV 8 18] [0,1,7,8]))))
def kW (C:Hd)(gl:GL)(e:En)(h:aA)(x:Esc)(K:KT):Sf C gl QK e h x K:=⟨_,by simp only[QK,↓wZ,AO.still];rfl⟩
theorem zc3 {C gl e h x K}:NW C gl QK ⟨e,h,x⟩ K=(kW C gl e h x K).1:=(kW C gl e h x K).2
theorem zeT {C gl e h x K}:NW C gl (.loop QK) ⟨e,h,x⟩ K=ZA C gl QK K [(0,kA e 0),(1,kA e 1),(7,kA e 7),(8,kA e 8)] h x:=GC
def aS:ACode:=.pr [] (.seq (rg [mV 4 (cI (-1))] [4])
.ret)
def lW (C:Hd)(gl:GL)(e:En)(h:aA)(x:Esc)(K:KT):Sf C gl aS e h x K:=⟨_,by simp only[aS,↓wZ,AO.still];rfl⟩
theorem zc4 {C gl e h x K}:NW C gl aS ⟨e,h,x⟩ K=(lW C gl e h x K).1:=(lW C gl e h x K).2
def IY:ACode:=(.seq (rg [mV 4 (cI 0)] [0,1])
(.seq (.seq (rg [mV 6 0,
lN 7 6,
mV 8 (cI 0)] [0,1,7,8])
(.block 0 (.loop QK)))
aS))
def JU:AFun:=⟨2,[.t 4],IY,true,false⟩
def UP (C:Hd)(gl:GL)(e:En)(h:aA)(x:Esc)(K:KT):Sf C gl IY e h x K:=⟨_,by simp only[IY,↓wZ,AO.still];rfl⟩
theorem zc2 {C gl v0 v1 h x K}:NW C gl JU.body ⟨enter [v0,v1],h,x⟩ K=(UP C gl [(0,v0),(1,v1)] h x K).1:=(UP C gl [(0,v0),(1,v1)] h x K).2
def XY:ACode:=(.seq (rg [mV 2 cF] [0])
(.seq (rg [mV 3 0,
cL 4 WB [3,(cI 0),(cI 15)],
uO 5 (.un .not 4),
mV 2 5] [2])
.ret))
def OO:AFun:=⟨1,[.t 2],XY,false,false⟩
def jQ (C:Hd)(gl:GL)(e:En)(h:aA)(x:Esc)(K:KT):Sf C gl XY e h x K:=⟨_,by simp only[XY,↓wZ,AO.still];rfl⟩
theorem zcO {C gl v0 h x K}:NW C gl OO.body ⟨enter [v0],h,x⟩ K=(jQ C gl [(0,v0)] h x K).1:=(jQ C gl [(0,v0)] h x K).2
def YY:ACode:=.pr [1,5,6,7,25] (rg [bN 53 .add 25 (cI 1),
mV 25 53] [1,5,6,7,25])
def z1Q (C:Hd)(gl:GL)(v1 v5 v6 v7 v25:AV)(h:aA)(x:Esc)(K:KT):Prop:=
 pK (gB .add v25 (AI 1)) fun t1=>
 K .normal ⟨[(1,v1),(5,v5),(6,v6),(7,v7),(25,t1)],h,x⟩
theorem zcP {C gl e h x K}:NW C gl YY ⟨e,h,x⟩ K=z1Q C gl (kA e 1) (kA e 5) (kA e 6) (kA e 7) (kA e 25) h x K:=by kernel_rfl
def z0H (q1:ACode):ACode:=.pr [1,5,6,7,25] (.seq (rg [bN 26 .lss 25 (cI 2)] [1,5,6,7,25,26])
(.seq (.cond 26 .skip
(.exit 2))
(.seq (.block 3 (.seq (rg [mV 27 25,
mV 8 27] [1,5,6,7,8,25])
(.seq (rg [mV 28 7,
mV 29 8,
cL 30 HE [28,29],
mV 9 30] [1,5,6,7,8,9,25])
(.seq (rg [mV 32 5,
mV 33 9,
uO 34 (.look (none,[0]) true (.p (.str [])) 32 33),
mV 31 34,
eX 35 31 0,
eX 36 31 1,
mV 10 35,
mV 11 36] [1,5,6,7,8,9,11,25])
(.seq (rg [mV 37 11,
uO 38 (.un .not 37)] [1,5,6,7,8,9,25,38])
(.cond 38 (.seq (rg [mV 39 5,
mV 40 9,
mV 41 5,
mV 42 7,
uO 43 (.look (none,[0]) false (.p (.str [])) 41 42),
mV 44 8,
bN 45 .add (cI 48) 44,
uO 46 (.conv (.i .i32) 45),
uO 47 (.conv .r2s 46),
bN 48 .add 43 47,
wO (.mupd (none,[0]) 39 40 48)] [1,5,6,7,9,25])
(rg [mV 49 6,
mV 50 9,
uO 51 (.bsl false none 1 (.int .i64 0) [(0,50)]),
uO 52 (.mnext (some none) [49,51]),
mV 6 52] [1,5,6,7,25]))
.skip))))))
q1)))
def aO:ACode:=z0H YY
def rW (C:Hd)(gl:GL)(q1:ACode)(v1 v5 v6 v7 v25:AV)(h:aA)(x:Esc)(K:KT):Prop:=
 pK (gB .lss v25 (AI 2)) fun t1=>
 mD t1 (C HE [v7,v25] h fun t2 h3 y4=>
 pK (DB (none,[0]) true (.p (.str [])) v5 t2 h3) fun t5=>
 pK (II t5 0) fun t6=>
 pK (II t5 1) fun t7=>
 pK (oUn .not t7) fun t8=>
 mD t8 (pK (DB (none,[0]) false (.p (.str [])) v5 v7 h3) fun t9=>
 pK (gB .add (AI 48) v25) fun t10=>
 pK (uK .i32 t10) fun t11=>
 wK (cE .r2s t11 h3) fun t12 h13 y14=>
 pK (gB .add t9 t12) fun t15=>
 wK (LB (none,[0]) v5 t2 t15 h13) fun t16 h17 y18=>
 wK (CG false none 1 (.int .i64 0) [(0,t2)] h17) fun t19 h20 y21=>
 nqK (some none) [v6,t19] h20 fun t22 h23 y24=>
 NW C gl q1 ⟨[(1,v1),(5,v5),(6,t22),(7,v7),(25,v25)],h23,(y24++(y21++(y18++(y14++(y4++x)))))⟩ K)
 (NW C gl q1 ⟨[(1,v1),(5,v5),(6,v6),(7,v7),(8,v25),(9,t2),(25,v25),(38,t8)],h3,(y4++x)⟩ K))
 (K (.exit 2) ⟨[(1,v1),(5,v5),(6,v6),(7,v7),(25,v25),(26,t1)],h,x⟩)
theorem z71 {C gl q1 e h x K}:NW C gl (z0H q1) ⟨e,h,x⟩ K=rW C gl q1 (kA e 1) (kA e 5) (kA e 6) (kA e 7) (kA e 25) h x K:=by kernel_rfl
theorem zcQ {C gl e h x K}:NW C gl aO ⟨e,h,x⟩ K=rW C gl YY (kA e 1) (kA e 5) (kA e 6) (kA e 7) (kA e 25) h x K:=z71
theorem zfb {C gl e h x K}:NW C gl (.loop aO) ⟨e,h,x⟩ K=ZA C gl aO K [(1,kA e 1),(5,kA e 5),(6,kA e 6),(7,kA e 7),(25,kA e 25)] h x:=GC
def z0I (q2:ACode):ACode:=.pr [1,5,6] (.seq (.seq (rg [mV 17 6,
lN 18 17,
bN 19 .gtr 18 (cI 0)] [1,5,6,19])
(.cond 19 .skip
(.exit 0)))
(.block 1 (.seq (rg [mV 20 6,
iA 21 none 20 (cI 0),
lD 22 none 21,
mV 7 22] [1,5,6,7])
(.seq (rg [mV 23 6,
uO 24 (.slice none 23 (some (cI 1)) none none),
mV 6 24] [1,5,6,7])
(.seq (rg [mV 25 (cI 0)] [1,5,6,7,25])
(.block 2 (.loop q2)))))))
def XK:ACode:=z0I aO
def sW (C:Hd)(gl:GL)(q2:ACode)(v1 v5 v6:AV)(h:aA)(x:Esc)(K:KT):Prop:=
 pK (DG v6) fun t1=>
 pK (gB .gtr t1 (AI 0)) fun t2=>
 mD t2 (pK (tE none v6 (AI 0) h) fun t3=>
 pK (eC none t3 h) fun t4=>
 pK (KI none v6 (some (AI 1)) none none h) fun t5=>
 NW C gl (.loop q2) ⟨[(1,v1),(5,v5),(6,t5),(7,t4),(25,(AI 0))],h,x⟩ (ED 2 (ED 1 K)))
 (K (.exit 0) ⟨[(1,v1),(5,v5),(6,v6),(19,t2)],h,x⟩)
theorem z73 {C gl q2 e h x K}:NW C gl (z0I q2) ⟨e,h,x⟩ K=sW C gl q2 (kA e 1) (kA e 5) (kA e 6) h x K:=by kernel_rfl
theorem zcR {C gl e h x K}:NW C gl XK ⟨e,h,x⟩ K=sW C gl aO (kA e 1) (kA e 5) (kA e 6) h x K:=z73
theorem zfc {C gl e h x K}:NW C gl (.loop XK) ⟨e,h,x⟩ K=ZA C gl XK K [(1,kA e 1),(5,kA e 5),(6,kA e 6)] h x:=GC
def sS:ACode:=.pr [1,5] (.seq (rg [mV 54 5,
mV 55 1,
uO 56 (.look (none,[0]) false (.p (.str [])) 54 55),
mV 4 56] [4])
.ret)
def z1R (C:Hd)(gl:GL)(v1 v5:AV)(h:aA)(x:Esc)(K:KT):Prop:=
 pK (DB (none,[0]) false (.p (.str [])) v5 v1 h) fun t1=>
 K .ret ⟨[(4,t1)],h,x⟩
theorem zcS {C gl e h x K}:NW C gl sS ⟨e,h,x⟩ K=z1R C gl (kA e 1) (kA e 5) h x K:=by kernel_rfl
def z0G (q3 q4:ACode):ACode:=(.det (.seq (rg [mV 4 (cS [])] [0,1])
(.seq (rg [uO 12 (.mkmap),
mV 13 0,
wO (.mupd (none,[0]) 12 13 (cS [])),
mV 14 12,
mV 5 14] [0,1,5])
(.seq (rg [mV 15 0,
uO 16 (.bsl true none 1 (.int .i64 0) [(0,15)]),
mV 6 16] [1,5,6])
(.seq (.block 0 (.loop q3))
q4)))))
def iJ:AFun:=⟨2,[.t 4],z0G XK sS,false,false⟩
def tM (C:Hd)(gl:GL)(q3 q4:ACode)(v0 v1:AV)(h:aA)(x:Esc)(K:KT):Prop:=
 mmK h fun t1 h2 y3=>
 wK (LB (none,[0]) t1 v0 (.p (.str [])) h2) fun t4 h5 y6=>
 wK (CG true none 1 (.int .i64 0) [(0,v0)] h5) fun t7 h8 y9=>
 NW C gl (.loop q3) ⟨[(1,v1),(5,t1),(6,t7)],h8,(y9++(y6++(y3++x)))⟩ (ED 0 (HG C gl q4 K))
theorem z7z {C gl q3 q4 v0 v1 h x K}:NW C gl (z0G q3 q4) ⟨enter [v0,v1],h,x⟩ K=tM C gl q3 q4 v0 v1 h x K:=by kernel_rfl
theorem z2p {C gl v0 v1 h x K}:NW C gl iJ.body ⟨enter [v0,v1],h,x⟩ K=tM C gl XK sS v0 v1 h x K:=z7z
def eZ:ACode:=(.seq (rg [uO 2 (.box 0),
mV 3 cF] [1,2])
(.seq (rg [fA 4 0 none 2,
lD 5 none 4,
fA 6 0 none 1,
lD 7 none 6,
bN 8 .eql 5 7,
mV 3 8] [3])
.ret))
def cV:AFun:=⟨2,[.t 3],eZ,false,false⟩
def oQ (C:Hd)(gl:GL)(e:En)(h:aA)(x:Esc)(K:KT):Sf C gl eZ e h x K:=⟨_,by simp only[eZ,↓wZ,AO.still];rfl⟩
theorem zda {C gl v0 v1 h x K}:NW C gl cV.body ⟨enter [v0,v1],h,x⟩ K=(oQ C gl [(0,v0),(1,v1)] h x K).1:=(oQ C gl [(0,v0),(1,v1)] h x K).2
def WY:ACode:=(.seq (rg [uO 2 (.box 0),
mV 3 cF] [1,2])
(.seq (rg [fA 4 0 none 2,
lD 5 none 4,
fA 6 0 none 1,
lD 7 none 6,
bN 8 .eql 5 7,
mV 3 8] [3])
.ret))
def WU:AFun:=⟨2,[.t 3],WY,false,false⟩
def iQ (C:Hd)(gl:GL)(e:En)(h:aA)(x:Esc)(K:KT):Sf C gl WY e h x K:=⟨_,by simp only[WY,↓wZ,AO.still];rfl⟩
theorem zcN {C gl v0 v1 h x K}:NW C gl WU.body ⟨enter [v0,v1],h,x⟩ K=(iQ C gl [(0,v0),(1,v1)] h x K).1:=(iQ C gl [(0,v0),(1,v1)] h x K).2
def bZ:ACode:=(.seq (rg [uO 2 (.box 0),
uO 3 (.box 1),
uO 4 (.alloc [.p (.str []),.p (.int .i64 0)]),
mV 5 cF] [2,3,4])
(.seq (.block 0 (.seq (rg [lD 8 none 3,
bN 9 .eql 8 (cS [98,121,112,97,115,115]),
mV 7 9] [2,3,4,7])
(.cond 7 (.seq (rg [uO 10 (.build [.p (.str []),.p (.int .i64 0)] [(0,1,(cS [98,121,112,97,115,115])),(1,1,(cI 1))]),
wO (.store (some 2) 4 10),
mV 5 cT] [4,5])
.ret)
(.seq (rg [lD 12 none 3,
bN 13 .eql 12 (cS [105,100,99,111,100,101]),
mV 14 13,
gD 15 14 true (.faddr 2 none 2),
gD 16 14 true (.load none 15),
gD 17 14 true (.bin .neq 16 (cI 0)),
uO 18 (.pick 14 17 cF),
mV 11 18] [2,3,4,11])
(.cond 11 (.seq (rg [uO 19 (.build [.p (.str []),.p (.int .i64 0)] [(0,1,(cS [105,100,99,111,100,101])),(1,1,(cI 32))]),
wO (.store (some 2) 4 19),
mV 5 cT] [4,5])
.ret)
.skip)))))
(.seq (rg [fA 20 3 none 2,
lD 21 none 20,
uO 22 (.mkfn wN [3]),
cL 23 XJ [21,22],
mV 6 23] [2,4,6])
(.seq (.seq (rg [mV 24 6,
bN 25 .lss 24 (cI 0)] [2,4,6,25])
(.cond 25 (.seq (rg [uO 26 (.build [.p (.str []),.p (.int .i64 0)] []),
wO (.store (some 2) 4 26),
mV 5 cF] [4,5])
.ret)
.skip))
(.seq (rg [fA 27 3 none 2,
lD 28 none 27,
mV 29 6,
iA 30 (some 2) 28 29,
lD 31 (some 2) 30,
wO (.store (some 2) 4 31),
mV 5 cT] [4,5])
.ret)))))
def ZU:AFun:=⟨2,[.cell 4 (some 2),.t 5],bZ,false,false⟩
def mG (C:Hd)(gl:GL)(e:En)(h:aA)(x:Esc)(K:KT):Sf C gl bZ e h x K:=⟨_,by simp only[bZ,↓wZ,AO.still];rfl⟩
theorem zcX {C gl v0 v1 h x K}:NW C gl ZU.body ⟨enter [v0,v1],h,x⟩ K=(mG C gl [(0,v0),(1,v1)] h x K).1:=(mG C gl [(0,v0),(1,v1)] h x K).2
def YK:ACode:=.pr [0,4,21] (.seq (rg [bN 22 .lss 21 (cI 32)] [0,4,21,22])
(.seq (.cond 22 .skip
(.exit 1))
(.seq (.block 2 (.seq (rg [mV 23 21,
mV 5 23] [0,4,5,21])
(rg [mV 24 4,
mV 25 0,
uO 26 (.nilchk 25),
fA 27 0 (some 5) 26,
fA 28 2 none 27,
lD 29 none 28,
mV 30 5,
bN 31 .shr 29 30,
bN 32 .and 31 (cI 1),
bN 33 .add (cI 48) 32,
uO 34 (.conv (.i .u8) 33),
uO 35 (.bsl false none 1 (.int .u8 0) [(0,34)]),
uO 36 (.app none 24 35),
mV 4 36] [0,4,21])))
(rg [bN 37 .add 21 (cI 1),
mV 21 37] [0,4,21]))))
def tW (C:Hd)(gl:GL)(e:En)(h:aA)(x:Esc)(K:KT):Sf C gl YK e h x K:=⟨_,by simp only[YK,↓wZ,AO.still];rfl⟩
theorem zcU {C gl e h x K}:NW C gl YK ⟨e,h,x⟩ K=(tW C gl e h x K).1:=(tW C gl e h x K).2
theorem zfd {C gl e h x K}:NW C gl (.loop (.scope YK)) ⟨e,h,x⟩ K=ZA C gl (.scope YK) K [(0,kA e 0),(4,kA e 4),(21,kA e 21)] h x:=WC
def tS:ACode:=.pr [4] (.seq (rg [mV 38 4,
uO 39 (.conv .b2s 38),
mV 2 39] [2])
.ret)
def uW (C:Hd)(gl:GL)(e:En)(h:aA)(x:Esc)(K:KT):Sf C gl tS e h x K:=⟨_,by simp only[tS,↓wZ,AO.still];rfl⟩
theorem zcV {C gl e h x K}:NW C gl tS ⟨e,h,x⟩ K=(uW C gl e h x K).1:=(uW C gl e h x K).2
def ZY:ACode:=(.seq (rg [mV 2 (cS [])] [0])
(.seq (rg [mV 6 0,
cL 7 bK [6],
uO 3 (.alloc [.p (.str []),.p (.int .i64 0)]),
wO (.store (some 2) 3 7)] [0,3])
(.seq (rg [fA 8 0 none 3,
lD 9 none 8] [0,3,9])
(.block 0 (.seq (rg [bN 18 .eql 9 (cS [98,121,112,97,115,115]),
mV 17 18] [0,3,9,17])
(.cond 17 (.seq (rg [mV 2 (cS [48])] [2])
.ret)
(.seq (rg [bN 20 .eql 9 (cS [105,100,99,111,100,101]),
mV 19 20] [0,3,19])
(.cond 19 (.seq (rg [uO 4 (.new0 none)] [0,4])
(.seq (.seq (rg [mV 21 (cI 0)] [0,4,21])
(.block 1 (.loop (.scope YK))))
tS))
(.seq (dr [dF (mV 10 0) [0],
dF (uO 11 (.nilchk 10)) [10],
dF (fA 12 7 none 11) [11],
dF (lD 13 none 12) [12],
dF (fA 14 0 none 3) [3],
dF (lD 15 none 14) [14],
dF (uO 16 (.look (none,[2]) false (.p (.str [])) 13 15)) [13,15],
dF (mV 2 16) [16]] [2])
.ret)))))))))
def XU:AFun:=⟨1,[.t 2],ZY,false,false⟩
def EJ (C:Hd)(gl:GL)(e:En)(h:aA)(x:Esc)(K:KT):Sf C gl ZY e h x K:=⟨_,by simp only[ZY,↓wZ,AO.still];rfl⟩
theorem zcT {C gl v0 h x K}:NW C gl XU.body ⟨enter [v0],h,x⟩ K=(EJ C gl [(0,v0)] h x K).1:=(EJ C gl [(0,v0)] h x K).2
def aZ:ACode:=(.seq (rg [uO 2 (.alloc [.p (.str []),.p (.int .i64 0)])] [0,2])
(.seq (.seq (rg [mV 5 0,
uO 6 (.nilchk 5),
fA 7 5 none 6,
lD 8 none 7,
bN 9 .eql 8 (cS [])] [0,2,9])
(.cond 9 (.seq (.seq (rg [mV 11 0,
uO 12 (.nilchk 11),
fA 13 0 (some 5) 12,
lD 14 (some 5) 13,
cL 15 vI [14,(cS [105,100,99,111,100,101])],
mV 10 15,
eX 16 10 0,
eX 17 10 1,
uO 3 (.alloc [.p (.str []),.p (.int .i64 0)]),
wO (.store (some 2) 3 16),
mV 4 17] [2,3,4])
(.seq (rg [mV 18 4] [2,3,18])
(.cond 18 (.seq (rg [lD 19 (some 2) 3,
wO (.store (some 2) 2 19)] [2])
.ret)
.skip)))
(.seq (rg [uO 20 (.build [.p (.str []),.p (.int .i64 0)] [(0,1,(cS [98,121,112,97,115,115])),(1,1,(cI 1))]),
wO (.store (some 2) 2 20)] [2])
.ret))
.skip))
(.seq (dr [dF (mV 21 0) [0],
dF (uO 22 (.nilchk 21)) [21],
dF (fA 23 0 (some 5) 22) [22],
dF (lD 24 (some 5) 23) [23],
dF (mV 25 0) [0],
dF (uO 26 (.nilchk 25)) [25],
dF (fA 27 5 none 26) [26],
dF (lD 28 none 27) [27],
dT (cL 29 zN [24,28]) [24,28],
dT (wO (.store (some 2) 2 29)) [2,29]] [2])
.ret)))
def YU:AFun:=⟨1,[.cell 2 (some 2)],aZ,false,false⟩
def FJ (C:Hd)(gl:GL)(e:En)(h:aA)(x:Esc)(K:KT):Sf C gl aZ e h x K:=⟨_,by simp only[aZ,↓wZ,AO.still];rfl⟩
theorem zcW {C gl v0 h x K}:NW C gl YU.body ⟨enter [v0],h,x⟩ K=(FJ C gl [(0,v0)] h x K).1:=(FJ C gl [(0,v0)] h x K).2
def KR:ACode:=.pr [0,1,5,6,7,8,9,10] (.seq (.seq (rg [mV 78 0,
mV 79 8,
bN 80 .add 79 (cI 1),
uO 81 (.idxs 78 80),
mV 82 7,
bN 83 .eql 81 82,
mV 84 83,
gD 85 84 true (.mv 0),
gD 86 84 true (.mv 8),
gD 87 84 true (.mv 8),
gD 88 84 true (.mv 5),
gD 89 84 true (.bin .add 87 88),
gD 90 84 true (.slstr 85 (some 86) (some 89)),
gD 91 84 true (.mv 1),
gD 92 84 true (.bin .eql 90 91),
uO 93 (.pick 84 92 cF)] [0,1,5,6,7,8,9,10,93])
(.cond 93 (.seq (rg [mV 94 8,
mV 4 94] [4])
.ret)
.skip))
(.seq (rg [mV 95 8,
bN 96 .add 95 (cI 1),
mV 8 96] [0,1,5,6,7,8,9,10])
(.seq (rg [mV 97 10,
bN 98 .add 97 (cI 1),
mV 10 98] [0,1,5,6,7,8,9,10])
(.seq (rg [mV 99 5,
lD 100 none (.g 0),
bN 101 .leq 99 100,
mV 102 101,
gD 103 102 true (.mv 10),
gD 104 102 true (.mv 8),
gD 105 102 true (.call VQ [104]),
gD 106 102 true (.bin .gtr 103 105),
uO 107 (.pick 102 106 cF)] [0,1,5,6,7,8,9,10,107])
(.cond 107 (.seq (rg [mV 108 0,
mV 109 8,
uO 110 (.slstr 108 (some 109) none),
mV 111 1,
cL 112 z2C [110,111],
mV 12 112] [8,12])
(.seq (.seq (rg [mV 113 12,
bN 114 .geq 113 (cI 0)] [8,12,114])
(.cond 114 (.seq (rg [mV 115 12,
mV 116 8,
bN 117 .add 115 116,
mV 4 117] [4])
.ret)
.skip))
(.seq (rg [mV 4 (cI (-1))] [4])
.ret)))
(.seq (rg [mV 118 5,
lD 119 none (.g 0),
bN 120 .gtr 118 119,
mV 121 120,
gD 122 121 true (.mv 10),
gD 123 121 true (.mv 8),
gD 124 121 true (.bin .shr 123 (.c (.p (.int .u64 4)))),
gD 125 121 true (.bin .add (cI 4) 124),
gD 126 121 true (.bin .geq 122 125),
uO 127 (.pick 121 126 cF),
mV 128 127,
gD 129 128 true (.mv 8),
gD 130 128 true (.mv 9),
gD 131 128 true (.bin .lss 129 130),
uO 132 (.pick 128 131 cF)] [0,1,5,6,7,8,9,10,132])
(.cond 132 (.seq (rg [mV 133 0,
mV 134 8,
uO 135 (.slstr 133 (some 134) none),
mV 136 1,
cL 137 WQ [135,136],
mV 13 137] [8,13])
(.seq (.seq (rg [mV 138 13,
bN 139 .lss 138 (cI 0)] [8,13,139])
(.cond 139 (.seq (rg [mV 4 (cI (-1))] [4])
.ret)
.skip))
(.seq (rg [mV 140 8,
mV 141 13,
bN 142 .add 140 141,
mV 4 142] [4])
.ret)))
.skip)))))))
def ZV (C:Hd)(gl:GL)(e:En)(h:aA)(x:Esc)(K:KT):Sf C gl KR e h x K:=⟨_,by simp only[KR,↓wZ,AO.still];rfl⟩
theorem zbQ {C gl e h x K}:NW C gl KR ⟨e,h,x⟩ K=(ZV C gl e h x K).1:=(ZV C gl e h x K).2
def GK:ACode:=.pr [0,1,5,6,7,8,9,10] (.seq (.seq (rg [mV 57 8,
mV 58 9,
bN 59 .lss 57 58] [0,1,5,6,7,8,9,10,59])
(.cond 59 .skip
(.exit 1)))
(.block 2 (.seq (.seq (rg [mV 60 0,
mV 61 8,
uO 62 (.idxs 60 61),
mV 63 6,
bN 64 .neq 62 63] [0,1,5,6,7,8,9,10,64])
(.cond 64 (.seq (rg [mV 65 0,
mV 66 8,
bN 67 .add 66 (cI 1),
mV 68 9,
uO 69 (.slstr 65 (some 67) (some 68)),
mV 70 6,
cL 71 eH [69,70],
mV 11 71] [0,1,5,6,7,8,9,10,11])
(.seq (.seq (rg [mV 72 11,
bN 73 .lss 72 (cI 0)] [0,1,5,6,7,8,9,10,11,73])
(.cond 73 (.seq (rg [mV 4 (cI (-1))] [4])
.ret)
.skip))
(rg [mV 74 8,
mV 75 11,
bN 76 .add 75 (cI 1),
bN 77 .add 74 76,
mV 8 77] [0,1,5,6,7,8,9,10])))
.skip))
KR)))
def aW (C:Hd)(gl:GL)(e:En)(h:aA)(x:Esc)(K:KT):Sf C gl GK e h x K:=⟨_,by simp only[GK,↓wZ,AO.still];rfl⟩
theorem zbR {C gl e h x K}:NW C gl GK ⟨e,h,x⟩ K=(aW C gl e h x K).1:=(aW C gl e h x K).2
theorem zeJ {C gl e h x K}:NW C gl (.loop GK) ⟨e,h,x⟩ K=ZA C gl GK K [(0,kA e 0),(1,kA e 1),(5,kA e 5),(6,kA e 6),(7,kA e 7),(8,kA e 8),(9,kA e 9),(10,kA e 10)] h x:=GC
def LR:ACode:=.pr [] (.seq (rg [mV 4 (cI (-1))] [4])
.ret)
def bW (C:Hd)(gl:GL)(e:En)(h:aA)(x:Esc)(K:KT):Sf C gl LR e h x K:=⟨_,by simp only[LR,↓wZ,AO.still];rfl⟩
theorem zbS {C gl e h x K}:NW C gl LR ⟨e,h,x⟩ K=(bW C gl e h x K).1:=(bW C gl e h x K).2
def eY:ACode:=(.seq (rg [mV 4 (cI 0)] [0,1])
(.seq (rg [mV 14 1,
uO 15 (.lens 14),
mV 5 15] [0,1,5])
(.seq (.block 0 (.seq (rg [mV 17 5,
bN 18 .eql 17 (cI 0),
mV 19 18,
gD 20 19 false (.mv 1),
gD 21 19 false (.mv 0),
gD 22 19 false (.bin .eql 20 21),
uO 23 (.pick 19 cT 22),
mV 16 23] [0,1,5,16])
(.cond 16 (.seq (rg [mV 4 (cI 0)] [4])
.ret)
(.seq (rg [mV 25 5,
bN 26 .eql 25 (cI 1),
mV 24 26] [0,1,5,24])
(.cond 24 (.seq (rg [mV 27 0,
mV 28 1,
uO 29 (.idxs 28 (cI 0)),
cL 30 eH [27,29],
mV 4 30] [4])
.ret)
(.seq (rg [mV 32 5,
mV 33 0,
uO 34 (.lens 33),
bN 35 .geq 32 34,
mV 31 35] [0,1,5,31])
(.cond 31 (.seq (rg [mV 4 (cI (-1))] [4])
.ret)
(.seq (rg [mV 37 5,
lD 38 none (.g 0),
bN 39 .leq 37 38,
mV 40 39,
gD 41 40 true (.mv 0),
gD 42 40 true (.lens 41),
gD 43 40 true (.bin .leq 42 (cI 64)),
uO 44 (.pick 40 43 cF),
mV 36 44] [0,1,5,36])
(.cond 36 (.seq (rg [mV 45 0,
mV 46 1,
cL 47 z2C [45,46],
mV 4 47] [4])
.ret)
.skip)))))))))
(.seq (rg [mV 48 1,
uO 49 (.idxs 48 (cI 0)),
mV 6 49] [0,1,5,6])
(.seq (rg [mV 50 1,
uO 51 (.idxs 50 (cI 1)),
mV 7 51] [0,1,5,6,7])
(.seq (rg [mV 8 (cI 0)] [0,1,5,6,7,8])
(.seq (rg [mV 52 0,
uO 53 (.lens 52),
mV 54 5,
bN 55 .sub 53 54,
bN 56 .add 55 (cI 1),
mV 9 56] [0,1,5,6,7,8,9])
(.seq (rg [mV 10 (cI 0)] [0,1,5,6,7,8,9,10])
(.seq (.block 1 (.loop GK))
LR)))))))))
def gU:AFun:=⟨2,[.t 4],eY,false,false⟩
def yP (C:Hd)(gl:GL)(e:En)(h:aA)(x:Esc)(K:KT):Sf C gl eY e h x K:=⟨_,by simp only[eY,↓wZ,AO.still];rfl⟩
theorem zbP {C gl v0 v1 h x K}:NW C gl gU.body ⟨enter [v0,v1],h,x⟩ K=(yP C gl [(0,v0),(1,v1)] h x K).1:=(yP C gl [(0,v0),(1,v1)] h x K).2
def cZ:ACode:=(.seq (rg [uO 2 (.box 0),
mV 3 cF] [1,2])
(.seq (rg [fA 4 0 none 2,
lD 5 none 4,
lD 6 none 1,
bN 7 .eql 5 6,
mV 3 7] [3])
.ret))
def aV:AFun:=⟨2,[.t 3],cZ,false,false⟩
def lQ (C:Hd)(gl:GL)(e:En)(h:aA)(x:Esc)(K:KT):Sf C gl cZ e h x K:=⟨_,by simp only[cZ,↓wZ,AO.still];rfl⟩
theorem zcY {C gl v0 v1 h x K}:NW C gl aV.body ⟨enter [v0,v1],h,x⟩ K=(lQ C gl [(0,v0),(1,v1)] h x K).1:=(lQ C gl [(0,v0),(1,v1)] h x K).2
def vS:ACode:=.pr [1,2,4,5,11,12,13] (rg [bN 23 .add 13 (cI 1),
mV 13 23] [1,2,4,5,11,12,13])
def vW (C:Hd)(gl:GL)(e:En)(h:aA)(x:Esc)(K:KT):Sf C gl vS e h x K:=⟨_,by simp only[vS,↓wZ,AO.still];rfl⟩
theorem zdc {C gl e h x K}:NW C gl vS ⟨e,h,x⟩ K=(vW C gl e h x K).1:=(vW C gl e h x K).2
def aL:ACode:=.pr [1,2,4,5,11,12,13] (.seq (rg [bN 14 .lss 13 12] [1,2,4,5,11,12,13,14])
(.seq (.cond 14 .skip
(.exit 0))
(.seq (.block 1 (.seq (rg [iA 15 (some 2) 11 13,
lD 16 (some 2) 15,
uO 7 (.alloc [.p (.str []),.p (.str [])]),
wO (.store (some 2) 7 16)] [1,2,4,5,7,11,12,13])
(.seq (rg [fA 17 0 none 7,
lD 18 none 17,
mV 19 1,
bN 20 .eql 18 19] [1,2,4,5,7,11,12,13,20])
(.cond 20 (rg [fA 21 1 none 7,
lD 22 none 21,
mV 5 22] [1,2,4,5,11,12,13])
.skip))))
vS)))
def wW (C:Hd)(gl:GL)(e:En)(h:aA)(x:Esc)(K:KT):Sf C gl aL e h x K:=⟨_,by simp only[aL,↓wZ,AO.still];rfl⟩
theorem zdd {C gl e h x K}:NW C gl aL ⟨e,h,x⟩ K=(wW C gl e h x K).1:=(wW C gl e h x K).2
theorem zff {C gl e h x K}:NW C gl (.loop (.scope aL)) ⟨e,h,x⟩ K=ZA C gl (.scope aL) K [(1,kA e 1),(2,kA e 2),(4,kA e 4),(5,kA e 5),(11,kA e 11),(12,kA e 12),(13,kA e 13)] h x:=WC
def xS:ACode:=.pr [2,4,5] (.seq (rg [lD 25 (some 5) 2,
mV 26 5,
cL 27 vI [25,26],
mV 24 27,
eX 28 24 0,
eX 29 24 1,
uO 8 (.alloc [.p (.str []),.p (.int .i64 0)]),
wO (.store (some 2) 8 28),
mV 9 29] [4,8])
(.seq (rg [lD 30 (some 2) 8,
wO (.store (some 2) 4 30)] [4])
.ret))
def uM (C:Hd)(gl:GL)(e:En)(h:aA)(x:Esc)(K:KT):Sf C gl xS e h x K:=⟨_,by simp only[xS,↓wZ,AO.still];rfl⟩
theorem WW {C gl e h x K}:NW C gl xS ⟨e,h,x⟩ K=(uM C gl e h x K).1:=(uM C gl e h x K).2
def fZ:ACode:=(.seq (rg [uO 2 (.box 0),
uO 4 (.alloc [.p (.str []),.p (.int .i64 0)])] [1,2,4])
(.seq (rg [mV 5 (cS [98,121,112,97,115,115])] [1,2,4,5])
(.seq (.seq (rg [fA 10 4 none 2,
lD 11 none 10,
lN 12 11,
mV 13 (cI 0)] [1,2,4,5,11,12,13])
(.block 0 (.loop (.scope aL))))
xS)))
def dV:AFun:=⟨2,[.cell 4 (some 2)],fZ,false,false⟩
def pQ (C:Hd)(gl:GL)(e:En)(h:aA)(x:Esc)(K:KT):Sf C gl fZ e h x K:=⟨_,by simp only[fZ,↓wZ,AO.still];rfl⟩
theorem zdb {C gl v0 v1 h x K}:NW C gl dV.body ⟨enter [v0,v1],h,x⟩ K=(pQ C gl [(0,v0),(1,v1)] h x K).1:=(pQ C gl [(0,v0),(1,v1)] h x K).2
def bY:ACode:=(.seq (rg [mV 2 (cI 0)] [0])
(.seq (rg [mV 3 0,
bN 4 .add 3 (cI 16),
bN 5 .quo 4 (cI 8),
mV 2 5] [2])
.ret))
def dU:AFun:=⟨1,[.t 2],bY,false,false⟩
def KV (C:Hd)(gl:GL)(e:En)(h:aA)(x:Esc)(K:KT):Sf C gl bY e h x K:=⟨_,by simp only[bY,↓wZ,AO.still];rfl⟩
theorem zbC {C gl v0 h x K}:NW C gl dU.body ⟨enter [v0],h,x⟩ K=(KV C gl [(0,v0)] h x K).1:=(KV C gl [(0,v0)] h x K).2
def CK:ACode:=.pr [0,1,5,6,7,8,9] (.seq (.seq (rg [mV 18 9,
mV 19 7,
bN 20 .lss 18 19] [0,1,5,6,7,8,9,20])
(.cond 20 .skip
(.exit 0)))
(.seq (.block 1 (rg [mV 23 8,
bN 24 .mul 23 (.c (.p (.int .u32 16777619))),
mV 25 0,
mV 26 9,
uO 27 (.idxs 25 26),
uO 28 (.conv (.i .u32) 27),
bN 29 .add 24 28,
mV 8 29] [0,1,5,6,7,8,9]))
(rg [mV 21 9,
bN 22 .add 21 (cI 1),
mV 9 22] [0,1,5,6,7,8,9])))
def MV (C:Hd)(gl:GL)(e:En)(h:aA)(x:Esc)(K:KT):Sf C gl CK e h x K:=⟨_,by simp only[CK,↓wZ,AO.still];rfl⟩
theorem zbE {C gl e h x K}:NW C gl CK ⟨e,h,x⟩ K=(MV C gl e h x K).1:=(MV C gl e h x K).2
theorem zeF {C gl e h x K}:NW C gl (.loop CK) ⟨e,h,x⟩ K=ZA C gl CK K [(0,kA e 0),(1,kA e 1),(5,kA e 5),(6,kA e 6),(7,kA e 7),(8,kA e 8),(9,kA e 9)] h x:=GC
def DK:ACode:=.pr [0,1,5,6,7,8,10] (.seq (.seq (rg [mV 41 10,
mV 42 0,
uO 43 (.lens 42),
bN 44 .lss 41 43] [0,1,5,6,7,8,10,44])
(.cond 44 .skip
(.exit 2)))
(.block 3 (.seq (rg [mV 45 8,
bN 46 .mul 45 (.c (.p (.int .u32 16777619))),
mV 8 46] [0,1,5,6,7,8,10])
(.seq (rg [mV 47 8,
mV 48 0,
mV 49 10,
uO 50 (.idxs 48 49),
uO 51 (.conv (.i .u32) 50),
bN 52 .add 47 51,
mV 8 52] [0,1,5,6,7,8,10])
(.seq (rg [mV 53 8,
mV 54 6,
mV 55 0,
mV 56 10,
mV 57 7,
bN 58 .sub 56 57,
uO 59 (.idxs 55 58),
uO 60 (.conv (.i .u32) 59),
bN 61 .mul 54 60,
bN 62 .sub 53 61,
mV 8 62] [0,1,5,6,7,8,10])
(.seq (rg [mV 63 10,
bN 64 .add 63 (cI 1),
mV 10 64] [0,1,5,6,7,8,10])
(.seq (rg [mV 65 8,
mV 66 5,
bN 67 .eql 65 66,
mV 68 67,
gD 69 68 true (.mv 0),
gD 70 68 true (.mv 10),
gD 71 68 true (.mv 7),
gD 72 68 true (.bin .sub 70 71),
gD 73 68 true (.mv 10),
gD 74 68 true (.slstr 69 (some 72) (some 73)),
gD 75 68 true (.mv 1),
gD 76 68 true (.bin .eql 74 75),
uO 77 (.pick 68 76 cF)] [0,1,5,6,7,8,10,77])
(.cond 77 (.seq (rg [mV 78 10,
mV 79 7,
bN 80 .sub 78 79,
mV 4 80] [4])
.ret)
.skip))))))))
def NV (C:Hd)(gl:GL)(e:En)(h:aA)(x:Esc)(K:KT):Sf C gl DK e h x K:=⟨_,by simp only[DK,↓wZ,AO.still];rfl⟩
theorem zbF {C gl e h x K}:NW C gl DK ⟨e,h,x⟩ K=(NV C gl e h x K).1:=(NV C gl e h x K).2
theorem zeG {C gl e h x K}:NW C gl (.loop DK) ⟨e,h,x⟩ K=ZA C gl DK K [(0,kA e 0),(1,kA e 1),(5,kA e 5),(6,kA e 6),(7,kA e 7),(8,kA e 8),(10,kA e 10)] h x:=GC
def DR:ACode:=.pr [] (.seq (rg [mV 4 (cI (-1))] [4])
.ret)
def OV (C:Hd)(gl:GL)(e:En)(h:aA)(x:Esc)(K:KT):Sf C gl DR e h x K:=⟨_,by simp only[DR,↓wZ,AO.still];rfl⟩
theorem zbG {C gl e h x K}:NW C gl DR ⟨e,h,x⟩ K=(OV C gl e h x K).1:=(OV C gl e h x K).2
def ER:ACode:=.pr [0,1,5,6,7,8] (.seq (.seq (rg [mV 30 8,
mV 31 5,
bN 32 .eql 30 31,
mV 33 32,
gD 34 33 true (.mv 0),
gD 35 33 true (.mv 7),
gD 36 33 true (.slstr 34 none (some 35)),
gD 37 33 true (.mv 1),
gD 38 33 true (.bin .eql 36 37),
uO 39 (.pick 33 38 cF)] [0,1,5,6,7,8,39])
(.cond 39 (.seq (rg [mV 4 (cI 0)] [4])
.ret)
.skip))
(.seq (.seq (rg [mV 40 7,
mV 10 40] [0,1,5,6,7,8,10])
(.block 2 (.loop DK)))
DR))
def QV (C:Hd)(gl:GL)(e:En)(h:aA)(x:Esc)(K:KT):Sf C gl ER e h x K:=⟨_,by simp only[ER,↓wZ,AO.still];rfl⟩
theorem zbH {C gl e h x K}:NW C gl ER ⟨e,h,x⟩ K=(QV C gl e h x K).1:=(QV C gl e h x K).2
def cY:ACode:=(.seq (rg [mV 4 (cI 0)] [0,1])
(.seq (rg [mV 12 1,
cL 13 XQ [12],
mV 11 13,
eX 14 11 0,
eX 15 11 1,
mV 5 14,
mV 6 15] [0,1,5,6])
(.seq (rg [mV 16 1,
uO 17 (.lens 16),
mV 7 17] [0,1,5,6,7])
(.seq (rg [mV 8 (.c (.p (.int .u32 0)))] [0,1,5,6,7,8])
(.seq (.seq (rg [mV 9 (cI 0)] [0,1,5,6,7,8,9])
(.block 0 (.loop CK)))
ER)))))
def eU:AFun:=⟨2,[.t 4],cY,false,false⟩
def LV (C:Hd)(gl:GL)(e:En)(h:aA)(x:Esc)(K:KT):Sf C gl cY e h x K:=⟨_,by simp only[cY,↓wZ,AO.still];rfl⟩
theorem zbD {C gl v0 v1 h x K}:NW C gl eU.body ⟨enter [v0,v1],h,x⟩ K=(LV C gl [(0,v0),(1,v1)] h x K).1:=(LV C gl [(0,v0),(1,v1)] h x K).2
def EK:ACode:=.pr [0,4,5] (.seq (.seq (rg [mV 9 5,
mV 10 0,
uO 11 (.lens 10),
bN 12 .lss 9 11] [0,4,5,12])
(.cond 12 .skip
(.exit 0)))
(.seq (.block 1 (rg [mV 15 4,
bN 16 .mul 15 (.c (.p (.int .u32 16777619))),
mV 17 0,
mV 18 5,
uO 19 (.idxs 17 18),
uO 20 (.conv (.i .u32) 19),
bN 21 .add 16 20,
mV 4 21] [0,4,5]))
(rg [mV 13 5,
bN 14 .add 13 (cI 1),
mV 5 14] [0,4,5])))
def TV (C:Hd)(gl:GL)(e:En)(h:aA)(x:Esc)(K:KT):Sf C gl EK e h x K:=⟨_,by simp only[EK,↓wZ,AO.still];rfl⟩
theorem zbJ {C gl e h x K}:NW C gl EK ⟨e,h,x⟩ K=(TV C gl e h x K).1:=(TV C gl e h x K).2
theorem zeH {C gl e h x K}:NW C gl (.loop EK) ⟨e,h,x⟩ K=ZA C gl EK K [(0,kA e 0),(4,kA e 4),(5,kA e 5)] h x:=GC
def GR:ACode:=.pr [4,6,7,8] (rg [mV 34 7,
mV 35 7,
bN 36 .mul 34 35,
mV 7 36] [4,6,7,8])
def UV (C:Hd)(gl:GL)(e:En)(h:aA)(x:Esc)(K:KT):Sf C gl GR e h x K:=⟨_,by simp only[GR,↓wZ,AO.still];rfl⟩
theorem zbK {C gl e h x K}:NW C gl GR ⟨e,h,x⟩ K=(UV C gl e h x K).1:=(UV C gl e h x K).2
def HR:ACode:=.pr [4,6,7,8] (rg [mV 26 8,
bN 27 .shr 26 (.c (.p (.int .u64 1))),
mV 8 27] [4,6,7,8])
def VV (C:Hd)(gl:GL)(e:En)(h:aA)(x:Esc)(K:KT):Sf C gl HR e h x K:=⟨_,by simp only[HR,↓wZ,AO.still];rfl⟩
theorem zbL {C gl e h x K}:NW C gl HR ⟨e,h,x⟩ K=(VV C gl e h x K).1:=(VV C gl e h x K).2
def FK:ACode:=.pr [4,6,7,8] (.seq (.seq (rg [mV 24 8,
bN 25 .gtr 24 (cI 0)] [4,6,7,8,25])
(.cond 25 .skip
(.exit 2)))
(.seq (.block 3 (.seq (.seq (rg [mV 28 8,
bN 29 .and 28 (cI 1),
bN 30 .neq 29 (cI 0)] [4,6,7,8,30])
(.cond 30 (rg [mV 31 6,
mV 32 7,
bN 33 .mul 31 32,
mV 6 33] [4,6,7,8])
.skip))
GR))
HR))
def WV (C:Hd)(gl:GL)(e:En)(h:aA)(x:Esc)(K:KT):Sf C gl FK e h x K:=⟨_,by simp only[FK,↓wZ,AO.still];rfl⟩
theorem zbM {C gl e h x K}:NW C gl FK ⟨e,h,x⟩ K=(WV C gl e h x K).1:=(WV C gl e h x K).2
theorem zeI {C gl e h x K}:NW C gl (.loop FK) ⟨e,h,x⟩ K=ZA C gl FK K [(4,kA e 4),(6,kA e 6),(7,kA e 7),(8,kA e 8)] h x:=GC
def IR:ACode:=.pr [4,6] (.seq (rg [mV 37 4,
mV 38 6,
mV 2 37,
mV 3 38] [2,3])
.ret)
def XV (C:Hd)(gl:GL)(e:En)(h:aA)(x:Esc)(K:KT):Sf C gl IR e h x K:=⟨_,by simp only[IR,↓wZ,AO.still];rfl⟩
theorem zbN {C gl e h x K}:NW C gl IR ⟨e,h,x⟩ K=(XV C gl e h x K).1:=(XV C gl e h x K).2
def JR:ACode:=.pr [0,4] (.seq (rg [mV 6 (.c (.p (.int .u32 1))),
mV 7 (.c (.p (.int .u32 16777619)))] [0,4,6,7])
(.seq (.seq (rg [mV 22 0,
uO 23 (.lens 22),
mV 8 23] [4,6,7,8])
(.block 2 (.loop FK)))
IR))
def YV (C:Hd)(gl:GL)(e:En)(h:aA)(x:Esc)(K:KT):Sf C gl JR e h x K:=⟨_,by simp only[JR,↓wZ,AO.still];rfl⟩
theorem zbO {C gl e h x K}:NW C gl JR ⟨e,h,x⟩ K=(YV C gl e h x K).1:=(YV C gl e h x K).2
def dY:ACode:=(.seq (rg [mV 2 (.c (.p (.int .u32 0))),
mV 3 (.c (.p (.int .u32 0)))] [0])
(.seq (rg [mV 4 (.c (.p (.int .u32 0)))] [0,4])
(.seq (.seq (rg [mV 5 (cI 0)] [0,4,5])
(.block 0 (.loop EK)))
JR)))
def fU:AFun:=⟨1,[.t 2,.t 3],dY,false,false⟩
def SV (C:Hd)(gl:GL)(e:En)(h:aA)(x:Esc)(K:KT):Sf C gl dY e h x K:=⟨_,by simp only[dY,↓wZ,AO.still];rfl⟩
theorem zbI {C gl v0 h x K}:NW C gl fU.body ⟨enter [v0],h,x⟩ K=(SV C gl [(0,v0)] h x K).1:=(SV C gl [(0,v0)] h x K).2
def zgm:ACode:=(.seq (rg [uO 4 (.alloc [.p (.int .i64 0),.p (.int .i64 0)])] [0,1,4])
(.seq (rg [mV 6 0,
mV 7 0,
uO 8 (.un .neg 7),
uO 9 (.mx [6,8]),
mV 10 1,
cL 11 z2D [9,10],
mV 5 11] [0,1,4,5])
(.seq (dr [dF (mV 12 0) [0],
dF (mV 13 5) [5],
dF (bN 14 .quo 12 13) [12,13],
dF (mV 15 1) [1],
dF (mV 16 5) [5],
dF (bN 17 .quo 15 16) [15,16],
dF (uO 18 (.build [.p (.int .i64 0),.p (.int .i64 0)] [(0,1,14),(1,1,17)])) [14,17],
dT (wO (.store (some 2) 4 18)) [4,18]] [4])
.ret)))
def z7F:AFun:=⟨2,[.cell 4 (some 2)],zgm,false,false⟩
def zgo:ACode:=.pr [0,1] (.seq (.seq (rg [mV 5 1,
bN 6 .neq 5 (cI 0)] [0,1,6])
(.cond 6 .skip
(.exit 0)))
(.block 1 (dr [dF (mV 7 1) [1],
dF (mV 8 0) [0],
dF (mV 9 1) [1],
dF (bN 10 .rem 8 9) [8,9],
dF (mV 0 7) [7],
dF (mV 1 10) [10]] [0,1])))
def zgp:ACode:=.pr [0] (.seq (rg [mV 11 0,
mV 4 11] [4])
.ret)
def zgn:ACode:=(.seq (rg [mV 4 (cI 0)] [0,1])
(.seq (.block 0 (.loop zgo))
zgp))
def z7G:AFun:=⟨2,[.t 4],zgn,false,false⟩
def zgq:ACode:=(.seq (rg [mV 2 cF] [0])
(.seq (rg [mV 3 0,
cL 4 WB [3,(cI 0),(cI 345686399999)],
uO 5 (.un .not 4),
mV 2 5] [2])
.ret))
def z7H:AFun:=⟨1,[.t 2],zgq,false,false⟩
def zgs:ACode:=.pr [2,19,20,21] (.seq (rg [bN 22 .lss 21 20] [2,19,20,21,22])
(.seq (.cond 22 .skip
(.exit 0))
(.seq (.block 1 (.seq (rg [mV 23 21,
iA 24 none 19 21,
lD 25 none 24,
mV 6 23,
mV 7 25] [2,6,7,19,20,21])
(.seq (rg [mV 26 7,
uO 27 (.lens 26),
fA 28 0 none 2,
lD 29 none 28,
mV 30 6,
iA 31 (some 2) 29 30,
fA 32 1 none 31,
lD 33 none 32,
lN 34 33,
bN 35 .neq 27 34,
mV 36 35,
gD 37 36 false (.mv 7),
gD 38 36 false (.call ZD [37]),
gD 39 36 false (.un .not 38),
uO 40 (.pick 36 cT 39)] [2,19,20,21,40])
(.cond 40 (.seq (rg [mV 4 (cI 3)] [4])
.ret)
.skip))))
(rg [bN 41 .add 21 (cI 1),
mV 21 41] [2,19,20,21]))))
def zgt:ACode:=.pr [] (.seq (rg [mV 4 (cI 0)] [4])
.ret)
def zgr:ACode:=(.seq (rg [uO 2 (.box 0),
mV 4 (cI 0)] [1,2])
(.seq (.seq (rg [lD 8 (some 3) 2,
cL 9 z2F [8],
mV 5 9] [1,2,5])
(.seq (rg [mV 10 5,
bN 11 .neq 10 (cI 0)] [1,2,5,11])
(.cond 11 (.seq (rg [mV 12 5,
mV 4 12] [4])
.ret)
.skip)))
(.seq (.seq (rg [mV 13 1,
lN 14 13,
fA 15 0 none 2,
lD 16 none 15,
lN 17 16,
bN 18 .neq 14 17] [1,2,18])
(.cond 18 (.seq (rg [mV 4 (cI 3)] [4])
.ret)
.skip))
(.seq (.seq (rg [mV 19 1,
lN 20 19,
mV 21 (cI 0)] [2,19,20,21])
(.block 0 (.loop zgs)))
zgt))))
def z7I:AFun:=⟨2,[.t 4],zgr,false,false⟩
def zgv:ACode:=.pr [1,15,16,17] (.seq (rg [bN 18 .lss 17 16] [1,15,16,17,18])
(.seq (.cond 18 .skip
(.exit 0))
(.seq (.block 1 (.seq (rg [mV 19 17,
iA 20 (some 2) 15 17,
lD 21 (some 2) 20,
uO 4 (.alloc [.p (.str []),.sl0 (some 4)]),
mV 3 19,
wO (.store (some 2) 4 21)] [1,3,4,15,16,17])
(.seq (.block 2 (.seq (rg [fA 23 0 none 4,
lD 24 none 23,
cL 25 zD [24],
uO 26 (.un .not 25),
mV 22 26] [1,3,4,15,16,17,22])
(.cond 22 (.seq (rg [mV 2 (cI 5)] [2])
.ret)
(.seq (dr [dF (mV 28 3) [3],
dF (bN 29 .gtr 28 (cI 0)) [28],
dF (mV 30 29) [29],
dF (gD 31 30 true (.faddr 0 none 4)) [4,30],
dF (gD 32 30 true (.load none 31)) [31,30],
dF (gD 33 30 true (.faddr 0 none 1)) [1,30],
dF (gD 34 30 true (.load none 33)) [33,30],
dF (gD 35 30 true (.mv 3)) [3,30],
dF (gD 36 30 true (.bin .sub 35 (cI 1))) [35,30],
dF (gD 37 30 true (.iaddr (some 2) 34 36)) [34,36,30],
dF (gD 38 30 true (.faddr 0 none 37)) [37,30],
dF (gD 39 30 true (.load none 38)) [38,30],
dF (gD 40 30 true (.bin .leq 32 39)) [32,39,30],
dF (uO 41 (.pick 30 40 cF)) [30,40],
dF (mV 27 41) [41]] [1,4,15,16,17,27])
(.cond 27 (.seq (rg [mV 2 (cI 7)] [2])
.ret)
.skip)))))
(.seq (rg [lD 42 (some 2) 4,
cL 43 z2K [42],
mV 5 43] [1,5,15,16,17])
(.seq (rg [mV 44 5,
bN 45 .neq 44 (cI 0)] [1,5,15,16,17,45])
(.cond 45 (.seq (rg [mV 46 5,
mV 2 46] [2])
.ret)
.skip))))))
(rg [bN 47 .add 17 (cI 1),
mV 17 47] [1,15,16,17]))))
def zgw:ACode:=.pr [1,7,59,60,61] (.seq (rg [bN 62 .lss 61 60] [1,7,59,60,61,62])
(.seq (.cond 62 .skip
(.exit 3))
(.seq (.block 4 (.seq (rg [mV 63 61,
iA 64 (some 2) 59 61,
lD 65 (some 2) 64,
uO 9 (.alloc [.p (.str []),.p (.int .i64 0)]),
mV 8 63,
wO (.store (some 2) 9 65)] [1,7,8,9,59,60,61])
(.block 5 (.seq (rg [mV 67 7,
fA 68 0 none 9,
lD 69 none 68,
cL 70 tX [67,69],
uO 71 (.un .not 70),
mV 66 71] [1,7,8,9,59,60,61,66])
(.cond 66 (.seq (rg [mV 2 (cI 8)] [2])
.ret)
(.seq (rg [fA 73 1 none 9,
lD 74 none 73,
cL 75 WB [74,(cI 0),(cI 1)],
mV 72 75] [1,7,8,9,59,60,61,72])
(.cond 72 (.seq (rg [mV 2 (cI 1)] [2])
.ret)
(.seq (dr [dF (mV 77 8) [8],
dF (bN 78 .gtr 77 (cI 0)) [77],
dF (mV 79 78) [78],
dF (gD 80 79 true (.faddr 0 none 9)) [9,79],
dF (gD 81 79 true (.load none 80)) [80,79],
dF (gD 82 79 true (.faddr 2 none 1)) [1,79],
dF (gD 83 79 true (.load none 82)) [82,79],
dF (gD 84 79 true (.mv 8)) [8,79],
dF (gD 85 79 true (.bin .sub 84 (cI 1))) [84,79],
dF (gD 86 79 true (.iaddr (some 2) 83 85)) [83,85,79],
dF (gD 87 79 true (.faddr 0 none 86)) [86,79],
dF (gD 88 79 true (.load none 87)) [87,79],
dF (gD 89 79 true (.bin .leq 81 88)) [81,88,79],
dF (uO 90 (.pick 79 89 cF)) [79,89],
dF (mV 76 90) [90]] [1,7,59,60,61,76])
(.cond 76 (.seq (rg [mV 2 (cI 7)] [2])
.ret)
.skip)))))))))
(rg [bN 91 .add 61 (cI 1),
mV 61 91] [1,7,59,60,61]))))
def zgx:ACode:=.pr [] (.seq (rg [mV 2 (cI 0)] [2])
.ret)
def zgy:ACode:=.pr [1] (.seq (.seq (rg [lD 48 (some 3) 1,
cL 49 z2O [48],
mV 6 49] [1,6])
(.seq (rg [mV 50 6,
bN 51 .neq 50 (cI 0)] [1,6,51])
(.cond 51 (.seq (rg [mV 52 6,
mV 2 52] [2])
.ret)
.skip)))
(.seq (rg [lD 53 (some 3) 1,
cL 54 UQ [53],
mV 7 54] [1,7])
(.seq (.seq (rg [mV 55 7,
lN 56 55,
bN 57 .gtr 56 (cI 100)] [1,7,57])
(.cond 57 (.seq (rg [mV 2 (cI 2)] [2])
.ret)
.skip))
(.seq (.seq (rg [fA 58 2 none 1,
lD 59 none 58,
lN 60 59,
mV 61 (cI 0)] [1,7,59,60,61])
(.block 3 (.loop (.scope zgw))))
zgx))))
def zgu:ACode:=(.seq (rg [uO 1 (.box 0),
mV 2 (cI 0)] [1])
(.seq (.seq (rg [fA 10 0 none 1,
lD 11 none 10,
lN 12 11,
bN 13 .gtr 12 (cI 40)] [1,13])
(.cond 13 (.seq (rg [mV 2 (cI 2)] [2])
.ret)
.skip))
(.seq (.seq (rg [fA 14 0 none 1,
lD 15 none 14,
lN 16 15,
mV 17 (cI 0)] [1,15,16,17])
(.block 0 (.loop (.scope zgv))))
zgy)))
def z7J:AFun:=⟨1,[.t 2],zgu,false,false⟩
end Go.Am
end
section
/- The functions asv abstract code,and asv formulas over their values: printed by program out of the translation. -/
set_option linter.all false
set_option maxRecDepth 100000
namespace Go.Am
def zg0:ACode:=.pr [7,8,21,22,23] (.seq (rg [bN 24 .lss 23 22] [7,8,21,22,23,24])
(.seq (.cond 24 .skip
(.exit 0))
(.seq (.block 1 (.seq (rg [iA 25 none 21 23,
lD 26 none 25,
mV 10 26] [7,8,10,21,22,23])
(rg [mV 27 8,
mV 28 7,
mV 29 10,
uO 30 (.look (none,[2]) false (AI 0) 28 29),
uO 31 (.bsl false none 1 (.int .i64 0) [(0,30)]),
uO 32 (.app none 27 31),
mV 8 32] [7,8,21,22,23])))
(rg [bN 33 .add 23 (cI 1),
mV 23 33] [7,8,21,22,23]))))
def zg1:ACode:=.pr [8] (.seq (rg [mV 34 8,
mV 4 34,
mV 5 (cI 0)] [4,5])
.ret)
def zgz:ACode:=(.seq (rg [uO 2 (.box 0),
mV 4 (.c (.p (.sl none []))),
mV 5 (cI 0)] [1,2])
(.seq (.seq (rg [lD 11 (some 3) 2,
mV 12 1,
cL 13 z2E [11,12],
mV 6 13] [1,2,6])
(.seq (rg [mV 14 6,
bN 15 .neq 14 (cI 0)] [1,2,6,15])
(.cond 15 (.seq (rg [mV 16 6,
mV 4 (.c (.p (.sl none []))),
mV 5 16] [4,5])
.ret)
.skip)))
(.seq (rg [lD 17 (some 3) 2,
mV 18 1,
cL 19 z2P [17,18],
mV 7 19] [2,7])
(.seq (rg [uO 8 (.new0 none)] [2,7,8])
(.seq (.seq (rg [lD 20 (some 3) 2,
cL 21 UQ [20],
lN 22 21,
mV 23 (cI 0)] [7,8,21,22,23])
(.block 0 (.loop (.scope zg0))))
zg1)))))
def z7K:AFun:=⟨2,[.t 4,.t 5],zgz,false,false⟩
def zg2:ACode:=(.seq (rg [uO 2 (.box 0),
uO 3 (.box 1),
mV 4 (cI 0)] [2,3])
(.seq (dr [dF (fA 5 0 none 2) [2],
dF (lD 6 none 5) [5],
dF (fA 7 0 none 3) [3],
dF (lD 8 none 7) [7],
dT (cL 9 YJ [6,8]) [6,8],
dF (fA 10 1 none 2) [2],
dA (lD 11 none 10) [10] false [4] [],
dF (fA 12 1 none 3) [3],
dA (lD 13 none 12) [12] false [4] [],
dT (cL 14 YJ [11,13]) [11,13],
dF (fA 15 2 none 2) [2],
dA (lD 16 none 15) [15] false [4,9] [],
dF (fA 17 2 none 3) [3],
dA (lD 18 none 17) [17] false [4,9] [],
dT (cL 19 YJ [16,18]) [16,18],
dF (uO 20 (.bsl false none 3 (.int .i64 0) [(0,9),(1,14),(2,19)])) [9,14,19],
dT (cL 21 qX [20]) [20],
dF (mV 4 21) [21]] [4])
.ret))
def z7L:AFun:=⟨2,[.t 4],zg2,false,false⟩
def zg3:ACode:=(.seq (rg [uO 2 (.box 0),
uO 3 (.box 1),
mV 4 (cI 0)] [2,3])
(.seq (.block 0 (.seq (rg [fA 6 0 none 3,
lD 7 none 6,
cL 8 WB [7,(cI 1),(cI 4)],
mV 5 8] [2,3,5])
(.cond 5 (.seq (rg [mV 4 (cI 4)] [4])
.ret)
(.seq (rg [lD 10 (some 4) 3,
cL 11 RM [10],
mV 12 11,
gD 13 12 true (.faddr 1 none 3),
gD 14 12 true (.load none 13),
gD 15 12 true (.call zD [14]),
gD 16 12 true (.un .not 15),
uO 17 (.pick 12 16 cF),
mV 9 17] [2,3,9])
(.cond 9 (.seq (rg [mV 4 (cI 5)] [4])
.ret)
(.seq (rg [lD 19 (some 4) 3,
cL 20 RM [19],
uO 21 (.un .not 20),
mV 22 21,
gD 23 22 true (.faddr 1 none 3),
gD 24 22 true (.load none 23),
gD 25 22 true (.bin .neq 24 (cS [])),
uO 26 (.pick 22 25 cF),
mV 18 26] [2,3,18])
(.cond 18 (.seq (rg [mV 4 (cI 3)] [4])
.ret)
.skip)))))))
(.seq (.seq (rg [fA 27 0 none 3,
lD 28 none 27,
bN 29 .neq 28 (cI 2)] [2,3,29])
(.cond 29 (.seq (.seq (rg [fA 30 2 none 3,
lD 31 none 30,
bN 32 .neq 31 (cI (-1)),
mV 33 32,
gD 34 33 false (.faddr 3 none 3),
gD 35 33 false (.load none 34),
gD 36 33 false (.bin .neq 35 (cI 0)),
uO 37 (.pick 33 cT 36)] [37])
(.cond 37 (.seq (rg [mV 4 (cI 3)] [4])
.ret)
.skip))
(.seq (rg [mV 4 (cI 0)] [4])
.ret))
.skip))
(.seq (.block 1 (.seq (rg [fA 39 2 none 3,
lD 40 none 39,
bN 41 .neq 40 (cI (-1)),
mV 42 41,
gD 43 42 true (.faddr 2 none 3),
gD 44 42 true (.load none 43),
gD 45 42 true (.faddr 1 none 2),
gD 46 42 true (.load none 45),
gD 47 42 true (.len 46),
gD 48 42 true (.bin .sub 47 (cI 1)),
gD 49 42 true (.call WB [44,(cI 0),48]),
gD 50 42 true (.mv 49),
gD 51 50 false (.faddr 1 none 2),
gD 52 50 false (.load none 51),
gD 53 50 false (.faddr 2 none 3),
gD 54 50 false (.load none 53),
gD 55 50 false (.iaddr (some 4) 52 54),
gD 56 50 false (.faddr 0 none 55),
gD 57 50 false (.load none 56),
gD 58 50 false (.bin .neq 57 (cI 3)),
gD 59 42 true (.pick 50 cT 58),
uO 60 (.pick 42 59 cF),
mV 38 60] [3,38])
(.cond 38 (.seq (rg [mV 4 (cI 8)] [4])
.ret)
(.seq (rg [fA 62 3 none 3,
lD 63 none 62,
cL 64 WB [63,(cI 0),(cI 1)],
mV 65 64,
gD 66 65 false (.faddr 2 none 3),
gD 67 65 false (.load none 66),
gD 68 65 false (.bin .eql 67 (cI (-1))),
gD 69 65 false (.mv 68),
gD 70 69 true (.faddr 3 none 3),
gD 71 69 true (.load none 70),
gD 72 69 true (.bin .neq 71 (cI 0)),
gD 73 65 false (.pick 69 72 cF),
uO 74 (.pick 65 cT 73),
mV 61 74] [61])
(.cond 61 (.seq (rg [mV 4 (cI 1)] [4])
.ret)
.skip)))))
(.seq (rg [mV 4 (cI 0)] [4])
.ret)))))
def z7M:AFun:=⟨2,[.t 4],zg3,false,false⟩
def zg5:ACode:=.pr [1,5,6,7,8,17,18,19,25,26,27] (rg [bN 57 .add 27 (cI 1),
mV 27 57] [1,5,6,7,8,17,18,19,25,26,27])
def zg6:ACode:=.pr [1,5,6,7,8,17,18,19,25,26,27] (.seq (rg [bN 28 .lss 27 26] [1,5,6,7,8,17,18,19,25,26,27,28])
(.seq (.cond 28 .skip
(.exit 2))
(.seq (.block 3 (.seq (rg [mV 29 27,
iA 30 (some 4) 25 27,
lD 31 (some 4) 30,
uO 10 (.alloc [.p (.int .i64 0),.p (.str []),.p (.int .i64 0),.p (.int .i64 0)]),
mV 9 29,
wO (.store (some 4) 10 31)] [1,5,6,7,8,9,10,17,18,19,25,26,27])
(.seq (.seq (rg [fA 32 0 none 10,
lD 33 none 32,
mV 34 1,
bN 35 .neq 33 34] [1,5,6,7,8,9,10,17,18,19,25,26,27,35])
(.cond 35 (.exit 3)
.skip))
(.seq (rg [mV 37 5,
fA 38 0 none 8,
lD 39 none 38,
fA 40 1 none 10,
lD 41 none 40,
uO 42 (.build [.p (.str []),.p (.str [])] [(0,1,39),(1,1,41)]),
uO 43 (.look ((some 2),[2,2]) true (.p (.str [])) 37 42),
mV 36 43,
eX 44 36 0,
eX 45 36 1,
mV 11 44,
mV 12 45] [1,5,6,7,8,9,11,12,17,18,19,25,26,27])
(.seq (rg [mV 46 12] [1,5,6,7,8,9,11,17,18,19,25,26,27,46])
(.cond 46 (rg [mV 47 6,
mV 48 11,
mV 49 6,
mV 50 11,
uO 51 (.look (none,[2]) false (.sl0 (some 2)) 49 50),
mV 52 7,
mV 53 9,
uO 54 (.build [.p (.int .i64 0),.p (.int .i64 0)] [(0,1,52),(1,1,53)]),
uO 55 (.bsl false (some 2) 1 (.agg [.int .i64 0,.int .i64 0]) [(0,54)]),
uO 56 (.app (some 2) 51 55),
wO (.mupd (none,[2]) 47 48 56)] [1,5,6,7,8,17,18,19,25,26,27])
.skip))))))
zg5)))
def zg7:ACode:=.pr [1,5,6,17,18,19] (rg [bN 58 .add 19 (cI 1),
mV 19 58] [1,5,6,17,18,19])
def zg8:ACode:=.pr [1,5,6,17,18,19] (.seq (rg [bN 20 .lss 19 18] [1,5,6,17,18,19,20])
(.seq (.cond 20 .skip
(.exit 0))
(.seq (.block 1 (.seq (rg [mV 21 19,
iA 22 (some 2) 17 19,
lD 23 (some 2) 22,
uO 8 (.alloc [.p (.str []),.sl0 (some 4)]),
mV 7 21,
wO (.store (some 2) 8 23)] [1,5,6,7,8,17,18,19])
(.seq (rg [fA 24 1 none 8,
lD 25 none 24,
lN 26 25,
mV 27 (cI 0)] [1,5,6,7,8,17,18,19,25,26,27])
(.block 2 (.loop (.scope zg6))))))
zg7)))
def zg9:ACode:=.pr [6] (.seq (rg [mV 59 6,
mV 4 59] [4])
.ret)
def zg4:ACode:=(.seq (rg [uO 2 (.box 0),
mV 4 (.c (.nilm))] [1,2])
(.seq (rg [lD 13 (some 3) 2,
cL 14 z2Q [13],
mV 5 14] [1,2,5])
(.seq (rg [uO 15 (.mkmap),
mV 6 15] [1,2,5,6])
(.seq (.seq (rg [fA 16 0 none 2,
lD 17 none 16,
lN 18 17,
mV 19 (cI 0)] [1,5,6,17,18,19])
(.block 0 (.loop (.scope zg8))))
zg9))))
def z7N:AFun:=⟨2,[.t 4],zg4,false,false⟩
def zgB:ACode:=.pr [1,13,14,15] (.seq (rg [bN 16 .lss 15 14] [1,13,14,15,16])
(.seq (.cond 16 .skip
(.exit 0))
(.seq (.block 1 (.seq (rg [iA 17 (some 4) 13 15,
lD 18 (some 4) 17,
uO 4 (.alloc [.p (.int .i64 0),.p (.str []),.p (.int .i64 0),.p (.int .i64 0)]),
wO (.store (some 4) 4 18)] [1,4,13,14,15])
(.seq (rg [lD 19 (some 2) 1,
lD 20 (some 4) 4,
cL 21 z2I [19,20],
mV 5 21] [1,5,13,14,15])
(.seq (rg [mV 22 5,
bN 23 .neq 22 (cI 0)] [1,5,13,14,15,23])
(.cond 23 (.seq (rg [mV 24 5,
mV 2 24] [2])
.ret)
.skip)))))
(rg [bN 25 .add 15 (cI 1),
mV 15 25] [1,13,14,15]))))
def zgC:ACode:=.pr [1,27,28,29] (.seq (rg [bN 30 .lss 29 28] [1,27,28,29,30])
(.seq (.cond 30 .skip
(.exit 2))
(.seq (.block 3 (.seq (rg [mV 31 29,
iA 32 (some 4) 27 29,
lD 33 (some 4) 32,
uO 7 (.alloc [.p (.int .i64 0),.p (.str []),.p (.int .i64 0),.p (.int .i64 0)]),
mV 6 31,
wO (.store (some 4) 7 33)] [1,6,7,27,28,29])
(.seq (rg [lD 34 (some 4) 7,
cL 35 RM [34],
mV 36 35,
gD 37 36 true (.faddr 1 none 1),
gD 38 36 true (.load none 37),
gD 39 36 true (.mv 6),
gD 40 36 true (.slice (some 4) 38 none (some 39) none),
gD 41 36 true (.mkfn z2L [7]),
gD 42 36 true (.call sX [40,41]),
uO 43 (.pick 36 42 cF)] [1,27,28,29,43])
(.cond 43 (.seq (rg [mV 2 (cI 6)] [2])
.ret)
.skip))))
(rg [bN 44 .add 29 (cI 1),
mV 29 44] [1,27,28,29]))))
def zgD:ACode:=.pr [] (.seq (rg [mV 2 (cI 0)] [2])
.ret)
def zgE:ACode:=.pr [1] (.seq (.seq (rg [fA 26 1 none 1,
lD 27 none 26,
lN 28 27,
mV 29 (cI 0)] [1,27,28,29])
(.block 2 (.loop (.scope zgC))))
zgD)
def zgA:ACode:=(.seq (rg [uO 1 (.box 0),
mV 2 (cI 0)] [1])
(.seq (.seq (rg [fA 8 1 none 1,
lD 9 none 8,
lN 10 9,
bN 11 .gtr 10 (cI 200)] [1,11])
(.cond 11 (.seq (rg [mV 2 (cI 2)] [2])
.ret)
.skip))
(.seq (.seq (rg [fA 12 1 none 1,
lD 13 none 12,
lN 14 13,
mV 15 (cI 0)] [1,13,14,15])
(.block 0 (.loop (.scope zgB))))
zgE)))
def z7O:AFun:=⟨1,[.t 2],zgA,false,false⟩
def zgF:ACode:=(.seq (rg [uO 2 (.box 0),
mV 3 cF] [1,2])
(.seq (rg [fA 4 0 none 2,
lD 5 none 4,
fA 6 0 none 1,
lD 7 none 6,
bN 8 .eql 5 7,
mV 9 8,
gD 10 9 true (.faddr 1 none 2),
gD 11 9 true (.load none 10),
gD 12 9 true (.faddr 1 none 1),
gD 13 9 true (.load none 12),
gD 14 9 true (.bin .eql 11 13),
uO 15 (.pick 9 14 cF),
mV 3 15] [3])
.ret))
def z7P:AFun:=⟨2,[.t 3],zgF,false,false⟩
def zgG:ACode:=(.seq (rg [uO 2 (.box 0),
mV 4 (cI 0)] [1,2])
(.seq (rg [fA 8 0 none 2,
lD 9 none 8,
mV 10 1,
cL 11 z3k [9,10,(.f z2N)],
mV 7 11,
eX 12 7 0,
eX 13 7 1,
mV 5 12,
mV 6 13] [5,6])
(.seq (.seq (rg [mV 14 6,
uO 15 (.un .not 14)] [5,15])
(.cond 15 (.seq (rg [mV 4 (cI (-1))] [4])
.ret)
.skip))
(.seq (rg [mV 16 5,
mV 4 16] [4])
.ret))))
def z7Q:AFun:=⟨2,[.t 4],zgG,false,false⟩
def zgH:ACode:=(.seq (rg [uO 2 (.box 0),
mV 4 (cI 0)] [1,2])
(.seq (rg [fA 5 0 none 2,
lD 6 none 5,
mV 7 1,
cL 8 YJ [6,7],
mV 4 8] [4])
.ret))
def z7R:AFun:=⟨2,[.t 4],zgH,false,false⟩
def zgI:ACode:=(.seq (rg [uO 1 (.box 0),
mV 2 cF] [1])
(.seq (rg [fA 3 0 none 1,
lD 4 none 3,
bN 5 .eql 4 (cI 1),
mV 6 5,
gD 7 6 false (.faddr 0 none 1),
gD 8 6 false (.load none 7),
gD 9 6 false (.bin .eql 8 (cI 2)),
uO 10 (.pick 6 cT 9),
mV 2 10] [2])
.ret))
def z7S:AFun:=⟨1,[.t 2],zgI,false,false⟩
def zgK:ACode:=.pr [1,14,15,16] (.seq (rg [bN 17 .lss 16 15] [1,14,15,16,17])
(.seq (.cond 17 .skip
(.exit 0))
(.seq (.block 1 (.seq (rg [mV 18 16,
iA 19 (some 3) 14 16,
lD 20 (some 3) 19,
uO 4 (.alloc [.p (.str []),.p (.str []),.p (.str [])]),
mV 3 18,
wO (.store (some 3) 4 20)] [1,3,4,14,15,16])
(.block 2 (.seq (rg [fA 22 0 none 4,
lD 23 none 22,
cL 24 zD [23],
uO 25 (.un .not 24),
mV 21 25] [1,3,4,14,15,16,21])
(.cond 21 (.seq (rg [mV 2 (cI 5)] [2])
.ret)
(.seq (rg [lD 27 (some 3) 1,
fA 28 1 none 4,
lD 29 none 28,
fA 30 2 none 4,
lD 31 none 30,
cL 32 z2R [27,29,31],
uO 33 (.un .not 32),
mV 26 33] [1,3,4,14,15,16,26])
(.cond 26 (.seq (rg [mV 2 (cI 8)] [2])
.ret)
(.seq (dr [dF (mV 35 3) [3],
dF (bN 36 .gtr 35 (cI 0)) [35],
dF (mV 37 36) [36],
dF (gD 38 37 true (.load (some 3) 4)) [4,37],
dF (gD 39 37 true (.faddr 1 none 1)) [1,37],
dF (gD 40 37 true (.load none 39)) [39,37],
dF (gD 41 37 true (.mv 3)) [3,37],
dF (gD 42 37 true (.bin .sub 41 (cI 1))) [41,37],
dF (gD 43 37 true (.iaddr (some 3) 40 42)) [40,42,37],
dF (gD 44 37 true (.load (some 3) 43)) [43,37],
dT (gD 45 37 true (.call z2H [38,44])) [38,44,37],
dF (gD 46 37 true (.bin .leq 45 (cI 0))) [45,37],
dF (uO 47 (.pick 37 46 cF)) [37,46],
dF (mV 34 47) [47]] [1,14,15,16,34])
(.cond 34 (.seq (rg [mV 2 (cI 7)] [2])
.ret)
.skip)))))))))
(rg [bN 48 .add 16 (cI 1),
mV 16 48] [1,14,15,16]))))
def zgL:ACode:=.pr [5,51,52,53] (.seq (rg [bN 54 .lss 53 52] [5,51,52,53,54])
(.seq (.cond 54 .skip
(.exit 3))
(.seq (.block 4 (.seq (rg [iA 55 (some 3) 51 53,
lD 56 (some 3) 55,
uO 7 (.alloc [.p (.str []),.p (.str []),.p (.str [])]),
wO (.store (some 3) 7 56)] [5,7,51,52,53])
(.seq (rg [fA 57 1 none 7,
lD 58 none 57,
fA 59 2 none 7,
lD 60 none 59,
uO 61 (.build [.p (.str []),.p (.str [])] [(0,1,58),(1,1,60)]),
uO 8 (.alloc [.p (.str []),.p (.str [])]),
wO (.store (some 2) 8 61)] [5,8,51,52,53])
(.seq (.seq (rg [mV 62 5,
lD 63 (some 2) 8,
uO 64 (.look ((some 2),[2,2]) false (AB false) 62 63)] [5,8,51,52,53,64])
(.cond 64 (.seq (rg [mV 2 (cI 6)] [2])
.ret)
.skip))
(rg [mV 65 5,
lD 66 (some 2) 8,
wO (.mupd ((some 2),[2,2]) 65 66 cT)] [5,51,52,53])))))
(rg [bN 67 .add 53 (cI 1),
mV 53 67] [5,51,52,53]))))
def zgM:ACode:=.pr [] (.seq (rg [mV 2 (cI 0)] [2])
.ret)
def zgN:ACode:=.pr [1] (.seq (rg [uO 49 (.mkmap),
mV 5 49] [1,5])
(.seq (.seq (rg [fA 50 1 none 1,
lD 51 none 50,
lN 52 51,
mV 53 (cI 0)] [5,51,52,53])
(.block 3 (.loop (.scope zgL))))
zgM))
def zgJ:ACode:=(.seq (rg [uO 1 (.box 0),
mV 2 (cI 0)] [1])
(.seq (.seq (rg [fA 9 1 none 1,
lD 10 none 9,
lN 11 10,
bN 12 .gtr 11 (cI 1000)] [1,12])
(.cond 12 (.seq (rg [mV 2 (cI 2)] [2])
.ret)
.skip))
(.seq (.seq (rg [fA 13 1 none 1,
lD 14 none 13,
lN 15 14,
mV 16 (cI 0)] [1,14,15,16])
(.block 0 (.loop (.scope zgK))))
zgN)))
def z7T:AFun:=⟨1,[.t 2],zgJ,false,false⟩
def zgP:ACode:=.pr [1,2,5,20,21,22] (.seq (rg [bN 23 .lss 22 21] [1,2,5,20,21,22,23])
(.seq (.cond 23 .skip
(.exit 0))
(.seq (.block 1 (.seq (rg [iA 24 none 20 22,
lD 25 none 24,
mV 7 25] [1,2,5,7,20,21,22])
(rg [mV 26 5,
mV 27 7,
wO (.mupd (none,[2]) 26 27 (cI 2))] [1,2,5,20,21,22])))
(rg [bN 28 .add 22 (cI 1),
mV 22 28] [1,2,5,20,21,22]))))
def zgQ:ACode:=.pr [1,2,5,30,31,32] (.seq (rg [bN 33 .lss 32 31] [1,2,5,30,31,32,33])
(.seq (.cond 33 .skip
(.exit 2))
(.seq (.block 3 (.seq (rg [iA 34 (some 2) 30 32,
lD 35 (some 2) 34,
uO 9 (.alloc [.p (.str []),.p (.int .i64 0)]),
wO (.store (some 2) 9 35)] [1,2,5,9,30,31,32])
(rg [mV 36 5,
fA 37 0 none 9,
lD 38 none 37,
fA 39 1 none 9,
lD 40 none 39,
wO (.mupd (none,[2]) 36 38 40)] [1,2,5,30,31,32])))
(rg [bN 41 .add 32 (cI 1),
mV 32 41] [1,2,5,30,31,32]))))
def zgR:ACode:=.pr [1,2,5,10,17,44,50,51,52] (rg [mV 100 5,
mV 101 10,
mV 102 17,
wO (.mupd (none,[2]) 100 101 102),
mV 12 cT] [1,2,5,10,12,44,50,51,52])
def zgS:ACode:=.pr [1,2,5,10,12,44,50,51,52] (rg [bN 103 .add 52 (cI 1),
mV 52 103] [1,2,5,10,12,44,50,51,52])
def zgT:ACode:=.pr [1,2,5,10,12,44,50,51,52] (.seq (rg [bN 53 .lss 52 51] [1,2,5,10,12,44,50,51,52,53])
(.seq (.cond 53 .skip
(.exit 6))
(.seq (.block 7 (.seq (rg [iA 54 (some 2) 50 52,
lD 55 (some 2) 54,
uO 14 (.alloc [.p (.int .i64 0),.p (.int .i64 0)]),
wO (.store (some 2) 14 55)] [1,2,5,10,12,14,44,50,51,52])
(.seq (dr [dF (fA 56 0 none 2) [2],
dF (lD 57 none 56) [56],
dF (fA 58 0 none 14) [14],
dF (lD 59 none 58) [58],
dF (iA 60 (some 2) 57 59) [57,59],
dF (fA 61 1 none 60) [60],
dF (lD 62 none 61) [61],
dF (fA 63 1 none 14) [14],
dF (lD 64 none 63) [63],
dF (iA 65 (some 4) 62 64) [62,64],
dF (lD 66 (some 4) 65) [65],
dF (mV 67 1) [1],
dF (fA 68 0 none 14) [14],
dF (lD 69 none 68) [68],
dF (iA 70 none 67 69) [67,69],
dF (lD 71 none 70) [70],
dA (uO 15 (.alloc [.p (.int .i64 0),.p (.str []),.p (.int .i64 0),.p (.int .i64 0)])) [] true [] [1,3,4,6,8,9,10,13,14,15],
dA (wO (.store (some 4) 15 66)) [15,66] true [] [13,14,15],
dF (mV 16 71) [71]] [1,2,5,10,12,14,15,16,44,50,51,52])
(.seq (.seq (dr [dF (fA 72 2 none 15) [15],
dF (lD 73 none 72) [72],
dF (bN 74 .geq 73 (cI 0)) [73],
dF (mV 75 74) [74],
dF (gD 76 75 true (.mv 16)) [16,75],
dF (gD 77 75 true (.faddr 2 none 15)) [15,75],
dF (gD 78 75 true (.load none 77)) [77,75],
dF (gD 79 75 true (.idxs 76 78)) [76,78,75],
dF (gD 80 75 true (.bin .sub 79 (.c (.p (.int .u8 48))))) [79,75],
dF (gD 81 75 true (.conv (.i .i64) 80)) [80,75],
dF (gD 82 75 true (.faddr 3 none 15)) [15,75],
dF (gD 83 75 true (.load none 82)) [82,75],
dF (gD 84 75 true (.bin .eql 81 83)) [81,83,75],
dF (uO 85 (.pick 75 84 cF)) [75,84]] [1,2,5,10,12,14,16,44,50,51,52,85])
(.cond 85 (.exit 7)
.skip))
(.seq (rg [mV 86 16,
fA 87 1 none 14,
lD 88 none 87,
uO 89 (.idxs 86 88),
bN 90 .sub 89 (.c (.p (.int .u8 48))),
uO 91 (.conv (.i .i64) 90),
mV 17 91] [1,2,5,10,12,17,44,50,51,52])
(.seq (.seq (rg [mV 92 12,
mV 93 92,
gD 94 93 true (.mv 5),
gD 95 93 true (.mv 10),
gD 96 93 true (.look (none,[2]) false (AI 0) 94 95),
gD 97 93 true (.mv 17),
gD 98 93 true (.bin .neq 96 97),
uO 99 (.pick 93 98 cF)] [1,2,5,10,17,44,50,51,52,99])
(.cond 99 (rg [mV 17 (cI 3)] [1,2,5,10,17,44,50,51,52])
.skip))
zgR))))))
zgS)))
def zgU:ACode:=.pr [1,2,5,44] (.seq (rg [uO 45 (.mnext none [44]),
eX 46 45 0] [1,2,5,44,46])
(.seq (.cond 46 .skip
(.exit 4))
(.block 5 (.seq (rg [uO 47 (.mentry 44),
eX 48 47 0,
eX 49 47 1,
mV 10 48,
mV 11 49] [1,2,5,10,11,44])
(.seq (rg [mV 12 cF] [1,2,5,10,11,12,44])
(.seq (rg [mV 50 11,
lN 51 50,
mV 52 (cI 0)] [1,2,5,10,12,44,50,51,52])
(.block 6 (.loop (.scope zgT)))))))))
def zgV:ACode:=.pr [5] (.seq (rg [mV 104 5,
mV 4 104] [4])
.ret)
def zgW:ACode:=.pr [1,2,5] (.seq (.seq (rg [lD 42 (some 3) 2,
cL 43 z2J [42,(cI 2)],
uO 44 (.mrange 43)] [1,2,5,44])
(.block 4 (.loop (.scope zgU))))
zgV)
def zgX:ACode:=.pr [1,2,5] (.seq (.seq (rg [fA 29 2 none 2,
lD 30 none 29,
lN 31 30,
mV 32 (cI 0)] [1,2,5,30,31,32])
(.block 2 (.loop (.scope zgQ))))
zgW)
def zgO:ACode:=(.det (.seq (rg [uO 2 (.box 0),
mV 4 (.c (.nilm))] [1,2])
(.seq (rg [uO 18 (.mkmap),
mV 5 18] [1,2,5])
(.seq (.seq (rg [lD 19 (some 3) 2,
cL 20 UQ [19],
lN 21 20,
mV 22 (cI 0)] [1,2,5,20,21,22])
(.block 0 (.loop zgP)))
zgX))))
def z7U:AFun:=⟨2,[.t 4],zgO,false,false⟩
def zgZ:ACode:=.pr [3,7,8,9] (.seq (rg [bN 10 .lss 9 8] [3,7,8,9,10])
(.seq (.cond 10 .skip
(.exit 0))
(.seq (.block 1 (.seq (rg [iA 11 (some 3) 7 9,
lD 12 (some 3) 11,
uO 5 (.alloc [.p (.str []),.p (.str []),.p (.str [])]),
wO (.store (some 3) 5 12)] [3,5,7,8,9])
(rg [mV 13 3,
fA 14 0 none 5,
lD 15 none 14,
uO 16 (.bsl false none 1 (.str []) [(0,15)]),
uO 17 (.app none 13 16),
mV 3 17] [3,7,8,9])))
(rg [bN 18 .add 9 (cI 1),
mV 9 18] [3,7,8,9]))))
def zha:ACode:=.pr [3] (.seq (rg [mV 19 3,
cL 20 z3l [19],
mV 2 20] [2])
.ret)
def zgY:ACode:=(.seq (rg [uO 1 (.box 0),
mV 2 (.c (.p (.sl none [])))] [1])
(.seq (rg [uO 3 (.new0 none)] [1,3])
(.seq (.seq (rg [fA 6 1 none 1,
lD 7 none 6,
lN 8 7,
mV 9 (cI 0)] [3,7,8,9])
(.block 0 (.loop (.scope zgZ))))
zha)))
def z7V:AFun:=⟨1,[.t 2],zgY,false,true⟩
def zhc:ACode:=.pr [3,8,9,10] (.seq (rg [bN 11 .lss 10 9] [3,8,9,10,11])
(.seq (.cond 11 .skip
(.exit 0))
(.seq (.block 1 (.seq (rg [iA 12 (some 3) 8 10,
lD 13 (some 3) 12,
uO 5 (.alloc [.p (.str []),.p (.str []),.p (.str [])]),
wO (.store (some 3) 5 13)] [3,5,8,9,10])
(rg [mV 14 3,
fA 15 1 none 5,
lD 16 none 15,
fA 17 2 none 5,
lD 18 none 17,
uO 19 (.build [.p (.str []),.p (.str [])] [(0,1,16),(1,1,18)]),
fA 20 0 none 5,
lD 21 none 20,
wO (.mupd ((some 2),[2,2]) 14 19 21)] [3,8,9,10])))
(rg [bN 22 .add 10 (cI 1),
mV 10 22] [3,8,9,10]))))
def zhd:ACode:=.pr [3] (.seq (rg [mV 23 3,
mV 2 23] [2])
.ret)
def zhb:ACode:=(.seq (rg [uO 1 (.box 0),
mV 2 (.c (.nilm))] [1])
(.seq (rg [uO 6 (.mkmap),
mV 3 6] [1,3])
(.seq (.seq (rg [fA 7 1 none 1,
lD 8 none 7,
lN 9 8,
mV 10 (cI 0)] [3,8,9,10])
(.block 0 (.loop (.scope zhc))))
zhd)))
def z7W:AFun:=⟨1,[.t 2],zhb,false,false⟩
def zhe:ACode:=(.seq (rg [uO 3 (.box 0),
uO 5 (.box 2),
mV 6 cF] [1,3,5])
(.seq (rg [lD 8 (some 3) 3,
mV 9 1,
cL 10 z2M [8,9],
mV 7 10] [3,5,7])
(.seq (rg [mV 11 7,
bN 12 .geq 11 (cI 0),
mV 13 12,
gD 14 13 true (.faddr 0 none 3),
gD 15 13 true (.load none 14),
gD 16 13 true (.mv 7),
gD 17 13 true (.iaddr (some 2) 15 16),
gD 18 13 true (.faddr 1 none 17),
gD 19 13 true (.load none 18),
gD 20 13 true (.mkfn z2S [5]),
gD 21 13 true (.call sX [19,20]),
uO 22 (.pick 13 21 cF),
mV 6 22] [6])
.ret)))
def z7X:AFun:=⟨3,[.t 6],zhe,false,false⟩
def zhf:ACode:=(.seq (rg [uO 2 (.box 0),
mV 3 cF] [1,2])
(.seq (rg [lD 4 (some 4) 2,
cL 5 RM [4],
mV 6 5,
gD 7 6 true (.faddr 1 none 2),
gD 8 6 true (.load none 7),
gD 9 6 true (.load none 1),
gD 10 6 true (.bin .eql 8 9),
uO 11 (.pick 6 10 cF),
mV 3 11] [3])
.ret))
def z7Y:AFun:=⟨2,[.t 3],zhf,false,false⟩
def zhg:ACode:=(.seq (rg [mV 4 (cI 0)] [0,1])
(.seq (rg [mV 7 0,
cL 8 rX [7],
mV 5 8] [0,1,5])
(.seq (rg [mV 9 1,
cL 10 rX [9],
mV 6 10] [0,1,5,6])
(.seq (.seq (rg [mV 11 5] [0,1,6,11])
(.cond 11 (.seq (.seq (rg [mV 12 6] [12])
(.cond 12 (.seq (rg [mV 4 (cI 0)] [4])
.ret)
.skip))
(.seq (rg [mV 4 (cI (-1))] [4])
.ret))
.skip))
(.seq (.seq (rg [mV 13 6] [0,1,13])
(.cond 13 (.seq (rg [mV 4 (cI 1)] [4])
.ret)
.skip))
(.seq (.seq (rg [mV 14 0,
mV 15 1,
bN 16 .lss 14 15] [0,1,16])
(.cond 16 (.seq (rg [mV 4 (cI (-1))] [4])
.ret)
.skip))
(.seq (.seq (rg [mV 17 0,
mV 18 1,
bN 19 .gtr 17 18] [19])
(.cond 19 (.seq (rg [mV 4 (cI 1)] [4])
.ret)
.skip))
(.seq (rg [mV 4 (cI 0)] [4])
.ret))))))))
def z7Z:AFun:=⟨2,[.t 4],zhg,false,false⟩
def zhi:ACode:=.pr [3,6,7,8] (.seq (rg [bN 9 .lss 8 7] [3,6,7,8,9])
(.seq (.cond 9 .skip
(.exit 0))
(.seq (.block 1 (.seq (rg [iA 10 none 6 8,
lD 11 none 10,
mV 5 11] [3,5,6,7,8])
(.seq (rg [mV 12 5,
mV 13 3,
bN 14 .neq 12 13] [3,5,6,7,8,14])
(.cond 14 (.seq (rg [mV 15 5,
mV 2 15] [2])
.ret)
.skip))))
(rg [bN 16 .add 8 (cI 1),
mV 8 16] [3,6,7,8]))))
def zhj:ACode:=.pr [3] (.seq (rg [mV 17 3,
mV 2 17] [2])
.ret)
def zhh:ACode:=(.seq (rg [mV 2 (cI 0)] [0])
(.seq (rg [mV 3 (cI 0)] [0,3])
(.seq (.seq (rg [mV 6 0,
lN 7 6,
mV 8 (cI 0)] [3,6,7,8])
(.block 0 (.loop zhi)))
zhj)))
def z8a:AFun:=⟨1,[.t 2],zhh,false,false⟩
def zhk:ACode:=(.seq (rg [mV 2 cF] [0])
(.seq (rg [mV 3 0,
mV 4 0,
bN 5 .neq 3 4,
mV 2 5] [2])
.ret))
def z8b:AFun:=⟨1,[.t 2],zhk,false,false⟩
def zhm:ACode:=.pr [0,3,27,28,29] (.seq (rg [bN 30 .lss 29 28] [0,3,27,28,29,30])
(.seq (.cond 30 .skip
(.exit 1))
(.seq (.block 2 (.seq (rg [iA 31 none 27 29,
lD 32 none 31,
mV 6 32] [0,3,6,27,28,29])
(.seq (rg [mV 33 6,
mV 34 0,
bN 35 .sub 34 (cI 1),
cL 36 WB [33,(cI 0),35]] [0,3,27,28,29,36])
(.cond 36 (.seq (rg [mV 4 (cI 1)] [4])
.ret)
.skip))))
(rg [bN 37 .add 29 (cI 1),
mV 29 37] [0,3,27,28,29]))))
def zhn:ACode:=.pr [3,7,8] (.seq (.seq (rg [mV 53 8,
mV 54 7,
lN 55 54,
bN 56 .lss 53 55] [3,7,8,56])
(.cond 56 .skip
(.exit 3)))
(.seq (.block 4 (.seq (dr [dF (mV 59 7) [7],
dF (mV 60 8) [8],
dF (iA 61 none 59 60) [59,60],
dF (lD 62 none 61) [61],
dF (mV 63 7) [7],
dF (mV 64 8) [8],
dF (bN 65 .sub 64 (cI 1)) [64],
dF (iA 66 none 63 65) [63,65],
dF (lD 67 none 66) [66],
dF (bN 68 .leq 62 67) [62,67]] [3,7,8,68])
(.cond 68 (.seq (rg [mV 4 (cI 7)] [4])
.ret)
.skip)))
(rg [mV 57 8,
bN 58 .add 57 (cI 1),
mV 8 58] [3,7,8])))
def zho:ACode:=.pr [3,7] (.seq (.seq (rg [fA 69 0 none 3,
lD 70 none 69,
bN 71 .eql 70 (cI 5),
mV 72 71,
gD 73 72 true (.mv 7),
gD 74 72 true (.faddr 1 none 3),
gD 75 72 true (.load none 74),
gD 76 72 true (.iaddr none 75 (cI 0)),
gD 77 72 true (.load none 76),
gD 78 72 true (.call z3n [73,77]),
uO 79 (.pick 72 78 cF)] [79])
(.cond 79 (.seq (rg [mV 4 (cI 6)] [4])
.ret)
.skip))
(.seq (rg [mV 4 (cI 0)] [4])
.ret))
def zhp:ACode:=.pr [3,7] (.seq (.seq (rg [mV 8 (cI 1)] [3,7,8])
(.block 3 (.loop zhn)))
zho)
def zhq:ACode:=.pr [3] (.seq (.seq (dr [dF (fA 38 0 none 3) [3],
dF (lD 39 none 38) [38],
dT (cL 40 z2Y [39]) [39],
dF (fA 41 1 none 3) [3],
dA (lD 42 none 41) [41] false [2] [],
dF (lN 43 42) [42],
dF (bN 44 .gtr 43 (cI 1)) [43],
dF (uO 45 (.eqa [] true 40 44)) [40,44]] [3,45])
(.cond 45 (.seq (rg [mV 4 (cI 3)] [4])
.ret)
.skip))
(.seq (rg [fA 46 1 none 3,
lD 47 none 46,
mV 7 47] [3,7])
(.seq (.seq (rg [fA 48 0 none 3,
lD 49 none 48,
bN 50 .eql 49 (cI 5)] [3,7,50])
(.cond 50 (rg [mV 51 7,
uO 52 (.slice none 51 (some (cI 1)) none none),
mV 7 52] [3,7])
.skip))
zhp)))
def zhl:ACode:=(.seq (rg [uO 3 (.box 1),
mV 4 (cI 0)] [0,3])
(.seq (.block 0 (.seq (rg [mV 10 0,
cL 11 WB [10,(cI 1),(cI 100)],
mV 9 11] [0,3,9])
(.cond 9 (.seq (rg [mV 4 (cI 1)] [4])
.ret)
(.seq (rg [fA 13 0 none 3,
lD 14 none 13,
cL 15 WB [14,(cI 1),(cI 6)],
mV 12 15] [0,3,12])
(.cond 12 (.seq (rg [mV 4 (cI 4)] [4])
.ret)
(.seq (rg [fA 17 1 none 3,
lD 18 none 17,
lN 19 18,
bN 20 .eql 19 (cI 0),
mV 16 20] [0,3,16])
(.cond 16 (.seq (rg [mV 4 (cI 8)] [4])
.ret)
(.seq (rg [fA 22 1 none 3,
lD 23 none 22,
lN 24 23,
bN 25 .gtr 24 (cI 6),
mV 21 25] [0,3,21])
(.cond 21 (.seq (rg [mV 4 (cI 2)] [4])
.ret)
.skip)))))))))
(.seq (.seq (rg [fA 26 1 none 3,
lD 27 none 26,
lN 28 27,
mV 29 (cI 0)] [0,3,27,28,29])
(.block 1 (.loop zhm)))
zhq)))
def z8c:AFun:=⟨2,[.t 4],zhl,false,false⟩
def zhs:ACode:=.pr [0,13,14,15] (.seq (rg [bN 16 .lss 15 14] [0,13,14,15,16])
(.seq (.cond 16 .skip
(.exit 1))
(.seq (.block 2 (.seq (rg [iA 17 none 13 15,
lD 18 none 17,
mV 4 18] [0,4,13,14,15])
(.block 3 (.seq (rg [mV 20 4,
cL 21 ZD [20],
uO 22 (.un .not 21),
mV 19 22] [0,4,13,14,15,19])
(.cond 19 (.seq (rg [mV 2 (cI 3)] [2])
.ret)
(.seq (rg [mV 24 4,
uO 25 (.lens 24),
bN 26 .gtr 25 (cI 64),
mV 23 26] [0,4,13,14,15,23])
(.cond 23 (.seq (rg [mV 2 (cI 2)] [2])
.ret)
(.seq (rg [mV 28 4,
uO 29 (.lens 28),
mV 30 0,
iA 31 none 30 (cI 0),
lD 32 none 31,
uO 33 (.lens 32),
bN 34 .neq 29 33,
mV 27 34] [0,13,14,15,27])
(.cond 27 (.seq (rg [mV 2 (cI 3)] [2])
.ret)
.skip)))))))))
(rg [bN 35 .add 15 (cI 1),
mV 15 35] [0,13,14,15]))))
def zht:ACode:=.pr [] (.seq (rg [mV 2 (cI 0)] [2])
.ret)
def zhr:ACode:=(.seq (rg [mV 2 (cI 0)] [0])
(.seq (.block 0 (.seq (rg [mV 6 0,
lN 7 6,
bN 8 .eql 7 (cI 0),
mV 5 8] [0,5])
(.cond 5 (.seq (rg [mV 2 (cI 8)] [2])
.ret)
(.seq (rg [mV 10 0,
lN 11 10,
bN 12 .gtr 11 (cI 100),
mV 9 12] [0,9])
(.cond 9 (.seq (rg [mV 2 (cI 2)] [2])
.ret)
.skip)))))
(.seq (.seq (rg [mV 13 0,
lN 14 13,
mV 15 (cI 0)] [0,13,14,15])
(.block 1 (.loop zhs)))
zht)))
def z8d:AFun:=⟨1,[.t 2],zhr,false,false⟩
def zhv:ACode:=.pr [0,7,18,19,20] (.seq (rg [bN 21 .lss 20 19] [0,7,18,19,20,21])
(.seq (.cond 21 .skip
(.exit 0))
(.seq (.block 1 (.seq (rg [iA 22 (some 2) 18 20,
lD 23 (some 2) 22,
uO 9 (.alloc [.p (.int .i64 0),.sl0 none]),
wO (.store (some 2) 9 23)] [0,7,9,18,19,20])
(dr [dF (mV 24 7) [7],
dF (lD 25 (some 2) 9) [9],
dF (mV 26 0) [0],
dF (iA 27 none 26 (cI 0)) [26],
dF (lD 28 none 27) [27],
dF (uO 29 (.lens 28)) [28],
dA (cL 30 z3b [29]) [29] true [] [1],
dT (cL 31 z3c [24,25,30]) [24,25,30]] [0,7,18,19,20])))
(rg [bN 32 .add 20 (cI 1),
mV 20 32] [0,7,18,19,20]))))
def zhw:ACode:=.pr [0,7] (.seq (rg [mV 33 7,
mV 34 0,
iA 35 none 34 (cI 0),
lD 36 none 35,
uO 37 (.lens 36),
cL 38 z3a [33,37],
mV 4 38,
mV 5 (cI 0)] [4,5])
.ret)
def zhu:ACode:=(.seq (rg [mV 4 (.c (.p (.sl none []))),
mV 5 (cI 0)] [0,1])
(.seq (.seq (rg [mV 10 0,
mV 11 1,
cL 12 z2X [10,11],
mV 6 12] [0,1,6])
(.seq (rg [mV 13 6,
bN 14 .neq 13 (cI 0)] [0,1,6,14])
(.cond 14 (.seq (rg [mV 15 6,
mV 4 (.c (.p (.sl none []))),
mV 5 15] [4,5])
.ret)
.skip)))
(.seq (rg [mV 16 0,
cL 17 z2Z [16],
mV 7 17] [0,1,7])
(.seq (.seq (rg [mV 18 1,
lN 19 18,
mV 20 (cI 0)] [0,7,18,19,20])
(.block 0 (.loop (.scope zhv))))
zhw))))
def z8e:AFun:=⟨2,[.t 4,.t 5],zhu,false,false⟩
def zhx:ACode:=(.seq (rg [uO 3 (.box 1),
mV 4 (.c (.p (.sl none []))),
mV 5 (cI 0)] [0,3])
(.seq (rg [mV 6 0,
lD 7 (some 2) 3,
uO 8 (.bsl false (some 2) 1 (.agg [.int .i64 0,.sl none []]) [(0,7)]),
cL 9 z2V [6,8],
eX 10 9 0,
eX 11 9 1,
mV 4 10,
mV 5 11] [4,5])
.ret))
def z8f:AFun:=⟨2,[.t 4,.t 5],zhx,false,false⟩
def zhz:ACode:=.pr [0,14,15,16] (.seq (rg [bN 17 .lss 16 15] [0,14,15,16,17])
(.seq (.cond 17 .skip
(.exit 0))
(.seq (.block 1 (.seq (rg [iA 18 (some 2) 14 16,
lD 19 (some 2) 18,
uO 7 (.alloc [.p (.int .i64 0),.sl0 none]),
wO (.store (some 2) 7 19)] [0,7,14,15,16])
(.seq (rg [mV 20 0,
lN 21 20,
lD 22 (some 2) 7,
cL 23 z2T [21,22],
mV 8 23] [0,8,14,15,16])
(.seq (rg [mV 24 8,
bN 25 .neq 24 (cI 0)] [0,8,14,15,16,25])
(.cond 25 (.seq (rg [mV 26 8,
mV 4 26] [4])
.ret)
.skip)))))
(rg [bN 27 .add 16 (cI 1),
mV 16 27] [0,14,15,16]))))
def zh0:ACode:=.pr [] (.seq (rg [mV 4 (cI 0)] [4])
.ret)
def zhy:ACode:=(.seq (rg [mV 4 (cI 0)] [0,1])
(.seq (.seq (rg [mV 9 0,
cL 10 z2U [9],
mV 5 10] [0,1,5])
(.seq (rg [mV 11 5,
bN 12 .neq 11 (cI 0)] [0,1,5,12])
(.cond 12 (.seq (rg [mV 13 5,
mV 4 13] [4])
.ret)
.skip)))
(.seq (.seq (rg [mV 14 1,
lN 15 14,
mV 16 (cI 0)] [0,14,15,16])
(.block 0 (.loop (.scope zhz))))
zh0)))
def z8g:AFun:=⟨2,[.t 4],zhy,false,false⟩
def zh1:ACode:=(.seq (rg [mV 2 cF] [0])
(.seq (rg [mV 3 0,
cL 4 WB [3,(cI 3),(cI 5)],
uO 5 (.un .not 4),
mV 2 5] [2])
.ret))
def z8h:AFun:=⟨1,[.t 2],zh1,false,false⟩
def zh3:ACode:=.pr [3,5,6,8,9,10,15,16] (.seq (rg [bN 17 .lss 16 15] [3,5,6,8,9,10,15,16,17])
(.seq (.cond 17 .skip
(.exit 2))
(.seq (.block 3 (.seq (rg [mV 18 16,
mV 7 18] [3,5,6,7,8,9,10,15,16])
(rg [mV 19 6,
mV 20 5,
mV 21 7,
uO 22 (.idxs 20 21),
bN 23 .sub 22 (.c (.p (.int .u8 48))),
uO 24 (.conv (.i .u64) 23),
mV 25 7,
bN 26 .shl 24 25,
bN 27 .or 19 26,
mV 6 27] [3,5,6,8,9,10,15,16])))
(rg [bN 28 .add 16 (cI 1),
mV 16 28] [3,5,6,8,9,10,15,16]))))
def zh4:ACode:=.pr [3,6,8,9,10] (rg [mV 29 3,
mV 30 6,
uO 31 (.bsl false none 1 (.int .u64 0) [(0,30)]),
uO 32 (.app none 29 31),
mV 3 32] [3,8,9,10])
def zh5:ACode:=.pr [3,8,9,10] (rg [bN 33 .add 10 (cI 1),
mV 10 33] [3,8,9,10])
def zh6:ACode:=.pr [3,8,9,10] (.seq (rg [bN 11 .lss 10 9] [3,8,9,10,11])
(.seq (.cond 11 .skip
(.exit 0))
(.seq (.block 1 (.seq (rg [iA 12 none 8 10,
lD 13 none 12,
mV 5 13] [3,5,8,9,10])
(.seq (rg [mV 6 (.c (.p (.int .u64 0)))] [3,5,6,8,9,10])
(.seq (.seq (rg [mV 14 5,
uO 15 (.lens 14),
mV 16 (cI 0)] [3,5,6,8,9,10,15,16])
(.block 2 (.loop zh3)))
zh4))))
zh5)))
def zh7:ACode:=.pr [3] (.seq (rg [mV 34 3,
mV 2 34] [2])
.ret)
def zh2:ACode:=(.seq (rg [mV 2 (.c (.p (.sl none [])))] [0])
(.seq (rg [uO 3 (.new0 none)] [0,3])
(.seq (.seq (rg [mV 8 0,
lN 9 8,
mV 10 (cI 0)] [3,8,9,10])
(.block 0 (.loop (.scope zh6))))
zh7)))
def z8i:AFun:=⟨1,[.t 2],zh2,false,true⟩
def zh9:ACode:=.pr [1,5,7,8,10,11,12,19,20] (.seq (rg [bN 21 .lss 20 19] [1,5,7,8,10,11,12,19,20,21])
(.seq (.cond 21 .skip
(.exit 2))
(.seq (.block 3 (.seq (rg [mV 22 20,
mV 9 22] [1,5,7,8,9,10,11,12,19,20])
(rg [mV 23 8,
mV 24 9,
mV 25 7,
mV 26 9,
bN 27 .shr 25 26,
bN 28 .and 27 (.c (.p (.int .u64 1))),
bN 29 .add (.c (.p (.int .u64 48))) 28,
uO 30 (.conv (.i .u8) 29),
iA 31 none 23 24,
wO (.store none 31 30)] [1,5,7,8,10,11,12,19,20])))
(rg [bN 32 .add 20 (cI 1),
mV 20 32] [1,5,7,8,10,11,12,19,20]))))
def zhA:ACode:=.pr [1,5,8,10,11,12] (rg [mV 33 5,
mV 34 8,
uO 35 (.conv .b2s 34),
uO 36 (.bsl false none 1 (.str []) [(0,35)]),
uO 37 (.app none 33 36),
mV 5 37] [1,5,10,11,12])
def zhB:ACode:=.pr [1,5,10,11,12] (rg [bN 38 .add 12 (cI 1),
mV 12 38] [1,5,10,11,12])
def zhC:ACode:=.pr [1,5,10,11,12] (.seq (rg [bN 13 .lss 12 11] [1,5,10,11,12,13])
(.seq (.cond 13 .skip
(.exit 0))
(.seq (.block 1 (.seq (rg [iA 14 none 10 12,
lD 15 none 14,
mV 7 15] [1,5,7,10,11,12])
(.seq (rg [mV 16 1,
uO 17 (.mksl none (.int .u8 0) 16 16),
mV 8 17] [1,5,7,8,10,11,12])
(.seq (.seq (rg [mV 18 8,
lN 19 18,
mV 20 (cI 0)] [1,5,7,8,10,11,12,19,20])
(.block 2 (.loop zh9)))
zhA))))
zhB)))
def zhD:ACode:=.pr [5] (.seq (rg [mV 39 5,
mV 4 39] [4])
.ret)
def zh8:ACode:=(.seq (rg [mV 4 (.c (.p (.sl none [])))] [0,1])
(.seq (rg [uO 5 (.new0 none)] [0,1,5])
(.seq (.seq (rg [mV 10 0,
lN 11 10,
mV 12 (cI 0)] [1,5,10,11,12])
(.block 0 (.loop (.scope zhC))))
zhD)))
def z8j:AFun:=⟨2,[.t 4],zh8,false,false⟩
def zhE:ACode:=(.seq (rg [mV 2 (.c (.p (.int .u64 0)))] [0])
(.seq (rg [mV 3 0,
bN 4 .shl (.c (.p (.int .u64 1))) 3,
bN 5 .sub 4 (.c (.p (.int .u64 1))),
mV 2 5] [2])
.ret))
def z8k:AFun:=⟨1,[.t 2],zhE,false,false⟩
def zhG:ACode:=.pr [0,4,6,31,32,33] (.seq (rg [bN 34 .lss 33 32] [0,4,6,31,32,33,34])
(.seq (.cond 34 .skip
(.exit 1))
(.seq (.block 2 (.seq (rg [iA 35 none 31 33,
lD 36 none 35,
mV 8 36] [0,4,6,8,31,32,33])
(rg [mV 37 6,
mV 38 0,
mV 39 8,
iA 40 none 38 39,
lD 41 none 40,
bN 42 .and 37 41,
mV 6 42] [0,4,6,31,32,33])))
(rg [bN 43 .add 33 (cI 1),
mV 33 43] [0,4,6,31,32,33]))))
def zhH:ACode:=.pr [0,4,6,47,48,49] (.seq (rg [bN 50 .lss 49 48] [0,4,6,47,48,49,50])
(.seq (.cond 50 .skip
(.exit 3))
(.seq (.block 4 (.seq (rg [iA 51 none 47 49,
lD 52 none 51,
mV 10 52] [0,4,6,10,47,48,49])
(rg [mV 53 6,
mV 54 0,
mV 55 10,
iA 56 none 54 55,
lD 57 none 56,
bN 58 .or 53 57,
mV 6 58] [0,4,6,47,48,49])))
(rg [bN 59 .add 49 (cI 1),
mV 49 59] [0,4,6,47,48,49]))))
def zhI:ACode:=.pr [0,2,4,6,21,24] (.cond 24 (rg [mV 27 2,
mV 6 27] [0,4,6])
(.seq (rg [bN 29 .eql 21 (cI 3),
mV 28 29] [0,4,6,21,28])
(.cond 28 (.seq (rg [fA 30 1 none 4,
lD 31 none 30,
lN 32 31,
mV 33 (cI 0)] [0,4,6,31,32,33])
(.block 1 (.loop zhG)))
(.seq (rg [bN 45 .eql 21 (cI 4),
mV 44 45] [0,4,6,44])
(.cond 44 (.seq (rg [fA 46 1 none 4,
lD 47 none 46,
lN 48 47,
mV 49 (cI 0)] [0,4,6,47,48,49])
(.block 3 (.loop zhH)))
.skip)))))
def zhJ:ACode:=.pr [0,6,61,62,63] (.seq (rg [bN 64 .lss 63 62] [0,6,61,62,63,64])
(.seq (.cond 64 .skip
(.exit 5))
(.seq (.block 6 (.seq (rg [iA 65 none 61 63,
lD 66 none 65,
mV 12 66] [0,6,12,61,62,63])
(rg [mV 67 0,
mV 68 12,
mV 69 6,
iA 70 none 67 68,
wO (.store none 70 69)] [0,6,61,62,63])))
(rg [bN 71 .add 63 (cI 1),
mV 63 71] [0,6,61,62,63]))))
def zhK:ACode:=.pr [0,4,6] (.seq (rg [fA 60 1 none 4,
lD 61 none 60,
lN 62 61,
mV 63 (cI 0)] [0,6,61,62,63])
(.block 5 (.loop zhJ)))
def zhF:ACode:=(.seq (rg [uO 4 (.box 1)] [0,2,4])
(.seq (rg [mV 13 0,
fA 14 1 none 4,
lD 15 none 14,
iA 16 none 15 (cI 0),
lD 17 none 16,
iA 18 none 13 17,
lD 19 none 18,
mV 6 19] [0,2,4,6])
(.seq (.seq (rg [fA 20 0 none 4,
lD 21 none 20] [0,2,4,6,21])
(.block 0 (.seq (rg [bN 23 .eql 21 (cI 1),
mV 22 23] [0,2,4,6,21,22])
(.cond 22 (rg [mV 6 (.c (.p (.int .u64 0)))] [0,4,6])
(.seq (.seq (rg [bN 25 .eql 21 (cI 2),
mV 24 25] [0,2,4,6,21,24])
(.cond 24 .skip
(rg [bN 26 .eql 21 (cI 6),
mV 24 26] [0,2,4,6,21,24])))
zhI)))))
zhK)))
def z8l:AFun:=⟨3,[],zhF,true,false⟩
def zhL:ACode:=(.seq (rg [mV 4 (cI 0)] [0,1])
(.seq (rg [mV 5 0,
mV 6 1,
cL 7 TQ [5,6],
mV 4 7] [4])
.ret))
def z8m:AFun:=⟨2,[.t 4],zhL,false,false⟩
def zhM:ACode:=(.seq (rg [uO 2 (.alloc [.p (.int .i64 0),.p (.int .i64 0)]),
uO 3 (.alloc [.p (.int .i64 0),.p (.int .i64 0)]),
mV 4 (cI 0)] [0,2,3])
(.seq (.seq (rg [mV 9 0,
cL 10 z3h [9,(cI 1)],
mV 5 10] [0,2,3,5])
(.seq (rg [mV 11 5,
bN 12 .neq 11 (cI 0)] [0,2,3,5,12])
(.cond 12 (.seq (rg [uO 13 (.build [.p (.int .i64 0),.p (.int .i64 0)] []),
uO 14 (.build [.p (.int .i64 0),.p (.int .i64 0)] []),
mV 15 5,
wO (.store (some 2) 2 13),
wO (.store (some 2) 3 14),
mV 4 15] [2,3,4])
.ret)
.skip)))
(.seq (rg [mV 17 0,
cL 18 z3g [17],
mV 16 18,
eX 19 16 0,
eX 20 16 1,
mV 6 19,
mV 7 20] [0,2,3,6,7])
(.seq (rg [mV 21 0,
lN 22 21,
mV 8 22] [2,3,6,7,8])
(.seq (rg [mV 23 6,
mV 24 8,
cL 25 nX [23,24],
mV 26 7,
mV 27 8,
mV 28 8,
bN 29 .mul 27 28,
cL 30 nX [26,29],
wO (.store (some 2) 2 25),
wO (.store (some 2) 3 30),
mV 4 (cI 0)] [2,3,4])
.ret)))))
def z8n:AFun:=⟨1,[.cell 2 (some 2),.cell 3 (some 2),.t 4],zhM,false,false⟩
def zhN:ACode:=(.seq (rg [mV 2 cF] [0])
(.seq (rg [mV 3 0,
cL 4 WB [3,(cI (-100000)),(cI 100000)],
uO 5 (.un .not 4),
mV 2 5] [2])
.ret))
def z8o:AFun:=⟨1,[.t 2],zhN,false,false⟩
def zhP:ACode:=.pr [0,2,4,7,8,9] (.seq (rg [bN 10 .lss 9 8] [0,2,4,7,8,9,10])
(.seq (.cond 10 .skip
(.exit 0))
(.seq (.block 1 (.seq (rg [iA 11 none 7 9,
lD 12 none 11,
mV 6 12] [0,2,4,6,7,8,9])
(.seq (rg [mV 13 2,
mV 14 6,
bN 15 .add 13 14,
mV 2 15] [0,2,4,6,7,8,9])
(rg [mV 16 4,
mV 17 6,
mV 18 6,
bN 19 .mul 17 18,
bN 20 .add 16 19,
mV 4 20] [0,2,4,7,8,9]))))
(rg [bN 21 .add 9 (cI 1),
mV 9 21] [0,2,4,7,8,9]))))
def zhQ:ACode:=.pr [0,2,4] (.seq (rg [mV 22 2,
mV 23 0,
lN 24 23,
mV 25 4,
bN 26 .mul 24 25,
mV 27 2,
mV 28 2,
bN 29 .mul 27 28,
bN 30 .sub 26 29,
mV 2 22,
mV 3 30] [2,3])
.ret)
def zhO:ACode:=(.seq (rg [mV 2 (cI 0),
mV 3 (cI 0)] [0,2])
(.seq (rg [mV 4 (cI 0)] [0,2,4])
(.seq (.seq (rg [mV 7 0,
lN 8 7,
mV 9 (cI 0)] [0,2,4,7,8,9])
(.block 0 (.loop zhP)))
zhQ)))
def z8p:AFun:=⟨1,[.t 2,.t 3],zhO,false,false⟩
def zhR:ACode:=(.seq (rg [mV 4 (cI 0)] [0,1])
(.seq (.block 0 (.seq (rg [mV 6 0,
lN 7 6,
mV 8 1,
bN 9 .lss 7 8,
mV 5 9] [0,5])
(.cond 5 (.seq (rg [mV 4 (cI 8)] [4])
.ret)
(.seq (rg [mV 11 0,
lN 12 11,
bN 13 .gtr 12 (cI 5000),
mV 10 13] [0,10])
(.cond 10 (.seq (rg [mV 4 (cI 2)] [4])
.ret)
(.seq (rg [mV 15 0,
cL 16 z3m [15,(.f z3i)],
mV 14 16] [14])
(.cond 14 (.seq (rg [mV 4 (cI 1)] [4])
.ret)
.skip)))))))
(.seq (rg [mV 4 (cI 0)] [4])
.ret)))
def z8q:AFun:=⟨2,[.t 4],zhR,false,false⟩
def zhS:ACode:=(.seq (rg [mV 2 cF] [0])
(.seq (rg [mV 3 0,
cL 4 z3f [3],
uO 5 (.un .not 4),
mV 2 5] [2])
.ret))
def z8r:AFun:=⟨1,[.t 2],zhS,false,false⟩
def zhT:ACode:=(.seq (rg [mV 0 cF] [])
(.seq (rg [cL 13 z3j [],
uO 14 (.bsl false none 1 (.str []) [(0,(cS [49]))]),
cL 15 z2G [13,14],
mV 12 15,
eX 16 12 0,
eX 17 12 1,
mV 1 16,
mV 2 17] [1,2])
(.seq (rg [uO 19 (.bsl false none 1 (.str []) [(0,(cS [48,49]))]),
uO 20 (.bsl false none 1 (.int .i64 0) [(0,(cI 0))]),
uO 21 (.build [.p (.int .i64 0),.sl0 none] [(0,1,(cI 2)),(1,1,20)]),
cL 22 z2W [19,21],
mV 18 22,
eX 23 18 0,
eX 24 18 1,
mV 3 23,
mV 4 24] [1,2,3,4])
(.seq (rg [uO 26 (.build [.p (.int .i64 0),.p (.int .i64 0),.p (.int .i64 0),.p (.str []),.p (.str []),.p (.str [])] [(0,1,(cI 7)),(3,1,(cS [49,48]))]),
uO 27 (.bsl false (some 6) 1 (.agg [.int .i64 0,.int .i64 0,.int .i64 0,.str [],.str [],.str []]) [(0,26)]),
cL 28 z36 [27],
mV 25 28,
eX 29 25 0,
eX 30 25 1,
mV 5 29,
mV 6 30] [1,2,3,4,5,6])
(.seq (rg [uO 32 (.bsl false none 2 (.int .i64 0) [(0,(cI 1)),(1,(cI 3))]),
cL 33 z3e [32],
mV 31 33,
eX 34 31 0,
eX 35 31 1,
eX 36 31 2,
uO 7 (.alloc [.p (.int .i64 0),.p (.int .i64 0)]),
uO 8 (.alloc [.p (.int .i64 0),.p (.int .i64 0)]),
wO (.store (some 2) 7 34),
wO (.store (some 2) 8 35),
mV 9 36] [1,2,3,4,5,6,7,9])
(.seq (rg [uO 38 (.bsl false none 1 (.str []) [(0,(cS [115,99,97,110]))]),
uO 39 (.build [.sl0 none,.p (.int .i64 0)] [(0,1,38),(1,1,(cI 1))]),
uO 40 (.build [.p (.str []),.p (.int .i64 0),.p (.int .i64 0),.p (.int .i64 0),.p (.str []),.p (.str []),.p (.str []),.p (.int .i64 0)] [(0,1,(cS [97])),(1,1,(cI 1)),(3,1,(cI 1)),(4,1,(cS [98]))]),
uO 41 (.bsl false (some 8) 1 (.agg [.str [],.int .i64 0,.int .i64 0,.int .i64 0,.str [],.str [],.str [],.int .i64 0]) [(0,40)]),
cL 42 z3t [39,41,(cS [98]),(cI 0)],
mV 37 42,
eX 43 37 0,
eX 44 37 1,
uO 10 (.alloc [.p (.int .i64 0),.p (.int .i64 0),.p (.str []),.p (.str []),.p (.int .i64 0)]),
wO (.store (some 5) 10 43),
mV 11 44] [1,2,3,4,5,6,7,9,10,11])
(.seq (rg [mV 45 2,
mV 46 4,
mV 47 6,
mV 48 9,
mV 49 11,
uO 50 (.bsl false none 5 (.int .i64 0) [(0,45),(1,46),(2,47),(3,48),(4,49)]),
cL 51 oI [50],
bN 52 .eql 51 (cI 0),
mV 53 52,
gD 54 53 true (.mv 1),
gD 55 53 true (.len 54),
gD 56 53 true (.bin .eql 55 (cI 1)),
uO 57 (.pick 53 56 cF),
mV 58 57,
gD 59 58 true (.mv 1),
gD 60 58 true (.iaddr none 59 (cI 0)),
gD 61 58 true (.load none 60),
gD 62 58 true (.bin .eql 61 (cI 1)),
uO 63 (.pick 58 62 cF),
mV 64 63,
gD 65 64 true (.mv 3),
gD 66 64 true (.len 65),
gD 67 64 true (.bin .eql 66 (cI 1)),
uO 68 (.pick 64 67 cF),
mV 69 68,
gD 70 69 true (.mv 3),
gD 71 69 true (.iaddr none 70 (cI 0)),
gD 72 69 true (.load none 71),
gD 73 69 true (.bin .eql 72 (cS [49,49])),
uO 74 (.pick 69 73 cF),
mV 75 74,
gD 76 75 true (.mv 5),
gD 77 75 true (.bin .eql 76 (cI 9)),
uO 78 (.pick 75 77 cF),
mV 79 78,
gD 80 79 true (.faddr 0 none 7),
gD 81 79 true (.load none 80),
gD 82 79 true (.bin .eql 81 (cI 2)),
uO 83 (.pick 79 82 cF),
mV 84 83,
gD 85 84 true (.faddr 0 none 10),
gD 86 84 true (.load none 85),
gD 87 84 true (.bin .eql 86 (cI 1)),
uO 88 (.pick 84 87 cF),
mV 0 88] [0])
.ret)))))))
def z8s:AFun:=⟨0,[.t 0],zhT,false,false⟩
def zhU:ACode:=(.seq (rg [uO 0 (.alloc [.sl0 (some 2),.sl0 (some 3),.sl0 (some 2)])] [0])
(.seq (rg [uO 1 (.build [.p (.int .i64 0),.p (.str []),.p (.int .i64 0),.p (.int .i64 0)] [(0,1,(cI 2)),(1,1,(cS [97])),(2,1,(cI (-1)))]),
uO 2 (.bsl false (some 4) 1 (.agg [.int .i64 0,.str [],.int .i64 0,.int .i64 0]) [(0,1)]),
uO 3 (.build [.p (.str []),.sl0 (some 4)] [(0,1,(cS [117])),(1,1,2)]),
uO 4 (.bsl false (some 2) 1 (.agg [.str [],.sl (some 4) []]) [(0,3)]),
uO 5 (.build [.p (.str []),.p (.str []),.p (.str [])] [(0,1,(cS [110])),(1,1,(cS [117])),(2,1,(cS [97]))]),
uO 6 (.bsl false (some 3) 1 (.agg [.str [],.str [],.str []]) [(0,5)]),
uO 7 (.build [.sl0 (some 2),.sl0 (some 3),.sl0 (some 2)] [(0,1,4),(1,1,6)]),
wO (.store (some 3) 0 7)] [0])
.ret))
def z8t:AFun:=⟨0,[.cell 0 (some 3)],zhU,false,false⟩
def zhW:ACode:=.pr [0,1,2,8,9,10] (.seq (.seq (rg [mV 15 9,
mV 16 10,
bN 17 .lss 15 16] [0,1,2,8,9,10,17])
(.cond 17 .skip
(.exit 0)))
(.block 1 (.seq (rg [mV 18 9,
mV 19 10,
bN 20 .add 18 19,
uO 21 (.conv (.i .u64) 20),
bN 22 .shr 21 (.c (.p (.int .u64 1))),
uO 23 (.conv (.i .i64) 22),
mV 11 23] [0,1,2,8,9,10,11])
(.seq (rg [mV 24 2,
mV 25 0,
mV 26 11,
iA 27 (some 2) 25 26,
lD 28 (some 2) 27,
mV 29 1,
uO 30 (.callv 24 [28,29]),
bN 31 .lss 30 (cI 0)] [0,1,2,8,9,10,11,31])
(.cond 31 (rg [mV 32 11,
bN 33 .add 32 (cI 1),
mV 9 33] [0,1,2,8,9,10])
(rg [mV 34 11,
mV 10 34] [0,1,2,8,9,10]))))))
def zhX:ACode:=.pr [0,1,2,8,9] (.seq (rg [mV 35 9,
mV 36 9,
mV 37 8,
bN 38 .lss 36 37,
mV 39 38,
gD 40 39 true (.mv 2),
gD 41 39 true (.mv 0),
gD 42 39 true (.mv 9),
gD 43 39 true (.iaddr (some 2) 41 42),
gD 44 39 true (.load (some 2) 43),
gD 45 39 true (.mv 1),
gD 46 39 true (.callv 40 [44,45]),
gD 47 39 true (.bin .eql 46 (cI 0)),
uO 48 (.pick 39 47 cF),
mV 6 35,
mV 7 48] [6,7])
.ret)
def zhV:ACode:=(.seq (rg [mV 6 (cI 0),
mV 7 cF] [0,1,2])
(.seq (rg [mV 12 0,
lN 13 12,
mV 8 13] [0,1,2,8])
(.seq (rg [mV 14 8,
mV 9 (cI 0),
mV 10 14] [0,1,2,8,9,10])
(.seq (.block 0 (.loop zhW))
zhX))))
def z8u:AFun:=⟨3,[.t 6,.t 7],zhV,false,false⟩
def zhZ:ACode:=.pr [0,3,4,5] (rg [mV 33 5,
bN 34 .add 33 (cI 1),
mV 5 34] [0,3,4,5])
def zia:ACode:=.pr [0,3,4,5] (.seq (.seq (rg [mV 29 5,
mV 30 4,
lN 31 30,
bN 32 .lss 29 31] [0,3,4,5,32])
(.cond 32 .skip
(.exit 2)))
(.seq (.block 3 (.seq (dr [dF (mV 35 4) [4],
dF (mV 36 5) [5],
dF (iA 37 none 35 36) [35,36],
dF (lD 38 none 37) [37],
dF (mV 39 4) [4],
dF (mV 40 5) [5],
dF (bN 41 .sub 40 (cI 1)) [40],
dF (iA 42 none 39 41) [39,41],
dF (lD 43 none 42) [42],
dF (bN 44 .neq 38 43) [38,43]] [0,3,4,5,44])
(.cond 44 (.seq (rg [mV 45 0,
mV 46 3,
mV 47 4,
mV 48 5,
iA 49 none 47 48,
lD 50 none 49,
iA 51 none 45 46,
wO (.store none 51 50)] [0,3,4,5])
(rg [mV 52 3,
bN 53 .add 52 (cI 1),
mV 3 53] [0,3,4,5]))
.skip)))
zhZ))
def zib:ACode:=.pr [0,3] (.seq (rg [mV 54 0,
mV 55 3,
uO 56 (.slice none 54 (some 55) none none),
wO (.clr none (.str []) 56)] [0,3])
(.seq (rg [mV 57 0,
mV 58 3,
uO 59 (.slice none 57 none (some 58) none),
mV 2 59] [2])
.ret))
def zic:ACode:=.pr [0,3] (rg [mV 14 3,
bN 15 .add 14 (cI 1),
mV 3 15] [0,3])
def zid:ACode:=.pr [0,3] (.seq (.seq (rg [mV 10 3,
mV 11 0,
lN 12 11,
bN 13 .lss 10 12] [0,3,13])
(.cond 13 .skip
(.exit 0)))
(.seq (.block 1 (.seq (dr [dF (mV 16 0) [0],
dF (mV 17 3) [3],
dF (iA 18 none 16 17) [16,17],
dF (lD 19 none 18) [18],
dF (mV 20 0) [0],
dF (mV 21 3) [3],
dF (bN 22 .sub 21 (cI 1)) [21],
dF (iA 23 none 20 22) [20,22],
dF (lD 24 none 23) [23],
dF (bN 25 .eql 19 24) [19,24]] [0,3,25])
(.cond 25 (.seq (rg [mV 26 0,
mV 27 3,
uO 28 (.slice none 26 (some 27) none none),
mV 4 28] [0,3,4])
(.seq (.seq (rg [mV 5 (cI 1)] [0,3,4,5])
(.block 2 (.loop zia)))
zib))
.skip)))
zic))
def zie:ACode:=.pr [0] (.seq (rg [mV 60 0,
mV 2 60] [2])
.ret)
def zhY:ACode:=(.seq (rg [mV 2 (.c (.p (.sl none [])))] [0])
(.seq (.seq (rg [mV 6 0,
lN 7 6,
bN 8 .lss 7 (cI 2)] [0,8])
(.cond 8 (.seq (rg [mV 9 0,
mV 2 9] [2])
.ret)
.skip))
(.seq (.seq (rg [mV 3 (cI 1)] [0,3])
(.block 0 (.loop zid)))
zie)))
def z8v:AFun:=⟨1,[.t 2],zhY,true,false⟩
def zif:ACode:=(.seq (rg [mV 4 cF] [0,1])
(.seq (rg [mV 5 0,
mV 6 1,
cL 7 z3o [5,6],
bN 8 .geq 7 (cI 0),
mV 4 8] [4])
.ret))
def z8w:AFun:=⟨2,[.t 4],zif,true,false⟩
def zig:ACode:=(.seq (rg [mV 4 cF] [0,1])
(.seq (rg [mV 5 0,
mV 6 1,
cL 7 z3p [5,6],
bN 8 .geq 7 (cI 0),
mV 4 8] [4])
.ret))
def z8x:AFun:=⟨2,[.t 4],zig,true,false⟩
def zih:ACode:=(.seq (rg [mV 4 cF] [0,1])
(.seq (rg [mV 5 0,
mV 6 1,
cL 7 z3q [5,6],
bN 8 .geq 7 (cI 0),
mV 4 8] [4])
.ret))
def z8y:AFun:=⟨2,[.t 4],zih,true,false⟩
def zii:ACode:=(.seq (rg [mV 4 cF] [0,1])
(.seq (rg [mV 5 0,
mV 6 1,
cL 7 uX [5,6],
bN 8 .geq 7 (cI 0),
mV 4 8] [4])
.ret))
def z8z:AFun:=⟨2,[.t 4],zii,true,false⟩
def zik:ACode:=.pr [0,1,7,8] (.seq (rg [bN 9 .lss 8 7] [0,1,7,8,9])
(.seq (.cond 9 .skip
(.exit 0))
(.seq (.block 1 (.seq (rg [mV 10 8,
mV 5 10] [0,1,5,7,8])
(.seq (rg [mV 11 1,
mV 12 0,
mV 13 5,
iA 14 (some 4) 12 13,
lD 15 (some 4) 14,
uO 16 (.callv 11 [15])] [0,1,5,7,8,16])
(.cond 16 (.seq (rg [mV 17 5,
mV 4 17] [4])
.ret)
.skip))))
(rg [bN 18 .add 8 (cI 1),
mV 8 18] [0,1,7,8]))))
def zil:ACode:=.pr [] (.seq (rg [mV 4 (cI (-1))] [4])
.ret)
def zij:ACode:=(.seq (rg [mV 4 (cI 0)] [0,1])
(.seq (.seq (rg [mV 6 0,
lN 7 6,
mV 8 (cI 0)] [0,1,7,8])
(.block 0 (.loop zik)))
zil))
def z80:AFun:=⟨2,[.t 4],zij,true,false⟩
def zin:ACode:=.pr [0,1,7,8] (.seq (rg [bN 9 .lss 8 7] [0,1,7,8,9])
(.seq (.cond 9 .skip
(.exit 0))
(.seq (.block 1 (.seq (rg [mV 10 8,
mV 5 10] [0,1,5,7,8])
(.seq (rg [mV 11 1,
mV 12 0,
mV 13 5,
iA 14 none 12 13,
lD 15 none 14,
uO 16 (.callv 11 [15])] [0,1,5,7,8,16])
(.cond 16 (.seq (rg [mV 17 5,
mV 4 17] [4])
.ret)
.skip))))
(rg [bN 18 .add 8 (cI 1),
mV 8 18] [0,1,7,8]))))
def zio:ACode:=.pr [] (.seq (rg [mV 4 (cI (-1))] [4])
.ret)
def zim:ACode:=(.seq (rg [mV 4 (cI 0)] [0,1])
(.seq (.seq (rg [mV 6 0,
lN 7 6,
mV 8 (cI 0)] [0,1,7,8])
(.block 0 (.loop zin)))
zio))
def z81:AFun:=⟨2,[.t 4],zim,true,false⟩
def zir:ACode:=.pr [0,1,7,8] (.seq (rg [bN 9 .lss 8 7] [0,1,7,8,9])
(.seq (.cond 9 .skip
(.exit 0))
(.seq (.block 1 (.seq (rg [mV 10 8,
mV 5 10] [0,1,5,7,8])
(.seq (rg [mV 11 1,
mV 12 0,
mV 13 5,
iA 14 none 12 13,
lD 15 none 14,
bN 16 .eql 11 15] [0,1,5,7,8,16])
(.cond 16 (.seq (rg [mV 17 5,
mV 4 17] [4])
.ret)
.skip))))
(rg [bN 18 .add 8 (cI 1),
mV 8 18] [0,1,7,8]))))
def zis:ACode:=.pr [] (.seq (rg [mV 4 (cI (-1))] [4])
.ret)
def ziq:ACode:=(.seq (rg [mV 4 (cI 0)] [0,1])
(.seq (.seq (rg [mV 6 0,
lN 7 6,
mV 8 (cI 0)] [0,1,7,8])
(.block 0 (.loop zir)))
zis))
def z82:AFun:=⟨2,[.t 4],ziq,true,false⟩
def ziu:ACode:=.pr [0,1,7,8] (.seq (rg [bN 9 .lss 8 7] [0,1,7,8,9])
(.seq (.cond 9 .skip
(.exit 0))
(.seq (.block 1 (.seq (rg [mV 10 8,
mV 5 10] [0,1,5,7,8])
(.seq (rg [mV 11 1,
mV 12 0,
mV 13 5,
iA 14 none 12 13,
lD 15 none 14,
bN 16 .eql 11 15] [0,1,5,7,8,16])
(.cond 16 (.seq (rg [mV 17 5,
mV 4 17] [4])
.ret)
.skip))))
(rg [bN 18 .add 8 (cI 1),
mV 8 18] [0,1,7,8]))))
def ziv:ACode:=.pr [] (.seq (rg [mV 4 (cI (-1))] [4])
.ret)
def zit:ACode:=(.seq (rg [mV 4 (cI 0)] [0,1])
(.seq (.seq (rg [mV 6 0,
lN 7 6,
mV 8 (cI 0)] [0,1,7,8])
(.block 0 (.loop ziu)))
ziv))
def z83:AFun:=⟨2,[.t 4],zit,true,false⟩
def zix:ACode:=.pr [0,9,10,11] (.seq (rg [bN 12 .lss 11 10] [0,9,10,11,12])
(.seq (.cond 12 .skip
(.exit 0))
(.seq (.block 1 (.seq (rg [mV 13 11,
iA 14 (some 8) 9 11,
lD 15 (some 8) 14,
uO 4 (.alloc [.p (.str []),.p (.int .i64 0),.p (.int .i64 0),.p (.int .i64 0),.p (.str []),.p (.str []),.p (.str []),.p (.int .i64 0)]),
mV 3 13,
wO (.store (some 8) 4 15)] [0,3,4,9,10,11])
(.seq (.seq (rg [lD 16 (some 8) 4,
cL 17 z3w [16],
mV 5 17] [0,3,4,5,9,10,11])
(.seq (rg [mV 18 5,
bN 19 .neq 18 (cI 0)] [0,3,4,5,9,10,11,19])
(.cond 19 (.seq (rg [mV 20 5,
mV 2 20] [2])
.ret)
.skip)))
(.seq (dr [dF (mV 21 3) [3],
dF (bN 22 .gtr 21 (cI 0)) [21],
dF (mV 23 22) [22],
dF (gD 24 23 true (.load (some 8) 4)) [4,23],
dF (gD 25 23 true (.mv 0)) [0,23],
dF (gD 26 23 true (.mv 3)) [3,23],
dF (gD 27 23 true (.bin .sub 26 (cI 1))) [26,23],
dF (gD 28 23 true (.iaddr (some 8) 25 27)) [25,27,23],
dF (gD 29 23 true (.load (some 8) 28)) [28,23],
dT (gD 30 23 true (.call z3u [24,29])) [24,29,23],
dF (gD 31 23 true (.bin .leq 30 (cI 0))) [30,23],
dF (uO 32 (.pick 23 31 cF)) [23,31]] [0,9,10,11,32])
(.cond 32 (.seq (rg [mV 2 (cI 7)] [2])
.ret)
.skip)))))
(rg [bN 33 .add 11 (cI 1),
mV 11 33] [0,9,10,11]))))
def ziy:ACode:=.pr [0] (.seq (.seq (rg [mV 34 0,
cL 35 z34 [34]] [35])
(.cond 35 (.seq (rg [mV 2 (cI 6)] [2])
.ret)
.skip))
(.seq (rg [mV 2 (cI 0)] [2])
.ret))
def ziw:ACode:=(.seq (rg [mV 2 (cI 0)] [0])
(.seq (.seq (rg [mV 6 0,
lN 7 6,
bN 8 .gtr 7 (cI 2000)] [0,8])
(.cond 8 (.seq (rg [mV 2 (cI 2)] [2])
.ret)
.skip))
(.seq (.seq (rg [mV 9 0,
lN 10 9,
mV 11 (cI 0)] [0,9,10,11])
(.block 0 (.loop (.scope zix))))
ziy)))
def z84:AFun:=⟨1,[.t 2],ziw,false,false⟩
def zi0:ACode:=.pr [1,16,17,18] (.seq (rg [bN 19 .lss 18 17] [1,16,17,18,19])
(.seq (.cond 19 .skip
(.exit 1))
(.seq (.block 2 (.seq (rg [mV 20 18,
iA 21 none 16 18,
lD 22 none 21,
mV 3 20,
mV 4 22] [1,3,4,16,17,18])
(.block 3 (.seq (rg [mV 24 4,
cL 25 zD [24],
uO 26 (.un .not 25),
mV 23 26] [1,3,4,16,17,18,23])
(.cond 23 (.seq (rg [mV 2 (cI 5)] [2])
.ret)
(.seq (rg [fA 28 0 none 1,
lD 29 none 28,
mV 30 3,
uO 31 (.slice none 29 none (some 30) none),
mV 32 4,
cL 33 tX [31,32],
mV 27 33] [1,16,17,18,27])
(.cond 27 (.seq (rg [mV 2 (cI 6)] [2])
.ret)
.skip)))))))
(rg [bN 34 .add 18 (cI 1),
mV 18 34] [1,16,17,18]))))
def zi1:ACode:=.pr [1] (.seq (.seq (rg [fA 35 1 none 1,
lD 36 none 35,
cL 37 WB [36,(cI 1),(cI 10)]] [37])
(.cond 37 (.seq (rg [mV 2 (cI 1)] [2])
.ret)
.skip))
(.seq (rg [mV 2 (cI 0)] [2])
.ret))
def ziz:ACode:=(.seq (rg [uO 1 (.box 0),
mV 2 (cI 0)] [1])
(.seq (.block 0 (.seq (rg [fA 6 0 none 1,
lD 7 none 6,
lN 8 7,
bN 9 .eql 8 (cI 0),
mV 5 9] [1,5])
(.cond 5 (.seq (rg [mV 2 (cI 8)] [2])
.ret)
(.seq (rg [fA 11 0 none 1,
lD 12 none 11,
lN 13 12,
bN 14 .gtr 13 (cI 20),
mV 10 14] [1,10])
(.cond 10 (.seq (rg [mV 2 (cI 2)] [2])
.ret)
.skip)))))
(.seq (.seq (rg [fA 15 0 none 1,
lD 16 none 15,
lN 17 16,
mV 18 (cI 0)] [1,16,17,18])
(.block 1 (.loop zi0)))
zi1)))
def z85:AFun:=⟨1,[.t 2],ziz,false,false⟩
end Go.Am
end
section
/- The functions asv abstract code,and asv formulas over their values: printed by program out of the translation. -/
set_option linter.all false
set_option maxRecDepth 100000
namespace Go.Am
def zi2:ACode:=(.seq (rg [uO 4 (.box 0),
uO 8 (.alloc [.p (.int .i64 0),.p (.int .i64 0),.p (.str []),.p (.str []),.p (.int .i64 0)]),
mV 9 (cI 0)] [1,2,3,4,8])
(.seq (.seq (rg [lD 12 (some 2) 4,
mV 13 1,
mV 14 3,
cL 15 z3x [12,13,14],
mV 10 15] [1,2,3,4,8,10])
(.seq (rg [mV 16 10,
bN 17 .neq 16 (cI 0)] [1,2,3,4,8,10,17])
(.cond 17 (.seq (rg [uO 18 (.build [.p (.int .i64 0),.p (.int .i64 0),.p (.str []),.p (.str []),.p (.int .i64 0)] []),
mV 19 10,
wO (.store (some 5) 8 18),
mV 9 19] [8,9])
.ret)
.skip)))
(.seq (.seq (rg [mV 20 2,
cL 21 zD [20],
uO 22 (.un .not 21)] [1,2,3,4,8,22])
(.cond 22 (.seq (rg [uO 23 (.build [.p (.int .i64 0),.p (.int .i64 0),.p (.str []),.p (.str []),.p (.int .i64 0)] []),
wO (.store (some 5) 8 23),
mV 9 (cI 5)] [8,9])
.ret)
.skip))
(.seq (dr [dF (lD 24 (some 2) 4) [4],
dF (mV 25 1) [1],
dF (mV 26 3) [3],
dA (cL 27 z35 [25,26]) [25,26] true [] [0],
dT (cL 28 z32 [24,27]) [24,27],
dF (uO 29 (.nilchk 28)) [28],
dF (fA 30 2 none 29) [29],
dF (lD 31 none 30) [30],
dF (mV 32 2) [2],
dF (uO 33 (.look (none,[2]) false (.nilp) 31 32)) [31,32],
dF (mV 11 33) [33]] [8,11])
(.seq (.seq (rg [mV 34 11,
uO 35 (.isnil 0 false 34)] [8,11,35])
(.cond 35 (.seq (rg [uO 36 (.build [.p (.int .i64 0),.p (.int .i64 0),.p (.str []),.p (.str []),.p (.int .i64 0)] []),
wO (.store (some 5) 8 36),
mV 9 (cI 8)] [8,9])
.ret)
.skip))
(.seq (rg [mV 37 11,
uO 38 (.nilchk 37),
lD 39 (some 5) 38,
wO (.store (some 5) 8 39),
mV 9 (cI 0)] [8,9])
.ret))))))
def z86:AFun:=⟨4,[.cell 8 (some 5),.t 9],zi2,false,false⟩
def zi3:ACode:=(.seq (rg [uO 2 (.box 0),
uO 3 (.box 1),
mV 4 (cI 0)] [2,3])
(.seq (dr [dF (fA 5 2 none 2) [2],
dF (lD 6 none 5) [5],
dF (fA 7 2 none 3) [3],
dF (lD 8 none 7) [7],
dT (cL 9 pX [6,8]) [6,8],
dF (fA 10 0 none 2) [2],
dA (lD 11 none 10) [10] false [4] [],
dF (fA 12 0 none 3) [3],
dA (lD 13 none 12) [12] false [4] [],
dT (cL 14 YJ [11,13]) [11,13],
dF (fA 15 1 none 2) [2],
dA (lD 16 none 15) [15] false [4,9] [],
dF (fA 17 1 none 3) [3],
dA (lD 18 none 17) [17] false [4,9] [],
dT (cL 19 pX [16,18]) [16,18],
dF (uO 20 (.bsl false none 3 (.int .i64 0) [(0,9),(1,14),(2,19)])) [9,14,19],
dT (cL 21 qX [20]) [20],
dF (mV 4 21) [21]] [4])
.ret))
def z87:AFun:=⟨2,[.t 4],zi3,false,false⟩
def zi5:ACode:=.pr [0,3,4,5] (rg [mV 16 5,
bN 17 .sub 16 (cI 1),
mV 5 17] [0,3,4,5])
def zi6:ACode:=.pr [0,3,4,5] (.seq (.seq (rg [mV 14 5,
bN 15 .geq 14 (cI 0)] [0,3,4,5,15])
(.cond 15 .skip
(.exit 0)))
(.seq (.block 1 (.seq (rg [mV 18 0,
mV 19 5,
iA 20 (some 8) 18 19,
lD 21 (some 8) 20,
uO 6 (.alloc [.p (.str []),.p (.int .i64 0),.p (.int .i64 0),.p (.int .i64 0),.p (.str []),.p (.str []),.p (.str []),.p (.int .i64 0)]),
wO (.store (some 8) 6 21)] [0,3,4,5,6])
(.seq (rg [mV 22 4,
mV 23 5,
mV 24 3,
fA 25 0 none 6,
lD 26 none 25,
fA 27 1 none 6,
lD 28 none 27,
uO 29 (.build [.p (.str []),.p (.int .i64 0)] [(0,1,26),(1,1,28)]),
uO 30 (.look ((some 2),[2,0]) false (AB false) 24 29),
uO 31 (.un .not 30),
iA 32 none 22 23,
wO (.store none 32 31)] [0,3,4,5,6])
(.seq (rg [mV 33 4,
mV 34 5,
iA 35 none 33 34,
lD 36 none 35,
mV 37 36,
gD 38 37 true (.faddr 3 none 6),
gD 39 37 true (.load none 38),
gD 40 37 true (.bin .eql 39 (cI 7)),
uO 41 (.pick 37 40 cF)] [0,3,4,5,6,41])
(.cond 41 (rg [mV 42 3,
fA 43 6 none 6,
lD 44 none 43,
fA 45 7 none 6,
lD 46 none 45,
uO 47 (.build [.p (.str []),.p (.int .i64 0)] [(0,1,44),(1,1,46)]),
wO (.mupd ((some 2),[2,0]) 42 47 cT)] [0,3,4,5])
.skip)))))
zi5))
def zi7:ACode:=.pr [4] (.seq (rg [mV 48 4,
mV 2 48] [2])
.ret)
def zi4:ACode:=(.seq (rg [mV 2 (.c (.p (.sl none [])))] [0])
(.seq (rg [uO 7 (.mkmap),
mV 3 7] [0,3])
(.seq (rg [mV 8 0,
lN 9 8,
uO 10 (.mksl none (.bool false) 9 9),
mV 4 10] [0,3,4])
(.seq (.seq (rg [mV 11 0,
lN 12 11,
bN 13 .sub 12 (cI 1),
mV 5 13] [0,3,4,5])
(.block 0 (.loop (.scope zi6))))
zi7))))
def z88:AFun:=⟨1,[.t 2],zi4,false,false⟩
def zi8:ACode:=(.seq (rg [uO 1 (.box 0),
mV 2 (cI 0)] [1])
(.seq (dr [dF (fA 5 3 none 1) [1],
dF (lD 6 none 5) [5],
dF (bN 7 .eql 6 (cI 7)) [6],
dF (fA 8 3 none 1) [1],
dF (lD 9 none 8) [8],
dF (bN 10 .eql 9 (cI 2)) [9],
dF (mV 3 7) [7],
dF (mV 4 10) [10]] [1,3,4])
(.seq (.block 0 (.seq (rg [fA 12 0 none 1,
lD 13 none 12,
cL 14 zD [13],
uO 15 (.un .not 14),
mV 11 15] [1,3,4,11])
(.cond 11 (.seq (rg [mV 2 (cI 5)] [2])
.ret)
(.seq (rg [fA 17 1 none 1,
lD 18 none 17,
cL 19 WB [18,(cI 1),(cI 1000000)],
mV 20 19,
gD 21 20 false (.faddr 2 none 1),
gD 22 20 false (.load none 21),
gD 23 20 false (.call oX [22]),
gD 24 20 false (.un .not 23),
uO 25 (.pick 20 cT 24),
mV 16 25] [1,3,4,16])
(.cond 16 (.seq (rg [mV 2 (cI 1)] [2])
.ret)
(.seq (rg [fA 27 3 none 1,
lD 28 none 27,
cL 29 WB [28,(cI 1),(cI 7)],
mV 26 29] [1,3,4,26])
(.cond 26 (.seq (rg [mV 2 (cI 4)] [2])
.ret)
(.seq (rg [mV 31 3,
uO 32 (.un .not 31),
mV 33 32,
gD 34 33 true (.faddr 4 none 1),
gD 35 33 true (.load none 34),
gD 36 33 true (.call zD [35]),
gD 37 33 true (.un .not 36),
uO 38 (.pick 33 37 cF),
mV 39 38,
gD 40 39 false (.mv 4),
gD 41 39 false (.mv 40),
gD 42 41 true (.faddr 5 none 1),
gD 43 41 true (.load none 42),
gD 44 41 true (.call zD [43]),
gD 45 41 true (.un .not 44),
gD 46 39 false (.pick 41 45 cF),
uO 47 (.pick 39 cT 46),
mV 48 47,
gD 49 48 false (.mv 3),
gD 50 48 false (.mv 49),
gD 51 50 true (.faddr 6 none 1),
gD 52 50 true (.load none 51),
gD 53 50 true (.call zD [52]),
gD 54 50 true (.un .not 53),
gD 55 48 false (.pick 50 54 cF),
uO 56 (.pick 48 cT 55),
mV 30 56] [1,3,4,30])
(.cond 30 (.seq (rg [mV 2 (cI 5)] [2])
.ret)
(.seq (rg [mV 58 3,
mV 59 58,
gD 60 59 true (.faddr 7 none 1),
gD 61 59 true (.load none 60),
gD 62 59 true (.call WB [61,(cI 1),(cI 1000000)]),
uO 63 (.pick 59 62 cF),
mV 57 63] [1,3,4,57])
(.cond 57 (.seq (rg [mV 2 (cI 1)] [2])
.ret)
(.seq (rg [mV 65 3,
mV 66 65,
gD 67 66 true (.faddr 4 none 1),
gD 68 66 true (.load none 67),
gD 69 66 true (.bin .neq 68 (cS [])),
uO 70 (.pick 66 69 cF),
mV 71 70,
gD 72 71 false (.mv 4),
gD 73 71 false (.un .not 72),
gD 74 71 false (.mv 73),
gD 75 74 true (.faddr 5 none 1),
gD 76 74 true (.load none 75),
gD 77 74 true (.bin .neq 76 (cS [])),
gD 78 71 false (.pick 74 77 cF),
uO 79 (.pick 71 cT 78),
mV 80 79,
gD 81 80 false (.mv 3),
gD 82 80 false (.un .not 81),
gD 83 80 false (.mv 82),
gD 84 83 true (.faddr 6 none 1),
gD 85 83 true (.load none 84),
gD 86 83 true (.bin .neq 85 (cS [])),
gD 87 83 true (.mv 86),
gD 88 87 false (.faddr 7 none 1),
gD 89 87 false (.load none 88),
gD 90 87 false (.bin .neq 89 (cI 0)),
gD 91 83 true (.pick 87 cT 90),
gD 92 80 false (.pick 83 91 cF),
uO 93 (.pick 80 cT 92),
mV 64 93] [64])
(.cond 64 (.seq (rg [mV 2 (cI 3)] [2])
.ret)
.skip)))))))))))))
(.seq (rg [mV 2 (cI 0)] [2])
.ret))))
def z89:AFun:=⟨1,[.t 2],zi8,false,false⟩
def zi9:ACode:=(.seq (rg [uO 3 (.box 0),
mV 6 (cI 0)] [1,2,3])
(.seq (rg [lD 7 (some 2) 3,
cL 8 z3s [7],
mV 9 1,
cL 10 z3r [9],
mV 11 2,
cL 12 z33 [11],
uO 13 (.bsl false none 3 (.int .i64 0) [(0,8),(1,10),(2,12)]),
cL 14 dH [13],
mV 6 14] [6])
.ret))
def z8A:AFun:=⟨3,[.t 6],zi9,false,false⟩
def ziA:ACode:=(.seq (rg [mV 4 (cI 0)] [0,1])
(.seq (rg [mV 5 0,
uO 6 (.nilchk 5),
fA 7 0 (some 2) 6,
fA 8 0 none 7,
lD 9 none 8,
mV 10 1,
cL 11 uX [9,10],
mV 4 11] [4])
.ret))
def z8B:AFun:=⟨2,[.t 4],ziA,false,false⟩
def ziC:ACode:=.pr [] (.seq (rg [mV 6 (cI 0)] [6])
.ret)
def ziD:ACode:=.pr [] (.seq (rg [mV 6 (cI 0)] [6])
.ret)
def ziE:ACode:=.pr [0,1] (.seq (rg [mV 98 1,
uO 99 (.nilchk 98),
fA 100 4 none 99,
lD 101 none 100,
bN 102 .add 101 (cI 1),
uO 103 (.nilchk 98),
fA 104 4 none 103,
wO (.store none 104 102)] [0,1])
(.seq (rg [mV 105 1,
uO 106 (.nilchk 105),
fA 107 0 none 106,
wO (.store none 107 (cI 3))] [0,1])
(.seq (.seq (dr [dF (mV 108 1) [1],
dF (uO 109 (.nilchk 108)) [108],
dF (fA 110 4 none 109) [109],
dF (lD 111 none 110) [110],
dF (mV 112 0) [0],
dF (uO 113 (.nilchk 112)) [112],
dF (fA 114 0 (some 2) 113) [113],
dF (fA 115 1 none 114) [114],
dF (lD 116 none 115) [115],
dF (bN 117 .eql 111 116) [111,116]] [1,117])
(.cond 117 (rg [mV 118 1,
uO 119 (.nilchk 118),
fA 120 0 none 119,
wO (.store none 120 (cI 5))] [])
.skip))
ziD)))
def ziB:ACode:=(.seq (rg [uO 5 (.box 2),
mV 6 (cI 0)] [0,1,5])
(.seq (.block 0 (.seq (rg [mV 10 1,
uO 11 (.nilchk 10),
fA 12 0 none 11,
lD 13 none 12,
bN 14 .neq 13 (cI 2),
mV 9 14] [0,1,5,9])
(.cond 9 (.seq (rg [mV 6 (cI 11)] [6])
.ret)
(.seq (dr [dF (mV 16 1) [1],
dF (uO 17 (.nilchk 16)) [16],
dF (fA 18 3 none 17) [17],
dF (lD 19 none 18) [18],
dF (fA 20 0 none 5) [5],
dF (lD 21 none 20) [20],
dF (bN 22 .neq 19 21) [19,21],
dF (mV 15 22) [22]] [0,1,5,15])
(.cond 15 (.seq (rg [mV 6 (cI 13)] [6])
.ret)
.skip)))))
(.seq (rg [fA 23 3 none 5,
lD 24 none 23,
bN 25 .eql 24 (cI 3),
mV 7 25] [0,1,5,7])
(.seq (dr [dF (mV 26 0) [0],
dF (mV 27 0) [0],
dF (uO 28 (.nilchk 27)) [27],
dF (fA 29 4 none 28) [28],
dF (lD 30 none 29) [29],
dF (fA 31 4 none 5) [5],
dF (lD 32 none 31) [31],
dF (mV 33 1) [1],
dF (uO 34 (.nilchk 33)) [33],
dF (fA 35 2 none 34) [34],
dF (lD 36 none 35) [35],
dF (mV 37 1) [1],
dF (uO 38 (.nilchk 37)) [37],
dF (fA 39 1 none 38) [38],
dF (lD 40 none 39) [39],
dF (fA 41 2 none 5) [5],
dF (lD 42 none 41) [41],
dF (mV 43 7) [7],
dF (uO 44 (.build [.p (.str []),.p (.str []),.p (.int .i64 0),.p (.int .i64 0),.p (.bool false)] [(0,1,32),(1,1,36),(2,1,40),(3,1,42),(4,1,43)])) [32,36,40,42,43],
dF (uO 45 (.bsl false (some 5) 1 (.agg [.str [],.str [],.int .i64 0,.int .i64 0,.bool false]) [(0,44)])) [44],
dT (uO 46 (.app (some 5) 30 45)) [30,45],
dF (uO 47 (.nilchk 26)) [26],
dF (fA 48 4 none 47) [47],
dT (wO (.store none 48 46)) [48,46]] [0,1,5,7])
(.seq (rg [mV 49 0,
mV 50 1,
fA 51 2 none 5,
lD 52 none 51,
cL 53 vX [49,50,52]] [0,1,5,7])
(.seq (rg [mV 54 1,
fA 55 2 none 5,
lD 56 none 55,
uO 57 (.nilchk 54),
fA 58 1 none 57,
wO (.store none 58 56)] [0,1,7])
(.seq (.seq (rg [mV 59 7] [0,1,59])
(.cond 59 (.seq (rg [mV 60 1,
uO 61 (.nilchk 60),
fA 62 4 none 61,
wO (.store none 62 (cI 0))] [0,1])
(.seq (rg [mV 63 0,
mV 64 1,
uO 65 (.nilchk 64),
fA 66 2 none 65,
lD 67 none 66,
cL 68 z3y [63,67],
bN 69 .add 68 (cI 1),
mV 8 69] [0,1,8])
(.seq (.seq (rg [mV 70 8,
mV 71 0,
uO 72 (.nilchk 71),
fA 73 0 (some 2) 72,
fA 74 0 none 73,
lD 75 none 74,
lN 76 75,
bN 77 .eql 70 76] [0,1,8,77])
(.cond 77 (rg [mV 78 1,
mV 79 1,
uO 80 (.nilchk 78),
fA 81 0 none 80,
wO (.store none 81 (cI 4)),
uO 82 (.nilchk 79),
fA 83 2 none 82,
wO (.store none 83 (cS []))] [])
(rg [mV 84 1,
mV 85 1,
mV 86 0,
uO 87 (.nilchk 86),
fA 88 0 (some 2) 87,
fA 89 0 none 88,
lD 90 none 89,
mV 91 8,
iA 92 none 90 91,
lD 93 none 92,
uO 94 (.nilchk 84),
fA 95 0 none 94,
wO (.store none 95 (cI 1)),
uO 96 (.nilchk 85),
fA 97 2 none 96,
wO (.store none 97 93)] [])))
ziC)))
.skip))
ziE)))))))
def z8C:AFun:=⟨3,[.t 6],ziB,false,false⟩
def ziG:ACode:=.pr [0,1,2,11,12] (rg [bN 47 .add 12 (cI 1),
mV 12 47] [0,1,2,11,12])
def ziH:ACode:=.pr [0,1,2,11,12] (.seq (rg [bN 13 .lss 12 11] [0,1,2,11,12,13])
(.seq (.cond 13 .skip
(.exit 0))
(.seq (.block 1 (.seq (rg [mV 14 12,
mV 6 14] [0,1,2,6,11,12])
(.seq (dr [dF (mV 15 0) [0],
dF (uO 16 (.nilchk 15)) [15],
dF (fA 17 5 none 16) [16],
dF (lD 18 none 17) [17],
dF (mV 19 6) [6],
dF (iA 20 (some 3) 18 19) [18,19],
dF (fA 21 0 none 20) [20],
dF (lD 22 none 21) [21],
dF (mV 23 1) [1],
dF (uO 24 (.nilchk 23)) [23],
dF (fA 25 3 none 24) [24],
dF (lD 26 none 25) [25],
dF (bN 27 .eql 22 26) [22,26],
dF (mV 28 27) [27],
dF (gD 29 28 true (.mv 0)) [0,28],
dF (gD 30 28 true (.nilchk 29)) [29,28],
dF (gD 31 28 true (.faddr 5 none 30)) [30,28],
dF (gD 32 28 true (.load none 31)) [31,28],
dF (gD 33 28 true (.mv 6)) [6,28],
dF (gD 34 28 true (.iaddr (some 3) 32 33)) [32,33,28],
dF (gD 35 28 true (.faddr 2 none 34)) [34,28],
dF (gD 36 28 true (.load none 35)) [35,28],
dF (gD 37 28 true (.bin .lss 36 (cI 0))) [36,28],
dF (uO 38 (.pick 28 37 cF)) [28,37]] [0,1,2,6,11,12,38])
(.cond 38 (rg [mV 39 0,
uO 40 (.nilchk 39),
fA 41 5 none 40,
lD 42 none 41,
mV 43 6,
mV 44 2,
iA 45 (some 3) 42 43,
fA 46 2 none 45,
wO (.store none 46 44)] [0,1,2,11,12])
.skip))))
ziG)))
def ziI:ACode:=.pr [0,1] (.seq (dr [dF (mV 48 0) [0],
dF (uO 49 (.nilchk 48)) [48],
dF (fA 50 3 none 49) [49],
dF (lD 51 none 50) [50],
dF (mV 52 1) [1],
dF (uO 53 (.nilchk 52)) [52],
dF (fA 54 3 none 53) [53],
dF (lD 55 none 54) [54],
dT (wO (.mdel (none,[2]) 51 55)) [51,55]] [1])
(rg [mV 56 1,
uO 57 (.nilchk 56),
fA 58 3 none 57,
wO (.store none 58 (cS []))] []))
def ziF:ACode:=(.seq (.seq (rg [mV 7 0,
uO 8 (.nilchk 7),
fA 9 5 none 8,
lD 10 none 9,
lN 11 10,
mV 12 (cI 0)] [0,1,2,11,12])
(.block 0 (.loop ziH)))
ziI)
def z8D:AFun:=⟨3,[],ziF,false,false⟩
def ziJ:ACode:=(.seq (rg [uO 5 (.box 2),
mV 6 (cI 0)] [0,1,5])
(.seq (dr [dF (mV 10 0) [0],
dF (uO 11 (.nilchk 10)) [10],
dF (fA 12 3 none 11) [11],
dF (lD 13 none 12) [12],
dF (fA 14 0 none 5) [5],
dF (lD 15 none 14) [14],
dF (uO 16 (.look (none,[2]) true (.p (.str [])) 13 15)) [13,15],
dF (mV 9 16) [16],
dF (eX 17 9 0) [9],
dF (eX 18 9 1) [9],
dF (mV 7 17) [17],
dF (mV 8 18) [18]] [0,1,5,8])
(.seq (.block 0 (.seq (rg [mV 20 1,
uO 21 (.nilchk 20),
fA 22 0 none 21,
lD 23 none 22,
bN 24 .neq 23 (cI 1),
mV 19 24] [0,1,5,8,19])
(.cond 19 (.seq (rg [mV 6 (cI 11)] [6])
.ret)
(.seq (dr [dF (fA 26 5 none 5) [5],
dF (lD 27 none 26) [26],
dF (mV 28 1) [1],
dF (uO 29 (.nilchk 28)) [28],
dF (fA 30 2 none 29) [29],
dF (lD 31 none 30) [30],
dF (bN 32 .neq 27 31) [27,31],
dF (mV 25 32) [32]] [0,1,5,8,25])
(.cond 25 (.seq (rg [mV 6 (cI 3)] [6])
.ret)
(.seq (rg [mV 34 8,
mV 33 34] [0,1,5,33])
(.cond 33 (.seq (rg [mV 6 (cI 12)] [6])
.ret)
.skip)))))))
(.seq (dr [dF (mV 35 1) [1],
dF (mV 36 1) [1],
dF (mV 37 1) [1],
dF (fA 38 2 none 5) [5],
dF (lD 39 none 38) [38],
dF (fA 40 0 none 5) [5],
dF (lD 41 none 40) [40],
dF (uO 42 (.nilchk 35)) [35],
dF (fA 43 0 none 42) [42],
dA (wO (.store none 43 (cI 2))) [43] true [] [4,6],
dF (uO 44 (.nilchk 36)) [36],
dF (fA 45 1 none 44) [44],
dA (wO (.store none 45 39)) [45,39] true [] [6],
dF (uO 46 (.nilchk 37)) [37],
dF (fA 47 3 none 46) [46],
dT (wO (.store none 47 41)) [47,41]] [0,5])
(.seq (dr [dF (mV 48 0) [0],
dF (uO 49 (.nilchk 48)) [48],
dF (fA 50 3 none 49) [49],
dF (lD 51 none 50) [50],
dF (fA 52 0 none 5) [5],
dF (lD 53 none 52) [52],
dF (fA 54 4 none 5) [5],
dF (lD 55 none 54) [54],
dT (wO (.mupd (none,[2]) 51 53 55)) [51,53,55]] [0,5])
(.seq (dr [dF (mV 56 0) [0],
dF (mV 57 0) [0],
dF (uO 58 (.nilchk 57)) [57],
dF (fA 59 5 none 58) [58],
dF (lD 60 none 59) [59],
dF (fA 61 0 none 5) [5],
dF (lD 62 none 61) [61],
dF (fA 63 2 none 5) [5],
dF (lD 64 none 63) [63],
dF (uO 65 (.build [.p (.str []),.p (.int .i64 0),.p (.int .i64 0)] [(0,1,62),(1,1,64),(2,1,(cI (-1)))])) [62,64],
dF (uO 66 (.bsl false (some 3) 1 (.agg [.str [],.int .i64 0,.int .i64 0]) [(0,65)])) [65],
dT (uO 67 (.app (some 3) 60 66)) [60,66],
dF (uO 68 (.nilchk 56)) [56],
dF (fA 69 5 none 68) [68],
dT (wO (.store none 69 67)) [69,67]] [])
(.seq (rg [mV 6 (cI 0)] [6])
.ret)))))))
def z8E:AFun:=⟨3,[.t 6],ziJ,false,false⟩
def ziL:ACode:=.pr [0,3,5,38,45] (.cond 45 (.seq (rg [mV 48 0,
mV 49 5,
lD 50 (some 8) 3,
cL 51 z3z [48,49,50],
mV 4 51] [4])
.ret)
(.seq (rg [bN 53 .eql 38 (cI 5),
mV 52 53] [0,3,5,52])
(.cond 52 (.seq (.seq (rg [mV 54 5,
uO 55 (.nilchk 54),
fA 56 0 none 55,
lD 57 none 56,
bN 58 .neq 57 (cI 3)] [3,5,58])
(.cond 58 (.seq (rg [mV 4 (cI 11)] [4])
.ret)
.skip))
(.seq (dr [dF (mV 59 5) [5],
dF (mV 60 5) [5],
dF (fA 61 2 none 3) [3],
dF (lD 62 none 61) [61],
dF (uO 63 (.nilchk 59)) [59],
dF (fA 64 0 none 63) [63],
dA (wO (.store none 64 (cI 1))) [64] true [] [3],
dF (uO 65 (.nilchk 60)) [60],
dF (fA 66 1 none 65) [65],
dT (wO (.store none 66 62)) [66,62]] [])
(.seq (rg [mV 4 (cI 0)] [4])
.ret)))
.skip)))
def ziM:ACode:=.pr [3,5] (.seq (dr [dF (mV 89 5) [5],
dF (mV 90 5) [5],
dF (fA 91 2 none 3) [3],
dF (lD 92 none 91) [91],
dF (uO 93 (.nilchk 89)) [89],
dF (fA 94 0 none 93) [93],
dA (wO (.store none 94 (cI 5))) [94] true [] [3],
dF (uO 95 (.nilchk 90)) [90],
dF (fA 96 1 none 95) [95],
dT (wO (.store none 96 92)) [96,92]] [])
(.seq (rg [mV 4 (cI 0)] [4])
.ret))
def ziN:ACode:=.pr [0,3,5] (.seq (.seq (rg [mV 67 5,
uO 68 (.nilchk 67),
fA 69 0 none 68,
lD 70 none 69,
bN 71 .eql 70 (cI 4),
mV 72 71,
gD 73 72 false (.mv 5),
gD 74 72 false (.nilchk 73),
gD 75 72 false (.faddr 0 none 74),
gD 76 72 false (.load none 75),
gD 77 72 false (.bin .eql 76 (cI 5)),
uO 78 (.pick 72 cT 77)] [0,3,5,78])
(.cond 78 (.seq (rg [mV 4 (cI 11)] [4])
.ret)
.skip))
(.seq (.seq (rg [mV 79 5,
uO 80 (.nilchk 79),
fA 81 0 none 80,
lD 82 none 81,
bN 83 .eql 82 (cI 2)] [0,3,5,83])
(.cond 83 (rg [mV 84 0,
mV 85 5,
fA 86 2 none 3,
lD 87 none 86,
cL 88 vX [84,85,87]] [3,5])
.skip))
ziM))
def ziK:ACode:=(.seq (rg [uO 3 (.box 1),
mV 4 (cI 0)] [0,3])
(.seq (dr [dF (mV 6 0) [0],
dF (uO 7 (.nilchk 6)) [6],
dF (fA 8 2 none 7) [7],
dF (lD 9 none 8) [8],
dF (fA 10 4 none 3) [3],
dF (lD 11 none 10) [10],
dF (uO 12 (.look (none,[2]) false (.nilp) 9 11)) [9,11],
dF (mV 5 12) [12]] [0,3,5])
(.seq (.seq (rg [fA 13 3 none 3,
lD 14 none 13,
bN 15 .eql 14 (cI 1)] [0,3,5,15])
(.cond 15 (.seq (.seq (rg [mV 16 5,
uO 17 (.isnil 0 true 16)] [0,3,17])
(.cond 17 (.seq (rg [mV 4 (cI 6)] [4])
.ret)
.skip))
(.seq (dr [dF (mV 18 0) [0],
dF (uO 19 (.nilchk 18)) [18],
dF (fA 20 2 none 19) [19],
dF (lD 21 none 20) [20],
dF (fA 22 4 none 3) [3],
dF (lD 23 none 22) [22],
dF (fA 24 2 none 3) [3],
dF (lD 25 none 24) [24],
dF (mV 26 0) [0],
dF (uO 27 (.nilchk 26)) [26],
dF (fA 28 0 (some 2) 27) [27],
dF (fA 29 0 none 28) [28],
dF (lD 30 none 29) [29],
dF (iA 31 none 30 (cI 0)) [30],
dF (lD 32 none 31) [31],
dF (uO 33 (.build [.p (.int .i64 0),.p (.int .i64 0),.p (.str []),.p (.str []),.p (.int .i64 0)] [(0,1,(cI 1)),(1,1,25),(2,1,32)])) [25,32],
dA (uO 34 (.box 33)) [33] true [] [3,5],
dT (wO (.mupd (none,[2]) 21 23 34)) [21,23,34]] [])
(.seq (rg [mV 4 (cI 0)] [4])
.ret)))
.skip))
(.seq (.seq (rg [mV 35 5,
uO 36 (.isnil 0 false 35)] [0,3,5,36])
(.cond 36 (.seq (rg [mV 4 (cI 8)] [4])
.ret)
.skip))
(.seq (.seq (rg [fA 37 3 none 3,
lD 38 none 37] [0,3,5,38])
(.block 0 (.seq (rg [bN 40 .eql 38 (cI 2),
mV 39 40] [0,3,5,38,39])
(.cond 39 (.seq (rg [mV 41 0,
mV 42 5,
lD 43 (some 8) 3,
cL 44 z30 [41,42,43],
mV 4 44] [4])
.ret)
(.seq (.seq (rg [bN 46 .eql 38 (cI 3),
mV 45 46] [0,3,5,38,45])
(.cond 45 .skip
(rg [bN 47 .eql 38 (cI 4),
mV 45 47] [0,3,5,38,45])))
ziL)))))
ziN)))))
def z8F:AFun:=⟨2,[.t 4],ziK,false,false⟩
def ziP:ACode:=.pr [5,6,17,18,19] (rg [bN 59 .add 19 (cI 1),
mV 19 59] [5,6,17,18,19])
def ziQ:ACode:=.pr [5,6,17,18,19] (.seq (rg [bN 20 .lss 19 18] [5,6,17,18,19,20])
(.seq (.cond 20 .skip
(.exit 0))
(.seq (.block 1 (.seq (rg [mV 21 19,
iA 22 (some 8) 17 19,
lD 23 (some 8) 22,
uO 8 (.alloc [.p (.str []),.p (.int .i64 0),.p (.int .i64 0),.p (.int .i64 0),.p (.str []),.p (.str []),.p (.str []),.p (.int .i64 0)]),
mV 7 21,
wO (.store (some 8) 8 23)] [5,6,7,8,17,18,19])
(.seq (.seq (rg [mV 24 6,
mV 25 7,
iA 26 none 24 25,
lD 27 none 26,
uO 28 (.un .not 27),
mV 29 28,
gD 30 29 false (.faddr 3 none 8),
gD 31 29 false (.load none 30),
gD 32 29 false (.bin .eql 31 (cI 7)),
uO 33 (.pick 29 cT 32)] [5,6,7,8,17,18,19,33])
(.cond 33 (.exit 1)
.skip))
(.seq (rg [mV 34 5,
lD 35 (some 8) 8,
cL 36 z31 [34,35],
mV 9 36] [5,6,7,9,17,18,19])
(.seq (rg [mV 37 9,
bN 38 .neq 37 (cI 0)] [5,6,7,9,17,18,19,38])
(.cond 38 (.seq (rg [mV 39 5,
mV 40 5,
uO 41 (.nilchk 40),
fA 42 6 none 41,
lD 43 none 42,
mV 44 7,
uO 45 (.bsl false none 1 (.int .i64 0) [(0,44)]),
uO 46 (.app none 43 45),
uO 47 (.nilchk 39),
fA 48 6 none 47,
wO (.store none 48 46)] [5,6,9,17,18,19])
(rg [mV 49 5,
mV 50 5,
uO 51 (.nilchk 50),
fA 52 7 none 51,
lD 53 none 52,
mV 54 9,
uO 55 (.bsl false none 1 (.int .i64 0) [(0,54)]),
uO 56 (.app none 53 55),
uO 57 (.nilchk 49),
fA 58 7 none 57,
wO (.store none 58 56)] [5,6,17,18,19]))
.skip))))))
ziP)))
def ziR:ACode:=.pr [5] (.seq (rg [mV 60 5,
mV 4 60] [4])
.ret)
def ziO:ACode:=(.seq (rg [uO 2 (.uns 12 0 [0]),
mV 4 (.c (.nilp))] [1,2])
(.seq (rg [lD 10 (some 2) 2,
uO 11 (.mkmap),
uO 12 (.mkmap),
uO 13 (.build [.sl0 none,.p (.int .i64 0),.nilm,.nilm,.sl0 (some 5),.sl0 (some 3),.sl0 none,.sl0 none] [(0,2,10),(2,1,11),(3,1,12)]),
uO 14 (.uns 12 0 [13]),
mV 5 14] [1,5])
(.seq (rg [mV 15 1,
cL 16 z3v [15],
mV 6 16] [1,5,6])
(.seq (.seq (rg [mV 17 1,
lN 18 17,
mV 19 (cI 0)] [5,6,17,18,19])
(.block 0 (.loop (.scope ziQ))))
ziR))))
def z8G:AFun:=⟨2,[.t 4],ziO,false,false⟩
def ziS:ACode:=(.seq (rg [mV 2 (cI 0)] [0])
(.seq (.seq (rg [mV 3 0,
cL 4 oX [3],
uO 5 (.un .not 4)] [5])
(.cond 5 (.seq (rg [mV 2 (cI 1)] [2])
.ret)
.skip))
(.seq (rg [mV 2 (cI 0)] [2])
.ret)))
def z8H:AFun:=⟨1,[.t 2],ziS,false,false⟩
def ziU:ACode:=.pr [3,8,9,10] (.seq (rg [bN 11 .lss 10 9] [3,8,9,10,11])
(.seq (.cond 11 .skip
(.exit 0))
(.seq (.block 1 (.seq (rg [iA 12 (some 8) 8 10,
lD 13 (some 8) 12,
uO 5 (.alloc [.p (.str []),.p (.int .i64 0),.p (.int .i64 0),.p (.int .i64 0),.p (.str []),.p (.str []),.p (.str []),.p (.int .i64 0)]),
wO (.store (some 8) 5 13)] [3,5,8,9,10])
(.seq (rg [fA 14 0 none 5,
lD 15 none 14,
fA 16 1 none 5,
lD 17 none 16,
uO 18 (.build [.p (.str []),.p (.int .i64 0)] [(0,1,15),(1,1,17)]),
uO 6 (.alloc [.p (.str []),.p (.int .i64 0)]),
wO (.store (some 2) 6 18)] [3,6,8,9,10])
(.seq (.seq (rg [mV 19 3,
lD 20 (some 2) 6,
uO 21 (.look ((some 2),[2,0]) false (AB false) 19 20)] [3,6,8,9,10,21])
(.cond 21 (.seq (rg [mV 2 cT] [2])
.ret)
.skip))
(rg [mV 22 3,
lD 23 (some 2) 6,
wO (.mupd ((some 2),[2,0]) 22 23 cT)] [3,8,9,10])))))
(rg [bN 24 .add 10 (cI 1),
mV 10 24] [3,8,9,10]))))
def ziV:ACode:=.pr [] (.seq (rg [mV 2 cF] [2])
.ret)
def ziT:ACode:=(.seq (rg [mV 2 cF] [0])
(.seq (rg [uO 7 (.mkmap),
mV 3 7] [0,3])
(.seq (.seq (rg [mV 8 0,
lN 9 8,
mV 10 (cI 0)] [3,8,9,10])
(.block 0 (.loop (.scope ziU))))
ziV)))
def z8I:AFun:=⟨1,[.t 2],ziT,false,false⟩
def ziX:ACode:=.pr [0,1,5] (.seq (.seq (rg [mV 8 5,
bN 9 .gtr 8 (cI 0),
mV 10 9,
gD 11 10 true (.mv 0),
gD 12 10 true (.mv 5),
gD 13 10 true (.bin .sub 12 (cI 1)),
gD 14 10 true (.iaddr (some 8) 11 13),
gD 15 10 true (.faddr 2 none 14),
gD 16 10 true (.load none 15),
gD 17 10 true (.mv 1),
gD 18 10 true (.bin .gtr 16 17),
uO 19 (.pick 10 18 cF)] [0,1,5,19])
(.cond 19 .skip
(.exit 0)))
(.block 1 (rg [mV 20 5,
bN 21 .sub 20 (cI 1),
mV 5 21] [0,1,5])))
def ziY:ACode:=.pr [0,5] (.seq (rg [mV 22 0,
mV 23 5,
uO 24 (.slice (some 8) 22 none (some 23) none),
mV 4 24] [4])
.ret)
def ziW:ACode:=(.seq (rg [mV 4 (.c (.p (.sl (some 8) [])))] [0,1])
(.seq (rg [mV 6 0,
lN 7 6,
mV 5 7] [0,1,5])
(.seq (.block 0 (.loop ziX))
ziY)))
def z8J:AFun:=⟨2,[.t 4],ziW,false,false⟩
def ziZ:ACode:=(.seq (rg [mV 4 (cI 0)] [0,1])
(.seq (rg [mV 5 0,
mV 6 1,
cL 7 z3d [5,6],
mV 4 7] [4])
.ret))
def z8K:AFun:=⟨2,[.t 4],ziZ,false,false⟩
def zja:ACode:=(.seq (rg [mV 2 (cI 0),
mV 3 (cI 0)] [0])
(.seq (.seq (rg [mV 5 0,
cL 6 sG [5],
mV 4 6] [0,4])
(.seq (rg [mV 7 4,
bN 8 .neq 7 (cI 0)] [0,4,8])
(.cond 8 (.seq (rg [mV 9 4,
mV 2 (cI 0),
mV 3 9] [2,3])
.ret)
.skip)))
(.seq (rg [mV 10 0,
cL 11 QF [10,(.c (.nilp))],
uO 12 (.nilchk 11),
fA 13 37 none 12,
lD 14 none 13,
mV 2 14,
mV 3 (cI 0)] [2,3])
.ret)))
def z8L:AFun:=⟨1,[.t 2,.t 3],zja,false,false⟩
end Go.Am
end
section
/- The abstract machine,part L: functions of the library that are met by the kit's contracts: plain values in,plain values out,new memory at most. -/
set_option linter.unusedSimpArgs false
set_option linter.unusedVariables false
namespace Go.Am
variable {P:Program} {gl:Nat→Option PV}
structure PureRow (P:Program) (gl:Nat→Option PV) (f:Nat) (spec:List PV→Option AV):Prop where
 enter:∀us w,(callFunc f us).run P w = .ok (.enter f us) w
 run:∀(M:Mem) (w:World) (vs:List PV) (r:AV) (us:List Value),(∀b o v,M.c b o=some v→w.cell? ⟨b,o,none⟩=some v)→(∀b o,M.b b=some o→w.heap[b]?=some o)→QD gl M→vs.length=us.length →
  (∀(j:Nat) (y:PV) (v:Value),vs[j]?=some y→us[j]?=some v→RPV M y v)→spec vs=some r →
  Calls P f us.toArray w fun e w'=>∃x,e = .returned x∧WExt w w'∧RAV (LG M w w') [] [] r x
abbrev DF:=List (Nat × (List PV→Option AV))
def wH:DF→Nat→List AV→aA→Option (AV × aA × Esc)
 | [],_,_,_=>none
 | (g,s)::r,f,asv,h=>bif Nat.beq f g then((unp asv).bind s).map fun v=>(v,h,[]) else wH r f asv h
theorem KZ:∀ (gs:DF),(∀ g s,(g,s)∈gs→PureRow P gl g s)→∀ {f:Nat} {asv:List AV} {h:aA} {v:AV} {h':aA} {x:Esc},wH gs f asv h=some (v,h',x) →
 AC P gl f asv h fun v1 h1 x1=>v1=v∧h1=h'∧x1=x
 | [],_,f,asv,h,v,h',x,H=>by cases H
 | (g,s)::r,hg,f,asv,h,v,h',x,H=>by
  unfold wH at H;cases e1:Nat.beq f g with
  | false=>
   rw[e1]at H;exact KZ r (fun g sh hm=>hg g sh (by simp [hm])) H
  | true=>
   rw[e1]at H;have e:=Nat.eq_of_beq_eq_true e1
   subst e;have R:=hg f s (by simp)
   simp only[cond_true]at H;obtain⟨y,hy,e2⟩:=Option.map_eq_some_iff.1 H;simp only[Prod.mk.injEq]at e2;obtain⟨rfl,rfl,rfl⟩:=e2;obtain⟨ps,hps,hs⟩:=Option.bind_eq_some_iff.1 hy;have hm:=RL hps
   subst hm;intro μ w vs Hh Hg hl hr;refine .inl ⟨R.enter _,?_⟩;refine(R.run (imm h μ w) w ps y vs (fun b o v hv=>(LD.1 hv).2) (fun b o hv=>(mH.1 hv).2) Hg (by simpa using hl) (fun j q v hq hv=>(hr j (.p q) v (by simp [hq]) hv).p_inv) hs).mono fun e w' he=>?_
   obtain⟨u,rfl,g1,g2⟩:=he;obtain⟨n1,n2⟩:=Hh.ext g1;have Lq:(LG (imm h μ w) w w').le (imm h μ w'):=by
    refine⟨fun b o v hv=>?_,fun b o hv=>?_,rfl,fun _ _ h=>by cases h⟩
    ·dsimp only[LG]at hv
     split at hv
     ·exact n2.le.c _ _ _ hv
     ·rename_i hb
      exact LD.2 ⟨fun hO=>hb (WX Hh hO),hv⟩
    ·dsimp only[LG]at hv
     cases hv
   exact⟨_,_,_,μ,⟨rfl,rfl,rfl⟩,g2.evo ⟨Lq,Nat.zero_le _,fun id o m h1=>by simp at h1⟩,n1,n2,rA.refl h []⟩
def SF (gs:List (Nat × Sh))(ps:DF)(f:Nat)(asv:List AV)(h:aA):Option (AV×aA×Esc):=match oK gs f asv h with
 | some y=>some y
 | none=>match wH ps f asv h with
  | some y=>some y
  | none=>match oA h asv with
   | some (asv',h1)=>wH ps f asv' h1
   | none=>none
theorem zjt {ps:DF}(hp:∀ g s,(g,s)∈ps→PureRow P gl g s){f:Nat}{asv asv':List AV}{h h1:aA}{v:AV}{h':aA}{x:Esc}(hq:oA h asv=some (asv',h1))(H:wH ps f asv' h1=some (v,h',x)) :
 AC P gl f asv h fun v1 h2 x1=>v1=v∧h2=h'∧x1=x:=by
 intro μ w vs Hh Hg hl hr;obtain⟨q1,q2,q3⟩:=ZS asv Hh hl hr hq;rcases KZ ps hp H μ w vs q1.1 (Hg.mono q1.2.1.le) q2 q3 with⟨k1,k2⟩|⟨r,w',v2,h2,x2,μ',k1,k2,k3,k4,k5,k6⟩
 ·refine .inl ⟨k1,k2.mono fun e w' he=>?_⟩
  cases e with
  | returned r=>
   obtain⟨v2,h2,x2,μ',k2,k3,k4,k5,k6⟩:=he;exact⟨v2,h2,x2,μ',k2,k3,k4,q1.2.1.trans k5,by simpa using q1.2.2.trans k6⟩
  | panicked _=>exact he
  | outgrown=>exact he
 ·exact .inr ⟨r,w',v2,h2,x2,μ',k1,k2,k3,k4,q1.2.1.trans k5,by simpa using q1.2.2.trans k6⟩
theorem libF_ok {gs:List (Nat × Sh)}{ps:DF}(hg:∀ g sh,(g,sh)∈gs→GrowRow P g sh)(hp:∀ g s,(g,s)∈ps→PureRow P gl g s){f:Nat}{asv:List AV}{h:aA}{v:AV}{h':aA}{x:Esc}(H:SF gs ps f asv h=some (v,h',x)) :
 AC P gl f asv h fun v1 h1 x1=>v1=v∧h1=h'∧x1=x:=by
 unfold SF at H;split at H
 ·rename_i y hy
  cases H;exact z4s gs hg hy
 ·split at H
  ·rename_i y hy
   cases H;exact KZ ps hp hy
  ·split at H
   ·rename_i asv' h1 hq
    exact zjt hp hq H
   ·cases H
theorem PX {X:Ctx}{f:Nat}{asv:List AV}{h h':aA}{v:AV}{x:Esc}{K:jA}(hf:X.fn f=none)(hx:X.ex2 f asv h=some (v,h',x)):bA X f asv h K=K v h' x:=by
 refine propext (bA.eq (bA.fold ?_) K);unfold jC;simp only[hf,hx];exact⟨trivial,trivial,trivial⟩
def jR:List (Nat × Sh)→Nat→Option Sh
 | [],_=>none
 | (g,s)::r,f=>bif Nat.beq f g then some s else jR r f
theorem z4r:∀ {gs:List (Nat × Sh)} {f:Nat} {asv:List AV} {h:aA},jR gs f=none→oK gs f asv h=none
 | [],f,asv,h,_=>rfl
 | (g,s)::r,f,asv,h,hm=>by
  unfold jR at hm;unfold oK;cases hq:Nat.beq f g with
  | true=>rw[hq]at hm;cases hm
  | false=>rw[hq]at hm;exact z4r hm
def aT:DF→Nat→Option (List PV→Option AV)
 | [],_=>none
 | (g,s)::r,f=>bif Nat.beq f g then some s else aT r f
theorem z5s:∀ {gs:DF} {f:Nat} {s:List PV→Option AV} {asv:List AV} {h:aA},aT gs f=some s→wH gs f asv h=((unp asv).bind s).map fun v=>(v,h,[])
 | [],f,s,asv,h,hm=>by cases hm
 | (g,s')::r,f,s,asv,h,hm=>by
  unfold aT at hm;unfold wH;cases hq:Nat.beq f g with
  | true=>rw[hq]at hm;cases hm;rfl
  | false=>rw[hq]at hm;exact z5s hm
theorem z4A {gs:List (Nat × Sh)}{ps:DF}{f:Nat}{s:List PV→Option AV}{asv:List AV}{vs:List PV}{v:AV}{h:aA}(hg:jR gs f=none)(hm:aT ps f=some s)(hu:unp asv=some vs)(hv:s vs=some v):SF gs ps f asv h=some (v,h,[]):=by
 unfold SF;rw[z4r hg,z5s hm,hu];simp [hv]
def glOf:List (Nat × PV)→Nat→Option PV
 | [],_=>none
 | (g,v)::r,n=>bif Nat.beq n g then some v else glOf r n
theorem zne {f:Nat}(h:(match P.funcs[f]? with | some fn=>fn.body.isSome&&fn.name != "runtime.NumGoroutine" | none=>false)=true)(us:Array Value)(w:World):(callFunc f us).run P w = .ok (.enter f us) w:=by
 cases hf:P.funcs[f]? with
 | none=>rw[hf]at h;cases h
 | some fn=>
  rw[hf]at h;simp only[Bool.and_eq_true,bne_iff_ne,ne_eq]at h;cases hb:fn.body with
  | none=>rw[hb]at h;cases h.1
  | some c=>exact dX hf hb h.2 us w
theorem zng {M:Mem}:QD (glOf []) M:=fun n v hv=>by cases hv
def yH (s:List UInt8):Nat→List UInt8
 | 0=>[]
 | c+1=>s++yH s c
def yL:List PV→Option AV
 | [.str s,.int .i64 c]=>if 0≤c∧s.length*c.toNat≤1000000∧c≤1000000 then some (.p (.str (yH s c.toNat))) else none
 | _=>none
def PE (s cs:List UInt8):List UInt8:=(s.reverse.dropWhile (cs.contains ·)).reverse.dropWhile (cs.contains ·)
def trimS:List PV→Option AV
 | [.str s,.str cs]=>if s.length≤1000000∧cs.length≤1000∧cs.all (fun b=>decide (b.toNat<128))=true then some (.p (.str (PE s cs))) else none
 | _=>none
end Go.Am
end
section
/- The abstract machine,part C: QB calls that say true,asv contracts. -/
set_option linter.all false
namespace Go.Am
variable {P:Program} {gl:Nat→Option PV}
def z0r:List PV→Option AV
 | []=>some (AB true)
 | _=>none
theorem RPV.mono' {M M':Mem}(hM:∀ b o v,M.c b o=some v→M'.c b o=some v){v:PV}{x:Value}(H:RPV M v x):RPV M' v x:=by
 induction H with
 | int k n=>exact .int k n
 | bool b=>exact .bool b
 | str s=>exact .str s
 | nilp=>exact .nilp
 | unk k n=>exact .unk k n
 | nils sh a cap=>exact .nils sh a cap
 | sl sh xs b o cap f hne hc he hm hr ih=>exact .sl sh xs b o cap f hne hc he (fun j y hy=>hM _ _ _ (hm j y hy)) ih
 | agg cs vs hl hr ih=>exact .agg cs vs hl ih
theorem QD.mono' {M M':Mem}(hc:∀ b o v,M.c b o=some v→M'.c b o=some v)(hb:∀ b o,M.b b=some o→M'.b b=some o)(H:QD gl M):QD gl M':=fun n v hv=>by
 obtain⟨h1,cs,t,x,h2,h3⟩:=H n v hv;refine⟨?_,cs,t,x,hb _ _ h2,h3⟩;cases h1 with|vp _ _ _ f hm hr=>exact .vp v n 0 f (fun j y hy=>hc _ _ _ (hm j y hy)) (fun j y hy=>(hr j y hy).mono' hc)
theorem znh {X:Ctx}(HX:Fits P X){f:Nat}(H:bA X f [] [] fun v h x=>v=AB true∧h=[]∧x=[])(he:∀ us w,(callFunc f us).run P w = .ok (.enter f us) w):PureRow P X.gl f z0r:=by
 refine⟨he,fun M w vs r us hc hb hG hl hr hs=>?_⟩
 cases vs with
 | cons a l=>cases hs
 | nil=>
  have hu:us=[]:=List.length_eq_zero_iff.1 (by simpa using hl.symm)
  subst hu;simp only[z0r,Option.some.injEq]at hs;subst hs;have hno:∀b o,¬dG ([]:aA) ([]:Mu) b o:=fun b o ⟨id,n,h1,_⟩=>by simp at h1
  have hnt:∀b,¬hJ ([]:Mu) b:=fun b ⟨id,n,h1⟩=>by simp at h1
  have hG':QD X.gl (imm [] [] w):=hG.mono' (fun b o v h=>LD.2 ⟨hno b o,hc b o v h⟩) (fun b o h=>mH.2 ⟨hnt b,hb b o h⟩)
  have hR:HeapRel [] [] w:=⟨rfl,fun id o m h1=>by simp at h1,fun i j b n n' h1=>by simp at h1,fun i b n h1=>by simp at h1⟩
  rcases z11 HX H [] w [] hR hG' rfl (fun j y v h1=>by simp at h1) with⟨_,q⟩|⟨r,w',v,h',x,μ',q,_⟩
  ·refine q.mono fun e w' h=>?_
   cases e with
   | panicked _=>exact h.elim
   | outgrown=>exact h.elim
   | returned r=>
    obtain⟨v,h',x,μ',⟨rfl,rfl,rfl⟩,h1,h2,h3,h4⟩:=h;have hm:μ'=[]:=List.length_eq_zero_iff.1 (by simpa using h2.len)
    subst hm;have hbl:∀b o,w.heap[b]?=some o→w'.heap[b]?=some o:=fun b o h=>(mH.1 (h3.le.b b o (mH.2 ⟨hnt b,h⟩))).2
    refine⟨r,rfl,⟨?_,fun b hb=>?_,?_⟩,?_⟩
    ·rcases Nat.lt_or_ge w'.heap.size w.heap.size with q|q
     ·have:=hbl w'.heap.size _ (Array.getElem?_eq_getElem q)
      simp at this
     ·exact q
    ·rw[hbl b _ (Array.getElem?_eq_getElem hb),Array.getElem?_eq_getElem hb]
    ·have:=h3.le.z
     simpa [imm] using this
    ·have:=h1.p_bool
     rw[this];exact .p _ _ (.bool true)
  ·rw[he]at q
   cases q
end Go.Am
end
