/- Texts of the proof, laid together: CodesC, CodesD, CodesE, AmL, AmC. -/
import Derived.KernelRfl
import Derived.Test.YthlhdniejglcnaaGreatDoorlawPR5
set_option linter.all false
section
/- The functions asv abstract code,and asv formulas over their values: printed by program out of the translation. -/
set_option linter.all false
set_option maxRecDepth 100000
namespace Go.Am
def kM:ACode:=.pr [0,5,6,7] (.seq (rg [bN 8 .lss 7 6] [0,5,6,7,8])
(.seq (.cond 8 .skip
(.exit 0))
(.seq (.block 1 (rg [mV 9 5,
mV 10 0,
uO 11 (.bsl false none 2 (.str []) [(0,(cS [48])),(1,(cS [49]))]),
cL 12 AE [10,11],
bN 13 .add 9 12,
mV 5 13] [0,5,6,7]))
(rg [bN 14 .add 7 (cI 1),
mV 7 14] [0,5,6,7]))))
def z1k (C:Hd)(gl:GL)(e:En)(h:aA)(x:Esc)(K:KT):Sf C gl kM e h x K:=⟨_,by simp only[kM,↓wZ,AO.still];rfl⟩
theorem zh5 {C gl e h x K}:NW C gl kM ⟨e,h,x⟩ K=(z1k C gl e h x K).1:=(z1k C gl e h x K).2
theorem zlB {C gl e h x K}:NW C gl (.loop kM) ⟨e,h,x⟩ K=NA C gl kM K [(0,eA e 0),(5,eA e 5),(6,eA e 6),(7,eA e 7)] h x:=MB
def cV:ACode:=.pr [5] (.seq (rg [mV 15 5,
mV 4 15] [4])
.ret)
def z1l (C:Hd)(gl:GL)(e:En)(h:aA)(x:Esc)(K:KT):Sf C gl cV e h x K:=⟨_,by simp only[cV,↓wZ,AO.still];rfl⟩
theorem zh6 {C gl e h x K}:NW C gl cV ⟨e,h,x⟩ K=(z1l C gl e h x K).1:=(z1l C gl e h x K).2
def z3G:ACode:=(.seq (rg [mV 4 (cS [])] [0,1])
(.seq (rg [mV 5 (cS [])] [0,1,5])
(.seq (.seq (rg [mV 6 1,
mV 7 (cI 0)] [0,5,6,7])
(.block 0 (.loop kM)))
cV)))
def zY:AFun:=⟨2,[.t 4],z3G,false,false⟩
def oS (C:Hd)(gl:GL)(e:En)(h:aA)(x:Esc)(K:KT):Sf C gl z3G e h x K:=⟨_,by simp only[z3G,↓wZ,AO.still];rfl⟩
theorem zh4 {C gl v0 v1 h x K}:NW C gl zY.body ⟨enter [v0,v1],h,x⟩ K=(oS C gl [(0,v0),(1,v1)] h x K).1:=(oS C gl [(0,v0),(1,v1)] h x K).2
def z3C:ACode:=(.seq (rg [mV 6 (cI 0)] [0,1,2])
(.seq (.seq (rg [mV 7 0,
cL 8 nE [7,(cI 12)]] [0,1,2,8])
(.cond 8 (.seq (rg [mV 9 0,
mV 10 1,
bN 11 .sub 10 (cI 1),
mV 12 2,
bN 13 .add 12 (cI 1),
mV 14 1,
mV 15 2,
uO 16 (.bsl false none 6 (.int .i64 0) [(0,11),(1,13),(2,14),(3,15),(4,(cI (-1099511627776))),(5,(cI 1099511627776))]),
cL 17 JC [9,16],
mV 6 17] [6])
.ret)
.skip))
(.seq (rg [mV 18 0,
mV 19 1,
mV 20 2,
cL 21 UF [18,19,20],
mV 6 21] [6])
.ret)))
def vY:AFun:=⟨3,[.t 6],z3C,false,false⟩
def lO (C:Hd)(gl:GL)(e:En)(h:aA)(x:Esc)(K:KT):Sf C gl z3C e h x K:=⟨_,by simp only[z3C,↓wZ,AO.still];rfl⟩
theorem zh0 {C gl v0 v1 v2 h x K}:NW C gl vY.body ⟨enter [v0,v1,v2],h,x⟩ K=(lO C gl [(0,v0),(1,v1),(2,v2)] h x K).1:=(lO C gl [(0,v0),(1,v1),(2,v2)] h x K).2
def XL:ACode:=.pr [5,6,7] (.seq (rg [bN 8 .lss 7 6] [5,6,7,8])
(.seq (.cond 8 .skip
(.exit 0))
(.seq (.block 1 (.seq (rg [iA 9 none 5 7,
lD 10 none 9,
mV 4 10] [4,5,6,7])
(.seq (rg [mV 11 4,
bN 12 .neq 11 (cI 0)] [4,5,6,7,12])
(.cond 12 (.seq (rg [mV 13 4,
mV 2 13] [2])
.ret)
.skip))))
(rg [bN 14 .add 7 (cI 1),
mV 7 14] [5,6,7]))))
def z0I (C:Hd)(gl:GL)(e:En)(h:aA)(x:Esc)(K:KT):Sf C gl XL e h x K:=⟨_,by simp only[XL,↓wZ,AO.still];rfl⟩
theorem zgI {C gl e h x K}:NW C gl XL ⟨e,h,x⟩ K=(z0I C gl e h x K).1:=(z0I C gl e h x K).2
theorem zlz {C gl e h x K}:NW C gl (.loop XL) ⟨e,h,x⟩ K=NA C gl XL K [(5,eA e 5),(6,eA e 6),(7,eA e 7)] h x:=MB
def JU:ACode:=.pr [] (.seq (rg [mV 2 (cI 0)] [2])
.ret)
def z0J (C:Hd)(gl:GL)(e:En)(h:aA)(x:Esc)(K:KT):Sf C gl JU e h x K:=⟨_,by simp only[JU,↓wZ,AO.still];rfl⟩
theorem zgJ {C gl e h x K}:NW C gl JU ⟨e,h,x⟩ K=(z0J C gl e h x K).1:=(z0J C gl e h x K).2
def z3u:ACode:=(.seq (rg [mV 2 (cI 0)] [0])
(.seq (.seq (rg [mV 5 0,
lN 6 5,
mV 7 (cI 0)] [5,6,7])
(.block 0 (.loop XL)))
JU))
def dY:AFun:=⟨1,[.t 2],z3u,false,false⟩
def ZR (C:Hd)(gl:GL)(e:En)(h:aA)(x:Esc)(K:KT):Sf C gl z3u e h x K:=⟨_,by simp only[z3u,↓wZ,AO.still];rfl⟩
theorem zgH {C gl v0 h x K}:NW C gl dY.body ⟨enter [v0],h,x⟩ K=(ZR C gl [(0,v0)] h x K).1:=(ZR C gl [(0,v0)] h x K).2
def OM:ACode:=.pr [0,14,15,16] (.seq (rg [bN 17 .lss 16 15] [0,14,15,16,17])
(.seq (.cond 17 .skip
(.exit 1))
(.seq (.block 2 (.seq (rg [mV 18 16,
iA 19 (some 5) 14 16,
lD 20 (some 5) 19,
uO 4 (.alloc [.p (.str []),.p (.int .i64 0),.p (.int .i64 0),.sl0 (some 2),.sl0 (some 2)]),
mV 3 18,
wO (.store (some 5) 4 20)] [0,3,4,14,15,16])
(.seq (dr [dF (lD 21 (some 5) 4) [4],
dF (mV 22 0) [0],
dF (mV 23 3) [3],
dF (uO 24 (.slice (some 5) 22 none (some 23) none)) [22,23],
dT (cL 25 bQ [21,24]) [21,24],
dF (mV 5 25) [25]] [0,5,14,15,16])
(.seq (rg [mV 26 5,
bN 27 .neq 26 (cI 0)] [0,5,14,15,16,27])
(.cond 27 (.seq (rg [mV 28 5,
mV 2 28] [2])
.ret)
.skip)))))
(rg [bN 29 .add 16 (cI 1),
mV 16 29] [0,14,15,16]))))
def QK (C:Hd)(gl:GL)(e:En)(h:aA)(x:Esc)(K:KT):Sf C gl OM e h x K:=⟨_,by simp only[OM,↓wZ,AO.still];rfl⟩
theorem ZT {C gl e h x K}:NW C gl OM ⟨e,h,x⟩ K=(QK C gl e h x K).1:=(QK C gl e h x K).2
theorem zmh {C gl e h x K}:NW C gl (.loop (.scope OM)) ⟨e,h,x⟩ K=NA C gl (.scope OM) K [(0,eA e 0),(14,eA e 14),(15,eA e 15),(16,eA e 16)] h x:=fC
def fW:ACode:=.pr [] (.seq (rg [mV 2 (cI 0)] [2])
.ret)
def nT (C:Hd)(gl:GL)(e:En)(h:aA)(x:Esc)(K:KT):Sf C gl fW e h x K:=⟨_,by simp only[fW,↓wZ,AO.still];rfl⟩
theorem z8A {C gl e h x K}:NW C gl fW ⟨e,h,x⟩ K=(nT C gl e h x K).1:=(nT C gl e h x K).2
def z4D:ACode:=(.seq (rg [mV 2 (cI 0)] [0])
(.seq (.block 0 (.seq (rg [mV 7 0,
lN 8 7,
bN 9 .eql 8 (cI 0),
mV 6 9] [0,6])
(.cond 6 (.seq (rg [mV 2 (cI 8)] [2])
.ret)
(.seq (rg [mV 11 0,
lN 12 11,
bN 13 .gtr 12 (cI 20),
mV 10 13] [0,10])
(.cond 10 (.seq (rg [mV 2 (cI 2)] [2])
.ret)
.skip)))))
(.seq (.seq (rg [mV 14 0,
lN 15 14,
mV 16 (cI 0)] [0,14,15,16])
(.block 1 (.loop (.scope OM))))
fW)))
def FZ:AFun:=⟨1,[.t 2],z4D,false,false⟩
def PK (C:Hd)(gl:GL)(e:En)(h:aA)(x:Esc)(K:KT):Sf C gl z4D e h x K:=⟨_,by simp only[z4D,↓wZ,AO.still];rfl⟩
theorem zjn {C gl v0 h x K}:NW C gl FZ.body ⟨enter [v0],h,x⟩ K=(PK C gl [(0,v0)] h x K).1:=(PK C gl [(0,v0)] h x K).2
def kW:ACode:=.pr [1,2,8,10,46,47] (rg [bN 73 .add 47 (cI 1),
mV 47 73] [1,2,8,10,46,47])
def z1R (C:Hd)(gl:GL)(e:En)(h:aA)(x:Esc)(K:KT):Sf C gl kW e h x K:=⟨_,by simp only[kW,↓wZ,AO.still];rfl⟩
theorem zjr {C gl e h x K}:NW C gl kW ⟨e,h,x⟩ K=(z1R C gl e h x K).1:=(z1R C gl e h x K).2
def RM:ACode:=.pr [1,2,8,10,46,47] (.seq (rg [bN 48 .lss 47 46] [1,2,8,10,46,47,48])
(.seq (.cond 48 .skip
(.exit 1))
(.seq (.block 2 (.seq (rg [mV 49 47,
mV 11 49] [1,2,8,10,11,46,47])
(.seq (dr [dF (mV 50 8) [8],
dF (mV 51 1) [1],
dF (mV 52 11) [11],
dF (uO 53 (.idxs 51 52)) [51,52],
dF (bN 54 .sub 53 (.c (.p (.int .u8 48)))) [53],
dF (uO 55 (.conv (.i .i64) 54)) [54],
dF (mV 56 2) [2],
dF (mV 57 11) [11],
dF (uO 58 (.idxs 56 57)) [56,57],
dF (bN 59 .sub 58 (.c (.p (.int .u8 48)))) [58],
dF (uO 60 (.conv (.i .i64) 59)) [59],
dT (cL 61 XP [50,55,60]) [50,55,60],
dF (mV 12 61) [61]] [1,2,8,10,12,46,47])
(.seq (rg [mV 62 12,
bN 63 .lss 62 (cI 0)] [1,2,8,10,12,46,47,63])
(.cond 63 (rg [mV 64 10,
uO 65 (.bsl false none 1 (.int .u8 0) [(0,(.c (.p (.int .u8 122))))]),
uO 66 (.app none 64 65),
mV 10 66] [1,2,8,10,46,47])
(rg [mV 67 10,
mV 68 12,
bN 69 .add (cI 48) 68,
uO 70 (.conv (.i .u8) 69),
uO 71 (.bsl false none 1 (.int .u8 0) [(0,70)]),
uO 72 (.app none 67 71),
mV 10 72] [1,2,8,10,46,47]))))))
kW)))
def SK (C:Hd)(gl:GL)(e:En)(h:aA)(x:Esc)(K:KT):Sf C gl RM e h x K:=⟨_,by simp only[RM,↓wZ,AO.still];rfl⟩
theorem bU {C gl e h x K}:NW C gl RM ⟨e,h,x⟩ K=(SK C gl e h x K).1:=(SK C gl e h x K).2
theorem zmk {C gl e h x K}:NW C gl (.loop (.scope RM)) ⟨e,h,x⟩ K=NA C gl (.scope RM) K [(1,eA e 1),(2,eA e 2),(8,eA e 8),(10,eA e 10),(46,eA e 46),(47,eA e 47)] h x:=fC
def mW:ACode:=.pr [10] (.seq (rg [mV 74 10,
uO 75 (.conv .b2s 74),
mV 6 75,
mV 7 (cI 0)] [6,7])
.ret)
def z1S (C:Hd)(gl:GL)(e:En)(h:aA)(x:Esc)(K:KT):Sf C gl mW e h x K:=⟨_,by simp only[mW,↓wZ,AO.still];rfl⟩
theorem zjs {C gl e h x K}:NW C gl mW ⟨e,h,x⟩ K=(z1S C gl e h x K).1:=(z1S C gl e h x K).2
def z4G:ACode:=(.seq (rg [mV 6 (cS []),
mV 7 (cI 0)] [0,1,2])
(.seq (rg [mV 14 0,
cL 15 YP [14],
mV 13 15,
eX 16 13 0,
eX 17 13 1,
mV 8 16,
mV 9 17] [1,2,8,9])
(.seq (.seq (rg [mV 18 9,
bN 19 .neq 18 (cI 0)] [1,2,8,9,19])
(.cond 19 (.seq (rg [mV 20 9,
mV 6 (cS []),
mV 7 20] [6,7])
.ret)
.skip))
(.seq (.block 0 (.seq (rg [mV 22 1,
uO 23 (.lens 22),
bN 24 .gtr 23 (cI 20000),
mV 25 24,
gD 26 25 false (.mv 2),
gD 27 25 false (.lens 26),
gD 28 25 false (.bin .gtr 27 (cI 20000)),
uO 29 (.pick 25 cT 28),
mV 21 29] [1,2,8,21])
(.cond 21 (.seq (rg [mV 6 (cS []),
mV 7 (cI 2)] [6,7])
.ret)
(.seq (rg [mV 31 1,
uO 32 (.lens 31),
mV 33 2,
uO 34 (.lens 33),
bN 35 .neq 32 34,
mV 30 35] [1,2,8,30])
(.cond 30 (.seq (rg [mV 6 (cS []),
mV 7 (cI 3)] [6,7])
.ret)
(.seq (rg [mV 37 1,
cL 38 SF [37],
uO 39 (.un .not 38),
mV 40 39,
gD 41 40 false (.mv 2),
gD 42 40 false (.call SF [41]),
gD 43 40 false (.un .not 42),
uO 44 (.pick 40 cT 43),
mV 36 44] [1,2,8,36])
(.cond 36 (.seq (rg [mV 6 (cS []),
mV 7 (cI 9)] [6,7])
.ret)
.skip)))))))
(.seq (rg [uO 10 (.new0 none)] [1,2,8,10])
(.seq (.seq (rg [mV 45 1,
uO 46 (.lens 45),
mV 47 (cI 0)] [1,2,8,10,46,47])
(.block 1 (.loop (.scope RM))))
mW))))))
def JZ:AFun:=⟨3,[.t 6,.t 7],z4G,false,false⟩
def qT (C:Hd)(gl:GL)(e:En)(h:aA)(x:Esc)(K:KT):Sf C gl z4G e h x K:=⟨_,by simp only[z4G,↓wZ,AO.still];rfl⟩
theorem zjq {C gl v0 v1 v2 h x K}:NW C gl JZ.body ⟨enter [v0,v1,v2],h,x⟩ K=(qT C gl [(0,v0),(1,v1),(2,v2)] h x K).1:=(qT C gl [(0,v0),(1,v1),(2,v2)] h x K).2
def z4A:ACode:=(.seq (rg [mV 4 (cI 0)] [0,1])
(.seq (rg [mV 5 0,
mV 6 1,
cL 7 MH [5,6],
mV 4 7] [4])
.ret))
def CZ:AFun:=⟨2,[.t 4],z4A,false,false⟩
def kT (C:Hd)(gl:GL)(e:En)(h:aA)(x:Esc)(K:KT):Sf C gl z4A e h x K:=⟨_,by simp only[z4A,↓wZ,AO.still];rfl⟩
theorem zjj {C gl v0 v1 h x K}:NW C gl CZ.body ⟨enter [v0,v1],h,x⟩ K=(kT C gl [(0,v0),(1,v1)] h x K).1:=(kT C gl [(0,v0),(1,v1)] h x K).2
def z4v:ACode:=(.seq (rg [mV 4 cF] [0,1])
(.seq (rg [mV 5 0,
mV 6 1,
cL 7 vL [5,6],
bN 8 .geq 7 (cI 0),
mV 4 8] [4])
.ret))
def nZ:AFun:=⟨2,[.t 4],z4v,true,false⟩
def WS (C:Hd)(gl:GL)(e:En)(h:aA)(x:Esc)(K:KT):Sf C gl z4v e h x K:=⟨_,by simp only[z4v,↓wZ,AO.still];rfl⟩
theorem ziH {C gl v0 v1 h x K}:NW C gl nZ.body ⟨enter [v0,v1],h,x⟩ K=(WS C gl [(0,v0),(1,v1)] h x K).1:=(WS C gl [(0,v0),(1,v1)] h x K).2
def z3Z:ACode:=(.seq (rg [uO 2 (.box 0),
mV 3 cF] [1,2])
(.seq (rg [fA 4 0 none 2,
lD 5 none 4,
fA 6 0 none 1,
lD 7 none 6,
bN 8 .eql 5 7,
mV 3 8] [3])
.ret))
def SY:AFun:=⟨2,[.t 3],z3Z,false,false⟩
def BS (C:Hd)(gl:GL)(e:En)(h:aA)(x:Esc)(K:KT):Sf C gl z3Z e h x K:=⟨_,by simp only[z3Z,↓wZ,AO.still];rfl⟩
theorem zib {C gl v0 v1 h x K}:NW C gl SY.body ⟨enter [v0,v1],h,x⟩ K=(BS C gl [(0,v0),(1,v1)] h x K).1:=(BS C gl [(0,v0),(1,v1)] h x K).2
def z3V:ACode:=(.seq (rg [uO 2 (.box 0),
mV 4 (cI 0)] [1,2])
(.seq (rg [fA 7 4 none 2,
lD 8 none 7,
mV 9 1,
iA 10 (some 2) 8 9,
lD 11 (some 2) 10,
uO 5 (.alloc [.p (.str []),.p (.str [])]),
wO (.store (some 2) 5 11)] [1,2,5])
(.seq (rg [fA 12 3 none 2,
lD 13 none 12,
uO 14 (.mkfn GP [5]),
cL 15 lJ [13,14],
mV 6 15] [1,2,5,6])
(.seq (.block 0 (.seq (rg [fA 17 0 none 5,
lD 18 none 17,
uO 19 (.lens 18),
fA 20 1 none 2,
lD 21 none 20,
bN 22 .neq 19 21,
mV 16 22] [1,2,5,6,16])
(.cond 16 (.seq (rg [mV 4 (cI 3)] [4])
.ret)
(.seq (rg [fA 24 0 none 5,
lD 25 none 24,
cL 26 vP [25],
bN 27 .neq 26 (cI 0),
mV 23 27] [1,2,5,6,23])
(.cond 23 (.seq (rg [mV 4 (cI 9)] [4])
.ret)
(.seq (rg [fA 29 0 none 5,
lD 30 none 29,
cL 31 xL [30,(cS [48])],
uO 32 (.un .not 31),
mV 28 32] [1,2,5,6,28])
(.cond 28 (.seq (rg [mV 4 (cI 16)] [4])
.ret)
(.seq (rg [fA 34 4 none 2,
lD 35 none 34,
mV 36 1,
uO 37 (.slice (some 2) 35 none (some 36) none),
uO 38 (.mkfn HP [5]),
cL 39 sL [37,38],
mV 33 39] [2,5,6,33])
(.cond 33 (.seq (rg [mV 4 (cI 6)] [4])
.ret)
(.seq (rg [fA 41 1 none 5,
lD 42 none 41,
bN 43 .eql 42 (cS [98,121,112,97,115,115]),
mV 44 43,
gD 45 44 false (.faddr 1 none 5),
gD 46 44 false (.load none 45),
gD 47 44 false (.bin .eql 46 (cS [105,100,99,111,100,101])),
gD 48 44 false (.mv 47),
gD 49 48 true (.faddr 2 none 2),
gD 50 48 true (.load none 49),
gD 51 48 true (.bin .neq 50 (cI 0)),
gD 52 44 false (.pick 48 51 cF),
uO 53 (.pick 44 cT 52),
mV 54 53,
gD 55 54 false (.mv 6),
uO 56 (.pick 54 cT 55),
mV 40 56] [40])
(.cond 40 (.seq (rg [mV 4 (cI 0)] [4])
.ret)
.skip)))))))))))
(.seq (rg [mV 4 (cI 8)] [4])
.ret)))))
def OY:AFun:=⟨2,[.t 4],z3V,false,false⟩
def VE (C:Hd)(gl:GL)(e:En)(h:aA)(x:Esc)(K:KT):Sf C gl z3V e h x K:=⟨_,by simp only[z3V,↓wZ,AO.still];rfl⟩
theorem zhX {C gl v0 v1 h x K}:NW C gl OY.body ⟨enter [v0,v1],h,x⟩ K=(VE C gl [(0,v0),(1,v1)] h x K).1:=(VE C gl [(0,v0),(1,v1)] h x K).2
def z4p:ACode:=(.seq (rg [mV 2 cF] [0])
(.seq (rg [uO 3 (.bsl false none 4 (.int .i64 0) [(0,(cI 0)),(1,(cI 1)),(2,(cI 6)),(3,(cI 13))]),
mV 4 0,
cL 5 mJ [3,4],
mV 2 5] [2])
.ret))
def hZ:AFun:=⟨1,[.t 2],z4p,false,false⟩
def QS (C:Hd)(gl:GL)(e:En)(h:aA)(x:Esc)(K:KT):Sf C gl z4p e h x K:=⟨_,by simp only[z4p,↓wZ,AO.still];rfl⟩
theorem ziB {C gl v0 h x K}:NW C gl hZ.body ⟨enter [v0],h,x⟩ K=(QS C gl [(0,v0)] h x K).1:=(QS C gl [(0,v0)] h x K).2
def z4j:ACode:=(.seq (rg [mV 6 cF] [0,1,2])
(.seq (rg [mV 7 1,
mV 8 0,
bN 9 .leq 7 8,
mV 10 9,
gD 11 10 true (.mv 0),
gD 12 10 true (.mv 2),
gD 13 10 true (.bin .leq 11 12),
uO 14 (.pick 10 13 cF),
mV 6 14] [6])
.ret))
def bZ:AFun:=⟨3,[.t 6],z4j,false,false⟩
def MS (C:Hd)(gl:GL)(e:En)(h:aA)(x:Esc)(K:KT):Sf C gl z4j e h x K:=⟨_,by simp only[z4j,↓wZ,AO.still];rfl⟩
theorem ziy {C gl v0 v1 v2 h x K}:NW C gl bZ.body ⟨enter [v0,v1,v2],h,x⟩ K=(MS C gl [(0,v0),(1,v1),(2,v2)] h x K).1:=(MS C gl [(0,v0),(1,v1),(2,v2)] h x K).2
def z4o:ACode:=(.seq (rg [uO 1 (.box 0),
mV 2 (cI 0)] [1])
(.seq (.block 0 (.seq (rg [fA 4 3 none 1,
lD 5 none 4,
bN 6 .eql 5 (cS []),
mV 3 6] [1,3])
(.cond 3 (.seq (rg [mV 2 (cI 8)] [2])
.ret)
(.seq (rg [fA 8 3 none 1,
lD 9 none 8,
cL 10 RG [9],
uO 11 (.un .not 10),
mV 7 11] [1,7])
(.cond 7 (.seq (rg [mV 2 (cI 9)] [2])
.ret)
(.seq (rg [fA 13 3 none 1,
lD 14 none 13,
uO 15 (.lens 14),
bN 16 .gtr 15 (cI 2000),
mV 12 16] [1,12])
(.cond 12 (.seq (rg [mV 2 (cI 2)] [2])
.ret)
(.seq (rg [fA 18 4 none 1,
lD 19 none 18,
bN 20 .neq 19 (cS []),
mV 21 20,
gD 22 21 true (.faddr 4 none 1),
gD 23 21 true (.load none 22),
gD 24 21 true (.lens 23),
gD 25 21 true (.faddr 3 none 1),
gD 26 21 true (.load none 25),
gD 27 21 true (.lens 26),
gD 28 21 true (.bin .neq 24 27),
gD 29 21 true (.mv 28),
gD 30 29 false (.faddr 5 none 1),
gD 31 29 false (.load none 30),
gD 32 29 false (.lens 31),
gD 33 29 false (.faddr 3 none 1),
gD 34 29 false (.load none 33),
gD 35 29 false (.lens 34),
gD 36 29 false (.bin .neq 32 35),
gD 37 21 true (.pick 29 cT 36),
uO 38 (.pick 21 37 cF),
mV 17 38] [1,17])
(.cond 17 (.seq (rg [mV 2 (cI 3)] [2])
.ret)
(.seq (rg [fA 40 4 none 1,
lD 41 none 40,
cL 42 RG [41],
uO 43 (.un .not 42),
mV 44 43,
gD 45 44 false (.faddr 5 none 1),
gD 46 44 false (.load none 45),
gD 47 44 false (.call RG [46]),
gD 48 44 false (.un .not 47),
uO 49 (.pick 44 cT 48),
mV 39 49] [1,39])
(.cond 39 (.seq (rg [mV 2 (cI 9)] [2])
.ret)
(.seq (rg [fA 51 4 none 1,
lD 52 none 51,
bN 53 .eql 52 (cS []),
mV 54 53,
gD 55 54 true (.faddr 5 none 1),
gD 56 54 true (.load none 55),
gD 57 54 true (.bin .neq 56 (cS [])),
uO 58 (.pick 54 57 cF),
mV 50 58] [50])
(.cond 50 (.seq (rg [mV 2 (cI 3)] [2])
.ret)
.skip)))))))))))))
(.seq (rg [mV 2 (cI 0)] [2])
.ret)))
def gZ:AFun:=⟨1,[.t 2],z4o,false,false⟩
def vE (C:Hd)(gl:GL)(e:En)(h:aA)(x:Esc)(K:KT):Sf C gl z4o e h x K:=⟨_,by simp only[z4o,↓wZ,AO.still];rfl⟩
theorem ziA {C gl v0 h x K}:NW C gl gZ.body ⟨enter [v0],h,x⟩ K=(vE C gl [(0,v0)] h x K).1:=(vE C gl [(0,v0)] h x K).2
def HJ:ACode:=.pr [3,5,17,18,19,33,34,35] (.seq (rg [bN 36 .lss 35 34] [3,5,17,18,19,33,34,35,36])
(.seq (.cond 36 .skip
(.exit 2))
(.seq (.block 3 (.seq (rg [iA 37 (some 2) 33 35,
lD 38 (some 2) 37,
uO 7 (.alloc [.p (.str []),.p (.int .i64 0)]),
wO (.store (some 2) 7 38)] [3,5,7,17,18,19,33,34,35])
(.seq (rg [fA 39 1 none 7,
lD 40 none 39,
cL 41 PB [(cS [48]),40],
mV 8 41] [3,5,7,8,17,18,19,33,34,35])
(dr [dF (mV 42 3) [3],
dF (uO 43 (.nilchk 42)) [42],
dF (fA 44 4 none 43) [43],
dF (lD 45 none 44) [44],
dF (fA 46 0 none 5) [5],
dF (lD 47 none 46) [46],
dF (fA 48 0 none 7) [7],
dF (lD 49 none 48) [48],
dF (uO 50 (.build [.p (.str []),.p (.str [])] [(0,1,47),(1,1,49)])) [47,49],
dF (mV 51 3) [3],
dF (uO 52 (.nilchk 51)) [51],
dF (fA 53 5 none 52) [52],
dF (lD 54 none 53) [53],
dF (fA 55 0 none 5) [5],
dF (lD 56 none 55) [55],
dF (fA 57 0 none 7) [7],
dF (lD 58 none 57) [57],
dF (uO 59 (.build [.p (.str []),.p (.str [])] [(0,1,56),(1,1,58)])) [56,58],
dF (mV 60 8) [8],
dF (mV 61 8) [8],
dA (uO 62 (.ment ((some 2),[2,2]) (.p (.str [])) 45 50)) [45,50] true [] [14,16],
dF (eX 63 62 1) [62],
dA (wO (.estore 45 63 60)) [45,63,60] true [] [14,16],
dT (uO 64 (.ment ((some 2),[2,2]) (.p (.str [])) 54 59)) [54,59],
dF (eX 65 64 1) [64],
dT (wO (.estore 54 65 61)) [54,65,61]] [3,5,17,18,19,33,34,35]))))
(rg [bN 66 .add 35 (cI 1),
mV 35 66] [3,5,17,18,19,33,34,35]))))
def AK (C:Hd)(gl:GL)(e:En)(h:aA)(x:Esc)(K:KT):Sf C gl HJ e h x K:=⟨_,by simp only[HJ,↓wZ,AO.still];rfl⟩
theorem TT {C gl e h x K}:NW C gl HJ ⟨e,h,x⟩ K=(AK C gl e h x K).1:=(AK C gl e h x K).2
theorem zlD {C gl e h x K}:NW C gl (.loop (.scope HJ)) ⟨e,h,x⟩ K=NA C gl (.scope HJ) K [(3,eA e 3),(5,eA e 5),(17,eA e 17),(18,eA e 18),(19,eA e 19),(33,eA e 33),(34,eA e 34),(35,eA e 35)] h x:=fC
def eV:ACode:=.pr [3,17,18,19] (rg [bN 67 .add 19 (cI 1),
mV 19 67] [3,17,18,19])
def nO (C:Hd)(gl:GL)(e:En)(h:aA)(x:Esc)(K:KT):Sf C gl eV e h x K:=⟨_,by simp only[eV,↓wZ,AO.still];rfl⟩
theorem z2o {C gl e h x K}:NW C gl eV ⟨e,h,x⟩ K=(nO C gl e h x K).1:=(nO C gl e h x K).2
def mM:ACode:=.pr [3,17,18,19] (.seq (rg [bN 20 .lss 19 18] [3,17,18,19,20])
(.seq (.cond 20 .skip
(.exit 0))
(.seq (.block 1 (.seq (rg [iA 21 (some 5) 17 19,
lD 22 (some 5) 21,
uO 5 (.alloc [.p (.str []),.p (.int .i64 0),.p (.int .i64 0),.sl0 (some 2),.sl0 (some 2)]),
wO (.store (some 5) 5 22)] [3,5,17,18,19])
(.seq (rg [mV 23 3,
mV 24 3,
uO 25 (.nilchk 24),
fA 26 3 none 25,
lD 27 none 26,
uO 28 (.bsl false none 1 (.str []) [(0,(cS [48]))]),
uO 29 (.app none 27 28),
uO 30 (.nilchk 23),
fA 31 3 none 30,
wO (.store none 31 29)] [3,5,17,18,19])
(.seq (rg [fA 32 3 none 5,
lD 33 none 32,
lN 34 33,
mV 35 (cI 0)] [3,5,17,18,19,33,34,35])
(.block 2 (.loop (.scope HJ)))))))
eV)))
def BK (C:Hd)(gl:GL)(e:En)(h:aA)(x:Esc)(K:KT):Sf C gl mM e h x K:=⟨_,by simp only[mM,↓wZ,AO.still];rfl⟩
theorem UT {C gl e h x K}:NW C gl mM ⟨e,h,x⟩ K=(BK C gl e h x K).1:=(BK C gl e h x K).2
theorem zlE {C gl e h x K}:NW C gl (.loop (.scope mM)) ⟨e,h,x⟩ K=NA C gl (.scope mM) K [(3,eA e 3),(17,eA e 17),(18,eA e 18),(19,eA e 19)] h x:=fC
def fV:ACode:=.pr [3] (.seq (rg [mV 68 3,
mV 2 68] [2])
.ret)
def oO (C:Hd)(gl:GL)(e:En)(h:aA)(x:Esc)(K:KT):Sf C gl fV e h x K:=⟨_,by simp only[fV,↓wZ,AO.still];rfl⟩
theorem z2p {C gl e h x K}:NW C gl fV ⟨e,h,x⟩ K=(oO C gl e h x K).1:=(oO C gl e h x K).2
def z3L:ACode:=(.seq (rg [mV 2 (.c (.nilp))] [0])
(.seq (rg [mV 9 0,
mV 10 0,
lN 11 10,
uO 12 (.mksl none (.str []) 11 11),
uO 13 (.mkmap),
uO 14 (.mkmap),
uO 15 (.build [.sl0 (some 5),.p (.int .i64 0),.sl0 none,.sl0 none,.nilm,.nilm] [(0,1,9),(2,1,12),(4,1,13),(5,1,14)]),
uO 16 (.uns 12 0 [15]),
mV 3 16] [0,3])
(.seq (.seq (rg [mV 17 0,
lN 18 17,
mV 19 (cI 0)] [3,17,18,19])
(.block 0 (.loop (.scope mM))))
fV)))
def EY:AFun:=⟨1,[.t 2],z3L,false,false⟩
def rS (C:Hd)(gl:GL)(e:En)(h:aA)(x:Esc)(K:KT):Sf C gl z3L e h x K:=⟨_,by simp only[z3L,↓wZ,AO.still];rfl⟩
theorem zhB {C gl v0 h x K}:NW C gl EY.body ⟨enter [v0],h,x⟩ K=(rS C gl [(0,v0)] h x K).1:=(rS C gl [(0,v0)] h x K).2
def IJ:ACode:=.pr [0,1,7,27,28,29] (.seq (rg [bN 30 .lss 29 28] [0,1,7,27,28,29,30])
(.seq (.cond 30 .skip
(.exit 0))
(.seq (.block 1 (.seq (rg [mV 31 29,
iA 32 none 27 29,
lD 33 none 32,
mV 8 31,
mV 9 33] [0,1,7,8,9,27,28,29])
(.seq (dr [dF (mV 34 0) [0],
dF (uO 35 (.nilchk 34)) [34],
dF (fA 36 3 none 35) [35],
dF (lD 37 none 36) [36],
dF (mV 38 8) [8],
dF (mV 39 9) [9],
dF (uO 40 (.slstr 39 (some (cI 1)) none)) [39],
dF (mV 41 7) [7],
dA (cL 42 wL [41]) [41] true [] [3],
dF (bN 43 .add 40 42) [40,42],
dF (iA 44 none 37 38) [37,38],
dT (wO (.store none 44 43)) [44,43]] [0,1,9,27,28,29])
(rg [mV 45 9,
uO 46 (.idxs 45 (cI 0)),
bN 47 .sub 46 (.c (.p (.int .u8 48))),
uO 48 (.conv (.i .i64) 47),
mV 7 48] [0,1,7,27,28,29]))))
(rg [bN 49 .add 29 (cI 1),
mV 29 49] [0,1,7,27,28,29]))))
def DK (C:Hd)(gl:GL)(e:En)(h:aA)(x:Esc)(K:KT):Sf C gl IJ e h x K:=⟨_,by simp only[IJ,↓wZ,AO.still];rfl⟩
theorem VT {C gl e h x K}:NW C gl IJ ⟨e,h,x⟩ K=(DK C gl e h x K).1:=(DK C gl e h x K).2
theorem zlH {C gl e h x K}:NW C gl (.loop IJ) ⟨e,h,x⟩ K=NA C gl IJ K [(0,eA e 0),(1,eA e 1),(7,eA e 7),(27,eA e 27),(28,eA e 28),(29,eA e 29)] h x:=MB
def pM:ACode:=.pr [0,1,7,54,55] (.seq (rg [bN 56 .lss 55 54] [0,1,7,54,55,56])
(.seq (.cond 56 .skip
(.exit 2))
(.seq (.block 3 (.seq (rg [mV 57 55,
mV 10 57] [0,1,7,10,54,55])
(rg [mV 58 0,
mV 59 10,
cL 60 AP [58,59]] [0,1,7,54,55])))
(rg [bN 61 .add 55 (cI 1),
mV 55 61] [0,1,7,54,55]))))
def EK (C:Hd)(gl:GL)(e:En)(h:aA)(x:Esc)(K:KT):Sf C gl pM e h x K:=⟨_,by simp only[pM,↓wZ,AO.still];rfl⟩
theorem z2q {C gl e h x K}:NW C gl pM ⟨e,h,x⟩ K=(EK C gl e h x K).1:=(EK C gl e h x K).2
theorem zlI {C gl e h x K}:NW C gl (.loop pM) ⟨e,h,x⟩ K=NA C gl pM K [(0,eA e 0),(1,eA e 1),(7,eA e 7),(54,eA e 54),(55,eA e 55)] h x:=MB
def lV:ACode:=.pr [0,1,7] (.seq (rg [mV 62 0,
mV 63 0,
uO 64 (.nilchk 63),
fA 65 1 none 64,
lD 66 none 65,
mV 67 1,
cL 68 lL [66,67],
uO 69 (.nilchk 62),
fA 70 1 none 69,
wO (.store none 70 68)] [7])
(.seq (rg [mV 71 7,
mV 6 71] [6])
.ret))
def pO (C:Hd)(gl:GL)(e:En)(h:aA)(x:Esc)(K:KT):Sf C gl lV e h x K:=⟨_,by simp only[lV,↓wZ,AO.still];rfl⟩
theorem z2r {C gl e h x K}:NW C gl lV ⟨e,h,x⟩ K=(pO C gl e h x K).1:=(pO C gl e h x K).2
def JJ:ACode:=.pr [0,1,7] (.seq (.seq (rg [mV 50 0,
uO 51 (.nilchk 50),
fA 52 0 none 51,
lD 53 none 52,
lN 54 53,
mV 55 (cI 0)] [0,1,7,54,55])
(.block 2 (.loop pM)))
lV)
def qO (C:Hd)(gl:GL)(e:En)(h:aA)(x:Esc)(K:KT):Sf C gl JJ e h x K:=⟨_,by simp only[JJ,↓wZ,AO.still];rfl⟩
theorem z2s {C gl e h x K}:NW C gl JJ ⟨e,h,x⟩ K=(qO C gl e h x K).1:=(qO C gl e h x K).2
def z3N:ACode:=(.seq (rg [mV 6 (cI 0)] [0,1,2])
(.seq (rg [mV 7 (cI (-1))] [0,1,2,7])
(.seq (.seq (rg [mV 11 0,
uO 12 (.nilchk 11),
fA 13 1 none 12,
lD 14 none 13,
bN 15 .eql 14 (cI 4),
mV 16 15,
gD 17 16 false (.mv 0),
gD 18 16 false (.nilchk 17),
gD 19 16 false (.faddr 1 none 18),
gD 20 16 false (.load none 19),
gD 21 16 false (.bin .eql 20 (cI 11)),
uO 22 (.pick 16 cT 21)] [0,1,2,7,22])
(.cond 22 (.seq (rg [mV 23 2,
mV 7 23] [0,1,7])
(.seq (rg [mV 24 0,
uO 25 (.nilchk 24),
fA 26 3 none 25,
lD 27 none 26,
lN 28 27,
mV 29 (cI 0)] [0,1,7,27,28,29])
(.block 0 (.loop IJ))))
.skip))
JJ)))
def GY:AFun:=⟨3,[.t 6],z3N,false,false⟩
def CK (C:Hd)(gl:GL)(e:En)(h:aA)(x:Esc)(K:KT):Sf C gl z3N e h x K:=⟨_,by simp only[z3N,↓wZ,AO.still];rfl⟩
theorem zhI {C gl v0 v1 v2 h x K}:NW C gl GY.body ⟨enter [v0,v1,v2],h,x⟩ K=(CK C gl [(0,v0),(1,v1),(2,v2)] h x K).1:=(CK C gl [(0,v0),(1,v1),(2,v2)] h x K).2
def z4m:ACode:=.pr [0,1,2,6,7,8,9,10,11] (.seq (dr [dF (mV 54 0) [0],
dF (mV 55 1) [1],
dF (mV 56 11) [11],
dF (iA 57 none 56 (cI 0)) [56],
dF (lD 58 none 57) [57],
dT (cL 59 RH [54,55,58]) [54,55,58],
dF (uO 60 (.field 3 none 59)) [59],
dF (mV 61 0) [0],
dF (mV 62 1) [1],
dF (mV 63 11) [11],
dA (iA 64 none 63 (cI 1)) [63] false [5] [],
dA (lD 65 none 64) [64] false [5] [],
dT (cL 66 RH [61,62,65]) [61,62,65],
dF (uO 67 (.field 3 none 66)) [66],
dF (mV 68 0) [0],
dF (mV 69 1) [1],
dF (mV 70 11) [11],
dA (iA 71 none 70 (cI 2)) [70] false [5,12] [],
dA (lD 72 none 71) [71] false [5,12] [],
dT (cL 73 RH [68,69,72]) [68,69,72],
dF (uO 74 (.field 1 none 73)) [73],
dF (mV 12 60) [60],
dF (mV 13 67) [67],
dF (mV 14 74) [74]] [2,6,7,8,9,10,12,13,14])
(.seq (rg [mV 75 12,
fA 76 3 none 7,
lD 77 none 76,
bN 78 .add 75 77,
mV 79 13,
bN 80 .add 78 79,
mV 15 80] [2,6,7,8,9,10,12,14,15])
(.seq (rg [mV 81 2,
mV 82 9,
cL 83 bE [81,82],
mV 84 10,
mV 85 14,
cL 86 bE [84,85],
mV 16 83,
mV 17 86] [6,7,8,12,14,15,16,17])
(.seq (rg [mV 87 16,
mV 88 15,
uO 89 (.lens 88),
bN 90 .sub 89 (cI 1),
cL 91 PB [(cS [48]),90],
bN 92 .add 87 91,
bN 93 .add 92 (cS [49]),
mV 94 17,
bN 95 .add 93 94,
fA 96 0 none 8,
wO (.store none 96 95)] [6,7,8,12,14,15,16])
(.seq (rg [mV 97 16,
uO 98 (.lens 97),
cL 99 PB [(cS [48]),98],
mV 100 15,
bN 101 .add 99 100,
fA 102 1 none 8,
wO (.store none 102 101)] [6,7,8,12,14,16])
(.seq (rg [mV 103 16,
uO 104 (.lens 103),
mV 105 12,
uO 106 (.lens 105),
bN 107 .add 104 106,
fA 108 3 none 8,
wO (.store none 108 107)] [6,7,8,14])
(.seq (dr [dF (fA 109 3 none 8) [8],
dF (lD 110 none 109) [109],
dT (cL 111 PB [(cS [120]),110]) [110],
dA (lD 112 (some 6) 7) [7] false [2] [],
dT (cL 113 PH [112]) [112],
dF (bN 114 .add 111 113) [111,113],
dF (fA 115 2 none 8) [8],
dT (wO (.store none 115 114)) [115,114]] [6,8,14])
(rg [mV 116 14,
fA 117 4 none 8,
wO (.store none 117 116)] [6,8]))))))))
def EH (C:Hd)(gl:GL)(v0 v1 v2 v6 v7 v8 v9 v10 v11:AV)(h:aA)(x:Esc)(K:KT):Prop:=
 pK (eD none v11 (AI 0) h) fun t1=>
 pK (FA none t1 h) fun t2=>
 lC C RH [v0,v1,t2] h fun t3 h4 y5=>
 pK (fI 3 none t3) fun t6=>
 pK (eD none v11 (AI 1) h4) fun t7=>
 (pK (eD none v11 (AI 1) h) fun v=>(fun u (g1:aA) (y1:Esc)=>u=t7∧g1=h∧y1=[]) v h [])∧(pK (FA none t7 h4) fun t8=>
 (pK (FA none t7 h) fun v=>(fun u (g1:aA) (y1:Esc)=>u=t8∧g1=h∧y1=[]) v h [])∧(lC C RH [v0,v1,t8] h4 fun t9 h10 y11=>
 pK (fI 3 none t9) fun t12=>
 pK (eD none v11 (AI 2) h10) fun t13=>
 (pK (eD none v11 (AI 2) h) fun v=>(fun u (g1:aA) (y1:Esc)=>u=t13∧g1=h∧y1=[]) v h [])∧((pK (eD none v11 (AI 2) h4) fun v=>(fun u (g1:aA) (y1:Esc)=>u=t13∧g1=h4∧y1=[]) v h4 [])∧(pK (FA none t13 h10) fun t14=>
 (pK (FA none t13 h) fun v=>(fun u (g1:aA) (y1:Esc)=>u=t14∧g1=h∧y1=[]) v h [])∧((pK (FA none t13 h4) fun v=>(fun u (g1:aA) (y1:Esc)=>u=t14∧g1=h4∧y1=[]) v h4 [])∧(lC C RH [v0,v1,t14] h10 fun t15 h16 y17=>
 pK (fI 1 none t15) fun t18=>
 pK (IA 3 none v7) fun t19=>
 pK (FA none t19 h16) fun t20=>
 pK (DA .add t6 t20) fun t21=>
 pK (DA .add t21 t12) fun t22=>
 C bE [v2,v9] h16 fun t23 h24 y25=>
 C bE [v10,t18] h24 fun t26 h27 y28=>
 pK (ND t22) fun t29=>
 pK (DA .sub t29 (AI 1)) fun t30=>
 C PB [(.p (.str [48])),t30] h27 fun t31 h32 y33=>
 pK (DA .add t23 t31) fun t34=>
 pK (DA .add t34 (.p (.str [49]))) fun t35=>
 pK (DA .add t35 t26) fun t36=>
 pK (IA 0 none v8) fun t37=>
 wK (tB none t37 t36 h32) fun t38 h39 y40=>
 pK (ND t23) fun t41=>
 C PB [(.p (.str [48])),t41] h39 fun t42 h43 y44=>
 pK (DA .add t42 t22) fun t45=>
 pK (IA 1 none v8) fun t46=>
 wK (tB none t46 t45 h43) fun t47 h48 y49=>
 pK (ND t23) fun t50=>
 pK (ND t6) fun t51=>
 pK (DA .add t50 t51) fun t52=>
 pK (IA 3 none v8) fun t53=>
 wK (tB none t53 t52 h48) fun t54 h55 y56=>
 pK (IA 3 none v8) fun t57=>
 pK (FA none t57 h55) fun t58=>
 lC C PB [(.p (.str [120])),t58] h55 fun t59 h60 y61=>
 pK (FA (some 6) v7 h60) fun t62=>
 (pK (FA (some 6) v7 h55) fun v=>(fun u (g1:aA) (y1:Esc)=>u=t62∧g1=h55∧y1=[]) v h55 [])∧(lC C PH [t62] h60 fun t63 h64 y65=>
 pK (DA .add t59 t63) fun t66=>
 pK (IA 2 none v8) fun t67=>
 wK (tB none t67 t66 h64) fun t68 h69 y70=>
 pK (IA 4 none v8) fun t71=>
 wK (tB none t71 t18 h69) fun t72 h73 y74=>
 K .normal ⟨[(6,v6),(8,v8)],h73,(y74++(y70++(y65++(y61++(y56++(y49++(y44++(y40++(y33++(y28++(y25++(y17++(y11++(y5++x))))))))))))))⟩)))))))
theorem zi4 {C gl e h x K}:NW C gl z4m ⟨e,h,x⟩ K=EH C gl (eA e 0) (eA e 1) (eA e 2) (eA e 6) (eA e 7) (eA e 8) (eA e 9) (eA e 10) (eA e 11) h x K:=by kernel_rfl
def z6N (q1:ACode):ACode:=.pr [0,1,2,6,7,8,46] (.cond 46 (.seq (rg [uO 49 (.bsl false none 3 (.int .i64 0) [(0,(cI 3)),(1,(cI 4)),(2,(cI 1))]),
mV 9 (cI 11),
mV 10 (cI 12),
mV 11 49] [0,1,2,6,7,8,9,10,11])
(.seq (.seq (rg [fA 50 0 none 7,
lD 51 none 50,
bN 52 .eql 51 (cI 8)] [0,1,2,6,7,8,9,10,11,52])
(.cond 52 (rg [uO 53 (.bsl false none 3 (.int .i64 0) [(0,(cI 5)),(1,(cI 6)),(2,(cI 2))]),
mV 9 (cI 4),
mV 10 (cI 5),
mV 11 53] [0,1,2,6,7,8,9,10,11])
.skip))
q1))
.skip)
def QV:ACode:=z6N z4m
def z19 (C:Hd)(gl:GL)(q1:ACode)(v0 v1 v2 v6 v7 v8 v46:AV)(h:aA)(x:Esc)(K:KT):Prop:=
 jB v46 (wK (XC false none 3 (.int .i64 0) [(0,(AI 3)),(1,(AI 4)),(2,(AI 1))] h) fun t1 h2 y3=>
 pK (IA 0 none v7) fun t4=>
 pK (FA none t4 h2) fun t5=>
 pK (DA .eql t5 (AI 8)) fun t6=>
 jB t6 (wK (XC false none 3 (.int .i64 0) [(0,(AI 5)),(1,(AI 6)),(2,(AI 2))] h2) fun t7 h8 y9=>
 NW C gl q1 ⟨[(0,v0),(1,v1),(2,v2),(6,v6),(7,v7),(8,v8),(9,(AI 4)),(10,(AI 5)),(11,t7)],h8,(y9++(y3++x))⟩ K)
 (NW C gl q1 ⟨[(0,v0),(1,v1),(2,v2),(6,v6),(7,v7),(8,v8),(9,(AI 11)),(10,(AI 12)),(11,t1),(52,t6)],h2,(y3++x)⟩ K))
 (K .normal ⟨[(0,v0),(1,v1),(2,v2),(6,v6),(7,v7),(8,v8),(46,v46)],h,x⟩)
theorem zcU {C gl q1 e h x K}:NW C gl (z6N q1) ⟨e,h,x⟩ K=z19 C gl q1 (eA e 0) (eA e 1) (eA e 2) (eA e 6) (eA e 7) (eA e 8) (eA e 46) h x K:=by kernel_rfl
theorem zi5 {C gl e h x K}:NW C gl QV ⟨e,h,x⟩ K=z19 C gl z4m (eA e 0) (eA e 1) (eA e 2) (eA e 6) (eA e 7) (eA e 8) (eA e 46) h x K:=zcU
def SV:ACode:=.pr [6,8] (.seq (dr [dF (fA 118 1 none 8) [8],
dF (lD 119 none 118) [118],
dF (fA 120 0 none 8) [8],
dF (lD 121 none 120) [120],
dF (uO 122 (.lens 121)) [121],
dF (fA 123 1 none 8) [8],
dF (lD 124 none 123) [123],
dF (uO 125 (.lens 124)) [124],
dF (bN 126 .sub 122 125) [122,125],
dA (cL 127 PB [(cS [48]),126]) [126] true [] [1],
dF (bN 128 .add 119 127) [119,127],
dF (fA 129 1 none 8) [8],
dT (wO (.store none 129 128)) [129,128]] [6,8])
(.seq (dr [dF (fA 130 2 none 8) [8],
dF (lD 131 none 130) [130],
dF (fA 132 0 none 8) [8],
dF (lD 133 none 132) [132],
dF (uO 134 (.lens 133)) [133],
dF (fA 135 2 none 8) [8],
dF (lD 136 none 135) [135],
dF (uO 137 (.lens 136)) [136],
dF (bN 138 .sub 134 137) [134,137],
dA (cL 139 PB [(cS [120]),138]) [138] true [] [1],
dF (bN 140 .add 131 139) [131,139],
dF (fA 141 2 none 8) [8],
dT (wO (.store none 141 140)) [141,140]] [6,8])
(.seq (rg [lD 142 (some 5) 8,
wO (.store (some 5) 6 142)] [6])
.ret)))
def KG (C:Hd)(gl:GL)(v6 v8:AV)(h:aA)(x:Esc)(K:KT):Prop:=
 pK (IA 1 none v8) fun t1=>
 pK (FA none t1 h) fun t2=>
 pK (IA 0 none v8) fun t3=>
 pK (FA none t3 h) fun t4=>
 pK (ND t4) fun t5=>
 pK (IA 1 none v8) fun t6=>
 pK (FA none t6 h) fun t7=>
 pK (ND t7) fun t8=>
 pK (DA .sub t5 t8) fun t9=>
 lC C PB [(.p (.str [48])),t9] h fun t10 h11 y12=>
 (pK (FA none t1 h11) fun v=>(fun u (g1:aA) (y1:Esc)=>u=t2∧g1=h11∧y1=[]) v h11 [])∧(pK (DA .add t2 t10) fun t13=>
 pK (IA 1 none v8) fun t14=>
 wK (tB none t14 t13 h11) fun t15 h16 y17=>
 pK (IA 2 none v8) fun t18=>
 pK (FA none t18 h16) fun t19=>
 pK (IA 0 none v8) fun t20=>
 pK (FA none t20 h16) fun t21=>
 pK (ND t21) fun t22=>
 pK (IA 2 none v8) fun t23=>
 pK (FA none t23 h16) fun t24=>
 pK (ND t24) fun t25=>
 pK (DA .sub t22 t25) fun t26=>
 lC C PB [(.p (.str [120])),t26] h16 fun t27 h28 y29=>
 (pK (FA none t18 h28) fun v=>(fun u (g1:aA) (y1:Esc)=>u=t19∧g1=h28∧y1=[]) v h28 [])∧(pK (DA .add t19 t27) fun t30=>
 pK (IA 2 none v8) fun t31=>
 wK (tB none t31 t30 h28) fun t32 h33 y34=>
 pK (FA (some 5) v8 h33) fun t35=>
 wK (tB (some 5) v6 t35 h33) fun t36 h37 y38=>
 K .ret ⟨[(6,v6)],h37,(y38++(y34++(y29++(y17++(y12++x)))))⟩))
theorem zi6 {C gl e h x K}:NW C gl SV ⟨e,h,x⟩ K=KG C gl (eA e 6) (eA e 8) h x K:=by kernel_rfl
def z6M (q2 q3:ACode):ACode:=(.seq (rg [uO 6 (.alloc [.p (.str []),.p (.str []),.p (.str []),.p (.int .i64 0),.p (.int .i64 0)])] [0,1,2,6])
(.seq (rg [mV 18 0,
mV 19 1,
iA 20 (some 6) 18 19,
lD 21 (some 6) 20,
uO 7 (.alloc [.p (.int .i64 0),.p (.int .i64 0),.p (.int .i64 0),.p (.str []),.p (.str []),.p (.str [])]),
wO (.store (some 6) 7 21)] [0,1,2,6,7])
(.seq (rg [mV 22 2,
uO 23 (.build [.p (.str []),.p (.str []),.p (.str []),.p (.int .i64 0),.p (.int .i64 0)] [(4,1,22)]),
uO 8 (.alloc [.p (.str []),.p (.str []),.p (.str []),.p (.int .i64 0),.p (.int .i64 0)]),
wO (.store (some 5) 8 23)] [0,1,2,6,7,8])
(.seq (.seq (rg [fA 24 0 none 7,
lD 25 none 24] [0,1,2,6,7,8,25])
(.block 0 (.seq (rg [bN 27 .eql 25 (cI 10),
mV 26 27] [0,1,2,6,7,8,25,26])
(.cond 26 (dr [dF (mV 28 2) [2],
dF (fA 29 1 none 7) [7],
dF (lD 30 none 29) [29],
dT (cL 31 bE [28,30]) [28,30],
dF (fA 32 1 none 7) [7],
dA (lD 33 none 32) [32] false [3] [],
dF (fA 34 0 none 8) [8],
dA (wO (.store none 34 31)) [34,31] true [] [5],
dF (fA 35 4 none 8) [8],
dT (wO (.store none 35 33)) [35,33]] [6,8])
(.seq (rg [bN 37 .eql 25 (cI 9),
mV 36 37] [0,1,2,6,7,8,25,36])
(.cond 36 (dr [dF (mV 38 2) [2],
dT (cL 39 bE [38,(cI 1)]) [38],
dF (fA 40 2 none 7) [7],
dA (lD 41 none 40) [40] false [1] [],
dT (cL 42 PB [(cS [48]),41]) [41],
dF (bN 43 .add 39 42) [39,42],
dF (fA 44 0 none 8) [8],
dT (wO (.store none 44 43)) [44,43],
dF (fA 45 4 none 8) [8],
dT (wO (.store none 45 (cI 1))) [45]] [6,8])
(.seq (.seq (rg [bN 47 .eql 25 (cI 7),
mV 46 47] [0,1,2,6,7,8,25,46])
(.cond 46 .skip
(rg [bN 48 .eql 25 (cI 8),
mV 46 48] [0,1,2,6,7,8,46])))
q2)))))))
q3))))
def eZ:AFun:=⟨3,[.cell 6 (some 5)],z6M QV SV,false,false⟩
def DH (C:Hd)(gl:GL)(q2 q3:ACode)(v0 v1 v2:AV)(h:aA)(x:Esc)(K:KT):Prop:=
 alK [.p (.str []),.p (.str []),.p (.str []),.p (.int .i64 0),.p (.int .i64 0)] h fun t1 h2 y3=>
 pK (eD (some 6) v0 v1 h2) fun t4=>
 pK (FA (some 6) t4 h2) fun t5=>
 alK [.p (.int .i64 0),.p (.int .i64 0),.p (.int .i64 0),.p (.str []),.p (.str []),.p (.str [])] h2 fun t6 h7 y8=>
 wK (tB (some 6) t6 t5 h7) fun t9 h10 y11=>
 pK (xC [.p (.str []),.p (.str []),.p (.str []),.p (.int .i64 0),.p (.int .i64 0)] [(4,1,v2)]) fun t12=>
 alK [.p (.str []),.p (.str []),.p (.str []),.p (.int .i64 0),.p (.int .i64 0)] h10 fun t13 h14 y15=>
 wK (tB (some 5) t13 t12 h14) fun t16 h17 y18=>
 pK (IA 0 none t6) fun t19=>
 pK (FA none t19 h17) fun t20=>
 pK (DA .eql t20 (AI 10)) fun t21=>
 jB t21 (pK (IA 1 none t6) fun t22=>
 pK (FA none t22 h17) fun t23=>
 lC C bE [v2,t23] h17 fun t24 h25 y26=>
 pK (IA 1 none t6) fun t27=>
 pK (FA none t27 h25) fun t28=>
 (pK (FA none t27 h17) fun v=>(fun u (g1:aA) (y1:Esc)=>u=t28∧g1=h17∧y1=[]) v h17 [])∧(pK (IA 0 none t13) fun t29=>
 wK (tB none t29 t24 h25) fun t30 h31 y32=>
 (pK (FA none t27 h31) fun v=>(fun u (g1:aA) (y1:Esc)=>u=t28∧g1=h31∧y1=[]) v h31 [])∧(pK (IA 4 none t13) fun t33=>
 wK (tB none t33 t28 h31) fun t34 h35 y36=>
 NW C gl q3 ⟨[(6,t1),(8,t13)],h35,(y36++(y32++(y26++(y18++(y15++(y11++(y8++(y3++x))))))))⟩ K)))
 (pK (DA .eql t20 (AI 9)) fun t37=>
 jB t37 (lC C bE [v2,(AI 1)] h17 fun t38 h39 y40=>
 pK (IA 2 none t6) fun t41=>
 pK (FA none t41 h39) fun t42=>
 (pK (FA none t41 h17) fun v=>(fun u (g1:aA) (y1:Esc)=>u=t42∧g1=h17∧y1=[]) v h17 [])∧(lC C PB [(.p (.str [48])),t42] h39 fun t43 h44 y45=>
 pK (DA .add t38 t43) fun t46=>
 pK (IA 0 none t13) fun t47=>
 wK (tB none t47 t46 h44) fun t48 h49 y50=>
 pK (IA 4 none t13) fun t51=>
 wK (tB none t51 (AI 1) h49) fun t52 h53 y54=>
 NW C gl q3 ⟨[(6,t1),(8,t13)],h53,(y54++(y50++(y45++(y40++(y18++(y15++(y11++(y8++(y3++x)))))))))⟩ K))
 (pK (DA .eql t20 (AI 7)) fun t55=>
 jB t55 (NW C gl q2 ⟨[(0,v0),(1,v1),(2,v2),(6,t1),(7,t6),(8,t13),(25,t20),(46,t55)],h17,(y18++(y15++(y11++(y8++(y3++x)))))⟩ (tC 0 (yD C gl q3 K)))
 (pK (DA .eql t20 (AI 8)) fun t56=>
 NW C gl q2 ⟨[(0,v0),(1,v1),(2,v2),(6,t1),(7,t6),(8,t13),(46,t56)],h17,(y18++(y15++(y11++(y8++(y3++x)))))⟩ (tC 0 (yD C gl q3 K)))))
theorem zcT {C gl q2 q3 v0 v1 v2 h x K}:NW C gl (z6M q2 q3) ⟨enter [v0,v1,v2],h,x⟩ K=DH C gl q2 q3 v0 v1 v2 h x K:=by kernel_rfl
theorem zi3 {C gl v0 v1 v2 h x K}:NW C gl eZ.body ⟨enter [v0,v1,v2],h,x⟩ K=DH C gl QV SV v0 v1 v2 h x K:=zcT
def z3w:ACode:=(.seq (rg [mV 6 cF] [0,1,2])
(.seq (rg [mV 7 0,
mV 8 1,
bN 9 .lss 7 8,
mV 10 9,
gD 11 10 false (.mv 0),
gD 12 10 false (.mv 2),
gD 13 10 false (.bin .gtr 11 12),
uO 14 (.pick 10 cT 13),
mV 6 14] [6])
.ret))
def fY:AFun:=⟨3,[.t 6],z3w,false,false⟩
def aS (C:Hd)(gl:GL)(e:En)(h:aA)(x:Esc)(K:KT):Sf C gl z3w e h x K:=⟨_,by simp only[z3w,↓wZ,AO.still];rfl⟩
theorem zgN {C gl v0 v1 v2 h x K}:NW C gl fY.body ⟨enter [v0,v1,v2],h,x⟩ K=(aS C gl [(0,v0),(1,v1),(2,v2)] h x K).1:=(aS C gl [(0,v0),(1,v1),(2,v2)] h x K).2
def BW:ACode:=.pr [2,4] (.seq (rg [lD 56 (some 6) 4,
wO (.store (some 6) 2 56),
mV 3 (cI 0)] [2,3])
.ret)
def z2c (C:Hd)(gl:GL)(e:En)(h:aA)(x:Esc)(K:KT):Sf C gl BW e h x K:=⟨_,by simp only[BW,↓wZ,AO.still];rfl⟩
theorem zjO {C gl e h x K}:NW C gl BW ⟨e,h,x⟩ K=(z2c C gl e h x K).1:=(z2c C gl e h x K).2
def z5b:ACode:=(.seq (rg [uO 1 (.box 0),
uO 2 (.alloc [.p (.int .i64 0),.p (.int .i64 0),.p (.int .i64 0),.p (.str []),.p (.str []),.p (.str [])]),
mV 3 (cI 0)] [1,2])
(.seq (rg [lD 5 (some 6) 1,
uO 4 (.alloc [.p (.int .i64 0),.p (.int .i64 0),.p (.int .i64 0),.p (.str []),.p (.str []),.p (.str [])]),
wO (.store (some 6) 4 5)] [1,2,4])
(.seq (.block 0 (.seq (rg [fA 18 0 none 1,
lD 19 none 18,
bN 20 .eql 19 (cI 1),
mV 21 20,
gD 22 21 false (.faddr 0 none 1),
gD 23 21 false (.load none 22),
gD 24 21 false (.bin .eql 23 (cI 2)),
uO 25 (.pick 21 cT 24),
mV 26 25,
gD 27 26 false (.faddr 0 none 1),
gD 28 26 false (.load none 27),
gD 29 26 false (.bin .eql 28 (cI 10)),
uO 30 (.pick 26 cT 29),
mV 17 30] [1,2,4,17])
(.cond 17 (.seq (rg [fA 31 1 none 4,
wO (.store none 31 (cI 0))] [1,2,4])
(.seq (rg [fA 32 1 none 1,
lD 33 none 32,
cL 34 rQ [33],
uO 35 (.un .not 34)] [2,4,35])
(.cond 35 (.seq (rg [lD 36 (some 6) 4,
wO (.store (some 6) 2 36),
mV 3 (cI 1)] [2,3])
.ret)
.skip)))
(.seq (rg [fA 38 0 none 1,
lD 39 none 38,
bN 40 .eql 39 (cI 9),
mV 37 40] [1,2,4,37])
(.cond 37 (.seq (rg [fA 41 2 none 4,
wO (.store none 41 (cI 0))] [1,2,4])
(.seq (rg [fA 42 2 none 1,
lD 43 none 42,
cL 44 TF [43,(cI 0),(cI 20000)]] [2,4,44])
(.cond 44 (.seq (rg [lD 45 (some 6) 4,
wO (.store (some 6) 2 45),
mV 3 (cI 1)] [2,3])
.ret)
.skip)))
(.seq (rg [fA 47 0 none 1,
lD 48 none 47,
cL 49 SG [48],
mV 46 49] [1,2,4,46])
(.cond 46 (.seq (rg [fA 50 3 none 4,
wO (.store none 50 (cS [])),
fA 51 4 none 4,
wO (.store none 51 (cS [])),
fA 52 5 none 4,
wO (.store none 52 (cS []))] [1,2,4])
(.seq (dr [dF (lD 53 (some 6) 4) [4],
dF (lD 54 (some 6) 1) [1],
dA (cL 55 pQ [54]) [54] true [] [0],
dT (wO (.store (some 6) 2 53)) [2,53],
dF (mV 3 55) [55]] [2,3])
.ret))
(.seq (rg [fA 6 3 none 4,
wO (.store none 6 (cS []))] [1,2,4])
(.seq (.seq (rg [fA 7 3 none 1,
lD 8 none 7,
cL 9 SF [8],
uO 10 (.un .not 9)] [1,2,4,10])
(.cond 10 (.seq (rg [lD 11 (some 6) 4,
wO (.store (some 6) 2 11),
mV 3 (cI 9)] [2,3])
.ret)
.skip))
(.seq (rg [fA 12 3 none 1,
lD 13 none 12,
uO 14 (.lens 13),
bN 15 .gtr 14 (cI 2000)] [2,4,15])
(.cond 15 (.seq (rg [lD 16 (some 6) 4,
wO (.store (some 6) 2 16),
mV 3 (cI 2)] [2,3])
.ret)
.skip)))))))))))
BW)))
def z0d:AFun:=⟨1,[.cell 2 (some 6),.t 3],z5b,false,false⟩
def yE (C:Hd)(gl:GL)(e:En)(h:aA)(x:Esc)(K:KT):Sf C gl z5b e h x K:=⟨_,by simp only[z5b,↓wZ,AO.still];rfl⟩
theorem zjN {C gl v0 h x K}:NW C gl z0d.body ⟨enter [v0],h,x⟩ K=(yE C gl [(0,v0)] h x K).1:=(yE C gl [(0,v0)] h x K).2
def z5m:ACode:=(.seq (rg [uO 0 (.alloc [.p (.int .i64 0),.p (.int .i64 0),.p (.int .i64 0),.p (.str []),.p (.str []),.p (.str []),.p (.int .i64 0),.p (.int .i64 0),.p (.int .i64 0),.p (.str []),.p (.str []),.p (.str []),.p (.int .i64 0),.p (.int .i64 0),.p (.int .i64 0),.p (.str []),.p (.str []),.p (.str []),.p (.int .i64 0),.p (.int .i64 0),.p (.int .i64 0),.p (.str []),.p (.str []),.p (.str []),.p (.int .i64 0),.p (.int .i64 0),.p (.int .i64 0),.p (.str []),.p (.str []),.p (.str []),.p (.int .i64 0),.p (.int .i64 0),.p (.int .i64 0),.p (.str []),.p (.str []),.p (.str [])])] [0])
(.seq (rg [uO 1 (.build [.p (.int .i64 0),.p (.int .i64 0),.p (.int .i64 0),.p (.str []),.p (.str []),.p (.str [])] [(0,1,(cI 1)),(1,1,(cI 1))]),
uO 2 (.build [.p (.int .i64 0),.p (.int .i64 0),.p (.int .i64 0),.p (.str []),.p (.str []),.p (.str [])] [(0,1,(cI 2)),(1,1,(cI 1))]),
uO 3 (.build [.p (.int .i64 0),.p (.int .i64 0),.p (.int .i64 0),.p (.str []),.p (.str []),.p (.str [])] [(0,1,(cI 3))]),
uO 4 (.build [.p (.int .i64 0),.p (.int .i64 0),.p (.int .i64 0),.p (.str []),.p (.str []),.p (.str [])] [(0,1,(cI 4))]),
uO 5 (.build [.p (.int .i64 0),.p (.int .i64 0),.p (.int .i64 0),.p (.str []),.p (.str []),.p (.str [])] [(0,1,(cI 5))]),
uO 6 (.build [.p (.int .i64 0),.p (.int .i64 0),.p (.int .i64 0),.p (.str []),.p (.str []),.p (.str [])] [(0,1,(cI 6))]),
uO 7 (.build [.p (.int .i64 0),.p (.int .i64 0),.p (.int .i64 0),.p (.str []),.p (.str []),.p (.str []),.p (.int .i64 0),.p (.int .i64 0),.p (.int .i64 0),.p (.str []),.p (.str []),.p (.str []),.p (.int .i64 0),.p (.int .i64 0),.p (.int .i64 0),.p (.str []),.p (.str []),.p (.str []),.p (.int .i64 0),.p (.int .i64 0),.p (.int .i64 0),.p (.str []),.p (.str []),.p (.str []),.p (.int .i64 0),.p (.int .i64 0),.p (.int .i64 0),.p (.str []),.p (.str []),.p (.str []),.p (.int .i64 0),.p (.int .i64 0),.p (.int .i64 0),.p (.str []),.p (.str []),.p (.str [])] [(0,6,1),(6,6,2),(12,6,3),(18,6,4),(24,6,5),(30,6,6)]),
wO (.store (some 36) 0 7)] [0])
.ret))
def z0p:AFun:=⟨0,[.cell 0 (some 36)],z5m,false,false⟩
def MT (C:Hd)(gl:GL)(e:En)(h:aA)(x:Esc)(K:KT):Sf C gl z5m e h x K:=⟨_,by simp only[z5m,↓wZ,AO.still];rfl⟩
theorem zkn {C gl h x K}:NW C gl z0p.body ⟨enter [],h,x⟩ K=(MT C gl [] h x K).1:=(MT C gl [] h x K).2
def z47:ACode:=(.seq (rg [mV 2 0,
uO 3 (.nilchk 2),
fA 4 0 none 3,
lD 5 none 4,
uO 6 (.isnil 0 false 5)] [0,6])
(.cond 6 (rg [mV 7 0,
mV 8 0,
uO 9 (.uns 1 115 [8]),
uO 10 (.uns 7 z8U [(.f z8U),9]),
uO 11 (.uns 1 115 [10]),
uO 12 (.nilchk 7),
fA 13 0 none 12,
wO (.store none 13 11)] [])
(.seq (rg [mV 14 0,
uO 15 (.nilchk 14),
fA 16 0 none 15,
lD 17 none 16,
mV 18 0,
uO 19 (.uns 2 0 [17,18])] [19])
(.cond 19 .bad
.skip))))
def zZ:AFun:=⟨1,[],z47,false,false⟩
def HO (C:Hd)(gl:GL)(e:En)(h:aA)(x:Esc)(K:KT):Sf C gl z47 e h x K:=⟨_,by simp only[z47,↓wZ,AO.still];rfl⟩
theorem zjg {C gl v0 h x K}:NW C gl zZ.body ⟨enter [v0],h,x⟩ K=(HO C gl [(0,v0)] h x K).1:=(HO C gl [(0,v0)] h x K).2
def EM:ACode:=.pr [0,1,7,8] (.seq (rg [bN 9 .lss 8 7] [0,1,7,8,9])
(.seq (.cond 9 .skip
(.exit 0))
(.seq (.block 1 (.seq (rg [mV 10 8,
mV 5 10] [0,1,5,7,8])
(.seq (rg [mV 11 1,
mV 12 0,
mV 13 5,
uO 14 (.idxs 12 13),
cL 15 yL [11,14],
bN 16 .lss 15 (cI 0)] [0,1,7,8,16])
(.cond 16 (.seq (rg [mV 4 cF] [4])
.ret)
.skip))))
(rg [bN 17 .add 8 (cI 1),
mV 8 17] [0,1,7,8]))))
def z17 (C:Hd)(gl:GL)(e:En)(h:aA)(x:Esc)(K:KT):Sf C gl EM e h x K:=⟨_,by simp only[EM,↓wZ,AO.still];rfl⟩
theorem zi1 {C gl e h x K}:NW C gl EM ⟨e,h,x⟩ K=(z17 C gl e h x K).1:=(z17 C gl e h x K).2
theorem zlX {C gl e h x K}:NW C gl (.loop EM) ⟨e,h,x⟩ K=NA C gl EM K [(0,eA e 0),(1,eA e 1),(7,eA e 7),(8,eA e 8)] h x:=MB
def OV:ACode:=.pr [] (.seq (rg [mV 4 cT] [4])
.ret)
def z18 (C:Hd)(gl:GL)(e:En)(h:aA)(x:Esc)(K:KT):Sf C gl OV e h x K:=⟨_,by simp only[OV,↓wZ,AO.still];rfl⟩
theorem zi2 {C gl e h x K}:NW C gl OV ⟨e,h,x⟩ K=(z18 C gl e h x K).1:=(z18 C gl e h x K).2
def z4l:ACode:=(.seq (rg [mV 4 cF] [0,1])
(.seq (.seq (rg [mV 6 0,
uO 7 (.lens 6),
mV 8 (cI 0)] [0,1,7,8])
(.block 0 (.loop EM)))
OV))
def dZ:AFun:=⟨2,[.t 4],z4l,false,false⟩
def OS (C:Hd)(gl:GL)(e:En)(h:aA)(x:Esc)(K:KT):Sf C gl z4l e h x K:=⟨_,by simp only[z4l,↓wZ,AO.still];rfl⟩
theorem zi0 {C gl v0 v1 h x K}:NW C gl dZ.body ⟨enter [v0,v1],h,x⟩ K=(OS C gl [(0,v0),(1,v1)] h x K).1:=(OS C gl [(0,v0),(1,v1)] h x K).2
def YL:ACode:=.pr [0,23,24] (.seq (rg [bN 25 .lss 24 23] [0,23,24,25])
(.seq (.cond 25 .skip
(.exit 0))
(.seq (.block 1 (.seq (rg [mV 26 24,
mV 3 26] [0,3,23,24])
(.seq (rg [mV 27 0,
mV 28 3,
uO 29 (.idxs 27 28),
mV 4 29] [0,4,23,24])
(.seq (rg [mV 30 4,
bN 31 .geq 30 (.c (.p (.int .u8 97))),
mV 32 31,
gD 33 32 true (.mv 4),
gD 34 32 true (.bin .leq 33 (.c (.p (.int .u8 122)))),
uO 35 (.pick 32 34 cF),
mV 36 35,
gD 37 36 false (.mv 4),
gD 38 36 false (.bin .geq 37 (.c (.p (.int .u8 48)))),
gD 39 36 false (.mv 38),
gD 40 39 true (.mv 4),
gD 41 39 true (.bin .leq 40 (.c (.p (.int .u8 57)))),
gD 42 36 false (.pick 39 41 cF),
uO 43 (.pick 36 cT 42),
mV 44 43,
gD 45 44 false (.mv 4),
gD 46 44 false (.bin .eql 45 (.c (.p (.int .u8 45)))),
uO 47 (.pick 44 cT 46),
mV 48 47,
gD 49 48 false (.mv 4),
gD 50 48 false (.bin .eql 49 (.c (.p (.int .u8 95)))),
uO 51 (.pick 48 cT 50),
uO 52 (.un .not 51)] [0,23,24,52])
(.cond 52 (.seq (rg [mV 2 cF] [2])
.ret)
.skip)))))
(rg [bN 53 .add 24 (cI 1),
mV 24 53] [0,23,24]))))
def z0K (C:Hd)(gl:GL)(e:En)(h:aA)(x:Esc)(K:KT):Sf C gl YL e h x K:=⟨_,by simp only[YL,↓wZ,AO.still];rfl⟩
theorem zgL {C gl e h x K}:NW C gl YL ⟨e,h,x⟩ K=(z0K C gl e h x K).1:=(z0K C gl e h x K).2
theorem zl0 {C gl e h x K}:NW C gl (.loop YL) ⟨e,h,x⟩ K=NA C gl YL K [(0,eA e 0),(23,eA e 23),(24,eA e 24)] h x:=MB
def KU:ACode:=.pr [] (.seq (rg [mV 2 cT] [2])
.ret)
def z0L (C:Hd)(gl:GL)(e:En)(h:aA)(x:Esc)(K:KT):Sf C gl KU e h x K:=⟨_,by simp only[KU,↓wZ,AO.still];rfl⟩
theorem zgM {C gl e h x K}:NW C gl KU ⟨e,h,x⟩ K=(z0L C gl e h x K).1:=(z0L C gl e h x K).2
def z3v:ACode:=(.seq (rg [mV 2 cF] [0])
(.seq (.seq (rg [mV 5 0,
bN 6 .eql 5 (cS []),
mV 7 6,
gD 8 7 false (.mv 0),
gD 9 7 false (.lens 8),
gD 10 7 false (.bin .gtr 9 (cI 40)),
uO 11 (.pick 7 cT 10),
mV 12 11,
gD 13 12 false (.mv 0),
gD 14 12 false (.idxs 13 (cI 0)),
gD 15 12 false (.bin .lss 14 (.c (.p (.int .u8 97)))),
uO 16 (.pick 12 cT 15),
mV 17 16,
gD 18 17 false (.mv 0),
gD 19 17 false (.idxs 18 (cI 0)),
gD 20 17 false (.bin .gtr 19 (.c (.p (.int .u8 122)))),
uO 21 (.pick 17 cT 20)] [0,21])
(.cond 21 (.seq (rg [mV 2 cF] [2])
.ret)
.skip))
(.seq (.seq (rg [mV 22 0,
uO 23 (.lens 22),
mV 24 (cI 0)] [0,23,24])
(.block 0 (.loop YL)))
KU)))
def eY:AFun:=⟨1,[.t 2],z3v,false,false⟩
def zH (C:Hd)(gl:GL)(e:En)(h:aA)(x:Esc)(K:KT):Sf C gl z3v e h x K:=⟨_,by simp only[z3v,↓wZ,AO.still];rfl⟩
theorem zgK {C gl v0 h x K}:NW C gl eY.body ⟨enter [v0],h,x⟩ K=(zH C gl [(0,v0)] h x K).1:=(zH C gl [(0,v0)] h x K).2
def FW:ACode:=.pr [0,3,5,7,9,10,11,12,13,14,93,94] (rg [mV 126 0,
mV 127 13,
mV 128 10,
mV 129 12,
uO 130 (.idxs 128 129),
mV 131 14,
cL 132 TH [126,127,130,131]] [0,3,5,7,9,10,11,93,94])
def z2f (C:Hd)(gl:GL)(e:En)(h:aA)(x:Esc)(K:KT):Sf C gl FW e h x K:=⟨_,by simp only[FW,↓wZ,AO.still];rfl⟩
theorem zjW {C gl e h x K}:NW C gl FW ⟨e,h,x⟩ K=(z2f C gl e h x K).1:=(z2f C gl e h x K).2
def GW:ACode:=.pr [0,3,5,7,9,10,11,12,13,14,93,94] (.seq (.seq (rg [mV 102 12,
mV 103 5,
uO 104 (.lens 103),
bN 105 .sub 102 104,
mV 15 105] [0,3,5,7,9,10,11,12,13,14,15,93,94])
(.seq (rg [mV 106 15,
bN 107 .geq 106 (cI 0),
mV 108 107,
gD 109 108 true (.mv 15),
gD 110 108 true (.faddr 5 none 3),
gD 111 108 true (.load none 110),
gD 112 108 true (.lens 111),
gD 113 108 true (.bin .lss 109 112),
uO 114 (.pick 108 113 cF),
mV 115 114,
gD 116 115 true (.faddr 5 none 3),
gD 117 115 true (.load none 116),
gD 118 115 true (.mv 15),
gD 119 115 true (.idxs 117 118),
gD 120 115 true (.bin .eql 119 (.c (.p (.int .u8 49)))),
uO 121 (.pick 115 120 cF)] [0,3,5,7,9,10,11,12,13,14,15,93,94,121])
(.cond 121 (rg [fA 122 4 none 3,
lD 123 none 122,
mV 124 15,
uO 125 (.idxs 123 124),
mV 14 125] [0,3,5,7,9,10,11,12,13,14,93,94])
.skip)))
FW)
def z2g (C:Hd)(gl:GL)(e:En)(h:aA)(x:Esc)(K:KT):Sf C gl GW e h x K:=⟨_,by simp only[GW,↓wZ,AO.still];rfl⟩
theorem zjX {C gl e h x K}:NW C gl GW ⟨e,h,x⟩ K=(z2g C gl e h x K).1:=(z2g C gl e h x K).2
def HW:ACode:=.pr [0,3,5,7,9,10,11,93,94] (rg [bN 133 .add 94 (cI 1),
mV 94 133] [0,3,5,7,9,10,11,93,94])
def z2h (C:Hd)(gl:GL)(e:En)(h:aA)(x:Esc)(K:KT):Sf C gl HW e h x K:=⟨_,by simp only[HW,↓wZ,AO.still];rfl⟩
theorem zjY {C gl e h x K}:NW C gl HW ⟨e,h,x⟩ K=(z2h C gl e h x K).1:=(z2h C gl e h x K).2
def fN:ACode:=.pr [0,3,5,7,9,10,11,93,94] (.seq (rg [bN 95 .lss 94 93] [0,3,5,7,9,10,11,93,94,95])
(.seq (.cond 95 .skip
(.exit 0))
(.seq (.block 1 (.seq (rg [mV 96 94,
mV 12 96] [0,3,5,7,9,10,11,12,93,94])
(.seq (rg [mV 13 (.c (.p (.int .u8 48))),
mV 14 (.c (.p (.int .u8 120)))] [0,3,5,7,9,10,11,12,13,14,93,94])
(.seq (.seq (rg [mV 97 12,
mV 98 10,
uO 99 (.lens 98),
bN 100 .sub 99 (cI 1),
bN 101 .eql 97 100] [0,3,5,7,9,10,11,12,13,14,93,94,101])
(.cond 101 (rg [mV 13 (.c (.p (.int .u8 49)))] [0,3,5,7,9,10,11,12,13,14,93,94])
.skip))
GW))))
HW)))
def z2i (C:Hd)(gl:GL)(e:En)(h:aA)(x:Esc)(K:KT):Sf C gl fN e h x K:=⟨_,by simp only[fN,↓wZ,AO.still];rfl⟩
theorem zjZ {C gl e h x K}:NW C gl fN ⟨e,h,x⟩ K=(z2i C gl e h x K).1:=(z2i C gl e h x K).2
theorem zmx {C gl e h x K}:NW C gl (.loop fN) ⟨e,h,x⟩ K=NA C gl fN K [(0,eA e 0),(3,eA e 3),(5,eA e 5),(7,eA e 7),(9,eA e 9),(10,eA e 10),(11,eA e 11),(93,eA e 93),(94,eA e 94)] h x:=MB
def IW:ACode:=.pr [0,7,9,11] (.seq (rg [mV 134 0,
mV 135 9,
uO 136 (.nilchk 134),
fA 137 36 none 136,
wO (.store none 137 135)] [0,7,11])
(.seq (rg [mV 138 0,
mV 139 7,
cL 140 vG [138,139]] [11])
(.seq (rg [mV 141 11,
mV 4 141] [4])
.ret)))
def z2j (C:Hd)(gl:GL)(e:En)(h:aA)(x:Esc)(K:KT):Sf C gl IW e h x K:=⟨_,by simp only[IW,↓wZ,AO.still];rfl⟩
theorem zka {C gl e h x K}:NW C gl IW ⟨e,h,x⟩ K=(z2j C gl e h x K).1:=(z2j C gl e h x K).2
def JW:ACode:=.pr [0,3,5,7,9,10] (.seq (rg [mV 85 0,
uO 86 (.nilchk 85),
fA 87 37 none 86,
lD 88 none 87,
mV 89 5,
uO 90 (.lens 89),
bN 91 .add 88 90,
mV 11 91] [0,3,5,7,9,10,11])
(.seq (.seq (rg [mV 92 10,
uO 93 (.lens 92),
mV 94 (cI 0)] [0,3,5,7,9,10,11,93,94])
(.block 0 (.loop fN)))
IW))
def z2k (C:Hd)(gl:GL)(e:En)(h:aA)(x:Esc)(K:KT):Sf C gl JW e h x K:=⟨_,by simp only[JW,↓wZ,AO.still];rfl⟩
theorem zkb {C gl e h x K}:NW C gl JW ⟨e,h,x⟩ K=(z2k C gl e h x K).1:=(z2k C gl e h x K).2
def KW:ACode:=.pr [0,3,5,6,7,8,9] (.seq (rg [mV 55 0,
mV 56 8,
cL 57 vG [55,56]] [0,3,5,6,7,9])
(.seq (rg [mV 58 5,
fA 59 3 none 3,
lD 60 none 59,
bN 61 .add 58 60,
mV 62 6,
bN 63 .add 61 62,
mV 10 63] [0,3,5,7,9,10])
(.seq (.seq (rg [fA 64 0 none 3,
lD 65 none 64,
bN 66 .eql 65 (cI 7)] [0,3,5,7,9,10,66])
(.cond 66 (rg [mV 67 0,
uO 68 (.nilchk 67),
fA 69 38 none 68,
lD 70 none 69,
mV 71 10,
uO 72 (.lens 71),
bN 73 .add 70 72,
uO 74 (.nilchk 67),
fA 75 38 none 74,
wO (.store none 75 73)] [0,3,5,7,9,10])
(rg [mV 76 0,
uO 77 (.nilchk 76),
fA 78 39 none 77,
lD 79 none 78,
mV 80 10,
uO 81 (.lens 80),
bN 82 .add 79 81,
uO 83 (.nilchk 76),
fA 84 39 none 83,
wO (.store none 84 82)] [0,3,5,7,9,10])))
JW)))
def z2l (C:Hd)(gl:GL)(e:En)(h:aA)(x:Esc)(K:KT):Sf C gl KW e h x K:=⟨_,by simp only[KW,↓wZ,AO.still];rfl⟩
theorem zkc {C gl e h x K}:NW C gl KW ⟨e,h,x⟩ K=(z2l C gl e h x K).1:=(z2l C gl e h x K).2
def z5g:ACode:=(.seq (rg [uO 3 (.box 1),
mV 4 (cI 0)] [0,3])
(.seq (dr [dF (mV 16 0) [0],
dF (uO 17 (.nilchk 16)) [16],
dF (fA 18 0 (some 36) 17) [17],
dF (fA 19 24 (some 6) 18) [18],
dF (fA 20 3 none 19) [19],
dF (lD 21 none 20) [20],
dF (mV 22 0) [0],
dF (uO 23 (.nilchk 22)) [22],
dF (fA 24 0 (some 36) 23) [23],
dF (fA 25 30 (some 6) 24) [24],
dF (fA 26 3 none 25) [25],
dF (lD 27 none 26) [26],
dF (mV 28 0) [0],
dF (uO 29 (.nilchk 28)) [28],
dF (fA 30 0 (some 36) 29) [29],
dF (fA 31 6 (some 6) 30) [30],
dF (fA 32 1 none 31) [31],
dF (lD 33 none 32) [32],
dF (mV 5 21) [21],
dF (mV 6 27) [27],
dF (mV 7 33) [33],
dF (mV 8 (cI 4)) [],
dF (mV 9 (cI 5)) []] [0,3,5,6,7,8,9])
(.seq (.seq (rg [fA 34 0 none 3,
lD 35 none 34,
bN 36 .eql 35 (cI 7)] [0,3,5,6,7,8,9,36])
(.cond 36 (dr [dF (mV 37 0) [0],
dF (uO 38 (.nilchk 37)) [37],
dF (fA 39 0 (some 36) 38) [38],
dF (fA 40 12 (some 6) 39) [39],
dF (fA 41 3 none 40) [40],
dF (lD 42 none 41) [41],
dF (mV 43 0) [0],
dF (uO 44 (.nilchk 43)) [43],
dF (fA 45 0 (some 36) 44) [44],
dF (fA 46 18 (some 6) 45) [45],
dF (fA 47 3 none 46) [46],
dF (lD 48 none 47) [47],
dF (mV 49 0) [0],
dF (uO 50 (.nilchk 49)) [49],
dF (fA 51 0 (some 36) 50) [50],
dF (fA 52 0 (some 6) 51) [51],
dF (fA 53 1 none 52) [52],
dF (lD 54 none 53) [53],
dF (mV 5 42) [42],
dF (mV 6 48) [48],
dF (mV 7 54) [54],
dF (mV 8 (cI 11)) [],
dF (mV 9 (cI 12)) []] [0,3,5,6,7,8,9])
.skip))
KW)))
def z0i:AFun:=⟨2,[.t 4],z5g,false,false⟩
def bP (C:Hd)(gl:GL)(e:En)(h:aA)(x:Esc)(K:KT):Sf C gl z5g e h x K:=⟨_,by simp only[z5g,↓wZ,AO.still];rfl⟩
theorem zjV {C gl v0 v1 h x K}:NW C gl z0i.body ⟨enter [v0,v1],h,x⟩ K=(bP C gl [(0,v0),(1,v1)] h x K).1:=(bP C gl [(0,v0),(1,v1)] h x K).2
def gN:ACode:=.pr [0,1,4,17,18] (.seq (rg [bN 19 .lss 18 17] [0,1,4,17,18,19])
(.seq (.cond 19 .skip
(.exit 0))
(.seq (.block 1 (.seq (rg [mV 20 18,
mV 6 20] [0,1,4,6,17,18])
(rg [mV 21 0,
mV 22 4,
mV 23 6,
uO 24 (.idxs 22 23),
cL 25 TH [21,24,(.c (.p (.int .u8 48))),(.c (.p (.int .u8 120)))]] [0,1,4,17,18])))
(rg [bN 26 .add 18 (cI 1),
mV 18 26] [0,1,4,17,18]))))
def z2m (C:Hd)(gl:GL)(e:En)(h:aA)(x:Esc)(K:KT):Sf C gl gN e h x K:=⟨_,by simp only[gN,↓wZ,AO.still];rfl⟩
theorem zkh {C gl e h x K}:NW C gl gN ⟨e,h,x⟩ K=(z2m C gl e h x K).1:=(z2m C gl e h x K).2
theorem zmz {C gl e h x K}:NW C gl (.loop gN) ⟨e,h,x⟩ K=NA C gl gN K [(0,eA e 0),(1,eA e 1),(4,eA e 4),(17,eA e 17),(18,eA e 18)] h x:=MB
def LW:ACode:=.pr [0,1] (rg [mV 27 0,
mV 28 1,
uO 29 (.nilchk 27),
fA 30 36 none 29,
wO (.store none 30 28)] [])
def z2n (C:Hd)(gl:GL)(e:En)(h:aA)(x:Esc)(K:KT):Sf C gl LW e h x K:=⟨_,by simp only[LW,↓wZ,AO.still];rfl⟩
theorem zki {C gl e h x K}:NW C gl LW ⟨e,h,x⟩ K=(z2n C gl e h x K).1:=(z2n C gl e h x K).2
def z5h:ACode:=(.seq (rg [mV 8 0,
uO 9 (.nilchk 8),
fA 10 36 none 9,
lD 11 none 10,
mV 12 1,
cL 13 ZP [11,12],
mV 7 13,
eX 14 7 0,
eX 15 7 1,
mV 4 14,
mV 5 15] [0,1,4])
(.seq (.seq (rg [mV 16 4,
uO 17 (.lens 16),
mV 18 (cI 0)] [0,1,4,17,18])
(.block 0 (.loop gN)))
LW))
def z0k:AFun:=⟨2,[],z5h,false,false⟩
def JT (C:Hd)(gl:GL)(e:En)(h:aA)(x:Esc)(K:KT):Sf C gl z5h e h x K:=⟨_,by simp only[z5h,↓wZ,AO.still];rfl⟩
theorem zkg {C gl v0 v1 h x K}:NW C gl z0k.body ⟨enter [v0,v1],h,x⟩ K=(JT C gl [(0,v0),(1,v1)] h x K).1:=(JT C gl [(0,v0),(1,v1)] h x K).2
def z5f:ACode:=(.seq (rg [mV 8 0,
uO 9 (.nilchk 8),
fA 10 37 none 9,
lD 11 none 10,
bN 12 .add 11 (cI 1),
uO 13 (.nilchk 8),
fA 14 37 none 13,
wO (.store none 14 12)] [0,1,2,3])
(.seq (rg [mV 15 0,
uO 16 (.nilchk 15),
fA 17 45 none 16,
lD 18 none 17] [0,1,2,3,18])
(.cond 18 (dr [dF (mV 19 0) [0],
dF (mV 20 0) [0],
dF (mV 21 0) [0],
dF (mV 22 0) [0],
dF (uO 23 (.nilchk 22)) [22],
dF (fA 24 42 none 23) [23],
dF (lD 25 none 24) [24],
dF (mV 26 1) [1],
dF (uO 27 (.bsl false none 1 (.int .u8 0) [(0,26)])) [26],
dT (uO 28 (.app none 25 27)) [25,27],
dF (mV 29 0) [0],
dF (uO 30 (.nilchk 29)) [29],
dF (fA 31 43 none 30) [30],
dA (lD 32 none 31) [31] false [9] [],
dF (mV 33 2) [2],
dA (uO 34 (.bsl false none 1 (.int .u8 0) [(0,33)])) [33] false [9] [],
dT (uO 35 (.app none 32 34)) [32,34],
dF (mV 36 0) [0],
dF (uO 37 (.nilchk 36)) [36],
dF (fA 38 44 none 37) [37],
dA (lD 39 none 38) [38] false [9,16] [],
dF (mV 40 3) [3],
dA (uO 41 (.bsl false none 1 (.int .u8 0) [(0,40)])) [40] false [9,16] [],
dT (uO 42 (.app none 39 41)) [39,41],
dF (uO 43 (.nilchk 19)) [19],
dF (fA 44 42 none 43) [43],
dT (wO (.store none 44 28)) [44,28],
dF (uO 45 (.nilchk 20)) [20],
dF (fA 46 43 none 45) [45],
dT (wO (.store none 46 35)) [46,35],
dF (uO 47 (.nilchk 21)) [21],
dF (fA 48 44 none 47) [47],
dT (wO (.store none 48 42)) [48,42]] [])
.skip)))
def z0h:AFun:=⟨4,[],z5f,false,false⟩
def aP (C:Hd)(gl:GL)(e:En)(h:aA)(x:Esc)(K:KT):Sf C gl z5f e h x K:=⟨_,by simp only[z5f,↓wZ,AO.still];rfl⟩
theorem zjU {C gl v0 v1 v2 v3 h x K}:NW C gl z0h.body ⟨enter [v0,v1,v2,v3],h,x⟩ K=(aP C gl [(0,v0),(1,v1),(2,v2),(3,v3)] h x K).1:=(aP C gl [(0,v0),(1,v1),(2,v2),(3,v3)] h x K).2
end Go.Am
end
section
/- The functions asv abstract code,and asv formulas over their values: printed by program out of the translation. -/
set_option linter.all false
set_option maxRecDepth 100000
namespace Go.Am
def z4H:ACode:=(.seq (rg [uO 2 (.box 0),
mV 4 (cI 0)] [1,2])
(.seq (.block 0 (.seq (rg [fA 6 0 none 2,
lD 7 none 6,
cL 8 iL [7],
uO 9 (.un .not 8),
mV 5 9] [1,2,5])
(.cond 5 (.seq (rg [mV 4 (cI 5)] [4])
.ret)
(.seq (rg [mV 11 1,
uO 12 (.mkfn cQ [2]),
cL 13 rL [11,12],
mV 10 13] [2,10])
(.cond 10 (.seq (rg [mV 4 (cI 6)] [4])
.ret)
(.seq (rg [fA 15 1 none 2,
lD 16 none 15,
cL 17 TF [16,(cI 2),(cI 32)],
mV 18 17,
gD 19 18 false (.faddr 2 none 2),
gD 20 18 false (.load none 19),
gD 21 18 false (.call TF [20,(cI 0),(cI 4294967295)]),
uO 22 (.pick 18 cT 21),
mV 14 22] [2,14])
(.cond 14 (.seq (rg [mV 4 (cI 1)] [4])
.ret)
(.seq (rg [fA 24 2 none 2,
lD 25 none 24,
bN 26 .neq 25 (cI 0),
mV 27 26,
gD 28 27 true (.faddr 2 none 2),
gD 29 27 true (.load none 28),
gD 30 27 true (.bin .rem 29 (cI 2)),
gD 31 27 true (.bin .eql 30 (cI 0)),
uO 32 (.pick 27 31 cF),
mV 23 32] [2,23])
(.cond 23 (.seq (rg [mV 4 (cI 3)] [4])
.ret)
(.seq (rg [fA 34 3 none 2,
lD 35 none 34,
lN 36 35,
bN 37 .gtr 36 (cI 10),
mV 38 37,
gD 39 38 false (.faddr 4 none 2),
gD 40 38 false (.load none 39),
gD 41 38 false (.len 40),
gD 42 38 false (.bin .gtr 41 (cI 100)),
uO 43 (.pick 38 cT 42),
mV 33 43] [2,33])
(.cond 33 (.seq (rg [mV 4 (cI 2)] [4])
.ret)
.skip)))))))))))
(.seq (dr [dF (lD 44 (some 5) 2) [2],
dT (cL 45 iQ [44]) [44],
dA (lD 46 (some 5) 2) [2] false [1] [],
dT (cL 47 dQ [46]) [46],
dF (uO 48 (.bsl false none 2 (.int .i64 0) [(0,45),(1,47)])) [45,47],
dT (cL 49 gL [48]) [48],
dF (mV 4 49) [49]] [4])
.ret)))
def KZ:AFun:=⟨2,[.t 4],z4H,false,false⟩
def xE (C:Hd)(gl:GL)(e:En)(h:aA)(x:Esc)(K:KT):Sf C gl z4H e h x K:=⟨_,by simp only[z4H,↓wZ,AO.still];rfl⟩
theorem zjt {C gl v0 v1 h x K}:NW C gl KZ.body ⟨enter [v0,v1],h,x⟩ K=(xE C gl [(0,v0),(1,v1)] h x K).1:=(xE C gl [(0,v0),(1,v1)] h x K).2
def KJ:ACode:=.pr [5,8,18,19,20,38,39,40] (.seq (rg [bN 41 .lss 40 39] [5,8,18,19,20,38,39,40,41])
(.seq (.cond 41 .skip
(.exit 2))
(.seq (.block 3 (.seq (rg [iA 42 (some 2) 38 40,
lD 43 (some 2) 42,
uO 10 (.alloc [.p (.str []),.p (.int .i64 0)]),
wO (.store (some 2) 10 43)] [5,8,10,18,19,20,38,39,40])
(.seq (dr [dF (mV 44 8) [8],
dF (uO 45 (.nilchk 44)) [44],
dF (fA 46 7 none 45) [45],
dF (lD 47 none 46) [46],
dF (fA 48 0 none 10) [10],
dF (lD 49 none 48) [48],
dF (fA 50 1 none 10) [10],
dF (lD 51 none 50) [50],
dA (cL 52 PB [(cS [48]),51]) [51] true [] [3,5],
dT (wO (.mupd (none,[2]) 47 49 52)) [47,49,52]] [5,8,10,18,19,20,38,39,40])
(dr [dF (mV 53 8) [8],
dF (uO 54 (.nilchk 53)) [53],
dF (fA 55 8 none 54) [54],
dF (lD 56 none 55) [55],
dF (fA 57 0 none 10) [10],
dF (lD 58 none 57) [57],
dF (mV 59 8) [8],
dF (uO 60 (.nilchk 59)) [59],
dF (fA 61 7 none 60) [60],
dF (lD 62 none 61) [61],
dF (fA 63 0 none 10) [10],
dF (lD 64 none 63) [63],
dF (uO 65 (.look (none,[2]) false (.p (.str [])) 62 64)) [62,64],
dT (wO (.mupd (none,[2]) 56 58 65)) [56,58,65]] [5,8,18,19,20,38,39,40]))))
(rg [bN 66 .add 40 (cI 1),
mV 40 66] [5,8,18,19,20,38,39,40]))))
def FH (C:Hd)(gl:GL)(e:En)(h:aA)(x:Esc)(K:KT):Sf C gl KJ e h x K:=⟨_,by simp only[KJ,↓wZ,AO.still];rfl⟩
theorem iP {C gl e h x K}:NW C gl KJ ⟨e,h,x⟩ K=(FH C gl e h x K).1:=(FH C gl e h x K).2
theorem zmi {C gl e h x K}:NW C gl (.loop (.scope KJ)) ⟨e,h,x⟩ K=NA C gl (.scope KJ) K [(5,eA e 5),(8,eA e 8),(18,eA e 18),(19,eA e 19),(20,eA e 20),(38,eA e 38),(39,eA e 39),(40,eA e 40)] h x:=fC
def gW:ACode:=.pr [5,8,18,19,20] (rg [mV 67 5,
mV 68 5,
uO 69 (.nilchk 68),
fA 70 1 none 69,
lD 71 none 70,
mV 72 8,
uO 73 (.uns 9 0 [72]),
uO 74 (.uns 11 0 [71,73]),
uO 75 (.nilchk 67),
fA 76 1 none 75,
wO (.store none 76 74)] [5,18,19,20])
def JO (C:Hd)(gl:GL)(e:En)(h:aA)(x:Esc)(K:KT):Sf C gl gW e h x K:=⟨_,by simp only[gW,↓wZ,AO.still];rfl⟩
theorem z29 {C gl e h x K}:NW C gl gW ⟨e,h,x⟩ K=(JO C gl e h x K).1:=(JO C gl e h x K).2
def iW:ACode:=.pr [5,18,19,20] (rg [bN 77 .add 20 (cI 1),
mV 20 77] [5,18,19,20])
def KO (C:Hd)(gl:GL)(e:En)(h:aA)(x:Esc)(K:KT):Sf C gl iW e h x K:=⟨_,by simp only[iW,↓wZ,AO.still];rfl⟩
theorem z2A {C gl e h x K}:NW C gl iW ⟨e,h,x⟩ K=(KO C gl e h x K).1:=(KO C gl e h x K).2
def QM:ACode:=.pr [5,18,19,20] (.seq (rg [bN 21 .lss 20 19] [5,18,19,20,21])
(.seq (.cond 21 .skip
(.exit 0))
(.seq (.block 1 (.seq (rg [iA 22 (some 5) 18 20,
lD 23 (some 5) 22,
uO 7 (.alloc [.p (.str []),.p (.int .i64 0),.p (.int .i64 0),.sl0 (some 2),.sl0 (some 2)]),
wO (.store (some 5) 7 23)] [5,7,18,19,20])
(.seq (dr [dF (fA 24 3 none 7) [7],
dF (lD 25 none 24) [24],
dT (cL 26 PP [25]) [25],
dF (fA 27 4 none 7) [7],
dA (lD 28 none 27) [27] false [2] [],
dT (cL 29 OP [28]) [28],
dF (fA 30 3 none 7) [7],
dT (wO (.store none 30 26)) [30,26],
dF (fA 31 4 none 7) [7],
dT (wO (.store none 31 29)) [31,29]] [5,7,18,19,20])
(.seq (rg [lD 32 (some 5) 7,
uO 33 (.mkmap),
uO 34 (.mkmap),
uO 35 (.build [.p (.str []),.p (.int .i64 0),.p (.int .i64 0),.sl0 (some 2),.sl0 (some 2),.p (.str []),.p (.str []),.nilm,.nilm] [(0,5,32),(6,1,(cS [48])),(7,1,33),(8,1,34)]),
uO 36 (.uns 12 0 [35]),
mV 8 36] [5,7,8,18,19,20])
(.seq (.seq (rg [fA 37 3 none 7,
lD 38 none 37,
lN 39 38,
mV 40 (cI 0)] [5,8,18,19,20,38,39,40])
(.block 2 (.loop (.scope KJ))))
gW)))))
iW)))
def RK (C:Hd)(gl:GL)(e:En)(h:aA)(x:Esc)(K:KT):Sf C gl QM e h x K:=⟨_,by simp only[QM,↓wZ,AO.still];rfl⟩
theorem aU {C gl e h x K}:NW C gl QM ⟨e,h,x⟩ K=(RK C gl e h x K).1:=(RK C gl e h x K).2
theorem zmj {C gl e h x K}:NW C gl (.loop (.scope QM)) ⟨e,h,x⟩ K=NA C gl (.scope QM) K [(5,eA e 5),(18,eA e 18),(19,eA e 19),(20,eA e 20)] h x:=fC
def jW:ACode:=.pr [5] (.seq (rg [mV 78 5,
mV 2 78,
mV 3 (cI 0)] [2,3])
.ret)
def LO (C:Hd)(gl:GL)(e:En)(h:aA)(x:Esc)(K:KT):Sf C gl jW e h x K:=⟨_,by simp only[jW,↓wZ,AO.still];rfl⟩
theorem z2B {C gl e h x K}:NW C gl jW ⟨e,h,x⟩ K=(LO C gl e h x K).1:=(LO C gl e h x K).2
def z4E:ACode:=(.seq (rg [mV 2 (.c (.nilp)),
mV 3 (cI 0)] [0])
(.seq (.seq (rg [mV 11 0,
cL 12 SH [11],
mV 4 12] [0,4])
(.seq (rg [mV 13 4,
bN 14 .neq 13 (cI 0)] [0,4,14])
(.cond 14 (.seq (rg [mV 15 4,
mV 2 (.c (.nilp)),
mV 3 15] [2,3])
.ret)
.skip)))
(.seq (rg [uO 16 (.build [.p (.int .i64 0),.sl0 none] [(0,1,(cI 0))]),
uO 17 (.uns 12 1 [16]),
mV 5 17] [0,5])
(.seq (.seq (rg [mV 18 0,
lN 19 18,
mV 20 (cI 0)] [5,18,19,20])
(.block 0 (.loop (.scope QM))))
jW))))
def GZ:AFun:=⟨1,[.t 2,.t 3],z4E,false,false⟩
def oT (C:Hd)(gl:GL)(e:En)(h:aA)(x:Esc)(K:KT):Sf C gl z4E e h x K:=⟨_,by simp only[z4E,↓wZ,AO.still];rfl⟩
theorem zjo {C gl v0 h x K}:NW C gl GZ.body ⟨enter [v0],h,x⟩ K=(oT C gl [(0,v0)] h x K).1:=(oT C gl [(0,v0)] h x K).2
def z3t:ACode:=(.seq (rg [mV 2 cF] [0])
(.seq (rg [mV 3 0,
cL 4 zL [3,(cS [48,49])],
bN 5 .eql 4 (cS []),
mV 2 5] [2])
.ret))
def cY:AFun:=⟨1,[.t 2],z3t,false,false⟩
def YR (C:Hd)(gl:GL)(e:En)(h:aA)(x:Esc)(K:KT):Sf C gl z3t e h x K:=⟨_,by simp only[z3t,↓wZ,AO.still];rfl⟩
theorem zgG {C gl v0 h x K}:NW C gl cY.body ⟨enter [v0],h,x⟩ K=(YR C gl [(0,v0)] h x K).1:=(YR C gl [(0,v0)] h x K).2
def NM:ACode:=.pr [0,1,7,17,18,19] (.seq (rg [bN 20 .lss 19 18] [0,1,7,17,18,19,20])
(.seq (.cond 20 .skip
(.exit 0))
(.seq (.block 1 (.seq (rg [iA 21 none 17 19,
lD 22 none 21,
mV 9 22] [0,1,7,9,17,18,19])
(rg [mV 23 0,
mV 24 9,
mV 25 7,
cL 26 WP [23,24,25],
mV 7 26] [0,1,7,17,18,19])))
(rg [bN 27 .add 19 (cI 1),
mV 19 27] [0,1,7,17,18,19]))))
def z1Q (C:Hd)(gl:GL)(e:En)(h:aA)(x:Esc)(K:KT):Sf C gl NM e h x K:=⟨_,by simp only[NM,↓wZ,AO.still];rfl⟩
theorem zjm {C gl e h x K}:NW C gl NM ⟨e,h,x⟩ K=(z1Q C gl e h x K).1:=(z1Q C gl e h x K).2
theorem zmg {C gl e h x K}:NW C gl (.loop NM) ⟨e,h,x⟩ K=NA C gl NM K [(0,eA e 0),(1,eA e 1),(7,eA e 7),(17,eA e 17),(18,eA e 18),(19,eA e 19)] h x:=MB
def dW:ACode:=.pr [0,1,10] (.seq (rg [mV 43 0,
mV 44 0,
uO 45 (.nilchk 44),
fA 46 0 none 45,
lD 47 none 46,
mV 48 1,
cL 49 uG [47,48],
uO 50 (.nilchk 43),
fA 51 0 none 50,
wO (.store none 51 49)] [10])
(.seq (rg [mV 52 10,
mV 6 52] [6])
.ret))
def aJ (C:Hd)(gl:GL)(e:En)(h:aA)(x:Esc)(K:KT):Sf C gl dW e h x K:=⟨_,by simp only[dW,↓wZ,AO.still];rfl⟩
theorem eP {C gl e h x K}:NW C gl dW ⟨e,h,x⟩ K=(aJ C gl e h x K).1:=(aJ C gl e h x K).2
def eW:ACode:=.pr [0,1,7] (.seq (rg [mV 10 (cI (-1))] [0,1,7,10])
(.seq (.seq (rg [mV 28 0,
uO 29 (.nilchk 28),
fA 30 0 none 29,
lD 31 none 30,
bN 32 .eql 31 (cI 4),
mV 33 32,
gD 34 33 false (.mv 0),
gD 35 33 false (.nilchk 34),
gD 36 33 false (.faddr 0 none 35),
gD 37 33 false (.load none 36),
gD 38 33 false (.bin .eql 37 (cI 11)),
uO 39 (.pick 33 cT 38)] [0,1,7,10,39])
(.cond 39 (rg [mV 40 7,
bN 41 .sub 40 (.c (.p (.int .u8 48))),
uO 42 (.conv (.i .i64) 41),
mV 10 42] [0,1,10])
.skip))
dW))
def bJ (C:Hd)(gl:GL)(e:En)(h:aA)(x:Esc)(K:KT):Sf C gl eW e h x K:=⟨_,by simp only[eW,↓wZ,AO.still];rfl⟩
theorem fP {C gl e h x K}:NW C gl eW ⟨e,h,x⟩ K=(bJ C gl e h x K).1:=(bJ C gl e h x K).2
def z4C:ACode:=(.seq (rg [mV 6 (cI 0)] [0,1,2])
(.seq (rg [mV 11 2,
bN 12 .add (cI 48) 11,
uO 13 (.conv (.i .u8) 12),
mV 7 13] [0,1,7])
(.seq (.seq (rg [mV 14 0,
uO 15 (.nilchk 14),
fA 16 1 none 15,
lD 17 none 16,
lN 18 17,
mV 19 (cI 0)] [0,1,7,17,18,19])
(.block 0 (.loop NM)))
eW)))
def EZ:AFun:=⟨3,[.t 6],z4C,false,false⟩
def mT (C:Hd)(gl:GL)(e:En)(h:aA)(x:Esc)(K:KT):Sf C gl z4C e h x K:=⟨_,by simp only[z4C,↓wZ,AO.still];rfl⟩
theorem zjl {C gl v0 v1 v2 h x K}:NW C gl EZ.body ⟨enter [v0,v1,v2],h,x⟩ K=(mT C gl [(0,v0),(1,v1),(2,v2)] h x K).1:=(mT C gl [(0,v0),(1,v1),(2,v2)] h x K).2
def z31:ACode:=(.seq (rg [mV 4 (cI 0)] [0,1])
(.seq (rg [mV 5 0,
mV 6 1,
cL 7 gJ [5,6],
mV 4 7] [4])
.ret))
def lY:AFun:=⟨2,[.t 4],z31,false,false⟩
def fO (C:Hd)(gl:GL)(e:En)(h:aA)(x:Esc)(K:KT):Sf C gl z31 e h x K:=⟨_,by simp only[z31,↓wZ,AO.still];rfl⟩
theorem zhf {C gl v0 v1 h x K}:NW C gl lY.body ⟨enter [v0,v1],h,x⟩ K=(fO C gl [(0,v0),(1,v1)] h x K).1:=(fO C gl [(0,v0),(1,v1)] h x K).2
def LM:ACode:=.pr [0,1,7,8] (.seq (rg [bN 9 .lss 8 7] [0,1,7,8,9])
(.seq (.cond 9 .skip
(.exit 0))
(.seq (.block 1 (.seq (rg [mV 10 8,
mV 5 10] [0,1,5,7,8])
(.seq (rg [mV 11 1,
mV 12 0,
mV 13 5,
iA 14 (some 2) 12 13,
lD 15 (some 2) 14,
uO 16 (.callv 11 [15])] [0,1,5,7,8,16])
(.cond 16 (.seq (rg [mV 17 5,
mV 4 17] [4])
.ret)
.skip))))
(rg [bN 18 .add 8 (cI 1),
mV 8 18] [0,1,7,8]))))
def z1M (C:Hd)(gl:GL)(e:En)(h:aA)(x:Esc)(K:KT):Sf C gl LM e h x K:=⟨_,by simp only[LM,↓wZ,AO.still];rfl⟩
theorem ziZ {C gl e h x K}:NW C gl LM ⟨e,h,x⟩ K=(z1M C gl e h x K).1:=(z1M C gl e h x K).2
theorem zme {C gl e h x K}:NW C gl (.loop LM) ⟨e,h,x⟩ K=NA C gl LM K [(0,eA e 0),(1,eA e 1),(7,eA e 7),(8,eA e 8)] h x:=MB
def ZV:ACode:=.pr [] (.seq (rg [mV 4 (cI (-1))] [4])
.ret)
def z1N (C:Hd)(gl:GL)(e:En)(h:aA)(x:Esc)(K:KT):Sf C gl ZV e h x K:=⟨_,by simp only[ZV,↓wZ,AO.still];rfl⟩
theorem zja {C gl e h x K}:NW C gl ZV ⟨e,h,x⟩ K=(z1N C gl e h x K).1:=(z1N C gl e h x K).2
def z42:ACode:=(.seq (rg [mV 4 (cI 0)] [0,1])
(.seq (.seq (rg [mV 6 0,
lN 7 6,
mV 8 (cI 0)] [0,1,7,8])
(.block 0 (.loop LM)))
ZV))
def uZ:AFun:=⟨2,[.t 4],z42,true,false⟩
def bT (C:Hd)(gl:GL)(e:En)(h:aA)(x:Esc)(K:KT):Sf C gl z42 e h x K:=⟨_,by simp only[z42,↓wZ,AO.still];rfl⟩
theorem ziY {C gl v0 v1 h x K}:NW C gl uZ.body ⟨enter [v0,v1],h,x⟩ K=(bT C gl [(0,v0),(1,v1)] h x K).1:=(bT C gl [(0,v0),(1,v1)] h x K).2
def z3W:ACode:=(.seq (rg [uO 2 (.box 0),
mV 3 cF] [1,2])
(.seq (rg [fA 4 0 none 2,
lD 5 none 4,
fA 6 1 none 1,
lD 7 none 6,
bN 8 .eql 5 7,
mV 3 8] [3])
.ret))
def PY:AFun:=⟨2,[.t 3],z3W,false,false⟩
def yS (C:Hd)(gl:GL)(e:En)(h:aA)(x:Esc)(K:KT):Sf C gl z3W e h x K:=⟨_,by simp only[z3W,↓wZ,AO.still];rfl⟩
theorem zhY {C gl v0 v1 h x K}:NW C gl PY.body ⟨enter [v0,v1],h,x⟩ K=(yS C gl [(0,v0),(1,v1)] h x K).1:=(yS C gl [(0,v0),(1,v1)] h x K).2
def z3H:ACode:=(.seq (rg [mV 2 (cI 0)] [0])
(.seq (.seq (rg [mV 3 0,
cL 4 zL [3,(cS [48,49])],
bN 5 .neq 4 (cS [])] [5])
(.cond 5 (.seq (rg [mV 2 (cI 9)] [2])
.ret)
.skip))
(.seq (rg [mV 2 (cI 0)] [2])
.ret)))
def AY:AFun:=⟨1,[.t 2],z3H,false,false⟩
def mO (C:Hd)(gl:GL)(e:En)(h:aA)(x:Esc)(K:KT):Sf C gl z3H e h x K:=⟨_,by simp only[z3H,↓wZ,AO.still];rfl⟩
theorem zh7 {C gl v0 h x K}:NW C gl AY.body ⟨enter [v0],h,x⟩ K=(mO C gl [(0,v0)] h x K).1:=(mO C gl [(0,v0)] h x K).2
def z48:ACode:=(.seq (rg [mV 4 cF] [0,1])
(.seq (rg [mV 5 0,
mV 6 1,
cL 7 VP [5,6],
bN 8 .geq 7 (cI 0),
mV 4 8] [4])
.ret))
def AZ:AFun:=⟨2,[.t 4],z48,false,false⟩
def iT (C:Hd)(gl:GL)(e:En)(h:aA)(x:Esc)(K:KT):Sf C gl z48 e h x K:=⟨_,by simp only[z48,↓wZ,AO.still];rfl⟩
theorem zjh {C gl v0 v1 h x K}:NW C gl AZ.body ⟨enter [v0,v1],h,x⟩ K=(iT C gl [(0,v0),(1,v1)] h x K).1:=(iT C gl [(0,v0),(1,v1)] h x K).2
def z4u:ACode:=(.seq (rg [mV 4 cF] [0,1])
(.seq (rg [mV 5 0,
mV 6 1,
cL 7 SP [5,6],
bN 8 .geq 7 (cI 0),
mV 4 8] [4])
.ret))
def mZ:AFun:=⟨2,[.t 4],z4u,true,false⟩
def VS (C:Hd)(gl:GL)(e:En)(h:aA)(x:Esc)(K:KT):Sf C gl z4u e h x K:=⟨_,by simp only[z4u,↓wZ,AO.still];rfl⟩
theorem ziG {C gl v0 v1 h x K}:NW C gl mZ.body ⟨enter [v0,v1],h,x⟩ K=(VS C gl [(0,v0),(1,v1)] h x K).1:=(VS C gl [(0,v0),(1,v1)] h x K).2
def z3X:ACode:=(.seq (rg [uO 2 (.box 0),
mV 3 cF] [1,2])
(.seq (rg [fA 4 0 none 2,
lD 5 none 4,
fA 6 0 none 1,
lD 7 none 6,
bN 8 .eql 5 7,
mV 3 8] [3])
.ret))
def QY:AFun:=⟨2,[.t 3],z3X,false,false⟩
def zS (C:Hd)(gl:GL)(e:En)(h:aA)(x:Esc)(K:KT):Sf C gl z3X e h x K:=⟨_,by simp only[z3X,↓wZ,AO.still];rfl⟩
theorem zhZ {C gl v0 v1 h x K}:NW C gl QY.body ⟨enter [v0,v1],h,x⟩ K=(zS C gl [(0,v0),(1,v1)] h x K).1:=(zS C gl [(0,v0),(1,v1)] h x K).2
def z4w:ACode:=(.seq (rg [mV 4 cF] [0,1])
(.seq (rg [mV 5 0,
mV 6 1,
cL 7 TP [5,6],
bN 8 .geq 7 (cI 0),
mV 4 8] [4])
.ret))
def oZ:AFun:=⟨2,[.t 4],z4w,true,false⟩
def XS (C:Hd)(gl:GL)(e:En)(h:aA)(x:Esc)(K:KT):Sf C gl z4w e h x K:=⟨_,by simp only[z4w,↓wZ,AO.still];rfl⟩
theorem ziI {C gl v0 v1 h x K}:NW C gl oZ.body ⟨enter [v0,v1],h,x⟩ K=(XS C gl [(0,v0),(1,v1)] h x K).1:=(XS C gl [(0,v0),(1,v1)] h x K).2
def z3O:ACode:=(.seq (rg [mV 8 0,
uO 9 (.nilchk 8),
fA 10 0 none 9,
lD 11 none 10,
mV 12 1,
iA 13 (some 5) 11 12,
lD 14 (some 5) 13,
uO 4 (.alloc [.p (.str []),.p (.int .i64 0),.p (.int .i64 0),.sl0 (some 2),.sl0 (some 2)]),
wO (.store (some 5) 4 14)] [0,1,4])
(.seq (rg [mV 15 0,
uO 16 (.nilchk 15),
fA 17 1 none 16,
lD 18 none 17] [0,1,4,18])
(.block 0 (.seq (rg [bN 20 .eql 18 (cI 0),
mV 19 20] [0,1,4,18,19])
(.cond 19 (rg [mV 21 0,
uO 22 (.nilchk 21),
fA 23 2 none 22,
lD 24 none 23,
mV 25 1,
iA 26 none 24 25,
wO (.store none 26 (cS []))] [])
(.seq (rg [bN 28 .eql 18 (cI 3),
mV 27 28] [0,1,4,18,27])
(.cond 27 (dr [dF (mV 29 0) [0],
dF (uO 30 (.nilchk 29)) [29],
dF (fA 31 3 none 30) [30],
dF (lD 32 none 31) [31],
dF (mV 33 1) [1],
dF (mV 34 0) [0],
dF (mV 35 1) [1],
dA (cL 36 BP [34,35]) [34,35] true [] [3],
dF (iA 37 none 32 33) [32,33],
dT (wO (.store none 37 36)) [37,36]] [])
(.seq (rg [bN 39 .eql 18 (cI 10),
mV 38 39] [0,1,4,18,38])
(.cond 38 (dr [dF (mV 40 0) [0],
dF (uO 41 (.nilchk 40)) [40],
dF (fA 42 3 none 41) [41],
dF (lD 43 none 42) [42],
dF (mV 44 1) [1],
dF (fA 45 1 none 4) [4],
dF (lD 46 none 45) [45],
dF (bN 47 .sub 46 (cI 1)) [46],
dA (cL 48 PB [(cS [48]),47]) [47] true [] [3],
dF (bN 49 .add (cS [49]) 48) [48],
dF (iA 50 none 43 44) [43,44],
dT (wO (.store none 50 49)) [50,49]] [])
(.seq (rg [bN 52 .eql 18 (cI 15),
mV 51 52] [0,1,4,18,51])
(.cond 51 (dr [dF (mV 53 0) [0],
dF (uO 54 (.nilchk 53)) [53],
dF (fA 55 2 none 54) [54],
dF (lD 56 none 55) [55],
dF (mV 57 1) [1],
dF (mV 58 0) [0],
dF (uO 59 (.nilchk 58)) [58],
dF (fA 60 3 none 59) [59],
dF (lD 61 none 60) [60],
dF (mV 62 1) [1],
dF (iA 63 none 61 62) [61,62],
dF (lD 64 none 63) [63],
dF (iA 65 none 56 57) [56,57],
dT (wO (.store none 65 64)) [65,64]] [])
(.seq (rg [bN 67 .eql 18 (cI 8),
mV 66 67] [0,1,4,66])
(.cond 66 (.seq (dr [dF (fA 68 0 none 4) [4],
dF (lD 69 none 68) [68],
dF (lD 70 (some 5) 4) [4],
dF (mV 71 0) [0],
dF (uO 72 (.nilchk 71)) [71],
dF (fA 73 2 none 72) [72],
dF (lD 74 none 73) [73],
dF (mV 75 1) [1],
dF (iA 76 none 74 75) [74,75],
dF (lD 77 none 76) [76],
dF (cL 78 kL [70,77]) [70,77],
dF (uO 79 (.field 0 none 78)) [78],
dF (uO 80 (.build [.p (.str []),.p (.str [])] [(0,1,69),(1,1,79)])) [69,79],
dA (uO 5 (.alloc [.p (.str []),.p (.str [])])) [] true [] [1,2,6,8,9,10],
dT (wO (.store (some 2) 5 80)) [5,80]] [0,1,5])
(.seq (dr [dF (mV 82 0) [0],
dF (uO 83 (.nilchk 82)) [82],
dF (fA 84 5 none 83) [83],
dF (lD 85 none 84) [84],
dF (lD 86 (some 2) 5) [5],
dF (uO 87 (.look ((some 2),[2,2]) true (.p (.str [])) 85 86)) [85,86],
dF (mV 81 87) [87],
dF (eX 88 81 0) [81],
dF (eX 89 81 1) [81],
dF (mV 6 88) [88],
dF (mV 7 89) [89]] [0,1,5,7])
(.seq (rg [mV 90 7] [0,1,5,90])
(.cond 90 (dr [dF (mV 91 0) [0],
dF (uO 92 (.nilchk 91)) [91],
dF (fA 93 5 none 92) [92],
dF (lD 94 none 93) [93],
dF (lD 95 (some 2) 5) [5],
dF (mV 96 0) [0],
dF (uO 97 (.nilchk 96)) [96],
dF (fA 98 3 none 97) [97],
dF (lD 99 none 98) [98],
dF (mV 100 1) [1],
dF (iA 101 none 99 100) [99,100],
dF (lD 102 none 101) [101],
dT (wO (.mupd ((some 2),[2,2]) 94 95 102)) [94,95,102]] [])
.skip))))
.skip)))))))))))))
def HY:AFun:=⟨2,[],z3O,false,false⟩
def nG (C:Hd)(gl:GL)(e:En)(h:aA)(x:Esc)(K:KT):Sf C gl z3O e h x K:=⟨_,by simp only[z3O,↓wZ,AO.still];rfl⟩
theorem zhJ {C gl v0 v1 h x K}:NW C gl HY.body ⟨enter [v0,v1],h,x⟩ K=(nG C gl [(0,v0),(1,v1)] h x K).1:=(nG C gl [(0,v0),(1,v1)] h x K).2
def z3T:ACode:=(.seq (rg [mV 4 (cI 0)] [0,1])
(.seq (rg [uO 5 (.build [.p (.int .i64 0),.p (.int .i64 0)] [(0,1,(cI 1)),(1,1,(cI 0))]),
uO 6 (.build [.p (.int .i64 0),.p (.int .i64 0)] [(0,1,(cI 1)),(1,1,(cI 2))]),
uO 7 (.build [.p (.int .i64 0),.p (.int .i64 0)] [(0,1,(cI 3)),(1,1,(cI 9))]),
uO 8 (.build [.p (.int .i64 0),.p (.int .i64 0)] [(0,1,(cI 4)),(1,1,(cI 5))]),
uO 9 (.build [.p (.int .i64 0),.p (.int .i64 0)] [(0,1,(cI 4)),(1,1,(cI 5))]),
uO 10 (.build [.p (.int .i64 0),.p (.int .i64 0)] [(0,1,(cI 6)),(1,1,(cI 8))]),
uO 11 (.build [.p (.int .i64 0),.p (.int .i64 0)] [(0,1,(cI 6)),(1,1,(cI 7))]),
uO 12 (.build [.p (.int .i64 0),.p (.int .i64 0)] [(0,1,(cI 4)),(1,1,(cI 8))]),
uO 13 (.build [.p (.int .i64 0),.p (.int .i64 0)] [(0,1,(cI 1)),(1,1,(cI 2))]),
uO 14 (.build [.p (.int .i64 0),.p (.int .i64 0)] [(0,1,(cI 10)),(1,1,(cI 0))]),
uO 15 (.build [.p (.int .i64 0),.p (.int .i64 0)] [(0,1,(cI 11)),(1,1,(cI 12))]),
uO 16 (.build [.p (.int .i64 0),.p (.int .i64 0)] [(0,1,(cI 11)),(1,1,(cI 12))]),
uO 17 (.build [.p (.int .i64 0),.p (.int .i64 0)] [(0,1,(cI 13)),(1,1,(cI 15))]),
uO 18 (.build [.p (.int .i64 0),.p (.int .i64 0)] [(0,1,(cI 13)),(1,1,(cI 14))]),
uO 19 (.build [.p (.int .i64 0),.p (.int .i64 0)] [(0,1,(cI 11)),(1,1,(cI 15))]),
uO 20 (.build [.p (.int .i64 0),.p (.int .i64 0)] [(0,1,(cI 1)),(1,1,(cI 2))]),
uO 21 (.build [.p (.int .i64 0),.p (.int .i64 0),.p (.int .i64 0),.p (.int .i64 0),.p (.int .i64 0),.p (.int .i64 0),.p (.int .i64 0),.p (.int .i64 0),.p (.int .i64 0),.p (.int .i64 0),.p (.int .i64 0),.p (.int .i64 0),.p (.int .i64 0),.p (.int .i64 0),.p (.int .i64 0),.p (.int .i64 0),.p (.int .i64 0),.p (.int .i64 0),.p (.int .i64 0),.p (.int .i64 0),.p (.int .i64 0),.p (.int .i64 0),.p (.int .i64 0),.p (.int .i64 0),.p (.int .i64 0),.p (.int .i64 0),.p (.int .i64 0),.p (.int .i64 0),.p (.int .i64 0),.p (.int .i64 0),.p (.int .i64 0),.p (.int .i64 0)] [(0,2,5),(2,2,6),(4,2,7),(6,2,8),(8,2,9),(10,2,10),(12,2,11),(14,2,12),(16,2,13),(18,2,14),(20,2,15),(22,2,16),(24,2,17),(26,2,18),(28,2,19),(30,2,20)]),
mV 22 0,
uO 23 (.idxa 16 (some 2) 21 22),
mV 24 1,
uO 25 (.idxa 2 none 23 24),
mV 4 25] [4])
.ret))
def MY:AFun:=⟨2,[.t 4],z3T,false,false⟩
def vS (C:Hd)(gl:GL)(e:En)(h:aA)(x:Esc)(K:KT):Sf C gl z3T e h x K:=⟨_,by simp only[z3T,↓wZ,AO.still];rfl⟩
theorem zhV {C gl v0 v1 h x K}:NW C gl MY.body ⟨enter [v0,v1],h,x⟩ K=(vS C gl [(0,v0),(1,v1)] h x K).1:=(vS C gl [(0,v0),(1,v1)] h x K).2
def iV:ACode:=.pr [0,1,6,8,9,12,13,14] (.seq (.seq (rg [mV 31 9,
mV 32 1,
bN 33 .eql 31 32] [0,1,6,8,12,13,14,33])
(.cond 33 (.seq (rg [mV 34 8,
mV 4 34] [4])
.ret)
.skip))
(rg [mV 35 6,
mV 36 8,
bN 37 .add 36 (cS [48]),
mV 38 8,
bN 39 .add 38 (cS [49]),
uO 40 (.bsl false none 2 (.str []) [(0,37),(1,39)]),
uO 41 (.app none 35 40),
mV 6 41] [0,1,6,12,13,14]))
def z1m (C:Hd)(gl:GL)(e:En)(h:aA)(x:Esc)(K:KT):Sf C gl iV e h x K:=⟨_,by simp only[iV,↓wZ,AO.still];rfl⟩
theorem zhD {C gl e h x K}:NW C gl iV ⟨e,h,x⟩ K=(z1m C gl e h x K).1:=(z1m C gl e h x K).2
def jV:ACode:=.pr [0,1,6,12,13,14] (rg [bN 42 .add 14 (cI 1),
mV 14 42] [0,1,6,12,13,14])
def z1n (C:Hd)(gl:GL)(e:En)(h:aA)(x:Esc)(K:KT):Sf C gl jV e h x K:=⟨_,by simp only[jV,↓wZ,AO.still];rfl⟩
theorem zhE {C gl e h x K}:NW C gl jV ⟨e,h,x⟩ K=(z1n C gl e h x K).1:=(z1n C gl e h x K).2
def nM:ACode:=.pr [0,1,6,12,13,14] (.seq (rg [bN 15 .lss 14 13] [0,1,6,12,13,14,15])
(.seq (.cond 15 .skip
(.exit 2))
(.seq (.block 3 (.seq (rg [iA 16 none 12 14,
lD 17 none 16,
mV 8 17] [0,1,6,8,12,13,14])
(.seq (rg [mV 18 0,
mV 9 18] [0,1,6,8,9,12,13,14])
(.seq (.seq (rg [mV 19 0,
mV 20 8,
cL 21 EP [19,20],
mV 10 21] [0,1,6,8,9,10,12,13,14])
(.seq (rg [mV 22 10,
lN 23 22,
bN 24 .gtr 23 (cI 0)] [0,1,6,8,9,10,12,13,14,24])
(.cond 24 (rg [mV 25 10,
mV 26 10,
lN 27 26,
bN 28 .sub 27 (cI 1),
iA 29 none 25 28,
lD 30 none 29,
mV 9 30] [0,1,6,8,9,12,13,14])
.skip)))
iV))))
jV)))
def z1o (C:Hd)(gl:GL)(e:En)(h:aA)(x:Esc)(K:KT):Sf C gl nM e h x K:=⟨_,by simp only[nM,↓wZ,AO.still];rfl⟩
theorem zhF {C gl e h x K}:NW C gl nM ⟨e,h,x⟩ K=(z1o C gl e h x K).1:=(z1o C gl e h x K).2
theorem zlF {C gl e h x K}:NW C gl (.loop (.scope nM)) ⟨e,h,x⟩ K=NA C gl (.scope nM) K [(0,eA e 0),(1,eA e 1),(6,eA e 6),(12,eA e 12),(13,eA e 13),(14,eA e 14)] h x:=fC
def kV:ACode:=.pr [0,1,6] (rg [mV 43 6,
mV 5 43] [0,1,5])
def z1p (C:Hd)(gl:GL)(e:En)(h:aA)(x:Esc)(K:KT):Sf C gl kV e h x K:=⟨_,by simp only[kV,↓wZ,AO.still];rfl⟩
theorem zhG {C gl e h x K}:NW C gl kV ⟨e,h,x⟩ K=(z1p C gl e h x K).1:=(z1p C gl e h x K).2
def oM:ACode:=.pr [0,1,5] (.block 1 (.seq (rg [uO 6 (.new0 none)] [0,1,5,6])
(.seq (.seq (rg [mV 12 5,
lN 13 12,
mV 14 (cI 0)] [0,1,6,12,13,14])
(.block 2 (.loop (.scope nM))))
kV)))
def z1q (C:Hd)(gl:GL)(e:En)(h:aA)(x:Esc)(K:KT):Sf C gl oM e h x K:=⟨_,by simp only[oM,↓wZ,AO.still];rfl⟩
theorem zhH {C gl e h x K}:NW C gl oM ⟨e,h,x⟩ K=(z1q C gl e h x K).1:=(z1q C gl e h x K).2
theorem zlG {C gl e h x K}:NW C gl (.loop oM) ⟨e,h,x⟩ K=NA C gl oM K [(0,eA e 0),(1,eA e 1),(5,eA e 5)] h x:=MB
def z3M:ACode:=(.seq (rg [mV 4 (cS [])] [0,1])
(.seq (rg [uO 11 (.bsl false none 1 (.str []) [(0,(cS []))]),
mV 5 11] [0,1,5])
(.block 0 (.loop oM))))
def FY:AFun:=⟨2,[.t 4],z3M,false,false⟩
def sS (C:Hd)(gl:GL)(e:En)(h:aA)(x:Esc)(K:KT):Sf C gl z3M e h x K:=⟨_,by simp only[z3M,↓wZ,AO.still];rfl⟩
theorem zhC {C gl v0 v1 h x K}:NW C gl FY.body ⟨enter [v0,v1],h,x⟩ K=(sS C gl [(0,v0),(1,v1)] h x K).1:=(sS C gl [(0,v0),(1,v1)] h x K).2
def z5l:ACode:=(.seq (rg [mV 2 cF] [0])
(.seq (rg [mV 3 0,
bN 4 .eql 3 (cI 0),
mV 5 4,
gD 6 5 false (.mv 0),
gD 7 5 false (.bin .eql 6 (cI 1)),
uO 8 (.pick 5 cT 7),
mV 9 8,
gD 10 9 false (.mv 0),
gD 11 9 false (.bin .eql 10 (cI 6)),
uO 12 (.pick 9 cT 11),
mV 13 12,
gD 14 13 false (.mv 0),
gD 15 13 false (.bin .eql 14 (cI 13)),
uO 16 (.pick 13 cT 15),
mV 2 16] [2])
.ret))
def z0o:AFun:=⟨1,[.t 2],z5l,false,false⟩
def GH (C:Hd)(gl:GL)(e:En)(h:aA)(x:Esc)(K:KT):Sf C gl z5l e h x K:=⟨_,by simp only[z5l,↓wZ,AO.still];rfl⟩
theorem zkm {C gl v0 h x K}:NW C gl z0o.body ⟨enter [v0],h,x⟩ K=(GH C gl [(0,v0)] h x K).1:=(GH C gl [(0,v0)] h x K).2
def z5i:ACode:=(.seq (rg [uO 1 (.box 0),
mV 2 (cI 0)] [1])
(.seq (.block 0 (.seq (rg [fA 4 3 none 1,
lD 5 none 4,
bN 6 .eql 5 (cS []),
mV 3 6] [1,3])
(.cond 3 (.seq (rg [mV 2 (cI 8)] [2])
.ret)
(.seq (rg [fA 8 3 none 1,
lD 9 none 8,
cL 10 SF [9],
uO 11 (.un .not 10),
mV 7 11] [1,7])
(.cond 7 (.seq (rg [mV 2 (cI 9)] [2])
.ret)
(.seq (rg [fA 13 3 none 1,
lD 14 none 13,
uO 15 (.lens 14),
bN 16 .gtr 15 (cI 2000),
mV 12 16] [1,12])
(.cond 12 (.seq (rg [mV 2 (cI 2)] [2])
.ret)
(.seq (rg [fA 18 4 none 1,
lD 19 none 18,
bN 20 .neq 19 (cS []),
mV 21 20,
gD 22 21 true (.faddr 4 none 1),
gD 23 21 true (.load none 22),
gD 24 21 true (.lens 23),
gD 25 21 true (.faddr 3 none 1),
gD 26 21 true (.load none 25),
gD 27 21 true (.lens 26),
gD 28 21 true (.bin .neq 24 27),
gD 29 21 true (.mv 28),
gD 30 29 false (.faddr 5 none 1),
gD 31 29 false (.load none 30),
gD 32 29 false (.lens 31),
gD 33 29 false (.faddr 3 none 1),
gD 34 29 false (.load none 33),
gD 35 29 false (.lens 34),
gD 36 29 false (.bin .neq 32 35),
gD 37 21 true (.pick 29 cT 36),
uO 38 (.pick 21 37 cF),
mV 17 38] [1,17])
(.cond 17 (.seq (rg [mV 2 (cI 3)] [2])
.ret)
(.seq (rg [fA 40 4 none 1,
lD 41 none 40,
cL 42 SF [41],
uO 43 (.un .not 42),
mV 44 43,
gD 45 44 false (.faddr 5 none 1),
gD 46 44 false (.load none 45),
gD 47 44 false (.call SF [46]),
gD 48 44 false (.un .not 47),
uO 49 (.pick 44 cT 48),
mV 39 49] [1,39])
(.cond 39 (.seq (rg [mV 2 (cI 9)] [2])
.ret)
(.seq (rg [fA 51 4 none 1,
lD 52 none 51,
bN 53 .eql 52 (cS []),
mV 54 53,
gD 55 54 true (.faddr 5 none 1),
gD 56 54 true (.load none 55),
gD 57 54 true (.bin .neq 56 (cS [])),
uO 58 (.pick 54 57 cF),
mV 50 58] [50])
(.cond 50 (.seq (rg [mV 2 (cI 3)] [2])
.ret)
.skip)))))))))))))
(.seq (rg [mV 2 (cI 0)] [2])
.ret)))
def z0l:AFun:=⟨1,[.t 2],z5i,false,false⟩
def zE (C:Hd)(gl:GL)(e:En)(h:aA)(x:Esc)(K:KT):Sf C gl z5i e h x K:=⟨_,by simp only[z5i,↓wZ,AO.still];rfl⟩
theorem zkj {C gl v0 h x K}:NW C gl z0l.body ⟨enter [v0],h,x⟩ K=(zE C gl [(0,v0)] h x K).1:=(zE C gl [(0,v0)] h x K).2
def z4F:ACode:=(.seq (rg [mV 4 (cS []),
mV 5 (cI 0)] [0,1])
(.seq (.seq (rg [mV 6 0,
cL 7 BL [6],
uO 8 (.un .not 7),
mV 9 8,
gD 10 9 false (.mv 1),
gD 11 9 false (.call BL [10]),
gD 12 9 false (.un .not 11),
uO 13 (.pick 9 cT 12)] [0,1,13])
(.cond 13 (.seq (rg [mV 4 (cS []),
mV 5 (cI 1)] [4,5])
.ret)
.skip))
(.seq (rg [mV 14 0,
mV 15 1,
cL 16 CL [14,15],
mV 4 16,
mV 5 (cI 0)] [4,5])
.ret)))
def IZ:AFun:=⟨2,[.t 4,.t 5],z4F,false,false⟩
def pT (C:Hd)(gl:GL)(e:En)(h:aA)(x:Esc)(K:KT):Sf C gl z4F e h x K:=⟨_,by simp only[z4F,↓wZ,AO.still];rfl⟩
theorem zjp {C gl v0 v1 h x K}:NW C gl IZ.body ⟨enter [v0,v1],h,x⟩ K=(pT C gl [(0,v0),(1,v1)] h x K).1:=(pT C gl [(0,v0),(1,v1)] h x K).2
def z4I:ACode:=(.seq (rg [uO 2 (.box 0),
mV 3 cF] [1,2])
(.seq (rg [fA 4 0 none 2,
lD 5 none 4,
fA 6 0 none 1,
lD 7 none 6,
bN 8 .eql 5 7,
mV 3 8] [3])
.ret))
def LZ:AFun:=⟨2,[.t 3],z4I,false,false⟩
def rT (C:Hd)(gl:GL)(e:En)(h:aA)(x:Esc)(K:KT):Sf C gl z4I e h x K:=⟨_,by simp only[z4I,↓wZ,AO.still];rfl⟩
theorem zju {C gl v0 v1 h x K}:NW C gl LZ.body ⟨enter [v0,v1],h,x⟩ K=(rT C gl [(0,v0),(1,v1)] h x K).1:=(rT C gl [(0,v0),(1,v1)] h x K).2
def WM:ACode:=.pr [1,6,7,8] (.seq (rg [bN 9 .lss 8 7] [1,6,7,8,9])
(.seq (.cond 9 .skip
(.exit 0))
(.seq (.block 1 (.seq (rg [mV 10 8,
iA 11 (some 2) 6 8,
lD 12 (some 2) 11,
uO 4 (.alloc [.p (.str []),.p (.int .i64 0)]),
mV 3 10,
wO (.store (some 2) 4 12)] [1,3,4,6,7,8])
(.block 2 (.seq (rg [fA 14 0 none 4,
lD 15 none 14,
cL 16 iL [15],
uO 17 (.un .not 16),
mV 13 17] [1,3,4,6,7,8,13])
(.cond 13 (.seq (rg [mV 2 (cI 5)] [2])
.ret)
(.seq (rg [fA 19 0 none 4,
lD 20 none 19,
bN 21 .eql 20 (cS [98,121,112,97,115,115]),
mV 22 21,
gD 23 22 false (.faddr 0 none 4),
gD 24 22 false (.load none 23),
gD 25 22 false (.bin .eql 24 (cS [105,100,99,111,100,101])),
uO 26 (.pick 22 cT 25),
mV 27 26,
gD 28 27 false (.faddr 3 none 1),
gD 29 27 false (.load none 28),
gD 30 27 false (.mv 3),
gD 31 27 false (.slice (some 2) 29 none (some 30) none),
gD 32 27 false (.mkfn jQ [4]),
gD 33 27 false (.call lJ [31,32]),
uO 34 (.pick 27 cT 33),
mV 18 34] [1,4,6,7,8,18])
(.cond 18 (.seq (rg [mV 2 (cI 6)] [2])
.ret)
(.seq (rg [fA 36 1 none 4,
lD 37 none 36,
cL 38 TF [37,(cI 1),(cI 1000)],
mV 35 38] [1,6,7,8,35])
(.cond 35 (.seq (rg [mV 2 (cI 1)] [2])
.ret)
.skip)))))))))
(rg [bN 39 .add 8 (cI 1),
mV 8 39] [1,6,7,8]))))
def pG (C:Hd)(gl:GL)(e:En)(h:aA)(x:Esc)(K:KT):Sf C gl WM e h x K:=⟨_,by simp only[WM,↓wZ,AO.still];rfl⟩
theorem JH {C gl e h x K}:NW C gl WM ⟨e,h,x⟩ K=(pG C gl e h x K).1:=(pG C gl e h x K).2
theorem zmp {C gl e h x K}:NW C gl (.loop (.scope WM)) ⟨e,h,x⟩ K=NA C gl (.scope WM) K [(1,eA e 1),(6,eA e 6),(7,eA e 7),(8,eA e 8)] h x:=fC
def qW:ACode:=.pr [] (.seq (rg [mV 2 (cI 0)] [2])
.ret)
def BT (C:Hd)(gl:GL)(e:En)(h:aA)(x:Esc)(K:KT):Sf C gl qW e h x K:=⟨_,by simp only[qW,↓wZ,AO.still];rfl⟩
theorem z8E {C gl e h x K}:NW C gl qW ⟨e,h,x⟩ K=(BT C gl e h x K).1:=(BT C gl e h x K).2
def z4R:ACode:=(.seq (rg [uO 1 (.box 0),
mV 2 (cI 0)] [1])
(.seq (.seq (rg [fA 5 3 none 1,
lD 6 none 5,
lN 7 6,
mV 8 (cI 0)] [1,6,7,8])
(.block 0 (.loop (.scope WM))))
qW))
def TZ:AFun:=⟨1,[.t 2],z4R,false,false⟩
def AT (C:Hd)(gl:GL)(e:En)(h:aA)(x:Esc)(K:KT):Sf C gl z4R e h x K:=⟨_,by simp only[z4R,↓wZ,AO.still];rfl⟩
theorem zj8 {C gl v0 h x K}:NW C gl TZ.body ⟨enter [v0],h,x⟩ K=(AT C gl [(0,v0)] h x K).1:=(AT C gl [(0,v0)] h x K).2
def TM:ACode:=.pr [1,8,9,10] (.seq (rg [bN 11 .lss 10 9] [1,8,9,10,11])
(.seq (.cond 11 .skip
(.exit 0))
(.seq (.block 1 (.seq (rg [mV 12 10,
iA 13 (some 2) 8 10,
lD 14 (some 2) 13,
uO 4 (.alloc [.p (.str []),.p (.str [])]),
mV 3 12,
wO (.store (some 2) 4 14)] [1,3,4,8,9,10])
(.seq (.block 2 (.seq (rg [fA 16 0 none 4,
lD 17 none 16,
uO 18 (.lens 17),
fA 19 1 none 1,
lD 20 none 19,
bN 21 .neq 18 20,
mV 15 21] [1,3,4,8,9,10,15])
(.cond 15 (.seq (rg [mV 2 (cI 3)] [2])
.ret)
(.seq (rg [fA 23 0 none 4,
lD 24 none 23,
cL 25 SF [24],
uO 26 (.un .not 25),
mV 22 26] [1,3,4,8,9,10,22])
(.cond 22 (.seq (rg [mV 2 (cI 9)] [2])
.ret)
(.seq (rg [fA 28 0 none 4,
lD 29 none 28,
cL 30 xL [29,(cS [48])],
uO 31 (.un .not 30),
mV 27 31] [1,3,4,8,9,10,27])
(.cond 27 (.seq (rg [mV 2 (cI 16)] [2])
.ret)
(.seq (rg [fA 33 4 none 1,
lD 34 none 33,
mV 35 3,
uO 36 (.slice (some 2) 34 none (some 35) none),
uO 37 (.mkfn eQ [4]),
cL 38 sL [36,37],
mV 32 38] [1,4,8,9,10,32])
(.cond 32 (.seq (rg [mV 2 (cI 6)] [2])
.ret)
.skip)))))))))
(.seq (rg [lD 40 (some 5) 1,
fA 41 1 none 4,
lD 42 none 41,
cL 43 pJ [40,42],
mV 39 43,
eX 44 39 0,
eX 45 39 1,
uO 5 (.alloc [.p (.str []),.p (.int .i64 0)]),
wO (.store (some 2) 5 44),
mV 6 45] [1,6,8,9,10])
(.seq (rg [mV 46 6,
uO 47 (.un .not 46)] [1,8,9,10,47])
(.cond 47 (.seq (rg [mV 2 (cI 8)] [2])
.ret)
.skip))))))
(rg [bN 48 .add 10 (cI 1),
mV 10 48] [1,8,9,10]))))
def oG (C:Hd)(gl:GL)(e:En)(h:aA)(x:Esc)(K:KT):Sf C gl TM e h x K:=⟨_,by simp only[TM,↓wZ,AO.still];rfl⟩
theorem HH {C gl e h x K}:NW C gl TM ⟨e,h,x⟩ K=(oG C gl e h x K).1:=(oG C gl e h x K).2
theorem zml {C gl e h x K}:NW C gl (.loop (.scope TM)) ⟨e,h,x⟩ K=NA C gl (.scope TM) K [(1,eA e 1),(8,eA e 8),(9,eA e 9),(10,eA e 10)] h x:=fC
def nW:ACode:=.pr [] (.seq (rg [mV 2 (cI 0)] [2])
.ret)
def uT (C:Hd)(gl:GL)(e:En)(h:aA)(x:Esc)(K:KT):Sf C gl nW e h x K:=⟨_,by simp only[nW,↓wZ,AO.still];rfl⟩
theorem z8B {C gl e h x K}:NW C gl nW ⟨e,h,x⟩ K=(uT C gl e h x K).1:=(uT C gl e h x K).2
def z4J:ACode:=(.seq (rg [uO 1 (.box 0),
mV 2 (cI 0)] [1])
(.seq (.seq (rg [fA 7 4 none 1,
lD 8 none 7,
lN 9 8,
mV 10 (cI 0)] [1,8,9,10])
(.block 0 (.loop (.scope TM))))
nW))
def MZ:AFun:=⟨1,[.t 2],z4J,false,false⟩
def tT (C:Hd)(gl:GL)(e:En)(h:aA)(x:Esc)(K:KT):Sf C gl z4J e h x K:=⟨_,by simp only[z4J,↓wZ,AO.still];rfl⟩
theorem zjv {C gl v0 h x K}:NW C gl MZ.body ⟨enter [v0],h,x⟩ K=(tT C gl [(0,v0)] h x K).1:=(tT C gl [(0,v0)] h x K).2
def z4s:ACode:=(.det (.seq (rg [mV 2 (.c (.p (.sl (some 2) [])))] [0])
(.seq (.seq (rg [mV 3 0,
uO 4 (.isnil 4 false 3)] [0,4])
(.condu 4 (.seq (rg [mV 2 (.c (.p (.sl (some 2) [])))] [2])
.ret)
.skip))
(.seq (rg [uO 5 (.bsl true (some 2) 0 (.agg [.str [],.int .i64 0]) []),
mV 6 0,
uO 7 (.app (some 2) 5 6),
mV 2 7] [2])
.ret))))
def kZ:AFun:=⟨1,[.t 2],z4s,false,false⟩
def TS (C:Hd)(gl:GL)(e:En)(h:aA)(x:Esc)(K:KT):Sf C gl z4s e h x K:=⟨_,by simp only[z4s,↓wZ,AO.still];rfl⟩
theorem ziE {C gl v0 h x K}:NW C gl kZ.body ⟨enter [v0],h,x⟩ K=(TS C gl [(0,v0)] h x K).1:=(TS C gl [(0,v0)] h x K).2
def z4r:ACode:=(.det (.seq (rg [mV 2 (.c (.p (.sl (some 2) [])))] [0])
(.seq (.seq (rg [mV 3 0,
uO 4 (.isnil 4 false 3)] [0,4])
(.condu 4 (.seq (rg [mV 2 (.c (.p (.sl (some 2) [])))] [2])
.ret)
.skip))
(.seq (rg [uO 5 (.bsl true (some 2) 0 (.agg [.str [],.str []]) []),
mV 6 0,
uO 7 (.app (some 2) 5 6),
mV 2 7] [2])
.ret))))
def jZ:AFun:=⟨1,[.t 2],z4r,false,false⟩
def SS (C:Hd)(gl:GL)(e:En)(h:aA)(x:Esc)(K:KT):Sf C gl z4r e h x K:=⟨_,by simp only[z4r,↓wZ,AO.still];rfl⟩
theorem ziD {C gl v0 h x K}:NW C gl jZ.body ⟨enter [v0],h,x⟩ K=(SS C gl [(0,v0)] h x K).1:=(SS C gl [(0,v0)] h x K).2
def bW:ACode:=.pr [1,2,12,25] (.cond 25 (.seq (rg [mV 28 1,
uO 29 (.nilchk 28),
fA 30 6 none 29,
lD 31 none 30,
uO 32 (.idxs 31 (cI 0)),
mV 7 32] [1,2,7])
(.seq (rg [mV 33 1,
mV 34 1,
uO 35 (.nilchk 34),
fA 36 6 none 35,
lD 37 none 36,
uO 38 (.slstr 37 (some (cI 1)) none),
mV 39 2,
uO 40 (.conv (.i .i32) 39),
uO 41 (.conv .r2s 40),
bN 42 .add 38 41,
uO 43 (.nilchk 33),
fA 44 6 none 43,
wO (.store none 44 42)] [7])
(.seq (rg [mV 45 7,
mV 6 45] [6])
.ret)))
(.seq (rg [bN 47 .eql 12 (cI 8),
mV 46 47] [1,2,12,46])
(.cond 46 (.seq (rg [mV 48 1,
cL 49 DL [48],
uO 50 (.field 0 none 49),
mV 8 50] [1,2,8])
(.seq (rg [mV 51 8,
bN 52 .neq 51 (cS [98,121,112,97,115,115]),
mV 53 52,
gD 54 53 true (.mv 8),
gD 55 53 true (.bin .neq 54 (cS [105,100,99,111,100,101])),
uO 56 (.pick 53 55 cF)] [1,2,8,56])
(.cond 56 (dr [dF (mV 57 1) [1],
dF (uO 58 (.nilchk 57)) [57],
dF (fA 59 8 none 58) [58],
dF (lD 60 none 59) [59],
dF (mV 61 8) [8],
dF (mV 62 1) [1],
dF (uO 63 (.nilchk 62)) [62],
dF (fA 64 6 none 63) [63],
dF (lD 65 none 64) [64],
dT (wO (.mupd (none,[2]) 60 61 65)) [60,61,65]] [2])
.skip)))
(.seq (rg [bN 67 .eql 12 (cI 10),
mV 66 67] [1,2,12,66])
(.cond 66 (rg [mV 68 1,
mV 69 1,
uO 70 (.nilchk 69),
fA 71 0 (some 5) 70,
fA 72 1 none 71,
lD 73 none 72,
bN 74 .sub 73 (cI 1),
cL 75 PB [(cS [48]),74],
bN 76 .add (cS [49]) 75,
uO 77 (.nilchk 68),
fA 78 6 none 77,
wO (.store none 78 76)] [2])
(.seq (rg [bN 80 .eql 12 (cI 15),
mV 79 80] [1,2,79])
(.cond 79 (rg [mV 81 1,
mV 82 1,
uO 83 (.nilchk 82),
fA 84 6 none 83,
lD 85 none 84,
uO 86 (.nilchk 81),
fA 87 5 none 86,
wO (.store none 87 85)] [2])
.skip)))))))
def vF (C:Hd)(gl:GL)(e:En)(h:aA)(x:Esc)(K:KT):Sf C gl bW e h x K:=⟨_,by simp only[bW,↓wZ,AO.still];rfl⟩
theorem z27 {C gl e h x K}:NW C gl bW ⟨e,h,x⟩ K=(vF C gl e h x K).1:=(vF C gl e h x K).2
def cW:ACode:=.pr [2] (.seq (rg [mV 88 2,
mV 6 88] [6])
.ret)
def wE (C:Hd)(gl:GL)(e:En)(h:aA)(x:Esc)(K:KT):Sf C gl cW e h x K:=⟨_,by simp only[cW,↓wZ,AO.still];rfl⟩
theorem z28 {C gl e h x K}:NW C gl cW ⟨e,h,x⟩ K=(wE C gl e h x K).1:=(wE C gl e h x K).2
def z4B:ACode:=(.seq (rg [mV 6 (.c (.p (.int .u8 0)))] [0,1,2])
(.seq (.seq (rg [mV 9 0,
uO 10 (.nilchk 9),
fA 11 0 none 10,
lD 12 none 11] [1,2,12])
(.block 0 (.seq (rg [bN 14 .eql 12 (cI 0),
mV 13 14] [1,2,12,13])
(.cond 13 (rg [mV 15 1,
uO 16 (.nilchk 15),
fA 17 5 none 16,
wO (.store none 17 (cS []))] [2])
(.seq (rg [bN 19 .eql 12 (cI 3),
mV 18 19] [1,2,12,18])
(.cond 18 (rg [mV 20 1,
mV 21 1,
cL 22 fQ [21],
uO 23 (.nilchk 20),
fA 24 6 none 23,
wO (.store none 24 22)] [2])
(.seq (.seq (rg [bN 26 .eql 12 (cI 4),
mV 25 26] [1,2,12,25])
(.cond 25 .skip
(rg [bN 27 .eql 12 (cI 11),
mV 25 27] [1,2,12,25])))
bW)))))))
cW))
def DZ:AFun:=⟨3,[.t 6],z4B,false,false⟩
def WE (C:Hd)(gl:GL)(e:En)(h:aA)(x:Esc)(K:KT):Sf C gl z4B e h x K:=⟨_,by simp only[z4B,↓wZ,AO.still];rfl⟩
theorem zjk {C gl v0 v1 v2 h x K}:NW C gl DZ.body ⟨enter [v0,v1,v2],h,x⟩ K=(WE C gl [(0,v0),(1,v1),(2,v2)] h x K).1:=(WE C gl [(0,v0),(1,v1),(2,v2)] h x K).2
def zde:ACode:=(.seq (rg [mV 4 (cI 0)] [0,1])
(.seq (rg [uO 6 (.build [.p (.int .i64 0),.p (.int .i64 0)] [(0,1,(cI 1)),(1,1,(cI 0))]),
uO 7 (.build [.p (.int .i64 0),.p (.int .i64 0)] [(0,1,(cI 1)),(1,1,(cI 2))]),
uO 8 (.build [.p (.int .i64 0),.p (.int .i64 0)] [(0,1,(cI 3)),(1,1,(cI 9))]),
uO 9 (.build [.p (.int .i64 0),.p (.int .i64 0)] [(0,1,(cI 4)),(1,1,(cI 5))]),
uO 10 (.build [.p (.int .i64 0),.p (.int .i64 0)] [(0,1,(cI 4)),(1,1,(cI 5))]),
uO 11 (.build [.p (.int .i64 0),.p (.int .i64 0)] [(0,1,(cI 6)),(1,1,(cI 8))]),
uO 12 (.build [.p (.int .i64 0),.p (.int .i64 0)] [(0,1,(cI 6)),(1,1,(cI 7))]),
uO 13 (.build [.p (.int .i64 0),.p (.int .i64 0)] [(0,1,(cI 4)),(1,1,(cI 8))]),
uO 14 (.build [.p (.int .i64 0),.p (.int .i64 0)] [(0,1,(cI 1)),(1,1,(cI 2))]),
uO 15 (.build [.p (.int .i64 0),.p (.int .i64 0)] [(0,1,(cI 10)),(1,1,(cI 0))]),
uO 16 (.build [.p (.int .i64 0),.p (.int .i64 0)] [(0,1,(cI 11)),(1,1,(cI 12))]),
uO 17 (.build [.p (.int .i64 0),.p (.int .i64 0)] [(0,1,(cI 11)),(1,1,(cI 12))]),
uO 18 (.build [.p (.int .i64 0),.p (.int .i64 0)] [(0,1,(cI 13)),(1,1,(cI 15))]),
uO 19 (.build [.p (.int .i64 0),.p (.int .i64 0)] [(0,1,(cI 13)),(1,1,(cI 14))]),
uO 20 (.build [.p (.int .i64 0),.p (.int .i64 0)] [(0,1,(cI 11)),(1,1,(cI 15))]),
uO 21 (.build [.p (.int .i64 0),.p (.int .i64 0)] [(0,1,(cI 1)),(1,1,(cI 2))]),
uO 22 (.build [.p (.int .i64 0),.p (.int .i64 0),.p (.int .i64 0),.p (.int .i64 0),.p (.int .i64 0),.p (.int .i64 0),.p (.int .i64 0),.p (.int .i64 0),.p (.int .i64 0),.p (.int .i64 0),.p (.int .i64 0),.p (.int .i64 0),.p (.int .i64 0),.p (.int .i64 0),.p (.int .i64 0),.p (.int .i64 0),.p (.int .i64 0),.p (.int .i64 0),.p (.int .i64 0),.p (.int .i64 0),.p (.int .i64 0),.p (.int .i64 0),.p (.int .i64 0),.p (.int .i64 0),.p (.int .i64 0),.p (.int .i64 0),.p (.int .i64 0),.p (.int .i64 0),.p (.int .i64 0),.p (.int .i64 0),.p (.int .i64 0),.p (.int .i64 0)] [(0,2,6),(2,2,7),(4,2,8),(6,2,9),(8,2,10),(10,2,11),(12,2,12),(14,2,13),(16,2,14),(18,2,15),(20,2,16),(22,2,17),(24,2,18),(26,2,19),(28,2,20),(30,2,21)]),
uO 5 (.alloc [.p (.int .i64 0),.p (.int .i64 0),.p (.int .i64 0),.p (.int .i64 0),.p (.int .i64 0),.p (.int .i64 0),.p (.int .i64 0),.p (.int .i64 0),.p (.int .i64 0),.p (.int .i64 0),.p (.int .i64 0),.p (.int .i64 0),.p (.int .i64 0),.p (.int .i64 0),.p (.int .i64 0),.p (.int .i64 0),.p (.int .i64 0),.p (.int .i64 0),.p (.int .i64 0),.p (.int .i64 0),.p (.int .i64 0),.p (.int .i64 0),.p (.int .i64 0),.p (.int .i64 0),.p (.int .i64 0),.p (.int .i64 0),.p (.int .i64 0),.p (.int .i64 0),.p (.int .i64 0),.p (.int .i64 0),.p (.int .i64 0),.p (.int .i64 0)]),
wO (.store (some 32) 5 22)] [0,1,5])
(.seq (rg [mV 23 0,
mV 24 1,
uO 25 (.iaddra 16 (some 2) 5 23),
uO 26 (.iaddra 2 none 25 24),
lD 27 none 26,
mV 4 27] [4])
.ret)))
def RN:AFun:=⟨2,[.t 4],zde,false,false⟩
def yT (C:Hd)(gl:GL)(v0 v1:AV)(h:aA)(x:Esc)(K:KT):Prop:=
 pK (xC [.p (.int .i64 0),.p (.int .i64 0)] [(0,1,(AI 1)),(1,1,(AI 0))]) fun t1=>
 pK (xC [.p (.int .i64 0),.p (.int .i64 0)] [(0,1,(AI 1)),(1,1,(AI 2))]) fun t2=>
 pK (xC [.p (.int .i64 0),.p (.int .i64 0)] [(0,1,(AI 3)),(1,1,(AI 9))]) fun t3=>
 pK (xC [.p (.int .i64 0),.p (.int .i64 0)] [(0,1,(AI 4)),(1,1,(AI 5))]) fun t4=>
 pK (xC [.p (.int .i64 0),.p (.int .i64 0)] [(0,1,(AI 4)),(1,1,(AI 5))]) fun t5=>
 pK (xC [.p (.int .i64 0),.p (.int .i64 0)] [(0,1,(AI 6)),(1,1,(AI 8))]) fun t6=>
 pK (xC [.p (.int .i64 0),.p (.int .i64 0)] [(0,1,(AI 6)),(1,1,(AI 7))]) fun t7=>
 pK (xC [.p (.int .i64 0),.p (.int .i64 0)] [(0,1,(AI 4)),(1,1,(AI 8))]) fun t8=>
 pK (xC [.p (.int .i64 0),.p (.int .i64 0)] [(0,1,(AI 1)),(1,1,(AI 2))]) fun t9=>
 pK (xC [.p (.int .i64 0),.p (.int .i64 0)] [(0,1,(AI 10)),(1,1,(AI 0))]) fun t10=>
 pK (xC [.p (.int .i64 0),.p (.int .i64 0)] [(0,1,(AI 11)),(1,1,(AI 12))]) fun t11=>
 pK (xC [.p (.int .i64 0),.p (.int .i64 0)] [(0,1,(AI 11)),(1,1,(AI 12))]) fun t12=>
 pK (xC [.p (.int .i64 0),.p (.int .i64 0)] [(0,1,(AI 13)),(1,1,(AI 15))]) fun t13=>
 pK (xC [.p (.int .i64 0),.p (.int .i64 0)] [(0,1,(AI 13)),(1,1,(AI 14))]) fun t14=>
 pK (xC [.p (.int .i64 0),.p (.int .i64 0)] [(0,1,(AI 11)),(1,1,(AI 15))]) fun t15=>
 pK (xC [.p (.int .i64 0),.p (.int .i64 0)] [(0,1,(AI 1)),(1,1,(AI 2))]) fun t16=>
 pK (xC [.p (.int .i64 0),.p (.int .i64 0),.p (.int .i64 0),.p (.int .i64 0),.p (.int .i64 0),.p (.int .i64 0),.p (.int .i64 0),.p (.int .i64 0),.p (.int .i64 0),.p (.int .i64 0),.p (.int .i64 0),.p (.int .i64 0),.p (.int .i64 0),.p (.int .i64 0),.p (.int .i64 0),.p (.int .i64 0),.p (.int .i64 0),.p (.int .i64 0),.p (.int .i64 0),.p (.int .i64 0),.p (.int .i64 0),.p (.int .i64 0),.p (.int .i64 0),.p (.int .i64 0),.p (.int .i64 0),.p (.int .i64 0),.p (.int .i64 0),.p (.int .i64 0),.p (.int .i64 0),.p (.int .i64 0),.p (.int .i64 0),.p (.int .i64 0)] [(0,2,t1),(2,2,t2),(4,2,t3),(6,2,t4),(8,2,t5),(10,2,t6),(12,2,t7),(14,2,t8),(16,2,t9),(18,2,t10),(20,2,t11),(22,2,t12),(24,2,t13),(26,2,t14),(28,2,t15),(30,2,t16)]) fun t17=>
 alK [.p (.int .i64 0),.p (.int .i64 0),.p (.int .i64 0),.p (.int .i64 0),.p (.int .i64 0),.p (.int .i64 0),.p (.int .i64 0),.p (.int .i64 0),.p (.int .i64 0),.p (.int .i64 0),.p (.int .i64 0),.p (.int .i64 0),.p (.int .i64 0),.p (.int .i64 0),.p (.int .i64 0),.p (.int .i64 0),.p (.int .i64 0),.p (.int .i64 0),.p (.int .i64 0),.p (.int .i64 0),.p (.int .i64 0),.p (.int .i64 0),.p (.int .i64 0),.p (.int .i64 0),.p (.int .i64 0),.p (.int .i64 0),.p (.int .i64 0),.p (.int .i64 0),.p (.int .i64 0),.p (.int .i64 0),.p (.int .i64 0),.p (.int .i64 0)] h fun t18 h19 y20=>
 wK (tB (some 32) t18 t17 h19) fun t21 h22 y23=>
 pK (EJ 16 (some 2) t18 v0) fun t24=>
 pK (EJ 2 none t24 v1) fun t25=>
 pK (FA none t25 h22) fun t26=>
 K .ret ⟨[(4,t26)],h22,(y23++(y20++x))⟩
theorem z8C {C gl v0 v1 h x K}:NW C gl RN.body ⟨enter [v0,v1],h,x⟩ K=yT C gl v0 v1 h x K:=by kernel_rfl
def z49:ACode:=(.seq (rg [mV 4 (cI 0)] [0,1])
(.seq (rg [mV 5 0,
mV 6 1,
cL 7 pP [5,6],
mV 4 7] [4])
.ret))
def BZ:AFun:=⟨2,[.t 4],z49,false,false⟩
def jT (C:Hd)(gl:GL)(e:En)(h:aA)(x:Esc)(K:KT):Sf C gl z49 e h x K:=⟨_,by simp only[z49,↓wZ,AO.still];rfl⟩
theorem zji {C gl v0 v1 h x K}:NW C gl BZ.body ⟨enter [v0,v1],h,x⟩ K=(jT C gl [(0,v0),(1,v1)] h x K).1:=(jT C gl [(0,v0),(1,v1)] h x K).2
def KM:ACode:=.pr [0,1,7,8] (.seq (rg [bN 9 .lss 8 7] [0,1,7,8,9])
(.seq (.cond 9 .skip
(.exit 0))
(.seq (.block 1 (.seq (rg [mV 10 8,
mV 5 10] [0,1,5,7,8])
(.seq (rg [mV 11 1,
mV 12 0,
mV 13 5,
iA 14 (some 2) 12 13,
lD 15 (some 2) 14,
uO 16 (.callv 11 [15])] [0,1,5,7,8,16])
(.cond 16 (.seq (rg [mV 17 5,
mV 4 17] [4])
.ret)
.skip))))
(rg [bN 18 .add 8 (cI 1),
mV 8 18] [0,1,7,8]))))
def z1K (C:Hd)(gl:GL)(e:En)(h:aA)(x:Esc)(K:KT):Sf C gl KM e h x K:=⟨_,by simp only[KM,↓wZ,AO.still];rfl⟩
theorem ziW {C gl e h x K}:NW C gl KM ⟨e,h,x⟩ K=(z1K C gl e h x K).1:=(z1K C gl e h x K).2
theorem zmd {C gl e h x K}:NW C gl (.loop KM) ⟨e,h,x⟩ K=NA C gl KM K [(0,eA e 0),(1,eA e 1),(7,eA e 7),(8,eA e 8)] h x:=MB
def YV:ACode:=.pr [] (.seq (rg [mV 4 (cI (-1))] [4])
.ret)
def z1L (C:Hd)(gl:GL)(e:En)(h:aA)(x:Esc)(K:KT):Sf C gl YV e h x K:=⟨_,by simp only[YV,↓wZ,AO.still];rfl⟩
theorem ziX {C gl e h x K}:NW C gl YV ⟨e,h,x⟩ K=(z1L C gl e h x K).1:=(z1L C gl e h x K).2
def z41:ACode:=(.seq (rg [mV 4 (cI 0)] [0,1])
(.seq (.seq (rg [mV 6 0,
lN 7 6,
mV 8 (cI 0)] [0,1,7,8])
(.block 0 (.loop KM)))
YV))
def tZ:AFun:=⟨2,[.t 4],z41,true,false⟩
def aT (C:Hd)(gl:GL)(e:En)(h:aA)(x:Esc)(K:KT):Sf C gl z41 e h x K:=⟨_,by simp only[z41,↓wZ,AO.still];rfl⟩
theorem ziV {C gl v0 v1 h x K}:NW C gl tZ.body ⟨enter [v0,v1],h,x⟩ K=(aT C gl [(0,v0),(1,v1)] h x K).1:=(aT C gl [(0,v0),(1,v1)] h x K).2
def MM:ACode:=.pr [0,1,7,8] (.seq (rg [bN 9 .lss 8 7] [0,1,7,8,9])
(.seq (.cond 9 .skip
(.exit 0))
(.seq (.block 1 (.seq (rg [mV 10 8,
mV 5 10] [0,1,5,7,8])
(.seq (rg [mV 11 1,
mV 12 0,
mV 13 5,
iA 14 none 12 13,
lD 15 none 14,
bN 16 .eql 11 15] [0,1,5,7,8,16])
(.cond 16 (.seq (rg [mV 17 5,
mV 4 17] [4])
.ret)
.skip))))
(rg [bN 18 .add 8 (cI 1),
mV 8 18] [0,1,7,8]))))
def z1O (C:Hd)(gl:GL)(e:En)(h:aA)(x:Esc)(K:KT):Sf C gl MM e h x K:=⟨_,by simp only[MM,↓wZ,AO.still];rfl⟩
theorem zjc {C gl e h x K}:NW C gl MM ⟨e,h,x⟩ K=(z1O C gl e h x K).1:=(z1O C gl e h x K).2
theorem zmf {C gl e h x K}:NW C gl (.loop MM) ⟨e,h,x⟩ K=NA C gl MM K [(0,eA e 0),(1,eA e 1),(7,eA e 7),(8,eA e 8)] h x:=MB
def aW:ACode:=.pr [] (.seq (rg [mV 4 (cI (-1))] [4])
.ret)
def z1P (C:Hd)(gl:GL)(e:En)(h:aA)(x:Esc)(K:KT):Sf C gl aW e h x K:=⟨_,by simp only[aW,↓wZ,AO.still];rfl⟩
theorem zjd {C gl e h x K}:NW C gl aW ⟨e,h,x⟩ K=(z1P C gl e h x K).1:=(z1P C gl e h x K).2
def z43:ACode:=(.seq (rg [mV 4 (cI 0)] [0,1])
(.seq (.seq (rg [mV 6 0,
lN 7 6,
mV 8 (cI 0)] [0,1,7,8])
(.block 0 (.loop MM)))
aW))
def vZ:AFun:=⟨2,[.t 4],z43,true,false⟩
def fT (C:Hd)(gl:GL)(e:En)(h:aA)(x:Esc)(K:KT):Sf C gl z43 e h x K:=⟨_,by simp only[z43,↓wZ,AO.still];rfl⟩
theorem zjb {C gl v0 v1 h x K}:NW C gl vZ.body ⟨enter [v0,v1],h,x⟩ K=(fT C gl [(0,v0),(1,v1)] h x K).1:=(fT C gl [(0,v0),(1,v1)] h x K).2
def qM:ACode:=.pr [0,1,6,29] (.seq (rg [bN 30 .lss 29 (cI 32)] [0,1,6,29,30])
(.seq (.cond 30 .skip
(.exit 1))
(.seq (.block 2 (.seq (rg [mV 31 29,
mV 7 31] [0,1,6,7,29])
(rg [mV 32 6,
mV 33 0,
uO 34 (.nilchk 33),
fA 35 0 none 34,
lD 36 none 35,
mV 37 1,
iA 38 (some 5) 36 37,
fA 39 2 none 38,
lD 40 none 39,
mV 41 7,
bN 42 .shr 40 41,
bN 43 .and 42 (cI 1),
cL 44 wL [43],
bN 45 .add 32 44,
mV 6 45] [0,1,6,29])))
(rg [bN 46 .add 29 (cI 1),
mV 29 46] [0,1,6,29]))))
def GK (C:Hd)(gl:GL)(e:En)(h:aA)(x:Esc)(K:KT):Sf C gl qM e h x K:=⟨_,by simp only[qM,↓wZ,AO.still];rfl⟩
theorem WT {C gl e h x K}:NW C gl qM ⟨e,h,x⟩ K=(GK C gl e h x K).1:=(GK C gl e h x K).2
theorem zlJ {C gl e h x K}:NW C gl (.loop qM) ⟨e,h,x⟩ K=NA C gl qM K [(0,eA e 0),(1,eA e 1),(6,eA e 6),(29,eA e 29)] h x:=MB
def nV:ACode:=.pr [6] (.seq (rg [mV 47 6,
mV 4 47] [4])
.ret)
def rO (C:Hd)(gl:GL)(e:En)(h:aA)(x:Esc)(K:KT):Sf C gl nV e h x K:=⟨_,by simp only[nV,↓wZ,AO.still];rfl⟩
theorem z2t {C gl e h x K}:NW C gl nV ⟨e,h,x⟩ K=(rO C gl e h x K).1:=(rO C gl e h x K).2
def oV:ACode:=.pr [0,1,5] (.seq (dr [dF (mV 48 0) [0],
dF (uO 49 (.nilchk 48)) [48],
dF (fA 50 4 none 49) [49],
dF (lD 51 none 50) [50],
dF (mV 52 0) [0],
dF (uO 53 (.nilchk 52)) [52],
dF (fA 54 0 none 53) [53],
dF (lD 55 none 54) [54],
dF (mV 56 1) [1],
dF (iA 57 (some 5) 55 56) [55,56],
dF (fA 58 0 none 57) [57],
dF (lD 59 none 58) [58],
dF (fA 60 0 none 5) [5],
dF (lD 61 none 60) [60],
dF (uO 62 (.build [.p (.str []),.p (.str [])] [(0,1,59),(1,1,61)])) [59,61],
dF (uO 63 (.look ((some 2),[2,2]) false (.p (.str [])) 51 62)) [51,62],
dF (mV 4 63) [63]] [4])
.ret)
def sO (C:Hd)(gl:GL)(e:En)(h:aA)(x:Esc)(K:KT):Sf C gl oV e h x K:=⟨_,by simp only[oV,↓wZ,AO.still];rfl⟩
theorem z2u {C gl e h x K}:NW C gl oV ⟨e,h,x⟩ K=(sO C gl e h x K).1:=(sO C gl e h x K).2
def z3P:ACode:=(.seq (rg [mV 4 (cS [])] [0,1])
(.seq (dr [dF (mV 8 0) [0],
dF (uO 9 (.nilchk 8)) [8],
dF (fA 10 0 none 9) [9],
dF (lD 11 none 10) [10],
dF (mV 12 1) [1],
dF (iA 13 (some 5) 11 12) [11,12],
dF (lD 14 (some 5) 13) [13],
dF (mV 15 0) [0],
dF (uO 16 (.nilchk 15)) [15],
dF (fA 17 2 none 16) [16],
dF (lD 18 none 17) [17],
dF (mV 19 1) [1],
dF (iA 20 none 18 19) [18,19],
dF (lD 21 none 20) [20],
dF (cL 22 kL [14,21]) [14,21],
dA (uO 5 (.alloc [.p (.str []),.p (.int .i64 0)])) [] true [] [3,5,6,10,12,13,14],
dT (wO (.store (some 2) 5 22)) [5,22]] [0,1,5])
(.seq (.seq (rg [fA 23 0 none 5,
lD 24 none 23] [0,1,5,24])
(.block 0 (.seq (rg [bN 26 .eql 24 (cS [98,121,112,97,115,115]),
mV 25 26] [0,1,5,24,25])
(.cond 25 (.seq (rg [mV 4 (cS [48])] [4])
.ret)
(.seq (rg [bN 28 .eql 24 (cS [105,100,99,111,100,101]),
mV 27 28] [0,1,5,27])
(.cond 27 (.seq (rg [mV 6 (cS [])] [0,1,6])
(.seq (.seq (rg [mV 29 (cI 0)] [0,1,6,29])
(.block 1 (.loop qM)))
nV))
.skip))))))
oV)))
def IY:AFun:=⟨2,[.t 4],z3P,false,false⟩
def FK (C:Hd)(gl:GL)(e:En)(h:aA)(x:Esc)(K:KT):Sf C gl z3P e h x K:=⟨_,by simp only[z3P,↓wZ,AO.still];rfl⟩
theorem zhK {C gl v0 v1 h x K}:NW C gl IY.body ⟨enter [v0,v1],h,x⟩ K=(FK C gl [(0,v0),(1,v1)] h x K).1:=(FK C gl [(0,v0),(1,v1)] h x K).2
def rV:ACode:=.pr [1,2,4,5,18,19,20] (rg [bN 30 .add 20 (cI 1),
mV 20 30] [1,2,4,5,18,19,20])
def z1t (C:Hd)(gl:GL)(e:En)(h:aA)(x:Esc)(K:KT):Sf C gl rV e h x K:=⟨_,by simp only[rV,↓wZ,AO.still];rfl⟩
theorem zhP {C gl e h x K}:NW C gl rV ⟨e,h,x⟩ K=(z1t C gl e h x K).1:=(z1t C gl e h x K).2
def sM:ACode:=.pr [1,2,4,5,18,19,20] (.seq (rg [bN 21 .lss 20 19] [1,2,4,5,18,19,20,21])
(.seq (.cond 21 .skip
(.exit 0))
(.seq (.block 1 (.seq (rg [iA 22 (some 2) 18 20,
lD 23 (some 2) 22,
uO 7 (.alloc [.p (.str []),.p (.str [])]),
wO (.store (some 2) 7 23)] [1,2,4,5,7,18,19,20])
(.seq (rg [fA 24 0 none 7,
lD 25 none 24,
mV 26 1,
bN 27 .eql 25 26] [1,2,4,5,7,18,19,20,27])
(.cond 27 (rg [fA 28 1 none 7,
lD 29 none 28,
mV 5 29] [1,2,4,5,18,19,20])
.skip))))
rV)))
def z1u (C:Hd)(gl:GL)(e:En)(h:aA)(x:Esc)(K:KT):Sf C gl sM e h x K:=⟨_,by simp only[sM,↓wZ,AO.still];rfl⟩
theorem zhQ {C gl e h x K}:NW C gl sM ⟨e,h,x⟩ K=(z1u C gl e h x K).1:=(z1u C gl e h x K).2
theorem zlL {C gl e h x K}:NW C gl (.loop (.scope sM)) ⟨e,h,x⟩ K=NA C gl (.scope sM) K [(1,eA e 1),(2,eA e 2),(4,eA e 4),(5,eA e 5),(18,eA e 18),(19,eA e 19),(20,eA e 20)] h x:=fC
def tM:ACode:=.pr [4,5,32,33,34] (.seq (rg [bN 35 .lss 34 33] [4,5,32,33,34,35])
(.seq (.cond 35 .skip
(.exit 2))
(.seq (.block 3 (.seq (rg [iA 36 (some 2) 32 34,
lD 37 (some 2) 36,
uO 9 (.alloc [.p (.str []),.p (.int .i64 0)]),
wO (.store (some 2) 9 37)] [4,5,9,32,33,34])
(.seq (rg [fA 38 0 none 9,
lD 39 none 38,
mV 40 5,
bN 41 .eql 39 40] [4,5,9,32,33,34,41])
(.cond 41 (.seq (rg [lD 42 (some 2) 9,
wO (.store (some 2) 4 42)] [4])
.ret)
.skip))))
(rg [bN 43 .add 34 (cI 1),
mV 34 43] [4,5,32,33,34]))))
def z1v (C:Hd)(gl:GL)(e:En)(h:aA)(x:Esc)(K:KT):Sf C gl tM e h x K:=⟨_,by simp only[tM,↓wZ,AO.still];rfl⟩
theorem zhR {C gl e h x K}:NW C gl tM ⟨e,h,x⟩ K=(z1v C gl e h x K).1:=(z1v C gl e h x K).2
theorem zlM {C gl e h x K}:NW C gl (.loop (.scope tM)) ⟨e,h,x⟩ K=NA C gl (.scope tM) K [(4,eA e 4),(5,eA e 5),(32,eA e 32),(33,eA e 33),(34,eA e 34)] h x:=fC
def sV:ACode:=.pr [4,5] (.seq (.seq (rg [mV 44 5,
bN 45 .eql 44 (cS [105,100,99,111,100,101])] [4,5,45])
(.cond 45 (.seq (rg [mV 46 5,
uO 47 (.build [.p (.str []),.p (.int .i64 0)] [(0,1,46),(1,1,(cI 32))]),
wO (.store (some 2) 4 47)] [4])
.ret)
.skip))
(.seq (rg [mV 48 5,
uO 49 (.build [.p (.str []),.p (.int .i64 0)] [(0,1,48),(1,1,(cI 1))]),
wO (.store (some 2) 4 49)] [4])
.ret))
def JK (C:Hd)(gl:GL)(e:En)(h:aA)(x:Esc)(K:KT):Sf C gl sV e h x K:=⟨_,by simp only[sV,↓wZ,AO.still];rfl⟩
theorem z2v {C gl e h x K}:NW C gl sV ⟨e,h,x⟩ K=(JK C gl e h x K).1:=(JK C gl e h x K).2
def tV:ACode:=.pr [2,4,5] (.seq (.seq (rg [fA 31 3 none 2,
lD 32 none 31,
lN 33 32,
mV 34 (cI 0)] [4,5,32,33,34])
(.block 2 (.loop (.scope tM))))
sV)
def KK (C:Hd)(gl:GL)(e:En)(h:aA)(x:Esc)(K:KT):Sf C gl tV e h x K:=⟨_,by simp only[tV,↓wZ,AO.still];rfl⟩
theorem z2w {C gl e h x K}:NW C gl tV ⟨e,h,x⟩ K=(KK C gl e h x K).1:=(KK C gl e h x K).2
def uV:ACode:=.pr [1,2,4,5] (.seq (.seq (rg [fA 17 4 none 2,
lD 18 none 17,
lN 19 18,
mV 20 (cI 0)] [1,2,4,5,18,19,20])
(.block 0 (.loop (.scope sM))))
tV)
def LK (C:Hd)(gl:GL)(e:En)(h:aA)(x:Esc)(K:KT):Sf C gl uV e h x K:=⟨_,by simp only[uV,↓wZ,AO.still];rfl⟩
theorem z2x {C gl e h x K}:NW C gl uV ⟨e,h,x⟩ K=(LK C gl e h x K).1:=(LK C gl e h x K).2
def z3R:ACode:=(.seq (rg [uO 2 (.box 0),
uO 4 (.alloc [.p (.str []),.p (.int .i64 0)])] [1,2,4])
(.seq (rg [mV 5 (cS [98,121,112,97,115,115])] [1,2,4,5])
(.seq (.seq (rg [mV 10 1,
bN 11 .eql 10 (cS []),
mV 12 11,
gD 13 12 true (.faddr 2 none 2),
gD 14 12 true (.load none 13),
gD 15 12 true (.bin .neq 14 (cI 0)),
uO 16 (.pick 12 15 cF)] [1,2,4,5,16])
(.cond 16 (rg [mV 5 (cS [105,100,99,111,100,101])] [1,2,4,5])
.skip))
uV)))
def KY:AFun:=⟨2,[.cell 4 (some 2)],z3R,false,false⟩
def IK (C:Hd)(gl:GL)(e:En)(h:aA)(x:Esc)(K:KT):Sf C gl z3R e h x K:=⟨_,by simp only[z3R,↓wZ,AO.still];rfl⟩
theorem zhO {C gl v0 v1 h x K}:NW C gl KY.body ⟨enter [v0,v1],h,x⟩ K=(IK C gl [(0,v0),(1,v1)] h x K).1:=(IK C gl [(0,v0),(1,v1)] h x K).2
def uM:ACode:=.pr [0,5,9,10,11] (.seq (rg [bN 12 .lss 11 10] [0,5,9,10,11,12])
(.seq (.cond 12 .skip
(.exit 0))
(.seq (.block 1 (.seq (rg [iA 13 none 9 11,
lD 14 none 13,
mV 7 14] [0,5,7,9,10,11])
(.seq (rg [mV 15 0,
mV 16 7,
bN 17 .sub 16 (.c (.p (.int .u8 48))),
uO 18 (.conv (.i .i64) 17),
cL 19 lL [15,18],
mV 0 19] [0,5,9,10,11])
(rg [mV 20 5,
mV 21 0,
uO 22 (.bsl false none 1 (.int .i64 0) [(0,21)]),
uO 23 (.app none 20 22),
mV 5 23] [0,5,9,10,11]))))
(rg [bN 24 .add 11 (cI 1),
mV 11 24] [0,5,9,10,11]))))
def z1w (C:Hd)(gl:GL)(e:En)(h:aA)(x:Esc)(K:KT):Sf C gl uM e h x K:=⟨_,by simp only[uM,↓wZ,AO.still];rfl⟩
theorem zhT {C gl e h x K}:NW C gl uM ⟨e,h,x⟩ K=(z1w C gl e h x K).1:=(z1w C gl e h x K).2
theorem zlN {C gl e h x K}:NW C gl (.loop (.scope uM)) ⟨e,h,x⟩ K=NA C gl (.scope uM) K [(0,eA e 0),(5,eA e 5),(9,eA e 9),(10,eA e 10),(11,eA e 11)] h x:=fC
def vV:ACode:=.pr [5] (.seq (rg [mV 25 5,
mV 4 25] [4])
.ret)
def z1x (C:Hd)(gl:GL)(e:En)(h:aA)(x:Esc)(K:KT):Sf C gl vV e h x K:=⟨_,by simp only[vV,↓wZ,AO.still];rfl⟩
theorem zhU {C gl e h x K}:NW C gl vV ⟨e,h,x⟩ K=(z1x C gl e h x K).1:=(z1x C gl e h x K).2
def z3S:ACode:=(.seq (rg [mV 4 (.c (.p (.sl none [])))] [0,1])
(.seq (rg [uO 5 (.new0 none)] [0,1,5])
(.seq (.seq (rg [mV 8 1,
uO 9 (.conv .s2b 8),
lN 10 9,
mV 11 (cI 0)] [0,5,9,10,11])
(.block 0 (.loop (.scope uM))))
vV)))
def LY:AFun:=⟨2,[.t 4],z3S,false,false⟩
def uS (C:Hd)(gl:GL)(e:En)(h:aA)(x:Esc)(K:KT):Sf C gl z3S e h x K:=⟨_,by simp only[z3S,↓wZ,AO.still];rfl⟩
theorem zhS {C gl v0 v1 h x K}:NW C gl LY.body ⟨enter [v0,v1],h,x⟩ K=(uS C gl [(0,v0),(1,v1)] h x K).1:=(uS C gl [(0,v0),(1,v1)] h x K).2
def z4L:ACode:=(.seq (rg [mV 2 cF] [0])
(.seq (rg [mV 3 0,
cL 4 TF [3,(cI 0),(cI 15)],
uO 5 (.un .not 4),
mV 2 5] [2])
.ret))
def OZ:AFun:=⟨1,[.t 2],z4L,false,false⟩
def xT (C:Hd)(gl:GL)(e:En)(h:aA)(x:Esc)(K:KT):Sf C gl z4L e h x K:=⟨_,by simp only[z4L,↓wZ,AO.still];rfl⟩
theorem zjx {C gl v0 h x K}:NW C gl OZ.body ⟨enter [v0],h,x⟩ K=(xT C gl [(0,v0)] h x K).1:=(xT C gl [(0,v0)] h x K).2
end Go.Am
end
section
/- The functions asv abstract code,and asv formulas over their values: printed by program out of the translation. -/
set_option linter.all false
set_option maxRecDepth 100000
namespace Go.Am
def z4M:ACode:=.pr [1,5,6,7,25] (rg [bN 53 .add 25 (cI 1),
mV 25 53] [1,5,6,7,25])
def z8o (C:Hd)(gl:GL)(v1 v5 v6 v7 v25:AV)(h:aA)(x:Esc)(K:KT):Prop:=
 pK (DA .add v25 (AI 1)) fun t1=>
 K .normal ⟨[(1,v1),(5,v5),(6,v6),(7,v7),(25,t1)],h,x⟩
theorem zjy {C gl e h x K}:NW C gl z4M ⟨e,h,x⟩ K=z8o C gl (eA e 1) (eA e 5) (eA e 6) (eA e 7) (eA e 25) h x K:=by kernel_rfl
def z6P (q1:ACode):ACode:=.pr [1,5,6,7,25] (.seq (rg [bN 26 .lss 25 (cI 2)] [1,5,6,7,25,26])
(.seq (.cond 26 .skip
(.exit 2))
(.seq (.block 3 (.seq (rg [mV 27 25,
mV 8 27] [1,5,6,7,8,25])
(.seq (rg [mV 28 7,
mV 29 8,
cL 30 uG [28,29],
mV 9 30] [1,5,6,7,8,9,25])
(.seq (rg [mV 32 5,
mV 33 9,
uO 34 (.look (none,[0]) true (.p (.str [])) 32 33),
mV 31 34,
eX 35 31 0,
eX 36 31 1,
mV 10 35,
mV 11 36] [1,5,6,7,8,9,11,25])
(.seq (rg [mV 37 11,
uO 38 (.un .not 37)] [1,5,6,7,8,9,25,38])
(.cond 38 (.seq (rg [mV 39 5,
mV 40 9,
mV 41 5,
mV 42 7,
uO 43 (.look (none,[0]) false (.p (.str [])) 41 42),
mV 44 8,
bN 45 .add (cI 48) 44,
uO 46 (.conv (.i .i32) 45),
uO 47 (.conv .r2s 46),
bN 48 .add 43 47,
wO (.mupd (none,[0]) 39 40 48)] [1,5,6,7,9,25])
(rg [mV 49 6,
mV 50 9,
uO 51 (.bsl false none 1 (.int .i64 0) [(0,50)]),
uO 52 (.mnext (some none) [49,51]),
mV 6 52] [1,5,6,7,25]))
.skip))))))
q1)))
def SQ:ACode:=z6P z4M
def z1T (C:Hd)(gl:GL)(q1:ACode)(v1 v5 v6 v7 v25:AV)(h:aA)(x:Esc)(K:KT):Prop:=
 pK (DA .lss v25 (AI 2)) fun t1=>
 jB t1 (C uG [v7,v25] h fun t2 h3 y4=>
 pK (NB (none,[0]) true (.p (.str [])) v5 t2 h3) fun t5=>
 pK (DJ t5 0) fun t6=>
 pK (DJ t5 1) fun t7=>
 pK (oUn .not t7) fun t8=>
 jB t8 (pK (NB (none,[0]) false (.p (.str [])) v5 v7 h3) fun t9=>
 pK (DA .add (AI 48) v25) fun t10=>
 pK (SL .i32 t10) fun t11=>
 wK (HE .r2s t11 h3) fun t12 h13 y14=>
 pK (DA .add t9 t12) fun t15=>
 wK (mC (none,[0]) v5 t2 t15 h13) fun t16 h17 y18=>
 wK (XC false none 1 (.int .i64 0) [(0,t2)] h17) fun t19 h20 y21=>
 nqK (some none) [v6,t19] h20 fun t22 h23 y24=>
 NW C gl q1 ⟨[(1,v1),(5,v5),(6,t22),(7,v7),(25,v25)],h23,(y24++(y21++(y18++(y14++(y4++x)))))⟩ K)
 (NW C gl q1 ⟨[(1,v1),(5,v5),(6,v6),(7,v7),(8,v25),(9,t2),(25,v25),(38,t8)],h3,(y4++x)⟩ K))
 (K (.exit 2) ⟨[(1,v1),(5,v5),(6,v6),(7,v7),(25,v25),(26,t1)],h,x⟩)
theorem zcW {C gl q1 e h x K}:NW C gl (z6P q1) ⟨e,h,x⟩ K=z1T C gl q1 (eA e 1) (eA e 5) (eA e 6) (eA e 7) (eA e 25) h x K:=by kernel_rfl
theorem zjz {C gl e h x K}:NW C gl SQ ⟨e,h,x⟩ K=z1T C gl z4M (eA e 1) (eA e 5) (eA e 6) (eA e 7) (eA e 25) h x K:=zcW
theorem zmm {C gl e h x K}:NW C gl (.loop SQ) ⟨e,h,x⟩ K=NA C gl SQ K [(1,eA e 1),(5,eA e 5),(6,eA e 6),(7,eA e 7),(25,eA e 25)] h x:=MB
def z6Q (q2:ACode):ACode:=.pr [1,5,6] (.seq (.seq (rg [mV 17 6,
lN 18 17,
bN 19 .gtr 18 (cI 0)] [1,5,6,19])
(.cond 19 .skip
(.exit 0)))
(.block 1 (.seq (rg [mV 20 6,
iA 21 none 20 (cI 0),
lD 22 none 21,
mV 7 22] [1,5,6,7])
(.seq (rg [mV 23 6,
uO 24 (.slice none 23 (some (cI 1)) none none),
mV 6 24] [1,5,6,7])
(.seq (rg [mV 25 (cI 0)] [1,5,6,7,25])
(.block 2 (.loop q2)))))))
def UM:ACode:=z6Q SQ
def z1U (C:Hd)(gl:GL)(q2:ACode)(v1 v5 v6:AV)(h:aA)(x:Esc)(K:KT):Prop:=
 pK (bH v6) fun t1=>
 pK (DA .gtr t1 (AI 0)) fun t2=>
 jB t2 (pK (eD none v6 (AI 0) h) fun t3=>
 pK (FA none t3 h) fun t4=>
 pK (FJ none v6 (some (AI 1)) none none h) fun t5=>
 NW C gl (.loop q2) ⟨[(1,v1),(5,v5),(6,t5),(7,t4),(25,(AI 0))],h,x⟩ (tC 2 (tC 1 K)))
 (K (.exit 0) ⟨[(1,v1),(5,v5),(6,v6),(19,t2)],h,x⟩)
theorem zcX {C gl q2 e h x K}:NW C gl (z6Q q2) ⟨e,h,x⟩ K=z1U C gl q2 (eA e 1) (eA e 5) (eA e 6) h x K:=by kernel_rfl
theorem zj0 {C gl e h x K}:NW C gl UM ⟨e,h,x⟩ K=z1U C gl SQ (eA e 1) (eA e 5) (eA e 6) h x K:=zcX
theorem zmn {C gl e h x K}:NW C gl (.loop UM) ⟨e,h,x⟩ K=NA C gl UM K [(1,eA e 1),(5,eA e 5),(6,eA e 6)] h x:=MB
def oW:ACode:=.pr [1,5] (.seq (rg [mV 54 5,
mV 55 1,
uO 56 (.look (none,[0]) false (.p (.str [])) 54 55),
mV 4 56] [4])
.ret)
def z8p (C:Hd)(gl:GL)(v1 v5:AV)(h:aA)(x:Esc)(K:KT):Prop:=
 pK (NB (none,[0]) false (.p (.str [])) v5 v1 h) fun t1=>
 K .ret ⟨[(4,t1)],h,x⟩
theorem zj1 {C gl e h x K}:NW C gl oW ⟨e,h,x⟩ K=z8p C gl (eA e 1) (eA e 5) h x K:=by kernel_rfl
def z6O (q3 q4:ACode):ACode:=(.det (.seq (rg [mV 4 (cS [])] [0,1])
(.seq (rg [uO 12 (.mkmap),
mV 13 0,
wO (.mupd (none,[0]) 12 13 (cS [])),
mV 14 12,
mV 5 14] [0,1,5])
(.seq (rg [mV 15 0,
uO 16 (.bsl true none 1 (.int .i64 0) [(0,15)]),
mV 6 16] [1,5,6])
(.seq (.block 0 (.loop q3))
q4)))))
def ER:AFun:=⟨2,[.t 4],z6O UM oW,false,false⟩
def MO (C:Hd)(gl:GL)(q3 q4:ACode)(v0 v1:AV)(h:aA)(x:Esc)(K:KT):Prop:=
 mmK h fun t1 h2 y3=>
 wK (mC (none,[0]) t1 v0 (.p (.str [])) h2) fun t4 h5 y6=>
 wK (XC true none 1 (.int .i64 0) [(0,v0)] h5) fun t7 h8 y9=>
 NW C gl (.loop q3) ⟨[(1,v1),(5,t1),(6,t7)],h8,(y9++(y6++(y3++x)))⟩ (tC 0 (yD C gl q4 K))
theorem zcV {C gl q3 q4 v0 v1 h x K}:NW C gl (z6O q3 q4) ⟨enter [v0,v1],h,x⟩ K=MO C gl q3 q4 v0 v1 h x K:=by kernel_rfl
theorem z8D {C gl v0 v1 h x K}:NW C gl ER.body ⟨enter [v0,v1],h,x⟩ K=MO C gl UM oW v0 v1 h x K:=zcV
def z4S:ACode:=(.seq (rg [uO 2 (.box 0),
mV 3 cF] [1,2])
(.seq (rg [fA 4 0 none 2,
lD 5 none 4,
fA 6 0 none 1,
lD 7 none 6,
bN 8 .eql 5 7,
mV 3 8] [3])
.ret))
def UZ:AFun:=⟨2,[.t 3],z4S,false,false⟩
def CT (C:Hd)(gl:GL)(e:En)(h:aA)(x:Esc)(K:KT):Sf C gl z4S e h x K:=⟨_,by simp only[z4S,↓wZ,AO.still];rfl⟩
theorem zj9 {C gl v0 v1 h x K}:NW C gl UZ.body ⟨enter [v0,v1],h,x⟩ K=(CT C gl [(0,v0),(1,v1)] h x K).1:=(CT C gl [(0,v0),(1,v1)] h x K).2
def z4K:ACode:=(.seq (rg [uO 2 (.box 0),
mV 3 cF] [1,2])
(.seq (rg [fA 4 0 none 2,
lD 5 none 4,
fA 6 0 none 1,
lD 7 none 6,
bN 8 .eql 5 7,
mV 3 8] [3])
.ret))
def NZ:AFun:=⟨2,[.t 3],z4K,false,false⟩
def vT (C:Hd)(gl:GL)(e:En)(h:aA)(x:Esc)(K:KT):Sf C gl z4K e h x K:=⟨_,by simp only[z4K,↓wZ,AO.still];rfl⟩
theorem zjw {C gl v0 v1 h x K}:NW C gl NZ.body ⟨enter [v0,v1],h,x⟩ K=(vT C gl [(0,v0),(1,v1)] h x K).1:=(vT C gl [(0,v0),(1,v1)] h x K).2
def z4P:ACode:=(.seq (rg [uO 2 (.box 0),
uO 3 (.box 1),
uO 4 (.alloc [.p (.str []),.p (.int .i64 0)]),
mV 5 cF] [2,3,4])
(.seq (.block 0 (.seq (rg [lD 8 none 3,
bN 9 .eql 8 (cS [98,121,112,97,115,115]),
mV 7 9] [2,3,4,7])
(.cond 7 (.seq (rg [uO 10 (.build [.p (.str []),.p (.int .i64 0)] [(0,1,(cS [98,121,112,97,115,115])),(1,1,(cI 1))]),
wO (.store (some 2) 4 10),
mV 5 cT] [4,5])
.ret)
(.seq (rg [lD 12 none 3,
bN 13 .eql 12 (cS [105,100,99,111,100,101]),
mV 14 13,
gD 15 14 true (.faddr 2 none 2),
gD 16 14 true (.load none 15),
gD 17 14 true (.bin .neq 16 (cI 0)),
uO 18 (.pick 14 17 cF),
mV 11 18] [2,3,4,11])
(.cond 11 (.seq (rg [uO 19 (.build [.p (.str []),.p (.int .i64 0)] [(0,1,(cS [105,100,99,111,100,101])),(1,1,(cI 32))]),
wO (.store (some 2) 4 19),
mV 5 cT] [4,5])
.ret)
.skip)))))
(.seq (rg [fA 20 3 none 2,
lD 21 none 20,
uO 22 (.mkfn gQ [3]),
cL 23 vL [21,22],
mV 6 23] [2,4,6])
(.seq (.seq (rg [mV 24 6,
bN 25 .lss 24 (cI 0)] [2,4,6,25])
(.cond 25 (.seq (rg [uO 26 (.build [.p (.str []),.p (.int .i64 0)] []),
wO (.store (some 2) 4 26),
mV 5 cF] [4,5])
.ret)
.skip))
(.seq (rg [fA 27 3 none 2,
lD 28 none 27,
mV 29 6,
iA 30 (some 2) 28 29,
lD 31 (some 2) 30,
wO (.store (some 2) 4 31),
mV 5 cT] [4,5])
.ret)))))
def RZ:AFun:=⟨2,[.cell 4 (some 2),.t 5],z4P,false,false⟩
def LG (C:Hd)(gl:GL)(e:En)(h:aA)(x:Esc)(K:KT):Sf C gl z4P e h x K:=⟨_,by simp only[z4P,↓wZ,AO.still];rfl⟩
theorem zj6 {C gl v0 v1 h x K}:NW C gl RZ.body ⟨enter [v0,v1],h,x⟩ K=(LG C gl [(0,v0),(1,v1)] h x K).1:=(LG C gl [(0,v0),(1,v1)] h x K).2
def VM:ACode:=.pr [0,4,21] (.seq (rg [bN 22 .lss 21 (cI 32)] [0,4,21,22])
(.seq (.cond 22 .skip
(.exit 1))
(.seq (.block 2 (.seq (rg [mV 23 21,
mV 5 23] [0,4,5,21])
(rg [mV 24 4,
mV 25 0,
uO 26 (.nilchk 25),
fA 27 0 (some 5) 26,
fA 28 2 none 27,
lD 29 none 28,
mV 30 5,
bN 31 .shr 29 30,
bN 32 .and 31 (cI 1),
bN 33 .add (cI 48) 32,
uO 34 (.conv (.i .u8) 33),
uO 35 (.bsl false none 1 (.int .u8 0) [(0,34)]),
uO 36 (.app none 24 35),
mV 4 36] [0,4,21])))
(rg [bN 37 .add 21 (cI 1),
mV 21 37] [0,4,21]))))
def z1V (C:Hd)(gl:GL)(e:En)(h:aA)(x:Esc)(K:KT):Sf C gl VM e h x K:=⟨_,by simp only[VM,↓wZ,AO.still];rfl⟩
theorem zj3 {C gl e h x K}:NW C gl VM ⟨e,h,x⟩ K=(z1V C gl e h x K).1:=(z1V C gl e h x K).2
theorem zmo {C gl e h x K}:NW C gl (.loop (.scope VM)) ⟨e,h,x⟩ K=NA C gl (.scope VM) K [(0,eA e 0),(4,eA e 4),(21,eA e 21)] h x:=fC
def pW:ACode:=.pr [4] (.seq (rg [mV 38 4,
uO 39 (.conv .b2s 38),
mV 2 39] [2])
.ret)
def z1W (C:Hd)(gl:GL)(e:En)(h:aA)(x:Esc)(K:KT):Sf C gl pW e h x K:=⟨_,by simp only[pW,↓wZ,AO.still];rfl⟩
theorem zj4 {C gl e h x K}:NW C gl pW ⟨e,h,x⟩ K=(z1W C gl e h x K).1:=(z1W C gl e h x K).2
def z4N:ACode:=(.seq (rg [mV 2 (cS [])] [0])
(.seq (rg [mV 6 0,
cL 7 DL [6],
uO 3 (.alloc [.p (.str []),.p (.int .i64 0)]),
wO (.store (some 2) 3 7)] [0,3])
(.seq (rg [fA 8 0 none 3,
lD 9 none 8] [0,3,9])
(.block 0 (.seq (rg [bN 18 .eql 9 (cS [98,121,112,97,115,115]),
mV 17 18] [0,3,9,17])
(.cond 17 (.seq (rg [mV 2 (cS [48])] [2])
.ret)
(.seq (rg [bN 20 .eql 9 (cS [105,100,99,111,100,101]),
mV 19 20] [0,3,19])
(.cond 19 (.seq (rg [uO 4 (.new0 none)] [0,4])
(.seq (.seq (rg [mV 21 (cI 0)] [0,4,21])
(.block 1 (.loop (.scope VM))))
pW))
(.seq (dr [dF (mV 10 0) [0],
dF (uO 11 (.nilchk 10)) [10],
dF (fA 12 7 none 11) [11],
dF (lD 13 none 12) [12],
dF (fA 14 0 none 3) [3],
dF (lD 15 none 14) [14],
dF (uO 16 (.look (none,[2]) false (.p (.str [])) 13 15)) [13,15],
dF (mV 2 16) [16]] [2])
.ret)))))))))
def PZ:AFun:=⟨1,[.t 2],z4N,false,false⟩
def TK (C:Hd)(gl:GL)(e:En)(h:aA)(x:Esc)(K:KT):Sf C gl z4N e h x K:=⟨_,by simp only[z4N,↓wZ,AO.still];rfl⟩
theorem zj2 {C gl v0 h x K}:NW C gl PZ.body ⟨enter [v0],h,x⟩ K=(TK C gl [(0,v0)] h x K).1:=(TK C gl [(0,v0)] h x K).2
def z4O:ACode:=(.seq (rg [uO 2 (.alloc [.p (.str []),.p (.int .i64 0)])] [0,2])
(.seq (.seq (rg [mV 5 0,
uO 6 (.nilchk 5),
fA 7 5 none 6,
lD 8 none 7,
bN 9 .eql 8 (cS [])] [0,2,9])
(.cond 9 (.seq (.seq (rg [mV 11 0,
uO 12 (.nilchk 11),
fA 13 0 (some 5) 12,
lD 14 (some 5) 13,
cL 15 pJ [14,(cS [105,100,99,111,100,101])],
mV 10 15,
eX 16 10 0,
eX 17 10 1,
uO 3 (.alloc [.p (.str []),.p (.int .i64 0)]),
wO (.store (some 2) 3 16),
mV 4 17] [2,3,4])
(.seq (rg [mV 18 4] [2,3,18])
(.cond 18 (.seq (rg [lD 19 (some 2) 3,
wO (.store (some 2) 2 19)] [2])
.ret)
.skip)))
(.seq (rg [uO 20 (.build [.p (.str []),.p (.int .i64 0)] [(0,1,(cS [98,121,112,97,115,115])),(1,1,(cI 1))]),
wO (.store (some 2) 2 20)] [2])
.ret))
.skip))
(.seq (dr [dF (mV 21 0) [0],
dF (uO 22 (.nilchk 21)) [21],
dF (fA 23 0 (some 5) 22) [22],
dF (lD 24 (some 5) 23) [23],
dF (mV 25 0) [0],
dF (uO 26 (.nilchk 25)) [25],
dF (fA 27 5 none 26) [26],
dF (lD 28 none 27) [27],
dT (cL 29 kQ [24,28]) [24,28],
dT (wO (.store (some 2) 2 29)) [2,29]] [2])
.ret)))
def QZ:AFun:=⟨1,[.cell 2 (some 2)],z4O,false,false⟩
def UK (C:Hd)(gl:GL)(e:En)(h:aA)(x:Esc)(K:KT):Sf C gl z4O e h x K:=⟨_,by simp only[z4O,↓wZ,AO.still];rfl⟩
theorem zj5 {C gl v0 h x K}:NW C gl QZ.body ⟨enter [v0],h,x⟩ K=(UK C gl [(0,v0)] h x K).1:=(UK C gl [(0,v0)] h x K).2
def RU:ACode:=.pr [0,1,5,6,7,8,9,10] (.seq (.seq (rg [mV 78 0,
mV 79 8,
bN 80 .add 79 (cI 1),
uO 81 (.idxs 78 80),
mV 82 7,
bN 83 .eql 81 82,
mV 84 83,
gD 85 84 true (.mv 0),
gD 86 84 true (.mv 8),
gD 87 84 true (.mv 8),
gD 88 84 true (.mv 5),
gD 89 84 true (.bin .add 87 88),
gD 90 84 true (.slstr 85 (some 86) (some 89)),
gD 91 84 true (.mv 1),
gD 92 84 true (.bin .eql 90 91),
uO 93 (.pick 84 92 cF)] [0,1,5,6,7,8,9,10,93])
(.cond 93 (.seq (rg [mV 94 8,
mV 4 94] [4])
.ret)
.skip))
(.seq (rg [mV 95 8,
bN 96 .add 95 (cI 1),
mV 8 96] [0,1,5,6,7,8,9,10])
(.seq (rg [mV 97 10,
bN 98 .add 97 (cI 1),
mV 10 98] [0,1,5,6,7,8,9,10])
(.seq (rg [mV 99 5,
lD 100 none (.g 0),
bN 101 .leq 99 100,
mV 102 101,
gD 103 102 true (.mv 10),
gD 104 102 true (.mv 8),
gD 105 102 true (.call gU [104]),
gD 106 102 true (.bin .gtr 103 105),
uO 107 (.pick 102 106 cF)] [0,1,5,6,7,8,9,10,107])
(.cond 107 (.seq (rg [mV 108 0,
mV 109 8,
uO 110 (.slstr 108 (some 109) none),
mV 111 1,
cL 112 z8V [110,111],
mV 12 112] [8,12])
(.seq (.seq (rg [mV 113 12,
bN 114 .geq 113 (cI 0)] [8,12,114])
(.cond 114 (.seq (rg [mV 115 12,
mV 116 8,
bN 117 .add 115 116,
mV 4 117] [4])
.ret)
.skip))
(.seq (rg [mV 4 (cI (-1))] [4])
.ret)))
(.seq (rg [mV 118 5,
lD 119 none (.g 0),
bN 120 .gtr 118 119,
mV 121 120,
gD 122 121 true (.mv 10),
gD 123 121 true (.mv 8),
gD 124 121 true (.bin .shr 123 (.c (.p (.int .u64 4)))),
gD 125 121 true (.bin .add (cI 4) 124),
gD 126 121 true (.bin .geq 122 125),
uO 127 (.pick 121 126 cF),
mV 128 127,
gD 129 128 true (.mv 8),
gD 130 128 true (.mv 9),
gD 131 128 true (.bin .lss 129 130),
uO 132 (.pick 128 131 cF)] [0,1,5,6,7,8,9,10,132])
(.cond 132 (.seq (rg [mV 133 0,
mV 134 8,
uO 135 (.slstr 133 (some 134) none),
mV 136 1,
cL 137 iU [135,136],
mV 13 137] [8,13])
(.seq (.seq (rg [mV 138 13,
bN 139 .lss 138 (cI 0)] [8,13,139])
(.cond 139 (.seq (rg [mV 4 (cI (-1))] [4])
.ret)
.skip))
(.seq (rg [mV 140 8,
mV 141 13,
bN 142 .add 140 141,
mV 4 142] [4])
.ret)))
.skip)))))))
def z0Z (C:Hd)(gl:GL)(e:En)(h:aA)(x:Esc)(K:KT):Sf C gl RU e h x K:=⟨_,by simp only[RU,↓wZ,AO.still];rfl⟩
theorem zhc {C gl e h x K}:NW C gl RU ⟨e,h,x⟩ K=(z0Z C gl e h x K).1:=(z0Z C gl e h x K).2
def dM:ACode:=.pr [0,1,5,6,7,8,9,10] (.seq (.seq (rg [mV 57 8,
mV 58 9,
bN 59 .lss 57 58] [0,1,5,6,7,8,9,10,59])
(.cond 59 .skip
(.exit 1)))
(.block 2 (.seq (.seq (rg [mV 60 0,
mV 61 8,
uO 62 (.idxs 60 61),
mV 63 6,
bN 64 .neq 62 63] [0,1,5,6,7,8,9,10,64])
(.cond 64 (.seq (rg [mV 65 0,
mV 66 8,
bN 67 .add 66 (cI 1),
mV 68 9,
uO 69 (.slstr 65 (some 67) (some 68)),
mV 70 6,
cL 71 MH [69,70],
mV 11 71] [0,1,5,6,7,8,9,10,11])
(.seq (.seq (rg [mV 72 11,
bN 73 .lss 72 (cI 0)] [0,1,5,6,7,8,9,10,11,73])
(.cond 73 (.seq (rg [mV 4 (cI (-1))] [4])
.ret)
.skip))
(rg [mV 74 8,
mV 75 11,
bN 76 .add 75 (cI 1),
bN 77 .add 74 76,
mV 8 77] [0,1,5,6,7,8,9,10])))
.skip))
RU)))
def z1a (C:Hd)(gl:GL)(e:En)(h:aA)(x:Esc)(K:KT):Sf C gl dM e h x K:=⟨_,by simp only[dM,↓wZ,AO.still];rfl⟩
theorem zhd {C gl e h x K}:NW C gl dM ⟨e,h,x⟩ K=(z1a C gl e h x K).1:=(z1a C gl e h x K).2
theorem zl6 {C gl e h x K}:NW C gl (.loop dM) ⟨e,h,x⟩ K=NA C gl dM K [(0,eA e 0),(1,eA e 1),(5,eA e 5),(6,eA e 6),(7,eA e 7),(8,eA e 8),(9,eA e 9),(10,eA e 10)] h x:=MB
def SU:ACode:=.pr [] (.seq (rg [mV 4 (cI (-1))] [4])
.ret)
def z1b (C:Hd)(gl:GL)(e:En)(h:aA)(x:Esc)(K:KT):Sf C gl SU e h x K:=⟨_,by simp only[SU,↓wZ,AO.still];rfl⟩
theorem zhe {C gl e h x K}:NW C gl SU ⟨e,h,x⟩ K=(z1b C gl e h x K).1:=(z1b C gl e h x K).2
def z30:ACode:=(.seq (rg [mV 4 (cI 0)] [0,1])
(.seq (rg [mV 14 1,
uO 15 (.lens 14),
mV 5 15] [0,1,5])
(.seq (.block 0 (.seq (rg [mV 17 5,
bN 18 .eql 17 (cI 0),
mV 19 18,
gD 20 19 false (.mv 1),
gD 21 19 false (.mv 0),
gD 22 19 false (.bin .eql 20 21),
uO 23 (.pick 19 cT 22),
mV 16 23] [0,1,5,16])
(.cond 16 (.seq (rg [mV 4 (cI 0)] [4])
.ret)
(.seq (rg [mV 25 5,
bN 26 .eql 25 (cI 1),
mV 24 26] [0,1,5,24])
(.cond 24 (.seq (rg [mV 27 0,
mV 28 1,
uO 29 (.idxs 28 (cI 0)),
cL 30 MH [27,29],
mV 4 30] [4])
.ret)
(.seq (rg [mV 32 5,
mV 33 0,
uO 34 (.lens 33),
bN 35 .geq 32 34,
mV 31 35] [0,1,5,31])
(.cond 31 (.seq (rg [mV 4 (cI (-1))] [4])
.ret)
(.seq (rg [mV 37 5,
lD 38 none (.g 0),
bN 39 .leq 37 38,
mV 40 39,
gD 41 40 true (.mv 0),
gD 42 40 true (.lens 41),
gD 43 40 true (.bin .leq 42 (cI 64)),
uO 44 (.pick 40 43 cF),
mV 36 44] [0,1,5,36])
(.cond 36 (.seq (rg [mV 45 0,
mV 46 1,
cL 47 z8V [45,46],
mV 4 47] [4])
.ret)
.skip)))))))))
(.seq (rg [mV 48 1,
uO 49 (.idxs 48 (cI 0)),
mV 6 49] [0,1,5,6])
(.seq (rg [mV 50 1,
uO 51 (.idxs 50 (cI 1)),
mV 7 51] [0,1,5,6,7])
(.seq (rg [mV 8 (cI 0)] [0,1,5,6,7,8])
(.seq (rg [mV 52 0,
uO 53 (.lens 52),
mV 54 5,
bN 55 .sub 53 54,
bN 56 .add 55 (cI 1),
mV 9 56] [0,1,5,6,7,8,9])
(.seq (rg [mV 10 (cI 0)] [0,1,5,6,7,8,9,10])
(.seq (.block 1 (.loop dM))
SU)))))))))
def kY:AFun:=⟨2,[.t 4],z30,false,false⟩
def bS (C:Hd)(gl:GL)(e:En)(h:aA)(x:Esc)(K:KT):Sf C gl z30 e h x K:=⟨_,by simp only[z30,↓wZ,AO.still];rfl⟩
theorem zhb {C gl v0 v1 h x K}:NW C gl kY.body ⟨enter [v0,v1],h,x⟩ K=(bS C gl [(0,v0),(1,v1)] h x K).1:=(bS C gl [(0,v0),(1,v1)] h x K).2
def z4Q:ACode:=(.seq (rg [uO 2 (.box 0),
mV 3 cF] [1,2])
(.seq (rg [fA 4 0 none 2,
lD 5 none 4,
lD 6 none 1,
bN 7 .eql 5 6,
mV 3 7] [3])
.ret))
def SZ:AFun:=⟨2,[.t 3],z4Q,false,false⟩
def zT (C:Hd)(gl:GL)(e:En)(h:aA)(x:Esc)(K:KT):Sf C gl z4Q e h x K:=⟨_,by simp only[z4Q,↓wZ,AO.still];rfl⟩
theorem zj7 {C gl v0 v1 h x K}:NW C gl SZ.body ⟨enter [v0,v1],h,x⟩ K=(zT C gl [(0,v0),(1,v1)] h x K).1:=(zT C gl [(0,v0),(1,v1)] h x K).2
def rW:ACode:=.pr [1,2,4,5,11,12,13] (rg [bN 23 .add 13 (cI 1),
mV 13 23] [1,2,4,5,11,12,13])
def z1X (C:Hd)(gl:GL)(e:En)(h:aA)(x:Esc)(K:KT):Sf C gl rW e h x K:=⟨_,by simp only[rW,↓wZ,AO.still];rfl⟩
theorem zjB {C gl e h x K}:NW C gl rW ⟨e,h,x⟩ K=(z1X C gl e h x K).1:=(z1X C gl e h x K).2
def XM:ACode:=.pr [1,2,4,5,11,12,13] (.seq (rg [bN 14 .lss 13 12] [1,2,4,5,11,12,13,14])
(.seq (.cond 14 .skip
(.exit 0))
(.seq (.block 1 (.seq (rg [iA 15 (some 2) 11 13,
lD 16 (some 2) 15,
uO 7 (.alloc [.p (.str []),.p (.str [])]),
wO (.store (some 2) 7 16)] [1,2,4,5,7,11,12,13])
(.seq (rg [fA 17 0 none 7,
lD 18 none 17,
mV 19 1,
bN 20 .eql 18 19] [1,2,4,5,7,11,12,13,20])
(.cond 20 (rg [fA 21 1 none 7,
lD 22 none 21,
mV 5 22] [1,2,4,5,11,12,13])
.skip))))
rW)))
def z1Y (C:Hd)(gl:GL)(e:En)(h:aA)(x:Esc)(K:KT):Sf C gl XM e h x K:=⟨_,by simp only[XM,↓wZ,AO.still];rfl⟩
theorem zjC {C gl e h x K}:NW C gl XM ⟨e,h,x⟩ K=(z1Y C gl e h x K).1:=(z1Y C gl e h x K).2
theorem zmq {C gl e h x K}:NW C gl (.loop (.scope XM)) ⟨e,h,x⟩ K=NA C gl (.scope XM) K [(1,eA e 1),(2,eA e 2),(4,eA e 4),(5,eA e 5),(11,eA e 11),(12,eA e 12),(13,eA e 13)] h x:=fC
def sW:ACode:=.pr [2,4,5] (.seq (rg [lD 25 (some 5) 2,
mV 26 5,
cL 27 pJ [25,26],
mV 24 27,
eX 28 24 0,
eX 29 24 1,
uO 8 (.alloc [.p (.str []),.p (.int .i64 0)]),
wO (.store (some 2) 8 28),
mV 9 29] [4,8])
(.seq (rg [lD 30 (some 2) 8,
wO (.store (some 2) 4 30)] [4])
.ret))
def NO (C:Hd)(gl:GL)(e:En)(h:aA)(x:Esc)(K:KT):Sf C gl sW e h x K:=⟨_,by simp only[sW,↓wZ,AO.still];rfl⟩
theorem z2C {C gl e h x K}:NW C gl sW ⟨e,h,x⟩ K=(NO C gl e h x K).1:=(NO C gl e h x K).2
def z4T:ACode:=(.seq (rg [uO 2 (.box 0),
uO 4 (.alloc [.p (.str []),.p (.int .i64 0)])] [1,2,4])
(.seq (rg [mV 5 (cS [98,121,112,97,115,115])] [1,2,4,5])
(.seq (.seq (rg [fA 10 4 none 2,
lD 11 none 10,
lN 12 11,
mV 13 (cI 0)] [1,2,4,5,11,12,13])
(.block 0 (.loop (.scope XM))))
sW)))
def VZ:AFun:=⟨2,[.cell 4 (some 2)],z4T,false,false⟩
def DT (C:Hd)(gl:GL)(e:En)(h:aA)(x:Esc)(K:KT):Sf C gl z4T e h x K:=⟨_,by simp only[z4T,↓wZ,AO.still];rfl⟩
theorem zjA {C gl v0 v1 h x K}:NW C gl VZ.body ⟨enter [v0,v1],h,x⟩ K=(DT C gl [(0,v0),(1,v1)] h x K).1:=(DT C gl [(0,v0),(1,v1)] h x K).2
def z3x:ACode:=(.seq (rg [mV 2 (cI 0)] [0])
(.seq (rg [mV 3 0,
bN 4 .add 3 (cI 16),
bN 5 .quo 4 (cI 8),
mV 2 5] [2])
.ret))
def gY:AFun:=⟨1,[.t 2],z3x,false,false⟩
def z0M (C:Hd)(gl:GL)(e:En)(h:aA)(x:Esc)(K:KT):Sf C gl z3x e h x K:=⟨_,by simp only[z3x,↓wZ,AO.still];rfl⟩
theorem zgO {C gl v0 h x K}:NW C gl gY.body ⟨enter [v0],h,x⟩ K=(z0M C gl [(0,v0)] h x K).1:=(z0M C gl [(0,v0)] h x K).2
def ZL:ACode:=.pr [0,1,5,6,7,8,9] (.seq (.seq (rg [mV 18 9,
mV 19 7,
bN 20 .lss 18 19] [0,1,5,6,7,8,9,20])
(.cond 20 .skip
(.exit 0)))
(.seq (.block 1 (rg [mV 23 8,
bN 24 .mul 23 (.c (.p (.int .u32 16777619))),
mV 25 0,
mV 26 9,
uO 27 (.idxs 25 26),
uO 28 (.conv (.i .u32) 27),
bN 29 .add 24 28,
mV 8 29] [0,1,5,6,7,8,9]))
(rg [mV 21 9,
bN 22 .add 21 (cI 1),
mV 9 22] [0,1,5,6,7,8,9])))
def z0O (C:Hd)(gl:GL)(e:En)(h:aA)(x:Esc)(K:KT):Sf C gl ZL e h x K:=⟨_,by simp only[ZL,↓wZ,AO.still];rfl⟩
theorem zgQ {C gl e h x K}:NW C gl ZL ⟨e,h,x⟩ K=(z0O C gl e h x K).1:=(z0O C gl e h x K).2
theorem zl1 {C gl e h x K}:NW C gl (.loop ZL) ⟨e,h,x⟩ K=NA C gl ZL K [(0,eA e 0),(1,eA e 1),(5,eA e 5),(6,eA e 6),(7,eA e 7),(8,eA e 8),(9,eA e 9)] h x:=MB
def aM:ACode:=.pr [0,1,5,6,7,8,10] (.seq (.seq (rg [mV 41 10,
mV 42 0,
uO 43 (.lens 42),
bN 44 .lss 41 43] [0,1,5,6,7,8,10,44])
(.cond 44 .skip
(.exit 2)))
(.block 3 (.seq (rg [mV 45 8,
bN 46 .mul 45 (.c (.p (.int .u32 16777619))),
mV 8 46] [0,1,5,6,7,8,10])
(.seq (rg [mV 47 8,
mV 48 0,
mV 49 10,
uO 50 (.idxs 48 49),
uO 51 (.conv (.i .u32) 50),
bN 52 .add 47 51,
mV 8 52] [0,1,5,6,7,8,10])
(.seq (rg [mV 53 8,
mV 54 6,
mV 55 0,
mV 56 10,
mV 57 7,
bN 58 .sub 56 57,
uO 59 (.idxs 55 58),
uO 60 (.conv (.i .u32) 59),
bN 61 .mul 54 60,
bN 62 .sub 53 61,
mV 8 62] [0,1,5,6,7,8,10])
(.seq (rg [mV 63 10,
bN 64 .add 63 (cI 1),
mV 10 64] [0,1,5,6,7,8,10])
(.seq (rg [mV 65 8,
mV 66 5,
bN 67 .eql 65 66,
mV 68 67,
gD 69 68 true (.mv 0),
gD 70 68 true (.mv 10),
gD 71 68 true (.mv 7),
gD 72 68 true (.bin .sub 70 71),
gD 73 68 true (.mv 10),
gD 74 68 true (.slstr 69 (some 72) (some 73)),
gD 75 68 true (.mv 1),
gD 76 68 true (.bin .eql 74 75),
uO 77 (.pick 68 76 cF)] [0,1,5,6,7,8,10,77])
(.cond 77 (.seq (rg [mV 78 10,
mV 79 7,
bN 80 .sub 78 79,
mV 4 80] [4])
.ret)
.skip))))))))
def z0P (C:Hd)(gl:GL)(e:En)(h:aA)(x:Esc)(K:KT):Sf C gl aM e h x K:=⟨_,by simp only[aM,↓wZ,AO.still];rfl⟩
theorem zgR {C gl e h x K}:NW C gl aM ⟨e,h,x⟩ K=(z0P C gl e h x K).1:=(z0P C gl e h x K).2
theorem zl3 {C gl e h x K}:NW C gl (.loop aM) ⟨e,h,x⟩ K=NA C gl aM K [(0,eA e 0),(1,eA e 1),(5,eA e 5),(6,eA e 6),(7,eA e 7),(8,eA e 8),(10,eA e 10)] h x:=MB
def LU:ACode:=.pr [] (.seq (rg [mV 4 (cI (-1))] [4])
.ret)
def z0Q (C:Hd)(gl:GL)(e:En)(h:aA)(x:Esc)(K:KT):Sf C gl LU e h x K:=⟨_,by simp only[LU,↓wZ,AO.still];rfl⟩
theorem zgS {C gl e h x K}:NW C gl LU ⟨e,h,x⟩ K=(z0Q C gl e h x K).1:=(z0Q C gl e h x K).2
def MU:ACode:=.pr [0,1,5,6,7,8] (.seq (.seq (rg [mV 30 8,
mV 31 5,
bN 32 .eql 30 31,
mV 33 32,
gD 34 33 true (.mv 0),
gD 35 33 true (.mv 7),
gD 36 33 true (.slstr 34 none (some 35)),
gD 37 33 true (.mv 1),
gD 38 33 true (.bin .eql 36 37),
uO 39 (.pick 33 38 cF)] [0,1,5,6,7,8,39])
(.cond 39 (.seq (rg [mV 4 (cI 0)] [4])
.ret)
.skip))
(.seq (.seq (rg [mV 40 7,
mV 10 40] [0,1,5,6,7,8,10])
(.block 2 (.loop aM)))
LU))
def z0R (C:Hd)(gl:GL)(e:En)(h:aA)(x:Esc)(K:KT):Sf C gl MU e h x K:=⟨_,by simp only[MU,↓wZ,AO.still];rfl⟩
theorem zgT {C gl e h x K}:NW C gl MU ⟨e,h,x⟩ K=(z0R C gl e h x K).1:=(z0R C gl e h x K).2
def z3y:ACode:=(.seq (rg [mV 4 (cI 0)] [0,1])
(.seq (rg [mV 12 1,
cL 13 jU [12],
mV 11 13,
eX 14 11 0,
eX 15 11 1,
mV 5 14,
mV 6 15] [0,1,5,6])
(.seq (rg [mV 16 1,
uO 17 (.lens 16),
mV 7 17] [0,1,5,6,7])
(.seq (rg [mV 8 (.c (.p (.int .u32 0)))] [0,1,5,6,7,8])
(.seq (.seq (rg [mV 9 (cI 0)] [0,1,5,6,7,8,9])
(.block 0 (.loop ZL)))
MU)))))
def iY:AFun:=⟨2,[.t 4],z3y,false,false⟩
def z0N (C:Hd)(gl:GL)(e:En)(h:aA)(x:Esc)(K:KT):Sf C gl z3y e h x K:=⟨_,by simp only[z3y,↓wZ,AO.still];rfl⟩
theorem zgP {C gl v0 v1 h x K}:NW C gl iY.body ⟨enter [v0,v1],h,x⟩ K=(z0N C gl [(0,v0),(1,v1)] h x K).1:=(z0N C gl [(0,v0),(1,v1)] h x K).2
def bM:ACode:=.pr [0,4,5] (.seq (.seq (rg [mV 9 5,
mV 10 0,
uO 11 (.lens 10),
bN 12 .lss 9 11] [0,4,5,12])
(.cond 12 .skip
(.exit 0)))
(.seq (.block 1 (rg [mV 15 4,
bN 16 .mul 15 (.c (.p (.int .u32 16777619))),
mV 17 0,
mV 18 5,
uO 19 (.idxs 17 18),
uO 20 (.conv (.i .u32) 19),
bN 21 .add 16 20,
mV 4 21] [0,4,5]))
(rg [mV 13 5,
bN 14 .add 13 (cI 1),
mV 5 14] [0,4,5])))
def z0T (C:Hd)(gl:GL)(e:En)(h:aA)(x:Esc)(K:KT):Sf C gl bM e h x K:=⟨_,by simp only[bM,↓wZ,AO.still];rfl⟩
theorem zgV {C gl e h x K}:NW C gl bM ⟨e,h,x⟩ K=(z0T C gl e h x K).1:=(z0T C gl e h x K).2
theorem zl4 {C gl e h x K}:NW C gl (.loop bM) ⟨e,h,x⟩ K=NA C gl bM K [(0,eA e 0),(4,eA e 4),(5,eA e 5)] h x:=MB
def NU:ACode:=.pr [4,6,7,8] (rg [mV 34 7,
mV 35 7,
bN 36 .mul 34 35,
mV 7 36] [4,6,7,8])
def z0U (C:Hd)(gl:GL)(e:En)(h:aA)(x:Esc)(K:KT):Sf C gl NU e h x K:=⟨_,by simp only[NU,↓wZ,AO.still];rfl⟩
theorem zgW {C gl e h x K}:NW C gl NU ⟨e,h,x⟩ K=(z0U C gl e h x K).1:=(z0U C gl e h x K).2
def OU:ACode:=.pr [4,6,7,8] (rg [mV 26 8,
bN 27 .shr 26 (.c (.p (.int .u64 1))),
mV 8 27] [4,6,7,8])
def z0V (C:Hd)(gl:GL)(e:En)(h:aA)(x:Esc)(K:KT):Sf C gl OU e h x K:=⟨_,by simp only[OU,↓wZ,AO.still];rfl⟩
theorem zgX {C gl e h x K}:NW C gl OU ⟨e,h,x⟩ K=(z0V C gl e h x K).1:=(z0V C gl e h x K).2
def cM:ACode:=.pr [4,6,7,8] (.seq (.seq (rg [mV 24 8,
bN 25 .gtr 24 (cI 0)] [4,6,7,8,25])
(.cond 25 .skip
(.exit 2)))
(.seq (.block 3 (.seq (.seq (rg [mV 28 8,
bN 29 .and 28 (cI 1),
bN 30 .neq 29 (cI 0)] [4,6,7,8,30])
(.cond 30 (rg [mV 31 6,
mV 32 7,
bN 33 .mul 31 32,
mV 6 33] [4,6,7,8])
.skip))
NU))
OU))
def z0W (C:Hd)(gl:GL)(e:En)(h:aA)(x:Esc)(K:KT):Sf C gl cM e h x K:=⟨_,by simp only[cM,↓wZ,AO.still];rfl⟩
theorem zgY {C gl e h x K}:NW C gl cM ⟨e,h,x⟩ K=(z0W C gl e h x K).1:=(z0W C gl e h x K).2
theorem zl5 {C gl e h x K}:NW C gl (.loop cM) ⟨e,h,x⟩ K=NA C gl cM K [(4,eA e 4),(6,eA e 6),(7,eA e 7),(8,eA e 8)] h x:=MB
def PU:ACode:=.pr [4,6] (.seq (rg [mV 37 4,
mV 38 6,
mV 2 37,
mV 3 38] [2,3])
.ret)
def z0X (C:Hd)(gl:GL)(e:En)(h:aA)(x:Esc)(K:KT):Sf C gl PU e h x K:=⟨_,by simp only[PU,↓wZ,AO.still];rfl⟩
theorem zgZ {C gl e h x K}:NW C gl PU ⟨e,h,x⟩ K=(z0X C gl e h x K).1:=(z0X C gl e h x K).2
def QU:ACode:=.pr [0,4] (.seq (rg [mV 6 (.c (.p (.int .u32 1))),
mV 7 (.c (.p (.int .u32 16777619)))] [0,4,6,7])
(.seq (.seq (rg [mV 22 0,
uO 23 (.lens 22),
mV 8 23] [4,6,7,8])
(.block 2 (.loop cM)))
PU))
def z0Y (C:Hd)(gl:GL)(e:En)(h:aA)(x:Esc)(K:KT):Sf C gl QU e h x K:=⟨_,by simp only[QU,↓wZ,AO.still];rfl⟩
theorem zha {C gl e h x K}:NW C gl QU ⟨e,h,x⟩ K=(z0Y C gl e h x K).1:=(z0Y C gl e h x K).2
def z3z:ACode:=(.seq (rg [mV 2 (.c (.p (.int .u32 0))),
mV 3 (.c (.p (.int .u32 0)))] [0])
(.seq (rg [mV 4 (.c (.p (.int .u32 0)))] [0,4])
(.seq (.seq (rg [mV 5 (cI 0)] [0,4,5])
(.block 0 (.loop bM)))
QU)))
def jY:AFun:=⟨1,[.t 2,.t 3],z3z,false,false⟩
def z0S (C:Hd)(gl:GL)(e:En)(h:aA)(x:Esc)(K:KT):Sf C gl z3z e h x K:=⟨_,by simp only[z3z,↓wZ,AO.still];rfl⟩
theorem zgU {C gl v0 h x K}:NW C gl jY.body ⟨enter [v0],h,x⟩ K=(z0S C gl [(0,v0)] h x K).1:=(z0S C gl [(0,v0)] h x K).2
end Go.Am
end
section
/- The abstract machine,part L: functions of the library that are met by the kit's contracts: plain values in,plain values out,new memory at most. -/
set_option linter.unusedSimpArgs false
set_option linter.unusedVariables false
namespace Go.Am
variable {P:Program} {gl:Nat→Option PV}
structure PureRow (P:Program) (gl:Nat→Option PV) (f:Nat) (spec:List PV→Option AV):Prop where
 enter:∀us w,(callFunc f us).run P w = .ok (.enter f us) w
 run:∀(M:Mem) (w:World) (vs:List PV) (r:AV) (us:List Value),(∀b o v,M.c b o=some v→w.cell? ⟨b,o,none⟩=some v)→(∀b o,M.b b=some o→w.heap[b]?=some o)→FF gl M→vs.length=us.length →
  (∀(j:Nat) (y:PV) (v:Value),vs[j]?=some y→us[j]?=some v→RPV M y v)→spec vs=some r →
  Calls P f us.toArray w fun e w'=>∃x,e = .returned x∧WExt w w'∧RAV (nH M w w') [] [] r x
abbrev FG:=List (Nat × (List PV→Option AV))
def pI:FG→Nat→List AV→aA→Option (AV × aA × Esc)
 | [],_,_,_=>none
 | (g,s)::r,f,asv,h=>bif Nat.beq f g then((unp asv).bind s).map fun v=>(v,h,[]) else pI r f asv h
theorem z5y:∀ (gs:FG),(∀ g s,(g,s)∈gs→PureRow P gl g s)→∀ {f:Nat} {asv:List AV} {h:aA} {v:AV} {h':aA} {x:Esc},pI gs f asv h=some (v,h',x) →
 TC P gl f asv h fun v1 h1 x1=>v1=v∧h1=h'∧x1=x
 | [],_,f,asv,h,v,h',x,H=>by cases H
 | (g,s)::r,hg,f,asv,h,v,h',x,H=>by
  unfold pI at H;cases e1:Nat.beq f g with
  | false=>
   rw[e1]at H;exact z5y r (fun g sh hm=>hg g sh (by simp [hm])) H
  | true=>
   rw[e1]at H;have e:=Nat.eq_of_beq_eq_true e1
   subst e;have R:=hg f s (by simp)
   simp only[cond_true]at H;obtain⟨y,hy,e2⟩:=Option.map_eq_some_iff.1 H;simp only[Prod.mk.injEq]at e2;obtain⟨rfl,rfl,rfl⟩:=e2;obtain⟨ps,hps,hs⟩:=Option.bind_eq_some_iff.1 hy;have hm:=KN hps
   subst hm;intro μ w vs Hh Hg hl hr;refine .inl ⟨R.enter _,?_⟩;refine(R.run (imm h μ w) w ps y vs (fun b o v hv=>(FE.1 hv).2) (fun b o hv=>(yQ.1 hv).2) Hg (by simpa using hl) (fun j q v hq hv=>(hr j (.p q) v (by simp [hq]) hv).p_inv) hs).mono fun e w' he=>?_
   obtain⟨u,rfl,g1,g2⟩:=he;obtain⟨n1,n2⟩:=Hh.ext g1;have Lq:(nH (imm h μ w) w w').le (imm h μ w'):=by
    refine⟨fun b o v hv=>?_,fun b o hv=>?_,rfl,fun _ _ h=>by cases h⟩
    ·dsimp only[nH]at hv
     split at hv
     ·exact n2.le.c _ _ _ hv
     ·rename_i hb
      exact FE.2 ⟨fun hO=>hb (z3s Hh hO),hv⟩
    ·dsimp only[nH]at hv
     cases hv
   exact⟨_,_,_,μ,⟨rfl,rfl,rfl⟩,g2.evo ⟨Lq,Nat.zero_le _,fun id o m h1=>by simp at h1⟩,n1,n2,vA.refl h []⟩
def yF (gs:List (Nat × Sh))(ps:FG)(f:Nat)(asv:List AV)(h:aA):Option (AV×aA×Esc):=match LL gs f asv h with
 | some y=>some y
 | none=>match pI ps f asv h with
  | some y=>some y
  | none=>match oA h asv with
   | some (asv',h1)=>pI ps f asv' h1
   | none=>none
theorem znG {ps:FG}(hp:∀ g s,(g,s)∈ps→PureRow P gl g s){f:Nat}{asv asv':List AV}{h h1:aA}{v:AV}{h':aA}{x:Esc}(hq:oA h asv=some (asv',h1))(H:pI ps f asv' h1=some (v,h',x)) :
 TC P gl f asv h fun v1 h2 x1=>v1=v∧h2=h'∧x1=x:=by
 intro μ w vs Hh Hg hl hr;obtain⟨q1,q2,q3⟩:=VW asv Hh hl hr hq;rcases z5y ps hp H μ w vs q1.1 (Hg.mono q1.2.1.le) q2 q3 with⟨k1,k2⟩|⟨r,w',v2,h2,x2,μ',k1,k2,k3,k4,k5,k6⟩
 ·refine .inl ⟨k1,k2.mono fun e w' he=>?_⟩
  cases e with
  | returned r=>
   obtain⟨v2,h2,x2,μ',k2,k3,k4,k5,k6⟩:=he;exact⟨v2,h2,x2,μ',k2,k3,k4,q1.2.1.trans k5,by simpa using q1.2.2.trans k6⟩
  | panicked _=>exact he
  | outgrown=>exact he
 ·exact .inr ⟨r,w',v2,h2,x2,μ',k1,k2,k3,k4,q1.2.1.trans k5,by simpa using q1.2.2.trans k6⟩
theorem libF_ok {gs:List (Nat × Sh)}{ps:FG}(hg:∀ g sh,(g,sh)∈gs→GrowRow P g sh)(hp:∀ g s,(g,s)∈ps→PureRow P gl g s){f:Nat}{asv:List AV}{h:aA}{v:AV}{h':aA}{x:Esc}(H:yF gs ps f asv h=some (v,h',x)) :
 TC P gl f asv h fun v1 h1 x1=>v1=v∧h1=h'∧x1=x:=by
 unfold yF at H;split at H
 ·rename_i y hy
  cases H;exact z9I gs hg hy
 ·split at H
  ·rename_i y hy
   cases H;exact z5y ps hp hy
  ·split at H
   ·rename_i asv' h1 hq
    exact znG hp hq H
   ·cases H
theorem wU {X:Ctx}{f:Nat}{asv:List AV}{h h':aA}{v:AV}{x:Esc}{K:kA}(hf:X.fn f=none)(hx:X.ex2 f asv h=some (v,h',x)):bA X f asv h K=K v h' x:=by
 refine propext (bA.eq (bA.fold ?_) K);unfold FC;simp only[hf,hx];exact⟨trivial,trivial,trivial⟩
def sU:List (Nat × Sh)→Nat→Option Sh
 | [],_=>none
 | (g,s)::r,f=>bif Nat.beq f g then some s else sU r f
theorem z9H:∀ {gs:List (Nat × Sh)} {f:Nat} {asv:List AV} {h:aA},sU gs f=none→LL gs f asv h=none
 | [],f,asv,h,_=>rfl
 | (g,s)::r,f,asv,h,hm=>by
  unfold sU at hm;unfold LL;cases hq:Nat.beq f g with
  | true=>rw[hq]at hm;cases hm
  | false=>rw[hq]at hm;exact z9H hm
def WW:FG→Nat→Option (List PV→Option AV)
 | [],_=>none
 | (g,s)::r,f=>bif Nat.beq f g then some s else WW r f
theorem zaK:∀ {gs:FG} {f:Nat} {s:List PV→Option AV} {asv:List AV} {h:aA},WW gs f=some s→pI gs f asv h=((unp asv).bind s).map fun v=>(v,h,[])
 | [],f,s,asv,h,hm=>by cases hm
 | (g,s')::r,f,s,asv,h,hm=>by
  unfold WW at hm;unfold pI;cases hq:Nat.beq f g with
  | true=>rw[hq]at hm;cases hm;rfl
  | false=>rw[hq]at hm;exact zaK hm
theorem vU {gs:List (Nat × Sh)}{ps:FG}{f:Nat}{s:List PV→Option AV}{asv:List AV}{vs:List PV}{v:AV}{h:aA}(hg:sU gs f=none)(hm:WW ps f=some s)(hu:unp asv=some vs)(hv:s vs=some v):yF gs ps f asv h=some (v,h,[]):=by
 unfold yF;rw[z9H hg,zaK hm,hu];simp [hv]
def glOf:List (Nat × PV)→Nat→Option PV
 | [],_=>none
 | (g,v)::r,n=>bif Nat.beq n g then some v else glOf r n
theorem zs7 {f:Nat}(h:(match P.funcs[f]? with | some fn=>fn.body.isSome&&fn.name != "runtime.NumGoroutine" | none=>false)=true)(us:Array Value)(w:World):(callFunc f us).run P w = .ok (.enter f us) w:=by
 cases hf:P.funcs[f]? with
 | none=>rw[hf]at h;cases h
 | some fn=>
  rw[hf]at h;simp only[Bool.and_eq_true,bne_iff_ne,ne_eq]at h;cases hb:fn.body with
  | none=>rw[hb]at h;cases h.1
  | some c=>exact z2I hf hb h.2 us w
def digC (n:Nat):UInt8:=UInt8.ofNat (48+n)
def eJ (n:Nat):List UInt8:=if n<10 then [digC n] else eJ (n / 10)++[digC (n%10)]
termination_by n
decreasing_by omega
def itoa (n:Int):List UInt8:=if n<0 then 45::eJ n.natAbs else eJ n.natAbs
theorem zg8 {n:Nat}(h:n<10):eJ n=[digC n]:=by rw[eJ,if_pos h]
def zQ:List PV→Option AV
 | [.int .i64 n]=>bif decide (-9223372036854775808≤n)&&decide (n≤9223372036854775807) then some (.p (.str (itoa n))) else none
 | _=>none
def TW:PV:=.agg ((List.range 20).map fun i=>.int .u64 ((10^i:Nat):Int))
def rI (s:List UInt8):Nat→List UInt8
 | 0=>[]
 | c+1=>s++rI s c
def jR:List PV→Option AV
 | [.str s,.int .i64 c]=>if 0≤c∧s.length*c.toNat≤1000000∧c≤1000000 then some (.p (.str (rI s c.toNat))) else none
 | _=>none
def DF (s cs:List UInt8):List UInt8:=(s.reverse.dropWhile (cs.contains ·)).reverse.dropWhile (cs.contains ·)
def trimS:List PV→Option AV
 | [.str s,.str cs]=>if s.length≤1000000∧cs.length≤1000∧cs.all (fun b=>decide (b.toNat<128))=true then some (.p (.str (DF s cs))) else none
 | _=>none
def wJ:PV→Bool
 | .agg [.int .i64 _,.int .i64 _,.int .i64 _,.str _,.str _,.str _]=>true
 | _=>false
def UR:PV→Int
 | .agg (.int _ k::_)=>k
 | _=>0
def xQ:PV:=.agg [.int .i64 0,.int .i64 1,.int .i64 0,.str [],.str [],.str []]
def YH (l:List PV)(k:Int):PV:=(l.reverse.find? fun c=>UR c==k).getD xQ
def uR:List PV→Option AV
 | [.sl (some 6) xs,.int .i64 i,.int .i64 k]=>if 0≤i∧i≤(xs.length:Int)∧xs.length≤1000000∧xs.all wJ=true then some (.p (YH (xs.take i.toNat) k)) else none
 | _=>none
end Go.Am
end
section
/- The abstract machine,part C: iC calls that say true,asv contracts. -/
set_option linter.all false
namespace Go.Am
variable {P:Program} {gl:Nat→Option PV}
end Go.Am
end
