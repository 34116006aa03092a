import Derived.KernelRfl
import Derived.Test.YthlhdniejglcnaaGreatDoorlawPY6
set_option linter.all false
set_option maxRecDepth 100000
set_option maxHeartbeats 0
namespace Go.Am
section
variable (C:Hd)(gl:GL)(e:En)(h:aA)(x:Esc)(K:KT)
def pU:ACode:=.pr [0,1,6,8,9,12,13,14] (.seq (.seq (rg [mV 31 9,
mV 32 1,
bN 33 .eql 31 32] [0,1,6,8,12,13,14,33])
(.cond 33 (.seq (rg [mV 34 8,
mV 4 34] [4])
.ret)
.skip))
(rg [mV 35 6,
mV 36 8,
bN 37 .add 36 (cS [48]),
mV 38 8,
bN 39 .add 38 (cS [49]),
uO 40 (.bsl false none 2 (.str []) [(0,37),(1,39)]),
uO 41 (.app none 35 40),
mV 6 41] [0,1,6,12,13,14]))
def AZ:Sf C gl pU e h x K:=⟨_,by simp only[pU,↓wZ,AO.still];rfl⟩
def zhd:=(AZ C gl e h x K).2
def qU:ACode:=.pr [0,1,6,12,13,14] (rg [bN 42 .add 14 (cI 1),
mV 14 42] [0,1,6,12,13,14])
def BZ:Sf C gl qU e h x K:=⟨_,by simp only[qU,↓wZ,AO.still];rfl⟩
def zhe:=(BZ C gl e h x K).2
def bM:ACode:=.pr [0,1,6,12,13,14] (.seq (rg [bN 15 .lss 14 13] [0,1,6,12,13,14,15])
(.seq (.cond 15 .skip
(.exit 2))
(.seq (.block 3 (.seq (rg [iA 16 none 12 14,
lD 17 none 16,
mV 8 17] [0,1,6,8,12,13,14])
(.seq (rg [mV 18 0,
mV 9 18] [0,1,6,8,9,12,13,14])
(.seq (.seq (rg [mV 19 0,
mV 20 8,
cL 21 NO [19,20],
mV 10 21] [0,1,6,8,9,10,12,13,14])
(.seq (rg [mV 22 10,
lN 23 22,
bN 24 .gtr 23 (cI 0)] [0,1,6,8,9,10,12,13,14,24])
(.cond 24 (rg [mV 25 10,
mV 26 10,
lN 27 26,
bN 28 .sub 27 (cI 1),
iA 29 none 25 28,
lD 30 none 29,
mV 9 30] [0,1,6,8,9,12,13,14])
.skip)))
pU))))
qU)))
def CZ:Sf C gl bM e h x K:=⟨_,by simp only[bM,↓wZ,AO.still];rfl⟩
def zhf:=(CZ C gl e h x K).2
theorem zkP {C gl e h x K}:NW C gl (.loop (.scope bM)) ⟨e,h,x⟩ K=UA C gl (.scope bM) K [(0,eA e 0),(1,eA e 1),(6,eA e 6),(12,eA e 12),(13,eA e 13),(14,eA e 14)] h x:=jC
def rU:ACode:=.pr [0,1,6] (rg [mV 43 6,
mV 5 43] [0,1,5])
def DZ:Sf C gl rU e h x K:=⟨_,by simp only[rU,↓wZ,AO.still];rfl⟩
def zhg:=(DZ C gl e h x K).2
def cM:ACode:=.pr [0,1,5] (.block 1 (.seq (rg [uO 6 (.new0 none)] [0,1,5,6])
(.seq (.seq (rg [mV 12 5,
lN 13 12,
mV 14 (cI 0)] [0,1,6,12,13,14])
(.block 2 (.loop (.scope bM))))
rU)))
def EZ:Sf C gl cM e h x K:=⟨_,by simp only[cM,↓wZ,AO.still];rfl⟩
def zhh:=(EZ C gl e h x K).2
theorem zkQ {C gl e h x K}:NW C gl (.loop cM) ⟨e,h,x⟩ K=UA C gl cM K [(0,eA e 0),(1,eA e 1),(5,eA e 5)] h x:=EC
def z1R:ACode:=(.seq (rg [mV 4 (cS [])] [0,1])
(.seq (rg [uO 11 (.bsl false none 1 (.str []) [(0,(cS []))]),
mV 5 11] [0,1,5])
(.block 0 (.loop cM))))
def yX:AFun:=⟨2,[.t 4],z1R,false,false⟩
def UR:Sf C gl z1R e h x K:=⟨_,by simp only[z1R,↓wZ,AO.still];rfl⟩
def z3f:ACode:=(.seq (rg [mV 2 cF] [0])
(.seq (rg [mV 3 0,
bN 4 .eql 3 (cI 0),
mV 5 4,
gD 6 5 false (.mv 0),
gD 7 5 false (.bin .eql 6 (cI 1)),
uO 8 (.pick 5 cT 7),
mV 9 8,
gD 10 9 false (.mv 0),
gD 11 9 false (.bin .eql 10 (cI 6)),
uO 12 (.pick 9 cT 11),
mV 13 12,
gD 14 13 false (.mv 0),
gD 15 13 false (.bin .eql 14 (cI 13)),
uO 16 (.pick 13 cT 15),
mV 2 16] [2])
.ret))
def cR:AFun:=⟨1,[.t 2],z3f,false,false⟩
def ZH:Sf C gl z3f e h x K:=⟨_,by simp only[z3f,↓wZ,AO.still];rfl⟩
def z3c:ACode:=(.seq (rg [uO 1 (.box 0),
mV 2 (cI 0)] [1])
(.seq (.block 0 (.seq (rg [fA 4 3 none 1,
lD 5 none 4,
bN 6 .eql 5 (cS []),
mV 3 6] [1,3])
(.cond 3 (.seq (rg [mV 2 (cI 8)] [2])
.ret)
(.seq (rg [fA 8 3 none 1,
lD 9 none 8,
cL 10 GE [9],
uO 11 (.un .not 10),
mV 7 11] [1,7])
(.cond 7 (.seq (rg [mV 2 (cI 9)] [2])
.ret)
(.seq (rg [fA 13 3 none 1,
lD 14 none 13,
uO 15 (.lens 14),
bN 16 .gtr 15 (cI 2000),
mV 12 16] [1,12])
(.cond 12 (.seq (rg [mV 2 (cI 2)] [2])
.ret)
(.seq (rg [fA 18 4 none 1,
lD 19 none 18,
bN 20 .neq 19 (cS []),
mV 21 20,
gD 22 21 true (.faddr 4 none 1),
gD 23 21 true (.load none 22),
gD 24 21 true (.lens 23),
gD 25 21 true (.faddr 3 none 1),
gD 26 21 true (.load none 25),
gD 27 21 true (.lens 26),
gD 28 21 true (.bin .neq 24 27),
gD 29 21 true (.mv 28),
gD 30 29 false (.faddr 5 none 1),
gD 31 29 false (.load none 30),
gD 32 29 false (.lens 31),
gD 33 29 false (.faddr 3 none 1),
gD 34 29 false (.load none 33),
gD 35 29 false (.lens 34),
gD 36 29 false (.bin .neq 32 35),
gD 37 21 true (.pick 29 cT 36),
uO 38 (.pick 21 37 cF),
mV 17 38] [1,17])
(.cond 17 (.seq (rg [mV 2 (cI 3)] [2])
.ret)
(.seq (rg [fA 40 4 none 1,
lD 41 none 40,
cL 42 GE [41],
uO 43 (.un .not 42),
mV 44 43,
gD 45 44 false (.faddr 5 none 1),
gD 46 44 false (.load none 45),
gD 47 44 false (.call GE [46]),
gD 48 44 false (.un .not 47),
uO 49 (.pick 44 cT 48),
mV 39 49] [1,39])
(.cond 39 (.seq (rg [mV 2 (cI 9)] [2])
.ret)
(.seq (rg [fA 51 4 none 1,
lD 52 none 51,
bN 53 .eql 52 (cS []),
mV 54 53,
gD 55 54 true (.faddr 5 none 1),
gD 56 54 true (.load none 55),
gD 57 54 true (.bin .neq 56 (cS [])),
uO 58 (.pick 54 57 cF),
mV 50 58] [50])
(.cond 50 (.seq (rg [mV 2 (cI 3)] [2])
.ret)
.skip)))))))))))))
(.seq (rg [mV 2 (cI 0)] [2])
.ret)))
def aR:AFun:=⟨1,[.t 2],z3c,false,false⟩
def EE:Sf C gl z3c e h x K:=⟨_,by simp only[z3c,↓wZ,AO.still];rfl⟩
def z27:ACode:=(.seq (rg [mV 4 (cS []),
mV 5 (cI 0)] [0,1])
(.seq (.seq (rg [mV 6 0,
cL 7 CJ [6],
uO 8 (.un .not 7),
mV 9 8,
gD 10 9 false (.mv 1),
gD 11 9 false (.call CJ [10]),
gD 12 9 false (.un .not 11),
uO 13 (.pick 9 cT 12)] [0,1,13])
(.cond 13 (.seq (rg [mV 4 (cS []),
mV 5 (cI 1)] [4,5])
.ret)
.skip))
(.seq (rg [mV 14 0,
mV 15 1,
cL 16 CG [14,15],
mV 4 16,
mV 5 (cI 0)] [4,5])
.ret)))
def PQ:AFun:=⟨2,[.t 4,.t 5],z27,false,false⟩
def IS:Sf C gl z27 e h x K:=⟨_,by simp only[z27,↓wZ,AO.still];rfl⟩
def z2A:ACode:=(.seq (rg [uO 2 (.box 0),
mV 3 cF] [1,2])
(.seq (rg [fA 4 0 none 2,
lD 5 none 4,
fA 6 0 none 1,
lD 7 none 6,
bN 8 .eql 5 7,
mV 3 8] [3])
.ret))
def oY:AFun:=⟨2,[.t 3],z2A,false,false⟩
def KS:Sf C gl z2A e h x K:=⟨_,by simp only[z2A,↓wZ,AO.still];rfl⟩
def AM:ACode:=.pr [1,6,7,8] (.seq (rg [bN 9 .lss 8 7] [1,6,7,8,9])
(.seq (.cond 9 .skip
(.exit 0))
(.seq (.block 1 (.seq (rg [mV 10 8,
iA 11 (some 2) 6 8,
lD 12 (some 2) 11,
uO 4 (.alloc [.p (.str []),.p (.int .i64 0)]),
mV 3 10,
wO (.store (some 2) 4 12)] [1,3,4,6,7,8])
(.block 2 (.seq (rg [fA 14 0 none 4,
lD 15 none 14,
cL 16 VD [15],
uO 17 (.un .not 16),
mV 13 17] [1,3,4,6,7,8,13])
(.cond 13 (.seq (rg [mV 2 (cI 5)] [2])
.ret)
(.seq (rg [fA 19 0 none 4,
lD 20 none 19,
bN 21 .eql 20 (cS [98,121,112,97,115,115]),
mV 22 21,
gD 23 22 false (.faddr 0 none 4),
gD 24 22 false (.load none 23),
gD 25 22 false (.bin .eql 24 (cS [105,100,99,111,100,101])),
uO 26 (.pick 22 cT 25),
mV 27 26,
gD 28 27 false (.faddr 3 none 1),
gD 29 27 false (.load none 28),
gD 30 27 false (.mv 3),
gD 31 27 false (.slice (some 2) 29 none (some 30) none),
gD 32 27 false (.mkfn wP [4]),
gD 33 27 false (.call YO [31,32]),
uO 34 (.pick 27 cT 33),
mV 18 34] [1,4,6,7,8,18])
(.cond 18 (.seq (rg [mV 2 (cI 6)] [2])
.ret)
(.seq (rg [fA 36 1 none 4,
lD 37 none 36,
cL 38 kC [37,(cI 1),(cI 1000)],
mV 35 38] [1,6,7,8,35])
(.cond 35 (.seq (rg [mV 2 (cI 1)] [2])
.ret)
.skip)))))))))
(rg [bN 39 .add 8 (cI 1),
mV 8 39] [1,6,7,8]))))
def xG:Sf C gl AM e h x K:=⟨_,by simp only[AM,↓wZ,AO.still];rfl⟩
def fI:=(xG C gl e h x K).2
theorem zlo {C gl e h x K}:NW C gl (.loop (.scope AM)) ⟨e,h,x⟩ K=UA C gl (.scope AM) K [(1,eA e 1),(6,eA e 6),(7,eA e 7),(8,eA e 8)] h x:=jC
def YU:ACode:=.pr [] (.seq (rg [mV 2 (cI 0)] [2])
.ret)
def SS:Sf C gl YU e h x K:=⟨_,by simp only[YU,↓wZ,AO.still];rfl⟩
def z6v:=(SS C gl e h x K).2
def z2J:ACode:=(.seq (rg [uO 1 (.box 0),
mV 2 (cI 0)] [1])
(.seq (.seq (rg [fA 5 3 none 1,
lD 6 none 5,
lN 7 6,
mV 8 (cI 0)] [1,6,7,8])
(.block 0 (.loop (.scope AM))))
YU))
def vY:AFun:=⟨1,[.t 2],z2J,false,false⟩
def RS:Sf C gl z2J e h x K:=⟨_,by simp only[z2J,↓wZ,AO.still];rfl⟩
def xM:ACode:=.pr [1,8,9,10] (.seq (rg [bN 11 .lss 10 9] [1,8,9,10,11])
(.seq (.cond 11 .skip
(.exit 0))
(.seq (.block 1 (.seq (rg [mV 12 10,
iA 13 (some 2) 8 10,
lD 14 (some 2) 13,
uO 4 (.alloc [.p (.str []),.p (.str [])]),
mV 3 12,
wO (.store (some 2) 4 14)] [1,3,4,8,9,10])
(.seq (.block 2 (.seq (rg [fA 16 0 none 4,
lD 17 none 16,
uO 18 (.lens 17),
fA 19 1 none 1,
lD 20 none 19,
bN 21 .neq 18 20,
mV 15 21] [1,3,4,8,9,10,15])
(.cond 15 (.seq (rg [mV 2 (cI 3)] [2])
.ret)
(.seq (rg [fA 23 0 none 4,
lD 24 none 23,
cL 25 GE [24],
uO 26 (.un .not 25),
mV 22 26] [1,3,4,8,9,10,22])
(.cond 22 (.seq (rg [mV 2 (cI 9)] [2])
.ret)
(.seq (rg [fA 28 0 none 4,
lD 29 none 28,
cL 30 fP [29,(cS [48])],
uO 31 (.un .not 30),
mV 27 31] [1,3,4,8,9,10,27])
(.cond 27 (.seq (rg [mV 2 (cI 16)] [2])
.ret)
(.seq (rg [fA 33 4 none 1,
lD 34 none 33,
mV 35 3,
uO 36 (.slice (some 2) 34 none (some 35) none),
uO 37 (.mkfn sP [4]),
cL 38 XO [36,37],
mV 32 38] [1,4,8,9,10,32])
(.cond 32 (.seq (rg [mV 2 (cI 6)] [2])
.ret)
.skip)))))))))
(.seq (rg [lD 40 (some 5) 1,
fA 41 1 none 4,
lD 42 none 41,
cL 43 DJ [40,42],
mV 39 43,
eX 44 39 0,
eX 45 39 1,
uO 5 (.alloc [.p (.str []),.p (.int .i64 0)]),
wO (.store (some 2) 5 44),
mV 6 45] [1,6,8,9,10])
(.seq (rg [mV 46 6,
uO 47 (.un .not 46)] [1,8,9,10,47])
(.cond 47 (.seq (rg [mV 2 (cI 8)] [2])
.ret)
.skip))))))
(rg [bN 48 .add 10 (cI 1),
mV 10 48] [1,8,9,10]))))
def vG:Sf C gl xM e h x K:=⟨_,by simp only[xM,↓wZ,AO.still];rfl⟩
def dI:=(vG C gl e h x K).2
theorem zlk {C gl e h x K}:NW C gl (.loop (.scope xM)) ⟨e,h,x⟩ K=UA C gl (.scope xM) K [(1,eA e 1),(8,eA e 8),(9,eA e 9),(10,eA e 10)] h x:=jC
def VU:ACode:=.pr [] (.seq (rg [mV 2 (cI 0)] [2])
.ret)
def MS:Sf C gl VU e h x K:=⟨_,by simp only[VU,↓wZ,AO.still];rfl⟩
def z6s:=(MS C gl e h x K).2
def z2B:ACode:=(.seq (rg [uO 1 (.box 0),
mV 2 (cI 0)] [1])
(.seq (.seq (rg [fA 7 4 none 1,
lD 8 none 7,
lN 9 8,
mV 10 (cI 0)] [1,8,9,10])
(.block 0 (.loop (.scope xM))))
VU))
def pY:AFun:=⟨1,[.t 2],z2B,false,false⟩
def LS:Sf C gl z2B e h x K:=⟨_,by simp only[z2B,↓wZ,AO.still];rfl⟩
def z2i:ACode:=(.det (.seq (rg [mV 2 (.c (.p (.sl (some 2) [])))] [0])
(.seq (.seq (rg [mV 3 0,
uO 4 (.isnil 4 false 3)] [0,4])
(.condu 4 (.seq (rg [mV 2 (.c (.p (.sl (some 2) [])))] [2])
.ret)
.skip))
(.seq (rg [uO 5 (.bsl true (some 2) 0 (.agg [.str [],.int .i64 0]) []),
mV 6 0,
uO 7 (.app (some 2) 5 6),
mV 2 7] [2])
.ret))))
def QX:AFun:=⟨1,[.t 2],z2i,false,false⟩
def iS:Sf C gl z2i e h x K:=⟨_,by simp only[z2i,↓wZ,AO.still];rfl⟩
theorem zhH {C gl v0 h x K}:NW C gl QX.body ⟨enter [v0],h,x⟩ K=(iS C gl [(0,v0)] h x K).1:=(iS C gl [(0,v0)] h x K).2
def z2h:ACode:=(.det (.seq (rg [mV 2 (.c (.p (.sl (some 2) [])))] [0])
(.seq (.seq (rg [mV 3 0,
uO 4 (.isnil 4 false 3)] [0,4])
(.condu 4 (.seq (rg [mV 2 (.c (.p (.sl (some 2) [])))] [2])
.ret)
.skip))
(.seq (rg [uO 5 (.bsl true (some 2) 0 (.agg [.str [],.str []]) []),
mV 6 0,
uO 7 (.app (some 2) 5 6),
mV 2 7] [2])
.ret))))
def PX:AFun:=⟨1,[.t 2],z2h,false,false⟩
def gS:Sf C gl z2h e h x K:=⟨_,by simp only[z2h,↓wZ,AO.still];rfl⟩
theorem zhG {C gl v0 h x K}:NW C gl PX.body ⟨enter [v0],h,x⟩ K=(gS C gl [(0,v0)] h x K).1:=(gS C gl [(0,v0)] h x K).2
def LU:ACode:=.pr [1,2,12,25] (.cond 25 (.seq (rg [mV 28 1,
uO 29 (.nilchk 28),
fA 30 6 none 29,
lD 31 none 30,
uO 32 (.idxs 31 (cI 0)),
mV 7 32] [1,2,7])
(.seq (rg [mV 33 1,
mV 34 1,
uO 35 (.nilchk 34),
fA 36 6 none 35,
lD 37 none 36,
uO 38 (.slstr 37 (some (cI 1)) none),
mV 39 2,
uO 40 (.conv (.i .i32) 39),
uO 41 (.conv .r2s 40),
bN 42 .add 38 41,
uO 43 (.nilchk 33),
fA 44 6 none 43,
wO (.store none 44 42)] [7])
(.seq (rg [mV 45 7,
mV 6 45] [6])
.ret)))
(.seq (rg [bN 47 .eql 12 (cI 8),
mV 46 47] [1,2,12,46])
(.cond 46 (.seq (rg [mV 48 1,
cL 49 wL [48],
uO 50 (.field 0 none 49),
mV 8 50] [1,2,8])
(.seq (rg [mV 51 8,
bN 52 .neq 51 (cS [98,121,112,97,115,115]),
mV 53 52,
gD 54 53 true (.mv 8),
gD 55 53 true (.bin .neq 54 (cS [105,100,99,111,100,101])),
uO 56 (.pick 53 55 cF)] [1,2,8,56])
(.cond 56 (dr [dF (mV 57 1) [1],
dF (uO 58 (.nilchk 57)) [57],
dF (fA 59 8 none 58) [58],
dF (lD 60 none 59) [59],
dF (mV 61 8) [8],
dF (mV 62 1) [1],
dF (uO 63 (.nilchk 62)) [62],
dF (fA 64 6 none 63) [63],
dF (lD 65 none 64) [64],
dT (wO (.mupd (none,[2]) 60 61 65)) [60,61,65]] [2])
.skip)))
(.seq (rg [bN 67 .eql 12 (cI 10),
mV 66 67] [1,2,12,66])
(.cond 66 (rg [mV 68 1,
mV 69 1,
uO 70 (.nilchk 69),
fA 71 0 (some 5) 70,
fA 72 1 none 71,
lD 73 none 72,
bN 74 .sub 73 (cI 1),
cL 75 DA [(cS [48]),74],
bN 76 .add (cS [49]) 75,
uO 77 (.nilchk 68),
fA 78 6 none 77,
wO (.store none 78 76)] [2])
(.seq (rg [bN 80 .eql 12 (cI 15),
mV 79 80] [1,2,79])
(.cond 79 (rg [mV 81 1,
mV 82 1,
uO 83 (.nilchk 82),
fA 84 6 none 83,
lD 85 none 84,
uO 86 (.nilchk 81),
fA 87 5 none 86,
wO (.store none 87 85)] [2])
.skip)))))))
def zF:Sf C gl LU e h x K:=⟨_,by simp only[LU,↓wZ,AO.still];rfl⟩
def z0B:=(zF C gl e h x K).2
def MU:ACode:=.pr [2] (.seq (rg [mV 88 2,
mV 6 88] [6])
.ret)
def BE:Sf C gl MU e h x K:=⟨_,by simp only[MU,↓wZ,AO.still];rfl⟩
def z0C:=(BE C gl e h x K).2
def z23:ACode:=(.seq (rg [mV 6 (.c (.p (.int .u8 0)))] [0,1,2])
(.seq (.seq (rg [mV 9 0,
uO 10 (.nilchk 9),
fA 11 0 none 10,
lD 12 none 11] [1,2,12])
(.block 0 (.seq (rg [bN 14 .eql 12 (cI 0),
mV 13 14] [1,2,12,13])
(.cond 13 (rg [mV 15 1,
uO 16 (.nilchk 15),
fA 17 5 none 16,
wO (.store none 17 (cS []))] [2])
(.seq (rg [bN 19 .eql 12 (cI 3),
mV 18 19] [1,2,12,18])
(.cond 18 (rg [mV 20 1,
mV 21 1,
cL 22 tP [21],
uO 23 (.nilchk 20),
fA 24 6 none 23,
wO (.store none 24 22)] [2])
(.seq (.seq (rg [bN 26 .eql 12 (cI 4),
mV 25 26] [1,2,12,25])
(.cond 25 .skip
(rg [bN 27 .eql 12 (cI 11),
mV 25 27] [1,2,12,25])))
LU)))))))
MU))
def iY:AFun:=⟨3,[.t 6],z23,false,false⟩
def XE:Sf C gl z23 e h x K:=⟨_,by simp only[z23,↓wZ,AO.still];rfl⟩
def zcb:ACode:=(.seq (rg [mV 4 (cI 0)] [0,1])
(.seq (rg [uO 6 (.build [.p (.int .i64 0),.p (.int .i64 0)] [(0,1,(cI 1)),(1,1,(cI 0))]),
uO 7 (.build [.p (.int .i64 0),.p (.int .i64 0)] [(0,1,(cI 1)),(1,1,(cI 2))]),
uO 8 (.build [.p (.int .i64 0),.p (.int .i64 0)] [(0,1,(cI 3)),(1,1,(cI 9))]),
uO 9 (.build [.p (.int .i64 0),.p (.int .i64 0)] [(0,1,(cI 4)),(1,1,(cI 5))]),
uO 10 (.build [.p (.int .i64 0),.p (.int .i64 0)] [(0,1,(cI 4)),(1,1,(cI 5))]),
uO 11 (.build [.p (.int .i64 0),.p (.int .i64 0)] [(0,1,(cI 6)),(1,1,(cI 8))]),
uO 12 (.build [.p (.int .i64 0),.p (.int .i64 0)] [(0,1,(cI 6)),(1,1,(cI 7))]),
uO 13 (.build [.p (.int .i64 0),.p (.int .i64 0)] [(0,1,(cI 4)),(1,1,(cI 8))]),
uO 14 (.build [.p (.int .i64 0),.p (.int .i64 0)] [(0,1,(cI 1)),(1,1,(cI 2))]),
uO 15 (.build [.p (.int .i64 0),.p (.int .i64 0)] [(0,1,(cI 10)),(1,1,(cI 0))]),
uO 16 (.build [.p (.int .i64 0),.p (.int .i64 0)] [(0,1,(cI 11)),(1,1,(cI 12))]),
uO 17 (.build [.p (.int .i64 0),.p (.int .i64 0)] [(0,1,(cI 11)),(1,1,(cI 12))]),
uO 18 (.build [.p (.int .i64 0),.p (.int .i64 0)] [(0,1,(cI 13)),(1,1,(cI 15))]),
uO 19 (.build [.p (.int .i64 0),.p (.int .i64 0)] [(0,1,(cI 13)),(1,1,(cI 14))]),
uO 20 (.build [.p (.int .i64 0),.p (.int .i64 0)] [(0,1,(cI 11)),(1,1,(cI 15))]),
uO 21 (.build [.p (.int .i64 0),.p (.int .i64 0)] [(0,1,(cI 1)),(1,1,(cI 2))]),
uO 22 (.build [.p (.int .i64 0),.p (.int .i64 0),.p (.int .i64 0),.p (.int .i64 0),.p (.int .i64 0),.p (.int .i64 0),.p (.int .i64 0),.p (.int .i64 0),.p (.int .i64 0),.p (.int .i64 0),.p (.int .i64 0),.p (.int .i64 0),.p (.int .i64 0),.p (.int .i64 0),.p (.int .i64 0),.p (.int .i64 0),.p (.int .i64 0),.p (.int .i64 0),.p (.int .i64 0),.p (.int .i64 0),.p (.int .i64 0),.p (.int .i64 0),.p (.int .i64 0),.p (.int .i64 0),.p (.int .i64 0),.p (.int .i64 0),.p (.int .i64 0),.p (.int .i64 0),.p (.int .i64 0),.p (.int .i64 0),.p (.int .i64 0),.p (.int .i64 0)] [(0,2,6),(2,2,7),(4,2,8),(6,2,9),(8,2,10),(10,2,11),(12,2,12),(14,2,13),(16,2,14),(18,2,15),(20,2,16),(22,2,17),(24,2,18),(26,2,19),(28,2,20),(30,2,21)]),
uO 5 (.alloc [.p (.int .i64 0),.p (.int .i64 0),.p (.int .i64 0),.p (.int .i64 0),.p (.int .i64 0),.p (.int .i64 0),.p (.int .i64 0),.p (.int .i64 0),.p (.int .i64 0),.p (.int .i64 0),.p (.int .i64 0),.p (.int .i64 0),.p (.int .i64 0),.p (.int .i64 0),.p (.int .i64 0),.p (.int .i64 0),.p (.int .i64 0),.p (.int .i64 0),.p (.int .i64 0),.p (.int .i64 0),.p (.int .i64 0),.p (.int .i64 0),.p (.int .i64 0),.p (.int .i64 0),.p (.int .i64 0),.p (.int .i64 0),.p (.int .i64 0),.p (.int .i64 0),.p (.int .i64 0),.p (.int .i64 0),.p (.int .i64 0),.p (.int .i64 0)]),
wO (.store (some 32) 5 22)] [0,1,5])
(.seq (rg [mV 23 0,
mV 24 1,
uO 25 (.iaddra 16 (some 2) 5 23),
uO 26 (.iaddra 2 none 25 24),
lD 27 none 26,
mV 4 27] [4])
.ret)))
def bJ:AFun:=⟨2,[.t 4],zcb,false,false⟩
def PS (C:Hd)(gl:GL)(v0 v1:AV)(h:aA)(x:Esc)(K:KT):Prop:=
 pK (lC [.p (.int .i64 0),.p (.int .i64 0)] [(0,1,(AI 1)),(1,1,(AI 0))]) λt1=>
 pK (lC [.p (.int .i64 0),.p (.int .i64 0)] [(0,1,(AI 1)),(1,1,(AI 2))]) λt2=>
 pK (lC [.p (.int .i64 0),.p (.int .i64 0)] [(0,1,(AI 3)),(1,1,(AI 9))]) λt3=>
 pK (lC [.p (.int .i64 0),.p (.int .i64 0)] [(0,1,(AI 4)),(1,1,(AI 5))]) λt4=>
 pK (lC [.p (.int .i64 0),.p (.int .i64 0)] [(0,1,(AI 4)),(1,1,(AI 5))]) λt5=>
 pK (lC [.p (.int .i64 0),.p (.int .i64 0)] [(0,1,(AI 6)),(1,1,(AI 8))]) λt6=>
 pK (lC [.p (.int .i64 0),.p (.int .i64 0)] [(0,1,(AI 6)),(1,1,(AI 7))]) λt7=>
 pK (lC [.p (.int .i64 0),.p (.int .i64 0)] [(0,1,(AI 4)),(1,1,(AI 8))]) λt8=>
 pK (lC [.p (.int .i64 0),.p (.int .i64 0)] [(0,1,(AI 1)),(1,1,(AI 2))]) λt9=>
 pK (lC [.p (.int .i64 0),.p (.int .i64 0)] [(0,1,(AI 10)),(1,1,(AI 0))]) λt10=>
 pK (lC [.p (.int .i64 0),.p (.int .i64 0)] [(0,1,(AI 11)),(1,1,(AI 12))]) λt11=>
 pK (lC [.p (.int .i64 0),.p (.int .i64 0)] [(0,1,(AI 11)),(1,1,(AI 12))]) λt12=>
 pK (lC [.p (.int .i64 0),.p (.int .i64 0)] [(0,1,(AI 13)),(1,1,(AI 15))]) λt13=>
 pK (lC [.p (.int .i64 0),.p (.int .i64 0)] [(0,1,(AI 13)),(1,1,(AI 14))]) λt14=>
 pK (lC [.p (.int .i64 0),.p (.int .i64 0)] [(0,1,(AI 11)),(1,1,(AI 15))]) λt15=>
 pK (lC [.p (.int .i64 0),.p (.int .i64 0)] [(0,1,(AI 1)),(1,1,(AI 2))]) λt16=>
 pK (lC [.p (.int .i64 0),.p (.int .i64 0),.p (.int .i64 0),.p (.int .i64 0),.p (.int .i64 0),.p (.int .i64 0),.p (.int .i64 0),.p (.int .i64 0),.p (.int .i64 0),.p (.int .i64 0),.p (.int .i64 0),.p (.int .i64 0),.p (.int .i64 0),.p (.int .i64 0),.p (.int .i64 0),.p (.int .i64 0),.p (.int .i64 0),.p (.int .i64 0),.p (.int .i64 0),.p (.int .i64 0),.p (.int .i64 0),.p (.int .i64 0),.p (.int .i64 0),.p (.int .i64 0),.p (.int .i64 0),.p (.int .i64 0),.p (.int .i64 0),.p (.int .i64 0),.p (.int .i64 0),.p (.int .i64 0),.p (.int .i64 0),.p (.int .i64 0)] [(0,2,t1),(2,2,t2),(4,2,t3),(6,2,t4),(8,2,t5),(10,2,t6),(12,2,t7),(14,2,t8),(16,2,t9),(18,2,t10),(20,2,t11),(22,2,t12),(24,2,t13),(26,2,t14),(28,2,t15),(30,2,t16)]) λt17=>
 alK [.p (.int .i64 0),.p (.int .i64 0),.p (.int .i64 0),.p (.int .i64 0),.p (.int .i64 0),.p (.int .i64 0),.p (.int .i64 0),.p (.int .i64 0),.p (.int .i64 0),.p (.int .i64 0),.p (.int .i64 0),.p (.int .i64 0),.p (.int .i64 0),.p (.int .i64 0),.p (.int .i64 0),.p (.int .i64 0),.p (.int .i64 0),.p (.int .i64 0),.p (.int .i64 0),.p (.int .i64 0),.p (.int .i64 0),.p (.int .i64 0),.p (.int .i64 0),.p (.int .i64 0),.p (.int .i64 0),.p (.int .i64 0),.p (.int .i64 0),.p (.int .i64 0),.p (.int .i64 0),.p (.int .i64 0),.p (.int .i64 0),.p (.int .i64 0)] h λt18 h19 y20=>
 wK (lB (some 32) t18 t17 h19) λt21 h22 y23=>
 pK (PJ 16 (some 2) t18 v0) λt24=>
 pK (PJ 2 none t24 v1) λt25=>
 pK (AA none t25 h22) λt26=>
 K .ret ⟨[(4,t26)],h22,(y23++(y20++x))⟩
theorem z6t {C gl v0 v1 h x K}:NW C gl bJ.body ⟨enter [v0,v1],h,x⟩ K=PS C gl v0 v1 h x K:=by kernel_rfl
def z2z:ACode:=(.seq (rg [mV 4 (cI 0)] [0,1])
(.seq (rg [mV 5 0,
mV 6 1,
cL 7 KO [5,6],
mV 4 7] [4])
.ret))
def fY:AFun:=⟨2,[.t 4],z2z,false,false⟩
def CS:Sf C gl z2z e h x K:=⟨_,by simp only[z2z,↓wZ,AO.still];rfl⟩
def qM:ACode:=.pr [0,1,7,8] (.seq (rg [bN 9 .lss 8 7] [0,1,7,8,9])
(.seq (.cond 9 .skip
(.exit 0))
(.seq (.block 1 (.seq (rg [mV 10 8,
mV 5 10] [0,1,5,7,8])
(.seq (rg [mV 11 1,
mV 12 0,
mV 13 5,
iA 14 (some 2) 12 13,
lD 15 (some 2) 14,
uO 16 (.callv 11 [15])] [0,1,5,7,8,16])
(.cond 16 (.seq (rg [mV 17 5,
mV 4 17] [4])
.ret)
.skip))))
(rg [bN 18 .add 8 (cI 1),
mV 8 18] [0,1,7,8]))))
def YZ:Sf C gl qM e h x K:=⟨_,by simp only[qM,↓wZ,AO.still];rfl⟩
def zhW:=(YZ C gl e h x K).2
theorem zlc {C gl e h x K}:NW C gl (.loop qM) ⟨e,h,x⟩ K=UA C gl qM K [(0,eA e 0),(1,eA e 1),(7,eA e 7),(8,eA e 8)] h x:=EC
def IU:ACode:=.pr [] (.seq (rg [mV 4 (cI (-1))] [4])
.ret)
def ZZ:Sf C gl IU e h x K:=⟨_,by simp only[IU,↓wZ,AO.still];rfl⟩
def zhX:=(ZZ C gl e h x K).2
def z2s:ACode:=(.seq (rg [mV 4 (cI 0)] [0,1])
(.seq (.seq (rg [mV 6 0,
lN 7 6,
mV 8 (cI 0)] [0,1,7,8])
(.block 0 (.loop qM)))
IU))
def ZX:AFun:=⟨2,[.t 4],z2s,true,false⟩
def vS:Sf C gl z2s e h x K:=⟨_,by simp only[z2s,↓wZ,AO.still];rfl⟩
theorem zhV {C gl v0 v1 h x K}:NW C gl ZX.body ⟨enter [v0,v1],h,x⟩ K=(vS C gl [(0,v0),(1,v1)] h x K).1:=(vS C gl [(0,v0),(1,v1)] h x K).2
def sM:ACode:=.pr [0,1,7,8] (.seq (rg [bN 9 .lss 8 7] [0,1,7,8,9])
(.seq (.cond 9 .skip
(.exit 0))
(.seq (.block 1 (.seq (rg [mV 10 8,
mV 5 10] [0,1,5,7,8])
(.seq (rg [mV 11 1,
mV 12 0,
mV 13 5,
iA 14 none 12 13,
lD 15 none 14,
bN 16 .eql 11 15] [0,1,5,7,8,16])
(.cond 16 (.seq (rg [mV 17 5,
mV 4 17] [4])
.ret)
.skip))))
(rg [bN 18 .add 8 (cI 1),
mV 8 18] [0,1,7,8]))))
def z0c:Sf C gl sM e h x K:=⟨_,by simp only[sM,↓wZ,AO.still];rfl⟩
def zic:=(z0c C gl e h x K).2
theorem zle {C gl e h x K}:NW C gl (.loop sM) ⟨e,h,x⟩ K=UA C gl sM K [(0,eA e 0),(1,eA e 1),(7,eA e 7),(8,eA e 8)] h x:=EC
def KU:ACode:=.pr [] (.seq (rg [mV 4 (cI (-1))] [4])
.ret)
def z0d:Sf C gl KU e h x K:=⟨_,by simp only[KU,↓wZ,AO.still];rfl⟩
def zid:=(z0d C gl e h x K).2
def z2u:ACode:=(.seq (rg [mV 4 (cI 0)] [0,1])
(.seq (.seq (rg [mV 6 0,
lN 7 6,
mV 8 (cI 0)] [0,1,7,8])
(.block 0 (.loop sM)))
KU))
def OQ:AFun:=⟨2,[.t 4],z2u,true,false⟩
def yS:Sf C gl z2u e h x K:=⟨_,by simp only[z2u,↓wZ,AO.still];rfl⟩
theorem zib {C gl v0 v1 h x K}:NW C gl OQ.body ⟨enter [v0,v1],h,x⟩ K=(yS C gl [(0,v0),(1,v1)] h x K).1:=(yS C gl [(0,v0),(1,v1)] h x K).2
def dM:ACode:=.pr [0,5,9,10,11] (.seq (rg [bN 12 .lss 11 10] [0,5,9,10,11,12])
(.seq (.cond 12 .skip
(.exit 0))
(.seq (.block 1 (.seq (rg [iA 13 none 9 11,
lD 14 none 13,
mV 7 14] [0,5,7,9,10,11])
(.seq (rg [mV 15 0,
mV 16 7,
bN 17 .sub 16 (.c (.p (.int .u8 48))),
uO 18 (.conv (.i .i64) 17),
cL 19 OO [15,18],
mV 0 19] [0,5,9,10,11])
(rg [mV 20 5,
mV 21 0,
uO 22 (.bsl false none 1 (.int .i64 0) [(0,21)]),
uO 23 (.app none 20 22),
mV 5 23] [0,5,9,10,11]))))
(rg [bN 24 .add 11 (cI 1),
mV 11 24] [0,5,9,10,11]))))
def FZ:Sf C gl dM e h x K:=⟨_,by simp only[dM,↓wZ,AO.still];rfl⟩
def zhj:=(FZ C gl e h x K).2
theorem zkR {C gl e h x K}:NW C gl (.loop (.scope dM)) ⟨e,h,x⟩ K=UA C gl (.scope dM) K [(0,eA e 0),(5,eA e 5),(9,eA e 9),(10,eA e 10),(11,eA e 11)] h x:=jC
def sU:ACode:=.pr [5] (.seq (rg [mV 25 5,
mV 4 25] [4])
.ret)
def GZ:Sf C gl sU e h x K:=⟨_,by simp only[sU,↓wZ,AO.still];rfl⟩
def zhk:=(GZ C gl e h x K).2
def z1S:ACode:=(.seq (rg [mV 4 (.c (.p (.sl none [])))] [0,1])
(.seq (rg [uO 5 (.new0 none)] [0,1,5])
(.seq (.seq (rg [mV 8 1,
uO 9 (.conv .s2b 8),
lN 10 9,
mV 11 (cI 0)] [0,5,9,10,11])
(.block 0 (.loop (.scope dM))))
sU)))
def zX:AFun:=⟨2,[.t 4],z1S,false,false⟩
def VR:Sf C gl z1S e h x K:=⟨_,by simp only[z1S,↓wZ,AO.still];rfl⟩
def z2D:ACode:=(.seq (rg [mV 2 cF] [0])
(.seq (rg [mV 3 0,
cL 4 kC [3,(cI 0),(cI 15)],
uO 5 (.un .not 4),
mV 2 5] [2])
.ret))
def QQ:AFun:=⟨1,[.t 2],z2D,false,false⟩
def OS:Sf C gl z2D e h x K:=⟨_,by simp only[z2D,↓wZ,AO.still];rfl⟩
def z2E:ACode:=.pr [1,5,6,7,25] (rg [bN 53 .add 25 (cI 1),
mV 25 53] [1,5,6,7,25])
def z5V (C:Hd)(gl:GL)(v1 v5 v6 v7 v25:AV)(h:aA)(x:Esc)(K:KT):Prop:=
 pK (zA .add v25 (AI 1)) λt1=>
 K .normal ⟨[(1,v1),(5,v5),(6,v6),(7,v7),(25,t1)],h,x⟩
theorem ziz {C gl e h x K}:NW C gl z2E ⟨e,h,x⟩ K=z5V C gl (eA e 1) (eA e 5) (eA e 6) (eA e 7) (eA e 25) h x K:=by kernel_rfl
def z4E (q1:ACode):ACode:=.pr [1,5,6,7,25] (.seq (rg [bN 26 .lss 25 (cI 2)] [1,5,6,7,25,26])
(.seq (.cond 26 .skip
(.exit 2))
(.seq (.block 3 (.seq (rg [mV 27 25,
mV 8 27] [1,5,6,7,8,25])
(.seq (rg [mV 28 7,
mV 29 8,
cL 30 BF [28,29],
mV 9 30] [1,5,6,7,8,9,25])
(.seq (rg [mV 32 5,
mV 33 9,
uO 34 (.look (none,[0]) true (.p (.str [])) 32 33),
mV 31 34,
eX 35 31 0,
eX 36 31 1,
mV 10 35,
mV 11 36] [1,5,6,7,8,9,11,25])
(.seq (rg [mV 37 11,
uO 38 (.un .not 37)] [1,5,6,7,8,9,25,38])
(.cond 38 (.seq (rg [mV 39 5,
mV 40 9,
mV 41 5,
mV 42 7,
uO 43 (.look (none,[0]) false (.p (.str [])) 41 42),
mV 44 8,
bN 45 .add (cI 48) 44,
uO 46 (.conv (.i .i32) 45),
uO 47 (.conv .r2s 46),
bN 48 .add 43 47,
wO (.mupd (none,[0]) 39 40 48)] [1,5,6,7,9,25])
(rg [mV 49 6,
mV 50 9,
uO 51 (.bsl false none 1 (.int .i64 0) [(0,50)]),
uO 52 (.mnext (some none) [49,51]),
mV 6 52] [1,5,6,7,25]))
.skip))))))
q1)))
def fQ:ACode:=z4E z2E
def z0h (C:Hd)(gl:GL)(q1:ACode)(v1 v5 v6 v7 v25:AV)(h:aA)(x:Esc)(K:KT):Prop:=
 pK (zA .lss v25 (AI 2)) λt1=>
 iB t1 (C BF [v7,v25] h λt2 h3 y4=>
 pK (FB (none,[0]) true (.p (.str [])) v5 t2 h3) λt5=>
 pK (OJ t5 0) λt6=>
 pK (OJ t5 1) λt7=>
 pK (oUn .not t7) λt8=>
 iB t8 (pK (FB (none,[0]) false (.p (.str [])) v5 v7 h3) λt9=>
 pK (zA .add (AI 48) v25) λt10=>
 pK (PL .i32 t10) λt11=>
 wK (LE .r2s t11 h3) λt12 h13 y14=>
 pK (zA .add t9 t12) λt15=>
 wK (LB (none,[0]) v5 t2 t15 h13) λt16 h17 y18=>
 wK (UC false none 1 (.int .i64 0) [(0,t2)] h17) λt19 h20 y21=>
 nqK (some none) [v6,t19] h20 λt22 h23 y24=>
 NW C gl q1 ⟨[(1,v1),(5,v5),(6,t22),(7,v7),(25,v25)],h23,(y24++(y21++(y18++(y14++(y4++x)))))⟩ K)
 (NW C gl q1 ⟨[(1,v1),(5,v5),(6,v6),(7,v7),(8,v25),(9,t2),(25,v25),(38,t8)],h3,(y4++x)⟩ K))
 (K (.exit 2) ⟨[(1,v1),(5,v5),(6,v6),(7,v7),(25,v25),(26,t1)],h,x⟩)
theorem zbS {C gl q1 e h x K}:NW C gl (z4E q1) ⟨e,h,x⟩ K=z0h C gl q1 (eA e 1) (eA e 5) (eA e 6) (eA e 7) (eA e 25) h x K:=by kernel_rfl
theorem zi0 {C gl e h x K}:NW C gl fQ ⟨e,h,x⟩ K=z0h C gl z2E (eA e 1) (eA e 5) (eA e 6) (eA e 7) (eA e 25) h x K:=zbS
theorem zll {C gl e h x K}:NW C gl (.loop fQ) ⟨e,h,x⟩ K=UA C gl fQ K [(1,eA e 1),(5,eA e 5),(6,eA e 6),(7,eA e 7),(25,eA e 25)] h x:=EC
def z4F (q2:ACode):ACode:=.pr [1,5,6] (.seq (.seq (rg [mV 17 6,
lN 18 17,
bN 19 .gtr 18 (cI 0)] [1,5,6,19])
(.cond 19 .skip
(.exit 0)))
(.block 1 (.seq (rg [mV 20 6,
iA 21 none 20 (cI 0),
lD 22 none 21,
mV 7 22] [1,5,6,7])
(.seq (rg [mV 23 6,
uO 24 (.slice none 23 (some (cI 1)) none none),
mV 6 24] [1,5,6,7])
(.seq (rg [mV 25 (cI 0)] [1,5,6,7,25])
(.block 2 (.loop q2)))))))
def yM:ACode:=z4F fQ
def z0i (C:Hd)(gl:GL)(q2:ACode)(v1 v5 v6:AV)(h:aA)(x:Esc)(K:KT):Prop:=
 pK (rH v6) λt1=>
 pK (zA .gtr t1 (AI 0)) λt2=>
 iB t2 (pK (VC none v6 (AI 0) h) λt3=>
 pK (AA none t3 h) λt4=>
 pK (QJ none v6 (some (AI 1)) none none h) λt5=>
 NW C gl (.loop q2) ⟨[(1,v1),(5,v5),(6,t5),(7,t4),(25,(AI 0))],h,x⟩ (qC 2 (qC 1 K)))
 (K (.exit 0) ⟨[(1,v1),(5,v5),(6,v6),(19,t2)],h,x⟩)
theorem zbT {C gl q2 e h x K}:NW C gl (z4F q2) ⟨e,h,x⟩ K=z0i C gl q2 (eA e 1) (eA e 5) (eA e 6) h x K:=by kernel_rfl
theorem zi1 {C gl e h x K}:NW C gl yM ⟨e,h,x⟩ K=z0i C gl fQ (eA e 1) (eA e 5) (eA e 6) h x K:=zbT
theorem zlm {C gl e h x K}:NW C gl (.loop yM) ⟨e,h,x⟩ K=UA C gl yM K [(1,eA e 1),(5,eA e 5),(6,eA e 6)] h x:=EC
def WU:ACode:=.pr [1,5] (.seq (rg [mV 54 5,
mV 55 1,
uO 56 (.look (none,[0]) false (.p (.str [])) 54 55),
mV 4 56] [4])
.ret)
def z5W (C:Hd)(gl:GL)(v1 v5:AV)(h:aA)(x:Esc)(K:KT):Prop:=
 pK (FB (none,[0]) false (.p (.str [])) v5 v1 h) λt1=>
 K .ret ⟨[(4,t1)],h,x⟩
theorem zi2 {C gl e h x K}:NW C gl WU ⟨e,h,x⟩ K=z5W C gl (eA e 1) (eA e 5) h x K:=by kernel_rfl
def z4D (q3 q4:ACode):ACode:=(.det (.seq (rg [mV 4 (cS [])] [0,1])
(.seq (rg [uO 12 (.mkmap),
mV 13 0,
wO (.mupd (none,[0]) 12 13 (cS [])),
mV 14 12,
mV 5 14] [0,1,5])
(.seq (rg [mV 15 0,
uO 16 (.bsl true none 1 (.int .i64 0) [(0,15)]),
mV 6 16] [1,5,6])
(.seq (.block 0 (.loop q3))
q4)))))
def AK:AFun:=⟨2,[.t 4],z4D yM WU,false,false⟩
def dO (C:Hd)(gl:GL)(q3 q4:ACode)(v0 v1:AV)(h:aA)(x:Esc)(K:KT):Prop:=
 mmK h λt1 h2 y3=>
 wK (LB (none,[0]) t1 v0 (.p (.str [])) h2) λt4 h5 y6=>
 wK (UC true none 1 (.int .i64 0) [(0,v0)] h5) λt7 h8 y9=>
 NW C gl (.loop q3) ⟨[(1,v1),(5,t1),(6,t7)],h8,(y9++(y6++(y3++x)))⟩ (qC 0 (xD C gl q4 K))
theorem zbR {C gl q3 q4 v0 v1 h x K}:NW C gl (z4D q3 q4) ⟨enter [v0,v1],h,x⟩ K=dO C gl q3 q4 v0 v1 h x K:=by kernel_rfl
theorem z6u {C gl v0 v1 h x K}:NW C gl AK.body ⟨enter [v0,v1],h,x⟩ K=dO C gl yM WU v0 v1 h x K:=zbR
def z2K:ACode:=(.seq (rg [uO 2 (.box 0),
mV 3 cF] [1,2])
(.seq (rg [fA 4 0 none 2,
lD 5 none 4,
fA 6 0 none 1,
lD 7 none 6,
bN 8 .eql 5 7,
mV 3 8] [3])
.ret))
def wY:AFun:=⟨2,[.t 3],z2K,false,false⟩
def TS:Sf C gl z2K e h x K:=⟨_,by simp only[z2K,↓wZ,AO.still];rfl⟩
def z2C:ACode:=(.seq (rg [uO 2 (.box 0),
mV 3 cF] [1,2])
(.seq (rg [fA 4 0 none 2,
lD 5 none 4,
fA 6 0 none 1,
lD 7 none 6,
bN 8 .eql 5 7,
mV 3 8] [3])
.ret))
def qY:AFun:=⟨2,[.t 3],z2C,false,false⟩
def NS:Sf C gl z2C e h x K:=⟨_,by simp only[z2C,↓wZ,AO.still];rfl⟩
def z2H:ACode:=(.seq (rg [uO 2 (.box 0),
uO 3 (.box 1),
uO 4 (.alloc [.p (.str []),.p (.int .i64 0)]),
mV 5 cF] [2,3,4])
(.seq (.block 0 (.seq (rg [lD 8 none 3,
bN 9 .eql 8 (cS [98,121,112,97,115,115]),
mV 7 9] [2,3,4,7])
(.cond 7 (.seq (rg [uO 10 (.build [.p (.str []),.p (.int .i64 0)] [(0,1,(cS [98,121,112,97,115,115])),(1,1,(cI 1))]),
wO (.store (some 2) 4 10),
mV 5 cT] [4,5])
.ret)
(.seq (rg [lD 12 none 3,
bN 13 .eql 12 (cS [105,100,99,111,100,101]),
mV 14 13,
gD 15 14 true (.faddr 2 none 2),
gD 16 14 true (.load none 15),
gD 17 14 true (.bin .neq 16 (cI 0)),
uO 18 (.pick 14 17 cF),
mV 11 18] [2,3,4,11])
(.cond 11 (.seq (rg [uO 19 (.build [.p (.str []),.p (.int .i64 0)] [(0,1,(cS [105,100,99,111,100,101])),(1,1,(cI 32))]),
wO (.store (some 2) 4 19),
mV 5 cT] [4,5])
.ret)
.skip)))))
(.seq (rg [fA 20 3 none 2,
lD 21 none 20,
uO 22 (.mkfn uP [3]),
cL 23 tL [21,22],
mV 6 23] [2,4,6])
(.seq (.seq (rg [mV 24 6,
bN 25 .lss 24 (cI 0)] [2,4,6,25])
(.cond 25 (.seq (rg [uO 26 (.build [.p (.str []),.p (.int .i64 0)] []),
wO (.store (some 2) 4 26),
mV 5 cF] [4,5])
.ret)
.skip))
(.seq (rg [fA 27 3 none 2,
lD 28 none 27,
mV 29 6,
iA 30 (some 2) 28 29,
lD 31 (some 2) 30,
wO (.store (some 2) 4 31),
mV 5 cT] [4,5])
.ret)))))
def tY:AFun:=⟨2,[.cell 4 (some 2),.t 5],z2H,false,false⟩
def XG:Sf C gl z2H e h x K:=⟨_,by simp only[z2H,↓wZ,AO.still];rfl⟩
def zM:ACode:=.pr [0,4,21] (.seq (rg [bN 22 .lss 21 (cI 32)] [0,4,21,22])
(.seq (.cond 22 .skip
(.exit 1))
(.seq (.block 2 (.seq (rg [mV 23 21,
mV 5 23] [0,4,5,21])
(rg [mV 24 4,
mV 25 0,
uO 26 (.nilchk 25),
fA 27 0 (some 5) 26,
fA 28 2 none 27,
lD 29 none 28,
mV 30 5,
bN 31 .shr 29 30,
bN 32 .and 31 (cI 1),
bN 33 .add (cI 48) 32,
uO 34 (.conv (.i .u8) 33),
uO 35 (.bsl false none 1 (.int .u8 0) [(0,34)]),
uO 36 (.app none 24 35),
mV 4 36] [0,4,21])))
(rg [bN 37 .add 21 (cI 1),
mV 21 37] [0,4,21]))))
def z0j:Sf C gl zM e h x K:=⟨_,by simp only[zM,↓wZ,AO.still];rfl⟩
def zi4:=(z0j C gl e h x K).2
theorem zln {C gl e h x K}:NW C gl (.loop (.scope zM)) ⟨e,h,x⟩ K=UA C gl (.scope zM) K [(0,eA e 0),(4,eA e 4),(21,eA e 21)] h x:=jC
def XU:ACode:=.pr [4] (.seq (rg [mV 38 4,
uO 39 (.conv .b2s 38),
mV 2 39] [2])
.ret)
def z0k:Sf C gl XU e h x K:=⟨_,by simp only[XU,↓wZ,AO.still];rfl⟩
def zi5:=(z0k C gl e h x K).2
def z2F:ACode:=(.seq (rg [mV 2 (cS [])] [0])
(.seq (rg [mV 6 0,
cL 7 wL [6],
uO 3 (.alloc [.p (.str []),.p (.int .i64 0)]),
wO (.store (some 2) 3 7)] [0,3])
(.seq (rg [fA 8 0 none 3,
lD 9 none 8] [0,3,9])
(.block 0 (.seq (rg [bN 18 .eql 9 (cS [98,121,112,97,115,115]),
mV 17 18] [0,3,9,17])
(.cond 17 (.seq (rg [mV 2 (cS [48])] [2])
.ret)
(.seq (rg [bN 20 .eql 9 (cS [105,100,99,111,100,101]),
mV 19 20] [0,3,19])
(.cond 19 (.seq (rg [uO 4 (.new0 none)] [0,4])
(.seq (.seq (rg [mV 21 (cI 0)] [0,4,21])
(.block 1 (.loop (.scope zM))))
XU))
(.seq (dr [dF (mV 10 0) [0],
dF (uO 11 (.nilchk 10)) [10],
dF (fA 12 7 none 11) [11],
dF (lD 13 none 12) [12],
dF (fA 14 0 none 3) [3],
dF (lD 15 none 14) [14],
dF (uO 16 (.look (none,[2]) false (.p (.str [])) 13 15)) [13,15],
dF (mV 2 16) [16]] [2])
.ret)))))))))
def rY:AFun:=⟨1,[.t 2],z2F,false,false⟩
def PK:Sf C gl z2F e h x K:=⟨_,by simp only[z2F,↓wZ,AO.still];rfl⟩
def z2G:ACode:=(.seq (rg [uO 2 (.alloc [.p (.str []),.p (.int .i64 0)])] [0,2])
(.seq (.seq (rg [mV 5 0,
uO 6 (.nilchk 5),
fA 7 5 none 6,
lD 8 none 7,
bN 9 .eql 8 (cS [])] [0,2,9])
(.cond 9 (.seq (.seq (rg [mV 11 0,
uO 12 (.nilchk 11),
fA 13 0 (some 5) 12,
lD 14 (some 5) 13,
cL 15 DJ [14,(cS [105,100,99,111,100,101])],
mV 10 15,
eX 16 10 0,
eX 17 10 1,
uO 3 (.alloc [.p (.str []),.p (.int .i64 0)]),
wO (.store (some 2) 3 16),
mV 4 17] [2,3,4])
(.seq (rg [mV 18 4] [2,3,18])
(.cond 18 (.seq (rg [lD 19 (some 2) 3,
wO (.store (some 2) 2 19)] [2])
.ret)
.skip)))
(.seq (rg [uO 20 (.build [.p (.str []),.p (.int .i64 0)] [(0,1,(cS [98,121,112,97,115,115])),(1,1,(cI 1))]),
wO (.store (some 2) 2 20)] [2])
.ret))
.skip))
(.seq (dr [dF (mV 21 0) [0],
dF (uO 22 (.nilchk 21)) [21],
dF (fA 23 0 (some 5) 22) [22],
dF (lD 24 (some 5) 23) [23],
dF (mV 25 0) [0],
dF (uO 26 (.nilchk 25)) [25],
dF (fA 27 5 none 26) [26],
dF (lD 28 none 27) [27],
dT (cL 29 xP [24,28]) [24,28],
dT (wO (.store (some 2) 2 29)) [2,29]] [2])
.ret)))
def sY:AFun:=⟨1,[.cell 2 (some 2)],z2G,false,false⟩
def QK:Sf C gl z2G e h x K:=⟨_,by simp only[z2G,↓wZ,AO.still];rfl⟩
def z1A:ACode:=.seq (rg [mV 4 (cI 0)] [0,1]) (.seq (rg [mV 14 1,
uO 15 (.lens 14),
mV 5 15] [0,1,5]) (.seq (.block 0 (.seq (rg [mV 17 5,
bN 18 .eql 17 (cI 0),
mV 19 18,
gD 20 19 false (.mv 1),
gD 21 19 false (.mv 0),
gD 22 19 false (.bin .eql 20 21),
uO 23 (.pick 19 cT 22),
mV 16 23] [0,1,5,16]) (.cond 16 (.seq (rg [mV 4 (cI 0)] [4]) .ret) (.seq (rg [mV 25 5,
bN 26 .eql 25 (cI 1),
mV 24 26] [0,1,5,24]) (.cond 24 (.seq (rg [mV 27 0,
mV 28 1,
uO 29 (.idxs 28 (cI 0)),
cL 30 xJ [27,29],
mV 4 30] [4]) .ret) .bad))))) .bad))
def gX:AFun:=⟨2,[.t 4],z1A,false,false⟩
def GR:Sf C gl z1A e h x K:=⟨_,by simp only[z1A,↓wZ,AO.still];rfl⟩
def z2I:ACode:=(.seq (rg [uO 2 (.box 0),
mV 3 cF] [1,2])
(.seq (rg [fA 4 0 none 2,
lD 5 none 4,
lD 6 none 1,
bN 7 .eql 5 6,
mV 3 7] [3])
.ret))
def uY:AFun:=⟨2,[.t 3],z2I,false,false⟩
def QS:Sf C gl z2I e h x K:=⟨_,by simp only[z2I,↓wZ,AO.still];rfl⟩
def ZU:ACode:=.pr [1,2,4,5,11,12,13] (rg [bN 23 .add 13 (cI 1),
mV 13 23] [1,2,4,5,11,12,13])
def z0l:Sf C gl ZU e h x K:=⟨_,by simp only[ZU,↓wZ,AO.still];rfl⟩
def ziC:=(z0l C gl e h x K).2
def BM:ACode:=.pr [1,2,4,5,11,12,13] (.seq (rg [bN 14 .lss 13 12] [1,2,4,5,11,12,13,14])
(.seq (.cond 14 .skip
(.exit 0))
(.seq (.block 1 (.seq (rg [iA 15 (some 2) 11 13,
lD 16 (some 2) 15,
uO 7 (.alloc [.p (.str []),.p (.str [])]),
wO (.store (some 2) 7 16)] [1,2,4,5,7,11,12,13])
(.seq (rg [fA 17 0 none 7,
lD 18 none 17,
mV 19 1,
bN 20 .eql 18 19] [1,2,4,5,7,11,12,13,20])
(.cond 20 (rg [fA 21 1 none 7,
lD 22 none 21,
mV 5 22] [1,2,4,5,11,12,13])
.skip))))
ZU)))
def z0m:Sf C gl BM e h x K:=⟨_,by simp only[BM,↓wZ,AO.still];rfl⟩
def ziD:=(z0m C gl e h x K).2
theorem zlp {C gl e h x K}:NW C gl (.loop (.scope BM)) ⟨e,h,x⟩ K=UA C gl (.scope BM) K [(1,eA e 1),(2,eA e 2),(4,eA e 4),(5,eA e 5),(11,eA e 11),(12,eA e 12),(13,eA e 13)] h x:=jC
def aV:ACode:=.pr [2,4,5] (.seq (rg [lD 25 (some 5) 2,
mV 26 5,
cL 27 DJ [25,26],
mV 24 27,
eX 28 24 0,
eX 29 24 1,
uO 8 (.alloc [.p (.str []),.p (.int .i64 0)]),
wO (.store (some 2) 8 28),
mV 9 29] [4,8])
(.seq (rg [lD 30 (some 2) 8,
wO (.store (some 2) 4 30)] [4])
.ret))
def eO:Sf C gl aV e h x K:=⟨_,by simp only[aV,↓wZ,AO.still];rfl⟩
def z0G:=(eO C gl e h x K).2
def z2L:ACode:=(.seq (rg [uO 2 (.box 0),
uO 4 (.alloc [.p (.str []),.p (.int .i64 0)])] [1,2,4])
(.seq (rg [mV 5 (cS [98,121,112,97,115,115])] [1,2,4,5])
(.seq (.seq (rg [fA 10 4 none 2,
lD 11 none 10,
lN 12 11,
mV 13 (cI 0)] [1,2,4,5,11,12,13])
(.block 0 (.loop (.scope BM))))
aV)))
def xY:AFun:=⟨2,[.cell 4 (some 2)],z2L,false,false⟩
def US:Sf C gl z2L e h x K:=⟨_,by simp only[z2L,↓wZ,AO.still];rfl⟩
def zm6:ACode:=(.seq (rg [uO 4 (.alloc [.p (.int .i64 0),.p (.int .i64 0)])] [0,1,4])
(.seq (rg [mV 6 0,
mV 7 0,
uO 8 (.un .neg 7),
uO 9 (.mx [6,8]),
mV 10 1,
cL 11 z6N [9,10],
mV 5 11] [0,1,4,5])
(.seq (dr [dF (mV 12 0) [0],
dF (mV 13 5) [5],
dF (bN 14 .quo 12 13) [12,13],
dF (mV 15 1) [1],
dF (mV 16 5) [5],
dF (bN 17 .quo 15 16) [15,16],
dF (uO 18 (.build [.p (.int .i64 0),.p (.int .i64 0)] [(0,1,14),(1,1,17)])) [14,17],
dT (wO (.store (some 2) 4 18)) [4,18]] [4])
.ret)))
def zci:AFun:=⟨2,[.cell 4 (some 2)],zm6,false,false⟩
def zm8:ACode:=.pr [0,1] (.seq (.seq (rg [mV 5 1,
bN 6 .neq 5 (cI 0)] [0,1,6])
(.cond 6 .skip
(.exit 0)))
(.block 1 (dr [dF (mV 7 1) [1],
dF (mV 8 0) [0],
dF (mV 9 1) [1],
dF (bN 10 .rem 8 9) [8,9],
dF (mV 0 7) [7],
dF (mV 1 10) [10]] [0,1])))
def zm9:ACode:=.pr [0] (.seq (rg [mV 11 0,
mV 4 11] [4])
.ret)
def zm7:ACode:=(.seq (rg [mV 4 (cI 0)] [0,1])
(.seq (.block 0 (.loop zm8))
zm9))
def zcj:AFun:=⟨2,[.t 4],zm7,false,false⟩
def zmA:ACode:=(.seq (rg [mV 2 cF] [0])
(.seq (rg [mV 3 0,
cL 4 kC [3,(cI 0),(cI 345686399999)],
uO 5 (.un .not 4),
mV 2 5] [2])
.ret))
def zck:AFun:=⟨1,[.t 2],zmA,false,false⟩
def zmB:ACode:=.seq (rg [uO 2 (.box 0),
mV 4 (cI 0)] [1,2]) (.seq (.seq (rg [lD 8 (some 3) 2,
cL 9 z6P [8],
mV 5 9] [1,2,5]) (.seq (rg [mV 10 5,
bN 11 .neq 10 (cI 0)] [1,2,5,11]) (.cond 11 .bad .skip))) (.seq (.seq (rg [mV 13 1,
lN 14 13,
fA 15 0 none 2,
lD 16 none 15,
lN 17 16,
bN 18 .neq 14 17] [1,2,18]) (.cond 18 .bad .skip)) (.seq (.seq (rg [mV 19 1,
lN 20 19,
mV 21 (cI 0)] [2,19,20,21]) (.block 0 (.loop (.pr [2,19,20,21] (.seq (rg [bN 22 .lss 21 20] [2,19,20,21,22]) (.seq (.cond 22 .skip (.exit 0)) (.seq (.block 1 (.seq (rg [mV 23 21,
iA 24 none 19 21,
lD 25 none 24,
mV 6 23,
mV 7 25] [2,6,7,19,20,21]) (.seq (rg [mV 26 7,
uO 27 (.lens 26),
fA 28 0 none 2,
lD 29 none 28,
mV 30 6,
iA 31 (some 2) 29 30,
fA 32 1 none 31,
lD 33 none 32,
lN 34 33,
bN 35 .neq 27 34,
mV 36 35,
gD 37 36 false (.mv 7),
gD 38 36 false (.call GE [37]),
gD 39 36 false (.un .not 38),
uO 40 (.pick 36 cT 39)] [2,19,20,21,40]) (.cond 40 .bad .skip)))) (rg [bN 41 .add 21 (cI 1),
mV 21 41] [2,19,20,21])))))))) (.pr [] (.seq (rg [mV 4 (cI 0)] [4]) .ret)))))
def zcl:AFun:=⟨2,[.t 4],zmB,false,false⟩
def zmC:ACode:=.seq (rg [uO 1 (.box 0),
mV 2 (cI 0)] [1]) (.seq (.seq (rg [fA 10 0 none 1,
lD 11 none 10,
lN 12 11,
bN 13 .gtr 12 (cI 40)] [1,13]) (.cond 13 .bad .skip)) (.seq (.seq (rg [fA 14 0 none 1,
lD 15 none 14,
lN 16 15,
mV 17 (cI 0)] [1,15,16,17]) (.block 0 (.loop (.scope (.pr [1,15,16,17] (.seq (rg [bN 18 .lss 17 16] [1,15,16,17,18]) (.seq (.cond 18 .skip (.exit 0)) (.seq (.block 1 (.seq (rg [mV 19 17,
iA 20 (some 2) 15 17,
lD 21 (some 2) 20,
uO 4 (.alloc [.p (.str []),.sl0 (some 4)]),
mV 3 19,
wO (.store (some 2) 4 21)] [1,3,4,15,16,17]) (.seq (.block 2 (.seq (rg [fA 23 0 none 4,
lD 24 none 23,
cL 25 VD [24],
uO 26 (.un .not 25),
mV 22 26] [1,3,4,15,16,17,22]) (.cond 22 .bad (.seq (dr [dF (mV 28 3) [3],
dF (bN 29 .gtr 28 (cI 0)) [28],
dF (mV 30 29) [29],
dF (gD 31 30 true (.faddr 0 none 4)) [4,30],
dF (gD 32 30 true (.load none 31)) [31,30],
dF (gD 33 30 true (.faddr 0 none 1)) [1,30],
dF (gD 34 30 true (.load none 33)) [33,30],
dF (gD 35 30 true (.mv 3)) [3,30],
dF (gD 36 30 true (.bin .sub 35 (cI 1))) [35,30],
dF (gD 37 30 true (.iaddr (some 2) 34 36)) [34,36,30],
dF (gD 38 30 true (.faddr 0 none 37)) [37,30],
dF (gD 39 30 true (.load none 38)) [38,30],
dF (gD 40 30 true (.bin .leq 32 39)) [32,39,30],
dF (uO 41 (.pick 30 40 cF)) [30,40],
dF (mV 27 41) [41]] [1,4,15,16,17,27]) (.cond 27 .bad .skip))))) (.seq (rg [lD 42 (some 2) 4,
cL 43 z6T [42],
mV 5 43] [1,5,15,16,17]) (.seq (rg [mV 44 5,
bN 45 .neq 44 (cI 0)] [1,5,15,16,17,45]) (.cond 45 .bad .skip)))))) (rg [bN 47 .add 17 (cI 1),
mV 17 47] [1,15,16,17]))))))))) (.pr [1] (.seq (.seq (rg [lD 48 (some 3) 1,
cL 49 z6W [48],
mV 6 49] [1,6]) (.seq (rg [mV 50 6,
bN 51 .neq 50 (cI 0)] [1,6,51]) (.cond 51 .bad .skip))) (.seq (rg [lD 53 (some 3) 1,
cL 54 FT [53],
mV 7 54] [1,7]) (.seq (.seq (rg [mV 55 7,
lN 56 55,
bN 57 .gtr 56 (cI 100)] [1,7,57]) (.cond 57 .bad .skip)) (.seq (.seq (rg [fA 58 2 none 1,
lD 59 none 58,
lN 60 59,
mV 61 (cI 0)] [1,7,59,60,61]) (.block 3 (.loop (.scope (.pr [1,7,59,60,61] (.seq (rg [bN 62 .lss 61 60] [1,7,59,60,61,62]) (.seq (.cond 62 .skip (.exit 3)) .bad))))))) (.pr [] (.seq (rg [mV 2 (cI 0)] [2]) .ret)))))))))
def zcm:AFun:=⟨1,[.t 2],zmC,false,false⟩
def zmD:ACode:=.seq (rg [uO 2 (.box 0),
mV 4 (.c (.p (.sl none []))),
mV 5 (cI 0)] [1,2]) (.seq (.seq (rg [lD 11 (some 3) 2,
mV 12 1,
cL 13 z6O [11,12],
mV 6 13] [1,2,6]) (.seq (rg [mV 14 6,
bN 15 .neq 14 (cI 0)] [1,2,6,15]) (.cond 15 .bad .skip))) (.seq (rg [lD 17 (some 3) 2,
mV 18 1,
cL 19 z6X [17,18],
mV 7 19] [2,7]) (.seq (rg [uO 8 (.new0 none)] [2,7,8]) (.seq (.seq (rg [lD 20 (some 3) 2,
cL 21 FT [20],
lN 22 21,
mV 23 (cI 0)] [7,8,21,22,23]) (.block 0 (.loop (.scope (.pr [7,8,21,22,23] (.seq (rg [bN 24 .lss 23 22] [7,8,21,22,23,24]) (.seq (.cond 24 .skip (.exit 0)) (.seq (.block 1 (.seq (rg [iA 25 none 21 23,
lD 26 none 25,
mV 10 26] [7,8,10,21,22,23]) (rg [mV 27 8,
mV 28 7,
mV 29 10,
uO 30 (.look (none,[2]) false (AI 0) 28 29),
uO 31 (.bsl false none 1 (.int .i64 0) [(0,30)]),
uO 32 (.app none 27 31),
mV 8 32] [7,8,21,22,23]))) (rg [bN 33 .add 23 (cI 1),
mV 23 33] [7,8,21,22,23]))))))))) (.pr [8] (.seq (rg [mV 34 8,
mV 4 34,
mV 5 (cI 0)] [4,5]) .ret))))))
def zcn:AFun:=⟨2,[.t 4,.t 5],zmD,false,false⟩
def zmE:ACode:=.seq (rg [uO 2 (.box 0),
uO 3 (.box 1),
mV 4 (cI 0)] [2,3]) (.seq (.block 0 (.seq (rg [fA 6 0 none 3,
lD 7 none 6,
cL 8 kC [7,(cI 1),(cI 4)],
mV 5 8] [2,3,5]) (.cond 5 .bad (.seq (rg [lD 10 (some 4) 3,
cL 11 JO [10],
mV 12 11,
gD 13 12 true (.faddr 1 none 3),
gD 14 12 true (.load none 13),
gD 15 12 true (.call VD [14]),
gD 16 12 true (.un .not 15),
uO 17 (.pick 12 16 cF),
mV 9 17] [2,3,9]) (.cond 9 .bad (.seq (rg [lD 19 (some 4) 3,
cL 20 JO [19],
uO 21 (.un .not 20),
mV 22 21,
gD 23 22 true (.faddr 1 none 3),
gD 24 22 true (.load none 23),
gD 25 22 true (.bin .neq 24 (cS [])),
uO 26 (.pick 22 25 cF),
mV 18 26] [2,3,18]) (.cond 18 .bad .skip))))))) (.seq (.seq (rg [fA 27 0 none 3,
lD 28 none 27,
bN 29 .neq 28 (cI 2)] [2,3,29]) (.cond 29 .bad .skip)) (.seq (.block 1 (.seq (rg [fA 39 2 none 3,
lD 40 none 39,
bN 41 .neq 40 (cI (-1)),
mV 42 41,
gD 43 42 true (.faddr 2 none 3),
gD 44 42 true (.load none 43),
gD 45 42 true (.faddr 1 none 2),
gD 46 42 true (.load none 45),
gD 47 42 true (.len 46),
gD 48 42 true (.bin .sub 47 (cI 1)),
gD 49 42 true (.call kC [44,(cI 0),48]),
gD 50 42 true (.mv 49),
gD 51 50 false (.faddr 1 none 2),
gD 52 50 false (.load none 51),
gD 53 50 false (.faddr 2 none 3),
gD 54 50 false (.load none 53),
gD 55 50 false (.iaddr (some 4) 52 54),
gD 56 50 false (.faddr 0 none 55),
gD 57 50 false (.load none 56),
gD 58 50 false (.bin .neq 57 (cI 3)),
gD 59 42 true (.pick 50 cT 58),
uO 60 (.pick 42 59 cF),
mV 38 60] [3,38]) (.cond 38 .bad (.seq (rg [fA 62 3 none 3,
lD 63 none 62,
cL 64 kC [63,(cI 0),(cI 1)],
mV 65 64,
gD 66 65 false (.faddr 2 none 3),
gD 67 65 false (.load none 66),
gD 68 65 false (.bin .eql 67 (cI (-1))),
gD 69 65 false (.mv 68),
gD 70 69 true (.faddr 3 none 3),
gD 71 69 true (.load none 70),
gD 72 69 true (.bin .neq 71 (cI 0)),
gD 73 65 false (.pick 69 72 cF),
uO 74 (.pick 65 cT 73),
mV 61 74] [61]) (.cond 61 .bad .skip))))) (.seq (rg [mV 4 (cI 0)] [4]) .ret))))
def zco:AFun:=⟨2,[.t 4],zmE,false,false⟩
def zmG:ACode:=.pr [1,5,6,7,8,17,18,19,25,26,27] (rg [bN 57 .add 27 (cI 1),
mV 27 57] [1,5,6,7,8,17,18,19,25,26,27])
def zmH:ACode:=.pr [1,5,6,7,8,17,18,19,25,26,27] (.seq (rg [bN 28 .lss 27 26] [1,5,6,7,8,17,18,19,25,26,27,28])
(.seq (.cond 28 .skip
(.exit 2))
(.seq (.block 3 (.seq (rg [mV 29 27,
iA 30 (some 4) 25 27,
lD 31 (some 4) 30,
uO 10 (.alloc [.p (.int .i64 0),.p (.str []),.p (.int .i64 0),.p (.int .i64 0)]),
mV 9 29,
wO (.store (some 4) 10 31)] [1,5,6,7,8,9,10,17,18,19,25,26,27])
(.seq (.seq (rg [fA 32 0 none 10,
lD 33 none 32,
mV 34 1,
bN 35 .neq 33 34] [1,5,6,7,8,9,10,17,18,19,25,26,27,35])
(.cond 35 (.exit 3)
.skip))
(.seq (rg [mV 37 5,
fA 38 0 none 8,
lD 39 none 38,
fA 40 1 none 10,
lD 41 none 40,
uO 42 (.build [.p (.str []),.p (.str [])] [(0,1,39),(1,1,41)]),
uO 43 (.look ((some 2),[2,2]) true (.p (.str [])) 37 42),
mV 36 43,
eX 44 36 0,
eX 45 36 1,
mV 11 44,
mV 12 45] [1,5,6,7,8,9,11,12,17,18,19,25,26,27])
(.seq (rg [mV 46 12] [1,5,6,7,8,9,11,17,18,19,25,26,27,46])
(.cond 46 (rg [mV 47 6,
mV 48 11,
mV 49 6,
mV 50 11,
uO 51 (.look (none,[2]) false (.sl0 (some 2)) 49 50),
mV 52 7,
mV 53 9,
uO 54 (.build [.p (.int .i64 0),.p (.int .i64 0)] [(0,1,52),(1,1,53)]),
uO 55 (.bsl false (some 2) 1 (.agg [.int .i64 0,.int .i64 0]) [(0,54)]),
uO 56 (.app (some 2) 51 55),
wO (.mupd (none,[2]) 47 48 56)] [1,5,6,7,8,17,18,19,25,26,27])
.skip))))))
zmG)))
def zmI:ACode:=.pr [1,5,6,17,18,19] (rg [bN 58 .add 19 (cI 1),
mV 19 58] [1,5,6,17,18,19])
def zmJ:ACode:=.pr [1,5,6,17,18,19] (.seq (rg [bN 20 .lss 19 18] [1,5,6,17,18,19,20])
(.seq (.cond 20 .skip
(.exit 0))
(.seq (.block 1 (.seq (rg [mV 21 19,
iA 22 (some 2) 17 19,
lD 23 (some 2) 22,
uO 8 (.alloc [.p (.str []),.sl0 (some 4)]),
mV 7 21,
wO (.store (some 2) 8 23)] [1,5,6,7,8,17,18,19])
(.seq (rg [fA 24 1 none 8,
lD 25 none 24,
lN 26 25,
mV 27 (cI 0)] [1,5,6,7,8,17,18,19,25,26,27])
(.block 2 (.loop (.scope zmH))))))
zmI)))
def zmK:ACode:=.pr [6] (.seq (rg [mV 59 6,
mV 4 59] [4])
.ret)
def zmF:ACode:=(.seq (rg [uO 2 (.box 0),
mV 4 (.c (.nilm))] [1,2])
(.seq (rg [lD 13 (some 3) 2,
cL 14 z6Y [13],
mV 5 14] [1,2,5])
(.seq (rg [uO 15 (.mkmap),
mV 6 15] [1,2,5,6])
(.seq (.seq (rg [fA 16 0 none 2,
lD 17 none 16,
lN 18 17,
mV 19 (cI 0)] [1,5,6,17,18,19])
(.block 0 (.loop (.scope zmJ))))
zmK))))
def zcp:AFun:=⟨2,[.t 4],zmF,false,false⟩
def zmL:ACode:=.seq (rg [uO 1 (.box 0),
mV 2 (cI 0)] [1]) (.seq (.seq (rg [fA 8 1 none 1,
lD 9 none 8,
lN 10 9,
bN 11 .gtr 10 (cI 200)] [1,11]) (.cond 11 .bad .skip)) (.seq (.seq (rg [fA 12 1 none 1,
lD 13 none 12,
lN 14 13,
mV 15 (cI 0)] [1,13,14,15]) (.block 0 (.loop (.scope (.pr [1,13,14,15] (.seq (rg [bN 16 .lss 15 14] [1,13,14,15,16]) (.seq (.cond 16 .skip (.exit 0)) (.seq (.block 1 (.seq (rg [iA 17 (some 4) 13 15,
lD 18 (some 4) 17,
uO 4 (.alloc [.p (.int .i64 0),.p (.str []),.p (.int .i64 0),.p (.int .i64 0)]),
wO (.store (some 4) 4 18)] [1,4,13,14,15]) (.seq (rg [lD 19 (some 2) 1,
lD 20 (some 4) 4,
cL 21 z6R [19,20],
mV 5 21] [1,5,13,14,15]) (.seq (rg [mV 22 5,
bN 23 .neq 22 (cI 0)] [1,5,13,14,15,23]) (.cond 23 .bad .skip))))) (rg [bN 25 .add 15 (cI 1),
mV 15 25] [1,13,14,15]))))))))) (.pr [1] (.seq (.seq (rg [fA 26 1 none 1,
lD 27 none 26,
lN 28 27,
mV 29 (cI 0)] [1,27,28,29]) (.block 2 (.loop (.scope (.pr [1,27,28,29] (.seq (rg [bN 30 .lss 29 28] [1,27,28,29,30]) (.seq (.cond 30 .skip (.exit 2)) (.seq (.block 3 (.seq (rg [mV 31 29,
iA 32 (some 4) 27 29,
lD 33 (some 4) 32,
uO 7 (.alloc [.p (.int .i64 0),.p (.str []),.p (.int .i64 0),.p (.int .i64 0)]),
mV 6 31,
wO (.store (some 4) 7 33)] [1,6,7,27,28,29]) (.seq (rg [lD 34 (some 4) 7,
cL 35 JO [34],
mV 36 35,
gD 37 36 true (.faddr 1 none 1),
gD 38 36 true (.load none 37),
gD 39 36 true (.mv 6),
gD 40 36 true (.slice (some 4) 38 none (some 39) none),
gD 41 36 true (.mkfn zjI [7]),
gD 42 36 true (.call z1b [40,41]),
uO 43 (.pick 36 42 cF)] [1,27,28,29,43]) (.cond 43 .bad .skip)))) (rg [bN 44 .add 29 (cI 1),
mV 29 44] [1,27,28,29]))))))))) (.pr [] (.seq (rg [mV 2 (cI 0)] [2]) .ret))))))
def zcq:AFun:=⟨1,[.t 2],zmL,false,false⟩
def zmM:ACode:=.seq (rg [uO 2 (.box 0),
mV 4 (cI 0)] [1,2]) (.seq (rg [fA 8 0 none 2,
lD 9 none 8,
mV 10 1,
cL 11 z7t [9,10,(.f z6V)],
mV 7 11,
eX 12 7 0,
eX 13 7 1,
mV 5 12,
mV 6 13] [5,6]) (.seq (.seq (rg [mV 14 6,
uO 15 (.un .not 14)] [5,15]) (.cond 15 .bad .skip)) (.seq (rg [mV 16 5,
mV 4 16] [4]) .ret)))
def zcr:AFun:=⟨2,[.t 4],zmM,false,false⟩
def zmN:ACode:=(.seq (rg [uO 2 (.box 0),
mV 4 (cI 0)] [1,2])
(.seq (rg [fA 5 0 none 2,
lD 6 none 5,
mV 7 1,
cL 8 z7F [6,7],
mV 4 8] [4])
.ret))
def zcs:AFun:=⟨2,[.t 4],zmN,false,false⟩
def zmO:ACode:=(.seq (rg [uO 1 (.box 0),
mV 2 cF] [1])
(.seq (rg [fA 3 0 none 1,
lD 4 none 3,
bN 5 .eql 4 (cI 1),
mV 6 5,
gD 7 6 false (.faddr 0 none 1),
gD 8 6 false (.load none 7),
gD 9 6 false (.bin .eql 8 (cI 2)),
uO 10 (.pick 6 cT 9),
mV 2 10] [2])
.ret))
def zct:AFun:=⟨1,[.t 2],zmO,false,false⟩
end
def zmP:ACode:=.seq (rg [uO 1 (.box 0),
mV 2 (cI 0)] [1]) (.seq (.seq (rg [fA 9 1 none 1,
lD 10 none 9,
lN 11 10,
bN 12 .gtr 11 (cI 1000)] [1,12]) (.cond 12 .bad .skip)) (.seq (.seq (rg [fA 13 1 none 1,
lD 14 none 13,
lN 15 14,
mV 16 (cI 0)] [1,14,15,16]) (.block 0 (.loop (.scope (.pr [1,14,15,16] (.seq (rg [bN 17 .lss 16 15] [1,14,15,16,17]) (.seq (.cond 17 .skip (.exit 0)) (.seq (.block 1 (.seq (rg [mV 18 16,
iA 19 (some 3) 14 16,
lD 20 (some 3) 19,
uO 4 (.alloc [.p (.str []),.p (.str []),.p (.str [])]),
mV 3 18,
wO (.store (some 3) 4 20)] [1,3,4,14,15,16]) (.block 2 (.seq (rg [fA 22 0 none 4,
lD 23 none 22,
cL 24 VD [23],
uO 25 (.un .not 24),
mV 21 25] [1,3,4,14,15,16,21]) (.cond 21 .bad (.seq (rg [lD 27 (some 3) 1,
fA 28 1 none 4,
lD 29 none 28,
fA 30 2 none 4,
lD 31 none 30,
cL 32 z6Z [27,29,31],
uO 33 (.un .not 32),
mV 26 33] [1,3,4,14,15,16,26]) (.cond 26 .bad (.seq (dr [dF (mV 35 3) [3],
dF (bN 36 .gtr 35 (cI 0)) [35],
dF (mV 37 36) [36],
dF (gD 38 37 true (.load (some 3) 4)) [4,37],
dF (gD 39 37 true (.faddr 1 none 1)) [1,37],
dF (gD 40 37 true (.load none 39)) [39,37],
dF (gD 41 37 true (.mv 3)) [3,37],
dF (gD 42 37 true (.bin .sub 41 (cI 1))) [41,37],
dF (gD 43 37 true (.iaddr (some 3) 40 42)) [40,42,37],
dF (gD 44 37 true (.load (some 3) 43)) [43,37],
dT (gD 45 37 true (.call zjH [38,44])) [38,44,37],
dF (gD 46 37 true (.bin .leq 45 (cI 0))) [45,37],
dF (uO 47 (.pick 37 46 cF)) [37,46],
dF (mV 34 47) [47]] [1,14,15,16,34]) (.cond 34 .bad .skip))))))))) (rg [bN 48 .add 16 (cI 1),
mV 16 48] [1,14,15,16]))))))))) (.pr [1] (.seq (rg [uO 49 (.mkmap),
mV 5 49] [1,5]) (.seq (.seq (rg [fA 50 1 none 1,
lD 51 none 50,
lN 52 51,
mV 53 (cI 0)] [5,51,52,53]) (.block 3 (.loop (.scope (.pr [5,51,52,53] (.seq (rg [bN 54 .lss 53 52] [5,51,52,53,54]) (.seq (.cond 54 .skip (.exit 3)) (.seq (.block 4 (.seq (rg [iA 55 (some 3) 51 53,
lD 56 (some 3) 55,
uO 7 (.alloc [.p (.str []),.p (.str []),.p (.str [])]),
wO (.store (some 3) 7 56)] [5,7,51,52,53]) (.seq (rg [fA 57 1 none 7,
lD 58 none 57,
fA 59 2 none 7,
lD 60 none 59,
uO 61 (.build [.p (.str []),.p (.str [])] [(0,1,58),(1,1,60)]),
uO 8 (.alloc [.p (.str []),.p (.str [])]),
wO (.store (some 2) 8 61)] [5,8,51,52,53]) (.seq (.seq (rg [mV 62 5,
lD 63 (some 2) 8,
uO 64 (.look ((some 2),[2,2]) false (AB false) 62 63)] [5,8,51,52,53,64]) (.cond 64 .bad .skip)) (rg [mV 65 5,
lD 66 (some 2) 8,
wO (.mupd ((some 2),[2,2]) 65 66 cT)] [5,51,52,53]))))) (rg [bN 67 .add 53 (cI 1),
mV 53 67] [5,51,52,53]))))))))) (.pr [] (.seq (rg [mV 2 (cI 0)] [2]) .ret)))))))
def zcu:AFun:=⟨1,[.t 2],zmP,false,false⟩
def zmQ:ACode:=.det (.seq (rg [uO 2 (.box 0),
mV 4 (.c (.nilm))] [1,2]) (.seq (rg [uO 18 (.mkmap),
mV 5 18] [1,2,5]) (.seq (.seq (rg [lD 19 (some 3) 2,
cL 20 FT [19],
lN 21 20,
mV 22 (cI 0)] [1,2,5,20,21,22]) (.block 0 (.loop (.pr [1,2,5,20,21,22] (.seq (rg [bN 23 .lss 22 21] [1,2,5,20,21,22,23]) (.seq (.cond 23 .skip (.exit 0)) (.seq (.block 1 (.seq (rg [iA 24 none 20 22,
lD 25 none 24,
mV 7 25] [1,2,5,7,20,21,22]) (rg [mV 26 5,
mV 27 7,
wO (.mupd (none,[2]) 26 27 (cI 2))] [1,2,5,20,21,22]))) (rg [bN 28 .add 22 (cI 1),
mV 22 28] [1,2,5,20,21,22])))))))) (.pr [1,2,5] (.seq (.seq (rg [fA 29 2 none 2,
lD 30 none 29,
lN 31 30,
mV 32 (cI 0)] [1,2,5,30,31,32]) (.block 2 (.loop (.scope (.pr [1,2,5,30,31,32] (.seq (rg [bN 33 .lss 32 31] [1,2,5,30,31,32,33]) (.seq (.cond 33 .skip (.exit 2)) .bad))))))) (.pr [1,2,5] (.seq (.seq (rg [lD 42 (some 3) 2,
cL 43 z6S [42,(cI 2)],
uO 44 (.mrange 43)] [1,2,5,44]) (.block 4 (.loop (.scope (.pr [1,2,5,44] (.seq (rg [uO 45 (.mnext none [44]),
eX 46 45 0] [1,2,5,44,46]) (.seq (.cond 46 .skip (.exit 4)) (.block 5 (.seq (rg [uO 47 (.mentry 44),
eX 48 47 0,
eX 49 47 1,
mV 10 48,
mV 11 49] [1,2,5,10,11,44]) (.seq (rg [mV 12 cF] [1,2,5,10,11,12,44]) (.seq (rg [mV 50 11,
lN 51 50,
mV 52 (cI 0)] [1,2,5,10,12,44,50,51,52]) (.block 6 (.loop (.scope (.pr [1,2,5,10,12,44,50,51,52] (.seq (rg [bN 53 .lss 52 51] [1,2,5,10,12,44,50,51,52,53]) (.seq (.cond 53 .skip (.exit 6)) (.seq (.block 7 (.seq (rg [iA 54 (some 2) 50 52,
lD 55 (some 2) 54,
uO 14 (.alloc [.p (.int .i64 0),.p (.int .i64 0)]),
wO (.store (some 2) 14 55)] [1,2,5,10,12,14,44,50,51,52]) (.seq (dr [dF (fA 56 0 none 2) [2],
dF (lD 57 none 56) [56],
dF (fA 58 0 none 14) [14],
dF (lD 59 none 58) [58],
dF (iA 60 (some 2) 57 59) [57,59],
dF (fA 61 1 none 60) [60],
dF (lD 62 none 61) [61],
dF (fA 63 1 none 14) [14],
dF (lD 64 none 63) [63],
dF (iA 65 (some 4) 62 64) [62,64],
dF (lD 66 (some 4) 65) [65],
dF (mV 67 1) [1],
dF (fA 68 0 none 14) [14],
dF (lD 69 none 68) [68],
dF (iA 70 none 67 69) [67,69],
dF (lD 71 none 70) [70],
dA (uO 15 (.alloc [.p (.int .i64 0),.p (.str []),.p (.int .i64 0),.p (.int .i64 0)])) [] true [] [1,3,4,6,8,9,10,13,14,15],
dA (wO (.store (some 4) 15 66)) [15,66] true [] [13,14,15],
dF (mV 16 71) [71]] [1,2,5,10,12,14,15,16,44,50,51,52]) (.seq (.seq (dr [dF (fA 72 2 none 15) [15],
dF (lD 73 none 72) [72],
dF (bN 74 .geq 73 (cI 0)) [73],
dF (mV 75 74) [74],
dF (gD 76 75 true (.mv 16)) [16,75],
dF (gD 77 75 true (.faddr 2 none 15)) [15,75],
dF (gD 78 75 true (.load none 77)) [77,75],
dF (gD 79 75 true (.idxs 76 78)) [76,78,75],
dF (gD 80 75 true (.bin .sub 79 (.c (.p (.int .u8 48))))) [79,75],
dF (gD 81 75 true (.conv (.i .i64) 80)) [80,75],
dF (gD 82 75 true (.faddr 3 none 15)) [15,75],
dF (gD 83 75 true (.load none 82)) [82,75],
dF (gD 84 75 true (.bin .eql 81 83)) [81,83,75],
dF (uO 85 (.pick 75 84 cF)) [75,84]] [1,2,5,10,12,14,16,44,50,51,52,85]) (.cond 85 (.exit 7) .skip)) (.seq (rg [mV 86 16,
fA 87 1 none 14,
lD 88 none 87,
uO 89 (.idxs 86 88),
bN 90 .sub 89 (.c (.p (.int .u8 48))),
uO 91 (.conv (.i .i64) 90),
mV 17 91] [1,2,5,10,12,17,44,50,51,52]) (.seq (.seq (rg [mV 92 12,
mV 93 92,
gD 94 93 true (.mv 5),
gD 95 93 true (.mv 10),
gD 96 93 true (.look (none,[2]) false (AI 0) 94 95),
gD 97 93 true (.mv 17),
gD 98 93 true (.bin .neq 96 97),
uO 99 (.pick 93 98 cF)] [1,2,5,10,17,44,50,51,52,99]) (.cond 99 .bad .skip)) (.pr [1,2,5,10,17,44,50,51,52] (rg [mV 100 5,
mV 101 10,
mV 102 17,
wO (.mupd (none,[2]) 100 101 102),
mV 12 cT] [1,2,5,10,12,44,50,51,52])))))))) (.pr [1,2,5,10,12,44,50,51,52] (rg [bN 103 .add 52 (cI 1),
mV 52 103] [1,2,5,10,12,44,50,51,52])))))))))))))))))))) (.pr [5] (.seq (rg [mV 104 5,
mV 4 104] [4]) .ret)))))))))
def zcv:AFun:=⟨2,[.t 4],zmQ,false,false⟩
def zmS:ACode:=.pr [3,7,8,9] (.seq (rg [bN 10 .lss 9 8] [3,7,8,9,10])
(.seq (.cond 10 .skip
(.exit 0))
(.seq (.block 1 (.seq (rg [iA 11 (some 3) 7 9,
lD 12 (some 3) 11,
uO 5 (.alloc [.p (.str []),.p (.str []),.p (.str [])]),
wO (.store (some 3) 5 12)] [3,5,7,8,9])
(rg [mV 13 3,
fA 14 0 none 5,
lD 15 none 14,
uO 16 (.bsl false none 1 (.str []) [(0,15)]),
uO 17 (.app none 13 16),
mV 3 17] [3,7,8,9])))
(rg [bN 18 .add 9 (cI 1),
mV 9 18] [3,7,8,9]))))
def zmT:ACode:=.pr [3] (.seq (rg [mV 19 3,
cL 20 z7u [19],
mV 2 20] [2])
.ret)
def zmR:ACode:=(.seq (rg [uO 1 (.box 0),
mV 2 (.c (.p (.sl none [])))] [1])
(.seq (rg [uO 3 (.new0 none)] [1,3])
(.seq (.seq (rg [fA 6 1 none 1,
lD 7 none 6,
lN 8 7,
mV 9 (cI 0)] [3,7,8,9])
(.block 0 (.loop (.scope zmS))))
zmT)))
def zcw:AFun:=⟨1,[.t 2],zmR,false,true⟩
def zmV:ACode:=.pr [3,8,9,10] (.seq (rg [bN 11 .lss 10 9] [3,8,9,10,11])
(.seq (.cond 11 .skip
(.exit 0))
(.seq (.block 1 (.seq (rg [iA 12 (some 3) 8 10,
lD 13 (some 3) 12,
uO 5 (.alloc [.p (.str []),.p (.str []),.p (.str [])]),
wO (.store (some 3) 5 13)] [3,5,8,9,10])
(rg [mV 14 3,
fA 15 1 none 5,
lD 16 none 15,
fA 17 2 none 5,
lD 18 none 17,
uO 19 (.build [.p (.str []),.p (.str [])] [(0,1,16),(1,1,18)]),
fA 20 0 none 5,
lD 21 none 20,
wO (.mupd ((some 2),[2,2]) 14 19 21)] [3,8,9,10])))
(rg [bN 22 .add 10 (cI 1),
mV 10 22] [3,8,9,10]))))
def zmW:ACode:=.pr [3] (.seq (rg [mV 23 3,
mV 2 23] [2])
.ret)
def zmU:ACode:=(.seq (rg [uO 1 (.box 0),
mV 2 (.c (.nilm))] [1])
(.seq (rg [uO 6 (.mkmap),
mV 3 6] [1,3])
(.seq (.seq (rg [fA 7 1 none 1,
lD 8 none 7,
lN 9 8,
mV 10 (cI 0)] [3,8,9,10])
(.block 0 (.loop (.scope zmV))))
zmW)))
def zcx:AFun:=⟨1,[.t 2],zmU,false,false⟩
def zmX:ACode:=(.seq (rg [uO 3 (.box 0),
uO 5 (.box 2),
mV 6 cF] [1,3,5])
(.seq (rg [lD 8 (some 3) 3,
mV 9 1,
cL 10 z6U [8,9],
mV 7 10] [3,5,7])
(.seq (rg [mV 11 7,
bN 12 .geq 11 (cI 0),
mV 13 12,
gD 14 13 true (.faddr 0 none 3),
gD 15 13 true (.load none 14),
gD 16 13 true (.mv 7),
gD 17 13 true (.iaddr (some 2) 15 16),
gD 18 13 true (.faddr 1 none 17),
gD 19 13 true (.load none 18),
gD 20 13 true (.mkfn z7a [5]),
gD 21 13 true (.call z1b [19,20]),
uO 22 (.pick 13 21 cF),
mV 6 22] [6])
.ret)))
def zcy:AFun:=⟨3,[.t 6],zmX,false,false⟩
def zmY:ACode:=(.seq (rg [uO 2 (.box 0),
mV 3 cF] [1,2])
(.seq (rg [lD 4 (some 4) 2,
cL 5 JO [4],
mV 6 5,
gD 7 6 true (.faddr 1 none 2),
gD 8 6 true (.load none 7),
gD 9 6 true (.load none 1),
gD 10 6 true (.bin .eql 8 9),
uO 11 (.pick 6 10 cF),
mV 3 11] [3])
.ret))
def zcz:AFun:=⟨2,[.t 3],zmY,false,false⟩
def zmZ:ACode:=.seq (rg [uO 3 (.box 1),
mV 4 (cI 0)] [0,3]) (.seq (.block 0 (.seq (rg [mV 10 0,
cL 11 kC [10,(cI 1),(cI 100)],
mV 9 11] [0,3,9]) (.cond 9 .bad (.seq (rg [fA 13 0 none 3,
lD 14 none 13,
cL 15 kC [14,(cI 1),(cI 6)],
mV 12 15] [0,3,12]) (.cond 12 .bad (.seq (rg [fA 17 1 none 3,
lD 18 none 17,
lN 19 18,
bN 20 .eql 19 (cI 0),
mV 16 20] [0,3,16]) (.cond 16 .bad (.seq (rg [fA 22 1 none 3,
lD 23 none 22,
lN 24 23,
bN 25 .gtr 24 (cI 6),
mV 21 25] [0,3,21]) (.cond 21 .bad .skip))))))))) (.seq (.seq (rg [fA 26 1 none 3,
lD 27 none 26,
lN 28 27,
mV 29 (cI 0)] [0,3,27,28,29]) (.block 1 (.loop (.pr [0,3,27,28,29] (.seq (rg [bN 30 .lss 29 28] [0,3,27,28,29,30]) (.seq (.cond 30 .skip (.exit 1)) (.seq (.block 2 (.seq (rg [iA 31 none 27 29,
lD 32 none 31,
mV 6 32] [0,3,6,27,28,29]) (.seq (rg [mV 33 6,
mV 34 0,
bN 35 .sub 34 (cI 1),
cL 36 kC [33,(cI 0),35]] [0,3,27,28,29,36]) (.cond 36 .bad .skip)))) (rg [bN 37 .add 29 (cI 1),
mV 29 37] [0,3,27,28,29])))))))) (.pr [3] (.seq (.seq (dr [dF (fA 38 0 none 3) [3],
dF (lD 39 none 38) [38],
dT (cL 40 z7g [39]) [39],
dF (fA 41 1 none 3) [3],
dA (lD 42 none 41) [41] false [2] [],
dF (lN 43 42) [42],
dF (bN 44 .gtr 43 (cI 1)) [43],
dF (uO 45 (.eqa [] true 40 44)) [40,44]] [3,45]) (.cond 45 .bad .skip)) (.seq (rg [fA 46 1 none 3,
lD 47 none 46,
mV 7 47] [3,7]) (.seq (.seq (rg [fA 48 0 none 3,
lD 49 none 48,
bN 50 .eql 49 (cI 5)] [3,7,50]) (.cond 50 .bad .skip)) (.pr [3,7] (.seq (.seq (rg [mV 8 (cI 1)] [3,7,8]) (.block 3 (.loop (.pr [3,7,8] (.seq (.seq (rg [mV 53 8,
mV 54 7,
lN 55 54,
bN 56 .lss 53 55] [3,7,8,56]) (.cond 56 .skip (.exit 3))) .bad))))) (.pr [3,7] (.seq (.seq (rg [fA 69 0 none 3,
lD 70 none 69,
bN 71 .eql 70 (cI 5),
mV 72 71,
gD 73 72 true (.mv 7),
gD 74 72 true (.faddr 1 none 3),
gD 75 72 true (.load none 74),
gD 76 72 true (.iaddr none 75 (cI 0)),
gD 77 72 true (.load none 76),
gD 78 72 true (.call jH [73,77]),
uO 79 (.pick 72 78 cF)] [79]) (.cond 79 .bad .skip)) (.seq (rg [mV 4 (cI 0)] [4]) .ret)))))))))))
def zc0:AFun:=⟨2,[.t 4],zmZ,false,false⟩
def zna:ACode:=.seq (rg [mV 2 (cI 0)] [0]) (.seq (.block 0 (.seq (rg [mV 6 0,
lN 7 6,
bN 8 .eql 7 (cI 0),
mV 5 8] [0,5]) (.cond 5 .bad (.seq (rg [mV 10 0,
lN 11 10,
bN 12 .gtr 11 (cI 100),
mV 9 12] [0,9]) (.cond 9 .bad .skip))))) (.seq (.seq (rg [mV 13 0,
lN 14 13,
mV 15 (cI 0)] [0,13,14,15]) (.block 1 (.loop (.pr [0,13,14,15] (.seq (rg [bN 16 .lss 15 14] [0,13,14,15,16]) (.seq (.cond 16 .skip (.exit 1)) (.seq (.block 2 (.seq (rg [iA 17 none 13 15,
lD 18 none 17,
mV 4 18] [0,4,13,14,15]) (.block 3 (.seq (rg [mV 20 4,
cL 21 GE [20],
uO 22 (.un .not 21),
mV 19 22] [0,4,13,14,15,19]) (.cond 19 .bad (.seq (rg [mV 24 4,
uO 25 (.lens 24),
bN 26 .gtr 25 (cI 64),
mV 23 26] [0,4,13,14,15,23]) (.cond 23 .bad (.seq (rg [mV 28 4,
uO 29 (.lens 28),
mV 30 0,
iA 31 none 30 (cI 0),
lD 32 none 31,
uO 33 (.lens 32),
bN 34 .neq 29 33,
mV 27 34] [0,13,14,15,27]) (.cond 27 .bad .skip))))))))) (rg [bN 35 .add 15 (cI 1),
mV 15 35] [0,13,14,15])))))))) (.pr [] (.seq (rg [mV 2 (cI 0)] [2]) .ret))))
def zc1:AFun:=⟨1,[.t 2],zna,false,false⟩
def znb:ACode:=.seq (rg [mV 4 (.c (.p (.sl none []))),
mV 5 (cI 0)] [0,1]) (.seq (.seq (rg [mV 10 0,
mV 11 1,
cL 12 z7f [10,11],
mV 6 12] [0,1,6]) (.seq (rg [mV 13 6,
bN 14 .neq 13 (cI 0)] [0,1,6,14]) (.cond 14 .bad .skip))) (.seq (rg [mV 16 0,
cL 17 z7h [16],
mV 7 17] [0,1,7]) (.seq (.seq (rg [mV 18 1,
lN 19 18,
mV 20 (cI 0)] [0,7,18,19,20]) (.block 0 (.loop (.scope (.pr [0,7,18,19,20] (.seq (rg [bN 21 .lss 20 19] [0,7,18,19,20,21]) (.seq (.cond 21 .skip (.exit 0)) (.seq (.block 1 (.seq (rg [iA 22 (some 2) 18 20,
lD 23 (some 2) 22,
uO 9 (.alloc [.p (.int .i64 0),.sl0 none]),
wO (.store (some 2) 9 23)] [0,7,9,18,19,20]) (dr [dF (mV 24 7) [7],
dF (lD 25 (some 2) 9) [9],
dF (mV 26 0) [0],
dF (iA 27 none 26 (cI 0)) [26],
dF (lD 28 none 27) [27],
dF (uO 29 (.lens 28)) [28],
dA (cL 30 z7j [29]) [29] true [] [1],
dT (cL 31 z7k [24,25,30]) [24,25,30]] [0,7,18,19,20]))) (rg [bN 32 .add 20 (cI 1),
mV 20 32] [0,7,18,19,20]))))))))) (.pr [0,7] (.seq (rg [mV 33 7,
mV 34 0,
iA 35 none 34 (cI 0),
lD 36 none 35,
uO 37 (.lens 36),
cL 38 z7i [33,37],
mV 4 38,
mV 5 (cI 0)] [4,5]) .ret)))))
def zc2:AFun:=⟨2,[.t 4,.t 5],znb,false,false⟩
def znc:ACode:=(.seq (rg [uO 3 (.box 1),
mV 4 (.c (.p (.sl none []))),
mV 5 (cI 0)] [0,3])
(.seq (rg [mV 6 0,
lD 7 (some 2) 3,
uO 8 (.bsl false (some 2) 1 (.agg [.int .i64 0,.sl none []]) [(0,7)]),
cL 9 z7d [6,8],
eX 10 9 0,
eX 11 9 1,
mV 4 10,
mV 5 11] [4,5])
.ret))
def zc3:AFun:=⟨2,[.t 4,.t 5],znc,false,false⟩
def znd:ACode:=.seq (rg [mV 4 (cI 0)] [0,1]) (.seq (.seq (rg [mV 9 0,
cL 10 z7c [9],
mV 5 10] [0,1,5]) (.seq (rg [mV 11 5,
bN 12 .neq 11 (cI 0)] [0,1,5,12]) (.cond 12 .bad .skip))) (.seq (.seq (rg [mV 14 1,
lN 15 14,
mV 16 (cI 0)] [0,14,15,16]) (.block 0 (.loop (.scope (.pr [0,14,15,16] (.seq (rg [bN 17 .lss 16 15] [0,14,15,16,17]) (.seq (.cond 17 .skip (.exit 0)) (.seq (.block 1 (.seq (rg [iA 18 (some 2) 14 16,
lD 19 (some 2) 18,
uO 7 (.alloc [.p (.int .i64 0),.sl0 none]),
wO (.store (some 2) 7 19)] [0,7,14,15,16]) (.seq (rg [mV 20 0,
lN 21 20,
lD 22 (some 2) 7,
cL 23 z7b [21,22],
mV 8 23] [0,8,14,15,16]) (.seq (rg [mV 24 8,
bN 25 .neq 24 (cI 0)] [0,8,14,15,16,25]) (.cond 25 .bad .skip))))) (rg [bN 27 .add 16 (cI 1),
mV 16 27] [0,14,15,16]))))))))) (.pr [] (.seq (rg [mV 4 (cI 0)] [4]) .ret))))
def zc4:AFun:=⟨2,[.t 4],znd,false,false⟩
def zne:ACode:=(.seq (rg [mV 2 cF] [0])
(.seq (rg [mV 3 0,
cL 4 kC [3,(cI 3),(cI 5)],
uO 5 (.un .not 4),
mV 2 5] [2])
.ret))
def zc5:AFun:=⟨1,[.t 2],zne,false,false⟩
def zng:ACode:=.pr [3,5,6,8,9,10,15,16] (.seq (rg [bN 17 .lss 16 15] [3,5,6,8,9,10,15,16,17])
(.seq (.cond 17 .skip
(.exit 2))
(.seq (.block 3 (.seq (rg [mV 18 16,
mV 7 18] [3,5,6,7,8,9,10,15,16])
(rg [mV 19 6,
mV 20 5,
mV 21 7,
uO 22 (.idxs 20 21),
bN 23 .sub 22 (.c (.p (.int .u8 48))),
uO 24 (.conv (.i .u64) 23),
mV 25 7,
bN 26 .shl 24 25,
bN 27 .or 19 26,
mV 6 27] [3,5,6,8,9,10,15,16])))
(rg [bN 28 .add 16 (cI 1),
mV 16 28] [3,5,6,8,9,10,15,16]))))
def znh:ACode:=.pr [3,6,8,9,10] (rg [mV 29 3,
mV 30 6,
uO 31 (.bsl false none 1 (.int .u64 0) [(0,30)]),
uO 32 (.app none 29 31),
mV 3 32] [3,8,9,10])
def zni:ACode:=.pr [3,8,9,10] (rg [bN 33 .add 10 (cI 1),
mV 10 33] [3,8,9,10])
def znj:ACode:=.pr [3,8,9,10] (.seq (rg [bN 11 .lss 10 9] [3,8,9,10,11])
(.seq (.cond 11 .skip
(.exit 0))
(.seq (.block 1 (.seq (rg [iA 12 none 8 10,
lD 13 none 12,
mV 5 13] [3,5,8,9,10])
(.seq (rg [mV 6 (.c (.p (.int .u64 0)))] [3,5,6,8,9,10])
(.seq (.seq (rg [mV 14 5,
uO 15 (.lens 14),
mV 16 (cI 0)] [3,5,6,8,9,10,15,16])
(.block 2 (.loop zng)))
znh))))
zni)))
def znk:ACode:=.pr [3] (.seq (rg [mV 34 3,
mV 2 34] [2])
.ret)
def znf:ACode:=(.seq (rg [mV 2 (.c (.p (.sl none [])))] [0])
(.seq (rg [uO 3 (.new0 none)] [0,3])
(.seq (.seq (rg [mV 8 0,
lN 9 8,
mV 10 (cI 0)] [3,8,9,10])
(.block 0 (.loop (.scope znj))))
znk)))
def zc6:AFun:=⟨1,[.t 2],znf,false,true⟩
def znm:ACode:=.pr [1,5,7,8,10,11,12,19,20] (.seq (rg [bN 21 .lss 20 19] [1,5,7,8,10,11,12,19,20,21])
(.seq (.cond 21 .skip
(.exit 2))
(.seq (.block 3 (.seq (rg [mV 22 20,
mV 9 22] [1,5,7,8,9,10,11,12,19,20])
(rg [mV 23 8,
mV 24 9,
mV 25 7,
mV 26 9,
bN 27 .shr 25 26,
bN 28 .and 27 (.c (.p (.int .u64 1))),
bN 29 .add (.c (.p (.int .u64 48))) 28,
uO 30 (.conv (.i .u8) 29),
iA 31 none 23 24,
wO (.store none 31 30)] [1,5,7,8,10,11,12,19,20])))
(rg [bN 32 .add 20 (cI 1),
mV 20 32] [1,5,7,8,10,11,12,19,20]))))
def znn:ACode:=.pr [1,5,8,10,11,12] (rg [mV 33 5,
mV 34 8,
uO 35 (.conv .b2s 34),
uO 36 (.bsl false none 1 (.str []) [(0,35)]),
uO 37 (.app none 33 36),
mV 5 37] [1,5,10,11,12])
def zno:ACode:=.pr [1,5,10,11,12] (rg [bN 38 .add 12 (cI 1),
mV 12 38] [1,5,10,11,12])
def znp:ACode:=.pr [1,5,10,11,12] (.seq (rg [bN 13 .lss 12 11] [1,5,10,11,12,13])
(.seq (.cond 13 .skip
(.exit 0))
(.seq (.block 1 (.seq (rg [iA 14 none 10 12,
lD 15 none 14,
mV 7 15] [1,5,7,10,11,12])
(.seq (rg [mV 16 1,
uO 17 (.mksl none (.int .u8 0) 16 16),
mV 8 17] [1,5,7,8,10,11,12])
(.seq (.seq (rg [mV 18 8,
lN 19 18,
mV 20 (cI 0)] [1,5,7,8,10,11,12,19,20])
(.block 2 (.loop znm)))
znn))))
zno)))
def znq:ACode:=.pr [5] (.seq (rg [mV 39 5,
mV 4 39] [4])
.ret)
def znl:ACode:=(.seq (rg [mV 4 (.c (.p (.sl none [])))] [0,1])
(.seq (rg [uO 5 (.new0 none)] [0,1,5])
(.seq (.seq (rg [mV 10 0,
lN 11 10,
mV 12 (cI 0)] [1,5,10,11,12])
(.block 0 (.loop (.scope znp))))
znq)))
def zc7:AFun:=⟨2,[.t 4],znl,false,false⟩
def znr:ACode:=(.seq (rg [mV 2 (.c (.p (.int .u64 0)))] [0])
(.seq (rg [mV 3 0,
bN 4 .shl (.c (.p (.int .u64 1))) 3,
bN 5 .sub 4 (.c (.p (.int .u64 1))),
mV 2 5] [2])
.ret))
def zc8:AFun:=⟨1,[.t 2],znr,false,false⟩
def zns:ACode:=.seq (rg [uO 4 (.box 1)] [0,2,4]) (.seq (rg [mV 13 0,
fA 14 1 none 4,
lD 15 none 14,
iA 16 none 15 (cI 0),
lD 17 none 16,
iA 18 none 13 17,
lD 19 none 18,
mV 6 19] [0,2,4,6]) (.seq (.seq (rg [fA 20 0 none 4,
lD 21 none 20] [0,2,4,6,21]) (.block 0 (.seq (rg [bN 23 .eql 21 (cI 1),
mV 22 23] [0,2,4,6,21,22]) (.cond 22 .bad (.seq (.seq (rg [bN 25 .eql 21 (cI 2),
mV 24 25] [0,2,4,6,21,24]) (.cond 24 .skip .bad)) (.pr [0,2,4,6,21,24] (.cond 24 (rg [mV 27 2,
mV 6 27] [0,4,6]) .bad))))))) (.pr [0,4,6] (.seq (rg [fA 60 1 none 4,
lD 61 none 60,
lN 62 61,
mV 63 (cI 0)] [0,6,61,62,63]) (.block 5 (.loop (.pr [0,6,61,62,63] (.seq (rg [bN 64 .lss 63 62] [0,6,61,62,63,64]) (.seq (.cond 64 .skip (.exit 5)) (.seq (.block 6 (.seq (rg [iA 65 none 61 63,
lD 66 none 65,
mV 12 66] [0,6,12,61,62,63]) (rg [mV 67 0,
mV 68 12,
mV 69 6,
iA 70 none 67 68,
wO (.store none 70 69)] [0,6,61,62,63]))) (rg [bN 71 .add 63 (cI 1),
mV 63 71] [0,6,61,62,63])))))))))))
def zc9:AFun:=⟨3,[],zns,true,false⟩
def znt:ACode:=(.seq (rg [mV 4 (cI 0)] [0,1])
(.seq (rg [mV 5 0,
mV 6 1,
cL 7 ET [5,6],
mV 4 7] [4])
.ret))
def zcA:AFun:=⟨2,[.t 4],znt,false,false⟩
def znu:ACode:=.seq (rg [uO 2 (.alloc [.p (.int .i64 0),.p (.int .i64 0)]),
uO 3 (.alloc [.p (.int .i64 0),.p (.int .i64 0)]),
mV 4 (cI 0)] [0,2,3]) (.seq (.seq (rg [mV 9 0,
cL 10 z7p [9,(cI 1)],
mV 5 10] [0,2,3,5]) (.seq (rg [mV 11 5,
bN 12 .neq 11 (cI 0)] [0,2,3,5,12]) (.cond 12 .bad .skip))) (.seq (rg [mV 17 0,
cL 18 z7o [17],
mV 16 18,
eX 19 16 0,
eX 20 16 1,
mV 6 19,
mV 7 20] [0,2,3,6,7]) (.seq (rg [mV 21 0,
lN 22 21,
mV 8 22] [2,3,6,7,8]) (.seq (rg [mV 23 6,
mV 24 8,
cL 25 z0Z [23,24],
mV 26 7,
mV 27 8,
mV 28 8,
bN 29 .mul 27 28,
cL 30 z0Z [26,29],
wO (.store (some 2) 2 25),
wO (.store (some 2) 3 30),
mV 4 (cI 0)] [2,3,4]) .ret))))
def zcB:AFun:=⟨1,[.cell 2 (some 2),.cell 3 (some 2),.t 4],znu,false,false⟩
def znv:ACode:=(.seq (rg [mV 2 cF] [0])
(.seq (rg [mV 3 0,
cL 4 kC [3,(cI (-100000)),(cI 100000)],
uO 5 (.un .not 4),
mV 2 5] [2])
.ret))
def zcC:AFun:=⟨1,[.t 2],znv,false,false⟩
def znx:ACode:=.pr [0,2,4,7,8,9] (.seq (rg [bN 10 .lss 9 8] [0,2,4,7,8,9,10])
(.seq (.cond 10 .skip
(.exit 0))
(.seq (.block 1 (.seq (rg [iA 11 none 7 9,
lD 12 none 11,
mV 6 12] [0,2,4,6,7,8,9])
(.seq (rg [mV 13 2,
mV 14 6,
bN 15 .add 13 14,
mV 2 15] [0,2,4,6,7,8,9])
(rg [mV 16 4,
mV 17 6,
mV 18 6,
bN 19 .mul 17 18,
bN 20 .add 16 19,
mV 4 20] [0,2,4,7,8,9]))))
(rg [bN 21 .add 9 (cI 1),
mV 9 21] [0,2,4,7,8,9]))))
def zny:ACode:=.pr [0,2,4] (.seq (rg [mV 22 2,
mV 23 0,
lN 24 23,
mV 25 4,
bN 26 .mul 24 25,
mV 27 2,
mV 28 2,
bN 29 .mul 27 28,
bN 30 .sub 26 29,
mV 2 22,
mV 3 30] [2,3])
.ret)
def znw:ACode:=(.seq (rg [mV 2 (cI 0),
mV 3 (cI 0)] [0,2])
(.seq (rg [mV 4 (cI 0)] [0,2,4])
(.seq (.seq (rg [mV 7 0,
lN 8 7,
mV 9 (cI 0)] [0,2,4,7,8,9])
(.block 0 (.loop znx)))
zny)))
def zcD:AFun:=⟨1,[.t 2,.t 3],znw,false,false⟩
def znz:ACode:=.seq (rg [mV 4 (cI 0)] [0,1]) (.seq (.block 0 (.seq (rg [mV 6 0,
lN 7 6,
mV 8 1,
bN 9 .lss 7 8,
mV 5 9] [0,5]) (.cond 5 .bad (.seq (rg [mV 11 0,
lN 12 11,
bN 13 .gtr 12 (cI 5000),
mV 10 13] [0,10]) (.cond 10 .bad (.seq (rg [mV 15 0,
cL 16 z7v [15,(.f z7q)],
mV 14 16] [14]) (.cond 14 .bad .skip))))))) (.seq (rg [mV 4 (cI 0)] [4]) .ret))
def zcE:AFun:=⟨2,[.t 4],znz,false,false⟩
def zn0:ACode:=(.seq (rg [mV 2 cF] [0])
(.seq (rg [mV 3 0,
cL 4 z7n [3],
uO 5 (.un .not 4),
mV 2 5] [2])
.ret))
def zcF:AFun:=⟨1,[.t 2],zn0,false,false⟩
def zn1:ACode:=.seq (rg [mV 2 (cI 0)] [0]) (.seq (.seq (rg [mV 5 0,
lN 6 5,
mV 7 (cI 0)] [5,6,7]) (.block 0 (.loop (.pr [5,6,7] (.seq (rg [bN 8 .lss 7 6] [5,6,7,8]) (.seq (.cond 8 .skip (.exit 0)) (.seq (.block 1 (.seq (rg [iA 9 none 5 7,
lD 10 none 9,
mV 4 10] [4,5,6,7]) (.seq (rg [mV 11 4,
bN 12 .neq 11 (cI 0)] [4,5,6,7,12]) (.cond 12 .bad .skip)))) (rg [bN 14 .add 7 (cI 1),
mV 7 14] [5,6,7])))))))) (.pr [] (.seq (rg [mV 2 (cI 0)] [2]) .ret)))
def zcG:AFun:=⟨1,[.t 2],zn1,false,false⟩
def zn2:ACode:=(.seq (rg [mV 0 cF] [])
(.seq (rg [cL 13 z7s [],
uO 14 (.bsl false none 1 (.str []) [(0,(cS [49]))]),
cL 15 z6Q [13,14],
mV 12 15,
eX 16 12 0,
eX 17 12 1,
mV 1 16,
mV 2 17] [1,2])
(.seq (rg [uO 19 (.bsl false none 1 (.str []) [(0,(cS [48,49]))]),
uO 20 (.bsl false none 1 (.int .i64 0) [(0,(cI 0))]),
uO 21 (.build [.p (.int .i64 0),.sl0 none] [(0,1,(cI 2)),(1,1,20)]),
cL 22 z7e [19,21],
mV 18 22,
eX 23 18 0,
eX 24 18 1,
mV 3 23,
mV 4 24] [1,2,3,4])
(.seq (rg [uO 26 (.build [.p (.int .i64 0),.p (.int .i64 0),.p (.int .i64 0),.p (.str []),.p (.str []),.p (.str [])] [(0,1,(cI 7)),(3,1,(cS [49,48]))]),
uO 27 (.bsl false (some 6) 1 (.agg [.int .i64 0,.int .i64 0,.int .i64 0,.str [],.str [],.str []]) [(0,26)]),
cL 28 z7G [27],
mV 25 28,
eX 29 25 0,
eX 30 25 1,
mV 5 29,
mV 6 30] [1,2,3,4,5,6])
(.seq (rg [uO 32 (.bsl false none 2 (.int .i64 0) [(0,(cI 1)),(1,(cI 3))]),
cL 33 z7m [32],
mV 31 33,
eX 34 31 0,
eX 35 31 1,
eX 36 31 2,
uO 7 (.alloc [.p (.int .i64 0),.p (.int .i64 0)]),
uO 8 (.alloc [.p (.int .i64 0),.p (.int .i64 0)]),
wO (.store (some 2) 7 34),
wO (.store (some 2) 8 35),
mV 9 36] [1,2,3,4,5,6,7,9])
(.seq (rg [uO 38 (.bsl false none 1 (.str []) [(0,(cS [115,99,97,110]))]),
uO 39 (.build [.sl0 none,.p (.int .i64 0)] [(0,1,38),(1,1,(cI 1))]),
uO 40 (.build [.p (.str []),.p (.int .i64 0),.p (.int .i64 0),.p (.int .i64 0),.p (.str []),.p (.str []),.p (.str []),.p (.int .i64 0)] [(0,1,(cS [97])),(1,1,(cI 1)),(3,1,(cI 1)),(4,1,(cS [98]))]),
uO 41 (.bsl false (some 8) 1 (.agg [.str [],.int .i64 0,.int .i64 0,.int .i64 0,.str [],.str [],.str [],.int .i64 0]) [(0,40)]),
cL 42 z74 [39,41,(cS [98]),(cI 0)],
mV 37 42,
eX 43 37 0,
eX 44 37 1,
uO 10 (.alloc [.p (.int .i64 0),.p (.int .i64 0),.p (.str []),.p (.str []),.p (.int .i64 0)]),
wO (.store (some 5) 10 43),
mV 11 44] [1,2,3,4,5,6,7,9,10,11])
(.seq (rg [mV 45 2,
mV 46 4,
mV 47 6,
mV 48 9,
mV 49 11,
uO 50 (.bsl false none 5 (.int .i64 0) [(0,45),(1,46),(2,47),(3,48),(4,49)]),
cL 51 z7r [50],
bN 52 .eql 51 (cI 0),
mV 53 52,
gD 54 53 true (.mv 1),
gD 55 53 true (.len 54),
gD 56 53 true (.bin .eql 55 (cI 1)),
uO 57 (.pick 53 56 cF),
mV 58 57,
gD 59 58 true (.mv 1),
gD 60 58 true (.iaddr none 59 (cI 0)),
gD 61 58 true (.load none 60),
gD 62 58 true (.bin .eql 61 (cI 1)),
uO 63 (.pick 58 62 cF),
mV 64 63,
gD 65 64 true (.mv 3),
gD 66 64 true (.len 65),
gD 67 64 true (.bin .eql 66 (cI 1)),
uO 68 (.pick 64 67 cF),
mV 69 68,
gD 70 69 true (.mv 3),
gD 71 69 true (.iaddr none 70 (cI 0)),
gD 72 69 true (.load none 71),
gD 73 69 true (.bin .eql 72 (cS [49,49])),
uO 74 (.pick 69 73 cF),
mV 75 74,
gD 76 75 true (.mv 5),
gD 77 75 true (.bin .eql 76 (cI 9)),
uO 78 (.pick 75 77 cF),
mV 79 78,
gD 80 79 true (.faddr 0 none 7),
gD 81 79 true (.load none 80),
gD 82 79 true (.bin .eql 81 (cI 2)),
uO 83 (.pick 79 82 cF),
mV 84 83,
gD 85 84 true (.faddr 0 none 10),
gD 86 84 true (.load none 85),
gD 87 84 true (.bin .eql 86 (cI 1)),
uO 88 (.pick 84 87 cF),
mV 0 88] [0])
.ret)))))))
def zcH:AFun:=⟨0,[.t 0],zn2,false,false⟩
def zn3:ACode:=(.seq (rg [uO 0 (.alloc [.sl0 (some 2),.sl0 (some 3),.sl0 (some 2)])] [0])
(.seq (rg [uO 1 (.build [.p (.int .i64 0),.p (.str []),.p (.int .i64 0),.p (.int .i64 0)] [(0,1,(cI 2)),(1,1,(cS [97])),(2,1,(cI (-1)))]),
uO 2 (.bsl false (some 4) 1 (.agg [.int .i64 0,.str [],.int .i64 0,.int .i64 0]) [(0,1)]),
uO 3 (.build [.p (.str []),.sl0 (some 4)] [(0,1,(cS [117])),(1,1,2)]),
uO 4 (.bsl false (some 2) 1 (.agg [.str [],.sl (some 4) []]) [(0,3)]),
uO 5 (.build [.p (.str []),.p (.str []),.p (.str [])] [(0,1,(cS [110])),(1,1,(cS [117])),(2,1,(cS [97]))]),
uO 6 (.bsl false (some 3) 1 (.agg [.str [],.str [],.str []]) [(0,5)]),
uO 7 (.build [.sl0 (some 2),.sl0 (some 3),.sl0 (some 2)] [(0,1,4),(1,1,6)]),
wO (.store (some 3) 0 7)] [0])
.ret))
def zcI:AFun:=⟨0,[.cell 0 (some 3)],zn3,false,false⟩
def zn4:ACode:=.seq (rg [mV 6 (cI 0),
mV 7 cF] [0,1,2]) (.seq (rg [mV 12 0,
lN 13 12,
mV 8 13] [0,1,2,8]) (.seq (rg [mV 14 8,
mV 9 (cI 0),
mV 10 14] [0,1,2,8,9,10]) (.seq (.block 0 (.loop (.pr [0,1,2,8,9,10] (.seq (.seq (rg [mV 15 9,
mV 16 10,
bN 17 .lss 15 16] [0,1,2,8,9,10,17]) (.cond 17 .skip (.exit 0))) (.block 1 (.seq (rg [mV 18 9,
mV 19 10,
bN 20 .add 18 19,
uO 21 (.conv (.i .u64) 20),
bN 22 .shr 21 (.c (.p (.int .u64 1))),
uO 23 (.conv (.i .i64) 22),
mV 11 23] [0,1,2,8,9,10,11]) (.seq (rg [mV 24 2,
mV 25 0,
mV 26 11,
iA 27 (some 2) 25 26,
lD 28 (some 2) 27,
mV 29 1,
uO 30 (.callv 24 [28,29]),
bN 31 .lss 30 (cI 0)] [0,1,2,8,9,10,11,31]) (.cond 31 .bad (rg [mV 34 11,
mV 10 34] [0,1,2,8,9,10]))))))))) (.pr [0,1,2,8,9] (.seq (rg [mV 35 9,
mV 36 9,
mV 37 8,
bN 38 .lss 36 37,
mV 39 38,
gD 40 39 true (.mv 2),
gD 41 39 true (.mv 0),
gD 42 39 true (.mv 9),
gD 43 39 true (.iaddr (some 2) 41 42),
gD 44 39 true (.load (some 2) 43),
gD 45 39 true (.mv 1),
gD 46 39 true (.callv 40 [44,45]),
gD 47 39 true (.bin .eql 46 (cI 0)),
uO 48 (.pick 39 47 cF),
mV 6 35,
mV 7 48] [6,7]) .ret)))))
def zcJ:AFun:=⟨3,[.t 6,.t 7],zn4,false,false⟩
def zn5:ACode:=.seq (rg [mV 2 (.c (.p (.sl none [])))] [0]) (.seq (.seq (rg [mV 6 0,
lN 7 6,
bN 8 .lss 7 (cI 2)] [0,8]) (.cond 8 (.seq (rg [mV 9 0,
mV 2 9] [2]) .ret) .skip)) .bad)
def zcK:AFun:=⟨1,[.t 2],zn5,true,false⟩
def zn6:ACode:=(.seq (rg [mV 4 cF] [0,1])
(.seq (rg [mV 5 0,
mV 6 1,
cL 7 z7x [5,6],
bN 8 .geq 7 (cI 0),
mV 4 8] [4])
.ret))
def zcL:AFun:=⟨2,[.t 4],zn6,true,false⟩
def zn7:ACode:=(.seq (rg [mV 4 cF] [0,1])
(.seq (rg [mV 5 0,
mV 6 1,
cL 7 z7y [5,6],
bN 8 .geq 7 (cI 0),
mV 4 8] [4])
.ret))
def zcM:AFun:=⟨2,[.t 4],zn7,true,false⟩
def zn8:ACode:=(.seq (rg [mV 4 cF] [0,1])
(.seq (rg [mV 5 0,
mV 6 1,
cL 7 z7z [5,6],
bN 8 .geq 7 (cI 0),
mV 4 8] [4])
.ret))
def zcN:AFun:=⟨2,[.t 4],zn8,true,false⟩
def zn9:ACode:=.seq (rg [mV 4 (cI 0)] [0,1]) (.seq (.seq (rg [mV 6 0,
lN 7 6,
mV 8 (cI 0)] [0,1,7,8]) (.block 0 (.loop (.pr [0,1,7,8] (.seq (rg [bN 9 .lss 8 7] [0,1,7,8,9]) (.seq (.cond 9 .skip (.exit 0)) (.seq (.block 1 (.seq (rg [mV 10 8,
mV 5 10] [0,1,5,7,8]) (.seq (rg [mV 11 1,
mV 12 0,
mV 13 5,
iA 14 (some 4) 12 13,
lD 15 (some 4) 14,
uO 16 (.callv 11 [15])] [0,1,5,7,8,16]) (.cond 16 (.seq (rg [mV 17 5,
mV 4 17] [4]) .ret) .skip)))) .bad))))))) (.pr [] (.seq (rg [mV 4 (cI (-1))] [4]) .ret)))
def zcO:AFun:=⟨2,[.t 4],zn9,true,false⟩
def znA:ACode:=.seq (rg [mV 4 (cI 0)] [0,1]) (.seq (.seq (rg [mV 6 0,
lN 7 6,
mV 8 (cI 0)] [0,1,7,8]) (.block 0 (.loop (.pr [0,1,7,8] (.seq (rg [bN 9 .lss 8 7] [0,1,7,8,9]) (.seq (.cond 9 .skip (.exit 0)) (.seq (.block 1 (.seq (rg [mV 10 8,
mV 5 10] [0,1,5,7,8]) (.seq (rg [mV 11 1,
mV 12 0,
mV 13 5,
iA 14 none 12 13,
lD 15 none 14,
uO 16 (.callv 11 [15])] [0,1,5,7,8,16]) (.cond 16 .bad .skip)))) (rg [bN 18 .add 8 (cI 1),
mV 8 18] [0,1,7,8])))))))) (.pr [] (.seq (rg [mV 4 (cI (-1))] [4]) .ret)))
def zcP:AFun:=⟨2,[.t 4],znA,true,false⟩
def znB:ACode:=.seq (rg [mV 4 (cI 0)] [0,1]) (.seq (.seq (rg [mV 6 0,
lN 7 6,
mV 8 (cI 0)] [0,1,7,8]) (.block 0 (.loop (.pr [0,1,7,8] (.seq (rg [bN 9 .lss 8 7] [0,1,7,8,9]) (.seq (.cond 9 .skip (.exit 0)) .bad)))))) (.pr [] (.seq (rg [mV 4 (cI (-1))] [4]) .ret)))
def zcQ:AFun:=⟨2,[.t 4],znB,true,false⟩
def znC:ACode:=.seq (rg [mV 2 (cI 0)] [0]) (.seq (.seq (rg [mV 6 0,
lN 7 6,
bN 8 .gtr 7 (cI 2000)] [0,8]) (.cond 8 .bad .skip)) (.seq (.seq (rg [mV 9 0,
lN 10 9,
mV 11 (cI 0)] [0,9,10,11]) (.block 0 (.loop (.scope (.pr [0,9,10,11] (.seq (rg [bN 12 .lss 11 10] [0,9,10,11,12]) (.seq (.cond 12 .skip (.exit 0)) (.seq (.block 1 (.seq (rg [mV 13 11,
iA 14 (some 8) 9 11,
lD 15 (some 8) 14,
uO 4 (.alloc [.p (.str []),.p (.int .i64 0),.p (.int .i64 0),.p (.int .i64 0),.p (.str []),.p (.str []),.p (.str []),.p (.int .i64 0)]),
mV 3 13,
wO (.store (some 8) 4 15)] [0,3,4,9,10,11]) (.seq (.seq (rg [lD 16 (some 8) 4,
cL 17 z78 [16],
mV 5 17] [0,3,4,5,9,10,11]) (.seq (rg [mV 18 5,
bN 19 .neq 18 (cI 0)] [0,3,4,5,9,10,11,19]) (.cond 19 .bad .skip))) (.seq (dr [dF (mV 21 3) [3],
dF (bN 22 .gtr 21 (cI 0)) [21],
dF (mV 23 22) [22],
dF (gD 24 23 true (.load (some 8) 4)) [4,23],
dF (gD 25 23 true (.mv 0)) [0,23],
dF (gD 26 23 true (.mv 3)) [3,23],
dF (gD 27 23 true (.bin .sub 26 (cI 1))) [26,23],
dF (gD 28 23 true (.iaddr (some 8) 25 27)) [25,27,23],
dF (gD 29 23 true (.load (some 8) 28)) [28,23],
dT (gD 30 23 true (.call zjJ [24,29])) [24,29,23],
dF (gD 31 23 true (.bin .leq 30 (cI 0))) [30,23],
dF (uO 32 (.pick 23 31 cF)) [23,31]] [0,9,10,11,32]) (.cond 32 .bad .skip))))) (rg [bN 33 .add 11 (cI 1),
mV 11 33] [0,9,10,11]))))))))) (.pr [0] (.seq (.seq (rg [mV 34 0,
cL 35 z7D [34]] [35]) (.cond 35 .bad .skip)) (.seq (rg [mV 2 (cI 0)] [2]) .ret)))))
def zcR:AFun:=⟨1,[.t 2],znC,false,false⟩
def znD:ACode:=.seq (rg [uO 1 (.box 0),
mV 2 (cI 0)] [1]) (.seq (.block 0 (.seq (rg [fA 6 0 none 1,
lD 7 none 6,
lN 8 7,
bN 9 .eql 8 (cI 0),
mV 5 9] [1,5]) (.cond 5 .bad (.seq (rg [fA 11 0 none 1,
lD 12 none 11,
lN 13 12,
bN 14 .gtr 13 (cI 20),
mV 10 14] [1,10]) (.cond 10 .bad .skip))))) (.seq (.seq (rg [fA 15 0 none 1,
lD 16 none 15,
lN 17 16,
mV 18 (cI 0)] [1,16,17,18]) (.block 1 (.loop (.pr [1,16,17,18] (.seq (rg [bN 19 .lss 18 17] [1,16,17,18,19]) (.seq (.cond 19 .skip (.exit 1)) (.seq (.block 2 (.seq (rg [mV 20 18,
iA 21 none 16 18,
lD 22 none 21,
mV 3 20,
mV 4 22] [1,3,4,16,17,18]) (.block 3 (.seq (rg [mV 24 4,
cL 25 VD [24],
uO 26 (.un .not 25),
mV 23 26] [1,3,4,16,17,18,23]) (.cond 23 .bad (.seq (rg [fA 28 0 none 1,
lD 29 none 28,
mV 30 3,
uO 31 (.slice none 29 none (some 30) none),
mV 32 4,
cL 33 z7w [31,32],
mV 27 33] [1,16,17,18,27]) (.cond 27 .bad .skip))))))) (rg [bN 34 .add 18 (cI 1),
mV 18 34] [1,16,17,18])))))))) (.pr [1] (.seq (.seq (rg [fA 35 1 none 1,
lD 36 none 35,
cL 37 kC [36,(cI 1),(cI 10)]] [37]) (.cond 37 .bad .skip)) (.seq (rg [mV 2 (cI 0)] [2]) .ret)))))
def zcS:AFun:=⟨1,[.t 2],znD,false,false⟩
def znE:ACode:=.seq (rg [uO 4 (.box 0),
uO 8 (.alloc [.p (.int .i64 0),.p (.int .i64 0),.p (.str []),.p (.str []),.p (.int .i64 0)]),
mV 9 (cI 0)] [1,2,3,4,8]) (.seq (.seq (rg [lD 12 (some 2) 4,
mV 13 1,
mV 14 3,
cL 15 z79 [12,13,14],
mV 10 15] [1,2,3,4,8,10]) (.seq (rg [mV 16 10,
bN 17 .neq 16 (cI 0)] [1,2,3,4,8,10,17]) (.cond 17 .bad .skip))) (.seq (.seq (rg [mV 20 2,
cL 21 VD [20],
uO 22 (.un .not 21)] [1,2,3,4,8,22]) (.cond 22 .bad .skip)) (.seq (dr [dF (lD 24 (some 2) 4) [4],
dF (mV 25 1) [1],
dF (mV 26 3) [3],
dA (cL 27 z7E [25,26]) [25,26] true [] [0],
dT (cL 28 z7B [24,27]) [24,27],
dF (uO 29 (.nilchk 28)) [28],
dF (fA 30 2 none 29) [29],
dF (lD 31 none 30) [30],
dF (mV 32 2) [2],
dF (uO 33 (.look (none,[2]) false (.nilp) 31 32)) [31,32],
dF (mV 11 33) [33]] [8,11]) (.seq (.seq (rg [mV 34 11,
uO 35 (.isnil 0 false 34)] [8,11,35]) (.cond 35 .bad .skip)) (.seq (rg [mV 37 11,
uO 38 (.nilchk 37),
lD 39 (some 5) 38,
wO (.store (some 5) 8 39),
mV 9 (cI 0)] [8,9]) .ret)))))
def zcT:AFun:=⟨4,[.cell 8 (some 5),.t 9],znE,false,false⟩
def znF:ACode:=.seq (rg [mV 2 (.c (.p (.sl none [])))] [0]) (.seq (rg [uO 7 (.mkmap),
mV 3 7] [0,3]) (.seq (rg [mV 8 0,
lN 9 8,
uO 10 (.mksl none (.bool false) 9 9),
mV 4 10] [0,3,4]) (.seq (.seq (rg [mV 11 0,
lN 12 11,
bN 13 .sub 12 (cI 1),
mV 5 13] [0,3,4,5]) (.block 0 (.loop (.scope (.pr [0,3,4,5] (.seq (.seq (rg [mV 14 5,
bN 15 .geq 14 (cI 0)] [0,3,4,5,15]) (.cond 15 .skip (.exit 0))) (.seq (.block 1 (.seq (rg [mV 18 0,
mV 19 5,
iA 20 (some 8) 18 19,
lD 21 (some 8) 20,
uO 6 (.alloc [.p (.str []),.p (.int .i64 0),.p (.int .i64 0),.p (.int .i64 0),.p (.str []),.p (.str []),.p (.str []),.p (.int .i64 0)]),
wO (.store (some 8) 6 21)] [0,3,4,5,6]) (.seq (rg [mV 22 4,
mV 23 5,
mV 24 3,
fA 25 0 none 6,
lD 26 none 25,
fA 27 1 none 6,
lD 28 none 27,
uO 29 (.build [.p (.str []),.p (.int .i64 0)] [(0,1,26),(1,1,28)]),
uO 30 (.look ((some 2),[2,0]) false (AB false) 24 29),
uO 31 (.un .not 30),
iA 32 none 22 23,
wO (.store none 32 31)] [0,3,4,5,6]) (.seq (rg [mV 33 4,
mV 34 5,
iA 35 none 33 34,
lD 36 none 35,
mV 37 36,
gD 38 37 true (.faddr 3 none 6),
gD 39 37 true (.load none 38),
gD 40 37 true (.bin .eql 39 (cI 7)),
uO 41 (.pick 37 40 cF)] [0,3,4,5,6,41]) (.cond 41 .bad .skip))))) (.pr [0,3,4,5] (rg [mV 16 5,
bN 17 .sub 16 (cI 1),
mV 5 17] [0,3,4,5]))))))))) (.pr [4] (.seq (rg [mV 48 4,
mV 2 48] [2]) .ret)))))
def zcU:AFun:=⟨1,[.t 2],znF,false,false⟩
def znG:ACode:=.seq (rg [uO 1 (.box 0),
mV 2 (cI 0)] [1]) (.seq (dr [dF (fA 5 3 none 1) [1],
dF (lD 6 none 5) [5],
dF (bN 7 .eql 6 (cI 7)) [6],
dF (fA 8 3 none 1) [1],
dF (lD 9 none 8) [8],
dF (bN 10 .eql 9 (cI 2)) [9],
dF (mV 3 7) [7],
dF (mV 4 10) [10]] [1,3,4]) (.seq (.block 0 (.seq (rg [fA 12 0 none 1,
lD 13 none 12,
cL 14 VD [13],
uO 15 (.un .not 14),
mV 11 15] [1,3,4,11]) (.cond 11 .bad (.seq (rg [fA 17 1 none 1,
lD 18 none 17,
cL 19 kC [18,(cI 1),(cI 1000000)],
mV 20 19,
gD 21 20 false (.faddr 2 none 1),
gD 22 20 false (.load none 21),
gD 23 20 false (.call z1a [22]),
gD 24 20 false (.un .not 23),
uO 25 (.pick 20 cT 24),
mV 16 25] [1,3,4,16]) (.cond 16 .bad (.seq (rg [fA 27 3 none 1,
lD 28 none 27,
cL 29 kC [28,(cI 1),(cI 7)],
mV 26 29] [1,3,4,26]) (.cond 26 .bad (.seq (rg [mV 31 3,
uO 32 (.un .not 31),
mV 33 32,
gD 34 33 true (.faddr 4 none 1),
gD 35 33 true (.load none 34),
gD 36 33 true (.call VD [35]),
gD 37 33 true (.un .not 36),
uO 38 (.pick 33 37 cF),
mV 39 38,
gD 40 39 false (.mv 4),
gD 41 39 false (.mv 40),
gD 42 41 true (.faddr 5 none 1),
gD 43 41 true (.load none 42),
gD 44 41 true (.call VD [43]),
gD 45 41 true (.un .not 44),
gD 46 39 false (.pick 41 45 cF),
uO 47 (.pick 39 cT 46),
mV 48 47,
gD 49 48 false (.mv 3),
gD 50 48 false (.mv 49),
gD 51 50 true (.faddr 6 none 1),
gD 52 50 true (.load none 51),
gD 53 50 true (.call VD [52]),
gD 54 50 true (.un .not 53),
gD 55 48 false (.pick 50 54 cF),
uO 56 (.pick 48 cT 55),
mV 30 56] [1,3,4,30]) (.cond 30 .bad (.seq (rg [mV 58 3,
mV 59 58,
gD 60 59 true (.faddr 7 none 1),
gD 61 59 true (.load none 60),
gD 62 59 true (.call kC [61,(cI 1),(cI 1000000)]),
uO 63 (.pick 59 62 cF),
mV 57 63] [1,3,4,57]) (.cond 57 .bad (.seq (rg [mV 65 3,
mV 66 65,
gD 67 66 true (.faddr 4 none 1),
gD 68 66 true (.load none 67),
gD 69 66 true (.bin .neq 68 (cS [])),
uO 70 (.pick 66 69 cF),
mV 71 70,
gD 72 71 false (.mv 4),
gD 73 71 false (.un .not 72),
gD 74 71 false (.mv 73),
gD 75 74 true (.faddr 5 none 1),
gD 76 74 true (.load none 75),
gD 77 74 true (.bin .neq 76 (cS [])),
gD 78 71 false (.pick 74 77 cF),
uO 79 (.pick 71 cT 78),
mV 80 79,
gD 81 80 false (.mv 3),
gD 82 80 false (.un .not 81),
gD 83 80 false (.mv 82),
gD 84 83 true (.faddr 6 none 1),
gD 85 83 true (.load none 84),
gD 86 83 true (.bin .neq 85 (cS [])),
gD 87 83 true (.mv 86),
gD 88 87 false (.faddr 7 none 1),
gD 89 87 false (.load none 88),
gD 90 87 false (.bin .neq 89 (cI 0)),
gD 91 83 true (.pick 87 cT 90),
gD 92 80 false (.pick 83 91 cF),
uO 93 (.pick 80 cT 92),
mV 64 93] [64]) (.cond 64 .bad .skip))))))))))))) (.seq (rg [mV 2 (cI 0)] [2]) .ret)))
def zcV:AFun:=⟨1,[.t 2],znG,false,false⟩
def znH:ACode:=(.seq (rg [uO 3 (.box 0),
mV 6 (cI 0)] [1,2,3])
(.seq (rg [lD 7 (some 2) 3,
cL 8 z73 [7],
mV 9 1,
cL 10 z71 [9],
mV 11 2,
cL 12 z7C [11],
uO 13 (.bsl false none 3 (.int .i64 0) [(0,8),(1,10),(2,12)]),
cL 14 kI [13],
mV 6 14] [6])
.ret))
def zcW:AFun:=⟨3,[.t 6],znH,false,false⟩
def znI:ACode:=.seq (rg [uO 3 (.box 1),
mV 4 (cI 0)] [0,3]) (.seq (dr [dF (mV 6 0) [0],
dF (uO 7 (.nilchk 6)) [6],
dF (fA 8 2 none 7) [7],
dF (lD 9 none 8) [8],
dF (fA 10 4 none 3) [3],
dF (lD 11 none 10) [10],
dF (uO 12 (.look (none,[2]) false (.nilp) 9 11)) [9,11],
dF (mV 5 12) [12]] [0,3,5]) (.seq (.seq (rg [fA 13 3 none 3,
lD 14 none 13,
bN 15 .eql 14 (cI 1)] [0,3,5,15]) (.cond 15 (.seq (.seq (rg [mV 16 5,
uO 17 (.isnil 0 true 16)] [0,3,17]) (.cond 17 .bad .skip)) (.seq (dr [dF (mV 18 0) [0],
dF (uO 19 (.nilchk 18)) [18],
dF (fA 20 2 none 19) [19],
dF (lD 21 none 20) [20],
dF (fA 22 4 none 3) [3],
dF (lD 23 none 22) [22],
dF (fA 24 2 none 3) [3],
dF (lD 25 none 24) [24],
dF (mV 26 0) [0],
dF (uO 27 (.nilchk 26)) [26],
dF (fA 28 0 (some 2) 27) [27],
dF (fA 29 0 none 28) [28],
dF (lD 30 none 29) [29],
dF (iA 31 none 30 (cI 0)) [30],
dF (lD 32 none 31) [31],
dF (uO 33 (.build [.p (.int .i64 0),.p (.int .i64 0),.p (.str []),.p (.str []),.p (.int .i64 0)] [(0,1,(cI 1)),(1,1,25),(2,1,32)])) [25,32],
dA (uO 34 (.box 33)) [33] true [] [3,5],
dT (wO (.mupd (none,[2]) 21 23 34)) [21,23,34]] []) (.seq (rg [mV 4 (cI 0)] [4]) .ret))) .skip)) .bad))
def zcX:AFun:=⟨2,[.t 4],znI,false,false⟩
def znJ:ACode:=.seq (rg [uO 2 (.uns 12 0 [0]),
mV 4 (.c (.nilp))] [1,2]) (.seq (rg [lD 10 (some 2) 2,
uO 11 (.mkmap),
uO 12 (.mkmap),
uO 13 (.build [.sl0 none,.p (.int .i64 0),.nilm,.nilm,.sl0 (some 5),.sl0 (some 3),.sl0 none,.sl0 none] [(0,2,10),(2,1,11),(3,1,12)]),
uO 14 (.uns 12 0 [13]),
mV 5 14] [1,5]) (.seq (rg [mV 15 1,
cL 16 z77 [15],
mV 6 16] [1,5,6]) (.seq (.seq (rg [mV 17 1,
lN 18 17,
mV 19 (cI 0)] [5,6,17,18,19]) (.block 0 (.loop (.scope (.pr [5,6,17,18,19] (.seq (rg [bN 20 .lss 19 18] [5,6,17,18,19,20]) (.seq (.cond 20 .skip (.exit 0)) (.seq (.block 1 (.seq (rg [mV 21 19,
iA 22 (some 8) 17 19,
lD 23 (some 8) 22,
uO 8 (.alloc [.p (.str []),.p (.int .i64 0),.p (.int .i64 0),.p (.int .i64 0),.p (.str []),.p (.str []),.p (.str []),.p (.int .i64 0)]),
mV 7 21,
wO (.store (some 8) 8 23)] [5,6,7,8,17,18,19]) (.seq (.seq (rg [mV 24 6,
mV 25 7,
iA 26 none 24 25,
lD 27 none 26,
uO 28 (.un .not 27),
mV 29 28,
gD 30 29 false (.faddr 3 none 8),
gD 31 29 false (.load none 30),
gD 32 29 false (.bin .eql 31 (cI 7)),
uO 33 (.pick 29 cT 32)] [5,6,7,8,17,18,19,33]) (.cond 33 (.exit 1) .skip)) (.seq (rg [mV 34 5,
lD 35 (some 8) 8,
cL 36 z7A [34,35],
mV 9 36] [5,6,7,9,17,18,19]) (.seq (rg [mV 37 9,
bN 38 .neq 37 (cI 0)] [5,6,7,9,17,18,19,38]) (.cond 38 .bad .skip)))))) (.pr [5,6,17,18,19] (rg [bN 59 .add 19 (cI 1),
mV 19 59] [5,6,17,18,19])))))))))) (.pr [5] (.seq (rg [mV 60 5,
mV 4 60] [4]) .ret)))))
def zcY:AFun:=⟨2,[.t 4],znJ,false,false⟩
def znK:ACode:=.seq (rg [mV 2 (cI 0)] [0]) (.seq (.seq (rg [mV 3 0,
cL 4 z1a [3],
uO 5 (.un .not 4)] [5]) (.cond 5 .bad .skip)) (.seq (rg [mV 2 (cI 0)] [2]) .ret))
def zcZ:AFun:=⟨1,[.t 2],znK,false,false⟩
def znL:ACode:=.seq (rg [mV 2 cF] [0]) (.seq (rg [uO 7 (.mkmap),
mV 3 7] [0,3]) (.seq (.seq (rg [mV 8 0,
lN 9 8,
mV 10 (cI 0)] [3,8,9,10]) (.block 0 (.loop (.scope (.pr [3,8,9,10] (.seq (rg [bN 11 .lss 10 9] [3,8,9,10,11]) (.seq (.cond 11 .skip (.exit 0)) (.seq (.block 1 (.seq (rg [iA 12 (some 8) 8 10,
lD 13 (some 8) 12,
uO 5 (.alloc [.p (.str []),.p (.int .i64 0),.p (.int .i64 0),.p (.int .i64 0),.p (.str []),.p (.str []),.p (.str []),.p (.int .i64 0)]),
wO (.store (some 8) 5 13)] [3,5,8,9,10]) (.seq (rg [fA 14 0 none 5,
lD 15 none 14,
fA 16 1 none 5,
lD 17 none 16,
uO 18 (.build [.p (.str []),.p (.int .i64 0)] [(0,1,15),(1,1,17)]),
uO 6 (.alloc [.p (.str []),.p (.int .i64 0)]),
wO (.store (some 2) 6 18)] [3,6,8,9,10]) (.seq (.seq (rg [mV 19 3,
lD 20 (some 2) 6,
uO 21 (.look ((some 2),[2,0]) false (AB false) 19 20)] [3,6,8,9,10,21]) (.cond 21 .bad .skip)) (rg [mV 22 3,
lD 23 (some 2) 6,
wO (.mupd ((some 2),[2,0]) 22 23 cT)] [3,8,9,10]))))) (rg [bN 24 .add 10 (cI 1),
mV 10 24] [3,8,9,10]))))))))) (.pr [] (.seq (rg [mV 2 cF] [2]) .ret))))
def zda:AFun:=⟨1,[.t 2],znL,false,false⟩
def znM:ACode:=.seq (rg [mV 4 (.c (.p (.sl (some 8) [])))] [0,1]) (.seq (rg [mV 6 0,
lN 7 6,
mV 5 7] [0,1,5]) (.seq (.block 0 (.loop (.pr [0,1,5] (.seq (.seq (rg [mV 8 5,
bN 9 .gtr 8 (cI 0),
mV 10 9,
gD 11 10 true (.mv 0),
gD 12 10 true (.mv 5),
gD 13 10 true (.bin .sub 12 (cI 1)),
gD 14 10 true (.iaddr (some 8) 11 13),
gD 15 10 true (.faddr 2 none 14),
gD 16 10 true (.load none 15),
gD 17 10 true (.mv 1),
gD 18 10 true (.bin .gtr 16 17),
uO 19 (.pick 10 18 cF)] [0,1,5,19]) (.cond 19 .skip (.exit 0))) .bad)))) (.pr [0,5] (.seq (rg [mV 22 0,
mV 23 5,
uO 24 (.slice (some 8) 22 none (some 23) none),
mV 4 24] [4]) .ret))))
def zdb:AFun:=⟨2,[.t 4],znM,false,false⟩
def znN:ACode:=(.seq (rg [mV 4 (cI 0)] [0,1])
(.seq (rg [mV 5 0,
mV 6 1,
cL 7 z7l [5,6],
mV 4 7] [4])
.ret))
def zdc:AFun:=⟨2,[.t 4],znN,false,false⟩
def znO:ACode:=.seq (rg [mV 2 (cI 0),
mV 3 (cI 0)] [0]) (.seq (.seq (rg [mV 5 0,
cL 6 CF [5],
mV 4 6] [0,4]) (.seq (rg [mV 7 4,
bN 8 .neq 7 (cI 0)] [0,4,8]) (.cond 8 .bad .skip))) (.seq (rg [mV 10 0,
cL 11 bF [10,(.c (.nilp))],
uO 12 (.nilchk 11),
fA 13 37 none 12,
lD 14 none 13,
mV 2 14,
mV 3 (cI 0)] [2,3]) .ret))
def zdd:AFun:=⟨1,[.t 2,.t 3],znO,false,false⟩
section
variable {P:Program} {gl:Nat->Option PV}
structure PureRow (P:Program) (gl:Nat->Option PV) (f:Nat) (spec:List PV->Option AV):Prop where
 enter:∀us w,(callFunc f us).run P w = .ok (.enter f us) w
 run:∀(M:Mem) (w:World) (vs:List PV) (r:AV) (us:List Value),(∀b o v,M.c b o=some v->w.cell? ⟨b,o,none⟩=some v)->(∀b o,M.b b=some o->w.heap[b]?=some o)->vE gl M->vs.length=us.length ->
  (∀(j:Nat) (y:PV) (v:Value),vs[j]?=some y->us[j]?=some v->RPV M y v)->spec vs=some r ->
  Calls P f us.toArray w λe w'=>∃x,e = .returned x/\WExt w w'/\RAV (GH M w w') [] [] r x
abbrev xE:=List (Nat × (List PV->Option AV))
def jG:xE->Nat->List AV->aA->Option (AV × aA × Esc)
 | [],_,_,_=>none
 | (g,s)::r,f,asv,h=>bif Nat.beq f g then((unp asv).bind s).map λv=>(v,h,[]) else jG r f asv h
theorem z3t:∀ (gs:xE),(∀ g s,(g,s)∈gs->PureRow P gl g s)->∀ {f:Nat} {asv:List AV} {h:aA} {v:AV} {h':aA} {x:Esc},jG gs f asv h=some (v,h',x) ->
 MC P gl f asv h λv1 h1 x1=>v1=v/\h1=h'/\x1=x
 | [],_,f,asv,h,v,h',x,H=>by cases H
 | (g,s)::r,hg,f,asv,h,v,h',x,H=>by
  unfold jG at H;cases e1:Nat.beq f g with
  | false=>
   rw[e1]at H;exact z3t r (λg sh hm=>hg g sh (by simp [hm])) H
  | true=>
   rw[e1]at H;have e:=Nat.eq_of_beq_eq_true e1
   subst e;have R:=hg f s (by simp)
   simp only[cond_true]at H;obtain⟨y,hy,e2⟩:=Option.map_eq_some_iff.1 H;simp only[Prod.mk.injEq]at e2;obtain⟨rfl,rfl,rfl⟩:=e2;obtain⟨ps,hps,hs⟩:=Option.bind_eq_some_iff.1 hy;have hm:=vN hps
   subst hm;intro μ w vs Hh Hg hl hr;refine .inl ⟨R.enter _,?_⟩;refine(R.run (imm h μ w) w ps y vs (λb o v hv=>(nE.1 hv).2) (λb o hv=>(yI.1 hv).2) Hg (by simpa using hl) (λj q v hq hv=>(hr j (.p q) v (by simp [hq]) hv).p_inv) hs).mono λe w' he=>?_
   obtain⟨u,rfl,g1,g2⟩:=he;obtain⟨n1,n2⟩:=Hh.ext g1;have Lq:(GH (imm h μ w) w w').le (imm h μ w'):=by
    refine⟨λb o v hv=>?_,λb o hv=>?_,rfl,λ_ _ h=>by cases h⟩
    ·dsimp only[GH]at hv
     split at hv
     ·exact n2.le.c _ _ _ hv
     ·rename_i hb
      exact nE.2 ⟨λhO=>hb (z15 Hh hO),hv⟩
    ·dsimp only[GH]at hv
     cases hv
   exact⟨_,_,_,μ,⟨rfl,rfl,rfl⟩,g2.evo ⟨Lq,Nat.zero_le _,λid o m h1=>by simp at h1⟩,n1,n2,rA.refl h []⟩
def KE (gs:List (Nat × Sh))(ps:xE)(f:Nat)(asv:List AV)(h:aA):Option (AV×aA×Esc):=match pH gs f asv h with
 | some y=>some y
 | none=>match jG ps f asv h with
  | some y=>some y
  | none=>match nA h asv with
   | some (asv',h1)=>jG ps f asv' h1
   | none=>none
theorem zof {ps:xE}(hp:∀ g s,(g,s)∈ps->PureRow P gl g s){f:Nat}{asv asv':List AV}{h h1:aA}{v:AV}{h':aA}{x:Esc}(hq:nA h asv=some (asv',h1))(H:jG ps f asv' h1=some (v,h',x)) :
 MC P gl f asv h λv1 h2 x1=>v1=v/\h2=h'/\x1=x:=by
 intro μ w vs Hh Hg hl hr;obtain⟨q1,q2,q3⟩:=OV asv Hh hl hr hq;rcases z3t ps hp H μ w vs q1.1 (Hg.mono q1.2.1.le) q2 q3 with⟨k1,k2⟩|⟨r,w',v2,h2,x2,μ',k1,k2,k3,k4,k5,k6⟩
 ·refine .inl ⟨k1,k2.mono λe w' he=>?_⟩
  cases e with
  | returned r=>
   obtain⟨v2,h2,x2,μ',k2,k3,k4,k5,k6⟩:=he;exact⟨v2,h2,x2,μ',k2,k3,k4,q1.2.1.trans k5,by simpa using q1.2.2.trans k6⟩
  | panicked _=>exact he
  | outgrown=>exact he
 ·exact .inr ⟨r,w',v2,h2,x2,μ',k1,k2,k3,k4,q1.2.1.trans k5,by simpa using q1.2.2.trans k6⟩
theorem libF_ok {gs:List (Nat × Sh)}{ps:xE}(hg:∀ g sh,(g,sh)∈gs->GrowRow P g sh)(hp:∀ g s,(g,s)∈ps->PureRow P gl g s){f:Nat}{asv:List AV}{h:aA}{v:AV}{h':aA}{x:Esc}(H:KE gs ps f asv h=some (v,h',x)) :
 MC P gl f asv h λv1 h1 x1=>v1=v/\h1=h'/\x1=x:=by
 unfold KE at H;split at H
 ·rename_i y hy
  cases H;exact z8A gs hg hy
 ·split at H
  ·rename_i y hy
   cases H;exact z3t ps hp hy
  ·split at H
   ·rename_i asv' h1 hq
    exact zof hp hq H
   ·cases H
theorem RT {X:Ctx}{f:Nat}{asv:List AV}{h h':aA}{v:AV}{x:Esc}{K:jA}(hf:X.fn f=none)(hx:X.ex2 f asv h=some (v,h',x)):bA X f asv h K=K v h' x:=by
 refine propext (bA.eq (bA.fold ?_) K);unfold ZB;simp only[hf,hx];exact⟨trivial,trivial,trivial⟩
def PT:List (Nat × Sh)->Nat->Option Sh
 | [],_=>none
 | (g,s)::r,f=>bif Nat.beq f g then some s else PT r f
theorem z89:∀ {gs:List (Nat × Sh)} {f:Nat} {asv:List AV} {h:aA},PT gs f=none->pH gs f asv h=none
 | [],f,asv,h,_=>rfl
 | (g,s)::r,f,asv,h,hm=>by
  unfold PT at hm;unfold pH;cases hq:Nat.beq f g with
  | true=>rw[hq]at hm;cases hm
  | false=>rw[hq]at hm;exact z89 hm
def QV:xE->Nat->Option (List PV->Option AV)
 | [],_=>none
 | (g,s)::r,f=>bif Nat.beq f g then some s else QV r f
theorem z9A:∀ {gs:xE} {f:Nat} {s:List PV->Option AV} {asv:List AV} {h:aA},QV gs f=some s->jG gs f asv h=((unp asv).bind s).map λv=>(v,h,[])
 | [],f,s,asv,h,hm=>by cases hm
 | (g,s')::r,f,s,asv,h,hm=>by
  unfold QV at hm;unfold jG;cases hq:Nat.beq f g with
  | true=>rw[hq]at hm;cases hm;rfl
  | false=>rw[hq]at hm;exact z9A hm
theorem z1r {gs:List (Nat × Sh)}{ps:xE}{f:Nat}{s:List PV->Option AV}{asv:List AV}{vs:List PV}{v:AV}{h:aA}(hg:PT gs f=none)(hm:QV ps f=some s)(hu:unp asv=some vs)(hv:s vs=some v):KE gs ps f asv h=some (v,h,[]):=by
 unfold KE;rw[z89 hg,z9A hm,hu];simp [hv]
def glOf:List (Nat × PV)->Nat->Option PV
 | [],_=>none
 | (g,v)::r,n=>bif Nat.beq n g then some v else glOf r n
theorem ztk {f:Nat}(h:(match P.funcs[f]? with | some fn=>fn.body.isSome&&fn.name != "runtime.NumGoroutine" | none=>false)=true)(us:Array Value)(w:World):(callFunc f us).run P w = .ok (.enter f us) w:=by
 cases hf:P.funcs[f]? with
 | none=>rw[hf]at h;cases h
 | some fn=>
  rw[hf]at h;simp only[Bool.and_eq_true,bne_iff_ne,ne_eq]at h;cases hb:fn.body with
  | none=>rw[hb]at h;cases h.1
  | some c=>exact z0P hf hb h.2 us w
theorem ztn {M:Mem}:vE (glOf []) M:=λn v hv=>by cases hv
def digC (n:Nat):UInt8:=UInt8.ofNat (48+n)
def decN (n:Nat):List UInt8:=if n<10 then [digC n] else decN (n / 10)++[digC (n%10)]
termination_by n
decreasing_by omega
def itoa (n:Int):List UInt8:=if n<0 then 45::decN n.natAbs else decN n.natAbs
def z8J:List PV->Option AV
 | [.int .i64 n]=>bif decide (-9223372036854775808<=n)&&decide (n<=9223372036854775807) then some (.p (.str (itoa n))) else none
 | _=>none
def digN:Nat->List UInt8->Option Nat
 | acc,[]=>some acc
 | acc,c::r=>if 48<=c.toNat/\c.toNat<=57 then digN (acc*10+(c.toNat-48)) r else none
def z5c:List PV->Option AV
 | [.str s]=>if 1<=s.length/\s.length<=18 then match digN 0 s with
  | some n=>some (.tup [.p (.int .i64 (n:Int)),.nili])
  | none=>if s.head?=some 45/\2<=s.length then(digN 0 s.tail).map λ(n:Nat)=>.tup [.p (.int .i64 (-(n:Int))),.nili] else none
  else none
 | _=>none
def KI (s:List UInt8):Nat->List UInt8
 | 0=>[]
 | c+1=>s++KI s c
def MI:List PV->Option AV
 | [.str s,.int .i64 c]=>if 0<=c/\s.length*c.toNat<=1000000/\c<=1000000 then some (.p (.str (KI s c.toNat))) else none
 | _=>none
def EQ (s cs:List UInt8):List UInt8:=(s.reverse.dropWhile (cs.contains ·)).reverse.dropWhile (cs.contains ·)
def trimS:List PV->Option AV
 | [.str s,.str cs]=>if s.length<=1000000/\cs.length<=1000/\cs.all (λb=>decide (b.toNat<128))=true then some (.p (.str (EQ s cs))) else none
 | _=>none
def ctzF:Nat->Nat->Nat
 | 0,_=>0
 | f+1,x=>if x%2=1 then 0 else 1+ctzF f (x / 2)
def ctzN (x:Nat):Nat:=if x=0 then 64 else ctzF 64 x
def ctzS:List PV->Option AV
 | [.int .u64 n]=>if 0<=n/\n<18446744073709551616 then some (.p (.int .i64 (ctzN n.toNat:Nat))) else none
 | _=>none
def z5R:List PV->Option AV
 | [.str s,.str [c]]=>some (.p (.int .i64 (s.count c)))
 | _=>none
def zaY:List PV->Option (List (List UInt8))
 | []=>some []
 | .str s::r=>(zaY r).map (s :: ·)
 | _=>none
def z8K:List PV->Option AV
 | [.sl none xs,.str sep]=>(zaY xs).bind λl=>if l.length<=1000000/\(sep.intercalate l).length<=1000000000 then some (.p (.str (sep.intercalate l))) else none
 | _=>none
def HJ:PV->Bool
 | .agg [.int .i64 _,.int .i64 _,.int .i64 _,.str _,.str _,.str _]=>true
 | _=>false
def uR:PV->Int
 | .agg (.int _ k::_)=>k
 | _=>0
def KP:PV:=.agg [.int .i64 0,.int .i64 1,.int .i64 0,.str [],.str [],.str []]
def BI (l:List PV)(k:Int):PV:=(l.reverse.find? λc=>uR c==k).getD KP
def RI:List PV->Option AV
 | [.sl (some 6) xs,.int .i64 i,.int .i64 k]=>if 0<=i/\i<=(xs.length:Int)/\xs.length<=1000000/\xs.all HJ=true then some (.p (BI (xs.take i.toNat) k)) else none
 | _=>none
end
section
variable {P:Program} {gl:Nat->Option PV}
def FQ:List PV->Option AV
 | []=>some (AB true)
 | _=>none
theorem RPV.mono' {M M':Mem}(hM:∀ b o v,M.c b o=some v->M'.c b o=some v){v:PV}{x:Value}(H:RPV M v x):RPV M' v x:=by
 induction H with
 | int k n=>exact .int k n
 | bool b=>exact .bool b
 | str s=>exact .str s
 | nilp=>exact .nilp
 | unk k n=>exact .unk k n
 | nils sh a cap=>exact .nils sh a cap
 | sl sh xs b o cap f hne hc he hm hr ih=>exact .sl sh xs b o cap f hne hc he (λj y hy=>hM _ _ _ (hm j y hy)) ih
 | agg cs vs hl hr ih=>exact .agg cs vs hl ih
theorem vE.mono' {M M':Mem}(hc:∀ b o v,M.c b o=some v->M'.c b o=some v)(hb:∀ b o,M.b b=some o->M'.b b=some o)(H:vE gl M):vE gl M':=λn v hv=>by
 obtain⟨h1,cs,t,x,h2,h3⟩:=H n v hv;refine⟨?_,cs,t,x,hb _ _ h2,h3⟩;cases h1 with|vp _ _ _ f hm hr=>exact .vp v n 0 f (λj y hy=>hc _ _ _ (hm j y hy)) (λj y hy=>(hr j y hy).mono' hc)
theorem zto {X:Ctx}(HX:Fits P X){f:Nat}(H:bA X f [] [] λv h x=>v=AB true/\h=[]/\x=[])(he:∀ us w,(callFunc f us).run P w = .ok (.enter f us) w):PureRow P X.gl f FQ:=by
 refine⟨he,λM w vs r us hc hb hG hl hr hs=>?_⟩
 cases vs with
 | cons a l=>cases hs
 | nil=>
  have hu:us=[]:=List.length_eq_zero_iff.1 (by simpa using hl.symm)
  subst hu;simp only[FQ,Option.some.injEq]at hs;subst hs;have hno:∀b o,¬PG ([]:aA) ([]:Mu) b o:=λb o ⟨id,n,h1,_⟩=>by simp at h1
  have hnt:∀b,¬zK ([]:Mu) b:=λb ⟨id,n,h1⟩=>by simp at h1
  have hG':vE X.gl (imm [] [] w):=hG.mono' (λb o v h=>nE.2 ⟨hno b o,hc b o v h⟩) (λb o h=>yI.2 ⟨hnt b,hb b o h⟩)
  have hR:HeapRel [] [] w:=⟨rfl,λid o m h1=>by simp at h1,λi j b n n' h1=>by simp at h1,λi b n h1=>by simp at h1⟩
  rcases z5z HX H [] w [] hR hG' rfl (λj y v h1=>by simp at h1) with⟨_,q⟩|⟨r,w',v,h',x,μ',q,_⟩
  ·refine q.mono λe w' h=>?_
   cases e with
   | panicked _=>exact h.elim
   | outgrown=>exact h.elim
   | returned r=>
    obtain⟨v,h',x,μ',⟨rfl,rfl,rfl⟩,h1,h2,h3,h4⟩:=h;have hm:μ'=[]:=List.length_eq_zero_iff.1 (by simpa using h2.len)
    subst hm;have hbl:∀b o,w.heap[b]?=some o->w'.heap[b]?=some o:=λb o h=>(yI.1 (h3.le.b b o (yI.2 ⟨hnt b,h⟩))).2
    refine⟨r,rfl,⟨?_,λb hb=>?_,?_⟩,?_⟩
    ·rcases Nat.lt_or_ge w'.heap.size w.heap.size with q|q
     ·have:=hbl w'.heap.size _ (Array.getElem?_eq_getElem q)
      simp at this
     ·exact q
    ·rw[hbl b _ (Array.getElem?_eq_getElem hb),Array.getElem?_eq_getElem hb]
    ·have:=h3.le.z
     simpa [imm] using this
    ·have:=h1.p_bool
     rw[this];exact .p _ _ (.bool true)
  ·rw[he]at q
   cases q
end
def fns:List (Nat × AFun):=[(GT,jX),(nI,oX),(MO,pX),(fH,uX),(yP,yY),(nL,CX),(aP,VX),(pI,vX),(aF,rX),(HE,wX),(lE,qX),(zP,zY),(mI,lX),(BP,CY),(yJ,kX),(cP,XX),(bP,WX),(ZO,UX),(AC,tX),(LO,nX),(BL,FY),(CP,EY),(SO,OX),(bG,SQ),(WO,RX),(PO,EX),(oL,DX),(RO,LX),(pL,FX),(CF,RQ),(bF,VQ),(BG,cY),(BJ,bY),(gH,BX),(DP,GY),(zJ,mX),(AJ,YX),(xL,AY),(AP,BY),(rI,TQ),(EP,HY),(sI,bR),(EJ,YQ),(AF,xX),(oI,sX),(kI,KQ),(qI,kY),(oP,mY),(jP,gY),(YO,TX),(sL,NX),(qL,GX),(rL,MX),(AG,KX),(kC,MQ),(zL,UQ),(EL,dR),(eP,dY),(QO,JX),(VD,LQ),(yL,DY),(lH,XQ),(cG,ZQ),(kH,WQ),(pP,nY),(nP,lY),(GE,JQ),(mP,jY),(xJ,iX),(tL,aY),(fP,eY),(XO,SX),(jH,NQ),(OO,AX),(WD,yX),(DL,cR),(CL,aR),(vL,PQ),(qP,oY),(vP,vY),(rP,pY),(UO,QX),(TO,PX),(lP,iY),(BF,bJ),(iP,fY),(dP,ZX),(uL,OQ),(NO,zX),(CJ,QQ),(CG,AK),(wP,wY),(sP,qY),(DJ,tY),(tP,rY),(wL,sY),(KO,gX),(uP,uY),(xP,xY)]
def GRL:List (Nat × Sh):=[]
def PRL:xE:=[(iH,RI),(DA,MI),(kP,trimS),(mL,FQ)]
def GLL:List (Nat × PV):=[]
def HP:List (Nat × AFun)->Nat->Option AFun
 | [],_=>none
 | (k,F)::r,n=>bif Nat.beq k n then some F else HP r n
def X:Ctx:=⟨HP fns,glOf GLL,lL jI ET,KE GRL PRL⟩
theorem z1h {p:Nat->AFun->Bool}:∀(l:List (Nat×AFun)),(l.all λy=>p y.1 y.2)=true->∀n F,HP l n=some F->p n F=true
 | [],_,n,F,h=>by cases h
 | (k,G)::r,ha,n,F,h=>by
  simp only[List.all_cons,Bool.and_eq_true]at ha;simp only[HP]at h;cases hk:Nat.beq k n with
  | true=>
   rw[hk]at h;have:=Nat.eq_of_beq_eq_true hk;simp only[cond_true,Option.some.injEq]at h;subst this;subst h;exact ha.1
  | false=>
   rw[hk]at h;exact z1h r ha.2 n F h
def fns0:List (Nat × AFun):=[(mL,zcH),(z7r,zcG),(bG,SQ),(z7G,zdd),(CF,RQ),(bF,VQ),(z7e,zc3),(z7m,zcB),(z74,zcT),(z6Q,zcn),(z7s,zcI),(rI,TQ),(sI,bR),(EJ,YQ),(kI,KQ),(kC,MQ),(zL,UQ),(EL,dR),(z7d,zc2),(z7p,zcE),(z7o,zcD),(z0Z,zci),(z79,zcW),(VD,LQ),(z7B,zcY),(z7E,zdb),(z6O,zcl),(z6X,zcv),(FT,zcw),(lH,XQ),(cG,ZQ),(kH,WQ),(GE,JQ),(jH,NQ),(DL,cR),(CL,aR),(z7f,zc4),(z7h,zc6),(z7k,zc9),(z7j,zc8),(z7i,zc7),(z7v,zcM),(z7q,zcF),(z7n,zcC),(z6N,zcj),(z73,zcS),(z71,zcR),(z7C,zcZ),(z77,zcU),(z7A,zcX),(z6P,zcm),(z6S,zcp),(z7u,zcK),(vL,PQ),(BF,bJ),(uL,OQ),(z7c,zc1),(z7b,zc0),(z7y,zcP),(z7w,zcN),(z78,zcV),(z7D,zda),(z1a,zck),(z6T,zcq),(z6W,zcu),(z6Y,zcx),(CJ,QQ),(CG,AK),(z7g,zc5),(z7z,zcQ),(z7F,zdc),(z6R,zco),(JO,zct),(z1b,zcL),(z6Z,zcy),(z7l,zcA),(z7x,zcO),(z6U,zcr),(z7a,zcz),(z7t,zcJ),(z6V,zcs)]
def PRL0:xE:=[(iH,RI),(DA,MI),(kP,trimS)]
def X0:Ctx:=⟨HP fns0,glOf GLL,lL jI ET,KE GRL PRL0⟩
theorem zrA:X0.fn CG=some AK:=by kernel_rfl
theorem zr9:X0.fn BF=some bJ:=by kernel_rfl
theorem z4K:X.NoNext:=λf F h=>z1h (p:=λ_ F=>F.isDet||F.body.noNext) fns (by kernel_rfl) f F h
theorem zrH:X.fn GT=some jX:=by kernel_rfl
def zew{u0 v0 h h1 P}(hp:nA h [u0]=some ([v0],h1)):=BY_ zrH rfl hp rfl (HR (bA X) X.gl [(0,v0)] h1 [] (oA [.t 2] false h.length P))
theorem zrM:X.fn nI=some oX:=by kernel_rfl
def ze0{u0 v0 h h1 P}(hp:nA h [u0]=some ([v0],h1)):=BY_ zrM rfl hp rfl (KR (bA X) X.gl [(0,v0)] h1 [] (oA [.t 2] false h.length P))
theorem zrN:X.fn MO=some pX:=by kernel_rfl
def ze1{u0 u1 v0 v1 h h1 P}(hp:nA h [u0,u1]=some ([v0,v1],h1)):=BY_ zrN rfl hp rfl (LR (bA X) X.gl [(0,v0),(1,v1)] h1 [] (oA [.t 4] false h.length P))
theorem zrS:X.fn fH=some uX:=by kernel_rfl
def ze5{u0 u1 u2 v0 v1 v2 h h1 P}(hp:nA h [u0,u1,u2]=some ([v0,v1,v2],h1)):=BY_ zrS rfl hp rfl (OR (bA X) X.gl [(0,v0),(1,v1),(2,v2)] h1 [] (oA [.t 6] false h.length P))
theorem zsO:X.fn yP=some yY:=by kernel_rfl
theorem z5x {u0 u1 v0 v1:AV}{h h1:aA}{P:jA}(hp:nA h [u0,u1]=some ([v0,v1],h1)):bA X yP [u0,u1] h P=(fO (bA X) X.gl [(0,v0),(1,v1)] h1 [] (dG [.o 4,.t 5] h.length P)).1:=by rw[z50 zsO rfl hp rfl];exact ziH
theorem zsa:X.fn nL=some CX:=by kernel_rfl
def zeE{u0 v0 h h1 P}(hp:nA h [u0]=some ([v0],h1)):=BY_ zsa rfl hp rfl (TN (bA X) X.gl [(0,v0)] h1 [] (oA [.t 2] false h.length P))
theorem zss:X.fn aP=some VX:=by kernel_rfl
def zeV{u0 u1 v0 v1 h h1 P}(hp:nA h [u0,u1]=some ([v0,v1],h1)):=BY_ zss rfl hp rfl (VN (bA X) X.gl [(0,v0),(1,v1)] h1 [] (oA [.t 4] false h.length P))
theorem zrT:X.fn pI=some vX:=by kernel_rfl
def ze6{u0 u1 v0 v1 h h1 P}(hp:nA h [u0,u1]=some ([v0,v1],h1)):=BY_ zrT rfl hp rfl (PR (bA X) X.gl [(0,v0),(1,v1)] h1 [] (oA [.t 4] false h.length P))
theorem zrP:X.fn aF=some rX:=by kernel_rfl
def ze3{u0 u1 v0 v1 h h1 P}(hp:nA h [u0,u1]=some ([v0,v1],h1)):=BY_ zrP rfl hp rfl (RN (bA X) X.gl [(0,v0),(1,v1)] h1 [] (oA [.t 4] false h.length P))
theorem zrU:X.fn HE=some wX:=by kernel_rfl
def ze7{u0 u1 v0 v1 h h1 P}(hp:nA h [u0,u1]=some ([v0,v1],h1)):=BY_ zrU rfl hp rfl (QR (bA X) X.gl [(0,v0),(1,v1)] h1 [] (oA [.t 4] false h.length P))
theorem zrO:X.fn lE=some qX:=by kernel_rfl
def ze2{u0 u1 v0 v1 h h1 P}(hp:nA h [u0,u1]=some ([v0,v1],h1)):=BY_ zrO rfl hp rfl (MR (bA X) X.gl [(0,v0),(1,v1)] h1 [] (oA [.t 4] false h.length P))
theorem zsP:X.fn zP=some zY:=by kernel_rfl
theorem PY {u0 u1 u2 v0 v1 v2:AV}{h h1:aA}{P:jA}(hp:nA h [u0,u1,u2]=some ([v0,v1,v2],h1)):bA X zP [u0,u1,u2] h P = ∃v h' x,P v h' x/\(RK (bA X) X.gl [(0,v0),(1,v1),(2,v2)] h1 [] (dG [.o 6,.t 7] h.length λv1 h1 x1=>v1=v/\h1=h'/\x1=x)).1:=by rw[zfK zsP rfl hp rfl];exact HO λv h' x=>congrArg (And (P v h' x)) ziI
theorem zrJ:X.fn mI=some lX:=by kernel_rfl
theorem z5v {u0 h P}:bA X mI [u0] h P=(QN (bA X) X.gl [(0,u0)] h [] (oA [] false h.length P)).1:=by rw[SF zrJ rfl rfl];exact zgC
theorem zsS:X.fn BP=some CY:=by kernel_rfl
theorem zf2 {u0 v0:AV}{h h1:aA}{P:jA}(hp:nA h [u0]=some ([v0],h1)):bA X BP [u0] h P=(aT (bA X) X.gl [(0,v0)] h1 [] (dG [.o 2,.t 3] h.length P)).1:=by rw[z50 zsS rfl hp rfl];exact ziL
theorem zrI:X.fn yJ=some kX:=by kernel_rfl
def zex{u0 u1 v0 v1 h h1 P}(hp:nA h [u0,u1]=some ([v0,v1],h1)):=BY_ zrI rfl hp rfl (IR (bA X) X.gl [(0,v0),(1,v1)] h1 [] (oA [.t 4] false h.length P))
theorem zsu:X.fn cP=some XX:=by kernel_rfl
def zeX{u0 u1 v0 v1 h h1 P}(hp:nA h [u0,u1]=some ([v0,v1],h1)):=BY_ zsu rfl hp rfl (sS (bA X) X.gl [(0,v0),(1,v1)] h1 [] (oA [.t 4] false h.length P))
theorem zst:X.fn bP=some WX:=by kernel_rfl
def zeW{u0 u1 v0 v1 h h1 P}(hp:nA h [u0,u1]=some ([v0,v1],h1)):=BY_ zst rfl hp rfl (qS (bA X) X.gl [(0,v0),(1,v1)] h1 [] (oA [.t 4] false h.length P))
theorem zsr:X.fn ZO=some UX:=by kernel_rfl
def zeU{u0 u1 u2 v0 v1 v2 h h1 P}(hp:nA h [u0,u1,u2]=some ([v0,v1,v2],h1)):=BY_ zsr rfl hp rfl (oS (bA X) X.gl [(0,v0),(1,v1),(2,v2)] h1 [] (oA [.t 6] false h.length P))
theorem zrR:X.fn AC=some tX:=by kernel_rfl
def ze4{u0 u1 v0 v1 h h1 P}(hp:nA h [u0,u1]=some ([v0,v1],h1)):=BY_ zrR rfl hp rfl (NR (bA X) X.gl [(0,v0),(1,v1)] h1 [] (oA [.t 4] false h.length P))
theorem zrL:X.fn LO=some nX:=by kernel_rfl
theorem zez {u0 v0:AV}{h h1:aA}{P:jA}(hp:nA h [u0]=some ([v0],h1)):bA X LO [u0] h P=xF (bA X) X.gl gU iU v0 h1 [] (oA [.cell 2 (some 6)] false h.length P):=by rw[CA zrL rfl hp rfl];exact zgF
theorem zsZ:X.fn BL=some FY:=by kernel_rfl
def zf8{u0 u1 v0 v1 h h1 P}(hp:nA h [u0,u1]=some ([v0,v1],h1)):=BY_ zsZ rfl hp rfl (gT (bA X) X.gl [(0,v0),(1,v1)] h1 [] (oA [.t 4] false h.length P))
theorem zsY:X.fn CP=some EY:=by kernel_rfl
def zf7{u0 u1 v0 v1 h h1 P}(hp:nA h [u0,u1]=some ([v0,v1],h1)):=BY_ zsY rfl hp rfl (bT (bA X) X.gl [(0,v0),(1,v1)] h1 [] (oA [.t 4] false h.length P))
theorem zsk:X.fn SO=some OX:=by kernel_rfl
theorem zeN {u0 v0:AV}{h h1:aA}{P:jA}(hp:nA h [u0]=some ([v0],h1)):bA X SO [u0] h P = ∃v h' x,P v h' x/\(fS (bA X) X.gl [(0,v0)] h1 [] (oA [.t 2] true h.length λv1 h1 x1=>v1=v/\h1=h'/\x1=x)).1:=by rw[HN zsk rfl hp rfl];exact HO λv h' x=>congrArg (And (P v h' x)) zhF
theorem zsU:X.fn bG=some SQ:=by kernel_rfl
def zf4{u0 v0 h h1 P}(hp:nA h [u0]=some ([v0],h1)):=BY_ zsU rfl hp rfl (TK (bA X) X.gl [(0,v0)] h1 [] (oA [.t 2] false h.length P))
theorem zsn:X.fn WO=some RX:=by kernel_rfl
theorem zeQ {u0 u1 h P}:bA X WO [u0,u1] h P=(jS (bA X) X.gl [(0,u0),(1,u1)] h [] (oA [.t 4] false h.length P)).1:=by rw[SF zsn rfl rfl];exact zhI
theorem zsc:X.fn PO=some EX:=by kernel_rfl
theorem zeG {u0 v0:AV}{h h1:aA}{P:jA}(hp:nA h [u0]=some ([v0],h1)):bA X PO [u0] h P=UD (bA X) X.gl vU wU v0 h1 [] (oA [.t 2] false h.length P):=by rw[CA zsc rfl hp rfl];exact zht
theorem zsb:X.fn oL=some DX:=by kernel_rfl
def zeF{u0 v0 h h1 P}(hp:nA h [u0]=some ([v0],h1)):=BY_ zsb rfl hp rfl (YR (bA X) X.gl [(0,v0)] h1 [] (oA [.t 2,.t 3,.t 4] false h.length P))
theorem zsh:X.fn RO=some LX:=by kernel_rfl
def zeK{u0 v0 h h1 P}(hp:nA h [u0]=some ([v0],h1)):=BY_ zsh rfl hp rfl (dS (bA X) X.gl [(0,v0)] h1 [] (oA [.t 2] false h.length P))
theorem zsd:X.fn pL=some FX:=by kernel_rfl
def zeH{u0 v0 h h1 P}(hp:nA h [u0]=some ([v0],h1)):=BY_ zsd rfl hp rfl (ZR (bA X) X.gl [(0,v0)] h1 [] (oA [.t 2] false h.length P))
theorem zsN:X.fn CF=some RQ:=by kernel_rfl
theorem OY {u0 h P}:bA X CF [u0] h P=(vJ (bA X) X.gl [(0,u0)] h [] (oA [.t 2] false h.length P)).1:=by rw[SF zsN rfl rfl];exact ziE
theorem zsX:X.fn bF=some VQ:=by kernel_rfl
theorem GN {u0 u1 h P}:bA X bF [u0,u1] h P=(VK (bA X) X.gl [(0,u0),(1,u1)] h [] (oA [.t 4] false h.length P)).1:=by rw[SF zsX rfl rfl];exact ziW
theorem zs0:X.fn BG=some cY:=by kernel_rfl
def zfd{u0 u1 v0 v1 h h1 P}(hp:nA h [u0,u1]=some ([v0,v1],h1)):=BY_ zs0 rfl hp rfl (zS (bA X) X.gl [(0,v0),(1,v1)] h1 [] (oA [.t 4,.t 5] false h.length P))
theorem zsz:X.fn BJ=some bY:=by kernel_rfl
def zfc{u0 v0 h h1 P}(hp:nA h [u0]=some ([v0],h1)):=BY_ zsz rfl hp rfl (YN (bA X) X.gl [(0,v0)] h1 [] (oA [.t 2] false h.length P))
theorem zrZ:X.fn gH=some BX:=by kernel_rfl
def zeD{u0 v0 h h1 P}(hp:nA h [u0]=some ([v0],h1)):=BY_ zrZ rfl hp rfl (XR (bA X) X.gl [(0,v0)] h1 [] (oA [.t 2] false h.length P))
theorem ztg:X.fn DP=some GY:=by kernel_rfl
def zfE{u0 v0 h h1 P}(hp:nA h [u0]=some ([v0],h1)):=BY_ ztg rfl hp rfl (jT (bA X) X.gl [(0,v0)] h1 [] (oA [.t 2] false h.length P))
theorem zrK:X.fn zJ=some mX:=by kernel_rfl
def zey{u0 u1 v0 v1 h h1 P}(hp:nA h [u0,u1]=some ([v0,v1],h1)):=BY_ zrK rfl hp rfl (JR (bA X) X.gl [(0,v0),(1,v1)] h1 [] (oA [.t 4] false h.length P))
theorem zsv:X.fn AJ=some YX:=by kernel_rfl
theorem zeY {u0 u1 h P}:bA X AJ [u0,u1] h P=(uS (bA X) X.gl [(0,u0),(1,u1)] h [] (oA [.t 4] false h.length P)).1:=by rw[SF zsv rfl rfl];exact zhS
theorem zsQ:X.fn xL=some AY:=by kernel_rfl
def zf0{u0 u1 v0 v1 h h1 P}(hp:nA h [u0,u1]=some ([v0,v1],h1)):=BY_ zsQ rfl hp rfl (XS (bA X) X.gl [(0,v0),(1,v1)] h1 [] (oA [.t 3] false h.length P))
theorem zsR:X.fn AP=some BY:=by kernel_rfl
def zf1{u0 v0 h h1 P}(hp:nA h [u0]=some ([v0],h1)):=BY_ zsR rfl hp rfl (YS (bA X) X.gl [(0,v0)] h1 [] (oA [.t 2] false h.length P))
theorem zsV:X.fn rI=some TQ:=by kernel_rfl
def zf5{u0 v0 h h1 P}(hp:nA h [u0]=some ([v0],h1)):=BY_ zsV rfl hp rfl (UK (bA X) X.gl [(0,v0)] h1 [] (oA [.t 2] false h.length P))
theorem ztj:X.fn EP=some HY:=by kernel_rfl
def zfH{u0 u1 v0 v1 h h1 P}(hp:nA h [u0,u1]=some ([v0,v1],h1)):=BY_ ztj rfl hp rfl (mT (bA X) X.gl [(0,v0),(1,v1)] h1 [] (oA [.t 4] false h.length P))
theorem ztf:X.fn sI=some bR:=by kernel_rfl
def zfD{u0 u1 v0 v1 h h1 P}(hp:nA h [u0,u1]=some ([v0,v1],h1)):=BY_ ztf rfl hp rfl (YG (bA X) X.gl [(0,v0),(1,v1)] h1 [] (oA [.t 4] false h.length P))
theorem ztc:X.fn EJ=some YQ:=by kernel_rfl
theorem zfA {u0 u1 v0 v1:AV}{h h1:aA}{P:jA}(hp:nA h [u0,u1]=some ([v0,v1],h1)):bA X EJ [u0,u1] h P=YE (bA X) X.gl XJ jQ v0 v1 h1 [] (oA [] false h.length P):=by rw[CA ztc rfl hp rfl];exact zjk
theorem zrV:X.fn AF=some xX:=by kernel_rfl
def ze8{u0 u1 v0 v1 h h1 P}(hp:nA h [u0,u1]=some ([v0,v1],h1)):=BY_ zrV rfl hp rfl (SR (bA X) X.gl [(0,v0),(1,v1)] h1 [] (oA [.t 4] false h.length P))
theorem zrQ:X.fn oI=some sX:=by kernel_rfl
def z5w{u0 u1 u2 v0 v1 v2 h h1 P}(hp:nA h [u0,u1,u2]=some ([v0,v1,v2],h1)):=BY_ zrQ rfl hp rfl (SN (bA X) X.gl [(0,v0),(1,v1),(2,v2)] h1 [] (oA [.t 6] false h.length P))
theorem zrC:X.fn kI=some KQ:=by kernel_rfl
def zes{u0 v0 h h1 P}(hp:nA h [u0]=some ([v0],h1)):=BY_ zrC rfl hp rfl (DR (bA X) X.gl [(0,v0)] h1 [] (oA [.t 2] false h.length P))
theorem zs7:X.fn qI=some kY:=by kernel_rfl
def zfk{u0 v0 h h1 P}(hp:nA h [u0]=some ([v0],h1)):=BY_ zs7 rfl hp rfl (LK (bA X) X.gl [(0,v0)] h1 [] (oA [.t 2] false h.length P))
theorem zsA:X.fn oP=some mY:=by kernel_rfl
def zfn{u0 u1 u2 v0 v1 v2 h h1 P}(hp:nA h [u0,u1,u2]=some ([v0,v1,v2],h1)):=BY_ zsA rfl hp rfl (JS (bA X) X.gl [(0,v0),(1,v1),(2,v2)] h1 [] (oA [.t 6,.t 7] false h.length P))
theorem zs4:X.fn jP=some gY:=by kernel_rfl
def zfh{u0 u1 v0 v1 h h1 P}(hp:nA h [u0,u1]=some ([v0,v1],h1)):=BY_ zs4 rfl hp rfl (DS (bA X) X.gl [(0,v0),(1,v1)] h1 [] (oA [.t 4] false h.length P))
theorem zsp:X.fn YO=some TX:=by kernel_rfl
theorem zeS {u0 u1 h P}:bA X YO [u0,u1] h P=(lS (bA X) X.gl [(0,u0),(1,u1)] h [] (oA [.t 4] false h.length P)).1:=by rw[SF zsp rfl rfl];exact zhK
theorem zsj:X.fn sL=some NX:=by kernel_rfl
def zeM{u0 v0 h h1 P}(hp:nA h [u0]=some ([v0],h1)):=BY_ zsj rfl hp rfl (eS (bA X) X.gl [(0,v0)] h1 [] (oA [.t 2] false h.length P))
theorem zse:X.fn qL=some GX:=by kernel_rfl
def zeI{u0 u1 u2 v0 v1 v2 h h1 P}(hp:nA h [u0,u1,u2]=some ([v0,v1,v2],h1)):=BY_ zse rfl hp rfl (aS (bA X) X.gl [(0,v0),(1,v1),(2,v2)] h1 [] (oA [.t 6] false h.length P))
theorem zsi:X.fn rL=some MX:=by kernel_rfl
def zeL{u0 v0 h h1 P}(hp:nA h [u0]=some ([v0],h1)):=BY_ zsi rfl hp rfl (AE (bA X) X.gl [(0,v0)] h1 [] (oA [.t 2] false h.length P))
theorem zsg:X.fn AG=some KX:=by kernel_rfl
theorem FN {u0 u1 u2 v0 v1 v2:AV}{h h1:aA}{P:jA}(hp:nA h [u0,u1,u2]=some ([v0,v1,v2],h1)):bA X AG [u0,u1,u2] h P=SH (bA X) X.gl AU BU v0 v1 v2 h1 [] (oA [.cell 6 (some 5)] false h.length P):=by rw[CA zsg rfl hp rfl];exact zh6
theorem zrE:X.fn kC=some MQ:=by kernel_rfl
def zeu{u0 u1 u2 v0 v1 v2 h h1 P}(hp:nA h [u0,u1,u2]=some ([v0,v1,v2],h1)):=BY_ zrE rfl hp rfl (ER (bA X) X.gl [(0,v0),(1,v1),(2,v2)] h1 [] (oA [.t 6] false h.length P))
theorem zsW:X.fn zL=some UQ:=by kernel_rfl
def zf6{u0 v0 h h1 P}(hp:nA h [u0]=some ([v0],h1)):=BY_ zsW rfl hp rfl (DE (bA X) X.gl [(0,v0)] h1 [] (oA [.cell 2 (some 6),.t 3] false h.length P))
theorem zti:X.fn EL=some dR:=by kernel_rfl
theorem zfG {h h1:aA}{P:jA}(hp:nA h []=some ([],h1)):bA X EL [] h P=(kT (bA X) X.gl [] h1 [] (oA [.cell 0 (some 36)] false h.length P)).1:=by rw[CA zti rfl hp rfl];exact zju
theorem zs1:X.fn eP=some dY:=by kernel_rfl
def zfe{u0 v0 h h1 P}(hp:nA h [u0]=some ([v0],h1)):=BY_ zs1 rfl hp rfl (ZN (bA X) X.gl [(0,v0)] h1 [] (oA [] false h.length P))
theorem zsf:X.fn QO=some JX:=by kernel_rfl
def zeJ{u0 u1 v0 v1 h h1 P}(hp:nA h [u0,u1]=some ([v0,v1],h1)):=BY_ zsf rfl hp rfl (bS (bA X) X.gl [(0,v0),(1,v1)] h1 [] (oA [.t 4] false h.length P))
theorem zrD:X.fn VD=some LQ:=by kernel_rfl
def zet{u0 v0 h h1 P}(hp:nA h [u0]=some ([v0],h1)):=BY_ zrD rfl hp rfl (RH (bA X) X.gl [(0,v0)] h1 [] (oA [.t 2] false h.length P))
theorem zsT:X.fn yL=some DY:=by kernel_rfl
def zf3{u0 v0 h h1 P}(hp:nA h [u0]=some ([v0],h1)):=BY_ zsT rfl hp rfl (YH (bA X) X.gl [(0,v0)] h1 [] (oA [.t 2] false h.length P))
theorem ztb:X.fn lH=some XQ:=by kernel_rfl
def z5y{u0 u1 v0 v1 h h1 P}(hp:nA h [u0,u1]=some ([v0,v1],h1)):=BY_ ztb rfl hp rfl (sO (bA X) X.gl [(0,v0),(1,v1)] h1 [] (oA [.t 4] false h.length P))
theorem ztd:X.fn cG=some ZQ:=by kernel_rfl
def zfB{u0 u1 v0 v1 h h1 P}(hp:nA h [u0,u1]=some ([v0,v1],h1)):=BY_ ztd rfl hp rfl (iT (bA X) X.gl [(0,v0),(1,v1)] h1 [] (oA [] false h.length P))
theorem zta:X.fn kH=some WQ:=by kernel_rfl
def zf9{u0 u1 u2 u3 v0 v1 v2 v3 h h1 P}(hp:nA h [u0,u1,u2,u3]=some ([v0,v1,v2,v3],h1)):=BY_ zta rfl hp rfl (rO (bA X) X.gl [(0,v0),(1,v1),(2,v2),(3,v3)] h1 [] (oA [] false h.length P))
theorem zsB:X.fn pP=some nY:=by kernel_rfl
def zfo{u0 u1 v0 v1 h h1 P}(hp:nA h [u0,u1]=some ([v0,v1],h1)):=BY_ zsB rfl hp rfl (CE (bA X) X.gl [(0,v0),(1,v1)] h1 [] (oA [.t 4] false h.length P))
theorem zs8:X.fn nP=some lY:=by kernel_rfl
def zfl{u0 v0 h h1 P}(hp:nA h [u0]=some ([v0],h1)):=BY_ zs8 rfl hp rfl (GS (bA X) X.gl [(0,v0)] h1 [] (oA [.t 2,.t 3] false h.length P))
theorem zrB:X.fn GE=some JQ:=by kernel_rfl
def zer{u0 v0 h h1 P}(hp:nA h [u0]=some ([v0],h1)):=BY_ zrB rfl hp rfl (BR (bA X) X.gl [(0,v0)] h1 [] (oA [.t 2] false h.length P))
theorem zs6:X.fn mP=some jY:=by kernel_rfl
def zfj{u0 u1 u2 v0 v1 v2 h h1 P}(hp:nA h [u0,u1,u2]=some ([v0,v1,v2],h1)):=BY_ zs6 rfl hp rfl (ES (bA X) X.gl [(0,v0),(1,v1),(2,v2)] h1 [] (oA [.t 6] false h.length P))
theorem zrG:X.fn xJ=some iX:=by kernel_rfl
def z5u{u0 u1 v0 v1 h h1 P}(hp:nA h [u0,u1]=some ([v0,v1],h1)):=BY_ zrG rfl hp rfl (PN (bA X) X.gl [(0,v0),(1,v1)] h1 [] (oA [.t 4] false h.length P))
theorem zsx:X.fn tL=some aY:=by kernel_rfl
theorem zfa {u0 u1 h P}:bA X tL [u0,u1] h P=(xS (bA X) X.gl [(0,u0),(1,u1)] h [] (oA [.t 4] false h.length P)).1:=by rw[SF zsx rfl rfl];exact zhY
theorem zs2:X.fn fP=some eY:=by kernel_rfl
def zff{u0 u1 v0 v1 h h1 P}(hp:nA h [u0,u1]=some ([v0,v1],h1)):=BY_ zs2 rfl hp rfl (BS (bA X) X.gl [(0,v0),(1,v1)] h1 [] (oA [.t 4] false h.length P))
theorem zso:X.fn XO=some SX:=by kernel_rfl
theorem zeR {u0 u1 h P}:bA X XO [u0,u1] h P=(kS (bA X) X.gl [(0,u0),(1,u1)] h [] (oA [.t 4] false h.length P)).1:=by rw[SF zso rfl rfl];exact zhJ
theorem zsq:X.fn jH=some NQ:=by kernel_rfl
theorem zeT {u0 u1 h P}:bA X jH [u0,u1] h P=(nS (bA X) X.gl [(0,u0),(1,u1)] h [] (oA [.t 4] false h.length P)).1:=by rw[SF zsq rfl rfl];exact zhL
theorem zrY:X.fn OO=some AX:=by kernel_rfl
def zeB{u0 u1 v0 v1 h h1 P}(hp:nA h [u0,u1]=some ([v0,v1],h1)):=BY_ zrY rfl hp rfl (WR (bA X) X.gl [(0,v0),(1,v1)] h1 [] (oA [.t 4] false h.length P))
theorem zrW:X.fn WD=some yX:=by kernel_rfl
def ze9{u0 u1 v0 v1 h h1 P}(hp:nA h [u0,u1]=some ([v0,v1],h1)):=BY_ zrW rfl hp rfl (UR (bA X) X.gl [(0,v0),(1,v1)] h1 [] (oA [.t 4] false h.length P))
theorem zth:X.fn DL=some cR:=by kernel_rfl
def zfF{u0 v0 h h1 P}(hp:nA h [u0]=some ([v0],h1)):=BY_ zth rfl hp rfl (ZH (bA X) X.gl [(0,v0)] h1 [] (oA [.t 2] false h.length P))
theorem zte:X.fn CL=some aR:=by kernel_rfl
def zfC{u0 v0 h h1 P}(hp:nA h [u0]=some ([v0],h1)):=BY_ zte rfl hp rfl (EE (bA X) X.gl [(0,v0)] h1 [] (oA [.t 2] false h.length P))
theorem zs9:X.fn vL=some PQ:=by kernel_rfl
def zfm{u0 u1 v0 v1 h h1 P}(hp:nA h [u0,u1]=some ([v0,v1],h1)):=BY_ zs9 rfl hp rfl (IS (bA X) X.gl [(0,v0),(1,v1)] h1 [] (oA [.t 4,.t 5] false h.length P))
theorem zsC:X.fn qP=some oY:=by kernel_rfl
def zfp{u0 u1 v0 v1 h h1 P}(hp:nA h [u0,u1]=some ([v0,v1],h1)):=BY_ zsC rfl hp rfl (KS (bA X) X.gl [(0,v0),(1,v1)] h1 [] (oA [.t 3] false h.length P))
theorem zsK:X.fn vP=some vY:=by kernel_rfl
def zfx{u0 v0 h h1 P}(hp:nA h [u0]=some ([v0],h1)):=BY_ zsK rfl hp rfl (RS (bA X) X.gl [(0,v0)] h1 [] (oA [.t 2] false h.length P))
theorem zsD:X.fn rP=some pY:=by kernel_rfl
def zfq{u0 v0 h h1 P}(hp:nA h [u0]=some ([v0],h1)):=BY_ zsD rfl hp rfl (LS (bA X) X.gl [(0,v0)] h1 [] (oA [.t 2] false h.length P))
theorem zsm:X.fn UO=some QX:=by kernel_rfl
theorem zeP {u0 v0:AV}{h h1:aA}{P:jA}(hp:nA h [u0]=some ([v0],h1)):bA X UO [u0] h P = ∃v h' x,P v h' x/\(iS (bA X) X.gl [(0,v0)] h1 [] (oA [.t 2] false h.length λv1 h1 x1=>v1=v/\h1=h'/\x1=x)).1:=by rw[HN zsm rfl hp rfl];exact HO λv h' x=>congrArg (And (P v h' x)) zhH
theorem zsl:X.fn TO=some PX:=by kernel_rfl
theorem zeO {u0 v0:AV}{h h1:aA}{P:jA}(hp:nA h [u0]=some ([v0],h1)):bA X TO [u0] h P = ∃v h' x,P v h' x/\(gS (bA X) X.gl [(0,v0)] h1 [] (oA [.t 2] false h.length λv1 h1 x1=>v1=v/\h1=h'/\x1=x)).1:=by rw[HN zsl rfl hp rfl];exact HO λv h' x=>congrArg (And (P v h' x)) zhG
theorem zs5:X.fn lP=some iY:=by kernel_rfl
def zfi{u0 u1 u2 v0 v1 v2 h h1 P}(hp:nA h [u0,u1,u2]=some ([v0,v1,v2],h1)):=BY_ zs5 rfl hp rfl (XE (bA X) X.gl [(0,v0),(1,v1),(2,v2)] h1 [] (oA [.t 6] false h.length P))
theorem zbw:X.fn BF=some bJ:=by kernel_rfl
theorem c_q0dc {u0 u1 v0 v1:AV}{h h1:aA}{P:jA}(hp:nA h [u0,u1]=some ([v0,v1],h1)):bA X BF [u0,u1] h P=PS (bA X) X.gl v0 v1 h1 [] (oA [.t 4] false h.length P):=by rw[CA zbw rfl hp rfl];exact z6t
theorem zs3:X.fn iP=some fY:=by kernel_rfl
def zfg{u0 u1 v0 v1 h h1 P}(hp:nA h [u0,u1]=some ([v0,v1],h1)):=BY_ zs3 rfl hp rfl (CS (bA X) X.gl [(0,v0),(1,v1)] h1 [] (oA [.t 4] false h.length P))
theorem zsw:X.fn dP=some ZX:=by kernel_rfl
theorem zeZ {u0 u1 h P}:bA X dP [u0,u1] h P=(vS (bA X) X.gl [(0,u0),(1,u1)] h [] (oA [.t 4] false h.length P)).1:=by rw[SF zsw rfl rfl];exact zhV
theorem zsy:X.fn uL=some OQ:=by kernel_rfl
theorem zfb {u0 u1 h P}:bA X uL [u0,u1] h P=(yS (bA X) X.gl [(0,u0),(1,u1)] h [] (oA [.t 4] false h.length P)).1:=by rw[SF zsy rfl rfl];exact zib
theorem zrX:X.fn NO=some zX:=by kernel_rfl
def zeA{u0 u1 v0 v1 h h1 P}(hp:nA h [u0,u1]=some ([v0,v1],h1)):=BY_ zrX rfl hp rfl (VR (bA X) X.gl [(0,v0),(1,v1)] h1 [] (oA [.t 4] false h.length P))
theorem zsF:X.fn CJ=some QQ:=by kernel_rfl
def zfs{u0 v0 h h1 P}(hp:nA h [u0]=some ([v0],h1)):=BY_ zsF rfl hp rfl (OS (bA X) X.gl [(0,v0)] h1 [] (oA [.t 2] false h.length P))
theorem zbx:X.fn CG=some AK:=by kernel_rfl
theorem c_q0dd {u0 u1 v0 v1:AV}{h h1:aA}{P:jA}(hp:nA h [u0,u1]=some ([v0,v1],h1)):bA X CG [u0,u1] h P = ∃v h' x,P v h' x/\dO (bA X) X.gl yM WU v0 v1 h1 [] (oA [.t 4] false h.length λv1 h1 x1=>v1=v/\h1=h'/\x1=x):=by rw[HN zbx rfl hp rfl];exact HO λv h' x=>congrArg (And (P v h' x)) z6u
theorem zsL:X.fn wP=some wY:=by kernel_rfl
def zfy{u0 u1 v0 v1 h h1 P}(hp:nA h [u0,u1]=some ([v0,v1],h1)):=BY_ zsL rfl hp rfl (TS (bA X) X.gl [(0,v0),(1,v1)] h1 [] (oA [.t 3] false h.length P))
theorem zsE:X.fn sP=some qY:=by kernel_rfl
def zfr{u0 u1 v0 v1 h h1 P}(hp:nA h [u0,u1]=some ([v0,v1],h1)):=BY_ zsE rfl hp rfl (NS (bA X) X.gl [(0,v0),(1,v1)] h1 [] (oA [.t 3] false h.length P))
theorem zsI:X.fn DJ=some tY:=by kernel_rfl
def zfv{u0 u1 v0 v1 h h1 P}(hp:nA h [u0,u1]=some ([v0,v1],h1)):=BY_ zsI rfl hp rfl (XG (bA X) X.gl [(0,v0),(1,v1)] h1 [] (oA [.cell 4 (some 2),.t 5] false h.length P))
theorem zsG:X.fn tP=some rY:=by kernel_rfl
def zft{u0 v0 h h1 P}(hp:nA h [u0]=some ([v0],h1)):=BY_ zsG rfl hp rfl (PK (bA X) X.gl [(0,v0)] h1 [] (oA [.t 2] false h.length P))
theorem zsH:X.fn wL=some sY:=by kernel_rfl
def zfu{u0 v0 h h1 P}(hp:nA h [u0]=some ([v0],h1)):=BY_ zsH rfl hp rfl (QK (bA X) X.gl [(0,v0)] h1 [] (oA [.cell 2 (some 2)] false h.length P))
theorem zrF:X.fn KO=some gX:=by kernel_rfl
def zev{u0 u1 v0 v1 h h1 P}(hp:nA h [u0,u1]=some ([v0,v1],h1)):=BY_ zrF rfl hp rfl (GR (bA X) X.gl [(0,v0),(1,v1)] h1 [] (oA [.t 4] false h.length P))
theorem zsJ:X.fn uP=some uY:=by kernel_rfl
def zfw{u0 u1 v0 v1 h h1 P}(hp:nA h [u0,u1]=some ([v0,v1],h1)):=BY_ zsJ rfl hp rfl (QS (bA X) X.gl [(0,v0),(1,v1)] h1 [] (oA [.t 3] false h.length P))
theorem zsM:X.fn xP=some xY:=by kernel_rfl
def zfz{u0 u1 v0 v1 h h1 P}(hp:nA h [u0,u1]=some ([v0,v1],h1)):=BY_ zsM rfl hp rfl (US (bA X) X.gl [(0,v0),(1,v1)] h1 [] (oA [.cell 4 (some 2)] false h.length P))
attribute [go_sem] cH zG aG qT rT zkK WF yF WE JK rJ zgM zgN zgO zgP zkL zkM rZ sZ tZ uZ z0H z0I z6w zlr iO jO VS zho zhp zkS IZ JZ zhO zhP zkY UZ VZ zgW zgX
attribute [go_sem] zkN vZ xZ z0J xT YK ZK aL gI z0K z6x z0L zls zlt lO SK VH WH XH yG mO WS nO pT zkJ IK ziM ziN ziO zlv z0p z0q z0r z0A z6q zla XN tS z09 z6p
attribute [go_sem] zkZ WN rS z08 z6o zkX UN pS zgG zgH zgI zgJ z5T qZ z5U VF z0N z0O yT z6z zlx pO qO WK fT zhu zhv zhw zhx sJ XF FD KK zhr zhs zkT KZ LZ zhB zhC
attribute [go_sem] zkW SZ TZ zhz zh0 zh1 zkU MZ NZ OZ ziF ziG zlq z0n z0o ziX ziY zlw z0v z0w zgE pZ zhT zhU zlb WZ XZ z0M z6y zlu oO ZS zjw zjx zl1 z06 z07 zjl zjm zlz
attribute [go_sem] z5X tO zha zhb zkO yZ zZ zg2 zg3 zkH lZ mZ tT z6r zlg MK FS zis vT zit zlj z0f OK z0g zh7 zh8 zh9 TH RZ WG ziV z0u zh4 zh5 zkV PZ QZ zg5 zg6 zkI
attribute [go_sem] nZ oZ ziQ ziR z0s z0t zjd zje zjf zjg zjh zji zjj zly z0x z0y z0z z00 z01 z02 z03 zjo zjp zl0 z04 z05 zO z0D z0E uT z0F zlh zli UH aO bO NK cO zim xO
attribute [go_sem] yO zlf z0e tJ uJ zhZ zia zld z0a z0b zhd zhe zhf zhg zhh zkP zkQ AZ BZ CZ DZ EZ fI z6v zlo xG SS dI z6s zlk vG MS z0B z0C zF BE zhW zhX zlc YZ
attribute [go_sem] ZZ zic zid zle z0c z0d zhj zhk zkR FZ GZ ziz zi0 zi1 zi2 zll zlm z5V z0h z0i z5W zi4 zi5 zln z0j z0k ziC ziD z0G zlp z0l z0m eO
section
abbrev eI (n:Int):PV:=.int .i64 n
abbrev AL (l:List Int):AV:=.p (.sl none (l.map eI))
abbrev uA (L:List Int)(a:Int):Obj:=.box [AL L,AI a]
def KH (x n:Int):Int:=if n<1 then 0 else if x.tmod n<0 then IntKind.i64.wrap (x.tmod n+n) else x.tmod n
theorem zah (x n:Int)(h:aA)(K:jA):bA X zJ [AI x,AI n] h K=K (AI (KH x n)) h []:=by
 refine sA ?_;rw[zey rfl];simp only[JR,go_sem];unfold KH;by_cases h1:n<1
 ·simp only[h1,if_true]
 ·simp only[h1,if_false,show ¬n=0 by omega]
  split <;> rfl
theorem zdL (x n:Int)(h1:1<=n)(h2:n<=4611686018427387904):0<=KH x n/\KH x n<n:=by
 unfold KH;rw[if_neg (by omega)]
 have:=Int.tmod_lt_of_pos x (show 0<n by omega)
 have h3 : -n<x.tmod n:=by
  have:=Int.lt_tmod_of_pos x (show 0<n by omega)
  exact this
 split
 ·rw[BA _ (by omega) (by omega)];omega
 ·omega
def CB (L:List Int)(a n:Int):Int:=
 if L.length=0 then KH (IntKind.i64.wrap ((a+1)*7919)) n
 else KH (IntKind.i64.wrap (KH (L.getD (a.tmod L.length).toNat 0) 1073741824+IntKind.i64.wrap (IntKind.i64.wrap (a.tdiv L.length)*IntKind.i64.wrap (7919+a.tmod L.length)))) n
theorem MJ (L:List Int)(a n:Int)(h1:1<=n)(h2:n<=4611686018427387904):0<=CB L a n/\CB L a n<n:=by
 unfold CB;split <;> exact zdL _ _ h1 h2
theorem zQ {h:aA}{id:Nat}{o':Obj}(hid:id<h.length):(h.set id o')[id]?=some o':=by simp [hid]
theorem oH {h:aA}{id:Nat}{o:Obj}(hh:h[id]?=some o):id<h.length:=(List.getElem?_eq_some_iff.1 hh).1
def jB (n:Nat)(a:Int):Prop:=0<=a/\a+n<4611686018427387904
theorem WC {n m:Nat}{a b:Int}(H:jB m a)(h:a<=b)(hn:b+n<=a+m):jB n b:=by unfold jB at *;omega
theorem PM {a:Int}(H:jB 14 a):jB 0 (a)/\jB 0 (a+1)/\jB 0 (a+1+1)/\jB 0 (a+1+1+1)/\jB 0 (a+1+1+1+1)/\jB 0 (a+1+1+1+1+1)/\jB 0 (a+1+1+1+1+1+1)/\jB 0 (a+1+1+1+1+1+1+1)/\jB 0 (a+1+1+1+1+1+1+1+1)/\jB 0 (a+1+1+1+1+1+1+1+1+1)/\jB 0 (a+1+1+1+1+1+1+1+1+1+1)/\jB 0 (a+1+1+1+1+1+1+1+1+1+1+1)/\jB 0 (a+1+1+1+1+1+1+1+1+1+1+1+1)/\jB 0 (a+1+1+1+1+1+1+1+1+1+1+1+1+1)/\jB 0 (a+1+1+1+1+1+1+1+1+1+1+1+1+1+1):=by
 unfold jB at *;omega
def Gen (f:Nat)(args:List AV)(L:List Int)(a a2:Int)(v:AV):Prop:=∀(h:aA) (id:Nat) (K:jA),h[id]?=some (uA L a)->bA X f (.ref id 0::args) h K=K v (h.set id (uA L a2)) []
section
variable {f:Nat} {args:List AV} {L:List Int} {a a2:Int} {v:AV} {h l:aA} {id:Nat} {K:jA}
theorem Gen.set (g:Gen f args L a a2 v)(hid:id<h.length):bA X f (.ref id 0::args) (h.set id (uA L a)) K=K v (h.set id (uA L a2)) []:=by
 rw[g _ _ _ (zQ hid),List.set_set]
theorem Gen.app (g:Gen f args L a a2 v)(hid:id<h.length):bA X f (.ref id 0::args) (h.set id (uA L a)++l) K=K v (h.set id (uA L a2)++l) []:=by
 rw[g _ _ _ (by rw[z86 (by simpa using hid)];exact zQ hid),zaJ (by simpa using hid),List.set_set]
theorem Gen.of (H:∀ (h:aA) (id:Nat),id<h.length->bA X f (.ref id 0::args) (h.set id (uA L a)) λv1 h1 x1=>v1=v/\h1=h.set id (uA L a2)/\x1=[]):Gen f args L a a2 v:=by
 intro h id K hh;have hid:=oH hh
 have:h.set id (uA L a)=h:=by
  apply List.ext_getElem?
  intro i;rw[List.getElem?_set];split
  ·rename_i e;subst e;rw[hh]
  ·rfl
 have k:=H h id hid
 rw[this]at k;exact sA k
end
def oD (f:Nat)(args:List AV)(L:List Int)(a:Int)(Q:AV->Int->Prop):Prop:=∀(h:aA) (id:Nat),h[id]?=some (uA L a)->∃v a2,Q v a2/\∀K:jA,bA X f (.ref id 0::args) h K=K v (h.set id (uA L a2)) []
section
variable {f:Nat} {args:List AV} {L:List Int} {a:Int} {Q:AV->Int->Prop}
theorem oD.set (g:oD f args L a Q){h:aA}{id:Nat}(hid:id<h.length):∃v a2,Q v a2/\∀K:jA,bA X f (.ref id 0::args) (h.set id (uA L a)) K=K v (h.set id (uA L a2)) []:=by
 obtain⟨v,a2,q,r⟩:=g _ _ (zQ hid);exact⟨v,a2,q,λK=>by rw[r,List.set_set]⟩
theorem oD.app (g:oD f args L a Q){h l:aA}{id:Nat}(hid:id<h.length):∃v a2,Q v a2/\∀K:jA,bA X f (.ref id 0::args) (h.set id (uA L a)++l) K=K v (h.set id (uA L a2)++l) []:=by
 obtain⟨v,a2,q,r⟩:=g (h.set id (uA L a)++l) id (by rw[z86 (by simpa using hid)];exact zQ hid)
 exact⟨v,a2,q,λK=>by rw[r,zaJ (by simpa using hid),List.set_set]⟩
theorem oD.of (H:∀ (h:aA) (id:Nat),id<h.length->bA X f (.ref id 0::args) (h.set id (uA L a)) λv1 h1 x1=>∃ a2,Q v1 a2/\h1=h.set id (uA L a2)/\x1=[]):oD f args L a Q:=by
 intro h id hh;have hid:=oH hh
 have:h.set id (uA L a)=h:=by
  apply List.ext_getElem?
  intro i;rw[List.getElem?_set];split
  ·rename_i e;subst e;rw[hh]
  ·rfl
 have k:=H h id hid
 rw[this]at k;obtain⟨v,h',x,⟨a2,q,e1,e2⟩,r⟩:=bA.one z4K k;subst e1;subst e2
 exact⟨v,a2,q,r⟩
end
def GC (l:List Int)(L:List Int)(a:Int):Int:=l.getD (CB L a l.length).toNat 0
theorem JV {l L:List Int}{a:Int}(hl:0<l.length)(hl2:l.length<4611686018427387904):GC l L a∈l:=by
 obtain⟨b1,b2⟩:=MJ L a l.length (by omega) (by omega)
 unfold GC;have:(CB L a l.length).toNat<l.length:=by omega
 simp only[List.getD,List.getElem?_eq_getElem this,Option.getD_some];exact List.getElem_mem _
def isI:PV->Bool
 | .int .i64 _=>true
 | _=>false
def unI:PV->Int
 | .int _ n=>n
 | _=>0
theorem zrr {xs:List PV}(h:xs.all isI=true):xs=(xs.map unI).map eI:=by
 induction xs with
 | nil=>rfl
 | cons x r ih=>
  simp only[List.all_cons,Bool.and_eq_true]at h;simp only[List.map_cons];rw[<-ih h.2];cases x with
  | int k n=>cases k <;> first|rfl|cases h.1
  | _=>cases h.1
theorem z8w (L:List Int)(a n:Int)(hp:jB 0 a):Gen aF [AI n] L a (a+1) (AI (CB L a n)):=by
 refine Gen.of λh id hid=>?_
 rw[ze3 rfl];obtain⟨h0,h1⟩:=hp;have w1:IntKind.i64.wrap (a+1)=a+1:=BA _ (by omega) (by omega)
 have w2:IntKind.i64.wrap (a+1-1)=a:=by rw[BA _ (by omega) (by omega)];omega
 have hs:∀o',(h.set id o')[id]?=some o':=λo'=>zQ hid
 rcases Nat.eq_zero_or_pos L.length with hl|hl
 ·simp only[RN,go_sem,hs,zah,hl,w1]
  simp only[CB,hl,if_true]
 ·have e1:((L.length:Int)=0)=False:=by simp only[eq_iff_iff,iff_false];omega
  have e2:0<=a.tmod L.length:=Int.tmod_nonneg _ h0
  have e3:a.tmod L.length<L.length:=Int.tmod_lt_of_pos _ (by omega)
  have e4:=z10 (k:=.i64) e2
  have e5:(L.map eI)[(a.tmod L.length).toNat]?=some (eI (L.getD (a.tmod L.length).toNat 0)):=by
   rw[VB eI (show(a.tmod L.length).toNat<L.length by omega)]
   simp [List.getD,show(a.tmod L.length).toNat<L.length by omega]
  simp only[RN,go_sem,hs,zah,e1,w1,w2,e4,e5];simp only[CB,show ¬L.length=0 by omega,if_false]
section
variable {L:List Int} {a:Int} {h l:aA} {id:Nat} {K:jA}
theorem kN (hid:id<h.length)(hp:jB 0 a)(n:Int):bA X aF [.ref id 0,AI n] (h.set id (uA L a)) K=K (AI (CB L a n)) (h.set id (uA L (a+1))) []:=(z8w L a n hp).set hid
theorem zao (hid:id<h.length)(hp:jB 0 a)(n:Int):bA X aF [.ref id 0,AI n] (h.set id (uA L a)++l) K=K (AI (CB L a n)) (h.set id (uA L (a+1))++l) []:=(z8w L a n hp).app hid
theorem z8v (hp:jB 0 a)(n:Int):Gen lE [AI n] L a (a+1) (AB (decide (CB L a n=0))):=by
 refine Gen.of λh id hid=>?_
 rw[ze2 rfl];simp only[MR,go_sem,kN hid hp]
theorem zal (hid:id<h.length)(hp:jB 0 a)(n:Int):bA X lE [.ref id 0,AI n] (h.set id (uA L a)) K=K (AB (decide (CB L a n=0))) (h.set id (uA L (a+1))) []:=(z8v hp n).set hid
theorem zak (hid:id<h.length)(hp:jB 0 a)(n:Int):bA X lE [.ref id 0,AI n] (h.set id (uA L a)++l) K=K (AB (decide (CB L a n=0))) (h.set id (uA L (a+1))++l) []:=(z8v hp n).app hid
theorem z8y (hp:jB 0 a)(xs:List PV)(hx:xs.all isI=true)(hl:0<xs.length)(hl2:xs.length<4611686018427387904) :
 Gen AC [.p (.sl none xs)] L a (a+1) (AI (GC (xs.map unI) L a)):=by
 refine Gen.of λh id hid=>?_
 rw[ze4 rfl];obtain⟨b1,b2⟩:=MJ L a xs.length (by omega) (by omega)
 have e4:=z10 (k:=.i64) b1
 have e5:xs[(CB L a xs.length).toNat]?=some (eI (GC (xs.map unI) L a)):=by
  have hm:=zrr hx
  generalize hq:xs.map unI=q at *;subst hm;simp only[List.length_map]at *;rw[VB eI (show(CB L a q.length).toNat<q.length by omega)]
  simp [GC,List.getD,show(CB L a q.length).toNat<q.length by omega]
 simp only[NR,go_sem,kN hid hp,e4,e5]
theorem zaq (hid:id<h.length)(hp:jB 0 a){xs:List PV}(hx:xs.all isI=true)(hl:0<xs.length)(hl2:xs.length<4611686018427387904) :
 bA X AC [.ref id 0,.p (.sl none xs)] (h.set id (uA L a)) K=K (AI (GC (xs.map unI) L a)) (h.set id (uA L (a+1))) []:=(z8y hp xs hx hl hl2).set hid
theorem zap (hid:id<h.length)(hp:jB 0 a){xs:List PV}(hx:xs.all isI=true)(hl:0<xs.length)(hl2:xs.length<4611686018427387904) :
 bA X AC [.ref id 0,.p (.sl none xs)] (h.set id (uA L a)++l) K=K (AI (GC (xs.map unI) L a)) (h.set id (uA L (a+1))++l) []:=(z8y hp xs hx hl hl2).app hid
def kG (u v:Int)(L:List Int)(a:Int):Int:=u+CB L a (v-u+1)
theorem SV {u v:Int}(L:List Int)(a:Int)(h1:u<=v)(h2:v<=u+4611686018427387900):u<=kG u v L a/\kG u v L a<=v:=by
 have:=MJ L a (v-u+1) (by omega) (by omega)
 unfold kG;omega
theorem z8z (hp:jB 0 a)(u v:Int)(huv:u<=v)(hu : -1152921504606846976<=u)(hv:v<=1152921504606846976) :
 Gen fH [AI u,AI v] L a (a+1) (AI (kG u v L a)):=by
 refine Gen.of λh id hid=>?_
 rw[ze5 rfl];obtain⟨b1,b2⟩:=SV L a huv (by omega)
 have w1:IntKind.i64.wrap (v-u)=v-u:=BA _ (by omega) (by omega)
 have w2:IntKind.i64.wrap (v-u+1)=v-u+1:=BA _ (by omega) (by omega)
 have w3:IntKind.i64.wrap (u+CB L a (v-u+1))=kG u v L a:=BA (kG u v L a) (by omega) (by omega)
 simp only[OR,go_sem,show ¬v<u by omega,w1,w2,kN hid hp,w3]
theorem zas (hid:id<h.length)(hp:jB 0 a){u v:Int}(huv:u<=v)(hu : -1152921504606846976<=u)(hv:v<=1152921504606846976) :
 bA X fH [.ref id 0,AI u,AI v] (h.set id (uA L a)) K=K (AI (kG u v L a)) (h.set id (uA L (a+1))) []:=(z8z hp u v huv hu hv).set hid
theorem zar (hid:id<h.length)(hp:jB 0 a){u v:Int}(huv:u<=v)(hu : -1152921504606846976<=u)(hv:v<=1152921504606846976) :
 bA X fH [.ref id 0,AI u,AI v] (h.set id (uA L a)++l) K=K (AI (kG u v L a)) (h.set id (uA L (a+1))++l) []:=(z8z hp u v huv hu hv).app hid
end
attribute [go_sem ↓] kN zao zal zak zaq zap zas zar
attribute [go_sem] kN zao zal zak zaq zap zas zar isI unI
end
def low (a b:Int):Int×Int:=(a.tdiv (Int.gcd a b),b.tdiv (Int.gcd a b))
section
variable {h:aA} {K:jA}
theorem BC (n a b:Int):bA X kC [AI n,AI a,AI b] h K=K (AB (decide (n<a)||decide (b<n))) h []:=by
 refine sA ?_;rw[zeu rfl];by_cases h1:n<a <;> simp only[ER,go_sem,h1]
theorem s_in (n a b:Int):bA X qL [AI n,AI a,AI b] h K=K (AB (decide (a<=n)&&decide (n<=b))) h []:=by
 refine sA ?_;rw[zeI rfl];by_cases h1:a<=n <;> simp only[aS,go_sem,h1]
end
section
variable {h:aA} {K:jA}
theorem zqK (l:List Int)(a b:Int)(hv:∀ n∈l,a<=n/\n<=b):(l.length:Int)*a<=l.sum/\l.sum<=(l.length:Int)*b:=by
 induction l with
 | nil=>simp
 | cons x r ih=>
  obtain⟨i1,i2⟩:=ih (λn hn=>hv n (by simp [hn]))
  obtain⟨x1,x2⟩:=hv x (by simp)
  simp only[List.length_cons,List.sum_cons,Int.natCast_add,Int.add_mul];omega
theorem zqL {l:List Int}{B:Int}(hv:∀ n∈l,-B<=n/\n<=B){N:Nat}(hl:l.length<=N)(hB:0<=B) : -(N*B)<=l.sum/\l.sum<=N*B:=by
 obtain⟨h1,h2⟩:=zqK l (-B) B hv;have:(l.length:Int)*B<=N*B:=Int.mul_le_mul_of_nonneg_right (by omega) hB
 rw[Int.mul_neg]at h1;omega
theorem zqM {l:List Int}{B:Int}(hv:∀ n∈l,-B<=n/\n<=B){N:Nat}(hl:l.length<=N)(hB:0<=B)(k:Nat) : -(N*B)<=(l.take k).sum/\(l.take k).sum<=N*B:=
 zqL (λn hn=>hv n (List.mem_of_mem_take hn)) (by simp;omega) hB
def OF (g:Nat)(caps:List AV)(p:PV->Bool)(xs:List PV)(h:aA):Prop:=∀x∈xs,∀K:jA,bA X g (.p x::caps) h K=K (AB (p x)) h []
def XD (p:PV->Bool)(xs:List PV):Int:=if xs.findIdx p<xs.length then(xs.findIdx p:Int) else -1
theorem z1n (p:PV->Bool)(xs:List PV):decide (0<=XD p xs)=xs.any p:=by
 unfold XD;rw[Bool.eq_iff_iff];by_cases h:xs.findIdx p<xs.length
 ·rw[if_pos h];simp only[decide_eq_true_eq,List.any_eq_true]
  exact⟨λ_=>⟨_,List.getElem_mem h,List.findIdx_getElem⟩,λ_=>by omega⟩
 ·rw[if_neg h];simp only[decide_eq_true_eq,List.any_eq_true]
  refine⟨λh=>by omega,λ⟨x,hx,hp⟩=>absurd (List.findIdx_lt_length_of_exists ⟨x,hx,hp⟩) h⟩
end
section
variable {h:aA} {K:jA}
theorem zaN {sh:Sh}{x:PV}(hx:x.shp sh=true):rB sh 0 x=some x:=by
 cases sh with
 | none=>exact zgq hx
 | some n=>
  cases x with
  | agg cs=>
   simp only[PV.shp,Bool.and_eq_true,beq_iff_eq]at hx;simp [rB,hx.1];exact List.take_of_length_le (by omega)
  | _=>cases hx
theorem zqn {sh:Sh}{x y:PV}(hx:x.shp sh=true)(hy:y.shp sh=true)(id i fz:Nat)(xs:List PV)(h1:aA):stE sh id i 0 fz sh xs x h1 (some y)=some (.und,h1.set id (.row sh (xs.set i x) fz),[]):=by
 cases sh with
 | none=>
  cases y with
  | agg cs=>cases hy
  | _=>simp only[PV.shp]at hx;simp [stE,hx]
 | some n=>
  cases y with
  | agg cs=>
   cases x with
   | agg ds=>
    simp only[PV.shp,Bool.and_eq_true,beq_iff_eq]at hx hy;simp [stE,PV.cells,splice,hx.1,hy.1,show cs.drop n=[] from List.drop_of_length_le (by omega)]
   | _=>cases hx
  | _=>cases hy
def KF (sh:Sh)(xs:List PV):Prop:=∀x∈xs,x.shp sh=true
theorem zaO {sh:Sh}{xs:List PV}(hx:KF sh xs){i:Nat}(hi:i<xs.length):xs[i].shp sh=true:=hx _ (List.getElem_mem hi)
theorem zql {h:aA}{id:Nat}{o:Obj}(hh:h[id]?=some o):h.set id o=h:=by
 apply List.ext_getElem?
 intro i;rw[List.getElem?_set];split
 ·rename_i e;subst e;rw[hh];simp [oH hh]
 ·rfl
structure Shows (sh:Sh) (v:AV) (xs:List PV) (h:aA):Prop where
 len:rH v=some (AI xs.length)
 get:∀(k:Nat) (hk:k<xs.length),∃a,VC sh v (AI k) h=some a/\AA sh a h=some (.p xs[k])
theorem SI {sh:Sh}{xs:List PV}(hs:KF sh xs):Shows sh (.p (.sl sh xs)) xs h:=by
 refine⟨rfl,λk hk=>⟨.vp xs[k],?_,?_⟩⟩
 ·simp [VC,sB,hk]
 ·simp only[z8V,zaN (zaO hs hk)];rfl
theorem zqm {sh:Sh}{id off len fz:Nat}{xs:List PV}(hs:KF sh xs)(hh:h[id]?=some (.row sh xs fz))(hl:off+len<=xs.length):Shows sh (.own id xs.length off len) (win xs off len) h:=by
 have hw:(win xs off len).length=len:=by simp [win];omega
 refine⟨by rw[hw];rfl,λk hk=>⟨.rref id xs.length (off+k) 0,?_,?_⟩⟩
 ·rw[hw]at hk
  simp [VC,sB,hh,hl,hk]
 ·have hk':off+k<xs.length:=by rw[hw]at hk;omega
  have e:(win xs off len)[k]=xs[off+k]:=by simp [win]
  rw[e];simp only[z8U,hh,z8P,if_true,List.getElem?_eq_getElem hk',Option.bind_some,zaN (zaO hs hk'),Option.map_some]
theorem zaM {sh:Sh}{id fz:Nat}{xs:List PV}(hs:KF sh xs)(hh:h[id]?=some (.row sh xs fz)):Shows sh (.own id xs.length 0 xs.length) xs h:=by
 have:=zqm hs hh (off:=0) (len:=xs.length) (by omega)
 rwa [zbu]at this
end
end Go.Am
