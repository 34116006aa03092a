/- Texts of the proof, laid together: CodesD, CodesE, AmL, AmC, Ctx, SpStream, MathFrac, SpBase, SpList, PSort, SpShp, SpStr, SpFind, SpLimD, SpLim, SpLotA, SpRecD, PEnt, PSplit, PTxt, PNum, PFlt, PFltR, PWrit, PEntT, SpRec, SpEnt1, SpEnt3. -/
import Derived.KernelRfl
import Derived.Test.YtecgafmljfghcaaGreatDoorlawSS5
set_option linter.all false
section
/- The functions asv abstract code,and asv formulas aF their values: printed by program out of the translation. -/
set_option linter.all false
set_option maxRecDepth 100000
namespace Go.Am
def zhn:ACode:=.pr [1,2,5,20,21,22] (.seq (rg [bN 23 .lss 22 21] [1,2,5,20,21,22,23])
(.seq (.cond 23 .skip
(.exit 0))
(.seq (.block 1 (.seq (rg [iA 24 none 20 22,
lD 25 none 24,
mV 7 25] [1,2,5,7,20,21,22])
(rg [mV 26 5,
mV 27 7,
wO (.mupd (none,[2]) 26 27 (cI 2))] [1,2,5,20,21,22])))
(rg [bN 28 .add 22 (cI 1),
mV 22 28] [1,2,5,20,21,22]))))
def zho:ACode:=.pr [1,2,5,30,31,32] (.seq (rg [bN 33 .lss 32 31] [1,2,5,30,31,32,33])
(.seq (.cond 33 .skip
(.exit 2))
(.seq (.block 3 (.seq (rg [iA 34 (some 2) 30 32,
lD 35 (some 2) 34,
uO 9 (.alloc [.p (.str []),.p (.int .i64 0)]),
wO (.store (some 2) 9 35)] [1,2,5,9,30,31,32])
(rg [mV 36 5,
fA 37 0 none 9,
lD 38 none 37,
fA 39 1 none 9,
lD 40 none 39,
wO (.mupd (none,[2]) 36 38 40)] [1,2,5,30,31,32])))
(rg [bN 41 .add 32 (cI 1),
mV 32 41] [1,2,5,30,31,32]))))
def zhp:ACode:=.pr [1,2,5,10,17,44,50,51,52] (rg [mV 100 5,
mV 101 10,
mV 102 17,
wO (.mupd (none,[2]) 100 101 102),
mV 12 cT] [1,2,5,10,12,44,50,51,52])
def zhq:ACode:=.pr [1,2,5,10,12,44,50,51,52] (rg [bN 103 .add 52 (cI 1),
mV 52 103] [1,2,5,10,12,44,50,51,52])
def zhr:ACode:=.pr [1,2,5,10,12,44,50,51,52] (.seq (rg [bN 53 .lss 52 51] [1,2,5,10,12,44,50,51,52,53])
(.seq (.cond 53 .skip
(.exit 6))
(.seq (.block 7 (.seq (rg [iA 54 (some 2) 50 52,
lD 55 (some 2) 54,
uO 14 (.alloc [.p (.int .i64 0),.p (.int .i64 0)]),
wO (.store (some 2) 14 55)] [1,2,5,10,12,14,44,50,51,52])
(.seq (dr [dF (fA 56 0 none 2) [2],
dF (lD 57 none 56) [56],
dF (fA 58 0 none 14) [14],
dF (lD 59 none 58) [58],
dF (iA 60 (some 2) 57 59) [57,59],
dF (fA 61 1 none 60) [60],
dF (lD 62 none 61) [61],
dF (fA 63 1 none 14) [14],
dF (lD 64 none 63) [63],
dF (iA 65 (some 4) 62 64) [62,64],
dF (lD 66 (some 4) 65) [65],
dF (mV 67 1) [1],
dF (fA 68 0 none 14) [14],
dF (lD 69 none 68) [68],
dF (iA 70 none 67 69) [67,69],
dF (lD 71 none 70) [70],
dA (uO 15 (.alloc [.p (.int .i64 0),.p (.str []),.p (.int .i64 0),.p (.int .i64 0)])) [] true [] [1,3,4,6,8,9,10,13,14,15],
dA (wO (.store (some 4) 15 66)) [15,66] true [] [13,14,15],
dF (mV 16 71) [71]] [1,2,5,10,12,14,15,16,44,50,51,52])
(.seq (.seq (dr [dF (fA 72 2 none 15) [15],
dF (lD 73 none 72) [72],
dF (bN 74 .geq 73 (cI 0)) [73],
dF (mV 75 74) [74],
dF (gD 76 75 true (.mv 16)) [16,75],
dF (gD 77 75 true (.faddr 2 none 15)) [15,75],
dF (gD 78 75 true (.load none 77)) [77,75],
dF (gD 79 75 true (.idxs 76 78)) [76,78,75],
dF (gD 80 75 true (.bin .sub 79 (.c (.p (.int .u8 48))))) [79,75],
dF (gD 81 75 true (.conv (.i .i64) 80)) [80,75],
dF (gD 82 75 true (.faddr 3 none 15)) [15,75],
dF (gD 83 75 true (.load none 82)) [82,75],
dF (gD 84 75 true (.bin .eql 81 83)) [81,83,75],
dF (uO 85 (.pick 75 84 cF)) [75,84]] [1,2,5,10,12,14,16,44,50,51,52,85])
(.cond 85 (.exit 7)
.skip))
(.seq (rg [mV 86 16,
fA 87 1 none 14,
lD 88 none 87,
uO 89 (.idxs 86 88),
bN 90 .sub 89 (.c (.p (.int .u8 48))),
uO 91 (.conv (.i .i64) 90),
mV 17 91] [1,2,5,10,12,17,44,50,51,52])
(.seq (.seq (rg [mV 92 12,
mV 93 92,
gD 94 93 true (.mv 5),
gD 95 93 true (.mv 10),
gD 96 93 true (.look (none,[2]) false (AI 0) 94 95),
gD 97 93 true (.mv 17),
gD 98 93 true (.bin .neq 96 97),
uO 99 (.pick 93 98 cF)] [1,2,5,10,17,44,50,51,52,99])
(.cond 99 (rg [mV 17 (cI 3)] [1,2,5,10,17,44,50,51,52])
.skip))
zhp))))))
zhq)))
def zhs:ACode:=.pr [1,2,5,44] (.seq (rg [uO 45 (.mnext none [44]),
eX 46 45 0] [1,2,5,44,46])
(.seq (.cond 46 .skip
(.exit 4))
(.block 5 (.seq (rg [uO 47 (.mentry 44),
eX 48 47 0,
eX 49 47 1,
mV 10 48,
mV 11 49] [1,2,5,10,11,44])
(.seq (rg [mV 12 cF] [1,2,5,10,11,12,44])
(.seq (rg [mV 50 11,
lN 51 50,
mV 52 (cI 0)] [1,2,5,10,12,44,50,51,52])
(.block 6 (.loop (.scope zhr)))))))))
def zht:ACode:=.pr [5] (.seq (rg [mV 104 5,
mV 4 104] [4])
.ret)
def zhu:ACode:=.pr [1,2,5] (.seq (.seq (rg [lD 42 (some 3) 2,
cL 43 z2m [42,(cI 2)],
uO 44 (.mrange 43)] [1,2,5,44])
(.block 4 (.loop (.scope zhs))))
zht)
def zhv:ACode:=.pr [1,2,5] (.seq (.seq (rg [fA 29 2 none 2,
lD 30 none 29,
lN 31 30,
mV 32 (cI 0)] [1,2,5,30,31,32])
(.block 2 (.loop (.scope zho))))
zhu)
def zhm:ACode:=(.det (.seq (rg [uO 2 (.box 0),
mV 4 (.c (.nilm))] [1,2])
(.seq (rg [uO 18 (.mkmap),
mV 5 18] [1,2,5])
(.seq (.seq (rg [lD 19 (some 3) 2,
cL 20 cQ [19],
lN 21 20,
mV 22 (cI 0)] [1,2,5,20,21,22])
(.block 0 (.loop zhn)))
zhv))))
def z7s:AFun:=⟨2,[.t 4],zhm,false,false⟩
def zhx:ACode:=.pr [3,7,8,9] (.seq (rg [bN 10 .lss 9 8] [3,7,8,9,10])
(.seq (.cond 10 .skip
(.exit 0))
(.seq (.block 1 (.seq (rg [iA 11 (some 3) 7 9,
lD 12 (some 3) 11,
uO 5 (.alloc [.p (.str []),.p (.str []),.p (.str [])]),
wO (.store (some 3) 5 12)] [3,5,7,8,9])
(rg [mV 13 3,
fA 14 0 none 5,
lD 15 none 14,
uO 16 (.bsl false none 1 (.str []) [(0,15)]),
uO 17 (.app none 13 16),
mV 3 17] [3,7,8,9])))
(rg [bN 18 .add 9 (cI 1),
mV 9 18] [3,7,8,9]))))
def zhy:ACode:=.pr [3] (.seq (rg [mV 19 3,
cL 20 z2H [19],
mV 2 20] [2])
.ret)
def zhw:ACode:=(.seq (rg [uO 1 (.box 0),
mV 2 (.c (.p (.sl none [])))] [1])
(.seq (rg [uO 3 (.new0 none)] [1,3])
(.seq (.seq (rg [fA 6 1 none 1,
lD 7 none 6,
lN 8 7,
mV 9 (cI 0)] [3,7,8,9])
(.block 0 (.loop (.scope zhx))))
zhy)))
def z7t:AFun:=⟨1,[.t 2],zhw,false,true⟩
def zh0:ACode:=.pr [3,8,9,10] (.seq (rg [bN 11 .lss 10 9] [3,8,9,10,11])
(.seq (.cond 11 .skip
(.exit 0))
(.seq (.block 1 (.seq (rg [iA 12 (some 3) 8 10,
lD 13 (some 3) 12,
uO 5 (.alloc [.p (.str []),.p (.str []),.p (.str [])]),
wO (.store (some 3) 5 13)] [3,5,8,9,10])
(rg [mV 14 3,
fA 15 1 none 5,
lD 16 none 15,
fA 17 2 none 5,
lD 18 none 17,
uO 19 (.build [.p (.str []),.p (.str [])] [(0,1,16),(1,1,18)]),
fA 20 0 none 5,
lD 21 none 20,
wO (.mupd ((some 2),[2,2]) 14 19 21)] [3,8,9,10])))
(rg [bN 22 .add 10 (cI 1),
mV 10 22] [3,8,9,10]))))
def zh1:ACode:=.pr [3] (.seq (rg [mV 23 3,
mV 2 23] [2])
.ret)
def zhz:ACode:=(.seq (rg [uO 1 (.box 0),
mV 2 (.c (.nilm))] [1])
(.seq (rg [uO 6 (.mkmap),
mV 3 6] [1,3])
(.seq (.seq (rg [fA 7 1 none 1,
lD 8 none 7,
lN 9 8,
mV 10 (cI 0)] [3,8,9,10])
(.block 0 (.loop (.scope zh0))))
zh1)))
def z7u:AFun:=⟨1,[.t 2],zhz,false,false⟩
def zh2:ACode:=(.seq (rg [uO 3 (.box 0),
uO 5 (.box 2),
mV 6 cF] [1,3,5])
(.seq (rg [lD 8 (some 3) 3,
mV 9 1,
cL 10 z2p [8,9],
mV 7 10] [3,5,7])
(.seq (rg [mV 11 7,
bN 12 .geq 11 (cI 0),
mV 13 12,
gD 14 13 true (.faddr 0 none 3),
gD 15 13 true (.load none 14),
gD 16 13 true (.mv 7),
gD 17 13 true (.iaddr (some 2) 15 16),
gD 18 13 true (.faddr 1 none 17),
gD 19 13 true (.load none 18),
gD 20 13 true (.mkfn z2v [5]),
gD 21 13 true (.call BW [19,20]),
uO 22 (.pick 13 21 cF),
mV 6 22] [6])
.ret)))
def z7v:AFun:=⟨3,[.t 6],zh2,false,false⟩
def zh3:ACode:=(.seq (rg [uO 2 (.box 0),
mV 3 cF] [1,2])
(.seq (rg [lD 4 (some 4) 2,
cL 5 bM [4],
mV 6 5,
gD 7 6 true (.faddr 1 none 2),
gD 8 6 true (.load none 7),
gD 9 6 true (.load none 1),
gD 10 6 true (.bin .eql 8 9),
uO 11 (.pick 6 10 cF),
mV 3 11] [3])
.ret))
def z7w:AFun:=⟨2,[.t 3],zh3,false,false⟩
def zh5:ACode:=.pr [0,3,27,28,29] (.seq (rg [bN 30 .lss 29 28] [0,3,27,28,29,30])
(.seq (.cond 30 .skip
(.exit 1))
(.seq (.block 2 (.seq (rg [iA 31 none 27 29,
lD 32 none 31,
mV 6 32] [0,3,6,27,28,29])
(.seq (rg [mV 33 6,
mV 34 0,
bN 35 .sub 34 (cI 1),
cL 36 lC [33,(cI 0),35]] [0,3,27,28,29,36])
(.cond 36 (.seq (rg [mV 4 (cI 1)] [4])
.ret)
.skip))))
(rg [bN 37 .add 29 (cI 1),
mV 29 37] [0,3,27,28,29]))))
def zh6:ACode:=.pr [3,7,8] (.seq (.seq (rg [mV 53 8,
mV 54 7,
lN 55 54,
bN 56 .lss 53 55] [3,7,8,56])
(.cond 56 .skip
(.exit 3)))
(.seq (.block 4 (.seq (dr [dF (mV 59 7) [7],
dF (mV 60 8) [8],
dF (iA 61 none 59 60) [59,60],
dF (lD 62 none 61) [61],
dF (mV 63 7) [7],
dF (mV 64 8) [8],
dF (bN 65 .sub 64 (cI 1)) [64],
dF (iA 66 none 63 65) [63,65],
dF (lD 67 none 66) [66],
dF (bN 68 .leq 62 67) [62,67]] [3,7,8,68])
(.cond 68 (.seq (rg [mV 4 (cI 7)] [4])
.ret)
.skip)))
(rg [mV 57 8,
bN 58 .add 57 (cI 1),
mV 8 58] [3,7,8])))
def zh7:ACode:=.pr [3,7] (.seq (.seq (rg [fA 69 0 none 3,
lD 70 none 69,
bN 71 .eql 70 (cI 5),
mV 72 71,
gD 73 72 true (.mv 7),
gD 74 72 true (.faddr 1 none 3),
gD 75 72 true (.load none 74),
gD 76 72 true (.iaddr none 75 (cI 0)),
gD 77 72 true (.load none 76),
gD 78 72 true (.call z2J [73,77]),
uO 79 (.pick 72 78 cF)] [79])
(.cond 79 (.seq (rg [mV 4 (cI 6)] [4])
.ret)
.skip))
(.seq (rg [mV 4 (cI 0)] [4])
.ret))
def zh8:ACode:=.pr [3,7] (.seq (.seq (rg [mV 8 (cI 1)] [3,7,8])
(.block 3 (.loop zh6)))
zh7)
def zh9:ACode:=.pr [3] (.seq (.seq (dr [dF (fA 38 0 none 3) [3],
dF (lD 39 none 38) [38],
dT (cL 40 z24 [39]) [39],
dF (fA 41 1 none 3) [3],
dA (lD 42 none 41) [41] false [2] [],
dF (lN 43 42) [42],
dF (bN 44 .gtr 43 (cI 1)) [43],
dF (uO 45 (.eqa [] true 40 44)) [40,44]] [3,45])
(.cond 45 (.seq (rg [mV 4 (cI 3)] [4])
.ret)
.skip))
(.seq (rg [fA 46 1 none 3,
lD 47 none 46,
mV 7 47] [3,7])
(.seq (.seq (rg [fA 48 0 none 3,
lD 49 none 48,
bN 50 .eql 49 (cI 5)] [3,7,50])
(.cond 50 (rg [mV 51 7,
uO 52 (.slice none 51 (some (cI 1)) none none),
mV 7 52] [3,7])
.skip))
zh8)))
def zh4:ACode:=(.seq (rg [uO 3 (.box 1),
mV 4 (cI 0)] [0,3])
(.seq (.block 0 (.seq (rg [mV 10 0,
cL 11 lC [10,(cI 1),(cI 100)],
mV 9 11] [0,3,9])
(.cond 9 (.seq (rg [mV 4 (cI 1)] [4])
.ret)
(.seq (rg [fA 13 0 none 3,
lD 14 none 13,
cL 15 lC [14,(cI 1),(cI 6)],
mV 12 15] [0,3,12])
(.cond 12 (.seq (rg [mV 4 (cI 4)] [4])
.ret)
(.seq (rg [fA 17 1 none 3,
lD 18 none 17,
lN 19 18,
bN 20 .eql 19 (cI 0),
mV 16 20] [0,3,16])
(.cond 16 (.seq (rg [mV 4 (cI 8)] [4])
.ret)
(.seq (rg [fA 22 1 none 3,
lD 23 none 22,
lN 24 23,
bN 25 .gtr 24 (cI 6),
mV 21 25] [0,3,21])
(.cond 21 (.seq (rg [mV 4 (cI 2)] [4])
.ret)
.skip)))))))))
(.seq (.seq (rg [fA 26 1 none 3,
lD 27 none 26,
lN 28 27,
mV 29 (cI 0)] [0,3,27,28,29])
(.block 1 (.loop zh5)))
zh9)))
def z7x:AFun:=⟨2,[.t 4],zh4,false,false⟩
def zhB:ACode:=.pr [0,13,14,15] (.seq (rg [bN 16 .lss 15 14] [0,13,14,15,16])
(.seq (.cond 16 .skip
(.exit 1))
(.seq (.block 2 (.seq (rg [iA 17 none 13 15,
lD 18 none 17,
mV 4 18] [0,4,13,14,15])
(.block 3 (.seq (rg [mV 20 4,
cL 21 gI [20],
uO 22 (.un .not 21),
mV 19 22] [0,4,13,14,15,19])
(.cond 19 (.seq (rg [mV 2 (cI 3)] [2])
.ret)
(.seq (rg [mV 24 4,
uO 25 (.lens 24),
bN 26 .gtr 25 (cI 64),
mV 23 26] [0,4,13,14,15,23])
(.cond 23 (.seq (rg [mV 2 (cI 2)] [2])
.ret)
(.seq (rg [mV 28 4,
uO 29 (.lens 28),
mV 30 0,
iA 31 none 30 (cI 0),
lD 32 none 31,
uO 33 (.lens 32),
bN 34 .neq 29 33,
mV 27 34] [0,13,14,15,27])
(.cond 27 (.seq (rg [mV 2 (cI 3)] [2])
.ret)
.skip)))))))))
(rg [bN 35 .add 15 (cI 1),
mV 15 35] [0,13,14,15]))))
def zhC:ACode:=.pr [] (.seq (rg [mV 2 (cI 0)] [2])
.ret)
def zhA:ACode:=(.seq (rg [mV 2 (cI 0)] [0])
(.seq (.block 0 (.seq (rg [mV 6 0,
lN 7 6,
bN 8 .eql 7 (cI 0),
mV 5 8] [0,5])
(.cond 5 (.seq (rg [mV 2 (cI 8)] [2])
.ret)
(.seq (rg [mV 10 0,
lN 11 10,
bN 12 .gtr 11 (cI 100),
mV 9 12] [0,9])
(.cond 9 (.seq (rg [mV 2 (cI 2)] [2])
.ret)
.skip)))))
(.seq (.seq (rg [mV 13 0,
lN 14 13,
mV 15 (cI 0)] [0,13,14,15])
(.block 1 (.loop zhB)))
zhC)))
def z7y:AFun:=⟨1,[.t 2],zhA,false,false⟩
def zhE:ACode:=.pr [0,7,18,19,20] (.seq (rg [bN 21 .lss 20 19] [0,7,18,19,20,21])
(.seq (.cond 21 .skip
(.exit 0))
(.seq (.block 1 (.seq (rg [iA 22 (some 2) 18 20,
lD 23 (some 2) 22,
uO 9 (.alloc [.p (.int .i64 0),.sl0 none]),
wO (.store (some 2) 9 23)] [0,7,9,18,19,20])
(dr [dF (mV 24 7) [7],
dF (lD 25 (some 2) 9) [9],
dF (mV 26 0) [0],
dF (iA 27 none 26 (cI 0)) [26],
dF (lD 28 none 27) [27],
dF (uO 29 (.lens 28)) [28],
dA (cL 30 z27 [29]) [29] true [] [1],
dT (cL 31 z28 [24,25,30]) [24,25,30]] [0,7,18,19,20])))
(rg [bN 32 .add 20 (cI 1),
mV 20 32] [0,7,18,19,20]))))
def zhF:ACode:=.pr [0,7] (.seq (rg [mV 33 7,
mV 34 0,
iA 35 none 34 (cI 0),
lD 36 none 35,
uO 37 (.lens 36),
cL 38 z26 [33,37],
mV 4 38,
mV 5 (cI 0)] [4,5])
.ret)
def zhD:ACode:=(.seq (rg [mV 4 (.c (.p (.sl none []))),
mV 5 (cI 0)] [0,1])
(.seq (.seq (rg [mV 10 0,
mV 11 1,
cL 12 z23 [10,11],
mV 6 12] [0,1,6])
(.seq (rg [mV 13 6,
bN 14 .neq 13 (cI 0)] [0,1,6,14])
(.cond 14 (.seq (rg [mV 15 6,
mV 4 (.c (.p (.sl none []))),
mV 5 15] [4,5])
.ret)
.skip)))
(.seq (rg [mV 16 0,
cL 17 z25 [16],
mV 7 17] [0,1,7])
(.seq (.seq (rg [mV 18 1,
lN 19 18,
mV 20 (cI 0)] [0,7,18,19,20])
(.block 0 (.loop (.scope zhE))))
zhF))))
def z7z:AFun:=⟨2,[.t 4,.t 5],zhD,false,false⟩
def zhG:ACode:=(.seq (rg [uO 3 (.box 1),
mV 4 (.c (.p (.sl none []))),
mV 5 (cI 0)] [0,3])
(.seq (rg [mV 6 0,
lD 7 (some 2) 3,
uO 8 (.bsl false (some 2) 1 (.agg [.int .i64 0,.sl none []]) [(0,7)]),
cL 9 z2y [6,8],
eX 10 9 0,
eX 11 9 1,
mV 4 10,
mV 5 11] [4,5])
.ret))
def z70:AFun:=⟨2,[.t 4,.t 5],zhG,false,false⟩
def zhI:ACode:=.pr [0,14,15,16] (.seq (rg [bN 17 .lss 16 15] [0,14,15,16,17])
(.seq (.cond 17 .skip
(.exit 0))
(.seq (.block 1 (.seq (rg [iA 18 (some 2) 14 16,
lD 19 (some 2) 18,
uO 7 (.alloc [.p (.int .i64 0),.sl0 none]),
wO (.store (some 2) 7 19)] [0,7,14,15,16])
(.seq (rg [mV 20 0,
lN 21 20,
lD 22 (some 2) 7,
cL 23 z2w [21,22],
mV 8 23] [0,8,14,15,16])
(.seq (rg [mV 24 8,
bN 25 .neq 24 (cI 0)] [0,8,14,15,16,25])
(.cond 25 (.seq (rg [mV 26 8,
mV 4 26] [4])
.ret)
.skip)))))
(rg [bN 27 .add 16 (cI 1),
mV 16 27] [0,14,15,16]))))
def zhJ:ACode:=.pr [] (.seq (rg [mV 4 (cI 0)] [4])
.ret)
def zhH:ACode:=(.seq (rg [mV 4 (cI 0)] [0,1])
(.seq (.seq (rg [mV 9 0,
cL 10 z2x [9],
mV 5 10] [0,1,5])
(.seq (rg [mV 11 5,
bN 12 .neq 11 (cI 0)] [0,1,5,12])
(.cond 12 (.seq (rg [mV 13 5,
mV 4 13] [4])
.ret)
.skip)))
(.seq (.seq (rg [mV 14 1,
lN 15 14,
mV 16 (cI 0)] [0,14,15,16])
(.block 0 (.loop (.scope zhI))))
zhJ)))
def z71:AFun:=⟨2,[.t 4],zhH,false,false⟩
def zhK:ACode:=(.seq (rg [mV 2 cF] [0])
(.seq (rg [mV 3 0,
cL 4 lC [3,(cI 3),(cI 5)],
uO 5 (.un .not 4),
mV 2 5] [2])
.ret))
def z72:AFun:=⟨1,[.t 2],zhK,false,false⟩
def zhM:ACode:=.pr [3,5,6,8,9,10,15,16] (.seq (rg [bN 17 .lss 16 15] [3,5,6,8,9,10,15,16,17])
(.seq (.cond 17 .skip
(.exit 2))
(.seq (.block 3 (.seq (rg [mV 18 16,
mV 7 18] [3,5,6,7,8,9,10,15,16])
(rg [mV 19 6,
mV 20 5,
mV 21 7,
uO 22 (.idxs 20 21),
bN 23 .sub 22 (.c (.p (.int .u8 48))),
uO 24 (.conv (.i .u64) 23),
mV 25 7,
bN 26 .shl 24 25,
bN 27 .or 19 26,
mV 6 27] [3,5,6,8,9,10,15,16])))
(rg [bN 28 .add 16 (cI 1),
mV 16 28] [3,5,6,8,9,10,15,16]))))
def zhN:ACode:=.pr [3,6,8,9,10] (rg [mV 29 3,
mV 30 6,
uO 31 (.bsl false none 1 (.int .u64 0) [(0,30)]),
uO 32 (.app none 29 31),
mV 3 32] [3,8,9,10])
def zhO:ACode:=.pr [3,8,9,10] (rg [bN 33 .add 10 (cI 1),
mV 10 33] [3,8,9,10])
def zhP:ACode:=.pr [3,8,9,10] (.seq (rg [bN 11 .lss 10 9] [3,8,9,10,11])
(.seq (.cond 11 .skip
(.exit 0))
(.seq (.block 1 (.seq (rg [iA 12 none 8 10,
lD 13 none 12,
mV 5 13] [3,5,8,9,10])
(.seq (rg [mV 6 (.c (.p (.int .u64 0)))] [3,5,6,8,9,10])
(.seq (.seq (rg [mV 14 5,
uO 15 (.lens 14),
mV 16 (cI 0)] [3,5,6,8,9,10,15,16])
(.block 2 (.loop zhM)))
zhN))))
zhO)))
def zhQ:ACode:=.pr [3] (.seq (rg [mV 34 3,
mV 2 34] [2])
.ret)
def zhL:ACode:=(.seq (rg [mV 2 (.c (.p (.sl none [])))] [0])
(.seq (rg [uO 3 (.new0 none)] [0,3])
(.seq (.seq (rg [mV 8 0,
lN 9 8,
mV 10 (cI 0)] [3,8,9,10])
(.block 0 (.loop (.scope zhP))))
zhQ)))
def z73:AFun:=⟨1,[.t 2],zhL,false,true⟩
def zhS:ACode:=.pr [1,5,7,8,10,11,12,19,20] (.seq (rg [bN 21 .lss 20 19] [1,5,7,8,10,11,12,19,20,21])
(.seq (.cond 21 .skip
(.exit 2))
(.seq (.block 3 (.seq (rg [mV 22 20,
mV 9 22] [1,5,7,8,9,10,11,12,19,20])
(rg [mV 23 8,
mV 24 9,
mV 25 7,
mV 26 9,
bN 27 .shr 25 26,
bN 28 .and 27 (.c (.p (.int .u64 1))),
bN 29 .add (.c (.p (.int .u64 48))) 28,
uO 30 (.conv (.i .u8) 29),
iA 31 none 23 24,
wO (.store none 31 30)] [1,5,7,8,10,11,12,19,20])))
(rg [bN 32 .add 20 (cI 1),
mV 20 32] [1,5,7,8,10,11,12,19,20]))))
def zhT:ACode:=.pr [1,5,8,10,11,12] (rg [mV 33 5,
mV 34 8,
uO 35 (.conv .b2s 34),
uO 36 (.bsl false none 1 (.str []) [(0,35)]),
uO 37 (.app none 33 36),
mV 5 37] [1,5,10,11,12])
def zhU:ACode:=.pr [1,5,10,11,12] (rg [bN 38 .add 12 (cI 1),
mV 12 38] [1,5,10,11,12])
def zhV:ACode:=.pr [1,5,10,11,12] (.seq (rg [bN 13 .lss 12 11] [1,5,10,11,12,13])
(.seq (.cond 13 .skip
(.exit 0))
(.seq (.block 1 (.seq (rg [iA 14 none 10 12,
lD 15 none 14,
mV 7 15] [1,5,7,10,11,12])
(.seq (rg [mV 16 1,
uO 17 (.mksl none (.int .u8 0) 16 16),
mV 8 17] [1,5,7,8,10,11,12])
(.seq (.seq (rg [mV 18 8,
lN 19 18,
mV 20 (cI 0)] [1,5,7,8,10,11,12,19,20])
(.block 2 (.loop zhS)))
zhT))))
zhU)))
def zhW:ACode:=.pr [5] (.seq (rg [mV 39 5,
mV 4 39] [4])
.ret)
def zhR:ACode:=(.seq (rg [mV 4 (.c (.p (.sl none [])))] [0,1])
(.seq (rg [uO 5 (.new0 none)] [0,1,5])
(.seq (.seq (rg [mV 10 0,
lN 11 10,
mV 12 (cI 0)] [1,5,10,11,12])
(.block 0 (.loop (.scope zhV))))
zhW)))
def z74:AFun:=⟨2,[.t 4],zhR,false,false⟩
def zhX:ACode:=(.seq (rg [mV 2 (.c (.p (.int .u64 0)))] [0])
(.seq (rg [mV 3 0,
bN 4 .shl (.c (.p (.int .u64 1))) 3,
bN 5 .sub 4 (.c (.p (.int .u64 1))),
mV 2 5] [2])
.ret))
def z75:AFun:=⟨1,[.t 2],zhX,false,false⟩
def zhZ:ACode:=.pr [0,4,6,31,32,33] (.seq (rg [bN 34 .lss 33 32] [0,4,6,31,32,33,34])
(.seq (.cond 34 .skip
(.exit 1))
(.seq (.block 2 (.seq (rg [iA 35 none 31 33,
lD 36 none 35,
mV 8 36] [0,4,6,8,31,32,33])
(rg [mV 37 6,
mV 38 0,
mV 39 8,
iA 40 none 38 39,
lD 41 none 40,
bN 42 .and 37 41,
mV 6 42] [0,4,6,31,32,33])))
(rg [bN 43 .add 33 (cI 1),
mV 33 43] [0,4,6,31,32,33]))))
def zia:ACode:=.pr [0,4,6,47,48,49] (.seq (rg [bN 50 .lss 49 48] [0,4,6,47,48,49,50])
(.seq (.cond 50 .skip
(.exit 3))
(.seq (.block 4 (.seq (rg [iA 51 none 47 49,
lD 52 none 51,
mV 10 52] [0,4,6,10,47,48,49])
(rg [mV 53 6,
mV 54 0,
mV 55 10,
iA 56 none 54 55,
lD 57 none 56,
bN 58 .or 53 57,
mV 6 58] [0,4,6,47,48,49])))
(rg [bN 59 .add 49 (cI 1),
mV 49 59] [0,4,6,47,48,49]))))
def zib:ACode:=.pr [0,2,4,6,21,24] (.cond 24 (rg [mV 27 2,
mV 6 27] [0,4,6])
(.seq (rg [bN 29 .eql 21 (cI 3),
mV 28 29] [0,4,6,21,28])
(.cond 28 (.seq (rg [fA 30 1 none 4,
lD 31 none 30,
lN 32 31,
mV 33 (cI 0)] [0,4,6,31,32,33])
(.block 1 (.loop zhZ)))
(.seq (rg [bN 45 .eql 21 (cI 4),
mV 44 45] [0,4,6,44])
(.cond 44 (.seq (rg [fA 46 1 none 4,
lD 47 none 46,
lN 48 47,
mV 49 (cI 0)] [0,4,6,47,48,49])
(.block 3 (.loop zia)))
.skip)))))
def zic:ACode:=.pr [0,6,61,62,63] (.seq (rg [bN 64 .lss 63 62] [0,6,61,62,63,64])
(.seq (.cond 64 .skip
(.exit 5))
(.seq (.block 6 (.seq (rg [iA 65 none 61 63,
lD 66 none 65,
mV 12 66] [0,6,12,61,62,63])
(rg [mV 67 0,
mV 68 12,
mV 69 6,
iA 70 none 67 68,
wO (.store none 70 69)] [0,6,61,62,63])))
(rg [bN 71 .add 63 (cI 1),
mV 63 71] [0,6,61,62,63]))))
def zid:ACode:=.pr [0,4,6] (.seq (rg [fA 60 1 none 4,
lD 61 none 60,
lN 62 61,
mV 63 (cI 0)] [0,6,61,62,63])
(.block 5 (.loop zic)))
def zhY:ACode:=(.seq (rg [uO 4 (.box 1)] [0,2,4])
(.seq (rg [mV 13 0,
fA 14 1 none 4,
lD 15 none 14,
iA 16 none 15 (cI 0),
lD 17 none 16,
iA 18 none 13 17,
lD 19 none 18,
mV 6 19] [0,2,4,6])
(.seq (.seq (rg [fA 20 0 none 4,
lD 21 none 20] [0,2,4,6,21])
(.block 0 (.seq (rg [bN 23 .eql 21 (cI 1),
mV 22 23] [0,2,4,6,21,22])
(.cond 22 (rg [mV 6 (.c (.p (.int .u64 0)))] [0,4,6])
(.seq (.seq (rg [bN 25 .eql 21 (cI 2),
mV 24 25] [0,2,4,6,21,24])
(.cond 24 .skip
(rg [bN 26 .eql 21 (cI 6),
mV 24 26] [0,2,4,6,21,24])))
zib)))))
zid)))
def z76:AFun:=⟨3,[],zhY,true,false⟩
def zie:ACode:=(.seq (rg [uO 2 (.alloc [.p (.int .i64 0),.p (.int .i64 0)]),
uO 3 (.alloc [.p (.int .i64 0),.p (.int .i64 0)]),
mV 4 (cI 0)] [0,2,3])
(.seq (.seq (rg [mV 9 0,
cL 10 z2C [9,(cI 1)],
mV 5 10] [0,2,3,5])
(.seq (rg [mV 11 5,
bN 12 .neq 11 (cI 0)] [0,2,3,5,12])
(.cond 12 (.seq (rg [uO 13 (.build [.p (.int .i64 0),.p (.int .i64 0)] []),
uO 14 (.build [.p (.int .i64 0),.p (.int .i64 0)] []),
mV 15 5,
wO (.store (some 2) 2 13),
wO (.store (some 2) 3 14),
mV 4 15] [2,3,4])
.ret)
.skip)))
(.seq (rg [mV 17 0,
cL 18 z2B [17],
mV 16 18,
eX 19 16 0,
eX 20 16 1,
mV 6 19,
mV 7 20] [0,2,3,6,7])
(.seq (rg [mV 21 0,
lN 22 21,
mV 8 22] [2,3,6,7,8])
(.seq (rg [mV 23 6,
mV 24 8,
cL 25 zW [23,24],
mV 26 7,
mV 27 8,
mV 28 8,
bN 29 .mul 27 28,
cL 30 zW [26,29],
wO (.store (some 2) 2 25),
wO (.store (some 2) 3 30),
mV 4 (cI 0)] [2,3,4])
.ret)))))
def z77:AFun:=⟨1,[.cell 2 (some 2),.cell 3 (some 2),.t 4],zie,false,false⟩
def zif:ACode:=(.seq (rg [mV 2 cF] [0])
(.seq (rg [mV 3 0,
cL 4 lC [3,(cI (-100000)),(cI 100000)],
uO 5 (.un .not 4),
mV 2 5] [2])
.ret))
def z78:AFun:=⟨1,[.t 2],zif,false,false⟩
def zih:ACode:=.pr [0,2,4,7,8,9] (.seq (rg [bN 10 .lss 9 8] [0,2,4,7,8,9,10])
(.seq (.cond 10 .skip
(.exit 0))
(.seq (.block 1 (.seq (rg [iA 11 none 7 9,
lD 12 none 11,
mV 6 12] [0,2,4,6,7,8,9])
(.seq (rg [mV 13 2,
mV 14 6,
bN 15 .add 13 14,
mV 2 15] [0,2,4,6,7,8,9])
(rg [mV 16 4,
mV 17 6,
mV 18 6,
bN 19 .mul 17 18,
bN 20 .add 16 19,
mV 4 20] [0,2,4,7,8,9]))))
(rg [bN 21 .add 9 (cI 1),
mV 9 21] [0,2,4,7,8,9]))))
def zii:ACode:=.pr [0,2,4] (.seq (rg [mV 22 2,
mV 23 0,
lN 24 23,
mV 25 4,
bN 26 .mul 24 25,
mV 27 2,
mV 28 2,
bN 29 .mul 27 28,
bN 30 .sub 26 29,
mV 2 22,
mV 3 30] [2,3])
.ret)
def zig:ACode:=(.seq (rg [mV 2 (cI 0),
mV 3 (cI 0)] [0,2])
(.seq (rg [mV 4 (cI 0)] [0,2,4])
(.seq (.seq (rg [mV 7 0,
lN 8 7,
mV 9 (cI 0)] [0,2,4,7,8,9])
(.block 0 (.loop zih)))
zii)))
def z79:AFun:=⟨1,[.t 2,.t 3],zig,false,false⟩
def zij:ACode:=(.seq (rg [mV 4 (cI 0)] [0,1])
(.seq (.block 0 (.seq (rg [mV 6 0,
lN 7 6,
mV 8 1,
bN 9 .lss 7 8,
mV 5 9] [0,5])
(.cond 5 (.seq (rg [mV 4 (cI 8)] [4])
.ret)
(.seq (rg [mV 11 0,
lN 12 11,
bN 13 .gtr 12 (cI 5000),
mV 10 13] [0,10])
(.cond 10 (.seq (rg [mV 4 (cI 2)] [4])
.ret)
(.seq (rg [mV 15 0,
cL 16 z2I [15,(.f z2D)],
mV 14 16] [14])
(.cond 14 (.seq (rg [mV 4 (cI 1)] [4])
.ret)
.skip)))))))
(.seq (rg [mV 4 (cI 0)] [4])
.ret)))
def z7A:AFun:=⟨2,[.t 4],zij,false,false⟩
def zik:ACode:=(.seq (rg [mV 2 cF] [0])
(.seq (rg [mV 3 0,
cL 4 z2A [3],
uO 5 (.un .not 4),
mV 2 5] [2])
.ret))
def z7B:AFun:=⟨1,[.t 2],zik,false,false⟩
def zim:ACode:=.pr [5,6,7] (.seq (rg [bN 8 .lss 7 6] [5,6,7,8])
(.seq (.cond 8 .skip
(.exit 0))
(.seq (.block 1 (.seq (rg [iA 9 none 5 7,
lD 10 none 9,
mV 4 10] [4,5,6,7])
(.seq (rg [mV 11 4,
bN 12 .neq 11 (cI 0)] [4,5,6,7,12])
(.cond 12 (.seq (rg [mV 13 4,
mV 2 13] [2])
.ret)
.skip))))
(rg [bN 14 .add 7 (cI 1),
mV 7 14] [5,6,7]))))
def zin:ACode:=.pr [] (.seq (rg [mV 2 (cI 0)] [2])
.ret)
def zil:ACode:=(.seq (rg [mV 2 (cI 0)] [0])
(.seq (.seq (rg [mV 5 0,
lN 6 5,
mV 7 (cI 0)] [5,6,7])
(.block 0 (.loop zim)))
zin))
def z7C:AFun:=⟨1,[.t 2],zil,false,false⟩
def zio:ACode:=(.seq (rg [mV 0 cF] [])
(.seq (rg [cL 13 z2F [],
uO 14 (.bsl false none 1 (.str []) [(0,(cS [49]))]),
cL 15 z2j [13,14],
mV 12 15,
eX 16 12 0,
eX 17 12 1,
mV 1 16,
mV 2 17] [1,2])
(.seq (rg [uO 19 (.bsl false none 1 (.str []) [(0,(cS [48,49]))]),
uO 20 (.bsl false none 1 (.int .i64 0) [(0,(cI 0))]),
uO 21 (.build [.p (.int .i64 0),.sl0 none] [(0,1,(cI 2)),(1,1,20)]),
cL 22 z2z [19,21],
mV 18 22,
eX 23 18 0,
eX 24 18 1,
mV 3 23,
mV 4 24] [1,2,3,4])
(.seq (rg [uO 26 (.build [.p (.int .i64 0),.p (.int .i64 0),.p (.int .i64 0),.p (.str []),.p (.str []),.p (.str [])] [(0,1,(cI 7)),(3,1,(cS [49,48]))]),
uO 27 (.bsl false (some 6) 1 (.agg [.int .i64 0,.int .i64 0,.int .i64 0,.str [],.str [],.str []]) [(0,26)]),
cL 28 z2R [27],
mV 25 28,
eX 29 25 0,
eX 30 25 1,
mV 5 29,
mV 6 30] [1,2,3,4,5,6])
(.seq (rg [uO 32 (.bsl false none 2 (.int .i64 0) [(0,(cI 1)),(1,(cI 3))]),
cL 33 z29 [32],
mV 31 33,
eX 34 31 0,
eX 35 31 1,
eX 36 31 2,
uO 7 (.alloc [.p (.int .i64 0),.p (.int .i64 0)]),
uO 8 (.alloc [.p (.int .i64 0),.p (.int .i64 0)]),
wO (.store (some 2) 7 34),
wO (.store (some 2) 8 35),
mV 9 36] [1,2,3,4,5,6,7,9])
(.seq (rg [uO 38 (.bsl false none 1 (.str []) [(0,(cS [115,99,97,110]))]),
uO 39 (.build [.sl0 none,.p (.int .i64 0)] [(0,1,38),(1,1,(cI 1))]),
uO 40 (.build [.p (.str []),.p (.int .i64 0),.p (.int .i64 0),.p (.int .i64 0),.p (.str []),.p (.str []),.p (.str []),.p (.int .i64 0)] [(0,1,(cS [97])),(1,1,(cI 1)),(3,1,(cI 1)),(4,1,(cS [98]))]),
uO 41 (.bsl false (some 8) 1 (.agg [.str [],.int .i64 0,.int .i64 0,.int .i64 0,.str [],.str [],.str [],.int .i64 0]) [(0,40)]),
cL 42 z2O [39,41,(cS [98]),(cI 0)],
mV 37 42,
eX 43 37 0,
eX 44 37 1,
uO 10 (.alloc [.p (.int .i64 0),.p (.int .i64 0),.p (.str []),.p (.str []),.p (.int .i64 0)]),
wO (.store (some 5) 10 43),
mV 11 44] [1,2,3,4,5,6,7,9,10,11])
(.seq (rg [mV 45 2,
mV 46 4,
mV 47 6,
mV 48 9,
mV 49 11,
uO 50 (.bsl false none 5 (.int .i64 0) [(0,45),(1,46),(2,47),(3,48),(4,49)]),
cL 51 z2E [50],
bN 52 .eql 51 (cI 0),
mV 53 52,
gD 54 53 true (.mv 1),
gD 55 53 true (.len 54),
gD 56 53 true (.bin .eql 55 (cI 1)),
uO 57 (.pick 53 56 cF),
mV 58 57,
gD 59 58 true (.mv 1),
gD 60 58 true (.iaddr none 59 (cI 0)),
gD 61 58 true (.load none 60),
gD 62 58 true (.bin .eql 61 (cI 1)),
uO 63 (.pick 58 62 cF),
mV 64 63,
gD 65 64 true (.mv 3),
gD 66 64 true (.len 65),
gD 67 64 true (.bin .eql 66 (cI 1)),
uO 68 (.pick 64 67 cF),
mV 69 68,
gD 70 69 true (.mv 3),
gD 71 69 true (.iaddr none 70 (cI 0)),
gD 72 69 true (.load none 71),
gD 73 69 true (.bin .eql 72 (cS [49,49])),
uO 74 (.pick 69 73 cF),
mV 75 74,
gD 76 75 true (.mv 5),
gD 77 75 true (.bin .eql 76 (cI 9)),
uO 78 (.pick 75 77 cF),
mV 79 78,
gD 80 79 true (.faddr 0 none 7),
gD 81 79 true (.load none 80),
gD 82 79 true (.bin .eql 81 (cI 2)),
uO 83 (.pick 79 82 cF),
mV 84 83,
gD 85 84 true (.faddr 0 none 10),
gD 86 84 true (.load none 85),
gD 87 84 true (.bin .eql 86 (cI 1)),
uO 88 (.pick 84 87 cF),
mV 0 88] [0])
.ret)))))))
def z7D:AFun:=⟨0,[.t 0],zio,false,false⟩
def ziq:ACode:=(.seq (rg [uO 0 (.alloc [.sl0 (some 2),.sl0 (some 3),.sl0 (some 2)])] [0])
(.seq (rg [uO 1 (.build [.p (.int .i64 0),.p (.str []),.p (.int .i64 0),.p (.int .i64 0)] [(0,1,(cI 2)),(1,1,(cS [97])),(2,1,(cI (-1)))]),
uO 2 (.bsl false (some 4) 1 (.agg [.int .i64 0,.str [],.int .i64 0,.int .i64 0]) [(0,1)]),
uO 3 (.build [.p (.str []),.sl0 (some 4)] [(0,1,(cS [117])),(1,1,2)]),
uO 4 (.bsl false (some 2) 1 (.agg [.str [],.sl (some 4) []]) [(0,3)]),
uO 5 (.build [.p (.str []),.p (.str []),.p (.str [])] [(0,1,(cS [110])),(1,1,(cS [117])),(2,1,(cS [97]))]),
uO 6 (.bsl false (some 3) 1 (.agg [.str [],.str [],.str []]) [(0,5)]),
uO 7 (.build [.sl0 (some 2),.sl0 (some 3),.sl0 (some 2)] [(0,1,4),(1,1,6)]),
wO (.store (some 3) 0 7)] [0])
.ret))
def z7E:AFun:=⟨0,[.cell 0 (some 3)],ziq,false,false⟩
def zis:ACode:=.pr [0,1,2,8,9,10] (.seq (.seq (rg [mV 15 9,
mV 16 10,
bN 17 .lss 15 16] [0,1,2,8,9,10,17])
(.cond 17 .skip
(.exit 0)))
(.block 1 (.seq (rg [mV 18 9,
mV 19 10,
bN 20 .add 18 19,
uO 21 (.conv (.i .u64) 20),
bN 22 .shr 21 (.c (.p (.int .u64 1))),
uO 23 (.conv (.i .i64) 22),
mV 11 23] [0,1,2,8,9,10,11])
(.seq (rg [mV 24 2,
mV 25 0,
mV 26 11,
iA 27 (some 2) 25 26,
lD 28 (some 2) 27,
mV 29 1,
uO 30 (.callv 24 [28,29]),
bN 31 .lss 30 (cI 0)] [0,1,2,8,9,10,11,31])
(.cond 31 (rg [mV 32 11,
bN 33 .add 32 (cI 1),
mV 9 33] [0,1,2,8,9,10])
(rg [mV 34 11,
mV 10 34] [0,1,2,8,9,10]))))))
def zit:ACode:=.pr [0,1,2,8,9] (.seq (rg [mV 35 9,
mV 36 9,
mV 37 8,
bN 38 .lss 36 37,
mV 39 38,
gD 40 39 true (.mv 2),
gD 41 39 true (.mv 0),
gD 42 39 true (.mv 9),
gD 43 39 true (.iaddr (some 2) 41 42),
gD 44 39 true (.load (some 2) 43),
gD 45 39 true (.mv 1),
gD 46 39 true (.callv 40 [44,45]),
gD 47 39 true (.bin .eql 46 (cI 0)),
uO 48 (.pick 39 47 cF),
mV 6 35,
mV 7 48] [6,7])
.ret)
def zir:ACode:=(.seq (rg [mV 6 (cI 0),
mV 7 cF] [0,1,2])
(.seq (rg [mV 12 0,
lN 13 12,
mV 8 13] [0,1,2,8])
(.seq (rg [mV 14 8,
mV 9 (cI 0),
mV 10 14] [0,1,2,8,9,10])
(.seq (.block 0 (.loop zis))
zit))))
def z7F:AFun:=⟨3,[.t 6,.t 7],zir,false,false⟩
def ziv:ACode:=.pr [0,3,4,5] (rg [mV 33 5,
bN 34 .add 33 (cI 1),
mV 5 34] [0,3,4,5])
def ziw:ACode:=.pr [0,3,4,5] (.seq (.seq (rg [mV 29 5,
mV 30 4,
lN 31 30,
bN 32 .lss 29 31] [0,3,4,5,32])
(.cond 32 .skip
(.exit 2)))
(.seq (.block 3 (.seq (dr [dF (mV 35 4) [4],
dF (mV 36 5) [5],
dF (iA 37 none 35 36) [35,36],
dF (lD 38 none 37) [37],
dF (mV 39 4) [4],
dF (mV 40 5) [5],
dF (bN 41 .sub 40 (cI 1)) [40],
dF (iA 42 none 39 41) [39,41],
dF (lD 43 none 42) [42],
dF (bN 44 .neq 38 43) [38,43]] [0,3,4,5,44])
(.cond 44 (.seq (rg [mV 45 0,
mV 46 3,
mV 47 4,
mV 48 5,
iA 49 none 47 48,
lD 50 none 49,
iA 51 none 45 46,
wO (.store none 51 50)] [0,3,4,5])
(rg [mV 52 3,
bN 53 .add 52 (cI 1),
mV 3 53] [0,3,4,5]))
.skip)))
ziv))
def zix:ACode:=.pr [0,3] (.seq (rg [mV 54 0,
mV 55 3,
uO 56 (.slice none 54 (some 55) none none),
wO (.clr none (.str []) 56)] [0,3])
(.seq (rg [mV 57 0,
mV 58 3,
uO 59 (.slice none 57 none (some 58) none),
mV 2 59] [2])
.ret))
def ziy:ACode:=.pr [0,3] (rg [mV 14 3,
bN 15 .add 14 (cI 1),
mV 3 15] [0,3])
def ziz:ACode:=.pr [0,3] (.seq (.seq (rg [mV 10 3,
mV 11 0,
lN 12 11,
bN 13 .lss 10 12] [0,3,13])
(.cond 13 .skip
(.exit 0)))
(.seq (.block 1 (.seq (dr [dF (mV 16 0) [0],
dF (mV 17 3) [3],
dF (iA 18 none 16 17) [16,17],
dF (lD 19 none 18) [18],
dF (mV 20 0) [0],
dF (mV 21 3) [3],
dF (bN 22 .sub 21 (cI 1)) [21],
dF (iA 23 none 20 22) [20,22],
dF (lD 24 none 23) [23],
dF (bN 25 .eql 19 24) [19,24]] [0,3,25])
(.cond 25 (.seq (rg [mV 26 0,
mV 27 3,
uO 28 (.slice none 26 (some 27) none none),
mV 4 28] [0,3,4])
(.seq (.seq (rg [mV 5 (cI 1)] [0,3,4,5])
(.block 2 (.loop ziw)))
zix))
.skip)))
ziy))
def zi0:ACode:=.pr [0] (.seq (rg [mV 60 0,
mV 2 60] [2])
.ret)
def ziu:ACode:=(.seq (rg [mV 2 (.c (.p (.sl none [])))] [0])
(.seq (.seq (rg [mV 6 0,
lN 7 6,
bN 8 .lss 7 (cI 2)] [0,8])
(.cond 8 (.seq (rg [mV 9 0,
mV 2 9] [2])
.ret)
.skip))
(.seq (.seq (rg [mV 3 (cI 1)] [0,3])
(.block 0 (.loop ziz)))
zi0)))
def z7G:AFun:=⟨1,[.t 2],ziu,true,false⟩
def zi1:ACode:=(.seq (rg [mV 4 cF] [0,1])
(.seq (rg [mV 5 0,
mV 6 1,
cL 7 z2K [5,6],
bN 8 .geq 7 (cI 0),
mV 4 8] [4])
.ret))
def z7H:AFun:=⟨2,[.t 4],zi1,true,false⟩
def zi2:ACode:=(.seq (rg [mV 4 cF] [0,1])
(.seq (rg [mV 5 0,
mV 6 1,
cL 7 z2L [5,6],
bN 8 .geq 7 (cI 0),
mV 4 8] [4])
.ret))
def z7I:AFun:=⟨2,[.t 4],zi2,true,false⟩
def zi3:ACode:=(.seq (rg [mV 4 cF] [0,1])
(.seq (rg [mV 5 0,
mV 6 1,
cL 7 z2M [5,6],
bN 8 .geq 7 (cI 0),
mV 4 8] [4])
.ret))
def z7J:AFun:=⟨2,[.t 4],zi3,true,false⟩
def zi5:ACode:=.pr [0,1,7,8] (.seq (rg [bN 9 .lss 8 7] [0,1,7,8,9])
(.seq (.cond 9 .skip
(.exit 0))
(.seq (.block 1 (.seq (rg [mV 10 8,
mV 5 10] [0,1,5,7,8])
(.seq (rg [mV 11 1,
mV 12 0,
mV 13 5,
iA 14 (some 4) 12 13,
lD 15 (some 4) 14,
uO 16 (.callv 11 [15])] [0,1,5,7,8,16])
(.cond 16 (.seq (rg [mV 17 5,
mV 4 17] [4])
.ret)
.skip))))
(rg [bN 18 .add 8 (cI 1),
mV 8 18] [0,1,7,8]))))
def zi6:ACode:=.pr [] (.seq (rg [mV 4 (cI (-1))] [4])
.ret)
def zi4:ACode:=(.seq (rg [mV 4 (cI 0)] [0,1])
(.seq (.seq (rg [mV 6 0,
lN 7 6,
mV 8 (cI 0)] [0,1,7,8])
(.block 0 (.loop zi5)))
zi6))
def z7K:AFun:=⟨2,[.t 4],zi4,true,false⟩
def zi8:ACode:=.pr [0,1,7,8] (.seq (rg [bN 9 .lss 8 7] [0,1,7,8,9])
(.seq (.cond 9 .skip
(.exit 0))
(.seq (.block 1 (.seq (rg [mV 10 8,
mV 5 10] [0,1,5,7,8])
(.seq (rg [mV 11 1,
mV 12 0,
mV 13 5,
iA 14 none 12 13,
lD 15 none 14,
uO 16 (.callv 11 [15])] [0,1,5,7,8,16])
(.cond 16 (.seq (rg [mV 17 5,
mV 4 17] [4])
.ret)
.skip))))
(rg [bN 18 .add 8 (cI 1),
mV 8 18] [0,1,7,8]))))
def zi9:ACode:=.pr [] (.seq (rg [mV 4 (cI (-1))] [4])
.ret)
def zi7:ACode:=(.seq (rg [mV 4 (cI 0)] [0,1])
(.seq (.seq (rg [mV 6 0,
lN 7 6,
mV 8 (cI 0)] [0,1,7,8])
(.block 0 (.loop zi8)))
zi9))
def z7L:AFun:=⟨2,[.t 4],zi7,true,false⟩
def ziB:ACode:=.pr [0,1,7,8] (.seq (rg [bN 9 .lss 8 7] [0,1,7,8,9])
(.seq (.cond 9 .skip
(.exit 0))
(.seq (.block 1 (.seq (rg [mV 10 8,
mV 5 10] [0,1,5,7,8])
(.seq (rg [mV 11 1,
mV 12 0,
mV 13 5,
iA 14 none 12 13,
lD 15 none 14,
bN 16 .eql 11 15] [0,1,5,7,8,16])
(.cond 16 (.seq (rg [mV 17 5,
mV 4 17] [4])
.ret)
.skip))))
(rg [bN 18 .add 8 (cI 1),
mV 8 18] [0,1,7,8]))))
def ziC:ACode:=.pr [] (.seq (rg [mV 4 (cI (-1))] [4])
.ret)
def ziA:ACode:=(.seq (rg [mV 4 (cI 0)] [0,1])
(.seq (.seq (rg [mV 6 0,
lN 7 6,
mV 8 (cI 0)] [0,1,7,8])
(.block 0 (.loop ziB)))
ziC))
def z7M:AFun:=⟨2,[.t 4],ziA,true,false⟩
def ziD:ACode:=(.seq (rg [uO 4 (.box 0),
uO 8 (.alloc [.p (.int .i64 0),.p (.int .i64 0),.p (.str []),.p (.str []),.p (.int .i64 0)]),
mV 9 (cI 0)] [1,2,3,4,8])
(.seq (.seq (rg [lD 12 (some 2) 4,
mV 13 1,
mV 14 3,
cL 15 kH [12,13,14],
mV 10 15] [1,2,3,4,8,10])
(.seq (rg [mV 16 10,
bN 17 .neq 16 (cI 0)] [1,2,3,4,8,10,17])
(.cond 17 (.seq (rg [uO 18 (.build [.p (.int .i64 0),.p (.int .i64 0),.p (.str []),.p (.str []),.p (.int .i64 0)] []),
mV 19 10,
wO (.store (some 5) 8 18),
mV 9 19] [8,9])
.ret)
.skip)))
(.seq (.seq (rg [mV 20 2,
cL 21 fE [20],
uO 22 (.un .not 21)] [1,2,3,4,8,22])
(.cond 22 (.seq (rg [uO 23 (.build [.p (.int .i64 0),.p (.int .i64 0),.p (.str []),.p (.str []),.p (.int .i64 0)] []),
wO (.store (some 5) 8 23),
mV 9 (cI 5)] [8,9])
.ret)
.skip))
(.seq (dr [dF (lD 24 (some 2) 4) [4],
dF (mV 25 1) [1],
dF (mV 26 3) [3],
dA (cL 27 lH [25,26]) [25,26] true [] [0],
dT (cL 28 OF [24,27]) [24,27],
dF (uO 29 (.nilchk 28)) [28],
dF (fA 30 2 none 29) [29],
dF (lD 31 none 30) [30],
dF (mV 32 2) [2],
dF (uO 33 (.look (none,[2]) false (.nilp) 31 32)) [31,32],
dF (mV 11 33) [33]] [8,11])
(.seq (.seq (rg [mV 34 11,
uO 35 (.isnil 0 false 34)] [8,11,35])
(.cond 35 (.seq (rg [uO 36 (.build [.p (.int .i64 0),.p (.int .i64 0),.p (.str []),.p (.str []),.p (.int .i64 0)] []),
wO (.store (some 5) 8 36),
mV 9 (cI 8)] [8,9])
.ret)
.skip))
(.seq (rg [mV 37 11,
uO 38 (.nilchk 37),
lD 39 (some 5) 38,
wO (.store (some 5) 8 39),
mV 9 (cI 0)] [8,9])
.ret))))))
def z7N:AFun:=⟨4,[.cell 8 (some 5),.t 9],ziD,false,false⟩
def ziE:ACode:=(.seq (rg [mV 4 (cS []),
mV 5 (cI 0)] [0,1])
(.seq (.seq (rg [mV 6 0,
cL 7 DW [6],
uO 8 (.un .not 7),
mV 9 8,
gD 10 9 false (.mv 1),
gD 11 9 false (.call DW [10]),
gD 12 9 false (.un .not 11),
uO 13 (.pick 9 cT 12)] [0,1,13])
(.cond 13 (.seq (rg [mV 4 (cS []),
mV 5 (cI 1)] [4,5])
.ret)
.skip))
(.seq (rg [mV 14 0,
mV 15 1,
cL 16 sI [14,15],
mV 4 16,
mV 5 (cI 0)] [4,5])
.ret)))
def z7O:AFun:=⟨2,[.t 4,.t 5],ziE,false,false⟩
def ziF:ACode:=(.seq (rg [mV 2 cF] [0])
(.seq (rg [mV 3 0,
cL 4 lC [3,(cI 0),(cI 15)],
uO 5 (.un .not 4),
mV 2 5] [2])
.ret))
def z7P:AFun:=⟨1,[.t 2],ziF,false,false⟩
def z6V:ACode:=(.seq (rg [mV 4 (cI 0)] [0,1])
(.seq (rg [uO 6 (.build [.p (.int .i64 0),.p (.int .i64 0)] [(0,1,(cI 1)),(1,1,(cI 0))]),
uO 7 (.build [.p (.int .i64 0),.p (.int .i64 0)] [(0,1,(cI 1)),(1,1,(cI 2))]),
uO 8 (.build [.p (.int .i64 0),.p (.int .i64 0)] [(0,1,(cI 3)),(1,1,(cI 9))]),
uO 9 (.build [.p (.int .i64 0),.p (.int .i64 0)] [(0,1,(cI 4)),(1,1,(cI 5))]),
uO 10 (.build [.p (.int .i64 0),.p (.int .i64 0)] [(0,1,(cI 4)),(1,1,(cI 5))]),
uO 11 (.build [.p (.int .i64 0),.p (.int .i64 0)] [(0,1,(cI 6)),(1,1,(cI 8))]),
uO 12 (.build [.p (.int .i64 0),.p (.int .i64 0)] [(0,1,(cI 6)),(1,1,(cI 7))]),
uO 13 (.build [.p (.int .i64 0),.p (.int .i64 0)] [(0,1,(cI 4)),(1,1,(cI 8))]),
uO 14 (.build [.p (.int .i64 0),.p (.int .i64 0)] [(0,1,(cI 1)),(1,1,(cI 2))]),
uO 15 (.build [.p (.int .i64 0),.p (.int .i64 0)] [(0,1,(cI 10)),(1,1,(cI 0))]),
uO 16 (.build [.p (.int .i64 0),.p (.int .i64 0)] [(0,1,(cI 11)),(1,1,(cI 12))]),
uO 17 (.build [.p (.int .i64 0),.p (.int .i64 0)] [(0,1,(cI 11)),(1,1,(cI 12))]),
uO 18 (.build [.p (.int .i64 0),.p (.int .i64 0)] [(0,1,(cI 13)),(1,1,(cI 15))]),
uO 19 (.build [.p (.int .i64 0),.p (.int .i64 0)] [(0,1,(cI 13)),(1,1,(cI 14))]),
uO 20 (.build [.p (.int .i64 0),.p (.int .i64 0)] [(0,1,(cI 11)),(1,1,(cI 15))]),
uO 21 (.build [.p (.int .i64 0),.p (.int .i64 0)] [(0,1,(cI 1)),(1,1,(cI 2))]),
uO 22 (.build [.p (.int .i64 0),.p (.int .i64 0),.p (.int .i64 0),.p (.int .i64 0),.p (.int .i64 0),.p (.int .i64 0),.p (.int .i64 0),.p (.int .i64 0),.p (.int .i64 0),.p (.int .i64 0),.p (.int .i64 0),.p (.int .i64 0),.p (.int .i64 0),.p (.int .i64 0),.p (.int .i64 0),.p (.int .i64 0),.p (.int .i64 0),.p (.int .i64 0),.p (.int .i64 0),.p (.int .i64 0),.p (.int .i64 0),.p (.int .i64 0),.p (.int .i64 0),.p (.int .i64 0),.p (.int .i64 0),.p (.int .i64 0),.p (.int .i64 0),.p (.int .i64 0),.p (.int .i64 0),.p (.int .i64 0),.p (.int .i64 0),.p (.int .i64 0)] [(0,2,6),(2,2,7),(4,2,8),(6,2,9),(8,2,10),(10,2,11),(12,2,12),(14,2,13),(16,2,14),(18,2,15),(20,2,16),(22,2,17),(24,2,18),(26,2,19),(28,2,20),(30,2,21)]),
uO 5 (.alloc [.p (.int .i64 0),.p (.int .i64 0),.p (.int .i64 0),.p (.int .i64 0),.p (.int .i64 0),.p (.int .i64 0),.p (.int .i64 0),.p (.int .i64 0),.p (.int .i64 0),.p (.int .i64 0),.p (.int .i64 0),.p (.int .i64 0),.p (.int .i64 0),.p (.int .i64 0),.p (.int .i64 0),.p (.int .i64 0),.p (.int .i64 0),.p (.int .i64 0),.p (.int .i64 0),.p (.int .i64 0),.p (.int .i64 0),.p (.int .i64 0),.p (.int .i64 0),.p (.int .i64 0),.p (.int .i64 0),.p (.int .i64 0),.p (.int .i64 0),.p (.int .i64 0),.p (.int .i64 0),.p (.int .i64 0),.p (.int .i64 0),.p (.int .i64 0)]),
wO (.store (some 32) 5 22)] [0,1,5])
(.seq (rg [mV 23 0,
mV 24 1,
uO 25 (.iaddra 16 (some 2) 5 23),
uO 26 (.iaddra 2 none 25 24),
lD 27 none 26,
mV 4 27] [4])
.ret)))
def vL:AFun:=⟨2,[.t 4],z6V,false,false⟩
def eW (C:Hd)(gl:GL)(v0 v1:AV)(h:aA)(x:Esc)(K:KT):Prop:=
 pK (pC [.p (.int .i64 0),.p (.int .i64 0)] [(0,1,(AI 1)),(1,1,(AI 0))]) fun t1=>
 pK (pC [.p (.int .i64 0),.p (.int .i64 0)] [(0,1,(AI 1)),(1,1,(AI 2))]) fun t2=>
 pK (pC [.p (.int .i64 0),.p (.int .i64 0)] [(0,1,(AI 3)),(1,1,(AI 9))]) fun t3=>
 pK (pC [.p (.int .i64 0),.p (.int .i64 0)] [(0,1,(AI 4)),(1,1,(AI 5))]) fun t4=>
 pK (pC [.p (.int .i64 0),.p (.int .i64 0)] [(0,1,(AI 4)),(1,1,(AI 5))]) fun t5=>
 pK (pC [.p (.int .i64 0),.p (.int .i64 0)] [(0,1,(AI 6)),(1,1,(AI 8))]) fun t6=>
 pK (pC [.p (.int .i64 0),.p (.int .i64 0)] [(0,1,(AI 6)),(1,1,(AI 7))]) fun t7=>
 pK (pC [.p (.int .i64 0),.p (.int .i64 0)] [(0,1,(AI 4)),(1,1,(AI 8))]) fun t8=>
 pK (pC [.p (.int .i64 0),.p (.int .i64 0)] [(0,1,(AI 1)),(1,1,(AI 2))]) fun t9=>
 pK (pC [.p (.int .i64 0),.p (.int .i64 0)] [(0,1,(AI 10)),(1,1,(AI 0))]) fun t10=>
 pK (pC [.p (.int .i64 0),.p (.int .i64 0)] [(0,1,(AI 11)),(1,1,(AI 12))]) fun t11=>
 pK (pC [.p (.int .i64 0),.p (.int .i64 0)] [(0,1,(AI 11)),(1,1,(AI 12))]) fun t12=>
 pK (pC [.p (.int .i64 0),.p (.int .i64 0)] [(0,1,(AI 13)),(1,1,(AI 15))]) fun t13=>
 pK (pC [.p (.int .i64 0),.p (.int .i64 0)] [(0,1,(AI 13)),(1,1,(AI 14))]) fun t14=>
 pK (pC [.p (.int .i64 0),.p (.int .i64 0)] [(0,1,(AI 11)),(1,1,(AI 15))]) fun t15=>
 pK (pC [.p (.int .i64 0),.p (.int .i64 0)] [(0,1,(AI 1)),(1,1,(AI 2))]) fun t16=>
 pK (pC [.p (.int .i64 0),.p (.int .i64 0),.p (.int .i64 0),.p (.int .i64 0),.p (.int .i64 0),.p (.int .i64 0),.p (.int .i64 0),.p (.int .i64 0),.p (.int .i64 0),.p (.int .i64 0),.p (.int .i64 0),.p (.int .i64 0),.p (.int .i64 0),.p (.int .i64 0),.p (.int .i64 0),.p (.int .i64 0),.p (.int .i64 0),.p (.int .i64 0),.p (.int .i64 0),.p (.int .i64 0),.p (.int .i64 0),.p (.int .i64 0),.p (.int .i64 0),.p (.int .i64 0),.p (.int .i64 0),.p (.int .i64 0),.p (.int .i64 0),.p (.int .i64 0),.p (.int .i64 0),.p (.int .i64 0),.p (.int .i64 0),.p (.int .i64 0)] [(0,2,t1),(2,2,t2),(4,2,t3),(6,2,t4),(8,2,t5),(10,2,t6),(12,2,t7),(14,2,t8),(16,2,t9),(18,2,t10),(20,2,t11),(22,2,t12),(24,2,t13),(26,2,t14),(28,2,t15),(30,2,t16)]) fun t17=>
 alK [.p (.int .i64 0),.p (.int .i64 0),.p (.int .i64 0),.p (.int .i64 0),.p (.int .i64 0),.p (.int .i64 0),.p (.int .i64 0),.p (.int .i64 0),.p (.int .i64 0),.p (.int .i64 0),.p (.int .i64 0),.p (.int .i64 0),.p (.int .i64 0),.p (.int .i64 0),.p (.int .i64 0),.p (.int .i64 0),.p (.int .i64 0),.p (.int .i64 0),.p (.int .i64 0),.p (.int .i64 0),.p (.int .i64 0),.p (.int .i64 0),.p (.int .i64 0),.p (.int .i64 0),.p (.int .i64 0),.p (.int .i64 0),.p (.int .i64 0),.p (.int .i64 0),.p (.int .i64 0),.p (.int .i64 0),.p (.int .i64 0),.p (.int .i64 0)] h fun t18 h19 y20=>
 wK (vB (some 32) t18 t17 h19) fun t21 h22 y23=>
 pK (EI 16 (some 2) t18 v0) fun t24=>
 pK (EI 2 none t24 v1) fun t25=>
 pK (FA none t25 h22) fun t26=>
 K .ret ⟨[(4,t26)],h22,(y23++(y20++x))⟩
theorem zdw {C gl v0 v1 h x K}:NW C gl vL.body ⟨enter [v0,v1],h,x⟩ K=eW C gl v0 v1 h x K:=by kernel_rfl
def KY:ACode:=.pr [1,5,6,7,25] (rg [bN 53 .add 25 (cI 1),
mV 25 53] [1,5,6,7,25])
def z11 (C:Hd)(gl:GL)(v1 v5 v6 v7 v25:AV)(h:aA)(x:Esc)(K:KT):Prop:=
 pK (CA .add v25 (AI 1)) fun t1=>
 K .normal ⟨[(1,v1),(5,v5),(6,v6),(7,v7),(25,t1)],h,x⟩
theorem zdy {C gl e h x K}:NW C gl KY ⟨e,h,x⟩ K=z11 C gl (eA e 1) (eA e 5) (eA e 6) (eA e 7) (eA e 25) h x K:=by kernel_rfl
def z0i (q1:ACode):ACode:=.pr [1,5,6,7,25] (.seq (rg [bN 26 .lss 25 (cI 2)] [1,5,6,7,25,26])
(.seq (.cond 26 .skip
(.exit 2))
(.seq (.block 3 (.seq (rg [mV 27 25,
mV 8 27] [1,5,6,7,8,25])
(.seq (rg [mV 28 7,
mV 29 8,
cL 30 rI [28,29],
mV 9 30] [1,5,6,7,8,9,25])
(.seq (rg [mV 32 5,
mV 33 9,
uO 34 (.look (none,[0]) true (.p (.str [])) 32 33),
mV 31 34,
eX 35 31 0,
eX 36 31 1,
mV 10 35,
mV 11 36] [1,5,6,7,8,9,11,25])
(.seq (rg [mV 37 11,
uO 38 (.un .not 37)] [1,5,6,7,8,9,25,38])
(.cond 38 (.seq (rg [mV 39 5,
mV 40 9,
mV 41 5,
mV 42 7,
uO 43 (.look (none,[0]) false (.p (.str [])) 41 42),
mV 44 8,
bN 45 .add (cI 48) 44,
uO 46 (.conv (.i .i32) 45),
uO 47 (.conv .r2s 46),
bN 48 .add 43 47,
wO (.mupd (none,[0]) 39 40 48)] [1,5,6,7,9,25])
(rg [mV 49 6,
mV 50 9,
uO 51 (.bsl false none 1 (.int .i64 0) [(0,50)]),
uO 52 (.mnext (some none) [49,51]),
mV 6 52] [1,5,6,7,25]))
.skip))))))
q1)))
def mN:ACode:=z0i KY
def fW (C:Hd)(gl:GL)(q1:ACode)(v1 v5 v6 v7 v25:AV)(h:aA)(x:Esc)(K:KT):Prop:=
 pK (CA .lss v25 (AI 2)) fun t1=>
 kB t1 (C rI [v7,v25] h fun t2 h3 y4=>
 pK (IA (none,[0]) true (.p (.str [])) v5 t2 h3) fun t5=>
 pK (DI t5 0) fun t6=>
 pK (DI t5 1) fun t7=>
 pK (oUn .not t7) fun t8=>
 kB t8 (pK (IA (none,[0]) false (.p (.str [])) v5 v7 h3) fun t9=>
 pK (CA .add (AI 48) v25) fun t10=>
 pK (iK .i32 t10) fun t11=>
 wK (jE .r2s t11 h3) fun t12 h13 y14=>
 pK (CA .add t9 t12) fun t15=>
 wK (OA (none,[0]) v5 t2 t15 h13) fun t16 h17 y18=>
 wK (oC false none 1 (.int .i64 0) [(0,t2)] h17) fun t19 h20 y21=>
 nqK (some none) [v6,t19] h20 fun t22 h23 y24=>
 NW C gl q1 ⟨[(1,v1),(5,v5),(6,t22),(7,v7),(25,v25)],h23,(y24++(y21++(y18++(y14++(y4++x)))))⟩ K)
 (NW C gl q1 ⟨[(1,v1),(5,v5),(6,v6),(7,v7),(8,v25),(9,t2),(25,v25),(38,t8)],h3,(y4++x)⟩ K))
 (K (.exit 2) ⟨[(1,v1),(5,v5),(6,v6),(7,v7),(25,v25),(26,t1)],h,x⟩)
theorem z6E {C gl q1 e h x K}:NW C gl (z0i q1) ⟨e,h,x⟩ K=fW C gl q1 (eA e 1) (eA e 5) (eA e 6) (eA e 7) (eA e 25) h x K:=by kernel_rfl
theorem zdz {C gl e h x K}:NW C gl mN ⟨e,h,x⟩ K=fW C gl KY (eA e 1) (eA e 5) (eA e 6) (eA e 7) (eA e 25) h x K:=z6E
theorem zf5 {C gl e h x K}:NW C gl (.loop mN) ⟨e,h,x⟩ K=VA C gl mN K [(1,eA e 1),(5,eA e 5),(6,eA e 6),(7,eA e 7),(25,eA e 25)] h x:=GB
def z0j (q2:ACode):ACode:=.pr [1,5,6] (.seq (.seq (rg [mV 17 6,
lN 18 17,
bN 19 .gtr 18 (cI 0)] [1,5,6,19])
(.cond 19 .skip
(.exit 0)))
(.block 1 (.seq (rg [mV 20 6,
iA 21 none 20 (cI 0),
lD 22 none 21,
mV 7 22] [1,5,6,7])
(.seq (rg [mV 23 6,
uO 24 (.slice none 23 (some (cI 1)) none none),
mV 6 24] [1,5,6,7])
(.seq (rg [mV 25 (cI 0)] [1,5,6,7,25])
(.block 2 (.loop q2)))))))
def nN:ACode:=z0j mN
def gW (C:Hd)(gl:GL)(q2:ACode)(v1 v5 v6:AV)(h:aA)(x:Esc)(K:KT):Prop:=
 pK (ZE v6) fun t1=>
 pK (CA .gtr t1 (AI 0)) fun t2=>
 kB t2 (pK (RD none v6 (AI 0) h) fun t3=>
 pK (FA none t3 h) fun t4=>
 pK (FI none v6 (some (AI 1)) none none h) fun t5=>
 NW C gl (.loop q2) ⟨[(1,v1),(5,v5),(6,t5),(7,t4),(25,(AI 0))],h,x⟩ (EC 2 (EC 1 K)))
 (K (.exit 0) ⟨[(1,v1),(5,v5),(6,v6),(19,t2)],h,x⟩)
theorem z6F {C gl q2 e h x K}:NW C gl (z0j q2) ⟨e,h,x⟩ K=gW C gl q2 (eA e 1) (eA e 5) (eA e 6) h x K:=by kernel_rfl
theorem zd0 {C gl e h x K}:NW C gl nN ⟨e,h,x⟩ K=gW C gl mN (eA e 1) (eA e 5) (eA e 6) h x K:=z6F
theorem zf6 {C gl e h x K}:NW C gl (.loop nN) ⟨e,h,x⟩ K=VA C gl nN K [(1,eA e 1),(5,eA e 5),(6,eA e 6)] h x:=GB
def LY:ACode:=.pr [1,5] (.seq (rg [mV 54 5,
mV 55 1,
uO 56 (.look (none,[0]) false (.p (.str [])) 54 55),
mV 4 56] [4])
.ret)
def z12 (C:Hd)(gl:GL)(v1 v5:AV)(h:aA)(x:Esc)(K:KT):Prop:=
 pK (IA (none,[0]) false (.p (.str [])) v5 v1 h) fun t1=>
 K .ret ⟨[(4,t1)],h,x⟩
theorem zd1 {C gl e h x K}:NW C gl LY ⟨e,h,x⟩ K=z12 C gl (eA e 1) (eA e 5) h x K:=by kernel_rfl
def z0h (q3 q4:ACode):ACode:=(.det (.seq (rg [mV 4 (cS [])] [0,1])
(.seq (rg [uO 12 (.mkmap),
mV 13 0,
wO (.mupd (none,[0]) 12 13 (cS [])),
mV 14 12,
mV 5 14] [0,1,5])
(.seq (rg [mV 15 0,
uO 16 (.bsl true none 1 (.int .i64 0) [(0,15)]),
mV 6 16] [1,5,6])
(.seq (.block 0 (.loop q3))
q4)))))
def oO:AFun:=⟨2,[.t 4],z0h nN LY,false,false⟩
def QP (C:Hd)(gl:GL)(q3 q4:ACode)(v0 v1:AV)(h:aA)(x:Esc)(K:KT):Prop:=
 mmK h fun t1 h2 y3=>
 wK (OA (none,[0]) t1 v0 (.p (.str [])) h2) fun t4 h5 y6=>
 wK (oC true none 1 (.int .i64 0) [(0,v0)] h5) fun t7 h8 y9=>
 NW C gl (.loop q3) ⟨[(1,v1),(5,t1),(6,t7)],h8,(y9++(y6++(y3++x)))⟩ (EC 0 (oD C gl q4 K))
theorem z6D {C gl q3 q4 v0 v1 h x K}:NW C gl (z0h q3 q4) ⟨enter [v0,v1],h,x⟩ K=QP C gl q3 q4 v0 v1 h x K:=by kernel_rfl
theorem zdx {C gl v0 v1 h x K}:NW C gl oO.body ⟨enter [v0,v1],h,x⟩ K=QP C gl nN LY v0 v1 h x K:=z6D
def ziH:ACode:=.pr [0,10,11,12] (.seq (rg [bN 13 .lss 12 11] [0,10,11,12,13])
(.seq (.cond 13 .skip
(.exit 0))
(.seq (.block 1 (.seq (rg [iA 14 (some 6) 10 12,
lD 15 (some 6) 14,
uO 4 (.alloc [.p (.int .i64 0),.p (.int .i64 0),.p (.int .i64 0),.p (.str []),.p (.str []),.p (.str [])]),
wO (.store (some 6) 4 15)] [0,4,10,11,12])
(.seq (.seq (rg [fA 16 0 none 4,
lD 17 none 16,
cL 18 lC [17,(cI 1),(cI 10)]] [0,4,10,11,12,18])
(.cond 18 (.seq (rg [mV 2 (cI 4)] [2])
.ret)
.skip))
(.seq (rg [lD 20 (some 6) 4,
cL 21 z2T [20],
mV 19 21,
eX 22 19 0,
eX 23 19 1,
uO 5 (.alloc [.p (.int .i64 0),.p (.int .i64 0),.p (.int .i64 0),.p (.str []),.p (.str []),.p (.str [])]),
wO (.store (some 6) 5 22),
mV 6 23] [0,4,5,6,10,11,12])
(.block 2 (.seq (rg [mV 25 6,
bN 26 .neq 25 (cI 0),
mV 24 26] [0,4,5,6,10,11,12,24])
(.cond 24 (.seq (rg [mV 27 6,
mV 2 27] [2])
.ret)
(.seq (rg [lD 29 (some 6) 5,
fA 30 0 none 4,
lD 31 none 30,
uO 32 (.build [.p (.int .i64 0),.p (.int .i64 0),.p (.int .i64 0),.p (.str []),.p (.str []),.p (.str [])] [(0,1,31)]),
uO 33 (.eqa [0,0,0,2,2,2] true 29 32),
mV 28 33] [0,10,11,12,28])
(.cond 28 (.seq (rg [mV 2 (cI 3)] [2])
.ret)
.skip)))))))))
(rg [bN 34 .add 12 (cI 1),
mV 12 34] [0,10,11,12]))))
def ziI:ACode:=.pr [0] (.seq (.seq (rg [mV 35 0,
cL 36 FW [35,(.c (.nilp))],
uO 37 (.nilchk 36),
fA 38 37 none 37,
lD 39 none 38,
bN 40 .gtr 39 (cI 20000)] [40])
(.cond 40 (.seq (rg [mV 2 (cI 2)] [2])
.ret)
.skip))
(.seq (rg [mV 2 (cI 0)] [2])
.ret))
def ziG:ACode:=(.seq (rg [mV 2 (cI 0)] [0])
(.seq (.seq (rg [mV 7 0,
lN 8 7,
bN 9 .gtr 8 (cI 1000)] [0,9])
(.cond 9 (.seq (rg [mV 2 (cI 2)] [2])
.ret)
.skip))
(.seq (.seq (rg [mV 10 0,
lN 11 10,
mV 12 (cI 0)] [0,10,11,12])
(.block 0 (.loop (.scope ziH))))
ziI)))
def z7Q:AFun:=⟨1,[.t 2],ziG,false,false⟩
def ziJ:ACode:=(.seq (rg [mV 2 (cI 0),
mV 3 (cI 0)] [0])
(.seq (.seq (rg [mV 5 0,
cL 6 z2Q [5],
mV 4 6] [0,4])
(.seq (rg [mV 7 4,
bN 8 .neq 7 (cI 0)] [0,4,8])
(.cond 8 (.seq (rg [mV 9 4,
mV 2 (cI 0),
mV 3 9] [2,3])
.ret)
.skip)))
(.seq (rg [mV 10 0,
cL 11 FW [10,(.c (.nilp))],
uO 12 (.nilchk 11),
fA 13 37 none 12,
lD 14 none 13,
mV 2 14,
mV 3 (cI 0)] [2,3])
.ret)))
def z7R:AFun:=⟨1,[.t 2,.t 3],ziJ,false,false⟩
def ziK:ACode:=(.seq (rg [mV 2 cF] [0])
(.seq (rg [mV 3 0,
bN 4 .eql 3 (cI 7),
mV 5 4,
gD 6 5 false (.mv 0),
gD 7 5 false (.bin .eql 6 (cI 8)),
uO 8 (.pick 5 cT 7),
mV 2 8] [2])
.ret))
def z7S:AFun:=⟨1,[.t 2],ziK,false,false⟩
def ziL:ACode:=(.seq (rg [mV 2 cF] [0])
(.seq (rg [mV 3 0,
cL 4 lC [3,(cI 1),(cI 6)],
uO 5 (.un .not 4),
mV 2 5] [2])
.ret))
def z7T:AFun:=⟨1,[.t 2],ziL,false,false⟩
def ziN:ACode:=.pr [2,4] (.seq (rg [lD 56 (some 6) 4,
wO (.store (some 6) 2 56),
mV 3 (cI 0)] [2,3])
.ret)
def ziM:ACode:=(.seq (rg [uO 1 (.box 0),
uO 2 (.alloc [.p (.int .i64 0),.p (.int .i64 0),.p (.int .i64 0),.p (.str []),.p (.str []),.p (.str [])]),
mV 3 (cI 0)] [1,2])
(.seq (rg [lD 5 (some 6) 1,
uO 4 (.alloc [.p (.int .i64 0),.p (.int .i64 0),.p (.int .i64 0),.p (.str []),.p (.str []),.p (.str [])]),
wO (.store (some 6) 4 5)] [1,2,4])
(.seq (.block 0 (.seq (rg [fA 18 0 none 1,
lD 19 none 18,
bN 20 .eql 19 (cI 1),
mV 21 20,
gD 22 21 false (.faddr 0 none 1),
gD 23 21 false (.load none 22),
gD 24 21 false (.bin .eql 23 (cI 2)),
uO 25 (.pick 21 cT 24),
mV 26 25,
gD 27 26 false (.faddr 0 none 1),
gD 28 26 false (.load none 27),
gD 29 26 false (.bin .eql 28 (cI 10)),
uO 30 (.pick 26 cT 29),
mV 17 30] [1,2,4,17])
(.cond 17 (.seq (rg [fA 31 1 none 4,
wO (.store none 31 (cI 0))] [1,2,4])
(.seq (rg [fA 32 1 none 1,
lD 33 none 32,
cL 34 z2Y [33],
uO 35 (.un .not 34)] [2,4,35])
(.cond 35 (.seq (rg [lD 36 (some 6) 4,
wO (.store (some 6) 2 36),
mV 3 (cI 1)] [2,3])
.ret)
.skip)))
(.seq (rg [fA 38 0 none 1,
lD 39 none 38,
bN 40 .eql 39 (cI 9),
mV 37 40] [1,2,4,37])
(.cond 37 (.seq (rg [fA 41 2 none 4,
wO (.store none 41 (cI 0))] [1,2,4])
(.seq (rg [fA 42 2 none 1,
lD 43 none 42,
cL 44 lC [43,(cI 0),(cI 20000)]] [2,4,44])
(.cond 44 (.seq (rg [lD 45 (some 6) 4,
wO (.store (some 6) 2 45),
mV 3 (cI 1)] [2,3])
.ret)
.skip)))
(.seq (rg [fA 47 0 none 1,
lD 48 none 47,
cL 49 EW [48],
mV 46 49] [1,2,4,46])
(.cond 46 (.seq (rg [fA 50 3 none 4,
wO (.store none 50 (cS [])),
fA 51 4 none 4,
wO (.store none 51 (cS [])),
fA 52 5 none 4,
wO (.store none 52 (cS []))] [1,2,4])
(.seq (dr [dF (lD 53 (some 6) 4) [4],
dF (lD 54 (some 6) 1) [1],
dA (cL 55 z2W [54]) [54] true [] [0],
dT (wO (.store (some 6) 2 53)) [2,53],
dF (mV 3 55) [55]] [2,3])
.ret))
(.seq (rg [fA 6 3 none 4,
wO (.store none 6 (cS []))] [1,2,4])
(.seq (.seq (rg [fA 7 3 none 1,
lD 8 none 7,
cL 9 gI [8],
uO 10 (.un .not 9)] [1,2,4,10])
(.cond 10 (.seq (rg [lD 11 (some 6) 4,
wO (.store (some 6) 2 11),
mV 3 (cI 9)] [2,3])
.ret)
.skip))
(.seq (rg [fA 12 3 none 1,
lD 13 none 12,
uO 14 (.lens 13),
bN 15 .gtr 14 (cI 2000)] [2,4,15])
(.cond 15 (.seq (rg [lD 16 (some 6) 4,
wO (.store (some 6) 2 16),
mV 3 (cI 2)] [2,3])
.ret)
.skip)))))))))))
ziN)))
def z7U:AFun:=⟨1,[.cell 2 (some 6),.t 3],ziM,false,false⟩
def ziP:ACode:=.pr [5,13,14,15] (.seq (rg [bN 16 .lss 15 14] [5,13,14,15,16])
(.seq (.cond 16 .skip
(.exit 0))
(.seq (.block 1 (.seq (rg [iA 17 (some 6) 13 15,
lD 18 (some 6) 17,
uO 7 (.alloc [.p (.int .i64 0),.p (.int .i64 0),.p (.int .i64 0),.p (.str []),.p (.str []),.p (.str [])]),
wO (.store (some 6) 7 18)] [5,7,13,14,15])
(.seq (.seq (rg [mV 19 5,
uO 20 (.nilchk 19),
fA 21 37 none 20,
lD 22 none 21,
bN 23 .gtr 22 (cI 20000)] [5,7,13,14,15,23])
(.cond 23 (.exit 0)
.skip))
(rg [mV 24 5,
lD 25 (some 6) 7,
cL 26 z2V [24,25]] [5,13,14,15]))))
(rg [bN 27 .add 15 (cI 1),
mV 15 27] [5,13,14,15]))))
def ziQ:ACode:=.pr [5] (.seq (rg [mV 28 5,
mV 4 28] [4])
.ret)
def ziO:ACode:=(.seq (rg [mV 4 (.c (.nilp))] [0,1])
(.seq (rg [cL 8 z2Z [],
mV 9 1,
uO 10 (.isnil 0 true 9),
uO 11 (.build [.p (.int .i64 0),.p (.int .i64 0),.p (.int .i64 0),.p (.str []),.p (.str []),.p (.str []),.p (.int .i64 0),.p (.int .i64 0),.p (.int .i64 0),.p (.str []),.p (.str []),.p (.str []),.p (.int .i64 0),.p (.int .i64 0),.p (.int .i64 0),.p (.str []),.p (.str []),.p (.str []),.p (.int .i64 0),.p (.int .i64 0),.p (.int .i64 0),.p (.str []),.p (.str []),.p (.str []),.p (.int .i64 0),.p (.int .i64 0),.p (.int .i64 0),.p (.str []),.p (.str []),.p (.str []),.p (.int .i64 0),.p (.int .i64 0),.p (.int .i64 0),.p (.str []),.p (.str []),.p (.str []),.p (.int .i64 0),.p (.int .i64 0),.p (.int .i64 0),.p (.int .i64 0),.sl0 none,.sl0 none,.sl0 none,.sl0 none,.sl0 none,.p (.bool false)] [(0,36,8),(36,1,(cI 0)),(45,1,10)]),
uO 12 (.uns 12 0 [11]),
mV 5 12] [0,5])
(.seq (.seq (rg [mV 13 0,
lN 14 13,
mV 15 (cI 0)] [5,13,14,15])
(.block 0 (.loop (.scope ziP))))
ziQ)))
def z7V:AFun:=⟨2,[.t 4],ziO,false,false⟩
def ziR:ACode:=(.seq (rg [mV 8 0,
uO 9 (.nilchk 8),
fA 10 37 none 9,
lD 11 none 10,
bN 12 .add 11 (cI 1),
uO 13 (.nilchk 8),
fA 14 37 none 13,
wO (.store none 14 12)] [0,1,2,3])
(.seq (rg [mV 15 0,
uO 16 (.nilchk 15),
fA 17 45 none 16,
lD 18 none 17] [0,1,2,3,18])
(.cond 18 (dr [dF (mV 19 0) [0],
dF (mV 20 0) [0],
dF (mV 21 0) [0],
dF (mV 22 0) [0],
dF (uO 23 (.nilchk 22)) [22],
dF (fA 24 42 none 23) [23],
dF (lD 25 none 24) [24],
dF (mV 26 1) [1],
dF (uO 27 (.bsl false none 1 (.int .u8 0) [(0,26)])) [26],
dT (uO 28 (.app none 25 27)) [25,27],
dF (mV 29 0) [0],
dF (uO 30 (.nilchk 29)) [29],
dF (fA 31 43 none 30) [30],
dA (lD 32 none 31) [31] false [9] [],
dF (mV 33 2) [2],
dA (uO 34 (.bsl false none 1 (.int .u8 0) [(0,33)])) [33] false [9] [],
dT (uO 35 (.app none 32 34)) [32,34],
dF (mV 36 0) [0],
dF (uO 37 (.nilchk 36)) [36],
dF (fA 38 44 none 37) [37],
dA (lD 39 none 38) [38] false [9,16] [],
dF (mV 40 3) [3],
dA (uO 41 (.bsl false none 1 (.int .u8 0) [(0,40)])) [40] false [9,16] [],
dT (uO 42 (.app none 39 41)) [39,41],
dF (uO 43 (.nilchk 19)) [19],
dF (fA 44 42 none 43) [43],
dT (wO (.store none 44 28)) [44,28],
dF (uO 45 (.nilchk 20)) [20],
dF (fA 46 43 none 45) [45],
dT (wO (.store none 46 35)) [46,35],
dF (uO 47 (.nilchk 21)) [21],
dF (fA 48 44 none 47) [47],
dT (wO (.store none 48 42)) [48,42]] [])
.skip)))
def z7W:AFun:=⟨4,[],ziR,false,false⟩
end Go.Am
end
section
/- The functions asv abstract code,and asv formulas aF their values: printed by program out of the translation. -/
set_option linter.all false
set_option maxRecDepth 100000
namespace Go.Am
def ziT:ACode:=.pr [0,3,5,7,9,10,11,12,13,14,93,94] (rg [mV 126 0,
mV 127 13,
mV 128 10,
mV 129 12,
uO 130 (.idxs 128 129),
mV 131 14,
cL 132 fQ [126,127,130,131]] [0,3,5,7,9,10,11,93,94])
def ziU:ACode:=.pr [0,3,5,7,9,10,11,12,13,14,93,94] (.seq (.seq (rg [mV 102 12,
mV 103 5,
uO 104 (.lens 103),
bN 105 .sub 102 104,
mV 15 105] [0,3,5,7,9,10,11,12,13,14,15,93,94])
(.seq (rg [mV 106 15,
bN 107 .geq 106 (cI 0),
mV 108 107,
gD 109 108 true (.mv 15),
gD 110 108 true (.faddr 5 none 3),
gD 111 108 true (.load none 110),
gD 112 108 true (.lens 111),
gD 113 108 true (.bin .lss 109 112),
uO 114 (.pick 108 113 cF),
mV 115 114,
gD 116 115 true (.faddr 5 none 3),
gD 117 115 true (.load none 116),
gD 118 115 true (.mv 15),
gD 119 115 true (.idxs 117 118),
gD 120 115 true (.bin .eql 119 (.c (.p (.int .u8 49)))),
uO 121 (.pick 115 120 cF)] [0,3,5,7,9,10,11,12,13,14,15,93,94,121])
(.cond 121 (rg [fA 122 4 none 3,
lD 123 none 122,
mV 124 15,
uO 125 (.idxs 123 124),
mV 14 125] [0,3,5,7,9,10,11,12,13,14,93,94])
.skip)))
ziT)
def ziV:ACode:=.pr [0,3,5,7,9,10,11,93,94] (rg [bN 133 .add 94 (cI 1),
mV 94 133] [0,3,5,7,9,10,11,93,94])
def ziW:ACode:=.pr [0,3,5,7,9,10,11,93,94] (.seq (rg [bN 95 .lss 94 93] [0,3,5,7,9,10,11,93,94,95])
(.seq (.cond 95 .skip
(.exit 0))
(.seq (.block 1 (.seq (rg [mV 96 94,
mV 12 96] [0,3,5,7,9,10,11,12,93,94])
(.seq (rg [mV 13 (.c (.p (.int .u8 48))),
mV 14 (.c (.p (.int .u8 120)))] [0,3,5,7,9,10,11,12,13,14,93,94])
(.seq (.seq (rg [mV 97 12,
mV 98 10,
uO 99 (.lens 98),
bN 100 .sub 99 (cI 1),
bN 101 .eql 97 100] [0,3,5,7,9,10,11,12,13,14,93,94,101])
(.cond 101 (rg [mV 13 (.c (.p (.int .u8 49)))] [0,3,5,7,9,10,11,12,13,14,93,94])
.skip))
ziU))))
ziV)))
def ziX:ACode:=.pr [0,7,9,11] (.seq (rg [mV 134 0,
mV 135 9,
uO 136 (.nilchk 134),
fA 137 36 none 136,
wO (.store none 137 135)] [0,7,11])
(.seq (rg [mV 138 0,
mV 139 7,
cL 140 AM [138,139]] [11])
(.seq (rg [mV 141 11,
mV 4 141] [4])
.ret)))
def ziY:ACode:=.pr [0,3,5,7,9,10] (.seq (rg [mV 85 0,
uO 86 (.nilchk 85),
fA 87 37 none 86,
lD 88 none 87,
mV 89 5,
uO 90 (.lens 89),
bN 91 .add 88 90,
mV 11 91] [0,3,5,7,9,10,11])
(.seq (.seq (rg [mV 92 10,
uO 93 (.lens 92),
mV 94 (cI 0)] [0,3,5,7,9,10,11,93,94])
(.block 0 (.loop ziW)))
ziX))
def ziZ:ACode:=.pr [0,3,5,6,7,8,9] (.seq (rg [mV 55 0,
mV 56 8,
cL 57 AM [55,56]] [0,3,5,6,7,9])
(.seq (rg [mV 58 5,
fA 59 3 none 3,
lD 60 none 59,
bN 61 .add 58 60,
mV 62 6,
bN 63 .add 61 62,
mV 10 63] [0,3,5,7,9,10])
(.seq (.seq (rg [fA 64 0 none 3,
lD 65 none 64,
bN 66 .eql 65 (cI 7)] [0,3,5,7,9,10,66])
(.cond 66 (rg [mV 67 0,
uO 68 (.nilchk 67),
fA 69 38 none 68,
lD 70 none 69,
mV 71 10,
uO 72 (.lens 71),
bN 73 .add 70 72,
uO 74 (.nilchk 67),
fA 75 38 none 74,
wO (.store none 75 73)] [0,3,5,7,9,10])
(rg [mV 76 0,
uO 77 (.nilchk 76),
fA 78 39 none 77,
lD 79 none 78,
mV 80 10,
uO 81 (.lens 80),
bN 82 .add 79 81,
uO 83 (.nilchk 76),
fA 84 39 none 83,
wO (.store none 84 82)] [0,3,5,7,9,10])))
ziY)))
def ziS:ACode:=(.seq (rg [uO 3 (.box 1),
mV 4 (cI 0)] [0,3])
(.seq (dr [dF (mV 16 0) [0],
dF (uO 17 (.nilchk 16)) [16],
dF (fA 18 0 (some 36) 17) [17],
dF (fA 19 24 (some 6) 18) [18],
dF (fA 20 3 none 19) [19],
dF (lD 21 none 20) [20],
dF (mV 22 0) [0],
dF (uO 23 (.nilchk 22)) [22],
dF (fA 24 0 (some 36) 23) [23],
dF (fA 25 30 (some 6) 24) [24],
dF (fA 26 3 none 25) [25],
dF (lD 27 none 26) [26],
dF (mV 28 0) [0],
dF (uO 29 (.nilchk 28)) [28],
dF (fA 30 0 (some 36) 29) [29],
dF (fA 31 6 (some 6) 30) [30],
dF (fA 32 1 none 31) [31],
dF (lD 33 none 32) [32],
dF (mV 5 21) [21],
dF (mV 6 27) [27],
dF (mV 7 33) [33],
dF (mV 8 (cI 4)) [],
dF (mV 9 (cI 5)) []] [0,3,5,6,7,8,9])
(.seq (.seq (rg [fA 34 0 none 3,
lD 35 none 34,
bN 36 .eql 35 (cI 7)] [0,3,5,6,7,8,9,36])
(.cond 36 (dr [dF (mV 37 0) [0],
dF (uO 38 (.nilchk 37)) [37],
dF (fA 39 0 (some 36) 38) [38],
dF (fA 40 12 (some 6) 39) [39],
dF (fA 41 3 none 40) [40],
dF (lD 42 none 41) [41],
dF (mV 43 0) [0],
dF (uO 44 (.nilchk 43)) [43],
dF (fA 45 0 (some 36) 44) [44],
dF (fA 46 18 (some 6) 45) [45],
dF (fA 47 3 none 46) [46],
dF (lD 48 none 47) [47],
dF (mV 49 0) [0],
dF (uO 50 (.nilchk 49)) [49],
dF (fA 51 0 (some 36) 50) [50],
dF (fA 52 0 (some 6) 51) [51],
dF (fA 53 1 none 52) [52],
dF (lD 54 none 53) [53],
dF (mV 5 42) [42],
dF (mV 6 48) [48],
dF (mV 7 54) [54],
dF (mV 8 (cI 11)) [],
dF (mV 9 (cI 12)) []] [0,3,5,6,7,8,9])
.skip))
ziZ)))
def z7X:AFun:=⟨2,[.t 4],ziS,false,false⟩
def zja:ACode:=.pr [0,4,35,36] (.seq (rg [bN 37 .lss 36 35] [0,4,35,36,37])
(.seq (.cond 37 .skip
(.exit 1))
(.seq (.block 2 (rg [mV 38 0,
cL 39 fQ [38,(.c (.p (.int .u8 48))),(.c (.p (.int .u8 48))),(.c (.p (.int .u8 120)))]] [0,4,35,36]))
(rg [bN 40 .add 36 (cI 1),
mV 36 40] [0,4,35,36]))))
def zjb:ACode:=.pr [0,4] (.seq (dr [dF (mV 41 0) [0],
dF (mV 42 0) [0],
dF (uO 43 (.nilchk 42)) [42],
dF (fA 44 40 none 43) [43],
dF (lD 45 none 44) [44],
dF (mV 46 0) [0],
dF (uO 47 (.nilchk 46)) [46],
dF (fA 48 36 none 47) [47],
dF (lD 49 none 48) [48],
dF (uO 50 (.bsl false none 1 (.int .i64 0) [(0,49)])) [49],
dT (uO 51 (.app none 45 50)) [45,50],
dF (uO 52 (.nilchk 41)) [41],
dF (fA 53 40 none 52) [52],
dT (wO (.store none 53 51)) [53,51]] [0,4])
(rg [mV 54 0,
mV 55 0,
uO 56 (.nilchk 55),
fA 57 41 none 56,
lD 58 none 57,
mV 59 4,
uO 60 (.bsl false none 1 (.int .i64 0) [(0,59)]),
uO 61 (.app none 58 60),
uO 62 (.nilchk 54),
fA 63 41 none 62,
wO (.store none 63 61)] []))
def z6W (q1 q2:ACode):ACode:=(.seq (rg [uO 3 (.box 1)] [0,3])
(.seq (rg [mV 4 (cI 0)] [0,3,4])
(.seq (.block 0 (.seq (rg [fA 10 0 none 3,
lD 11 none 10,
cL 12 z2S [11],
mV 9 12] [0,3,4,9])
(.cond 9 (dr [dF (mV 13 0) [0],
dF (uO 14 (.nilchk 13)) [13],
dF (fA 15 0 (some 36) 14) [14],
dF (fA 16 0 none 3) [3],
dF (lD 17 none 16) [16],
dT (cL 18 z2X [15,17]) [15,17],
dA (lD 19 (some 6) 3) [3] false [5] [],
dF (uO 20 (.nilchk 18)) [18],
dT (wO (.store (some 6) 20 19)) [20,19]] [0,4])
(.seq (rg [fA 22 0 none 3,
lD 23 none 22,
cL 24 EW [23],
mV 21 24] [0,3,4,21])
(.cond 21 (rg [mV 25 0,
lD 26 (some 6) 3,
cL 27 z2U [25,26],
mV 4 27] [0,4])
(.seq (rg [fA 29 0 none 3,
lD 30 none 29,
bN 31 .eql 30 (cI 9),
mV 28 31] [0,3,4,28])
(.cond 28 (.seq (rg [mV 32 0,
cL 33 AM [32,(cI 1)]] [0,3,4])
(.seq (rg [fA 34 2 none 3,
lD 35 none 34,
mV 36 (cI 0)] [0,4,35,36])
(.block 1 (.loop q1))))
(rg [mV 5 0,
fA 6 1 none 3,
lD 7 none 6,
cL 8 AM [5,7]] [0,4]))))))))
q2)))
def z7Y:AFun:=⟨2,[],z6W zja zjb,false,false⟩
def zjd:ACode:=.pr [0,1,4,17,18] (.seq (rg [bN 19 .lss 18 17] [0,1,4,17,18,19])
(.seq (.cond 19 .skip
(.exit 0))
(.seq (.block 1 (.seq (rg [mV 20 18,
mV 6 20] [0,1,4,6,17,18])
(rg [mV 21 0,
mV 22 4,
mV 23 6,
uO 24 (.idxs 22 23),
cL 25 fQ [21,24,(.c (.p (.int .u8 48))),(.c (.p (.int .u8 120)))]] [0,1,4,17,18])))
(rg [bN 26 .add 18 (cI 1),
mV 18 26] [0,1,4,17,18]))))
def zje:ACode:=.pr [0,1] (rg [mV 27 0,
mV 28 1,
uO 29 (.nilchk 27),
fA 30 36 none 29,
wO (.store none 30 28)] [])
def zjc:ACode:=(.seq (rg [mV 8 0,
uO 9 (.nilchk 8),
fA 10 36 none 9,
lD 11 none 10,
mV 12 1,
cL 13 z2P [11,12],
mV 7 13,
eX 14 7 0,
eX 15 7 1,
mV 4 14,
mV 5 15] [0,1,4])
(.seq (.seq (rg [mV 16 4,
uO 17 (.lens 16),
mV 18 (cI 0)] [0,1,4,17,18])
(.block 0 (.loop zjd)))
zje))
def z7Z:AFun:=⟨2,[],zjc,false,false⟩
def zjf:ACode:=(.seq (rg [uO 1 (.box 0),
mV 2 (cI 0)] [1])
(.seq (.block 0 (.seq (rg [fA 4 3 none 1,
lD 5 none 4,
bN 6 .eql 5 (cS []),
mV 3 6] [1,3])
(.cond 3 (.seq (rg [mV 2 (cI 8)] [2])
.ret)
(.seq (rg [fA 8 3 none 1,
lD 9 none 8,
cL 10 gI [9],
uO 11 (.un .not 10),
mV 7 11] [1,7])
(.cond 7 (.seq (rg [mV 2 (cI 9)] [2])
.ret)
(.seq (rg [fA 13 3 none 1,
lD 14 none 13,
uO 15 (.lens 14),
bN 16 .gtr 15 (cI 2000),
mV 12 16] [1,12])
(.cond 12 (.seq (rg [mV 2 (cI 2)] [2])
.ret)
(.seq (rg [fA 18 4 none 1,
lD 19 none 18,
bN 20 .neq 19 (cS []),
mV 21 20,
gD 22 21 true (.faddr 4 none 1),
gD 23 21 true (.load none 22),
gD 24 21 true (.lens 23),
gD 25 21 true (.faddr 3 none 1),
gD 26 21 true (.load none 25),
gD 27 21 true (.lens 26),
gD 28 21 true (.bin .neq 24 27),
gD 29 21 true (.mv 28),
gD 30 29 false (.faddr 5 none 1),
gD 31 29 false (.load none 30),
gD 32 29 false (.lens 31),
gD 33 29 false (.faddr 3 none 1),
gD 34 29 false (.load none 33),
gD 35 29 false (.lens 34),
gD 36 29 false (.bin .neq 32 35),
gD 37 21 true (.pick 29 cT 36),
uO 38 (.pick 21 37 cF),
mV 17 38] [1,17])
(.cond 17 (.seq (rg [mV 2 (cI 3)] [2])
.ret)
(.seq (rg [fA 40 4 none 1,
lD 41 none 40,
cL 42 gI [41],
uO 43 (.un .not 42),
mV 44 43,
gD 45 44 false (.faddr 5 none 1),
gD 46 44 false (.load none 45),
gD 47 44 false (.call gI [46]),
gD 48 44 false (.un .not 47),
uO 49 (.pick 44 cT 48),
mV 39 49] [1,39])
(.cond 39 (.seq (rg [mV 2 (cI 9)] [2])
.ret)
(.seq (rg [fA 51 4 none 1,
lD 52 none 51,
bN 53 .eql 52 (cS []),
mV 54 53,
gD 55 54 true (.faddr 5 none 1),
gD 56 54 true (.load none 55),
gD 57 54 true (.bin .neq 56 (cS [])),
uO 58 (.pick 54 57 cF),
mV 50 58] [50])
(.cond 50 (.seq (rg [mV 2 (cI 3)] [2])
.ret)
.skip)))))))))))))
(.seq (rg [mV 2 (cI 0)] [2])
.ret)))
def z8a:AFun:=⟨1,[.t 2],zjf,false,false⟩
def zjg:ACode:=(.seq (rg [mV 4 (.c (.nilp))] [0,1])
(.seq (.seq (rg [mV 5 1] [0,5])
(.block 0 (.seq (rg [bN 7 .eql 5 (cI 1),
mV 6 7] [0,5,6])
(.cond 6 (.seq (rg [mV 8 0,
uO 9 (.nilchk 8),
fA 10 0 (some 6) 9,
mV 4 10] [4])
.ret)
(.seq (rg [bN 12 .eql 5 (cI 2),
mV 11 12] [0,5,11])
(.cond 11 (.seq (rg [mV 13 0,
uO 14 (.nilchk 13),
fA 15 6 (some 6) 14,
mV 4 15] [4])
.ret)
(.seq (rg [bN 17 .eql 5 (cI 3),
mV 16 17] [0,5,16])
(.cond 16 (.seq (rg [mV 18 0,
uO 19 (.nilchk 18),
fA 20 12 (some 6) 19,
mV 4 20] [4])
.ret)
(.seq (rg [bN 22 .eql 5 (cI 4),
mV 21 22] [0,5,21])
(.cond 21 (.seq (rg [mV 23 0,
uO 24 (.nilchk 23),
fA 25 18 (some 6) 24,
mV 4 25] [4])
.ret)
(.seq (rg [bN 27 .eql 5 (cI 5),
mV 26 27] [0,26])
(.cond 26 (.seq (rg [mV 28 0,
uO 29 (.nilchk 28),
fA 30 24 (some 6) 29,
mV 4 30] [4])
.ret)
.skip))))))))))))
(.seq (rg [mV 31 0,
uO 32 (.nilchk 31),
fA 33 30 (some 6) 32,
mV 4 33] [4])
.ret)))
def z8b:AFun:=⟨2,[.t 4],zjg,false,false⟩
def zjh:ACode:=(.seq (rg [mV 2 cF] [0])
(.seq (rg [mV 3 0,
bN 4 .eql 3 (cI 0),
mV 5 4,
gD 6 5 false (.mv 0),
gD 7 5 false (.bin .eql 6 (cI 1)),
uO 8 (.pick 5 cT 7),
mV 9 8,
gD 10 9 false (.mv 0),
gD 11 9 false (.bin .eql 10 (cI 6)),
uO 12 (.pick 9 cT 11),
mV 13 12,
gD 14 13 false (.mv 0),
gD 15 13 false (.bin .eql 14 (cI 13)),
uO 16 (.pick 13 cT 15),
mV 2 16] [2])
.ret))
def z8c:AFun:=⟨1,[.t 2],zjh,false,false⟩
def zji:ACode:=(.seq (rg [uO 0 (.alloc [.p (.int .i64 0),.p (.int .i64 0),.p (.int .i64 0),.p (.str []),.p (.str []),.p (.str []),.p (.int .i64 0),.p (.int .i64 0),.p (.int .i64 0),.p (.str []),.p (.str []),.p (.str []),.p (.int .i64 0),.p (.int .i64 0),.p (.int .i64 0),.p (.str []),.p (.str []),.p (.str []),.p (.int .i64 0),.p (.int .i64 0),.p (.int .i64 0),.p (.str []),.p (.str []),.p (.str []),.p (.int .i64 0),.p (.int .i64 0),.p (.int .i64 0),.p (.str []),.p (.str []),.p (.str []),.p (.int .i64 0),.p (.int .i64 0),.p (.int .i64 0),.p (.str []),.p (.str []),.p (.str [])])] [0])
(.seq (rg [uO 1 (.build [.p (.int .i64 0),.p (.int .i64 0),.p (.int .i64 0),.p (.str []),.p (.str []),.p (.str [])] [(0,1,(cI 1)),(1,1,(cI 1))]),
uO 2 (.build [.p (.int .i64 0),.p (.int .i64 0),.p (.int .i64 0),.p (.str []),.p (.str []),.p (.str [])] [(0,1,(cI 2)),(1,1,(cI 1))]),
uO 3 (.build [.p (.int .i64 0),.p (.int .i64 0),.p (.int .i64 0),.p (.str []),.p (.str []),.p (.str [])] [(0,1,(cI 3))]),
uO 4 (.build [.p (.int .i64 0),.p (.int .i64 0),.p (.int .i64 0),.p (.str []),.p (.str []),.p (.str [])] [(0,1,(cI 4))]),
uO 5 (.build [.p (.int .i64 0),.p (.int .i64 0),.p (.int .i64 0),.p (.str []),.p (.str []),.p (.str [])] [(0,1,(cI 5))]),
uO 6 (.build [.p (.int .i64 0),.p (.int .i64 0),.p (.int .i64 0),.p (.str []),.p (.str []),.p (.str [])] [(0,1,(cI 6))]),
uO 7 (.build [.p (.int .i64 0),.p (.int .i64 0),.p (.int .i64 0),.p (.str []),.p (.str []),.p (.str []),.p (.int .i64 0),.p (.int .i64 0),.p (.int .i64 0),.p (.str []),.p (.str []),.p (.str []),.p (.int .i64 0),.p (.int .i64 0),.p (.int .i64 0),.p (.str []),.p (.str []),.p (.str []),.p (.int .i64 0),.p (.int .i64 0),.p (.int .i64 0),.p (.str []),.p (.str []),.p (.str []),.p (.int .i64 0),.p (.int .i64 0),.p (.int .i64 0),.p (.str []),.p (.str []),.p (.str []),.p (.int .i64 0),.p (.int .i64 0),.p (.int .i64 0),.p (.str []),.p (.str []),.p (.str [])] [(0,6,1),(6,6,2),(12,6,3),(18,6,4),(24,6,5),(30,6,6)]),
wO (.store (some 36) 0 7)] [0])
.ret))
def z8d:AFun:=⟨0,[.cell 0 (some 36)],zji,false,false⟩
end Go.Am
end
section
/- The abstract machine,part L: functions of the library that are met by the kit's contracts: plain values in,plain values out,new memory at most. -/
set_option linter.unusedSimpArgs false
set_option linter.unusedVariables false
namespace Go.Am
variable {P:Program} {gl:Nat→Option PV}
structure PureRow (P:Program) (gl:Nat→Option PV) (f:Nat) (spec:List PV→Option AV):Prop where
 enter:∀us w,(callFunc f us).run P w = .ok (.enter f us) w
 run:∀(M:Mem) (w:World) (vs:List PV) (r:AV) (us:List Value),(∀b o v,M.c b o=some v→w.cell? ⟨b,o,none⟩=some v)→(∀b o,M.b b=some o→w.heap[b]?=some o)→ZD gl M→vs.length=us.length →
  (∀(j:Nat) (y:PV) (v:Value),vs[j]?=some y→us[j]?=some v→RPV M y v)→spec vs=some r →
  Calls P f us.toArray w fun e w'=>∃x,e = .returned x∧WExt w w'∧RAV (TG M w w') [] [] r x
abbrev OE:=List (Nat × (List PV→Option AV))
def KG:OE→Nat→List AV→aA→Option (AV × aA × Esc)
 | [],_,_,_=>none
 | (g,s)::r,f,asv,h=>bif Nat.beq f g then((unp asv).bind s).map fun v=>(v,h,[]) else KG r f asv h
theorem UY:∀ (gs:OE),(∀ g s,(g,s)∈gs→PureRow P gl g s)→∀ {f:Nat} {asv:List AV} {h:aA} {v:AV} {h':aA} {x:Esc},KG gs f asv h=some (v,h',x) →
 CC P gl f asv h fun v1 h1 x1=>v1=v∧h1=h'∧x1=x
 | [],_,f,asv,h,v,h',x,H=>by cases H
 | (g,s)::r,hg,f,asv,h,v,h',x,H=>by
  unfold KG at H;cases e1:Nat.beq f g with
  | false=>
   rw[e1]at H;exact UY r (fun g sh hm=>hg g sh (by simp [hm])) H
  | true=>
   rw[e1]at H;have e:=Nat.eq_of_beq_eq_true e1
   subst e;have R:=hg f s (by simp)
   simp only[cond_true]at H;obtain⟨y,hy,e2⟩:=Option.map_eq_some_iff.1 H;simp only[Prod.mk.injEq]at e2;obtain⟨rfl,rfl,rfl⟩:=e2;obtain⟨ps,hps,hs⟩:=Option.bind_eq_some_iff.1 hy;have hm:=oL hps
   subst hm;intro μ w vs Hh Hg hl hr;refine .inl ⟨R.enter _,?_⟩;refine(R.run (imm h μ w) w ps y vs (fun b o v hv=>(PD.1 hv).2) (fun b o hv=>(mH.1 hv).2) Hg (by simpa using hl) (fun j q v hq hv=>(hr j (.p q) v (by simp [hq]) hv).p_inv) hs).mono fun e w' he=>?_
   obtain⟨u,rfl,g1,g2⟩:=he;obtain⟨n1,n2⟩:=Hh.ext g1;have Lq:(TG (imm h μ w) w w').le (imm h μ w'):=by
    refine⟨fun b o v hv=>?_,fun b o hv=>?_,rfl,fun _ _ h=>by cases h⟩
    ·dsimp only[TG]at hv
     split at hv
     ·exact n2.le.c _ _ _ hv
     ·rename_i hb
      exact PD.2 ⟨fun hO=>hb (mX Hh hO),hv⟩
    ·dsimp only[TG]at hv
     cases hv
   exact⟨_,_,_,μ,⟨rfl,rfl,rfl⟩,g2.evo ⟨Lq,Nat.zero_le _,fun id o m h1=>by simp at h1⟩,n1,n2,oA.refl h []⟩
def SF (gs:List (Nat × Sh))(ps:OE)(f:Nat)(asv:List AV)(h:aA):Option (AV×aA×Esc):=match EG gs f asv h with
 | some y=>some y
 | none=>match KG ps f asv h with
  | some y=>some y
  | none=>match mA h asv with
   | some (asv',h1)=>KG ps f asv' h1
   | none=>none
theorem zjt {ps:OE}(hp:∀ g s,(g,s)∈ps→PureRow P gl g s){f:Nat}{asv asv':List AV}{h h1:aA}{v:AV}{h':aA}{x:Esc}(hq:mA h asv=some (asv',h1))(H:KG ps f asv' h1=some (v,h',x)) :
 CC P gl f asv h fun v1 h2 x1=>v1=v∧h2=h'∧x1=x:=by
 intro μ w vs Hh Hg hl hr;obtain⟨q1,q2,q3⟩:=UR asv Hh hl hr hq;rcases UY ps hp H μ w vs q1.1 (Hg.mono q1.2.1.le) q2 q3 with⟨k1,k2⟩|⟨r,w',v2,h2,x2,μ',k1,k2,k3,k4,k5,k6⟩
 ·refine .inl ⟨k1,k2.mono fun e w' he=>?_⟩
  cases e with
  | returned r=>
   obtain⟨v2,h2,x2,μ',k2,k3,k4,k5,k6⟩:=he;exact⟨v2,h2,x2,μ',k2,k3,k4,q1.2.1.trans k5,by simpa using q1.2.2.trans k6⟩
  | panicked _=>exact he
  | outgrown=>exact he
 ·exact .inr ⟨r,w',v2,h2,x2,μ',k1,k2,k3,k4,q1.2.1.trans k5,by simpa using q1.2.2.trans k6⟩
theorem libF_ok {gs:List (Nat × Sh)}{ps:OE}(hg:∀ g sh,(g,sh)∈gs→GrowRow P g sh)(hp:∀ g s,(g,s)∈ps→PureRow P gl g s){f:Nat}{asv:List AV}{h:aA}{v:AV}{h':aA}{x:Esc}(H:SF gs ps f asv h=some (v,h',x)) :
 CC P gl f asv h fun v1 h1 x1=>v1=v∧h1=h'∧x1=x:=by
 unfold SF at H;split at H
 ·rename_i y hy
  cases H;exact z3O gs hg hy
 ·split at H
  ·rename_i y hy
   cases H;exact UY ps hp hy
  ·split at H
   ·rename_i asv' h1 hq
    exact zjt hp hq H
   ·cases H
theorem z4g {X:Ctx}{f:Nat}{asv:List AV}{h h':aA}{v:AV}{x:Esc}{K:jA}(hf:X.fn f=none)(hx:X.ex2 f asv h=some (v,h',x)):bA X f asv h K=K v h' x:=by
 refine propext (bA.eq (bA.fold ?_) K);unfold OB;simp only[hf,hx];exact⟨trivial,trivial,trivial⟩
def pQ:List (Nat × Sh)→Nat→Option Sh
 | [],_=>none
 | (g,s)::r,f=>bif Nat.beq f g then some s else pQ r f
theorem z3N:∀ {gs:List (Nat × Sh)} {f:Nat} {sh s':Sh} {n:Int} {h:aA},pQ gs f=some sh→0≤n→n≤1048576→EG gs f [.sl0 s',.p (.int .i64 n)] h=some (.own h.length 0 0 0,h++[.row sh [] 0],[])
 | [],f,sh,s',n,h,hm,_,_=>by cases hm
 | (g,s)::r,f,sh,s',n,h,hm,h0,h1=>by
  unfold pQ at hm;unfold EG;cases hq:Nat.beq f g with
  | true=>rw[hq]at hm;cases hm;simp [h0,h1]
  | false=>rw[hq]at hm;exact z3N hm h0 h1
theorem zfJ {gs:List (Nat × Sh)}{ps:OE}{f:Nat}{sh s':Sh}{n:Int}{h:aA}(hm:pQ gs f=some sh)(h0:0≤n)(h1:n≤1048576):SF gs ps f [.sl0 s',.p (.int .i64 n)] h=some (.own h.length 0 0 0,h++[.row sh [] 0],[]):=by
 unfold SF;rw[z3N hm h0 h1]
def glOf:List (Nat × PV)→Nat→Option PV
 | [],_=>none
 | (g,v)::r,n=>bif Nat.beq n g then some v else glOf r n
theorem zno {f:Nat}(h:(match P.funcs[f]? with | some fn=>fn.body.isSome&&fn.name != "runtime.NumGoroutine" | none=>false)=true)(us:Array Value)(w:World):(callFunc f us).run P w = .ok (.enter f us) w:=by
 cases hf:P.funcs[f]? with
 | none=>rw[hf]at h;cases h
 | some fn=>
  rw[hf]at h;simp only[Bool.and_eq_true,bne_iff_ne,ne_eq]at h;cases hb:fn.body with
  | none=>rw[hb]at h;cases h.1
  | some c=>exact WP hf hb h.2 us w
theorem znq {M:Mem}:ZD (glOf []) M:=fun n v hv=>by cases hv
def digC (n:Nat):UInt8:=UInt8.ofNat (48+n)
def decN (n:Nat):List UInt8:=if n<10 then [digC n] else decN (n / 10)++[digC (n%10)]
termination_by n
decreasing_by omega
def itoa (n:Int):List UInt8:=if n<0 then 45::decN n.natAbs else decN n.natAbs
def z4a:List PV→Option AV
 | [.int .i64 n]=>bif decide (-9223372036854775808≤n)&&decide (n≤9223372036854775807) then some (.p (.str (itoa n))) else none
 | _=>none
def digN:Nat→List UInt8→Option Nat
 | acc,[]=>some acc
 | acc,c::r=>if 48≤c.toNat∧c.toNat≤57 then digN (acc*10+(c.toNat-48)) r else none
def z08:List PV→Option AV
 | [.str s]=>if 1≤s.length∧s.length≤18 then match digN 0 s with
  | some n=>some (.tup [.p (.int .i64 (n:Int)),.nili])
  | none=>if s.head?=some 45∧2≤s.length then(digN 0 s.tail).map fun(n:Nat)=>.tup [.p (.int .i64 (-(n:Int))),.nili] else none
  else none
 | _=>none
def repL (s:List UInt8):Nat→List UInt8
 | 0=>[]
 | c+1=>s++repL s c
def z4V:List PV→Option AV
 | [.str s,.int .i64 c]=>if 0≤c∧s.length*c.toNat≤1000000∧c≤1000000 then some (.p (.str (repL s c.toNat))) else none
 | _=>none
def z5Z (s cs:List UInt8):List UInt8:=(s.reverse.dropWhile (cs.contains ·)).reverse.dropWhile (cs.contains ·)
def trimS:List PV→Option AV
 | [.str s,.str cs]=>if s.length≤1000000∧cs.length≤1000∧cs.all (fun b=>decide (b.toNat<128))=true then some (.p (.str (z5Z s cs))) else none
 | _=>none
def ctzF:Nat→Nat→Nat
 | 0,_=>0
 | f+1,x=>if x%2=1 then 0 else 1+ctzF f (x / 2)
def ctzN (x:Nat):Nat:=if x=0 then 64 else ctzF 64 x
def ctzS:List PV→Option AV
 | [.int .u64 n]=>if 0≤n∧n<18446744073709551616 then some (.p (.int .i64 (ctzN n.toNat:Nat))) else none
 | _=>none
def z1u:List PV→Option AV
 | [.str s,.str [c]]=>some (.p (.int .i64 (s.count c)))
 | _=>none
def z5R:List PV→Option (List (List UInt8))
 | []=>some []
 | .str s::r=>(z5R r).map (s :: ·)
 | _=>none
def z4d:List PV→Option AV
 | [.sl none xs,.str sep]=>(z5R xs).bind fun l=>if l.length≤1000000∧(sep.intercalate l).length≤1000000000 then some (.p (.str (sep.intercalate l))) else none
 | _=>none
def isCmd:PV→Bool
 | .agg [.int .i64 _,.int .i64 _,.int .i64 _,.str _,.str _,.str _]=>true
 | _=>false
def zau:PV→Int
 | .agg (.int _ k::_)=>k
 | _=>0
def idleP:PV:=.agg [.int .i64 0,.int .i64 1,.int .i64 0,.str [],.str [],.str []]
def zf7 (l:List PV)(k:Int):PV:=(l.reverse.find? fun c=>zau c==k).getD idleP
def z5J:List PV→Option AV
 | [.sl (some 6) xs,.int .i64 i,.int .i64 k]=>if 0≤i∧i≤(xs.length:Int)∧xs.length≤1000000∧xs.all isCmd=true then some (.p (zf7 (xs.take i.toNat) k)) else none
 | _=>none
end Go.Am
end
section
/- The abstract machine,part C: bB calls that say true,asv contracts. -/
set_option linter.all false
namespace Go.Am
variable {P:Program} {gl:Nat→Option PV}
def GN:List PV→Option AV
 | []=>some (AB true)
 | _=>none
theorem RPV.mono' {M M':Mem}(hM:∀ b o v,M.c b o=some v→M'.c b o=some v){v:PV}{x:Value}(H:RPV M v x):RPV M' v x:=by
 induction H with
 | int k n=>exact .int k n
 | bool b=>exact .bool b
 | str s=>exact .str s
 | nilp=>exact .nilp
 | unk k n=>exact .unk k n
 | nils sh a cap=>exact .nils sh a cap
 | sl sh xs b o cap f hne hc he hm hr ih=>exact .sl sh xs b o cap f hne hc he (fun j y hy=>hM _ _ _ (hm j y hy)) ih
 | agg cs vs hl hr ih=>exact .agg cs vs hl ih
theorem ZD.mono' {M M':Mem}(hc:∀ b o v,M.c b o=some v→M'.c b o=some v)(hb:∀ b o,M.b b=some o→M'.b b=some o)(H:ZD gl M):ZD gl M':=fun n v hv=>by
 obtain⟨h1,cs,t,x,h2,h3⟩:=H n v hv;refine⟨?_,cs,t,x,hb _ _ h2,h3⟩;cases h1 with|vp _ _ _ f hm hr=>exact .vp v n 0 f (fun j y hy=>hc _ _ _ (hm j y hy)) (fun j y hy=>(hr j y hy).mono' hc)
theorem znr {X:Ctx}(HX:Fits P X){f:Nat}(H:bA X f [] [] fun v h x=>v=AB true∧h=[]∧x=[])(he:∀ us w,(callFunc f us).run P w = .ok (.enter f us) w):PureRow P X.gl f GN:=by
 refine⟨he,fun M w vs r us hc hb hG hl hr hs=>?_⟩
 cases vs with
 | cons a l=>cases hs
 | nil=>
  have hu:us=[]:=List.length_eq_zero_iff.1 (by simpa using hl.symm)
  subst hu;simp only[GN,Option.some.injEq]at hs;subst hs;have hno:∀b o,¬dG ([]:aA) ([]:Mu) b o:=fun b o ⟨id,n,h1,_⟩=>by simp at h1
  have hnt:∀b,¬YI ([]:Mu) b:=fun b ⟨id,n,h1⟩=>by simp at h1
  have hG':ZD X.gl (imm [] [] w):=hG.mono' (fun b o v h=>PD.2 ⟨hno b o,hc b o v h⟩) (fun b o h=>mH.2 ⟨hnt b,hb b o h⟩)
  have hR:HeapRel [] [] w:=⟨rfl,fun id o m h1=>by simp at h1,fun i j b n n' h1=>by simp at h1,fun i b n h1=>by simp at h1⟩
  rcases z0U HX H [] w [] hR hG' rfl (fun j y v h1=>by simp at h1) with⟨_,q⟩|⟨r,w',v,h',x,μ',q,_⟩
  ·refine q.mono fun e w' h=>?_
   cases e with
   | panicked _=>exact h.elim
   | outgrown=>exact h.elim
   | returned r=>
    obtain⟨v,h',x,μ',⟨rfl,rfl,rfl⟩,h1,h2,h3,h4⟩:=h;have hm:μ'=[]:=List.length_eq_zero_iff.1 (by simpa using h2.len)
    subst hm;have hbl:∀b o,w.heap[b]?=some o→w'.heap[b]?=some o:=fun b o h=>(mH.1 (h3.le.b b o (mH.2 ⟨hnt b,h⟩))).2
    refine⟨r,rfl,⟨?_,fun b hb=>?_,?_⟩,?_⟩
    ·rcases Nat.lt_or_ge w'.heap.size w.heap.size with q|q
     ·have:=hbl w'.heap.size _ (Array.getElem?_eq_getElem q)
      simp at this
     ·exact q
    ·rw[hbl b _ (Array.getElem?_eq_getElem hb),Array.getElem?_eq_getElem hb]
    ·have:=h3.le.z
     simpa [imm] using this
    ·have:=h1.p_bool
     rw[this];exact .p _ _ (.bool true)
  ·rw[he]at q
   cases q
end Go.Am
end
section
/- The functions together. -/
set_option linter.all false
set_option maxRecDepth 100000
namespace Go.Am
def fns:List (Nat × AFun):=[(dQ,fT),(gH,tT),(fH,rT),(vM,TT),(lI,gT),(JJ,WT),(wM,UT),(fM,iT),(xM,VT),(CJ,jT),(qM,LT),(pM,JT),(qF,qT),(iM,lT),(jM,vT),(iI,LN),(rF,VN),(nM,HT),(oI,OT),(MF,XN),(mM,GT),(xG,lO),(jH,ZN),(HJ,FT),(kH,aO),(OF,iO),(lH,mO),(OJ,XT),(yM,ZT),(SE,nT),(pF,pT),(KC,uT),(tG,mT),(vE,oT),(uG,yT),(kM,xT),(oM,IT),(DJ,wT),(lM,DT),(uM,ST),(eH,QN),(dH,PN),(UE,nO),(fE,MN),(lC,ON),(jI,NN),(IJ,WN),(QJ,jO),(KJ,YN),(NF,fO),(sM,NT),(PJ,YT),(iH,TN),(mI,kT),(GJ,ET),(TE,zT),(wE,BT),(EJ,AT),(rM,MT),(vG,PT),(kI,RN),(AJ,SN),(NJ,eO),(MJ,cO),(qI,dO),(pI,RT),(dM,bT),(nI,UN),(FJ,CT),(LJ,bO),(tM,QT),(eM,eT),(zM,aU),(cM,aT)]
def GRL:List (Nat × Sh):=[(eQ,(some 8))]
def PRL:OE:=[(CW,trimS),(BJ,GN)]
def GLL:List (Nat × PV):=[]
def EM:List (Nat × AFun)→Nat→Option AFun
 | [],_=>none
 | (k,F)::r,n=>bif Nat.beq k n then some F else EM r n
def X:Ctx:=⟨EM fns,glOf GLL,fI rG sG,SF GRL PRL⟩
theorem OW {p:Nat→AFun→Bool}:∀(l:List (Nat×AFun)),(l.all fun y=>p y.1 y.2)=true→∀n F,EM l n=some F→p n F=true
 | [],_,n,F,h=>by cases h
 | (k,G)::r,ha,n,F,h=>by
  simp only[List.all_cons,Bool.and_eq_true]at ha;simp only[EM]at h;cases hk:Nat.beq k n with
  | true=>
   rw[hk]at h;have:=Nat.eq_of_beq_eq_true hk;simp only[cond_true,Option.some.injEq]at h;subst this;subst h;exact ha.1
  | false=>
   rw[hk]at h;exact OW r ha.2 n F h
def fns0:List (Nat × AFun):=[(BJ,z7D),(iI,LN),(rF,VN),(MF,XN),(xG,lO),(jH,ZN),(kH,aO),(OF,iO),(lH,mO),(z2j,z7i),(z2F,z7E),(z2z,z70),(z2R,z7R),(z29,z77),(z2O,z7N),(z2E,z7C),(eH,QN),(dH,PN),(UE,nO),(fE,MN),(lC,ON),(jI,NN),(IJ,WN),(QJ,jO),(KJ,YN),(NF,fO),(iH,TN),(z2h,z7g),(z2s,z7s),(cQ,z7t),(z2y,z7z),(z2Q,z7Q),(FW,z7V),(z2C,z7A),(z2B,z79),(zW,z7e),(kI,RN),(AJ,SN),(NJ,eO),(MJ,cO),(qI,dO),(nI,UN),(z2i,z7h),(gI,z7d),(z2m,z7l),(z2H,z7G),(z23,z71),(z25,z73),(z28,z76),(z27,z75),(z26,z74),(z2T,z7U),(z2Z,z8d),(z2V,z7Y),(z2I,z7I),(z2D,z7B),(z2A,z78),(z2g,z7f),(LJ,bO),(z2n,z7m),(z2r,z7r),(z2t,z7u),(z2x,z7y),(z2w,z7x),(z2Y,z8c),(EW,z7S),(z2W,z8a),(z2S,z7T),(z2X,z8b),(z2U,z7X),(AM,z7Z),(fQ,z7W),(z2L,z7L),(z2l,z7k),(bM,z7q),(BW,z7H),(z2o,z7n),(z2u,z7v),(z2k,z7j),(z24,z72),(z2J,z7J),(z2P,z7O),(z2K,z7K),(z2p,z7o),(z2v,z7w),(z2M,z7M),(DW,z7P),(sI,oO),(z2G,z7F),(z2q,z7p),(rI,vL)]
def PRL0:OE:=[(CW,trimS)]
def X0:Ctx:=⟨EM fns0,glOf GLL,fI rG sG,SF GRL PRL0⟩
theorem zma:X0.fn sI=some oO:=by kernel_rfl
theorem zlZ:X0.fn rI=some vL:=by kernel_rfl
theorem z0p:X.NoNext:=fun f F h=>OW (p:=fun _ F=>F.isDet||F.body.noNext) fns (by kernel_rfl) f F h
theorem zmm:X.fn dQ=some fT:=by kernel_rfl
theorem z9k {u0 v0:AV}{h h1:aA}{P:jA}(hp:mA h [u0]=some ([v0],h1)):bA X dQ [u0] h P=(bP (bA X) X.gl [(0,v0)] h1 [] (qA [.t 2] false h.length P)).1:=by rw[NA zmm rfl hp rfl];exact zbg
theorem zmy:X.fn gH=some tT:=by kernel_rfl
theorem z9t {u0 v0:AV}{h h1:aA}{P:jA}(hp:mA h [u0]=some ([v0],h1)):bA X gH [u0] h P=(lP (bA X) X.gl [(0,v0)] h1 [] (qA [.cell 2 (some 2)] false h.length P)).1:=by rw[NA zmy rfl hp rfl];exact zbz
theorem zmx:X.fn fH=some rT:=by kernel_rfl
theorem z9s {u0 u1 v0 v1:AV}{h h1:aA}{P:jA}(hp:mA h [u0,u1]=some ([v0,v1],h1)):bA X fH [u0,u1] h P=(kP (bA X) X.gl [(0,v0),(1,v1)] h1 [] (qA [.t 4] false h.length P)).1:=by rw[NA zmx rfl hp rfl];exact zbw
theorem zmR:X.fn vM=some TT:=by kernel_rfl
theorem z9K {u0 u1 v0 v1:AV}{h h1:aA}{P:jA}(hp:mA h [u0,u1]=some ([v0,v1],h1)):bA X vM [u0,u1] h P=(EP (bA X) X.gl [(0,v0),(1,v1)] h1 [] (tF [.o 4,.t 5] h.length P)).1:=by rw[vO zmR rfl hp rfl];exact zc9
theorem zmn:X.fn lI=some gT:=by kernel_rfl
theorem z0N {u0 h P}:bA X lI [u0] h P=(EL (bA X) X.gl [(0,u0)] h [] (qA [] false h.length P)).1:=by rw[GD zmn rfl rfl];exact zbh
theorem zmU:X.fn JJ=some WT:=by kernel_rfl
theorem z0T {u0 u1 v0 v1:AV}{h h1:aA}{P:jA}(hp:mA h [u0,u1]=some ([v0,v1],h1)):bA X JJ [u0,u1] h P=SL (bA X) X.gl HI QK v0 v1 h1 [] (tF [.o 4,.t 5] h.length P):=by rw[vO zmU rfl hp rfl];exact zcF
theorem zmS:X.fn wM=some UT:=by kernel_rfl
theorem z0R {u0 u1 u2 v0 v1 v2:AV}{h h1:aA}{P:jA}(hp:mA h [u0,u1,u2]=some ([v0,v1,v2],h1)):bA X wM [u0,u1,u2] h P=(QL (bA X) X.gl [(0,v0),(1,v1),(2,v2)] h1 [] (tF [.o 6,.t 7] h.length P)).1:=by rw[vO zmS rfl hp rfl];exact zcA
theorem zmo:X.fn fM=some iT:=by kernel_rfl
theorem z9l {u0 h P}:bA X fM [u0] h P=(cP (bA X) X.gl [(0,u0)] h [] (qA [] false h.length P)).1:=by rw[GD zmo rfl rfl];exact zbi
theorem zmT:X.fn xM=some VT:=by kernel_rfl
theorem z0S {u0 u1 u2 u3 v0 v1 v2 v3:AV}{h h1:aA}{P:jA}(hp:mA h [u0,u1,u2,u3]=some ([v0,v1,v2,v3],h1)):bA X xM [u0,u1,u2,u3] h P=(RL (bA X) X.gl [(0,v0),(1,v1),(2,v2),(3,v3)] h1 [] (tF [.o 8,.t 9] h.length P)).1:=by rw[vO zmT rfl hp rfl];exact zcE
theorem zmp:X.fn CJ=some jT:=by kernel_rfl
theorem z0O {u0 h P}:bA X CJ [u0] h P=(HL (bA X) X.gl [(0,u0)] h [] (qA [] false h.length P)).1:=by rw[GD zmp rfl rfl];exact zbj
theorem zmG:X.fn qM=some LT:=by kernel_rfl
theorem z9A {u0 u1 v0 v1:AV}{h h1:aA}{P:jA}(hp:mA h [u0,u1]=some ([v0,v1],h1)):bA X qM [u0,u1] h P=(wP (bA X) X.gl [(0,v0),(1,v1)] h1 [] (qA [.t 4] false h.length P)).1:=by rw[NA zmG rfl hp rfl];exact zbZ
theorem zmF:X.fn pM=some JT:=by kernel_rfl
theorem z99 {u0 u1 v0 v1:AV}{h h1:aA}{P:jA}(hp:mA h [u0,u1]=some ([v0,v1],h1)):bA X pM [u0,u1] h P=(ML (bA X) X.gl [(0,v0),(1,v1)] h1 [] (qA [.t 4] false h.length P)).1:=by rw[NA zmF rfl hp rfl];exact zbW
theorem zmw:X.fn qF=some qT:=by kernel_rfl
theorem z9r {u0 u1 u2 v0 v1 v2:AV}{h h1:aA}{P:jA}(hp:mA h [u0,u1,u2]=some ([v0,v1,v2],h1)):bA X qF [u0,u1,u2] h P=(jP (bA X) X.gl [(0,v0),(1,v1),(2,v2)] h1 [] (qA [.t 6] false h.length P)).1:=by rw[NA zmw rfl hp rfl];exact zbv
theorem zmr:X.fn iM=some lT:=by kernel_rfl
theorem z9n {u0 u1 v0 v1:AV}{h h1:aA}{P:jA}(hp:mA h [u0,u1]=some ([v0,v1],h1)):bA X iM [u0,u1] h P=eP (bA X) X.gl rK kN v0 v1 h1 [] (qA [.t 4] false h.length P):=by rw[NA zmr rfl hp rfl];exact zbm
theorem zm0:X.fn jM=some vT:=by kernel_rfl
theorem z9v {u0 v0:AV}{h h1:aA}{P:jA}(hp:mA h [u0]=some ([v0],h1)):bA X jM [u0] h P=(JL (bA X) X.gl [(0,v0)] h1 [] (qA [.t 2] false h.length P)).1:=by rw[NA zm0 rfl hp rfl];exact zb1
theorem zmb:X.fn iI=some LN:=by kernel_rfl
theorem z8Z {u0 v0:AV}{h h1:aA}{P:jA}(hp:mA h [u0]=some ([v0],h1)):bA X iI [u0] h P=(RO (bA X) X.gl [(0,v0)] h1 [] (qA [.t 2] false h.length P)).1:=by rw[NA zmb rfl hp rfl];exact zaM
theorem zmP:X.fn rF=some VN:=by kernel_rfl
theorem z9I {u0 v0:AV}{h h1:aA}{P:jA}(hp:mA h [u0]=some ([v0],h1)):bA X rF [u0] h P=(OL (bA X) X.gl [(0,v0)] h1 [] (qA [.t 2] false h.length P)).1:=by rw[NA zmP rfl hp rfl];exact zc4
theorem zmC:X.fn nM=some HT:=by kernel_rfl
theorem z96 {u0 v0:AV}{h h1:aA}{P:jA}(hp:mA h [u0]=some ([v0],h1)):bA X nM [u0] h P=(tP (bA X) X.gl [(0,v0)] h1 [] (qA [.t 2] true h.length P)).1:=by rw[NA zmC rfl hp rfl];exact zbP
theorem zmK:X.fn oI=some OT:=by kernel_rfl
theorem z9E {u0 u1 h P}:bA X oI [u0,u1] h P=(AP (bA X) X.gl [(0,u0),(1,u1)] h [] (qA [] false h.length P)).1:=by rw[GD zmK rfl rfl];exact zcj
theorem zmV:X.fn MF=some XN:=by kernel_rfl
theorem z9L {u0 u1 v0 v1:AV}{h h1:aA}{P:jA}(hp:mA h [u0,u1]=some ([v0,v1],h1)):bA X MF [u0,u1] h P=(FP (bA X) X.gl [(0,v0),(1,v1)] h1 [] (qA [.t 4] false h.length P)).1:=by rw[NA zmV rfl hp rfl];exact zcI
theorem zmB:X.fn mM=some GT:=by kernel_rfl
theorem z95 {u0 h P}:bA X mM [u0] h P=(LL (bA X) X.gl [(0,u0)] h [] (qA [.t 2] false h.length P)).1:=by rw[GD zmB rfl rfl];exact zbI
theorem znj:X.fn xG=some lO:=by kernel_rfl
theorem eU {u0 h P}:bA X xG [u0] h P=(UL (bA X) X.gl [(0,u0)] h [] (qA [.t 2] false h.length P)).1:=by rw[GD znj rfl rfl];exact zdo
theorem zmX:X.fn jH=some ZN:=by kernel_rfl
theorem z9N {u0 v0:AV}{h h1:aA}{P:jA}(hp:mA h [u0]=some ([v0],h1)):bA X jH [u0] h P=(KF (bA X) X.gl [(0,v0)] h1 [] (qA [.t 2] false h.length P)).1:=by rw[NA zmX rfl hp rfl];exact zcN
theorem zmA:X.fn HJ=some FT:=by kernel_rfl
theorem z94 {u0 v0:AV}{h h1:aA}{P:jA}(hp:mA h [u0]=some ([v0],h1)):bA X HJ [u0] h P = ∃v h' x,P v h' x∧(sP (bA X) X.gl [(0,v0)] h1 [] (qA [.t 2] true h.length fun v1 h1 x1=>v1=v∧h1=h'∧x1=x)).1:=by rw[z0V zmA rfl hp rfl];exact z2e fun v h' x=>congrArg (And (P v h' x)) zbH
theorem zmY:X.fn kH=some aO:=by kernel_rfl
theorem z9O {u0 u1 u2 v0 v1 v2:AV}{h h1:aA}{P:jA}(hp:mA h [u0,u1,u2]=some ([v0,v1,v2],h1)):bA X kH [u0,u1,u2] h P=(HP (bA X) X.gl [(0,v0),(1,v1),(2,v2)] h1 [] (qA [.t 6] false h.length P)).1:=by rw[NA zmY rfl hp rfl];exact zcO
theorem zng:X.fn OF=some iO:=by kernel_rfl
theorem z9V {u0 u1 v0 v1:AV}{h h1:aA}{P:jA}(hp:mA h [u0,u1]=some ([v0,v1],h1)):bA X OF [u0,u1] h P=(MP (bA X) X.gl [(0,v0),(1,v1)] h1 [] (qA [.t 4] false h.length P)).1:=by rw[NA zng rfl hp rfl];exact zdh
theorem znk:X.fn lH=some mO:=by kernel_rfl
theorem z9Y {u0 u1 v0 v1:AV}{h h1:aA}{P:jA}(hp:mA h [u0,u1]=some ([v0,v1],h1)):bA X lH [u0,u1] h P=(NP (bA X) X.gl [(0,v0),(1,v1)] h1 [] (qA [.t 4] false h.length P)).1:=by rw[NA znk rfl hp rfl];exact zdr
theorem zne:X.fn OJ=some XT:=by kernel_rfl
theorem z9T {u0 u1 v0 v1:AV}{h h1:aA}{P:jA}(hp:mA h [u0,u1]=some ([v0,v1],h1)):bA X OJ [u0,u1] h P = ∃v h' x,P v h' x∧(KP (bA X) X.gl [(0,v0),(1,v1)] h1 [] (tF [.o 4] h.length fun v1 h1 x1=>v1=v∧h1=h'∧x1=x)).1:=by rw[zad zne rfl hp rfl];exact z2e fun v h' x=>congrArg (And (P v h' x)) zdd
theorem zni:X.fn yM=some ZT:=by kernel_rfl
theorem z9X {u0 u1 u2 u3 v0 v1 v2 v3:AV}{h h1:aA}{P:jA}(hp:mA h [u0,u1,u2,u3]=some ([v0,v1,v2,v3],h1)):bA X yM [u0,u1,u2,u3] h P=(rJ (bA X) X.gl [(0,v0),(1,v1),(2,v2),(3,v3)] h1 [] (qA [.t 8] false h.length P)).1:=by rw[NA zni rfl hp rfl];exact zdm
theorem zmt:X.fn SE=some nT:=by kernel_rfl
theorem z9p {u0 u1 v0 v1:AV}{h h1:aA}{P:jA}(hp:mA h [u0,u1]=some ([v0,v1],h1)):bA X SE [u0,u1] h P=(IL (bA X) X.gl [(0,v0),(1,v1)] h1 [] (qA [.t 4] false h.length P)).1:=by rw[NA zmt rfl hp rfl];exact zbs
theorem zmv:X.fn pF=some pT:=by kernel_rfl
theorem z9q {u0 u1 v0 v1:AV}{h h1:aA}{P:jA}(hp:mA h [u0,u1]=some ([v0,v1],h1)):bA X pF [u0,u1] h P=(iP (bA X) X.gl [(0,v0),(1,v1)] h1 [] (qA [.t 4] false h.length P)).1:=by rw[NA zmv rfl hp rfl];exact zbu
theorem zmz:X.fn KC=some uT:=by kernel_rfl
theorem z9u {u0 u1 v0 v1:AV}{h h1:aA}{P:jA}(hp:mA h [u0,u1]=some ([v0,v1],h1)):bA X KC [u0,u1] h P=(mP (bA X) X.gl [(0,v0),(1,v1)] h1 [] (qA [.t 4] false h.length P)).1:=by rw[NA zmz rfl hp rfl];exact zb0
theorem zms:X.fn tG=some mT:=by kernel_rfl
theorem z9o {u0 u1 v0 v1:AV}{h h1:aA}{P:jA}(hp:mA h [u0,u1]=some ([v0,v1],h1)):bA X tG [u0,u1] h P=(fP (bA X) X.gl [(0,v0),(1,v1)] h1 [] (qA [.t 4] false h.length P)).1:=by rw[NA zms rfl hp rfl];exact zbr
theorem zmu:X.fn vE=some oT:=by kernel_rfl
theorem sO {u0 u1 u2 v0 v1 v2:AV}{h h1:aA}{P:jA}(hp:mA h [u0,u1,u2]=some ([v0,v1,v2],h1)):bA X vE [u0,u1,u2] h P=(ZH (bA X) X.gl [(0,v0),(1,v1),(2,v2)] h1 [] (qA [.t 6] false h.length P)).1:=by rw[NA zmu rfl hp rfl];exact zbt
theorem zm3:X.fn uG=some yT:=by kernel_rfl
theorem z0P {u0 u1 v0 v1:AV}{h h1:aA}{P:jA}(hp:mA h [u0,u1]=some ([v0,v1],h1)):bA X uG [u0,u1] h P=(nG (bA X) X.gl [(0,v0),(1,v1)] h1 [] (qA [.t 4] false h.length P)).1:=by rw[NA zm3 rfl hp rfl];exact zb8
theorem zm2:X.fn kM=some xT:=by kernel_rfl
theorem z9x {u0 v0:AV}{h h1:aA}{P:jA}(hp:mA h [u0]=some ([v0],h1)):bA X kM [u0] h P=bH (bA X) X.gl XQ v0 h1 [] (qA [.t 2] false h.length P):=by rw[NA zm2 rfl hp rfl];exact zb6
theorem zmD:X.fn oM=some IT:=by kernel_rfl
theorem z97 {u0 u1 h P}:bA X oM [u0,u1] h P=(uP (bA X) X.gl [(0,u0),(1,u1)] h [] (qA [.t 4] false h.length P)).1:=by rw[GD zmD rfl rfl];exact zbU
theorem zm1:X.fn DJ=some wT:=by kernel_rfl
theorem z9w {u0 u1 v0 v1:AV}{h h1:aA}{P:jA}(hp:mA h [u0,u1]=some ([v0,v1],h1)):bA X DJ [u0,u1] h P=(oP (bA X) X.gl [(0,v0),(1,v1)] h1 [] (qA [.t 3] false h.length P)).1:=by rw[NA zm1 rfl hp rfl];exact zb5
theorem zm8:X.fn lM=some DT:=by kernel_rfl
theorem z92 {u0 u1 v0 v1:AV}{h h1:aA}{P:jA}(hp:mA h [u0,u1]=some ([v0,v1],h1)):bA X lM [u0,u1] h P=(KL (bA X) X.gl [(0,v0),(1,v1)] h1 [] (qA [.t 4] false h.length P)).1:=by rw[NA zm8 rfl hp rfl];exact zbF
theorem zmO:X.fn uM=some ST:=by kernel_rfl
theorem z9H {u0 u1 u2 h P}:bA X uM [u0,u1,u2] h P=(DP (bA X) X.gl [(0,u0),(1,u1),(2,u2)] h [] (qA [] false h.length P)).1:=by rw[GD zmO rfl rfl];exact zcx
theorem zmg:X.fn eH=some QN:=by kernel_rfl
theorem z9e {u0 v0:AV}{h h1:aA}{P:jA}(hp:mA h [u0]=some ([v0],h1)):bA X eH [u0] h P=(UO (bA X) X.gl [(0,v0)] h1 [] (qA [.t 2] false h.length P)).1:=by rw[NA zmg rfl hp rfl];exact zaV
theorem zmf:X.fn dH=some PN:=by kernel_rfl
theorem z9d {u0 u1 v0 v1:AV}{h h1:aA}{P:jA}(hp:mA h [u0,u1]=some ([v0,v1],h1)):bA X dH [u0,u1] h P=(lJ (bA X) X.gl [(0,v0),(1,v1)] h1 [] (qA [.t 4] false h.length P)).1:=by rw[NA zmf rfl hp rfl];exact zaU
theorem znl:X.fn UE=some nO:=by kernel_rfl
theorem z9Z {u0 u1 v0 v1:AV}{h h1:aA}{P:jA}(hp:mA h [u0,u1]=some ([v0,v1],h1)):bA X UE [u0,u1] h P=(OP (bA X) X.gl [(0,v0),(1,v1)] h1 [] (qA [.t 4] false h.length P)).1:=by rw[NA znl rfl hp rfl];exact zdu
theorem zmc:X.fn fE=some MN:=by kernel_rfl
theorem z9a {u0 v0:AV}{h h1:aA}{P:jA}(hp:mA h [u0]=some ([v0],h1)):bA X fE [u0] h P=(aH (bA X) X.gl [(0,v0)] h1 [] (qA [.t 2] false h.length P)).1:=by rw[NA zmc rfl hp rfl];exact zaP
theorem zme:X.fn lC=some ON:=by kernel_rfl
theorem z9c {u0 u1 u2 v0 v1 v2:AV}{h h1:aA}{P:jA}(hp:mA h [u0,u1,u2]=some ([v0,v1,v2],h1)):bA X lC [u0,u1,u2] h P=(TO (bA X) X.gl [(0,v0),(1,v1),(2,v2)] h1 [] (qA [.t 6] false h.length P)).1:=by rw[NA zme rfl hp rfl];exact zaT
theorem zmd:X.fn jI=some NN:=by kernel_rfl
theorem z9b {u0 v0:AV}{h h1:aA}{P:jA}(hp:mA h [u0]=some ([v0],h1)):bA X jI [u0] h P=(SO (bA X) X.gl [(0,v0)] h1 [] (qA [.t 2] false h.length P)).1:=by rw[NA zmd rfl hp rfl];exact zaS
theorem zmQ:X.fn IJ=some WN:=by kernel_rfl
theorem z9J {u0 v0:AV}{h h1:aA}{P:jA}(hp:mA h [u0]=some ([v0],h1)):bA X IJ [u0] h P=(pJ (bA X) X.gl [(0,v0)] h1 [] (qA [.t 2] false h.length P)).1:=by rw[NA zmQ rfl hp rfl];exact zc7
theorem znh:X.fn QJ=some jO:=by kernel_rfl
theorem z9W {u0 v0:AV}{h h1:aA}{P:jA}(hp:mA h [u0]=some ([v0],h1)):bA X QJ [u0] h P=(TL (bA X) X.gl [(0,v0)] h1 [] (qA [.t 2] false h.length P)).1:=by rw[NA znh rfl hp rfl];exact zdl
theorem zmW:X.fn KJ=some YN:=by kernel_rfl
theorem z9M {u0 v0:AV}{h h1:aA}{P:jA}(hp:mA h [u0]=some ([v0],h1)):bA X KJ [u0] h P=(GP (bA X) X.gl [(0,v0)] h1 [] (qA [.t 2] false h.length P)).1:=by rw[NA zmW rfl hp rfl];exact zcJ
theorem znd:X.fn NF=some fO:=by kernel_rfl
theorem tO {u0 u1 v0 v1:AV}{h h1:aA}{P:jA}(hp:mA h [u0,u1]=some ([v0,v1],h1)):bA X NF [u0,u1] h P=(LD (bA X) X.gl [(0,v0),(1,v1)] h1 [] (qA [.t 4] false h.length P)).1:=by rw[NA znd rfl hp rfl];exact zcZ
theorem zmJ:X.fn sM=some NT:=by kernel_rfl
theorem z9D {u0 u1 h P}:bA X sM [u0,u1] h P=(zP (bA X) X.gl [(0,u0),(1,u1)] h [] (qA [] false h.length P)).1:=by rw[GD zmJ rfl rfl];exact zci
theorem znf:X.fn PJ=some YT:=by kernel_rfl
theorem z9U {u0 u1 u2 v0 v1 v2:AV}{h h1:aA}{P:jA}(hp:mA h [u0,u1,u2]=some ([v0,v1,v2],h1)):bA X PJ [u0,u1,u2] h P=(LP (bA X) X.gl [(0,v0),(1,v1),(2,v2)] h1 [] (qA [.t 5] false h.length P)).1:=by rw[NA znf rfl hp rfl];exact zdg
theorem zmE:X.fn iH=some TN:=by kernel_rfl
theorem z98 {u0 u1 h P}:bA X iH [u0,u1] h P=(vP (bA X) X.gl [(0,u0),(1,u1)] h [] (qA [.t 4] false h.length P)).1:=by rw[GD zmE rfl rfl];exact zbV
theorem zmq:X.fn mI=some kT:=by kernel_rfl
theorem z9m {u0 u1 v0 v1:AV}{h h1:aA}{P:jA}(hp:mA h [u0,u1]=some ([v0,v1],h1)):bA X mI [u0,u1] h P=(dP (bA X) X.gl [(0,v0),(1,v1)] h1 [] (qA [.t 4] false h.length P)).1:=by rw[NA zmq rfl hp rfl];exact zbk
theorem zm9:X.fn GJ=some ET:=by kernel_rfl
theorem z93 {u0 v0:AV}{h h1:aA}{P:jA}(hp:mA h [u0]=some ([v0],h1)):bA X GJ [u0] h P=(oJ (bA X) X.gl [(0,v0)] h1 [] (qA [.t 2] false h.length P)).1:=by rw[NA zm9 rfl hp rfl];exact zbG
theorem zm4:X.fn TE=some zT:=by kernel_rfl
theorem z9y {u0 v0:AV}{h h1:aA}{P:jA}(hp:mA h [u0]=some ([v0],h1)):bA X TE [u0] h P=(aI (bA X) X.gl [(0,v0)] h1 [] (qA [.t 2] false h.length P)).1:=by rw[NA zm4 rfl hp rfl];exact zb9
theorem zm6:X.fn wE=some BT:=by kernel_rfl
theorem z90 {u0 u1 u2 v0 v1 v2:AV}{h h1:aA}{P:jA}(hp:mA h [u0,u1,u2]=some ([v0,v1,v2],h1)):bA X wE [u0,u1,u2] h P=(qP (bA X) X.gl [(0,v0),(1,v1),(2,v2)] h1 [] (qA [.t 6] false h.length P)).1:=by rw[NA zm6 rfl hp rfl];exact zbB
theorem zm5:X.fn EJ=some AT:=by kernel_rfl
theorem z9z {u0 v0:AV}{h h1:aA}{P:jA}(hp:mA h [u0]=some ([v0],h1)):bA X EJ [u0] h P=(pP (bA X) X.gl [(0,v0)] h1 [] (qA [.t 2] false h.length P)).1:=by rw[NA zm5 rfl hp rfl];exact zbA
theorem zmH:X.fn rM=some MT:=by kernel_rfl
theorem z9B {u0 u1 h P}:bA X rM [u0,u1] h P=(xP (bA X) X.gl [(0,u0),(1,u1)] h [] (qA [.t 4] false h.length P)).1:=by rw[GD zmH rfl rfl];exact zcc
theorem zmL:X.fn vG=some PT:=by kernel_rfl
theorem z0Q {u0 u1 u2 u3 h P}:bA X vG [u0,u1,u2,u3] h P=(NL (bA X) X.gl [(0,u0),(1,u1),(2,u2),(3,u3)] h [] (qA [] false h.length P)).1:=by rw[GD zmL rfl rfl];exact zck
theorem zmh:X.fn kI=some RN:=by kernel_rfl
theorem z9f {u0 v0:AV}{h h1:aA}{P:jA}(hp:mA h [u0]=some ([v0],h1)):bA X kI [u0] h P=(WO (bA X) X.gl [(0,v0)] h1 [] (qA [.t 2] false h.length P)).1:=by rw[NA zmh rfl hp rfl];exact zaY
theorem zmi:X.fn AJ=some SN:=by kernel_rfl
theorem z9g {u0 u1 v0 v1:AV}{h h1:aA}{P:jA}(hp:mA h [u0,u1]=some ([v0,v1],h1)):bA X AJ [u0,u1] h P=(XO (bA X) X.gl [(0,v0),(1,v1)] h1 [] (qA [.t 4] false h.length P)).1:=by rw[NA zmi rfl hp rfl];exact zaZ
theorem znc:X.fn NJ=some eO:=by kernel_rfl
theorem z9S {u0 u1 u2 v0 v1 v2:AV}{h h1:aA}{P:jA}(hp:mA h [u0,u1,u2]=some ([v0,v1,v2],h1)):bA X NJ [u0,u1,u2] h P=(bI (bA X) X.gl [(0,v0),(1,v1),(2,v2)] h1 [] (qA [.t 6] false h.length P)).1:=by rw[NA znc rfl hp rfl];exact zcY
theorem zna:X.fn MJ=some cO:=by kernel_rfl
theorem z9Q {u0 u1 u2 v0 v1 v2:AV}{h h1:aA}{P:jA}(hp:mA h [u0,u1,u2]=some ([v0,v1,v2],h1)):bA X MJ [u0,u1,u2] h P=(oG (bA X) X.gl [(0,v0),(1,v1),(2,v2)] h1 [] (qA [.t 6] false h.length P)).1:=by rw[NA zna rfl hp rfl];exact zcQ
theorem znb:X.fn qI=some dO:=by kernel_rfl
theorem z9R {u0 u1 u2 v0 v1 v2:AV}{h h1:aA}{P:jA}(hp:mA h [u0,u1,u2]=some ([v0,v1,v2],h1)):bA X qI [u0,u1,u2] h P=(JP (bA X) X.gl [(0,v0),(1,v1),(2,v2)] h1 [] (qA [] false h.length P)).1:=by rw[NA znb rfl hp rfl];exact zcU
theorem zmN:X.fn pI=some RT:=by kernel_rfl
theorem z9G {u0 u1 u2 u3 u4 h P}:bA X pI [u0,u1,u2,u3,u4] h P=(CP (bA X) X.gl [(0,u0),(1,u1),(2,u2),(3,u3),(4,u4)] h [] (qA [] false h.length P)).1:=by rw[GD zmN rfl rfl];exact zcs
theorem zmk:X.fn dM=some bT:=by kernel_rfl
theorem z9i {u0 v0:AV}{h h1:aA}{P:jA}(hp:mA h [u0]=some ([v0],h1)):bA X dM [u0] h P=(ZO (bA X) X.gl [(0,v0)] h1 [] (qA [.t 2] false h.length P)).1:=by rw[NA zmk rfl hp rfl];exact zbb
theorem zmI:X.fn nI=some UN:=by kernel_rfl
theorem z9C {u0 u1 h P}:bA X nI [u0,u1] h P=(yP (bA X) X.gl [(0,u0),(1,u1)] h [] (qA [.t 4] false h.length P)).1:=by rw[GD zmI rfl rfl];exact zcf
theorem zm7:X.fn FJ=some CT:=by kernel_rfl
theorem z91 {u0 u1 v0 v1:AV}{h h1:aA}{P:jA}(hp:mA h [u0,u1]=some ([v0,v1],h1)):bA X FJ [u0,u1] h P=(rP (bA X) X.gl [(0,v0),(1,v1)] h1 [] (qA [.t 4] false h.length P)).1:=by rw[NA zm7 rfl hp rfl];exact zbC
theorem zmZ:X.fn LJ=some bO:=by kernel_rfl
theorem z9P {u0 u1 v0 v1:AV}{h h1:aA}{P:jA}(hp:mA h [u0,u1]=some ([v0,v1],h1)):bA X LJ [u0,u1] h P=(IP (bA X) X.gl [(0,v0),(1,v1)] h1 [] (qA [.t 4] false h.length P)).1:=by rw[NA zmZ rfl hp rfl];exact zcP
theorem zmM:X.fn tM=some QT:=by kernel_rfl
theorem z9F {u0 u1 u2 u3 h P}:bA X tM [u0,u1,u2,u3] h P=(BP (bA X) X.gl [(0,u0),(1,u1),(2,u2),(3,u3)] h [] (qA [] false h.length P)).1:=by rw[GD zmM rfl rfl];exact zco
theorem zml:X.fn eM=some eT:=by kernel_rfl
theorem z9j {u0 v0:AV}{h h1:aA}{P:jA}(hp:mA h [u0]=some ([v0],h1)):bA X eM [u0] h P=(aP (bA X) X.gl [(0,v0)] h1 [] (qA [.t 2] false h.length P)).1:=by rw[NA zml rfl hp rfl];exact zbc
theorem znm:X.fn zM=some aU:=by kernel_rfl
theorem zaa {u0 u1 v0 v1:AV}{h h1:aA}{P:jA}(hp:mA h [u0,u1]=some ([v0,v1],h1)):bA X zM [u0,u1] h P=(PP (bA X) X.gl [(0,v0),(1,v1)] h1 [] (qA [.t 4] false h.length P)).1:=by rw[NA znm rfl hp rfl];exact zdv
theorem zmj:X.fn cM=some aT:=by kernel_rfl
theorem z9h {u0 u1 v0 v1:AV}{h h1:aA}{P:jA}(hp:mA h [u0,u1]=some ([v0,v1],h1)):bA X cM [u0,u1] h P=(YO (bA X) X.gl [(0,v0),(1,v1)] h1 [] (qA [.t 4] false h.length P)).1:=by rw[NA zmj rfl hp rfl];exact zba
attribute [go_sem] zbx zby zfb HU IU SP zeX mJ zcG zcH VL zfy z10 GV qJ zcB zcC zcD zfx DV EV FV iW zeY FL TP zeZ nJ zca zcb zfk aV bV zbX zbY zfj YU ZU jW zbn
attribute [go_sem] uJ kW zbo zbp zbq zfa z1w z1x JF YH z1y GU z1z zb2 zb3 zb4 lW zfc zfd JU KU LU nP zaN zaO zeU vU wU zc5 zc6 zfv zV BV zbQ zbR zbS zbT zfh zfi UU
attribute [go_sem] VU WU XU zbJ zbK zbL zbM zbN zbO zff zfg OU PU QU RU SU TU zdp zdq zf3 aW bW zdi zdj zdk zf2 WV XV YV zds zdt zf4 cW dW zde zdf zf1 UV VV zdn
attribute [go_sem] ZV zb7 dE zcy zcz zc0 zc1 zc2 zc3 zfs zft zfu tV uV vV wV xV yV zaW zaX zeW zU BU zaQ zaR zeV xU yU zc8 mW zfw CV PL zcK zcL zcM zfz HV IV JV
attribute [go_sem] zda zdb zdc RV SV TV zbl FU zcd zce zfl cV dV zcl zcm zcn zfn zfo iV jV kV zcR zcS zcT KV LV MV zcV zcW zcX zf0 NV OV QV zct zcu zcv zcw zfr pV
attribute [go_sem] qV rV sV zcg zch zfm eV fV zbD zbE zfe MU NU zcp zcq zcr zfp zfq lV nV oV zbd zbe zbf CU DU EU zdy zdz zd0 zd1 zf5 zf6 z11 fW gW z12
end Go.Am
end
section
/- The stream of numbers out of which the laws draw. -/
open Go
namespace Go.Am
abbrev eI (n:Int):PV:=.int .i64 n
abbrev AL (l:List Int):AV:=.p (.sl none (l.map eI))
abbrev nA (L:List Int)(a:Int):Obj:=.box [AL L,AI a]
def UG (x n:Int):Int:=if n<1 then 0 else if x.tmod n<0 then IntKind.i64.wrap (x.tmod n+n) else x.tmod n
theorem z5p (x n:Int)(h:aA)(K:jA):bA X mI [AI x,AI n] h K=K (AI (UG x n)) h []:=by
 refine tA ?_;rw[z9m rfl];simp only[dP,go_sem];unfold UG;by_cases h1:n<1
 ·simp only[h1,if_true]
 ·simp only[h1,if_false,show ¬n=0 by omega]
  split <;> rfl
theorem z89 (x n:Int)(h1:1≤n)(h2:n≤4611686018427387904):0≤UG x n∧UG x n<n:=by
 unfold UG;rw[if_neg (by omega)]
 have:=Int.tmod_lt_of_pos x (show 0<n by omega)
 have h3 : -n<x.tmod n:=by
  have:=Int.lt_tmod_of_pos x (show 0<n by omega)
  exact this
 split
 ·rw[BA _ (by omega) (by omega)];omega
 ·omega
def JB (L:List Int)(a n:Int):Int:=
 if L.length=0 then UG (IntKind.i64.wrap ((a+1)*7919)) n
 else UG (IntKind.i64.wrap (UG (L.getD (a.tmod L.length).toNat 0) 1073741824+IntKind.i64.wrap (IntKind.i64.wrap (a.tdiv L.length)*IntKind.i64.wrap (7919+a.tmod L.length)))) n
theorem YM (L:List Int)(a n:Int)(h1:1≤n)(h2:n≤4611686018427387904):0≤JB L a n∧JB L a n<n:=by
 unfold JB;split <;> exact z89 _ _ h1 h2
theorem zH {h:aA}{id:Nat}{o':Obj}(hid:id<h.length):(h.set id o')[id]?=some o':=by simp [hid]
theorem DG {h:aA}{id:Nat}{o:Obj}(hh:h[id]?=some o):id<h.length:=(List.getElem?_eq_some_iff.1 hh).1
def UA (n:Nat)(a:Int):Prop:=0≤a∧a+n<4611686018427387904
theorem NC {n m:Nat}{a b:Int}(H:UA m a)(h:a≤b)(hn:b+n≤a+m):UA n b:=by unfold UA at *;omega
theorem JG {a:Int}(H:UA 14 a):UA 0 (a)∧UA 0 (a+1)∧UA 0 (a+1+1)∧UA 0 (a+1+1+1)∧UA 0 (a+1+1+1+1)∧UA 0 (a+1+1+1+1+1)∧UA 0 (a+1+1+1+1+1+1)∧UA 0 (a+1+1+1+1+1+1+1)∧UA 0 (a+1+1+1+1+1+1+1+1)∧UA 0 (a+1+1+1+1+1+1+1+1+1)∧UA 0 (a+1+1+1+1+1+1+1+1+1+1)∧UA 0 (a+1+1+1+1+1+1+1+1+1+1+1)∧UA 0 (a+1+1+1+1+1+1+1+1+1+1+1+1)∧UA 0 (a+1+1+1+1+1+1+1+1+1+1+1+1+1)∧UA 0 (a+1+1+1+1+1+1+1+1+1+1+1+1+1+1):=by
 unfold UA at *;omega
def Gen (f:Nat)(args:List AV)(L:List Int)(a a2:Int)(v:AV):Prop:=∀(h:aA) (id:Nat) (K:jA),h[id]?=some (nA L a)→bA X f (.ref id 0::args) h K=K v (h.set id (nA L a2)) []
section
variable {f:Nat} {args:List AV} {L:List Int} {a a2:Int} {v:AV} {h l:aA} {id:Nat} {K:jA}
theorem Gen.set (g:Gen f args L a a2 v)(hid:id<h.length):bA X f (.ref id 0::args) (h.set id (nA L a)) K=K v (h.set id (nA L a2)) []:=by
 rw[g _ _ _ (zH hid),List.set_set]
theorem Gen.app (g:Gen f args L a a2 v)(hid:id<h.length):bA X f (.ref id 0::args) (h.set id (nA L a)++l) K=K v (h.set id (nA L a2)++l) []:=by
 rw[g _ _ _ (by rw[z3K (by simpa using hid)];exact zH hid),z5I (by simpa using hid),List.set_set]
theorem Gen.of (H:∀ (h:aA) (id:Nat),id<h.length→bA X f (.ref id 0::args) (h.set id (nA L a)) fun v1 h1 x1=>v1=v∧h1=h.set id (nA L a2)∧x1=[]):Gen f args L a a2 v:=by
 intro h id K hh;have hid:=DG hh
 have:h.set id (nA L a)=h:=by
  apply List.ext_getElem?
  intro i;rw[List.getElem?_set];split
  ·rename_i e;subst e;rw[hh]
  ·rfl
 have k:=H h id hid
 rw[this]at k;exact tA k
end
def aE (f:Nat)(args:List AV)(L:List Int)(a:Int)(Q:AV→Int→Prop):Prop:=∀(h:aA) (id:Nat),h[id]?=some (nA L a)→∃v a2,Q v a2∧∀K:jA,bA X f (.ref id 0::args) h K=K v (h.set id (nA L a2)) []
section
variable {f:Nat} {args:List AV} {L:List Int} {a:Int} {Q:AV→Int→Prop}
theorem aE.set (g:aE f args L a Q){h:aA}{id:Nat}(hid:id<h.length):∃v a2,Q v a2∧∀K:jA,bA X f (.ref id 0::args) (h.set id (nA L a)) K=K v (h.set id (nA L a2)) []:=by
 obtain⟨v,a2,q,r⟩:=g _ _ (zH hid);exact⟨v,a2,q,fun K=>by rw[r,List.set_set]⟩
theorem aE.app (g:aE f args L a Q){h l:aA}{id:Nat}(hid:id<h.length):∃v a2,Q v a2∧∀K:jA,bA X f (.ref id 0::args) (h.set id (nA L a)++l) K=K v (h.set id (nA L a2)++l) []:=by
 obtain⟨v,a2,q,r⟩:=g (h.set id (nA L a)++l) id (by rw[z3K (by simpa using hid)];exact zH hid)
 exact⟨v,a2,q,fun K=>by rw[r,z5I (by simpa using hid),List.set_set]⟩
theorem aE.of (H:∀ (h:aA) (id:Nat),id<h.length→bA X f (.ref id 0::args) (h.set id (nA L a)) fun v1 h1 x1=>∃ a2,Q v1 a2∧h1=h.set id (nA L a2)∧x1=[]):aE f args L a Q:=by
 intro h id hh;have hid:=DG hh
 have:h.set id (nA L a)=h:=by
  apply List.ext_getElem?
  intro i;rw[List.getElem?_set];split
  ·rename_i e;subst e;rw[hh]
  ·rfl
 have k:=H h id hid
 rw[this]at k;obtain⟨v,h',x,⟨a2,q,e1,e2⟩,r⟩:=bA.one z0p k;subst e1;subst e2
 exact⟨v,a2,q,r⟩
end
def TD (l:List Int)(L:List Int)(a:Int):Int:=l.getD (JB L a l.length).toNat 0
theorem QY {l L:List Int}{a:Int}(hl:0<l.length)(hl2:l.length<4611686018427387904):TD l L a∈l:=by
 obtain⟨b1,b2⟩:=YM L a l.length (by omega) (by omega)
 unfold TD;have:(JB L a l.length).toNat<l.length:=by omega
 simp only[List.getD,List.getElem?_eq_getElem this,Option.getD_some];exact List.getElem_mem _
def isI:PV→Bool
 | .int .i64 _=>true
 | _=>false
def unI:PV→Int
 | .int _ n=>n
 | _=>0
theorem zlG {xs:List PV}(h:xs.all isI=true):xs=(xs.map unI).map eI:=by
 induction xs with
 | nil=>rfl
 | cons x r ih=>
  simp only[List.all_cons,Bool.and_eq_true]at h;simp only[List.map_cons];rw[←ih h.2];cases x with
  | int k n=>cases k <;> first|rfl|cases h.1
  | _=>cases h.1
set_option maxHeartbeats 400000 in
theorem z3D (L:List Int)(a n:Int)(hp:UA 0 a):Gen SE [AI n] L a (a+1) (AI (JB L a n)):=by
 refine Gen.of fun h id hid=>?_
 rw[z9p rfl];obtain⟨h0,h1⟩:=hp;have w1:IntKind.i64.wrap (a+1)=a+1:=BA _ (by omega) (by omega)
 have w2:IntKind.i64.wrap (a+1-1)=a:=by rw[BA _ (by omega) (by omega)];omega
 have hs:∀o',(h.set id o')[id]?=some o':=fun o'=>zH hid
 rcases Nat.eq_zero_or_pos L.length with hl|hl
 ·simp only[IL,go_sem,hs,z5p,hl,w1]
  simp only[JB,hl,if_true]
 ·have e1:((L.length:Int)=0)=False:=by simp only[eq_iff_iff,iff_false];omega
  have e2:0≤a.tmod L.length:=Int.tmod_nonneg _ h0
  have e3:a.tmod L.length<L.length:=Int.tmod_lt_of_pos _ (by omega)
  have e4:=BQ (k:=.i64) e2
  have e5:(L.map eI)[(a.tmod L.length).toNat]?=some (eI (L.getD (a.tmod L.length).toNat 0)):=by
   rw[dC eI (show(a.tmod L.length).toNat<L.length by omega)]
   simp [List.getD,show(a.tmod L.length).toNat<L.length by omega]
  simp only[IL,go_sem,hs,z5p,e1,w1,w2,e4,e5];simp only[JB,show ¬L.length=0 by omega,if_false]
section
variable {L:List Int} {a:Int} {h l:aA} {id:Nat} {K:jA}
theorem eL (hid:id<h.length)(hp:UA 0 a)(n:Int):bA X SE [.ref id 0,AI n] (h.set id (nA L a)) K=K (AI (JB L a n)) (h.set id (nA L (a+1))) []:=(z3D L a n hp).set hid
theorem z5u (hid:id<h.length)(hp:UA 0 a)(n:Int):bA X SE [.ref id 0,AI n] (h.set id (nA L a)++l) K=K (AI (JB L a n)) (h.set id (nA L (a+1))++l) []:=(z3D L a n hp).app hid
theorem z3C (hp:UA 0 a)(n:Int):Gen tG [AI n] L a (a+1) (AB (decide (JB L a n=0))):=by
 refine Gen.of fun h id hid=>?_
 rw[z9o rfl];simp only[fP,go_sem,eL hid hp]
theorem z5s (hid:id<h.length)(hp:UA 0 a)(n:Int):bA X tG [.ref id 0,AI n] (h.set id (nA L a)) K=K (AB (decide (JB L a n=0))) (h.set id (nA L (a+1))) []:=(z3C hp n).set hid
theorem z5r (hid:id<h.length)(hp:UA 0 a)(n:Int):bA X tG [.ref id 0,AI n] (h.set id (nA L a)++l) K=K (AB (decide (JB L a n=0))) (h.set id (nA L (a+1))++l) []:=(z3C hp n).app hid
theorem z3E (hp:UA 0 a)(xs:List PV)(hx:xs.all isI=true)(hl:0<xs.length)(hl2:xs.length<4611686018427387904) :
 Gen pF [.p (.sl none xs)] L a (a+1) (AI (TD (xs.map unI) L a)):=by
 refine Gen.of fun h id hid=>?_
 rw[z9q rfl];obtain⟨b1,b2⟩:=YM L a xs.length (by omega) (by omega)
 have e4:=BQ (k:=.i64) b1
 have e5:xs[(JB L a xs.length).toNat]?=some (eI (TD (xs.map unI) L a)):=by
  have hm:=zlG hx
  generalize hq:xs.map unI=q at *;subst hm;simp only[List.length_map]at *;rw[dC eI (show(JB L a q.length).toNat<q.length by omega)]
  simp [TD,List.getD,show(JB L a q.length).toNat<q.length by omega]
 simp only[iP,go_sem,eL hid hp,e4,e5]
theorem z5w (hid:id<h.length)(hp:UA 0 a){xs:List PV}(hx:xs.all isI=true)(hl:0<xs.length)(hl2:xs.length<4611686018427387904) :
 bA X pF [.ref id 0,.p (.sl none xs)] (h.set id (nA L a)) K=K (AI (TD (xs.map unI) L a)) (h.set id (nA L (a+1))) []:=(z3E hp xs hx hl hl2).set hid
theorem z5v (hid:id<h.length)(hp:UA 0 a){xs:List PV}(hx:xs.all isI=true)(hl:0<xs.length)(hl2:xs.length<4611686018427387904) :
 bA X pF [.ref id 0,.p (.sl none xs)] (h.set id (nA L a)++l) K=K (AI (TD (xs.map unI) L a)) (h.set id (nA L (a+1))++l) []:=(z3E hp xs hx hl hl2).app hid
def YC (u v:Int)(L:List Int)(a:Int):Int:=u+JB L a (v-u+1)
theorem sN {u v:Int}(L:List Int)(a:Int)(h1:u≤v)(h2:v≤u+4611686018427387900):u≤YC u v L a∧YC u v L a≤v:=by
 have:=YM L a (v-u+1) (by omega) (by omega)
 unfold YC;omega
theorem z3F (hp:UA 0 a)(u v:Int)(huv:u≤v)(hu : -1152921504606846976≤u)(hv:v≤1152921504606846976) :
 Gen qF [AI u,AI v] L a (a+1) (AI (YC u v L a)):=by
 refine Gen.of fun h id hid=>?_
 rw[z9r rfl];obtain⟨b1,b2⟩:=sN L a huv (by omega)
 have w1:IntKind.i64.wrap (v-u)=v-u:=BA _ (by omega) (by omega)
 have w2:IntKind.i64.wrap (v-u+1)=v-u+1:=BA _ (by omega) (by omega)
 have w3:IntKind.i64.wrap (u+JB L a (v-u+1))=YC u v L a:=BA (YC u v L a) (by omega) (by omega)
 simp only[jP,go_sem,show ¬v<u by omega,w1,w2,eL hid hp,w3]
theorem z5y (hid:id<h.length)(hp:UA 0 a){u v:Int}(huv:u≤v)(hu : -1152921504606846976≤u)(hv:v≤1152921504606846976) :
 bA X qF [.ref id 0,AI u,AI v] (h.set id (nA L a)) K=K (AI (YC u v L a)) (h.set id (nA L (a+1))) []:=(z3F hp u v huv hu hv).set hid
theorem z5x (hid:id<h.length)(hp:UA 0 a){u v:Int}(huv:u≤v)(hu : -1152921504606846976≤u)(hv:v≤1152921504606846976) :
 bA X qF [.ref id 0,AI u,AI v] (h.set id (nA L a)++l) K=K (AI (YC u v L a)) (h.set id (nA L (a+1))++l) []:=(z3F hp u v huv hu hv).app hid
end
attribute [go_sem ↓] eL z5u z5s z5r z5w z5v z5y z5x
attribute [go_sem] eL z5u z5s z5r z5w z5v z5y z5x isI unI
end Go.Am
end
section
/- Plain laws of fractions in lowest terms. -/
namespace Go.Am
def low (a b:Int):Int×Int:=(a.tdiv (Int.gcd a b),b.tdiv (Int.gcd a b))
end Go.Am
end
section
/- Small functions of numbers and of lists of numbers. -/
open Go
namespace Go.Am
variable {h:aA} {K:jA}
theorem s_Out (n a b:Int):bA X lC [AI n,AI a,AI b] h K=K (AB (decide (n<a)||decide (b<n))) h []:=by
 refine tA ?_;rw[z9c rfl];by_cases h1:n<a <;> simp only[TO,go_sem,h1]
theorem wN (n a b:Int):bA X wE [AI n,AI a,AI b] h K=K (AB (decide (a≤n)&&decide (n≤b))) h []:=by
 refine tA ?_;rw[z90 rfl];by_cases h1:a≤n <;> simp only[qP,go_sem,h1]
theorem zg7 (n a b:Int):(decide (n<a)||decide (b<n)) = !(decide (a≤n)&&decide (n≤b)):=by
 rw[Bool.eq_iff_iff];simp
theorem qS (n:Int):bA X GJ [AI n] h K=K (AI n.sign) h []:=by
 refine tA ?_;rw[z93 rfl];rcases Int.lt_trichotomy n 0 with h1|h1|h1
 ·simp only[oJ,go_sem,h1,Int.sign_eq_neg_one_of_neg h1]
 ·subst h1;simp only[oJ,go_sem,Int.sign_zero]
 ·simp only[oJ,go_sem,show ¬n<0 by omega,h1,Int.sign_eq_one_of_pos h1]
theorem zlF (n:Int)(h1:0≤n)(h2:n<18446744073709551616):IntKind.u64.wrap n=n:=by
 simp [IntKind.wrap,IntKind.bits,IntKind.signed];omega
abbrev AU (n:Int):AV:=.p (.int .u64 n)
def gB (x y:Int):Int:=if x<y then -1 else if x=y then 0 else 1
theorem JO (x y:Int):gB x y=(x-y).sign:=by
 unfold gB;rcases Int.lt_trichotomy x y with h|h|h
 ·rw[if_pos h,Int.sign_eq_neg_one_of_neg (by omega)]
 ·rw[if_neg (by omega),if_pos h,h];simp
 ·rw[if_neg (by omega),if_neg (by omega),Int.sign_eq_one_of_pos (by omega)]
end Go.Am
end
section
/- Functions of lists. -/
open Go
namespace Go.Am
variable {h:aA} {K:jA}
theorem iZ (a:Int):bA X kI [AI a] h K=K (AB false) h []:=by
 refine tA ?_;rw[z9f rfl];simp only[WO,go_sem]
theorem z50 (a b:Int):bA X dH [AI a,AI b] h K=K (AI (gB a b)) h []:=by
 refine tA ?_;rw[z9d rfl];unfold gB;by_cases h1:a<b
 ·simp only[lJ,go_sem,iZ,h1]
 ·by_cases h2:b<a
  ·simp only[lJ,go_sem,iZ,h1,h2,show ¬a=b by omega]
  ·simp only[lJ,go_sem,iZ,h1,h2,show a=b by omega,Int.lt_irrefl]
def z0l (g:Nat)(caps:List AV)(p:PV→Bool)(xs:List PV)(h:aA):Prop:=∀x∈xs,∀K:jA,bA X g (.p x::caps) h K=K (AB (p x)) h []
def KM (p:PV→Bool)(xs:List PV):Int:=if xs.findIdx p<xs.length then(xs.findIdx p:Int) else -1
theorem zeA (p:PV→Bool)(xs:List PV):decide (0≤KM p xs)=xs.any p:=by
 unfold KM;rw[Bool.eq_iff_iff];by_cases h:xs.findIdx p<xs.length
 ·rw[if_pos h];simp only[decide_eq_true_eq,List.any_eq_true]
  exact⟨fun _=>⟨_,List.getElem_mem h,List.findIdx_getElem⟩,fun _=>by omega⟩
 ·rw[if_neg h];simp only[decide_eq_true_eq,List.any_eq_true]
  refine⟨fun h=>by omega,fun⟨x,hx,hp⟩=>absurd (List.findIdx_lt_length_of_exists ⟨x,hx,hp⟩) h⟩
end Go.Am
end
section
/- Plain lists: insertion sort asv Go's package slices does it on short lists;deleting;compacting. -/
namespace Go.Am
variable {α:Type}
def ZB (lt:α→α→Bool)(x:α):List α→List α
 | []=>[x]
 | y::r=>bif lt x y then y::ZB lt x r else x::y::r
def QD (lt:α→α→Bool)(l:List α):List α:=l.foldl (fun r x=>ZB lt x r) []
def eB (lt:α→α→Bool)(l:List α):List α:=(QD lt l).reverse
theorem SW (lt:α→α→Bool)(x:α):∀r:List α,(ZB lt x r).Perm (x::r)
 | []=>.refl _
 | y::r=>by
  unfold ZB;cases lt x y with
  | true=>exact((SW lt x r).cons y).trans (.swap _ _ _)
  | false=>exact .refl _
theorem z3V (lt:α→α→Bool):∀(l r:List α),(l.foldl (fun r x=>ZB lt x r) r).Perm (l++r)
 | [],r=>.refl _
 | x::l,r=>by
  simp only[List.foldl_cons,List.cons_append];refine(z3V lt l _).trans ?_;exact((SW lt x r).append_left l).trans (List.perm_middle)
theorem rQ (lt:α→α→Bool)(l:List α):(QD lt l).Perm l:=by
 have:=z3V lt l [];rwa [List.append_nil]at this
theorem TW (lt:α→α→Bool)(l:List α):(eB lt l).Perm l:=(List.reverse_perm _).trans (rQ lt l)
theorem sQ (lt:α→α→Bool)(l:List α):(eB lt l).length=l.length:=(TW lt l).length_eq
theorem xI {lt:α→α→Bool}{l:List α}{x:α}:x∈eB lt l↔x∈l:=(TW lt l).mem_iff
theorem z3U (lt:α→α→Bool)(l:List α):(QD lt l).length=l.length:=(rQ lt l).length_eq
structure Weak (lt:α→α→Bool):Prop where
 asym:∀a b,lt a b=true→lt b a=false
 ntrans:∀a b c,lt b a=false→lt c b=false→lt c a=false
theorem z3P {lt:α→α→Bool}(w:Weak lt)(x:α):∀r:List α,r.Pairwise (fun a b=>lt a b=false)→(ZB lt x r).Pairwise (fun a b=>lt a b=false)
 | [],_=>by simp [ZB]
 | y::r,h=>by
  unfold ZB;rw[List.pairwise_cons]at h;cases hxy:lt x y with
  | true=>
   rw[cond_true,List.pairwise_cons];refine⟨fun z hz=>?_,z3P w x r h.2⟩
   rcases List.mem_cons.1 ((SW lt x r).mem_iff.1 hz) with rfl|hz
   ·exact w.asym _ _ hxy
   ·exact h.1 z hz
  | false=>
   rw[cond_false,List.pairwise_cons,List.pairwise_cons];refine⟨fun z hz=>?_,h⟩
   rcases List.mem_cons.1 hz with rfl|hz
   ·exact hxy
   ·exact w.ntrans _ _ _ (h.1 z hz) hxy
theorem z3W {lt:α→α→Bool}(w:Weak lt):∀(l r:List α),r.Pairwise (fun a b=>lt a b=false)→(l.foldl (fun r x=>ZB lt x r) r).Pairwise (fun a b=>lt a b=false)
 | [],r,h=>h
 | x::l,r,h=>z3W w l _ (z3P w x r h)
theorem z3Z {lt:α→α→Bool}(w:Weak lt)(l:List α):(eB lt l).Pairwise (fun a b=>lt b a=false):=by
 unfold eB;rw[List.pairwise_reverse];exact z3W w l [] .nil
theorem z3X (lt:α→α→Bool)(l:List α)(k:Nat)(hk:k<l.length):QD lt (l.take (k+1))=ZB lt l[k] (QD lt (l.take k)):=by
 rw[List.take_succ_eq_append_getElem hk];unfold QD;rw[List.foldl_append];rfl
theorem z4p {β:Type}(f:α→β){lt:α→α→Bool}{lt':β→β→Bool}(h:∀ a b,lt' (f a) (f b)=lt a b)(x:α):∀r:List α,ZB lt' (f x) (r.map f)=(ZB lt x r).map f
 | []=>rfl
 | y::r=>by
  simp only[List.map_cons,ZB,h];cases lt x y with
  | true=>simp only[cond_true,List.map_cons,z4p f h x r]
  | false=>rfl
theorem z3Q (lt:α→α→Bool)(x:α)(A:List α):∀B:List α,(∀b∈B,lt x b=true)→ZB lt x (B++A)=B++ZB lt x A
 | [],_=>rfl
 | b::B,h=>by
  simp only[List.cons_append,ZB,h b (by simp),cond_true]
  rw[z3Q lt x A B (fun b hb=>h b (by simp [hb]))]
theorem z3R (A C:List α)(x:α):(A.reverse++x::C)[A.length]?=some x:=by
 rw[List.getElem?_append_right (by simp)];simp
theorem z3S (A C:List α)(x y:α):((y::A).reverse++x::C)[A.length]?=some y:=by
 rw[List.getElem?_append_left (by simp)];simp
theorem z3T (A C:List α)(x y:α):(((y::A).reverse++x::C).set (A.length+1) y).set A.length x=A.reverse++x::y::C:=by
 have e:(y::A).reverse++x::C=A.reverse++y::x::C:=by simp
 rw[e,List.set_append_right _ _ (by simp),List.length_reverse,Nat.add_sub_cancel_left,List.set_append_right _ _ (by simp),List.length_reverse,Nat.sub_self]
 rfl
theorem qQ (lt:α→α→Bool)(x:α)(A B:List α)(hB:∀ b∈B,lt x b=true)(hA:∀ y r,A=y::r→lt x y=false):ZB lt x (B++A)=B++x::A:=by
 rw[z3Q lt x A B hB];cases A with
 | nil=>rfl
 | cons y r=>simp only[ZB,hA y r rfl,cond_false]
theorem z3Y {β:Type}(f:α→β){lt:α→α→Bool}{lt':β→β→Bool}(h:∀ a b,lt' (f a) (f b)=lt a b)(l:List α):eB lt' (l.map f)=(eB lt l).map f:=by
 have key:∀(l r:List α),(l.map f).foldl (fun r x=>ZB lt' x r) (r.map f)=(l.foldl (fun r x=>ZB lt x r) r).map f:=by
  intro l;induction l with
  | nil=>intro r;rfl
  | cons x l ih=>intro r;simp only[List.map_cons,List.foldl_cons,z4p f h,ih]
 unfold eB QD;have:=key l [];simp only[List.map_nil]at this;rw[this,List.map_reverse]
end Go.Am
namespace Go.Am
variable {α:Type}
def XB (q:α→α→Bool)(prev:α):List α→List α
 | []=>[]
 | x::r=>bif q x prev then XB q x r else x::XB q x r
def BB (q:α→α→Bool):List α→List α
 | []=>[]
 | x::r=>x::XB q x r
theorem qU (q:α→α→Bool):∀(l:List α) (p:α),∀x∈XB q p l,x∈l
 | [],_,x,h=>h
 | y::r,p,x,h=>by
  unfold XB at h;cases hq:q y p with
  | true=>rw[hq]at h;exact List.mem_cons_of_mem _ (qU q r y x h)
  | false=>
   rw[hq]at h;rcases List.mem_cons.1 h with rfl|h
   ·simp
   ·exact List.mem_cons_of_mem _ (qU q r y x h)
theorem za0 {q:α→α→Bool}{l:List α}{x:α}(h:x∈BB q l):x∈l:=by
 cases l with
 | nil=>exact h
 | cons y r=>
  rcases List.mem_cons.1 h with rfl|h
  ·simp
  ·exact List.mem_cons_of_mem _ (qU q r y x h)
theorem z1o (q:α→α→Bool)(z:α):∀(l:List α) (p:α),XB q p (l++[z])=XB q p l++(bif q z ((p::l).getLast (by simp)) then [] else [z])
 | [],p=>by simp only[List.nil_append,XB,List.getLast_singleton]
 | x::r,p=>by
  simp only[List.cons_append,XB,z1o q z r x];have e:(p::x::r).getLast (by simp)=(x::r).getLast (by simp):=List.getLast_cons (by simp)
  rw[e];cases q x p <;> rfl
theorem z1p (q:α→α→Bool)(l:List α)(k:Nat)(hk:k+1<l.length):BB q (l.take (k+1+1))=BB q (l.take (k+1))++(bif q l[k+1] l[k] then [] else [l[k+1]]):=by
 rw[List.take_succ_eq_append_getElem hk];cases l with
 | nil=>simp at hk
 | cons x r=>
  simp only[List.take_succ_cons,List.cons_append,BB,z1o];have e:(x::r.take k).getLast (by simp)=(x::r)[k]:=by
   have:x::r.take k=(x::r).take (k+1):=rfl
   simp only[this];rw[List.getLast_eq_getElem];simp only[List.getElem_take];congr 1
   simp only[List.length_take,List.length_cons]at hk ⊢;omega
  rw[e]
theorem zaz {β:Type}(f:α→β){q:α→α→Bool}{q':β→β→Bool}(h:∀ a b,q' (f a) (f b)=q a b)(l:List α):BB q' (l.map f)=(BB q l).map f:=by
 have key:∀(l:List α) (p:α),XB q' (f p) (l.map f)=(XB q p l).map f:=by
  intro l;induction l with
  | nil=>intro p;rfl
  | cons x r ih=>
   intro p;simp only[List.map_cons,XB,h,ih];cases q x p <;> rfl
 cases l with
 | nil=>rfl
 | cons x r=>simp only[List.map_cons,BB,key]
end Go.Am
end
section
/- Values of a shape: loads and stores in rows. -/
open Go
namespace Go.Am
variable {h:aA} {K:jA}
theorem YF {sh:Sh}{x:PV}(hx:x.shp sh=true):ZA sh 0 x=some x:=by
 cases sh with
 | none=>exact zaE hx
 | some n=>
  cases x with
  | agg cs=>
   simp only[PV.shp,Bool.and_eq_true,beq_iff_eq]at hx;simp [ZA,hx.1];exact List.take_of_length_le (by omega)
  | _=>cases hx
theorem zN {sh:Sh}{x:PV}(hx:x.shp sh=true):x.cells.length=gA sh:=by
 cases sh with
 | none=>cases x <;> first|rfl|cases hx
 | some n=>
  cases x with
  | agg cs=>simp only[PV.shp,Bool.and_eq_true,beq_iff_eq]at hx;exact hx.1
  | _=>cases hx
theorem yN {sh:Sh}{x:PV}(hx:x.shp sh=true):x.cells.all PV.sc=true:=by
 cases sh with
 | none=>cases x <;> first|rfl|cases hx
 | some n=>
  cases x with
  | agg cs=>simp only[PV.shp,Bool.and_eq_true,beq_iff_eq]at hx;exact hx.2
  | _=>cases hx
theorem AN {sh:Sh}{x y:PV}(hx:x.shp sh=true)(hy:y.shp sh=true)(id i fz:Nat)(xs:List PV)(h1:aA):stE sh id i 0 fz sh xs x h1 (some y)=some (.und,h1.set id (.row sh (xs.set i x) fz),[]):=by
 cases sh with
 | none=>
  cases y with
  | agg cs=>cases hy
  | _=>simp only[PV.shp]at hx;simp [stE,hx]
 | some n=>
  cases y with
  | agg cs=>
   cases x with
   | agg ds=>
    simp only[PV.shp,Bool.and_eq_true,beq_iff_eq]at hx hy;simp [stE,PV.cells,splice,hx.1,hy.1,show cs.drop n=[] from List.drop_of_length_le (by omega)]
   | _=>cases hx
  | _=>cases hy
def xD (sh:Sh)(xs:List PV):Prop:=∀x∈xs,x.shp sh=true
theorem QI {sh:Sh}{xs:List PV}(hx:xD sh xs){i:Nat}(hi:i<xs.length):xs[i].shp sh=true:=hx _ (List.getElem_mem hi)
theorem jL {h:aA}{id:Nat}{o:Obj}(hh:h[id]?=some o):h.set id o=h:=by
 apply List.ext_getElem?
 intro i;rw[List.getElem?_set];split
 ·rename_i e;subst e;rw[hh];simp [DG hh]
 ·rfl
def Cmps (g:Nat)(caps:List AV)(c:PV→PV→Int)(xs:List PV)(id:Nat)(h:aA):Prop:=∀(o:Obj) (x:PV),x∈xs→∀y,y∈xs→∀K:jA,bA X g (.p x :: .p y::caps) (h.set id o) K=K (AI (c x y)) (h.set id o) []
def ltC (c:PV→PV→Int)(a b:PV):Bool:=decide (c a b<0)
structure Shows (sh:Sh) (v:AV) (xs:List PV) (h:aA):Prop where
 len:ZE v=some (AI xs.length)
 get:∀(k:Nat) (hk:k<xs.length),∃a,RD sh v (AI k) h=some a∧FA sh a h=some (.p xs[k])
theorem z5L {sh:Sh}{xs:List PV}(hs:xD sh xs):Shows sh (.p (.sl sh xs)) xs h:=by
 refine⟨rfl,fun k hk=>⟨.vp xs[k],?_,?_⟩⟩
 ·simp [RD,dB,hk]
 ·simp only[z4i,YF (QI hs hk)];rfl
theorem zkF {sh:Sh}{id off len fz:Nat}{xs:List PV}(hs:xD sh xs)(hh:h[id]?=some (.row sh xs fz))(hl:off+len≤xs.length):Shows sh (.own id xs.length off len) (win xs off len) h:=by
 have hw:(win xs off len).length=len:=by simp [win];omega
 refine⟨by rw[hw];rfl,fun k hk=>⟨.rref id xs.length (off+k) 0,?_,?_⟩⟩
 ·rw[hw]at hk
  simp [RD,dB,hh,hl,hk]
 ·have hk':off+k<xs.length:=by rw[hw]at hk;omega
  have e:(win xs off len)[k]=xs[off+k]:=by simp [win]
  rw[e];simp only[z4h,hh,z4e,if_true,List.getElem?_eq_getElem hk',Option.bind_some,YF (QI hs hk'),Option.map_some]
end Go.Am
end
section
/- Strings: keys,the library's functions without text. -/
open Go
set_option linter.unusedSimpArgs false
namespace Go.Am
variable {h:aA} {K:jA}
abbrev AS (s:List UInt8):AV:=.p (.str s)
theorem z0o:X.ext=fI rG sG:=rfl
theorem zkf (s:List UInt8)(c:UInt8):bA X rG [AS s,.p (.int .u8 c.toNat)] h K=K (AI (vF s c)) h []:=by
 have:=z2f (X:=X) (f:=rG) (asv:=[AS s,.p (.int .u8 c.toNat)]) (vs:=[.str s,.int .u8 c.toNat]) (h:=h) (h1:=h) (r:=.int .i64 (vF s c)) (K:=K) (by kernel_rfl) rfl rfl rfl ?_
 ·exact this
 ·rw[z0o]
  unfold fI;rw[show Nat.beq rG rG=true from by kernel_rfl]
  simp
theorem zkb (a b:List UInt8):bA X sG [AS a,AS b] h K=K (AI (DA a b)) h []:=by
 have:=z2f (X:=X) (f:=sG) (asv:=[AS a,AS b]) (vs:=[.str a,.str b]) (h:=h) (h1:=h) (r:=.int .i64 (DA a b)) (K:=K) (by kernel_rfl) rfl rfl rfl ?_
 ·exact this
 ·rw[z0o]
  unfold fI;rw[show Nat.beq sG rG=false from by kernel_rfl,show Nat.beq sG sG=true from by kernel_rfl]
  rfl
theorem rS (a b:List UInt8):bA X UE [AS a,AS b] h K=K (AI (DA a b)) h []:=by
 have key:∀(h:aA) (K:jA),bA X AJ [AS a,AS b] h K=K (AI (DA a b)) h []:=by
  intro h K;refine tA ?_;rw[z9g rfl];simp only[XO,go_sem,zkb]
 refine tA ?_;rw[z9Z rfl];simp only[OP,go_sem,key]
theorem z5t (s:List UInt8)(c:UInt8):bA X zM [AS s,.p (.int .u8 c.toNat)] h K=K (AI (vF s c)) h []:=by
 have key:∀(h:aA) (K:jA),bA X cM [AS s,.p (.int .u8 c.toNat)] h K=K (AI (vF s c)) h []:=by
  intro h K;refine tA ?_;rw[z9h rfl];simp only[YO,go_sem,zkf]
 refine tA ?_;rw[zaa rfl];simp only[PP,go_sem,key]
theorem KO:∀ a,DA a a=0
 | []=>rfl
 | x::a=>by simp only[DA,UInt8.lt_irrefl,if_false];exact KO a
theorem HF:∀ {a b:List UInt8},DA a b=0→a=b
 | [],[],_=>rfl
 | [],_::_,h=>by simp [DA]at h
 | _::_,[],h=>by simp [DA]at h
 | x::a,y::b,h=>by
  simp only[DA]at h;split at h
  ·cases h
  ·split at h
   ·cases h
   ·rename_i h1 h2
    have:x=y:=UInt8.le_antisymm (UInt8.not_lt.1 h2) (UInt8.not_lt.1 h1)
    rw[this,HF h]
theorem YG:∀ a b,DA b a = - DA a b
 | [],[]=>rfl
 | [],_::_=>rfl
 | _::_,[]=>rfl
 | x::a,y::b=>by
  simp only[DA];by_cases h1:x<y
  ·have h2:¬y<x:=UInt8.lt_asymm h1
   simp [h1,h2]
  ·by_cases h2:y<x
   ·simp [h1,h2]
   ·simp [h1,h2,YG a b]
theorem LO:∀ {a b c:List UInt8},DA a b<0→DA b c<0→DA a c<0
 | [],[],_,h,_=>by simp [DA]at h
 | [],_::_,[],_,h=>by simp [DA]at h
 | [],_::_,_::_,_,_=>by simp [DA]
 | _::_,[],_,h,_=>by simp [DA]at h
 | _::_,_::_,[],_,h=>by simp [DA]at h
 | x::a,y::b,z::c,h1,h2=>by
  simp only[DA]at h1 h2 ⊢;by_cases hxy:x<y
  ·by_cases hyz:y<z
   ·simp [UInt8.lt_trans hxy hyz]
   ·by_cases hzy:z<y
    ·simp [hyz,hzy]at h2
    ·have:y=z:=UInt8.le_antisymm (UInt8.not_lt.1 hzy) (UInt8.not_lt.1 hyz)
     subst this;simp [hxy]
  ·by_cases hyx:y<x
   ·simp [hxy,hyx]at h1
   ·have:x=y:=UInt8.le_antisymm (UInt8.not_lt.1 hyx) (UInt8.not_lt.1 hxy)
    subst this;simp only[UInt8.lt_irrefl,if_false]at h1;by_cases hyz:x<z
    ·simp [hyz]
    ·by_cases hzy:z<x
     ·simp [hyz,hzy]at h2
     ·simp only[hyz,hzy,if_false]at h2 ⊢
      exact LO h1 h2
def XE (c:UInt8):Bool:=decide ((97:Int)≤c.toNat)&&decide ((c.toNat:Int)≤122)||decide ((48:Int)≤c.toNat)&&decide ((c.toNat:Int)≤57)||decide ((c.toNat:Int)=45)||decide ((c.toNat:Int)=95)
def tB (s:List UInt8):Bool:=match s with
 | []=>false
 | c::r=>decide (r.length<40)&&(decide ((97:Int)≤c.toNat)&&decide ((c.toNat:Int)≤122))&&(c::r).all XE
theorem vN (s:List UInt8)(hl:s.length≤1000000000):bA X fE [AS s] h K=K (AB (tB s)) h []:=by
 refine tA ?_;rw[z9a rfl];cases s with
 | nil=>simp only[aH,go_sem,tB]
 | cons c r=>
  have n0:((c::r)=[])=False:=by simp
  have e1:(((r.length+1:Nat):Int)≤40)=(r.length<40):=by simp only[eq_iff_iff];omega
  by_cases h1:(40:Int)<((r.length+1:Nat):Int)
  ·have:¬r.length<40:=by omega
   simp only[aH,go_sem,n0,h1,tB,this]
  have h1':r.length<40:=by omega
  by_cases h2:(c.toNat:Int)<97
  ·have:¬(97:Int)≤c.toNat:=by omega
   simp only[aH,go_sem,n0,h1,h2,tB,this,h1']
  have h2':(97:Int)≤c.toNat:=by omega
  by_cases h3:(122:Int)<c.toNat
  ·have:¬(c.toNat:Int)≤122:=by omega
   simp only[aH,go_sem,n0,h1,h2,h3,tB,this,h1',h2']
  have h3':(c.toNat:Int)≤122:=by omega
  have ek:tB (c::r)=(c::r).all XE:=by simp [tB,h1',h2',h3']
  rw[ek];generalize hB:(c::r).all XE=B;simp only[aH,go_sem,n0,h1,h2,h3];have hlen:(c::r).length=r.length+1:=rfl
  rw[←hlen];generalize c::r=s at *;refine XA (fun k:Nat=>⟨[(0,AS s),(23,AI s.length),(24,AI k)],h,[]⟩) (fun k=>k≤s.length∧(s.take k).all XE=true) (fun k=>s.length-k) 0 rfl ⟨by omega,rfl⟩ ?_
  rintro k ⟨hk,hp⟩
  rcases Nat.lt_or_ge k s.length with hlt|hge
  ·have hg:s[k]?=some s[k]:=List.getElem?_eq_getElem hlt
   have w2:IntKind.i64.wrap ((k:Int)+1)=((k+1:Nat):Int):=BA _ (by omega) (by omega)
   generalize hc:s[k]=c at *;have key:(decide ((97:Int)≤c.toNat)&&decide ((c.toNat:Int)≤122)||decide ((48:Int)≤c.toNat)&&decide ((c.toNat:Int)≤57)||decide ((c.toNat:Int)=45)||decide ((c.toNat:Int)=95))=XE c:=rfl
   cases hkc:XE c with
   | true=>
    rw[hkc]at key;have hn:(s.take (k+1)).all XE=true:=by rw[List.take_succ_eq_append_getElem hlt,List.all_append,hp,hc];simp [hkc]
    by_cases b1:(97:Int)≤c.toNat <;> by_cases b2:(c.toNat:Int)≤122 <;> by_cases b3:(48:Int)≤c.toNat <;> by_cases b4:(c.toNat:Int)≤57 <;> by_cases b5:(c.toNat:Int)=45 <;> by_cases b6:(c.toNat:Int)=95
    all_goals first
     | (simp only[b1,b2,b3,b4,b5,b6,decide_true,decide_false,Bool.and_self,Bool.and_true,Bool.and_false,Bool.or_self,Bool.or_true,Bool.or_false,Bool.true_or,Bool.false_or,Bool.false_and,reduceCtorEq]at key;done)
     | (exfalso;omega)
     | (simp only[go_sem,hlt,hg,w2,b1,b2,b3,b4,b5,b6];exact⟨k+1,rfl,⟨by omega,hn⟩,by omega⟩)
   | false=>
    rw[hkc]at key;have hn:s.all XE=false:=by rw[List.all_eq_false];exact⟨_,List.getElem_mem hlt,by rw[hc,hkc];simp⟩
    rw[hn]at hB;subst hB;by_cases b1:(97:Int)≤c.toNat <;> by_cases b2:(c.toNat:Int)≤122 <;> by_cases b3:(48:Int)≤c.toNat <;> by_cases b4:(c.toNat:Int)≤57 <;> by_cases b5:(c.toNat:Int)=45 <;> by_cases b6:(c.toNat:Int)=95
    all_goals first
     | (simp only[b1,b2,b3,b4,b5,b6,decide_true,decide_false,Bool.and_self,Bool.and_true,Bool.and_false,Bool.or_self,Bool.or_true,Bool.or_false,Bool.true_or,Bool.false_or,Bool.false_and,reduceCtorEq]at key;done)
     | (exfalso;omega)
     | (simp only[go_sem,hlt,hg,b1,b2,b3,b4,b5,b6])
  ·have ek:k=s.length:=by omega
   subst ek;rw[List.take_length,hB]at hp;subst hp;simp only[go_sem,Nat.lt_irrefl]
theorem ze9 (s:List UInt8)(c:UInt8):decide (vF s c<0) = !s.contains c:=by
 unfold vF;rw[Bool.eq_iff_iff];by_cases hf:s.findIdx (· == c)<s.length
 ·rw[if_pos hf]
  have:=List.findIdx_getElem (w:=hf);simp only[beq_iff_eq]at this;have hm:c∈s:=by rw[←this];exact List.getElem_mem hf
  simp [hm]
 ·rw[if_neg hf]
  have hm:¬c∈s:=fun hm=>hf (List.findIdx_lt_length_of_exists ⟨c,hm,by simp⟩)
  simp [hm]
theorem z57 (s t:List UInt8)(hl:s.length≤1000000000):bA X FJ [AS s,AS t] h K=K (AB (s.all fun c=>t.contains c)) h []:=by
 refine tA ?_;rw[z91 rfl];simp only[rP,go_sem];refine XA (fun k:Nat=>⟨[(0,AS s),(1,AS t),(7,AI s.length),(8,AI k)],h,[]⟩) (fun k=>k≤s.length∧(s.take k).all (fun c=>t.contains c)=true) (fun k=>s.length-k) 0 rfl ⟨by omega,rfl⟩ ?_
 rintro k ⟨hk,hp⟩
 rcases Nat.lt_or_ge k s.length with hlt|hge
 ·have hg:s[k]?=some s[k]:=List.getElem?_eq_getElem hlt
  have w2:IntKind.i64.wrap ((k:Int)+1)=((k+1:Nat):Int):=BA _ (by omega) (by omega)
  have hi:=ze9 t s[k]
  by_cases hc:vF t s[k]<0
  ·have:s.all (fun c=>t.contains c)=false:=by
    rw[List.all_eq_false];refine⟨_,List.getElem_mem hlt,?_⟩;rw[decide_eq_true hc]at hi;cases hq:t.contains s[k]with
    | true=>rw[hq]at hi;cases hi
    | false=>simp
   simp only[go_sem,hlt,hg,z5t,hc,this]
  ·rw[decide_eq_false hc]at hi
   have hq:t.contains s[k]=true:=by cases hq:t.contains s[k]with|true=>rfl|false=>rw[hq]at hi;cases hi
   simp only[go_sem,hlt,hg,z5t,hc,w2];exact⟨k+1,rfl,⟨by omega,by rw[List.take_succ_eq_append_getElem hlt,List.all_append,hp];simp only[List.all_cons,List.all_nil,hq];rfl⟩,by omega⟩
 ·have ek:k=s.length:=by omega
  subst ek;rw[List.take_length]at hp;simp only[go_sem,Nat.lt_irrefl,hp]
def BN:List UInt8:=[97,98,99,100,101,102,103,104,105,106,107,108,109,110,111,112,113,114,115,116,117,118,119,120,121,122]
def PM:List UInt8:=[97,98,99,100,101,102,103,104,105,106,107,108,109,110,111,112,113,114,115,116,117,118,119,120,121,122,48,49,50,51,52,53,54,55,56,57,45,95]
theorem z6a {p:UInt8→Bool}(h:((List.range 256).all fun n=>p (UInt8.ofNat n))=true)(c:UInt8):p c=true:=by
 have:=List.all_eq_true.1 h c.toNat (by simp;exact c.toNat_lt)
 rwa [UInt8.ofNat_toNat]at this
theorem zkN (c:UInt8):BN.contains c=(decide ((97:Int)≤c.toNat)&&decide ((c.toNat:Int)≤122)):=by
 have:=z6a (p:=fun c=>BN.contains c==(decide ((97:Int)≤c.toNat)&&decide ((c.toNat:Int)≤122))) (by kernel_rfl) c
 simpa using this
theorem zeT (c:UInt8):PM.contains c=XE c:=by
 have:=z6a (p:=fun c=>PM.contains c==XE c) (by kernel_rfl) c
 simpa using this
theorem pS (s:List UInt8)(hl:s.length≤1000000000):bA X TE [AS s] h K=K (AB (tB s)) h []:=by
 refine tA ?_;rw[z9y rfl];have o1:=fun h K=>z57 (h:=h) (K:=K) s PM hl
 have e2:(s.all fun c=>PM.contains c)=s.all XE:=by congr 1;funext c;exact zeT c
 rw[e2]at o1;unfold PM at o1;cases s with
 | nil=>simp only[aI,go_sem,wN,tB]
 | cons c r=>
  have o2:=fun h K=>z57 (h:=h) (K:=K) [c] BN (by simp)
  have e3:([c].all fun c=>BN.contains c)=(decide ((97:Int)≤c.toNat)&&decide ((c.toNat:Int)≤122)):=by simp only[List.all_cons,List.all_nil,Bool.and_true];exact zkN c
  rw[e3]at o2;unfold BN at o2;have q1:(1:Int)≤((r.length+1:Nat):Int):=by omega
  have q2:1≤r.length+1:=by omega
  by_cases h1:r.length<40
  ·have h1':((r.length+1:Nat):Int)≤40:=by omega
   cases h2:(decide ((97:Int)≤c.toNat)&&decide ((c.toNat:Int)≤122)) with
   | true=>
    have ek:tB (c::r)=(c::r).all XE:=by
     simp only[tB,h1,decide_true,Bool.true_and,h2]
    rw[ek];simp only[aI,go_sem,wN,h1',q1,q2,win,↓o2,o2,h2,↓o1,o1]
   | false=>
    have ek:tB (c::r)=false:=by simp only[tB,h1,decide_true,Bool.true_and,h2,Bool.false_and]
    rw[ek];simp only[aI,go_sem,wN,h1',q1,q2,win,↓o2,o2,h2]
  ·have h1':¬((r.length+1:Nat):Int)≤40:=by omega
   have ek:tB (c::r)=false:=by simp only[tB,h1,decide_false,Bool.false_and]
   rw[ek];simp only[aI,go_sem,wN,h1',q1]
end Go.Am
end
section
/- Finding values in lists: printed by program. -/
open Go
set_option linter.unusedSimpArgs false
namespace Go.Am
attribute [-go_sem] PV.cells
variable {h:aA} {K:jA}
end Go.Am
end
section
/- Limits: what they are,what is wrong with them. -/
open Go
namespace Go.Am
variable {h:aA} {K:jA}
structure Lim where
 key:List UInt8
 lo:Int
 hi:Int
 bin:Int
def Lim.pv (x:Lim):PV:=.agg [.str x.key,eI x.lo,eI x.hi,eI x.bin]
def inB (a n b:Int):Bool:=decide (a≤n)&&decide (n≤b)
theorem mE (n a b:Int):bA X lC [AI n,AI a,AI b] h K=K (AB (!inB a n b)) h []:=by rw[s_Out,zg7];rfl
theorem WF (n a b:Int):bA X wE [AI n,AI a,AI b] h K=K (AB (inB a n b)) h []:=wN n a b
end Go.Am
end
section
/- What is wrong with limits,ED ways: printed by program. -/
open Go
set_option linter.unusedSimpArgs false
namespace Go.Am
variable {h:aA} {K:jA}
end Go.Am
end
section
/- Package lot on measured values,and what the reference says of them. -/
open Go
namespace Go.Am
variable {h:aA} {K:jA}
end Go.Am
end
section
/- Records: what they are,what is wrong with them. -/
open Go
set_option linter.unusedSimpArgs false
namespace Go.Am
variable {h:aA} {K:jA}
theorem zj6 {b:Nat}{P:jA}{vs:List AV}{h:aA}:lE true b P (some vs) h []=P (LA vs) (h.take (max b (LA vs).top)) []:=by
 simp [lE,close,bB]
attribute [go_sem] zj6
structure Rec where
 unit:List UInt8
 time:Int
 site:List UInt8
 res:List Int
def Rec.pv (r:Rec):PV:=.agg [.str r.unit,eI r.time,.str r.site,.sl none (r.res.map eI)]
def YE (n:Int):Bool:=inB 0 n 345686399999
theorem z1n (x y:Int):gB y x = - gB x y:=by
 unfold gB;split <;> split <;> (try split) <;> (try split) <;> omega
theorem NG (n:Int):bA X jI [AI n] h K=K (AB (YE n)) h []:=by
 refine tA ?_;rw[z9b rfl];simp only[SO,go_sem,mE,Bool.not_not];rfl
theorem yH (n:Int):bA X EJ [AI n] h K=K (AB (YE n)) h []:=by
 refine tA ?_;rw[z9z rfl];simp only[pP,go_sem,WF];rfl
end Go.Am
end
section
/- Entries of stations,plainly: what is wrong with them. -/
set_option linter.all false
namespace Go.Am
structure Ent where
 site:List UInt8
 no:Int
 time:Int
 kind:Int
 board:List UInt8
 step:List UInt8
 of:List UInt8
 other:Int
 deriving DecidableEq
def Ent.pv (x:Ent):PV:=.agg [.str x.site,eI x.no,eI x.time,eI x.kind,.str x.board,.str x.step,.str x.of,eI x.other]
def noB (n:Int):Bool:=inB 1 n 1000000
def aK (x:Ent):Bool:=if x.kind=7 then tB x.of else if x.kind=2 then tB x.board&&tB x.step else tB x.board
def IS (x:Ent):Ent:=if x.kind=7 then⟨x.site,x.no,x.time,x.kind,[],[],x.of,x.other⟩ else if x.kind=2 then⟨x.site,x.no,x.time,x.kind,x.board,x.step,[],0⟩ else⟨x.site,x.no,x.time,x.kind,x.board,[],[],0⟩
def sB (x:Ent):Int:=
 if tB x.site=false then 5 else if noB x.no=false∨YE x.time=false then 1 else if inB 1 x.kind 7=false then 4
 else if aK x=false then 5 else if x.kind=7∧noB x.other=false then 1 else if x≠IS x then 3 else 0
def AA (a b:Ent):Int:=if gB a.time b.time≠0 then gB a.time b.time else if DA a.site b.site≠0 then DA a.site b.site else gB a.no b.no
theorem z1E (a b:Ent):AA b a = - AA a b:=by
 unfold AA;rw[z1n a.time b.time,YG a.site b.site,z1n a.no b.no];by_cases h1:gB a.time b.time=0
 ·by_cases h2:DA a.site b.site=0
  ·simp [h1,h2]
  ·simp [h1,h2]
 ·simp [h1]
def iB (a b:Ent):Bool:=decide (a.site=b.site)&&decide (a.no=b.no)
def MC:Option Ent→List Ent→Int
 | _,[]=>0
 | p,x::r=>if sB x≠0 then sB x else if(match p with|some q=>decide (AA x q≤0)|none=>false)=true then 7 else MC (some x) r
def bC (seen:List Ent):List Ent→Bool
 | []=>false
 | x::r=>if seen.any (fun o=>iB o x) then true else bC (seen++[x]) r
def nB (l:List Ent):Int:=if(2000:Int)<l.length then 2 else if MC none l≠0 then MC none l else if bC [] l then 6 else 0
end Go.Am
end
section
/- A text split at a byte. -/
set_option linter.all false
namespace Go.Am
end Go.Am
end
section
/- A text read line by line. -/
set_option linter.all false
namespace Go.Am
end Go.Am
end
section
/- Numbers in texts. -/
set_option linter.all false
namespace Go.Am
end Go.Am
end
section
/- Faults of nets: what the words mean,in plain Lean. -/
set_option linter.all false
namespace Go.Am
structure Flt where
 kind:Int
 nets:List Int
 deriving DecidableEq
end Go.Am
end
section
/- Faults read: the program's line and the reference's line agree. -/
set_option linter.all false
namespace Go.Am
end Go.Am
end
section
/- What is written is read: numbers,words,lines. -/
set_option linter.all false
namespace Go.Am
end Go.Am
end
section
/- Entries asv texts,plainly: written,read ED ways. -/
set_option linter.all false
namespace Go.Am
def ent0:Ent:=⟨[],0,0,0,[],[],[],0⟩
end Go.Am
end
section
/- Records: what is wrong with them,ED ways. -/
open Go
set_option linter.unusedSimpArgs false
namespace Go.Am
variable {h:aA} {K:jA}
def orL:List Int→Int
 | []=>0
 | x::r=>if x≠0 then x else orL r
theorem z51 (l:List Int)(hl:l.length≤1000):bA X eH [AL l] h K=K (AI (orL l)) h []:=by
 refine tA ?_;rw[z9e rfl];simp only[UO,go_sem];refine XA (fun k:Nat=>⟨[(3,AI 0),(6,AL l),(7,AI l.length),(8,AI k)],h,[]⟩) (fun k=>k≤l.length∧orL (l.drop k)=orL l) (fun k=>l.length-k) 0 rfl ⟨by omega,rfl⟩ ?_
 rintro k ⟨hk,hp⟩
 rcases Nat.lt_or_ge k l.length with hlt|hge
 ·have g2:=dC eI hlt
  have w2:IntKind.i64.wrap ((k:Int)+1)=((k+1:Nat):Int):=BA _ (by omega) (by omega)
  rw[List.drop_eq_getElem_cons hlt,orL]at hp;by_cases hz:l[k]=0
  ·rw[if_neg (by simp [hz])]at hp
   simp only[go_sem,hlt,g2,hz,w2];exact⟨k+1,rfl,⟨by omega,hp⟩,by omega⟩
  ·rw[if_pos hz]at hp
   simp only[go_sem,hlt,g2,hz];rw[hp]
 ·have ek:k=l.length:=by omega
  subst ek;rw[List.drop_length]at hp;simp only[go_sem,Nat.lt_irrefl];rw[←hp];rfl
end Go.Am
end
section
/- Entries of stations: compared. -/
open Go
set_option linter.all false
set_option maxRecDepth 100000
namespace Go.Am
variable {h:aA} {K:jA}
abbrev QA (l:List Ent):AV:=.p (.sl (some 8) (l.map Ent.pv))
theorem vJ {l:List Ent}:xD (some 8) (l.map Ent.pv):=fun x hx=>by obtain⟨n,_,rfl⟩:=List.mem_map.1 hx;rfl
theorem LF {x:Ent}:ZA (some 8) 0 x.pv=some x.pv:=rfl
structure EntOk (x:Ent):Prop where
 s:x.site.length≤1000000
 b:x.board.length≤1000000
 p:x.step.length≤1000000
 o:x.of.length≤1000000
structure EntB (x:Ent):Prop where
 n:1≤x.no∧x.no≤1000000
 t:0≤x.time∧x.time≤345686399999
theorem VP {x:Ent}(h:sB x=0):EntB x:=by
 unfold sB at h;split at h
 ·cases h
 split at h
 ·cases h
 rename_i h2;rw[not_or]at h2;have a:noB x.no=true:=by simpa using h2.1
 have b:YE x.time=true:=by simpa using h2.2
 unfold noB inB at a;unfold YE inB at b;simp at a b;exact⟨a,b⟩
theorem gZ (a b:Ent):bA X MF [.p a.pv,.p b.pv] h K=K (AI (AA a b)) h []:=by
 refine tA ?_;rw[z9L rfl];have o:=fun h K=>z51 (h:=h) (K:=K) [gB a.time b.time,DA a.site b.site,gB a.no b.no] (by simp)
 simp only[AL,List.map_cons,List.map_nil]at o;have e:orL [gB a.time b.time,DA a.site b.site,gB a.no b.no]=AA a b:=by
  unfold AA;simp only[orL];split
  ·rfl
  ·split
   ·rfl
   ·split
    ·rfl
    ·rename_i h;simp only[ne_eq,Decidable.not_not]at h;rw[h]
 rw[e]at o;simp only[FP,Ent.pv,go_sem,z50,rS,o]
theorem zjS (a b:Ent)(ha:EntB a)(hb:EntB b):bA X uG [.p a.pv,.p b.pv] h K=K (AI (AA a b)) h []:=by
 refine tA ?_;rw[z0P rfl];have a1:=ha.t
 have a2:=hb.t
 have a3:=ha.n
 have a4:=hb.n
 have w:IntKind.i64.wrap (a.time-b.time)=a.time-b.time:=BA _ (by omega) (by omega)
 have w2:IntKind.i64.wrap (a.no-b.no)=a.no-b.no:=BA _ (by omega) (by omega)
 unfold AA;by_cases he:a.time=b.time
 ·have:gB a.time b.time=0:=by rw[he];unfold gB;simp
  rw[if_neg (by simp [this])]
  by_cases hs:a.site=b.site
  ·have hc:DA a.site b.site=0:=by rw[hs];exact KO _
   rw[if_neg (by simp [hc]),JO]
   simp only[nG,Ent.pv,go_sem,he,hs,w2,qS]
  ·have hc:DA a.site b.site≠0:=fun e=>hs (HF e)
   rw[if_pos hc];simp only[nG,Ent.pv,go_sem,he,hs,rS]
 ·have hc:gB a.time b.time≠0:=by unfold gB;split <;> (try split) <;> omega
  rw[if_pos hc];rw[JO];simp only[nG,Ent.pv,go_sem,he,w,qS]
theorem zkh (a b:Ent):bA X lM [.p a.pv,.p b.pv] h K=K (AB (iB a b)) h []:=by
 refine tA ?_;rw[z92 rfl];unfold iB;by_cases h1:a.site=b.site
 ·simp only[KL,Ent.pv,go_sem,h1]
 ·simp only[KL,Ent.pv,go_sem,h1]
end Go.Am
end
section
/- What is wrong with an entry: the reference. -/
open Go
set_option linter.all false
set_option maxRecDepth 100000
namespace Go.Am
variable {h:aA} {K:jA}
attribute [-go_sem] GA
theorem eqa8 (ks:List Nat)(hk:ks=[2,0,0,0,2,2,2,0])(neg:Bool)(c d:Ent):GA ks neg (.p c.pv) (.p d.pv)=some (AB (bif neg then !decide (c=d) else decide (c=d))):=by
 subst hk;obtain⟨a1,a2,a3,a4,a5,a6,a7,a8⟩:=c;obtain⟨b1,b2,b3,b4,b5,b6,b7,b8⟩:=d;have e:decide ((⟨a1,a2,a3,a4,a5,a6,a7,a8⟩:Ent)=⟨b1,b2,b3,b4,b5,b6,b7,b8⟩)=(decide (a1=b1)&&(decide (a2=b2)&&(decide (a3=b3)&&(decide (a4=b4)&&(decide (a5=b5)&&(decide (a6=b6)&&(decide (a7=b7)&&(decide (a8=b8)&&true)))))))):=by
  rw[Bool.eq_iff_iff];simp [Ent.mk.injEq]
 rw[e];rfl
theorem rW (c d:Ent):GA [2,0,0,0,2,2,2,0] true (.p c.pv) (.p d.pv)=some (AB (!decide (c=d))):=eqa8 _ rfl true c d
theorem eqa8p (c d:Ent):GA [2,0,0,0,2,2,2,0] false (.p c.pv) (.p d.pv)=some (AB (decide (c=d))):=eqa8 _ rfl false c d
def Ent.box (x:Ent):Obj:=.box [AS x.site,AI x.no,AI x.time,AI x.kind,AS x.board,AS x.step,AS x.of,AI x.other]
def refE (x u:Ent)(nm:Bool):Int:=if tB x.site=false then 5 else if noB x.no=false∨YE x.time=false then 1 else if inB 1 x.kind 7=false then 4
 else if nm=false then 5 else if x.kind=7∧noB x.other=false then 1 else if x≠u then 3 else 0
theorem zjz (x:Ent):refE x (IS x) (aK x)=sB x:=rfl
theorem zd3 (x u:Ent)(nm:Bool)(hs:x.site.length≤1000000)(K':Ex→St→Prop) :
 dE (bA X) X.gl (.ref h.length 0) (.ref (h.length+1) 0) (AB nm) (h++[x.box,u.box]) [] K'=K' .ret ⟨[(2,AI (refE x u nm))],h++[x.box,u.box],[]⟩:=by
 have k1:=fun h K=>pS (h:=h) (K:=K) x.site (by omega)
 have hq:=rW x u
 unfold refE noB;unfold Ent.box;simp only[Ent.pv]at hq;cases h1:tB x.site with
 | false=>simp only[dE,go_sem,or_false,false_or,true_or,or_true,true_and,and_true,false_and,and_false,not_true_eq_false,not_false_eq_true,↓k1,k1,h1]
 | true=>
  cases h2:inB 1 x.no 1000000 with
  | false=>simp only[dE,go_sem,or_false,false_or,true_or,or_true,true_and,and_true,false_and,and_false,not_true_eq_false,not_false_eq_true,↓k1,k1,WF,h1,h2]
  | true=>
   cases h3:YE x.time with
   | false=>simp only[dE,go_sem,or_false,false_or,true_or,or_true,true_and,and_true,false_and,and_false,not_true_eq_false,not_false_eq_true,↓k1,k1,WF,yH,h1,h2,h3]
   | true=>
    cases h4:inB 1 x.kind 7 with
    | false=>simp only[dE,go_sem,or_false,false_or,true_or,or_true,true_and,and_true,false_and,and_false,not_true_eq_false,not_false_eq_true,↓k1,k1,WF,yH,h1,h2,h3,h4]
    | true=>
     cases nm with
     | false=>simp only[dE,go_sem,or_false,false_or,true_or,or_true,true_and,and_true,false_and,and_false,not_true_eq_false,not_false_eq_true,↓k1,k1,WF,yH,h1,h2,h3,h4]
     | true=>
      by_cases h7:x.kind=7
      ·cases h6:inB 1 x.other 1000000 with
       | false=>simp only[dE,go_sem,or_false,false_or,true_or,or_true,true_and,and_true,false_and,and_false,not_true_eq_false,not_false_eq_true,↓k1,k1,WF,yH,h1,h2,h3,h4,eq_true h7,h6]
       | true=>
        by_cases e:x=u
        ·rw[decide_eq_true e]at hq
         simp only[dE,go_sem,or_false,false_or,true_or,or_true,true_and,and_true,false_and,and_false,not_true_eq_false,not_false_eq_true,↓k1,k1,WF,yH,h1,h2,h3,h4,eq_true h7,h6,hq,eq_true e]
        ·rw[decide_eq_false e]at hq
         simp only[dE,go_sem,or_false,false_or,true_or,or_true,true_and,and_true,false_and,and_false,not_true_eq_false,not_false_eq_true,↓k1,k1,WF,yH,h1,h2,h3,h4,eq_true h7,h6,hq,e]
      ·by_cases e:x=u
       ·rw[decide_eq_true e]at hq
        simp only[dE,go_sem,or_false,false_or,true_or,or_true,true_and,and_true,false_and,and_false,not_true_eq_false,not_false_eq_true,↓k1,k1,WF,yH,h1,h2,h3,h4,h7,hq,eq_true e]
       ·rw[decide_eq_false e]at hq
        simp only[dE,go_sem,or_false,false_or,true_or,or_true,true_and,and_true,false_and,and_false,not_true_eq_false,not_false_eq_true,↓k1,k1,WF,yH,h1,h2,h3,h4,h7,hq,e]
attribute [-go_sem] dE
theorem zjR (x:Ent)(hx:EntOk x):bA X kM [.p x.pv] h K=K (AI (sB x)) h []:=by
 refine tA ?_;rw[z9x rfl];have k2:=fun h K=>pS (h:=h) (K:=K) x.board (by have:=hx.b;omega)
 have k3:=fun h K=>pS (h:=h) (K:=K) x.step (by have:=hx.p;omega)
 have k4:=fun h K=>pS (h:=h) (K:=K) x.of (by have:=hx.o;omega)
 rw[←zjz];have hs:x.site.length≤1000000:=hx.s
 have Q:=fun u nm K'=>zd3 (h:=h) x u nm hs K'
 unfold Ent.box at Q;unfold IS aK;by_cases h7:x.kind=7
 ·have q:=Q ⟨x.site,x.no,x.time,x.kind,[],[],x.of,x.other⟩ (tB x.of)
  dsimp only at q;simp only[bH,Ent.pv,go_sem,↓k4,k4,h7]at q ⊢;simp only[bH,Ent.pv,go_sem,↓k4,k4,q,h7]
 ·by_cases h2:x.kind=2
  ·cases hb:tB x.board with
   | false=>
    have q:=Q ⟨x.site,x.no,x.time,x.kind,x.board,x.step,[],0⟩ false
    simp only[bH,Ent.pv,go_sem,↓k2,k2,↓k3,k3,h7,eq_true h2,hb,q]
   | true=>
    have q:=Q ⟨x.site,x.no,x.time,x.kind,x.board,x.step,[],0⟩ (tB x.step)
    simp only[bH,Ent.pv,go_sem,↓k2,k2,↓k3,k3,h7,eq_true h2,hb,q]
  ·have q:=Q ⟨x.site,x.no,x.time,x.kind,x.board,[],[],0⟩ (tB x.board)
   simp only[bH,Ent.pv,go_sem,↓k2,k2,↓k3,k3,h7,h2,q]
end Go.Am
end
