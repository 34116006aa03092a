/- Texts of the proof, laid together: CodesD, CodesE, AmL, AmC, Ctx, SpStream, SpMap, SpPath, PSort, PFlt, PBits. -/
import Derived.KernelRfl
import Derived.Test.YtojjldhoodnjiaaGreatDoorlawWS6
set_option linter.all false
section
/- The functions asv abstract code,and asv formulas over their values: printed by program out of the translation. -/
set_option linter.unusedVariables false
set_option maxRecDepth 100000
namespace Go.Am
def zn8 : ACode:=.pr [2,19,20,21] (.seq (rg [bN 22 .lss 21 20] [2,19,20,21,22])
(.seq (.cond 22 .skip
(.exit 0))
(.seq (.block 1 (.seq (rg [mV 23 21,
iA 24 none 19 21,
lD 25 none 24,
mV 6 23,
mV 7 25] [2,6,7,19,20,21])
(.seq (rg [mV 26 7,
uO 27 (.lens 26),
fA 28 0 none 2,
lD 29 none 28,
mV 30 6,
iA 31 (some 2) 29 30,
fA 32 1 none 31,
lD 33 none 32,
lN 34 33,
bN 35 .neq 27 34,
mV 36 35,
gD 37 36 false (.mv 7),
gD 38 36 false (.call z2p [37]),
gD 39 36 false (.un .not 38),
uO 40 (.pick 36 cT 39)] [2,19,20,21,40])
(.cond 40 (.seq (rg [mV 4 (cI 3)] [4])
.ret)
.skip))))
(rg [bN 41 .add 21 (cI 1),
mV 21 41] [2,19,20,21]))))
def zn9 : ACode:=.pr [] (.seq (rg [mV 4 (cI 0)] [4])
.ret)
def P_q00a (q1 q2 : ACode) : ACode:=(.seq (rg [uO 2 (.box 0),
mV 4 (cI 0)] [1,2])
(.seq (.seq (rg [lD 8 (some 3) 2,
cL 9 ztv [8],
mV 5 9] [1,2,5])
(.seq (rg [mV 10 5,
bN 11 .neq 10 (cI 0)] [1,2,5,11])
(.cond 11 (.seq (rg [mV 12 5,
mV 4 12] [4])
.ret)
.skip)))
(.seq (.seq (rg [mV 13 1,
lN 14 13,
fA 15 0 none 2,
lD 16 none 15,
lN 17 16,
bN 18 .neq 14 17] [1,2,18])
(.cond 18 (.seq (rg [mV 4 (cI 3)] [4])
.ret)
.skip))
(.seq (.seq (rg [mV 19 1,
lN 20 19,
mV 21 (cI 0)] [2,19,20,21])
(.block 0 (.loop q1)))
q2))))
def a_q00a : AFun:=⟨2,[.t 4],P_q00a zn8 zn9,false,false⟩
def znA : ACode:=.pr [1,15,16,17] (.seq (rg [bN 18 .lss 17 16] [1,15,16,17,18])
(.seq (.cond 18 .skip
(.exit 0))
(.seq (.block 1 (.seq (rg [mV 19 17,
iA 20 (some 2) 15 17,
lD 21 (some 2) 20,
uO 4 (.alloc [.p (.str []),.sl0 (some 4)]),
mV 3 19,
wO (.store (some 2) 4 21)] [1,3,4,15,16,17])
(.seq (.block 2 (.seq (rg [fA 23 0 none 4,
lD 24 none 23,
cL 25 z4O [24],
uO 26 (.un .not 25),
mV 22 26] [1,3,4,15,16,17,22])
(.cond 22 (.seq (rg [mV 2 (cI 5)] [2])
.ret)
(.seq (dr [dF (mV 28 3) [3],
dF (bN 29 .gtr 28 (cI 0)) [28],
dF (mV 30 29) [29],
dF (gD 31 30 true (.faddr 0 none 4)) [4,30],
dF (gD 32 30 true (.load none 31)) [31,30],
dF (gD 33 30 true (.faddr 0 none 1)) [1,30],
dF (gD 34 30 true (.load none 33)) [33,30],
dF (gD 35 30 true (.mv 3)) [3,30],
dF (gD 36 30 true (.bin .sub 35 (cI 1))) [35,30],
dF (gD 37 30 true (.iaddr (some 2) 34 36)) [34,36,30],
dF (gD 38 30 true (.faddr 0 none 37)) [37,30],
dF (gD 39 30 true (.load none 38)) [38,30],
dF (gD 40 30 true (.bin .leq 32 39)) [32,39,30],
dF (uO 41 (.pick 30 40 cF)) [30,40],
dF (mV 27 41) [41]] [1,4,15,16,17,27])
(.cond 27 (.seq (rg [mV 2 (cI 7)] [2])
.ret)
.skip)))))
(.seq (rg [lD 42 (some 2) 4,
cL 43 zt0 [42],
mV 5 43] [1,5,15,16,17])
(.seq (rg [mV 44 5,
bN 45 .neq 44 (cI 0)] [1,5,15,16,17,45])
(.cond 45 (.seq (rg [mV 46 5,
mV 2 46] [2])
.ret)
.skip))))))
(rg [bN 47 .add 17 (cI 1),
mV 17 47] [1,15,16,17]))))
def znB : ACode:=.pr [1,7,59,60,61] (.seq (rg [bN 62 .lss 61 60] [1,7,59,60,61,62])
(.seq (.cond 62 .skip
(.exit 3))
(.seq (.block 4 (.seq (rg [mV 63 61,
iA 64 (some 2) 59 61,
lD 65 (some 2) 64,
uO 9 (.alloc [.p (.str []),.p (.int .i64 0)]),
mV 8 63,
wO (.store (some 2) 9 65)] [1,7,8,9,59,60,61])
(.block 5 (.seq (rg [mV 67 7,
fA 68 0 none 9,
lD 69 none 68,
cL 70 zmp [67,69],
uO 71 (.un .not 70),
mV 66 71] [1,7,8,9,59,60,61,66])
(.cond 66 (.seq (rg [mV 2 (cI 8)] [2])
.ret)
(.seq (rg [fA 73 1 none 9,
lD 74 none 73,
cL 75 z1d [74,(cI 0),(cI 1)],
mV 72 75] [1,7,8,9,59,60,61,72])
(.cond 72 (.seq (rg [mV 2 (cI 1)] [2])
.ret)
(.seq (dr [dF (mV 77 8) [8],
dF (bN 78 .gtr 77 (cI 0)) [77],
dF (mV 79 78) [78],
dF (gD 80 79 true (.faddr 0 none 9)) [9,79],
dF (gD 81 79 true (.load none 80)) [80,79],
dF (gD 82 79 true (.faddr 2 none 1)) [1,79],
dF (gD 83 79 true (.load none 82)) [82,79],
dF (gD 84 79 true (.mv 8)) [8,79],
dF (gD 85 79 true (.bin .sub 84 (cI 1))) [84,79],
dF (gD 86 79 true (.iaddr (some 2) 83 85)) [83,85,79],
dF (gD 87 79 true (.faddr 0 none 86)) [86,79],
dF (gD 88 79 true (.load none 87)) [87,79],
dF (gD 89 79 true (.bin .leq 81 88)) [81,88,79],
dF (uO 90 (.pick 79 89 cF)) [79,89],
dF (mV 76 90) [90]] [1,7,59,60,61,76])
(.cond 76 (.seq (rg [mV 2 (cI 7)] [2])
.ret)
.skip)))))))))
(rg [bN 91 .add 61 (cI 1),
mV 61 91] [1,7,59,60,61]))))
def znC : ACode:=.pr [] (.seq (rg [mV 2 (cI 0)] [2])
.ret)
def ziD (q2 q3 : ACode) : ACode:=.pr [1] (.seq (.seq (rg [lD 48 (some 3) 1,
cL 49 zt4 [48],
mV 6 49] [1,6])
(.seq (rg [mV 50 6,
bN 51 .neq 50 (cI 0)] [1,6,51])
(.cond 51 (.seq (rg [mV 52 6,
mV 2 52] [2])
.ret)
.skip)))
(.seq (rg [lD 53 (some 3) 1,
cL 54 zf3 [53],
mV 7 54] [1,7])
(.seq (.seq (rg [mV 55 7,
lN 56 55,
bN 57 .gtr 56 (cI 100)] [1,7,57])
(.cond 57 (.seq (rg [mV 2 (cI 2)] [2])
.ret)
.skip))
(.seq (.seq (rg [fA 58 2 none 1,
lD 59 none 58,
lN 60 59,
mV 61 (cI 0)] [1,7,59,60,61])
(.block 3 (.loop (.scope q2))))
q3))))
def znD : ACode:=ziD znB znC
def P_q00b (q1 q4 : ACode) : ACode:=(.seq (rg [uO 1 (.box 0),
mV 2 (cI 0)] [1])
(.seq (.seq (rg [fA 10 0 none 1,
lD 11 none 10,
lN 12 11,
bN 13 .gtr 12 (cI 40)] [1,13])
(.cond 13 (.seq (rg [mV 2 (cI 2)] [2])
.ret)
.skip))
(.seq (.seq (rg [fA 14 0 none 1,
lD 15 none 14,
lN 16 15,
mV 17 (cI 0)] [1,15,16,17])
(.block 0 (.loop (.scope q1))))
q4)))
def a_q00b : AFun:=⟨1,[.t 2],P_q00b znA znD,false,false⟩
def znE : ACode:=.pr [7,8,21,22,23] (.seq (rg [bN 24 .lss 23 22] [7,8,21,22,23,24])
(.seq (.cond 24 .skip
(.exit 0))
(.seq (.block 1 (.seq (rg [iA 25 none 21 23,
lD 26 none 25,
mV 10 26] [7,8,10,21,22,23])
(rg [mV 27 8,
mV 28 7,
mV 29 10,
uO 30 (.look (none,[2]) false (AI 0) 28 29),
uO 31 (.bsl false none 1 (.int .i64 0) [(0,30)]),
uO 32 (.app none 27 31),
mV 8 32] [7,8,21,22,23])))
(rg [bN 33 .add 23 (cI 1),
mV 23 33] [7,8,21,22,23]))))
def znF : ACode:=.pr [8] (.seq (rg [mV 34 8,
mV 4 34,
mV 5 (cI 0)] [4,5])
.ret)
def P_q00c (q1 q2 : ACode) : ACode:=(.seq (rg [uO 2 (.box 0),
mV 4 (.c (.p (.sl none []))),
mV 5 (cI 0)] [1,2])
(.seq (.seq (rg [lD 11 (some 3) 2,
mV 12 1,
cL 13 ztu [11,12],
mV 6 13] [1,2,6])
(.seq (rg [mV 14 6,
bN 15 .neq 14 (cI 0)] [1,2,6,15])
(.cond 15 (.seq (rg [mV 16 6,
mV 4 (.c (.p (.sl none []))),
mV 5 16] [4,5])
.ret)
.skip)))
(.seq (rg [lD 17 (some 3) 2,
mV 18 1,
cL 19 zt5 [17,18],
mV 7 19] [2,7])
(.seq (rg [uO 8 (.new0 none)] [2,7,8])
(.seq (.seq (rg [lD 20 (some 3) 2,
cL 21 zf3 [20],
lN 22 21,
mV 23 (cI 0)] [7,8,21,22,23])
(.block 0 (.loop (.scope q1))))
q2)))))
def a_q00c : AFun:=⟨2,[.t 4,.t 5],P_q00c znE znF,false,false⟩
def P_q00d : ACode:=(.seq (rg [uO 2 (.box 0),
uO 3 (.box 1),
mV 4 (cI 0)] [2,3])
(.seq (dr [dF (fA 5 0 none 2) [2],
dF (lD 6 none 5) [5],
dF (fA 7 0 none 3) [3],
dF (lD 8 none 7) [7],
dT (cL 9 z94 [6,8]) [6,8],
dF (fA 10 1 none 2) [2],
dA (lD 11 none 10) [10] false [4] [],
dF (fA 12 1 none 3) [3],
dA (lD 13 none 12) [12] false [4] [],
dT (cL 14 z94 [11,13]) [11,13],
dF (fA 15 2 none 2) [2],
dA (lD 16 none 15) [15] false [4,9] [],
dF (fA 17 2 none 3) [3],
dA (lD 18 none 17) [17] false [4,9] [],
dT (cL 19 z94 [16,18]) [16,18],
dF (uO 20 (.bsl false none 3 (.int .i64 0) [(0,9),(1,14),(2,19)])) [9,14,19],
dT (cL 21 zmm [20]) [20],
dF (mV 4 21) [21]] [4])
.ret))
def a_q00d : AFun:=⟨2,[.t 4],P_q00d,false,false⟩
def P_q00e : ACode:=(.seq (rg [uO 2 (.box 0),
uO 3 (.box 1),
mV 4 (cI 0)] [2,3])
(.seq (.block 0 (.seq (rg [fA 6 0 none 3,
lD 7 none 6,
cL 8 z1d [7,(cI 1),(cI 4)],
mV 5 8] [2,3,5])
(.cond 5 (.seq (rg [mV 4 (cI 4)] [4])
.ret)
(.seq (rg [lD 10 (some 4) 3,
cL 11 zcI [10],
mV 12 11,
gD 13 12 true (.faddr 1 none 3),
gD 14 12 true (.load none 13),
gD 15 12 true (.call z4O [14]),
gD 16 12 true (.un .not 15),
uO 17 (.pick 12 16 cF),
mV 9 17] [2,3,9])
(.cond 9 (.seq (rg [mV 4 (cI 5)] [4])
.ret)
(.seq (rg [lD 19 (some 4) 3,
cL 20 zcI [19],
uO 21 (.un .not 20),
mV 22 21,
gD 23 22 true (.faddr 1 none 3),
gD 24 22 true (.load none 23),
gD 25 22 true (.bin .neq 24 (cS [])),
uO 26 (.pick 22 25 cF),
mV 18 26] [2,3,18])
(.cond 18 (.seq (rg [mV 4 (cI 3)] [4])
.ret)
.skip)))))))
(.seq (.seq (rg [fA 27 0 none 3,
lD 28 none 27,
bN 29 .neq 28 (cI 2)] [2,3,29])
(.cond 29 (.seq (.seq (rg [fA 30 2 none 3,
lD 31 none 30,
bN 32 .neq 31 (cI (-1)),
mV 33 32,
gD 34 33 false (.faddr 3 none 3),
gD 35 33 false (.load none 34),
gD 36 33 false (.bin .neq 35 (cI 0)),
uO 37 (.pick 33 cT 36)] [37])
(.cond 37 (.seq (rg [mV 4 (cI 3)] [4])
.ret)
.skip))
(.seq (rg [mV 4 (cI 0)] [4])
.ret))
.skip))
(.seq (.block 1 (.seq (rg [fA 39 2 none 3,
lD 40 none 39,
bN 41 .neq 40 (cI (-1)),
mV 42 41,
gD 43 42 true (.faddr 2 none 3),
gD 44 42 true (.load none 43),
gD 45 42 true (.faddr 1 none 2),
gD 46 42 true (.load none 45),
gD 47 42 true (.len 46),
gD 48 42 true (.bin .sub 47 (cI 1)),
gD 49 42 true (.call z1d [44,(cI 0),48]),
gD 50 42 true (.mv 49),
gD 51 50 false (.faddr 1 none 2),
gD 52 50 false (.load none 51),
gD 53 50 false (.faddr 2 none 3),
gD 54 50 false (.load none 53),
gD 55 50 false (.iaddr (some 4) 52 54),
gD 56 50 false (.faddr 0 none 55),
gD 57 50 false (.load none 56),
gD 58 50 false (.bin .neq 57 (cI 3)),
gD 59 42 true (.pick 50 cT 58),
uO 60 (.pick 42 59 cF),
mV 38 60] [3,38])
(.cond 38 (.seq (rg [mV 4 (cI 8)] [4])
.ret)
(.seq (rg [fA 62 3 none 3,
lD 63 none 62,
cL 64 z1d [63,(cI 0),(cI 1)],
mV 65 64,
gD 66 65 false (.faddr 2 none 3),
gD 67 65 false (.load none 66),
gD 68 65 false (.bin .eql 67 (cI (-1))),
gD 69 65 false (.mv 68),
gD 70 69 true (.faddr 3 none 3),
gD 71 69 true (.load none 70),
gD 72 69 true (.bin .neq 71 (cI 0)),
gD 73 65 false (.pick 69 72 cF),
uO 74 (.pick 65 cT 73),
mV 61 74] [61])
(.cond 61 (.seq (rg [mV 4 (cI 1)] [4])
.ret)
.skip)))))
(.seq (rg [mV 4 (cI 0)] [4])
.ret)))))
def a_q00e : AFun:=⟨2,[.t 4],P_q00e,false,false⟩
def znG : ACode:=.pr [1,5,6,7,8,17,18,19,25,26,27] (rg [bN 57 .add 27 (cI 1),
mV 27 57] [1,5,6,7,8,17,18,19,25,26,27])
def ziE (q1 : ACode) : ACode:=.pr [1,5,6,7,8,17,18,19,25,26,27] (.seq (rg [bN 28 .lss 27 26] [1,5,6,7,8,17,18,19,25,26,27,28])
(.seq (.cond 28 .skip
(.exit 2))
(.seq (.block 3 (.seq (rg [mV 29 27,
iA 30 (some 4) 25 27,
lD 31 (some 4) 30,
uO 10 (.alloc [.p (.int .i64 0),.p (.str []),.p (.int .i64 0),.p (.int .i64 0)]),
mV 9 29,
wO (.store (some 4) 10 31)] [1,5,6,7,8,9,10,17,18,19,25,26,27])
(.seq (.seq (rg [fA 32 0 none 10,
lD 33 none 32,
mV 34 1,
bN 35 .neq 33 34] [1,5,6,7,8,9,10,17,18,19,25,26,27,35])
(.cond 35 (.exit 3)
.skip))
(.seq (rg [mV 37 5,
fA 38 0 none 8,
lD 39 none 38,
fA 40 1 none 10,
lD 41 none 40,
uO 42 (.build [.p (.str []),.p (.str [])] [(0,1,39),(1,1,41)]),
uO 43 (.look ((some 2),[2,2]) true (.p (.str [])) 37 42),
mV 36 43,
eX 44 36 0,
eX 45 36 1,
mV 11 44,
mV 12 45] [1,5,6,7,8,9,11,12,17,18,19,25,26,27])
(.seq (rg [mV 46 12] [1,5,6,7,8,9,11,17,18,19,25,26,27,46])
(.cond 46 (rg [mV 47 6,
mV 48 11,
mV 49 6,
mV 50 11,
uO 51 (.look (none,[2]) false (.sl0 (some 2)) 49 50),
mV 52 7,
mV 53 9,
uO 54 (.build [.p (.int .i64 0),.p (.int .i64 0)] [(0,1,52),(1,1,53)]),
uO 55 (.bsl false (some 2) 1 (.agg [.int .i64 0,.int .i64 0]) [(0,54)]),
uO 56 (.app (some 2) 51 55),
wO (.mupd (none,[2]) 47 48 56)] [1,5,6,7,8,17,18,19,25,26,27])
.skip))))))
q1)))
def znH : ACode:=ziE znG
def znI : ACode:=.pr [1,5,6,17,18,19] (rg [bN 58 .add 19 (cI 1),
mV 19 58] [1,5,6,17,18,19])
def ziF (q2 q3 : ACode) : ACode:=.pr [1,5,6,17,18,19] (.seq (rg [bN 20 .lss 19 18] [1,5,6,17,18,19,20])
(.seq (.cond 20 .skip
(.exit 0))
(.seq (.block 1 (.seq (rg [mV 21 19,
iA 22 (some 2) 17 19,
lD 23 (some 2) 22,
uO 8 (.alloc [.p (.str []),.sl0 (some 4)]),
mV 7 21,
wO (.store (some 2) 8 23)] [1,5,6,7,8,17,18,19])
(.seq (rg [fA 24 1 none 8,
lD 25 none 24,
lN 26 25,
mV 27 (cI 0)] [1,5,6,7,8,17,18,19,25,26,27])
(.block 2 (.loop (.scope q2))))))
q3)))
def znJ : ACode:=ziF znH znI
def znK : ACode:=.pr [6] (.seq (rg [mV 59 6,
mV 4 59] [4])
.ret)
def P_q00f (q4 q5 : ACode) : ACode:=(.seq (rg [uO 2 (.box 0),
mV 4 (.c (.nilm))] [1,2])
(.seq (rg [lD 13 (some 3) 2,
cL 14 zt6 [13],
mV 5 14] [1,2,5])
(.seq (rg [uO 15 (.mkmap),
mV 6 15] [1,2,5,6])
(.seq (.seq (rg [fA 16 0 none 2,
lD 17 none 16,
lN 18 17,
mV 19 (cI 0)] [1,5,6,17,18,19])
(.block 0 (.loop (.scope q4))))
q5))))
def a_q00f : AFun:=⟨2,[.t 4],P_q00f znJ znK,false,false⟩
def znL : ACode:=.pr [1,13,14,15] (.seq (rg [bN 16 .lss 15 14] [1,13,14,15,16])
(.seq (.cond 16 .skip
(.exit 0))
(.seq (.block 1 (.seq (rg [iA 17 (some 4) 13 15,
lD 18 (some 4) 17,
uO 4 (.alloc [.p (.int .i64 0),.p (.str []),.p (.int .i64 0),.p (.int .i64 0)]),
wO (.store (some 4) 4 18)] [1,4,13,14,15])
(.seq (rg [lD 19 (some 2) 1,
lD 20 (some 4) 4,
cL 21 zty [19,20],
mV 5 21] [1,5,13,14,15])
(.seq (rg [mV 22 5,
bN 23 .neq 22 (cI 0)] [1,5,13,14,15,23])
(.cond 23 (.seq (rg [mV 24 5,
mV 2 24] [2])
.ret)
.skip)))))
(rg [bN 25 .add 15 (cI 1),
mV 15 25] [1,13,14,15]))))
def znM : ACode:=.pr [1,27,28,29] (.seq (rg [bN 30 .lss 29 28] [1,27,28,29,30])
(.seq (.cond 30 .skip
(.exit 2))
(.seq (.block 3 (.seq (rg [mV 31 29,
iA 32 (some 4) 27 29,
lD 33 (some 4) 32,
uO 7 (.alloc [.p (.int .i64 0),.p (.str []),.p (.int .i64 0),.p (.int .i64 0)]),
mV 6 31,
wO (.store (some 4) 7 33)] [1,6,7,27,28,29])
(.seq (rg [lD 34 (some 4) 7,
cL 35 zcI [34],
mV 36 35,
gD 37 36 true (.faddr 1 none 1),
gD 38 36 true (.load none 37),
gD 39 36 true (.mv 6),
gD 40 36 true (.slice (some 4) 38 none (some 39) none),
gD 41 36 true (.mkfn zt1 [7]),
gD 42 36 true (.call zmo [40,41]),
uO 43 (.pick 36 42 cF)] [1,27,28,29,43])
(.cond 43 (.seq (rg [mV 2 (cI 6)] [2])
.ret)
.skip))))
(rg [bN 44 .add 29 (cI 1),
mV 29 44] [1,27,28,29]))))
def znN : ACode:=.pr [] (.seq (rg [mV 2 (cI 0)] [2])
.ret)
def ziG (q2 q3 : ACode) : ACode:=.pr [1] (.seq (.seq (rg [fA 26 1 none 1,
lD 27 none 26,
lN 28 27,
mV 29 (cI 0)] [1,27,28,29])
(.block 2 (.loop (.scope q2))))
q3)
def znO : ACode:=ziG znM znN
def P_q00g (q1 q4 : ACode) : ACode:=(.seq (rg [uO 1 (.box 0),
mV 2 (cI 0)] [1])
(.seq (.seq (rg [fA 8 1 none 1,
lD 9 none 8,
lN 10 9,
bN 11 .gtr 10 (cI 200)] [1,11])
(.cond 11 (.seq (rg [mV 2 (cI 2)] [2])
.ret)
.skip))
(.seq (.seq (rg [fA 12 1 none 1,
lD 13 none 12,
lN 14 13,
mV 15 (cI 0)] [1,13,14,15])
(.block 0 (.loop (.scope q1))))
q4)))
def a_q00g : AFun:=⟨1,[.t 2],P_q00g znL znO,false,false⟩
def P_q00h : ACode:=(.seq (rg [uO 2 (.box 0),
mV 3 cF] [1,2])
(.seq (rg [fA 4 0 none 2,
lD 5 none 4,
fA 6 0 none 1,
lD 7 none 6,
bN 8 .eql 5 7,
mV 9 8,
gD 10 9 true (.faddr 1 none 2),
gD 11 9 true (.load none 10),
gD 12 9 true (.faddr 1 none 1),
gD 13 9 true (.load none 12),
gD 14 9 true (.bin .eql 11 13),
uO 15 (.pick 9 14 cF),
mV 3 15] [3])
.ret))
def a_q00h : AFun:=⟨2,[.t 3],P_q00h,false,false⟩
def P_q00i : ACode:=(.seq (rg [uO 2 (.box 0),
mV 4 (cI 0)] [1,2])
(.seq (rg [fA 8 0 none 2,
lD 9 none 8,
mV 10 1,
cL 11 ztQ [9,10,(.f zt3)],
mV 7 11,
eX 12 7 0,
eX 13 7 1,
mV 5 12,
mV 6 13] [5,6])
(.seq (.seq (rg [mV 14 6,
uO 15 (.un .not 14)] [5,15])
(.cond 15 (.seq (rg [mV 4 (cI (-1))] [4])
.ret)
.skip))
(.seq (rg [mV 16 5,
mV 4 16] [4])
.ret))))
def a_q00i : AFun:=⟨2,[.t 4],P_q00i,false,false⟩
def P_q00j : ACode:=(.seq (rg [uO 2 (.box 0),
mV 4 (cI 0)] [1,2])
(.seq (rg [fA 5 0 none 2,
lD 6 none 5,
mV 7 1,
cL 8 z94 [6,7],
mV 4 8] [4])
.ret))
def a_q00j : AFun:=⟨2,[.t 4],P_q00j,false,false⟩
def P_q00k : ACode:=(.seq (rg [uO 1 (.box 0),
mV 2 cF] [1])
(.seq (rg [fA 3 0 none 1,
lD 4 none 3,
bN 5 .eql 4 (cI 1),
mV 6 5,
gD 7 6 false (.faddr 0 none 1),
gD 8 6 false (.load none 7),
gD 9 6 false (.bin .eql 8 (cI 2)),
uO 10 (.pick 6 cT 9),
mV 2 10] [2])
.ret))
def a_q00k : AFun:=⟨1,[.t 2],P_q00k,false,false⟩
def znP : ACode:=.pr [1,14,15,16] (.seq (rg [bN 17 .lss 16 15] [1,14,15,16,17])
(.seq (.cond 17 .skip
(.exit 0))
(.seq (.block 1 (.seq (rg [mV 18 16,
iA 19 (some 3) 14 16,
lD 20 (some 3) 19,
uO 4 (.alloc [.p (.str []),.p (.str []),.p (.str [])]),
mV 3 18,
wO (.store (some 3) 4 20)] [1,3,4,14,15,16])
(.block 2 (.seq (rg [fA 22 0 none 4,
lD 23 none 22,
cL 24 z4O [23],
uO 25 (.un .not 24),
mV 21 25] [1,3,4,14,15,16,21])
(.cond 21 (.seq (rg [mV 2 (cI 5)] [2])
.ret)
(.seq (rg [lD 27 (some 3) 1,
fA 28 1 none 4,
lD 29 none 28,
fA 30 2 none 4,
lD 31 none 30,
cL 32 zt7 [27,29,31],
uO 33 (.un .not 32),
mV 26 33] [1,3,4,14,15,16,26])
(.cond 26 (.seq (rg [mV 2 (cI 8)] [2])
.ret)
(.seq (dr [dF (mV 35 3) [3],
dF (bN 36 .gtr 35 (cI 0)) [35],
dF (mV 37 36) [36],
dF (gD 38 37 true (.load (some 3) 4)) [4,37],
dF (gD 39 37 true (.faddr 1 none 1)) [1,37],
dF (gD 40 37 true (.load none 39)) [39,37],
dF (gD 41 37 true (.mv 3)) [3,37],
dF (gD 42 37 true (.bin .sub 41 (cI 1))) [41,37],
dF (gD 43 37 true (.iaddr (some 3) 40 42)) [40,42,37],
dF (gD 44 37 true (.load (some 3) 43)) [43,37],
dT (gD 45 37 true (.call ztx [38,44])) [38,44,37],
dF (gD 46 37 true (.bin .leq 45 (cI 0))) [45,37],
dF (uO 47 (.pick 37 46 cF)) [37,46],
dF (mV 34 47) [47]] [1,14,15,16,34])
(.cond 34 (.seq (rg [mV 2 (cI 7)] [2])
.ret)
.skip)))))))))
(rg [bN 48 .add 16 (cI 1),
mV 16 48] [1,14,15,16]))))
def znQ : ACode:=.pr [5,51,52,53] (.seq (rg [bN 54 .lss 53 52] [5,51,52,53,54])
(.seq (.cond 54 .skip
(.exit 3))
(.seq (.block 4 (.seq (rg [iA 55 (some 3) 51 53,
lD 56 (some 3) 55,
uO 7 (.alloc [.p (.str []),.p (.str []),.p (.str [])]),
wO (.store (some 3) 7 56)] [5,7,51,52,53])
(.seq (rg [fA 57 1 none 7,
lD 58 none 57,
fA 59 2 none 7,
lD 60 none 59,
uO 61 (.build [.p (.str []),.p (.str [])] [(0,1,58),(1,1,60)]),
uO 8 (.alloc [.p (.str []),.p (.str [])]),
wO (.store (some 2) 8 61)] [5,8,51,52,53])
(.seq (.seq (rg [mV 62 5,
lD 63 (some 2) 8,
uO 64 (.look ((some 2),[2,2]) false (AB false) 62 63)] [5,8,51,52,53,64])
(.cond 64 (.seq (rg [mV 2 (cI 6)] [2])
.ret)
.skip))
(rg [mV 65 5,
lD 66 (some 2) 8,
wO (.mupd ((some 2),[2,2]) 65 66 cT)] [5,51,52,53])))))
(rg [bN 67 .add 53 (cI 1),
mV 53 67] [5,51,52,53]))))
def znR : ACode:=.pr [] (.seq (rg [mV 2 (cI 0)] [2])
.ret)
def ziH (q2 q3 : ACode) : ACode:=.pr [1] (.seq (rg [uO 49 (.mkmap),
mV 5 49] [1,5])
(.seq (.seq (rg [fA 50 1 none 1,
lD 51 none 50,
lN 52 51,
mV 53 (cI 0)] [5,51,52,53])
(.block 3 (.loop (.scope q2))))
q3))
def znS : ACode:=ziH znQ znR
def P_q00l (q1 q4 : ACode) : ACode:=(.seq (rg [uO 1 (.box 0),
mV 2 (cI 0)] [1])
(.seq (.seq (rg [fA 9 1 none 1,
lD 10 none 9,
lN 11 10,
bN 12 .gtr 11 (cI 1000)] [1,12])
(.cond 12 (.seq (rg [mV 2 (cI 2)] [2])
.ret)
.skip))
(.seq (.seq (rg [fA 13 1 none 1,
lD 14 none 13,
lN 15 14,
mV 16 (cI 0)] [1,14,15,16])
(.block 0 (.loop (.scope q1))))
q4)))
def a_q00l : AFun:=⟨1,[.t 2],P_q00l znP znS,false,false⟩
def znT : ACode:=.pr [1,2,5,20,21,22] (.seq (rg [bN 23 .lss 22 21] [1,2,5,20,21,22,23])
(.seq (.cond 23 .skip
(.exit 0))
(.seq (.block 1 (.seq (rg [iA 24 none 20 22,
lD 25 none 24,
mV 7 25] [1,2,5,7,20,21,22])
(rg [mV 26 5,
mV 27 7,
wO (.mupd (none,[2]) 26 27 (cI 2))] [1,2,5,20,21,22])))
(rg [bN 28 .add 22 (cI 1),
mV 22 28] [1,2,5,20,21,22]))))
def znU : ACode:=.pr [1,2,5,30,31,32] (.seq (rg [bN 33 .lss 32 31] [1,2,5,30,31,32,33])
(.seq (.cond 33 .skip
(.exit 2))
(.seq (.block 3 (.seq (rg [iA 34 (some 2) 30 32,
lD 35 (some 2) 34,
uO 9 (.alloc [.p (.str []),.p (.int .i64 0)]),
wO (.store (some 2) 9 35)] [1,2,5,9,30,31,32])
(rg [mV 36 5,
fA 37 0 none 9,
lD 38 none 37,
fA 39 1 none 9,
lD 40 none 39,
wO (.mupd (none,[2]) 36 38 40)] [1,2,5,30,31,32])))
(rg [bN 41 .add 32 (cI 1),
mV 32 41] [1,2,5,30,31,32]))))
def znV : ACode:=.pr [1,2,5,10,17,44,50,51,52] (rg [mV 100 5,
mV 101 10,
mV 102 17,
wO (.mupd (none,[2]) 100 101 102),
mV 12 cT] [1,2,5,10,12,44,50,51,52])
def znW : ACode:=.pr [1,2,5,10,12,44,50,51,52] (rg [bN 103 .add 52 (cI 1),
mV 52 103] [1,2,5,10,12,44,50,51,52])
def ziI (q3 q4 : ACode) : ACode:=.pr [1,2,5,10,12,44,50,51,52] (.seq (rg [bN 53 .lss 52 51] [1,2,5,10,12,44,50,51,52,53])
(.seq (.cond 53 .skip
(.exit 6))
(.seq (.block 7 (.seq (rg [iA 54 (some 2) 50 52,
lD 55 (some 2) 54,
uO 14 (.alloc [.p (.int .i64 0),.p (.int .i64 0)]),
wO (.store (some 2) 14 55)] [1,2,5,10,12,14,44,50,51,52])
(.seq (dr [dF (fA 56 0 none 2) [2],
dF (lD 57 none 56) [56],
dF (fA 58 0 none 14) [14],
dF (lD 59 none 58) [58],
dF (iA 60 (some 2) 57 59) [57,59],
dF (fA 61 1 none 60) [60],
dF (lD 62 none 61) [61],
dF (fA 63 1 none 14) [14],
dF (lD 64 none 63) [63],
dF (iA 65 (some 4) 62 64) [62,64],
dF (lD 66 (some 4) 65) [65],
dF (mV 67 1) [1],
dF (fA 68 0 none 14) [14],
dF (lD 69 none 68) [68],
dF (iA 70 none 67 69) [67,69],
dF (lD 71 none 70) [70],
dA (uO 15 (.alloc [.p (.int .i64 0),.p (.str []),.p (.int .i64 0),.p (.int .i64 0)])) [] true [] [1,3,4,6,8,9,10,13,14,15],
dA (wO (.store (some 4) 15 66)) [15,66] true [] [13,14,15],
dF (mV 16 71) [71]] [1,2,5,10,12,14,15,16,44,50,51,52])
(.seq (.seq (dr [dF (fA 72 2 none 15) [15],
dF (lD 73 none 72) [72],
dF (bN 74 .geq 73 (cI 0)) [73],
dF (mV 75 74) [74],
dF (gD 76 75 true (.mv 16)) [16,75],
dF (gD 77 75 true (.faddr 2 none 15)) [15,75],
dF (gD 78 75 true (.load none 77)) [77,75],
dF (gD 79 75 true (.idxs 76 78)) [76,78,75],
dF (gD 80 75 true (.bin .sub 79 (.c (.p (.int .u8 48))))) [79,75],
dF (gD 81 75 true (.conv (.i .i64) 80)) [80,75],
dF (gD 82 75 true (.faddr 3 none 15)) [15,75],
dF (gD 83 75 true (.load none 82)) [82,75],
dF (gD 84 75 true (.bin .eql 81 83)) [81,83,75],
dF (uO 85 (.pick 75 84 cF)) [75,84]] [1,2,5,10,12,14,16,44,50,51,52,85])
(.cond 85 (.exit 7)
.skip))
(.seq (rg [mV 86 16,
fA 87 1 none 14,
lD 88 none 87,
uO 89 (.idxs 86 88),
bN 90 .sub 89 (.c (.p (.int .u8 48))),
uO 91 (.conv (.i .i64) 90),
mV 17 91] [1,2,5,10,12,17,44,50,51,52])
(.seq (.seq (rg [mV 92 12,
mV 93 92,
gD 94 93 true (.mv 5),
gD 95 93 true (.mv 10),
gD 96 93 true (.look (none,[2]) false (AI 0) 94 95),
gD 97 93 true (.mv 17),
gD 98 93 true (.bin .neq 96 97),
uO 99 (.pick 93 98 cF)] [1,2,5,10,17,44,50,51,52,99])
(.cond 99 (rg [mV 17 (cI 3)] [1,2,5,10,17,44,50,51,52])
.skip))
q3))))))
q4)))
def znX : ACode:=ziI znV znW
def ziJ (q5 : ACode) : ACode:=.pr [1,2,5,44] (.seq (rg [uO 45 (.mnext none [44]),
eX 46 45 0] [1,2,5,44,46])
(.seq (.cond 46 .skip
(.exit 4))
(.block 5 (.seq (rg [uO 47 (.mentry 44),
eX 48 47 0,
eX 49 47 1,
mV 10 48,
mV 11 49] [1,2,5,10,11,44])
(.seq (rg [mV 12 cF] [1,2,5,10,11,12,44])
(.seq (rg [mV 50 11,
lN 51 50,
mV 52 (cI 0)] [1,2,5,10,12,44,50,51,52])
(.block 6 (.loop (.scope q5)))))))))
def znY : ACode:=ziJ znX
def znZ : ACode:=.pr [5] (.seq (rg [mV 104 5,
mV 4 104] [4])
.ret)
def ziK (q6 q7 : ACode) : ACode:=.pr [1,2,5] (.seq (.seq (rg [lD 42 (some 3) 2,
cL 43 ztz [42,(cI 2)],
uO 44 (.mrange 43)] [1,2,5,44])
(.block 4 (.loop (.scope q6))))
q7)
def zoa : ACode:=ziK znY znZ
def ziL (q2 q8 : ACode) : ACode:=.pr [1,2,5] (.seq (.seq (rg [fA 29 2 none 2,
lD 30 none 29,
lN 31 30,
mV 32 (cI 0)] [1,2,5,30,31,32])
(.block 2 (.loop (.scope q2))))
q8)
def zob : ACode:=ziL znU zoa
def P_q00m (q1 q9 : ACode) : ACode:=(.det (.seq (rg [uO 2 (.box 0),
mV 4 (.c (.nilm))] [1,2])
(.seq (rg [uO 18 (.mkmap),
mV 5 18] [1,2,5])
(.seq (.seq (rg [lD 19 (some 3) 2,
cL 20 zf3 [19],
lN 21 20,
mV 22 (cI 0)] [1,2,5,20,21,22])
(.block 0 (.loop q1)))
q9))))
def a_q00m : AFun:=⟨2,[.t 4],P_q00m znT zob,false,false⟩
def zoc : ACode:=.pr [3,7,8,9] (.seq (rg [bN 10 .lss 9 8] [3,7,8,9,10])
(.seq (.cond 10 .skip
(.exit 0))
(.seq (.block 1 (.seq (rg [iA 11 (some 3) 7 9,
lD 12 (some 3) 11,
uO 5 (.alloc [.p (.str []),.p (.str []),.p (.str [])]),
wO (.store (some 3) 5 12)] [3,5,7,8,9])
(rg [mV 13 3,
fA 14 0 none 5,
lD 15 none 14,
uO 16 (.bsl false none 1 (.str []) [(0,15)]),
uO 17 (.app none 13 16),
mV 3 17] [3,7,8,9])))
(rg [bN 18 .add 9 (cI 1),
mV 9 18] [3,7,8,9]))))
def zod : ACode:=.pr [3] (.seq (rg [mV 19 3,
cL 20 ztR [19],
mV 2 20] [2])
.ret)
def P_q00n (q1 q2 : ACode) : ACode:=(.seq (rg [uO 1 (.box 0),
mV 2 (.c (.p (.sl none [])))] [1])
(.seq (rg [uO 3 (.new0 none)] [1,3])
(.seq (.seq (rg [fA 6 1 none 1,
lD 7 none 6,
lN 8 7,
mV 9 (cI 0)] [3,7,8,9])
(.block 0 (.loop (.scope q1))))
q2)))
def a_q00n : AFun:=⟨1,[.t 2],P_q00n zoc zod,false,true⟩
def zoe : ACode:=.pr [3,8,9,10] (.seq (rg [bN 11 .lss 10 9] [3,8,9,10,11])
(.seq (.cond 11 .skip
(.exit 0))
(.seq (.block 1 (.seq (rg [iA 12 (some 3) 8 10,
lD 13 (some 3) 12,
uO 5 (.alloc [.p (.str []),.p (.str []),.p (.str [])]),
wO (.store (some 3) 5 13)] [3,5,8,9,10])
(rg [mV 14 3,
fA 15 1 none 5,
lD 16 none 15,
fA 17 2 none 5,
lD 18 none 17,
uO 19 (.build [.p (.str []),.p (.str [])] [(0,1,16),(1,1,18)]),
fA 20 0 none 5,
lD 21 none 20,
wO (.mupd ((some 2),[2,2]) 14 19 21)] [3,8,9,10])))
(rg [bN 22 .add 10 (cI 1),
mV 10 22] [3,8,9,10]))))
def zof : ACode:=.pr [3] (.seq (rg [mV 23 3,
mV 2 23] [2])
.ret)
def P_q00o (q1 q2 : ACode) : ACode:=(.seq (rg [uO 1 (.box 0),
mV 2 (.c (.nilm))] [1])
(.seq (rg [uO 6 (.mkmap),
mV 3 6] [1,3])
(.seq (.seq (rg [fA 7 1 none 1,
lD 8 none 7,
lN 9 8,
mV 10 (cI 0)] [3,8,9,10])
(.block 0 (.loop (.scope q1))))
q2)))
def a_q00o : AFun:=⟨1,[.t 2],P_q00o zoe zof,false,false⟩
def P_q00p : ACode:=(.seq (rg [uO 3 (.box 0),
uO 5 (.box 2),
mV 6 cF] [1,3,5])
(.seq (rg [lD 8 (some 3) 3,
mV 9 1,
cL 10 zt2 [8,9],
mV 7 10] [3,5,7])
(.seq (rg [mV 11 7,
bN 12 .geq 11 (cI 0),
mV 13 12,
gD 14 13 true (.faddr 0 none 3),
gD 15 13 true (.load none 14),
gD 16 13 true (.mv 7),
gD 17 13 true (.iaddr (some 2) 15 16),
gD 18 13 true (.faddr 1 none 17),
gD 19 13 true (.load none 18),
gD 20 13 true (.mkfn zt8 [5]),
gD 21 13 true (.call zmo [19,20]),
uO 22 (.pick 13 21 cF),
mV 6 22] [6])
.ret)))
def a_q00p : AFun:=⟨3,[.t 6],P_q00p,false,false⟩
def P_q00q : ACode:=(.seq (rg [uO 2 (.box 0),
mV 3 cF] [1,2])
(.seq (rg [lD 4 (some 4) 2,
cL 5 zcI [4],
mV 6 5,
gD 7 6 true (.faddr 1 none 2),
gD 8 6 true (.load none 7),
gD 9 6 true (.load none 1),
gD 10 6 true (.bin .eql 8 9),
uO 11 (.pick 6 10 cF),
mV 3 11] [3])
.ret))
def a_q00q : AFun:=⟨2,[.t 3],P_q00q,false,false⟩
def P_q00r : ACode:=(.seq (rg [mV 4 (cI 0)] [0,1])
(.seq (rg [mV 7 0,
cL 8 zmn [7],
mV 5 8] [0,1,5])
(.seq (rg [mV 9 1,
cL 10 zmn [9],
mV 6 10] [0,1,5,6])
(.seq (.seq (rg [mV 11 5] [0,1,6,11])
(.cond 11 (.seq (.seq (rg [mV 12 6] [12])
(.cond 12 (.seq (rg [mV 4 (cI 0)] [4])
.ret)
.skip))
(.seq (rg [mV 4 (cI (-1))] [4])
.ret))
.skip))
(.seq (.seq (rg [mV 13 6] [0,1,13])
(.cond 13 (.seq (rg [mV 4 (cI 1)] [4])
.ret)
.skip))
(.seq (.seq (rg [mV 14 0,
mV 15 1,
bN 16 .lss 14 15] [0,1,16])
(.cond 16 (.seq (rg [mV 4 (cI (-1))] [4])
.ret)
.skip))
(.seq (.seq (rg [mV 17 0,
mV 18 1,
bN 19 .gtr 17 18] [19])
(.cond 19 (.seq (rg [mV 4 (cI 1)] [4])
.ret)
.skip))
(.seq (rg [mV 4 (cI 0)] [4])
.ret))))))))
def a_q00r : AFun:=⟨2,[.t 4],P_q00r,false,false⟩
def zog : ACode:=.pr [3,6,7,8] (.seq (rg [bN 9 .lss 8 7] [3,6,7,8,9])
(.seq (.cond 9 .skip
(.exit 0))
(.seq (.block 1 (.seq (rg [iA 10 none 6 8,
lD 11 none 10,
mV 5 11] [3,5,6,7,8])
(.seq (rg [mV 12 5,
mV 13 3,
bN 14 .neq 12 13] [3,5,6,7,8,14])
(.cond 14 (.seq (rg [mV 15 5,
mV 2 15] [2])
.ret)
.skip))))
(rg [bN 16 .add 8 (cI 1),
mV 8 16] [3,6,7,8]))))
def zoh : ACode:=.pr [3] (.seq (rg [mV 17 3,
mV 2 17] [2])
.ret)
def P_q00s (q1 q2 : ACode) : ACode:=(.seq (rg [mV 2 (cI 0)] [0])
(.seq (rg [mV 3 (cI 0)] [0,3])
(.seq (.seq (rg [mV 6 0,
lN 7 6,
mV 8 (cI 0)] [3,6,7,8])
(.block 0 (.loop q1)))
q2)))
def a_q00s : AFun:=⟨1,[.t 2],P_q00s zog zoh,false,false⟩
def P_q00t : ACode:=(.seq (rg [mV 2 cF] [0])
(.seq (rg [mV 3 0,
mV 4 0,
bN 5 .neq 3 4,
mV 2 5] [2])
.ret))
def a_q00t : AFun:=⟨1,[.t 2],P_q00t,false,false⟩
def zoi : ACode:=.pr [0,3,27,28,29] (.seq (rg [bN 30 .lss 29 28] [0,3,27,28,29,30])
(.seq (.cond 30 .skip
(.exit 1))
(.seq (.block 2 (.seq (rg [iA 31 none 27 29,
lD 32 none 31,
mV 6 32] [0,3,6,27,28,29])
(.seq (rg [mV 33 6,
mV 34 0,
bN 35 .sub 34 (cI 1),
cL 36 z1d [33,(cI 0),35]] [0,3,27,28,29,36])
(.cond 36 (.seq (rg [mV 4 (cI 1)] [4])
.ret)
.skip))))
(rg [bN 37 .add 29 (cI 1),
mV 29 37] [0,3,27,28,29]))))
def zoj : ACode:=.pr [3,7,8] (.seq (.seq (rg [mV 53 8,
mV 54 7,
lN 55 54,
bN 56 .lss 53 55] [3,7,8,56])
(.cond 56 .skip
(.exit 3)))
(.seq (.block 4 (.seq (dr [dF (mV 59 7) [7],
dF (mV 60 8) [8],
dF (iA 61 none 59 60) [59,60],
dF (lD 62 none 61) [61],
dF (mV 63 7) [7],
dF (mV 64 8) [8],
dF (bN 65 .sub 64 (cI 1)) [64],
dF (iA 66 none 63 65) [63,65],
dF (lD 67 none 66) [66],
dF (bN 68 .leq 62 67) [62,67]] [3,7,8,68])
(.cond 68 (.seq (rg [mV 4 (cI 7)] [4])
.ret)
.skip)))
(rg [mV 57 8,
bN 58 .add 57 (cI 1),
mV 8 58] [3,7,8])))
def zok : ACode:=.pr [3,7] (.seq (.seq (rg [fA 69 0 none 3,
lD 70 none 69,
bN 71 .eql 70 (cI 5),
mV 72 71,
gD 73 72 true (.mv 7),
gD 74 72 true (.faddr 1 none 3),
gD 75 72 true (.load none 74),
gD 76 72 true (.iaddr none 75 (cI 0)),
gD 77 72 true (.load none 76),
gD 78 72 true (.call z4Q [73,77]),
uO 79 (.pick 72 78 cF)] [79])
(.cond 79 (.seq (rg [mV 4 (cI 6)] [4])
.ret)
.skip))
(.seq (rg [mV 4 (cI 0)] [4])
.ret))
def ziM (q2 q3 : ACode) : ACode:=.pr [3,7] (.seq (.seq (rg [mV 8 (cI 1)] [3,7,8])
(.block 3 (.loop q2)))
q3)
def zol : ACode:=ziM zoj zok
def ziN (q4 : ACode) : ACode:=.pr [3] (.seq (.seq (dr [dF (fA 38 0 none 3) [3],
dF (lD 39 none 38) [38],
dT (cL 40 ztE [39]) [39],
dF (fA 41 1 none 3) [3],
dA (lD 42 none 41) [41] false [2] [],
dF (lN 43 42) [42],
dF (bN 44 .gtr 43 (cI 1)) [43],
dF (uO 45 (.eqa [] true 40 44)) [40,44]] [3,45])
(.cond 45 (.seq (rg [mV 4 (cI 3)] [4])
.ret)
.skip))
(.seq (rg [fA 46 1 none 3,
lD 47 none 46,
mV 7 47] [3,7])
(.seq (.seq (rg [fA 48 0 none 3,
lD 49 none 48,
bN 50 .eql 49 (cI 5)] [3,7,50])
(.cond 50 (rg [mV 51 7,
uO 52 (.slice none 51 (some (cI 1)) none none),
mV 7 52] [3,7])
.skip))
q4)))
def zom : ACode:=ziN zol
def P_q00v (q1 q5 : ACode) : ACode:=(.seq (rg [uO 3 (.box 1),
mV 4 (cI 0)] [0,3])
(.seq (.block 0 (.seq (rg [mV 10 0,
cL 11 z1d [10,(cI 1),(cI 100)],
mV 9 11] [0,3,9])
(.cond 9 (.seq (rg [mV 4 (cI 1)] [4])
.ret)
(.seq (rg [fA 13 0 none 3,
lD 14 none 13,
cL 15 z1d [14,(cI 1),(cI 6)],
mV 12 15] [0,3,12])
(.cond 12 (.seq (rg [mV 4 (cI 4)] [4])
.ret)
(.seq (rg [fA 17 1 none 3,
lD 18 none 17,
lN 19 18,
bN 20 .eql 19 (cI 0),
mV 16 20] [0,3,16])
(.cond 16 (.seq (rg [mV 4 (cI 8)] [4])
.ret)
(.seq (rg [fA 22 1 none 3,
lD 23 none 22,
lN 24 23,
bN 25 .gtr 24 (cI 6),
mV 21 25] [0,3,21])
(.cond 21 (.seq (rg [mV 4 (cI 2)] [4])
.ret)
.skip)))))))))
(.seq (.seq (rg [fA 26 1 none 3,
lD 27 none 26,
lN 28 27,
mV 29 (cI 0)] [0,3,27,28,29])
(.block 1 (.loop q1)))
q5)))
def a_q00v : AFun:=⟨2,[.t 4],P_q00v zoi zom,false,false⟩
def zon : ACode:=.pr [0,13,14,15] (.seq (rg [bN 16 .lss 15 14] [0,13,14,15,16])
(.seq (.cond 16 .skip
(.exit 1))
(.seq (.block 2 (.seq (rg [iA 17 none 13 15,
lD 18 none 17,
mV 4 18] [0,4,13,14,15])
(.block 3 (.seq (rg [mV 20 4,
cL 21 z2p [20],
uO 22 (.un .not 21),
mV 19 22] [0,4,13,14,15,19])
(.cond 19 (.seq (rg [mV 2 (cI 3)] [2])
.ret)
(.seq (rg [mV 24 4,
uO 25 (.lens 24),
bN 26 .gtr 25 (cI 64),
mV 23 26] [0,4,13,14,15,23])
(.cond 23 (.seq (rg [mV 2 (cI 2)] [2])
.ret)
(.seq (rg [mV 28 4,
uO 29 (.lens 28),
mV 30 0,
iA 31 none 30 (cI 0),
lD 32 none 31,
uO 33 (.lens 32),
bN 34 .neq 29 33,
mV 27 34] [0,13,14,15,27])
(.cond 27 (.seq (rg [mV 2 (cI 3)] [2])
.ret)
.skip)))))))))
(rg [bN 35 .add 15 (cI 1),
mV 15 35] [0,13,14,15]))))
def zoo : ACode:=.pr [] (.seq (rg [mV 2 (cI 0)] [2])
.ret)
def P_q00w (q1 q2 : ACode) : ACode:=(.seq (rg [mV 2 (cI 0)] [0])
(.seq (.block 0 (.seq (rg [mV 6 0,
lN 7 6,
bN 8 .eql 7 (cI 0),
mV 5 8] [0,5])
(.cond 5 (.seq (rg [mV 2 (cI 8)] [2])
.ret)
(.seq (rg [mV 10 0,
lN 11 10,
bN 12 .gtr 11 (cI 100),
mV 9 12] [0,9])
(.cond 9 (.seq (rg [mV 2 (cI 2)] [2])
.ret)
.skip)))))
(.seq (.seq (rg [mV 13 0,
lN 14 13,
mV 15 (cI 0)] [0,13,14,15])
(.block 1 (.loop q1)))
q2)))
def a_q00w : AFun:=⟨1,[.t 2],P_q00w zon zoo,false,false⟩
def zop : ACode:=.pr [0,7,18,19,20] (.seq (rg [bN 21 .lss 20 19] [0,7,18,19,20,21])
(.seq (.cond 21 .skip
(.exit 0))
(.seq (.block 1 (.seq (rg [iA 22 (some 2) 18 20,
lD 23 (some 2) 22,
uO 9 (.alloc [.p (.int .i64 0),.sl0 none]),
wO (.store (some 2) 9 23)] [0,7,9,18,19,20])
(dr [dF (mV 24 7) [7],
dF (lD 25 (some 2) 9) [9],
dF (mV 26 0) [0],
dF (iA 27 none 26 (cI 0)) [26],
dF (lD 28 none 27) [27],
dF (uO 29 (.lens 28)) [28],
dA (cL 30 ztH [29]) [29] true [] [1],
dT (cL 31 ztI [24,25,30]) [24,25,30]] [0,7,18,19,20])))
(rg [bN 32 .add 20 (cI 1),
mV 20 32] [0,7,18,19,20]))))
def zoq : ACode:=.pr [0,7] (.seq (rg [mV 33 7,
mV 34 0,
iA 35 none 34 (cI 0),
lD 36 none 35,
uO 37 (.lens 36),
cL 38 ztG [33,37],
mV 4 38,
mV 5 (cI 0)] [4,5])
.ret)
def P_q00x (q1 q2 : ACode) : ACode:=(.seq (rg [mV 4 (.c (.p (.sl none []))),
mV 5 (cI 0)] [0,1])
(.seq (.seq (rg [mV 10 0,
mV 11 1,
cL 12 ztD [10,11],
mV 6 12] [0,1,6])
(.seq (rg [mV 13 6,
bN 14 .neq 13 (cI 0)] [0,1,6,14])
(.cond 14 (.seq (rg [mV 15 6,
mV 4 (.c (.p (.sl none []))),
mV 5 15] [4,5])
.ret)
.skip)))
(.seq (rg [mV 16 0,
cL 17 ztF [16],
mV 7 17] [0,1,7])
(.seq (.seq (rg [mV 18 1,
lN 19 18,
mV 20 (cI 0)] [0,7,18,19,20])
(.block 0 (.loop (.scope q1))))
q2))))
def a_q00x : AFun:=⟨2,[.t 4,.t 5],P_q00x zop zoq,false,false⟩
def P_q00y : ACode:=(.seq (rg [uO 3 (.box 1),
mV 4 (.c (.p (.sl none []))),
mV 5 (cI 0)] [0,3])
(.seq (rg [mV 6 0,
lD 7 (some 2) 3,
uO 8 (.bsl false (some 2) 1 (.agg [.int .i64 0,.sl none []]) [(0,7)]),
cL 9 ztB [6,8],
eX 10 9 0,
eX 11 9 1,
mV 4 10,
mV 5 11] [4,5])
.ret))
def a_q00y : AFun:=⟨2,[.t 4,.t 5],P_q00y,false,false⟩
def zor : ACode:=.pr [0,14,15,16] (.seq (rg [bN 17 .lss 16 15] [0,14,15,16,17])
(.seq (.cond 17 .skip
(.exit 0))
(.seq (.block 1 (.seq (rg [iA 18 (some 2) 14 16,
lD 19 (some 2) 18,
uO 7 (.alloc [.p (.int .i64 0),.sl0 none]),
wO (.store (some 2) 7 19)] [0,7,14,15,16])
(.seq (rg [mV 20 0,
lN 21 20,
lD 22 (some 2) 7,
cL 23 zt9 [21,22],
mV 8 23] [0,8,14,15,16])
(.seq (rg [mV 24 8,
bN 25 .neq 24 (cI 0)] [0,8,14,15,16,25])
(.cond 25 (.seq (rg [mV 26 8,
mV 4 26] [4])
.ret)
.skip)))))
(rg [bN 27 .add 16 (cI 1),
mV 16 27] [0,14,15,16]))))
def zos : ACode:=.pr [] (.seq (rg [mV 4 (cI 0)] [4])
.ret)
def P_q00z (q1 q2 : ACode) : ACode:=(.seq (rg [mV 4 (cI 0)] [0,1])
(.seq (.seq (rg [mV 9 0,
cL 10 ztA [9],
mV 5 10] [0,1,5])
(.seq (rg [mV 11 5,
bN 12 .neq 11 (cI 0)] [0,1,5,12])
(.cond 12 (.seq (rg [mV 13 5,
mV 4 13] [4])
.ret)
.skip)))
(.seq (.seq (rg [mV 14 1,
lN 15 14,
mV 16 (cI 0)] [0,14,15,16])
(.block 0 (.loop (.scope q1))))
q2)))
def a_q00z : AFun:=⟨2,[.t 4],P_q00z zor zos,false,false⟩
def P_q010 : ACode:=(.seq (rg [mV 2 cF] [0])
(.seq (rg [mV 3 0,
cL 4 z1d [3,(cI 3),(cI 5)],
uO 5 (.un .not 4),
mV 2 5] [2])
.ret))
def a_q010 : AFun:=⟨1,[.t 2],P_q010,false,false⟩
def zot : ACode:=.pr [3,5,6,8,9,10,15,16] (.seq (rg [bN 17 .lss 16 15] [3,5,6,8,9,10,15,16,17])
(.seq (.cond 17 .skip
(.exit 2))
(.seq (.block 3 (.seq (rg [mV 18 16,
mV 7 18] [3,5,6,7,8,9,10,15,16])
(rg [mV 19 6,
mV 20 5,
mV 21 7,
uO 22 (.idxs 20 21),
bN 23 .sub 22 (.c (.p (.int .u8 48))),
uO 24 (.conv (.i .u64) 23),
mV 25 7,
bN 26 .shl 24 25,
bN 27 .or 19 26,
mV 6 27] [3,5,6,8,9,10,15,16])))
(rg [bN 28 .add 16 (cI 1),
mV 16 28] [3,5,6,8,9,10,15,16]))))
def zou : ACode:=.pr [3,6,8,9,10] (rg [mV 29 3,
mV 30 6,
uO 31 (.bsl false none 1 (.int .u64 0) [(0,30)]),
uO 32 (.app none 29 31),
mV 3 32] [3,8,9,10])
def zov : ACode:=.pr [3,8,9,10] (rg [bN 33 .add 10 (cI 1),
mV 10 33] [3,8,9,10])
def ziO (q1 q2 q3 : ACode) : ACode:=.pr [3,8,9,10] (.seq (rg [bN 11 .lss 10 9] [3,8,9,10,11])
(.seq (.cond 11 .skip
(.exit 0))
(.seq (.block 1 (.seq (rg [iA 12 none 8 10,
lD 13 none 12,
mV 5 13] [3,5,8,9,10])
(.seq (rg [mV 6 (.c (.p (.int .u64 0)))] [3,5,6,8,9,10])
(.seq (.seq (rg [mV 14 5,
uO 15 (.lens 14),
mV 16 (cI 0)] [3,5,6,8,9,10,15,16])
(.block 2 (.loop q1)))
q2))))
q3)))
def zow : ACode:=ziO zot zou zov
def zox : ACode:=.pr [3] (.seq (rg [mV 34 3,
mV 2 34] [2])
.ret)
def P_q011 (q4 q5 : ACode) : ACode:=(.seq (rg [mV 2 (.c (.p (.sl none [])))] [0])
(.seq (rg [uO 3 (.new0 none)] [0,3])
(.seq (.seq (rg [mV 8 0,
lN 9 8,
mV 10 (cI 0)] [3,8,9,10])
(.block 0 (.loop (.scope q4))))
q5)))
def a_q011 : AFun:=⟨1,[.t 2],P_q011 zow zox,false,true⟩
def zoy : ACode:=.pr [1,5,7,8,10,11,12,19,20] (.seq (rg [bN 21 .lss 20 19] [1,5,7,8,10,11,12,19,20,21])
(.seq (.cond 21 .skip
(.exit 2))
(.seq (.block 3 (.seq (rg [mV 22 20,
mV 9 22] [1,5,7,8,9,10,11,12,19,20])
(rg [mV 23 8,
mV 24 9,
mV 25 7,
mV 26 9,
bN 27 .shr 25 26,
bN 28 .and 27 (.c (.p (.int .u64 1))),
bN 29 .add (.c (.p (.int .u64 48))) 28,
uO 30 (.conv (.i .u8) 29),
iA 31 none 23 24,
wO (.store none 31 30)] [1,5,7,8,10,11,12,19,20])))
(rg [bN 32 .add 20 (cI 1),
mV 20 32] [1,5,7,8,10,11,12,19,20]))))
def zoz : ACode:=.pr [1,5,8,10,11,12] (rg [mV 33 5,
mV 34 8,
uO 35 (.conv .b2s 34),
uO 36 (.bsl false none 1 (.str []) [(0,35)]),
uO 37 (.app none 33 36),
mV 5 37] [1,5,10,11,12])
def zo0 : ACode:=.pr [1,5,10,11,12] (rg [bN 38 .add 12 (cI 1),
mV 12 38] [1,5,10,11,12])
def ziP (q1 q2 q3 : ACode) : ACode:=.pr [1,5,10,11,12] (.seq (rg [bN 13 .lss 12 11] [1,5,10,11,12,13])
(.seq (.cond 13 .skip
(.exit 0))
(.seq (.block 1 (.seq (rg [iA 14 none 10 12,
lD 15 none 14,
mV 7 15] [1,5,7,10,11,12])
(.seq (rg [mV 16 1,
uO 17 (.mksl none (.int .u8 0) 16 16),
mV 8 17] [1,5,7,8,10,11,12])
(.seq (.seq (rg [mV 18 8,
lN 19 18,
mV 20 (cI 0)] [1,5,7,8,10,11,12,19,20])
(.block 2 (.loop q1)))
q2))))
q3)))
def zo1 : ACode:=ziP zoy zoz zo0
def zo2 : ACode:=.pr [5] (.seq (rg [mV 39 5,
mV 4 39] [4])
.ret)
def P_q012 (q4 q5 : ACode) : ACode:=(.seq (rg [mV 4 (.c (.p (.sl none [])))] [0,1])
(.seq (rg [uO 5 (.new0 none)] [0,1,5])
(.seq (.seq (rg [mV 10 0,
lN 11 10,
mV 12 (cI 0)] [1,5,10,11,12])
(.block 0 (.loop (.scope q4))))
q5)))
def a_q012 : AFun:=⟨2,[.t 4],P_q012 zo1 zo2,false,false⟩
def P_q013 : ACode:=(.seq (rg [mV 2 (.c (.p (.int .u64 0)))] [0])
(.seq (rg [mV 3 0,
bN 4 .shl (.c (.p (.int .u64 1))) 3,
bN 5 .sub 4 (.c (.p (.int .u64 1))),
mV 2 5] [2])
.ret))
def a_q013 : AFun:=⟨1,[.t 2],P_q013,false,false⟩
def zo3 : ACode:=.pr [0,4,6,31,32,33] (.seq (rg [bN 34 .lss 33 32] [0,4,6,31,32,33,34])
(.seq (.cond 34 .skip
(.exit 1))
(.seq (.block 2 (.seq (rg [iA 35 none 31 33,
lD 36 none 35,
mV 8 36] [0,4,6,8,31,32,33])
(rg [mV 37 6,
mV 38 0,
mV 39 8,
iA 40 none 38 39,
lD 41 none 40,
bN 42 .and 37 41,
mV 6 42] [0,4,6,31,32,33])))
(rg [bN 43 .add 33 (cI 1),
mV 33 43] [0,4,6,31,32,33]))))
def zo4 : ACode:=.pr [0,4,6,47,48,49] (.seq (rg [bN 50 .lss 49 48] [0,4,6,47,48,49,50])
(.seq (.cond 50 .skip
(.exit 3))
(.seq (.block 4 (.seq (rg [iA 51 none 47 49,
lD 52 none 51,
mV 10 52] [0,4,6,10,47,48,49])
(rg [mV 53 6,
mV 54 0,
mV 55 10,
iA 56 none 54 55,
lD 57 none 56,
bN 58 .or 53 57,
mV 6 58] [0,4,6,47,48,49])))
(rg [bN 59 .add 49 (cI 1),
mV 49 59] [0,4,6,47,48,49]))))
def ziQ (q1 q2 : ACode) : ACode:=.pr [0,2,4,6,21,24] (.cond 24 (rg [mV 27 2,
mV 6 27] [0,4,6])
(.seq (rg [bN 29 .eql 21 (cI 3),
mV 28 29] [0,4,6,21,28])
(.cond 28 (.seq (rg [fA 30 1 none 4,
lD 31 none 30,
lN 32 31,
mV 33 (cI 0)] [0,4,6,31,32,33])
(.block 1 (.loop q1)))
(.seq (rg [bN 45 .eql 21 (cI 4),
mV 44 45] [0,4,6,44])
(.cond 44 (.seq (rg [fA 46 1 none 4,
lD 47 none 46,
lN 48 47,
mV 49 (cI 0)] [0,4,6,47,48,49])
(.block 3 (.loop q2)))
.skip)))))
def zo5 : ACode:=ziQ zo3 zo4
def zo6 : ACode:=.pr [0,6,61,62,63] (.seq (rg [bN 64 .lss 63 62] [0,6,61,62,63,64])
(.seq (.cond 64 .skip
(.exit 5))
(.seq (.block 6 (.seq (rg [iA 65 none 61 63,
lD 66 none 65,
mV 12 66] [0,6,12,61,62,63])
(rg [mV 67 0,
mV 68 12,
mV 69 6,
iA 70 none 67 68,
wO (.store none 70 69)] [0,6,61,62,63])))
(rg [bN 71 .add 63 (cI 1),
mV 63 71] [0,6,61,62,63]))))
def ziR (q4 : ACode) : ACode:=.pr [0,4,6] (.seq (rg [fA 60 1 none 4,
lD 61 none 60,
lN 62 61,
mV 63 (cI 0)] [0,6,61,62,63])
(.block 5 (.loop q4)))
def zo7 : ACode:=ziR zo6
def P_q014 (q3 q5 : ACode) : ACode:=(.seq (rg [uO 4 (.box 1)] [0,2,4])
(.seq (rg [mV 13 0,
fA 14 1 none 4,
lD 15 none 14,
iA 16 none 15 (cI 0),
lD 17 none 16,
iA 18 none 13 17,
lD 19 none 18,
mV 6 19] [0,2,4,6])
(.seq (.seq (rg [fA 20 0 none 4,
lD 21 none 20] [0,2,4,6,21])
(.block 0 (.seq (rg [bN 23 .eql 21 (cI 1),
mV 22 23] [0,2,4,6,21,22])
(.cond 22 (rg [mV 6 (.c (.p (.int .u64 0)))] [0,4,6])
(.seq (.seq (rg [bN 25 .eql 21 (cI 2),
mV 24 25] [0,2,4,6,21,24])
(.cond 24 .skip
(rg [bN 26 .eql 21 (cI 6),
mV 24 26] [0,2,4,6,21,24])))
q3)))))
q5)))
def a_q014 : AFun:=⟨3,[],P_q014 zo5 zo7,true,false⟩
def P_q018 : ACode:=(.seq (rg [mV 4 (cI 0)] [0,1])
(.seq (rg [mV 5 0,
mV 6 1,
cL 7 z0q [5,6],
mV 4 7] [4])
.ret))
def a_q018 : AFun:=⟨2,[.t 4],P_q018,false,false⟩
def P_q01y : ACode:=(.seq (rg [uO 2 (.alloc [.p (.int .i64 0),.p (.int .i64 0)]),
uO 3 (.alloc [.p (.int .i64 0),.p (.int .i64 0)]),
mV 4 (cI 0)] [0,2,3])
(.seq (.seq (rg [mV 9 0,
cL 10 ztN [9,(cI 1)],
mV 5 10] [0,2,3,5])
(.seq (rg [mV 11 5,
bN 12 .neq 11 (cI 0)] [0,2,3,5,12])
(.cond 12 (.seq (rg [uO 13 (.build [.p (.int .i64 0),.p (.int .i64 0)] []),
uO 14 (.build [.p (.int .i64 0),.p (.int .i64 0)] []),
mV 15 5,
wO (.store (some 2) 2 13),
wO (.store (some 2) 3 14),
mV 4 15] [2,3,4])
.ret)
.skip)))
(.seq (rg [mV 17 0,
cL 18 ztM [17],
mV 16 18,
eX 19 16 0,
eX 20 16 1,
mV 6 19,
mV 7 20] [0,2,3,6,7])
(.seq (rg [mV 21 0,
lN 22 21,
mV 8 22] [2,3,6,7,8])
(.seq (rg [mV 23 6,
mV 24 8,
cL 25 zmj [23,24],
mV 26 7,
mV 27 8,
mV 28 8,
bN 29 .mul 27 28,
cL 30 zmj [26,29],
wO (.store (some 2) 2 25),
wO (.store (some 2) 3 30),
mV 4 (cI 0)] [2,3,4])
.ret)))))
def a_q01y : AFun:=⟨1,[.cell 2 (some 2),.cell 3 (some 2),.t 4],P_q01y,false,false⟩
def P_q01z : ACode:=(.seq (rg [mV 2 cF] [0])
(.seq (rg [mV 3 0,
cL 4 z1d [3,(cI (-100000)),(cI 100000)],
uO 5 (.un .not 4),
mV 2 5] [2])
.ret))
def a_q01z : AFun:=⟨1,[.t 2],P_q01z,false,false⟩
def zo8 : ACode:=.pr [0,2,4,7,8,9] (.seq (rg [bN 10 .lss 9 8] [0,2,4,7,8,9,10])
(.seq (.cond 10 .skip
(.exit 0))
(.seq (.block 1 (.seq (rg [iA 11 none 7 9,
lD 12 none 11,
mV 6 12] [0,2,4,6,7,8,9])
(.seq (rg [mV 13 2,
mV 14 6,
bN 15 .add 13 14,
mV 2 15] [0,2,4,6,7,8,9])
(rg [mV 16 4,
mV 17 6,
mV 18 6,
bN 19 .mul 17 18,
bN 20 .add 16 19,
mV 4 20] [0,2,4,7,8,9]))))
(rg [bN 21 .add 9 (cI 1),
mV 9 21] [0,2,4,7,8,9]))))
def zo9 : ACode:=.pr [0,2,4] (.seq (rg [mV 22 2,
mV 23 0,
lN 24 23,
mV 25 4,
bN 26 .mul 24 25,
mV 27 2,
mV 28 2,
bN 29 .mul 27 28,
bN 30 .sub 26 29,
mV 2 22,
mV 3 30] [2,3])
.ret)
def P_q020 (q1 q2 : ACode) : ACode:=(.seq (rg [mV 2 (cI 0),
mV 3 (cI 0)] [0,2])
(.seq (rg [mV 4 (cI 0)] [0,2,4])
(.seq (.seq (rg [mV 7 0,
lN 8 7,
mV 9 (cI 0)] [0,2,4,7,8,9])
(.block 0 (.loop q1)))
q2)))
def a_q020 : AFun:=⟨1,[.t 2,.t 3],P_q020 zo8 zo9,false,false⟩
def P_q021 : ACode:=(.seq (rg [mV 4 (cI 0)] [0,1])
(.seq (.block 0 (.seq (rg [mV 6 0,
lN 7 6,
mV 8 1,
bN 9 .lss 7 8,
mV 5 9] [0,5])
(.cond 5 (.seq (rg [mV 4 (cI 8)] [4])
.ret)
(.seq (rg [mV 11 0,
lN 12 11,
bN 13 .gtr 12 (cI 5000),
mV 10 13] [0,10])
(.cond 10 (.seq (rg [mV 4 (cI 2)] [4])
.ret)
(.seq (rg [mV 15 0,
cL 16 ztS [15,(.f ztO)],
mV 14 16] [14])
(.cond 14 (.seq (rg [mV 4 (cI 1)] [4])
.ret)
.skip)))))))
(.seq (rg [mV 4 (cI 0)] [4])
.ret)))
def a_q021 : AFun:=⟨2,[.t 4],P_q021,false,false⟩
def P_q022 : ACode:=(.seq (rg [mV 2 cF] [0])
(.seq (rg [mV 3 0,
cL 4 ztL [3],
uO 5 (.un .not 4),
mV 2 5] [2])
.ret))
def a_q022 : AFun:=⟨1,[.t 2],P_q022,false,false⟩
def P_q02g : ACode:=(.seq (rg [mV 0 cF] [])
(.seq (rg [cL 13 ztP [],
uO 14 (.bsl false none 1 (.str []) [(0,(cS [49]))]),
cL 15 ztw [13,14],
mV 12 15,
eX 16 12 0,
eX 17 12 1,
mV 1 16,
mV 2 17] [1,2])
(.seq (rg [uO 19 (.bsl false none 1 (.str []) [(0,(cS [48,49]))]),
uO 20 (.bsl false none 1 (.int .i64 0) [(0,(cI 0))]),
uO 21 (.build [.p (.int .i64 0),.sl0 none] [(0,1,(cI 2)),(1,1,20)]),
cL 22 ztC [19,21],
mV 18 22,
eX 23 18 0,
eX 24 18 1,
mV 3 23,
mV 4 24] [1,2,3,4])
(.seq (rg [uO 26 (.build [.p (.int .i64 0),.p (.int .i64 0),.p (.int .i64 0),.p (.str []),.p (.str []),.p (.str [])] [(0,1,(cI 7)),(3,1,(cS [49,48]))]),
uO 27 (.bsl false (some 6) 1 (.agg [.int .i64 0,.int .i64 0,.int .i64 0,.str [],.str [],.str []]) [(0,26)]),
cL 28 zuk [27],
mV 25 28,
eX 29 25 0,
eX 30 25 1,
mV 5 29,
mV 6 30] [1,2,3,4,5,6])
(.seq (rg [uO 32 (.bsl false none 2 (.int .i64 0) [(0,(cI 1)),(1,(cI 3))]),
cL 33 ztK [32],
mV 31 33,
eX 34 31 0,
eX 35 31 1,
eX 36 31 2,
uO 7 (.alloc [.p (.int .i64 0),.p (.int .i64 0)]),
uO 8 (.alloc [.p (.int .i64 0),.p (.int .i64 0)]),
wO (.store (some 2) 7 34),
wO (.store (some 2) 8 35),
mV 9 36] [1,2,3,4,5,6,7,9])
(.seq (rg [uO 38 (.bsl false none 1 (.str []) [(0,(cS [115,99,97,110]))]),
uO 39 (.build [.sl0 none,.p (.int .i64 0)] [(0,1,38),(1,1,(cI 1))]),
uO 40 (.build [.p (.str []),.p (.int .i64 0),.p (.int .i64 0),.p (.int .i64 0),.p (.str []),.p (.str []),.p (.str []),.p (.int .i64 0)] [(0,1,(cS [97])),(1,1,(cI 1)),(3,1,(cI 1)),(4,1,(cS [98]))]),
uO 41 (.bsl false (some 8) 1 (.agg [.str [],.int .i64 0,.int .i64 0,.int .i64 0,.str [],.str [],.str [],.int .i64 0]) [(0,40)]),
cL 42 ztX [39,41,(cS [98]),(cI 0)],
mV 37 42,
eX 43 37 0,
eX 44 37 1,
uO 10 (.alloc [.p (.int .i64 0),.p (.int .i64 0),.p (.str []),.p (.str []),.p (.int .i64 0)]),
wO (.store (some 5) 10 43),
mV 11 44] [1,2,3,4,5,6,7,9,10,11])
(.seq (rg [mV 45 2,
mV 46 4,
mV 47 6,
mV 48 9,
mV 49 11,
uO 50 (.bsl false none 5 (.int .i64 0) [(0,45),(1,46),(2,47),(3,48),(4,49)]),
cL 51 z6K [50],
bN 52 .eql 51 (cI 0),
mV 53 52,
gD 54 53 true (.mv 1),
gD 55 53 true (.len 54),
gD 56 53 true (.bin .eql 55 (cI 1)),
uO 57 (.pick 53 56 cF),
mV 58 57,
gD 59 58 true (.mv 1),
gD 60 58 true (.iaddr none 59 (cI 0)),
gD 61 58 true (.load none 60),
gD 62 58 true (.bin .eql 61 (cI 1)),
uO 63 (.pick 58 62 cF),
mV 64 63,
gD 65 64 true (.mv 3),
gD 66 64 true (.len 65),
gD 67 64 true (.bin .eql 66 (cI 1)),
uO 68 (.pick 64 67 cF),
mV 69 68,
gD 70 69 true (.mv 3),
gD 71 69 true (.iaddr none 70 (cI 0)),
gD 72 69 true (.load none 71),
gD 73 69 true (.bin .eql 72 (cS [49,49])),
uO 74 (.pick 69 73 cF),
mV 75 74,
gD 76 75 true (.mv 5),
gD 77 75 true (.bin .eql 76 (cI 9)),
uO 78 (.pick 75 77 cF),
mV 79 78,
gD 80 79 true (.faddr 0 none 7),
gD 81 79 true (.load none 80),
gD 82 79 true (.bin .eql 81 (cI 2)),
uO 83 (.pick 79 82 cF),
mV 84 83,
gD 85 84 true (.faddr 0 none 10),
gD 86 84 true (.load none 85),
gD 87 84 true (.bin .eql 86 (cI 1)),
uO 88 (.pick 84 87 cF),
mV 0 88] [0])
.ret)))))))
def a_q02g : AFun:=⟨0,[.t 0],P_q02g,false,false⟩
def P_q02h : ACode:=(.seq (rg [uO 0 (.alloc [.sl0 (some 2),.sl0 (some 3),.sl0 (some 2)])] [0])
(.seq (rg [uO 1 (.build [.p (.int .i64 0),.p (.str []),.p (.int .i64 0),.p (.int .i64 0)] [(0,1,(cI 2)),(1,1,(cS [97])),(2,1,(cI (-1)))]),
uO 2 (.bsl false (some 4) 1 (.agg [.int .i64 0,.str [],.int .i64 0,.int .i64 0]) [(0,1)]),
uO 3 (.build [.p (.str []),.sl0 (some 4)] [(0,1,(cS [117])),(1,1,2)]),
uO 4 (.bsl false (some 2) 1 (.agg [.str [],.sl (some 4) []]) [(0,3)]),
uO 5 (.build [.p (.str []),.p (.str []),.p (.str [])] [(0,1,(cS [110])),(1,1,(cS [117])),(2,1,(cS [97]))]),
uO 6 (.bsl false (some 3) 1 (.agg [.str [],.str [],.str []]) [(0,5)]),
uO 7 (.build [.sl0 (some 2),.sl0 (some 3),.sl0 (some 2)] [(0,1,4),(1,1,6)]),
wO (.store (some 3) 0 7)] [0])
.ret))
def a_q02h : AFun:=⟨0,[.cell 0 (some 3)],P_q02h,false,false⟩
def zoA : ACode:=.pr [0,1,2,8,9,10] (.seq (.seq (rg [mV 15 9,
mV 16 10,
bN 17 .lss 15 16] [0,1,2,8,9,10,17])
(.cond 17 .skip
(.exit 0)))
(.block 1 (.seq (rg [mV 18 9,
mV 19 10,
bN 20 .add 18 19,
uO 21 (.conv (.i .u64) 20),
bN 22 .shr 21 (.c (.p (.int .u64 1))),
uO 23 (.conv (.i .i64) 22),
mV 11 23] [0,1,2,8,9,10,11])
(.seq (rg [mV 24 2,
mV 25 0,
mV 26 11,
iA 27 (some 2) 25 26,
lD 28 (some 2) 27,
mV 29 1,
uO 30 (.callv 24 [28,29]),
bN 31 .lss 30 (cI 0)] [0,1,2,8,9,10,11,31])
(.cond 31 (rg [mV 32 11,
bN 33 .add 32 (cI 1),
mV 9 33] [0,1,2,8,9,10])
(rg [mV 34 11,
mV 10 34] [0,1,2,8,9,10]))))))
def zoB : ACode:=.pr [0,1,2,8,9] (.seq (rg [mV 35 9,
mV 36 9,
mV 37 8,
bN 38 .lss 36 37,
mV 39 38,
gD 40 39 true (.mv 2),
gD 41 39 true (.mv 0),
gD 42 39 true (.mv 9),
gD 43 39 true (.iaddr (some 2) 41 42),
gD 44 39 true (.load (some 2) 43),
gD 45 39 true (.mv 1),
gD 46 39 true (.callv 40 [44,45]),
gD 47 39 true (.bin .eql 46 (cI 0)),
uO 48 (.pick 39 47 cF),
mV 6 35,
mV 7 48] [6,7])
.ret)
def P_q03t (q1 q2 : ACode) : ACode:=(.seq (rg [mV 6 (cI 0),
mV 7 cF] [0,1,2])
(.seq (rg [mV 12 0,
lN 13 12,
mV 8 13] [0,1,2,8])
(.seq (rg [mV 14 8,
mV 9 (cI 0),
mV 10 14] [0,1,2,8,9,10])
(.seq (.block 0 (.loop q1))
q2))))
def a_q03t : AFun:=⟨3,[.t 6,.t 7],P_q03t zoA zoB,false,false⟩
def zoC : ACode:=.pr [0,3,4,5] (rg [mV 33 5,
bN 34 .add 33 (cI 1),
mV 5 34] [0,3,4,5])
def ziS (q1 : ACode) : ACode:=.pr [0,3,4,5] (.seq (.seq (rg [mV 29 5,
mV 30 4,
lN 31 30,
bN 32 .lss 29 31] [0,3,4,5,32])
(.cond 32 .skip
(.exit 2)))
(.seq (.block 3 (.seq (dr [dF (mV 35 4) [4],
dF (mV 36 5) [5],
dF (iA 37 none 35 36) [35,36],
dF (lD 38 none 37) [37],
dF (mV 39 4) [4],
dF (mV 40 5) [5],
dF (bN 41 .sub 40 (cI 1)) [40],
dF (iA 42 none 39 41) [39,41],
dF (lD 43 none 42) [42],
dF (bN 44 .neq 38 43) [38,43]] [0,3,4,5,44])
(.cond 44 (.seq (rg [mV 45 0,
mV 46 3,
mV 47 4,
mV 48 5,
iA 49 none 47 48,
lD 50 none 49,
iA 51 none 45 46,
wO (.store none 51 50)] [0,3,4,5])
(rg [mV 52 3,
bN 53 .add 52 (cI 1),
mV 3 53] [0,3,4,5]))
.skip)))
q1))
def zoD : ACode:=ziS zoC
def zoE : ACode:=.pr [0,3] (.seq (rg [mV 54 0,
mV 55 3,
uO 56 (.slice none 54 (some 55) none none),
wO (.clr none (.str []) 56)] [0,3])
(.seq (rg [mV 57 0,
mV 58 3,
uO 59 (.slice none 57 none (some 58) none),
mV 2 59] [2])
.ret))
def zoF : ACode:=.pr [0,3] (rg [mV 14 3,
bN 15 .add 14 (cI 1),
mV 3 15] [0,3])
def ziT (q2 q3 q4 : ACode) : ACode:=.pr [0,3] (.seq (.seq (rg [mV 10 3,
mV 11 0,
lN 12 11,
bN 13 .lss 10 12] [0,3,13])
(.cond 13 .skip
(.exit 0)))
(.seq (.block 1 (.seq (dr [dF (mV 16 0) [0],
dF (mV 17 3) [3],
dF (iA 18 none 16 17) [16,17],
dF (lD 19 none 18) [18],
dF (mV 20 0) [0],
dF (mV 21 3) [3],
dF (bN 22 .sub 21 (cI 1)) [21],
dF (iA 23 none 20 22) [20,22],
dF (lD 24 none 23) [23],
dF (bN 25 .eql 19 24) [19,24]] [0,3,25])
(.cond 25 (.seq (rg [mV 26 0,
mV 27 3,
uO 28 (.slice none 26 (some 27) none none),
mV 4 28] [0,3,4])
(.seq (.seq (rg [mV 5 (cI 1)] [0,3,4,5])
(.block 2 (.loop q2)))
q3))
.skip)))
q4))
def zoG : ACode:=ziT zoD zoE zoF
def zoH : ACode:=.pr [0] (.seq (rg [mV 60 0,
mV 2 60] [2])
.ret)
def P_q03u (q5 q6 : ACode) : ACode:=(.seq (rg [mV 2 (.c (.p (.sl none [])))] [0])
(.seq (.seq (rg [mV 6 0,
lN 7 6,
bN 8 .lss 7 (cI 2)] [0,8])
(.cond 8 (.seq (rg [mV 9 0,
mV 2 9] [2])
.ret)
.skip))
(.seq (.seq (rg [mV 3 (cI 1)] [0,3])
(.block 0 (.loop q5)))
q6)))
def a_q03u : AFun:=⟨1,[.t 2],P_q03u zoG zoH,true,false⟩
def P_q03v : ACode:=(.seq (rg [mV 4 cF] [0,1])
(.seq (rg [mV 5 0,
mV 6 1,
cL 7 ztT [5,6],
bN 8 .geq 7 (cI 0),
mV 4 8] [4])
.ret))
def a_q03v : AFun:=⟨2,[.t 4],P_q03v,true,false⟩
def P_q03w : ACode:=(.seq (rg [mV 4 cF] [0,1])
(.seq (rg [mV 5 0,
mV 6 1,
cL 7 ztU [5,6],
bN 8 .geq 7 (cI 0),
mV 4 8] [4])
.ret))
def a_q03w : AFun:=⟨2,[.t 4],P_q03w,true,false⟩
def P_q03y : ACode:=(.seq (rg [mV 4 cF] [0,1])
(.seq (rg [mV 5 0,
mV 6 1,
cL 7 zmq [5,6],
bN 8 .geq 7 (cI 0),
mV 4 8] [4])
.ret))
def a_q03y : AFun:=⟨2,[.t 4],P_q03y,true,false⟩
end Go.Am
end
section
/- The functions asv abstract code,and asv formulas over their values: printed by program out of the translation. -/
set_option linter.unusedVariables false
set_option maxRecDepth 100000
namespace Go.Am
def zoI : ACode:=.pr [0,1,7,8] (.seq (rg [bN 9 .lss 8 7] [0,1,7,8,9])
(.seq (.cond 9 .skip
(.exit 0))
(.seq (.block 1 (.seq (rg [mV 10 8,
mV 5 10] [0,1,5,7,8])
(.seq (rg [mV 11 1,
mV 12 0,
mV 13 5,
iA 14 (some 4) 12 13,
lD 15 (some 4) 14,
uO 16 (.callv 11 [15])] [0,1,5,7,8,16])
(.cond 16 (.seq (rg [mV 17 5,
mV 4 17] [4])
.ret)
.skip))))
(rg [bN 18 .add 8 (cI 1),
mV 8 18] [0,1,7,8]))))
def zoJ : ACode:=.pr [] (.seq (rg [mV 4 (cI (-1))] [4])
.ret)
def P_q042 (q1 q2 : ACode) : ACode:=(.seq (rg [mV 4 (cI 0)] [0,1])
(.seq (.seq (rg [mV 6 0,
lN 7 6,
mV 8 (cI 0)] [0,1,7,8])
(.block 0 (.loop q1)))
q2))
def a_q042 : AFun:=⟨2,[.t 4],P_q042 zoI zoJ,true,false⟩
def zoK : ACode:=.pr [0,1,7,8] (.seq (rg [bN 9 .lss 8 7] [0,1,7,8,9])
(.seq (.cond 9 .skip
(.exit 0))
(.seq (.block 1 (.seq (rg [mV 10 8,
mV 5 10] [0,1,5,7,8])
(.seq (rg [mV 11 1,
mV 12 0,
mV 13 5,
iA 14 none 12 13,
lD 15 none 14,
uO 16 (.callv 11 [15])] [0,1,5,7,8,16])
(.cond 16 (.seq (rg [mV 17 5,
mV 4 17] [4])
.ret)
.skip))))
(rg [bN 18 .add 8 (cI 1),
mV 8 18] [0,1,7,8]))))
def zoL : ACode:=.pr [] (.seq (rg [mV 4 (cI (-1))] [4])
.ret)
def P_q043 (q1 q2 : ACode) : ACode:=(.seq (rg [mV 4 (cI 0)] [0,1])
(.seq (.seq (rg [mV 6 0,
lN 7 6,
mV 8 (cI 0)] [0,1,7,8])
(.block 0 (.loop q1)))
q2))
def a_q043 : AFun:=⟨2,[.t 4],P_q043 zoK zoL,true,false⟩
def zoM : ACode:=.pr [0,1,7,8] (.seq (rg [bN 9 .lss 8 7] [0,1,7,8,9])
(.seq (.cond 9 .skip
(.exit 0))
(.seq (.block 1 (.seq (rg [mV 10 8,
mV 5 10] [0,1,5,7,8])
(.seq (rg [mV 11 1,
mV 12 0,
mV 13 5,
iA 14 none 12 13,
lD 15 none 14,
bN 16 .eql 11 15] [0,1,5,7,8,16])
(.cond 16 (.seq (rg [mV 17 5,
mV 4 17] [4])
.ret)
.skip))))
(rg [bN 18 .add 8 (cI 1),
mV 8 18] [0,1,7,8]))))
def zoN : ACode:=.pr [] (.seq (rg [mV 4 (cI (-1))] [4])
.ret)
def P_q045 (q1 q2 : ACode) : ACode:=(.seq (rg [mV 4 (cI 0)] [0,1])
(.seq (.seq (rg [mV 6 0,
lN 7 6,
mV 8 (cI 0)] [0,1,7,8])
(.block 0 (.loop q1)))
q2))
def a_q045 : AFun:=⟨2,[.t 4],P_q045 zoM zoN,true,false⟩
def zoO : ACode:=.pr [0,9,10,11] (.seq (rg [bN 12 .lss 11 10] [0,9,10,11,12])
(.seq (.cond 12 .skip
(.exit 0))
(.seq (.block 1 (.seq (rg [mV 13 11,
iA 14 (some 8) 9 11,
lD 15 (some 8) 14,
uO 4 (.alloc [.p (.str []),.p (.int .i64 0),.p (.int .i64 0),.p (.int .i64 0),.p (.str []),.p (.str []),.p (.str []),.p (.int .i64 0)]),
mV 3 13,
wO (.store (some 8) 4 15)] [0,3,4,9,10,11])
(.seq (.seq (rg [lD 16 (some 8) 4,
cL 17 zua [16],
mV 5 17] [0,3,4,5,9,10,11])
(.seq (rg [mV 18 5,
bN 19 .neq 18 (cI 0)] [0,3,4,5,9,10,11,19])
(.cond 19 (.seq (rg [mV 20 5,
mV 2 20] [2])
.ret)
.skip)))
(.seq (dr [dF (mV 21 3) [3],
dF (bN 22 .gtr 21 (cI 0)) [21],
dF (mV 23 22) [22],
dF (gD 24 23 true (.load (some 8) 4)) [4,23],
dF (gD 25 23 true (.mv 0)) [0,23],
dF (gD 26 23 true (.mv 3)) [3,23],
dF (gD 27 23 true (.bin .sub 26 (cI 1))) [26,23],
dF (gD 28 23 true (.iaddr (some 8) 25 27)) [25,27,23],
dF (gD 29 23 true (.load (some 8) 28)) [28,23],
dT (gD 30 23 true (.call ztY [24,29])) [24,29,23],
dF (gD 31 23 true (.bin .leq 30 (cI 0))) [30,23],
dF (uO 32 (.pick 23 31 cF)) [23,31]] [0,9,10,11,32])
(.cond 32 (.seq (rg [mV 2 (cI 7)] [2])
.ret)
.skip)))))
(rg [bN 33 .add 11 (cI 1),
mV 11 33] [0,9,10,11]))))
def zoP : ACode:=.pr [0] (.seq (.seq (rg [mV 34 0,
cL 35 zui [34]] [35])
(.cond 35 (.seq (rg [mV 2 (cI 6)] [2])
.ret)
.skip))
(.seq (rg [mV 2 (cI 0)] [2])
.ret))
def P_q046 (q1 q2 : ACode) : ACode:=(.seq (rg [mV 2 (cI 0)] [0])
(.seq (.seq (rg [mV 6 0,
lN 7 6,
bN 8 .gtr 7 (cI 2000)] [0,8])
(.cond 8 (.seq (rg [mV 2 (cI 2)] [2])
.ret)
.skip))
(.seq (.seq (rg [mV 9 0,
lN 10 9,
mV 11 (cI 0)] [0,9,10,11])
(.block 0 (.loop (.scope q1))))
q2)))
def a_q046 : AFun:=⟨1,[.t 2],P_q046 zoO zoP,false,false⟩
def zoQ : ACode:=.pr [1,16,17,18] (.seq (rg [bN 19 .lss 18 17] [1,16,17,18,19])
(.seq (.cond 19 .skip
(.exit 1))
(.seq (.block 2 (.seq (rg [mV 20 18,
iA 21 none 16 18,
lD 22 none 21,
mV 3 20,
mV 4 22] [1,3,4,16,17,18])
(.block 3 (.seq (rg [mV 24 4,
cL 25 z4O [24],
uO 26 (.un .not 25),
mV 23 26] [1,3,4,16,17,18,23])
(.cond 23 (.seq (rg [mV 2 (cI 5)] [2])
.ret)
(.seq (rg [fA 28 0 none 1,
lD 29 none 28,
mV 30 3,
uO 31 (.slice none 29 none (some 30) none),
mV 32 4,
cL 33 zmp [31,32],
mV 27 33] [1,16,17,18,27])
(.cond 27 (.seq (rg [mV 2 (cI 6)] [2])
.ret)
.skip)))))))
(rg [bN 34 .add 18 (cI 1),
mV 18 34] [1,16,17,18]))))
def zoR : ACode:=.pr [1] (.seq (.seq (rg [fA 35 1 none 1,
lD 36 none 35,
cL 37 z1d [36,(cI 1),(cI 10)]] [37])
(.cond 37 (.seq (rg [mV 2 (cI 1)] [2])
.ret)
.skip))
(.seq (rg [mV 2 (cI 0)] [2])
.ret))
def P_q047 (q1 q2 : ACode) : ACode:=(.seq (rg [uO 1 (.box 0),
mV 2 (cI 0)] [1])
(.seq (.block 0 (.seq (rg [fA 6 0 none 1,
lD 7 none 6,
lN 8 7,
bN 9 .eql 8 (cI 0),
mV 5 9] [1,5])
(.cond 5 (.seq (rg [mV 2 (cI 8)] [2])
.ret)
(.seq (rg [fA 11 0 none 1,
lD 12 none 11,
lN 13 12,
bN 14 .gtr 13 (cI 20),
mV 10 14] [1,10])
(.cond 10 (.seq (rg [mV 2 (cI 2)] [2])
.ret)
.skip)))))
(.seq (.seq (rg [fA 15 0 none 1,
lD 16 none 15,
lN 17 16,
mV 18 (cI 0)] [1,16,17,18])
(.block 1 (.loop q1)))
q2)))
def a_q047 : AFun:=⟨1,[.t 2],P_q047 zoQ zoR,false,false⟩
def P_q048 : ACode:=(.seq (rg [uO 4 (.box 0),
uO 8 (.alloc [.p (.int .i64 0),.p (.int .i64 0),.p (.str []),.p (.str []),.p (.int .i64 0)]),
mV 9 (cI 0)] [1,2,3,4,8])
(.seq (.seq (rg [lD 12 (some 2) 4,
mV 13 1,
mV 14 3,
cL 15 zub [12,13,14],
mV 10 15] [1,2,3,4,8,10])
(.seq (rg [mV 16 10,
bN 17 .neq 16 (cI 0)] [1,2,3,4,8,10,17])
(.cond 17 (.seq (rg [uO 18 (.build [.p (.int .i64 0),.p (.int .i64 0),.p (.str []),.p (.str []),.p (.int .i64 0)] []),
mV 19 10,
wO (.store (some 5) 8 18),
mV 9 19] [8,9])
.ret)
.skip)))
(.seq (.seq (rg [mV 20 2,
cL 21 z4O [20],
uO 22 (.un .not 21)] [1,2,3,4,8,22])
(.cond 22 (.seq (rg [uO 23 (.build [.p (.int .i64 0),.p (.int .i64 0),.p (.str []),.p (.str []),.p (.int .i64 0)] []),
wO (.store (some 5) 8 23),
mV 9 (cI 5)] [8,9])
.ret)
.skip))
(.seq (dr [dF (lD 24 (some 2) 4) [4],
dF (mV 25 1) [1],
dF (mV 26 3) [3],
dA (cL 27 zuj [25,26]) [25,26] true [] [0],
dT (cL 28 zug [24,27]) [24,27],
dF (uO 29 (.nilchk 28)) [28],
dF (fA 30 2 none 29) [29],
dF (lD 31 none 30) [30],
dF (mV 32 2) [2],
dF (uO 33 (.look (none,[2]) false (.nilp) 31 32)) [31,32],
dF (mV 11 33) [33]] [8,11])
(.seq (.seq (rg [mV 34 11,
uO 35 (.isnil 0 false 34)] [8,11,35])
(.cond 35 (.seq (rg [uO 36 (.build [.p (.int .i64 0),.p (.int .i64 0),.p (.str []),.p (.str []),.p (.int .i64 0)] []),
wO (.store (some 5) 8 36),
mV 9 (cI 8)] [8,9])
.ret)
.skip))
(.seq (rg [mV 37 11,
uO 38 (.nilchk 37),
lD 39 (some 5) 38,
wO (.store (some 5) 8 39),
mV 9 (cI 0)] [8,9])
.ret))))))
def a_q048 : AFun:=⟨4,[.cell 8 (some 5),.t 9],P_q048,false,false⟩
def P_q049 : ACode:=(.seq (rg [uO 2 (.box 0),
uO 3 (.box 1),
mV 4 (cI 0)] [2,3])
(.seq (dr [dF (fA 5 2 none 2) [2],
dF (lD 6 none 5) [5],
dF (fA 7 2 none 3) [3],
dF (lD 8 none 7) [7],
dT (cL 9 zml [6,8]) [6,8],
dF (fA 10 0 none 2) [2],
dA (lD 11 none 10) [10] false [4] [],
dF (fA 12 0 none 3) [3],
dA (lD 13 none 12) [12] false [4] [],
dT (cL 14 z94 [11,13]) [11,13],
dF (fA 15 1 none 2) [2],
dA (lD 16 none 15) [15] false [4,9] [],
dF (fA 17 1 none 3) [3],
dA (lD 18 none 17) [17] false [4,9] [],
dT (cL 19 zml [16,18]) [16,18],
dF (uO 20 (.bsl false none 3 (.int .i64 0) [(0,9),(1,14),(2,19)])) [9,14,19],
dT (cL 21 zmm [20]) [20],
dF (mV 4 21) [21]] [4])
.ret))
def a_q049 : AFun:=⟨2,[.t 4],P_q049,false,false⟩
def zoS : ACode:=.pr [0,3,4,5] (rg [mV 16 5,
bN 17 .sub 16 (cI 1),
mV 5 17] [0,3,4,5])
def ziU (q1 : ACode) : ACode:=.pr [0,3,4,5] (.seq (.seq (rg [mV 14 5,
bN 15 .geq 14 (cI 0)] [0,3,4,5,15])
(.cond 15 .skip
(.exit 0)))
(.seq (.block 1 (.seq (rg [mV 18 0,
mV 19 5,
iA 20 (some 8) 18 19,
lD 21 (some 8) 20,
uO 6 (.alloc [.p (.str []),.p (.int .i64 0),.p (.int .i64 0),.p (.int .i64 0),.p (.str []),.p (.str []),.p (.str []),.p (.int .i64 0)]),
wO (.store (some 8) 6 21)] [0,3,4,5,6])
(.seq (rg [mV 22 4,
mV 23 5,
mV 24 3,
fA 25 0 none 6,
lD 26 none 25,
fA 27 1 none 6,
lD 28 none 27,
uO 29 (.build [.p (.str []),.p (.int .i64 0)] [(0,1,26),(1,1,28)]),
uO 30 (.look ((some 2),[2,0]) false (AB false) 24 29),
uO 31 (.un .not 30),
iA 32 none 22 23,
wO (.store none 32 31)] [0,3,4,5,6])
(.seq (rg [mV 33 4,
mV 34 5,
iA 35 none 33 34,
lD 36 none 35,
mV 37 36,
gD 38 37 true (.faddr 3 none 6),
gD 39 37 true (.load none 38),
gD 40 37 true (.bin .eql 39 (cI 7)),
uO 41 (.pick 37 40 cF)] [0,3,4,5,6,41])
(.cond 41 (rg [mV 42 3,
fA 43 6 none 6,
lD 44 none 43,
fA 45 7 none 6,
lD 46 none 45,
uO 47 (.build [.p (.str []),.p (.int .i64 0)] [(0,1,44),(1,1,46)]),
wO (.mupd ((some 2),[2,0]) 42 47 cT)] [0,3,4,5])
.skip)))))
q1))
def zoT : ACode:=ziU zoS
def zoU : ACode:=.pr [4] (.seq (rg [mV 48 4,
mV 2 48] [2])
.ret)
def P_q04a (q2 q3 : ACode) : ACode:=(.seq (rg [mV 2 (.c (.p (.sl none [])))] [0])
(.seq (rg [uO 7 (.mkmap),
mV 3 7] [0,3])
(.seq (rg [mV 8 0,
lN 9 8,
uO 10 (.mksl none (.bool false) 9 9),
mV 4 10] [0,3,4])
(.seq (.seq (rg [mV 11 0,
lN 12 11,
bN 13 .sub 12 (cI 1),
mV 5 13] [0,3,4,5])
(.block 0 (.loop (.scope q2))))
q3))))
def a_q04a : AFun:=⟨1,[.t 2],P_q04a zoT zoU,false,false⟩
def P_q04b : ACode:=(.seq (rg [uO 1 (.box 0),
mV 2 (cI 0)] [1])
(.seq (dr [dF (fA 5 3 none 1) [1],
dF (lD 6 none 5) [5],
dF (bN 7 .eql 6 (cI 7)) [6],
dF (fA 8 3 none 1) [1],
dF (lD 9 none 8) [8],
dF (bN 10 .eql 9 (cI 2)) [9],
dF (mV 3 7) [7],
dF (mV 4 10) [10]] [1,3,4])
(.seq (.block 0 (.seq (rg [fA 12 0 none 1,
lD 13 none 12,
cL 14 z4O [13],
uO 15 (.un .not 14),
mV 11 15] [1,3,4,11])
(.cond 11 (.seq (rg [mV 2 (cI 5)] [2])
.ret)
(.seq (rg [fA 17 1 none 1,
lD 18 none 17,
cL 19 z1d [18,(cI 1),(cI 1000000)],
mV 20 19,
gD 21 20 false (.faddr 2 none 1),
gD 22 20 false (.load none 21),
gD 23 20 false (.call zmk [22]),
gD 24 20 false (.un .not 23),
uO 25 (.pick 20 cT 24),
mV 16 25] [1,3,4,16])
(.cond 16 (.seq (rg [mV 2 (cI 1)] [2])
.ret)
(.seq (rg [fA 27 3 none 1,
lD 28 none 27,
cL 29 z1d [28,(cI 1),(cI 7)],
mV 26 29] [1,3,4,26])
(.cond 26 (.seq (rg [mV 2 (cI 4)] [2])
.ret)
(.seq (rg [mV 31 3,
uO 32 (.un .not 31),
mV 33 32,
gD 34 33 true (.faddr 4 none 1),
gD 35 33 true (.load none 34),
gD 36 33 true (.call z4O [35]),
gD 37 33 true (.un .not 36),
uO 38 (.pick 33 37 cF),
mV 39 38,
gD 40 39 false (.mv 4),
gD 41 39 false (.mv 40),
gD 42 41 true (.faddr 5 none 1),
gD 43 41 true (.load none 42),
gD 44 41 true (.call z4O [43]),
gD 45 41 true (.un .not 44),
gD 46 39 false (.pick 41 45 cF),
uO 47 (.pick 39 cT 46),
mV 48 47,
gD 49 48 false (.mv 3),
gD 50 48 false (.mv 49),
gD 51 50 true (.faddr 6 none 1),
gD 52 50 true (.load none 51),
gD 53 50 true (.call z4O [52]),
gD 54 50 true (.un .not 53),
gD 55 48 false (.pick 50 54 cF),
uO 56 (.pick 48 cT 55),
mV 30 56] [1,3,4,30])
(.cond 30 (.seq (rg [mV 2 (cI 5)] [2])
.ret)
(.seq (rg [mV 58 3,
mV 59 58,
gD 60 59 true (.faddr 7 none 1),
gD 61 59 true (.load none 60),
gD 62 59 true (.call z1d [61,(cI 1),(cI 1000000)]),
uO 63 (.pick 59 62 cF),
mV 57 63] [1,3,4,57])
(.cond 57 (.seq (rg [mV 2 (cI 1)] [2])
.ret)
(.seq (rg [mV 65 3,
mV 66 65,
gD 67 66 true (.faddr 4 none 1),
gD 68 66 true (.load none 67),
gD 69 66 true (.bin .neq 68 (cS [])),
uO 70 (.pick 66 69 cF),
mV 71 70,
gD 72 71 false (.mv 4),
gD 73 71 false (.un .not 72),
gD 74 71 false (.mv 73),
gD 75 74 true (.faddr 5 none 1),
gD 76 74 true (.load none 75),
gD 77 74 true (.bin .neq 76 (cS [])),
gD 78 71 false (.pick 74 77 cF),
uO 79 (.pick 71 cT 78),
mV 80 79,
gD 81 80 false (.mv 3),
gD 82 80 false (.un .not 81),
gD 83 80 false (.mv 82),
gD 84 83 true (.faddr 6 none 1),
gD 85 83 true (.load none 84),
gD 86 83 true (.bin .neq 85 (cS [])),
gD 87 83 true (.mv 86),
gD 88 87 false (.faddr 7 none 1),
gD 89 87 false (.load none 88),
gD 90 87 false (.bin .neq 89 (cI 0)),
gD 91 83 true (.pick 87 cT 90),
gD 92 80 false (.pick 83 91 cF),
uO 93 (.pick 80 cT 92),
mV 64 93] [64])
(.cond 64 (.seq (rg [mV 2 (cI 3)] [2])
.ret)
.skip)))))))))))))
(.seq (rg [mV 2 (cI 0)] [2])
.ret))))
def a_q04b : AFun:=⟨1,[.t 2],P_q04b,false,false⟩
def P_q04c : ACode:=(.seq (rg [uO 3 (.box 0),
mV 6 (cI 0)] [1,2,3])
(.seq (rg [lD 7 (some 2) 3,
cL 8 ztW [7],
mV 9 1,
cL 10 ztV [9],
mV 11 2,
cL 12 zuh [11],
uO 13 (.bsl false none 3 (.int .i64 0) [(0,8),(1,10),(2,12)]),
cL 14 z6J [13],
mV 6 14] [6])
.ret))
def a_q04c : AFun:=⟨3,[.t 6],P_q04c,false,false⟩
def P_q04d : ACode:=(.seq (rg [mV 4 (cI 0)] [0,1])
(.seq (rg [mV 5 0,
uO 6 (.nilchk 5),
fA 7 0 (some 2) 6,
fA 8 0 none 7,
lD 9 none 8,
mV 10 1,
cL 11 zmq [9,10],
mV 4 11] [4])
.ret))
def a_q04d : AFun:=⟨2,[.t 4],P_q04d,false,false⟩
def zoV : ACode:=.pr [] (.seq (rg [mV 6 (cI 0)] [6])
.ret)
def zoW : ACode:=.pr [] (.seq (rg [mV 6 (cI 0)] [6])
.ret)
def ziV (q2 : ACode) : ACode:=.pr [0,1] (.seq (rg [mV 98 1,
uO 99 (.nilchk 98),
fA 100 4 none 99,
lD 101 none 100,
bN 102 .add 101 (cI 1),
uO 103 (.nilchk 98),
fA 104 4 none 103,
wO (.store none 104 102)] [0,1])
(.seq (rg [mV 105 1,
uO 106 (.nilchk 105),
fA 107 0 none 106,
wO (.store none 107 (cI 3))] [0,1])
(.seq (.seq (dr [dF (mV 108 1) [1],
dF (uO 109 (.nilchk 108)) [108],
dF (fA 110 4 none 109) [109],
dF (lD 111 none 110) [110],
dF (mV 112 0) [0],
dF (uO 113 (.nilchk 112)) [112],
dF (fA 114 0 (some 2) 113) [113],
dF (fA 115 1 none 114) [114],
dF (lD 116 none 115) [115],
dF (bN 117 .eql 111 116) [111,116]] [1,117])
(.cond 117 (rg [mV 118 1,
uO 119 (.nilchk 118),
fA 120 0 none 119,
wO (.store none 120 (cI 5))] [])
.skip))
q2)))
def zoX : ACode:=ziV zoW
def P_q04e (q1 q3 : ACode) : ACode:=(.seq (rg [uO 5 (.box 2),
mV 6 (cI 0)] [0,1,5])
(.seq (.block 0 (.seq (rg [mV 10 1,
uO 11 (.nilchk 10),
fA 12 0 none 11,
lD 13 none 12,
bN 14 .neq 13 (cI 2),
mV 9 14] [0,1,5,9])
(.cond 9 (.seq (rg [mV 6 (cI 11)] [6])
.ret)
(.seq (dr [dF (mV 16 1) [1],
dF (uO 17 (.nilchk 16)) [16],
dF (fA 18 3 none 17) [17],
dF (lD 19 none 18) [18],
dF (fA 20 0 none 5) [5],
dF (lD 21 none 20) [20],
dF (bN 22 .neq 19 21) [19,21],
dF (mV 15 22) [22]] [0,1,5,15])
(.cond 15 (.seq (rg [mV 6 (cI 13)] [6])
.ret)
.skip)))))
(.seq (rg [fA 23 3 none 5,
lD 24 none 23,
bN 25 .eql 24 (cI 3),
mV 7 25] [0,1,5,7])
(.seq (dr [dF (mV 26 0) [0],
dF (mV 27 0) [0],
dF (uO 28 (.nilchk 27)) [27],
dF (fA 29 4 none 28) [28],
dF (lD 30 none 29) [29],
dF (fA 31 4 none 5) [5],
dF (lD 32 none 31) [31],
dF (mV 33 1) [1],
dF (uO 34 (.nilchk 33)) [33],
dF (fA 35 2 none 34) [34],
dF (lD 36 none 35) [35],
dF (mV 37 1) [1],
dF (uO 38 (.nilchk 37)) [37],
dF (fA 39 1 none 38) [38],
dF (lD 40 none 39) [39],
dF (fA 41 2 none 5) [5],
dF (lD 42 none 41) [41],
dF (mV 43 7) [7],
dF (uO 44 (.build [.p (.str []),.p (.str []),.p (.int .i64 0),.p (.int .i64 0),.p (.bool false)] [(0,1,32),(1,1,36),(2,1,40),(3,1,42),(4,1,43)])) [32,36,40,42,43],
dF (uO 45 (.bsl false (some 5) 1 (.agg [.str [],.str [],.int .i64 0,.int .i64 0,.bool false]) [(0,44)])) [44],
dT (uO 46 (.app (some 5) 30 45)) [30,45],
dF (uO 47 (.nilchk 26)) [26],
dF (fA 48 4 none 47) [47],
dT (wO (.store none 48 46)) [48,46]] [0,1,5,7])
(.seq (rg [mV 49 0,
mV 50 1,
fA 51 2 none 5,
lD 52 none 51,
cL 53 zmr [49,50,52]] [0,1,5,7])
(.seq (rg [mV 54 1,
fA 55 2 none 5,
lD 56 none 55,
uO 57 (.nilchk 54),
fA 58 1 none 57,
wO (.store none 58 56)] [0,1,7])
(.seq (.seq (rg [mV 59 7] [0,1,59])
(.cond 59 (.seq (rg [mV 60 1,
uO 61 (.nilchk 60),
fA 62 4 none 61,
wO (.store none 62 (cI 0))] [0,1])
(.seq (rg [mV 63 0,
mV 64 1,
uO 65 (.nilchk 64),
fA 66 2 none 65,
lD 67 none 66,
cL 68 zuc [63,67],
bN 69 .add 68 (cI 1),
mV 8 69] [0,1,8])
(.seq (.seq (rg [mV 70 8,
mV 71 0,
uO 72 (.nilchk 71),
fA 73 0 (some 2) 72,
fA 74 0 none 73,
lD 75 none 74,
lN 76 75,
bN 77 .eql 70 76] [0,1,8,77])
(.cond 77 (rg [mV 78 1,
mV 79 1,
uO 80 (.nilchk 78),
fA 81 0 none 80,
wO (.store none 81 (cI 4)),
uO 82 (.nilchk 79),
fA 83 2 none 82,
wO (.store none 83 (cS []))] [])
(rg [mV 84 1,
mV 85 1,
mV 86 0,
uO 87 (.nilchk 86),
fA 88 0 (some 2) 87,
fA 89 0 none 88,
lD 90 none 89,
mV 91 8,
iA 92 none 90 91,
lD 93 none 92,
uO 94 (.nilchk 84),
fA 95 0 none 94,
wO (.store none 95 (cI 1)),
uO 96 (.nilchk 85),
fA 97 2 none 96,
wO (.store none 97 93)] [])))
q1)))
.skip))
q3)))))))
def a_q04e : AFun:=⟨3,[.t 6],P_q04e zoV zoX,false,false⟩
def zoY : ACode:=.pr [0,1,2,11,12] (rg [bN 47 .add 12 (cI 1),
mV 12 47] [0,1,2,11,12])
def ziW (q1 : ACode) : ACode:=.pr [0,1,2,11,12] (.seq (rg [bN 13 .lss 12 11] [0,1,2,11,12,13])
(.seq (.cond 13 .skip
(.exit 0))
(.seq (.block 1 (.seq (rg [mV 14 12,
mV 6 14] [0,1,2,6,11,12])
(.seq (dr [dF (mV 15 0) [0],
dF (uO 16 (.nilchk 15)) [15],
dF (fA 17 5 none 16) [16],
dF (lD 18 none 17) [17],
dF (mV 19 6) [6],
dF (iA 20 (some 3) 18 19) [18,19],
dF (fA 21 0 none 20) [20],
dF (lD 22 none 21) [21],
dF (mV 23 1) [1],
dF (uO 24 (.nilchk 23)) [23],
dF (fA 25 3 none 24) [24],
dF (lD 26 none 25) [25],
dF (bN 27 .eql 22 26) [22,26],
dF (mV 28 27) [27],
dF (gD 29 28 true (.mv 0)) [0,28],
dF (gD 30 28 true (.nilchk 29)) [29,28],
dF (gD 31 28 true (.faddr 5 none 30)) [30,28],
dF (gD 32 28 true (.load none 31)) [31,28],
dF (gD 33 28 true (.mv 6)) [6,28],
dF (gD 34 28 true (.iaddr (some 3) 32 33)) [32,33,28],
dF (gD 35 28 true (.faddr 2 none 34)) [34,28],
dF (gD 36 28 true (.load none 35)) [35,28],
dF (gD 37 28 true (.bin .lss 36 (cI 0))) [36,28],
dF (uO 38 (.pick 28 37 cF)) [28,37]] [0,1,2,6,11,12,38])
(.cond 38 (rg [mV 39 0,
uO 40 (.nilchk 39),
fA 41 5 none 40,
lD 42 none 41,
mV 43 6,
mV 44 2,
iA 45 (some 3) 42 43,
fA 46 2 none 45,
wO (.store none 46 44)] [0,1,2,11,12])
.skip))))
q1)))
def zoZ : ACode:=ziW zoY
def zpa : ACode:=.pr [0,1] (.seq (dr [dF (mV 48 0) [0],
dF (uO 49 (.nilchk 48)) [48],
dF (fA 50 3 none 49) [49],
dF (lD 51 none 50) [50],
dF (mV 52 1) [1],
dF (uO 53 (.nilchk 52)) [52],
dF (fA 54 3 none 53) [53],
dF (lD 55 none 54) [54],
dT (wO (.mdel (none,[2]) 51 55)) [51,55]] [1])
(rg [mV 56 1,
uO 57 (.nilchk 56),
fA 58 3 none 57,
wO (.store none 58 (cS []))] []))
def P_q04f (q2 q3 : ACode) : ACode:=(.seq (.seq (rg [mV 7 0,
uO 8 (.nilchk 7),
fA 9 5 none 8,
lD 10 none 9,
lN 11 10,
mV 12 (cI 0)] [0,1,2,11,12])
(.block 0 (.loop q2)))
q3)
def a_q04f : AFun:=⟨3,[],P_q04f zoZ zpa,false,false⟩
def P_q04g : ACode:=(.seq (rg [uO 5 (.box 2),
mV 6 (cI 0)] [0,1,5])
(.seq (dr [dF (mV 10 0) [0],
dF (uO 11 (.nilchk 10)) [10],
dF (fA 12 3 none 11) [11],
dF (lD 13 none 12) [12],
dF (fA 14 0 none 5) [5],
dF (lD 15 none 14) [14],
dF (uO 16 (.look (none,[2]) true (.p (.str [])) 13 15)) [13,15],
dF (mV 9 16) [16],
dF (eX 17 9 0) [9],
dF (eX 18 9 1) [9],
dF (mV 7 17) [17],
dF (mV 8 18) [18]] [0,1,5,8])
(.seq (.block 0 (.seq (rg [mV 20 1,
uO 21 (.nilchk 20),
fA 22 0 none 21,
lD 23 none 22,
bN 24 .neq 23 (cI 1),
mV 19 24] [0,1,5,8,19])
(.cond 19 (.seq (rg [mV 6 (cI 11)] [6])
.ret)
(.seq (dr [dF (fA 26 5 none 5) [5],
dF (lD 27 none 26) [26],
dF (mV 28 1) [1],
dF (uO 29 (.nilchk 28)) [28],
dF (fA 30 2 none 29) [29],
dF (lD 31 none 30) [30],
dF (bN 32 .neq 27 31) [27,31],
dF (mV 25 32) [32]] [0,1,5,8,25])
(.cond 25 (.seq (rg [mV 6 (cI 3)] [6])
.ret)
(.seq (rg [mV 34 8,
mV 33 34] [0,1,5,33])
(.cond 33 (.seq (rg [mV 6 (cI 12)] [6])
.ret)
.skip)))))))
(.seq (dr [dF (mV 35 1) [1],
dF (mV 36 1) [1],
dF (mV 37 1) [1],
dF (fA 38 2 none 5) [5],
dF (lD 39 none 38) [38],
dF (fA 40 0 none 5) [5],
dF (lD 41 none 40) [40],
dF (uO 42 (.nilchk 35)) [35],
dF (fA 43 0 none 42) [42],
dA (wO (.store none 43 (cI 2))) [43] true [] [4,6],
dF (uO 44 (.nilchk 36)) [36],
dF (fA 45 1 none 44) [44],
dA (wO (.store none 45 39)) [45,39] true [] [6],
dF (uO 46 (.nilchk 37)) [37],
dF (fA 47 3 none 46) [46],
dT (wO (.store none 47 41)) [47,41]] [0,5])
(.seq (dr [dF (mV 48 0) [0],
dF (uO 49 (.nilchk 48)) [48],
dF (fA 50 3 none 49) [49],
dF (lD 51 none 50) [50],
dF (fA 52 0 none 5) [5],
dF (lD 53 none 52) [52],
dF (fA 54 4 none 5) [5],
dF (lD 55 none 54) [54],
dT (wO (.mupd (none,[2]) 51 53 55)) [51,53,55]] [0,5])
(.seq (dr [dF (mV 56 0) [0],
dF (mV 57 0) [0],
dF (uO 58 (.nilchk 57)) [57],
dF (fA 59 5 none 58) [58],
dF (lD 60 none 59) [59],
dF (fA 61 0 none 5) [5],
dF (lD 62 none 61) [61],
dF (fA 63 2 none 5) [5],
dF (lD 64 none 63) [63],
dF (uO 65 (.build [.p (.str []),.p (.int .i64 0),.p (.int .i64 0)] [(0,1,62),(1,1,64),(2,1,(cI (-1)))])) [62,64],
dF (uO 66 (.bsl false (some 3) 1 (.agg [.str [],.int .i64 0,.int .i64 0]) [(0,65)])) [65],
dT (uO 67 (.app (some 3) 60 66)) [60,66],
dF (uO 68 (.nilchk 56)) [56],
dF (fA 69 5 none 68) [68],
dT (wO (.store none 69 67)) [69,67]] [])
(.seq (rg [mV 6 (cI 0)] [6])
.ret)))))))
def a_q04g : AFun:=⟨3,[.t 6],P_q04g,false,false⟩
def zpb : ACode:=.pr [0,3,5,38,45] (.cond 45 (.seq (rg [mV 48 0,
mV 49 5,
lD 50 (some 8) 3,
cL 51 zud [48,49,50],
mV 4 51] [4])
.ret)
(.seq (rg [bN 53 .eql 38 (cI 5),
mV 52 53] [0,3,5,52])
(.cond 52 (.seq (.seq (rg [mV 54 5,
uO 55 (.nilchk 54),
fA 56 0 none 55,
lD 57 none 56,
bN 58 .neq 57 (cI 3)] [3,5,58])
(.cond 58 (.seq (rg [mV 4 (cI 11)] [4])
.ret)
.skip))
(.seq (dr [dF (mV 59 5) [5],
dF (mV 60 5) [5],
dF (fA 61 2 none 3) [3],
dF (lD 62 none 61) [61],
dF (uO 63 (.nilchk 59)) [59],
dF (fA 64 0 none 63) [63],
dA (wO (.store none 64 (cI 1))) [64] true [] [3],
dF (uO 65 (.nilchk 60)) [60],
dF (fA 66 1 none 65) [65],
dT (wO (.store none 66 62)) [66,62]] [])
(.seq (rg [mV 4 (cI 0)] [4])
.ret)))
.skip)))
def zpc : ACode:=.pr [3,5] (.seq (dr [dF (mV 89 5) [5],
dF (mV 90 5) [5],
dF (fA 91 2 none 3) [3],
dF (lD 92 none 91) [91],
dF (uO 93 (.nilchk 89)) [89],
dF (fA 94 0 none 93) [93],
dA (wO (.store none 94 (cI 5))) [94] true [] [3],
dF (uO 95 (.nilchk 90)) [90],
dF (fA 96 1 none 95) [95],
dT (wO (.store none 96 92)) [96,92]] [])
(.seq (rg [mV 4 (cI 0)] [4])
.ret))
def ziX (q2 : ACode) : ACode:=.pr [0,3,5] (.seq (.seq (rg [mV 67 5,
uO 68 (.nilchk 67),
fA 69 0 none 68,
lD 70 none 69,
bN 71 .eql 70 (cI 4),
mV 72 71,
gD 73 72 false (.mv 5),
gD 74 72 false (.nilchk 73),
gD 75 72 false (.faddr 0 none 74),
gD 76 72 false (.load none 75),
gD 77 72 false (.bin .eql 76 (cI 5)),
uO 78 (.pick 72 cT 77)] [0,3,5,78])
(.cond 78 (.seq (rg [mV 4 (cI 11)] [4])
.ret)
.skip))
(.seq (.seq (rg [mV 79 5,
uO 80 (.nilchk 79),
fA 81 0 none 80,
lD 82 none 81,
bN 83 .eql 82 (cI 2)] [0,3,5,83])
(.cond 83 (rg [mV 84 0,
mV 85 5,
fA 86 2 none 3,
lD 87 none 86,
cL 88 zmr [84,85,87]] [3,5])
.skip))
q2))
def zpd : ACode:=ziX zpc
def P_q04h (q1 q3 : ACode) : ACode:=(.seq (rg [uO 3 (.box 1),
mV 4 (cI 0)] [0,3])
(.seq (dr [dF (mV 6 0) [0],
dF (uO 7 (.nilchk 6)) [6],
dF (fA 8 2 none 7) [7],
dF (lD 9 none 8) [8],
dF (fA 10 4 none 3) [3],
dF (lD 11 none 10) [10],
dF (uO 12 (.look (none,[2]) false (.nilp) 9 11)) [9,11],
dF (mV 5 12) [12]] [0,3,5])
(.seq (.seq (rg [fA 13 3 none 3,
lD 14 none 13,
bN 15 .eql 14 (cI 1)] [0,3,5,15])
(.cond 15 (.seq (.seq (rg [mV 16 5,
uO 17 (.isnil 0 true 16)] [0,3,17])
(.cond 17 (.seq (rg [mV 4 (cI 6)] [4])
.ret)
.skip))
(.seq (dr [dF (mV 18 0) [0],
dF (uO 19 (.nilchk 18)) [18],
dF (fA 20 2 none 19) [19],
dF (lD 21 none 20) [20],
dF (fA 22 4 none 3) [3],
dF (lD 23 none 22) [22],
dF (fA 24 2 none 3) [3],
dF (lD 25 none 24) [24],
dF (mV 26 0) [0],
dF (uO 27 (.nilchk 26)) [26],
dF (fA 28 0 (some 2) 27) [27],
dF (fA 29 0 none 28) [28],
dF (lD 30 none 29) [29],
dF (iA 31 none 30 (cI 0)) [30],
dF (lD 32 none 31) [31],
dF (uO 33 (.build [.p (.int .i64 0),.p (.int .i64 0),.p (.str []),.p (.str []),.p (.int .i64 0)] [(0,1,(cI 1)),(1,1,25),(2,1,32)])) [25,32],
dA (uO 34 (.box 33)) [33] true [] [3,5],
dT (wO (.mupd (none,[2]) 21 23 34)) [21,23,34]] [])
(.seq (rg [mV 4 (cI 0)] [4])
.ret)))
.skip))
(.seq (.seq (rg [mV 35 5,
uO 36 (.isnil 0 false 35)] [0,3,5,36])
(.cond 36 (.seq (rg [mV 4 (cI 8)] [4])
.ret)
.skip))
(.seq (.seq (rg [fA 37 3 none 3,
lD 38 none 37] [0,3,5,38])
(.block 0 (.seq (rg [bN 40 .eql 38 (cI 2),
mV 39 40] [0,3,5,38,39])
(.cond 39 (.seq (rg [mV 41 0,
mV 42 5,
lD 43 (some 8) 3,
cL 44 zue [41,42,43],
mV 4 44] [4])
.ret)
(.seq (.seq (rg [bN 46 .eql 38 (cI 3),
mV 45 46] [0,3,5,38,45])
(.cond 45 .skip
(rg [bN 47 .eql 38 (cI 4),
mV 45 47] [0,3,5,38,45])))
q1)))))
q3)))))
def a_q04h : AFun:=⟨2,[.t 4],P_q04h zpb zpd,false,false⟩
def zpe : ACode:=.pr [5,6,17,18,19] (rg [bN 59 .add 19 (cI 1),
mV 19 59] [5,6,17,18,19])
def ziY (q1 : ACode) : ACode:=.pr [5,6,17,18,19] (.seq (rg [bN 20 .lss 19 18] [5,6,17,18,19,20])
(.seq (.cond 20 .skip
(.exit 0))
(.seq (.block 1 (.seq (rg [mV 21 19,
iA 22 (some 8) 17 19,
lD 23 (some 8) 22,
uO 8 (.alloc [.p (.str []),.p (.int .i64 0),.p (.int .i64 0),.p (.int .i64 0),.p (.str []),.p (.str []),.p (.str []),.p (.int .i64 0)]),
mV 7 21,
wO (.store (some 8) 8 23)] [5,6,7,8,17,18,19])
(.seq (.seq (rg [mV 24 6,
mV 25 7,
iA 26 none 24 25,
lD 27 none 26,
uO 28 (.un .not 27),
mV 29 28,
gD 30 29 false (.faddr 3 none 8),
gD 31 29 false (.load none 30),
gD 32 29 false (.bin .eql 31 (cI 7)),
uO 33 (.pick 29 cT 32)] [5,6,7,8,17,18,19,33])
(.cond 33 (.exit 1)
.skip))
(.seq (rg [mV 34 5,
lD 35 (some 8) 8,
cL 36 zuf [34,35],
mV 9 36] [5,6,7,9,17,18,19])
(.seq (rg [mV 37 9,
bN 38 .neq 37 (cI 0)] [5,6,7,9,17,18,19,38])
(.cond 38 (.seq (rg [mV 39 5,
mV 40 5,
uO 41 (.nilchk 40),
fA 42 6 none 41,
lD 43 none 42,
mV 44 7,
uO 45 (.bsl false none 1 (.int .i64 0) [(0,44)]),
uO 46 (.app none 43 45),
uO 47 (.nilchk 39),
fA 48 6 none 47,
wO (.store none 48 46)] [5,6,9,17,18,19])
(rg [mV 49 5,
mV 50 5,
uO 51 (.nilchk 50),
fA 52 7 none 51,
lD 53 none 52,
mV 54 9,
uO 55 (.bsl false none 1 (.int .i64 0) [(0,54)]),
uO 56 (.app none 53 55),
uO 57 (.nilchk 49),
fA 58 7 none 57,
wO (.store none 58 56)] [5,6,17,18,19]))
.skip))))))
q1)))
def zpf : ACode:=ziY zpe
def zpg : ACode:=.pr [5] (.seq (rg [mV 60 5,
mV 4 60] [4])
.ret)
def P_q04i (q2 q3 : ACode) : ACode:=(.seq (rg [uO 2 (.box 0),
mV 4 (.c (.nilp))] [1,2])
(.seq (rg [lD 10 (some 2) 2,
uO 11 (.mkmap),
uO 12 (.mkmap),
uO 13 (.build [.sl0 none,.p (.int .i64 0),.nilm,.nilm,.sl0 (some 5),.sl0 (some 3),.sl0 none,.sl0 none] [(0,2,10),(2,1,11),(3,1,12)]),
uO 14 (.box 13),
mV 5 14] [1,5])
(.seq (rg [mV 15 1,
cL 16 ztZ [15],
mV 6 16] [1,5,6])
(.seq (.seq (rg [mV 17 1,
lN 18 17,
mV 19 (cI 0)] [5,6,17,18,19])
(.block 0 (.loop (.scope q2))))
q3))))
def a_q04i : AFun:=⟨2,[.t 4],P_q04i zpf zpg,false,false⟩
def P_q04j : ACode:=(.seq (rg [mV 2 (cI 0)] [0])
(.seq (.seq (rg [mV 3 0,
cL 4 zmk [3],
uO 5 (.un .not 4)] [5])
(.cond 5 (.seq (rg [mV 2 (cI 1)] [2])
.ret)
.skip))
(.seq (rg [mV 2 (cI 0)] [2])
.ret)))
def a_q04j : AFun:=⟨1,[.t 2],P_q04j,false,false⟩
def zph : ACode:=.pr [3,8,9,10] (.seq (rg [bN 11 .lss 10 9] [3,8,9,10,11])
(.seq (.cond 11 .skip
(.exit 0))
(.seq (.block 1 (.seq (rg [iA 12 (some 8) 8 10,
lD 13 (some 8) 12,
uO 5 (.alloc [.p (.str []),.p (.int .i64 0),.p (.int .i64 0),.p (.int .i64 0),.p (.str []),.p (.str []),.p (.str []),.p (.int .i64 0)]),
wO (.store (some 8) 5 13)] [3,5,8,9,10])
(.seq (rg [fA 14 0 none 5,
lD 15 none 14,
fA 16 1 none 5,
lD 17 none 16,
uO 18 (.build [.p (.str []),.p (.int .i64 0)] [(0,1,15),(1,1,17)]),
uO 6 (.alloc [.p (.str []),.p (.int .i64 0)]),
wO (.store (some 2) 6 18)] [3,6,8,9,10])
(.seq (.seq (rg [mV 19 3,
lD 20 (some 2) 6,
uO 21 (.look ((some 2),[2,0]) false (AB false) 19 20)] [3,6,8,9,10,21])
(.cond 21 (.seq (rg [mV 2 cT] [2])
.ret)
.skip))
(rg [mV 22 3,
lD 23 (some 2) 6,
wO (.mupd ((some 2),[2,0]) 22 23 cT)] [3,8,9,10])))))
(rg [bN 24 .add 10 (cI 1),
mV 10 24] [3,8,9,10]))))
def zpi : ACode:=.pr [] (.seq (rg [mV 2 cF] [2])
.ret)
def P_q04k (q1 q2 : ACode) : ACode:=(.seq (rg [mV 2 cF] [0])
(.seq (rg [uO 7 (.mkmap),
mV 3 7] [0,3])
(.seq (.seq (rg [mV 8 0,
lN 9 8,
mV 10 (cI 0)] [3,8,9,10])
(.block 0 (.loop (.scope q1))))
q2)))
def a_q04k : AFun:=⟨1,[.t 2],P_q04k zph zpi,false,false⟩
def zpj : ACode:=.pr [0,1,5] (.seq (.seq (rg [mV 8 5,
bN 9 .gtr 8 (cI 0),
mV 10 9,
gD 11 10 true (.mv 0),
gD 12 10 true (.mv 5),
gD 13 10 true (.bin .sub 12 (cI 1)),
gD 14 10 true (.iaddr (some 8) 11 13),
gD 15 10 true (.faddr 2 none 14),
gD 16 10 true (.load none 15),
gD 17 10 true (.mv 1),
gD 18 10 true (.bin .gtr 16 17),
uO 19 (.pick 10 18 cF)] [0,1,5,19])
(.cond 19 .skip
(.exit 0)))
(.block 1 (rg [mV 20 5,
bN 21 .sub 20 (cI 1),
mV 5 21] [0,1,5])))
def zpk : ACode:=.pr [0,5] (.seq (rg [mV 22 0,
mV 23 5,
uO 24 (.slice (some 8) 22 none (some 23) none),
mV 4 24] [4])
.ret)
def P_q04l (q1 q2 : ACode) : ACode:=(.seq (rg [mV 4 (.c (.p (.sl (some 8) [])))] [0,1])
(.seq (rg [mV 6 0,
lN 7 6,
mV 5 7] [0,1,5])
(.seq (.block 0 (.loop q1))
q2)))
def a_q04l : AFun:=⟨2,[.t 4],P_q04l zpj zpk,false,false⟩
def P_q051 : ACode:=(.seq (rg [mV 4 (cI 0)] [0,1])
(.seq (rg [mV 5 0,
mV 6 1,
cL 7 ztJ [5,6],
mV 4 7] [4])
.ret))
def a_q051 : AFun:=⟨2,[.t 4],P_q051,false,false⟩
def P_q063 : ACode:=(.seq (rg [mV 2 (cI 0),
mV 3 (cI 0)] [0])
(.seq (.seq (rg [mV 5 0,
cL 6 z2X [5],
mV 4 6] [0,4])
(.seq (rg [mV 7 4,
bN 8 .neq 7 (cI 0)] [0,4,8])
(.cond 8 (.seq (rg [mV 9 4,
mV 2 (cI 0),
mV 3 9] [2,3])
.ret)
.skip)))
(.seq (rg [mV 10 0,
cL 11 z2B [10,(.c (.nilp))],
uO 12 (.nilchk 11),
fA 13 37 none 12,
lD 14 none 13,
mV 2 14,
mV 3 (cI 0)] [2,3])
.ret)))
def a_q063 : AFun:=⟨1,[.t 2,.t 3],P_q063,false,false⟩
end Go.Am
end
section
/- The abstract machine,part L: functions of the library that are met by the kit's contracts: plain values in,plain values out,new memory at most. -/
set_option linter.unusedSimpArgs false
set_option linter.unusedVariables false
namespace Go.Am
variable {P : Program} {gl : Nat → Option PV}
structure PureRow (P : Program) (gl : Nat → Option PV) (f : Nat) (spec : List PV → Option AV) : Prop where
 enter : ∀ us w,(callFunc f us).run P w = .ok (.enter f us) w
 run : ∀ (M : Mem) (w : World) (vs : List PV) (r : AV) (us : List Value),(∀ b o v,M.c b o = some v → w.cell? ⟨b,o,none⟩ = some v) → (∀ b o,M.b b = some o → w.heap[b]? = some o) → GInv gl M → vs.length = us.length →
  (∀ (j : Nat) (y : PV) (v : Value),vs[j]? = some y → us[j]? = some v → RPV M y v) → spec vs = some r →
  Calls P f us.toArray w fun e w'=>∃ x,e = .returned x ∧ WExt w w' ∧ RAV (ExtM M w w') [] [] r x
abbrev z8R:=List (Nat × (List PV → Option AV))
def zdc : z8R → Nat → List AV → Heap → Option (AV × Heap × Esc)
 | [],_,_,_=>none
 | (g,s) :: r,f,asv,h=>bif Nat.beq f g then ((unp asv).bind s).map fun v=>(v,h,[]) else zdc r f asv h
theorem zaG : ∀ (gs : z8R),(∀ g s,(g,s) ∈ gs → PureRow P gl g s) → ∀ {f : Nat} {asv : List AV} {h : Heap} {v : AV} {h' : Heap} {x : Esc},zdc gs f asv h = some (v,h',x) →
 z1A P gl f asv h fun v1 h1 x1=>v1 = v ∧ h1 = h' ∧ x1 = x
 | [],_,f,asv,h,v,h',x,H=>by cases H
 | (g,s) :: r,hg,f,asv,h,v,h',x,H=>by
  unfold zdc at H
  cases e1 : Nat.beq f g with
  | false=>
   rw [e1] at H
   exact zaG r (fun g sh hm=>hg g sh (by simp [hm])) H
  | true=>
   rw [e1] at H
   have e:=Nat.eq_of_beq_eq_true e1
   subst e
   have R:=hg f s (by simp)
   simp only [cond_true] at H
   obtain ⟨y,hy,e2⟩:=Option.map_eq_some_iff.1 H
   simp only [Prod.mk.injEq] at e2
   obtain ⟨rfl,rfl,rfl⟩:=e2
   obtain ⟨ps,hps,hs⟩:=Option.bind_eq_some_iff.1 hy
   have hm:=z4F hps
   subst hm
   intro μ w vs Hh Hg hl hr
   refine .inl ⟨R.enter _,?_⟩
   refine (R.run (imm h μ w) w ps y vs (fun b o v hv=>(z1i.1 hv).2) (fun b o hv=>(z4a.1 hv).2) Hg (by simpa using hl) (fun j q v hq hv=>(hr j (.p q) v (by simp [hq]) hv).p_inv) hs).mono fun e w' he=>?_
   obtain ⟨u,rfl,g1,g2⟩:=he
   obtain ⟨n1,n2⟩:=Hh.ext g1
   have Lq : (ExtM (imm h μ w) w w').le (imm h μ w'):=by
    refine ⟨fun b o v hv=>?_,fun b o hv=>?_,rfl,fun _ _ h=>by cases h⟩
    ·dsimp only [ExtM] at hv
     split at hv
     ·exact n2.le.c _ _ _ hv
     ·rename_i hb
      exact z1i.2 ⟨fun hO=>hb (zaA Hh hO),hv⟩
    ·dsimp only [ExtM] at hv
     cases hv
   exact ⟨_,_,_,μ,⟨rfl,rfl,rfl⟩,g2.evo ⟨Lq,Nat.zero_le _,fun id o m h1=>by simp at h1⟩,n1,n2,z0h.refl h []⟩
def libF (gs : List (Nat × Sh)) (ps : z8R) (f : Nat) (asv : List AV) (h : Heap) : Option (AV × Heap × Esc):=match zhy gs f asv h with
 | some y=>some y
 | none=>match zdc ps f asv h with
  | some y=>some y
  | none=>match z0s h asv with
   | some (asv',h1)=>zdc ps f asv' h1
   | none=>none
theorem zpo {ps : z8R} (hp : ∀ g s,(g,s) ∈ ps → PureRow P gl g s) {f : Nat} {asv asv' : List AV} {h h1 : Heap} {v : AV} {h' : Heap} {x : Esc} (hq : z0s h asv = some (asv',h1)) (H : zdc ps f asv' h1 = some (v,h',x)) :
 z1A P gl f asv h fun v1 h2 x1=>v1 = v ∧ h2 = h' ∧ x1 = x:=by
 intro μ w vs Hh Hg hl hr
 obtain ⟨q1,q2,q3⟩:=z7e asv Hh hl hr hq
 rcases zaG ps hp H μ w vs q1.1 (Hg.mono q1.2.1.le) q2 q3 with ⟨k1,k2⟩ | ⟨r,w',v2,h2,x2,μ',k1,k2,k3,k4,k5,k6⟩
 ·refine .inl ⟨k1,k2.mono fun e w' he=>?_⟩
  cases e with
  | returned r=>
   obtain ⟨v2,h2,x2,μ',k2,k3,k4,k5,k6⟩:=he
   exact ⟨v2,h2,x2,μ',k2,k3,k4,q1.2.1.trans k5,by simpa using q1.2.2.trans k6⟩
  | panicked _=>exact he
  | outgrown=>exact he
 ·exact .inr ⟨r,w',v2,h2,x2,μ',k1,k2,k3,k4,q1.2.1.trans k5,by simpa using q1.2.2.trans k6⟩
theorem libF_ok {gs : List (Nat × Sh)} {ps : z8R} (hg : ∀ g sh,(g,sh) ∈ gs → GrowRow P g sh) (hp : ∀ g s,(g,s) ∈ ps → PureRow P gl g s) {f : Nat} {asv : List AV} {h : Heap} {v : AV} {h' : Heap} {x : Esc} (H : libF gs ps f asv h = some (v,h',x)) :
 z1A P gl f asv h fun v1 h1 x1=>v1 = v ∧ h1 = h' ∧ x1 = x:=by
 unfold libF at H
 split at H
 ·rename_i y hy
  cases H
  exact zfH gs hg hy
 ·split at H
  ·rename_i y hy
   cases H
   exact zaG ps hp hy
  ·split at H
   ·rename_i asv' h1 hq
    exact zpo hp hq H
   ·cases H
theorem z7c {X : Ctx} {f : Nat} {asv : List AV} {h h' : Heap} {v : AV} {x : Esc} {K : Post} (hf : X.fn f = none) (hx : X.ex2 f asv h = some (v,h',x)) : z0c X f asv h K = K v h' x:=by
 refine propext (z0c.eq (z0c.fold ?_) K)
 unfold Step
 simp only [hf,hx]
 exact ⟨trivial,trivial,trivial⟩
def zfI : List (Nat × Sh) → Nat → Option Sh
 | [],_=>none
 | (g,s) :: r,f=>bif Nat.beq f g then some s else zfI r f
theorem z9A : ∀ {gs : List (Nat × Sh)} {f : Nat} {asv : List AV} {h : Heap},zfI gs f = none → zhy gs f asv h = none
 | [],f,asv,h,_=>rfl
 | (g,s) :: r,f,asv,h,hm=>by
  unfold zfI at hm
  unfold zhy
  cases hq : Nat.beq f g with
  | true=>rw [hq] at hm; cases hm
  | false=>rw [hq] at hm; exact z9A hm
def zgb : z8R → Nat → Option (List PV → Option AV)
 | [],_=>none
 | (g,s) :: r,f=>bif Nat.beq f g then some s else zgb r f
theorem zdd : ∀ {gs : z8R} {f : Nat} {s : List PV → Option AV} {asv : List AV} {h : Heap},zgb gs f = some s → zdc gs f asv h = ((unp asv).bind s).map fun v=>(v,h,[])
 | [],f,s,asv,h,hm=>by cases hm
 | (g,s') :: r,f,s,asv,h,hm=>by
  unfold zgb at hm
  unfold zdc
  cases hq : Nat.beq f g with
  | true=>rw [hq] at hm; cases hm; rfl
  | false=>rw [hq] at hm; exact zdd hm
theorem z8d {gs : List (Nat × Sh)} {ps : z8R} {f : Nat} {s : List PV → Option AV} {asv : List AV} {vs : List PV} {v : AV} {h : Heap} (hg : zfI gs f = none) (hm : zgb ps f = some s) (hu : unp asv = some vs) (hv : s vs = some v) : libF gs ps f asv h = some (v,h,[]):=by
 unfold libF; rw [z9A hg,zdd hm,hu]; simp [hv]
def glOf : List (Nat × PV) → Nat → Option PV
 | [],_=>none
 | (g,v) :: r,n=>bif Nat.beq n g then some v else glOf r n
theorem zwX {f : Nat} (h : (match P.funcs[f]? with | some fn=>fn.body.isSome && fn.name != "runtime.NumGoroutine" | none=>false) = true) (us : Array Value) (w : World) : (callFunc f us).run P w = .ok (.enter f us) w:=by
 cases hf : P.funcs[f]? with
 | none=>rw [hf] at h; cases h
 | some fn=>
  rw [hf] at h
  simp only [Bool.and_eq_true,bne_iff_ne,ne_eq] at h
  cases hb : fn.body with
  | none=>rw [hb] at h; cases h.1
  | some c=>exact zma hf hb h.2 us w
theorem ginv_none {M : Mem} : GInv (glOf []) M:=fun n v hv=>by cases hv
def repL (s : List UInt8) : Nat → List UInt8
 | 0=>[]
 | c + 1=>s ++ repL s c
def z61 : List PV → Option AV
 | [.str s,.int .i64 c]=>if 0 ≤ c ∧ s.length * c.toNat ≤ 1000000 ∧ c ≤ 1000000 then some (.p (.str (repL s c.toNat))) else none
 | _=>none
def zs8 (s cs : List UInt8) : List UInt8:=(s.reverse.dropWhile (cs.contains ·)).reverse.dropWhile (cs.contains ·)
def trimS : List PV → Option AV
 | [.str s,.str cs]=>if s.length ≤ 1000000 ∧ cs.length ≤ 1000 ∧ cs.all (fun b=>decide (b.toNat < 128)) = true then some (.p (.str (zs8 s cs))) else none
 | _=>none
def zdY : PV → Bool
 | .agg [.int .i64 _,.int .i64 _,.int .i64 _,.str _,.str _,.str _]=>true
 | _=>false
def zap : PV → Int
 | .agg (.int _ k :: _)=>k
 | _=>0
def zmC : PV:=.agg [.int .i64 0,.int .i64 1,.int .i64 0,.str [],.str [],.str []]
def z2D (l : List PV) (k : Int) : PV:=(l.reverse.find? fun c=>zap c == k).getD zmC
def z4E : List PV → Option AV
 | [.sl (some 6) xs,.int .i64 i,.int .i64 k]=>if 0 ≤ i ∧ i ≤ (xs.length : Int) ∧ xs.length ≤ 1000000 ∧ xs.all zdY = true then some (.p (z2D (xs.take i.toNat) k)) else none
 | _=>none
end Go.Am
end
section
/- The abstract machine,part C: z1s calls that say true,asv contracts. -/
set_option linter.all false
namespace Go.Am
variable {P : Program} {gl : Nat → Option PV}
def zwR : List PV → Option AV
 | []=>some (AB true)
 | _=>none
theorem RPV.mono' {M M' : Mem} (hM : ∀ b o v,M.c b o = some v → M'.c b o = some v) {v : PV} {x : Value} (H : RPV M v x) : RPV M' v x:=by
 induction H with
 | int k n=>exact .int k n
 | bool b=>exact .bool b
 | str s=>exact .str s
 | nilp=>exact .nilp
 | unk k n=>exact .unk k n
 | nils sh a cap=>exact .nils sh a cap
 | sl sh xs b o cap f hne hc he hm hr ih=>exact .sl sh xs b o cap f hne hc he (fun j y hy=>hM _ _ _ (hm j y hy)) ih
 | agg cs vs hl hr ih=>exact .agg cs vs hl ih
theorem GInv.mono' {M M' : Mem} (hc : ∀ b o v,M.c b o = some v → M'.c b o = some v) (hb : ∀ b o,M.b b = some o → M'.b b = some o) (H : GInv gl M) : GInv gl M':=fun n v hv=>by
 obtain ⟨h1,cs,t,x,h2,h3⟩:=H n v hv
 refine ⟨?_,cs,t,x,hb _ _ h2,h3⟩
 cases h1 with | vp _ _ _ f hm hr=>exact .vp v n 0 f (fun j y hy=>hc _ _ _ (hm j y hy)) (fun j y hy=>(hr j y hy).mono' hc)
theorem zqg {X : Ctx} (HX : Fits P X) {f : Nat} (H : z0c X f [] [] fun v h x=>v = AB true ∧ h = [] ∧ x = []) (he : ∀ us w,(callFunc f us).run P w = .ok (.enter f us) w) : PureRow P X.gl f zwR:=by
 refine ⟨he,fun M w vs r us hc hb hG hl hr hs=>?_⟩
 cases vs with
 | cons a l=>cases hs
 | nil=>
  have hu : us = []:=List.length_eq_zero_iff.1 (by simpa using hl.symm)
  subst hu
  simp only [zwR,Option.some.injEq] at hs
  subst hs
  have hno : ∀ b o,¬ zai ([] : Heap) ([] : Mu) b o:=fun b o ⟨id,n,h1,_⟩=>by simp at h1
  have hnt : ∀ b,¬ zgT ([] : Mu) b:=fun b ⟨id,n,h1⟩=>by simp at h1
  have hG' : GInv X.gl (imm [] [] w):=hG.mono' (fun b o v h=>z1i.2 ⟨hno b o,hc b o v h⟩) (fun b o h=>z4a.2 ⟨hnt b,hb b o h⟩)
  have hR : HeapRel [] [] w:=⟨rfl,fun id o m h1=>by simp at h1,fun i j b n n' h1=>by simp at h1,fun i b n h1=>by simp at h1⟩
  rcases z9g HX H [] w [] hR hG' rfl (fun j y v h1=>by simp at h1) with ⟨_,q⟩ | ⟨r,w',v,h',x,μ',q,_⟩
  ·refine q.mono fun e w' h=>?_
   cases e with
   | panicked _=>exact h.elim
   | outgrown=>exact h.elim
   | returned r=>
    obtain ⟨v,h',x,μ',⟨rfl,rfl,rfl⟩,h1,h2,h3,h4⟩:=h
    have hm : μ' = []:=List.length_eq_zero_iff.1 (by simpa using h2.len)
    subst hm
    have hbl : ∀ b o,w.heap[b]? = some o → w'.heap[b]? = some o:=fun b o h=>(z4a.1 (h3.le.b b o (z4a.2 ⟨hnt b,h⟩))).2
    refine ⟨r,rfl,⟨?_,fun b hb=>?_,?_⟩,?_⟩
    ·rcases Nat.lt_or_ge w'.heap.size w.heap.size with q | q
     ·have:=hbl w'.heap.size _ (Array.getElem?_eq_getElem q)
      simp at this
     ·exact q
    ·rw [hbl b _ (Array.getElem?_eq_getElem hb),Array.getElem?_eq_getElem hb]
    ·have:=h3.le.z
     simpa [imm] using this
    ·have:=h1.p_bool
     rw [this]
     exact .p _ _ (.bool true)
  ·rw [he] at q
   cases q
end Go.Am
end
section
/- The functions together. -/
set_option linter.unusedVariables false
set_option maxRecDepth 100000
namespace Go.Am
def fns : List (Nat × AFun):=[(zf4,zjc),(z9s,zjl),(z3U,zjk),(z6M,zj8),(z96,zj7),(z6K,ze9),(z92,zj2),(z9t,zjp),(z9r,zjf),(z7Q,zjs),(z1W,zjh),(z2X,zeF),(z2B,zeJ),(z5y,zeH),(z97,zjB),(z52,zeP),(z50,zeM),(z6J,ze7),(z6O,zjA),(z3I,zeB),(z9u,zjq),(z9q,zje),(z2q,zjg),(z1v,zjj),(z2W,zj4),(z4R,zj3),(z9v,zju),(z7R,zjt),(z4P,zjd),(z1d,ze8),(z7U,zeI),(z7X,zeR),(z3X,zeG),(z6N,zj9),(z5z,zeL),(z2Y,zeN),(z3Y,zeK),(z3G,zjn),(z6L,zji),(z2r,zjm),(z93,zj5),(z91,zj1),(z9x,zjw),(z3H,zjr),(z90,zj0),(z9z,zjz),(z7S,zeC),(z7W,zeQ),(z7V,zeO),(z2p,ze6),(z7T,zeD),(z9p,zjb),(z4Q,zeA),(z9y,zjx),(z3V,zjy),(z5x,zeE),(z3W,z9b),(z95,zj6),(z2e,zjo),(z9w,zjv),(z4S,z7o)]
def GRL : List (Nat × Sh):=[]
def PRL : z8R:=[(z5w,z4E),(z1g,z61),(zcJ,trimS),(z7P,zwR)]
def GLL : List (Nat × PV):=[]
def fnOf : List (Nat × AFun) → Nat → Option AFun
 | [],_=>none
 | (k,F) :: r,n=>bif Nat.beq k n then some F else fnOf r n
def X : Ctx:=⟨fnOf fns,glOf GLL,extF z0j z0q,libF GRL PRL⟩
theorem zfC {p : Nat → AFun → Bool} : ∀ (l : List (Nat × AFun)),(l.all fun y=>p y.1 y.2) = true → ∀ n F,fnOf l n = some F → p n F = true
 | [],_,n,F,h=>by cases h
 | (k,G) :: r,ha,n,F,h=>by
  simp only [List.all_cons,Bool.and_eq_true] at ha
  simp only [fnOf] at h
  cases hk : Nat.beq k n with
  | true=>
   rw [hk] at h
   have:=Nat.eq_of_beq_eq_true hk
   simp only [cond_true,Option.some.injEq] at h
   subst this; subst h; exact ha.1
  | false=>
   rw [hk] at h
   exact zfC r ha.2 n F h
def fns0 : List (Nat × AFun):=[(z6K,ze9),(z7P,a_q02g),(zuk,a_q063),(z2X,zeF),(z2B,zeJ),(z5y,zeH),(z52,zeP),(z50,zeM),(z6J,ze7),(ztw,a_q00c),(ztP,a_q02h),(ztC,a_q00y),(ztK,a_q01y),(ztX,a_q048),(z1d,ze8),(z7U,zeI),(z7X,zeR),(z3X,zeG),(z5z,zeL),(z2Y,zeN),(z3Y,zeK),(ztu,a_q00a),(zt5,a_q00m),(zf3,a_q00n),(ztB,a_q00x),(ztN,a_q021),(ztM,a_q020),(zmj,a_q003),(zub,a_q04c),(z4O,a_q005),(zug,a_q04i),(zuj,a_q04l),(z7S,zeC),(zmp,a_q03y),(zmq,a_q045),(z7W,zeQ),(z7V,zeO),(z2p,ze6),(z7T,zeD),(ztv,a_q00b),(ztz,a_q00f),(ztR,a_q03u),(ztD,a_q00z),(ztF,a_q011),(ztI,a_q014),(ztH,a_q013),(ztG,a_q012),(ztS,a_q03w),(ztO,a_q022),(ztL,a_q01z),(ztt,a_q004),(ztW,a_q047),(ztV,a_q046),(zuh,a_q04j),(ztZ,a_q04a),(zuf,a_q04h),(z4Q,zeA),(z5x,zeE),(z3W,z9b),(zt0,a_q00g),(zt4,a_q00l),(zt6,a_q00o),(ztA,a_q00w),(zt9,a_q00v),(ztU,a_q043),(zua,a_q04b),(ztY,a_q049),(zui,a_q04k),(zmk,a_q007),(zue,a_q04g),(zud,a_q04e),(zmr,a_q04f),(z4S,z7o),(zty,a_q00e),(zcI,a_q00k),(zmo,a_q03v),(zt1,a_q00h),(zt7,a_q00p),(ztx,a_q00d),(ztE,a_q010),(zmm,a_q00s),(zml,a_q00r),(z94,a_q051),(zuc,a_q04d),(ztT,a_q042),(zt2,a_q00i),(zt8,a_q00q),(zmn,a_q00t),(ztJ,a_q018),(ztQ,a_q03t),(zt3,a_q00j)]
def PRL0 : z8R:=[(z5w,z4E),(z1g,z61),(zcJ,trimS)]
def X0 : Ctx:=⟨fnOf fns0,glOf GLL,extF z0j z0q,libF GRL PRL0⟩
theorem ze2 : X0.fn z3W = some z9b:=by kernel_rfl
theorem ze1 : X0.fn z4S = some z7o:=by kernel_rfl
theorem ze5 : X.NoNext:=fun f F h=>zfC (p:=fun _ F=>F.isDet || F.body.noNext) fns (by kernel_rfl) f F h
theorem x_q02e : X.fn zf4 = some zjc:=by kernel_rfl
theorem c_q02e {u0 v0 : AV} {h h1 : Heap} {P : Post} (hp : z0s h [u0] = some ([v0],h1)) : z0c X zf4 [u0] h P = zkp (z0c X) X.gl v0 h1 [] (finR [.t 2] false h.length P):=by rw [z0i x_q02e rfl hp rfl]; exact e_q02e
theorem x_q02v : X.fn z9s = some zjl:=by kernel_rfl
theorem c_q02v {u0 u1 v0 v1 : AV} {h h1 : Heap} {P : Post} (hp : z0s h [u0,u1] = some ([v0,v1],h1)) : z0c X z9s [u0,u1] h P = zfg (z0c X) X.gl z3c z5D v0 v1 h1 [] (finR [.t 4] false h.length P):=by rw [z0i x_q02v rfl hp rfl]; exact e_q02v
theorem x_q02u : X.fn z3U = some zjk:=by kernel_rfl
theorem c_q02u {u0 u1 u2 v0 v1 v2 : AV} {h h1 : Heap} {P : Post} (hp : z0s h [u0,u1,u2] = some ([v0,v1,v2],h1)) : z0c X z3U [u0,u1,u2] h P = zks (z0c X) X.gl v0 v1 v2 h1 [] (finR [.t 6] false h.length P):=by rw [z0i x_q02u rfl hp rfl]; exact e_q02u
theorem x_q06a : X.fn z6M = some zj8:=by kernel_rfl
theorem c_q06a {u0 v0 : AV} {h h1 : Heap} {P : Post} (hp : z0s h [u0] = some ([v0],h1)) : z0c X z6M [u0] h P = zfs (z0c X) X.gl z3q z5U v0 h1 [] (finR [.t 2,.t 3] false h.length P):=by rw [z0i x_q06a rfl hp rfl]; exact e_q06a
theorem x_q066 : X.fn z96 = some zj7:=by kernel_rfl
theorem c_q066 {u0 u1 v0 v1 : AV} {h h1 : Heap} {P : Post} (hp : z0s h [u0,u1] = some ([v0,v1],h1)) : z0c X z96 [u0,u1] h P = zk3 (z0c X) X.gl v0 v1 h1 [] (finR [.t 4,.t 5] false h.length P):=by rw [z0i x_q066 rfl hp rfl]; exact e_q066
theorem x_q02f : X.fn z6K = some ze9:=by kernel_rfl
theorem c_q02f {u0 v0 : AV} {h h1 : Heap} {P : Post} (hp : z0s h [u0] = some ([v0],h1)) : z0c X z6K [u0] h P = zfb (z0c X) X.gl z3a z58 v0 h1 [] (finR [.t 2] false h.length P):=by rw [z0i x_q02f rfl hp rfl]; exact e_q02f
theorem x_q03z : X.fn z92 = some zj2:=by kernel_rfl
theorem c_q03z {u0 u1 v0 v1 : AV} {h h1 : Heap} {P : Post} (hp : z0s h [u0,u1] = some ([v0,v1],h1)) : z0c X z92 [u0,u1] h P = zca (z0c X) X.gl z3l z5P v0 v1 h1 [] (finR [.t 4] false h.length P):=by rw [z0i x_q03z rfl hp rfl]; exact e_q03z
theorem x_q02z : X.fn z9t = some zjp:=by kernel_rfl
theorem c_q02z {u0 u1 v0 v1 : AV} {h h1 : Heap} {P : Post} (hp : z0s h [u0,u1] = some ([v0,v1],h1)) : z0c X z9t [u0,u1] h P = zfj (z0c X) X.gl z3f z5F v0 v1 h1 [] (finR [.t 4] false h.length P):=by rw [z0i x_q02z rfl hp rfl]; exact e_q02z
theorem x_q02p : X.fn z9r = some zjf:=by kernel_rfl
theorem c_q02p {u0 u1 v0 v1 : AV} {h h1 : Heap} {P : Post} (hp : z0s h [u0,u1] = some ([v0,v1],h1)) : z0c X z9r [u0,u1] h P = zfd (z0c X) X.gl z3b z5C v0 v1 h1 [] (finR [.t 4] false h.length P):=by rw [z0i x_q02p rfl hp rfl]; exact e_q02p
theorem x_q033 : X.fn z7Q = some zjs:=by kernel_rfl
theorem c_q033 {u0 v0 : AV} {h h1 : Heap} {P : Post} (hp : z0s h [u0] = some ([v0],h1)) : z0c X z7Q [u0] h P = zbP (z0c X) X.gl z3g z5G v0 h1 [] (finR [.t 2] false h.length P):=by rw [z0i x_q033 rfl hp rfl]; exact e_q033
theorem x_q02r : X.fn z1W = some zjh:=by kernel_rfl
theorem c_q02r {u0 u1 v0 v1 : AV} {h h1 : Heap} {P : Post} (hp : z0s h [u0,u1] = some ([v0,v1],h1)) : z0c X z1W [u0,u1] h P = zfe (z0c X) X.gl v0 v1 h1 [] (finR [.t 4] false h.length P):=by rw [z0i x_q02r rfl hp rfl]; exact e_q02r
theorem x_q062 : X.fn z2X = some zeF:=by kernel_rfl
theorem c_q062 {u0 v0 : AV} {h h1 : Heap} {P : Post} (hp : z0s h [u0] = some ([v0],h1)) : z0c X z2X [u0] h P = zcl (z0c X) X.gl z3p z5T v0 h1 [] (finR [.t 2] false h.length P):=by rw [z0i x_q062 rfl hp rfl]; exact e_q062
theorem x_q06h : X.fn z2B = some zeJ:=by kernel_rfl
theorem ztl {u0 u1 v0 v1 : AV} {h h1 : Heap} {P : Post} (hp : z0s h [u0,u1] = some ([v0,v1],h1)) : z0c X z2B [u0,u1] h P = zcv (z0c X) X.gl z2u z4j v0 v1 h1 [] (finR [.t 4] false h.length P):=by rw [z0i x_q06h rfl hp rfl]; exact e_q06h
theorem x_q06d : X.fn z5y = some zeH:=by kernel_rfl
theorem c_q06d {u0 v0 : AV} {h h1 : Heap} {P : Post} (hp : z0s h [u0] = some ([v0],h1)) : z0c X z5y [u0] h P = zct (z0c X) X.gl v0 h1 [] (finR [.t 2] false h.length P):=by rw [z0i x_q06d rfl hp rfl]; exact e_q06d
theorem x_q06t : X.fn z97 = some zjB:=by kernel_rfl
theorem c_q06t {u0 u1 v0 v1 : AV} {h h1 : Heap} {P : Post} (hp : z0s h [u0,u1] = some ([v0,v1],h1)) : z0c X z97 [u0,u1] h P = zfv (z0c X) X.gl z3s z6a v0 v1 h1 [] (finR [.t 4] false h.length P):=by rw [z0i x_q06t rfl hp rfl]; exact e_q06t
theorem x_q06o : X.fn z52 = some zeP:=by kernel_rfl
theorem c_q06o {u0 u1 v0 v1 : AV} {h h1 : Heap} {P : Post} (hp : z0s h [u0,u1] = some ([v0,v1],h1)) : z0c X z52 [u0,u1] h P = z6G (z0c X) X.gl v0 v1 h1 [] (finR [.t 4] false h.length P):=by rw [z0i x_q06o rfl hp rfl]; exact e_q06o
theorem x_q06l : X.fn z50 = some zeM:=by kernel_rfl
theorem c_q06l {u0 u1 v0 v1 : AV} {h h1 : Heap} {P : Post} (hp : z0s h [u0,u1] = some ([v0,v1],h1)) : z0c X z50 [u0,u1] h P = z2T (z0c X) X.gl z2v z4l v0 v1 h1 [] (finR [] false h.length P):=by rw [z0i x_q06l rfl hp rfl]; exact e_q06l
theorem x_q002 : X.fn z6J = some ze7:=by kernel_rfl
theorem c_q002 {u0 v0 : AV} {h h1 : Heap} {P : Post} (hp : z0s h [u0] = some ([v0],h1)) : z0c X z6J [u0] h P = zfa (z0c X) X.gl z2Z z57 v0 h1 [] (finR [.t 2] false h.length P):=by rw [z0i x_q002 rfl hp rfl]; exact e_q002
theorem x_q06p : X.fn z6O = some zjA:=by kernel_rfl
theorem c_q06p {u0 v0 : AV} {h h1 : Heap} {P : Post} (hp : z0s h [u0] = some ([v0],h1)) : z0c X z6O [u0] h P = zk4 (z0c X) X.gl v0 h1 [] (finR [.t 2] false h.length P):=by rw [z0i x_q06p rfl hp rfl]; exact e_q06p
theorem zu5 : X.fn z3I = some zeB:=by kernel_rfl
theorem c_q040 {u0 u1 v0 v1 : AV} {h h1 : Heap} {P : Post} (hp : z0s h [u0,u1] = some ([v0,v1],h1)) : z0c X z3I [u0,u1] h P = zcd (z0c X) X.gl z3m z5Q v0 v1 h1 [] (finR [.t 4] false h.length P):=by rw [z0i zu5 rfl hp rfl]; exact e_q040
theorem x_q030 : X.fn z9u = some zjq:=by kernel_rfl
theorem c_q030 {u0 u1 v0 v1 : AV} {h h1 : Heap} {P : Post} (hp : z0s h [u0,u1] = some ([v0,v1],h1)) : z0c X z9u [u0,u1] h P = zku (z0c X) X.gl v0 v1 h1 [] (finR [.t 4] false h.length P):=by rw [z0i x_q030 rfl hp rfl]; exact e_q030
theorem x_q02m : X.fn z9q = some zje:=by kernel_rfl
theorem c_q02m {u0 v0 : AV} {h h1 : Heap} {P : Post} (hp : z0s h [u0] = some ([v0],h1)) : z0c X z9q [u0] h P = z3F (z0c X) X.gl z5A z5B v0 h1 [] (finR [.cell 2 (some 6)] false h.length P):=by rw [z0i x_q02m rfl hp rfl]; exact e_q02m
theorem x_q02q : X.fn z2q = some zjg:=by kernel_rfl
theorem c_q02q {u0 u1 v0 v1 : AV} {h h1 : Heap} {P : Post} (hp : z0s h [u0,u1] = some ([v0,v1],h1)) : z0c X z2q [u0,u1] h P = zkq (z0c X) X.gl v0 v1 h1 [] (finR [.t 4] false h.length P):=by rw [z0i x_q02q rfl hp rfl]; exact e_q02q
theorem x_q02t : X.fn z1v = some zjj:=by kernel_rfl
theorem c_q02t {u0 u1 v0 v1 : AV} {h h1 : Heap} {P : Post} (hp : z0s h [u0,u1] = some ([v0,v1],h1)) : z0c X z1v [u0,u1] h P = zkr (z0c X) X.gl v0 v1 h1 [] (finR [.t 4] false h.length P):=by rw [z0i x_q02t rfl hp rfl]; exact e_q02t
theorem x_q04y : X.fn z2W = some zj4:=by kernel_rfl
theorem c_q04y {u0 u1 v0 v1 : AV} {h h1 : Heap} {P : Post} (hp : z0s h [u0,u1] = some ([v0,v1],h1)) : z0c X z2W [u0,u1] h P = zkz (z0c X) X.gl v0 v1 h1 [] (finR [.t 4,.t 5] false h.length P):=by rw [z0i x_q04y rfl hp rfl]; exact e_q04y
theorem x_q04x : X.fn z4R = some zj3:=by kernel_rfl
theorem c_q04x {u0 v0 : AV} {h h1 : Heap} {P : Post} (hp : z0s h [u0] = some ([v0],h1)) : z0c X z4R [u0] h P = zfp (z0c X) X.gl v0 h1 [] (finR [.t 2] false h.length P):=by rw [z0i x_q04x rfl hp rfl]; exact e_q04x
theorem x_q03d : X.fn z9v = some zju:=by kernel_rfl
theorem c_q03d {u0 v0 : AV} {h h1 : Heap} {P : Post} (hp : z0s h [u0] = some ([v0],h1)) : z0c X z9v [u0] h P = z2d (z0c X) X.gl z5I z5J v0 h1 [] (finR [.t 2] false h.length P):=by rw [z0i x_q03d rfl hp rfl]; exact e_q03d
theorem x_q03a : X.fn z7R = some zjt:=by kernel_rfl
theorem c_q03a {u0 v0 : AV} {h h1 : Heap} {P : Post} (hp : z0s h [u0] = some ([v0],h1)) : z0c X z7R [u0] h P = zfk (z0c X) X.gl z3h z5H v0 h1 [] (finR [.t 2,.t 3,.t 4] false h.length P):=by rw [z0i x_q03a rfl hp rfl]; exact e_q03a
theorem x_q02l : X.fn z4P = some zjd:=by kernel_rfl
theorem c_q02l {u0 u1 v0 v1 : AV} {h h1 : Heap} {P : Post} (hp : z0s h [u0,u1] = some ([v0,v1],h1)) : z0c X z4P [u0,u1] h P = zfc (z0c X) X.gl z59 v0 v1 h1 [] (finR [.t 4] false h.length P):=by rw [z0i x_q02l rfl hp rfl]; exact e_q02l
theorem x_q009 : X.fn z1d = some ze8:=by kernel_rfl
theorem c_q009 {u0 u1 u2 v0 v1 v2 : AV} {h h1 : Heap} {P : Post} (hp : z0s h [u0,u1,u2] = some ([v0,v1,v2],h1)) : z0c X z1d [u0,u1,u2] h P = zkn (z0c X) X.gl v0 v1 v2 h1 [] (finR [.t 6] false h.length P):=by rw [z0i x_q009 rfl hp rfl]; exact e_q009
theorem x_q06e : X.fn z7U = some zeI:=by kernel_rfl
theorem c_q06e {u0 v0 : AV} {h h1 : Heap} {P : Post} (hp : z0s h [u0] = some ([v0],h1)) : z0c X z7U [u0] h P = z2A (z0c X) X.gl z5X v0 h1 [] (finR [.cell 2 (some 6),.t 3] false h.length P):=by rw [z0i x_q06e rfl hp rfl]; exact e_q06e
theorem x_q06r : X.fn z7X = some zeR:=by kernel_rfl
theorem c_q06r {h h1 : Heap} {P : Post} (hp : z0s h [] = some ([],h1)) : z0c X z7X [] h P = zk5 (z0c X) X.gl  h1 [] (finR [.cell 0 (some 36)] false h.length P):=by rw [z0i x_q06r rfl hp rfl]; exact e_q06r
theorem x_q06c : X.fn z3X = some zeG:=by kernel_rfl
theorem c_q06c {u0 v0 : AV} {h h1 : Heap} {P : Post} (hp : z0s h [u0] = some ([v0],h1)) : z0c X z3X [u0] h P = zcs (z0c X) X.gl v0 h1 [] (finR [.t 2] false h.length P):=by rw [z0i x_q06c rfl hp rfl]; exact e_q06c
theorem x_q06b : X.fn z6N = some zj9:=by kernel_rfl
theorem c_q06b {u0 v0 : AV} {h h1 : Heap} {P : Post} (hp : z0s h [u0] = some ([v0],h1)) : z0c X z6N [u0] h P = z6F (z0c X) X.gl z5V z5W v0 h1 [] (finR [.t 2] false h.length P):=by rw [z0i x_q06b rfl hp rfl]; exact e_q06b
theorem x_q06k : X.fn z5z = some zeL:=by kernel_rfl
theorem ztm {u0 u1 v0 v1 : AV} {h h1 : Heap} {P : Post} (hp : z0s h [u0,u1] = some ([v0,v1],h1)) : z0c X z5z [u0,u1] h P = zcy (z0c X) X.gl z5Y v0 v1 h1 [] (finR [.t 4] false h.length P):=by rw [z0i x_q06k rfl hp rfl]; exact e_q06k
theorem x_q06m : X.fn z2Y = some zeN:=by kernel_rfl
theorem c_q06m {u0 u1 v0 v1 : AV} {h h1 : Heap} {P : Post} (hp : z0s h [u0,u1] = some ([v0,v1],h1)) : z0c X z2Y [u0,u1] h P = zfu (z0c X) X.gl z3r z5Z v0 v1 h1 [] (finR [] false h.length P):=by rw [z0i x_q06m rfl hp rfl]; exact e_q06m
theorem x_q06j : X.fn z3Y = some zeK:=by kernel_rfl
theorem c_q06j {u0 u1 u2 u3 v0 v1 v2 v3 : AV} {h h1 : Heap} {P : Post} (hp : z0s h [u0,u1,u2,u3] = some ([v0,v1,v2,v3],h1)) : z0c X z3Y [u0,u1,u2,u3] h P = zft (z0c X) X.gl v0 v1 v2 v3 h1 [] (finR [] false h.length P):=by rw [z0i x_q06j rfl hp rfl]; exact e_q06j
theorem x_q02x : X.fn z3G = some zjn:=by kernel_rfl
theorem c_q02x {u0 u1 v0 v1 : AV} {h h1 : Heap} {P : Post} (hp : z0s h [u0,u1] = some ([v0,v1],h1)) : z0c X z3G [u0,u1] h P = zfh (z0c X) X.gl z3d z5E v0 v1 h1 [] (finR [.t 4] false h.length P):=by rw [z0i x_q02x rfl hp rfl]; exact e_q02x
theorem x_q02s : X.fn z6L = some zji:=by kernel_rfl
theorem ztk {u0 u1 u2 v0 v1 v2 : AV} {h h1 : Heap} {P : Post} (hp : z0s h [u0,u1,u2] = some ([v0,v1,v2],h1)) : z0c X z6L [u0,u1,u2] h P = zff (z0c X) X.gl v0 v1 v2 h1 [] (finR [.t 6] false h.length P):=by rw [z0i x_q02s rfl hp rfl]; exact e_q02s
theorem x_q02w : X.fn z2r = some zjm:=by kernel_rfl
theorem c_q02w {u0 u1 v0 v1 : AV} {h h1 : Heap} {P : Post} (hp : z0s h [u0,u1] = some ([v0,v1],h1)) : z0c X z2r [u0,u1] h P = zkt (z0c X) X.gl v0 v1 h1 [] (finR [.t 4] false h.length P):=by rw [z0i x_q02w rfl hp rfl]; exact e_q02w
theorem x_q04z : X.fn z93 = some zj5:=by kernel_rfl
theorem c_q04z {u0 v0 : AV} {h h1 : Heap} {P : Post} (hp : z0s h [u0] = some ([v0],h1)) : z0c X z93 [u0] h P = zfq (z0c X) X.gl v0 h1 [] (finR [] false h.length P):=by rw [z0i x_q04z rfl hp rfl]; exact e_q04z
theorem x_q03p : X.fn z91 = some zj1:=by kernel_rfl
theorem c_q03p {u0 v0 : AV} {h h1 : Heap} {P : Post} (hp : z0s h [u0] = some ([v0],h1)) : z0c X z91 [u0] h P = zkx (z0c X) X.gl v0 h1 [] (finR [.t 2] false h.length P):=by rw [z0i x_q03p rfl hp rfl]; exact e_q03p
theorem x_q03i : X.fn z9x = some zjw:=by kernel_rfl
theorem c_q03i {u0 u1 u2 v0 v1 v2 : AV} {h h1 : Heap} {P : Post} (hp : z0s h [u0,u1,u2] = some ([v0,v1,v2],h1)) : z0c X z9x [u0,u1,u2] h P = zkw (z0c X) X.gl v0 v1 v2 h1 [] (finR [.t 6] false h.length P):=by rw [z0i x_q03i rfl hp rfl]; exact e_q03i
theorem x_q031 : X.fn z3H = some zjr:=by kernel_rfl
theorem c_q031 {u0 v0 : AV} {h h1 : Heap} {P : Post} (hp : z0s h [u0] = some ([v0],h1)) : z0c X z3H [u0] h P = zkv (z0c X) X.gl v0 h1 [] (finR [.t 2] false h.length P):=by rw [z0i x_q031 rfl hp rfl]; exact e_q031
theorem x_q03n : X.fn z90 = some zj0:=by kernel_rfl
theorem c_q03n {u0 v0 : AV} {h h1 : Heap} {P : Post} (hp : z0s h [u0] = some ([v0],h1)) : z0c X z90 [u0] h P = z2S (z0c X) X.gl v0 h1 [] (finR [.t 2] false h.length P):=by rw [z0i x_q03n rfl hp rfl]; exact e_q03n
theorem x_q03m : X.fn z9z = some zjz:=by kernel_rfl
theorem c_q03m {u0 v0 : AV} {h h1 : Heap} {P : Post} (hp : z0s h [u0] = some ([v0],h1)) : z0c X z9z [u0] h P = zfn (z0c X) X.gl z3k z5O v0 h1 [] (finR [.t 2] false h.length P):=by rw [z0i x_q03m rfl hp rfl]; exact e_q03m
theorem x_q044 : X.fn z7S = some zeC:=by kernel_rfl
theorem c_q044 {u0 u1 h P} : z0c X z7S [u0,u1] h P = zfo (z0c X) X.gl z3n z5R u0 u1 h [] (finR [.t 4] false h.length P):=by rw [zeV x_q044 rfl rfl]; exact e_q044
theorem x_q06q : X.fn z7W = some zeQ:=by kernel_rfl
theorem c_q06q {u0 v0 : AV} {h h1 : Heap} {P : Post} (hp : z0s h [u0] = some ([v0],h1)) : z0c X z7W [u0] h P = z7N (z0c X) X.gl v0 h1 [] (finR [.t 2] false h.length P):=by rw [z0i x_q06q rfl hp rfl]; exact e_q06q
theorem x_q06n : X.fn z7V = some zeO:=by kernel_rfl
theorem c_q06n {u0 v0 : AV} {h h1 : Heap} {P : Post} (hp : z0s h [u0] = some ([v0],h1)) : z0c X z7V [u0] h P = z2U (z0c X) X.gl v0 h1 [] (finR [.t 2] false h.length P):=by rw [z0i x_q06n rfl hp rfl]; exact e_q06n
theorem x_q000 : X.fn z2p = some ze6:=by kernel_rfl
theorem c_q000 {u0 v0 : AV} {h h1 : Heap} {P : Post} (hp : z0s h [u0] = some ([v0],h1)) : z0c X z2p [u0] h P = zkm (z0c X) X.gl v0 h1 [] (finR [.t 2] false h.length P):=by rw [z0i x_q000 rfl hp rfl]; exact e_q000
theorem x_q05p : X.fn z7T = some zeD:=by kernel_rfl
theorem c_q05p {u0 u1 v0 v1 : AV} {h h1 : Heap} {P : Post} (hp : z0s h [u0,u1] = some ([v0,v1],h1)) : z0c X z7T [u0,u1] h P = zk1 (z0c X) X.gl v0 v1 h1 [] (finR [.t 4,.t 5] false h.length P):=by rw [z0i x_q05p rfl hp rfl]; exact e_q05p
theorem x_q01w : X.fn z9p = some zjb:=by kernel_rfl
theorem c_q01w {u0 u1 v0 v1 : AV} {h h1 : Heap} {P : Post} (hp : z0s h [u0,u1] = some ([v0,v1],h1)) : z0c X z9p [u0,u1] h P = zko (z0c X) X.gl v0 v1 h1 [] (finR [.t 4] false h.length P):=by rw [z0i x_q01w rfl hp rfl]; exact e_q01w
theorem x_q03x : X.fn z4Q = some zeA:=by kernel_rfl
theorem c_q03x {u0 u1 h P} : z0c X z4Q [u0,u1] h P = zky (z0c X) X.gl u0 u1 h [] (finR [.t 4] false h.length P):=by rw [zeV x_q03x rfl rfl]; exact e_q03x
theorem x_q03k : X.fn z9y = some zjx:=by kernel_rfl
theorem c_q03k {u0 u1 v0 v1 : AV} {h h1 : Heap} {P : Post} (hp : z0s h [u0,u1] = some ([v0,v1],h1)) : z0c X z9y [u0,u1] h P = zfm (z0c X) X.gl z3j z5L v0 v1 h1 [] (finR [.t 4] false h.length P):=by rw [z0i x_q03k rfl hp rfl]; exact e_q03k
theorem x_q03l : X.fn z3V = some zjy:=by kernel_rfl
theorem zbx {u0 u1 u2 v0 v1 v2 : AV} {h h1 : Heap} {P : Post} (hp : z0s h [u0,u1,u2] = some ([v0,v1,v2],h1)) : z0c X z3V [u0,u1,u2] h P = z6E (z0c X) X.gl z5M z5N v0 v1 v2 h1 [] (finR [.cell 6 (some 5)] false h.length P):=by rw [z0i x_q03l rfl hp rfl]; exact e_q03l
theorem x_q05q : X.fn z5x = some zeE:=by kernel_rfl
theorem c_q05q {u0 v0 : AV} {h h1 : Heap} {P : Post} (hp : z0s h [u0] = some ([v0],h1)) : z0c X z5x [u0] h P = zk2 (z0c X) X.gl v0 h1 [] (finR [.t 2] false h.length P):=by rw [z0i x_q05q rfl hp rfl]; exact e_q05q
theorem zu7 : X.fn z3W = some z9b:=by kernel_rfl
theorem c_q05s {u0 u1 v0 v1 : AV} {h h1 : Heap} {P : Post} (hp : z0s h [u0,u1] = some ([v0,v1],h1)) : z0c X z3W [u0,u1] h P = ∃ v h' x,P v h' x ∧ zci (z0c X) X.gl z3o z5S v0 v1 h1 [] (finR [.t 4] false h.length fun v1 h1 x1=>v1 = v ∧ h1 = h' ∧ x1 = x):=by rw [z29 zu7 rfl hp rfl]; exact zmg fun v h' x=>congrArg (And (P v h' x)) ztq
theorem x_q058 : X.fn z95 = some zj6:=by kernel_rfl
theorem c_q058 {u0 u1 v0 v1 : AV} {h h1 : Heap} {P : Post} (hp : z0s h [u0,u1] = some ([v0,v1],h1)) : z0c X z95 [u0,u1] h P = zk0 (z0c X) X.gl v0 v1 h1 [] (finR [.t 4] false h.length P):=by rw [z0i x_q058 rfl hp rfl]; exact e_q058
theorem x_q02y : X.fn z2e = some zjo:=by kernel_rfl
theorem c_q02y {u0 u1 v0 v1 : AV} {h h1 : Heap} {P : Post} (hp : z0s h [u0,u1] = some ([v0,v1],h1)) : z0c X z2e [u0,u1] h P = zfi (z0c X) X.gl z3e v0 v1 h1 [] (finR [.t 4] false h.length P):=by rw [z0i x_q02y rfl hp rfl]; exact e_q02y
theorem x_q03h : X.fn z9w = some zjv:=by kernel_rfl
theorem c_q03h {u0 v0 : AV} {h h1 : Heap} {P : Post} (hp : z0s h [u0] = some ([v0],h1)) : z0c X z9w [u0] h P = zfl (z0c X) X.gl z3i z5K v0 h1 [] (finR [.t 2] false h.length P):=by rw [z0i x_q03h rfl hp rfl]; exact e_q03h
theorem zu6 : X.fn z4S = some z7o:=by kernel_rfl
theorem c_q05r {u0 u1 v0 v1 : AV} {h h1 : Heap} {P : Post} (hp : z0s h [u0,u1] = some ([v0,v1],h1)) : z0c X z4S [u0,u1] h P = zfr (z0c X) X.gl v0 v1 h1 [] (finR [.t 4] false h.length P):=by rw [z0i zu6 rfl hp rfl]; exact ztp
attribute [go_sem] zkV zkW zmM zbG zbH zlA zlB zlC znc zco z7I zcp zkK zkL zmJ zb8 zb9 zly zlz zmW zcb zcc zle zlf zmQ zbN zbO zkR zkS zkT zkU zmK zmL zbD zbE zbF z7B zlg zlh zmR
attribute [go_sem] zbQ zbR zl8 zl9 znb zcm zcn zlG zlH znd zcw zcx zlT zlU znh zc5 zc6 zlP zlQ znf zc2 z3R zkI zkJ zmI zb6 zb7 zl0 zl1 zmX zce zcf zkN zkO zkP zkQ zbB z7A zbC z1t
attribute [go_sem] zlk zll zlm zln z2m z1u z0J z2R zli zlj zmS zbS zbT zkM zbA zlF zcu zlD zlE zcq zcr zlI zlJ zlK zlL zlM zlN zlO zne zcz z7J zc0 z7K zc1 z7L z7M zlR zlS zng zc3
attribute [go_sem] zc4 zkX zkY zmN zbI zbJ zlw zlx zmV zbY zbZ zl2 zl3 zmY zcg zch zlr zls zmU zbW zbX zlt zlu zlv z1U z7F z1G zl4 zl5 zl6 zl7 zmZ zna zcj z7G z7H zck zkZ zla zlb
attribute [go_sem] zlc zld zmO zmP zbK zbL z7C zbM z7D zlo zlp zlq zmT zbU z7E zbV
end Go.Am
end
section
/- The stream of numbers out of which the laws draw. -/
open Go
namespace Go.Am
abbrev eI (n : Int) : PV:=.int .i64 n
abbrev AL (l : List Int) : AV:=.p (.sl none (l.map eI))
abbrev strm (L : List Int) (a : Int) : Obj:=.box [AL L,AI a]
def zbu (x n : Int) : Int:=if n < 1 then 0 else if x.tmod n < 0 then IntKind.i64.wrap (x.tmod n + n) else x.tmod n
theorem zp9 (x n : Int) (h : Heap) (K : Post) : z0c X z4P [AI x,AI n] h K = K (AI (zbu x n)) h []:=by
 refine rule ?_
 rw [c_q02l rfl]
 simp only [zfc,go_sem]
 unfold zbu
 by_cases h1 : n < 1
 ·simp only [h1,if_true]
 ·simp only [h1,if_false,show ¬ n = 0 by omega]
  split <;> rfl
theorem zq4 (x n : Int) (h1 : 1 ≤ n) (h2 : n ≤ 4611686018427387904) : 0 ≤ zbu x n ∧ zbu x n < n:=by
 unfold zbu
 rw [if_neg (by omega)]
 have:=Int.tmod_lt_of_pos x (show 0 < n by omega)
 have h3 : -n < x.tmod n:=by
  have:=Int.lt_tmod_of_pos x (show 0 < n by omega)
  exact this
 split
 ·rw [z0m _ (by omega) (by omega)]; omega
 ·omega
def z1C (L : List Int) (a n : Int) : Int:=
 if L.length = 0 then zbu (IntKind.i64.wrap ((a + 1) * 7919)) n
 else zbu (IntKind.i64.wrap (zbu (L.getD (a.tmod L.length).toNat 0) 1073741824 + IntKind.i64.wrap (IntKind.i64.wrap (a.tdiv L.length) * IntKind.i64.wrap (7919 + a.tmod L.length)))) n
theorem z4A (L : List Int) (a n : Int) (h1 : 1 ≤ n) (h2 : n ≤ 4611686018427387904) : 0 ≤ z1C L a n ∧ z1C L a n < n:=by
 unfold z1C
 split <;> exact zq4 _ _ h1 h2
theorem z6l {h : Heap} {id : Nat} {o' : Obj} (hid : id < h.length) : (h.set id o')[id]? = some o':=by simp [hid]
theorem z56 {h : Heap} {id : Nat} {o : Obj} (hh : h[id]? = some o) : id < h.length:=(List.getElem?_eq_some_iff.1 hh).1
def posN (n : Nat) (a : Int) : Prop:=0 ≤ a ∧ a + n < 4611686018427387904
theorem z1w {n m : Nat} {a b : Int} (H : posN m a) (h : a ≤ b) (hn : b + n ≤ a + m) : posN n b:=by unfold posN at *; omega
theorem zga {a : Int} (H : posN 14 a) : posN 0 (a) ∧ posN 0 (a + 1) ∧ posN 0 (a + 1 + 1) ∧ posN 0 (a + 1 + 1 + 1) ∧ posN 0 (a + 1 + 1 + 1 + 1) ∧ posN 0 (a + 1 + 1 + 1 + 1 + 1) ∧ posN 0 (a + 1 + 1 + 1 + 1 + 1 + 1) ∧ posN 0 (a + 1 + 1 + 1 + 1 + 1 + 1 + 1) ∧ posN 0 (a + 1 + 1 + 1 + 1 + 1 + 1 + 1 + 1) ∧ posN 0 (a + 1 + 1 + 1 + 1 + 1 + 1 + 1 + 1 + 1) ∧ posN 0 (a + 1 + 1 + 1 + 1 + 1 + 1 + 1 + 1 + 1 + 1) ∧ posN 0 (a + 1 + 1 + 1 + 1 + 1 + 1 + 1 + 1 + 1 + 1 + 1) ∧ posN 0 (a + 1 + 1 + 1 + 1 + 1 + 1 + 1 + 1 + 1 + 1 + 1 + 1) ∧ posN 0 (a + 1 + 1 + 1 + 1 + 1 + 1 + 1 + 1 + 1 + 1 + 1 + 1 + 1) ∧ posN 0 (a + 1 + 1 + 1 + 1 + 1 + 1 + 1 + 1 + 1 + 1 + 1 + 1 + 1 + 1):=by
 unfold posN at *; omega
def Gen (f : Nat) (args : List AV) (L : List Int) (a a2 : Int) (v : AV) : Prop:=∀ (h : Heap) (id : Nat) (K : Post),h[id]? = some (strm L a) → z0c X f (.ref id 0 :: args) h K = K v (h.set id (strm L a2)) []
section
variable {f : Nat} {args : List AV} {L : List Int} {a a2 : Int} {v : AV} {h l : Heap} {id : Nat} {K : Post}
theorem Gen.set (g : Gen f args L a a2 v) (hid : id < h.length) : z0c X f (.ref id 0 :: args) (h.set id (strm L a)) K = K v (h.set id (strm L a2)) []:=by
 rw [g _ _ _ (z6l hid),List.set_set]
theorem Gen.app (g : Gen f args L a a2 v) (hid : id < h.length) : z0c X f (.ref id 0 :: args) (h.set id (strm L a) ++ l) K = K v (h.set id (strm L a2) ++ l) []:=by
 rw [g _ _ _ (by rw [zm6 (by simpa using hid)]; exact z6l hid),zpN (by simpa using hid),List.set_set]
theorem Gen.hd (g : Gen f args L a a2 v) : z0c X f (.ref 0 0 :: args) (strm L a :: l) K = K v (strm L a2 :: l) []:=by
 rw [g _ _ _ rfl]; rfl
theorem Gen.of (H : ∀ (h : Heap) (id : Nat),id < h.length → z0c X f (.ref id 0 :: args) (h.set id (strm L a)) fun v1 h1 x1=>v1 = v ∧ h1 = h.set id (strm L a2) ∧ x1 = []) : Gen f args L a a2 v:=by
 intro h id K hh
 have hid:=z56 hh
 have : h.set id (strm L a) = h:=by
  apply List.ext_getElem?
  intro i
  rw [List.getElem?_set]
  split
  ·rename_i e; subst e; rw [hh]
  ·rfl
 have k:=H h id hid
 rw [this] at k
 exact rule k
end
def GenE (f : Nat) (args : List AV) (L : List Int) (a : Int) (Q : AV → Int → Prop) : Prop:=∀ (h : Heap) (id : Nat),h[id]? = some (strm L a) → ∃ v a2,Q v a2 ∧ ∀ K : Post,z0c X f (.ref id 0 :: args) h K = K v (h.set id (strm L a2)) []
section
variable {f : Nat} {args : List AV} {L : List Int} {a : Int} {Q : AV → Int → Prop}
theorem GenE.set (g : GenE f args L a Q) {h : Heap} {id : Nat} (hid : id < h.length) : ∃ v a2,Q v a2 ∧ ∀ K : Post,z0c X f (.ref id 0 :: args) (h.set id (strm L a)) K = K v (h.set id (strm L a2)) []:=by
 obtain ⟨v,a2,q,r⟩:=g _ _ (z6l hid)
 exact ⟨v,a2,q,fun K=>by rw [r,List.set_set]⟩
theorem GenE.app (g : GenE f args L a Q) {h l : Heap} {id : Nat} (hid : id < h.length) : ∃ v a2,Q v a2 ∧ ∀ K : Post,z0c X f (.ref id 0 :: args) (h.set id (strm L a) ++ l) K = K v (h.set id (strm L a2) ++ l) []:=by
 obtain ⟨v,a2,q,r⟩:=g (h.set id (strm L a) ++ l) id (by rw [zm6 (by simpa using hid)]; exact z6l hid)
 exact ⟨v,a2,q,fun K=>by rw [r,zpN (by simpa using hid),List.set_set]⟩
theorem GenE.hd (g : GenE f args L a Q) {l : Heap} : ∃ v a2,Q v a2 ∧ ∀ K : Post,z0c X f (.ref 0 0 :: args) (strm L a :: l) K = K v (strm L a2 :: l) []:=g (strm L a :: l) 0 rfl
theorem GenE.of (H : ∀ (h : Heap) (id : Nat),id < h.length → z0c X f (.ref id 0 :: args) (h.set id (strm L a)) fun v1 h1 x1=>∃ a2,Q v1 a2 ∧ h1 = h.set id (strm L a2) ∧ x1 = []) : GenE f args L a Q:=by
 intro h id hh
 have hid:=z56 hh
 have : h.set id (strm L a) = h:=by
  apply List.ext_getElem?
  intro i
  rw [List.getElem?_set]
  split
  ·rename_i e; subst e; rw [hh]
  ·rfl
 have k:=H h id hid
 rw [this] at k
 obtain ⟨v,h',x,⟨a2,q,e1,e2⟩,r⟩:=z0c.one ze5 k
 subst e1; subst e2
 exact ⟨v,a2,q,r⟩
end
def z3L (l : List Int) (L : List Int) (a : Int) : Int:=l.getD (z1C L a l.length).toNat 0
theorem z82 {l L : List Int} {a : Int} (hl : 0 < l.length) (hl2 : l.length < 4611686018427387904) : z3L l L a ∈ l:=by
 obtain ⟨b1,b2⟩:=z4A L a l.length (by omega) (by omega)
 unfold z3L
 have : (z1C L a l.length).toNat < l.length:=by omega
 simp only [List.getD,List.getElem?_eq_getElem this,Option.getD_some]
 exact List.getElem_mem _
def isI : PV → Bool
 | .int .i64 _=>true
 | _=>false
def unI : PV → Int
 | .int _ n=>n
 | _=>0
theorem zwT {xs : List PV} (h : xs.all isI = true) : xs = (xs.map unI).map eI:=by
 induction xs with
 | nil=>rfl
 | cons x r ih=>
  simp only [List.all_cons,Bool.and_eq_true] at h
  simp only [List.map_cons]
  rw [← ih h.2]
  cases x with
  | int k n=>cases k <;> first | rfl | cases h.1
  | _=>cases h.1
set_option maxHeartbeats 400000 in
theorem zm2 (L : List Int) (a n : Int) (hp : posN 0 a) : Gen z1W [AI n] L a (a + 1) (AI (z1C L a n)):=by
 refine Gen.of fun h id hid=>?_
 rw [c_q02r rfl]
 obtain ⟨h0,h1⟩:=hp
 have w1 : IntKind.i64.wrap (a + 1) = a + 1:=z0m _ (by omega) (by omega)
 have w2 : IntKind.i64.wrap (a + 1 - 1) = a:=by rw [z0m _ (by omega) (by omega)]; omega
 have hs : ∀ o',(h.set id o')[id]? = some o':=fun o'=>z6l hid
 rcases Nat.eq_zero_or_pos L.length with hl | hl
 ·simp only [zfe,go_sem,hs,zp9,hl,w1]
  simp only [z1C,hl,if_true]
 ·have e1 : ((L.length : Int) = 0) = False:=by simp only [eq_iff_iff,iff_false]; omega
  have e2 : 0 ≤ a.tmod L.length:=Int.tmod_nonneg _ h0
  have e3 : a.tmod L.length < L.length:=Int.tmod_lt_of_pos _ (by omega)
  have e4:=z8g (k:=.i64) e2
  have e5 : (L.map eI)[(a.tmod L.length).toNat]? = some (eI (L.getD (a.tmod L.length).toNat 0)):=by
   rw [z18 eI (show (a.tmod L.length).toNat < L.length by omega)]
   simp [List.getD,show (a.tmod L.length).toNat < L.length by omega]
  simp only [zfe,go_sem,hs,zp9,e1,w1,w2,e4,e5]
  simp only [z1C,show ¬ L.length = 0 by omega,if_false]
section
variable {L : List Int} {a : Int} {h l : Heap} {id : Nat} {K : Post}
theorem z2j (hid : id < h.length) (hp : posN 0 a) (n : Int) : z0c X z1W [.ref id 0,AI n] (h.set id (strm L a)) K = K (AI (z1C L a n)) (h.set id (strm L (a + 1))) []:=(zm2 L a n hp).set hid
theorem z9O (hid : id < h.length) (hp : posN 0 a) (n : Int) : z0c X z1W [.ref id 0,AI n] (h.set id (strm L a) ++ l) K = K (AI (z1C L a n)) (h.set id (strm L (a + 1)) ++ l) []:=(zm2 L a n hp).app hid
theorem zdj (hp : posN 0 a) (n : Int) : z0c X z1W [.ref 0 0,AI n] (strm L a :: l) K = K (AI (z1C L a n)) (strm L (a + 1) :: l) []:=(zm2 L a n hp).hd
theorem zm1 (hp : posN 0 a) (n : Int) : Gen z2q [AI n] L a (a + 1) (AB (decide (z1C L a n = 0))):=by
 refine Gen.of fun h id hid=>?_
 rw [c_q02q rfl]
 simp only [zkq,go_sem,z2j hid hp]
theorem z9N (hid : id < h.length) (hp : posN 0 a) (n : Int) : z0c X z2q [.ref id 0,AI n] (h.set id (strm L a)) K = K (AB (decide (z1C L a n = 0))) (h.set id (strm L (a + 1))) []:=(zm1 hp n).set hid
theorem z9M (hid : id < h.length) (hp : posN 0 a) (n : Int) : z0c X z2q [.ref id 0,AI n] (h.set id (strm L a) ++ l) K = K (AB (decide (z1C L a n = 0))) (h.set id (strm L (a + 1)) ++ l) []:=(zm1 hp n).app hid
theorem zdi (hp : posN 0 a) (n : Int) : z0c X z2q [.ref 0 0,AI n] (strm L a :: l) K = K (AB (decide (z1C L a n = 0))) (strm L (a + 1) :: l) []:=(zm1 hp n).hd
theorem zm3 (hp : posN 0 a) (xs : List PV) (hx : xs.all isI = true) (hl : 0 < xs.length) (hl2 : xs.length < 4611686018427387904) :
 Gen z1v [.p (.sl none xs)] L a (a + 1) (AI (z3L (xs.map unI) L a)):=by
 refine Gen.of fun h id hid=>?_
 rw [c_q02t rfl]
 obtain ⟨b1,b2⟩:=z4A L a xs.length (by omega) (by omega)
 have e4:=z8g (k:=.i64) b1
 have e5 : xs[(z1C L a xs.length).toNat]? = some (eI (z3L (xs.map unI) L a)):=by
  have hm:=zwT hx
  generalize hq : xs.map unI = q at *
  subst hm
  simp only [List.length_map] at *
  rw [z18 eI (show (z1C L a q.length).toNat < q.length by omega)]
  simp [z3L,List.getD,show (z1C L a q.length).toNat < q.length by omega]
 simp only [zkr,go_sem,z2j hid hp,e4,e5]
theorem z9Q (hid : id < h.length) (hp : posN 0 a) {xs : List PV} (hx : xs.all isI = true) (hl : 0 < xs.length) (hl2 : xs.length < 4611686018427387904) :
 z0c X z1v [.ref id 0,.p (.sl none xs)] (h.set id (strm L a)) K = K (AI (z3L (xs.map unI) L a)) (h.set id (strm L (a + 1))) []:=(zm3 hp xs hx hl hl2).set hid
theorem z9P (hid : id < h.length) (hp : posN 0 a) {xs : List PV} (hx : xs.all isI = true) (hl : 0 < xs.length) (hl2 : xs.length < 4611686018427387904) :
 z0c X z1v [.ref id 0,.p (.sl none xs)] (h.set id (strm L a) ++ l) K = K (AI (z3L (xs.map unI) L a)) (h.set id (strm L (a + 1)) ++ l) []:=(zm3 hp xs hx hl hl2).app hid
theorem zdk (hp : posN 0 a) {xs : List PV} (hx : xs.all isI = true) (hl : 0 < xs.length) (hl2 : xs.length < 4611686018427387904) :
 z0c X z1v [.ref 0 0,.p (.sl none xs)] (strm L a :: l) K = K (AI (z3L (xs.map unI) L a)) (strm L (a + 1) :: l) []:=(zm3 hp xs hx hl hl2).hd
def z2H (u v : Int) (L : List Int) (a : Int) : Int:=u + z1C L a (v - u + 1)
theorem z85 {u v : Int} (L : List Int) (a : Int) (h1 : u ≤ v) (h2 : v ≤ u + 4611686018427387900) : u ≤ z2H u v L a ∧ z2H u v L a ≤ v:=by
 have:=z4A L a (v - u + 1) (by omega) (by omega)
 unfold z2H; omega
theorem zdW (hp : posN 0 a) (u v : Int) (huv : u ≤ v) (hu : -1152921504606846976 ≤ u) (hv : v ≤ 1152921504606846976) :
 Gen z3U [AI u,AI v] L a (a + 1) (AI (z2H u v L a)):=by
 refine Gen.of fun h id hid=>?_
 rw [c_q02u rfl]
 obtain ⟨b1,b2⟩:=z85 L a huv (by omega)
 have w1 : IntKind.i64.wrap (v - u) = v - u:=z0m _ (by omega) (by omega)
 have w2 : IntKind.i64.wrap (v - u + 1) = v - u + 1:=z0m _ (by omega) (by omega)
 have w3 : IntKind.i64.wrap (u + z1C L a (v - u + 1)) = z2H u v L a:=z0m (z2H u v L a) (by omega) (by omega)
 simp only [zks,go_sem,show ¬ v < u by omega,w1,w2,z2j hid hp,w3]
theorem z8G (hid : id < h.length) (hp : posN 0 a) {u v : Int} (huv : u ≤ v) (hu : -1152921504606846976 ≤ u) (hv : v ≤ 1152921504606846976) :
 z0c X z3U [.ref id 0,AI u,AI v] (h.set id (strm L a)) K = K (AI (z2H u v L a)) (h.set id (strm L (a + 1))) []:=(zdW hp u v huv hu hv).set hid
theorem z8F (hid : id < h.length) (hp : posN 0 a) {u v : Int} (huv : u ≤ v) (hu : -1152921504606846976 ≤ u) (hv : v ≤ 1152921504606846976) :
 z0c X z3U [.ref id 0,AI u,AI v] (h.set id (strm L a) ++ l) K = K (AI (z2H u v L a)) (h.set id (strm L (a + 1)) ++ l) []:=(zdW hp u v huv hu hv).app hid
theorem z9R (hp : posN 0 a) {u v : Int} (huv : u ≤ v) (hu : -1152921504606846976 ≤ u) (hv : v ≤ 1152921504606846976) :
 z0c X z3U [.ref 0 0,AI u,AI v] (strm L a :: l) K = K (AI (z2H u v L a)) (strm L (a + 1) :: l) []:=(zdW hp u v huv hu hv).hd
end
attribute [go_sem ↓] z2j z9O zdj z9N z9M zdi z9Q z9P zdk z8G z8F z9R
attribute [go_sem] z2j z9O zdj z9N z9M zdi z9Q z9P zdk z8G z8F z9R isI unI
end Go.Am
end
section
/- Maps,asv lists of keys with values. -/
open Go
set_option linter.all false
namespace Go.Am
section
variable {α β : Type} [DecidableEq α]
def mesF (key : α → PV) (val : β → AV) : Nat → List (α × β) → List ME
 | _,[]=>[]
 | n,e :: r=>⟨key e.1,val e.2,n⟩ :: mesF key val (n + 1) r
def mobj (key : α → PV) (val : β → AV) (l : List (α × β)) : Obj:=.amap (mesF key val 0 l) l.length
def z1J (k : α) : List (α × β) → Option Nat
 | []=>none
 | e :: r=>if k = e.1 then some 0 else (z1J k r).map (· + 1)
def getM (k : α) : List (α × β) → Option β
 | []=>none
 | e :: r=>if k = e.1 then some e.2 else getM k r
def updM (k : α) (v : β) : List (α × β) → List (α × β)
 | []=>[(k,v)]
 | e :: r=>if k = e.1 then (k,v) :: r else e :: updM k v r
def KeyI (key : α → PV) : Prop:=∀ a b,PV.eqv (key a) (key b) = some (decide (a = b))
theorem za3 : KeyI (fun n : Int=>PV.int .i64 n):=fun a b=>by simp [PV.eqv,PV.eq1]
theorem z8c {n : Int} {k : IntKind} : z4H (none,[0]) (.p (.int k n)) = some (.int k n):=by simp [z4H,PV.key,PV.shp,PV.sc,PV.cells,PV.kind]
variable {key : α → PV} {val : β → AV}
theorem z8e (hk : KeyI key) (k : α) : ∀ (l : List (α × β)) (n : Nat),z2t (key k) (mesF key val n l) = some (z1J k l)
 | [],n=>rfl
 | e :: r,n=>by
  simp only [mesF,z2t,hk k e.1,z1J]
  by_cases h : k = e.1
  ·simp [h]
  ·simp [h,z8e hk k r (n + 1)]
theorem za5 : ∀ (l : List (α × β)) (n i : Nat),(mesF key val n l)[i]? = (l[i]?).map fun e=>⟨key e.1,val e.2,n + i⟩
 | [],n,i=>rfl
 | e :: r,n,0=>rfl
 | e :: r,n,i + 1=>by simp only [mesF,List.getElem?_cons_succ,za5 r (n + 1) i]; rw [show n + 1 + i = n + (i + 1) by omega]
theorem zgA {k : α} : ∀ {l : List (α × β)} {i : Nat},z1J k l = some i → i < l.length
 | [],i,h=>by cases h
 | e :: r,i,h=>by
  unfold z1J at h
  split at h
  ·cases h; simp
  ·obtain ⟨j,hj,e2⟩:=Option.map_eq_some_iff.1 h
   have:=zgA hj
   simp; omega
theorem z8O {k : α} : ∀ {l : List (α × β)} {i : Nat},z1J k l = some i → l[i]? = (getM k l).map fun v=>(k,v)
 | [],i,h=>by cases h
 | e :: r,i,h=>by
  unfold z1J at h
  unfold getM
  split at h
  ·rename_i hk; cases h; simp [hk]
  ·rename_i hk
   obtain ⟨j,hj,e2⟩:=Option.map_eq_some_iff.1 h
   subst e2
   rw [if_neg hk,List.getElem?_cons_succ]
   exact z8O hj
theorem zaf {k : α} : ∀ {l : List (α × β)},z1J k l = none → getM k l = none
 | [],h=>rfl
 | e :: r,h=>by
  unfold z1J at h
  unfold getM
  split at h
  ·cases h
  ·rename_i hk
   rw [if_neg hk]
   exact zaf (by simpa using h)
theorem zag {k : α} : ∀ {l : List (α × β)} {i : Nat},z1J k l = some i → (getM k l).isSome = true
 | [],i,h=>by cases h
 | e :: r,i,h=>by
  unfold z1J at h
  unfold getM
  split at h
  ·rename_i hk; simp [hk]
  ·rename_i hk
   obtain ⟨j,hj,e2⟩:=Option.map_eq_some_iff.1 h
   rw [if_neg hk]
   exact zag hj
theorem zr3 {k : α} {l : List (α × β)} {n : Nat} : ((z1J k l).bind fun i=>(mesF key val n l)[i]?).map ME.val = (getM k l).map val:=by
 cases h : z1J k l with
 | none=>rw [zaf h]; rfl
 | some i=>
  simp only [Option.bind_some,za5,z8O h]
  cases getM k l <;> rfl
theorem zg2 {k : α} {v : β} : ∀ {l : List (α × β)},z1J k l = none → updM k v l = l ++ [(k,v)]
 | [],h=>rfl
 | e :: r,h=>by
  unfold z1J at h
  unfold updM
  split at h
  ·cases h
  ·rename_i hk
   rw [if_neg hk,zg2 (by simpa using h)]; rfl
theorem zg3 {k : α} {v : β} : ∀ {l : List (α × β)} {i : Nat},z1J k l = some i → updM k v l = l.set i (k,v)
 | [],i,h=>by cases h
 | e :: r,i,h=>by
  unfold z1J at h
  unfold updM
  split at h
  ·rename_i hk; cases h; simp [hk]
  ·rename_i hk
   obtain ⟨j,hj,e2⟩:=Option.map_eq_some_iff.1 h
   subst e2
   rw [if_neg hk,zg3 hj]; rfl
theorem zfO (k : α) (v : β) : ∀ (l : List (α × β)) (n : Nat),mesF key val n (l ++ [(k,v)]) = mesF key val n l ++ [⟨key k,val v,n + l.length⟩]
 | [],n=>rfl
 | e :: r,n=>by simp only [List.cons_append,mesF,zfO k v r (n + 1),List.length_cons]; rw [show n + 1 + r.length = n + (r.length + 1) by omega]
theorem zh4 {k : α} {v : β} {l : List (α × β)} {i n : Nat} (h : z1J k l = some i) : (mesF key val n l).modify i (fun e=>{ e with val:=val v }) = mesF key val n (l.set i (k,v)):=by
 apply List.ext_getElem?
 intro j
 rw [List.getElem?_modify,za5,za5,List.getElem?_set]
 have hi:=zgA h
 have hg:=z8O h
 by_cases hij : i = j
 ·subst hij
  rw [hg]
  simp only [if_true,hi]
  obtain ⟨w,hw⟩:=Option.isSome_iff_exists.1 (zag h)
  rw [hw]; rfl
 ·simp [hij]
variable {h : Heap} {id : Nat} {l : List (α × β)} {kk : Sh × List Nat} {k : α}
theorem zfP (hh : h[id]? = some (mobj key val l)) : mget h (.mp id) = some (id,mesF key val 0 l,l.length):=by
 simp only [mget,hh,mobj]
theorem zfM (hk : KeyI key) (hh : h[id]? = some (mobj key val l)) (hq : z4H kk (.p (key k)) = some (key k)) {ok : Bool} {z : AV} :
 z6U kk ok z (.mp id) (.p (key k)) h = some (bif ok then .tup [((getM k l).map val).getD z,AV.p (.bool (getM k l).isSome)] else ((getM k l).map val).getD z):=by
 simp only [z6U,hq,zfP hh,Option.map_some,z8e hk,zr3,Option.isSome_map]
 rfl
theorem zr6 (hk : KeyI key) (hh : h[id]? = some (mobj key val l)) (hq : z4H kk (.p (key k)) = some (key k)) {v : β} (hv : okIn (val v) = true) :
 za9 kk (.mp id) (.p (key k)) (val v) h = some (.und,h.set id (mobj key val (updM k v l)),z2V id (val v)):=by
 simp only [za9,hq,zfP hh,hv,z8e hk]
 cases hw : z1J k l with
 | none=>
  simp only [mobj,zg2 hw,zfO,List.length_append,List.length_cons,List.length_nil,Nat.zero_add]
 | some i=>
  simp only [mobj,zg3 hw,zh4 hw,List.length_set]
end
end Go.Am
end
section
/- The shortest way between two states of a test access port: a search over a queue. -/
open Go
set_option linter.all false
namespace Go.Am
variable {h : Heap} {K : Post}
attribute [-go_sem] z6U za9 za7 za8
def nxtT : List (List Nat):=[[1,0],[1,2],[3,9],[4,5],[4,5],[6,8],[6,7],[4,8],[1,2],[10,0],[11,12],[11,12],[13,15],[13,14],[11,15],[1,2]]
def nxt (s t : Nat) : Nat:=(nxtT.getD s []).getD t 0
theorem zvY {s t : Nat} (hs : s < 16) (ht : t < 2) : ([AI 1,AI 0,AI 1,AI 2,AI 3,AI 9,AI 4,AI 5,AI 4,AI 5,AI 6,AI 8,AI 6,AI 7,AI 4,AI 8,AI 1,AI 2,AI 10,AI 0,AI 11,AI 12,AI 11,AI 12,AI 13,AI 15,AI 13,AI 14,AI 11,AI 15,AI 1,AI 2] : List AV)[s * 2 + t * 1]? = some (AI (nxt s t)):=by
 have hs' : s = 0 ∨ s = 1 ∨ s = 2 ∨ s = 3 ∨ s = 4 ∨ s = 5 ∨ s = 6 ∨ s = 7 ∨ s = 8 ∨ s = 9 ∨ s = 10 ∨ s = 11 ∨ s = 12 ∨ s = 13 ∨ s = 14 ∨ s = 15:=by omega
 have ht' : t = 0 ∨ t = 1:=by omega
 rcases hs' with rfl | rfl | rfl | rfl | rfl | rfl | rfl | rfl | rfl | rfl | rfl | rfl | rfl | rfl | rfl | rfl <;> rcases ht' with rfl | rfl <;> rfl
theorem zm5 {Y : Ctx} (hY : Y.fn z4S = some z7o) (s t : Nat) (hs : s < 16) (ht : t < 2) : z0c Y z4S [AI s,AI t] h K = K (AI (nxt s t)) h []:=by
 refine rule ?_
 rw [z0i hY rfl (show z0s h [AI s,AI t] = some ([AI s,AI t],h) from rfl) rfl,ztp]
 show zfr _ _ _ _ _ _ (finR [.t 4] false _ _)
 have g:=zvY hs ht
 simp only [zfr,go_sem,hs,ht,g]
abbrev Ways:=List (Int × List UInt8)
def keyP (n : Int) : PV:=.int .i64 n
def valP (s : List UInt8) : AV:=.p (.str s)
def bit1 (t : Nat) : List UInt8:=[UInt8.ofNat (48 + t)]
def zd3 (at_ t : Nat) (s : Ways × List Nat) : Ways × List Nat:=
 if (getM (nxt at_ t : Int) s.1).isSome then s else (updM (nxt at_ t : Int) ((getM (at_ : Int) s.1).getD [] ++ bit1 t) s.1,s.2 ++ [nxt at_ t])
def z6m (at_ : Nat) : Nat → Ways × List Nat → Ways × List Nat
 | 0,s=>s
 | t + 1,s=>zd3 at_ t (z6m at_ t s)
def popS (s : Ways × List Nat) : Ways × List Nat:=match s.2 with
 | []=>s
 | a :: r=>z6m a 2 (s.1,r)
def bfs (a : Nat) : Nat → Ways × List Nat
 | 0=>([((a : Int),[])],[a])
 | k + 1=>popS (bfs a k)
def z0d (a b : Nat) : List UInt8:=(getM (b : Int) (bfs a 16).1).getD []
def zhs (s : Ways × List Nat) : Bool:=decide (s.1.length ≤ 16) && decide (s.2.length ≤ 16) && s.2.all (fun x=>decide (x < 16)) && s.1.all (fun e=>decide (e.2.length ≤ 16))
theorem zjP : (List.range 16).all (fun a=>(List.range 16).all (fun k=>zhs (bfs a k) && !(bfs a k).2.isEmpty) && zhs (bfs a 16) && (bfs a 16).2.isEmpty) = true:=by kernel_rfl
theorem zq6 {a k : Nat} (ha : a < 16) (hk : k < 16) : zhs (bfs a k) = true ∧ (bfs a k).2 ≠ []:=by
 have h1:=List.all_eq_true.1 zjP a (List.mem_range.2 ha)
 simp only [Bool.and_eq_true] at h1
 have h2:=List.all_eq_true.1 h1.1.1 k (List.mem_range.2 hk)
 simp only [Bool.and_eq_true,Bool.not_eq_true',List.isEmpty_eq_false_iff] at h2
 exact h2
theorem zuP {a : Nat} (ha : a < 16) : zhs (bfs a 16) = true ∧ (bfs a 16).2 = []:=by
 have h1:=List.all_eq_true.1 zjP a (List.mem_range.2 ha)
 simp only [Bool.and_eq_true,List.isEmpty_iff] at h1
 exact ⟨h1.1.2,h1.2⟩
theorem zrl {s : Ways × List Nat} (hf : zhs s = true) : s.1.length ≤ 16 ∧ s.2.length ≤ 16 ∧ (∀ x ∈ s.2,x < 16) ∧ ∀ e ∈ s.1,e.2.length ≤ 16:=by
 unfold zhs at hf
 simp only [Bool.and_eq_true,decide_eq_true_eq,List.all_eq_true] at hf
 exact ⟨hf.1.1.1,hf.1.1.2,hf.1.2,hf.2⟩
theorem lookP {hp : Heap} {id : Nat} {m : Ways} {b : Int} (hh : hp[id]? = some (mobj keyP valP m)) : z6U (none,[0]) false (.p (.str [])) (.mp id) (AI b) hp = some (.p (.str ((getM b m).getD []))):=by
 have:=zfM (key:=keyP) (val:=valP) (fun a b=>za3 a b) hh (kk:=(none,[0])) (k:=b) z8c (ok:=false) (z:=.p (.str []))
 rw [cond_false] at this
 refine this.trans ?_
 cases getM b m <;> rfl
theorem lookQ {hp : Heap} {id : Nat} {m : Ways} {b : Int} (hh : hp[id]? = some (mobj keyP valP m)) : z6U (none,[0]) true (.p (.str [])) (.mp id) (AI b) hp = some (.tup [.p (.str ((getM b m).getD [])),AB (getM b m).isSome]):=by
 have:=zfM (key:=keyP) (val:=valP) (fun a b=>za3 a b) hh (kk:=(none,[0])) (k:=b) z8c (ok:=true) (z:=.p (.str []))
 rw [cond_true] at this
 refine this.trans ?_
 cases getM b m <;> rfl
theorem updP {hp : Heap} {id : Nat} {m : Ways} {b : Int} {v : List UInt8} (hh : hp[id]? = some (mobj keyP valP m)) : za9 (none,[0]) (.mp id) (AI b) (.p (.str v)) hp = some (.und,hp.set id (mobj keyP valP (updM b v m)),[]):=
 zr6 (key:=keyP) (val:=valP) (fun a b=>za3 a b) hh (kk:=(none,[0])) (k:=b) z8c (v:=v) rfl
structure Que (R : Heap) (i : Nat) (xs : List Nat) (off : Nat) (q : List Nat) : Prop where
 get : R[i]? = some (.row none (xs.map fun n : Nat=>eI n) 0)
 le : off ≤ xs.length
 eq : xs.drop off = q
theorem nq_one {hp : Heap} {id : Nat} {xs : List Nat} {off : Nat} {n : Int} {k : AV → Heap → Esc → Prop} (hh : hp[id]? = some (.row none (xs.map fun n : Nat=>eI n) 0)) (ho : off ≤ xs.length) (hm : xs.length ≤ 1000000)
 (k1 : k (.own id (xs.length + 1) off (xs.length - off + 1)) (hp.set id (.row none (xs.map (fun n : Nat=>eI n) ++ [eI n]) 0)) [])
 (k2 : k (.own hp.length (xs.length - off + 1) 0 (xs.length - off + 1)) (hp ++ [.row none ((xs.drop off).map (fun n : Nat=>eI n) ++ [eI n]) 0]) []) :
 nqK (some none) [.own id xs.length off (xs.length - off),.p (.sl none [eI n])] hp k:=by
 have hx : xs.length - off + 1 ≤ z0F:=by unfold z0F; omega
 have hr : rds hp (.p (.sl none [eI n])) = some (none,[eI n]):=rfl
 have hw : win (xs.map fun n : Nat=>eI n) off (xs.length - off) = (xs.drop off).map fun n : Nat=>eI n:=by
  unfold win
  rw [← List.map_drop]
  exact List.take_of_length_le (by simp)
 unfold nqK z4Z appq
 simp only [hr,if_true,hh,List.length_map,List.length_cons,List.length_nil,Nat.zero_add]
 rw [if_pos ⟨trivial,trivial,by omega,hx,Nat.zero_le _⟩,hw]
 refine ⟨by simp,fun y hy=>?_⟩
 simp only [List.mem_cons,List.not_mem_nil,or_false] at hy
 rcases hy with rfl | rfl
 ·exact k1
 ·exact k2
theorem zfN {α β : Type} [DecidableEq α] {k : α} {v : β} : ∀ {l : List (α × β)} {e : α × β},e ∈ updM k v l → e ∈ l ∨ e = (k,v)
 | [],e,h=>by simp [updM] at h; exact .inr h
 | x :: r,e,h=>by
  unfold updM at h
  split at h
  ·rcases List.mem_cons.1 h with h | h
   ·exact .inr h
   ·exact .inl (List.mem_cons_of_mem _ h)
  ·rcases List.mem_cons.1 h with h | h
   ·exact .inl (h ▸ List.mem_cons_self)
   ·rcases zfN h with h | h
    ·exact .inl (List.mem_cons_of_mem _ h)
    ·exact .inr h
theorem zfF {α β : Type} [DecidableEq α] {k : α} {v : β} : ∀ {l : List (α × β)},getM k l = some v → (k,v) ∈ l
 | [],h=>by cases h
 | x :: r,h=>by
  unfold getM at h
  split at h
  ·rename_i he; cases h; subst he; simp
  ·exact List.mem_cons_of_mem _ (zfF h)
theorem zg9 {n : Nat} {w : Ways} (hw : ∀ e ∈ w,e.2.length ≤ n) (k : Int) : ((getM k w).getD []).length ≤ n:=by
 cases hg : getM k w with
 | none=>simp
 | some v=>exact hw _ (zfF hg)
theorem zqd {n at_ t : Nat} {s : Ways × List Nat} (hw : ∀ e ∈ s.1,e.2.length ≤ n) : ∀ e ∈ (zd3 at_ t s).1,e.2.length ≤ n + 1:=by
 unfold zd3
 split
 ·intro e he; have:=hw e he; omega
 ·intro e he
  rcases zfN he with h | h
  ·have:=hw e h; omega
  ·subst h
   have:=zg9 hw (at_ : Int)
   simp [bit1]; omega
theorem zad {n at_ : Nat} {s : Ways × List Nat} (hw : ∀ e ∈ s.1,e.2.length ≤ n) : ∀ (t : Nat),∀ e ∈ (z6m at_ t s).1,e.2.length ≤ n + t
 | 0=>hw
 | t + 1=>zqd (zad hw t)
set_option maxHeartbeats 1000000 in
theorem zuq {Y : Ctx} (hY1 : Y.fn z3W = some z9b) (hY2 : Y.fn z4S = some z7o) (a b : Nat) (ha : a < 16) (hb : b < 16) : z0c Y z3W [AI a,AI b] h K = K (.p (.str (z0d a b))) h []:=by
 refine rule ?_
 rw [z29 hY1 rfl (show z0s h [AI a,AI b] = some ([AI a,AI b],h) from rfl) rfl]
 simp only [ztq]
 show ∃ v h' x,_ ∧ zci _ _ _ _ _ _ _ _ (finR [.t 4] false _ _)
 simp only [zci]
 refine ⟨_,_,_,⟨rfl,rfl,rfl⟩,?_⟩
 have em : mobj keyP valP [((a : Int),([] : List UInt8))] = .amap [⟨.int .i64 a,.p (.str []),0⟩] 1:=rfl
 have u0:=fun (hp : Heap) (hh : hp[h.length]? = some (mobj keyP valP []))=>updP (b:=(a : Int)) (v:=[]) hh
 have e0 : updM (a : Int) [] ([] : Ways) = [((a : Int),[])]:=rfl
 have em0 : mobj keyP valP ([] : Ways) = .amap [] 0:=rfl
 rw [e0] at u0
 simp only [em0] at u0
 simp only [go_sem,u0]
 refine z0Z (fun t : Nat × Heap × Nat × List Nat × Nat × Option Nat=>⟨[(1,AI b),(5,.mp h.length),(6,.own (h.length + (t.2.2.1 + 1)) t.2.2.2.1.length t.2.2.2.2.1 (t.2.2.2.1.length - t.2.2.2.2.1))] ++ (match t.2.2.2.2.2 with | none=>[] | some q=>[(7,AI q),(25,AI 2),(26,AB false)]),h ++ mobj keyP valP (bfs a t.1).1 :: t.2.1,[]⟩)
  (fun t=>t.1 ≤ 16 ∧ Que t.2.1 t.2.2.1 t.2.2.2.1 t.2.2.2.2.1 (bfs a t.1).2 ∧ t.2.2.2.1.length ≤ 1 + 2 * t.1) (fun t=>16 - t.1) (0,[.row none [eI a] 0],0,[a],0,none) (by simp [bfs]) ⟨by simp,⟨rfl,by simp,rfl⟩,by simp⟩ ?_
 rintro ⟨k,R,i,xs,off,oq⟩ ⟨h1,hq,h2⟩
 dsimp only at h1 hq h2 ⊢
 have hqg:=hq.get
 have hle:=hq.le
 have heq:=hq.eq
 have hln : xs.length - off = (bfs a k).2.length:=by rw [← heq]; simp
 by_cases hk : k < 16
 ·obtain ⟨hf,hne⟩:=zq6 ha hk
  obtain ⟨f1,f2,f3,f4⟩:=zrl hf
  have hpos : 0 < xs.length - off:=by rw [hln]; exact List.length_pos_iff.2 hne
  have hoff : off < xs.length:=by omega
  obtain ⟨q0,qr,hqe⟩ : ∃ q0 qr,(bfs a k).2 = q0 :: qr:=by
   cases hb2 : (bfs a k).2 with
   | nil=>exact absurd hb2 hne
   | cons x y=>exact ⟨x,y,rfl⟩
  have hx0 : xs[off]? = some q0:=by
   have : (xs.drop off)[0]? = some q0:=by rw [heq,hqe]; rfl
   rwa [List.getElem?_drop,Nat.add_zero] at this
  have hdr : xs.drop (off + 1) = qr:=by
   rw [← List.drop_drop,heq,hqe]; rfl
  have hq0 : q0 < 16:=f3 q0 (by rw [hqe]; simp)
  have hgq : (xs.map fun n : Nat=>eI n)[off]? = some (eI q0):=by rw [List.getElem?_map,hx0]; rfl
  have hpi : (0 : Int) < ((xs.length - off : Nat) : Int):=by omega
  have hl1 : 1 ≤ xs.length - off:=by omega
  have hbn : bfs a (k + 1) = z6m q0 2 ((bfs a k).1,qr):=by show popS _ = _; unfold popS; rw [hqe]
  have e3 : xs.length - off - 1 = xs.length - (off + 1):=by omega
  have hcond : off + (xs.length - off) ≤ xs.length:=by omega
  have hNL : ∀ (e : List (Nat × AV)),z0A (some [1,5,6,7,25]) e = z0A (some [1,5,6,7,25]) e:=fun _=>rfl
  rcases oq with _ | oq
  all_goals
  simp only [List.append_nil,List.cons_append,List.nil_append,go_sem,List.getElem?_cons_succ,hqg,hpi,hpos,hgq,hl1,hcond]
  all_goals
  clear u0 em em0 e0
  generalize hw0 : ((bfs a k).1,qr) = s0 at *
  have es1 : (bfs a k).1 = s0.1:=by rw [← hw0]
  have es2 : qr = s0.2:=by rw [← hw0]
  rw [es1,e3]
  refine z0Z (fun t : Nat × Heap × Nat × List Nat × Nat=>⟨[(1,AI b),(5,.mp h.length),(6,.own (h.length + (t.2.2.1 + 1)) t.2.2.2.1.length t.2.2.2.2 (t.2.2.2.1.length - t.2.2.2.2)),(7,AI q0),(25,AI t.1)],h ++ mobj keyP valP (z6m q0 t.1 s0).1 :: t.2.1,[]⟩)
   (fun t=>t.1 ≤ 2 ∧ Que t.2.1 t.2.2.1 t.2.2.2.1 t.2.2.2.2 (z6m q0 t.1 s0).2 ∧ t.2.2.2.1.length ≤ 1 + 2 * k + t.1) (fun t=>2 - t.1) (0,R,i,xs,off + 1) rfl ⟨by simp,⟨hqg,hoff,by rw [hdr,es2]; rfl⟩,by simp; omega⟩ ?_
  rintro ⟨j,R',i',ys,of'⟩ ⟨j1,jq,j2⟩
  dsimp only at j1 jq j2 ⊢
  have jg:=jq.get
  have jle:=jq.le
  have jeq:=jq.eq
  by_cases hj : j < 2
  ·have hji : (j : Int) < 2:=by omega
   have qn:=fun h K=>zm5 (h:=h) (K:=K) hY2 q0 j hq0 hj
   have hvis : z6m q0 (j + 1) s0 = zd3 q0 j (z6m q0 j s0):=rfl
   generalize hsj : z6m q0 j s0 = s at *
   have lq:=fun (hp : Heap) (hh : hp[h.length]? = some (mobj keyP valP s.1))=>lookQ (b:=(nxt q0 j : Int)) hh
   have lp:=fun (hp : Heap) (hh : hp[h.length]? = some (mobj keyP valP s.1))=>lookP (b:=(q0 : Int)) hh
   have up:=fun (hp : Heap) (v : List UInt8) (hh : hp[h.length]? = some (mobj keyP valP s.1))=>updP (b:=(nxt q0 j : Int)) (v:=v) hh
   have w1 : IntKind.i64.wrap ((j : Int) + 1) = ((j + 1 : Nat) : Int):=z0m _ (by omega) (by omega)
   cases hs : (getM (nxt q0 j : Int) s.1).isSome with
   | true=>
    have hv : zd3 q0 j s = s:=by unfold zd3; rw [if_pos hs]
    rw [hv] at hvis
    simp only [go_sem,hji,↓qn,qn,lq,hs,w1]
    exact ⟨(j + 1,R',i',ys,of'),by dsimp only; rw [hvis],⟨by dsimp only; omega,by dsimp only; rw [hvis]; exact jq,by dsimp only; omega⟩,by dsimp only; omega⟩
   | false=>
    have hv : zd3 q0 j s = (updM (nxt q0 j : Int) ((getM (q0 : Int) s.1).getD [] ++ bit1 j) s.1,s.2 ++ [nxt q0 j]):=by unfold zd3; rw [hs]; rfl
    rw [hv] at hvis
    have w2 : IntKind.i64.wrap (48 + (j : Int)) = ((48 + j : Nat) : Int):=z0m _ (by omega) (by omega)
    have w3 : IntKind.i32.wrap ((48 + j : Nat) : Int) = ((48 + j : Nat) : Int):=by
     have : j = 0 ∨ j = 1:=by omega
     rcases this with rfl | rfl <;> rfl
    have w4 : (0 : Int) ≤ ((48 + j : Nat) : Int) ∧ ((48 + j : Nat) : Int) < 128:=by omega
    have hln2:=zg9 (zad (n:=16) (at_:=q0) (s:=s0) (by rw [← es1]; exact f4) j) (q0 : Int)
    rw [hsj] at hln2
    have w5 : ((getM (q0 : Int) s.1).getD []).length + (bit1 j).length ≤ z00:=by have : (bit1 j).length = 1:=rfl; unfold z00; omega
    have w6 : [UInt8.ofNat ((48 + j : Nat) : Int).toNat] = bit1 j:=rfl
    simp only [go_sem,hji,↓qn,qn,lq,hs,lp,up,w1,w2,w3,w4,w5,w6]
    have hh1 : (h ++ mobj keyP valP (updM (nxt q0 j : Int) ((getM (q0 : Int) s.1).getD [] ++ bit1 j) s.1) :: R')[h.length + (i' + 1)]? = some (.row none (ys.map fun n : Nat=>eI n) 0):=by
     rw [List.getElem?_append_right (by omega)]; simpa using jg
    have hi' : i' < R'.length:=z0f jg
    refine nq_one hh1 jle (by omega) ?_ ?_
    ·refine ⟨(j + 1,R'.set i' (.row none (ys.map (fun n : Nat=>eI n) ++ [eI (nxt q0 j)]) 0),i',ys ++ [nxt q0 j],of'),?_,⟨by dsimp only; omega,⟨?_,?_,?_⟩,?_⟩,by dsimp only; omega⟩
     ·dsimp only
      rw [hvis,List.set_append_right _ _ (by omega)]
      simp only [List.length_append,List.length_cons,List.length_nil,Nat.add_sub_cancel_left,List.set_cons_succ]
      rw [show ys.length + 1 - of' = ys.length - of' + 1 by omega]
     ·dsimp only
      rw [List.getElem?_set_self hi']; simp
     ·simp; omega
     ·dsimp only
      rw [hvis,List.drop_append_of_le_length jle,jeq]
     ·simp; omega
    ·refine ⟨(j + 1,R' ++ [.row none ((ys.drop of').map (fun n : Nat=>eI n) ++ [eI (nxt q0 j)]) 0],R'.length,ys.drop of' ++ [nxt q0 j],0),?_,⟨by dsimp only; omega,⟨?_,?_,?_⟩,?_⟩,by dsimp only; omega⟩
     ·dsimp only
      rw [hvis]
      simp
     ·simp
     ·simp
     ·dsimp only
      rw [hvis,jeq,List.drop_zero]
     ·simp; omega
  ·have hj2 : j = 2:=by omega
   subst hj2
   simp only [go_sem]
   refine ⟨(k + 1,R',i',ys,of',some q0),?_,⟨by dsimp only; omega,by dsimp only; rw [hbn]; exact jq,by dsimp only; omega⟩,by dsimp only; omega⟩
   dsimp only
   rw [hbn]
 ·have hk16 : k = 16:=by omega
  subst hk16
  obtain ⟨_,hne⟩:=zuP ha
  have hz : xs.length - off = 0:=by rw [hln,hne]; rfl
  have lk:=fun (hp : Heap) (hh : hp[h.length]? = some (mobj keyP valP (bfs a 16).1))=>lookP (b:=(b : Int)) hh
  have hpv : (getM (b : Int) (bfs a 16).1).getD [] = z0d a b:=rfl
  rcases oq with _ | oq <;> simp only [List.append_nil,List.cons_append,List.nil_append,go_sem,hz,lk,hpv]
end Go.Am
end
section
/- Plain lists: insertion sort asv Go's package slices does it on short lists; deleting; compacting. -/
namespace Go.Am
variable {α : Type}
end Go.Am
namespace Go.Am
variable {α : Type}
end Go.Am
end
section
/- Faults of nets: what the words mean,in plain Lean. -/
set_option linter.all false
namespace Go.Am
def zv8 (c : UInt8) : Bool:=[48,49].contains c
def z0O (s : List UInt8) : Bool:=s.all zv8
theorem z3S (p : UInt8 → Bool) : ∀ l : List UInt8,l.dropWhile p = [] ↔ l.all p = true
 | []=>by simp
 | c :: r=>by
  rw [List.dropWhile_cons,List.all_cons]
  cases hp : p c with
  | true=>simp only [if_true,Bool.true_and]; exact z3S p r
  | false=>simp
theorem zpX (s : List UInt8) : decide ((s.reverse.dropWhile ([48,49].contains ·)).reverse.dropWhile ([48,49].contains ·) = []) = z0O s:=by
 rw [Bool.eq_iff_iff,decide_eq_true_eq,z3S,List.all_reverse]
 have hb : z0O s = s.all ([48,49].contains ·):=rfl
 rw [hb]
 constructor
 ·intro h
  rw [← z3S] at h
  have key : ∀ l : List UInt8,(l.dropWhile ([48,49].contains ·)).all ([48,49].contains ·) = true → l.all ([48,49].contains ·) = true:=by
   intro l
   induction l with
   | nil=>intro _; rfl
   | cons c r ih=>
    rw [List.dropWhile_cons]
    split
    ·rename_i hp; intro h; rw [List.all_cons,hp,ih h]; rfl
    ·exact id
  have:=key s.reverse ((z3S _ _).1 h)
  rwa [List.all_reverse] at this
 ·intro h
  have key : ∀ l : List UInt8,l.all ([48,49].contains ·) = true → (l.dropWhile ([48,49].contains ·)).all ([48,49].contains ·) = true:=by
   intro l hl
   rw [(z3S _ l).2 hl]; rfl
  exact key _ (by rwa [List.all_reverse])
end Go.Am
end
section
/- Numbers asv sets of bits; rows of a test asv numbers. -/
set_option linter.all false
namespace Go.Am
theorem zha {s : List UInt8} (k : Nat) (h : z0O s = true) : z0O (s.take k) = true:=by
 unfold z0O at *
 rw [List.all_eq_true] at *
 exact fun x hx=>h x (List.mem_of_mem_take hx)
theorem bit_at {s : List UInt8} {k : Nat} (hk : k < s.length) (h : z0O s = true) : s[k] = 48 ∨ s[k] = 49:=by
 unfold z0O at h
 have:=List.all_eq_true.1 h _ (List.getElem_mem hk)
 unfold zv8 at this
 simpa [List.contains_cons] using this
end Go.Am
end
