/- Texts of the proof, laid together: CodesE, CodesF, AmL, AmC, AmK, Ctx, SpStream, SpMap, MathFrac, SpBase, SpList, PSort, SpShp, SpStr, SpFind, SpLimD, SpLim, SpLotA, SpRecD, PEnt. -/
import Derived.KernelRfl
import Derived.Test.YtdnbmbfonpkpfaaGreatDoorlawBO6
set_option linter.all false
section
/- The functions asv abstract code,and asv formulas over their values: printed by program out of the translation. -/
set_option linter.unusedVariables false
set_option maxRecDepth 100000
namespace Go.Am
def zqX:ACode:=.pr [0,3,27,28,29] (.seq (rg [bN 30 .lss 29 28] [0,3,27,28,29,30])
(.seq (.cond 30 .skip
(.exit 1))
(.seq (.block 2 (.seq (rg [iA 31 none 27 29,
lD 32 none 31,
mV 6 32] [0,3,6,27,28,29])
(.seq (rg [mV 33 6,
mV 34 0,
bN 35 .sub 34 (cI 1),
cL 36 z0T [33,(cI 0),35]] [0,3,27,28,29,36])
(.cond 36 (.seq (rg [mV 4 (cI 1)] [4])
.ret)
.skip))))
(rg [bN 37 .add 29 (cI 1),
mV 29 37] [0,3,27,28,29]))))
def zqY:ACode:=.pr [3,7,8] (.seq (.seq (rg [mV 53 8,
mV 54 7,
lN 55 54,
bN 56 .lss 53 55] [3,7,8,56])
(.cond 56 .skip
(.exit 3)))
(.seq (.block 4 (.seq (dr [dF (mV 59 7) [7],
dF (mV 60 8) [8],
dF (iA 61 none 59 60) [59,60],
dF (lD 62 none 61) [61],
dF (mV 63 7) [7],
dF (mV 64 8) [8],
dF (bN 65 .sub 64 (cI 1)) [64],
dF (iA 66 none 63 65) [63,65],
dF (lD 67 none 66) [66],
dF (bN 68 .leq 62 67) [62,67]] [3,7,8,68])
(.cond 68 (.seq (rg [mV 4 (cI 7)] [4])
.ret)
.skip)))
(rg [mV 57 8,
bN 58 .add 57 (cI 1),
mV 8 58] [3,7,8])))
def zqZ:ACode:=.pr [3,7] (.seq (.seq (rg [fA 69 0 none 3,
lD 70 none 69,
bN 71 .eql 70 (cI 5),
mV 72 71,
gD 73 72 true (.mv 7),
gD 74 72 true (.faddr 1 none 3),
gD 75 72 true (.load none 74),
gD 76 72 true (.iaddr none 75 (cI 0)),
gD 77 72 true (.load none 76),
gD 78 72 true (.call zwK [73,77]),
uO 79 (.pick 72 78 cF)] [79])
(.cond 79 (.seq (rg [mV 4 (cI 6)] [4])
.ret)
.skip))
(.seq (rg [mV 4 (cI 0)] [4])
.ret))
def zkZ (q2 q3:ACode):ACode:=.pr [3,7] (.seq (.seq (rg [mV 8 (cI 1)] [3,7,8])
(.block 3 (.loop q2)))
q3)
def zra:ACode:=zkZ zqY zqZ
def zla (q4:ACode):ACode:=.pr [3] (.seq (.seq (dr [dF (fA 38 0 none 3) [3],
dF (lD 39 none 38) [38],
dT (cL 40 zw5 [39]) [39],
dF (fA 41 1 none 3) [3],
dA (lD 42 none 41) [41] false [2] [],
dF (lN 43 42) [42],
dF (bN 44 .gtr 43 (cI 1)) [43],
dF (uO 45 (.eqa [] true 40 44)) [40,44]] [3,45])
(.cond 45 (.seq (rg [mV 4 (cI 3)] [4])
.ret)
.skip))
(.seq (rg [fA 46 1 none 3,
lD 47 none 46,
mV 7 47] [3,7])
(.seq (.seq (rg [fA 48 0 none 3,
lD 49 none 48,
bN 50 .eql 49 (cI 5)] [3,7,50])
(.cond 50 (rg [mV 51 7,
uO 52 (.slice none 51 (some (cI 1)) none none),
mV 7 52] [3,7])
.skip))
q4)))
def zrb:ACode:=zla zra
def P_q00w (q1 q5:ACode):ACode:=(.seq (rg [uO 3 (.box 1),
mV 4 (cI 0)] [0,3])
(.seq (.block 0 (.seq (rg [mV 10 0,
cL 11 z0T [10,(cI 1),(cI 100)],
mV 9 11] [0,3,9])
(.cond 9 (.seq (rg [mV 4 (cI 1)] [4])
.ret)
(.seq (rg [fA 13 0 none 3,
lD 14 none 13,
cL 15 z0T [14,(cI 1),(cI 6)],
mV 12 15] [0,3,12])
(.cond 12 (.seq (rg [mV 4 (cI 4)] [4])
.ret)
(.seq (rg [fA 17 1 none 3,
lD 18 none 17,
lN 19 18,
bN 20 .eql 19 (cI 0),
mV 16 20] [0,3,16])
(.cond 16 (.seq (rg [mV 4 (cI 8)] [4])
.ret)
(.seq (rg [fA 22 1 none 3,
lD 23 none 22,
lN 24 23,
bN 25 .gtr 24 (cI 6),
mV 21 25] [0,3,21])
(.cond 21 (.seq (rg [mV 4 (cI 2)] [4])
.ret)
.skip)))))))))
(.seq (.seq (rg [fA 26 1 none 3,
lD 27 none 26,
lN 28 27,
mV 29 (cI 0)] [0,3,27,28,29])
(.block 1 (.loop q1)))
q5)))
def a_q00w:AFun:=⟨2,[.t 4],P_q00w zqX zrb,false,false⟩
def zrc:ACode:=.pr [0,13,14,15] (.seq (rg [bN 16 .lss 15 14] [0,13,14,15,16])
(.seq (.cond 16 .skip
(.exit 1))
(.seq (.block 2 (.seq (rg [iA 17 none 13 15,
lD 18 none 17,
mV 4 18] [0,4,13,14,15])
(.block 3 (.seq (rg [mV 20 4,
cL 21 z9c [20],
uO 22 (.un .not 21),
mV 19 22] [0,4,13,14,15,19])
(.cond 19 (.seq (rg [mV 2 (cI 3)] [2])
.ret)
(.seq (rg [mV 24 4,
uO 25 (.lens 24),
bN 26 .gtr 25 (cI 64),
mV 23 26] [0,4,13,14,15,23])
(.cond 23 (.seq (rg [mV 2 (cI 2)] [2])
.ret)
(.seq (rg [mV 28 4,
uO 29 (.lens 28),
mV 30 0,
iA 31 none 30 (cI 0),
lD 32 none 31,
uO 33 (.lens 32),
bN 34 .neq 29 33,
mV 27 34] [0,13,14,15,27])
(.cond 27 (.seq (rg [mV 2 (cI 3)] [2])
.ret)
.skip)))))))))
(rg [bN 35 .add 15 (cI 1),
mV 15 35] [0,13,14,15]))))
def zrd:ACode:=.pr [] (.seq (rg [mV 2 (cI 0)] [2])
.ret)
def P_q00x (q1 q2:ACode):ACode:=(.seq (rg [mV 2 (cI 0)] [0])
(.seq (.block 0 (.seq (rg [mV 6 0,
lN 7 6,
bN 8 .eql 7 (cI 0),
mV 5 8] [0,5])
(.cond 5 (.seq (rg [mV 2 (cI 8)] [2])
.ret)
(.seq (rg [mV 10 0,
lN 11 10,
bN 12 .gtr 11 (cI 100),
mV 9 12] [0,9])
(.cond 9 (.seq (rg [mV 2 (cI 2)] [2])
.ret)
.skip)))))
(.seq (.seq (rg [mV 13 0,
lN 14 13,
mV 15 (cI 0)] [0,13,14,15])
(.block 1 (.loop q1)))
q2)))
def a_q00x:AFun:=⟨1,[.t 2],P_q00x zrc zrd,false,false⟩
def zre:ACode:=.pr [0,7,18,19,20] (.seq (rg [bN 21 .lss 20 19] [0,7,18,19,20,21])
(.seq (.cond 21 .skip
(.exit 0))
(.seq (.block 1 (.seq (rg [iA 22 (some 2) 18 20,
lD 23 (some 2) 22,
uO 9 (.alloc [.p (.int .i64 0),.sl0 none]),
wO (.store (some 2) 9 23)] [0,7,9,18,19,20])
(dr [dF (mV 24 7) [7],
dF (lD 25 (some 2) 9) [9],
dF (mV 26 0) [0],
dF (iA 27 none 26 (cI 0)) [26],
dF (lD 28 none 27) [27],
dF (uO 29 (.lens 28)) [28],
dA (cL 30 zw8 [29]) [29] true [] [1],
dT (cL 31 zw9 [24,25,30]) [24,25,30]] [0,7,18,19,20])))
(rg [bN 32 .add 20 (cI 1),
mV 20 32] [0,7,18,19,20]))))
def zrf:ACode:=.pr [0,7] (.seq (rg [mV 33 7,
mV 34 0,
iA 35 none 34 (cI 0),
lD 36 none 35,
uO 37 (.lens 36),
cL 38 zw7 [33,37],
mV 4 38,
mV 5 (cI 0)] [4,5])
.ret)
def P_q00y (q1 q2:ACode):ACode:=(.seq (rg [mV 4 (.c (.p (.sl none []))),
mV 5 (cI 0)] [0,1])
(.seq (.seq (rg [mV 10 0,
mV 11 1,
cL 12 zw4 [10,11],
mV 6 12] [0,1,6])
(.seq (rg [mV 13 6,
bN 14 .neq 13 (cI 0)] [0,1,6,14])
(.cond 14 (.seq (rg [mV 15 6,
mV 4 (.c (.p (.sl none []))),
mV 5 15] [4,5])
.ret)
.skip)))
(.seq (rg [mV 16 0,
cL 17 zw6 [16],
mV 7 17] [0,1,7])
(.seq (.seq (rg [mV 18 1,
lN 19 18,
mV 20 (cI 0)] [0,7,18,19,20])
(.block 0 (.loop (.scope q1))))
q2))))
def a_q00y:AFun:=⟨2,[.t 4,.t 5],P_q00y zre zrf,false,false⟩
def P_q00z:ACode:=(.seq (rg [uO 3 (.box 1),
mV 4 (.c (.p (.sl none []))),
mV 5 (cI 0)] [0,3])
(.seq (rg [mV 6 0,
lD 7 (some 2) 3,
uO 8 (.bsl false (some 2) 1 (.agg [.int .i64 0,.sl none []]) [(0,7)]),
cL 9 zw2 [6,8],
eX 10 9 0,
eX 11 9 1,
mV 4 10,
mV 5 11] [4,5])
.ret))
def a_q00z:AFun:=⟨2,[.t 4,.t 5],P_q00z,false,false⟩
def zrg:ACode:=.pr [0,14,15,16] (.seq (rg [bN 17 .lss 16 15] [0,14,15,16,17])
(.seq (.cond 17 .skip
(.exit 0))
(.seq (.block 1 (.seq (rg [iA 18 (some 2) 14 16,
lD 19 (some 2) 18,
uO 7 (.alloc [.p (.int .i64 0),.sl0 none]),
wO (.store (some 2) 7 19)] [0,7,14,15,16])
(.seq (rg [mV 20 0,
lN 21 20,
lD 22 (some 2) 7,
cL 23 zw0 [21,22],
mV 8 23] [0,8,14,15,16])
(.seq (rg [mV 24 8,
bN 25 .neq 24 (cI 0)] [0,8,14,15,16,25])
(.cond 25 (.seq (rg [mV 26 8,
mV 4 26] [4])
.ret)
.skip)))))
(rg [bN 27 .add 16 (cI 1),
mV 16 27] [0,14,15,16]))))
def zrh:ACode:=.pr [] (.seq (rg [mV 4 (cI 0)] [4])
.ret)
def P_q010 (q1 q2:ACode):ACode:=(.seq (rg [mV 4 (cI 0)] [0,1])
(.seq (.seq (rg [mV 9 0,
cL 10 zw1 [9],
mV 5 10] [0,1,5])
(.seq (rg [mV 11 5,
bN 12 .neq 11 (cI 0)] [0,1,5,12])
(.cond 12 (.seq (rg [mV 13 5,
mV 4 13] [4])
.ret)
.skip)))
(.seq (.seq (rg [mV 14 1,
lN 15 14,
mV 16 (cI 0)] [0,14,15,16])
(.block 0 (.loop (.scope q1))))
q2)))
def a_q010:AFun:=⟨2,[.t 4],P_q010 zrg zrh,false,false⟩
def P_q011:ACode:=(.seq (rg [mV 2 cF] [0])
(.seq (rg [mV 3 0,
cL 4 z0T [3,(cI 3),(cI 5)],
uO 5 (.un .not 4),
mV 2 5] [2])
.ret))
def a_q011:AFun:=⟨1,[.t 2],P_q011,false,false⟩
def zri:ACode:=.pr [3,5,6,8,9,10,15,16] (.seq (rg [bN 17 .lss 16 15] [3,5,6,8,9,10,15,16,17])
(.seq (.cond 17 .skip
(.exit 2))
(.seq (.block 3 (.seq (rg [mV 18 16,
mV 7 18] [3,5,6,7,8,9,10,15,16])
(rg [mV 19 6,
mV 20 5,
mV 21 7,
uO 22 (.idxs 20 21),
bN 23 .sub 22 (.c (.p (.int .u8 48))),
uO 24 (.conv (.i .u64) 23),
mV 25 7,
bN 26 .shl 24 25,
bN 27 .or 19 26,
mV 6 27] [3,5,6,8,9,10,15,16])))
(rg [bN 28 .add 16 (cI 1),
mV 16 28] [3,5,6,8,9,10,15,16]))))
def zrj:ACode:=.pr [3,6,8,9,10] (rg [mV 29 3,
mV 30 6,
uO 31 (.bsl false none 1 (.int .u64 0) [(0,30)]),
uO 32 (.app none 29 31),
mV 3 32] [3,8,9,10])
def zrk:ACode:=.pr [3,8,9,10] (rg [bN 33 .add 10 (cI 1),
mV 10 33] [3,8,9,10])
def zlb (q1 q2 q3:ACode):ACode:=.pr [3,8,9,10] (.seq (rg [bN 11 .lss 10 9] [3,8,9,10,11])
(.seq (.cond 11 .skip
(.exit 0))
(.seq (.block 1 (.seq (rg [iA 12 none 8 10,
lD 13 none 12,
mV 5 13] [3,5,8,9,10])
(.seq (rg [mV 6 (.c (.p (.int .u64 0)))] [3,5,6,8,9,10])
(.seq (.seq (rg [mV 14 5,
uO 15 (.lens 14),
mV 16 (cI 0)] [3,5,6,8,9,10,15,16])
(.block 2 (.loop q1)))
q2))))
q3)))
def zrl:ACode:=zlb zri zrj zrk
def zrm:ACode:=.pr [3] (.seq (rg [mV 34 3,
mV 2 34] [2])
.ret)
def P_q012 (q4 q5:ACode):ACode:=(.seq (rg [mV 2 (.c (.p (.sl none [])))] [0])
(.seq (rg [uO 3 (.new0 none)] [0,3])
(.seq (.seq (rg [mV 8 0,
lN 9 8,
mV 10 (cI 0)] [3,8,9,10])
(.block 0 (.loop (.scope q4))))
q5)))
def a_q012:AFun:=⟨1,[.t 2],P_q012 zrl zrm,false,true⟩
def zrn:ACode:=.pr [1,5,7,8,10,11,12,19,20] (.seq (rg [bN 21 .lss 20 19] [1,5,7,8,10,11,12,19,20,21])
(.seq (.cond 21 .skip
(.exit 2))
(.seq (.block 3 (.seq (rg [mV 22 20,
mV 9 22] [1,5,7,8,9,10,11,12,19,20])
(rg [mV 23 8,
mV 24 9,
mV 25 7,
mV 26 9,
bN 27 .shr 25 26,
bN 28 .and 27 (.c (.p (.int .u64 1))),
bN 29 .add (.c (.p (.int .u64 48))) 28,
uO 30 (.conv (.i .u8) 29),
iA 31 none 23 24,
wO (.store none 31 30)] [1,5,7,8,10,11,12,19,20])))
(rg [bN 32 .add 20 (cI 1),
mV 20 32] [1,5,7,8,10,11,12,19,20]))))
def zro:ACode:=.pr [1,5,8,10,11,12] (rg [mV 33 5,
mV 34 8,
uO 35 (.conv .b2s 34),
uO 36 (.bsl false none 1 (.str []) [(0,35)]),
uO 37 (.app none 33 36),
mV 5 37] [1,5,10,11,12])
def zrp:ACode:=.pr [1,5,10,11,12] (rg [bN 38 .add 12 (cI 1),
mV 12 38] [1,5,10,11,12])
def zlc (q1 q2 q3:ACode):ACode:=.pr [1,5,10,11,12] (.seq (rg [bN 13 .lss 12 11] [1,5,10,11,12,13])
(.seq (.cond 13 .skip
(.exit 0))
(.seq (.block 1 (.seq (rg [iA 14 none 10 12,
lD 15 none 14,
mV 7 15] [1,5,7,10,11,12])
(.seq (rg [mV 16 1,
uO 17 (.mksl none (.int .u8 0) 16 16),
mV 8 17] [1,5,7,8,10,11,12])
(.seq (.seq (rg [mV 18 8,
lN 19 18,
mV 20 (cI 0)] [1,5,7,8,10,11,12,19,20])
(.block 2 (.loop q1)))
q2))))
q3)))
def zrq:ACode:=zlc zrn zro zrp
def zrr:ACode:=.pr [5] (.seq (rg [mV 39 5,
mV 4 39] [4])
.ret)
def P_q013 (q4 q5:ACode):ACode:=(.seq (rg [mV 4 (.c (.p (.sl none [])))] [0,1])
(.seq (rg [uO 5 (.new0 none)] [0,1,5])
(.seq (.seq (rg [mV 10 0,
lN 11 10,
mV 12 (cI 0)] [1,5,10,11,12])
(.block 0 (.loop (.scope q4))))
q5)))
def a_q013:AFun:=⟨2,[.t 4],P_q013 zrq zrr,false,false⟩
def P_q014:ACode:=(.seq (rg [mV 2 (.c (.p (.int .u64 0)))] [0])
(.seq (rg [mV 3 0,
bN 4 .shl (.c (.p (.int .u64 1))) 3,
bN 5 .sub 4 (.c (.p (.int .u64 1))),
mV 2 5] [2])
.ret))
def a_q014:AFun:=⟨1,[.t 2],P_q014,false,false⟩
def zrs:ACode:=.pr [0,4,6,31,32,33] (.seq (rg [bN 34 .lss 33 32] [0,4,6,31,32,33,34])
(.seq (.cond 34 .skip
(.exit 1))
(.seq (.block 2 (.seq (rg [iA 35 none 31 33,
lD 36 none 35,
mV 8 36] [0,4,6,8,31,32,33])
(rg [mV 37 6,
mV 38 0,
mV 39 8,
iA 40 none 38 39,
lD 41 none 40,
bN 42 .and 37 41,
mV 6 42] [0,4,6,31,32,33])))
(rg [bN 43 .add 33 (cI 1),
mV 33 43] [0,4,6,31,32,33]))))
def zrt:ACode:=.pr [0,4,6,47,48,49] (.seq (rg [bN 50 .lss 49 48] [0,4,6,47,48,49,50])
(.seq (.cond 50 .skip
(.exit 3))
(.seq (.block 4 (.seq (rg [iA 51 none 47 49,
lD 52 none 51,
mV 10 52] [0,4,6,10,47,48,49])
(rg [mV 53 6,
mV 54 0,
mV 55 10,
iA 56 none 54 55,
lD 57 none 56,
bN 58 .or 53 57,
mV 6 58] [0,4,6,47,48,49])))
(rg [bN 59 .add 49 (cI 1),
mV 49 59] [0,4,6,47,48,49]))))
def zld (q1 q2:ACode):ACode:=.pr [0,2,4,6,21,24] (.cond 24 (rg [mV 27 2,
mV 6 27] [0,4,6])
(.seq (rg [bN 29 .eql 21 (cI 3),
mV 28 29] [0,4,6,21,28])
(.cond 28 (.seq (rg [fA 30 1 none 4,
lD 31 none 30,
lN 32 31,
mV 33 (cI 0)] [0,4,6,31,32,33])
(.block 1 (.loop q1)))
(.seq (rg [bN 45 .eql 21 (cI 4),
mV 44 45] [0,4,6,44])
(.cond 44 (.seq (rg [fA 46 1 none 4,
lD 47 none 46,
lN 48 47,
mV 49 (cI 0)] [0,4,6,47,48,49])
(.block 3 (.loop q2)))
.skip)))))
def zru:ACode:=zld zrs zrt
def zrv:ACode:=.pr [0,6,61,62,63] (.seq (rg [bN 64 .lss 63 62] [0,6,61,62,63,64])
(.seq (.cond 64 .skip
(.exit 5))
(.seq (.block 6 (.seq (rg [iA 65 none 61 63,
lD 66 none 65,
mV 12 66] [0,6,12,61,62,63])
(rg [mV 67 0,
mV 68 12,
mV 69 6,
iA 70 none 67 68,
wO (.store none 70 69)] [0,6,61,62,63])))
(rg [bN 71 .add 63 (cI 1),
mV 63 71] [0,6,61,62,63]))))
def zle (q4:ACode):ACode:=.pr [0,4,6] (.seq (rg [fA 60 1 none 4,
lD 61 none 60,
lN 62 61,
mV 63 (cI 0)] [0,6,61,62,63])
(.block 5 (.loop q4)))
def zrw:ACode:=zle zrv
def P_q015 (q3 q5:ACode):ACode:=(.seq (rg [uO 4 (.box 1)] [0,2,4])
(.seq (rg [mV 13 0,
fA 14 1 none 4,
lD 15 none 14,
iA 16 none 15 (cI 0),
lD 17 none 16,
iA 18 none 13 17,
lD 19 none 18,
mV 6 19] [0,2,4,6])
(.seq (.seq (rg [fA 20 0 none 4,
lD 21 none 20] [0,2,4,6,21])
(.block 0 (.seq (rg [bN 23 .eql 21 (cI 1),
mV 22 23] [0,2,4,6,21,22])
(.cond 22 (rg [mV 6 (.c (.p (.int .u64 0)))] [0,4,6])
(.seq (.seq (rg [bN 25 .eql 21 (cI 2),
mV 24 25] [0,2,4,6,21,24])
(.cond 24 .skip
(rg [bN 26 .eql 21 (cI 6),
mV 24 26] [0,2,4,6,21,24])))
q3)))))
q5)))
def a_q015:AFun:=⟨3,[],P_q015 zru zrw,true,false⟩
def P_q01l:ACode:=(.seq (rg [uO 2 (.alloc [.p (.int .i64 0),.p (.int .i64 0)]),
uO 3 (.alloc [.p (.int .i64 0),.p (.int .i64 0)]),
mV 4 (cI 0)] [0,2,3])
(.seq (.seq (rg [mV 9 0,
cL 10 zwD [9,(cI 1)],
mV 5 10] [0,2,3,5])
(.seq (rg [mV 11 5,
bN 12 .neq 11 (cI 0)] [0,2,3,5,12])
(.cond 12 (.seq (rg [uO 13 (.build [.p (.int .i64 0),.p (.int .i64 0)] []),
uO 14 (.build [.p (.int .i64 0),.p (.int .i64 0)] []),
mV 15 5,
wO (.store (some 2) 2 13),
wO (.store (some 2) 3 14),
mV 4 15] [2,3,4])
.ret)
.skip)))
(.seq (rg [mV 17 0,
cL 18 zwC [17],
mV 16 18,
eX 19 16 0,
eX 20 16 1,
mV 6 19,
mV 7 20] [0,2,3,6,7])
(.seq (rg [mV 21 0,
lN 22 21,
mV 8 22] [2,3,6,7,8])
(.seq (rg [mV 23 6,
mV 24 8,
cL 25 zoN [23,24],
mV 26 7,
mV 27 8,
mV 28 8,
bN 29 .mul 27 28,
cL 30 zoN [26,29],
wO (.store (some 2) 2 25),
wO (.store (some 2) 3 30),
mV 4 (cI 0)] [2,3,4])
.ret)))))
def a_q01l:AFun:=⟨1,[.cell 2 (some 2),.cell 3 (some 2),.t 4],P_q01l,false,false⟩
def P_q01m:ACode:=(.seq (rg [mV 2 cF] [0])
(.seq (rg [mV 3 0,
cL 4 z0T [3,(cI (-100000)),(cI 100000)],
uO 5 (.un .not 4),
mV 2 5] [2])
.ret))
def a_q01m:AFun:=⟨1,[.t 2],P_q01m,false,false⟩
def zrx:ACode:=.pr [0,2,4,7,8,9] (.seq (rg [bN 10 .lss 9 8] [0,2,4,7,8,9,10])
(.seq (.cond 10 .skip
(.exit 0))
(.seq (.block 1 (.seq (rg [iA 11 none 7 9,
lD 12 none 11,
mV 6 12] [0,2,4,6,7,8,9])
(.seq (rg [mV 13 2,
mV 14 6,
bN 15 .add 13 14,
mV 2 15] [0,2,4,6,7,8,9])
(rg [mV 16 4,
mV 17 6,
mV 18 6,
bN 19 .mul 17 18,
bN 20 .add 16 19,
mV 4 20] [0,2,4,7,8,9]))))
(rg [bN 21 .add 9 (cI 1),
mV 9 21] [0,2,4,7,8,9]))))
def zry:ACode:=.pr [0,2,4] (.seq (rg [mV 22 2,
mV 23 0,
lN 24 23,
mV 25 4,
bN 26 .mul 24 25,
mV 27 2,
mV 28 2,
bN 29 .mul 27 28,
bN 30 .sub 26 29,
mV 2 22,
mV 3 30] [2,3])
.ret)
def P_q01n (q1 q2:ACode):ACode:=(.seq (rg [mV 2 (cI 0),
mV 3 (cI 0)] [0,2])
(.seq (rg [mV 4 (cI 0)] [0,2,4])
(.seq (.seq (rg [mV 7 0,
lN 8 7,
mV 9 (cI 0)] [0,2,4,7,8,9])
(.block 0 (.loop q1)))
q2)))
def a_q01n:AFun:=⟨1,[.t 2,.t 3],P_q01n zrx zry,false,false⟩
def P_q01o:ACode:=(.seq (rg [mV 4 (cI 0)] [0,1])
(.seq (.block 0 (.seq (rg [mV 6 0,
lN 7 6,
mV 8 1,
bN 9 .lss 7 8,
mV 5 9] [0,5])
(.cond 5 (.seq (rg [mV 4 (cI 8)] [4])
.ret)
(.seq (rg [mV 11 0,
lN 12 11,
bN 13 .gtr 12 (cI 5000),
mV 10 13] [0,10])
(.cond 10 (.seq (rg [mV 4 (cI 2)] [4])
.ret)
(.seq (rg [mV 15 0,
cL 16 zwJ [15,(.f zwE)],
mV 14 16] [14])
(.cond 14 (.seq (rg [mV 4 (cI 1)] [4])
.ret)
.skip)))))))
(.seq (rg [mV 4 (cI 0)] [4])
.ret)))
def a_q01o:AFun:=⟨2,[.t 4],P_q01o,false,false⟩
def P_q01p:ACode:=(.seq (rg [mV 2 cF] [0])
(.seq (rg [mV 3 0,
cL 4 zwB [3],
uO 5 (.un .not 4),
mV 2 5] [2])
.ret))
def a_q01p:AFun:=⟨1,[.t 2],P_q01p,false,false⟩
def P_q024:ACode:=(.seq (rg [mV 0 cF] [])
(.seq (rg [cL 13 zwG [],
uO 14 (.bsl false none 1 (.str []) [(0,(cS [49]))]),
cL 15 zwn [13,14],
mV 12 15,
eX 16 12 0,
eX 17 12 1,
mV 1 16,
mV 2 17] [1,2])
(.seq (rg [uO 19 (.bsl false none 1 (.str []) [(0,(cS [48,49]))]),
uO 20 (.bsl false none 1 (.int .i64 0) [(0,(cI 0))]),
uO 21 (.build [.p (.int .i64 0),.sl0 none] [(0,1,(cI 2)),(1,1,20)]),
cL 22 zw3 [19,21],
mV 18 22,
eX 23 18 0,
eX 24 18 1,
mV 3 23,
mV 4 24] [1,2,3,4])
(.seq (rg [uO 26 (.build [.p (.int .i64 0),.p (.int .i64 0),.p (.int .i64 0),.p (.str []),.p (.str []),.p (.str [])] [(0,1,(cI 7)),(3,1,(cS [49,48]))]),
uO 27 (.bsl false (some 6) 1 (.agg [.int .i64 0,.int .i64 0,.int .i64 0,.str [],.str [],.str []]) [(0,26)]),
cL 28 zwX [27],
mV 25 28,
eX 29 25 0,
eX 30 25 1,
mV 5 29,
mV 6 30] [1,2,3,4,5,6])
(.seq (rg [uO 32 (.bsl false none 2 (.int .i64 0) [(0,(cI 1)),(1,(cI 3))]),
cL 33 zwA [32],
mV 31 33,
eX 34 31 0,
eX 35 31 1,
eX 36 31 2,
uO 7 (.alloc [.p (.int .i64 0),.p (.int .i64 0)]),
uO 8 (.alloc [.p (.int .i64 0),.p (.int .i64 0)]),
wO (.store (some 2) 7 34),
wO (.store (some 2) 8 35),
mV 9 36] [1,2,3,4,5,6,7,9])
(.seq (rg [uO 38 (.bsl false none 1 (.str []) [(0,(cS [115,99,97,110]))]),
uO 39 (.build [.sl0 none,.p (.int .i64 0)] [(0,1,38),(1,1,(cI 1))]),
uO 40 (.build [.p (.str []),.p (.int .i64 0),.p (.int .i64 0),.p (.int .i64 0),.p (.str []),.p (.str []),.p (.str []),.p (.int .i64 0)] [(0,1,(cS [97])),(1,1,(cI 1)),(3,1,(cI 1)),(4,1,(cS [98]))]),
uO 41 (.bsl false (some 8) 1 (.agg [.str [],.int .i64 0,.int .i64 0,.int .i64 0,.str [],.str [],.str [],.int .i64 0]) [(0,40)]),
cL 42 z7z [39,41,(cS [98]),(cI 0)],
mV 37 42,
eX 43 37 0,
eX 44 37 1,
uO 10 (.alloc [.p (.int .i64 0),.p (.int .i64 0),.p (.str []),.p (.str []),.p (.int .i64 0)]),
wO (.store (some 5) 10 43),
mV 11 44] [1,2,3,4,5,6,7,9,10,11])
(.seq (rg [mV 45 2,
mV 46 4,
mV 47 6,
mV 48 9,
mV 49 11,
uO 50 (.bsl false none 5 (.int .i64 0) [(0,45),(1,46),(2,47),(3,48),(4,49)]),
cL 51 z7w [50],
bN 52 .eql 51 (cI 0),
mV 53 52,
gD 54 53 true (.mv 1),
gD 55 53 true (.len 54),
gD 56 53 true (.bin .eql 55 (cI 1)),
uO 57 (.pick 53 56 cF),
mV 58 57,
gD 59 58 true (.mv 1),
gD 60 58 true (.iaddr none 59 (cI 0)),
gD 61 58 true (.load none 60),
gD 62 58 true (.bin .eql 61 (cI 1)),
uO 63 (.pick 58 62 cF),
mV 64 63,
gD 65 64 true (.mv 3),
gD 66 64 true (.len 65),
gD 67 64 true (.bin .eql 66 (cI 1)),
uO 68 (.pick 64 67 cF),
mV 69 68,
gD 70 69 true (.mv 3),
gD 71 69 true (.iaddr none 70 (cI 0)),
gD 72 69 true (.load none 71),
gD 73 69 true (.bin .eql 72 (cS [49,49])),
uO 74 (.pick 69 73 cF),
mV 75 74,
gD 76 75 true (.mv 5),
gD 77 75 true (.bin .eql 76 (cI 9)),
uO 78 (.pick 75 77 cF),
mV 79 78,
gD 80 79 true (.faddr 0 none 7),
gD 81 79 true (.load none 80),
gD 82 79 true (.bin .eql 81 (cI 2)),
uO 83 (.pick 79 82 cF),
mV 84 83,
gD 85 84 true (.faddr 0 none 10),
gD 86 84 true (.load none 85),
gD 87 84 true (.bin .eql 86 (cI 1)),
uO 88 (.pick 84 87 cF),
mV 0 88] [0])
.ret)))))))
def a_q024:AFun:=⟨0,[.t 0],P_q024,false,false⟩
def P_q025:ACode:=(.seq (rg [uO 0 (.alloc [.sl0 (some 2),.sl0 (some 3),.sl0 (some 2)])] [0])
(.seq (rg [uO 1 (.build [.p (.int .i64 0),.p (.str []),.p (.int .i64 0),.p (.int .i64 0)] [(0,1,(cI 2)),(1,1,(cS [97])),(2,1,(cI (-1)))]),
uO 2 (.bsl false (some 4) 1 (.agg [.int .i64 0,.str [],.int .i64 0,.int .i64 0]) [(0,1)]),
uO 3 (.build [.p (.str []),.sl0 (some 4)] [(0,1,(cS [117])),(1,1,2)]),
uO 4 (.bsl false (some 2) 1 (.agg [.str [],.sl (some 4) []]) [(0,3)]),
uO 5 (.build [.p (.str []),.p (.str []),.p (.str [])] [(0,1,(cS [110])),(1,1,(cS [117])),(2,1,(cS [97]))]),
uO 6 (.bsl false (some 3) 1 (.agg [.str [],.str [],.str []]) [(0,5)]),
uO 7 (.build [.sl0 (some 2),.sl0 (some 3),.sl0 (some 2)] [(0,1,4),(1,1,6)]),
wO (.store (some 3) 0 7)] [0])
.ret))
def a_q025:AFun:=⟨0,[.cell 0 (some 3)],P_q025,false,false⟩
def zrz:ACode:=.pr [0,1,2,8,9,10] (.seq (.seq (rg [mV 15 9,
mV 16 10,
bN 17 .lss 15 16] [0,1,2,8,9,10,17])
(.cond 17 .skip
(.exit 0)))
(.block 1 (.seq (rg [mV 18 9,
mV 19 10,
bN 20 .add 18 19,
uO 21 (.conv (.i .u64) 20),
bN 22 .shr 21 (.c (.p (.int .u64 1))),
uO 23 (.conv (.i .i64) 22),
mV 11 23] [0,1,2,8,9,10,11])
(.seq (rg [mV 24 2,
mV 25 0,
mV 26 11,
iA 27 (some 2) 25 26,
lD 28 (some 2) 27,
mV 29 1,
uO 30 (.callv 24 [28,29]),
bN 31 .lss 30 (cI 0)] [0,1,2,8,9,10,11,31])
(.cond 31 (rg [mV 32 11,
bN 33 .add 32 (cI 1),
mV 9 33] [0,1,2,8,9,10])
(rg [mV 34 11,
mV 10 34] [0,1,2,8,9,10]))))))
def zr0:ACode:=.pr [0,1,2,8,9] (.seq (rg [mV 35 9,
mV 36 9,
mV 37 8,
bN 38 .lss 36 37,
mV 39 38,
gD 40 39 true (.mv 2),
gD 41 39 true (.mv 0),
gD 42 39 true (.mv 9),
gD 43 39 true (.iaddr (some 2) 41 42),
gD 44 39 true (.load (some 2) 43),
gD 45 39 true (.mv 1),
gD 46 39 true (.callv 40 [44,45]),
gD 47 39 true (.bin .eql 46 (cI 0)),
uO 48 (.pick 39 47 cF),
mV 6 35,
mV 7 48] [6,7])
.ret)
def P_q03p (q1 q2:ACode):ACode:=(.seq (rg [mV 6 (cI 0),
mV 7 cF] [0,1,2])
(.seq (rg [mV 12 0,
lN 13 12,
mV 8 13] [0,1,2,8])
(.seq (rg [mV 14 8,
mV 9 (cI 0),
mV 10 14] [0,1,2,8,9,10])
(.seq (.block 0 (.loop q1))
q2))))
def a_q03p:AFun:=⟨3,[.t 6,.t 7],P_q03p zrz zr0,false,false⟩
def zr1:ACode:=.pr [0,3,4,5] (rg [mV 33 5,
bN 34 .add 33 (cI 1),
mV 5 34] [0,3,4,5])
def zlf (q1:ACode):ACode:=.pr [0,3,4,5] (.seq (.seq (rg [mV 29 5,
mV 30 4,
lN 31 30,
bN 32 .lss 29 31] [0,3,4,5,32])
(.cond 32 .skip
(.exit 2)))
(.seq (.block 3 (.seq (dr [dF (mV 35 4) [4],
dF (mV 36 5) [5],
dF (iA 37 none 35 36) [35,36],
dF (lD 38 none 37) [37],
dF (mV 39 4) [4],
dF (mV 40 5) [5],
dF (bN 41 .sub 40 (cI 1)) [40],
dF (iA 42 none 39 41) [39,41],
dF (lD 43 none 42) [42],
dF (bN 44 .neq 38 43) [38,43]] [0,3,4,5,44])
(.cond 44 (.seq (rg [mV 45 0,
mV 46 3,
mV 47 4,
mV 48 5,
iA 49 none 47 48,
lD 50 none 49,
iA 51 none 45 46,
wO (.store none 51 50)] [0,3,4,5])
(rg [mV 52 3,
bN 53 .add 52 (cI 1),
mV 3 53] [0,3,4,5]))
.skip)))
q1))
def zr2:ACode:=zlf zr1
def zr3:ACode:=.pr [0,3] (.seq (rg [mV 54 0,
mV 55 3,
uO 56 (.slice none 54 (some 55) none none),
wO (.clr none (.str []) 56)] [0,3])
(.seq (rg [mV 57 0,
mV 58 3,
uO 59 (.slice none 57 none (some 58) none),
mV 2 59] [2])
.ret))
def zr4:ACode:=.pr [0,3] (rg [mV 14 3,
bN 15 .add 14 (cI 1),
mV 3 15] [0,3])
def zlg (q2 q3 q4:ACode):ACode:=.pr [0,3] (.seq (.seq (rg [mV 10 3,
mV 11 0,
lN 12 11,
bN 13 .lss 10 12] [0,3,13])
(.cond 13 .skip
(.exit 0)))
(.seq (.block 1 (.seq (dr [dF (mV 16 0) [0],
dF (mV 17 3) [3],
dF (iA 18 none 16 17) [16,17],
dF (lD 19 none 18) [18],
dF (mV 20 0) [0],
dF (mV 21 3) [3],
dF (bN 22 .sub 21 (cI 1)) [21],
dF (iA 23 none 20 22) [20,22],
dF (lD 24 none 23) [23],
dF (bN 25 .eql 19 24) [19,24]] [0,3,25])
(.cond 25 (.seq (rg [mV 26 0,
mV 27 3,
uO 28 (.slice none 26 (some 27) none none),
mV 4 28] [0,3,4])
(.seq (.seq (rg [mV 5 (cI 1)] [0,3,4,5])
(.block 2 (.loop q2)))
q3))
.skip)))
q4))
def zr5:ACode:=zlg zr2 zr3 zr4
def zr6:ACode:=.pr [0] (.seq (rg [mV 60 0,
mV 2 60] [2])
.ret)
def P_q03r (q5 q6:ACode):ACode:=(.seq (rg [mV 2 (.c (.p (.sl none [])))] [0])
(.seq (.seq (rg [mV 6 0,
lN 7 6,
bN 8 .lss 7 (cI 2)] [0,8])
(.cond 8 (.seq (rg [mV 9 0,
mV 2 9] [2])
.ret)
.skip))
(.seq (.seq (rg [mV 3 (cI 1)] [0,3])
(.block 0 (.loop q5)))
q6)))
def a_q03r:AFun:=⟨1,[.t 2],P_q03r zr5 zr6,true,false⟩
def P_q03t:ACode:=(.seq (rg [mV 4 cF] [0,1])
(.seq (rg [mV 5 0,
mV 6 1,
cL 7 zwL [5,6],
bN 8 .geq 7 (cI 0),
mV 4 8] [4])
.ret))
def a_q03t:AFun:=⟨2,[.t 4],P_q03t,true,false⟩
def P_q03v:ACode:=(.seq (rg [mV 4 cF] [0,1])
(.seq (rg [mV 5 0,
mV 6 1,
cL 7 zwM [5,6],
bN 8 .geq 7 (cI 0),
mV 4 8] [4])
.ret))
def a_q03v:AFun:=⟨2,[.t 4],P_q03v,true,false⟩
def P_q03x:ACode:=(.seq (rg [mV 4 cF] [0,1])
(.seq (rg [mV 5 0,
mV 6 1,
cL 7 zwN [5,6],
bN 8 .geq 7 (cI 0),
mV 4 8] [4])
.ret))
def a_q03x:AFun:=⟨2,[.t 4],P_q03x,true,false⟩
def zr7:ACode:=.pr [0,1,7,8] (.seq (rg [bN 9 .lss 8 7] [0,1,7,8,9])
(.seq (.cond 9 .skip
(.exit 0))
(.seq (.block 1 (.seq (rg [mV 10 8,
mV 5 10] [0,1,5,7,8])
(.seq (rg [mV 11 1,
mV 12 0,
mV 13 5,
iA 14 (some 4) 12 13,
lD 15 (some 4) 14,
uO 16 (.callv 11 [15])] [0,1,5,7,8,16])
(.cond 16 (.seq (rg [mV 17 5,
mV 4 17] [4])
.ret)
.skip))))
(rg [bN 18 .add 8 (cI 1),
mV 8 18] [0,1,7,8]))))
def zr8:ACode:=.pr [] (.seq (rg [mV 4 (cI (-1))] [4])
.ret)
def P_q043 (q1 q2:ACode):ACode:=(.seq (rg [mV 4 (cI 0)] [0,1])
(.seq (.seq (rg [mV 6 0,
lN 7 6,
mV 8 (cI 0)] [0,1,7,8])
(.block 0 (.loop q1)))
q2))
def a_q043:AFun:=⟨2,[.t 4],P_q043 zr7 zr8,true,false⟩
def zr9:ACode:=.pr [0,1,7,8] (.seq (rg [bN 9 .lss 8 7] [0,1,7,8,9])
(.seq (.cond 9 .skip
(.exit 0))
(.seq (.block 1 (.seq (rg [mV 10 8,
mV 5 10] [0,1,5,7,8])
(.seq (rg [mV 11 1,
mV 12 0,
mV 13 5,
iA 14 none 12 13,
lD 15 none 14,
uO 16 (.callv 11 [15])] [0,1,5,7,8,16])
(.cond 16 (.seq (rg [mV 17 5,
mV 4 17] [4])
.ret)
.skip))))
(rg [bN 18 .add 8 (cI 1),
mV 8 18] [0,1,7,8]))))
def zrA:ACode:=.pr [] (.seq (rg [mV 4 (cI (-1))] [4])
.ret)
def P_q045 (q1 q2:ACode):ACode:=(.seq (rg [mV 4 (cI 0)] [0,1])
(.seq (.seq (rg [mV 6 0,
lN 7 6,
mV 8 (cI 0)] [0,1,7,8])
(.block 0 (.loop q1)))
q2))
def a_q045:AFun:=⟨2,[.t 4],P_q045 zr9 zrA,true,false⟩
def zrB:ACode:=.pr [0,1,7,8] (.seq (rg [bN 9 .lss 8 7] [0,1,7,8,9])
(.seq (.cond 9 .skip
(.exit 0))
(.seq (.block 1 (.seq (rg [mV 10 8,
mV 5 10] [0,1,5,7,8])
(.seq (rg [mV 11 1,
mV 12 0,
mV 13 5,
iA 14 none 12 13,
lD 15 none 14,
bN 16 .eql 11 15] [0,1,5,7,8,16])
(.cond 16 (.seq (rg [mV 17 5,
mV 4 17] [4])
.ret)
.skip))))
(rg [bN 18 .add 8 (cI 1),
mV 8 18] [0,1,7,8]))))
def zrC:ACode:=.pr [] (.seq (rg [mV 4 (cI (-1))] [4])
.ret)
def P_q048 (q1 q2:ACode):ACode:=(.seq (rg [mV 4 (cI 0)] [0,1])
(.seq (.seq (rg [mV 6 0,
lN 7 6,
mV 8 (cI 0)] [0,1,7,8])
(.block 0 (.loop q1)))
q2))
def a_q048:AFun:=⟨2,[.t 4],P_q048 zrB zrC,true,false⟩
def P_q06o:ACode:=(.seq (rg [mV 4 (cS []),
mV 5 (cI 0)] [0,1])
(.seq (.seq (rg [mV 6 0,
cL 7 zoQ [6],
uO 8 (.un .not 7),
mV 9 8,
gD 10 9 false (.mv 1),
gD 11 9 false (.call zoQ [10]),
gD 12 9 false (.un .not 11),
uO 13 (.pick 9 cT 12)] [0,1,13])
(.cond 13 (.seq (rg [mV 4 (cS []),
mV 5 (cI 1)] [4,5])
.ret)
.skip))
(.seq (rg [mV 14 0,
mV 15 1,
cL 16 z9t [14,15],
mV 4 16,
mV 5 (cI 0)] [4,5])
.ret)))
def a_q06o:AFun:=⟨2,[.t 4,.t 5],P_q06o,false,false⟩
def P_q06p:ACode:=(.seq (rg [mV 2 cF] [0])
(.seq (rg [mV 3 0,
cL 4 z0T [3,(cI 0),(cI 15)],
uO 5 (.un .not 4),
mV 2 5] [2])
.ret))
def a_q06p:AFun:=⟨1,[.t 2],P_q06p,false,false⟩
def P_q06q:ACode:=(.seq (rg [mV 4 (cI 0)] [0,1])
(.seq (rg [uO 6 (.build [.p (.int .i64 0),.p (.int .i64 0)] [(0,1,(cI 1)),(1,1,(cI 0))]),
uO 7 (.build [.p (.int .i64 0),.p (.int .i64 0)] [(0,1,(cI 1)),(1,1,(cI 2))]),
uO 8 (.build [.p (.int .i64 0),.p (.int .i64 0)] [(0,1,(cI 3)),(1,1,(cI 9))]),
uO 9 (.build [.p (.int .i64 0),.p (.int .i64 0)] [(0,1,(cI 4)),(1,1,(cI 5))]),
uO 10 (.build [.p (.int .i64 0),.p (.int .i64 0)] [(0,1,(cI 4)),(1,1,(cI 5))]),
uO 11 (.build [.p (.int .i64 0),.p (.int .i64 0)] [(0,1,(cI 6)),(1,1,(cI 8))]),
uO 12 (.build [.p (.int .i64 0),.p (.int .i64 0)] [(0,1,(cI 6)),(1,1,(cI 7))]),
uO 13 (.build [.p (.int .i64 0),.p (.int .i64 0)] [(0,1,(cI 4)),(1,1,(cI 8))]),
uO 14 (.build [.p (.int .i64 0),.p (.int .i64 0)] [(0,1,(cI 1)),(1,1,(cI 2))]),
uO 15 (.build [.p (.int .i64 0),.p (.int .i64 0)] [(0,1,(cI 10)),(1,1,(cI 0))]),
uO 16 (.build [.p (.int .i64 0),.p (.int .i64 0)] [(0,1,(cI 11)),(1,1,(cI 12))]),
uO 17 (.build [.p (.int .i64 0),.p (.int .i64 0)] [(0,1,(cI 11)),(1,1,(cI 12))]),
uO 18 (.build [.p (.int .i64 0),.p (.int .i64 0)] [(0,1,(cI 13)),(1,1,(cI 15))]),
uO 19 (.build [.p (.int .i64 0),.p (.int .i64 0)] [(0,1,(cI 13)),(1,1,(cI 14))]),
uO 20 (.build [.p (.int .i64 0),.p (.int .i64 0)] [(0,1,(cI 11)),(1,1,(cI 15))]),
uO 21 (.build [.p (.int .i64 0),.p (.int .i64 0)] [(0,1,(cI 1)),(1,1,(cI 2))]),
uO 22 (.build [.p (.int .i64 0),.p (.int .i64 0),.p (.int .i64 0),.p (.int .i64 0),.p (.int .i64 0),.p (.int .i64 0),.p (.int .i64 0),.p (.int .i64 0),.p (.int .i64 0),.p (.int .i64 0),.p (.int .i64 0),.p (.int .i64 0),.p (.int .i64 0),.p (.int .i64 0),.p (.int .i64 0),.p (.int .i64 0),.p (.int .i64 0),.p (.int .i64 0),.p (.int .i64 0),.p (.int .i64 0),.p (.int .i64 0),.p (.int .i64 0),.p (.int .i64 0),.p (.int .i64 0),.p (.int .i64 0),.p (.int .i64 0),.p (.int .i64 0),.p (.int .i64 0),.p (.int .i64 0),.p (.int .i64 0),.p (.int .i64 0),.p (.int .i64 0)] [(0,2,6),(2,2,7),(4,2,8),(6,2,9),(8,2,10),(10,2,11),(12,2,12),(14,2,13),(16,2,14),(18,2,15),(20,2,16),(22,2,17),(24,2,18),(26,2,19),(28,2,20),(30,2,21)]),
uO 5 (.alloc [.p (.int .i64 0),.p (.int .i64 0),.p (.int .i64 0),.p (.int .i64 0),.p (.int .i64 0),.p (.int .i64 0),.p (.int .i64 0),.p (.int .i64 0),.p (.int .i64 0),.p (.int .i64 0),.p (.int .i64 0),.p (.int .i64 0),.p (.int .i64 0),.p (.int .i64 0),.p (.int .i64 0),.p (.int .i64 0),.p (.int .i64 0),.p (.int .i64 0),.p (.int .i64 0),.p (.int .i64 0),.p (.int .i64 0),.p (.int .i64 0),.p (.int .i64 0),.p (.int .i64 0),.p (.int .i64 0),.p (.int .i64 0),.p (.int .i64 0),.p (.int .i64 0),.p (.int .i64 0),.p (.int .i64 0),.p (.int .i64 0),.p (.int .i64 0)]),
wO (.store (some 32) 5 22)] [0,1,5])
(.seq (rg [mV 23 0,
mV 24 1,
uO 25 (.iaddra 16 (some 2) 5 23),
uO 26 (.iaddra 2 none 25 24),
lD 27 none 26,
mV 4 27] [4])
.ret)))
def zcT:AFun:=⟨2,[.t 4],P_q06q,false,false⟩
def zmY (C:Hd) (gl:GL) (v0 v1:AV) (h:Heap) (x:Esc) (K:KT):Prop:=
 pK (z07 [.p (.int .i64 0),.p (.int .i64 0)] [(0,1,(AI 1)),(1,1,(AI 0))]) fun t1=>
 pK (z07 [.p (.int .i64 0),.p (.int .i64 0)] [(0,1,(AI 1)),(1,1,(AI 2))]) fun t2=>
 pK (z07 [.p (.int .i64 0),.p (.int .i64 0)] [(0,1,(AI 3)),(1,1,(AI 9))]) fun t3=>
 pK (z07 [.p (.int .i64 0),.p (.int .i64 0)] [(0,1,(AI 4)),(1,1,(AI 5))]) fun t4=>
 pK (z07 [.p (.int .i64 0),.p (.int .i64 0)] [(0,1,(AI 4)),(1,1,(AI 5))]) fun t5=>
 pK (z07 [.p (.int .i64 0),.p (.int .i64 0)] [(0,1,(AI 6)),(1,1,(AI 8))]) fun t6=>
 pK (z07 [.p (.int .i64 0),.p (.int .i64 0)] [(0,1,(AI 6)),(1,1,(AI 7))]) fun t7=>
 pK (z07 [.p (.int .i64 0),.p (.int .i64 0)] [(0,1,(AI 4)),(1,1,(AI 8))]) fun t8=>
 pK (z07 [.p (.int .i64 0),.p (.int .i64 0)] [(0,1,(AI 1)),(1,1,(AI 2))]) fun t9=>
 pK (z07 [.p (.int .i64 0),.p (.int .i64 0)] [(0,1,(AI 10)),(1,1,(AI 0))]) fun t10=>
 pK (z07 [.p (.int .i64 0),.p (.int .i64 0)] [(0,1,(AI 11)),(1,1,(AI 12))]) fun t11=>
 pK (z07 [.p (.int .i64 0),.p (.int .i64 0)] [(0,1,(AI 11)),(1,1,(AI 12))]) fun t12=>
 pK (z07 [.p (.int .i64 0),.p (.int .i64 0)] [(0,1,(AI 13)),(1,1,(AI 15))]) fun t13=>
 pK (z07 [.p (.int .i64 0),.p (.int .i64 0)] [(0,1,(AI 13)),(1,1,(AI 14))]) fun t14=>
 pK (z07 [.p (.int .i64 0),.p (.int .i64 0)] [(0,1,(AI 11)),(1,1,(AI 15))]) fun t15=>
 pK (z07 [.p (.int .i64 0),.p (.int .i64 0)] [(0,1,(AI 1)),(1,1,(AI 2))]) fun t16=>
 pK (z07 [.p (.int .i64 0),.p (.int .i64 0),.p (.int .i64 0),.p (.int .i64 0),.p (.int .i64 0),.p (.int .i64 0),.p (.int .i64 0),.p (.int .i64 0),.p (.int .i64 0),.p (.int .i64 0),.p (.int .i64 0),.p (.int .i64 0),.p (.int .i64 0),.p (.int .i64 0),.p (.int .i64 0),.p (.int .i64 0),.p (.int .i64 0),.p (.int .i64 0),.p (.int .i64 0),.p (.int .i64 0),.p (.int .i64 0),.p (.int .i64 0),.p (.int .i64 0),.p (.int .i64 0),.p (.int .i64 0),.p (.int .i64 0),.p (.int .i64 0),.p (.int .i64 0),.p (.int .i64 0),.p (.int .i64 0),.p (.int .i64 0),.p (.int .i64 0)] [(0,2,t1),(2,2,t2),(4,2,t3),(6,2,t4),(8,2,t5),(10,2,t6),(12,2,t7),(14,2,t8),(16,2,t9),(18,2,t10),(20,2,t11),(22,2,t12),(24,2,t13),(26,2,t14),(28,2,t15),(30,2,t16)]) fun t17=>
 alK [.p (.int .i64 0),.p (.int .i64 0),.p (.int .i64 0),.p (.int .i64 0),.p (.int .i64 0),.p (.int .i64 0),.p (.int .i64 0),.p (.int .i64 0),.p (.int .i64 0),.p (.int .i64 0),.p (.int .i64 0),.p (.int .i64 0),.p (.int .i64 0),.p (.int .i64 0),.p (.int .i64 0),.p (.int .i64 0),.p (.int .i64 0),.p (.int .i64 0),.p (.int .i64 0),.p (.int .i64 0),.p (.int .i64 0),.p (.int .i64 0),.p (.int .i64 0),.p (.int .i64 0),.p (.int .i64 0),.p (.int .i64 0),.p (.int .i64 0),.p (.int .i64 0),.p (.int .i64 0),.p (.int .i64 0),.p (.int .i64 0),.p (.int .i64 0)] h fun t18 h19 y20=>
 wK (z0m (some 32) t18 t17 h19) fun t21 h22 y23=>
 pK (z4k 16 (some 2) t18 v0) fun t24=>
 pK (z4k 2 none t24 v1) fun t25=>
 pK (z0e none t25 h22) fun t26=>
 K .ret ⟨[(4,t26)],h22,(y23++(y20++x))⟩
theorem e_q06q {C gl v0 v1 h x K}:NW C gl zcT.body ⟨enter [v0,v1],h,x⟩ K=zmY C gl v0 v1 h x K:=by kernel_rfl
def z9O:ACode:=.pr [1,5,6,7,25] (rg [bN 53 .add 25 (cI 1),
mV 25 53] [1,5,6,7,25])
def zeq (C:Hd) (gl:GL) (v1 v5 v6 v7 v25:AV) (h:Heap) (x:Esc) (K:KT):Prop:=
 pK (oBin .add v25 (AI 1)) fun t1=>
 K .normal ⟨[(1,v1),(5,v5),(6,v6),(7,v7),(25,t1)],h,x⟩
theorem zo5 {C gl e h x K}:NW C gl z9O ⟨e,h,x⟩ K=zeq C gl (aget e 1) (aget e 5) (aget e 6) (aget e 7) (aget e 25) h x K:=by kernel_rfl
def zcR (q1:ACode):ACode:=.pr [1,5,6,7,25] (.seq (rg [bN 26 .lss 25 (cI 2)] [1,5,6,7,25,26])
(.seq (.cond 26 .skip
(.exit 2))
(.seq (.block 3 (.seq (rg [mV 27 25,
mV 8 27] [1,5,6,7,8,25])
(.seq (rg [mV 28 7,
mV 29 8,
cL 30 z9s [28,29],
mV 9 30] [1,5,6,7,8,9,25])
(.seq (rg [mV 32 5,
mV 33 9,
uO 34 (.look (none,[0]) true (.p (.str [])) 32 33),
mV 31 34,
eX 35 31 0,
eX 36 31 1,
mV 10 35,
mV 11 36] [1,5,6,7,8,9,11,25])
(.seq (rg [mV 37 11,
uO 38 (.un .not 37)] [1,5,6,7,8,9,25,38])
(.cond 38 (.seq (rg [mV 39 5,
mV 40 9,
mV 41 5,
mV 42 7,
uO 43 (.look (none,[0]) false (.p (.str [])) 41 42),
mV 44 8,
bN 45 .add (cI 48) 44,
uO 46 (.conv (.i .i32) 45),
uO 47 (.conv .r2s 46),
bN 48 .add 43 47,
wO (.mupd (none,[0]) 39 40 48)] [1,5,6,7,9,25])
(rg [mV 49 6,
mV 50 9,
uO 51 (.bsl false none 1 (.int .i64 0) [(0,50)]),
uO 52 (.mnext (some none) [49,51]),
mV 6 52] [1,5,6,7,25]))
.skip))))))
q1)))
def z4z:ACode:=zcR z9O
def z8R (C:Hd) (gl:GL) (q1:ACode) (v1 v5 v6 v7 v25:AV) (h:Heap) (x:Esc) (K:KT):Prop:=
 pK (oBin .lss v25 (AI 2)) fun t1=>
 z0j t1 (C z9s [v7,v25] h fun t2 h3 y4=>
 pK (z0L (none,[0]) true (.p (.str [])) v5 t2 h3) fun t5=>
 pK (oExt t5 0) fun t6=>
 pK (oExt t5 1) fun t7=>
 pK (oUn .not t7) fun t8=>
 z0j t8 (pK (z0L (none,[0]) false (.p (.str [])) v5 v7 h3) fun t9=>
 pK (oBin .add (AI 48) v25) fun t10=>
 pK (z75 .i32 t10) fun t11=>
 wK (zj4 .r2s t11 h3) fun t12 h13 y14=>
 pK (oBin .add t9 t12) fun t15=>
 wK (z1v (none,[0]) v5 t2 t15 h13) fun t16 h17 y18=>
 wK (oBsl false none 1 (.int .i64 0) [(0,t2)] h17) fun t19 h20 y21=>
 nqK (some none) [v6,t19] h20 fun t22 h23 y24=>
 NW C gl q1 ⟨[(1,v1),(5,v5),(6,t22),(7,v7),(25,v25)],h23,(y24++(y21++(y18++(y14++(y4++x)))))⟩ K)
 (NW C gl q1 ⟨[(1,v1),(5,v5),(6,v6),(7,v7),(8,v25),(9,t2),(25,v25),(38,t8)],h3,(y4++x)⟩ K))
 (K (.exit 2) ⟨[(1,v1),(5,v5),(6,v6),(7,v7),(25,v25),(26,t1)],h,x⟩)
theorem zkJ {C gl q1 e h x K}:NW C gl (zcR q1) ⟨e,h,x⟩ K=z8R C gl q1 (aget e 1) (aget e 5) (aget e 6) (aget e 7) (aget e 25) h x K:=by kernel_rfl
theorem zo6 {C gl e h x K}:NW C gl z4z ⟨e,h,x⟩ K=z8R C gl z9O (aget e 1) (aget e 5) (aget e 6) (aget e 7) (aget e 25) h x K:=zkJ
theorem zpV {C gl e h x K}:NW C gl (.loop z4z) ⟨e,h,x⟩ K=z0Z C gl z4z K [(1,aget e 1),(5,aget e 5),(6,aget e 6),(7,aget e 7),(25,aget e 25)] h x:=z06
def zcS (q2:ACode):ACode:=.pr [1,5,6] (.seq (.seq (rg [mV 17 6,
lN 18 17,
bN 19 .gtr 18 (cI 0)] [1,5,6,19])
(.cond 19 .skip
(.exit 0)))
(.block 1 (.seq (rg [mV 20 6,
iA 21 none 20 (cI 0),
lD 22 none 21,
mV 7 22] [1,5,6,7])
(.seq (rg [mV 23 6,
uO 24 (.slice none 23 (some (cI 1)) none none),
mV 6 24] [1,5,6,7])
(.seq (rg [mV 25 (cI 0)] [1,5,6,7,25])
(.block 2 (.loop q2)))))))
def z40:ACode:=zcS z4z
def z8S (C:Hd) (gl:GL) (q2:ACode) (v1 v5 v6:AV) (h:Heap) (x:Esc) (K:KT):Prop:=
 pK (oLen v6) fun t1=>
 pK (oBin .gtr t1 (AI 0)) fun t2=>
 z0j t2 (pK (z0r none v6 (AI 0) h) fun t3=>
 pK (z0e none t3 h) fun t4=>
 pK (z5g none v6 (some (AI 1)) none none h) fun t5=>
 NW C gl (.loop q2) ⟨[(1,v1),(5,v5),(6,t5),(7,t4),(25,(AI 0))],h,x⟩ (z0q 2 (z0q 1 K)))
 (K (.exit 0) ⟨[(1,v1),(5,v5),(6,v6),(19,t2)],h,x⟩)
theorem zkK {C gl q2 e h x K}:NW C gl (zcS q2) ⟨e,h,x⟩ K=z8S C gl q2 (aget e 1) (aget e 5) (aget e 6) h x K:=by kernel_rfl
theorem zo7 {C gl e h x K}:NW C gl z40 ⟨e,h,x⟩ K=z8S C gl z4z (aget e 1) (aget e 5) (aget e 6) h x K:=zkK
theorem zpW {C gl e h x K}:NW C gl (.loop z40) ⟨e,h,x⟩ K=z0Z C gl z40 K [(1,aget e 1),(5,aget e 5),(6,aget e 6)] h x:=z06
def z9P:ACode:=.pr [1,5] (.seq (rg [mV 54 5,
mV 55 1,
uO 56 (.look (none,[0]) false (.p (.str [])) 54 55),
mV 4 56] [4])
.ret)
def zer (C:Hd) (gl:GL) (v1 v5:AV) (h:Heap) (x:Esc) (K:KT):Prop:=
 pK (z0L (none,[0]) false (.p (.str [])) v5 v1 h) fun t1=>
 K .ret ⟨[(4,t1)],h,x⟩
theorem zo8 {C gl e h x K}:NW C gl z9P ⟨e,h,x⟩ K=zer C gl (aget e 1) (aget e 5) h x K:=by kernel_rfl
def zvZ (q3 q4:ACode):ACode:=(.det (.seq (rg [mV 4 (cS [])] [0,1])
(.seq (rg [uO 12 (.mkmap),
mV 13 0,
wO (.mupd (none,[0]) 12 13 (cS [])),
mV 14 12,
mV 5 14] [0,1,5])
(.seq (rg [mV 15 0,
uO 16 (.bsl true none 1 (.int .i64 0) [(0,15)]),
mV 6 16] [1,5,6])
(.seq (.block 0 (.loop q3))
q4)))))
def zgL:AFun:=⟨2,[.t 4],zvZ z40 z9P,false,false⟩
def zh0 (C:Hd) (gl:GL) (q3 q4:ACode) (v0 v1:AV) (h:Heap) (x:Esc) (K:KT):Prop:=
 mmK h fun t1 h2 y3=>
 wK (z1v (none,[0]) t1 v0 (.p (.str [])) h2) fun t4 h5 y6=>
 wK (oBsl true none 1 (.int .i64 0) [(0,v0)] h5) fun t7 h8 y9=>
 NW C gl (.loop q3) ⟨[(1,v1),(5,t1),(6,t7)],h8,(y9++(y6++(y3++x)))⟩ (z0q 0 (seqN C gl q4 K))
theorem E_q06r {C gl q3 q4 v0 v1 h x K}:NW C gl (zvZ q3 q4) ⟨enter [v0,v1],h,x⟩ K=zh0 C gl q3 q4 v0 v1 h x K:=by kernel_rfl
theorem e_q06r {C gl v0 v1 h x K}:NW C gl zgL.body ⟨enter [v0,v1],h,x⟩ K=zh0 C gl z40 z9P v0 v1 h x K:=E_q06r
def zrD:ACode:=.pr [0,10,11,12] (.seq (rg [bN 13 .lss 12 11] [0,10,11,12,13])
(.seq (.cond 13 .skip
(.exit 0))
(.seq (.block 1 (.seq (rg [iA 14 (some 6) 10 12,
lD 15 (some 6) 14,
uO 4 (.alloc [.p (.int .i64 0),.p (.int .i64 0),.p (.int .i64 0),.p (.str []),.p (.str []),.p (.str [])]),
wO (.store (some 6) 4 15)] [0,4,10,11,12])
(.seq (.seq (rg [fA 16 0 none 4,
lD 17 none 16,
cL 18 z0T [17,(cI 1),(cI 10)]] [0,4,10,11,12,18])
(.cond 18 (.seq (rg [mV 2 (cI 4)] [2])
.ret)
.skip))
(.seq (rg [lD 20 (some 6) 4,
cL 21 zwZ [20],
mV 19 21,
eX 22 19 0,
eX 23 19 1,
uO 5 (.alloc [.p (.int .i64 0),.p (.int .i64 0),.p (.int .i64 0),.p (.str []),.p (.str []),.p (.str [])]),
wO (.store (some 6) 5 22),
mV 6 23] [0,4,5,6,10,11,12])
(.block 2 (.seq (rg [mV 25 6,
bN 26 .neq 25 (cI 0),
mV 24 26] [0,4,5,6,10,11,12,24])
(.cond 24 (.seq (rg [mV 27 6,
mV 2 27] [2])
.ret)
(.seq (rg [lD 29 (some 6) 5,
fA 30 0 none 4,
lD 31 none 30,
uO 32 (.build [.p (.int .i64 0),.p (.int .i64 0),.p (.int .i64 0),.p (.str []),.p (.str []),.p (.str [])] [(0,1,31)]),
uO 33 (.eqa [0,0,0,2,2,2] true 29 32),
mV 28 33] [0,10,11,12,28])
(.cond 28 (.seq (rg [mV 2 (cI 3)] [2])
.ret)
.skip)))))))))
(rg [bN 34 .add 12 (cI 1),
mV 12 34] [0,10,11,12]))))
def zrE:ACode:=.pr [0] (.seq (.seq (rg [mV 35 0,
cL 36 zoS [35,(.c (.nilp))],
uO 37 (.nilchk 36),
fA 38 37 none 37,
lD 39 none 38,
bN 40 .gtr 39 (cI 20000)] [40])
(.cond 40 (.seq (rg [mV 2 (cI 2)] [2])
.ret)
.skip))
(.seq (rg [mV 2 (cI 0)] [2])
.ret))
def P_q06z (q1 q2:ACode):ACode:=(.seq (rg [mV 2 (cI 0)] [0])
(.seq (.seq (rg [mV 7 0,
lN 8 7,
bN 9 .gtr 8 (cI 1000)] [0,9])
(.cond 9 (.seq (rg [mV 2 (cI 2)] [2])
.ret)
.skip))
(.seq (.seq (rg [mV 10 0,
lN 11 10,
mV 12 (cI 0)] [0,10,11,12])
(.block 0 (.loop (.scope q1))))
q2)))
def a_q06z:AFun:=⟨1,[.t 2],P_q06z zrD zrE,false,false⟩
def P_q070:ACode:=(.seq (rg [mV 2 (cI 0),
mV 3 (cI 0)] [0])
(.seq (.seq (rg [mV 5 0,
cL 6 zwW [5],
mV 4 6] [0,4])
(.seq (rg [mV 7 4,
bN 8 .neq 7 (cI 0)] [0,4,8])
(.cond 8 (.seq (rg [mV 9 4,
mV 2 (cI 0),
mV 3 9] [2,3])
.ret)
.skip)))
(.seq (rg [mV 10 0,
cL 11 zoS [10,(.c (.nilp))],
uO 12 (.nilchk 11),
fA 13 37 none 12,
lD 14 none 13,
mV 2 14,
mV 3 (cI 0)] [2,3])
.ret)))
def a_q070:AFun:=⟨1,[.t 2,.t 3],P_q070,false,false⟩
def P_q071:ACode:=(.seq (rg [mV 2 cF] [0])
(.seq (rg [mV 3 0,
bN 4 .eql 3 (cI 7),
mV 5 4,
gD 6 5 false (.mv 0),
gD 7 5 false (.bin .eql 6 (cI 8)),
uO 8 (.pick 5 cT 7),
mV 2 8] [2])
.ret))
def a_q071:AFun:=⟨1,[.t 2],P_q071,false,false⟩
def P_q072:ACode:=(.seq (rg [mV 2 cF] [0])
(.seq (rg [mV 3 0,
cL 4 z0T [3,(cI 1),(cI 6)],
uO 5 (.un .not 4),
mV 2 5] [2])
.ret))
def a_q072:AFun:=⟨1,[.t 2],P_q072,false,false⟩
def zrF:ACode:=.pr [2,4] (.seq (rg [lD 56 (some 6) 4,
wO (.store (some 6) 2 56),
mV 3 (cI 0)] [2,3])
.ret)
def P_q073 (q1:ACode):ACode:=(.seq (rg [uO 1 (.box 0),
uO 2 (.alloc [.p (.int .i64 0),.p (.int .i64 0),.p (.int .i64 0),.p (.str []),.p (.str []),.p (.str [])]),
mV 3 (cI 0)] [1,2])
(.seq (rg [lD 5 (some 6) 1,
uO 4 (.alloc [.p (.int .i64 0),.p (.int .i64 0),.p (.int .i64 0),.p (.str []),.p (.str []),.p (.str [])]),
wO (.store (some 6) 4 5)] [1,2,4])
(.seq (.block 0 (.seq (rg [fA 18 0 none 1,
lD 19 none 18,
bN 20 .eql 19 (cI 1),
mV 21 20,
gD 22 21 false (.faddr 0 none 1),
gD 23 21 false (.load none 22),
gD 24 21 false (.bin .eql 23 (cI 2)),
uO 25 (.pick 21 cT 24),
mV 26 25,
gD 27 26 false (.faddr 0 none 1),
gD 28 26 false (.load none 27),
gD 29 26 false (.bin .eql 28 (cI 10)),
uO 30 (.pick 26 cT 29),
mV 17 30] [1,2,4,17])
(.cond 17 (.seq (rg [fA 31 1 none 4,
wO (.store none 31 (cI 0))] [1,2,4])
(.seq (rg [fA 32 1 none 1,
lD 33 none 32,
cL 34 zxe [33],
uO 35 (.un .not 34)] [2,4,35])
(.cond 35 (.seq (rg [lD 36 (some 6) 4,
wO (.store (some 6) 2 36),
mV 3 (cI 1)] [2,3])
.ret)
.skip)))
(.seq (rg [fA 38 0 none 1,
lD 39 none 38,
bN 40 .eql 39 (cI 9),
mV 37 40] [1,2,4,37])
(.cond 37 (.seq (rg [fA 41 2 none 4,
wO (.store none 41 (cI 0))] [1,2,4])
(.seq (rg [fA 42 2 none 1,
lD 43 none 42,
cL 44 z0T [43,(cI 0),(cI 20000)]] [2,4,44])
(.cond 44 (.seq (rg [lD 45 (some 6) 4,
wO (.store (some 6) 2 45),
mV 3 (cI 1)] [2,3])
.ret)
.skip)))
(.seq (rg [fA 47 0 none 1,
lD 48 none 47,
cL 49 zoR [48],
mV 46 49] [1,2,4,46])
(.cond 46 (.seq (rg [fA 50 3 none 4,
wO (.store none 50 (cS [])),
fA 51 4 none 4,
wO (.store none 51 (cS [])),
fA 52 5 none 4,
wO (.store none 52 (cS []))] [1,2,4])
(.seq (dr [dF (lD 53 (some 6) 4) [4],
dF (lD 54 (some 6) 1) [1],
dA (cL 55 zxc [54]) [54] true [] [0],
dT (wO (.store (some 6) 2 53)) [2,53],
dF (mV 3 55) [55]] [2,3])
.ret))
(.seq (rg [fA 6 3 none 4,
wO (.store none 6 (cS []))] [1,2,4])
(.seq (.seq (rg [fA 7 3 none 1,
lD 8 none 7,
cL 9 z9c [8],
uO 10 (.un .not 9)] [1,2,4,10])
(.cond 10 (.seq (rg [lD 11 (some 6) 4,
wO (.store (some 6) 2 11),
mV 3 (cI 9)] [2,3])
.ret)
.skip))
(.seq (rg [fA 12 3 none 1,
lD 13 none 12,
uO 14 (.lens 13),
bN 15 .gtr 14 (cI 2000)] [2,4,15])
(.cond 15 (.seq (rg [lD 16 (some 6) 4,
wO (.store (some 6) 2 16),
mV 3 (cI 2)] [2,3])
.ret)
.skip)))))))))))
q1)))
def a_q073:AFun:=⟨1,[.cell 2 (some 6),.t 3],P_q073 zrF,false,false⟩
def zrG:ACode:=.pr [5,13,14,15] (.seq (rg [bN 16 .lss 15 14] [5,13,14,15,16])
(.seq (.cond 16 .skip
(.exit 0))
(.seq (.block 1 (.seq (rg [iA 17 (some 6) 13 15,
lD 18 (some 6) 17,
uO 7 (.alloc [.p (.int .i64 0),.p (.int .i64 0),.p (.int .i64 0),.p (.str []),.p (.str []),.p (.str [])]),
wO (.store (some 6) 7 18)] [5,7,13,14,15])
(.seq (.seq (rg [mV 19 5,
uO 20 (.nilchk 19),
fA 21 37 none 20,
lD 22 none 21,
bN 23 .gtr 22 (cI 20000)] [5,7,13,14,15,23])
(.cond 23 (.exit 0)
.skip))
(rg [mV 24 5,
lD 25 (some 6) 7,
cL 26 zxb [24,25]] [5,13,14,15]))))
(rg [bN 27 .add 15 (cI 1),
mV 15 27] [5,13,14,15]))))
def zrH:ACode:=.pr [5] (.seq (rg [mV 28 5,
mV 4 28] [4])
.ret)
def P_q074 (q1 q2:ACode):ACode:=(.seq (rg [mV 4 (.c (.nilp))] [0,1])
(.seq (rg [cL 8 zxf [],
mV 9 1,
uO 10 (.isnil 0 true 9),
uO 11 (.build [.p (.int .i64 0),.p (.int .i64 0),.p (.int .i64 0),.p (.str []),.p (.str []),.p (.str []),.p (.int .i64 0),.p (.int .i64 0),.p (.int .i64 0),.p (.str []),.p (.str []),.p (.str []),.p (.int .i64 0),.p (.int .i64 0),.p (.int .i64 0),.p (.str []),.p (.str []),.p (.str []),.p (.int .i64 0),.p (.int .i64 0),.p (.int .i64 0),.p (.str []),.p (.str []),.p (.str []),.p (.int .i64 0),.p (.int .i64 0),.p (.int .i64 0),.p (.str []),.p (.str []),.p (.str []),.p (.int .i64 0),.p (.int .i64 0),.p (.int .i64 0),.p (.str []),.p (.str []),.p (.str []),.p (.int .i64 0),.p (.int .i64 0),.p (.int .i64 0),.p (.int .i64 0),.sl0 none,.sl0 none,.sl0 none,.sl0 none,.sl0 none,.p (.bool false)] [(0,36,8),(36,1,(cI 0)),(45,1,10)]),
uO 12 (.uns 12 0 [11]),
mV 5 12] [0,5])
(.seq (.seq (rg [mV 13 0,
lN 14 13,
mV 15 (cI 0)] [5,13,14,15])
(.block 0 (.loop (.scope q1))))
q2)))
def a_q074:AFun:=⟨2,[.t 4],P_q074 zrG zrH,false,false⟩
def P_q075:ACode:=(.seq (rg [mV 8 0,
uO 9 (.nilchk 8),
fA 10 37 none 9,
lD 11 none 10,
bN 12 .add 11 (cI 1),
uO 13 (.nilchk 8),
fA 14 37 none 13,
wO (.store none 14 12)] [0,1,2,3])
(.seq (rg [mV 15 0,
uO 16 (.nilchk 15),
fA 17 45 none 16,
lD 18 none 17] [0,1,2,3,18])
(.cond 18 (dr [dF (mV 19 0) [0],
dF (mV 20 0) [0],
dF (mV 21 0) [0],
dF (mV 22 0) [0],
dF (uO 23 (.nilchk 22)) [22],
dF (fA 24 42 none 23) [23],
dF (lD 25 none 24) [24],
dF (mV 26 1) [1],
dF (uO 27 (.bsl false none 1 (.int .u8 0) [(0,26)])) [26],
dT (uO 28 (.app none 25 27)) [25,27],
dF (mV 29 0) [0],
dF (uO 30 (.nilchk 29)) [29],
dF (fA 31 43 none 30) [30],
dA (lD 32 none 31) [31] false [9] [],
dF (mV 33 2) [2],
dA (uO 34 (.bsl false none 1 (.int .u8 0) [(0,33)])) [33] false [9] [],
dT (uO 35 (.app none 32 34)) [32,34],
dF (mV 36 0) [0],
dF (uO 37 (.nilchk 36)) [36],
dF (fA 38 44 none 37) [37],
dA (lD 39 none 38) [38] false [9,16] [],
dF (mV 40 3) [3],
dA (uO 41 (.bsl false none 1 (.int .u8 0) [(0,40)])) [40] false [9,16] [],
dT (uO 42 (.app none 39 41)) [39,41],
dF (uO 43 (.nilchk 19)) [19],
dF (fA 44 42 none 43) [43],
dT (wO (.store none 44 28)) [44,28],
dF (uO 45 (.nilchk 20)) [20],
dF (fA 46 43 none 45) [45],
dT (wO (.store none 46 35)) [46,35],
dF (uO 47 (.nilchk 21)) [21],
dF (fA 48 44 none 47) [47],
dT (wO (.store none 48 42)) [48,42]] [])
.skip)))
def a_q075:AFun:=⟨4,[],P_q075,false,false⟩
def zrI:ACode:=.pr [0,3,5,7,9,10,11,12,13,14,93,94] (rg [mV 126 0,
mV 127 13,
mV 128 10,
mV 129 12,
uO 130 (.idxs 128 129),
mV 131 14,
cL 132 zhG [126,127,130,131]] [0,3,5,7,9,10,11,93,94])
def zlh (q1:ACode):ACode:=.pr [0,3,5,7,9,10,11,12,13,14,93,94] (.seq (.seq (rg [mV 102 12,
mV 103 5,
uO 104 (.lens 103),
bN 105 .sub 102 104,
mV 15 105] [0,3,5,7,9,10,11,12,13,14,15,93,94])
(.seq (rg [mV 106 15,
bN 107 .geq 106 (cI 0),
mV 108 107,
gD 109 108 true (.mv 15),
gD 110 108 true (.faddr 5 none 3),
gD 111 108 true (.load none 110),
gD 112 108 true (.lens 111),
gD 113 108 true (.bin .lss 109 112),
uO 114 (.pick 108 113 cF),
mV 115 114,
gD 116 115 true (.faddr 5 none 3),
gD 117 115 true (.load none 116),
gD 118 115 true (.mv 15),
gD 119 115 true (.idxs 117 118),
gD 120 115 true (.bin .eql 119 (.c (.p (.int .u8 49)))),
uO 121 (.pick 115 120 cF)] [0,3,5,7,9,10,11,12,13,14,15,93,94,121])
(.cond 121 (rg [fA 122 4 none 3,
lD 123 none 122,
mV 124 15,
uO 125 (.idxs 123 124),
mV 14 125] [0,3,5,7,9,10,11,12,13,14,93,94])
.skip)))
q1)
def zrJ:ACode:=zlh zrI
def zrK:ACode:=.pr [0,3,5,7,9,10,11,93,94] (rg [bN 133 .add 94 (cI 1),
mV 94 133] [0,3,5,7,9,10,11,93,94])
def zli (q2 q3:ACode):ACode:=.pr [0,3,5,7,9,10,11,93,94] (.seq (rg [bN 95 .lss 94 93] [0,3,5,7,9,10,11,93,94,95])
(.seq (.cond 95 .skip
(.exit 0))
(.seq (.block 1 (.seq (rg [mV 96 94,
mV 12 96] [0,3,5,7,9,10,11,12,93,94])
(.seq (rg [mV 13 (.c (.p (.int .u8 48))),
mV 14 (.c (.p (.int .u8 120)))] [0,3,5,7,9,10,11,12,13,14,93,94])
(.seq (.seq (rg [mV 97 12,
mV 98 10,
uO 99 (.lens 98),
bN 100 .sub 99 (cI 1),
bN 101 .eql 97 100] [0,3,5,7,9,10,11,12,13,14,93,94,101])
(.cond 101 (rg [mV 13 (.c (.p (.int .u8 49)))] [0,3,5,7,9,10,11,12,13,14,93,94])
.skip))
q2))))
q3)))
def zrL:ACode:=zli zrJ zrK
def zrM:ACode:=.pr [0,7,9,11] (.seq (rg [mV 134 0,
mV 135 9,
uO 136 (.nilchk 134),
fA 137 36 none 136,
wO (.store none 137 135)] [0,7,11])
(.seq (rg [mV 138 0,
mV 139 7,
cL 140 ze7 [138,139]] [11])
(.seq (rg [mV 141 11,
mV 4 141] [4])
.ret)))
def zlj (q4 q5:ACode):ACode:=.pr [0,3,5,7,9,10] (.seq (rg [mV 85 0,
uO 86 (.nilchk 85),
fA 87 37 none 86,
lD 88 none 87,
mV 89 5,
uO 90 (.lens 89),
bN 91 .add 88 90,
mV 11 91] [0,3,5,7,9,10,11])
(.seq (.seq (rg [mV 92 10,
uO 93 (.lens 92),
mV 94 (cI 0)] [0,3,5,7,9,10,11,93,94])
(.block 0 (.loop q4)))
q5))
def zrN:ACode:=zlj zrL zrM
def zlk (q6:ACode):ACode:=.pr [0,3,5,6,7,8,9] (.seq (rg [mV 55 0,
mV 56 8,
cL 57 ze7 [55,56]] [0,3,5,6,7,9])
(.seq (rg [mV 58 5,
fA 59 3 none 3,
lD 60 none 59,
bN 61 .add 58 60,
mV 62 6,
bN 63 .add 61 62,
mV 10 63] [0,3,5,7,9,10])
(.seq (.seq (rg [fA 64 0 none 3,
lD 65 none 64,
bN 66 .eql 65 (cI 7)] [0,3,5,7,9,10,66])
(.cond 66 (rg [mV 67 0,
uO 68 (.nilchk 67),
fA 69 38 none 68,
lD 70 none 69,
mV 71 10,
uO 72 (.lens 71),
bN 73 .add 70 72,
uO 74 (.nilchk 67),
fA 75 38 none 74,
wO (.store none 75 73)] [0,3,5,7,9,10])
(rg [mV 76 0,
uO 77 (.nilchk 76),
fA 78 39 none 77,
lD 79 none 78,
mV 80 10,
uO 81 (.lens 80),
bN 82 .add 79 81,
uO 83 (.nilchk 76),
fA 84 39 none 83,
wO (.store none 84 82)] [0,3,5,7,9,10])))
q6)))
def zrO:ACode:=zlk zrN
def P_q076 (q7:ACode):ACode:=(.seq (rg [uO 3 (.box 1),
mV 4 (cI 0)] [0,3])
(.seq (dr [dF (mV 16 0) [0],
dF (uO 17 (.nilchk 16)) [16],
dF (fA 18 0 (some 36) 17) [17],
dF (fA 19 24 (some 6) 18) [18],
dF (fA 20 3 none 19) [19],
dF (lD 21 none 20) [20],
dF (mV 22 0) [0],
dF (uO 23 (.nilchk 22)) [22],
dF (fA 24 0 (some 36) 23) [23],
dF (fA 25 30 (some 6) 24) [24],
dF (fA 26 3 none 25) [25],
dF (lD 27 none 26) [26],
dF (mV 28 0) [0],
dF (uO 29 (.nilchk 28)) [28],
dF (fA 30 0 (some 36) 29) [29],
dF (fA 31 6 (some 6) 30) [30],
dF (fA 32 1 none 31) [31],
dF (lD 33 none 32) [32],
dF (mV 5 21) [21],
dF (mV 6 27) [27],
dF (mV 7 33) [33],
dF (mV 8 (cI 4)) [],
dF (mV 9 (cI 5)) []] [0,3,5,6,7,8,9])
(.seq (.seq (rg [fA 34 0 none 3,
lD 35 none 34,
bN 36 .eql 35 (cI 7)] [0,3,5,6,7,8,9,36])
(.cond 36 (dr [dF (mV 37 0) [0],
dF (uO 38 (.nilchk 37)) [37],
dF (fA 39 0 (some 36) 38) [38],
dF (fA 40 12 (some 6) 39) [39],
dF (fA 41 3 none 40) [40],
dF (lD 42 none 41) [41],
dF (mV 43 0) [0],
dF (uO 44 (.nilchk 43)) [43],
dF (fA 45 0 (some 36) 44) [44],
dF (fA 46 18 (some 6) 45) [45],
dF (fA 47 3 none 46) [46],
dF (lD 48 none 47) [47],
dF (mV 49 0) [0],
dF (uO 50 (.nilchk 49)) [49],
dF (fA 51 0 (some 36) 50) [50],
dF (fA 52 0 (some 6) 51) [51],
dF (fA 53 1 none 52) [52],
dF (lD 54 none 53) [53],
dF (mV 5 42) [42],
dF (mV 6 48) [48],
dF (mV 7 54) [54],
dF (mV 8 (cI 11)) [],
dF (mV 9 (cI 12)) []] [0,3,5,6,7,8,9])
.skip))
q7)))
def a_q076:AFun:=⟨2,[.t 4],P_q076 zrO,false,false⟩
def zrP:ACode:=.pr [0,4,35,36] (.seq (rg [bN 37 .lss 36 35] [0,4,35,36,37])
(.seq (.cond 37 .skip
(.exit 1))
(.seq (.block 2 (rg [mV 38 0,
cL 39 zhG [38,(.c (.p (.int .u8 48))),(.c (.p (.int .u8 48))),(.c (.p (.int .u8 120)))]] [0,4,35,36]))
(rg [bN 40 .add 36 (cI 1),
mV 36 40] [0,4,35,36]))))
def zrQ:ACode:=.pr [0,4] (.seq (dr [dF (mV 41 0) [0],
dF (mV 42 0) [0],
dF (uO 43 (.nilchk 42)) [42],
dF (fA 44 40 none 43) [43],
dF (lD 45 none 44) [44],
dF (mV 46 0) [0],
dF (uO 47 (.nilchk 46)) [46],
dF (fA 48 36 none 47) [47],
dF (lD 49 none 48) [48],
dF (uO 50 (.bsl false none 1 (.int .i64 0) [(0,49)])) [49],
dT (uO 51 (.app none 45 50)) [45,50],
dF (uO 52 (.nilchk 41)) [41],
dF (fA 53 40 none 52) [52],
dT (wO (.store none 53 51)) [53,51]] [0,4])
(rg [mV 54 0,
mV 55 0,
uO 56 (.nilchk 55),
fA 57 41 none 56,
lD 58 none 57,
mV 59 4,
uO 60 (.bsl false none 1 (.int .i64 0) [(0,59)]),
uO 61 (.app none 58 60),
uO 62 (.nilchk 54),
fA 63 41 none 62,
wO (.store none 63 61)] []))
def P_q077 (q1 q2:ACode):ACode:=(.seq (rg [uO 3 (.box 1)] [0,3])
(.seq (rg [mV 4 (cI 0)] [0,3,4])
(.seq (.block 0 (.seq (rg [fA 10 0 none 3,
lD 11 none 10,
cL 12 zwY [11],
mV 9 12] [0,3,4,9])
(.cond 9 (dr [dF (mV 13 0) [0],
dF (uO 14 (.nilchk 13)) [13],
dF (fA 15 0 (some 36) 14) [14],
dF (fA 16 0 none 3) [3],
dF (lD 17 none 16) [16],
dT (cL 18 zxd [15,17]) [15,17],
dA (lD 19 (some 6) 3) [3] false [5] [],
dF (uO 20 (.nilchk 18)) [18],
dT (wO (.store (some 6) 20 19)) [20,19]] [0,4])
(.seq (rg [fA 22 0 none 3,
lD 23 none 22,
cL 24 zoR [23],
mV 21 24] [0,3,4,21])
(.cond 21 (rg [mV 25 0,
lD 26 (some 6) 3,
cL 27 zxa [25,26],
mV 4 27] [0,4])
(.seq (rg [fA 29 0 none 3,
lD 30 none 29,
bN 31 .eql 30 (cI 9),
mV 28 31] [0,3,4,28])
(.cond 28 (.seq (rg [mV 32 0,
cL 33 ze7 [32,(cI 1)]] [0,3,4])
(.seq (rg [fA 34 2 none 3,
lD 35 none 34,
mV 36 (cI 0)] [0,4,35,36])
(.block 1 (.loop q1))))
(rg [mV 5 0,
fA 6 1 none 3,
lD 7 none 6,
cL 8 ze7 [5,7]] [0,4]))))))))
q2)))
def a_q077:AFun:=⟨2,[],P_q077 zrP zrQ,false,false⟩
def zrR:ACode:=.pr [0,1,4,17,18] (.seq (rg [bN 19 .lss 18 17] [0,1,4,17,18,19])
(.seq (.cond 19 .skip
(.exit 0))
(.seq (.block 1 (.seq (rg [mV 20 18,
mV 6 20] [0,1,4,6,17,18])
(rg [mV 21 0,
mV 22 4,
mV 23 6,
uO 24 (.idxs 22 23),
cL 25 zhG [21,24,(.c (.p (.int .u8 48))),(.c (.p (.int .u8 120)))]] [0,1,4,17,18])))
(rg [bN 26 .add 18 (cI 1),
mV 18 26] [0,1,4,17,18]))))
def zrS:ACode:=.pr [0,1] (rg [mV 27 0,
mV 28 1,
uO 29 (.nilchk 27),
fA 30 36 none 29,
wO (.store none 30 28)] [])
def P_q078 (q1 q2:ACode):ACode:=(.seq (rg [mV 8 0,
uO 9 (.nilchk 8),
fA 10 36 none 9,
lD 11 none 10,
mV 12 1,
cL 13 zwV [11,12],
mV 7 13,
eX 14 7 0,
eX 15 7 1,
mV 4 14,
mV 5 15] [0,1,4])
(.seq (.seq (rg [mV 16 4,
uO 17 (.lens 16),
mV 18 (cI 0)] [0,1,4,17,18])
(.block 0 (.loop q1)))
q2))
def a_q078:AFun:=⟨2,[],P_q078 zrR zrS,false,false⟩
end Go.Am
end
section
/- The functions asv abstract code,and asv formulas over their values: printed by program out of the translation. -/
set_option linter.unusedVariables false
set_option maxRecDepth 100000
namespace Go.Am
def P_q079:ACode:=(.seq (rg [uO 1 (.box 0),
mV 2 (cI 0)] [1])
(.seq (.block 0 (.seq (rg [fA 4 3 none 1,
lD 5 none 4,
bN 6 .eql 5 (cS []),
mV 3 6] [1,3])
(.cond 3 (.seq (rg [mV 2 (cI 8)] [2])
.ret)
(.seq (rg [fA 8 3 none 1,
lD 9 none 8,
cL 10 z9c [9],
uO 11 (.un .not 10),
mV 7 11] [1,7])
(.cond 7 (.seq (rg [mV 2 (cI 9)] [2])
.ret)
(.seq (rg [fA 13 3 none 1,
lD 14 none 13,
uO 15 (.lens 14),
bN 16 .gtr 15 (cI 2000),
mV 12 16] [1,12])
(.cond 12 (.seq (rg [mV 2 (cI 2)] [2])
.ret)
(.seq (rg [fA 18 4 none 1,
lD 19 none 18,
bN 20 .neq 19 (cS []),
mV 21 20,
gD 22 21 true (.faddr 4 none 1),
gD 23 21 true (.load none 22),
gD 24 21 true (.lens 23),
gD 25 21 true (.faddr 3 none 1),
gD 26 21 true (.load none 25),
gD 27 21 true (.lens 26),
gD 28 21 true (.bin .neq 24 27),
gD 29 21 true (.mv 28),
gD 30 29 false (.faddr 5 none 1),
gD 31 29 false (.load none 30),
gD 32 29 false (.lens 31),
gD 33 29 false (.faddr 3 none 1),
gD 34 29 false (.load none 33),
gD 35 29 false (.lens 34),
gD 36 29 false (.bin .neq 32 35),
gD 37 21 true (.pick 29 cT 36),
uO 38 (.pick 21 37 cF),
mV 17 38] [1,17])
(.cond 17 (.seq (rg [mV 2 (cI 3)] [2])
.ret)
(.seq (rg [fA 40 4 none 1,
lD 41 none 40,
cL 42 z9c [41],
uO 43 (.un .not 42),
mV 44 43,
gD 45 44 false (.faddr 5 none 1),
gD 46 44 false (.load none 45),
gD 47 44 false (.call z9c [46]),
gD 48 44 false (.un .not 47),
uO 49 (.pick 44 cT 48),
mV 39 49] [1,39])
(.cond 39 (.seq (rg [mV 2 (cI 9)] [2])
.ret)
(.seq (rg [fA 51 4 none 1,
lD 52 none 51,
bN 53 .eql 52 (cS []),
mV 54 53,
gD 55 54 true (.faddr 5 none 1),
gD 56 54 true (.load none 55),
gD 57 54 true (.bin .neq 56 (cS [])),
uO 58 (.pick 54 57 cF),
mV 50 58] [50])
(.cond 50 (.seq (rg [mV 2 (cI 3)] [2])
.ret)
.skip)))))))))))))
(.seq (rg [mV 2 (cI 0)] [2])
.ret)))
def a_q079:AFun:=⟨1,[.t 2],P_q079,false,false⟩
def P_q07a:ACode:=(.seq (rg [mV 4 (.c (.nilp))] [0,1])
(.seq (.seq (rg [mV 5 1] [0,5])
(.block 0 (.seq (rg [bN 7 .eql 5 (cI 1),
mV 6 7] [0,5,6])
(.cond 6 (.seq (rg [mV 8 0,
uO 9 (.nilchk 8),
fA 10 0 (some 6) 9,
mV 4 10] [4])
.ret)
(.seq (rg [bN 12 .eql 5 (cI 2),
mV 11 12] [0,5,11])
(.cond 11 (.seq (rg [mV 13 0,
uO 14 (.nilchk 13),
fA 15 6 (some 6) 14,
mV 4 15] [4])
.ret)
(.seq (rg [bN 17 .eql 5 (cI 3),
mV 16 17] [0,5,16])
(.cond 16 (.seq (rg [mV 18 0,
uO 19 (.nilchk 18),
fA 20 12 (some 6) 19,
mV 4 20] [4])
.ret)
(.seq (rg [bN 22 .eql 5 (cI 4),
mV 21 22] [0,5,21])
(.cond 21 (.seq (rg [mV 23 0,
uO 24 (.nilchk 23),
fA 25 18 (some 6) 24,
mV 4 25] [4])
.ret)
(.seq (rg [bN 27 .eql 5 (cI 5),
mV 26 27] [0,26])
(.cond 26 (.seq (rg [mV 28 0,
uO 29 (.nilchk 28),
fA 30 24 (some 6) 29,
mV 4 30] [4])
.ret)
.skip))))))))))))
(.seq (rg [mV 31 0,
uO 32 (.nilchk 31),
fA 33 30 (some 6) 32,
mV 4 33] [4])
.ret)))
def a_q07a:AFun:=⟨2,[.t 4],P_q07a,false,false⟩
def P_q07b:ACode:=(.seq (rg [mV 2 cF] [0])
(.seq (rg [mV 3 0,
bN 4 .eql 3 (cI 0),
mV 5 4,
gD 6 5 false (.mv 0),
gD 7 5 false (.bin .eql 6 (cI 1)),
uO 8 (.pick 5 cT 7),
mV 9 8,
gD 10 9 false (.mv 0),
gD 11 9 false (.bin .eql 10 (cI 6)),
uO 12 (.pick 9 cT 11),
mV 13 12,
gD 14 13 false (.mv 0),
gD 15 13 false (.bin .eql 14 (cI 13)),
uO 16 (.pick 13 cT 15),
mV 2 16] [2])
.ret))
def a_q07b:AFun:=⟨1,[.t 2],P_q07b,false,false⟩
def P_q07c:ACode:=(.seq (rg [uO 0 (.alloc [.p (.int .i64 0),.p (.int .i64 0),.p (.int .i64 0),.p (.str []),.p (.str []),.p (.str []),.p (.int .i64 0),.p (.int .i64 0),.p (.int .i64 0),.p (.str []),.p (.str []),.p (.str []),.p (.int .i64 0),.p (.int .i64 0),.p (.int .i64 0),.p (.str []),.p (.str []),.p (.str []),.p (.int .i64 0),.p (.int .i64 0),.p (.int .i64 0),.p (.str []),.p (.str []),.p (.str []),.p (.int .i64 0),.p (.int .i64 0),.p (.int .i64 0),.p (.str []),.p (.str []),.p (.str []),.p (.int .i64 0),.p (.int .i64 0),.p (.int .i64 0),.p (.str []),.p (.str []),.p (.str [])])] [0])
(.seq (rg [uO 1 (.build [.p (.int .i64 0),.p (.int .i64 0),.p (.int .i64 0),.p (.str []),.p (.str []),.p (.str [])] [(0,1,(cI 1)),(1,1,(cI 1))]),
uO 2 (.build [.p (.int .i64 0),.p (.int .i64 0),.p (.int .i64 0),.p (.str []),.p (.str []),.p (.str [])] [(0,1,(cI 2)),(1,1,(cI 1))]),
uO 3 (.build [.p (.int .i64 0),.p (.int .i64 0),.p (.int .i64 0),.p (.str []),.p (.str []),.p (.str [])] [(0,1,(cI 3))]),
uO 4 (.build [.p (.int .i64 0),.p (.int .i64 0),.p (.int .i64 0),.p (.str []),.p (.str []),.p (.str [])] [(0,1,(cI 4))]),
uO 5 (.build [.p (.int .i64 0),.p (.int .i64 0),.p (.int .i64 0),.p (.str []),.p (.str []),.p (.str [])] [(0,1,(cI 5))]),
uO 6 (.build [.p (.int .i64 0),.p (.int .i64 0),.p (.int .i64 0),.p (.str []),.p (.str []),.p (.str [])] [(0,1,(cI 6))]),
uO 7 (.build [.p (.int .i64 0),.p (.int .i64 0),.p (.int .i64 0),.p (.str []),.p (.str []),.p (.str []),.p (.int .i64 0),.p (.int .i64 0),.p (.int .i64 0),.p (.str []),.p (.str []),.p (.str []),.p (.int .i64 0),.p (.int .i64 0),.p (.int .i64 0),.p (.str []),.p (.str []),.p (.str []),.p (.int .i64 0),.p (.int .i64 0),.p (.int .i64 0),.p (.str []),.p (.str []),.p (.str []),.p (.int .i64 0),.p (.int .i64 0),.p (.int .i64 0),.p (.str []),.p (.str []),.p (.str []),.p (.int .i64 0),.p (.int .i64 0),.p (.int .i64 0),.p (.str []),.p (.str []),.p (.str [])] [(0,6,1),(6,6,2),(12,6,3),(18,6,4),(24,6,5),(30,6,6)]),
wO (.store (some 36) 0 7)] [0])
.ret))
def a_q07c:AFun:=⟨0,[.cell 0 (some 36)],P_q07c,false,false⟩
end Go.Am
end
section
/- The abstract machine,part L: functions of the library that are met by the kit's contracts: plain values in,plain values out,new memory at most. -/
set_option linter.unusedSimpArgs false
set_option linter.unusedVariables false
namespace Go.Am
variable {P:Program} {gl:Nat→Option PV}
structure PureRow (P:Program) (gl:Nat→Option PV) (f:Nat) (spec:List PV→Option AV):Prop where
 enter:∀ us w,(callFunc f us).run P w = .ok (.enter f us) w
 run:∀ (M:Mem) (w:World) (vs:List PV) (r:AV) (us:List Value),(∀ b o v,M.c b o=some v→w.cell? ⟨b,o,none⟩=some v)→(∀ b o,M.b b=some o→w.heap[b]?=some o)→GInv gl M→vs.length=us.length →
  (∀ (j:Nat) (y:PV) (v:Value),vs[j]?=some y→us[j]?=some v→RPV M y v)→spec vs=some r →
  Calls P f us.toArray w fun e w'=>∃ x,e = .returned x∧WExt w w'∧RAV (ExtM M w w') [] [] r x
abbrev z6U:=List (Nat × (List PV→Option AV))
def zeR:z6U→Nat→List AV→Heap→Option (AV × Heap × Esc)
 | [],_,_,_=>none
 | (g,s)::r,f,asv,h=>bif Nat.beq f g then ((unp asv).bind s).map fun v=>(v,h,[]) else zeR r f asv h
theorem zcg:∀ (gs:z6U),(∀ g s,(g,s)∈gs→PureRow P gl g s)→∀ {f:Nat} {asv:List AV} {h:Heap} {v:AV} {h':Heap} {x:Esc},zeR gs f asv h=some (v,h',x) →
 z1y P gl f asv h fun v1 h1 x1=>v1=v∧h1=h'∧x1=x
 | [],_,f,asv,h,v,h',x,H=>by cases H
 | (g,s)::r,hg,f,asv,h,v,h',x,H=>by
  unfold zeR at H
  cases e1:Nat.beq f g with
  | false=>
   rw[e1] at H
   exact zcg r (fun g sh hm=>hg g sh (by simp [hm])) H
  | true=>
   rw[e1] at H
   have e:=Nat.eq_of_beq_eq_true e1
   subst e
   have R:=hg f s (by simp)
   simp only[cond_true] at H
   obtain⟨y,hy,e2⟩:=Option.map_eq_some_iff.1 H
   simp only[Prod.mk.injEq] at e2
   obtain⟨rfl,rfl,rfl⟩:=e2
   obtain⟨ps,hps,hs⟩:=Option.bind_eq_some_iff.1 hy
   have hm:=z4R hps
   subst hm
   intro μ w vs Hh Hg hl hr
   refine .inl ⟨R.enter _,?_⟩
   refine (R.run (imm h μ w) w ps y vs (fun b o v hv=>(z0Y.1 hv).2) (fun b o hv=>(z4e.1 hv).2) Hg (by simpa using hl) (fun j q v hq hv=>(hr j (.p q) v (by simp [hq]) hv).p_inv) hs).mono fun e w' he=>?_
   obtain⟨u,rfl,g1,g2⟩:=he
   obtain⟨n1,n2⟩:=Hh.ext g1
   have Lq:(ExtM (imm h μ w) w w').le (imm h μ w'):=by
    refine⟨fun b o v hv=>?_,fun b o hv=>?_,rfl,fun _ _ h=>by cases h⟩
    ·dsimp only[ExtM] at hv
     split at hv
     ·exact n2.le.c _ _ _ hv
     ·rename_i hb
      exact z0Y.2 ⟨fun hO=>hb (z7N Hh hO),hv⟩
    ·dsimp only[ExtM] at hv
     cases hv
   exact⟨_,_,_,μ,⟨rfl,rfl,rfl⟩,g2.evo ⟨Lq,Nat.zero_le _,fun id o m h1=>by simp at h1⟩,n1,n2,z0i.refl h []⟩
def libF (gs:List (Nat × Sh)) (ps:z6U) (f:Nat) (asv:List AV) (h:Heap):Option (AV × Heap × Esc):=match zjt gs f asv h with
 | some y=>some y
 | none=>match zeR ps f asv h with
  | some y=>some y
  | none=>match z0t h asv with
   | some (asv',h1)=>zeR ps f asv' h1
   | none=>none
theorem zrW {ps:z6U} (hp:∀ g s,(g,s)∈ps→PureRow P gl g s) {f:Nat} {asv asv':List AV} {h h1:Heap} {v:AV} {h':Heap} {x:Esc} (hq:z0t h asv=some (asv',h1)) (H:zeR ps f asv' h1=some (v,h',x)) :
 z1y P gl f asv h fun v1 h2 x1=>v1=v∧h2=h'∧x1=x:=by
 intro μ w vs Hh Hg hl hr
 obtain⟨q1,q2,q3⟩:=z7O asv Hh hl hr hq
 rcases zcg ps hp H μ w vs q1.1 (Hg.mono q1.2.1.le) q2 q3 with ⟨k1,k2⟩ | ⟨r,w',v2,h2,x2,μ',k1,k2,k3,k4,k5,k6⟩
 ·refine .inl ⟨k1,k2.mono fun e w' he=>?_⟩
  cases e with
  | returned r=>
   obtain⟨v2,h2,x2,μ',k2,k3,k4,k5,k6⟩:=he
   exact⟨v2,h2,x2,μ',k2,k3,k4,q1.2.1.trans k5,by simpa using q1.2.2.trans k6⟩
  | panicked _=>exact he
  | outgrown=>exact he
 ·exact .inr ⟨r,w',v2,h2,x2,μ',k1,k2,k3,k4,q1.2.1.trans k5,by simpa using q1.2.2.trans k6⟩
theorem zyC {gs:List (Nat × Sh)} {ps:z6U} (hg:∀ g sh,(g,sh)∈gs→GrowRow P g sh) (hp:∀ g s,(g,s)∈ps→PureRow P gl g s) {f:Nat} {asv:List AV} {h:Heap} {v:AV} {h':Heap} {x:Esc} (H:libF gs ps f asv h=some (v,h',x)) :
 z1y P gl f asv h fun v1 h1 x1=>v1=v∧h1=h'∧x1=x:=by
 unfold libF at H
 split at H
 ·rename_i y hy
  cases H
  exact zhS gs hg hy
 ·split at H
  ·rename_i y hy
   cases H
   exact zcg ps hp hy
  ·split at H
   ·rename_i asv' h1 hq
    exact zrW hp hq H
   ·cases H
theorem zbZ {X:Ctx} {f:Nat} {asv:List AV} {h h':Heap} {v:AV} {x:Esc} {K:Post} (hf:X.fn f=none) (hx:X.ex2 f asv h=some (v,h',x)):z0c X f asv h K=K v h' x:=by
 refine propext (z0c.eq (z0c.fold ?_) K)
 unfold Step
 simp only[hf,hx]
 exact⟨trivial,trivial,trivial⟩
def zhT:List (Nat × Sh)→Nat→Option Sh
 | [],_=>none
 | (g,s)::r,f=>bif Nat.beq f g then some s else zhT r f
theorem zbd:∀ {gs:List (Nat × Sh)} {f:Nat} {asv:List AV} {h:Heap},zhT gs f=none→zjt gs f asv h=none
 | [],f,asv,h,_=>rfl
 | (g,s)::r,f,asv,h,hm=>by
  unfold zhT at hm
  unfold zjt
  cases hq:Nat.beq f g with
  | true=>rw[hq] at hm;cases hm
  | false=>rw[hq] at hm;exact zbd hm
def zio:z6U→Nat→Option (List PV→Option AV)
 | [],_=>none
 | (g,s)::r,f=>bif Nat.beq f g then some s else zio r f
theorem zeS:∀ {gs:z6U} {f:Nat} {s:List PV→Option AV} {asv:List AV} {h:Heap},zio gs f=some s→zeR gs f asv h=((unp asv).bind s).map fun v=>(v,h,[])
 | [],f,s,asv,h,hm=>by cases hm
 | (g,s')::r,f,s,asv,h,hm=>by
  unfold zio at hm
  unfold zeR
  cases hq:Nat.beq f g with
  | true=>rw[hq] at hm;cases hm;rfl
  | false=>rw[hq] at hm;exact zeS hm
theorem zqa {gs:List (Nat × Sh)} {ps:z6U} {f:Nat} {s:List PV→Option AV} {asv:List AV} {vs:List PV} {v:AV} {h:Heap} (hg:zhT gs f=none) (hm:zio ps f=some s) (hu:unp asv=some vs) (hv:s vs=some v):libF gs ps f asv h=some (v,h,[]):=by
 unfold libF;rw[zbd hg,zeS hm,hu];simp [hv]
def glOf:List (Nat × PV)→Nat→Option PV
 | [],_=>none
 | (g,v)::r,n=>bif Nat.beq n g then some v else glOf r n
theorem zzN {f:Nat} (h:(match P.funcs[f]? with | some fn=>fn.body.isSome&&fn.name != "runtime.NumGoroutine" | none=>false)=true) (us:Array Value) (w:World):(callFunc f us).run P w = .ok (.enter f us) w:=by
 cases hf:P.funcs[f]? with
 | none=>rw[hf] at h;cases h
 | some fn=>
  rw[hf] at h
  simp only[Bool.and_eq_true,bne_iff_ne,ne_eq] at h
  cases hb:fn.body with
  | none=>rw[hb] at h;cases h.1
  | some c=>exact zh5 hf hb h.2 us w
def digC (n:Nat):UInt8:=UInt8.ofNat (48+n)
def decN (n:Nat):List UInt8:=if n<10 then [digC n] else decN (n / 10)++[digC (n%10)]
termination_by n
decreasing_by omega
def itoa (n:Int):List UInt8:=if n<0 then 45::decN n.natAbs else decN n.natAbs
def zjx:List PV→Option AV
 | [.int .i64 n]=>bif decide (-9223372036854775808≤n)&&decide (n≤9223372036854775807) then some (.p (.str (itoa n))) else none
 | _=>none
def zcf:PV:=.agg ((List.range 20).map fun i=>.int .u64 ((10^i:Nat):Int))
def trimL (s cs:List UInt8):List UInt8:=(s.reverse.dropWhile (cs.contains ·)).reverse.dropWhile (cs.contains ·)
def trimS:List PV→Option AV
 | [.str s,.str cs]=>if s.length≤1000000∧cs.length≤1000∧cs.all (fun b=>decide (b.toNat<128))=true then some (.p (.str (trimL s cs))) else none
 | _=>none
end Go.Am
end
section
/- The abstract machine,part C: z0I calls that say true,asv contracts. -/
set_option linter.all false
namespace Go.Am
variable {P:Program} {gl:Nat→Option PV}
def zzI:List PV→Option AV
 | []=>some (AB true)
 | _=>none
theorem RPV.mono' {M M':Mem} (hM:∀ b o v,M.c b o=some v→M'.c b o=some v) {v:PV} {x:Value} (H:RPV M v x):RPV M' v x:=by
 induction H with
 | int k n=>exact .int k n
 | bool b=>exact .bool b
 | str s=>exact .str s
 | nilp=>exact .nilp
 | unk k n=>exact .unk k n
 | nils sh a cap=>exact .nils sh a cap
 | sl sh xs b o cap f hne hc he hm hr ih=>exact .sl sh xs b o cap f hne hc he (fun j y hy=>hM _ _ _ (hm j y hy)) ih
 | agg cs vs hl hr ih=>exact .agg cs vs hl ih
theorem GInv.mono' {M M':Mem} (hc:∀ b o v,M.c b o=some v→M'.c b o=some v) (hb:∀ b o,M.b b=some o→M'.b b=some o) (H:GInv gl M):GInv gl M':=fun n v hv=>by
 obtain⟨h1,cs,t,x,h2,h3⟩:=H n v hv
 refine⟨?_,cs,t,x,hb _ _ h2,h3⟩
 cases h1 with | vp _ _ _ f hm hr=>exact .vp v n 0 f (fun j y hy=>hc _ _ _ (hm j y hy)) (fun j y hy=>(hr j y hy).mono' hc)
theorem zsU {X:Ctx} (HX:Fits P X) {f:Nat} (H:z0c X f [] [] fun v h x=>v=AB true∧h=[]∧x=[]) (he:∀ us w,(callFunc f us).run P w = .ok (.enter f us) w):PureRow P X.gl f zzI:=by
 refine⟨he,fun M w vs r us hc hb hG hl hr hs=>?_⟩
 cases vs with
 | cons a l=>cases hs
 | nil=>
  have hu:us=[]:=List.length_eq_zero_iff.1 (by simpa using hl.symm)
  subst hu
  simp only[zzI,Option.some.injEq] at hs
  subst hs
  have hno:∀ b o,¬ zbD ([]:Heap) ([]:Mu) b o:=fun b o ⟨id,n,h1,_⟩=>by simp at h1
  have hnt:∀ b,¬ ziS ([]:Mu) b:=fun b ⟨id,n,h1⟩=>by simp at h1
  have hG':GInv X.gl (imm [] [] w):=hG.mono' (fun b o v h=>z0Y.2 ⟨hno b o,hc b o v h⟩) (fun b o h=>z4e.2 ⟨hnt b,hb b o h⟩)
  have hR:HeapRel [] [] w:=⟨rfl,fun id o m h1=>by simp at h1,fun i j b n n' h1=>by simp at h1,fun i b n h1=>by simp at h1⟩
  rcases zaz HX H [] w [] hR hG' rfl (fun j y v h1=>by simp at h1) with ⟨_,q⟩ | ⟨r,w',v,h',x,μ',q,_⟩
  ·refine q.mono fun e w' h=>?_
   cases e with
   | panicked _=>exact h.elim
   | outgrown=>exact h.elim
   | returned r=>
    obtain⟨v,h',x,μ',⟨rfl,rfl,rfl⟩,h1,h2,h3,h4⟩:=h
    have hm:μ'=[]:=List.length_eq_zero_iff.1 (by simpa using h2.len)
    subst hm
    have hbl:∀ b o,w.heap[b]?=some o→w'.heap[b]?=some o:=fun b o h=>(z4e.1 (h3.le.b b o (z4e.2 ⟨hnt b,h⟩))).2
    refine⟨r,rfl,⟨?_,fun b hb=>?_,?_⟩,?_⟩
    ·rcases Nat.lt_or_ge w'.heap.size w.heap.size with q | q
     ·have:=hbl w'.heap.size _ (Array.getElem?_eq_getElem q)
      simp at this
     ·exact q
    ·rw[hbl b _ (Array.getElem?_eq_getElem hb),Array.getElem?_eq_getElem hb]
    ·have:=h3.le.z
     simpa [imm] using this
    ·have:=h1.p_bool
     rw[this]
     exact .p _ _ (.bool true)
  ·rw[he] at q
   cases q
end Go.Am
end
section
/- The abstract machine,part K: slices.Sorted(maps.Keys(m)) at a map keyed by strings: its keys,sorted;met by the kit's contract. -/
set_option linter.all false
namespace Go.Am
variable {P:Program} {gl:Nat→Option PV}
def zcr (ss:List (List UInt8)):List (List UInt8):=ss.mergeSort fun x y=>decide (x≤y)
def zjy:List ME→Option (List (List UInt8))
 | []=>some []
 | e::r=>match e.key with
  | .str s=>(zjy r).map (s :: ·)
  | _=>none
theorem zbg:∀ {es:List ME} {ss:List (List UInt8)},zjy es=some ss→es.map (·.key)=ss.map .str
 | [],ss,h=>by cases h;rfl
 | e::r,ss,h=>by
  unfold zjy at h
  split at h
  ·rename_i s hs
   obtain⟨t,ht,rfl⟩:=Option.map_eq_some_iff.1 h
   simp [hs,zbg ht]
  ·cases h
def z8p (w w':World) (x:Value) (ss:List (List UInt8)):Prop:=(ss=[]∧x = .slice none 0 0) ∨
 ∃ b cap,x = .slice (some ⟨b,0,none⟩) ss.length cap∧w.heap.size≤b∧ss.length≤cap∧∀ (j:Nat) (s:List UInt8),ss[j]?=some s→w'.cell? ⟨b,j,none⟩=some (.string ⟨s.toArray⟩)
theorem z8p.rpv {M:Mem} {w w':World} {x:Value} {ss:List (List UInt8)} (h:z8p w w' x ss):RPV (ExtM M w w') (.sl none (ss.map .str)) x:=by
 rcases h with ⟨rfl,rfl⟩ | ⟨b,cap,rfl,hb,hc,hx⟩
 ·exact .nils _ _ _
 ·cases hs:ss with
  | nil=>exact .nils _ _ _
  | cons s0 r=>
   rw[← hs]
   have hne:ss≠[]:=by rw[hs];simp
   have hfl:(ss.map PV.str).flatMap PV.cells=ss.map PV.str:=by
    rw[List.flatMap_map]
    clear hx hc hne hs
    induction ss with
    | nil=>rfl
    | cons a t ih=>rw[List.flatMap_cons,ih];rfl
   have:=RPV.sl (M:=ExtM M w w') none (ss.map .str) b 0 cap (fun j=>.string ⟨(ss.getD j []).toArray⟩) (by simpa using hne) (by simpa using hc) (fun x hx=>by
    obtain⟨s,_,rfl⟩:=List.mem_map.1 hx
    rfl) (fun j y hy=>by
    rw[hfl,List.getElem?_map] at hy
    obtain⟨s,hs,rfl⟩:=Option.map_eq_some_iff.1 hy
    show (if b<w.heap.size then M.c b (0+j) else w'.cell? ⟨b,0+j,none⟩)=_
    rw[if_neg (by omega),Nat.zero_add,hx j s hs]
    simp [List.getD,hs]) (fun j y hy=>by
    rw[hfl,List.getElem?_map] at hy
    obtain⟨s,hs,rfl⟩:=Option.map_eq_some_iff.1 hy
    simp only[List.getD,hs,Option.getD_some]
    exact .str s)
   simpa using this
structure KeysRow (P:Program) (f g:Nat):Prop where
 enter:∀ us w,(callFunc f us).run P w = .ok (.enter f us) w
 run:∀ (w:World) (bq bm clk:Nat) (ces:Array MapEntry) (ss:List (List UInt8)),w.cell? ⟨bq,0,none⟩=some (.map (some bm))→w.heap[bm]?=some (.map ces clk) →
  ces.toList.map (·.key)=ss.map (fun s=>Value.string ⟨s.toArray⟩)→(∀ x∈ces.toList,x.born<clk)→(ces.toList.map (·.born)).Nodup→ss.Nodup→(∀ s∈ss,s.length≤maxLen)→ss.length≤1000000 →
  Calls P f #[.func (.func g) #[] #[.pointer (some ⟨bq,0,none⟩)]] w fun e w'=>∃ x,e = .returned x∧WExt w w'∧z8p w w' x (zcr ss)
 nil:∀ (w:World) (bq:Nat),w.cell? ⟨bq,0,none⟩=some (.map none) →
  Calls P f #[.func (.func g) #[] #[.pointer (some ⟨bq,0,none⟩)]] w fun e w'=>∃ x,e = .returned x∧WExt w w'∧z8p w w' x []
def zfQ (es:List ME):Option (List (List UInt8)):=match zjy es with
 | some ss=>if ss.Nodup∧(es.map (·.born)).Nodup∧ss.length≤1000000∧∀ s∈ss,s.length≤maxLen then some (zcr ss) else none
 | none=>none
abbrev zc3:=List (Nat × Nat)
def zjz:zc3→Nat→List AV→Heap→Option (AV × Heap × Esc)
 | [],_,_,_=>none
 | (g,m)::r,f,asv,h=>bif Nat.beq f g&&(match asv with
  | [.fn k [.ref _ 0]]=>Nat.beq k m
  | _=>false) then (match asv with
  | [.fn _ [.ref q 0]]=>(match h[q]? with
   | some (.box [.mp id])=>(match h[id]? with
    | some (.amap es _)=>(zfQ es).map fun ss=>(.p (.sl none (ss.map .str)),h,[])
    | _=>none)
   | some (.box [.nilm])=>some (.p (.sl none []),h,[])
   | _=>none)
  | _=>none) else zjz r f asv h
theorem zhZ:∀ (gs:zc3),(∀ g m,(g,m)∈gs→KeysRow P g m)→∀ {f:Nat} {asv:List AV} {h:Heap} {v:AV} {h':Heap} {x:Esc},zjz gs f asv h=some (v,h',x) →
 z1y P gl f asv h fun v1 h1 x1=>v1=v∧h1=h'∧x1=x
 | [],_,f,asv,h,v,h',x,H=>by cases H
 | (g,m)::r,hg,f,asv,h,v,h',x,H=>by
  unfold zjz at H
  rw[Bool.cond_eq_ite] at H
  generalize hbb:(Nat.beq f g&&_)=bb at H
  cases bb with
  | true=>
   rw[if_pos rfl] at H
   rw[Bool.and_eq_true] at hbb
   obtain⟨hf,hb⟩:=hbb
   have e:=Nat.eq_of_beq_eq_true hf
   subst e
   split at hb
   ·rename_i k q
    have e:=Nat.eq_of_beq_eq_true hb
    subst e
    have R:=hg f k (by simp)
    have key:∃ ss:List (List UInt8),(v,h',x)=(.p (.sl none (ss.map .str)),h,[])∧∀ (μ:Mu) (w:World) (u:Value),HeapRel h μ w→RAV (imm h μ w) h μ (.fn k [.ref q 0]) u →
     Calls P f #[u] w fun e w'=>∃ x,e = .returned x∧WExt w w'∧z8p w w' x ss:=by
     have arg:∀ (μ:Mu) (w:World) (u:Value) (cs:List AV),h[q]?=some (.box cs)→HeapRel h μ w→RAV (imm h μ w) h μ (.fn k [.ref q 0]) u →
      ∀ a,cs[0]?=some a→∃ b v,u = .func (.func k) #[] #[.pointer (some ⟨b,0,none⟩)]∧w.cell? ⟨b,0,none⟩=some v∧RAV (imm h μ w) h μ a v:=by
      intro μ w u cs hq Hh hu a ha
      cases hu with
      | fn _ _ vs hl hr=>
       match vs,hl with
       | [u0],_=>
        have q0:=hr 0 _ u0 rfl rfl
        cases q0 with
        | ref _ _ b n cs' ho hm=>
         have O:=Hh.obj q _ _ hq hm
         obtain⟨b',c,e1,B,hc⟩:=O
         cases e1
         obtain⟨_,v,hv,hR⟩:=hc 0 a ha
         obtain⟨_,E,lo,hi,hB,_⟩:=B
         refine⟨b,v,rfl,?_,hR⟩
         simp only[World.cell?,hB]
         simpa using hv
     split at H
     case h_2=>cases H
     rename_i k' q' hq0
     cases hq0
     split at H
     ·rename_i id hq
      split at H
      ·rename_i es c hid
       obtain⟨ss,hk,e2⟩:=Option.map_eq_some_iff.1 H
       refine⟨ss,e2.symm,fun μ w u Hh hu=>?_⟩
       obtain⟨b,v,rfl,hcell,hR⟩:=arg μ w u _ hq Hh hu _ rfl
       unfold zfQ at hk
       split at hk
       ·rename_i s0 hs0
        split at hk
        ·rename_i hc
         cases hk
         obtain⟨k1,k2,k3,k4⟩:=hc
         cases hR with
         | mp _ bm nm es' c' ho hm=>
          rw[hid] at ho
          cases ho
          have O:=Hh.obj id _ _ hid hm
          obtain⟨b',n',ces,e1,hblk,hsz,hborn,hes⟩:=O
          cases e1
          have hkeys:=zbg hs0
          have hlen:es.length=s0.length:=by simpa using congrArg List.length hkeys
          refine R.run w b bm c ces s0 hcell hblk ?_ ?_ ?_ k1 k4 k3
          ·apply List.ext_getElem?
           intro i
           simp only[List.getElem?_map,Array.getElem?_toList]
           by_cases hi:i<es.length
           ·have h1:es[i]?=some es[i]:=List.getElem?_eq_getElem hi
            have h2:ces[i]?=some (ces[i]'(by omega)):=Array.getElem?_eq_getElem (by omega)
            have h3:s0[i]?=some (s0[i]'(by omega)):=List.getElem?_eq_getElem (by omega)
            obtain⟨r1,_⟩:=hes i _ _ h1 h2
            have h4:=congrArg (·[i]?) hkeys
            simp only[List.getElem?_map,h1,h3,Option.map_some,Option.some.injEq] at h4
            rw[h4] at r1
            rw[h2,h3]
            simp only[Option.map_some]
            revert r1
            generalize ces[i].key=kk
            intro r1
            cases r1
            rfl
           ·rw[Array.getElem?_eq_none (by omega),List.getElem?_eq_none (by omega)]
            rfl
          ·intro x hx
           obtain⟨i,hi,rfl⟩:=List.mem_iff_getElem.1 hx
           have hi':i<ces.size:=by simpa using hi
           have h1:es[i]?=some (es[i]'(by omega)):=List.getElem?_eq_getElem (by omega)
           have h2:ces[i]?=some ces[i]:=Array.getElem?_eq_getElem hi'
           obtain⟨_,_,_,r4⟩:=hes i _ _ h1 h2
           have:=hborn _ (List.getElem_mem (l:=es) (n:=i) (by omega))
           simp only[Array.getElem_toList]
           omega
          ·have:ces.toList.map (·.born)=es.map (·.born):=by
            apply List.ext_getElem?
            intro i
            simp only[List.getElem?_map,Array.getElem?_toList]
            by_cases hi:i<es.length
            ·have h1:es[i]?=some es[i]:=List.getElem?_eq_getElem hi
             have h2:ces[i]?=some (ces[i]'(by omega)):=Array.getElem?_eq_getElem (by omega)
             obtain⟨_,_,_,r4⟩:=hes i _ _ h1 h2
             rw[h1,h2]
             simp [r4]
            ·rw[Array.getElem?_eq_none (by omega),List.getElem?_eq_none (by omega)]
             rfl
           rw[this]
           exact k2
        ·cases hk
       ·cases hk
      ·cases H
     ·rename_i hq
      refine⟨[],(Option.some.inj H).symm,fun μ w u Hh hu=>?_⟩
      obtain⟨b,v,rfl,hcell,hR⟩:=arg μ w u _ hq Hh hu _ rfl
      cases hR
      exact R.nil w b hcell
     ·cases H
    obtain⟨ss,e3,hrun⟩:=key
    cases e3
    intro μ w vs Hh Hg hl hr
    match vs,hl with
    | [u],_=>
     refine .inl ⟨R.enter _,(hrun μ w u Hh (hr 0 _ u rfl rfl)).mono fun e w' he=>?_⟩
     obtain⟨u,rfl,g1,g2⟩:=he
     obtain⟨n1,n2⟩:=Hh.ext g1
     have Lq:(ExtM (imm h μ w) w w').le (imm h μ w'):=by
      refine⟨fun b o v hv=>?_,fun b o hv=>?_,rfl,fun _ _ h=>by cases h⟩
      ·dsimp only[ExtM] at hv
       split at hv
       ·exact n2.le.c _ _ _ hv
       ·rename_i hb
        exact z0Y.2 ⟨fun hO=>hb (z7N Hh hO),hv⟩
      ·dsimp only[ExtM] at hv
       cases hv
     have g3:RAV (ExtM (imm h μ w) w w') [] [] (.p (.sl none (ss.map .str))) u:=.p _ _ g2.rpv
     exact⟨_,_,_,μ,⟨rfl,rfl,rfl⟩,g3.evo ⟨Lq,Nat.zero_le _,fun id o m h1=>by simp at h1⟩,n1,n2,z0i.refl h []⟩
   ·cases hb
  | false=>
   rw[if_neg (by simp)] at H
   exact zhZ r (fun g m hm=>hg g m (by simp [hm])) H
def libK (ks:zc3) (gs:List (Nat × Sh)) (ps:z6U) (f:Nat) (asv:List AV) (h:Heap):Option (AV × Heap × Esc):=match zjz ks f asv h with
 | some y=>some y
 | none=>libF gs ps f asv h
theorem libK_ok {ks:zc3} {gs:List (Nat × Sh)} {ps:z6U} (hk:∀ g m,(g,m)∈ks→KeysRow P g m) (hg:∀ g sh,(g,sh)∈gs→GrowRow P g sh) (hp:∀ g s,(g,s)∈ps→PureRow P gl g s) {f:Nat} {asv:List AV} {h:Heap} {v:AV} {h':Heap} {x:Esc} (H:libK ks gs ps f asv h=some (v,h',x)) :
 z1y P gl f asv h fun v1 h1 x1=>v1=v∧h1=h'∧x1=x:=by
 unfold libK at H
 split at H
 ·rename_i y hy
  cases H
  exact zhZ ks hk hy
 ·exact zyC hg hp H
def zbY:zc3→Nat→Nat→Bool
 | [],_,_=>false
 | (g,m)::r,f,k=>(Nat.beq f g&&Nat.beq k m)||zbY r f k
theorem zeD:∀ {ks:zc3} {f m q id c:Nat} {h:Heap} {es:List ME} {ss:List (List UInt8)},zbY ks f m=true→h[q]?=some (.box [.mp id])→h[id]?=some (.amap es c)→zfQ es=some ss →
 zjz ks f [.fn m [.ref q 0]] h=some (.p (.sl none (ss.map .str)),h,[])
 | [],f,m,q,id,c,h,es,ss,hk,_,_,_=>by cases hk
 | (g,k)::r,f,m,q,id,c,h,es,ss,hk,h1,h2,h3=>by
  unfold zbY at hk
  unfold zjz
  cases hb:Nat.beq f g&&Nat.beq m k with
  | true=>simp [hb,h1,h2,h3]
  | false=>rw[hb] at hk;simp only[hb,cond_false];exact zeD (by simpa using hk) h1 h2 h3
theorem zqb {ks:zc3} {gs:List (Nat × Sh)} {ps:z6U} {f m q id c:Nat} {h:Heap} {es:List ME} {ss:List (List UInt8)} (hk:zbY ks f m=true) (h1:h[q]?=some (.box [.mp id])) (h2:h[id]?=some (.amap es c)) (h3:zfQ es=some ss) :
 libK ks gs ps f [.fn m [.ref q 0]] h=some (.p (.sl none (ss.map .str)),h,[]):=by
 unfold libK;rw[zeD hk h1 h2 h3]
end Go.Am
end
section
/- The functions together. -/
set_option linter.unusedVariables false
set_option maxRecDepth 100000
namespace Go.Am
def fns:List (Nat × AFun):=[(zhD,zls),(zaI,zl1),(zaH,zl0),(z1D,zlz),(zaW,zlO),(zaV,zlN),(z7w,zg1),(z7z,zg6),(zaO,zlE),(zaX,zlP),(z3M,zg2),(zaG,zlu),(zaJ,zl3),(z1T,zlw),(z2P,zgA),(z1H,zgG),(z2Q,zgJ),(zaD,zlp),(zaZ,zlS),(z17,zgu),(zaQ,zlG),(zba,zlT),(zaY,zlQ),(z5O,zg3),(z2O,zly),(z1p,zl2),(z4a,zlv),(z2N,zlx),(zaS,zlI),(z5e,zl6),(zaK,zl5),(zaN,zlD),(z9g,zl4),(zaM,zlB),(z5d,zlt),(z9d,zgt),(z9i,zg5),(z9h,zg4),(z9q,zgH),(z9k,zg8),(z4c,zgF),(zaR,zlH),(z9p,zlR),(z5c,zgy),(z3Z,zgx),(z2l,zgK),(zaU,zlM),(z7y,zlC),(z3L,zl7),(z2k,zl9),(zaL,zl8),(zaP,zlF),(z0T,zgw),(z9l,zg9),(z9j,zg7),(z9r,zgI),(z5M,zgv),(z9o,zgE),(z9n,zgC),(z5P,zgD),(zaE,zlq),(z5f,zlL),(z5N,zgz),(z9e,zg0),(z4b,zlJ),(z7x,zlA),(z9m,zgB),(zaF,zlr),(zaT,zlK),(zbb,zlU),(zaC,zlo)]
def GRL:List (Nat × Sh):=[]
def PRL:z6U:=[(z70,zjx),(zoP,trimS),(z9f,zzI)]
def GLL:List (Nat × PV):=[(1,zcf)]
def KRL:zc3:=[(zhE,ze6)]
def fnOf:List (Nat × AFun)→Nat→Option AFun
 | [],_=>none
 | (k,F)::r,n=>bif Nat.beq k n then some F else fnOf r n
def X:Ctx:=⟨fnOf fns,glOf GLL,extF z0h z0g,libK KRL GRL PRL⟩
theorem zhO {p:Nat→AFun→Bool}:∀ (l:List (Nat × AFun)),(l.all fun y=>p y.1 y.2)=true→∀ n F,fnOf l n=some F→p n F=true
 | [],_,n,F,h=>by cases h
 | (k,G)::r,ha,n,F,h=>by
  simp only[List.all_cons,Bool.and_eq_true] at ha
  simp only[fnOf] at h
  cases hk:Nat.beq k n with
  | true=>
   rw[hk] at h
   have:=Nat.eq_of_beq_eq_true hk
   simp only[cond_true,Option.some.injEq] at h
   subst this;subst h;exact ha.1
  | false=>
   rw[hk] at h
   exact zhO r ha.2 n F h
def fns0:List (Nat × AFun):=[(z7w,zg1),(z7z,zg6),(z3M,zg2),(z9f,a_q024),(z2P,zgA),(z1H,zgG),(z2Q,zgJ),(z17,zgu),(z5O,zg3),(zwn,a_q00c),(zwG,a_q025),(zw3,a_q00z),(zwX,a_q070),(zwA,a_q01l),(z9d,zgt),(z9i,zg5),(z9h,zg4),(z9q,zgH),(z9k,zg8),(z4c,zgF),(z5c,zgy),(z3Z,zgx),(z2l,zgK),(zwl,a_q00a),(zww,a_q00m),(zhC,a_q00n),(zw2,a_q00y),(zwW,a_q06z),(zoS,a_q074),(zwD,a_q01o),(zwC,a_q01n),(zoN,a_q002),(z0T,zgw),(z9l,zg9),(z9j,zg7),(z9r,zgI),(z5M,zgv),(z9o,zgE),(z9n,zgC),(z5P,zgD),(z5N,zgz),(z9e,zg0),(zwm,a_q00b),(z9c,a_q000),(zwq,a_q00f),(zwI,a_q03r),(zw4,a_q010),(zw6,a_q012),(zw9,a_q015),(zw8,a_q014),(zw7,a_q013),(zwZ,a_q073),(zxf,a_q07c),(zxb,a_q077),(zwJ,a_q03v),(zwE,a_q01p),(zwB,a_q01m),(zwk,a_q003),(z9m,zgB),(zwr,a_q00g),(zwv,a_q00l),(zwx,a_q00o),(zw1,a_q00x),(zw0,a_q00w),(zxe,a_q07b),(zoR,a_q071),(zxc,a_q079),(zwY,a_q072),(zxd,a_q07a),(zxa,a_q076),(ze7,a_q078),(zhG,a_q075),(zwM,a_q045),(zwp,a_q00e),(ze5,a_q00k),(zoO,a_q03t),(zws,a_q00h),(zwy,a_q00p),(zwo,a_q00d),(zw5,a_q011),(zwK,a_q03x),(zwV,a_q06o),(zwL,a_q043),(zwt,a_q00i),(zwz,a_q00q),(zwN,a_q048),(zoQ,a_q06p),(z9t,zgL),(zwH,a_q03p),(zwu,a_q00j),(z9s,zcT)]
def PRL0:z6U:=[(z70,zjx),(zoP,trimS)]
def X0:Ctx:=⟨fnOf fns0,glOf GLL,extF z0h z0g,libF GRL PRL0⟩
theorem zgo:X0.fn z9t=some zgL:=by kernel_rfl
theorem zgn:X0.fn z9s=some zcT:=by kernel_rfl
theorem zgs:X.NoNext:=fun f F h=>zhO (p:=fun _ F=>F.isDet||F.body.noNext) fns (by kernel_rfl) f F h
theorem x_q022:X.fn zhD=some zls:=by kernel_rfl
theorem c_q022 {u0 v0:AV} {h h1:Heap} {P:Post} (hp:z0t h [u0]=some ([v0],h1)):z0c X zhD [u0] h P=zhd (z0c X) X.gl z2V z4p v0 h1 [] (finR [.t 2] false h.length P):=by rw[z0k x_q022 rfl hp rfl];exact e_q022
theorem x_q02n:X.fn zaI=some zl1:=by kernel_rfl
theorem c_q02n {u0 v0:AV} {h h1:Heap} {P:Post} (hp:z0t h [u0]=some ([v0],h1)):z0c X zaI [u0] h P=zmI (z0c X) X.gl v0 h1 [] (finR [.cell 2 (some 2)] false h.length P):=by rw[z0k x_q02n rfl hp rfl];exact e_q02n
theorem x_q02m:X.fn zaH=some zl0:=by kernel_rfl
theorem c_q02m {u0 u1 v0 v1:AV} {h h1:Heap} {P:Post} (hp:z0t h [u0,u1]=some ([v0,v1],h1)):z0c X zaH [u0,u1] h P=zhi (z0c X) X.gl z2Y z6o v0 v1 h1 [] (finR [.t 4] false h.length P):=by rw[z0k x_q02m rfl hp rfl];exact e_q02m
theorem x_q02l:X.fn z1D=some zlz:=by kernel_rfl
theorem c_q02l {u0 u1 u2 v0 v1 v2:AV} {h h1:Heap} {P:Post} (hp:z0t h [u0,u1,u2]=some ([v0,v1,v2],h1)):z0c X z1D [u0,u1,u2] h P=zmH (z0c X) X.gl v0 v1 v2 h1 [] (finR [.t 6] false h.length P):=by rw[z0k x_q02l rfl hp rfl];exact e_q02l
theorem x_q05p:X.fn zaW=some zlO:=by kernel_rfl
theorem c_q05p {u0 u1 u2 v0 v1 v2:AV} {h h1:Heap} {P:Post} (hp:z0t h [u0,u1,u2]=some ([v0,v1,v2],h1)):z0c X zaW [u0,u1,u2] h P=zdV (z0c X) X.gl z3l z6z v0 v1 v2 h1 [] (finR [.t 6,.t 7] false h.length P):=by rw[z0k x_q05p rfl hp rfl];exact e_q05p
theorem x_q05j:X.fn zaV=some zlN:=by kernel_rfl
theorem c_q05j {u0 u1 u2 v0 v1 v2:AV} {h h1:Heap} {P:Post} (hp:z0t h [u0,u1,u2]=some ([v0,v1,v2],h1)):z0c X zaV [u0,u1,u2] h P = ∃ v h' x,P v h' x∧zhr (z0c X) X.gl z3k z6y v0 v1 v2 h1 [] (finR [.t 6,.t 7] false h.length fun v1 h1 x1=>v1=v∧h1=h'∧x1=x):=by rw[z3U x_q05j rfl hp rfl];exact ze3 fun v h' x=>congrArg (And (P v h' x)) e_q05j
theorem x_q023:X.fn z7w=some zg1:=by kernel_rfl
theorem c_q023 {u0 v0:AV} {h h1:Heap} {P:Post} (hp:z0t h [u0]=some ([v0],h1)):z0c X z7w [u0] h P=zhe (z0c X) X.gl z2W z6j v0 h1 [] (finR [.t 2] false h.length P):=by rw[z0k x_q023 rfl hp rfl];exact e_q023
theorem x_q05l:X.fn z7z=some zg6:=by kernel_rfl
theorem c_q05l {u0 u1 u2 u3 v0 v1 v2 v3:AV} {h h1:Heap} {P:Post} (hp:z0t h [u0,u1,u2,u3]=some ([v0,v1,v2,v3],h1)):z0c X z7z [u0,u1,u2,u3] h P=za8 (z0c X) X.gl v0 v1 v2 v3 h1 [] (finR [.cell 8 (some 5),.t 9] false h.length P):=by rw[z0k x_q05l rfl hp rfl];exact e_q05l
theorem x_q03w:X.fn zaO=some zlE:=by kernel_rfl
theorem c_q03w {u0 u1 h P}:z0c X zaO [u0,u1] h P=zmO (z0c X) X.gl u0 u1 h [] (finR [.t 4] false h.length P):=by rw[z14 x_q03w rfl rfl];exact e_q03w
theorem x_q05r:X.fn zaX=some zlP:=by kernel_rfl
theorem c_q05r {u0 u1 u2 u3 v0 v1 v2 v3:AV} {h h1:Heap} {P:Post} (hp:z0t h [u0,u1,u2,u3]=some ([v0,v1,v2,v3],h1)):z0c X zaX [u0,u1,u2,u3] h P=zhs (z0c X) X.gl v0 v1 v2 v3 h1 [] (finR [.t 8,.t 9] false h.length P):=by rw[z0k x_q05r rfl hp rfl];exact e_q05r
theorem x_q03y:X.fn z3M=some zg2:=by kernel_rfl
theorem c_q03y {u0 u1 h P}:z0c X z3M [u0,u1] h P=zmP (z0c X) X.gl u0 u1 h [] (finR [.t 4] false h.length P):=by rw[z14 x_q03y rfl rfl];exact e_q03y
theorem x_q02f:X.fn zaG=some zlu:=by kernel_rfl
theorem c_q02f {u0 u1 v0 v1:AV} {h h1:Heap} {P:Post} (hp:z0t h [u0,u1]=some ([v0,v1],h1)):z0c X zaG [u0,u1] h P=zhg (z0c X) X.gl z2X z4s v0 v1 h1 [] (finR [.t 4] false h.length P):=by rw[z0k x_q02f rfl hp rfl];exact e_q02f
theorem x_q02r:X.fn zaJ=some zl3:=by kernel_rfl
theorem c_q02r {u0 v0:AV} {h h1:Heap} {P:Post} (hp:z0t h [u0]=some ([v0],h1)):z0c X zaJ [u0] h P=zd2 (z0c X) X.gl z2Z z6p v0 h1 [] (finR [.t 2] false h.length P):=by rw[z0k x_q02r rfl hp rfl];exact e_q02r
theorem x_q02i:X.fn z1T=some zlw:=by kernel_rfl
theorem c_q02i {u0 u1 v0 v1:AV} {h h1:Heap} {P:Post} (hp:z0t h [u0,u1]=some ([v0,v1],h1)):z0c X z1T [u0,u1] h P=zhh (z0c X) X.gl v0 v1 h1 [] (finR [.t 4] false h.length P):=by rw[z0k x_q02i rfl hp rfl];exact e_q02i
theorem x_q05v:X.fn z2P=some zgA:=by kernel_rfl
theorem c_q05v {u0 u1 u2 v0 v1 v2:AV} {h h1:Heap} {P:Post} (hp:z0t h [u0,u1,u2]=some ([v0,v1,v2],h1)):z0c X z2P [u0,u1,u2] h P=zmT (z0c X) X.gl v0 v1 v2 h1 [] (finR [.t 6] false h.length P):=by rw[z0k x_q05v rfl hp rfl];exact e_q05v
theorem x_q064:X.fn z1H=some zgG:=by kernel_rfl
theorem c_q064 {u0 u1 v0 v1:AV} {h h1:Heap} {P:Post} (hp:z0t h [u0,u1]=some ([v0,v1],h1)):z0c X z1H [u0,u1] h P=zhw (z0c X) X.gl z3p z69 v0 v1 h1 [] (finR [.t 4] false h.length P):=by rw[z0k x_q064 rfl hp rfl];exact e_q064
theorem x_q069:X.fn z2Q=some zgJ:=by kernel_rfl
theorem c_q069 {u0 u1 v0 v1:AV} {h h1:Heap} {P:Post} (hp:z0t h [u0,u1]=some ([v0,v1],h1)):z0c X z2Q [u0,u1] h P=zhz (z0c X) X.gl z3r z6C v0 v1 h1 [] (finR [.t 4] false h.length P):=by rw[z0k x_q069 rfl hp rfl];exact e_q069
theorem x_q01s:X.fn zaD=some zlp:=by kernel_rfl
theorem c_q01s {u0 v0:AV} {h h1:Heap} {P:Post} (hp:z0t h [u0]=some ([v0],h1)):z0c X zaD [u0] h P=zmD (z0c X) X.gl v0 h1 [] (finR [.t 2] false h.length P):=by rw[z0k x_q01s rfl hp rfl];exact e_q01s
theorem x_q066:X.fn zaZ=some zlS:=by kernel_rfl
theorem c_q066 {u0 v0:AV} {h h1:Heap} {P:Post} (hp:z0t h [u0]=some ([v0],h1)):z0c X zaZ [u0] h P=z8Q (z0c X) X.gl v0 h1 [] (finR [.t 2] false h.length P):=by rw[z0k x_q066 rfl hp rfl];exact e_q066
theorem x_q004:X.fn z17=some zgu:=by kernel_rfl
theorem c_q004 {u0 v0:AV} {h h1:Heap} {P:Post} (hp:z0t h [u0]=some ([v0],h1)):z0c X z17 [u0] h P=z7p (z0c X) X.gl z2T z6f v0 h1 [] (finR [.t 2] false h.length P):=by rw[z0k x_q004 rfl hp rfl];exact e_q004
theorem x_q047:X.fn zaQ=some zlG:=by kernel_rfl
theorem c_q047 {u0 u1 h P}:z0c X zaQ [u0,u1] h P=zhm (z0c X) X.gl z3c z6t u0 u1 h [] (finR [.t 4] false h.length P):=by rw[z14 x_q047 rfl rfl];exact e_q047
theorem x_q067:X.fn zba=some zlT:=by kernel_rfl
theorem c_q067 {u0 u1 u2 u3 v0 v1 v2 v3:AV} {h h1:Heap} {P:Post} (hp:z0t h [u0,u1,u2,u3]=some ([v0,v1,v2,v3],h1)):z0c X zba [u0,u1,u2,u3] h P=zaA (z0c X) X.gl z6A v0 v1 v2 v3 h1 [] (finR [.t 8] false h.length P):=by rw[z0k x_q067 rfl hp rfl];exact e_q067
theorem x_q062:X.fn zaY=some zlQ:=by kernel_rfl
theorem c_q062 {u0 u1 v0 v1:AV} {h h1:Heap} {P:Post} (hp:z0t h [u0,u1]=some ([v0,v1],h1)):z0c X zaY [u0,u1] h P = ∃ v h' x,P v h' x∧zhv (z0c X) X.gl z3o z68 v0 v1 h1 [] (finR [.t 4] false h.length fun v1 h1 x1=>v1=v∧h1=h'∧x1=x):=by rw[z3U x_q062 rfl hp rfl];exact ze3 fun v h' x=>congrArg (And (P v h' x)) e_q062
theorem x_q049:X.fn z5O=some zg3:=by kernel_rfl
theorem c_q049 {u0 u1 h P}:z0c X z5O [u0,u1] h P=zhn (z0c X) X.gl z3d z6u u0 u1 h [] (finR [.t 4] false h.length P):=by rw[z14 x_q049 rfl rfl];exact e_q049
theorem x_q02k:X.fn z2O=some zly:=by kernel_rfl
theorem c_q02k {u0 u1 v0 v1:AV} {h h1:Heap} {P:Post} (hp:z0t h [u0,u1]=some ([v0,v1],h1)):z0c X z2O [u0,u1] h P=zmG (z0c X) X.gl v0 v1 h1 [] (finR [.t 4] false h.length P):=by rw[z0k x_q02k rfl hp rfl];exact e_q02k
theorem x_q02o:X.fn z1p=some zl2:=by kernel_rfl
theorem c_q02o {u0 u1 v0 v1:AV} {h h1:Heap} {P:Post} (hp:z0t h [u0,u1]=some ([v0,v1],h1)):z0c X z1p [u0,u1] h P=zmJ (z0c X) X.gl v0 v1 h1 [] (finR [.t 4] false h.length P):=by rw[z0k x_q02o rfl hp rfl];exact e_q02o
theorem x_q02h:X.fn z4a=some zlv:=by kernel_rfl
theorem c_q02h {u0 u1 v0 v1:AV} {h h1:Heap} {P:Post} (hp:z0t h [u0,u1]=some ([v0,v1],h1)):z0c X z4a [u0,u1] h P=zmF (z0c X) X.gl v0 v1 h1 [] (finR [.t 4] false h.length P):=by rw[z0k x_q02h rfl hp rfl];exact e_q02h
theorem x_q02j:X.fn z2N=some zlx:=by kernel_rfl
theorem zgS {u0 u1 u2 v0 v1 v2:AV} {h h1:Heap} {P:Post} (hp:z0t h [u0,u1,u2]=some ([v0,v1,v2],h1)):z0c X z2N [u0,u1,u2] h P=za5 (z0c X) X.gl v0 v1 v2 h1 [] (finR [.t 6] false h.length P):=by rw[z0k x_q02j rfl hp rfl];exact e_q02j
theorem x_q04b:X.fn zaS=some zlI:=by kernel_rfl
theorem c_q04b {u0 u1 h P}:z0c X zaS [u0,u1] h P=zmR (z0c X) X.gl u0 u1 h [] (finR [] false h.length P):=by rw[z14 x_q04b rfl rfl];exact e_q04b
theorem x_q02u:X.fn z5e=some zl6:=by kernel_rfl
theorem zwe {u0 u1 v0 v1:AV} {h h1:Heap} {P:Post} (hp:z0t h [u0,u1]=some ([v0,v1],h1)):z0c X z5e [u0,u1] h P=z7r (z0c X) X.gl v0 v1 h1 [] (finR [.t 4] false h.length P):=by rw[z0k x_q02u rfl hp rfl];exact e_q02u
theorem x_q02t:X.fn zaK=some zl5:=by kernel_rfl
theorem c_q02t {u0 v0:AV} {h h1:Heap} {P:Post} (hp:z0t h [u0]=some ([v0],h1)):z0c X zaK [u0] h P=z7q (z0c X) X.gl z6q v0 h1 [] (finR [.t 2] false h.length P):=by rw[z0k x_q02t rfl hp rfl];exact e_q02t
theorem x_q03u:X.fn zaN=some zlD:=by kernel_rfl
theorem c_q03u {u0 u1 h P}:z0c X zaN [u0,u1] h P=zmN (z0c X) X.gl u0 u1 h [] (finR [.t 4] false h.length P):=by rw[z14 x_q03u rfl rfl];exact e_q03u
theorem x_q02s:X.fn z9g=some zl4:=by kernel_rfl
theorem c_q02s {u0 u1 v0 v1:AV} {h h1:Heap} {P:Post} (hp:z0t h [u0,u1]=some ([v0,v1],h1)):z0c X z9g [u0,u1] h P=zmK (z0c X) X.gl v0 v1 h1 [] (finR [.t 3] false h.length P):=by rw[z0k x_q02s rfl hp rfl];exact e_q02s
theorem x_q03m:X.fn zaM=some zlB:=by kernel_rfl
theorem c_q03m {u0 u1 v0 v1:AV} {h h1:Heap} {P:Post} (hp:z0t h [u0,u1]=some ([v0,v1],h1)):z0c X zaM [u0,u1] h P=zhk (z0c X) X.gl v0 v1 h1 [] (finR [.t 4] false h.length P):=by rw[z0k x_q03m rfl hp rfl];exact e_q03m
theorem x_q02d:X.fn z5d=some zlt:=by kernel_rfl
theorem c_q02d {u0 u1 v0 v1:AV} {h h1:Heap} {P:Post} (hp:z0t h [u0,u1]=some ([v0,v1],h1)):z0c X z5d [u0,u1] h P=zhf (z0c X) X.gl z6k v0 v1 h1 [] (finR [.t 4] false h.length P):=by rw[z0k x_q02d rfl hp rfl];exact e_q02d
theorem x_q001:X.fn z9d=some zgt:=by kernel_rfl
theorem c_q001 {u0 v0:AV} {h h1:Heap} {P:Post} (hp:z0t h [u0]=some ([v0],h1)):z0c X z9d [u0] h P=zha (z0c X) X.gl z2S z6e v0 h1 [] (finR [.t 2] false h.length P):=by rw[z0k x_q001 rfl hp rfl];exact e_q001
theorem x_q05i:X.fn z9i=some zg5:=by kernel_rfl
theorem c_q05i {u0 v0:AV} {h h1:Heap} {P:Post} (hp:z0t h [u0]=some ([v0],h1)):z0c X z9i [u0] h P=za7 (z0c X) X.gl z3j z6x v0 h1 [] (finR [.t 2] false h.length P):=by rw[z0k x_q05i rfl hp rfl];exact e_q05i
theorem x_q05h:X.fn z9h=some zg4:=by kernel_rfl
theorem c_q05h {u0 v0:AV} {h h1:Heap} {P:Post} (hp:z0t h [u0]=some ([v0],h1)):z0c X z9h [u0] h P=zdO (z0c X) X.gl z3i z6w v0 h1 [] (finR [.t 2] false h.length P):=by rw[z0k x_q05h rfl hp rfl];exact e_q05h
theorem x_q065:X.fn z9q=some zgH:=by kernel_rfl
theorem c_q065 {u0 v0:AV} {h h1:Heap} {P:Post} (hp:z0t h [u0]=some ([v0],h1)):z0c X z9q [u0] h P=zhx (z0c X) X.gl v0 h1 [] (finR [.t 2] false h.length P):=by rw[z0k x_q065 rfl hp rfl];exact e_q065
theorem x_q05t:X.fn z9k=some zg8:=by kernel_rfl
theorem c_q05t {u0 v0:AV} {h h1:Heap} {P:Post} (hp:z0t h [u0]=some ([v0],h1)):z0c X z9k [u0] h P=zht (z0c X) X.gl z3m z60 v0 h1 [] (finR [.t 2] false h.length P):=by rw[z0k x_q05t rfl hp rfl];exact e_q05t
theorem x_q061:X.fn z4c=some zgF:=by kernel_rfl
theorem zgT {u0 u1 v0 v1:AV} {h h1:Heap} {P:Post} (hp:z0t h [u0,u1]=some ([v0,v1],h1)):z0c X z4c [u0,u1] h P=z2i (z0c X) X.gl z66 z67 v0 v1 h1 [] (finR [.t 4] false h.length P):=by rw[z0k x_q061 rfl hp rfl];exact e_q061
theorem x_q04a:X.fn zaR=some zlH:=by kernel_rfl
theorem c_q04a {u0 u1 h P}:z0c X zaR [u0,u1] h P=zmQ (z0c X) X.gl u0 u1 h [] (finR [] false h.length P):=by rw[z14 x_q04a rfl rfl];exact e_q04a
theorem x_q063:X.fn z9p=some zlR:=by kernel_rfl
theorem c_q063 {u0 u1 u2 v0 v1 v2:AV} {h h1:Heap} {P:Post} (hp:z0t h [u0,u1,u2]=some ([v0,v1,v2],h1)):z0c X z9p [u0,u1,u2] h P=zmV (z0c X) X.gl v0 v1 v2 h1 [] (finR [.t 5] false h.length P):=by rw[z0k x_q063 rfl hp rfl];exact e_q063
theorem x_q00t:X.fn z5c=some zgy:=by kernel_rfl
theorem c_q00t {u0 v0:AV} {h h1:Heap} {P:Post} (hp:z0t h [u0]=some ([v0],h1)):z0c X z5c [u0] h P=zhb (z0c X) X.gl z2U z6g v0 h1 [] (finR [.t 2] false h.length P):=by rw[z0k x_q00t rfl hp rfl];exact e_q00t
theorem x_q00r:X.fn z3Z=some zgx:=by kernel_rfl
theorem c_q00r {u0 u1 v0 v1:AV} {h h1:Heap} {P:Post} (hp:z0t h [u0,u1]=some ([v0,v1],h1)):z0c X z3Z [u0,u1] h P=zdm (z0c X) X.gl v0 v1 h1 [] (finR [.t 4] false h.length P):=by rw[z0k x_q00r rfl hp rfl];exact e_q00r
theorem x_q06b:X.fn z2l=some zgK:=by kernel_rfl
theorem c_q06b {u0 u1 v0 v1:AV} {h h1:Heap} {P:Post} (hp:z0t h [u0,u1]=some ([v0,v1],h1)):z0c X z2l [u0,u1] h P=zmW (z0c X) X.gl v0 v1 h1 [] (finR [.t 4] false h.length P):=by rw[z0k x_q06b rfl hp rfl];exact e_q06b
theorem x_q059:X.fn zaU=some zlM:=by kernel_rfl
theorem c_q059 {u0 u1 u2 h P}:z0c X zaU [u0,u1,u2] h P=zhq (z0c X) X.gl z3h z6v u0 u1 u2 h [] (finR [] false h.length P):=by rw[z14 x_q059 rfl rfl];exact e_q059
theorem x_q03n:X.fn z7y=some zlC:=by kernel_rfl
theorem c_q03n {u0 v0:AV} {h h1:Heap} {P:Post} (hp:z0t h [u0]=some ([v0],h1)):z0c X z7y [u0] h P=zd8 (z0c X) X.gl v0 h1 [] (finR [.t 2] false h.length P):=by rw[z0k x_q03n rfl hp rfl];exact e_q03n
theorem x_q02w:X.fn z3L=some zl7:=by kernel_rfl
theorem c_q02w {u0 v0:AV} {h h1:Heap} {P:Post} (hp:z0t h [u0]=some ([v0],h1)):z0c X z3L [u0] h P=za6 (z0c X) X.gl v0 h1 [] (finR [.t 2] false h.length P):=by rw[z0k x_q02w rfl hp rfl];exact e_q02w
theorem x_q03h:X.fn z2k=some zl9:=by kernel_rfl
theorem c_q03h {u0 u1 u2 v0 v1 v2:AV} {h h1:Heap} {P:Post} (hp:z0t h [u0,u1,u2]=some ([v0,v1,v2],h1)):z0c X z2k [u0,u1,u2] h P=zmM (z0c X) X.gl v0 v1 v2 h1 [] (finR [.t 6] false h.length P):=by rw[z0k x_q03h rfl hp rfl];exact e_q03h
theorem x_q02y:X.fn zaL=some zl8:=by kernel_rfl
theorem c_q02y {u0 v0:AV} {h h1:Heap} {P:Post} (hp:z0t h [u0]=some ([v0],h1)):z0c X zaL [u0] h P=zmL (z0c X) X.gl v0 h1 [] (finR [.t 2] false h.length P):=by rw[z0k x_q02y rfl hp rfl];exact e_q02y
theorem x_q044:X.fn zaP=some zlF:=by kernel_rfl
theorem c_q044 {u0 u1 h P}:z0c X zaP [u0,u1] h P=zhl (z0c X) X.gl z3b z6s u0 u1 h [] (finR [.t 4] false h.length P):=by rw[z14 x_q044 rfl rfl];exact e_q044
theorem x_q006:X.fn z0T=some zgw:=by kernel_rfl
theorem c_q006 {u0 u1 u2 v0 v1 v2:AV} {h h1:Heap} {P:Post} (hp:z0t h [u0,u1,u2]=some ([v0,v1,v2],h1)):z0c X z0T [u0,u1,u2] h P=zm9 (z0c X) X.gl v0 v1 v2 h1 [] (finR [.t 6] false h.length P):=by rw[z0k x_q006 rfl hp rfl];exact e_q006
theorem x_q05u:X.fn z9l=some zg9:=by kernel_rfl
theorem c_q05u {u0 v0:AV} {h h1:Heap} {P:Post} (hp:z0t h [u0]=some ([v0],h1)):z0c X z9l [u0] h P=z5H (z0c X) X.gl v0 h1 [] (finR [.t 2] false h.length P):=by rw[z0k x_q05u rfl hp rfl];exact e_q05u
theorem x_q05s:X.fn z9j=some zg7:=by kernel_rfl
theorem c_q05s {u0 u1 v0 v1:AV} {h h1:Heap} {P:Post} (hp:z0t h [u0,u1]=some ([v0,v1],h1)):z0c X z9j [u0,u1] h P=zmS (z0c X) X.gl v0 v1 h1 [] (finR [.t 4] false h.length P):=by rw[z0k x_q05s rfl hp rfl];exact e_q05s
theorem x_q068:X.fn z9r=some zgI:=by kernel_rfl
theorem c_q068 {u0 v0:AV} {h h1:Heap} {P:Post} (hp:z0t h [u0]=some ([v0],h1)):z0c X z9r [u0] h P=zhy (z0c X) X.gl z3q z6B v0 h1 [] (finR [.t 2] false h.length P):=by rw[z0k x_q068 rfl hp rfl];exact e_q068
theorem x_q005:X.fn z5M=some zgv:=by kernel_rfl
theorem c_q005 {u0 v0:AV} {h h1:Heap} {P:Post} (hp:z0t h [u0]=some ([v0],h1)):z0c X z5M [u0] h P=zm8 (z0c X) X.gl v0 h1 [] (finR [.t 2] false h.length P):=by rw[z0k x_q005 rfl hp rfl];exact e_q005
theorem x_q060:X.fn z9o=some zgE:=by kernel_rfl
theorem c_q060 {u0 u1 u2 v0 v1 v2:AV} {h h1:Heap} {P:Post} (hp:z0t h [u0,u1,u2]=some ([v0,v1,v2],h1)):z0c X z9o [u0,u1,u2] h P=za9 (z0c X) X.gl v0 v1 v2 h1 [] (finR [.t 6] false h.length P):=by rw[z0k x_q060 rfl hp rfl];exact e_q060
theorem x_q05x:X.fn z9n=some zgC:=by kernel_rfl
theorem c_q05x {u0 u1 u2 v0 v1 v2:AV} {h h1:Heap} {P:Post} (hp:z0t h [u0,u1,u2]=some ([v0,v1,v2],h1)):z0c X z9n [u0,u1,u2] h P=z5I (z0c X) X.gl z61 z62 v0 v1 v2 h1 [] (finR [.t 6] false h.length P):=by rw[z0k x_q05x rfl hp rfl];exact e_q05x
theorem x_q05y:X.fn z5P=some zgD:=by kernel_rfl
theorem c_q05y {u0 u1 u2 v0 v1 v2:AV} {h h1:Heap} {P:Post} (hp:z0t h [u0,u1,u2]=some ([v0,v1,v2],h1)):z0c X z5P [u0,u1,u2] h P=zhu (z0c X) X.gl z3n z65 v0 v1 v2 h1 [] (finR [] false h.length P):=by rw[z0k x_q05y rfl hp rfl];exact e_q05y
theorem x_q01w:X.fn zaE=some zlq:=by kernel_rfl
theorem c_q01w {u0 v0:AV} {h h1:Heap} {P:Post} (hp:z0t h [u0]=some ([v0],h1)):z0c X zaE [u0] h P=zmE (z0c X) X.gl v0 h1 [] (finR [.t 2] false h.length P):=by rw[z0k x_q01w rfl hp rfl];exact e_q01w
theorem x_q051:X.fn z5f=some zlL:=by kernel_rfl
theorem c_q051 {u0 u1 u2 u3 u4 h P}:z0c X z5f [u0,u1,u2,u3,u4] h P=zhp (z0c X) X.gl z3g u0 u1 u2 u3 u4 h [] (finR [] false h.length P):=by rw[z14 x_q051 rfl rfl];exact e_q051
theorem x_q00u:X.fn z5N=some zgz:=by kernel_rfl
theorem c_q00u {u0 v0:AV} {h h1:Heap} {P:Post} (hp:z0t h [u0]=some ([v0],h1)):z0c X z5N [u0] h P=zmA (z0c X) X.gl v0 h1 [] (finR [.t 2] false h.length P):=by rw[z0k x_q00u rfl hp rfl];exact e_q00u
theorem x_q019:X.fn z9e=some zg0:=by kernel_rfl
theorem c_q019 {u0 u1 v0 v1:AV} {h h1:Heap} {P:Post} (hp:z0t h [u0,u1]=some ([v0,v1],h1)):z0c X z9e [u0,u1] h P=zmB (z0c X) X.gl v0 v1 h1 [] (finR [.t 4] false h.length P):=by rw[z0k x_q019 rfl hp rfl];exact e_q019
theorem x_q04l:X.fn z4b=some zlJ:=by kernel_rfl
theorem zwf {u0 u1 u2 u3 h P}:z0c X z4b [u0,u1,u2,u3] h P=zdF (z0c X) X.gl z3e u0 u1 u2 u3 h [] (finR [] false h.length P):=by rw[z14 x_q04l rfl rfl];exact e_q04l
theorem x_q03i:X.fn z7x=some zlA:=by kernel_rfl
theorem c_q03i {u0 u1 v0 v1:AV} {h h1:Heap} {P:Post} (hp:z0t h [u0,u1]=some ([v0,v1],h1)):z0c X z7x [u0,u1] h P=zhj (z0c X) X.gl z3a z6r v0 v1 h1 [] (finR [.t 4] false h.length P):=by rw[z0k x_q03i rfl hp rfl];exact e_q03i
theorem x_q05w:X.fn z9m=some zgB:=by kernel_rfl
theorem c_q05w {u0 u1 v0 v1:AV} {h h1:Heap} {P:Post} (hp:z0t h [u0,u1]=some ([v0,v1],h1)):z0c X z9m [u0,u1] h P=zmU (z0c X) X.gl v0 v1 h1 [] (finR [.t 4] false h.length P):=by rw[z0k x_q05w rfl hp rfl];exact e_q05w
theorem x_q01y:X.fn zaF=some zlr:=by kernel_rfl
theorem c_q01y {u0 v0:AV} {h h1:Heap} {P:Post} (hp:z0t h [u0]=some ([v0],h1)):z0c X zaF [u0] h P=zhc (z0c X) X.gl z6h v0 h1 [] (finR [.t 2] false h.length P):=by rw[z0k x_q01y rfl hp rfl];exact e_q01y
theorem x_q04m:X.fn zaT=some zlK:=by kernel_rfl
theorem c_q04m {u0 u1 u2 u3 h P}:z0c X zaT [u0,u1,u2,u3] h P=zho (z0c X) X.gl z3f u0 u1 u2 u3 h [] (finR [] false h.length P):=by rw[z14 x_q04m rfl rfl];exact e_q04m
theorem x_q06d:X.fn zbb=some zlU:=by kernel_rfl
theorem c_q06d {u0 u1 v0 v1:AV} {h h1:Heap} {P:Post} (hp:z0t h [u0,u1]=some ([v0,v1],h1)):z0c X zbb [u0,u1] h P=zmX (z0c X) X.gl v0 v1 h1 [] (finR [.t 4] false h.length P):=by rw[z0k x_q06d rfl hp rfl];exact e_q06d
theorem x_q01k:X.fn zaC=some zlo:=by kernel_rfl
theorem c_q01k {u0 u1 v0 v1:AV} {h h1:Heap} {P:Post} (hp:z0t h [u0,u1]=some ([v0,v1],h1)):z0c X zaC [u0,u1] h P=zmC (z0c X) X.gl v0 v1 h1 [] (finR [.t 4] false h.length P):=by rw[z0k x_q01k rfl hp rfl];exact e_q01k
attribute [go_sem] znv znw znx zny z8T z8U z8V zp0 zp1 zp2 zdq z89 zdr zds z8A z5D z5E zn6 zn7 zp5 zd0 zd1 zoh zoi zpO zdW zdX zod zoe zof zog zpM zpN zdS zdT zdU z8K znz zn0 zp3
attribute [go_sem] zdt zdu z8W zn2 z2M z8X zn3 zn4 zn5 zp4 zdw zdx z10 z2h zdy z8B zdz zn8 zn9 znA z8Y zp6 zp7 zd3 zd4 zd5 z5F zox zoy zoz zpS zej z8P zek zo3 zo4 zpU zeo zep zno
attribute [go_sem] znp zpy zdk zdl znG znH zpA zdB zdC zo0 zel zov zow zpR zeh zei znI znJ zpB zdD zdE znB z0R zn1 zdv znm znn zpx zdi zdj zoc z8Z zpL zdR z5G zoa zob zpK zdP zdQ
attribute [go_sem] zoj zok zol zpP zdY z8L zdZ zos zot zou zef zeg z8O znq znr zpz zdn zdo znU znV znW znX znY znZ zpH zpI zpJ zdL zdM zdN z8H z8I z8J znE znF zp9 zd9 zdA zo1 zo2
attribute [go_sem] zpT zem zen zom zon zoo zea zeb z8M zop zoq zor zpQ zec z8N zee znQ znR znS znT zpG zdK z8E z8F z8G znK znL znM zpC zpD zdG zdH z8C znC znD zp8 zd6 zd7 zns znt
attribute [go_sem] znu zdp z87 z88 znN znO znP zpE zpF zdI zdJ z8D zo5 zo6 zo7 zo8 zpV zpW zeq z8R z8S zer
end Go.Am
end
section
/- The stream of numbers out of which the laws draw. -/
open Go
namespace Go.Am
abbrev eI (n:Int):PV:=.int .i64 n
abbrev AL (l:List Int):AV:=.p (.sl none (l.map eI))
abbrev strm (L:List Int) (a:Int):Obj:=.box [AL L,AI a]
def zcZ (x n:Int):Int:=if n<1 then 0 else if x.tmod n<0 then IntKind.i64.wrap (x.tmod n+n) else x.tmod n
theorem zsp (x n:Int) (h:Heap) (K:Post):z0c X z5d [AI x,AI n] h K=K (AI (zcZ x n)) h []:=by
 refine rule ?_
 rw[c_q02d rfl]
 simp only[zhf,go_sem]
 unfold zcZ
 by_cases h1:n<1
 ·simp only[h1,if_true]
 ·simp only[h1,if_false,show ¬ n=0 by omega]
  split <;> rfl
theorem ztu (x n:Int) (h1:1≤n) (h2:n≤4611686018427387904):0≤zcZ x n∧zcZ x n<n:=by
 unfold zcZ
 rw[if_neg (by omega)]
 have:=Int.tmod_lt_of_pos x (show 0<n by omega)
 have h3 : -n<x.tmod n:=by
  have:=Int.lt_tmod_of_pos x (show 0<n by omega)
  exact this
 split
 ·rw[z0l _ (by omega) (by omega)];omega
 ·omega
def z1A (L:List Int) (a n:Int):Int:=
 if L.length=0 then zcZ (IntKind.i64.wrap ((a+1)*7919)) n
 else zcZ (IntKind.i64.wrap (zcZ (L.getD (a.tmod L.length).toNat 0) 1073741824+IntKind.i64.wrap (IntKind.i64.wrap (a.tdiv L.length)*IntKind.i64.wrap (7919+a.tmod L.length)))) n
theorem z6d (L:List Int) (a n:Int) (h1:1≤n) (h2:n≤4611686018427387904):0≤z1A L a n∧z1A L a n<n:=by
 unfold z1A
 split <;> exact ztu _ _ h1 h2
theorem z3I {h:Heap} {id:Nat} {o':Obj} (hid:id<h.length):(h.set id o')[id]?=some o':=by simp [hid]
theorem z71 {h:Heap} {id:Nat} {o:Obj} (hh:h[id]?=some o):id<h.length:=(List.getElem?_eq_some_iff.1 hh).1
def posN (n:Nat) (a:Int):Prop:=0≤a∧a+n<4611686018427387904
theorem z0O {n m:Nat} {a b:Int} (H:posN m a) (h:a≤b) (hn:b+n≤a+m):posN n b:=by unfold posN at *;omega
theorem z6E {a:Int} (H:posN 14 a):posN 0 (a)∧posN 0 (a+1)∧posN 0 (a+1+1)∧posN 0 (a+1+1+1)∧posN 0 (a+1+1+1+1)∧posN 0 (a+1+1+1+1+1)∧posN 0 (a+1+1+1+1+1+1)∧posN 0 (a+1+1+1+1+1+1+1)∧posN 0 (a+1+1+1+1+1+1+1+1)∧posN 0 (a+1+1+1+1+1+1+1+1+1)∧posN 0 (a+1+1+1+1+1+1+1+1+1+1)∧posN 0 (a+1+1+1+1+1+1+1+1+1+1+1)∧posN 0 (a+1+1+1+1+1+1+1+1+1+1+1+1)∧posN 0 (a+1+1+1+1+1+1+1+1+1+1+1+1+1)∧posN 0 (a+1+1+1+1+1+1+1+1+1+1+1+1+1+1):=by
 unfold posN at *;omega
def Gen (f:Nat) (args:List AV) (L:List Int) (a a2:Int) (v:AV):Prop:=∀ (h:Heap) (id:Nat) (K:Post),h[id]?=some (strm L a)→z0c X f (.ref id 0::args) h K=K v (h.set id (strm L a2)) []
section
variable {f:Nat} {args:List AV} {L:List Int} {a a2:Int} {v:AV} {h l:Heap} {id:Nat} {K:Post}
theorem Gen.set (g:Gen f args L a a2 v) (hid:id<h.length):z0c X f (.ref id 0::args) (h.set id (strm L a)) K=K v (h.set id (strm L a2)) []:=by
 rw[g _ _ _ (z3I hid),List.set_set]
theorem Gen.app (g:Gen f args L a a2 v) (hid:id<h.length):z0c X f (.ref id 0::args) (h.set id (strm L a)++l) K=K v (h.set id (strm L a2)++l) []:=by
 rw[g _ _ _ (by rw[zpj (by simpa using hid)];exact z3I hid),zs8 (by simpa using hid),List.set_set]
theorem Gen.hd (g:Gen f args L a a2 v):z0c X f (.ref 0 0::args) (strm L a::l) K=K v (strm L a2::l) []:=by
 rw[g _ _ _ rfl];rfl
theorem Gen.of (H:∀ (h:Heap) (id:Nat),id<h.length→z0c X f (.ref id 0::args) (h.set id (strm L a)) fun v1 h1 x1=>v1=v∧h1=h.set id (strm L a2)∧x1=[]):Gen f args L a a2 v:=by
 intro h id K hh
 have hid:=z71 hh
 have:h.set id (strm L a)=h:=by
  apply List.ext_getElem?
  intro i
  rw[List.getElem?_set]
  split
  ·rename_i e;subst e;rw[hh]
  ·rfl
 have k:=H h id hid
 rw[this] at k
 exact rule k
end
def GenE (f:Nat) (args:List AV) (L:List Int) (a:Int) (Q:AV→Int→Prop):Prop:=∀ (h:Heap) (id:Nat),h[id]?=some (strm L a)→∃ v a2,Q v a2∧∀ K:Post,z0c X f (.ref id 0::args) h K=K v (h.set id (strm L a2)) []
section
variable {f:Nat} {args:List AV} {L:List Int} {a:Int} {Q:AV→Int→Prop}
theorem GenE.set (g:GenE f args L a Q) {h:Heap} {id:Nat} (hid:id<h.length):∃ v a2,Q v a2∧∀ K:Post,z0c X f (.ref id 0::args) (h.set id (strm L a)) K=K v (h.set id (strm L a2)) []:=by
 obtain⟨v,a2,q,r⟩:=g _ _ (z3I hid)
 exact⟨v,a2,q,fun K=>by rw[r,List.set_set]⟩
theorem GenE.app (g:GenE f args L a Q) {h l:Heap} {id:Nat} (hid:id<h.length):∃ v a2,Q v a2∧∀ K:Post,z0c X f (.ref id 0::args) (h.set id (strm L a)++l) K=K v (h.set id (strm L a2)++l) []:=by
 obtain⟨v,a2,q,r⟩:=g (h.set id (strm L a)++l) id (by rw[zpj (by simpa using hid)];exact z3I hid)
 exact⟨v,a2,q,fun K=>by rw[r,zs8 (by simpa using hid),List.set_set]⟩
theorem GenE.hd (g:GenE f args L a Q) {l:Heap}:∃ v a2,Q v a2∧∀ K:Post,z0c X f (.ref 0 0::args) (strm L a::l) K=K v (strm L a2::l) []:=g (strm L a::l) 0 rfl
theorem GenE.of (H:∀ (h:Heap) (id:Nat),id<h.length→z0c X f (.ref id 0::args) (h.set id (strm L a)) fun v1 h1 x1=>∃ a2,Q v1 a2∧h1=h.set id (strm L a2)∧x1=[]):GenE f args L a Q:=by
 intro h id hh
 have hid:=z71 hh
 have:h.set id (strm L a)=h:=by
  apply List.ext_getElem?
  intro i
  rw[List.getElem?_set]
  split
  ·rename_i e;subst e;rw[hh]
  ·rfl
 have k:=H h id hid
 rw[this] at k
 obtain⟨v,h',x,⟨a2,q,e1,e2⟩,r⟩:=z0c.one zgs k
 subst e1;subst e2
 exact⟨v,a2,q,r⟩
end
def z4W (l:List Int) (L:List Int) (a:Int):Int:=l.getD (z1A L a l.length).toNat 0
theorem z9Q {l L:List Int} {a:Int} (hl:0<l.length) (hl2:l.length<4611686018427387904):z4W l L a∈l:=by
 obtain⟨b1,b2⟩:=z6d L a l.length (by omega) (by omega)
 unfold z4W
 have:(z1A L a l.length).toNat<l.length:=by omega
 simp only[List.getD,List.getElem?_eq_getElem this,Option.getD_some]
 exact List.getElem_mem _
def isI:PV→Bool
 | .int .i64 _=>true
 | _=>false
def unI:PV→Int
 | .int _ n=>n
 | _=>0
theorem zzK {xs:List PV} (h:xs.all isI=true):xs=(xs.map unI).map eI:=by
 induction xs with
 | nil=>rfl
 | cons x r ih=>
  simp only[List.all_cons,Bool.and_eq_true] at h
  simp only[List.map_cons]
  rw[← ih h.2]
  cases x with
  | int k n=>cases k <;> first | rfl | cases h.1
  | _=>cases h.1
set_option maxHeartbeats 400000 in
theorem zpe (L:List Int) (a n:Int) (hp:posN 0 a):Gen z1T [AI n] L a (a+1) (AI (z1A L a n)):=by
 refine Gen.of fun h id hid=>?_
 rw[c_q02i rfl]
 obtain⟨h0,h1⟩:=hp
 have w1:IntKind.i64.wrap (a+1)=a+1:=z0l _ (by omega) (by omega)
 have w2:IntKind.i64.wrap (a+1-1)=a:=by rw[z0l _ (by omega) (by omega)];omega
 have hs:∀ o',(h.set id o')[id]?=some o':=fun o'=>z3I hid
 rcases Nat.eq_zero_or_pos L.length with hl | hl
 ·simp only[zhh,go_sem,hs,zsp,hl,w1]
  simp only[z1A,hl,if_true]
 ·have e1:((L.length:Int)=0)=False:=by simp only[eq_iff_iff,iff_false];omega
  have e2:0≤a.tmod L.length:=Int.tmod_nonneg _ h0
  have e3:a.tmod L.length<L.length:=Int.tmod_lt_of_pos _ (by omega)
  have e4:=z6c (k:=.i64) e2
  have e5:(L.map eI)[(a.tmod L.length).toNat]?=some (eI (L.getD (a.tmod L.length).toNat 0)):=by
   rw[z0K eI (show (a.tmod L.length).toNat<L.length by omega)]
   simp [List.getD,show (a.tmod L.length).toNat<L.length by omega]
  simp only[zhh,go_sem,hs,zsp,e1,w1,w2,e4,e5]
  simp only[z1A,show ¬ L.length=0 by omega,if_false]
section
variable {L:List Int} {a:Int} {h l:Heap} {id:Nat} {K:Post}
theorem z2e (hid:id<h.length) (hp:posN 0 a) (n:Int):z0c X z1T [.ref id 0,AI n] (h.set id (strm L a)) K=K (AI (z1A L a n)) (h.set id (strm L (a+1))) []:=(zpe L a n hp).set hid
theorem zbu (hid:id<h.length) (hp:posN 0 a) (n:Int):z0c X z1T [.ref id 0,AI n] (h.set id (strm L a)++l) K=K (AI (z1A L a n)) (h.set id (strm L (a+1))++l) []:=(zpe L a n hp).app hid
theorem zeZ (hp:posN 0 a) (n:Int):z0c X z1T [.ref 0 0,AI n] (strm L a::l) K=K (AI (z1A L a n)) (strm L (a+1)::l) []:=(zpe L a n hp).hd
theorem zpd (hp:posN 0 a) (n:Int):Gen z4a [AI n] L a (a+1) (AB (decide (z1A L a n=0))):=by
 refine Gen.of fun h id hid=>?_
 rw[c_q02h rfl]
 simp only[zmF,go_sem,z2e hid hp]
theorem zbt (hid:id<h.length) (hp:posN 0 a) (n:Int):z0c X z4a [.ref id 0,AI n] (h.set id (strm L a)) K=K (AB (decide (z1A L a n=0))) (h.set id (strm L (a+1))) []:=(zpd hp n).set hid
theorem zbs (hid:id<h.length) (hp:posN 0 a) (n:Int):z0c X z4a [.ref id 0,AI n] (h.set id (strm L a)++l) K=K (AB (decide (z1A L a n=0))) (h.set id (strm L (a+1))++l) []:=(zpd hp n).app hid
theorem zeY (hp:posN 0 a) (n:Int):z0c X z4a [.ref 0 0,AI n] (strm L a::l) K=K (AB (decide (z1A L a n=0))) (strm L (a+1)::l) []:=(zpd hp n).hd
theorem zpf (hp:posN 0 a) (xs:List PV) (hx:xs.all isI=true) (hl:0<xs.length) (hl2:xs.length<4611686018427387904) :
 Gen z2O [.p (.sl none xs)] L a (a+1) (AI (z4W (xs.map unI) L a)):=by
 refine Gen.of fun h id hid=>?_
 rw[c_q02k rfl]
 obtain⟨b1,b2⟩:=z6d L a xs.length (by omega) (by omega)
 have e4:=z6c (k:=.i64) b1
 have e5:xs[(z1A L a xs.length).toNat]?=some (eI (z4W (xs.map unI) L a)):=by
  have hm:=zzK hx
  generalize hq:xs.map unI=q at *
  subst hm
  simp only[List.length_map] at *
  rw[z0K eI (show (z1A L a q.length).toNat<q.length by omega)]
  simp [z4W,List.getD,show (z1A L a q.length).toNat<q.length by omega]
 simp only[zmG,go_sem,z2e hid hp,e4,e5]
theorem zbw (hid:id<h.length) (hp:posN 0 a) {xs:List PV} (hx:xs.all isI=true) (hl:0<xs.length) (hl2:xs.length<4611686018427387904) :
 z0c X z2O [.ref id 0,.p (.sl none xs)] (h.set id (strm L a)) K=K (AI (z4W (xs.map unI) L a)) (h.set id (strm L (a+1))) []:=(zpf hp xs hx hl hl2).set hid
theorem zbv (hid:id<h.length) (hp:posN 0 a) {xs:List PV} (hx:xs.all isI=true) (hl:0<xs.length) (hl2:xs.length<4611686018427387904) :
 z0c X z2O [.ref id 0,.p (.sl none xs)] (h.set id (strm L a)++l) K=K (AI (z4W (xs.map unI) L a)) (h.set id (strm L (a+1))++l) []:=(zpf hp xs hx hl hl2).app hid
theorem zfa (hp:posN 0 a) {xs:List PV} (hx:xs.all isI=true) (hl:0<xs.length) (hl2:xs.length<4611686018427387904) :
 z0c X z2O [.ref 0 0,.p (.sl none xs)] (strm L a::l) K=K (AI (z4W (xs.map unI) L a)) (strm L (a+1)::l) []:=(zpf hp xs hx hl hl2).hd
def z1f (u v:Int) (L:List Int) (a:Int):Int:=u+z1A L a (v-u+1)
theorem z2o {u v:Int} (L:List Int) (a:Int) (h1:u≤v) (h2:v≤u+4611686018427387900):u≤z1f u v L a∧z1f u v L a≤v:=by
 have:=z6d L a (v-u+1) (by omega) (by omega)
 unfold z1f;omega
theorem zfL (hp:posN 0 a) (u v:Int) (huv:u≤v) (hu : -1152921504606846976≤u) (hv:v≤1152921504606846976) :
 Gen z1D [AI u,AI v] L a (a+1) (AI (z1f u v L a)):=by
 refine Gen.of fun h id hid=>?_
 rw[c_q02l rfl]
 obtain⟨b1,b2⟩:=z2o L a huv (by omega)
 have w1:IntKind.i64.wrap (v-u)=v-u:=z0l _ (by omega) (by omega)
 have w2:IntKind.i64.wrap (v-u+1)=v-u+1:=z0l _ (by omega) (by omega)
 have w3:IntKind.i64.wrap (u+z1A L a (v-u+1))=z1f u v L a:=z0l (z1f u v L a) (by omega) (by omega)
 simp only[zmH,go_sem,show ¬ v<u by omega,w1,w2,z2e hid hp,w3]
theorem z9Y (hid:id<h.length) (hp:posN 0 a) {u v:Int} (huv:u≤v) (hu : -1152921504606846976≤u) (hv:v≤1152921504606846976) :
 z0c X z1D [.ref id 0,AI u,AI v] (h.set id (strm L a)) K=K (AI (z1f u v L a)) (h.set id (strm L (a+1))) []:=(zfL hp u v huv hu hv).set hid
theorem z9X (hid:id<h.length) (hp:posN 0 a) {u v:Int} (huv:u≤v) (hu : -1152921504606846976≤u) (hv:v≤1152921504606846976) :
 z0c X z1D [.ref id 0,AI u,AI v] (h.set id (strm L a)++l) K=K (AI (z1f u v L a)) (h.set id (strm L (a+1))++l) []:=(zfL hp u v huv hu hv).app hid
theorem zbx (hp:posN 0 a) {u v:Int} (huv:u≤v) (hu : -1152921504606846976≤u) (hv:v≤1152921504606846976) :
 z0c X z1D [.ref 0 0,AI u,AI v] (strm L a::l) K=K (AI (z1f u v L a)) (strm L (a+1)::l) []:=(zfL hp u v huv hu hv).hd
end
attribute [go_sem ↓] z2e zbu zeZ zbt zbs zeY zbw zbv zfa z9Y z9X zbx
attribute [go_sem] z2e zbu zeZ zbt zbs zeY zbw zbv zfa z9Y z9X zbx isI unI
end Go.Am
end
section
/- Maps,asv lists of keys with values. -/
open Go
set_option linter.all false
namespace Go.Am
section
variable {α β:Type} [DecidableEq α]
def mesF (key:α→PV) (val:β→AV):Nat→List (α × β)→List ME
 | _,[]=>[]
 | n,e::r=>⟨key e.1,val e.2,n⟩::mesF key val (n+1) r
def mobj (key:α→PV) (val:β→AV) (l:List (α × β)):Obj:=.amap (mesF key val 0 l) l.length
def z1s (k:α):List (α × β)→Option Nat
 | []=>none
 | e::r=>if k=e.1 then some 0 else (z1s k r).map (· + 1)
def getM (k:α):List (α × β)→Option β
 | []=>none
 | e::r=>if k=e.1 then some e.2 else getM k r
def updM (k:α) (v:β):List (α × β)→List (α × β)
 | []=>[(k,v)]
 | e::r=>if k=e.1 then (k,v)::r else e::updM k v r
def KeyI (key:α→PV):Prop:=∀ a b,PV.eqv (key a) (key b)=some (decide (a=b))
theorem z5V:KeyI PV.str:=fun a b=>rfl
theorem z5U:KeyI (fun n:Int=>PV.int .i64 n):=fun a b=>by simp [PV.eqv,PV.eq1]
theorem z1E {s:List UInt8}:z2c (none,[2]) (.p (.str s))=some (.str s):=by simp [z2c,PV.key,PV.shp,PV.sc,PV.cells,PV.kind]
theorem z4g {n:Int} {k:IntKind}:z2c (none,[0]) (.p (.int k n))=some (.int k n):=by simp [z2c,PV.key,PV.shp,PV.sc,PV.cells,PV.kind]
variable {key:α→PV} {val:β→AV}
theorem z93 (hk:KeyI key) (k:α):∀ (l:List (α × β)) (n:Nat),z1X (key k) (mesF key val n l)=some (z1s k l)
 | [],n=>rfl
 | e::r,n=>by
  simp only[mesF,z1X,hk k e.1,z1s]
  by_cases h:k=e.1
  ·simp [h]
  ·simp [h,z93 hk k r (n+1)]
theorem zqh:∀ (l:List (α × β)) (n:Nat),(mesF key val n l).length=l.length
 | [],n=>rfl
 | e::r,n=>by simp [mesF,zqh r (n+1)]
theorem z4i:∀ (l:List (α × β)) (n i:Nat),(mesF key val n l)[i]?=(l[i]?).map fun e=>⟨key e.1,val e.2,n+i⟩
 | [],n,i=>rfl
 | e::r,n,0=>rfl
 | e::r,n,i+1=>by simp only[mesF,List.getElem?_cons_succ,z4i r (n+1) i];rw[show n+1+i=n+(i+1) by omega]
theorem ziA {k:α}:∀ {l:List (α × β)} {i:Nat},z1s k l=some i→i<l.length
 | [],i,h=>by cases h
 | e::r,i,h=>by
  unfold z1s at h
  split at h
  ·cases h;simp
  ·obtain⟨j,hj,e2⟩:=Option.map_eq_some_iff.1 h
   have:=ziA hj
   simp;omega
theorem zag {k:α}:∀ {l:List (α × β)} {i:Nat},z1s k l=some i→l[i]?=(getM k l).map fun v=>(k,v)
 | [],i,h=>by cases h
 | e::r,i,h=>by
  unfold z1s at h
  unfold getM
  split at h
  ·rename_i hk;cases h;simp [hk]
  ·rename_i hk
   obtain⟨j,hj,e2⟩:=Option.map_eq_some_iff.1 h
   subst e2
   rw[if_neg hk,List.getElem?_cons_succ]
   exact zag hj
theorem z7h {k:α}:∀ {l:List (α × β)},z1s k l=none→getM k l=none
 | [],h=>rfl
 | e::r,h=>by
  unfold z1s at h
  unfold getM
  split at h
  ·cases h
  ·rename_i hk
   rw[if_neg hk]
   exact z7h (by simpa using h)
theorem z7i {k:α}:∀ {l:List (α × β)} {i:Nat},z1s k l=some i→(getM k l).isSome=true
 | [],i,h=>by cases h
 | e::r,i,h=>by
  unfold z1s at h
  unfold getM
  split at h
  ·rename_i hk;simp [hk]
  ·rename_i hk
   obtain⟨j,hj,e2⟩:=Option.map_eq_some_iff.1 h
   rw[if_neg hk]
   exact z7i hj
theorem z79 {k:α} {l:List (α × β)}:(z1s k l).isSome=(getM k l).isSome:=by
 generalize h:z1s k l=o
 cases o with
 | none=>rw[z7h h];rfl
 | some i=>rw[z7i h];rfl
theorem zu2 {k:α} {l:List (α × β)} {n:Nat}:((z1s k l).bind fun i=>(mesF key val n l)[i]?).map ME.val=(getM k l).map val:=by
 cases h:z1s k l with
 | none=>rw[z7h h];rfl
 | some i=>
  simp only[Option.bind_some,z4i,zag h]
  cases getM k l <;> rfl
theorem z7S {k:α} {v:β}:∀ {l:List (α × β)},z1s k l=none→updM k v l=l++[(k,v)]
 | [],h=>rfl
 | e::r,h=>by
  unfold z1s at h
  unfold updM
  split at h
  ·cases h
  ·rename_i hk
   rw[if_neg hk,z7S (by simpa using h)];rfl
theorem zi4 {k:α} {v:β}:∀ {l:List (α × β)} {i:Nat},z1s k l=some i→updM k v l=l.set i (k,v)
 | [],i,h=>by cases h
 | e::r,i,h=>by
  unfold z1s at h
  unfold updM
  split at h
  ·rename_i hk;cases h;simp [hk]
  ·rename_i hk
   obtain⟨j,hj,e2⟩:=Option.map_eq_some_iff.1 h
   subst e2
   rw[if_neg hk,zi4 hj];rfl
theorem zic (k:α) (v:β):∀ (l:List (α × β)) (n:Nat),mesF key val n (l++[(k,v)])=mesF key val n l++[⟨key k,val v,n+l.length⟩]
 | [],n=>rfl
 | e::r,n=>by simp only[List.cons_append,mesF,zic k v r (n+1),List.length_cons];rw[show n+1+r.length=n+(r.length+1) by omega]
theorem zj2 {k:α} {v:β} {l:List (α × β)} {i n:Nat} (h:z1s k l=some i):(mesF key val n l).modify i (fun e=>{ e with val:=val v })=mesF key val n (l.set i (k,v)):=by
 apply List.ext_getElem?
 intro j
 rw[List.getElem?_modify,z4i,z4i,List.getElem?_set]
 have hi:=ziA h
 have hg:=zag h
 by_cases hij:i=j
 ·subst hij
  rw[hg]
  simp only[if_true,hi]
  obtain⟨w,hw⟩:=Option.isSome_iff_exists.1 (z7i h)
  rw[hw];rfl
 ·simp [hij]
variable {h:Heap} {id:Nat} {l:List (α × β)} {kk:Sh × List Nat} {k:α}
theorem z6a (hh:h[id]?=some (mobj key val l)):mget h (.mp id)=some (id,mesF key val 0 l,l.length):=by
 simp only[mget,hh,mobj]
theorem z22 (hk:KeyI key) (hh:h[id]?=some (mobj key val l)) (hq:z2c kk (.p (key k))=some (key k)) {ok:Bool} {z:AV} :
 z0L kk ok z (.mp id) (.p (key k)) h=some (bif ok then .tup [((getM k l).map val).getD z,AV.p (.bool (getM k l).isSome)] else ((getM k l).map val).getD z):=by
 simp only[z0L,hq,z6a hh,Option.map_some,z93 hk,zu2,Option.isSome_map]
 rfl
theorem z4P (hk:KeyI key) (hh:h[id]?=some (mobj key val l)) (hq:z2c kk (.p (key k))=some (key k)) {v:β} (hv:okIn (val v)=true) :
 z1v kk (.mp id) (.p (key k)) (val v) h=some (.und,h.set id (mobj key val (updM k v l)),z2a id (val v)):=by
 simp only[z1v,hq,z6a hh,hv,z93 hk]
 cases hw:z1s k l with
 | none=>
  simp only[mobj,z7S hw,zic,List.length_append,List.length_cons,List.length_nil,Nat.zero_add]
 | some i=>
  simp only[mobj,zi4 hw,zj2 hw,List.length_set]
theorem zmk {l:List (α × β)} {i:Nat} (hi:i<l.length):(mesF key val 0 l).findIdx? (fun e=>e.born==i)=some i:=by
 rw[List.findIdx?_eq_some_iff_getElem]
 have hl:=zqh (key:=key) (val:=val) l 0
 have hb:∀ j (hj:j<(mesF key val 0 l).length),(mesF key val 0 l)[j].born=j:=fun j hj=>by
  have h1:=List.getElem?_eq_getElem hj
  rw[z4i,List.getElem?_eq_getElem (by omega)] at h1
  simp only[Option.map_some,Option.some.injEq] at h1
  rw[← h1];simp
 refine⟨by omega,by simp [hb],fun j hj=>?_⟩
 simp [hb];omega
theorem z9w (k k':α) (v:β):∀ (l:List (α × β)),getM k' (updM k v l)=if k'=k then some v else getM k' l
 | []=>by simp [updM,getM]
 | e::r=>by
  unfold updM
  by_cases h1:k=e.1
  ·rw[if_pos h1];simp only[getM]
   by_cases h2:k'=k
   ·simp [h2]
   ·rw[if_neg h2,if_neg h2,if_neg (by rw[← h1];exact h2)]
  ·rw[if_neg h1];simp only[getM,z9w k k' v r]
   by_cases h2:k'=e.1
   ·rw[if_pos h2,if_pos h2,if_neg (by rw[h2];exact fun h=>h1 h.symm)]
   ·rw[if_neg h2,if_neg h2]
theorem zxo {j m:Nat} {seen:List Nat} {K:AV→Heap→Esc→Prop} (hj:h[j]?=some (.iter (some m) l.length seen l.length)) (hm:h[m]?=some (mobj key val l))
 (hend:(∀ i,i<l.length→i∈seen)→K (.tup [AV.p (.bool false)]) (h.set j (.iter none 1 [] 0)) [])
 (hstep:∀ (i:Nat) (hi:i<l.length),i∉seen→K (.tup [AV.p (.bool true),.p (key l[i].1),val l[i].2]) (h.set j (.iter (some m) l.length (seen++[i]) l.length)) []):nxK (.it j) h K:=by
 unfold nxK zeI
 simp only[hj,z6a hm,and_self,if_true]
 have hmem:∀ e∈(mesF key val 0 l).filter (fun e=>!seen.contains e.born),∃ (i:Nat) (hi:i<l.length),e=⟨key l[i].1,val l[i].2,i⟩∧i∉seen:=by
  intro e he
  obtain⟨h1,h2⟩:=List.mem_filter.1 he
  obtain⟨i,hi,e2⟩:=List.mem_iff_getElem?.1 h1 |>.elim fun i hi=>by
   rw[z4i] at hi
   obtain⟨x,hx,e3⟩:=Option.map_eq_some_iff.1 hi
   obtain⟨hl,e4⟩:=List.getElem?_eq_some_iff.1 hx
   exact (⟨i,hl,by rw[← e3,← e4];simp⟩:∃ (i:Nat) (hi:i<l.length),e=⟨key l[i].1,val l[i].2,i⟩)
  refine⟨i,hi,e2,?_⟩
  rw[e2] at h2
  simpa using h2
 have hnil:(mesF key val 0 l).filter (fun e=>!seen.contains e.born)=[]→∀ i,i<l.length→i∈seen:=by
  intro hf i hi
  have h1:=List.filter_eq_nil_iff.1 hf ⟨key l[i].1,val l[i].2,i⟩ (by
   apply List.mem_iff_getElem?.2
   exact⟨i,by rw[z4i,List.getElem?_eq_getElem hi];simp⟩)
  simpa using h1
 generalize (mesF key val 0 l).filter (fun e=>!seen.contains e.born)=F at *
 cases F with
 | nil=>
  refine⟨by simp,fun y hy=>?_⟩
  rw[List.mem_singleton] at hy
  subst hy
  exact hend (hnil rfl)
 | cons e F=>
  refine⟨by simp,fun y hy=>?_⟩
  obtain⟨e',he',rfl⟩:=List.mem_map.1 hy
  obtain⟨i,hi,e2,h2⟩:=hmem e' he'
  subst e2
  exact hstep i hi h2
theorem zbk (hh:h[id]?=some (mobj key val l)):z3D (.mp id) h=some (.it h.length,h++[.iter (some id) l.length [] l.length],[]):=by
 simp only[z3D,z6a hh]
theorem zbj {j m:Nat} {seen:List Nat} {i:Nat} (hj:h[j]?=some (.iter (some m) l.length (seen++[i]) l.length)) (hm:h[m]?=some (mobj key val l)) (hi:i<l.length) :
 z3C (.it j) h=some (.tup [.p (key l[i].1),val l[i].2],h,[]):=by
 simp only[z3C,hj,z6a hm,List.getLast?_append,List.getLast?_singleton,Option.some_or,if_true]
 have hb:=zmk (key:=key) (val:=val) hi
 have hg:=z4i (key:=key) (val:=val) l 0 i
 rw[List.getElem?_eq_getElem hi] at hg
 have hf:(mesF key val 0 l).find? (fun e=>e.born==i)=some ⟨key l[i].1,val l[i].2,i⟩:=by
  rw[List.find?_eq_some_iff_getElem]
  rw[List.findIdx?_eq_some_iff_getElem] at hb
  obtain⟨h1,h2,h3⟩:=hb
  refine⟨by simp,i,h1,?_,fun j hj=>by simpa using h3 j hj⟩
  have:=List.getElem?_eq_getElem h1
  rw[hg] at this
  simpa using (Option.some.inj this).symm
 rw[hf]
 rfl
theorem zfj {n:Nat} {seen:List Nat} (hd:seen.Nodup) (hb:∀ i∈seen,i<n) (ha:∀ i,i<n→i∈seen):seen.Perm (List.range n):=by
 rw[List.perm_ext_iff_of_nodup hd List.nodup_range]
 intro i
 rw[List.mem_range]
 exact⟨hb i,ha i⟩
end
end Go.Am
end
section
/- Plain laws of fractions in lowest terms. -/
namespace Go.Am
end Go.Am
end
section
/- Small functions of numbers and of lists of numbers. -/
open Go
namespace Go.Am
variable {h:Heap} {K:Post}
theorem s_Out (n a b:Int):z0c X z0T [AI n,AI a,AI b] h K=K (AB (decide (n<a)||decide (b<n))) h []:=by
 refine rule ?_
 rw[c_q006 rfl]
 by_cases h1:n<a <;> simp only[zm9,go_sem,h1]
theorem s_in (n a b:Int):z0c X z2k [AI n,AI a,AI b] h K=K (AB (decide (a≤n)&&decide (n≤b))) h []:=by
 refine rule ?_
 rw[c_q03h rfl]
 by_cases h1:a≤n <;> simp only[zmM,go_sem,h1]
theorem out_eq (n a b:Int):(decide (n<a)||decide (b<n)) = !(decide (a≤n)&&decide (n≤b)):=by
 rw[Bool.eq_iff_iff];simp
theorem zit (n:Int):z0c X z7y [AI n] h K=K (AI n.sign) h []:=by
 refine rule ?_
 rw[c_q03n rfl]
 rcases Int.lt_trichotomy n 0 with h1 | h1 | h1
 ·simp only[zd8,go_sem,h1,Int.sign_eq_neg_one_of_neg h1]
 ·subst h1;simp only[zd8,go_sem,Int.sign_zero]
 ·simp only[zd8,go_sem,show ¬ n<0 by omega,h1,Int.sign_eq_one_of_pos h1]
theorem zvr (n:Int) (h1:0≤n) (h2:n<18446744073709551616):IntKind.u64.wrap n=n:=by
 simp [IntKind.wrap,IntKind.bits,IntKind.signed];omega
abbrev AU (n:Int):AV:=.p (.int .u64 n)
def cmp3 (x y:Int):Int:=if x<y then -1 else if x=y then 0 else 1
theorem z59 (x y:Int):cmp3 x y=(x-y).sign:=by
 unfold cmp3
 rcases Int.lt_trichotomy x y with h | h | h
 ·rw[if_pos h,Int.sign_eq_neg_one_of_neg (by omega)]
 ·rw[if_neg (by omega),if_pos h,h];simp
 ·rw[if_neg (by omega),if_neg (by omega),Int.sign_eq_one_of_pos (by omega)]
end Go.Am
end
section
/- Functions of lists. -/
open Go
namespace Go.Am
variable {h:Heap} {K:Post}
theorem zfZ (a:Int):z0c X z5N [AI a] h K=K (AB false) h []:=by
 refine rule ?_
 rw[c_q00u rfl]
 simp only[zmA,go_sem]
theorem z77 (a b:Int):z0c X z3Z [AI a,AI b] h K=K (AI (cmp3 a b)) h []:=by
 refine rule ?_
 rw[c_q00r rfl]
 unfold cmp3
 by_cases h1:a<b
 ·simp only[zdm,go_sem,zfZ,h1]
 ·by_cases h2:b<a
  ·simp only[zdm,go_sem,zfZ,h1,h2,show ¬ a=b by omega]
  ·simp only[zdm,go_sem,zfZ,h1,h2,show a=b by omega,Int.lt_irrefl]
def Tells (g:Nat) (caps:List AV) (p:PV→Bool) (xs:List PV) (h:Heap):Prop:=∀ x∈xs,∀ K:Post,z0c X g (.p x::caps) h K=K (AB (p x)) h []
def idxP (p:PV→Bool) (xs:List PV):Int:=if xs.findIdx p<xs.length then (xs.findIdx p:Int) else -1
theorem zut (p:PV→Bool) (xs:List PV):decide (0≤idxP p xs)=xs.any p:=by
 unfold idxP
 rw[Bool.eq_iff_iff]
 by_cases h:xs.findIdx p<xs.length
 ·rw[if_pos h];simp only[decide_eq_true_eq,List.any_eq_true]
  exact⟨fun _=>⟨_,List.getElem_mem h,List.findIdx_getElem⟩,fun _=>by omega⟩
 ·rw[if_neg h];simp only[decide_eq_true_eq,List.any_eq_true]
  refine⟨fun h=>by omega,fun ⟨x,hx,hp⟩=>absurd (List.findIdx_lt_length_of_exists ⟨x,hx,hp⟩) h⟩
def z4L:List Int→Int
 | []=>0
 | e::r=>if e=0 then z4L r else e
end Go.Am
end
section
/- Plain lists: insertion sort asv Go's package slices does it on short lists;deleting;compacting. -/
namespace Go.Am
variable {α:Type}
def insR (lt:α→α→Bool) (x:α):List α→List α
 | []=>[x]
 | y::r=>bif lt x y then y::insR lt x r else x::y::r
def z2n (lt:α→α→Bool) (l:List α):List α:=l.foldl (fun r x=>insR lt x r) []
def z1K (lt:α→α→Bool) (l:List α):List α:=(z2n lt l).reverse
theorem z9y (lt:α→α→Bool) (x:α):∀ r:List α,(insR lt x r).Perm (x::r)
 | []=>.refl _
 | y::r=>by
  unfold insR
  cases lt x y with
  | true=>exact ((z9y lt x r).cons y).trans (.swap _ _ _)
  | false=>exact .refl _
theorem z4f (lt:α→α→Bool):∀ (l r:List α),(l.foldl (fun r x=>insR lt x r) r).Perm (l++r)
 | [],r=>.refl _
 | x::l,r=>by
  simp only[List.foldl_cons,List.cons_append]
  refine (z4f lt l _).trans ?_
  exact ((z9y lt x r).append_left l).trans (List.perm_middle)
theorem z3A (lt:α→α→Bool) (l:List α):(z2n lt l).Perm l:=by
 have:=z4f lt l []
 rwa [List.append_nil] at this
theorem z7c (lt:α→α→Bool) (l:List α):(z1K lt l).Perm l:=(List.reverse_perm _).trans (z3A lt l)
theorem z90 (lt:α→α→Bool) (l:List α):(z1K lt l).length=l.length:=(z7c lt l).length_eq
theorem z91 {lt:α→α→Bool} {l:List α} {x:α}:x∈z1K lt l↔x∈l:=(z7c lt l).mem_iff
theorem zbf (lt:α→α→Bool) (l:List α):(z2n lt l).length=l.length:=(z3A lt l).length_eq
structure Weak (lt:α→α→Bool):Prop where
 asym:∀ a b,lt a b=true→lt b a=false
 ntrans:∀ a b c,lt b a=false→lt c b=false→lt c a=false
theorem z9z {lt:α→α→Bool} (w:Weak lt) (x:α):∀ r:List α,r.Pairwise (fun a b=>lt a b=false)→(insR lt x r).Pairwise (fun a b=>lt a b=false)
 | [],_=>by simp [insR]
 | y::r,h=>by
  unfold insR
  rw[List.pairwise_cons] at h
  cases hxy:lt x y with
  | true=>
   rw[cond_true,List.pairwise_cons]
   refine⟨fun z hz=>?_,z9z w x r h.2⟩
   rcases List.mem_cons.1 ((z9y lt x r).mem_iff.1 hz) with rfl | hz
   ·exact w.asym _ _ hxy
   ·exact h.1 z hz
  | false=>
   rw[cond_false,List.pairwise_cons,List.pairwise_cons]
   refine⟨fun z hz=>?_,h⟩
   rcases List.mem_cons.1 hz with rfl | hz
   ·exact hxy
   ·exact w.ntrans _ _ _ (h.1 z hz) hxy
theorem z2R {lt:α→α→Bool} (w:Weak lt):∀ (l r:List α),r.Pairwise (fun a b=>lt a b=false)→(l.foldl (fun r x=>insR lt x r) r).Pairwise (fun a b=>lt a b=false)
 | [],r,h=>h
 | x::l,r,h=>z2R w l _ (z9z w x r h)
theorem zeC {lt:α→α→Bool} (w:Weak lt) (l:List α):(z1K lt l).Pairwise (fun a b=>lt b a=false):=by
 unfold z1K
 rw[List.pairwise_reverse]
 exact z2R w l [] .nil
theorem z3O (lt:α→α→Bool) (l:List α) (k:Nat) (hk:k<l.length):z2n lt (l.take (k+1))=insR lt l[k] (z2n lt (l.take k)):=by
 rw[List.take_succ_eq_append_getElem hk];unfold z2n;rw[List.foldl_append];rfl
theorem zia {β:Type} (f:α→β) {lt:α→α→Bool} {lt':β→β→Bool} (h:∀ a b,lt' (f a) (f b)=lt a b) (x:α):∀ r:List α,insR lt' (f x) (r.map f)=(insR lt x r).map f
 | []=>rfl
 | y::r=>by
  simp only[List.map_cons,insR,h]
  cases lt x y with
  | true=>simp only[cond_true,List.map_cons,zia f h x r]
  | false=>rfl
theorem zbe (lt:α→α→Bool) (x:α) (A:List α):∀ B:List α,(∀ b∈B,lt x b=true)→insR lt x (B++A)=B++insR lt x A
 | [],_=>rfl
 | b::B,h=>by
  simp only[List.cons_append,insR,h b (by simp),cond_true]
  rw[zbe lt x A B (fun b hb=>h b (by simp [hb]))]
theorem zpo (A C:List α) (x:α):(A.reverse++x::C)[A.length]?=some x:=by
 rw[List.getElem?_append_right (by simp)];simp
theorem zhW (A C:List α) (x y:α):((y::A).reverse++x::C)[A.length]?=some y:=by
 rw[List.getElem?_append_left (by simp)];simp
theorem zhX (A C:List α) (x y:α):(((y::A).reverse++x::C).set (A.length+1) y).set A.length x=A.reverse++x::y::C:=by
 have e:(y::A).reverse++x::C=A.reverse++y::x::C:=by simp
 rw[e,List.set_append_right _ _ (by simp),List.length_reverse,Nat.add_sub_cancel_left,List.set_append_right _ _ (by simp),List.length_reverse,Nat.sub_self]
 rfl
theorem z7K (lt:α→α→Bool) (x:α) (A B:List α) (hB:∀ b∈B,lt x b=true) (hA:∀ y r,A=y::r→lt x y=false):insR lt x (B++A)=B++x::A:=by
 rw[zbe lt x A B hB]
 cases A with
 | nil=>rfl
 | cons y r=>simp only[insR,hA y r rfl,cond_false]
theorem zpr {β:Type} (f:α→β) {lt:α→α→Bool} {lt':β→β→Bool} (h:∀ a b,lt' (f a) (f b)=lt a b) (l:List α):z1K lt' (l.map f)=(z1K lt l).map f:=by
 have key:∀ (l r:List α),(l.map f).foldl (fun r x=>insR lt' x r) (r.map f)=(l.foldl (fun r x=>insR lt x r) r).map f:=by
  intro l
  induction l with
  | nil=>intro r;rfl
  | cons x l ih=>intro r;simp only[List.map_cons,List.foldl_cons,zia f h,ih]
 unfold z1K z2n
 have:=key l []
 simp only[List.map_nil] at this
 rw[this,List.map_reverse]
end Go.Am
namespace Go.Am
variable {α:Type}
end Go.Am
end
section
/- Values of a shape: loads and stores in rows. -/
open Go
namespace Go.Am
variable {h:Heap} {K:Post}
theorem zab {sh:Sh} {x:PV} (hx:x.shp sh=true):cutP sh 0 x=some x:=by
 cases sh with
 | none=>exact zyb hx
 | some n=>
  cases x with
  | agg cs=>
   simp only[PV.shp,Bool.and_eq_true,beq_iff_eq] at hx
   simp [cutP,hx.1]
   exact List.take_of_length_le (by omega)
  | _=>cases hx
theorem zcq {sh:Sh} {x:PV} (hx:x.shp sh=true):x.cells.length=z0a sh:=by
 cases sh with
 | none=>cases x <;> first | rfl | cases hx
 | some n=>
  cases x with
  | agg cs=>simp only[PV.shp,Bool.and_eq_true,beq_iff_eq] at hx;exact hx.1
  | _=>cases hx
theorem zcp {sh:Sh} {x:PV} (hx:x.shp sh=true):x.cells.all PV.sc=true:=by
 cases sh with
 | none=>cases x <;> first | rfl | cases hx
 | some n=>
  cases x with
  | agg cs=>simp only[PV.shp,Bool.and_eq_true,beq_iff_eq] at hx;exact hx.2
  | _=>cases hx
theorem zi1 {sh:Sh} {x y:PV} (hx:x.shp sh=true) (hy:y.shp sh=true) (id i fz:Nat) (xs:List PV) (h1:Heap):stE sh id i 0 fz sh xs x h1 (some y)=some (.und,h1.set id (.row sh (xs.set i x) fz),[]):=by
 cases sh with
 | none=>
  cases y with
  | agg cs=>cases hy
  | _=>simp only[PV.shp] at hx;simp [stE,hx]
 | some n=>
  cases y with
  | agg cs=>
   cases x with
   | agg ds=>
    simp only[PV.shp,Bool.and_eq_true,beq_iff_eq] at hx hy
    simp [stE,PV.cells,splice,hx.1,hy.1,show cs.drop n=[] from List.drop_of_length_le (by omega)]
   | _=>cases hx
  | _=>cases hy
def shps (sh:Sh) (xs:List PV):Prop:=∀ x∈xs,x.shp sh=true
theorem zuX {sh:Sh} {xs:List PV} (hx:shps sh xs) {i:Nat} (hi:i<xs.length):xs[i].shp sh=true:=hx _ (List.getElem_mem hi)
theorem zcn {h:Heap} {id:Nat} {o:Obj} (hh:h[id]?=some o):h.set id o=h:=by
 apply List.ext_getElem?
 intro i
 rw[List.getElem?_set]
 split
 ·rename_i e;subst e;rw[hh];simp [z71 hh]
 ·rfl
def Cmps (g:Nat) (caps:List AV) (c:PV→PV→Int) (xs:List PV) (id:Nat) (h:Heap):Prop:=∀ (o:Obj) (x:PV),x∈xs→∀ y,y∈xs→∀ K:Post,z0c X g (.p x :: .p y::caps) (h.set id o) K=K (AI (c x y)) (h.set id o) []
def ltC (c:PV→PV→Int) (a b:PV):Bool:=decide (c a b<0)
structure Shows (sh:Sh) (v:AV) (xs:List PV) (h:Heap):Prop where
 len:oLen v=some (AI xs.length)
 get:∀ (k:Nat) (hk:k<xs.length),∃ a,z0r sh v (AI k) h=some a∧z0e sh a h=some (.p xs[k])
theorem zco {sh:Sh} {xs:List PV} (hs:shps sh xs):Shows sh (.p (.sl sh xs)) xs h:=by
 refine⟨rfl,fun k hk=>⟨.vp xs[k],?_,?_⟩⟩
 ·simp [z0r,z0N,hk]
 ·simp only[zqe,zab (zuX hs hk)];rfl
end Go.Am
end
section
/- Strings: keys,the library's functions without text. -/
open Go
set_option linter.unusedSimpArgs false
namespace Go.Am
variable {h:Heap} {K:Post}
abbrev AS (s:List UInt8):AV:=.p (.str s)
theorem X_ext:X.ext=extF z0h z0g:=rfl
theorem zuU (s:List UInt8) (c:UInt8):z0c X z0h [AS s,.p (.int .u8 c.toNat)] h K=K (AI (idxB s c)) h []:=by
 have:=zhB (X:=X) (f:=z0h) (asv:=[AS s,.p (.int .u8 c.toNat)]) (vs:=[.str s,.int .u8 c.toNat]) (h:=h) (h1:=h) (r:=.int .i64 (idxB s c)) (K:=K) (by kernel_rfl) rfl rfl rfl ?_
 ·exact this
 ·rw[X_ext]
  unfold extF
  rw[show Nat.beq z0h z0h=true from by kernel_rfl]
  simp
theorem zuS (a b:List UInt8):z0c X z0g [AS a,AS b] h K=K (AI (cmpL a b)) h []:=by
 have:=zhB (X:=X) (f:=z0g) (asv:=[AS a,AS b]) (vs:=[.str a,.str b]) (h:=h) (h1:=h) (r:=.int .i64 (cmpL a b)) (K:=K) (by kernel_rfl) rfl rfl rfl ?_
 ·exact this
 ·rw[X_ext]
  unfold extF
  rw[show Nat.beq z0g z0h=false from by kernel_rfl,show Nat.beq z0g z0g=true from by kernel_rfl]
  rfl
theorem z2D (a b:List UInt8):z0c X z2l [AS a,AS b] h K=K (AI (cmpL a b)) h []:=by
 have key:∀ (h:Heap) (K:Post),z0c X z9e [AS a,AS b] h K=K (AI (cmpL a b)) h []:=by
  intro h K
  refine rule ?_
  rw[c_q019 rfl]
  simp only[zmB,go_sem,zuS]
 refine rule ?_
 rw[c_q06b rfl]
 simp only[zmW,go_sem,key]
theorem z9W (s:List UInt8) (c:UInt8):z0c X zbb [AS s,.p (.int .u8 c.toNat)] h K=K (AI (idxB s c)) h []:=by
 have key:∀ (h:Heap) (K:Post),z0c X zaC [AS s,.p (.int .u8 c.toNat)] h K=K (AI (idxB s c)) h []:=by
  intro h K
  refine rule ?_
  rw[c_q01k rfl]
  simp only[zmC,go_sem,zuU]
 refine rule ?_
 rw[c_q06d rfl]
 simp only[zmX,go_sem,key]
theorem z5A:∀ a,cmpL a a=0
 | []=>rfl
 | x::a=>by simp only[cmpL,UInt8.lt_irrefl,if_false];exact z5A a
theorem z30:∀ {a b:List UInt8},cmpL a b=0→a=b
 | [],[],_=>rfl
 | [],_::_,h=>by simp [cmpL] at h
 | _::_,[],h=>by simp [cmpL] at h
 | x::a,y::b,h=>by
  simp only[cmpL] at h
  split at h
  ·cases h
  ·split at h
   ·cases h
   ·rename_i h1 h2
    have:x=y:=UInt8.le_antisymm (UInt8.not_lt.1 h2) (UInt8.not_lt.1 h1)
    rw[this,z30 h]
theorem z7I:∀ a b,cmpL b a = - cmpL a b
 | [],[]=>rfl
 | [],_::_=>rfl
 | _::_,[]=>rfl
 | x::a,y::b=>by
  simp only[cmpL]
  by_cases h1:x<y
  ·have h2:¬ y<x:=UInt8.lt_asymm h1
   simp [h1,h2]
  ·by_cases h2:y<x
   ·simp [h1,h2]
   ·simp [h1,h2,z7I a b]
theorem z6X:∀ {a b c:List UInt8},cmpL a b<0→cmpL b c<0→cmpL a c<0
 | [],[],_,h,_=>by simp [cmpL] at h
 | [],_::_,[],_,h=>by simp [cmpL] at h
 | [],_::_,_::_,_,_=>by simp [cmpL]
 | _::_,[],_,h,_=>by simp [cmpL] at h
 | _::_,_::_,[],_,h=>by simp [cmpL] at h
 | x::a,y::b,z::c,h1,h2=>by
  simp only[cmpL] at h1 h2 ⊢
  by_cases hxy:x<y
  ·by_cases hyz:y<z
   ·simp [UInt8.lt_trans hxy hyz]
   ·by_cases hzy:z<y
    ·simp [hyz,hzy] at h2
    ·have:y=z:=UInt8.le_antisymm (UInt8.not_lt.1 hzy) (UInt8.not_lt.1 hyz)
     subst this;simp [hxy]
  ·by_cases hyx:y<x
   ·simp [hxy,hyx] at h1
   ·have:x=y:=UInt8.le_antisymm (UInt8.not_lt.1 hyx) (UInt8.not_lt.1 hxy)
    subst this
    simp only[UInt8.lt_irrefl,if_false] at h1
    by_cases hyz:x<z
    ·simp [hyz]
    ·by_cases hzy:z<x
     ·simp [hyz,hzy] at h2
     ·simp only[hyz,hzy,if_false] at h2 ⊢
      exact z6X h1 h2
def z7D (c:UInt8):Bool:=decide ((97:Int)≤c.toNat)&&decide ((c.toNat:Int)≤122)||decide ((48:Int)≤c.toNat)&&decide ((c.toNat:Int)≤57)||decide ((c.toNat:Int)=45)||decide ((c.toNat:Int)=95)
def keyB (s:List UInt8):Bool:=match s with
 | []=>false
 | c::r=>decide (r.length<40)&&(decide ((97:Int)≤c.toNat)&&decide ((c.toNat:Int)≤122))&&(c::r).all z7D
theorem zjE (s:List UInt8) (hl:s.length≤1000000000):z0c X z17 [AS s] h K=K (AB (keyB s)) h []:=by
 refine rule ?_
 rw[c_q004 rfl]
 cases s with
 | nil=>simp only[z7p,go_sem,keyB]
 | cons c r=>
  have n0:((c::r)=[])=False:=by simp
  have e1:(((r.length+1:Nat):Int)≤40)=(r.length<40):=by simp only[eq_iff_iff];omega
  by_cases h1:(40:Int)<((r.length+1:Nat):Int)
  ·have:¬ r.length<40:=by omega
   simp only[z7p,go_sem,n0,h1,keyB,this]
  have h1':r.length<40:=by omega
  by_cases h2:(c.toNat:Int)<97
  ·have:¬ (97:Int)≤c.toNat:=by omega
   simp only[z7p,go_sem,n0,h1,h2,keyB,this,h1']
  have h2':(97:Int)≤c.toNat:=by omega
  by_cases h3:(122:Int)<c.toNat
  ·have:¬ (c.toNat:Int)≤122:=by omega
   simp only[z7p,go_sem,n0,h1,h2,h3,keyB,this,h1',h2']
  have h3':(c.toNat:Int)≤122:=by omega
  have ek:keyB (c::r)=(c::r).all z7D:=by simp [keyB,h1',h2',h3']
  rw[ek]
  generalize hB:(c::r).all z7D=B
  simp only[z7p,go_sem,n0,h1,h2,h3]
  have hlen:(c::r).length=r.length+1:=rfl
  rw[← hlen]
  generalize c::r=s at *
  refine z08 (fun k:Nat=>⟨[(0,AS s),(23,AI s.length),(24,AI k)],h,[]⟩) (fun k=>k≤s.length∧(s.take k).all z7D=true) (fun k=>s.length-k) 0 rfl ⟨by omega,rfl⟩ ?_
  rintro k ⟨hk,hp⟩
  rcases Nat.lt_or_ge k s.length with hlt | hge
  ·have hg:s[k]?=some s[k]:=List.getElem?_eq_getElem hlt
   have w2:IntKind.i64.wrap ((k:Int)+1)=((k+1:Nat):Int):=z0l _ (by omega) (by omega)
   generalize hc:s[k]=c at *
   have key:(decide ((97:Int)≤c.toNat)&&decide ((c.toNat:Int)≤122)||decide ((48:Int)≤c.toNat)&&decide ((c.toNat:Int)≤57)||decide ((c.toNat:Int)=45)||decide ((c.toNat:Int)=95))=z7D c:=rfl
   cases hkc:z7D c with
   | true=>
    rw[hkc] at key
    have hn:(s.take (k+1)).all z7D=true:=by rw[List.take_succ_eq_append_getElem hlt,List.all_append,hp,hc];simp [hkc]
    by_cases b1:(97:Int)≤c.toNat <;> by_cases b2:(c.toNat:Int)≤122 <;> by_cases b3:(48:Int)≤c.toNat <;> by_cases b4:(c.toNat:Int)≤57 <;> by_cases b5:(c.toNat:Int)=45 <;> by_cases b6:(c.toNat:Int)=95
    all_goals first
     | (simp only[b1,b2,b3,b4,b5,b6,decide_true,decide_false,Bool.and_self,Bool.and_true,Bool.and_false,Bool.or_self,Bool.or_true,Bool.or_false,Bool.true_or,Bool.false_or,Bool.false_and,reduceCtorEq] at key;done)
     | (exfalso;omega)
     | (simp only[go_sem,hlt,hg,w2,b1,b2,b3,b4,b5,b6];exact⟨k+1,rfl,⟨by omega,hn⟩,by omega⟩)
   | false=>
    rw[hkc] at key
    have hn:s.all z7D=false:=by rw[List.all_eq_false];exact⟨_,List.getElem_mem hlt,by rw[hc,hkc];simp⟩
    rw[hn] at hB
    subst hB
    by_cases b1:(97:Int)≤c.toNat <;> by_cases b2:(c.toNat:Int)≤122 <;> by_cases b3:(48:Int)≤c.toNat <;> by_cases b4:(c.toNat:Int)≤57 <;> by_cases b5:(c.toNat:Int)=45 <;> by_cases b6:(c.toNat:Int)=95
    all_goals first
     | (simp only[b1,b2,b3,b4,b5,b6,decide_true,decide_false,Bool.and_self,Bool.and_true,Bool.and_false,Bool.or_self,Bool.or_true,Bool.or_false,Bool.true_or,Bool.false_or,Bool.false_and,reduceCtorEq] at key;done)
     | (exfalso;omega)
     | (simp only[go_sem,hlt,hg,b1,b2,b3,b4,b5,b6])
  ·have ek:k=s.length:=by omega
   subst ek
   rw[List.take_length,hB] at hp
   subst hp
   simp only[go_sem,Nat.lt_irrefl]
theorem zus (s:List UInt8) (c:UInt8):decide (idxB s c<0) = !s.contains c:=by
 unfold idxB
 rw[Bool.eq_iff_iff]
 by_cases hf:s.findIdx (· == c)<s.length
 ·rw[if_pos hf]
  have:=List.findIdx_getElem (w:=hf)
  simp only[beq_iff_eq] at this
  have hm:c∈s:=by rw[← this];exact List.getElem_mem hf
  simp [hm]
 ·rw[if_neg hf]
  have hm:¬ c∈s:=fun hm=>hf (List.findIdx_lt_length_of_exists ⟨c,hm,by simp⟩)
  simp [hm]
theorem zxq (s t:List UInt8) (hl:s.length≤1000000000):z0c X z7x [AS s,AS t] h K=K (AB (s.all fun c=>t.contains c)) h []:=by
 refine rule ?_
 rw[c_q03i rfl]
 simp only[zhj,go_sem]
 refine z08 (fun k:Nat=>⟨[(0,AS s),(1,AS t),(7,AI s.length),(8,AI k)],h,[]⟩) (fun k=>k≤s.length∧(s.take k).all (fun c=>t.contains c)=true) (fun k=>s.length-k) 0 rfl ⟨by omega,rfl⟩ ?_
 rintro k ⟨hk,hp⟩
 rcases Nat.lt_or_ge k s.length with hlt | hge
 ·have hg:s[k]?=some s[k]:=List.getElem?_eq_getElem hlt
  have w2:IntKind.i64.wrap ((k:Int)+1)=((k+1:Nat):Int):=z0l _ (by omega) (by omega)
  have hi:=zus t s[k]
  by_cases hc:idxB t s[k]<0
  ·have:s.all (fun c=>t.contains c)=false:=by
    rw[List.all_eq_false]
    refine⟨_,List.getElem_mem hlt,?_⟩
    rw[decide_eq_true hc] at hi
    cases hq:t.contains s[k] with
    | true=>rw[hq] at hi;cases hi
    | false=>simp
   simp only[go_sem,hlt,hg,z9W,hc,this]
  ·rw[decide_eq_false hc] at hi
   have hq:t.contains s[k]=true:=by cases hq:t.contains s[k] with | true=>rfl | false=>rw[hq] at hi;cases hi
   simp only[go_sem,hlt,hg,z9W,hc,w2]
   exact⟨k+1,rfl,⟨by omega,by rw[List.take_succ_eq_append_getElem hlt,List.all_append,hp];simp only[List.all_cons,List.all_nil,hq];rfl⟩,by omega⟩
 ·have ek:k=s.length:=by omega
  subst ek
  rw[List.take_length] at hp
  simp only[go_sem,Nat.lt_irrefl,hp]
def zac:List UInt8:=[97,98,99,100,101,102,103,104,105,106,107,108,109,110,111,112,113,114,115,116,117,118,119,120,121,122]
def zpw:List UInt8:=[97,98,99,100,101,102,103,104,105,106,107,108,109,110,111,112,113,114,115,116,117,118,119,120,121,122,48,49,50,51,52,53,54,55,56,57,45,95]
theorem zxs {p:UInt8→Bool} (h:((List.range 256).all fun n=>p (UInt8.ofNat n))=true) (c:UInt8):p c=true:=by
 have:=List.all_eq_true.1 h c.toNat (by simp;exact c.toNat_lt)
 rwa [UInt8.ofNat_toNat] at this
theorem zjN (c:UInt8):zac.contains c=(decide ((97:Int)≤c.toNat)&&decide ((c.toNat:Int)≤122)):=by
 have:=zxs (p:=fun c=>zac.contains c==(decide ((97:Int)≤c.toNat)&&decide ((c.toNat:Int)≤122))) (by kernel_rfl) c
 simpa using this
theorem zux (c:UInt8):zpw.contains c=z7D c:=by
 have:=zxs (p:=fun c=>zpw.contains c==z7D c) (by kernel_rfl) c
 simpa using this
theorem z7R (s:List UInt8) (hl:s.length≤1000000000):z0c X z3L [AS s] h K=K (AB (keyB s)) h []:=by
 refine rule ?_
 rw[c_q02w rfl]
 have o1:=fun h K=>zxq (h:=h) (K:=K) s zpw hl
 have e2:(s.all fun c=>zpw.contains c)=s.all z7D:=by congr 1;funext c;exact zux c
 rw[e2] at o1
 unfold zpw at o1
 cases s with
 | nil=>simp only[za6,go_sem,s_in,keyB]
 | cons c r=>
  have o2:=fun h K=>zxq (h:=h) (K:=K) [c] zac (by simp)
  have e3:([c].all fun c=>zac.contains c)=(decide ((97:Int)≤c.toNat)&&decide ((c.toNat:Int)≤122)):=by simp only[List.all_cons,List.all_nil,Bool.and_true];exact zjN c
  rw[e3] at o2
  unfold zac at o2
  have q1:(1:Int)≤((r.length+1:Nat):Int):=by omega
  have q2:1≤r.length+1:=by omega
  by_cases h1:r.length<40
  ·have h1':((r.length+1:Nat):Int)≤40:=by omega
   cases h2:(decide ((97:Int)≤c.toNat)&&decide ((c.toNat:Int)≤122)) with
   | true=>
    have ek:keyB (c::r)=(c::r).all z7D:=by
     simp only[keyB,h1,decide_true,Bool.true_and,h2]
    rw[ek]
    simp only[za6,go_sem,s_in,h1',q1,q2,win,↓o2,o2,h2,↓o1,o1]
   | false=>
    have ek:keyB (c::r)=false:=by simp only[keyB,h1,decide_true,Bool.true_and,h2,Bool.false_and]
    rw[ek]
    simp only[za6,go_sem,s_in,h1',q1,q2,win,↓o2,o2,h2]
  ·have h1':¬ ((r.length+1:Nat):Int)≤40:=by omega
   have ek:keyB (c::r)=false:=by simp only[keyB,h1,decide_false,Bool.false_and]
   rw[ek]
   simp only[za6,go_sem,s_in,h1',q1]
end Go.Am
end
section
/- Finding values in lists: printed by program. -/
open Go
set_option linter.unusedSimpArgs false
namespace Go.Am
attribute [-go_sem] PV.cells
variable {h:Heap} {K:Post}
end Go.Am
end
section
/- Limits: what they are,what is wrong with them. -/
open Go
namespace Go.Am
variable {h:Heap} {K:Post}
structure Lim where
 key:List UInt8
 lo:Int
 hi:Int
 bin:Int
def Lim.pv (x:Lim):PV:=.agg [.str x.key,eI x.lo,eI x.hi,eI x.bin]
def inB (a n b:Int):Bool:=decide (a≤n)&&decide (n≤b)
theorem z2C (n a b:Int):z0c X z0T [AI n,AI a,AI b] h K=K (AB (!inB a n b)) h []:=by rw[s_Out,out_eq];rfl
theorem zaq (n a b:Int):z0c X z2k [AI n,AI a,AI b] h K=K (AB (inB a n b)) h []:=s_in n a b
end Go.Am
end
section
/- What is wrong with limits,both ways: printed by program. -/
open Go
set_option linter.unusedSimpArgs false
namespace Go.Am
variable {h:Heap} {K:Post}
end Go.Am
end
section
/- Package lot on measured values,and what the reference says of them. -/
open Go
namespace Go.Am
variable {h:Heap} {K:Post}
end Go.Am
end
section
/- Records: what they are,what is wrong with them. -/
open Go
set_option linter.unusedSimpArgs false
namespace Go.Am
variable {h:Heap} {K:Post}
theorem zse {b:Nat} {P:Post} {vs:List AV} {h:Heap}:retK true b P (some vs) h []=P (z0C vs) (h.take (max b (z0C vs).top)) []:=by
 simp [retK,close,z0I]
attribute [go_sem] zse
structure Rec where
 unit:List UInt8
 time:Int
 site:List UInt8
 res:List Int
def Rec.pv (r:Rec):PV:=.agg [.str r.unit,eI r.time,.str r.site,.sl none (r.res.map eI)]
def z1L (n:Int):Bool:=inB 0 n 345686399999
theorem zgY (x y:Int):cmp3 y x = - cmp3 x y:=by
 unfold cmp3;split <;> split <;> (try split) <;> (try split) <;> omega
theorem z2d (n:Int):z0c X z5M [AI n] h K=K (AB (z1L n)) h []:=by
 refine rule ?_
 rw[c_q005 rfl]
 simp only[zm8,go_sem,z2C,Bool.not_not]
 rfl
theorem z1q (n:Int):z0c X zaL [AI n] h K=K (AB (z1L n)) h []:=by
 refine rule ?_
 rw[c_q02y rfl]
 simp only[zmL,go_sem,zaq]
 rfl
end Go.Am
end
section
/- Entries of stations,plainly: what is wrong with them. -/
set_option linter.all false
namespace Go.Am
structure Ent where
 site:List UInt8
 no:Int
 time:Int
 kind:Int
 board:List UInt8
 step:List UInt8
 of:List UInt8
 other:Int
 deriving DecidableEq
def Ent.pv (x:Ent):PV:=.agg [.str x.site,eI x.no,eI x.time,eI x.kind,.str x.board,.str x.step,.str x.of,eI x.other]
def noB (n:Int):Bool:=inB 1 n 1000000
def z73 (x:Ent):Bool:=if x.kind=7 then keyB x.of else if x.kind=2 then keyB x.board&&keyB x.step else keyB x.board
def zvu (x:Ent):Ent:=if x.kind=7 then ⟨x.site,x.no,x.time,x.kind,[],[],x.of,x.other⟩ else if x.kind=2 then ⟨x.site,x.no,x.time,x.kind,x.board,x.step,[],0⟩ else ⟨x.site,x.no,x.time,x.kind,x.board,[],[],0⟩
def entF (x:Ent):Int:=
 if keyB x.site=false then 5 else if noB x.no=false∨z1L x.time=false then 1 else if inB 1 x.kind 7=false then 4
 else if z73 x=false then 5 else if x.kind=7∧noB x.other=false then 1 else if x≠zvu x then 3 else 0
def z1b (a b:Ent):Int:=if cmp3 a.time b.time≠0 then cmp3 a.time b.time else if cmpL a.site b.site≠0 then cmpL a.site b.site else cmp3 a.no b.no
theorem zjj (a b:Ent):z1b b a = - z1b a b:=by
 unfold z1b
 rw[zgY a.time b.time,z7I a.site b.site,zgY a.no b.no]
 by_cases h1:cmp3 a.time b.time=0
 ·by_cases h2:cmpL a.site b.site=0
  ·simp [h1,h2]
  ·simp [h1,h2]
 ·simp [h1]
def z3u (a b:Ent):Bool:=decide (a.site=b.site)&&decide (a.no=b.no)
def z0E:Option Ent→List Ent→Int
 | _,[]=>0
 | p,x::r=>if entF x≠0 then entF x else if (match p with | some q=>decide (z1b x q≤0) | none=>false)=true then 7 else z0E (some x) r
def z2s (seen:List Ent):List Ent→Bool
 | []=>false
 | x::r=>if seen.any (fun o=>z3u o x) then true else z2s (seen++[x]) r
def z3X (l:List Ent):Int:=if (2000:Int)<l.length then 2 else if z0E none l≠0 then z0E none l else if z2s [] l then 6 else 0
end Go.Am
end
