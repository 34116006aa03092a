/- Texts of the proof, laid together: CodesE, CodesF, AmL, AmC, Ctx, SpStream, MathFrac, SpBase, SpList, PSort, SpShp, SpStr, SpFind, SpLimD, SpLim, SpLotA, SpRecD, PEnt, PSplit, PTxt, PNum, PFlt, PFltR, PWrit, PEntT, SpRec, SpEnt1, SpEnt3. -/
import Derived.KernelRfl
import Derived.Test.YtngfahepmdicnaaGreatDoorlawEA5
set_option linter.all false
section
/- The functions asv abstract code,and asv formulas UD their values: printed by program out of the translation. -/
set_option linter.all false
set_option maxRecDepth 100000
namespace Go.Am
def zjW:ACode:=.pr [0,3,4,5] (rg [mV 33 5,
bN 34 .add 33 (cI 1),
mV 5 34] [0,3,4,5])
def zjX:ACode:=.pr [0,3,4,5] (.seq (.seq (rg [mV 29 5,
mV 30 4,
lN 31 30,
bN 32 .lss 29 31] [0,3,4,5,32])
(.cond 32 .skip
(.exit 2)))
(.seq (.block 3 (.seq (dr [dF (mV 35 4) [4],
dF (mV 36 5) [5],
dF (iA 37 none 35 36) [35,36],
dF (lD 38 none 37) [37],
dF (mV 39 4) [4],
dF (mV 40 5) [5],
dF (bN 41 .sub 40 (cI 1)) [40],
dF (iA 42 none 39 41) [39,41],
dF (lD 43 none 42) [42],
dF (bN 44 .neq 38 43) [38,43]] [0,3,4,5,44])
(.cond 44 (.seq (rg [mV 45 0,
mV 46 3,
mV 47 4,
mV 48 5,
iA 49 none 47 48,
lD 50 none 49,
iA 51 none 45 46,
wO (.store none 51 50)] [0,3,4,5])
(rg [mV 52 3,
bN 53 .add 52 (cI 1),
mV 3 53] [0,3,4,5]))
.skip)))
zjW))
def zjY:ACode:=.pr [0,3] (.seq (rg [mV 54 0,
mV 55 3,
uO 56 (.slice none 54 (some 55) none none),
wO (.clr none (.str []) 56)] [0,3])
(.seq (rg [mV 57 0,
mV 58 3,
uO 59 (.slice none 57 none (some 58) none),
mV 2 59] [2])
.ret))
def zjZ:ACode:=.pr [0,3] (rg [mV 14 3,
bN 15 .add 14 (cI 1),
mV 3 15] [0,3])
def zka:ACode:=.pr [0,3] (.seq (.seq (rg [mV 10 3,
mV 11 0,
lN 12 11,
bN 13 .lss 10 12] [0,3,13])
(.cond 13 .skip
(.exit 0)))
(.seq (.block 1 (.seq (dr [dF (mV 16 0) [0],
dF (mV 17 3) [3],
dF (iA 18 none 16 17) [16,17],
dF (lD 19 none 18) [18],
dF (mV 20 0) [0],
dF (mV 21 3) [3],
dF (bN 22 .sub 21 (cI 1)) [21],
dF (iA 23 none 20 22) [20,22],
dF (lD 24 none 23) [23],
dF (bN 25 .eql 19 24) [19,24]] [0,3,25])
(.cond 25 (.seq (rg [mV 26 0,
mV 27 3,
uO 28 (.slice none 26 (some 27) none none),
mV 4 28] [0,3,4])
(.seq (.seq (rg [mV 5 (cI 1)] [0,3,4,5])
(.block 2 (.loop zjX)))
zjY))
.skip)))
zjZ))
def zkb:ACode:=.pr [0] (.seq (rg [mV 60 0,
mV 2 60] [2])
.ret)
def zjV:ACode:=(.seq (rg [mV 2 (.c (.p (.sl none [])))] [0])
(.seq (.seq (rg [mV 6 0,
lN 7 6,
bN 8 .lss 7 (cI 2)] [0,8])
(.cond 8 (.seq (rg [mV 9 0,
mV 2 9] [2])
.ret)
.skip))
(.seq (.seq (rg [mV 3 (cI 1)] [0,3])
(.block 0 (.loop zka)))
zkb)))
def z8x:AFun:=⟨1,[.t 2],zjV,true,false⟩
def zkc:ACode:=(.seq (rg [mV 4 cF] [0,1])
(.seq (rg [mV 5 0,
mV 6 1,
cL 7 z33 [5,6],
bN 8 .geq 7 (cI 0),
mV 4 8] [4])
.ret))
def z8y:AFun:=⟨2,[.t 4],zkc,true,false⟩
def zkd:ACode:=(.seq (rg [mV 4 cF] [0,1])
(.seq (rg [mV 5 0,
mV 6 1,
cL 7 z34 [5,6],
bN 8 .geq 7 (cI 0),
mV 4 8] [4])
.ret))
def z8z:AFun:=⟨2,[.t 4],zkd,true,false⟩
def zke:ACode:=(.seq (rg [mV 4 cF] [0,1])
(.seq (rg [mV 5 0,
mV 6 1,
cL 7 z35 [5,6],
bN 8 .geq 7 (cI 0),
mV 4 8] [4])
.ret))
def z81:AFun:=⟨2,[.t 4],zke,true,false⟩
def zkg:ACode:=.pr [0,1,7,8] (.seq (rg [bN 9 .lss 8 7] [0,1,7,8,9])
(.seq (.cond 9 .skip
(.exit 0))
(.seq (.block 1 (.seq (rg [mV 10 8,
mV 5 10] [0,1,5,7,8])
(.seq (rg [mV 11 1,
mV 12 0,
mV 13 5,
iA 14 (some 4) 12 13,
lD 15 (some 4) 14,
uO 16 (.callv 11 [15])] [0,1,5,7,8,16])
(.cond 16 (.seq (rg [mV 17 5,
mV 4 17] [4])
.ret)
.skip))))
(rg [bN 18 .add 8 (cI 1),
mV 8 18] [0,1,7,8]))))
def zkh:ACode:=.pr [] (.seq (rg [mV 4 (cI (-1))] [4])
.ret)
def zkf:ACode:=(.seq (rg [mV 4 (cI 0)] [0,1])
(.seq (.seq (rg [mV 6 0,
lN 7 6,
mV 8 (cI 0)] [0,1,7,8])
(.block 0 (.loop zkg)))
zkh))
def z82:AFun:=⟨2,[.t 4],zkf,true,false⟩
def zkj:ACode:=.pr [0,1,7,8] (.seq (rg [bN 9 .lss 8 7] [0,1,7,8,9])
(.seq (.cond 9 .skip
(.exit 0))
(.seq (.block 1 (.seq (rg [mV 10 8,
mV 5 10] [0,1,5,7,8])
(.seq (rg [mV 11 1,
mV 12 0,
mV 13 5,
iA 14 none 12 13,
lD 15 none 14,
uO 16 (.callv 11 [15])] [0,1,5,7,8,16])
(.cond 16 (.seq (rg [mV 17 5,
mV 4 17] [4])
.ret)
.skip))))
(rg [bN 18 .add 8 (cI 1),
mV 8 18] [0,1,7,8]))))
def zkk:ACode:=.pr [] (.seq (rg [mV 4 (cI (-1))] [4])
.ret)
def zki:ACode:=(.seq (rg [mV 4 (cI 0)] [0,1])
(.seq (.seq (rg [mV 6 0,
lN 7 6,
mV 8 (cI 0)] [0,1,7,8])
(.block 0 (.loop zkj)))
zkk))
def z83:AFun:=⟨2,[.t 4],zki,true,false⟩
def zkm:ACode:=.pr [0,1,7,8] (.seq (rg [bN 9 .lss 8 7] [0,1,7,8,9])
(.seq (.cond 9 .skip
(.exit 0))
(.seq (.block 1 (.seq (rg [mV 10 8,
mV 5 10] [0,1,5,7,8])
(.seq (rg [mV 11 1,
mV 12 0,
mV 13 5,
iA 14 none 12 13,
lD 15 none 14,
bN 16 .eql 11 15] [0,1,5,7,8,16])
(.cond 16 (.seq (rg [mV 17 5,
mV 4 17] [4])
.ret)
.skip))))
(rg [bN 18 .add 8 (cI 1),
mV 8 18] [0,1,7,8]))))
def zkn:ACode:=.pr [] (.seq (rg [mV 4 (cI (-1))] [4])
.ret)
def zkl:ACode:=(.seq (rg [mV 4 (cI 0)] [0,1])
(.seq (.seq (rg [mV 6 0,
lN 7 6,
mV 8 (cI 0)] [0,1,7,8])
(.block 0 (.loop zkm)))
zkn))
def z84:AFun:=⟨2,[.t 4],zkl,true,false⟩
def zkp:ACode:=.pr [1,16,17,18] (.seq (rg [bN 19 .lss 18 17] [1,16,17,18,19])
(.seq (.cond 19 .skip
(.exit 1))
(.seq (.block 2 (.seq (rg [mV 20 18,
iA 21 none 16 18,
lD 22 none 21,
mV 3 20,
mV 4 22] [1,3,4,16,17,18])
(.block 3 (.seq (rg [mV 24 4,
cL 25 RD [24],
uO 26 (.un .not 25),
mV 23 26] [1,3,4,16,17,18,23])
(.cond 23 (.seq (rg [mV 2 (cI 5)] [2])
.ret)
(.seq (rg [fA 28 0 none 1,
lD 29 none 28,
mV 30 3,
uO 31 (.slice none 29 none (some 30) none),
mV 32 4,
cL 33 LG [31,32],
mV 27 33] [1,16,17,18,27])
(.cond 27 (.seq (rg [mV 2 (cI 6)] [2])
.ret)
.skip)))))))
(rg [bN 34 .add 18 (cI 1),
mV 18 34] [1,16,17,18]))))
def zkq:ACode:=.pr [1] (.seq (.seq (rg [fA 35 1 none 1,
lD 36 none 35,
cL 37 YB [36,(cI 1),(cI 10)]] [37])
(.cond 37 (.seq (rg [mV 2 (cI 1)] [2])
.ret)
.skip))
(.seq (rg [mV 2 (cI 0)] [2])
.ret))
def zko:ACode:=(.seq (rg [uO 1 (.box 0),
mV 2 (cI 0)] [1])
(.seq (.block 0 (.seq (rg [fA 6 0 none 1,
lD 7 none 6,
lN 8 7,
bN 9 .eql 8 (cI 0),
mV 5 9] [1,5])
(.cond 5 (.seq (rg [mV 2 (cI 8)] [2])
.ret)
(.seq (rg [fA 11 0 none 1,
lD 12 none 11,
lN 13 12,
bN 14 .gtr 13 (cI 20),
mV 10 14] [1,10])
(.cond 10 (.seq (rg [mV 2 (cI 2)] [2])
.ret)
.skip)))))
(.seq (.seq (rg [fA 15 0 none 1,
lD 16 none 15,
lN 17 16,
mV 18 (cI 0)] [1,16,17,18])
(.block 1 (.loop zkp)))
zkq)))
def z86:AFun:=⟨1,[.t 2],zko,false,false⟩
def zkr:ACode:=(.seq (rg [uO 4 (.box 0),
uO 8 (.alloc [.p (.int .i64 0),.p (.int .i64 0),.p (.str []),.p (.str []),.p (.int .i64 0)]),
mV 9 (cI 0)] [1,2,3,4,8])
(.seq (.seq (rg [lD 12 (some 2) 4,
mV 13 1,
mV 14 3,
cL 15 z39 [12,13,14],
mV 10 15] [1,2,3,4,8,10])
(.seq (rg [mV 16 10,
bN 17 .neq 16 (cI 0)] [1,2,3,4,8,10,17])
(.cond 17 (.seq (rg [uO 18 (.build [.p (.int .i64 0),.p (.int .i64 0),.p (.str []),.p (.str []),.p (.int .i64 0)] []),
mV 19 10,
wO (.store (some 5) 8 18),
mV 9 19] [8,9])
.ret)
.skip)))
(.seq (.seq (rg [mV 20 2,
cL 21 RD [20],
uO 22 (.un .not 21)] [1,2,3,4,8,22])
(.cond 22 (.seq (rg [uO 23 (.build [.p (.int .i64 0),.p (.int .i64 0),.p (.str []),.p (.str []),.p (.int .i64 0)] []),
wO (.store (some 5) 8 23),
mV 9 (cI 5)] [8,9])
.ret)
.skip))
(.seq (dr [dF (lD 24 (some 2) 4) [4],
dF (mV 25 1) [1],
dF (mV 26 3) [3],
dA (cL 27 bI [25,26]) [25,26] true [] [0],
dT (cL 28 z3E [24,27]) [24,27],
dF (uO 29 (.nilchk 28)) [28],
dF (fA 30 2 none 29) [29],
dF (lD 31 none 30) [30],
dF (mV 32 2) [2],
dF (uO 33 (.look (none,[2]) false (.nilp) 31 32)) [31,32],
dF (mV 11 33) [33]] [8,11])
(.seq (.seq (rg [mV 34 11,
uO 35 (.isnil 0 false 34)] [8,11,35])
(.cond 35 (.seq (rg [uO 36 (.build [.p (.int .i64 0),.p (.int .i64 0),.p (.str []),.p (.str []),.p (.int .i64 0)] []),
wO (.store (some 5) 8 36),
mV 9 (cI 8)] [8,9])
.ret)
.skip))
(.seq (rg [mV 37 11,
uO 38 (.nilchk 37),
lD 39 (some 5) 38,
wO (.store (some 5) 8 39),
mV 9 (cI 0)] [8,9])
.ret))))))
def z87:AFun:=⟨4,[.cell 8 (some 5),.t 9],zkr,false,false⟩
def zks:ACode:=(.seq (rg [uO 3 (.box 0),
mV 6 (cI 0)] [1,2,3])
(.seq (rg [lD 7 (some 2) 3,
cL 8 z36 [7],
mV 9 1,
cL 10 FE [9],
mV 11 2,
cL 12 aI [11],
uO 13 (.bsl false none 3 (.int .i64 0) [(0,8),(1,10),(2,12)]),
cL 14 JG [13],
mV 6 14] [6])
.ret))
def z88:AFun:=⟨3,[.t 6],zks,false,false⟩
def zkt:ACode:=(.seq (rg [mV 4 (cI 0)] [0,1])
(.seq (rg [mV 5 0,
uO 6 (.nilchk 5),
fA 7 0 (some 2) 6,
fA 8 0 none 7,
lD 9 none 8,
mV 10 1,
cL 11 XH [9,10],
mV 4 11] [4])
.ret))
def z89:AFun:=⟨2,[.t 4],zkt,false,false⟩
def zkv:ACode:=.pr [] (.seq (rg [mV 6 (cI 0)] [6])
.ret)
def zkw:ACode:=.pr [] (.seq (rg [mV 6 (cI 0)] [6])
.ret)
def zkx:ACode:=.pr [0,1] (.seq (rg [mV 98 1,
uO 99 (.nilchk 98),
fA 100 4 none 99,
lD 101 none 100,
bN 102 .add 101 (cI 1),
uO 103 (.nilchk 98),
fA 104 4 none 103,
wO (.store none 104 102)] [0,1])
(.seq (rg [mV 105 1,
uO 106 (.nilchk 105),
fA 107 0 none 106,
wO (.store none 107 (cI 3))] [0,1])
(.seq (.seq (dr [dF (mV 108 1) [1],
dF (uO 109 (.nilchk 108)) [108],
dF (fA 110 4 none 109) [109],
dF (lD 111 none 110) [110],
dF (mV 112 0) [0],
dF (uO 113 (.nilchk 112)) [112],
dF (fA 114 0 (some 2) 113) [113],
dF (fA 115 1 none 114) [114],
dF (lD 116 none 115) [115],
dF (bN 117 .eql 111 116) [111,116]] [1,117])
(.cond 117 (rg [mV 118 1,
uO 119 (.nilchk 118),
fA 120 0 none 119,
wO (.store none 120 (cI 5))] [])
.skip))
zkw)))
def zku:ACode:=(.seq (rg [uO 5 (.box 2),
mV 6 (cI 0)] [0,1,5])
(.seq (.block 0 (.seq (rg [mV 10 1,
uO 11 (.nilchk 10),
fA 12 0 none 11,
lD 13 none 12,
bN 14 .neq 13 (cI 2),
mV 9 14] [0,1,5,9])
(.cond 9 (.seq (rg [mV 6 (cI 11)] [6])
.ret)
(.seq (dr [dF (mV 16 1) [1],
dF (uO 17 (.nilchk 16)) [16],
dF (fA 18 3 none 17) [17],
dF (lD 19 none 18) [18],
dF (fA 20 0 none 5) [5],
dF (lD 21 none 20) [20],
dF (bN 22 .neq 19 21) [19,21],
dF (mV 15 22) [22]] [0,1,5,15])
(.cond 15 (.seq (rg [mV 6 (cI 13)] [6])
.ret)
.skip)))))
(.seq (rg [fA 23 3 none 5,
lD 24 none 23,
bN 25 .eql 24 (cI 3),
mV 7 25] [0,1,5,7])
(.seq (dr [dF (mV 26 0) [0],
dF (mV 27 0) [0],
dF (uO 28 (.nilchk 27)) [27],
dF (fA 29 4 none 28) [28],
dF (lD 30 none 29) [29],
dF (fA 31 4 none 5) [5],
dF (lD 32 none 31) [31],
dF (mV 33 1) [1],
dF (uO 34 (.nilchk 33)) [33],
dF (fA 35 2 none 34) [34],
dF (lD 36 none 35) [35],
dF (mV 37 1) [1],
dF (uO 38 (.nilchk 37)) [37],
dF (fA 39 1 none 38) [38],
dF (lD 40 none 39) [39],
dF (fA 41 2 none 5) [5],
dF (lD 42 none 41) [41],
dF (mV 43 7) [7],
dF (uO 44 (.build [.p (.str []),.p (.str []),.p (.int .i64 0),.p (.int .i64 0),.p (.bool false)] [(0,1,32),(1,1,36),(2,1,40),(3,1,42),(4,1,43)])) [32,36,40,42,43],
dF (uO 45 (.bsl false (some 5) 1 (.agg [.str [],.str [],.int .i64 0,.int .i64 0,.bool false]) [(0,44)])) [44],
dT (uO 46 (.app (some 5) 30 45)) [30,45],
dF (uO 47 (.nilchk 26)) [26],
dF (fA 48 4 none 47) [47],
dT (wO (.store none 48 46)) [48,46]] [0,1,5,7])
(.seq (rg [mV 49 0,
mV 50 1,
fA 51 2 none 5,
lD 52 none 51,
cL 53 IX [49,50,52]] [0,1,5,7])
(.seq (rg [mV 54 1,
fA 55 2 none 5,
lD 56 none 55,
uO 57 (.nilchk 54),
fA 58 1 none 57,
wO (.store none 58 56)] [0,1,7])
(.seq (.seq (rg [mV 59 7] [0,1,59])
(.cond 59 (.seq (rg [mV 60 1,
uO 61 (.nilchk 60),
fA 62 4 none 61,
wO (.store none 62 (cI 0))] [0,1])
(.seq (rg [mV 63 0,
mV 64 1,
uO 65 (.nilchk 64),
fA 66 2 none 65,
lD 67 none 66,
cL 68 z3A [63,67],
bN 69 .add 68 (cI 1),
mV 8 69] [0,1,8])
(.seq (.seq (rg [mV 70 8,
mV 71 0,
uO 72 (.nilchk 71),
fA 73 0 (some 2) 72,
fA 74 0 none 73,
lD 75 none 74,
lN 76 75,
bN 77 .eql 70 76] [0,1,8,77])
(.cond 77 (rg [mV 78 1,
mV 79 1,
uO 80 (.nilchk 78),
fA 81 0 none 80,
wO (.store none 81 (cI 4)),
uO 82 (.nilchk 79),
fA 83 2 none 82,
wO (.store none 83 (cS []))] [])
(rg [mV 84 1,
mV 85 1,
mV 86 0,
uO 87 (.nilchk 86),
fA 88 0 (some 2) 87,
fA 89 0 none 88,
lD 90 none 89,
mV 91 8,
iA 92 none 90 91,
lD 93 none 92,
uO 94 (.nilchk 84),
fA 95 0 none 94,
wO (.store none 95 (cI 1)),
uO 96 (.nilchk 85),
fA 97 2 none 96,
wO (.store none 97 93)] [])))
zkv)))
.skip))
zkx)))))))
def z8A:AFun:=⟨3,[.t 6],zku,false,false⟩
def zkz:ACode:=.pr [0,1,2,11,12] (rg [bN 47 .add 12 (cI 1),
mV 12 47] [0,1,2,11,12])
def zk0:ACode:=.pr [0,1,2,11,12] (.seq (rg [bN 13 .lss 12 11] [0,1,2,11,12,13])
(.seq (.cond 13 .skip
(.exit 0))
(.seq (.block 1 (.seq (rg [mV 14 12,
mV 6 14] [0,1,2,6,11,12])
(.seq (dr [dF (mV 15 0) [0],
dF (uO 16 (.nilchk 15)) [15],
dF (fA 17 5 none 16) [16],
dF (lD 18 none 17) [17],
dF (mV 19 6) [6],
dF (iA 20 (some 3) 18 19) [18,19],
dF (fA 21 0 none 20) [20],
dF (lD 22 none 21) [21],
dF (mV 23 1) [1],
dF (uO 24 (.nilchk 23)) [23],
dF (fA 25 3 none 24) [24],
dF (lD 26 none 25) [25],
dF (bN 27 .eql 22 26) [22,26],
dF (mV 28 27) [27],
dF (gD 29 28 true (.mv 0)) [0,28],
dF (gD 30 28 true (.nilchk 29)) [29,28],
dF (gD 31 28 true (.faddr 5 none 30)) [30,28],
dF (gD 32 28 true (.load none 31)) [31,28],
dF (gD 33 28 true (.mv 6)) [6,28],
dF (gD 34 28 true (.iaddr (some 3) 32 33)) [32,33,28],
dF (gD 35 28 true (.faddr 2 none 34)) [34,28],
dF (gD 36 28 true (.load none 35)) [35,28],
dF (gD 37 28 true (.bin .lss 36 (cI 0))) [36,28],
dF (uO 38 (.pick 28 37 cF)) [28,37]] [0,1,2,6,11,12,38])
(.cond 38 (rg [mV 39 0,
uO 40 (.nilchk 39),
fA 41 5 none 40,
lD 42 none 41,
mV 43 6,
mV 44 2,
iA 45 (some 3) 42 43,
fA 46 2 none 45,
wO (.store none 46 44)] [0,1,2,11,12])
.skip))))
zkz)))
def zk1:ACode:=.pr [0,1] (.seq (dr [dF (mV 48 0) [0],
dF (uO 49 (.nilchk 48)) [48],
dF (fA 50 3 none 49) [49],
dF (lD 51 none 50) [50],
dF (mV 52 1) [1],
dF (uO 53 (.nilchk 52)) [52],
dF (fA 54 3 none 53) [53],
dF (lD 55 none 54) [54],
dT (wO (.mdel (none,[2]) 51 55)) [51,55]] [1])
(rg [mV 56 1,
uO 57 (.nilchk 56),
fA 58 3 none 57,
wO (.store none 58 (cS []))] []))
def zky:ACode:=(.seq (.seq (rg [mV 7 0,
uO 8 (.nilchk 7),
fA 9 5 none 8,
lD 10 none 9,
lN 11 10,
mV 12 (cI 0)] [0,1,2,11,12])
(.block 0 (.loop zk0)))
zk1)
def z8B:AFun:=⟨3,[],zky,false,false⟩
def zk2:ACode:=(.seq (rg [uO 5 (.box 2),
mV 6 (cI 0)] [0,1,5])
(.seq (dr [dF (mV 10 0) [0],
dF (uO 11 (.nilchk 10)) [10],
dF (fA 12 3 none 11) [11],
dF (lD 13 none 12) [12],
dF (fA 14 0 none 5) [5],
dF (lD 15 none 14) [14],
dF (uO 16 (.look (none,[2]) true (.p (.str [])) 13 15)) [13,15],
dF (mV 9 16) [16],
dF (eX 17 9 0) [9],
dF (eX 18 9 1) [9],
dF (mV 7 17) [17],
dF (mV 8 18) [18]] [0,1,5,8])
(.seq (.block 0 (.seq (rg [mV 20 1,
uO 21 (.nilchk 20),
fA 22 0 none 21,
lD 23 none 22,
bN 24 .neq 23 (cI 1),
mV 19 24] [0,1,5,8,19])
(.cond 19 (.seq (rg [mV 6 (cI 11)] [6])
.ret)
(.seq (dr [dF (fA 26 5 none 5) [5],
dF (lD 27 none 26) [26],
dF (mV 28 1) [1],
dF (uO 29 (.nilchk 28)) [28],
dF (fA 30 2 none 29) [29],
dF (lD 31 none 30) [30],
dF (bN 32 .neq 27 31) [27,31],
dF (mV 25 32) [32]] [0,1,5,8,25])
(.cond 25 (.seq (rg [mV 6 (cI 3)] [6])
.ret)
(.seq (rg [mV 34 8,
mV 33 34] [0,1,5,33])
(.cond 33 (.seq (rg [mV 6 (cI 12)] [6])
.ret)
.skip)))))))
(.seq (dr [dF (mV 35 1) [1],
dF (mV 36 1) [1],
dF (mV 37 1) [1],
dF (fA 38 2 none 5) [5],
dF (lD 39 none 38) [38],
dF (fA 40 0 none 5) [5],
dF (lD 41 none 40) [40],
dF (uO 42 (.nilchk 35)) [35],
dF (fA 43 0 none 42) [42],
dA (wO (.store none 43 (cI 2))) [43] true [] [4,6],
dF (uO 44 (.nilchk 36)) [36],
dF (fA 45 1 none 44) [44],
dA (wO (.store none 45 39)) [45,39] true [] [6],
dF (uO 46 (.nilchk 37)) [37],
dF (fA 47 3 none 46) [46],
dT (wO (.store none 47 41)) [47,41]] [0,5])
(.seq (dr [dF (mV 48 0) [0],
dF (uO 49 (.nilchk 48)) [48],
dF (fA 50 3 none 49) [49],
dF (lD 51 none 50) [50],
dF (fA 52 0 none 5) [5],
dF (lD 53 none 52) [52],
dF (fA 54 4 none 5) [5],
dF (lD 55 none 54) [54],
dT (wO (.mupd (none,[2]) 51 53 55)) [51,53,55]] [0,5])
(.seq (dr [dF (mV 56 0) [0],
dF (mV 57 0) [0],
dF (uO 58 (.nilchk 57)) [57],
dF (fA 59 5 none 58) [58],
dF (lD 60 none 59) [59],
dF (fA 61 0 none 5) [5],
dF (lD 62 none 61) [61],
dF (fA 63 2 none 5) [5],
dF (lD 64 none 63) [63],
dF (uO 65 (.build [.p (.str []),.p (.int .i64 0),.p (.int .i64 0)] [(0,1,62),(1,1,64),(2,1,(cI (-1)))])) [62,64],
dF (uO 66 (.bsl false (some 3) 1 (.agg [.str [],.int .i64 0,.int .i64 0]) [(0,65)])) [65],
dT (uO 67 (.app (some 3) 60 66)) [60,66],
dF (uO 68 (.nilchk 56)) [56],
dF (fA 69 5 none 68) [68],
dT (wO (.store none 69 67)) [69,67]] [])
(.seq (rg [mV 6 (cI 0)] [6])
.ret)))))))
def z8C:AFun:=⟨3,[.t 6],zk2,false,false⟩
def zk4:ACode:=.pr [0,3,5,38,45] (.cond 45 (.seq (rg [mV 48 0,
mV 49 5,
lD 50 (some 8) 3,
cL 51 z3B [48,49,50],
mV 4 51] [4])
.ret)
(.seq (rg [bN 53 .eql 38 (cI 5),
mV 52 53] [0,3,5,52])
(.cond 52 (.seq (.seq (rg [mV 54 5,
uO 55 (.nilchk 54),
fA 56 0 none 55,
lD 57 none 56,
bN 58 .neq 57 (cI 3)] [3,5,58])
(.cond 58 (.seq (rg [mV 4 (cI 11)] [4])
.ret)
.skip))
(.seq (dr [dF (mV 59 5) [5],
dF (mV 60 5) [5],
dF (fA 61 2 none 3) [3],
dF (lD 62 none 61) [61],
dF (uO 63 (.nilchk 59)) [59],
dF (fA 64 0 none 63) [63],
dA (wO (.store none 64 (cI 1))) [64] true [] [3],
dF (uO 65 (.nilchk 60)) [60],
dF (fA 66 1 none 65) [65],
dT (wO (.store none 66 62)) [66,62]] [])
(.seq (rg [mV 4 (cI 0)] [4])
.ret)))
.skip)))
def zk5:ACode:=.pr [3,5] (.seq (dr [dF (mV 89 5) [5],
dF (mV 90 5) [5],
dF (fA 91 2 none 3) [3],
dF (lD 92 none 91) [91],
dF (uO 93 (.nilchk 89)) [89],
dF (fA 94 0 none 93) [93],
dA (wO (.store none 94 (cI 5))) [94] true [] [3],
dF (uO 95 (.nilchk 90)) [90],
dF (fA 96 1 none 95) [95],
dT (wO (.store none 96 92)) [96,92]] [])
(.seq (rg [mV 4 (cI 0)] [4])
.ret))
def zk6:ACode:=.pr [0,3,5] (.seq (.seq (rg [mV 67 5,
uO 68 (.nilchk 67),
fA 69 0 none 68,
lD 70 none 69,
bN 71 .eql 70 (cI 4),
mV 72 71,
gD 73 72 false (.mv 5),
gD 74 72 false (.nilchk 73),
gD 75 72 false (.faddr 0 none 74),
gD 76 72 false (.load none 75),
gD 77 72 false (.bin .eql 76 (cI 5)),
uO 78 (.pick 72 cT 77)] [0,3,5,78])
(.cond 78 (.seq (rg [mV 4 (cI 11)] [4])
.ret)
.skip))
(.seq (.seq (rg [mV 79 5,
uO 80 (.nilchk 79),
fA 81 0 none 80,
lD 82 none 81,
bN 83 .eql 82 (cI 2)] [0,3,5,83])
(.cond 83 (rg [mV 84 0,
mV 85 5,
fA 86 2 none 3,
lD 87 none 86,
cL 88 IX [84,85,87]] [3,5])
.skip))
zk5))
def zk3:ACode:=(.seq (rg [uO 3 (.box 1),
mV 4 (cI 0)] [0,3])
(.seq (dr [dF (mV 6 0) [0],
dF (uO 7 (.nilchk 6)) [6],
dF (fA 8 2 none 7) [7],
dF (lD 9 none 8) [8],
dF (fA 10 4 none 3) [3],
dF (lD 11 none 10) [10],
dF (uO 12 (.look (none,[2]) false (.nilp) 9 11)) [9,11],
dF (mV 5 12) [12]] [0,3,5])
(.seq (.seq (rg [fA 13 3 none 3,
lD 14 none 13,
bN 15 .eql 14 (cI 1)] [0,3,5,15])
(.cond 15 (.seq (.seq (rg [mV 16 5,
uO 17 (.isnil 0 true 16)] [0,3,17])
(.cond 17 (.seq (rg [mV 4 (cI 6)] [4])
.ret)
.skip))
(.seq (dr [dF (mV 18 0) [0],
dF (uO 19 (.nilchk 18)) [18],
dF (fA 20 2 none 19) [19],
dF (lD 21 none 20) [20],
dF (fA 22 4 none 3) [3],
dF (lD 23 none 22) [22],
dF (fA 24 2 none 3) [3],
dF (lD 25 none 24) [24],
dF (mV 26 0) [0],
dF (uO 27 (.nilchk 26)) [26],
dF (fA 28 0 (some 2) 27) [27],
dF (fA 29 0 none 28) [28],
dF (lD 30 none 29) [29],
dF (iA 31 none 30 (cI 0)) [30],
dF (lD 32 none 31) [31],
dF (uO 33 (.build [.p (.int .i64 0),.p (.int .i64 0),.p (.str []),.p (.str []),.p (.int .i64 0)] [(0,1,(cI 1)),(1,1,25),(2,1,32)])) [25,32],
dA (uO 34 (.box 33)) [33] true [] [3,5],
dT (wO (.mupd (none,[2]) 21 23 34)) [21,23,34]] [])
(.seq (rg [mV 4 (cI 0)] [4])
.ret)))
.skip))
(.seq (.seq (rg [mV 35 5,
uO 36 (.isnil 0 false 35)] [0,3,5,36])
(.cond 36 (.seq (rg [mV 4 (cI 8)] [4])
.ret)
.skip))
(.seq (.seq (rg [fA 37 3 none 3,
lD 38 none 37] [0,3,5,38])
(.block 0 (.seq (rg [bN 40 .eql 38 (cI 2),
mV 39 40] [0,3,5,38,39])
(.cond 39 (.seq (rg [mV 41 0,
mV 42 5,
lD 43 (some 8) 3,
cL 44 z3C [41,42,43],
mV 4 44] [4])
.ret)
(.seq (.seq (rg [bN 46 .eql 38 (cI 3),
mV 45 46] [0,3,5,38,45])
(.cond 45 .skip
(rg [bN 47 .eql 38 (cI 4),
mV 45 47] [0,3,5,38,45])))
zk4)))))
zk6)))))
def z8D:AFun:=⟨2,[.t 4],zk3,false,false⟩
def zk8:ACode:=.pr [5,6,17,18,19] (rg [bN 59 .add 19 (cI 1),
mV 19 59] [5,6,17,18,19])
def zk9:ACode:=.pr [5,6,17,18,19] (.seq (rg [bN 20 .lss 19 18] [5,6,17,18,19,20])
(.seq (.cond 20 .skip
(.exit 0))
(.seq (.block 1 (.seq (rg [mV 21 19,
iA 22 (some 8) 17 19,
lD 23 (some 8) 22,
uO 8 (.alloc [.p (.str []),.p (.int .i64 0),.p (.int .i64 0),.p (.int .i64 0),.p (.str []),.p (.str []),.p (.str []),.p (.int .i64 0)]),
mV 7 21,
wO (.store (some 8) 8 23)] [5,6,7,8,17,18,19])
(.seq (.seq (rg [mV 24 6,
mV 25 7,
iA 26 none 24 25,
lD 27 none 26,
uO 28 (.un .not 27),
mV 29 28,
gD 30 29 false (.faddr 3 none 8),
gD 31 29 false (.load none 30),
gD 32 29 false (.bin .eql 31 (cI 7)),
uO 33 (.pick 29 cT 32)] [5,6,7,8,17,18,19,33])
(.cond 33 (.exit 1)
.skip))
(.seq (rg [mV 34 5,
lD 35 (some 8) 8,
cL 36 z3D [34,35],
mV 9 36] [5,6,7,9,17,18,19])
(.seq (rg [mV 37 9,
bN 38 .neq 37 (cI 0)] [5,6,7,9,17,18,19,38])
(.cond 38 (.seq (rg [mV 39 5,
mV 40 5,
uO 41 (.nilchk 40),
fA 42 6 none 41,
lD 43 none 42,
mV 44 7,
uO 45 (.bsl false none 1 (.int .i64 0) [(0,44)]),
uO 46 (.app none 43 45),
uO 47 (.nilchk 39),
fA 48 6 none 47,
wO (.store none 48 46)] [5,6,9,17,18,19])
(rg [mV 49 5,
mV 50 5,
uO 51 (.nilchk 50),
fA 52 7 none 51,
lD 53 none 52,
mV 54 9,
uO 55 (.bsl false none 1 (.int .i64 0) [(0,54)]),
uO 56 (.app none 53 55),
uO 57 (.nilchk 49),
fA 58 7 none 57,
wO (.store none 58 56)] [5,6,17,18,19]))
.skip))))))
zk8)))
def zkA:ACode:=.pr [5] (.seq (rg [mV 60 5,
mV 4 60] [4])
.ret)
def zk7:ACode:=(.seq (rg [uO 2 (.uns 12 0 [0]),
mV 4 (.c (.nilp))] [1,2])
(.seq (rg [lD 10 (some 2) 2,
uO 11 (.mkmap),
uO 12 (.mkmap),
uO 13 (.build [.sl0 none,.p (.int .i64 0),.nilm,.nilm,.sl0 (some 5),.sl0 (some 3),.sl0 none,.sl0 none] [(0,2,10),(2,1,11),(3,1,12)]),
uO 14 (.uns 12 0 [13]),
mV 5 14] [1,5])
(.seq (rg [mV 15 1,
cL 16 ZH [15],
mV 6 16] [1,5,6])
(.seq (.seq (rg [mV 17 1,
lN 18 17,
mV 19 (cI 0)] [5,6,17,18,19])
(.block 0 (.loop (.scope zk9))))
zkA))))
def z8E:AFun:=⟨2,[.t 4],zk7,false,false⟩
def zkB:ACode:=(.seq (rg [mV 4 (cS []),
mV 5 (cI 0)] [0,1])
(.seq (.seq (rg [mV 6 0,
cL 7 KX [6],
uO 8 (.un .not 7),
mV 9 8,
gD 10 9 false (.mv 1),
gD 11 9 false (.call KX [10]),
gD 12 9 false (.un .not 11),
uO 13 (.pick 9 cT 12)] [0,1,13])
(.cond 13 (.seq (rg [mV 4 (cS []),
mV 5 (cI 1)] [4,5])
.ret)
.skip))
(.seq (rg [mV 14 0,
mV 15 1,
cL 16 gI [14,15],
mV 4 16,
mV 5 (cI 0)] [4,5])
.ret)))
def z8F:AFun:=⟨2,[.t 4,.t 5],zkB,false,false⟩
def zkC:ACode:=(.seq (rg [mV 2 cF] [0])
(.seq (rg [mV 3 0,
cL 4 YB [3,(cI 0),(cI 15)],
uO 5 (.un .not 4),
mV 2 5] [2])
.ret))
def z8G:AFun:=⟨1,[.t 2],zkC,false,false⟩
def z7G:ACode:=(.seq (rg [mV 4 (cI 0)] [0,1])
(.seq (rg [uO 6 (.build [.p (.int .i64 0),.p (.int .i64 0)] [(0,1,(cI 1)),(1,1,(cI 0))]),
uO 7 (.build [.p (.int .i64 0),.p (.int .i64 0)] [(0,1,(cI 1)),(1,1,(cI 2))]),
uO 8 (.build [.p (.int .i64 0),.p (.int .i64 0)] [(0,1,(cI 3)),(1,1,(cI 9))]),
uO 9 (.build [.p (.int .i64 0),.p (.int .i64 0)] [(0,1,(cI 4)),(1,1,(cI 5))]),
uO 10 (.build [.p (.int .i64 0),.p (.int .i64 0)] [(0,1,(cI 4)),(1,1,(cI 5))]),
uO 11 (.build [.p (.int .i64 0),.p (.int .i64 0)] [(0,1,(cI 6)),(1,1,(cI 8))]),
uO 12 (.build [.p (.int .i64 0),.p (.int .i64 0)] [(0,1,(cI 6)),(1,1,(cI 7))]),
uO 13 (.build [.p (.int .i64 0),.p (.int .i64 0)] [(0,1,(cI 4)),(1,1,(cI 8))]),
uO 14 (.build [.p (.int .i64 0),.p (.int .i64 0)] [(0,1,(cI 1)),(1,1,(cI 2))]),
uO 15 (.build [.p (.int .i64 0),.p (.int .i64 0)] [(0,1,(cI 10)),(1,1,(cI 0))]),
uO 16 (.build [.p (.int .i64 0),.p (.int .i64 0)] [(0,1,(cI 11)),(1,1,(cI 12))]),
uO 17 (.build [.p (.int .i64 0),.p (.int .i64 0)] [(0,1,(cI 11)),(1,1,(cI 12))]),
uO 18 (.build [.p (.int .i64 0),.p (.int .i64 0)] [(0,1,(cI 13)),(1,1,(cI 15))]),
uO 19 (.build [.p (.int .i64 0),.p (.int .i64 0)] [(0,1,(cI 13)),(1,1,(cI 14))]),
uO 20 (.build [.p (.int .i64 0),.p (.int .i64 0)] [(0,1,(cI 11)),(1,1,(cI 15))]),
uO 21 (.build [.p (.int .i64 0),.p (.int .i64 0)] [(0,1,(cI 1)),(1,1,(cI 2))]),
uO 22 (.build [.p (.int .i64 0),.p (.int .i64 0),.p (.int .i64 0),.p (.int .i64 0),.p (.int .i64 0),.p (.int .i64 0),.p (.int .i64 0),.p (.int .i64 0),.p (.int .i64 0),.p (.int .i64 0),.p (.int .i64 0),.p (.int .i64 0),.p (.int .i64 0),.p (.int .i64 0),.p (.int .i64 0),.p (.int .i64 0),.p (.int .i64 0),.p (.int .i64 0),.p (.int .i64 0),.p (.int .i64 0),.p (.int .i64 0),.p (.int .i64 0),.p (.int .i64 0),.p (.int .i64 0),.p (.int .i64 0),.p (.int .i64 0),.p (.int .i64 0),.p (.int .i64 0),.p (.int .i64 0),.p (.int .i64 0),.p (.int .i64 0),.p (.int .i64 0)] [(0,2,6),(2,2,7),(4,2,8),(6,2,9),(8,2,10),(10,2,11),(12,2,12),(14,2,13),(16,2,14),(18,2,15),(20,2,16),(22,2,17),(24,2,18),(26,2,19),(28,2,20),(30,2,21)]),
uO 5 (.alloc [.p (.int .i64 0),.p (.int .i64 0),.p (.int .i64 0),.p (.int .i64 0),.p (.int .i64 0),.p (.int .i64 0),.p (.int .i64 0),.p (.int .i64 0),.p (.int .i64 0),.p (.int .i64 0),.p (.int .i64 0),.p (.int .i64 0),.p (.int .i64 0),.p (.int .i64 0),.p (.int .i64 0),.p (.int .i64 0),.p (.int .i64 0),.p (.int .i64 0),.p (.int .i64 0),.p (.int .i64 0),.p (.int .i64 0),.p (.int .i64 0),.p (.int .i64 0),.p (.int .i64 0),.p (.int .i64 0),.p (.int .i64 0),.p (.int .i64 0),.p (.int .i64 0),.p (.int .i64 0),.p (.int .i64 0),.p (.int .i64 0),.p (.int .i64 0)]),
wO (.store (some 32) 5 22)] [0,1,5])
(.seq (rg [mV 23 0,
mV 24 1,
uO 25 (.iaddra 16 (some 2) 5 23),
uO 26 (.iaddra 2 none 25 24),
lD 27 none 26,
mV 4 27] [4])
.ret)))
def bL:AFun:=⟨2,[.t 4],z7G,false,false⟩
def cX (C:Hd)(gl:GL)(v0 v1:AV)(h:aA)(x:Esc)(K:KT):Prop:=
 pK (cC [.p (.int .i64 0),.p (.int .i64 0)] [(0,1,(AI 1)),(1,1,(AI 0))]) fun t1=>
 pK (cC [.p (.int .i64 0),.p (.int .i64 0)] [(0,1,(AI 1)),(1,1,(AI 2))]) fun t2=>
 pK (cC [.p (.int .i64 0),.p (.int .i64 0)] [(0,1,(AI 3)),(1,1,(AI 9))]) fun t3=>
 pK (cC [.p (.int .i64 0),.p (.int .i64 0)] [(0,1,(AI 4)),(1,1,(AI 5))]) fun t4=>
 pK (cC [.p (.int .i64 0),.p (.int .i64 0)] [(0,1,(AI 4)),(1,1,(AI 5))]) fun t5=>
 pK (cC [.p (.int .i64 0),.p (.int .i64 0)] [(0,1,(AI 6)),(1,1,(AI 8))]) fun t6=>
 pK (cC [.p (.int .i64 0),.p (.int .i64 0)] [(0,1,(AI 6)),(1,1,(AI 7))]) fun t7=>
 pK (cC [.p (.int .i64 0),.p (.int .i64 0)] [(0,1,(AI 4)),(1,1,(AI 8))]) fun t8=>
 pK (cC [.p (.int .i64 0),.p (.int .i64 0)] [(0,1,(AI 1)),(1,1,(AI 2))]) fun t9=>
 pK (cC [.p (.int .i64 0),.p (.int .i64 0)] [(0,1,(AI 10)),(1,1,(AI 0))]) fun t10=>
 pK (cC [.p (.int .i64 0),.p (.int .i64 0)] [(0,1,(AI 11)),(1,1,(AI 12))]) fun t11=>
 pK (cC [.p (.int .i64 0),.p (.int .i64 0)] [(0,1,(AI 11)),(1,1,(AI 12))]) fun t12=>
 pK (cC [.p (.int .i64 0),.p (.int .i64 0)] [(0,1,(AI 13)),(1,1,(AI 15))]) fun t13=>
 pK (cC [.p (.int .i64 0),.p (.int .i64 0)] [(0,1,(AI 13)),(1,1,(AI 14))]) fun t14=>
 pK (cC [.p (.int .i64 0),.p (.int .i64 0)] [(0,1,(AI 11)),(1,1,(AI 15))]) fun t15=>
 pK (cC [.p (.int .i64 0),.p (.int .i64 0)] [(0,1,(AI 1)),(1,1,(AI 2))]) fun t16=>
 pK (cC [.p (.int .i64 0),.p (.int .i64 0),.p (.int .i64 0),.p (.int .i64 0),.p (.int .i64 0),.p (.int .i64 0),.p (.int .i64 0),.p (.int .i64 0),.p (.int .i64 0),.p (.int .i64 0),.p (.int .i64 0),.p (.int .i64 0),.p (.int .i64 0),.p (.int .i64 0),.p (.int .i64 0),.p (.int .i64 0),.p (.int .i64 0),.p (.int .i64 0),.p (.int .i64 0),.p (.int .i64 0),.p (.int .i64 0),.p (.int .i64 0),.p (.int .i64 0),.p (.int .i64 0),.p (.int .i64 0),.p (.int .i64 0),.p (.int .i64 0),.p (.int .i64 0),.p (.int .i64 0),.p (.int .i64 0),.p (.int .i64 0),.p (.int .i64 0)] [(0,2,t1),(2,2,t2),(4,2,t3),(6,2,t4),(8,2,t5),(10,2,t6),(12,2,t7),(14,2,t8),(16,2,t9),(18,2,t10),(20,2,t11),(22,2,t12),(24,2,t13),(26,2,t14),(28,2,t15),(30,2,t16)]) fun t17=>
 alK [.p (.int .i64 0),.p (.int .i64 0),.p (.int .i64 0),.p (.int .i64 0),.p (.int .i64 0),.p (.int .i64 0),.p (.int .i64 0),.p (.int .i64 0),.p (.int .i64 0),.p (.int .i64 0),.p (.int .i64 0),.p (.int .i64 0),.p (.int .i64 0),.p (.int .i64 0),.p (.int .i64 0),.p (.int .i64 0),.p (.int .i64 0),.p (.int .i64 0),.p (.int .i64 0),.p (.int .i64 0),.p (.int .i64 0),.p (.int .i64 0),.p (.int .i64 0),.p (.int .i64 0),.p (.int .i64 0),.p (.int .i64 0),.p (.int .i64 0),.p (.int .i64 0),.p (.int .i64 0),.p (.int .i64 0),.p (.int .i64 0),.p (.int .i64 0)] h fun t18 h19 y20=>
 wK (FB (some 32) t18 t17 h19) fun t21 h22 y23=>
 pK (qI 16 (some 2) t18 v0) fun t24=>
 pK (qI 2 none t24 v1) fun t25=>
 pK (SA none t25 h22) fun t26=>
 K .ret ⟨[(4,t26)],h22,(y23++(y20++x))⟩
theorem zeQ {C gl v0 v1 h x K}:NW C gl bL.body ⟨enter [v0,v1],h,x⟩ K=cX C gl v0 v1 h x K:=by kernel_rfl
def ZZ:ACode:=.pr [1,5,6,7,25] (rg [bN 53 .add 25 (cI 1),
mV 25 53] [1,5,6,7,25])
def z2j (C:Hd)(gl:GL)(v1 v5 v6 v7 v25:AV)(h:aA)(x:Esc)(K:KT):Prop:=
 pK (IA .add v25 (AI 1)) fun t1=>
 K .normal ⟨[(1,v1),(5,v5),(6,v6),(7,v7),(25,t1)],h,x⟩
theorem zeS {C gl e h x K}:NW C gl ZZ ⟨e,h,x⟩ K=z2j C gl (gA e 1) (gA e 5) (gA e 6) (gA e 7) (gA e 25) h x K:=by kernel_rfl
def z1g (q1:ACode):ACode:=.pr [1,5,6,7,25] (.seq (rg [bN 26 .lss 25 (cI 2)] [1,5,6,7,25,26])
(.seq (.cond 26 .skip
(.exit 2))
(.seq (.block 3 (.seq (rg [mV 27 25,
mV 8 27] [1,5,6,7,8,25])
(.seq (rg [mV 28 7,
mV 29 8,
cL 30 fI [28,29],
mV 9 30] [1,5,6,7,8,9,25])
(.seq (rg [mV 32 5,
mV 33 9,
uO 34 (.look (none,[0]) true (.p (.str [])) 32 33),
mV 31 34,
eX 35 31 0,
eX 36 31 1,
mV 10 35,
mV 11 36] [1,5,6,7,8,9,11,25])
(.seq (rg [mV 37 11,
uO 38 (.un .not 37)] [1,5,6,7,8,9,25,38])
(.cond 38 (.seq (rg [mV 39 5,
mV 40 9,
mV 41 5,
mV 42 7,
uO 43 (.look (none,[0]) false (.p (.str [])) 41 42),
mV 44 8,
bN 45 .add (cI 48) 44,
uO 46 (.conv (.i .i32) 45),
uO 47 (.conv .r2s 46),
bN 48 .add 43 47,
wO (.mupd (none,[0]) 39 40 48)] [1,5,6,7,9,25])
(rg [mV 49 6,
mV 50 9,
uO 51 (.bsl false none 1 (.int .i64 0) [(0,50)]),
uO 52 (.mnext (some none) [49,51]),
mV 6 52] [1,5,6,7,25]))
.skip))))))
q1)))
def rN:ACode:=z1g ZZ
def dX (C:Hd)(gl:GL)(q1:ACode)(v1 v5 v6 v7 v25:AV)(h:aA)(x:Esc)(K:KT):Prop:=
 pK (IA .lss v25 (AI 2)) fun t1=>
 DB t1 (C fI [v7,v25] h fun t2 h3 y4=>
 pK (vB (none,[0]) true (.p (.str [])) v5 t2 h3) fun t5=>
 pK (pI t5 0) fun t6=>
 pK (pI t5 1) fun t7=>
 pK (oUn .not t7) fun t8=>
 DB t8 (pK (vB (none,[0]) false (.p (.str [])) v5 v7 h3) fun t9=>
 pK (IA .add (AI 48) v25) fun t10=>
 pK (OJ .i32 t10) fun t11=>
 wK (TD .r2s t11 h3) fun t12 h13 y14=>
 pK (IA .add t9 t12) fun t15=>
 wK (EB (none,[0]) v5 t2 t15 h13) fun t16 h17 y18=>
 wK (nC false none 1 (.int .i64 0) [(0,t2)] h17) fun t19 h20 y21=>
 nqK (some none) [v6,t19] h20 fun t22 h23 y24=>
 NW C gl q1 ⟨[(1,v1),(5,v5),(6,t22),(7,v7),(25,v25)],h23,(y24++(y21++(y18++(y14++(y4++x)))))⟩ K)
 (NW C gl q1 ⟨[(1,v1),(5,v5),(6,v6),(7,v7),(8,v25),(9,t2),(25,v25),(38,t8)],h3,(y4++x)⟩ K))
 (K (.exit 2) ⟨[(1,v1),(5,v5),(6,v6),(7,v7),(25,v25),(26,t1)],h,x⟩)
theorem z78 {C gl q1 e h x K}:NW C gl (z1g q1) ⟨e,h,x⟩ K=dX C gl q1 (gA e 1) (gA e 5) (gA e 6) (gA e 7) (gA e 25) h x K:=by kernel_rfl
theorem zeT {C gl e h x K}:NW C gl rN ⟨e,h,x⟩ K=dX C gl ZZ (gA e 1) (gA e 5) (gA e 6) (gA e 7) (gA e 25) h x K:=z78
theorem zhf {C gl e h x K}:NW C gl (.loop rN) ⟨e,h,x⟩ K=GA C gl rN K [(1,gA e 1),(5,gA e 5),(6,gA e 6),(7,gA e 7),(25,gA e 25)] h x:=nB
def z1h (q2:ACode):ACode:=.pr [1,5,6] (.seq (.seq (rg [mV 17 6,
lN 18 17,
bN 19 .gtr 18 (cI 0)] [1,5,6,19])
(.cond 19 .skip
(.exit 0)))
(.block 1 (.seq (rg [mV 20 6,
iA 21 none 20 (cI 0),
lD 22 none 21,
mV 7 22] [1,5,6,7])
(.seq (rg [mV 23 6,
uO 24 (.slice none 23 (some (cI 1)) none none),
mV 6 24] [1,5,6,7])
(.seq (rg [mV 25 (cI 0)] [1,5,6,7,25])
(.block 2 (.loop q2)))))))
def sN:ACode:=z1h rN
def fX (C:Hd)(gl:GL)(q2:ACode)(v1 v5 v6:AV)(h:aA)(x:Esc)(K:KT):Prop:=
 pK (VG v6) fun t1=>
 pK (IA .gtr t1 (AI 0)) fun t2=>
 DB t2 (pK (JE none v6 (AI 0) h) fun t3=>
 pK (SA none t3 h) fun t4=>
 pK (rI none v6 (some (AI 1)) none none h) fun t5=>
 NW C gl (.loop q2) ⟨[(1,v1),(5,v5),(6,t5),(7,t4),(25,(AI 0))],h,x⟩ (AC 2 (AC 1 K)))
 (K (.exit 0) ⟨[(1,v1),(5,v5),(6,v6),(19,t2)],h,x⟩)
theorem z79 {C gl q2 e h x K}:NW C gl (z1h q2) ⟨e,h,x⟩ K=fX C gl q2 (gA e 1) (gA e 5) (gA e 6) h x K:=by kernel_rfl
theorem zeU {C gl e h x K}:NW C gl sN ⟨e,h,x⟩ K=fX C gl rN (gA e 1) (gA e 5) (gA e 6) h x K:=z79
theorem zhg {C gl e h x K}:NW C gl (.loop sN) ⟨e,h,x⟩ K=GA C gl sN K [(1,gA e 1),(5,gA e 5),(6,gA e 6)] h x:=nB
def z0a:ACode:=.pr [1,5] (.seq (rg [mV 54 5,
mV 55 1,
uO 56 (.look (none,[0]) false (.p (.str [])) 54 55),
mV 4 56] [4])
.ret)
def z2k (C:Hd)(gl:GL)(v1 v5:AV)(h:aA)(x:Esc)(K:KT):Prop:=
 pK (vB (none,[0]) false (.p (.str [])) v5 v1 h) fun t1=>
 K .ret ⟨[(4,t1)],h,x⟩
theorem zeV {C gl e h x K}:NW C gl z0a ⟨e,h,x⟩ K=z2k C gl (gA e 1) (gA e 5) h x K:=by kernel_rfl
def z1f (q3 q4:ACode):ACode:=(.det (.seq (rg [mV 4 (cS [])] [0,1])
(.seq (rg [uO 12 (.mkmap),
mV 13 0,
wO (.mupd (none,[0]) 12 13 (cS [])),
mV 14 12,
mV 5 14] [0,1,5])
(.seq (rg [mV 15 0,
uO 16 (.bsl true none 1 (.int .i64 0) [(0,15)]),
mV 6 16] [1,5,6])
(.seq (.block 0 (.loop q3))
q4)))))
def mO:AFun:=⟨2,[.t 4],z1f sN z0a,false,false⟩
def JP (C:Hd)(gl:GL)(q3 q4:ACode)(v0 v1:AV)(h:aA)(x:Esc)(K:KT):Prop:=
 mmK h fun t1 h2 y3=>
 wK (EB (none,[0]) t1 v0 (.p (.str [])) h2) fun t4 h5 y6=>
 wK (nC true none 1 (.int .i64 0) [(0,v0)] h5) fun t7 h8 y9=>
 NW C gl (.loop q3) ⟨[(1,v1),(5,t1),(6,t7)],h8,(y9++(y6++(y3++x)))⟩ (AC 0 (rD C gl q4 K))
theorem z77 {C gl q3 q4 v0 v1 h x K}:NW C gl (z1f q3 q4) ⟨enter [v0,v1],h,x⟩ K=JP C gl q3 q4 v0 v1 h x K:=by kernel_rfl
theorem zeR {C gl v0 v1 h x K}:NW C gl mO.body ⟨enter [v0,v1],h,x⟩ K=JP C gl sN z0a v0 v1 h x K:=z77
def zkE:ACode:=.pr [0,10,11,12] (.seq (rg [bN 13 .lss 12 11] [0,10,11,12,13])
(.seq (.cond 13 .skip
(.exit 0))
(.seq (.block 1 (.seq (rg [iA 14 (some 6) 10 12,
lD 15 (some 6) 14,
uO 4 (.alloc [.p (.int .i64 0),.p (.int .i64 0),.p (.int .i64 0),.p (.str []),.p (.str []),.p (.str [])]),
wO (.store (some 6) 4 15)] [0,4,10,11,12])
(.seq (.seq (rg [fA 16 0 none 4,
lD 17 none 16,
cL 18 YB [17,(cI 1),(cI 10)]] [0,4,10,11,12,18])
(.cond 18 (.seq (rg [mV 2 (cI 4)] [2])
.ret)
.skip))
(.seq (rg [lD 20 (some 6) 4,
cL 21 z3J [20],
mV 19 21,
eX 22 19 0,
eX 23 19 1,
uO 5 (.alloc [.p (.int .i64 0),.p (.int .i64 0),.p (.int .i64 0),.p (.str []),.p (.str []),.p (.str [])]),
wO (.store (some 6) 5 22),
mV 6 23] [0,4,5,6,10,11,12])
(.block 2 (.seq (rg [mV 25 6,
bN 26 .neq 25 (cI 0),
mV 24 26] [0,4,5,6,10,11,12,24])
(.cond 24 (.seq (rg [mV 27 6,
mV 2 27] [2])
.ret)
(.seq (rg [lD 29 (some 6) 5,
fA 30 0 none 4,
lD 31 none 30,
uO 32 (.build [.p (.int .i64 0),.p (.int .i64 0),.p (.int .i64 0),.p (.str []),.p (.str []),.p (.str [])] [(0,1,31)]),
uO 33 (.eqa [0,0,0,2,2,2] true 29 32),
mV 28 33] [0,10,11,12,28])
(.cond 28 (.seq (rg [mV 2 (cI 3)] [2])
.ret)
.skip)))))))))
(rg [bN 34 .add 12 (cI 1),
mV 12 34] [0,10,11,12]))))
def zkF:ACode:=.pr [0] (.seq (.seq (rg [mV 35 0,
cL 36 MX [35,(.c (.nilp))],
uO 37 (.nilchk 36),
fA 38 37 none 37,
lD 39 none 38,
bN 40 .gtr 39 (cI 20000)] [40])
(.cond 40 (.seq (rg [mV 2 (cI 2)] [2])
.ret)
.skip))
(.seq (rg [mV 2 (cI 0)] [2])
.ret))
def zkD:ACode:=(.seq (rg [mV 2 (cI 0)] [0])
(.seq (.seq (rg [mV 7 0,
lN 8 7,
bN 9 .gtr 8 (cI 1000)] [0,9])
(.cond 9 (.seq (rg [mV 2 (cI 2)] [2])
.ret)
.skip))
(.seq (.seq (rg [mV 10 0,
lN 11 10,
mV 12 (cI 0)] [0,10,11,12])
(.block 0 (.loop (.scope zkE))))
zkF)))
def z8H:AFun:=⟨1,[.t 2],zkD,false,false⟩
def zkG:ACode:=(.seq (rg [mV 2 (cI 0),
mV 3 (cI 0)] [0])
(.seq (.seq (rg [mV 5 0,
cL 6 z3G [5],
mV 4 6] [0,4])
(.seq (rg [mV 7 4,
bN 8 .neq 7 (cI 0)] [0,4,8])
(.cond 8 (.seq (rg [mV 9 4,
mV 2 (cI 0),
mV 3 9] [2,3])
.ret)
.skip)))
(.seq (rg [mV 10 0,
cL 11 MX [10,(.c (.nilp))],
uO 12 (.nilchk 11),
fA 13 37 none 12,
lD 14 none 13,
mV 2 14,
mV 3 (cI 0)] [2,3])
.ret)))
def z8I:AFun:=⟨1,[.t 2,.t 3],zkG,false,false⟩
def zkH:ACode:=(.seq (rg [mV 2 cF] [0])
(.seq (rg [mV 3 0,
bN 4 .eql 3 (cI 7),
mV 5 4,
gD 6 5 false (.mv 0),
gD 7 5 false (.bin .eql 6 (cI 8)),
uO 8 (.pick 5 cT 7),
mV 2 8] [2])
.ret))
def z8J:AFun:=⟨1,[.t 2],zkH,false,false⟩
def zkI:ACode:=(.seq (rg [mV 2 cF] [0])
(.seq (rg [mV 3 0,
cL 4 YB [3,(cI 1),(cI 6)],
uO 5 (.un .not 4),
mV 2 5] [2])
.ret))
def z8K:AFun:=⟨1,[.t 2],zkI,false,false⟩
def zkK:ACode:=.pr [2,4] (.seq (rg [lD 56 (some 6) 4,
wO (.store (some 6) 2 56),
mV 3 (cI 0)] [2,3])
.ret)
def zkJ:ACode:=(.seq (rg [uO 1 (.box 0),
uO 2 (.alloc [.p (.int .i64 0),.p (.int .i64 0),.p (.int .i64 0),.p (.str []),.p (.str []),.p (.str [])]),
mV 3 (cI 0)] [1,2])
(.seq (rg [lD 5 (some 6) 1,
uO 4 (.alloc [.p (.int .i64 0),.p (.int .i64 0),.p (.int .i64 0),.p (.str []),.p (.str []),.p (.str [])]),
wO (.store (some 6) 4 5)] [1,2,4])
(.seq (.block 0 (.seq (rg [fA 18 0 none 1,
lD 19 none 18,
bN 20 .eql 19 (cI 1),
mV 21 20,
gD 22 21 false (.faddr 0 none 1),
gD 23 21 false (.load none 22),
gD 24 21 false (.bin .eql 23 (cI 2)),
uO 25 (.pick 21 cT 24),
mV 26 25,
gD 27 26 false (.faddr 0 none 1),
gD 28 26 false (.load none 27),
gD 29 26 false (.bin .eql 28 (cI 10)),
uO 30 (.pick 26 cT 29),
mV 17 30] [1,2,4,17])
(.cond 17 (.seq (rg [fA 31 1 none 4,
wO (.store none 31 (cI 0))] [1,2,4])
(.seq (rg [fA 32 1 none 1,
lD 33 none 32,
cL 34 z3O [33],
uO 35 (.un .not 34)] [2,4,35])
(.cond 35 (.seq (rg [lD 36 (some 6) 4,
wO (.store (some 6) 2 36),
mV 3 (cI 1)] [2,3])
.ret)
.skip)))
(.seq (rg [fA 38 0 none 1,
lD 39 none 38,
bN 40 .eql 39 (cI 9),
mV 37 40] [1,2,4,37])
(.cond 37 (.seq (rg [fA 41 2 none 4,
wO (.store none 41 (cI 0))] [1,2,4])
(.seq (rg [fA 42 2 none 1,
lD 43 none 42,
cL 44 YB [43,(cI 0),(cI 20000)]] [2,4,44])
(.cond 44 (.seq (rg [lD 45 (some 6) 4,
wO (.store (some 6) 2 45),
mV 3 (cI 1)] [2,3])
.ret)
.skip)))
(.seq (rg [fA 47 0 none 1,
lD 48 none 47,
cL 49 LX [48],
mV 46 49] [1,2,4,46])
(.cond 46 (.seq (rg [fA 50 3 none 4,
wO (.store none 50 (cS [])),
fA 51 4 none 4,
wO (.store none 51 (cS [])),
fA 52 5 none 4,
wO (.store none 52 (cS []))] [1,2,4])
(.seq (dr [dF (lD 53 (some 6) 4) [4],
dF (lD 54 (some 6) 1) [1],
dA (cL 55 z3M [54]) [54] true [] [0],
dT (wO (.store (some 6) 2 53)) [2,53],
dF (mV 3 55) [55]] [2,3])
.ret))
(.seq (rg [fA 6 3 none 4,
wO (.store none 6 (cS []))] [1,2,4])
(.seq (.seq (rg [fA 7 3 none 1,
lD 8 none 7,
cL 9 PH [8],
uO 10 (.un .not 9)] [1,2,4,10])
(.cond 10 (.seq (rg [lD 11 (some 6) 4,
wO (.store (some 6) 2 11),
mV 3 (cI 9)] [2,3])
.ret)
.skip))
(.seq (rg [fA 12 3 none 1,
lD 13 none 12,
uO 14 (.lens 13),
bN 15 .gtr 14 (cI 2000)] [2,4,15])
(.cond 15 (.seq (rg [lD 16 (some 6) 4,
wO (.store (some 6) 2 16),
mV 3 (cI 2)] [2,3])
.ret)
.skip)))))))))))
zkK)))
def z8L:AFun:=⟨1,[.cell 2 (some 6),.t 3],zkJ,false,false⟩
def zkM:ACode:=.pr [5,13,14,15] (.seq (rg [bN 16 .lss 15 14] [5,13,14,15,16])
(.seq (.cond 16 .skip
(.exit 0))
(.seq (.block 1 (.seq (rg [iA 17 (some 6) 13 15,
lD 18 (some 6) 17,
uO 7 (.alloc [.p (.int .i64 0),.p (.int .i64 0),.p (.int .i64 0),.p (.str []),.p (.str []),.p (.str [])]),
wO (.store (some 6) 7 18)] [5,7,13,14,15])
(.seq (.seq (rg [mV 19 5,
uO 20 (.nilchk 19),
fA 21 37 none 20,
lD 22 none 21,
bN 23 .gtr 22 (cI 20000)] [5,7,13,14,15,23])
(.cond 23 (.exit 0)
.skip))
(rg [mV 24 5,
lD 25 (some 6) 7,
cL 26 z3L [24,25]] [5,13,14,15]))))
(rg [bN 27 .add 15 (cI 1),
mV 15 27] [5,13,14,15]))))
def zkN:ACode:=.pr [5] (.seq (rg [mV 28 5,
mV 4 28] [4])
.ret)
def zkL:ACode:=(.seq (rg [mV 4 (.c (.nilp))] [0,1])
(.seq (rg [cL 8 z3P [],
mV 9 1,
uO 10 (.isnil 0 true 9),
uO 11 (.build [.p (.int .i64 0),.p (.int .i64 0),.p (.int .i64 0),.p (.str []),.p (.str []),.p (.str []),.p (.int .i64 0),.p (.int .i64 0),.p (.int .i64 0),.p (.str []),.p (.str []),.p (.str []),.p (.int .i64 0),.p (.int .i64 0),.p (.int .i64 0),.p (.str []),.p (.str []),.p (.str []),.p (.int .i64 0),.p (.int .i64 0),.p (.int .i64 0),.p (.str []),.p (.str []),.p (.str []),.p (.int .i64 0),.p (.int .i64 0),.p (.int .i64 0),.p (.str []),.p (.str []),.p (.str []),.p (.int .i64 0),.p (.int .i64 0),.p (.int .i64 0),.p (.str []),.p (.str []),.p (.str []),.p (.int .i64 0),.p (.int .i64 0),.p (.int .i64 0),.p (.int .i64 0),.sl0 none,.sl0 none,.sl0 none,.sl0 none,.sl0 none,.p (.bool false)] [(0,36,8),(36,1,(cI 0)),(45,1,10)]),
uO 12 (.uns 12 0 [11]),
mV 5 12] [0,5])
(.seq (.seq (rg [mV 13 0,
lN 14 13,
mV 15 (cI 0)] [5,13,14,15])
(.block 0 (.loop (.scope zkM))))
zkN)))
def z8M:AFun:=⟨2,[.t 4],zkL,false,false⟩
def zkO:ACode:=(.seq (rg [mV 8 0,
uO 9 (.nilchk 8),
fA 10 37 none 9,
lD 11 none 10,
bN 12 .add 11 (cI 1),
uO 13 (.nilchk 8),
fA 14 37 none 13,
wO (.store none 14 12)] [0,1,2,3])
(.seq (rg [mV 15 0,
uO 16 (.nilchk 15),
fA 17 45 none 16,
lD 18 none 17] [0,1,2,3,18])
(.cond 18 (dr [dF (mV 19 0) [0],
dF (mV 20 0) [0],
dF (mV 21 0) [0],
dF (mV 22 0) [0],
dF (uO 23 (.nilchk 22)) [22],
dF (fA 24 42 none 23) [23],
dF (lD 25 none 24) [24],
dF (mV 26 1) [1],
dF (uO 27 (.bsl false none 1 (.int .u8 0) [(0,26)])) [26],
dT (uO 28 (.app none 25 27)) [25,27],
dF (mV 29 0) [0],
dF (uO 30 (.nilchk 29)) [29],
dF (fA 31 43 none 30) [30],
dA (lD 32 none 31) [31] false [9] [],
dF (mV 33 2) [2],
dA (uO 34 (.bsl false none 1 (.int .u8 0) [(0,33)])) [33] false [9] [],
dT (uO 35 (.app none 32 34)) [32,34],
dF (mV 36 0) [0],
dF (uO 37 (.nilchk 36)) [36],
dF (fA 38 44 none 37) [37],
dA (lD 39 none 38) [38] false [9,16] [],
dF (mV 40 3) [3],
dA (uO 41 (.bsl false none 1 (.int .u8 0) [(0,40)])) [40] false [9,16] [],
dT (uO 42 (.app none 39 41)) [39,41],
dF (uO 43 (.nilchk 19)) [19],
dF (fA 44 42 none 43) [43],
dT (wO (.store none 44 28)) [44,28],
dF (uO 45 (.nilchk 20)) [20],
dF (fA 46 43 none 45) [45],
dT (wO (.store none 46 35)) [46,35],
dF (uO 47 (.nilchk 21)) [21],
dF (fA 48 44 none 47) [47],
dT (wO (.store none 48 42)) [48,42]] [])
.skip)))
def z8N:AFun:=⟨4,[],zkO,false,false⟩
def zkQ:ACode:=.pr [0,3,5,7,9,10,11,12,13,14,93,94] (rg [mV 126 0,
mV 127 13,
mV 128 10,
mV 129 12,
uO 130 (.idxs 128 129),
mV 131 14,
cL 132 gQ [126,127,130,131]] [0,3,5,7,9,10,11,93,94])
def zkR:ACode:=.pr [0,3,5,7,9,10,11,12,13,14,93,94] (.seq (.seq (rg [mV 102 12,
mV 103 5,
uO 104 (.lens 103),
bN 105 .sub 102 104,
mV 15 105] [0,3,5,7,9,10,11,12,13,14,15,93,94])
(.seq (rg [mV 106 15,
bN 107 .geq 106 (cI 0),
mV 108 107,
gD 109 108 true (.mv 15),
gD 110 108 true (.faddr 5 none 3),
gD 111 108 true (.load none 110),
gD 112 108 true (.lens 111),
gD 113 108 true (.bin .lss 109 112),
uO 114 (.pick 108 113 cF),
mV 115 114,
gD 116 115 true (.faddr 5 none 3),
gD 117 115 true (.load none 116),
gD 118 115 true (.mv 15),
gD 119 115 true (.idxs 117 118),
gD 120 115 true (.bin .eql 119 (.c (.p (.int .u8 49)))),
uO 121 (.pick 115 120 cF)] [0,3,5,7,9,10,11,12,13,14,15,93,94,121])
(.cond 121 (rg [fA 122 4 none 3,
lD 123 none 122,
mV 124 15,
uO 125 (.idxs 123 124),
mV 14 125] [0,3,5,7,9,10,11,12,13,14,93,94])
.skip)))
zkQ)
def zkS:ACode:=.pr [0,3,5,7,9,10,11,93,94] (rg [bN 133 .add 94 (cI 1),
mV 94 133] [0,3,5,7,9,10,11,93,94])
def zkT:ACode:=.pr [0,3,5,7,9,10,11,93,94] (.seq (rg [bN 95 .lss 94 93] [0,3,5,7,9,10,11,93,94,95])
(.seq (.cond 95 .skip
(.exit 0))
(.seq (.block 1 (.seq (rg [mV 96 94,
mV 12 96] [0,3,5,7,9,10,11,12,93,94])
(.seq (rg [mV 13 (.c (.p (.int .u8 48))),
mV 14 (.c (.p (.int .u8 120)))] [0,3,5,7,9,10,11,12,13,14,93,94])
(.seq (.seq (rg [mV 97 12,
mV 98 10,
uO 99 (.lens 98),
bN 100 .sub 99 (cI 1),
bN 101 .eql 97 100] [0,3,5,7,9,10,11,12,13,14,93,94,101])
(.cond 101 (rg [mV 13 (.c (.p (.int .u8 49)))] [0,3,5,7,9,10,11,12,13,14,93,94])
.skip))
zkR))))
zkS)))
def zkU:ACode:=.pr [0,7,9,11] (.seq (rg [mV 134 0,
mV 135 9,
uO 136 (.nilchk 134),
fA 137 36 none 136,
wO (.store none 137 135)] [0,7,11])
(.seq (rg [mV 138 0,
mV 139 7,
cL 140 DM [138,139]] [11])
(.seq (rg [mV 141 11,
mV 4 141] [4])
.ret)))
def zkV:ACode:=.pr [0,3,5,7,9,10] (.seq (rg [mV 85 0,
uO 86 (.nilchk 85),
fA 87 37 none 86,
lD 88 none 87,
mV 89 5,
uO 90 (.lens 89),
bN 91 .add 88 90,
mV 11 91] [0,3,5,7,9,10,11])
(.seq (.seq (rg [mV 92 10,
uO 93 (.lens 92),
mV 94 (cI 0)] [0,3,5,7,9,10,11,93,94])
(.block 0 (.loop zkT)))
zkU))
def zkW:ACode:=.pr [0,3,5,6,7,8,9] (.seq (rg [mV 55 0,
mV 56 8,
cL 57 DM [55,56]] [0,3,5,6,7,9])
(.seq (rg [mV 58 5,
fA 59 3 none 3,
lD 60 none 59,
bN 61 .add 58 60,
mV 62 6,
bN 63 .add 61 62,
mV 10 63] [0,3,5,7,9,10])
(.seq (.seq (rg [fA 64 0 none 3,
lD 65 none 64,
bN 66 .eql 65 (cI 7)] [0,3,5,7,9,10,66])
(.cond 66 (rg [mV 67 0,
uO 68 (.nilchk 67),
fA 69 38 none 68,
lD 70 none 69,
mV 71 10,
uO 72 (.lens 71),
bN 73 .add 70 72,
uO 74 (.nilchk 67),
fA 75 38 none 74,
wO (.store none 75 73)] [0,3,5,7,9,10])
(rg [mV 76 0,
uO 77 (.nilchk 76),
fA 78 39 none 77,
lD 79 none 78,
mV 80 10,
uO 81 (.lens 80),
bN 82 .add 79 81,
uO 83 (.nilchk 76),
fA 84 39 none 83,
wO (.store none 84 82)] [0,3,5,7,9,10])))
zkV)))
def zkP:ACode:=(.seq (rg [uO 3 (.box 1),
mV 4 (cI 0)] [0,3])
(.seq (dr [dF (mV 16 0) [0],
dF (uO 17 (.nilchk 16)) [16],
dF (fA 18 0 (some 36) 17) [17],
dF (fA 19 24 (some 6) 18) [18],
dF (fA 20 3 none 19) [19],
dF (lD 21 none 20) [20],
dF (mV 22 0) [0],
dF (uO 23 (.nilchk 22)) [22],
dF (fA 24 0 (some 36) 23) [23],
dF (fA 25 30 (some 6) 24) [24],
dF (fA 26 3 none 25) [25],
dF (lD 27 none 26) [26],
dF (mV 28 0) [0],
dF (uO 29 (.nilchk 28)) [28],
dF (fA 30 0 (some 36) 29) [29],
dF (fA 31 6 (some 6) 30) [30],
dF (fA 32 1 none 31) [31],
dF (lD 33 none 32) [32],
dF (mV 5 21) [21],
dF (mV 6 27) [27],
dF (mV 7 33) [33],
dF (mV 8 (cI 4)) [],
dF (mV 9 (cI 5)) []] [0,3,5,6,7,8,9])
(.seq (.seq (rg [fA 34 0 none 3,
lD 35 none 34,
bN 36 .eql 35 (cI 7)] [0,3,5,6,7,8,9,36])
(.cond 36 (dr [dF (mV 37 0) [0],
dF (uO 38 (.nilchk 37)) [37],
dF (fA 39 0 (some 36) 38) [38],
dF (fA 40 12 (some 6) 39) [39],
dF (fA 41 3 none 40) [40],
dF (lD 42 none 41) [41],
dF (mV 43 0) [0],
dF (uO 44 (.nilchk 43)) [43],
dF (fA 45 0 (some 36) 44) [44],
dF (fA 46 18 (some 6) 45) [45],
dF (fA 47 3 none 46) [46],
dF (lD 48 none 47) [47],
dF (mV 49 0) [0],
dF (uO 50 (.nilchk 49)) [49],
dF (fA 51 0 (some 36) 50) [50],
dF (fA 52 0 (some 6) 51) [51],
dF (fA 53 1 none 52) [52],
dF (lD 54 none 53) [53],
dF (mV 5 42) [42],
dF (mV 6 48) [48],
dF (mV 7 54) [54],
dF (mV 8 (cI 11)) [],
dF (mV 9 (cI 12)) []] [0,3,5,6,7,8,9])
.skip))
zkW)))
def z8O:AFun:=⟨2,[.t 4],zkP,false,false⟩
def zkY:ACode:=.pr [0,4,35,36] (.seq (rg [bN 37 .lss 36 35] [0,4,35,36,37])
(.seq (.cond 37 .skip
(.exit 1))
(.seq (.block 2 (rg [mV 38 0,
cL 39 gQ [38,(.c (.p (.int .u8 48))),(.c (.p (.int .u8 48))),(.c (.p (.int .u8 120)))]] [0,4,35,36]))
(rg [bN 40 .add 36 (cI 1),
mV 36 40] [0,4,35,36]))))
def zkZ:ACode:=.pr [0,4] (.seq (dr [dF (mV 41 0) [0],
dF (mV 42 0) [0],
dF (uO 43 (.nilchk 42)) [42],
dF (fA 44 40 none 43) [43],
dF (lD 45 none 44) [44],
dF (mV 46 0) [0],
dF (uO 47 (.nilchk 46)) [46],
dF (fA 48 36 none 47) [47],
dF (lD 49 none 48) [48],
dF (uO 50 (.bsl false none 1 (.int .i64 0) [(0,49)])) [49],
dT (uO 51 (.app none 45 50)) [45,50],
dF (uO 52 (.nilchk 41)) [41],
dF (fA 53 40 none 52) [52],
dT (wO (.store none 53 51)) [53,51]] [0,4])
(rg [mV 54 0,
mV 55 0,
uO 56 (.nilchk 55),
fA 57 41 none 56,
lD 58 none 57,
mV 59 4,
uO 60 (.bsl false none 1 (.int .i64 0) [(0,59)]),
uO 61 (.app none 58 60),
uO 62 (.nilchk 54),
fA 63 41 none 62,
wO (.store none 63 61)] []))
def zkX:ACode:=(.seq (rg [uO 3 (.box 1)] [0,3])
(.seq (rg [mV 4 (cI 0)] [0,3,4])
(.seq (.block 0 (.seq (rg [fA 10 0 none 3,
lD 11 none 10,
cL 12 z3I [11],
mV 9 12] [0,3,4,9])
(.cond 9 (dr [dF (mV 13 0) [0],
dF (uO 14 (.nilchk 13)) [13],
dF (fA 15 0 (some 36) 14) [14],
dF (fA 16 0 none 3) [3],
dF (lD 17 none 16) [16],
dT (cL 18 z3N [15,17]) [15,17],
dA (lD 19 (some 6) 3) [3] false [5] [],
dF (uO 20 (.nilchk 18)) [18],
dT (wO (.store (some 6) 20 19)) [20,19]] [0,4])
(.seq (rg [fA 22 0 none 3,
lD 23 none 22,
cL 24 LX [23],
mV 21 24] [0,3,4,21])
(.cond 21 (rg [mV 25 0,
lD 26 (some 6) 3,
cL 27 z3K [25,26],
mV 4 27] [0,4])
(.seq (rg [fA 29 0 none 3,
lD 30 none 29,
bN 31 .eql 30 (cI 9),
mV 28 31] [0,3,4,28])
(.cond 28 (.seq (rg [mV 32 0,
cL 33 DM [32,(cI 1)]] [0,3,4])
(.seq (rg [fA 34 2 none 3,
lD 35 none 34,
mV 36 (cI 0)] [0,4,35,36])
(.block 1 (.loop zkY))))
(rg [mV 5 0,
fA 6 1 none 3,
lD 7 none 6,
cL 8 DM [5,7]] [0,4]))))))))
zkZ)))
def z8P:AFun:=⟨2,[],zkX,false,false⟩
def zlb:ACode:=.pr [0,1,4,17,18] (.seq (rg [bN 19 .lss 18 17] [0,1,4,17,18,19])
(.seq (.cond 19 .skip
(.exit 0))
(.seq (.block 1 (.seq (rg [mV 20 18,
mV 6 20] [0,1,4,6,17,18])
(rg [mV 21 0,
mV 22 4,
mV 23 6,
uO 24 (.idxs 22 23),
cL 25 gQ [21,24,(.c (.p (.int .u8 48))),(.c (.p (.int .u8 120)))]] [0,1,4,17,18])))
(rg [bN 26 .add 18 (cI 1),
mV 18 26] [0,1,4,17,18]))))
def zlc:ACode:=.pr [0,1] (rg [mV 27 0,
mV 28 1,
uO 29 (.nilchk 27),
fA 30 36 none 29,
wO (.store none 30 28)] [])
def zla:ACode:=(.seq (rg [mV 8 0,
uO 9 (.nilchk 8),
fA 10 36 none 9,
lD 11 none 10,
mV 12 1,
cL 13 z3F [11,12],
mV 7 13,
eX 14 7 0,
eX 15 7 1,
mV 4 14,
mV 5 15] [0,1,4])
(.seq (.seq (rg [mV 16 4,
uO 17 (.lens 16),
mV 18 (cI 0)] [0,1,4,17,18])
(.block 0 (.loop zlb)))
zlc))
def z8Q:AFun:=⟨2,[],zla,false,false⟩
def zld:ACode:=(.seq (rg [uO 1 (.box 0),
mV 2 (cI 0)] [1])
(.seq (.block 0 (.seq (rg [fA 4 3 none 1,
lD 5 none 4,
bN 6 .eql 5 (cS []),
mV 3 6] [1,3])
(.cond 3 (.seq (rg [mV 2 (cI 8)] [2])
.ret)
(.seq (rg [fA 8 3 none 1,
lD 9 none 8,
cL 10 PH [9],
uO 11 (.un .not 10),
mV 7 11] [1,7])
(.cond 7 (.seq (rg [mV 2 (cI 9)] [2])
.ret)
(.seq (rg [fA 13 3 none 1,
lD 14 none 13,
uO 15 (.lens 14),
bN 16 .gtr 15 (cI 2000),
mV 12 16] [1,12])
(.cond 12 (.seq (rg [mV 2 (cI 2)] [2])
.ret)
(.seq (rg [fA 18 4 none 1,
lD 19 none 18,
bN 20 .neq 19 (cS []),
mV 21 20,
gD 22 21 true (.faddr 4 none 1),
gD 23 21 true (.load none 22),
gD 24 21 true (.lens 23),
gD 25 21 true (.faddr 3 none 1),
gD 26 21 true (.load none 25),
gD 27 21 true (.lens 26),
gD 28 21 true (.bin .neq 24 27),
gD 29 21 true (.mv 28),
gD 30 29 false (.faddr 5 none 1),
gD 31 29 false (.load none 30),
gD 32 29 false (.lens 31),
gD 33 29 false (.faddr 3 none 1),
gD 34 29 false (.load none 33),
gD 35 29 false (.lens 34),
gD 36 29 false (.bin .neq 32 35),
gD 37 21 true (.pick 29 cT 36),
uO 38 (.pick 21 37 cF),
mV 17 38] [1,17])
(.cond 17 (.seq (rg [mV 2 (cI 3)] [2])
.ret)
(.seq (rg [fA 40 4 none 1,
lD 41 none 40,
cL 42 PH [41],
uO 43 (.un .not 42),
mV 44 43,
gD 45 44 false (.faddr 5 none 1),
gD 46 44 false (.load none 45),
gD 47 44 false (.call PH [46]),
gD 48 44 false (.un .not 47),
uO 49 (.pick 44 cT 48),
mV 39 49] [1,39])
(.cond 39 (.seq (rg [mV 2 (cI 9)] [2])
.ret)
(.seq (rg [fA 51 4 none 1,
lD 52 none 51,
bN 53 .eql 52 (cS []),
mV 54 53,
gD 55 54 true (.faddr 5 none 1),
gD 56 54 true (.load none 55),
gD 57 54 true (.bin .neq 56 (cS [])),
uO 58 (.pick 54 57 cF),
mV 50 58] [50])
(.cond 50 (.seq (rg [mV 2 (cI 3)] [2])
.ret)
.skip)))))))))))))
(.seq (rg [mV 2 (cI 0)] [2])
.ret)))
def z8R:AFun:=⟨1,[.t 2],zld,false,false⟩
def zle:ACode:=(.seq (rg [mV 4 (.c (.nilp))] [0,1])
(.seq (.seq (rg [mV 5 1] [0,5])
(.block 0 (.seq (rg [bN 7 .eql 5 (cI 1),
mV 6 7] [0,5,6])
(.cond 6 (.seq (rg [mV 8 0,
uO 9 (.nilchk 8),
fA 10 0 (some 6) 9,
mV 4 10] [4])
.ret)
(.seq (rg [bN 12 .eql 5 (cI 2),
mV 11 12] [0,5,11])
(.cond 11 (.seq (rg [mV 13 0,
uO 14 (.nilchk 13),
fA 15 6 (some 6) 14,
mV 4 15] [4])
.ret)
(.seq (rg [bN 17 .eql 5 (cI 3),
mV 16 17] [0,5,16])
(.cond 16 (.seq (rg [mV 18 0,
uO 19 (.nilchk 18),
fA 20 12 (some 6) 19,
mV 4 20] [4])
.ret)
(.seq (rg [bN 22 .eql 5 (cI 4),
mV 21 22] [0,5,21])
(.cond 21 (.seq (rg [mV 23 0,
uO 24 (.nilchk 23),
fA 25 18 (some 6) 24,
mV 4 25] [4])
.ret)
(.seq (rg [bN 27 .eql 5 (cI 5),
mV 26 27] [0,26])
(.cond 26 (.seq (rg [mV 28 0,
uO 29 (.nilchk 28),
fA 30 24 (some 6) 29,
mV 4 30] [4])
.ret)
.skip))))))))))))
(.seq (rg [mV 31 0,
uO 32 (.nilchk 31),
fA 33 30 (some 6) 32,
mV 4 33] [4])
.ret)))
def z8S:AFun:=⟨2,[.t 4],zle,false,false⟩
def zlf:ACode:=(.seq (rg [mV 2 cF] [0])
(.seq (rg [mV 3 0,
bN 4 .eql 3 (cI 0),
mV 5 4,
gD 6 5 false (.mv 0),
gD 7 5 false (.bin .eql 6 (cI 1)),
uO 8 (.pick 5 cT 7),
mV 9 8,
gD 10 9 false (.mv 0),
gD 11 9 false (.bin .eql 10 (cI 6)),
uO 12 (.pick 9 cT 11),
mV 13 12,
gD 14 13 false (.mv 0),
gD 15 13 false (.bin .eql 14 (cI 13)),
uO 16 (.pick 13 cT 15),
mV 2 16] [2])
.ret))
def z8T:AFun:=⟨1,[.t 2],zlf,false,false⟩
end Go.Am
end
section
/- The functions asv abstract code,and asv formulas UD their values: printed by program out of the translation. -/
set_option linter.all false
set_option maxRecDepth 100000
namespace Go.Am
def zlg:ACode:=(.seq (rg [uO 0 (.alloc [.p (.int .i64 0),.p (.int .i64 0),.p (.int .i64 0),.p (.str []),.p (.str []),.p (.str []),.p (.int .i64 0),.p (.int .i64 0),.p (.int .i64 0),.p (.str []),.p (.str []),.p (.str []),.p (.int .i64 0),.p (.int .i64 0),.p (.int .i64 0),.p (.str []),.p (.str []),.p (.str []),.p (.int .i64 0),.p (.int .i64 0),.p (.int .i64 0),.p (.str []),.p (.str []),.p (.str []),.p (.int .i64 0),.p (.int .i64 0),.p (.int .i64 0),.p (.str []),.p (.str []),.p (.str []),.p (.int .i64 0),.p (.int .i64 0),.p (.int .i64 0),.p (.str []),.p (.str []),.p (.str [])])] [0])
(.seq (rg [uO 1 (.build [.p (.int .i64 0),.p (.int .i64 0),.p (.int .i64 0),.p (.str []),.p (.str []),.p (.str [])] [(0,1,(cI 1)),(1,1,(cI 1))]),
uO 2 (.build [.p (.int .i64 0),.p (.int .i64 0),.p (.int .i64 0),.p (.str []),.p (.str []),.p (.str [])] [(0,1,(cI 2)),(1,1,(cI 1))]),
uO 3 (.build [.p (.int .i64 0),.p (.int .i64 0),.p (.int .i64 0),.p (.str []),.p (.str []),.p (.str [])] [(0,1,(cI 3))]),
uO 4 (.build [.p (.int .i64 0),.p (.int .i64 0),.p (.int .i64 0),.p (.str []),.p (.str []),.p (.str [])] [(0,1,(cI 4))]),
uO 5 (.build [.p (.int .i64 0),.p (.int .i64 0),.p (.int .i64 0),.p (.str []),.p (.str []),.p (.str [])] [(0,1,(cI 5))]),
uO 6 (.build [.p (.int .i64 0),.p (.int .i64 0),.p (.int .i64 0),.p (.str []),.p (.str []),.p (.str [])] [(0,1,(cI 6))]),
uO 7 (.build [.p (.int .i64 0),.p (.int .i64 0),.p (.int .i64 0),.p (.str []),.p (.str []),.p (.str []),.p (.int .i64 0),.p (.int .i64 0),.p (.int .i64 0),.p (.str []),.p (.str []),.p (.str []),.p (.int .i64 0),.p (.int .i64 0),.p (.int .i64 0),.p (.str []),.p (.str []),.p (.str []),.p (.int .i64 0),.p (.int .i64 0),.p (.int .i64 0),.p (.str []),.p (.str []),.p (.str []),.p (.int .i64 0),.p (.int .i64 0),.p (.int .i64 0),.p (.str []),.p (.str []),.p (.str []),.p (.int .i64 0),.p (.int .i64 0),.p (.int .i64 0),.p (.str []),.p (.str []),.p (.str [])] [(0,6,1),(6,6,2),(12,6,3),(18,6,4),(24,6,5),(30,6,6)]),
wO (.store (some 36) 0 7)] [0])
.ret))
def z8U:AFun:=⟨0,[.cell 0 (some 36)],zlg,false,false⟩
end Go.Am
end
section
/- The abstract machine,part L: functions of the library that are met by the kit's contracts: plain values in,plain values out,new memory at most. -/
set_option linter.unusedSimpArgs false
set_option linter.unusedVariables false
namespace Go.Am
variable {P:Program} {gl:Nat→Option PV}
structure PureRow (P:Program) (gl:Nat→Option PV) (f:Nat) (spec:List PV→Option AV):Prop where
 enter:∀us w,(callFunc f us).run P w = .ok (.enter f us) w
 run:∀(M:Mem) (w:World) (vs:List PV) (r:AV) (us:List Value),(∀b o v,M.c b o=some v→w.cell? ⟨b,o,none⟩=some v)→(∀b o,M.b b=some o→w.heap[b]?=some o)→uD gl M→vs.length=us.length →
  (∀(j:Nat) (y:PV) (v:Value),vs[j]?=some y→us[j]?=some v→RPV M y v)→spec vs=some r →
  Calls P f us.toArray w fun e w'=>∃x,e = .returned x∧WExt w w'∧RAV (sG M w w') [] [] r x
abbrev SE:=List (Nat × (List PV→Option AV))
def dH:SE→Nat→List AV→aA→Option (AV×aA×Esc)
 | [],_,_,_=>none
 | (g,s)::r,f,asv,h=>bif Nat.beq f g then((unp asv).bind s).map fun v=>(v,h,[]) else dH r f asv h
theorem z0j:∀ (gs:SE),(∀g s,(g,s)∈gs→PureRow P gl g s)→∀{f:Nat} {asv:List AV} {h:aA} {v:AV} {h':aA} {x:Esc},dH gs f asv h=some (v,h',x) →
 rC P gl f asv h fun v1 h1 x1=>v1=v∧h1=h'∧x1=x
 | [],_,f,asv,h,v,h',x,H=>by cases H
 | (g,s)::r,hg,f,asv,h,v,h',x,H=>by
  unfold dH at H;cases e1:Nat.beq f g with
  | false=>
   rw[e1]at H;exact z0j r (fun g sh hm=>hg g sh (by simp [hm])) H
  | true=>
   rw[e1]at H;have e:=Nat.eq_of_beq_eq_true e1
   subst e;have R:=hg f s (by simp)
   simp only[cond_true]at H;obtain⟨y,hy,e2⟩:=Option.map_eq_some_iff.1 H;simp only[Prod.mk.injEq]at e2;obtain⟨rfl,rfl,rfl⟩:=e2;obtain⟨ps,hps,hs⟩:=Option.bind_eq_some_iff.1 hy;have hm:=UK hps
   subst hm;intro μ w vs Hh Hg hl hr;refine .inl ⟨R.enter _,?_⟩;refine(R.run (imm h μ w) w ps y vs (fun b o v hv=>(DD.1 hv).2) (fun b o hv=>(RG.1 hv).2) Hg (by simpa using hl) (fun j q v hq hv=>(hr j (.p q) v (by simp [hq]) hv).p_inv) hs).mono fun e w' he=>?_
   obtain⟨u,rfl,g1,g2⟩:=he;obtain⟨n1,n2⟩:=Hh.ext g1;have Lq:(sG (imm h μ w) w w').le (imm h μ w'):=by
    refine⟨fun b o v hv=>?_,fun b o hv=>?_,rfl,fun _ _ h=>by cases h⟩
    ·dsimp only[sG]at hv
     split at hv
     ·exact n2.le.c _ _ _ hv
     ·rename_i hb
      exact DD.2 ⟨fun hO=>hb (rY Hh hO),hv⟩
    ·dsimp only[sG]at hv
     cases hv
   exact⟨_,_,_,μ,⟨rfl,rfl,rfl⟩,g2.evo ⟨Lq,Nat.zero_le _,fun id o m h1=>by simp at h1⟩,n1,n2,tA.refl h []⟩
def mE (gs:List (Nat × Sh))(ps:SE)(f:Nat)(asv:List AV)(h:aA):Option (AV×aA×Esc):=match PG gs f asv h with
 | some y=>some y
 | none=>match dH ps f asv h with
  | some y=>some y
  | none=>match mA h asv with
   | some (asv',h1)=>dH ps f asv' h1
   | none=>none
theorem zlo {ps:SE}(hp:∀ g s,(g,s)∈ps→PureRow P gl g s){f:Nat}{asv asv':List AV}{h h1:aA}{v:AV}{h':aA}{x:Esc}(hq:mA h asv=some (asv',h1))(H:dH ps f asv' h1=some (v,h',x)) :
 rC P gl f asv h fun v1 h2 x1=>v1=v∧h2=h'∧x1=x:=by
 intro μ w vs Hh Hg hl hr;obtain⟨q1,q2,q3⟩:=kS asv Hh hl hr hq;rcases z0j ps hp H μ w vs q1.1 (Hg.mono q1.2.1.le) q2 q3 with⟨k1,k2⟩|⟨r,w',v2,h2,x2,μ',k1,k2,k3,k4,k5,k6⟩
 ·refine .inl ⟨k1,k2.mono fun e w' he=>?_⟩
  cases e with
  | returned r=>
   obtain⟨v2,h2,x2,μ',k2,k3,k4,k5,k6⟩:=he;exact⟨v2,h2,x2,μ',k2,k3,k4,q1.2.1.trans k5,by simpa using q1.2.2.trans k6⟩
  | panicked _=>exact he
  | outgrown=>exact he
 ·exact .inr ⟨r,w',v2,h2,x2,μ',k1,k2,k3,k4,q1.2.1.trans k5,by simpa using q1.2.2.trans k6⟩
theorem libF_ok {gs:List (Nat × Sh)}{ps:SE}(hg:∀ g sh,(g,sh)∈gs→GrowRow P g sh)(hp:∀ g s,(g,s)∈ps→PureRow P gl g s){f:Nat}{asv:List AV}{h:aA}{v:AV}{h':aA}{x:Esc}(H:mE gs ps f asv h=some (v,h',x)) :
 rC P gl f asv h fun v1 h1 x1=>v1=v∧h1=h'∧x1=x:=by
 unfold mE at H;split at H
 ·rename_i y hy
  cases H;exact z48 gs hg hy
 ·split at H
  ·rename_i y hy
   cases H;exact z0j ps hp hy
  ·split at H
   ·rename_i asv' h1 hq
    exact zlo hp hq H
   ·cases H
theorem SM {X:Ctx}{f:Nat}{asv:List AV}{h h':aA}{v:AV}{x:Esc}{K:kA}(hf:X.fn f=none)(hx:X.ex2 f asv h=some (v,h',x)):bA X f asv h K=K v h' x:=by
 refine propext (bA.eq (bA.fold ?_) K);unfold WB;simp only[hf,hx];exact⟨trivial,trivial,trivial⟩
def jI:List (Nat × Sh)→Nat→Option Sh
 | [],_=>none
 | (g,s)::r,f=>bif Nat.beq f g then some s else jI r f
theorem z45:∀ {gs:List (Nat × Sh)}{f:Nat}{sh s':Sh}{n:Int}{h:aA},jI gs f=some sh→0≤n→n≤1048576→PG gs f [.sl0 s',.p (.int .i64 n)] h=some (.own h.length 0 0 0,h++[.row sh [] 0],[])
 | [],f,sh,s',n,h,hm,_,_=>by cases hm
 | (g,s)::r,f,sh,s',n,h,hm,h0,h1=>by
  unfold jI at hm;unfold PG;cases hq:Nat.beq f g with
  | true=>rw[hq]at hm;cases hm;simp [h0,h1]
  | false=>rw[hq]at hm;exact z45 hm h0 h1
theorem z47:∀ {gs:List (Nat × Sh)}{f:Nat}{asv:List AV}{h:aA},jI gs f=none→PG gs f asv h=none
 | [],f,asv,h,_=>rfl
 | (g,s)::r,f,asv,h,hm=>by
  unfold jI at hm;unfold PG;cases hq:Nat.beq f g with
  | true=>rw[hq]at hm;cases hm
  | false=>rw[hq]at hm;exact z47 hm
def lS:SE→Nat→Option (List PV→Option AV)
 | [],_=>none
 | (g,s)::r,f=>bif Nat.beq f g then some s else lS r f
theorem z5F:∀ {gs:SE}{f:Nat}{s:List PV→Option AV}{asv:List AV}{h:aA},lS gs f=some s→dH gs f asv h=((unp asv).bind s).map fun v=>(v,h,[])
 | [],f,s,asv,h,hm=>by cases hm
 | (g,s')::r,f,s,asv,h,hm=>by
  unfold lS at hm;unfold dH;cases hq:Nat.beq f g with
  | true=>rw[hq]at hm;cases hm;rfl
  | false=>rw[hq]at hm;exact z5F hm
theorem zhr {gs:List (Nat × Sh)}{ps:SE}{f:Nat}{sh s':Sh}{n:Int}{h:aA}(hm:jI gs f=some sh)(h0:0≤n)(h1:n≤1048576):mE gs ps f [.sl0 s',.p (.int .i64 n)] h=some (.own h.length 0 0 0,h++[.row sh [] 0],[]):=by
 unfold mE;rw[z45 hm h0 h1]
theorem wQ {gs:List (Nat × Sh)}{ps:SE}{f:Nat}{s:List PV→Option AV}{asv:List AV}{vs:List PV}{v:AV}{h:aA}(hg:jI gs f=none)(hm:lS ps f=some s)(hu:unp asv=some vs)(hv:s vs=some v):mE gs ps f asv h=some (v,h,[]):=by
 unfold mE;rw[z47 hg,z5F hm,hu];simp [hv]
def HM:List (Nat × PV)→Nat→Option PV
 | [],_=>none
 | (g,v)::r,n=>bif Nat.beq n g then some v else HM r n
theorem zpq {f:Nat}(h:(match P.funcs[f]? with | some fn=>fn.body.isSome&&fn.name != "runtime.NumGoroutine" | none=>false)=true)(us:Array Value)(w:World):(callFunc f us).run P w = .ok (.enter f us) w:=by
 cases hf:P.funcs[f]? with
 | none=>rw[hf]at h;cases h
 | some fn=>
  rw[hf]at h;simp only[Bool.and_eq_true,bne_iff_ne,ne_eq]at h;cases hb:fn.body with
  | none=>rw[hb]at h;cases h.1
  | some c=>exact UP hf hb h.2 us w
def NH (n:Nat):UInt8:=UInt8.ofNat (48+n)
def xB (n:Nat):List UInt8:=if n<10 then [NH n] else xB (n / 10)++[NH (n%10)]
termination_by n
decreasing_by omega
def itoa (n:Int):List UInt8:=if n<0 then 45::xB n.natAbs else xB n.natAbs
theorem dJ {n:Nat}(h:n<10):xB n=[NH n]:=by rw[xB,if_pos h]
theorem LP {n:Nat}(h:10≤n):xB n=xB (n / 10)++[NH (n%10)]:=by rw[xB,if_neg (by omega)]
def GJ:List PV→Option AV
 | [.int .i64 n]=>bif decide (-9223372036854775808≤n)&&decide (n≤9223372036854775807) then some (.p (.str (itoa n))) else none
 | _=>none
def iS:PV:=.agg ((List.range 20).map fun i=>.int .u64 ((10^i:Nat):Int))
def tC:Nat→List UInt8→Option Nat
 | acc,[]=>some acc
 | acc,c::r=>if 48≤c.toNat∧c.toNat≤57 then tC (acc*10+(c.toNat-48)) r else none
def uH:List PV→Option AV
 | [.str s]=>if 1≤s.length∧s.length≤18 then match tC 0 s with
  | some n=>some (.tup [.p (.int .i64 (n:Int)),.nili])
  | none=>if s.head?=some 45∧2≤s.length then(tC 0 s.tail).map fun(n:Nat)=>.tup [.p (.int .i64 (-(n:Int))),.nili] else none
  else none
 | _=>none
theorem z2p:∀ (a:List UInt8)(acc:Nat)(c:UInt8),tC acc (a++[c])=(tC acc a).bind fun n=>if 48≤c.toNat∧c.toNat≤57 then some (n*10+(c.toNat-48)) else none
 | [],acc,c=>by
  simp only[List.nil_append,tC,Option.bind_some]
 | d::a,acc,c=>by
  simp only[List.cons_append,tC];split
  ·exact z2p a _ c
  ·rfl
theorem NP {n:Nat}(h:n<10):(NH n).toNat=48+n:=by
 simp only[NH,UInt8.toNat_ofNat'];omega
theorem zbH:∀ (n:Nat),tC 0 (xB n)=some n:=by
 intro n;induction n using Nat.strongRecOn with
 | _ n ih=>
  rcases Nat.lt_or_ge n 10 with h|h
  ·rw[dJ h]
   simp only[tC,NP h];rw[if_pos (by omega)]
   congr 1
   omega
  ·rw[LP h,z2p,ih (n / 10) (by omega)]
   have h2:=NP (show n%10<10 by omega)
   simp only[Option.bind_some,h2];rw[if_pos (by omega)]
   congr 1
   omega
theorem IL:∀ (k n:Nat),n<10^(k+1)→1≤(xB n).length∧(xB n).length≤k+1
 | 0,n,h=>by rw[dJ (by simpa using h)];simp
 | k+1,n,h=>by
  rcases Nat.lt_or_ge n 10 with h1|h1
  ·rw[dJ h1];simp
  ·have:=IL k (n / 10) (by rw[Nat.div_lt_iff_lt_mul (by omega)];rw[Nat.pow_succ]at h;exact h)
   rw[LP h1];simp;omega
def z6Q (s cs:List UInt8):List UInt8:=(s.reverse.dropWhile (cs.contains ·)).reverse.dropWhile (cs.contains ·)
def trimS:List PV→Option AV
 | [.str s,.str cs]=>if s.length≤1000000∧cs.length≤1000∧cs.all (fun b=>decide (b.toNat<128))=true then some (.p (.str (z6Q s cs))) else none
 | _=>none
def TI:List PV→Option AV
 | [.str s,.str [c]]=>some (.p (.int .i64 (s.count c)))
 | _=>none
end Go.Am
end
section
/- The abstract machine,part C: XB calls that say true,asv contracts. -/
set_option linter.all false
namespace Go.Am
variable {P:Program} {gl:Nat→Option PV}
def z0C:List PV→Option AV
 | []=>some (AB true)
 | _=>none
theorem RPV.mono' {M M':Mem}(hM:∀ b o v,M.c b o=some v→M'.c b o=some v){v:PV}{x:Value}(H:RPV M v x):RPV M' v x:=by
 induction H with
 | int k n=>exact .int k n
 | bool b=>exact .bool b
 | str s=>exact .str s
 | nilp=>exact .nilp
 | unk k n=>exact .unk k n
 | nils sh a cap=>exact .nils sh a cap
 | sl sh xs b o cap f hne hc he hm hr ih=>exact .sl sh xs b o cap f hne hc he (fun j y hy=>hM _ _ _ (hm j y hy)) ih
 | agg cs vs hl hr ih=>exact .agg cs vs hl ih
theorem uD.mono' {M M':Mem}(hc:∀ b o v,M.c b o=some v→M'.c b o=some v)(hb:∀ b o,M.b b=some o→M'.b b=some o)(H:uD gl M):uD gl M':=fun n v hv=>by
 obtain⟨h1,cs,t,x,h2,h3⟩:=H n v hv;refine⟨?_,cs,t,x,hb _ _ h2,h3⟩;cases h1 with|vp _ _ _ f hm hr=>exact .vp v n 0 f (fun j y hy=>hc _ _ _ (hm j y hy)) (fun j y hy=>(hr j y hy).mono' hc)
theorem zps {X:Ctx}(HX:Fits P X){f:Nat}(H:bA X f [] [] fun v h x=>v=AB true∧h=[]∧x=[])(he:∀ us w,(callFunc f us).run P w = .ok (.enter f us) w):PureRow P X.gl f z0C:=by
 refine⟨he,fun M w vs r us hc hb hG hl hr hs=>?_⟩
 cases vs with
 | cons a l=>cases hs
 | nil=>
  have hu:us=[]:=List.length_eq_zero_iff.1 (by simpa using hl.symm)
  subst hu;simp only[z0C,Option.some.injEq]at hs;subst hs;have hno:∀b o,¬NF ([]:aA) ([]:Mu) b o:=fun b o ⟨id,n,h1,_⟩=>by simp at h1
  have hnt:∀b,¬KI ([]:Mu) b:=fun b ⟨id,n,h1⟩=>by simp at h1
  have hG':uD X.gl (imm [] [] w):=hG.mono' (fun b o v h=>DD.2 ⟨hno b o,hc b o v h⟩) (fun b o h=>RG.2 ⟨hnt b,hb b o h⟩)
  have hR:HeapRel [] [] w:=⟨rfl,fun id o m h1=>by simp at h1,fun i j b n n' h1=>by simp at h1,fun i b n h1=>by simp at h1⟩
  rcases z1G HX H [] w [] hR hG' rfl (fun j y v h1=>by simp at h1) with⟨_,q⟩|⟨r,w',v,h',x,μ',q,_⟩
  ·refine q.mono fun e w' h=>?_
   cases e with
   | panicked _=>exact h.elim
   | outgrown=>exact h.elim
   | returned r=>
    obtain⟨v,h',x,μ',⟨rfl,rfl,rfl⟩,h1,h2,h3,h4⟩:=h;have hm:μ'=[]:=List.length_eq_zero_iff.1 (by simpa using h2.len)
    subst hm;have hbl:∀b o,w.heap[b]?=some o→w'.heap[b]?=some o:=fun b o h=>(RG.1 (h3.le.b b o (RG.2 ⟨hnt b,h⟩))).2
    refine⟨r,rfl,⟨?_,fun b hb=>?_,?_⟩,?_⟩
    ·rcases Nat.lt_or_ge w'.heap.size w.heap.size with q|q
     ·have:=hbl w'.heap.size _ (Array.getElem?_eq_getElem q)
      simp at this
     ·exact q
    ·rw[hbl b _ (Array.getElem?_eq_getElem hb),Array.getElem?_eq_getElem hb]
    ·have:=h3.le.z
     simpa [imm] using this
    ·have:=h1.p_bool
     rw[this];exact .p _ _ (.bool true)
  ·rw[he]at q
   cases q
end Go.Am
end
section
/- The functions together. -/
set_option linter.all false
set_option maxRecDepth 100000
namespace Go.Am
def fns:List (Nat × AFun):=[(bQ,iT),(dM,rT),(CE,qT),(bM,jT),(rJ,QT),(qM,TT),(pM,RT),(UH,ZN),(WH,HT),(NG,cO),(cM,lT),(eM,uT),(gE,nT),(JG,RN),(FE,ZK),(kM,FT),(MG,JT),(OG,dO),(jM,ET),(cG,aL),(wJ,aU),(sM,VT),(vJ,YT),(vM,ZT),(SL,SS),(sJ,ST),(tM,WT),(aI,iO),(ZH,eO),(bI,jO),(YE,pT),(uC,tT),(aG,mT),(iE,oT),(bG,xT),(fM,wT),(lM,GT),(mJ,vT),(iM,CT),(VH,kT),(tJ,fO),(qJ,NT),(SH,WN),(RH,VN),(aF,lO),(wM,bU),(uJ,XT),(TL,TS),(xJ,fU),(LG,aO),(UL,VS),(rM,UT),(jJ,US),(QH,TN),(RD,SN),(pJ,DT),(DE,yT),(jE,AT),(nJ,zT),(nM,IT),(YB,UN),(EE,LT),(ZE,PT),(TH,XN),(kJ,YN),(yM,cU),(CM,jU),(XH,bO),(BM,gU),(oJ,BT),(oM,MT),(WL,ZS),(dQ,iU),(zM,dU),(aM,gT),(AM,eU),(YH,OT),(YL,bT),(eQ,kU),(ZL,eT),(XL,aT),(KG,fT),(fQ,lU),(YP,WS),(ZP,XS),(aQ,YS)]
def GRL:List (Nat × Sh):=[(cQ,(some 8))]
def PRL:SE:=[(uM,uH),(dI,GJ),(xM,TI),(JX,trimS),(lJ,z0C)]
def GLL:List (Nat × PV):=[(1,iS)]
def GM:List (Nat × AFun)→Nat→Option AFun
 | [],_=>none
 | (k,F)::r,n=>bif Nat.beq k n then some F else GM r n
def X:Ctx:=⟨GM fns,HM GLL,OH YF ZF,mE GRL PRL⟩
theorem z4c {p:Nat→AFun→Bool}:∀(l:List (Nat×AFun)),(l.all fun y=>p y.1 y.2)=true→∀n F,GM l n=some F→p n F=true
 | [],_,n,F,h=>by cases h
 | (k,G)::r,ha,n,F,h=>by
  simp only[List.all_cons,Bool.and_eq_true]at ha;simp only[GM]at h;cases hk:Nat.beq k n with
  | true=>
   rw[hk]at h;have:=Nat.eq_of_beq_eq_true hk;simp only[cond_true,Option.some.injEq]at h;subst this;subst h;exact ha.1
  | false=>
   rw[hk]at h;exact z4c r ha.2 n F h
def fns0:List (Nat × AFun):=[(UH,ZN),(lJ,z8u),(JG,RN),(FE,ZK),(OG,dO),(cG,aL),(aI,iO),(ZH,eO),(bI,jO),(z2W,z7Q),(z3y,z8v),(z3m,z8i),(z3H,z8I),(z3t,z8p),(z38,z87),(tJ,fO),(SH,WN),(RH,VN),(aF,lO),(LG,aO),(QH,TN),(z2U,z7O),(z3f,z8a),(XP,z8b),(z3l,z8h),(z3G,z8H),(MX,z8M),(z3w,z8s),(z3v,z8r),(FX,z7M),(z39,z88),(RD,SN),(z3E,z8E),(YB,UN),(TH,XN),(kJ,YN),(XH,bO),(z2V,z7P),(PH,z7L),(z2Z,z7T),(z30,z8x),(z3n,z8j),(z3p,z8l),(z3s,z8o),(z3r,z8n),(z3q,z8m),(z3J,z8L),(z3P,z8U),(z3L,z8P),(z31,z8z),(z3x,z8t),(z3u,z8q),(z2T,z7N),(z36,z86),(z3D,z8D),(z3a,z7U),(z3e,z7Z),(z3g,z8c),(z3k,z8g),(z3j,z8f),(z3O,z8T),(LX,z8J),(z3M,z8R),(z3I,z8K),(z3N,z8S),(z3K,z8O),(DM,z8Q),(gQ,z8N),(z34,z83),(z3C,z8C),(z3B,z8A),(IX,z8B),(z2Y,z7S),(VL,z7Y),(GX,z8y),(z3b,z7V),(z3h,z8d),(z2X,z7R),(z3o,z8k),(z32,z81),(z3F,z8F),(z3A,z89),(z33,z82),(z3c,z7W),(z3i,z8e),(z35,z84),(KX,z8G),(gI,mO),(z3z,z8w),(z3d,z7X),(fI,bL)]
def PRL0:SE:=[(uM,uH),(dI,GJ),(xM,TI),(JX,trimS)]
def X0:Ctx:=⟨GM fns0,HM GLL,OH YF ZF,mE GRL PRL0⟩
theorem znU:X0.fn gI=some mO:=by kernel_rfl
theorem znT:X0.fn fI=some bL:=by kernel_rfl
theorem z1n:X.NoNext:=fun f F h=>z4c (p:=fun _ F=>F.isDet||F.body.noNext) fns (by kernel_rfl) f F h
theorem zoq:X.fn bQ=some iT:=by kernel_rfl
theorem zak {u0 v0:AV}{h h1:aA}{P:kA}(hp:mA h [u0]=some ([v0],h1)):bA X bQ [u0] h P=(TO (bA X) X.gl [(0,v0)] h1 [] (oA [.t 2] false h.length P)).1:=by rw[yA zoq rfl hp rfl];exact zc2
theorem zo0:X.fn dM=some rT:=by kernel_rfl
theorem zat {u0 u1 v0 v1:AV}{h h1:aA}{P:kA}(hp:mA h [u0,u1]=some ([v0,v1],h1)):bA X dM [u0,u1] h P=(cP (bA X) X.gl [(0,v0),(1,v1)] h1 [] (oA [.t 4] false h.length P)).1:=by rw[yA zo0 rfl hp rfl];exact zcP
theorem zoz:X.fn CE=some qT:=by kernel_rfl
theorem zas {u0 u1 u2 v0 v1 v2:AV}{h h1:aA}{P:kA}(hp:mA h [u0,u1,u2]=some ([v0,v1,v2],h1)):bA X CE [u0,u1,u2] h P=(bP (bA X) X.gl [(0,v0),(1,v1),(2,v2)] h1 [] (oA [.t 6] false h.length P)).1:=by rw[yA zoz rfl hp rfl];exact zcO
theorem zos:X.fn bM=some jT:=by kernel_rfl
theorem zam {u0 u1 v0 v1:AV}{h h1:aA}{P:kA}(hp:mA h [u0,u1]=some ([v0,v1],h1)):bA X bM [u0,u1] h P=(WO (bA X) X.gl [(0,v0),(1,v1)] h1 [] (oA [.t 4,.t 5] false h.length P)).1:=by rw[yA zos rfl hp rfl];exact zc9
theorem zoP:X.fn rJ=some QT:=by kernel_rfl
theorem zaF {u0 u1 v0 v1:AV}{h h1:aA}{P:kA}(hp:mA h [u0,u1]=some ([v0,v1],h1)):bA X rJ [u0,u1] h P=(aJ (bA X) X.gl [(0,v0),(1,v1)] h1 [] (oA [.t 4,.t 5] false h.length P)).1:=by rw[yA zoP rfl hp rfl];exact zej
theorem zoS:X.fn qM=some TT:=by kernel_rfl
theorem zaI {u0 v0:AV}{h h1:aA}{P:kA}(hp:mA h [u0]=some ([v0],h1)):bA X qM [u0] h P=(DL (bA X) X.gl [(0,v0)] h1 [] (oA [.t 2,.t 3] false h.length P)).1:=by rw[yA zoS rfl hp rfl];exact zem
theorem zoQ:X.fn pM=some RT:=by kernel_rfl
theorem zaG {u0 v0:AV}{h h1:aA}{P:kA}(hp:mA h [u0]=some ([v0],h1)):bA X pM [u0] h P=(bJ (bA X) X.gl [(0,v0)] h1 [] (oA [.t 2,.t 3,.t 4] false h.length P)).1:=by rw[yA zoQ rfl hp rfl];exact zek
theorem zor:X.fn UH=some ZN:=by kernel_rfl
theorem zal {u0 v0:AV}{h h1:aA}{P:kA}(hp:mA h [u0]=some ([v0],h1)):bA X UH [u0] h P=(UO (bA X) X.gl [(0,v0)] h1 [] (oA [.t 2] false h.length P)).1:=by rw[yA zor rfl hp rfl];exact zc6
theorem zoG:X.fn WH=some HT:=by kernel_rfl
theorem za8 {u0 u1 v0 v1:AV}{h h1:aA}{P:kA}(hp:mA h [u0,u1]=some ([v0,v1],h1)):bA X WH [u0,u1] h P=(xL (bA X) X.gl [(0,v0),(1,v1)] h1 [] (oA [.t 4] false h.length P)).1:=by rw[yA zoG rfl hp rfl];exact zdx
theorem z7i:X.fn NG=some cO:=by kernel_rfl
theorem zaE {u0 u1 v0 v1:AV}{h h1:aA}{P:kA}(hp:mA h [u0,u1]=some ([v0,v1],h1)):bA X NG [u0,u1] h P=(CL (bA X) X.gl [(0,v0),(1,v1)] h1 [] (oA [.t 4,.t 5] false h.length P)).1:=by rw[yA z7i rfl hp rfl];exact zef
theorem zou:X.fn cM=some lT:=by kernel_rfl
theorem zao {u0 u1 v0 v1:AV}{h h1:aA}{P:kA}(hp:mA h [u0,u1]=some ([v0,v1],h1)):bA X cM [u0,u1] h P=YO (bA X) X.gl dK nN v0 v1 h1 [] (oA [.t 4] false h.length P):=by rw[yA zou rfl hp rfl];exact zcF
theorem zo2:X.fn eM=some uT:=by kernel_rfl
theorem zav {u0 v0:AV}{h h1:aA}{P:kA}(hp:mA h [u0]=some ([v0],h1)):bA X eM [u0] h P=(uL (bA X) X.gl [(0,v0)] h1 [] (oA [.t 2] false h.length P)).1:=by rw[yA zo2 rfl hp rfl];exact zcT
theorem zow:X.fn gE=some nT:=by kernel_rfl
theorem zaq {u0 u1 v0 v1:AV}{h h1:aA}{P:kA}(hp:mA h [u0,u1]=some ([v0,v1],h1)):bA X gE [u0,u1] h P=(tL (bA X) X.gl [(0,v0),(1,v1)] h1 [] (oA [.t 4] false h.length P)).1:=by rw[yA zow rfl hp rfl];exact zcL
theorem znW:X.fn JG=some RN:=by kernel_rfl
theorem z9U {u0 v0:AV}{h h1:aA}{P:kA}(hp:mA h [u0]=some ([v0],h1)):bA X JG [u0] h P=(KO (bA X) X.gl [(0,v0)] h1 [] (oA [.t 2] false h.length P)).1:=by rw[yA znW rfl hp rfl];exact zbN
theorem z7h:X.fn FE=some ZK:=by kernel_rfl
theorem zaD {u0 v0:AV}{h h1:aA}{P:kA}(hp:mA h [u0]=some ([v0],h1)):bA X FE [u0] h P=(BL (bA X) X.gl [(0,v0)] h1 [] (oA [.t 2] false h.length P)).1:=by rw[yA z7h rfl hp rfl];exact zeb
theorem zoD:X.fn kM=some FT:=by kernel_rfl
theorem za5 {u0 v0:AV}{h h1:aA}{P:kA}(hp:mA h [u0]=some ([v0],h1)):bA X kM [u0] h P=(lP (bA X) X.gl [(0,v0)] h1 [] (oA [.t 2] true h.length P)).1:=by rw[yA zoD rfl hp rfl];exact zdq
theorem zoJ:X.fn MG=some JT:=by kernel_rfl
theorem z1E {u0 u1 h P}:bA X MG [u0,u1] h P=(yL (bA X) X.gl [(0,u0),(1,u1)] h [] (oA [] false h.length P)).1:=by rw[UE zoJ rfl rfl];exact zd6
theorem zoT:X.fn OG=some dO:=by kernel_rfl
theorem zaJ {u0 u1 v0 v1:AV}{h h1:aA}{P:kA}(hp:mA h [u0,u1]=some ([v0,v1],h1)):bA X OG [u0,u1] h P=(uP (bA X) X.gl [(0,v0),(1,v1)] h1 [] (oA [.t 4] false h.length P)).1:=by rw[yA zoT rfl hp rfl];exact zeo
theorem zoC:X.fn jM=some ET:=by kernel_rfl
theorem za4 {u0 h P}:bA X jM [u0] h P=(wL (bA X) X.gl [(0,u0)] h [] (oA [.t 2] false h.length P)).1:=by rw[UE zoC rfl rfl];exact zdj
theorem z7j:X.fn cG=some aL:=by kernel_rfl
theorem zaQ {u0 v0:AV}{h h1:aA}{P:kA}(hp:mA h [u0]=some ([v0],h1)):bA X cG [u0] h P=(xP (bA X) X.gl [(0,v0)] h1 [] (oA [.t 2] false h.length P)).1:=by rw[yA z7j rfl hp rfl];exact ze1
theorem zpe:X.fn wJ=some aU:=by kernel_rfl
theorem zaV {u0 u1 v0 v1:AV}{h h1:aA}{P:kA}(hp:mA h [u0,u1]=some ([v0,v1],h1)):bA X wJ [u0,u1] h P=(AP (bA X) X.gl [(0,v0),(1,v1)] h1 [] (oA [.t 4,.t 5] false h.length P)).1:=by rw[yA zpe rfl hp rfl];exact zeA
theorem zoX:X.fn sM=some VT:=by kernel_rfl
theorem zaN {u0 v0:AV}{h h1:aA}{P:kA}(hp:mA h [u0]=some ([v0],h1)):bA X sM [u0] h P=(cJ (bA X) X.gl [(0,v0)] h1 [] (oA [.t 2] false h.length P)).1:=by rw[yA zoX rfl hp rfl];exact zex
theorem zpc:X.fn vJ=some YT:=by kernel_rfl
theorem zaT {u0 v0:AV}{h h1:aA}{P:kA}(hp:mA h [u0]=some ([v0],h1)):bA X vJ [u0] h P=(zP (bA X) X.gl [(0,v0)] h1 [] (oA [.t 2] false h.length P)).1:=by rw[yA zpc rfl hp rfl];exact ze8
theorem zpd:X.fn vM=some ZT:=by kernel_rfl
theorem zaU {u0 v0:AV}{h h1:aA}{P:kA}(hp:mA h [u0]=some ([v0],h1)):bA X vM [u0] h P=(FL (bA X) X.gl [(0,v0)] h1 [] (oA [.t 2] false h.length P)).1:=by rw[yA zpd rfl hp rfl];exact ze9
theorem znV:X.fn SL=some SS:=by kernel_rfl
theorem z9T {u0 u1 v0 v1:AV}{h h1:aA}{P:kA}(hp:mA h [u0,u1]=some ([v0,v1],h1)):bA X SL [u0,u1] h P=(HO (bA X) X.gl [(0,v0),(1,v1)] h1 [] (oA [.t 4,.t 5] false h.length P)).1:=by rw[yA znV rfl hp rfl];exact zbL
theorem zoR:X.fn sJ=some ST:=by kernel_rfl
theorem zaH {u0 u1 v0 v1:AV}{h h1:aA}{P:kA}(hp:mA h [u0,u1]=some ([v0,v1],h1)):bA X sJ [u0,u1] h P=(sP (bA X) X.gl [(0,v0),(1,v1)] h1 [] (oA [.t 3] false h.length P)).1:=by rw[yA zoR rfl hp rfl];exact zel
theorem zoZ:X.fn tM=some WT:=by kernel_rfl
theorem zaP {u0 v0:AV}{h h1:aA}{P:kA}(hp:mA h [u0]=some ([v0],h1)):bA X tM [u0] h P=(PD (bA X) X.gl [(0,v0)] h1 [] (oA [.cell 2 (some 8),.t 3] false h.length P)).1:=by rw[yA zoZ rfl hp rfl];exact zez
theorem zoY:X.fn aI=some iO:=by kernel_rfl
theorem zaO {u0 v0:AV}{h h1:aA}{P:kA}(hp:mA h [u0]=some ([v0],h1)):bA X aI [u0] h P=(EL (bA X) X.gl [(0,v0)] h1 [] (oA [.t 2] false h.length P)).1:=by rw[yA zoY rfl hp rfl];exact zey
theorem zoU:X.fn ZH=some eO:=by kernel_rfl
theorem zaK {u0 v0:AV}{h h1:aA}{P:kA}(hp:mA h [u0]=some ([v0],h1)):bA X ZH [u0] h P=(vP (bA X) X.gl [(0,v0)] h1 [] (oA [.t 2] false h.length P)).1:=by rw[yA zoU rfl hp rfl];exact zep
theorem zpa:X.fn bI=some jO:=by kernel_rfl
theorem zaR {u0 u1 v0 v1:AV}{h h1:aA}{P:kA}(hp:mA h [u0,u1]=some ([v0,v1],h1)):bA X bI [u0,u1] h P=(yP (bA X) X.gl [(0,v0),(1,v1)] h1 [] (oA [.t 4] false h.length P)).1:=by rw[yA zpa rfl hp rfl];exact ze4
theorem zoy:X.fn YE=some pT:=by kernel_rfl
theorem zar {u0 u1 v0 v1:AV}{h h1:aA}{P:kA}(hp:mA h [u0,u1]=some ([v0,v1],h1)):bA X YE [u0,u1] h P=(aP (bA X) X.gl [(0,v0),(1,v1)] h1 [] (oA [.t 4] false h.length P)).1:=by rw[yA zoy rfl hp rfl];exact zcN
theorem zo1:X.fn uC=some tT:=by kernel_rfl
theorem zau {u0 u1 v0 v1:AV}{h h1:aA}{P:kA}(hp:mA h [u0,u1]=some ([v0,v1],h1)):bA X uC [u0,u1] h P=(dP (bA X) X.gl [(0,v0),(1,v1)] h1 [] (oA [.t 4] false h.length P)).1:=by rw[yA zo1 rfl hp rfl];exact zcS
theorem zov:X.fn aG=some mT:=by kernel_rfl
theorem zap {u0 u1 v0 v1:AV}{h h1:aA}{P:kA}(hp:mA h [u0,u1]=some ([v0,v1],h1)):bA X aG [u0,u1] h P=(ZO (bA X) X.gl [(0,v0),(1,v1)] h1 [] (oA [.t 4] false h.length P)).1:=by rw[yA zov rfl hp rfl];exact zcK
theorem zox:X.fn iE=some oT:=by kernel_rfl
theorem qO {u0 u1 u2 v0 v1 v2:AV}{h h1:aA}{P:kA}(hp:mA h [u0,u1,u2]=some ([v0,v1,v2],h1)):bA X iE [u0,u1,u2] h P=(LH (bA X) X.gl [(0,v0),(1,v1),(2,v2)] h1 [] (oA [.t 6] false h.length P)).1:=by rw[yA zox rfl hp rfl];exact zcM
theorem zo5:X.fn bG=some xT:=by kernel_rfl
theorem z1D {u0 u1 v0 v1:AV}{h h1:aA}{P:kA}(hp:mA h [u0,u1]=some ([v0,v1],h1)):bA X bG [u0,u1] h P=(VF (bA X) X.gl [(0,v0),(1,v1)] h1 [] (oA [.t 4] false h.length P)).1:=by rw[yA zo5 rfl hp rfl];exact zda
theorem zo4:X.fn fM=some wT:=by kernel_rfl
theorem zax {u0 v0:AV}{h h1:aA}{P:kA}(hp:mA h [u0]=some ([v0],h1)):bA X fM [u0] h P=GG (bA X) X.gl pR v0 h1 [] (oA [.t 2] false h.length P):=by rw[yA zo4 rfl hp rfl];exact zcY
theorem zoE:X.fn lM=some GT:=by kernel_rfl
theorem za6 {u0 u1 h P}:bA X lM [u0,u1] h P=(mP (bA X) X.gl [(0,u0),(1,u1)] h [] (oA [.t 4] false h.length P)).1:=by rw[UE zoE rfl rfl];exact zdv
theorem zo3:X.fn mJ=some vT:=by kernel_rfl
theorem zaw {u0 u1 v0 v1:AV}{h h1:aA}{P:kA}(hp:mA h [u0,u1]=some ([v0,v1],h1)):bA X mJ [u0,u1] h P=(fP (bA X) X.gl [(0,v0),(1,v1)] h1 [] (oA [.t 3] false h.length P)).1:=by rw[yA zo3 rfl hp rfl];exact zcX
theorem zoA:X.fn iM=some CT:=by kernel_rfl
theorem za2 {u0 u1 v0 v1:AV}{h h1:aA}{P:kA}(hp:mA h [u0,u1]=some ([v0,v1],h1)):bA X iM [u0,u1] h P=(vL (bA X) X.gl [(0,v0),(1,v1)] h1 [] (oA [.t 4] false h.length P)).1:=by rw[yA zoA rfl hp rfl];exact zdh
theorem zot:X.fn VH=some kT:=by kernel_rfl
theorem zan {u0 u1 v0 v1:AV}{h h1:aA}{P:kA}(hp:mA h [u0,u1]=some ([v0,v1],h1)):bA X VH [u0,u1] h P=(XO (bA X) X.gl [(0,v0),(1,v1)] h1 [] (oA [.t 4] false h.length P)).1:=by rw[yA zot rfl hp rfl];exact zcD
theorem zoV:X.fn tJ=some fO:=by kernel_rfl
theorem zaL {u0 v0:AV}{h h1:aA}{P:kA}(hp:mA h [u0]=some ([v0],h1)):bA X tJ [u0] h P=(wF (bA X) X.gl [(0,v0)] h1 [] (oA [.t 2] false h.length P)).1:=by rw[yA zoV rfl hp rfl];exact zet
theorem zoM:X.fn qJ=some NT:=by kernel_rfl
theorem z1F {u0 u1 u2 h P}:bA X qJ [u0,u1,u2] h P=(zL (bA X) X.gl [(0,u0),(1,u1),(2,u2)] h [] (oA [] false h.length P)).1:=by rw[UE zoM rfl rfl];exact zdE
theorem zoe:X.fn SH=some WN:=by kernel_rfl
theorem zac {u0 v0:AV}{h h1:aA}{P:kA}(hp:mA h [u0]=some ([v0],h1)):bA X SH [u0] h P=(PO (bA X) X.gl [(0,v0)] h1 [] (oA [.t 2] false h.length P)).1:=by rw[yA zoe rfl hp rfl];exact zcb
theorem zod:X.fn RH=some VN:=by kernel_rfl
theorem zab {u0 u1 v0 v1:AV}{h h1:aA}{P:kA}(hp:mA h [u0,u1]=some ([v0,v1],h1)):bA X RH [u0,u1] h P=(UI (bA X) X.gl [(0,v0),(1,v1)] h1 [] (oA [.t 4] false h.length P)).1:=by rw[yA zod rfl hp rfl];exact zca
theorem zpg:X.fn aF=some lO:=by kernel_rfl
theorem zaX {u0 u1 v0 v1:AV}{h h1:aA}{P:kA}(hp:mA h [u0,u1]=some ([v0,v1],h1)):bA X aF [u0,u1] h P=(BP (bA X) X.gl [(0,v0),(1,v1)] h1 [] (oA [.t 4] false h.length P)).1:=by rw[yA zpg rfl hp rfl];exact zeC
theorem zpf:X.fn wM=some bU:=by kernel_rfl
theorem zaW {u0 v0:AV}{h h1:aA}{P:kA}(hp:mA h [u0]=some ([v0],h1)):bA X wM [u0] h P=(HL (bA X) X.gl [(0,v0)] h1 [] (oA [] false h.length P)).1:=by rw[yA zpf rfl hp rfl];exact zeB
theorem zpb:X.fn uJ=some XT:=by kernel_rfl
theorem zaS {u0 v0:AV}{h h1:aA}{P:kA}(hp:mA h [u0]=some ([v0],h1)):bA X uJ [u0] h P=(xF (bA X) X.gl [(0,v0)] h1 [] (oA [.t 2] false h.length P)).1:=by rw[yA zpb rfl hp rfl];exact ze7
theorem znY:X.fn TL=some TS:=by kernel_rfl
theorem z9W {u0 v0:AV}{h h1:aA}{P:kA}(hp:mA h [u0]=some ([v0],h1)):bA X TL [u0] h P=(mL (bA X) X.gl [(0,v0)] h1 [] (oA [.t 2,.t 3] false h.length P)).1:=by rw[yA znY rfl hp rfl];exact zbT
theorem zpk:X.fn xJ=some fU:=by kernel_rfl
theorem zbb {u0 u1 v0 v1:AV}{h h1:aA}{P:kA}(hp:mA h [u0,u1]=some ([v0,v1],h1)):bA X xJ [u0,u1] h P=(FP (bA X) X.gl [(0,v0),(1,v1)] h1 [] (oA [.t 4] false h.length P)).1:=by rw[yA zpk rfl hp rfl];exact zeG
theorem zoF:X.fn LG=some aO:=by kernel_rfl
theorem za7 {u0 u1 h P}:bA X LG [u0,u1] h P=(nP (bA X) X.gl [(0,u0),(1,u1)] h [] (oA [.t 4] false h.length P)).1:=by rw[UE zoF rfl rfl];exact zdw
theorem zob:X.fn UL=some VS:=by kernel_rfl
theorem z9Z {u0 u1 v0 v1:AV}{h h1:aA}{P:kA}(hp:mA h [u0,u1]=some ([v0,v1],h1)):bA X UL [u0,u1] h P=(MO (bA X) X.gl [(0,v0),(1,v1)] h1 [] (oA [.t 4,.t 5] false h.length P)).1:=by rw[yA zob rfl hp rfl];exact zbX
theorem zoW:X.fn rM=some UT:=by kernel_rfl
theorem zaM {u0 v0:AV}{h h1:aA}{P:kA}(hp:mA h [u0]=some ([v0],h1)):bA X rM [u0] h P=(wP (bA X) X.gl [(0,v0)] h1 [] (oA [.t 2] false h.length P)).1:=by rw[yA zoW rfl hp rfl];exact zeu
theorem zoa:X.fn jJ=some US:=by kernel_rfl
theorem z9Y {u0 u1 v0 v1:AV}{h h1:aA}{P:kA}(hp:mA h [u0,u1]=some ([v0,v1],h1)):bA X jJ [u0,u1] h P=(UF (bA X) X.gl [(0,v0),(1,v1)] h1 [] (oA [.t 4,.t 5] false h.length P)).1:=by rw[yA zoa rfl hp rfl];exact zbV
theorem znZ:X.fn QH=some TN:=by kernel_rfl
theorem z9X {u0 v0:AV}{h h1:aA}{P:kA}(hp:mA h [u0]=some ([v0],h1)):bA X QH [u0] h P=(LO (bA X) X.gl [(0,v0)] h1 [] (oA [.t 2] false h.length P)).1:=by rw[yA znZ rfl hp rfl];exact zbU
theorem znX:X.fn RD=some SN:=by kernel_rfl
theorem z9V {u0 v0:AV}{h h1:aA}{P:kA}(hp:mA h [u0]=some ([v0],h1)):bA X RD [u0] h P=(FG (bA X) X.gl [(0,v0)] h1 [] (oA [.t 2] false h.length P)).1:=by rw[yA znX rfl hp rfl];exact zbQ
theorem zoB:X.fn pJ=some DT:=by kernel_rfl
theorem za3 {u0 v0:AV}{h h1:aA}{P:kA}(hp:mA h [u0]=some ([v0],h1)):bA X pJ [u0] h P=(VI (bA X) X.gl [(0,v0)] h1 [] (oA [.t 2] false h.length P)).1:=by rw[yA zoB rfl hp rfl];exact zdi
theorem zo6:X.fn DE=some yT:=by kernel_rfl
theorem zay {u0 v0:AV}{h h1:aA}{P:kA}(hp:mA h [u0]=some ([v0],h1)):bA X DE [u0] h P=(MH (bA X) X.gl [(0,v0)] h1 [] (oA [.t 2] false h.length P)).1:=by rw[yA zo6 rfl hp rfl];exact zdb
theorem zo8:X.fn jE=some AT:=by kernel_rfl
theorem za0 {u0 u1 u2 v0 v1 v2:AV}{h h1:aA}{P:kA}(hp:mA h [u0,u1,u2]=some ([v0,v1,v2],h1)):bA X jE [u0,u1,u2] h P=(jP (bA X) X.gl [(0,v0),(1,v1),(2,v2)] h1 [] (oA [.t 6] false h.length P)).1:=by rw[yA zo8 rfl hp rfl];exact zdd
theorem zo7:X.fn nJ=some zT:=by kernel_rfl
theorem zaz {u0 v0:AV}{h h1:aA}{P:kA}(hp:mA h [u0]=some ([v0],h1)):bA X nJ [u0] h P=(iP (bA X) X.gl [(0,v0)] h1 [] (oA [.t 2] false h.length P)).1:=by rw[yA zo7 rfl hp rfl];exact zdc
theorem zoH:X.fn nM=some IT:=by kernel_rfl
theorem za9 {u0 u1 h P}:bA X nM [u0,u1] h P=(oP (bA X) X.gl [(0,u0),(1,u1)] h [] (oA [.t 4] false h.length P)).1:=by rw[UE zoH rfl rfl];exact zd0
theorem zoc:X.fn YB=some UN:=by kernel_rfl
theorem zaa {u0 u1 u2 v0 v1 v2:AV}{h h1:aA}{P:kA}(hp:mA h [u0,u1,u2]=some ([v0,v1,v2],h1)):bA X YB [u0,u1,u2] h P=(OO (bA X) X.gl [(0,v0),(1,v1),(2,v2)] h1 [] (oA [.t 6] false h.length P)).1:=by rw[yA zoc rfl hp rfl];exact zbZ
theorem zoK:X.fn EE=some LT:=by kernel_rfl
theorem tU {u0 u1 u2 u3 h P}:bA X EE [u0,u1,u2,u3] h P=(WI (bA X) X.gl [(0,u0),(1,u1),(2,u2),(3,u3)] h [] (oA [] false h.length P)).1:=by rw[UE zoK rfl rfl];exact zd7
theorem zoO:X.fn ZE=some PT:=by kernel_rfl
theorem uU {u0 u1 u2 u3 u4 h P}:bA X ZE [u0,u1,u2,u3,u4] h P=(XI (bA X) X.gl [(0,u0),(1,u1),(2,u2),(3,u3),(4,u4)] h [] (oA [] false h.length P)).1:=by rw[UE zoO rfl rfl];exact zdN
theorem zof:X.fn TH=some XN:=by kernel_rfl
theorem zad {u0 v0:AV}{h h1:aA}{P:kA}(hp:mA h [u0]=some ([v0],h1)):bA X TH [u0] h P=(QO (bA X) X.gl [(0,v0)] h1 [] (oA [.t 2] false h.length P)).1:=by rw[yA zof rfl hp rfl];exact zce
theorem zog:X.fn kJ=some YN:=by kernel_rfl
theorem zae {u0 u1 v0 v1:AV}{h h1:aA}{P:kA}(hp:mA h [u0,u1]=some ([v0,v1],h1)):bA X kJ [u0,u1] h P=(RO (bA X) X.gl [(0,v0),(1,v1)] h1 [] (oA [.t 4] false h.length P)).1:=by rw[yA zog rfl hp rfl];exact zcf
theorem zph:X.fn yM=some cU:=by kernel_rfl
theorem zaY {u0 u1 v0 v1:AV}{h h1:aA}{P:kA}(hp:mA h [u0,u1]=some ([v0,v1],h1)):bA X yM [u0,u1] h P=(CP (bA X) X.gl [(0,v0),(1,v1)] h1 [] (oA [.t 4,.t 5] false h.length P)).1:=by rw[yA zph rfl hp rfl];exact zeD
theorem zpn:X.fn CM=some jU:=by kernel_rfl
theorem zbd {u0 u1 u2 u3 v0 v1 v2 v3:AV}{h h1:aA}{P:kA}(hp:mA h [u0,u1,u2,u3]=some ([v0,v1,v2,v3],h1)):bA X CM [u0,u1,u2,u3] h P=(HP (bA X) X.gl [(0,v0),(1,v1),(2,v2),(3,v3)] h1 [] (oA [.t 8] false h.length P)).1:=by rw[yA zpn rfl hp rfl];exact zeN
theorem zoI:X.fn XH=some bO:=by kernel_rfl
theorem zaA {u0 u1 h P}:bA X XH [u0,u1] h P=(pP (bA X) X.gl [(0,u0),(1,u1)] h [] (oA [.t 4] false h.length P)).1:=by rw[UE zoI rfl rfl];exact zd3
theorem zpl:X.fn BM=some gU:=by kernel_rfl
theorem zbc {u0 u1 v0 v1:AV}{h h1:aA}{P:kA}(hp:mA h [u0,u1]=some ([v0,v1],h1)):bA X BM [u0,u1] h P=(GP (bA X) X.gl [(0,v0),(1,v1)] h1 [] (oA [.t 4] false h.length P)).1:=by rw[yA zpl rfl hp rfl];exact zeH
theorem zo9:X.fn oJ=some BT:=by kernel_rfl
theorem za1 {u0 u1 v0 v1:AV}{h h1:aA}{P:kA}(hp:mA h [u0,u1]=some ([v0,v1],h1)):bA X oJ [u0,u1] h P=(kP (bA X) X.gl [(0,v0),(1,v1)] h1 [] (oA [.t 4] false h.length P)).1:=by rw[yA zo9 rfl hp rfl];exact zde
theorem zoL:X.fn oM=some MT:=by kernel_rfl
theorem zaB {u0 u1 u2 u3 u4 h P}:bA X oM [u0,u1,u2,u3,u4] h P=(qP (bA X) X.gl [(0,u0),(1,u1),(2,u2),(3,u3),(4,u4)] h [] (oA [] false h.length P)).1:=by rw[UE zoL rfl rfl];exact zdB
theorem zok:X.fn WL=some ZS:=by kernel_rfl
theorem zaf {u0 u1 v0 v1:AV}{h h1:aA}{P:kA}(hp:mA h [u0,u1]=some ([v0,v1],h1)):bA X WL [u0,u1] h P=(oL (bA X) X.gl [(0,v0),(1,v1)] h1 [] (oA [.t 4,.t 5] false h.length P)).1:=by rw[yA zok rfl hp rfl];exact zct
theorem zpm:X.fn dQ=some iU:=by kernel_rfl
theorem c_q0dj {u0 u1 v0 v1:AV}{h h1:aA}{P:kA}(hp:mA h [u0,u1]=some ([v0,v1],h1)):bA X dQ [u0,u1] h P=(VW (bA X) X.gl [(0,v0),(1,v1)] h1 [] (oA [.t 4] false h.length P)).1:=by rw[yA zpm rfl hp rfl];exact zeI
theorem zpi:X.fn zM=some dU:=by kernel_rfl
theorem zaZ {u0 u1 v0 v1:AV}{h h1:aA}{P:kA}(hp:mA h [u0,u1]=some ([v0,v1],h1)):bA X zM [u0,u1] h P=(DP (bA X) X.gl [(0,v0),(1,v1)] h1 [] (oA [.t 4] false h.length P)).1:=by rw[yA zpi rfl hp rfl];exact zeE
theorem zop:X.fn aM=some gT:=by kernel_rfl
theorem zaj {u0 u1 v0 v1:AV}{h h1:aA}{P:kA}(hp:mA h [u0,u1]=some ([v0,v1],h1)):bA X aM [u0,u1] h P=(sL (bA X) X.gl [(0,v0),(1,v1)] h1 [] (oA [.t 4] false h.length P)).1:=by rw[yA zop rfl hp rfl];exact zc1
theorem zpj:X.fn AM=some eU:=by kernel_rfl
theorem zba {u0 u1 v0 v1:AV}{h h1:aA}{P:kA}(hp:mA h [u0,u1]=some ([v0,v1],h1)):bA X AM [u0,u1] h P=(EP (bA X) X.gl [(0,v0),(1,v1)] h1 [] (oA [.t 4] false h.length P)).1:=by rw[yA zpj rfl hp rfl];exact zeF
theorem zoN:X.fn YH=some OT:=by kernel_rfl
theorem zaC {u0 u1 u2 u3 u4 h P}:bA X YH [u0,u1,u2,u3,u4] h P=(rP (bA X) X.gl [(0,u0),(1,u1),(2,u2),(3,u3),(4,u4)] h [] (oA [] false h.length P)).1:=by rw[UE zoN rfl rfl];exact zdL
theorem zom:X.fn YL=some bT:=by kernel_rfl
theorem zah {u0 u1 v0 v1:AV}{h h1:aA}{P:kA}(hp:mA h [u0,u1]=some ([v0,v1],h1)):bA X YL [u0,u1] h P=(qL (bA X) X.gl [(0,v0),(1,v1)] h1 [] (oA [.t 4] false h.length P)).1:=by rw[yA zom rfl hp rfl];exact zcv
theorem zpo:X.fn eQ=some kU:=by kernel_rfl
theorem c_q0ef {u0 v0:AV}{h h1:aA}{P:kA}(hp:mA h [u0]=some ([v0],h1)):bA X eQ [u0] h P=(gX (bA X) X.gl [(0,v0)] h1 [] (oA [.t 2,.t 3] false h.length P)).1:=by rw[yA zpo rfl hp rfl];exact zeW
theorem zon:X.fn ZL=some eT:=by kernel_rfl
theorem zai {u0 u1 v0 v1:AV}{h h1:aA}{P:kA}(hp:mA h [u0,u1]=some ([v0,v1],h1)):bA X ZL [u0,u1] h P=(SO (bA X) X.gl [(0,v0),(1,v1)] h1 [] (oA [.t 4] false h.length P)).1:=by rw[yA zon rfl hp rfl];exact zcw
theorem zol:X.fn XL=some aT:=by kernel_rfl
theorem zag {u0 u1 v0 v1:AV}{h h1:aA}{P:kA}(hp:mA h [u0,u1]=some ([v0,v1],h1)):bA X XL [u0,u1] h P=(pL (bA X) X.gl [(0,v0),(1,v1)] h1 [] (oA [.t 4] false h.length P)).1:=by rw[yA zol rfl hp rfl];exact zcu
theorem zoo:X.fn KG=some fT:=by kernel_rfl
theorem z1C {u0 u1 v0 v1:AV}{h h1:aA}{P:kA}(hp:mA h [u0,u1]=some ([v0,v1],h1)):bA X KG [u0,u1] h P=(rL (bA X) X.gl [(0,v0),(1,v1)] h1 [] (oA [.t 4] false h.length P)).1:=by rw[yA zoo rfl hp rfl];exact zc0
theorem zpp:X.fn fQ=some lU:=by kernel_rfl
theorem c_q0ej {u0 v0:AV}{h h1:aA}{P:kA}(hp:mA h [u0]=some ([v0],h1)):bA X fQ [u0] h P=(iX (bA X) X.gl [(0,v0)] h1 [] (oA [.t 2,.t 3] false h.length P)).1:=by rw[yA zpp rfl hp rfl];exact zeX
theorem zoh:X.fn YP=some WS:=by kernel_rfl
theorem c_q05w {u0 v0:AV}{h h1:aA}{P:kA}(hp:mA h [u0]=some ([v0],h1)):bA X YP [u0] h P=(aV (bA X) X.gl [(0,v0)] h1 [] (oA [.t 2] false h.length P)).1:=by rw[yA zoh rfl hp rfl];exact zcg
theorem zoi:X.fn ZP=some XS:=by kernel_rfl
theorem c_q05x {u0 u1 v0 v1:AV}{h h1:aA}{P:kA}(hp:mA h [u0,u1]=some ([v0,v1],h1)):bA X ZP [u0,u1] h P=(bV (bA X) X.gl [(0,v0),(1,v1)] h1 [] (oA [.t 4] false h.length P)).1:=by rw[yA zoi rfl hp rfl];exact zch
theorem zoj:X.fn aQ=some YS:=by kernel_rfl
theorem c_q05y {u0 v0:AV}{h h1:aA}{P:kA}(hp:mA h [u0]=some ([v0],h1)):bA X aQ [u0] h P=(iV (bA X) X.gl [(0,v0)] h1 [] (oA [.t 2,.t 3] false h.length P)).1:=by rw[yA zoj rfl hp rfl];exact zcm
attribute [go_sem] zc3 zc4 zc5 zg5 tV uV vV zcQ zcR zg9 EV FV zcA zcB zcC zg7 yV zV BV zen rX zgY IW tP zc7 zc8 zg6 wV xV zdy zdz zgH WV XV zeg zeh zei zgX FW GW
attribute [go_sem] HW mX zcG fJ nX zcH zcI zcJ zg8 z2f z2g vF KH z2h DV z2i zcU zcV zcW oX zgA zgB GV HV IV eP zbO zbP zgv SU TU zec zee zgW DW EW zdr zds zdt zdu
attribute [go_sem] zgF zgG SV TV UV VV zdk zdl zdm zdn zdo zdp zgD zgE LV MV NV OV QV RV ze2 ze3 zhb QW RW zbM kX zgu RU JO ze0 PW zeq zer zes zgZ JW KW LW ze5
attribute [go_sem] ze6 zhc TW UW zcZ OD zcE CV zdF zdG zdH zdI zdJ zdK zgN zgO zgP iW jW kW lW mW nW zcc zcd zgz YU ZU zbY lX zgy XU NO zev zew zha MW OW zbW QP
attribute [go_sem] zgx WU nL zbR zbS zgw UU VU zd1 zd2 zgI YV ZV zd8 zd9 zdA zgK zgL cW dW eW zdO zdT zdU zdV zdW zdX zdY zdZ zea pX qX zdP zdQ zdR zdS zgR zgS zgT zgU
attribute [go_sem] zgV pW uW vW wW xW yW zW BW CW YI ZI qW rW sW tW zeO zeP sX zhe aX bX IP zd4 zd5 zgJ aW bW zdf zdg zgC JV KV zdC zdD zgM fW gW zeJ zeK
attribute [go_sem] zeL zeM zhd WW XW YW ZW zdM zgQ oW zcx zcy zcz zg4 qV rV sV zci zcj zck zcl zg0 zg1 cV dV eV fV zcn zco zcp zcq zcr zcs zg2 zg3 jV kV lV nV oV
attribute [go_sem] pV zeS zeT zeU zeV zhf zhg z2j dX fX z2k
end Go.Am
end
section
/- The stream of numbers out of which the laws draw. -/
open Go
namespace Go.Am
abbrev eI (n:Int):PV:=.int .i64 n
abbrev AL (l:List Int):AV:=.p (.sl none (l.map eI))
abbrev BA (L:List Int)(a:Int):Obj:=.box [AL L,AI a]
def uG (x n:Int):Int:=if n<1 then 0 else if x.tmod n<0 then IntKind.i64.wrap (x.tmod n+n) else x.tmod n
theorem z6g (x n:Int)(h:aA)(K:kA):bA X VH [AI x,AI n] h K=K (AI (uG x n)) h []:=by
 refine xA ?_;rw[zan rfl];simp only[XO,go_sem];unfold uG;by_cases h1:n<1
 ·simp only[h1,if_true]
 ·simp only[h1,if_false,show ¬n=0 by omega]
  split <;> rfl
theorem z9y (x n:Int)(h1:1≤n)(h2:n≤4611686018427387904):0≤uG x n∧uG x n<n:=by
 unfold uG;rw[if_neg (by omega)]
 have:=Int.tmod_lt_of_pos x (show 0<n by omega)
 have h3 : -n<x.tmod n:=by
  have:=Int.lt_tmod_of_pos x (show 0<n by omega)
  exact this
 split
 ·rw[nA _ (by omega) (by omega)];omega
 ·omega
def CB (L:List Int)(a n:Int):Int:=
 if L.length=0 then uG (IntKind.i64.wrap ((a+1)*7919)) n
 else uG (IntKind.i64.wrap (uG (L.getD (a.tmod L.length).toNat 0) 1073741824+IntKind.i64.wrap (IntKind.i64.wrap (a.tdiv L.length)*IntKind.i64.wrap (7919+a.tmod L.length)))) n
theorem NJ (L:List Int)(a n:Int)(h1:1≤n)(h2:n≤4611686018427387904):0≤CB L a n∧CB L a n<n:=by
 unfold CB;split <;> exact z9y _ _ h1 h2
theorem WD {h:aA}{id:Nat}{o':Obj}(hid:id<h.length):(h.set id o')[id]?=some o':=by simp [hid]
theorem mD {h:aA}{id:Nat}{o:Obj}(hh:h[id]?=some o):id<h.length:=(List.getElem?_eq_some_iff.1 hh).1
def QA (n:Nat)(a:Int):Prop:=0≤a∧a+n<4611686018427387904
theorem DC {n m:Nat}{a b:Int}(H:QA m a)(h:a≤b)(hn:b+n≤a+m):QA n b:=by unfold QA at *;omega
theorem DF {a:Int}(H:QA 14 a):QA 0 (a)∧QA 0 (a+1)∧QA 0 (a+1+1)∧QA 0 (a+1+1+1)∧QA 0 (a+1+1+1+1)∧QA 0 (a+1+1+1+1+1)∧QA 0 (a+1+1+1+1+1+1)∧QA 0 (a+1+1+1+1+1+1+1)∧QA 0 (a+1+1+1+1+1+1+1+1)∧QA 0 (a+1+1+1+1+1+1+1+1+1)∧QA 0 (a+1+1+1+1+1+1+1+1+1+1)∧QA 0 (a+1+1+1+1+1+1+1+1+1+1+1)∧QA 0 (a+1+1+1+1+1+1+1+1+1+1+1+1)∧QA 0 (a+1+1+1+1+1+1+1+1+1+1+1+1+1)∧QA 0 (a+1+1+1+1+1+1+1+1+1+1+1+1+1+1):=by
 unfold QA at *;omega
def Gen (f:Nat)(args:List AV)(L:List Int)(a a2:Int)(v:AV):Prop:=∀(h:aA) (id:Nat) (K:kA),h[id]?=some (BA L a)→bA X f (.ref id 0::args) h K=K v (h.set id (BA L a2)) []
section
variable {f:Nat} {args:List AV} {L:List Int} {a a2:Int} {v:AV} {h l:aA} {id:Nat} {K:kA}
theorem Gen.set (g:Gen f args L a a2 v)(hid:id<h.length):bA X f (.ref id 0::args) (h.set id (BA L a)) K=K v (h.set id (BA L a2)) []:=by
 rw[g _ _ _ (WD hid),List.set_set]
theorem Gen.app (g:Gen f args L a a2 v)(hid:id<h.length):bA X f (.ref id 0::args) (h.set id (BA L a)++l) K=K v (h.set id (BA L a2)++l) []:=by
 rw[g _ _ _ (by rw[z43 (by simpa using hid)];exact WD hid),z68 (by simpa using hid),List.set_set]
theorem Gen.hd (g:Gen f args L a a2 v):bA X f (.ref 0 0::args) (BA L a::l) K=K v (BA L a2::l) []:=by
 rw[g _ _ _ rfl];rfl
theorem Gen.of (H:∀ (h:aA) (id:Nat),id<h.length→bA X f (.ref id 0::args) (h.set id (BA L a)) fun v1 h1 x1=>v1=v∧h1=h.set id (BA L a2)∧x1=[]):Gen f args L a a2 v:=by
 intro h id K hh;have hid:=mD hh
 have:h.set id (BA L a)=h:=by
  apply List.ext_getElem?
  intro i;rw[List.getElem?_set];split
  ·rename_i e;subst e;rw[hh]
  ·rfl
 have k:=H h id hid
 rw[this]at k;exact xA k
end
def KD (f:Nat)(args:List AV)(L:List Int)(a:Int)(Q:AV→Int→Prop):Prop:=∀(h:aA) (id:Nat),h[id]?=some (BA L a)→∃v a2,Q v a2∧∀K:kA,bA X f (.ref id 0::args) h K=K v (h.set id (BA L a2)) []
section
variable {f:Nat} {args:List AV} {L:List Int} {a:Int} {Q:AV→Int→Prop}
theorem KD.set (g:KD f args L a Q){h:aA}{id:Nat}(hid:id<h.length):∃v a2,Q v a2∧∀K:kA,bA X f (.ref id 0::args) (h.set id (BA L a)) K=K v (h.set id (BA L a2)) []:=by
 obtain⟨v,a2,q,r⟩:=g _ _ (WD hid);exact⟨v,a2,q,fun K=>by rw[r,List.set_set]⟩
theorem KD.app (g:KD f args L a Q){h l:aA}{id:Nat}(hid:id<h.length):∃v a2,Q v a2∧∀K:kA,bA X f (.ref id 0::args) (h.set id (BA L a)++l) K=K v (h.set id (BA L a2)++l) []:=by
 obtain⟨v,a2,q,r⟩:=g (h.set id (BA L a)++l) id (by rw[z43 (by simpa using hid)];exact WD hid)
 exact⟨v,a2,q,fun K=>by rw[r,z68 (by simpa using hid),List.set_set]⟩
theorem KD.hd (g:KD f args L a Q){l:aA}:∃v a2,Q v a2∧∀K:kA,bA X f (.ref 0 0::args) (BA L a::l) K=K v (BA L a2::l) []:=g (BA L a::l) 0 rfl
theorem KD.of (H:∀ (h:aA) (id:Nat),id<h.length→bA X f (.ref id 0::args) (h.set id (BA L a)) fun v1 h1 x1=>∃ a2,Q v1 a2∧h1=h.set id (BA L a2)∧x1=[]):KD f args L a Q:=by
 intro h id hh;have hid:=mD hh
 have:h.set id (BA L a)=h:=by
  apply List.ext_getElem?
  intro i;rw[List.getElem?_set];split
  ·rename_i e;subst e;rw[hh]
  ·rfl
 have k:=H h id hid
 rw[this]at k;obtain⟨v,h',x,⟨a2,q,e1,e2⟩,r⟩:=bA.one z1n k;subst e1;subst e2
 exact⟨v,a2,q,r⟩
end
def FD (l:List Int)(L:List Int)(a:Int):Int:=l.getD (CB L a l.length).toNat 0
theorem z0h {l L:List Int}{a:Int}(hl:0<l.length)(hl2:l.length<4611686018427387904):FD l L a∈l:=by
 obtain⟨b1,b2⟩:=NJ L a l.length (by omega) (by omega)
 unfold FD;have:(CB L a l.length).toNat<l.length:=by omega
 simp only[List.getD,List.getElem?_eq_getElem this,Option.getD_some];exact List.getElem_mem _
def isI:PV→Bool
 | .int .i64 _=>true
 | _=>false
def unI:PV→Int
 | .int _ n=>n
 | _=>0
theorem znD {xs:List PV}(h:xs.all isI=true):xs=(xs.map unI).map eI:=by
 induction xs with
 | nil=>rfl
 | cons x r ih=>
  simp only[List.all_cons,Bool.and_eq_true]at h;simp only[List.map_cons];rw[←ih h.2];cases x with
  | int k n=>cases k <;> first|rfl|cases h.1
  | _=>cases h.1
set_option maxHeartbeats 400000 in
theorem z4x (L:List Int)(a n:Int)(hp:QA 0 a):Gen gE [AI n] L a (a+1) (AI (CB L a n)):=by
 refine Gen.of fun h id hid=>?_
 rw[zaq rfl];obtain⟨h0,h1⟩:=hp;have w1:IntKind.i64.wrap (a+1)=a+1:=nA _ (by omega) (by omega)
 have w2:IntKind.i64.wrap (a+1-1)=a:=by rw[nA _ (by omega) (by omega)];omega
 have hs:∀o',(h.set id o')[id]?=some o':=fun o'=>WD hid
 rcases Nat.eq_zero_or_pos L.length with hl|hl
 ·simp only[tL,go_sem,hs,z6g,hl,w1]
  simp only[CB,hl,if_true]
 ·have e1:((L.length:Int)=0)=False:=by simp only[eq_iff_iff,iff_false];omega
  have e2:0≤a.tmod L.length:=Int.tmod_nonneg _ h0
  have e3:a.tmod L.length<L.length:=Int.tmod_lt_of_pos _ (by omega)
  have e4:=mY (k:=.i64) e2
  have e5:(L.map eI)[(a.tmod L.length).toNat]?=some (eI (L.getD (a.tmod L.length).toNat 0)):=by
   rw[TB eI (show(a.tmod L.length).toNat<L.length by omega)]
   simp [List.getD,show(a.tmod L.length).toNat<L.length by omega]
  simp only[tL,go_sem,hs,z6g,e1,w1,w2,e4,e5];simp only[CB,show ¬L.length=0 by omega,if_false]
section
variable {L:List Int} {a:Int} {h l:aA} {id:Nat} {K:kA}
theorem PK (hid:id<h.length)(hp:QA 0 a)(n:Int):bA X gE [.ref id 0,AI n] (h.set id (BA L a)) K=K (AI (CB L a n)) (h.set id (BA L (a+1))) []:=(z4x L a n hp).set hid
theorem z6m (hid:id<h.length)(hp:QA 0 a)(n:Int):bA X gE [.ref id 0,AI n] (h.set id (BA L a)++l) K=K (AI (CB L a n)) (h.set id (BA L (a+1))++l) []:=(z4x L a n hp).app hid
theorem z4w (hp:QA 0 a)(n:Int):Gen aG [AI n] L a (a+1) (AB (decide (CB L a n=0))):=by
 refine Gen.of fun h id hid=>?_
 rw[zap rfl];simp only[ZO,go_sem,PK hid hp]
theorem z6j (hid:id<h.length)(hp:QA 0 a)(n:Int):bA X aG [.ref id 0,AI n] (h.set id (BA L a)) K=K (AB (decide (CB L a n=0))) (h.set id (BA L (a+1))) []:=(z4w hp n).set hid
theorem z6i (hid:id<h.length)(hp:QA 0 a)(n:Int):bA X aG [.ref id 0,AI n] (h.set id (BA L a)++l) K=K (AB (decide (CB L a n=0))) (h.set id (BA L (a+1))++l) []:=(z4w hp n).app hid
theorem z4y (hp:QA 0 a)(xs:List PV)(hx:xs.all isI=true)(hl:0<xs.length)(hl2:xs.length<4611686018427387904) :
 Gen YE [.p (.sl none xs)] L a (a+1) (AI (FD (xs.map unI) L a)):=by
 refine Gen.of fun h id hid=>?_
 rw[zar rfl];obtain⟨b1,b2⟩:=NJ L a xs.length (by omega) (by omega)
 have e4:=mY (k:=.i64) b1
 have e5:xs[(CB L a xs.length).toNat]?=some (eI (FD (xs.map unI) L a)):=by
  have hm:=znD hx
  generalize hq:xs.map unI=q at *;subst hm;simp only[List.length_map]at *;rw[TB eI (show(CB L a q.length).toNat<q.length by omega)]
  simp [FD,List.getD,show(CB L a q.length).toNat<q.length by omega]
 simp only[aP,go_sem,PK hid hp,e4,e5]
theorem z6p (hid:id<h.length)(hp:QA 0 a){xs:List PV}(hx:xs.all isI=true)(hl:0<xs.length)(hl2:xs.length<4611686018427387904) :
 bA X YE [.ref id 0,.p (.sl none xs)] (h.set id (BA L a)) K=K (AI (FD (xs.map unI) L a)) (h.set id (BA L (a+1))) []:=(z4y hp xs hx hl hl2).set hid
theorem z6o (hid:id<h.length)(hp:QA 0 a){xs:List PV}(hx:xs.all isI=true)(hl:0<xs.length)(hl2:xs.length<4611686018427387904) :
 bA X YE [.ref id 0,.p (.sl none xs)] (h.set id (BA L a)++l) K=K (AI (FD (xs.map unI) L a)) (h.set id (BA L (a+1))++l) []:=(z4y hp xs hx hl hl2).app hid
def KC (u v:Int)(L:List Int)(a:Int):Int:=u+CB L a (v-u+1)
theorem yN {u v:Int}(L:List Int)(a:Int)(h1:u≤v)(h2:v≤u+4611686018427387900):u≤KC u v L a∧KC u v L a≤v:=by
 have:=NJ L a (v-u+1) (by omega) (by omega)
 unfold KC;omega
theorem UX (hp:QA 0 a)(u v:Int)(huv:u≤v)(hu : -1152921504606846976≤u)(hv:v≤1152921504606846976) :
 Gen CE [AI u,AI v] L a (a+1) (AI (KC u v L a)):=by
 refine Gen.of fun h id hid=>?_
 rw[zas rfl];obtain⟨b1,b2⟩:=yN L a huv (by omega)
 have w1:IntKind.i64.wrap (v-u)=v-u:=nA _ (by omega) (by omega)
 have w2:IntKind.i64.wrap (v-u+1)=v-u+1:=nA _ (by omega) (by omega)
 have w3:IntKind.i64.wrap (u+CB L a (v-u+1))=KC u v L a:=nA (KC u v L a) (by omega) (by omega)
 simp only[bP,go_sem,show ¬v<u by omega,w1,w2,PK hid hp,w3]
theorem z6s (hid:id<h.length)(hp:QA 0 a){u v:Int}(huv:u≤v)(hu : -1152921504606846976≤u)(hv:v≤1152921504606846976) :
 bA X CE [.ref id 0,AI u,AI v] (h.set id (BA L a)) K=K (AI (KC u v L a)) (h.set id (BA L (a+1))) []:=(UX hp u v huv hu hv).set hid
theorem z6q (hid:id<h.length)(hp:QA 0 a){u v:Int}(huv:u≤v)(hu : -1152921504606846976≤u)(hv:v≤1152921504606846976) :
 bA X CE [.ref id 0,AI u,AI v] (h.set id (BA L a)++l) K=K (AI (KC u v L a)) (h.set id (BA L (a+1))++l) []:=(UX hp u v huv hu hv).app hid
theorem z6r (hp:QA 0 a){u v:Int}(huv:u≤v)(hu : -1152921504606846976≤u)(hv:v≤1152921504606846976) :
 bA X CE [.ref 0 0,AI u,AI v] (BA L a::l) K=K (AI (KC u v L a)) (BA L (a+1)::l) []:=(UX hp u v huv hu hv).hd
end
attribute [go_sem ↓] PK z6m z6j z6i z6p z6o z6s z6q z6r
attribute [go_sem] PK z6m z6j z6i z6p z6o z6s z6q z6r isI unI
end Go.Am
end
section
/- Plain laws of fractions in lowest terms. -/
namespace Go.Am
end Go.Am
end
section
/- Small functions of numbers and of lists of numbers. -/
open Go
namespace Go.Am
variable {h:aA} {K:kA}
theorem s_Out (n a b:Int):bA X YB [AI n,AI a,AI b] h K=K (AB (decide (n<a)||decide (b<n))) h []:=by
 refine xA ?_;rw[zaa rfl];by_cases h1:n<a <;> simp only[OO,go_sem,h1]
theorem DN (n a b:Int):bA X jE [AI n,AI a,AI b] h K=K (AB (decide (a≤n)&&decide (n≤b))) h []:=by
 refine xA ?_;rw[za0 rfl];by_cases h1:a≤n <;> simp only[jP,go_sem,h1]
theorem zii (n a b:Int):(decide (n<a)||decide (b<n)) = !(decide (a≤n)&&decide (n≤b)):=by
 rw[Bool.eq_iff_iff];simp
theorem yS (n:Int):bA X pJ [AI n] h K=K (AI n.sign) h []:=by
 refine xA ?_;rw[za3 rfl];rcases Int.lt_trichotomy n 0 with h1|h1|h1
 ·simp only[VI,go_sem,h1,Int.sign_eq_neg_one_of_neg h1]
 ·subst h1;simp only[VI,go_sem,Int.sign_zero]
 ·simp only[VI,go_sem,show ¬n<0 by omega,h1,Int.sign_eq_one_of_pos h1]
theorem znC (n:Int)(h1:0≤n)(h2:n<18446744073709551616):IntKind.u64.wrap n=n:=by
 simp [IntKind.wrap,IntKind.bits,IntKind.signed];omega
def uB (x y:Int):Int:=if x<y then -1 else if x=y then 0 else 1
theorem BO (x y:Int):uB x y=(x-y).sign:=by
 unfold uB;rcases Int.lt_trichotomy x y with h|h|h
 ·rw[if_pos h,Int.sign_eq_neg_one_of_neg (by omega)]
 ·rw[if_neg (by omega),if_pos h,h];simp
 ·rw[if_neg (by omega),if_neg (by omega),Int.sign_eq_one_of_pos (by omega)]
end Go.Am
end
section
/- Functions of lists. -/
open Go
namespace Go.Am
variable {h:aA} {K:kA}
theorem z0v (a:Int):bA X TH [AI a] h K=K (AB false) h []:=by
 refine xA ?_;rw[zad rfl];simp only[QO,go_sem]
theorem zmc (a b:Int):bA X RH [AI a,AI b] h K=K (AI (uB a b)) h []:=by
 refine xA ?_;rw[zab rfl];unfold uB;by_cases h1:a<b
 ·simp only[UI,go_sem,z0v,h1]
 ·by_cases h2:b<a
  ·simp only[UI,go_sem,z0v,h1,h2,show ¬a=b by omega]
  ·simp only[UI,go_sem,z0v,h1,h2,show a=b by omega,Int.lt_irrefl]
def z1j (g:Nat)(caps:List AV)(p:PV→Bool)(xs:List PV)(h:aA):Prop:=∀x∈xs,∀K:kA,bA X g (.p x::caps) h K=K (AB (p x)) h []
def LM (p:PV→Bool)(xs:List PV):Int:=if xs.findIdx p<xs.length then(xs.findIdx p:Int) else -1
theorem zfZ (p:PV→Bool)(xs:List PV):decide (0≤LM p xs)=xs.any p:=by
 unfold LM;rw[Bool.eq_iff_iff];by_cases h:xs.findIdx p<xs.length
 ·rw[if_pos h];simp only[decide_eq_true_eq,List.any_eq_true]
  exact⟨fun _=>⟨_,List.getElem_mem h,List.findIdx_getElem⟩,fun _=>by omega⟩
 ·rw[if_neg h];simp only[decide_eq_true_eq,List.any_eq_true]
  refine⟨fun h=>by omega,fun⟨x,hx,hp⟩=>absurd (List.findIdx_lt_length_of_exists ⟨x,hx,hp⟩) h⟩
def zJ:List Int→Int
 | []=>0
 | e::r=>if e=0 then zJ r else e
end Go.Am
end
section
/- Plain lists: insertion sort asv Go's package slices does it on short lists;deleting;compacting. -/
namespace Go.Am
variable {α:Type}
def jB (lt:α→α→Bool)(x:α):List α→List α
 | []=>[x]
 | y::r=>bif lt x y then y::jB lt x r else x::y::r
def aD (lt:α→α→Bool)(l:List α):List α:=l.foldl (fun r x=>jB lt x r) []
def FA (lt:α→α→Bool)(l:List α):List α:=(aD lt l).reverse
theorem XX (lt:α→α→Bool)(x:α):∀r:List α,(jB lt x r).Perm (x::r)
 | []=>.refl _
 | y::r=>by
  unfold jB;cases lt x y with
  | true=>exact((XX lt x r).cons y).trans (.swap _ _ _)
  | false=>exact .refl _
theorem z4I (lt:α→α→Bool):∀(l r:List α),(l.foldl (fun r x=>jB lt x r) r).Perm (l++r)
 | [],r=>.refl _
 | x::l,r=>by
  simp only[List.foldl_cons,List.cons_append];refine(z4I lt l _).trans ?_;exact((XX lt x r).append_left l).trans (List.perm_middle)
theorem rQ (lt:α→α→Bool)(l:List α):(aD lt l).Perm l:=by
 have:=z4I lt l [];rwa [List.append_nil]at this
theorem YX (lt:α→α→Bool)(l:List α):(FA lt l).Perm l:=(List.reverse_perm _).trans (rQ lt l)
theorem sQ (lt:α→α→Bool)(l:List α):(FA lt l).length=l.length:=(YX lt l).length_eq
theorem EJ {lt:α→α→Bool}{l:List α}{x:α}:x∈FA lt l↔x∈l:=(YX lt l).mem_iff
theorem z4H (lt:α→α→Bool)(l:List α):(aD lt l).length=l.length:=(rQ lt l).length_eq
structure Weak (lt:α→α→Bool):Prop where
 asym:∀a b,lt a b=true→lt b a=false
 ntrans:∀a b c,lt b a=false→lt c b=false→lt c a=false
theorem z4C {lt:α→α→Bool}(w:Weak lt)(x:α):∀r:List α,r.Pairwise (fun a b=>lt a b=false)→(jB lt x r).Pairwise (fun a b=>lt a b=false)
 | [],_=>by simp [jB]
 | y::r,h=>by
  unfold jB;rw[List.pairwise_cons]at h;cases hxy:lt x y with
  | true=>
   rw[cond_true,List.pairwise_cons];refine⟨fun z hz=>?_,z4C w x r h.2⟩
   rcases List.mem_cons.1 ((XX lt x r).mem_iff.1 hz) with rfl|hz
   ·exact w.asym _ _ hxy
   ·exact h.1 z hz
  | false=>
   rw[cond_false,List.pairwise_cons,List.pairwise_cons];refine⟨fun z hz=>?_,h⟩
   rcases List.mem_cons.1 hz with rfl|hz
   ·exact hxy
   ·exact w.ntrans _ _ _ (h.1 z hz) hxy
theorem z4J {lt:α→α→Bool}(w:Weak lt):∀(l r:List α),r.Pairwise (fun a b=>lt a b=false)→(l.foldl (fun r x=>jB lt x r) r).Pairwise (fun a b=>lt a b=false)
 | [],r,h=>h
 | x::l,r,h=>z4J w l _ (z4C w x r h)
theorem FJ {lt:α→α→Bool}(w:Weak lt)(l:List α):(FA lt l).Pairwise (fun a b=>lt b a=false):=by
 unfold FA;rw[List.pairwise_reverse];exact z4J w l [] .nil
theorem z4K (lt:α→α→Bool)(l:List α)(k:Nat)(hk:k<l.length):aD lt (l.take (k+1))=jB lt l[k] (aD lt (l.take k)):=by
 rw[List.take_succ_eq_append_getElem hk];unfold aD;rw[List.foldl_append];rfl
theorem z5e {β:Type}(f:α→β){lt:α→α→Bool}{lt':β→β→Bool}(h:∀ a b,lt' (f a) (f b)=lt a b)(x:α):∀r:List α,jB lt' (f x) (r.map f)=(jB lt x r).map f
 | []=>rfl
 | y::r=>by
  simp only[List.map_cons,jB,h];cases lt x y with
  | true=>simp only[cond_true,List.map_cons,z5e f h x r]
  | false=>rfl
theorem z4D (lt:α→α→Bool)(x:α)(A:List α):∀B:List α,(∀b∈B,lt x b=true)→jB lt x (B++A)=B++jB lt x A
 | [],_=>rfl
 | b::B,h=>by
  simp only[List.cons_append,jB,h b (by simp),cond_true]
  rw[z4D lt x A B (fun b hb=>h b (by simp [hb]))]
theorem z4E (A C:List α)(x:α):(A.reverse++x::C)[A.length]?=some x:=by
 rw[List.getElem?_append_right (by simp)];simp
theorem z4F (A C:List α)(x y:α):((y::A).reverse++x::C)[A.length]?=some y:=by
 rw[List.getElem?_append_left (by simp)];simp
theorem z4G (A C:List α)(x y:α):(((y::A).reverse++x::C).set (A.length+1) y).set A.length x=A.reverse++x::y::C:=by
 have e:(y::A).reverse++x::C=A.reverse++y::x::C:=by simp
 rw[e,List.set_append_right _ _ (by simp),List.length_reverse,Nat.add_sub_cancel_left,List.set_append_right _ _ (by simp),List.length_reverse,Nat.sub_self]
 rfl
theorem MM (lt:α→α→Bool)(x:α)(A B:List α)(hB:∀ b∈B,lt x b=true)(hA:∀ y r,A=y::r→lt x y=false):jB lt x (B++A)=B++x::A:=by
 rw[z4D lt x A B hB];cases A with
 | nil=>rfl
 | cons y r=>simp only[jB,hA y r rfl,cond_false]
theorem zgo {β:Type}(f:α→β){lt:α→α→Bool}{lt':β→β→Bool}(h:∀ a b,lt' (f a) (f b)=lt a b)(l:List α):FA lt' (l.map f)=(FA lt l).map f:=by
 have key:∀(l r:List α),(l.map f).foldl (fun r x=>jB lt' x r) (r.map f)=(l.foldl (fun r x=>jB lt x r) r).map f:=by
  intro l;induction l with
  | nil=>intro r;rfl
  | cons x l ih=>intro r;simp only[List.map_cons,List.foldl_cons,z5e f h,ih]
 unfold FA aD;have:=key l [];simp only[List.map_nil]at this;rw[this,List.map_reverse]
end Go.Am
namespace Go.Am
variable {α:Type}
def GB (q:α→α→Bool)(prev:α):List α→List α
 | []=>[]
 | x::r=>bif q x prev then GB q x r else x::GB q x r
def BB (q:α→α→Bool):List α→List α
 | []=>[]
 | x::r=>x::GB q x r
theorem z1U (q:α→α→Bool):∀(l:List α) (p:α),(GB q p l).length≤l.length
 | [],_=>Nat.le_refl _
 | x::r,p=>by
  unfold GB;have:=z1U q r x;cases q x p with
  | true=>simp only[cond_true,List.length_cons];omega
  | false=>simp only[cond_false,List.length_cons];omega
theorem zbu (q:α→α→Bool)(l:List α):(BB q l).length≤l.length:=by
 cases l with
 | nil=>exact Nat.le_refl _
 | cons x r=>have:=z1U q r x;simp only[BB,List.length_cons];omega
theorem MU (q:α→α→Bool):∀(l:List α) (p:α),∀x∈GB q p l,x∈l
 | [],_,x,h=>h
 | y::r,p,x,h=>by
  unfold GB at h;cases hq:q y p with
  | true=>rw[hq]at h;exact List.mem_cons_of_mem _ (MU q r y x h)
  | false=>
   rw[hq]at h;rcases List.mem_cons.1 h with rfl|h
   ·simp
   ·exact List.mem_cons_of_mem _ (MU q r y x h)
theorem zbw {q:α→α→Bool}{l:List α}{x:α}(h:x∈BB q l):x∈l:=by
 cases l with
 | nil=>exact h
 | cons y r=>
  rcases List.mem_cons.1 h with rfl|h
  ·simp
  ·exact List.mem_cons_of_mem _ (MU q r y x h)
theorem z1V (q:α→α→Bool)(z:α):∀(l:List α) (p:α),GB q p (l++[z])=GB q p l++(bif q z ((p::l).getLast (by simp)) then [] else [z])
 | [],p=>by simp only[List.nil_append,GB,List.getLast_singleton]
 | x::r,p=>by
  simp only[List.cons_append,GB,z1V q z r x];have e:(p::x::r).getLast (by simp)=(x::r).getLast (by simp):=List.getLast_cons (by simp)
  rw[e];cases q x p <;> rfl
theorem z1X (q:α→α→Bool)(l:List α)(k:Nat)(hk:k+1<l.length):BB q (l.take (k+1+1))=BB q (l.take (k+1))++(bif q l[k+1] l[k] then [] else [l[k+1]]):=by
 rw[List.take_succ_eq_append_getElem hk];cases l with
 | nil=>simp at hk
 | cons x r=>
  simp only[List.take_succ_cons,List.cons_append,BB,z1V];have e:(x::r.take k).getLast (by simp)=(x::r)[k]:=by
   have:x::r.take k=(x::r).take (k+1):=rfl
   simp only[this];rw[List.getLast_eq_getElem];simp only[List.getElem_take];congr 1
   simp only[List.length_take,List.length_cons]at hk ⊢;omega
  rw[e]
theorem zbv {β:Type}(f:α→β){q:α→α→Bool}{q':β→β→Bool}(h:∀ a b,q' (f a) (f b)=q a b)(l:List α):BB q' (l.map f)=(BB q l).map f:=by
 have key:∀(l:List α) (p:α),GB q' (f p) (l.map f)=(GB q p l).map f:=by
  intro l;induction l with
  | nil=>intro p;rfl
  | cons x r ih=>
   intro p;simp only[List.map_cons,GB,h,ih];cases q x p <;> rfl
 cases l with
 | nil=>rfl
 | cons x r=>simp only[List.map_cons,BB,key]
end Go.Am
end
section
/- Values of a shape: loads and stores in rows. -/
open Go
namespace Go.Am
variable {h:aA} {K:kA}
theorem wC {sh:Sh}{x:PV}(hx:x.shp sh=true):iB sh 0 x=some x:=by
 cases sh with
 | none=>exact zbA hx
 | some n=>
  cases x with
  | agg cs=>
   simp only[PV.shp,Bool.and_eq_true,beq_iff_eq]at hx;simp [iB,hx.1];exact List.take_of_length_le (by omega)
  | _=>cases hx
theorem oF {sh:Sh}{x:PV}(hx:x.shp sh=true):x.cells.length=jA sh:=by
 cases sh with
 | none=>cases x <;> first|rfl|cases hx
 | some n=>
  cases x with
  | agg cs=>simp only[PV.shp,Bool.and_eq_true,beq_iff_eq]at hx;exact hx.1
  | _=>cases hx
theorem mF {sh:Sh}{x:PV}(hx:x.shp sh=true):x.cells.all PV.sc=true:=by
 cases sh with
 | none=>cases x <;> first|rfl|cases hx
 | some n=>
  cases x with
  | agg cs=>simp only[PV.shp,Bool.and_eq_true,beq_iff_eq]at hx;exact hx.2
  | _=>cases hx
theorem rE {sh:Sh}{x y:PV}(hx:x.shp sh=true)(hy:y.shp sh=true)(id i fz:Nat)(xs:List PV)(h1:aA):stE sh id i 0 fz sh xs x h1 (some y)=some (.und,h1.set id (.row sh (xs.set i x) fz),[]):=by
 cases sh with
 | none=>
  cases y with
  | agg cs=>cases hy
  | _=>simp only[PV.shp]at hx;simp [stE,hx]
 | some n=>
  cases y with
  | agg cs=>
   cases x with
   | agg ds=>
    simp only[PV.shp,Bool.and_eq_true,beq_iff_eq]at hx hy;simp [stE,PV.cells,splice,hx.1,hy.1,show cs.drop n=[] from List.drop_of_length_le (by omega)]
   | _=>cases hx
  | _=>cases hy
def LC (sh:Sh)(xs:List PV):Prop:=∀x∈xs,x.shp sh=true
theorem QK {sh:Sh}{xs:List PV}(hx:LC sh xs){i:Nat}(hi:i<xs.length):xs[i].shp sh=true:=hx _ (List.getElem_mem hi)
theorem fH {h:aA}{id:Nat}{o:Obj}(hh:h[id]?=some o):h.set id o=h:=by
 apply List.ext_getElem?
 intro i;rw[List.getElem?_set];split
 ·rename_i e;subst e;rw[hh];simp [mD hh]
 ·rfl
def JD (g:Nat)(caps:List AV)(c:PV→PV→Int)(xs:List PV)(id:Nat)(h:aA):Prop:=∀(o:Obj) (x:PV),x∈xs→∀y,y∈xs→∀K:kA,bA X g (.p x :: .p y::caps) (h.set id o) K=K (AI (c x y)) (h.set id o) []
def ltC (c:PV→PV→Int)(a b:PV):Bool:=decide (c a b<0)
structure Shows (sh:Sh) (v:AV) (xs:List PV) (h:aA):Prop where
 len:VG v=some (AI xs.length)
 get:∀(k:Nat) (hk:k<xs.length),∃a,JE sh v (AI k) h=some a∧SA sh a h=some (.p xs[k])
theorem z6A {sh:Sh}{xs:List PV}(hs:LC sh xs):Shows sh (.p (.sl sh xs)) xs h:=by
 refine⟨rfl,fun k hk=>⟨.vp xs[k],?_,?_⟩⟩
 ·simp [JE,oB,hk]
 ·simp only[z4Y,wC (QK hs hk)];rfl
end Go.Am
end
section
/- Strings: keys,the library's functions without text. -/
open Go
set_option linter.unusedSimpArgs false
namespace Go.Am
variable {h:aA} {K:kA}
abbrev AS (s:List UInt8):AV:=.p (.str s)
theorem z1m:X.ext=OH YF ZF:=rfl
theorem z6w (s:List UInt8)(c:UInt8):bA X YF [AS s,.p (.int .u8 c.toNat)] h K=K (AI (QC s c)) h []:=by
 have:=z2Q (X:=X) (f:=YF) (asv:=[AS s,.p (.int .u8 c.toNat)]) (vs:=[.str s,.int .u8 c.toNat]) (h:=h) (h1:=h) (r:=.int .i64 (QC s c)) (K:=K) (by kernel_rfl) rfl rfl rfl ?_
 ·exact this
 ·rw[z1m]
  unfold OH;rw[show Nat.beq YF YF=true from by kernel_rfl]
  simp
theorem zmd (a b:List UInt8):bA X ZF [AS a,AS b] h K=K (AI (OA a b)) h []:=by
 have:=z2Q (X:=X) (f:=ZF) (asv:=[AS a,AS b]) (vs:=[.str a,.str b]) (h:=h) (h1:=h) (r:=.int .i64 (OA a b)) (K:=K) (by kernel_rfl) rfl rfl rfl ?_
 ·exact this
 ·rw[z1m]
  unfold OH;rw[show Nat.beq ZF YF=false from by kernel_rfl,show Nat.beq ZF ZF=true from by kernel_rfl]
  rfl
theorem z0w (a b:List UInt8):bA X aF [AS a,AS b] h K=K (AI (OA a b)) h []:=by
 have key:∀(h:aA) (K:kA),bA X kJ [AS a,AS b] h K=K (AI (OA a b)) h []:=by
  intro h K;refine xA ?_;rw[zae rfl];simp only[RO,go_sem,zmd]
 refine xA ?_;rw[zaX rfl];simp only[BP,go_sem,key]
theorem z6k (s:List UInt8)(c:UInt8):bA X AM [AS s,.p (.int .u8 c.toNat)] h K=K (AI (QC s c)) h []:=by
 have key:∀(h:aA) (K:kA),bA X KG [AS s,.p (.int .u8 c.toNat)] h K=K (AI (QC s c)) h []:=by
  intro h K;refine xA ?_;rw[z1C rfl];simp only[rL,go_sem,z6w]
 refine xA ?_;rw[zba rfl];simp only[EP,go_sem,key]
theorem CO:∀ a,OA a a=0
 | []=>rfl
 | x::a=>by simp only[OA,UInt8.lt_irrefl,if_false];exact CO a
theorem GH:∀ {a b:List UInt8},OA a b=0→a=b
 | [],[],_=>rfl
 | [],_::_,h=>by simp [OA]at h
 | _::_,[],h=>by simp [OA]at h
 | x::a,y::b,h=>by
  simp only[OA]at h;split at h
  ·cases h
  ·split at h
   ·cases h
   ·rename_i h1 h2
    have:x=y:=UInt8.le_antisymm (UInt8.not_lt.1 h2) (UInt8.not_lt.1 h1)
    rw[this,GH h]
theorem HH:∀ a b,OA b a = - OA a b
 | [],[]=>rfl
 | [],_::_=>rfl
 | _::_,[]=>rfl
 | x::a,y::b=>by
  simp only[OA];by_cases h1:x<y
  ·have h2:¬y<x:=UInt8.lt_asymm h1
   simp [h1,h2]
  ·by_cases h2:y<x
   ·simp [h1,h2]
   ·simp [h1,h2,HH a b]
theorem LU:∀ {a b c:List UInt8},OA a b<0→OA b c<0→OA a c<0
 | [],[],_,h,_=>by simp [OA]at h
 | [],_::_,[],_,h=>by simp [OA]at h
 | [],_::_,_::_,_,_=>by simp [OA]
 | _::_,[],_,h,_=>by simp [OA]at h
 | _::_,_::_,[],_,h=>by simp [OA]at h
 | x::a,y::b,z::c,h1,h2=>by
  simp only[OA]at h1 h2 ⊢;by_cases hxy:x<y
  ·by_cases hyz:y<z
   ·simp [UInt8.lt_trans hxy hyz]
   ·by_cases hzy:z<y
    ·simp [hyz,hzy]at h2
    ·have:y=z:=UInt8.le_antisymm (UInt8.not_lt.1 hzy) (UInt8.not_lt.1 hyz)
     subst this;simp [hxy]
  ·by_cases hyx:y<x
   ·simp [hxy,hyx]at h1
   ·have:x=y:=UInt8.le_antisymm (UInt8.not_lt.1 hyx) (UInt8.not_lt.1 hxy)
    subst this;simp only[UInt8.lt_irrefl,if_false]at h1;by_cases hyz:x<z
    ·simp [hyz]
    ·by_cases hzy:z<x
     ·simp [hyz,hzy]at h2
     ·simp only[hyz,hzy,if_false]at h2 ⊢
      exact LU h1 h2
def lE (c:UInt8):Bool:=decide ((97:Int)≤c.toNat)&&decide ((c.toNat:Int)≤122)||decide ((48:Int)≤c.toNat)&&decide ((c.toNat:Int)≤57)||decide ((c.toNat:Int)=45)||decide ((c.toNat:Int)=95)
def kB (s:List UInt8):Bool:=match s with
 | []=>false
 | c::r=>decide (r.length<40)&&(decide ((97:Int)≤c.toNat)&&decide ((c.toNat:Int)≤122))&&(c::r).all lE
theorem vS (s:List UInt8)(hl:s.length≤1000000000):bA X RD [AS s] h K=K (AB (kB s)) h []:=by
 refine xA ?_;rw[z9V rfl];cases s with
 | nil=>simp only[FG,go_sem,kB]
 | cons c r=>
  have n0:((c::r)=[])=False:=by simp
  have e1:(((r.length+1:Nat):Int)≤40)=(r.length<40):=by simp only[eq_iff_iff];omega
  by_cases h1:(40:Int)<((r.length+1:Nat):Int)
  ·have:¬r.length<40:=by omega
   simp only[FG,go_sem,n0,h1,kB,this]
  have h1':r.length<40:=by omega
  by_cases h2:(c.toNat:Int)<97
  ·have:¬(97:Int)≤c.toNat:=by omega
   simp only[FG,go_sem,n0,h1,h2,kB,this,h1']
  have h2':(97:Int)≤c.toNat:=by omega
  by_cases h3:(122:Int)<c.toNat
  ·have:¬(c.toNat:Int)≤122:=by omega
   simp only[FG,go_sem,n0,h1,h2,h3,kB,this,h1',h2']
  have h3':(c.toNat:Int)≤122:=by omega
  have ek:kB (c::r)=(c::r).all lE:=by simp [kB,h1',h2',h3']
  rw[ek];generalize hB:(c::r).all lE=B;simp only[FG,go_sem,n0,h1,h2,h3];have hlen:(c::r).length=r.length+1:=rfl
  rw[←hlen];generalize c::r=s at *;refine NA (fun k:Nat=>⟨[(0,AS s),(23,AI s.length),(24,AI k)],h,[]⟩) (fun k=>k≤s.length∧(s.take k).all lE=true) (fun k=>s.length-k) 0 rfl ⟨by omega,rfl⟩ ?_
  rintro k ⟨hk,hp⟩
  rcases Nat.lt_or_ge k s.length with hlt|hge
  ·have hg:s[k]?=some s[k]:=List.getElem?_eq_getElem hlt
   have w2:IntKind.i64.wrap ((k:Int)+1)=((k+1:Nat):Int):=nA _ (by omega) (by omega)
   generalize hc:s[k]=c at *;have key:(decide ((97:Int)≤c.toNat)&&decide ((c.toNat:Int)≤122)||decide ((48:Int)≤c.toNat)&&decide ((c.toNat:Int)≤57)||decide ((c.toNat:Int)=45)||decide ((c.toNat:Int)=95))=lE c:=rfl
   cases hkc:lE c with
   | true=>
    rw[hkc]at key;have hn:(s.take (k+1)).all lE=true:=by rw[List.take_succ_eq_append_getElem hlt,List.all_append,hp,hc];simp [hkc]
    by_cases b1:(97:Int)≤c.toNat <;> by_cases b2:(c.toNat:Int)≤122 <;> by_cases b3:(48:Int)≤c.toNat <;> by_cases b4:(c.toNat:Int)≤57 <;> by_cases b5:(c.toNat:Int)=45 <;> by_cases b6:(c.toNat:Int)=95
    all_goals first
     | (simp only[b1,b2,b3,b4,b5,b6,decide_true,decide_false,Bool.and_self,Bool.and_true,Bool.and_false,Bool.or_self,Bool.or_true,Bool.or_false,Bool.true_or,Bool.false_or,Bool.false_and,reduceCtorEq]at key;done)
     | (exfalso;omega)
     | (simp only[go_sem,hlt,hg,w2,b1,b2,b3,b4,b5,b6];exact⟨k+1,rfl,⟨by omega,hn⟩,by omega⟩)
   | false=>
    rw[hkc]at key;have hn:s.all lE=false:=by rw[List.all_eq_false];exact⟨_,List.getElem_mem hlt,by rw[hc,hkc];simp⟩
    rw[hn]at hB;subst hB;by_cases b1:(97:Int)≤c.toNat <;> by_cases b2:(c.toNat:Int)≤122 <;> by_cases b3:(48:Int)≤c.toNat <;> by_cases b4:(c.toNat:Int)≤57 <;> by_cases b5:(c.toNat:Int)=45 <;> by_cases b6:(c.toNat:Int)=95
    all_goals first
     | (simp only[b1,b2,b3,b4,b5,b6,decide_true,decide_false,Bool.and_self,Bool.and_true,Bool.and_false,Bool.or_self,Bool.or_true,Bool.or_false,Bool.true_or,Bool.false_or,Bool.false_and,reduceCtorEq]at key;done)
     | (exfalso;omega)
     | (simp only[go_sem,hlt,hg,b1,b2,b3,b4,b5,b6])
  ·have ek:k=s.length:=by omega
   subst ek;rw[List.take_length,hB]at hp;subst hp;simp only[go_sem,Nat.lt_irrefl]
theorem zfY (s:List UInt8)(c:UInt8):decide (QC s c<0) = !s.contains c:=by
 unfold QC;rw[Bool.eq_iff_iff];by_cases hf:s.findIdx (· == c)<s.length
 ·rw[if_pos hf]
  have:=List.findIdx_getElem (w:=hf);simp only[beq_iff_eq]at this;have hm:c∈s:=by rw[←this];exact List.getElem_mem hf
  simp [hm]
 ·rw[if_neg hf]
  have hm:¬c∈s:=fun hm=>hf (List.findIdx_lt_length_of_exists ⟨c,hm,by simp⟩)
  simp [hm]
theorem z6x (s t:List UInt8)(hl:s.length≤1000000000):bA X oJ [AS s,AS t] h K=K (AB (s.all fun c=>t.contains c)) h []:=by
 refine xA ?_;rw[za1 rfl];simp only[kP,go_sem];refine NA (fun k:Nat=>⟨[(0,AS s),(1,AS t),(7,AI s.length),(8,AI k)],h,[]⟩) (fun k=>k≤s.length∧(s.take k).all (fun c=>t.contains c)=true) (fun k=>s.length-k) 0 rfl ⟨by omega,rfl⟩ ?_
 rintro k ⟨hk,hp⟩
 rcases Nat.lt_or_ge k s.length with hlt|hge
 ·have hg:s[k]?=some s[k]:=List.getElem?_eq_getElem hlt
  have w2:IntKind.i64.wrap ((k:Int)+1)=((k+1:Nat):Int):=nA _ (by omega) (by omega)
  have hi:=zfY t s[k]
  by_cases hc:QC t s[k]<0
  ·have:s.all (fun c=>t.contains c)=false:=by
    rw[List.all_eq_false];refine⟨_,List.getElem_mem hlt,?_⟩;rw[decide_eq_true hc]at hi;cases hq:t.contains s[k]with
    | true=>rw[hq]at hi;cases hi
    | false=>simp
   simp only[go_sem,hlt,hg,z6k,hc,this]
  ·rw[decide_eq_false hc]at hi
   have hq:t.contains s[k]=true:=by cases hq:t.contains s[k]with|true=>rfl|false=>rw[hq]at hi;cases hi
   simp only[go_sem,hlt,hg,z6k,hc,w2];exact⟨k+1,rfl,⟨by omega,by rw[List.take_succ_eq_append_getElem hlt,List.all_append,hp];simp only[List.all_cons,List.all_nil,hq];rfl⟩,by omega⟩
 ·have ek:k=s.length:=by omega
  subst ek;rw[List.take_length]at hp;simp only[go_sem,Nat.lt_irrefl,hp]
def GN:List UInt8:=[97,98,99,100,101,102,103,104,105,106,107,108,109,110,111,112,113,114,115,116,117,118,119,120,121,122]
def RM:List UInt8:=[97,98,99,100,101,102,103,104,105,106,107,108,109,110,111,112,113,114,115,116,117,118,119,120,121,122,48,49,50,51,52,53,54,55,56,57,45,95]
theorem z6R {p:UInt8→Bool}(h:((List.range 256).all fun n=>p (UInt8.ofNat n))=true)(c:UInt8):p c=true:=by
 have:=List.all_eq_true.1 h c.toNat (by simp;exact c.toNat_lt)
 rwa [UInt8.ofNat_toNat]at this
theorem zmF (c:UInt8):GN.contains c=(decide ((97:Int)≤c.toNat)&&decide ((c.toNat:Int)≤122)):=by
 have:=z6R (p:=fun c=>GN.contains c==(decide ((97:Int)≤c.toNat)&&decide ((c.toNat:Int)≤122))) (by kernel_rfl) c
 simpa using this
theorem zgt (c:UInt8):RM.contains c=lE c:=by
 have:=z6R (p:=fun c=>RM.contains c==lE c) (by kernel_rfl) c
 simpa using this
theorem xS (s:List UInt8)(hl:s.length≤1000000000):bA X DE [AS s] h K=K (AB (kB s)) h []:=by
 refine xA ?_;rw[zay rfl];have o1:=fun h K=>z6x (h:=h) (K:=K) s RM hl
 have e2:(s.all fun c=>RM.contains c)=s.all lE:=by congr 1;funext c;exact zgt c
 rw[e2]at o1;unfold RM at o1;cases s with
 | nil=>simp only[MH,go_sem,DN,kB]
 | cons c r=>
  have o2:=fun h K=>z6x (h:=h) (K:=K) [c] GN (by simp)
  have e3:([c].all fun c=>GN.contains c)=(decide ((97:Int)≤c.toNat)&&decide ((c.toNat:Int)≤122)):=by simp only[List.all_cons,List.all_nil,Bool.and_true];exact zmF c
  rw[e3]at o2;unfold GN at o2;have q1:(1:Int)≤((r.length+1:Nat):Int):=by omega
  have q2:1≤r.length+1:=by omega
  by_cases h1:r.length<40
  ·have h1':((r.length+1:Nat):Int)≤40:=by omega
   cases h2:(decide ((97:Int)≤c.toNat)&&decide ((c.toNat:Int)≤122)) with
   | true=>
    have ek:kB (c::r)=(c::r).all lE:=by
     simp only[kB,h1,decide_true,Bool.true_and,h2]
    rw[ek];simp only[MH,go_sem,DN,h1',q1,q2,win,↓o2,o2,h2,↓o1,o1]
   | false=>
    have ek:kB (c::r)=false:=by simp only[kB,h1,decide_true,Bool.true_and,h2,Bool.false_and]
    rw[ek];simp only[MH,go_sem,DN,h1',q1,q2,win,↓o2,o2,h2]
  ·have h1':¬((r.length+1:Nat):Int)≤40:=by omega
   have ek:kB (c::r)=false:=by simp only[kB,h1,decide_false,Bool.false_and]
   rw[ek];simp only[MH,go_sem,DN,h1',q1]
end Go.Am
end
section
/- Finding values in lists: printed by program. -/
open Go
set_option linter.unusedSimpArgs false
namespace Go.Am
attribute [-go_sem] PV.cells
variable {h:aA} {K:kA}
end Go.Am
end
section
/- Limits: what they are,what is wrong with them. -/
open Go
namespace Go.Am
variable {h:aA} {K:kA}
structure Lim where
 key:List UInt8
 lo:Int
 hi:Int
 bin:Int
def Lim.pv (x:Lim):PV:=.agg [.str x.key,eI x.lo,eI x.hi,eI x.bin]
def inB (a n b:Int):Bool:=decide (a≤n)&&decide (n≤b)
theorem NE (n a b:Int):bA X YB [AI n,AI a,AI b] h K=K (AB (!inB a n b)) h []:=by rw[s_Out,zii];rfl
theorem HF (n a b:Int):bA X jE [AI n,AI a,AI b] h K=K (AB (inB a n b)) h []:=DN n a b
end Go.Am
end
section
/- What is wrong with limits,yD ways: printed by program. -/
open Go
set_option linter.unusedSimpArgs false
namespace Go.Am
variable {h:aA} {K:kA}
end Go.Am
end
section
/- Package lot on measured values,and what the reference says of them. -/
open Go
namespace Go.Am
variable {h:aA} {K:kA}
end Go.Am
end
section
/- Records: what they are,what is wrong with them. -/
open Go
set_option linter.unusedSimpArgs false
namespace Go.Am
variable {h:aA} {K:kA}
theorem zl9 {b:Nat}{P:kA}{vs:List AV}{h:aA}:VD true b P (some vs) h []=P (XA vs) (h.take (max b (XA vs).top)) []:=by
 simp [VD,close,XB]
attribute [go_sem] zl9
structure Rec where
 unit:List UInt8
 time:Int
 site:List UInt8
 res:List Int
def Rec.pv (r:Rec):PV:=.agg [.str r.unit,eI r.time,.str r.site,.sl none (r.res.map eI)]
def pD (n:Int):Bool:=inB 0 n 345686399999
theorem z1T (x y:Int):uB y x = - uB x y:=by
 unfold uB;split <;> split <;> (try split) <;> (try split) <;> omega
theorem kG (n:Int):bA X QH [AI n] h K=K (AB (pD n)) h []:=by
 refine xA ?_;rw[z9X rfl];simp only[LO,go_sem,NE,Bool.not_not];rfl
theorem eH (n:Int):bA X nJ [AI n] h K=K (AB (pD n)) h []:=by
 refine xA ?_;rw[zaz rfl];simp only[iP,go_sem,HF];rfl
end Go.Am
end
section
/- Entries of stations,plainly: what is wrong with them. -/
set_option linter.all false
namespace Go.Am
structure Ent where
 site:List UInt8
 no:Int
 time:Int
 kind:Int
 board:List UInt8
 step:List UInt8
 of:List UInt8
 other:Int
 deriving DecidableEq
def Ent.pv (x:Ent):PV:=.agg [.str x.site,eI x.no,eI x.time,eI x.kind,.str x.board,.str x.step,.str x.of,eI x.other]
def noB (n:Int):Bool:=inB 1 n 1000000
def fF (x:Ent):Bool:=if x.kind=7 then kB x.of else if x.kind=2 then kB x.board&&kB x.step else kB x.board
def mH (x:Ent):Ent:=if x.kind=7 then⟨x.site,x.no,x.time,x.kind,[],[],x.of,x.other⟩ else if x.kind=2 then⟨x.site,x.no,x.time,x.kind,x.board,x.step,[],0⟩ else⟨x.site,x.no,x.time,x.kind,x.board,[],[],0⟩
def mB (x:Ent):Int:=
 if kB x.site=false then 5 else if noB x.no=false∨pD x.time=false then 1 else if inB 1 x.kind 7=false then 4
 else if fF x=false then 5 else if x.kind=7∧noB x.other=false then 1 else if x≠mH x then 3 else 0
def EA (a b:Ent):Int:=if uB a.time b.time≠0 then uB a.time b.time else if OA a.site b.site≠0 then OA a.site b.site else uB a.no b.no
theorem z24 (a b:Ent):EA b a = - EA a b:=by
 unfold EA;rw[z1T a.time b.time,HH a.site b.site,z1T a.no b.no];by_cases h1:uB a.time b.time=0
 ·by_cases h2:OA a.site b.site=0
  ·simp [h1,h2]
  ·simp [h1,h2]
 ·simp [h1]
def rB (a b:Ent):Bool:=decide (a.site=b.site)&&decide (a.no=b.no)
def BC:Option Ent→List Ent→Int
 | _,[]=>0
 | p,x::r=>if mB x≠0 then mB x else if(match p with|some q=>decide (EA x q≤0)|none=>false)=true then 7 else BC (some x) r
def xC (seen:List Ent):List Ent→Bool
 | []=>false
 | x::r=>if seen.any (fun o=>rB o x) then true else xC (seen++[x]) r
def WA (l:List Ent):Int:=if(2000:Int)<l.length then 2 else if BC none l≠0 then BC none l else if xC [] l then 6 else 0
end Go.Am
end
section
/- A text split at a byte. -/
set_option linter.all false
namespace Go.Am
def CA (c:UInt8):List UInt8→List (List UInt8)
 | []=>[[]]
 | b::r=>if b=c then []::CA c r else match CA c r with
  | []=>[[b]]
  | p::q=>(b::p)::q
theorem KN (c:UInt8):∀s,CA c s≠[]
 | []=>by simp [CA]
 | b::r=>by
  unfold CA;split
  ·simp
  ·split <;> simp
theorem LN {c:UInt8}:∀{s:List UInt8},c∉s→CA c s=[s]
 | [],_=>rfl
 | b::r,h=>by
  simp only[List.mem_cons,not_or]at h;unfold CA;rw[if_neg (fun e=>h.1 e.symm),LN h.2]
theorem IF {c:UInt8}:∀{a b:List UInt8},c∉a→CA c (a++c::b)=a::CA c b
 | [],b,_=>by simp [CA]
 | x::a,b,h=>by
  simp only[List.mem_cons,not_or]at h;rw[List.cons_append,CA.eq_2,if_neg (fun e=>h.1 e.symm),IF h.2]
theorem mG (c:UInt8):∀s:List UInt8,(CA c s).length=s.count c+1
 | []=>rfl
 | b::r=>by
  unfold CA;by_cases e:b=c
  ·subst e;rw[if_pos rfl,List.length_cons,mG b r,List.count_cons_self]
  ·rw[if_neg e]
   have ih:=mG c r
   rw[List.count_cons_of_ne e];split
   ·rename_i h;exact absurd h (KN c r)
   ·rename_i p q h;rw[h]at ih;simpa using ih
theorem z2e {c:UInt8}{s:List UInt8}(h:c∈s):∃a b,s=a++c::b∧c∉a:=by
 induction s with
 | nil=>simp at h
 | cons x r ih=>
  by_cases e:x=c
  ·subst e;exact⟨[],r,rfl,by simp⟩
  ·rcases List.mem_cons.1 h with rfl|h
   ·exact absurd rfl e
   ·obtain⟨a,b,rfl,hb⟩:=ih h
    exact⟨x::a,b,rfl,by simp only[List.mem_cons,not_or];exact⟨fun q=>e q.symm,hb⟩⟩
def oC (c:UInt8):Nat→List UInt8→List UInt8
 | 0,s=>s
 | k+1,s=>oC c k ((s.dropWhile (· != c)).drop 1)
theorem z2x {c:UInt8}{a b:List UInt8}(h:c∉a):((a++c::b).dropWhile (· != c)).drop 1=b:=by
 induction a with
 | nil=>simp
 | cons x r ih=>
  simp only[List.mem_cons,not_or]at h;rw[List.cons_append,List.dropWhile_cons,if_pos (by simp;exact fun e=>h.1 e.symm)]
  exact ih h.2
theorem z5P (c:UInt8):∀(k:Nat) (s:List UInt8),k≤s.count c→CA c (oC c k s)=(CA c s).drop k∧(oC c k s).length≤s.length∧(oC c k s).count c=s.count c-k
 | 0,s,_=>⟨rfl,Nat.le_refl _,rfl⟩
 | k+1,s,h=>by
  obtain⟨a,b,rfl,hb⟩:=z2e (c:=c) (s:=s) (List.count_pos_iff.1 (by omega))
  have ha:a.count c=0:=List.count_eq_zero.2 hb
  have hc:(a++c::b).count c=b.count c+1:=by rw[List.count_append,List.count_cons_self,ha];omega
  obtain⟨h1,h2,h3⟩:=z5P c k b (by omega)
  unfold oC;rw[z2x hb,IF hb,List.drop_succ_cons,h1,h3,hc];exact⟨rfl,by simp;omega,by omega⟩
theorem z5Q (c:UInt8):∀(k:Nat) (s:List UInt8),oC c (k+1) s=((oC c k s).dropWhile (· != c)).drop 1
 | 0,s=>rfl
 | k+1,s=>by
  show oC c (k+1) _=_
  rw[z5Q c k];rfl
end Go.Am
end
section
/- A text read line by line. -/
set_option linter.all false
namespace Go.Am
def aB (s:List UInt8):List (List UInt8):=(CA 10 s).dropLast
def cD (s:List UInt8):Bool:=!((CA 10 s).getLast?.getD []).isEmpty
def oD {σ:Type}(take:σ→List UInt8→Bool × σ)(tail:Bool):Nat→List (List UInt8)→σ→(Nat×Bool)×σ
 | i,[],s=>bif tail then((i,false),s) else((0,true),s)
 | i,l::r,s=>bif (take s l).1 then oD take tail (i+1) r (take s l).2 else((i,false),(take s l).2)
theorem iY {σ:Type}{take:σ→List UInt8→Bool × σ}{tail:Bool}{i:Nat}{s:σ}:oD take tail i [] s=bif tail then((i,false),s) else((0,true),s):=rfl
theorem gY {σ:Type}{take:σ→List UInt8→Bool × σ}{tail:Bool}{i:Nat}{l:List UInt8}{r:List (List UInt8)}{s:σ}:oD take tail i (l::r) s=bif (take s l).1 then oD take tail (i+1) r (take s l).2 else((i,false),(take s l).2):=rfl
theorem z6E {c:UInt8}:∀{s:List UInt8},CA c (s++[c])=CA c s++[[]]
 | []=>by simp [CA]
 | b::r=>by
  have ih:=z6E (c:=c) (s:=r)
  rw[List.cons_append,CA.eq_2,CA.eq_2,ih];split
  ·rfl
  ·cases h:CA c r with
   | nil=>exact absurd h (KN c r)
   | cons p q=>rfl
theorem z04 {c:UInt8}:∀{s:List UInt8},(CA c s).getLast?=some []→s=[]∨s.getLast?=some c
 | [],_=>.inl rfl
 | b::r,h=>by
  right;rw[CA.eq_2]at h
  have hr:=KN c r
  by_cases e:b=c
  ·subst e
   rw[if_pos rfl,List.getLast?_cons]at h;cases hl:(CA b r).getLast? with
   | none=>simp at hl;exact absurd hl hr
   | some p=>
    rw[hl]at h;simp at h;subst h;rcases z04 hl with rfl|h2
    ·rfl
    ·rw[List.getLast?_cons,h2];rfl
  ·rw[if_neg e]at h
   cases hq:CA c r with
   | nil=>exact absurd hq hr
   | cons p q=>
    rw[hq]at h;cases q with
    | nil=>simp at h
    | cons p2 q2=>
     have:(CA c r).getLast?=some []:=by rw[hq];simpa using h
     rcases z04 this with rfl|h2
     ·simp [CA]at hq
     ·rw[List.getLast?_cons,h2];rfl
theorem zhy {s:List UInt8}(h:s.getLast?=some 10):CA 10 s.dropLast=aB s∧cD s=false:=by
 rcases List.eq_nil_or_concat s with rfl|⟨r,x,rfl⟩
 ·simp at h
 ·simp only[List.concat_eq_append]at *
  simp at h;subst h;have e:=z6E (c:=10) (s:=r)
  unfold aB cD;rw[e];simp
theorem zhz {s:List UInt8}(h0:s≠[])(h:s.getLast?≠some 10):∃t,CA 10 s=aB s++[t]∧cD s=true:=by
 have hne:=KN 10 s
 refine⟨(CA 10 s).getLast hne,(List.dropLast_concat_getLast hne).symm,?_⟩;unfold cD;rw[List.getLast?_eq_getLast hne];simp only[Option.getD_some,Bool.not_eq_true',List.isEmpty_eq_false_iff];intro e;rcases z04 (c:=10) (s:=s) (by rw[List.getLast?_eq_getLast hne,e]) with h1|h1
 ·exact h0 h1
 ·exact h h1
end Go.Am
end
section
/- Numbers in texts. -/
set_option linter.all false
namespace Go.Am
def lC (c:UInt8):Bool:=decide (48≤c.toNat)&&decide (c.toNat≤57)
def OB (s:List UInt8):List UInt8:=if s.take 1=[45] then s.drop 1 else s
def PB (digits:Nat)(s:List UInt8):Bool:=!(OB s).isEmpty&&decide ((OB s).length≤digits) && !(decide ((OB s).head?=some 48)&&(decide (1<(OB s).length)||decide ((OB s).length<s.length)))&&(OB s).all lC
def IC (s:List UInt8):Int:=if s.take 1=[45] then -(((tC 0 (OB s)).getD 0:Nat):Int) else((tC 0 (OB s)).getD 0:Nat)
theorem z2o:∀ (s:List UInt8)(acc:Nat),s.all lC=true→∃n,tC acc s=some n
 | [],acc,_=>⟨acc,rfl⟩
 | c::r,acc,h=>by
  simp only[List.all_cons,Bool.and_eq_true]at h;obtain⟨n,hn⟩:=z2o r (acc*10+(c.toNat-48)) h.2;refine⟨n,?_⟩;have hc:48≤c.toNat∧c.toNat≤57:=by simpa [lC] using h.1
  unfold tC;rw[if_pos hc,hn]
theorem zbG {r:List UInt8}:tC 0 (45::r)=none:=by
 unfold tC;rw[if_neg];decide
theorem z9v {s:List UInt8}(h1:OB s≠[])(h2:(OB s).length≤17)(h:(OB s).all lC=true):uH [.str s]=some (.tup [.p (.int .i64 (IC s)),.nili]):=by
 obtain⟨n,hn⟩:=z2o (OB s) 0 h;unfold uH IC;by_cases e:s.take 1=[45]
 ·have ed:OB s=s.drop 1:=by unfold OB;rw[if_pos e]
  cases s with
  | nil=>simp at e
  | cons c r=>
   simp at e;subst e;rw[ed]at h1 h2 hn;simp only[List.drop_one,List.tail_cons]at h1 h2 hn;have hr:1≤r.length:=by cases r with|nil=>exact absurd rfl h1|cons _ _=>simp
   simp only[List.length_cons];rw[if_pos ⟨by omega,by omega⟩,zbG]
   simp only[List.head?_cons,List.tail_cons];rw[if_pos ⟨trivial,by omega⟩,hn,ed]
   simp [hn]
 ·have ed:OB s=s:=by unfold OB;rw[if_neg e]
  rw[ed]at h1 h2 hn;have hr:1≤s.length:=by cases s with|nil=>exact absurd rfl h1|cons _ _=>simp
  simp only;rw[if_pos ⟨hr,by omega⟩,hn,if_neg e,ed,hn]
  rfl
theorem zbF:∀ (n:Nat),(xB n).head?=some 48→n=0:=by
 intro n;induction n using Nat.strongRecOn with
 | ind n ih=>
  intro h;rcases Nat.lt_or_ge n 10 with h1|h1
  ·rw[dJ h1]at h
   simp only[List.head?_cons,Option.some.injEq]at h;have:=congrArg UInt8.toNat h;rw[NP h1]at this;have e:(48:UInt8).toNat=48:=rfl
   omega
  ·rw[LP h1]at h
   have hl:=IL (n / 10) (n / 10) (by have:=@Nat.lt_pow_self (n / 10+1) 10 (by omega);omega)
   have:(xB (n / 10)).head?=some 48:=by
    cases hq:xB (n / 10) with
    | nil=>rw[hq]at hl;simp at hl
    | cons a r=>rw[hq]at h;simpa using h
   have:=ih (n / 10) (by omega) this
   omega
end Go.Am
end
section
/- Faults of nets: what the words mean,in plain Lean. -/
set_option linter.all false
namespace Go.Am
structure Flt where
 kind:Int
 nets:List Int
 deriving DecidableEq
end Go.Am
end
section
/- Faults read: the program's line and the reference's line agree. -/
set_option linter.all false
namespace Go.Am
end Go.Am
end
section
/- What is written is read: numbers,words,lines. -/
set_option linter.all false
namespace Go.Am
theorem MP:∀ n,xB n≠[]:=fun n h=>by
 have:=IL n n (by have:=@Nat.lt_pow_self (n+1) 10 (by omega);omega)
 rw[h]at this;simp at this
theorem z2n {n:Nat}(h:n<10):lC (NH n)=true:=by
 unfold lC;rw[NP h];simp;omega
theorem z2l:∀ (n:Nat),(xB n).all lC=true:=by
 intro n;induction n using Nat.strongRecOn with
 | ind n ih=>
  rcases Nat.lt_or_ge n 10 with h1|h1
  ·rw[dJ h1]
   simp [z2n h1]
  ·rw[LP h1,List.all_append,ih (n / 10) (by omega)]
   simp [z2n (show n%10<10 by omega)]
theorem jX {n:Nat}{c:UInt8}(h:c∈xB n):48≤c.toNat∧c.toNat≤57:=by
 have:=List.all_eq_true.1 (z2l n) c h;simpa [lC] using this
theorem z5v (n:Nat):OB (xB n)=xB n:=by
 unfold OB;rw[if_neg];intro h;cases hq:xB n with
 | nil=>exact MP n hq
 | cons a r=>
  rw[hq]at h;simp at h;have:=jX (n:=n) (c:=a) (by rw[hq];simp)
  rw[h]at this;have e:(45:UInt8).toNat=45:=rfl
  omega
theorem z5w (n:Int):OB (itoa n)=xB n.natAbs:=by
 unfold itoa;split
 ·simp [OB]
 ·exact z5v _
theorem oY (n:Int):IC (itoa n)=n:=by
 unfold IC;rw[z5w,zbH];simp only[Option.getD_some];unfold itoa;by_cases h:n<0
 ·rw[if_pos h]
  simp;omega
 ·rw[if_neg h]
  have:=z5v n.natAbs;have hne:¬(xB n.natAbs).take 1=[45]:=by
   intro q;unfold OB at this;rw[if_pos q]at this;have hl:=congrArg List.length this
   rw[List.length_drop]at hl;have:=MP n.natAbs;have:0<(xB n.natAbs).length:=List.length_pos_iff.2 this
   omega
  rw[if_neg hne];omega
theorem nY {d:Nat}{n:Int}(h:n.natAbs<10^d)(hd:0<d):PB d (itoa n)=true:=by
 obtain⟨k,rfl⟩:∃k,d=k+1:=⟨d-1,by omega⟩
 have hl:=IL k n.natAbs h
 have ha:=z2l n.natAbs
 have hne:=MP n.natAbs
 have hh:decide ((xB n.natAbs).head?=some 48)=true→n.natAbs=0:=fun e=>zbF _ (of_decide_eq_true e)
 unfold PB;rw[z5w];have e1:(xB n.natAbs).isEmpty=false:=by cases hq:xB n.natAbs with|nil=>exact absurd hq hne|cons _ _=>rfl
 have e2:decide ((xB n.natAbs).length≤k+1)=true:=by simpa using hl.2
 rw[e1,e2,ha];cases hz:decide ((xB n.natAbs).head?=some 48) with
 | false=>rfl
 | true=>
  have h0:n=0:=by have:=hh hz;omega
  subst h0;have e0:xB (Int.natAbs 0)=[48]:=by rw[show Int.natAbs 0=0 from rfl,dJ (by omega)];rfl
  have e9:itoa 0=[48]:=by unfold itoa;rw[if_neg (by omega)];exact e0
  rw[e0,e9];rfl
theorem zgq {n:Int}{c:UInt8}(h:c∈itoa n):c.toNat=45∨48≤c.toNat∧c.toNat≤57:=by
 unfold itoa at h;split at h
 ·rcases List.mem_cons.1 h with rfl|h
  ·exact .inl rfl
  ·exact .inr (jX h)
 ·exact .inr (jX h)
theorem z6F {c:UInt8}:∀(ls:List (List UInt8)),(∀l∈ls,c∉l)→CA c (ls.map fun l=>l++[c]).flatten=ls++[[]]
 | [],_=>by simp [CA]
 | l::r,h=>by
  have ih:=z6F r (fun x hx=>h x (by simp [hx]))
  have e:((l::r).map fun l=>l++[c]).flatten=l++c::(r.map fun l=>l++[c]).flatten:=by simp
  rw[e,IF (h l (by simp)),ih]
  rfl
theorem zh0 {ls:List (List UInt8)}(h:∀ l∈ls,(10:UInt8)∉l):aB (ls.map fun l=>l++[10]).flatten=ls∧cD (ls.map fun l=>l++[10]).flatten=false:=by
 unfold aB cD;rw[z6F ls h];simp
end Go.Am
end
section
/- Entries asv texts,plainly: written,read yD ways. -/
set_option linter.all false
namespace Go.Am
def sE:List (List UInt8):=[[],[101,110,116,101,114],[115,116,97,114,116],[112,97,115,115],[102,97,105,108],[114,101,112,97,105,114],[115,99,114,97,112],[117,110,100,111]]
def EC (k:Int):List UInt8:=(sE[k.toNat]?).getD []
def nD (x:Ent):List UInt8:=
 x.site++32::(itoa x.no++32::(itoa x.time++32::(EC x.kind++32::(if x.kind=2 then x.board++32::x.step else if x.kind=7 then x.of++32::itoa x.other else x.board))))
def aC (l:List Ent):List UInt8:=(l.map fun x=>nD x++[10]).flatten
def kE (w:List UInt8):Nat:=sE.findIdx fun y=>decide (y=w)
def OC:Ent:=⟨[],0,0,0,[],[],[],0⟩
def kEP (w:List UInt8):Int:=if 1≤kE w∧kE w≤7 then(kE w:Int) else 0
def we (ws:List (List UInt8))(i:Nat):List UInt8:=(ws[i]?).getD []
def jF (ws:List (List UInt8)):Ent×Bool:=
 if ws.length<5∨ws.contains []=true then(OC,false)
 else if(PB 15 (we ws 1)&&PB 15 (we ws 2))=false∨kEP (we ws 3)=0 then(OC,false)
 else if kEP (we ws 3)=2 then(if ws.length=6 then(⟨we ws 0,IC (we ws 1),IC (we ws 2),2,we ws 4,we ws 5,[],0⟩,true) else(OC,false))
 else if kEP (we ws 3)=7 then(if ws.length=6 then(⟨we ws 0,IC (we ws 1),IC (we ws 2),7,[],[],we ws 4,if PB 15 (we ws 5)=true then IC (we ws 5) else 0⟩,PB 15 (we ws 5)) else(OC,false))
 else if ws.length=5 then(⟨we ws 0,IC (we ws 1),IC (we ws 2),kEP (we ws 3),we ws 4,[],[],0⟩,true) else(OC,false)
theorem z4P (w:List UInt8):kE w≤8:=List.findIdx_le_length
def dD (cs:List Ent)(s:List UInt8):Bool×List Ent:=((jF (CA 32 s)).2,cs++[(jF (CA 32 s)).1])
end Go.Am
end
section
/- Records: what is wrong with them,yD ways. -/
open Go
set_option linter.unusedSimpArgs false
namespace Go.Am
variable {h:aA} {K:kA}
def orL:List Int→Int
 | []=>0
 | x::r=>if x≠0 then x else orL r
theorem zme (l:List Int)(hl:l.length≤1000):bA X SH [AL l] h K=K (AI (orL l)) h []:=by
 refine xA ?_;rw[zac rfl];simp only[PO,go_sem];refine NA (fun k:Nat=>⟨[(3,AI 0),(6,AL l),(7,AI l.length),(8,AI k)],h,[]⟩) (fun k=>k≤l.length∧orL (l.drop k)=orL l) (fun k=>l.length-k) 0 rfl ⟨by omega,rfl⟩ ?_
 rintro k ⟨hk,hp⟩
 rcases Nat.lt_or_ge k l.length with hlt|hge
 ·have g2:=TB eI hlt
  have w2:IntKind.i64.wrap ((k:Int)+1)=((k+1:Nat):Int):=nA _ (by omega) (by omega)
  rw[List.drop_eq_getElem_cons hlt,orL]at hp;by_cases hz:l[k]=0
  ·rw[if_neg (by simp [hz])]at hp
   simp only[go_sem,hlt,g2,hz,w2];exact⟨k+1,rfl,⟨by omega,hp⟩,by omega⟩
  ·rw[if_pos hz]at hp
   simp only[go_sem,hlt,g2,hz];rw[hp]
 ·have ek:k=l.length:=by omega
  subst ek;rw[List.drop_length]at hp;simp only[go_sem,Nat.lt_irrefl];rw[←hp];rfl
end Go.Am
end
section
/- Entries of stations: compared. -/
open Go
set_option linter.all false
set_option maxRecDepth 100000
namespace Go.Am
variable {h:aA} {K:kA}
abbrev lB (l:List Ent):AV:=.p (.sl (some 8) (l.map Ent.pv))
theorem KL {l:List Ent}:LC (some 8) (l.map Ent.pv):=fun x hx=>by obtain⟨n,_,rfl⟩:=List.mem_map.1 hx;rfl
theorem AE {x:Ent}:iB (some 8) 0 x.pv=some x.pv:=rfl
structure EntOk (x:Ent):Prop where
 s:x.site.length≤1000000
 b:x.board.length≤1000000
 p:x.step.length≤1000000
 o:x.of.length≤1000000
structure EntB (x:Ent):Prop where
 n:1≤x.no∧x.no≤1000000
 t:0≤x.time∧x.time≤345686399999
theorem TP {x:Ent}(h:mB x=0):EntB x:=by
 unfold mB at h;split at h
 ·cases h
 split at h
 ·cases h
 rename_i h2;rw[not_or]at h2;have a:noB x.no=true:=by simpa using h2.1
 have b:pD x.time=true:=by simpa using h2.2
 unfold noB inB at a;unfold pD inB at b;simp at a b;exact⟨a,b⟩
theorem z6v (a b:Ent):bA X OG [.p a.pv,.p b.pv] h K=K (AI (EA a b)) h []:=by
 refine xA ?_;rw[zaJ rfl];have o:=fun h K=>zme (h:=h) (K:=K) [uB a.time b.time,OA a.site b.site,uB a.no b.no] (by simp)
 simp only[AL,List.map_cons,List.map_nil]at o;have e:orL [uB a.time b.time,OA a.site b.site,uB a.no b.no]=EA a b:=by
  unfold EA;simp only[orL];split
  ·rfl
  ·split
   ·rfl
   ·split
    ·rfl
    ·rename_i h;simp only[ne_eq,Decidable.not_not]at h;rw[h]
 rw[e]at o;simp only[uP,Ent.pv,go_sem,zmc,z0w,o]
theorem zlT (a b:Ent)(ha:EntB a)(hb:EntB b):bA X bG [.p a.pv,.p b.pv] h K=K (AI (EA a b)) h []:=by
 refine xA ?_;rw[z1D rfl];have a1:=ha.t
 have a2:=hb.t
 have a3:=ha.n
 have a4:=hb.n
 have w:IntKind.i64.wrap (a.time-b.time)=a.time-b.time:=nA _ (by omega) (by omega)
 have w2:IntKind.i64.wrap (a.no-b.no)=a.no-b.no:=nA _ (by omega) (by omega)
 unfold EA;by_cases he:a.time=b.time
 ·have:uB a.time b.time=0:=by rw[he];unfold uB;simp
  rw[if_neg (by simp [this])]
  by_cases hs:a.site=b.site
  ·have hc:OA a.site b.site=0:=by rw[hs];exact CO _
   rw[if_neg (by simp [hc]),BO]
   simp only[VF,Ent.pv,go_sem,he,hs,w2,yS]
  ·have hc:OA a.site b.site≠0:=fun e=>hs (GH e)
   rw[if_pos hc];simp only[VF,Ent.pv,go_sem,he,hs,z0w]
 ·have hc:uB a.time b.time≠0:=by unfold uB;split <;> (try split) <;> omega
  rw[if_pos hc];rw[BO];simp only[VF,Ent.pv,go_sem,he,w,yS]
theorem zmq (a b:Ent):bA X iM [.p a.pv,.p b.pv] h K=K (AB (rB a b)) h []:=by
 refine xA ?_;rw[za2 rfl];unfold rB;by_cases h1:a.site=b.site
 ·simp only[vL,Ent.pv,go_sem,h1]
 ·simp only[vL,Ent.pv,go_sem,h1]
end Go.Am
end
section
/- What is wrong with an entry: the reference. -/
open Go
set_option linter.all false
set_option maxRecDepth 100000
namespace Go.Am
variable {h:aA} {K:kA}
attribute [-go_sem] ZA
theorem eqa8 (ks:List Nat)(hk:ks=[2,0,0,0,2,2,2,0])(neg:Bool)(c d:Ent):ZA ks neg (.p c.pv) (.p d.pv)=some (AB (bif neg then !decide (c=d) else decide (c=d))):=by
 subst hk;obtain⟨a1,a2,a3,a4,a5,a6,a7,a8⟩:=c;obtain⟨b1,b2,b3,b4,b5,b6,b7,b8⟩:=d;have e:decide ((⟨a1,a2,a3,a4,a5,a6,a7,a8⟩:Ent)=⟨b1,b2,b3,b4,b5,b6,b7,b8⟩)=(decide (a1=b1)&&(decide (a2=b2)&&(decide (a3=b3)&&(decide (a4=b4)&&(decide (a5=b5)&&(decide (a6=b6)&&(decide (a7=b7)&&(decide (a8=b8)&&true)))))))):=by
  rw[Bool.eq_iff_iff];simp [Ent.mk.injEq]
 rw[e];rfl
theorem xX (c d:Ent):ZA [2,0,0,0,2,2,2,0] true (.p c.pv) (.p d.pv)=some (AB (!decide (c=d))):=eqa8 _ rfl true c d
theorem eqa8p (c d:Ent):ZA [2,0,0,0,2,2,2,0] false (.p c.pv) (.p d.pv)=some (AB (decide (c=d))):=eqa8 _ rfl false c d
def Ent.box (x:Ent):Obj:=.box [AS x.site,AI x.no,AI x.time,AI x.kind,AS x.board,AS x.step,AS x.of,AI x.other]
def refE (x u:Ent)(nm:Bool):Int:=if kB x.site=false then 5 else if noB x.no=false∨pD x.time=false then 1 else if inB 1 x.kind 7=false then 4
 else if nm=false then 5 else if x.kind=7∧noB x.other=false then 1 else if x≠u then 3 else 0
theorem zlv (x:Ent):refE x (mH x) (fF x)=mB x:=rfl
theorem zfa (x u:Ent)(nm:Bool)(hs:x.site.length≤1000000)(K':Ex→St→Prop) :
 OD (bA X) X.gl (.ref h.length 0) (.ref (h.length+1) 0) (AB nm) (h++[x.box,u.box]) [] K'=K' .ret ⟨[(2,AI (refE x u nm))],h++[x.box,u.box],[]⟩:=by
 have k1:=fun h K=>xS (h:=h) (K:=K) x.site (by omega)
 have hq:=xX x u
 unfold refE noB;unfold Ent.box;simp only[Ent.pv]at hq;cases h1:kB x.site with
 | false=>simp only[OD,go_sem,or_false,false_or,true_or,or_true,true_and,and_true,false_and,and_false,not_true_eq_false,not_false_eq_true,↓k1,k1,h1]
 | true=>
  cases h2:inB 1 x.no 1000000 with
  | false=>simp only[OD,go_sem,or_false,false_or,true_or,or_true,true_and,and_true,false_and,and_false,not_true_eq_false,not_false_eq_true,↓k1,k1,HF,h1,h2]
  | true=>
   cases h3:pD x.time with
   | false=>simp only[OD,go_sem,or_false,false_or,true_or,or_true,true_and,and_true,false_and,and_false,not_true_eq_false,not_false_eq_true,↓k1,k1,HF,eH,h1,h2,h3]
   | true=>
    cases h4:inB 1 x.kind 7 with
    | false=>simp only[OD,go_sem,or_false,false_or,true_or,or_true,true_and,and_true,false_and,and_false,not_true_eq_false,not_false_eq_true,↓k1,k1,HF,eH,h1,h2,h3,h4]
    | true=>
     cases nm with
     | false=>simp only[OD,go_sem,or_false,false_or,true_or,or_true,true_and,and_true,false_and,and_false,not_true_eq_false,not_false_eq_true,↓k1,k1,HF,eH,h1,h2,h3,h4]
     | true=>
      by_cases h7:x.kind=7
      ·cases h6:inB 1 x.other 1000000 with
       | false=>simp only[OD,go_sem,or_false,false_or,true_or,or_true,true_and,and_true,false_and,and_false,not_true_eq_false,not_false_eq_true,↓k1,k1,HF,eH,h1,h2,h3,h4,eq_true h7,h6]
       | true=>
        by_cases e:x=u
        ·rw[decide_eq_true e]at hq
         simp only[OD,go_sem,or_false,false_or,true_or,or_true,true_and,and_true,false_and,and_false,not_true_eq_false,not_false_eq_true,↓k1,k1,HF,eH,h1,h2,h3,h4,eq_true h7,h6,hq,eq_true e]
        ·rw[decide_eq_false e]at hq
         simp only[OD,go_sem,or_false,false_or,true_or,or_true,true_and,and_true,false_and,and_false,not_true_eq_false,not_false_eq_true,↓k1,k1,HF,eH,h1,h2,h3,h4,eq_true h7,h6,hq,e]
      ·by_cases e:x=u
       ·rw[decide_eq_true e]at hq
        simp only[OD,go_sem,or_false,false_or,true_or,or_true,true_and,and_true,false_and,and_false,not_true_eq_false,not_false_eq_true,↓k1,k1,HF,eH,h1,h2,h3,h4,h7,hq,eq_true e]
       ·rw[decide_eq_false e]at hq
        simp only[OD,go_sem,or_false,false_or,true_or,or_true,true_and,and_true,false_and,and_false,not_true_eq_false,not_false_eq_true,↓k1,k1,HF,eH,h1,h2,h3,h4,h7,hq,e]
attribute [-go_sem] OD
theorem zlS (x:Ent)(hx:EntOk x):bA X fM [.p x.pv] h K=K (AI (mB x)) h []:=by
 refine xA ?_;rw[zax rfl];have k2:=fun h K=>xS (h:=h) (K:=K) x.board (by have:=hx.b;omega)
 have k3:=fun h K=>xS (h:=h) (K:=K) x.step (by have:=hx.p;omega)
 have k4:=fun h K=>xS (h:=h) (K:=K) x.of (by have:=hx.o;omega)
 rw[←zlv];have hs:x.site.length≤1000000:=hx.s
 have Q:=fun u nm K'=>zfa (h:=h) x u nm hs K'
 unfold Ent.box at Q;unfold mH fF;by_cases h7:x.kind=7
 ·have q:=Q ⟨x.site,x.no,x.time,x.kind,[],[],x.of,x.other⟩ (kB x.of)
  dsimp only at q;simp only[GG,Ent.pv,go_sem,↓k4,k4,h7]at q ⊢;simp only[GG,Ent.pv,go_sem,↓k4,k4,q,h7]
 ·by_cases h2:x.kind=2
  ·cases hb:kB x.board with
   | false=>
    have q:=Q ⟨x.site,x.no,x.time,x.kind,x.board,x.step,[],0⟩ false
    simp only[GG,Ent.pv,go_sem,↓k2,k2,↓k3,k3,h7,eq_true h2,hb,q]
   | true=>
    have q:=Q ⟨x.site,x.no,x.time,x.kind,x.board,x.step,[],0⟩ (kB x.step)
    simp only[GG,Ent.pv,go_sem,↓k2,k2,↓k3,k3,h7,eq_true h2,hb,q]
  ·have q:=Q ⟨x.site,x.no,x.time,x.kind,x.board,[],[],0⟩ (kB x.board)
   simp only[GG,Ent.pv,go_sem,↓k2,k2,↓k3,k3,h7,h2,q]
end Go.Am
end
