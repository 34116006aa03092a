/- Texts of the proof, laid together: CodesE, AmL, AmC, Ctx, SpStream, MathFrac, SpBase, SpList, PSort, SpShp, SpStr, SpFind, SpLimD, SpLim, SpLotA, SpRecD, SpGenA, SpSome, SpGenL. -/
import Derived.KernelRfl
import Derived.Test.YtpmbmbgfmcmlhaaGreatDoorlawUA5
set_option linter.all false
section
/- The functions asv abstract code,and asv formulas over their values: printed by program out of the translation. -/
set_option linter.all false
set_option maxRecDepth 100000
namespace Go.Am
def ziD:ACode:=.pr [] (.seq (rg [mV 6 (cI 0)] [6])
.ret)
def ziE:ACode:=.pr [] (.seq (rg [mV 6 (cI 0)] [6])
.ret)
def ziF:ACode:=.pr [0,1] (.seq (rg [mV 98 1,
uO 99 (.nilchk 98),
fA 100 4 none 99,
lD 101 none 100,
bN 102 .add 101 (cI 1),
uO 103 (.nilchk 98),
fA 104 4 none 103,
wO (.store none 104 102)] [0,1])
(.seq (rg [mV 105 1,
uO 106 (.nilchk 105),
fA 107 0 none 106,
wO (.store none 107 (cI 3))] [0,1])
(.seq (.seq (dr [dF (mV 108 1) [1],
dF (uO 109 (.nilchk 108)) [108],
dF (fA 110 4 none 109) [109],
dF (lD 111 none 110) [110],
dF (mV 112 0) [0],
dF (uO 113 (.nilchk 112)) [112],
dF (fA 114 0 (some 2) 113) [113],
dF (fA 115 1 none 114) [114],
dF (lD 116 none 115) [115],
dF (bN 117 .eql 111 116) [111,116]] [1,117])
(.cond 117 (rg [mV 118 1,
uO 119 (.nilchk 118),
fA 120 0 none 119,
wO (.store none 120 (cI 5))] [])
.skip))
ziE)))
def ziC:ACode:=(.seq (rg [uO 5 (.box 2),
mV 6 (cI 0)] [0,1,5])
(.seq (.block 0 (.seq (rg [mV 10 1,
uO 11 (.nilchk 10),
fA 12 0 none 11,
lD 13 none 12,
bN 14 .neq 13 (cI 2),
mV 9 14] [0,1,5,9])
(.cond 9 (.seq (rg [mV 6 (cI 11)] [6])
.ret)
(.seq (dr [dF (mV 16 1) [1],
dF (uO 17 (.nilchk 16)) [16],
dF (fA 18 3 none 17) [17],
dF (lD 19 none 18) [18],
dF (fA 20 0 none 5) [5],
dF (lD 21 none 20) [20],
dF (bN 22 .neq 19 21) [19,21],
dF (mV 15 22) [22]] [0,1,5,15])
(.cond 15 (.seq (rg [mV 6 (cI 13)] [6])
.ret)
.skip)))))
(.seq (rg [fA 23 3 none 5,
lD 24 none 23,
bN 25 .eql 24 (cI 3),
mV 7 25] [0,1,5,7])
(.seq (dr [dF (mV 26 0) [0],
dF (mV 27 0) [0],
dF (uO 28 (.nilchk 27)) [27],
dF (fA 29 4 none 28) [28],
dF (lD 30 none 29) [29],
dF (fA 31 4 none 5) [5],
dF (lD 32 none 31) [31],
dF (mV 33 1) [1],
dF (uO 34 (.nilchk 33)) [33],
dF (fA 35 2 none 34) [34],
dF (lD 36 none 35) [35],
dF (mV 37 1) [1],
dF (uO 38 (.nilchk 37)) [37],
dF (fA 39 1 none 38) [38],
dF (lD 40 none 39) [39],
dF (fA 41 2 none 5) [5],
dF (lD 42 none 41) [41],
dF (mV 43 7) [7],
dF (uO 44 (.build [.p (.str []),.p (.str []),.p (.int .i64 0),.p (.int .i64 0),.p (.bool false)] [(0,1,32),(1,1,36),(2,1,40),(3,1,42),(4,1,43)])) [32,36,40,42,43],
dF (uO 45 (.bsl false (some 5) 1 (.agg [.str [],.str [],.int .i64 0,.int .i64 0,.bool false]) [(0,44)])) [44],
dT (uO 46 (.app (some 5) 30 45)) [30,45],
dF (uO 47 (.nilchk 26)) [26],
dF (fA 48 4 none 47) [47],
dT (wO (.store none 48 46)) [48,46]] [0,1,5,7])
(.seq (rg [mV 49 0,
mV 50 1,
fA 51 2 none 5,
lD 52 none 51,
cL 53 CV [49,50,52]] [0,1,5,7])
(.seq (rg [mV 54 1,
fA 55 2 none 5,
lD 56 none 55,
uO 57 (.nilchk 54),
fA 58 1 none 57,
wO (.store none 58 56)] [0,1,7])
(.seq (.seq (rg [mV 59 7] [0,1,59])
(.cond 59 (.seq (rg [mV 60 1,
uO 61 (.nilchk 60),
fA 62 4 none 61,
wO (.store none 62 (cI 0))] [0,1])
(.seq (rg [mV 63 0,
mV 64 1,
uO 65 (.nilchk 64),
fA 66 2 none 65,
lD 67 none 66,
cL 68 z2i [63,67],
bN 69 .add 68 (cI 1),
mV 8 69] [0,1,8])
(.seq (.seq (rg [mV 70 8,
mV 71 0,
uO 72 (.nilchk 71),
fA 73 0 (some 2) 72,
fA 74 0 none 73,
lD 75 none 74,
lN 76 75,
bN 77 .eql 70 76] [0,1,8,77])
(.cond 77 (rg [mV 78 1,
mV 79 1,
uO 80 (.nilchk 78),
fA 81 0 none 80,
wO (.store none 81 (cI 4)),
uO 82 (.nilchk 79),
fA 83 2 none 82,
wO (.store none 83 (cS []))] [])
(rg [mV 84 1,
mV 85 1,
mV 86 0,
uO 87 (.nilchk 86),
fA 88 0 (some 2) 87,
fA 89 0 none 88,
lD 90 none 89,
mV 91 8,
iA 92 none 90 91,
lD 93 none 92,
uO 94 (.nilchk 84),
fA 95 0 none 94,
wO (.store none 95 (cI 1)),
uO 96 (.nilchk 85),
fA 97 2 none 96,
wO (.store none 97 93)] [])))
ziD)))
.skip))
ziF)))))))
def z7i:AFun:=⟨3,[.t 6],ziC,false,false⟩
def ziH:ACode:=.pr [0,1,2,11,12] (rg [bN 47 .add 12 (cI 1),
mV 12 47] [0,1,2,11,12])
def ziI:ACode:=.pr [0,1,2,11,12] (.seq (rg [bN 13 .lss 12 11] [0,1,2,11,12,13])
(.seq (.cond 13 .skip
(.exit 0))
(.seq (.block 1 (.seq (rg [mV 14 12,
mV 6 14] [0,1,2,6,11,12])
(.seq (dr [dF (mV 15 0) [0],
dF (uO 16 (.nilchk 15)) [15],
dF (fA 17 5 none 16) [16],
dF (lD 18 none 17) [17],
dF (mV 19 6) [6],
dF (iA 20 (some 3) 18 19) [18,19],
dF (fA 21 0 none 20) [20],
dF (lD 22 none 21) [21],
dF (mV 23 1) [1],
dF (uO 24 (.nilchk 23)) [23],
dF (fA 25 3 none 24) [24],
dF (lD 26 none 25) [25],
dF (bN 27 .eql 22 26) [22,26],
dF (mV 28 27) [27],
dF (gD 29 28 true (.mv 0)) [0,28],
dF (gD 30 28 true (.nilchk 29)) [29,28],
dF (gD 31 28 true (.faddr 5 none 30)) [30,28],
dF (gD 32 28 true (.load none 31)) [31,28],
dF (gD 33 28 true (.mv 6)) [6,28],
dF (gD 34 28 true (.iaddr (some 3) 32 33)) [32,33,28],
dF (gD 35 28 true (.faddr 2 none 34)) [34,28],
dF (gD 36 28 true (.load none 35)) [35,28],
dF (gD 37 28 true (.bin .lss 36 (cI 0))) [36,28],
dF (uO 38 (.pick 28 37 cF)) [28,37]] [0,1,2,6,11,12,38])
(.cond 38 (rg [mV 39 0,
uO 40 (.nilchk 39),
fA 41 5 none 40,
lD 42 none 41,
mV 43 6,
mV 44 2,
iA 45 (some 3) 42 43,
fA 46 2 none 45,
wO (.store none 46 44)] [0,1,2,11,12])
.skip))))
ziH)))
def ziJ:ACode:=.pr [0,1] (.seq (dr [dF (mV 48 0) [0],
dF (uO 49 (.nilchk 48)) [48],
dF (fA 50 3 none 49) [49],
dF (lD 51 none 50) [50],
dF (mV 52 1) [1],
dF (uO 53 (.nilchk 52)) [52],
dF (fA 54 3 none 53) [53],
dF (lD 55 none 54) [54],
dT (wO (.mdel (none,[2]) 51 55)) [51,55]] [1])
(rg [mV 56 1,
uO 57 (.nilchk 56),
fA 58 3 none 57,
wO (.store none 58 (cS []))] []))
def ziG:ACode:=(.seq (.seq (rg [mV 7 0,
uO 8 (.nilchk 7),
fA 9 5 none 8,
lD 10 none 9,
lN 11 10,
mV 12 (cI 0)] [0,1,2,11,12])
(.block 0 (.loop ziI)))
ziJ)
def z7j:AFun:=⟨3,[],ziG,false,false⟩
def ziK:ACode:=(.seq (rg [uO 5 (.box 2),
mV 6 (cI 0)] [0,1,5])
(.seq (dr [dF (mV 10 0) [0],
dF (uO 11 (.nilchk 10)) [10],
dF (fA 12 3 none 11) [11],
dF (lD 13 none 12) [12],
dF (fA 14 0 none 5) [5],
dF (lD 15 none 14) [14],
dF (uO 16 (.look (none,[2]) true (.p (.str [])) 13 15)) [13,15],
dF (mV 9 16) [16],
dF (eX 17 9 0) [9],
dF (eX 18 9 1) [9],
dF (mV 7 17) [17],
dF (mV 8 18) [18]] [0,1,5,8])
(.seq (.block 0 (.seq (rg [mV 20 1,
uO 21 (.nilchk 20),
fA 22 0 none 21,
lD 23 none 22,
bN 24 .neq 23 (cI 1),
mV 19 24] [0,1,5,8,19])
(.cond 19 (.seq (rg [mV 6 (cI 11)] [6])
.ret)
(.seq (dr [dF (fA 26 5 none 5) [5],
dF (lD 27 none 26) [26],
dF (mV 28 1) [1],
dF (uO 29 (.nilchk 28)) [28],
dF (fA 30 2 none 29) [29],
dF (lD 31 none 30) [30],
dF (bN 32 .neq 27 31) [27,31],
dF (mV 25 32) [32]] [0,1,5,8,25])
(.cond 25 (.seq (rg [mV 6 (cI 3)] [6])
.ret)
(.seq (rg [mV 34 8,
mV 33 34] [0,1,5,33])
(.cond 33 (.seq (rg [mV 6 (cI 12)] [6])
.ret)
.skip)))))))
(.seq (dr [dF (mV 35 1) [1],
dF (mV 36 1) [1],
dF (mV 37 1) [1],
dF (fA 38 2 none 5) [5],
dF (lD 39 none 38) [38],
dF (fA 40 0 none 5) [5],
dF (lD 41 none 40) [40],
dF (uO 42 (.nilchk 35)) [35],
dF (fA 43 0 none 42) [42],
dA (wO (.store none 43 (cI 2))) [43] true [] [4,6],
dF (uO 44 (.nilchk 36)) [36],
dF (fA 45 1 none 44) [44],
dA (wO (.store none 45 39)) [45,39] true [] [6],
dF (uO 46 (.nilchk 37)) [37],
dF (fA 47 3 none 46) [46],
dT (wO (.store none 47 41)) [47,41]] [0,5])
(.seq (dr [dF (mV 48 0) [0],
dF (uO 49 (.nilchk 48)) [48],
dF (fA 50 3 none 49) [49],
dF (lD 51 none 50) [50],
dF (fA 52 0 none 5) [5],
dF (lD 53 none 52) [52],
dF (fA 54 4 none 5) [5],
dF (lD 55 none 54) [54],
dT (wO (.mupd (none,[2]) 51 53 55)) [51,53,55]] [0,5])
(.seq (dr [dF (mV 56 0) [0],
dF (mV 57 0) [0],
dF (uO 58 (.nilchk 57)) [57],
dF (fA 59 5 none 58) [58],
dF (lD 60 none 59) [59],
dF (fA 61 0 none 5) [5],
dF (lD 62 none 61) [61],
dF (fA 63 2 none 5) [5],
dF (lD 64 none 63) [63],
dF (uO 65 (.build [.p (.str []),.p (.int .i64 0),.p (.int .i64 0)] [(0,1,62),(1,1,64),(2,1,(cI (-1)))])) [62,64],
dF (uO 66 (.bsl false (some 3) 1 (.agg [.str [],.int .i64 0,.int .i64 0]) [(0,65)])) [65],
dT (uO 67 (.app (some 3) 60 66)) [60,66],
dF (uO 68 (.nilchk 56)) [56],
dF (fA 69 5 none 68) [68],
dT (wO (.store none 69 67)) [69,67]] [])
(.seq (rg [mV 6 (cI 0)] [6])
.ret)))))))
def z7k:AFun:=⟨3,[.t 6],ziK,false,false⟩
def ziM:ACode:=.pr [0,3,5,38,45] (.cond 45 (.seq (rg [mV 48 0,
mV 49 5,
lD 50 (some 8) 3,
cL 51 z2j [48,49,50],
mV 4 51] [4])
.ret)
(.seq (rg [bN 53 .eql 38 (cI 5),
mV 52 53] [0,3,5,52])
(.cond 52 (.seq (.seq (rg [mV 54 5,
uO 55 (.nilchk 54),
fA 56 0 none 55,
lD 57 none 56,
bN 58 .neq 57 (cI 3)] [3,5,58])
(.cond 58 (.seq (rg [mV 4 (cI 11)] [4])
.ret)
.skip))
(.seq (dr [dF (mV 59 5) [5],
dF (mV 60 5) [5],
dF (fA 61 2 none 3) [3],
dF (lD 62 none 61) [61],
dF (uO 63 (.nilchk 59)) [59],
dF (fA 64 0 none 63) [63],
dA (wO (.store none 64 (cI 1))) [64] true [] [3],
dF (uO 65 (.nilchk 60)) [60],
dF (fA 66 1 none 65) [65],
dT (wO (.store none 66 62)) [66,62]] [])
(.seq (rg [mV 4 (cI 0)] [4])
.ret)))
.skip)))
def ziN:ACode:=.pr [3,5] (.seq (dr [dF (mV 89 5) [5],
dF (mV 90 5) [5],
dF (fA 91 2 none 3) [3],
dF (lD 92 none 91) [91],
dF (uO 93 (.nilchk 89)) [89],
dF (fA 94 0 none 93) [93],
dA (wO (.store none 94 (cI 5))) [94] true [] [3],
dF (uO 95 (.nilchk 90)) [90],
dF (fA 96 1 none 95) [95],
dT (wO (.store none 96 92)) [96,92]] [])
(.seq (rg [mV 4 (cI 0)] [4])
.ret))
def ziO:ACode:=.pr [0,3,5] (.seq (.seq (rg [mV 67 5,
uO 68 (.nilchk 67),
fA 69 0 none 68,
lD 70 none 69,
bN 71 .eql 70 (cI 4),
mV 72 71,
gD 73 72 false (.mv 5),
gD 74 72 false (.nilchk 73),
gD 75 72 false (.faddr 0 none 74),
gD 76 72 false (.load none 75),
gD 77 72 false (.bin .eql 76 (cI 5)),
uO 78 (.pick 72 cT 77)] [0,3,5,78])
(.cond 78 (.seq (rg [mV 4 (cI 11)] [4])
.ret)
.skip))
(.seq (.seq (rg [mV 79 5,
uO 80 (.nilchk 79),
fA 81 0 none 80,
lD 82 none 81,
bN 83 .eql 82 (cI 2)] [0,3,5,83])
(.cond 83 (rg [mV 84 0,
mV 85 5,
fA 86 2 none 3,
lD 87 none 86,
cL 88 CV [84,85,87]] [3,5])
.skip))
ziN))
def ziL:ACode:=(.seq (rg [uO 3 (.box 1),
mV 4 (cI 0)] [0,3])
(.seq (dr [dF (mV 6 0) [0],
dF (uO 7 (.nilchk 6)) [6],
dF (fA 8 2 none 7) [7],
dF (lD 9 none 8) [8],
dF (fA 10 4 none 3) [3],
dF (lD 11 none 10) [10],
dF (uO 12 (.look (none,[2]) false (.nilp) 9 11)) [9,11],
dF (mV 5 12) [12]] [0,3,5])
(.seq (.seq (rg [fA 13 3 none 3,
lD 14 none 13,
bN 15 .eql 14 (cI 1)] [0,3,5,15])
(.cond 15 (.seq (.seq (rg [mV 16 5,
uO 17 (.isnil 0 true 16)] [0,3,17])
(.cond 17 (.seq (rg [mV 4 (cI 6)] [4])
.ret)
.skip))
(.seq (dr [dF (mV 18 0) [0],
dF (uO 19 (.nilchk 18)) [18],
dF (fA 20 2 none 19) [19],
dF (lD 21 none 20) [20],
dF (fA 22 4 none 3) [3],
dF (lD 23 none 22) [22],
dF (fA 24 2 none 3) [3],
dF (lD 25 none 24) [24],
dF (mV 26 0) [0],
dF (uO 27 (.nilchk 26)) [26],
dF (fA 28 0 (some 2) 27) [27],
dF (fA 29 0 none 28) [28],
dF (lD 30 none 29) [29],
dF (iA 31 none 30 (cI 0)) [30],
dF (lD 32 none 31) [31],
dF (uO 33 (.build [.p (.int .i64 0),.p (.int .i64 0),.p (.str []),.p (.str []),.p (.int .i64 0)] [(0,1,(cI 1)),(1,1,25),(2,1,32)])) [25,32],
dA (uO 34 (.box 33)) [33] true [] [3,5],
dT (wO (.mupd (none,[2]) 21 23 34)) [21,23,34]] [])
(.seq (rg [mV 4 (cI 0)] [4])
.ret)))
.skip))
(.seq (.seq (rg [mV 35 5,
uO 36 (.isnil 0 false 35)] [0,3,5,36])
(.cond 36 (.seq (rg [mV 4 (cI 8)] [4])
.ret)
.skip))
(.seq (.seq (rg [fA 37 3 none 3,
lD 38 none 37] [0,3,5,38])
(.block 0 (.seq (rg [bN 40 .eql 38 (cI 2),
mV 39 40] [0,3,5,38,39])
(.cond 39 (.seq (rg [mV 41 0,
mV 42 5,
lD 43 (some 8) 3,
cL 44 z2k [41,42,43],
mV 4 44] [4])
.ret)
(.seq (.seq (rg [bN 46 .eql 38 (cI 3),
mV 45 46] [0,3,5,38,45])
(.cond 45 .skip
(rg [bN 47 .eql 38 (cI 4),
mV 45 47] [0,3,5,38,45])))
ziM)))))
ziO)))))
def z7l:AFun:=⟨2,[.t 4],ziL,false,false⟩
def ziQ:ACode:=.pr [5,6,17,18,19] (rg [bN 59 .add 19 (cI 1),
mV 19 59] [5,6,17,18,19])
def ziR:ACode:=.pr [5,6,17,18,19] (.seq (rg [bN 20 .lss 19 18] [5,6,17,18,19,20])
(.seq (.cond 20 .skip
(.exit 0))
(.seq (.block 1 (.seq (rg [mV 21 19,
iA 22 (some 8) 17 19,
lD 23 (some 8) 22,
uO 8 (.alloc [.p (.str []),.p (.int .i64 0),.p (.int .i64 0),.p (.int .i64 0),.p (.str []),.p (.str []),.p (.str []),.p (.int .i64 0)]),
mV 7 21,
wO (.store (some 8) 8 23)] [5,6,7,8,17,18,19])
(.seq (.seq (rg [mV 24 6,
mV 25 7,
iA 26 none 24 25,
lD 27 none 26,
uO 28 (.un .not 27),
mV 29 28,
gD 30 29 false (.faddr 3 none 8),
gD 31 29 false (.load none 30),
gD 32 29 false (.bin .eql 31 (cI 7)),
uO 33 (.pick 29 cT 32)] [5,6,7,8,17,18,19,33])
(.cond 33 (.exit 1)
.skip))
(.seq (rg [mV 34 5,
lD 35 (some 8) 8,
cL 36 z2l [34,35],
mV 9 36] [5,6,7,9,17,18,19])
(.seq (rg [mV 37 9,
bN 38 .neq 37 (cI 0)] [5,6,7,9,17,18,19,38])
(.cond 38 (.seq (rg [mV 39 5,
mV 40 5,
uO 41 (.nilchk 40),
fA 42 6 none 41,
lD 43 none 42,
mV 44 7,
uO 45 (.bsl false none 1 (.int .i64 0) [(0,44)]),
uO 46 (.app none 43 45),
uO 47 (.nilchk 39),
fA 48 6 none 47,
wO (.store none 48 46)] [5,6,9,17,18,19])
(rg [mV 49 5,
mV 50 5,
uO 51 (.nilchk 50),
fA 52 7 none 51,
lD 53 none 52,
mV 54 9,
uO 55 (.bsl false none 1 (.int .i64 0) [(0,54)]),
uO 56 (.app none 53 55),
uO 57 (.nilchk 49),
fA 58 7 none 57,
wO (.store none 58 56)] [5,6,17,18,19]))
.skip))))))
ziQ)))
def ziS:ACode:=.pr [5] (.seq (rg [mV 60 5,
mV 4 60] [4])
.ret)
def ziP:ACode:=(.seq (rg [uO 2 (.uns 12 0 [0]),
mV 4 (.c (.nilp))] [1,2])
(.seq (rg [lD 10 (some 2) 2,
uO 11 (.mkmap),
uO 12 (.mkmap),
uO 13 (.build [.sl0 none,.p (.int .i64 0),.nilm,.nilm,.sl0 (some 5),.sl0 (some 3),.sl0 none,.sl0 none] [(0,2,10),(2,1,11),(3,1,12)]),
uO 14 (.uns 12 0 [13]),
mV 5 14] [1,5])
(.seq (rg [mV 15 1,
cL 16 z2f [15],
mV 6 16] [1,5,6])
(.seq (.seq (rg [mV 17 1,
lN 18 17,
mV 19 (cI 0)] [5,6,17,18,19])
(.block 0 (.loop (.scope ziR))))
ziS))))
def z7m:AFun:=⟨2,[.t 4],ziP,false,false⟩
def ziT:ACode:=(.seq (rg [mV 2 (cI 0)] [0])
(.seq (.seq (rg [mV 3 0,
cL 4 QF [3],
uO 5 (.un .not 4)] [5])
(.cond 5 (.seq (rg [mV 2 (cI 1)] [2])
.ret)
.skip))
(.seq (rg [mV 2 (cI 0)] [2])
.ret)))
def z7n:AFun:=⟨1,[.t 2],ziT,false,false⟩
def ziV:ACode:=.pr [3,8,9,10] (.seq (rg [bN 11 .lss 10 9] [3,8,9,10,11])
(.seq (.cond 11 .skip
(.exit 0))
(.seq (.block 1 (.seq (rg [iA 12 (some 8) 8 10,
lD 13 (some 8) 12,
uO 5 (.alloc [.p (.str []),.p (.int .i64 0),.p (.int .i64 0),.p (.int .i64 0),.p (.str []),.p (.str []),.p (.str []),.p (.int .i64 0)]),
wO (.store (some 8) 5 13)] [3,5,8,9,10])
(.seq (rg [fA 14 0 none 5,
lD 15 none 14,
fA 16 1 none 5,
lD 17 none 16,
uO 18 (.build [.p (.str []),.p (.int .i64 0)] [(0,1,15),(1,1,17)]),
uO 6 (.alloc [.p (.str []),.p (.int .i64 0)]),
wO (.store (some 2) 6 18)] [3,6,8,9,10])
(.seq (.seq (rg [mV 19 3,
lD 20 (some 2) 6,
uO 21 (.look ((some 2),[2,0]) false (AB false) 19 20)] [3,6,8,9,10,21])
(.cond 21 (.seq (rg [mV 2 cT] [2])
.ret)
.skip))
(rg [mV 22 3,
lD 23 (some 2) 6,
wO (.mupd ((some 2),[2,0]) 22 23 cT)] [3,8,9,10])))))
(rg [bN 24 .add 10 (cI 1),
mV 10 24] [3,8,9,10]))))
def ziW:ACode:=.pr [] (.seq (rg [mV 2 cF] [2])
.ret)
def ziU:ACode:=(.seq (rg [mV 2 cF] [0])
(.seq (rg [uO 7 (.mkmap),
mV 3 7] [0,3])
(.seq (.seq (rg [mV 8 0,
lN 9 8,
mV 10 (cI 0)] [3,8,9,10])
(.block 0 (.loop (.scope ziV))))
ziW)))
def z7o:AFun:=⟨1,[.t 2],ziU,false,false⟩
def ziY:ACode:=.pr [0,1,5] (.seq (.seq (rg [mV 8 5,
bN 9 .gtr 8 (cI 0),
mV 10 9,
gD 11 10 true (.mv 0),
gD 12 10 true (.mv 5),
gD 13 10 true (.bin .sub 12 (cI 1)),
gD 14 10 true (.iaddr (some 8) 11 13),
gD 15 10 true (.faddr 2 none 14),
gD 16 10 true (.load none 15),
gD 17 10 true (.mv 1),
gD 18 10 true (.bin .gtr 16 17),
uO 19 (.pick 10 18 cF)] [0,1,5,19])
(.cond 19 .skip
(.exit 0)))
(.block 1 (rg [mV 20 5,
bN 21 .sub 20 (cI 1),
mV 5 21] [0,1,5])))
def ziZ:ACode:=.pr [0,5] (.seq (rg [mV 22 0,
mV 23 5,
uO 24 (.slice (some 8) 22 none (some 23) none),
mV 4 24] [4])
.ret)
def ziX:ACode:=(.seq (rg [mV 4 (.c (.p (.sl (some 8) [])))] [0,1])
(.seq (rg [mV 6 0,
lN 7 6,
mV 5 7] [0,1,5])
(.seq (.block 0 (.loop ziY))
ziZ)))
def z7p:AFun:=⟨2,[.t 4],ziX,false,false⟩
def zja:ACode:=(.seq (rg [mV 4 (cS []),
mV 5 (cI 0)] [0,1])
(.seq (.seq (rg [mV 6 0,
cL 7 EV [6],
uO 8 (.un .not 7),
mV 9 8,
gD 10 9 false (.mv 1),
gD 11 9 false (.call EV [10]),
gD 12 9 false (.un .not 11),
uO 13 (.pick 9 cT 12)] [0,1,13])
(.cond 13 (.seq (rg [mV 4 (cS []),
mV 5 (cI 1)] [4,5])
.ret)
.skip))
(.seq (rg [mV 14 0,
mV 15 1,
cL 16 bH [14,15],
mV 4 16,
mV 5 (cI 0)] [4,5])
.ret)))
def z7q:AFun:=⟨2,[.t 4,.t 5],zja,false,false⟩
def zjb:ACode:=(.seq (rg [mV 2 cF] [0])
(.seq (rg [mV 3 0,
cL 4 tB [3,(cI 0),(cI 15)],
uO 5 (.un .not 4),
mV 2 5] [2])
.ret))
def z7r:AFun:=⟨1,[.t 2],zjb,false,false⟩
def z6o:ACode:=(.seq (rg [mV 4 (cI 0)] [0,1])
(.seq (rg [uO 6 (.build [.p (.int .i64 0),.p (.int .i64 0)] [(0,1,(cI 1)),(1,1,(cI 0))]),
uO 7 (.build [.p (.int .i64 0),.p (.int .i64 0)] [(0,1,(cI 1)),(1,1,(cI 2))]),
uO 8 (.build [.p (.int .i64 0),.p (.int .i64 0)] [(0,1,(cI 3)),(1,1,(cI 9))]),
uO 9 (.build [.p (.int .i64 0),.p (.int .i64 0)] [(0,1,(cI 4)),(1,1,(cI 5))]),
uO 10 (.build [.p (.int .i64 0),.p (.int .i64 0)] [(0,1,(cI 4)),(1,1,(cI 5))]),
uO 11 (.build [.p (.int .i64 0),.p (.int .i64 0)] [(0,1,(cI 6)),(1,1,(cI 8))]),
uO 12 (.build [.p (.int .i64 0),.p (.int .i64 0)] [(0,1,(cI 6)),(1,1,(cI 7))]),
uO 13 (.build [.p (.int .i64 0),.p (.int .i64 0)] [(0,1,(cI 4)),(1,1,(cI 8))]),
uO 14 (.build [.p (.int .i64 0),.p (.int .i64 0)] [(0,1,(cI 1)),(1,1,(cI 2))]),
uO 15 (.build [.p (.int .i64 0),.p (.int .i64 0)] [(0,1,(cI 10)),(1,1,(cI 0))]),
uO 16 (.build [.p (.int .i64 0),.p (.int .i64 0)] [(0,1,(cI 11)),(1,1,(cI 12))]),
uO 17 (.build [.p (.int .i64 0),.p (.int .i64 0)] [(0,1,(cI 11)),(1,1,(cI 12))]),
uO 18 (.build [.p (.int .i64 0),.p (.int .i64 0)] [(0,1,(cI 13)),(1,1,(cI 15))]),
uO 19 (.build [.p (.int .i64 0),.p (.int .i64 0)] [(0,1,(cI 13)),(1,1,(cI 14))]),
uO 20 (.build [.p (.int .i64 0),.p (.int .i64 0)] [(0,1,(cI 11)),(1,1,(cI 15))]),
uO 21 (.build [.p (.int .i64 0),.p (.int .i64 0)] [(0,1,(cI 1)),(1,1,(cI 2))]),
uO 22 (.build [.p (.int .i64 0),.p (.int .i64 0),.p (.int .i64 0),.p (.int .i64 0),.p (.int .i64 0),.p (.int .i64 0),.p (.int .i64 0),.p (.int .i64 0),.p (.int .i64 0),.p (.int .i64 0),.p (.int .i64 0),.p (.int .i64 0),.p (.int .i64 0),.p (.int .i64 0),.p (.int .i64 0),.p (.int .i64 0),.p (.int .i64 0),.p (.int .i64 0),.p (.int .i64 0),.p (.int .i64 0),.p (.int .i64 0),.p (.int .i64 0),.p (.int .i64 0),.p (.int .i64 0),.p (.int .i64 0),.p (.int .i64 0),.p (.int .i64 0),.p (.int .i64 0),.p (.int .i64 0),.p (.int .i64 0),.p (.int .i64 0),.p (.int .i64 0)] [(0,2,6),(2,2,7),(4,2,8),(6,2,9),(8,2,10),(10,2,11),(12,2,12),(14,2,13),(16,2,14),(18,2,15),(20,2,16),(22,2,17),(24,2,18),(26,2,19),(28,2,20),(30,2,21)]),
uO 5 (.alloc [.p (.int .i64 0),.p (.int .i64 0),.p (.int .i64 0),.p (.int .i64 0),.p (.int .i64 0),.p (.int .i64 0),.p (.int .i64 0),.p (.int .i64 0),.p (.int .i64 0),.p (.int .i64 0),.p (.int .i64 0),.p (.int .i64 0),.p (.int .i64 0),.p (.int .i64 0),.p (.int .i64 0),.p (.int .i64 0),.p (.int .i64 0),.p (.int .i64 0),.p (.int .i64 0),.p (.int .i64 0),.p (.int .i64 0),.p (.int .i64 0),.p (.int .i64 0),.p (.int .i64 0),.p (.int .i64 0),.p (.int .i64 0),.p (.int .i64 0),.p (.int .i64 0),.p (.int .i64 0),.p (.int .i64 0),.p (.int .i64 0),.p (.int .i64 0)]),
wO (.store (some 32) 5 22)] [0,1,5])
(.seq (rg [mV 23 0,
mV 24 1,
uO 25 (.iaddra 16 (some 2) 5 23),
uO 26 (.iaddra 2 none 25 24),
lD 27 none 26,
mV 4 27] [4])
.ret)))
def fK:AFun:=⟨2,[.t 4],z6o,false,false⟩
def eV (C:Hd)(gl:GL)(v0 v1:AV)(h:aA)(x:Esc)(K:KT):Prop:=
 pK (UB [.p (.int .i64 0),.p (.int .i64 0)] [(0,1,(AI 1)),(1,1,(AI 0))]) fun t1=>
 pK (UB [.p (.int .i64 0),.p (.int .i64 0)] [(0,1,(AI 1)),(1,1,(AI 2))]) fun t2=>
 pK (UB [.p (.int .i64 0),.p (.int .i64 0)] [(0,1,(AI 3)),(1,1,(AI 9))]) fun t3=>
 pK (UB [.p (.int .i64 0),.p (.int .i64 0)] [(0,1,(AI 4)),(1,1,(AI 5))]) fun t4=>
 pK (UB [.p (.int .i64 0),.p (.int .i64 0)] [(0,1,(AI 4)),(1,1,(AI 5))]) fun t5=>
 pK (UB [.p (.int .i64 0),.p (.int .i64 0)] [(0,1,(AI 6)),(1,1,(AI 8))]) fun t6=>
 pK (UB [.p (.int .i64 0),.p (.int .i64 0)] [(0,1,(AI 6)),(1,1,(AI 7))]) fun t7=>
 pK (UB [.p (.int .i64 0),.p (.int .i64 0)] [(0,1,(AI 4)),(1,1,(AI 8))]) fun t8=>
 pK (UB [.p (.int .i64 0),.p (.int .i64 0)] [(0,1,(AI 1)),(1,1,(AI 2))]) fun t9=>
 pK (UB [.p (.int .i64 0),.p (.int .i64 0)] [(0,1,(AI 10)),(1,1,(AI 0))]) fun t10=>
 pK (UB [.p (.int .i64 0),.p (.int .i64 0)] [(0,1,(AI 11)),(1,1,(AI 12))]) fun t11=>
 pK (UB [.p (.int .i64 0),.p (.int .i64 0)] [(0,1,(AI 11)),(1,1,(AI 12))]) fun t12=>
 pK (UB [.p (.int .i64 0),.p (.int .i64 0)] [(0,1,(AI 13)),(1,1,(AI 15))]) fun t13=>
 pK (UB [.p (.int .i64 0),.p (.int .i64 0)] [(0,1,(AI 13)),(1,1,(AI 14))]) fun t14=>
 pK (UB [.p (.int .i64 0),.p (.int .i64 0)] [(0,1,(AI 11)),(1,1,(AI 15))]) fun t15=>
 pK (UB [.p (.int .i64 0),.p (.int .i64 0)] [(0,1,(AI 1)),(1,1,(AI 2))]) fun t16=>
 pK (UB [.p (.int .i64 0),.p (.int .i64 0),.p (.int .i64 0),.p (.int .i64 0),.p (.int .i64 0),.p (.int .i64 0),.p (.int .i64 0),.p (.int .i64 0),.p (.int .i64 0),.p (.int .i64 0),.p (.int .i64 0),.p (.int .i64 0),.p (.int .i64 0),.p (.int .i64 0),.p (.int .i64 0),.p (.int .i64 0),.p (.int .i64 0),.p (.int .i64 0),.p (.int .i64 0),.p (.int .i64 0),.p (.int .i64 0),.p (.int .i64 0),.p (.int .i64 0),.p (.int .i64 0),.p (.int .i64 0),.p (.int .i64 0),.p (.int .i64 0),.p (.int .i64 0),.p (.int .i64 0),.p (.int .i64 0),.p (.int .i64 0),.p (.int .i64 0)] [(0,2,t1),(2,2,t2),(4,2,t3),(6,2,t4),(8,2,t5),(10,2,t6),(12,2,t7),(14,2,t8),(16,2,t9),(18,2,t10),(20,2,t11),(22,2,t12),(24,2,t13),(26,2,t14),(28,2,t15),(30,2,t16)]) fun t17=>
 alK [.p (.int .i64 0),.p (.int .i64 0),.p (.int .i64 0),.p (.int .i64 0),.p (.int .i64 0),.p (.int .i64 0),.p (.int .i64 0),.p (.int .i64 0),.p (.int .i64 0),.p (.int .i64 0),.p (.int .i64 0),.p (.int .i64 0),.p (.int .i64 0),.p (.int .i64 0),.p (.int .i64 0),.p (.int .i64 0),.p (.int .i64 0),.p (.int .i64 0),.p (.int .i64 0),.p (.int .i64 0),.p (.int .i64 0),.p (.int .i64 0),.p (.int .i64 0),.p (.int .i64 0),.p (.int .i64 0),.p (.int .i64 0),.p (.int .i64 0),.p (.int .i64 0),.p (.int .i64 0),.p (.int .i64 0),.p (.int .i64 0),.p (.int .i64 0)] h fun t18 h19 y20=>
 wK (vC (some 32) t18 t17 h19) fun t21 h22 y23=>
 pK (mH 16 (some 2) t18 v0) fun t24=>
 pK (mH 2 none t24 v1) fun t25=>
 pK (YA none t25 h22) fun t26=>
 K .ret ⟨[(4,t26)],h22,(y23++(y20++x))⟩
theorem zdw {C gl v0 v1 h x K}:NW C gl fK.body ⟨enter [v0,v1],h,x⟩ K=eV C gl v0 v1 h x K:=by kernel_rfl
def dY:ACode:=.pr [1,5,6,7,25] (rg [bN 53 .add 25 (cI 1),
mV 25 53] [1,5,6,7,25])
def z0V (C:Hd)(gl:GL)(v1 v5 v6 v7 v25:AV)(h:aA)(x:Esc)(K:KT):Prop:=
 pK (BA .add v25 (AI 1)) fun t1=>
 K .normal ⟨[(1,v1),(5,v5),(6,v6),(7,v7),(25,t1)],h,x⟩
theorem zdy {C gl e h x K}:NW C gl dY ⟨e,h,x⟩ K=z0V C gl (bA e 1) (bA e 5) (bA e 6) (bA e 7) (bA e 25) h x K:=by kernel_rfl
def GZ (q1:ACode):ACode:=.pr [1,5,6,7,25] (.seq (rg [bN 26 .lss 25 (cI 2)] [1,5,6,7,25,26])
(.seq (.cond 26 .skip
(.exit 2))
(.seq (.block 3 (.seq (rg [mV 27 25,
mV 8 27] [1,5,6,7,8,25])
(.seq (rg [mV 28 7,
mV 29 8,
cL 30 aH [28,29],
mV 9 30] [1,5,6,7,8,9,25])
(.seq (rg [mV 32 5,
mV 33 9,
uO 34 (.look (none,[0]) true (.p (.str [])) 32 33),
mV 31 34,
eX 35 31 0,
eX 36 31 1,
mV 10 35,
mV 11 36] [1,5,6,7,8,9,11,25])
(.seq (rg [mV 37 11,
uO 38 (.un .not 37)] [1,5,6,7,8,9,25,38])
(.cond 38 (.seq (rg [mV 39 5,
mV 40 9,
mV 41 5,
mV 42 7,
uO 43 (.look (none,[0]) false (.p (.str [])) 41 42),
mV 44 8,
bN 45 .add (cI 48) 44,
uO 46 (.conv (.i .i32) 45),
uO 47 (.conv .r2s 46),
bN 48 .add 43 47,
wO (.mupd (none,[0]) 39 40 48)] [1,5,6,7,9,25])
(rg [mV 49 6,
mV 50 9,
uO 51 (.bsl false none 1 (.int .i64 0) [(0,50)]),
uO 52 (.mnext (some none) [49,51]),
mV 6 52] [1,5,6,7,25]))
.skip))))))
q1)))
def eM:ACode:=GZ dY
def fV (C:Hd)(gl:GL)(q1:ACode)(v1 v5 v6 v7 v25:AV)(h:aA)(x:Esc)(K:KT):Prop:=
 pK (BA .lss v25 (AI 2)) fun t1=>
 FB t1 (C aH [v7,v25] h fun t2 h3 y4=>
 pK (WB (none,[0]) true (.p (.str [])) v5 t2 h3) fun t5=>
 pK (lH t5 0) fun t6=>
 pK (lH t5 1) fun t7=>
 pK (oUn .not t7) fun t8=>
 FB t8 (pK (WB (none,[0]) false (.p (.str [])) v5 v7 h3) fun t9=>
 pK (BA .add (AI 48) v25) fun t10=>
 pK (SI .i32 t10) fun t11=>
 wK (rD .r2s t11 h3) fun t12 h13 y14=>
 pK (BA .add t9 t12) fun t15=>
 wK (uC (none,[0]) v5 t2 t15 h13) fun t16 h17 y18=>
 wK (dC false none 1 (.int .i64 0) [(0,t2)] h17) fun t19 h20 y21=>
 nqK (some none) [v6,t19] h20 fun t22 h23 y24=>
 NW C gl q1 ⟨[(1,v1),(5,v5),(6,t22),(7,v7),(25,v25)],h23,(y24++(y21++(y18++(y14++(y4++x)))))⟩ K)
 (NW C gl q1 ⟨[(1,v1),(5,v5),(6,v6),(7,v7),(8,v25),(9,t2),(25,v25),(38,t8)],h3,(y4++x)⟩ K))
 (K (.exit 2) ⟨[(1,v1),(5,v5),(6,v6),(7,v7),(25,v25),(26,t1)],h,x⟩)
theorem z6i {C gl q1 e h x K}:NW C gl (GZ q1) ⟨e,h,x⟩ K=fV C gl q1 (bA e 1) (bA e 5) (bA e 6) (bA e 7) (bA e 25) h x K:=by kernel_rfl
theorem zdz {C gl e h x K}:NW C gl eM ⟨e,h,x⟩ K=fV C gl dY (bA e 1) (bA e 5) (bA e 6) (bA e 7) (bA e 25) h x K:=z6i
theorem zf1 {C gl e h x K}:NW C gl (.loop eM) ⟨e,h,x⟩ K=DA C gl eM K [(1,bA e 1),(5,bA e 5),(6,bA e 6),(7,bA e 7),(25,bA e 25)] h x:=mB
def IZ (q2:ACode):ACode:=.pr [1,5,6] (.seq (.seq (rg [mV 17 6,
lN 18 17,
bN 19 .gtr 18 (cI 0)] [1,5,6,19])
(.cond 19 .skip
(.exit 0)))
(.block 1 (.seq (rg [mV 20 6,
iA 21 none 20 (cI 0),
lD 22 none 21,
mV 7 22] [1,5,6,7])
(.seq (rg [mV 23 6,
uO 24 (.slice none 23 (some (cI 1)) none none),
mV 6 24] [1,5,6,7])
(.seq (rg [mV 25 (cI 0)] [1,5,6,7,25])
(.block 2 (.loop q2)))))))
def fM:ACode:=IZ eM
def iV (C:Hd)(gl:GL)(q2:ACode)(v1 v5 v6:AV)(h:aA)(x:Esc)(K:KT):Prop:=
 pK (ID v6) fun t1=>
 pK (BA .gtr t1 (AI 0)) fun t2=>
 FB t2 (pK (dD none v6 (AI 0) h) fun t3=>
 pK (YA none t3 h) fun t4=>
 pK (eG none v6 (some (AI 1)) none none h) fun t5=>
 NW C gl (.loop q2) ⟨[(1,v1),(5,v5),(6,t5),(7,t4),(25,(AI 0))],h,x⟩ (JB 2 (JB 1 K)))
 (K (.exit 0) ⟨[(1,v1),(5,v5),(6,v6),(19,t2)],h,x⟩)
theorem z6j {C gl q2 e h x K}:NW C gl (IZ q2) ⟨e,h,x⟩ K=iV C gl q2 (bA e 1) (bA e 5) (bA e 6) h x K:=by kernel_rfl
theorem zd0 {C gl e h x K}:NW C gl fM ⟨e,h,x⟩ K=iV C gl eM (bA e 1) (bA e 5) (bA e 6) h x K:=z6j
theorem zf2 {C gl e h x K}:NW C gl (.loop fM) ⟨e,h,x⟩ K=DA C gl fM K [(1,bA e 1),(5,bA e 5),(6,bA e 6)] h x:=mB
def eY:ACode:=.pr [1,5] (.seq (rg [mV 54 5,
mV 55 1,
uO 56 (.look (none,[0]) false (.p (.str [])) 54 55),
mV 4 56] [4])
.ret)
def z0W (C:Hd)(gl:GL)(v1 v5:AV)(h:aA)(x:Esc)(K:KT):Prop:=
 pK (WB (none,[0]) false (.p (.str [])) v5 v1 h) fun t1=>
 K .ret ⟨[(4,t1)],h,x⟩
theorem zd1 {C gl e h x K}:NW C gl eY ⟨e,h,x⟩ K=z0W C gl (bA e 1) (bA e 5) h x K:=by kernel_rfl
def FZ (q3 q4:ACode):ACode:=(.det (.seq (rg [mV 4 (cS [])] [0,1])
(.seq (rg [uO 12 (.mkmap),
mV 13 0,
wO (.mupd (none,[0]) 12 13 (cS [])),
mV 14 12,
mV 5 14] [0,1,5])
(.seq (rg [mV 15 0,
uO 16 (.bsl true none 1 (.int .i64 0) [(0,15)]),
mV 6 16] [1,5,6])
(.seq (.block 0 (.loop q3))
q4)))))
def QM:AFun:=⟨2,[.t 4],FZ fM eY,false,false⟩
def nO (C:Hd)(gl:GL)(q3 q4:ACode)(v0 v1:AV)(h:aA)(x:Esc)(K:KT):Prop:=
 mmK h fun t1 h2 y3=>
 wK (uC (none,[0]) t1 v0 (.p (.str [])) h2) fun t4 h5 y6=>
 wK (dC true none 1 (.int .i64 0) [(0,v0)] h5) fun t7 h8 y9=>
 NW C gl (.loop q3) ⟨[(1,v1),(5,t1),(6,t7)],h8,(y9++(y6++(y3++x)))⟩ (JB 0 (yC C gl q4 K))
theorem z6h {C gl q3 q4 v0 v1 h x K}:NW C gl (FZ q3 q4) ⟨enter [v0,v1],h,x⟩ K=nO C gl q3 q4 v0 v1 h x K:=by kernel_rfl
theorem zdx {C gl v0 v1 h x K}:NW C gl QM.body ⟨enter [v0,v1],h,x⟩ K=nO C gl fM eY v0 v1 h x K:=z6h
def zjd:ACode:=.pr [0,10,11,12] (.seq (rg [bN 13 .lss 12 11] [0,10,11,12,13])
(.seq (.cond 13 .skip
(.exit 0))
(.seq (.block 1 (.seq (rg [iA 14 (some 6) 10 12,
lD 15 (some 6) 14,
uO 4 (.alloc [.p (.int .i64 0),.p (.int .i64 0),.p (.int .i64 0),.p (.str []),.p (.str []),.p (.str [])]),
wO (.store (some 6) 4 15)] [0,4,10,11,12])
(.seq (.seq (rg [fA 16 0 none 4,
lD 17 none 16,
cL 18 tB [17,(cI 1),(cI 10)]] [0,4,10,11,12,18])
(.cond 18 (.seq (rg [mV 2 (cI 4)] [2])
.ret)
.skip))
(.seq (rg [lD 20 (some 6) 4,
cL 21 z2u [20],
mV 19 21,
eX 22 19 0,
eX 23 19 1,
uO 5 (.alloc [.p (.int .i64 0),.p (.int .i64 0),.p (.int .i64 0),.p (.str []),.p (.str []),.p (.str [])]),
wO (.store (some 6) 5 22),
mV 6 23] [0,4,5,6,10,11,12])
(.block 2 (.seq (rg [mV 25 6,
bN 26 .neq 25 (cI 0),
mV 24 26] [0,4,5,6,10,11,12,24])
(.cond 24 (.seq (rg [mV 27 6,
mV 2 27] [2])
.ret)
(.seq (rg [lD 29 (some 6) 5,
fA 30 0 none 4,
lD 31 none 30,
uO 32 (.build [.p (.int .i64 0),.p (.int .i64 0),.p (.int .i64 0),.p (.str []),.p (.str []),.p (.str [])] [(0,1,31)]),
uO 33 (.eqa [0,0,0,2,2,2] true 29 32),
mV 28 33] [0,10,11,12,28])
(.cond 28 (.seq (rg [mV 2 (cI 3)] [2])
.ret)
.skip)))))))))
(rg [bN 34 .add 12 (cI 1),
mV 12 34] [0,10,11,12]))))
def zje:ACode:=.pr [0] (.seq (.seq (rg [mV 35 0,
cL 36 GV [35,(.c (.nilp))],
uO 37 (.nilchk 36),
fA 38 37 none 37,
lD 39 none 38,
bN 40 .gtr 39 (cI 20000)] [40])
(.cond 40 (.seq (rg [mV 2 (cI 2)] [2])
.ret)
.skip))
(.seq (rg [mV 2 (cI 0)] [2])
.ret))
def zjc:ACode:=(.seq (rg [mV 2 (cI 0)] [0])
(.seq (.seq (rg [mV 7 0,
lN 8 7,
bN 9 .gtr 8 (cI 1000)] [0,9])
(.cond 9 (.seq (rg [mV 2 (cI 2)] [2])
.ret)
.skip))
(.seq (.seq (rg [mV 10 0,
lN 11 10,
mV 12 (cI 0)] [0,10,11,12])
(.block 0 (.loop (.scope zjd))))
zje)))
def z7s:AFun:=⟨1,[.t 2],zjc,false,false⟩
def zjf:ACode:=(.seq (rg [mV 2 (cI 0),
mV 3 (cI 0)] [0])
(.seq (.seq (rg [mV 5 0,
cL 6 z2r [5],
mV 4 6] [0,4])
(.seq (rg [mV 7 4,
bN 8 .neq 7 (cI 0)] [0,4,8])
(.cond 8 (.seq (rg [mV 9 4,
mV 2 (cI 0),
mV 3 9] [2,3])
.ret)
.skip)))
(.seq (rg [mV 10 0,
cL 11 GV [10,(.c (.nilp))],
uO 12 (.nilchk 11),
fA 13 37 none 12,
lD 14 none 13,
mV 2 14,
mV 3 (cI 0)] [2,3])
.ret)))
def z7t:AFun:=⟨1,[.t 2,.t 3],zjf,false,false⟩
def zjg:ACode:=(.seq (rg [mV 2 cF] [0])
(.seq (rg [mV 3 0,
bN 4 .eql 3 (cI 7),
mV 5 4,
gD 6 5 false (.mv 0),
gD 7 5 false (.bin .eql 6 (cI 8)),
uO 8 (.pick 5 cT 7),
mV 2 8] [2])
.ret))
def z7u:AFun:=⟨1,[.t 2],zjg,false,false⟩
def zjh:ACode:=(.seq (rg [mV 2 cF] [0])
(.seq (rg [mV 3 0,
cL 4 tB [3,(cI 1),(cI 6)],
uO 5 (.un .not 4),
mV 2 5] [2])
.ret))
def z7v:AFun:=⟨1,[.t 2],zjh,false,false⟩
def zjj:ACode:=.pr [2,4] (.seq (rg [lD 56 (some 6) 4,
wO (.store (some 6) 2 56),
mV 3 (cI 0)] [2,3])
.ret)
def zji:ACode:=(.seq (rg [uO 1 (.box 0),
uO 2 (.alloc [.p (.int .i64 0),.p (.int .i64 0),.p (.int .i64 0),.p (.str []),.p (.str []),.p (.str [])]),
mV 3 (cI 0)] [1,2])
(.seq (rg [lD 5 (some 6) 1,
uO 4 (.alloc [.p (.int .i64 0),.p (.int .i64 0),.p (.int .i64 0),.p (.str []),.p (.str []),.p (.str [])]),
wO (.store (some 6) 4 5)] [1,2,4])
(.seq (.block 0 (.seq (rg [fA 18 0 none 1,
lD 19 none 18,
bN 20 .eql 19 (cI 1),
mV 21 20,
gD 22 21 false (.faddr 0 none 1),
gD 23 21 false (.load none 22),
gD 24 21 false (.bin .eql 23 (cI 2)),
uO 25 (.pick 21 cT 24),
mV 26 25,
gD 27 26 false (.faddr 0 none 1),
gD 28 26 false (.load none 27),
gD 29 26 false (.bin .eql 28 (cI 10)),
uO 30 (.pick 26 cT 29),
mV 17 30] [1,2,4,17])
(.cond 17 (.seq (rg [fA 31 1 none 4,
wO (.store none 31 (cI 0))] [1,2,4])
(.seq (rg [fA 32 1 none 1,
lD 33 none 32,
cL 34 z2z [33],
uO 35 (.un .not 34)] [2,4,35])
(.cond 35 (.seq (rg [lD 36 (some 6) 4,
wO (.store (some 6) 2 36),
mV 3 (cI 1)] [2,3])
.ret)
.skip)))
(.seq (rg [fA 38 0 none 1,
lD 39 none 38,
bN 40 .eql 39 (cI 9),
mV 37 40] [1,2,4,37])
(.cond 37 (.seq (rg [fA 41 2 none 4,
wO (.store none 41 (cI 0))] [1,2,4])
(.seq (rg [fA 42 2 none 1,
lD 43 none 42,
cL 44 tB [43,(cI 0),(cI 20000)]] [2,4,44])
(.cond 44 (.seq (rg [lD 45 (some 6) 4,
wO (.store (some 6) 2 45),
mV 3 (cI 1)] [2,3])
.ret)
.skip)))
(.seq (rg [fA 47 0 none 1,
lD 48 none 47,
cL 49 FV [48],
mV 46 49] [1,2,4,46])
(.cond 46 (.seq (rg [fA 50 3 none 4,
wO (.store none 50 (cS [])),
fA 51 4 none 4,
wO (.store none 51 (cS [])),
fA 52 5 none 4,
wO (.store none 52 (cS []))] [1,2,4])
(.seq (dr [dF (lD 53 (some 6) 4) [4],
dF (lD 54 (some 6) 1) [1],
dA (cL 55 z2x [54]) [54] true [] [0],
dT (wO (.store (some 6) 2 53)) [2,53],
dF (mV 3 55) [55]] [2,3])
.ret))
(.seq (rg [fA 6 3 none 4,
wO (.store none 6 (cS []))] [1,2,4])
(.seq (.seq (rg [fA 7 3 none 1,
lD 8 none 7,
cL 9 LG [8],
uO 10 (.un .not 9)] [1,2,4,10])
(.cond 10 (.seq (rg [lD 11 (some 6) 4,
wO (.store (some 6) 2 11),
mV 3 (cI 9)] [2,3])
.ret)
.skip))
(.seq (rg [fA 12 3 none 1,
lD 13 none 12,
uO 14 (.lens 13),
bN 15 .gtr 14 (cI 2000)] [2,4,15])
(.cond 15 (.seq (rg [lD 16 (some 6) 4,
wO (.store (some 6) 2 16),
mV 3 (cI 2)] [2,3])
.ret)
.skip)))))))))))
zjj)))
def z7w:AFun:=⟨1,[.cell 2 (some 6),.t 3],zji,false,false⟩
def zjl:ACode:=.pr [5,13,14,15] (.seq (rg [bN 16 .lss 15 14] [5,13,14,15,16])
(.seq (.cond 16 .skip
(.exit 0))
(.seq (.block 1 (.seq (rg [iA 17 (some 6) 13 15,
lD 18 (some 6) 17,
uO 7 (.alloc [.p (.int .i64 0),.p (.int .i64 0),.p (.int .i64 0),.p (.str []),.p (.str []),.p (.str [])]),
wO (.store (some 6) 7 18)] [5,7,13,14,15])
(.seq (.seq (rg [mV 19 5,
uO 20 (.nilchk 19),
fA 21 37 none 20,
lD 22 none 21,
bN 23 .gtr 22 (cI 20000)] [5,7,13,14,15,23])
(.cond 23 (.exit 0)
.skip))
(rg [mV 24 5,
lD 25 (some 6) 7,
cL 26 z2w [24,25]] [5,13,14,15]))))
(rg [bN 27 .add 15 (cI 1),
mV 15 27] [5,13,14,15]))))
def zjm:ACode:=.pr [5] (.seq (rg [mV 28 5,
mV 4 28] [4])
.ret)
def zjk:ACode:=(.seq (rg [mV 4 (.c (.nilp))] [0,1])
(.seq (rg [cL 8 z23 [],
mV 9 1,
uO 10 (.isnil 0 true 9),
uO 11 (.build [.p (.int .i64 0),.p (.int .i64 0),.p (.int .i64 0),.p (.str []),.p (.str []),.p (.str []),.p (.int .i64 0),.p (.int .i64 0),.p (.int .i64 0),.p (.str []),.p (.str []),.p (.str []),.p (.int .i64 0),.p (.int .i64 0),.p (.int .i64 0),.p (.str []),.p (.str []),.p (.str []),.p (.int .i64 0),.p (.int .i64 0),.p (.int .i64 0),.p (.str []),.p (.str []),.p (.str []),.p (.int .i64 0),.p (.int .i64 0),.p (.int .i64 0),.p (.str []),.p (.str []),.p (.str []),.p (.int .i64 0),.p (.int .i64 0),.p (.int .i64 0),.p (.str []),.p (.str []),.p (.str []),.p (.int .i64 0),.p (.int .i64 0),.p (.int .i64 0),.p (.int .i64 0),.sl0 none,.sl0 none,.sl0 none,.sl0 none,.sl0 none,.p (.bool false)] [(0,36,8),(36,1,(cI 0)),(45,1,10)]),
uO 12 (.uns 12 0 [11]),
mV 5 12] [0,5])
(.seq (.seq (rg [mV 13 0,
lN 14 13,
mV 15 (cI 0)] [5,13,14,15])
(.block 0 (.loop (.scope zjl))))
zjm)))
def z7x:AFun:=⟨2,[.t 4],zjk,false,false⟩
def zjn:ACode:=(.seq (rg [mV 8 0,
uO 9 (.nilchk 8),
fA 10 37 none 9,
lD 11 none 10,
bN 12 .add 11 (cI 1),
uO 13 (.nilchk 8),
fA 14 37 none 13,
wO (.store none 14 12)] [0,1,2,3])
(.seq (rg [mV 15 0,
uO 16 (.nilchk 15),
fA 17 45 none 16,
lD 18 none 17] [0,1,2,3,18])
(.cond 18 (dr [dF (mV 19 0) [0],
dF (mV 20 0) [0],
dF (mV 21 0) [0],
dF (mV 22 0) [0],
dF (uO 23 (.nilchk 22)) [22],
dF (fA 24 42 none 23) [23],
dF (lD 25 none 24) [24],
dF (mV 26 1) [1],
dF (uO 27 (.bsl false none 1 (.int .u8 0) [(0,26)])) [26],
dT (uO 28 (.app none 25 27)) [25,27],
dF (mV 29 0) [0],
dF (uO 30 (.nilchk 29)) [29],
dF (fA 31 43 none 30) [30],
dA (lD 32 none 31) [31] false [9] [],
dF (mV 33 2) [2],
dA (uO 34 (.bsl false none 1 (.int .u8 0) [(0,33)])) [33] false [9] [],
dT (uO 35 (.app none 32 34)) [32,34],
dF (mV 36 0) [0],
dF (uO 37 (.nilchk 36)) [36],
dF (fA 38 44 none 37) [37],
dA (lD 39 none 38) [38] false [9,16] [],
dF (mV 40 3) [3],
dA (uO 41 (.bsl false none 1 (.int .u8 0) [(0,40)])) [40] false [9,16] [],
dT (uO 42 (.app none 39 41)) [39,41],
dF (uO 43 (.nilchk 19)) [19],
dF (fA 44 42 none 43) [43],
dT (wO (.store none 44 28)) [44,28],
dF (uO 45 (.nilchk 20)) [20],
dF (fA 46 43 none 45) [45],
dT (wO (.store none 46 35)) [46,35],
dF (uO 47 (.nilchk 21)) [21],
dF (fA 48 44 none 47) [47],
dT (wO (.store none 48 42)) [48,42]] [])
.skip)))
def z7y:AFun:=⟨4,[],zjn,false,false⟩
def zjp:ACode:=.pr [0,3,5,7,9,10,11,12,13,14,93,94] (rg [mV 126 0,
mV 127 13,
mV 128 10,
mV 129 12,
uO 130 (.idxs 128 129),
mV 131 14,
cL 132 BO [126,127,130,131]] [0,3,5,7,9,10,11,93,94])
def zjq:ACode:=.pr [0,3,5,7,9,10,11,12,13,14,93,94] (.seq (.seq (rg [mV 102 12,
mV 103 5,
uO 104 (.lens 103),
bN 105 .sub 102 104,
mV 15 105] [0,3,5,7,9,10,11,12,13,14,15,93,94])
(.seq (rg [mV 106 15,
bN 107 .geq 106 (cI 0),
mV 108 107,
gD 109 108 true (.mv 15),
gD 110 108 true (.faddr 5 none 3),
gD 111 108 true (.load none 110),
gD 112 108 true (.lens 111),
gD 113 108 true (.bin .lss 109 112),
uO 114 (.pick 108 113 cF),
mV 115 114,
gD 116 115 true (.faddr 5 none 3),
gD 117 115 true (.load none 116),
gD 118 115 true (.mv 15),
gD 119 115 true (.idxs 117 118),
gD 120 115 true (.bin .eql 119 (.c (.p (.int .u8 49)))),
uO 121 (.pick 115 120 cF)] [0,3,5,7,9,10,11,12,13,14,15,93,94,121])
(.cond 121 (rg [fA 122 4 none 3,
lD 123 none 122,
mV 124 15,
uO 125 (.idxs 123 124),
mV 14 125] [0,3,5,7,9,10,11,12,13,14,93,94])
.skip)))
zjp)
def zjr:ACode:=.pr [0,3,5,7,9,10,11,93,94] (rg [bN 133 .add 94 (cI 1),
mV 94 133] [0,3,5,7,9,10,11,93,94])
def zjs:ACode:=.pr [0,3,5,7,9,10,11,93,94] (.seq (rg [bN 95 .lss 94 93] [0,3,5,7,9,10,11,93,94,95])
(.seq (.cond 95 .skip
(.exit 0))
(.seq (.block 1 (.seq (rg [mV 96 94,
mV 12 96] [0,3,5,7,9,10,11,12,93,94])
(.seq (rg [mV 13 (.c (.p (.int .u8 48))),
mV 14 (.c (.p (.int .u8 120)))] [0,3,5,7,9,10,11,12,13,14,93,94])
(.seq (.seq (rg [mV 97 12,
mV 98 10,
uO 99 (.lens 98),
bN 100 .sub 99 (cI 1),
bN 101 .eql 97 100] [0,3,5,7,9,10,11,12,13,14,93,94,101])
(.cond 101 (rg [mV 13 (.c (.p (.int .u8 49)))] [0,3,5,7,9,10,11,12,13,14,93,94])
.skip))
zjq))))
zjr)))
def zjt:ACode:=.pr [0,7,9,11] (.seq (rg [mV 134 0,
mV 135 9,
uO 136 (.nilchk 134),
fA 137 36 none 136,
wO (.store none 137 135)] [0,7,11])
(.seq (rg [mV 138 0,
mV 139 7,
cL 140 oL [138,139]] [11])
(.seq (rg [mV 141 11,
mV 4 141] [4])
.ret)))
def zju:ACode:=.pr [0,3,5,7,9,10] (.seq (rg [mV 85 0,
uO 86 (.nilchk 85),
fA 87 37 none 86,
lD 88 none 87,
mV 89 5,
uO 90 (.lens 89),
bN 91 .add 88 90,
mV 11 91] [0,3,5,7,9,10,11])
(.seq (.seq (rg [mV 92 10,
uO 93 (.lens 92),
mV 94 (cI 0)] [0,3,5,7,9,10,11,93,94])
(.block 0 (.loop zjs)))
zjt))
def zjv:ACode:=.pr [0,3,5,6,7,8,9] (.seq (rg [mV 55 0,
mV 56 8,
cL 57 oL [55,56]] [0,3,5,6,7,9])
(.seq (rg [mV 58 5,
fA 59 3 none 3,
lD 60 none 59,
bN 61 .add 58 60,
mV 62 6,
bN 63 .add 61 62,
mV 10 63] [0,3,5,7,9,10])
(.seq (.seq (rg [fA 64 0 none 3,
lD 65 none 64,
bN 66 .eql 65 (cI 7)] [0,3,5,7,9,10,66])
(.cond 66 (rg [mV 67 0,
uO 68 (.nilchk 67),
fA 69 38 none 68,
lD 70 none 69,
mV 71 10,
uO 72 (.lens 71),
bN 73 .add 70 72,
uO 74 (.nilchk 67),
fA 75 38 none 74,
wO (.store none 75 73)] [0,3,5,7,9,10])
(rg [mV 76 0,
uO 77 (.nilchk 76),
fA 78 39 none 77,
lD 79 none 78,
mV 80 10,
uO 81 (.lens 80),
bN 82 .add 79 81,
uO 83 (.nilchk 76),
fA 84 39 none 83,
wO (.store none 84 82)] [0,3,5,7,9,10])))
zju)))
def zjo:ACode:=(.seq (rg [uO 3 (.box 1),
mV 4 (cI 0)] [0,3])
(.seq (dr [dF (mV 16 0) [0],
dF (uO 17 (.nilchk 16)) [16],
dF (fA 18 0 (some 36) 17) [17],
dF (fA 19 24 (some 6) 18) [18],
dF (fA 20 3 none 19) [19],
dF (lD 21 none 20) [20],
dF (mV 22 0) [0],
dF (uO 23 (.nilchk 22)) [22],
dF (fA 24 0 (some 36) 23) [23],
dF (fA 25 30 (some 6) 24) [24],
dF (fA 26 3 none 25) [25],
dF (lD 27 none 26) [26],
dF (mV 28 0) [0],
dF (uO 29 (.nilchk 28)) [28],
dF (fA 30 0 (some 36) 29) [29],
dF (fA 31 6 (some 6) 30) [30],
dF (fA 32 1 none 31) [31],
dF (lD 33 none 32) [32],
dF (mV 5 21) [21],
dF (mV 6 27) [27],
dF (mV 7 33) [33],
dF (mV 8 (cI 4)) [],
dF (mV 9 (cI 5)) []] [0,3,5,6,7,8,9])
(.seq (.seq (rg [fA 34 0 none 3,
lD 35 none 34,
bN 36 .eql 35 (cI 7)] [0,3,5,6,7,8,9,36])
(.cond 36 (dr [dF (mV 37 0) [0],
dF (uO 38 (.nilchk 37)) [37],
dF (fA 39 0 (some 36) 38) [38],
dF (fA 40 12 (some 6) 39) [39],
dF (fA 41 3 none 40) [40],
dF (lD 42 none 41) [41],
dF (mV 43 0) [0],
dF (uO 44 (.nilchk 43)) [43],
dF (fA 45 0 (some 36) 44) [44],
dF (fA 46 18 (some 6) 45) [45],
dF (fA 47 3 none 46) [46],
dF (lD 48 none 47) [47],
dF (mV 49 0) [0],
dF (uO 50 (.nilchk 49)) [49],
dF (fA 51 0 (some 36) 50) [50],
dF (fA 52 0 (some 6) 51) [51],
dF (fA 53 1 none 52) [52],
dF (lD 54 none 53) [53],
dF (mV 5 42) [42],
dF (mV 6 48) [48],
dF (mV 7 54) [54],
dF (mV 8 (cI 11)) [],
dF (mV 9 (cI 12)) []] [0,3,5,6,7,8,9])
.skip))
zjv)))
def z7z:AFun:=⟨2,[.t 4],zjo,false,false⟩
def zjx:ACode:=.pr [0,4,35,36] (.seq (rg [bN 37 .lss 36 35] [0,4,35,36,37])
(.seq (.cond 37 .skip
(.exit 1))
(.seq (.block 2 (rg [mV 38 0,
cL 39 BO [38,(.c (.p (.int .u8 48))),(.c (.p (.int .u8 48))),(.c (.p (.int .u8 120)))]] [0,4,35,36]))
(rg [bN 40 .add 36 (cI 1),
mV 36 40] [0,4,35,36]))))
def zjy:ACode:=.pr [0,4] (.seq (dr [dF (mV 41 0) [0],
dF (mV 42 0) [0],
dF (uO 43 (.nilchk 42)) [42],
dF (fA 44 40 none 43) [43],
dF (lD 45 none 44) [44],
dF (mV 46 0) [0],
dF (uO 47 (.nilchk 46)) [46],
dF (fA 48 36 none 47) [47],
dF (lD 49 none 48) [48],
dF (uO 50 (.bsl false none 1 (.int .i64 0) [(0,49)])) [49],
dT (uO 51 (.app none 45 50)) [45,50],
dF (uO 52 (.nilchk 41)) [41],
dF (fA 53 40 none 52) [52],
dT (wO (.store none 53 51)) [53,51]] [0,4])
(rg [mV 54 0,
mV 55 0,
uO 56 (.nilchk 55),
fA 57 41 none 56,
lD 58 none 57,
mV 59 4,
uO 60 (.bsl false none 1 (.int .i64 0) [(0,59)]),
uO 61 (.app none 58 60),
uO 62 (.nilchk 54),
fA 63 41 none 62,
wO (.store none 63 61)] []))
def zjw:ACode:=(.seq (rg [uO 3 (.box 1)] [0,3])
(.seq (rg [mV 4 (cI 0)] [0,3,4])
(.seq (.block 0 (.seq (rg [fA 10 0 none 3,
lD 11 none 10,
cL 12 z2t [11],
mV 9 12] [0,3,4,9])
(.cond 9 (dr [dF (mV 13 0) [0],
dF (uO 14 (.nilchk 13)) [13],
dF (fA 15 0 (some 36) 14) [14],
dF (fA 16 0 none 3) [3],
dF (lD 17 none 16) [16],
dT (cL 18 z2y [15,17]) [15,17],
dA (lD 19 (some 6) 3) [3] false [5] [],
dF (uO 20 (.nilchk 18)) [18],
dT (wO (.store (some 6) 20 19)) [20,19]] [0,4])
(.seq (rg [fA 22 0 none 3,
lD 23 none 22,
cL 24 FV [23],
mV 21 24] [0,3,4,21])
(.cond 21 (rg [mV 25 0,
lD 26 (some 6) 3,
cL 27 z2v [25,26],
mV 4 27] [0,4])
(.seq (rg [fA 29 0 none 3,
lD 30 none 29,
bN 31 .eql 30 (cI 9),
mV 28 31] [0,3,4,28])
(.cond 28 (.seq (rg [mV 32 0,
cL 33 oL [32,(cI 1)]] [0,3,4])
(.seq (rg [fA 34 2 none 3,
lD 35 none 34,
mV 36 (cI 0)] [0,4,35,36])
(.block 1 (.loop zjx))))
(rg [mV 5 0,
fA 6 1 none 3,
lD 7 none 6,
cL 8 oL [5,7]] [0,4]))))))))
zjy)))
def z70:AFun:=⟨2,[],zjw,false,false⟩
def zj0:ACode:=.pr [0,1,4,17,18] (.seq (rg [bN 19 .lss 18 17] [0,1,4,17,18,19])
(.seq (.cond 19 .skip
(.exit 0))
(.seq (.block 1 (.seq (rg [mV 20 18,
mV 6 20] [0,1,4,6,17,18])
(rg [mV 21 0,
mV 22 4,
mV 23 6,
uO 24 (.idxs 22 23),
cL 25 BO [21,24,(.c (.p (.int .u8 48))),(.c (.p (.int .u8 120)))]] [0,1,4,17,18])))
(rg [bN 26 .add 18 (cI 1),
mV 18 26] [0,1,4,17,18]))))
def zj1:ACode:=.pr [0,1] (rg [mV 27 0,
mV 28 1,
uO 29 (.nilchk 27),
fA 30 36 none 29,
wO (.store none 30 28)] [])
def zjz:ACode:=(.seq (rg [mV 8 0,
uO 9 (.nilchk 8),
fA 10 36 none 9,
lD 11 none 10,
mV 12 1,
cL 13 z2q [11,12],
mV 7 13,
eX 14 7 0,
eX 15 7 1,
mV 4 14,
mV 5 15] [0,1,4])
(.seq (.seq (rg [mV 16 4,
uO 17 (.lens 16),
mV 18 (cI 0)] [0,1,4,17,18])
(.block 0 (.loop zj0)))
zj1))
def z71:AFun:=⟨2,[],zjz,false,false⟩
def zj2:ACode:=(.seq (rg [uO 1 (.box 0),
mV 2 (cI 0)] [1])
(.seq (.block 0 (.seq (rg [fA 4 3 none 1,
lD 5 none 4,
bN 6 .eql 5 (cS []),
mV 3 6] [1,3])
(.cond 3 (.seq (rg [mV 2 (cI 8)] [2])
.ret)
(.seq (rg [fA 8 3 none 1,
lD 9 none 8,
cL 10 LG [9],
uO 11 (.un .not 10),
mV 7 11] [1,7])
(.cond 7 (.seq (rg [mV 2 (cI 9)] [2])
.ret)
(.seq (rg [fA 13 3 none 1,
lD 14 none 13,
uO 15 (.lens 14),
bN 16 .gtr 15 (cI 2000),
mV 12 16] [1,12])
(.cond 12 (.seq (rg [mV 2 (cI 2)] [2])
.ret)
(.seq (rg [fA 18 4 none 1,
lD 19 none 18,
bN 20 .neq 19 (cS []),
mV 21 20,
gD 22 21 true (.faddr 4 none 1),
gD 23 21 true (.load none 22),
gD 24 21 true (.lens 23),
gD 25 21 true (.faddr 3 none 1),
gD 26 21 true (.load none 25),
gD 27 21 true (.lens 26),
gD 28 21 true (.bin .neq 24 27),
gD 29 21 true (.mv 28),
gD 30 29 false (.faddr 5 none 1),
gD 31 29 false (.load none 30),
gD 32 29 false (.lens 31),
gD 33 29 false (.faddr 3 none 1),
gD 34 29 false (.load none 33),
gD 35 29 false (.lens 34),
gD 36 29 false (.bin .neq 32 35),
gD 37 21 true (.pick 29 cT 36),
uO 38 (.pick 21 37 cF),
mV 17 38] [1,17])
(.cond 17 (.seq (rg [mV 2 (cI 3)] [2])
.ret)
(.seq (rg [fA 40 4 none 1,
lD 41 none 40,
cL 42 LG [41],
uO 43 (.un .not 42),
mV 44 43,
gD 45 44 false (.faddr 5 none 1),
gD 46 44 false (.load none 45),
gD 47 44 false (.call LG [46]),
gD 48 44 false (.un .not 47),
uO 49 (.pick 44 cT 48),
mV 39 49] [1,39])
(.cond 39 (.seq (rg [mV 2 (cI 9)] [2])
.ret)
(.seq (rg [fA 51 4 none 1,
lD 52 none 51,
bN 53 .eql 52 (cS []),
mV 54 53,
gD 55 54 true (.faddr 5 none 1),
gD 56 54 true (.load none 55),
gD 57 54 true (.bin .neq 56 (cS [])),
uO 58 (.pick 54 57 cF),
mV 50 58] [50])
(.cond 50 (.seq (rg [mV 2 (cI 3)] [2])
.ret)
.skip)))))))))))))
(.seq (rg [mV 2 (cI 0)] [2])
.ret)))
def z72:AFun:=⟨1,[.t 2],zj2,false,false⟩
def zj3:ACode:=(.seq (rg [mV 4 (.c (.nilp))] [0,1])
(.seq (.seq (rg [mV 5 1] [0,5])
(.block 0 (.seq (rg [bN 7 .eql 5 (cI 1),
mV 6 7] [0,5,6])
(.cond 6 (.seq (rg [mV 8 0,
uO 9 (.nilchk 8),
fA 10 0 (some 6) 9,
mV 4 10] [4])
.ret)
(.seq (rg [bN 12 .eql 5 (cI 2),
mV 11 12] [0,5,11])
(.cond 11 (.seq (rg [mV 13 0,
uO 14 (.nilchk 13),
fA 15 6 (some 6) 14,
mV 4 15] [4])
.ret)
(.seq (rg [bN 17 .eql 5 (cI 3),
mV 16 17] [0,5,16])
(.cond 16 (.seq (rg [mV 18 0,
uO 19 (.nilchk 18),
fA 20 12 (some 6) 19,
mV 4 20] [4])
.ret)
(.seq (rg [bN 22 .eql 5 (cI 4),
mV 21 22] [0,5,21])
(.cond 21 (.seq (rg [mV 23 0,
uO 24 (.nilchk 23),
fA 25 18 (some 6) 24,
mV 4 25] [4])
.ret)
(.seq (rg [bN 27 .eql 5 (cI 5),
mV 26 27] [0,26])
(.cond 26 (.seq (rg [mV 28 0,
uO 29 (.nilchk 28),
fA 30 24 (some 6) 29,
mV 4 30] [4])
.ret)
.skip))))))))))))
(.seq (rg [mV 31 0,
uO 32 (.nilchk 31),
fA 33 30 (some 6) 32,
mV 4 33] [4])
.ret)))
def z73:AFun:=⟨2,[.t 4],zj3,false,false⟩
def zj4:ACode:=(.seq (rg [mV 2 cF] [0])
(.seq (rg [mV 3 0,
bN 4 .eql 3 (cI 0),
mV 5 4,
gD 6 5 false (.mv 0),
gD 7 5 false (.bin .eql 6 (cI 1)),
uO 8 (.pick 5 cT 7),
mV 9 8,
gD 10 9 false (.mv 0),
gD 11 9 false (.bin .eql 10 (cI 6)),
uO 12 (.pick 9 cT 11),
mV 13 12,
gD 14 13 false (.mv 0),
gD 15 13 false (.bin .eql 14 (cI 13)),
uO 16 (.pick 13 cT 15),
mV 2 16] [2])
.ret))
def z74:AFun:=⟨1,[.t 2],zj4,false,false⟩
def zj5:ACode:=(.seq (rg [uO 0 (.alloc [.p (.int .i64 0),.p (.int .i64 0),.p (.int .i64 0),.p (.str []),.p (.str []),.p (.str []),.p (.int .i64 0),.p (.int .i64 0),.p (.int .i64 0),.p (.str []),.p (.str []),.p (.str []),.p (.int .i64 0),.p (.int .i64 0),.p (.int .i64 0),.p (.str []),.p (.str []),.p (.str []),.p (.int .i64 0),.p (.int .i64 0),.p (.int .i64 0),.p (.str []),.p (.str []),.p (.str []),.p (.int .i64 0),.p (.int .i64 0),.p (.int .i64 0),.p (.str []),.p (.str []),.p (.str []),.p (.int .i64 0),.p (.int .i64 0),.p (.int .i64 0),.p (.str []),.p (.str []),.p (.str [])])] [0])
(.seq (rg [uO 1 (.build [.p (.int .i64 0),.p (.int .i64 0),.p (.int .i64 0),.p (.str []),.p (.str []),.p (.str [])] [(0,1,(cI 1)),(1,1,(cI 1))]),
uO 2 (.build [.p (.int .i64 0),.p (.int .i64 0),.p (.int .i64 0),.p (.str []),.p (.str []),.p (.str [])] [(0,1,(cI 2)),(1,1,(cI 1))]),
uO 3 (.build [.p (.int .i64 0),.p (.int .i64 0),.p (.int .i64 0),.p (.str []),.p (.str []),.p (.str [])] [(0,1,(cI 3))]),
uO 4 (.build [.p (.int .i64 0),.p (.int .i64 0),.p (.int .i64 0),.p (.str []),.p (.str []),.p (.str [])] [(0,1,(cI 4))]),
uO 5 (.build [.p (.int .i64 0),.p (.int .i64 0),.p (.int .i64 0),.p (.str []),.p (.str []),.p (.str [])] [(0,1,(cI 5))]),
uO 6 (.build [.p (.int .i64 0),.p (.int .i64 0),.p (.int .i64 0),.p (.str []),.p (.str []),.p (.str [])] [(0,1,(cI 6))]),
uO 7 (.build [.p (.int .i64 0),.p (.int .i64 0),.p (.int .i64 0),.p (.str []),.p (.str []),.p (.str []),.p (.int .i64 0),.p (.int .i64 0),.p (.int .i64 0),.p (.str []),.p (.str []),.p (.str []),.p (.int .i64 0),.p (.int .i64 0),.p (.int .i64 0),.p (.str []),.p (.str []),.p (.str []),.p (.int .i64 0),.p (.int .i64 0),.p (.int .i64 0),.p (.str []),.p (.str []),.p (.str []),.p (.int .i64 0),.p (.int .i64 0),.p (.int .i64 0),.p (.str []),.p (.str []),.p (.str []),.p (.int .i64 0),.p (.int .i64 0),.p (.int .i64 0),.p (.str []),.p (.str []),.p (.str [])] [(0,6,1),(6,6,2),(12,6,3),(18,6,4),(24,6,5),(30,6,6)]),
wO (.store (some 36) 0 7)] [0])
.ret))
def z77:AFun:=⟨0,[.cell 0 (some 36)],zj5,false,false⟩
end Go.Am
end
section
/- The abstract machine,part L: functions of the library that are met by the kit's contracts: plain values in,plain values out,new memory at most. -/
set_option linter.unusedSimpArgs false
set_option linter.unusedVariables false
namespace Go.Am
variable {P:Program} {gl:Nat→Option PV}
structure PureRow (P:Program) (gl:Nat→Option PV) (f:Nat) (spec:List PV→Option AV):Prop where
 enter:∀us w,(callFunc f us).run P w = .ok (.enter f us) w
 run:∀(M:Mem) (w:World) (vs:List PV) (r:AV) (us:List Value),(∀b o v,M.c b o=some v→w.cell? ⟨b,o,none⟩=some v)→(∀b o,M.b b=some o→w.heap[b]?=some o)→TC gl M→vs.length=us.length →
  (∀(j:Nat) (y:PV) (v:Value),vs[j]?=some y→us[j]?=some v→RPV M y v)→spec vs=some r →
  Calls P f us.toArray w fun e w'=>∃x,e = .returned x∧WExt w w'∧RAV (CF M w w') [] [] r x
abbrev fE:=List (Nat × (List PV→Option AV))
def lG:fE→Nat→List AV→aA→Option (AV×aA×Esc)
 | [],_,_,_=>none
 | (g,s)::r,f,asv,h=>bif Nat.beq f g then((unp asv).bind s).map fun v=>(v,h,[]) else lG r f asv h
theorem mY:∀ (gs:fE),(∀g s,(g,s)∈gs→PureRow P gl g s)→∀{f:Nat} {asv:List AV} {h:aA} {v:AV} {h':aA} {x:Esc},lG gs f asv h=some (v,h',x) →
 YB P gl f asv h fun v1 h1 x1=>v1=v∧h1=h'∧x1=x
 | [],_,f,asv,h,v,h',x,H=>by cases H
 | (g,s)::r,hg,f,asv,h,v,h',x,H=>by
  unfold lG at H;cases e1:Nat.beq f g with
  | false=>
   rw[e1]at H;exact mY r (fun g sh hm=>hg g sh (by simp [hm])) H
  | true=>
   rw[e1]at H;have e:=Nat.eq_of_beq_eq_true e1
   subst e;have R:=hg f s (by simp)
   simp only[cond_true]at H;obtain⟨y,hy,e2⟩:=Option.map_eq_some_iff.1 H;simp only[Prod.mk.injEq]at e2;obtain⟨rfl,rfl,rfl⟩:=e2;obtain⟨ps,hps,hs⟩:=Option.bind_eq_some_iff.1 hy;have hm:=aK hps
   subst hm;intro μ w vs Hh Hg hl hr;refine .inl ⟨R.enter _,?_⟩;refine(R.run (imm h μ w) w ps y vs (fun b o v hv=>(cD.1 hv).2) (fun b o hv=>(XF.1 hv).2) Hg (by simpa using hl) (fun j q v hq hv=>(hr j (.p q) v (by simp [hq]) hv).p_inv) hs).mono fun e w' he=>?_
   obtain⟨u,rfl,g1,g2⟩:=he;obtain⟨n1,n2⟩:=Hh.ext g1;have Lq:(CF (imm h μ w) w w').le (imm h μ w'):=by
    refine⟨fun b o v hv=>?_,fun b o hv=>?_,rfl,fun _ _ h=>by cases h⟩
    ·dsimp only[CF]at hv
     split at hv
     ·exact n2.le.c _ _ _ hv
     ·rename_i hb
      exact cD.2 ⟨fun hO=>hb (pW Hh hO),hv⟩
    ·dsimp only[CF]at hv
     cases hv
   exact⟨_,_,_,μ,⟨rfl,rfl,rfl⟩,g2.evo ⟨Lq,Nat.zero_le _,fun id o m h1=>by simp at h1⟩,n1,n2,qA.refl h []⟩
def qE (gs:List (Nat × Sh))(ps:fE)(f:Nat)(asv:List AV)(h:aA):Option (AV×aA×Esc):=match VF gs f asv h with
 | some y=>some y
 | none=>match lG ps f asv h with
  | some y=>some y
  | none=>match oA h asv with
   | some (asv',h1)=>lG ps f asv' h1
   | none=>none
theorem zjF {ps:fE}(hp:∀ g s,(g,s)∈ps→PureRow P gl g s){f:Nat}{asv asv':List AV}{h h1:aA}{v:AV}{h':aA}{x:Esc}(hq:oA h asv=some (asv',h1))(H:lG ps f asv' h1=some (v,h',x)) :
 YB P gl f asv h fun v1 h2 x1=>v1=v∧h2=h'∧x1=x:=by
 intro μ w vs Hh Hg hl hr;obtain⟨q1,q2,q3⟩:=wQ asv Hh hl hr hq;rcases mY ps hp H μ w vs q1.1 (Hg.mono q1.2.1.le) q2 q3 with⟨k1,k2⟩|⟨r,w',v2,h2,x2,μ',k1,k2,k3,k4,k5,k6⟩
 ·refine .inl ⟨k1,k2.mono fun e w' he=>?_⟩
  cases e with
  | returned r=>
   obtain⟨v2,h2,x2,μ',k2,k3,k4,k5,k6⟩:=he;exact⟨v2,h2,x2,μ',k2,k3,k4,q1.2.1.trans k5,by simpa using q1.2.2.trans k6⟩
  | panicked _=>exact he
  | outgrown=>exact he
 ·exact .inr ⟨r,w',v2,h2,x2,μ',k1,k2,k3,k4,q1.2.1.trans k5,by simpa using q1.2.2.trans k6⟩
theorem libF_ok {gs:List (Nat × Sh)}{ps:fE}(hg:∀ g sh,(g,sh)∈gs→GrowRow P g sh)(hp:∀ g s,(g,s)∈ps→PureRow P gl g s){f:Nat}{asv:List AV}{h:aA}{v:AV}{h':aA}{x:Esc}(H:qE gs ps f asv h=some (v,h',x)) :
 YB P gl f asv h fun v1 h1 x1=>v1=v∧h1=h'∧x1=x:=by
 unfold qE at H;split at H
 ·rename_i y hy
  cases H;exact z3s gs hg hy
 ·split at H
  ·rename_i y hy
   cases H;exact mY ps hp hy
  ·split at H
   ·rename_i asv' h1 hq
    exact zjF hp hq H
   ·cases H
theorem NO {X:Ctx}{f:Nat}{asv:List AV}{h h':aA}{v:AV}{x:Esc}{K:kA}(hf:X.fn f=none)(hx:X.ex2 f asv h=some (v,h',x)):gA X f asv h K=K v h' x:=by
 refine propext (gA.eq (gA.fold ?_) K);unfold IB;simp only[hf,hx];exact⟨trivial,trivial,trivial⟩
def eH:List (Nat × Sh)→Nat→Option Sh
 | [],_=>none
 | (g,s)::r,f=>bif Nat.beq f g then some s else eH r f
theorem z3q:∀ {gs:List (Nat × Sh)}{f:Nat}{sh s':Sh}{n:Int}{h:aA},eH gs f=some sh→0≤n→n≤1048576→VF gs f [.sl0 s',.p (.int .i64 n)] h=some (.own h.length 0 0 0,h++[.row sh [] 0],[])
 | [],f,sh,s',n,h,hm,_,_=>by cases hm
 | (g,s)::r,f,sh,s',n,h,hm,h0,h1=>by
  unfold eH at hm;unfold VF;cases hq:Nat.beq f g with
  | true=>rw[hq]at hm;cases hm;simp [h0,h1]
  | false=>rw[hq]at hm;exact z3q hm h0 h1
theorem z3r:∀ {gs:List (Nat × Sh)}{f:Nat}{asv:List AV}{h:aA},eH gs f=none→VF gs f asv h=none
 | [],f,asv,h,_=>rfl
 | (g,s)::r,f,asv,h,hm=>by
  unfold eH at hm;unfold VF;cases hq:Nat.beq f g with
  | true=>rw[hq]at hm;cases hm
  | false=>rw[hq]at hm;exact z3r hm
def xQ:fE→Nat→Option (List PV→Option AV)
 | [],_=>none
 | (g,s)::r,f=>bif Nat.beq f g then some s else xQ r f
theorem z4r:∀ {gs:fE}{f:Nat}{s:List PV→Option AV}{asv:List AV}{h:aA},xQ gs f=some s→lG gs f asv h=((unp asv).bind s).map fun v=>(v,h,[])
 | [],f,s,asv,h,hm=>by cases hm
 | (g,s')::r,f,s,asv,h,hm=>by
  unfold xQ at hm;unfold lG;cases hq:Nat.beq f g with
  | true=>rw[hq]at hm;cases hm;rfl
  | false=>rw[hq]at hm;exact z4r hm
theorem zfD {gs:List (Nat × Sh)}{ps:fE}{f:Nat}{sh s':Sh}{n:Int}{h:aA}(hm:eH gs f=some sh)(h0:0≤n)(h1:n≤1048576):qE gs ps f [.sl0 s',.p (.int .i64 n)] h=some (.own h.length 0 0 0,h++[.row sh [] 0],[]):=by
 unfold qE;rw[z3q hm h0 h1]
theorem z3B {gs:List (Nat × Sh)}{ps:fE}{f:Nat}{s:List PV→Option AV}{asv:List AV}{vs:List PV}{v:AV}{h:aA}(hg:eH gs f=none)(hm:xQ ps f=some s)(hu:unp asv=some vs)(hv:s vs=some v):qE gs ps f asv h=some (v,h,[]):=by
 unfold qE;rw[z3r hg,z4r hm,hu];simp [hv]
def wL:List (Nat × PV)→Nat→Option PV
 | [],_=>none
 | (g,v)::r,n=>bif Nat.beq n g then some v else wL r n
theorem znu {f:Nat}(h:(match P.funcs[f]? with | some fn=>fn.body.isSome&&fn.name != "runtime.NumGoroutine" | none=>false)=true)(us:Array Value)(w:World):(callFunc f us).run P w = .ok (.enter f us) w:=by
 cases hf:P.funcs[f]? with
 | none=>rw[hf]at h;cases h
 | some fn=>
  rw[hf]at h;simp only[Bool.and_eq_true,bne_iff_ne,ne_eq]at h;cases hb:fn.body with
  | none=>rw[hb]at h;cases h.1
  | some c=>exact pV hf hb h.2 us w
def kD (n:Nat):UInt8:=UInt8.ofNat (48+n)
def aC (n:Nat):List UInt8:=if n<10 then [kD n] else aC (n / 10)++[kD (n%10)]
termination_by n
decreasing_by omega
def itoa (n:Int):List UInt8:=if n<0 then 45::aC n.natAbs else aC n.natAbs
theorem GE {n:Nat}(h:n<10):aC n=[kD n]:=by rw[aC,if_pos h]
theorem LF {n:Nat}(h:10≤n):aC n=aC (n / 10)++[kD (n%10)]:=by rw[aC,if_neg (by omega)]
def NI:List PV→Option AV
 | [.int .i64 n]=>bif decide (-9223372036854775808≤n)&&decide (n≤9223372036854775807) then some (.p (.str (itoa n))) else none
 | _=>none
def uQ:PV:=.agg ((List.range 20).map fun i=>.int .u64 ((10^i:Nat):Int))
def ZC:Nat→List UInt8→Option Nat
 | acc,[]=>some acc
 | acc,c::r=>if 48≤c.toNat∧c.toNat≤57 then ZC (acc*10+(c.toNat-48)) r else none
def xG:List PV→Option AV
 | [.str s]=>if 1≤s.length∧s.length≤18 then match ZC 0 s with
  | some n=>some (.tup [.p (.int .i64 (n:Int)),.nili])
  | none=>if s.head?=some 45∧2≤s.length then(ZC 0 s.tail).map fun(n:Nat)=>.tup [.p (.int .i64 (-(n:Int))),.nili] else none
  else none
 | _=>none
theorem z1d:∀ (a:List UInt8)(acc:Nat)(c:UInt8),ZC acc (a++[c])=(ZC acc a).bind fun n=>if 48≤c.toNat∧c.toNat≤57 then some (n*10+(c.toNat-48)) else none
 | [],acc,c=>by
  simp only[List.nil_append,ZC,Option.bind_some]
 | d::a,acc,c=>by
  simp only[List.cons_append,ZC];split
  ·exact z1d a _ c
  ·rfl
theorem z1c {n:Nat}(h:n<10):(kD n).toNat=48+n:=by
 simp only[kD,UInt8.toNat_ofNat'];omega
theorem zal:∀ (n:Nat),ZC 0 (aC n)=some n:=by
 intro n;induction n using Nat.strongRecOn with
 | _ n ih=>
  rcases Nat.lt_or_ge n 10 with h|h
  ·rw[GE h]
   simp only[ZC,z1c h];rw[if_pos (by omega)]
   congr 1
   omega
  ·rw[LF h,z1d,ih (n / 10) (by omega)]
   have h2:=z1c (show n%10<10 by omega)
   simp only[Option.bind_some,h2];rw[if_pos (by omega)]
   congr 1
   omega
theorem z0Z:∀ (k n:Nat),n<10^(k+1)→1≤(aC n).length∧(aC n).length≤k+1
 | 0,n,h=>by rw[GE (by simpa using h)];simp
 | k+1,n,h=>by
  rcases Nat.lt_or_ge n 10 with h1|h1
  ·rw[GE h1];simp
  ·have:=z0Z k (n / 10) (by rw[Nat.div_lt_iff_lt_mul (by omega)];rw[Nat.pow_succ]at h;exact h)
   rw[LF h1];simp;omega
theorem z7R {n:Nat}(h:n<1000000000000000000):xG [.str (itoa n)]=some (.tup [.p (.int .i64 n),.nili]):=by
 have h1:=z0Z 17 n (by simpa using h)
 have e:itoa (n:Int)=aC n:=by unfold itoa;rw[if_neg (by omega)];simp
 unfold xG;rw[e];simp only;rw[if_pos (by omega),zal]
def z58 (s cs:List UInt8):List UInt8:=(s.reverse.dropWhile (cs.contains ·)).reverse.dropWhile (cs.contains ·)
def trimS:List PV→Option AV
 | [.str s,.str cs]=>if s.length≤1000000∧cs.length≤1000∧cs.all (fun b=>decide (b.toNat<128))=true then some (.p (.str (z58 s cs))) else none
 | _=>none
end Go.Am
end
section
/- The abstract machine,part C: zB calls that say true,asv contracts. -/
set_option linter.all false
namespace Go.Am
variable {P:Program} {gl:Nat→Option PV}
def XY:List PV→Option AV
 | []=>some (AB true)
 | _=>none
theorem RPV.mono' {M M':Mem}(hM:∀ b o v,M.c b o=some v→M'.c b o=some v){v:PV}{x:Value}(H:RPV M v x):RPV M' v x:=by
 induction H with
 | int k n=>exact .int k n
 | bool b=>exact .bool b
 | str s=>exact .str s
 | nilp=>exact .nilp
 | unk k n=>exact .unk k n
 | nils sh a cap=>exact .nils sh a cap
 | sl sh xs b o cap f hne hc he hm hr ih=>exact .sl sh xs b o cap f hne hc he (fun j y hy=>hM _ _ _ (hm j y hy)) ih
 | agg cs vs hl hr ih=>exact .agg cs vs hl ih
theorem TC.mono' {M M':Mem}(hc:∀ b o v,M.c b o=some v→M'.c b o=some v)(hb:∀ b o,M.b b=some o→M'.b b=some o)(H:TC gl M):TC gl M':=fun n v hv=>by
 obtain⟨h1,cs,t,x,h2,h3⟩:=H n v hv;refine⟨?_,cs,t,x,hb _ _ h2,h3⟩;cases h1 with|vp _ _ _ f hm hr=>exact .vp v n 0 f (fun j y hy=>hc _ _ _ (hm j y hy)) (fun j y hy=>(hr j y hy).mono' hc)
theorem znw {X:Ctx}(HX:Fits P X){f:Nat}(H:gA X f [] [] fun v h x=>v=AB true∧h=[]∧x=[])(he:∀ us w,(callFunc f us).run P w = .ok (.enter f us) w):PureRow P X.gl f XY:=by
 refine⟨he,fun M w vs r us hc hb hG hl hr hs=>?_⟩
 cases vs with
 | cons a l=>cases hs
 | nil=>
  have hu:us=[]:=List.length_eq_zero_iff.1 (by simpa using hl.symm)
  subst hu;simp only[XY,Option.some.injEq]at hs;subst hs;have hno:∀b o,¬YE ([]:aA) ([]:Mu) b o:=fun b o ⟨id,n,h1,_⟩=>by simp at h1
  have hnt:∀b,¬AH ([]:Mu) b:=fun b ⟨id,n,h1⟩=>by simp at h1
  have hG':TC X.gl (imm [] [] w):=hG.mono' (fun b o v h=>cD.2 ⟨hno b o,hc b o v h⟩) (fun b o h=>XF.2 ⟨hnt b,hb b o h⟩)
  have hR:HeapRel [] [] w:=⟨rfl,fun id o m h1=>by simp at h1,fun i j b n n' h1=>by simp at h1,fun i b n h1=>by simp at h1⟩
  rcases z0t HX H [] w [] hR hG' rfl (fun j y v h1=>by simp at h1) with⟨_,q⟩|⟨r,w',v,h',x,μ',q,_⟩
  ·refine q.mono fun e w' h=>?_
   cases e with
   | panicked _=>exact h.elim
   | outgrown=>exact h.elim
   | returned r=>
    obtain⟨v,h',x,μ',⟨rfl,rfl,rfl⟩,h1,h2,h3,h4⟩:=h;have hm:μ'=[]:=List.length_eq_zero_iff.1 (by simpa using h2.len)
    subst hm;have hbl:∀b o,w.heap[b]?=some o→w'.heap[b]?=some o:=fun b o h=>(XF.1 (h3.le.b b o (XF.2 ⟨hnt b,h⟩))).2
    refine⟨r,rfl,⟨?_,fun b hb=>?_,?_⟩,?_⟩
    ·rcases Nat.lt_or_ge w'.heap.size w.heap.size with q|q
     ·have:=hbl w'.heap.size _ (Array.getElem?_eq_getElem q)
      simp at this
     ·exact q
    ·rw[hbl b _ (Array.getElem?_eq_getElem hb),Array.getElem?_eq_getElem hb]
    ·have:=h3.le.z
     simpa [imm] using this
    ·have:=h1.p_bool
     rw[this];exact .p _ _ (.bool true)
  ·rw[he]at q
   cases q
end Go.Am
end
section
/- The functions together. -/
set_option linter.all false
set_option maxRecDepth 100000
namespace Go.Am
def fns:List (Nat × AFun):=[(yO,CR),(YK,PR),(ZK,QR),(lE,LR),(VK,DR),(mI,iR),(MK,dR),(OK,gR),(RF,MM),(CI,mS),(SF,XR),(nI,jR),(WK,HR),(wI,UR),(XK,MR),(bL,WR),(OC,IR),(OF,BM),(nF,fR),(BI,lS),(IE,qS),(HE,lR),(TF,kS),(QG,zR),(pI,nR),(PG,yR),(NG,pR),(oI,kR),(tI,uR),(DI,nS),(oF,oR),(PF,CM),(sC,KR),(TD,GR),(nD,SR),(TG,JR),(WG,TR),(dL,YR),(UD,bS),(UG,NR),(mF,IM),(lF,HM),(oD,PM),(VG,OR),(fL,eS),(gL,gS),(SG,FR),(NK,eR),(SK,xR),(YG,uS),(jL,jS),(tB,GM),(kL,pS),(qI,qR),(sI,tR),(kI,DM),(IC,EM),(yI,dS),(EI,oS),(xI,ZR),(MG,JM),(lI,KM),(aL,VR),(UF,NM),(zI,fS),(eL,aS),(iL,iS),(QK,rR),(RK,vR),(DD,rS),(mE,xS),(XG,sS),(TK,AR),(OG,LM),(nL,yS),(FI,OM),(rI,sR),(QF,FM),(uI,wR),(PK,mR),(lL,tS),(UK,BR),(LK,cR),(ZG,vS)]
def GRL:List (Nat × Sh):=[(zV,(some 4))]
def PRL:fE:=[(zO,xG),(mL,NI),(DV,trimS),(RG,XY)]
def GLL:List (Nat × PV):=[(3,uQ)]
def uL:List (Nat × AFun)→Nat→Option AFun
 | [],_=>none
 | (k,F)::r,n=>bif Nat.beq k n then some F else uL r n
def X:Ctx:=⟨uL fns,wL GLL,KG jF kF,qE GRL PRL⟩
theorem z2J {p:Nat→AFun→Bool}:∀(l:List (Nat×AFun)),(l.all fun y=>p y.1 y.2)=true→∀n F,uL l n=some F→p n F=true
 | [],_,n,F,h=>by cases h
 | (k,G)::r,ha,n,F,h=>by
  simp only[List.all_cons,Bool.and_eq_true]at ha;simp only[uL]at h;cases hk:Nat.beq k n with
  | true=>
   rw[hk]at h;have:=Nat.eq_of_beq_eq_true hk;simp only[cond_true,Option.some.injEq]at h;subst this;subst h;exact ha.1
  | false=>
   rw[hk]at h;exact z2J r ha.2 n F h
def fns0:List (Nat × AFun):=[(RF,MM),(RG,z6Q),(OF,BM),(PF,CM),(z14,z6x),(z1V,z6R),(z1K,z6F),(z2s,z7t),(z1R,z6M),(z2d,z7c),(mF,IM),(lF,HM),(oD,PM),(tB,GM),(kI,DM),(z12,z6v),(z1D,z67),(xO,z68),(z1J,z6E),(z2r,z7s),(GV,z7x),(z1T,z6O),(z1S,z6N),(z2h,z7g),(IC,EM),(z2m,z7m),(z2p,z7p),(MG,JM),(lI,KM),(UF,NM),(z13,z6w),(LG,z6u),(z17,z60),(z1X,z6T),(z1L,z6G),(z1N,z6I),(z1Q,z6L),(z1P,z6K),(z1O,z6J),(z2u,z7w),(z23,z77),(z2w,z70),(z1U,z6P),(OG,LM),(z2c,z7b),(z2b,z7a),(z2n,z7n),(z2f,z7e),(z2l,z7l),(FI,OM),(QF,FM),(z18,z61),(z1C,z66),(yV,z6W),(z1E,z69),(z1I,z6D),(z1H,z6C),(z2z,z74),(FV,z7u),(z2x,z72),(z2t,z7v),(z2y,z73),(z2v,z7z),(oL,z71),(BO,z7y),(z2g,z7f),(z2e,z7d),(z2o,z7o),(z2k,z7k),(z2j,z7i),(CV,z7j),(z16,z6z),(KK,z65),(xV,z6U),(z19,z62),(z1F,z6A),(z15,z6y),(BV,z6Z),(z1M,z6H),(z1Y,z6V),(z2q,z7q),(z2i,z7h),(z1Z,z6X),(z1A,z63),(z1G,z6B),(z2a,z6Y),(EV,z7r),(bH,QM),(z1W,z6S),(z1B,z64),(aH,fK)]
def PRL0:fE:=[(zO,xG),(mL,NI),(DV,trimS)]
def X0:Ctx:=⟨uL fns0,wL GLL,KG jF kF,qE GRL PRL0⟩
theorem zlX:X0.fn bH=some QM:=by kernel_rfl
theorem zlW:X0.fn aH=some fK:=by kernel_rfl
theorem NZ:X.NoNext:=fun f F h=>z2J (p:=fun _ F=>F.isDet||F.body.noNext) fns (by kernel_rfl) f F h
theorem zm8:X.fn yO=some CR:=by kernel_rfl
theorem z8X {u0 v0:AV}{h h1:aA}{P:kA}(hp:oA h [u0]=some ([v0],h1)):gA X yO [u0] h P=(GN (gA X) X.gl [(0,v0)] h1 [] (mA [.t 2] false h.length P)).1:=by rw[yA zm8 rfl hp rfl];exact zbw
theorem zmL:X.fn YK=some PR:=by kernel_rfl
theorem z9j {u0 v0:AV}{h h1:aA}{P:kA}(hp:oA h [u0]=some ([v0],h1)):gA X YK [u0] h P=(PN (gA X) X.gl [(0,v0)] h1 [] (mA [.t 2] false h.length P)).1:=by rw[yA zmL rfl hp rfl];exact zbQ
theorem zmM:X.fn ZK=some QR:=by kernel_rfl
theorem z9k {u0 u1 u2 v0 v1 v2:AV}{h h1:aA}{P:kA}(hp:oA h [u0,u1,u2]=some ([v0,v1,v2],h1)):gA X ZK [u0,u1,u2] h P=(QN (gA X) X.gl [(0,v0),(1,v1),(2,v2)] h1 [] (mA [.t 6] false h.length P)).1:=by rw[yA zmM rfl hp rfl];exact zbT
theorem zmH:X.fn lE=some LR:=by kernel_rfl
theorem z9f {u0 u1 u2 v0 v1 v2:AV}{h h1:aA}{P:kA}(hp:oA h [u0,u1,u2]=some ([v0,v1,v2],h1)):gA X lE [u0,u1,u2] h P=(MN (gA X) X.gl [(0,v0),(1,v1),(2,v2)] h1 [] (mA [.t 6] false h.length P)).1:=by rw[yA zmH rfl hp rfl];exact zbE
theorem zmA:X.fn VK=some DR:=by kernel_rfl
theorem z8Z {u0 u1 v0 v1:AV}{h h1:aA}{P:kA}(hp:oA h [u0,u1]=some ([v0,v1],h1)):gA X VK [u0,u1] h P=(IN (gA X) X.gl [(0,v0),(1,v1)] h1 [] (mA [.t 4,.t 5] false h.length P)).1:=by rw[yA zmA rfl hp rfl];exact zb2
theorem zmn:X.fn mI=some iR:=by kernel_rfl
theorem z8C {u0 u1 u2 v0 v1 v2:AV}{h h1:aA}{P:kA}(hp:oA h [u0,u1,u2]=some ([v0,v1,v2],h1)):gA X mI [u0,u1,u2] h P=sK (gA X) X.gl eJ rP v0 v1 v2 h1 [] (mA [.t 6,.t 7] false h.length P):=by rw[yA zmn rfl hp rfl];exact zaL
theorem zmj:X.fn MK=some dR:=by kernel_rfl
theorem z88 {u0 u1 u2 v0 v1 v2:AV}{h h1:aA}{P:kA}(hp:oA h [u0,u1,u2]=some ([v0,v1,v2],h1)):gA X MK [u0,u1,u2] h P=(oK (gA X) X.gl [(0,v0),(1,v1),(2,v2)] h1 [] (mA [.t 6,.t 7] false h.length P)).1:=by rw[yA zmj rfl hp rfl];exact za8
theorem zmm:X.fn OK=some gR:=by kernel_rfl
theorem z8B {u0 u1 u2 v0 v1 v2:AV}{h h1:aA}{P:kA}(hp:oA h [u0,u1,u2]=some ([v0,v1,v2],h1)):gA X OK [u0,u1,u2] h P=(rK (gA X) X.gl [(0,v0),(1,v1),(2,v2)] h1 [] (mA [.t 6,.t 7] false h.length P)).1:=by rw[yA zmm rfl hp rfl];exact zaI
theorem zm9:X.fn RF=some MM:=by kernel_rfl
theorem z8Y {u0 v0:AV}{h h1:aA}{P:kA}(hp:oA h [u0]=some ([v0],h1)):gA X RF [u0] h P=(HN (gA X) X.gl [(0,v0)] h1 [] (mA [.t 2] false h.length P)).1:=by rw[yA zm9 rfl hp rfl];exact zbz
theorem zng:X.fn CI=some mS:=by kernel_rfl
theorem z94 {u0 u1 u2 v0 v1 v2:AV}{h h1:aA}{P:kA}(hp:oA h [u0,u1,u2]=some ([v0,v1,v2],h1)):gA X CI [u0,u1,u2] h P=(DK (gA X) X.gl [(0,v0),(1,v1),(2,v2)] h1 [] (mA [.t 6] false h.length P)).1:=by rw[yA zng rfl hp rfl];exact zc7
theorem zmS:X.fn SF=some XR:=by kernel_rfl
theorem z9q {u0 u1 v0 v1:AV}{h h1:aA}{P:kA}(hp:oA h [u0,u1]=some ([v0,v1],h1)):gA X SF [u0,u1] h P=(JG (gA X) X.gl [(0,v0),(1,v1)] h1 [] (mA [.t 4] false h.length P)).1:=by rw[yA zmS rfl hp rfl];exact zcf
theorem zmo:X.fn nI=some jR:=by kernel_rfl
theorem z8D {u0 u1 u2 v0 v1 v2:AV}{h h1:aA}{P:kA}(hp:oA h [u0,u1,u2]=some ([v0,v1,v2],h1)):gA X nI [u0,u1,u2] h P=(QH (gA X) X.gl [(0,v0),(1,v1),(2,v2)] h1 [] (mA [.cell 6 (some 2),.t 7] false h.length P)).1:=by rw[yA zmo rfl hp rfl];exact zaN
theorem zmD:X.fn WK=some HR:=by kernel_rfl
theorem z9c {u0 v0:AV}{h h1:aA}{P:kA}(hp:oA h [u0]=some ([v0],h1)):gA X WK [u0] h P=(xK (gA X) X.gl [(0,v0)] h1 [] (mA [.t 2] false h.length P)).1:=by rw[yA zmD rfl hp rfl];exact zb9
theorem zmP:X.fn wI=some UR:=by kernel_rfl
theorem z9n {u0 v0:AV}{h h1:aA}{P:kA}(hp:oA h [u0]=some ([v0],h1)):gA X wI [u0] h P=(UH (gA X) X.gl [(0,v0)] h1 [] (mA [.t 2] false h.length P)).1:=by rw[yA zmP rfl hp rfl];exact zbY
theorem zmI:X.fn XK=some MR:=by kernel_rfl
theorem z9g {u0 u1 u2 v0 v1 v2:AV}{h h1:aA}{P:kA}(hp:oA h [u0,u1,u2]=some ([v0,v1,v2],h1)):gA X XK [u0,u1,u2] h P=NN (gA X) X.gl nJ aM v0 v1 v2 h1 [] (mA [.t 6] false h.length P):=by rw[yA zmI rfl hp rfl];exact zbF
theorem zmR:X.fn bL=some WR:=by kernel_rfl
theorem z9p {u0 u1 v0 v1:AV}{h h1:aA}{P:kA}(hp:oA h [u0,u1]=some ([v0,v1],h1)):gA X bL [u0,u1] h P=(VH (gA X) X.gl [(0,v0),(1,v1)] h1 [] (mA [.t 4] false h.length P)).1:=by rw[yA zmR rfl hp rfl];exact zcc
theorem zmE:X.fn OC=some IR:=by kernel_rfl
theorem z9d {u0 u1 v0 v1:AV}{h h1:aA}{P:kA}(hp:oA h [u0,u1]=some ([v0,v1],h1)):gA X OC [u0,u1] h P=(yK (gA X) X.gl [(0,v0),(1,v1)] h1 [] (mA [.t 4] false h.length P)).1:=by rw[yA zmE rfl hp rfl];exact zbB
theorem zlY:X.fn OF=some BM:=by kernel_rfl
theorem z8v {u0 v0:AV}{h h1:aA}{P:kA}(hp:oA h [u0]=some ([v0],h1)):gA X OF [u0] h P=(kN (gA X) X.gl [(0,v0)] h1 [] (mA [.t 2] false h.length P)).1:=by rw[yA zlY rfl hp rfl];exact zap
theorem zml:X.fn nF=some fR:=by kernel_rfl
theorem z8A {u0 u1 v0 v1:AV}{h h1:aA}{P:kA}(hp:oA h [u0,u1]=some ([v0,v1],h1)):gA X nF [u0,u1] h P=(qK (gA X) X.gl [(0,v0),(1,v1)] h1 [] (mA [.t 4] false h.length P)).1:=by rw[yA zml rfl hp rfl];exact zaH
theorem zne:X.fn BI=some lS:=by kernel_rfl
theorem z92 {u0 v0:AV}{h h1:aA}{P:kA}(hp:oA h [u0]=some ([v0],h1)):gA X BI [u0] h P=(aO (gA X) X.gl [(0,v0)] h1 [] (mA [.t 2] true h.length P)).1:=by rw[yA zne rfl hp rfl];exact zc1
theorem znl:X.fn IE=some qS:=by kernel_rfl
theorem ES {u0 u1 h P}:gA X IE [u0,u1] h P=(XH (gA X) X.gl [(0,u0),(1,u1)] h [] (mA [] false h.length P)).1:=by rw[PD znl rfl rfl];exact zcK
theorem zmq:X.fn HE=some lR:=by kernel_rfl
theorem z8F {u0 u1 v0 v1:AV}{h h1:aA}{P:kA}(hp:oA h [u0,u1]=some ([v0,v1],h1)):gA X HE [u0,u1] h P=(uN (gA X) X.gl [(0,v0),(1,v1)] h1 [] (mA [.t 4] false h.length P)).1:=by rw[yA zmq rfl hp rfl];exact zaT
theorem znd:X.fn TF=some kS:=by kernel_rfl
theorem z91 {u0 u1 h P}:gA X TF [u0,u1] h P=(CK (gA X) X.gl [(0,u0),(1,u1)] h [] (mA [.t 4] false h.length P)).1:=by rw[PD znd rfl rfl];exact zcu
theorem zm5:X.fn QG=some zR:=by kernel_rfl
theorem z8U {u0 u1 v0 v1:AV}{h h1:aA}{P:kA}(hp:oA h [u0,u1]=some ([v0,v1],h1)):gA X QG [u0,u1] h P=(HG (gA X) X.gl [(0,v0),(1,v1)] h1 [] (mA [.t 4] false h.length P)).1:=by rw[yA zm5 rfl hp rfl];exact zbq
theorem zms:X.fn pI=some nR:=by kernel_rfl
theorem z8H {u0 v0:AV}{h h1:aA}{P:kA}(hp:oA h [u0]=some ([v0],h1)):gA X pI [u0] h P=(vN (gA X) X.gl [(0,v0)] h1 [] (mA [.cell 2 (some 4)] false h.length P)).1:=by rw[yA zms rfl hp rfl];exact zaX
theorem zm4:X.fn PG=some yR:=by kernel_rfl
theorem z8T {u0 u1 u2 v0 v1 v2:AV}{h h1:aA}{P:kA}(hp:oA h [u0,u1,u2]=some ([v0,v1,v2],h1)):gA X PG [u0,u1,u2] h P=(SH (gA X) X.gl [(0,v0),(1,v1),(2,v2)] h1 [] (mA [.t 6] false h.length P)).1:=by rw[yA zm4 rfl hp rfl];exact zbo
theorem zmu:X.fn NG=some pR:=by kernel_rfl
theorem z8J {u0 u1 u2 v0 v1 v2:AV}{h h1:aA}{P:kA}(hp:oA h [u0,u1,u2]=some ([v0,v1,v2],h1)):gA X NG [u0,u1,u2] h P=(wN (gA X) X.gl [(0,v0),(1,v1),(2,v2)] h1 [] (mA [.t 6] false h.length P)).1:=by rw[yA zmu rfl hp rfl];exact zaZ
theorem zmp:X.fn oI=some kR:=by kernel_rfl
theorem z8E {u0 u1 v0 v1:AV}{h h1:aA}{P:kA}(hp:oA h [u0,u1]=some ([v0,v1],h1)):gA X oI [u0,u1] h P=(tK (gA X) X.gl [(0,v0),(1,v1)] h1 [] (mA [.t 4] false h.length P)).1:=by rw[yA zmp rfl hp rfl];exact zaS
theorem zm0:X.fn tI=some uR:=by kernel_rfl
theorem z8P {u0 u1 v0 v1:AV}{h h1:aA}{P:kA}(hp:oA h [u0,u1]=some ([v0,v1],h1)):gA X tI [u0,u1] h P=(CN (gA X) X.gl [(0,v0),(1,v1)] h1 [] (mA [.cell 4 (some 2)] false h.length P)).1:=by rw[yA zm0 rfl hp rfl];exact zbi
theorem znh:X.fn DI=some nS:=by kernel_rfl
theorem z95 {u0 u1 v0 v1:AV}{h h1:aA}{P:kA}(hp:oA h [u0,u1]=some ([v0,v1],h1)):gA X DI [u0,u1] h P=(EK (gA X) X.gl [(0,v0),(1,v1)] h1 [] (mA [.t 4] false h.length P)).1:=by rw[yA znh rfl hp rfl];exact zcA
theorem zmt:X.fn oF=some oR:=by kernel_rfl
theorem z8I {u0 u1 v0 v1:AV}{h h1:aA}{P:kA}(hp:oA h [u0,u1]=some ([v0,v1],h1)):gA X oF [u0,u1] h P=(uK (gA X) X.gl [(0,v0),(1,v1)] h1 [] (mA [.t 4] false h.length P)).1:=by rw[yA zmt rfl hp rfl];exact zaY
theorem zlZ:X.fn PF=some CM:=by kernel_rfl
theorem z8w {u0 u1 v0 v1:AV}{h h1:aA}{P:kA}(hp:oA h [u0,u1]=some ([v0,v1],h1)):gA X PF [u0,u1] h P=(mN (gA X) X.gl [(0,v0),(1,v1)] h1 [] (mA [.cell 4 (some 2)] false h.length P)).1:=by rw[yA zlZ rfl hp rfl];exact zas
theorem zmG:X.fn sC=some KR:=by kernel_rfl
theorem z9e {u0 u1 v0 v1:AV}{h h1:aA}{P:kA}(hp:oA h [u0,u1]=some ([v0,v1],h1)):gA X sC [u0,u1] h P=(LN (gA X) X.gl [(0,v0),(1,v1)] h1 [] (mA [.t 4] false h.length P)).1:=by rw[yA zmG rfl hp rfl];exact zbD
theorem zmC:X.fn TD=some GR:=by kernel_rfl
theorem z9b {u0 u1 v0 v1:AV}{h h1:aA}{P:kA}(hp:oA h [u0,u1]=some ([v0,v1],h1)):gA X TD [u0,u1] h P=(KN (gA X) X.gl [(0,v0),(1,v1)] h1 [] (mA [.t 4] false h.length P)).1:=by rw[yA zmC rfl hp rfl];exact zb8
theorem zmN:X.fn nD=some SR:=by kernel_rfl
theorem z9l {u0 u1 v0 v1:AV}{h h1:aA}{P:kA}(hp:oA h [u0,u1]=some ([v0,v1],h1)):gA X nD [u0,u1] h P=(RN (gA X) X.gl [(0,v0),(1,v1)] h1 [] (mA [.t 4] false h.length P)).1:=by rw[yA zmN rfl hp rfl];exact zbW
theorem zmF:X.fn TG=some JR:=by kernel_rfl
theorem z0s {u0 u1 u2 v0 v1 v2:AV}{h h1:aA}{P:kA}(hp:oA h [u0,u1,u2]=some ([v0,v1,v2],h1)):gA X TG [u0,u1,u2] h P=(zK (gA X) X.gl [(0,v0),(1,v1),(2,v2)] h1 [] (mA [.t 6] false h.length P)).1:=by rw[yA zmF rfl hp rfl];exact zbC
theorem zmO:X.fn WG=some TR:=by kernel_rfl
theorem z9m {u0 v0:AV}{h h1:aA}{P:kA}(hp:oA h [u0]=some ([v0],h1)):gA X WG [u0] h P=(IG (gA X) X.gl [(0,v0)] h1 [] (mA [.t 2] false h.length P)).1:=by rw[yA zmO rfl hp rfl];exact zbX
theorem zmT:X.fn dL=some YR:=by kernel_rfl
theorem z9r {u0 u1 v0 v1:AV}{h h1:aA}{P:kA}(hp:oA h [u0,u1]=some ([v0,v1],h1)):gA X dL [u0,u1] h P=(TN (gA X) X.gl [(0,v0),(1,v1)] h1 [] (mA [.t 4] false h.length P)).1:=by rw[yA zmT rfl hp rfl];exact zcg
theorem zmW:X.fn UD=some bS:=by kernel_rfl
theorem z9u {u0 u1 u2 v0 v1 v2:AV}{h h1:aA}{P:kA}(hp:oA h [u0,u1,u2]=some ([v0,v1,v2],h1)):gA X UD [u0,u1,u2] h P=(WN (gA X) X.gl [(0,v0),(1,v1),(2,v2)] h1 [] (mA [.t 6] false h.length P)).1:=by rw[yA zmW rfl hp rfl];exact zcl
theorem zmJ:X.fn UG=some NR:=by kernel_rfl
theorem z9h {u0 u1 v0 v1:AV}{h h1:aA}{P:kA}(hp:oA h [u0,u1]=some ([v0,v1],h1)):gA X UG [u0,u1] h P=(ON (gA X) X.gl [(0,v0),(1,v1)] h1 [] (mA [.t 4] false h.length P)).1:=by rw[yA zmJ rfl hp rfl];exact zbO
theorem zmf:X.fn mF=some IM:=by kernel_rfl
theorem z83 {u0 v0:AV}{h h1:aA}{P:kA}(hp:oA h [u0]=some ([v0],h1)):gA X mF [u0] h P=(qN (gA X) X.gl [(0,v0)] h1 [] (mA [.t 2] false h.length P)).1:=by rw[yA zmf rfl hp rfl];exact za2
theorem zme:X.fn lF=some HM:=by kernel_rfl
theorem z82 {u0 u1 v0 v1:AV}{h h1:aA}{P:kA}(hp:oA h [u0,u1]=some ([v0,v1],h1)):gA X lF [u0,u1] h P=(NH (gA X) X.gl [(0,v0),(1,v1)] h1 [] (mA [.t 4] false h.length P)).1:=by rw[yA zme rfl hp rfl];exact za1
theorem zns:X.fn oD=some PM:=by kernel_rfl
theorem z9C {u0 u1 v0 v1:AV}{h h1:aA}{P:kA}(hp:oA h [u0,u1]=some ([v0,v1],h1)):gA X oD [u0,u1] h P=(lO (gA X) X.gl [(0,v0),(1,v1)] h1 [] (mA [.t 4] false h.length P)).1:=by rw[yA zns rfl hp rfl];exact zdu
theorem zmK:X.fn VG=some OR:=by kernel_rfl
theorem z9i {u0 u1 v0 v1:AV}{h h1:aA}{P:kA}(hp:oA h [u0,u1]=some ([v0,v1],h1)):gA X VG [u0,u1] h P=(AK (gA X) X.gl [(0,v0),(1,v1)] h1 [] (mA [.t 4] false h.length P)).1:=by rw[yA zmK rfl hp rfl];exact zbP
theorem zmY:X.fn fL=some eS:=by kernel_rfl
theorem z9w {u0 u1 v0 v1:AV}{h h1:aA}{P:kA}(hp:oA h [u0,u1]=some ([v0,v1],h1)):gA X fL [u0,u1] h P=(SD (gA X) X.gl [(0,v0),(1,v1)] h1 [] (mA [.t 4] false h.length P)).1:=by rw[yA zmY rfl hp rfl];exact zcp
theorem zna:X.fn gL=some gS:=by kernel_rfl
theorem z9y {u0 u1 v0 v1:AV}{h h1:aA}{P:kA}(hp:oA h [u0,u1]=some ([v0,v1],h1)):gA X gL [u0,u1] h P=(BK (gA X) X.gl [(0,v0),(1,v1)] h1 [] (mA [.t 4] false h.length P)).1:=by rw[yA zna rfl hp rfl];exact zcr
theorem zmB:X.fn SG=some FR:=by kernel_rfl
theorem z9a {u0 u1 v0 v1:AV}{h h1:aA}{P:kA}(hp:oA h [u0,u1]=some ([v0,v1],h1)):gA X SG [u0,u1] h P=(JN (gA X) X.gl [(0,v0),(1,v1)] h1 [] (mA [.t 4] false h.length P)).1:=by rw[yA zmB rfl hp rfl];exact zb6
theorem zmk:X.fn NK=some eR:=by kernel_rfl
theorem z89 {u0 v0:AV}{h h1:aA}{P:kA}(hp:oA h [u0]=some ([v0],h1)):gA X NK [u0] h P=(OH (gA X) X.gl [(0,v0)] h1 [] (mA [.t 2] false h.length P)).1:=by rw[yA zmk rfl hp rfl];exact zaE
theorem zm3:X.fn SK=some xR:=by kernel_rfl
theorem z8S {u0 u1 v0 v1:AV}{h h1:aA}{P:kA}(hp:oA h [u0,u1]=some ([v0,v1],h1)):gA X SK [u0,u1] h P=(vK (gA X) X.gl [(0,v0),(1,v1)] h1 [] (mA [.t 4] false h.length P)).1:=by rw[yA zm3 rfl hp rfl];exact zbl
theorem znp:X.fn YG=some uS:=by kernel_rfl
theorem GS {u0 u1 u2 h P}:gA X YG [u0,u1,u2] h P=(ZH (gA X) X.gl [(0,u0),(1,u1),(2,u2)] h [] (mA [] false h.length P)).1:=by rw[PD znp rfl rfl];exact zcX
theorem znc:X.fn jL=some jS:=by kernel_rfl
theorem z90 {u0 v0:AV}{h h1:aA}{P:kA}(hp:oA h [u0]=some ([v0],h1)):gA X jL [u0] h P = ∃v h' x,P v h' x∧(ZN (gA X) X.gl [(0,v0)] h1 [] (mA [.t 2] true h.length fun v1 h1 x1=>v1=v∧h1=h'∧x1=x)).1:=by rw[z0u znc rfl hp rfl];exact zdB fun v h' x=>congrArg (And (P v h' x)) zct
theorem zmd:X.fn tB=some GM:=by kernel_rfl
theorem z81 {u0 u1 u2 v0 v1 v2:AV}{h h1:aA}{P:kA}(hp:oA h [u0,u1,u2]=some ([v0,v1,v2],h1)):gA X tB [u0,u1,u2] h P=(pN (gA X) X.gl [(0,v0),(1,v1),(2,v2)] h1 [] (mA [.t 6] false h.length P)).1:=by rw[yA zmd rfl hp rfl];exact za0
theorem znk:X.fn kL=some pS:=by kernel_rfl
theorem z98 {u0 u1 h P}:gA X kL [u0,u1] h P=(eO (gA X) X.gl [(0,u0),(1,u1)] h [] (mA [] false h.length P)).1:=by rw[PD znk rfl rfl];exact zcJ
theorem zmv:X.fn qI=some qR:=by kernel_rfl
theorem z8K {u0 u1 v0 v1:AV}{h h1:aA}{P:kA}(hp:oA h [u0,u1]=some ([v0,v1],h1)):gA X qI [u0,u1] h P=(xN (gA X) X.gl [(0,v0),(1,v1)] h1 [] (mA [.t 4] false h.length P)).1:=by rw[yA zmv rfl hp rfl];exact zbd
theorem zmy:X.fn sI=some tR:=by kernel_rfl
theorem z8N {u0 u1 v0 v1:AV}{h h1:aA}{P:kA}(hp:oA h [u0,u1]=some ([v0,v1],h1)):gA X sI [u0,u1] h P=(AN (gA X) X.gl [(0,v0),(1,v1)] h1 [] (mA [.t 4] false h.length P)).1:=by rw[yA zmy rfl hp rfl];exact zbg
theorem zma:X.fn kI=some DM:=by kernel_rfl
theorem z8x {u0 u1 v0 v1:AV}{h h1:aA}{P:kA}(hp:oA h [u0,u1]=some ([v0,v1],h1)):gA X kI [u0,u1] h P=(nN (gA X) X.gl [(0,v0),(1,v1)] h1 [] (mA [.t 4] false h.length P)).1:=by rw[yA zma rfl hp rfl];exact zat
theorem zmb:X.fn IC=some EM:=by kernel_rfl
theorem z8y {u0 v0:AV}{h h1:aA}{P:kA}(hp:oA h [u0]=some ([v0],h1)):gA X IC [u0] h P=(JF (gA X) X.gl [(0,v0)] h1 [] (mA [.t 2] false h.length P)).1:=by rw[yA zmb rfl hp rfl];exact zaw
theorem zmX:X.fn yI=some dS:=by kernel_rfl
theorem z9v {u0 u1 v0 v1:AV}{h h1:aA}{P:kA}(hp:oA h [u0,u1]=some ([v0,v1],h1)):gA X yI [u0,u1] h P=(XN (gA X) X.gl [(0,v0),(1,v1)] h1 [] (mA [.t 4] false h.length P)).1:=by rw[yA zmX rfl hp rfl];exact zcm
theorem zni:X.fn EI=some oS:=by kernel_rfl
theorem z96 {u0 u1 h P}:gA X EI [u0,u1] h P=(cO (gA X) X.gl [(0,u0),(1,u1)] h [] (mA [.t 4] false h.length P)).1:=by rw[PD zni rfl rfl];exact zcD
theorem zmU:X.fn xI=some ZR:=by kernel_rfl
theorem z9s {u0 u1 v0 v1:AV}{h h1:aA}{P:kA}(hp:oA h [u0,u1]=some ([v0,v1],h1)):gA X xI [u0,u1] h P=(UN (gA X) X.gl [(0,v0),(1,v1)] h1 [] (mA [.t 3] false h.length P)).1:=by rw[yA zmU rfl hp rfl];exact zch
theorem zmg:X.fn MG=some JM:=by kernel_rfl
theorem z84 {u0 v0:AV}{h h1:aA}{P:kA}(hp:oA h [u0]=some ([v0],h1)):gA X MG [u0] h P=(rN (gA X) X.gl [(0,v0)] h1 [] (mA [.t 2] false h.length P)).1:=by rw[yA zmg rfl hp rfl];exact za5
theorem zmh:X.fn lI=some KM:=by kernel_rfl
theorem z86 {u0 u1 v0 v1:AV}{h h1:aA}{P:kA}(hp:oA h [u0,u1]=some ([v0,v1],h1)):gA X lI [u0,u1] h P=(sN (gA X) X.gl [(0,v0),(1,v1)] h1 [] (mA [.t 4] false h.length P)).1:=by rw[yA zmh rfl hp rfl];exact za6
theorem zmQ:X.fn aL=some VR:=by kernel_rfl
theorem z9o {u0 v0:AV}{h h1:aA}{P:kA}(hp:oA h [u0]=some ([v0],h1)):gA X aL [u0] h P=(SN (gA X) X.gl [(0,v0)] h1 [] (mA [.t 2] false h.length P)).1:=by rw[yA zmQ rfl hp rfl];exact zcb
theorem znf:X.fn UF=some NM:=by kernel_rfl
theorem z93 {u0 u1 h P}:gA X UF [u0,u1] h P=(bO (gA X) X.gl [(0,u0),(1,u1)] h [] (mA [.t 4] false h.length P)).1:=by rw[PD znf rfl rfl];exact zc6
theorem zmZ:X.fn zI=some fS:=by kernel_rfl
theorem z9x {u0 v0:AV}{h h1:aA}{P:kA}(hp:oA h [u0]=some ([v0],h1)):gA X zI [u0] h P=(YN (gA X) X.gl [(0,v0)] h1 [] (mA [.t 2] false h.length P)).1:=by rw[yA zmZ rfl hp rfl];exact zcq
theorem zmV:X.fn eL=some aS:=by kernel_rfl
theorem z9t {u0 u1 v0 v1:AV}{h h1:aA}{P:kA}(hp:oA h [u0,u1]=some ([v0,v1],h1)):gA X eL [u0,u1] h P=(VN (gA X) X.gl [(0,v0),(1,v1)] h1 [] (mA [.t 4] false h.length P)).1:=by rw[yA zmV rfl hp rfl];exact zci
theorem znb:X.fn iL=some iS:=by kernel_rfl
theorem z9z {u0 v0:AV}{h h1:aA}{P:kA}(hp:oA h [u0]=some ([v0],h1)):gA X iL [u0] h P=(WH (gA X) X.gl [(0,v0)] h1 [] (mA [.t 2] false h.length P)).1:=by rw[yA znb rfl hp rfl];exact zcs
theorem zmw:X.fn QK=some rR:=by kernel_rfl
theorem z8L {u0 u1 v0 v1:AV}{h h1:aA}{P:kA}(hp:oA h [u0,u1]=some ([v0,v1],h1)):gA X QK [u0,u1] h P=(yN (gA X) X.gl [(0,v0),(1,v1)] h1 [] (mA [.t 4] false h.length P)).1:=by rw[yA zmw rfl hp rfl];exact zbe
theorem zm1:X.fn RK=some vR:=by kernel_rfl
theorem z8Q {u0 u1 v0 v1:AV}{h h1:aA}{P:kA}(hp:oA h [u0,u1]=some ([v0,v1],h1)):gA X RK [u0,u1] h P=(gF (gA X) X.gl [(0,v0),(1,v1)] h1 [] (mA [.t 4] false h.length P)).1:=by rw[yA zm1 rfl hp rfl];exact zbj
theorem znm:X.fn DD=some rS:=by kernel_rfl
theorem FS {u0 u1 u2 u3 h P}:gA X DD [u0,u1,u2,u3] h P=(YH (gA X) X.gl [(0,u0),(1,u1),(2,u2),(3,u3)] h [] (mA [] false h.length P)).1:=by rw[PD znm rfl rfl];exact zcL
theorem znr:X.fn mE=some xS:=by kernel_rfl
theorem IS {u0 u1 u2 u3 u4 h P}:gA X mE [u0,u1,u2,u3,u4] h P=(aI (gA X) X.gl [(0,u0),(1,u1),(2,u2),(3,u3),(4,u4)] h [] (mA [] false h.length P)).1:=by rw[PD znr rfl rfl];exact zdg
theorem znn:X.fn XG=some sS:=by kernel_rfl
theorem z99 {u0 u1 u2 u3 u4 h P}:gA X XG [u0,u1,u2,u3,u4] h P=(fO (gA X) X.gl [(0,u0),(1,u1),(2,u2),(3,u3),(4,u4)] h [] (mA [] false h.length P)).1:=by rw[PD znn rfl rfl];exact zcP
theorem zm6:X.fn TK=some AR:=by kernel_rfl
theorem z8V {u0 v0:AV}{h h1:aA}{P:kA}(hp:oA h [u0]=some ([v0],h1)):gA X TK [u0] h P=(EN (gA X) X.gl [(0,v0)] h1 [] (mA [.t 2] false h.length P)).1:=by rw[yA zm6 rfl hp rfl];exact zbr
theorem zmz:X.fn OG=some LM:=by kernel_rfl
theorem z8O {u0 v0:AV}{h h1:aA}{P:kA}(hp:oA h [u0]=some ([v0],h1)):gA X OG [u0] h P=(BN (gA X) X.gl [(0,v0)] h1 [] (mA [.t 2] false h.length P)).1:=by rw[yA zmz rfl hp rfl];exact zbh
theorem znt:X.fn nL=some yS:=by kernel_rfl
theorem z9D {u0 u1 v0 v1:AV}{h h1:aA}{P:kA}(hp:oA h [u0,u1]=some ([v0,v1],h1)):gA X nL [u0,u1] h P=(mO (gA X) X.gl [(0,v0),(1,v1)] h1 [] (mA [.t 4] false h.length P)).1:=by rw[yA znt rfl hp rfl];exact zdv
theorem znj:X.fn FI=some OM:=by kernel_rfl
theorem z97 {u0 u1 h P}:gA X FI [u0,u1] h P=(dO (gA X) X.gl [(0,u0),(1,u1)] h [] (mA [.t 4] false h.length P)).1:=by rw[PD znj rfl rfl];exact zcG
theorem zmx:X.fn rI=some sR:=by kernel_rfl
theorem z8M {u0 u1 v0 v1:AV}{h h1:aA}{P:kA}(hp:oA h [u0,u1]=some ([v0,v1],h1)):gA X rI [u0,u1] h P=(zN (gA X) X.gl [(0,v0),(1,v1)] h1 [] (mA [.t 3] false h.length P)).1:=by rw[yA zmx rfl hp rfl];exact zbf
theorem zmc:X.fn QF=some FM:=by kernel_rfl
theorem z8z {u0 v0:AV}{h h1:aA}{P:kA}(hp:oA h [u0]=some ([v0],h1)):gA X QF [u0] h P=(oN (gA X) X.gl [(0,v0)] h1 [] (mA [.t 2] false h.length P)).1:=by rw[yA zmc rfl hp rfl];exact zaz
theorem zm2:X.fn uI=some wR:=by kernel_rfl
theorem z8R {u0 v0:AV}{h h1:aA}{P:kA}(hp:oA h [u0]=some ([v0],h1)):gA X uI [u0] h P=(DN (gA X) X.gl [(0,v0)] h1 [] (mA [.t 2] false h.length P)).1:=by rw[yA zm2 rfl hp rfl];exact zbk
theorem zmr:X.fn PK=some mR:=by kernel_rfl
theorem z8G {u0 u1 v0 v1:AV}{h h1:aA}{P:kA}(hp:oA h [u0,u1]=some ([v0,v1],h1)):gA X PK [u0,u1] h P=(RH (gA X) X.gl [(0,v0),(1,v1)] h1 [] (mA [.t 4] false h.length P)).1:=by rw[yA zmr rfl hp rfl];exact zaU
theorem zno:X.fn lL=some tS:=by kernel_rfl
theorem z9A {u0 u1 u2 u3 u4 h P}:gA X lL [u0,u1,u2,u3,u4] h P=(iO (gA X) X.gl [(0,u0),(1,u1),(2,u2),(3,u3),(4,u4)] h [] (mA [] false h.length P)).1:=by rw[PD zno rfl rfl];exact zcU
theorem zm7:X.fn UK=some BR:=by kernel_rfl
theorem z8W {u0 v0:AV}{h h1:aA}{P:kA}(hp:oA h [u0]=some ([v0],h1)):gA X UK [u0] h P=(FN (gA X) X.gl [(0,v0)] h1 [] (mA [.t 2] false h.length P)).1:=by rw[yA zm7 rfl hp rfl];exact zbs
theorem zmi:X.fn LK=some cR:=by kernel_rfl
theorem z87 {u0 u1 v0 v1:AV}{h h1:aA}{P:kA}(hp:oA h [u0,u1]=some ([v0,v1],h1)):gA X LK [u0,u1] h P=(tN (gA X) X.gl [(0,v0),(1,v1)] h1 [] (mA [.t 4] false h.length P)).1:=by rw[yA zmi rfl hp rfl];exact za7
theorem znq:X.fn ZG=some vS:=by kernel_rfl
theorem z9B {u0 u1 u2 u3 u4 h P}:gA X ZG [u0,u1,u2,u3,u4] h P=(jO (gA X) X.gl [(0,u0),(1,u1),(2,u2),(3,u3),(4,u4)] h [] (mA [] false h.length P)).1:=by rw[PD znq rfl rfl];exact zde
attribute [go_sem] zbx zby lV zeV IT JT TH zbR zbS zfa UT VT zbU zbV zfb WT XT zb3 zb4 zb5 zeX NT OT PT zaM gI FK GK zeP zeQ z0P GG PH KF za9 zaA zaB zaC zaD zeL
attribute [go_sem] zeM jT kT lT mT nT zaJ zaK zeO qT rT zb0 zb1 zeW LT MT zc8 zc9 zfk sU tU zaO zaP zaQ zaR zeR tT uT vT wT zbA RT zbZ zca zfc YT ZT zbG zbH zbI
attribute [go_sem] zbJ zbK zbL zbM zbN zeY zeZ z0Q z0R ST z0S FE z0T TT z0U zcd zce zfd aU bU zaq zar zeH YS ZS zc2 zc3 zc4 zc5 zfi zfj oU pU qU rU zcv zcw zcx zcy zcz
attribute [go_sem] zc0 zfg zfh gU iU jU kU lU nU zbp ET zba zbb zbc zeT zT AT BT zcB zcC zfl uU vU za3 za4 zeK gT iT zb7 QT zaF zaG zeN oT pT zbm zbn zeU CT DT
attribute [go_sem] zcY zcZ zda zdb zdc zdd zfs zft zfu KU LU MU NU OU PU zau zav zeI aT bT zax zay zeJ eT fT zcn zco zff eU fU zcE zcF zfm wU xU zcj zck zfe cU dU
attribute [go_sem] zcM zcN zcO zfo zfp BU CU DU zdh zdm zdn zdo zdp zdq zdr zds zdt nV oV zdi zdj zdk zdl zfw zfx zfy zfz zf0 RU WU XU YU ZU aV bV cV dV bI dI SU
attribute [go_sem] TU UU VU zcQ zcR zcS zcT zfq EU FU GU HU zcH zcI zfn yU zU zaV zaW zeS xT yT zcV zcW zfr IU JU zbt zbu zbv FT GT HT zdf zfv QU zdy zdz zd0 zd1
attribute [go_sem] zf1 zf2 z0V fV iV z0W
end Go.Am
end
section
/- The stream of numbers out of which the laws draw. -/
open Go
namespace Go.Am
abbrev eI (n:Int):PV:=.int .i64 n
abbrev AL (l:List Int):AV:=.p (.sl none (l.map eI))
abbrev AA (L:List Int)(a:Int):Obj:=.box [AL L,AI a]
def DF (x n:Int):Int:=if n<1 then 0 else if x.tmod n<0 then IntKind.i64.wrap (x.tmod n+n) else x.tmod n
theorem z4L (x n:Int)(h:aA)(K:kA):gA X SG [AI x,AI n] h K=K (AI (DF x n)) h []:=by
 refine rule ?_;rw[z9a rfl];simp only[JN,go_sem];unfold DF;by_cases h1:n<1
 ·simp only[h1,if_true]
 ·simp only[h1,if_false,show ¬n=0 by omega]
  split <;> rfl
theorem z7U (x n:Int)(h1:1≤n)(h2:n≤4611686018427387904):0≤DF x n∧DF x n<n:=by
 unfold DF;rw[if_neg (by omega)]
 have:=Int.tmod_lt_of_pos x (show 0<n by omega)
 have h3 : -n<x.tmod n:=by
  have:=Int.lt_tmod_of_pos x (show 0<n by omega)
  exact this
 split
 ·rw[nA _ (by omega) (by omega)];omega
 ·omega
def jB (L:List Int)(a n:Int):Int:=
 if L.length=0 then DF (IntKind.i64.wrap ((a+1)*7919)) n
 else DF (IntKind.i64.wrap (DF (L.getD (a.tmod L.length).toNat 0) 1073741824+IntKind.i64.wrap (IntKind.i64.wrap (a.tdiv L.length)*IntKind.i64.wrap (7919+a.tmod L.length)))) n
theorem ZF (L:List Int)(a n:Int)(h1:1≤n)(h2:n≤4611686018427387904):0≤jB L a n∧jB L a n<n:=by
 unfold jB;split <;> exact z7U _ _ h1 h2
theorem uD {h:aA}{id:Nat}{o':Obj}(hid:id<h.length):(h.set id o')[id]?=some o':=by simp [hid]
theorem ED {h:aA}{id:Nat}{o:Obj}(hh:h[id]?=some o):id<h.length:=(List.getElem?_eq_some_iff.1 hh).1
def LA (n:Nat)(a:Int):Prop:=0≤a∧a+n<4611686018427387904
theorem sE {n m:Nat}{a b:Int}(H:LA m a)(h:a≤b)(hn:b+n≤a+m):LA n b:=by unfold LA at *;omega
theorem jG {a:Int}(H:LA 14 a):LA 0 (a)∧LA 0 (a+1)∧LA 0 (a+1+1)∧LA 0 (a+1+1+1)∧LA 0 (a+1+1+1+1)∧LA 0 (a+1+1+1+1+1)∧LA 0 (a+1+1+1+1+1+1)∧LA 0 (a+1+1+1+1+1+1+1)∧LA 0 (a+1+1+1+1+1+1+1+1)∧LA 0 (a+1+1+1+1+1+1+1+1+1)∧LA 0 (a+1+1+1+1+1+1+1+1+1+1)∧LA 0 (a+1+1+1+1+1+1+1+1+1+1+1)∧LA 0 (a+1+1+1+1+1+1+1+1+1+1+1+1)∧LA 0 (a+1+1+1+1+1+1+1+1+1+1+1+1+1)∧LA 0 (a+1+1+1+1+1+1+1+1+1+1+1+1+1+1):=by
 unfold LA at *;omega
def Gen (f:Nat)(args:List AV)(L:List Int)(a a2:Int)(v:AV):Prop:=∀(h:aA) (id:Nat) (K:kA),h[id]?=some (AA L a)→gA X f (.ref id 0::args) h K=K v (h.set id (AA L a2)) []
section
variable {f:Nat} {args:List AV} {L:List Int} {a a2:Int} {v:AV} {h l:aA} {id:Nat} {K:kA}
theorem Gen.set (g:Gen f args L a a2 v)(hid:id<h.length):gA X f (.ref id 0::args) (h.set id (AA L a)) K=K v (h.set id (AA L a2)) []:=by
 rw[g _ _ _ (uD hid),List.set_set]
theorem Gen.app (g:Gen f args L a a2 v)(hid:id<h.length):gA X f (.ref id 0::args) (h.set id (AA L a)++l) K=K v (h.set id (AA L a2)++l) []:=by
 rw[g _ _ _ (by rw[vL (by simpa using hid)];exact uD hid),z5u (by simpa using hid),List.set_set]
theorem Gen.hd (g:Gen f args L a a2 v):gA X f (.ref 0 0::args) (AA L a::l) K=K v (AA L a2::l) []:=by
 rw[g _ _ _ rfl];rfl
theorem Gen.of (H:∀ (h:aA) (id:Nat),id<h.length→gA X f (.ref id 0::args) (h.set id (AA L a)) fun v1 h1 x1=>v1=v∧h1=h.set id (AA L a2)∧x1=[]):Gen f args L a a2 v:=by
 intro h id K hh;have hid:=ED hh
 have:h.set id (AA L a)=h:=by
  apply List.ext_getElem?
  intro i;rw[List.getElem?_set];split
  ·rename_i e;subst e;rw[hh]
  ·rfl
 have k:=H h id hid
 rw[this]at k;exact rule k
end
def qC (f:Nat)(args:List AV)(L:List Int)(a:Int)(Q:AV→Int→Prop):Prop:=∀(h:aA) (id:Nat),h[id]?=some (AA L a)→∃v a2,Q v a2∧∀K:kA,gA X f (.ref id 0::args) h K=K v (h.set id (AA L a2)) []
section
variable {f:Nat} {args:List AV} {L:List Int} {a:Int} {Q:AV→Int→Prop}
theorem qC.set (g:qC f args L a Q){h:aA}{id:Nat}(hid:id<h.length):∃v a2,Q v a2∧∀K:kA,gA X f (.ref id 0::args) (h.set id (AA L a)) K=K v (h.set id (AA L a2)) []:=by
 obtain⟨v,a2,q,r⟩:=g _ _ (uD hid);exact⟨v,a2,q,fun K=>by rw[r,List.set_set]⟩
theorem qC.app (g:qC f args L a Q){h l:aA}{id:Nat}(hid:id<h.length):∃v a2,Q v a2∧∀K:kA,gA X f (.ref id 0::args) (h.set id (AA L a)++l) K=K v (h.set id (AA L a2)++l) []:=by
 obtain⟨v,a2,q,r⟩:=g (h.set id (AA L a)++l) id (by rw[vL (by simpa using hid)];exact uD hid)
 exact⟨v,a2,q,fun K=>by rw[r,z5u (by simpa using hid),List.set_set]⟩
theorem qC.hd (g:qC f args L a Q){l:aA}:∃v a2,Q v a2∧∀K:kA,gA X f (.ref 0 0::args) (AA L a::l) K=K v (AA L a2::l) []:=g (AA L a::l) 0 rfl
theorem qC.of (H:∀ (h:aA) (id:Nat),id<h.length→gA X f (.ref id 0::args) (h.set id (AA L a)) fun v1 h1 x1=>∃ a2,Q v1 a2∧h1=h.set id (AA L a2)∧x1=[]):qC f args L a Q:=by
 intro h id hh;have hid:=ED hh
 have:h.set id (AA L a)=h:=by
  apply List.ext_getElem?
  intro i;rw[List.getElem?_set];split
  ·rename_i e;subst e;rw[hh]
  ·rfl
 have k:=H h id hid
 rw[this]at k;obtain⟨v,h',x,⟨a2,q,e1,e2⟩,r⟩:=gA.one NZ k;subst e1;subst e2
 exact⟨v,a2,q,r⟩
end
def PB (l:List Int)(L:List Int)(a:Int):Int:=l.getD (jB L a l.length).toNat 0
theorem kY {l L:List Int}{a:Int}(hl:0<l.length)(hl2:l.length<4611686018427387904):PB l L a∈l:=by
 obtain⟨b1,b2⟩:=ZF L a l.length (by omega) (by omega)
 unfold PB;have:(jB L a l.length).toNat<l.length:=by omega
 simp only[List.getD,List.getElem?_eq_getElem this,Option.getD_some];exact List.getElem_mem _
def isI:PV→Bool
 | .int .i64 _=>true
 | _=>false
def unI:PV→Int
 | .int _ n=>n
 | _=>0
theorem zlG {xs:List PV}(h:xs.all isI=true):xs=(xs.map unI).map eI:=by
 induction xs with
 | nil=>rfl
 | cons x r ih=>
  simp only[List.all_cons,Bool.and_eq_true]at h;simp only[List.map_cons];rw[←ih h.2];cases x with
  | int k n=>cases k <;> first|rfl|cases h.1
  | _=>cases h.1
set_option maxHeartbeats 400000 in
theorem z3i (L:List Int)(a n:Int)(hp:LA 0 a):Gen OC [AI n] L a (a+1) (AI (jB L a n)):=by
 refine Gen.of fun h id hid=>?_
 rw[z9d rfl];obtain⟨h0,h1⟩:=hp;have w1:IntKind.i64.wrap (a+1)=a+1:=nA _ (by omega) (by omega)
 have w2:IntKind.i64.wrap (a+1-1)=a:=by rw[nA _ (by omega) (by omega)];omega
 have hs:∀o',(h.set id o')[id]?=some o':=fun o'=>uD hid
 rcases Nat.eq_zero_or_pos L.length with hl|hl
 ·simp only[yK,go_sem,hs,z4L,hl,w1]
  simp only[jB,hl,if_true]
 ·have e1:((L.length:Int)=0)=False:=by simp only[eq_iff_iff,iff_false];omega
  have e2:0≤a.tmod L.length:=Int.tmod_nonneg _ h0
  have e3:a.tmod L.length<L.length:=Int.tmod_lt_of_pos _ (by omega)
  have e4:=TO (k:=.i64) e2
  have e5:(L.map eI)[(a.tmod L.length).toNat]?=some (eI (L.getD (a.tmod L.length).toNat 0)):=by
   rw[bB eI (show(a.tmod L.length).toNat<L.length by omega)]
   simp [List.getD,show(a.tmod L.length).toNat<L.length by omega]
  simp only[yK,go_sem,hs,z4L,e1,w1,w2,e4,e5];simp only[jB,show ¬L.length=0 by omega,if_false]
section
variable {L:List Int} {a:Int} {h l:aA} {id:Nat} {K:kA}
theorem SJ (hid:id<h.length)(hp:LA 0 a)(n:Int):gA X OC [.ref id 0,AI n] (h.set id (AA L a)) K=K (AI (jB L a n)) (h.set id (AA L (a+1))) []:=(z3i L a n hp).set hid
theorem z4T (hid:id<h.length)(hp:LA 0 a)(n:Int):gA X OC [.ref id 0,AI n] (h.set id (AA L a)++l) K=K (AI (jB L a n)) (h.set id (AA L (a+1))++l) []:=(z3i L a n hp).app hid
theorem z3h (hp:LA 0 a)(n:Int):Gen TD [AI n] L a (a+1) (AB (decide (jB L a n=0))):=by
 refine Gen.of fun h id hid=>?_
 rw[z9b rfl];simp only[KN,go_sem,SJ hid hp]
theorem z4O (hid:id<h.length)(hp:LA 0 a)(n:Int):gA X TD [.ref id 0,AI n] (h.set id (AA L a)) K=K (AB (decide (jB L a n=0))) (h.set id (AA L (a+1))) []:=(z3h hp n).set hid
theorem z4N (hid:id<h.length)(hp:LA 0 a)(n:Int):gA X TD [.ref id 0,AI n] (h.set id (AA L a)++l) K=K (AB (decide (jB L a n=0))) (h.set id (AA L (a+1))++l) []:=(z3h hp n).app hid
theorem z3k (hp:LA 0 a)(xs:List PV)(hx:xs.all isI=true)(hl:0<xs.length)(hl2:xs.length<4611686018427387904) :
 Gen sC [.p (.sl none xs)] L a (a+1) (AI (PB (xs.map unI) L a)):=by
 refine Gen.of fun h id hid=>?_
 rw[z9e rfl];obtain⟨b1,b2⟩:=ZF L a xs.length (by omega) (by omega)
 have e4:=TO (k:=.i64) b1
 have e5:xs[(jB L a xs.length).toNat]?=some (eI (PB (xs.map unI) L a)):=by
  have hm:=zlG hx
  generalize hq:xs.map unI=q at *;subst hm;simp only[List.length_map]at *;rw[bB eI (show(jB L a q.length).toNat<q.length by omega)]
  simp [PB,List.getD,show(jB L a q.length).toNat<q.length by omega]
 simp only[LN,go_sem,SJ hid hp,e4,e5]
theorem z4W (hid:id<h.length)(hp:LA 0 a){xs:List PV}(hx:xs.all isI=true)(hl:0<xs.length)(hl2:xs.length<4611686018427387904) :
 gA X sC [.ref id 0,.p (.sl none xs)] (h.set id (AA L a)) K=K (AI (PB (xs.map unI) L a)) (h.set id (AA L (a+1))) []:=(z3k hp xs hx hl hl2).set hid
theorem z4V (hid:id<h.length)(hp:LA 0 a){xs:List PV}(hx:xs.all isI=true)(hl:0<xs.length)(hl2:xs.length<4611686018427387904) :
 gA X sC [.ref id 0,.p (.sl none xs)] (h.set id (AA L a)++l) K=K (AI (PB (xs.map unI) L a)) (h.set id (AA L (a+1))++l) []:=(z3k hp xs hx hl hl2).app hid
def YD (u v:Int)(L:List Int)(a:Int):Int:=u+jB L a (v-u+1)
theorem oM {u v:Int}(L:List Int)(a:Int)(h1:u≤v)(h2:v≤u+4611686018427387900):u≤YD u v L a∧YD u v L a≤v:=by
 have:=ZF L a (v-u+1) (by omega) (by omega)
 unfold YD;omega
theorem UV (hp:LA 0 a)(u v:Int)(huv:u≤v)(hu : -1152921504606846976≤u)(hv:v≤1152921504606846976) :
 Gen lE [AI u,AI v] L a (a+1) (AI (YD u v L a)):=by
 refine Gen.of fun h id hid=>?_
 rw[z9f rfl];obtain⟨b1,b2⟩:=oM L a huv (by omega)
 have w1:IntKind.i64.wrap (v-u)=v-u:=nA _ (by omega) (by omega)
 have w2:IntKind.i64.wrap (v-u+1)=v-u+1:=nA _ (by omega) (by omega)
 have w3:IntKind.i64.wrap (u+jB L a (v-u+1))=YD u v L a:=nA (YD u v L a) (by omega) (by omega)
 simp only[MN,go_sem,show ¬v<u by omega,w1,w2,SJ hid hp,w3]
theorem z4Z (hid:id<h.length)(hp:LA 0 a){u v:Int}(huv:u≤v)(hu : -1152921504606846976≤u)(hv:v≤1152921504606846976) :
 gA X lE [.ref id 0,AI u,AI v] (h.set id (AA L a)) K=K (AI (YD u v L a)) (h.set id (AA L (a+1))) []:=(UV hp u v huv hu hv).set hid
theorem z4X (hid:id<h.length)(hp:LA 0 a){u v:Int}(huv:u≤v)(hu : -1152921504606846976≤u)(hv:v≤1152921504606846976) :
 gA X lE [.ref id 0,AI u,AI v] (h.set id (AA L a)++l) K=K (AI (YD u v L a)) (h.set id (AA L (a+1))++l) []:=(UV hp u v huv hu hv).app hid
theorem z4Y (hp:LA 0 a){u v:Int}(huv:u≤v)(hu : -1152921504606846976≤u)(hv:v≤1152921504606846976) :
 gA X lE [.ref 0 0,AI u,AI v] (AA L a::l) K=K (AI (YD u v L a)) (AA L (a+1)::l) []:=(UV hp u v huv hu hv).hd
end
attribute [go_sem ↓] SJ z4T z4O z4N z4W z4V z4Z z4X z4Y
attribute [go_sem] SJ z4T z4O z4N z4W z4V z4Z z4X z4Y isI unI
end Go.Am
end
section
/- Plain laws of fractions in lowest terms. -/
namespace Go.Am
def low (a b:Int):Int×Int:=(a.tdiv (Int.gcd a b),b.tdiv (Int.gcd a b))
theorem II (a b:Int)(hb:0<b):0<(Int.gcd a b:Int):=by
 have:Int.gcd a b≠0:=by
  intro h;have:=(Int.gcd_eq_zero_iff.1 h).2;omega
 omega
theorem QO (a b:Int):(low a b).1*(Int.gcd a b:Int)=a:=by
 unfold low;exact Int.tdiv_mul_cancel (Int.gcd_dvd_left ..)
theorem gW (a b:Int):(low a b).2*(Int.gcd a b:Int)=b:=by
 unfold low;exact Int.tdiv_mul_cancel (Int.gcd_dvd_right ..)
theorem OI (a b:Int)(hb:0<b):0<(low a b).2:=by
 have h1:=gW a b
 have h2:=II a b hb
 rcases Int.lt_trichotomy (low a b).2 0 with h|h|h
 ·have:=Int.mul_neg_of_neg_of_pos h h2;omega
 ·rw[h]at h1;omega
 ·exact h
theorem iW (a b:Int)(hb:0<b):(low a b).2≤b:=by
 have h1:=gW a b
 have h2:=II a b hb
 have h3:=OI a b hb
 have:(low a b).2*1≤(low a b).2*(Int.gcd a b:Int):=Int.mul_le_mul_of_nonneg_left (by omega) (by omega)
 omega
theorem eW (a b:Int)(hb:0<b):(low a b).1.natAbs≤a.natAbs:=by
 have h1:=QO a b
 have h2:=II a b hb
 have h3:((low a b).1*(Int.gcd a b:Int)).natAbs=a.natAbs:=by rw[h1]
 rw[Int.natAbs_mul]at h3;rw[←h3];exact Nat.le_mul_of_pos_right _ (by omega)
end Go.Am
end
section
/- Small functions of numbers and of lists of numbers. -/
open Go
namespace Go.Am
variable {h:aA} {K:kA}
theorem z4U (n a b:Int):gA X tB [AI n,AI a,AI b] h K=K (AB (decide (n<a)||decide (b<n))) h []:=by
 refine rule ?_;rw[z81 rfl];by_cases h1:n<a <;> simp only[pN,go_sem,h1]
theorem TJ (n a b:Int):gA X UD [AI n,AI a,AI b] h K=K (AB (decide (a≤n)&&decide (n≤b))) h []:=by
 refine rule ?_;rw[z9u rfl];by_cases h1:a≤n <;> simp only[WN,go_sem,h1]
theorem z4h (n a b:Int):(decide (n<a)||decide (b<n)) = !(decide (a≤n)&&decide (n≤b)):=by
 rw[Bool.eq_iff_iff];simp
theorem zkA (n:Int):gA X iL [AI n] h K=K (AI n.sign) h []:=by
 refine rule ?_;rw[z9z rfl];rcases Int.lt_trichotomy n 0 with h1|h1|h1
 ·simp only[WH,go_sem,h1,Int.sign_eq_neg_one_of_neg h1]
 ·subst h1;simp only[WH,go_sem,Int.sign_zero]
 ·simp only[WH,go_sem,show ¬n<0 by omega,h1,Int.sign_eq_one_of_pos h1]
theorem zer (a b:Int):Int.gcd b (a.tmod b)=Int.gcd a b:=by
 unfold Int.gcd;rw[Int.natAbs_tmod,Nat.gcd_comm,←Nat.gcd_rec,Nat.gcd_comm]
theorem s_Gcd (a b:Int)(ha:0≤a)(hb:0≤b):gA X kI [AI a,AI b] h K=K (AI (Int.gcd a b)) h []:=by
 refine rule ?_;rw[z8x rfl];simp only[nN,go_sem];refine CA (fun t:Int×Int=>⟨[(0,AI t.1),(1,AI t.2)],h,[]⟩) (fun t=>0≤t.1∧0≤t.2∧Int.gcd t.1 t.2=Int.gcd a b) (fun t=>t.2.toNat) (a,b) rfl ⟨ha,hb,rfl⟩ ?_
 rintro⟨u,v⟩ ⟨h1,h2,h3⟩
 dsimp only at h1 h2 h3;by_cases hv:v=0
 ·subst hv
  simp only[go_sem];rw[←h3];simp;omega
 ·simp only[go_sem,hv]
  exact⟨(v,u.tmod v),rfl,⟨h2,Int.tmod_nonneg _ h1,by rw[zer];exact h3⟩,by have:=Int.tmod_lt_of_pos u (show 0<v by omega);dsimp only;omega⟩
theorem zkm (a b:Int)(ha : -9223372036854775807≤a∧a≤9223372036854775807)(hb:0<b∧b≤9223372036854775807):gA X PF [AI a,AI b] h K=K (.p (.agg [eI (low a b).1,eI (low a b).2])) h []:=by
 refine rule ?_;rw[z8w rfl];have w:IntKind.i64.wrap (-a) = -a:=nA _ (by omega) (by omega)
 have e:Int.gcd (max a (-a)) b=Int.gcd a b:=by
  rcases Int.le_total 0 a with h|h
  ·rw[show max a (-a)=a by omega]
  ·rw[show max a (-a) = -a by omega,Int.neg_gcd]
 have hg:=II a b hb.1
 have hd:=iW a b hb.1
 have hp:=OI a b hb.1
 have hn:=eW a b hb.1
 have w1:IntKind.i64.wrap (a.tdiv (Int.gcd a b))=(low a b).1:=nA (low a b).1 (by omega) (by omega)
 have w2:IntKind.i64.wrap (b.tdiv (Int.gcd a b))=(low a b).2:=nA (low a b).2 (by omega) (by omega)
 have e0:((Int.gcd a b:Int)=0)=False:=by simp only[eq_iff_iff,iff_false];omega
 simp only[mN,go_sem,w,s_Gcd (max a (-a)) b (by omega) (by omega),e,e0,w1,w2]
theorem z5A (n:Int)(h1:0≤n)(h2:n<18446744073709551616):IntKind.u64.wrap n=n:=by
 simp [IntKind.wrap,IntKind.bits,IntKind.signed];omega
abbrev AU (n:Int):AV:=.p (.int .u64 n)
def oC (x y:Int):Int:=if x<y then -1 else if x=y then 0 else 1
theorem z9R (x y:Int):oC x y=(x-y).sign:=by
 unfold oC;rcases Int.lt_trichotomy x y with h|h|h
 ·rw[if_pos h,Int.sign_eq_neg_one_of_neg (by omega)]
 ·rw[if_neg (by omega),if_pos h,h];simp
 ·rw[if_neg (by omega),if_neg (by omega),Int.sign_eq_one_of_pos (by omega)]
end Go.Am
end
section
/- Functions of lists. -/
open Go
namespace Go.Am
variable {h:aA} {K:kA}
theorem IY (a:Int):gA X MG [AI a] h K=K (AB false) h []:=by
 refine rule ?_;rw[z84 rfl];simp only[rN,go_sem]
theorem z5d (a b:Int):gA X lF [AI a,AI b] h K=K (AI (oC a b)) h []:=by
 refine rule ?_;rw[z82 rfl];unfold oC;by_cases h1:a<b
 ·simp only[NH,go_sem,IY,h1]
 ·by_cases h2:b<a
  ·simp only[NH,go_sem,IY,h1,h2,show ¬a=b by omega]
  ·simp only[NH,go_sem,IY,h1,h2,show a=b by omega,Int.lt_irrefl]
theorem zlk (l:List Int)(a b:Int)(hv:∀ n∈l,a≤n∧n≤b):(l.length:Int)*a≤l.sum∧l.sum≤(l.length:Int)*b:=by
 induction l with
 | nil=>simp
 | cons x r ih=>
  obtain⟨i1,i2⟩:=ih (fun n hn=>hv n (by simp [hn]))
  obtain⟨x1,x2⟩:=hv x (by simp)
  simp only[List.length_cons,List.sum_cons,Int.natCast_add,Int.add_mul];omega
theorem zll {l:List Int}{B:Int}(hv:∀ n∈l,-B≤n∧n≤B){N:Nat}(hl:l.length≤N)(hB:0≤B) : -(N*B)≤l.sum∧l.sum≤N*B:=by
 obtain⟨h1,h2⟩:=zlk l (-B) B hv;have:(l.length:Int)*B≤N*B:=Int.mul_le_mul_of_nonneg_right (by omega) hB
 rw[Int.mul_neg]at h1;omega
theorem zlm {l:List Int}{B:Int}(hv:∀ n∈l,-B≤n∧n≤B){N:Nat}(hl:l.length≤N)(hB:0≤B)(k:Nat) : -(N*B)≤(l.take k).sum∧(l.take k).sum≤N*B:=
 zll (fun n hn=>hv n (List.mem_of_mem_take hn)) (by simp;omega) hB
theorem z4M (l m:List Int)(hl:l.length≤1000000000):gA X DI [AL l,AL m] h K=K (AB (decide (l=m))) h []:=by
 refine rule ?_;rw[z95 rfl];by_cases hlen:l.length=m.length
 ·simp only[EK,go_sem,hlen]
  refine CA (fun k:Nat=>⟨[(0,AL l),(1,AL m),(12,AI m.length),(13,AI k)],h,[]⟩) (fun k=>k≤m.length∧l.take k=m.take k) (fun k=>m.length-k) 0 rfl (by simp) ?_
  rintro k ⟨hk,hp⟩
  rcases Nat.lt_or_ge k m.length with hlt|hge
  ·have hg1:=bB eI (show k<l.length by omega)
   have hg2:=bB eI hlt
   have w2:IntKind.i64.wrap ((k:Int)+1)=((k+1:Nat):Int):=nA _ (by omega) (by omega)
   by_cases he:l[k]=m[k]
   ·simp only[go_sem,hlt,hg1,hg2,w2,he]
    exact⟨k+1,rfl,⟨by omega,by rw[List.take_succ_eq_append_getElem (by omega),List.take_succ_eq_append_getElem hlt,hp,he]⟩,by omega⟩
   ·simp only[go_sem,hlt,hg1,hg2,w2,he]
    have:¬l=m:=fun h=>he (by simp only[h])
    simp [this]
  ·have e1:k=m.length:=by omega
   have e2:l=m:=by rw[←List.take_length (l:=l),←List.take_length (l:=m),hlen,←e1,hp]
   subst e1;simp only[go_sem,Nat.lt_irrefl];simp [e2]
 ·have e1:((l.length:Int)=m.length)=False:=by simp only[eq_iff_iff,iff_false];omega
  simp only[EK,go_sem,e1];have:¬l=m:=fun h=>hlen (by rw[h])
  simp [this]
def aR (g:Nat)(caps:List AV)(p:PV→Bool)(xs:List PV)(h:aA):Prop:=∀x∈xs,∀K:kA,gA X g (.p x::caps) h K=K (AB (p x)) h []
def tF (p:PV→Bool)(xs:List PV):Int:=if xs.findIdx p<xs.length then(xs.findIdx p:Int) else -1
theorem ze4 (p:PV→Bool)(xs:List PV):decide (0≤tF p xs)=xs.any p:=by
 unfold tF;rw[Bool.eq_iff_iff];by_cases h:xs.findIdx p<xs.length
 ·rw[if_pos h];simp only[decide_eq_true_eq,List.any_eq_true]
  exact⟨fun _=>⟨_,List.getElem_mem h,List.findIdx_getElem⟩,fun _=>by omega⟩
 ·rw[if_neg h];simp only[decide_eq_true_eq,List.any_eq_true]
  refine⟨fun h=>by omega,fun⟨x,hx,hp⟩=>absurd (List.findIdx_lt_length_of_exists ⟨x,hx,hp⟩) h⟩
def cH:List Int→Int
 | []=>0
 | e::r=>if e=0 then cH r else e
end Go.Am
end
section
/- Plain lists: insertion sort asv Go's package slices does it on short lists;deleting;compacting. -/
namespace Go.Am
variable {α:Type}
def WA (lt:α→α→Bool)(x:α):List α→List α
 | []=>[x]
 | y::r=>bif lt x y then y::WA lt x r else x::y::r
def JC (lt:α→α→Bool)(l:List α):List α:=l.foldl (fun r x=>WA lt x r) []
def vA (lt:α→α→Bool)(l:List α):List α:=(JC lt l).reverse
theorem XV (lt:α→α→Bool)(x:α):∀r:List α,(WA lt x r).Perm (x::r)
 | []=>.refl _
 | y::r=>by
  unfold WA;cases lt x y with
  | true=>exact((XV lt x r).cons y).trans (.swap _ _ _)
  | false=>exact .refl _
theorem z32 (lt:α→α→Bool):∀(l r:List α),(l.foldl (fun r x=>WA lt x r) r).Perm (l++r)
 | [],r=>.refl _
 | x::l,r=>by
  simp only[List.foldl_cons,List.cons_append];refine(z32 lt l _).trans ?_;exact((XV lt x r).append_left l).trans (List.perm_middle)
theorem KO (lt:α→α→Bool)(l:List α):(JC lt l).Perm l:=by
 have:=z32 lt l [];rwa [List.append_nil]at this
theorem LO (lt:α→α→Bool)(l:List α):(vA lt l).Perm l:=(List.reverse_perm _).trans (KO lt l)
theorem MI (lt:α→α→Bool)(l:List α):(vA lt l).length=l.length:=(LO lt l).length_eq
theorem qD {lt:α→α→Bool}{l:List α}{x:α}:x∈vA lt l↔x∈l:=(LO lt l).mem_iff
theorem z31 (lt:α→α→Bool)(l:List α):(JC lt l).length=l.length:=(KO lt l).length_eq
structure Weak (lt:α→α→Bool):Prop where
 asym:∀a b,lt a b=true→lt b a=false
 ntrans:∀a b c,lt b a=false→lt c b=false→lt c a=false
theorem z3w {lt:α→α→Bool}(w:Weak lt)(x:α):∀r:List α,r.Pairwise (fun a b=>lt a b=false)→(WA lt x r).Pairwise (fun a b=>lt a b=false)
 | [],_=>by simp [WA]
 | y::r,h=>by
  unfold WA;rw[List.pairwise_cons]at h;cases hxy:lt x y with
  | true=>
   rw[cond_true,List.pairwise_cons];refine⟨fun z hz=>?_,z3w w x r h.2⟩
   rcases List.mem_cons.1 ((XV lt x r).mem_iff.1 hz) with rfl|hz
   ·exact w.asym _ _ hxy
   ·exact h.1 z hz
  | false=>
   rw[cond_false,List.pairwise_cons,List.pairwise_cons];refine⟨fun z hz=>?_,h⟩
   rcases List.mem_cons.1 hz with rfl|hz
   ·exact hxy
   ·exact w.ntrans _ _ _ (h.1 z hz) hxy
theorem z33 {lt:α→α→Bool}(w:Weak lt):∀(l r:List α),r.Pairwise (fun a b=>lt a b=false)→(l.foldl (fun r x=>WA lt x r) r).Pairwise (fun a b=>lt a b=false)
 | [],r,h=>h
 | x::l,r,h=>z33 w l _ (z3w w x r h)
theorem fH {lt:α→α→Bool}(w:Weak lt)(l:List α):(vA lt l).Pairwise (fun a b=>lt b a=false):=by
 unfold vA;rw[List.pairwise_reverse];exact z33 w l [] .nil
theorem z34 (lt:α→α→Bool)(l:List α)(k:Nat)(hk:k<l.length):JC lt (l.take (k+1))=WA lt l[k] (JC lt (l.take k)):=by
 rw[List.take_succ_eq_append_getElem hk];unfold JC;rw[List.foldl_append];rfl
theorem z3M {β:Type}(f:α→β){lt:α→α→Bool}{lt':β→β→Bool}(h:∀ a b,lt' (f a) (f b)=lt a b)(x:α):∀r:List α,WA lt' (f x) (r.map f)=(WA lt x r).map f
 | []=>rfl
 | y::r=>by
  simp only[List.map_cons,WA,h];cases lt x y with
  | true=>simp only[cond_true,List.map_cons,z3M f h x r]
  | false=>rfl
theorem z3x (lt:α→α→Bool)(x:α)(A:List α):∀B:List α,(∀b∈B,lt x b=true)→WA lt x (B++A)=B++WA lt x A
 | [],_=>rfl
 | b::B,h=>by
  simp only[List.cons_append,WA,h b (by simp),cond_true]
  rw[z3x lt x A B (fun b hb=>h b (by simp [hb]))]
theorem z3y (A C:List α)(x:α):(A.reverse++x::C)[A.length]?=some x:=by
 rw[List.getElem?_append_right (by simp)];simp
theorem z3z (A C:List α)(x y:α):((y::A).reverse++x::C)[A.length]?=some y:=by
 rw[List.getElem?_append_left (by simp)];simp
theorem z30 (A C:List α)(x y:α):(((y::A).reverse++x::C).set (A.length+1) y).set A.length x=A.reverse++x::y::C:=by
 have e:(y::A).reverse++x::C=A.reverse++y::x::C:=by simp
 rw[e,List.set_append_right _ _ (by simp),List.length_reverse,Nat.add_sub_cancel_left,List.set_append_right _ _ (by simp),List.length_reverse,Nat.sub_self]
 rfl
theorem BL (lt:α→α→Bool)(x:α)(A B:List α)(hB:∀ b∈B,lt x b=true)(hA:∀ y r,A=y::r→lt x y=false):WA lt x (B++A)=B++x::A:=by
 rw[z3x lt x A B hB];cases A with
 | nil=>rfl
 | cons y r=>simp only[WA,hA y r rfl,cond_false]
theorem z35 {β:Type}(f:α→β){lt:α→α→Bool}{lt':β→β→Bool}(h:∀ a b,lt' (f a) (f b)=lt a b)(l:List α):vA lt' (l.map f)=(vA lt l).map f:=by
 have key:∀(l r:List α),(l.map f).foldl (fun r x=>WA lt' x r) (r.map f)=(l.foldl (fun r x=>WA lt x r) r).map f:=by
  intro l;induction l with
  | nil=>intro r;rfl
  | cons x l ih=>intro r;simp only[List.map_cons,List.foldl_cons,z3M f h,ih]
 unfold vA JC;have:=key l [];simp only[List.map_nil]at this;rw[this,List.map_reverse]
end Go.Am
namespace Go.Am
variable {α:Type}
def qB (q:α→α→Bool)(prev:α):List α→List α
 | []=>[]
 | x::r=>bif q x prev then qB q x r else x::qB q x r
def iB (q:α→α→Bool):List α→List α
 | []=>[]
 | x::r=>x::qB q x r
theorem z0B (q:α→α→Bool):∀(l:List α) (p:α),(qB q p l).length≤l.length
 | [],_=>Nat.le_refl _
 | x::r,p=>by
  unfold qB;have:=z0B q r x;cases q x p with
  | true=>simp only[cond_true,List.length_cons];omega
  | false=>simp only[cond_false,List.length_cons];omega
theorem z0E (q:α→α→Bool)(l:List α):(iB q l).length≤l.length:=by
 cases l with
 | nil=>exact Nat.le_refl _
 | cons x r=>have:=z0B q r x;simp only[iB,List.length_cons];omega
theorem US (q:α→α→Bool):∀(l:List α) (p:α),∀x∈qB q p l,x∈l
 | [],_,x,h=>h
 | y::r,p,x,h=>by
  unfold qB at h;cases hq:q y p with
  | true=>rw[hq]at h;exact List.mem_cons_of_mem _ (US q r y x h)
  | false=>
   rw[hq]at h;rcases List.mem_cons.1 h with rfl|h
   ·simp
   ·exact List.mem_cons_of_mem _ (US q r y x h)
theorem fN {q:α→α→Bool}{l:List α}{x:α}(h:x∈iB q l):x∈l:=by
 cases l with
 | nil=>exact h
 | cons y r=>
  rcases List.mem_cons.1 h with rfl|h
  ·simp
  ·exact List.mem_cons_of_mem _ (US q r y x h)
theorem z0C (q:α→α→Bool)(z:α):∀(l:List α) (p:α),qB q p (l++[z])=qB q p l++(bif q z ((p::l).getLast (by simp)) then [] else [z])
 | [],p=>by simp only[List.nil_append,qB,List.getLast_singleton]
 | x::r,p=>by
  simp only[List.cons_append,qB,z0C q z r x];have e:(p::x::r).getLast (by simp)=(x::r).getLast (by simp):=List.getLast_cons (by simp)
  rw[e];cases q x p <;> rfl
theorem z0F (q:α→α→Bool)(l:List α)(k:Nat)(hk:k+1<l.length):iB q (l.take (k+1+1))=iB q (l.take (k+1))++(bif q l[k+1] l[k] then [] else [l[k+1]]):=by
 rw[List.take_succ_eq_append_getElem hk];cases l with
 | nil=>simp at hk
 | cons x r=>
  simp only[List.take_succ_cons,List.cons_append,iB,z0C];have e:(x::r.take k).getLast (by simp)=(x::r)[k]:=by
   have:x::r.take k=(x::r).take (k+1):=rfl
   simp only[this];rw[List.getLast_eq_getElem];simp only[List.getElem_take];congr 1
   simp only[List.length_take,List.length_cons]at hk ⊢;omega
  rw[e]
theorem z9W {β:Type}(f:α→β){q:α→α→Bool}{q':β→β→Bool}(h:∀ a b,q' (f a) (f b)=q a b)(l:List α):iB q' (l.map f)=(iB q l).map f:=by
 have key:∀(l:List α) (p:α),qB q' (f p) (l.map f)=(qB q p l).map f:=by
  intro l;induction l with
  | nil=>intro p;rfl
  | cons x r ih=>
   intro p;simp only[List.map_cons,qB,h,ih];cases q x p <;> rfl
 cases l with
 | nil=>rfl
 | cons x r=>simp only[List.map_cons,iB,key]
end Go.Am
end
section
/- Values of a shape: loads and stores in rows. -/
open Go
namespace Go.Am
variable {h:aA} {K:kA}
theorem eC {sh:Sh}{x:PV}(hx:x.shp sh=true):MA sh 0 x=some x:=by
 cases sh with
 | none=>exact zai hx
 | some n=>
  cases x with
  | agg cs=>
   simp only[PV.shp,Bool.and_eq_true,beq_iff_eq]at hx;simp [MA,hx.1];exact List.take_of_length_le (by omega)
  | _=>cases hx
theorem wE {sh:Sh}{x:PV}(hx:x.shp sh=true):x.cells.length=jA sh:=by
 cases sh with
 | none=>cases x <;> first|rfl|cases hx
 | some n=>
  cases x with
  | agg cs=>simp only[PV.shp,Bool.and_eq_true,beq_iff_eq]at hx;exact hx.1
  | _=>cases hx
theorem vE {sh:Sh}{x:PV}(hx:x.shp sh=true):x.cells.all PV.sc=true:=by
 cases sh with
 | none=>cases x <;> first|rfl|cases hx
 | some n=>
  cases x with
  | agg cs=>simp only[PV.shp,Bool.and_eq_true,beq_iff_eq]at hx;exact hx.2
  | _=>cases hx
theorem cE {sh:Sh}{x y:PV}(hx:x.shp sh=true)(hy:y.shp sh=true)(id i fz:Nat)(xs:List PV)(h1:aA):stE sh id i 0 fz sh xs x h1 (some y)=some (.und,h1.set id (.row sh (xs.set i x) fz),[]):=by
 cases sh with
 | none=>
  cases y with
  | agg cs=>cases hy
  | _=>simp only[PV.shp]at hx;simp [stE,hx]
 | some n=>
  cases y with
  | agg cs=>
   cases x with
   | agg ds=>
    simp only[PV.shp,Bool.and_eq_true,beq_iff_eq]at hx hy;simp [stE,PV.cells,splice,hx.1,hy.1,show cs.drop n=[] from List.drop_of_length_le (by omega)]
   | _=>cases hx
  | _=>cases hy
def mC (sh:Sh)(xs:List PV):Prop:=∀x∈xs,x.shp sh=true
theorem WJ {sh:Sh}{xs:List PV}(hx:mC sh xs){i:Nat}(hi:i<xs.length):xs[i].shp sh=true:=hx _ (List.getElem_mem hi)
theorem xF {h:aA}{id:Nat}{o:Obj}(hh:h[id]?=some o):h.set id o=h:=by
 apply List.ext_getElem?
 intro i;rw[List.getElem?_set];split
 ·rename_i e;subst e;rw[hh];simp [ED hh]
 ·rfl
def MC (g:Nat)(caps:List AV)(c:PV→PV→Int)(xs:List PV)(id:Nat)(h:aA):Prop:=∀(o:Obj) (x:PV),x∈xs→∀y,y∈xs→∀K:kA,gA X g (.p x :: .p y::caps) (h.set id o) K=K (AI (c x y)) (h.set id o) []
def ltC (c:PV→PV→Int)(a b:PV):Bool:=decide (c a b<0)
structure Shows (sh:Sh) (v:AV) (xs:List PV) (h:aA):Prop where
 len:ID v=some (AI xs.length)
 get:∀(k:Nat) (hk:k<xs.length),∃a,dD sh v (AI k) h=some a∧YA sh a h=some (.p xs[k])
theorem OY {sh:Sh}{xs:List PV}(hs:mC sh xs):Shows sh (.p (.sl sh xs)) xs h:=by
 refine⟨rfl,fun k hk=>⟨.vp xs[k],?_,?_⟩⟩
 ·simp [dD,aB,hk]
 ·simp only[z3G,eC (WJ hs hk)];rfl
def z6a (g:Nat)(caps:List AV)(q:PV→PV→Bool)(xs:List PV)(id:Nat)(h:aA):Prop:=∀(o:Obj) (x:PV),x∈xs→∀y,y∈xs→∀K:kA,gA X g (.p x :: .p y::caps) (h.set id o) K=K (AB (q x y)) (h.set id o) []
end Go.Am
end
section
/- Strings: keys,the library's functions without text. -/
open Go
set_option linter.unusedSimpArgs false
namespace Go.Am
variable {h:aA} {K:kA}
abbrev AS (s:List UInt8):AV:=.p (.str s)
theorem MZ:X.ext=KG jF kF:=rfl
theorem zky (s:List UInt8)(c:UInt8):gA X jF [AS s,.p (.int .u8 c.toNat)] h K=K (AI (pE s c)) h []:=by
 have:=z11 (X:=X) (f:=jF) (asv:=[AS s,.p (.int .u8 c.toNat)]) (vs:=[.str s,.int .u8 c.toNat]) (h:=h) (h1:=h) (r:=.int .i64 (pE s c)) (K:=K) (by kernel_rfl) rfl rfl rfl ?_
 ·exact this
 ·rw[MZ]
  unfold KG;rw[show Nat.beq jF jF=true from by kernel_rfl]
  simp
theorem zks (a b:List UInt8):gA X kF [AS a,AS b] h K=K (AI (OA a b)) h []:=by
 have:=z11 (X:=X) (f:=kF) (asv:=[AS a,AS b]) (vs:=[.str a,.str b]) (h:=h) (h1:=h) (r:=.int .i64 (OA a b)) (K:=K) (by kernel_rfl) rfl rfl rfl ?_
 ·exact this
 ·rw[MZ]
  unfold KG;rw[show Nat.beq kF jF=false from by kernel_rfl,show Nat.beq kF kF=true from by kernel_rfl]
  rfl
theorem KQ (a b:List UInt8):gA X oD [AS a,AS b] h K=K (AI (OA a b)) h []:=by
 have key:∀(h:aA) (K:kA),gA X lI [AS a,AS b] h K=K (AI (OA a b)) h []:=by
  intro h K;refine rule ?_;rw[z86 rfl];simp only[sN,go_sem,zks]
 refine rule ?_;rw[z9C rfl];simp only[lO,go_sem,key]
theorem z4P (s:List UInt8)(c:UInt8):gA X nL [AS s,.p (.int .u8 c.toNat)] h K=K (AI (pE s c)) h []:=by
 have key:∀(h:aA) (K:kA),gA X LK [AS s,.p (.int .u8 c.toNat)] h K=K (AI (pE s c)) h []:=by
  intro h K;refine rule ?_;rw[z87 rfl];simp only[tN,go_sem,zky]
 refine rule ?_;rw[z9D rfl];simp only[mO,go_sem,key]
theorem mK:∀ {a b:List UInt8},OA a b=0→a=b
 | [],[],_=>rfl
 | [],_::_,h=>by simp [OA]at h
 | _::_,[],h=>by simp [OA]at h
 | x::a,y::b,h=>by
  simp only[OA]at h;split at h
  ·cases h
  ·split at h
   ·cases h
   ·rename_i h1 h2
    have:x=y:=UInt8.le_antisymm (UInt8.not_lt.1 h2) (UInt8.not_lt.1 h1)
    rw[this,mK h]
theorem dN:∀ a b,OA b a = - OA a b
 | [],[]=>rfl
 | [],_::_=>rfl
 | _::_,[]=>rfl
 | x::a,y::b=>by
  simp only[OA];by_cases h1:x<y
  ·have h2:¬y<x:=UInt8.lt_asymm h1
   simp [h1,h2]
  ·by_cases h2:y<x
   ·simp [h1,h2]
   ·simp [h1,h2,dN a b]
theorem z0A:∀ {a b c:List UInt8},OA a b<0→OA b c<0→OA a c<0
 | [],[],_,h,_=>by simp [OA]at h
 | [],_::_,[],_,h=>by simp [OA]at h
 | [],_::_,_::_,_,_=>by simp [OA]
 | _::_,[],_,h,_=>by simp [OA]at h
 | _::_,_::_,[],_,h=>by simp [OA]at h
 | x::a,y::b,z::c,h1,h2=>by
  simp only[OA]at h1 h2 ⊢;by_cases hxy:x<y
  ·by_cases hyz:y<z
   ·simp [UInt8.lt_trans hxy hyz]
   ·by_cases hzy:z<y
    ·simp [hyz,hzy]at h2
    ·have:y=z:=UInt8.le_antisymm (UInt8.not_lt.1 hzy) (UInt8.not_lt.1 hyz)
     subst this;simp [hxy]
  ·by_cases hyx:y<x
   ·simp [hxy,hyx]at h1
   ·have:x=y:=UInt8.le_antisymm (UInt8.not_lt.1 hyx) (UInt8.not_lt.1 hxy)
    subst this;simp only[UInt8.lt_irrefl,if_false]at h1;by_cases hyz:x<z
    ·simp [hyz]
    ·by_cases hzy:z<x
     ·simp [hyz,hzy]at h2
     ·simp only[hyz,hzy,if_false]at h2 ⊢
      exact z0A h1 h2
def VD (c:UInt8):Bool:=decide ((97:Int)≤c.toNat)&&decide ((c.toNat:Int)≤122)||decide ((48:Int)≤c.toNat)&&decide ((c.toNat:Int)≤57)||decide ((c.toNat:Int)=45)||decide ((c.toNat:Int)=95)
def MB (s:List UInt8):Bool:=match s with
 | []=>false
 | c::r=>decide (r.length<40)&&(decide ((97:Int)≤c.toNat)&&decide ((c.toNat:Int)≤122))&&(c::r).all VD
theorem EY (s:List UInt8)(hl:s.length≤1000000000):gA X IC [AS s] h K=K (AB (MB s)) h []:=by
 refine rule ?_;rw[z8y rfl];cases s with
 | nil=>simp only[JF,go_sem,MB]
 | cons c r=>
  have n0:((c::r)=[])=False:=by simp
  have e1:(((r.length+1:Nat):Int)≤40)=(r.length<40):=by simp only[eq_iff_iff];omega
  by_cases h1:(40:Int)<((r.length+1:Nat):Int)
  ·have:¬r.length<40:=by omega
   simp only[JF,go_sem,n0,h1,MB,this]
  have h1':r.length<40:=by omega
  by_cases h2:(c.toNat:Int)<97
  ·have:¬(97:Int)≤c.toNat:=by omega
   simp only[JF,go_sem,n0,h1,h2,MB,this,h1']
  have h2':(97:Int)≤c.toNat:=by omega
  by_cases h3:(122:Int)<c.toNat
  ·have:¬(c.toNat:Int)≤122:=by omega
   simp only[JF,go_sem,n0,h1,h2,h3,MB,this,h1',h2']
  have h3':(c.toNat:Int)≤122:=by omega
  have ek:MB (c::r)=(c::r).all VD:=by simp [MB,h1',h2',h3']
  rw[ek];generalize hB:(c::r).all VD=B;simp only[JF,go_sem,n0,h1,h2,h3];have hlen:(c::r).length=r.length+1:=rfl
  rw[←hlen];generalize c::r=s at *;refine CA (fun k:Nat=>⟨[(0,AS s),(23,AI s.length),(24,AI k)],h,[]⟩) (fun k=>k≤s.length∧(s.take k).all VD=true) (fun k=>s.length-k) 0 rfl ⟨by omega,rfl⟩ ?_
  rintro k ⟨hk,hp⟩
  rcases Nat.lt_or_ge k s.length with hlt|hge
  ·have hg:s[k]?=some s[k]:=List.getElem?_eq_getElem hlt
   have w2:IntKind.i64.wrap ((k:Int)+1)=((k+1:Nat):Int):=nA _ (by omega) (by omega)
   generalize hc:s[k]=c at *;have key:(decide ((97:Int)≤c.toNat)&&decide ((c.toNat:Int)≤122)||decide ((48:Int)≤c.toNat)&&decide ((c.toNat:Int)≤57)||decide ((c.toNat:Int)=45)||decide ((c.toNat:Int)=95))=VD c:=rfl
   cases hkc:VD c with
   | true=>
    rw[hkc]at key;have hn:(s.take (k+1)).all VD=true:=by rw[List.take_succ_eq_append_getElem hlt,List.all_append,hp,hc];simp [hkc]
    by_cases b1:(97:Int)≤c.toNat <;> by_cases b2:(c.toNat:Int)≤122 <;> by_cases b3:(48:Int)≤c.toNat <;> by_cases b4:(c.toNat:Int)≤57 <;> by_cases b5:(c.toNat:Int)=45 <;> by_cases b6:(c.toNat:Int)=95
    all_goals first
     | (simp only[b1,b2,b3,b4,b5,b6,decide_true,decide_false,Bool.and_self,Bool.and_true,Bool.and_false,Bool.or_self,Bool.or_true,Bool.or_false,Bool.true_or,Bool.false_or,Bool.false_and,reduceCtorEq]at key;done)
     | (exfalso;omega)
     | (simp only[go_sem,hlt,hg,w2,b1,b2,b3,b4,b5,b6];exact⟨k+1,rfl,⟨by omega,hn⟩,by omega⟩)
   | false=>
    rw[hkc]at key;have hn:s.all VD=false:=by rw[List.all_eq_false];exact⟨_,List.getElem_mem hlt,by rw[hc,hkc];simp⟩
    rw[hn]at hB;subst hB;by_cases b1:(97:Int)≤c.toNat <;> by_cases b2:(c.toNat:Int)≤122 <;> by_cases b3:(48:Int)≤c.toNat <;> by_cases b4:(c.toNat:Int)≤57 <;> by_cases b5:(c.toNat:Int)=45 <;> by_cases b6:(c.toNat:Int)=95
    all_goals first
     | (simp only[b1,b2,b3,b4,b5,b6,decide_true,decide_false,Bool.and_self,Bool.and_true,Bool.and_false,Bool.or_self,Bool.or_true,Bool.or_false,Bool.true_or,Bool.false_or,Bool.false_and,reduceCtorEq]at key;done)
     | (exfalso;omega)
     | (simp only[go_sem,hlt,hg,b1,b2,b3,b4,b5,b6])
  ·have ek:k=s.length:=by omega
   subst ek;rw[List.take_length,hB]at hp;subst hp;simp only[go_sem,Nat.lt_irrefl]
theorem ze3 (s:List UInt8)(c:UInt8):decide (pE s c<0) = !s.contains c:=by
 unfold pE;rw[Bool.eq_iff_iff];by_cases hf:s.findIdx (· == c)<s.length
 ·rw[if_pos hf]
  have:=List.findIdx_getElem (w:=hf);simp only[beq_iff_eq]at this;have hm:c∈s:=by rw[←this];exact List.getElem_mem hf
  simp [hm]
 ·rw[if_neg hf]
  have hm:¬c∈s:=fun hm=>hf (List.findIdx_lt_length_of_exists ⟨c,hm,by simp⟩)
  simp [hm]
theorem z5h (s t:List UInt8)(hl:s.length≤1000000000):gA X yI [AS s,AS t] h K=K (AB (s.all fun c=>t.contains c)) h []:=by
 refine rule ?_;rw[z9v rfl];simp only[XN,go_sem];refine CA (fun k:Nat=>⟨[(0,AS s),(1,AS t),(7,AI s.length),(8,AI k)],h,[]⟩) (fun k=>k≤s.length∧(s.take k).all (fun c=>t.contains c)=true) (fun k=>s.length-k) 0 rfl ⟨by omega,rfl⟩ ?_
 rintro k ⟨hk,hp⟩
 rcases Nat.lt_or_ge k s.length with hlt|hge
 ·have hg:s[k]?=some s[k]:=List.getElem?_eq_getElem hlt
  have w2:IntKind.i64.wrap ((k:Int)+1)=((k+1:Nat):Int):=nA _ (by omega) (by omega)
  have hi:=ze3 t s[k]
  by_cases hc:pE t s[k]<0
  ·have:s.all (fun c=>t.contains c)=false:=by
    rw[List.all_eq_false];refine⟨_,List.getElem_mem hlt,?_⟩;rw[decide_eq_true hc]at hi;cases hq:t.contains s[k]with
    | true=>rw[hq]at hi;cases hi
    | false=>simp
   simp only[go_sem,hlt,hg,z4P,hc,this]
  ·rw[decide_eq_false hc]at hi
   have hq:t.contains s[k]=true:=by cases hq:t.contains s[k]with|true=>rfl|false=>rw[hq]at hi;cases hi
   simp only[go_sem,hlt,hg,z4P,hc,w2];exact⟨k+1,rfl,⟨by omega,by rw[List.take_succ_eq_append_getElem hlt,List.all_append,hp];simp only[List.all_cons,List.all_nil,hq];rfl⟩,by omega⟩
 ·have ek:k=s.length:=by omega
  subst ek;rw[List.take_length]at hp;simp only[go_sem,Nat.lt_irrefl,hp]
def tM:List UInt8:=[97,98,99,100,101,102,103,104,105,106,107,108,109,110,111,112,113,114,115,116,117,118,119,120,121,122]
def HL:List UInt8:=[97,98,99,100,101,102,103,104,105,106,107,108,109,110,111,112,113,114,115,116,117,118,119,120,121,122,48,49,50,51,52,53,54,55,56,57,45,95]
theorem z5B {p:UInt8→Bool}(h:((List.range 256).all fun n=>p (UInt8.ofNat n))=true)(c:UInt8):p c=true:=by
 have:=List.all_eq_true.1 h c.toNat (by simp;exact c.toNat_lt)
 rwa [UInt8.ofNat_toNat]at this
theorem zkN (c:UInt8):tM.contains c=(decide ((97:Int)≤c.toNat)&&decide ((c.toNat:Int)≤122)):=by
 have:=z5B (p:=fun c=>tM.contains c==(decide ((97:Int)≤c.toNat)&&decide ((c.toNat:Int)≤122))) (by kernel_rfl) c
 simpa using this
theorem zeG (c:UInt8):HL.contains c=VD c:=by
 have:=z5B (p:=fun c=>HL.contains c==VD c) (by kernel_rfl) c
 simpa using this
theorem JY (s:List UInt8)(hl:s.length≤1000000000):gA X WG [AS s] h K=K (AB (MB s)) h []:=by
 refine rule ?_;rw[z9m rfl];have o1:=fun h K=>z5h (h:=h) (K:=K) s HL hl
 have e2:(s.all fun c=>HL.contains c)=s.all VD:=by congr 1;funext c;exact zeG c
 rw[e2]at o1;unfold HL at o1;cases s with
 | nil=>simp only[IG,go_sem,TJ,MB]
 | cons c r=>
  have o2:=fun h K=>z5h (h:=h) (K:=K) [c] tM (by simp)
  have e3:([c].all fun c=>tM.contains c)=(decide ((97:Int)≤c.toNat)&&decide ((c.toNat:Int)≤122)):=by simp only[List.all_cons,List.all_nil,Bool.and_true];exact zkN c
  rw[e3]at o2;unfold tM at o2;have q1:(1:Int)≤((r.length+1:Nat):Int):=by omega
  have q2:1≤r.length+1:=by omega
  by_cases h1:r.length<40
  ·have h1':((r.length+1:Nat):Int)≤40:=by omega
   cases h2:(decide ((97:Int)≤c.toNat)&&decide ((c.toNat:Int)≤122)) with
   | true=>
    have ek:MB (c::r)=(c::r).all VD:=by
     simp only[MB,h1,decide_true,Bool.true_and,h2]
    rw[ek];simp only[IG,go_sem,TJ,h1',q1,q2,win,↓o2,o2,h2,↓o1,o1]
   | false=>
    have ek:MB (c::r)=false:=by simp only[MB,h1,decide_true,Bool.true_and,h2,Bool.false_and]
    rw[ek];simp only[IG,go_sem,TJ,h1',q1,q2,win,↓o2,o2,h2]
  ·have h1':¬((r.length+1:Nat):Int)≤40:=by omega
   have ek:MB (c::r)=false:=by simp only[MB,h1,decide_false,Bool.false_and]
   rw[ek];simp only[IG,go_sem,TJ,h1',q1]
end Go.Am
end
section
/- Finding values in lists: printed by program. -/
open Go
set_option linter.unusedSimpArgs false
namespace Go.Am
attribute [-go_sem] PV.cells
variable {h:aA} {K:kA}
theorem z6k {v:AV}{g:Nat}{caps:List AV}{p:PV→Bool}{xs:List PV}(hv:Shows none v xs h)(hp:aR g caps p xs h)(hl:xs.length≤1000000000) :
 gA X FI [v,.fn g caps] h K=K (AI (tF p xs)) h []:=by
 refine rule ?_;rw[z97];have vl:=hv.len
 simp only[dO,go_sem,vl];refine CA (fun k:Nat=>⟨[(0,v),(1,.fn g caps),(7,AI xs.length),(8,AI k)],h,[]⟩) (fun k=>k≤xs.length∧∀x∈xs.take k,p x=false) (fun k=>xs.length-k) 0 rfl (by simp) ?_
 rintro k ⟨hk,hn⟩
 rcases Nat.lt_or_ge k xs.length with hlt|hge
 ·obtain⟨a,ha,hb⟩:=hv.get k hlt
  have w2:IntKind.i64.wrap ((k:Int)+1)=((k+1:Nat):Int):=nA _ (by omega) (by omega)
  have ht:=hp _ (List.getElem_mem hlt)
  cases hpk:p xs[k]with
  | true=>
   have hf:xs.findIdx p=k:=by
    rw[List.findIdx_eq hlt];refine⟨hpk,fun j hj=>?_⟩
    have:=hn xs[j] (by rw[List.mem_take_iff_getElem];exact⟨j,by omega,rfl⟩)
    simpa using this
   simp only[go_sem,hlt,ha,hb,ht,hpk,w2];simp only[tF,hf,hlt,if_true]
  | false=>
   simp only[go_sem,hlt,ha,hb,ht,hpk,w2];refine⟨k+1,rfl,⟨by omega,fun x hx=>?_⟩,by omega⟩
   rw[List.take_succ_eq_append_getElem hlt,List.mem_append,List.mem_singleton]at hx;rcases hx with hx|hx
   ·exact hn x hx
   ·rw[hx];exact hpk
 ·have e1:k=xs.length:=by omega
  subst e1;simp only[go_sem,Nat.lt_irrefl];rw[List.take_length]at hn;have:¬xs.findIdx p<xs.length:=by
   rw[Nat.not_lt,Nat.le_iff_lt_or_eq];right
   exact(List.findIdx_eq_length.2 (fun x hx=>by simp [hn x hx])).symm
  simp [tF,this]
theorem vZ {v:AV}{g:Nat}{caps:List AV}{p:PV→Bool}{xs:List PV}(hv:Shows (some 4) v xs h)(hp:aR g caps p xs h)(hl:xs.length≤1000000000) :
 gA X EI [v,.fn g caps] h K=K (AI (tF p xs)) h []:=by
 refine rule ?_;rw[z96];have vl:=hv.len
 simp only[cO,go_sem,vl];refine CA (fun k:Nat=>⟨[(0,v),(1,.fn g caps),(7,AI xs.length),(8,AI k)],h,[]⟩) (fun k=>k≤xs.length∧∀x∈xs.take k,p x=false) (fun k=>xs.length-k) 0 rfl (by simp) ?_
 rintro k ⟨hk,hn⟩
 rcases Nat.lt_or_ge k xs.length with hlt|hge
 ·obtain⟨a,ha,hb⟩:=hv.get k hlt
  have w2:IntKind.i64.wrap ((k:Int)+1)=((k+1:Nat):Int):=nA _ (by omega) (by omega)
  have ht:=hp _ (List.getElem_mem hlt)
  cases hpk:p xs[k]with
  | true=>
   have hf:xs.findIdx p=k:=by
    rw[List.findIdx_eq hlt];refine⟨hpk,fun j hj=>?_⟩
    have:=hn xs[j] (by rw[List.mem_take_iff_getElem];exact⟨j,by omega,rfl⟩)
    simpa using this
   simp only[go_sem,hlt,ha,hb,ht,hpk,w2];simp only[tF,hf,hlt,if_true]
  | false=>
   simp only[go_sem,hlt,ha,hb,ht,hpk,w2];refine⟨k+1,rfl,⟨by omega,fun x hx=>?_⟩,by omega⟩
   rw[List.take_succ_eq_append_getElem hlt,List.mem_append,List.mem_singleton]at hx;rcases hx with hx|hx
   ·exact hn x hx
   ·rw[hx];exact hpk
 ·have e1:k=xs.length:=by omega
  subst e1;simp only[go_sem,Nat.lt_irrefl];rw[List.take_length]at hn;have:¬xs.findIdx p<xs.length:=by
   rw[Nat.not_lt,Nat.le_iff_lt_or_eq];right
   exact(List.findIdx_eq_length.2 (fun x hx=>by simp [hn x hx])).symm
  simp [tF,this]
theorem tZ {g:Nat}{caps:List AV}{p:PV→Bool}{xs:List PV}(hp:aR g caps p xs h)(hs:mC none xs)(hl:xs.length≤1000000000) :
 gA X UF [.p (.sl none xs),.fn g caps] h K=K (AB (xs.any p)) h []:=by
 refine rule ?_;rw[z93];have vi:=fun K=>z6k (h:=h) (K:=K) (OY hs) hp hl
 simp only[bO,go_sem,vi,ze4]
end Go.Am
end
section
/- Limits: what they are,what is wrong with them. -/
open Go
namespace Go.Am
variable {h:aA} {K:kA}
structure Lim where
 key:List UInt8
 lo:Int
 hi:Int
 bin:Int
def Lim.pv (x:Lim):PV:=.agg [.str x.key,eI x.lo,eI x.hi,eI x.bin]
abbrev JA (l:List Lim):AV:=.p (.sl (some 4) (l.map Lim.pv))
theorem z3E {l:List Lim}:mC (some 4) (l.map Lim.pv):=fun x hx=>by obtain⟨n,_,rfl⟩:=List.mem_map.1 hx;rfl
def aW (key:List UInt8):PV→Bool
 | .agg (.str k::_)=>decide (k=key)
 | _=>false
def tL (l:List Lim)(key:List UInt8):Int:=tF (aW key) (l.map Lim.pv)
def inB (a n b:Int):Bool:=decide (a≤n)&&decide (n≤b)
theorem oG (n a b:Int):gA X tB [AI n,AI a,AI b] h K=K (AB (!inB a n b)) h []:=by rw[z4U,z4h];rfl
theorem bE (n a b:Int):gA X UD [AI n,AI a,AI b] h K=K (AB (inB a n b)) h []:=TJ n a b
def IL (x:Lim):Bool:=!inB (-100000) x.lo x.hi||decide (100000<x.hi) || !inB 2 x.bin 100
def NE (pre:List Lim):List Lim→Int
 | []=>0
 | x::r=>if MB x.key=false then 5 else if 0≤tL pre x.key then 6 else if IL x then 1 else NE (pre++[x]) r
def PC (l:List Lim):Int:=if l.length=0 then 8 else if(100:Int)<l.length then 2 else NE [] l
end Go.Am
end
section
/- What is wrong with limits,both ways: printed by program. -/
open Go
set_option linter.unusedSimpArgs false
namespace Go.Am
variable {h:aA} {K:kA}
theorem zkx (x:Lim)(key:List UInt8)(id:Nat)(hh:h[id]?=some (.box [AS key])):gA X rI [.p x.pv,.ref id 0] h K=K (AB (decide (x.key=key))) h []:=by
 refine rule ?_;rw[z8M rfl];have hg:∀l,(h++l)[id]?=some (.box [AS key]):=fun l=>by rw[vL (ED hh),hh]
 simp only[zN,Lim.pv,go_sem,hg]
theorem zkw (l:List Lim)(key:List UInt8)(hl:l.length≤1000000):gA X QK [JA l,AS key] h K=K (AI (tL l key)) h []:=by
 refine rule ?_;rw[z8L rfl];have hi:=fun K=>vZ (h:=h++[.box [AS key]]) (K:=K) (g:=rI) (caps:=[.ref h.length 0]) (p:=aW key) (xs:=l.map Lim.pv) (OY z3E)
  (fun y hy K=>by obtain⟨x,_,rfl⟩:=List.mem_map.1 hy;exact zkx x key _ (by simp)) (by simpa using (by omega:l.length≤1000000000))
 simp only[yN,go_sem,hi];rfl
set_option maxHeartbeats 1000000 in
theorem zkh (l:List Lim)(hk:∀ x∈l,x.key.length≤1000)(hl:l.length≤1000000):gA X NK [JA l] h K=K (AI (PC l)) h []:=by
 refine rule ?_;rw[z89 rfl];unfold PC;by_cases h0:l.length=0
 ·have h0':(l.length:Int)=0:=by omega
  simp only[OH,go_sem,h0',h0]
 have h0':¬(l.length:Int)=0:=by omega
 by_cases h1:(100:Int)<l.length
 ·simp only[OH,go_sem,h0',h0,h1]
 simp only[OH,go_sem,h0',h0,h1];refine CA (fun k:Nat=>⟨[(0,JA l),(13,JA l),(14,AI l.length),(15,AI k)],h,[]⟩) (fun k=>k≤l.length∧NE (l.take k) (l.drop k)=NE [] l) (fun k=>l.length-k) 0 rfl ⟨by omega,rfl⟩ ?_
 rintro k ⟨hkl,hp⟩
 rcases Nat.lt_or_ge k l.length with hlt|hge
 ·have hg:=bB Lim.pv hlt
  have w2:IntKind.i64.wrap ((k:Int)+1)=((k+1:Nat):Int):=nA _ (by omega) (by omega)
  have hkx:=hk _ (List.getElem_mem hlt)
  rw[List.drop_eq_getElem_cons hlt,NE,←List.take_succ_eq_append_getElem hlt]at hp;have ewin:win (l.map Lim.pv) 0 k=(l.take k).map Lim.pv:=by simp [win,List.map_take]
  have fnd:=fun h K=>zkw (h:=h) (K:=K) (l.take k) l[k].key (by simp;omega)
  generalize l[k]=x at *;have ky:=fun h K=>EY (h:=h) (K:=K) x.key (by omega)
  generalize hw:tL (l.take k) x.key=w at *;cases h2:MB x.key with
  | false=>
   rw[h2]at hp;simp only[if_true]at hp;simp only[go_sem,Lim.pv,hlt,hg,ky,h2];rw[←hp]
  | true=>
   rw[h2]at hp;simp only[reduceCtorEq,if_false]at hp;by_cases h3:0≤w
   ·rw[if_pos h3]at hp
    simp only[go_sem,Lim.pv,hlt,hg,ky,h2,hkl,ewin,fnd,h3];rw[←hp]
   ·rw[if_neg h3]at hp
    unfold IL at hp;cases h4:inB (-100000) x.lo x.hi with
    | false=>
     simp only[h4,Bool.not_false,Bool.true_or,if_true]at hp;simp only[go_sem,Lim.pv,hlt,hg,ky,h2,hkl,ewin,fnd,h3,oG,h4];rw[←hp]
    | true=>
     by_cases h5:100000<x.hi
     ·simp only[h4,h5,Bool.not_true,Bool.false_or,decide_true,Bool.true_or,if_true]at hp
      simp only[go_sem,Lim.pv,hlt,hg,ky,h2,hkl,ewin,fnd,h3,oG,h4,h5];rw[←hp]
     ·cases h6:inB 2 x.bin 100 with
      | false=>
       simp only[h4,h5,h6,Bool.not_true,Bool.false_or,decide_false,Bool.not_false,if_true]at hp;simp only[go_sem,Lim.pv,hlt,hg,ky,h2,hkl,ewin,fnd,h3,oG,h4,h5,h6];rw[←hp]
      | true=>
       simp only[h4,h5,h6,Bool.not_true,Bool.false_or,decide_false,Bool.or_self,reduceCtorEq,if_false]at hp;simp only[go_sem,Lim.pv,hlt,hg,ky,h2,hkl,ewin,fnd,h3,oG,h4,h5,h6,w2];exact⟨k+1,rfl,⟨by omega,hp⟩,by omega⟩
 ·have ek:k=l.length:=by omega
  subst ek;rw[List.drop_length]at hp;simp only[go_sem,Nat.lt_irrefl];rw[←hp];rfl
theorem zkr (x:Lim)(key:List UInt8)(id:Nat)(hh:h[id]?=some (.box [AS key])):gA X xI [.p x.pv,.ref id 0] h K=K (AB (decide (x.key=key))) h []:=by
 refine rule ?_;rw[z9s rfl];have hg:∀l,(h++l)[id]?=some (.box [AS key]):=fun l=>by rw[vL (ED hh),hh]
 simp only[UN,Lim.pv,go_sem,hg]
theorem zkq (l:List Lim)(key:List UInt8)(hl:l.length≤1000000):gA X dL [JA l,AS key] h K=K (AI (tL l key)) h []:=by
 refine rule ?_;rw[z9r rfl];have hi:=fun K=>vZ (h:=h++[.box [AS key]]) (K:=K) (g:=xI) (caps:=[.ref h.length 0]) (p:=aW key) (xs:=l.map Lim.pv) (OY z3E)
  (fun y hy K=>by obtain⟨x,_,rfl⟩:=List.mem_map.1 hy;exact zkr x key _ (by simp)) (by simpa using (by omega:l.length≤1000000000))
 simp only[TN,go_sem,hi];rfl
set_option maxHeartbeats 1000000 in
theorem z4R (l:List Lim)(hk:∀ x∈l,x.key.length≤1000)(hl:l.length≤1000000):gA X wI [JA l] h K=K (AI (PC l)) h []:=by
 refine rule ?_;rw[z9n rfl];unfold PC;by_cases h0:l.length=0
 ·have h0':(l.length:Int)=0:=by omega
  simp only[UH,go_sem,h0',h0]
 have h0':¬(l.length:Int)=0:=by omega
 by_cases h1:(100:Int)<l.length
 ·simp only[UH,go_sem,h0',h0,h1]
 simp only[UH,go_sem,h0',h0,h1];refine CA (fun k:Nat=>⟨[(0,JA l),(13,JA l),(14,AI l.length),(15,AI k)],h,[]⟩) (fun k=>k≤l.length∧NE (l.take k) (l.drop k)=NE [] l) (fun k=>l.length-k) 0 rfl ⟨by omega,rfl⟩ ?_
 rintro k ⟨hkl,hp⟩
 rcases Nat.lt_or_ge k l.length with hlt|hge
 ·have hg:=bB Lim.pv hlt
  have w2:IntKind.i64.wrap ((k:Int)+1)=((k+1:Nat):Int):=nA _ (by omega) (by omega)
  have hkx:=hk _ (List.getElem_mem hlt)
  rw[List.drop_eq_getElem_cons hlt,NE,←List.take_succ_eq_append_getElem hlt]at hp;have ewin:win (l.map Lim.pv) 0 k=(l.take k).map Lim.pv:=by simp [win,List.map_take]
  have fnd:=fun h K=>zkq (h:=h) (K:=K) (l.take k) l[k].key (by simp;omega)
  generalize l[k]=x at *;have ky:=fun h K=>JY (h:=h) (K:=K) x.key (by omega)
  generalize hw:tL (l.take k) x.key=w at *;cases h2:MB x.key with
  | false=>
   rw[h2]at hp;simp only[if_true]at hp;simp only[go_sem,Lim.pv,hlt,hg,ky,h2];rw[←hp]
  | true=>
   rw[h2]at hp;simp only[reduceCtorEq,if_false]at hp;by_cases h3:0≤w
   ·rw[if_pos h3]at hp
    simp only[go_sem,Lim.pv,hlt,hg,ky,h2,hkl,ewin,fnd,h3];rw[←hp]
   ·rw[if_neg h3]at hp
    unfold IL at hp;cases h4:inB (-100000) x.lo x.hi with
    | false=>
     simp only[h4,Bool.not_false,Bool.true_or,if_true]at hp;simp only[go_sem,Lim.pv,hlt,hg,ky,h2,hkl,ewin,fnd,h3,bE,h4];rw[←hp]
    | true=>
     by_cases h5:100000<x.hi
     ·simp only[h4,h5,Bool.not_true,Bool.false_or,decide_true,Bool.true_or,if_true]at hp
      simp only[go_sem,Lim.pv,hlt,hg,ky,h2,hkl,ewin,fnd,h3,bE,h4,h5];rw[←hp]
     ·cases h6:inB 2 x.bin 100 with
      | false=>
       simp only[h4,h5,h6,Bool.not_true,Bool.false_or,decide_false,Bool.not_false,if_true]at hp;simp only[go_sem,Lim.pv,hlt,hg,ky,h2,hkl,ewin,fnd,h3,bE,h4,h5,h6];rw[←hp]
      | true=>
       simp only[h4,h5,h6,Bool.not_true,Bool.false_or,decide_false,Bool.or_self,reduceCtorEq,if_false]at hp;simp only[go_sem,Lim.pv,hlt,hg,ky,h2,hkl,ewin,fnd,h3,bE,h4,h5,h6,w2];exact⟨k+1,rfl,⟨by omega,hp⟩,by omega⟩
 ·have ek:k=l.length:=by omega
  subst ek;rw[List.drop_length]at hp;simp only[go_sem,Nat.lt_irrefl];rw[←hp];rfl
end Go.Am
end
section
/- Package lot on measured values,and what the reference says of them. -/
open Go
namespace Go.Am
variable {h:aA} {K:kA}
def isM (n:Int):Bool:=decide (-100000≤n)&&decide (n≤100000)
theorem UZ {l:List Int}:mC none (l.map eI):=fun x hx=>by obtain⟨n,_,rfl⟩:=List.mem_map.1 hx;rfl
theorem zkz (n:Int):gA X OG [AI n] h K=K (AB (isM n)) h []:=by
 refine rule ?_;rw[z8O rfl];simp only[BN,go_sem,z4U,z4h,Bool.not_not];rfl
def noM:PV→Bool:=fun x=>match x with | .int _ n=>!isM n|_=>false
theorem YZ (l:List Int):(l.map eI).any noM = !l.all isM:=by
 induction l with
 | nil=>rfl
 | cons x r ih=>simp only[List.map_cons,List.any_cons,List.all_cons,ih,Bool.not_and];rfl
structure Meas (l:List Int):Prop where
 len:l.length≤5000
 bd:∀n∈l,-100000≤n∧n≤100000
theorem Meas.sum {l:List Int}(hm:Meas l)(k:Nat) : -500000000≤(l.take k).sum∧(l.take k).sum≤500000000:=by
 have:=zlm hm.bd hm.len (by omega) k
 omega
end Go.Am
end
section
/- Records: what they are,what is wrong with them. -/
open Go
set_option linter.unusedSimpArgs false
namespace Go.Am
variable {h:aA} {K:kA}
theorem zka {b:Nat}{P:kA}{vs:List AV}{h:aA}:JD true b P (some vs) h []=P (SA vs) (h.take (max b (SA vs).top)) []:=by
 simp [JD,LB,zB]
attribute [go_sem] zka
structure Rec where
 unit:List UInt8
 time:Int
 site:List UInt8
 res:List Int
def Rec.pv (r:Rec):PV:=.agg [.str r.unit,eI r.time,.str r.site,.sl none (r.res.map eI)]
abbrev UA (l:List Rec):AV:=.p (.sl (some 4) (l.map Rec.pv))
theorem PJ {l:List Rec}:mC (some 4) (l.map Rec.pv):=fun x hx=>by obtain⟨n,_,rfl⟩:=List.mem_map.1 hx;rfl
structure RecOk (r:Rec):Prop where
 u:r.unit.length≤1000
 s:r.site.length≤1000
 n:r.res.length≤1000
structure LimOk (l:List Lim):Prop where
 n:l.length≤1000
 k:∀x∈l,x.key.length≤1000
def oE (x:Lim)(n:Int):Bool:=inB x.lo n x.hi
def RB (l:List Lim)(res:List Int):List Bool:=List.zipWith oE l res
def cC (l:List Lim)(res:List Int):Int:=if(RB l res).findIdx (fun b=>!b)<(RB l res).length then((RB l res).findIdx (fun b=>!b):Int) else -1
def uB (l:List Lim)(res:List Int):Bool:=inB 1 res.length l.length && !(decide (0≤cC l res)&&decide (cC l res≠(res.length:Int)-1)) && !(decide (cC l res<0)&&decide ((res.length:Int)≠l.length))
def RI (n:Int):Bool:=inB 0 n 345686399999
def GB (l:List Lim)(r:Rec):Int:=if(MB r.unit&&MB r.site)=false then 5 else if RI r.time=false then 1 else if r.res.all isM=false then 1 else if uB l r.res=false then 3 else 0
def EA (a b:Rec):Int:=if oC a.time b.time≠0 then oC a.time b.time else OA a.unit b.unit
def wC (l:List Lim):Option Rec→List Rec→Int
 | _,[]=>0
 | p,x::r=>if GB l x≠0 then GB l x else if(match p with|some q=>decide (EA x q≤0)|none=>false)=true then 7 else wC l (some x) r
def tH (l:List Lim)(r:List Rec):Int:=if(5000:Int)<r.length then 2 else wC l none r
def QA (l:List Lim)(r:List Rec):Int:=if PC l≠0 then PC l else tH l r
theorem z9Q (x y:Int):oC y x = - oC x y:=by
 unfold oC;split <;> split <;> (try split) <;> (try split) <;> omega
theorem yQ (a b:Rec):EA b a = - EA a b:=by
 unfold EA;rw[z9Q a.time b.time,dN a.unit b.unit];by_cases hc:oC a.time b.time=0
 ·simp [hc]
 ·rw[if_pos (by omega),if_pos hc]
theorem JQ (x:Lim)(n:Int):gA X sI [.p x.pv,AI n] h K=K (AB (oE x n)) h []:=by
 refine rule ?_;rw[z8N rfl];simp only[AN,Lim.pv,go_sem,oG,Bool.not_not];rfl
theorem IQ (n:Int):gA X QF [AI n] h K=K (AB (RI n)) h []:=by
 refine rule ?_;rw[z8z rfl];simp only[oN,go_sem,oG,Bool.not_not];rfl
theorem wH (n:Int):gA X aL [AI n] h K=K (AB (RI n)) h []:=by
 refine rule ?_;rw[z9o rfl];simp only[SN,go_sem,bE];rfl
theorem VV {l:List Lim}{res:List Int}(h:res.length≤l.length):(RB l res).length=res.length:=by simp [RB];omega
theorem FO {l:List Lim}{res:List Int}{i:Nat}(h1:i<l.length)(h2:i<res.length):(RB l res)[i]?=some (oE l[i] res[i]):=by
 unfold RB;rw[List.getElem?_zipWith];simp [h1,h2]
def UI (l:List Lim)(res:List Int)(k:Nat):Prop:=∀i,i<k→(RB l res)[i]?≠some false
theorem IV {l:List Lim}{res:List Int}{k:Nat}(h1:UI l res k)(h2:(RB l res)[k]?=some false):cC l res=k:=by
 obtain⟨hk,e⟩:=List.getElem?_eq_some_iff.1 h2;have:(RB l res).findIdx (fun b=>!b)=k:=by
  rw[List.findIdx_eq hk];refine⟨by simp [e],fun j hj=>?_⟩
  have:=h1 j hj;rw[List.getElem?_eq_getElem (by omega)]at this
  cases hq:(RB l res)[j]with
  | true=>rfl
  | false=>rw[hq]at this;exact absurd rfl this
 unfold cC;rw[this,if_pos hk]
theorem z24 {l:List Lim}{res:List Int}(h1:UI l res (RB l res).length):cC l res = -1:=by
 unfold cC;rw[if_neg];intro h;have:=List.findIdx_getElem (w:=h);have h2:=h1 _ h
 rw[List.getElem?_eq_getElem h]at h2;simp at this;rw[this]at h2;exact h2 rfl
theorem z5g (l:List Lim)(r:Rec)(h1:1≤r.res.length)(h2:r.res.length≤l.length)(hn:l.length≤1000) :
 gA X oF [JA l,.p r.pv] h K=K (AI (if oE l[r.res.length-1] r.res[r.res.length-1] then -1 else(r.res.length:Int)-1)) h []:=by
 refine rule ?_;rw[z8I rfl];have w:IntKind.i64.wrap ((r.res.length:Int)-1)=((r.res.length-1:Nat):Int):=by rw[nA _ (by omega) (by omega)];omega
 have g1:=bB Lim.pv (show r.res.length-1<l.length by omega)
 have g2:=bB eI (show r.res.length-1<r.res.length by omega)
 have e:(r.res.length:Int)-1=((r.res.length-1:Nat):Int):=by omega
 have cx:MA (some 4) 0 (l[r.res.length-1].pv)=some l[r.res.length-1].pv:=rfl
 rw[e];cases hg:oE l[r.res.length-1] r.res[r.res.length-1]with
 | true=>simp only[uK,Rec.pv,go_sem,w,g1,g2,cx,JQ,hg]
 | false=>simp only[uK,Rec.pv,go_sem,w,g1,g2,cx,JQ,hg]
theorem zkt (l:List Lim)(r:Rec)(hl:l.length≤1000)(hr:r.res.length≤1000):gA X PK [JA l,.p r.pv] h K=K (AB (uB l r.res)) h []:=by
 refine rule ?_;rw[z8G rfl];by_cases h1:r.res.length=0
 ·have h1':(r.res.length:Int)=0:=by omega
  have:uB l r.res=false:=by simp [uB,inB,h1]
  simp only[RH,Rec.pv,go_sem,h1',this]
 have h1':¬(r.res.length:Int)=0:=by omega
 by_cases h2:(l.length:Int)<r.res.length
 ·have:uB l r.res=false:=by simp [uB,inB];intro;omega
  simp only[RH,Rec.pv,go_sem,h1',h2,this]
 have hle:r.res.length≤l.length:=by omega
 have w:IntKind.i64.wrap ((r.res.length:Int)-1)=((r.res.length-1:Nat):Int):=by rw[nA _ (by omega) (by omega)];omega
 have hn1:r.res.length-1≤r.res.length:=by omega
 have ewin:win (r.res.map eI) 0 (r.res.length-1)=(r.res.take (r.res.length-1)).map eI:=by simp [win,List.map_take]
 have hfm:inB 1 r.res.length l.length=true:=by simp [inB];omega
 simp only[RH,Rec.pv,go_sem,h1',h2,w,hn1,ewin];have etl:min (r.res.length-1) r.res.length=r.res.length-1:=by omega
 refine CA (fun k:Nat=>⟨[(0,JA l),(3,.ref h.length 0),(5,AI r.res.length),(23,AL (r.res.take (r.res.length-1))),(24,AI ((r.res.length-1:Nat):Int)),(25,AI k)],h++[.box [AS r.unit,AI r.time,AS r.site,AL r.res]],[]⟩) (fun k=>k≤r.res.length-1∧UI l r.res k) (fun k=>r.res.length-k) 0 ?_ ⟨by omega,fun i hi=>by omega⟩ ?_
 ·simp [etl]
 rintro k ⟨hk,hok⟩
 rcases Nat.lt_or_ge k (r.res.length-1) with hlt|hge
 ·have g1:=bB Lim.pv (show k<l.length by omega)
  have g2:((r.res.take (r.res.length-1)).map eI)[k]?=some (eI r.res[k]):=by simp [List.getElem?_take,hlt,show k<r.res.length by omega]
  have cx:MA (some 4) 0 (l[k].pv)=some l[k].pv:=rfl
  have gg:=FO (l:=l) (res:=r.res) (show k<l.length by omega) (show k<r.res.length by omega)
  have w2:IntKind.i64.wrap ((k:Int)+1)=((k+1:Nat):Int):=nA _ (by omega) (by omega)
  have hlt':k<r.res.length-1:=hlt
  cases hg:oE l[k] r.res[k]with
  | false=>
   rw[hg]at gg;have hf:=IV hok gg
   have:uB l r.res=false:=by
    unfold uB;rw[hf];have q1:decide ((0:Int)≤(k:Int))=true:=by simp
    have q2:decide ((k:Int)≠(r.res.length:Int)-1)=true:=by simp;omega
    rw[q1,q2];simp
   simp only[go_sem,hlt',g1,g2,cx,JQ,hg,this]
  | true=>
   simp only[go_sem,hlt',g1,g2,cx,JQ,hg,w2];refine⟨k+1,rfl,⟨by omega,fun i hi=>?_⟩,by omega⟩
   rcases Nat.lt_or_ge i k with h3|h3
   ·exact hok i h3
   ·have:i=k:=by omega
    subst this;rw[gg,hg];simp
 ·have ek:k=r.res.length-1:=by omega
  subst ek;have hb:¬(r.res.length-1<r.res.length-1):=by omega
  have gg:=FO (l:=l) (res:=r.res) (show r.res.length-1<l.length by omega) (show r.res.length-1<r.res.length by omega)
  have cx:MA (some 4) 0 (PV.agg [.str r.unit,eI r.time,.str r.site,.sl none (r.res.map eI)])=some r.pv:=rfl
  have fl:=fun h K=>z5g (h:=h) (K:=K) l r (by omega) hle hl
  have hF:uB l r.res=(decide ((r.res.length:Int)=l.length) || !oE l[r.res.length-1] r.res[r.res.length-1]):=by
   unfold uB;rw[hfm];cases hg:oE l[r.res.length-1] r.res[r.res.length-1]with
   | false=>
    rw[hg]at gg;rw[IV hok gg];have q1:decide (((r.res.length-1:Nat):Int)≠(r.res.length:Int)-1)=false:=by simp;omega
    have q2:decide (((r.res.length-1:Nat):Int)<0)=false:=by simp
    rw[q1,q2];simp
   | true=>
    have hokn:UI l r.res (RB l r.res).length:=by
     rw[VV hle];intro i hi;rcases Nat.lt_or_ge i (r.res.length-1) with h3|h3
     ·exact hok i h3
     ·have:i=r.res.length-1:=by omega
      subst this;rw[gg,hg];simp
    rw[z24 hokn];simp
  rw[hF];by_cases he:(r.res.length:Int)=l.length
  ·simp only[go_sem,hb,he]
  ·cases hg:oE l[r.res.length-1] r.res[r.res.length-1]with
   | true=>
    have fl':=fun h K=>fl h K
    simp only[hg,if_true,Rec.pv]at fl';simp only[go_sem,hb,he,fl',Rec.pv]
   | false=>
    have fl':=fun h K=>fl h K
    have hz:(0:Int)≤(r.res.length:Int)-1:=by omega
    simp only[hg,Rec.pv,reduceCtorEq,if_false]at fl';simp only[go_sem,hb,he,fl',Rec.pv,hz]
end Go.Am
end
section
/- What is drawn: numbers,measured values. -/
open Go
namespace Go.Am
variable {L:List Int} {a:Int}
theorem z3j (hp:LA 14 a)(u v:Int)(huv:u≤v)(hu : -1000000000000≤u)(hv:v≤1000000000000):∃k a2:Int,a≤a2∧a2≤a+2 ∧ -1099511627776≤k∧k≤1099511627776 ∧
 Gen TG [AI u,AI v] L a a2 (AI k):=by
 have w1:IntKind.i64.wrap (u-1)=u-1:=nA _ (by omega) (by omega)
 have w2:IntKind.i64.wrap (v+1)=v+1:=nA _ (by omega) (by omega)
 by_cases hf:jB L a 12=0
 ·have hm:=kY (L:=L) (a:=a+1) (l:=[u-1,v+1,u,v,-1099511627776,1099511627776]) (by simp) (by simp)
  simp only[List.mem_cons,List.not_mem_nil,or_false]at hm;refine⟨PB [u-1,v+1,u,v,-1099511627776,1099511627776] L (a+1),a+1+1,by omega,by omega,by omega,by omega,Gen.of fun h id hid=>?_⟩
  rw[z0s rfl];simp only[zK,go_sem,hid,jG hp,hf,w1,w2]
 ·have hm:=oM L (a+1) huv (by omega)
  refine⟨YD u v L (a+1),a+1+1,by omega,by omega,by omega,by omega,Gen.of fun h id hid=>?_⟩
  rw[z0s rfl];simp only[zK,go_sem,hid,jG hp,hf,w1,w2,huv,show -1152921504606846976≤u by omega,show v≤1152921504606846976 by omega]
end Go.Am
end
section
/- Strings that are drawn. -/
open Go
set_option linter.unusedSimpArgs false
namespace Go.Am
variable {L:List Int} {a:Int} {h l:aA} {id:Nat} {K:kA}
def isS:PV→Bool
 | .str _=>true
 | _=>false
def unS:PV→List UInt8
 | .str s=>s
 | _=>[]
def sD (l:List (List UInt8))(L:List Int)(a:Int):List UInt8:=l.getD (jB L a l.length).toNat []
theorem kM {l:List (List UInt8)}{L:List Int}{a:Int}(hl:0<l.length)(hl2:l.length<4611686018427387904):sD l L a∈l:=by
 obtain⟨b1,b2⟩:=ZF L a l.length (by omega) (by omega)
 unfold sD;have:(jB L a l.length).toNat<l.length:=by omega
 simp only[List.getD,List.getElem?_eq_getElem this,Option.getD_some];exact List.getElem_mem _
theorem zlH {xs:List PV}(h:xs.all isS=true):xs=(xs.map unS).map PV.str:=by
 induction xs with
 | nil=>rfl
 | cons x r ih=>
  simp only[List.all_cons,Bool.and_eq_true]at h;simp only[List.map_cons];rw[←ih h.2];cases x <;> first|rfl|cases h.1
theorem zen (hp:LA 0 a)(xs:List PV)(hx:xs.all isS=true)(hl:0<xs.length)(hl2:xs.length<4611686018427387904) :
 Gen nD [.p (.sl none xs)] L a (a+1) (AS (sD (xs.map unS) L a)):=by
 refine Gen.of fun h id hid=>?_
 rw[z9l rfl];obtain⟨b1,b2⟩:=ZF L a xs.length (by omega) (by omega)
 have e4:=TO (k:=.i64) b1
 have e5:xs[(jB L a xs.length).toNat]?=some (.str (sD (xs.map unS) L a)):=by
  have hm:=zlH hx
  generalize hq:xs.map unS=q at *;subst hm;simp only[List.length_map]at *;rw[bB PV.str (show(jB L a q.length).toNat<q.length by omega)]
  simp [sD,List.getD,show(jB L a q.length).toNat<q.length by omega]
 simp only[RN,go_sem,SJ hid hp,e4,e5]
theorem z5a (hid:id<h.length)(hp:LA 0 a){xs:List PV}(hx:xs.all isS=true)(hl:0<xs.length)(hl2:xs.length<4611686018427387904) :
 gA X nD [.ref id 0,.p (.sl none xs)] (h.set id (AA L a)++l) K=K (AS (sD (xs.map unS) L a)) (h.set id (AA L (a+1))++l) []:=(zen hp xs hx hl hl2).app hid
attribute [go_sem ↓] z5a
attribute [go_sem] z5a isS unS
end Go.Am
end
section
/- What is drawn: strings,limits. -/
open Go
set_option linter.unusedSimpArgs false
namespace Go.Am
variable {L:List Int} {a:Int} {h l:aA} {id:Nat} {K:kA}
structure LimBd (x:Lim):Prop where
 k:x.key.length≤1000
 lo : -200000≤x.lo∧x.lo≤200000
 hi : -200000≤x.hi∧x.hi≤200000
theorem zej (hp:LA 60 a):qC WK [] L a (fun v a2=>a≤a2∧a2≤a+12∧∃l:List Lim,1≤l.length∧l.length≤3∧(∀x∈l,LimBd x)∧v=JA l):=by
 refine qC.of fun h id hid=>?_
 rw[z9c rfl];have P:=jG (sE hp (Int.le_refl a) (by omega))
 obtain⟨n1,n2⟩:=oM (u:=1) (v:=3) L (a+1) (by omega) (by omega)
 obtain⟨n,hn⟩:=Int.eq_ofNat_of_zero_le (show 0≤YD 1 3 L (a+1) by omega)
 have hn3:n≤3:=by omega
 have l1:LimBd ⟨[118,111,108,116],0,10,5⟩:=⟨by simp,by simp,by simp⟩
 have l2:LimBd ⟨[97,109,112],-5,5,PB [5,6,2] L a⟩:=⟨by simp,by simp,by simp⟩
 have l3:LimBd ⟨[104,122],3,8,9⟩:=⟨by simp,by simp,by simp⟩
 have hb:h.length≤h.length:=Nat.le_refl _
 by_cases hf:jB L (a+1+1) 15=0
 ·obtain⟨m1,m2⟩:=ZF L (a+1+1+1) n (by omega) (by omega)
  obtain⟨m,hm⟩:=Int.eq_ofNat_of_zero_le m1;have hmn:m<n:=by omega
  have hm3:m<3:=by omega
  obtain⟨kv,a3,c1,c2,_,_,O⟩:=z3j (L:=L) (a:=a+1+1+1+1+1+1+1) (sE hp (by omega) (by omega)) 2 100 (by omega) (by omega) (by omega)
  have O':=fun l K=>O.app (h:=h) (id:=id) (l:=l) (K:=K) hid
  have p1:=kM (l:=[[118,111,108,116],[],[122]]) (L:=L) (a:=a+1+1+1+1) (by simp) (by simp)
  have p2:=kY (l:=[0,-100000,-100001,20]) (L:=L) (a:=a+1+1+1+1+1) (by simp) (by simp)
  have p3:=kY (l:=[10,100000,100001]) (L:=L) (a:=a+1+1+1+1+1+1) (by simp) (by simp)
  simp only[List.mem_cons,List.not_mem_nil,or_false]at p1 p2 p3;have l4:LimBd ⟨sD [[118,111,108,116],[],[122]] L (a+1+1+1+1),PB [0,-100000,-100001,20] L (a+1+1+1+1+1),PB [10,100000,100001] L (a+1+1+1+1+1+1),kv⟩:=
   ⟨by rcases p1 with p1|p1|p1 <;> simp [p1],by dsimp only;omega,by dsimp only;omega⟩
  have hw:∃y,[PV.agg [.str [118,111,108,116],eI 0,eI 10,eI 5],.agg [.str [97,109,112],eI (-5),eI 5,eI (PB [5,6,2] L a)],.agg [.str [104,122],eI 3,eI 8,eI 9]][m]?=some (.agg y)∧y.length=4:=by
   rcases m with _|_|_|m
   ·exact⟨_,rfl,rfl⟩
   ·exact⟨_,rfl,rfl⟩
   ·exact⟨_,rfl,rfl⟩
   ·omega
  obtain⟨y,hy,hyl⟩:=hw;simp only[xK,go_sem,hid,P,hn,hn3,hf,hm,hmn,hm3,↓O',O',hy,hyl];have ed:List.drop 4 y=[]:=List.drop_of_length_le (by omega)
  refine⟨a3,⟨by omega,by omega,win ([⟨[118,111,108,116],0,10,5⟩,⟨[97,109,112],-5,5,PB [5,6,2] L a⟩,⟨[104,122],3,8,9⟩].set m ⟨sD [[118,111,108,116],[],[122]] L (a+1+1+1+1),PB [0,-100000,-100001,20] L (a+1+1+1+1+1),PB [10,100000,100001] L (a+1+1+1+1+1+1),kv⟩) 0 n,by simp [win];omega,by simp [win];omega,fun x hx=>?_,?_⟩,rfl⟩
  ·have hx2:=List.mem_of_mem_drop (List.mem_of_mem_take hx)
   rcases List.mem_or_eq_of_mem_set hx2 with hx3|rfl
   ·simp only[List.mem_cons,List.not_mem_nil,or_false]at hx3
    rcases hx3 with rfl|rfl|rfl
    ·exact l1
    ·exact l2
    ·exact l3
   ·exact l4
  ·rw[ed]
   show _=AV.p (.sl (some 4) ((win _ 0 n).map Lim.pv))
   rw[←fZ,List.map_set];rfl
 ·simp only[xK,go_sem,hid,P,hn,hn3,hf]
  refine⟨a+1+1+1,⟨by omega,by omega,win [⟨[118,111,108,116],0,10,5⟩,⟨[97,109,112],-5,5,PB [5,6,2] L a⟩,⟨[104,122],3,8,9⟩] 0 n,by simp [win];omega,by simp [win];omega,fun x hx=>?_,?_⟩,rfl⟩
  ·have hx3:=List.mem_of_mem_drop (List.mem_of_mem_take hx)
   simp only[List.mem_cons,List.not_mem_nil,or_false]at hx3;rcases hx3 with rfl|rfl|rfl
   ·exact l1
   ·exact l2
   ·exact l3
  ·show _=AV.p (.sl (some 4) ((win _ 0 n).map Lim.pv))
   rw[←fZ];rfl
end Go.Am
end
