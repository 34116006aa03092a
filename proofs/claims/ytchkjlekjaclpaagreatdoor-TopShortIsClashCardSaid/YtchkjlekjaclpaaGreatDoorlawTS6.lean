/- Texts of the proof, laid together: CodesD, AmL, AmC, Ctx, SpStream, SpMap, SpPath, SpFacts, MathFrac, SpBase, SpList, PSort, SpShp, SpStr, SpFind, SpLimD, SpLim, SpLotA, SpRecD, SpGenA, SpSome, SpGenL, PBrd, SpBrd1, SpBrd1q, SpBrdT, SpBrd2, SpBrd3, SpRec, SpLen, SpStrs, SpSortRec, SpCompact, SpGenR, PMerge, SpMrgA, SpSort, SpMrgB, SpMrgC, SpMrgD, PFin, SpTxt, SpSrtS. -/
import Derived.KernelRfl
import Derived.Test.YtchkjlekjaclpaaGreatDoorlawTS5
set_option linter.all false
section
/- The functions asv abstract code,and asv formulas over their values: printed by program out of the translation. -/
set_option linter.unusedVariables false
set_option maxRecDepth 100000
namespace Go.Am
def z0R:ACode:=(.seq (rg [uO 1 (.box 0),
mV 2 (cI 0)] [1])
(.seq (dr [dF (fA 5 3 none 1) [1],
dF (lD 6 none 5) [5],
dF (bN 7 .eql 6 (cI 7)) [6],
dF (fA 8 3 none 1) [1],
dF (lD 9 none 8) [8],
dF (bN 10 .eql 9 (cI 2)) [9],
dF (mV 3 7) [7],
dF (mV 4 10) [10]] [1,3,4])
(.seq (.block 0 (.seq (rg [fA 12 0 none 1,
lD 13 none 12,
cL 14 bC [13],
uO 15 (.un .not 14),
mV 11 15] [1,3,4,11])
(.cond 11 (.seq (rg [mV 2 (cI 5)] [2])
.ret)
(.seq (rg [fA 17 1 none 1,
lD 18 none 17,
cL 19 ZA [18,(cI 1),(cI 1000000)],
mV 20 19,
gD 21 20 false (.faddr 2 none 1),
gD 22 20 false (.load none 21),
gD 23 20 false (.call JN [22]),
gD 24 20 false (.un .not 23),
uO 25 (.pick 20 cT 24),
mV 16 25] [1,3,4,16])
(.cond 16 (.seq (rg [mV 2 (cI 1)] [2])
.ret)
(.seq (rg [fA 27 3 none 1,
lD 28 none 27,
cL 29 ZA [28,(cI 1),(cI 7)],
mV 26 29] [1,3,4,26])
(.cond 26 (.seq (rg [mV 2 (cI 4)] [2])
.ret)
(.seq (rg [mV 31 3,
uO 32 (.un .not 31),
mV 33 32,
gD 34 33 true (.faddr 4 none 1),
gD 35 33 true (.load none 34),
gD 36 33 true (.call bC [35]),
gD 37 33 true (.un .not 36),
uO 38 (.pick 33 37 cF),
mV 39 38,
gD 40 39 false (.mv 4),
gD 41 39 false (.mv 40),
gD 42 41 true (.faddr 5 none 1),
gD 43 41 true (.load none 42),
gD 44 41 true (.call bC [43]),
gD 45 41 true (.un .not 44),
gD 46 39 false (.pick 41 45 cF),
uO 47 (.pick 39 cT 46),
mV 48 47,
gD 49 48 false (.mv 3),
gD 50 48 false (.mv 49),
gD 51 50 true (.faddr 6 none 1),
gD 52 50 true (.load none 51),
gD 53 50 true (.call bC [52]),
gD 54 50 true (.un .not 53),
gD 55 48 false (.pick 50 54 cF),
uO 56 (.pick 48 cT 55),
mV 30 56] [1,3,4,30])
(.cond 30 (.seq (rg [mV 2 (cI 5)] [2])
.ret)
(.seq (rg [mV 58 3,
mV 59 58,
gD 60 59 true (.faddr 7 none 1),
gD 61 59 true (.load none 60),
gD 62 59 true (.call ZA [61,(cI 1),(cI 1000000)]),
uO 63 (.pick 59 62 cF),
mV 57 63] [1,3,4,57])
(.cond 57 (.seq (rg [mV 2 (cI 1)] [2])
.ret)
(.seq (rg [mV 65 3,
mV 66 65,
gD 67 66 true (.faddr 4 none 1),
gD 68 66 true (.load none 67),
gD 69 66 true (.bin .neq 68 (cS [])),
uO 70 (.pick 66 69 cF),
mV 71 70,
gD 72 71 false (.mv 4),
gD 73 71 false (.un .not 72),
gD 74 71 false (.mv 73),
gD 75 74 true (.faddr 5 none 1),
gD 76 74 true (.load none 75),
gD 77 74 true (.bin .neq 76 (cS [])),
gD 78 71 false (.pick 74 77 cF),
uO 79 (.pick 71 cT 78),
mV 80 79,
gD 81 80 false (.mv 3),
gD 82 80 false (.un .not 81),
gD 83 80 false (.mv 82),
gD 84 83 true (.faddr 6 none 1),
gD 85 83 true (.load none 84),
gD 86 83 true (.bin .neq 85 (cS [])),
gD 87 83 true (.mv 86),
gD 88 87 false (.faddr 7 none 1),
gD 89 87 false (.load none 88),
gD 90 87 false (.bin .neq 89 (cI 0)),
gD 91 83 true (.pick 87 cT 90),
gD 92 80 false (.pick 83 91 cF),
uO 93 (.pick 80 cT 92),
mV 64 93] [64])
(.cond 64 (.seq (rg [mV 2 (cI 3)] [2])
.ret)
.skip)))))))))))))
(.seq (rg [mV 2 (cI 0)] [2])
.ret))))
def z1P:AFun:=⟨1,[.t 2],z0R,false,false⟩
def z0S:ACode:=(.seq (rg [uO 3 (.box 0),
mV 6 (cI 0)] [1,2,3])
(.seq (rg [lD 7 (some 2) 3,
cL 8 jU [7],
mV 9 1,
cL 10 iU [9],
mV 11 2,
cL 12 uU [11],
uO 13 (.bsl false none 3 (.int .i64 0) [(0,8),(1,10),(2,12)]),
cL 14 YT [13],
mV 6 14] [6])
.ret))
def z1Q:AFun:=⟨3,[.t 6],z0S,false,false⟩
def z0T:ACode:=(.seq (rg [mV 4 (cI 0)] [0,1])
(.seq (rg [mV 5 0,
uO 6 (.nilchk 5),
fA 7 0 (some 2) 6,
fA 8 0 none 7,
lD 9 none 8,
mV 10 1,
cL 11 FE [9,10],
mV 4 11] [4])
.ret))
def z1R:AFun:=⟨2,[.t 4],z0T,false,false⟩
def za9:ACode:=.pr [] (.seq (rg [mV 6 (cI 0)] [6])
.ret)
def zaA:ACode:=.pr [] (.seq (rg [mV 6 (cI 0)] [6])
.ret)
def z0V (q2:ACode):ACode:=.pr [0,1] (.seq (rg [mV 98 1,
uO 99 (.nilchk 98),
fA 100 4 none 99,
lD 101 none 100,
bN 102 .add 101 (cI 1),
uO 103 (.nilchk 98),
fA 104 4 none 103,
wO (.store none 104 102)] [0,1])
(.seq (rg [mV 105 1,
uO 106 (.nilchk 105),
fA 107 0 none 106,
wO (.store none 107 (cI 3))] [0,1])
(.seq (.seq (dr [dF (mV 108 1) [1],
dF (uO 109 (.nilchk 108)) [108],
dF (fA 110 4 none 109) [109],
dF (lD 111 none 110) [110],
dF (mV 112 0) [0],
dF (uO 113 (.nilchk 112)) [112],
dF (fA 114 0 (some 2) 113) [113],
dF (fA 115 1 none 114) [114],
dF (lD 116 none 115) [115],
dF (bN 117 .eql 111 116) [111,116]] [1,117])
(.cond 117 (rg [mV 118 1,
uO 119 (.nilchk 118),
fA 120 0 none 119,
wO (.store none 120 (cI 5))] [])
.skip))
q2)))
def zaB:ACode:=z0V zaA
def z0U (q1 q3:ACode):ACode:=(.seq (rg [uO 5 (.box 2),
mV 6 (cI 0)] [0,1,5])
(.seq (.block 0 (.seq (rg [mV 10 1,
uO 11 (.nilchk 10),
fA 12 0 none 11,
lD 13 none 12,
bN 14 .neq 13 (cI 2),
mV 9 14] [0,1,5,9])
(.cond 9 (.seq (rg [mV 6 (cI 11)] [6])
.ret)
(.seq (dr [dF (mV 16 1) [1],
dF (uO 17 (.nilchk 16)) [16],
dF (fA 18 3 none 17) [17],
dF (lD 19 none 18) [18],
dF (fA 20 0 none 5) [5],
dF (lD 21 none 20) [20],
dF (bN 22 .neq 19 21) [19,21],
dF (mV 15 22) [22]] [0,1,5,15])
(.cond 15 (.seq (rg [mV 6 (cI 13)] [6])
.ret)
.skip)))))
(.seq (rg [fA 23 3 none 5,
lD 24 none 23,
bN 25 .eql 24 (cI 3),
mV 7 25] [0,1,5,7])
(.seq (dr [dF (mV 26 0) [0],
dF (mV 27 0) [0],
dF (uO 28 (.nilchk 27)) [27],
dF (fA 29 4 none 28) [28],
dF (lD 30 none 29) [29],
dF (fA 31 4 none 5) [5],
dF (lD 32 none 31) [31],
dF (mV 33 1) [1],
dF (uO 34 (.nilchk 33)) [33],
dF (fA 35 2 none 34) [34],
dF (lD 36 none 35) [35],
dF (mV 37 1) [1],
dF (uO 38 (.nilchk 37)) [37],
dF (fA 39 1 none 38) [38],
dF (lD 40 none 39) [39],
dF (fA 41 2 none 5) [5],
dF (lD 42 none 41) [41],
dF (mV 43 7) [7],
dF (uO 44 (.build [.p (.str []),.p (.str []),.p (.int .i64 0),.p (.int .i64 0),.p (.bool false)] [(0,1,32),(1,1,36),(2,1,40),(3,1,42),(4,1,43)])) [32,36,40,42,43],
dF (uO 45 (.bsl false (some 5) 1 (.agg [.str [],.str [],.int .i64 0,.int .i64 0,.bool false]) [(0,44)])) [44],
dT (uO 46 (.app (some 5) 30 45)) [30,45],
dF (uO 47 (.nilchk 26)) [26],
dF (fA 48 4 none 47) [47],
dT (wO (.store none 48 46)) [48,46]] [0,1,5,7])
(.seq (rg [mV 49 0,
mV 50 1,
fA 51 2 none 5,
lD 52 none 51,
cL 53 MN [49,50,52]] [0,1,5,7])
(.seq (rg [mV 54 1,
fA 55 2 none 5,
lD 56 none 55,
uO 57 (.nilchk 54),
fA 58 1 none 57,
wO (.store none 58 56)] [0,1,7])
(.seq (.seq (rg [mV 59 7] [0,1,59])
(.cond 59 (.seq (rg [mV 60 1,
uO 61 (.nilchk 60),
fA 62 4 none 61,
wO (.store none 62 (cI 0))] [0,1])
(.seq (rg [mV 63 0,
mV 64 1,
uO 65 (.nilchk 64),
fA 66 2 none 65,
lD 67 none 66,
cL 68 pU [63,67],
bN 69 .add 68 (cI 1),
mV 8 69] [0,1,8])
(.seq (.seq (rg [mV 70 8,
mV 71 0,
uO 72 (.nilchk 71),
fA 73 0 (some 2) 72,
fA 74 0 none 73,
lD 75 none 74,
lN 76 75,
bN 77 .eql 70 76] [0,1,8,77])
(.cond 77 (rg [mV 78 1,
mV 79 1,
uO 80 (.nilchk 78),
fA 81 0 none 80,
wO (.store none 81 (cI 4)),
uO 82 (.nilchk 79),
fA 83 2 none 82,
wO (.store none 83 (cS []))] [])
(rg [mV 84 1,
mV 85 1,
mV 86 0,
uO 87 (.nilchk 86),
fA 88 0 (some 2) 87,
fA 89 0 none 88,
lD 90 none 89,
mV 91 8,
iA 92 none 90 91,
lD 93 none 92,
uO 94 (.nilchk 84),
fA 95 0 none 94,
wO (.store none 95 (cI 1)),
uO 96 (.nilchk 85),
fA 97 2 none 96,
wO (.store none 97 93)] [])))
q1)))
.skip))
q3)))))))
def z1S:AFun:=⟨3,[.t 6],z0U za9 zaB,false,false⟩
def zaC:ACode:=.pr [0,1,2,11,12] (rg [bN 47 .add 12 (cI 1),
mV 12 47] [0,1,2,11,12])
def z0X (q1:ACode):ACode:=.pr [0,1,2,11,12] (.seq (rg [bN 13 .lss 12 11] [0,1,2,11,12,13])
(.seq (.cond 13 .skip
(.exit 0))
(.seq (.block 1 (.seq (rg [mV 14 12,
mV 6 14] [0,1,2,6,11,12])
(.seq (dr [dF (mV 15 0) [0],
dF (uO 16 (.nilchk 15)) [15],
dF (fA 17 5 none 16) [16],
dF (lD 18 none 17) [17],
dF (mV 19 6) [6],
dF (iA 20 (some 3) 18 19) [18,19],
dF (fA 21 0 none 20) [20],
dF (lD 22 none 21) [21],
dF (mV 23 1) [1],
dF (uO 24 (.nilchk 23)) [23],
dF (fA 25 3 none 24) [24],
dF (lD 26 none 25) [25],
dF (bN 27 .eql 22 26) [22,26],
dF (mV 28 27) [27],
dF (gD 29 28 true (.mv 0)) [0,28],
dF (gD 30 28 true (.nilchk 29)) [29,28],
dF (gD 31 28 true (.faddr 5 none 30)) [30,28],
dF (gD 32 28 true (.load none 31)) [31,28],
dF (gD 33 28 true (.mv 6)) [6,28],
dF (gD 34 28 true (.iaddr (some 3) 32 33)) [32,33,28],
dF (gD 35 28 true (.faddr 2 none 34)) [34,28],
dF (gD 36 28 true (.load none 35)) [35,28],
dF (gD 37 28 true (.bin .lss 36 (cI 0))) [36,28],
dF (uO 38 (.pick 28 37 cF)) [28,37]] [0,1,2,6,11,12,38])
(.cond 38 (rg [mV 39 0,
uO 40 (.nilchk 39),
fA 41 5 none 40,
lD 42 none 41,
mV 43 6,
mV 44 2,
iA 45 (some 3) 42 43,
fA 46 2 none 45,
wO (.store none 46 44)] [0,1,2,11,12])
.skip))))
q1)))
def zaD:ACode:=z0X zaC
def zaE:ACode:=.pr [0,1] (.seq (dr [dF (mV 48 0) [0],
dF (uO 49 (.nilchk 48)) [48],
dF (fA 50 3 none 49) [49],
dF (lD 51 none 50) [50],
dF (mV 52 1) [1],
dF (uO 53 (.nilchk 52)) [52],
dF (fA 54 3 none 53) [53],
dF (lD 55 none 54) [54],
dT (wO (.mdel (none,[2]) 51 55)) [51,55]] [1])
(rg [mV 56 1,
uO 57 (.nilchk 56),
fA 58 3 none 57,
wO (.store none 58 (cS []))] []))
def z0W (q2 q3:ACode):ACode:=(.seq (.seq (rg [mV 7 0,
uO 8 (.nilchk 7),
fA 9 5 none 8,
lD 10 none 9,
lN 11 10,
mV 12 (cI 0)] [0,1,2,11,12])
(.block 0 (.loop q2)))
q3)
def z1T:AFun:=⟨3,[],z0W zaD zaE,false,false⟩
def z0Y:ACode:=(.seq (rg [uO 5 (.box 2),
mV 6 (cI 0)] [0,1,5])
(.seq (dr [dF (mV 10 0) [0],
dF (uO 11 (.nilchk 10)) [10],
dF (fA 12 3 none 11) [11],
dF (lD 13 none 12) [12],
dF (fA 14 0 none 5) [5],
dF (lD 15 none 14) [14],
dF (uO 16 (.look (none,[2]) true (.p (.str [])) 13 15)) [13,15],
dF (mV 9 16) [16],
dF (eX 17 9 0) [9],
dF (eX 18 9 1) [9],
dF (mV 7 17) [17],
dF (mV 8 18) [18]] [0,1,5,8])
(.seq (.block 0 (.seq (rg [mV 20 1,
uO 21 (.nilchk 20),
fA 22 0 none 21,
lD 23 none 22,
bN 24 .neq 23 (cI 1),
mV 19 24] [0,1,5,8,19])
(.cond 19 (.seq (rg [mV 6 (cI 11)] [6])
.ret)
(.seq (dr [dF (fA 26 5 none 5) [5],
dF (lD 27 none 26) [26],
dF (mV 28 1) [1],
dF (uO 29 (.nilchk 28)) [28],
dF (fA 30 2 none 29) [29],
dF (lD 31 none 30) [30],
dF (bN 32 .neq 27 31) [27,31],
dF (mV 25 32) [32]] [0,1,5,8,25])
(.cond 25 (.seq (rg [mV 6 (cI 3)] [6])
.ret)
(.seq (rg [mV 34 8,
mV 33 34] [0,1,5,33])
(.cond 33 (.seq (rg [mV 6 (cI 12)] [6])
.ret)
.skip)))))))
(.seq (dr [dF (mV 35 1) [1],
dF (mV 36 1) [1],
dF (mV 37 1) [1],
dF (fA 38 2 none 5) [5],
dF (lD 39 none 38) [38],
dF (fA 40 0 none 5) [5],
dF (lD 41 none 40) [40],
dF (uO 42 (.nilchk 35)) [35],
dF (fA 43 0 none 42) [42],
dA (wO (.store none 43 (cI 2))) [43] true [] [4,6],
dF (uO 44 (.nilchk 36)) [36],
dF (fA 45 1 none 44) [44],
dA (wO (.store none 45 39)) [45,39] true [] [6],
dF (uO 46 (.nilchk 37)) [37],
dF (fA 47 3 none 46) [46],
dT (wO (.store none 47 41)) [47,41]] [0,5])
(.seq (dr [dF (mV 48 0) [0],
dF (uO 49 (.nilchk 48)) [48],
dF (fA 50 3 none 49) [49],
dF (lD 51 none 50) [50],
dF (fA 52 0 none 5) [5],
dF (lD 53 none 52) [52],
dF (fA 54 4 none 5) [5],
dF (lD 55 none 54) [54],
dT (wO (.mupd (none,[2]) 51 53 55)) [51,53,55]] [0,5])
(.seq (dr [dF (mV 56 0) [0],
dF (mV 57 0) [0],
dF (uO 58 (.nilchk 57)) [57],
dF (fA 59 5 none 58) [58],
dF (lD 60 none 59) [59],
dF (fA 61 0 none 5) [5],
dF (lD 62 none 61) [61],
dF (fA 63 2 none 5) [5],
dF (lD 64 none 63) [63],
dF (uO 65 (.build [.p (.str []),.p (.int .i64 0),.p (.int .i64 0)] [(0,1,62),(1,1,64),(2,1,(cI (-1)))])) [62,64],
dF (uO 66 (.bsl false (some 3) 1 (.agg [.str [],.int .i64 0,.int .i64 0]) [(0,65)])) [65],
dT (uO 67 (.app (some 3) 60 66)) [60,66],
dF (uO 68 (.nilchk 56)) [56],
dF (fA 69 5 none 68) [68],
dT (wO (.store none 69 67)) [69,67]] [])
(.seq (rg [mV 6 (cI 0)] [6])
.ret)))))))
def z1U:AFun:=⟨3,[.t 6],z0Y,false,false⟩
def zaF:ACode:=.pr [0,3,5,38,45] (.cond 45 (.seq (rg [mV 48 0,
mV 49 5,
lD 50 (some 8) 3,
cL 51 qU [48,49,50],
mV 4 51] [4])
.ret)
(.seq (rg [bN 53 .eql 38 (cI 5),
mV 52 53] [0,3,5,52])
(.cond 52 (.seq (.seq (rg [mV 54 5,
uO 55 (.nilchk 54),
fA 56 0 none 55,
lD 57 none 56,
bN 58 .neq 57 (cI 3)] [3,5,58])
(.cond 58 (.seq (rg [mV 4 (cI 11)] [4])
.ret)
.skip))
(.seq (dr [dF (mV 59 5) [5],
dF (mV 60 5) [5],
dF (fA 61 2 none 3) [3],
dF (lD 62 none 61) [61],
dF (uO 63 (.nilchk 59)) [59],
dF (fA 64 0 none 63) [63],
dA (wO (.store none 64 (cI 1))) [64] true [] [3],
dF (uO 65 (.nilchk 60)) [60],
dF (fA 66 1 none 65) [65],
dT (wO (.store none 66 62)) [66,62]] [])
(.seq (rg [mV 4 (cI 0)] [4])
.ret)))
.skip)))
def zaG:ACode:=.pr [3,5] (.seq (dr [dF (mV 89 5) [5],
dF (mV 90 5) [5],
dF (fA 91 2 none 3) [3],
dF (lD 92 none 91) [91],
dF (uO 93 (.nilchk 89)) [89],
dF (fA 94 0 none 93) [93],
dA (wO (.store none 94 (cI 5))) [94] true [] [3],
dF (uO 95 (.nilchk 90)) [90],
dF (fA 96 1 none 95) [95],
dT (wO (.store none 96 92)) [96,92]] [])
(.seq (rg [mV 4 (cI 0)] [4])
.ret))
def z1a (q2:ACode):ACode:=.pr [0,3,5] (.seq (.seq (rg [mV 67 5,
uO 68 (.nilchk 67),
fA 69 0 none 68,
lD 70 none 69,
bN 71 .eql 70 (cI 4),
mV 72 71,
gD 73 72 false (.mv 5),
gD 74 72 false (.nilchk 73),
gD 75 72 false (.faddr 0 none 74),
gD 76 72 false (.load none 75),
gD 77 72 false (.bin .eql 76 (cI 5)),
uO 78 (.pick 72 cT 77)] [0,3,5,78])
(.cond 78 (.seq (rg [mV 4 (cI 11)] [4])
.ret)
.skip))
(.seq (.seq (rg [mV 79 5,
uO 80 (.nilchk 79),
fA 81 0 none 80,
lD 82 none 81,
bN 83 .eql 82 (cI 2)] [0,3,5,83])
(.cond 83 (rg [mV 84 0,
mV 85 5,
fA 86 2 none 3,
lD 87 none 86,
cL 88 MN [84,85,87]] [3,5])
.skip))
q2))
def zaH:ACode:=z1a zaG
def z0Z (q1 q3:ACode):ACode:=(.seq (rg [uO 3 (.box 1),
mV 4 (cI 0)] [0,3])
(.seq (dr [dF (mV 6 0) [0],
dF (uO 7 (.nilchk 6)) [6],
dF (fA 8 2 none 7) [7],
dF (lD 9 none 8) [8],
dF (fA 10 4 none 3) [3],
dF (lD 11 none 10) [10],
dF (uO 12 (.look (none,[2]) false (.nilp) 9 11)) [9,11],
dF (mV 5 12) [12]] [0,3,5])
(.seq (.seq (rg [fA 13 3 none 3,
lD 14 none 13,
bN 15 .eql 14 (cI 1)] [0,3,5,15])
(.cond 15 (.seq (.seq (rg [mV 16 5,
uO 17 (.isnil 0 true 16)] [0,3,17])
(.cond 17 (.seq (rg [mV 4 (cI 6)] [4])
.ret)
.skip))
(.seq (dr [dF (mV 18 0) [0],
dF (uO 19 (.nilchk 18)) [18],
dF (fA 20 2 none 19) [19],
dF (lD 21 none 20) [20],
dF (fA 22 4 none 3) [3],
dF (lD 23 none 22) [22],
dF (fA 24 2 none 3) [3],
dF (lD 25 none 24) [24],
dF (mV 26 0) [0],
dF (uO 27 (.nilchk 26)) [26],
dF (fA 28 0 (some 2) 27) [27],
dF (fA 29 0 none 28) [28],
dF (lD 30 none 29) [29],
dF (iA 31 none 30 (cI 0)) [30],
dF (lD 32 none 31) [31],
dF (uO 33 (.build [.p (.int .i64 0),.p (.int .i64 0),.p (.str []),.p (.str []),.p (.int .i64 0)] [(0,1,(cI 1)),(1,1,25),(2,1,32)])) [25,32],
dA (uO 34 (.box 33)) [33] true [] [3,5],
dT (wO (.mupd (none,[2]) 21 23 34)) [21,23,34]] [])
(.seq (rg [mV 4 (cI 0)] [4])
.ret)))
.skip))
(.seq (.seq (rg [mV 35 5,
uO 36 (.isnil 0 false 35)] [0,3,5,36])
(.cond 36 (.seq (rg [mV 4 (cI 8)] [4])
.ret)
.skip))
(.seq (.seq (rg [fA 37 3 none 3,
lD 38 none 37] [0,3,5,38])
(.block 0 (.seq (rg [bN 40 .eql 38 (cI 2),
mV 39 40] [0,3,5,38,39])
(.cond 39 (.seq (rg [mV 41 0,
mV 42 5,
lD 43 (some 8) 3,
cL 44 rU [41,42,43],
mV 4 44] [4])
.ret)
(.seq (.seq (rg [bN 46 .eql 38 (cI 3),
mV 45 46] [0,3,5,38,45])
(.cond 45 .skip
(rg [bN 47 .eql 38 (cI 4),
mV 45 47] [0,3,5,38,45])))
q1)))))
q3)))))
def z1V:AFun:=⟨2,[.t 4],z0Z zaF zaH,false,false⟩
def zaI:ACode:=.pr [5,6,17,18,19] (rg [bN 59 .add 19 (cI 1),
mV 19 59] [5,6,17,18,19])
def z1c (q1:ACode):ACode:=.pr [5,6,17,18,19] (.seq (rg [bN 20 .lss 19 18] [5,6,17,18,19,20])
(.seq (.cond 20 .skip
(.exit 0))
(.seq (.block 1 (.seq (rg [mV 21 19,
iA 22 (some 8) 17 19,
lD 23 (some 8) 22,
uO 8 (.alloc [.p (.str []),.p (.int .i64 0),.p (.int .i64 0),.p (.int .i64 0),.p (.str []),.p (.str []),.p (.str []),.p (.int .i64 0)]),
mV 7 21,
wO (.store (some 8) 8 23)] [5,6,7,8,17,18,19])
(.seq (.seq (rg [mV 24 6,
mV 25 7,
iA 26 none 24 25,
lD 27 none 26,
uO 28 (.un .not 27),
mV 29 28,
gD 30 29 false (.faddr 3 none 8),
gD 31 29 false (.load none 30),
gD 32 29 false (.bin .eql 31 (cI 7)),
uO 33 (.pick 29 cT 32)] [5,6,7,8,17,18,19,33])
(.cond 33 (.exit 1)
.skip))
(.seq (rg [mV 34 5,
lD 35 (some 8) 8,
cL 36 sU [34,35],
mV 9 36] [5,6,7,9,17,18,19])
(.seq (rg [mV 37 9,
bN 38 .neq 37 (cI 0)] [5,6,7,9,17,18,19,38])
(.cond 38 (.seq (rg [mV 39 5,
mV 40 5,
uO 41 (.nilchk 40),
fA 42 6 none 41,
lD 43 none 42,
mV 44 7,
uO 45 (.bsl false none 1 (.int .i64 0) [(0,44)]),
uO 46 (.app none 43 45),
uO 47 (.nilchk 39),
fA 48 6 none 47,
wO (.store none 48 46)] [5,6,9,17,18,19])
(rg [mV 49 5,
mV 50 5,
uO 51 (.nilchk 50),
fA 52 7 none 51,
lD 53 none 52,
mV 54 9,
uO 55 (.bsl false none 1 (.int .i64 0) [(0,54)]),
uO 56 (.app none 53 55),
uO 57 (.nilchk 49),
fA 58 7 none 57,
wO (.store none 58 56)] [5,6,17,18,19]))
.skip))))))
q1)))
def zaJ:ACode:=z1c zaI
def zaK:ACode:=.pr [5] (.seq (rg [mV 60 5,
mV 4 60] [4])
.ret)
def z1b (q2 q3:ACode):ACode:=(.seq (rg [uO 2 (.uns 12 0 [0]),
mV 4 (.c (.nilp))] [1,2])
(.seq (rg [lD 10 (some 2) 2,
uO 11 (.mkmap),
uO 12 (.mkmap),
uO 13 (.build [.sl0 none,.p (.int .i64 0),.nilm,.nilm,.sl0 (some 5),.sl0 (some 3),.sl0 none,.sl0 none] [(0,2,10),(2,1,11),(3,1,12)]),
uO 14 (.uns 12 0 [13]),
mV 5 14] [1,5])
(.seq (rg [mV 15 1,
cL 16 mU [15],
mV 6 16] [1,5,6])
(.seq (.seq (rg [mV 17 1,
lN 18 17,
mV 19 (cI 0)] [5,6,17,18,19])
(.block 0 (.loop (.scope q2))))
q3))))
def z1W:AFun:=⟨2,[.t 4],z1b zaJ zaK,false,false⟩
def z1d:ACode:=(.seq (rg [mV 2 (cI 0)] [0])
(.seq (.seq (rg [mV 3 0,
cL 4 JN [3],
uO 5 (.un .not 4)] [5])
(.cond 5 (.seq (rg [mV 2 (cI 1)] [2])
.ret)
.skip))
(.seq (rg [mV 2 (cI 0)] [2])
.ret)))
def z1X:AFun:=⟨1,[.t 2],z1d,false,false⟩
def zaL:ACode:=.pr [3,8,9,10] (.seq (rg [bN 11 .lss 10 9] [3,8,9,10,11])
(.seq (.cond 11 .skip
(.exit 0))
(.seq (.block 1 (.seq (rg [iA 12 (some 8) 8 10,
lD 13 (some 8) 12,
uO 5 (.alloc [.p (.str []),.p (.int .i64 0),.p (.int .i64 0),.p (.int .i64 0),.p (.str []),.p (.str []),.p (.str []),.p (.int .i64 0)]),
wO (.store (some 8) 5 13)] [3,5,8,9,10])
(.seq (rg [fA 14 0 none 5,
lD 15 none 14,
fA 16 1 none 5,
lD 17 none 16,
uO 18 (.build [.p (.str []),.p (.int .i64 0)] [(0,1,15),(1,1,17)]),
uO 6 (.alloc [.p (.str []),.p (.int .i64 0)]),
wO (.store (some 2) 6 18)] [3,6,8,9,10])
(.seq (.seq (rg [mV 19 3,
lD 20 (some 2) 6,
uO 21 (.look ((some 2),[2,0]) false (AB false) 19 20)] [3,6,8,9,10,21])
(.cond 21 (.seq (rg [mV 2 cT] [2])
.ret)
.skip))
(rg [mV 22 3,
lD 23 (some 2) 6,
wO (.mupd ((some 2),[2,0]) 22 23 cT)] [3,8,9,10])))))
(rg [bN 24 .add 10 (cI 1),
mV 10 24] [3,8,9,10]))))
def zaM:ACode:=.pr [] (.seq (rg [mV 2 cF] [2])
.ret)
def z1e (q1 q2:ACode):ACode:=(.seq (rg [mV 2 cF] [0])
(.seq (rg [uO 7 (.mkmap),
mV 3 7] [0,3])
(.seq (.seq (rg [mV 8 0,
lN 9 8,
mV 10 (cI 0)] [3,8,9,10])
(.block 0 (.loop (.scope q1))))
q2)))
def z1Y:AFun:=⟨1,[.t 2],z1e zaL zaM,false,false⟩
def zaN:ACode:=.pr [0,1,5] (.seq (.seq (rg [mV 8 5,
bN 9 .gtr 8 (cI 0),
mV 10 9,
gD 11 10 true (.mv 0),
gD 12 10 true (.mv 5),
gD 13 10 true (.bin .sub 12 (cI 1)),
gD 14 10 true (.iaddr (some 8) 11 13),
gD 15 10 true (.faddr 2 none 14),
gD 16 10 true (.load none 15),
gD 17 10 true (.mv 1),
gD 18 10 true (.bin .gtr 16 17),
uO 19 (.pick 10 18 cF)] [0,1,5,19])
(.cond 19 .skip
(.exit 0)))
(.block 1 (rg [mV 20 5,
bN 21 .sub 20 (cI 1),
mV 5 21] [0,1,5])))
def zaO:ACode:=.pr [0,5] (.seq (rg [mV 22 0,
mV 23 5,
uO 24 (.slice (some 8) 22 none (some 23) none),
mV 4 24] [4])
.ret)
def z1f (q1 q2:ACode):ACode:=(.seq (rg [mV 4 (.c (.p (.sl (some 8) [])))] [0,1])
(.seq (rg [mV 6 0,
lN 7 6,
mV 5 7] [0,1,5])
(.seq (.block 0 (.loop q1))
q2)))
def z1Z:AFun:=⟨2,[.t 4],z1f zaN zaO,false,false⟩
def z1h:ACode:=(.seq (rg [mV 4 (cS []),
mV 5 (cI 0)] [0,1])
(.seq (.seq (rg [mV 6 0,
cL 7 NN [6],
uO 8 (.un .not 7),
mV 9 8,
gD 10 9 false (.mv 1),
gD 11 9 false (.call NN [10]),
gD 12 9 false (.un .not 11),
uO 13 (.pick 9 cT 12)] [0,1,13])
(.cond 13 (.seq (rg [mV 4 (cS []),
mV 5 (cI 1)] [4,5])
.ret)
.skip))
(.seq (rg [mV 14 0,
mV 15 1,
cL 16 zF [14,15],
mV 4 16,
mV 5 (cI 0)] [4,5])
.ret)))
def z2a:AFun:=⟨2,[.t 4,.t 5],z1h,false,false⟩
def z1i:ACode:=(.seq (rg [mV 2 cF] [0])
(.seq (rg [mV 3 0,
cL 4 ZA [3,(cI 0),(cI 15)],
uO 5 (.un .not 4),
mV 2 5] [2])
.ret))
def z2b:AFun:=⟨1,[.t 2],z1i,false,false⟩
def z1j:ACode:=(.seq (rg [mV 4 (cI 0)] [0,1])
(.seq (rg [uO 6 (.build [.p (.int .i64 0),.p (.int .i64 0)] [(0,1,(cI 1)),(1,1,(cI 0))]),
uO 7 (.build [.p (.int .i64 0),.p (.int .i64 0)] [(0,1,(cI 1)),(1,1,(cI 2))]),
uO 8 (.build [.p (.int .i64 0),.p (.int .i64 0)] [(0,1,(cI 3)),(1,1,(cI 9))]),
uO 9 (.build [.p (.int .i64 0),.p (.int .i64 0)] [(0,1,(cI 4)),(1,1,(cI 5))]),
uO 10 (.build [.p (.int .i64 0),.p (.int .i64 0)] [(0,1,(cI 4)),(1,1,(cI 5))]),
uO 11 (.build [.p (.int .i64 0),.p (.int .i64 0)] [(0,1,(cI 6)),(1,1,(cI 8))]),
uO 12 (.build [.p (.int .i64 0),.p (.int .i64 0)] [(0,1,(cI 6)),(1,1,(cI 7))]),
uO 13 (.build [.p (.int .i64 0),.p (.int .i64 0)] [(0,1,(cI 4)),(1,1,(cI 8))]),
uO 14 (.build [.p (.int .i64 0),.p (.int .i64 0)] [(0,1,(cI 1)),(1,1,(cI 2))]),
uO 15 (.build [.p (.int .i64 0),.p (.int .i64 0)] [(0,1,(cI 10)),(1,1,(cI 0))]),
uO 16 (.build [.p (.int .i64 0),.p (.int .i64 0)] [(0,1,(cI 11)),(1,1,(cI 12))]),
uO 17 (.build [.p (.int .i64 0),.p (.int .i64 0)] [(0,1,(cI 11)),(1,1,(cI 12))]),
uO 18 (.build [.p (.int .i64 0),.p (.int .i64 0)] [(0,1,(cI 13)),(1,1,(cI 15))]),
uO 19 (.build [.p (.int .i64 0),.p (.int .i64 0)] [(0,1,(cI 13)),(1,1,(cI 14))]),
uO 20 (.build [.p (.int .i64 0),.p (.int .i64 0)] [(0,1,(cI 11)),(1,1,(cI 15))]),
uO 21 (.build [.p (.int .i64 0),.p (.int .i64 0)] [(0,1,(cI 1)),(1,1,(cI 2))]),
uO 22 (.build [.p (.int .i64 0),.p (.int .i64 0),.p (.int .i64 0),.p (.int .i64 0),.p (.int .i64 0),.p (.int .i64 0),.p (.int .i64 0),.p (.int .i64 0),.p (.int .i64 0),.p (.int .i64 0),.p (.int .i64 0),.p (.int .i64 0),.p (.int .i64 0),.p (.int .i64 0),.p (.int .i64 0),.p (.int .i64 0),.p (.int .i64 0),.p (.int .i64 0),.p (.int .i64 0),.p (.int .i64 0),.p (.int .i64 0),.p (.int .i64 0),.p (.int .i64 0),.p (.int .i64 0),.p (.int .i64 0),.p (.int .i64 0),.p (.int .i64 0),.p (.int .i64 0),.p (.int .i64 0),.p (.int .i64 0),.p (.int .i64 0),.p (.int .i64 0)] [(0,2,6),(2,2,7),(4,2,8),(6,2,9),(8,2,10),(10,2,11),(12,2,12),(14,2,13),(16,2,14),(18,2,15),(20,2,16),(22,2,17),(24,2,18),(26,2,19),(28,2,20),(30,2,21)]),
uO 5 (.alloc [.p (.int .i64 0),.p (.int .i64 0),.p (.int .i64 0),.p (.int .i64 0),.p (.int .i64 0),.p (.int .i64 0),.p (.int .i64 0),.p (.int .i64 0),.p (.int .i64 0),.p (.int .i64 0),.p (.int .i64 0),.p (.int .i64 0),.p (.int .i64 0),.p (.int .i64 0),.p (.int .i64 0),.p (.int .i64 0),.p (.int .i64 0),.p (.int .i64 0),.p (.int .i64 0),.p (.int .i64 0),.p (.int .i64 0),.p (.int .i64 0),.p (.int .i64 0),.p (.int .i64 0),.p (.int .i64 0),.p (.int .i64 0),.p (.int .i64 0),.p (.int .i64 0),.p (.int .i64 0),.p (.int .i64 0),.p (.int .i64 0),.p (.int .i64 0)]),
wO (.store (some 32) 5 22)] [0,1,5])
(.seq (rg [mV 23 0,
mV 24 1,
uO 25 (.iaddra 16 (some 2) 5 23),
uO 26 (.iaddra 2 none 25 24),
lD 27 none 26,
mV 4 27] [4])
.ret)))
def DH:AFun:=⟨2,[.t 4],z1j,false,false⟩
def vN (C:Hd)(gl:GL)(v0 v1:AV)(h:aA)(x:Esc)(K:KT):Prop:=
 pK (WA [.p (.int .i64 0),.p (.int .i64 0)] [(0,1,(AI 1)),(1,1,(AI 0))]) fun t1=>
 pK (WA [.p (.int .i64 0),.p (.int .i64 0)] [(0,1,(AI 1)),(1,1,(AI 2))]) fun t2=>
 pK (WA [.p (.int .i64 0),.p (.int .i64 0)] [(0,1,(AI 3)),(1,1,(AI 9))]) fun t3=>
 pK (WA [.p (.int .i64 0),.p (.int .i64 0)] [(0,1,(AI 4)),(1,1,(AI 5))]) fun t4=>
 pK (WA [.p (.int .i64 0),.p (.int .i64 0)] [(0,1,(AI 4)),(1,1,(AI 5))]) fun t5=>
 pK (WA [.p (.int .i64 0),.p (.int .i64 0)] [(0,1,(AI 6)),(1,1,(AI 8))]) fun t6=>
 pK (WA [.p (.int .i64 0),.p (.int .i64 0)] [(0,1,(AI 6)),(1,1,(AI 7))]) fun t7=>
 pK (WA [.p (.int .i64 0),.p (.int .i64 0)] [(0,1,(AI 4)),(1,1,(AI 8))]) fun t8=>
 pK (WA [.p (.int .i64 0),.p (.int .i64 0)] [(0,1,(AI 1)),(1,1,(AI 2))]) fun t9=>
 pK (WA [.p (.int .i64 0),.p (.int .i64 0)] [(0,1,(AI 10)),(1,1,(AI 0))]) fun t10=>
 pK (WA [.p (.int .i64 0),.p (.int .i64 0)] [(0,1,(AI 11)),(1,1,(AI 12))]) fun t11=>
 pK (WA [.p (.int .i64 0),.p (.int .i64 0)] [(0,1,(AI 11)),(1,1,(AI 12))]) fun t12=>
 pK (WA [.p (.int .i64 0),.p (.int .i64 0)] [(0,1,(AI 13)),(1,1,(AI 15))]) fun t13=>
 pK (WA [.p (.int .i64 0),.p (.int .i64 0)] [(0,1,(AI 13)),(1,1,(AI 14))]) fun t14=>
 pK (WA [.p (.int .i64 0),.p (.int .i64 0)] [(0,1,(AI 11)),(1,1,(AI 15))]) fun t15=>
 pK (WA [.p (.int .i64 0),.p (.int .i64 0)] [(0,1,(AI 1)),(1,1,(AI 2))]) fun t16=>
 pK (WA [.p (.int .i64 0),.p (.int .i64 0),.p (.int .i64 0),.p (.int .i64 0),.p (.int .i64 0),.p (.int .i64 0),.p (.int .i64 0),.p (.int .i64 0),.p (.int .i64 0),.p (.int .i64 0),.p (.int .i64 0),.p (.int .i64 0),.p (.int .i64 0),.p (.int .i64 0),.p (.int .i64 0),.p (.int .i64 0),.p (.int .i64 0),.p (.int .i64 0),.p (.int .i64 0),.p (.int .i64 0),.p (.int .i64 0),.p (.int .i64 0),.p (.int .i64 0),.p (.int .i64 0),.p (.int .i64 0),.p (.int .i64 0),.p (.int .i64 0),.p (.int .i64 0),.p (.int .i64 0),.p (.int .i64 0),.p (.int .i64 0),.p (.int .i64 0)] [(0,2,t1),(2,2,t2),(4,2,t3),(6,2,t4),(8,2,t5),(10,2,t6),(12,2,t7),(14,2,t8),(16,2,t9),(18,2,t10),(20,2,t11),(22,2,t12),(24,2,t13),(26,2,t14),(28,2,t15),(30,2,t16)]) fun t17=>
 alK [.p (.int .i64 0),.p (.int .i64 0),.p (.int .i64 0),.p (.int .i64 0),.p (.int .i64 0),.p (.int .i64 0),.p (.int .i64 0),.p (.int .i64 0),.p (.int .i64 0),.p (.int .i64 0),.p (.int .i64 0),.p (.int .i64 0),.p (.int .i64 0),.p (.int .i64 0),.p (.int .i64 0),.p (.int .i64 0),.p (.int .i64 0),.p (.int .i64 0),.p (.int .i64 0),.p (.int .i64 0),.p (.int .i64 0),.p (.int .i64 0),.p (.int .i64 0),.p (.int .i64 0),.p (.int .i64 0),.p (.int .i64 0),.p (.int .i64 0),.p (.int .i64 0),.p (.int .i64 0),.p (.int .i64 0),.p (.int .i64 0),.p (.int .i64 0)] h fun t18 h19 y20=>
 wK (XA (some 32) t18 t17 h19) fun t21 h22 y23=>
 pK (jI 16 (some 2) t18 v0) fun t24=>
 pK (jI 2 none t24 v1) fun t25=>
 pK (jA none t25 h22) fun t26=>
 K .ret ⟨[(4,t26)],h22,(y23++(y20++x))⟩
theorem z7x {C gl v0 v1 h x K}:NW C gl DH.body ⟨enter [v0,v1],h,x⟩ K=vN C gl v0 v1 h x K:=by kernel_rfl
def QO:ACode:=.pr [1,5,6,7,25] (rg [bN 53 .add 25 (cI 1),
mV 25 53] [1,5,6,7,25])
def vT (C:Hd)(gl:GL)(v1 v5 v6 v7 v25:AV)(h:aA)(x:Esc)(K:KT):Prop:=
 pK (eA .add v25 (AI 1)) fun t1=>
 K .normal ⟨[(1,v1),(5,v5),(6,v6),(7,v7),(25,t1)],h,x⟩
theorem z7z {C gl e h x K}:NW C gl QO ⟨e,h,x⟩ K=vT C gl (bA e 1) (bA e 5) (bA e 6) (bA e 7) (bA e 25) h x K:=by kernel_rfl
def MQ (q1:ACode):ACode:=.pr [1,5,6,7,25] (.seq (rg [bN 26 .lss 25 (cI 2)] [1,5,6,7,25,26])
(.seq (.cond 26 .skip
(.exit 2))
(.seq (.block 3 (.seq (rg [mV 27 25,
mV 8 27] [1,5,6,7,8,25])
(.seq (rg [mV 28 7,
mV 29 8,
cL 30 yF [28,29],
mV 9 30] [1,5,6,7,8,9,25])
(.seq (rg [mV 32 5,
mV 33 9,
uO 34 (.look (none,[0]) true (.p (.str [])) 32 33),
mV 31 34,
eX 35 31 0,
eX 36 31 1,
mV 10 35,
mV 11 36] [1,5,6,7,8,9,11,25])
(.seq (rg [mV 37 11,
uO 38 (.un .not 37)] [1,5,6,7,8,9,25,38])
(.cond 38 (.seq (rg [mV 39 5,
mV 40 9,
mV 41 5,
mV 42 7,
uO 43 (.look (none,[0]) false (.p (.str [])) 41 42),
mV 44 8,
bN 45 .add (cI 48) 44,
uO 46 (.conv (.i .i32) 45),
uO 47 (.conv .r2s 46),
bN 48 .add 43 47,
wO (.mupd (none,[0]) 39 40 48)] [1,5,6,7,9,25])
(rg [mV 49 6,
mV 50 9,
uO 51 (.bsl false none 1 (.int .i64 0) [(0,50)]),
uO 52 (.mnext (some none) [49,51]),
mV 6 52] [1,5,6,7,25]))
.skip))))))
q1)))
def EI:ACode:=MQ QO
def wN (C:Hd)(gl:GL)(q1:ACode)(v1 v5 v6 v7 v25:AV)(h:aA)(x:Esc)(K:KT):Prop:=
 pK (eA .lss v25 (AI 2)) fun t1=>
 mA t1 (C yF [v7,v25] h fun t2 h3 y4=>
 pK (yB (none,[0]) true (.p (.str [])) v5 t2 h3) fun t5=>
 pK (xB t5 0) fun t6=>
 pK (xB t5 1) fun t7=>
 pK (oUn .not t7) fun t8=>
 mA t8 (pK (yB (none,[0]) false (.p (.str [])) v5 v7 h3) fun t9=>
 pK (eA .add (AI 48) v25) fun t10=>
 pK (ED .i32 t10) fun t11=>
 wK (jE .r2s t11 h3) fun t12 h13 y14=>
 pK (eA .add t9 t12) fun t15=>
 wK (gC (none,[0]) v5 t2 t15 h13) fun t16 h17 y18=>
 wK (wB false none 1 (.int .i64 0) [(0,t2)] h17) fun t19 h20 y21=>
 nqK (some none) [v6,t19] h20 fun t22 h23 y24=>
 NW C gl q1 ⟨[(1,v1),(5,v5),(6,t22),(7,v7),(25,v25)],h23,(y24++(y21++(y18++(y14++(y4++x)))))⟩ K)
 (NW C gl q1 ⟨[(1,v1),(5,v5),(6,v6),(7,v7),(8,v25),(9,t2),(25,v25),(38,t8)],h3,(y4++x)⟩ K))
 (K (.exit 2) ⟨[(1,v1),(5,v5),(6,v6),(7,v7),(25,v25),(26,t1)],h,x⟩)
theorem z0b {C gl q1 e h x K}:NW C gl (MQ q1) ⟨e,h,x⟩ K=wN C gl q1 (bA e 1) (bA e 5) (bA e 6) (bA e 7) (bA e 25) h x K:=by kernel_rfl
theorem z70 {C gl e h x K}:NW C gl EI ⟨e,h,x⟩ K=wN C gl QO (bA e 1) (bA e 5) (bA e 6) (bA e 7) (bA e 25) h x K:=z0b
theorem z9u {C gl e h x K}:NW C gl (.loop EI) ⟨e,h,x⟩ K=GA C gl EI K [(1,bA e 1),(5,bA e 5),(6,bA e 6),(7,bA e 7),(25,bA e 25)] h x:=uB
def NQ (q2:ACode):ACode:=.pr [1,5,6] (.seq (.seq (rg [mV 17 6,
lN 18 17,
bN 19 .gtr 18 (cI 0)] [1,5,6,19])
(.cond 19 .skip
(.exit 0)))
(.block 1 (.seq (rg [mV 20 6,
iA 21 none 20 (cI 0),
lD 22 none 21,
mV 7 22] [1,5,6,7])
(.seq (rg [mV 23 6,
uO 24 (.slice none 23 (some (cI 1)) none none),
mV 6 24] [1,5,6,7])
(.seq (rg [mV 25 (cI 0)] [1,5,6,7,25])
(.block 2 (.loop q2)))))))
def GI:ACode:=NQ EI
def xN (C:Hd)(gl:GL)(q2:ACode)(v1 v5 v6:AV)(h:aA)(x:Esc)(K:KT):Prop:=
 pK (zA v6) fun t1=>
 pK (eA .gtr t1 (AI 0)) fun t2=>
 mA t2 (pK (sA none v6 (AI 0) h) fun t3=>
 pK (jA none t3 h) fun t4=>
 pK (YC none v6 (some (AI 1)) none none h) fun t5=>
 NW C gl (.loop q2) ⟨[(1,v1),(5,v5),(6,t5),(7,t4),(25,(AI 0))],h,x⟩ (CA 2 (CA 1 K)))
 (K (.exit 0) ⟨[(1,v1),(5,v5),(6,v6),(19,t2)],h,x⟩)
theorem z0c {C gl q2 e h x K}:NW C gl (NQ q2) ⟨e,h,x⟩ K=xN C gl q2 (bA e 1) (bA e 5) (bA e 6) h x K:=by kernel_rfl
theorem z71 {C gl e h x K}:NW C gl GI ⟨e,h,x⟩ K=xN C gl EI (bA e 1) (bA e 5) (bA e 6) h x K:=z0c
theorem z9v {C gl e h x K}:NW C gl (.loop GI) ⟨e,h,x⟩ K=GA C gl GI K [(1,bA e 1),(5,bA e 5),(6,bA e 6)] h x:=uB
def RO:ACode:=.pr [1,5] (.seq (rg [mV 54 5,
mV 55 1,
uO 56 (.look (none,[0]) false (.p (.str [])) 54 55),
mV 4 56] [4])
.ret)
def wT (C:Hd)(gl:GL)(v1 v5:AV)(h:aA)(x:Esc)(K:KT):Prop:=
 pK (yB (none,[0]) false (.p (.str [])) v5 v1 h) fun t1=>
 K .ret ⟨[(4,t1)],h,x⟩
theorem z72 {C gl e h x K}:NW C gl RO ⟨e,h,x⟩ K=wT C gl (bA e 1) (bA e 5) h x K:=by kernel_rfl
def LQ (q3 q4:ACode):ACode:=(.det (.seq (rg [mV 4 (cS [])] [0,1])
(.seq (rg [uO 12 (.mkmap),
mV 13 0,
wO (.mupd (none,[0]) 12 13 (cS [])),
mV 14 12,
mV 5 14] [0,1,5])
(.seq (rg [mV 15 0,
uO 16 (.bsl true none 1 (.int .i64 0) [(0,15)]),
mV 6 16] [1,5,6])
(.seq (.block 0 (.loop q3))
q4)))))
def vJ:AFun:=⟨2,[.t 4],LQ GI RO,false,false⟩
def XJ (C:Hd)(gl:GL)(q3 q4:ACode)(v0 v1:AV)(h:aA)(x:Esc)(K:KT):Prop:=
 mmK h fun t1 h2 y3=>
 wK (gC (none,[0]) t1 v0 (.p (.str [])) h2) fun t4 h5 y6=>
 wK (wB true none 1 (.int .i64 0) [(0,v0)] h5) fun t7 h8 y9=>
 NW C gl (.loop q3) ⟨[(1,v1),(5,t1),(6,t7)],h8,(y9++(y6++(y3++x)))⟩ (CA 0 (FA C gl q4 K))
theorem z0a {C gl q3 q4 v0 v1 h x K}:NW C gl (LQ q3 q4) ⟨enter [v0,v1],h,x⟩ K=XJ C gl q3 q4 v0 v1 h x K:=by kernel_rfl
theorem z7y {C gl v0 v1 h x K}:NW C gl vJ.body ⟨enter [v0,v1],h,x⟩ K=XJ C gl GI RO v0 v1 h x K:=z0a
def zaP:ACode:=.pr [0,10,11,12] (.seq (rg [bN 13 .lss 12 11] [0,10,11,12,13])
(.seq (.cond 13 .skip
(.exit 0))
(.seq (.block 1 (.seq (rg [iA 14 (some 6) 10 12,
lD 15 (some 6) 14,
uO 4 (.alloc [.p (.int .i64 0),.p (.int .i64 0),.p (.int .i64 0),.p (.str []),.p (.str []),.p (.str [])]),
wO (.store (some 6) 4 15)] [0,4,10,11,12])
(.seq (.seq (rg [fA 16 0 none 4,
lD 17 none 16,
cL 18 ZA [17,(cI 1),(cI 10)]] [0,4,10,11,12,18])
(.cond 18 (.seq (rg [mV 2 (cI 4)] [2])
.ret)
.skip))
(.seq (rg [lD 20 (some 6) 4,
cL 21 BU [20],
mV 19 21,
eX 22 19 0,
eX 23 19 1,
uO 5 (.alloc [.p (.int .i64 0),.p (.int .i64 0),.p (.int .i64 0),.p (.str []),.p (.str []),.p (.str [])]),
wO (.store (some 6) 5 22),
mV 6 23] [0,4,5,6,10,11,12])
(.block 2 (.seq (rg [mV 25 6,
bN 26 .neq 25 (cI 0),
mV 24 26] [0,4,5,6,10,11,12,24])
(.cond 24 (.seq (rg [mV 27 6,
mV 2 27] [2])
.ret)
(.seq (rg [lD 29 (some 6) 5,
fA 30 0 none 4,
lD 31 none 30,
uO 32 (.build [.p (.int .i64 0),.p (.int .i64 0),.p (.int .i64 0),.p (.str []),.p (.str []),.p (.str [])] [(0,1,31)]),
uO 33 (.eqa [0,0,0,2,2,2] true 29 32),
mV 28 33] [0,10,11,12,28])
(.cond 28 (.seq (rg [mV 2 (cI 3)] [2])
.ret)
.skip)))))))))
(rg [bN 34 .add 12 (cI 1),
mV 12 34] [0,10,11,12]))))
def zaQ:ACode:=.pr [0] (.seq (.seq (rg [mV 35 0,
cL 36 QN [35,(.c (.nilp))],
uO 37 (.nilchk 36),
fA 38 37 none 37,
lD 39 none 38,
bN 40 .gtr 39 (cI 20000)] [40])
(.cond 40 (.seq (rg [mV 2 (cI 2)] [2])
.ret)
.skip))
(.seq (rg [mV 2 (cI 0)] [2])
.ret))
def z1k (q1 q2:ACode):ACode:=(.seq (rg [mV 2 (cI 0)] [0])
(.seq (.seq (rg [mV 7 0,
lN 8 7,
bN 9 .gtr 8 (cI 1000)] [0,9])
(.cond 9 (.seq (rg [mV 2 (cI 2)] [2])
.ret)
.skip))
(.seq (.seq (rg [mV 10 0,
lN 11 10,
mV 12 (cI 0)] [0,10,11,12])
(.block 0 (.loop (.scope q1))))
q2)))
def z2c:AFun:=⟨1,[.t 2],z1k zaP zaQ,false,false⟩
def z1l:ACode:=(.seq (rg [mV 2 (cI 0),
mV 3 (cI 0)] [0])
(.seq (.seq (rg [mV 5 0,
cL 6 yU [5],
mV 4 6] [0,4])
(.seq (rg [mV 7 4,
bN 8 .neq 7 (cI 0)] [0,4,8])
(.cond 8 (.seq (rg [mV 9 4,
mV 2 (cI 0),
mV 3 9] [2,3])
.ret)
.skip)))
(.seq (rg [mV 10 0,
cL 11 QN [10,(.c (.nilp))],
uO 12 (.nilchk 11),
fA 13 37 none 12,
lD 14 none 13,
mV 2 14,
mV 3 (cI 0)] [2,3])
.ret)))
def z2d:AFun:=⟨1,[.t 2,.t 3],z1l,false,false⟩
def z1m:ACode:=(.seq (rg [mV 2 cF] [0])
(.seq (rg [mV 3 0,
bN 4 .eql 3 (cI 7),
mV 5 4,
gD 6 5 false (.mv 0),
gD 7 5 false (.bin .eql 6 (cI 8)),
uO 8 (.pick 5 cT 7),
mV 2 8] [2])
.ret))
def z2e:AFun:=⟨1,[.t 2],z1m,false,false⟩
def z1n:ACode:=(.seq (rg [mV 2 cF] [0])
(.seq (rg [mV 3 0,
cL 4 ZA [3,(cI 1),(cI 6)],
uO 5 (.un .not 4),
mV 2 5] [2])
.ret))
def z2f:AFun:=⟨1,[.t 2],z1n,false,false⟩
def zaR:ACode:=.pr [2,4] (.seq (rg [lD 56 (some 6) 4,
wO (.store (some 6) 2 56),
mV 3 (cI 0)] [2,3])
.ret)
def z1o (q1:ACode):ACode:=(.seq (rg [uO 1 (.box 0),
uO 2 (.alloc [.p (.int .i64 0),.p (.int .i64 0),.p (.int .i64 0),.p (.str []),.p (.str []),.p (.str [])]),
mV 3 (cI 0)] [1,2])
(.seq (rg [lD 5 (some 6) 1,
uO 4 (.alloc [.p (.int .i64 0),.p (.int .i64 0),.p (.int .i64 0),.p (.str []),.p (.str []),.p (.str [])]),
wO (.store (some 6) 4 5)] [1,2,4])
(.seq (.block 0 (.seq (rg [fA 18 0 none 1,
lD 19 none 18,
bN 20 .eql 19 (cI 1),
mV 21 20,
gD 22 21 false (.faddr 0 none 1),
gD 23 21 false (.load none 22),
gD 24 21 false (.bin .eql 23 (cI 2)),
uO 25 (.pick 21 cT 24),
mV 26 25,
gD 27 26 false (.faddr 0 none 1),
gD 28 26 false (.load none 27),
gD 29 26 false (.bin .eql 28 (cI 10)),
uO 30 (.pick 26 cT 29),
mV 17 30] [1,2,4,17])
(.cond 17 (.seq (rg [fA 31 1 none 4,
wO (.store none 31 (cI 0))] [1,2,4])
(.seq (rg [fA 32 1 none 1,
lD 33 none 32,
cL 34 GU [33],
uO 35 (.un .not 34)] [2,4,35])
(.cond 35 (.seq (rg [lD 36 (some 6) 4,
wO (.store (some 6) 2 36),
mV 3 (cI 1)] [2,3])
.ret)
.skip)))
(.seq (rg [fA 38 0 none 1,
lD 39 none 38,
bN 40 .eql 39 (cI 9),
mV 37 40] [1,2,4,37])
(.cond 37 (.seq (rg [fA 41 2 none 4,
wO (.store none 41 (cI 0))] [1,2,4])
(.seq (rg [fA 42 2 none 1,
lD 43 none 42,
cL 44 ZA [43,(cI 0),(cI 20000)]] [2,4,44])
(.cond 44 (.seq (rg [lD 45 (some 6) 4,
wO (.store (some 6) 2 45),
mV 3 (cI 1)] [2,3])
.ret)
.skip)))
(.seq (rg [fA 47 0 none 1,
lD 48 none 47,
cL 49 ON [48],
mV 46 49] [1,2,4,46])
(.cond 46 (.seq (rg [fA 50 3 none 4,
wO (.store none 50 (cS [])),
fA 51 4 none 4,
wO (.store none 51 (cS [])),
fA 52 5 none 4,
wO (.store none 52 (cS []))] [1,2,4])
(.seq (dr [dF (lD 53 (some 6) 4) [4],
dF (lD 54 (some 6) 1) [1],
dA (cL 55 EU [54]) [54] true [] [0],
dT (wO (.store (some 6) 2 53)) [2,53],
dF (mV 3 55) [55]] [2,3])
.ret))
(.seq (rg [fA 6 3 none 4,
wO (.store none 6 (cS []))] [1,2,4])
(.seq (.seq (rg [fA 7 3 none 1,
lD 8 none 7,
cL 9 UC [8],
uO 10 (.un .not 9)] [1,2,4,10])
(.cond 10 (.seq (rg [lD 11 (some 6) 4,
wO (.store (some 6) 2 11),
mV 3 (cI 9)] [2,3])
.ret)
.skip))
(.seq (rg [fA 12 3 none 1,
lD 13 none 12,
uO 14 (.lens 13),
bN 15 .gtr 14 (cI 2000)] [2,4,15])
(.cond 15 (.seq (rg [lD 16 (some 6) 4,
wO (.store (some 6) 2 16),
mV 3 (cI 2)] [2,3])
.ret)
.skip)))))))))))
q1)))
def z2g:AFun:=⟨1,[.cell 2 (some 6),.t 3],z1o zaR,false,false⟩
def zaS:ACode:=.pr [5,13,14,15] (.seq (rg [bN 16 .lss 15 14] [5,13,14,15,16])
(.seq (.cond 16 .skip
(.exit 0))
(.seq (.block 1 (.seq (rg [iA 17 (some 6) 13 15,
lD 18 (some 6) 17,
uO 7 (.alloc [.p (.int .i64 0),.p (.int .i64 0),.p (.int .i64 0),.p (.str []),.p (.str []),.p (.str [])]),
wO (.store (some 6) 7 18)] [5,7,13,14,15])
(.seq (.seq (rg [mV 19 5,
uO 20 (.nilchk 19),
fA 21 37 none 20,
lD 22 none 21,
bN 23 .gtr 22 (cI 20000)] [5,7,13,14,15,23])
(.cond 23 (.exit 0)
.skip))
(rg [mV 24 5,
lD 25 (some 6) 7,
cL 26 DU [24,25]] [5,13,14,15]))))
(rg [bN 27 .add 15 (cI 1),
mV 15 27] [5,13,14,15]))))
def zaT:ACode:=.pr [5] (.seq (rg [mV 28 5,
mV 4 28] [4])
.ret)
def z1p (q1 q2:ACode):ACode:=(.seq (rg [mV 4 (.c (.nilp))] [0,1])
(.seq (rg [cL 8 HU [],
mV 9 1,
uO 10 (.isnil 0 true 9),
uO 11 (.build [.p (.int .i64 0),.p (.int .i64 0),.p (.int .i64 0),.p (.str []),.p (.str []),.p (.str []),.p (.int .i64 0),.p (.int .i64 0),.p (.int .i64 0),.p (.str []),.p (.str []),.p (.str []),.p (.int .i64 0),.p (.int .i64 0),.p (.int .i64 0),.p (.str []),.p (.str []),.p (.str []),.p (.int .i64 0),.p (.int .i64 0),.p (.int .i64 0),.p (.str []),.p (.str []),.p (.str []),.p (.int .i64 0),.p (.int .i64 0),.p (.int .i64 0),.p (.str []),.p (.str []),.p (.str []),.p (.int .i64 0),.p (.int .i64 0),.p (.int .i64 0),.p (.str []),.p (.str []),.p (.str []),.p (.int .i64 0),.p (.int .i64 0),.p (.int .i64 0),.p (.int .i64 0),.sl0 none,.sl0 none,.sl0 none,.sl0 none,.sl0 none,.p (.bool false)] [(0,36,8),(36,1,(cI 0)),(45,1,10)]),
uO 12 (.uns 12 0 [11]),
mV 5 12] [0,5])
(.seq (.seq (rg [mV 13 0,
lN 14 13,
mV 15 (cI 0)] [5,13,14,15])
(.block 0 (.loop (.scope q1))))
q2)))
def z2h:AFun:=⟨2,[.t 4],z1p zaS zaT,false,false⟩
def z1q:ACode:=(.seq (rg [mV 8 0,
uO 9 (.nilchk 8),
fA 10 37 none 9,
lD 11 none 10,
bN 12 .add 11 (cI 1),
uO 13 (.nilchk 8),
fA 14 37 none 13,
wO (.store none 14 12)] [0,1,2,3])
(.seq (rg [mV 15 0,
uO 16 (.nilchk 15),
fA 17 45 none 16,
lD 18 none 17] [0,1,2,3,18])
(.cond 18 (dr [dF (mV 19 0) [0],
dF (mV 20 0) [0],
dF (mV 21 0) [0],
dF (mV 22 0) [0],
dF (uO 23 (.nilchk 22)) [22],
dF (fA 24 42 none 23) [23],
dF (lD 25 none 24) [24],
dF (mV 26 1) [1],
dF (uO 27 (.bsl false none 1 (.int .u8 0) [(0,26)])) [26],
dT (uO 28 (.app none 25 27)) [25,27],
dF (mV 29 0) [0],
dF (uO 30 (.nilchk 29)) [29],
dF (fA 31 43 none 30) [30],
dA (lD 32 none 31) [31] false [9] [],
dF (mV 33 2) [2],
dA (uO 34 (.bsl false none 1 (.int .u8 0) [(0,33)])) [33] false [9] [],
dT (uO 35 (.app none 32 34)) [32,34],
dF (mV 36 0) [0],
dF (uO 37 (.nilchk 36)) [36],
dF (fA 38 44 none 37) [37],
dA (lD 39 none 38) [38] false [9,16] [],
dF (mV 40 3) [3],
dA (uO 41 (.bsl false none 1 (.int .u8 0) [(0,40)])) [40] false [9,16] [],
dT (uO 42 (.app none 39 41)) [39,41],
dF (uO 43 (.nilchk 19)) [19],
dF (fA 44 42 none 43) [43],
dT (wO (.store none 44 28)) [44,28],
dF (uO 45 (.nilchk 20)) [20],
dF (fA 46 43 none 45) [45],
dT (wO (.store none 46 35)) [46,35],
dF (uO 47 (.nilchk 21)) [21],
dF (fA 48 44 none 47) [47],
dT (wO (.store none 48 42)) [48,42]] [])
.skip)))
def z2i:AFun:=⟨4,[],z1q,false,false⟩
def zaU:ACode:=.pr [0,3,5,7,9,10,11,12,13,14,93,94] (rg [mV 126 0,
mV 127 13,
mV 128 10,
mV 129 12,
uO 130 (.idxs 128 129),
mV 131 14,
cL 132 kK [126,127,130,131]] [0,3,5,7,9,10,11,93,94])
def z1s (q1:ACode):ACode:=.pr [0,3,5,7,9,10,11,12,13,14,93,94] (.seq (.seq (rg [mV 102 12,
mV 103 5,
uO 104 (.lens 103),
bN 105 .sub 102 104,
mV 15 105] [0,3,5,7,9,10,11,12,13,14,15,93,94])
(.seq (rg [mV 106 15,
bN 107 .geq 106 (cI 0),
mV 108 107,
gD 109 108 true (.mv 15),
gD 110 108 true (.faddr 5 none 3),
gD 111 108 true (.load none 110),
gD 112 108 true (.lens 111),
gD 113 108 true (.bin .lss 109 112),
uO 114 (.pick 108 113 cF),
mV 115 114,
gD 116 115 true (.faddr 5 none 3),
gD 117 115 true (.load none 116),
gD 118 115 true (.mv 15),
gD 119 115 true (.idxs 117 118),
gD 120 115 true (.bin .eql 119 (.c (.p (.int .u8 49)))),
uO 121 (.pick 115 120 cF)] [0,3,5,7,9,10,11,12,13,14,15,93,94,121])
(.cond 121 (rg [fA 122 4 none 3,
lD 123 none 122,
mV 124 15,
uO 125 (.idxs 123 124),
mV 14 125] [0,3,5,7,9,10,11,12,13,14,93,94])
.skip)))
q1)
def zaV:ACode:=z1s zaU
def zaW:ACode:=.pr [0,3,5,7,9,10,11,93,94] (rg [bN 133 .add 94 (cI 1),
mV 94 133] [0,3,5,7,9,10,11,93,94])
def z1t (q2 q3:ACode):ACode:=.pr [0,3,5,7,9,10,11,93,94] (.seq (rg [bN 95 .lss 94 93] [0,3,5,7,9,10,11,93,94,95])
(.seq (.cond 95 .skip
(.exit 0))
(.seq (.block 1 (.seq (rg [mV 96 94,
mV 12 96] [0,3,5,7,9,10,11,12,93,94])
(.seq (rg [mV 13 (.c (.p (.int .u8 48))),
mV 14 (.c (.p (.int .u8 120)))] [0,3,5,7,9,10,11,12,13,14,93,94])
(.seq (.seq (rg [mV 97 12,
mV 98 10,
uO 99 (.lens 98),
bN 100 .sub 99 (cI 1),
bN 101 .eql 97 100] [0,3,5,7,9,10,11,12,13,14,93,94,101])
(.cond 101 (rg [mV 13 (.c (.p (.int .u8 49)))] [0,3,5,7,9,10,11,12,13,14,93,94])
.skip))
q2))))
q3)))
def zaX:ACode:=z1t zaV zaW
def zaY:ACode:=.pr [0,7,9,11] (.seq (rg [mV 134 0,
mV 135 9,
uO 136 (.nilchk 134),
fA 137 36 none 136,
wO (.store none 137 135)] [0,7,11])
(.seq (rg [mV 138 0,
mV 139 7,
cL 140 XH [138,139]] [11])
(.seq (rg [mV 141 11,
mV 4 141] [4])
.ret)))
def z1u (q4 q5:ACode):ACode:=.pr [0,3,5,7,9,10] (.seq (rg [mV 85 0,
uO 86 (.nilchk 85),
fA 87 37 none 86,
lD 88 none 87,
mV 89 5,
uO 90 (.lens 89),
bN 91 .add 88 90,
mV 11 91] [0,3,5,7,9,10,11])
(.seq (.seq (rg [mV 92 10,
uO 93 (.lens 92),
mV 94 (cI 0)] [0,3,5,7,9,10,11,93,94])
(.block 0 (.loop q4)))
q5))
def zaZ:ACode:=z1u zaX zaY
def z1v (q6:ACode):ACode:=.pr [0,3,5,6,7,8,9] (.seq (rg [mV 55 0,
mV 56 8,
cL 57 XH [55,56]] [0,3,5,6,7,9])
(.seq (rg [mV 58 5,
fA 59 3 none 3,
lD 60 none 59,
bN 61 .add 58 60,
mV 62 6,
bN 63 .add 61 62,
mV 10 63] [0,3,5,7,9,10])
(.seq (.seq (rg [fA 64 0 none 3,
lD 65 none 64,
bN 66 .eql 65 (cI 7)] [0,3,5,7,9,10,66])
(.cond 66 (rg [mV 67 0,
uO 68 (.nilchk 67),
fA 69 38 none 68,
lD 70 none 69,
mV 71 10,
uO 72 (.lens 71),
bN 73 .add 70 72,
uO 74 (.nilchk 67),
fA 75 38 none 74,
wO (.store none 75 73)] [0,3,5,7,9,10])
(rg [mV 76 0,
uO 77 (.nilchk 76),
fA 78 39 none 77,
lD 79 none 78,
mV 80 10,
uO 81 (.lens 80),
bN 82 .add 79 81,
uO 83 (.nilchk 76),
fA 84 39 none 83,
wO (.store none 84 82)] [0,3,5,7,9,10])))
q6)))
def zba:ACode:=z1v zaZ
def z1r (q7:ACode):ACode:=(.seq (rg [uO 3 (.box 1),
mV 4 (cI 0)] [0,3])
(.seq (dr [dF (mV 16 0) [0],
dF (uO 17 (.nilchk 16)) [16],
dF (fA 18 0 (some 36) 17) [17],
dF (fA 19 24 (some 6) 18) [18],
dF (fA 20 3 none 19) [19],
dF (lD 21 none 20) [20],
dF (mV 22 0) [0],
dF (uO 23 (.nilchk 22)) [22],
dF (fA 24 0 (some 36) 23) [23],
dF (fA 25 30 (some 6) 24) [24],
dF (fA 26 3 none 25) [25],
dF (lD 27 none 26) [26],
dF (mV 28 0) [0],
dF (uO 29 (.nilchk 28)) [28],
dF (fA 30 0 (some 36) 29) [29],
dF (fA 31 6 (some 6) 30) [30],
dF (fA 32 1 none 31) [31],
dF (lD 33 none 32) [32],
dF (mV 5 21) [21],
dF (mV 6 27) [27],
dF (mV 7 33) [33],
dF (mV 8 (cI 4)) [],
dF (mV 9 (cI 5)) []] [0,3,5,6,7,8,9])
(.seq (.seq (rg [fA 34 0 none 3,
lD 35 none 34,
bN 36 .eql 35 (cI 7)] [0,3,5,6,7,8,9,36])
(.cond 36 (dr [dF (mV 37 0) [0],
dF (uO 38 (.nilchk 37)) [37],
dF (fA 39 0 (some 36) 38) [38],
dF (fA 40 12 (some 6) 39) [39],
dF (fA 41 3 none 40) [40],
dF (lD 42 none 41) [41],
dF (mV 43 0) [0],
dF (uO 44 (.nilchk 43)) [43],
dF (fA 45 0 (some 36) 44) [44],
dF (fA 46 18 (some 6) 45) [45],
dF (fA 47 3 none 46) [46],
dF (lD 48 none 47) [47],
dF (mV 49 0) [0],
dF (uO 50 (.nilchk 49)) [49],
dF (fA 51 0 (some 36) 50) [50],
dF (fA 52 0 (some 6) 51) [51],
dF (fA 53 1 none 52) [52],
dF (lD 54 none 53) [53],
dF (mV 5 42) [42],
dF (mV 6 48) [48],
dF (mV 7 54) [54],
dF (mV 8 (cI 11)) [],
dF (mV 9 (cI 12)) []] [0,3,5,6,7,8,9])
.skip))
q7)))
def z2j:AFun:=⟨2,[.t 4],z1r zba,false,false⟩
def zbb:ACode:=.pr [0,4,35,36] (.seq (rg [bN 37 .lss 36 35] [0,4,35,36,37])
(.seq (.cond 37 .skip
(.exit 1))
(.seq (.block 2 (rg [mV 38 0,
cL 39 kK [38,(.c (.p (.int .u8 48))),(.c (.p (.int .u8 48))),(.c (.p (.int .u8 120)))]] [0,4,35,36]))
(rg [bN 40 .add 36 (cI 1),
mV 36 40] [0,4,35,36]))))
def zbc:ACode:=.pr [0,4] (.seq (dr [dF (mV 41 0) [0],
dF (mV 42 0) [0],
dF (uO 43 (.nilchk 42)) [42],
dF (fA 44 40 none 43) [43],
dF (lD 45 none 44) [44],
dF (mV 46 0) [0],
dF (uO 47 (.nilchk 46)) [46],
dF (fA 48 36 none 47) [47],
dF (lD 49 none 48) [48],
dF (uO 50 (.bsl false none 1 (.int .i64 0) [(0,49)])) [49],
dT (uO 51 (.app none 45 50)) [45,50],
dF (uO 52 (.nilchk 41)) [41],
dF (fA 53 40 none 52) [52],
dT (wO (.store none 53 51)) [53,51]] [0,4])
(rg [mV 54 0,
mV 55 0,
uO 56 (.nilchk 55),
fA 57 41 none 56,
lD 58 none 57,
mV 59 4,
uO 60 (.bsl false none 1 (.int .i64 0) [(0,59)]),
uO 61 (.app none 58 60),
uO 62 (.nilchk 54),
fA 63 41 none 62,
wO (.store none 63 61)] []))
def z1w (q1 q2:ACode):ACode:=(.seq (rg [uO 3 (.box 1)] [0,3])
(.seq (rg [mV 4 (cI 0)] [0,3,4])
(.seq (.block 0 (.seq (rg [fA 10 0 none 3,
lD 11 none 10,
cL 12 AU [11],
mV 9 12] [0,3,4,9])
(.cond 9 (dr [dF (mV 13 0) [0],
dF (uO 14 (.nilchk 13)) [13],
dF (fA 15 0 (some 36) 14) [14],
dF (fA 16 0 none 3) [3],
dF (lD 17 none 16) [16],
dT (cL 18 FU [15,17]) [15,17],
dA (lD 19 (some 6) 3) [3] false [5] [],
dF (uO 20 (.nilchk 18)) [18],
dT (wO (.store (some 6) 20 19)) [20,19]] [0,4])
(.seq (rg [fA 22 0 none 3,
lD 23 none 22,
cL 24 ON [23],
mV 21 24] [0,3,4,21])
(.cond 21 (rg [mV 25 0,
lD 26 (some 6) 3,
cL 27 CU [25,26],
mV 4 27] [0,4])
(.seq (rg [fA 29 0 none 3,
lD 30 none 29,
bN 31 .eql 30 (cI 9),
mV 28 31] [0,3,4,28])
(.cond 28 (.seq (rg [mV 32 0,
cL 33 XH [32,(cI 1)]] [0,3,4])
(.seq (rg [fA 34 2 none 3,
lD 35 none 34,
mV 36 (cI 0)] [0,4,35,36])
(.block 1 (.loop q1))))
(rg [mV 5 0,
fA 6 1 none 3,
lD 7 none 6,
cL 8 XH [5,7]] [0,4]))))))))
q2)))
def z2k:AFun:=⟨2,[],z1w zbb zbc,false,false⟩
def zbd:ACode:=.pr [0,1,4,17,18] (.seq (rg [bN 19 .lss 18 17] [0,1,4,17,18,19])
(.seq (.cond 19 .skip
(.exit 0))
(.seq (.block 1 (.seq (rg [mV 20 18,
mV 6 20] [0,1,4,6,17,18])
(rg [mV 21 0,
mV 22 4,
mV 23 6,
uO 24 (.idxs 22 23),
cL 25 kK [21,24,(.c (.p (.int .u8 48))),(.c (.p (.int .u8 120)))]] [0,1,4,17,18])))
(rg [bN 26 .add 18 (cI 1),
mV 18 26] [0,1,4,17,18]))))
def zbe:ACode:=.pr [0,1] (rg [mV 27 0,
mV 28 1,
uO 29 (.nilchk 27),
fA 30 36 none 29,
wO (.store none 30 28)] [])
def z1x (q1 q2:ACode):ACode:=(.seq (rg [mV 8 0,
uO 9 (.nilchk 8),
fA 10 36 none 9,
lD 11 none 10,
mV 12 1,
cL 13 xU [11,12],
mV 7 13,
eX 14 7 0,
eX 15 7 1,
mV 4 14,
mV 5 15] [0,1,4])
(.seq (.seq (rg [mV 16 4,
uO 17 (.lens 16),
mV 18 (cI 0)] [0,1,4,17,18])
(.block 0 (.loop q1)))
q2))
def z2l:AFun:=⟨2,[],z1x zbd zbe,false,false⟩
def z1y:ACode:=(.seq (rg [uO 1 (.box 0),
mV 2 (cI 0)] [1])
(.seq (.block 0 (.seq (rg [fA 4 3 none 1,
lD 5 none 4,
bN 6 .eql 5 (cS []),
mV 3 6] [1,3])
(.cond 3 (.seq (rg [mV 2 (cI 8)] [2])
.ret)
(.seq (rg [fA 8 3 none 1,
lD 9 none 8,
cL 10 UC [9],
uO 11 (.un .not 10),
mV 7 11] [1,7])
(.cond 7 (.seq (rg [mV 2 (cI 9)] [2])
.ret)
(.seq (rg [fA 13 3 none 1,
lD 14 none 13,
uO 15 (.lens 14),
bN 16 .gtr 15 (cI 2000),
mV 12 16] [1,12])
(.cond 12 (.seq (rg [mV 2 (cI 2)] [2])
.ret)
(.seq (rg [fA 18 4 none 1,
lD 19 none 18,
bN 20 .neq 19 (cS []),
mV 21 20,
gD 22 21 true (.faddr 4 none 1),
gD 23 21 true (.load none 22),
gD 24 21 true (.lens 23),
gD 25 21 true (.faddr 3 none 1),
gD 26 21 true (.load none 25),
gD 27 21 true (.lens 26),
gD 28 21 true (.bin .neq 24 27),
gD 29 21 true (.mv 28),
gD 30 29 false (.faddr 5 none 1),
gD 31 29 false (.load none 30),
gD 32 29 false (.lens 31),
gD 33 29 false (.faddr 3 none 1),
gD 34 29 false (.load none 33),
gD 35 29 false (.lens 34),
gD 36 29 false (.bin .neq 32 35),
gD 37 21 true (.pick 29 cT 36),
uO 38 (.pick 21 37 cF),
mV 17 38] [1,17])
(.cond 17 (.seq (rg [mV 2 (cI 3)] [2])
.ret)
(.seq (rg [fA 40 4 none 1,
lD 41 none 40,
cL 42 UC [41],
uO 43 (.un .not 42),
mV 44 43,
gD 45 44 false (.faddr 5 none 1),
gD 46 44 false (.load none 45),
gD 47 44 false (.call UC [46]),
gD 48 44 false (.un .not 47),
uO 49 (.pick 44 cT 48),
mV 39 49] [1,39])
(.cond 39 (.seq (rg [mV 2 (cI 9)] [2])
.ret)
(.seq (rg [fA 51 4 none 1,
lD 52 none 51,
bN 53 .eql 52 (cS []),
mV 54 53,
gD 55 54 true (.faddr 5 none 1),
gD 56 54 true (.load none 55),
gD 57 54 true (.bin .neq 56 (cS [])),
uO 58 (.pick 54 57 cF),
mV 50 58] [50])
(.cond 50 (.seq (rg [mV 2 (cI 3)] [2])
.ret)
.skip)))))))))))))
(.seq (rg [mV 2 (cI 0)] [2])
.ret)))
def z2m:AFun:=⟨1,[.t 2],z1y,false,false⟩
def z1z:ACode:=(.seq (rg [mV 4 (.c (.nilp))] [0,1])
(.seq (.seq (rg [mV 5 1] [0,5])
(.block 0 (.seq (rg [bN 7 .eql 5 (cI 1),
mV 6 7] [0,5,6])
(.cond 6 (.seq (rg [mV 8 0,
uO 9 (.nilchk 8),
fA 10 0 (some 6) 9,
mV 4 10] [4])
.ret)
(.seq (rg [bN 12 .eql 5 (cI 2),
mV 11 12] [0,5,11])
(.cond 11 (.seq (rg [mV 13 0,
uO 14 (.nilchk 13),
fA 15 6 (some 6) 14,
mV 4 15] [4])
.ret)
(.seq (rg [bN 17 .eql 5 (cI 3),
mV 16 17] [0,5,16])
(.cond 16 (.seq (rg [mV 18 0,
uO 19 (.nilchk 18),
fA 20 12 (some 6) 19,
mV 4 20] [4])
.ret)
(.seq (rg [bN 22 .eql 5 (cI 4),
mV 21 22] [0,5,21])
(.cond 21 (.seq (rg [mV 23 0,
uO 24 (.nilchk 23),
fA 25 18 (some 6) 24,
mV 4 25] [4])
.ret)
(.seq (rg [bN 27 .eql 5 (cI 5),
mV 26 27] [0,26])
(.cond 26 (.seq (rg [mV 28 0,
uO 29 (.nilchk 28),
fA 30 24 (some 6) 29,
mV 4 30] [4])
.ret)
.skip))))))))))))
(.seq (rg [mV 31 0,
uO 32 (.nilchk 31),
fA 33 30 (some 6) 32,
mV 4 33] [4])
.ret)))
def z2n:AFun:=⟨2,[.t 4],z1z,false,false⟩
def z10:ACode:=(.seq (rg [mV 2 cF] [0])
(.seq (rg [mV 3 0,
bN 4 .eql 3 (cI 0),
mV 5 4,
gD 6 5 false (.mv 0),
gD 7 5 false (.bin .eql 6 (cI 1)),
uO 8 (.pick 5 cT 7),
mV 9 8,
gD 10 9 false (.mv 0),
gD 11 9 false (.bin .eql 10 (cI 6)),
uO 12 (.pick 9 cT 11),
mV 13 12,
gD 14 13 false (.mv 0),
gD 15 13 false (.bin .eql 14 (cI 13)),
uO 16 (.pick 13 cT 15),
mV 2 16] [2])
.ret))
def z2o:AFun:=⟨1,[.t 2],z10,false,false⟩
def z11:ACode:=(.seq (rg [uO 0 (.alloc [.p (.int .i64 0),.p (.int .i64 0),.p (.int .i64 0),.p (.str []),.p (.str []),.p (.str []),.p (.int .i64 0),.p (.int .i64 0),.p (.int .i64 0),.p (.str []),.p (.str []),.p (.str []),.p (.int .i64 0),.p (.int .i64 0),.p (.int .i64 0),.p (.str []),.p (.str []),.p (.str []),.p (.int .i64 0),.p (.int .i64 0),.p (.int .i64 0),.p (.str []),.p (.str []),.p (.str []),.p (.int .i64 0),.p (.int .i64 0),.p (.int .i64 0),.p (.str []),.p (.str []),.p (.str []),.p (.int .i64 0),.p (.int .i64 0),.p (.int .i64 0),.p (.str []),.p (.str []),.p (.str [])])] [0])
(.seq (rg [uO 1 (.build [.p (.int .i64 0),.p (.int .i64 0),.p (.int .i64 0),.p (.str []),.p (.str []),.p (.str [])] [(0,1,(cI 1)),(1,1,(cI 1))]),
uO 2 (.build [.p (.int .i64 0),.p (.int .i64 0),.p (.int .i64 0),.p (.str []),.p (.str []),.p (.str [])] [(0,1,(cI 2)),(1,1,(cI 1))]),
uO 3 (.build [.p (.int .i64 0),.p (.int .i64 0),.p (.int .i64 0),.p (.str []),.p (.str []),.p (.str [])] [(0,1,(cI 3))]),
uO 4 (.build [.p (.int .i64 0),.p (.int .i64 0),.p (.int .i64 0),.p (.str []),.p (.str []),.p (.str [])] [(0,1,(cI 4))]),
uO 5 (.build [.p (.int .i64 0),.p (.int .i64 0),.p (.int .i64 0),.p (.str []),.p (.str []),.p (.str [])] [(0,1,(cI 5))]),
uO 6 (.build [.p (.int .i64 0),.p (.int .i64 0),.p (.int .i64 0),.p (.str []),.p (.str []),.p (.str [])] [(0,1,(cI 6))]),
uO 7 (.build [.p (.int .i64 0),.p (.int .i64 0),.p (.int .i64 0),.p (.str []),.p (.str []),.p (.str []),.p (.int .i64 0),.p (.int .i64 0),.p (.int .i64 0),.p (.str []),.p (.str []),.p (.str []),.p (.int .i64 0),.p (.int .i64 0),.p (.int .i64 0),.p (.str []),.p (.str []),.p (.str []),.p (.int .i64 0),.p (.int .i64 0),.p (.int .i64 0),.p (.str []),.p (.str []),.p (.str []),.p (.int .i64 0),.p (.int .i64 0),.p (.int .i64 0),.p (.str []),.p (.str []),.p (.str []),.p (.int .i64 0),.p (.int .i64 0),.p (.int .i64 0),.p (.str []),.p (.str []),.p (.str [])] [(0,6,1),(6,6,2),(12,6,3),(18,6,4),(24,6,5),(30,6,6)]),
wO (.store (some 36) 0 7)] [0])
.ret))
def z2p:AFun:=⟨0,[.cell 0 (some 36)],z11,false,false⟩
end Go.Am
end
section
/- The abstract machine,part L: functions of the library that are met by the kit's contracts: plain values in,plain values out,new memory at most. -/
set_option linter.unusedSimpArgs false
set_option linter.unusedVariables false
namespace Go.Am
variable {P:Program} {gl:Nat→Option PV}
structure PureRow (P:Program) (gl:Nat→Option PV) (f:Nat) (spec:List PV→Option AV):Prop where
 enter:∀us w,(callFunc f us).run P w = .ok (.enter f us) w
 run:∀(M:Mem) (w:World) (vs:List PV) (r:AV) (us:List Value),(∀b o v,M.c b o=some v→w.cell? ⟨b,o,none⟩=some v)→(∀b o,M.b b=some o→w.heap[b]?=some o)→AC gl M→vs.length=us.length →
  (∀(j:Nat) (y:PV) (v:Value),vs[j]?=some y→us[j]?=some v→RPV M y v)→spec vs=some r →
  Calls P f us.toArray w fun e w'=>∃x,e = .returned x∧WExt w w'∧RAV (pE M w w') [] [] r x
abbrev bF:=List (Nat × (List PV→Option AV))
def kH:bF→Nat→List AV→aA→Option (AV×aA×Esc)
 | [],_,_,_=>none
 | (g,s)::r,f,asv,h=>bif Nat.beq f g then((unp asv).bind s).map fun v=>(v,h,[]) else kH r f asv h
theorem ZO:∀ (gs:bF),(∀g s,(g,s)∈gs→PureRow P gl g s)→∀{f:Nat} {asv:List AV} {h:aA} {v:AV} {h':aA} {x:Esc},kH gs f asv h=some (v,h',x) →
 CB P gl f asv h fun v1 h1 x1=>v1=v∧h1=h'∧x1=x
 | [],_,f,asv,h,v,h',x,H=>by cases H
 | (g,s)::r,hg,f,asv,h,v,h',x,H=>by
  unfold kH at H;cases e1:Nat.beq f g with
  | false=>
   rw[e1]at H;exact ZO r (fun g sh hm=>hg g sh (by simp [hm])) H
  | true=>
   rw[e1]at H;have e:=Nat.eq_of_beq_eq_true e1
   subst e;have R:=hg f s (by simp)
   simp only[cond_true]at H;obtain⟨y,hy,e2⟩:=Option.map_eq_some_iff.1 H;simp only[Prod.mk.injEq]at e2;obtain⟨rfl,rfl,rfl⟩:=e2;obtain⟨ps,hps,hs⟩:=Option.bind_eq_some_iff.1 hy;have hm:=wH hps
   subst hm;intro μ w vs Hh Hg hl hr;refine .inl ⟨R.enter _,?_⟩;refine(R.run (imm h μ w) w ps y vs (fun b o v hv=>(vC.1 hv).2) (fun b o hv=>(GE.1 hv).2) Hg (by simpa using hl) (fun j q v hq hv=>(hr j (.p q) v (by simp [hq]) hv).p_inv) hs).mono fun e w' he=>?_
   obtain⟨u,rfl,g1,g2⟩:=he;obtain⟨n1,n2⟩:=Hh.ext g1;have Lq:(pE (imm h μ w) w w').le (imm h μ w'):=by
    refine⟨fun b o v hv=>?_,fun b o hv=>?_,rfl,fun _ _ h=>by cases h⟩
    ·dsimp only[pE]at hv
     split at hv
     ·exact n2.le.c _ _ _ hv
     ·rename_i hb
      exact vC.2 ⟨fun hO=>hb (pO Hh hO),hv⟩
    ·dsimp only[pE]at hv
     cases hv
   exact⟨_,_,_,μ,⟨rfl,rfl,rfl⟩,g2.evo ⟨Lq,Nat.zero_le _,fun id o m h1=>by simp at h1⟩,n1,n2,rA.refl h []⟩
def libF (gs:List (Nat × Sh))(ps:bF)(f:Nat)(asv:List AV)(h:aA):Option (AV×aA×Esc):=match nK gs f asv h with
 | some y=>some y
 | none=>match kH ps f asv h with
  | some y=>some y
  | none=>match yA h asv with
   | some (asv',h1)=>kH ps f asv' h1
   | none=>none
theorem zbn {ps:bF}(hp:∀ g s,(g,s)∈ps→PureRow P gl g s){f:Nat}{asv asv':List AV}{h h1:aA}{v:AV}{h':aA}{x:Esc}(hq:yA h asv=some (asv',h1))(H:kH ps f asv' h1=some (v,h',x)) :
 CB P gl f asv h fun v1 h2 x1=>v1=v∧h2=h'∧x1=x:=by
 intro μ w vs Hh Hg hl hr;obtain⟨q1,q2,q3⟩:=gL asv Hh hl hr hq;rcases ZO ps hp H μ w vs q1.1 (Hg.mono q1.2.1.le) q2 q3 with⟨k1,k2⟩|⟨r,w',v2,h2,x2,μ',k1,k2,k3,k4,k5,k6⟩
 ·refine .inl ⟨k1,k2.mono fun e w' he=>?_⟩
  cases e with
  | returned r=>
   obtain⟨v2,h2,x2,μ',k2,k3,k4,k5,k6⟩:=he;exact⟨v2,h2,x2,μ',k2,k3,k4,q1.2.1.trans k5,by simpa using q1.2.2.trans k6⟩
  | panicked _=>exact he
  | outgrown=>exact he
 ·exact .inr ⟨r,w',v2,h2,x2,μ',k1,k2,k3,k4,q1.2.1.trans k5,by simpa using q1.2.2.trans k6⟩
theorem libF_ok {gs:List (Nat × Sh)}{ps:bF}(hg:∀ g sh,(g,sh)∈gs→GrowRow P g sh)(hp:∀ g s,(g,s)∈ps→PureRow P gl g s){f:Nat}{asv:List AV}{h:aA}{v:AV}{h':aA}{x:Esc}(H:libF gs ps f asv h=some (v,h',x)) :
 CB P gl f asv h fun v1 h1 x1=>v1=v∧h1=h'∧x1=x:=by
 unfold libF at H;split at H
 ·rename_i y hy
  cases H;exact tV gs hg hy
 ·split at H
  ·rename_i y hy
   cases H;exact ZO ps hp hy
  ·split at H
   ·rename_i asv' h1 hq
    exact zbn hp hq H
   ·cases H
theorem z97 {X:Ctx}{f:Nat}{asv:List AV}{h h':aA}{v:AV}{x:Esc}{K:kA}(hf:X.fn f=none)(hx:X.ex2 f asv h=some (v,h',x)):gA X f asv h K=K v h' x:=by
 refine propext (gA.eq (gA.fold ?_) K);unfold nB;simp only[hf,hx];exact⟨trivial,trivial,trivial⟩
def glOf:List (Nat × PV)→Nat→Option PV
 | [],_=>none
 | (g,v)::r,n=>bif Nat.beq n g then some v else glOf r n
theorem zeH {f:Nat}(h:(match P.funcs[f]? with | some fn=>fn.body.isSome&&fn.name != "runtime.NumGoroutine" | none=>false)=true)(us:Array Value)(w:World):(callFunc f us).run P w = .ok (.enter f us) w:=by
 cases hf:P.funcs[f]? with
 | none=>rw[hf]at h;cases h
 | some fn=>
  rw[hf]at h;simp only[Bool.and_eq_true,bne_iff_ne,ne_eq]at h;cases hb:fn.body with
  | none=>rw[hb]at h;cases h.1
  | some c=>exact AN hf hb h.2 us w
theorem zeK {M:Mem}:AC (glOf []) M:=fun n v hv=>by cases hv
def sX (s cs:List UInt8):List UInt8:=(s.reverse.dropWhile (cs.contains ·)).reverse.dropWhile (cs.contains ·)
def trimS:List PV→Option AV
 | [.str s,.str cs]=>if s.length≤1000000∧cs.length≤1000∧cs.all (fun b=>decide (b.toNat<128))=true then some (.p (.str (sX s cs))) else none
 | _=>none
end Go.Am
end
section
/- The abstract machine,part C: EB calls that say true,asv contracts. -/
set_option linter.all false
namespace Go.Am
variable {P:Program} {gl:Nat→Option PV}
def uP:List PV→Option AV
 | []=>some (AB true)
 | _=>none
theorem RPV.mono' {M M':Mem}(hM:∀ b o v,M.c b o=some v→M'.c b o=some v){v:PV}{x:Value}(H:RPV M v x):RPV M' v x:=by
 induction H with
 | int k n=>exact .int k n
 | bool b=>exact .bool b
 | str s=>exact .str s
 | nilp=>exact .nilp
 | unk k n=>exact .unk k n
 | nils sh a cap=>exact .nils sh a cap
 | sl sh xs b o cap f hne hc he hm hr ih=>exact .sl sh xs b o cap f hne hc he (fun j y hy=>hM _ _ _ (hm j y hy)) ih
 | agg cs vs hl hr ih=>exact .agg cs vs hl ih
theorem AC.mono' {M M':Mem}(hc:∀ b o v,M.c b o=some v→M'.c b o=some v)(hb:∀ b o,M.b b=some o→M'.b b=some o)(H:AC gl M):AC gl M':=fun n v hv=>by
 obtain⟨h1,cs,t,x,h2,h3⟩:=H n v hv;refine⟨?_,cs,t,x,hb _ _ h2,h3⟩;cases h1 with|vp _ _ _ f hm hr=>exact .vp v n 0 f (fun j y hy=>hc _ _ _ (hm j y hy)) (fun j y hy=>(hr j y hy).mono' hc)
theorem zeL {X:Ctx}(HX:Fits P X){f:Nat}(H:gA X f [] [] fun v h x=>v=AB true∧h=[]∧x=[])(he:∀ us w,(callFunc f us).run P w = .ok (.enter f us) w):PureRow P X.gl f uP:=by
 refine⟨he,fun M w vs r us hc hb hG hl hr hs=>?_⟩
 cases vs with
 | cons a l=>cases hs
 | nil=>
  have hu:us=[]:=List.length_eq_zero_iff.1 (by simpa using hl.symm)
  subst hu;simp only[uP,Option.some.injEq]at hs;subst hs;have hno:∀b o,¬QD ([]:aA) ([]:Mu) b o:=fun b o ⟨id,n,h1,_⟩=>by simp at h1
  have hnt:∀b,¬RF ([]:Mu) b:=fun b ⟨id,n,h1⟩=>by simp at h1
  have hG':AC X.gl (imm [] [] w):=hG.mono' (fun b o v h=>vC.2 ⟨hno b o,hc b o v h⟩) (fun b o h=>GE.2 ⟨hnt b,hb b o h⟩)
  have hR:HeapRel [] [] w:=⟨rfl,fun id o m h1=>by simp at h1,fun i j b n n' h1=>by simp at h1,fun i b n h1=>by simp at h1⟩
  rcases qR HX H [] w [] hR hG' rfl (fun j y v h1=>by simp at h1) with⟨_,q⟩|⟨r,w',v,h',x,μ',q,_⟩
  ·refine q.mono fun e w' h=>?_
   cases e with
   | panicked _=>exact h.elim
   | outgrown=>exact h.elim
   | returned r=>
    obtain⟨v,h',x,μ',⟨rfl,rfl,rfl⟩,h1,h2,h3,h4⟩:=h;have hm:μ'=[]:=List.length_eq_zero_iff.1 (by simpa using h2.len)
    subst hm;have hbl:∀b o,w.heap[b]?=some o→w'.heap[b]?=some o:=fun b o h=>(GE.1 (h3.le.b b o (GE.2 ⟨hnt b,h⟩))).2
    refine⟨r,rfl,⟨?_,fun b hb=>?_,?_⟩,?_⟩
    ·rcases Nat.lt_or_ge w'.heap.size w.heap.size with q|q
     ·have:=hbl w'.heap.size _ (Array.getElem?_eq_getElem q)
      simp at this
     ·exact q
    ·rw[hbl b _ (Array.getElem?_eq_getElem hb),Array.getElem?_eq_getElem hb]
    ·have:=h3.le.z
     simpa [imm] using this
    ·have:=h1.p_bool
     rw[this];exact .p _ _ (.bool true)
  ·rw[he]at q
   cases q
end Go.Am
end
section
/- The functions together. -/
set_option linter.unusedVariables false
set_option maxRecDepth 100000
namespace Go.Am
def fns:List (Nat × AFun):=[(iK,cM),(dE,dM),(kD,bM),(ZD,FL),(jD,iJ),(aE,JL),(cE,aM),(pF,HL),(rF,UL),(sF,WL),(pG,hJ),(VH,jM),(AD,VL),(TH,KL),(CD,ZL),(AE,IL),(UC,bJ),(UH,NL),(qG,jJ),(sG,lJ),(vG,oJ),(uG,nJ),(tG,mJ),(WH,lM),(xF,fM),(bC,cJ),(jG,OL),(lG,TL),(EE,rJ),(ZA,dJ),(oG,gJ),(nG,fJ),(iG,ML),(VC,SL),(DE,iM),(qF,PL),(mG,XL),(gG,LL),(FE,tJ),(rG,kJ),(wG,qJ),(xG,kM),(kG,QL),(tF,YL),(BE,eJ),(FC,uJ),(yG,sJ),(wF,eM),(bE,RL),(uF,pJ)]
def GRL:List (Nat × Sh):=[]
def PRL:bF:=[(jK,trimS),(vF,uP)]
def GLL:List (Nat × PV):=[]
def aI:List (Nat × AFun)→Nat→Option AFun
 | [],_=>none
 | (k,F)::r,n=>bif Nat.beq k n then some F else aI r n
def X:Ctx:=⟨aI fns,glOf GLL,fG fK zD,libF GRL PRL⟩
theorem SU {p:Nat→AFun→Bool}:∀(l:List (Nat×AFun)),(l.all fun y=>p y.1 y.2)=true→∀n F,aI l n=some F→p n F=true
 | [],_,n,F,h=>by cases h
 | (k,G)::r,ha,n,F,h=>by
  simp only[List.all_cons,Bool.and_eq_true]at ha;simp only[aI]at h;cases hk:Nat.beq k n with
  | true=>
   rw[hk]at h;have:=Nat.eq_of_beq_eq_true hk;simp only[cond_true,Option.some.injEq]at h;subst this;subst h;exact ha.1
  | false=>
   rw[hk]at h;exact SU r ha.2 n F h
def fns0:List (Nat × AFun):=[(jD,iJ),(vF,z1H),(pG,hJ),(zU,z2d),(aU,z1C),(kU,z1M),(UC,bJ),(qG,jJ),(sG,lJ),(vG,oJ),(uG,nJ),(tG,mJ),(yU,z2c),(QN,z2h),(dU,z1F),(cU,z1E),(IN,z17),(oU,z1Q),(bC,cJ),(tU,z1W),(wU,z1Z),(EE,rJ),(ZA,dJ),(oG,gJ),(nG,fJ),(BU,z2g),(HU,z2p),(DU,z2k),(fU,z1I),(eU,z1G),(bU,z1D),(ZT,z18),(YT,z16),(jU,z1L),(iU,z1K),(uU,z1X),(mU,z1O),(sU,z1V),(FE,tJ),(rG,kJ),(wG,qJ),(GU,z2o),(ON,z2e),(EU,z2m),(AU,z2f),(FU,z2n),(CU,z2j),(XH,z2l),(kK,z2i),(gU,z1J),(nU,z1P),(lU,z1N),(vU,z1Y),(JN,z19),(rU,z1U),(qU,z1S),(MN,z1T),(BE,eJ),(FC,uJ),(yG,sJ),(xU,z2a),(KN,z1A),(pU,z1R),(uF,pJ),(NN,z2b),(zF,vJ),(LN,z1B),(yF,DH)]
def PRL0:bF:=[(jK,trimS)]
def X0:Ctx:=⟨aI fns0,glOf GLL,fG fK zD,libF GRL PRL0⟩
theorem zdR:X0.fn zF=some vJ:=by kernel_rfl
theorem zdQ:X0.fn yF=some DH:=by kernel_rfl
theorem RQ:X.NoNext:=fun f F h=>SU (p:=fun _ F=>F.isDet||F.body.noNext) fns (by kernel_rfl) f F h
theorem ze4:X.fn iK=some cM:=by kernel_rfl
theorem z3C {u0 v0:AV}{h h1:aA}{P:kA}(hp:yA h [u0]=some ([v0],h1)):gA X iK [u0] h P=jN (gA X) X.gl v0 h1 [] (BA [.t 2] false h.length P):=by rw[RA ze4 rfl hp rfl];exact z6R
theorem ze5:X.fn dE=some dM:=by kernel_rfl
theorem z3D {u0 u1 v0 v1:AV}{h h1:aA}{P:kA}(hp:yA h [u0,u1]=some ([v0,v1],h1)):gA X dE [u0,u1] h P=kN (gA X) X.gl v0 v1 h1 [] (BA [.cell 4 (some 4)] false h.length P):=by rw[RA ze5 rfl hp rfl];exact z6S
theorem ze3:X.fn kD=some bM:=by kernel_rfl
theorem z3B {u0 u1 v0 v1:AV}{h h1:aA}{P:kA}(hp:yA h [u0,u1]=some ([v0,v1],h1)):gA X kD [u0,u1] h P=iN (gA X) X.gl v0 v1 h1 [] (BA [.t 4] false h.length P):=by rw[RA ze3 rfl hp rfl];exact z6Q
theorem zdV:X.fn ZD=some FL:=by kernel_rfl
theorem c_q05l {u0 u1 v0 v1:AV}{h h1:aA}{P:kA}(hp:yA h [u0,u1]=some ([v0,v1],h1)):gA X ZD [u0,u1] h P=DM (gA X) X.gl LG DK v0 v1 h1 [] (BA [.t 4,.t 5] false h.length P):=by rw[RA zdV rfl hp rfl];exact z5r
theorem zet:X.fn jD=some iJ:=by kernel_rfl
theorem c_q06x {u0 u1 v0 v1:AV}{h h1:aA}{P:kA}(hp:yA h [u0,u1]=some ([v0,v1],h1)):gA X jD [u0,u1] h P=KS (gA X) X.gl v0 v1 h1 [] (BA [.t 4,.t 5] false h.length P):=by rw[RA zet rfl hp rfl];exact z6y
theorem zdY:X.fn aE=some JL:=by kernel_rfl
theorem c_q05o {u0 u1 v0 v1:AV}{h h1:aA}{P:kA}(hp:yA h [u0,u1]=some ([v0,v1],h1)):gA X aE [u0,u1] h P=eS (gA X) X.gl v0 v1 h1 [] (BA [.t 4,.t 5] false h.length P):=by rw[RA zdY rfl hp rfl];exact z55
theorem ze2:X.fn cE=some aM:=by kernel_rfl
theorem z3A {u0 u1 v0 v1:AV}{h h1:aA}{P:kA}(hp:yA h [u0,u1]=some ([v0,v1],h1)):gA X cE [u0,u1] h P=TJ (gA X) X.gl v0 v1 h1 [] (BA [.t 4] false h.length P):=by rw[RA ze2 rfl hp rfl];exact z6P
theorem zdW:X.fn pF=some HL:=by kernel_rfl
theorem c_q05m {u0 u1 v0 v1:AV}{h h1:aA}{P:kA}(hp:yA h [u0,u1]=some ([v0,v1],h1)):gA X pF [u0,u1] h P=GM (gA X) X.gl MG EK v0 v1 h1 [] (BA [.t 4] false h.length P):=by rw[RA zdW rfl hp rfl];exact z5y
theorem zek:X.fn rF=some UL:=by kernel_rfl
theorem c_q06c {u0 u1 v0 v1:AV}{h h1:aA}{P:kA}(hp:yA h [u0,u1]=some ([v0,v1],h1)):gA X rF [u0,u1] h P = ∃v h' x,P v h' x∧MM (gA X) X.gl RG GK v0 v1 h1 [] (BA [.t 4] false h.length fun v1 h1 x1=>v1=v∧h1=h'∧x1=x):=by rw[sR zek rfl hp rfl];exact z7J fun v h' x=>congrArg (And (P v h' x)) z5R
theorem zem:X.fn sF=some WL:=by kernel_rfl
theorem c_q06f {u0 v0:AV}{h h1:aA}{P:kA}(hp:yA h [u0]=some ([v0],h1)):gA X sF [u0] h P=SM (gA X) X.gl TG IK v0 h1 [] (BA [.t 2] false h.length P):=by rw[RA zem rfl hp rfl];exact z6e
theorem zes:X.fn pG=some hJ:=by kernel_rfl
theorem c_q06w {u0 u1 v0 v1:AV}{h h1:aA}{P:kA}(hp:yA h [u0,u1]=some ([v0,v1],h1)):gA X pG [u0,u1] h P=WM (gA X) X.gl XG MK v0 v1 h1 [] (BA [.t 4,.t 5] false h.length P):=by rw[RA zes rfl hp rfl];exact z6v
theorem zeB:X.fn VH=some jM:=by kernel_rfl
theorem c_q0bq {u0 u1 h P}:gA X VH [u0,u1] h P=qN (gA X) X.gl dH VK u0 u1 h [] (BA [.t 4] false h.length P):=by rw[vD zeB rfl rfl];exact z7g
theorem zel:X.fn AD=some VL:=by kernel_rfl
theorem z34 {u0 v0:AV}{h h1:aA}{P:kA}(hp:yA h [u0]=some ([v0],h1)):gA X AD [u0] h P=NJ (gA X) X.gl SG HK v0 h1 [] (BA [.t 2] true h.length P):=by rw[RA zel rfl hp rfl];exact z6b
theorem zdZ:X.fn TH=some KL:=by kernel_rfl
theorem c_q05p {u0 u1 v0 v1:AV}{h h1:aA}{P:kA}(hp:yA h [u0,u1]=some ([v0,v1],h1)):gA X TH [u0,u1] h P=fS (gA X) X.gl v0 v1 h1 [] (BA [.t 3] false h.length P):=by rw[RA zdZ rfl hp rfl];exact z56
theorem ze1:X.fn CD=some ZL:=by kernel_rfl
theorem z39 {u0 u1 v0 v1:AV}{h h1:aA}{P:kA}(hp:yA h [u0,u1]=some ([v0,v1],h1)):gA X CD [u0,u1] h P=SJ (gA X) X.gl SK v0 v1 h1 [] (BA [.t 4] false h.length P):=by rw[RA ze1 rfl hp rfl];exact z6N
theorem zdX:X.fn AE=some IL:=by kernel_rfl
theorem z3v {u0 v0:AV}{h h1:aA}{P:kA}(hp:yA h [u0]=some ([v0],h1)):gA X AE [u0] h P=KH (gA X) X.gl NG nI v0 h1 [] (BA [.t 2] false h.length P):=by rw[RA zdX rfl hp rfl];exact z51
theorem zdS:X.fn UC=some bJ:=by kernel_rfl
theorem c_q05b {u0 v0:AV}{h h1:aA}{P:kA}(hp:yA h [u0]=some ([v0],h1)):gA X UC [u0] h P=QR (gA X) X.gl v0 h1 [] (BA [.t 2] false h.length P):=by rw[RA zdS rfl hp rfl];exact z5m
theorem zec:X.fn UH=some NL:=by kernel_rfl
theorem c_q064 {u0 u1 v0 v1:AV}{h h1:aA}{P:kA}(hp:yA h [u0,u1]=some ([v0,v1],h1)):gA X UH [u0,u1] h P=IM (gA X) X.gl OG FK v0 v1 h1 [] (BA [.t 4] false h.length P):=by rw[RA zec rfl hp rfl];exact z59
theorem zeu:X.fn qG=some jJ:=by kernel_rfl
theorem c_q06y {u0 u1 v0 v1:AV}{h h1:aA}{P:kA}(hp:yA h [u0,u1]=some ([v0,v1],h1)):gA X qG [u0,u1] h P=XM (gA X) X.gl YG NK v0 v1 h1 [] (BA [.t 4] false h.length P):=by rw[RA zeu rfl hp rfl];exact z6z
theorem zew:X.fn sG=some lJ:=by kernel_rfl
theorem c_q070 {u0 v0:AV}{h h1:aA}{P:kA}(hp:yA h [u0]=some ([v0],h1)):gA X sG [u0] h P=YM (gA X) X.gl ZG OK v0 h1 [] (BA [.t 2] true h.length P):=by rw[RA zew rfl hp rfl];exact z63
theorem zez:X.fn vG=some oJ:=by kernel_rfl
theorem c_q073 {u0 u1 u2 h P}:gA X vG [u0,u1,u2] h P=dN (gA X) X.gl QK RK u0 u1 u2 h [] (BA [] false h.length P):=by rw[vD zez rfl rfl];exact z6G
theorem zey:X.fn uG=some nJ:=by kernel_rfl
theorem c_q072 {u0 v0:AV}{h h1:aA}{P:kA}(hp:yA h [u0]=some ([v0],h1)):gA X uG [u0] h P=WS (gA X) X.gl v0 h1 [] (BA [.t 2] false h.length P):=by rw[RA zey rfl hp rfl];exact z6F
theorem zex:X.fn tG=some mJ:=by kernel_rfl
theorem c_q071 {u0 u1 v0 v1:AV}{h h1:aA}{P:kA}(hp:yA h [u0,u1]=some ([v0,v1],h1)):gA X tG [u0,u1] h P=aN (gA X) X.gl aH PK v0 v1 h1 [] (BA [.t 4] false h.length P):=by rw[RA zex rfl hp rfl];exact z69
theorem zeD:X.fn WH=some lM:=by kernel_rfl
theorem c_q0c6 {u0 u1 h P}:gA X WH [u0,u1] h P=sN (gA X) X.gl fH XK u0 u1 h [] (BA [.t 4] false h.length P):=by rw[vD zeD rfl rfl];exact z7n
theorem ze7:X.fn xF=some fM:=by kernel_rfl
theorem z3F {u0 h P}:gA X xF [u0] h P=OH (gA X) X.gl cH UK u0 h [] (BA [.t 2] false h.length P):=by rw[vD ze7 rfl rfl];exact z6W
theorem zdT:X.fn bC=some cJ:=by kernel_rfl
theorem z3t {u0 v0:AV}{h h1:aA}{P:kA}(hp:yA h [u0]=some ([v0],h1)):gA X bC [u0] h P=yE (gA X) X.gl KG CK v0 h1 [] (BA [.t 2] false h.length P):=by rw[RA zdT rfl hp rfl];exact z5n
theorem zee:X.fn jG=some OL:=by kernel_rfl
theorem z3y {u0 v0:AV}{h h1:aA}{P:kA}(hp:yA h [u0]=some ([v0],h1)):gA X jG [u0] h P=LH (gA X) X.gl PG qI v0 h1 [] (BA [.t 2] false h.length P):=by rw[RA zee rfl hp rfl];exact z5F
theorem zej:X.fn lG=some TL:=by kernel_rfl
theorem z33 {u0 v0:AV}{h h1:aA}{P:kA}(hp:yA h [u0]=some ([v0],h1)):gA X lG [u0] h P=MJ (gA X) X.gl QG sI v0 h1 [] (BA [.t 2] false h.length P):=by rw[RA zej rfl hp rfl];exact z5N
theorem zeA:X.fn EE=some rJ:=by kernel_rfl
theorem z3H {u0 u1 h P}:gA X EE [u0,u1] h P=pN (gA X) X.gl u0 u1 h [] (BA [.t 4] false h.length P):=by rw[vD zeA rfl rfl];exact z7f
theorem zdU:X.fn ZA=some dJ:=by kernel_rfl
theorem z3u {u0 u1 u2 v0 v1 v2:AV}{h h1:aA}{P:kA}(hp:yA h [u0,u1,u2]=some ([v0,v1,v2],h1)):gA X ZA [u0,u1,u2] h P=CM (gA X) X.gl v0 v1 v2 h1 [] (BA [.t 6] false h.length P):=by rw[RA zdU rfl hp rfl];exact z5q
theorem zer:X.fn oG=some gJ:=by kernel_rfl
theorem c_q06v {u0 v0:AV}{h h1:aA}{P:kA}(hp:yA h [u0]=some ([v0],h1)):gA X oG [u0] h P=VM (gA X) X.gl WG LK v0 h1 [] (BA [.t 2] false h.length P):=by rw[RA zer rfl hp rfl];exact z6s
theorem zeq:X.fn nG=some fJ:=by kernel_rfl
theorem c_q06u {u0 u1 v0 v1:AV}{h h1:aA}{P:kA}(hp:yA h [u0,u1]=some ([v0,v1],h1)):gA X nG [u0,u1] h P=TM (gA X) X.gl VG KK v0 v1 h1 [] (BA [.t 4] false h.length P):=by rw[RA zeq rfl hp rfl];exact z6m
theorem zeb:X.fn iG=some ML:=by kernel_rfl
theorem z3x {u0 u1 v0 v1:AV}{h h1:aA}{P:kA}(hp:yA h [u0,u1]=some ([v0,v1],h1)):gA X iG [u0,u1] h P=SB (gA X) X.gl v0 v1 h1 [] (BA [.t 4] false h.length P):=by rw[RA zeb rfl hp rfl];exact z58
theorem zei:X.fn VC=some SL:=by kernel_rfl
theorem z32 {u0 v0:AV}{h h1:aA}{P:kA}(hp:yA h [u0]=some ([v0],h1)):gA X VC [u0] h P=NH (gA X) X.gl v0 h1 [] (BA [.t 2] false h.length P):=by rw[RA zei rfl hp rfl];exact z5M
theorem ze8:X.fn DE=some iM:=by kernel_rfl
theorem z3G {u0 u1 h P}:gA X DE [u0,u1] h P=oN (gA X) X.gl u0 u1 h [] (BA [.t 4] false h.length P):=by rw[vD ze8 rfl rfl];exact z7d
theorem zef:X.fn qF=some PL:=by kernel_rfl
theorem z3z {u0 u1 v0 v1:AV}{h h1:aA}{P:kA}(hp:yA h [u0,u1]=some ([v0,v1],h1)):gA X qF [u0,u1] h P=KJ (gA X) X.gl v0 v1 h1 [] (BA [.t 3] false h.length P):=by rw[RA zef rfl hp rfl];exact z5J
theorem zen:X.fn mG=some XL:=by kernel_rfl
theorem z35 {u0 u1 u2 v0 v1 v2:AV}{h h1:aA}{P:kA}(hp:yA h [u0,u1,u2]=some ([v0,v1,v2],h1)):gA X mG [u0,u1,u2] h P=OJ (gA X) X.gl v0 v1 v2 h1 [] (BA [.t 6] false h.length P):=by rw[RA zen rfl hp rfl];exact z6h
theorem zea:X.fn gG=some LL:=by kernel_rfl
theorem z3w {u0 u1 v0 v1:AV}{h h1:aA}{P:kA}(hp:yA h [u0,u1]=some ([v0,v1],h1)):gA X gG [u0,u1] h P=HM (gA X) X.gl v0 v1 h1 [] (BA [.t 4] false h.length P):=by rw[RA zea rfl hp rfl];exact z57
theorem zeF:X.fn FE=some tJ:=by kernel_rfl
theorem z3J {u0 u1 h P}:gA X FE [u0,u1] h P=WJ (gA X) X.gl iH ZK u0 u1 h [] (BA [.t 4] false h.length P):=by rw[vD zeF rfl rfl];exact z7t
theorem zev:X.fn rG=some kJ:=by kernel_rfl
theorem c_q06z {u0 v0:AV}{h h1:aA}{P:kA}(hp:yA h [u0]=some ([v0],h1)):gA X rG [u0] h P=NS (gA X) X.gl v0 h1 [] (BA [.t 2] false h.length P):=by rw[RA zev rfl hp rfl];exact z62
theorem ze9:X.fn wG=some qJ:=by kernel_rfl
theorem c_q0bo {u0 u1 h P}:gA X wG [u0,u1] h P=kT (gA X) X.gl u0 u1 h [] (BA [.t 4] false h.length P):=by rw[vD ze9 rfl rfl];exact z7e
theorem zeC:X.fn xG=some kM:=by kernel_rfl
theorem z3I {u0 u1 h P}:gA X xG [u0,u1] h P=VJ (gA X) X.gl eH WK u0 u1 h [] (BA [.t 4] false h.length P):=by rw[vD zeC rfl rfl];exact z7k
theorem zeg:X.fn kG=some QL:=by kernel_rfl
theorem z30 {u0 u1 v0 v1:AV}{h h1:aA}{P:kA}(hp:yA h [u0,u1]=some ([v0,v1],h1)):gA X kG [u0,u1] h P=LJ (gA X) X.gl v0 v1 h1 [] (BA [.t 4] false h.length P):=by rw[RA zeg rfl hp rfl];exact z5K
theorem zeo:X.fn tF=some YL:=by kernel_rfl
theorem z36 {u0 u1 v0 v1:AV}{h h1:aA}{P:kA}(hp:yA h [u0,u1]=some ([v0,v1],h1)):gA X tF [u0,u1] h P=PJ (gA X) X.gl v0 v1 h1 [] (BA [.t 3] false h.length P):=by rw[RA zeo rfl hp rfl];exact z6i
theorem zep:X.fn BE=some eJ:=by kernel_rfl
theorem z37 {u0 v0:AV}{h h1:aA}{P:kA}(hp:yA h [u0]=some ([v0],h1)):gA X BE [u0] h P=QJ (gA X) X.gl UG JK v0 h1 [] (BA [.t 2] false h.length P):=by rw[RA zep rfl hp rfl];exact z6j
theorem zeG:X.fn FC=some uJ:=by kernel_rfl
theorem z3K {u0 u1 v0 v1:AV}{h h1:aA}{P:kA}(hp:yA h [u0,u1]=some ([v0,v1],h1)):gA X FC [u0,u1] h P=uN (gA X) X.gl v0 v1 h1 [] (BA [.t 4] false h.length P):=by rw[RA zeG rfl hp rfl];exact z7w
theorem zeE:X.fn yG=some sJ:=by kernel_rfl
theorem c_q0c8 {u0 u1 h P}:gA X yG [u0,u1] h P=tN (gA X) X.gl gH YK u0 u1 h [] (BA [.t 4] false h.length P):=by rw[vD zeE rfl rfl];exact z7q
theorem ze6:X.fn wF=some eM:=by kernel_rfl
theorem z3E {u0 u1 u2 v0 v1 v2:AV}{h h1:aA}{P:kA}(hp:yA h [u0,u1,u2]=some ([v0,v1,v2],h1)):gA X wF [u0,u1,u2] h P=UJ (gA X) X.gl bH TK v0 v1 v2 h1 [] (BA [.t 6,.t 7] false h.length P):=by rw[RA ze6 rfl hp rfl];exact z6T
theorem zeh:X.fn bE=some RL:=by kernel_rfl
theorem z31 {u0 u1 v0 v1:AV}{h h1:aA}{P:kA}(hp:yA h [u0,u1]=some ([v0,v1],h1)):gA X bE [u0,u1] h P=LM (gA X) X.gl v0 v1 h1 [] (BA [.t 4] false h.length P):=by rw[RA zeh rfl hp rfl];exact z5L
theorem ze0:X.fn uF=some pJ:=by kernel_rfl
theorem z38 {u0 u1 v0 v1:AV}{h h1:aA}{P:kA}(hp:yA h [u0,u1]=some ([v0,v1],h1)):gA X uF [u0,u1] h P=gN (gA X) X.gl v0 v1 h1 [] (BA [.t 4] false h.length P):=by rw[RA ze0 rfl hp rfl];exact z6M
attribute [go_sem] z5s z5t z5u z5v z5w z5x z8I z8J UR EM VR WR FM XR z5z z50 z8K YR ZR z5S z5T z5U z5V z5W z5X z5Y z5Z z6a z8T z8U z8V z8W qS rS sS tS OM PM uS QM
attribute [go_sem] RM z6f z6g z8Y xS yS z6w z6x z9d IS JS z7h z7i z7j z9p lT rN mT z6c z6d z8X vS wS z6O aT z52 z53 z54 yN z8L z8M aS bS dS bG z5A z5B z5C z5D z5E
attribute [go_sem] z8N z8O gS JM iS KM jS z60 z61 z9e LS MS z64 z65 z66 z67 z68 z9f z9g OS PS QS ZM RS z6H z6I z6J z6K z6L z9j z9k z9l XS YS eN ZS fN z6A z6B z6C
attribute [go_sem] z6D z6E z9h z9i SS TS US cN VS z7o z7p z9r pT qT z6X z6Y z6Z z7a z7b z7c z9n z9o fT mN gT iT nN jT z5o z5p z8H SR TR z5G z5H z5I zN z8P z8Q kS
attribute [go_sem] lS mS MH z5O z5P z5Q ZJ z8R z8S nS oS pS cG z6t z6u z9c FS GS z6n z6o z6p z6q z6r z9a z9b CS DS ES RJ UM z7u z7v z9t tT uT z7l z7m z9q nT oT
attribute [go_sem] z6k z6l z8Z zS BS z7r z7s z9s rT sT z6U z6V z9m bT eT z7z z70 z71 z72 z9u z9v vT wN xN wT
end Go.Am
end
section
/- The stream of numbers out of which the laws draw. -/
open Go
namespace Go.Am
abbrev eI (n:Int):PV:=.int .i64 n
abbrev AL (l:List Int):AV:=.p (.sl none (l.map eI))
abbrev SA (L:List Int)(a:Int):Obj:=.box [AL L,AI a]
def sE (x n:Int):Int:=if n<1 then 0 else if x.tmod n<0 then IntKind.i64.wrap (x.tmod n+n) else x.tmod n
theorem LW (x n:Int)(h:aA)(K:kA):gA X CD [AI x,AI n] h K=K (AI (sE x n)) h []:=by
 refine cB ?_;rw[z39 rfl];simp only[SJ,go_sem];unfold sE;by_cases h1:n<1
 ·simp only[h1,if_true]
 ·simp only[h1,if_false,show ¬n=0 by omega]
  split <;> rfl
theorem z2K (x n:Int)(h1:1≤n)(h2:n≤4611686018427387904):0≤sE x n∧sE x n<n:=by
 unfold sE;rw[if_neg (by omega)]
 have:=Int.tmod_lt_of_pos x (show 0<n by omega)
 have h3 : -n<x.tmod n:=by
  have:=Int.lt_tmod_of_pos x (show 0<n by omega)
  exact this
 split
 ·rw[eB _ (by omega) (by omega)];omega
 ·omega
def wC (L:List Int)(a n:Int):Int:=
 if L.length=0 then sE (IntKind.i64.wrap ((a+1)*7919)) n
 else sE (IntKind.i64.wrap (sE (L.getD (a.tmod L.length).toNat 0) 1073741824+IntKind.i64.wrap (IntKind.i64.wrap (a.tdiv L.length)*IntKind.i64.wrap (7919+a.tmod L.length)))) n
theorem QV (L:List Int)(a n:Int)(h1:1≤n)(h2:n≤4611686018427387904):0≤wC L a n∧wC L a n<n:=by
 unfold wC;split <;> exact z2K _ _ h1 h2
theorem rH {h:aA}{id:Nat}{o':Obj}(hid:id<h.length):(h.set id o')[id]?=some o':=by simp [hid]
theorem AG {h:aA}{id:Nat}{o:Obj}(hh:h[id]?=some o):id<h.length:=(List.getElem?_eq_some_iff.1 hh).1
def PC (n:Nat)(a:Int):Prop:=0≤a∧a+n<4611686018427387904
def Gen (f:Nat)(args:List AV)(L:List Int)(a a2:Int)(v:AV):Prop:=∀(h:aA) (id:Nat) (K:kA),h[id]?=some (SA L a)→gA X f (.ref id 0::args) h K=K v (h.set id (SA L a2)) []
section
variable {f:Nat} {args:List AV} {L:List Int} {a a2:Int} {v:AV} {h l:aA} {id:Nat} {K:kA}
theorem Gen.set (g:Gen f args L a a2 v)(hid:id<h.length):gA X f (.ref id 0::args) (h.set id (SA L a)) K=K v (h.set id (SA L a2)) []:=by
 rw[g _ _ _ (rH hid),List.set_set]
theorem Gen.app (g:Gen f args L a a2 v)(hid:id<h.length):gA X f (.ref id 0::args) (h.set id (SA L a)++l) K=K v (h.set id (SA L a2)++l) []:=by
 rw[g _ _ _ (by rw[rV (by simpa using hid)];exact rH hid),fX (by simpa using hid),List.set_set]
theorem Gen.hd (g:Gen f args L a a2 v):gA X f (.ref 0 0::args) (SA L a::l) K=K v (SA L a2::l) []:=by
 rw[g _ _ _ rfl];rfl
theorem Gen.of (H:∀ (h:aA) (id:Nat),id<h.length→gA X f (.ref id 0::args) (h.set id (SA L a)) fun v1 h1 x1=>v1=v∧h1=h.set id (SA L a2)∧x1=[]):Gen f args L a a2 v:=by
 intro h id K hh;have hid:=AG hh
 have:h.set id (SA L a)=h:=by
  apply List.ext_getElem?
  intro i;rw[List.getElem?_set];split
  ·rename_i e;subst e;rw[hh]
  ·rfl
 have k:=H h id hid
 rw[this]at k;exact cB k
end
def qE (f:Nat)(args:List AV)(L:List Int)(a:Int)(Q:AV→Int→Prop):Prop:=∀(h:aA) (id:Nat),h[id]?=some (SA L a)→∃v a2,Q v a2∧∀K:kA,gA X f (.ref id 0::args) h K=K v (h.set id (SA L a2)) []
section
variable {f:Nat} {args:List AV} {L:List Int} {a:Int} {Q:AV→Int→Prop}
theorem qE.set (g:qE f args L a Q){h:aA}{id:Nat}(hid:id<h.length):∃v a2,Q v a2∧∀K:kA,gA X f (.ref id 0::args) (h.set id (SA L a)) K=K v (h.set id (SA L a2)) []:=by
 obtain⟨v,a2,q,r⟩:=g _ _ (rH hid);exact⟨v,a2,q,fun K=>by rw[r,List.set_set]⟩
theorem qE.app (g:qE f args L a Q){h l:aA}{id:Nat}(hid:id<h.length):∃v a2,Q v a2∧∀K:kA,gA X f (.ref id 0::args) (h.set id (SA L a)++l) K=K v (h.set id (SA L a2)++l) []:=by
 obtain⟨v,a2,q,r⟩:=g (h.set id (SA L a)++l) id (by rw[rV (by simpa using hid)];exact rH hid)
 exact⟨v,a2,q,fun K=>by rw[r,fX (by simpa using hid),List.set_set]⟩
theorem qE.hd (g:qE f args L a Q){l:aA}:∃v a2,Q v a2∧∀K:kA,gA X f (.ref 0 0::args) (SA L a::l) K=K v (SA L a2::l) []:=g (SA L a::l) 0 rfl
theorem qE.of (H:∀ (h:aA) (id:Nat),id<h.length→gA X f (.ref id 0::args) (h.set id (SA L a)) fun v1 h1 x1=>∃ a2,Q v1 a2∧h1=h.set id (SA L a2)∧x1=[]):qE f args L a Q:=by
 intro h id hh;have hid:=AG hh
 have:h.set id (SA L a)=h:=by
  apply List.ext_getElem?
  intro i;rw[List.getElem?_set];split
  ·rename_i e;subst e;rw[hh]
  ·rfl
 have k:=H h id hid
 rw[this]at k;obtain⟨v,h',x,⟨a2,q,e1,e2⟩,r⟩:=gA.one RQ k;subst e1;subst e2
 exact⟨v,a2,q,r⟩
end
def isI:PV→Bool
 | .int .i64 _=>true
 | _=>false
def unI:PV→Int
 | .int _ n=>n
 | _=>0
set_option maxHeartbeats 400000 in
theorem VN (L:List Int)(a n:Int)(hp:PC 0 a):Gen cE [AI n] L a (a+1) (AI (wC L a n)):=by
 refine Gen.of fun h id hid=>?_
 rw[z3A rfl];obtain⟨h0,h1⟩:=hp;have w1:IntKind.i64.wrap (a+1)=a+1:=eB _ (by omega) (by omega)
 have w2:IntKind.i64.wrap (a+1-1)=a:=by rw[eB _ (by omega) (by omega)];omega
 have hs:∀o',(h.set id o')[id]?=some o':=fun o'=>rH hid
 rcases Nat.eq_zero_or_pos L.length with hl|hl
 ·simp only[TJ,go_sem,hs,LW,hl,w1]
  simp only[wC,hl,if_true]
 ·have e1:((L.length:Int)=0)=False:=by simp only[eq_iff_iff,iff_false];omega
  have e2:0≤a.tmod L.length:=Int.tmod_nonneg _ h0
  have e3:a.tmod L.length<L.length:=Int.tmod_lt_of_pos _ (by omega)
  have e4:=NV (k:=.i64) e2
  have e5:(L.map eI)[(a.tmod L.length).toNat]?=some (eI (L.getD (a.tmod L.length).toNat 0)):=by
   rw[eC eI (show(a.tmod L.length).toNat<L.length by omega)]
   simp [List.getD,show(a.tmod L.length).toNat<L.length by omega]
  simp only[TJ,go_sem,hs,LW,e1,w1,w2,e4,e5];simp only[wC,show ¬L.length=0 by omega,if_false]
section
variable {L:List Int} {a:Int} {h l:aA} {id:Nat} {K:kA}
theorem kP (hid:id<h.length)(hp:PC 0 a)(n:Int):gA X cE [.ref id 0,AI n] (h.set id (SA L a)) K=K (AI (wC L a n)) (h.set id (SA L (a+1))) []:=(VN L a n hp).set hid
theorem MW (hid:id<h.length)(hp:PC 0 a)(n:Int):gA X cE [.ref id 0,AI n] (h.set id (SA L a)++l) K=K (AI (wC L a n)) (h.set id (SA L (a+1))++l) []:=(VN L a n hp).app hid
theorem OW (hp:PC 0 a)(n:Int):gA X cE [.ref 0 0,AI n] (SA L a::l) K=K (AI (wC L a n)) (SA L (a+1)::l) []:=(VN L a n hp).hd
end
attribute [go_sem ↓] kP MW OW
attribute [go_sem] kP MW OW isI unI
end Go.Am
end
section
/- Maps,asv lists of keys with values. -/
open Go
set_option linter.all false
namespace Go.Am
section
variable {α β:Type} [DecidableEq α]
def OC (key:α→PV)(val:β→AV):Nat→List (α×β)→List ME
 | _,[]=>[]
 | n,e::r=>⟨key e.1,val e.2,n⟩::OC key val (n+1) r
def lB (key:α→PV)(val:β→AV)(l:List (α × β)):Obj:=.amap (OC key val 0 l) l.length
def zB (k:α):List (α×β)→Option Nat
 | []=>none
 | e::r=>if k=e.1 then some 0 else(zB k r).map (· + 1)
def aB (k:α):List (α×β)→Option β
 | []=>none
 | e::r=>if k=e.1 then some e.2 else aB k r
def zC (k:α)(v:β):List (α×β)→List (α×β)
 | []=>[(k,v)]
 | e::r=>if k=e.1 then(k,v)::r else e::zC k v r
def BH (key:α→PV):Prop:=∀a b,PV.eqv (key a) (key b)=some (decide (a=b))
theorem ZN:BH (fun n:Int=>PV.int .i64 n):=fun a b=>by simp [PV.eqv,PV.eq1]
theorem aO {n:Int}{k:IntKind}:UB (none,[0]) (.p (.int k n))=some (.int k n):=by simp [UB,PV.key,PV.shp,PV.sc,PV.cells,PV.kind]
variable {key:α→PV} {val:β→AV}
theorem dO (hk:BH key)(k:α):∀(l:List (α×β)) (n:Nat),tB (key k) (OC key val n l)=some (zB k l)
 | [],n=>rfl
 | e::r,n=>by
  simp only[OC,tB,hk k e.1,zB];by_cases h:k=e.1
  ·simp [h]
  ·simp [h,dO hk k r (n+1)]
theorem uK:∀ (l:List (α × β))(n i:Nat),(OC key val n l)[i]?=(l[i]?).map fun e=>⟨key e.1,val e.2,n+i⟩
 | [],n,i=>rfl
 | e::r,n,0=>rfl
 | e::r,n,i+1=>by simp only[OC,List.getElem?_cons_succ,uK r (n+1) i];rw[show n+1+i=n+(i+1) by omega]
theorem KX {k:α}:∀{l:List (α×β)} {i:Nat},zB k l=some i→i<l.length
 | [],i,h=>by cases h
 | e::r,i,h=>by
  unfold zB at h;split at h
  ·cases h;simp
  ·obtain⟨j,hj,e2⟩:=Option.map_eq_some_iff.1 h
   have:=KX hj;simp;omega
theorem xP {k:α}:∀{l:List (α×β)} {i:Nat},zB k l=some i→l[i]?=(aB k l).map fun v=>(k,v)
 | [],i,h=>by cases h
 | e::r,i,h=>by
  unfold zB at h;unfold aB;split at h
  ·rename_i hk;cases h;simp [hk]
  ·rename_i hk
   obtain⟨j,hj,e2⟩:=Option.map_eq_some_iff.1 h;subst e2;rw[if_neg hk,List.getElem?_cons_succ];exact xP hj
theorem yP {k:α}:∀{l:List (α×β)},zB k l=none→aB k l=none
 | [],h=>rfl
 | e::r,h=>by
  unfold zB at h;unfold aB;split at h
  ·cases h
  ·rename_i hk
   rw[if_neg hk];exact yP (by simpa using h)
theorem zP {k:α}:∀{l:List (α×β)} {i:Nat},zB k l=some i→(aB k l).isSome=true
 | [],i,h=>by cases h
 | e::r,i,h=>by
  unfold zB at h;unfold aB;split at h
  ·rename_i hk;simp [hk]
  ·rename_i hk
   obtain⟨j,hj,e2⟩:=Option.map_eq_some_iff.1 h;rw[if_neg hk];exact zP hj
theorem zdM {k:α}{l:List (α × β)}:(zB k l).isSome=(aB k l).isSome:=by
 generalize h:zB k l=o;cases o with
 | none=>rw[yP h];rfl
 | some i=>rw[zP h];rfl
theorem z9D {k:α}{l:List (α × β)}{n:Nat}:((zB k l).bind fun i=>(OC key val n l)[i]?).map ME.val=(aB k l).map val:=by
 cases h:zB k l with
 | none=>rw[yP h];rfl
 | some i=>
  simp only[Option.bind_some,uK,xP h];cases aB k l <;> rfl
theorem wP {k:α}{v:β}:∀{l:List (α×β)},zB k l=none→zC k v l=l++[(k,v)]
 | [],h=>rfl
 | e::r,h=>by
  unfold zB at h;unfold zC;split at h
  ·cases h
  ·rename_i hk
   rw[if_neg hk,wP (by simpa using h)];rfl
theorem wX {k:α}{v:β}:∀{l:List (α×β)} {i:Nat},zB k l=some i→zC k v l=l.set i (k,v)
 | [],i,h=>by cases h
 | e::r,i,h=>by
  unfold zB at h;unfold zC;split at h
  ·rename_i hk;cases h;simp [hk]
  ·rename_i hk
   obtain⟨j,hj,e2⟩:=Option.map_eq_some_iff.1 h;subst e2;rw[if_neg hk,wX hj];rfl
theorem HV (k:α)(v:β):∀(l:List (α×β)) (n:Nat),OC key val n (l++[(k,v)])=OC key val n l++[⟨key k,val v,n+l.length⟩]
 | [],n=>rfl
 | e::r,n=>by simp only[List.cons_append,OC,HV k v r (n+1),List.length_cons];rw[show n+1+r.length=n+(r.length+1) by omega]
theorem z9I {k:α}{v:β}{l:List (α × β)}{i n:Nat}(h:zB k l=some i):(OC key val n l).modify i (fun e=>{ e with val:=val v })=OC key val n (l.set i (k,v)):=by
 apply List.ext_getElem?
 intro j;rw[List.getElem?_modify,uK,uK,List.getElem?_set];have hi:=KX h
 have hg:=xP h
 by_cases hij:i=j
 ·subst hij
  rw[hg];simp only[if_true,hi];obtain⟨w,hw⟩:=Option.isSome_iff_exists.1 (zP h);rw[hw];rfl
 ·simp [hij]
variable {h:aA} {id:Nat} {l:List (α × β)} {kk:Sh × List Nat} {k:α}
theorem IV (hh:h[id]?=some (lB key val l)):qB h (.mp id)=some (id,OC key val 0 l,l.length):=by
 simp only[qB,hh,lB]
theorem cO (hk:BH key)(hh:h[id]?=some (lB key val l))(hq:UB kk (.p (key k))=some (key k)){ok:Bool}{z:AV} :
 yB kk ok z (.mp id) (.p (key k)) h=some (bif ok then .tup [((aB k l).map val).getD z,AV.p (.bool (aB k l).isSome)] else((aB k l).map val).getD z):=by
 simp only[yB,hq,IV hh,Option.map_some,dO hk,z9D,Option.isSome_map];rfl
theorem KV (hk:BH key)(hh:h[id]?=some (lB key val l))(hq:UB kk (.p (key k))=some (key k)){v:β}(hv:NE (val v)=true) :
 gC kk (.mp id) (.p (key k)) (val v) h=some (.und,h.set id (lB key val (zC k v l)),TB id (val v)):=by
 simp only[gC,hq,IV hh,hv,dO hk];cases hw:zB k l with
 | none=>
  simp only[lB,wP hw,HV,List.length_append,List.length_cons,List.length_nil,Nat.zero_add]
 | some i=>
  simp only[lB,wX hw,z9I hw,List.length_set]
end
end Go.Am
end
section
/- The shortest way between two states of a test access port: a search over a queue. -/
open Go
set_option linter.all false
namespace Go.Am
variable {h:aA} {K:kA}
attribute [-go_sem] yB gC AK BK
def nxtT:List (List Nat):=[[1,0],[1,2],[3,9],[4,5],[4,5],[6,8],[6,7],[4,8],[1,2],[10,0],[11,12],[11,12],[13,15],[13,14],[11,15],[1,2]]
def nxt (s t:Nat):Nat:=(nxtT.getD s []).getD t 0
theorem zae {s t:Nat}(hs:s<16)(ht:t<2):([AI 1,AI 0,AI 1,AI 2,AI 3,AI 9,AI 4,AI 5,AI 4,AI 5,AI 6,AI 8,AI 6,AI 7,AI 4,AI 8,AI 1,AI 2,AI 10,AI 0,AI 11,AI 12,AI 11,AI 12,AI 13,AI 15,AI 13,AI 14,AI 11,AI 15,AI 1,AI 2]:List AV)[s*2+t*1]?=some (AI (nxt s t)):=by
 have hs':s=0∨s=1∨s=2∨s=3∨s=4∨s=5∨s=6∨s=7∨s=8∨s=9∨s=10∨s=11∨s=12∨s=13∨s=14∨s=15:=by omega
 have ht':t=0∨t=1:=by omega
 rcases hs' with rfl|rfl|rfl|rfl|rfl|rfl|rfl|rfl|rfl|rfl|rfl|rfl|rfl|rfl|rfl|rfl <;> rcases ht' with rfl|rfl <;> rfl
theorem z8o {Y:Ctx}(hY:Y.fn yF=some DH)(s t:Nat)(hs:s<16)(ht:t<2):gA Y yF [AI s,AI t] h K=K (AI (nxt s t)) h []:=by
 refine cB ?_;rw[RA hY rfl (show yA h [AI s,AI t]=some ([AI s,AI t],h) from rfl) rfl,z7x]
 show vN _ _ _ _ _ _ (BA [.t 4] false _ _)
 have g:=zae hs ht
 simp only[vN,go_sem,hs,ht,g]
abbrev YB:=List (Int × List UInt8)
def dC (n:Int):PV:=.int .i64 n
def jC (s:List UInt8):AV:=.p (.str s)
def fF (t:Nat):List UInt8:=[UInt8.ofNat (48+t)]
def WE (at_ t:Nat)(s:YB × List Nat):YB×List Nat:=
 if(aB (nxt at_ t:Int) s.1).isSome then s else(zC (nxt at_ t:Int) ((aB (at_:Int) s.1).getD []++fF t) s.1,s.2++[nxt at_ t])
def nE (at_:Nat):Nat→YB×List Nat→YB×List Nat
 | 0,s=>s
 | t+1,s=>WE at_ t (nE at_ t s)
def popS (s:YB × List Nat):YB×List Nat:=match s.2 with
 | []=>s
 | a::r=>nE a 2 (s.1,r)
def bfs (a:Nat):Nat→YB×List Nat
 | 0=>([((a:Int),[])],[a])
 | k+1=>popS (bfs a k)
def TO (a b:Nat):List UInt8:=(aB (b:Int) (bfs a 16).1).getD []
def zG (s:YB × List Nat):Bool:=decide (s.1.length≤16)&&decide (s.2.length≤16)&&s.2.all (fun x=>decide (x<16))&&s.1.all (fun e=>decide (e.2.length≤16))
theorem gR:(List.range 16).all (fun a=>(List.range 16).all (fun k=>zG (bfs a k) && !(bfs a k).2.isEmpty)&&zG (bfs a 16)&&(bfs a 16).2.isEmpty)=true:=by kernel_rfl
theorem z2O {a k:Nat}(ha:a<16)(hk:k<16):zG (bfs a k)=true∧(bfs a k).2≠[]:=by
 have h1:=List.all_eq_true.1 gR a (List.mem_range.2 ha)
 simp only[Bool.and_eq_true]at h1;have h2:=List.all_eq_true.1 h1.1.1 k (List.mem_range.2 hk)
 simp only[Bool.and_eq_true,Bool.not_eq_true',List.isEmpty_eq_false_iff]at h2;exact h2
theorem z2N {a:Nat}(ha:a<16):zG (bfs a 16)=true∧(bfs a 16).2=[]:=by
 have h1:=List.all_eq_true.1 gR a (List.mem_range.2 ha)
 simp only[Bool.and_eq_true,List.isEmpty_iff]at h1;exact⟨h1.1.2,h1.2⟩
theorem z8d {s:YB × List Nat}(hf:zG s=true):s.1.length≤16∧s.2.length≤16∧(∀x∈s.2,x<16)∧∀e∈s.1,e.2.length≤16:=by
 unfold zG at hf;simp only[Bool.and_eq_true,decide_eq_true_eq,List.all_eq_true]at hf;exact⟨hf.1.1.1,hf.1.1.2,hf.1.2,hf.2⟩
theorem CV {hp:aA}{id:Nat}{m:YB}{b:Int}(hh:hp[id]?=some (lB dC jC m)):yB (none,[0]) false (.p (.str [])) (.mp id) (AI b) hp=some (.p (.str ((aB b m).getD []))):=by
 have:=cO (key:=dC) (val:=jC) (fun a b=>ZN a b) hh (kk:=(none,[0])) (k:=b) aO (ok:=false) (z:=.p (.str []))
 rw[cond_false]at this;refine this.trans ?_;cases aB b m <;> rfl
theorem lookQ {hp:aA}{id:Nat}{m:YB}{b:Int}(hh:hp[id]?=some (lB dC jC m)):yB (none,[0]) true (.p (.str [])) (.mp id) (AI b) hp=some (.tup [.p (.str ((aB b m).getD [])),AB (aB b m).isSome]):=by
 have:=cO (key:=dC) (val:=jC) (fun a b=>ZN a b) hh (kk:=(none,[0])) (k:=b) aO (ok:=true) (z:=.p (.str []))
 rw[cond_true]at this;refine this.trans ?_;cases aB b m <;> rfl
theorem updP {hp:aA}{id:Nat}{m:YB}{b:Int}{v:List UInt8}(hh:hp[id]?=some (lB dC jC m)):gC (none,[0]) (.mp id) (AI b) (.p (.str v)) hp=some (.und,hp.set id (lB dC jC (zC b v m)),[]):=
 KV (key:=dC) (val:=jC) (fun a b=>ZN a b) hh (kk:=(none,[0])) (k:=b) aO (v:=v) rfl
structure Que (R:aA) (i:Nat) (xs:List Nat) (off:Nat) (q:List Nat):Prop where
 get:R[i]?=some (.row none (xs.map fun n:Nat=>eI n) 0)
 le:off≤xs.length
 eq:xs.drop off=q
theorem zad {hp:aA}{id:Nat}{xs:List Nat}{off:Nat}{n:Int}{k:AV→aA→Esc→Prop}(hh:hp[id]?=some (.row none (xs.map fun n:Nat=>eI n) 0))(ho:off≤xs.length)(hm:xs.length≤1000000)
 (k1:k (.own id (xs.length+1) off (xs.length-off+1)) (hp.set id (.row none (xs.map (fun n:Nat=>eI n)++[eI n]) 0)) [])
 (k2:k (.own hp.length (xs.length-off+1) 0 (xs.length-off+1)) (hp++[.row none ((xs.drop off).map (fun n:Nat=>eI n)++[eI n]) 0]) []) :
 nqK (some none) [.own id xs.length off (xs.length-off),.p (.sl none [eI n])] hp k:=by
 have hx:xs.length-off+1≤oB:=by unfold oB;omega
 have hr:rds hp (.p (.sl none [eI n]))=some (none,[eI n]):=rfl
 have hw:win (xs.map fun n:Nat=>eI n) off (xs.length-off)=(xs.drop off).map fun n:Nat=>eI n:=by
  unfold win;rw[←List.map_drop];exact List.take_of_length_le (by simp)
 unfold nqK mF appq;simp only[hr,if_true,hh,List.length_map,List.length_cons,List.length_nil,Nat.zero_add];rw[if_pos ⟨trivial,trivial,by omega,hx,Nat.zero_le _⟩,hw]
 refine⟨by simp,fun y hy=>?_⟩
 simp only[List.mem_cons,List.not_mem_nil,or_false]at hy;rcases hy with rfl|rfl
 ·exact k1
 ·exact k2
theorem GV {α β:Type}[DecidableEq α]{k:α}{v:β}:∀{l:List (α×β)} {e:α×β},e∈zC k v l→e∈l∨e=(k,v)
 | [],e,h=>by simp [zC]at h;exact .inr h
 | x::r,e,h=>by
  unfold zC at h;split at h
  ·rcases List.mem_cons.1 h with h|h
   ·exact .inr h
   ·exact .inl (List.mem_cons_of_mem _ h)
  ·rcases List.mem_cons.1 h with h|h
   ·exact .inl (h ▸ List.mem_cons_self)
   ·rcases GV h with h|h
    ·exact .inl (List.mem_cons_of_mem _ h)
    ·exact .inr h
theorem qV {α β:Type}[DecidableEq α]{k:α}{v:β}:∀{l:List (α×β)},aB k l=some v→(k,v)∈l
 | [],h=>by cases h
 | x::r,h=>by
  unfold aB at h;split at h
  ·rename_i he;cases h;subst he;simp
  ·exact List.mem_cons_of_mem _ (qV h)
theorem JX {n:Nat}{w:YB}(hw:∀ e∈w,e.2.length≤n)(k:Int):((aB k w).getD []).length≤n:=by
 cases hg:aB k w with
 | none=>simp
 | some v=>exact hw _ (qV hg)
theorem zdG {n at_ t:Nat}{s:YB × List Nat}(hw:∀ e∈s.1,e.2.length≤n):∀e∈(WE at_ t s).1,e.2.length≤n+1:=by
 unfold WE;split
 ·intro e he;have:=hw e he;omega
 ·intro e he
  rcases GV he with h|h
  ·have:=hw e h;omega
  ·subst h
   have:=JX hw (at_:Int);simp [fF];omega
theorem xX {n at_:Nat}{s:YB × List Nat}(hw:∀ e∈s.1,e.2.length≤n):∀(t:Nat),∀e∈(nE at_ t s).1,e.2.length≤n+t
 | 0=>hw
 | t+1=>zdG (xX hw t)
set_option maxHeartbeats 1000000 in
theorem z8n {Y:Ctx}(hY1:Y.fn zF=some vJ)(hY2:Y.fn yF=some DH)(a b:Nat)(ha:a<16)(hb:b<16):gA Y zF [AI a,AI b] h K=K (.p (.str (TO a b))) h []:=by
 refine cB ?_;rw[sR hY1 rfl (show yA h [AI a,AI b]=some ([AI a,AI b],h) from rfl) rfl]
 simp only[z7y];show ∃v h' x,_∧XJ _ _ _ _ _ _ _ _ (BA [.t 4] false _ _)
 simp only[XJ];refine⟨_,_,_,⟨rfl,rfl,rfl⟩,?_⟩;have em:lB dC jC [((a:Int),([]:List UInt8))] = .amap [⟨.int .i64 a,.p (.str []),0⟩] 1:=rfl
 have u0:=fun(hp:aA) (hh:hp[h.length]?=some (lB dC jC []))=>updP (b:=(a:Int)) (v:=[]) hh
 have e0:zC (a:Int) [] ([]:YB)=[((a:Int),[])]:=rfl
 have em0:lB dC jC ([]:YB) = .amap [] 0:=rfl
 rw[e0]at u0;simp only[em0]at u0;simp only[go_sem,u0];refine kC (fun t:Nat×aA×Nat×List Nat×Nat×Option Nat=>⟨[(1,AI b),(5,.mp h.length),(6,.own (h.length+(t.2.2.1+1)) t.2.2.2.1.length t.2.2.2.2.1 (t.2.2.2.1.length-t.2.2.2.2.1))]++(match t.2.2.2.2.2 with|none=>[]|some q=>[(7,AI q),(25,AI 2),(26,AB false)]),h++lB dC jC (bfs a t.1).1::t.2.1,[]⟩)
  (fun t=>t.1≤16∧Que t.2.1 t.2.2.1 t.2.2.2.1 t.2.2.2.2.1 (bfs a t.1).2∧t.2.2.2.1.length≤1+2*t.1) (fun t=>16-t.1) (0,[.row none [eI a] 0],0,[a],0,none) (by simp [bfs]) ⟨by simp,⟨rfl,by simp,rfl⟩,by simp⟩ ?_
 rintro⟨k,R,i,xs,off,oq⟩ ⟨h1,hq,h2⟩
 dsimp only at h1 hq h2 ⊢;have hqg:=hq.get
 have hle:=hq.le
 have heq:=hq.eq
 have hln:xs.length-off=(bfs a k).2.length:=by rw[←heq];simp
 by_cases hk:k<16
 ·obtain⟨hf,hne⟩:=z2O ha hk
  obtain⟨f1,f2,f3,f4⟩:=z8d hf;have hpos:0<xs.length-off:=by rw[hln];exact List.length_pos_iff.2 hne
  have hoff:off<xs.length:=by omega
  obtain⟨q0,qr,hqe⟩:∃q0 qr,(bfs a k).2=q0::qr:=by
   cases hb2:(bfs a k).2 with
   | nil=>exact absurd hb2 hne
   | cons x y=>exact⟨x,y,rfl⟩
  have hx0:xs[off]?=some q0:=by
   have:(xs.drop off)[0]?=some q0:=by rw[heq,hqe];rfl
   rwa [List.getElem?_drop,Nat.add_zero]at this
  have hdr:xs.drop (off+1)=qr:=by
   rw[←List.drop_drop,heq,hqe];rfl
  have hq0:q0<16:=f3 q0 (by rw[hqe];simp)
  have hgq:(xs.map fun n:Nat=>eI n)[off]?=some (eI q0):=by rw[List.getElem?_map,hx0];rfl
  have hpi:(0:Int)<((xs.length-off:Nat):Int):=by omega
  have hl1:1≤xs.length-off:=by omega
  have hbn:bfs a (k+1)=nE q0 2 ((bfs a k).1,qr):=by show popS _=_;unfold popS;rw[hqe]
  have e3:xs.length-off-1=xs.length-(off+1):=by omega
  have hcond:off+(xs.length-off)≤xs.length:=by omega
  have hNL:∀(e:List (Nat×AV)),AA (some [1,5,6,7,25]) e=AA (some [1,5,6,7,25]) e:=fun _=>rfl
  rcases oq with _|oq
  all_goals
  simp only[List.append_nil,List.cons_append,List.nil_append,go_sem,List.getElem?_cons_succ,hqg,hpi,hpos,hgq,hl1,hcond];all_goals
  clear u0 em em0 e0;generalize hw0:((bfs a k).1,qr)=s0 at *;have es1:(bfs a k).1=s0.1:=by rw[←hw0]
  have es2:qr=s0.2:=by rw[←hw0]
  rw[es1,e3];refine kC (fun t:Nat×aA×Nat×List Nat×Nat=>⟨[(1,AI b),(5,.mp h.length),(6,.own (h.length+(t.2.2.1+1)) t.2.2.2.1.length t.2.2.2.2 (t.2.2.2.1.length-t.2.2.2.2)),(7,AI q0),(25,AI t.1)],h++lB dC jC (nE q0 t.1 s0).1::t.2.1,[]⟩)
   (fun t=>t.1≤2∧Que t.2.1 t.2.2.1 t.2.2.2.1 t.2.2.2.2 (nE q0 t.1 s0).2∧t.2.2.2.1.length≤1+2*k+t.1) (fun t=>2-t.1) (0,R,i,xs,off+1) rfl ⟨by simp,⟨hqg,hoff,by rw[hdr,es2];rfl⟩,by simp;omega⟩ ?_
  rintro⟨j,R',i',ys,of'⟩ ⟨j1,jq,j2⟩
  dsimp only at j1 jq j2 ⊢;have jg:=jq.get
  have jle:=jq.le
  have jeq:=jq.eq
  by_cases hj:j<2
  ·have hji:(j:Int)<2:=by omega
   have qn:=fun h K=>z8o (h:=h) (K:=K) hY2 q0 j hq0 hj
   have hvis:nE q0 (j+1) s0=WE q0 j (nE q0 j s0):=rfl
   generalize hsj:nE q0 j s0=s at *;have lq:=fun(hp:aA) (hh:hp[h.length]?=some (lB dC jC s.1))=>lookQ (b:=(nxt q0 j:Int)) hh
   have lp:=fun(hp:aA) (hh:hp[h.length]?=some (lB dC jC s.1))=>CV (b:=(q0:Int)) hh
   have up:=fun(hp:aA) (v:List UInt8) (hh:hp[h.length]?=some (lB dC jC s.1))=>updP (b:=(nxt q0 j:Int)) (v:=v) hh
   have w1:IntKind.i64.wrap ((j:Int)+1)=((j+1:Nat):Int):=eB _ (by omega) (by omega)
   cases hs:(aB (nxt q0 j:Int) s.1).isSome with
   | true=>
    have hv:WE q0 j s=s:=by unfold WE;rw[if_pos hs]
    rw[hv]at hvis;simp only[go_sem,hji,↓qn,qn,lq,hs,w1];exact⟨(j+1,R',i',ys,of'),by dsimp only;rw[hvis],⟨by dsimp only;omega,by dsimp only;rw[hvis];exact jq,by dsimp only;omega⟩,by dsimp only;omega⟩
   | false=>
    have hv:WE q0 j s=(zC (nxt q0 j:Int) ((aB (q0:Int) s.1).getD []++fF j) s.1,s.2++[nxt q0 j]):=by unfold WE;rw[hs];rfl
    rw[hv]at hvis;have w2:IntKind.i64.wrap (48+(j:Int))=((48+j:Nat):Int):=eB _ (by omega) (by omega)
    have w3:IntKind.i32.wrap ((48+j:Nat):Int)=((48+j:Nat):Int):=by
     have:j=0∨j=1:=by omega
     rcases this with rfl|rfl <;> rfl
    have w4:(0:Int)≤((48+j:Nat):Int)∧((48+j:Nat):Int)<128:=by omega
    have hln2:=JX (xX (n:=16) (at_:=q0) (s:=s0) (by rw[←es1];exact f4) j) (q0:Int)
    rw[hsj]at hln2;have w5:((aB (q0:Int) s.1).getD []).length+(fF j).length≤IG:=by have:(fF j).length=1:=rfl;unfold IG;omega
    have w6:[UInt8.ofNat ((48+j:Nat):Int).toNat]=fF j:=rfl
    simp only[go_sem,hji,↓qn,qn,lq,hs,lp,up,w1,w2,w3,w4,w5,w6];have hh1:(h++lB dC jC (zC (nxt q0 j:Int) ((aB (q0:Int) s.1).getD []++fF j) s.1)::R')[h.length+(i'+1)]?=some (.row none (ys.map fun n:Nat=>eI n) 0):=by
     rw[List.getElem?_append_right (by omega)];simpa using jg
    have hi':i'<R'.length:=vA jg
    refine zad hh1 jle (by omega) ?_ ?_
    ·refine⟨(j+1,R'.set i' (.row none (ys.map (fun n:Nat=>eI n)++[eI (nxt q0 j)]) 0),i',ys++[nxt q0 j],of'),?_,⟨by dsimp only;omega,⟨?_,?_,?_⟩,?_⟩,by dsimp only;omega⟩
     ·dsimp only
      rw[hvis,List.set_append_right _ _ (by omega)]
      simp only[List.length_append,List.length_cons,List.length_nil,Nat.add_sub_cancel_left,List.set_cons_succ];rw[show ys.length+1-of'=ys.length-of'+1 by omega]
     ·dsimp only
      rw[List.getElem?_set_self hi'];simp
     ·simp;omega
     ·dsimp only
      rw[hvis,List.drop_append_of_le_length jle,jeq]
     ·simp;omega
    ·refine⟨(j+1,R'++[.row none ((ys.drop of').map (fun n:Nat=>eI n)++[eI (nxt q0 j)]) 0],R'.length,ys.drop of'++[nxt q0 j],0),?_,⟨by dsimp only;omega,⟨?_,?_,?_⟩,?_⟩,by dsimp only;omega⟩
     ·dsimp only
      rw[hvis];simp
     ·simp
     ·simp
     ·dsimp only
      rw[hvis,jeq,List.drop_zero]
     ·simp;omega
  ·have hj2:j=2:=by omega
   subst hj2;simp only[go_sem];refine⟨(k+1,R',i',ys,of',some q0),?_,⟨by dsimp only;omega,by dsimp only;rw[hbn];exact jq,by dsimp only;omega⟩,by dsimp only;omega⟩
   dsimp only;rw[hbn]
 ·have hk16:k=16:=by omega
  subst hk16;obtain⟨_,hne⟩:=z2N ha;have hz:xs.length-off=0:=by rw[hln,hne];rfl
  have lk:=fun(hp:aA) (hh:hp[h.length]?=some (lB dC jC (bfs a 16).1))=>CV (b:=(b:Int)) hh
  have hpv:(aB (b:Int) (bfs a 16).1).getD []=TO a b:=rfl
  rcases oq with _|oq <;> simp only[List.append_nil,List.cons_append,List.nil_append,go_sem,hz,lk,hpv]
end Go.Am
end
section
/- h10facts: a EB call,computed. -/
open Go
set_option linter.all false
namespace Go.Am
def orcP (f:Nat)(a:List AV):Option AV:=bif Nat.beq f zF then match a with
 | [.p (.int .i64 x),.p (.int .i64 y)]=>bif decide (0≤x)&&decide (x<16)&&decide (0≤y)&&decide (y<16) then some (.p (.str (TO x.toNat y.toNat))) else none
 | _=>none else none
theorem zaq:∀ f a v,orcP f a=some v→∀h (K:kA),K v h []→gA X0 f a h K:=by
 intro f a v hv h K hK;unfold orcP at hv;cases hf:Nat.beq f zF with
 | false=>rw[hf]at hv;cases hv
 | true=>
  have hf':=Nat.eq_of_beq_eq_true hf
  rw[hf]at hv;subst hf';simp only[cond_true]at hv;split at hv
  ·rename_i x y
   cases hc:(decide (0≤x)&&decide (x<16)&&decide (0≤y)&&decide (y<16)) with
   | false=>rw[hc]at hv;cases hv
   | true=>
    rw[hc]at hv;simp only[cond_true,Option.some.injEq]at hv;simp only[Bool.and_eq_true,decide_eq_true_eq]at hc;obtain⟨a,rfl⟩:=Int.eq_ofNat_of_zero_le hc.1.1.1;obtain⟨b,rfl⟩:=Int.eq_ofNat_of_zero_le hc.1.2;have:=z8n (h:=h) (K:=K) zdR zdQ a b (by omega) (by omega)
    rw[this];subst hv;exact hK
  ·cases hv
theorem z7N:aC X0 orcP 1000 60 vF [] []=some (AB true,[],[]):=by kernel_rfl
theorem zeJ:gA X0 vF [] [] fun v h x=>v=AB true∧h=[]∧x=[]:=(KC zaq 1000 60 z7N _).2 ⟨rfl,rfl,rfl⟩
theorem zcd {h:aA}{K:kA}:gA X vF [] h K=K (AB true) h []:=z97 (by kernel_rfl) rfl
end Go.Am
end
section
/- Plain laws of fractions in lowest terms. -/
namespace Go.Am
end Go.Am
end
section
/- Small functions of numbers and of lists of numbers. -/
open Go
namespace Go.Am
variable {h:aA} {K:kA}
theorem s_Out (n a b:Int):gA X ZA [AI n,AI a,AI b] h K=K (AB (decide (n<a)||decide (b<n))) h []:=by
 refine cB ?_;rw[z3u rfl];by_cases h1:n<a <;> simp only[CM,go_sem,h1]
theorem zar (n a b:Int):(decide (n<a)||decide (b<n)) = !(decide (a≤n)&&decide (n≤b)):=by
 rw[Bool.eq_iff_iff];simp
theorem zd9 (n:Int)(h1:0≤n)(h2:n<18446744073709551616):IntKind.u64.wrap n=n:=by
 simp [IntKind.wrap,IntKind.bits,IntKind.signed];omega
end Go.Am
end
section
/- Functions of lists. -/
open Go
namespace Go.Am
variable {h:aA} {K:kA}
def aJ (g:Nat)(caps:List AV)(p:PV→Bool)(xs:List PV)(h:aA):Prop:=∀x∈xs,∀K:kA,gA X g (.p x::caps) h K=K (AB (p x)) h []
def DF (p:PV→Bool)(xs:List PV):Int:=if xs.findIdx p<xs.length then(xs.findIdx p:Int) else -1
theorem z8z (p:PV→Bool)(xs:List PV):decide (0≤DF p xs)=xs.any p:=by
 unfold DF;rw[Bool.eq_iff_iff];by_cases h:xs.findIdx p<xs.length
 ·rw[if_pos h];simp only[decide_eq_true_eq,List.any_eq_true]
  exact⟨fun _=>⟨_,List.getElem_mem h,List.findIdx_getElem⟩,fun _=>by omega⟩
 ·rw[if_neg h];simp only[decide_eq_true_eq,List.any_eq_true]
  refine⟨fun h=>by omega,fun⟨x,hx,hp⟩=>absurd (List.findIdx_lt_length_of_exists ⟨x,hx,hp⟩) h⟩
end Go.Am
end
section
/- Plain lists: insertion sort asv Go's package slices does it on short lists;deleting;compacting. -/
namespace Go.Am
variable {α:Type}
end Go.Am
namespace Go.Am
variable {α:Type}
def TC (q:α→α→Bool)(prev:α):List α→List α
 | []=>[]
 | x::r=>bif q x prev then TC q x r else x::TC q x r
def mB (q:α→α→Bool):List α→List α
 | []=>[]
 | x::r=>x::TC q x r
theorem HR (q:α→α→Bool):∀(l:List α) (p:α),(TC q p l).length≤l.length
 | [],_=>Nat.le_refl _
 | x::r,p=>by
  unfold TC;have:=HR q r x;cases q x p with
  | true=>simp only[cond_true,List.length_cons];omega
  | false=>simp only[cond_false,List.length_cons];omega
theorem z4g (q:α→α→Bool)(l:List α):(mB q l).length≤l.length:=by
 cases l with
 | nil=>exact Nat.le_refl _
 | cons x r=>have:=HR q r x;simp only[mB,List.length_cons];omega
theorem IR (q:α→α→Bool)(z:α):∀(l:List α) (p:α),TC q p (l++[z])=TC q p l++(bif q z ((p::l).getLast (by simp)) then [] else [z])
 | [],p=>by simp only[List.nil_append,TC,List.getLast_singleton]
 | x::r,p=>by
  simp only[List.cons_append,TC,IR q z r x];have e:(p::x::r).getLast (by simp)=(x::r).getLast (by simp):=List.getLast_cons (by simp)
  rw[e];cases q x p <;> rfl
theorem JR (q:α→α→Bool)(l:List α)(k:Nat)(hk:k+1<l.length):mB q (l.take (k+1+1))=mB q (l.take (k+1))++(bif q l[k+1] l[k] then [] else [l[k+1]]):=by
 rw[List.take_succ_eq_append_getElem hk];cases l with
 | nil=>simp at hk
 | cons x r=>
  simp only[List.take_succ_cons,List.cons_append,mB,IR];have e:(x::r.take k).getLast (by simp)=(x::r)[k]:=by
   have:x::r.take k=(x::r).take (k+1):=rfl
   simp only[this];rw[List.getLast_eq_getElem];simp only[List.getElem_take];congr 1
   simp only[List.length_take,List.length_cons]at hk ⊢;omega
  rw[e]
theorem z4h {β:Type}(f:α→β){q:α→α→Bool}{q':β→β→Bool}(h:∀ a b,q' (f a) (f b)=q a b)(l:List α):mB q' (l.map f)=(mB q l).map f:=by
 have key:∀(l:List α) (p:α),TC q' (f p) (l.map f)=(TC q p l).map f:=by
  intro l;induction l with
  | nil=>intro p;rfl
  | cons x r ih=>
   intro p;simp only[List.map_cons,TC,h,ih];cases q x p <;> rfl
 cases l with
 | nil=>rfl
 | cons x r=>simp only[List.map_cons,mB,key]
end Go.Am
end
section
/- Values of a shape: loads and stores in rows. -/
open Go
namespace Go.Am
variable {h:aA} {K:kA}
theorem sH {sh:Sh}{x:PV}(hx:x.shp sh=true):IA sh 0 x=some x:=by
 cases sh with
 | none=>exact z4x hx
 | some n=>
  cases x with
  | agg cs=>
   simp only[PV.shp,Bool.and_eq_true,beq_iff_eq]at hx;simp [IA,hx.1];exact List.take_of_length_le (by omega)
  | _=>cases hx
theorem zc2 {sh:Sh}{x:PV}(hx:x.shp sh=true):x.cells.length=cA sh:=by
 cases sh with
 | none=>cases x <;> first|rfl|cases hx
 | some n=>
  cases x with
  | agg cs=>simp only[PV.shp,Bool.and_eq_true,beq_iff_eq]at hx;exact hx.1
  | _=>cases hx
theorem zc1 {sh:Sh}{x:PV}(hx:x.shp sh=true):x.cells.all PV.sc=true:=by
 cases sh with
 | none=>cases x <;> first|rfl|cases hx
 | some n=>
  cases x with
  | agg cs=>simp only[PV.shp,Bool.and_eq_true,beq_iff_eq]at hx;exact hx.2
  | _=>cases hx
theorem zc3 {sh:Sh}{x y:PV}(hx:x.shp sh=true)(hy:y.shp sh=true)(id i fz:Nat)(xs:List PV)(h1:aA):stE sh id i 0 fz sh xs x h1 (some y)=some (.und,h1.set id (.row sh (xs.set i x) fz),[]):=by
 cases sh with
 | none=>
  cases y with
  | agg cs=>cases hy
  | _=>simp only[PV.shp]at hx;simp [stE,hx]
 | some n=>
  cases y with
  | agg cs=>
   cases x with
   | agg ds=>
    simp only[PV.shp,Bool.and_eq_true,beq_iff_eq]at hx hy;simp [stE,PV.cells,splice,hx.1,hy.1,show cs.drop n=[] from List.drop_of_length_le (by omega)]
   | _=>cases hx
  | _=>cases hy
def LD (sh:Sh)(xs:List PV):Prop:=∀x∈xs,x.shp sh=true
theorem NF {sh:Sh}{xs:List PV}(hx:LD sh xs){i:Nat}(hi:i<xs.length):xs[i].shp sh=true:=hx _ (List.getElem_mem hi)
theorem pP {h:aA}{id:Nat}{o:Obj}(hh:h[id]?=some o):h.set id o=h:=by
 apply List.ext_getElem?
 intro i;rw[List.getElem?_set];split
 ·rename_i e;subst e;rw[hh];simp [AG hh]
 ·rfl
structure Shows (sh:Sh) (v:AV) (xs:List PV) (h:aA):Prop where
 len:zA v=some (AI xs.length)
 get:∀(k:Nat) (hk:k<xs.length),∃a,sA sh v (AI k) h=some a∧jA sh a h=some (.p xs[k])
theorem zc0 {sh:Sh}{xs:List PV}(hs:LD sh xs):Shows sh (.p (.sl sh xs)) xs h:=by
 refine⟨rfl,fun k hk=>⟨.vp xs[k],?_,?_⟩⟩
 ·simp [sA,OA,hk]
 ·simp only[BV,sH (NF hs hk)];rfl
theorem zcz {sh:Sh}{id off len fz:Nat}{xs:List PV}(hs:LD sh xs)(hh:h[id]?=some (.row sh xs fz))(hl:off+len≤xs.length):Shows sh (.own id xs.length off len) (win xs off len) h:=by
 have hw:(win xs off len).length=len:=by simp [win];omega
 refine⟨by rw[hw];rfl,fun k hk=>⟨.rref id xs.length (off+k) 0,?_,?_⟩⟩
 ·rw[hw]at hk
  simp [sA,OA,hh,hl,hk]
 ·have hk':off+k<xs.length:=by rw[hw]at hk;omega
  have e:(win xs off len)[k]=xs[off+k]:=by simp [win]
  rw[e];simp only[zV,hh,wV,if_true,List.getElem?_eq_getElem hk',Option.bind_some,sH (NF hs hk'),Option.map_some]
end Go.Am
end
section
/- Strings: keys,the library's functions without text. -/
open Go
set_option linter.unusedSimpArgs false
namespace Go.Am
variable {h:aA} {K:kA}
abbrev AS (s:List UInt8):AV:=.p (.str s)
theorem X_ext:X.ext=fG fK zD:=rfl
theorem zcb (a b:List UInt8):gA X zD [AS a,AS b] h K=K (AI (xA a b)) h []:=by
 have:=z7K (X:=X) (f:=zD) (asv:=[AS a,AS b]) (vs:=[.str a,.str b]) (h:=h) (h1:=h) (r:=.int .i64 (xA a b)) (K:=K) (by kernel_rfl) rfl rfl rfl ?_
 ·exact this
 ·rw[X_ext]
  unfold fG;rw[show Nat.beq zD fK=false from by kernel_rfl,show Nat.beq zD zD=true from by kernel_rfl]
  rfl
theorem qL (a b:List UInt8):gA X FC [AS a,AS b] h K=K (AI (xA a b)) h []:=by
 have key:∀(h:aA) (K:kA),gA X uF [AS a,AS b] h K=K (AI (xA a b)) h []:=by
  intro h K;refine cB ?_;rw[z38 rfl];simp only[gN,go_sem,zcb]
 refine cB ?_;rw[z3K rfl];simp only[uN,go_sem,key]
theorem zM:∀ {a b:List UInt8},xA a b=0→a=b
 | [],[],_=>rfl
 | [],_::_,h=>by simp [xA]at h
 | _::_,[],h=>by simp [xA]at h
 | x::a,y::b,h=>by
  simp only[xA]at h;split at h
  ·cases h
  ·split at h
   ·cases h
   ·rename_i h1 h2
    have:x=y:=UInt8.le_antisymm (UInt8.not_lt.1 h2) (UInt8.not_lt.1 h1)
    rw[this,zM h]
theorem AM:∀ a b,xA b a = - xA a b
 | [],[]=>rfl
 | [],_::_=>rfl
 | _::_,[]=>rfl
 | x::a,y::b=>by
  simp only[xA];by_cases h1:x<y
  ·have h2:¬y<x:=UInt8.lt_asymm h1
   simp [h1,h2]
  ·by_cases h2:y<x
   ·simp [h1,h2]
   ·simp [h1,h2,AM a b]
theorem BM:∀ {a b c:List UInt8},xA a b<0→xA b c<0→xA a c<0
 | [],[],_,h,_=>by simp [xA]at h
 | [],_::_,[],_,h=>by simp [xA]at h
 | [],_::_,_::_,_,_=>by simp [xA]
 | _::_,[],_,h,_=>by simp [xA]at h
 | _::_,_::_,[],_,h=>by simp [xA]at h
 | x::a,y::b,z::c,h1,h2=>by
  simp only[xA]at h1 h2 ⊢;by_cases hxy:x<y
  ·by_cases hyz:y<z
   ·simp [UInt8.lt_trans hxy hyz]
   ·by_cases hzy:z<y
    ·simp [hyz,hzy]at h2
    ·have:y=z:=UInt8.le_antisymm (UInt8.not_lt.1 hzy) (UInt8.not_lt.1 hyz)
     subst this;simp [hxy]
  ·by_cases hyx:y<x
   ·simp [hxy,hyx]at h1
   ·have:x=y:=UInt8.le_antisymm (UInt8.not_lt.1 hyx) (UInt8.not_lt.1 hxy)
    subst this;simp only[UInt8.lt_irrefl,if_false]at h1;by_cases hyz:x<z
    ·simp [hyz]
    ·by_cases hzy:z<x
     ·simp [hyz,hzy]at h2
     ·simp only[hyz,hzy,if_false]at h2 ⊢
      exact BM h1 h2
def JE (c:UInt8):Bool:=decide ((97:Int)≤c.toNat)&&decide ((c.toNat:Int)≤122)||decide ((48:Int)≤c.toNat)&&decide ((c.toNat:Int)≤57)||decide ((c.toNat:Int)=45)||decide ((c.toNat:Int)=95)
def cC (s:List UInt8):Bool:=match s with
 | []=>false
 | c::r=>decide (r.length<40)&&(decide ((97:Int)≤c.toNat)&&decide ((c.toNat:Int)≤122))&&(c::r).all JE
theorem jP (s:List UInt8)(hl:s.length≤1000000000):gA X bC [AS s] h K=K (AB (cC s)) h []:=by
 refine cB ?_;rw[z3t rfl];cases s with
 | nil=>simp only[yE,go_sem,cC]
 | cons c r=>
  have n0:((c::r)=[])=False:=by simp
  have e1:(((r.length+1:Nat):Int)≤40)=(r.length<40):=by simp only[eq_iff_iff];omega
  by_cases h1:(40:Int)<((r.length+1:Nat):Int)
  ·have:¬r.length<40:=by omega
   simp only[yE,go_sem,n0,h1,cC,this]
  have h1':r.length<40:=by omega
  by_cases h2:(c.toNat:Int)<97
  ·have:¬(97:Int)≤c.toNat:=by omega
   simp only[yE,go_sem,n0,h1,h2,cC,this,h1']
  have h2':(97:Int)≤c.toNat:=by omega
  by_cases h3:(122:Int)<c.toNat
  ·have:¬(c.toNat:Int)≤122:=by omega
   simp only[yE,go_sem,n0,h1,h2,h3,cC,this,h1',h2']
  have h3':(c.toNat:Int)≤122:=by omega
  have ek:cC (c::r)=(c::r).all JE:=by simp [cC,h1',h2',h3']
  rw[ek];generalize hB:(c::r).all JE=B;simp only[yE,go_sem,n0,h1,h2,h3];have hlen:(c::r).length=r.length+1:=rfl
  rw[←hlen];generalize c::r=s at *;refine kC (fun k:Nat=>⟨[(0,AS s),(23,AI s.length),(24,AI k)],h,[]⟩) (fun k=>k≤s.length∧(s.take k).all JE=true) (fun k=>s.length-k) 0 rfl ⟨by omega,rfl⟩ ?_
  rintro k ⟨hk,hp⟩
  rcases Nat.lt_or_ge k s.length with hlt|hge
  ·have hg:s[k]?=some s[k]:=List.getElem?_eq_getElem hlt
   have w2:IntKind.i64.wrap ((k:Int)+1)=((k+1:Nat):Int):=eB _ (by omega) (by omega)
   generalize hc:s[k]=c at *;have key:(decide ((97:Int)≤c.toNat)&&decide ((c.toNat:Int)≤122)||decide ((48:Int)≤c.toNat)&&decide ((c.toNat:Int)≤57)||decide ((c.toNat:Int)=45)||decide ((c.toNat:Int)=95))=JE c:=rfl
   cases hkc:JE c with
   | true=>
    rw[hkc]at key;have hn:(s.take (k+1)).all JE=true:=by rw[List.take_succ_eq_append_getElem hlt,List.all_append,hp,hc];simp [hkc]
    by_cases b1:(97:Int)≤c.toNat <;> by_cases b2:(c.toNat:Int)≤122 <;> by_cases b3:(48:Int)≤c.toNat <;> by_cases b4:(c.toNat:Int)≤57 <;> by_cases b5:(c.toNat:Int)=45 <;> by_cases b6:(c.toNat:Int)=95
    all_goals first
     | (simp only[b1,b2,b3,b4,b5,b6,decide_true,decide_false,Bool.and_self,Bool.and_true,Bool.and_false,Bool.or_self,Bool.or_true,Bool.or_false,Bool.true_or,Bool.false_or,Bool.false_and,reduceCtorEq]at key;done)
     | (exfalso;omega)
     | (simp only[go_sem,hlt,hg,w2,b1,b2,b3,b4,b5,b6];exact⟨k+1,rfl,⟨by omega,hn⟩,by omega⟩)
   | false=>
    rw[hkc]at key;have hn:s.all JE=false:=by rw[List.all_eq_false];exact⟨_,List.getElem_mem hlt,by rw[hc,hkc];simp⟩
    rw[hn]at hB;subst hB;by_cases b1:(97:Int)≤c.toNat <;> by_cases b2:(c.toNat:Int)≤122 <;> by_cases b3:(48:Int)≤c.toNat <;> by_cases b4:(c.toNat:Int)≤57 <;> by_cases b5:(c.toNat:Int)=45 <;> by_cases b6:(c.toNat:Int)=95
    all_goals first
     | (simp only[b1,b2,b3,b4,b5,b6,decide_true,decide_false,Bool.and_self,Bool.and_true,Bool.and_false,Bool.or_self,Bool.or_true,Bool.or_false,Bool.true_or,Bool.false_or,Bool.false_and,reduceCtorEq]at key;done)
     | (exfalso;omega)
     | (simp only[go_sem,hlt,hg,b1,b2,b3,b4,b5,b6])
  ·have ek:k=s.length:=by omega
   subst ek;rw[List.take_length,hB]at hp;subst hp;simp only[go_sem,Nat.lt_irrefl]
end Go.Am
end
section
/- Finding values in lists: printed by program. -/
open Go
set_option linter.unusedSimpArgs false
namespace Go.Am
attribute [-go_sem] PV.cells
variable {h:aA} {K:kA}
end Go.Am
end
section
/- Limits: what they are,what is wrong with them. -/
open Go
namespace Go.Am
variable {h:aA} {K:kA}
structure Lim where
 key:List UInt8
 lo:Int
 hi:Int
 bin:Int
def Lim.pv (x:Lim):PV:=.agg [.str x.key,eI x.lo,eI x.hi,eI x.bin]
def inB (a n b:Int):Bool:=decide (a≤n)&&decide (n≤b)
theorem pL (n a b:Int):gA X ZA [AI n,AI a,AI b] h K=K (AB (!inB a n b)) h []:=by rw[s_Out,zar];rfl
end Go.Am
end
section
/- What is wrong with limits,both ways: printed by program. -/
open Go
set_option linter.unusedSimpArgs false
namespace Go.Am
variable {h:aA} {K:kA}
end Go.Am
end
section
/- Package lot on measured values,and what the reference says of them. -/
open Go
namespace Go.Am
variable {h:aA} {K:kA}
end Go.Am
end
section
/- Records: what they are,what is wrong with them. -/
open Go
set_option linter.unusedSimpArgs false
namespace Go.Am
variable {h:aA} {K:kA}
theorem zbF {b:Nat}{P:kA}{vs:List AV}{h:aA}:QC true b P (some vs) h []=P (JA vs) (h.take (max b (JA vs).top)) []:=by
 simp [QC,JB,EB]
attribute [go_sem] zbF
structure Rec where
 unit:List UInt8
 time:Int
 site:List UInt8
 res:List Int
def Rec.pv (r:Rec):PV:=.agg [.str r.unit,eI r.time,.str r.site,.sl none (r.res.map eI)]
end Go.Am
end
section
/- What is drawn: numbers,measured values. -/
open Go
namespace Go.Am
variable {L:List Int} {a:Int}
end Go.Am
end
section
/- Strings that are drawn. -/
open Go
set_option linter.unusedSimpArgs false
namespace Go.Am
variable {L:List Int} {a:Int} {h l:aA} {id:Nat} {K:kA}
def isS:PV→Bool
 | .str _=>true
 | _=>false
def unS:PV→List UInt8
 | .str s=>s
 | _=>[]
def oD (l:List (List UInt8))(L:List Int)(a:Int):List UInt8:=l.getD (wC L a l.length).toNat []
theorem zdB {xs:List PV}(h:xs.all isS=true):xs=(xs.map unS).map PV.str:=by
 induction xs with
 | nil=>rfl
 | cons x r ih=>
  simp only[List.all_cons,Bool.and_eq_true]at h;simp only[List.map_cons];rw[←ih h.2];cases x <;> first|rfl|cases h.1
theorem WN (hp:PC 0 a)(xs:List PV)(hx:xs.all isS=true)(hl:0<xs.length)(hl2:xs.length<4611686018427387904) :
 Gen kD [.p (.sl none xs)] L a (a+1) (AS (oD (xs.map unS) L a)):=by
 refine Gen.of fun h id hid=>?_
 rw[z3B rfl];obtain⟨b1,b2⟩:=QV L a xs.length (by omega) (by omega)
 have e4:=NV (k:=.i64) b1
 have e5:xs[(wC L a xs.length).toNat]?=some (.str (oD (xs.map unS) L a)):=by
  have hm:=zdB hx
  generalize hq:xs.map unS=q at *;subst hm;simp only[List.length_map]at *;rw[eC PV.str (show(wC L a q.length).toNat<q.length by omega)]
  simp [oD,List.getD,show(wC L a q.length).toNat<q.length by omega]
 simp only[iN,go_sem,kP hid hp,e4,e5]
theorem RW (hid:id<h.length)(hp:PC 0 a){xs:List PV}(hx:xs.all isS=true)(hl:0<xs.length)(hl2:xs.length<4611686018427387904) :
 gA X kD [.ref id 0,.p (.sl none xs)] (h.set id (SA L a)) K=K (AS (oD (xs.map unS) L a)) (h.set id (SA L (a+1))) []:=(WN hp xs hx hl hl2).set hid
theorem PW (hid:id<h.length)(hp:PC 0 a){xs:List PV}(hx:xs.all isS=true)(hl:0<xs.length)(hl2:xs.length<4611686018427387904) :
 gA X kD [.ref id 0,.p (.sl none xs)] (h.set id (SA L a)++l) K=K (AS (oD (xs.map unS) L a)) (h.set id (SA L (a+1))++l) []:=(WN hp xs hx hl hl2).app hid
theorem QW (hp:PC 0 a){xs:List PV}(hx:xs.all isS=true)(hl:0<xs.length)(hl2:xs.length<4611686018427387904) :
 gA X kD [.ref 0 0,.p (.sl none xs)] (SA L a::l) K=K (AS (oD (xs.map unS) L a)) (SA L (a+1)::l) []:=(WN hp xs hx hl hl2).hd
attribute [go_sem ↓] RW PW QW
attribute [go_sem] RW PW QW isS unS
end Go.Am
end
section
/- What is drawn: strings,limits. -/
open Go
set_option linter.unusedSimpArgs false
namespace Go.Am
variable {L:List Int} {a:Int} {h l:aA} {id:Nat} {K:kA}
end Go.Am
end
section
/- Boards,plainly: what is wrong with them. -/
set_option linter.all false
namespace Go.Am
structure Cel where
 kind:Int
 pin:List UInt8
 ctl:Int
 off:Int
 deriving DecidableEq
structure Prt where
 key:List UInt8
 cells:List Cel
 deriving DecidableEq
structure Jon where
 net:List UInt8
 part:List UInt8
 pin:List UInt8
 deriving DecidableEq
structure Pul where
 net:List UInt8
 level:Int
 deriving DecidableEq
structure Brd where
 parts:List Prt
 joins:List Jon
 pulls:List Pul
 deriving DecidableEq
def Cel.pv (c:Cel):PV:=.agg [eI c.kind,.str c.pin,eI c.ctl,eI c.off]
def Prt.pv (p:Prt):PV:=.agg [.str p.key,.sl (some 4) (p.cells.map Cel.pv)]
def Jon.pv (j:Jon):PV:=.agg [.str j.net,.str j.part,.str j.pin]
def Pul.pv (p:Pul):PV:=.agg [.str p.net,eI p.level]
def Brd.pv (b:Brd):PV:=.agg [.sl (some 2) (b.parts.map Prt.pv),.sl (some 3) (b.joins.map Jon.pv),.sl (some 2) (b.pulls.map Pul.pv)]
def VB (c:Cel):Bool:=decide (c.kind=1)||decide (c.kind=2)
def rK (l:List Cel)(i:Int):Int:=((l[i.toNat]?).map Cel.kind).getD 0
def ZB (b1 b2 b3 b4 b5 b6 b7 b8 b9 bp:Bool):Int:=
 bif !b1 then 4 else bif b2 && !b3 then 5 else bif !b2 && !bp then 3
 else bif !b4 then(bif !b5 || !b9 then 3 else 0)
 else bif !b5&&(!b6 || !b7) then 8 else bif !b8||(b5 && !b9) then 1 else 0
def tE (l:List Cel)(c:Cel):Int:=
 ZB (inB 1 c.kind 4) (VB c) (cC c.pin) (decide (c.kind=2)) (decide (c.ctl = -1)) (inB 0 c.ctl (l.length-1)) (decide (rK l c.ctl=3)) (inB 0 c.off 1) (decide (c.off=0)) (decide (c.pin=[]))
def AF {α:Type}(f:α→Int):List α→Int
 | []=>0
 | x::r=>if f x≠0 then f x else AF f r
def TE (c d:Cel):Bool:=decide (d.kind=c.kind)&&decide (d.pin=c.pin)
def twC (P:Cel→Bool)(seen:List Cel):List Cel→Bool
 | []=>false
 | c::r=>if P c&&seen.any (TE c) then true else twC P (seen++[c]) r
def TD (l:List Cel):Int:=if(200:Int)<l.length then 2 else if AF (tE l) l≠0 then AF (tE l) l else if twC VB [] l then 6 else 0
def JC:Option Prt→List Prt→Int
 | _,[]=>0
 | p,x::r=>if cC x.key=false then 5 else if(match p with|some q=>decide (xA x.key q.key≤0)|none=>false)=true then 7 else if TD x.cells≠0 then TD x.cells else JC (some x) r
def gW (b:Brd)(key:List UInt8):Option Prt:=b.parts[b.parts.findIdx fun p=>decide (p.key=key)]?
def KI (b:Brd)(part pin:List UInt8):Bool:=match gW b part with
 | some p=>p.cells.any fun c=>VB c&&decide (c.pin=pin)
 | none=>false
def dI (x y:Jon):Int:=if xA x.net y.net≠0 then xA x.net y.net else if xA x.part y.part≠0 then xA x.part y.part else xA x.pin y.pin
def IE (b:Brd):Option Jon→List Jon→Int
 | _,[]=>0
 | p,x::r=>if cC x.net=false then 5 else if KI b x.part x.pin=false then 8 else if(match p with|some q=>decide (dI x q≤0)|none=>false)=true then 7 else IE b (some x) r
def lE (x y:Jon):Bool:=decide (y.part=x.part)&&decide (y.pin=x.pin)
def twJ (seen:List Jon):List Jon→Bool
 | []=>false
 | x::r=>if seen.any (lE x) then true else twJ (seen++[x]) r
def HE (b:Brd):Int:=if(1000:Int)<b.joins.length then 2 else if IE b none b.joins≠0 then IE b none b.joins else if twJ [] b.joins then 6 else 0
def eqN (x y:List UInt8):Bool:=decide (x=y)
def fC (b:Brd):List (List UInt8):=mB eqN (b.joins.map Jon.net)
def jH (nets:List (List UInt8)):Option Pul→List Pul→Int
 | _,[]=>0
 | p,x::r=>if nets.contains x.net=false then 8 else if inB 0 x.level 1=false then 1 else if(match p with|some q=>decide (xA x.net q.net≤0)|none=>false)=true then 7 else jH nets (some x) r
def pM (b:Brd):Int:=
 if(40:Int)<b.parts.length then 2 else if JC none b.parts≠0 then JC none b.parts
 else if HE b≠0 then HE b else if(100:Int)<(fC b).length then 2 else jH (fC b) none b.pulls
end Go.Am
end
section
/- A board's cells: what is wrong with one,both ways. -/
open Go
set_option linter.all false
namespace Go.Am
variable {h:aA} {K:kA}
theorem lP (c:Cel):gA X VC [.p c.pv] h K=K (AB (VB c)) h []:=by
 refine cB ?_;rw[z32 rfl];unfold VB;by_cases h1:c.kind=1
 ·simp only[NH,Cel.pv,eI,go_sem,h1]
 ·by_cases h2:c.kind=2
  ·simp only[NH,Cel.pv,eI,go_sem,h1,h2]
  ·simp only[NH,Cel.pv,eI,go_sem,h1,h2]
theorem z8G {l:List Cel}{i:Int}(h:inB 0 i (l.length-1)=true):∃(n:Nat) (d:Cel),i=n∧n<l.length∧(l.map Cel.pv)[n]?=some d.pv∧rK l i=d.kind:=by
 unfold inB at h;simp only[Bool.and_eq_true,decide_eq_true_eq]at h;have hn:i.toNat<l.length:=by omega
 refine⟨i.toNat,l[i.toNat],by omega,hn,eC Cel.pv hn,?_⟩
 unfold rK;rw[List.getElem?_eq_getElem hn];rfl
set_option maxHeartbeats 4000000 in
theorem zbX (p:Prt)(c:Cel)(hp:c.pin.length≤1000000)(hl:p.cells.length≤100000):gA X iG [.p p.pv,.p c.pv] h K=K (AI (tE p.cells c)) h []:=by
 refine cB ?_;rw[z3x rfl];unfold tE;have H1:=fun h K=>lP (h:=h) (K:=K) c
 have H2:=fun h K=>jP (h:=h) (K:=K) c.pin (by omega)
 have H3:=fun h K=>pL (h:=h) (K:=K) c.kind 1 4
 have H4:=fun h K=>pL (h:=h) (K:=K) c.ctl 0 ((p.cells.length:Int)-1)
 have H5:=fun h K=>pL (h:=h) (K:=K) c.off 0 1
 simp only[Cel.pv,eI]at H1;have w:IntKind.i64.wrap ((p.cells.length:Int)-1)=(p.cells.length:Int)-1:=eB _ (by omega) (by omega)
 have ln:(p.cells.map Cel.pv).length=p.cells.length:=List.length_map ..
 have pk2:c.kind=2→VB c=true:=fun e=>by unfold VB;simp [e]
 obtain⟨b4,k4⟩:∃b,decide (c.kind=2)=b:=⟨_,rfl⟩;obtain⟨b5,k5⟩:∃b,decide (c.ctl = -1)=b:=⟨_,rfl⟩;obtain⟨b9,k9⟩:∃b,decide (c.off=0)=b:=⟨_,rfl⟩;obtain⟨bp,kp⟩:∃b,decide (c.pin=[])=b:=⟨_,rfl⟩;obtain⟨b1,k1⟩:∃b,inB 1 c.kind 4=b:=⟨_,rfl⟩;obtain⟨b2,k2⟩:∃b,VB c=b:=⟨_,rfl⟩;obtain⟨b3,k3⟩:∃b,cC c.pin=b:=⟨_,rfl⟩;obtain⟨b8,k8⟩:∃b,inB 0 c.off 1=b:=⟨_,rfl⟩;obtain⟨b6,k6⟩:∃b,inB 0 c.ctl ((p.cells.length:Int)-1)=b:=⟨_,rfl⟩;obtain⟨b7,k7⟩:∃b,decide (rK p.cells c.ctl=3)=b:=⟨_,rfl⟩;rw[k2]at H1;rw[k3]at H2;rw[k1]at H3;rw[k6]at H4;rw[k8]at H5;have n42:b4=true→b2=true:=fun e=>by rw[←k2];exact pk2 (by rw[e]at k4;simpa using k4)
 rw[k1,k2,k3,k4,k5,k6,k7,k8,k9,kp];cases b1
 ·simp only[SB,Prt.pv,Cel.pv,eI,go_sem,↓H1,H1,↓H2,H2,↓H3,H3,↓H4,H4,↓H5,H5,k4,k5,k9,kp,w,ln,ZB]
 cases b2
 ·cases b4
  ·cases bp
   ·simp only[SB,Prt.pv,Cel.pv,eI,go_sem,↓H1,H1,↓H2,H2,↓H3,H3,↓H4,H4,↓H5,H5,k4,k5,k9,kp,w,ln,ZB]
   cases b5
   ·simp only[SB,Prt.pv,Cel.pv,eI,go_sem,↓H1,H1,↓H2,H2,↓H3,H3,↓H4,H4,↓H5,H5,k4,k5,k9,kp,w,ln,ZB]
   cases b9
   ·simp only[SB,Prt.pv,Cel.pv,eI,go_sem,↓H1,H1,↓H2,H2,↓H3,H3,↓H4,H4,↓H5,H5,k4,k5,k9,kp,w,ln,ZB]
   ·simp only[SB,Prt.pv,Cel.pv,eI,go_sem,↓H1,H1,↓H2,H2,↓H3,H3,↓H4,H4,↓H5,H5,k4,k5,k9,kp,w,ln,ZB]
  ·cases n42 rfl
 cases b3
 ·simp only[SB,Prt.pv,Cel.pv,eI,go_sem,↓H1,H1,↓H2,H2,↓H3,H3,↓H4,H4,↓H5,H5,k4,k5,k9,kp,w,ln,ZB]
 cases b4
 ·cases b5
  ·simp only[SB,Prt.pv,Cel.pv,eI,go_sem,↓H1,H1,↓H2,H2,↓H3,H3,↓H4,H4,↓H5,H5,k4,k5,k9,kp,w,ln,ZB]
  cases b9
  ·simp only[SB,Prt.pv,Cel.pv,eI,go_sem,↓H1,H1,↓H2,H2,↓H3,H3,↓H4,H4,↓H5,H5,k4,k5,k9,kp,w,ln,ZB]
  ·simp only[SB,Prt.pv,Cel.pv,eI,go_sem,↓H1,H1,↓H2,H2,↓H3,H3,↓H4,H4,↓H5,H5,k4,k5,k9,kp,w,ln,ZB]
 cases b5
 ·cases b6
  ·simp only[SB,Prt.pv,Cel.pv,eI,go_sem,↓H1,H1,↓H2,H2,↓H3,H3,↓H4,H4,↓H5,H5,k4,k5,k9,kp,w,ln,ZB]
  obtain⟨n,d,e1,e2,e3,e4⟩:=z8G k6;have c1:IA none 0 d.pv=some (eI d.kind):=rfl
  have hn:OA (.p (.int .i64 c.ctl))=some n:=by rw[e1];exact fO
  rw[e4]at k7;simp only[eI]at c1;cases b7
  ·simp only[SB,Prt.pv,Cel.pv,eI,go_sem,↓H1,H1,↓H2,H2,↓H3,H3,↓H4,H4,↓H5,H5,k4,k5,k9,kp,w,ln,hn,e2,e3,c1,k7,ZB]
  cases b8
  ·simp only[SB,Prt.pv,Cel.pv,eI,go_sem,↓H1,H1,↓H2,H2,↓H3,H3,↓H4,H4,↓H5,H5,k4,k5,k9,kp,w,ln,hn,e2,e3,c1,k7,ZB]
  ·simp only[SB,Prt.pv,Cel.pv,eI,go_sem,↓H1,H1,↓H2,H2,↓H3,H3,↓H4,H4,↓H5,H5,k4,k5,k9,kp,w,ln,hn,e2,e3,c1,k7,ZB]
 cases b8
 ·simp only[SB,Prt.pv,Cel.pv,eI,go_sem,↓H1,H1,↓H2,H2,↓H3,H3,↓H4,H4,↓H5,H5,k4,k5,k9,kp,w,ln,ZB]
 cases b9
 ·simp only[SB,Prt.pv,Cel.pv,eI,go_sem,↓H1,H1,↓H2,H2,↓H3,H3,↓H4,H4,↓H5,H5,k4,k5,k9,kp,w,ln,ZB]
 ·simp only[SB,Prt.pv,Cel.pv,eI,go_sem,↓H1,H1,↓H2,H2,↓H3,H3,↓H4,H4,↓H5,H5,k4,k5,k9,kp,w,ln,ZB]
end Go.Am
end
section
/- A board's cells: what is wrong with one: the reference. -/
open Go
set_option linter.all false
namespace Go.Am
variable {h:aA} {K:kA}
end Go.Am
end
section
/- Lists of cells,joins,parts: looked through: printed by program. -/
open Go
set_option linter.unusedSimpArgs false
namespace Go.Am
attribute [-go_sem] PV.cells splice
variable {h:aA} {K:kA}
theorem z0d {v:AV}{g:Nat}{caps:List AV}{p:PV→Bool}{xs:List PV}(hv:Shows (some 4) v xs h)(hp:aJ g caps p xs h)(hl:xs.length≤1000000000) :
 gA X xG [v,.fn g caps] h K=K (AI (DF p xs)) h []:=by
 refine cB ?_;rw[z3I];have vl:=hv.len
 simp only[VJ,go_sem,vl];refine kC (fun k:Nat=>⟨[(0,v),(1,.fn g caps),(7,AI xs.length),(8,AI k)],h,[]⟩) (fun k=>k≤xs.length∧∀x∈xs.take k,p x=false) (fun k=>xs.length-k) 0 rfl (by simp) ?_
 rintro k ⟨hk,hn⟩
 rcases Nat.lt_or_ge k xs.length with hlt|hge
 ·obtain⟨a,ha,hb⟩:=hv.get k hlt
  have w2:IntKind.i64.wrap ((k:Int)+1)=((k+1:Nat):Int):=eB _ (by omega) (by omega)
  have ht:=hp _ (List.getElem_mem hlt)
  cases hpk:p xs[k]with
  | true=>
   have hf:xs.findIdx p=k:=by
    rw[List.findIdx_eq hlt];refine⟨hpk,fun j hj=>?_⟩
    have:=hn xs[j] (by rw[List.mem_take_iff_getElem];exact⟨j,by omega,rfl⟩)
    simpa using this
   simp only[go_sem,hlt,ha,hb,ht,hpk,w2];simp only[DF,hf,hlt,if_true]
  | false=>
   simp only[go_sem,hlt,ha,hb,ht,hpk,w2];refine⟨k+1,rfl,⟨by omega,fun x hx=>?_⟩,by omega⟩
   rw[List.take_succ_eq_append_getElem hlt,List.mem_append,List.mem_singleton]at hx;rcases hx with hx|hx
   ·exact hn x hx
   ·rw[hx];exact hpk
 ·have e1:k=xs.length:=by omega
  subst e1;simp only[go_sem,Nat.lt_irrefl];rw[List.take_length]at hn;have:¬xs.findIdx p<xs.length:=by
   rw[Nat.not_lt,Nat.le_iff_lt_or_eq];right
   exact(List.findIdx_eq_length.2 (fun x hx=>by simp [hn x hx])).symm
  simp [DF,this]
theorem MP {g:Nat}{caps:List AV}{p:PV→Bool}{xs:List PV}(hp:aJ g caps p xs h)(hs:LD (some 4) xs)(hl:xs.length≤1000000000) :
 gA X DE [.p (.sl (some 4) xs),.fn g caps] h K=K (AB (xs.any p)) h []:=by
 refine cB ?_;rw[z3G];have vi:=fun K=>z0d (h:=h) (K:=K) (zc0 hs) hp hl
 simp only[oN,go_sem,vi,z8z]
end Go.Am
end
section
/- A board's cells: what is wrong with some,both ways. -/
open Go
set_option linter.all false
namespace Go.Am
variable {h:aA} {K:kA}
abbrev xL (l:List Cel):AV:=.p (.sl (some 4) (l.map Cel.pv))
def Cel.bx (c:Cel):Obj:=.box [AI c.kind,AS c.pin,AI c.ctl,AI c.off]
def Prt.bx (p:Prt):Obj:=.box [AS p.key,xL p.cells]
def VE:PV→Cel
 | .agg [.int _ a,.str b,.int _ c,.int _ d]=>⟨a,b,c,d⟩
 | _=>⟨0,[],0,0⟩
theorem tX (c:Cel):VE c.pv=c:=rfl
theorem uR {l:List Cel}:LD (some 4) (l.map Cel.pv):=fun x hx=>by obtain⟨e,_,rfl⟩:=List.mem_map.1 hx;rfl
theorem zd6 (P:Cel→Bool)(seen:List Cel)(c:Cel)(r:List Cel):twC P seen (c::r)=if(P c&&seen.any (TE c))=true then true else twC P (seen++[c]) r:=rfl
theorem zbZ (c d:Cel)(id:Nat)(hc:h[id]?=some c.bx):gA X qF [.p d.pv,.ref id 0] h K=K (AB (TE c d)) h []:=by
 refine cB ?_;rw[z3z rfl];have hl:=AG hc
 have hc2:∀t,(h++t)[id]?=some c.bx:=fun t=>by rw[List.getElem?_append_left hl];exact hc
 unfold Cel.bx at hc hc2;unfold TE;by_cases h1:d.kind=c.kind
 ·have h1p:=eq_true h1
  simp only[KJ,Cel.pv,eI,go_sem,hc,hc2,h1p]
 ·simp only[KJ,Cel.pv,eI,go_sem,hc,hc2,h1]
attribute [-go_sem] zN MH
theorem zca {K:Ex→St→Prop}(p:Prt)(hl:p.cells.length≤100000)(b:List (Nat × AV))(b1:bA b 1 = .ref h.length 0)
 (f6:twC VB [] p.cells=true→∀H,K .ret ⟨[(2,AI 6)],h++H,[]⟩) (f0:twC VB [] p.cells=false→∀H,K .ret ⟨[(2,AI 0)],h++H,[]⟩) :
 NW (gA X) X.gl qI ⟨b,h++[p.bx],[]⟩ K:=by
 rw[zN];have ln:(p.cells.map Cel.pv).length=p.cells.length:=List.length_map ..
 unfold Prt.bx;simp only[MH,b1,go_sem,ln];refine kC (fun k:Nat=>⟨[(1,.ref h.length 0),(27,xL p.cells),(28,AI p.cells.length),(29,AI k)],h++[p.bx],[]⟩) (fun k=>k≤p.cells.length∧twC VB (p.cells.take k) (p.cells.drop k)=twC VB [] p.cells) (fun k=>p.cells.length-k) 0 rfl ⟨by omega,rfl⟩ ?_
 rintro k ⟨hk,hp⟩
 unfold Prt.bx;rcases Nat.lt_or_ge k p.cells.length with hlt|hge
 ·have g:=eC Cel.pv hlt
  have c1:IA (some 4) 0 p.cells[k].pv=some p.cells[k].pv:=rfl
  have w2:IntKind.i64.wrap ((k:Int)+1)=((k+1:Nat):Int):=eB _ (by omega) (by omega)
  rw[List.drop_eq_getElem_cons hlt,zd6]at hp;have tk:p.cells.take (k+1)=p.cells.take k++[p.cells[k]]:=List.take_succ_eq_append_getElem hlt
  rw[←tk]at hp;have hw:win (p.cells.map Cel.pv) 0 k=(p.cells.take k).map Cel.pv:=by simp [win,List.map_take]
  have hkl:k≤p.cells.length:=hk
  generalize hcc:p.cells[k]=c at *;have HP:=fun h K=>lP (h:=h) (K:=K) c
  simp only[Cel.pv,eI]at HP;have tells:∀o:Obj,aJ qF [.ref (h.length+1) 0] (fun y=>TE c (VE y)) ((p.cells.take k).map Cel.pv) (h++[o,c.bx]):=fun o y hy K=>by
   obtain⟨d,_,rfl⟩:=List.mem_map.1 hy;dsimp only;rw[tX];exact zbZ c d (h.length+1) (by simp)
  have CF:=fun(o:Obj) K=>MP (h:=h++[o,c.bx]) (K:=K) (tells o) uR (by simp;omega)
  have ea:((p.cells.take k).map Cel.pv).any (fun y=>TE c (VE y))=(p.cells.take k).any (TE c):=by rw[List.any_map];rfl
  simp only[ea]at CF;unfold Cel.bx at CF;simp only[Cel.pv,eI]at g c1;cases hq:VB c with
  | false=>
   rw[hq]at hp;rw[hq]at HP;simp only[go_sem,hlt,g,c1,w2,↓HP,HP];exact⟨k+1,rfl,⟨by omega,hp⟩,by omega⟩
  | true=>
   rw[hq]at hp;rw[hq]at HP;cases ha:(p.cells.take k).any (TE c) with
   | true=>
    rw[ha]at hp CF;simp only[go_sem,hlt,g,c1,w2,↓HP,HP,ln,hkl,hw,↓CF,CF];exact f6 hp.symm _
   | false=>
    rw[ha]at hp CF;simp only[go_sem,hlt,g,c1,w2,↓HP,HP,ln,hkl,hw,↓CF,CF];exact⟨k+1,rfl,⟨by omega,hp⟩,by omega⟩
 ·have e:k=p.cells.length:=by omega
  subst e;rw[List.drop_length,List.take_length]at hp;simp only[go_sem,Nat.lt_irrefl];exact f0 hp.symm _
theorem zbY (p:Prt)(hc:∀ c∈p.cells,c.pin.length≤1000000)(hl:p.cells.length≤100000):gA X jG [.p p.pv] h K=K (AI (TD p.cells)) h []:=by
 refine cB ?_;rw[z3y rfl];have ln:(p.cells.map Cel.pv).length=p.cells.length:=List.length_map ..
 rw[TD];by_cases h2:(200:Int)<p.cells.length
 ·rw[if_pos h2]
  simp only[LH,Prt.pv,go_sem,ln,h2]
 rw[if_neg h2];simp only[LH,Prt.pv,go_sem,ln,h2];refine kC (fun k:Nat=>⟨[(1,.ref h.length 0),(13,xL p.cells),(14,AI p.cells.length),(15,AI k)],h++[p.bx],[]⟩) (fun k=>k≤p.cells.length∧AF (tE p.cells) (p.cells.drop k)=AF (tE p.cells) p.cells) (fun k=>p.cells.length-k) 0 rfl ⟨by omega,rfl⟩ ?_
 rintro k ⟨hk,hp⟩
 unfold Prt.bx;rcases Nat.lt_or_ge k p.cells.length with hlt|hge
 ·have g:=eC Cel.pv hlt
  have c1:IA (some 4) 0 p.cells[k].pv=some p.cells[k].pv:=rfl
  have w2:IntKind.i64.wrap ((k:Int)+1)=((k+1:Nat):Int):=eB _ (by omega) (by omega)
  rw[List.drop_eq_getElem_cons hlt,AF]at hp;have hcl:=hc _ (List.getElem_mem hlt)
  generalize hcc:p.cells[k]=c at *;have CE:=fun h K=>zbX (h:=h) (K:=K) p c hcl hl
  simp only[Prt.pv,Cel.pv,eI]at CE g c1;by_cases hz:tE p.cells c=0
  ·rw[if_neg (by simp [hz])]at hp
   rw[hz]at CE;simp only[go_sem,hlt,g,c1,w2,↓CE,CE];exact⟨k+1,rfl,⟨by omega,hp⟩,by omega⟩
  ·rw[if_pos hz]at hp
   rw[if_pos (by rw[←hp];exact hz),←hp]
   have e12:eA .neq (.p (.int .i64 (tE p.cells c))) (.p (.int .i64 0))=some (AB true):=by simp only[go_sem,hz]
   simp only[go_sem,hlt,g,c1,w2,↓CE,CE,↓e12]
 ·have e:k=p.cells.length:=by omega
  subst e;rw[List.drop_length]at hp;rw[if_neg (by rw[←hp];simp [AF])]
  simp only[go_sem,Nat.lt_irrefl];refine zca p hl _ rfl (fun ht H=>?_) (fun ht H=>?_)
  ·rw[ht];simp only[go_sem]
  ·rw[ht];simp only[go_sem]
end Go.Am
end
section
/- Where a part is: both ways. -/
open Go
set_option linter.all false
namespace Go.Am
variable {h:aA} {K:kA}
abbrev yH (l:List Prt):AV:=.p (.sl (some 2) (l.map Prt.pv))
def zdA:PV→List Cel
 | .sl _ l=>l.map VE
 | _=>[]
def uX:PV→Prt
 | .agg [.str a,b]=>⟨a,zdA b⟩
 | _=>⟨[],[]⟩
def eF (l:List Prt):Prop:=l.Pairwise fun p q=>xA p.key q.key<0
theorem TW (p:Prt)(key:List UInt8):gA X bE [.p p.pv,AS key] h K=K (AI (xA p.key key)) h []:=by
 refine cB ?_;rw[z31 rfl];have q:=fun h K=>qL (h:=h) (K:=K) p.key key
 simp only[LM,Prt.pv,go_sem,↓q,q]
theorem zc4 (n:Nat)(hn:n≤1000000):IntKind.i64.wrap (DG IntKind.u64 (n:Int) 1)=((n / 2:Nat):Int):=by
 have e:DG IntKind.u64 (n:Int) 1=((n / 2:Nat):Int):=by
  show Int.fdiv (n:Int) 2=_
  rw[Int.fdiv_eq_ediv_of_nonneg _ (by omega)];omega
 rw[e,eB _ (by omega) (by omega)]
theorem zbS (l:List Prt)(key:List UInt8)(hs:eF l)(hl:l.length≤100000)(hk:∀ a b:List UInt8,xA a b<0→∀ c,xA b c<0→xA a c<0) :
 ∃(i:Nat) (is:Bool),(i≤l.length)∧(∀t (ht:t<l.length),t<i→xA l[t].key key<0)∧(∀t (ht:t<l.length),i≤t→¬xA l[t].key key<0)∧(is=true↔∃ht:i<l.length,xA l[i].key key=0) ∧
  ∀(K:kA),gA X wF [yH l,AS key,.fn bE []] h K=K (.tup [AI i,AB is]) h []:=by
 obtain⟨Q,hQ⟩:∃Q:kA,Q=fun v h' x=>∃(i:Nat) (is:Bool),v = .tup [AI i,AB is]∧h'=h∧x=[]∧(i≤l.length)∧(∀t (ht:t<l.length),t<i→xA l[t].key key<0)∧(∀t (ht:t<l.length),i≤t→¬xA l[t].key key<0)∧(is=true↔∃ht:i<l.length,xA l[i].key key=0):=⟨_,rfl⟩
 have H:gA X wF [yH l,AS key,.fn bE []] h Q:=by
  rw[z3E rfl];have ln:(l.map Prt.pv).length=l.length:=List.length_map ..
  simp only[UJ,go_sem,ln];refine kC (fun t:Nat×Nat=>⟨[(0,yH l),(1,AS key),(2,.fn bE []),(8,AI l.length),(9,AI t.1),(10,AI t.2)],h,[]⟩) (fun t=>t.1≤t.2∧t.2≤l.length∧(∀k (hk:k<l.length),k<t.1→xA l[k].key key<0)∧∀k (hk:k<l.length),t.2≤k→¬xA l[k].key key<0) (fun t=>t.2-t.1) (0,l.length) rfl ⟨by omega,by omega,fun k _ h=>by omega,fun k h1 h2=>by omega⟩ ?_
  rintro⟨i,j⟩ ⟨h1,h2,h3,h4⟩
  dsimp only at h1 h2 h3 h4 ⊢;rcases Nat.lt_or_ge i j with hij|hge
  ·have w1:IntKind.i64.wrap ((i:Int)+j)=((i+j:Nat):Int):=by rw[eB _ (by omega) (by omega)];omega
   have w2:IntKind.u64.wrap ((i+j:Nat):Int)=((i+j:Nat):Int):=zd9 _ (by omega) (by omega)
   have w3:=zc4 (i+j) (by omega)
   have hm:(i+j) / 2<l.length:=by omega
   have hm1:i≤(i+j) / 2:=by omega
   have hm2:(i+j) / 2<j:=by omega
   have g:=eC Prt.pv hm
   have h3':=fun q:xA l[(i+j) / 2].key key<0=>q
   generalize hmm:(i+j) / 2=m at *;have c1:IA (some 2) 0 l[m].pv=some l[m].pv:=rfl
   have w4:IntKind.i64.wrap ((m:Int)+1)=((m+1:Nat):Int):=eB _ (by omega) (by omega)
   have F:=fun h K=>TW (h:=h) (K:=K) l[m] key
   simp only[Prt.pv]at g c1 F;by_cases hc:xA l[m].key key<0
   ·simp only[go_sem,hij,w1,w2,w3,hm,g,c1,↓F,F,hc,w4]
    refine⟨(m+1,j),rfl,⟨by dsimp only;omega,h2,fun k hk1 hk2=>?_,h4⟩,by dsimp only;omega⟩
    dsimp only at hk2;by_cases e:k=m
    ·subst e;exact hc
    ·exact hk _ _ (List.pairwise_iff_getElem.1 hs k m hk1 hm (by omega)) _ hc
   ·simp only[go_sem,hij,w1,w2,w3,hm,g,c1,↓F,F,hc]
    refine⟨(i,m),rfl,⟨by dsimp only;omega,by dsimp only;omega,h3,fun k hk1 hk2=>?_⟩,by dsimp only;omega⟩
    dsimp only at hk2;by_cases e:k=m
    ·subst e;exact hc
    ·intro q
     exact hc (hk _ _ (List.pairwise_iff_getElem.1 hs m k hm hk1 (by omega)) _ q)
  ·have e:i=j:=by omega
   subst e;rcases Nat.lt_or_ge i l.length with hlt|hge2
   ·have g:=eC Prt.pv hlt
    have c1:IA (some 2) 0 l[i].pv=some l[i].pv:=rfl
    have F:=fun h K=>TW (h:=h) (K:=K) l[i] key
    simp only[Prt.pv]at g c1 F;by_cases hz:xA l[i].key key=0
    ·simp only[go_sem,Nat.lt_irrefl,hlt,g,c1,↓F,F,hz]
     rw[hQ];exact⟨i,true,rfl,rfl,rfl,h2,h3,h4,by simp [hlt,hz]⟩
    ·simp only[go_sem,Nat.lt_irrefl,hlt,g,c1,↓F,F,hz]
     rw[hQ];exact⟨i,false,rfl,rfl,rfl,h2,h3,h4,by simp [hz]⟩
   ·have hn:¬i<l.length:=by omega
    simp only[go_sem,Nat.lt_irrefl,hn];rw[hQ];exact⟨i,false,rfl,rfl,rfl,h2,h3,h4,by simp [hn]⟩
 rw[hQ]at H;obtain⟨v,h',x,⟨i,is,rfl,rfl,rfl,q1,q2,q3,q4⟩,gK⟩:=gA.one RQ H;exact⟨i,is,q1,q2,q3,q4,gK⟩
def II (l:List Prt)(key:List UInt8):Int:=DF (fun y=>decide ((uX y).key=key)) (l.map Prt.pv)
def YA (b:Brd):Obj:=.box [yH b.parts,.p (.sl (some 3) (b.joins.map Jon.pv)),.p (.sl (some 2) (b.pulls.map Pul.pv))]
theorem GJ (a:List UInt8):xA a a=0:=by have:=AM a a;omega
theorem z8b {l:List Prt}{key:List UInt8}(hs:eF l){i:Nat}(hi:i<l.length)(he:l[i].key=key):l.findIdx (fun p=>decide (p.key=key))=i:=by
 rw[List.findIdx_eq hi];refine⟨by simp [he],fun j hj=>?_⟩
 have:=List.pairwise_iff_getElem.1 hs j i (by omega) hi hj
 rw[he]at this;simp only[decide_eq_false_iff_not];intro e;rw[e,GJ]at this;omega
theorem SO (l:List Prt)(key:List UInt8):II l key=if l.findIdx (fun p=>decide (p.key=key))<l.length then((l.findIdx fun p=>decide (p.key=key):Nat):Int) else -1:=by
 unfold II DF;have e:(l.map Prt.pv).findIdx (fun y=>decide ((uX y).key=key))=l.findIdx fun p=>decide (p.key=key):=by
  rw[List.findIdx_map];congr 1
 rw[e,List.length_map]
theorem zce (b:Brd)(key:List UInt8)(hs:eF b.parts)(hl:b.parts.length≤100000):gA X kG [.p b.pv,AS key] h K=K (AI (II b.parts key)) h []:=by
 refine cB ?_;rw[z30 rfl];obtain⟨i,is,q1,q2,q3,q4,B⟩:=zbS (h:=h++[YA b]) b.parts key hs hl fun a b h1 c h2=>BM h1 h2
 unfold YA at B;cases is with
 | true=>
  obtain⟨ht,hz⟩:=q4.1 rfl;have hf:=z8b hs ht (zM hz)
  have e:II b.parts key=i:=by rw[SO,hf,if_pos ht]
  rw[e];simp only[LJ,Brd.pv,go_sem,↓B,B]
 | false=>
  have e:II b.parts key = -1:=by
   rw[SO,if_neg];intro hlt;have hp:=List.findIdx_getElem (w:=hlt)
   simp only[decide_eq_true_eq]at hp;generalize b.parts.findIdx (fun p=>decide (p.key=key))=j at *
   by_cases hij:j<i
   ·have:=q2 j hlt hij
    rw[hp,GJ]at this;omega
   ·by_cases e:j=i
    ·subst e
     have:=q4.2 ⟨hlt,by rw[hp,GJ]⟩
     cases this
    ·have h1:=List.pairwise_iff_getElem.1 hs i j (by omega) hlt (by omega)
     rw[hp]at h1;exact q3 i (by omega) (Nat.le_refl _) h1
  rw[e];simp only[LJ,Brd.pv,go_sem,↓B,B]
theorem zcj (c:Cel)(pin:List UInt8)(id:Nat)(hk:h[id]?=some (.box [AS pin])):gA X tF [.p c.pv,.ref id 0] h K=K (AB (VB c&&decide (c.pin=pin))) h []:=by
 refine cB ?_;rw[z36 rfl];have hl:=AG hk
 have hk2:∀t,(h++t)[id]?=some (.box [AS pin]):=fun t=>by rw[List.getElem?_append_left hl];exact hk
 have HP:=fun h K=>lP (h:=h) (K:=K) c
 simp only[Cel.pv,eI]at HP;cases hq:VB c with
 | false=>
  rw[hq]at HP;simp only[PJ,Cel.pv,eI,go_sem,↓HP,HP]
 | true=>
  rw[hq]at HP;simp only[PJ,Cel.pv,eI,go_sem,↓HP,HP,hk2]
def AH (b:Brd):Prop:=b.parts.length≤100000∧∀p∈b.parts,p.cells.length≤100000∧∀c∈p.cells,c.pin.length≤1000000
theorem zci (b:Brd)(part pin:List UInt8)(hs:eF b.parts)(ho:AH b):gA X mG [.p b.pv,AS part,AS pin] h K=K (AB (KI b part pin)) h []:=by
 refine cB ?_;rw[z35 rfl];have FI:=fun h K=>zce (h:=h) (K:=K) b part hs ho.1
 have pe:=SO b.parts part
 unfold KI gW;by_cases hlt:b.parts.findIdx (fun p=>decide (p.key=part))<b.parts.length
 ·rw[if_pos hlt]at pe
  rw[pe]at FI;rw[List.getElem?_eq_getElem hlt];generalize b.parts.findIdx (fun p=>decide (p.key=part))=i at *
  have g:=eC Prt.pv hlt
  have hpo:=ho.2 _ (List.getElem_mem hlt)
  generalize b.parts[i]=p at *;have c1:IA none 1 p.pv=some (.sl (some 4) (p.cells.map Cel.pv)):=rfl
  have tells:aJ tF [.ref (h.length+1) 0] (fun y=>VB (VE y)&&decide ((VE y).pin=pin)) (p.cells.map Cel.pv) (h++[YA b,.box [AS pin]]):=fun y hy K=>by
   obtain⟨c,_,rfl⟩:=List.mem_map.1 hy;dsimp only;rw[tX];exact zcj c pin (h.length+1) (by simp)
  have CF:=fun K=>MP (h:=h++[YA b,.box [AS pin]]) (K:=K) tells uR (by simp;omega)
  have ea:(p.cells.map Cel.pv).any (fun y=>VB (VE y)&&decide ((VE y).pin=pin))=p.cells.any fun c=>VB c&&decide (c.pin=pin):=by rw[List.any_map];rfl
  rw[ea]at CF;unfold YA at CF;have n0:¬((i:Int)<0):=by omega
  have n1:(0:Int)≤(i:Int):=by omega
  simp only[Brd.pv]at FI;simp only[OJ,Brd.pv,go_sem,↓FI,FI,n1,hlt,g,c1,↓CF,CF]
 ·rw[if_neg hlt]at pe
  rw[pe]at FI;rw[List.getElem?_eq_none (by omega)]
  simp only[Brd.pv]at FI;simp only[OJ,Brd.pv,go_sem,↓FI,FI]
end Go.Am
end
section
/- Records: what is wrong with them,both ways. -/
open Go
set_option linter.unusedSimpArgs false
namespace Go.Am
variable {h:aA} {K:kA}
def orL:List Int→Int
 | []=>0
 | x::r=>if x≠0 then x else orL r
theorem zcc (l:List Int)(hl:l.length≤1000):gA X BE [AL l] h K=K (AI (orL l)) h []:=by
 refine cB ?_;rw[z37 rfl];simp only[QJ,go_sem];refine kC (fun k:Nat=>⟨[(3,AI 0),(6,AL l),(7,AI l.length),(8,AI k)],h,[]⟩) (fun k=>k≤l.length∧orL (l.drop k)=orL l) (fun k=>l.length-k) 0 rfl ⟨by omega,rfl⟩ ?_
 rintro k ⟨hk,hp⟩
 rcases Nat.lt_or_ge k l.length with hlt|hge
 ·have g2:=eC eI hlt
  have w2:IntKind.i64.wrap ((k:Int)+1)=((k+1:Nat):Int):=eB _ (by omega) (by omega)
  rw[List.drop_eq_getElem_cons hlt,orL]at hp;by_cases hz:l[k]=0
  ·rw[if_neg (by simp [hz])]at hp
   simp only[go_sem,hlt,g2,hz,w2];exact⟨k+1,rfl,⟨by omega,hp⟩,by omega⟩
  ·rw[if_pos hz]at hp
   simp only[go_sem,hlt,g2,hz];rw[hp]
 ·have ek:k=l.length:=by omega
  subst ek;rw[List.drop_length]at hp;simp only[go_sem,Nat.lt_irrefl];rw[←hp];rfl
end Go.Am
end
section
/- Lengths of numbers in bits,and comparisons of plain values. -/
open Go
namespace Go.Am
variable {h:aA} {K:kA}
set_option maxRecDepth 20000
end Go.Am
end
section
/- Lists of strings sorted,left out: printed by program. -/
open Go
set_option linter.unusedSimpArgs false
namespace Go.Am
attribute [-go_sem] PV.cells splice
variable {h:aA} {K:kA}
theorem dZ (id:Nat)(l:List PV)(hs:LD none l)(hl:l.length≤100000)(hh:h[id]?=some (.row none l 0)){q:PV→PV→Bool}(hq1:∀ x∈l,∀ y∈l,eA .eql (.p x) (.p y)=some (AB (q x y)))(hq2:∀ x∈l,∀ y∈l,eA .neq (.p x) (.p y)=some (AB (!q x y))) :
 gA X xF [.own id l.length 0 l.length] h K=K (.own id l.length 0 (mB q l).length) (h.set id (.row none (mB q l++List.replicate (l.length-(mB q l).length) (PV.str [])) 0)) []:=by
 refine cB ?_;rw[z3F];have hid:=AG hh
 have hst:∀o,(h.set id o)[id]?=some o:=fun o=>rH hid
 have hb:¬h.length≤id:=by omega
 have hb2:max h.length (id+1)=h.length:=by omega
 have hb3:id+1≤h.length:=hid
 by_cases h2:l.length<2
 ·have h2':(l.length:Int)<2:=by omega
  have e:mB q l=l:=by
   cases l with
   | nil=>rfl
   | cons x r=>
    have:r=[]:=List.length_eq_zero_iff.1 (by simp only[List.length_cons]at h2;omega)
    subst this;rfl
  simp only[OH,go_sem,h2',e,Nat.sub_self,List.replicate_zero,List.append_nil,hb,hb2,hb3];rw[pP hh]
 have h2':¬(l.length:Int)<2:=by omega
 simp only[OH,go_sem,h2'];refine kC (fun k:Nat=>⟨[(0,.own id l.length 0 l.length),(3,AI ((k+1:Nat):Int))],h,[]⟩) (fun k=>k+1≤l.length∧mB q (l.take (k+1))=l.take (k+1)) (fun k=>l.length-(k+1)) 0 rfl ⟨by omega,?_⟩ ?_
 ·cases l with
  | nil=>rfl
  | cons x r=>rfl
 rintro k ⟨hk,hc⟩
 rcases Nat.lt_or_ge (k+1) l.length with hlt|hge
 ·have hk0:k<l.length:=by omega
  have g1:l[k+1]?=some l[k+1]:=List.getElem?_eq_getElem hlt
  have g2:l[k]?=some l[k]:=List.getElem?_eq_getElem hk0
  have c1:=sH (NF hs hlt)
  have c2:=sH (NF hs hk0)
  have w1:IntKind.i64.wrap (((k+1:Nat):Int)-1)=(k:Int):=by rw[eB _ (by omega) (by omega)];omega
  have w2:IntKind.i64.wrap (((k+1:Nat):Int)+1)=((k+1+1:Nat):Int):=eB _ (by omega) (by omega)
  have hqk:=hq1 _ (List.getElem_mem hlt) _ (List.getElem_mem hk0)
  have hcs:=JR q l k hlt
  cases hqx:q l[k+1] l[k]with
  | false=>
   rw[hqx]at hcs;simp only[go_sem,hh,hlt,hk0,g1,g2,c1,c2,w1,w2,hqk,hqx];exact⟨k+1,rfl,⟨by omega,by rw[hcs,hc,cond_false,List.take_succ_eq_append_getElem hlt]⟩,by omega⟩
  | true=>
   rw[hqx,cond_true,List.append_nil,hc]at hcs;have hle:k+1≤l.length:=by omega
   simp only[go_sem,hh,hlt,hk0,hle,g1,g2,c1,c2,w1,hqk,hqx];have e0:k+1+(l.length-(k+1))=l.length:=by omega
   refine kC (fun t:List PV×Nat×Nat=>⟨[(0,.own id l.length 0 l.length),(3,AI ((t.2.1:Nat):Int)),(4,.own id l.length (k+1) (l.length-(k+1))),(5,AI ((t.2.2+1:Nat):Int))],h.set id (.row none t.1 0),[]⟩)
    (fun t=>t.1.length=l.length∧LD none t.1∧t.2.1≤k+1+t.2.2∧k+1+t.2.2<l.length∧t.1.take t.2.1=mB q (l.take (k+1+t.2.2+1))∧t.1.drop (k+1+t.2.2)=l.drop (k+1+t.2.2)) (fun t=>l.length-t.2.2)
    (l,k+1,0) (by rw[pP hh];rfl) ⟨rfl,hs,by simp,by simpa using hlt,by simpa using hcs.symm,rfl⟩ ?_
   rintro⟨row,i,j⟩ ⟨r1,r2,r3,r4,r5,r6⟩
   dsimp only at r1 r2 r3 r4 r5 r6;rcases Nat.lt_or_ge (k+1+j+1) l.length with hlt2|hge2
   ·have a1:row[k+1+j+1]?=some l[k+1+j+1]:=by
     have:=congrArg (·[1]?) r6
     simp only[List.getElem?_drop]at this;rw[this,List.getElem?_eq_getElem hlt2]
    have a2:row[k+1+j]?=some l[k+1+j]:=by
     have:=congrArg (·[0]?) r6
     simp only[List.getElem?_drop,Nat.add_zero]at this;rw[this,List.getElem?_eq_getElem r4]
    have s1:=NF hs hlt2
    have d1:=sH s1
    have d2:=sH (NF hs r4)
    have hil:i<l.length:=by omega
    have hir:i<row.length:=by omega
    have g3:row[i]?=some row[i]:=List.getElem?_eq_getElem hir
    have t1:=fun xs h1=>zc3 s1 (NF r2 hir) id i 0 xs h1
    have lx:=zc2 s1
    have sx:=zc1 s1
    simp only[cA]at lx;have v1:IntKind.i64.wrap (((j+1:Nat):Int)-1)=(j:Int):=by rw[eB _ (by omega) (by omega)];omega
    have v2:IntKind.i64.wrap (((j+1:Nat):Int)+1)=((j+1+1:Nat):Int):=eB _ (by omega) (by omega)
    have v3:IntKind.i64.wrap ((i:Int)+1)=((i+1:Nat):Int):=eB _ (by omega) (by omega)
    have p1:j+1<l.length-(k+1):=by omega
    have p2:j<l.length-(k+1):=by omega
    have p3:k+1+(j+1)=k+1+j+1:=by omega
    have p4:k+1+(l.length-(k+1))≤l.length:=by omega
    have hqj:=hq2 _ (List.getElem_mem hlt2) _ (List.getElem_mem r4)
    have hcs2:=JR q l (k+1+j) hlt2
    cases hqy:q l[k+1+j+1] l[k+1+j]with
    | true=>
     rw[hqy,cond_true,List.append_nil]at hcs2;simp only[go_sem,hst,r1,p1,p2,p3,p4,e0,a1,a2,d1,d2,v1,v2,hqj,hqy];refine⟨(row,i,j+1),rfl,⟨r1,r2,by dsimp only;omega,by dsimp only;omega,?_,?_⟩,by dsimp only;omega⟩
     ·dsimp only;rw[r5,←hcs2];rfl
     ·dsimp only;rw[show k+1+(j+1)=k+1+j+1 from rfl,←List.drop_drop,r6,List.drop_drop]
    | false=>
     rw[hqy,cond_false]at hcs2;simp only[go_sem,hst,r1,p1,p2,p3,p4,e0,a1,a2,g3,d1,d2,v1,v2,v3,hil,hqj,hqy,lx,sx,t1];refine⟨(row.set i l[k+1+j+1],i+1,j+1),rfl,⟨by simpa using r1,fun x hx=>?_,by dsimp only;omega,by dsimp only;omega,?_,?_⟩,by dsimp only;omega⟩
     ·rcases List.mem_or_eq_of_mem_set hx with hx|rfl
      ·exact r2 x hx
      ·exact s1
     ·dsimp only
      rw[show k+1+(j+1)+1=k+1+j+1+1 from rfl,hcs2,←r5,List.take_succ_eq_append_getElem (by simp;omega)]
      simp [List.take_set_of_le]
     ·dsimp only
      rw[List.drop_set_of_lt (by omega),show k+1+(j+1)=k+1+j+1 from rfl,←List.drop_drop,r6,List.drop_drop]
   ·have ej:k+1+j+1=l.length:=by omega
    rw[ej,List.take_length]at r5;have hil:i≤l.length:=by omega
    have hm:(mB q l).length=i:=by rw[←r5];simp;omega
    have p1:¬(j+1<l.length-(k+1)):=by omega
    have sp:splice row i (List.replicate (l.length-i) (PV.str []))=mB q l++List.replicate (l.length-i) (PV.str []):=by
     unfold splice;rw[r5,List.length_replicate,List.drop_of_length_le (by omega),List.append_nil]
    have rl:(mB q l++List.replicate (l.length-i) (PV.str [])).length=l.length:=by simp only[List.length_append,hm,List.length_replicate];omega
    rw[hm];generalize mB q l++List.replicate (l.length-i) (PV.str [])=row' at *;simp only[go_sem,hst,r1,rl,hil,p1,sp,show i+(l.length-i)=l.length by omega,hb,hb2,hb3]
 ·have ek:k+1=l.length:=by omega
  rw[ek,List.take_length]at hc;have hge':¬k+1<l.length:=by omega
  simp only[go_sem,hge',hc,Nat.sub_self,List.replicate_zero,List.append_nil,hb,hb2,hb3];rw[pP hh]
end Go.Am
end
section
/- Sorting records: printed by program. -/
open Go
set_option linter.unusedSimpArgs false
namespace Go.Am
attribute [-go_sem] PV.cells splice
variable {h:aA} {K:kA}
end Go.Am
end
section
/- Leaving out what is alike: printed by program. -/
open Go
set_option linter.unusedSimpArgs false
namespace Go.Am
attribute [-go_sem] PV.cells splice
variable {h:aA} {K:kA}
end Go.Am
end
section
/- What is drawn: records. -/
open Go
set_option linter.unusedSimpArgs false
namespace Go.Am
variable {L:List Int} {a:Int} {h l:aA} {id:Nat} {K:kA}
end Go.Am
end
section
/- Merging two ordered lists: by sorting and leaving out what is alike,and by looking each one up. Plain lists. -/
namespace Go.Am
variable {α:Type}
structure Ordr (c:α→α→Int):Prop where
 neg:∀a b,c b a = - c a b
 trans:∀a b d,c a b≤0→c b d≤0→c a d≤0
theorem Ordr.refl {c:α→α→Int}(o:Ordr c)(a:α):c a a=0:=by have:=o.neg a a;omega
variable {c:α→α→Int} {q:α→α→Bool} {a b:List α}
end Go.Am
end
section
/- Records alike;copies;bins. -/
open Go
set_option linter.unusedSimpArgs false
namespace Go.Am
variable {h:aA} {K:kA}
def nP (a b:Rec):Bool:=decide (a.unit=b.unit)&&(decide (a.time=b.time)&&(decide (a.site=b.site)&&decide (a.res=b.res)))
theorem zcl (a b:Rec):nP a b=true↔a=b:=by
 cases a;cases b
 simp [nP]
end Go.Am
end
section
/- Sorting numbers: printed by program. -/
open Go
set_option linter.unusedSimpArgs false
namespace Go.Am
attribute [-go_sem] PV.cells splice
variable {h:aA} {K:kA}
end Go.Am
end
section
/- Bins,both ways;lists joined;records sorted. -/
open Go
set_option linter.unusedSimpArgs false
namespace Go.Am
variable {h:aA} {K:kA}
end Go.Am
end
section
/- Lists of records joined,compared,merged. -/
open Go
set_option linter.unusedSimpArgs false
namespace Go.Am
variable {h:aA} {K:kA}
instance:DecidableEq Rec:=fun a b=>decidable_of_iff (nP a b=true) (zcl a b)
end Go.Am
end
section
/- Records merged asv the reference does it. -/
open Go
set_option linter.unusedSimpArgs false
namespace Go.Am
variable {h:aA} {K:kA}
end Go.Am
end
section
/- Retests: which record of a unit counts. Plain lists;both ways yield the same. -/
set_option linter.all false
namespace Go.Am
def ltS (a b:List UInt8):Bool:=decide (xA a b<0)
end Go.Am
end
section
/- Lists of strings. -/
open Go
set_option linter.all false
namespace Go.Am
variable {h:aA} {K:kA}
theorem lX {us:List (List UInt8)}:LD none (us.map PV.str):=fun x hx=>by obtain⟨n,_,rfl⟩:=List.mem_map.1 hx;rfl
theorem nR:∀ a b:List UInt8,Op.bytesLess a b=ltS a b
 | [],[]=>rfl
 | [],_::_=>rfl
 | _::_,[]=>rfl
 | a::x,b::y=>by
  have ih:=nR x y
  unfold ltS at ih ⊢;unfold Op.bytesLess xA;rw[ih];by_cases h1:a<b
  ·simp [h1]
  ·by_cases h2:b<a
   ·have:¬a=b:=fun e=>by subst e;exact UInt8.lt_irrefl _ h2
    simp [h1,h2,this]
   ·have:a=b:=by
     rcases UInt8.lt_or_lt_of_ne (a:=a) (b:=b) |> fun f=>Classical.em (a=b) with e|e
     ·exact e
     ·rcases UInt8.lt_or_lt_of_ne e with h|h
      ·exact absurd h h1
      ·exact absurd h h2
    simp [h1,h2,this]
end Go.Am
end
section
/- Texts sorted. -/
open Go
set_option linter.all false
namespace Go.Am
variable {h:aA} {K:kA}
end Go.Am
end
