/- Texts of the proof, laid together: CodesD, CodesE, AmC, Ctx, SpStream, MathFrac, SpBase, SpList, SpShp, SpStr, SpIdx, SpLen, SpMap, SpStrs, SpFind, SpLimD, SpLim, SpLotA, SpRecD, SpGenA, SpSome, SpGenL, SpRec, SpSortRec, SpCompact, SpGenR, PMerge, SpMrgA, SpSort, SpMrgB, SpMrgC, SpMrgD, PFin, SpTxt, AmL4, AmL5, SpSplit, SpLines, SpNum. -/
import Derived.KernelRfl
import Derived.Shelf.Strings.Repeat
import Derived.Shelf.Strings.SlTrimAscii
import Derived.Shelf.Spec.TrailingZeros
import Derived.Shelf.Strings.Count
import Derived.Shelf.Strings.OnBuilder
import Derived.Test.YtanoolccohkfmaaGreatDoorlawAF6
set_option linter.all false
section
/- The functions asv abstract code,and asv formulas over their values: printed by program out of the translation. -/
set_option linter.unusedVariables false
set_option maxRecDepth 100000
namespace Go.Am
def P_q02s : ACode:=(.seq (rg [uO 2 (.alloc [.p (.int .i64 0),.p (.int .i64 0)]),
uO 3 (.alloc [.p (.int .i64 0),.p (.int .i64 0)]),
mV 4 (cI 0)] [0,2,3])
(.seq (.seq (rg [mV 9 0,
cL 10 f_q02v [9,(cI 1)],
mV 5 10] [0,2,3,5])
(.seq (rg [mV 11 5,
bN 12 .neq 11 (cI 0)] [0,2,3,5,12])
(.cond 12 (.seq (rg [uO 13 (.build [.p (.int .i64 0),.p (.int .i64 0)] []),
uO 14 (.build [.p (.int .i64 0),.p (.int .i64 0)] []),
mV 15 5,
wO (.store (some 2) 2 13),
wO (.store (some 2) 3 14),
mV 4 15] [2,3,4])
.ret)
.skip)))
(.seq (rg [mV 17 0,
cL 18 f_q02u [17],
mV 16 18,
eX 19 16 0,
eX 20 16 1,
mV 6 19,
mV 7 20] [0,2,3,6,7])
(.seq (rg [mV 21 0,
lN 22 21,
mV 8 22] [2,3,6,7,8])
(.seq (rg [mV 23 6,
mV 24 8,
cL 25 f_q003 [23,24],
mV 26 7,
mV 27 8,
mV 28 8,
bN 29 .mul 27 28,
cL 30 f_q003 [26,29],
wO (.store (some 2) 2 25),
wO (.store (some 2) 3 30),
mV 4 (cI 0)] [2,3,4])
.ret)))))
def a_q02s : AFun:=⟨1,[.cell 2 (some 2),.cell 3 (some 2),.t 4],P_q02s,false,false⟩
def P_q02t : ACode:=(.seq (rg [mV 2 cF] [0])
(.seq (rg [mV 3 0,
cL 4 f_q00a [3,(cI (-100000)),(cI 100000)],
uO 5 (.un .not 4),
mV 2 5] [2])
.ret))
def a_q02t : AFun:=⟨1,[.t 2],P_q02t,false,false⟩
def p_q02u_k1 : ACode:=.pr [0,2,4,7,8,9] (.seq (rg [bN 10 .lss 9 8] [0,2,4,7,8,9,10])
(.seq (.cond 10 .skip
(.exit 0))
(.seq (.block 1 (.seq (rg [iA 11 none 7 9,
lD 12 none 11,
mV 6 12] [0,2,4,6,7,8,9])
(.seq (rg [mV 13 2,
mV 14 6,
bN 15 .add 13 14,
mV 2 15] [0,2,4,6,7,8,9])
(rg [mV 16 4,
mV 17 6,
mV 18 6,
bN 19 .mul 17 18,
bN 20 .add 16 19,
mV 4 20] [0,2,4,7,8,9]))))
(rg [bN 21 .add 9 (cI 1),
mV 9 21] [0,2,4,7,8,9]))))
def p_q02u_k2 : ACode:=.pr [0,2,4] (.seq (rg [mV 22 2,
mV 23 0,
lN 24 23,
mV 25 4,
bN 26 .mul 24 25,
mV 27 2,
mV 28 2,
bN 29 .mul 27 28,
bN 30 .sub 26 29,
mV 2 22,
mV 3 30] [2,3])
.ret)
def P_q02u (q1 q2 : ACode) : ACode:=(.seq (rg [mV 2 (cI 0),
mV 3 (cI 0)] [0,2])
(.seq (rg [mV 4 (cI 0)] [0,2,4])
(.seq (.seq (rg [mV 7 0,
lN 8 7,
mV 9 (cI 0)] [0,2,4,7,8,9])
(.block 0 (.loop q1)))
q2)))
def a_q02u : AFun:=⟨1,[.t 2,.t 3],P_q02u p_q02u_k1 p_q02u_k2,false,false⟩
def P_q02v : ACode:=(.seq (rg [mV 4 (cI 0)] [0,1])
(.seq (.block 0 (.seq (rg [mV 6 0,
lN 7 6,
mV 8 1,
bN 9 .lss 7 8,
mV 5 9] [0,5])
(.cond 5 (.seq (rg [mV 4 (cI 8)] [4])
.ret)
(.seq (rg [mV 11 0,
lN 12 11,
bN 13 .gtr 12 (cI 5000),
mV 10 13] [0,10])
(.cond 10 (.seq (rg [mV 4 (cI 2)] [4])
.ret)
(.seq (rg [mV 15 0,
cL 16 f_q05o [15,(.f f_q02w)],
mV 14 16] [14])
(.cond 14 (.seq (rg [mV 4 (cI 1)] [4])
.ret)
.skip)))))))
(.seq (rg [mV 4 (cI 0)] [4])
.ret)))
def a_q02v : AFun:=⟨2,[.t 4],P_q02v,false,false⟩
def P_q02w : ACode:=(.seq (rg [mV 2 cF] [0])
(.seq (rg [mV 3 0,
cL 4 f_q02t [3],
uO 5 (.un .not 4),
mV 2 5] [2])
.ret))
def a_q02w : AFun:=⟨1,[.t 2],P_q02w,false,false⟩
def P_q03f : ACode:=(.seq (rg [mV 0 cF] [])
(.seq (rg [cL 13 f_q03i [],
uO 14 (.bsl false none 1 (.str []) [(0,(cS [49]))]),
cL 15 f_q00g [13,14],
mV 12 15,
eX 16 12 0,
eX 17 12 1,
mV 1 16,
mV 2 17] [1,2])
(.seq (rg [uO 19 (.bsl false none 1 (.str []) [(0,(cS [48,49]))]),
uO 20 (.bsl false none 1 (.int .i64 0) [(0,(cI 0))]),
uO 21 (.build [.p (.int .i64 0),.sl0 none] [(0,1,(cI 2)),(1,1,20)]),
cL 22 f_q01e [19,21],
mV 18 22,
eX 23 18 0,
eX 24 18 1,
mV 3 23,
mV 4 24] [1,2,3,4])
(.seq (rg [uO 26 (.build [.p (.int .i64 0),.p (.int .i64 0),.p (.int .i64 0),.p (.str []),.p (.str []),.p (.str [])] [(0,1,(cI 7)),(3,1,(cS [49,48]))]),
uO 27 (.bsl false (some 6) 1 (.agg [.int .i64 0,.int .i64 0,.int .i64 0,.str [],.str [],.str []]) [(0,26)]),
cL 28 f_q094 [27],
mV 25 28,
eX 29 25 0,
eX 30 25 1,
mV 5 29,
mV 6 30] [1,2,3,4,5,6])
(.seq (rg [uO 32 (.bsl false none 2 (.int .i64 0) [(0,(cI 1)),(1,(cI 3))]),
cL 33 f_q02s [32],
mV 31 33,
eX 34 31 0,
eX 35 31 1,
eX 36 31 2,
uO 7 (.alloc [.p (.int .i64 0),.p (.int .i64 0)]),
uO 8 (.alloc [.p (.int .i64 0),.p (.int .i64 0)]),
wO (.store (some 2) 7 34),
wO (.store (some 2) 8 35),
mV 9 36] [1,2,3,4,5,6,7,9])
(.seq (rg [uO 38 (.bsl false none 1 (.str []) [(0,(cS [115,99,97,110]))]),
uO 39 (.build [.sl0 none,.p (.int .i64 0)] [(0,1,38),(1,1,(cI 1))]),
uO 40 (.build [.p (.str []),.p (.int .i64 0),.p (.int .i64 0),.p (.int .i64 0),.p (.str []),.p (.str []),.p (.str []),.p (.int .i64 0)] [(0,1,(cS [97])),(1,1,(cI 1)),(3,1,(cI 1)),(4,1,(cS [98]))]),
uO 41 (.bsl false (some 8) 1 (.agg [.str [],.int .i64 0,.int .i64 0,.int .i64 0,.str [],.str [],.str [],.int .i64 0]) [(0,40)]),
cL 42 f_q078 [39,41,(cS [98]),(cI 0)],
mV 37 42,
eX 43 37 0,
eX 44 37 1,
uO 10 (.alloc [.p (.int .i64 0),.p (.int .i64 0),.p (.str []),.p (.str []),.p (.int .i64 0)]),
wO (.store (some 5) 10 43),
mV 11 44] [1,2,3,4,5,6,7,9,10,11])
(.seq (rg [mV 45 2,
mV 46 4,
mV 47 6,
mV 48 9,
mV 49 11,
uO 50 (.bsl false none 5 (.int .i64 0) [(0,45),(1,46),(2,47),(3,48),(4,49)]),
cL 51 f_q03e [50],
bN 52 .eql 51 (cI 0),
mV 53 52,
gD 54 53 true (.mv 1),
gD 55 53 true (.len 54),
gD 56 53 true (.bin .eql 55 (cI 1)),
uO 57 (.pick 53 56 cF),
mV 58 57,
gD 59 58 true (.mv 1),
gD 60 58 true (.iaddr none 59 (cI 0)),
gD 61 58 true (.load none 60),
gD 62 58 true (.bin .eql 61 (cI 1)),
uO 63 (.pick 58 62 cF),
mV 64 63,
gD 65 64 true (.mv 3),
gD 66 64 true (.len 65),
gD 67 64 true (.bin .eql 66 (cI 1)),
uO 68 (.pick 64 67 cF),
mV 69 68,
gD 70 69 true (.mv 3),
gD 71 69 true (.iaddr none 70 (cI 0)),
gD 72 69 true (.load none 71),
gD 73 69 true (.bin .eql 72 (cS [49,49])),
uO 74 (.pick 69 73 cF),
mV 75 74,
gD 76 75 true (.mv 5),
gD 77 75 true (.bin .eql 76 (cI 9)),
uO 78 (.pick 75 77 cF),
mV 79 78,
gD 80 79 true (.faddr 0 none 7),
gD 81 79 true (.load none 80),
gD 82 79 true (.bin .eql 81 (cI 2)),
uO 83 (.pick 79 82 cF),
mV 84 83,
gD 85 84 true (.faddr 0 none 10),
gD 86 84 true (.load none 85),
gD 87 84 true (.bin .eql 86 (cI 1)),
uO 88 (.pick 84 87 cF),
mV 0 88] [0])
.ret)))))))
def a_q03f : AFun:=⟨0,[.t 0],P_q03f,false,false⟩
def P_q03i : ACode:=(.seq (rg [uO 0 (.alloc [.sl0 (some 2),.sl0 (some 3),.sl0 (some 2)])] [0])
(.seq (rg [uO 1 (.build [.p (.int .i64 0),.p (.str []),.p (.int .i64 0),.p (.int .i64 0)] [(0,1,(cI 2)),(1,1,(cS [97])),(2,1,(cI (-1)))]),
uO 2 (.bsl false (some 4) 1 (.agg [.int .i64 0,.str [],.int .i64 0,.int .i64 0]) [(0,1)]),
uO 3 (.build [.p (.str []),.sl0 (some 4)] [(0,1,(cS [117])),(1,1,2)]),
uO 4 (.bsl false (some 2) 1 (.agg [.str [],.sl (some 4) []]) [(0,3)]),
uO 5 (.build [.p (.str []),.p (.str []),.p (.str [])] [(0,1,(cS [110])),(1,1,(cS [117])),(2,1,(cS [97]))]),
uO 6 (.bsl false (some 3) 1 (.agg [.str [],.str [],.str []]) [(0,5)]),
uO 7 (.build [.sl0 (some 2),.sl0 (some 3),.sl0 (some 2)] [(0,1,4),(1,1,6)]),
wO (.store (some 3) 0 7)] [0])
.ret))
def a_q03i : AFun:=⟨0,[.cell 0 (some 3)],P_q03i,false,false⟩
def p_q05c_k1 : ACode:=.pr [0,1,2,8,9,10] (.seq (.seq (rg [mV 15 9,
mV 16 10,
bN 17 .lss 15 16] [0,1,2,8,9,10,17])
(.cond 17 .skip
(.exit 0)))
(.block 1 (.seq (rg [mV 18 9,
mV 19 10,
bN 20 .add 18 19,
uO 21 (.conv (.i .u64) 20),
bN 22 .shr 21 (.c (.p (.int .u64 1))),
uO 23 (.conv (.i .i64) 22),
mV 11 23] [0,1,2,8,9,10,11])
(.seq (rg [mV 24 2,
mV 25 0,
mV 26 11,
iA 27 (some 2) 25 26,
lD 28 (some 2) 27,
mV 29 1,
uO 30 (.callv 24 [28,29]),
bN 31 .lss 30 (cI 0)] [0,1,2,8,9,10,11,31])
(.cond 31 (rg [mV 32 11,
bN 33 .add 32 (cI 1),
mV 9 33] [0,1,2,8,9,10])
(rg [mV 34 11,
mV 10 34] [0,1,2,8,9,10]))))))
def p_q05c_k2 : ACode:=.pr [0,1,2,8,9] (.seq (rg [mV 35 9,
mV 36 9,
mV 37 8,
bN 38 .lss 36 37,
mV 39 38,
gD 40 39 true (.mv 2),
gD 41 39 true (.mv 0),
gD 42 39 true (.mv 9),
gD 43 39 true (.iaddr (some 2) 41 42),
gD 44 39 true (.load (some 2) 43),
gD 45 39 true (.mv 1),
gD 46 39 true (.callv 40 [44,45]),
gD 47 39 true (.bin .eql 46 (cI 0)),
uO 48 (.pick 39 47 cF),
mV 6 35,
mV 7 48] [6,7])
.ret)
def P_q05c (q1 q2 : ACode) : ACode:=(.seq (rg [mV 6 (cI 0),
mV 7 cF] [0,1,2])
(.seq (rg [mV 12 0,
lN 13 12,
mV 8 13] [0,1,2,8])
(.seq (rg [mV 14 8,
mV 9 (cI 0),
mV 10 14] [0,1,2,8,9,10])
(.seq (.block 0 (.loop q1))
q2))))
def a_q05c : AFun:=⟨3,[.t 6,.t 7],P_q05c p_q05c_k1 p_q05c_k2,false,false⟩
def p_q05h_k1 : ACode:=.pr [0,3,4,5] (rg [mV 33 5,
bN 34 .add 33 (cI 1),
mV 5 34] [0,3,4,5])
def P_q05h_k2 (q1 : ACode) : ACode:=.pr [0,3,4,5] (.seq (.seq (rg [mV 29 5,
mV 30 4,
lN 31 30,
bN 32 .lss 29 31] [0,3,4,5,32])
(.cond 32 .skip
(.exit 2)))
(.seq (.block 3 (.seq (dr [dF (mV 35 4) [4],
dF (mV 36 5) [5],
dF (iA 37 none 35 36) [35,36],
dF (lD 38 none 37) [37],
dF (mV 39 4) [4],
dF (mV 40 5) [5],
dF (bN 41 .sub 40 (cI 1)) [40],
dF (iA 42 none 39 41) [39,41],
dF (lD 43 none 42) [42],
dF (bN 44 .neq 38 43) [38,43]] [0,3,4,5,44])
(.cond 44 (.seq (rg [mV 45 0,
mV 46 3,
mV 47 4,
mV 48 5,
iA 49 none 47 48,
lD 50 none 49,
iA 51 none 45 46,
wO (.store none 51 50)] [0,3,4,5])
(rg [mV 52 3,
bN 53 .add 52 (cI 1),
mV 3 53] [0,3,4,5]))
.skip)))
q1))
def p_q05h_k2 : ACode:=P_q05h_k2 p_q05h_k1
def p_q05h_k3 : ACode:=.pr [0,3] (.seq (rg [mV 54 0,
mV 55 3,
uO 56 (.slice none 54 (some 55) none none),
wO (.clr none (.str []) 56)] [0,3])
(.seq (rg [mV 57 0,
mV 58 3,
uO 59 (.slice none 57 none (some 58) none),
mV 2 59] [2])
.ret))
def p_q05h_k4 : ACode:=.pr [0,3] (rg [mV 14 3,
bN 15 .add 14 (cI 1),
mV 3 15] [0,3])
def P_q05h_k5 (q2 q3 q4 : ACode) : ACode:=.pr [0,3] (.seq (.seq (rg [mV 10 3,
mV 11 0,
lN 12 11,
bN 13 .lss 10 12] [0,3,13])
(.cond 13 .skip
(.exit 0)))
(.seq (.block 1 (.seq (dr [dF (mV 16 0) [0],
dF (mV 17 3) [3],
dF (iA 18 none 16 17) [16,17],
dF (lD 19 none 18) [18],
dF (mV 20 0) [0],
dF (mV 21 3) [3],
dF (bN 22 .sub 21 (cI 1)) [21],
dF (iA 23 none 20 22) [20,22],
dF (lD 24 none 23) [23],
dF (bN 25 .eql 19 24) [19,24]] [0,3,25])
(.cond 25 (.seq (rg [mV 26 0,
mV 27 3,
uO 28 (.slice none 26 (some 27) none none),
mV 4 28] [0,3,4])
(.seq (.seq (rg [mV 5 (cI 1)] [0,3,4,5])
(.block 2 (.loop q2)))
q3))
.skip)))
q4))
def p_q05h_k5 : ACode:=P_q05h_k5 p_q05h_k2 p_q05h_k3 p_q05h_k4
def p_q05h_k6 : ACode:=.pr [0] (.seq (rg [mV 60 0,
mV 2 60] [2])
.ret)
def P_q05h (q5 q6 : ACode) : ACode:=(.seq (rg [mV 2 (.c (.p (.sl none [])))] [0])
(.seq (.seq (rg [mV 6 0,
lN 7 6,
bN 8 .lss 7 (cI 2)] [0,8])
(.cond 8 (.seq (rg [mV 9 0,
mV 2 9] [2])
.ret)
.skip))
(.seq (.seq (rg [mV 3 (cI 1)] [0,3])
(.block 0 (.loop q5)))
q6)))
def a_q05h : AFun:=⟨1,[.t 2],P_q05h p_q05h_k5 p_q05h_k6,true,false⟩
def P_q05m : ACode:=(.seq (rg [mV 4 cF] [0,1])
(.seq (rg [mV 5 0,
mV 6 1,
cL 7 f_q061 [5,6],
bN 8 .geq 7 (cI 0),
mV 4 8] [4])
.ret))
def a_q05m : AFun:=⟨2,[.t 4],P_q05m,true,false⟩
def P_q05o : ACode:=(.seq (rg [mV 4 cF] [0,1])
(.seq (rg [mV 5 0,
mV 6 1,
cL 7 f_q063 [5,6],
bN 8 .geq 7 (cI 0),
mV 4 8] [4])
.ret))
def a_q05o : AFun:=⟨2,[.t 4],P_q05o,true,false⟩
def P_q05r : ACode:=(.seq (rg [mV 4 cF] [0,1])
(.seq (rg [mV 5 0,
mV 6 1,
cL 7 f_q067 [5,6],
bN 8 .geq 7 (cI 0),
mV 4 8] [4])
.ret))
def a_q05r : AFun:=⟨2,[.t 4],P_q05r,true,false⟩
def p_q061_k1 : ACode:=.pr [0,1,7,8] (.seq (rg [bN 9 .lss 8 7] [0,1,7,8,9])
(.seq (.cond 9 .skip
(.exit 0))
(.seq (.block 1 (.seq (rg [mV 10 8,
mV 5 10] [0,1,5,7,8])
(.seq (rg [mV 11 1,
mV 12 0,
mV 13 5,
iA 14 (some 4) 12 13,
lD 15 (some 4) 14,
uO 16 (.callv 11 [15])] [0,1,5,7,8,16])
(.cond 16 (.seq (rg [mV 17 5,
mV 4 17] [4])
.ret)
.skip))))
(rg [bN 18 .add 8 (cI 1),
mV 8 18] [0,1,7,8]))))
def p_q061_k2 : ACode:=.pr [] (.seq (rg [mV 4 (cI (-1))] [4])
.ret)
def P_q061 (q1 q2 : ACode) : ACode:=(.seq (rg [mV 4 (cI 0)] [0,1])
(.seq (.seq (rg [mV 6 0,
lN 7 6,
mV 8 (cI 0)] [0,1,7,8])
(.block 0 (.loop q1)))
q2))
def a_q061 : AFun:=⟨2,[.t 4],P_q061 p_q061_k1 p_q061_k2,true,false⟩
def p_q063_k1 : ACode:=.pr [0,1,7,8] (.seq (rg [bN 9 .lss 8 7] [0,1,7,8,9])
(.seq (.cond 9 .skip
(.exit 0))
(.seq (.block 1 (.seq (rg [mV 10 8,
mV 5 10] [0,1,5,7,8])
(.seq (rg [mV 11 1,
mV 12 0,
mV 13 5,
iA 14 none 12 13,
lD 15 none 14,
uO 16 (.callv 11 [15])] [0,1,5,7,8,16])
(.cond 16 (.seq (rg [mV 17 5,
mV 4 17] [4])
.ret)
.skip))))
(rg [bN 18 .add 8 (cI 1),
mV 8 18] [0,1,7,8]))))
def p_q063_k2 : ACode:=.pr [] (.seq (rg [mV 4 (cI (-1))] [4])
.ret)
def P_q063 (q1 q2 : ACode) : ACode:=(.seq (rg [mV 4 (cI 0)] [0,1])
(.seq (.seq (rg [mV 6 0,
lN 7 6,
mV 8 (cI 0)] [0,1,7,8])
(.block 0 (.loop q1)))
q2))
def a_q063 : AFun:=⟨2,[.t 4],P_q063 p_q063_k1 p_q063_k2,true,false⟩
def p_q067_k1 : ACode:=.pr [0,1,7,8] (.seq (rg [bN 9 .lss 8 7] [0,1,7,8,9])
(.seq (.cond 9 .skip
(.exit 0))
(.seq (.block 1 (.seq (rg [mV 10 8,
mV 5 10] [0,1,5,7,8])
(.seq (rg [mV 11 1,
mV 12 0,
mV 13 5,
iA 14 none 12 13,
lD 15 none 14,
bN 16 .eql 11 15] [0,1,5,7,8,16])
(.cond 16 (.seq (rg [mV 17 5,
mV 4 17] [4])
.ret)
.skip))))
(rg [bN 18 .add 8 (cI 1),
mV 8 18] [0,1,7,8]))))
def p_q067_k2 : ACode:=.pr [] (.seq (rg [mV 4 (cI (-1))] [4])
.ret)
def P_q067 (q1 q2 : ACode) : ACode:=(.seq (rg [mV 4 (cI 0)] [0,1])
(.seq (.seq (rg [mV 6 0,
lN 7 6,
mV 8 (cI 0)] [0,1,7,8])
(.block 0 (.loop q1)))
q2))
def a_q067 : AFun:=⟨2,[.t 4],P_q067 p_q067_k1 p_q067_k2,true,false⟩
def p_q076_k1 : ACode:=.pr [0,9,10,11] (.seq (rg [bN 12 .lss 11 10] [0,9,10,11,12])
(.seq (.cond 12 .skip
(.exit 0))
(.seq (.block 1 (.seq (rg [mV 13 11,
iA 14 (some 8) 9 11,
lD 15 (some 8) 14,
uO 4 (.alloc [.p (.str []),.p (.int .i64 0),.p (.int .i64 0),.p (.int .i64 0),.p (.str []),.p (.str []),.p (.str []),.p (.int .i64 0)]),
mV 3 13,
wO (.store (some 8) 4 15)] [0,3,4,9,10,11])
(.seq (.seq (rg [lD 16 (some 8) 4,
cL 17 f_q07b [16],
mV 5 17] [0,3,4,5,9,10,11])
(.seq (rg [mV 18 5,
bN 19 .neq 18 (cI 0)] [0,3,4,5,9,10,11,19])
(.cond 19 (.seq (rg [mV 20 5,
mV 2 20] [2])
.ret)
.skip)))
(.seq (dr [dF (mV 21 3) [3],
dF (bN 22 .gtr 21 (cI 0)) [21],
dF (mV 23 22) [22],
dF (gD 24 23 true (.load (some 8) 4)) [4,23],
dF (gD 25 23 true (.mv 0)) [0,23],
dF (gD 26 23 true (.mv 3)) [3,23],
dF (gD 27 23 true (.bin .sub 26 (cI 1))) [26,23],
dF (gD 28 23 true (.iaddr (some 8) 25 27)) [25,27,23],
dF (gD 29 23 true (.load (some 8) 28)) [28,23],
dT (gD 30 23 true (.call f_q079 [24,29])) [24,29,23],
dF (gD 31 23 true (.bin .leq 30 (cI 0))) [30,23],
dF (uO 32 (.pick 23 31 cF)) [23,31]] [0,9,10,11,32])
(.cond 32 (.seq (rg [mV 2 (cI 7)] [2])
.ret)
.skip)))))
(rg [bN 33 .add 11 (cI 1),
mV 11 33] [0,9,10,11]))))
def p_q076_k2 : ACode:=.pr [0] (.seq (.seq (rg [mV 34 0,
cL 35 f_q07k [34]] [35])
(.cond 35 (.seq (rg [mV 2 (cI 6)] [2])
.ret)
.skip))
(.seq (rg [mV 2 (cI 0)] [2])
.ret))
def P_q076 (q1 q2 : ACode) : ACode:=(.seq (rg [mV 2 (cI 0)] [0])
(.seq (.seq (rg [mV 6 0,
lN 7 6,
bN 8 .gtr 7 (cI 2000)] [0,8])
(.cond 8 (.seq (rg [mV 2 (cI 2)] [2])
.ret)
.skip))
(.seq (.seq (rg [mV 9 0,
lN 10 9,
mV 11 (cI 0)] [0,9,10,11])
(.block 0 (.loop (.scope q1))))
q2)))
def a_q076 : AFun:=⟨1,[.t 2],P_q076 p_q076_k1 p_q076_k2,false,false⟩
def p_q077_k1 : ACode:=.pr [1,16,17,18] (.seq (rg [bN 19 .lss 18 17] [1,16,17,18,19])
(.seq (.cond 19 .skip
(.exit 1))
(.seq (.block 2 (.seq (rg [mV 20 18,
iA 21 none 16 18,
lD 22 none 21,
mV 3 20,
mV 4 22] [1,3,4,16,17,18])
(.block 3 (.seq (rg [mV 24 4,
cL 25 f_q005 [24],
uO 26 (.un .not 25),
mV 23 26] [1,3,4,16,17,18,23])
(.cond 23 (.seq (rg [mV 2 (cI 5)] [2])
.ret)
(.seq (rg [fA 28 0 none 1,
lD 29 none 28,
mV 30 3,
uO 31 (.slice none 29 none (some 30) none),
mV 32 4,
cL 33 f_q05r [31,32],
mV 27 33] [1,16,17,18,27])
(.cond 27 (.seq (rg [mV 2 (cI 6)] [2])
.ret)
.skip)))))))
(rg [bN 34 .add 18 (cI 1),
mV 18 34] [1,16,17,18]))))
def p_q077_k2 : ACode:=.pr [1] (.seq (.seq (rg [fA 35 1 none 1,
lD 36 none 35,
cL 37 f_q00a [36,(cI 1),(cI 10)]] [37])
(.cond 37 (.seq (rg [mV 2 (cI 1)] [2])
.ret)
.skip))
(.seq (rg [mV 2 (cI 0)] [2])
.ret))
def P_q077 (q1 q2 : ACode) : ACode:=(.seq (rg [uO 1 (.box 0),
mV 2 (cI 0)] [1])
(.seq (.block 0 (.seq (rg [fA 6 0 none 1,
lD 7 none 6,
lN 8 7,
bN 9 .eql 8 (cI 0),
mV 5 9] [1,5])
(.cond 5 (.seq (rg [mV 2 (cI 8)] [2])
.ret)
(.seq (rg [fA 11 0 none 1,
lD 12 none 11,
lN 13 12,
bN 14 .gtr 13 (cI 20),
mV 10 14] [1,10])
(.cond 10 (.seq (rg [mV 2 (cI 2)] [2])
.ret)
.skip)))))
(.seq (.seq (rg [fA 15 0 none 1,
lD 16 none 15,
lN 17 16,
mV 18 (cI 0)] [1,16,17,18])
(.block 1 (.loop q1)))
q2)))
def a_q077 : AFun:=⟨1,[.t 2],P_q077 p_q077_k1 p_q077_k2,false,false⟩
def P_q078 : ACode:=(.seq (rg [uO 4 (.box 0),
uO 8 (.alloc [.p (.int .i64 0),.p (.int .i64 0),.p (.str []),.p (.str []),.p (.int .i64 0)]),
mV 9 (cI 0)] [1,2,3,4,8])
(.seq (.seq (rg [lD 12 (some 2) 4,
mV 13 1,
mV 14 3,
cL 15 f_q07c [12,13,14],
mV 10 15] [1,2,3,4,8,10])
(.seq (rg [mV 16 10,
bN 17 .neq 16 (cI 0)] [1,2,3,4,8,10,17])
(.cond 17 (.seq (rg [uO 18 (.build [.p (.int .i64 0),.p (.int .i64 0),.p (.str []),.p (.str []),.p (.int .i64 0)] []),
mV 19 10,
wO (.store (some 5) 8 18),
mV 9 19] [8,9])
.ret)
.skip)))
(.seq (.seq (rg [mV 20 2,
cL 21 f_q005 [20],
uO 22 (.un .not 21)] [1,2,3,4,8,22])
(.cond 22 (.seq (rg [uO 23 (.build [.p (.int .i64 0),.p (.int .i64 0),.p (.str []),.p (.str []),.p (.int .i64 0)] []),
wO (.store (some 5) 8 23),
mV 9 (cI 5)] [8,9])
.ret)
.skip))
(.seq (dr [dF (lD 24 (some 2) 4) [4],
dF (mV 25 1) [1],
dF (mV 26 3) [3],
dA (cL 27 f_q07l [25,26]) [25,26] true [] [0],
dT (cL 28 f_q07i [24,27]) [24,27],
dF (uO 29 (.nilchk 28)) [28],
dF (fA 30 2 none 29) [29],
dF (lD 31 none 30) [30],
dF (mV 32 2) [2],
dF (uO 33 (.look (none,[2]) false (.nilp) 31 32)) [31,32],
dF (mV 11 33) [33]] [8,11])
(.seq (.seq (rg [mV 34 11,
uO 35 (.isnil 0 false 34)] [8,11,35])
(.cond 35 (.seq (rg [uO 36 (.build [.p (.int .i64 0),.p (.int .i64 0),.p (.str []),.p (.str []),.p (.int .i64 0)] []),
wO (.store (some 5) 8 36),
mV 9 (cI 8)] [8,9])
.ret)
.skip))
(.seq (rg [mV 37 11,
uO 38 (.nilchk 37),
lD 39 (some 5) 38,
wO (.store (some 5) 8 39),
mV 9 (cI 0)] [8,9])
.ret))))))
def a_q078 : AFun:=⟨4,[.cell 8 (some 5),.t 9],P_q078,false,false⟩
def P_q079 : ACode:=(.seq (rg [uO 2 (.box 0),
uO 3 (.box 1),
mV 4 (cI 0)] [2,3])
(.seq (dr [dF (fA 5 2 none 2) [2],
dF (lD 6 none 5) [5],
dF (fA 7 2 none 3) [3],
dF (lD 8 none 7) [7],
dT (cL 9 f_q00v [6,8]) [6,8],
dF (fA 10 0 none 2) [2],
dA (lD 11 none 10) [10] false [4] [],
dF (fA 12 0 none 3) [3],
dA (lD 13 none 12) [12] false [4] [],
dT (cL 14 f_q083 [11,13]) [11,13],
dF (fA 15 1 none 2) [2],
dA (lD 16 none 15) [15] false [4,9] [],
dF (fA 17 1 none 3) [3],
dA (lD 18 none 17) [17] false [4,9] [],
dT (cL 19 f_q00v [16,18]) [16,18],
dF (uO 20 (.bsl false none 3 (.int .i64 0) [(0,9),(1,14),(2,19)])) [9,14,19],
dT (cL 21 f_q00y [20]) [20],
dF (mV 4 21) [21]] [4])
.ret))
def a_q079 : AFun:=⟨2,[.t 4],P_q079,false,false⟩
def p_q07a_k1 : ACode:=.pr [0,3,4,5] (rg [mV 16 5,
bN 17 .sub 16 (cI 1),
mV 5 17] [0,3,4,5])
def P_q07a_k2 (q1 : ACode) : ACode:=.pr [0,3,4,5] (.seq (.seq (rg [mV 14 5,
bN 15 .geq 14 (cI 0)] [0,3,4,5,15])
(.cond 15 .skip
(.exit 0)))
(.seq (.block 1 (.seq (rg [mV 18 0,
mV 19 5,
iA 20 (some 8) 18 19,
lD 21 (some 8) 20,
uO 6 (.alloc [.p (.str []),.p (.int .i64 0),.p (.int .i64 0),.p (.int .i64 0),.p (.str []),.p (.str []),.p (.str []),.p (.int .i64 0)]),
wO (.store (some 8) 6 21)] [0,3,4,5,6])
(.seq (rg [mV 22 4,
mV 23 5,
mV 24 3,
fA 25 0 none 6,
lD 26 none 25,
fA 27 1 none 6,
lD 28 none 27,
uO 29 (.build [.p (.str []),.p (.int .i64 0)] [(0,1,26),(1,1,28)]),
uO 30 (.look ((some 2),[2,0]) false (AB false) 24 29),
uO 31 (.un .not 30),
iA 32 none 22 23,
wO (.store none 32 31)] [0,3,4,5,6])
(.seq (rg [mV 33 4,
mV 34 5,
iA 35 none 33 34,
lD 36 none 35,
mV 37 36,
gD 38 37 true (.faddr 3 none 6),
gD 39 37 true (.load none 38),
gD 40 37 true (.bin .eql 39 (cI 7)),
uO 41 (.pick 37 40 cF)] [0,3,4,5,6,41])
(.cond 41 (rg [mV 42 3,
fA 43 6 none 6,
lD 44 none 43,
fA 45 7 none 6,
lD 46 none 45,
uO 47 (.build [.p (.str []),.p (.int .i64 0)] [(0,1,44),(1,1,46)]),
wO (.mupd ((some 2),[2,0]) 42 47 cT)] [0,3,4,5])
.skip)))))
q1))
def p_q07a_k2 : ACode:=P_q07a_k2 p_q07a_k1
def p_q07a_k3 : ACode:=.pr [4] (.seq (rg [mV 48 4,
mV 2 48] [2])
.ret)
def P_q07a (q2 q3 : ACode) : ACode:=(.seq (rg [mV 2 (.c (.p (.sl none [])))] [0])
(.seq (rg [uO 7 (.mkmap),
mV 3 7] [0,3])
(.seq (rg [mV 8 0,
lN 9 8,
uO 10 (.mksl none (.bool false) 9 9),
mV 4 10] [0,3,4])
(.seq (.seq (rg [mV 11 0,
lN 12 11,
bN 13 .sub 12 (cI 1),
mV 5 13] [0,3,4,5])
(.block 0 (.loop (.scope q2))))
q3))))
def a_q07a : AFun:=⟨1,[.t 2],P_q07a p_q07a_k2 p_q07a_k3,false,false⟩
def P_q07b : ACode:=(.seq (rg [uO 1 (.box 0),
mV 2 (cI 0)] [1])
(.seq (dr [dF (fA 5 3 none 1) [1],
dF (lD 6 none 5) [5],
dF (bN 7 .eql 6 (cI 7)) [6],
dF (fA 8 3 none 1) [1],
dF (lD 9 none 8) [8],
dF (bN 10 .eql 9 (cI 2)) [9],
dF (mV 3 7) [7],
dF (mV 4 10) [10]] [1,3,4])
(.seq (.block 0 (.seq (rg [fA 12 0 none 1,
lD 13 none 12,
cL 14 f_q005 [13],
uO 15 (.un .not 14),
mV 11 15] [1,3,4,11])
(.cond 11 (.seq (rg [mV 2 (cI 5)] [2])
.ret)
(.seq (rg [fA 17 1 none 1,
lD 18 none 17,
cL 19 f_q00a [18,(cI 1),(cI 1000000)],
mV 20 19,
gD 21 20 false (.faddr 2 none 1),
gD 22 20 false (.load none 21),
gD 23 20 false (.call f_q007 [22]),
gD 24 20 false (.un .not 23),
uO 25 (.pick 20 cT 24),
mV 16 25] [1,3,4,16])
(.cond 16 (.seq (rg [mV 2 (cI 1)] [2])
.ret)
(.seq (rg [fA 27 3 none 1,
lD 28 none 27,
cL 29 f_q00a [28,(cI 1),(cI 7)],
mV 26 29] [1,3,4,26])
(.cond 26 (.seq (rg [mV 2 (cI 4)] [2])
.ret)
(.seq (rg [mV 31 3,
uO 32 (.un .not 31),
mV 33 32,
gD 34 33 true (.faddr 4 none 1),
gD 35 33 true (.load none 34),
gD 36 33 true (.call f_q005 [35]),
gD 37 33 true (.un .not 36),
uO 38 (.pick 33 37 cF),
mV 39 38,
gD 40 39 false (.mv 4),
gD 41 39 false (.mv 40),
gD 42 41 true (.faddr 5 none 1),
gD 43 41 true (.load none 42),
gD 44 41 true (.call f_q005 [43]),
gD 45 41 true (.un .not 44),
gD 46 39 false (.pick 41 45 cF),
uO 47 (.pick 39 cT 46),
mV 48 47,
gD 49 48 false (.mv 3),
gD 50 48 false (.mv 49),
gD 51 50 true (.faddr 6 none 1),
gD 52 50 true (.load none 51),
gD 53 50 true (.call f_q005 [52]),
gD 54 50 true (.un .not 53),
gD 55 48 false (.pick 50 54 cF),
uO 56 (.pick 48 cT 55),
mV 30 56] [1,3,4,30])
(.cond 30 (.seq (rg [mV 2 (cI 5)] [2])
.ret)
(.seq (rg [mV 58 3,
mV 59 58,
gD 60 59 true (.faddr 7 none 1),
gD 61 59 true (.load none 60),
gD 62 59 true (.call f_q00a [61,(cI 1),(cI 1000000)]),
uO 63 (.pick 59 62 cF),
mV 57 63] [1,3,4,57])
(.cond 57 (.seq (rg [mV 2 (cI 1)] [2])
.ret)
(.seq (rg [mV 65 3,
mV 66 65,
gD 67 66 true (.faddr 4 none 1),
gD 68 66 true (.load none 67),
gD 69 66 true (.bin .neq 68 (cS [])),
uO 70 (.pick 66 69 cF),
mV 71 70,
gD 72 71 false (.mv 4),
gD 73 71 false (.un .not 72),
gD 74 71 false (.mv 73),
gD 75 74 true (.faddr 5 none 1),
gD 76 74 true (.load none 75),
gD 77 74 true (.bin .neq 76 (cS [])),
gD 78 71 false (.pick 74 77 cF),
uO 79 (.pick 71 cT 78),
mV 80 79,
gD 81 80 false (.mv 3),
gD 82 80 false (.un .not 81),
gD 83 80 false (.mv 82),
gD 84 83 true (.faddr 6 none 1),
gD 85 83 true (.load none 84),
gD 86 83 true (.bin .neq 85 (cS [])),
gD 87 83 true (.mv 86),
gD 88 87 false (.faddr 7 none 1),
gD 89 87 false (.load none 88),
gD 90 87 false (.bin .neq 89 (cI 0)),
gD 91 83 true (.pick 87 cT 90),
gD 92 80 false (.pick 83 91 cF),
uO 93 (.pick 80 cT 92),
mV 64 93] [64])
(.cond 64 (.seq (rg [mV 2 (cI 3)] [2])
.ret)
.skip)))))))))))))
(.seq (rg [mV 2 (cI 0)] [2])
.ret))))
def a_q07b : AFun:=⟨1,[.t 2],P_q07b,false,false⟩
def P_q07c : ACode:=(.seq (rg [uO 3 (.box 0),
mV 6 (cI 0)] [1,2,3])
(.seq (rg [lD 7 (some 2) 3,
cL 8 f_q077 [7],
mV 9 1,
cL 10 f_q076 [9],
mV 11 2,
cL 12 f_q07j [11],
uO 13 (.bsl false none 3 (.int .i64 0) [(0,8),(1,10),(2,12)]),
cL 14 f_q002 [13],
mV 6 14] [6])
.ret))
def a_q07c : AFun:=⟨3,[.t 6],P_q07c,false,false⟩
def P_q07d : ACode:=(.seq (rg [mV 4 (cI 0)] [0,1])
(.seq (rg [mV 5 0,
uO 6 (.nilchk 5),
fA 7 0 (some 2) 6,
fA 8 0 none 7,
lD 9 none 8,
mV 10 1,
cL 11 f_q067 [9,10],
mV 4 11] [4])
.ret))
def a_q07d : AFun:=⟨2,[.t 4],P_q07d,false,false⟩
def p_q07e_k1 : ACode:=.pr [] (.seq (rg [mV 6 (cI 0)] [6])
.ret)
def p_q07e_k2 : ACode:=.pr [] (.seq (rg [mV 6 (cI 0)] [6])
.ret)
def P_q07e_k3 (q2 : ACode) : ACode:=.pr [0,1] (.seq (rg [mV 98 1,
uO 99 (.nilchk 98),
fA 100 4 none 99,
lD 101 none 100,
bN 102 .add 101 (cI 1),
uO 103 (.nilchk 98),
fA 104 4 none 103,
wO (.store none 104 102)] [0,1])
(.seq (rg [mV 105 1,
uO 106 (.nilchk 105),
fA 107 0 none 106,
wO (.store none 107 (cI 3))] [0,1])
(.seq (.seq (dr [dF (mV 108 1) [1],
dF (uO 109 (.nilchk 108)) [108],
dF (fA 110 4 none 109) [109],
dF (lD 111 none 110) [110],
dF (mV 112 0) [0],
dF (uO 113 (.nilchk 112)) [112],
dF (fA 114 0 (some 2) 113) [113],
dF (fA 115 1 none 114) [114],
dF (lD 116 none 115) [115],
dF (bN 117 .eql 111 116) [111,116]] [1,117])
(.cond 117 (rg [mV 118 1,
uO 119 (.nilchk 118),
fA 120 0 none 119,
wO (.store none 120 (cI 5))] [])
.skip))
q2)))
def p_q07e_k3 : ACode:=P_q07e_k3 p_q07e_k2
def P_q07e (q1 q3 : ACode) : ACode:=(.seq (rg [uO 5 (.box 2),
mV 6 (cI 0)] [0,1,5])
(.seq (.block 0 (.seq (rg [mV 10 1,
uO 11 (.nilchk 10),
fA 12 0 none 11,
lD 13 none 12,
bN 14 .neq 13 (cI 2),
mV 9 14] [0,1,5,9])
(.cond 9 (.seq (rg [mV 6 (cI 11)] [6])
.ret)
(.seq (dr [dF (mV 16 1) [1],
dF (uO 17 (.nilchk 16)) [16],
dF (fA 18 3 none 17) [17],
dF (lD 19 none 18) [18],
dF (fA 20 0 none 5) [5],
dF (lD 21 none 20) [20],
dF (bN 22 .neq 19 21) [19,21],
dF (mV 15 22) [22]] [0,1,5,15])
(.cond 15 (.seq (rg [mV 6 (cI 13)] [6])
.ret)
.skip)))))
(.seq (rg [fA 23 3 none 5,
lD 24 none 23,
bN 25 .eql 24 (cI 3),
mV 7 25] [0,1,5,7])
(.seq (dr [dF (mV 26 0) [0],
dF (mV 27 0) [0],
dF (uO 28 (.nilchk 27)) [27],
dF (fA 29 4 none 28) [28],
dF (lD 30 none 29) [29],
dF (fA 31 4 none 5) [5],
dF (lD 32 none 31) [31],
dF (mV 33 1) [1],
dF (uO 34 (.nilchk 33)) [33],
dF (fA 35 2 none 34) [34],
dF (lD 36 none 35) [35],
dF (mV 37 1) [1],
dF (uO 38 (.nilchk 37)) [37],
dF (fA 39 1 none 38) [38],
dF (lD 40 none 39) [39],
dF (fA 41 2 none 5) [5],
dF (lD 42 none 41) [41],
dF (mV 43 7) [7],
dF (uO 44 (.build [.p (.str []),.p (.str []),.p (.int .i64 0),.p (.int .i64 0),.p (.bool false)] [(0,1,32),(1,1,36),(2,1,40),(3,1,42),(4,1,43)])) [32,36,40,42,43],
dF (uO 45 (.bsl false (some 5) 1 (.agg [.str [],.str [],.int .i64 0,.int .i64 0,.bool false]) [(0,44)])) [44],
dT (uO 46 (.app (some 5) 30 45)) [30,45],
dF (uO 47 (.nilchk 26)) [26],
dF (fA 48 4 none 47) [47],
dT (wO (.store none 48 46)) [48,46]] [0,1,5,7])
(.seq (rg [mV 49 0,
mV 50 1,
fA 51 2 none 5,
lD 52 none 51,
cL 53 f_q07f [49,50,52]] [0,1,5,7])
(.seq (rg [mV 54 1,
fA 55 2 none 5,
lD 56 none 55,
uO 57 (.nilchk 54),
fA 58 1 none 57,
wO (.store none 58 56)] [0,1,7])
(.seq (.seq (rg [mV 59 7] [0,1,59])
(.cond 59 (.seq (rg [mV 60 1,
uO 61 (.nilchk 60),
fA 62 4 none 61,
wO (.store none 62 (cI 0))] [0,1])
(.seq (rg [mV 63 0,
mV 64 1,
uO 65 (.nilchk 64),
fA 66 2 none 65,
lD 67 none 66,
cL 68 f_q07d [63,67],
bN 69 .add 68 (cI 1),
mV 8 69] [0,1,8])
(.seq (.seq (rg [mV 70 8,
mV 71 0,
uO 72 (.nilchk 71),
fA 73 0 (some 2) 72,
fA 74 0 none 73,
lD 75 none 74,
lN 76 75,
bN 77 .eql 70 76] [0,1,8,77])
(.cond 77 (rg [mV 78 1,
mV 79 1,
uO 80 (.nilchk 78),
fA 81 0 none 80,
wO (.store none 81 (cI 4)),
uO 82 (.nilchk 79),
fA 83 2 none 82,
wO (.store none 83 (cS []))] [])
(rg [mV 84 1,
mV 85 1,
mV 86 0,
uO 87 (.nilchk 86),
fA 88 0 (some 2) 87,
fA 89 0 none 88,
lD 90 none 89,
mV 91 8,
iA 92 none 90 91,
lD 93 none 92,
uO 94 (.nilchk 84),
fA 95 0 none 94,
wO (.store none 95 (cI 1)),
uO 96 (.nilchk 85),
fA 97 2 none 96,
wO (.store none 97 93)] [])))
q1)))
.skip))
q3)))))))
def a_q07e : AFun:=⟨3,[.t 6],P_q07e p_q07e_k1 p_q07e_k3,false,false⟩
def p_q07f_k1 : ACode:=.pr [0,1,2,11,12] (rg [bN 47 .add 12 (cI 1),
mV 12 47] [0,1,2,11,12])
def P_q07f_k2 (q1 : ACode) : ACode:=.pr [0,1,2,11,12] (.seq (rg [bN 13 .lss 12 11] [0,1,2,11,12,13])
(.seq (.cond 13 .skip
(.exit 0))
(.seq (.block 1 (.seq (rg [mV 14 12,
mV 6 14] [0,1,2,6,11,12])
(.seq (dr [dF (mV 15 0) [0],
dF (uO 16 (.nilchk 15)) [15],
dF (fA 17 5 none 16) [16],
dF (lD 18 none 17) [17],
dF (mV 19 6) [6],
dF (iA 20 (some 3) 18 19) [18,19],
dF (fA 21 0 none 20) [20],
dF (lD 22 none 21) [21],
dF (mV 23 1) [1],
dF (uO 24 (.nilchk 23)) [23],
dF (fA 25 3 none 24) [24],
dF (lD 26 none 25) [25],
dF (bN 27 .eql 22 26) [22,26],
dF (mV 28 27) [27],
dF (gD 29 28 true (.mv 0)) [0,28],
dF (gD 30 28 true (.nilchk 29)) [29,28],
dF (gD 31 28 true (.faddr 5 none 30)) [30,28],
dF (gD 32 28 true (.load none 31)) [31,28],
dF (gD 33 28 true (.mv 6)) [6,28],
dF (gD 34 28 true (.iaddr (some 3) 32 33)) [32,33,28],
dF (gD 35 28 true (.faddr 2 none 34)) [34,28],
dF (gD 36 28 true (.load none 35)) [35,28],
dF (gD 37 28 true (.bin .lss 36 (cI 0))) [36,28],
dF (uO 38 (.pick 28 37 cF)) [28,37]] [0,1,2,6,11,12,38])
(.cond 38 (rg [mV 39 0,
uO 40 (.nilchk 39),
fA 41 5 none 40,
lD 42 none 41,
mV 43 6,
mV 44 2,
iA 45 (some 3) 42 43,
fA 46 2 none 45,
wO (.store none 46 44)] [0,1,2,11,12])
.skip))))
q1)))
def p_q07f_k2 : ACode:=P_q07f_k2 p_q07f_k1
def p_q07f_k3 : ACode:=.pr [0,1] (.seq (dr [dF (mV 48 0) [0],
dF (uO 49 (.nilchk 48)) [48],
dF (fA 50 3 none 49) [49],
dF (lD 51 none 50) [50],
dF (mV 52 1) [1],
dF (uO 53 (.nilchk 52)) [52],
dF (fA 54 3 none 53) [53],
dF (lD 55 none 54) [54],
dT (wO (.mdel (none,[2]) 51 55)) [51,55]] [1])
(rg [mV 56 1,
uO 57 (.nilchk 56),
fA 58 3 none 57,
wO (.store none 58 (cS []))] []))
def P_q07f (q2 q3 : ACode) : ACode:=(.seq (.seq (rg [mV 7 0,
uO 8 (.nilchk 7),
fA 9 5 none 8,
lD 10 none 9,
lN 11 10,
mV 12 (cI 0)] [0,1,2,11,12])
(.block 0 (.loop q2)))
q3)
def a_q07f : AFun:=⟨3,[],P_q07f p_q07f_k2 p_q07f_k3,false,false⟩
def P_q07g : ACode:=(.seq (rg [uO 5 (.box 2),
mV 6 (cI 0)] [0,1,5])
(.seq (dr [dF (mV 10 0) [0],
dF (uO 11 (.nilchk 10)) [10],
dF (fA 12 3 none 11) [11],
dF (lD 13 none 12) [12],
dF (fA 14 0 none 5) [5],
dF (lD 15 none 14) [14],
dF (uO 16 (.look (none,[2]) true (.p (.str [])) 13 15)) [13,15],
dF (mV 9 16) [16],
dF (eX 17 9 0) [9],
dF (eX 18 9 1) [9],
dF (mV 7 17) [17],
dF (mV 8 18) [18]] [0,1,5,8])
(.seq (.block 0 (.seq (rg [mV 20 1,
uO 21 (.nilchk 20),
fA 22 0 none 21,
lD 23 none 22,
bN 24 .neq 23 (cI 1),
mV 19 24] [0,1,5,8,19])
(.cond 19 (.seq (rg [mV 6 (cI 11)] [6])
.ret)
(.seq (dr [dF (fA 26 5 none 5) [5],
dF (lD 27 none 26) [26],
dF (mV 28 1) [1],
dF (uO 29 (.nilchk 28)) [28],
dF (fA 30 2 none 29) [29],
dF (lD 31 none 30) [30],
dF (bN 32 .neq 27 31) [27,31],
dF (mV 25 32) [32]] [0,1,5,8,25])
(.cond 25 (.seq (rg [mV 6 (cI 3)] [6])
.ret)
(.seq (rg [mV 34 8,
mV 33 34] [0,1,5,33])
(.cond 33 (.seq (rg [mV 6 (cI 12)] [6])
.ret)
.skip)))))))
(.seq (dr [dF (mV 35 1) [1],
dF (mV 36 1) [1],
dF (mV 37 1) [1],
dF (fA 38 2 none 5) [5],
dF (lD 39 none 38) [38],
dF (fA 40 0 none 5) [5],
dF (lD 41 none 40) [40],
dF (uO 42 (.nilchk 35)) [35],
dF (fA 43 0 none 42) [42],
dA (wO (.store none 43 (cI 2))) [43] true [] [4,6],
dF (uO 44 (.nilchk 36)) [36],
dF (fA 45 1 none 44) [44],
dA (wO (.store none 45 39)) [45,39] true [] [6],
dF (uO 46 (.nilchk 37)) [37],
dF (fA 47 3 none 46) [46],
dT (wO (.store none 47 41)) [47,41]] [0,5])
(.seq (dr [dF (mV 48 0) [0],
dF (uO 49 (.nilchk 48)) [48],
dF (fA 50 3 none 49) [49],
dF (lD 51 none 50) [50],
dF (fA 52 0 none 5) [5],
dF (lD 53 none 52) [52],
dF (fA 54 4 none 5) [5],
dF (lD 55 none 54) [54],
dT (wO (.mupd (none,[2]) 51 53 55)) [51,53,55]] [0,5])
(.seq (dr [dF (mV 56 0) [0],
dF (mV 57 0) [0],
dF (uO 58 (.nilchk 57)) [57],
dF (fA 59 5 none 58) [58],
dF (lD 60 none 59) [59],
dF (fA 61 0 none 5) [5],
dF (lD 62 none 61) [61],
dF (fA 63 2 none 5) [5],
dF (lD 64 none 63) [63],
dF (uO 65 (.build [.p (.str []),.p (.int .i64 0),.p (.int .i64 0)] [(0,1,62),(1,1,64),(2,1,(cI (-1)))])) [62,64],
dF (uO 66 (.bsl false (some 3) 1 (.agg [.str [],.int .i64 0,.int .i64 0]) [(0,65)])) [65],
dT (uO 67 (.app (some 3) 60 66)) [60,66],
dF (uO 68 (.nilchk 56)) [56],
dF (fA 69 5 none 68) [68],
dT (wO (.store none 69 67)) [69,67]] [])
(.seq (rg [mV 6 (cI 0)] [6])
.ret)))))))
def a_q07g : AFun:=⟨3,[.t 6],P_q07g,false,false⟩
def p_q07h_k1 : ACode:=.pr [0,3,5,38,45] (.cond 45 (.seq (rg [mV 48 0,
mV 49 5,
lD 50 (some 8) 3,
cL 51 f_q07e [48,49,50],
mV 4 51] [4])
.ret)
(.seq (rg [bN 53 .eql 38 (cI 5),
mV 52 53] [0,3,5,52])
(.cond 52 (.seq (.seq (rg [mV 54 5,
uO 55 (.nilchk 54),
fA 56 0 none 55,
lD 57 none 56,
bN 58 .neq 57 (cI 3)] [3,5,58])
(.cond 58 (.seq (rg [mV 4 (cI 11)] [4])
.ret)
.skip))
(.seq (dr [dF (mV 59 5) [5],
dF (mV 60 5) [5],
dF (fA 61 2 none 3) [3],
dF (lD 62 none 61) [61],
dF (uO 63 (.nilchk 59)) [59],
dF (fA 64 0 none 63) [63],
dA (wO (.store none 64 (cI 1))) [64] true [] [3],
dF (uO 65 (.nilchk 60)) [60],
dF (fA 66 1 none 65) [65],
dT (wO (.store none 66 62)) [66,62]] [])
(.seq (rg [mV 4 (cI 0)] [4])
.ret)))
.skip)))
def p_q07h_k2 : ACode:=.pr [3,5] (.seq (dr [dF (mV 89 5) [5],
dF (mV 90 5) [5],
dF (fA 91 2 none 3) [3],
dF (lD 92 none 91) [91],
dF (uO 93 (.nilchk 89)) [89],
dF (fA 94 0 none 93) [93],
dA (wO (.store none 94 (cI 5))) [94] true [] [3],
dF (uO 95 (.nilchk 90)) [90],
dF (fA 96 1 none 95) [95],
dT (wO (.store none 96 92)) [96,92]] [])
(.seq (rg [mV 4 (cI 0)] [4])
.ret))
def P_q07h_k3 (q2 : ACode) : ACode:=.pr [0,3,5] (.seq (.seq (rg [mV 67 5,
uO 68 (.nilchk 67),
fA 69 0 none 68,
lD 70 none 69,
bN 71 .eql 70 (cI 4),
mV 72 71,
gD 73 72 false (.mv 5),
gD 74 72 false (.nilchk 73),
gD 75 72 false (.faddr 0 none 74),
gD 76 72 false (.load none 75),
gD 77 72 false (.bin .eql 76 (cI 5)),
uO 78 (.pick 72 cT 77)] [0,3,5,78])
(.cond 78 (.seq (rg [mV 4 (cI 11)] [4])
.ret)
.skip))
(.seq (.seq (rg [mV 79 5,
uO 80 (.nilchk 79),
fA 81 0 none 80,
lD 82 none 81,
bN 83 .eql 82 (cI 2)] [0,3,5,83])
(.cond 83 (rg [mV 84 0,
mV 85 5,
fA 86 2 none 3,
lD 87 none 86,
cL 88 f_q07f [84,85,87]] [3,5])
.skip))
q2))
def p_q07h_k3 : ACode:=P_q07h_k3 p_q07h_k2
def P_q07h (q1 q3 : ACode) : ACode:=(.seq (rg [uO 3 (.box 1),
mV 4 (cI 0)] [0,3])
(.seq (dr [dF (mV 6 0) [0],
dF (uO 7 (.nilchk 6)) [6],
dF (fA 8 2 none 7) [7],
dF (lD 9 none 8) [8],
dF (fA 10 4 none 3) [3],
dF (lD 11 none 10) [10],
dF (uO 12 (.look (none,[2]) false (.nilp) 9 11)) [9,11],
dF (mV 5 12) [12]] [0,3,5])
(.seq (.seq (rg [fA 13 3 none 3,
lD 14 none 13,
bN 15 .eql 14 (cI 1)] [0,3,5,15])
(.cond 15 (.seq (.seq (rg [mV 16 5,
uO 17 (.isnil 0 true 16)] [0,3,17])
(.cond 17 (.seq (rg [mV 4 (cI 6)] [4])
.ret)
.skip))
(.seq (dr [dF (mV 18 0) [0],
dF (uO 19 (.nilchk 18)) [18],
dF (fA 20 2 none 19) [19],
dF (lD 21 none 20) [20],
dF (fA 22 4 none 3) [3],
dF (lD 23 none 22) [22],
dF (fA 24 2 none 3) [3],
dF (lD 25 none 24) [24],
dF (mV 26 0) [0],
dF (uO 27 (.nilchk 26)) [26],
dF (fA 28 0 (some 2) 27) [27],
dF (fA 29 0 none 28) [28],
dF (lD 30 none 29) [29],
dF (iA 31 none 30 (cI 0)) [30],
dF (lD 32 none 31) [31],
dF (uO 33 (.build [.p (.int .i64 0),.p (.int .i64 0),.p (.str []),.p (.str []),.p (.int .i64 0)] [(0,1,(cI 1)),(1,1,25),(2,1,32)])) [25,32],
dA (uO 34 (.box 33)) [33] true [] [3,5],
dT (wO (.mupd (none,[2]) 21 23 34)) [21,23,34]] [])
(.seq (rg [mV 4 (cI 0)] [4])
.ret)))
.skip))
(.seq (.seq (rg [mV 35 5,
uO 36 (.isnil 0 false 35)] [0,3,5,36])
(.cond 36 (.seq (rg [mV 4 (cI 8)] [4])
.ret)
.skip))
(.seq (.seq (rg [fA 37 3 none 3,
lD 38 none 37] [0,3,5,38])
(.block 0 (.seq (rg [bN 40 .eql 38 (cI 2),
mV 39 40] [0,3,5,38,39])
(.cond 39 (.seq (rg [mV 41 0,
mV 42 5,
lD 43 (some 8) 3,
cL 44 f_q07g [41,42,43],
mV 4 44] [4])
.ret)
(.seq (.seq (rg [bN 46 .eql 38 (cI 3),
mV 45 46] [0,3,5,38,45])
(.cond 45 .skip
(rg [bN 47 .eql 38 (cI 4),
mV 45 47] [0,3,5,38,45])))
q1)))))
q3)))))
def a_q07h : AFun:=⟨2,[.t 4],P_q07h p_q07h_k1 p_q07h_k3,false,false⟩
def p_q07i_k1 : ACode:=.pr [5,6,17,18,19] (rg [bN 59 .add 19 (cI 1),
mV 19 59] [5,6,17,18,19])
def P_q07i_k2 (q1 : ACode) : ACode:=.pr [5,6,17,18,19] (.seq (rg [bN 20 .lss 19 18] [5,6,17,18,19,20])
(.seq (.cond 20 .skip
(.exit 0))
(.seq (.block 1 (.seq (rg [mV 21 19,
iA 22 (some 8) 17 19,
lD 23 (some 8) 22,
uO 8 (.alloc [.p (.str []),.p (.int .i64 0),.p (.int .i64 0),.p (.int .i64 0),.p (.str []),.p (.str []),.p (.str []),.p (.int .i64 0)]),
mV 7 21,
wO (.store (some 8) 8 23)] [5,6,7,8,17,18,19])
(.seq (.seq (rg [mV 24 6,
mV 25 7,
iA 26 none 24 25,
lD 27 none 26,
uO 28 (.un .not 27),
mV 29 28,
gD 30 29 false (.faddr 3 none 8),
gD 31 29 false (.load none 30),
gD 32 29 false (.bin .eql 31 (cI 7)),
uO 33 (.pick 29 cT 32)] [5,6,7,8,17,18,19,33])
(.cond 33 (.exit 1)
.skip))
(.seq (rg [mV 34 5,
lD 35 (some 8) 8,
cL 36 f_q07h [34,35],
mV 9 36] [5,6,7,9,17,18,19])
(.seq (rg [mV 37 9,
bN 38 .neq 37 (cI 0)] [5,6,7,9,17,18,19,38])
(.cond 38 (.seq (rg [mV 39 5,
mV 40 5,
uO 41 (.nilchk 40),
fA 42 6 none 41,
lD 43 none 42,
mV 44 7,
uO 45 (.bsl false none 1 (.int .i64 0) [(0,44)]),
uO 46 (.app none 43 45),
uO 47 (.nilchk 39),
fA 48 6 none 47,
wO (.store none 48 46)] [5,6,9,17,18,19])
(rg [mV 49 5,
mV 50 5,
uO 51 (.nilchk 50),
fA 52 7 none 51,
lD 53 none 52,
mV 54 9,
uO 55 (.bsl false none 1 (.int .i64 0) [(0,54)]),
uO 56 (.app none 53 55),
uO 57 (.nilchk 49),
fA 58 7 none 57,
wO (.store none 58 56)] [5,6,17,18,19]))
.skip))))))
q1)))
def p_q07i_k2 : ACode:=P_q07i_k2 p_q07i_k1
def p_q07i_k3 : ACode:=.pr [5] (.seq (rg [mV 60 5,
mV 4 60] [4])
.ret)
def P_q07i (q2 q3 : ACode) : ACode:=(.seq (rg [uO 2 (.box 0),
mV 4 (.c (.nilp))] [1,2])
(.seq (rg [lD 10 (some 2) 2,
uO 11 (.mkmap),
uO 12 (.mkmap),
uO 13 (.build [.sl0 none,.p (.int .i64 0),.nilm,.nilm,.sl0 (some 5),.sl0 (some 3),.sl0 none,.sl0 none] [(0,2,10),(2,1,11),(3,1,12)]),
uO 14 (.box 13),
mV 5 14] [1,5])
(.seq (rg [mV 15 1,
cL 16 f_q07a [15],
mV 6 16] [1,5,6])
(.seq (.seq (rg [mV 17 1,
lN 18 17,
mV 19 (cI 0)] [5,6,17,18,19])
(.block 0 (.loop (.scope q2))))
q3))))
def a_q07i : AFun:=⟨2,[.t 4],P_q07i p_q07i_k2 p_q07i_k3,false,false⟩
def P_q07j : ACode:=(.seq (rg [mV 2 (cI 0)] [0])
(.seq (.seq (rg [mV 3 0,
cL 4 f_q007 [3],
uO 5 (.un .not 4)] [5])
(.cond 5 (.seq (rg [mV 2 (cI 1)] [2])
.ret)
.skip))
(.seq (rg [mV 2 (cI 0)] [2])
.ret)))
def a_q07j : AFun:=⟨1,[.t 2],P_q07j,false,false⟩
def p_q07k_k1 : ACode:=.pr [3,8,9,10] (.seq (rg [bN 11 .lss 10 9] [3,8,9,10,11])
(.seq (.cond 11 .skip
(.exit 0))
(.seq (.block 1 (.seq (rg [iA 12 (some 8) 8 10,
lD 13 (some 8) 12,
uO 5 (.alloc [.p (.str []),.p (.int .i64 0),.p (.int .i64 0),.p (.int .i64 0),.p (.str []),.p (.str []),.p (.str []),.p (.int .i64 0)]),
wO (.store (some 8) 5 13)] [3,5,8,9,10])
(.seq (rg [fA 14 0 none 5,
lD 15 none 14,
fA 16 1 none 5,
lD 17 none 16,
uO 18 (.build [.p (.str []),.p (.int .i64 0)] [(0,1,15),(1,1,17)]),
uO 6 (.alloc [.p (.str []),.p (.int .i64 0)]),
wO (.store (some 2) 6 18)] [3,6,8,9,10])
(.seq (.seq (rg [mV 19 3,
lD 20 (some 2) 6,
uO 21 (.look ((some 2),[2,0]) false (AB false) 19 20)] [3,6,8,9,10,21])
(.cond 21 (.seq (rg [mV 2 cT] [2])
.ret)
.skip))
(rg [mV 22 3,
lD 23 (some 2) 6,
wO (.mupd ((some 2),[2,0]) 22 23 cT)] [3,8,9,10])))))
(rg [bN 24 .add 10 (cI 1),
mV 10 24] [3,8,9,10]))))
def p_q07k_k2 : ACode:=.pr [] (.seq (rg [mV 2 cF] [2])
.ret)
def P_q07k (q1 q2 : ACode) : ACode:=(.seq (rg [mV 2 cF] [0])
(.seq (rg [uO 7 (.mkmap),
mV 3 7] [0,3])
(.seq (.seq (rg [mV 8 0,
lN 9 8,
mV 10 (cI 0)] [3,8,9,10])
(.block 0 (.loop (.scope q1))))
q2)))
def a_q07k : AFun:=⟨1,[.t 2],P_q07k p_q07k_k1 p_q07k_k2,false,false⟩
def p_q07l_k1 : ACode:=.pr [0,1,5] (.seq (.seq (rg [mV 8 5,
bN 9 .gtr 8 (cI 0),
mV 10 9,
gD 11 10 true (.mv 0),
gD 12 10 true (.mv 5),
gD 13 10 true (.bin .sub 12 (cI 1)),
gD 14 10 true (.iaddr (some 8) 11 13),
gD 15 10 true (.faddr 2 none 14),
gD 16 10 true (.load none 15),
gD 17 10 true (.mv 1),
gD 18 10 true (.bin .gtr 16 17),
uO 19 (.pick 10 18 cF)] [0,1,5,19])
(.cond 19 .skip
(.exit 0)))
(.block 1 (rg [mV 20 5,
bN 21 .sub 20 (cI 1),
mV 5 21] [0,1,5])))
def p_q07l_k2 : ACode:=.pr [0,5] (.seq (rg [mV 22 0,
mV 23 5,
uO 24 (.slice (some 8) 22 none (some 23) none),
mV 4 24] [4])
.ret)
def P_q07l (q1 q2 : ACode) : ACode:=(.seq (rg [mV 4 (.c (.p (.sl (some 8) [])))] [0,1])
(.seq (rg [mV 6 0,
lN 7 6,
mV 5 7] [0,1,5])
(.seq (.block 0 (.loop q1))
q2)))
def a_q07l : AFun:=⟨2,[.t 4],P_q07l p_q07l_k1 p_q07l_k2,false,false⟩
def P_q083 : ACode:=(.seq (rg [mV 4 (cI 0)] [0,1])
(.seq (rg [mV 5 0,
mV 6 1,
cL 7 f_q021 [5,6],
mV 4 7] [4])
.ret))
def a_q083 : AFun:=⟨2,[.t 4],P_q083,false,false⟩
def P_q08r : ACode:=(.seq (rg [mV 4 (cS []),
mV 5 (cI 0)] [0,1])
(.seq (.seq (rg [mV 6 0,
cL 7 f_q08s [6],
uO 8 (.un .not 7),
mV 9 8,
gD 10 9 false (.mv 1),
gD 11 9 false (.call f_q08s [10]),
gD 12 9 false (.un .not 11),
uO 13 (.pick 9 cT 12)] [0,1,13])
(.cond 13 (.seq (rg [mV 4 (cS []),
mV 5 (cI 1)] [4,5])
.ret)
.skip))
(.seq (rg [mV 14 0,
mV 15 1,
cL 16 f_q08u [14,15],
mV 4 16,
mV 5 (cI 0)] [4,5])
.ret)))
def a_q08r : AFun:=⟨2,[.t 4,.t 5],P_q08r,false,false⟩
def P_q08s : ACode:=(.seq (rg [mV 2 cF] [0])
(.seq (rg [mV 3 0,
cL 4 f_q00a [3,(cI 0),(cI 15)],
uO 5 (.un .not 4),
mV 2 5] [2])
.ret))
def a_q08s : AFun:=⟨1,[.t 2],P_q08s,false,false⟩
def P_q08t : ACode:=(.seq (rg [mV 4 (cI 0)] [0,1])
(.seq (rg [uO 6 (.build [.p (.int .i64 0),.p (.int .i64 0)] [(0,1,(cI 1)),(1,1,(cI 0))]),
uO 7 (.build [.p (.int .i64 0),.p (.int .i64 0)] [(0,1,(cI 1)),(1,1,(cI 2))]),
uO 8 (.build [.p (.int .i64 0),.p (.int .i64 0)] [(0,1,(cI 3)),(1,1,(cI 9))]),
uO 9 (.build [.p (.int .i64 0),.p (.int .i64 0)] [(0,1,(cI 4)),(1,1,(cI 5))]),
uO 10 (.build [.p (.int .i64 0),.p (.int .i64 0)] [(0,1,(cI 4)),(1,1,(cI 5))]),
uO 11 (.build [.p (.int .i64 0),.p (.int .i64 0)] [(0,1,(cI 6)),(1,1,(cI 8))]),
uO 12 (.build [.p (.int .i64 0),.p (.int .i64 0)] [(0,1,(cI 6)),(1,1,(cI 7))]),
uO 13 (.build [.p (.int .i64 0),.p (.int .i64 0)] [(0,1,(cI 4)),(1,1,(cI 8))]),
uO 14 (.build [.p (.int .i64 0),.p (.int .i64 0)] [(0,1,(cI 1)),(1,1,(cI 2))]),
uO 15 (.build [.p (.int .i64 0),.p (.int .i64 0)] [(0,1,(cI 10)),(1,1,(cI 0))]),
uO 16 (.build [.p (.int .i64 0),.p (.int .i64 0)] [(0,1,(cI 11)),(1,1,(cI 12))]),
uO 17 (.build [.p (.int .i64 0),.p (.int .i64 0)] [(0,1,(cI 11)),(1,1,(cI 12))]),
uO 18 (.build [.p (.int .i64 0),.p (.int .i64 0)] [(0,1,(cI 13)),(1,1,(cI 15))]),
uO 19 (.build [.p (.int .i64 0),.p (.int .i64 0)] [(0,1,(cI 13)),(1,1,(cI 14))]),
uO 20 (.build [.p (.int .i64 0),.p (.int .i64 0)] [(0,1,(cI 11)),(1,1,(cI 15))]),
uO 21 (.build [.p (.int .i64 0),.p (.int .i64 0)] [(0,1,(cI 1)),(1,1,(cI 2))]),
uO 22 (.build [.p (.int .i64 0),.p (.int .i64 0),.p (.int .i64 0),.p (.int .i64 0),.p (.int .i64 0),.p (.int .i64 0),.p (.int .i64 0),.p (.int .i64 0),.p (.int .i64 0),.p (.int .i64 0),.p (.int .i64 0),.p (.int .i64 0),.p (.int .i64 0),.p (.int .i64 0),.p (.int .i64 0),.p (.int .i64 0),.p (.int .i64 0),.p (.int .i64 0),.p (.int .i64 0),.p (.int .i64 0),.p (.int .i64 0),.p (.int .i64 0),.p (.int .i64 0),.p (.int .i64 0),.p (.int .i64 0),.p (.int .i64 0),.p (.int .i64 0),.p (.int .i64 0),.p (.int .i64 0),.p (.int .i64 0),.p (.int .i64 0),.p (.int .i64 0)] [(0,2,6),(2,2,7),(4,2,8),(6,2,9),(8,2,10),(10,2,11),(12,2,12),(14,2,13),(16,2,14),(18,2,15),(20,2,16),(22,2,17),(24,2,18),(26,2,19),(28,2,20),(30,2,21)]),
uO 5 (.alloc [.p (.int .i64 0),.p (.int .i64 0),.p (.int .i64 0),.p (.int .i64 0),.p (.int .i64 0),.p (.int .i64 0),.p (.int .i64 0),.p (.int .i64 0),.p (.int .i64 0),.p (.int .i64 0),.p (.int .i64 0),.p (.int .i64 0),.p (.int .i64 0),.p (.int .i64 0),.p (.int .i64 0),.p (.int .i64 0),.p (.int .i64 0),.p (.int .i64 0),.p (.int .i64 0),.p (.int .i64 0),.p (.int .i64 0),.p (.int .i64 0),.p (.int .i64 0),.p (.int .i64 0),.p (.int .i64 0),.p (.int .i64 0),.p (.int .i64 0),.p (.int .i64 0),.p (.int .i64 0),.p (.int .i64 0),.p (.int .i64 0),.p (.int .i64 0)]),
wO (.store (some 32) 5 22)] [0,1,5])
(.seq (rg [mV 23 0,
mV 24 1,
uO 25 (.iaddra 16 (some 2) 5 23),
uO 26 (.iaddra 2 none 25 24),
lD 27 none 26,
mV 4 27] [4])
.ret)))
def a_q08t : AFun:=⟨2,[.t 4],P_q08t,false,false⟩
def d_q08t (C : Hd) (gl : GL) (v0 v1 : AV) (h : Heap) (x : Esc) (K : KT) : Prop:=
 pK (oBuild [.p (.int .i64 0),.p (.int .i64 0)] [(0,1,(AI 1)),(1,1,(AI 0))]) fun t1=>
 pK (oBuild [.p (.int .i64 0),.p (.int .i64 0)] [(0,1,(AI 1)),(1,1,(AI 2))]) fun t2=>
 pK (oBuild [.p (.int .i64 0),.p (.int .i64 0)] [(0,1,(AI 3)),(1,1,(AI 9))]) fun t3=>
 pK (oBuild [.p (.int .i64 0),.p (.int .i64 0)] [(0,1,(AI 4)),(1,1,(AI 5))]) fun t4=>
 pK (oBuild [.p (.int .i64 0),.p (.int .i64 0)] [(0,1,(AI 4)),(1,1,(AI 5))]) fun t5=>
 pK (oBuild [.p (.int .i64 0),.p (.int .i64 0)] [(0,1,(AI 6)),(1,1,(AI 8))]) fun t6=>
 pK (oBuild [.p (.int .i64 0),.p (.int .i64 0)] [(0,1,(AI 6)),(1,1,(AI 7))]) fun t7=>
 pK (oBuild [.p (.int .i64 0),.p (.int .i64 0)] [(0,1,(AI 4)),(1,1,(AI 8))]) fun t8=>
 pK (oBuild [.p (.int .i64 0),.p (.int .i64 0)] [(0,1,(AI 1)),(1,1,(AI 2))]) fun t9=>
 pK (oBuild [.p (.int .i64 0),.p (.int .i64 0)] [(0,1,(AI 10)),(1,1,(AI 0))]) fun t10=>
 pK (oBuild [.p (.int .i64 0),.p (.int .i64 0)] [(0,1,(AI 11)),(1,1,(AI 12))]) fun t11=>
 pK (oBuild [.p (.int .i64 0),.p (.int .i64 0)] [(0,1,(AI 11)),(1,1,(AI 12))]) fun t12=>
 pK (oBuild [.p (.int .i64 0),.p (.int .i64 0)] [(0,1,(AI 13)),(1,1,(AI 15))]) fun t13=>
 pK (oBuild [.p (.int .i64 0),.p (.int .i64 0)] [(0,1,(AI 13)),(1,1,(AI 14))]) fun t14=>
 pK (oBuild [.p (.int .i64 0),.p (.int .i64 0)] [(0,1,(AI 11)),(1,1,(AI 15))]) fun t15=>
 pK (oBuild [.p (.int .i64 0),.p (.int .i64 0)] [(0,1,(AI 1)),(1,1,(AI 2))]) fun t16=>
 pK (oBuild [.p (.int .i64 0),.p (.int .i64 0),.p (.int .i64 0),.p (.int .i64 0),.p (.int .i64 0),.p (.int .i64 0),.p (.int .i64 0),.p (.int .i64 0),.p (.int .i64 0),.p (.int .i64 0),.p (.int .i64 0),.p (.int .i64 0),.p (.int .i64 0),.p (.int .i64 0),.p (.int .i64 0),.p (.int .i64 0),.p (.int .i64 0),.p (.int .i64 0),.p (.int .i64 0),.p (.int .i64 0),.p (.int .i64 0),.p (.int .i64 0),.p (.int .i64 0),.p (.int .i64 0),.p (.int .i64 0),.p (.int .i64 0),.p (.int .i64 0),.p (.int .i64 0),.p (.int .i64 0),.p (.int .i64 0),.p (.int .i64 0),.p (.int .i64 0)] [(0,2,t1),(2,2,t2),(4,2,t3),(6,2,t4),(8,2,t5),(10,2,t6),(12,2,t7),(14,2,t8),(16,2,t9),(18,2,t10),(20,2,t11),(22,2,t12),(24,2,t13),(26,2,t14),(28,2,t15),(30,2,t16)]) fun t17=>
 alK [.p (.int .i64 0),.p (.int .i64 0),.p (.int .i64 0),.p (.int .i64 0),.p (.int .i64 0),.p (.int .i64 0),.p (.int .i64 0),.p (.int .i64 0),.p (.int .i64 0),.p (.int .i64 0),.p (.int .i64 0),.p (.int .i64 0),.p (.int .i64 0),.p (.int .i64 0),.p (.int .i64 0),.p (.int .i64 0),.p (.int .i64 0),.p (.int .i64 0),.p (.int .i64 0),.p (.int .i64 0),.p (.int .i64 0),.p (.int .i64 0),.p (.int .i64 0),.p (.int .i64 0),.p (.int .i64 0),.p (.int .i64 0),.p (.int .i64 0),.p (.int .i64 0),.p (.int .i64 0),.p (.int .i64 0),.p (.int .i64 0),.p (.int .i64 0)] h fun t18 h19 y20=>
 wK (oStore (some 32) t18 t17 h19) fun t21 h22 y23=>
 pK (oIaddra 16 (some 2) t18 v0) fun t24=>
 pK (oIaddra 2 none t24 v1) fun t25=>
 pK (oLoad none t25 h22) fun t26=>
 K .ret ⟨[(4,t26)],h22,(y23 ++ (y20 ++ x))⟩
theorem e_q08t {C gl v0 v1 h x K} : NW C gl a_q08t.body ⟨enter [v0,v1],h,x⟩ K = d_q08t C gl v0 v1 h x K:=by kernel_rfl
def p_q08u_k1 : ACode:=.pr [1,5,6,7,25] (rg [bN 53 .add 25 (cI 1),
mV 25 53] [1,5,6,7,25])
def d_q08u_k1 (C : Hd) (gl : GL) (v1 v5 v6 v7 v25 : AV) (h : Heap) (x : Esc) (K : KT) : Prop:=
 pK (oBin .add v25 (AI 1)) fun t1=>
 K .normal ⟨[(1,v1),(5,v5),(6,v6),(7,v7),(25,t1)],h,x⟩
theorem e_q08u_k1 {C gl e h x K} : NW C gl p_q08u_k1 ⟨e,h,x⟩ K = d_q08u_k1 C gl (aget e 1) (aget e 5) (aget e 6) (aget e 7) (aget e 25) h x K:=by kernel_rfl
def P_q08u_k2 (q1 : ACode) : ACode:=.pr [1,5,6,7,25] (.seq (rg [bN 26 .lss 25 (cI 2)] [1,5,6,7,25,26])
(.seq (.cond 26 .skip
(.exit 2))
(.seq (.block 3 (.seq (rg [mV 27 25,
mV 8 27] [1,5,6,7,8,25])
(.seq (rg [mV 28 7,
mV 29 8,
cL 30 f_q08t [28,29],
mV 9 30] [1,5,6,7,8,9,25])
(.seq (rg [mV 32 5,
mV 33 9,
uO 34 (.look (none,[0]) true (.p (.str [])) 32 33),
mV 31 34,
eX 35 31 0,
eX 36 31 1,
mV 10 35,
mV 11 36] [1,5,6,7,8,9,11,25])
(.seq (rg [mV 37 11,
uO 38 (.un .not 37)] [1,5,6,7,8,9,25,38])
(.cond 38 (.seq (rg [mV 39 5,
mV 40 9,
mV 41 5,
mV 42 7,
uO 43 (.look (none,[0]) false (.p (.str [])) 41 42),
mV 44 8,
bN 45 .add (cI 48) 44,
uO 46 (.conv (.i .i32) 45),
uO 47 (.conv .r2s 46),
bN 48 .add 43 47,
wO (.mupd (none,[0]) 39 40 48)] [1,5,6,7,9,25])
(rg [mV 49 6,
mV 50 9,
uO 51 (.bsl false none 1 (.int .i64 0) [(0,50)]),
uO 52 (.mnext (some none) [49,51]),
mV 6 52] [1,5,6,7,25]))
.skip))))))
q1)))
def p_q08u_k2 : ACode:=P_q08u_k2 p_q08u_k1
def d_q08u_k2 (C : Hd) (gl : GL) (q1 : ACode) (v1 v5 v6 v7 v25 : AV) (h : Heap) (x : Esc) (K : KT) : Prop:=
 pK (oBin .lss v25 (AI 2)) fun t1=>
 condB t1 (C f_q08t [v7,v25] h fun t2 h3 y4=>
 pK (oLook (none,[0]) true (.p (.str [])) v5 t2 h3) fun t5=>
 pK (oExt t5 0) fun t6=>
 pK (oExt t5 1) fun t7=>
 pK (oUn .not t7) fun t8=>
 condB t8 (pK (oLook (none,[0]) false (.p (.str [])) v5 v7 h3) fun t9=>
 pK (oBin .add (AI 48) v25) fun t10=>
 pK (oConvI .i32 t10) fun t11=>
 wK (oConv .r2s t11 h3) fun t12 h13 y14=>
 pK (oBin .add t9 t12) fun t15=>
 wK (oMupd (none,[0]) v5 t2 t15 h13) fun t16 h17 y18=>
 wK (oBsl false none 1 (.int .i64 0) [(0,t2)] h17) fun t19 h20 y21=>
 nqK (some none) [v6,t19] h20 fun t22 h23 y24=>
 NW C gl q1 ⟨[(1,v1),(5,v5),(6,t22),(7,v7),(25,v25)],h23,(y24 ++ (y21 ++ (y18 ++ (y14 ++ (y4 ++ x)))))⟩ K)
 (NW C gl q1 ⟨[(1,v1),(5,v5),(6,v6),(7,v7),(8,v25),(9,t2),(25,v25),(38,t8)],h3,(y4 ++ x)⟩ K))
 (K (.exit 2) ⟨[(1,v1),(5,v5),(6,v6),(7,v7),(25,v25),(26,t1)],h,x⟩)
theorem E_q08u_k2 {C gl q1 e h x K} : NW C gl (P_q08u_k2 q1) ⟨e,h,x⟩ K = d_q08u_k2 C gl q1 (aget e 1) (aget e 5) (aget e 6) (aget e 7) (aget e 25) h x K:=by kernel_rfl
theorem e_q08u_k2 {C gl e h x K} : NW C gl p_q08u_k2 ⟨e,h,x⟩ K = d_q08u_k2 C gl p_q08u_k1 (aget e 1) (aget e 5) (aget e 6) (aget e 7) (aget e 25) h x K:=E_q08u_k2
theorem l_q08u_k2 {C gl e h x K} : NW C gl (.loop p_q08u_k2) ⟨e,h,x⟩ K = NLoop C gl p_q08u_k2 K [(1,aget e 1),(5,aget e 5),(6,aget e 6),(7,aget e 7),(25,aget e 25)] h x:=NLoop_pr
def P_q08u_k3 (q2 : ACode) : ACode:=.pr [1,5,6] (.seq (.seq (rg [mV 17 6,
lN 18 17,
bN 19 .gtr 18 (cI 0)] [1,5,6,19])
(.cond 19 .skip
(.exit 0)))
(.block 1 (.seq (rg [mV 20 6,
iA 21 none 20 (cI 0),
lD 22 none 21,
mV 7 22] [1,5,6,7])
(.seq (rg [mV 23 6,
uO 24 (.slice none 23 (some (cI 1)) none none),
mV 6 24] [1,5,6,7])
(.seq (rg [mV 25 (cI 0)] [1,5,6,7,25])
(.block 2 (.loop q2)))))))
def p_q08u_k3 : ACode:=P_q08u_k3 p_q08u_k2
def d_q08u_k3 (C : Hd) (gl : GL) (q2 : ACode) (v1 v5 v6 : AV) (h : Heap) (x : Esc) (K : KT) : Prop:=
 pK (oLen v6) fun t1=>
 pK (oBin .gtr t1 (AI 0)) fun t2=>
 condB t2 (pK (oIaddr none v6 (AI 0) h) fun t3=>
 pK (oLoad none t3 h) fun t4=>
 pK (oSlice none v6 (some (AI 1)) none none h) fun t5=>
 NW C gl (.loop q2) ⟨[(1,v1),(5,v5),(6,t5),(7,t4),(25,(AI 0))],h,x⟩ (blockN 2 (blockN 1 K)))
 (K (.exit 0) ⟨[(1,v1),(5,v5),(6,v6),(19,t2)],h,x⟩)
theorem E_q08u_k3 {C gl q2 e h x K} : NW C gl (P_q08u_k3 q2) ⟨e,h,x⟩ K = d_q08u_k3 C gl q2 (aget e 1) (aget e 5) (aget e 6) h x K:=by kernel_rfl
theorem e_q08u_k3 {C gl e h x K} : NW C gl p_q08u_k3 ⟨e,h,x⟩ K = d_q08u_k3 C gl p_q08u_k2 (aget e 1) (aget e 5) (aget e 6) h x K:=E_q08u_k3
theorem l_q08u_k3 {C gl e h x K} : NW C gl (.loop p_q08u_k3) ⟨e,h,x⟩ K = NLoop C gl p_q08u_k3 K [(1,aget e 1),(5,aget e 5),(6,aget e 6)] h x:=NLoop_pr
def p_q08u_k4 : ACode:=.pr [1,5] (.seq (rg [mV 54 5,
mV 55 1,
uO 56 (.look (none,[0]) false (.p (.str [])) 54 55),
mV 4 56] [4])
.ret)
def d_q08u_k4 (C : Hd) (gl : GL) (v1 v5 : AV) (h : Heap) (x : Esc) (K : KT) : Prop:=
 pK (oLook (none,[0]) false (.p (.str [])) v5 v1 h) fun t1=>
 K .ret ⟨[(4,t1)],h,x⟩
theorem e_q08u_k4 {C gl e h x K} : NW C gl p_q08u_k4 ⟨e,h,x⟩ K = d_q08u_k4 C gl (aget e 1) (aget e 5) h x K:=by kernel_rfl
def P_q08u (q3 q4 : ACode) : ACode:=(.det (.seq (rg [mV 4 (cS [])] [0,1])
(.seq (rg [uO 12 (.mkmap),
mV 13 0,
wO (.mupd (none,[0]) 12 13 (cS [])),
mV 14 12,
mV 5 14] [0,1,5])
(.seq (rg [mV 15 0,
uO 16 (.bsl true none 1 (.int .i64 0) [(0,15)]),
mV 6 16] [1,5,6])
(.seq (.block 0 (.loop q3))
q4)))))
def a_q08u : AFun:=⟨2,[.t 4],P_q08u p_q08u_k3 p_q08u_k4,false,false⟩
def d_q08u (C : Hd) (gl : GL) (q3 q4 : ACode) (v0 v1 : AV) (h : Heap) (x : Esc) (K : KT) : Prop:=
 mmK h fun t1 h2 y3=>
 wK (oMupd (none,[0]) t1 v0 (.p (.str [])) h2) fun t4 h5 y6=>
 wK (oBsl true none 1 (.int .i64 0) [(0,v0)] h5) fun t7 h8 y9=>
 NW C gl (.loop q3) ⟨[(1,v1),(5,t1),(6,t7)],h8,(y9 ++ (y6 ++ (y3 ++ x)))⟩ (blockN 0 (seqN C gl q4 K))
theorem E_q08u {C gl q3 q4 v0 v1 h x K} : NW C gl (P_q08u q3 q4) ⟨enter [v0,v1],h,x⟩ K = d_q08u C gl q3 q4 v0 v1 h x K:=by kernel_rfl
theorem e_q08u {C gl v0 v1 h x K} : NW C gl a_q08u.body ⟨enter [v0,v1],h,x⟩ K = d_q08u C gl p_q08u_k3 p_q08u_k4 v0 v1 h x K:=E_q08u
def p_q093_k1 : ACode:=.pr [0,10,11,12] (.seq (rg [bN 13 .lss 12 11] [0,10,11,12,13])
(.seq (.cond 13 .skip
(.exit 0))
(.seq (.block 1 (.seq (rg [iA 14 (some 6) 10 12,
lD 15 (some 6) 14,
uO 4 (.alloc [.p (.int .i64 0),.p (.int .i64 0),.p (.int .i64 0),.p (.str []),.p (.str []),.p (.str [])]),
wO (.store (some 6) 4 15)] [0,4,10,11,12])
(.seq (.seq (rg [fA 16 0 none 4,
lD 17 none 16,
cL 18 f_q00a [17,(cI 1),(cI 10)]] [0,4,10,11,12,18])
(.cond 18 (.seq (rg [mV 2 (cI 4)] [2])
.ret)
.skip))
(.seq (rg [lD 20 (some 6) 4,
cL 21 f_q097 [20],
mV 19 21,
eX 22 19 0,
eX 23 19 1,
uO 5 (.alloc [.p (.int .i64 0),.p (.int .i64 0),.p (.int .i64 0),.p (.str []),.p (.str []),.p (.str [])]),
wO (.store (some 6) 5 22),
mV 6 23] [0,4,5,6,10,11,12])
(.block 2 (.seq (rg [mV 25 6,
bN 26 .neq 25 (cI 0),
mV 24 26] [0,4,5,6,10,11,12,24])
(.cond 24 (.seq (rg [mV 27 6,
mV 2 27] [2])
.ret)
(.seq (rg [lD 29 (some 6) 5,
fA 30 0 none 4,
lD 31 none 30,
uO 32 (.build [.p (.int .i64 0),.p (.int .i64 0),.p (.int .i64 0),.p (.str []),.p (.str []),.p (.str [])] [(0,1,31)]),
uO 33 (.eqa [0,0,0,2,2,2] true 29 32),
mV 28 33] [0,10,11,12,28])
(.cond 28 (.seq (rg [mV 2 (cI 3)] [2])
.ret)
.skip)))))))))
(rg [bN 34 .add 12 (cI 1),
mV 12 34] [0,10,11,12]))))
def p_q093_k2 : ACode:=.pr [0] (.seq (.seq (rg [mV 35 0,
cL 36 f_q098 [35,(.c (.nilp))],
uO 37 (.nilchk 36),
fA 38 37 none 37,
lD 39 none 38,
bN 40 .gtr 39 (cI 20000)] [40])
(.cond 40 (.seq (rg [mV 2 (cI 2)] [2])
.ret)
.skip))
(.seq (rg [mV 2 (cI 0)] [2])
.ret))
def P_q093 (q1 q2 : ACode) : ACode:=(.seq (rg [mV 2 (cI 0)] [0])
(.seq (.seq (rg [mV 7 0,
lN 8 7,
bN 9 .gtr 8 (cI 1000)] [0,9])
(.cond 9 (.seq (rg [mV 2 (cI 2)] [2])
.ret)
.skip))
(.seq (.seq (rg [mV 10 0,
lN 11 10,
mV 12 (cI 0)] [0,10,11,12])
(.block 0 (.loop (.scope q1))))
q2)))
def a_q093 : AFun:=⟨1,[.t 2],P_q093 p_q093_k1 p_q093_k2,false,false⟩
def P_q094 : ACode:=(.seq (rg [mV 2 (cI 0),
mV 3 (cI 0)] [0])
(.seq (.seq (rg [mV 5 0,
cL 6 f_q093 [5],
mV 4 6] [0,4])
(.seq (rg [mV 7 4,
bN 8 .neq 7 (cI 0)] [0,4,8])
(.cond 8 (.seq (rg [mV 9 4,
mV 2 (cI 0),
mV 3 9] [2,3])
.ret)
.skip)))
(.seq (rg [mV 10 0,
cL 11 f_q098 [10,(.c (.nilp))],
uO 12 (.nilchk 11),
fA 13 37 none 12,
lD 14 none 13,
mV 2 14,
mV 3 (cI 0)] [2,3])
.ret)))
def a_q094 : AFun:=⟨1,[.t 2,.t 3],P_q094,false,false⟩
end Go.Am
end
section
/- The functions asv abstract code,and asv formulas over their values: printed by program out of the translation. -/
set_option linter.unusedVariables false
set_option maxRecDepth 100000
namespace Go.Am
def P_q095 : ACode:=(.seq (rg [mV 2 cF] [0])
(.seq (rg [mV 3 0,
bN 4 .eql 3 (cI 7),
mV 5 4,
gD 6 5 false (.mv 0),
gD 7 5 false (.bin .eql 6 (cI 8)),
uO 8 (.pick 5 cT 7),
mV 2 8] [2])
.ret))
def a_q095 : AFun:=⟨1,[.t 2],P_q095,false,false⟩
def P_q096 : ACode:=(.seq (rg [mV 2 cF] [0])
(.seq (rg [mV 3 0,
cL 4 f_q00a [3,(cI 1),(cI 6)],
uO 5 (.un .not 4),
mV 2 5] [2])
.ret))
def a_q096 : AFun:=⟨1,[.t 2],P_q096,false,false⟩
def p_q097_k1 : ACode:=.pr [2,4] (.seq (rg [lD 56 (some 6) 4,
wO (.store (some 6) 2 56),
mV 3 (cI 0)] [2,3])
.ret)
def P_q097 (q1 : ACode) : ACode:=(.seq (rg [uO 1 (.box 0),
uO 2 (.alloc [.p (.int .i64 0),.p (.int .i64 0),.p (.int .i64 0),.p (.str []),.p (.str []),.p (.str [])]),
mV 3 (cI 0)] [1,2])
(.seq (rg [lD 5 (some 6) 1,
uO 4 (.alloc [.p (.int .i64 0),.p (.int .i64 0),.p (.int .i64 0),.p (.str []),.p (.str []),.p (.str [])]),
wO (.store (some 6) 4 5)] [1,2,4])
(.seq (.block 0 (.seq (rg [fA 18 0 none 1,
lD 19 none 18,
bN 20 .eql 19 (cI 1),
mV 21 20,
gD 22 21 false (.faddr 0 none 1),
gD 23 21 false (.load none 22),
gD 24 21 false (.bin .eql 23 (cI 2)),
uO 25 (.pick 21 cT 24),
mV 26 25,
gD 27 26 false (.faddr 0 none 1),
gD 28 26 false (.load none 27),
gD 29 26 false (.bin .eql 28 (cI 10)),
uO 30 (.pick 26 cT 29),
mV 17 30] [1,2,4,17])
(.cond 17 (.seq (rg [fA 31 1 none 4,
wO (.store none 31 (cI 0))] [1,2,4])
(.seq (rg [fA 32 1 none 1,
lD 33 none 32,
cL 34 f_q09f [33],
uO 35 (.un .not 34)] [2,4,35])
(.cond 35 (.seq (rg [lD 36 (some 6) 4,
wO (.store (some 6) 2 36),
mV 3 (cI 1)] [2,3])
.ret)
.skip)))
(.seq (rg [fA 38 0 none 1,
lD 39 none 38,
bN 40 .eql 39 (cI 9),
mV 37 40] [1,2,4,37])
(.cond 37 (.seq (rg [fA 41 2 none 4,
wO (.store none 41 (cI 0))] [1,2,4])
(.seq (rg [fA 42 2 none 1,
lD 43 none 42,
cL 44 f_q00a [43,(cI 0),(cI 20000)]] [2,4,44])
(.cond 44 (.seq (rg [lD 45 (some 6) 4,
wO (.store (some 6) 2 45),
mV 3 (cI 1)] [2,3])
.ret)
.skip)))
(.seq (rg [fA 47 0 none 1,
lD 48 none 47,
cL 49 f_q095 [48],
mV 46 49] [1,2,4,46])
(.cond 46 (.seq (rg [fA 50 3 none 4,
wO (.store none 50 (cS [])),
fA 51 4 none 4,
wO (.store none 51 (cS [])),
fA 52 5 none 4,
wO (.store none 52 (cS []))] [1,2,4])
(.seq (dr [dF (lD 53 (some 6) 4) [4],
dF (lD 54 (some 6) 1) [1],
dA (cL 55 f_q09d [54]) [54] true [] [0],
dT (wO (.store (some 6) 2 53)) [2,53],
dF (mV 3 55) [55]] [2,3])
.ret))
(.seq (rg [fA 6 3 none 4,
wO (.store none 6 (cS []))] [1,2,4])
(.seq (.seq (rg [fA 7 3 none 1,
lD 8 none 7,
cL 9 f_q000 [8],
uO 10 (.un .not 9)] [1,2,4,10])
(.cond 10 (.seq (rg [lD 11 (some 6) 4,
wO (.store (some 6) 2 11),
mV 3 (cI 9)] [2,3])
.ret)
.skip))
(.seq (rg [fA 12 3 none 1,
lD 13 none 12,
uO 14 (.lens 13),
bN 15 .gtr 14 (cI 2000)] [2,4,15])
(.cond 15 (.seq (rg [lD 16 (some 6) 4,
wO (.store (some 6) 2 16),
mV 3 (cI 2)] [2,3])
.ret)
.skip)))))))))))
q1)))
def a_q097 : AFun:=⟨1,[.cell 2 (some 6),.t 3],P_q097 p_q097_k1,false,false⟩
def p_q098_k1 : ACode:=.pr [5,13,14,15] (.seq (rg [bN 16 .lss 15 14] [5,13,14,15,16])
(.seq (.cond 16 .skip
(.exit 0))
(.seq (.block 1 (.seq (rg [iA 17 (some 6) 13 15,
lD 18 (some 6) 17,
uO 7 (.alloc [.p (.int .i64 0),.p (.int .i64 0),.p (.int .i64 0),.p (.str []),.p (.str []),.p (.str [])]),
wO (.store (some 6) 7 18)] [5,7,13,14,15])
(.seq (.seq (rg [mV 19 5,
uO 20 (.nilchk 19),
fA 21 37 none 20,
lD 22 none 21,
bN 23 .gtr 22 (cI 20000)] [5,7,13,14,15,23])
(.cond 23 (.exit 0)
.skip))
(rg [mV 24 5,
lD 25 (some 6) 7,
cL 26 f_q09b [24,25]] [5,13,14,15]))))
(rg [bN 27 .add 15 (cI 1),
mV 15 27] [5,13,14,15]))))
def p_q098_k2 : ACode:=.pr [5] (.seq (rg [mV 28 5,
mV 4 28] [4])
.ret)
def P_q098 (q1 q2 : ACode) : ACode:=(.seq (rg [mV 4 (.c (.nilp))] [0,1])
(.seq (rg [cL 8 f_q09g [],
mV 9 1,
uO 10 (.isnil 0 true 9),
uO 11 (.build [.p (.int .i64 0),.p (.int .i64 0),.p (.int .i64 0),.p (.str []),.p (.str []),.p (.str []),.p (.int .i64 0),.p (.int .i64 0),.p (.int .i64 0),.p (.str []),.p (.str []),.p (.str []),.p (.int .i64 0),.p (.int .i64 0),.p (.int .i64 0),.p (.str []),.p (.str []),.p (.str []),.p (.int .i64 0),.p (.int .i64 0),.p (.int .i64 0),.p (.str []),.p (.str []),.p (.str []),.p (.int .i64 0),.p (.int .i64 0),.p (.int .i64 0),.p (.str []),.p (.str []),.p (.str []),.p (.int .i64 0),.p (.int .i64 0),.p (.int .i64 0),.p (.str []),.p (.str []),.p (.str []),.p (.int .i64 0),.p (.int .i64 0),.p (.int .i64 0),.p (.int .i64 0),.sl0 none,.sl0 none,.sl0 none,.sl0 none,.sl0 none,.p (.bool false)] [(0,36,8),(36,1,(cI 0)),(45,1,10)]),
uO 12 (.box 11),
mV 5 12] [0,5])
(.seq (.seq (rg [mV 13 0,
lN 14 13,
mV 15 (cI 0)] [5,13,14,15])
(.block 0 (.loop (.scope q1))))
q2)))
def a_q098 : AFun:=⟨2,[.t 4],P_q098 p_q098_k1 p_q098_k2,false,false⟩
def P_q099 : ACode:=(.seq (rg [mV 8 0,
uO 9 (.nilchk 8),
fA 10 37 none 9,
lD 11 none 10,
bN 12 .add 11 (cI 1),
uO 13 (.nilchk 8),
fA 14 37 none 13,
wO (.store none 14 12)] [0,1,2,3])
(.seq (rg [mV 15 0,
uO 16 (.nilchk 15),
fA 17 45 none 16,
lD 18 none 17] [0,1,2,3,18])
(.cond 18 (dr [dF (mV 19 0) [0],
dF (mV 20 0) [0],
dF (mV 21 0) [0],
dF (mV 22 0) [0],
dF (uO 23 (.nilchk 22)) [22],
dF (fA 24 42 none 23) [23],
dF (lD 25 none 24) [24],
dF (mV 26 1) [1],
dF (uO 27 (.bsl false none 1 (.int .u8 0) [(0,26)])) [26],
dT (uO 28 (.app none 25 27)) [25,27],
dF (mV 29 0) [0],
dF (uO 30 (.nilchk 29)) [29],
dF (fA 31 43 none 30) [30],
dA (lD 32 none 31) [31] false [9] [],
dF (mV 33 2) [2],
dA (uO 34 (.bsl false none 1 (.int .u8 0) [(0,33)])) [33] false [9] [],
dT (uO 35 (.app none 32 34)) [32,34],
dF (mV 36 0) [0],
dF (uO 37 (.nilchk 36)) [36],
dF (fA 38 44 none 37) [37],
dA (lD 39 none 38) [38] false [9,16] [],
dF (mV 40 3) [3],
dA (uO 41 (.bsl false none 1 (.int .u8 0) [(0,40)])) [40] false [9,16] [],
dT (uO 42 (.app none 39 41)) [39,41],
dF (uO 43 (.nilchk 19)) [19],
dF (fA 44 42 none 43) [43],
dT (wO (.store none 44 28)) [44,28],
dF (uO 45 (.nilchk 20)) [20],
dF (fA 46 43 none 45) [45],
dT (wO (.store none 46 35)) [46,35],
dF (uO 47 (.nilchk 21)) [21],
dF (fA 48 44 none 47) [47],
dT (wO (.store none 48 42)) [48,42]] [])
.skip)))
def a_q099 : AFun:=⟨4,[],P_q099,false,false⟩
def p_q09a_k1 : ACode:=.pr [0,3,5,7,9,10,11,12,13,14,93,94] (rg [mV 126 0,
mV 127 13,
mV 128 10,
mV 129 12,
uO 130 (.idxs 128 129),
mV 131 14,
cL 132 f_q099 [126,127,130,131]] [0,3,5,7,9,10,11,93,94])
def P_q09a_k2 (q1 : ACode) : ACode:=.pr [0,3,5,7,9,10,11,12,13,14,93,94] (.seq (.seq (rg [mV 102 12,
mV 103 5,
uO 104 (.lens 103),
bN 105 .sub 102 104,
mV 15 105] [0,3,5,7,9,10,11,12,13,14,15,93,94])
(.seq (rg [mV 106 15,
bN 107 .geq 106 (cI 0),
mV 108 107,
gD 109 108 true (.mv 15),
gD 110 108 true (.faddr 5 none 3),
gD 111 108 true (.load none 110),
gD 112 108 true (.lens 111),
gD 113 108 true (.bin .lss 109 112),
uO 114 (.pick 108 113 cF),
mV 115 114,
gD 116 115 true (.faddr 5 none 3),
gD 117 115 true (.load none 116),
gD 118 115 true (.mv 15),
gD 119 115 true (.idxs 117 118),
gD 120 115 true (.bin .eql 119 (.c (.p (.int .u8 49)))),
uO 121 (.pick 115 120 cF)] [0,3,5,7,9,10,11,12,13,14,15,93,94,121])
(.cond 121 (rg [fA 122 4 none 3,
lD 123 none 122,
mV 124 15,
uO 125 (.idxs 123 124),
mV 14 125] [0,3,5,7,9,10,11,12,13,14,93,94])
.skip)))
q1)
def p_q09a_k2 : ACode:=P_q09a_k2 p_q09a_k1
def p_q09a_k3 : ACode:=.pr [0,3,5,7,9,10,11,93,94] (rg [bN 133 .add 94 (cI 1),
mV 94 133] [0,3,5,7,9,10,11,93,94])
def P_q09a_k4 (q2 q3 : ACode) : ACode:=.pr [0,3,5,7,9,10,11,93,94] (.seq (rg [bN 95 .lss 94 93] [0,3,5,7,9,10,11,93,94,95])
(.seq (.cond 95 .skip
(.exit 0))
(.seq (.block 1 (.seq (rg [mV 96 94,
mV 12 96] [0,3,5,7,9,10,11,12,93,94])
(.seq (rg [mV 13 (.c (.p (.int .u8 48))),
mV 14 (.c (.p (.int .u8 120)))] [0,3,5,7,9,10,11,12,13,14,93,94])
(.seq (.seq (rg [mV 97 12,
mV 98 10,
uO 99 (.lens 98),
bN 100 .sub 99 (cI 1),
bN 101 .eql 97 100] [0,3,5,7,9,10,11,12,13,14,93,94,101])
(.cond 101 (rg [mV 13 (.c (.p (.int .u8 49)))] [0,3,5,7,9,10,11,12,13,14,93,94])
.skip))
q2))))
q3)))
def p_q09a_k4 : ACode:=P_q09a_k4 p_q09a_k2 p_q09a_k3
def p_q09a_k5 : ACode:=.pr [0,7,9,11] (.seq (rg [mV 134 0,
mV 135 9,
uO 136 (.nilchk 134),
fA 137 36 none 136,
wO (.store none 137 135)] [0,7,11])
(.seq (rg [mV 138 0,
mV 139 7,
cL 140 f_q09c [138,139]] [11])
(.seq (rg [mV 141 11,
mV 4 141] [4])
.ret)))
def P_q09a_k6 (q4 q5 : ACode) : ACode:=.pr [0,3,5,7,9,10] (.seq (rg [mV 85 0,
uO 86 (.nilchk 85),
fA 87 37 none 86,
lD 88 none 87,
mV 89 5,
uO 90 (.lens 89),
bN 91 .add 88 90,
mV 11 91] [0,3,5,7,9,10,11])
(.seq (.seq (rg [mV 92 10,
uO 93 (.lens 92),
mV 94 (cI 0)] [0,3,5,7,9,10,11,93,94])
(.block 0 (.loop q4)))
q5))
def p_q09a_k6 : ACode:=P_q09a_k6 p_q09a_k4 p_q09a_k5
def P_q09a_k7 (q6 : ACode) : ACode:=.pr [0,3,5,6,7,8,9] (.seq (rg [mV 55 0,
mV 56 8,
cL 57 f_q09c [55,56]] [0,3,5,6,7,9])
(.seq (rg [mV 58 5,
fA 59 3 none 3,
lD 60 none 59,
bN 61 .add 58 60,
mV 62 6,
bN 63 .add 61 62,
mV 10 63] [0,3,5,7,9,10])
(.seq (.seq (rg [fA 64 0 none 3,
lD 65 none 64,
bN 66 .eql 65 (cI 7)] [0,3,5,7,9,10,66])
(.cond 66 (rg [mV 67 0,
uO 68 (.nilchk 67),
fA 69 38 none 68,
lD 70 none 69,
mV 71 10,
uO 72 (.lens 71),
bN 73 .add 70 72,
uO 74 (.nilchk 67),
fA 75 38 none 74,
wO (.store none 75 73)] [0,3,5,7,9,10])
(rg [mV 76 0,
uO 77 (.nilchk 76),
fA 78 39 none 77,
lD 79 none 78,
mV 80 10,
uO 81 (.lens 80),
bN 82 .add 79 81,
uO 83 (.nilchk 76),
fA 84 39 none 83,
wO (.store none 84 82)] [0,3,5,7,9,10])))
q6)))
def p_q09a_k7 : ACode:=P_q09a_k7 p_q09a_k6
def P_q09a (q7 : ACode) : ACode:=(.seq (rg [uO 3 (.box 1),
mV 4 (cI 0)] [0,3])
(.seq (dr [dF (mV 16 0) [0],
dF (uO 17 (.nilchk 16)) [16],
dF (fA 18 0 (some 36) 17) [17],
dF (fA 19 24 (some 6) 18) [18],
dF (fA 20 3 none 19) [19],
dF (lD 21 none 20) [20],
dF (mV 22 0) [0],
dF (uO 23 (.nilchk 22)) [22],
dF (fA 24 0 (some 36) 23) [23],
dF (fA 25 30 (some 6) 24) [24],
dF (fA 26 3 none 25) [25],
dF (lD 27 none 26) [26],
dF (mV 28 0) [0],
dF (uO 29 (.nilchk 28)) [28],
dF (fA 30 0 (some 36) 29) [29],
dF (fA 31 6 (some 6) 30) [30],
dF (fA 32 1 none 31) [31],
dF (lD 33 none 32) [32],
dF (mV 5 21) [21],
dF (mV 6 27) [27],
dF (mV 7 33) [33],
dF (mV 8 (cI 4)) [],
dF (mV 9 (cI 5)) []] [0,3,5,6,7,8,9])
(.seq (.seq (rg [fA 34 0 none 3,
lD 35 none 34,
bN 36 .eql 35 (cI 7)] [0,3,5,6,7,8,9,36])
(.cond 36 (dr [dF (mV 37 0) [0],
dF (uO 38 (.nilchk 37)) [37],
dF (fA 39 0 (some 36) 38) [38],
dF (fA 40 12 (some 6) 39) [39],
dF (fA 41 3 none 40) [40],
dF (lD 42 none 41) [41],
dF (mV 43 0) [0],
dF (uO 44 (.nilchk 43)) [43],
dF (fA 45 0 (some 36) 44) [44],
dF (fA 46 18 (some 6) 45) [45],
dF (fA 47 3 none 46) [46],
dF (lD 48 none 47) [47],
dF (mV 49 0) [0],
dF (uO 50 (.nilchk 49)) [49],
dF (fA 51 0 (some 36) 50) [50],
dF (fA 52 0 (some 6) 51) [51],
dF (fA 53 1 none 52) [52],
dF (lD 54 none 53) [53],
dF (mV 5 42) [42],
dF (mV 6 48) [48],
dF (mV 7 54) [54],
dF (mV 8 (cI 11)) [],
dF (mV 9 (cI 12)) []] [0,3,5,6,7,8,9])
.skip))
q7)))
def a_q09a : AFun:=⟨2,[.t 4],P_q09a p_q09a_k7,false,false⟩
def p_q09b_k1 : ACode:=.pr [0,4,35,36] (.seq (rg [bN 37 .lss 36 35] [0,4,35,36,37])
(.seq (.cond 37 .skip
(.exit 1))
(.seq (.block 2 (rg [mV 38 0,
cL 39 f_q099 [38,(.c (.p (.int .u8 48))),(.c (.p (.int .u8 48))),(.c (.p (.int .u8 120)))]] [0,4,35,36]))
(rg [bN 40 .add 36 (cI 1),
mV 36 40] [0,4,35,36]))))
def p_q09b_k2 : ACode:=.pr [0,4] (.seq (dr [dF (mV 41 0) [0],
dF (mV 42 0) [0],
dF (uO 43 (.nilchk 42)) [42],
dF (fA 44 40 none 43) [43],
dF (lD 45 none 44) [44],
dF (mV 46 0) [0],
dF (uO 47 (.nilchk 46)) [46],
dF (fA 48 36 none 47) [47],
dF (lD 49 none 48) [48],
dF (uO 50 (.bsl false none 1 (.int .i64 0) [(0,49)])) [49],
dT (uO 51 (.app none 45 50)) [45,50],
dF (uO 52 (.nilchk 41)) [41],
dF (fA 53 40 none 52) [52],
dT (wO (.store none 53 51)) [53,51]] [0,4])
(rg [mV 54 0,
mV 55 0,
uO 56 (.nilchk 55),
fA 57 41 none 56,
lD 58 none 57,
mV 59 4,
uO 60 (.bsl false none 1 (.int .i64 0) [(0,59)]),
uO 61 (.app none 58 60),
uO 62 (.nilchk 54),
fA 63 41 none 62,
wO (.store none 63 61)] []))
def P_q09b (q1 q2 : ACode) : ACode:=(.seq (rg [uO 3 (.box 1)] [0,3])
(.seq (rg [mV 4 (cI 0)] [0,3,4])
(.seq (.block 0 (.seq (rg [fA 10 0 none 3,
lD 11 none 10,
cL 12 f_q096 [11],
mV 9 12] [0,3,4,9])
(.cond 9 (dr [dF (mV 13 0) [0],
dF (uO 14 (.nilchk 13)) [13],
dF (fA 15 0 (some 36) 14) [14],
dF (fA 16 0 none 3) [3],
dF (lD 17 none 16) [16],
dT (cL 18 f_q09e [15,17]) [15,17],
dA (lD 19 (some 6) 3) [3] false [5] [],
dF (uO 20 (.nilchk 18)) [18],
dT (wO (.store (some 6) 20 19)) [20,19]] [0,4])
(.seq (rg [fA 22 0 none 3,
lD 23 none 22,
cL 24 f_q095 [23],
mV 21 24] [0,3,4,21])
(.cond 21 (rg [mV 25 0,
lD 26 (some 6) 3,
cL 27 f_q09a [25,26],
mV 4 27] [0,4])
(.seq (rg [fA 29 0 none 3,
lD 30 none 29,
bN 31 .eql 30 (cI 9),
mV 28 31] [0,3,4,28])
(.cond 28 (.seq (rg [mV 32 0,
cL 33 f_q09c [32,(cI 1)]] [0,3,4])
(.seq (rg [fA 34 2 none 3,
lD 35 none 34,
mV 36 (cI 0)] [0,4,35,36])
(.block 1 (.loop q1))))
(rg [mV 5 0,
fA 6 1 none 3,
lD 7 none 6,
cL 8 f_q09c [5,7]] [0,4]))))))))
q2)))
def a_q09b : AFun:=⟨2,[],P_q09b p_q09b_k1 p_q09b_k2,false,false⟩
def p_q09c_k1 : ACode:=.pr [0,1,4,17,18] (.seq (rg [bN 19 .lss 18 17] [0,1,4,17,18,19])
(.seq (.cond 19 .skip
(.exit 0))
(.seq (.block 1 (.seq (rg [mV 20 18,
mV 6 20] [0,1,4,6,17,18])
(rg [mV 21 0,
mV 22 4,
mV 23 6,
uO 24 (.idxs 22 23),
cL 25 f_q099 [21,24,(.c (.p (.int .u8 48))),(.c (.p (.int .u8 120)))]] [0,1,4,17,18])))
(rg [bN 26 .add 18 (cI 1),
mV 18 26] [0,1,4,17,18]))))
def p_q09c_k2 : ACode:=.pr [0,1] (rg [mV 27 0,
mV 28 1,
uO 29 (.nilchk 27),
fA 30 36 none 29,
wO (.store none 30 28)] [])
def P_q09c (q1 q2 : ACode) : ACode:=(.seq (rg [mV 8 0,
uO 9 (.nilchk 8),
fA 10 36 none 9,
lD 11 none 10,
mV 12 1,
cL 13 f_q08r [11,12],
mV 7 13,
eX 14 7 0,
eX 15 7 1,
mV 4 14,
mV 5 15] [0,1,4])
(.seq (.seq (rg [mV 16 4,
uO 17 (.lens 16),
mV 18 (cI 0)] [0,1,4,17,18])
(.block 0 (.loop q1)))
q2))
def a_q09c : AFun:=⟨2,[],P_q09c p_q09c_k1 p_q09c_k2,false,false⟩
def P_q09d : ACode:=(.seq (rg [uO 1 (.box 0),
mV 2 (cI 0)] [1])
(.seq (.block 0 (.seq (rg [fA 4 3 none 1,
lD 5 none 4,
bN 6 .eql 5 (cS []),
mV 3 6] [1,3])
(.cond 3 (.seq (rg [mV 2 (cI 8)] [2])
.ret)
(.seq (rg [fA 8 3 none 1,
lD 9 none 8,
cL 10 f_q000 [9],
uO 11 (.un .not 10),
mV 7 11] [1,7])
(.cond 7 (.seq (rg [mV 2 (cI 9)] [2])
.ret)
(.seq (rg [fA 13 3 none 1,
lD 14 none 13,
uO 15 (.lens 14),
bN 16 .gtr 15 (cI 2000),
mV 12 16] [1,12])
(.cond 12 (.seq (rg [mV 2 (cI 2)] [2])
.ret)
(.seq (rg [fA 18 4 none 1,
lD 19 none 18,
bN 20 .neq 19 (cS []),
mV 21 20,
gD 22 21 true (.faddr 4 none 1),
gD 23 21 true (.load none 22),
gD 24 21 true (.lens 23),
gD 25 21 true (.faddr 3 none 1),
gD 26 21 true (.load none 25),
gD 27 21 true (.lens 26),
gD 28 21 true (.bin .neq 24 27),
gD 29 21 true (.mv 28),
gD 30 29 false (.faddr 5 none 1),
gD 31 29 false (.load none 30),
gD 32 29 false (.lens 31),
gD 33 29 false (.faddr 3 none 1),
gD 34 29 false (.load none 33),
gD 35 29 false (.lens 34),
gD 36 29 false (.bin .neq 32 35),
gD 37 21 true (.pick 29 cT 36),
uO 38 (.pick 21 37 cF),
mV 17 38] [1,17])
(.cond 17 (.seq (rg [mV 2 (cI 3)] [2])
.ret)
(.seq (rg [fA 40 4 none 1,
lD 41 none 40,
cL 42 f_q000 [41],
uO 43 (.un .not 42),
mV 44 43,
gD 45 44 false (.faddr 5 none 1),
gD 46 44 false (.load none 45),
gD 47 44 false (.call f_q000 [46]),
gD 48 44 false (.un .not 47),
uO 49 (.pick 44 cT 48),
mV 39 49] [1,39])
(.cond 39 (.seq (rg [mV 2 (cI 9)] [2])
.ret)
(.seq (rg [fA 51 4 none 1,
lD 52 none 51,
bN 53 .eql 52 (cS []),
mV 54 53,
gD 55 54 true (.faddr 5 none 1),
gD 56 54 true (.load none 55),
gD 57 54 true (.bin .neq 56 (cS [])),
uO 58 (.pick 54 57 cF),
mV 50 58] [50])
(.cond 50 (.seq (rg [mV 2 (cI 3)] [2])
.ret)
.skip)))))))))))))
(.seq (rg [mV 2 (cI 0)] [2])
.ret)))
def a_q09d : AFun:=⟨1,[.t 2],P_q09d,false,false⟩
def P_q09e : ACode:=(.seq (rg [mV 4 (.c (.nilp))] [0,1])
(.seq (.seq (rg [mV 5 1] [0,5])
(.block 0 (.seq (rg [bN 7 .eql 5 (cI 1),
mV 6 7] [0,5,6])
(.cond 6 (.seq (rg [mV 8 0,
uO 9 (.nilchk 8),
fA 10 0 (some 6) 9,
mV 4 10] [4])
.ret)
(.seq (rg [bN 12 .eql 5 (cI 2),
mV 11 12] [0,5,11])
(.cond 11 (.seq (rg [mV 13 0,
uO 14 (.nilchk 13),
fA 15 6 (some 6) 14,
mV 4 15] [4])
.ret)
(.seq (rg [bN 17 .eql 5 (cI 3),
mV 16 17] [0,5,16])
(.cond 16 (.seq (rg [mV 18 0,
uO 19 (.nilchk 18),
fA 20 12 (some 6) 19,
mV 4 20] [4])
.ret)
(.seq (rg [bN 22 .eql 5 (cI 4),
mV 21 22] [0,5,21])
(.cond 21 (.seq (rg [mV 23 0,
uO 24 (.nilchk 23),
fA 25 18 (some 6) 24,
mV 4 25] [4])
.ret)
(.seq (rg [bN 27 .eql 5 (cI 5),
mV 26 27] [0,26])
(.cond 26 (.seq (rg [mV 28 0,
uO 29 (.nilchk 28),
fA 30 24 (some 6) 29,
mV 4 30] [4])
.ret)
.skip))))))))))))
(.seq (rg [mV 31 0,
uO 32 (.nilchk 31),
fA 33 30 (some 6) 32,
mV 4 33] [4])
.ret)))
def a_q09e : AFun:=⟨2,[.t 4],P_q09e,false,false⟩
def P_q09f : ACode:=(.seq (rg [mV 2 cF] [0])
(.seq (rg [mV 3 0,
bN 4 .eql 3 (cI 0),
mV 5 4,
gD 6 5 false (.mv 0),
gD 7 5 false (.bin .eql 6 (cI 1)),
uO 8 (.pick 5 cT 7),
mV 9 8,
gD 10 9 false (.mv 0),
gD 11 9 false (.bin .eql 10 (cI 6)),
uO 12 (.pick 9 cT 11),
mV 13 12,
gD 14 13 false (.mv 0),
gD 15 13 false (.bin .eql 14 (cI 13)),
uO 16 (.pick 13 cT 15),
mV 2 16] [2])
.ret))
def a_q09f : AFun:=⟨1,[.t 2],P_q09f,false,false⟩
def P_q09g : ACode:=(.seq (rg [uO 0 (.alloc [.p (.int .i64 0),.p (.int .i64 0),.p (.int .i64 0),.p (.str []),.p (.str []),.p (.str []),.p (.int .i64 0),.p (.int .i64 0),.p (.int .i64 0),.p (.str []),.p (.str []),.p (.str []),.p (.int .i64 0),.p (.int .i64 0),.p (.int .i64 0),.p (.str []),.p (.str []),.p (.str []),.p (.int .i64 0),.p (.int .i64 0),.p (.int .i64 0),.p (.str []),.p (.str []),.p (.str []),.p (.int .i64 0),.p (.int .i64 0),.p (.int .i64 0),.p (.str []),.p (.str []),.p (.str []),.p (.int .i64 0),.p (.int .i64 0),.p (.int .i64 0),.p (.str []),.p (.str []),.p (.str [])])] [0])
(.seq (rg [uO 1 (.build [.p (.int .i64 0),.p (.int .i64 0),.p (.int .i64 0),.p (.str []),.p (.str []),.p (.str [])] [(0,1,(cI 1)),(1,1,(cI 1))]),
uO 2 (.build [.p (.int .i64 0),.p (.int .i64 0),.p (.int .i64 0),.p (.str []),.p (.str []),.p (.str [])] [(0,1,(cI 2)),(1,1,(cI 1))]),
uO 3 (.build [.p (.int .i64 0),.p (.int .i64 0),.p (.int .i64 0),.p (.str []),.p (.str []),.p (.str [])] [(0,1,(cI 3))]),
uO 4 (.build [.p (.int .i64 0),.p (.int .i64 0),.p (.int .i64 0),.p (.str []),.p (.str []),.p (.str [])] [(0,1,(cI 4))]),
uO 5 (.build [.p (.int .i64 0),.p (.int .i64 0),.p (.int .i64 0),.p (.str []),.p (.str []),.p (.str [])] [(0,1,(cI 5))]),
uO 6 (.build [.p (.int .i64 0),.p (.int .i64 0),.p (.int .i64 0),.p (.str []),.p (.str []),.p (.str [])] [(0,1,(cI 6))]),
uO 7 (.build [.p (.int .i64 0),.p (.int .i64 0),.p (.int .i64 0),.p (.str []),.p (.str []),.p (.str []),.p (.int .i64 0),.p (.int .i64 0),.p (.int .i64 0),.p (.str []),.p (.str []),.p (.str []),.p (.int .i64 0),.p (.int .i64 0),.p (.int .i64 0),.p (.str []),.p (.str []),.p (.str []),.p (.int .i64 0),.p (.int .i64 0),.p (.int .i64 0),.p (.str []),.p (.str []),.p (.str []),.p (.int .i64 0),.p (.int .i64 0),.p (.int .i64 0),.p (.str []),.p (.str []),.p (.str []),.p (.int .i64 0),.p (.int .i64 0),.p (.int .i64 0),.p (.str []),.p (.str []),.p (.str [])] [(0,6,1),(6,6,2),(12,6,3),(18,6,4),(24,6,5),(30,6,6)]),
wO (.store (some 36) 0 7)] [0])
.ret))
def a_q09g : AFun:=⟨0,[.cell 0 (some 36)],P_q09g,false,false⟩
end Go.Am
end
section
/- The abstract machine,part C: closed calls that say true,asv contracts. -/
set_option linter.all false
namespace Go.Am
variable {P : Program} {gl : Nat → Option PV}
def trueS : List PV → Option AV
  | []=>some (AB true)
  | _=>none
theorem RPV.mono' {M M' : Mem} (hM : ∀ b o v,M.c b o = some v → M'.c b o = some v) {v : PV} {x : Value} (H : RPV M v x) : RPV M' v x:=by
  induction H with
  | int k n=>exact .int k n
  | bool b=>exact .bool b
  | str s=>exact .str s
  | nilp=>exact .nilp
  | unk k n=>exact .unk k n
  | nils sh a cap=>exact .nils sh a cap
  | sl sh xs b o cap f hne hc he hm hr ih=>exact .sl sh xs b o cap f hne hc he (fun j y hy=>hM _ _ _ (hm j y hy)) ih
  | agg cs vs hl hr ih=>exact .agg cs vs hl ih
theorem GInv.mono' {M M' : Mem} (hc : ∀ b o v,M.c b o = some v → M'.c b o = some v) (hb : ∀ b o,M.b b = some o → M'.b b = some o) (H : GInv gl M) : GInv gl M':=fun n v hv=>by
  obtain ⟨h1,cs,t,x,h2,h3⟩:=H n v hv
  refine ⟨?_,cs,t,x,hb _ _ h2,h3⟩
  cases h1 with | vp _ _ _ f hm hr=>exact .vp v n 0 f (fun j y hy=>hc _ _ _ (hm j y hy)) (fun j y hy=>(hr j y hy).mono' hc)
theorem pureRow_closed {X : Ctx} (HX : Fits P X) {f : Nat} (H : ACall X f [] [] fun v h x=>v = AB true ∧ h = [] ∧ x = []) (he : ∀ us w,(callFunc f us).run P w = .ok (.enter f us) w) : PureRow P X.gl f trueS:=by
  refine ⟨he,fun M w vs r us hc hb hG hl hr hs=>?_⟩
  cases vs with
  | cons a l=>cases hs
  | nil=>
    have hu : us = []:=List.length_eq_zero_iff.1 (by simpa using hl.symm)
    subst hu
    simp only [trueS,Option.some.injEq] at hs
    subst hs
    have hno : ∀ b o,¬ Owned ([] : Heap) ([] : Mu) b o:=fun b o ⟨id,n,h1,_⟩=>by simp at h1
    have hnt : ∀ b,¬ Taken ([] : Mu) b:=fun b ⟨id,n,h1⟩=>by simp at h1
    have hG' : GInv X.gl (imm [] [] w):=hG.mono' (fun b o v h=>imm_some.2 ⟨hno b o,hc b o v h⟩) (fun b o h=>imm_blk.2 ⟨hnt b,hb b o h⟩)
    have hR : HeapRel [] [] w:=⟨rfl,fun id o m h1=>by simp at h1,fun i j b n n' h1=>by simp at h1,fun i b n h1=>by simp at h1⟩
    rcases call_sound HX H [] w [] hR hG' rfl (fun j y v h1=>by simp at h1) with ⟨_,q⟩ | ⟨r,w',v,h',x,μ',q,_⟩
    · refine q.mono fun e w' h => ?_
      cases e with
      | panicked _=>exact h.elim
      | outgrown=>exact h.elim
      | returned r=>
        obtain ⟨v,h',x,μ',⟨rfl,rfl,rfl⟩,h1,h2,h3,h4⟩:=h
        have hm : μ' = []:=List.length_eq_zero_iff.1 (by simpa using h2.len)
        subst hm
        have hbl : ∀ b o,w.heap[b]? = some o → w'.heap[b]? = some o:=fun b o h=>(imm_blk.1 (h3.le.b b o (imm_blk.2 ⟨hnt b,h⟩))).2
        refine ⟨r,rfl,⟨?_,fun b hb=>?_,?_⟩,?_⟩
        · rcases Nat.lt_or_ge w'.heap.size w.heap.size with q | q
          · have := hbl w'.heap.size _ (Array.getElem?_eq_getElem q)
            simp at this
          · exact q
        · rw [hbl b _ (Array.getElem?_eq_getElem hb),Array.getElem?_eq_getElem hb]
        · have := h3.le.z
          simpa [imm] using this
        · have := h1.p_bool
          rw [this]
          exact .p _ _ (.bool true)
    · rw [he] at q
      cases q
end Go.Am
end
section
/- The functions together. -/
set_option linter.unusedVariables false
set_option maxRecDepth 100000
namespace Go.Am
def fns : List (Nat × AFun):=[(f_q039,a_q039),(f_q05x,a_q05x),(f_q03u,a_q03u),(f_q040,a_q040),(f_q012,a_q012),(f_q05w,a_q05w),(f_q04s,a_q04s),(f_q01g,a_q01g),(f_q01a,a_q01a),(f_q03e,a_q03e),(f_q05q,a_q05q),(f_q013,a_q013),(f_q05n,a_q05n),(f_q03a,a_q03a),(f_q03w,a_q03w),(f_q01o,a_q01o),(f_q01n,a_q01n),(f_q080,a_q080),(f_q01x,a_q01x),(f_q07z,a_q07z),(f_q07x,a_q07x),(f_q07y,a_q07y),(f_q00a,a_q00a),(f_q001,a_q001),(f_q01b,a_q01b),(f_q01r,a_q01r),(f_q066,a_q066),(f_q062,a_q062),(f_q03o,a_q03o),(f_q081,a_q081),(f_q006,a_q006),(f_q08e,a_q08e),(f_q009,a_q009),(f_q02n,a_q02n),(f_q087,a_q087),(f_q08j,a_q08j),(f_q008,a_q008),(f_q08g,a_q08g),(f_q02m,a_q02m),(f_q08i,a_q08i),(f_q089,a_q089),(f_q02p,a_q02p),(f_q02r,a_q02r),(f_q02q,a_q02q),(f_q02o,a_q02o),(f_q08y,a_q08y),(f_q022,a_q022),(f_q023,a_q023),(f_q092,a_q092),(f_q024,a_q024)]
def GRL : List (Nat × Sh):=[]
def PRL : PureT:=[(f_q07p,atoiS),(f_q07q,itoaS),(f_q085,countS),(f_q08f,trimS),(f_q03f,trueS)]
def GLL : List (Nat × PV):=[(1,pow10PV)]
def fnOf : List (Nat × AFun) → Nat → Option AFun
  | [],_=>none
  | (k,F) :: r,n=>bif Nat.beq k n then some F else fnOf r n
def X : Ctx:=⟨fnOf fns,glOf GLL,extF f_internal_bytealg_IndexByteString f_internal_bytealg_abigen_runtime_cmpstring,libF GRL PRL⟩
theorem fnOf_all {p : Nat → AFun → Bool} : ∀ (l : List (Nat × AFun)),(l.all fun y=>p y.1 y.2) = true → ∀ n F,fnOf l n = some F → p n F = true
  | [],_,n,F,h=>by cases h
  | (k,G) :: r,ha,n,F,h=>by
    simp only [List.all_cons,Bool.and_eq_true] at ha
    simp only [fnOf] at h
    cases hk : Nat.beq k n with
    | true=>
      rw [hk] at h
      have:=Nat.eq_of_beq_eq_true hk
      simp only [cond_true,Option.some.injEq] at h
      subst this; subst h; exact ha.1
    | false=>
      rw [hk] at h
      exact fnOf_all r ha.2 n F h
def fns0 : List (Nat × AFun):=[(f_q03f,a_q03f),(f_q03e,a_q03e),(f_q05q,a_q05q),(f_q015,a_q015),(f_q013,a_q013),(f_q01v,a_q01v),(f_q01e,a_q01e),(f_q01n,a_q01n),(f_q003,a_q003),(f_q00a,a_q00a),(f_q067,a_q067),(f_q00g,a_q00g),(f_q03i,a_q03i),(f_q094,a_q094),(f_q02s,a_q02s),(f_q078,a_q078),(f_q066,a_q066),(f_q01l,a_q01l),(f_q01t,a_q01t),(f_q01w,a_q01w),(f_q01u,a_q01u),(f_q014,a_q014),(f_q063,a_q063),(f_q05o,a_q05o),(f_q00v,a_q00v),(f_q004,a_q004),(f_q05r,a_q05r),(f_q00c,a_q00c),(f_q00q,a_q00q),(f_q00r,a_q00r),(f_q093,a_q093),(f_q098,a_q098),(f_q02v,a_q02v),(f_q02u,a_q02u),(f_q07c,a_q07c),(f_q005,a_q005),(f_q07i,a_q07i),(f_q07l,a_q07l),(f_q00z,a_q00z),(f_q000,a_q000),(f_q00d,a_q00d),(f_q00j,a_q00j),(f_q05h,a_q05h),(f_q097,a_q097),(f_q09g,a_q09g),(f_q09b,a_q09b),(f_q02w,a_q02w),(f_q02t,a_q02t),(f_q002,a_q002),(f_q077,a_q077),(f_q076,a_q076),(f_q07j,a_q07j),(f_q07a,a_q07a),(f_q07h,a_q07h),(f_q00k,a_q00k),(f_q00p,a_q00p),(f_q00s,a_q00s),(f_q09f,a_q09f),(f_q095,a_q095),(f_q09d,a_q09d),(f_q096,a_q096),(f_q09e,a_q09e),(f_q09a,a_q09a),(f_q09c,a_q09c),(f_q099,a_q099),(f_q07b,a_q07b),(f_q079,a_q079),(f_q07k,a_q07k),(f_q007,a_q007),(f_q07g,a_q07g),(f_q07e,a_q07e),(f_q07f,a_q07f),(f_q00i,a_q00i),(f_q00o,a_q00o),(f_q05m,a_q05m),(f_q00l,a_q00l),(f_q00t,a_q00t),(f_q00h,a_q00h),(f_q08r,a_q08r),(f_q00y,a_q00y),(f_q083,a_q083),(f_q07d,a_q07d),(f_q061,a_q061),(f_q00m,a_q00m),(f_q00u,a_q00u),(f_q08s,a_q08s),(f_q08u,a_q08u),(f_q021,a_q021),(f_q05c,a_q05c),(f_q00n,a_q00n),(f_q08t,a_q08t)]
def PRL0 : PureT:=[(f_q07p,atoiS),(f_q07q,itoaS),(f_q085,countS),(f_q08f,trimS)]
def X0 : Ctx:=⟨fnOf fns0,glOf GLL,extF f_internal_bytealg_IndexByteString f_internal_bytealg_abigen_runtime_cmpstring,libF GRL PRL0⟩
theorem x0_tap_path : X0.fn f_q08u = some a_q08u:=by kernel_rfl
theorem x0_tap_next : X0.fn f_q08t = some a_q08t:=by kernel_rfl
theorem X_noNext : X.NoNext:=fun f F h=>fnOf_all (p:=fun _ F=>F.isDet || F.body.noNext) fns (by kernel_rfl) f F h
theorem x_q039 : X.fn f_q039 = some a_q039:=by kernel_rfl
theorem c_q039 {u0 v0 : AV} {h h1 : Heap} {P : Post} (hp : puras h [u0] = some ([v0],h1)) : ACall X f_q039 [u0] h P = d_q039 (ACall X) X.gl p_q039_k2 p_q039_k5 v0 h1 [] (finR [.t 2] false h.length P):=by rw [call_val x_q039 rfl hp rfl]; exact e_q039
theorem x_q05x : X.fn f_q05x = some a_q05x:=by kernel_rfl
theorem c_q05x {u0 u1 v0 v1 : AV} {h h1 : Heap} {P : Post} (hp : puras h [u0,u1] = some ([v0,v1],h1)) : ACall X f_q05x [u0,u1] h P = d_q05x (ACall X) X.gl p_q05x_k1 p_q05x_k2 v0 v1 h1 [] (finR [.t 4] false h.length P):=by rw [call_val x_q05x rfl hp rfl]; exact e_q05x
theorem x_q03u : X.fn f_q03u = some a_q03u:=by kernel_rfl
theorem c_q03u {u0 u1 v0 v1 : AV} {h h1 : Heap} {P : Post} (hp : puras h [u0,u1] = some ([v0,v1],h1)) : ACall X f_q03u [u0,u1] h P = d_q03u (ACall X) X.gl v0 v1 h1 [] (finR [.t 4] false h.length P):=by rw [call_val x_q03u rfl hp rfl]; exact e_q03u
theorem x_q040 : X.fn f_q040 = some a_q040:=by kernel_rfl
theorem c_q040 {u0 u1 u2 v0 v1 v2 : AV} {h h1 : Heap} {P : Post} (hp : puras h [u0,u1,u2] = some ([v0,v1,v2],h1)) : ACall X f_q040 [u0,u1,u2] h P = d_q040 (ACall X) X.gl v0 v1 v2 h1 [] (finR [.t 6] false h.length P):=by rw [call_val x_q040 rfl hp rfl]; exact e_q040
theorem x_q012 : X.fn f_q012 = some a_q012:=by kernel_rfl
theorem c_q012 {u0 u1 v0 v1 : AV} {h h1 : Heap} {P : Post} (hp : puras h [u0,u1] = some ([v0,v1],h1)) : ACall X f_q012 [u0,u1] h P = d_q012 (ACall X) X.gl p_q012_k6 p_q012_k7 v0 v1 h1 [] (finR [.t 4,.t 5] false h.length P):=by rw [call_val x_q012 rfl hp rfl]; exact e_q012
theorem x_q05w : X.fn f_q05w = some a_q05w:=by kernel_rfl
theorem c_q05w {u0 u1 u2 v0 v1 v2 : AV} {h h1 : Heap} {P : Post} (hp : puras h [u0,u1,u2] = some ([v0,v1,v2],h1)) : ACall X f_q05w [u0,u1,u2] h P = d_q05w (ACall X) X.gl p_q05w_k1 p_q05w_k2 v0 v1 v2 h1 [] (finR [.t 6] false h.length P):=by rw [call_val x_q05w rfl hp rfl]; exact e_q05w
theorem x_q04s : X.fn f_q04s = some a_q04s:=by kernel_rfl
theorem c_q04s {u0 u1 v0 v1 : AV} {h h1 : Heap} {P : Post} (hp : puras h [u0,u1] = some ([v0,v1],h1)) : ACall X f_q04s [u0,u1] h P = d_q04s (ACall X) X.gl v0 v1 h1 [] (finR [.t 4] false h.length P):=by rw [call_val x_q04s rfl hp rfl]; exact e_q04s
theorem x_q01g : X.fn f_q01g = some a_q01g:=by kernel_rfl
theorem c_q01g {u0 v0 : AV} {h h1 : Heap} {P : Post} (hp : puras h [u0] = some ([v0],h1)) : ACall X f_q01g [u0] h P = d_q01g (ACall X) X.gl p_q01g_k1 p_q01g_k7 v0 h1 [] (finR [.t 2,.t 3] false h.length P):=by rw [call_val x_q01g rfl hp rfl]; exact e_q01g
theorem x_q01a : X.fn f_q01a = some a_q01a:=by kernel_rfl
theorem c_q01a {u0 u1 v0 v1 : AV} {h h1 : Heap} {P : Post} (hp : puras h [u0,u1] = some ([v0,v1],h1)) : ACall X f_q01a [u0,u1] h P = d_q01a (ACall X) X.gl p_q01a_k1 p_q01a_k2 v0 v1 h1 [] (finR [.t 4,.t 5,.t 6] false h.length P):=by rw [call_val x_q01a rfl hp rfl]; exact e_q01a
theorem x_q03e : X.fn f_q03e = some a_q03e:=by kernel_rfl
theorem c_q03e {u0 v0 : AV} {h h1 : Heap} {P : Post} (hp : puras h [u0] = some ([v0],h1)) : ACall X f_q03e [u0] h P = d_q03e (ACall X) X.gl p_q03e_k1 p_q03e_k2 v0 h1 [] (finR [.t 2] false h.length P):=by rw [call_val x_q03e rfl hp rfl]; exact e_q03e
theorem x_q05q : X.fn f_q05q = some a_q05q:=by kernel_rfl
theorem c_q05q {u0 u1 h P} : ACall X f_q05q [u0,u1] h P = d_q05q (ACall X) X.gl u0 u1 h [] (finR [.t 4] false h.length P):=by rw [call_ref x_q05q rfl rfl]; exact e_q05q
theorem x_q013 : X.fn f_q013 = some a_q013:=by kernel_rfl
theorem c_q013 {u0 u1 v0 v1 : AV} {h h1 : Heap} {P : Post} (hp : puras h [u0,u1] = some ([v0,v1],h1)) : ACall X f_q013 [u0,u1] h P = d_q013 (ACall X) X.gl p_q013_k1 p_q013_k5 v0 v1 h1 [] (finR [.t 4] false h.length P):=by rw [call_val x_q013 rfl hp rfl]; exact e_q013
theorem x_q05n : X.fn f_q05n = some a_q05n:=by kernel_rfl
theorem c_q05n {u0 u1 h P} : ACall X f_q05n [u0,u1] h P = d_q05n (ACall X) X.gl u0 u1 h [] (finR [.t 4] false h.length P):=by rw [call_ref x_q05n rfl rfl]; exact e_q05n
theorem x_q03a : X.fn f_q03a = some a_q03a:=by kernel_rfl
theorem c_q03a {u0 u1 v0 v1 : AV} {h h1 : Heap} {P : Post} (hp : puras h [u0,u1] = some ([v0,v1],h1)) : ACall X f_q03a [u0,u1] h P = d_q03a (ACall X) X.gl v0 v1 h1 [] (finR [.t 3] false h.length P):=by rw [call_val x_q03a rfl hp rfl]; exact e_q03a
theorem x_q03w : X.fn f_q03w = some a_q03w:=by kernel_rfl
theorem c_q03w {u0 u1 v0 v1 : AV} {h h1 : Heap} {P : Post} (hp : puras h [u0,u1] = some ([v0,v1],h1)) : ACall X f_q03w [u0,u1] h P = d_q03w (ACall X) X.gl v0 v1 h1 [] (finR [.t 4] false h.length P):=by rw [call_val x_q03w rfl hp rfl]; exact e_q03w
theorem x_q01o : X.fn f_q01o = some a_q01o:=by kernel_rfl
theorem c_q01o {u0 u1 v0 v1 : AV} {h h1 : Heap} {P : Post} (hp : puras h [u0,u1] = some ([v0,v1],h1)) : ACall X f_q01o [u0,u1] h P = d_q01o (ACall X) X.gl p_q01o_k1 p_q01o_k2 v0 v1 h1 [] (finR [.t 4] false h.length P):=by rw [call_val x_q01o rfl hp rfl]; exact e_q01o
theorem x_q01n : X.fn f_q01n = some a_q01n:=by kernel_rfl
theorem c_q01n {u0 v0 : AV} {h h1 : Heap} {P : Post} (hp : puras h [u0] = some ([v0],h1)) : ACall X f_q01n [u0] h P = d_q01n (ACall X) X.gl v0 h1 [] (finR [.t 2] false h.length P):=by rw [call_val x_q01n rfl hp rfl]; exact e_q01n
theorem x_q080 : X.fn f_q080 = some a_q080:=by kernel_rfl
theorem c_q080 {u0 u1 v0 v1 : AV} {h h1 : Heap} {P : Post} (hp : puras h [u0,u1] = some ([v0,v1],h1)) : ACall X f_q080 [u0,u1] h P = d_q080 (ACall X) X.gl v0 v1 h1 [] (finR [.t 4,.t 5] false h.length P):=by rw [call_val x_q080 rfl hp rfl]; exact e_q080
theorem x_q01x : X.fn f_q01x = some a_q01x:=by kernel_rfl
theorem c_q01x {u0 v0 : AV} {h h1 : Heap} {P : Post} (hp : puras h [u0] = some ([v0],h1)) : ACall X f_q01x [u0] h P = d_q01x (ACall X) X.gl v0 h1 [] (finR [.t 2] false h.length P):=by rw [call_val x_q01x rfl hp rfl]; exact e_q01x
theorem x_q07z : X.fn f_q07z = some a_q07z:=by kernel_rfl
theorem c_q07z {u0 u1 v0 v1 : AV} {h h1 : Heap} {P : Post} (hp : puras h [u0,u1] = some ([v0,v1],h1)) : ACall X f_q07z [u0,u1] h P = d_q07z (ACall X) X.gl v0 v1 h1 [] (finR [.t 4] false h.length P):=by rw [call_val x_q07z rfl hp rfl]; exact e_q07z
theorem x_q07x : X.fn f_q07x = some a_q07x:=by kernel_rfl
theorem c_q07x {u0 v0 : AV} {h h1 : Heap} {P : Post} (hp : puras h [u0] = some ([v0],h1)) : ACall X f_q07x [u0] h P = d_q07x (ACall X) X.gl v0 h1 [] (finR [.t 2] false h.length P):=by rw [call_val x_q07x rfl hp rfl]; exact e_q07x
theorem x_q07y : X.fn f_q07y = some a_q07y:=by kernel_rfl
theorem c_q07y {u0 v0 : AV} {h h1 : Heap} {P : Post} (hp : puras h [u0] = some ([v0],h1)) : ACall X f_q07y [u0] h P = d_q07y (ACall X) X.gl v0 h1 [] (finR [.t 2] false h.length P):=by rw [call_val x_q07y rfl hp rfl]; exact e_q07y
theorem x_q00a : X.fn f_q00a = some a_q00a:=by kernel_rfl
theorem c_q00a {u0 u1 u2 v0 v1 v2 : AV} {h h1 : Heap} {P : Post} (hp : puras h [u0,u1,u2] = some ([v0,v1,v2],h1)) : ACall X f_q00a [u0,u1,u2] h P = d_q00a (ACall X) X.gl v0 v1 v2 h1 [] (finR [.t 6] false h.length P):=by rw [call_val x_q00a rfl hp rfl]; exact e_q00a
theorem x_q001 : X.fn f_q001 = some a_q001:=by kernel_rfl
theorem c_q001 {u0 u1 v0 v1 : AV} {h h1 : Heap} {P : Post} (hp : puras h [u0,u1] = some ([v0,v1],h1)) : ACall X f_q001 [u0,u1] h P = d_q001 (ACall X) X.gl p_q001_k1 p_q001_k2 v0 v1 h1 [] (finR [.t 4,.t 5] false h.length P):=by rw [call_val x_q001 rfl hp rfl]; exact e_q001
theorem x_q01b : X.fn f_q01b = some a_q01b:=by kernel_rfl
theorem c_q01b {u0 u1 v0 v1 : AV} {h h1 : Heap} {P : Post} (hp : puras h [u0,u1] = some ([v0,v1],h1)) : ACall X f_q01b [u0,u1] h P = d_q01b (ACall X) X.gl v0 v1 h1 [] (finR [.t 3] false h.length P):=by rw [call_val x_q01b rfl hp rfl]; exact e_q01b
theorem x_q01r : X.fn f_q01r = some a_q01r:=by kernel_rfl
theorem c_q01r {u0 v0 : AV} {h h1 : Heap} {P : Post} (hp : puras h [u0] = some ([v0],h1)) : ACall X f_q01r [u0] h P = d_q01r (ACall X) X.gl p_q01r_k1 p_q01r_k2 v0 h1 [] (finR [.cell 2 (some 2),.t 3] false h.length P):=by rw [call_val x_q01r rfl hp rfl]; exact e_q01r
theorem x_q066 : X.fn f_q066 = some a_q066:=by kernel_rfl
theorem c_q066 {u0 u1 h P} : ACall X f_q066 [u0,u1] h P = d_q066 (ACall X) X.gl p_q066_k1 p_q066_k2 u0 u1 h [] (finR [.t 4] false h.length P):=by rw [call_ref x_q066 rfl rfl]; exact e_q066
theorem x_q062 : X.fn f_q062 = some a_q062:=by kernel_rfl
theorem c_q062 {u0 u1 h P} : ACall X f_q062 [u0,u1] h P = d_q062 (ACall X) X.gl p_q062_k1 p_q062_k2 u0 u1 h [] (finR [.t 4] false h.length P):=by rw [call_ref x_q062 rfl rfl]; exact e_q062
theorem x_q03o : X.fn f_q03o = some a_q03o:=by kernel_rfl
theorem c_q03o {u0 u1 v0 v1 : AV} {h h1 : Heap} {P : Post} (hp : puras h [u0,u1] = some ([v0,v1],h1)) : ACall X f_q03o [u0,u1] h P = d_q03o (ACall X) X.gl p_q03o_k1 v0 v1 h1 [] (finR [.t 4] false h.length P):=by rw [call_val x_q03o rfl hp rfl]; exact e_q03o
theorem x_q081 : X.fn f_q081 = some a_q081:=by kernel_rfl
theorem c_q081 {u0 v0 : AV} {h h1 : Heap} {P : Post} (hp : puras h [u0] = some ([v0],h1)) : ACall X f_q081 [u0] h P = d_q081 (ACall X) X.gl v0 h1 [] (finR [] false h.length P):=by rw [call_val x_q081 rfl hp rfl]; exact e_q081
theorem x_q006 : X.fn f_q006 = some a_q006:=by kernel_rfl
theorem c_q006 {u0 v0 : AV} {h h1 : Heap} {P : Post} (hp : puras h [u0] = some ([v0],h1)) : ACall X f_q006 [u0] h P = d_q006 (ACall X) X.gl v0 h1 [] (finR [.t 2,.t 3] false h.length P):=by rw [call_val x_q006 rfl hp rfl]; exact e_q006
theorem x_q08e : X.fn f_q08e = some a_q08e:=by kernel_rfl
theorem c_q08e {u0 u1 v0 v1 : AV} {h h1 : Heap} {P : Post} (hp : puras h [u0,u1] = some ([v0,v1],h1)) : ACall X f_q08e [u0,u1] h P = d_q08e (ACall X) X.gl v0 v1 h1 [] (finR [.t 4] false h.length P):=by rw [call_val x_q08e rfl hp rfl]; exact e_q08e
theorem x_q009 : X.fn f_q009 = some a_q009:=by kernel_rfl
theorem c_q009 {u0 u1 v0 v1 : AV} {h h1 : Heap} {P : Post} (hp : puras h [u0,u1] = some ([v0,v1],h1)) : ACall X f_q009 [u0,u1] h P = d_q009 (ACall X) X.gl p_q009_k1 p_q009_k2 v0 v1 h1 [] (finR [.t 4,.t 5] false h.length P):=by rw [call_val x_q009 rfl hp rfl]; exact e_q009
theorem x_q02n : X.fn f_q02n = some a_q02n:=by kernel_rfl
theorem c_q02n {u0 u1 v0 v1 : AV} {h h1 : Heap} {P : Post} (hp : puras h [u0,u1] = some ([v0,v1],h1)) : ACall X f_q02n [u0,u1] h P = d_q02n (ACall X) X.gl v0 v1 h1 [] (finR [.t 4] false h.length P):=by rw [call_val x_q02n rfl hp rfl]; exact e_q02n
theorem x_q087 : X.fn f_q087 = some a_q087:=by kernel_rfl
theorem c_q087 {u0 u1 v0 v1 : AV} {h h1 : Heap} {P : Post} (hp : puras h [u0,u1] = some ([v0,v1],h1)) : ACall X f_q087 [u0,u1] h P = d_q087 (ACall X) X.gl v0 v1 h1 [] (finR [.t 4,.t 5] false h.length P):=by rw [call_val x_q087 rfl hp rfl]; exact e_q087
theorem x_q08j : X.fn f_q08j = some a_q08j:=by kernel_rfl
theorem c_q08j {u0 u1 u2 u3 v0 v1 v2 v3 : AV} {h h1 : Heap} {P : Post} (hp : puras h [u0,u1,u2,u3] = some ([v0,v1,v2,v3],h1)) : ACall X f_q08j [u0,u1,u2,u3] h P = d_q08j (ACall X) X.gl p_q08j_k3 v0 v1 v2 v3 h1 [] (finR [.t 8] false h.length P):=by rw [call_val x_q08j rfl hp rfl]; exact e_q08j
theorem x_q008 : X.fn f_q008 = some a_q008:=by kernel_rfl
theorem c_q008 {u0 u1 v0 v1 : AV} {h h1 : Heap} {P : Post} (hp : puras h [u0,u1] = some ([v0,v1],h1)) : ACall X f_q008 [u0,u1] h P = d_q008 (ACall X) X.gl p_q008_k1 p_q008_k2 v0 v1 h1 [] (finR [.t 4,.t 5] false h.length P):=by rw [call_val x_q008 rfl hp rfl]; exact e_q008
theorem x_q08g : X.fn f_q08g = some a_q08g:=by kernel_rfl
theorem c_q08g {u0 u1 v0 v1 : AV} {h h1 : Heap} {P : Post} (hp : puras h [u0,u1] = some ([v0,v1],h1)) : ACall X f_q08g [u0,u1] h P = d_q08g (ACall X) X.gl v0 v1 h1 [] (finR [.t 4] false h.length P):=by rw [call_val x_q08g rfl hp rfl]; exact e_q08g
theorem x_q02m : X.fn f_q02m = some a_q02m:=by kernel_rfl
theorem c_q02m {u0 u1 v0 v1 : AV} {h h1 : Heap} {P : Post} (hp : puras h [u0,u1] = some ([v0,v1],h1)) : ACall X f_q02m [u0,u1] h P = d_q02m (ACall X) X.gl v0 v1 h1 [] (finR [.t 4,.t 5] false h.length P):=by rw [call_val x_q02m rfl hp rfl]; exact e_q02m
theorem x_q08i : X.fn f_q08i = some a_q08i:=by kernel_rfl
theorem c_q08i {u0 u1 v0 v1 : AV} {h h1 : Heap} {P : Post} (hp : puras h [u0,u1] = some ([v0,v1],h1)) : ACall X f_q08i [u0,u1] h P = d_q08i (ACall X) X.gl p_q08i_k4 v0 v1 h1 [] (finR [.t 4] false h.length P):=by rw [call_val x_q08i rfl hp rfl]; exact e_q08i
theorem x_q089 : X.fn f_q089 = some a_q089:=by kernel_rfl
theorem c_q089 {u0 u1 v0 v1 : AV} {h h1 : Heap} {P : Post} (hp : puras h [u0,u1] = some ([v0,v1],h1)) : ACall X f_q089 [u0,u1] h P = d_q089 (ACall X) X.gl v0 v1 h1 [] (finR [.t 4] false h.length P):=by rw [call_val x_q089 rfl hp rfl]; exact e_q089
theorem x_q02p : X.fn f_q02p = some a_q02p:=by kernel_rfl
theorem c_q02p {u0 u1 v0 v1 : AV} {h h1 : Heap} {P : Post} (hp : puras h [u0,u1] = some ([v0,v1],h1)) : ACall X f_q02p [u0,u1] h P = d_q02p (ACall X) X.gl p_q02p_k2 p_q02p_k3 v0 v1 h1 [] (finR [.t 4] false h.length P):=by rw [call_val x_q02p rfl hp rfl]; exact e_q02p
theorem x_q02r : X.fn f_q02r = some a_q02r:=by kernel_rfl
theorem c_q02r {u0 u1 v0 v1 : AV} {h h1 : Heap} {P : Post} (hp : puras h [u0,u1] = some ([v0,v1],h1)) : ACall X f_q02r [u0,u1] h P = d_q02r (ACall X) X.gl v0 v1 h1 [] (finR [.t 4] false h.length P):=by rw [call_val x_q02r rfl hp rfl]; exact e_q02r
theorem x_q02q : X.fn f_q02q = some a_q02q:=by kernel_rfl
theorem c_q02q {u0 u1 v0 v1 : AV} {h h1 : Heap} {P : Post} (hp : puras h [u0,u1] = some ([v0,v1],h1)) : ACall X f_q02q [u0,u1] h P = d_q02q (ACall X) X.gl v0 v1 h1 [] (finR [.t 4] false h.length P):=by rw [call_val x_q02q rfl hp rfl]; exact e_q02q
theorem x_q02o : X.fn f_q02o = some a_q02o:=by kernel_rfl
theorem c_q02o {u0 u1 v0 v1 : AV} {h h1 : Heap} {P : Post} (hp : puras h [u0,u1] = some ([v0,v1],h1)) : ACall X f_q02o [u0,u1] h P = d_q02o (ACall X) X.gl v0 v1 h1 [] (finR [.t 4] false h.length P):=by rw [call_val x_q02o rfl hp rfl]; exact e_q02o
theorem x_q08y : X.fn f_q08y = some a_q08y:=by kernel_rfl
theorem c_q08y {u0 v0 : AV} {h h1 : Heap} {P : Post} (hp : puras h [u0] = some ([v0],h1)) : ACall X f_q08y [u0] h P = d_q08y (ACall X) X.gl v0 h1 [] (finR [.t 2,.t 3] false h.length P):=by rw [call_val x_q08y rfl hp rfl]; exact e_q08y
theorem x_q022 : X.fn f_q022 = some a_q022:=by kernel_rfl
theorem c_q022 {u0 v0 : AV} {h h1 : Heap} {P : Post} (hp : puras h [u0] = some ([v0],h1)) : ACall X f_q022 [u0] h P = d_q022 (ACall X) X.gl v0 h1 [] (finR [.t 2] false h.length P):=by rw [call_val x_q022 rfl hp rfl]; exact e_q022
theorem x_q023 : X.fn f_q023 = some a_q023:=by kernel_rfl
theorem c_q023 {u0 u1 v0 v1 : AV} {h h1 : Heap} {P : Post} (hp : puras h [u0,u1] = some ([v0,v1],h1)) : ACall X f_q023 [u0,u1] h P = d_q023 (ACall X) X.gl p_q023_k1 p_q023_k4 v0 v1 h1 [] (finR [.t 4] false h.length P):=by rw [call_val x_q023 rfl hp rfl]; exact e_q023
theorem x_q092 : X.fn f_q092 = some a_q092:=by kernel_rfl
theorem c_q092 {u0 v0 : AV} {h h1 : Heap} {P : Post} (hp : puras h [u0] = some ([v0],h1)) : ACall X f_q092 [u0] h P = d_q092 (ACall X) X.gl v0 h1 [] (finR [.t 2,.t 3] false h.length P):=by rw [call_val x_q092 rfl hp rfl]; exact e_q092
theorem x_q024 : X.fn f_q024 = some a_q024:=by kernel_rfl
theorem c_q024 {u0 v0 : AV} {h h1 : Heap} {P : Post} (hp : puras h [u0] = some ([v0],h1)) : ACall X f_q024 [u0] h P = d_q024 (ACall X) X.gl p_q024_k1 p_q024_k6 v0 h1 [] (finR [.t 2,.t 3] false h.length P):=by rw [call_val x_q024 rfl hp rfl]; exact e_q024
attribute [go_sem] e_q039_k1 e_q039_k2 e_q039_k3 e_q039_k4 e_q039_k5 l_q039_k2 l_q039_k3 d_q039_k1 d_q039_k2 d_q039_k3 d_q039_k4 d_q039_k5 e_q05x_k1 e_q05x_k2 l_q05x_k1 d_q05x_k1 d_q05x_k2 e_q012_k1 e_q012_k2 e_q012_k3 e_q012_k4 e_q012_k5 e_q012_k6 e_q012_k7 l_q012_k2 l_q012_k4 l_q012_k6 d_q012_k1 d_q012_k2 d_q012_k3 d_q012_k4 d_q012_k5 d_q012_k6 d_q012_k7 e_q05w_k1 e_q05w_k2 l_q05w_k1 d_q05w_k1 d_q05w_k2 e_q01g_k1
attribute [go_sem] e_q01g_k2 e_q01g_k3 e_q01g_k4 e_q01g_k5 e_q01g_k6 e_q01g_k7 l_q01g_k1 l_q01g_k2 l_q01g_k5 d_q01g_k1 d_q01g_k2 d_q01g_k3 d_q01g_k4 d_q01g_k5 d_q01g_k6 d_q01g_k7 e_q01a_k1 e_q01a_k2 l_q01a_k1 d_q01a_k1 d_q01a_k2 e_q03e_k1 e_q03e_k2 l_q03e_k1 d_q03e_k1 d_q03e_k2 e_q013_k1 e_q013_k2 e_q013_k3 e_q013_k4 e_q013_k5 l_q013_k1 l_q013_k2 d_q013_k1 d_q013_k2 d_q013_k3 d_q013_k4 d_q013_k5 e_q01o_k1 e_q01o_k2
attribute [go_sem] l_q01o_k1 d_q01o_k1 d_q01o_k2 e_q001_k1 e_q001_k2 l_q001_k1 d_q001_k1 d_q001_k2 e_q01r_k1 e_q01r_k2 l_q01r_k1 d_q01r_k1 d_q01r_k2 e_q066_k1 e_q066_k2 l_q066_k1 d_q066_k1 d_q066_k2 e_q062_k1 e_q062_k2 l_q062_k1 d_q062_k1 d_q062_k2 e_q03o_k1 d_q03o_k1 e_q009_k1 e_q009_k2 l_q009_k1 d_q009_k1 d_q009_k2 e_q08j_k1 e_q08j_k2 e_q08j_k3 l_q08j_k1 d_q08j_k1 d_q08j_k2 d_q08j_k3 e_q008_k1 e_q008_k2 l_q008_k1
attribute [go_sem] d_q008_k1 d_q008_k2 e_q08i_k1 e_q08i_k2 e_q08i_k3 e_q08i_k4 l_q08i_k1 d_q08i_k1 d_q08i_k2 d_q08i_k3 d_q08i_k4 e_q02p_k1 e_q02p_k2 e_q02p_k3 l_q02p_k2 d_q02p_k1 d_q02p_k2 d_q02p_k3 e_q023_k1 e_q023_k2 e_q023_k3 e_q023_k4 l_q023_k1 l_q023_k2 d_q023_k1 d_q023_k2 d_q023_k3 d_q023_k4 e_q024_k1 e_q024_k2 e_q024_k3 e_q024_k4 e_q024_k5 e_q024_k6 l_q024_k1 l_q024_k4 d_q024_k1 d_q024_k2 d_q024_k3 d_q024_k4
attribute [go_sem] d_q024_k5 d_q024_k6 e_q08u_k1 e_q08u_k2 e_q08u_k3 e_q08u_k4 l_q08u_k2 l_q08u_k3 d_q08u_k1 d_q08u_k2 d_q08u_k3 d_q08u_k4
end Go.Am
end
section
/- The stream of numbers out of which the laws draw. -/
open Go
namespace Go.Am
abbrev eI (n : Int) : PV:=.int .i64 n
abbrev AL (l : List Int) : AV:=.p (.sl none (l.map eI))
abbrev strm (L : List Int) (a : Int) : Obj:=.box [AL L,AI a]
def below (x n : Int) : Int:=if n < 1 then 0 else if x.tmod n < 0 then IntKind.i64.wrap (x.tmod n + n) else x.tmod n
theorem s_Below (x n : Int) (h : Heap) (K : Post) : ACall X f_q03o [AI x,AI n] h K = K (AI (below x n)) h []:=by
  refine rule ?_
  rw [c_q03o rfl]
  simp only [d_q03o,go_sem]
  unfold below
  by_cases h1 : n < 1
  · simp only [h1,if_true]
  · simp only [h1, if_false, show ¬ n = 0 by omega]
    split <;> rfl
theorem below_bd (x n : Int) (h1 : 1 ≤ n) (h2 : n ≤ 4611686018427387904) : 0 ≤ below x n ∧ below x n < n:=by
  unfold below
  rw [if_neg (by omega)]
  have:=Int.tmod_lt_of_pos x (show 0 < n by omega)
  have h3 : -n < x.tmod n:=by
    have:=Int.lt_tmod_of_pos x (show 0 < n by omega)
    exact this
  split
  · rw [i64_wrap _ (by omega) (by omega)]; omega
  · omega
def nextV (L : List Int) (a n : Int) : Int:=
  if L.length = 0 then below (IntKind.i64.wrap ((a + 1) * 7919)) n
  else below (IntKind.i64.wrap (below (L.getD (a.tmod L.length).toNat 0) 1073741824 + IntKind.i64.wrap (IntKind.i64.wrap (a.tdiv L.length) * IntKind.i64.wrap (7919 + a.tmod L.length)))) n
theorem nextV_bd (L : List Int) (a n : Int) (h1 : 1 ≤ n) (h2 : n ≤ 4611686018427387904) : 0 ≤ nextV L a n ∧ nextV L a n < n:=by
  unfold nextV
  split <;> exact below_bd _ _ h1 h2
theorem set_get' {h : Heap} {id : Nat} {o' : Obj} (hid : id < h.length) : (h.set id o')[id]? = some o':=by simp [hid]
theorem get_lt {h : Heap} {id : Nat} {o : Obj} (hh : h[id]? = some o) : id < h.length:=(List.getElem?_eq_some_iff.1 hh).1
def posN (n : Nat) (a : Int) : Prop:=0 ≤ a ∧ a + n < 4611686018427387904
def Gen (f : Nat) (args : List AV) (L : List Int) (a a2 : Int) (v : AV) : Prop:=∀ (h : Heap) (id : Nat) (K : Post),h[id]? = some (strm L a) → ACall X f (.ref id 0 :: args) h K = K v (h.set id (strm L a2)) []
section
variable {f : Nat} {args : List AV} {L : List Int} {a a2 : Int} {v : AV} {h l : Heap} {id : Nat} {K : Post}
theorem Gen.set (g : Gen f args L a a2 v) (hid : id < h.length) : ACall X f (.ref id 0 :: args) (h.set id (strm L a)) K = K v (h.set id (strm L a2)) []:=by
  rw [g _ _ _ (set_get' hid),List.set_set]
theorem Gen.app (g : Gen f args L a a2 v) (hid : id < h.length) : ACall X f (.ref id 0 :: args) (h.set id (strm L a) ++ l) K = K v (h.set id (strm L a2) ++ l) []:=by
  rw [g _ _ _ (by rw [get_app (by simpa using hid)]; exact set_get' hid),set_app (by simpa using hid),List.set_set]
theorem Gen.hd (g : Gen f args L a a2 v) : ACall X f (.ref 0 0 :: args) (strm L a :: l) K = K v (strm L a2 :: l) []:=by
  rw [g _ _ _ rfl]; rfl
theorem Gen.of (H : ∀ (h : Heap) (id : Nat),id < h.length → ACall X f (.ref id 0 :: args) (h.set id (strm L a)) fun v1 h1 x1=>v1 = v ∧ h1 = h.set id (strm L a2) ∧ x1 = []) : Gen f args L a a2 v:=by
  intro h id K hh
  have hid:=get_lt hh
  have : h.set id (strm L a) = h:=by
    apply List.ext_getElem?
    intro i
    rw [List.getElem?_set]
    split
    · rename_i e; subst e; rw [hh]
    · rfl
  have k:=H h id hid
  rw [this] at k
  exact rule k
end
def GenE (f : Nat) (args : List AV) (L : List Int) (a : Int) (Q : AV → Int → Prop) : Prop:=∀ (h : Heap) (id : Nat),h[id]? = some (strm L a) → ∃ v a2,Q v a2 ∧ ∀ K : Post,ACall X f (.ref id 0 :: args) h K = K v (h.set id (strm L a2)) []
section
variable {f : Nat} {args : List AV} {L : List Int} {a : Int} {Q : AV → Int → Prop}
theorem GenE.set (g : GenE f args L a Q) {h : Heap} {id : Nat} (hid : id < h.length) : ∃ v a2,Q v a2 ∧ ∀ K : Post,ACall X f (.ref id 0 :: args) (h.set id (strm L a)) K = K v (h.set id (strm L a2)) []:=by
  obtain ⟨v,a2,q,r⟩:=g _ _ (set_get' hid)
  exact ⟨v,a2,q,fun K=>by rw [r,List.set_set]⟩
theorem GenE.app (g : GenE f args L a Q) {h l : Heap} {id : Nat} (hid : id < h.length) : ∃ v a2,Q v a2 ∧ ∀ K : Post,ACall X f (.ref id 0 :: args) (h.set id (strm L a) ++ l) K = K v (h.set id (strm L a2) ++ l) []:=by
  obtain ⟨v,a2,q,r⟩:=g (h.set id (strm L a) ++ l) id (by rw [get_app (by simpa using hid)]; exact set_get' hid)
  exact ⟨v,a2,q,fun K=>by rw [r,set_app (by simpa using hid),List.set_set]⟩
theorem GenE.hd (g : GenE f args L a Q) {l : Heap} : ∃ v a2,Q v a2 ∧ ∀ K : Post,ACall X f (.ref 0 0 :: args) (strm L a :: l) K = K v (strm L a2 :: l) []:=g (strm L a :: l) 0 rfl
theorem GenE.of (H : ∀ (h : Heap) (id : Nat),id < h.length → ACall X f (.ref id 0 :: args) (h.set id (strm L a)) fun v1 h1 x1=>∃ a2,Q v1 a2 ∧ h1 = h.set id (strm L a2) ∧ x1 = []) : GenE f args L a Q:=by
  intro h id hh
  have hid:=get_lt hh
  have : h.set id (strm L a) = h:=by
    apply List.ext_getElem?
    intro i
    rw [List.getElem?_set]
    split
    · rename_i e; subst e; rw [hh]
    · rfl
  have k:=H h id hid
  rw [this] at k
  obtain ⟨v,h',x,⟨a2,q,e1,e2⟩,r⟩:=ACall.one X_noNext k
  subst e1; subst e2
  exact ⟨v,a2,q,r⟩
end
def isI : PV → Bool
  | .int .i64 _=>true
  | _=>false
def unI : PV → Int
  | .int _ n=>n
  | _=>0
set_option maxHeartbeats 400000 in
theorem g_Next (L : List Int) (a n : Int) (hp : posN 0 a) : Gen f_q03w [AI n] L a (a + 1) (AI (nextV L a n)):=by
  refine Gen.of fun h id hid=>?_
  rw [c_q03w rfl]
  obtain ⟨h0,h1⟩:=hp
  have w1 : IntKind.i64.wrap (a + 1) = a + 1:=i64_wrap _ (by omega) (by omega)
  have w2 : IntKind.i64.wrap (a + 1 - 1) = a:=by rw [i64_wrap _ (by omega) (by omega)]; omega
  have hs : ∀ o',(h.set id o')[id]? = some o':=fun o'=>set_get' hid
  rcases Nat.eq_zero_or_pos L.length with hl | hl
  · simp only [d_q03w, go_sem, hs, s_Below, hl, w1]
    simp only [nextV,hl,if_true]
  · have e1 : ((L.length : Int) = 0) = False := by simp only [eq_iff_iff, iff_false]; omega
    have e2 : 0 ≤ a.tmod L.length:=Int.tmod_nonneg _ h0
    have e3 : a.tmod L.length < L.length:=Int.tmod_lt_of_pos _ (by omega)
    have e4:=natOf_int (k:=.i64) e2
    have e5 : (L.map eI)[(a.tmod L.length).toNat]? = some (eI (L.getD (a.tmod L.length).toNat 0)):=by
      rw [map_get eI (show (a.tmod L.length).toNat < L.length by omega)]
      simp [List.getD,show (a.tmod L.length).toNat < L.length by omega]
    simp only [d_q03w,go_sem,hs,s_Below,e1,w1,w2,e4,e5]
    simp only [nextV,show ¬ L.length = 0 by omega,if_false]
section
variable {L : List Int} {a : Int} {h l : Heap} {id : Nat} {K : Post}
theorem s_Next_set (hid : id < h.length) (hp : posN 0 a) (n : Int) : ACall X f_q03w [.ref id 0,AI n] (h.set id (strm L a)) K = K (AI (nextV L a n)) (h.set id (strm L (a + 1))) []:=(g_Next L a n hp).set hid
theorem s_Next_app (hid : id < h.length) (hp : posN 0 a) (n : Int) : ACall X f_q03w [.ref id 0,AI n] (h.set id (strm L a) ++ l) K = K (AI (nextV L a n)) (h.set id (strm L (a + 1)) ++ l) []:=(g_Next L a n hp).app hid
theorem s_Next_hd (hp : posN 0 a) (n : Int) : ACall X f_q03w [.ref 0 0,AI n] (strm L a :: l) K = K (AI (nextV L a n)) (strm L (a + 1) :: l) []:=(g_Next L a n hp).hd
theorem g_Flip (hp : posN 0 a) (n : Int) : Gen f_q03u [AI n] L a (a + 1) (AB (decide (nextV L a n = 0))):=by
  refine Gen.of fun h id hid=>?_
  rw [c_q03u rfl]
  simp only [d_q03u,go_sem,s_Next_set hid hp]
theorem s_Flip_set (hid : id < h.length) (hp : posN 0 a) (n : Int) : ACall X f_q03u [.ref id 0,AI n] (h.set id (strm L a)) K = K (AB (decide (nextV L a n = 0))) (h.set id (strm L (a + 1))) []:=(g_Flip hp n).set hid
theorem s_Flip_app (hid : id < h.length) (hp : posN 0 a) (n : Int) : ACall X f_q03u [.ref id 0,AI n] (h.set id (strm L a) ++ l) K = K (AB (decide (nextV L a n = 0))) (h.set id (strm L (a + 1)) ++ l) []:=(g_Flip hp n).app hid
theorem s_Flip_hd (hp : posN 0 a) (n : Int) : ACall X f_q03u [.ref 0 0,AI n] (strm L a :: l) K = K (AB (decide (nextV L a n = 0))) (strm L (a + 1) :: l) []:=(g_Flip hp n).hd
def rangeV (u v : Int) (L : List Int) (a : Int) : Int:=u + nextV L a (v - u + 1)
theorem rangeV_bd {u v : Int} (L : List Int) (a : Int) (h1 : u ≤ v) (h2 : v ≤ u + 4611686018427387900) : u ≤ rangeV u v L a ∧ rangeV u v L a ≤ v:=by
  have:=nextV_bd L a (v - u + 1) (by omega) (by omega)
  unfold rangeV; omega
theorem g_Range (hp : posN 0 a) (u v : Int) (huv : u ≤ v) (hu : -1152921504606846976 ≤ u) (hv : v ≤ 1152921504606846976) :
    Gen f_q040 [AI u,AI v] L a (a + 1) (AI (rangeV u v L a)):=by
  refine Gen.of fun h id hid=>?_
  rw [c_q040 rfl]
  obtain ⟨b1,b2⟩:=rangeV_bd L a huv (by omega)
  have w1 : IntKind.i64.wrap (v - u) = v - u:=i64_wrap _ (by omega) (by omega)
  have w2 : IntKind.i64.wrap (v - u + 1) = v - u + 1:=i64_wrap _ (by omega) (by omega)
  have w3 : IntKind.i64.wrap (u + nextV L a (v - u + 1)) = rangeV u v L a:=i64_wrap (rangeV u v L a) (by omega) (by omega)
  simp only [d_q040,go_sem,show ¬ v < u by omega,w1,w2,s_Next_set hid hp,w3]
theorem s_Range_set (hid : id < h.length) (hp : posN 0 a) {u v : Int} (huv : u ≤ v) (hu : -1152921504606846976 ≤ u) (hv : v ≤ 1152921504606846976) :
    ACall X f_q040 [.ref id 0,AI u,AI v] (h.set id (strm L a)) K = K (AI (rangeV u v L a)) (h.set id (strm L (a + 1))) []:=(g_Range hp u v huv hu hv).set hid
theorem s_Range_app (hid : id < h.length) (hp : posN 0 a) {u v : Int} (huv : u ≤ v) (hu : -1152921504606846976 ≤ u) (hv : v ≤ 1152921504606846976) :
    ACall X f_q040 [.ref id 0,AI u,AI v] (h.set id (strm L a) ++ l) K = K (AI (rangeV u v L a)) (h.set id (strm L (a + 1)) ++ l) []:=(g_Range hp u v huv hu hv).app hid
theorem s_Range_hd (hp : posN 0 a) {u v : Int} (huv : u ≤ v) (hu : -1152921504606846976 ≤ u) (hv : v ≤ 1152921504606846976) :
    ACall X f_q040 [.ref 0 0,AI u,AI v] (strm L a :: l) K = K (AI (rangeV u v L a)) (strm L (a + 1) :: l) []:=(g_Range hp u v huv hu hv).hd
end
attribute [go_sem ↓] s_Next_set s_Next_app s_Next_hd s_Flip_set s_Flip_app s_Flip_hd s_Range_set s_Range_app s_Range_hd
attribute [go_sem] s_Next_set s_Next_app s_Next_hd s_Flip_set s_Flip_app s_Flip_hd s_Range_set s_Range_app s_Range_hd isI unI
end Go.Am
end
section
/- Plain laws of fractions in lowest terms. -/
namespace Go.Am
end Go.Am
end
section
/- Small functions of numbers and of lists of numbers. -/
open Go
namespace Go.Am
variable {h : Heap} {K : Post}
theorem s_Out (n a b : Int) : ACall X f_q00a [AI n,AI a,AI b] h K = K (AB (decide (n < a) || decide (b < n))) h []:=by
  refine rule ?_
  rw [c_q00a rfl]
  by_cases h1 : n < a <;> simp only [d_q00a,go_sem,h1]
end Go.Am
end
section
/- Functions of lists. -/
open Go
namespace Go.Am
variable {h : Heap} {K : Post}
theorem s_EqualI (l m : List Int) (hl : l.length ≤ 1000000000) : ACall X f_q05x [AL l,AL m] h K = K (AB (decide (l = m))) h []:=by
  refine rule ?_
  rw [c_q05x rfl]
  by_cases hlen : l.length = m.length
  · simp only [d_q05x, go_sem, hlen]
    refine N_loop (fun k : Nat=>⟨[(0,AL l),(1,AL m),(12,AI m.length),(13,AI k)],h,[]⟩) (fun k=>k ≤ m.length ∧ l.take k = m.take k) (fun k=>m.length - k) 0 rfl (by simp) ?_
    rintro k ⟨hk,hp⟩
    rcases Nat.lt_or_ge k m.length with hlt | hge
    · have hg1 := map_get eI (show k < l.length by omega)
      have hg2:=map_get eI hlt
      have w2 : IntKind.i64.wrap ((k : Int) + 1) = ((k + 1 : Nat) : Int):=i64_wrap _ (by omega) (by omega)
      by_cases he : l[k] = m[k]
      · simp only [go_sem, hlt, hg1, hg2, w2, he]
        exact ⟨k + 1,rfl,⟨by omega,by rw [List.take_succ_eq_append_getElem (by omega),List.take_succ_eq_append_getElem hlt,hp,he]⟩,by omega⟩
      · simp only [go_sem, hlt, hg1, hg2, w2, he]
        have : ¬ l = m:=fun h=>he (by simp only [h])
        simp [this]
    · have e1 : k = m.length := by omega
      have e2 : l = m:=by rw [← List.take_length (l:=l),← List.take_length (l:=m),hlen,← e1,hp]
      subst e1
      simp only [go_sem,Nat.lt_irrefl]
      simp [e2]
  · have e1 : ((l.length : Int) = m.length) = False := by simp only [eq_iff_iff, iff_false]; omega
    simp only [d_q05x,go_sem,e1]
    have : ¬ l = m:=fun h=>hlen (by rw [h])
    simp [this]
def Tells (g : Nat) (caps : List AV) (p : PV → Bool) (xs : List PV) (h : Heap) : Prop:=∀ x ∈ xs,∀ K : Post,ACall X g (.p x :: caps) h K = K (AB (p x)) h []
def idxP (p : PV → Bool) (xs : List PV) : Int:=if xs.findIdx p < xs.length then (xs.findIdx p : Int) else -1
theorem idxP_any (p : PV → Bool) (xs : List PV) : decide (0 ≤ idxP p xs) = xs.any p:=by
  unfold idxP
  rw [Bool.eq_iff_iff]
  by_cases h : xs.findIdx p < xs.length
  · rw [if_pos h]; simp only [decide_eq_true_eq, List.any_eq_true]
    exact ⟨fun _=>⟨_,List.getElem_mem h,List.findIdx_getElem⟩,fun _=>by omega⟩
  · rw [if_neg h]; simp only [decide_eq_true_eq, List.any_eq_true]
    refine ⟨fun h=>by omega,fun ⟨x,hx,hp⟩=>absurd (List.findIdx_lt_length_of_exists ⟨x,hx,hp⟩) h⟩
def firstErr : List Int → Int
  | []=>0
  | e :: r=>if e = 0 then firstErr r else e
end Go.Am
end
section
/- Values of a shape: loads and stores in rows. -/
open Go
namespace Go.Am
variable {h : Heap} {K : Post}
theorem shp_cut {sh : Sh} {x : PV} (hx : x.shp sh = true) : cutP sh 0 x = some x:=by
  cases sh with
  | none=>exact cutP_sc hx
  | some n=>
    cases x with
    | agg cs=>
      simp only [PV.shp,Bool.and_eq_true,beq_iff_eq] at hx
      simp [cutP,hx.1]
      exact List.take_of_length_le (by omega)
    | _=>cases hx
theorem shp_st {sh : Sh} {x y : PV} (hx : x.shp sh = true) (hy : y.shp sh = true) (id i fz : Nat) (xs : List PV) (h1 : Heap) : stE sh id i 0 fz sh xs x h1 (some y) = some (.und,h1.set id (.row sh (xs.set i x) fz),[]):=by
  cases sh with
  | none=>
    cases y with
    | agg cs=>cases hy
    | _=>simp only [PV.shp] at hx; simp [stE,hx]
  | some n=>
    cases y with
    | agg cs=>
      cases x with
      | agg ds=>
        simp only [PV.shp,Bool.and_eq_true,beq_iff_eq] at hx hy
        simp [stE,PV.cells,splice,hx.1,hy.1,show cs.drop n = [] from List.drop_of_length_le (by omega)]
      | _=>cases hx
    | _=>cases hy
def shps (sh : Sh) (xs : List PV) : Prop:=∀ x ∈ xs,x.shp sh = true
theorem shps_get {sh : Sh} {xs : List PV} (hx : shps sh xs) {i : Nat} (hi : i < xs.length) : xs[i].shp sh = true:=hx _ (List.getElem_mem hi)
theorem set_self {h : Heap} {id : Nat} {o : Obj} (hh : h[id]? = some o) : h.set id o = h:=by
  apply List.ext_getElem?
  intro i
  rw [List.getElem?_set]
  split
  · rename_i e; subst e; rw [hh]; simp [get_lt hh]
  · rfl
structure Shows (sh : Sh) (v : AV) (xs : List PV) (h : Heap) : Prop where
  len : oLen v = some (AI xs.length)
  get : ∀ (k : Nat) (hk : k < xs.length),∃ a,oIaddr sh v (AI k) h = some a ∧ oLoad sh a h = some (.p xs[k])
theorem shows_sl {sh : Sh} {xs : List PV} (hs : shps sh xs) : Shows sh (.p (.sl sh xs)) xs h:=by
  refine ⟨rfl,fun k hk=>⟨.vp xs[k],?_,?_⟩⟩
  · simp [oIaddr,natOf,hk]
  · simp only [load_vp,shp_cut (shps_get hs hk)]; rfl
theorem shows_own {sh : Sh} {id off len fz : Nat} {xs : List PV} (hs : shps sh xs) (hh : h[id]? = some (.row sh xs fz)) (hl : off + len ≤ xs.length) : Shows sh (.own id xs.length off len) (win xs off len) h:=by
  have hw : (win xs off len).length = len:=by simp [win]; omega
  refine ⟨by rw [hw]; rfl,fun k hk=>⟨.rref id xs.length (off + k) 0,?_,?_⟩⟩
  · rw [hw] at hk
    simp [oIaddr,natOf,hh,hl,hk]
  · have hk' : off + k < xs.length := by rw [hw] at hk; omega
    have e : (win xs off len)[k] = xs[off + k]:=by simp [win]
    rw [e]
    simp only [load_rref,hh,ldR_row,if_true,List.getElem?_eq_getElem hk',Option.bind_some,shp_cut (shps_get hs hk'),Option.map_some]
end Go.Am
end
section
/- Strings: keys,the library's functions without text. -/
open Go
set_option linter.unusedSimpArgs false
namespace Go.Am
variable {h : Heap} {K : Post}
abbrev AS (s : List UInt8) : AV:=.p (.str s)
theorem X_ext : X.ext = extF f_internal_bytealg_IndexByteString f_internal_bytealg_abigen_runtime_cmpstring:=rfl
theorem s_idxExt (s : List UInt8) (c : UInt8) : ACall X f_internal_bytealg_IndexByteString [AS s,.p (.int .u8 c.toNat)] h K = K (AI (idxB s c)) h []:=by
  have:=ext_call (X:=X) (f:=f_internal_bytealg_IndexByteString) (asv:=[AS s,.p (.int .u8 c.toNat)]) (vs:=[.str s,.int .u8 c.toNat]) (h:=h) (h1:=h) (r:=.int .i64 (idxB s c)) (K:=K) (by kernel_rfl) rfl rfl rfl ?_
  · exact this
  · rw [X_ext]
    unfold extF
    rw [show Nat.beq f_internal_bytealg_IndexByteString f_internal_bytealg_IndexByteString = true from by kernel_rfl]
    simp
end Go.Am
end
section
/- Where a byte stands in a text. -/
open Go
set_option linter.all false
namespace Go.Am
variable {h : Heap} {K : Post}
theorem s_slIndexByte (s : List UInt8) (c : UInt8) : ACall X f_q02q [AS s,.p (.int .u8 c.toNat)] h K = K (AI (idxB s c)) h []:=by
  refine rule ?_
  rw [c_q02q rfl]
  simp only [d_q02q,go_sem,s_idxExt]
theorem idxB_at (a b : List UInt8) (c : UInt8) (ha : c ∉ a) : idxB (a ++ c :: b) c = (a.length : Int):=by
  unfold idxB
  have h1 : (a ++ c :: b).findIdx (· == c) = a.length:=by
    rw [List.findIdx_append]
    have : a.findIdx (· == c) = a.length:=by
      rw [List.findIdx_eq_length]
      intro x hx
      simp
      intro e; subst e; exact ha hx
    rw [this,if_neg (by omega)]
    simp [List.findIdx_cons]
  rw [h1,if_pos (by simp)]
attribute [-go_sem] e_q02p_k1 e_q02p_k2 e_q02p_k3 d_q02p_k1 d_q02p_k2 d_q02p_k3
end Go.Am
end
section
/- Lengths of numbers in bits,and comparisons of plain values. -/
open Go
namespace Go.Am
variable {h : Heap} {K : Post}
set_option maxRecDepth 20000
theorem shps_eI {l : List Int} : shps none (l.map eI):=fun x hx=>by obtain ⟨n,_,rfl⟩:=List.mem_map.1 hx; rfl
end Go.Am
end
section
/- Maps,asv lists of keys with values. -/
open Go
set_option linter.all false
namespace Go.Am
section
variable {α β : Type} [DecidableEq α]
def mesF (key : α → PV) (val : β → AV) : Nat → List (α × β) → List ME
  | _,[]=>[]
  | n,e :: r=>⟨key e.1,val e.2,n⟩ :: mesF key val (n + 1) r
def mobj (key : α → PV) (val : β → AV) (l : List (α × β)) : Obj:=.amap (mesF key val 0 l) l.length
def whereM (k : α) : List (α × β) → Option Nat
  | []=>none
  | e :: r=>if k = e.1 then some 0 else (whereM k r).map (· + 1)
def getM (k : α) : List (α × β) → Option β
  | []=>none
  | e :: r=>if k = e.1 then some e.2 else getM k r
def updM (k : α) (v : β) : List (α × β) → List (α × β)
  | []=>[(k,v)]
  | e :: r=>if k = e.1 then (k,v) :: r else e :: updM k v r
def KeyI (key : α → PV) : Prop:=∀ a b,PV.eqv (key a) (key b) = some (decide (a = b))
theorem keyI_int : KeyI (fun n : Int=>PV.int .i64 n):=fun a b=>by simp [PV.eqv,PV.eq1]
theorem keyOf_int {n : Int} {k : IntKind} : keyOf (none,[0]) (.p (.int k n)) = some (.int k n):=by simp [keyOf,PV.key,PV.shp,PV.sc,PV.cells,PV.kind]
variable {key : α → PV} {val : β → AV}
theorem mfind_mes (hk : KeyI key) (k : α) : ∀ (l : List (α × β)) (n : Nat),mfind (key k) (mesF key val n l) = some (whereM k l)
  | [],n=>rfl
  | e :: r,n=>by
    simp only [mesF,mfind,hk k e.1,whereM]
    by_cases h : k = e.1
    · simp [h]
    · simp [h,mfind_mes hk k r (n + 1)]
theorem mes_get : ∀ (l : List (α × β)) (n i : Nat),(mesF key val n l)[i]? = (l[i]?).map fun e=>⟨key e.1,val e.2,n + i⟩
  | [],n,i=>rfl
  | e :: r,n,0=>rfl
  | e :: r,n,i + 1=>by simp only [mesF,List.getElem?_cons_succ,mes_get r (n + 1) i]; rw [show n + 1 + i = n + (i + 1) by omega]
theorem where_lt {k : α} : ∀ {l : List (α × β)} {i : Nat},whereM k l = some i → i < l.length
  | [],i,h=>by cases h
  | e :: r,i,h=>by
    unfold whereM at h
    split at h
    · cases h; simp
    · obtain ⟨j, hj, e2⟩ := Option.map_eq_some_iff.1 h
      have:=where_lt hj
      simp; omega
theorem where_get {k : α} : ∀ {l : List (α × β)} {i : Nat},whereM k l = some i → l[i]? = (getM k l).map fun v=>(k,v)
  | [],i,h=>by cases h
  | e :: r,i,h=>by
    unfold whereM at h
    unfold getM
    split at h
    · rename_i hk; cases h; simp [hk]
    · rename_i hk
      obtain ⟨j,hj,e2⟩:=Option.map_eq_some_iff.1 h
      subst e2
      rw [if_neg hk,List.getElem?_cons_succ]
      exact where_get hj
theorem where_none {k : α} : ∀ {l : List (α × β)},whereM k l = none → getM k l = none
  | [],h=>rfl
  | e :: r,h=>by
    unfold whereM at h
    unfold getM
    split at h
    · cases h
    · rename_i hk
      rw [if_neg hk]
      exact where_none (by simpa using h)
theorem where_some {k : α} : ∀ {l : List (α × β)} {i : Nat},whereM k l = some i → (getM k l).isSome = true
  | [],i,h=>by cases h
  | e :: r,i,h=>by
    unfold whereM at h
    unfold getM
    split at h
    · rename_i hk; simp [hk]
    · rename_i hk
      obtain ⟨j,hj,e2⟩:=Option.map_eq_some_iff.1 h
      rw [if_neg hk]
      exact where_some hj
theorem look_val {k : α} {l : List (α × β)} {n : Nat} : ((whereM k l).bind fun i=>(mesF key val n l)[i]?).map ME.val = (getM k l).map val:=by
  cases h : whereM k l with
  | none=>rw [where_none h]; rfl
  | some i=>
    simp only [Option.bind_some,mes_get,where_get h]
    cases getM k l <;> rfl
theorem upd_none {k : α} {v : β} : ∀ {l : List (α × β)},whereM k l = none → updM k v l = l ++ [(k,v)]
  | [],h=>rfl
  | e :: r,h=>by
    unfold whereM at h
    unfold updM
    split at h
    · cases h
    · rename_i hk
      rw [if_neg hk,upd_none (by simpa using h)]; rfl
theorem upd_some {k : α} {v : β} : ∀ {l : List (α × β)} {i : Nat},whereM k l = some i → updM k v l = l.set i (k,v)
  | [],i,h=>by cases h
  | e :: r,i,h=>by
    unfold whereM at h
    unfold updM
    split at h
    · rename_i hk; cases h; simp [hk]
    · rename_i hk
      obtain ⟨j,hj,e2⟩:=Option.map_eq_some_iff.1 h
      subst e2
      rw [if_neg hk,upd_some hj]; rfl
theorem mes_snoc (k : α) (v : β) : ∀ (l : List (α × β)) (n : Nat),mesF key val n (l ++ [(k,v)]) = mesF key val n l ++ [⟨key k,val v,n + l.length⟩]
  | [],n=>rfl
  | e :: r,n=>by simp only [List.cons_append,mesF,mes_snoc k v r (n + 1),List.length_cons]; rw [show n + 1 + r.length = n + (r.length + 1) by omega]
theorem mes_modify {k : α} {v : β} {l : List (α × β)} {i n : Nat} (h : whereM k l = some i) : (mesF key val n l).modify i (fun e=>{ e with val:=val v }) = mesF key val n (l.set i (k,v)):=by
  apply List.ext_getElem?
  intro j
  rw [List.getElem?_modify,mes_get,mes_get,List.getElem?_set]
  have hi:=where_lt h
  have hg:=where_get h
  by_cases hij : i = j
  · subst hij
    rw [hg]
    simp only [if_true,hi]
    obtain ⟨w,hw⟩:=Option.isSome_iff_exists.1 (where_some h)
    rw [hw]; rfl
  · simp [hij]
variable {h : Heap} {id : Nat} {l : List (α × β)} {kk : Sh × List Nat} {k : α}
theorem mget_mes (hh : h[id]? = some (mobj key val l)) : mget h (.mp id) = some (id,mesF key val 0 l,l.length):=by
  simp only [mget,hh,mobj]
theorem look_mes (hk : KeyI key) (hh : h[id]? = some (mobj key val l)) (hq : keyOf kk (.p (key k)) = some (key k)) {ok : Bool} {z : AV} :
    oLook kk ok z (.mp id) (.p (key k)) h = some (bif ok then .tup [((getM k l).map val).getD z,AV.p (.bool (getM k l).isSome)] else ((getM k l).map val).getD z):=by
  simp only [oLook,hq,mget_mes hh,Option.map_some,mfind_mes hk,look_val,Option.isSome_map]
  rfl
theorem mupd_mes (hk : KeyI key) (hh : h[id]? = some (mobj key val l)) (hq : keyOf kk (.p (key k)) = some (key k)) {v : β} (hv : okIn (val v) = true) :
    oMupd kk (.mp id) (.p (key k)) (val v) h = some (.und,h.set id (mobj key val (updM k v l)),escOf id (val v)):=by
  simp only [oMupd,hq,mget_mes hh,hv,mfind_mes hk]
  cases hw : whereM k l with
  | none=>
    simp only [mobj,upd_none hw,mes_snoc,List.length_append,List.length_cons,List.length_nil,Nat.zero_add]
  | some i=>
    simp only [mobj,upd_some hw,mes_modify hw,List.length_set]
end
end Go.Am
end
section
/- Lists of strings sorted,left out: printed by program. -/
open Go
set_option linter.unusedSimpArgs false
namespace Go.Am
attribute [-go_sem] PV.cells splice
variable {h : Heap} {K : Post}
end Go.Am
end
section
/- Finding values in lists: printed by program. -/
open Go
set_option linter.unusedSimpArgs false
namespace Go.Am
attribute [-go_sem] PV.cells
variable {h : Heap} {K : Post}
end Go.Am
end
section
/- Limits: what they are,what is wrong with them. -/
open Go
namespace Go.Am
variable {h : Heap} {K : Post}
structure Lim where
  key : List UInt8
  lo : Int
  hi : Int
  bin : Int
def Lim.pv (x : Lim) : PV:=.agg [.str x.key,eI x.lo,eI x.hi,eI x.bin]
def inB (a n b : Int) : Bool:=decide (a ≤ n) && decide (n ≤ b)
end Go.Am
end
section
/- What is wrong with limits,both ways: printed by program. -/
open Go
set_option linter.unusedSimpArgs false
namespace Go.Am
variable {h : Heap} {K : Post}
end Go.Am
end
section
/- Package lot on measured values,and what the reference says of them. -/
open Go
namespace Go.Am
variable {h : Heap} {K : Post}
end Go.Am
end
section
/- Records: what they are,what is wrong with them. -/
open Go
set_option linter.unusedSimpArgs false
namespace Go.Am
variable {h : Heap} {K : Post}
theorem retK_keep {b : Nat} {P : Post} {vs : List AV} {h : Heap} : retK true b P (some vs) h [] = P (oneOf vs) (h.take (max b (oneOf vs).top)) []:=by
  simp [retK,close,closed]
attribute [go_sem] retK_keep
structure Rec where
  unit : List UInt8
  time : Int
  site : List UInt8
  res : List Int
def Rec.pv (r : Rec) : PV:=.agg [.str r.unit,eI r.time,.str r.site,.sl none (r.res.map eI)]
def good (x : Lim) (n : Int) : Bool:=inB x.lo n x.hi
def goods (l : List Lim) (res : List Int) : List Bool:=List.zipWith good l res
def failIdx (l : List Lim) (res : List Int) : Int:=if (goods l res).findIdx (fun b=>!b) < (goods l res).length then ((goods l res).findIdx (fun b=>!b) : Int) else -1
end Go.Am
end
section
/- What is drawn: numbers,measured values. -/
open Go
namespace Go.Am
variable {L : List Int} {a : Int}
end Go.Am
end
section
/- Strings that are drawn. -/
open Go
set_option linter.unusedSimpArgs false
namespace Go.Am
variable {L : List Int} {a : Int} {h l : Heap} {id : Nat} {K : Post}
def isS : PV → Bool
  | .str _=>true
  | _=>false
def unS : PV → List UInt8
  | .str s=>s
  | _=>[]
attribute [go_sem] isS unS
end Go.Am
end
section
/- What is drawn: strings,limits. -/
open Go
set_option linter.unusedSimpArgs false
namespace Go.Am
variable {L : List Int} {a : Int} {h l : Heap} {id : Nat} {K : Post}
end Go.Am
end
section
/- Records: what is wrong with them,both ways. -/
open Go
set_option linter.unusedSimpArgs false
namespace Go.Am
variable {h : Heap} {K : Post}
end Go.Am
end
section
/- Sorting records: printed by program. -/
open Go
set_option linter.unusedSimpArgs false
namespace Go.Am
attribute [-go_sem] PV.cells splice
variable {h : Heap} {K : Post}
end Go.Am
end
section
/- Leaving out what is alike: printed by program. -/
open Go
set_option linter.unusedSimpArgs false
namespace Go.Am
attribute [-go_sem] PV.cells splice
variable {h : Heap} {K : Post}
end Go.Am
end
section
/- What is drawn: records. -/
open Go
set_option linter.unusedSimpArgs false
namespace Go.Am
variable {L : List Int} {a : Int} {h l : Heap} {id : Nat} {K : Post}
theorem close_out {b : Nat} {x : Esc} (hx : ∀ y ∈ x,b ≤ y.1) : ∀ k,close k x b = b:=by
  have hb : bump x b = b:=by
    unfold bump
    induction x with
    | nil=>rfl
    | cons y r ih=>
      simp only [List.foldl_cons]
      rw [if_neg (by have:=hx y (by simp); omega)]
      exact ih (fun z hz=>hx z (by simp [hz]))
  intro k
  induction k with
  | zero=>rfl
  | succ k ih=>unfold close; rw [hb,ih]
end Go.Am
end
section
/- Merging two ordered lists: by sorting and leaving out what is alike,and by looking each one up. Plain lists. -/
namespace Go.Am
variable {α : Type}
structure Ordr (c : α → α → Int) : Prop where
  neg : ∀ a b,c b a = - c a b
  trans : ∀ a b d,c a b ≤ 0 → c b d ≤ 0 → c a d ≤ 0
theorem Ordr.refl {c : α → α → Int} (o : Ordr c) (a : α) : c a a = 0:=by have:=o.neg a a; omega
variable {c : α → α → Int} {q : α → α → Bool} {a b : List α}
end Go.Am
end
section
/- Records alike; copies; bins. -/
open Go
set_option linter.unusedSimpArgs false
namespace Go.Am
variable {h : Heap} {K : Post}
def sameR (a b : Rec) : Bool:=decide (a.unit = b.unit) && (decide (a.time = b.time) && (decide (a.site = b.site) && decide (a.res = b.res)))
theorem sameR_iff (a b : Rec) : sameR a b = true ↔ a = b:=by
  cases a; cases b
  simp [sameR]
theorem retK_out {b : Nat} {P : Post} {vs : List AV} {h : Heap} {x : Esc} (hx : ∀ y ∈ x,b ≤ y.1) {v : AV} (h1 : reif b h (oneOf vs) = some v) (h2 : v.top ≤ b) : retK false b P (some vs) h x = P v (h.take b) []:=by
  have e : max b v.top = b:=by omega
  have c : closed x b = true:=by
    unfold closed
    rw [List.all_eq_true]
    intro y hy
    simp [hx y hy]
  have f : x.filter (fun y=>decide (y.1 < b)) = []:=by
    rw [List.filter_eq_nil_iff]
    intro y hy
    have:=hx y hy
    simp; omega
  simp only [retK,h1,e,close_out hx,c,if_true,f]
  exact propext ⟨fun h=>h.2,fun h=>⟨h2,h⟩⟩
end Go.Am
end
section
/- Sorting numbers: printed by program. -/
open Go
set_option linter.unusedSimpArgs false
namespace Go.Am
attribute [-go_sem] PV.cells splice
variable {h : Heap} {K : Post}
end Go.Am
end
section
/- Bins,both ways; lists joined; records sorted. -/
open Go
set_option linter.unusedSimpArgs false
namespace Go.Am
variable {h : Heap} {K : Post}
end Go.Am
end
section
/- Lists of records joined,compared,merged. -/
open Go
set_option linter.unusedSimpArgs false
namespace Go.Am
variable {h : Heap} {K : Post}
instance : DecidableEq Rec:=fun a b=>decidable_of_iff (sameR a b = true) (sameR_iff a b)
end Go.Am
end
section
/- Records merged asv the reference does it. -/
open Go
set_option linter.unusedSimpArgs false
namespace Go.Am
variable {h : Heap} {K : Post}
end Go.Am
end
section
/- Retests: which record of a unit counts. Plain lists; both ways yield the same. -/
set_option linter.all false
namespace Go.Am
def badR (l : List Lim) (r : Rec) : Bool:=decide (0 ≤ failIdx l r.res)
def rec0 : Rec:=⟨[],0,[],[]⟩
def cntL (l : List Lim) (rule : Int) (f : List Rec) : Rec:=
  if rule = 1 then f.headD rec0 else if f.findIdx (fun x=>!badR l x) < f.length ∧ rule = 3 then f.getD (f.findIdx fun x=>!badR l x) rec0 else f.getLastD rec0
end Go.Am
end
section
/- Lists of strings. -/
open Go
set_option linter.all false
namespace Go.Am
variable {h : Heap} {K : Post}
theorem X_ex2 : X.ex2 = libF GRL PRL:=rfl
abbrev AStr (us : List (List UInt8)) : AV:=.p (.sl none (us.map PV.str))
end Go.Am
end
section
/- The abstract machine,part L4: strings.Repeat,strings.Trim,math/bits.TrailingZeros64 asv rows. -/
set_option linter.all false
namespace Go.Am
variable {P : Program} {gl : Nat → Option PV}
open Go.Shelf
theorem below_ext {w w' : World} (h : Go.RowKit.Below w.heap.size w w') : WExt w w':=⟨h.size,fun b hb=>h.block b hb,by unfold zed; rw [h.os,h.tape,h.output]⟩
theorem lib_trim (s cs : List UInt8) : Go.Lib.trimS s cs = trimL s cs:=rfl
theorem trimRow {ρ : Ren} (L : Go.Proofs.Lays.n160 P ρ) (h116 : (P.info? (ρ.t 116)).map (fun i=>(i.zero,i.size)) = some (some (.agg (Array.replicate 256 (.bool false))),256)) (he : ∀ us w,(callFunc (ρ.f 160) us).run P w = .ok (.enter (ρ.f 160) us) w) : PureRow P gl (ρ.f 160) trimS where
  enter:=he
  run M w vs r us hc hb hG hl hr hs:=by
    unfold trimS at hs
    split at hs
    · rename_i s cs
      split at hs
      · rename_i hbd
        match us,hl with
        | [u,v],_=>
          have q:=hr 0 _ u rfl rfl
          cases q
          have q2:=hr 1 _ v rfl rfl
          cases q2
          simp only [Option.some.injEq] at hs
          subst hs
          have hsz : ∀ l : List UInt8,(⟨l.toArray⟩ : ByteArray).size = l.length:=fun l=>by simp [ByteArray.size]
          refine (Go.Proofs.Any.strings_Trim_laid L h116 ⟨s.toArray⟩ ⟨cs.toArray⟩ w (by rw [hsz]; omega) (by rw [hsz]; omega) (Go.Proofs.ascii_of_all hbd.2.2)).mono fun e w' h=>?_
          obtain ⟨rfl,h⟩:=h
          exact ⟨_,rfl,below_ext h,by rw [← lib_trim]; exact .p _ _ (.str _)⟩
      · cases hs
    · cases hs
end Go.Am
end
section
/- The abstract machine,part L5: strings.Count at one byte,strings.Join asv rows. -/
set_option linter.all false
namespace Go.Am
variable {P : Program} {gl : Nat → Option PV}
open Go.Shelf
theorem countRow {ρ : Ren} (L : Go.Proofs.Lays.n138 P ρ) (he : ∀ us w,(callFunc (ρ.f 138) us).run P w = .ok (.enter (ρ.f 138) us) w) : PureRow P gl (ρ.f 138) countS where
  enter:=he
  run M w vs r us hc hb hG hl hr hs:=by
    unfold countS at hs
    split at hs
    · rename_i s c
      match us,hl with
      | [u,v],_=>
        have q:=hr 0 _ u rfl rfl
        cases q
        have q2:=hr 1 _ v rfl rfl
        cases q2
        simp only [Option.some.injEq] at hs
        subst hs
        refine (Go.Proofs.Any.strings_Count_one L ⟨s.toArray⟩ c w).mono fun e w' h=>?_
        obtain ⟨rfl,rfl⟩:=h
        exact ⟨_,rfl,WExt.refl _,.p _ _ (.int _ _)⟩
    · cases hs
end Go.Am
end
section
/- Texts split at a byte. -/
open Go
set_option linter.all false
namespace Go.Am
variable {h : Heap} {K : Post}
theorem s_Count (s : List UInt8) (c : UInt8) : ACall X f_q085 [AS s,AS [c]] h K = K (AI (s.count c)) h []:=by
  refine lib_call (X:=X) (by kernel_rfl) ?_
  rw [X_ex2]
  exact libF_pure (vs:=[.str s,.str [c]]) (by kernel_rfl) (s:=countS) (by kernel_rfl) rfl rfl
theorem s_slIndexC (s : List UInt8) (c : UInt8) (hs : s.length ≤ 1000000) : ACall X f_q02p [AS s,AS [c]] h K = K (AI (idxB s c)) h []:=by
  refine rule ?_
  rw [c_q02p rfl]
  have q:=fun h K=>s_slIndexByte (h:=h) (K:=K) s c
  simp only [d_q02p,go_sem,↓q,q,List.length_cons,List.length_nil]
  split
  · rename_i h1; subst h1; simp [idxB]
  · trivial
theorem s_IndexC (s : List UInt8) (c : UInt8) (hs : s.length ≤ 1000000) : ACall X f_q089 [AS s,AS [c]] h K = K (AI (idxB s c)) h []:=by
  refine rule ?_
  rw [c_q089 rfl]
  have q:=fun h K=>s_slIndexC (h:=h) (K:=K) s c hs
  simp only [d_q089,go_sem,↓q,q]
theorem set_mid {α : Type} (a : List α) (x y : α) (b : List α) : (a ++ x :: b).set a.length y = a ++ y :: b:=by simp
def spRow (c : UInt8) (s : List UInt8) (k : Nat) : List PV:=((splitC c s).take k).map PV.str ++ List.replicate (s.count c + 1 - k) (.str [])
theorem spRow_len (c : UInt8) (s : List UInt8) (k : Nat) (hk : k ≤ s.count c + 1) : (spRow c s k).length = s.count c + 1:=by
  unfold spRow
  have:=splitC_len c s
  simp; omega
theorem spRow_set (c : UInt8) (s : List UInt8) (k : Nat) (hk : k < s.count c + 1) (p : List UInt8) (hp : (splitC c s)[k]? = some p) : (spRow c s k).set k (.str p) = spRow c s (k + 1):=by
  have hl:=splitC_len c s
  have e : ((splitC c s).take k).map PV.str = ((splitC c s).take k).map PV.str:=rfl
  have el : (((splitC c s).take k).map PV.str).length = k:=by simp; omega
  unfold spRow
  rw [show s.count c + 1 - k = (s.count c + 1 - (k + 1)) + 1 by omega,List.replicate_succ]
  conv=>lhs; arg 2; rw [← el]
  rw [set_mid,List.take_succ,hp]
  simp
theorem spRow_get (c : UInt8) (s : List UInt8) (k : Nat) (hk : k < s.count c + 1) : (spRow c s k)[k]? = some (.str []):=by
  have hl:=splitC_len c s
  unfold spRow
  rw [List.getElem?_append_right (by simp; omega)]
  rw [List.getElem?_replicate,if_pos (by simp; omega)]
theorem spRow_all (c : UInt8) (s : List UInt8) : spRow c s (s.count c + 1) = (splitC c s).map PV.str:=by
  have hl:=splitC_len c s
  unfold spRow
  rw [List.take_of_length_le (by omega),Nat.sub_self]
  simp
attribute [-go_sem] e_q08j_k3
theorem s_genSplit (s : List UInt8) (c : UInt8) (hs : s.length ≤ 1000000) : ACall X f_q08j [AS s,AS [c],AI 0,AI (-1)] h K = K (AStr (splitC c s)) h []:=by
  refine rule ?_
  rw [c_q08j rfl]
  have ec:=fun h K=>s_Count (h:=h) (K:=K) s c
  have hcl : s.count c ≤ s.length:=List.count_le_length
  have w1 : IntKind.i64.wrap ((s.count c : Int) + 1) = ((s.count c + 1 : Nat) : Int):=i64_wrap _ (by omega) (by omega)
  simp only [d_q08j,go_sem,↓ec,ec,w1]
  rw [e_q08j_k3]
  have w2 : IntKind.i64.wrap ((s.length : Int) + 1) = ((s.length + 1 : Nat) : Int):=i64_wrap _ (by omega) (by omega)
  have w3 : min ((s.count c + 1 : Nat) : Int) ((s.length + 1 : Nat) : Int) = ((s.count c + 1 : Nat) : Int):=by omega
  have w4 : IntKind.i64.wrap (((s.count c + 1 : Nat) : Int) - 1) = (s.count c : Int):=by rw [i64_wrap _ (by omega) (by omega)]; omega
  have hm : s.count c + 1 ≤ maxSl:=by unfold maxSl; omega
  simp only [d_q08j_k3,go_sem,w2,w3,w4,hm]
  have row0 : List.replicate (s.count c + 1) (PV.str []) = spRow c s 0:=by simp [spRow]
  rw [row0]
  refine N_loop (fun k : Nat=>⟨[(0,AS (restC c k s)),(1,AS [c]),(2,AI 0),(3,AI (s.count c)),(9,.own h.length (s.count c + 1) 0 (s.count c + 1)),(10,AI k)],h ++ [.row none (spRow c s k) 0],[]⟩) (fun k=>k ≤ s.count c) (fun k=>s.count c - k) 0 rfl (by omega) ?_
  intro k hk
  obtain ⟨r1,r2,r3⟩:=rest_split c k s hk
  have hrl:=spRow_len c s k (by omega)
  have hsl:=splitC_len c s
  rcases Nat.lt_or_ge k (s.count c) with hlt | hge
  · obtain ⟨a, b, hab, ha⟩ := cut_at (c := c) (s := restC c k s) (List.count_pos_iff.1 (by omega))
    have hi:=fun h K=>s_IndexC (h:=h) (K:=K) (restC c k s) c (by omega)
    have hix : idxB (restC c k s) c = (a.length : Int):=by rw [hab]; exact idxB_at a b c ha
    rw [hix] at hi
    have hnext : restC c (k + 1) s = b:=by rw [rest_succ,hab,dropW ha]
    have hrl2 : (restC c k s).length = a.length + (b.length + 1):=by rw [hab]; simp
    have g1 : (splitC c s)[k]? = some a:=by
      have:=congrArg (fun l=>l[0]?) r1
      simp only [List.getElem?_drop,Nat.add_zero] at this
      rw [← this,hab,splitC_cut ha]
      rfl
    have W1 : win (restC c k s) 0 a.length = a:=by rw [hab]; unfold win; simp
    have W2 : win (restC c k s) (a.length + 1) ((restC c k s).length - (a.length + 1)) = b:=by
      rw [hab]; unfold win
      rw [show a ++ c :: b = (a ++ [c]) ++ b by simp,List.drop_left' (by simp)]
      exact List.take_of_length_le (by simp; omega)
    have hp : ¬ (a.length : Int) < 0:=by omega
    have wa : IntKind.i64.wrap ((a.length : Int) + 0) = (a.length : Int):=by rw [Int.add_zero]; exact i64_wrap _ (by omega) (by omega)
    have wb : IntKind.i64.wrap ((a.length : Int) + 1) = ((a.length + 1 : Nat) : Int):=i64_wrap _ (by omega) (by omega)
    have wk : IntKind.i64.wrap ((k : Int) + 1) = ((k + 1 : Nat) : Int):=i64_wrap _ (by omega) (by omega)
    have hlt' : (k : Int) < (s.count c : Int):=by omega
    have hse:=spRow_set c s k (by omega) a g1
    have st:=fun h1=>shp_st (sh:=none) (x:=.str a) (y:=.str []) rfl rfl h.length k 0 (spRow c s k) h1
    have c1 : a.length ≤ (restC c k s).length:=by omega
    have c2 : a.length + 1 ≤ (restC c k s).length:=by omega
    have c3 : k < s.count c + 1:=by omega
    simp only [go_sem,hlt',hi,↓hi,hp,wa,wb,wk,hrl,W1,W2,spRow_get c s k c3,st,hse,c1,c2,c3]
    exact ⟨k + 1,by rw [hnext],by omega,by omega⟩
  · have hk' : k = s.count c := by omega
    have hlt' : ¬ (k : Int) < (s.count c : Int):=by omega
    have st:=fun h1=>shp_st (sh:=none) (x:=.str (restC c k s)) (y:=.str []) rfl rfl h.length k 0 (spRow c s k) h1
    have c3 : k < s.count c + 1:=by omega
    have wk : IntKind.i64.wrap ((k : Int) + 1) = ((k + 1 : Nat) : Int):=i64_wrap _ (by omega) (by omega)
    have g1 : (splitC c s)[k]? = some (restC c k s):=by
      have:=congrArg (fun l=>l[0]?) r1
      simp only [List.getElem?_drop,Nat.add_zero] at this
      rw [← this,splitC_none (List.count_eq_zero.1 (by omega))]
      rfl
    have hse : (spRow c s k).set k (.str (restC c k s)) = (splitC c s).map PV.str:=by
      rw [spRow_set c s k c3 _ g1,hk',spRow_all]
    have c4 : k + 1 = s.count c + 1:=by omega
    have hwin : win ((splitC c s).map PV.str) 0 (s.count c + 1) = (splitC c s).map PV.str:=by unfold win; rw [List.drop_zero,List.take_of_length_le (by simp; omega)]
    have hml : ((splitC c s).map PV.str).length = s.count c + 1:=by simp [hsl]
    simp only [go_sem,hlt',hrl,spRow_get c s k c3,st,hse,c3,wk,hml,c4,hwin]
theorem s_Split (s : List UInt8) (c : UInt8) (hs : s.length ≤ 1000000) : ACall X f_q08e [AS s,AS [c]] h K = K (AStr (splitC c s)) h []:=by
  refine rule ?_
  rw [c_q08e rfl]
  have q:=fun h K=>s_genSplit (h:=h) (K:=K) s c hs
  simp only [d_q08e,go_sem,↓q,q]
theorem s_slHasPrefix (s p : List UInt8) (hs : s.length ≤ 1000000) (hp : p.length ≤ 1000000) : ACall X f_q02n [AS s,AS p] h K = K (AB (decide (s.take p.length = p))) h []:=by
  refine rule ?_
  rw [c_q02n rfl]
  by_cases h1 : p.length ≤ s.length
  · have h1' : (p.length : Int) ≤ (s.length : Int) := by omega
    have W : win s 0 p.length = s.take p.length:=by unfold win; simp
    simp only [d_q02n,go_sem,h1',h1,W]
  · have h1' : ¬ (p.length : Int) ≤ (s.length : Int) := by omega
    have e : decide (s.take p.length = p) = false:=by
      simp only [decide_eq_false_iff_not]
      intro e
      have:=congrArg List.length e
      simp at this
      omega
    simp only [d_q02n,go_sem,h1',h1,e]
theorem s_TrimPrefix (s p : List UInt8) (hs : s.length ≤ 1000000) (hp : p.length ≤ 1000000) : ACall X f_q08g [AS s,AS p] h K = K (AS (if s.take p.length = p then s.drop p.length else s)) h []:=by
  refine rule ?_
  rw [c_q08g rfl]
  have key : ∀ (h : Heap) (K : Post),ACall X f_q02r [AS s,AS p] h K = K (AS (if s.take p.length = p then s.drop p.length else s)) h []:=by
    intro h K
    refine rule ?_
    rw [c_q02r rfl]
    have q:=fun h K=>s_slHasPrefix (h:=h) (K:=K) s p hs hp
    by_cases e : s.take p.length = p
    · have hl : p.length ≤ s.length:=by
        have:=congrArg List.length e
        simp at this
        omega
      have W : win s p.length (s.length - p.length) = s.drop p.length:=by unfold win; rw [List.take_of_length_le (by simp)]
      simp only [d_q02r,go_sem,↓q,q,e,decide_true,hl,W]
    · simp only [d_q02r,go_sem,↓q,q,e,decide_false]
  simp only [d_q08g,go_sem,↓key,key]
end Go.Am
end
section
/- Lines of a text. -/
open Go
set_option linter.all false
namespace Go.Am
variable {h : Heap} {K : Post}
theorem s_slHasSuffix (s p : List UInt8) (hs : s.length ≤ 1000000) (hp : p.length ≤ 1000000) : ACall X f_q02o [AS s,AS p] h K = K (AB (decide (p.length ≤ s.length ∧ s.drop (s.length - p.length) = p))) h []:=by
  refine rule ?_
  rw [c_q02o rfl]
  by_cases h1 : p.length ≤ s.length
  · have h1' : (p.length : Int) ≤ (s.length : Int) := by omega
    have w : IntKind.i64.wrap ((s.length : Int) - (p.length : Int)) = ((s.length - p.length : Nat) : Int):=by rw [i64_wrap _ (by omega) (by omega)]; omega
    have W : win s (s.length - p.length) (s.length - (s.length - p.length)) = s.drop (s.length - p.length):=by unfold win; rw [List.take_of_length_le (by simp)]
    have h2 : s.length - p.length ≤ s.length:=by omega
    simp only [d_q02o,go_sem,h1',h1,w,W,h2]
  · have h1' : ¬ (p.length : Int) ≤ (s.length : Int) := by omega
    simp only [d_q02o,go_sem,h1',h1]
def endsNL (s : List UInt8) : Bool:=decide (s.getLast? = some 10)
def bodyNL (s : List UInt8) : List UInt8:=if endsNL s then s.dropLast else s
theorem ends_suffix (s : List UInt8) : decide (([10] : List UInt8).length ≤ s.length ∧ s.drop (s.length - ([10] : List UInt8).length) = [10]) = endsNL s:=by
  unfold endsNL
  rw [decide_eq_decide]
  rcases List.eq_nil_or_concat s with rfl | ⟨r,x,rfl⟩
  · simp
  · simp
theorem s_CutSuffixNL (s : List UInt8) (hs : s.length ≤ 1000000) : ACall X f_q087 [AS s,AS [10]] h K = K (.tup [AS (bodyNL s),AB (endsNL s)]) h []:=by
  refine rule ?_
  rw [c_q087 rfl]
  have key : ∀ (h : Heap) (K : Post),ACall X f_q02m [AS s,AS [10]] h K = K (.tup [AS (bodyNL s),AB (endsNL s)]) h []:=by
    intro h K
    refine rule ?_
    rw [c_q02m rfl]
    have q:=fun h K=>s_slHasSuffix (h:=h) (K:=K) s [10] hs (by simp)
    rw [ends_suffix] at q
    cases e : endsNL s with
    | false=>
      have eb : bodyNL s = s:=by unfold bodyNL; rw [e]; rfl
      rw [e] at q
      simp only [d_q02m,go_sem,↓q,q,eb]
    | true=>
      have eb : bodyNL s = s.dropLast:=by unfold bodyNL; rw [e]; rfl
      rw [e] at q
      have h1 : 1 ≤ s.length:=by
        cases s with
        | nil=>simp [endsNL] at e
        | cons a r=>simp
      have w : IntKind.i64.wrap ((s.length : Int) - 1) = ((s.length - 1 : Nat) : Int):=by rw [i64_wrap _ (by omega) (by omega)]; omega
      have W : win s 0 (s.length - 1) = s.dropLast:=by unfold win; rw [List.drop_zero,List.dropLast_eq_take]
      have h2 : s.length - 1 ≤ s.length:=by omega
      simp only [d_q02m,go_sem,↓q,q,eb,List.length_cons,List.length_nil,w,W,h2]
  simp only [d_q087,go_sem,↓key,key]
def linesB (s : List UInt8) : List (List UInt8):=if s = [] then [] else splitC 10 (bodyNL s)
def endsB (s : List UInt8) : Bool:=decide (s = []) || endsNL s
theorem s_Lines (s : List UInt8) (hs : s.length ≤ 1000000) : ACall X f_q006 [AS s] h K = K (.tup [AStr (linesB s),AB (endsB s)]) h []:=by
  refine rule ?_
  rw [c_q006 rfl]
  by_cases h0 : s = []
  · subst h0
    simp only [d_q006,go_sem]
    rfl
  · have q := fun h K => s_CutSuffixNL (h := h) (K := K) s hs
    have hb : (bodyNL s).length ≤ 1000000:=by
      unfold bodyNL
      split
      · simp; omega
      · exact hs
    have q2:=fun h K=>s_Split (h:=h) (K:=K) (bodyNL s) 10 hb
    have e1 : linesB s = splitC 10 (bodyNL s):=by unfold linesB; rw [if_neg h0]
    have e2 : endsB s = endsNL s:=by unfold endsB; simp [h0]
    simp only [d_q006,go_sem,h0,↓q,q,↓q2,q2,e1,e2]
end Go.Am
end
section
/- Numbers read. -/
open Go
set_option linter.all false
namespace Go.Am
variable {h : Heap} {K : Post}
theorem s_AtoiN {s : List UInt8} (h1 : noMin s ≠ []) (h2 : (noMin s).length ≤ 17) (h3 : (noMin s).all digB = true) : ACall X f_q07p [AS s] h K = K (.tup [AI (numV s),.nili]) h []:=by
  refine lib_call (X:=X) (by kernel_rfl) ?_
  rw [X_ex2]
  exact libF_pure (vs:=[.str s]) (by kernel_rfl) (s:=atoiS) rfl rfl (atoi_num h1 h2 h3)
theorem loop_Number {K' : Ex → St → Prop} (s d : List UInt8) (hd : d.length ≤ 1000000) (h1 : d.all digB = false → K' .ret ⟨[(4,AI 0),(5,AB false)],h,[]⟩)
    (h2 : d.all digB = true → K' (.exit 0) ⟨[(0,AS s),(6,AS d),(38,AI d.length),(39,AI d.length),(40,AB false)],h,[]⟩) :
    NLoop (ACall X) X.gl p_q008_k1 K' [(0,AS s),(6,AS d),(38,AI d.length),(39,AI 0)] h []:=by
  refine N_loop (fun k : Nat=>⟨[(0,AS s),(6,AS d),(38,AI d.length),(39,AI k)],h,[]⟩) (fun k=>k ≤ d.length ∧ (d.take k).all digB = true) (fun k=>d.length - k) 0 rfl ⟨by omega,by simp⟩ ?_
  rintro k ⟨hk,hp⟩
  rcases Nat.lt_or_ge k d.length with hlt | hge
  · have hlt' : (k : Int) < (d.length : Int) := by omega
    have hg : d[k]? = some d[k]:=List.getElem?_eq_getElem hlt
    have wk : IntKind.i64.wrap ((k : Int) + 1) = ((k + 1 : Nat) : Int):=i64_wrap _ (by omega) (by omega)
    have hnot : digB d[k] = false → d.all digB = false:=fun e=>by
      rw [← Bool.not_eq_true,List.all_eq_true]
      intro ha
      have:=ha d[k] (List.getElem_mem hlt)
      rw [e] at this
      cases this
    by_cases c1 : d[k].toNat < 48
    · have c1' : (d[k].toNat : Int) < 48 := by omega
      have:=h1 (hnot (by simp [digB]; omega))
      simp only [go_sem,hlt',hg,c1',this]
    · have c1' : ¬ (d[k].toNat : Int) < 48 := by omega
      by_cases c2 : 57 < d[k].toNat
      · have c2' : (57 : Int) < (d[k].toNat : Int) := by omega
        have:=h1 (hnot (by simp [digB]; omega))
        simp only [go_sem,hlt',hg,c1',c2',this]
      · have c2' : ¬ (57 : Int) < (d[k].toNat : Int) := by omega
        simp only [go_sem,hlt',hg,c1',c2',wk]
        refine ⟨k + 1,rfl,⟨by omega,?_⟩,by omega⟩
        rw [List.take_succ,hg,List.all_append,hp]
        simp [digB]
        omega
  · have hk' : k = d.length := by omega
    have hlt' : ¬ (k : Int) < (d.length : Int):=by omega
    have:=h2 (by rw [← hp,hk',List.take_length])
    subst hk'
    simp only [go_sem,Nat.lt_irrefl,decide_false,this]
attribute [-go_sem] e_q008_k2
theorem s_NumberB (s : List UInt8) (dg : Nat) (hd : dg ≤ 17) (hs : s.length ≤ 1000000) : ACall X f_q008 [AS s,AI dg] h K = K (.tup [AI (if numF dg s then numV s else 0),AB (numF dg s)]) h []:=by
  refine rule ?_
  rw [c_q008 rfl]
  have q:=fun h K=>s_TrimPrefix (h:=h) (K:=K) s [45] hs (by simp)
  have eq : (if s.take ([45] : List UInt8).length = [45] then s.drop ([45] : List UInt8).length else s) = noMin s:=rfl
  rw [eq] at q
  obtain ⟨d,hdd⟩ : ∃ d,noMin s = d:=⟨_,rfl⟩
  have hsl : d.length ≤ s.length:=by rw [← hdd]; unfold noMin; split <;> simp
  have nF : numF dg s = (!d.isEmpty && decide (d.length ≤ dg) && !(decide (d.head? = some 48) && (decide (1 < d.length) || decide (d.length < s.length))) && d.all digB):=by unfold numF; rw [hdd]
  rw [hdd] at q
  by_cases h0 : d = []
  · subst h0
    have e : numF dg s = false:=by rw [nF]; rfl
    simp only [d_q008,go_sem,↓q,q,e]
  by_cases h1 : dg < d.length
  · have h1' : (dg : Int) < (d.length : Int) := by omega
    have e : numF dg s = false:=by
      have a3 : decide (d.length ≤ dg) = false:=by simpa using h1
      rw [nF,a3]; simp
    simp only [d_q008,go_sem,↓q,q,e,h0,h1']
  have h1' : ¬ (dg : Int) < (d.length : Int):=by omega
  obtain ⟨c,r,rfl⟩ : ∃ c r,d = c :: r:=by cases d with | nil=>exact absurd rfl h0 | cons c r=>exact ⟨c,r,rfl⟩
  have h1n : ¬ dg < r.length + 1:=h1
  have h1i : ¬ (dg : Int) < ((r.length + 1 : Nat) : Int):=by omega
  have hl6 : (c :: r).length ≤ 1000000:=by omega
  have fin : ∀ (e : numF dg s = (c :: r).all digB) (hb : (c :: r).all digB = true) (h : Heap) (K : Post),ACall X f_q07p [AS s] h K = K (.tup [AI (numV s),.nili]) h []:=fun e hb h K=>s_AtoiN (by rw [hdd]; simp) (by rw [hdd]; omega) (by rw [hdd]; exact hb)
  by_cases hc : c = 48
  · have hc' : (c.toNat : Int) = 48 := by subst hc; rfl
    by_cases h3 : 1 < r.length + 1
    · have h3' : (1 : Int) < ((r.length + 1 : Nat) : Int) := by omega
      have e : numF dg s = false:=by
        have a1 : decide (1 < (c :: r).length) = true:=by simpa using h3
        have a4 : decide ((c :: r).head? = some 48) = true:=by simp [hc]
        rw [nF,a1,a4]; simp
      simp only [d_q008,go_sem,↓q,q,h0,h1',h1n,h1i,hc',h3',e]
    have h3' : ¬ (1 : Int) < ((r.length + 1 : Nat) : Int):=by omega
    by_cases h4 : r.length + 1 < s.length
    · have h4' : ((r.length + 1 : Nat) : Int) < (s.length : Int) := by omega
      have e : numF dg s = false:=by
        have a1 : decide ((c :: r).length < s.length) = true:=by simpa using h4
        have a4 : decide ((c :: r).head? = some 48) = true:=by simp [hc]
        rw [nF,a1,a4]; simp
      simp only [d_q008,go_sem,↓q,q,h0,h1',h1n,h1i,hc',h3',h4',e]
    have h4' : ¬ ((r.length + 1 : Nat) : Int) < (s.length : Int):=by omega
    have e : numF dg s = (c :: r).all digB:=by
      rw [nF]
      have a1 : decide (1 < (c :: r).length) = false:=by simpa using h3
      have a2 : decide ((c :: r).length < s.length) = false:=by simpa using h4
      have a3 : decide ((c :: r).length ≤ dg) = true:=by simpa using h1n
      rw [a1,a2,a3]
      simp
    simp only [d_q008,go_sem,↓q,q,h0,h1',h1n,h1i,hc',h3',h4']
    refine loop_Number s (c :: r) hl6 (fun hb=>?_) (fun hb=>?_)
    · rw [hb] at e
      simp only [go_sem,e]
    · have ea := fin e hb
      rw [hb] at e
      rw [blockN_same,seqN_normal,e_q008_k2]
      simp only [d_q008_k2,go_sem,↓ea,ea,e]
  · have hc' : ¬ (c.toNat : Int) = 48:=by
      intro q
      apply hc
      apply UInt8.toNat_inj.1
      exact Int.ofNat_inj.1 q
    have e : numF dg s = (c :: r).all digB:=by
      rw [nF]
      have a3 : decide ((c :: r).length ≤ dg) = true:=by simpa using h1n
      rw [a3]
      simp [hc]
    simp only [d_q008,go_sem,↓q,q,h0,h1',h1n,h1i,hc']
    refine loop_Number s (c :: r) hl6 (fun hb=>?_) (fun hb=>?_)
    · rw [hb] at e
      simp only [go_sem,e]
    · have ea := fin e hb
      rw [hb] at e
      rw [blockN_same,seqN_normal,e_q008_k2]
      simp only [d_q008_k2,go_sem,↓ea,ea,e]
end Go.Am
end
