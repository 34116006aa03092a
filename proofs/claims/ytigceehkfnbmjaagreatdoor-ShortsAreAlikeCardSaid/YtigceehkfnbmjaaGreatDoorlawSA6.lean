/- Texts of the proof, laid together: CodesC, CodesD, AmL, AmC, Ctx, SpStream, MathFrac, SpBase, SpList, SpShp, SpLen, SpStr, SpMap, SpStrs, SpFind, SpLimD, SpLim, SpLotA, SpRecD, SpGenA, SpSome, SpGenL, SpRec, SpSortRec, SpCompact, SpGenR, PMerge, SpMrgA, SpSort, SpMrgB, SpMrgC, SpMrgD, PFin, SpTxt, SpFlt1, SpFlt2. -/
import Derived.KernelRfl
import Derived.Test.YtigceehkfnbmjaaGreatDoorlawSA5
set_option linter.all false
section
/- The functions asv abstract code,and asv formulas over their values: printed by program out of the translation. -/
set_option linter.unusedVariables false
set_option maxRecDepth 100000
namespace Go.Am
def P_q00r : ACode:=(.seq (rg [mV 4 (cI 0)] [0,1])
(.seq (rg [mV 7 0,
cL 8 f_q00u [7],
mV 5 8] [0,1,5])
(.seq (rg [mV 9 1,
cL 10 f_q00u [9],
mV 6 10] [0,1,5,6])
(.seq (.seq (rg [mV 11 5] [0,1,6,11])
(.cond 11 (.seq (.seq (rg [mV 12 6] [12])
(.cond 12 (.seq (rg [mV 4 (cI 0)] [4])
.ret)
.skip))
(.seq (rg [mV 4 (cI (-1))] [4])
.ret))
.skip))
(.seq (.seq (rg [mV 13 6] [0,1,13])
(.cond 13 (.seq (rg [mV 4 (cI 1)] [4])
.ret)
.skip))
(.seq (.seq (rg [mV 14 0,
mV 15 1,
bN 16 .lss 14 15] [0,1,16])
(.cond 16 (.seq (rg [mV 4 (cI (-1))] [4])
.ret)
.skip))
(.seq (.seq (rg [mV 17 0,
mV 18 1,
bN 19 .gtr 17 18] [19])
(.cond 19 (.seq (rg [mV 4 (cI 1)] [4])
.ret)
.skip))
(.seq (rg [mV 4 (cI 0)] [4])
.ret))))))))
def a_q00r : AFun:=⟨2,[.t 4],P_q00r,false,false⟩
def p_q00t_k1 : ACode:=.pr [3,6,7,8] (.seq (rg [bN 9 .lss 8 7] [3,6,7,8,9])
(.seq (.cond 9 .skip
(.exit 0))
(.seq (.block 1 (.seq (rg [iA 10 none 6 8,
lD 11 none 10,
mV 5 11] [3,5,6,7,8])
(.seq (rg [mV 12 5,
mV 13 3,
bN 14 .neq 12 13] [3,5,6,7,8,14])
(.cond 14 (.seq (rg [mV 15 5,
mV 2 15] [2])
.ret)
.skip))))
(rg [bN 16 .add 8 (cI 1),
mV 8 16] [3,6,7,8]))))
def p_q00t_k2 : ACode:=.pr [3] (.seq (rg [mV 17 3,
mV 2 17] [2])
.ret)
def P_q00t (q1 q2 : ACode) : ACode:=(.seq (rg [mV 2 (cI 0)] [0])
(.seq (rg [mV 3 (cI 0)] [0,3])
(.seq (.seq (rg [mV 6 0,
lN 7 6,
mV 8 (cI 0)] [3,6,7,8])
(.block 0 (.loop q1)))
q2)))
def a_q00t : AFun:=⟨1,[.t 2],P_q00t p_q00t_k1 p_q00t_k2,false,false⟩
def P_q00u : ACode:=(.seq (rg [mV 2 cF] [0])
(.seq (rg [mV 3 0,
mV 4 0,
bN 5 .neq 3 4,
mV 2 5] [2])
.ret))
def a_q00u : AFun:=⟨1,[.t 2],P_q00u,false,false⟩
def P_q01b : ACode:=(.seq (rg [mV 4 (cI 0)] [0,1])
(.seq (rg [mV 5 0,
mV 6 1,
cL 7 f_internal_bytealg_abigen_runtime_cmpstring [5,6],
mV 4 7] [4])
.ret))
def a_q01b : AFun:=⟨2,[.t 4],P_q01b,false,false⟩
def P_q01f : ACode:=(.seq (rg [uO 2 (.alloc [.p (.int .i64 0),.p (.int .i64 0)]),
uO 3 (.alloc [.p (.int .i64 0),.p (.int .i64 0)]),
mV 4 (cI 0)] [0,2,3])
(.seq (.seq (rg [mV 9 0,
cL 10 f_q01i [9,(cI 1)],
mV 5 10] [0,2,3,5])
(.seq (rg [mV 11 5,
bN 12 .neq 11 (cI 0)] [0,2,3,5,12])
(.cond 12 (.seq (rg [uO 13 (.build [.p (.int .i64 0),.p (.int .i64 0)] []),
uO 14 (.build [.p (.int .i64 0),.p (.int .i64 0)] []),
mV 15 5,
wO (.store (some 2) 2 13),
wO (.store (some 2) 3 14),
mV 4 15] [2,3,4])
.ret)
.skip)))
(.seq (rg [mV 17 0,
cL 18 f_q01h [17],
mV 16 18,
eX 19 16 0,
eX 20 16 1,
mV 6 19,
mV 7 20] [0,2,3,6,7])
(.seq (rg [mV 21 0,
lN 22 21,
mV 8 22] [2,3,6,7,8])
(.seq (rg [mV 23 6,
mV 24 8,
cL 25 f_q002 [23,24],
mV 26 7,
mV 27 8,
mV 28 8,
bN 29 .mul 27 28,
cL 30 f_q002 [26,29],
wO (.store (some 2) 2 25),
wO (.store (some 2) 3 30),
mV 4 (cI 0)] [2,3,4])
.ret)))))
def a_q01f : AFun:=⟨1,[.cell 2 (some 2),.cell 3 (some 2),.t 4],P_q01f,false,false⟩
def P_q01g : ACode:=(.seq (rg [mV 2 cF] [0])
(.seq (rg [mV 3 0,
cL 4 f_q006 [3,(cI (-100000)),(cI 100000)],
uO 5 (.un .not 4),
mV 2 5] [2])
.ret))
def a_q01g : AFun:=⟨1,[.t 2],P_q01g,false,false⟩
def p_q01h_k1 : ACode:=.pr [0,2,4,7,8,9] (.seq (rg [bN 10 .lss 9 8] [0,2,4,7,8,9,10])
(.seq (.cond 10 .skip
(.exit 0))
(.seq (.block 1 (.seq (rg [iA 11 none 7 9,
lD 12 none 11,
mV 6 12] [0,2,4,6,7,8,9])
(.seq (rg [mV 13 2,
mV 14 6,
bN 15 .add 13 14,
mV 2 15] [0,2,4,6,7,8,9])
(rg [mV 16 4,
mV 17 6,
mV 18 6,
bN 19 .mul 17 18,
bN 20 .add 16 19,
mV 4 20] [0,2,4,7,8,9]))))
(rg [bN 21 .add 9 (cI 1),
mV 9 21] [0,2,4,7,8,9]))))
def p_q01h_k2 : ACode:=.pr [0,2,4] (.seq (rg [mV 22 2,
mV 23 0,
lN 24 23,
mV 25 4,
bN 26 .mul 24 25,
mV 27 2,
mV 28 2,
bN 29 .mul 27 28,
bN 30 .sub 26 29,
mV 2 22,
mV 3 30] [2,3])
.ret)
def P_q01h (q1 q2 : ACode) : ACode:=(.seq (rg [mV 2 (cI 0),
mV 3 (cI 0)] [0,2])
(.seq (rg [mV 4 (cI 0)] [0,2,4])
(.seq (.seq (rg [mV 7 0,
lN 8 7,
mV 9 (cI 0)] [0,2,4,7,8,9])
(.block 0 (.loop q1)))
q2)))
def a_q01h : AFun:=⟨1,[.t 2,.t 3],P_q01h p_q01h_k1 p_q01h_k2,false,false⟩
def P_q01i : ACode:=(.seq (rg [mV 4 (cI 0)] [0,1])
(.seq (.block 0 (.seq (rg [mV 6 0,
lN 7 6,
mV 8 1,
bN 9 .lss 7 8,
mV 5 9] [0,5])
(.cond 5 (.seq (rg [mV 4 (cI 8)] [4])
.ret)
(.seq (rg [mV 11 0,
lN 12 11,
bN 13 .gtr 12 (cI 5000),
mV 10 13] [0,10])
(.cond 10 (.seq (rg [mV 4 (cI 2)] [4])
.ret)
(.seq (rg [mV 15 0,
cL 16 f_q02y [15,(.f f_q01j)],
mV 14 16] [14])
(.cond 14 (.seq (rg [mV 4 (cI 1)] [4])
.ret)
.skip)))))))
(.seq (rg [mV 4 (cI 0)] [4])
.ret)))
def a_q01i : AFun:=⟨2,[.t 4],P_q01i,false,false⟩
def P_q01j : ACode:=(.seq (rg [mV 2 cF] [0])
(.seq (rg [mV 3 0,
cL 4 f_q01g [3],
uO 5 (.un .not 4),
mV 2 5] [2])
.ret))
def a_q01j : AFun:=⟨1,[.t 2],P_q01j,false,false⟩
def P_q01v : ACode:=(.seq (rg [mV 0 cF] [])
(.seq (rg [cL 13 f_q01w [],
uO 14 (.bsl false none 1 (.str []) [(0,(cS [49]))]),
cL 15 f_q00c [13,14],
mV 12 15,
eX 16 12 0,
eX 17 12 1,
mV 1 16,
mV 2 17] [1,2])
(.seq (rg [uO 19 (.bsl false none 1 (.str []) [(0,(cS [48,49]))]),
uO 20 (.bsl false none 1 (.int .i64 0) [(0,(cI 0))]),
uO 21 (.build [.p (.int .i64 0),.sl0 none] [(0,1,(cI 2)),(1,1,20)]),
cL 22 f_q010 [19,21],
mV 18 22,
eX 23 18 0,
eX 24 18 1,
mV 3 23,
mV 4 24] [1,2,3,4])
(.seq (rg [uO 26 (.build [.p (.int .i64 0),.p (.int .i64 0),.p (.int .i64 0),.p (.str []),.p (.str []),.p (.str [])] [(0,1,(cI 7)),(3,1,(cS [49,48]))]),
uO 27 (.bsl false (some 6) 1 (.agg [.int .i64 0,.int .i64 0,.int .i64 0,.str [],.str [],.str []]) [(0,26)]),
cL 28 f_q051 [27],
mV 25 28,
eX 29 25 0,
eX 30 25 1,
mV 5 29,
mV 6 30] [1,2,3,4,5,6])
(.seq (rg [uO 32 (.bsl false none 2 (.int .i64 0) [(0,(cI 1)),(1,(cI 3))]),
cL 33 f_q01f [32],
mV 31 33,
eX 34 31 0,
eX 35 31 1,
eX 36 31 2,
uO 7 (.alloc [.p (.int .i64 0),.p (.int .i64 0)]),
uO 8 (.alloc [.p (.int .i64 0),.p (.int .i64 0)]),
wO (.store (some 2) 7 34),
wO (.store (some 2) 8 35),
mV 9 36] [1,2,3,4,5,6,7,9])
(.seq (rg [uO 38 (.bsl false none 1 (.str []) [(0,(cS [115,99,97,110]))]),
uO 39 (.build [.sl0 none,.p (.int .i64 0)] [(0,1,38),(1,1,(cI 1))]),
uO 40 (.build [.p (.str []),.p (.int .i64 0),.p (.int .i64 0),.p (.int .i64 0),.p (.str []),.p (.str []),.p (.str []),.p (.int .i64 0)] [(0,1,(cS [97])),(1,1,(cI 1)),(3,1,(cI 1)),(4,1,(cS [98]))]),
uO 41 (.bsl false (some 8) 1 (.agg [.str [],.int .i64 0,.int .i64 0,.int .i64 0,.str [],.str [],.str [],.int .i64 0]) [(0,40)]),
cL 42 f_q03q [39,41,(cS [98]),(cI 0)],
mV 37 42,
eX 43 37 0,
eX 44 37 1,
uO 10 (.alloc [.p (.int .i64 0),.p (.int .i64 0),.p (.str []),.p (.str []),.p (.int .i64 0)]),
wO (.store (some 5) 10 43),
mV 11 44] [1,2,3,4,5,6,7,9,10,11])
(.seq (rg [mV 45 2,
mV 46 4,
mV 47 6,
mV 48 9,
mV 49 11,
uO 50 (.bsl false none 5 (.int .i64 0) [(0,45),(1,46),(2,47),(3,48),(4,49)]),
cL 51 f_q01u [50],
bN 52 .eql 51 (cI 0),
mV 53 52,
gD 54 53 true (.mv 1),
gD 55 53 true (.len 54),
gD 56 53 true (.bin .eql 55 (cI 1)),
uO 57 (.pick 53 56 cF),
mV 58 57,
gD 59 58 true (.mv 1),
gD 60 58 true (.iaddr none 59 (cI 0)),
gD 61 58 true (.load none 60),
gD 62 58 true (.bin .eql 61 (cI 1)),
uO 63 (.pick 58 62 cF),
mV 64 63,
gD 65 64 true (.mv 3),
gD 66 64 true (.len 65),
gD 67 64 true (.bin .eql 66 (cI 1)),
uO 68 (.pick 64 67 cF),
mV 69 68,
gD 70 69 true (.mv 3),
gD 71 69 true (.iaddr none 70 (cI 0)),
gD 72 69 true (.load none 71),
gD 73 69 true (.bin .eql 72 (cS [49,49])),
uO 74 (.pick 69 73 cF),
mV 75 74,
gD 76 75 true (.mv 5),
gD 77 75 true (.bin .eql 76 (cI 9)),
uO 78 (.pick 75 77 cF),
mV 79 78,
gD 80 79 true (.faddr 0 none 7),
gD 81 79 true (.load none 80),
gD 82 79 true (.bin .eql 81 (cI 2)),
uO 83 (.pick 79 82 cF),
mV 84 83,
gD 85 84 true (.faddr 0 none 10),
gD 86 84 true (.load none 85),
gD 87 84 true (.bin .eql 86 (cI 1)),
uO 88 (.pick 84 87 cF),
mV 0 88] [0])
.ret)))))))
def a_q01v : AFun:=⟨0,[.t 0],P_q01v,false,false⟩
def P_q01w : ACode:=(.seq (rg [uO 0 (.alloc [.sl0 (some 2),.sl0 (some 3),.sl0 (some 2)])] [0])
(.seq (rg [uO 1 (.build [.p (.int .i64 0),.p (.str []),.p (.int .i64 0),.p (.int .i64 0)] [(0,1,(cI 2)),(1,1,(cS [97])),(2,1,(cI (-1)))]),
uO 2 (.bsl false (some 4) 1 (.agg [.int .i64 0,.str [],.int .i64 0,.int .i64 0]) [(0,1)]),
uO 3 (.build [.p (.str []),.sl0 (some 4)] [(0,1,(cS [117])),(1,1,2)]),
uO 4 (.bsl false (some 2) 1 (.agg [.str [],.sl (some 4) []]) [(0,3)]),
uO 5 (.build [.p (.str []),.p (.str []),.p (.str [])] [(0,1,(cS [110])),(1,1,(cS [117])),(2,1,(cS [97]))]),
uO 6 (.bsl false (some 3) 1 (.agg [.str [],.str [],.str []]) [(0,5)]),
uO 7 (.build [.sl0 (some 2),.sl0 (some 3),.sl0 (some 2)] [(0,1,4),(1,1,6)]),
wO (.store (some 3) 0 7)] [0])
.ret))
def a_q01w : AFun:=⟨0,[.cell 0 (some 3)],P_q01w,false,false⟩
def p_q02s_k1 : ACode:=.pr [0,1,2,8,9,10] (.seq (.seq (rg [mV 15 9,
mV 16 10,
bN 17 .lss 15 16] [0,1,2,8,9,10,17])
(.cond 17 .skip
(.exit 0)))
(.block 1 (.seq (rg [mV 18 9,
mV 19 10,
bN 20 .add 18 19,
uO 21 (.conv (.i .u64) 20),
bN 22 .shr 21 (.c (.p (.int .u64 1))),
uO 23 (.conv (.i .i64) 22),
mV 11 23] [0,1,2,8,9,10,11])
(.seq (rg [mV 24 2,
mV 25 0,
mV 26 11,
iA 27 (some 2) 25 26,
lD 28 (some 2) 27,
mV 29 1,
uO 30 (.callv 24 [28,29]),
bN 31 .lss 30 (cI 0)] [0,1,2,8,9,10,11,31])
(.cond 31 (rg [mV 32 11,
bN 33 .add 32 (cI 1),
mV 9 33] [0,1,2,8,9,10])
(rg [mV 34 11,
mV 10 34] [0,1,2,8,9,10]))))))
def p_q02s_k2 : ACode:=.pr [0,1,2,8,9] (.seq (rg [mV 35 9,
mV 36 9,
mV 37 8,
bN 38 .lss 36 37,
mV 39 38,
gD 40 39 true (.mv 2),
gD 41 39 true (.mv 0),
gD 42 39 true (.mv 9),
gD 43 39 true (.iaddr (some 2) 41 42),
gD 44 39 true (.load (some 2) 43),
gD 45 39 true (.mv 1),
gD 46 39 true (.callv 40 [44,45]),
gD 47 39 true (.bin .eql 46 (cI 0)),
uO 48 (.pick 39 47 cF),
mV 6 35,
mV 7 48] [6,7])
.ret)
def P_q02s (q1 q2 : ACode) : ACode:=(.seq (rg [mV 6 (cI 0),
mV 7 cF] [0,1,2])
(.seq (rg [mV 12 0,
lN 13 12,
mV 8 13] [0,1,2,8])
(.seq (rg [mV 14 8,
mV 9 (cI 0),
mV 10 14] [0,1,2,8,9,10])
(.seq (.block 0 (.loop q1))
q2))))
def a_q02s : AFun:=⟨3,[.t 6,.t 7],P_q02s p_q02s_k1 p_q02s_k2,false,false⟩
def p_q02w_k1 : ACode:=.pr [0,3,4,5] (rg [mV 33 5,
bN 34 .add 33 (cI 1),
mV 5 34] [0,3,4,5])
def P_q02w_k2 (q1 : ACode) : ACode:=.pr [0,3,4,5] (.seq (.seq (rg [mV 29 5,
mV 30 4,
lN 31 30,
bN 32 .lss 29 31] [0,3,4,5,32])
(.cond 32 .skip
(.exit 2)))
(.seq (.block 3 (.seq (dr [dF (mV 35 4) [4],
dF (mV 36 5) [5],
dF (iA 37 none 35 36) [35,36],
dF (lD 38 none 37) [37],
dF (mV 39 4) [4],
dF (mV 40 5) [5],
dF (bN 41 .sub 40 (cI 1)) [40],
dF (iA 42 none 39 41) [39,41],
dF (lD 43 none 42) [42],
dF (bN 44 .neq 38 43) [38,43]] [0,3,4,5,44])
(.cond 44 (.seq (rg [mV 45 0,
mV 46 3,
mV 47 4,
mV 48 5,
iA 49 none 47 48,
lD 50 none 49,
iA 51 none 45 46,
wO (.store none 51 50)] [0,3,4,5])
(rg [mV 52 3,
bN 53 .add 52 (cI 1),
mV 3 53] [0,3,4,5]))
.skip)))
q1))
def p_q02w_k2 : ACode:=P_q02w_k2 p_q02w_k1
def p_q02w_k3 : ACode:=.pr [0,3] (.seq (rg [mV 54 0,
mV 55 3,
uO 56 (.slice none 54 (some 55) none none),
wO (.clr none (.str []) 56)] [0,3])
(.seq (rg [mV 57 0,
mV 58 3,
uO 59 (.slice none 57 none (some 58) none),
mV 2 59] [2])
.ret))
def p_q02w_k4 : ACode:=.pr [0,3] (rg [mV 14 3,
bN 15 .add 14 (cI 1),
mV 3 15] [0,3])
def P_q02w_k5 (q2 q3 q4 : ACode) : ACode:=.pr [0,3] (.seq (.seq (rg [mV 10 3,
mV 11 0,
lN 12 11,
bN 13 .lss 10 12] [0,3,13])
(.cond 13 .skip
(.exit 0)))
(.seq (.block 1 (.seq (dr [dF (mV 16 0) [0],
dF (mV 17 3) [3],
dF (iA 18 none 16 17) [16,17],
dF (lD 19 none 18) [18],
dF (mV 20 0) [0],
dF (mV 21 3) [3],
dF (bN 22 .sub 21 (cI 1)) [21],
dF (iA 23 none 20 22) [20,22],
dF (lD 24 none 23) [23],
dF (bN 25 .eql 19 24) [19,24]] [0,3,25])
(.cond 25 (.seq (rg [mV 26 0,
mV 27 3,
uO 28 (.slice none 26 (some 27) none none),
mV 4 28] [0,3,4])
(.seq (.seq (rg [mV 5 (cI 1)] [0,3,4,5])
(.block 2 (.loop q2)))
q3))
.skip)))
q4))
def p_q02w_k5 : ACode:=P_q02w_k5 p_q02w_k2 p_q02w_k3 p_q02w_k4
def p_q02w_k6 : ACode:=.pr [0] (.seq (rg [mV 60 0,
mV 2 60] [2])
.ret)
def P_q02w (q5 q6 : ACode) : ACode:=(.seq (rg [mV 2 (.c (.p (.sl none [])))] [0])
(.seq (.seq (rg [mV 6 0,
lN 7 6,
bN 8 .lss 7 (cI 2)] [0,8])
(.cond 8 (.seq (rg [mV 9 0,
mV 2 9] [2])
.ret)
.skip))
(.seq (.seq (rg [mV 3 (cI 1)] [0,3])
(.block 0 (.loop q5)))
q6)))
def a_q02w : AFun:=⟨1,[.t 2],P_q02w p_q02w_k5 p_q02w_k6,true,false⟩
def P_q02x : ACode:=(.seq (rg [mV 4 cF] [0,1])
(.seq (rg [mV 5 0,
mV 6 1,
cL 7 f_q033 [5,6],
bN 8 .geq 7 (cI 0),
mV 4 8] [4])
.ret))
def a_q02x : AFun:=⟨2,[.t 4],P_q02x,true,false⟩
def P_q02y : ACode:=(.seq (rg [mV 4 cF] [0,1])
(.seq (rg [mV 5 0,
mV 6 1,
cL 7 f_q034 [5,6],
bN 8 .geq 7 (cI 0),
mV 4 8] [4])
.ret))
def a_q02y : AFun:=⟨2,[.t 4],P_q02y,true,false⟩
def P_q030 : ACode:=(.seq (rg [mV 4 cF] [0,1])
(.seq (rg [mV 5 0,
mV 6 1,
cL 7 f_q037 [5,6],
bN 8 .geq 7 (cI 0),
mV 4 8] [4])
.ret))
def a_q030 : AFun:=⟨2,[.t 4],P_q030,true,false⟩
def p_q033_k1 : ACode:=.pr [0,1,7,8] (.seq (rg [bN 9 .lss 8 7] [0,1,7,8,9])
(.seq (.cond 9 .skip
(.exit 0))
(.seq (.block 1 (.seq (rg [mV 10 8,
mV 5 10] [0,1,5,7,8])
(.seq (rg [mV 11 1,
mV 12 0,
mV 13 5,
iA 14 (some 4) 12 13,
lD 15 (some 4) 14,
uO 16 (.callv 11 [15])] [0,1,5,7,8,16])
(.cond 16 (.seq (rg [mV 17 5,
mV 4 17] [4])
.ret)
.skip))))
(rg [bN 18 .add 8 (cI 1),
mV 8 18] [0,1,7,8]))))
def p_q033_k2 : ACode:=.pr [] (.seq (rg [mV 4 (cI (-1))] [4])
.ret)
def P_q033 (q1 q2 : ACode) : ACode:=(.seq (rg [mV 4 (cI 0)] [0,1])
(.seq (.seq (rg [mV 6 0,
lN 7 6,
mV 8 (cI 0)] [0,1,7,8])
(.block 0 (.loop q1)))
q2))
def a_q033 : AFun:=⟨2,[.t 4],P_q033 p_q033_k1 p_q033_k2,true,false⟩
def p_q034_k1 : ACode:=.pr [0,1,7,8] (.seq (rg [bN 9 .lss 8 7] [0,1,7,8,9])
(.seq (.cond 9 .skip
(.exit 0))
(.seq (.block 1 (.seq (rg [mV 10 8,
mV 5 10] [0,1,5,7,8])
(.seq (rg [mV 11 1,
mV 12 0,
mV 13 5,
iA 14 none 12 13,
lD 15 none 14,
uO 16 (.callv 11 [15])] [0,1,5,7,8,16])
(.cond 16 (.seq (rg [mV 17 5,
mV 4 17] [4])
.ret)
.skip))))
(rg [bN 18 .add 8 (cI 1),
mV 8 18] [0,1,7,8]))))
def p_q034_k2 : ACode:=.pr [] (.seq (rg [mV 4 (cI (-1))] [4])
.ret)
def P_q034 (q1 q2 : ACode) : ACode:=(.seq (rg [mV 4 (cI 0)] [0,1])
(.seq (.seq (rg [mV 6 0,
lN 7 6,
mV 8 (cI 0)] [0,1,7,8])
(.block 0 (.loop q1)))
q2))
def a_q034 : AFun:=⟨2,[.t 4],P_q034 p_q034_k1 p_q034_k2,true,false⟩
def p_q037_k1 : ACode:=.pr [0,1,7,8] (.seq (rg [bN 9 .lss 8 7] [0,1,7,8,9])
(.seq (.cond 9 .skip
(.exit 0))
(.seq (.block 1 (.seq (rg [mV 10 8,
mV 5 10] [0,1,5,7,8])
(.seq (rg [mV 11 1,
mV 12 0,
mV 13 5,
iA 14 none 12 13,
lD 15 none 14,
bN 16 .eql 11 15] [0,1,5,7,8,16])
(.cond 16 (.seq (rg [mV 17 5,
mV 4 17] [4])
.ret)
.skip))))
(rg [bN 18 .add 8 (cI 1),
mV 8 18] [0,1,7,8]))))
def p_q037_k2 : ACode:=.pr [] (.seq (rg [mV 4 (cI (-1))] [4])
.ret)
def P_q037 (q1 q2 : ACode) : ACode:=(.seq (rg [mV 4 (cI 0)] [0,1])
(.seq (.seq (rg [mV 6 0,
lN 7 6,
mV 8 (cI 0)] [0,1,7,8])
(.block 0 (.loop q1)))
q2))
def a_q037 : AFun:=⟨2,[.t 4],P_q037 p_q037_k1 p_q037_k2,true,false⟩
def p_q03o_k1 : ACode:=.pr [0,9,10,11] (.seq (rg [bN 12 .lss 11 10] [0,9,10,11,12])
(.seq (.cond 12 .skip
(.exit 0))
(.seq (.block 1 (.seq (rg [mV 13 11,
iA 14 (some 8) 9 11,
lD 15 (some 8) 14,
uO 4 (.alloc [.p (.str []),.p (.int .i64 0),.p (.int .i64 0),.p (.int .i64 0),.p (.str []),.p (.str []),.p (.str []),.p (.int .i64 0)]),
mV 3 13,
wO (.store (some 8) 4 15)] [0,3,4,9,10,11])
(.seq (.seq (rg [lD 16 (some 8) 4,
cL 17 f_q03t [16],
mV 5 17] [0,3,4,5,9,10,11])
(.seq (rg [mV 18 5,
bN 19 .neq 18 (cI 0)] [0,3,4,5,9,10,11,19])
(.cond 19 (.seq (rg [mV 20 5,
mV 2 20] [2])
.ret)
.skip)))
(.seq (dr [dF (mV 21 3) [3],
dF (bN 22 .gtr 21 (cI 0)) [21],
dF (mV 23 22) [22],
dF (gD 24 23 true (.load (some 8) 4)) [4,23],
dF (gD 25 23 true (.mv 0)) [0,23],
dF (gD 26 23 true (.mv 3)) [3,23],
dF (gD 27 23 true (.bin .sub 26 (cI 1))) [26,23],
dF (gD 28 23 true (.iaddr (some 8) 25 27)) [25,27,23],
dF (gD 29 23 true (.load (some 8) 28)) [28,23],
dT (gD 30 23 true (.call f_q03r [24,29])) [24,29,23],
dF (gD 31 23 true (.bin .leq 30 (cI 0))) [30,23],
dF (uO 32 (.pick 23 31 cF)) [23,31]] [0,9,10,11,32])
(.cond 32 (.seq (rg [mV 2 (cI 7)] [2])
.ret)
.skip)))))
(rg [bN 33 .add 11 (cI 1),
mV 11 33] [0,9,10,11]))))
def p_q03o_k2 : ACode:=.pr [0] (.seq (.seq (rg [mV 34 0,
cL 35 f_q042 [34]] [35])
(.cond 35 (.seq (rg [mV 2 (cI 6)] [2])
.ret)
.skip))
(.seq (rg [mV 2 (cI 0)] [2])
.ret))
def P_q03o (q1 q2 : ACode) : ACode:=(.seq (rg [mV 2 (cI 0)] [0])
(.seq (.seq (rg [mV 6 0,
lN 7 6,
bN 8 .gtr 7 (cI 2000)] [0,8])
(.cond 8 (.seq (rg [mV 2 (cI 2)] [2])
.ret)
.skip))
(.seq (.seq (rg [mV 9 0,
lN 10 9,
mV 11 (cI 0)] [0,9,10,11])
(.block 0 (.loop (.scope q1))))
q2)))
def a_q03o : AFun:=⟨1,[.t 2],P_q03o p_q03o_k1 p_q03o_k2,false,false⟩
def p_q03p_k1 : ACode:=.pr [1,16,17,18] (.seq (rg [bN 19 .lss 18 17] [1,16,17,18,19])
(.seq (.cond 19 .skip
(.exit 1))
(.seq (.block 2 (.seq (rg [mV 20 18,
iA 21 none 16 18,
lD 22 none 21,
mV 3 20,
mV 4 22] [1,3,4,16,17,18])
(.block 3 (.seq (rg [mV 24 4,
cL 25 f_q004 [24],
uO 26 (.un .not 25),
mV 23 26] [1,3,4,16,17,18,23])
(.cond 23 (.seq (rg [mV 2 (cI 5)] [2])
.ret)
(.seq (rg [fA 28 0 none 1,
lD 29 none 28,
mV 30 3,
uO 31 (.slice none 29 none (some 30) none),
mV 32 4,
cL 33 f_q030 [31,32],
mV 27 33] [1,16,17,18,27])
(.cond 27 (.seq (rg [mV 2 (cI 6)] [2])
.ret)
.skip)))))))
(rg [bN 34 .add 18 (cI 1),
mV 18 34] [1,16,17,18]))))
def p_q03p_k2 : ACode:=.pr [1] (.seq (.seq (rg [fA 35 1 none 1,
lD 36 none 35,
cL 37 f_q006 [36,(cI 1),(cI 10)]] [37])
(.cond 37 (.seq (rg [mV 2 (cI 1)] [2])
.ret)
.skip))
(.seq (rg [mV 2 (cI 0)] [2])
.ret))
def P_q03p (q1 q2 : ACode) : ACode:=(.seq (rg [uO 1 (.box 0),
mV 2 (cI 0)] [1])
(.seq (.block 0 (.seq (rg [fA 6 0 none 1,
lD 7 none 6,
lN 8 7,
bN 9 .eql 8 (cI 0),
mV 5 9] [1,5])
(.cond 5 (.seq (rg [mV 2 (cI 8)] [2])
.ret)
(.seq (rg [fA 11 0 none 1,
lD 12 none 11,
lN 13 12,
bN 14 .gtr 13 (cI 20),
mV 10 14] [1,10])
(.cond 10 (.seq (rg [mV 2 (cI 2)] [2])
.ret)
.skip)))))
(.seq (.seq (rg [fA 15 0 none 1,
lD 16 none 15,
lN 17 16,
mV 18 (cI 0)] [1,16,17,18])
(.block 1 (.loop q1)))
q2)))
def a_q03p : AFun:=⟨1,[.t 2],P_q03p p_q03p_k1 p_q03p_k2,false,false⟩
def P_q03q : ACode:=(.seq (rg [uO 4 (.box 0),
uO 8 (.alloc [.p (.int .i64 0),.p (.int .i64 0),.p (.str []),.p (.str []),.p (.int .i64 0)]),
mV 9 (cI 0)] [1,2,3,4,8])
(.seq (.seq (rg [lD 12 (some 2) 4,
mV 13 1,
mV 14 3,
cL 15 f_q03u [12,13,14],
mV 10 15] [1,2,3,4,8,10])
(.seq (rg [mV 16 10,
bN 17 .neq 16 (cI 0)] [1,2,3,4,8,10,17])
(.cond 17 (.seq (rg [uO 18 (.build [.p (.int .i64 0),.p (.int .i64 0),.p (.str []),.p (.str []),.p (.int .i64 0)] []),
mV 19 10,
wO (.store (some 5) 8 18),
mV 9 19] [8,9])
.ret)
.skip)))
(.seq (.seq (rg [mV 20 2,
cL 21 f_q004 [20],
uO 22 (.un .not 21)] [1,2,3,4,8,22])
(.cond 22 (.seq (rg [uO 23 (.build [.p (.int .i64 0),.p (.int .i64 0),.p (.str []),.p (.str []),.p (.int .i64 0)] []),
wO (.store (some 5) 8 23),
mV 9 (cI 5)] [8,9])
.ret)
.skip))
(.seq (dr [dF (lD 24 (some 2) 4) [4],
dF (mV 25 1) [1],
dF (mV 26 3) [3],
dA (cL 27 f_q043 [25,26]) [25,26] true [] [0],
dT (cL 28 f_q040 [24,27]) [24,27],
dF (uO 29 (.nilchk 28)) [28],
dF (fA 30 2 none 29) [29],
dF (lD 31 none 30) [30],
dF (mV 32 2) [2],
dF (uO 33 (.look (none,[2]) false (.nilp) 31 32)) [31,32],
dF (mV 11 33) [33]] [8,11])
(.seq (.seq (rg [mV 34 11,
uO 35 (.isnil 0 false 34)] [8,11,35])
(.cond 35 (.seq (rg [uO 36 (.build [.p (.int .i64 0),.p (.int .i64 0),.p (.str []),.p (.str []),.p (.int .i64 0)] []),
wO (.store (some 5) 8 36),
mV 9 (cI 8)] [8,9])
.ret)
.skip))
(.seq (rg [mV 37 11,
uO 38 (.nilchk 37),
lD 39 (some 5) 38,
wO (.store (some 5) 8 39),
mV 9 (cI 0)] [8,9])
.ret))))))
def a_q03q : AFun:=⟨4,[.cell 8 (some 5),.t 9],P_q03q,false,false⟩
def P_q03r : ACode:=(.seq (rg [uO 2 (.box 0),
uO 3 (.box 1),
mV 4 (cI 0)] [2,3])
(.seq (dr [dF (fA 5 2 none 2) [2],
dF (lD 6 none 5) [5],
dF (fA 7 2 none 3) [3],
dF (lD 8 none 7) [7],
dT (cL 9 f_q00r [6,8]) [6,8],
dF (fA 10 0 none 2) [2],
dA (lD 11 none 10) [10] false [4] [],
dF (fA 12 0 none 3) [3],
dA (lD 13 none 12) [12] false [4] [],
dT (cL 14 f_q04a [11,13]) [11,13],
dF (fA 15 1 none 2) [2],
dA (lD 16 none 15) [15] false [4,9] [],
dF (fA 17 1 none 3) [3],
dA (lD 18 none 17) [17] false [4,9] [],
dT (cL 19 f_q00r [16,18]) [16,18],
dF (uO 20 (.bsl false none 3 (.int .i64 0) [(0,9),(1,14),(2,19)])) [9,14,19],
dT (cL 21 f_q00t [20]) [20],
dF (mV 4 21) [21]] [4])
.ret))
def a_q03r : AFun:=⟨2,[.t 4],P_q03r,false,false⟩
def p_q03s_k1 : ACode:=.pr [0,3,4,5] (rg [mV 16 5,
bN 17 .sub 16 (cI 1),
mV 5 17] [0,3,4,5])
def P_q03s_k2 (q1 : ACode) : ACode:=.pr [0,3,4,5] (.seq (.seq (rg [mV 14 5,
bN 15 .geq 14 (cI 0)] [0,3,4,5,15])
(.cond 15 .skip
(.exit 0)))
(.seq (.block 1 (.seq (rg [mV 18 0,
mV 19 5,
iA 20 (some 8) 18 19,
lD 21 (some 8) 20,
uO 6 (.alloc [.p (.str []),.p (.int .i64 0),.p (.int .i64 0),.p (.int .i64 0),.p (.str []),.p (.str []),.p (.str []),.p (.int .i64 0)]),
wO (.store (some 8) 6 21)] [0,3,4,5,6])
(.seq (rg [mV 22 4,
mV 23 5,
mV 24 3,
fA 25 0 none 6,
lD 26 none 25,
fA 27 1 none 6,
lD 28 none 27,
uO 29 (.build [.p (.str []),.p (.int .i64 0)] [(0,1,26),(1,1,28)]),
uO 30 (.look ((some 2),[2,0]) false (AB false) 24 29),
uO 31 (.un .not 30),
iA 32 none 22 23,
wO (.store none 32 31)] [0,3,4,5,6])
(.seq (rg [mV 33 4,
mV 34 5,
iA 35 none 33 34,
lD 36 none 35,
mV 37 36,
gD 38 37 true (.faddr 3 none 6),
gD 39 37 true (.load none 38),
gD 40 37 true (.bin .eql 39 (cI 7)),
uO 41 (.pick 37 40 cF)] [0,3,4,5,6,41])
(.cond 41 (rg [mV 42 3,
fA 43 6 none 6,
lD 44 none 43,
fA 45 7 none 6,
lD 46 none 45,
uO 47 (.build [.p (.str []),.p (.int .i64 0)] [(0,1,44),(1,1,46)]),
wO (.mupd ((some 2),[2,0]) 42 47 cT)] [0,3,4,5])
.skip)))))
q1))
def p_q03s_k2 : ACode:=P_q03s_k2 p_q03s_k1
def p_q03s_k3 : ACode:=.pr [4] (.seq (rg [mV 48 4,
mV 2 48] [2])
.ret)
def P_q03s (q2 q3 : ACode) : ACode:=(.seq (rg [mV 2 (.c (.p (.sl none [])))] [0])
(.seq (rg [uO 7 (.mkmap),
mV 3 7] [0,3])
(.seq (rg [mV 8 0,
lN 9 8,
uO 10 (.mksl none (.bool false) 9 9),
mV 4 10] [0,3,4])
(.seq (.seq (rg [mV 11 0,
lN 12 11,
bN 13 .sub 12 (cI 1),
mV 5 13] [0,3,4,5])
(.block 0 (.loop (.scope q2))))
q3))))
def a_q03s : AFun:=⟨1,[.t 2],P_q03s p_q03s_k2 p_q03s_k3,false,false⟩
def P_q03t : ACode:=(.seq (rg [uO 1 (.box 0),
mV 2 (cI 0)] [1])
(.seq (dr [dF (fA 5 3 none 1) [1],
dF (lD 6 none 5) [5],
dF (bN 7 .eql 6 (cI 7)) [6],
dF (fA 8 3 none 1) [1],
dF (lD 9 none 8) [8],
dF (bN 10 .eql 9 (cI 2)) [9],
dF (mV 3 7) [7],
dF (mV 4 10) [10]] [1,3,4])
(.seq (.block 0 (.seq (rg [fA 12 0 none 1,
lD 13 none 12,
cL 14 f_q004 [13],
uO 15 (.un .not 14),
mV 11 15] [1,3,4,11])
(.cond 11 (.seq (rg [mV 2 (cI 5)] [2])
.ret)
(.seq (rg [fA 17 1 none 1,
lD 18 none 17,
cL 19 f_q006 [18,(cI 1),(cI 1000000)],
mV 20 19,
gD 21 20 false (.faddr 2 none 1),
gD 22 20 false (.load none 21),
gD 23 20 false (.call f_q005 [22]),
gD 24 20 false (.un .not 23),
uO 25 (.pick 20 cT 24),
mV 16 25] [1,3,4,16])
(.cond 16 (.seq (rg [mV 2 (cI 1)] [2])
.ret)
(.seq (rg [fA 27 3 none 1,
lD 28 none 27,
cL 29 f_q006 [28,(cI 1),(cI 7)],
mV 26 29] [1,3,4,26])
(.cond 26 (.seq (rg [mV 2 (cI 4)] [2])
.ret)
(.seq (rg [mV 31 3,
uO 32 (.un .not 31),
mV 33 32,
gD 34 33 true (.faddr 4 none 1),
gD 35 33 true (.load none 34),
gD 36 33 true (.call f_q004 [35]),
gD 37 33 true (.un .not 36),
uO 38 (.pick 33 37 cF),
mV 39 38,
gD 40 39 false (.mv 4),
gD 41 39 false (.mv 40),
gD 42 41 true (.faddr 5 none 1),
gD 43 41 true (.load none 42),
gD 44 41 true (.call f_q004 [43]),
gD 45 41 true (.un .not 44),
gD 46 39 false (.pick 41 45 cF),
uO 47 (.pick 39 cT 46),
mV 48 47,
gD 49 48 false (.mv 3),
gD 50 48 false (.mv 49),
gD 51 50 true (.faddr 6 none 1),
gD 52 50 true (.load none 51),
gD 53 50 true (.call f_q004 [52]),
gD 54 50 true (.un .not 53),
gD 55 48 false (.pick 50 54 cF),
uO 56 (.pick 48 cT 55),
mV 30 56] [1,3,4,30])
(.cond 30 (.seq (rg [mV 2 (cI 5)] [2])
.ret)
(.seq (rg [mV 58 3,
mV 59 58,
gD 60 59 true (.faddr 7 none 1),
gD 61 59 true (.load none 60),
gD 62 59 true (.call f_q006 [61,(cI 1),(cI 1000000)]),
uO 63 (.pick 59 62 cF),
mV 57 63] [1,3,4,57])
(.cond 57 (.seq (rg [mV 2 (cI 1)] [2])
.ret)
(.seq (rg [mV 65 3,
mV 66 65,
gD 67 66 true (.faddr 4 none 1),
gD 68 66 true (.load none 67),
gD 69 66 true (.bin .neq 68 (cS [])),
uO 70 (.pick 66 69 cF),
mV 71 70,
gD 72 71 false (.mv 4),
gD 73 71 false (.un .not 72),
gD 74 71 false (.mv 73),
gD 75 74 true (.faddr 5 none 1),
gD 76 74 true (.load none 75),
gD 77 74 true (.bin .neq 76 (cS [])),
gD 78 71 false (.pick 74 77 cF),
uO 79 (.pick 71 cT 78),
mV 80 79,
gD 81 80 false (.mv 3),
gD 82 80 false (.un .not 81),
gD 83 80 false (.mv 82),
gD 84 83 true (.faddr 6 none 1),
gD 85 83 true (.load none 84),
gD 86 83 true (.bin .neq 85 (cS [])),
gD 87 83 true (.mv 86),
gD 88 87 false (.faddr 7 none 1),
gD 89 87 false (.load none 88),
gD 90 87 false (.bin .neq 89 (cI 0)),
gD 91 83 true (.pick 87 cT 90),
gD 92 80 false (.pick 83 91 cF),
uO 93 (.pick 80 cT 92),
mV 64 93] [64])
(.cond 64 (.seq (rg [mV 2 (cI 3)] [2])
.ret)
.skip)))))))))))))
(.seq (rg [mV 2 (cI 0)] [2])
.ret))))
def a_q03t : AFun:=⟨1,[.t 2],P_q03t,false,false⟩
def P_q03u : ACode:=(.seq (rg [uO 3 (.box 0),
mV 6 (cI 0)] [1,2,3])
(.seq (rg [lD 7 (some 2) 3,
cL 8 f_q03p [7],
mV 9 1,
cL 10 f_q03o [9],
mV 11 2,
cL 12 f_q041 [11],
uO 13 (.bsl false none 3 (.int .i64 0) [(0,8),(1,10),(2,12)]),
cL 14 f_q001 [13],
mV 6 14] [6])
.ret))
def a_q03u : AFun:=⟨3,[.t 6],P_q03u,false,false⟩
def P_q03v : ACode:=(.seq (rg [mV 4 (cI 0)] [0,1])
(.seq (rg [mV 5 0,
uO 6 (.nilchk 5),
fA 7 0 (some 2) 6,
fA 8 0 none 7,
lD 9 none 8,
mV 10 1,
cL 11 f_q037 [9,10],
mV 4 11] [4])
.ret))
def a_q03v : AFun:=⟨2,[.t 4],P_q03v,false,false⟩
def p_q03w_k1 : ACode:=.pr [] (.seq (rg [mV 6 (cI 0)] [6])
.ret)
def p_q03w_k2 : ACode:=.pr [] (.seq (rg [mV 6 (cI 0)] [6])
.ret)
def P_q03w_k3 (q2 : ACode) : ACode:=.pr [0,1] (.seq (rg [mV 98 1,
uO 99 (.nilchk 98),
fA 100 4 none 99,
lD 101 none 100,
bN 102 .add 101 (cI 1),
uO 103 (.nilchk 98),
fA 104 4 none 103,
wO (.store none 104 102)] [0,1])
(.seq (rg [mV 105 1,
uO 106 (.nilchk 105),
fA 107 0 none 106,
wO (.store none 107 (cI 3))] [0,1])
(.seq (.seq (dr [dF (mV 108 1) [1],
dF (uO 109 (.nilchk 108)) [108],
dF (fA 110 4 none 109) [109],
dF (lD 111 none 110) [110],
dF (mV 112 0) [0],
dF (uO 113 (.nilchk 112)) [112],
dF (fA 114 0 (some 2) 113) [113],
dF (fA 115 1 none 114) [114],
dF (lD 116 none 115) [115],
dF (bN 117 .eql 111 116) [111,116]] [1,117])
(.cond 117 (rg [mV 118 1,
uO 119 (.nilchk 118),
fA 120 0 none 119,
wO (.store none 120 (cI 5))] [])
.skip))
q2)))
def p_q03w_k3 : ACode:=P_q03w_k3 p_q03w_k2
def P_q03w (q1 q3 : ACode) : ACode:=(.seq (rg [uO 5 (.box 2),
mV 6 (cI 0)] [0,1,5])
(.seq (.block 0 (.seq (rg [mV 10 1,
uO 11 (.nilchk 10),
fA 12 0 none 11,
lD 13 none 12,
bN 14 .neq 13 (cI 2),
mV 9 14] [0,1,5,9])
(.cond 9 (.seq (rg [mV 6 (cI 11)] [6])
.ret)
(.seq (dr [dF (mV 16 1) [1],
dF (uO 17 (.nilchk 16)) [16],
dF (fA 18 3 none 17) [17],
dF (lD 19 none 18) [18],
dF (fA 20 0 none 5) [5],
dF (lD 21 none 20) [20],
dF (bN 22 .neq 19 21) [19,21],
dF (mV 15 22) [22]] [0,1,5,15])
(.cond 15 (.seq (rg [mV 6 (cI 13)] [6])
.ret)
.skip)))))
(.seq (rg [fA 23 3 none 5,
lD 24 none 23,
bN 25 .eql 24 (cI 3),
mV 7 25] [0,1,5,7])
(.seq (dr [dF (mV 26 0) [0],
dF (mV 27 0) [0],
dF (uO 28 (.nilchk 27)) [27],
dF (fA 29 4 none 28) [28],
dF (lD 30 none 29) [29],
dF (fA 31 4 none 5) [5],
dF (lD 32 none 31) [31],
dF (mV 33 1) [1],
dF (uO 34 (.nilchk 33)) [33],
dF (fA 35 2 none 34) [34],
dF (lD 36 none 35) [35],
dF (mV 37 1) [1],
dF (uO 38 (.nilchk 37)) [37],
dF (fA 39 1 none 38) [38],
dF (lD 40 none 39) [39],
dF (fA 41 2 none 5) [5],
dF (lD 42 none 41) [41],
dF (mV 43 7) [7],
dF (uO 44 (.build [.p (.str []),.p (.str []),.p (.int .i64 0),.p (.int .i64 0),.p (.bool false)] [(0,1,32),(1,1,36),(2,1,40),(3,1,42),(4,1,43)])) [32,36,40,42,43],
dF (uO 45 (.bsl false (some 5) 1 (.agg [.str [],.str [],.int .i64 0,.int .i64 0,.bool false]) [(0,44)])) [44],
dT (uO 46 (.app (some 5) 30 45)) [30,45],
dF (uO 47 (.nilchk 26)) [26],
dF (fA 48 4 none 47) [47],
dT (wO (.store none 48 46)) [48,46]] [0,1,5,7])
(.seq (rg [mV 49 0,
mV 50 1,
fA 51 2 none 5,
lD 52 none 51,
cL 53 f_q03x [49,50,52]] [0,1,5,7])
(.seq (rg [mV 54 1,
fA 55 2 none 5,
lD 56 none 55,
uO 57 (.nilchk 54),
fA 58 1 none 57,
wO (.store none 58 56)] [0,1,7])
(.seq (.seq (rg [mV 59 7] [0,1,59])
(.cond 59 (.seq (rg [mV 60 1,
uO 61 (.nilchk 60),
fA 62 4 none 61,
wO (.store none 62 (cI 0))] [0,1])
(.seq (rg [mV 63 0,
mV 64 1,
uO 65 (.nilchk 64),
fA 66 2 none 65,
lD 67 none 66,
cL 68 f_q03v [63,67],
bN 69 .add 68 (cI 1),
mV 8 69] [0,1,8])
(.seq (.seq (rg [mV 70 8,
mV 71 0,
uO 72 (.nilchk 71),
fA 73 0 (some 2) 72,
fA 74 0 none 73,
lD 75 none 74,
lN 76 75,
bN 77 .eql 70 76] [0,1,8,77])
(.cond 77 (rg [mV 78 1,
mV 79 1,
uO 80 (.nilchk 78),
fA 81 0 none 80,
wO (.store none 81 (cI 4)),
uO 82 (.nilchk 79),
fA 83 2 none 82,
wO (.store none 83 (cS []))] [])
(rg [mV 84 1,
mV 85 1,
mV 86 0,
uO 87 (.nilchk 86),
fA 88 0 (some 2) 87,
fA 89 0 none 88,
lD 90 none 89,
mV 91 8,
iA 92 none 90 91,
lD 93 none 92,
uO 94 (.nilchk 84),
fA 95 0 none 94,
wO (.store none 95 (cI 1)),
uO 96 (.nilchk 85),
fA 97 2 none 96,
wO (.store none 97 93)] [])))
q1)))
.skip))
q3)))))))
def a_q03w : AFun:=⟨3,[.t 6],P_q03w p_q03w_k1 p_q03w_k3,false,false⟩
def p_q03x_k1 : ACode:=.pr [0,1,2,11,12] (rg [bN 47 .add 12 (cI 1),
mV 12 47] [0,1,2,11,12])
def P_q03x_k2 (q1 : ACode) : ACode:=.pr [0,1,2,11,12] (.seq (rg [bN 13 .lss 12 11] [0,1,2,11,12,13])
(.seq (.cond 13 .skip
(.exit 0))
(.seq (.block 1 (.seq (rg [mV 14 12,
mV 6 14] [0,1,2,6,11,12])
(.seq (dr [dF (mV 15 0) [0],
dF (uO 16 (.nilchk 15)) [15],
dF (fA 17 5 none 16) [16],
dF (lD 18 none 17) [17],
dF (mV 19 6) [6],
dF (iA 20 (some 3) 18 19) [18,19],
dF (fA 21 0 none 20) [20],
dF (lD 22 none 21) [21],
dF (mV 23 1) [1],
dF (uO 24 (.nilchk 23)) [23],
dF (fA 25 3 none 24) [24],
dF (lD 26 none 25) [25],
dF (bN 27 .eql 22 26) [22,26],
dF (mV 28 27) [27],
dF (gD 29 28 true (.mv 0)) [0,28],
dF (gD 30 28 true (.nilchk 29)) [29,28],
dF (gD 31 28 true (.faddr 5 none 30)) [30,28],
dF (gD 32 28 true (.load none 31)) [31,28],
dF (gD 33 28 true (.mv 6)) [6,28],
dF (gD 34 28 true (.iaddr (some 3) 32 33)) [32,33,28],
dF (gD 35 28 true (.faddr 2 none 34)) [34,28],
dF (gD 36 28 true (.load none 35)) [35,28],
dF (gD 37 28 true (.bin .lss 36 (cI 0))) [36,28],
dF (uO 38 (.pick 28 37 cF)) [28,37]] [0,1,2,6,11,12,38])
(.cond 38 (rg [mV 39 0,
uO 40 (.nilchk 39),
fA 41 5 none 40,
lD 42 none 41,
mV 43 6,
mV 44 2,
iA 45 (some 3) 42 43,
fA 46 2 none 45,
wO (.store none 46 44)] [0,1,2,11,12])
.skip))))
q1)))
def p_q03x_k2 : ACode:=P_q03x_k2 p_q03x_k1
def p_q03x_k3 : ACode:=.pr [0,1] (.seq (dr [dF (mV 48 0) [0],
dF (uO 49 (.nilchk 48)) [48],
dF (fA 50 3 none 49) [49],
dF (lD 51 none 50) [50],
dF (mV 52 1) [1],
dF (uO 53 (.nilchk 52)) [52],
dF (fA 54 3 none 53) [53],
dF (lD 55 none 54) [54],
dT (wO (.mdel (none,[2]) 51 55)) [51,55]] [1])
(rg [mV 56 1,
uO 57 (.nilchk 56),
fA 58 3 none 57,
wO (.store none 58 (cS []))] []))
def P_q03x (q2 q3 : ACode) : ACode:=(.seq (.seq (rg [mV 7 0,
uO 8 (.nilchk 7),
fA 9 5 none 8,
lD 10 none 9,
lN 11 10,
mV 12 (cI 0)] [0,1,2,11,12])
(.block 0 (.loop q2)))
q3)
def a_q03x : AFun:=⟨3,[],P_q03x p_q03x_k2 p_q03x_k3,false,false⟩
def P_q03y : ACode:=(.seq (rg [uO 5 (.box 2),
mV 6 (cI 0)] [0,1,5])
(.seq (dr [dF (mV 10 0) [0],
dF (uO 11 (.nilchk 10)) [10],
dF (fA 12 3 none 11) [11],
dF (lD 13 none 12) [12],
dF (fA 14 0 none 5) [5],
dF (lD 15 none 14) [14],
dF (uO 16 (.look (none,[2]) true (.p (.str [])) 13 15)) [13,15],
dF (mV 9 16) [16],
dF (eX 17 9 0) [9],
dF (eX 18 9 1) [9],
dF (mV 7 17) [17],
dF (mV 8 18) [18]] [0,1,5,8])
(.seq (.block 0 (.seq (rg [mV 20 1,
uO 21 (.nilchk 20),
fA 22 0 none 21,
lD 23 none 22,
bN 24 .neq 23 (cI 1),
mV 19 24] [0,1,5,8,19])
(.cond 19 (.seq (rg [mV 6 (cI 11)] [6])
.ret)
(.seq (dr [dF (fA 26 5 none 5) [5],
dF (lD 27 none 26) [26],
dF (mV 28 1) [1],
dF (uO 29 (.nilchk 28)) [28],
dF (fA 30 2 none 29) [29],
dF (lD 31 none 30) [30],
dF (bN 32 .neq 27 31) [27,31],
dF (mV 25 32) [32]] [0,1,5,8,25])
(.cond 25 (.seq (rg [mV 6 (cI 3)] [6])
.ret)
(.seq (rg [mV 34 8,
mV 33 34] [0,1,5,33])
(.cond 33 (.seq (rg [mV 6 (cI 12)] [6])
.ret)
.skip)))))))
(.seq (dr [dF (mV 35 1) [1],
dF (mV 36 1) [1],
dF (mV 37 1) [1],
dF (fA 38 2 none 5) [5],
dF (lD 39 none 38) [38],
dF (fA 40 0 none 5) [5],
dF (lD 41 none 40) [40],
dF (uO 42 (.nilchk 35)) [35],
dF (fA 43 0 none 42) [42],
dA (wO (.store none 43 (cI 2))) [43] true [] [4,6],
dF (uO 44 (.nilchk 36)) [36],
dF (fA 45 1 none 44) [44],
dA (wO (.store none 45 39)) [45,39] true [] [6],
dF (uO 46 (.nilchk 37)) [37],
dF (fA 47 3 none 46) [46],
dT (wO (.store none 47 41)) [47,41]] [0,5])
(.seq (dr [dF (mV 48 0) [0],
dF (uO 49 (.nilchk 48)) [48],
dF (fA 50 3 none 49) [49],
dF (lD 51 none 50) [50],
dF (fA 52 0 none 5) [5],
dF (lD 53 none 52) [52],
dF (fA 54 4 none 5) [5],
dF (lD 55 none 54) [54],
dT (wO (.mupd (none,[2]) 51 53 55)) [51,53,55]] [0,5])
(.seq (dr [dF (mV 56 0) [0],
dF (mV 57 0) [0],
dF (uO 58 (.nilchk 57)) [57],
dF (fA 59 5 none 58) [58],
dF (lD 60 none 59) [59],
dF (fA 61 0 none 5) [5],
dF (lD 62 none 61) [61],
dF (fA 63 2 none 5) [5],
dF (lD 64 none 63) [63],
dF (uO 65 (.build [.p (.str []),.p (.int .i64 0),.p (.int .i64 0)] [(0,1,62),(1,1,64),(2,1,(cI (-1)))])) [62,64],
dF (uO 66 (.bsl false (some 3) 1 (.agg [.str [],.int .i64 0,.int .i64 0]) [(0,65)])) [65],
dT (uO 67 (.app (some 3) 60 66)) [60,66],
dF (uO 68 (.nilchk 56)) [56],
dF (fA 69 5 none 68) [68],
dT (wO (.store none 69 67)) [69,67]] [])
(.seq (rg [mV 6 (cI 0)] [6])
.ret)))))))
def a_q03y : AFun:=⟨3,[.t 6],P_q03y,false,false⟩
def p_q03z_k1 : ACode:=.pr [0,3,5,38,45] (.cond 45 (.seq (rg [mV 48 0,
mV 49 5,
lD 50 (some 8) 3,
cL 51 f_q03w [48,49,50],
mV 4 51] [4])
.ret)
(.seq (rg [bN 53 .eql 38 (cI 5),
mV 52 53] [0,3,5,52])
(.cond 52 (.seq (.seq (rg [mV 54 5,
uO 55 (.nilchk 54),
fA 56 0 none 55,
lD 57 none 56,
bN 58 .neq 57 (cI 3)] [3,5,58])
(.cond 58 (.seq (rg [mV 4 (cI 11)] [4])
.ret)
.skip))
(.seq (dr [dF (mV 59 5) [5],
dF (mV 60 5) [5],
dF (fA 61 2 none 3) [3],
dF (lD 62 none 61) [61],
dF (uO 63 (.nilchk 59)) [59],
dF (fA 64 0 none 63) [63],
dA (wO (.store none 64 (cI 1))) [64] true [] [3],
dF (uO 65 (.nilchk 60)) [60],
dF (fA 66 1 none 65) [65],
dT (wO (.store none 66 62)) [66,62]] [])
(.seq (rg [mV 4 (cI 0)] [4])
.ret)))
.skip)))
def p_q03z_k2 : ACode:=.pr [3,5] (.seq (dr [dF (mV 89 5) [5],
dF (mV 90 5) [5],
dF (fA 91 2 none 3) [3],
dF (lD 92 none 91) [91],
dF (uO 93 (.nilchk 89)) [89],
dF (fA 94 0 none 93) [93],
dA (wO (.store none 94 (cI 5))) [94] true [] [3],
dF (uO 95 (.nilchk 90)) [90],
dF (fA 96 1 none 95) [95],
dT (wO (.store none 96 92)) [96,92]] [])
(.seq (rg [mV 4 (cI 0)] [4])
.ret))
def P_q03z_k3 (q2 : ACode) : ACode:=.pr [0,3,5] (.seq (.seq (rg [mV 67 5,
uO 68 (.nilchk 67),
fA 69 0 none 68,
lD 70 none 69,
bN 71 .eql 70 (cI 4),
mV 72 71,
gD 73 72 false (.mv 5),
gD 74 72 false (.nilchk 73),
gD 75 72 false (.faddr 0 none 74),
gD 76 72 false (.load none 75),
gD 77 72 false (.bin .eql 76 (cI 5)),
uO 78 (.pick 72 cT 77)] [0,3,5,78])
(.cond 78 (.seq (rg [mV 4 (cI 11)] [4])
.ret)
.skip))
(.seq (.seq (rg [mV 79 5,
uO 80 (.nilchk 79),
fA 81 0 none 80,
lD 82 none 81,
bN 83 .eql 82 (cI 2)] [0,3,5,83])
(.cond 83 (rg [mV 84 0,
mV 85 5,
fA 86 2 none 3,
lD 87 none 86,
cL 88 f_q03x [84,85,87]] [3,5])
.skip))
q2))
def p_q03z_k3 : ACode:=P_q03z_k3 p_q03z_k2
def P_q03z (q1 q3 : ACode) : ACode:=(.seq (rg [uO 3 (.box 1),
mV 4 (cI 0)] [0,3])
(.seq (dr [dF (mV 6 0) [0],
dF (uO 7 (.nilchk 6)) [6],
dF (fA 8 2 none 7) [7],
dF (lD 9 none 8) [8],
dF (fA 10 4 none 3) [3],
dF (lD 11 none 10) [10],
dF (uO 12 (.look (none,[2]) false (.nilp) 9 11)) [9,11],
dF (mV 5 12) [12]] [0,3,5])
(.seq (.seq (rg [fA 13 3 none 3,
lD 14 none 13,
bN 15 .eql 14 (cI 1)] [0,3,5,15])
(.cond 15 (.seq (.seq (rg [mV 16 5,
uO 17 (.isnil 0 true 16)] [0,3,17])
(.cond 17 (.seq (rg [mV 4 (cI 6)] [4])
.ret)
.skip))
(.seq (dr [dF (mV 18 0) [0],
dF (uO 19 (.nilchk 18)) [18],
dF (fA 20 2 none 19) [19],
dF (lD 21 none 20) [20],
dF (fA 22 4 none 3) [3],
dF (lD 23 none 22) [22],
dF (fA 24 2 none 3) [3],
dF (lD 25 none 24) [24],
dF (mV 26 0) [0],
dF (uO 27 (.nilchk 26)) [26],
dF (fA 28 0 (some 2) 27) [27],
dF (fA 29 0 none 28) [28],
dF (lD 30 none 29) [29],
dF (iA 31 none 30 (cI 0)) [30],
dF (lD 32 none 31) [31],
dF (uO 33 (.build [.p (.int .i64 0),.p (.int .i64 0),.p (.str []),.p (.str []),.p (.int .i64 0)] [(0,1,(cI 1)),(1,1,25),(2,1,32)])) [25,32],
dA (uO 34 (.box 33)) [33] true [] [3,5],
dT (wO (.mupd (none,[2]) 21 23 34)) [21,23,34]] [])
(.seq (rg [mV 4 (cI 0)] [4])
.ret)))
.skip))
(.seq (.seq (rg [mV 35 5,
uO 36 (.isnil 0 false 35)] [0,3,5,36])
(.cond 36 (.seq (rg [mV 4 (cI 8)] [4])
.ret)
.skip))
(.seq (.seq (rg [fA 37 3 none 3,
lD 38 none 37] [0,3,5,38])
(.block 0 (.seq (rg [bN 40 .eql 38 (cI 2),
mV 39 40] [0,3,5,38,39])
(.cond 39 (.seq (rg [mV 41 0,
mV 42 5,
lD 43 (some 8) 3,
cL 44 f_q03y [41,42,43],
mV 4 44] [4])
.ret)
(.seq (.seq (rg [bN 46 .eql 38 (cI 3),
mV 45 46] [0,3,5,38,45])
(.cond 45 .skip
(rg [bN 47 .eql 38 (cI 4),
mV 45 47] [0,3,5,38,45])))
q1)))))
q3)))))
def a_q03z : AFun:=⟨2,[.t 4],P_q03z p_q03z_k1 p_q03z_k3,false,false⟩
def p_q040_k1 : ACode:=.pr [5,6,17,18,19] (rg [bN 59 .add 19 (cI 1),
mV 19 59] [5,6,17,18,19])
def P_q040_k2 (q1 : ACode) : ACode:=.pr [5,6,17,18,19] (.seq (rg [bN 20 .lss 19 18] [5,6,17,18,19,20])
(.seq (.cond 20 .skip
(.exit 0))
(.seq (.block 1 (.seq (rg [mV 21 19,
iA 22 (some 8) 17 19,
lD 23 (some 8) 22,
uO 8 (.alloc [.p (.str []),.p (.int .i64 0),.p (.int .i64 0),.p (.int .i64 0),.p (.str []),.p (.str []),.p (.str []),.p (.int .i64 0)]),
mV 7 21,
wO (.store (some 8) 8 23)] [5,6,7,8,17,18,19])
(.seq (.seq (rg [mV 24 6,
mV 25 7,
iA 26 none 24 25,
lD 27 none 26,
uO 28 (.un .not 27),
mV 29 28,
gD 30 29 false (.faddr 3 none 8),
gD 31 29 false (.load none 30),
gD 32 29 false (.bin .eql 31 (cI 7)),
uO 33 (.pick 29 cT 32)] [5,6,7,8,17,18,19,33])
(.cond 33 (.exit 1)
.skip))
(.seq (rg [mV 34 5,
lD 35 (some 8) 8,
cL 36 f_q03z [34,35],
mV 9 36] [5,6,7,9,17,18,19])
(.seq (rg [mV 37 9,
bN 38 .neq 37 (cI 0)] [5,6,7,9,17,18,19,38])
(.cond 38 (.seq (rg [mV 39 5,
mV 40 5,
uO 41 (.nilchk 40),
fA 42 6 none 41,
lD 43 none 42,
mV 44 7,
uO 45 (.bsl false none 1 (.int .i64 0) [(0,44)]),
uO 46 (.app none 43 45),
uO 47 (.nilchk 39),
fA 48 6 none 47,
wO (.store none 48 46)] [5,6,9,17,18,19])
(rg [mV 49 5,
mV 50 5,
uO 51 (.nilchk 50),
fA 52 7 none 51,
lD 53 none 52,
mV 54 9,
uO 55 (.bsl false none 1 (.int .i64 0) [(0,54)]),
uO 56 (.app none 53 55),
uO 57 (.nilchk 49),
fA 58 7 none 57,
wO (.store none 58 56)] [5,6,17,18,19]))
.skip))))))
q1)))
def p_q040_k2 : ACode:=P_q040_k2 p_q040_k1
def p_q040_k3 : ACode:=.pr [5] (.seq (rg [mV 60 5,
mV 4 60] [4])
.ret)
def P_q040 (q2 q3 : ACode) : ACode:=(.seq (rg [uO 2 (.box 0),
mV 4 (.c (.nilp))] [1,2])
(.seq (rg [lD 10 (some 2) 2,
uO 11 (.mkmap),
uO 12 (.mkmap),
uO 13 (.build [.sl0 none,.p (.int .i64 0),.nilm,.nilm,.sl0 (some 5),.sl0 (some 3),.sl0 none,.sl0 none] [(0,2,10),(2,1,11),(3,1,12)]),
uO 14 (.box 13),
mV 5 14] [1,5])
(.seq (rg [mV 15 1,
cL 16 f_q03s [15],
mV 6 16] [1,5,6])
(.seq (.seq (rg [mV 17 1,
lN 18 17,
mV 19 (cI 0)] [5,6,17,18,19])
(.block 0 (.loop (.scope q2))))
q3))))
def a_q040 : AFun:=⟨2,[.t 4],P_q040 p_q040_k2 p_q040_k3,false,false⟩
def P_q041 : ACode:=(.seq (rg [mV 2 (cI 0)] [0])
(.seq (.seq (rg [mV 3 0,
cL 4 f_q005 [3],
uO 5 (.un .not 4)] [5])
(.cond 5 (.seq (rg [mV 2 (cI 1)] [2])
.ret)
.skip))
(.seq (rg [mV 2 (cI 0)] [2])
.ret)))
def a_q041 : AFun:=⟨1,[.t 2],P_q041,false,false⟩
def p_q042_k1 : ACode:=.pr [3,8,9,10] (.seq (rg [bN 11 .lss 10 9] [3,8,9,10,11])
(.seq (.cond 11 .skip
(.exit 0))
(.seq (.block 1 (.seq (rg [iA 12 (some 8) 8 10,
lD 13 (some 8) 12,
uO 5 (.alloc [.p (.str []),.p (.int .i64 0),.p (.int .i64 0),.p (.int .i64 0),.p (.str []),.p (.str []),.p (.str []),.p (.int .i64 0)]),
wO (.store (some 8) 5 13)] [3,5,8,9,10])
(.seq (rg [fA 14 0 none 5,
lD 15 none 14,
fA 16 1 none 5,
lD 17 none 16,
uO 18 (.build [.p (.str []),.p (.int .i64 0)] [(0,1,15),(1,1,17)]),
uO 6 (.alloc [.p (.str []),.p (.int .i64 0)]),
wO (.store (some 2) 6 18)] [3,6,8,9,10])
(.seq (.seq (rg [mV 19 3,
lD 20 (some 2) 6,
uO 21 (.look ((some 2),[2,0]) false (AB false) 19 20)] [3,6,8,9,10,21])
(.cond 21 (.seq (rg [mV 2 cT] [2])
.ret)
.skip))
(rg [mV 22 3,
lD 23 (some 2) 6,
wO (.mupd ((some 2),[2,0]) 22 23 cT)] [3,8,9,10])))))
(rg [bN 24 .add 10 (cI 1),
mV 10 24] [3,8,9,10]))))
def p_q042_k2 : ACode:=.pr [] (.seq (rg [mV 2 cF] [2])
.ret)
def P_q042 (q1 q2 : ACode) : ACode:=(.seq (rg [mV 2 cF] [0])
(.seq (rg [uO 7 (.mkmap),
mV 3 7] [0,3])
(.seq (.seq (rg [mV 8 0,
lN 9 8,
mV 10 (cI 0)] [3,8,9,10])
(.block 0 (.loop (.scope q1))))
q2)))
def a_q042 : AFun:=⟨1,[.t 2],P_q042 p_q042_k1 p_q042_k2,false,false⟩
def p_q043_k1 : ACode:=.pr [0,1,5] (.seq (.seq (rg [mV 8 5,
bN 9 .gtr 8 (cI 0),
mV 10 9,
gD 11 10 true (.mv 0),
gD 12 10 true (.mv 5),
gD 13 10 true (.bin .sub 12 (cI 1)),
gD 14 10 true (.iaddr (some 8) 11 13),
gD 15 10 true (.faddr 2 none 14),
gD 16 10 true (.load none 15),
gD 17 10 true (.mv 1),
gD 18 10 true (.bin .gtr 16 17),
uO 19 (.pick 10 18 cF)] [0,1,5,19])
(.cond 19 .skip
(.exit 0)))
(.block 1 (rg [mV 20 5,
bN 21 .sub 20 (cI 1),
mV 5 21] [0,1,5])))
def p_q043_k2 : ACode:=.pr [0,5] (.seq (rg [mV 22 0,
mV 23 5,
uO 24 (.slice (some 8) 22 none (some 23) none),
mV 4 24] [4])
.ret)
def P_q043 (q1 q2 : ACode) : ACode:=(.seq (rg [mV 4 (.c (.p (.sl (some 8) [])))] [0,1])
(.seq (rg [mV 6 0,
lN 7 6,
mV 5 7] [0,1,5])
(.seq (.block 0 (.loop q1))
q2)))
def a_q043 : AFun:=⟨2,[.t 4],P_q043 p_q043_k1 p_q043_k2,false,false⟩
def P_q04a : ACode:=(.seq (rg [mV 4 (cI 0)] [0,1])
(.seq (rg [mV 5 0,
mV 6 1,
cL 7 f_q01b [5,6],
mV 4 7] [4])
.ret))
def a_q04a : AFun:=⟨2,[.t 4],P_q04a,false,false⟩
def P_q04p : ACode:=(.seq (rg [mV 4 (cS []),
mV 5 (cI 0)] [0,1])
(.seq (.seq (rg [mV 6 0,
cL 7 f_q04q [6],
uO 8 (.un .not 7),
mV 9 8,
gD 10 9 false (.mv 1),
gD 11 9 false (.call f_q04q [10]),
gD 12 9 false (.un .not 11),
uO 13 (.pick 9 cT 12)] [0,1,13])
(.cond 13 (.seq (rg [mV 4 (cS []),
mV 5 (cI 1)] [4,5])
.ret)
.skip))
(.seq (rg [mV 14 0,
mV 15 1,
cL 16 f_q04s [14,15],
mV 4 16,
mV 5 (cI 0)] [4,5])
.ret)))
def a_q04p : AFun:=⟨2,[.t 4,.t 5],P_q04p,false,false⟩
def P_q04q : ACode:=(.seq (rg [mV 2 cF] [0])
(.seq (rg [mV 3 0,
cL 4 f_q006 [3,(cI 0),(cI 15)],
uO 5 (.un .not 4),
mV 2 5] [2])
.ret))
def a_q04q : AFun:=⟨1,[.t 2],P_q04q,false,false⟩
def P_q04r : ACode:=(.seq (rg [mV 4 (cI 0)] [0,1])
(.seq (rg [uO 6 (.build [.p (.int .i64 0),.p (.int .i64 0)] [(0,1,(cI 1)),(1,1,(cI 0))]),
uO 7 (.build [.p (.int .i64 0),.p (.int .i64 0)] [(0,1,(cI 1)),(1,1,(cI 2))]),
uO 8 (.build [.p (.int .i64 0),.p (.int .i64 0)] [(0,1,(cI 3)),(1,1,(cI 9))]),
uO 9 (.build [.p (.int .i64 0),.p (.int .i64 0)] [(0,1,(cI 4)),(1,1,(cI 5))]),
uO 10 (.build [.p (.int .i64 0),.p (.int .i64 0)] [(0,1,(cI 4)),(1,1,(cI 5))]),
uO 11 (.build [.p (.int .i64 0),.p (.int .i64 0)] [(0,1,(cI 6)),(1,1,(cI 8))]),
uO 12 (.build [.p (.int .i64 0),.p (.int .i64 0)] [(0,1,(cI 6)),(1,1,(cI 7))]),
uO 13 (.build [.p (.int .i64 0),.p (.int .i64 0)] [(0,1,(cI 4)),(1,1,(cI 8))]),
uO 14 (.build [.p (.int .i64 0),.p (.int .i64 0)] [(0,1,(cI 1)),(1,1,(cI 2))]),
uO 15 (.build [.p (.int .i64 0),.p (.int .i64 0)] [(0,1,(cI 10)),(1,1,(cI 0))]),
uO 16 (.build [.p (.int .i64 0),.p (.int .i64 0)] [(0,1,(cI 11)),(1,1,(cI 12))]),
uO 17 (.build [.p (.int .i64 0),.p (.int .i64 0)] [(0,1,(cI 11)),(1,1,(cI 12))]),
uO 18 (.build [.p (.int .i64 0),.p (.int .i64 0)] [(0,1,(cI 13)),(1,1,(cI 15))]),
uO 19 (.build [.p (.int .i64 0),.p (.int .i64 0)] [(0,1,(cI 13)),(1,1,(cI 14))]),
uO 20 (.build [.p (.int .i64 0),.p (.int .i64 0)] [(0,1,(cI 11)),(1,1,(cI 15))]),
uO 21 (.build [.p (.int .i64 0),.p (.int .i64 0)] [(0,1,(cI 1)),(1,1,(cI 2))]),
uO 22 (.build [.p (.int .i64 0),.p (.int .i64 0),.p (.int .i64 0),.p (.int .i64 0),.p (.int .i64 0),.p (.int .i64 0),.p (.int .i64 0),.p (.int .i64 0),.p (.int .i64 0),.p (.int .i64 0),.p (.int .i64 0),.p (.int .i64 0),.p (.int .i64 0),.p (.int .i64 0),.p (.int .i64 0),.p (.int .i64 0),.p (.int .i64 0),.p (.int .i64 0),.p (.int .i64 0),.p (.int .i64 0),.p (.int .i64 0),.p (.int .i64 0),.p (.int .i64 0),.p (.int .i64 0),.p (.int .i64 0),.p (.int .i64 0),.p (.int .i64 0),.p (.int .i64 0),.p (.int .i64 0),.p (.int .i64 0),.p (.int .i64 0),.p (.int .i64 0)] [(0,2,6),(2,2,7),(4,2,8),(6,2,9),(8,2,10),(10,2,11),(12,2,12),(14,2,13),(16,2,14),(18,2,15),(20,2,16),(22,2,17),(24,2,18),(26,2,19),(28,2,20),(30,2,21)]),
uO 5 (.alloc [.p (.int .i64 0),.p (.int .i64 0),.p (.int .i64 0),.p (.int .i64 0),.p (.int .i64 0),.p (.int .i64 0),.p (.int .i64 0),.p (.int .i64 0),.p (.int .i64 0),.p (.int .i64 0),.p (.int .i64 0),.p (.int .i64 0),.p (.int .i64 0),.p (.int .i64 0),.p (.int .i64 0),.p (.int .i64 0),.p (.int .i64 0),.p (.int .i64 0),.p (.int .i64 0),.p (.int .i64 0),.p (.int .i64 0),.p (.int .i64 0),.p (.int .i64 0),.p (.int .i64 0),.p (.int .i64 0),.p (.int .i64 0),.p (.int .i64 0),.p (.int .i64 0),.p (.int .i64 0),.p (.int .i64 0),.p (.int .i64 0),.p (.int .i64 0)]),
wO (.store (some 32) 5 22)] [0,1,5])
(.seq (rg [mV 23 0,
mV 24 1,
uO 25 (.iaddra 16 (some 2) 5 23),
uO 26 (.iaddra 2 none 25 24),
lD 27 none 26,
mV 4 27] [4])
.ret)))
def a_q04r : AFun:=⟨2,[.t 4],P_q04r,false,false⟩
def d_q04r (C : Hd) (gl : GL) (v0 v1 : AV) (h : Heap) (x : Esc) (K : KT) : Prop:=
 pK (oBuild [.p (.int .i64 0),.p (.int .i64 0)] [(0,1,(AI 1)),(1,1,(AI 0))]) fun t1=>
 pK (oBuild [.p (.int .i64 0),.p (.int .i64 0)] [(0,1,(AI 1)),(1,1,(AI 2))]) fun t2=>
 pK (oBuild [.p (.int .i64 0),.p (.int .i64 0)] [(0,1,(AI 3)),(1,1,(AI 9))]) fun t3=>
 pK (oBuild [.p (.int .i64 0),.p (.int .i64 0)] [(0,1,(AI 4)),(1,1,(AI 5))]) fun t4=>
 pK (oBuild [.p (.int .i64 0),.p (.int .i64 0)] [(0,1,(AI 4)),(1,1,(AI 5))]) fun t5=>
 pK (oBuild [.p (.int .i64 0),.p (.int .i64 0)] [(0,1,(AI 6)),(1,1,(AI 8))]) fun t6=>
 pK (oBuild [.p (.int .i64 0),.p (.int .i64 0)] [(0,1,(AI 6)),(1,1,(AI 7))]) fun t7=>
 pK (oBuild [.p (.int .i64 0),.p (.int .i64 0)] [(0,1,(AI 4)),(1,1,(AI 8))]) fun t8=>
 pK (oBuild [.p (.int .i64 0),.p (.int .i64 0)] [(0,1,(AI 1)),(1,1,(AI 2))]) fun t9=>
 pK (oBuild [.p (.int .i64 0),.p (.int .i64 0)] [(0,1,(AI 10)),(1,1,(AI 0))]) fun t10=>
 pK (oBuild [.p (.int .i64 0),.p (.int .i64 0)] [(0,1,(AI 11)),(1,1,(AI 12))]) fun t11=>
 pK (oBuild [.p (.int .i64 0),.p (.int .i64 0)] [(0,1,(AI 11)),(1,1,(AI 12))]) fun t12=>
 pK (oBuild [.p (.int .i64 0),.p (.int .i64 0)] [(0,1,(AI 13)),(1,1,(AI 15))]) fun t13=>
 pK (oBuild [.p (.int .i64 0),.p (.int .i64 0)] [(0,1,(AI 13)),(1,1,(AI 14))]) fun t14=>
 pK (oBuild [.p (.int .i64 0),.p (.int .i64 0)] [(0,1,(AI 11)),(1,1,(AI 15))]) fun t15=>
 pK (oBuild [.p (.int .i64 0),.p (.int .i64 0)] [(0,1,(AI 1)),(1,1,(AI 2))]) fun t16=>
 pK (oBuild [.p (.int .i64 0),.p (.int .i64 0),.p (.int .i64 0),.p (.int .i64 0),.p (.int .i64 0),.p (.int .i64 0),.p (.int .i64 0),.p (.int .i64 0),.p (.int .i64 0),.p (.int .i64 0),.p (.int .i64 0),.p (.int .i64 0),.p (.int .i64 0),.p (.int .i64 0),.p (.int .i64 0),.p (.int .i64 0),.p (.int .i64 0),.p (.int .i64 0),.p (.int .i64 0),.p (.int .i64 0),.p (.int .i64 0),.p (.int .i64 0),.p (.int .i64 0),.p (.int .i64 0),.p (.int .i64 0),.p (.int .i64 0),.p (.int .i64 0),.p (.int .i64 0),.p (.int .i64 0),.p (.int .i64 0),.p (.int .i64 0),.p (.int .i64 0)] [(0,2,t1),(2,2,t2),(4,2,t3),(6,2,t4),(8,2,t5),(10,2,t6),(12,2,t7),(14,2,t8),(16,2,t9),(18,2,t10),(20,2,t11),(22,2,t12),(24,2,t13),(26,2,t14),(28,2,t15),(30,2,t16)]) fun t17=>
 alK [.p (.int .i64 0),.p (.int .i64 0),.p (.int .i64 0),.p (.int .i64 0),.p (.int .i64 0),.p (.int .i64 0),.p (.int .i64 0),.p (.int .i64 0),.p (.int .i64 0),.p (.int .i64 0),.p (.int .i64 0),.p (.int .i64 0),.p (.int .i64 0),.p (.int .i64 0),.p (.int .i64 0),.p (.int .i64 0),.p (.int .i64 0),.p (.int .i64 0),.p (.int .i64 0),.p (.int .i64 0),.p (.int .i64 0),.p (.int .i64 0),.p (.int .i64 0),.p (.int .i64 0),.p (.int .i64 0),.p (.int .i64 0),.p (.int .i64 0),.p (.int .i64 0),.p (.int .i64 0),.p (.int .i64 0),.p (.int .i64 0),.p (.int .i64 0)] h fun t18 h19 y20=>
 wK (oStore (some 32) t18 t17 h19) fun t21 h22 y23=>
 pK (oIaddra 16 (some 2) t18 v0) fun t24=>
 pK (oIaddra 2 none t24 v1) fun t25=>
 pK (oLoad none t25 h22) fun t26=>
 K .ret ⟨[(4,t26)],h22,(y23 ++ (y20 ++ x))⟩
theorem e_q04r {C gl v0 v1 h x K} : NW C gl a_q04r.body ⟨enter [v0,v1],h,x⟩ K = d_q04r C gl v0 v1 h x K:=by kernel_rfl
def p_q04s_k1 : ACode:=.pr [1,5,6,7,25] (rg [bN 53 .add 25 (cI 1),
mV 25 53] [1,5,6,7,25])
def d_q04s_k1 (C : Hd) (gl : GL) (v1 v5 v6 v7 v25 : AV) (h : Heap) (x : Esc) (K : KT) : Prop:=
 pK (oBin .add v25 (AI 1)) fun t1=>
 K .normal ⟨[(1,v1),(5,v5),(6,v6),(7,v7),(25,t1)],h,x⟩
theorem e_q04s_k1 {C gl e h x K} : NW C gl p_q04s_k1 ⟨e,h,x⟩ K = d_q04s_k1 C gl (aget e 1) (aget e 5) (aget e 6) (aget e 7) (aget e 25) h x K:=by kernel_rfl
def P_q04s_k2 (q1 : ACode) : ACode:=.pr [1,5,6,7,25] (.seq (rg [bN 26 .lss 25 (cI 2)] [1,5,6,7,25,26])
(.seq (.cond 26 .skip
(.exit 2))
(.seq (.block 3 (.seq (rg [mV 27 25,
mV 8 27] [1,5,6,7,8,25])
(.seq (rg [mV 28 7,
mV 29 8,
cL 30 f_q04r [28,29],
mV 9 30] [1,5,6,7,8,9,25])
(.seq (rg [mV 32 5,
mV 33 9,
uO 34 (.look (none,[0]) true (.p (.str [])) 32 33),
mV 31 34,
eX 35 31 0,
eX 36 31 1,
mV 10 35,
mV 11 36] [1,5,6,7,8,9,11,25])
(.seq (rg [mV 37 11,
uO 38 (.un .not 37)] [1,5,6,7,8,9,25,38])
(.cond 38 (.seq (rg [mV 39 5,
mV 40 9,
mV 41 5,
mV 42 7,
uO 43 (.look (none,[0]) false (.p (.str [])) 41 42),
mV 44 8,
bN 45 .add (cI 48) 44,
uO 46 (.conv (.i .i32) 45),
uO 47 (.conv .r2s 46),
bN 48 .add 43 47,
wO (.mupd (none,[0]) 39 40 48)] [1,5,6,7,9,25])
(rg [mV 49 6,
mV 50 9,
uO 51 (.bsl false none 1 (.int .i64 0) [(0,50)]),
uO 52 (.mnext (some none) [49,51]),
mV 6 52] [1,5,6,7,25]))
.skip))))))
q1)))
def p_q04s_k2 : ACode:=P_q04s_k2 p_q04s_k1
def d_q04s_k2 (C : Hd) (gl : GL) (q1 : ACode) (v1 v5 v6 v7 v25 : AV) (h : Heap) (x : Esc) (K : KT) : Prop:=
 pK (oBin .lss v25 (AI 2)) fun t1=>
 condB t1 (C f_q04r [v7,v25] h fun t2 h3 y4=>
 pK (oLook (none,[0]) true (.p (.str [])) v5 t2 h3) fun t5=>
 pK (oExt t5 0) fun t6=>
 pK (oExt t5 1) fun t7=>
 pK (oUn .not t7) fun t8=>
 condB t8 (pK (oLook (none,[0]) false (.p (.str [])) v5 v7 h3) fun t9=>
 pK (oBin .add (AI 48) v25) fun t10=>
 pK (oConvI .i32 t10) fun t11=>
 wK (oConv .r2s t11 h3) fun t12 h13 y14=>
 pK (oBin .add t9 t12) fun t15=>
 wK (oMupd (none,[0]) v5 t2 t15 h13) fun t16 h17 y18=>
 wK (oBsl false none 1 (.int .i64 0) [(0,t2)] h17) fun t19 h20 y21=>
 nqK (some none) [v6,t19] h20 fun t22 h23 y24=>
 NW C gl q1 ⟨[(1,v1),(5,v5),(6,t22),(7,v7),(25,v25)],h23,(y24 ++ (y21 ++ (y18 ++ (y14 ++ (y4 ++ x)))))⟩ K)
 (NW C gl q1 ⟨[(1,v1),(5,v5),(6,v6),(7,v7),(8,v25),(9,t2),(25,v25),(38,t8)],h3,(y4 ++ x)⟩ K))
 (K (.exit 2) ⟨[(1,v1),(5,v5),(6,v6),(7,v7),(25,v25),(26,t1)],h,x⟩)
theorem E_q04s_k2 {C gl q1 e h x K} : NW C gl (P_q04s_k2 q1) ⟨e,h,x⟩ K = d_q04s_k2 C gl q1 (aget e 1) (aget e 5) (aget e 6) (aget e 7) (aget e 25) h x K:=by kernel_rfl
theorem e_q04s_k2 {C gl e h x K} : NW C gl p_q04s_k2 ⟨e,h,x⟩ K = d_q04s_k2 C gl p_q04s_k1 (aget e 1) (aget e 5) (aget e 6) (aget e 7) (aget e 25) h x K:=E_q04s_k2
theorem l_q04s_k2 {C gl e h x K} : NW C gl (.loop p_q04s_k2) ⟨e,h,x⟩ K = NLoop C gl p_q04s_k2 K [(1,aget e 1),(5,aget e 5),(6,aget e 6),(7,aget e 7),(25,aget e 25)] h x:=NLoop_pr
def P_q04s_k3 (q2 : ACode) : ACode:=.pr [1,5,6] (.seq (.seq (rg [mV 17 6,
lN 18 17,
bN 19 .gtr 18 (cI 0)] [1,5,6,19])
(.cond 19 .skip
(.exit 0)))
(.block 1 (.seq (rg [mV 20 6,
iA 21 none 20 (cI 0),
lD 22 none 21,
mV 7 22] [1,5,6,7])
(.seq (rg [mV 23 6,
uO 24 (.slice none 23 (some (cI 1)) none none),
mV 6 24] [1,5,6,7])
(.seq (rg [mV 25 (cI 0)] [1,5,6,7,25])
(.block 2 (.loop q2)))))))
def p_q04s_k3 : ACode:=P_q04s_k3 p_q04s_k2
def d_q04s_k3 (C : Hd) (gl : GL) (q2 : ACode) (v1 v5 v6 : AV) (h : Heap) (x : Esc) (K : KT) : Prop:=
 pK (oLen v6) fun t1=>
 pK (oBin .gtr t1 (AI 0)) fun t2=>
 condB t2 (pK (oIaddr none v6 (AI 0) h) fun t3=>
 pK (oLoad none t3 h) fun t4=>
 pK (oSlice none v6 (some (AI 1)) none none h) fun t5=>
 NW C gl (.loop q2) ⟨[(1,v1),(5,v5),(6,t5),(7,t4),(25,(AI 0))],h,x⟩ (blockN 2 (blockN 1 K)))
 (K (.exit 0) ⟨[(1,v1),(5,v5),(6,v6),(19,t2)],h,x⟩)
theorem E_q04s_k3 {C gl q2 e h x K} : NW C gl (P_q04s_k3 q2) ⟨e,h,x⟩ K = d_q04s_k3 C gl q2 (aget e 1) (aget e 5) (aget e 6) h x K:=by kernel_rfl
theorem e_q04s_k3 {C gl e h x K} : NW C gl p_q04s_k3 ⟨e,h,x⟩ K = d_q04s_k3 C gl p_q04s_k2 (aget e 1) (aget e 5) (aget e 6) h x K:=E_q04s_k3
theorem l_q04s_k3 {C gl e h x K} : NW C gl (.loop p_q04s_k3) ⟨e,h,x⟩ K = NLoop C gl p_q04s_k3 K [(1,aget e 1),(5,aget e 5),(6,aget e 6)] h x:=NLoop_pr
def p_q04s_k4 : ACode:=.pr [1,5] (.seq (rg [mV 54 5,
mV 55 1,
uO 56 (.look (none,[0]) false (.p (.str [])) 54 55),
mV 4 56] [4])
.ret)
def d_q04s_k4 (C : Hd) (gl : GL) (v1 v5 : AV) (h : Heap) (x : Esc) (K : KT) : Prop:=
 pK (oLook (none,[0]) false (.p (.str [])) v5 v1 h) fun t1=>
 K .ret ⟨[(4,t1)],h,x⟩
theorem e_q04s_k4 {C gl e h x K} : NW C gl p_q04s_k4 ⟨e,h,x⟩ K = d_q04s_k4 C gl (aget e 1) (aget e 5) h x K:=by kernel_rfl
def P_q04s (q3 q4 : ACode) : ACode:=(.det (.seq (rg [mV 4 (cS [])] [0,1])
(.seq (rg [uO 12 (.mkmap),
mV 13 0,
wO (.mupd (none,[0]) 12 13 (cS [])),
mV 14 12,
mV 5 14] [0,1,5])
(.seq (rg [mV 15 0,
uO 16 (.bsl true none 1 (.int .i64 0) [(0,15)]),
mV 6 16] [1,5,6])
(.seq (.block 0 (.loop q3))
q4)))))
def a_q04s : AFun:=⟨2,[.t 4],P_q04s p_q04s_k3 p_q04s_k4,false,false⟩
def d_q04s (C : Hd) (gl : GL) (q3 q4 : ACode) (v0 v1 : AV) (h : Heap) (x : Esc) (K : KT) : Prop:=
 mmK h fun t1 h2 y3=>
 wK (oMupd (none,[0]) t1 v0 (.p (.str [])) h2) fun t4 h5 y6=>
 wK (oBsl true none 1 (.int .i64 0) [(0,v0)] h5) fun t7 h8 y9=>
 NW C gl (.loop q3) ⟨[(1,v1),(5,t1),(6,t7)],h8,(y9 ++ (y6 ++ (y3 ++ x)))⟩ (blockN 0 (seqN C gl q4 K))
theorem E_q04s {C gl q3 q4 v0 v1 h x K} : NW C gl (P_q04s q3 q4) ⟨enter [v0,v1],h,x⟩ K = d_q04s C gl q3 q4 v0 v1 h x K:=by kernel_rfl
theorem e_q04s {C gl v0 v1 h x K} : NW C gl a_q04s.body ⟨enter [v0,v1],h,x⟩ K = d_q04s C gl p_q04s_k3 p_q04s_k4 v0 v1 h x K:=E_q04s
end Go.Am
end
section
/- The functions asv abstract code,and asv formulas over their values: printed by program out of the translation. -/
set_option linter.unusedVariables false
set_option maxRecDepth 100000
namespace Go.Am
def p_q050_k1 : ACode:=.pr [0,10,11,12] (.seq (rg [bN 13 .lss 12 11] [0,10,11,12,13])
(.seq (.cond 13 .skip
(.exit 0))
(.seq (.block 1 (.seq (rg [iA 14 (some 6) 10 12,
lD 15 (some 6) 14,
uO 4 (.alloc [.p (.int .i64 0),.p (.int .i64 0),.p (.int .i64 0),.p (.str []),.p (.str []),.p (.str [])]),
wO (.store (some 6) 4 15)] [0,4,10,11,12])
(.seq (.seq (rg [fA 16 0 none 4,
lD 17 none 16,
cL 18 f_q006 [17,(cI 1),(cI 10)]] [0,4,10,11,12,18])
(.cond 18 (.seq (rg [mV 2 (cI 4)] [2])
.ret)
.skip))
(.seq (rg [lD 20 (some 6) 4,
cL 21 f_q054 [20],
mV 19 21,
eX 22 19 0,
eX 23 19 1,
uO 5 (.alloc [.p (.int .i64 0),.p (.int .i64 0),.p (.int .i64 0),.p (.str []),.p (.str []),.p (.str [])]),
wO (.store (some 6) 5 22),
mV 6 23] [0,4,5,6,10,11,12])
(.block 2 (.seq (rg [mV 25 6,
bN 26 .neq 25 (cI 0),
mV 24 26] [0,4,5,6,10,11,12,24])
(.cond 24 (.seq (rg [mV 27 6,
mV 2 27] [2])
.ret)
(.seq (rg [lD 29 (some 6) 5,
fA 30 0 none 4,
lD 31 none 30,
uO 32 (.build [.p (.int .i64 0),.p (.int .i64 0),.p (.int .i64 0),.p (.str []),.p (.str []),.p (.str [])] [(0,1,31)]),
uO 33 (.eqa [0,0,0,2,2,2] true 29 32),
mV 28 33] [0,10,11,12,28])
(.cond 28 (.seq (rg [mV 2 (cI 3)] [2])
.ret)
.skip)))))))))
(rg [bN 34 .add 12 (cI 1),
mV 12 34] [0,10,11,12]))))
def p_q050_k2 : ACode:=.pr [0] (.seq (.seq (rg [mV 35 0,
cL 36 f_q055 [35,(.c (.nilp))],
uO 37 (.nilchk 36),
fA 38 37 none 37,
lD 39 none 38,
bN 40 .gtr 39 (cI 20000)] [40])
(.cond 40 (.seq (rg [mV 2 (cI 2)] [2])
.ret)
.skip))
(.seq (rg [mV 2 (cI 0)] [2])
.ret))
def P_q050 (q1 q2 : ACode) : ACode:=(.seq (rg [mV 2 (cI 0)] [0])
(.seq (.seq (rg [mV 7 0,
lN 8 7,
bN 9 .gtr 8 (cI 1000)] [0,9])
(.cond 9 (.seq (rg [mV 2 (cI 2)] [2])
.ret)
.skip))
(.seq (.seq (rg [mV 10 0,
lN 11 10,
mV 12 (cI 0)] [0,10,11,12])
(.block 0 (.loop (.scope q1))))
q2)))
def a_q050 : AFun:=⟨1,[.t 2],P_q050 p_q050_k1 p_q050_k2,false,false⟩
def P_q051 : ACode:=(.seq (rg [mV 2 (cI 0),
mV 3 (cI 0)] [0])
(.seq (.seq (rg [mV 5 0,
cL 6 f_q050 [5],
mV 4 6] [0,4])
(.seq (rg [mV 7 4,
bN 8 .neq 7 (cI 0)] [0,4,8])
(.cond 8 (.seq (rg [mV 9 4,
mV 2 (cI 0),
mV 3 9] [2,3])
.ret)
.skip)))
(.seq (rg [mV 10 0,
cL 11 f_q055 [10,(.c (.nilp))],
uO 12 (.nilchk 11),
fA 13 37 none 12,
lD 14 none 13,
mV 2 14,
mV 3 (cI 0)] [2,3])
.ret)))
def a_q051 : AFun:=⟨1,[.t 2,.t 3],P_q051,false,false⟩
def P_q052 : ACode:=(.seq (rg [mV 2 cF] [0])
(.seq (rg [mV 3 0,
bN 4 .eql 3 (cI 7),
mV 5 4,
gD 6 5 false (.mv 0),
gD 7 5 false (.bin .eql 6 (cI 8)),
uO 8 (.pick 5 cT 7),
mV 2 8] [2])
.ret))
def a_q052 : AFun:=⟨1,[.t 2],P_q052,false,false⟩
def P_q053 : ACode:=(.seq (rg [mV 2 cF] [0])
(.seq (rg [mV 3 0,
cL 4 f_q006 [3,(cI 1),(cI 6)],
uO 5 (.un .not 4),
mV 2 5] [2])
.ret))
def a_q053 : AFun:=⟨1,[.t 2],P_q053,false,false⟩
def p_q054_k1 : ACode:=.pr [2,4] (.seq (rg [lD 56 (some 6) 4,
wO (.store (some 6) 2 56),
mV 3 (cI 0)] [2,3])
.ret)
def P_q054 (q1 : ACode) : ACode:=(.seq (rg [uO 1 (.box 0),
uO 2 (.alloc [.p (.int .i64 0),.p (.int .i64 0),.p (.int .i64 0),.p (.str []),.p (.str []),.p (.str [])]),
mV 3 (cI 0)] [1,2])
(.seq (rg [lD 5 (some 6) 1,
uO 4 (.alloc [.p (.int .i64 0),.p (.int .i64 0),.p (.int .i64 0),.p (.str []),.p (.str []),.p (.str [])]),
wO (.store (some 6) 4 5)] [1,2,4])
(.seq (.block 0 (.seq (rg [fA 18 0 none 1,
lD 19 none 18,
bN 20 .eql 19 (cI 1),
mV 21 20,
gD 22 21 false (.faddr 0 none 1),
gD 23 21 false (.load none 22),
gD 24 21 false (.bin .eql 23 (cI 2)),
uO 25 (.pick 21 cT 24),
mV 26 25,
gD 27 26 false (.faddr 0 none 1),
gD 28 26 false (.load none 27),
gD 29 26 false (.bin .eql 28 (cI 10)),
uO 30 (.pick 26 cT 29),
mV 17 30] [1,2,4,17])
(.cond 17 (.seq (rg [fA 31 1 none 4,
wO (.store none 31 (cI 0))] [1,2,4])
(.seq (rg [fA 32 1 none 1,
lD 33 none 32,
cL 34 f_q05c [33],
uO 35 (.un .not 34)] [2,4,35])
(.cond 35 (.seq (rg [lD 36 (some 6) 4,
wO (.store (some 6) 2 36),
mV 3 (cI 1)] [2,3])
.ret)
.skip)))
(.seq (rg [fA 38 0 none 1,
lD 39 none 38,
bN 40 .eql 39 (cI 9),
mV 37 40] [1,2,4,37])
(.cond 37 (.seq (rg [fA 41 2 none 4,
wO (.store none 41 (cI 0))] [1,2,4])
(.seq (rg [fA 42 2 none 1,
lD 43 none 42,
cL 44 f_q006 [43,(cI 0),(cI 20000)]] [2,4,44])
(.cond 44 (.seq (rg [lD 45 (some 6) 4,
wO (.store (some 6) 2 45),
mV 3 (cI 1)] [2,3])
.ret)
.skip)))
(.seq (rg [fA 47 0 none 1,
lD 48 none 47,
cL 49 f_q052 [48],
mV 46 49] [1,2,4,46])
(.cond 46 (.seq (rg [fA 50 3 none 4,
wO (.store none 50 (cS [])),
fA 51 4 none 4,
wO (.store none 51 (cS [])),
fA 52 5 none 4,
wO (.store none 52 (cS []))] [1,2,4])
(.seq (dr [dF (lD 53 (some 6) 4) [4],
dF (lD 54 (some 6) 1) [1],
dA (cL 55 f_q05a [54]) [54] true [] [0],
dT (wO (.store (some 6) 2 53)) [2,53],
dF (mV 3 55) [55]] [2,3])
.ret))
(.seq (rg [fA 6 3 none 4,
wO (.store none 6 (cS []))] [1,2,4])
(.seq (.seq (rg [fA 7 3 none 1,
lD 8 none 7,
cL 9 f_q000 [8],
uO 10 (.un .not 9)] [1,2,4,10])
(.cond 10 (.seq (rg [lD 11 (some 6) 4,
wO (.store (some 6) 2 11),
mV 3 (cI 9)] [2,3])
.ret)
.skip))
(.seq (rg [fA 12 3 none 1,
lD 13 none 12,
uO 14 (.lens 13),
bN 15 .gtr 14 (cI 2000)] [2,4,15])
(.cond 15 (.seq (rg [lD 16 (some 6) 4,
wO (.store (some 6) 2 16),
mV 3 (cI 2)] [2,3])
.ret)
.skip)))))))))))
q1)))
def a_q054 : AFun:=⟨1,[.cell 2 (some 6),.t 3],P_q054 p_q054_k1,false,false⟩
def p_q055_k1 : ACode:=.pr [5,13,14,15] (.seq (rg [bN 16 .lss 15 14] [5,13,14,15,16])
(.seq (.cond 16 .skip
(.exit 0))
(.seq (.block 1 (.seq (rg [iA 17 (some 6) 13 15,
lD 18 (some 6) 17,
uO 7 (.alloc [.p (.int .i64 0),.p (.int .i64 0),.p (.int .i64 0),.p (.str []),.p (.str []),.p (.str [])]),
wO (.store (some 6) 7 18)] [5,7,13,14,15])
(.seq (.seq (rg [mV 19 5,
uO 20 (.nilchk 19),
fA 21 37 none 20,
lD 22 none 21,
bN 23 .gtr 22 (cI 20000)] [5,7,13,14,15,23])
(.cond 23 (.exit 0)
.skip))
(rg [mV 24 5,
lD 25 (some 6) 7,
cL 26 f_q058 [24,25]] [5,13,14,15]))))
(rg [bN 27 .add 15 (cI 1),
mV 15 27] [5,13,14,15]))))
def p_q055_k2 : ACode:=.pr [5] (.seq (rg [mV 28 5,
mV 4 28] [4])
.ret)
def P_q055 (q1 q2 : ACode) : ACode:=(.seq (rg [mV 4 (.c (.nilp))] [0,1])
(.seq (rg [cL 8 f_q05d [],
mV 9 1,
uO 10 (.isnil 0 true 9),
uO 11 (.build [.p (.int .i64 0),.p (.int .i64 0),.p (.int .i64 0),.p (.str []),.p (.str []),.p (.str []),.p (.int .i64 0),.p (.int .i64 0),.p (.int .i64 0),.p (.str []),.p (.str []),.p (.str []),.p (.int .i64 0),.p (.int .i64 0),.p (.int .i64 0),.p (.str []),.p (.str []),.p (.str []),.p (.int .i64 0),.p (.int .i64 0),.p (.int .i64 0),.p (.str []),.p (.str []),.p (.str []),.p (.int .i64 0),.p (.int .i64 0),.p (.int .i64 0),.p (.str []),.p (.str []),.p (.str []),.p (.int .i64 0),.p (.int .i64 0),.p (.int .i64 0),.p (.str []),.p (.str []),.p (.str []),.p (.int .i64 0),.p (.int .i64 0),.p (.int .i64 0),.p (.int .i64 0),.sl0 none,.sl0 none,.sl0 none,.sl0 none,.sl0 none,.p (.bool false)] [(0,36,8),(36,1,(cI 0)),(45,1,10)]),
uO 12 (.box 11),
mV 5 12] [0,5])
(.seq (.seq (rg [mV 13 0,
lN 14 13,
mV 15 (cI 0)] [5,13,14,15])
(.block 0 (.loop (.scope q1))))
q2)))
def a_q055 : AFun:=⟨2,[.t 4],P_q055 p_q055_k1 p_q055_k2,false,false⟩
def P_q056 : ACode:=(.seq (rg [mV 8 0,
uO 9 (.nilchk 8),
fA 10 37 none 9,
lD 11 none 10,
bN 12 .add 11 (cI 1),
uO 13 (.nilchk 8),
fA 14 37 none 13,
wO (.store none 14 12)] [0,1,2,3])
(.seq (rg [mV 15 0,
uO 16 (.nilchk 15),
fA 17 45 none 16,
lD 18 none 17] [0,1,2,3,18])
(.cond 18 (dr [dF (mV 19 0) [0],
dF (mV 20 0) [0],
dF (mV 21 0) [0],
dF (mV 22 0) [0],
dF (uO 23 (.nilchk 22)) [22],
dF (fA 24 42 none 23) [23],
dF (lD 25 none 24) [24],
dF (mV 26 1) [1],
dF (uO 27 (.bsl false none 1 (.int .u8 0) [(0,26)])) [26],
dT (uO 28 (.app none 25 27)) [25,27],
dF (mV 29 0) [0],
dF (uO 30 (.nilchk 29)) [29],
dF (fA 31 43 none 30) [30],
dA (lD 32 none 31) [31] false [9] [],
dF (mV 33 2) [2],
dA (uO 34 (.bsl false none 1 (.int .u8 0) [(0,33)])) [33] false [9] [],
dT (uO 35 (.app none 32 34)) [32,34],
dF (mV 36 0) [0],
dF (uO 37 (.nilchk 36)) [36],
dF (fA 38 44 none 37) [37],
dA (lD 39 none 38) [38] false [9,16] [],
dF (mV 40 3) [3],
dA (uO 41 (.bsl false none 1 (.int .u8 0) [(0,40)])) [40] false [9,16] [],
dT (uO 42 (.app none 39 41)) [39,41],
dF (uO 43 (.nilchk 19)) [19],
dF (fA 44 42 none 43) [43],
dT (wO (.store none 44 28)) [44,28],
dF (uO 45 (.nilchk 20)) [20],
dF (fA 46 43 none 45) [45],
dT (wO (.store none 46 35)) [46,35],
dF (uO 47 (.nilchk 21)) [21],
dF (fA 48 44 none 47) [47],
dT (wO (.store none 48 42)) [48,42]] [])
.skip)))
def a_q056 : AFun:=⟨4,[],P_q056,false,false⟩
def p_q057_k1 : ACode:=.pr [0,3,5,7,9,10,11,12,13,14,93,94] (rg [mV 126 0,
mV 127 13,
mV 128 10,
mV 129 12,
uO 130 (.idxs 128 129),
mV 131 14,
cL 132 f_q056 [126,127,130,131]] [0,3,5,7,9,10,11,93,94])
def P_q057_k2 (q1 : ACode) : ACode:=.pr [0,3,5,7,9,10,11,12,13,14,93,94] (.seq (.seq (rg [mV 102 12,
mV 103 5,
uO 104 (.lens 103),
bN 105 .sub 102 104,
mV 15 105] [0,3,5,7,9,10,11,12,13,14,15,93,94])
(.seq (rg [mV 106 15,
bN 107 .geq 106 (cI 0),
mV 108 107,
gD 109 108 true (.mv 15),
gD 110 108 true (.faddr 5 none 3),
gD 111 108 true (.load none 110),
gD 112 108 true (.lens 111),
gD 113 108 true (.bin .lss 109 112),
uO 114 (.pick 108 113 cF),
mV 115 114,
gD 116 115 true (.faddr 5 none 3),
gD 117 115 true (.load none 116),
gD 118 115 true (.mv 15),
gD 119 115 true (.idxs 117 118),
gD 120 115 true (.bin .eql 119 (.c (.p (.int .u8 49)))),
uO 121 (.pick 115 120 cF)] [0,3,5,7,9,10,11,12,13,14,15,93,94,121])
(.cond 121 (rg [fA 122 4 none 3,
lD 123 none 122,
mV 124 15,
uO 125 (.idxs 123 124),
mV 14 125] [0,3,5,7,9,10,11,12,13,14,93,94])
.skip)))
q1)
def p_q057_k2 : ACode:=P_q057_k2 p_q057_k1
def p_q057_k3 : ACode:=.pr [0,3,5,7,9,10,11,93,94] (rg [bN 133 .add 94 (cI 1),
mV 94 133] [0,3,5,7,9,10,11,93,94])
def P_q057_k4 (q2 q3 : ACode) : ACode:=.pr [0,3,5,7,9,10,11,93,94] (.seq (rg [bN 95 .lss 94 93] [0,3,5,7,9,10,11,93,94,95])
(.seq (.cond 95 .skip
(.exit 0))
(.seq (.block 1 (.seq (rg [mV 96 94,
mV 12 96] [0,3,5,7,9,10,11,12,93,94])
(.seq (rg [mV 13 (.c (.p (.int .u8 48))),
mV 14 (.c (.p (.int .u8 120)))] [0,3,5,7,9,10,11,12,13,14,93,94])
(.seq (.seq (rg [mV 97 12,
mV 98 10,
uO 99 (.lens 98),
bN 100 .sub 99 (cI 1),
bN 101 .eql 97 100] [0,3,5,7,9,10,11,12,13,14,93,94,101])
(.cond 101 (rg [mV 13 (.c (.p (.int .u8 49)))] [0,3,5,7,9,10,11,12,13,14,93,94])
.skip))
q2))))
q3)))
def p_q057_k4 : ACode:=P_q057_k4 p_q057_k2 p_q057_k3
def p_q057_k5 : ACode:=.pr [0,7,9,11] (.seq (rg [mV 134 0,
mV 135 9,
uO 136 (.nilchk 134),
fA 137 36 none 136,
wO (.store none 137 135)] [0,7,11])
(.seq (rg [mV 138 0,
mV 139 7,
cL 140 f_q059 [138,139]] [11])
(.seq (rg [mV 141 11,
mV 4 141] [4])
.ret)))
def P_q057_k6 (q4 q5 : ACode) : ACode:=.pr [0,3,5,7,9,10] (.seq (rg [mV 85 0,
uO 86 (.nilchk 85),
fA 87 37 none 86,
lD 88 none 87,
mV 89 5,
uO 90 (.lens 89),
bN 91 .add 88 90,
mV 11 91] [0,3,5,7,9,10,11])
(.seq (.seq (rg [mV 92 10,
uO 93 (.lens 92),
mV 94 (cI 0)] [0,3,5,7,9,10,11,93,94])
(.block 0 (.loop q4)))
q5))
def p_q057_k6 : ACode:=P_q057_k6 p_q057_k4 p_q057_k5
def P_q057_k7 (q6 : ACode) : ACode:=.pr [0,3,5,6,7,8,9] (.seq (rg [mV 55 0,
mV 56 8,
cL 57 f_q059 [55,56]] [0,3,5,6,7,9])
(.seq (rg [mV 58 5,
fA 59 3 none 3,
lD 60 none 59,
bN 61 .add 58 60,
mV 62 6,
bN 63 .add 61 62,
mV 10 63] [0,3,5,7,9,10])
(.seq (.seq (rg [fA 64 0 none 3,
lD 65 none 64,
bN 66 .eql 65 (cI 7)] [0,3,5,7,9,10,66])
(.cond 66 (rg [mV 67 0,
uO 68 (.nilchk 67),
fA 69 38 none 68,
lD 70 none 69,
mV 71 10,
uO 72 (.lens 71),
bN 73 .add 70 72,
uO 74 (.nilchk 67),
fA 75 38 none 74,
wO (.store none 75 73)] [0,3,5,7,9,10])
(rg [mV 76 0,
uO 77 (.nilchk 76),
fA 78 39 none 77,
lD 79 none 78,
mV 80 10,
uO 81 (.lens 80),
bN 82 .add 79 81,
uO 83 (.nilchk 76),
fA 84 39 none 83,
wO (.store none 84 82)] [0,3,5,7,9,10])))
q6)))
def p_q057_k7 : ACode:=P_q057_k7 p_q057_k6
def P_q057 (q7 : ACode) : ACode:=(.seq (rg [uO 3 (.box 1),
mV 4 (cI 0)] [0,3])
(.seq (dr [dF (mV 16 0) [0],
dF (uO 17 (.nilchk 16)) [16],
dF (fA 18 0 (some 36) 17) [17],
dF (fA 19 24 (some 6) 18) [18],
dF (fA 20 3 none 19) [19],
dF (lD 21 none 20) [20],
dF (mV 22 0) [0],
dF (uO 23 (.nilchk 22)) [22],
dF (fA 24 0 (some 36) 23) [23],
dF (fA 25 30 (some 6) 24) [24],
dF (fA 26 3 none 25) [25],
dF (lD 27 none 26) [26],
dF (mV 28 0) [0],
dF (uO 29 (.nilchk 28)) [28],
dF (fA 30 0 (some 36) 29) [29],
dF (fA 31 6 (some 6) 30) [30],
dF (fA 32 1 none 31) [31],
dF (lD 33 none 32) [32],
dF (mV 5 21) [21],
dF (mV 6 27) [27],
dF (mV 7 33) [33],
dF (mV 8 (cI 4)) [],
dF (mV 9 (cI 5)) []] [0,3,5,6,7,8,9])
(.seq (.seq (rg [fA 34 0 none 3,
lD 35 none 34,
bN 36 .eql 35 (cI 7)] [0,3,5,6,7,8,9,36])
(.cond 36 (dr [dF (mV 37 0) [0],
dF (uO 38 (.nilchk 37)) [37],
dF (fA 39 0 (some 36) 38) [38],
dF (fA 40 12 (some 6) 39) [39],
dF (fA 41 3 none 40) [40],
dF (lD 42 none 41) [41],
dF (mV 43 0) [0],
dF (uO 44 (.nilchk 43)) [43],
dF (fA 45 0 (some 36) 44) [44],
dF (fA 46 18 (some 6) 45) [45],
dF (fA 47 3 none 46) [46],
dF (lD 48 none 47) [47],
dF (mV 49 0) [0],
dF (uO 50 (.nilchk 49)) [49],
dF (fA 51 0 (some 36) 50) [50],
dF (fA 52 0 (some 6) 51) [51],
dF (fA 53 1 none 52) [52],
dF (lD 54 none 53) [53],
dF (mV 5 42) [42],
dF (mV 6 48) [48],
dF (mV 7 54) [54],
dF (mV 8 (cI 11)) [],
dF (mV 9 (cI 12)) []] [0,3,5,6,7,8,9])
.skip))
q7)))
def a_q057 : AFun:=⟨2,[.t 4],P_q057 p_q057_k7,false,false⟩
def p_q058_k1 : ACode:=.pr [0,4,35,36] (.seq (rg [bN 37 .lss 36 35] [0,4,35,36,37])
(.seq (.cond 37 .skip
(.exit 1))
(.seq (.block 2 (rg [mV 38 0,
cL 39 f_q056 [38,(.c (.p (.int .u8 48))),(.c (.p (.int .u8 48))),(.c (.p (.int .u8 120)))]] [0,4,35,36]))
(rg [bN 40 .add 36 (cI 1),
mV 36 40] [0,4,35,36]))))
def p_q058_k2 : ACode:=.pr [0,4] (.seq (dr [dF (mV 41 0) [0],
dF (mV 42 0) [0],
dF (uO 43 (.nilchk 42)) [42],
dF (fA 44 40 none 43) [43],
dF (lD 45 none 44) [44],
dF (mV 46 0) [0],
dF (uO 47 (.nilchk 46)) [46],
dF (fA 48 36 none 47) [47],
dF (lD 49 none 48) [48],
dF (uO 50 (.bsl false none 1 (.int .i64 0) [(0,49)])) [49],
dT (uO 51 (.app none 45 50)) [45,50],
dF (uO 52 (.nilchk 41)) [41],
dF (fA 53 40 none 52) [52],
dT (wO (.store none 53 51)) [53,51]] [0,4])
(rg [mV 54 0,
mV 55 0,
uO 56 (.nilchk 55),
fA 57 41 none 56,
lD 58 none 57,
mV 59 4,
uO 60 (.bsl false none 1 (.int .i64 0) [(0,59)]),
uO 61 (.app none 58 60),
uO 62 (.nilchk 54),
fA 63 41 none 62,
wO (.store none 63 61)] []))
def P_q058 (q1 q2 : ACode) : ACode:=(.seq (rg [uO 3 (.box 1)] [0,3])
(.seq (rg [mV 4 (cI 0)] [0,3,4])
(.seq (.block 0 (.seq (rg [fA 10 0 none 3,
lD 11 none 10,
cL 12 f_q053 [11],
mV 9 12] [0,3,4,9])
(.cond 9 (dr [dF (mV 13 0) [0],
dF (uO 14 (.nilchk 13)) [13],
dF (fA 15 0 (some 36) 14) [14],
dF (fA 16 0 none 3) [3],
dF (lD 17 none 16) [16],
dT (cL 18 f_q05b [15,17]) [15,17],
dA (lD 19 (some 6) 3) [3] false [5] [],
dF (uO 20 (.nilchk 18)) [18],
dT (wO (.store (some 6) 20 19)) [20,19]] [0,4])
(.seq (rg [fA 22 0 none 3,
lD 23 none 22,
cL 24 f_q052 [23],
mV 21 24] [0,3,4,21])
(.cond 21 (rg [mV 25 0,
lD 26 (some 6) 3,
cL 27 f_q057 [25,26],
mV 4 27] [0,4])
(.seq (rg [fA 29 0 none 3,
lD 30 none 29,
bN 31 .eql 30 (cI 9),
mV 28 31] [0,3,4,28])
(.cond 28 (.seq (rg [mV 32 0,
cL 33 f_q059 [32,(cI 1)]] [0,3,4])
(.seq (rg [fA 34 2 none 3,
lD 35 none 34,
mV 36 (cI 0)] [0,4,35,36])
(.block 1 (.loop q1))))
(rg [mV 5 0,
fA 6 1 none 3,
lD 7 none 6,
cL 8 f_q059 [5,7]] [0,4]))))))))
q2)))
def a_q058 : AFun:=⟨2,[],P_q058 p_q058_k1 p_q058_k2,false,false⟩
def p_q059_k1 : ACode:=.pr [0,1,4,17,18] (.seq (rg [bN 19 .lss 18 17] [0,1,4,17,18,19])
(.seq (.cond 19 .skip
(.exit 0))
(.seq (.block 1 (.seq (rg [mV 20 18,
mV 6 20] [0,1,4,6,17,18])
(rg [mV 21 0,
mV 22 4,
mV 23 6,
uO 24 (.idxs 22 23),
cL 25 f_q056 [21,24,(.c (.p (.int .u8 48))),(.c (.p (.int .u8 120)))]] [0,1,4,17,18])))
(rg [bN 26 .add 18 (cI 1),
mV 18 26] [0,1,4,17,18]))))
def p_q059_k2 : ACode:=.pr [0,1] (rg [mV 27 0,
mV 28 1,
uO 29 (.nilchk 27),
fA 30 36 none 29,
wO (.store none 30 28)] [])
def P_q059 (q1 q2 : ACode) : ACode:=(.seq (rg [mV 8 0,
uO 9 (.nilchk 8),
fA 10 36 none 9,
lD 11 none 10,
mV 12 1,
cL 13 f_q04p [11,12],
mV 7 13,
eX 14 7 0,
eX 15 7 1,
mV 4 14,
mV 5 15] [0,1,4])
(.seq (.seq (rg [mV 16 4,
uO 17 (.lens 16),
mV 18 (cI 0)] [0,1,4,17,18])
(.block 0 (.loop q1)))
q2))
def a_q059 : AFun:=⟨2,[],P_q059 p_q059_k1 p_q059_k2,false,false⟩
def P_q05a : ACode:=(.seq (rg [uO 1 (.box 0),
mV 2 (cI 0)] [1])
(.seq (.block 0 (.seq (rg [fA 4 3 none 1,
lD 5 none 4,
bN 6 .eql 5 (cS []),
mV 3 6] [1,3])
(.cond 3 (.seq (rg [mV 2 (cI 8)] [2])
.ret)
(.seq (rg [fA 8 3 none 1,
lD 9 none 8,
cL 10 f_q000 [9],
uO 11 (.un .not 10),
mV 7 11] [1,7])
(.cond 7 (.seq (rg [mV 2 (cI 9)] [2])
.ret)
(.seq (rg [fA 13 3 none 1,
lD 14 none 13,
uO 15 (.lens 14),
bN 16 .gtr 15 (cI 2000),
mV 12 16] [1,12])
(.cond 12 (.seq (rg [mV 2 (cI 2)] [2])
.ret)
(.seq (rg [fA 18 4 none 1,
lD 19 none 18,
bN 20 .neq 19 (cS []),
mV 21 20,
gD 22 21 true (.faddr 4 none 1),
gD 23 21 true (.load none 22),
gD 24 21 true (.lens 23),
gD 25 21 true (.faddr 3 none 1),
gD 26 21 true (.load none 25),
gD 27 21 true (.lens 26),
gD 28 21 true (.bin .neq 24 27),
gD 29 21 true (.mv 28),
gD 30 29 false (.faddr 5 none 1),
gD 31 29 false (.load none 30),
gD 32 29 false (.lens 31),
gD 33 29 false (.faddr 3 none 1),
gD 34 29 false (.load none 33),
gD 35 29 false (.lens 34),
gD 36 29 false (.bin .neq 32 35),
gD 37 21 true (.pick 29 cT 36),
uO 38 (.pick 21 37 cF),
mV 17 38] [1,17])
(.cond 17 (.seq (rg [mV 2 (cI 3)] [2])
.ret)
(.seq (rg [fA 40 4 none 1,
lD 41 none 40,
cL 42 f_q000 [41],
uO 43 (.un .not 42),
mV 44 43,
gD 45 44 false (.faddr 5 none 1),
gD 46 44 false (.load none 45),
gD 47 44 false (.call f_q000 [46]),
gD 48 44 false (.un .not 47),
uO 49 (.pick 44 cT 48),
mV 39 49] [1,39])
(.cond 39 (.seq (rg [mV 2 (cI 9)] [2])
.ret)
(.seq (rg [fA 51 4 none 1,
lD 52 none 51,
bN 53 .eql 52 (cS []),
mV 54 53,
gD 55 54 true (.faddr 5 none 1),
gD 56 54 true (.load none 55),
gD 57 54 true (.bin .neq 56 (cS [])),
uO 58 (.pick 54 57 cF),
mV 50 58] [50])
(.cond 50 (.seq (rg [mV 2 (cI 3)] [2])
.ret)
.skip)))))))))))))
(.seq (rg [mV 2 (cI 0)] [2])
.ret)))
def a_q05a : AFun:=⟨1,[.t 2],P_q05a,false,false⟩
def P_q05b : ACode:=(.seq (rg [mV 4 (.c (.nilp))] [0,1])
(.seq (.seq (rg [mV 5 1] [0,5])
(.block 0 (.seq (rg [bN 7 .eql 5 (cI 1),
mV 6 7] [0,5,6])
(.cond 6 (.seq (rg [mV 8 0,
uO 9 (.nilchk 8),
fA 10 0 (some 6) 9,
mV 4 10] [4])
.ret)
(.seq (rg [bN 12 .eql 5 (cI 2),
mV 11 12] [0,5,11])
(.cond 11 (.seq (rg [mV 13 0,
uO 14 (.nilchk 13),
fA 15 6 (some 6) 14,
mV 4 15] [4])
.ret)
(.seq (rg [bN 17 .eql 5 (cI 3),
mV 16 17] [0,5,16])
(.cond 16 (.seq (rg [mV 18 0,
uO 19 (.nilchk 18),
fA 20 12 (some 6) 19,
mV 4 20] [4])
.ret)
(.seq (rg [bN 22 .eql 5 (cI 4),
mV 21 22] [0,5,21])
(.cond 21 (.seq (rg [mV 23 0,
uO 24 (.nilchk 23),
fA 25 18 (some 6) 24,
mV 4 25] [4])
.ret)
(.seq (rg [bN 27 .eql 5 (cI 5),
mV 26 27] [0,26])
(.cond 26 (.seq (rg [mV 28 0,
uO 29 (.nilchk 28),
fA 30 24 (some 6) 29,
mV 4 30] [4])
.ret)
.skip))))))))))))
(.seq (rg [mV 31 0,
uO 32 (.nilchk 31),
fA 33 30 (some 6) 32,
mV 4 33] [4])
.ret)))
def a_q05b : AFun:=⟨2,[.t 4],P_q05b,false,false⟩
def P_q05c : ACode:=(.seq (rg [mV 2 cF] [0])
(.seq (rg [mV 3 0,
bN 4 .eql 3 (cI 0),
mV 5 4,
gD 6 5 false (.mv 0),
gD 7 5 false (.bin .eql 6 (cI 1)),
uO 8 (.pick 5 cT 7),
mV 9 8,
gD 10 9 false (.mv 0),
gD 11 9 false (.bin .eql 10 (cI 6)),
uO 12 (.pick 9 cT 11),
mV 13 12,
gD 14 13 false (.mv 0),
gD 15 13 false (.bin .eql 14 (cI 13)),
uO 16 (.pick 13 cT 15),
mV 2 16] [2])
.ret))
def a_q05c : AFun:=⟨1,[.t 2],P_q05c,false,false⟩
def P_q05d : ACode:=(.seq (rg [uO 0 (.alloc [.p (.int .i64 0),.p (.int .i64 0),.p (.int .i64 0),.p (.str []),.p (.str []),.p (.str []),.p (.int .i64 0),.p (.int .i64 0),.p (.int .i64 0),.p (.str []),.p (.str []),.p (.str []),.p (.int .i64 0),.p (.int .i64 0),.p (.int .i64 0),.p (.str []),.p (.str []),.p (.str []),.p (.int .i64 0),.p (.int .i64 0),.p (.int .i64 0),.p (.str []),.p (.str []),.p (.str []),.p (.int .i64 0),.p (.int .i64 0),.p (.int .i64 0),.p (.str []),.p (.str []),.p (.str []),.p (.int .i64 0),.p (.int .i64 0),.p (.int .i64 0),.p (.str []),.p (.str []),.p (.str [])])] [0])
(.seq (rg [uO 1 (.build [.p (.int .i64 0),.p (.int .i64 0),.p (.int .i64 0),.p (.str []),.p (.str []),.p (.str [])] [(0,1,(cI 1)),(1,1,(cI 1))]),
uO 2 (.build [.p (.int .i64 0),.p (.int .i64 0),.p (.int .i64 0),.p (.str []),.p (.str []),.p (.str [])] [(0,1,(cI 2)),(1,1,(cI 1))]),
uO 3 (.build [.p (.int .i64 0),.p (.int .i64 0),.p (.int .i64 0),.p (.str []),.p (.str []),.p (.str [])] [(0,1,(cI 3))]),
uO 4 (.build [.p (.int .i64 0),.p (.int .i64 0),.p (.int .i64 0),.p (.str []),.p (.str []),.p (.str [])] [(0,1,(cI 4))]),
uO 5 (.build [.p (.int .i64 0),.p (.int .i64 0),.p (.int .i64 0),.p (.str []),.p (.str []),.p (.str [])] [(0,1,(cI 5))]),
uO 6 (.build [.p (.int .i64 0),.p (.int .i64 0),.p (.int .i64 0),.p (.str []),.p (.str []),.p (.str [])] [(0,1,(cI 6))]),
uO 7 (.build [.p (.int .i64 0),.p (.int .i64 0),.p (.int .i64 0),.p (.str []),.p (.str []),.p (.str []),.p (.int .i64 0),.p (.int .i64 0),.p (.int .i64 0),.p (.str []),.p (.str []),.p (.str []),.p (.int .i64 0),.p (.int .i64 0),.p (.int .i64 0),.p (.str []),.p (.str []),.p (.str []),.p (.int .i64 0),.p (.int .i64 0),.p (.int .i64 0),.p (.str []),.p (.str []),.p (.str []),.p (.int .i64 0),.p (.int .i64 0),.p (.int .i64 0),.p (.str []),.p (.str []),.p (.str []),.p (.int .i64 0),.p (.int .i64 0),.p (.int .i64 0),.p (.str []),.p (.str []),.p (.str [])] [(0,6,1),(6,6,2),(12,6,3),(18,6,4),(24,6,5),(30,6,6)]),
wO (.store (some 36) 0 7)] [0])
.ret))
def a_q05d : AFun:=⟨0,[.cell 0 (some 36)],P_q05d,false,false⟩
end Go.Am
end
section
/- The abstract machine,part L: functions of the library that are met by the kit's contracts: plain values in,plain values out,new memory at most. -/
set_option linter.unusedSimpArgs false
set_option linter.unusedVariables false
namespace Go.Am
variable {P : Program} {gl : Nat → Option PV}
structure PureRow (P : Program) (gl : Nat → Option PV) (f : Nat) (spec : List PV → Option AV) : Prop where
  enter : ∀ us w,(callFunc f us).run P w = .ok (.enter f us) w
  run : ∀ (M : Mem) (w : World) (vs : List PV) (r : AV) (us : List Value),(∀ b o v,M.c b o = some v → w.cell? ⟨b,o,none⟩ = some v) → (∀ b o,M.b b = some o → w.heap[b]? = some o) → GInv gl M → vs.length = us.length →
    (∀ (j : Nat) (y : PV) (v : Value),vs[j]? = some y → us[j]? = some v → RPV M y v) → spec vs = some r →
    Calls P f us.toArray w fun e w'=>∃ x,e = .returned x ∧ WExt w w' ∧ RAV (ExtM M w w') [] [] r x
abbrev PureT:=List (Nat × (List PV → Option AV))
def pureF : PureT → Nat → List AV → Heap → Option (AV × Heap × Esc)
  | [],_,_,_=>none
  | (g,s) :: r,f,asv,h=>bif Nat.beq f g then ((unp asv).bind s).map fun v=>(v,h,[]) else pureF r f asv h
theorem pureF_ok : ∀ (gs : PureT),(∀ g s,(g,s) ∈ gs → PureRow P gl g s) → ∀ {f : Nat} {asv : List AV} {h : Heap} {v : AV} {h' : Heap} {x : Esc},pureF gs f asv h = some (v,h',x) →
    CallOk P gl f asv h fun v1 h1 x1=>v1 = v ∧ h1 = h' ∧ x1 = x
  | [],_,f,asv,h,v,h',x,H=>by cases H
  | (g,s) :: r,hg,f,asv,h,v,h',x,H=>by
    unfold pureF at H
    cases e1 : Nat.beq f g with
    | false=>
      rw [e1] at H
      exact pureF_ok r (fun g sh hm=>hg g sh (by simp [hm])) H
    | true=>
      rw [e1] at H
      have e:=Nat.eq_of_beq_eq_true e1
      subst e
      have R:=hg f s (by simp)
      simp only [cond_true] at H
      obtain ⟨y,hy,e2⟩:=Option.map_eq_some_iff.1 H
      simp only [Prod.mk.injEq] at e2
      obtain ⟨rfl,rfl,rfl⟩:=e2
      obtain ⟨ps,hps,hs⟩:=Option.bind_eq_some_iff.1 hy
      have hm:=unp_spec hps
      subst hm
      intro μ w vs Hh Hg hl hr
      refine .inl ⟨R.enter _,?_⟩
      refine (R.run (imm h μ w) w ps y vs (fun b o v hv=>(imm_some.1 hv).2) (fun b o hv=>(imm_blk.1 hv).2) Hg (by simpa using hl) (fun j q v hq hv=>(hr j (.p q) v (by simp [hq]) hv).p_inv) hs).mono fun e w' he=>?_
      obtain ⟨u,rfl,g1,g2⟩:=he
      obtain ⟨n1,n2⟩:=Hh.ext g1
      have Lq : (ExtM (imm h μ w) w w').le (imm h μ w'):=by
        refine ⟨fun b o v hv=>?_,fun b o hv=>?_,rfl⟩
        · dsimp only [ExtM] at hv
          split at hv
          · exact n2.le.c _ _ _ hv
          · rename_i hb
            exact imm_some.2 ⟨fun hO=>hb (owned_lt Hh hO),hv⟩
        · dsimp only [ExtM] at hv
          cases hv
      exact ⟨_,_,_,μ,⟨rfl,rfl,rfl⟩,g2.evo ⟨Lq,Nat.zero_le _,fun id o m h1=>by simp at h1⟩,n1,n2,EscInv.refl h []⟩
def libF (gs : List (Nat × Sh)) (ps : PureT) (f : Nat) (asv : List AV) (h : Heap) : Option (AV × Heap × Esc):=match growF gs f asv h with
  | some y=>some y
  | none=>pureF ps f asv h
theorem libF_ok {gs : List (Nat × Sh)} {ps : PureT} (hg : ∀ g sh,(g,sh) ∈ gs → GrowRow P g sh) (hp : ∀ g s,(g,s) ∈ ps → PureRow P gl g s) {f : Nat} {asv : List AV} {h : Heap} {v : AV} {h' : Heap} {x : Esc} (H : libF gs ps f asv h = some (v,h',x)) :
    CallOk P gl f asv h fun v1 h1 x1=>v1 = v ∧ h1 = h' ∧ x1 = x:=by
  unfold libF at H
  split at H
  · rename_i y hy
    cases H
    exact growF_ok gs hg hy
  · exact pureF_ok ps hp H
theorem lib_call {X : Ctx} {f : Nat} {asv : List AV} {h h' : Heap} {v : AV} {x : Esc} {K : Post} (hf : X.fn f = none) (hx : X.ex2 f asv h = some (v,h',x)) : ACall X f asv h K = K v h' x:=by
  refine propext (ACall.eq (ACall.fold ?_) K)
  unfold Step
  simp only [hf,hx]
  exact ⟨trivial,trivial,trivial⟩
def growSh : List (Nat × Sh) → Nat → Option Sh
  | [],_=>none
  | (g,s) :: r,f=>bif Nat.beq f g then some s else growSh r f
theorem growF_miss : ∀ {gs : List (Nat × Sh)} {f : Nat} {asv : List AV} {h : Heap},growSh gs f = none → growF gs f asv h = none
  | [],f,asv,h,_=>rfl
  | (g,s) :: r,f,asv,h,hm=>by
    unfold growSh at hm
    unfold growF
    cases hq : Nat.beq f g with
    | true=>rw [hq] at hm; cases hm
    | false=>rw [hq] at hm; exact growF_miss hm
def pureSp : PureT → Nat → Option (List PV → Option AV)
  | [],_=>none
  | (g,s) :: r,f=>bif Nat.beq f g then some s else pureSp r f
theorem pureF_hit : ∀ {gs : PureT} {f : Nat} {s : List PV → Option AV} {asv : List AV} {h : Heap},pureSp gs f = some s → pureF gs f asv h = ((unp asv).bind s).map fun v=>(v,h,[])
  | [],f,s,asv,h,hm=>by cases hm
  | (g,s') :: r,f,s,asv,h,hm=>by
    unfold pureSp at hm
    unfold pureF
    cases hq : Nat.beq f g with
    | true=>rw [hq] at hm; cases hm; rfl
    | false=>rw [hq] at hm; exact pureF_hit hm
theorem libF_pure {gs : List (Nat × Sh)} {ps : PureT} {f : Nat} {s : List PV → Option AV} {asv : List AV} {vs : List PV} {v : AV} {h : Heap} (hg : growSh gs f = none) (hm : pureSp ps f = some s) (hu : unp asv = some vs) (hv : s vs = some v) : libF gs ps f asv h = some (v,h,[]):=by
  unfold libF; rw [growF_miss hg,pureF_hit hm,hu]; simp [hv]
def glOf : List (Nat × PV) → Nat → Option PV
  | [],_=>none
  | (g,v) :: r,n=>bif Nat.beq n g then some v else glOf r n
theorem enters_chk {f : Nat} (h : (match P.funcs[f]? with | some fn=>fn.body.isSome && fn.name != "runtime.NumGoroutine" | none=>false) = true) (us : Array Value) (w : World) : (callFunc f us).run P w = .ok (.enter f us) w:=by
  cases hf : P.funcs[f]? with
  | none=>rw [hf] at h; cases h
  | some fn=>
    rw [hf] at h
    simp only [Bool.and_eq_true,bne_iff_ne,ne_eq] at h
    cases hb : fn.body with
    | none=>rw [hb] at h; cases h.1
    | some c=>exact enters hf hb h.2 us w
theorem ginv_none {M : Mem} : GInv (glOf []) M:=fun n v hv=>by cases hv
def repL (s : List UInt8) : Nat → List UInt8
  | 0=>[]
  | c + 1=>s ++ repL s c
def repeatS : List PV → Option AV
  | [.str s,.int .i64 c]=>if 0 ≤ c ∧ s.length * c.toNat ≤ 1000000 ∧ c ≤ 1000000 then some (.p (.str (repL s c.toNat))) else none
  | _=>none
def trimL (s cs : List UInt8) : List UInt8:=(s.reverse.dropWhile (cs.contains ·)).reverse.dropWhile (cs.contains ·)
def trimS : List PV → Option AV
  | [.str s,.str cs]=>if s.length ≤ 1000000 ∧ cs.length ≤ 1000 ∧ cs.all (fun b=>decide (b.toNat < 128)) = true then some (.p (.str (trimL s cs))) else none
  | _=>none
end Go.Am
end
section
/- The abstract machine,part C: closed calls that say true,asv contracts. -/
set_option linter.all false
namespace Go.Am
variable {P : Program} {gl : Nat → Option PV}
def trueS : List PV → Option AV
  | []=>some (AB true)
  | _=>none
theorem RPV.mono' {M M' : Mem} (hM : ∀ b o v,M.c b o = some v → M'.c b o = some v) {v : PV} {x : Value} (H : RPV M v x) : RPV M' v x:=by
  induction H with
  | int k n=>exact .int k n
  | bool b=>exact .bool b
  | str s=>exact .str s
  | nilp=>exact .nilp
  | unk k n=>exact .unk k n
  | nils sh a cap=>exact .nils sh a cap
  | sl sh xs b o cap f hne hc he hm hr ih=>exact .sl sh xs b o cap f hne hc he (fun j y hy=>hM _ _ _ (hm j y hy)) ih
  | agg cs vs hl hr ih=>exact .agg cs vs hl ih
theorem GInv.mono' {M M' : Mem} (hc : ∀ b o v,M.c b o = some v → M'.c b o = some v) (hb : ∀ b o,M.b b = some o → M'.b b = some o) (H : GInv gl M) : GInv gl M':=fun n v hv=>by
  obtain ⟨h1,cs,t,x,h2,h3⟩:=H n v hv
  refine ⟨?_,cs,t,x,hb _ _ h2,h3⟩
  cases h1 with | vp _ _ _ f hm hr=>exact .vp v n 0 f (fun j y hy=>hc _ _ _ (hm j y hy)) (fun j y hy=>(hr j y hy).mono' hc)
theorem pureRow_closed {X : Ctx} (HX : Fits P X) {f : Nat} (H : ACall X f [] [] fun v h x=>v = AB true ∧ h = [] ∧ x = []) (he : ∀ us w,(callFunc f us).run P w = .ok (.enter f us) w) : PureRow P X.gl f trueS:=by
  refine ⟨he,fun M w vs r us hc hb hG hl hr hs=>?_⟩
  cases vs with
  | cons a l=>cases hs
  | nil=>
    have hu : us = []:=List.length_eq_zero_iff.1 (by simpa using hl.symm)
    subst hu
    simp only [trueS,Option.some.injEq] at hs
    subst hs
    have hno : ∀ b o,¬ Owned ([] : Heap) ([] : Mu) b o:=fun b o ⟨id,n,h1,_⟩=>by simp at h1
    have hnt : ∀ b,¬ Taken ([] : Mu) b:=fun b ⟨id,n,h1⟩=>by simp at h1
    have hG' : GInv X.gl (imm [] [] w):=hG.mono' (fun b o v h=>imm_some.2 ⟨hno b o,hc b o v h⟩) (fun b o h=>imm_blk.2 ⟨hnt b,hb b o h⟩)
    have hR : HeapRel [] [] w:=⟨rfl,fun id o m h1=>by simp at h1,fun i j b n n' h1=>by simp at h1,fun i b n h1=>by simp at h1⟩
    rcases call_sound HX H [] w [] hR hG' rfl (fun j y v h1=>by simp at h1) with ⟨_,q⟩ | ⟨r,w',v,h',x,μ',q,_⟩
    · refine q.mono fun e w' h => ?_
      cases e with
      | panicked _=>exact h.elim
      | outgrown=>exact h.elim
      | returned r=>
        obtain ⟨v,h',x,μ',⟨rfl,rfl,rfl⟩,h1,h2,h3,h4⟩:=h
        have hm : μ' = []:=List.length_eq_zero_iff.1 (by simpa using h2.len)
        subst hm
        have hbl : ∀ b o,w.heap[b]? = some o → w'.heap[b]? = some o:=fun b o h=>(imm_blk.1 (h3.le.b b o (imm_blk.2 ⟨hnt b,h⟩))).2
        refine ⟨r,rfl,⟨?_,fun b hb=>?_,?_⟩,?_⟩
        · rcases Nat.lt_or_ge w'.heap.size w.heap.size with q | q
          · have := hbl w'.heap.size _ (Array.getElem?_eq_getElem q)
            simp at this
          · exact q
        · rw [hbl b _ (Array.getElem?_eq_getElem hb),Array.getElem?_eq_getElem hb]
        · have := h3.le.z
          simpa [imm] using this
        · have := h1.p_bool
          rw [this]
          exact .p _ _ (.bool true)
    · rw [he] at q
      cases q
end Go.Am
end
section
/- The functions together. -/
set_option linter.unusedVariables false
set_option maxRecDepth 100000
namespace Go.Am
def fns : List (Nat × AFun):=[(f_q01t,a_q01t),(f_q022,a_q022),(f_q028,a_q028),(f_q010,a_q010),(f_q00x,a_q00x),(f_q02j,a_q02j),(f_q00w,a_q00w),(f_q00v,a_q00v),(f_q02a,a_q02a),(f_q027,a_q027),(f_q01u,a_q01u),(f_q02z,a_q02z),(f_q029,a_q029),(f_q02b,a_q02b),(f_q024,a_q024),(f_q025,a_q025),(f_q012,a_q012),(f_q015,a_q015),(f_q018,a_q018),(f_q017,a_q017),(f_q016,a_q016),(f_q02c,a_q02c),(f_q000,a_q000),(f_q006,a_q006),(f_q013,a_q013),(f_q036,a_q036),(f_q020,a_q020),(f_q02m,a_q02m),(f_q04d,a_q04d),(f_q01e,a_q01e)]
def GRL : List (Nat × Sh):=[]
def PRL : PureT:=[(f_q04f,repeatS),(f_q04g,trimS),(f_q01v,trueS)]
def GLL : List (Nat × PV):=[]
def fnOf : List (Nat × AFun) → Nat → Option AFun
  | [],_=>none
  | (k,F) :: r,n=>bif Nat.beq k n then some F else fnOf r n
def X : Ctx:=⟨fnOf fns,glOf GLL,extF f_internal_bytealg_IndexByteString f_internal_bytealg_abigen_runtime_cmpstring,libF GRL PRL⟩
theorem fnOf_all {p : Nat → AFun → Bool} : ∀ (l : List (Nat × AFun)),(l.all fun y=>p y.1 y.2) = true → ∀ n F,fnOf l n = some F → p n F = true
  | [],_,n,F,h=>by cases h
  | (k,G) :: r,ha,n,F,h=>by
    simp only [List.all_cons,Bool.and_eq_true] at ha
    simp only [fnOf] at h
    cases hk : Nat.beq k n with
    | true=>
      rw [hk] at h
      have:=Nat.eq_of_beq_eq_true hk
      simp only [cond_true,Option.some.injEq] at h
      subst this; subst h; exact ha.1
    | false=>
      rw [hk] at h
      exact fnOf_all r ha.2 n F h
def fns0 : List (Nat × AFun):=[(f_q010,a_q010),(f_q00x,a_q00x),(f_q00w,a_q00w),(f_q00v,a_q00v),(f_q01v,a_q01v),(f_q01u,a_q01u),(f_q02z,a_q02z),(f_q012,a_q012),(f_q015,a_q015),(f_q018,a_q018),(f_q017,a_q017),(f_q016,a_q016),(f_q02y,a_q02y),(f_q000,a_q000),(f_q006,a_q006),(f_q013,a_q013),(f_q00c,a_q00c),(f_q01w,a_q01w),(f_q051,a_q051),(f_q01f,a_q01f),(f_q03q,a_q03q),(f_q036,a_q036),(f_q034,a_q034),(f_q008,a_q008),(f_q00m,a_q00m),(f_q00n,a_q00n),(f_q050,a_q050),(f_q055,a_q055),(f_q01i,a_q01i),(f_q01h,a_q01h),(f_q002,a_q002),(f_q03u,a_q03u),(f_q004,a_q004),(f_q040,a_q040),(f_q043,a_q043),(f_q009,a_q009),(f_q00f,a_q00f),(f_q02w,a_q02w),(f_q054,a_q054),(f_q05d,a_q05d),(f_q058,a_q058),(f_q01j,a_q01j),(f_q01g,a_q01g),(f_q003,a_q003),(f_q001,a_q001),(f_q03p,a_q03p),(f_q03o,a_q03o),(f_q041,a_q041),(f_q03s,a_q03s),(f_q03z,a_q03z),(f_q00u,a_q00u),(f_q00g,a_q00g),(f_q00l,a_q00l),(f_q030,a_q030),(f_q00o,a_q00o),(f_q05c,a_q05c),(f_q052,a_q052),(f_q05a,a_q05a),(f_q053,a_q053),(f_q05b,a_q05b),(f_q057,a_q057),(f_q059,a_q059),(f_q056,a_q056),(f_q03t,a_q03t),(f_q03r,a_q03r),(f_q042,a_q042),(f_q005,a_q005),(f_q03y,a_q03y),(f_q03w,a_q03w),(f_q03x,a_q03x),(f_q00e,a_q00e),(f_q00k,a_q00k),(f_q02x,a_q02x),(f_q00h,a_q00h),(f_q00p,a_q00p),(f_q00d,a_q00d),(f_q037,a_q037),(f_q04p,a_q04p),(f_q00t,a_q00t),(f_q00r,a_q00r),(f_q04a,a_q04a),(f_q03v,a_q03v),(f_q033,a_q033),(f_q00i,a_q00i),(f_q00q,a_q00q),(f_q04q,a_q04q),(f_q04s,a_q04s),(f_q01b,a_q01b),(f_q02s,a_q02s),(f_q00j,a_q00j),(f_q04r,a_q04r)]
def PRL0 : PureT:=[(f_q04f,repeatS),(f_q04g,trimS)]
def X0 : Ctx:=⟨fnOf fns0,glOf GLL,extF f_internal_bytealg_IndexByteString f_internal_bytealg_abigen_runtime_cmpstring,libF GRL PRL0⟩
theorem x0_tap_path : X0.fn f_q04s = some a_q04s:=by kernel_rfl
theorem x0_tap_next : X0.fn f_q04r = some a_q04r:=by kernel_rfl
theorem X_noNext : X.NoNext:=fun f F h=>fnOf_all (p:=fun _ F=>F.isDet || F.body.noNext) fns (by kernel_rfl) f F h
theorem x_q01t : X.fn f_q01t = some a_q01t:=by kernel_rfl
theorem c_q01t {u0 v0 : AV} {h h1 : Heap} {P : Post} (hp : puras h [u0] = some ([v0],h1)) : ACall X f_q01t [u0] h P = d_q01t (ACall X) X.gl p_q01t_k3 p_q01t_k6 v0 h1 [] (finR [.t 2] false h.length P):=by rw [call_val x_q01t rfl hp rfl]; exact e_q01t
theorem x_q022 : X.fn f_q022 = some a_q022:=by kernel_rfl
theorem c_q022 {u0 v0 : AV} {h h1 : Heap} {P : Post} (hp : puras h [u0] = some ([v0],h1)) : ACall X f_q022 [u0] h P = d_q022 (ACall X) X.gl p_q022_k4 p_q022_k7 v0 h1 [] (finR [.t 2] false h.length P):=by rw [call_val x_q022 rfl hp rfl]; exact e_q022
theorem x_q028 : X.fn f_q028 = some a_q028:=by kernel_rfl
theorem c_q028 {u0 u1 v0 v1 : AV} {h h1 : Heap} {P : Post} (hp : puras h [u0,u1] = some ([v0,v1],h1)) : ACall X f_q028 [u0,u1] h P = d_q028 (ACall X) X.gl v0 v1 h1 [] (finR [.t 4] false h.length P):=by rw [call_val x_q028 rfl hp rfl]; exact e_q028
theorem x_q010 : X.fn f_q010 = some a_q010:=by kernel_rfl
theorem c_q010 {u0 u1 v0 v1 : AV} {h h1 : Heap} {P : Post} (hp : puras h [u0,u1] = some ([v0,v1],h1)) : ACall X f_q010 [u0,u1] h P = d_q010 (ACall X) X.gl v0 v1 h1 [] (finR [.t 4,.t 5] false h.length P):=by rw [call_val x_q010 rfl hp rfl]; exact e_q010
theorem x_q00x : X.fn f_q00x = some a_q00x:=by kernel_rfl
theorem c_q00x {u0 u1 v0 v1 : AV} {h h1 : Heap} {P : Post} (hp : puras h [u0,u1] = some ([v0,v1],h1)) : ACall X f_q00x [u0,u1] h P = d_q00x (ACall X) X.gl p_q00x_k1 p_q00x_k2 v0 v1 h1 [] (finR [.t 4,.t 5] false h.length P):=by rw [call_val x_q00x rfl hp rfl]; exact e_q00x
theorem x_q02j : X.fn f_q02j = some a_q02j:=by kernel_rfl
theorem c_q02j {u0 v0 : AV} {h h1 : Heap} {P : Post} (hp : puras h [u0] = some ([v0],h1)) : ACall X f_q02j [u0] h P = d_q02j (ACall X) X.gl p_q02j_k1 p_q02j_k2 v0 h1 [] (finR [.t 2] false h.length P):=by rw [call_val x_q02j rfl hp rfl]; exact e_q02j
theorem x_q00w : X.fn f_q00w = some a_q00w:=by kernel_rfl
theorem c_q00w {u0 v0 : AV} {h h1 : Heap} {P : Post} (hp : puras h [u0] = some ([v0],h1)) : ACall X f_q00w [u0] h P = d_q00w (ACall X) X.gl p_q00w_k1 p_q00w_k2 v0 h1 [] (finR [.t 2] false h.length P):=by rw [call_val x_q00w rfl hp rfl]; exact e_q00w
theorem x_q00v : X.fn f_q00v = some a_q00v:=by kernel_rfl
theorem c_q00v {u0 u1 v0 v1 : AV} {h h1 : Heap} {P : Post} (hp : puras h [u0,u1] = some ([v0,v1],h1)) : ACall X f_q00v [u0,u1] h P = d_q00v (ACall X) X.gl p_q00v_k1 p_q00v_k5 v0 v1 h1 [] (finR [.t 4] false h.length P):=by rw [call_val x_q00v rfl hp rfl]; exact e_q00v
theorem x_q02a : X.fn f_q02a = some a_q02a:=by kernel_rfl
theorem c_q02a {u0 v0 : AV} {h h1 : Heap} {P : Post} (hp : puras h [u0] = some ([v0],h1)) : ACall X f_q02a [u0] h P = d_q02a (ACall X) X.gl p_q02a_k1 p_q02a_k2 v0 h1 [] (finR [.t 2] false h.length P):=by rw [call_val x_q02a rfl hp rfl]; exact e_q02a
theorem x_q027 : X.fn f_q027 = some a_q027:=by kernel_rfl
theorem c_q027 {u0 u1 v0 v1 : AV} {h h1 : Heap} {P : Post} (hp : puras h [u0,u1] = some ([v0,v1],h1)) : ACall X f_q027 [u0,u1] h P = d_q027 (ACall X) X.gl p_q027_k1 p_q027_k4 v0 v1 h1 [] (finR [.t 4] true h.length P):=by rw [call_val x_q027 rfl hp rfl]; exact e_q027
theorem x_q01u : X.fn f_q01u = some a_q01u:=by kernel_rfl
theorem c_q01u {u0 v0 : AV} {h h1 : Heap} {P : Post} (hp : puras h [u0] = some ([v0],h1)) : ACall X f_q01u [u0] h P = d_q01u (ACall X) X.gl p_q01u_k1 p_q01u_k2 v0 h1 [] (finR [.t 2] false h.length P):=by rw [call_val x_q01u rfl hp rfl]; exact e_q01u
theorem x_q02z : X.fn f_q02z = some a_q02z:=by kernel_rfl
theorem c_q02z {u0 u1 h P} : ACall X f_q02z [u0,u1] h P = d_q02z (ACall X) X.gl u0 u1 h [] (finR [.t 4] false h.length P):=by rw [call_ref x_q02z rfl rfl]; exact e_q02z
theorem x_q029 : X.fn f_q029 = some a_q029:=by kernel_rfl
theorem c_q029 {u0 u1 u2 v0 v1 v2 : AV} {h h1 : Heap} {P : Post} (hp : puras h [u0,u1,u2] = some ([v0,v1,v2],h1)) : ACall X f_q029 [u0,u1,u2] h P = d_q029 (ACall X) X.gl v0 v1 v2 h1 [] (finR [.t 6] false h.length P):=by rw [call_val x_q029 rfl hp rfl]; exact e_q029
theorem x_q02b : X.fn f_q02b = some a_q02b:=by kernel_rfl
theorem c_q02b {u0 u1 v0 v1 : AV} {h h1 : Heap} {P : Post} (hp : puras h [u0,u1] = some ([v0,v1],h1)) : ACall X f_q02b [u0,u1] h P = d_q02b (ACall X) X.gl v0 v1 h1 [] (finR [.t 4] false h.length P):=by rw [call_val x_q02b rfl hp rfl]; exact e_q02b
theorem x_q024 : X.fn f_q024 = some a_q024:=by kernel_rfl
theorem c_q024 {u0 u1 v0 v1 : AV} {h h1 : Heap} {P : Post} (hp : puras h [u0,u1] = some ([v0,v1],h1)) : ACall X f_q024 [u0,u1] h P = d_q024 (ACall X) X.gl v0 v1 h1 [] (finR [.t 4] false h.length P):=by rw [call_val x_q024 rfl hp rfl]; exact e_q024
theorem x_q025 : X.fn f_q025 = some a_q025:=by kernel_rfl
theorem c_q025 {u0 u1 v0 v1 : AV} {h h1 : Heap} {P : Post} (hp : puras h [u0,u1] = some ([v0,v1],h1)) : ACall X f_q025 [u0,u1] h P = d_q025 (ACall X) X.gl v0 v1 h1 [] (finR [.t 4] false h.length P):=by rw [call_val x_q025 rfl hp rfl]; exact e_q025
theorem x_q012 : X.fn f_q012 = some a_q012:=by kernel_rfl
theorem c_q012 {u0 u1 v0 v1 : AV} {h h1 : Heap} {P : Post} (hp : puras h [u0,u1] = some ([v0,v1],h1)) : ACall X f_q012 [u0,u1] h P = d_q012 (ACall X) X.gl p_q012_k1 p_q012_k2 v0 v1 h1 [] (finR [.t 4] false h.length P):=by rw [call_val x_q012 rfl hp rfl]; exact e_q012
theorem x_q015 : X.fn f_q015 = some a_q015:=by kernel_rfl
theorem c_q015 {u0 v0 : AV} {h h1 : Heap} {P : Post} (hp : puras h [u0] = some ([v0],h1)) : ACall X f_q015 [u0] h P = d_q015 (ACall X) X.gl p_q015_k4 p_q015_k5 v0 h1 [] (finR [.t 2] true h.length P):=by rw [call_val x_q015 rfl hp rfl]; exact e_q015
theorem x_q018 : X.fn f_q018 = some a_q018:=by kernel_rfl
theorem c_q018 {u0 u1 u2 h P} : ACall X f_q018 [u0,u1,u2] h P = d_q018 (ACall X) X.gl p_q018_k3 p_q018_k5 u0 u1 u2 h [] (finR [] false h.length P):=by rw [call_ref x_q018 rfl rfl]; exact e_q018
theorem x_q017 : X.fn f_q017 = some a_q017:=by kernel_rfl
theorem c_q017 {u0 v0 : AV} {h h1 : Heap} {P : Post} (hp : puras h [u0] = some ([v0],h1)) : ACall X f_q017 [u0] h P = d_q017 (ACall X) X.gl v0 h1 [] (finR [.t 2] false h.length P):=by rw [call_val x_q017 rfl hp rfl]; exact e_q017
theorem x_q016 : X.fn f_q016 = some a_q016:=by kernel_rfl
theorem c_q016 {u0 u1 v0 v1 : AV} {h h1 : Heap} {P : Post} (hp : puras h [u0,u1] = some ([v0,v1],h1)) : ACall X f_q016 [u0,u1] h P = d_q016 (ACall X) X.gl p_q016_k4 p_q016_k5 v0 v1 h1 [] (finR [.t 4] false h.length P):=by rw [call_val x_q016 rfl hp rfl]; exact e_q016
theorem x_q02c : X.fn f_q02c = some a_q02c:=by kernel_rfl
theorem c_q02c {u0 v0 : AV} {h h1 : Heap} {P : Post} (hp : puras h [u0] = some ([v0],h1)) : ACall X f_q02c [u0] h P = d_q02c (ACall X) X.gl v0 h1 [] (finR [.t 2] false h.length P):=by rw [call_val x_q02c rfl hp rfl]; exact e_q02c
theorem x_q000 : X.fn f_q000 = some a_q000:=by kernel_rfl
theorem c_q000 {u0 v0 : AV} {h h1 : Heap} {P : Post} (hp : puras h [u0] = some ([v0],h1)) : ACall X f_q000 [u0] h P = d_q000 (ACall X) X.gl v0 h1 [] (finR [.t 2] false h.length P):=by rw [call_val x_q000 rfl hp rfl]; exact e_q000
theorem x_q006 : X.fn f_q006 = some a_q006:=by kernel_rfl
theorem c_q006 {u0 u1 u2 v0 v1 v2 : AV} {h h1 : Heap} {P : Post} (hp : puras h [u0,u1,u2] = some ([v0,v1,v2],h1)) : ACall X f_q006 [u0,u1,u2] h P = d_q006 (ACall X) X.gl v0 v1 v2 h1 [] (finR [.t 6] false h.length P):=by rw [call_val x_q006 rfl hp rfl]; exact e_q006
theorem x_q013 : X.fn f_q013 = some a_q013:=by kernel_rfl
theorem c_q013 {u0 v0 : AV} {h h1 : Heap} {P : Post} (hp : puras h [u0] = some ([v0],h1)) : ACall X f_q013 [u0] h P = d_q013 (ACall X) X.gl v0 h1 [] (finR [.t 2] false h.length P):=by rw [call_val x_q013 rfl hp rfl]; exact e_q013
theorem x_q036 : X.fn f_q036 = some a_q036:=by kernel_rfl
theorem c_q036 {u0 u1 h P} : ACall X f_q036 [u0,u1] h P = d_q036 (ACall X) X.gl p_q036_k1 p_q036_k2 u0 u1 h [] (finR [.t 4] false h.length P):=by rw [call_ref x_q036 rfl rfl]; exact e_q036
theorem x_q020 : X.fn f_q020 = some a_q020:=by kernel_rfl
theorem c_q020 {u0 u1 v0 v1 : AV} {h h1 : Heap} {P : Post} (hp : puras h [u0,u1] = some ([v0,v1],h1)) : ACall X f_q020 [u0,u1] h P = d_q020 (ACall X) X.gl p_q020_k1 v0 v1 h1 [] (finR [.t 4] false h.length P):=by rw [call_val x_q020 rfl hp rfl]; exact e_q020
theorem x_q02m : X.fn f_q02m = some a_q02m:=by kernel_rfl
theorem c_q02m {u0 u1 v0 v1 : AV} {h h1 : Heap} {P : Post} (hp : puras h [u0,u1] = some ([v0,v1],h1)) : ACall X f_q02m [u0,u1] h P = d_q02m (ACall X) X.gl p_q02m_k1 p_q02m_k2 v0 v1 h1 [] (finR [.t 4] false h.length P):=by rw [call_val x_q02m rfl hp rfl]; exact e_q02m
theorem x_q04d : X.fn f_q04d = some a_q04d:=by kernel_rfl
theorem c_q04d {u0 u1 v0 v1 : AV} {h h1 : Heap} {P : Post} (hp : puras h [u0,u1] = some ([v0,v1],h1)) : ACall X f_q04d [u0,u1] h P = d_q04d (ACall X) X.gl v0 v1 h1 [] (finR [.t 4] false h.length P):=by rw [call_val x_q04d rfl hp rfl]; exact e_q04d
theorem x_q01e : X.fn f_q01e = some a_q01e:=by kernel_rfl
theorem c_q01e {u0 u1 v0 v1 : AV} {h h1 : Heap} {P : Post} (hp : puras h [u0,u1] = some ([v0,v1],h1)) : ACall X f_q01e [u0,u1] h P = d_q01e (ACall X) X.gl v0 v1 h1 [] (finR [.t 4] false h.length P):=by rw [call_val x_q01e rfl hp rfl]; exact e_q01e
attribute [go_sem] e_q01t_k1 e_q01t_k2 e_q01t_k3 e_q01t_k4 e_q01t_k5 e_q01t_k6 l_q01t_k1 l_q01t_k3 l_q01t_k4 d_q01t_k1 d_q01t_k2 d_q01t_k3 d_q01t_k4 d_q01t_k5 d_q01t_k6 e_q022_k1 e_q022_k2 e_q022_k3 e_q022_k4 e_q022_k5 e_q022_k6 e_q022_k7 l_q022_k1 l_q022_k4 l_q022_k5 d_q022_k1 d_q022_k2 d_q022_k3 d_q022_k4 d_q022_k5 d_q022_k6 d_q022_k7 e_q00x_k1 e_q00x_k2 l_q00x_k1 d_q00x_k1 d_q00x_k2 e_q02j_k1 e_q02j_k2 l_q02j_k1
attribute [go_sem] d_q02j_k1 d_q02j_k2 e_q00w_k1 e_q00w_k2 l_q00w_k1 d_q00w_k1 d_q00w_k2 e_q00v_k1 e_q00v_k2 e_q00v_k3 e_q00v_k4 e_q00v_k5 l_q00v_k1 l_q00v_k2 d_q00v_k1 d_q00v_k2 d_q00v_k3 d_q00v_k4 d_q00v_k5 e_q02a_k1 e_q02a_k2 l_q02a_k1 d_q02a_k1 d_q02a_k2 e_q027_k1 e_q027_k2 e_q027_k3 e_q027_k4 l_q027_k1 l_q027_k2 d_q027_k1 d_q027_k2 d_q027_k3 d_q027_k4 e_q01u_k1 e_q01u_k2 l_q01u_k1 d_q01u_k1 d_q01u_k2 e_q012_k1
attribute [go_sem] e_q012_k2 l_q012_k1 d_q012_k1 d_q012_k2 e_q015_k1 e_q015_k2 e_q015_k3 e_q015_k4 e_q015_k5 l_q015_k1 l_q015_k4 d_q015_k1 d_q015_k2 d_q015_k3 d_q015_k4 d_q015_k5 e_q018_k1 e_q018_k2 e_q018_k3 e_q018_k4 e_q018_k5 l_q018_k1 l_q018_k2 l_q018_k4 d_q018_k1 d_q018_k2 d_q018_k3 d_q018_k4 d_q018_k5 e_q016_k1 e_q016_k2 e_q016_k3 e_q016_k4 e_q016_k5 l_q016_k1 l_q016_k4 d_q016_k1 d_q016_k2 d_q016_k3 d_q016_k4
attribute [go_sem] d_q016_k5 e_q036_k1 e_q036_k2 l_q036_k1 d_q036_k1 d_q036_k2 e_q020_k1 d_q020_k1 e_q02m_k1 e_q02m_k2 l_q02m_k1 d_q02m_k1 d_q02m_k2 e_q04s_k1 e_q04s_k2 e_q04s_k3 e_q04s_k4 l_q04s_k2 l_q04s_k3 d_q04s_k1 d_q04s_k2 d_q04s_k3 d_q04s_k4
end Go.Am
end
section
/- The stream of numbers out of which the laws draw. -/
open Go
namespace Go.Am
abbrev eI (n : Int) : PV:=.int .i64 n
abbrev AL (l : List Int) : AV:=.p (.sl none (l.map eI))
abbrev strm (L : List Int) (a : Int) : Obj:=.box [AL L,AI a]
def below (x n : Int) : Int:=if n < 1 then 0 else if x.tmod n < 0 then IntKind.i64.wrap (x.tmod n + n) else x.tmod n
theorem s_Below (x n : Int) (h : Heap) (K : Post) : ACall X f_q020 [AI x,AI n] h K = K (AI (below x n)) h []:=by
  refine rule ?_
  rw [c_q020 rfl]
  simp only [d_q020,go_sem]
  unfold below
  by_cases h1 : n < 1
  · simp only [h1,if_true]
  · simp only [h1, if_false, show ¬ n = 0 by omega]
    split <;> rfl
theorem below_bd (x n : Int) (h1 : 1 ≤ n) (h2 : n ≤ 4611686018427387904) : 0 ≤ below x n ∧ below x n < n:=by
  unfold below
  rw [if_neg (by omega)]
  have:=Int.tmod_lt_of_pos x (show 0 < n by omega)
  have h3 : -n < x.tmod n:=by
    have:=Int.lt_tmod_of_pos x (show 0 < n by omega)
    exact this
  split
  · rw [i64_wrap _ (by omega) (by omega)]; omega
  · omega
def nextV (L : List Int) (a n : Int) : Int:=
  if L.length = 0 then below (IntKind.i64.wrap ((a + 1) * 7919)) n
  else below (IntKind.i64.wrap (below (L.getD (a.tmod L.length).toNat 0) 1073741824 + IntKind.i64.wrap (IntKind.i64.wrap (a.tdiv L.length) * IntKind.i64.wrap (7919 + a.tmod L.length)))) n
theorem nextV_bd (L : List Int) (a n : Int) (h1 : 1 ≤ n) (h2 : n ≤ 4611686018427387904) : 0 ≤ nextV L a n ∧ nextV L a n < n:=by
  unfold nextV
  split <;> exact below_bd _ _ h1 h2
theorem set_get' {h : Heap} {id : Nat} {o' : Obj} (hid : id < h.length) : (h.set id o')[id]? = some o':=by simp [hid]
theorem get_lt {h : Heap} {id : Nat} {o : Obj} (hh : h[id]? = some o) : id < h.length:=(List.getElem?_eq_some_iff.1 hh).1
def posN (n : Nat) (a : Int) : Prop:=0 ≤ a ∧ a + n < 4611686018427387904
theorem posN_le {n m : Nat} {a b : Int} (H : posN m a) (h : a ≤ b) (hn : b + n ≤ a + m) : posN n b:=by unfold posN at *; omega
theorem posAll {a : Int} (H : posN 14 a) : posN 0 (a) ∧ posN 0 (a + 1) ∧ posN 0 (a + 1 + 1) ∧ posN 0 (a + 1 + 1 + 1) ∧ posN 0 (a + 1 + 1 + 1 + 1) ∧ posN 0 (a + 1 + 1 + 1 + 1 + 1) ∧ posN 0 (a + 1 + 1 + 1 + 1 + 1 + 1) ∧ posN 0 (a + 1 + 1 + 1 + 1 + 1 + 1 + 1) ∧ posN 0 (a + 1 + 1 + 1 + 1 + 1 + 1 + 1 + 1) ∧ posN 0 (a + 1 + 1 + 1 + 1 + 1 + 1 + 1 + 1 + 1) ∧ posN 0 (a + 1 + 1 + 1 + 1 + 1 + 1 + 1 + 1 + 1 + 1) ∧ posN 0 (a + 1 + 1 + 1 + 1 + 1 + 1 + 1 + 1 + 1 + 1 + 1) ∧ posN 0 (a + 1 + 1 + 1 + 1 + 1 + 1 + 1 + 1 + 1 + 1 + 1 + 1) ∧ posN 0 (a + 1 + 1 + 1 + 1 + 1 + 1 + 1 + 1 + 1 + 1 + 1 + 1 + 1) ∧ posN 0 (a + 1 + 1 + 1 + 1 + 1 + 1 + 1 + 1 + 1 + 1 + 1 + 1 + 1 + 1):=by
  unfold posN at *; omega
def Gen (f : Nat) (args : List AV) (L : List Int) (a a2 : Int) (v : AV) : Prop:=∀ (h : Heap) (id : Nat) (K : Post),h[id]? = some (strm L a) → ACall X f (.ref id 0 :: args) h K = K v (h.set id (strm L a2)) []
section
variable {f : Nat} {args : List AV} {L : List Int} {a a2 : Int} {v : AV} {h l : Heap} {id : Nat} {K : Post}
theorem Gen.set (g : Gen f args L a a2 v) (hid : id < h.length) : ACall X f (.ref id 0 :: args) (h.set id (strm L a)) K = K v (h.set id (strm L a2)) []:=by
  rw [g _ _ _ (set_get' hid),List.set_set]
theorem Gen.app (g : Gen f args L a a2 v) (hid : id < h.length) : ACall X f (.ref id 0 :: args) (h.set id (strm L a) ++ l) K = K v (h.set id (strm L a2) ++ l) []:=by
  rw [g _ _ _ (by rw [get_app (by simpa using hid)]; exact set_get' hid),set_app (by simpa using hid),List.set_set]
theorem Gen.hd (g : Gen f args L a a2 v) : ACall X f (.ref 0 0 :: args) (strm L a :: l) K = K v (strm L a2 :: l) []:=by
  rw [g _ _ _ rfl]; rfl
theorem Gen.of (H : ∀ (h : Heap) (id : Nat),id < h.length → ACall X f (.ref id 0 :: args) (h.set id (strm L a)) fun v1 h1 x1=>v1 = v ∧ h1 = h.set id (strm L a2) ∧ x1 = []) : Gen f args L a a2 v:=by
  intro h id K hh
  have hid:=get_lt hh
  have : h.set id (strm L a) = h:=by
    apply List.ext_getElem?
    intro i
    rw [List.getElem?_set]
    split
    · rename_i e; subst e; rw [hh]
    · rfl
  have k:=H h id hid
  rw [this] at k
  exact rule k
end
def GenE (f : Nat) (args : List AV) (L : List Int) (a : Int) (Q : AV → Int → Prop) : Prop:=∀ (h : Heap) (id : Nat),h[id]? = some (strm L a) → ∃ v a2,Q v a2 ∧ ∀ K : Post,ACall X f (.ref id 0 :: args) h K = K v (h.set id (strm L a2)) []
section
variable {f : Nat} {args : List AV} {L : List Int} {a : Int} {Q : AV → Int → Prop}
theorem GenE.set (g : GenE f args L a Q) {h : Heap} {id : Nat} (hid : id < h.length) : ∃ v a2,Q v a2 ∧ ∀ K : Post,ACall X f (.ref id 0 :: args) (h.set id (strm L a)) K = K v (h.set id (strm L a2)) []:=by
  obtain ⟨v,a2,q,r⟩:=g _ _ (set_get' hid)
  exact ⟨v,a2,q,fun K=>by rw [r,List.set_set]⟩
theorem GenE.app (g : GenE f args L a Q) {h l : Heap} {id : Nat} (hid : id < h.length) : ∃ v a2,Q v a2 ∧ ∀ K : Post,ACall X f (.ref id 0 :: args) (h.set id (strm L a) ++ l) K = K v (h.set id (strm L a2) ++ l) []:=by
  obtain ⟨v,a2,q,r⟩:=g (h.set id (strm L a) ++ l) id (by rw [get_app (by simpa using hid)]; exact set_get' hid)
  exact ⟨v,a2,q,fun K=>by rw [r,set_app (by simpa using hid),List.set_set]⟩
theorem GenE.hd (g : GenE f args L a Q) {l : Heap} : ∃ v a2,Q v a2 ∧ ∀ K : Post,ACall X f (.ref 0 0 :: args) (strm L a :: l) K = K v (strm L a2 :: l) []:=g (strm L a :: l) 0 rfl
theorem GenE.of (H : ∀ (h : Heap) (id : Nat),id < h.length → ACall X f (.ref id 0 :: args) (h.set id (strm L a)) fun v1 h1 x1=>∃ a2,Q v1 a2 ∧ h1 = h.set id (strm L a2) ∧ x1 = []) : GenE f args L a Q:=by
  intro h id hh
  have hid:=get_lt hh
  have : h.set id (strm L a) = h:=by
    apply List.ext_getElem?
    intro i
    rw [List.getElem?_set]
    split
    · rename_i e; subst e; rw [hh]
    · rfl
  have k:=H h id hid
  rw [this] at k
  obtain ⟨v,h',x,⟨a2,q,e1,e2⟩,r⟩:=ACall.one X_noNext k
  subst e1; subst e2
  exact ⟨v,a2,q,r⟩
end
def pickV (l : List Int) (L : List Int) (a : Int) : Int:=l.getD (nextV L a l.length).toNat 0
theorem pickV_mem {l L : List Int} {a : Int} (hl : 0 < l.length) (hl2 : l.length < 4611686018427387904) : pickV l L a ∈ l:=by
  obtain ⟨b1,b2⟩:=nextV_bd L a l.length (by omega) (by omega)
  unfold pickV
  have : (nextV L a l.length).toNat < l.length:=by omega
  simp only [List.getD,List.getElem?_eq_getElem this,Option.getD_some]
  exact List.getElem_mem _
def isI : PV → Bool
  | .int .i64 _=>true
  | _=>false
def unI : PV → Int
  | .int _ n=>n
  | _=>0
theorem unI_map {xs : List PV} (h : xs.all isI = true) : xs = (xs.map unI).map eI:=by
  induction xs with
  | nil=>rfl
  | cons x r ih=>
    simp only [List.all_cons,Bool.and_eq_true] at h
    simp only [List.map_cons]
    rw [← ih h.2]
    cases x with
    | int k n=>cases k <;> first | rfl | cases h.1
    | _=>cases h.1
set_option maxHeartbeats 400000 in
theorem g_Next (L : List Int) (a n : Int) (hp : posN 0 a) : Gen f_q025 [AI n] L a (a + 1) (AI (nextV L a n)):=by
  refine Gen.of fun h id hid=>?_
  rw [c_q025 rfl]
  obtain ⟨h0,h1⟩:=hp
  have w1 : IntKind.i64.wrap (a + 1) = a + 1:=i64_wrap _ (by omega) (by omega)
  have w2 : IntKind.i64.wrap (a + 1 - 1) = a:=by rw [i64_wrap _ (by omega) (by omega)]; omega
  have hs : ∀ o',(h.set id o')[id]? = some o':=fun o'=>set_get' hid
  rcases Nat.eq_zero_or_pos L.length with hl | hl
  · simp only [d_q025, go_sem, hs, s_Below, hl, w1]
    simp only [nextV,hl,if_true]
  · have e1 : ((L.length : Int) = 0) = False := by simp only [eq_iff_iff, iff_false]; omega
    have e2 : 0 ≤ a.tmod L.length:=Int.tmod_nonneg _ h0
    have e3 : a.tmod L.length < L.length:=Int.tmod_lt_of_pos _ (by omega)
    have e4:=natOf_int (k:=.i64) e2
    have e5 : (L.map eI)[(a.tmod L.length).toNat]? = some (eI (L.getD (a.tmod L.length).toNat 0)):=by
      rw [map_get eI (show (a.tmod L.length).toNat < L.length by omega)]
      simp [List.getD,show (a.tmod L.length).toNat < L.length by omega]
    simp only [d_q025,go_sem,hs,s_Below,e1,w1,w2,e4,e5]
    simp only [nextV,show ¬ L.length = 0 by omega,if_false]
section
variable {L : List Int} {a : Int} {h l : Heap} {id : Nat} {K : Post}
theorem s_Next_set (hid : id < h.length) (hp : posN 0 a) (n : Int) : ACall X f_q025 [.ref id 0,AI n] (h.set id (strm L a)) K = K (AI (nextV L a n)) (h.set id (strm L (a + 1))) []:=(g_Next L a n hp).set hid
theorem s_Next_app (hid : id < h.length) (hp : posN 0 a) (n : Int) : ACall X f_q025 [.ref id 0,AI n] (h.set id (strm L a) ++ l) K = K (AI (nextV L a n)) (h.set id (strm L (a + 1)) ++ l) []:=(g_Next L a n hp).app hid
theorem s_Next_hd (hp : posN 0 a) (n : Int) : ACall X f_q025 [.ref 0 0,AI n] (strm L a :: l) K = K (AI (nextV L a n)) (strm L (a + 1) :: l) []:=(g_Next L a n hp).hd
theorem g_Flip (hp : posN 0 a) (n : Int) : Gen f_q024 [AI n] L a (a + 1) (AB (decide (nextV L a n = 0))):=by
  refine Gen.of fun h id hid=>?_
  rw [c_q024 rfl]
  simp only [d_q024,go_sem,s_Next_set hid hp]
theorem s_Flip_set (hid : id < h.length) (hp : posN 0 a) (n : Int) : ACall X f_q024 [.ref id 0,AI n] (h.set id (strm L a)) K = K (AB (decide (nextV L a n = 0))) (h.set id (strm L (a + 1))) []:=(g_Flip hp n).set hid
theorem s_Flip_app (hid : id < h.length) (hp : posN 0 a) (n : Int) : ACall X f_q024 [.ref id 0,AI n] (h.set id (strm L a) ++ l) K = K (AB (decide (nextV L a n = 0))) (h.set id (strm L (a + 1)) ++ l) []:=(g_Flip hp n).app hid
theorem s_Flip_hd (hp : posN 0 a) (n : Int) : ACall X f_q024 [.ref 0 0,AI n] (strm L a :: l) K = K (AB (decide (nextV L a n = 0))) (strm L (a + 1) :: l) []:=(g_Flip hp n).hd
theorem g_Pick (hp : posN 0 a) (xs : List PV) (hx : xs.all isI = true) (hl : 0 < xs.length) (hl2 : xs.length < 4611686018427387904) :
    Gen f_q028 [.p (.sl none xs)] L a (a + 1) (AI (pickV (xs.map unI) L a)):=by
  refine Gen.of fun h id hid=>?_
  rw [c_q028 rfl]
  obtain ⟨b1,b2⟩:=nextV_bd L a xs.length (by omega) (by omega)
  have e4:=natOf_int (k:=.i64) b1
  have e5 : xs[(nextV L a xs.length).toNat]? = some (eI (pickV (xs.map unI) L a)):=by
      have hm:=unI_map hx
      generalize hq : xs.map unI = q at *
      subst hm
      simp only [List.length_map] at *
      rw [map_get eI (show (nextV L a q.length).toNat < q.length by omega)]
      simp [pickV,List.getD,show (nextV L a q.length).toNat < q.length by omega]
  simp only [d_q028,go_sem,s_Next_set hid hp,e4,e5]
theorem s_Pick_set (hid : id < h.length) (hp : posN 0 a) {xs : List PV} (hx : xs.all isI = true) (hl : 0 < xs.length) (hl2 : xs.length < 4611686018427387904) :
    ACall X f_q028 [.ref id 0,.p (.sl none xs)] (h.set id (strm L a)) K = K (AI (pickV (xs.map unI) L a)) (h.set id (strm L (a + 1))) []:=(g_Pick hp xs hx hl hl2).set hid
theorem s_Pick_app (hid : id < h.length) (hp : posN 0 a) {xs : List PV} (hx : xs.all isI = true) (hl : 0 < xs.length) (hl2 : xs.length < 4611686018427387904) :
    ACall X f_q028 [.ref id 0,.p (.sl none xs)] (h.set id (strm L a) ++ l) K = K (AI (pickV (xs.map unI) L a)) (h.set id (strm L (a + 1)) ++ l) []:=(g_Pick hp xs hx hl hl2).app hid
theorem s_Pick_hd (hp : posN 0 a) {xs : List PV} (hx : xs.all isI = true) (hl : 0 < xs.length) (hl2 : xs.length < 4611686018427387904) :
    ACall X f_q028 [.ref 0 0,.p (.sl none xs)] (strm L a :: l) K = K (AI (pickV (xs.map unI) L a)) (strm L (a + 1) :: l) []:=(g_Pick hp xs hx hl hl2).hd
def rangeV (u v : Int) (L : List Int) (a : Int) : Int:=u + nextV L a (v - u + 1)
theorem rangeV_bd {u v : Int} (L : List Int) (a : Int) (h1 : u ≤ v) (h2 : v ≤ u + 4611686018427387900) : u ≤ rangeV u v L a ∧ rangeV u v L a ≤ v:=by
  have:=nextV_bd L a (v - u + 1) (by omega) (by omega)
  unfold rangeV; omega
theorem g_Range (hp : posN 0 a) (u v : Int) (huv : u ≤ v) (hu : -1152921504606846976 ≤ u) (hv : v ≤ 1152921504606846976) :
    Gen f_q029 [AI u,AI v] L a (a + 1) (AI (rangeV u v L a)):=by
  refine Gen.of fun h id hid=>?_
  rw [c_q029 rfl]
  obtain ⟨b1,b2⟩:=rangeV_bd L a huv (by omega)
  have w1 : IntKind.i64.wrap (v - u) = v - u:=i64_wrap _ (by omega) (by omega)
  have w2 : IntKind.i64.wrap (v - u + 1) = v - u + 1:=i64_wrap _ (by omega) (by omega)
  have w3 : IntKind.i64.wrap (u + nextV L a (v - u + 1)) = rangeV u v L a:=i64_wrap (rangeV u v L a) (by omega) (by omega)
  simp only [d_q029,go_sem,show ¬ v < u by omega,w1,w2,s_Next_set hid hp,w3]
theorem s_Range_set (hid : id < h.length) (hp : posN 0 a) {u v : Int} (huv : u ≤ v) (hu : -1152921504606846976 ≤ u) (hv : v ≤ 1152921504606846976) :
    ACall X f_q029 [.ref id 0,AI u,AI v] (h.set id (strm L a)) K = K (AI (rangeV u v L a)) (h.set id (strm L (a + 1))) []:=(g_Range hp u v huv hu hv).set hid
theorem s_Range_app (hid : id < h.length) (hp : posN 0 a) {u v : Int} (huv : u ≤ v) (hu : -1152921504606846976 ≤ u) (hv : v ≤ 1152921504606846976) :
    ACall X f_q029 [.ref id 0,AI u,AI v] (h.set id (strm L a) ++ l) K = K (AI (rangeV u v L a)) (h.set id (strm L (a + 1)) ++ l) []:=(g_Range hp u v huv hu hv).app hid
theorem s_Range_hd (hp : posN 0 a) {u v : Int} (huv : u ≤ v) (hu : -1152921504606846976 ≤ u) (hv : v ≤ 1152921504606846976) :
    ACall X f_q029 [.ref 0 0,AI u,AI v] (strm L a :: l) K = K (AI (rangeV u v L a)) (strm L (a + 1) :: l) []:=(g_Range hp u v huv hu hv).hd
end
attribute [go_sem ↓] s_Next_set s_Next_app s_Next_hd s_Flip_set s_Flip_app s_Flip_hd s_Pick_set s_Pick_app s_Pick_hd s_Range_set s_Range_app s_Range_hd
attribute [go_sem] s_Next_set s_Next_app s_Next_hd s_Flip_set s_Flip_app s_Flip_hd s_Pick_set s_Pick_app s_Pick_hd s_Range_set s_Range_app s_Range_hd isI unI
end Go.Am
end
section
/- Plain laws of fractions in lowest terms. -/
namespace Go.Am
end Go.Am
end
section
/- Small functions of numbers and of lists of numbers. -/
open Go
namespace Go.Am
variable {h : Heap} {K : Post}
theorem s_Out (n a b : Int) : ACall X f_q006 [AI n,AI a,AI b] h K = K (AB (decide (n < a) || decide (b < n))) h []:=by
  refine rule ?_
  rw [c_q006 rfl]
  by_cases h1 : n < a <;> simp only [d_q006,go_sem,h1]
end Go.Am
end
section
/- Functions of lists. -/
open Go
namespace Go.Am
variable {h : Heap} {K : Post}
def firstErr : List Int → Int
  | []=>0
  | e :: r=>if e = 0 then firstErr r else e
end Go.Am
end
section
/- Values of a shape: loads and stores in rows. -/
open Go
namespace Go.Am
variable {h : Heap} {K : Post}
theorem shp_cut {sh : Sh} {x : PV} (hx : x.shp sh = true) : cutP sh 0 x = some x:=by
  cases sh with
  | none=>exact cutP_sc hx
  | some n=>
    cases x with
    | agg cs=>
      simp only [PV.shp,Bool.and_eq_true,beq_iff_eq] at hx
      simp [cutP,hx.1]
      exact List.take_of_length_le (by omega)
    | _=>cases hx
def shps (sh : Sh) (xs : List PV) : Prop:=∀ x ∈ xs,x.shp sh = true
theorem shps_get {sh : Sh} {xs : List PV} (hx : shps sh xs) {i : Nat} (hi : i < xs.length) : xs[i].shp sh = true:=hx _ (List.getElem_mem hi)
theorem set_self {h : Heap} {id : Nat} {o : Obj} (hh : h[id]? = some o) : h.set id o = h:=by
  apply List.ext_getElem?
  intro i
  rw [List.getElem?_set]
  split
  · rename_i e; subst e; rw [hh]; simp [get_lt hh]
  · rfl
structure Shows (sh : Sh) (v : AV) (xs : List PV) (h : Heap) : Prop where
  len : oLen v = some (AI xs.length)
  get : ∀ (k : Nat) (hk : k < xs.length),∃ a,oIaddr sh v (AI k) h = some a ∧ oLoad sh a h = some (.p xs[k])
theorem shows_sl {sh : Sh} {xs : List PV} (hs : shps sh xs) : Shows sh (.p (.sl sh xs)) xs h:=by
  refine ⟨rfl,fun k hk=>⟨.vp xs[k],?_,?_⟩⟩
  · simp [oIaddr,natOf,hk]
  · simp only [load_vp,shp_cut (shps_get hs hk)]; rfl
end Go.Am
end
section
/- Lengths of numbers in bits,and comparisons of plain values. -/
open Go
namespace Go.Am
variable {h : Heap} {K : Post}
set_option maxRecDepth 20000
theorem shps_eI {l : List Int} : shps none (l.map eI):=fun x hx=>by obtain ⟨n,_,rfl⟩:=List.mem_map.1 hx; rfl
end Go.Am
end
section
/- Strings: keys,the library's functions without text. -/
open Go
set_option linter.unusedSimpArgs false
namespace Go.Am
variable {h : Heap} {K : Post}
abbrev AS (s : List UInt8) : AV:=.p (.str s)
theorem X_ext : X.ext = extF f_internal_bytealg_IndexByteString f_internal_bytealg_abigen_runtime_cmpstring:=rfl
theorem s_idxExt (s : List UInt8) (c : UInt8) : ACall X f_internal_bytealg_IndexByteString [AS s,.p (.int .u8 c.toNat)] h K = K (AI (idxB s c)) h []:=by
  have:=ext_call (X:=X) (f:=f_internal_bytealg_IndexByteString) (asv:=[AS s,.p (.int .u8 c.toNat)]) (vs:=[.str s,.int .u8 c.toNat]) (h:=h) (h1:=h) (r:=.int .i64 (idxB s c)) (K:=K) (by kernel_rfl) rfl rfl rfl ?_
  · exact this
  · rw [X_ext]
    unfold extF
    rw [show Nat.beq f_internal_bytealg_IndexByteString f_internal_bytealg_IndexByteString = true from by kernel_rfl]
    simp
theorem s_IndexByte (s : List UInt8) (c : UInt8) : ACall X f_q04d [AS s,.p (.int .u8 c.toNat)] h K = K (AI (idxB s c)) h []:=by
  have key : ∀ (h : Heap) (K : Post),ACall X f_q01e [AS s,.p (.int .u8 c.toNat)] h K = K (AI (idxB s c)) h []:=by
    intro h K
    refine rule ?_
    rw [c_q01e rfl]
    simp only [d_q01e,go_sem,s_idxExt]
  refine rule ?_
  rw [c_q04d rfl]
  simp only [d_q04d,go_sem,key]
theorem idxB_neg (s : List UInt8) (c : UInt8) : decide (idxB s c < 0) = !s.contains c:=by
  unfold idxB
  rw [Bool.eq_iff_iff]
  by_cases hf : s.findIdx (· == c) < s.length
  · rw [if_pos hf]
    have:=List.findIdx_getElem (w:=hf)
    simp only [beq_iff_eq] at this
    have hm : c ∈ s:=by rw [← this]; exact List.getElem_mem hf
    simp [hm]
  · rw [if_neg hf]
    have hm : ¬ c ∈ s:=fun hm=>hf (List.findIdx_lt_length_of_exists ⟨c,hm,by simp⟩)
    simp [hm]
theorem s_only (s t : List UInt8) (hl : s.length ≤ 1000000000) : ACall X f_q02m [AS s,AS t] h K = K (AB (s.all fun c=>t.contains c)) h []:=by
  refine rule ?_
  rw [c_q02m rfl]
  simp only [d_q02m,go_sem]
  refine N_loop (fun k : Nat=>⟨[(0,AS s),(1,AS t),(7,AI s.length),(8,AI k)],h,[]⟩) (fun k=>k ≤ s.length ∧ (s.take k).all (fun c=>t.contains c) = true) (fun k=>s.length - k) 0 rfl ⟨by omega,rfl⟩ ?_
  rintro k ⟨hk,hp⟩
  rcases Nat.lt_or_ge k s.length with hlt | hge
  · have hg : s[k]? = some s[k] := List.getElem?_eq_getElem hlt
    have w2 : IntKind.i64.wrap ((k : Int) + 1) = ((k + 1 : Nat) : Int):=i64_wrap _ (by omega) (by omega)
    have hi:=idxB_neg t s[k]
    by_cases hc : idxB t s[k] < 0
    · have : s.all (fun c=>t.contains c) = false:=by
        rw [List.all_eq_false]
        refine ⟨_,List.getElem_mem hlt,?_⟩
        rw [decide_eq_true hc] at hi
        cases hq : t.contains s[k] with
        | true=>rw [hq] at hi; cases hi
        | false=>simp
      simp only [go_sem,hlt,hg,s_IndexByte,hc,this]
    · rw [decide_eq_false hc] at hi
      have hq : t.contains s[k] = true:=by cases hq : t.contains s[k] with | true=>rfl | false=>rw [hq] at hi; cases hi
      simp only [go_sem,hlt,hg,s_IndexByte,hc,w2]
      exact ⟨k + 1,rfl,⟨by omega,by rw [List.take_succ_eq_append_getElem hlt,List.all_append,hp]; simp only [List.all_cons,List.all_nil,hq]; rfl⟩,by omega⟩
  · have ek : k = s.length := by omega
    subst ek
    rw [List.take_length] at hp
    simp only [go_sem,Nat.lt_irrefl,hp]
end Go.Am
end
section
/- Maps,asv lists of keys with values. -/
open Go
set_option linter.all false
namespace Go.Am
section
variable {α β : Type} [DecidableEq α]
def mesF (key : α → PV) (val : β → AV) : Nat → List (α × β) → List ME
  | _,[]=>[]
  | n,e :: r=>⟨key e.1,val e.2,n⟩ :: mesF key val (n + 1) r
def mobj (key : α → PV) (val : β → AV) (l : List (α × β)) : Obj:=.amap (mesF key val 0 l) l.length
def whereM (k : α) : List (α × β) → Option Nat
  | []=>none
  | e :: r=>if k = e.1 then some 0 else (whereM k r).map (· + 1)
def getM (k : α) : List (α × β) → Option β
  | []=>none
  | e :: r=>if k = e.1 then some e.2 else getM k r
def updM (k : α) (v : β) : List (α × β) → List (α × β)
  | []=>[(k,v)]
  | e :: r=>if k = e.1 then (k,v) :: r else e :: updM k v r
def KeyI (key : α → PV) : Prop:=∀ a b,PV.eqv (key a) (key b) = some (decide (a = b))
theorem keyI_int : KeyI (fun n : Int=>PV.int .i64 n):=fun a b=>by simp [PV.eqv,PV.eq1]
theorem keyOf_int {n : Int} {k : IntKind} : keyOf (none,[0]) (.p (.int k n)) = some (.int k n):=by simp [keyOf,PV.key,PV.shp,PV.sc,PV.cells,PV.kind]
variable {key : α → PV} {val : β → AV}
theorem mfind_mes (hk : KeyI key) (k : α) : ∀ (l : List (α × β)) (n : Nat),mfind (key k) (mesF key val n l) = some (whereM k l)
  | [],n=>rfl
  | e :: r,n=>by
    simp only [mesF,mfind,hk k e.1,whereM]
    by_cases h : k = e.1
    · simp [h]
    · simp [h,mfind_mes hk k r (n + 1)]
theorem mes_get : ∀ (l : List (α × β)) (n i : Nat),(mesF key val n l)[i]? = (l[i]?).map fun e=>⟨key e.1,val e.2,n + i⟩
  | [],n,i=>rfl
  | e :: r,n,0=>rfl
  | e :: r,n,i + 1=>by simp only [mesF,List.getElem?_cons_succ,mes_get r (n + 1) i]; rw [show n + 1 + i = n + (i + 1) by omega]
theorem where_lt {k : α} : ∀ {l : List (α × β)} {i : Nat},whereM k l = some i → i < l.length
  | [],i,h=>by cases h
  | e :: r,i,h=>by
    unfold whereM at h
    split at h
    · cases h; simp
    · obtain ⟨j, hj, e2⟩ := Option.map_eq_some_iff.1 h
      have:=where_lt hj
      simp; omega
theorem where_get {k : α} : ∀ {l : List (α × β)} {i : Nat},whereM k l = some i → l[i]? = (getM k l).map fun v=>(k,v)
  | [],i,h=>by cases h
  | e :: r,i,h=>by
    unfold whereM at h
    unfold getM
    split at h
    · rename_i hk; cases h; simp [hk]
    · rename_i hk
      obtain ⟨j,hj,e2⟩:=Option.map_eq_some_iff.1 h
      subst e2
      rw [if_neg hk,List.getElem?_cons_succ]
      exact where_get hj
theorem where_none {k : α} : ∀ {l : List (α × β)},whereM k l = none → getM k l = none
  | [],h=>rfl
  | e :: r,h=>by
    unfold whereM at h
    unfold getM
    split at h
    · cases h
    · rename_i hk
      rw [if_neg hk]
      exact where_none (by simpa using h)
theorem where_some {k : α} : ∀ {l : List (α × β)} {i : Nat},whereM k l = some i → (getM k l).isSome = true
  | [],i,h=>by cases h
  | e :: r,i,h=>by
    unfold whereM at h
    unfold getM
    split at h
    · rename_i hk; simp [hk]
    · rename_i hk
      obtain ⟨j,hj,e2⟩:=Option.map_eq_some_iff.1 h
      rw [if_neg hk]
      exact where_some hj
theorem look_val {k : α} {l : List (α × β)} {n : Nat} : ((whereM k l).bind fun i=>(mesF key val n l)[i]?).map ME.val = (getM k l).map val:=by
  cases h : whereM k l with
  | none=>rw [where_none h]; rfl
  | some i=>
    simp only [Option.bind_some,mes_get,where_get h]
    cases getM k l <;> rfl
theorem upd_none {k : α} {v : β} : ∀ {l : List (α × β)},whereM k l = none → updM k v l = l ++ [(k,v)]
  | [],h=>rfl
  | e :: r,h=>by
    unfold whereM at h
    unfold updM
    split at h
    · cases h
    · rename_i hk
      rw [if_neg hk,upd_none (by simpa using h)]; rfl
theorem upd_some {k : α} {v : β} : ∀ {l : List (α × β)} {i : Nat},whereM k l = some i → updM k v l = l.set i (k,v)
  | [],i,h=>by cases h
  | e :: r,i,h=>by
    unfold whereM at h
    unfold updM
    split at h
    · rename_i hk; cases h; simp [hk]
    · rename_i hk
      obtain ⟨j,hj,e2⟩:=Option.map_eq_some_iff.1 h
      subst e2
      rw [if_neg hk,upd_some hj]; rfl
theorem mes_snoc (k : α) (v : β) : ∀ (l : List (α × β)) (n : Nat),mesF key val n (l ++ [(k,v)]) = mesF key val n l ++ [⟨key k,val v,n + l.length⟩]
  | [],n=>rfl
  | e :: r,n=>by simp only [List.cons_append,mesF,mes_snoc k v r (n + 1),List.length_cons]; rw [show n + 1 + r.length = n + (r.length + 1) by omega]
theorem mes_modify {k : α} {v : β} {l : List (α × β)} {i n : Nat} (h : whereM k l = some i) : (mesF key val n l).modify i (fun e=>{ e with val:=val v }) = mesF key val n (l.set i (k,v)):=by
  apply List.ext_getElem?
  intro j
  rw [List.getElem?_modify,mes_get,mes_get,List.getElem?_set]
  have hi:=where_lt h
  have hg:=where_get h
  by_cases hij : i = j
  · subst hij
    rw [hg]
    simp only [if_true,hi]
    obtain ⟨w,hw⟩:=Option.isSome_iff_exists.1 (where_some h)
    rw [hw]; rfl
  · simp [hij]
variable {h : Heap} {id : Nat} {l : List (α × β)} {kk : Sh × List Nat} {k : α}
theorem mget_mes (hh : h[id]? = some (mobj key val l)) : mget h (.mp id) = some (id,mesF key val 0 l,l.length):=by
  simp only [mget,hh,mobj]
theorem look_mes (hk : KeyI key) (hh : h[id]? = some (mobj key val l)) (hq : keyOf kk (.p (key k)) = some (key k)) {ok : Bool} {z : AV} :
    oLook kk ok z (.mp id) (.p (key k)) h = some (bif ok then .tup [((getM k l).map val).getD z,AV.p (.bool (getM k l).isSome)] else ((getM k l).map val).getD z):=by
  simp only [oLook,hq,mget_mes hh,Option.map_some,mfind_mes hk,look_val,Option.isSome_map]
  rfl
theorem mupd_mes (hk : KeyI key) (hh : h[id]? = some (mobj key val l)) (hq : keyOf kk (.p (key k)) = some (key k)) {v : β} (hv : okIn (val v) = true) :
    oMupd kk (.mp id) (.p (key k)) (val v) h = some (.und,h.set id (mobj key val (updM k v l)),escOf id (val v)):=by
  simp only [oMupd,hq,mget_mes hh,hv,mfind_mes hk]
  cases hw : whereM k l with
  | none=>
    simp only [mobj,upd_none hw,mes_snoc,List.length_append,List.length_cons,List.length_nil,Nat.zero_add]
  | some i=>
    simp only [mobj,upd_some hw,mes_modify hw,List.length_set]
end
end Go.Am
end
section
/- Lists of strings sorted,left out: printed by program. -/
open Go
set_option linter.unusedSimpArgs false
namespace Go.Am
attribute [-go_sem] PV.cells splice
variable {h : Heap} {K : Post}
end Go.Am
end
section
/- Finding values in lists: printed by program. -/
open Go
set_option linter.unusedSimpArgs false
namespace Go.Am
attribute [-go_sem] PV.cells
variable {h : Heap} {K : Post}
end Go.Am
end
section
/- Limits: what they are,what is wrong with them. -/
open Go
namespace Go.Am
variable {h : Heap} {K : Post}
structure Lim where
  key : List UInt8
  lo : Int
  hi : Int
  bin : Int
def Lim.pv (x : Lim) : PV:=.agg [.str x.key,eI x.lo,eI x.hi,eI x.bin]
end Go.Am
end
section
/- What is wrong with limits,both ways: printed by program. -/
open Go
set_option linter.unusedSimpArgs false
namespace Go.Am
variable {h : Heap} {K : Post}
end Go.Am
end
section
/- Package lot on measured values,and what the reference says of them. -/
open Go
namespace Go.Am
variable {h : Heap} {K : Post}
end Go.Am
end
section
/- Records: what they are,what is wrong with them. -/
open Go
set_option linter.unusedSimpArgs false
namespace Go.Am
variable {h : Heap} {K : Post}
theorem retK_keep {b : Nat} {P : Post} {vs : List AV} {h : Heap} : retK true b P (some vs) h [] = P (oneOf vs) (h.take (max b (oneOf vs).top)) []:=by
  simp [retK,close,closed]
attribute [go_sem] retK_keep
structure Rec where
  unit : List UInt8
  time : Int
  site : List UInt8
  res : List Int
def Rec.pv (r : Rec) : PV:=.agg [.str r.unit,eI r.time,.str r.site,.sl none (r.res.map eI)]
end Go.Am
end
section
/- What is drawn: numbers,measured values. -/
open Go
namespace Go.Am
variable {L : List Int} {a : Int}
end Go.Am
end
section
/- Strings that are drawn. -/
open Go
set_option linter.unusedSimpArgs false
namespace Go.Am
variable {L : List Int} {a : Int} {h l : Heap} {id : Nat} {K : Post}
def isS : PV → Bool
  | .str _=>true
  | _=>false
def unS : PV → List UInt8
  | .str s=>s
  | _=>[]
def pickS (l : List (List UInt8)) (L : List Int) (a : Int) : List UInt8:=l.getD (nextV L a l.length).toNat []
theorem pickS_mem {l : List (List UInt8)} {L : List Int} {a : Int} (hl : 0 < l.length) (hl2 : l.length < 4611686018427387904) : pickS l L a ∈ l:=by
  obtain ⟨b1,b2⟩:=nextV_bd L a l.length (by omega) (by omega)
  unfold pickS
  have : (nextV L a l.length).toNat < l.length:=by omega
  simp only [List.getD,List.getElem?_eq_getElem this,Option.getD_some]
  exact List.getElem_mem _
theorem unS_map {xs : List PV} (h : xs.all isS = true) : xs = (xs.map unS).map PV.str:=by
  induction xs with
  | nil=>rfl
  | cons x r ih=>
    simp only [List.all_cons,Bool.and_eq_true] at h
    simp only [List.map_cons]
    rw [← ih h.2]
    cases x <;> first | rfl | cases h.1
theorem g_Some (hp : posN 0 a) (xs : List PV) (hx : xs.all isS = true) (hl : 0 < xs.length) (hl2 : xs.length < 4611686018427387904) :
    Gen f_q02b [.p (.sl none xs)] L a (a + 1) (AS (pickS (xs.map unS) L a)):=by
  refine Gen.of fun h id hid=>?_
  rw [c_q02b rfl]
  obtain ⟨b1,b2⟩:=nextV_bd L a xs.length (by omega) (by omega)
  have e4:=natOf_int (k:=.i64) b1
  have e5 : xs[(nextV L a xs.length).toNat]? = some (.str (pickS (xs.map unS) L a)):=by
      have hm:=unS_map hx
      generalize hq : xs.map unS = q at *
      subst hm
      simp only [List.length_map] at *
      rw [map_get PV.str (show (nextV L a q.length).toNat < q.length by omega)]
      simp [pickS,List.getD,show (nextV L a q.length).toNat < q.length by omega]
  simp only [d_q02b,go_sem,s_Next_set hid hp,e4,e5]
theorem s_Some_set (hid : id < h.length) (hp : posN 0 a) {xs : List PV} (hx : xs.all isS = true) (hl : 0 < xs.length) (hl2 : xs.length < 4611686018427387904) :
    ACall X f_q02b [.ref id 0,.p (.sl none xs)] (h.set id (strm L a)) K = K (AS (pickS (xs.map unS) L a)) (h.set id (strm L (a + 1))) []:=(g_Some hp xs hx hl hl2).set hid
theorem s_Some_app (hid : id < h.length) (hp : posN 0 a) {xs : List PV} (hx : xs.all isS = true) (hl : 0 < xs.length) (hl2 : xs.length < 4611686018427387904) :
    ACall X f_q02b [.ref id 0,.p (.sl none xs)] (h.set id (strm L a) ++ l) K = K (AS (pickS (xs.map unS) L a)) (h.set id (strm L (a + 1)) ++ l) []:=(g_Some hp xs hx hl hl2).app hid
theorem s_Some_hd (hp : posN 0 a) {xs : List PV} (hx : xs.all isS = true) (hl : 0 < xs.length) (hl2 : xs.length < 4611686018427387904) :
    ACall X f_q02b [.ref 0 0,.p (.sl none xs)] (strm L a :: l) K = K (AS (pickS (xs.map unS) L a)) (strm L (a + 1) :: l) []:=(g_Some hp xs hx hl hl2).hd
attribute [go_sem ↓] s_Some_set s_Some_app s_Some_hd
attribute [go_sem] s_Some_set s_Some_app s_Some_hd isS unS
end Go.Am
end
section
/- What is drawn: strings,limits. -/
open Go
set_option linter.unusedSimpArgs false
namespace Go.Am
variable {L : List Int} {a : Int} {h l : Heap} {id : Nat} {K : Post}
end Go.Am
end
section
/- Records: what is wrong with them,both ways. -/
open Go
set_option linter.unusedSimpArgs false
namespace Go.Am
variable {h : Heap} {K : Post}
end Go.Am
end
section
/- Sorting records: printed by program. -/
open Go
set_option linter.unusedSimpArgs false
namespace Go.Am
attribute [-go_sem] PV.cells splice
variable {h : Heap} {K : Post}
end Go.Am
end
section
/- Leaving out what is alike: printed by program. -/
open Go
set_option linter.unusedSimpArgs false
namespace Go.Am
attribute [-go_sem] PV.cells splice
variable {h : Heap} {K : Post}
end Go.Am
end
section
/- What is drawn: records. -/
open Go
set_option linter.unusedSimpArgs false
namespace Go.Am
variable {L : List Int} {a : Int} {h l : Heap} {id : Nat} {K : Post}
end Go.Am
end
section
/- Merging two ordered lists: by sorting and leaving out what is alike,and by looking each one up. Plain lists. -/
namespace Go.Am
variable {α : Type}
structure Ordr (c : α → α → Int) : Prop where
  neg : ∀ a b,c b a = - c a b
  trans : ∀ a b d,c a b ≤ 0 → c b d ≤ 0 → c a d ≤ 0
theorem Ordr.refl {c : α → α → Int} (o : Ordr c) (a : α) : c a a = 0:=by have:=o.neg a a; omega
variable {c : α → α → Int} {q : α → α → Bool} {a b : List α}
end Go.Am
end
section
/- Records alike; copies; bins. -/
open Go
set_option linter.unusedSimpArgs false
namespace Go.Am
variable {h : Heap} {K : Post}
def sameR (a b : Rec) : Bool:=decide (a.unit = b.unit) && (decide (a.time = b.time) && (decide (a.site = b.site) && decide (a.res = b.res)))
theorem sameR_iff (a b : Rec) : sameR a b = true ↔ a = b:=by
  cases a; cases b
  simp [sameR]
end Go.Am
end
section
/- Sorting numbers: printed by program. -/
open Go
set_option linter.unusedSimpArgs false
namespace Go.Am
attribute [-go_sem] PV.cells splice
variable {h : Heap} {K : Post}
end Go.Am
end
section
/- Bins,both ways; lists joined; records sorted. -/
open Go
set_option linter.unusedSimpArgs false
namespace Go.Am
variable {h : Heap} {K : Post}
end Go.Am
end
section
/- Lists of records joined,compared,merged. -/
open Go
set_option linter.unusedSimpArgs false
namespace Go.Am
variable {h : Heap} {K : Post}
instance : DecidableEq Rec:=fun a b=>decidable_of_iff (sameR a b = true) (sameR_iff a b)
end Go.Am
end
section
/- Records merged asv the reference does it. -/
open Go
set_option linter.unusedSimpArgs false
namespace Go.Am
variable {h : Heap} {K : Post}
end Go.Am
end
section
/- Retests: which record of a unit counts. Plain lists; both ways yield the same. -/
set_option linter.all false
namespace Go.Am
end Go.Am
end
section
/- Lists of strings. -/
open Go
set_option linter.all false
namespace Go.Am
variable {h : Heap} {K : Post}
theorem X_ex2 : X.ex2 = libF GRL PRL:=rfl
abbrev AStr (us : List (List UInt8)) : AV:=.p (.sl none (us.map PV.str))
end Go.Am
end
section
/- Tests and faults: what is wrong with them,both ways. -/
open Go
set_option linter.all false
namespace Go.Am
variable {h : Heap} {K : Post}
theorem s_Trim (s cs : List UInt8) (hs : s.length ≤ 1000000) (hc : cs.length ≤ 1000) (ha : cs.all (fun b=>decide (b.toNat < 128)) = true) : ACall X f_q04g [AS s,AS cs] h K = K (AS (trimL s cs)) h []:=by
  refine lib_call (X:=X) (by kernel_rfl) ?_
  rw [X_ex2]
  exact libF_pure (vs:=[.str s,.str cs]) (by kernel_rfl) (s:=trimS) (by kernel_rfl) rfl (by simp only [trimS]; rw [if_pos ⟨hs,hc,ha⟩])
theorem s_BitsP (s : List UInt8) (hs : s.length ≤ 1000000) : ACall X f_q000 [AS s] h K = K (AB (bitsB s)) h []:=by
  refine rule ?_
  rw [c_q000 rfl]
  have e:=fun h K=>s_Trim (h:=h) (K:=K) s [48,49] hs (by simp) (by decide)
  have b : decide (trimL s [48,49] = []) = bitsB s:=trim_bits s
  simp only [d_q000,go_sem,e,b]
theorem s_BitsQ (s : List UInt8) (hs : s.length ≤ 1000000) : ACall X f_q02c [AS s] h K = K (AB (bitsB s)) h []:=by
  refine rule ?_
  rw [c_q02c rfl]
  have e:=fun h K=>s_only (h:=h) (K:=K) s [48,49] (by omega)
  have b : (s.all fun c=>[48,49].contains c) = bitsB s:=rfl
  simp only [d_q02c,go_sem,e,b]
theorem s_CheckTest (t : List (List UInt8)) (hb : ∀ s ∈ t,s.length ≤ 1000000) (hn : t.length ≤ 1000000) : ACall X f_q00w [AStr t] h K = K (AI (testF t)) h []:=by
  refine rule ?_
  rw [c_q00w rfl]
  unfold testF
  by_cases h0 : t.length = 0
  · simp only [d_q00w,go_sem,h0]
  have h0' : ¬ ((t.length : Int) = 0):=by omega
  by_cases h1 : 100 < t.length
  · have h1' : (100 : Int) < (t.length : Int) := by omega
    simp only [d_q00w,go_sem,h0',h0,h1,h1']
  have h1' : ¬ (100 : Int) < (t.length : Int):=by omega
  simp only [d_q00w,go_sem,h0',h0,h1,h1']
  obtain ⟨lg,hlg⟩ : ∃ n,(t.headD []).length = n:=⟨_,rfl⟩
  rw [hlg]
  refine N_loop (fun k : Nat=>⟨[(0,AStr t),(13,AStr t),(14,AI t.length),(15,AI k)],h,[]⟩) (fun k=>k ≤ t.length ∧ testL lg (t.drop k) = testL lg t) (fun k=>t.length - k) 0 rfl ⟨by omega,by simp⟩ ?_
  rintro k ⟨hk,hp⟩
  rcases Nat.lt_or_ge k t.length with hlt | hge
  · have hg := map_get PV.str hlt
    have hg0:=map_get PV.str (show 0 < t.length by omega)
    have cz : cutP none 0 (PV.str t[k]) = some (PV.str t[k]):=rfl
    have hz : t[0].length = lg:=by
      rw [← hlg]
      cases t with
      | nil=>exact absurd rfl h0
      | cons a r=>rfl
    have w2 : IntKind.i64.wrap ((k : Int) + 1) = ((k + 1 : Nat) : Int):=i64_wrap _ (by omega) (by omega)
    have eb:=fun h K=>s_BitsP (h:=h) (K:=K) t[k] (hb _ (List.getElem_mem hlt))
    rw [List.drop_eq_getElem_cons hlt,testL] at hp
    cases hbb : bitsB t[k] with
    | false=>
      rw [hbb] at hp
      simp only [if_true] at hp
      rw [← hp]
      simp only [go_sem,hlt,hg,eb,hbb]
    | true=>
      rw [hbb] at hp
      simp only [Bool.true_eq_false,if_false] at hp
      by_cases h2 : 64 < t[k].length
      · have h2' : (64 : Int) < (t[k].length : Int) := by omega
        rw [if_pos h2] at hp
        rw [← hp]
        simp only [go_sem,hlt,hg,eb,hbb,h2']
      · have h2' : ¬ (64 : Int) < (t[k].length : Int) := by omega
        rw [if_neg h2] at hp
        by_cases h3 : t[k].length = lg
        · have h3' : ((t[k].length : Int) = (lg : Int)) := by omega
          rw [if_neg (by omega)] at hp
          have h2'' : ¬ (64 : Int) < (lg : Int):=by omega
          simp only [go_sem,hlt,hg,hg0,hz,eb,hbb,h2',h2'',h3',w2]
          exact ⟨k + 1,rfl,⟨by omega,hp⟩,by omega⟩
        · have h3' : ¬ ((t[k].length : Int) = (lg : Int)) := by omega
          rw [if_pos h3] at hp
          rw [← hp]
          simp only [go_sem,hlt,hg,hg0,hz,eb,hbb,h2',h3']
  · have e1 : k = t.length := by omega
    subst e1
    rw [List.drop_length] at hp
    rw [← hp]
    simp only [go_sem,Nat.lt_irrefl]
    rfl
theorem s_TestFault (t : List (List UInt8)) (hb : ∀ s ∈ t,s.length ≤ 1000000) (hn : t.length ≤ 1000000) : ACall X f_q02j [AStr t] h K = K (AI (testF t)) h []:=by
  refine rule ?_
  rw [c_q02j rfl]
  unfold testF
  by_cases h0 : t.length = 0
  · simp only [d_q02j,go_sem,h0]
  have h0' : ¬ ((t.length : Int) = 0):=by omega
  by_cases h1 : 100 < t.length
  · have h1' : (100 : Int) < (t.length : Int) := by omega
    simp only [d_q02j,go_sem,h0',h0,h1,h1']
  have h1' : ¬ (100 : Int) < (t.length : Int):=by omega
  simp only [d_q02j,go_sem,h0',h0,h1,h1']
  obtain ⟨lg,hlg⟩ : ∃ n,(t.headD []).length = n:=⟨_,rfl⟩
  rw [hlg]
  refine N_loop (fun k : Nat=>⟨[(0,AStr t),(13,AStr t),(14,AI t.length),(15,AI k)],h,[]⟩) (fun k=>k ≤ t.length ∧ testL lg (t.drop k) = testL lg t) (fun k=>t.length - k) 0 rfl ⟨by omega,by simp⟩ ?_
  rintro k ⟨hk,hp⟩
  rcases Nat.lt_or_ge k t.length with hlt | hge
  · have hg := map_get PV.str hlt
    have hg0:=map_get PV.str (show 0 < t.length by omega)
    have cz : cutP none 0 (PV.str t[k]) = some (PV.str t[k]):=rfl
    have hz : t[0].length = lg:=by
      rw [← hlg]
      cases t with
      | nil=>exact absurd rfl h0
      | cons a r=>rfl
    have w2 : IntKind.i64.wrap ((k : Int) + 1) = ((k + 1 : Nat) : Int):=i64_wrap _ (by omega) (by omega)
    have eb:=fun h K=>s_BitsQ (h:=h) (K:=K) t[k] (hb _ (List.getElem_mem hlt))
    rw [List.drop_eq_getElem_cons hlt,testL] at hp
    cases hbb : bitsB t[k] with
    | false=>
      rw [hbb] at hp
      simp only [if_true] at hp
      rw [← hp]
      simp only [go_sem,hlt,hg,eb,hbb]
    | true=>
      rw [hbb] at hp
      simp only [Bool.true_eq_false,if_false] at hp
      by_cases h2 : 64 < t[k].length
      · have h2' : (64 : Int) < (t[k].length : Int) := by omega
        rw [if_pos h2] at hp
        rw [← hp]
        simp only [go_sem,hlt,hg,eb,hbb,h2']
      · have h2' : ¬ (64 : Int) < (t[k].length : Int) := by omega
        rw [if_neg h2] at hp
        by_cases h3 : t[k].length = lg
        · have h3' : ((t[k].length : Int) = (lg : Int)) := by omega
          rw [if_neg (by omega)] at hp
          have h2'' : ¬ (64 : Int) < (lg : Int):=by omega
          simp only [go_sem,hlt,hg,hg0,hz,eb,hbb,h2',h2'',h3',w2]
          exact ⟨k + 1,rfl,⟨by omega,hp⟩,by omega⟩
        · have h3' : ¬ ((t[k].length : Int) = (lg : Int)) := by omega
          rw [if_pos h3] at hp
          rw [← hp]
          simp only [go_sem,hlt,hg,hg0,hz,eb,hbb,h2',h3']
  · have e1 : k = t.length := by omega
    subst e1
    rw [List.drop_length] at hp
    rw [← hp]
    simp only [go_sem,Nat.lt_irrefl]
    rfl
end Go.Am
end
section
/- Faults: what is wrong with them,both ways. -/
open Go
set_option linter.all false
namespace Go.Am
variable {h : Heap} {K : Post}
def Flt.pv (f : Flt) : PV:=.agg [eI f.kind,.sl none (f.nets.map eI)]
abbrev AFlt (l : List Flt) : AV:=.p (.sl (some 2) (l.map Flt.pv))
theorem IndexI {v : AV} (l : List Int) (hv : Shows none v (l.map eI) h) (x : Int) (hl : l.length ≤ 1000000) : ACall X f_q036 [v,AI x] h K = K (AI (if l.findIdx (fun y=>decide (y = x)) < l.length then (l.findIdx (fun y=>decide (y = x)) : Int) else -1)) h []:=by
  refine rule ?_
  rw [c_q036]
  have vl:=hv.len
  rw [List.length_map] at vl
  simp only [d_q036,go_sem,vl]
  refine N_loop (fun k : Nat=>⟨[(0,v),(1,AI x),(7,AI l.length),(8,AI k)],h,[]⟩) (fun k=>k ≤ l.length ∧ ∀ y ∈ l.take k,decide (y = x) = false) (fun k=>l.length - k) 0 rfl (by simp) ?_
  rintro k ⟨hk,hn⟩
  rcases Nat.lt_or_ge k l.length with hlt | hge
  · obtain ⟨a, ha, hb⟩ := hv.get k (by simpa using hlt)
    rw [List.getElem_map] at hb
    have w2 : IntKind.i64.wrap ((k : Int) + 1) = ((k + 1 : Nat) : Int):=i64_wrap _ (by omega) (by omega)
    by_cases hpk : x = l[k]
    · have hf : l.findIdx (fun y=>decide (y = x)) = k:=by
        rw [List.findIdx_eq hlt]
        refine ⟨by simp [hpk],fun j hj=>?_⟩
        have:=hn l[j] (by rw [List.mem_take_iff_getElem]; exact ⟨j,by omega,rfl⟩)
        simpa using this
      simp only [go_sem,hlt,ha,hb,hpk.symm,w2]
      simp only [hf,hlt,if_true]
    · simp only [go_sem, hlt, ha, hb, hpk, w2]
      refine ⟨k + 1,rfl,⟨by omega,fun y hy=>?_⟩,by omega⟩
      rw [List.take_succ_eq_append_getElem hlt,List.mem_append,List.mem_singleton] at hy
      rcases hy with hy | hy
      · exact hn y hy
      · rw [hy]; simp; exact fun e=>hpk e.symm
  · have e1 : k = l.length := by omega
    subst e1
    simp only [go_sem,Nat.lt_irrefl]
    rw [List.take_length] at hn
    have : ¬ l.findIdx (fun y=>decide (y = x)) < l.length:=by
      rw [Nat.not_lt,Nat.le_iff_lt_or_eq]; right
      exact (List.findIdx_eq_length.2 (fun y hy=>by simp [hn y hy])).symm
    rw [if_neg this]
theorem ContainsI {v : AV} (l : List Int) (hv : ∀ h' : Heap,h' = h → Shows none v (l.map eI) h') (x : Int) (hl : l.length ≤ 1000000) : ACall X f_q02z [v,AI x] h K = K (AB (l.contains x)) h []:=by
  refine rule ?_
  rw [c_q02z]
  have e:=fun K=>IndexI (h:=h) (K:=K) l (hv h rfl) x hl
  have hd : decide (0 ≤ (if l.findIdx (fun y=>decide (y = x)) < l.length then (l.findIdx (fun y=>decide (y = x)) : Int) else -1)) = l.contains x:=by
    rw [Bool.eq_iff_iff,decide_eq_true_eq,List.contains_iff_mem]
    constructor
    · intro hq
      split at hq
      · rename_i hlt
        have:=List.findIdx_getElem (w:=hlt)
        simp only [decide_eq_true_eq] at this
        exact this ▸ List.getElem_mem hlt
      · omega
    · intro hm
      rw [if_pos (List.findIdx_lt_length_of_exists ⟨x,hm,by simp⟩)]; omega
  simp only [d_q02z,go_sem,e,hd]
theorem s_ContainsI (l : List Int) (x : Int) (hl : l.length ≤ 1000000) : ACall X f_q02z [AL l,AI x] h K = K (AB (l.contains x)) h []:=ContainsI l (fun h' _=>shows_sl shps_eI) x hl
def riseV (f : Flt) (r : List Int) : Int:=if risL r = false then 7 else if f.kind = 5 ∧ r.contains (f.nets.headD 0) = true then 6 else 0
theorem head_get {l : List Int} (hl : 0 < l.length) : (l.map eI)[0]? = some (eI (l.headD 0)):=by
  cases l with
  | nil=>simp at hl
  | cons a r=>rfl
theorem rise_P (f : Flt) (r : List Int) (hr : r.length ≤ 1000000) (h0 : 0 < f.nets.length) {id : Nat} (hh : h[id]? = some (.box [AI f.kind,AL f.nets])) {K : Ex → St → Prop} (hK : K .ret ⟨[(4,AI (riseV f r))],h,[]⟩) :
    d_q00v_k4 (ACall X) X.gl p_q00v_k2 p_q00v_k3 (.ref id 0) (AL r) h [] K:=by
  simp only [d_q00v_k4,go_sem]
  refine N_loop (fun k : Nat=>⟨[(3,.ref id 0),(7,AL r),(8,AI ((k + 1 : Nat) : Int))],h,[]⟩) (fun k=>(k + 1 ≤ r.length ∨ k = 0) ∧ risL (r.drop k) = risL r) (fun k=>r.length - k) 0 rfl ⟨.inr rfl,by simp⟩ ?_
  rintro k ⟨hk,hp⟩
  rcases Nat.lt_or_ge (k + 1) r.length with hlt | hge
  · have g1 := map_get eI (show k < r.length by omega)
    have g2:=map_get eI hlt
    have w1 : IntKind.i64.wrap (((k + 1 : Nat) : Int) - 1) = (k : Int):=by rw [i64_wrap _ (by omega) (by omega)]; omega
    have w2 : IntKind.i64.wrap (((k + 1 : Nat) : Int) + 1) = ((k + 1 + 1 : Nat) : Int):=i64_wrap _ (by omega) (by omega)
    rw [risL_take r k hlt] at hp
    by_cases hq : r[k + 1] ≤ r[k]
    · have : ¬ r[k] < r[k + 1] := by omega
      simp only [this,decide_false,Bool.false_and] at hp
      simp only [go_sem,hlt,g1,g2,w1,hq]
      have e : riseV f r = 7:=by unfold riseV; rw [← hp]; rfl
      rw [e] at hK
      exact hK
    · have : r[k] < r[k + 1] := by omega
      simp only [this,decide_true,Bool.true_and] at hp
      simp only [go_sem,hlt,g1,g2,w1,w2,hq]
      exact ⟨k + 1,rfl,⟨.inl (by omega),hp⟩,by omega⟩
  · have hge' : ¬ (((k + 1 : Nat) : Int) < (r.length : Int)) := by omega
    rw [risL_end r k hge] at hp
    have c:=fun h K=>s_ContainsI (h:=h) (K:=K) r (f.nets.headD 0) hr
    have g0:=head_get h0
    unfold riseV at hK
    rw [← hp] at hK
    simp only [Bool.true_eq_false,if_false] at hK
    by_cases h5 : f.kind = 5
    · cases hc : r.contains (f.nets.headD 0) with
      | true=>
        rw [hc] at hK
        simp only [h5,and_self,if_true] at hK
        rw [h5] at hh
        simp only [go_sem,hge',hh,c,g0,hc]
        exact hK
      | false=>
        rw [hc] at hK
        simp only [Bool.false_eq_true,and_false,if_false] at hK
        rw [h5] at hh
        simp only [go_sem,hge',hh,c,g0,hc]
        exact hK
    · simp only [h5, false_and, if_false] at hK
      simp only [go_sem,hge',hh,h5]
      exact hK
theorem s_isShort (k : Int) : ACall X f_q013 [AI k] h K = K (AB (shortK k)) h []:=by
  refine rule ?_
  rw [c_q013 rfl]
  have e : (!(decide (k < 3) || decide (5 < k))) = shortK k:=by unfold shortK; rw [Bool.eq_iff_iff]; simp
  simp only [d_q013,go_sem,s_Out,e]
theorem any_drop {p : Int → Bool} {l : List Int} {k : Nat} (hk : k < l.length) (hp : (l.drop k).any p = l.any p) : (p l[k] || (l.drop (k + 1)).any p) = l.any p:=by
  rw [List.drop_eq_getElem_cons hk,List.any_cons] at hp
  exact hp
attribute [-go_sem] d_q00v_k4
theorem s_CheckFault (n : Int) (f : Flt) (hn : -1000000000000000 ≤ n) (hl : f.nets.length ≤ 1000000) : ACall X f_q00v [AI n,.p f.pv] h K = K (AI (fltF n f)) h []:=by
  refine rule ?_
  rw [c_q00v rfl]
  unfold fltF
  by_cases h1 : n < 1 ∨ 100 < n
  · have e : (decide (n < 1) || decide (100 < n)) = true := by rw [Bool.or_eq_true, decide_eq_true_eq, decide_eq_true_eq]; exact h1
    simp only [d_q00v,Flt.pv,go_sem,s_Out,e,h1]
  have e1 : (decide (n < 1) || decide (100 < n)) = false:=by rw [Bool.or_eq_false_iff,decide_eq_false_iff_not,decide_eq_false_iff_not]; omega
  by_cases h2 : f.kind < 1 ∨ 6 < f.kind
  · have e : (decide (f.kind < 1) || decide (6 < f.kind)) = true := by rw [Bool.or_eq_true, decide_eq_true_eq, decide_eq_true_eq]; exact h2
    simp only [d_q00v,Flt.pv,go_sem,s_Out,e1,e,h1,h2]
  have e2 : (decide (f.kind < 1) || decide (6 < f.kind)) = false:=by rw [Bool.or_eq_false_iff,decide_eq_false_iff_not,decide_eq_false_iff_not]; omega
  by_cases h3 : f.nets.length = 0
  · simp only [d_q00v,Flt.pv,go_sem,s_Out,e1,e2,h1,h2,h3]
  have h3' : ¬ ((f.nets.length : Int) = 0):=by omega
  by_cases h4 : 6 < f.nets.length
  · have h4' : (6 : Int) < f.nets.length := by omega
    simp only [d_q00v,Flt.pv,go_sem,s_Out,e1,e2,h1,h2,h3,h3',h4,h4']
  have h4' : ¬ (6 : Int) < f.nets.length:=by omega
  simp only [d_q00v,Flt.pv,go_sem,s_Out,e1,e2,h1,h2,h3,h3',h4,h4']
  refine N_loop (fun k : Nat=>⟨[(0,AI n),(3,.ref h.length 0),(27,AL f.nets),(28,AI f.nets.length),(29,AI k)],h ++ [.box [AI f.kind,AL f.nets]],[]⟩) (fun k=>k ≤ f.nets.length ∧ (f.nets.drop k).any (outN n) = f.nets.any (outN n)) (fun k=>f.nets.length - k) 0 rfl ⟨by omega,by simp⟩ ?_
  rintro k ⟨hk,hp⟩
  have w1 : IntKind.i64.wrap (n - 1) = n - 1:=i64_wrap _ (by omega) (by omega)
  rcases Nat.lt_or_ge k f.nets.length with hlt | hge
  · have hg := map_get eI hlt
    have w2 : IntKind.i64.wrap ((k : Int) + 1) = ((k + 1 : Nat) : Int):=i64_wrap _ (by omega) (by omega)
    have hp2:=any_drop hlt hp
    cases ho : outN n f.nets[k] with
    | true=>
      rw [ho,Bool.true_or] at hp2
      unfold outN at ho
      simp only [go_sem,hlt,hg,w1,s_Out,ho,← hp2]
    | false=>
      rw [ho,Bool.false_or] at hp2
      unfold outN at ho
      simp only [go_sem,hlt,hg,w1,s_Out,ho,w2]
      exact ⟨k + 1,rfl,⟨by omega,hp2⟩,by omega⟩
  · have e1 : k = f.nets.length := by omega
    subst e1
    rw [List.drop_length] at hp
    rw [← hp]
    simp only [List.any_nil,Bool.false_eq_true,if_false]
    have hi : (1 < (f.nets.length : Int)) = (1 < f.nets.length):=by simp only [eq_iff_iff]; omega
    have h0 : 0 < f.nets.length:=by omega
    have hh : (h ++ [Obj.box [AI f.kind,AL f.nets]])[h.length]? = some (.box [AI f.kind,AL f.nets]):=app_get0 _ _
    have R:=fun r hr (K : Ex → St → Prop)=>rise_P (h:=h ++ [Obj.box [AI f.kind,AL f.nets]]) f r hr h0 hh (K:=K)
    obtain ⟨kd,ns⟩:=f
    dsimp only at *
    have hw : win (ns.map eI) 1 (ns.length - 1) = (ns.drop 1).map eI:=by rw [win_map]; congr 1; unfold win; exact List.take_of_length_le (by simp)
    have hle : 1 ≤ ns.length:=h0
    by_cases h6 : kd = 5
    · subst h6
      have s5 : shortK 5 = true:=rfl
      by_cases hm : 1 < ns.length
      · have q := R (ns.drop 1) (by simp; omega)
        simp only [go_sem,Nat.lt_irrefl,s_isShort,s5,hi,hm,hw,hle]
        refine q _ ?_
        simp only [go_sem,riseV]
      · simp only [go_sem,Nat.lt_irrefl,s_isShort,s5,hi,hm]
    · have q := R ns hl
      cases hs : shortK kd with
      | true=>
        by_cases hm : 1 < ns.length
        · simp only [go_sem, Nat.lt_irrefl, s_isShort, hs, hi, hm, h6]
          refine q _ ?_
          simp only [go_sem,riseV,h6]
        · simp only [go_sem,Nat.lt_irrefl,s_isShort,hs,hi,hm]
      | false=>
        by_cases hm : 1 < ns.length
        · simp only [go_sem,Nat.lt_irrefl,s_isShort,hs,hi,hm]
        · simp only [go_sem, Nat.lt_irrefl, s_isShort, hs, hi, hm, h6]
          refine q _ ?_
          simp only [go_sem,riseV,h6]
end Go.Am
end
