/- Texts of the proof, laid together: CodesD, CodesE, AmL, AmC, Ctx, SpStream, SpMap, SpPath, PSort, PFlt, PBits, PWalk. -/
import Derived.KernelRfl
import Derived.Test.YtojjldhoodnjiaaGreatDoorlawSF6
set_option linter.all false
section
/- The functions asv abstract code,and asv formulas over their values: printed by program out of the translation. -/
set_option linter.unusedVariables false
set_option maxRecDepth 100000
namespace Go.Am
def zmA : ACode:=.pr [7,8,21,22,23] (.seq (rg [bN 24 .lss 23 22] [7,8,21,22,23,24])
(.seq (.cond 24 .skip
(.exit 0))
(.seq (.block 1 (.seq (rg [iA 25 none 21 23,
lD 26 none 25,
mV 10 26] [7,8,10,21,22,23])
(rg [mV 27 8,
mV 28 7,
mV 29 10,
uO 30 (.look (none,[2]) false (AI 0) 28 29),
uO 31 (.bsl false none 1 (.int .i64 0) [(0,30)]),
uO 32 (.app none 27 31),
mV 8 32] [7,8,21,22,23])))
(rg [bN 33 .add 23 (cI 1),
mV 23 33] [7,8,21,22,23]))))
def zmB : ACode:=.pr [8] (.seq (rg [mV 34 8,
mV 4 34,
mV 5 (cI 0)] [4,5])
.ret)
def P_q00c (q1 q2 : ACode) : ACode:=(.seq (rg [uO 2 (.box 0),
mV 4 (.c (.p (.sl none []))),
mV 5 (cI 0)] [1,2])
(.seq (.seq (rg [lD 11 (some 3) 2,
mV 12 1,
cL 13 zs1 [11,12],
mV 6 13] [1,2,6])
(.seq (rg [mV 14 6,
bN 15 .neq 14 (cI 0)] [1,2,6,15])
(.cond 15 (.seq (rg [mV 16 6,
mV 4 (.c (.p (.sl none []))),
mV 5 16] [4,5])
.ret)
.skip)))
(.seq (rg [lD 17 (some 3) 2,
mV 18 1,
cL 19 zsC [17,18],
mV 7 19] [2,7])
(.seq (rg [uO 8 (.new0 none)] [2,7,8])
(.seq (.seq (rg [lD 20 (some 3) 2,
cL 21 zeK [20],
lN 22 21,
mV 23 (cI 0)] [7,8,21,22,23])
(.block 0 (.loop (.scope q1))))
q2)))))
def a_q00c : AFun:=⟨2,[.t 4,.t 5],P_q00c zmA zmB,false,false⟩
def P_q00d : ACode:=(.seq (rg [uO 2 (.box 0),
uO 3 (.box 1),
mV 4 (cI 0)] [2,3])
(.seq (dr [dF (fA 5 0 none 2) [2],
dF (lD 6 none 5) [5],
dF (fA 7 0 none 3) [3],
dF (lD 8 none 7) [7],
dT (cL 9 z9j [6,8]) [6,8],
dF (fA 10 1 none 2) [2],
dA (lD 11 none 10) [10] false [4] [],
dF (fA 12 1 none 3) [3],
dA (lD 13 none 12) [12] false [4] [],
dT (cL 14 z9j [11,13]) [11,13],
dF (fA 15 2 none 2) [2],
dA (lD 16 none 15) [15] false [4,9] [],
dF (fA 17 2 none 3) [3],
dA (lD 18 none 17) [17] false [4,9] [],
dT (cL 19 z9j [16,18]) [16,18],
dF (uO 20 (.bsl false none 3 (.int .i64 0) [(0,9),(1,14),(2,19)])) [9,14,19],
dT (cL 21 zln [20]) [20],
dF (mV 4 21) [21]] [4])
.ret))
def a_q00d : AFun:=⟨2,[.t 4],P_q00d,false,false⟩
def P_q00e : ACode:=(.seq (rg [uO 2 (.box 0),
uO 3 (.box 1),
mV 4 (cI 0)] [2,3])
(.seq (.block 0 (.seq (rg [fA 6 0 none 3,
lD 7 none 6,
cL 8 z1d [7,(cI 1),(cI 4)],
mV 5 8] [2,3,5])
(.cond 5 (.seq (rg [mV 4 (cI 4)] [4])
.ret)
(.seq (rg [lD 10 (some 4) 3,
cL 11 zch [10],
mV 12 11,
gD 13 12 true (.faddr 1 none 3),
gD 14 12 true (.load none 13),
gD 15 12 true (.call z4C [14]),
gD 16 12 true (.un .not 15),
uO 17 (.pick 12 16 cF),
mV 9 17] [2,3,9])
(.cond 9 (.seq (rg [mV 4 (cI 5)] [4])
.ret)
(.seq (rg [lD 19 (some 4) 3,
cL 20 zch [19],
uO 21 (.un .not 20),
mV 22 21,
gD 23 22 true (.faddr 1 none 3),
gD 24 22 true (.load none 23),
gD 25 22 true (.bin .neq 24 (cS [])),
uO 26 (.pick 22 25 cF),
mV 18 26] [2,3,18])
(.cond 18 (.seq (rg [mV 4 (cI 3)] [4])
.ret)
.skip)))))))
(.seq (.seq (rg [fA 27 0 none 3,
lD 28 none 27,
bN 29 .neq 28 (cI 2)] [2,3,29])
(.cond 29 (.seq (.seq (rg [fA 30 2 none 3,
lD 31 none 30,
bN 32 .neq 31 (cI (-1)),
mV 33 32,
gD 34 33 false (.faddr 3 none 3),
gD 35 33 false (.load none 34),
gD 36 33 false (.bin .neq 35 (cI 0)),
uO 37 (.pick 33 cT 36)] [37])
(.cond 37 (.seq (rg [mV 4 (cI 3)] [4])
.ret)
.skip))
(.seq (rg [mV 4 (cI 0)] [4])
.ret))
.skip))
(.seq (.block 1 (.seq (rg [fA 39 2 none 3,
lD 40 none 39,
bN 41 .neq 40 (cI (-1)),
mV 42 41,
gD 43 42 true (.faddr 2 none 3),
gD 44 42 true (.load none 43),
gD 45 42 true (.faddr 1 none 2),
gD 46 42 true (.load none 45),
gD 47 42 true (.len 46),
gD 48 42 true (.bin .sub 47 (cI 1)),
gD 49 42 true (.call z1d [44,(cI 0),48]),
gD 50 42 true (.mv 49),
gD 51 50 false (.faddr 1 none 2),
gD 52 50 false (.load none 51),
gD 53 50 false (.faddr 2 none 3),
gD 54 50 false (.load none 53),
gD 55 50 false (.iaddr (some 4) 52 54),
gD 56 50 false (.faddr 0 none 55),
gD 57 50 false (.load none 56),
gD 58 50 false (.bin .neq 57 (cI 3)),
gD 59 42 true (.pick 50 cT 58),
uO 60 (.pick 42 59 cF),
mV 38 60] [3,38])
(.cond 38 (.seq (rg [mV 4 (cI 8)] [4])
.ret)
(.seq (rg [fA 62 3 none 3,
lD 63 none 62,
cL 64 z1d [63,(cI 0),(cI 1)],
mV 65 64,
gD 66 65 false (.faddr 2 none 3),
gD 67 65 false (.load none 66),
gD 68 65 false (.bin .eql 67 (cI (-1))),
gD 69 65 false (.mv 68),
gD 70 69 true (.faddr 3 none 3),
gD 71 69 true (.load none 70),
gD 72 69 true (.bin .neq 71 (cI 0)),
gD 73 65 false (.pick 69 72 cF),
uO 74 (.pick 65 cT 73),
mV 61 74] [61])
(.cond 61 (.seq (rg [mV 4 (cI 1)] [4])
.ret)
.skip)))))
(.seq (rg [mV 4 (cI 0)] [4])
.ret)))))
def a_q00e : AFun:=⟨2,[.t 4],P_q00e,false,false⟩
def zmC : ACode:=.pr [1,5,6,7,8,17,18,19,25,26,27] (rg [bN 57 .add 27 (cI 1),
mV 27 57] [1,5,6,7,8,17,18,19,25,26,27])
def zhS (q1 : ACode) : ACode:=.pr [1,5,6,7,8,17,18,19,25,26,27] (.seq (rg [bN 28 .lss 27 26] [1,5,6,7,8,17,18,19,25,26,27,28])
(.seq (.cond 28 .skip
(.exit 2))
(.seq (.block 3 (.seq (rg [mV 29 27,
iA 30 (some 4) 25 27,
lD 31 (some 4) 30,
uO 10 (.alloc [.p (.int .i64 0),.p (.str []),.p (.int .i64 0),.p (.int .i64 0)]),
mV 9 29,
wO (.store (some 4) 10 31)] [1,5,6,7,8,9,10,17,18,19,25,26,27])
(.seq (.seq (rg [fA 32 0 none 10,
lD 33 none 32,
mV 34 1,
bN 35 .neq 33 34] [1,5,6,7,8,9,10,17,18,19,25,26,27,35])
(.cond 35 (.exit 3)
.skip))
(.seq (rg [mV 37 5,
fA 38 0 none 8,
lD 39 none 38,
fA 40 1 none 10,
lD 41 none 40,
uO 42 (.build [.p (.str []),.p (.str [])] [(0,1,39),(1,1,41)]),
uO 43 (.look ((some 2),[2,2]) true (.p (.str [])) 37 42),
mV 36 43,
eX 44 36 0,
eX 45 36 1,
mV 11 44,
mV 12 45] [1,5,6,7,8,9,11,12,17,18,19,25,26,27])
(.seq (rg [mV 46 12] [1,5,6,7,8,9,11,17,18,19,25,26,27,46])
(.cond 46 (rg [mV 47 6,
mV 48 11,
mV 49 6,
mV 50 11,
uO 51 (.look (none,[2]) false (.sl0 (some 2)) 49 50),
mV 52 7,
mV 53 9,
uO 54 (.build [.p (.int .i64 0),.p (.int .i64 0)] [(0,1,52),(1,1,53)]),
uO 55 (.bsl false (some 2) 1 (.agg [.int .i64 0,.int .i64 0]) [(0,54)]),
uO 56 (.app (some 2) 51 55),
wO (.mupd (none,[2]) 47 48 56)] [1,5,6,7,8,17,18,19,25,26,27])
.skip))))))
q1)))
def zmD : ACode:=zhS zmC
def zmE : ACode:=.pr [1,5,6,17,18,19] (rg [bN 58 .add 19 (cI 1),
mV 19 58] [1,5,6,17,18,19])
def zhT (q2 q3 : ACode) : ACode:=.pr [1,5,6,17,18,19] (.seq (rg [bN 20 .lss 19 18] [1,5,6,17,18,19,20])
(.seq (.cond 20 .skip
(.exit 0))
(.seq (.block 1 (.seq (rg [mV 21 19,
iA 22 (some 2) 17 19,
lD 23 (some 2) 22,
uO 8 (.alloc [.p (.str []),.sl0 (some 4)]),
mV 7 21,
wO (.store (some 2) 8 23)] [1,5,6,7,8,17,18,19])
(.seq (rg [fA 24 1 none 8,
lD 25 none 24,
lN 26 25,
mV 27 (cI 0)] [1,5,6,7,8,17,18,19,25,26,27])
(.block 2 (.loop (.scope q2))))))
q3)))
def zmF : ACode:=zhT zmD zmE
def zmG : ACode:=.pr [6] (.seq (rg [mV 59 6,
mV 4 59] [4])
.ret)
def P_q00f (q4 q5 : ACode) : ACode:=(.seq (rg [uO 2 (.box 0),
mV 4 (.c (.nilm))] [1,2])
(.seq (rg [lD 13 (some 3) 2,
cL 14 zsD [13],
mV 5 14] [1,2,5])
(.seq (rg [uO 15 (.mkmap),
mV 6 15] [1,2,5,6])
(.seq (.seq (rg [fA 16 0 none 2,
lD 17 none 16,
lN 18 17,
mV 19 (cI 0)] [1,5,6,17,18,19])
(.block 0 (.loop (.scope q4))))
q5))))
def a_q00f : AFun:=⟨2,[.t 4],P_q00f zmF zmG,false,false⟩
def zmH : ACode:=.pr [1,13,14,15] (.seq (rg [bN 16 .lss 15 14] [1,13,14,15,16])
(.seq (.cond 16 .skip
(.exit 0))
(.seq (.block 1 (.seq (rg [iA 17 (some 4) 13 15,
lD 18 (some 4) 17,
uO 4 (.alloc [.p (.int .i64 0),.p (.str []),.p (.int .i64 0),.p (.int .i64 0)]),
wO (.store (some 4) 4 18)] [1,4,13,14,15])
(.seq (rg [lD 19 (some 2) 1,
lD 20 (some 4) 4,
cL 21 zs5 [19,20],
mV 5 21] [1,5,13,14,15])
(.seq (rg [mV 22 5,
bN 23 .neq 22 (cI 0)] [1,5,13,14,15,23])
(.cond 23 (.seq (rg [mV 24 5,
mV 2 24] [2])
.ret)
.skip)))))
(rg [bN 25 .add 15 (cI 1),
mV 15 25] [1,13,14,15]))))
def zmI : ACode:=.pr [1,27,28,29] (.seq (rg [bN 30 .lss 29 28] [1,27,28,29,30])
(.seq (.cond 30 .skip
(.exit 2))
(.seq (.block 3 (.seq (rg [mV 31 29,
iA 32 (some 4) 27 29,
lD 33 (some 4) 32,
uO 7 (.alloc [.p (.int .i64 0),.p (.str []),.p (.int .i64 0),.p (.int .i64 0)]),
mV 6 31,
wO (.store (some 4) 7 33)] [1,6,7,27,28,29])
(.seq (rg [lD 34 (some 4) 7,
cL 35 zch [34],
mV 36 35,
gD 37 36 true (.faddr 1 none 1),
gD 38 36 true (.load none 37),
gD 39 36 true (.mv 6),
gD 40 36 true (.slice (some 4) 38 none (some 39) none),
gD 41 36 true (.mkfn zs8 [7]),
gD 42 36 true (.call zlp [40,41]),
uO 43 (.pick 36 42 cF)] [1,27,28,29,43])
(.cond 43 (.seq (rg [mV 2 (cI 6)] [2])
.ret)
.skip))))
(rg [bN 44 .add 29 (cI 1),
mV 29 44] [1,27,28,29]))))
def zmJ : ACode:=.pr [] (.seq (rg [mV 2 (cI 0)] [2])
.ret)
def zhU (q2 q3 : ACode) : ACode:=.pr [1] (.seq (.seq (rg [fA 26 1 none 1,
lD 27 none 26,
lN 28 27,
mV 29 (cI 0)] [1,27,28,29])
(.block 2 (.loop (.scope q2))))
q3)
def zmK : ACode:=zhU zmI zmJ
def P_q00g (q1 q4 : ACode) : ACode:=(.seq (rg [uO 1 (.box 0),
mV 2 (cI 0)] [1])
(.seq (.seq (rg [fA 8 1 none 1,
lD 9 none 8,
lN 10 9,
bN 11 .gtr 10 (cI 200)] [1,11])
(.cond 11 (.seq (rg [mV 2 (cI 2)] [2])
.ret)
.skip))
(.seq (.seq (rg [fA 12 1 none 1,
lD 13 none 12,
lN 14 13,
mV 15 (cI 0)] [1,13,14,15])
(.block 0 (.loop (.scope q1))))
q4)))
def a_q00g : AFun:=⟨1,[.t 2],P_q00g zmH zmK,false,false⟩
def P_q00h : ACode:=(.seq (rg [uO 2 (.box 0),
mV 3 cF] [1,2])
(.seq (rg [fA 4 0 none 2,
lD 5 none 4,
fA 6 0 none 1,
lD 7 none 6,
bN 8 .eql 5 7,
mV 9 8,
gD 10 9 true (.faddr 1 none 2),
gD 11 9 true (.load none 10),
gD 12 9 true (.faddr 1 none 1),
gD 13 9 true (.load none 12),
gD 14 9 true (.bin .eql 11 13),
uO 15 (.pick 9 14 cF),
mV 3 15] [3])
.ret))
def a_q00h : AFun:=⟨2,[.t 3],P_q00h,false,false⟩
def P_q00i : ACode:=(.seq (rg [uO 2 (.box 0),
mV 4 (cI 0)] [1,2])
(.seq (rg [fA 8 0 none 2,
lD 9 none 8,
mV 10 1,
cL 11 zsX [9,10,(.f zsA)],
mV 7 11,
eX 12 7 0,
eX 13 7 1,
mV 5 12,
mV 6 13] [5,6])
(.seq (.seq (rg [mV 14 6,
uO 15 (.un .not 14)] [5,15])
(.cond 15 (.seq (rg [mV 4 (cI (-1))] [4])
.ret)
.skip))
(.seq (rg [mV 16 5,
mV 4 16] [4])
.ret))))
def a_q00i : AFun:=⟨2,[.t 4],P_q00i,false,false⟩
def P_q00j : ACode:=(.seq (rg [uO 2 (.box 0),
mV 4 (cI 0)] [1,2])
(.seq (rg [fA 5 0 none 2,
lD 6 none 5,
mV 7 1,
cL 8 z9j [6,7],
mV 4 8] [4])
.ret))
def a_q00j : AFun:=⟨2,[.t 4],P_q00j,false,false⟩
def P_q00k : ACode:=(.seq (rg [uO 1 (.box 0),
mV 2 cF] [1])
(.seq (rg [fA 3 0 none 1,
lD 4 none 3,
bN 5 .eql 4 (cI 1),
mV 6 5,
gD 7 6 false (.faddr 0 none 1),
gD 8 6 false (.load none 7),
gD 9 6 false (.bin .eql 8 (cI 2)),
uO 10 (.pick 6 cT 9),
mV 2 10] [2])
.ret))
def a_q00k : AFun:=⟨1,[.t 2],P_q00k,false,false⟩
def zmL : ACode:=.pr [1,14,15,16] (.seq (rg [bN 17 .lss 16 15] [1,14,15,16,17])
(.seq (.cond 17 .skip
(.exit 0))
(.seq (.block 1 (.seq (rg [mV 18 16,
iA 19 (some 3) 14 16,
lD 20 (some 3) 19,
uO 4 (.alloc [.p (.str []),.p (.str []),.p (.str [])]),
mV 3 18,
wO (.store (some 3) 4 20)] [1,3,4,14,15,16])
(.block 2 (.seq (rg [fA 22 0 none 4,
lD 23 none 22,
cL 24 z4C [23],
uO 25 (.un .not 24),
mV 21 25] [1,3,4,14,15,16,21])
(.cond 21 (.seq (rg [mV 2 (cI 5)] [2])
.ret)
(.seq (rg [lD 27 (some 3) 1,
fA 28 1 none 4,
lD 29 none 28,
fA 30 2 none 4,
lD 31 none 30,
cL 32 zsE [27,29,31],
uO 33 (.un .not 32),
mV 26 33] [1,3,4,14,15,16,26])
(.cond 26 (.seq (rg [mV 2 (cI 8)] [2])
.ret)
(.seq (dr [dF (mV 35 3) [3],
dF (bN 36 .gtr 35 (cI 0)) [35],
dF (mV 37 36) [36],
dF (gD 38 37 true (.load (some 3) 4)) [4,37],
dF (gD 39 37 true (.faddr 1 none 1)) [1,37],
dF (gD 40 37 true (.load none 39)) [39,37],
dF (gD 41 37 true (.mv 3)) [3,37],
dF (gD 42 37 true (.bin .sub 41 (cI 1))) [41,37],
dF (gD 43 37 true (.iaddr (some 3) 40 42)) [40,42,37],
dF (gD 44 37 true (.load (some 3) 43)) [43,37],
dT (gD 45 37 true (.call zs4 [38,44])) [38,44,37],
dF (gD 46 37 true (.bin .leq 45 (cI 0))) [45,37],
dF (uO 47 (.pick 37 46 cF)) [37,46],
dF (mV 34 47) [47]] [1,14,15,16,34])
(.cond 34 (.seq (rg [mV 2 (cI 7)] [2])
.ret)
.skip)))))))))
(rg [bN 48 .add 16 (cI 1),
mV 16 48] [1,14,15,16]))))
def zmM : ACode:=.pr [5,51,52,53] (.seq (rg [bN 54 .lss 53 52] [5,51,52,53,54])
(.seq (.cond 54 .skip
(.exit 3))
(.seq (.block 4 (.seq (rg [iA 55 (some 3) 51 53,
lD 56 (some 3) 55,
uO 7 (.alloc [.p (.str []),.p (.str []),.p (.str [])]),
wO (.store (some 3) 7 56)] [5,7,51,52,53])
(.seq (rg [fA 57 1 none 7,
lD 58 none 57,
fA 59 2 none 7,
lD 60 none 59,
uO 61 (.build [.p (.str []),.p (.str [])] [(0,1,58),(1,1,60)]),
uO 8 (.alloc [.p (.str []),.p (.str [])]),
wO (.store (some 2) 8 61)] [5,8,51,52,53])
(.seq (.seq (rg [mV 62 5,
lD 63 (some 2) 8,
uO 64 (.look ((some 2),[2,2]) false (AB false) 62 63)] [5,8,51,52,53,64])
(.cond 64 (.seq (rg [mV 2 (cI 6)] [2])
.ret)
.skip))
(rg [mV 65 5,
lD 66 (some 2) 8,
wO (.mupd ((some 2),[2,2]) 65 66 cT)] [5,51,52,53])))))
(rg [bN 67 .add 53 (cI 1),
mV 53 67] [5,51,52,53]))))
def zmN : ACode:=.pr [] (.seq (rg [mV 2 (cI 0)] [2])
.ret)
def zhV (q2 q3 : ACode) : ACode:=.pr [1] (.seq (rg [uO 49 (.mkmap),
mV 5 49] [1,5])
(.seq (.seq (rg [fA 50 1 none 1,
lD 51 none 50,
lN 52 51,
mV 53 (cI 0)] [5,51,52,53])
(.block 3 (.loop (.scope q2))))
q3))
def zmO : ACode:=zhV zmM zmN
def P_q00l (q1 q4 : ACode) : ACode:=(.seq (rg [uO 1 (.box 0),
mV 2 (cI 0)] [1])
(.seq (.seq (rg [fA 9 1 none 1,
lD 10 none 9,
lN 11 10,
bN 12 .gtr 11 (cI 1000)] [1,12])
(.cond 12 (.seq (rg [mV 2 (cI 2)] [2])
.ret)
.skip))
(.seq (.seq (rg [fA 13 1 none 1,
lD 14 none 13,
lN 15 14,
mV 16 (cI 0)] [1,14,15,16])
(.block 0 (.loop (.scope q1))))
q4)))
def a_q00l : AFun:=⟨1,[.t 2],P_q00l zmL zmO,false,false⟩
def zmP : ACode:=.pr [1,2,5,20,21,22] (.seq (rg [bN 23 .lss 22 21] [1,2,5,20,21,22,23])
(.seq (.cond 23 .skip
(.exit 0))
(.seq (.block 1 (.seq (rg [iA 24 none 20 22,
lD 25 none 24,
mV 7 25] [1,2,5,7,20,21,22])
(rg [mV 26 5,
mV 27 7,
wO (.mupd (none,[2]) 26 27 (cI 2))] [1,2,5,20,21,22])))
(rg [bN 28 .add 22 (cI 1),
mV 22 28] [1,2,5,20,21,22]))))
def zmQ : ACode:=.pr [1,2,5,30,31,32] (.seq (rg [bN 33 .lss 32 31] [1,2,5,30,31,32,33])
(.seq (.cond 33 .skip
(.exit 2))
(.seq (.block 3 (.seq (rg [iA 34 (some 2) 30 32,
lD 35 (some 2) 34,
uO 9 (.alloc [.p (.str []),.p (.int .i64 0)]),
wO (.store (some 2) 9 35)] [1,2,5,9,30,31,32])
(rg [mV 36 5,
fA 37 0 none 9,
lD 38 none 37,
fA 39 1 none 9,
lD 40 none 39,
wO (.mupd (none,[2]) 36 38 40)] [1,2,5,30,31,32])))
(rg [bN 41 .add 32 (cI 1),
mV 32 41] [1,2,5,30,31,32]))))
def zmR : ACode:=.pr [1,2,5,10,17,44,50,51,52] (rg [mV 100 5,
mV 101 10,
mV 102 17,
wO (.mupd (none,[2]) 100 101 102),
mV 12 cT] [1,2,5,10,12,44,50,51,52])
def zmS : ACode:=.pr [1,2,5,10,12,44,50,51,52] (rg [bN 103 .add 52 (cI 1),
mV 52 103] [1,2,5,10,12,44,50,51,52])
def zhW (q3 q4 : ACode) : ACode:=.pr [1,2,5,10,12,44,50,51,52] (.seq (rg [bN 53 .lss 52 51] [1,2,5,10,12,44,50,51,52,53])
(.seq (.cond 53 .skip
(.exit 6))
(.seq (.block 7 (.seq (rg [iA 54 (some 2) 50 52,
lD 55 (some 2) 54,
uO 14 (.alloc [.p (.int .i64 0),.p (.int .i64 0)]),
wO (.store (some 2) 14 55)] [1,2,5,10,12,14,44,50,51,52])
(.seq (dr [dF (fA 56 0 none 2) [2],
dF (lD 57 none 56) [56],
dF (fA 58 0 none 14) [14],
dF (lD 59 none 58) [58],
dF (iA 60 (some 2) 57 59) [57,59],
dF (fA 61 1 none 60) [60],
dF (lD 62 none 61) [61],
dF (fA 63 1 none 14) [14],
dF (lD 64 none 63) [63],
dF (iA 65 (some 4) 62 64) [62,64],
dF (lD 66 (some 4) 65) [65],
dF (mV 67 1) [1],
dF (fA 68 0 none 14) [14],
dF (lD 69 none 68) [68],
dF (iA 70 none 67 69) [67,69],
dF (lD 71 none 70) [70],
dA (uO 15 (.alloc [.p (.int .i64 0),.p (.str []),.p (.int .i64 0),.p (.int .i64 0)])) [] true [] [1,3,4,6,8,9,10,13,14,15],
dA (wO (.store (some 4) 15 66)) [15,66] true [] [13,14,15],
dF (mV 16 71) [71]] [1,2,5,10,12,14,15,16,44,50,51,52])
(.seq (.seq (dr [dF (fA 72 2 none 15) [15],
dF (lD 73 none 72) [72],
dF (bN 74 .geq 73 (cI 0)) [73],
dF (mV 75 74) [74],
dF (gD 76 75 true (.mv 16)) [16,75],
dF (gD 77 75 true (.faddr 2 none 15)) [15,75],
dF (gD 78 75 true (.load none 77)) [77,75],
dF (gD 79 75 true (.idxs 76 78)) [76,78,75],
dF (gD 80 75 true (.bin .sub 79 (.c (.p (.int .u8 48))))) [79,75],
dF (gD 81 75 true (.conv (.i .i64) 80)) [80,75],
dF (gD 82 75 true (.faddr 3 none 15)) [15,75],
dF (gD 83 75 true (.load none 82)) [82,75],
dF (gD 84 75 true (.bin .eql 81 83)) [81,83,75],
dF (uO 85 (.pick 75 84 cF)) [75,84]] [1,2,5,10,12,14,16,44,50,51,52,85])
(.cond 85 (.exit 7)
.skip))
(.seq (rg [mV 86 16,
fA 87 1 none 14,
lD 88 none 87,
uO 89 (.idxs 86 88),
bN 90 .sub 89 (.c (.p (.int .u8 48))),
uO 91 (.conv (.i .i64) 90),
mV 17 91] [1,2,5,10,12,17,44,50,51,52])
(.seq (.seq (rg [mV 92 12,
mV 93 92,
gD 94 93 true (.mv 5),
gD 95 93 true (.mv 10),
gD 96 93 true (.look (none,[2]) false (AI 0) 94 95),
gD 97 93 true (.mv 17),
gD 98 93 true (.bin .neq 96 97),
uO 99 (.pick 93 98 cF)] [1,2,5,10,17,44,50,51,52,99])
(.cond 99 (rg [mV 17 (cI 3)] [1,2,5,10,17,44,50,51,52])
.skip))
q3))))))
q4)))
def zmT : ACode:=zhW zmR zmS
def zhX (q5 : ACode) : ACode:=.pr [1,2,5,44] (.seq (rg [uO 45 (.mnext none [44]),
eX 46 45 0] [1,2,5,44,46])
(.seq (.cond 46 .skip
(.exit 4))
(.block 5 (.seq (rg [uO 47 (.mentry 44),
eX 48 47 0,
eX 49 47 1,
mV 10 48,
mV 11 49] [1,2,5,10,11,44])
(.seq (rg [mV 12 cF] [1,2,5,10,11,12,44])
(.seq (rg [mV 50 11,
lN 51 50,
mV 52 (cI 0)] [1,2,5,10,12,44,50,51,52])
(.block 6 (.loop (.scope q5)))))))))
def zmU : ACode:=zhX zmT
def zmV : ACode:=.pr [5] (.seq (rg [mV 104 5,
mV 4 104] [4])
.ret)
def zhY (q6 q7 : ACode) : ACode:=.pr [1,2,5] (.seq (.seq (rg [lD 42 (some 3) 2,
cL 43 zs6 [42,(cI 2)],
uO 44 (.mrange 43)] [1,2,5,44])
(.block 4 (.loop (.scope q6))))
q7)
def zmW : ACode:=zhY zmU zmV
def zhZ (q2 q8 : ACode) : ACode:=.pr [1,2,5] (.seq (.seq (rg [fA 29 2 none 2,
lD 30 none 29,
lN 31 30,
mV 32 (cI 0)] [1,2,5,30,31,32])
(.block 2 (.loop (.scope q2))))
q8)
def zmX : ACode:=zhZ zmQ zmW
def P_q00m (q1 q9 : ACode) : ACode:=(.det (.seq (rg [uO 2 (.box 0),
mV 4 (.c (.nilm))] [1,2])
(.seq (rg [uO 18 (.mkmap),
mV 5 18] [1,2,5])
(.seq (.seq (rg [lD 19 (some 3) 2,
cL 20 zeK [19],
lN 21 20,
mV 22 (cI 0)] [1,2,5,20,21,22])
(.block 0 (.loop q1)))
q9))))
def a_q00m : AFun:=⟨2,[.t 4],P_q00m zmP zmX,false,false⟩
def zmY : ACode:=.pr [3,7,8,9] (.seq (rg [bN 10 .lss 9 8] [3,7,8,9,10])
(.seq (.cond 10 .skip
(.exit 0))
(.seq (.block 1 (.seq (rg [iA 11 (some 3) 7 9,
lD 12 (some 3) 11,
uO 5 (.alloc [.p (.str []),.p (.str []),.p (.str [])]),
wO (.store (some 3) 5 12)] [3,5,7,8,9])
(rg [mV 13 3,
fA 14 0 none 5,
lD 15 none 14,
uO 16 (.bsl false none 1 (.str []) [(0,15)]),
uO 17 (.app none 13 16),
mV 3 17] [3,7,8,9])))
(rg [bN 18 .add 9 (cI 1),
mV 9 18] [3,7,8,9]))))
def zmZ : ACode:=.pr [3] (.seq (rg [mV 19 3,
cL 20 zsY [19],
mV 2 20] [2])
.ret)
def P_q00n (q1 q2 : ACode) : ACode:=(.seq (rg [uO 1 (.box 0),
mV 2 (.c (.p (.sl none [])))] [1])
(.seq (rg [uO 3 (.new0 none)] [1,3])
(.seq (.seq (rg [fA 6 1 none 1,
lD 7 none 6,
lN 8 7,
mV 9 (cI 0)] [3,7,8,9])
(.block 0 (.loop (.scope q1))))
q2)))
def a_q00n : AFun:=⟨1,[.t 2],P_q00n zmY zmZ,false,true⟩
def zna : ACode:=.pr [3,8,9,10] (.seq (rg [bN 11 .lss 10 9] [3,8,9,10,11])
(.seq (.cond 11 .skip
(.exit 0))
(.seq (.block 1 (.seq (rg [iA 12 (some 3) 8 10,
lD 13 (some 3) 12,
uO 5 (.alloc [.p (.str []),.p (.str []),.p (.str [])]),
wO (.store (some 3) 5 13)] [3,5,8,9,10])
(rg [mV 14 3,
fA 15 1 none 5,
lD 16 none 15,
fA 17 2 none 5,
lD 18 none 17,
uO 19 (.build [.p (.str []),.p (.str [])] [(0,1,16),(1,1,18)]),
fA 20 0 none 5,
lD 21 none 20,
wO (.mupd ((some 2),[2,2]) 14 19 21)] [3,8,9,10])))
(rg [bN 22 .add 10 (cI 1),
mV 10 22] [3,8,9,10]))))
def znb : ACode:=.pr [3] (.seq (rg [mV 23 3,
mV 2 23] [2])
.ret)
def P_q00o (q1 q2 : ACode) : ACode:=(.seq (rg [uO 1 (.box 0),
mV 2 (.c (.nilm))] [1])
(.seq (rg [uO 6 (.mkmap),
mV 3 6] [1,3])
(.seq (.seq (rg [fA 7 1 none 1,
lD 8 none 7,
lN 9 8,
mV 10 (cI 0)] [3,8,9,10])
(.block 0 (.loop (.scope q1))))
q2)))
def a_q00o : AFun:=⟨1,[.t 2],P_q00o zna znb,false,false⟩
def P_q00p : ACode:=(.seq (rg [uO 3 (.box 0),
uO 5 (.box 2),
mV 6 cF] [1,3,5])
(.seq (rg [lD 8 (some 3) 3,
mV 9 1,
cL 10 zs9 [8,9],
mV 7 10] [3,5,7])
(.seq (rg [mV 11 7,
bN 12 .geq 11 (cI 0),
mV 13 12,
gD 14 13 true (.faddr 0 none 3),
gD 15 13 true (.load none 14),
gD 16 13 true (.mv 7),
gD 17 13 true (.iaddr (some 2) 15 16),
gD 18 13 true (.faddr 1 none 17),
gD 19 13 true (.load none 18),
gD 20 13 true (.mkfn zsF [5]),
gD 21 13 true (.call zlp [19,20]),
uO 22 (.pick 13 21 cF),
mV 6 22] [6])
.ret)))
def a_q00p : AFun:=⟨3,[.t 6],P_q00p,false,false⟩
def P_q00q : ACode:=(.seq (rg [uO 2 (.box 0),
mV 3 cF] [1,2])
(.seq (rg [lD 4 (some 4) 2,
cL 5 zch [4],
mV 6 5,
gD 7 6 true (.faddr 1 none 2),
gD 8 6 true (.load none 7),
gD 9 6 true (.load none 1),
gD 10 6 true (.bin .eql 8 9),
uO 11 (.pick 6 10 cF),
mV 3 11] [3])
.ret))
def a_q00q : AFun:=⟨2,[.t 3],P_q00q,false,false⟩
def P_q00r : ACode:=(.seq (rg [mV 4 (cI 0)] [0,1])
(.seq (rg [mV 7 0,
cL 8 zlo [7],
mV 5 8] [0,1,5])
(.seq (rg [mV 9 1,
cL 10 zlo [9],
mV 6 10] [0,1,5,6])
(.seq (.seq (rg [mV 11 5] [0,1,6,11])
(.cond 11 (.seq (.seq (rg [mV 12 6] [12])
(.cond 12 (.seq (rg [mV 4 (cI 0)] [4])
.ret)
.skip))
(.seq (rg [mV 4 (cI (-1))] [4])
.ret))
.skip))
(.seq (.seq (rg [mV 13 6] [0,1,13])
(.cond 13 (.seq (rg [mV 4 (cI 1)] [4])
.ret)
.skip))
(.seq (.seq (rg [mV 14 0,
mV 15 1,
bN 16 .lss 14 15] [0,1,16])
(.cond 16 (.seq (rg [mV 4 (cI (-1))] [4])
.ret)
.skip))
(.seq (.seq (rg [mV 17 0,
mV 18 1,
bN 19 .gtr 17 18] [19])
(.cond 19 (.seq (rg [mV 4 (cI 1)] [4])
.ret)
.skip))
(.seq (rg [mV 4 (cI 0)] [4])
.ret))))))))
def a_q00r : AFun:=⟨2,[.t 4],P_q00r,false,false⟩
def znc : ACode:=.pr [3,6,7,8] (.seq (rg [bN 9 .lss 8 7] [3,6,7,8,9])
(.seq (.cond 9 .skip
(.exit 0))
(.seq (.block 1 (.seq (rg [iA 10 none 6 8,
lD 11 none 10,
mV 5 11] [3,5,6,7,8])
(.seq (rg [mV 12 5,
mV 13 3,
bN 14 .neq 12 13] [3,5,6,7,8,14])
(.cond 14 (.seq (rg [mV 15 5,
mV 2 15] [2])
.ret)
.skip))))
(rg [bN 16 .add 8 (cI 1),
mV 8 16] [3,6,7,8]))))
def znd : ACode:=.pr [3] (.seq (rg [mV 17 3,
mV 2 17] [2])
.ret)
def P_q00s (q1 q2 : ACode) : ACode:=(.seq (rg [mV 2 (cI 0)] [0])
(.seq (rg [mV 3 (cI 0)] [0,3])
(.seq (.seq (rg [mV 6 0,
lN 7 6,
mV 8 (cI 0)] [3,6,7,8])
(.block 0 (.loop q1)))
q2)))
def a_q00s : AFun:=⟨1,[.t 2],P_q00s znc znd,false,false⟩
def P_q00t : ACode:=(.seq (rg [mV 2 cF] [0])
(.seq (rg [mV 3 0,
mV 4 0,
bN 5 .neq 3 4,
mV 2 5] [2])
.ret))
def a_q00t : AFun:=⟨1,[.t 2],P_q00t,false,false⟩
def zne : ACode:=.pr [0,3,27,28,29] (.seq (rg [bN 30 .lss 29 28] [0,3,27,28,29,30])
(.seq (.cond 30 .skip
(.exit 1))
(.seq (.block 2 (.seq (rg [iA 31 none 27 29,
lD 32 none 31,
mV 6 32] [0,3,6,27,28,29])
(.seq (rg [mV 33 6,
mV 34 0,
bN 35 .sub 34 (cI 1),
cL 36 z1d [33,(cI 0),35]] [0,3,27,28,29,36])
(.cond 36 (.seq (rg [mV 4 (cI 1)] [4])
.ret)
.skip))))
(rg [bN 37 .add 29 (cI 1),
mV 29 37] [0,3,27,28,29]))))
def znf : ACode:=.pr [3,7,8] (.seq (.seq (rg [mV 53 8,
mV 54 7,
lN 55 54,
bN 56 .lss 53 55] [3,7,8,56])
(.cond 56 .skip
(.exit 3)))
(.seq (.block 4 (.seq (dr [dF (mV 59 7) [7],
dF (mV 60 8) [8],
dF (iA 61 none 59 60) [59,60],
dF (lD 62 none 61) [61],
dF (mV 63 7) [7],
dF (mV 64 8) [8],
dF (bN 65 .sub 64 (cI 1)) [64],
dF (iA 66 none 63 65) [63,65],
dF (lD 67 none 66) [66],
dF (bN 68 .leq 62 67) [62,67]] [3,7,8,68])
(.cond 68 (.seq (rg [mV 4 (cI 7)] [4])
.ret)
.skip)))
(rg [mV 57 8,
bN 58 .add 57 (cI 1),
mV 8 58] [3,7,8])))
def zng : ACode:=.pr [3,7] (.seq (.seq (rg [fA 69 0 none 3,
lD 70 none 69,
bN 71 .eql 70 (cI 5),
mV 72 71,
gD 73 72 true (.mv 7),
gD 74 72 true (.faddr 1 none 3),
gD 75 72 true (.load none 74),
gD 76 72 true (.iaddr none 75 (cI 0)),
gD 77 72 true (.load none 76),
gD 78 72 true (.call z4E [73,77]),
uO 79 (.pick 72 78 cF)] [79])
(.cond 79 (.seq (rg [mV 4 (cI 6)] [4])
.ret)
.skip))
(.seq (rg [mV 4 (cI 0)] [4])
.ret))
def zia (q2 q3 : ACode) : ACode:=.pr [3,7] (.seq (.seq (rg [mV 8 (cI 1)] [3,7,8])
(.block 3 (.loop q2)))
q3)
def znh : ACode:=zia znf zng
def zib (q4 : ACode) : ACode:=.pr [3] (.seq (.seq (dr [dF (fA 38 0 none 3) [3],
dF (lD 39 none 38) [38],
dT (cL 40 zsL [39]) [39],
dF (fA 41 1 none 3) [3],
dA (lD 42 none 41) [41] false [2] [],
dF (lN 43 42) [42],
dF (bN 44 .gtr 43 (cI 1)) [43],
dF (uO 45 (.eqa [] true 40 44)) [40,44]] [3,45])
(.cond 45 (.seq (rg [mV 4 (cI 3)] [4])
.ret)
.skip))
(.seq (rg [fA 46 1 none 3,
lD 47 none 46,
mV 7 47] [3,7])
(.seq (.seq (rg [fA 48 0 none 3,
lD 49 none 48,
bN 50 .eql 49 (cI 5)] [3,7,50])
(.cond 50 (rg [mV 51 7,
uO 52 (.slice none 51 (some (cI 1)) none none),
mV 7 52] [3,7])
.skip))
q4)))
def zni : ACode:=zib znh
def P_q00v (q1 q5 : ACode) : ACode:=(.seq (rg [uO 3 (.box 1),
mV 4 (cI 0)] [0,3])
(.seq (.block 0 (.seq (rg [mV 10 0,
cL 11 z1d [10,(cI 1),(cI 100)],
mV 9 11] [0,3,9])
(.cond 9 (.seq (rg [mV 4 (cI 1)] [4])
.ret)
(.seq (rg [fA 13 0 none 3,
lD 14 none 13,
cL 15 z1d [14,(cI 1),(cI 6)],
mV 12 15] [0,3,12])
(.cond 12 (.seq (rg [mV 4 (cI 4)] [4])
.ret)
(.seq (rg [fA 17 1 none 3,
lD 18 none 17,
lN 19 18,
bN 20 .eql 19 (cI 0),
mV 16 20] [0,3,16])
(.cond 16 (.seq (rg [mV 4 (cI 8)] [4])
.ret)
(.seq (rg [fA 22 1 none 3,
lD 23 none 22,
lN 24 23,
bN 25 .gtr 24 (cI 6),
mV 21 25] [0,3,21])
(.cond 21 (.seq (rg [mV 4 (cI 2)] [4])
.ret)
.skip)))))))))
(.seq (.seq (rg [fA 26 1 none 3,
lD 27 none 26,
lN 28 27,
mV 29 (cI 0)] [0,3,27,28,29])
(.block 1 (.loop q1)))
q5)))
def a_q00v : AFun:=⟨2,[.t 4],P_q00v zne zni,false,false⟩
def znj : ACode:=.pr [0,13,14,15] (.seq (rg [bN 16 .lss 15 14] [0,13,14,15,16])
(.seq (.cond 16 .skip
(.exit 1))
(.seq (.block 2 (.seq (rg [iA 17 none 13 15,
lD 18 none 17,
mV 4 18] [0,4,13,14,15])
(.block 3 (.seq (rg [mV 20 4,
cL 21 z2p [20],
uO 22 (.un .not 21),
mV 19 22] [0,4,13,14,15,19])
(.cond 19 (.seq (rg [mV 2 (cI 3)] [2])
.ret)
(.seq (rg [mV 24 4,
uO 25 (.lens 24),
bN 26 .gtr 25 (cI 64),
mV 23 26] [0,4,13,14,15,23])
(.cond 23 (.seq (rg [mV 2 (cI 2)] [2])
.ret)
(.seq (rg [mV 28 4,
uO 29 (.lens 28),
mV 30 0,
iA 31 none 30 (cI 0),
lD 32 none 31,
uO 33 (.lens 32),
bN 34 .neq 29 33,
mV 27 34] [0,13,14,15,27])
(.cond 27 (.seq (rg [mV 2 (cI 3)] [2])
.ret)
.skip)))))))))
(rg [bN 35 .add 15 (cI 1),
mV 15 35] [0,13,14,15]))))
def znk : ACode:=.pr [] (.seq (rg [mV 2 (cI 0)] [2])
.ret)
def P_q00w (q1 q2 : ACode) : ACode:=(.seq (rg [mV 2 (cI 0)] [0])
(.seq (.block 0 (.seq (rg [mV 6 0,
lN 7 6,
bN 8 .eql 7 (cI 0),
mV 5 8] [0,5])
(.cond 5 (.seq (rg [mV 2 (cI 8)] [2])
.ret)
(.seq (rg [mV 10 0,
lN 11 10,
bN 12 .gtr 11 (cI 100),
mV 9 12] [0,9])
(.cond 9 (.seq (rg [mV 2 (cI 2)] [2])
.ret)
.skip)))))
(.seq (.seq (rg [mV 13 0,
lN 14 13,
mV 15 (cI 0)] [0,13,14,15])
(.block 1 (.loop q1)))
q2)))
def a_q00w : AFun:=⟨1,[.t 2],P_q00w znj znk,false,false⟩
def znl : ACode:=.pr [0,7,18,19,20] (.seq (rg [bN 21 .lss 20 19] [0,7,18,19,20,21])
(.seq (.cond 21 .skip
(.exit 0))
(.seq (.block 1 (.seq (rg [iA 22 (some 2) 18 20,
lD 23 (some 2) 22,
uO 9 (.alloc [.p (.int .i64 0),.sl0 none]),
wO (.store (some 2) 9 23)] [0,7,9,18,19,20])
(dr [dF (mV 24 7) [7],
dF (lD 25 (some 2) 9) [9],
dF (mV 26 0) [0],
dF (iA 27 none 26 (cI 0)) [26],
dF (lD 28 none 27) [27],
dF (uO 29 (.lens 28)) [28],
dA (cL 30 zsO [29]) [29] true [] [1],
dT (cL 31 zsP [24,25,30]) [24,25,30]] [0,7,18,19,20])))
(rg [bN 32 .add 20 (cI 1),
mV 20 32] [0,7,18,19,20]))))
def znm : ACode:=.pr [0,7] (.seq (rg [mV 33 7,
mV 34 0,
iA 35 none 34 (cI 0),
lD 36 none 35,
uO 37 (.lens 36),
cL 38 zsN [33,37],
mV 4 38,
mV 5 (cI 0)] [4,5])
.ret)
def P_q00x (q1 q2 : ACode) : ACode:=(.seq (rg [mV 4 (.c (.p (.sl none []))),
mV 5 (cI 0)] [0,1])
(.seq (.seq (rg [mV 10 0,
mV 11 1,
cL 12 zsK [10,11],
mV 6 12] [0,1,6])
(.seq (rg [mV 13 6,
bN 14 .neq 13 (cI 0)] [0,1,6,14])
(.cond 14 (.seq (rg [mV 15 6,
mV 4 (.c (.p (.sl none []))),
mV 5 15] [4,5])
.ret)
.skip)))
(.seq (rg [mV 16 0,
cL 17 zsM [16],
mV 7 17] [0,1,7])
(.seq (.seq (rg [mV 18 1,
lN 19 18,
mV 20 (cI 0)] [0,7,18,19,20])
(.block 0 (.loop (.scope q1))))
q2))))
def a_q00x : AFun:=⟨2,[.t 4,.t 5],P_q00x znl znm,false,false⟩
def P_q00y : ACode:=(.seq (rg [uO 3 (.box 1),
mV 4 (.c (.p (.sl none []))),
mV 5 (cI 0)] [0,3])
(.seq (rg [mV 6 0,
lD 7 (some 2) 3,
uO 8 (.bsl false (some 2) 1 (.agg [.int .i64 0,.sl none []]) [(0,7)]),
cL 9 zsI [6,8],
eX 10 9 0,
eX 11 9 1,
mV 4 10,
mV 5 11] [4,5])
.ret))
def a_q00y : AFun:=⟨2,[.t 4,.t 5],P_q00y,false,false⟩
def znn : ACode:=.pr [0,14,15,16] (.seq (rg [bN 17 .lss 16 15] [0,14,15,16,17])
(.seq (.cond 17 .skip
(.exit 0))
(.seq (.block 1 (.seq (rg [iA 18 (some 2) 14 16,
lD 19 (some 2) 18,
uO 7 (.alloc [.p (.int .i64 0),.sl0 none]),
wO (.store (some 2) 7 19)] [0,7,14,15,16])
(.seq (rg [mV 20 0,
lN 21 20,
lD 22 (some 2) 7,
cL 23 zsG [21,22],
mV 8 23] [0,8,14,15,16])
(.seq (rg [mV 24 8,
bN 25 .neq 24 (cI 0)] [0,8,14,15,16,25])
(.cond 25 (.seq (rg [mV 26 8,
mV 4 26] [4])
.ret)
.skip)))))
(rg [bN 27 .add 16 (cI 1),
mV 16 27] [0,14,15,16]))))
def zno : ACode:=.pr [] (.seq (rg [mV 4 (cI 0)] [4])
.ret)
def P_q00z (q1 q2 : ACode) : ACode:=(.seq (rg [mV 4 (cI 0)] [0,1])
(.seq (.seq (rg [mV 9 0,
cL 10 zsH [9],
mV 5 10] [0,1,5])
(.seq (rg [mV 11 5,
bN 12 .neq 11 (cI 0)] [0,1,5,12])
(.cond 12 (.seq (rg [mV 13 5,
mV 4 13] [4])
.ret)
.skip)))
(.seq (.seq (rg [mV 14 1,
lN 15 14,
mV 16 (cI 0)] [0,14,15,16])
(.block 0 (.loop (.scope q1))))
q2)))
def a_q00z : AFun:=⟨2,[.t 4],P_q00z znn zno,false,false⟩
def P_q010 : ACode:=(.seq (rg [mV 2 cF] [0])
(.seq (rg [mV 3 0,
cL 4 z1d [3,(cI 3),(cI 5)],
uO 5 (.un .not 4),
mV 2 5] [2])
.ret))
def a_q010 : AFun:=⟨1,[.t 2],P_q010,false,false⟩
def znp : ACode:=.pr [3,5,6,8,9,10,15,16] (.seq (rg [bN 17 .lss 16 15] [3,5,6,8,9,10,15,16,17])
(.seq (.cond 17 .skip
(.exit 2))
(.seq (.block 3 (.seq (rg [mV 18 16,
mV 7 18] [3,5,6,7,8,9,10,15,16])
(rg [mV 19 6,
mV 20 5,
mV 21 7,
uO 22 (.idxs 20 21),
bN 23 .sub 22 (.c (.p (.int .u8 48))),
uO 24 (.conv (.i .u64) 23),
mV 25 7,
bN 26 .shl 24 25,
bN 27 .or 19 26,
mV 6 27] [3,5,6,8,9,10,15,16])))
(rg [bN 28 .add 16 (cI 1),
mV 16 28] [3,5,6,8,9,10,15,16]))))
def znq : ACode:=.pr [3,6,8,9,10] (rg [mV 29 3,
mV 30 6,
uO 31 (.bsl false none 1 (.int .u64 0) [(0,30)]),
uO 32 (.app none 29 31),
mV 3 32] [3,8,9,10])
def znr : ACode:=.pr [3,8,9,10] (rg [bN 33 .add 10 (cI 1),
mV 10 33] [3,8,9,10])
def zic (q1 q2 q3 : ACode) : ACode:=.pr [3,8,9,10] (.seq (rg [bN 11 .lss 10 9] [3,8,9,10,11])
(.seq (.cond 11 .skip
(.exit 0))
(.seq (.block 1 (.seq (rg [iA 12 none 8 10,
lD 13 none 12,
mV 5 13] [3,5,8,9,10])
(.seq (rg [mV 6 (.c (.p (.int .u64 0)))] [3,5,6,8,9,10])
(.seq (.seq (rg [mV 14 5,
uO 15 (.lens 14),
mV 16 (cI 0)] [3,5,6,8,9,10,15,16])
(.block 2 (.loop q1)))
q2))))
q3)))
def zns : ACode:=zic znp znq znr
def znt : ACode:=.pr [3] (.seq (rg [mV 34 3,
mV 2 34] [2])
.ret)
def P_q011 (q4 q5 : ACode) : ACode:=(.seq (rg [mV 2 (.c (.p (.sl none [])))] [0])
(.seq (rg [uO 3 (.new0 none)] [0,3])
(.seq (.seq (rg [mV 8 0,
lN 9 8,
mV 10 (cI 0)] [3,8,9,10])
(.block 0 (.loop (.scope q4))))
q5)))
def a_q011 : AFun:=⟨1,[.t 2],P_q011 zns znt,false,true⟩
def znu : ACode:=.pr [1,5,7,8,10,11,12,19,20] (.seq (rg [bN 21 .lss 20 19] [1,5,7,8,10,11,12,19,20,21])
(.seq (.cond 21 .skip
(.exit 2))
(.seq (.block 3 (.seq (rg [mV 22 20,
mV 9 22] [1,5,7,8,9,10,11,12,19,20])
(rg [mV 23 8,
mV 24 9,
mV 25 7,
mV 26 9,
bN 27 .shr 25 26,
bN 28 .and 27 (.c (.p (.int .u64 1))),
bN 29 .add (.c (.p (.int .u64 48))) 28,
uO 30 (.conv (.i .u8) 29),
iA 31 none 23 24,
wO (.store none 31 30)] [1,5,7,8,10,11,12,19,20])))
(rg [bN 32 .add 20 (cI 1),
mV 20 32] [1,5,7,8,10,11,12,19,20]))))
def znv : ACode:=.pr [1,5,8,10,11,12] (rg [mV 33 5,
mV 34 8,
uO 35 (.conv .b2s 34),
uO 36 (.bsl false none 1 (.str []) [(0,35)]),
uO 37 (.app none 33 36),
mV 5 37] [1,5,10,11,12])
def znw : ACode:=.pr [1,5,10,11,12] (rg [bN 38 .add 12 (cI 1),
mV 12 38] [1,5,10,11,12])
def zid (q1 q2 q3 : ACode) : ACode:=.pr [1,5,10,11,12] (.seq (rg [bN 13 .lss 12 11] [1,5,10,11,12,13])
(.seq (.cond 13 .skip
(.exit 0))
(.seq (.block 1 (.seq (rg [iA 14 none 10 12,
lD 15 none 14,
mV 7 15] [1,5,7,10,11,12])
(.seq (rg [mV 16 1,
uO 17 (.mksl none (.int .u8 0) 16 16),
mV 8 17] [1,5,7,8,10,11,12])
(.seq (.seq (rg [mV 18 8,
lN 19 18,
mV 20 (cI 0)] [1,5,7,8,10,11,12,19,20])
(.block 2 (.loop q1)))
q2))))
q3)))
def znx : ACode:=zid znu znv znw
def zny : ACode:=.pr [5] (.seq (rg [mV 39 5,
mV 4 39] [4])
.ret)
def P_q012 (q4 q5 : ACode) : ACode:=(.seq (rg [mV 4 (.c (.p (.sl none [])))] [0,1])
(.seq (rg [uO 5 (.new0 none)] [0,1,5])
(.seq (.seq (rg [mV 10 0,
lN 11 10,
mV 12 (cI 0)] [1,5,10,11,12])
(.block 0 (.loop (.scope q4))))
q5)))
def a_q012 : AFun:=⟨2,[.t 4],P_q012 znx zny,false,false⟩
def P_q013 : ACode:=(.seq (rg [mV 2 (.c (.p (.int .u64 0)))] [0])
(.seq (rg [mV 3 0,
bN 4 .shl (.c (.p (.int .u64 1))) 3,
bN 5 .sub 4 (.c (.p (.int .u64 1))),
mV 2 5] [2])
.ret))
def a_q013 : AFun:=⟨1,[.t 2],P_q013,false,false⟩
def znz : ACode:=.pr [0,4,6,31,32,33] (.seq (rg [bN 34 .lss 33 32] [0,4,6,31,32,33,34])
(.seq (.cond 34 .skip
(.exit 1))
(.seq (.block 2 (.seq (rg [iA 35 none 31 33,
lD 36 none 35,
mV 8 36] [0,4,6,8,31,32,33])
(rg [mV 37 6,
mV 38 0,
mV 39 8,
iA 40 none 38 39,
lD 41 none 40,
bN 42 .and 37 41,
mV 6 42] [0,4,6,31,32,33])))
(rg [bN 43 .add 33 (cI 1),
mV 33 43] [0,4,6,31,32,33]))))
def zn0 : ACode:=.pr [0,4,6,47,48,49] (.seq (rg [bN 50 .lss 49 48] [0,4,6,47,48,49,50])
(.seq (.cond 50 .skip
(.exit 3))
(.seq (.block 4 (.seq (rg [iA 51 none 47 49,
lD 52 none 51,
mV 10 52] [0,4,6,10,47,48,49])
(rg [mV 53 6,
mV 54 0,
mV 55 10,
iA 56 none 54 55,
lD 57 none 56,
bN 58 .or 53 57,
mV 6 58] [0,4,6,47,48,49])))
(rg [bN 59 .add 49 (cI 1),
mV 49 59] [0,4,6,47,48,49]))))
def zie (q1 q2 : ACode) : ACode:=.pr [0,2,4,6,21,24] (.cond 24 (rg [mV 27 2,
mV 6 27] [0,4,6])
(.seq (rg [bN 29 .eql 21 (cI 3),
mV 28 29] [0,4,6,21,28])
(.cond 28 (.seq (rg [fA 30 1 none 4,
lD 31 none 30,
lN 32 31,
mV 33 (cI 0)] [0,4,6,31,32,33])
(.block 1 (.loop q1)))
(.seq (rg [bN 45 .eql 21 (cI 4),
mV 44 45] [0,4,6,44])
(.cond 44 (.seq (rg [fA 46 1 none 4,
lD 47 none 46,
lN 48 47,
mV 49 (cI 0)] [0,4,6,47,48,49])
(.block 3 (.loop q2)))
.skip)))))
def zn1 : ACode:=zie znz zn0
def zn2 : ACode:=.pr [0,6,61,62,63] (.seq (rg [bN 64 .lss 63 62] [0,6,61,62,63,64])
(.seq (.cond 64 .skip
(.exit 5))
(.seq (.block 6 (.seq (rg [iA 65 none 61 63,
lD 66 none 65,
mV 12 66] [0,6,12,61,62,63])
(rg [mV 67 0,
mV 68 12,
mV 69 6,
iA 70 none 67 68,
wO (.store none 70 69)] [0,6,61,62,63])))
(rg [bN 71 .add 63 (cI 1),
mV 63 71] [0,6,61,62,63]))))
def zif (q4 : ACode) : ACode:=.pr [0,4,6] (.seq (rg [fA 60 1 none 4,
lD 61 none 60,
lN 62 61,
mV 63 (cI 0)] [0,6,61,62,63])
(.block 5 (.loop q4)))
def zn3 : ACode:=zif zn2
def P_q014 (q3 q5 : ACode) : ACode:=(.seq (rg [uO 4 (.box 1)] [0,2,4])
(.seq (rg [mV 13 0,
fA 14 1 none 4,
lD 15 none 14,
iA 16 none 15 (cI 0),
lD 17 none 16,
iA 18 none 13 17,
lD 19 none 18,
mV 6 19] [0,2,4,6])
(.seq (.seq (rg [fA 20 0 none 4,
lD 21 none 20] [0,2,4,6,21])
(.block 0 (.seq (rg [bN 23 .eql 21 (cI 1),
mV 22 23] [0,2,4,6,21,22])
(.cond 22 (rg [mV 6 (.c (.p (.int .u64 0)))] [0,4,6])
(.seq (.seq (rg [bN 25 .eql 21 (cI 2),
mV 24 25] [0,2,4,6,21,24])
(.cond 24 .skip
(rg [bN 26 .eql 21 (cI 6),
mV 24 26] [0,2,4,6,21,24])))
q3)))))
q5)))
def a_q014 : AFun:=⟨3,[],P_q014 zn1 zn3,true,false⟩
def P_q018 : ACode:=(.seq (rg [mV 4 (cI 0)] [0,1])
(.seq (rg [mV 5 0,
mV 6 1,
cL 7 z0r [5,6],
mV 4 7] [4])
.ret))
def a_q018 : AFun:=⟨2,[.t 4],P_q018,false,false⟩
def P_q01y : ACode:=(.seq (rg [uO 2 (.alloc [.p (.int .i64 0),.p (.int .i64 0)]),
uO 3 (.alloc [.p (.int .i64 0),.p (.int .i64 0)]),
mV 4 (cI 0)] [0,2,3])
(.seq (.seq (rg [mV 9 0,
cL 10 zsU [9,(cI 1)],
mV 5 10] [0,2,3,5])
(.seq (rg [mV 11 5,
bN 12 .neq 11 (cI 0)] [0,2,3,5,12])
(.cond 12 (.seq (rg [uO 13 (.build [.p (.int .i64 0),.p (.int .i64 0)] []),
uO 14 (.build [.p (.int .i64 0),.p (.int .i64 0)] []),
mV 15 5,
wO (.store (some 2) 2 13),
wO (.store (some 2) 3 14),
mV 4 15] [2,3,4])
.ret)
.skip)))
(.seq (rg [mV 17 0,
cL 18 zsT [17],
mV 16 18,
eX 19 16 0,
eX 20 16 1,
mV 6 19,
mV 7 20] [0,2,3,6,7])
(.seq (rg [mV 21 0,
lN 22 21,
mV 8 22] [2,3,6,7,8])
(.seq (rg [mV 23 6,
mV 24 8,
cL 25 zlk [23,24],
mV 26 7,
mV 27 8,
mV 28 8,
bN 29 .mul 27 28,
cL 30 zlk [26,29],
wO (.store (some 2) 2 25),
wO (.store (some 2) 3 30),
mV 4 (cI 0)] [2,3,4])
.ret)))))
def a_q01y : AFun:=⟨1,[.cell 2 (some 2),.cell 3 (some 2),.t 4],P_q01y,false,false⟩
def P_q01z : ACode:=(.seq (rg [mV 2 cF] [0])
(.seq (rg [mV 3 0,
cL 4 z1d [3,(cI (-100000)),(cI 100000)],
uO 5 (.un .not 4),
mV 2 5] [2])
.ret))
def a_q01z : AFun:=⟨1,[.t 2],P_q01z,false,false⟩
def zn4 : ACode:=.pr [0,2,4,7,8,9] (.seq (rg [bN 10 .lss 9 8] [0,2,4,7,8,9,10])
(.seq (.cond 10 .skip
(.exit 0))
(.seq (.block 1 (.seq (rg [iA 11 none 7 9,
lD 12 none 11,
mV 6 12] [0,2,4,6,7,8,9])
(.seq (rg [mV 13 2,
mV 14 6,
bN 15 .add 13 14,
mV 2 15] [0,2,4,6,7,8,9])
(rg [mV 16 4,
mV 17 6,
mV 18 6,
bN 19 .mul 17 18,
bN 20 .add 16 19,
mV 4 20] [0,2,4,7,8,9]))))
(rg [bN 21 .add 9 (cI 1),
mV 9 21] [0,2,4,7,8,9]))))
def zn5 : ACode:=.pr [0,2,4] (.seq (rg [mV 22 2,
mV 23 0,
lN 24 23,
mV 25 4,
bN 26 .mul 24 25,
mV 27 2,
mV 28 2,
bN 29 .mul 27 28,
bN 30 .sub 26 29,
mV 2 22,
mV 3 30] [2,3])
.ret)
def P_q020 (q1 q2 : ACode) : ACode:=(.seq (rg [mV 2 (cI 0),
mV 3 (cI 0)] [0,2])
(.seq (rg [mV 4 (cI 0)] [0,2,4])
(.seq (.seq (rg [mV 7 0,
lN 8 7,
mV 9 (cI 0)] [0,2,4,7,8,9])
(.block 0 (.loop q1)))
q2)))
def a_q020 : AFun:=⟨1,[.t 2,.t 3],P_q020 zn4 zn5,false,false⟩
def P_q021 : ACode:=(.seq (rg [mV 4 (cI 0)] [0,1])
(.seq (.block 0 (.seq (rg [mV 6 0,
lN 7 6,
mV 8 1,
bN 9 .lss 7 8,
mV 5 9] [0,5])
(.cond 5 (.seq (rg [mV 4 (cI 8)] [4])
.ret)
(.seq (rg [mV 11 0,
lN 12 11,
bN 13 .gtr 12 (cI 5000),
mV 10 13] [0,10])
(.cond 10 (.seq (rg [mV 4 (cI 2)] [4])
.ret)
(.seq (rg [mV 15 0,
cL 16 zsZ [15,(.f zsV)],
mV 14 16] [14])
(.cond 14 (.seq (rg [mV 4 (cI 1)] [4])
.ret)
.skip)))))))
(.seq (rg [mV 4 (cI 0)] [4])
.ret)))
def a_q021 : AFun:=⟨2,[.t 4],P_q021,false,false⟩
def P_q022 : ACode:=(.seq (rg [mV 2 cF] [0])
(.seq (rg [mV 3 0,
cL 4 zsS [3],
uO 5 (.un .not 4),
mV 2 5] [2])
.ret))
def a_q022 : AFun:=⟨1,[.t 2],P_q022,false,false⟩
def P_q02g : ACode:=(.seq (rg [mV 0 cF] [])
(.seq (rg [cL 13 zsW [],
uO 14 (.bsl false none 1 (.str []) [(0,(cS [49]))]),
cL 15 zs3 [13,14],
mV 12 15,
eX 16 12 0,
eX 17 12 1,
mV 1 16,
mV 2 17] [1,2])
(.seq (rg [uO 19 (.bsl false none 1 (.str []) [(0,(cS [48,49]))]),
uO 20 (.bsl false none 1 (.int .i64 0) [(0,(cI 0))]),
uO 21 (.build [.p (.int .i64 0),.sl0 none] [(0,1,(cI 2)),(1,1,20)]),
cL 22 zsJ [19,21],
mV 18 22,
eX 23 18 0,
eX 24 18 1,
mV 3 23,
mV 4 24] [1,2,3,4])
(.seq (rg [uO 26 (.build [.p (.int .i64 0),.p (.int .i64 0),.p (.int .i64 0),.p (.str []),.p (.str []),.p (.str [])] [(0,1,(cI 7)),(3,1,(cS [49,48]))]),
uO 27 (.bsl false (some 6) 1 (.agg [.int .i64 0,.int .i64 0,.int .i64 0,.str [],.str [],.str []]) [(0,26)]),
cL 28 z63 [27],
mV 25 28,
eX 29 25 0,
eX 30 25 1,
mV 5 29,
mV 6 30] [1,2,3,4,5,6])
(.seq (rg [uO 32 (.bsl false none 2 (.int .i64 0) [(0,(cI 1)),(1,(cI 3))]),
cL 33 zsR [32],
mV 31 33,
eX 34 31 0,
eX 35 31 1,
eX 36 31 2,
uO 7 (.alloc [.p (.int .i64 0),.p (.int .i64 0)]),
uO 8 (.alloc [.p (.int .i64 0),.p (.int .i64 0)]),
wO (.store (some 2) 7 34),
wO (.store (some 2) 8 35),
mV 9 36] [1,2,3,4,5,6,7,9])
(.seq (rg [uO 38 (.bsl false none 1 (.str []) [(0,(cS [115,99,97,110]))]),
uO 39 (.build [.sl0 none,.p (.int .i64 0)] [(0,1,38),(1,1,(cI 1))]),
uO 40 (.build [.p (.str []),.p (.int .i64 0),.p (.int .i64 0),.p (.int .i64 0),.p (.str []),.p (.str []),.p (.str []),.p (.int .i64 0)] [(0,1,(cS [97])),(1,1,(cI 1)),(3,1,(cI 1)),(4,1,(cS [98]))]),
uO 41 (.bsl false (some 8) 1 (.agg [.str [],.int .i64 0,.int .i64 0,.int .i64 0,.str [],.str [],.str [],.int .i64 0]) [(0,40)]),
cL 42 zte [39,41,(cS [98]),(cI 0)],
mV 37 42,
eX 43 37 0,
eX 44 37 1,
uO 10 (.alloc [.p (.int .i64 0),.p (.int .i64 0),.p (.str []),.p (.str []),.p (.int .i64 0)]),
wO (.store (some 5) 10 43),
mV 11 44] [1,2,3,4,5,6,7,9,10,11])
(.seq (rg [mV 45 2,
mV 46 4,
mV 47 6,
mV 48 9,
mV 49 11,
uO 50 (.bsl false none 5 (.int .i64 0) [(0,45),(1,46),(2,47),(3,48),(4,49)]),
cL 51 z60 [50],
bN 52 .eql 51 (cI 0),
mV 53 52,
gD 54 53 true (.mv 1),
gD 55 53 true (.len 54),
gD 56 53 true (.bin .eql 55 (cI 1)),
uO 57 (.pick 53 56 cF),
mV 58 57,
gD 59 58 true (.mv 1),
gD 60 58 true (.iaddr none 59 (cI 0)),
gD 61 58 true (.load none 60),
gD 62 58 true (.bin .eql 61 (cI 1)),
uO 63 (.pick 58 62 cF),
mV 64 63,
gD 65 64 true (.mv 3),
gD 66 64 true (.len 65),
gD 67 64 true (.bin .eql 66 (cI 1)),
uO 68 (.pick 64 67 cF),
mV 69 68,
gD 70 69 true (.mv 3),
gD 71 69 true (.iaddr none 70 (cI 0)),
gD 72 69 true (.load none 71),
gD 73 69 true (.bin .eql 72 (cS [49,49])),
uO 74 (.pick 69 73 cF),
mV 75 74,
gD 76 75 true (.mv 5),
gD 77 75 true (.bin .eql 76 (cI 9)),
uO 78 (.pick 75 77 cF),
mV 79 78,
gD 80 79 true (.faddr 0 none 7),
gD 81 79 true (.load none 80),
gD 82 79 true (.bin .eql 81 (cI 2)),
uO 83 (.pick 79 82 cF),
mV 84 83,
gD 85 84 true (.faddr 0 none 10),
gD 86 84 true (.load none 85),
gD 87 84 true (.bin .eql 86 (cI 1)),
uO 88 (.pick 84 87 cF),
mV 0 88] [0])
.ret)))))))
def a_q02g : AFun:=⟨0,[.t 0],P_q02g,false,false⟩
def P_q02h : ACode:=(.seq (rg [uO 0 (.alloc [.sl0 (some 2),.sl0 (some 3),.sl0 (some 2)])] [0])
(.seq (rg [uO 1 (.build [.p (.int .i64 0),.p (.str []),.p (.int .i64 0),.p (.int .i64 0)] [(0,1,(cI 2)),(1,1,(cS [97])),(2,1,(cI (-1)))]),
uO 2 (.bsl false (some 4) 1 (.agg [.int .i64 0,.str [],.int .i64 0,.int .i64 0]) [(0,1)]),
uO 3 (.build [.p (.str []),.sl0 (some 4)] [(0,1,(cS [117])),(1,1,2)]),
uO 4 (.bsl false (some 2) 1 (.agg [.str [],.sl (some 4) []]) [(0,3)]),
uO 5 (.build [.p (.str []),.p (.str []),.p (.str [])] [(0,1,(cS [110])),(1,1,(cS [117])),(2,1,(cS [97]))]),
uO 6 (.bsl false (some 3) 1 (.agg [.str [],.str [],.str []]) [(0,5)]),
uO 7 (.build [.sl0 (some 2),.sl0 (some 3),.sl0 (some 2)] [(0,1,4),(1,1,6)]),
wO (.store (some 3) 0 7)] [0])
.ret))
def a_q02h : AFun:=⟨0,[.cell 0 (some 3)],P_q02h,false,false⟩
def zn6 : ACode:=.pr [0,1,2,8,9,10] (.seq (.seq (rg [mV 15 9,
mV 16 10,
bN 17 .lss 15 16] [0,1,2,8,9,10,17])
(.cond 17 .skip
(.exit 0)))
(.block 1 (.seq (rg [mV 18 9,
mV 19 10,
bN 20 .add 18 19,
uO 21 (.conv (.i .u64) 20),
bN 22 .shr 21 (.c (.p (.int .u64 1))),
uO 23 (.conv (.i .i64) 22),
mV 11 23] [0,1,2,8,9,10,11])
(.seq (rg [mV 24 2,
mV 25 0,
mV 26 11,
iA 27 (some 2) 25 26,
lD 28 (some 2) 27,
mV 29 1,
uO 30 (.callv 24 [28,29]),
bN 31 .lss 30 (cI 0)] [0,1,2,8,9,10,11,31])
(.cond 31 (rg [mV 32 11,
bN 33 .add 32 (cI 1),
mV 9 33] [0,1,2,8,9,10])
(rg [mV 34 11,
mV 10 34] [0,1,2,8,9,10]))))))
def zn7 : ACode:=.pr [0,1,2,8,9] (.seq (rg [mV 35 9,
mV 36 9,
mV 37 8,
bN 38 .lss 36 37,
mV 39 38,
gD 40 39 true (.mv 2),
gD 41 39 true (.mv 0),
gD 42 39 true (.mv 9),
gD 43 39 true (.iaddr (some 2) 41 42),
gD 44 39 true (.load (some 2) 43),
gD 45 39 true (.mv 1),
gD 46 39 true (.callv 40 [44,45]),
gD 47 39 true (.bin .eql 46 (cI 0)),
uO 48 (.pick 39 47 cF),
mV 6 35,
mV 7 48] [6,7])
.ret)
def P_q03t (q1 q2 : ACode) : ACode:=(.seq (rg [mV 6 (cI 0),
mV 7 cF] [0,1,2])
(.seq (rg [mV 12 0,
lN 13 12,
mV 8 13] [0,1,2,8])
(.seq (rg [mV 14 8,
mV 9 (cI 0),
mV 10 14] [0,1,2,8,9,10])
(.seq (.block 0 (.loop q1))
q2))))
def a_q03t : AFun:=⟨3,[.t 6,.t 7],P_q03t zn6 zn7,false,false⟩
def zn8 : ACode:=.pr [0,3,4,5] (rg [mV 33 5,
bN 34 .add 33 (cI 1),
mV 5 34] [0,3,4,5])
def zig (q1 : ACode) : ACode:=.pr [0,3,4,5] (.seq (.seq (rg [mV 29 5,
mV 30 4,
lN 31 30,
bN 32 .lss 29 31] [0,3,4,5,32])
(.cond 32 .skip
(.exit 2)))
(.seq (.block 3 (.seq (dr [dF (mV 35 4) [4],
dF (mV 36 5) [5],
dF (iA 37 none 35 36) [35,36],
dF (lD 38 none 37) [37],
dF (mV 39 4) [4],
dF (mV 40 5) [5],
dF (bN 41 .sub 40 (cI 1)) [40],
dF (iA 42 none 39 41) [39,41],
dF (lD 43 none 42) [42],
dF (bN 44 .neq 38 43) [38,43]] [0,3,4,5,44])
(.cond 44 (.seq (rg [mV 45 0,
mV 46 3,
mV 47 4,
mV 48 5,
iA 49 none 47 48,
lD 50 none 49,
iA 51 none 45 46,
wO (.store none 51 50)] [0,3,4,5])
(rg [mV 52 3,
bN 53 .add 52 (cI 1),
mV 3 53] [0,3,4,5]))
.skip)))
q1))
def zn9 : ACode:=zig zn8
def znA : ACode:=.pr [0,3] (.seq (rg [mV 54 0,
mV 55 3,
uO 56 (.slice none 54 (some 55) none none),
wO (.clr none (.str []) 56)] [0,3])
(.seq (rg [mV 57 0,
mV 58 3,
uO 59 (.slice none 57 none (some 58) none),
mV 2 59] [2])
.ret))
def znB : ACode:=.pr [0,3] (rg [mV 14 3,
bN 15 .add 14 (cI 1),
mV 3 15] [0,3])
def zih (q2 q3 q4 : ACode) : ACode:=.pr [0,3] (.seq (.seq (rg [mV 10 3,
mV 11 0,
lN 12 11,
bN 13 .lss 10 12] [0,3,13])
(.cond 13 .skip
(.exit 0)))
(.seq (.block 1 (.seq (dr [dF (mV 16 0) [0],
dF (mV 17 3) [3],
dF (iA 18 none 16 17) [16,17],
dF (lD 19 none 18) [18],
dF (mV 20 0) [0],
dF (mV 21 3) [3],
dF (bN 22 .sub 21 (cI 1)) [21],
dF (iA 23 none 20 22) [20,22],
dF (lD 24 none 23) [23],
dF (bN 25 .eql 19 24) [19,24]] [0,3,25])
(.cond 25 (.seq (rg [mV 26 0,
mV 27 3,
uO 28 (.slice none 26 (some 27) none none),
mV 4 28] [0,3,4])
(.seq (.seq (rg [mV 5 (cI 1)] [0,3,4,5])
(.block 2 (.loop q2)))
q3))
.skip)))
q4))
def znC : ACode:=zih zn9 znA znB
def znD : ACode:=.pr [0] (.seq (rg [mV 60 0,
mV 2 60] [2])
.ret)
def P_q03u (q5 q6 : ACode) : ACode:=(.seq (rg [mV 2 (.c (.p (.sl none [])))] [0])
(.seq (.seq (rg [mV 6 0,
lN 7 6,
bN 8 .lss 7 (cI 2)] [0,8])
(.cond 8 (.seq (rg [mV 9 0,
mV 2 9] [2])
.ret)
.skip))
(.seq (.seq (rg [mV 3 (cI 1)] [0,3])
(.block 0 (.loop q5)))
q6)))
def a_q03u : AFun:=⟨1,[.t 2],P_q03u znC znD,true,false⟩
def P_q03v : ACode:=(.seq (rg [mV 4 cF] [0,1])
(.seq (rg [mV 5 0,
mV 6 1,
cL 7 zta [5,6],
bN 8 .geq 7 (cI 0),
mV 4 8] [4])
.ret))
def a_q03v : AFun:=⟨2,[.t 4],P_q03v,true,false⟩
def P_q03w : ACode:=(.seq (rg [mV 4 cF] [0,1])
(.seq (rg [mV 5 0,
mV 6 1,
cL 7 ztb [5,6],
bN 8 .geq 7 (cI 0),
mV 4 8] [4])
.ret))
def a_q03w : AFun:=⟨2,[.t 4],P_q03w,true,false⟩
def P_q03y : ACode:=(.seq (rg [mV 4 cF] [0,1])
(.seq (rg [mV 5 0,
mV 6 1,
cL 7 zlr [5,6],
bN 8 .geq 7 (cI 0),
mV 4 8] [4])
.ret))
def a_q03y : AFun:=⟨2,[.t 4],P_q03y,true,false⟩
def znE : ACode:=.pr [0,1,7,8] (.seq (rg [bN 9 .lss 8 7] [0,1,7,8,9])
(.seq (.cond 9 .skip
(.exit 0))
(.seq (.block 1 (.seq (rg [mV 10 8,
mV 5 10] [0,1,5,7,8])
(.seq (rg [mV 11 1,
mV 12 0,
mV 13 5,
iA 14 (some 4) 12 13,
lD 15 (some 4) 14,
uO 16 (.callv 11 [15])] [0,1,5,7,8,16])
(.cond 16 (.seq (rg [mV 17 5,
mV 4 17] [4])
.ret)
.skip))))
(rg [bN 18 .add 8 (cI 1),
mV 8 18] [0,1,7,8]))))
def znF : ACode:=.pr [] (.seq (rg [mV 4 (cI (-1))] [4])
.ret)
def P_q042 (q1 q2 : ACode) : ACode:=(.seq (rg [mV 4 (cI 0)] [0,1])
(.seq (.seq (rg [mV 6 0,
lN 7 6,
mV 8 (cI 0)] [0,1,7,8])
(.block 0 (.loop q1)))
q2))
def a_q042 : AFun:=⟨2,[.t 4],P_q042 znE znF,true,false⟩
def znG : ACode:=.pr [0,1,7,8] (.seq (rg [bN 9 .lss 8 7] [0,1,7,8,9])
(.seq (.cond 9 .skip
(.exit 0))
(.seq (.block 1 (.seq (rg [mV 10 8,
mV 5 10] [0,1,5,7,8])
(.seq (rg [mV 11 1,
mV 12 0,
mV 13 5,
iA 14 none 12 13,
lD 15 none 14,
uO 16 (.callv 11 [15])] [0,1,5,7,8,16])
(.cond 16 (.seq (rg [mV 17 5,
mV 4 17] [4])
.ret)
.skip))))
(rg [bN 18 .add 8 (cI 1),
mV 8 18] [0,1,7,8]))))
def znH : ACode:=.pr [] (.seq (rg [mV 4 (cI (-1))] [4])
.ret)
def P_q043 (q1 q2 : ACode) : ACode:=(.seq (rg [mV 4 (cI 0)] [0,1])
(.seq (.seq (rg [mV 6 0,
lN 7 6,
mV 8 (cI 0)] [0,1,7,8])
(.block 0 (.loop q1)))
q2))
def a_q043 : AFun:=⟨2,[.t 4],P_q043 znG znH,true,false⟩
def znI : ACode:=.pr [0,1,7,8] (.seq (rg [bN 9 .lss 8 7] [0,1,7,8,9])
(.seq (.cond 9 .skip
(.exit 0))
(.seq (.block 1 (.seq (rg [mV 10 8,
mV 5 10] [0,1,5,7,8])
(.seq (rg [mV 11 1,
mV 12 0,
mV 13 5,
iA 14 none 12 13,
lD 15 none 14,
bN 16 .eql 11 15] [0,1,5,7,8,16])
(.cond 16 (.seq (rg [mV 17 5,
mV 4 17] [4])
.ret)
.skip))))
(rg [bN 18 .add 8 (cI 1),
mV 8 18] [0,1,7,8]))))
def znJ : ACode:=.pr [] (.seq (rg [mV 4 (cI (-1))] [4])
.ret)
def P_q045 (q1 q2 : ACode) : ACode:=(.seq (rg [mV 4 (cI 0)] [0,1])
(.seq (.seq (rg [mV 6 0,
lN 7 6,
mV 8 (cI 0)] [0,1,7,8])
(.block 0 (.loop q1)))
q2))
def a_q045 : AFun:=⟨2,[.t 4],P_q045 znI znJ,true,false⟩
def znK : ACode:=.pr [0,9,10,11] (.seq (rg [bN 12 .lss 11 10] [0,9,10,11,12])
(.seq (.cond 12 .skip
(.exit 0))
(.seq (.block 1 (.seq (rg [mV 13 11,
iA 14 (some 8) 9 11,
lD 15 (some 8) 14,
uO 4 (.alloc [.p (.str []),.p (.int .i64 0),.p (.int .i64 0),.p (.int .i64 0),.p (.str []),.p (.str []),.p (.str []),.p (.int .i64 0)]),
mV 3 13,
wO (.store (some 8) 4 15)] [0,3,4,9,10,11])
(.seq (.seq (rg [lD 16 (some 8) 4,
cL 17 zth [16],
mV 5 17] [0,3,4,5,9,10,11])
(.seq (rg [mV 18 5,
bN 19 .neq 18 (cI 0)] [0,3,4,5,9,10,11,19])
(.cond 19 (.seq (rg [mV 20 5,
mV 2 20] [2])
.ret)
.skip)))
(.seq (dr [dF (mV 21 3) [3],
dF (bN 22 .gtr 21 (cI 0)) [21],
dF (mV 23 22) [22],
dF (gD 24 23 true (.load (some 8) 4)) [4,23],
dF (gD 25 23 true (.mv 0)) [0,23],
dF (gD 26 23 true (.mv 3)) [3,23],
dF (gD 27 23 true (.bin .sub 26 (cI 1))) [26,23],
dF (gD 28 23 true (.iaddr (some 8) 25 27)) [25,27,23],
dF (gD 29 23 true (.load (some 8) 28)) [28,23],
dT (gD 30 23 true (.call ztf [24,29])) [24,29,23],
dF (gD 31 23 true (.bin .leq 30 (cI 0))) [30,23],
dF (uO 32 (.pick 23 31 cF)) [23,31]] [0,9,10,11,32])
(.cond 32 (.seq (rg [mV 2 (cI 7)] [2])
.ret)
.skip)))))
(rg [bN 33 .add 11 (cI 1),
mV 11 33] [0,9,10,11]))))
def znL : ACode:=.pr [0] (.seq (.seq (rg [mV 34 0,
cL 35 ztp [34]] [35])
(.cond 35 (.seq (rg [mV 2 (cI 6)] [2])
.ret)
.skip))
(.seq (rg [mV 2 (cI 0)] [2])
.ret))
def P_q046 (q1 q2 : ACode) : ACode:=(.seq (rg [mV 2 (cI 0)] [0])
(.seq (.seq (rg [mV 6 0,
lN 7 6,
bN 8 .gtr 7 (cI 2000)] [0,8])
(.cond 8 (.seq (rg [mV 2 (cI 2)] [2])
.ret)
.skip))
(.seq (.seq (rg [mV 9 0,
lN 10 9,
mV 11 (cI 0)] [0,9,10,11])
(.block 0 (.loop (.scope q1))))
q2)))
def a_q046 : AFun:=⟨1,[.t 2],P_q046 znK znL,false,false⟩
def znM : ACode:=.pr [1,16,17,18] (.seq (rg [bN 19 .lss 18 17] [1,16,17,18,19])
(.seq (.cond 19 .skip
(.exit 1))
(.seq (.block 2 (.seq (rg [mV 20 18,
iA 21 none 16 18,
lD 22 none 21,
mV 3 20,
mV 4 22] [1,3,4,16,17,18])
(.block 3 (.seq (rg [mV 24 4,
cL 25 z4C [24],
uO 26 (.un .not 25),
mV 23 26] [1,3,4,16,17,18,23])
(.cond 23 (.seq (rg [mV 2 (cI 5)] [2])
.ret)
(.seq (rg [fA 28 0 none 1,
lD 29 none 28,
mV 30 3,
uO 31 (.slice none 29 none (some 30) none),
mV 32 4,
cL 33 zlq [31,32],
mV 27 33] [1,16,17,18,27])
(.cond 27 (.seq (rg [mV 2 (cI 6)] [2])
.ret)
.skip)))))))
(rg [bN 34 .add 18 (cI 1),
mV 18 34] [1,16,17,18]))))
def znN : ACode:=.pr [1] (.seq (.seq (rg [fA 35 1 none 1,
lD 36 none 35,
cL 37 z1d [36,(cI 1),(cI 10)]] [37])
(.cond 37 (.seq (rg [mV 2 (cI 1)] [2])
.ret)
.skip))
(.seq (rg [mV 2 (cI 0)] [2])
.ret))
def P_q047 (q1 q2 : ACode) : ACode:=(.seq (rg [uO 1 (.box 0),
mV 2 (cI 0)] [1])
(.seq (.block 0 (.seq (rg [fA 6 0 none 1,
lD 7 none 6,
lN 8 7,
bN 9 .eql 8 (cI 0),
mV 5 9] [1,5])
(.cond 5 (.seq (rg [mV 2 (cI 8)] [2])
.ret)
(.seq (rg [fA 11 0 none 1,
lD 12 none 11,
lN 13 12,
bN 14 .gtr 13 (cI 20),
mV 10 14] [1,10])
(.cond 10 (.seq (rg [mV 2 (cI 2)] [2])
.ret)
.skip)))))
(.seq (.seq (rg [fA 15 0 none 1,
lD 16 none 15,
lN 17 16,
mV 18 (cI 0)] [1,16,17,18])
(.block 1 (.loop q1)))
q2)))
def a_q047 : AFun:=⟨1,[.t 2],P_q047 znM znN,false,false⟩
end Go.Am
end
section
/- The functions asv abstract code,and asv formulas over their values: printed by program out of the translation. -/
set_option linter.unusedVariables false
set_option maxRecDepth 100000
namespace Go.Am
def P_q048 : ACode:=(.seq (rg [uO 4 (.box 0),
uO 8 (.alloc [.p (.int .i64 0),.p (.int .i64 0),.p (.str []),.p (.str []),.p (.int .i64 0)]),
mV 9 (cI 0)] [1,2,3,4,8])
(.seq (.seq (rg [lD 12 (some 2) 4,
mV 13 1,
mV 14 3,
cL 15 zti [12,13,14],
mV 10 15] [1,2,3,4,8,10])
(.seq (rg [mV 16 10,
bN 17 .neq 16 (cI 0)] [1,2,3,4,8,10,17])
(.cond 17 (.seq (rg [uO 18 (.build [.p (.int .i64 0),.p (.int .i64 0),.p (.str []),.p (.str []),.p (.int .i64 0)] []),
mV 19 10,
wO (.store (some 5) 8 18),
mV 9 19] [8,9])
.ret)
.skip)))
(.seq (.seq (rg [mV 20 2,
cL 21 z4C [20],
uO 22 (.un .not 21)] [1,2,3,4,8,22])
(.cond 22 (.seq (rg [uO 23 (.build [.p (.int .i64 0),.p (.int .i64 0),.p (.str []),.p (.str []),.p (.int .i64 0)] []),
wO (.store (some 5) 8 23),
mV 9 (cI 5)] [8,9])
.ret)
.skip))
(.seq (dr [dF (lD 24 (some 2) 4) [4],
dF (mV 25 1) [1],
dF (mV 26 3) [3],
dA (cL 27 ztq [25,26]) [25,26] true [] [0],
dT (cL 28 ztn [24,27]) [24,27],
dF (uO 29 (.nilchk 28)) [28],
dF (fA 30 2 none 29) [29],
dF (lD 31 none 30) [30],
dF (mV 32 2) [2],
dF (uO 33 (.look (none,[2]) false (.nilp) 31 32)) [31,32],
dF (mV 11 33) [33]] [8,11])
(.seq (.seq (rg [mV 34 11,
uO 35 (.isnil 0 false 34)] [8,11,35])
(.cond 35 (.seq (rg [uO 36 (.build [.p (.int .i64 0),.p (.int .i64 0),.p (.str []),.p (.str []),.p (.int .i64 0)] []),
wO (.store (some 5) 8 36),
mV 9 (cI 8)] [8,9])
.ret)
.skip))
(.seq (rg [mV 37 11,
uO 38 (.nilchk 37),
lD 39 (some 5) 38,
wO (.store (some 5) 8 39),
mV 9 (cI 0)] [8,9])
.ret))))))
def a_q048 : AFun:=⟨4,[.cell 8 (some 5),.t 9],P_q048,false,false⟩
def P_q049 : ACode:=(.seq (rg [uO 2 (.box 0),
uO 3 (.box 1),
mV 4 (cI 0)] [2,3])
(.seq (dr [dF (fA 5 2 none 2) [2],
dF (lD 6 none 5) [5],
dF (fA 7 2 none 3) [3],
dF (lD 8 none 7) [7],
dT (cL 9 zlm [6,8]) [6,8],
dF (fA 10 0 none 2) [2],
dA (lD 11 none 10) [10] false [4] [],
dF (fA 12 0 none 3) [3],
dA (lD 13 none 12) [12] false [4] [],
dT (cL 14 z9j [11,13]) [11,13],
dF (fA 15 1 none 2) [2],
dA (lD 16 none 15) [15] false [4,9] [],
dF (fA 17 1 none 3) [3],
dA (lD 18 none 17) [17] false [4,9] [],
dT (cL 19 zlm [16,18]) [16,18],
dF (uO 20 (.bsl false none 3 (.int .i64 0) [(0,9),(1,14),(2,19)])) [9,14,19],
dT (cL 21 zln [20]) [20],
dF (mV 4 21) [21]] [4])
.ret))
def a_q049 : AFun:=⟨2,[.t 4],P_q049,false,false⟩
def znO : ACode:=.pr [0,3,4,5] (rg [mV 16 5,
bN 17 .sub 16 (cI 1),
mV 5 17] [0,3,4,5])
def zii (q1 : ACode) : ACode:=.pr [0,3,4,5] (.seq (.seq (rg [mV 14 5,
bN 15 .geq 14 (cI 0)] [0,3,4,5,15])
(.cond 15 .skip
(.exit 0)))
(.seq (.block 1 (.seq (rg [mV 18 0,
mV 19 5,
iA 20 (some 8) 18 19,
lD 21 (some 8) 20,
uO 6 (.alloc [.p (.str []),.p (.int .i64 0),.p (.int .i64 0),.p (.int .i64 0),.p (.str []),.p (.str []),.p (.str []),.p (.int .i64 0)]),
wO (.store (some 8) 6 21)] [0,3,4,5,6])
(.seq (rg [mV 22 4,
mV 23 5,
mV 24 3,
fA 25 0 none 6,
lD 26 none 25,
fA 27 1 none 6,
lD 28 none 27,
uO 29 (.build [.p (.str []),.p (.int .i64 0)] [(0,1,26),(1,1,28)]),
uO 30 (.look ((some 2),[2,0]) false (AB false) 24 29),
uO 31 (.un .not 30),
iA 32 none 22 23,
wO (.store none 32 31)] [0,3,4,5,6])
(.seq (rg [mV 33 4,
mV 34 5,
iA 35 none 33 34,
lD 36 none 35,
mV 37 36,
gD 38 37 true (.faddr 3 none 6),
gD 39 37 true (.load none 38),
gD 40 37 true (.bin .eql 39 (cI 7)),
uO 41 (.pick 37 40 cF)] [0,3,4,5,6,41])
(.cond 41 (rg [mV 42 3,
fA 43 6 none 6,
lD 44 none 43,
fA 45 7 none 6,
lD 46 none 45,
uO 47 (.build [.p (.str []),.p (.int .i64 0)] [(0,1,44),(1,1,46)]),
wO (.mupd ((some 2),[2,0]) 42 47 cT)] [0,3,4,5])
.skip)))))
q1))
def znP : ACode:=zii znO
def znQ : ACode:=.pr [4] (.seq (rg [mV 48 4,
mV 2 48] [2])
.ret)
def P_q04a (q2 q3 : ACode) : ACode:=(.seq (rg [mV 2 (.c (.p (.sl none [])))] [0])
(.seq (rg [uO 7 (.mkmap),
mV 3 7] [0,3])
(.seq (rg [mV 8 0,
lN 9 8,
uO 10 (.mksl none (.bool false) 9 9),
mV 4 10] [0,3,4])
(.seq (.seq (rg [mV 11 0,
lN 12 11,
bN 13 .sub 12 (cI 1),
mV 5 13] [0,3,4,5])
(.block 0 (.loop (.scope q2))))
q3))))
def a_q04a : AFun:=⟨1,[.t 2],P_q04a znP znQ,false,false⟩
def P_q04b : ACode:=(.seq (rg [uO 1 (.box 0),
mV 2 (cI 0)] [1])
(.seq (dr [dF (fA 5 3 none 1) [1],
dF (lD 6 none 5) [5],
dF (bN 7 .eql 6 (cI 7)) [6],
dF (fA 8 3 none 1) [1],
dF (lD 9 none 8) [8],
dF (bN 10 .eql 9 (cI 2)) [9],
dF (mV 3 7) [7],
dF (mV 4 10) [10]] [1,3,4])
(.seq (.block 0 (.seq (rg [fA 12 0 none 1,
lD 13 none 12,
cL 14 z4C [13],
uO 15 (.un .not 14),
mV 11 15] [1,3,4,11])
(.cond 11 (.seq (rg [mV 2 (cI 5)] [2])
.ret)
(.seq (rg [fA 17 1 none 1,
lD 18 none 17,
cL 19 z1d [18,(cI 1),(cI 1000000)],
mV 20 19,
gD 21 20 false (.faddr 2 none 1),
gD 22 20 false (.load none 21),
gD 23 20 false (.call zll [22]),
gD 24 20 false (.un .not 23),
uO 25 (.pick 20 cT 24),
mV 16 25] [1,3,4,16])
(.cond 16 (.seq (rg [mV 2 (cI 1)] [2])
.ret)
(.seq (rg [fA 27 3 none 1,
lD 28 none 27,
cL 29 z1d [28,(cI 1),(cI 7)],
mV 26 29] [1,3,4,26])
(.cond 26 (.seq (rg [mV 2 (cI 4)] [2])
.ret)
(.seq (rg [mV 31 3,
uO 32 (.un .not 31),
mV 33 32,
gD 34 33 true (.faddr 4 none 1),
gD 35 33 true (.load none 34),
gD 36 33 true (.call z4C [35]),
gD 37 33 true (.un .not 36),
uO 38 (.pick 33 37 cF),
mV 39 38,
gD 40 39 false (.mv 4),
gD 41 39 false (.mv 40),
gD 42 41 true (.faddr 5 none 1),
gD 43 41 true (.load none 42),
gD 44 41 true (.call z4C [43]),
gD 45 41 true (.un .not 44),
gD 46 39 false (.pick 41 45 cF),
uO 47 (.pick 39 cT 46),
mV 48 47,
gD 49 48 false (.mv 3),
gD 50 48 false (.mv 49),
gD 51 50 true (.faddr 6 none 1),
gD 52 50 true (.load none 51),
gD 53 50 true (.call z4C [52]),
gD 54 50 true (.un .not 53),
gD 55 48 false (.pick 50 54 cF),
uO 56 (.pick 48 cT 55),
mV 30 56] [1,3,4,30])
(.cond 30 (.seq (rg [mV 2 (cI 5)] [2])
.ret)
(.seq (rg [mV 58 3,
mV 59 58,
gD 60 59 true (.faddr 7 none 1),
gD 61 59 true (.load none 60),
gD 62 59 true (.call z1d [61,(cI 1),(cI 1000000)]),
uO 63 (.pick 59 62 cF),
mV 57 63] [1,3,4,57])
(.cond 57 (.seq (rg [mV 2 (cI 1)] [2])
.ret)
(.seq (rg [mV 65 3,
mV 66 65,
gD 67 66 true (.faddr 4 none 1),
gD 68 66 true (.load none 67),
gD 69 66 true (.bin .neq 68 (cS [])),
uO 70 (.pick 66 69 cF),
mV 71 70,
gD 72 71 false (.mv 4),
gD 73 71 false (.un .not 72),
gD 74 71 false (.mv 73),
gD 75 74 true (.faddr 5 none 1),
gD 76 74 true (.load none 75),
gD 77 74 true (.bin .neq 76 (cS [])),
gD 78 71 false (.pick 74 77 cF),
uO 79 (.pick 71 cT 78),
mV 80 79,
gD 81 80 false (.mv 3),
gD 82 80 false (.un .not 81),
gD 83 80 false (.mv 82),
gD 84 83 true (.faddr 6 none 1),
gD 85 83 true (.load none 84),
gD 86 83 true (.bin .neq 85 (cS [])),
gD 87 83 true (.mv 86),
gD 88 87 false (.faddr 7 none 1),
gD 89 87 false (.load none 88),
gD 90 87 false (.bin .neq 89 (cI 0)),
gD 91 83 true (.pick 87 cT 90),
gD 92 80 false (.pick 83 91 cF),
uO 93 (.pick 80 cT 92),
mV 64 93] [64])
(.cond 64 (.seq (rg [mV 2 (cI 3)] [2])
.ret)
.skip)))))))))))))
(.seq (rg [mV 2 (cI 0)] [2])
.ret))))
def a_q04b : AFun:=⟨1,[.t 2],P_q04b,false,false⟩
def P_q04c : ACode:=(.seq (rg [uO 3 (.box 0),
mV 6 (cI 0)] [1,2,3])
(.seq (rg [lD 7 (some 2) 3,
cL 8 ztd [7],
mV 9 1,
cL 10 ztc [9],
mV 11 2,
cL 12 zto [11],
uO 13 (.bsl false none 3 (.int .i64 0) [(0,8),(1,10),(2,12)]),
cL 14 zsz [13],
mV 6 14] [6])
.ret))
def a_q04c : AFun:=⟨3,[.t 6],P_q04c,false,false⟩
def P_q04d : ACode:=(.seq (rg [mV 4 (cI 0)] [0,1])
(.seq (rg [mV 5 0,
uO 6 (.nilchk 5),
fA 7 0 (some 2) 6,
fA 8 0 none 7,
lD 9 none 8,
mV 10 1,
cL 11 zlr [9,10],
mV 4 11] [4])
.ret))
def a_q04d : AFun:=⟨2,[.t 4],P_q04d,false,false⟩
def znR : ACode:=.pr [] (.seq (rg [mV 6 (cI 0)] [6])
.ret)
def znS : ACode:=.pr [] (.seq (rg [mV 6 (cI 0)] [6])
.ret)
def zij (q2 : ACode) : ACode:=.pr [0,1] (.seq (rg [mV 98 1,
uO 99 (.nilchk 98),
fA 100 4 none 99,
lD 101 none 100,
bN 102 .add 101 (cI 1),
uO 103 (.nilchk 98),
fA 104 4 none 103,
wO (.store none 104 102)] [0,1])
(.seq (rg [mV 105 1,
uO 106 (.nilchk 105),
fA 107 0 none 106,
wO (.store none 107 (cI 3))] [0,1])
(.seq (.seq (dr [dF (mV 108 1) [1],
dF (uO 109 (.nilchk 108)) [108],
dF (fA 110 4 none 109) [109],
dF (lD 111 none 110) [110],
dF (mV 112 0) [0],
dF (uO 113 (.nilchk 112)) [112],
dF (fA 114 0 (some 2) 113) [113],
dF (fA 115 1 none 114) [114],
dF (lD 116 none 115) [115],
dF (bN 117 .eql 111 116) [111,116]] [1,117])
(.cond 117 (rg [mV 118 1,
uO 119 (.nilchk 118),
fA 120 0 none 119,
wO (.store none 120 (cI 5))] [])
.skip))
q2)))
def znT : ACode:=zij znS
def P_q04e (q1 q3 : ACode) : ACode:=(.seq (rg [uO 5 (.box 2),
mV 6 (cI 0)] [0,1,5])
(.seq (.block 0 (.seq (rg [mV 10 1,
uO 11 (.nilchk 10),
fA 12 0 none 11,
lD 13 none 12,
bN 14 .neq 13 (cI 2),
mV 9 14] [0,1,5,9])
(.cond 9 (.seq (rg [mV 6 (cI 11)] [6])
.ret)
(.seq (dr [dF (mV 16 1) [1],
dF (uO 17 (.nilchk 16)) [16],
dF (fA 18 3 none 17) [17],
dF (lD 19 none 18) [18],
dF (fA 20 0 none 5) [5],
dF (lD 21 none 20) [20],
dF (bN 22 .neq 19 21) [19,21],
dF (mV 15 22) [22]] [0,1,5,15])
(.cond 15 (.seq (rg [mV 6 (cI 13)] [6])
.ret)
.skip)))))
(.seq (rg [fA 23 3 none 5,
lD 24 none 23,
bN 25 .eql 24 (cI 3),
mV 7 25] [0,1,5,7])
(.seq (dr [dF (mV 26 0) [0],
dF (mV 27 0) [0],
dF (uO 28 (.nilchk 27)) [27],
dF (fA 29 4 none 28) [28],
dF (lD 30 none 29) [29],
dF (fA 31 4 none 5) [5],
dF (lD 32 none 31) [31],
dF (mV 33 1) [1],
dF (uO 34 (.nilchk 33)) [33],
dF (fA 35 2 none 34) [34],
dF (lD 36 none 35) [35],
dF (mV 37 1) [1],
dF (uO 38 (.nilchk 37)) [37],
dF (fA 39 1 none 38) [38],
dF (lD 40 none 39) [39],
dF (fA 41 2 none 5) [5],
dF (lD 42 none 41) [41],
dF (mV 43 7) [7],
dF (uO 44 (.build [.p (.str []),.p (.str []),.p (.int .i64 0),.p (.int .i64 0),.p (.bool false)] [(0,1,32),(1,1,36),(2,1,40),(3,1,42),(4,1,43)])) [32,36,40,42,43],
dF (uO 45 (.bsl false (some 5) 1 (.agg [.str [],.str [],.int .i64 0,.int .i64 0,.bool false]) [(0,44)])) [44],
dT (uO 46 (.app (some 5) 30 45)) [30,45],
dF (uO 47 (.nilchk 26)) [26],
dF (fA 48 4 none 47) [47],
dT (wO (.store none 48 46)) [48,46]] [0,1,5,7])
(.seq (rg [mV 49 0,
mV 50 1,
fA 51 2 none 5,
lD 52 none 51,
cL 53 zls [49,50,52]] [0,1,5,7])
(.seq (rg [mV 54 1,
fA 55 2 none 5,
lD 56 none 55,
uO 57 (.nilchk 54),
fA 58 1 none 57,
wO (.store none 58 56)] [0,1,7])
(.seq (.seq (rg [mV 59 7] [0,1,59])
(.cond 59 (.seq (rg [mV 60 1,
uO 61 (.nilchk 60),
fA 62 4 none 61,
wO (.store none 62 (cI 0))] [0,1])
(.seq (rg [mV 63 0,
mV 64 1,
uO 65 (.nilchk 64),
fA 66 2 none 65,
lD 67 none 66,
cL 68 ztj [63,67],
bN 69 .add 68 (cI 1),
mV 8 69] [0,1,8])
(.seq (.seq (rg [mV 70 8,
mV 71 0,
uO 72 (.nilchk 71),
fA 73 0 (some 2) 72,
fA 74 0 none 73,
lD 75 none 74,
lN 76 75,
bN 77 .eql 70 76] [0,1,8,77])
(.cond 77 (rg [mV 78 1,
mV 79 1,
uO 80 (.nilchk 78),
fA 81 0 none 80,
wO (.store none 81 (cI 4)),
uO 82 (.nilchk 79),
fA 83 2 none 82,
wO (.store none 83 (cS []))] [])
(rg [mV 84 1,
mV 85 1,
mV 86 0,
uO 87 (.nilchk 86),
fA 88 0 (some 2) 87,
fA 89 0 none 88,
lD 90 none 89,
mV 91 8,
iA 92 none 90 91,
lD 93 none 92,
uO 94 (.nilchk 84),
fA 95 0 none 94,
wO (.store none 95 (cI 1)),
uO 96 (.nilchk 85),
fA 97 2 none 96,
wO (.store none 97 93)] [])))
q1)))
.skip))
q3)))))))
def a_q04e : AFun:=⟨3,[.t 6],P_q04e znR znT,false,false⟩
def znU : ACode:=.pr [0,1,2,11,12] (rg [bN 47 .add 12 (cI 1),
mV 12 47] [0,1,2,11,12])
def zik (q1 : ACode) : ACode:=.pr [0,1,2,11,12] (.seq (rg [bN 13 .lss 12 11] [0,1,2,11,12,13])
(.seq (.cond 13 .skip
(.exit 0))
(.seq (.block 1 (.seq (rg [mV 14 12,
mV 6 14] [0,1,2,6,11,12])
(.seq (dr [dF (mV 15 0) [0],
dF (uO 16 (.nilchk 15)) [15],
dF (fA 17 5 none 16) [16],
dF (lD 18 none 17) [17],
dF (mV 19 6) [6],
dF (iA 20 (some 3) 18 19) [18,19],
dF (fA 21 0 none 20) [20],
dF (lD 22 none 21) [21],
dF (mV 23 1) [1],
dF (uO 24 (.nilchk 23)) [23],
dF (fA 25 3 none 24) [24],
dF (lD 26 none 25) [25],
dF (bN 27 .eql 22 26) [22,26],
dF (mV 28 27) [27],
dF (gD 29 28 true (.mv 0)) [0,28],
dF (gD 30 28 true (.nilchk 29)) [29,28],
dF (gD 31 28 true (.faddr 5 none 30)) [30,28],
dF (gD 32 28 true (.load none 31)) [31,28],
dF (gD 33 28 true (.mv 6)) [6,28],
dF (gD 34 28 true (.iaddr (some 3) 32 33)) [32,33,28],
dF (gD 35 28 true (.faddr 2 none 34)) [34,28],
dF (gD 36 28 true (.load none 35)) [35,28],
dF (gD 37 28 true (.bin .lss 36 (cI 0))) [36,28],
dF (uO 38 (.pick 28 37 cF)) [28,37]] [0,1,2,6,11,12,38])
(.cond 38 (rg [mV 39 0,
uO 40 (.nilchk 39),
fA 41 5 none 40,
lD 42 none 41,
mV 43 6,
mV 44 2,
iA 45 (some 3) 42 43,
fA 46 2 none 45,
wO (.store none 46 44)] [0,1,2,11,12])
.skip))))
q1)))
def znV : ACode:=zik znU
def znW : ACode:=.pr [0,1] (.seq (dr [dF (mV 48 0) [0],
dF (uO 49 (.nilchk 48)) [48],
dF (fA 50 3 none 49) [49],
dF (lD 51 none 50) [50],
dF (mV 52 1) [1],
dF (uO 53 (.nilchk 52)) [52],
dF (fA 54 3 none 53) [53],
dF (lD 55 none 54) [54],
dT (wO (.mdel (none,[2]) 51 55)) [51,55]] [1])
(rg [mV 56 1,
uO 57 (.nilchk 56),
fA 58 3 none 57,
wO (.store none 58 (cS []))] []))
def P_q04f (q2 q3 : ACode) : ACode:=(.seq (.seq (rg [mV 7 0,
uO 8 (.nilchk 7),
fA 9 5 none 8,
lD 10 none 9,
lN 11 10,
mV 12 (cI 0)] [0,1,2,11,12])
(.block 0 (.loop q2)))
q3)
def a_q04f : AFun:=⟨3,[],P_q04f znV znW,false,false⟩
def P_q04g : ACode:=(.seq (rg [uO 5 (.box 2),
mV 6 (cI 0)] [0,1,5])
(.seq (dr [dF (mV 10 0) [0],
dF (uO 11 (.nilchk 10)) [10],
dF (fA 12 3 none 11) [11],
dF (lD 13 none 12) [12],
dF (fA 14 0 none 5) [5],
dF (lD 15 none 14) [14],
dF (uO 16 (.look (none,[2]) true (.p (.str [])) 13 15)) [13,15],
dF (mV 9 16) [16],
dF (eX 17 9 0) [9],
dF (eX 18 9 1) [9],
dF (mV 7 17) [17],
dF (mV 8 18) [18]] [0,1,5,8])
(.seq (.block 0 (.seq (rg [mV 20 1,
uO 21 (.nilchk 20),
fA 22 0 none 21,
lD 23 none 22,
bN 24 .neq 23 (cI 1),
mV 19 24] [0,1,5,8,19])
(.cond 19 (.seq (rg [mV 6 (cI 11)] [6])
.ret)
(.seq (dr [dF (fA 26 5 none 5) [5],
dF (lD 27 none 26) [26],
dF (mV 28 1) [1],
dF (uO 29 (.nilchk 28)) [28],
dF (fA 30 2 none 29) [29],
dF (lD 31 none 30) [30],
dF (bN 32 .neq 27 31) [27,31],
dF (mV 25 32) [32]] [0,1,5,8,25])
(.cond 25 (.seq (rg [mV 6 (cI 3)] [6])
.ret)
(.seq (rg [mV 34 8,
mV 33 34] [0,1,5,33])
(.cond 33 (.seq (rg [mV 6 (cI 12)] [6])
.ret)
.skip)))))))
(.seq (dr [dF (mV 35 1) [1],
dF (mV 36 1) [1],
dF (mV 37 1) [1],
dF (fA 38 2 none 5) [5],
dF (lD 39 none 38) [38],
dF (fA 40 0 none 5) [5],
dF (lD 41 none 40) [40],
dF (uO 42 (.nilchk 35)) [35],
dF (fA 43 0 none 42) [42],
dA (wO (.store none 43 (cI 2))) [43] true [] [4,6],
dF (uO 44 (.nilchk 36)) [36],
dF (fA 45 1 none 44) [44],
dA (wO (.store none 45 39)) [45,39] true [] [6],
dF (uO 46 (.nilchk 37)) [37],
dF (fA 47 3 none 46) [46],
dT (wO (.store none 47 41)) [47,41]] [0,5])
(.seq (dr [dF (mV 48 0) [0],
dF (uO 49 (.nilchk 48)) [48],
dF (fA 50 3 none 49) [49],
dF (lD 51 none 50) [50],
dF (fA 52 0 none 5) [5],
dF (lD 53 none 52) [52],
dF (fA 54 4 none 5) [5],
dF (lD 55 none 54) [54],
dT (wO (.mupd (none,[2]) 51 53 55)) [51,53,55]] [0,5])
(.seq (dr [dF (mV 56 0) [0],
dF (mV 57 0) [0],
dF (uO 58 (.nilchk 57)) [57],
dF (fA 59 5 none 58) [58],
dF (lD 60 none 59) [59],
dF (fA 61 0 none 5) [5],
dF (lD 62 none 61) [61],
dF (fA 63 2 none 5) [5],
dF (lD 64 none 63) [63],
dF (uO 65 (.build [.p (.str []),.p (.int .i64 0),.p (.int .i64 0)] [(0,1,62),(1,1,64),(2,1,(cI (-1)))])) [62,64],
dF (uO 66 (.bsl false (some 3) 1 (.agg [.str [],.int .i64 0,.int .i64 0]) [(0,65)])) [65],
dT (uO 67 (.app (some 3) 60 66)) [60,66],
dF (uO 68 (.nilchk 56)) [56],
dF (fA 69 5 none 68) [68],
dT (wO (.store none 69 67)) [69,67]] [])
(.seq (rg [mV 6 (cI 0)] [6])
.ret)))))))
def a_q04g : AFun:=⟨3,[.t 6],P_q04g,false,false⟩
def znX : ACode:=.pr [0,3,5,38,45] (.cond 45 (.seq (rg [mV 48 0,
mV 49 5,
lD 50 (some 8) 3,
cL 51 ztk [48,49,50],
mV 4 51] [4])
.ret)
(.seq (rg [bN 53 .eql 38 (cI 5),
mV 52 53] [0,3,5,52])
(.cond 52 (.seq (.seq (rg [mV 54 5,
uO 55 (.nilchk 54),
fA 56 0 none 55,
lD 57 none 56,
bN 58 .neq 57 (cI 3)] [3,5,58])
(.cond 58 (.seq (rg [mV 4 (cI 11)] [4])
.ret)
.skip))
(.seq (dr [dF (mV 59 5) [5],
dF (mV 60 5) [5],
dF (fA 61 2 none 3) [3],
dF (lD 62 none 61) [61],
dF (uO 63 (.nilchk 59)) [59],
dF (fA 64 0 none 63) [63],
dA (wO (.store none 64 (cI 1))) [64] true [] [3],
dF (uO 65 (.nilchk 60)) [60],
dF (fA 66 1 none 65) [65],
dT (wO (.store none 66 62)) [66,62]] [])
(.seq (rg [mV 4 (cI 0)] [4])
.ret)))
.skip)))
def znY : ACode:=.pr [3,5] (.seq (dr [dF (mV 89 5) [5],
dF (mV 90 5) [5],
dF (fA 91 2 none 3) [3],
dF (lD 92 none 91) [91],
dF (uO 93 (.nilchk 89)) [89],
dF (fA 94 0 none 93) [93],
dA (wO (.store none 94 (cI 5))) [94] true [] [3],
dF (uO 95 (.nilchk 90)) [90],
dF (fA 96 1 none 95) [95],
dT (wO (.store none 96 92)) [96,92]] [])
(.seq (rg [mV 4 (cI 0)] [4])
.ret))
def zil (q2 : ACode) : ACode:=.pr [0,3,5] (.seq (.seq (rg [mV 67 5,
uO 68 (.nilchk 67),
fA 69 0 none 68,
lD 70 none 69,
bN 71 .eql 70 (cI 4),
mV 72 71,
gD 73 72 false (.mv 5),
gD 74 72 false (.nilchk 73),
gD 75 72 false (.faddr 0 none 74),
gD 76 72 false (.load none 75),
gD 77 72 false (.bin .eql 76 (cI 5)),
uO 78 (.pick 72 cT 77)] [0,3,5,78])
(.cond 78 (.seq (rg [mV 4 (cI 11)] [4])
.ret)
.skip))
(.seq (.seq (rg [mV 79 5,
uO 80 (.nilchk 79),
fA 81 0 none 80,
lD 82 none 81,
bN 83 .eql 82 (cI 2)] [0,3,5,83])
(.cond 83 (rg [mV 84 0,
mV 85 5,
fA 86 2 none 3,
lD 87 none 86,
cL 88 zls [84,85,87]] [3,5])
.skip))
q2))
def znZ : ACode:=zil znY
def P_q04h (q1 q3 : ACode) : ACode:=(.seq (rg [uO 3 (.box 1),
mV 4 (cI 0)] [0,3])
(.seq (dr [dF (mV 6 0) [0],
dF (uO 7 (.nilchk 6)) [6],
dF (fA 8 2 none 7) [7],
dF (lD 9 none 8) [8],
dF (fA 10 4 none 3) [3],
dF (lD 11 none 10) [10],
dF (uO 12 (.look (none,[2]) false (.nilp) 9 11)) [9,11],
dF (mV 5 12) [12]] [0,3,5])
(.seq (.seq (rg [fA 13 3 none 3,
lD 14 none 13,
bN 15 .eql 14 (cI 1)] [0,3,5,15])
(.cond 15 (.seq (.seq (rg [mV 16 5,
uO 17 (.isnil 0 true 16)] [0,3,17])
(.cond 17 (.seq (rg [mV 4 (cI 6)] [4])
.ret)
.skip))
(.seq (dr [dF (mV 18 0) [0],
dF (uO 19 (.nilchk 18)) [18],
dF (fA 20 2 none 19) [19],
dF (lD 21 none 20) [20],
dF (fA 22 4 none 3) [3],
dF (lD 23 none 22) [22],
dF (fA 24 2 none 3) [3],
dF (lD 25 none 24) [24],
dF (mV 26 0) [0],
dF (uO 27 (.nilchk 26)) [26],
dF (fA 28 0 (some 2) 27) [27],
dF (fA 29 0 none 28) [28],
dF (lD 30 none 29) [29],
dF (iA 31 none 30 (cI 0)) [30],
dF (lD 32 none 31) [31],
dF (uO 33 (.build [.p (.int .i64 0),.p (.int .i64 0),.p (.str []),.p (.str []),.p (.int .i64 0)] [(0,1,(cI 1)),(1,1,25),(2,1,32)])) [25,32],
dA (uO 34 (.box 33)) [33] true [] [3,5],
dT (wO (.mupd (none,[2]) 21 23 34)) [21,23,34]] [])
(.seq (rg [mV 4 (cI 0)] [4])
.ret)))
.skip))
(.seq (.seq (rg [mV 35 5,
uO 36 (.isnil 0 false 35)] [0,3,5,36])
(.cond 36 (.seq (rg [mV 4 (cI 8)] [4])
.ret)
.skip))
(.seq (.seq (rg [fA 37 3 none 3,
lD 38 none 37] [0,3,5,38])
(.block 0 (.seq (rg [bN 40 .eql 38 (cI 2),
mV 39 40] [0,3,5,38,39])
(.cond 39 (.seq (rg [mV 41 0,
mV 42 5,
lD 43 (some 8) 3,
cL 44 ztl [41,42,43],
mV 4 44] [4])
.ret)
(.seq (.seq (rg [bN 46 .eql 38 (cI 3),
mV 45 46] [0,3,5,38,45])
(.cond 45 .skip
(rg [bN 47 .eql 38 (cI 4),
mV 45 47] [0,3,5,38,45])))
q1)))))
q3)))))
def a_q04h : AFun:=⟨2,[.t 4],P_q04h znX znZ,false,false⟩
def zoa : ACode:=.pr [5,6,17,18,19] (rg [bN 59 .add 19 (cI 1),
mV 19 59] [5,6,17,18,19])
def zim (q1 : ACode) : ACode:=.pr [5,6,17,18,19] (.seq (rg [bN 20 .lss 19 18] [5,6,17,18,19,20])
(.seq (.cond 20 .skip
(.exit 0))
(.seq (.block 1 (.seq (rg [mV 21 19,
iA 22 (some 8) 17 19,
lD 23 (some 8) 22,
uO 8 (.alloc [.p (.str []),.p (.int .i64 0),.p (.int .i64 0),.p (.int .i64 0),.p (.str []),.p (.str []),.p (.str []),.p (.int .i64 0)]),
mV 7 21,
wO (.store (some 8) 8 23)] [5,6,7,8,17,18,19])
(.seq (.seq (rg [mV 24 6,
mV 25 7,
iA 26 none 24 25,
lD 27 none 26,
uO 28 (.un .not 27),
mV 29 28,
gD 30 29 false (.faddr 3 none 8),
gD 31 29 false (.load none 30),
gD 32 29 false (.bin .eql 31 (cI 7)),
uO 33 (.pick 29 cT 32)] [5,6,7,8,17,18,19,33])
(.cond 33 (.exit 1)
.skip))
(.seq (rg [mV 34 5,
lD 35 (some 8) 8,
cL 36 ztm [34,35],
mV 9 36] [5,6,7,9,17,18,19])
(.seq (rg [mV 37 9,
bN 38 .neq 37 (cI 0)] [5,6,7,9,17,18,19,38])
(.cond 38 (.seq (rg [mV 39 5,
mV 40 5,
uO 41 (.nilchk 40),
fA 42 6 none 41,
lD 43 none 42,
mV 44 7,
uO 45 (.bsl false none 1 (.int .i64 0) [(0,44)]),
uO 46 (.app none 43 45),
uO 47 (.nilchk 39),
fA 48 6 none 47,
wO (.store none 48 46)] [5,6,9,17,18,19])
(rg [mV 49 5,
mV 50 5,
uO 51 (.nilchk 50),
fA 52 7 none 51,
lD 53 none 52,
mV 54 9,
uO 55 (.bsl false none 1 (.int .i64 0) [(0,54)]),
uO 56 (.app none 53 55),
uO 57 (.nilchk 49),
fA 58 7 none 57,
wO (.store none 58 56)] [5,6,17,18,19]))
.skip))))))
q1)))
def zob : ACode:=zim zoa
def zoc : ACode:=.pr [5] (.seq (rg [mV 60 5,
mV 4 60] [4])
.ret)
def P_q04i (q2 q3 : ACode) : ACode:=(.seq (rg [uO 2 (.box 0),
mV 4 (.c (.nilp))] [1,2])
(.seq (rg [lD 10 (some 2) 2,
uO 11 (.mkmap),
uO 12 (.mkmap),
uO 13 (.build [.sl0 none,.p (.int .i64 0),.nilm,.nilm,.sl0 (some 5),.sl0 (some 3),.sl0 none,.sl0 none] [(0,2,10),(2,1,11),(3,1,12)]),
uO 14 (.box 13),
mV 5 14] [1,5])
(.seq (rg [mV 15 1,
cL 16 ztg [15],
mV 6 16] [1,5,6])
(.seq (.seq (rg [mV 17 1,
lN 18 17,
mV 19 (cI 0)] [5,6,17,18,19])
(.block 0 (.loop (.scope q2))))
q3))))
def a_q04i : AFun:=⟨2,[.t 4],P_q04i zob zoc,false,false⟩
def P_q04j : ACode:=(.seq (rg [mV 2 (cI 0)] [0])
(.seq (.seq (rg [mV 3 0,
cL 4 zll [3],
uO 5 (.un .not 4)] [5])
(.cond 5 (.seq (rg [mV 2 (cI 1)] [2])
.ret)
.skip))
(.seq (rg [mV 2 (cI 0)] [2])
.ret)))
def a_q04j : AFun:=⟨1,[.t 2],P_q04j,false,false⟩
def zod : ACode:=.pr [3,8,9,10] (.seq (rg [bN 11 .lss 10 9] [3,8,9,10,11])
(.seq (.cond 11 .skip
(.exit 0))
(.seq (.block 1 (.seq (rg [iA 12 (some 8) 8 10,
lD 13 (some 8) 12,
uO 5 (.alloc [.p (.str []),.p (.int .i64 0),.p (.int .i64 0),.p (.int .i64 0),.p (.str []),.p (.str []),.p (.str []),.p (.int .i64 0)]),
wO (.store (some 8) 5 13)] [3,5,8,9,10])
(.seq (rg [fA 14 0 none 5,
lD 15 none 14,
fA 16 1 none 5,
lD 17 none 16,
uO 18 (.build [.p (.str []),.p (.int .i64 0)] [(0,1,15),(1,1,17)]),
uO 6 (.alloc [.p (.str []),.p (.int .i64 0)]),
wO (.store (some 2) 6 18)] [3,6,8,9,10])
(.seq (.seq (rg [mV 19 3,
lD 20 (some 2) 6,
uO 21 (.look ((some 2),[2,0]) false (AB false) 19 20)] [3,6,8,9,10,21])
(.cond 21 (.seq (rg [mV 2 cT] [2])
.ret)
.skip))
(rg [mV 22 3,
lD 23 (some 2) 6,
wO (.mupd ((some 2),[2,0]) 22 23 cT)] [3,8,9,10])))))
(rg [bN 24 .add 10 (cI 1),
mV 10 24] [3,8,9,10]))))
def zoe : ACode:=.pr [] (.seq (rg [mV 2 cF] [2])
.ret)
def P_q04k (q1 q2 : ACode) : ACode:=(.seq (rg [mV 2 cF] [0])
(.seq (rg [uO 7 (.mkmap),
mV 3 7] [0,3])
(.seq (.seq (rg [mV 8 0,
lN 9 8,
mV 10 (cI 0)] [3,8,9,10])
(.block 0 (.loop (.scope q1))))
q2)))
def a_q04k : AFun:=⟨1,[.t 2],P_q04k zod zoe,false,false⟩
def zof : ACode:=.pr [0,1,5] (.seq (.seq (rg [mV 8 5,
bN 9 .gtr 8 (cI 0),
mV 10 9,
gD 11 10 true (.mv 0),
gD 12 10 true (.mv 5),
gD 13 10 true (.bin .sub 12 (cI 1)),
gD 14 10 true (.iaddr (some 8) 11 13),
gD 15 10 true (.faddr 2 none 14),
gD 16 10 true (.load none 15),
gD 17 10 true (.mv 1),
gD 18 10 true (.bin .gtr 16 17),
uO 19 (.pick 10 18 cF)] [0,1,5,19])
(.cond 19 .skip
(.exit 0)))
(.block 1 (rg [mV 20 5,
bN 21 .sub 20 (cI 1),
mV 5 21] [0,1,5])))
def zog : ACode:=.pr [0,5] (.seq (rg [mV 22 0,
mV 23 5,
uO 24 (.slice (some 8) 22 none (some 23) none),
mV 4 24] [4])
.ret)
def P_q04l (q1 q2 : ACode) : ACode:=(.seq (rg [mV 4 (.c (.p (.sl (some 8) [])))] [0,1])
(.seq (rg [mV 6 0,
lN 7 6,
mV 5 7] [0,1,5])
(.seq (.block 0 (.loop q1))
q2)))
def a_q04l : AFun:=⟨2,[.t 4],P_q04l zof zog,false,false⟩
def P_q051 : ACode:=(.seq (rg [mV 4 (cI 0)] [0,1])
(.seq (rg [mV 5 0,
mV 6 1,
cL 7 zsQ [5,6],
mV 4 7] [4])
.ret))
def a_q051 : AFun:=⟨2,[.t 4],P_q051,false,false⟩
end Go.Am
end
section
/- The abstract machine,part L: functions of the library that are met by the kit's contracts: plain values in,plain values out,new memory at most. -/
set_option linter.unusedSimpArgs false
set_option linter.unusedVariables false
namespace Go.Am
variable {P : Program} {gl : Nat → Option PV}
structure PureRow (P : Program) (gl : Nat → Option PV) (f : Nat) (spec : List PV → Option AV) : Prop where
 enter : ∀ us w,(callFunc f us).run P w = .ok (.enter f us) w
 run : ∀ (M : Mem) (w : World) (vs : List PV) (r : AV) (us : List Value),(∀ b o v,M.c b o = some v → w.cell? ⟨b,o,none⟩ = some v) → (∀ b o,M.b b = some o → w.heap[b]? = some o) → GInv gl M → vs.length = us.length →
  (∀ (j : Nat) (y : PV) (v : Value),vs[j]? = some y → us[j]? = some v → RPV M y v) → spec vs = some r →
  Calls P f us.toArray w fun e w'=>∃ x,e = .returned x ∧ WExt w w' ∧ RAV (ExtM M w w') [] [] r x
abbrev z86:=List (Nat × (List PV → Option AV))
def zc1 : z86 → Nat → List AV → Heap → Option (AV × Heap × Esc)
 | [],_,_,_=>none
 | (g,s) :: r,f,asv,h=>bif Nat.beq f g then ((unp asv).bind s).map fun v=>(v,h,[]) else zc1 r f asv h
theorem zau : ∀ (gs : z86),(∀ g s,(g,s) ∈ gs → PureRow P gl g s) → ∀ {f : Nat} {asv : List AV} {h : Heap} {v : AV} {h' : Heap} {x : Esc},zc1 gs f asv h = some (v,h',x) →
 z1A P gl f asv h fun v1 h1 x1=>v1 = v ∧ h1 = h' ∧ x1 = x
 | [],_,f,asv,h,v,h',x,H=>by cases H
 | (g,s) :: r,hg,f,asv,h,v,h',x,H=>by
  unfold zc1 at H
  cases e1 : Nat.beq f g with
  | false=>
   rw [e1] at H
   exact zau r (fun g sh hm=>hg g sh (by simp [hm])) H
  | true=>
   rw [e1] at H
   have e:=Nat.eq_of_beq_eq_true e1
   subst e
   have R:=hg f s (by simp)
   simp only [cond_true] at H
   obtain ⟨y,hy,e2⟩:=Option.map_eq_some_iff.1 H
   simp only [Prod.mk.injEq] at e2
   obtain ⟨rfl,rfl,rfl⟩:=e2
   obtain ⟨ps,hps,hs⟩:=Option.bind_eq_some_iff.1 hy
   have hm:=z43 hps
   subst hm
   intro μ w vs Hh Hg hl hr
   refine .inl ⟨R.enter _,?_⟩
   refine (R.run (imm h μ w) w ps y vs (fun b o v hv=>(z1i.1 hv).2) (fun b o hv=>(z3Q.1 hv).2) Hg (by simpa using hl) (fun j q v hq hv=>(hr j (.p q) v (by simp [hq]) hv).p_inv) hs).mono fun e w' he=>?_
   obtain ⟨u,rfl,g1,g2⟩:=he
   obtain ⟨n1,n2⟩:=Hh.ext g1
   have Lq : (ExtM (imm h μ w) w w').le (imm h μ w'):=by
    refine ⟨fun b o v hv=>?_,fun b o hv=>?_,rfl,fun _ _ h=>by cases h⟩
    ·dsimp only [ExtM] at hv
     split at hv
     ·exact n2.le.c _ _ _ hv
     ·rename_i hb
      exact z1i.2 ⟨fun hO=>hb (zaq Hh hO),hv⟩
    ·dsimp only [ExtM] at hv
     cases hv
   exact ⟨_,_,_,μ,⟨rfl,rfl,rfl⟩,g2.evo ⟨Lq,Nat.zero_le _,fun id o m h1=>by simp at h1⟩,n1,n2,z0h.refl h []⟩
def libF (gs : List (Nat × Sh)) (ps : z86) (f : Nat) (asv : List AV) (h : Heap) : Option (AV × Heap × Esc):=match zgH gs f asv h with
 | some y=>some y
 | none=>match zc1 ps f asv h with
  | some y=>some y
  | none=>match z00 h asv with
   | some (asv',h1)=>zc1 ps f asv' h1
   | none=>none
theorem zom {ps : z86} (hp : ∀ g s,(g,s) ∈ ps → PureRow P gl g s) {f : Nat} {asv asv' : List AV} {h h1 : Heap} {v : AV} {h' : Heap} {x : Esc} (hq : z00 h asv = some (asv',h1)) (H : zc1 ps f asv' h1 = some (v,h',x)) :
 z1A P gl f asv h fun v1 h2 x1=>v1 = v ∧ h2 = h' ∧ x1 = x:=by
 intro μ w vs Hh Hg hl hr
 obtain ⟨q1,q2,q3⟩:=z6I asv Hh hl hr hq
 rcases zau ps hp H μ w vs q1.1 (Hg.mono q1.2.1.le) q2 q3 with ⟨k1,k2⟩ | ⟨r,w',v2,h2,x2,μ',k1,k2,k3,k4,k5,k6⟩
 ·refine .inl ⟨k1,k2.mono fun e w' he=>?_⟩
  cases e with
  | returned r=>
   obtain ⟨v2,h2,x2,μ',k2,k3,k4,k5,k6⟩:=he
   exact ⟨v2,h2,x2,μ',k2,k3,k4,q1.2.1.trans k5,by simpa using q1.2.2.trans k6⟩
  | panicked _=>exact he
  | outgrown=>exact he
 ·exact .inr ⟨r,w',v2,h2,x2,μ',k1,k2,k3,k4,q1.2.1.trans k5,by simpa using q1.2.2.trans k6⟩
theorem libF_ok {gs : List (Nat × Sh)} {ps : z86} (hg : ∀ g sh,(g,sh) ∈ gs → GrowRow P g sh) (hp : ∀ g s,(g,s) ∈ ps → PureRow P gl g s) {f : Nat} {asv : List AV} {h : Heap} {v : AV} {h' : Heap} {x : Esc} (H : libF gs ps f asv h = some (v,h',x)) :
 z1A P gl f asv h fun v1 h1 x1=>v1 = v ∧ h1 = h' ∧ x1 = x:=by
 unfold libF at H
 split at H
 ·rename_i y hy
  cases H
  exact zeY gs hg hy
 ·split at H
  ·rename_i y hy
   cases H
   exact zau ps hp hy
  ·split at H
   ·rename_i asv' h1 hq
    exact zom hp hq H
   ·cases H
theorem z5r {X : Ctx} {f : Nat} {asv : List AV} {h h' : Heap} {v : AV} {x : Esc} {K : Post} (hf : X.fn f = none) (hx : X.ex2 f asv h = some (v,h',x)) : z0d X f asv h K = K v h' x:=by
 refine propext (z0d.eq (z0d.fold ?_) K)
 unfold Step
 simp only [hf,hx]
 exact ⟨trivial,trivial,trivial⟩
def zeZ : List (Nat × Sh) → Nat → Option Sh
 | [],_=>none
 | (g,s) :: r,f=>bif Nat.beq f g then some s else zeZ r f
theorem z9r : ∀ {gs : List (Nat × Sh)} {f : Nat} {asv : List AV} {h : Heap},zeZ gs f = none → zgH gs f asv h = none
 | [],f,asv,h,_=>rfl
 | (g,s) :: r,f,asv,h,hm=>by
  unfold zeZ at hm
  unfold zgH
  cases hq : Nat.beq f g with
  | true=>rw [hq] at hm; cases hm
  | false=>rw [hq] at hm; exact z9r hm
def zft : z86 → Nat → Option (List PV → Option AV)
 | [],_=>none
 | (g,s) :: r,f=>bif Nat.beq f g then some s else zft r f
theorem zc2 : ∀ {gs : z86} {f : Nat} {s : List PV → Option AV} {asv : List AV} {h : Heap},zft gs f = some s → zc1 gs f asv h = ((unp asv).bind s).map fun v=>(v,h,[])
 | [],f,s,asv,h,hm=>by cases hm
 | (g,s') :: r,f,s,asv,h,hm=>by
  unfold zft at hm
  unfold zc1
  cases hq : Nat.beq f g with
  | true=>rw [hq] at hm; cases hm; rfl
  | false=>rw [hq] at hm; exact zc2 hm
theorem z5q {gs : List (Nat × Sh)} {ps : z86} {f : Nat} {s : List PV → Option AV} {asv : List AV} {vs : List PV} {v : AV} {h : Heap} (hg : zeZ gs f = none) (hm : zft ps f = some s) (hu : unp asv = some vs) (hv : s vs = some v) : libF gs ps f asv h = some (v,h,[]):=by
 unfold libF; rw [z9r hg,zc2 hm,hu]; simp [hv]
def glOf : List (Nat × PV) → Nat → Option PV
 | [],_=>none
 | (g,v) :: r,n=>bif Nat.beq n g then some v else glOf r n
theorem zvV {f : Nat} (h : (match P.funcs[f]? with | some fn=>fn.body.isSome && fn.name != "runtime.NumGoroutine" | none=>false) = true) (us : Array Value) (w : World) : (callFunc f us).run P w = .ok (.enter f us) w:=by
 cases hf : P.funcs[f]? with
 | none=>rw [hf] at h; cases h
 | some fn=>
  rw [hf] at h
  simp only [Bool.and_eq_true,bne_iff_ne,ne_eq] at h
  cases hb : fn.body with
  | none=>rw [hb] at h; cases h.1
  | some c=>exact zla hf hb h.2 us w
theorem ginv_none {M : Mem} : GInv (glOf []) M:=fun n v hv=>by cases hv
def repL (s : List UInt8) : Nat → List UInt8
 | 0=>[]
 | c + 1=>s ++ repL s c
def z6h : List PV → Option AV
 | [.str s,.int .i64 c]=>if 0 ≤ c ∧ s.length * c.toNat ≤ 1000000 ∧ c ≤ 1000000 then some (.p (.str (repL s c.toNat))) else none
 | _=>none
def zrJ (s cs : List UInt8) : List UInt8:=(s.reverse.dropWhile (cs.contains ·)).reverse.dropWhile (cs.contains ·)
def trimS : List PV → Option AV
 | [.str s,.str cs]=>if s.length ≤ 1000000 ∧ cs.length ≤ 1000 ∧ cs.all (fun b=>decide (b.toNat < 128)) = true then some (.p (.str (zrJ s cs))) else none
 | _=>none
def zbg : List PV → Option AV
 | [.str s,.str [c]]=>some (.p (.int .i64 (s.count c)))
 | _=>none
def zdv : PV → Bool
 | .agg [.int .i64 _,.int .i64 _,.int .i64 _,.str _,.str _,.str _]=>true
 | _=>false
def z9W : PV → Int
 | .agg (.int _ k :: _)=>k
 | _=>0
def zlA : PV:=.agg [.int .i64 0,.int .i64 1,.int .i64 0,.str [],.str [],.str []]
def z2D (l : List PV) (k : Int) : PV:=(l.reverse.find? fun c=>z9W c == k).getD zlA
def z41 : List PV → Option AV
 | [.sl (some 6) xs,.int .i64 i,.int .i64 k]=>if 0 ≤ i ∧ i ≤ (xs.length : Int) ∧ xs.length ≤ 1000000 ∧ xs.all zdv = true then some (.p (z2D (xs.take i.toNat) k)) else none
 | _=>none
end Go.Am
end
section
/- The abstract machine,part C: z1p calls that say true,asv contracts. -/
set_option linter.all false
namespace Go.Am
variable {P : Program} {gl : Nat → Option PV}
def zvQ : List PV → Option AV
 | []=>some (AB true)
 | _=>none
theorem RPV.mono' {M M' : Mem} (hM : ∀ b o v,M.c b o = some v → M'.c b o = some v) {v : PV} {x : Value} (H : RPV M v x) : RPV M' v x:=by
 induction H with
 | int k n=>exact .int k n
 | bool b=>exact .bool b
 | str s=>exact .str s
 | nilp=>exact .nilp
 | unk k n=>exact .unk k n
 | nils sh a cap=>exact .nils sh a cap
 | sl sh xs b o cap f hne hc he hm hr ih=>exact .sl sh xs b o cap f hne hc he (fun j y hy=>hM _ _ _ (hm j y hy)) ih
 | agg cs vs hl hr ih=>exact .agg cs vs hl ih
theorem GInv.mono' {M M' : Mem} (hc : ∀ b o v,M.c b o = some v → M'.c b o = some v) (hb : ∀ b o,M.b b = some o → M'.b b = some o) (H : GInv gl M) : GInv gl M':=fun n v hv=>by
 obtain ⟨h1,cs,t,x,h2,h3⟩:=H n v hv
 refine ⟨?_,cs,t,x,hb _ _ h2,h3⟩
 cases h1 with | vp _ _ _ f hm hr=>exact .vp v n 0 f (fun j y hy=>hc _ _ _ (hm j y hy)) (fun j y hy=>(hr j y hy).mono' hc)
theorem zpo {X : Ctx} (HX : Fits P X) {f : Nat} (H : z0d X f [] [] fun v h x=>v = AB true ∧ h = [] ∧ x = []) (he : ∀ us w,(callFunc f us).run P w = .ok (.enter f us) w) : PureRow P X.gl f zvQ:=by
 refine ⟨he,fun M w vs r us hc hb hG hl hr hs=>?_⟩
 cases vs with
 | cons a l=>cases hs
 | nil=>
  have hu : us = []:=List.length_eq_zero_iff.1 (by simpa using hl.symm)
  subst hu
  simp only [zvQ,Option.some.injEq] at hs
  subst hs
  have hno : ∀ b o,¬ z9O ([] : Heap) ([] : Mu) b o:=fun b o ⟨id,n,h1,_⟩=>by simp at h1
  have hnt : ∀ b,¬ zgn ([] : Mu) b:=fun b ⟨id,n,h1⟩=>by simp at h1
  have hG' : GInv X.gl (imm [] [] w):=hG.mono' (fun b o v h=>z1i.2 ⟨hno b o,hc b o v h⟩) (fun b o h=>z3Q.2 ⟨hnt b,hb b o h⟩)
  have hR : HeapRel [] [] w:=⟨rfl,fun id o m h1=>by simp at h1,fun i j b n n' h1=>by simp at h1,fun i b n h1=>by simp at h1⟩
  rcases z8M HX H [] w [] hR hG' rfl (fun j y v h1=>by simp at h1) with ⟨_,q⟩ | ⟨r,w',v,h',x,μ',q,_⟩
  ·refine q.mono fun e w' h=>?_
   cases e with
   | panicked _=>exact h.elim
   | outgrown=>exact h.elim
   | returned r=>
    obtain ⟨v,h',x,μ',⟨rfl,rfl,rfl⟩,h1,h2,h3,h4⟩:=h
    have hm : μ' = []:=List.length_eq_zero_iff.1 (by simpa using h2.len)
    subst hm
    have hbl : ∀ b o,w.heap[b]? = some o → w'.heap[b]? = some o:=fun b o h=>(z3Q.1 (h3.le.b b o (z3Q.2 ⟨hnt b,h⟩))).2
    refine ⟨r,rfl,⟨?_,fun b hb=>?_,?_⟩,?_⟩
    ·rcases Nat.lt_or_ge w'.heap.size w.heap.size with q | q
     ·have:=hbl w'.heap.size _ (Array.getElem?_eq_getElem q)
      simp at this
     ·exact q
    ·rw [hbl b _ (Array.getElem?_eq_getElem hb),Array.getElem?_eq_getElem hb]
    ·have:=h3.le.z
     simpa [imm] using this
    ·have:=h1.p_bool
     rw [this]
     exact .p _ _ (.bool true)
  ·rw [he] at q
   cases q
end Go.Am
end
section
/- The functions together. -/
set_option linter.unusedVariables false
set_option maxRecDepth 100000
namespace Go.Am
def fns : List (Nat × AFun):=[(zeL,ziq),(z8Z,ziz),(z3L,ziy),(z60,zdO),(z63,zdU),(z9m,ziL),(z9n,ziM),(z9l,ziK),(z62,zi3),(z8Y,zit),(z7z,zi6),(z1Y,ziv),(z2B,zdT),(z1Z,zdY),(z78,zdW),(z7C,zef),(z7A,zeb),(z9o,ziN),(z9a,zi4),(z8X,zis),(z2q,ziu),(z1s,zix),(z2Y,ziH),(z4F,ziG),(z9b,zi8),(z71,zi7),(z4D,zir),(z1d,zdN),(z79,zdX),(z7E,zeh),(z5l,zdV),(z5m,zea),(z2Z,zec),(z3O,zdZ),(z3A,zi1),(z61,ziw),(z2r,zi0),(z9i,ziI),(z9h,ziF),(z9d,ziA),(z3B,zi5),(z9g,ziE),(z9f,ziD),(z73,zdQ),(z7D,zeg),(z7B,zee),(z2p,zdM),(z77,zdR),(z8W,zip),(z4E,zdP),(z9e,ziB),(z3M,ziC),(z5k,zdS),(z3N,z8G),(z9k,ziJ),(z2f,zi2),(z9c,zi9),(z4G,z6S)]
def GRL : List (Nat × Sh):=[]
def PRL : z86:=[(z5j,z41),(z74,zbg),(z1h,z6h),(zci,trimS),(z7y,zvQ)]
def GLL : List (Nat × PV):=[]
def fnOf : List (Nat × AFun) → Nat → Option AFun
 | [],_=>none
 | (k,F) :: r,n=>bif Nat.beq k n then some F else fnOf r n
def X : Ctx:=⟨fnOf fns,glOf GLL,extF z0i z0r,libF GRL PRL⟩
theorem zeT {p : Nat → AFun → Bool} : ∀ (l : List (Nat × AFun)),(l.all fun y=>p y.1 y.2) = true → ∀ n F,fnOf l n = some F → p n F = true
 | [],_,n,F,h=>by cases h
 | (k,G) :: r,ha,n,F,h=>by
  simp only [List.all_cons,Bool.and_eq_true] at ha
  simp only [fnOf] at h
  cases hk : Nat.beq k n with
  | true=>
   rw [hk] at h
   have:=Nat.eq_of_beq_eq_true hk
   simp only [cond_true,Option.some.injEq] at h
   subst this; subst h; exact ha.1
  | false=>
   rw [hk] at h
   exact zeT r ha.2 n F h
def fns0 : List (Nat × AFun):=[(z60,zdO),(z7y,a_q02g),(z63,zdU),(z2B,zdT),(z1Z,zdY),(z78,zdW),(z7C,zef),(z7A,zeb),(zsz,a_q002),(zs3,a_q00c),(zsW,a_q02h),(zsJ,a_q00y),(zsR,a_q01y),(zte,a_q048),(z1d,zdN),(z79,zdX),(z7E,zeh),(z5l,zdV),(z5m,zea),(z2Z,zec),(z3O,zdZ),(zs1,a_q00a),(zsC,a_q00m),(zeK,a_q00n),(zsI,a_q00x),(zsU,a_q021),(zsT,a_q020),(zlk,a_q003),(zti,a_q04c),(z4C,a_q005),(ztn,a_q04i),(ztq,a_q04l),(z73,zdQ),(zlq,a_q03y),(zlr,a_q045),(z7D,zeg),(z7B,zee),(z2p,zdM),(z77,zdR),(zs2,a_q00b),(zs6,a_q00f),(zsY,a_q03u),(zsK,a_q00z),(zsM,a_q011),(zsP,a_q014),(zsO,a_q013),(zsN,a_q012),(zsZ,a_q03w),(zsV,a_q022),(zsS,a_q01z),(zs0,a_q004),(ztd,a_q047),(ztc,a_q046),(zto,a_q04j),(ztg,a_q04a),(ztm,a_q04h),(z4E,zdP),(z5k,zdS),(z3N,z8G),(zs7,a_q00g),(zsB,a_q00l),(zsD,a_q00o),(zsH,a_q00w),(zsG,a_q00v),(ztb,a_q043),(zth,a_q04b),(ztf,a_q049),(ztp,a_q04k),(zll,a_q007),(ztl,a_q04g),(ztk,a_q04e),(zls,a_q04f),(z4G,z6S),(zs5,a_q00e),(zch,a_q00k),(zlp,a_q03v),(zs8,a_q00h),(zsE,a_q00p),(zs4,a_q00d),(zsL,a_q010),(zln,a_q00s),(zlm,a_q00r),(z9j,a_q051),(ztj,a_q04d),(zta,a_q042),(zs9,a_q00i),(zsF,a_q00q),(zlo,a_q00t),(zsQ,a_q018),(zsX,a_q03t),(zsA,a_q00j)]
def PRL0 : z86:=[(z5j,z41),(z74,zbg),(z1h,z6h),(zci,trimS)]
def X0 : Ctx:=⟨fnOf fns0,glOf GLL,extF z0i z0r,libF GRL PRL0⟩
theorem zdI : X0.fn z3N = some z8G:=by kernel_rfl
theorem zdH : X0.fn z4G = some z6S:=by kernel_rfl
theorem zdL : X.NoNext:=fun f F h=>zeT (p:=fun _ F=>F.isDet || F.body.noNext) fns (by kernel_rfl) f F h
theorem x_q02d : X.fn zeL = some ziq:=by kernel_rfl
theorem c_q02d {u0 v0 : AV} {h h1 : Heap} {P : Post} (hp : z00 h [u0] = some ([v0],h1)) : z0d X zeL [u0] h P = z8U (z0d X) X.gl z2v z3U v0 h1 [] (finR [.t 2] false h.length P):=by rw [z0k x_q02d rfl hp rfl]; exact e_q02d
theorem x_q02v : X.fn z8Z = some ziz:=by kernel_rfl
theorem c_q02v {u0 u1 v0 v1 : AV} {h h1 : Heap} {P : Post} (hp : z00 h [u0,u1] = some ([v0,v1],h1)) : z0d X z8Z [u0,u1] h P = zev (z0d X) X.gl z3c z5x v0 v1 h1 [] (finR [.t 4] false h.length P):=by rw [z0k x_q02v rfl hp rfl]; exact e_q02v
theorem x_q02u : X.fn z3L = some ziy:=by kernel_rfl
theorem c_q02u {u0 u1 u2 v0 v1 v2 : AV} {h h1 : Heap} {P : Post} (hp : z00 h [u0,u1,u2] = some ([v0,v1,v2],h1)) : z0d X z3L [u0,u1,u2] h P = zj4 (z0d X) X.gl v0 v1 v2 h1 [] (finR [.t 6] false h.length P):=by rw [z0k x_q02u rfl hp rfl]; exact e_q02u
theorem x_q02f : X.fn z60 = some zdO:=by kernel_rfl
theorem c_q02f {u0 v0 : AV} {h h1 : Heap} {P : Post} (hp : z00 h [u0] = some ([v0],h1)) : z0d X z60 [u0] h P = zeq (z0d X) X.gl z3a z5s v0 h1 [] (finR [.t 2] false h.length P):=by rw [z0k x_q02f rfl hp rfl]; exact e_q02f
theorem x_q063 : X.fn z63 = some zdU:=by kernel_rfl
theorem c_q063 {u0 v0 : AV} {h h1 : Heap} {P : Post} (hp : z00 h [u0] = some ([v0],h1)) : z0d X z63 [u0] h P = ze8 (z0d X) X.gl v0 h1 [] (finR [.t 2,.t 3] false h.length P):=by rw [z0k x_q063 rfl hp rfl]; exact e_q063
theorem x_q067 : X.fn z9m = some ziL:=by kernel_rfl
theorem c_q067 {u0 v0 : AV} {h h1 : Heap} {P : Post} (hp : z00 h [u0] = some ([v0],h1)) : z0d X z9m [u0] h P = ze9 (z0d X) X.gl v0 h1 [] (finR [.t 2,.t 3,.t 4,.t 5] false h.length P):=by rw [z0k x_q067 rfl hp rfl]; exact e_q067
theorem x_q068 : X.fn z9n = some ziM:=by kernel_rfl
theorem c_q068 {u0 v0 : AV} {h h1 : Heap} {P : Post} (hp : z00 h [u0] = some ([v0],h1)) : z0d X z9n [u0] h P = zeA (z0d X) X.gl v0 h1 [] (finR [.t 2,.t 3] false h.length P):=by rw [z0k x_q068 rfl hp rfl]; exact e_q068
theorem x_q061 : X.fn z9l = some ziK:=by kernel_rfl
theorem c_q061 {u0 v0 : AV} {h h1 : Heap} {P : Post} (hp : z00 h [u0] = some ([v0],h1)) : z0d X z9l [u0] h P = ze7 (z0d X) X.gl v0 h1 [] (finR [.t 2,.t 3,.t 4] false h.length P):=by rw [z0k x_q061 rfl hp rfl]; exact e_q061
theorem x_q02z : X.fn z62 = some zi3:=by kernel_rfl
theorem c_q02z {u0 u1 v0 v1 : AV} {h h1 : Heap} {P : Post} (hp : z00 h [u0,u1] = some ([v0,v1],h1)) : z0d X z62 [u0,u1] h P = zey (z0d X) X.gl z3f z5z v0 v1 h1 [] (finR [.t 4] false h.length P):=by rw [z0k x_q02z rfl hp rfl]; exact e_q02z
theorem x_q02p : X.fn z8Y = some zit:=by kernel_rfl
theorem c_q02p {u0 u1 v0 v1 : AV} {h h1 : Heap} {P : Post} (hp : z00 h [u0,u1] = some ([v0,v1],h1)) : z0d X z8Y [u0,u1] h P = zes (z0d X) X.gl z3b z5w v0 v1 h1 [] (finR [.t 4] false h.length P):=by rw [z0k x_q02p rfl hp rfl]; exact e_q02p
theorem x_q033 : X.fn z7z = some zi6:=by kernel_rfl
theorem c_q033 {u0 v0 : AV} {h h1 : Heap} {P : Post} (hp : z00 h [u0] = some ([v0],h1)) : z0d X z7z [u0] h P = zb0 (z0d X) X.gl z3g z50 v0 h1 [] (finR [.t 2] false h.length P):=by rw [z0k x_q033 rfl hp rfl]; exact e_q033
theorem x_q02r : X.fn z1Y = some ziv:=by kernel_rfl
theorem c_q02r {u0 u1 v0 v1 : AV} {h h1 : Heap} {P : Post} (hp : z00 h [u0,u1] = some ([v0,v1],h1)) : z0d X z1Y [u0,u1] h P = zet (z0d X) X.gl v0 v1 h1 [] (finR [.t 4] false h.length P):=by rw [z0k x_q02r rfl hp rfl]; exact e_q02r
theorem x_q062 : X.fn z2B = some zdT:=by kernel_rfl
theorem c_q062 {u0 v0 : AV} {h h1 : Heap} {P : Post} (hp : z00 h [u0] = some ([v0],h1)) : z0d X z2B [u0] h P = zbG (z0d X) X.gl z3n z5D v0 h1 [] (finR [.t 2] false h.length P):=by rw [z0k x_q062 rfl hp rfl]; exact e_q062
theorem x_q06h : X.fn z1Z = some zdY:=by kernel_rfl
theorem zsr {u0 u1 v0 v1 : AV} {h h1 : Heap} {P : Post} (hp : z00 h [u0,u1] = some ([v0,v1],h1)) : z0d X z1Z [u0,u1] h P = zbM (z0d X) X.gl z2w z3Z v0 v1 h1 [] (finR [.t 4] false h.length P):=by rw [z0k x_q06h rfl hp rfl]; exact e_q06h
theorem x_q06d : X.fn z78 = some zdW:=by kernel_rfl
theorem c_q06d {u0 v0 : AV} {h h1 : Heap} {P : Post} (hp : z00 h [u0] = some ([v0],h1)) : z0d X z78 [u0] h P = zbK (z0d X) X.gl v0 h1 [] (finR [.t 2] false h.length P):=by rw [z0k x_q06d rfl hp rfl]; exact e_q06d
theorem x_q06o : X.fn z7C = some zef:=by kernel_rfl
theorem c_q06o {u0 u1 v0 v1 : AV} {h h1 : Heap} {P : Post} (hp : z00 h [u0,u1] = some ([v0,v1],h1)) : z0d X z7C [u0,u1] h P = z6x (z0d X) X.gl v0 v1 h1 [] (finR [.t 4] false h.length P):=by rw [z0k x_q06o rfl hp rfl]; exact e_q06o
theorem x_q06l : X.fn z7A = some zeb:=by kernel_rfl
theorem c_q06l {u0 u1 v0 v1 : AV} {h h1 : Heap} {P : Post} (hp : z00 h [u0,u1] = some ([v0,v1],h1)) : z0d X z7A [u0,u1] h P = z2V (z0d X) X.gl z2x z4b v0 v1 h1 [] (finR [] false h.length P):=by rw [z0k x_q06l rfl hp rfl]; exact e_q06l
theorem x_q06p : X.fn z9o = some ziN:=by kernel_rfl
theorem c_q06p {u0 v0 : AV} {h h1 : Heap} {P : Post} (hp : z00 h [u0] = some ([v0],h1)) : z0d X z9o [u0] h P = zjF (z0d X) X.gl v0 h1 [] (finR [.t 2] false h.length P):=by rw [z0k x_q06p rfl hp rfl]; exact e_q06p
theorem x_q030 : X.fn z9a = some zi4:=by kernel_rfl
theorem c_q030 {u0 u1 v0 v1 : AV} {h h1 : Heap} {P : Post} (hp : z00 h [u0,u1] = some ([v0,v1],h1)) : z0d X z9a [u0,u1] h P = zj6 (z0d X) X.gl v0 v1 h1 [] (finR [.t 4] false h.length P):=by rw [z0k x_q030 rfl hp rfl]; exact e_q030
theorem x_q02m : X.fn z8X = some zis:=by kernel_rfl
theorem c_q02m {u0 v0 : AV} {h h1 : Heap} {P : Post} (hp : z00 h [u0] = some ([v0],h1)) : z0d X z8X [u0] h P = z39 (z0d X) X.gl z5u z5v v0 h1 [] (finR [.cell 2 (some 6)] false h.length P):=by rw [z0k x_q02m rfl hp rfl]; exact e_q02m
theorem x_q02q : X.fn z2q = some ziu:=by kernel_rfl
theorem c_q02q {u0 u1 v0 v1 : AV} {h h1 : Heap} {P : Post} (hp : z00 h [u0,u1] = some ([v0,v1],h1)) : z0d X z2q [u0,u1] h P = zj2 (z0d X) X.gl v0 v1 h1 [] (finR [.t 4] false h.length P):=by rw [z0k x_q02q rfl hp rfl]; exact e_q02q
theorem x_q02t : X.fn z1s = some zix:=by kernel_rfl
theorem c_q02t {u0 u1 v0 v1 : AV} {h h1 : Heap} {P : Post} (hp : z00 h [u0,u1] = some ([v0,v1],h1)) : z0d X z1s [u0,u1] h P = zj3 (z0d X) X.gl v0 v1 h1 [] (finR [.t 4] false h.length P):=by rw [z0k x_q02t rfl hp rfl]; exact e_q02t
theorem x_q04y : X.fn z2Y = some ziH:=by kernel_rfl
theorem c_q04y {u0 u1 v0 v1 : AV} {h h1 : Heap} {P : Post} (hp : z00 h [u0,u1] = some ([v0,v1],h1)) : z0d X z2Y [u0,u1] h P = zjB (z0d X) X.gl v0 v1 h1 [] (finR [.t 4,.t 5] false h.length P):=by rw [z0k x_q04y rfl hp rfl]; exact e_q04y
theorem x_q04x : X.fn z4F = some ziG:=by kernel_rfl
theorem c_q04x {u0 v0 : AV} {h h1 : Heap} {P : Post} (hp : z00 h [u0] = some ([v0],h1)) : z0d X z4F [u0] h P = ze4 (z0d X) X.gl v0 h1 [] (finR [.t 2] false h.length P):=by rw [z0k x_q04x rfl hp rfl]; exact e_q04x
theorem x_q03d : X.fn z9b = some zi8:=by kernel_rfl
theorem c_q03d {u0 v0 : AV} {h h1 : Heap} {P : Post} (hp : z00 h [u0] = some ([v0],h1)) : z0d X z9b [u0] h P = z2e (z0d X) X.gl z54 z55 v0 h1 [] (finR [.t 2] false h.length P):=by rw [z0k x_q03d rfl hp rfl]; exact e_q03d
theorem x_q03a : X.fn z71 = some zi7:=by kernel_rfl
theorem c_q03a {u0 v0 : AV} {h h1 : Heap} {P : Post} (hp : z00 h [u0] = some ([v0],h1)) : z0d X z71 [u0] h P = zez (z0d X) X.gl z3h z52 v0 h1 [] (finR [.t 2,.t 3,.t 4] false h.length P):=by rw [z0k x_q03a rfl hp rfl]; exact e_q03a
theorem x_q02l : X.fn z4D = some zir:=by kernel_rfl
theorem c_q02l {u0 u1 v0 v1 : AV} {h h1 : Heap} {P : Post} (hp : z00 h [u0,u1] = some ([v0,v1],h1)) : z0d X z4D [u0,u1] h P = zer (z0d X) X.gl z5t v0 v1 h1 [] (finR [.t 4] false h.length P):=by rw [z0k x_q02l rfl hp rfl]; exact e_q02l
theorem x_q009 : X.fn z1d = some zdN:=by kernel_rfl
theorem c_q009 {u0 u1 u2 v0 v1 v2 : AV} {h h1 : Heap} {P : Post} (hp : z00 h [u0,u1,u2] = some ([v0,v1,v2],h1)) : z0d X z1d [u0,u1,u2] h P = zj0 (z0d X) X.gl v0 v1 v2 h1 [] (finR [.t 6] false h.length P):=by rw [z0k x_q009 rfl hp rfl]; exact e_q009
theorem x_q06e : X.fn z79 = some zdX:=by kernel_rfl
theorem c_q06e {u0 v0 : AV} {h h1 : Heap} {P : Post} (hp : z00 h [u0] = some ([v0],h1)) : z0d X z79 [u0] h P = z2A (z0d X) X.gl z5E v0 h1 [] (finR [.cell 2 (some 6),.t 3] false h.length P):=by rw [z0k x_q06e rfl hp rfl]; exact e_q06e
theorem x_q06r : X.fn z7E = some zeh:=by kernel_rfl
theorem c_q06r {h h1 : Heap} {P : Post} (hp : z00 h [] = some ([],h1)) : z0d X z7E [] h P = zjG (z0d X) X.gl  h1 [] (finR [.cell 0 (some 36)] false h.length P):=by rw [z0k x_q06r rfl hp rfl]; exact e_q06r
theorem x_q06c : X.fn z5l = some zdV:=by kernel_rfl
theorem c_q06c {u0 v0 : AV} {h h1 : Heap} {P : Post} (hp : z00 h [u0] = some ([v0],h1)) : z0d X z5l [u0] h P = zbJ (z0d X) X.gl v0 h1 [] (finR [.t 2] false h.length P):=by rw [z0k x_q06c rfl hp rfl]; exact e_q06c
theorem x_q06k : X.fn z5m = some zea:=by kernel_rfl
theorem zss {u0 u1 v0 v1 : AV} {h h1 : Heap} {P : Post} (hp : z00 h [u0,u1] = some ([v0,v1],h1)) : z0d X z5m [u0,u1] h P = zbP (z0d X) X.gl z5F v0 v1 h1 [] (finR [.t 4] false h.length P):=by rw [z0k x_q06k rfl hp rfl]; exact e_q06k
theorem x_q06m : X.fn z2Z = some zec:=by kernel_rfl
theorem c_q06m {u0 u1 v0 v1 : AV} {h h1 : Heap} {P : Post} (hp : z00 h [u0,u1] = some ([v0,v1],h1)) : z0d X z2Z [u0,u1] h P = zeC (z0d X) X.gl z3o z5G v0 v1 h1 [] (finR [] false h.length P):=by rw [z0k x_q06m rfl hp rfl]; exact e_q06m
theorem x_q06j : X.fn z3O = some zdZ:=by kernel_rfl
theorem c_q06j {u0 u1 u2 u3 v0 v1 v2 v3 : AV} {h h1 : Heap} {P : Post} (hp : z00 h [u0,u1,u2,u3] = some ([v0,v1,v2,v3],h1)) : z0d X z3O [u0,u1,u2,u3] h P = zeB (z0d X) X.gl v0 v1 v2 v3 h1 [] (finR [] false h.length P):=by rw [z0k x_q06j rfl hp rfl]; exact e_q06j
theorem x_q02x : X.fn z3A = some zi1:=by kernel_rfl
theorem c_q02x {u0 u1 v0 v1 : AV} {h h1 : Heap} {P : Post} (hp : z00 h [u0,u1] = some ([v0,v1],h1)) : z0d X z3A [u0,u1] h P = zew (z0d X) X.gl z3d z5y v0 v1 h1 [] (finR [.t 4] false h.length P):=by rw [z0k x_q02x rfl hp rfl]; exact e_q02x
theorem x_q02s : X.fn z61 = some ziw:=by kernel_rfl
theorem zsq {u0 u1 u2 v0 v1 v2 : AV} {h h1 : Heap} {P : Post} (hp : z00 h [u0,u1,u2] = some ([v0,v1,v2],h1)) : z0d X z61 [u0,u1,u2] h P = zeu (z0d X) X.gl v0 v1 v2 h1 [] (finR [.t 6] false h.length P):=by rw [z0k x_q02s rfl hp rfl]; exact e_q02s
theorem x_q02w : X.fn z2r = some zi0:=by kernel_rfl
theorem c_q02w {u0 u1 v0 v1 : AV} {h h1 : Heap} {P : Post} (hp : z00 h [u0,u1] = some ([v0,v1],h1)) : z0d X z2r [u0,u1] h P = zj5 (z0d X) X.gl v0 v1 h1 [] (finR [.t 4] false h.length P):=by rw [z0k x_q02w rfl hp rfl]; exact e_q02w
theorem x_q04z : X.fn z9i = some ziI:=by kernel_rfl
theorem c_q04z {u0 v0 : AV} {h h1 : Heap} {P : Post} (hp : z00 h [u0] = some ([v0],h1)) : z0d X z9i [u0] h P = ze5 (z0d X) X.gl v0 h1 [] (finR [] false h.length P):=by rw [z0k x_q04z rfl hp rfl]; exact e_q04z
theorem x_q03p : X.fn z9h = some ziF:=by kernel_rfl
theorem c_q03p {u0 v0 : AV} {h h1 : Heap} {P : Post} (hp : z00 h [u0] = some ([v0],h1)) : z0d X z9h [u0] h P = zj9 (z0d X) X.gl v0 h1 [] (finR [.t 2] false h.length P):=by rw [z0k x_q03p rfl hp rfl]; exact e_q03p
theorem x_q03i : X.fn z9d = some ziA:=by kernel_rfl
theorem c_q03i {u0 u1 u2 v0 v1 v2 : AV} {h h1 : Heap} {P : Post} (hp : z00 h [u0,u1,u2] = some ([v0,v1,v2],h1)) : z0d X z9d [u0,u1,u2] h P = zj8 (z0d X) X.gl v0 v1 v2 h1 [] (finR [.t 6] false h.length P):=by rw [z0k x_q03i rfl hp rfl]; exact e_q03i
theorem x_q031 : X.fn z3B = some zi5:=by kernel_rfl
theorem c_q031 {u0 v0 : AV} {h h1 : Heap} {P : Post} (hp : z00 h [u0] = some ([v0],h1)) : z0d X z3B [u0] h P = zj7 (z0d X) X.gl v0 h1 [] (finR [.t 2] false h.length P):=by rw [z0k x_q031 rfl hp rfl]; exact e_q031
theorem x_q03n : X.fn z9g = some ziE:=by kernel_rfl
theorem c_q03n {u0 v0 : AV} {h h1 : Heap} {P : Post} (hp : z00 h [u0] = some ([v0],h1)) : z0d X z9g [u0] h P = z2U (z0d X) X.gl v0 h1 [] (finR [.t 2] false h.length P):=by rw [z0k x_q03n rfl hp rfl]; exact e_q03n
theorem x_q03m : X.fn z9f = some ziD:=by kernel_rfl
theorem c_q03m {u0 v0 : AV} {h h1 : Heap} {P : Post} (hp : z00 h [u0] = some ([v0],h1)) : z0d X z9f [u0] h P = ze2 (z0d X) X.gl z3k z5A v0 h1 [] (finR [.t 2] false h.length P):=by rw [z0k x_q03m rfl hp rfl]; exact e_q03m
theorem x_q044 : X.fn z73 = some zdQ:=by kernel_rfl
theorem c_q044 {u0 u1 h P} : z0d X z73 [u0,u1] h P = ze3 (z0d X) X.gl z3l z5B u0 u1 h [] (finR [.t 4] false h.length P):=by rw [zel x_q044 rfl rfl]; exact e_q044
theorem x_q06q : X.fn z7D = some zeg:=by kernel_rfl
theorem c_q06q {u0 v0 : AV} {h h1 : Heap} {P : Post} (hp : z00 h [u0] = some ([v0],h1)) : z0d X z7D [u0] h P = z7w (z0d X) X.gl v0 h1 [] (finR [.t 2] false h.length P):=by rw [z0k x_q06q rfl hp rfl]; exact e_q06q
theorem x_q06n : X.fn z7B = some zee:=by kernel_rfl
theorem c_q06n {u0 v0 : AV} {h h1 : Heap} {P : Post} (hp : z00 h [u0] = some ([v0],h1)) : z0d X z7B [u0] h P = z2W (z0d X) X.gl v0 h1 [] (finR [.t 2] false h.length P):=by rw [z0k x_q06n rfl hp rfl]; exact e_q06n
theorem x_q000 : X.fn z2p = some zdM:=by kernel_rfl
theorem c_q000 {u0 v0 : AV} {h h1 : Heap} {P : Post} (hp : z00 h [u0] = some ([v0],h1)) : z0d X z2p [u0] h P = zjz (z0d X) X.gl v0 h1 [] (finR [.t 2] false h.length P):=by rw [z0k x_q000 rfl hp rfl]; exact e_q000
theorem x_q05p : X.fn z77 = some zdR:=by kernel_rfl
theorem c_q05p {u0 u1 v0 v1 : AV} {h h1 : Heap} {P : Post} (hp : z00 h [u0,u1] = some ([v0,v1],h1)) : z0d X z77 [u0,u1] h P = zjD (z0d X) X.gl v0 v1 h1 [] (finR [.t 4,.t 5] false h.length P):=by rw [z0k x_q05p rfl hp rfl]; exact e_q05p
theorem x_q01w : X.fn z8W = some zip:=by kernel_rfl
theorem c_q01w {u0 u1 v0 v1 : AV} {h h1 : Heap} {P : Post} (hp : z00 h [u0,u1] = some ([v0,v1],h1)) : z0d X z8W [u0,u1] h P = zj1 (z0d X) X.gl v0 v1 h1 [] (finR [.t 4] false h.length P):=by rw [z0k x_q01w rfl hp rfl]; exact e_q01w
theorem x_q03x : X.fn z4E = some zdP:=by kernel_rfl
theorem c_q03x {u0 u1 h P} : z0d X z4E [u0,u1] h P = zjA (z0d X) X.gl u0 u1 h [] (finR [.t 4] false h.length P):=by rw [zel x_q03x rfl rfl]; exact e_q03x
theorem x_q03k : X.fn z9e = some ziB:=by kernel_rfl
theorem c_q03k {u0 u1 v0 v1 : AV} {h h1 : Heap} {P : Post} (hp : z00 h [u0,u1] = some ([v0,v1],h1)) : z0d X z9e [u0,u1] h P = ze1 (z0d X) X.gl z3j z57 v0 v1 h1 [] (finR [.t 4] false h.length P):=by rw [z0k x_q03k rfl hp rfl]; exact e_q03k
theorem x_q03l : X.fn z3M = some ziC:=by kernel_rfl
theorem zaW {u0 u1 u2 v0 v1 v2 : AV} {h h1 : Heap} {P : Post} (hp : z00 h [u0,u1,u2] = some ([v0,v1,v2],h1)) : z0d X z3M [u0,u1,u2] h P = z6w (z0d X) X.gl z58 z59 v0 v1 v2 h1 [] (finR [.cell 6 (some 5)] false h.length P):=by rw [z0k x_q03l rfl hp rfl]; exact e_q03l
theorem x_q05q : X.fn z5k = some zdS:=by kernel_rfl
theorem c_q05q {u0 v0 : AV} {h h1 : Heap} {P : Post} (hp : z00 h [u0] = some ([v0],h1)) : z0d X z5k [u0] h P = zjE (z0d X) X.gl v0 h1 [] (finR [.t 2] false h.length P):=by rw [z0k x_q05q rfl hp rfl]; exact e_q05q
theorem ztA : X.fn z3N = some z8G:=by kernel_rfl
theorem c_q05s {u0 u1 v0 v1 : AV} {h h1 : Heap} {P : Post} (hp : z00 h [u0,u1] = some ([v0,v1],h1)) : z0d X z3N [u0,u1] h P = ∃ v h' x,P v h' x ∧ zbD (z0d X) X.gl z3m z5C v0 v1 h1 [] (finR [.t 4] false h.length fun v1 h1 x1=>v1 = v ∧ h1 = h' ∧ x1 = x):=by rw [z6u ztA rfl hp rfl]; exact zlg fun v h' x=>congrArg (And (P v h' x)) zsw
theorem x_q058 : X.fn z9k = some ziJ:=by kernel_rfl
theorem c_q058 {u0 u1 v0 v1 : AV} {h h1 : Heap} {P : Post} (hp : z00 h [u0,u1] = some ([v0,v1],h1)) : z0d X z9k [u0,u1] h P = zjC (z0d X) X.gl v0 v1 h1 [] (finR [.t 4] false h.length P):=by rw [z0k x_q058 rfl hp rfl]; exact e_q058
theorem x_q02y : X.fn z2f = some zi2:=by kernel_rfl
theorem c_q02y {u0 u1 v0 v1 : AV} {h h1 : Heap} {P : Post} (hp : z00 h [u0,u1] = some ([v0,v1],h1)) : z0d X z2f [u0,u1] h P = zex (z0d X) X.gl z3e v0 v1 h1 [] (finR [.t 4] false h.length P):=by rw [z0k x_q02y rfl hp rfl]; exact e_q02y
theorem x_q03h : X.fn z9c = some zi9:=by kernel_rfl
theorem c_q03h {u0 v0 : AV} {h h1 : Heap} {P : Post} (hp : z00 h [u0] = some ([v0],h1)) : z0d X z9c [u0] h P = ze0 (z0d X) X.gl z3i z56 v0 h1 [] (finR [.t 2] false h.length P):=by rw [z0k x_q03h rfl hp rfl]; exact e_q03h
theorem zt9 : X.fn z4G = some z6S:=by kernel_rfl
theorem c_q05r {u0 u1 v0 v1 : AV} {h h1 : Heap} {P : Post} (hp : z00 h [u0,u1] = some ([v0,v1],h1)) : z0d X z4G [u0,u1] h P = ze6 (z0d X) X.gl v0 v1 h1 [] (finR [.t 4] false h.length P):=by rw [z0k zt9 rfl hp rfl]; exact zsv
attribute [go_sem] zjT zjU zlG zbh zbi zkg zkh zlK zbr zbs zjV zjW zlH zbj zbk zkp zkq zlO zby zbz zkc zkd zke zkf zlI zlJ zbo zbp zbq z7l zkr zks zlP zb1 zb2 zkF zkG zlX zbH zbI
attribute [go_sem] zkI zkJ zlY zbN zbO zkR zkS zma zbT z3I zjY zjZ zka zkb zbm z7k zbn z1q zkv zkw zkx zky z2n z1r z0K z2T zkt zku zlQ zb3 zb4 zjX zbl zkH zbL zkK zkL zkM zkN zkO
attribute [go_sem] zkP zkQ zlZ zbQ z7s zbR z7t zbS z7u z7v zkT zkU zmb zbU zbV zki zkj zlL zbt zbu zk7 zk8 zlT zb9 zbA zk9 zkA zlU zbB zbC zk2 zk3 zlS zb7 zb8 zk4 zk5 zk6 z1W z7p
attribute [go_sem] z1E zkB zkC zkD zkE zlV zlW zbE z7q z7r zbF zkk zkl zkm zkn zko zlM zlN zbv zbw z7m zbx z7n zkz zk0 zk1 zlR zb5 z7o zb6
end Go.Am
end
section
/- The stream of numbers out of which the laws draw. -/
open Go
namespace Go.Am
abbrev eI (n : Int) : PV:=.int .i64 n
abbrev AL (l : List Int) : AV:=.p (.sl none (l.map eI))
abbrev strm (L : List Int) (a : Int) : Obj:=.box [AL L,AI a]
def zaT (x n : Int) : Int:=if n < 1 then 0 else if x.tmod n < 0 then IntKind.i64.wrap (x.tmod n + n) else x.tmod n
theorem zoE (x n : Int) (h : Heap) (K : Post) : z0d X z4D [AI x,AI n] h K = K (AI (zaT x n)) h []:=by
 refine rule ?_
 rw [c_q02l rfl]
 simp only [zer,go_sem]
 unfold zaT
 by_cases h1 : n < 1
 ·simp only [h1,if_true]
 ·simp only [h1,if_false,show ¬ n = 0 by omega]
  split <;> rfl
theorem zpD (x n : Int) (h1 : 1 ≤ n) (h2 : n ≤ 4611686018427387904) : 0 ≤ zaT x n ∧ zaT x n < n:=by
 unfold zaT
 rw [if_neg (by omega)]
 have:=Int.tmod_lt_of_pos x (show 0 < n by omega)
 have h3 : -n < x.tmod n:=by
  have:=Int.lt_tmod_of_pos x (show 0 < n by omega)
  exact this
 split
 ·rw [z0l _ (by omega) (by omega)]; omega
 ·omega
def z1C (L : List Int) (a n : Int) : Int:=
 if L.length = 0 then zaT (IntKind.i64.wrap ((a + 1) * 7919)) n
 else zaT (IntKind.i64.wrap (zaT (L.getD (a.tmod L.length).toNat 0) 1073741824 + IntKind.i64.wrap (IntKind.i64.wrap (a.tdiv L.length) * IntKind.i64.wrap (7919 + a.tmod L.length)))) n
theorem z4x (L : List Int) (a n : Int) (h1 : 1 ≤ n) (h2 : n ≤ 4611686018427387904) : 0 ≤ z1C L a n ∧ z1C L a n < n:=by
 unfold z1C
 split <;> exact zpD _ _ h1 h2
theorem z5S {h : Heap} {id : Nat} {o' : Obj} (hid : id < h.length) : (h.set id o')[id]? = some o':=by simp [hid]
theorem z5p {h : Heap} {id : Nat} {o : Obj} (hh : h[id]? = some o) : id < h.length:=(List.getElem?_eq_some_iff.1 hh).1
def posN (n : Nat) (a : Int) : Prop:=0 ≤ a ∧ a + n < 4611686018427387904
theorem z1u {n m : Nat} {a b : Int} (H : posN m a) (h : a ≤ b) (hn : b + n ≤ a + m) : posN n b:=by unfold posN at *; omega
theorem zfs {a : Int} (H : posN 14 a) : posN 0 (a) ∧ posN 0 (a + 1) ∧ posN 0 (a + 1 + 1) ∧ posN 0 (a + 1 + 1 + 1) ∧ posN 0 (a + 1 + 1 + 1 + 1) ∧ posN 0 (a + 1 + 1 + 1 + 1 + 1) ∧ posN 0 (a + 1 + 1 + 1 + 1 + 1 + 1) ∧ posN 0 (a + 1 + 1 + 1 + 1 + 1 + 1 + 1) ∧ posN 0 (a + 1 + 1 + 1 + 1 + 1 + 1 + 1 + 1) ∧ posN 0 (a + 1 + 1 + 1 + 1 + 1 + 1 + 1 + 1 + 1) ∧ posN 0 (a + 1 + 1 + 1 + 1 + 1 + 1 + 1 + 1 + 1 + 1) ∧ posN 0 (a + 1 + 1 + 1 + 1 + 1 + 1 + 1 + 1 + 1 + 1 + 1) ∧ posN 0 (a + 1 + 1 + 1 + 1 + 1 + 1 + 1 + 1 + 1 + 1 + 1 + 1) ∧ posN 0 (a + 1 + 1 + 1 + 1 + 1 + 1 + 1 + 1 + 1 + 1 + 1 + 1 + 1) ∧ posN 0 (a + 1 + 1 + 1 + 1 + 1 + 1 + 1 + 1 + 1 + 1 + 1 + 1 + 1 + 1):=by
 unfold posN at *; omega
def Gen (f : Nat) (args : List AV) (L : List Int) (a a2 : Int) (v : AV) : Prop:=∀ (h : Heap) (id : Nat) (K : Post),h[id]? = some (strm L a) → z0d X f (.ref id 0 :: args) h K = K v (h.set id (strm L a2)) []
section
variable {f : Nat} {args : List AV} {L : List Int} {a a2 : Int} {v : AV} {h l : Heap} {id : Nat} {K : Post}
theorem Gen.set (g : Gen f args L a a2 v) (hid : id < h.length) : z0d X f (.ref id 0 :: args) (h.set id (strm L a)) K = K v (h.set id (strm L a2)) []:=by
 rw [g _ _ _ (z5S hid),List.set_set]
theorem Gen.app (g : Gen f args L a a2 v) (hid : id < h.length) : z0d X f (.ref id 0 :: args) (h.set id (strm L a) ++ l) K = K v (h.set id (strm L a2) ++ l) []:=by
 rw [g _ _ _ (by rw [zl6 (by simpa using hid)]; exact z5S hid),zoU (by simpa using hid),List.set_set]
theorem Gen.hd (g : Gen f args L a a2 v) : z0d X f (.ref 0 0 :: args) (strm L a :: l) K = K v (strm L a2 :: l) []:=by
 rw [g _ _ _ rfl]; rfl
theorem Gen.of (H : ∀ (h : Heap) (id : Nat),id < h.length → z0d X f (.ref id 0 :: args) (h.set id (strm L a)) fun v1 h1 x1=>v1 = v ∧ h1 = h.set id (strm L a2) ∧ x1 = []) : Gen f args L a a2 v:=by
 intro h id K hh
 have hid:=z5p hh
 have : h.set id (strm L a) = h:=by
  apply List.ext_getElem?
  intro i
  rw [List.getElem?_set]
  split
  ·rename_i e; subst e; rw [hh]
  ·rfl
 have k:=H h id hid
 rw [this] at k
 exact rule k
end
def GenE (f : Nat) (args : List AV) (L : List Int) (a : Int) (Q : AV → Int → Prop) : Prop:=∀ (h : Heap) (id : Nat),h[id]? = some (strm L a) → ∃ v a2,Q v a2 ∧ ∀ K : Post,z0d X f (.ref id 0 :: args) h K = K v (h.set id (strm L a2)) []
section
variable {f : Nat} {args : List AV} {L : List Int} {a : Int} {Q : AV → Int → Prop}
theorem GenE.set (g : GenE f args L a Q) {h : Heap} {id : Nat} (hid : id < h.length) : ∃ v a2,Q v a2 ∧ ∀ K : Post,z0d X f (.ref id 0 :: args) (h.set id (strm L a)) K = K v (h.set id (strm L a2)) []:=by
 obtain ⟨v,a2,q,r⟩:=g _ _ (z5S hid)
 exact ⟨v,a2,q,fun K=>by rw [r,List.set_set]⟩
theorem GenE.app (g : GenE f args L a Q) {h l : Heap} {id : Nat} (hid : id < h.length) : ∃ v a2,Q v a2 ∧ ∀ K : Post,z0d X f (.ref id 0 :: args) (h.set id (strm L a) ++ l) K = K v (h.set id (strm L a2) ++ l) []:=by
 obtain ⟨v,a2,q,r⟩:=g (h.set id (strm L a) ++ l) id (by rw [zl6 (by simpa using hid)]; exact z5S hid)
 exact ⟨v,a2,q,fun K=>by rw [r,zoU (by simpa using hid),List.set_set]⟩
theorem GenE.hd (g : GenE f args L a Q) {l : Heap} : ∃ v a2,Q v a2 ∧ ∀ K : Post,z0d X f (.ref 0 0 :: args) (strm L a :: l) K = K v (strm L a2 :: l) []:=g (strm L a :: l) 0 rfl
theorem GenE.of (H : ∀ (h : Heap) (id : Nat),id < h.length → z0d X f (.ref id 0 :: args) (h.set id (strm L a)) fun v1 h1 x1=>∃ a2,Q v1 a2 ∧ h1 = h.set id (strm L a2) ∧ x1 = []) : GenE f args L a Q:=by
 intro h id hh
 have hid:=z5p hh
 have : h.set id (strm L a) = h:=by
  apply List.ext_getElem?
  intro i
  rw [List.getElem?_set]
  split
  ·rename_i e; subst e; rw [hh]
  ·rfl
 have k:=H h id hid
 rw [this] at k
 obtain ⟨v,h',x,⟨a2,q,e1,e2⟩,r⟩:=z0d.one zdL k
 subst e1; subst e2
 exact ⟨v,a2,q,r⟩
end
def z3D (l : List Int) (L : List Int) (a : Int) : Int:=l.getD (z1C L a l.length).toNat 0
theorem z8g {l L : List Int} {a : Int} (hl : 0 < l.length) (hl2 : l.length < 4611686018427387904) : z3D l L a ∈ l:=by
 obtain ⟨b1,b2⟩:=z4x L a l.length (by omega) (by omega)
 unfold z3D
 have : (z1C L a l.length).toNat < l.length:=by omega
 simp only [List.getD,List.getElem?_eq_getElem this,Option.getD_some]
 exact List.getElem_mem _
def isI : PV → Bool
 | .int .i64 _=>true
 | _=>false
def unI : PV → Int
 | .int _ n=>n
 | _=>0
theorem zvS {xs : List PV} (h : xs.all isI = true) : xs = (xs.map unI).map eI:=by
 induction xs with
 | nil=>rfl
 | cons x r ih=>
  simp only [List.all_cons,Bool.and_eq_true] at h
  simp only [List.map_cons]
  rw [← ih h.2]
  cases x with
  | int k n=>cases k <;> first | rfl | cases h.1
  | _=>cases h.1
set_option maxHeartbeats 400000 in
theorem zl2 (L : List Int) (a n : Int) (hp : posN 0 a) : Gen z1Y [AI n] L a (a + 1) (AI (z1C L a n)):=by
 refine Gen.of fun h id hid=>?_
 rw [c_q02r rfl]
 obtain ⟨h0,h1⟩:=hp
 have w1 : IntKind.i64.wrap (a + 1) = a + 1:=z0l _ (by omega) (by omega)
 have w2 : IntKind.i64.wrap (a + 1 - 1) = a:=by rw [z0l _ (by omega) (by omega)]; omega
 have hs : ∀ o',(h.set id o')[id]? = some o':=fun o'=>z5S hid
 rcases Nat.eq_zero_or_pos L.length with hl | hl
 ·simp only [zet,go_sem,hs,zoE,hl,w1]
  simp only [z1C,hl,if_true]
 ·have e1 : ((L.length : Int) = 0) = False:=by simp only [eq_iff_iff,iff_false]; omega
  have e2 : 0 ≤ a.tmod L.length:=Int.tmod_nonneg _ h0
  have e3 : a.tmod L.length < L.length:=Int.tmod_lt_of_pos _ (by omega)
  have e4:=z7L (k:=.i64) e2
  have e5 : (L.map eI)[(a.tmod L.length).toNat]? = some (eI (L.getD (a.tmod L.length).toNat 0)):=by
   rw [z2t eI (show (a.tmod L.length).toNat < L.length by omega)]
   simp [List.getD,show (a.tmod L.length).toNat < L.length by omega]
  simp only [zet,go_sem,hs,zoE,e1,w1,w2,e4,e5]
  simp only [z1C,show ¬ L.length = 0 by omega,if_false]
section
variable {L : List Int} {a : Int} {h l : Heap} {id : Nat} {K : Post}
theorem z2k (hid : id < h.length) (hp : posN 0 a) (n : Int) : z0d X z1Y [.ref id 0,AI n] (h.set id (strm L a)) K = K (AI (z1C L a n)) (h.set id (strm L (a + 1))) []:=(zl2 L a n hp).set hid
theorem z96 (hid : id < h.length) (hp : posN 0 a) (n : Int) : z0d X z1Y [.ref id 0,AI n] (h.set id (strm L a) ++ l) K = K (AI (z1C L a n)) (h.set id (strm L (a + 1)) ++ l) []:=(zl2 L a n hp).app hid
theorem zc8 (hp : posN 0 a) (n : Int) : z0d X z1Y [.ref 0 0,AI n] (strm L a :: l) K = K (AI (z1C L a n)) (strm L (a + 1) :: l) []:=(zl2 L a n hp).hd
theorem zl1 (hp : posN 0 a) (n : Int) : Gen z2q [AI n] L a (a + 1) (AB (decide (z1C L a n = 0))):=by
 refine Gen.of fun h id hid=>?_
 rw [c_q02q rfl]
 simp only [zj2,go_sem,z2k hid hp]
theorem z95 (hid : id < h.length) (hp : posN 0 a) (n : Int) : z0d X z2q [.ref id 0,AI n] (h.set id (strm L a)) K = K (AB (decide (z1C L a n = 0))) (h.set id (strm L (a + 1))) []:=(zl1 hp n).set hid
theorem z94 (hid : id < h.length) (hp : posN 0 a) (n : Int) : z0d X z2q [.ref id 0,AI n] (h.set id (strm L a) ++ l) K = K (AB (decide (z1C L a n = 0))) (h.set id (strm L (a + 1)) ++ l) []:=(zl1 hp n).app hid
theorem zc7 (hp : posN 0 a) (n : Int) : z0d X z2q [.ref 0 0,AI n] (strm L a :: l) K = K (AB (decide (z1C L a n = 0))) (strm L (a + 1) :: l) []:=(zl1 hp n).hd
theorem zl3 (hp : posN 0 a) (xs : List PV) (hx : xs.all isI = true) (hl : 0 < xs.length) (hl2 : xs.length < 4611686018427387904) :
 Gen z1s [.p (.sl none xs)] L a (a + 1) (AI (z3D (xs.map unI) L a)):=by
 refine Gen.of fun h id hid=>?_
 rw [c_q02t rfl]
 obtain ⟨b1,b2⟩:=z4x L a xs.length (by omega) (by omega)
 have e4:=z7L (k:=.i64) b1
 have e5 : xs[(z1C L a xs.length).toNat]? = some (eI (z3D (xs.map unI) L a)):=by
  have hm:=zvS hx
  generalize hq : xs.map unI = q at *
  subst hm
  simp only [List.length_map] at *
  rw [z2t eI (show (z1C L a q.length).toNat < q.length by omega)]
  simp [z3D,List.getD,show (z1C L a q.length).toNat < q.length by omega]
 simp only [zj3,go_sem,z2k hid hp,e4,e5]
theorem z98 (hid : id < h.length) (hp : posN 0 a) {xs : List PV} (hx : xs.all isI = true) (hl : 0 < xs.length) (hl2 : xs.length < 4611686018427387904) :
 z0d X z1s [.ref id 0,.p (.sl none xs)] (h.set id (strm L a)) K = K (AI (z3D (xs.map unI) L a)) (h.set id (strm L (a + 1))) []:=(zl3 hp xs hx hl hl2).set hid
theorem z97 (hid : id < h.length) (hp : posN 0 a) {xs : List PV} (hx : xs.all isI = true) (hl : 0 < xs.length) (hl2 : xs.length < 4611686018427387904) :
 z0d X z1s [.ref id 0,.p (.sl none xs)] (h.set id (strm L a) ++ l) K = K (AI (z3D (xs.map unI) L a)) (h.set id (strm L (a + 1)) ++ l) []:=(zl3 hp xs hx hl hl2).app hid
theorem zc9 (hp : posN 0 a) {xs : List PV} (hx : xs.all isI = true) (hl : 0 < xs.length) (hl2 : xs.length < 4611686018427387904) :
 z0d X z1s [.ref 0 0,.p (.sl none xs)] (strm L a :: l) K = K (AI (z3D (xs.map unI) L a)) (strm L (a + 1) :: l) []:=(zl3 hp xs hx hl hl2).hd
def z2H (u v : Int) (L : List Int) (a : Int) : Int:=u + z1C L a (v - u + 1)
theorem z8j {u v : Int} (L : List Int) (a : Int) (h1 : u ≤ v) (h2 : v ≤ u + 4611686018427387900) : u ≤ z2H u v L a ∧ z2H u v L a ≤ v:=by
 have:=z4x L a (v - u + 1) (by omega) (by omega)
 unfold z2H; omega
theorem zdt (hp : posN 0 a) (u v : Int) (huv : u ≤ v) (hu : -1152921504606846976 ≤ u) (hv : v ≤ 1152921504606846976) :
 Gen z3L [AI u,AI v] L a (a + 1) (AI (z2H u v L a)):=by
 refine Gen.of fun h id hid=>?_
 rw [c_q02u rfl]
 obtain ⟨b1,b2⟩:=z8j L a huv (by omega)
 have w1 : IntKind.i64.wrap (v - u) = v - u:=z0l _ (by omega) (by omega)
 have w2 : IntKind.i64.wrap (v - u + 1) = v - u + 1:=z0l _ (by omega) (by omega)
 have w3 : IntKind.i64.wrap (u + z1C L a (v - u + 1)) = z2H u v L a:=z0l (z2H u v L a) (by omega) (by omega)
 simp only [zj4,go_sem,show ¬ v < u by omega,w1,w2,z2k hid hp,w3]
theorem z8u (hid : id < h.length) (hp : posN 0 a) {u v : Int} (huv : u ≤ v) (hu : -1152921504606846976 ≤ u) (hv : v ≤ 1152921504606846976) :
 z0d X z3L [.ref id 0,AI u,AI v] (h.set id (strm L a)) K = K (AI (z2H u v L a)) (h.set id (strm L (a + 1))) []:=(zdt hp u v huv hu hv).set hid
theorem z8t (hid : id < h.length) (hp : posN 0 a) {u v : Int} (huv : u ≤ v) (hu : -1152921504606846976 ≤ u) (hv : v ≤ 1152921504606846976) :
 z0d X z3L [.ref id 0,AI u,AI v] (h.set id (strm L a) ++ l) K = K (AI (z2H u v L a)) (h.set id (strm L (a + 1)) ++ l) []:=(zdt hp u v huv hu hv).app hid
theorem z99 (hp : posN 0 a) {u v : Int} (huv : u ≤ v) (hu : -1152921504606846976 ≤ u) (hv : v ≤ 1152921504606846976) :
 z0d X z3L [.ref 0 0,AI u,AI v] (strm L a :: l) K = K (AI (z2H u v L a)) (strm L (a + 1) :: l) []:=(zdt hp u v huv hu hv).hd
end
attribute [go_sem ↓] z2k z96 zc8 z95 z94 zc7 z98 z97 zc9 z8u z8t z99
attribute [go_sem] z2k z96 zc8 z95 z94 zc7 z98 z97 zc9 z8u z8t z99 isI unI
end Go.Am
end
section
/- Maps,asv lists of keys with values. -/
open Go
set_option linter.all false
namespace Go.Am
section
variable {α β : Type} [DecidableEq α]
def mesF (key : α → PV) (val : β → AV) : Nat → List (α × β) → List ME
 | _,[]=>[]
 | n,e :: r=>⟨key e.1,val e.2,n⟩ :: mesF key val (n + 1) r
def mobj (key : α → PV) (val : β → AV) (l : List (α × β)) : Obj:=.amap (mesF key val 0 l) l.length
def z1I (k : α) : List (α × β) → Option Nat
 | []=>none
 | e :: r=>if k = e.1 then some 0 else (z1I k r).map (· + 1)
def getM (k : α) : List (α × β) → Option β
 | []=>none
 | e :: r=>if k = e.1 then some e.2 else getM k r
def updM (k : α) (v : β) : List (α × β) → List (α × β)
 | []=>[(k,v)]
 | e :: r=>if k = e.1 then (k,v) :: r else e :: updM k v r
def KeyI (key : α → PV) : Prop:=∀ a b,PV.eqv (key a) (key b) = some (decide (a = b))
theorem zak : KeyI (fun n : Int=>PV.int .i64 n):=fun a b=>by simp [PV.eqv,PV.eq1]
theorem z7I {n : Int} {k : IntKind} : z45 (none,[0]) (.p (.int k n)) = some (.int k n):=by simp [z45,PV.key,PV.shp,PV.sc,PV.cells,PV.kind]
variable {key : α → PV} {val : β → AV}
theorem z7J (hk : KeyI key) (k : α) : ∀ (l : List (α × β)) (n : Nat),z2u (key k) (mesF key val n l) = some (z1I k l)
 | [],n=>rfl
 | e :: r,n=>by
  simp only [mesF,z2u,hk k e.1,z1I]
  by_cases h : k = e.1
  ·simp [h]
  ·simp [h,z7J hk k r (n + 1)]
theorem zam : ∀ (l : List (α × β)) (n i : Nat),(mesF key val n l)[i]? = (l[i]?).map fun e=>⟨key e.1,val e.2,n + i⟩
 | [],n,i=>rfl
 | e :: r,n,0=>rfl
 | e :: r,n,i + 1=>by simp only [mesF,List.getElem?_cons_succ,zam r (n + 1) i]; rw [show n + 1 + i = n + (i + 1) by omega]
theorem zfV {k : α} : ∀ {l : List (α × β)} {i : Nat},z1I k l = some i → i < l.length
 | [],i,h=>by cases h
 | e :: r,i,h=>by
  unfold z1I at h
  split at h
  ·cases h; simp
  ·obtain ⟨j,hj,e2⟩:=Option.map_eq_some_iff.1 h
   have:=zfV hj
   simp; omega
theorem z83 {k : α} : ∀ {l : List (α × β)} {i : Nat},z1I k l = some i → l[i]? = (getM k l).map fun v=>(k,v)
 | [],i,h=>by cases h
 | e :: r,i,h=>by
  unfold z1I at h
  unfold getM
  split at h
  ·rename_i hk; cases h; simp [hk]
  ·rename_i hk
   obtain ⟨j,hj,e2⟩:=Option.map_eq_some_iff.1 h
   subst e2
   rw [if_neg hk,List.getElem?_cons_succ]
   exact z83 hj
theorem z9L {k : α} : ∀ {l : List (α × β)},z1I k l = none → getM k l = none
 | [],h=>rfl
 | e :: r,h=>by
  unfold z1I at h
  unfold getM
  split at h
  ·cases h
  ·rename_i hk
   rw [if_neg hk]
   exact z9L (by simpa using h)
theorem z9M {k : α} : ∀ {l : List (α × β)} {i : Nat},z1I k l = some i → (getM k l).isSome = true
 | [],i,h=>by cases h
 | e :: r,i,h=>by
  unfold z1I at h
  unfold getM
  split at h
  ·rename_i hk; simp [hk]
  ·rename_i hk
   obtain ⟨j,hj,e2⟩:=Option.map_eq_some_iff.1 h
   rw [if_neg hk]
   exact z9M hj
theorem zqE {k : α} {l : List (α × β)} {n : Nat} : ((z1I k l).bind fun i=>(mesF key val n l)[i]?).map ME.val = (getM k l).map val:=by
 cases h : z1I k l with
 | none=>rw [z9L h]; rfl
 | some i=>
  simp only [Option.bind_some,zam,z83 h]
  cases getM k l <;> rfl
theorem zfN {k : α} {v : β} : ∀ {l : List (α × β)},z1I k l = none → updM k v l = l ++ [(k,v)]
 | [],h=>rfl
 | e :: r,h=>by
  unfold z1I at h
  unfold updM
  split at h
  ·cases h
  ·rename_i hk
   rw [if_neg hk,zfN (by simpa using h)]; rfl
theorem zfO {k : α} {v : β} : ∀ {l : List (α × β)} {i : Nat},z1I k l = some i → updM k v l = l.set i (k,v)
 | [],i,h=>by cases h
 | e :: r,i,h=>by
  unfold z1I at h
  unfold updM
  split at h
  ·rename_i hk; cases h; simp [hk]
  ·rename_i hk
   obtain ⟨j,hj,e2⟩:=Option.map_eq_some_iff.1 h
   subst e2
   rw [if_neg hk,zfO hj]; rfl
theorem zff (k : α) (v : β) : ∀ (l : List (α × β)) (n : Nat),mesF key val n (l ++ [(k,v)]) = mesF key val n l ++ [⟨key k,val v,n + l.length⟩]
 | [],n=>rfl
 | e :: r,n=>by simp only [List.cons_append,mesF,zff k v r (n + 1),List.length_cons]; rw [show n + 1 + r.length = n + (r.length + 1) by omega]
theorem zgN {k : α} {v : β} {l : List (α × β)} {i n : Nat} (h : z1I k l = some i) : (mesF key val n l).modify i (fun e=>{ e with val:=val v }) = mesF key val n (l.set i (k,v)):=by
 apply List.ext_getElem?
 intro j
 rw [List.getElem?_modify,zam,zam,List.getElem?_set]
 have hi:=zfV h
 have hg:=z83 h
 by_cases hij : i = j
 ·subst hij
  rw [hg]
  simp only [if_true,hi]
  obtain ⟨w,hw⟩:=Option.isSome_iff_exists.1 (z9M h)
  rw [hw]; rfl
 ·simp [hij]
variable {h : Heap} {id : Nat} {l : List (α × β)} {kk : Sh × List Nat} {k : α}
theorem zfg (hh : h[id]? = some (mobj key val l)) : mget h (.mp id) = some (id,mesF key val 0 l,l.length):=by
 simp only [mget,hh,mobj]
theorem zfd (hk : KeyI key) (hh : h[id]? = some (mobj key val l)) (hq : z45 kk (.p (key k)) = some (key k)) {ok : Bool} {z : AV} :
 z68 kk ok z (.mp id) (.p (key k)) h = some (bif ok then .tup [((getM k l).map val).getD z,AV.p (.bool (getM k l).isSome)] else ((getM k l).map val).getD z):=by
 simp only [z68,hq,zfg hh,Option.map_some,z7J hk,zqE,Option.isSome_map]
 rfl
theorem zqI (hk : KeyI key) (hh : h[id]? = some (mobj key val l)) (hq : z45 kk (.p (key k)) = some (key k)) {v : β} (hv : okIn (val v) = true) :
 zap kk (.mp id) (.p (key k)) (val v) h = some (.und,h.set id (mobj key val (updM k v l)),z2X id (val v)):=by
 simp only [zap,hq,zfg hh,hv,z7J hk]
 cases hw : z1I k l with
 | none=>
  simp only [mobj,zfN hw,zff,List.length_append,List.length_cons,List.length_nil,Nat.zero_add]
 | some i=>
  simp only [mobj,zfO hw,zgN hw,List.length_set]
end
end Go.Am
end
section
/- The shortest way between two states of a test access port: a search over a queue. -/
open Go
set_option linter.all false
namespace Go.Am
variable {h : Heap} {K : Post}
attribute [-go_sem] z68 zap zan zao
def nxtT : List (List Nat):=[[1,0],[1,2],[3,9],[4,5],[4,5],[6,8],[6,7],[4,8],[1,2],[10,0],[11,12],[11,12],[13,15],[13,14],[11,15],[1,2]]
def nxt (s t : Nat) : Nat:=(nxtT.getD s []).getD t 0
theorem zva {s t : Nat} (hs : s < 16) (ht : t < 2) : ([AI 1,AI 0,AI 1,AI 2,AI 3,AI 9,AI 4,AI 5,AI 4,AI 5,AI 6,AI 8,AI 6,AI 7,AI 4,AI 8,AI 1,AI 2,AI 10,AI 0,AI 11,AI 12,AI 11,AI 12,AI 13,AI 15,AI 13,AI 14,AI 11,AI 15,AI 1,AI 2] : List AV)[s * 2 + t * 1]? = some (AI (nxt s t)):=by
 have hs' : s = 0 ∨ s = 1 ∨ s = 2 ∨ s = 3 ∨ s = 4 ∨ s = 5 ∨ s = 6 ∨ s = 7 ∨ s = 8 ∨ s = 9 ∨ s = 10 ∨ s = 11 ∨ s = 12 ∨ s = 13 ∨ s = 14 ∨ s = 15:=by omega
 have ht' : t = 0 ∨ t = 1:=by omega
 rcases hs' with rfl | rfl | rfl | rfl | rfl | rfl | rfl | rfl | rfl | rfl | rfl | rfl | rfl | rfl | rfl | rfl <;> rcases ht' with rfl | rfl <;> rfl
theorem zl5 {Y : Ctx} (hY : Y.fn z4G = some z6S) (s t : Nat) (hs : s < 16) (ht : t < 2) : z0d Y z4G [AI s,AI t] h K = K (AI (nxt s t)) h []:=by
 refine rule ?_
 rw [z0k hY rfl (show z00 h [AI s,AI t] = some ([AI s,AI t],h) from rfl) rfl,zsv]
 show ze6 _ _ _ _ _ _ (finR [.t 4] false _ _)
 have g:=zva hs ht
 simp only [ze6,go_sem,hs,ht,g]
abbrev Ways:=List (Int × List UInt8)
def keyP (n : Int) : PV:=.int .i64 n
def valP (s : List UInt8) : AV:=.p (.str s)
def bit1 (t : Nat) : List UInt8:=[UInt8.ofNat (48 + t)]
def zcR (at_ t : Nat) (s : Ways × List Nat) : Ways × List Nat:=
 if (getM (nxt at_ t : Int) s.1).isSome then s else (updM (nxt at_ t : Int) ((getM (at_ : Int) s.1).getD [] ++ bit1 t) s.1,s.2 ++ [nxt at_ t])
def z5U (at_ : Nat) : Nat → Ways × List Nat → Ways × List Nat
 | 0,s=>s
 | t + 1,s=>zcR at_ t (z5U at_ t s)
def popS (s : Ways × List Nat) : Ways × List Nat:=match s.2 with
 | []=>s
 | a :: r=>z5U a 2 (s.1,r)
def bfs (a : Nat) : Nat → Ways × List Nat
 | 0=>([((a : Int),[])],[a])
 | k + 1=>popS (bfs a k)
def z0c (a b : Nat) : List UInt8:=(getM (b : Int) (bfs a 16).1).getD []
def zgB (s : Ways × List Nat) : Bool:=decide (s.1.length ≤ 16) && decide (s.2.length ≤ 16) && s.2.all (fun x=>decide (x < 16)) && s.1.all (fun e=>decide (e.2.length ≤ 16))
theorem zjb : (List.range 16).all (fun a=>(List.range 16).all (fun k=>zgB (bfs a k) && !(bfs a k).2.isEmpty) && zgB (bfs a 16) && (bfs a 16).2.isEmpty) = true:=by kernel_rfl
theorem zpF {a k : Nat} (ha : a < 16) (hk : k < 16) : zgB (bfs a k) = true ∧ (bfs a k).2 ≠ []:=by
 have h1:=List.all_eq_true.1 zjb a (List.mem_range.2 ha)
 simp only [Bool.and_eq_true] at h1
 have h2:=List.all_eq_true.1 h1.1.1 k (List.mem_range.2 hk)
 simp only [Bool.and_eq_true,Bool.not_eq_true',List.isEmpty_eq_false_iff] at h2
 exact h2
theorem ztQ {a : Nat} (ha : a < 16) : zgB (bfs a 16) = true ∧ (bfs a 16).2 = []:=by
 have h1:=List.all_eq_true.1 zjb a (List.mem_range.2 ha)
 simp only [Bool.and_eq_true,List.isEmpty_iff] at h1
 exact ⟨h1.1.2,h1.2⟩
theorem zqv {s : Ways × List Nat} (hf : zgB s = true) : s.1.length ≤ 16 ∧ s.2.length ≤ 16 ∧ (∀ x ∈ s.2,x < 16) ∧ ∀ e ∈ s.1,e.2.length ≤ 16:=by
 unfold zgB at hf
 simp only [Bool.and_eq_true,decide_eq_true_eq,List.all_eq_true] at hf
 exact ⟨hf.1.1.1,hf.1.1.2,hf.1.2,hf.2⟩
theorem lookP {hp : Heap} {id : Nat} {m : Ways} {b : Int} (hh : hp[id]? = some (mobj keyP valP m)) : z68 (none,[0]) false (.p (.str [])) (.mp id) (AI b) hp = some (.p (.str ((getM b m).getD []))):=by
 have:=zfd (key:=keyP) (val:=valP) (fun a b=>zak a b) hh (kk:=(none,[0])) (k:=b) z7I (ok:=false) (z:=.p (.str []))
 rw [cond_false] at this
 refine this.trans ?_
 cases getM b m <;> rfl
theorem lookQ {hp : Heap} {id : Nat} {m : Ways} {b : Int} (hh : hp[id]? = some (mobj keyP valP m)) : z68 (none,[0]) true (.p (.str [])) (.mp id) (AI b) hp = some (.tup [.p (.str ((getM b m).getD [])),AB (getM b m).isSome]):=by
 have:=zfd (key:=keyP) (val:=valP) (fun a b=>zak a b) hh (kk:=(none,[0])) (k:=b) z7I (ok:=true) (z:=.p (.str []))
 rw [cond_true] at this
 refine this.trans ?_
 cases getM b m <;> rfl
theorem updP {hp : Heap} {id : Nat} {m : Ways} {b : Int} {v : List UInt8} (hh : hp[id]? = some (mobj keyP valP m)) : zap (none,[0]) (.mp id) (AI b) (.p (.str v)) hp = some (.und,hp.set id (mobj keyP valP (updM b v m)),[]):=
 zqI (key:=keyP) (val:=valP) (fun a b=>zak a b) hh (kk:=(none,[0])) (k:=b) z7I (v:=v) rfl
structure Que (R : Heap) (i : Nat) (xs : List Nat) (off : Nat) (q : List Nat) : Prop where
 get : R[i]? = some (.row none (xs.map fun n : Nat=>eI n) 0)
 le : off ≤ xs.length
 eq : xs.drop off = q
theorem nq_one {hp : Heap} {id : Nat} {xs : List Nat} {off : Nat} {n : Int} {k : AV → Heap → Esc → Prop} (hh : hp[id]? = some (.row none (xs.map fun n : Nat=>eI n) 0)) (ho : off ≤ xs.length) (hm : xs.length ≤ 1000000)
 (k1 : k (.own id (xs.length + 1) off (xs.length - off + 1)) (hp.set id (.row none (xs.map (fun n : Nat=>eI n) ++ [eI n]) 0)) [])
 (k2 : k (.own hp.length (xs.length - off + 1) 0 (xs.length - off + 1)) (hp ++ [.row none ((xs.drop off).map (fun n : Nat=>eI n) ++ [eI n]) 0]) []) :
 nqK (some none) [.own id xs.length off (xs.length - off),.p (.sl none [eI n])] hp k:=by
 have hx : xs.length - off + 1 ≤ z0I:=by unfold z0I; omega
 have hr : rds hp (.p (.sl none [eI n])) = some (none,[eI n]):=rfl
 have hw : win (xs.map fun n : Nat=>eI n) off (xs.length - off) = (xs.drop off).map fun n : Nat=>eI n:=by
  unfold win
  rw [← List.map_drop]
  exact List.take_of_length_le (by simp)
 unfold nqK z4L appq
 simp only [hr,if_true,hh,List.length_map,List.length_cons,List.length_nil,Nat.zero_add]
 rw [if_pos ⟨trivial,trivial,by omega,hx,Nat.zero_le _⟩,hw]
 refine ⟨by simp,fun y hy=>?_⟩
 simp only [List.mem_cons,List.not_mem_nil,or_false] at hy
 rcases hy with rfl | rfl
 ·exact k1
 ·exact k2
theorem zfe {α β : Type} [DecidableEq α] {k : α} {v : β} : ∀ {l : List (α × β)} {e : α × β},e ∈ updM k v l → e ∈ l ∨ e = (k,v)
 | [],e,h=>by simp [updM] at h; exact .inr h
 | x :: r,e,h=>by
  unfold updM at h
  split at h
  ·rcases List.mem_cons.1 h with h | h
   ·exact .inr h
   ·exact .inl (List.mem_cons_of_mem _ h)
  ·rcases List.mem_cons.1 h with h | h
   ·exact .inl (h ▸ List.mem_cons_self)
   ·rcases zfe h with h | h
    ·exact .inl (List.mem_cons_of_mem _ h)
    ·exact .inr h
theorem zeW {α β : Type} [DecidableEq α] {k : α} {v : β} : ∀ {l : List (α × β)},getM k l = some v → (k,v) ∈ l
 | [],h=>by cases h
 | x :: r,h=>by
  unfold getM at h
  split at h
  ·rename_i he; cases h; subst he; simp
  ·exact List.mem_cons_of_mem _ (zeW h)
theorem zfU {n : Nat} {w : Ways} (hw : ∀ e ∈ w,e.2.length ≤ n) (k : Int) : ((getM k w).getD []).length ≤ n:=by
 cases hg : getM k w with
 | none=>simp
 | some v=>exact hw _ (zeW hg)
theorem zpl {n at_ t : Nat} {s : Ways × List Nat} (hw : ∀ e ∈ s.1,e.2.length ≤ n) : ∀ e ∈ (zcR at_ t s).1,e.2.length ≤ n + 1:=by
 unfold zcR
 split
 ·intro e he; have:=hw e he; omega
 ·intro e he
  rcases zfe he with h | h
  ·have:=hw e h; omega
  ·subst h
   have:=zfU hw (at_ : Int)
   simp [bit1]; omega
theorem z9I {n at_ : Nat} {s : Ways × List Nat} (hw : ∀ e ∈ s.1,e.2.length ≤ n) : ∀ (t : Nat),∀ e ∈ (z5U at_ t s).1,e.2.length ≤ n + t
 | 0=>hw
 | t + 1=>zpl (z9I hw t)
set_option maxHeartbeats 1000000 in
theorem ztw {Y : Ctx} (hY1 : Y.fn z3N = some z8G) (hY2 : Y.fn z4G = some z6S) (a b : Nat) (ha : a < 16) (hb : b < 16) : z0d Y z3N [AI a,AI b] h K = K (.p (.str (z0c a b))) h []:=by
 refine rule ?_
 rw [z6u hY1 rfl (show z00 h [AI a,AI b] = some ([AI a,AI b],h) from rfl) rfl]
 simp only [zsw]
 show ∃ v h' x,_ ∧ zbD _ _ _ _ _ _ _ _ (finR [.t 4] false _ _)
 simp only [zbD]
 refine ⟨_,_,_,⟨rfl,rfl,rfl⟩,?_⟩
 have em : mobj keyP valP [((a : Int),([] : List UInt8))] = .amap [⟨.int .i64 a,.p (.str []),0⟩] 1:=rfl
 have u0:=fun (hp : Heap) (hh : hp[h.length]? = some (mobj keyP valP []))=>updP (b:=(a : Int)) (v:=[]) hh
 have e0 : updM (a : Int) [] ([] : Ways) = [((a : Int),[])]:=rfl
 have em0 : mobj keyP valP ([] : Ways) = .amap [] 0:=rfl
 rw [e0] at u0
 simp only [em0] at u0
 simp only [go_sem,u0]
 refine z1m (fun t : Nat × Heap × Nat × List Nat × Nat × Option Nat=>⟨[(1,AI b),(5,.mp h.length),(6,.own (h.length + (t.2.2.1 + 1)) t.2.2.2.1.length t.2.2.2.2.1 (t.2.2.2.1.length - t.2.2.2.2.1))] ++ (match t.2.2.2.2.2 with | none=>[] | some q=>[(7,AI q),(25,AI 2),(26,AB false)]),h ++ mobj keyP valP (bfs a t.1).1 :: t.2.1,[]⟩)
  (fun t=>t.1 ≤ 16 ∧ Que t.2.1 t.2.2.1 t.2.2.2.1 t.2.2.2.2.1 (bfs a t.1).2 ∧ t.2.2.2.1.length ≤ 1 + 2 * t.1) (fun t=>16 - t.1) (0,[.row none [eI a] 0],0,[a],0,none) (by simp [bfs]) ⟨by simp,⟨rfl,by simp,rfl⟩,by simp⟩ ?_
 rintro ⟨k,R,i,xs,off,oq⟩ ⟨h1,hq,h2⟩
 dsimp only at h1 hq h2 ⊢
 have hqg:=hq.get
 have hle:=hq.le
 have heq:=hq.eq
 have hln : xs.length - off = (bfs a k).2.length:=by rw [← heq]; simp
 by_cases hk : k < 16
 ·obtain ⟨hf,hne⟩:=zpF ha hk
  obtain ⟨f1,f2,f3,f4⟩:=zqv hf
  have hpos : 0 < xs.length - off:=by rw [hln]; exact List.length_pos_iff.2 hne
  have hoff : off < xs.length:=by omega
  obtain ⟨q0,qr,hqe⟩ : ∃ q0 qr,(bfs a k).2 = q0 :: qr:=by
   cases hb2 : (bfs a k).2 with
   | nil=>exact absurd hb2 hne
   | cons x y=>exact ⟨x,y,rfl⟩
  have hx0 : xs[off]? = some q0:=by
   have : (xs.drop off)[0]? = some q0:=by rw [heq,hqe]; rfl
   rwa [List.getElem?_drop,Nat.add_zero] at this
  have hdr : xs.drop (off + 1) = qr:=by
   rw [← List.drop_drop,heq,hqe]; rfl
  have hq0 : q0 < 16:=f3 q0 (by rw [hqe]; simp)
  have hgq : (xs.map fun n : Nat=>eI n)[off]? = some (eI q0):=by rw [List.getElem?_map,hx0]; rfl
  have hpi : (0 : Int) < ((xs.length - off : Nat) : Int):=by omega
  have hl1 : 1 ≤ xs.length - off:=by omega
  have hbn : bfs a (k + 1) = z5U q0 2 ((bfs a k).1,qr):=by show popS _ = _; unfold popS; rw [hqe]
  have e3 : xs.length - off - 1 = xs.length - (off + 1):=by omega
  have hcond : off + (xs.length - off) ≤ xs.length:=by omega
  have hNL : ∀ (e : List (Nat × AV)),z0A (some [1,5,6,7,25]) e = z0A (some [1,5,6,7,25]) e:=fun _=>rfl
  rcases oq with _ | oq
  all_goals
  simp only [List.append_nil,List.cons_append,List.nil_append,go_sem,List.getElem?_cons_succ,hqg,hpi,hpos,hgq,hl1,hcond]
  all_goals
  clear u0 em em0 e0
  generalize hw0 : ((bfs a k).1,qr) = s0 at *
  have es1 : (bfs a k).1 = s0.1:=by rw [← hw0]
  have es2 : qr = s0.2:=by rw [← hw0]
  rw [es1,e3]
  refine z1m (fun t : Nat × Heap × Nat × List Nat × Nat=>⟨[(1,AI b),(5,.mp h.length),(6,.own (h.length + (t.2.2.1 + 1)) t.2.2.2.1.length t.2.2.2.2 (t.2.2.2.1.length - t.2.2.2.2)),(7,AI q0),(25,AI t.1)],h ++ mobj keyP valP (z5U q0 t.1 s0).1 :: t.2.1,[]⟩)
   (fun t=>t.1 ≤ 2 ∧ Que t.2.1 t.2.2.1 t.2.2.2.1 t.2.2.2.2 (z5U q0 t.1 s0).2 ∧ t.2.2.2.1.length ≤ 1 + 2 * k + t.1) (fun t=>2 - t.1) (0,R,i,xs,off + 1) rfl ⟨by simp,⟨hqg,hoff,by rw [hdr,es2]; rfl⟩,by simp; omega⟩ ?_
  rintro ⟨j,R',i',ys,of'⟩ ⟨j1,jq,j2⟩
  dsimp only at j1 jq j2 ⊢
  have jg:=jq.get
  have jle:=jq.le
  have jeq:=jq.eq
  by_cases hj : j < 2
  ·have hji : (j : Int) < 2:=by omega
   have qn:=fun h K=>zl5 (h:=h) (K:=K) hY2 q0 j hq0 hj
   have hvis : z5U q0 (j + 1) s0 = zcR q0 j (z5U q0 j s0):=rfl
   generalize hsj : z5U q0 j s0 = s at *
   have lq:=fun (hp : Heap) (hh : hp[h.length]? = some (mobj keyP valP s.1))=>lookQ (b:=(nxt q0 j : Int)) hh
   have lp:=fun (hp : Heap) (hh : hp[h.length]? = some (mobj keyP valP s.1))=>lookP (b:=(q0 : Int)) hh
   have up:=fun (hp : Heap) (v : List UInt8) (hh : hp[h.length]? = some (mobj keyP valP s.1))=>updP (b:=(nxt q0 j : Int)) (v:=v) hh
   have w1 : IntKind.i64.wrap ((j : Int) + 1) = ((j + 1 : Nat) : Int):=z0l _ (by omega) (by omega)
   cases hs : (getM (nxt q0 j : Int) s.1).isSome with
   | true=>
    have hv : zcR q0 j s = s:=by unfold zcR; rw [if_pos hs]
    rw [hv] at hvis
    simp only [go_sem,hji,↓qn,qn,lq,hs,w1]
    exact ⟨(j + 1,R',i',ys,of'),by dsimp only; rw [hvis],⟨by dsimp only; omega,by dsimp only; rw [hvis]; exact jq,by dsimp only; omega⟩,by dsimp only; omega⟩
   | false=>
    have hv : zcR q0 j s = (updM (nxt q0 j : Int) ((getM (q0 : Int) s.1).getD [] ++ bit1 j) s.1,s.2 ++ [nxt q0 j]):=by unfold zcR; rw [hs]; rfl
    rw [hv] at hvis
    have w2 : IntKind.i64.wrap (48 + (j : Int)) = ((48 + j : Nat) : Int):=z0l _ (by omega) (by omega)
    have w3 : IntKind.i32.wrap ((48 + j : Nat) : Int) = ((48 + j : Nat) : Int):=by
     have : j = 0 ∨ j = 1:=by omega
     rcases this with rfl | rfl <;> rfl
    have w4 : (0 : Int) ≤ ((48 + j : Nat) : Int) ∧ ((48 + j : Nat) : Int) < 128:=by omega
    have hln2:=zfU (z9I (n:=16) (at_:=q0) (s:=s0) (by rw [← es1]; exact f4) j) (q0 : Int)
    rw [hsj] at hln2
    have w5 : ((getM (q0 : Int) s.1).getD []).length + (bit1 j).length ≤ z0z:=by have : (bit1 j).length = 1:=rfl; unfold z0z; omega
    have w6 : [UInt8.ofNat ((48 + j : Nat) : Int).toNat] = bit1 j:=rfl
    simp only [go_sem,hji,↓qn,qn,lq,hs,lp,up,w1,w2,w3,w4,w5,w6]
    have hh1 : (h ++ mobj keyP valP (updM (nxt q0 j : Int) ((getM (q0 : Int) s.1).getD [] ++ bit1 j) s.1) :: R')[h.length + (i' + 1)]? = some (.row none (ys.map fun n : Nat=>eI n) 0):=by
     rw [List.getElem?_append_right (by omega)]; simpa using jg
    have hi' : i' < R'.length:=z0f jg
    refine nq_one hh1 jle (by omega) ?_ ?_
    ·refine ⟨(j + 1,R'.set i' (.row none (ys.map (fun n : Nat=>eI n) ++ [eI (nxt q0 j)]) 0),i',ys ++ [nxt q0 j],of'),?_,⟨by dsimp only; omega,⟨?_,?_,?_⟩,?_⟩,by dsimp only; omega⟩
     ·dsimp only
      rw [hvis,List.set_append_right _ _ (by omega)]
      simp only [List.length_append,List.length_cons,List.length_nil,Nat.add_sub_cancel_left,List.set_cons_succ]
      rw [show ys.length + 1 - of' = ys.length - of' + 1 by omega]
     ·dsimp only
      rw [List.getElem?_set_self hi']; simp
     ·simp; omega
     ·dsimp only
      rw [hvis,List.drop_append_of_le_length jle,jeq]
     ·simp; omega
    ·refine ⟨(j + 1,R' ++ [.row none ((ys.drop of').map (fun n : Nat=>eI n) ++ [eI (nxt q0 j)]) 0],R'.length,ys.drop of' ++ [nxt q0 j],0),?_,⟨by dsimp only; omega,⟨?_,?_,?_⟩,?_⟩,by dsimp only; omega⟩
     ·dsimp only
      rw [hvis]
      simp
     ·simp
     ·simp
     ·dsimp only
      rw [hvis,jeq,List.drop_zero]
     ·simp; omega
  ·have hj2 : j = 2:=by omega
   subst hj2
   simp only [go_sem]
   refine ⟨(k + 1,R',i',ys,of',some q0),?_,⟨by dsimp only; omega,by dsimp only; rw [hbn]; exact jq,by dsimp only; omega⟩,by dsimp only; omega⟩
   dsimp only
   rw [hbn]
 ·have hk16 : k = 16:=by omega
  subst hk16
  obtain ⟨_,hne⟩:=ztQ ha
  have hz : xs.length - off = 0:=by rw [hln,hne]; rfl
  have lk:=fun (hp : Heap) (hh : hp[h.length]? = some (mobj keyP valP (bfs a 16).1))=>lookP (b:=(b : Int)) hh
  have hpv : (getM (b : Int) (bfs a 16).1).getD [] = z0c a b:=rfl
  rcases oq with _ | oq <;> simp only [List.append_nil,List.cons_append,List.nil_append,go_sem,hz,lk,hpv]
end Go.Am
end
section
/- Plain lists: insertion sort asv Go's package slices does it on short lists; deleting; compacting. -/
namespace Go.Am
variable {α : Type}
end Go.Am
namespace Go.Am
variable {α : Type}
end Go.Am
end
section
/- Faults of nets: what the words mean,in plain Lean. -/
set_option linter.all false
namespace Go.Am
def zq9 (c : UInt8) : Bool:=[48,49].contains c
def z0F (s : List UInt8) : Bool:=s.all zq9
theorem z3J (p : UInt8 → Bool) : ∀ l : List UInt8,l.dropWhile p = [] ↔ l.all p = true
 | []=>by simp
 | c :: r=>by
  rw [List.dropWhile_cons,List.all_cons]
  cases hp : p c with
  | true=>simp only [if_true,Bool.true_and]; exact z3J p r
  | false=>simp
theorem zpf (s : List UInt8) : decide ((s.reverse.dropWhile ([48,49].contains ·)).reverse.dropWhile ([48,49].contains ·) = []) = z0F s:=by
 rw [Bool.eq_iff_iff,decide_eq_true_eq,z3J,List.all_reverse]
 have hb : z0F s = s.all ([48,49].contains ·):=rfl
 rw [hb]
 constructor
 ·intro h
  rw [← z3J] at h
  have key : ∀ l : List UInt8,(l.dropWhile ([48,49].contains ·)).all ([48,49].contains ·) = true → l.all ([48,49].contains ·) = true:=by
   intro l
   induction l with
   | nil=>intro _; rfl
   | cons c r ih=>
    rw [List.dropWhile_cons]
    split
    ·rename_i hp; intro h; rw [List.all_cons,hp,ih h]; rfl
    ·exact id
  have:=key s.reverse ((z3J _ _).1 h)
  rwa [List.all_reverse] at this
 ·intro h
  have key : ∀ l : List UInt8,l.all ([48,49].contains ·) = true → (l.dropWhile ([48,49].contains ·)).all ([48,49].contains ·) = true:=by
   intro l hl
   rw [(z3J _ l).2 hl]; rfl
  exact key _ (by rwa [List.all_reverse])
end Go.Am
end
section
/- Numbers asv sets of bits; rows of a test asv numbers. -/
set_option linter.all false
namespace Go.Am
theorem zgu {s : List UInt8} (k : Nat) (h : z0F s = true) : z0F (s.take k) = true:=by
 unfold z0F at *
 rw [List.all_eq_true] at *
 exact fun x hx=>h x (List.mem_of_mem_take hx)
theorem bit_at {s : List UInt8} {k : Nat} (hk : k < s.length) (h : z0F s = true) : s[k] = 48 ∨ s[k] = 49:=by
 unfold z0F at h
 have:=List.all_eq_true.1 h _ (List.getElem_mem hk)
 unfold zq9 at this
 simpa [List.contains_cons] using this
end Go.Am
end
section
/- Walks over the states of a test access port,plainly. -/
namespace Go.Am
def nxtU : List (List Nat):=[[1,0],[1,2],[3,9],[4,5],[4,5],[6,8],[6,7],[4,8],[1,2],[10,0],[11,12],[11,12],[13,15],[13,14],[11,15],[1,2]]
def stp (s t : Nat) : Nat:=(nxtU.getD s []).getD t 0
theorem zt6 {s t : Nat} (hs : s < 16) (ht : t < 2) : stp s t < 16:=by
 have key : (List.range 16).all (fun s=>(List.range 2).all fun t=>decide (stp s t < 16)) = true:=by decide
 have:=List.all_eq_true.1 key s (List.mem_range.2 hs)
 exact of_decide_eq_true (List.all_eq_true.1 this t (List.mem_range.2 ht))
def stW (s : Nat) (c : UInt8) : Nat:=stp s (c.toNat - 48)
def z36 (s : Nat) : List UInt8 → List Nat
 | []=>[]
 | c :: r=>stW s c :: z36 (stW s c) r
def endL (s : Nat) (l : List UInt8) : Nat:=l.foldl stW s
theorem z1x : ∀ (l : List UInt8) (s : Nat),(z36 s l).length = l.length
 | [],s=>rfl
 | c :: r,s=>by simp [z36,z1x r]
theorem z6p (c : UInt8) : ∀ (l : List UInt8) (s : Nat),z36 s (l ++ [c]) = z36 s l ++ [stW (endL s l) c]
 | [],s=>rfl
 | d :: r,s=>by simp only [List.cons_append,z36,z6p c r]; rfl
theorem zbZ (s : Nat) (l : List UInt8) (c : UInt8) : endL s (l ++ [c]) = stW (endL s l) c:=by simp [endL]
theorem z17 (s : Nat) (l r : List UInt8) : endL s (l ++ r) = endL (endL s l) r:=by simp [endL]
theorem stW_lt {s : Nat} {c : UInt8} (hs : s < 16) (hc : c = 48 ∨ c = 49) : stW s c < 16:=by
 rcases hc with rfl | rfl
 ·exact zt6 hs (by decide)
 ·exact zt6 hs (by decide)
theorem z8I {c : UInt8} {l : List UInt8} (h : z0F l = true) (hc : c ∈ l) : c = 48 ∨ c = 49:=by
 have:=List.all_eq_true.1 h c hc
 simpa [zq9] using this
theorem zkY : ∀ {l : List UInt8} {s : Nat},s < 16 → z0F l = true → endL s l < 16
 | [],s,hs,_=>hs
 | c :: r,s,hs,h=>by
  have h1:=z8I h (List.mem_cons_self ..)
  exact zkY (l:=r) (stW_lt hs h1) (List.all_eq_true.2 fun x hx=>List.all_eq_true.1 h x (List.mem_cons_of_mem _ hx))
theorem z9J (s : Nat) (l : List UInt8) (h : 0 < l.length) : (z36 s l)[l.length - 1]? = some (endL s l):=by
 obtain ⟨i,c,rfl⟩ : ∃ i c,l = i ++ [c]:=⟨l.dropLast,l.getLast (by intro e; subst e; simp at h),(List.dropLast_concat_getLast _).symm⟩
 rw [z6p,zbZ]
 have : (z36 s i).length = i.length:=z1x i s
 simp [← this]
def rowS : Nat → List (List UInt8)
 | 0=>[[]]
 | k + 1=>(rowS k).flatMap fun s=>[s ++ [48],s ++ [49]]
theorem z19 : ∀ k,(rowS k).length = 2 ^ k
 | 0=>rfl
 | k + 1=>by
  have : ∀ l : List (List UInt8),(l.flatMap fun s=>[s ++ [48],s ++ [49]]).length = 2 * l.length:=by
   intro l
   induction l with
   | nil=>rfl
   | cons a r ih=>simp [ih]; omega
  simp only [rowS,this,z19 k,Nat.pow_succ]
  omega
theorem z6K : ∀ {k : Nat} {s : List UInt8},s ∈ rowS k → z0F s = true ∧ s.length = k
 | 0,s,h=>by simp [rowS] at h; subst h; exact ⟨rfl,rfl⟩
 | k + 1,s,h=>by
  simp only [rowS,List.mem_flatMap] at h
  obtain ⟨t,ht,hs⟩:=h
  obtain ⟨h1,h2⟩:=z6K ht
  have : ∀ c : UInt8,c = 48 ∨ c = 49 → z0F (t ++ [c]) = true:=fun c hc=>by
   unfold z0F at h1 ⊢
   rw [List.all_append,h1]
   rcases hc with rfl | rfl <;> rfl
  simp only [List.mem_cons,List.not_mem_nil,or_false] at hs
  rcases hs with rfl | rfl
  ·exact ⟨this _ (.inl rfl),by simp [h2]⟩
  ·exact ⟨this _ (.inr rfl),by simp [h2]⟩
def wayF (a b : Nat) : Nat → Nat → Option (List UInt8)
 | 0,_=>none
 | n + 1,k=>match (rowS k).find? fun s=>endL a s == b with
  | some s=>some s
  | none=>wayF a b n (k + 1)
theorem z9K {a b : Nat} {w : List UInt8} : ∀ {n k : Nat},wayF a b n k = some w → ∃ kw,k ≤ kw ∧ kw < k + n ∧ (rowS kw).find? (fun s=>endL a s == b) = some w ∧ ∀ j,k ≤ j → j < kw → (rowS j).find? (fun s=>endL a s == b) = none
 | 0,k,h=>by cases h
 | n + 1,k,h=>by
  unfold wayF at h
  split at h
  ·rename_i s hs
   cases h
   exact ⟨k,by omega,by omega,hs,fun j h1 h2=>by omega⟩
  ·rename_i hs
   obtain ⟨kw,h1,h2,h3,h4⟩:=z9K h
   refine ⟨kw,by omega,by omega,h3,fun j h5 h6=>?_⟩
   rcases Nat.lt_or_ge k j with h7 | h7
   ·exact h4 j h7 h6
   ·rw [show j = k by omega]; exact hs
theorem zcT {a b : Nat} {w : List UInt8} {n : Nat} (h : wayF a b n 0 = some w) : ∃ kw,kw < n ∧ (rowS kw).find? (fun s=>endL a s == b) = some w ∧ ∀ j,j < kw → (rowS j).find? (fun s=>endL a s == b) = none:=by
 obtain ⟨kw,_,h2,h3,h4⟩:=z9K h
 exact ⟨kw,by omega,h3,fun j hj=>h4 j (by omega) hj⟩
theorem z9p {α : Type} {p : α → Bool} : ∀ {l : List α} {i : Nat} {s : α},(∀ x ∈ l.take i,p x = false) → l[i]? = some s → p s = true → l.find? p = some s
 | [],i,s,_,h,_=>by simp at h
 | a :: r,0,s,_,h,hp=>by
  simp only [List.getElem?_cons_zero,Option.some.injEq] at h
  subst h
  simp [hp]
 | a :: r,i + 1,s,hn,h,hp=>by
  have h1 : p a = false:=hn a (by simp)
  have:=z9p (l:=r) (i:=i) (s:=s) (fun x hx=>hn x (by simp [hx])) (by simpa using h) hp
  simp [h1,this]
theorem zcj {α : Type} {p : α → Bool} {l : List α} (h : ∀ x ∈ l,p x = false) : l.find? p = none:=List.find?_eq_none.2 fun x hx=>by simp [h x hx]
def frS : List Nat:=[0,1,6,13,5,12]
def toS : List Nat:=[0,1,6,13,4,11]
end Go.Am
end
