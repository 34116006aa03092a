/- Texts of the proof, laid together: CodesE, CodesF, AmL, AmC, Ctx, SpStream, MathFrac, SpBase, SpList, SpShp, SpStr, PTap2, SpTapT, SpMap. -/
import Derived.KernelRfl
import Derived.Test.YthlhdniejglcnaaGreatDoorlawLN6
set_option linter.all false
section
/- The functions asv abstract code,and asv formulas over their values: printed by program out of the translation. -/
set_option linter.all false
set_option maxRecDepth 100000
namespace Go.Am
def zlV:ACode:=(.seq (rg [uO 2 (.box 0),
uO 3 (.box 1),
mV 4 (cI 0)] [2,3])
(.seq (dr [dF (fA 5 0 none 2) [2],
dF (lD 6 none 5) [5],
dF (fA 7 0 none 3) [3],
dF (lD 8 none 7) [7],
dT (cL 9 SK [6,8]) [6,8],
dF (fA 10 1 none 2) [2],
dA (lD 11 none 10) [10] false [4] [],
dF (fA 12 1 none 3) [3],
dA (lD 13 none 12) [12] false [4] [],
dT (cL 14 SK [11,13]) [11,13],
dF (fA 15 2 none 2) [2],
dA (lD 16 none 15) [15] false [4,9] [],
dF (fA 17 2 none 3) [3],
dA (lD 18 none 17) [17] false [4,9] [],
dT (cL 19 SK [16,18]) [16,18],
dF (uO 20 (.bsl false none 3 (.int .i64 0) [(0,9),(1,14),(2,19)])) [9,14,19],
dT (cL 21 z0v [20]) [20],
dF (mV 4 21) [21]] [4])
.ret))
def zbi:AFun:=⟨2,[.t 4],zlV,false,false⟩
def zlW:ACode:=(.seq (rg [uO 2 (.box 0),
uO 3 (.box 1),
mV 4 (cI 0)] [2,3])
(.seq (.block 0 (.seq (rg [fA 6 0 none 3,
lD 7 none 6,
cL 8 gC [7,(cI 1),(cI 4)],
mV 5 8] [2,3,5])
(.cond 5 (.seq (rg [mV 4 (cI 4)] [4])
.ret)
(.seq (rg [lD 10 (some 4) 3,
cL 11 fO [10],
mV 12 11,
gD 13 12 true (.faddr 1 none 3),
gD 14 12 true (.load none 13),
gD 15 12 true (.call UD [14]),
gD 16 12 true (.un .not 15),
uO 17 (.pick 12 16 cF),
mV 9 17] [2,3,9])
(.cond 9 (.seq (rg [mV 4 (cI 5)] [4])
.ret)
(.seq (rg [lD 19 (some 4) 3,
cL 20 fO [19],
uO 21 (.un .not 20),
mV 22 21,
gD 23 22 true (.faddr 1 none 3),
gD 24 22 true (.load none 23),
gD 25 22 true (.bin .neq 24 (cS [])),
uO 26 (.pick 22 25 cF),
mV 18 26] [2,3,18])
(.cond 18 (.seq (rg [mV 4 (cI 3)] [4])
.ret)
.skip)))))))
(.seq (.seq (rg [fA 27 0 none 3,
lD 28 none 27,
bN 29 .neq 28 (cI 2)] [2,3,29])
(.cond 29 (.seq (.seq (rg [fA 30 2 none 3,
lD 31 none 30,
bN 32 .neq 31 (cI (-1)),
mV 33 32,
gD 34 33 false (.faddr 3 none 3),
gD 35 33 false (.load none 34),
gD 36 33 false (.bin .neq 35 (cI 0)),
uO 37 (.pick 33 cT 36)] [37])
(.cond 37 (.seq (rg [mV 4 (cI 3)] [4])
.ret)
.skip))
(.seq (rg [mV 4 (cI 0)] [4])
.ret))
.skip))
(.seq (.block 1 (.seq (rg [fA 39 2 none 3,
lD 40 none 39,
bN 41 .neq 40 (cI (-1)),
mV 42 41,
gD 43 42 true (.faddr 2 none 3),
gD 44 42 true (.load none 43),
gD 45 42 true (.faddr 1 none 2),
gD 46 42 true (.load none 45),
gD 47 42 true (.len 46),
gD 48 42 true (.bin .sub 47 (cI 1)),
gD 49 42 true (.call gC [44,(cI 0),48]),
gD 50 42 true (.mv 49),
gD 51 50 false (.faddr 1 none 2),
gD 52 50 false (.load none 51),
gD 53 50 false (.faddr 2 none 3),
gD 54 50 false (.load none 53),
gD 55 50 false (.iaddr (some 4) 52 54),
gD 56 50 false (.faddr 0 none 55),
gD 57 50 false (.load none 56),
gD 58 50 false (.bin .neq 57 (cI 3)),
gD 59 42 true (.pick 50 cT 58),
uO 60 (.pick 42 59 cF),
mV 38 60] [3,38])
(.cond 38 (.seq (rg [mV 4 (cI 8)] [4])
.ret)
(.seq (rg [fA 62 3 none 3,
lD 63 none 62,
cL 64 gC [63,(cI 0),(cI 1)],
mV 65 64,
gD 66 65 false (.faddr 2 none 3),
gD 67 65 false (.load none 66),
gD 68 65 false (.bin .eql 67 (cI (-1))),
gD 69 65 false (.mv 68),
gD 70 69 true (.faddr 3 none 3),
gD 71 69 true (.load none 70),
gD 72 69 true (.bin .neq 71 (cI 0)),
gD 73 65 false (.pick 69 72 cF),
uO 74 (.pick 65 cT 73),
mV 61 74] [61])
(.cond 61 (.seq (rg [mV 4 (cI 1)] [4])
.ret)
.skip)))))
(.seq (rg [mV 4 (cI 0)] [4])
.ret)))))
def zbj:AFun:=⟨2,[.t 4],zlW,false,false⟩
def zlY:ACode:=.pr [1,5,6,7,8,17,18,19,25,26,27] (rg [bN 57 .add 27 (cI 1),
mV 27 57] [1,5,6,7,8,17,18,19,25,26,27])
def zlZ:ACode:=.pr [1,5,6,7,8,17,18,19,25,26,27] (.seq (rg [bN 28 .lss 27 26] [1,5,6,7,8,17,18,19,25,26,27,28])
(.seq (.cond 28 .skip
(.exit 2))
(.seq (.block 3 (.seq (rg [mV 29 27,
iA 30 (some 4) 25 27,
lD 31 (some 4) 30,
uO 10 (.alloc [.p (.int .i64 0),.p (.str []),.p (.int .i64 0),.p (.int .i64 0)]),
mV 9 29,
wO (.store (some 4) 10 31)] [1,5,6,7,8,9,10,17,18,19,25,26,27])
(.seq (.seq (rg [fA 32 0 none 10,
lD 33 none 32,
mV 34 1,
bN 35 .neq 33 34] [1,5,6,7,8,9,10,17,18,19,25,26,27,35])
(.cond 35 (.exit 3)
.skip))
(.seq (rg [mV 37 5,
fA 38 0 none 8,
lD 39 none 38,
fA 40 1 none 10,
lD 41 none 40,
uO 42 (.build [.p (.str []),.p (.str [])] [(0,1,39),(1,1,41)]),
uO 43 (.look ((some 2),[2,2]) true (.p (.str [])) 37 42),
mV 36 43,
eX 44 36 0,
eX 45 36 1,
mV 11 44,
mV 12 45] [1,5,6,7,8,9,11,12,17,18,19,25,26,27])
(.seq (rg [mV 46 12] [1,5,6,7,8,9,11,17,18,19,25,26,27,46])
(.cond 46 (rg [mV 47 6,
mV 48 11,
mV 49 6,
mV 50 11,
uO 51 (.look (none,[2]) false (.sl0 (some 2)) 49 50),
mV 52 7,
mV 53 9,
uO 54 (.build [.p (.int .i64 0),.p (.int .i64 0)] [(0,1,52),(1,1,53)]),
uO 55 (.bsl false (some 2) 1 (.agg [.int .i64 0,.int .i64 0]) [(0,54)]),
uO 56 (.app (some 2) 51 55),
wO (.mupd (none,[2]) 47 48 56)] [1,5,6,7,8,17,18,19,25,26,27])
.skip))))))
zlY)))
def zma:ACode:=.pr [1,5,6,17,18,19] (rg [bN 58 .add 19 (cI 1),
mV 19 58] [1,5,6,17,18,19])
def zmb:ACode:=.pr [1,5,6,17,18,19] (.seq (rg [bN 20 .lss 19 18] [1,5,6,17,18,19,20])
(.seq (.cond 20 .skip
(.exit 0))
(.seq (.block 1 (.seq (rg [mV 21 19,
iA 22 (some 2) 17 19,
lD 23 (some 2) 22,
uO 8 (.alloc [.p (.str []),.sl0 (some 4)]),
mV 7 21,
wO (.store (some 2) 8 23)] [1,5,6,7,8,17,18,19])
(.seq (rg [fA 24 1 none 8,
lD 25 none 24,
lN 26 25,
mV 27 (cI 0)] [1,5,6,7,8,17,18,19,25,26,27])
(.block 2 (.loop (.scope zlZ))))))
zma)))
def zmc:ACode:=.pr [6] (.seq (rg [mV 59 6,
mV 4 59] [4])
.ret)
def zlX:ACode:=(.seq (rg [uO 2 (.box 0),
mV 4 (.c (.nilm))] [1,2])
(.seq (rg [lD 13 (some 3) 2,
cL 14 z6s [13],
mV 5 14] [1,2,5])
(.seq (rg [uO 15 (.mkmap),
mV 6 15] [1,2,5,6])
(.seq (.seq (rg [fA 16 0 none 2,
lD 17 none 16,
lN 18 17,
mV 19 (cI 0)] [1,5,6,17,18,19])
(.block 0 (.loop (.scope zmb))))
zmc))))
def zbk:AFun:=⟨2,[.t 4],zlX,false,false⟩
def zme:ACode:=.pr [1,13,14,15] (.seq (rg [bN 16 .lss 15 14] [1,13,14,15,16])
(.seq (.cond 16 .skip
(.exit 0))
(.seq (.block 1 (.seq (rg [iA 17 (some 4) 13 15,
lD 18 (some 4) 17,
uO 4 (.alloc [.p (.int .i64 0),.p (.str []),.p (.int .i64 0),.p (.int .i64 0)]),
wO (.store (some 4) 4 18)] [1,4,13,14,15])
(.seq (rg [lD 19 (some 2) 1,
lD 20 (some 4) 4,
cL 21 z6k [19,20],
mV 5 21] [1,5,13,14,15])
(.seq (rg [mV 22 5,
bN 23 .neq 22 (cI 0)] [1,5,13,14,15,23])
(.cond 23 (.seq (rg [mV 24 5,
mV 2 24] [2])
.ret)
.skip)))))
(rg [bN 25 .add 15 (cI 1),
mV 15 25] [1,13,14,15]))))
def zmf:ACode:=.pr [1,27,28,29] (.seq (rg [bN 30 .lss 29 28] [1,27,28,29,30])
(.seq (.cond 30 .skip
(.exit 2))
(.seq (.block 3 (.seq (rg [mV 31 29,
iA 32 (some 4) 27 29,
lD 33 (some 4) 32,
uO 7 (.alloc [.p (.int .i64 0),.p (.str []),.p (.int .i64 0),.p (.int .i64 0)]),
mV 6 31,
wO (.store (some 4) 7 33)] [1,6,7,27,28,29])
(.seq (rg [lD 34 (some 4) 7,
cL 35 fO [34],
mV 36 35,
gD 37 36 true (.faddr 1 none 1),
gD 38 36 true (.load none 37),
gD 39 36 true (.mv 6),
gD 40 36 true (.slice (some 4) 38 none (some 39) none),
gD 41 36 true (.mkfn z6n [7]),
gD 42 36 true (.call z0x [40,41]),
uO 43 (.pick 36 42 cF)] [1,27,28,29,43])
(.cond 43 (.seq (rg [mV 2 (cI 6)] [2])
.ret)
.skip))))
(rg [bN 44 .add 29 (cI 1),
mV 29 44] [1,27,28,29]))))
def zmg:ACode:=.pr [] (.seq (rg [mV 2 (cI 0)] [2])
.ret)
def zmh:ACode:=.pr [1] (.seq (.seq (rg [fA 26 1 none 1,
lD 27 none 26,
lN 28 27,
mV 29 (cI 0)] [1,27,28,29])
(.block 2 (.loop (.scope zmf))))
zmg)
def zmd:ACode:=(.seq (rg [uO 1 (.box 0),
mV 2 (cI 0)] [1])
(.seq (.seq (rg [fA 8 1 none 1,
lD 9 none 8,
lN 10 9,
bN 11 .gtr 10 (cI 200)] [1,11])
(.cond 11 (.seq (rg [mV 2 (cI 2)] [2])
.ret)
.skip))
(.seq (.seq (rg [fA 12 1 none 1,
lD 13 none 12,
lN 14 13,
mV 15 (cI 0)] [1,13,14,15])
(.block 0 (.loop (.scope zme))))
zmh)))
def zbl:AFun:=⟨1,[.t 2],zmd,false,false⟩
def zmi:ACode:=(.seq (rg [uO 2 (.box 0),
mV 3 cF] [1,2])
(.seq (rg [fA 4 0 none 2,
lD 5 none 4,
fA 6 0 none 1,
lD 7 none 6,
bN 8 .eql 5 7,
mV 9 8,
gD 10 9 true (.faddr 1 none 2),
gD 11 9 true (.load none 10),
gD 12 9 true (.faddr 1 none 1),
gD 13 9 true (.load none 12),
gD 14 9 true (.bin .eql 11 13),
uO 15 (.pick 9 14 cF),
mV 3 15] [3])
.ret))
def zbm:AFun:=⟨2,[.t 3],zmi,false,false⟩
def zmj:ACode:=(.seq (rg [uO 2 (.box 0),
mV 4 (cI 0)] [1,2])
(.seq (rg [fA 8 0 none 2,
lD 9 none 8,
mV 10 1,
cL 11 z6C [9,10,(.f z6p)],
mV 7 11,
eX 12 7 0,
eX 13 7 1,
mV 5 12,
mV 6 13] [5,6])
(.seq (.seq (rg [mV 14 6,
uO 15 (.un .not 14)] [5,15])
(.cond 15 (.seq (rg [mV 4 (cI (-1))] [4])
.ret)
.skip))
(.seq (rg [mV 16 5,
mV 4 16] [4])
.ret))))
def zbn:AFun:=⟨2,[.t 4],zmj,false,false⟩
def zmk:ACode:=(.seq (rg [uO 2 (.box 0),
mV 4 (cI 0)] [1,2])
(.seq (rg [fA 5 0 none 2,
lD 6 none 5,
mV 7 1,
cL 8 SK [6,7],
mV 4 8] [4])
.ret))
def zbo:AFun:=⟨2,[.t 4],zmk,false,false⟩
def zml:ACode:=(.seq (rg [uO 1 (.box 0),
mV 2 cF] [1])
(.seq (rg [fA 3 0 none 1,
lD 4 none 3,
bN 5 .eql 4 (cI 1),
mV 6 5,
gD 7 6 false (.faddr 0 none 1),
gD 8 6 false (.load none 7),
gD 9 6 false (.bin .eql 8 (cI 2)),
uO 10 (.pick 6 cT 9),
mV 2 10] [2])
.ret))
def zbp:AFun:=⟨1,[.t 2],zml,false,false⟩
def zmn:ACode:=.pr [1,14,15,16] (.seq (rg [bN 17 .lss 16 15] [1,14,15,16,17])
(.seq (.cond 17 .skip
(.exit 0))
(.seq (.block 1 (.seq (rg [mV 18 16,
iA 19 (some 3) 14 16,
lD 20 (some 3) 19,
uO 4 (.alloc [.p (.str []),.p (.str []),.p (.str [])]),
mV 3 18,
wO (.store (some 3) 4 20)] [1,3,4,14,15,16])
(.block 2 (.seq (rg [fA 22 0 none 4,
lD 23 none 22,
cL 24 UD [23],
uO 25 (.un .not 24),
mV 21 25] [1,3,4,14,15,16,21])
(.cond 21 (.seq (rg [mV 2 (cI 5)] [2])
.ret)
(.seq (rg [lD 27 (some 3) 1,
fA 28 1 none 4,
lD 29 none 28,
fA 30 2 none 4,
lD 31 none 30,
cL 32 z6t [27,29,31],
uO 33 (.un .not 32),
mV 26 33] [1,3,4,14,15,16,26])
(.cond 26 (.seq (rg [mV 2 (cI 8)] [2])
.ret)
(.seq (dr [dF (mV 35 3) [3],
dF (bN 36 .gtr 35 (cI 0)) [35],
dF (mV 37 36) [36],
dF (gD 38 37 true (.load (some 3) 4)) [4,37],
dF (gD 39 37 true (.faddr 1 none 1)) [1,37],
dF (gD 40 37 true (.load none 39)) [39,37],
dF (gD 41 37 true (.mv 3)) [3,37],
dF (gD 42 37 true (.bin .sub 41 (cI 1))) [41,37],
dF (gD 43 37 true (.iaddr (some 3) 40 42)) [40,42,37],
dF (gD 44 37 true (.load (some 3) 43)) [43,37],
dT (gD 45 37 true (.call z6j [38,44])) [38,44,37],
dF (gD 46 37 true (.bin .leq 45 (cI 0))) [45,37],
dF (uO 47 (.pick 37 46 cF)) [37,46],
dF (mV 34 47) [47]] [1,14,15,16,34])
(.cond 34 (.seq (rg [mV 2 (cI 7)] [2])
.ret)
.skip)))))))))
(rg [bN 48 .add 16 (cI 1),
mV 16 48] [1,14,15,16]))))
def zmo:ACode:=.pr [5,51,52,53] (.seq (rg [bN 54 .lss 53 52] [5,51,52,53,54])
(.seq (.cond 54 .skip
(.exit 3))
(.seq (.block 4 (.seq (rg [iA 55 (some 3) 51 53,
lD 56 (some 3) 55,
uO 7 (.alloc [.p (.str []),.p (.str []),.p (.str [])]),
wO (.store (some 3) 7 56)] [5,7,51,52,53])
(.seq (rg [fA 57 1 none 7,
lD 58 none 57,
fA 59 2 none 7,
lD 60 none 59,
uO 61 (.build [.p (.str []),.p (.str [])] [(0,1,58),(1,1,60)]),
uO 8 (.alloc [.p (.str []),.p (.str [])]),
wO (.store (some 2) 8 61)] [5,8,51,52,53])
(.seq (.seq (rg [mV 62 5,
lD 63 (some 2) 8,
uO 64 (.look ((some 2),[2,2]) false (AB false) 62 63)] [5,8,51,52,53,64])
(.cond 64 (.seq (rg [mV 2 (cI 6)] [2])
.ret)
.skip))
(rg [mV 65 5,
lD 66 (some 2) 8,
wO (.mupd ((some 2),[2,2]) 65 66 cT)] [5,51,52,53])))))
(rg [bN 67 .add 53 (cI 1),
mV 53 67] [5,51,52,53]))))
def zmp:ACode:=.pr [] (.seq (rg [mV 2 (cI 0)] [2])
.ret)
def zmq:ACode:=.pr [1] (.seq (rg [uO 49 (.mkmap),
mV 5 49] [1,5])
(.seq (.seq (rg [fA 50 1 none 1,
lD 51 none 50,
lN 52 51,
mV 53 (cI 0)] [5,51,52,53])
(.block 3 (.loop (.scope zmo))))
zmp))
def zmm:ACode:=(.seq (rg [uO 1 (.box 0),
mV 2 (cI 0)] [1])
(.seq (.seq (rg [fA 9 1 none 1,
lD 10 none 9,
lN 11 10,
bN 12 .gtr 11 (cI 1000)] [1,12])
(.cond 12 (.seq (rg [mV 2 (cI 2)] [2])
.ret)
.skip))
(.seq (.seq (rg [fA 13 1 none 1,
lD 14 none 13,
lN 15 14,
mV 16 (cI 0)] [1,14,15,16])
(.block 0 (.loop (.scope zmn))))
zmq)))
def zbq:AFun:=⟨1,[.t 2],zmm,false,false⟩
def zms:ACode:=.pr [1,2,5,20,21,22] (.seq (rg [bN 23 .lss 22 21] [1,2,5,20,21,22,23])
(.seq (.cond 23 .skip
(.exit 0))
(.seq (.block 1 (.seq (rg [iA 24 none 20 22,
lD 25 none 24,
mV 7 25] [1,2,5,7,20,21,22])
(rg [mV 26 5,
mV 27 7,
wO (.mupd (none,[2]) 26 27 (cI 2))] [1,2,5,20,21,22])))
(rg [bN 28 .add 22 (cI 1),
mV 22 28] [1,2,5,20,21,22]))))
def zmt:ACode:=.pr [1,2,5,30,31,32] (.seq (rg [bN 33 .lss 32 31] [1,2,5,30,31,32,33])
(.seq (.cond 33 .skip
(.exit 2))
(.seq (.block 3 (.seq (rg [iA 34 (some 2) 30 32,
lD 35 (some 2) 34,
uO 9 (.alloc [.p (.str []),.p (.int .i64 0)]),
wO (.store (some 2) 9 35)] [1,2,5,9,30,31,32])
(rg [mV 36 5,
fA 37 0 none 9,
lD 38 none 37,
fA 39 1 none 9,
lD 40 none 39,
wO (.mupd (none,[2]) 36 38 40)] [1,2,5,30,31,32])))
(rg [bN 41 .add 32 (cI 1),
mV 32 41] [1,2,5,30,31,32]))))
def zmu:ACode:=.pr [1,2,5,10,17,44,50,51,52] (rg [mV 100 5,
mV 101 10,
mV 102 17,
wO (.mupd (none,[2]) 100 101 102),
mV 12 cT] [1,2,5,10,12,44,50,51,52])
def zmv:ACode:=.pr [1,2,5,10,12,44,50,51,52] (rg [bN 103 .add 52 (cI 1),
mV 52 103] [1,2,5,10,12,44,50,51,52])
def zmw:ACode:=.pr [1,2,5,10,12,44,50,51,52] (.seq (rg [bN 53 .lss 52 51] [1,2,5,10,12,44,50,51,52,53])
(.seq (.cond 53 .skip
(.exit 6))
(.seq (.block 7 (.seq (rg [iA 54 (some 2) 50 52,
lD 55 (some 2) 54,
uO 14 (.alloc [.p (.int .i64 0),.p (.int .i64 0)]),
wO (.store (some 2) 14 55)] [1,2,5,10,12,14,44,50,51,52])
(.seq (dr [dF (fA 56 0 none 2) [2],
dF (lD 57 none 56) [56],
dF (fA 58 0 none 14) [14],
dF (lD 59 none 58) [58],
dF (iA 60 (some 2) 57 59) [57,59],
dF (fA 61 1 none 60) [60],
dF (lD 62 none 61) [61],
dF (fA 63 1 none 14) [14],
dF (lD 64 none 63) [63],
dF (iA 65 (some 4) 62 64) [62,64],
dF (lD 66 (some 4) 65) [65],
dF (mV 67 1) [1],
dF (fA 68 0 none 14) [14],
dF (lD 69 none 68) [68],
dF (iA 70 none 67 69) [67,69],
dF (lD 71 none 70) [70],
dA (uO 15 (.alloc [.p (.int .i64 0),.p (.str []),.p (.int .i64 0),.p (.int .i64 0)])) [] true [] [1,3,4,6,8,9,10,13,14,15],
dA (wO (.store (some 4) 15 66)) [15,66] true [] [13,14,15],
dF (mV 16 71) [71]] [1,2,5,10,12,14,15,16,44,50,51,52])
(.seq (.seq (dr [dF (fA 72 2 none 15) [15],
dF (lD 73 none 72) [72],
dF (bN 74 .geq 73 (cI 0)) [73],
dF (mV 75 74) [74],
dF (gD 76 75 true (.mv 16)) [16,75],
dF (gD 77 75 true (.faddr 2 none 15)) [15,75],
dF (gD 78 75 true (.load none 77)) [77,75],
dF (gD 79 75 true (.idxs 76 78)) [76,78,75],
dF (gD 80 75 true (.bin .sub 79 (.c (.p (.int .u8 48))))) [79,75],
dF (gD 81 75 true (.conv (.i .i64) 80)) [80,75],
dF (gD 82 75 true (.faddr 3 none 15)) [15,75],
dF (gD 83 75 true (.load none 82)) [82,75],
dF (gD 84 75 true (.bin .eql 81 83)) [81,83,75],
dF (uO 85 (.pick 75 84 cF)) [75,84]] [1,2,5,10,12,14,16,44,50,51,52,85])
(.cond 85 (.exit 7)
.skip))
(.seq (rg [mV 86 16,
fA 87 1 none 14,
lD 88 none 87,
uO 89 (.idxs 86 88),
bN 90 .sub 89 (.c (.p (.int .u8 48))),
uO 91 (.conv (.i .i64) 90),
mV 17 91] [1,2,5,10,12,17,44,50,51,52])
(.seq (.seq (rg [mV 92 12,
mV 93 92,
gD 94 93 true (.mv 5),
gD 95 93 true (.mv 10),
gD 96 93 true (.look (none,[2]) false (AI 0) 94 95),
gD 97 93 true (.mv 17),
gD 98 93 true (.bin .neq 96 97),
uO 99 (.pick 93 98 cF)] [1,2,5,10,17,44,50,51,52,99])
(.cond 99 (rg [mV 17 (cI 3)] [1,2,5,10,17,44,50,51,52])
.skip))
zmu))))))
zmv)))
def zmx:ACode:=.pr [1,2,5,44] (.seq (rg [uO 45 (.mnext none [44]),
eX 46 45 0] [1,2,5,44,46])
(.seq (.cond 46 .skip
(.exit 4))
(.block 5 (.seq (rg [uO 47 (.mentry 44),
eX 48 47 0,
eX 49 47 1,
mV 10 48,
mV 11 49] [1,2,5,10,11,44])
(.seq (rg [mV 12 cF] [1,2,5,10,11,12,44])
(.seq (rg [mV 50 11,
lN 51 50,
mV 52 (cI 0)] [1,2,5,10,12,44,50,51,52])
(.block 6 (.loop (.scope zmw)))))))))
def zmy:ACode:=.pr [5] (.seq (rg [mV 104 5,
mV 4 104] [4])
.ret)
def zmz:ACode:=.pr [1,2,5] (.seq (.seq (rg [lD 42 (some 3) 2,
cL 43 z6l [42,(cI 2)],
uO 44 (.mrange 43)] [1,2,5,44])
(.block 4 (.loop (.scope zmx))))
zmy)
def zm0:ACode:=.pr [1,2,5] (.seq (.seq (rg [fA 29 2 none 2,
lD 30 none 29,
lN 31 30,
mV 32 (cI 0)] [1,2,5,30,31,32])
(.block 2 (.loop (.scope zmt))))
zmz)
def zmr:ACode:=(.det (.seq (rg [uO 2 (.box 0),
mV 4 (.c (.nilm))] [1,2])
(.seq (rg [uO 18 (.mkmap),
mV 5 18] [1,2,5])
(.seq (.seq (rg [lD 19 (some 3) 2,
cL 20 NS [19],
lN 21 20,
mV 22 (cI 0)] [1,2,5,20,21,22])
(.block 0 (.loop zms)))
zm0))))
def zbr:AFun:=⟨2,[.t 4],zmr,false,false⟩
def zm2:ACode:=.pr [3,7,8,9] (.seq (rg [bN 10 .lss 9 8] [3,7,8,9,10])
(.seq (.cond 10 .skip
(.exit 0))
(.seq (.block 1 (.seq (rg [iA 11 (some 3) 7 9,
lD 12 (some 3) 11,
uO 5 (.alloc [.p (.str []),.p (.str []),.p (.str [])]),
wO (.store (some 3) 5 12)] [3,5,7,8,9])
(rg [mV 13 3,
fA 14 0 none 5,
lD 15 none 14,
uO 16 (.bsl false none 1 (.str []) [(0,15)]),
uO 17 (.app none 13 16),
mV 3 17] [3,7,8,9])))
(rg [bN 18 .add 9 (cI 1),
mV 9 18] [3,7,8,9]))))
def zm3:ACode:=.pr [3] (.seq (rg [mV 19 3,
cL 20 z6D [19],
mV 2 20] [2])
.ret)
def zm1:ACode:=(.seq (rg [uO 1 (.box 0),
mV 2 (.c (.p (.sl none [])))] [1])
(.seq (rg [uO 3 (.new0 none)] [1,3])
(.seq (.seq (rg [fA 6 1 none 1,
lD 7 none 6,
lN 8 7,
mV 9 (cI 0)] [3,7,8,9])
(.block 0 (.loop (.scope zm2))))
zm3)))
def zbs:AFun:=⟨1,[.t 2],zm1,false,true⟩
def zm5:ACode:=.pr [3,8,9,10] (.seq (rg [bN 11 .lss 10 9] [3,8,9,10,11])
(.seq (.cond 11 .skip
(.exit 0))
(.seq (.block 1 (.seq (rg [iA 12 (some 3) 8 10,
lD 13 (some 3) 12,
uO 5 (.alloc [.p (.str []),.p (.str []),.p (.str [])]),
wO (.store (some 3) 5 13)] [3,5,8,9,10])
(rg [mV 14 3,
fA 15 1 none 5,
lD 16 none 15,
fA 17 2 none 5,
lD 18 none 17,
uO 19 (.build [.p (.str []),.p (.str [])] [(0,1,16),(1,1,18)]),
fA 20 0 none 5,
lD 21 none 20,
wO (.mupd ((some 2),[2,2]) 14 19 21)] [3,8,9,10])))
(rg [bN 22 .add 10 (cI 1),
mV 10 22] [3,8,9,10]))))
def zm6:ACode:=.pr [3] (.seq (rg [mV 23 3,
mV 2 23] [2])
.ret)
def zm4:ACode:=(.seq (rg [uO 1 (.box 0),
mV 2 (.c (.nilm))] [1])
(.seq (rg [uO 6 (.mkmap),
mV 3 6] [1,3])
(.seq (.seq (rg [fA 7 1 none 1,
lD 8 none 7,
lN 9 8,
mV 10 (cI 0)] [3,8,9,10])
(.block 0 (.loop (.scope zm5))))
zm6)))
def zbt:AFun:=⟨1,[.t 2],zm4,false,false⟩
def zm7:ACode:=(.seq (rg [uO 3 (.box 0),
uO 5 (.box 2),
mV 6 cF] [1,3,5])
(.seq (rg [lD 8 (some 3) 3,
mV 9 1,
cL 10 z6o [8,9],
mV 7 10] [3,5,7])
(.seq (rg [mV 11 7,
bN 12 .geq 11 (cI 0),
mV 13 12,
gD 14 13 true (.faddr 0 none 3),
gD 15 13 true (.load none 14),
gD 16 13 true (.mv 7),
gD 17 13 true (.iaddr (some 2) 15 16),
gD 18 13 true (.faddr 1 none 17),
gD 19 13 true (.load none 18),
gD 20 13 true (.mkfn z6u [5]),
gD 21 13 true (.call z0x [19,20]),
uO 22 (.pick 13 21 cF),
mV 6 22] [6])
.ret)))
def zbu:AFun:=⟨3,[.t 6],zm7,false,false⟩
def zm8:ACode:=(.seq (rg [uO 2 (.box 0),
mV 3 cF] [1,2])
(.seq (rg [lD 4 (some 4) 2,
cL 5 fO [4],
mV 6 5,
gD 7 6 true (.faddr 1 none 2),
gD 8 6 true (.load none 7),
gD 9 6 true (.load none 1),
gD 10 6 true (.bin .eql 8 9),
uO 11 (.pick 6 10 cF),
mV 3 11] [3])
.ret))
def zbv:AFun:=⟨2,[.t 3],zm8,false,false⟩
def zm9:ACode:=(.seq (rg [mV 4 (cI 0)] [0,1])
(.seq (rg [mV 7 0,
cL 8 z0w [7],
mV 5 8] [0,1,5])
(.seq (rg [mV 9 1,
cL 10 z0w [9],
mV 6 10] [0,1,5,6])
(.seq (.seq (rg [mV 11 5] [0,1,6,11])
(.cond 11 (.seq (.seq (rg [mV 12 6] [12])
(.cond 12 (.seq (rg [mV 4 (cI 0)] [4])
.ret)
.skip))
(.seq (rg [mV 4 (cI (-1))] [4])
.ret))
.skip))
(.seq (.seq (rg [mV 13 6] [0,1,13])
(.cond 13 (.seq (rg [mV 4 (cI 1)] [4])
.ret)
.skip))
(.seq (.seq (rg [mV 14 0,
mV 15 1,
bN 16 .lss 14 15] [0,1,16])
(.cond 16 (.seq (rg [mV 4 (cI (-1))] [4])
.ret)
.skip))
(.seq (.seq (rg [mV 17 0,
mV 18 1,
bN 19 .gtr 17 18] [19])
(.cond 19 (.seq (rg [mV 4 (cI 1)] [4])
.ret)
.skip))
(.seq (rg [mV 4 (cI 0)] [4])
.ret))))))))
def zbw:AFun:=⟨2,[.t 4],zm9,false,false⟩
def zmB:ACode:=.pr [3,6,7,8] (.seq (rg [bN 9 .lss 8 7] [3,6,7,8,9])
(.seq (.cond 9 .skip
(.exit 0))
(.seq (.block 1 (.seq (rg [iA 10 none 6 8,
lD 11 none 10,
mV 5 11] [3,5,6,7,8])
(.seq (rg [mV 12 5,
mV 13 3,
bN 14 .neq 12 13] [3,5,6,7,8,14])
(.cond 14 (.seq (rg [mV 15 5,
mV 2 15] [2])
.ret)
.skip))))
(rg [bN 16 .add 8 (cI 1),
mV 8 16] [3,6,7,8]))))
def zmC:ACode:=.pr [3] (.seq (rg [mV 17 3,
mV 2 17] [2])
.ret)
def zmA:ACode:=(.seq (rg [mV 2 (cI 0)] [0])
(.seq (rg [mV 3 (cI 0)] [0,3])
(.seq (.seq (rg [mV 6 0,
lN 7 6,
mV 8 (cI 0)] [3,6,7,8])
(.block 0 (.loop zmB)))
zmC)))
def zbx:AFun:=⟨1,[.t 2],zmA,false,false⟩
def zmD:ACode:=(.seq (rg [mV 2 cF] [0])
(.seq (rg [mV 3 0,
mV 4 0,
bN 5 .neq 3 4,
mV 2 5] [2])
.ret))
def zby:AFun:=⟨1,[.t 2],zmD,false,false⟩
def zmF:ACode:=.pr [0,3,27,28,29] (.seq (rg [bN 30 .lss 29 28] [0,3,27,28,29,30])
(.seq (.cond 30 .skip
(.exit 1))
(.seq (.block 2 (.seq (rg [iA 31 none 27 29,
lD 32 none 31,
mV 6 32] [0,3,6,27,28,29])
(.seq (rg [mV 33 6,
mV 34 0,
bN 35 .sub 34 (cI 1),
cL 36 gC [33,(cI 0),35]] [0,3,27,28,29,36])
(.cond 36 (.seq (rg [mV 4 (cI 1)] [4])
.ret)
.skip))))
(rg [bN 37 .add 29 (cI 1),
mV 29 37] [0,3,27,28,29]))))
def zmG:ACode:=.pr [3,7,8] (.seq (.seq (rg [mV 53 8,
mV 54 7,
lN 55 54,
bN 56 .lss 53 55] [3,7,8,56])
(.cond 56 .skip
(.exit 3)))
(.seq (.block 4 (.seq (dr [dF (mV 59 7) [7],
dF (mV 60 8) [8],
dF (iA 61 none 59 60) [59,60],
dF (lD 62 none 61) [61],
dF (mV 63 7) [7],
dF (mV 64 8) [8],
dF (bN 65 .sub 64 (cI 1)) [64],
dF (iA 66 none 63 65) [63,65],
dF (lD 67 none 66) [66],
dF (bN 68 .leq 62 67) [62,67]] [3,7,8,68])
(.cond 68 (.seq (rg [mV 4 (cI 7)] [4])
.ret)
.skip)))
(rg [mV 57 8,
bN 58 .add 57 (cI 1),
mV 8 58] [3,7,8])))
def zmH:ACode:=.pr [3,7] (.seq (.seq (rg [fA 69 0 none 3,
lD 70 none 69,
bN 71 .eql 70 (cI 5),
mV 72 71,
gD 73 72 true (.mv 7),
gD 74 72 true (.faddr 1 none 3),
gD 75 72 true (.load none 74),
gD 76 72 true (.iaddr none 75 (cI 0)),
gD 77 72 true (.load none 76),
gD 78 72 true (.call OG [73,77]),
uO 79 (.pick 72 78 cF)] [79])
(.cond 79 (.seq (rg [mV 4 (cI 6)] [4])
.ret)
.skip))
(.seq (rg [mV 4 (cI 0)] [4])
.ret))
def zmI:ACode:=.pr [3,7] (.seq (.seq (rg [mV 8 (cI 1)] [3,7,8])
(.block 3 (.loop zmG)))
zmH)
def zmJ:ACode:=.pr [3] (.seq (.seq (dr [dF (fA 38 0 none 3) [3],
dF (lD 39 none 38) [38],
dT (cL 40 z60 [39]) [39],
dF (fA 41 1 none 3) [3],
dA (lD 42 none 41) [41] false [2] [],
dF (lN 43 42) [42],
dF (bN 44 .gtr 43 (cI 1)) [43],
dF (uO 45 (.eqa [] true 40 44)) [40,44]] [3,45])
(.cond 45 (.seq (rg [mV 4 (cI 3)] [4])
.ret)
.skip))
(.seq (rg [fA 46 1 none 3,
lD 47 none 46,
mV 7 47] [3,7])
(.seq (.seq (rg [fA 48 0 none 3,
lD 49 none 48,
bN 50 .eql 49 (cI 5)] [3,7,50])
(.cond 50 (rg [mV 51 7,
uO 52 (.slice none 51 (some (cI 1)) none none),
mV 7 52] [3,7])
.skip))
zmI)))
def zmE:ACode:=(.seq (rg [uO 3 (.box 1),
mV 4 (cI 0)] [0,3])
(.seq (.block 0 (.seq (rg [mV 10 0,
cL 11 gC [10,(cI 1),(cI 100)],
mV 9 11] [0,3,9])
(.cond 9 (.seq (rg [mV 4 (cI 1)] [4])
.ret)
(.seq (rg [fA 13 0 none 3,
lD 14 none 13,
cL 15 gC [14,(cI 1),(cI 6)],
mV 12 15] [0,3,12])
(.cond 12 (.seq (rg [mV 4 (cI 4)] [4])
.ret)
(.seq (rg [fA 17 1 none 3,
lD 18 none 17,
lN 19 18,
bN 20 .eql 19 (cI 0),
mV 16 20] [0,3,16])
(.cond 16 (.seq (rg [mV 4 (cI 8)] [4])
.ret)
(.seq (rg [fA 22 1 none 3,
lD 23 none 22,
lN 24 23,
bN 25 .gtr 24 (cI 6),
mV 21 25] [0,3,21])
(.cond 21 (.seq (rg [mV 4 (cI 2)] [4])
.ret)
.skip)))))))))
(.seq (.seq (rg [fA 26 1 none 3,
lD 27 none 26,
lN 28 27,
mV 29 (cI 0)] [0,3,27,28,29])
(.block 1 (.loop zmF)))
zmJ)))
def zbz:AFun:=⟨2,[.t 4],zmE,false,false⟩
def zmL:ACode:=.pr [0,13,14,15] (.seq (rg [bN 16 .lss 15 14] [0,13,14,15,16])
(.seq (.cond 16 .skip
(.exit 1))
(.seq (.block 2 (.seq (rg [iA 17 none 13 15,
lD 18 none 17,
mV 4 18] [0,4,13,14,15])
(.block 3 (.seq (rg [mV 20 4,
cL 21 CE [20],
uO 22 (.un .not 21),
mV 19 22] [0,4,13,14,15,19])
(.cond 19 (.seq (rg [mV 2 (cI 3)] [2])
.ret)
(.seq (rg [mV 24 4,
uO 25 (.lens 24),
bN 26 .gtr 25 (cI 64),
mV 23 26] [0,4,13,14,15,23])
(.cond 23 (.seq (rg [mV 2 (cI 2)] [2])
.ret)
(.seq (rg [mV 28 4,
uO 29 (.lens 28),
mV 30 0,
iA 31 none 30 (cI 0),
lD 32 none 31,
uO 33 (.lens 32),
bN 34 .neq 29 33,
mV 27 34] [0,13,14,15,27])
(.cond 27 (.seq (rg [mV 2 (cI 3)] [2])
.ret)
.skip)))))))))
(rg [bN 35 .add 15 (cI 1),
mV 15 35] [0,13,14,15]))))
def zmM:ACode:=.pr [] (.seq (rg [mV 2 (cI 0)] [2])
.ret)
def zmK:ACode:=(.seq (rg [mV 2 (cI 0)] [0])
(.seq (.block 0 (.seq (rg [mV 6 0,
lN 7 6,
bN 8 .eql 7 (cI 0),
mV 5 8] [0,5])
(.cond 5 (.seq (rg [mV 2 (cI 8)] [2])
.ret)
(.seq (rg [mV 10 0,
lN 11 10,
bN 12 .gtr 11 (cI 100),
mV 9 12] [0,9])
(.cond 9 (.seq (rg [mV 2 (cI 2)] [2])
.ret)
.skip)))))
(.seq (.seq (rg [mV 13 0,
lN 14 13,
mV 15 (cI 0)] [0,13,14,15])
(.block 1 (.loop zmL)))
zmM)))
def zb0:AFun:=⟨1,[.t 2],zmK,false,false⟩
def zmO:ACode:=.pr [0,7,18,19,20] (.seq (rg [bN 21 .lss 20 19] [0,7,18,19,20,21])
(.seq (.cond 21 .skip
(.exit 0))
(.seq (.block 1 (.seq (rg [iA 22 (some 2) 18 20,
lD 23 (some 2) 22,
uO 9 (.alloc [.p (.int .i64 0),.sl0 none]),
wO (.store (some 2) 9 23)] [0,7,9,18,19,20])
(dr [dF (mV 24 7) [7],
dF (lD 25 (some 2) 9) [9],
dF (mV 26 0) [0],
dF (iA 27 none 26 (cI 0)) [26],
dF (lD 28 none 27) [27],
dF (uO 29 (.lens 28)) [28],
dA (cL 30 z63 [29]) [29] true [] [1],
dT (cL 31 z64 [24,25,30]) [24,25,30]] [0,7,18,19,20])))
(rg [bN 32 .add 20 (cI 1),
mV 20 32] [0,7,18,19,20]))))
def zmP:ACode:=.pr [0,7] (.seq (rg [mV 33 7,
mV 34 0,
iA 35 none 34 (cI 0),
lD 36 none 35,
uO 37 (.lens 36),
cL 38 z62 [33,37],
mV 4 38,
mV 5 (cI 0)] [4,5])
.ret)
def zmN:ACode:=(.seq (rg [mV 4 (.c (.p (.sl none []))),
mV 5 (cI 0)] [0,1])
(.seq (.seq (rg [mV 10 0,
mV 11 1,
cL 12 z6z [10,11],
mV 6 12] [0,1,6])
(.seq (rg [mV 13 6,
bN 14 .neq 13 (cI 0)] [0,1,6,14])
(.cond 14 (.seq (rg [mV 15 6,
mV 4 (.c (.p (.sl none []))),
mV 5 15] [4,5])
.ret)
.skip)))
(.seq (rg [mV 16 0,
cL 17 z61 [16],
mV 7 17] [0,1,7])
(.seq (.seq (rg [mV 18 1,
lN 19 18,
mV 20 (cI 0)] [0,7,18,19,20])
(.block 0 (.loop (.scope zmO))))
zmP))))
def zb1:AFun:=⟨2,[.t 4,.t 5],zmN,false,false⟩
def zmQ:ACode:=(.seq (rg [uO 3 (.box 1),
mV 4 (.c (.p (.sl none []))),
mV 5 (cI 0)] [0,3])
(.seq (rg [mV 6 0,
lD 7 (some 2) 3,
uO 8 (.bsl false (some 2) 1 (.agg [.int .i64 0,.sl none []]) [(0,7)]),
cL 9 z6x [6,8],
eX 10 9 0,
eX 11 9 1,
mV 4 10,
mV 5 11] [4,5])
.ret))
def zb2:AFun:=⟨2,[.t 4,.t 5],zmQ,false,false⟩
def zmS:ACode:=.pr [0,14,15,16] (.seq (rg [bN 17 .lss 16 15] [0,14,15,16,17])
(.seq (.cond 17 .skip
(.exit 0))
(.seq (.block 1 (.seq (rg [iA 18 (some 2) 14 16,
lD 19 (some 2) 18,
uO 7 (.alloc [.p (.int .i64 0),.sl0 none]),
wO (.store (some 2) 7 19)] [0,7,14,15,16])
(.seq (rg [mV 20 0,
lN 21 20,
lD 22 (some 2) 7,
cL 23 z6v [21,22],
mV 8 23] [0,8,14,15,16])
(.seq (rg [mV 24 8,
bN 25 .neq 24 (cI 0)] [0,8,14,15,16,25])
(.cond 25 (.seq (rg [mV 26 8,
mV 4 26] [4])
.ret)
.skip)))))
(rg [bN 27 .add 16 (cI 1),
mV 16 27] [0,14,15,16]))))
def zmT:ACode:=.pr [] (.seq (rg [mV 4 (cI 0)] [4])
.ret)
def zmR:ACode:=(.seq (rg [mV 4 (cI 0)] [0,1])
(.seq (.seq (rg [mV 9 0,
cL 10 z6w [9],
mV 5 10] [0,1,5])
(.seq (rg [mV 11 5,
bN 12 .neq 11 (cI 0)] [0,1,5,12])
(.cond 12 (.seq (rg [mV 13 5,
mV 4 13] [4])
.ret)
.skip)))
(.seq (.seq (rg [mV 14 1,
lN 15 14,
mV 16 (cI 0)] [0,14,15,16])
(.block 0 (.loop (.scope zmS))))
zmT)))
def zb3:AFun:=⟨2,[.t 4],zmR,false,false⟩
def zmU:ACode:=(.seq (rg [mV 2 cF] [0])
(.seq (rg [mV 3 0,
cL 4 gC [3,(cI 3),(cI 5)],
uO 5 (.un .not 4),
mV 2 5] [2])
.ret))
def zb4:AFun:=⟨1,[.t 2],zmU,false,false⟩
def zmW:ACode:=.pr [3,5,6,8,9,10,15,16] (.seq (rg [bN 17 .lss 16 15] [3,5,6,8,9,10,15,16,17])
(.seq (.cond 17 .skip
(.exit 2))
(.seq (.block 3 (.seq (rg [mV 18 16,
mV 7 18] [3,5,6,7,8,9,10,15,16])
(rg [mV 19 6,
mV 20 5,
mV 21 7,
uO 22 (.idxs 20 21),
bN 23 .sub 22 (.c (.p (.int .u8 48))),
uO 24 (.conv (.i .u64) 23),
mV 25 7,
bN 26 .shl 24 25,
bN 27 .or 19 26,
mV 6 27] [3,5,6,8,9,10,15,16])))
(rg [bN 28 .add 16 (cI 1),
mV 16 28] [3,5,6,8,9,10,15,16]))))
def zmX:ACode:=.pr [3,6,8,9,10] (rg [mV 29 3,
mV 30 6,
uO 31 (.bsl false none 1 (.int .u64 0) [(0,30)]),
uO 32 (.app none 29 31),
mV 3 32] [3,8,9,10])
def zmY:ACode:=.pr [3,8,9,10] (rg [bN 33 .add 10 (cI 1),
mV 10 33] [3,8,9,10])
def zmZ:ACode:=.pr [3,8,9,10] (.seq (rg [bN 11 .lss 10 9] [3,8,9,10,11])
(.seq (.cond 11 .skip
(.exit 0))
(.seq (.block 1 (.seq (rg [iA 12 none 8 10,
lD 13 none 12,
mV 5 13] [3,5,8,9,10])
(.seq (rg [mV 6 (.c (.p (.int .u64 0)))] [3,5,6,8,9,10])
(.seq (.seq (rg [mV 14 5,
uO 15 (.lens 14),
mV 16 (cI 0)] [3,5,6,8,9,10,15,16])
(.block 2 (.loop zmW)))
zmX))))
zmY)))
def zna:ACode:=.pr [3] (.seq (rg [mV 34 3,
mV 2 34] [2])
.ret)
def zmV:ACode:=(.seq (rg [mV 2 (.c (.p (.sl none [])))] [0])
(.seq (rg [uO 3 (.new0 none)] [0,3])
(.seq (.seq (rg [mV 8 0,
lN 9 8,
mV 10 (cI 0)] [3,8,9,10])
(.block 0 (.loop (.scope zmZ))))
zna)))
def zb5:AFun:=⟨1,[.t 2],zmV,false,true⟩
def znc:ACode:=.pr [1,5,7,8,10,11,12,19,20] (.seq (rg [bN 21 .lss 20 19] [1,5,7,8,10,11,12,19,20,21])
(.seq (.cond 21 .skip
(.exit 2))
(.seq (.block 3 (.seq (rg [mV 22 20,
mV 9 22] [1,5,7,8,9,10,11,12,19,20])
(rg [mV 23 8,
mV 24 9,
mV 25 7,
mV 26 9,
bN 27 .shr 25 26,
bN 28 .and 27 (.c (.p (.int .u64 1))),
bN 29 .add (.c (.p (.int .u64 48))) 28,
uO 30 (.conv (.i .u8) 29),
iA 31 none 23 24,
wO (.store none 31 30)] [1,5,7,8,10,11,12,19,20])))
(rg [bN 32 .add 20 (cI 1),
mV 20 32] [1,5,7,8,10,11,12,19,20]))))
def znd:ACode:=.pr [1,5,8,10,11,12] (rg [mV 33 5,
mV 34 8,
uO 35 (.conv .b2s 34),
uO 36 (.bsl false none 1 (.str []) [(0,35)]),
uO 37 (.app none 33 36),
mV 5 37] [1,5,10,11,12])
def zne:ACode:=.pr [1,5,10,11,12] (rg [bN 38 .add 12 (cI 1),
mV 12 38] [1,5,10,11,12])
def znf:ACode:=.pr [1,5,10,11,12] (.seq (rg [bN 13 .lss 12 11] [1,5,10,11,12,13])
(.seq (.cond 13 .skip
(.exit 0))
(.seq (.block 1 (.seq (rg [iA 14 none 10 12,
lD 15 none 14,
mV 7 15] [1,5,7,10,11,12])
(.seq (rg [mV 16 1,
uO 17 (.mksl none (.int .u8 0) 16 16),
mV 8 17] [1,5,7,8,10,11,12])
(.seq (.seq (rg [mV 18 8,
lN 19 18,
mV 20 (cI 0)] [1,5,7,8,10,11,12,19,20])
(.block 2 (.loop znc)))
znd))))
zne)))
def zng:ACode:=.pr [5] (.seq (rg [mV 39 5,
mV 4 39] [4])
.ret)
def znb:ACode:=(.seq (rg [mV 4 (.c (.p (.sl none [])))] [0,1])
(.seq (rg [uO 5 (.new0 none)] [0,1,5])
(.seq (.seq (rg [mV 10 0,
lN 11 10,
mV 12 (cI 0)] [1,5,10,11,12])
(.block 0 (.loop (.scope znf))))
zng)))
def zb6:AFun:=⟨2,[.t 4],znb,false,false⟩
def znh:ACode:=(.seq (rg [mV 2 (.c (.p (.int .u64 0)))] [0])
(.seq (rg [mV 3 0,
bN 4 .shl (.c (.p (.int .u64 1))) 3,
bN 5 .sub 4 (.c (.p (.int .u64 1))),
mV 2 5] [2])
.ret))
def zb7:AFun:=⟨1,[.t 2],znh,false,false⟩
def znj:ACode:=.pr [0,4,6,31,32,33] (.seq (rg [bN 34 .lss 33 32] [0,4,6,31,32,33,34])
(.seq (.cond 34 .skip
(.exit 1))
(.seq (.block 2 (.seq (rg [iA 35 none 31 33,
lD 36 none 35,
mV 8 36] [0,4,6,8,31,32,33])
(rg [mV 37 6,
mV 38 0,
mV 39 8,
iA 40 none 38 39,
lD 41 none 40,
bN 42 .and 37 41,
mV 6 42] [0,4,6,31,32,33])))
(rg [bN 43 .add 33 (cI 1),
mV 33 43] [0,4,6,31,32,33]))))
def znk:ACode:=.pr [0,4,6,47,48,49] (.seq (rg [bN 50 .lss 49 48] [0,4,6,47,48,49,50])
(.seq (.cond 50 .skip
(.exit 3))
(.seq (.block 4 (.seq (rg [iA 51 none 47 49,
lD 52 none 51,
mV 10 52] [0,4,6,10,47,48,49])
(rg [mV 53 6,
mV 54 0,
mV 55 10,
iA 56 none 54 55,
lD 57 none 56,
bN 58 .or 53 57,
mV 6 58] [0,4,6,47,48,49])))
(rg [bN 59 .add 49 (cI 1),
mV 49 59] [0,4,6,47,48,49]))))
def znl:ACode:=.pr [0,2,4,6,21,24] (.cond 24 (rg [mV 27 2,
mV 6 27] [0,4,6])
(.seq (rg [bN 29 .eql 21 (cI 3),
mV 28 29] [0,4,6,21,28])
(.cond 28 (.seq (rg [fA 30 1 none 4,
lD 31 none 30,
lN 32 31,
mV 33 (cI 0)] [0,4,6,31,32,33])
(.block 1 (.loop znj)))
(.seq (rg [bN 45 .eql 21 (cI 4),
mV 44 45] [0,4,6,44])
(.cond 44 (.seq (rg [fA 46 1 none 4,
lD 47 none 46,
lN 48 47,
mV 49 (cI 0)] [0,4,6,47,48,49])
(.block 3 (.loop znk)))
.skip)))))
def znm:ACode:=.pr [0,6,61,62,63] (.seq (rg [bN 64 .lss 63 62] [0,6,61,62,63,64])
(.seq (.cond 64 .skip
(.exit 5))
(.seq (.block 6 (.seq (rg [iA 65 none 61 63,
lD 66 none 65,
mV 12 66] [0,6,12,61,62,63])
(rg [mV 67 0,
mV 68 12,
mV 69 6,
iA 70 none 67 68,
wO (.store none 70 69)] [0,6,61,62,63])))
(rg [bN 71 .add 63 (cI 1),
mV 63 71] [0,6,61,62,63]))))
def znn:ACode:=.pr [0,4,6] (.seq (rg [fA 60 1 none 4,
lD 61 none 60,
lN 62 61,
mV 63 (cI 0)] [0,6,61,62,63])
(.block 5 (.loop znm)))
def zni:ACode:=(.seq (rg [uO 4 (.box 1)] [0,2,4])
(.seq (rg [mV 13 0,
fA 14 1 none 4,
lD 15 none 14,
iA 16 none 15 (cI 0),
lD 17 none 16,
iA 18 none 13 17,
lD 19 none 18,
mV 6 19] [0,2,4,6])
(.seq (.seq (rg [fA 20 0 none 4,
lD 21 none 20] [0,2,4,6,21])
(.block 0 (.seq (rg [bN 23 .eql 21 (cI 1),
mV 22 23] [0,2,4,6,21,22])
(.cond 22 (rg [mV 6 (.c (.p (.int .u64 0)))] [0,4,6])
(.seq (.seq (rg [bN 25 .eql 21 (cI 2),
mV 24 25] [0,2,4,6,21,24])
(.cond 24 .skip
(rg [bN 26 .eql 21 (cI 6),
mV 24 26] [0,2,4,6,21,24])))
znl)))))
znn)))
def zb8:AFun:=⟨3,[],zni,true,false⟩
def zno:ACode:=(.seq (rg [mV 4 (cI 0)] [0,1])
(.seq (rg [mV 5 0,
mV 6 1,
cL 7 MS [5,6],
mV 4 7] [4])
.ret))
def zb9:AFun:=⟨2,[.t 4],zno,false,false⟩
def znp:ACode:=(.seq (rg [uO 2 (.alloc [.p (.int .i64 0),.p (.int .i64 0)]),
uO 3 (.alloc [.p (.int .i64 0),.p (.int .i64 0)]),
mV 4 (cI 0)] [0,2,3])
(.seq (.seq (rg [mV 9 0,
cL 10 z69 [9,(cI 1)],
mV 5 10] [0,2,3,5])
(.seq (rg [mV 11 5,
bN 12 .neq 11 (cI 0)] [0,2,3,5,12])
(.cond 12 (.seq (rg [uO 13 (.build [.p (.int .i64 0),.p (.int .i64 0)] []),
uO 14 (.build [.p (.int .i64 0),.p (.int .i64 0)] []),
mV 15 5,
wO (.store (some 2) 2 13),
wO (.store (some 2) 3 14),
mV 4 15] [2,3,4])
.ret)
.skip)))
(.seq (rg [mV 17 0,
cL 18 z68 [17],
mV 16 18,
eX 19 16 0,
eX 20 16 1,
mV 6 19,
mV 7 20] [0,2,3,6,7])
(.seq (rg [mV 21 0,
lN 22 21,
mV 8 22] [2,3,6,7,8])
(.seq (rg [mV 23 6,
mV 24 8,
cL 25 z0s [23,24],
mV 26 7,
mV 27 8,
mV 28 8,
bN 29 .mul 27 28,
cL 30 z0s [26,29],
wO (.store (some 2) 2 25),
wO (.store (some 2) 3 30),
mV 4 (cI 0)] [2,3,4])
.ret)))))
def zbA:AFun:=⟨1,[.cell 2 (some 2),.cell 3 (some 2),.t 4],znp,false,false⟩
def znq:ACode:=(.seq (rg [mV 2 cF] [0])
(.seq (rg [mV 3 0,
cL 4 gC [3,(cI (-100000)),(cI 100000)],
uO 5 (.un .not 4),
mV 2 5] [2])
.ret))
def zbB:AFun:=⟨1,[.t 2],znq,false,false⟩
def zns:ACode:=.pr [0,2,4,7,8,9] (.seq (rg [bN 10 .lss 9 8] [0,2,4,7,8,9,10])
(.seq (.cond 10 .skip
(.exit 0))
(.seq (.block 1 (.seq (rg [iA 11 none 7 9,
lD 12 none 11,
mV 6 12] [0,2,4,6,7,8,9])
(.seq (rg [mV 13 2,
mV 14 6,
bN 15 .add 13 14,
mV 2 15] [0,2,4,6,7,8,9])
(rg [mV 16 4,
mV 17 6,
mV 18 6,
bN 19 .mul 17 18,
bN 20 .add 16 19,
mV 4 20] [0,2,4,7,8,9]))))
(rg [bN 21 .add 9 (cI 1),
mV 9 21] [0,2,4,7,8,9]))))
def znt:ACode:=.pr [0,2,4] (.seq (rg [mV 22 2,
mV 23 0,
lN 24 23,
mV 25 4,
bN 26 .mul 24 25,
mV 27 2,
mV 28 2,
bN 29 .mul 27 28,
bN 30 .sub 26 29,
mV 2 22,
mV 3 30] [2,3])
.ret)
def znr:ACode:=(.seq (rg [mV 2 (cI 0),
mV 3 (cI 0)] [0,2])
(.seq (rg [mV 4 (cI 0)] [0,2,4])
(.seq (.seq (rg [mV 7 0,
lN 8 7,
mV 9 (cI 0)] [0,2,4,7,8,9])
(.block 0 (.loop zns)))
znt)))
def zbC:AFun:=⟨1,[.t 2,.t 3],znr,false,false⟩
def znu:ACode:=(.seq (rg [mV 4 (cI 0)] [0,1])
(.seq (.block 0 (.seq (rg [mV 6 0,
lN 7 6,
mV 8 1,
bN 9 .lss 7 8,
mV 5 9] [0,5])
(.cond 5 (.seq (rg [mV 4 (cI 8)] [4])
.ret)
(.seq (rg [mV 11 0,
lN 12 11,
bN 13 .gtr 12 (cI 5000),
mV 10 13] [0,10])
(.cond 10 (.seq (rg [mV 4 (cI 2)] [4])
.ret)
(.seq (rg [mV 15 0,
cL 16 z6E [15,(.f z6A)],
mV 14 16] [14])
(.cond 14 (.seq (rg [mV 4 (cI 1)] [4])
.ret)
.skip)))))))
(.seq (rg [mV 4 (cI 0)] [4])
.ret)))
def zbD:AFun:=⟨2,[.t 4],znu,false,false⟩
def znv:ACode:=(.seq (rg [mV 2 cF] [0])
(.seq (rg [mV 3 0,
cL 4 z67 [3],
uO 5 (.un .not 4),
mV 2 5] [2])
.ret))
def zbE:AFun:=⟨1,[.t 2],znv,false,false⟩
def znw:ACode:=(.seq (rg [mV 0 cF] [])
(.seq (rg [cL 13 z6B [],
uO 14 (.bsl false none 1 (.str []) [(0,(cS [49]))]),
cL 15 z6i [13,14],
mV 12 15,
eX 16 12 0,
eX 17 12 1,
mV 1 16,
mV 2 17] [1,2])
(.seq (rg [uO 19 (.bsl false none 1 (.str []) [(0,(cS [48,49]))]),
uO 20 (.bsl false none 1 (.int .i64 0) [(0,(cI 0))]),
uO 21 (.build [.p (.int .i64 0),.sl0 none] [(0,1,(cI 2)),(1,1,20)]),
cL 22 z6y [19,21],
mV 18 22,
eX 23 18 0,
eX 24 18 1,
mV 3 23,
mV 4 24] [1,2,3,4])
(.seq (rg [uO 26 (.build [.p (.int .i64 0),.p (.int .i64 0),.p (.int .i64 0),.p (.str []),.p (.str []),.p (.str [])] [(0,1,(cI 7)),(3,1,(cS [49,48]))]),
uO 27 (.bsl false (some 6) 1 (.agg [.int .i64 0,.int .i64 0,.int .i64 0,.str [],.str [],.str []]) [(0,26)]),
cL 28 z6W [27],
mV 25 28,
eX 29 25 0,
eX 30 25 1,
mV 5 29,
mV 6 30] [1,2,3,4,5,6])
(.seq (rg [uO 32 (.bsl false none 2 (.int .i64 0) [(0,(cI 1)),(1,(cI 3))]),
cL 33 z66 [32],
mV 31 33,
eX 34 31 0,
eX 35 31 1,
eX 36 31 2,
uO 7 (.alloc [.p (.int .i64 0),.p (.int .i64 0)]),
uO 8 (.alloc [.p (.int .i64 0),.p (.int .i64 0)]),
wO (.store (some 2) 7 34),
wO (.store (some 2) 8 35),
mV 9 36] [1,2,3,4,5,6,7,9])
(.seq (rg [uO 38 (.bsl false none 1 (.str []) [(0,(cS [115,99,97,110]))]),
uO 39 (.build [.sl0 none,.p (.int .i64 0)] [(0,1,38),(1,1,(cI 1))]),
uO 40 (.build [.p (.str []),.p (.int .i64 0),.p (.int .i64 0),.p (.int .i64 0),.p (.str []),.p (.str []),.p (.str []),.p (.int .i64 0)] [(0,1,(cS [97])),(1,1,(cI 1)),(3,1,(cI 1)),(4,1,(cS [98]))]),
uO 41 (.bsl false (some 8) 1 (.agg [.str [],.int .i64 0,.int .i64 0,.int .i64 0,.str [],.str [],.str [],.int .i64 0]) [(0,40)]),
cL 42 z6J [39,41,(cS [98]),(cI 0)],
mV 37 42,
eX 43 37 0,
eX 44 37 1,
uO 10 (.alloc [.p (.int .i64 0),.p (.int .i64 0),.p (.str []),.p (.str []),.p (.int .i64 0)]),
wO (.store (some 5) 10 43),
mV 11 44] [1,2,3,4,5,6,7,9,10,11])
(.seq (rg [mV 45 2,
mV 46 4,
mV 47 6,
mV 48 9,
mV 49 11,
uO 50 (.bsl false none 5 (.int .i64 0) [(0,45),(1,46),(2,47),(3,48),(4,49)]),
cL 51 bJ [50],
bN 52 .eql 51 (cI 0),
mV 53 52,
gD 54 53 true (.mv 1),
gD 55 53 true (.len 54),
gD 56 53 true (.bin .eql 55 (cI 1)),
uO 57 (.pick 53 56 cF),
mV 58 57,
gD 59 58 true (.mv 1),
gD 60 58 true (.iaddr none 59 (cI 0)),
gD 61 58 true (.load none 60),
gD 62 58 true (.bin .eql 61 (cI 1)),
uO 63 (.pick 58 62 cF),
mV 64 63,
gD 65 64 true (.mv 3),
gD 66 64 true (.len 65),
gD 67 64 true (.bin .eql 66 (cI 1)),
uO 68 (.pick 64 67 cF),
mV 69 68,
gD 70 69 true (.mv 3),
gD 71 69 true (.iaddr none 70 (cI 0)),
gD 72 69 true (.load none 71),
gD 73 69 true (.bin .eql 72 (cS [49,49])),
uO 74 (.pick 69 73 cF),
mV 75 74,
gD 76 75 true (.mv 5),
gD 77 75 true (.bin .eql 76 (cI 9)),
uO 78 (.pick 75 77 cF),
mV 79 78,
gD 80 79 true (.faddr 0 none 7),
gD 81 79 true (.load none 80),
gD 82 79 true (.bin .eql 81 (cI 2)),
uO 83 (.pick 79 82 cF),
mV 84 83,
gD 85 84 true (.faddr 0 none 10),
gD 86 84 true (.load none 85),
gD 87 84 true (.bin .eql 86 (cI 1)),
uO 88 (.pick 84 87 cF),
mV 0 88] [0])
.ret)))))))
def zbF:AFun:=⟨0,[.t 0],znw,false,false⟩
def znx:ACode:=(.seq (rg [uO 0 (.alloc [.sl0 (some 2),.sl0 (some 3),.sl0 (some 2)])] [0])
(.seq (rg [uO 1 (.build [.p (.int .i64 0),.p (.str []),.p (.int .i64 0),.p (.int .i64 0)] [(0,1,(cI 2)),(1,1,(cS [97])),(2,1,(cI (-1)))]),
uO 2 (.bsl false (some 4) 1 (.agg [.int .i64 0,.str [],.int .i64 0,.int .i64 0]) [(0,1)]),
uO 3 (.build [.p (.str []),.sl0 (some 4)] [(0,1,(cS [117])),(1,1,2)]),
uO 4 (.bsl false (some 2) 1 (.agg [.str [],.sl (some 4) []]) [(0,3)]),
uO 5 (.build [.p (.str []),.p (.str []),.p (.str [])] [(0,1,(cS [110])),(1,1,(cS [117])),(2,1,(cS [97]))]),
uO 6 (.bsl false (some 3) 1 (.agg [.str [],.str [],.str []]) [(0,5)]),
uO 7 (.build [.sl0 (some 2),.sl0 (some 3),.sl0 (some 2)] [(0,1,4),(1,1,6)]),
wO (.store (some 3) 0 7)] [0])
.ret))
def zbG:AFun:=⟨0,[.cell 0 (some 3)],znx,false,false⟩
def znz:ACode:=.pr [0,1,2,8,9,10] (.seq (.seq (rg [mV 15 9,
mV 16 10,
bN 17 .lss 15 16] [0,1,2,8,9,10,17])
(.cond 17 .skip
(.exit 0)))
(.block 1 (.seq (rg [mV 18 9,
mV 19 10,
bN 20 .add 18 19,
uO 21 (.conv (.i .u64) 20),
bN 22 .shr 21 (.c (.p (.int .u64 1))),
uO 23 (.conv (.i .i64) 22),
mV 11 23] [0,1,2,8,9,10,11])
(.seq (rg [mV 24 2,
mV 25 0,
mV 26 11,
iA 27 (some 2) 25 26,
lD 28 (some 2) 27,
mV 29 1,
uO 30 (.callv 24 [28,29]),
bN 31 .lss 30 (cI 0)] [0,1,2,8,9,10,11,31])
(.cond 31 (rg [mV 32 11,
bN 33 .add 32 (cI 1),
mV 9 33] [0,1,2,8,9,10])
(rg [mV 34 11,
mV 10 34] [0,1,2,8,9,10]))))))
def zn0:ACode:=.pr [0,1,2,8,9] (.seq (rg [mV 35 9,
mV 36 9,
mV 37 8,
bN 38 .lss 36 37,
mV 39 38,
gD 40 39 true (.mv 2),
gD 41 39 true (.mv 0),
gD 42 39 true (.mv 9),
gD 43 39 true (.iaddr (some 2) 41 42),
gD 44 39 true (.load (some 2) 43),
gD 45 39 true (.mv 1),
gD 46 39 true (.callv 40 [44,45]),
gD 47 39 true (.bin .eql 46 (cI 0)),
uO 48 (.pick 39 47 cF),
mV 6 35,
mV 7 48] [6,7])
.ret)
def zny:ACode:=(.seq (rg [mV 6 (cI 0),
mV 7 cF] [0,1,2])
(.seq (rg [mV 12 0,
lN 13 12,
mV 8 13] [0,1,2,8])
(.seq (rg [mV 14 8,
mV 9 (cI 0),
mV 10 14] [0,1,2,8,9,10])
(.seq (.block 0 (.loop znz))
zn0))))
def zbH:AFun:=⟨3,[.t 6,.t 7],zny,false,false⟩
def zn2:ACode:=.pr [0,3,4,5] (rg [mV 33 5,
bN 34 .add 33 (cI 1),
mV 5 34] [0,3,4,5])
def zn3:ACode:=.pr [0,3,4,5] (.seq (.seq (rg [mV 29 5,
mV 30 4,
lN 31 30,
bN 32 .lss 29 31] [0,3,4,5,32])
(.cond 32 .skip
(.exit 2)))
(.seq (.block 3 (.seq (dr [dF (mV 35 4) [4],
dF (mV 36 5) [5],
dF (iA 37 none 35 36) [35,36],
dF (lD 38 none 37) [37],
dF (mV 39 4) [4],
dF (mV 40 5) [5],
dF (bN 41 .sub 40 (cI 1)) [40],
dF (iA 42 none 39 41) [39,41],
dF (lD 43 none 42) [42],
dF (bN 44 .neq 38 43) [38,43]] [0,3,4,5,44])
(.cond 44 (.seq (rg [mV 45 0,
mV 46 3,
mV 47 4,
mV 48 5,
iA 49 none 47 48,
lD 50 none 49,
iA 51 none 45 46,
wO (.store none 51 50)] [0,3,4,5])
(rg [mV 52 3,
bN 53 .add 52 (cI 1),
mV 3 53] [0,3,4,5]))
.skip)))
zn2))
def zn4:ACode:=.pr [0,3] (.seq (rg [mV 54 0,
mV 55 3,
uO 56 (.slice none 54 (some 55) none none),
wO (.clr none (.str []) 56)] [0,3])
(.seq (rg [mV 57 0,
mV 58 3,
uO 59 (.slice none 57 none (some 58) none),
mV 2 59] [2])
.ret))
def zn5:ACode:=.pr [0,3] (rg [mV 14 3,
bN 15 .add 14 (cI 1),
mV 3 15] [0,3])
def zn6:ACode:=.pr [0,3] (.seq (.seq (rg [mV 10 3,
mV 11 0,
lN 12 11,
bN 13 .lss 10 12] [0,3,13])
(.cond 13 .skip
(.exit 0)))
(.seq (.block 1 (.seq (dr [dF (mV 16 0) [0],
dF (mV 17 3) [3],
dF (iA 18 none 16 17) [16,17],
dF (lD 19 none 18) [18],
dF (mV 20 0) [0],
dF (mV 21 3) [3],
dF (bN 22 .sub 21 (cI 1)) [21],
dF (iA 23 none 20 22) [20,22],
dF (lD 24 none 23) [23],
dF (bN 25 .eql 19 24) [19,24]] [0,3,25])
(.cond 25 (.seq (rg [mV 26 0,
mV 27 3,
uO 28 (.slice none 26 (some 27) none none),
mV 4 28] [0,3,4])
(.seq (.seq (rg [mV 5 (cI 1)] [0,3,4,5])
(.block 2 (.loop zn3)))
zn4))
.skip)))
zn5))
def zn7:ACode:=.pr [0] (.seq (rg [mV 60 0,
mV 2 60] [2])
.ret)
def zn1:ACode:=(.seq (rg [mV 2 (.c (.p (.sl none [])))] [0])
(.seq (.seq (rg [mV 6 0,
lN 7 6,
bN 8 .lss 7 (cI 2)] [0,8])
(.cond 8 (.seq (rg [mV 9 0,
mV 2 9] [2])
.ret)
.skip))
(.seq (.seq (rg [mV 3 (cI 1)] [0,3])
(.block 0 (.loop zn6)))
zn7)))
def zbI:AFun:=⟨1,[.t 2],zn1,true,false⟩
def zn8:ACode:=(.seq (rg [mV 4 cF] [0,1])
(.seq (rg [mV 5 0,
mV 6 1,
cL 7 z6F [5,6],
bN 8 .geq 7 (cI 0),
mV 4 8] [4])
.ret))
def zbJ:AFun:=⟨2,[.t 4],zn8,true,false⟩
def zn9:ACode:=(.seq (rg [mV 4 cF] [0,1])
(.seq (rg [mV 5 0,
mV 6 1,
cL 7 z6G [5,6],
bN 8 .geq 7 (cI 0),
mV 4 8] [4])
.ret))
def zbK:AFun:=⟨2,[.t 4],zn9,true,false⟩
def znA:ACode:=(.seq (rg [mV 4 cF] [0,1])
(.seq (rg [mV 5 0,
mV 6 1,
cL 7 z0z [5,6],
bN 8 .geq 7 (cI 0),
mV 4 8] [4])
.ret))
def zbL:AFun:=⟨2,[.t 4],znA,true,false⟩
def znC:ACode:=.pr [0,1,7,8] (.seq (rg [bN 9 .lss 8 7] [0,1,7,8,9])
(.seq (.cond 9 .skip
(.exit 0))
(.seq (.block 1 (.seq (rg [mV 10 8,
mV 5 10] [0,1,5,7,8])
(.seq (rg [mV 11 1,
mV 12 0,
mV 13 5,
iA 14 (some 4) 12 13,
lD 15 (some 4) 14,
uO 16 (.callv 11 [15])] [0,1,5,7,8,16])
(.cond 16 (.seq (rg [mV 17 5,
mV 4 17] [4])
.ret)
.skip))))
(rg [bN 18 .add 8 (cI 1),
mV 8 18] [0,1,7,8]))))
def znD:ACode:=.pr [] (.seq (rg [mV 4 (cI (-1))] [4])
.ret)
def znB:ACode:=(.seq (rg [mV 4 (cI 0)] [0,1])
(.seq (.seq (rg [mV 6 0,
lN 7 6,
mV 8 (cI 0)] [0,1,7,8])
(.block 0 (.loop znC)))
znD))
def zbM:AFun:=⟨2,[.t 4],znB,true,false⟩
def znF:ACode:=.pr [0,1,7,8] (.seq (rg [bN 9 .lss 8 7] [0,1,7,8,9])
(.seq (.cond 9 .skip
(.exit 0))
(.seq (.block 1 (.seq (rg [mV 10 8,
mV 5 10] [0,1,5,7,8])
(.seq (rg [mV 11 1,
mV 12 0,
mV 13 5,
iA 14 none 12 13,
lD 15 none 14,
uO 16 (.callv 11 [15])] [0,1,5,7,8,16])
(.cond 16 (.seq (rg [mV 17 5,
mV 4 17] [4])
.ret)
.skip))))
(rg [bN 18 .add 8 (cI 1),
mV 8 18] [0,1,7,8]))))
def znG:ACode:=.pr [] (.seq (rg [mV 4 (cI (-1))] [4])
.ret)
def znE:ACode:=(.seq (rg [mV 4 (cI 0)] [0,1])
(.seq (.seq (rg [mV 6 0,
lN 7 6,
mV 8 (cI 0)] [0,1,7,8])
(.block 0 (.loop znF)))
znG))
def zbN:AFun:=⟨2,[.t 4],znE,true,false⟩
def znI:ACode:=.pr [0,1,7,8] (.seq (rg [bN 9 .lss 8 7] [0,1,7,8,9])
(.seq (.cond 9 .skip
(.exit 0))
(.seq (.block 1 (.seq (rg [mV 10 8,
mV 5 10] [0,1,5,7,8])
(.seq (rg [mV 11 1,
mV 12 0,
mV 13 5,
iA 14 none 12 13,
lD 15 none 14,
bN 16 .eql 11 15] [0,1,5,7,8,16])
(.cond 16 (.seq (rg [mV 17 5,
mV 4 17] [4])
.ret)
.skip))))
(rg [bN 18 .add 8 (cI 1),
mV 8 18] [0,1,7,8]))))
def znJ:ACode:=.pr [] (.seq (rg [mV 4 (cI (-1))] [4])
.ret)
def znH:ACode:=(.seq (rg [mV 4 (cI 0)] [0,1])
(.seq (.seq (rg [mV 6 0,
lN 7 6,
mV 8 (cI 0)] [0,1,7,8])
(.block 0 (.loop znI)))
znJ))
def zbO:AFun:=⟨2,[.t 4],znH,true,false⟩
def znL:ACode:=.pr [0,9,10,11] (.seq (rg [bN 12 .lss 11 10] [0,9,10,11,12])
(.seq (.cond 12 .skip
(.exit 0))
(.seq (.block 1 (.seq (rg [mV 13 11,
iA 14 (some 8) 9 11,
lD 15 (some 8) 14,
uO 4 (.alloc [.p (.str []),.p (.int .i64 0),.p (.int .i64 0),.p (.int .i64 0),.p (.str []),.p (.str []),.p (.str []),.p (.int .i64 0)]),
mV 3 13,
wO (.store (some 8) 4 15)] [0,3,4,9,10,11])
(.seq (.seq (rg [lD 16 (some 8) 4,
cL 17 z6M [16],
mV 5 17] [0,3,4,5,9,10,11])
(.seq (rg [mV 18 5,
bN 19 .neq 18 (cI 0)] [0,3,4,5,9,10,11,19])
(.cond 19 (.seq (rg [mV 20 5,
mV 2 20] [2])
.ret)
.skip)))
(.seq (dr [dF (mV 21 3) [3],
dF (bN 22 .gtr 21 (cI 0)) [21],
dF (mV 23 22) [22],
dF (gD 24 23 true (.load (some 8) 4)) [4,23],
dF (gD 25 23 true (.mv 0)) [0,23],
dF (gD 26 23 true (.mv 3)) [3,23],
dF (gD 27 23 true (.bin .sub 26 (cI 1))) [26,23],
dF (gD 28 23 true (.iaddr (some 8) 25 27)) [25,27,23],
dF (gD 29 23 true (.load (some 8) 28)) [28,23],
dT (gD 30 23 true (.call z6K [24,29])) [24,29,23],
dF (gD 31 23 true (.bin .leq 30 (cI 0))) [30,23],
dF (uO 32 (.pick 23 31 cF)) [23,31]] [0,9,10,11,32])
(.cond 32 (.seq (rg [mV 2 (cI 7)] [2])
.ret)
.skip)))))
(rg [bN 33 .add 11 (cI 1),
mV 11 33] [0,9,10,11]))))
def znM:ACode:=.pr [0] (.seq (.seq (rg [mV 34 0,
cL 35 z6U [34]] [35])
(.cond 35 (.seq (rg [mV 2 (cI 6)] [2])
.ret)
.skip))
(.seq (rg [mV 2 (cI 0)] [2])
.ret))
def znK:ACode:=(.seq (rg [mV 2 (cI 0)] [0])
(.seq (.seq (rg [mV 6 0,
lN 7 6,
bN 8 .gtr 7 (cI 2000)] [0,8])
(.cond 8 (.seq (rg [mV 2 (cI 2)] [2])
.ret)
.skip))
(.seq (.seq (rg [mV 9 0,
lN 10 9,
mV 11 (cI 0)] [0,9,10,11])
(.block 0 (.loop (.scope znL))))
znM)))
def zbP:AFun:=⟨1,[.t 2],znK,false,false⟩
def znO:ACode:=.pr [1,16,17,18] (.seq (rg [bN 19 .lss 18 17] [1,16,17,18,19])
(.seq (.cond 19 .skip
(.exit 1))
(.seq (.block 2 (.seq (rg [mV 20 18,
iA 21 none 16 18,
lD 22 none 21,
mV 3 20,
mV 4 22] [1,3,4,16,17,18])
(.block 3 (.seq (rg [mV 24 4,
cL 25 UD [24],
uO 26 (.un .not 25),
mV 23 26] [1,3,4,16,17,18,23])
(.cond 23 (.seq (rg [mV 2 (cI 5)] [2])
.ret)
(.seq (rg [fA 28 0 none 1,
lD 29 none 28,
mV 30 3,
uO 31 (.slice none 29 none (some 30) none),
mV 32 4,
cL 33 z0y [31,32],
mV 27 33] [1,16,17,18,27])
(.cond 27 (.seq (rg [mV 2 (cI 6)] [2])
.ret)
.skip)))))))
(rg [bN 34 .add 18 (cI 1),
mV 18 34] [1,16,17,18]))))
def znP:ACode:=.pr [1] (.seq (.seq (rg [fA 35 1 none 1,
lD 36 none 35,
cL 37 gC [36,(cI 1),(cI 10)]] [37])
(.cond 37 (.seq (rg [mV 2 (cI 1)] [2])
.ret)
.skip))
(.seq (rg [mV 2 (cI 0)] [2])
.ret))
def znN:ACode:=(.seq (rg [uO 1 (.box 0),
mV 2 (cI 0)] [1])
(.seq (.block 0 (.seq (rg [fA 6 0 none 1,
lD 7 none 6,
lN 8 7,
bN 9 .eql 8 (cI 0),
mV 5 9] [1,5])
(.cond 5 (.seq (rg [mV 2 (cI 8)] [2])
.ret)
(.seq (rg [fA 11 0 none 1,
lD 12 none 11,
lN 13 12,
bN 14 .gtr 13 (cI 20),
mV 10 14] [1,10])
(.cond 10 (.seq (rg [mV 2 (cI 2)] [2])
.ret)
.skip)))))
(.seq (.seq (rg [fA 15 0 none 1,
lD 16 none 15,
lN 17 16,
mV 18 (cI 0)] [1,16,17,18])
(.block 1 (.loop znO)))
znP)))
def zbQ:AFun:=⟨1,[.t 2],znN,false,false⟩
def znQ:ACode:=(.seq (rg [uO 4 (.box 0),
uO 8 (.alloc [.p (.int .i64 0),.p (.int .i64 0),.p (.str []),.p (.str []),.p (.int .i64 0)]),
mV 9 (cI 0)] [1,2,3,4,8])
(.seq (.seq (rg [lD 12 (some 2) 4,
mV 13 1,
mV 14 3,
cL 15 z6N [12,13,14],
mV 10 15] [1,2,3,4,8,10])
(.seq (rg [mV 16 10,
bN 17 .neq 16 (cI 0)] [1,2,3,4,8,10,17])
(.cond 17 (.seq (rg [uO 18 (.build [.p (.int .i64 0),.p (.int .i64 0),.p (.str []),.p (.str []),.p (.int .i64 0)] []),
mV 19 10,
wO (.store (some 5) 8 18),
mV 9 19] [8,9])
.ret)
.skip)))
(.seq (.seq (rg [mV 20 2,
cL 21 UD [20],
uO 22 (.un .not 21)] [1,2,3,4,8,22])
(.cond 22 (.seq (rg [uO 23 (.build [.p (.int .i64 0),.p (.int .i64 0),.p (.str []),.p (.str []),.p (.int .i64 0)] []),
wO (.store (some 5) 8 23),
mV 9 (cI 5)] [8,9])
.ret)
.skip))
(.seq (dr [dF (lD 24 (some 2) 4) [4],
dF (mV 25 1) [1],
dF (mV 26 3) [3],
dA (cL 27 z6V [25,26]) [25,26] true [] [0],
dT (cL 28 z6S [24,27]) [24,27],
dF (uO 29 (.nilchk 28)) [28],
dF (fA 30 2 none 29) [29],
dF (lD 31 none 30) [30],
dF (mV 32 2) [2],
dF (uO 33 (.look (none,[2]) false (.nilp) 31 32)) [31,32],
dF (mV 11 33) [33]] [8,11])
(.seq (.seq (rg [mV 34 11,
uO 35 (.isnil 0 false 34)] [8,11,35])
(.cond 35 (.seq (rg [uO 36 (.build [.p (.int .i64 0),.p (.int .i64 0),.p (.str []),.p (.str []),.p (.int .i64 0)] []),
wO (.store (some 5) 8 36),
mV 9 (cI 8)] [8,9])
.ret)
.skip))
(.seq (rg [mV 37 11,
uO 38 (.nilchk 37),
lD 39 (some 5) 38,
wO (.store (some 5) 8 39),
mV 9 (cI 0)] [8,9])
.ret))))))
def zbR:AFun:=⟨4,[.cell 8 (some 5),.t 9],znQ,false,false⟩
def znR:ACode:=(.seq (rg [uO 2 (.box 0),
uO 3 (.box 1),
mV 4 (cI 0)] [2,3])
(.seq (dr [dF (fA 5 2 none 2) [2],
dF (lD 6 none 5) [5],
dF (fA 7 2 none 3) [3],
dF (lD 8 none 7) [7],
dT (cL 9 z0u [6,8]) [6,8],
dF (fA 10 0 none 2) [2],
dA (lD 11 none 10) [10] false [4] [],
dF (fA 12 0 none 3) [3],
dA (lD 13 none 12) [12] false [4] [],
dT (cL 14 SK [11,13]) [11,13],
dF (fA 15 1 none 2) [2],
dA (lD 16 none 15) [15] false [4,9] [],
dF (fA 17 1 none 3) [3],
dA (lD 18 none 17) [17] false [4,9] [],
dT (cL 19 z0u [16,18]) [16,18],
dF (uO 20 (.bsl false none 3 (.int .i64 0) [(0,9),(1,14),(2,19)])) [9,14,19],
dT (cL 21 z0v [20]) [20],
dF (mV 4 21) [21]] [4])
.ret))
def zbS:AFun:=⟨2,[.t 4],znR,false,false⟩
end Go.Am
end
section
/- The functions asv abstract code,and asv formulas over their values: printed by program out of the translation. -/
set_option linter.all false
set_option maxRecDepth 100000
namespace Go.Am
def znT:ACode:=.pr [0,3,4,5] (rg [mV 16 5,
bN 17 .sub 16 (cI 1),
mV 5 17] [0,3,4,5])
def znU:ACode:=.pr [0,3,4,5] (.seq (.seq (rg [mV 14 5,
bN 15 .geq 14 (cI 0)] [0,3,4,5,15])
(.cond 15 .skip
(.exit 0)))
(.seq (.block 1 (.seq (rg [mV 18 0,
mV 19 5,
iA 20 (some 8) 18 19,
lD 21 (some 8) 20,
uO 6 (.alloc [.p (.str []),.p (.int .i64 0),.p (.int .i64 0),.p (.int .i64 0),.p (.str []),.p (.str []),.p (.str []),.p (.int .i64 0)]),
wO (.store (some 8) 6 21)] [0,3,4,5,6])
(.seq (rg [mV 22 4,
mV 23 5,
mV 24 3,
fA 25 0 none 6,
lD 26 none 25,
fA 27 1 none 6,
lD 28 none 27,
uO 29 (.build [.p (.str []),.p (.int .i64 0)] [(0,1,26),(1,1,28)]),
uO 30 (.look ((some 2),[2,0]) false (AB false) 24 29),
uO 31 (.un .not 30),
iA 32 none 22 23,
wO (.store none 32 31)] [0,3,4,5,6])
(.seq (rg [mV 33 4,
mV 34 5,
iA 35 none 33 34,
lD 36 none 35,
mV 37 36,
gD 38 37 true (.faddr 3 none 6),
gD 39 37 true (.load none 38),
gD 40 37 true (.bin .eql 39 (cI 7)),
uO 41 (.pick 37 40 cF)] [0,3,4,5,6,41])
(.cond 41 (rg [mV 42 3,
fA 43 6 none 6,
lD 44 none 43,
fA 45 7 none 6,
lD 46 none 45,
uO 47 (.build [.p (.str []),.p (.int .i64 0)] [(0,1,44),(1,1,46)]),
wO (.mupd ((some 2),[2,0]) 42 47 cT)] [0,3,4,5])
.skip)))))
znT))
def znV:ACode:=.pr [4] (.seq (rg [mV 48 4,
mV 2 48] [2])
.ret)
def znS:ACode:=(.seq (rg [mV 2 (.c (.p (.sl none [])))] [0])
(.seq (rg [uO 7 (.mkmap),
mV 3 7] [0,3])
(.seq (rg [mV 8 0,
lN 9 8,
uO 10 (.mksl none (.bool false) 9 9),
mV 4 10] [0,3,4])
(.seq (.seq (rg [mV 11 0,
lN 12 11,
bN 13 .sub 12 (cI 1),
mV 5 13] [0,3,4,5])
(.block 0 (.loop (.scope znU))))
znV))))
def zbT:AFun:=⟨1,[.t 2],znS,false,false⟩
def znW:ACode:=(.seq (rg [uO 1 (.box 0),
mV 2 (cI 0)] [1])
(.seq (dr [dF (fA 5 3 none 1) [1],
dF (lD 6 none 5) [5],
dF (bN 7 .eql 6 (cI 7)) [6],
dF (fA 8 3 none 1) [1],
dF (lD 9 none 8) [8],
dF (bN 10 .eql 9 (cI 2)) [9],
dF (mV 3 7) [7],
dF (mV 4 10) [10]] [1,3,4])
(.seq (.block 0 (.seq (rg [fA 12 0 none 1,
lD 13 none 12,
cL 14 UD [13],
uO 15 (.un .not 14),
mV 11 15] [1,3,4,11])
(.cond 11 (.seq (rg [mV 2 (cI 5)] [2])
.ret)
(.seq (rg [fA 17 1 none 1,
lD 18 none 17,
cL 19 gC [18,(cI 1),(cI 1000000)],
mV 20 19,
gD 21 20 false (.faddr 2 none 1),
gD 22 20 false (.load none 21),
gD 23 20 false (.call z0t [22]),
gD 24 20 false (.un .not 23),
uO 25 (.pick 20 cT 24),
mV 16 25] [1,3,4,16])
(.cond 16 (.seq (rg [mV 2 (cI 1)] [2])
.ret)
(.seq (rg [fA 27 3 none 1,
lD 28 none 27,
cL 29 gC [28,(cI 1),(cI 7)],
mV 26 29] [1,3,4,26])
(.cond 26 (.seq (rg [mV 2 (cI 4)] [2])
.ret)
(.seq (rg [mV 31 3,
uO 32 (.un .not 31),
mV 33 32,
gD 34 33 true (.faddr 4 none 1),
gD 35 33 true (.load none 34),
gD 36 33 true (.call UD [35]),
gD 37 33 true (.un .not 36),
uO 38 (.pick 33 37 cF),
mV 39 38,
gD 40 39 false (.mv 4),
gD 41 39 false (.mv 40),
gD 42 41 true (.faddr 5 none 1),
gD 43 41 true (.load none 42),
gD 44 41 true (.call UD [43]),
gD 45 41 true (.un .not 44),
gD 46 39 false (.pick 41 45 cF),
uO 47 (.pick 39 cT 46),
mV 48 47,
gD 49 48 false (.mv 3),
gD 50 48 false (.mv 49),
gD 51 50 true (.faddr 6 none 1),
gD 52 50 true (.load none 51),
gD 53 50 true (.call UD [52]),
gD 54 50 true (.un .not 53),
gD 55 48 false (.pick 50 54 cF),
uO 56 (.pick 48 cT 55),
mV 30 56] [1,3,4,30])
(.cond 30 (.seq (rg [mV 2 (cI 5)] [2])
.ret)
(.seq (rg [mV 58 3,
mV 59 58,
gD 60 59 true (.faddr 7 none 1),
gD 61 59 true (.load none 60),
gD 62 59 true (.call gC [61,(cI 1),(cI 1000000)]),
uO 63 (.pick 59 62 cF),
mV 57 63] [1,3,4,57])
(.cond 57 (.seq (rg [mV 2 (cI 1)] [2])
.ret)
(.seq (rg [mV 65 3,
mV 66 65,
gD 67 66 true (.faddr 4 none 1),
gD 68 66 true (.load none 67),
gD 69 66 true (.bin .neq 68 (cS [])),
uO 70 (.pick 66 69 cF),
mV 71 70,
gD 72 71 false (.mv 4),
gD 73 71 false (.un .not 72),
gD 74 71 false (.mv 73),
gD 75 74 true (.faddr 5 none 1),
gD 76 74 true (.load none 75),
gD 77 74 true (.bin .neq 76 (cS [])),
gD 78 71 false (.pick 74 77 cF),
uO 79 (.pick 71 cT 78),
mV 80 79,
gD 81 80 false (.mv 3),
gD 82 80 false (.un .not 81),
gD 83 80 false (.mv 82),
gD 84 83 true (.faddr 6 none 1),
gD 85 83 true (.load none 84),
gD 86 83 true (.bin .neq 85 (cS [])),
gD 87 83 true (.mv 86),
gD 88 87 false (.faddr 7 none 1),
gD 89 87 false (.load none 88),
gD 90 87 false (.bin .neq 89 (cI 0)),
gD 91 83 true (.pick 87 cT 90),
gD 92 80 false (.pick 83 91 cF),
uO 93 (.pick 80 cT 92),
mV 64 93] [64])
(.cond 64 (.seq (rg [mV 2 (cI 3)] [2])
.ret)
.skip)))))))))))))
(.seq (rg [mV 2 (cI 0)] [2])
.ret))))
def zbU:AFun:=⟨1,[.t 2],znW,false,false⟩
def znX:ACode:=(.seq (rg [uO 3 (.box 0),
mV 6 (cI 0)] [1,2,3])
(.seq (rg [lD 7 (some 2) 3,
cL 8 z6I [7],
mV 9 1,
cL 10 z6H [9],
mV 11 2,
cL 12 z6T [11],
uO 13 (.bsl false none 3 (.int .i64 0) [(0,8),(1,10),(2,12)]),
cL 14 EH [13],
mV 6 14] [6])
.ret))
def zbV:AFun:=⟨3,[.t 6],znX,false,false⟩
def znY:ACode:=(.seq (rg [mV 4 (cI 0)] [0,1])
(.seq (rg [mV 5 0,
uO 6 (.nilchk 5),
fA 7 0 (some 2) 6,
fA 8 0 none 7,
lD 9 none 8,
mV 10 1,
cL 11 z0z [9,10],
mV 4 11] [4])
.ret))
def zbW:AFun:=⟨2,[.t 4],znY,false,false⟩
def zoa:ACode:=.pr [] (.seq (rg [mV 6 (cI 0)] [6])
.ret)
def zob:ACode:=.pr [] (.seq (rg [mV 6 (cI 0)] [6])
.ret)
def zoc:ACode:=.pr [0,1] (.seq (rg [mV 98 1,
uO 99 (.nilchk 98),
fA 100 4 none 99,
lD 101 none 100,
bN 102 .add 101 (cI 1),
uO 103 (.nilchk 98),
fA 104 4 none 103,
wO (.store none 104 102)] [0,1])
(.seq (rg [mV 105 1,
uO 106 (.nilchk 105),
fA 107 0 none 106,
wO (.store none 107 (cI 3))] [0,1])
(.seq (.seq (dr [dF (mV 108 1) [1],
dF (uO 109 (.nilchk 108)) [108],
dF (fA 110 4 none 109) [109],
dF (lD 111 none 110) [110],
dF (mV 112 0) [0],
dF (uO 113 (.nilchk 112)) [112],
dF (fA 114 0 (some 2) 113) [113],
dF (fA 115 1 none 114) [114],
dF (lD 116 none 115) [115],
dF (bN 117 .eql 111 116) [111,116]] [1,117])
(.cond 117 (rg [mV 118 1,
uO 119 (.nilchk 118),
fA 120 0 none 119,
wO (.store none 120 (cI 5))] [])
.skip))
zob)))
def znZ:ACode:=(.seq (rg [uO 5 (.box 2),
mV 6 (cI 0)] [0,1,5])
(.seq (.block 0 (.seq (rg [mV 10 1,
uO 11 (.nilchk 10),
fA 12 0 none 11,
lD 13 none 12,
bN 14 .neq 13 (cI 2),
mV 9 14] [0,1,5,9])
(.cond 9 (.seq (rg [mV 6 (cI 11)] [6])
.ret)
(.seq (dr [dF (mV 16 1) [1],
dF (uO 17 (.nilchk 16)) [16],
dF (fA 18 3 none 17) [17],
dF (lD 19 none 18) [18],
dF (fA 20 0 none 5) [5],
dF (lD 21 none 20) [20],
dF (bN 22 .neq 19 21) [19,21],
dF (mV 15 22) [22]] [0,1,5,15])
(.cond 15 (.seq (rg [mV 6 (cI 13)] [6])
.ret)
.skip)))))
(.seq (rg [fA 23 3 none 5,
lD 24 none 23,
bN 25 .eql 24 (cI 3),
mV 7 25] [0,1,5,7])
(.seq (dr [dF (mV 26 0) [0],
dF (mV 27 0) [0],
dF (uO 28 (.nilchk 27)) [27],
dF (fA 29 4 none 28) [28],
dF (lD 30 none 29) [29],
dF (fA 31 4 none 5) [5],
dF (lD 32 none 31) [31],
dF (mV 33 1) [1],
dF (uO 34 (.nilchk 33)) [33],
dF (fA 35 2 none 34) [34],
dF (lD 36 none 35) [35],
dF (mV 37 1) [1],
dF (uO 38 (.nilchk 37)) [37],
dF (fA 39 1 none 38) [38],
dF (lD 40 none 39) [39],
dF (fA 41 2 none 5) [5],
dF (lD 42 none 41) [41],
dF (mV 43 7) [7],
dF (uO 44 (.build [.p (.str []),.p (.str []),.p (.int .i64 0),.p (.int .i64 0),.p (.bool false)] [(0,1,32),(1,1,36),(2,1,40),(3,1,42),(4,1,43)])) [32,36,40,42,43],
dF (uO 45 (.bsl false (some 5) 1 (.agg [.str [],.str [],.int .i64 0,.int .i64 0,.bool false]) [(0,44)])) [44],
dT (uO 46 (.app (some 5) 30 45)) [30,45],
dF (uO 47 (.nilchk 26)) [26],
dF (fA 48 4 none 47) [47],
dT (wO (.store none 48 46)) [48,46]] [0,1,5,7])
(.seq (rg [mV 49 0,
mV 50 1,
fA 51 2 none 5,
lD 52 none 51,
cL 53 z00 [49,50,52]] [0,1,5,7])
(.seq (rg [mV 54 1,
fA 55 2 none 5,
lD 56 none 55,
uO 57 (.nilchk 54),
fA 58 1 none 57,
wO (.store none 58 56)] [0,1,7])
(.seq (.seq (rg [mV 59 7] [0,1,59])
(.cond 59 (.seq (rg [mV 60 1,
uO 61 (.nilchk 60),
fA 62 4 none 61,
wO (.store none 62 (cI 0))] [0,1])
(.seq (rg [mV 63 0,
mV 64 1,
uO 65 (.nilchk 64),
fA 66 2 none 65,
lD 67 none 66,
cL 68 z6O [63,67],
bN 69 .add 68 (cI 1),
mV 8 69] [0,1,8])
(.seq (.seq (rg [mV 70 8,
mV 71 0,
uO 72 (.nilchk 71),
fA 73 0 (some 2) 72,
fA 74 0 none 73,
lD 75 none 74,
lN 76 75,
bN 77 .eql 70 76] [0,1,8,77])
(.cond 77 (rg [mV 78 1,
mV 79 1,
uO 80 (.nilchk 78),
fA 81 0 none 80,
wO (.store none 81 (cI 4)),
uO 82 (.nilchk 79),
fA 83 2 none 82,
wO (.store none 83 (cS []))] [])
(rg [mV 84 1,
mV 85 1,
mV 86 0,
uO 87 (.nilchk 86),
fA 88 0 (some 2) 87,
fA 89 0 none 88,
lD 90 none 89,
mV 91 8,
iA 92 none 90 91,
lD 93 none 92,
uO 94 (.nilchk 84),
fA 95 0 none 94,
wO (.store none 95 (cI 1)),
uO 96 (.nilchk 85),
fA 97 2 none 96,
wO (.store none 97 93)] [])))
zoa)))
.skip))
zoc)))))))
def zbX:AFun:=⟨3,[.t 6],znZ,false,false⟩
def zoe:ACode:=.pr [0,1,2,11,12] (rg [bN 47 .add 12 (cI 1),
mV 12 47] [0,1,2,11,12])
def zof:ACode:=.pr [0,1,2,11,12] (.seq (rg [bN 13 .lss 12 11] [0,1,2,11,12,13])
(.seq (.cond 13 .skip
(.exit 0))
(.seq (.block 1 (.seq (rg [mV 14 12,
mV 6 14] [0,1,2,6,11,12])
(.seq (dr [dF (mV 15 0) [0],
dF (uO 16 (.nilchk 15)) [15],
dF (fA 17 5 none 16) [16],
dF (lD 18 none 17) [17],
dF (mV 19 6) [6],
dF (iA 20 (some 3) 18 19) [18,19],
dF (fA 21 0 none 20) [20],
dF (lD 22 none 21) [21],
dF (mV 23 1) [1],
dF (uO 24 (.nilchk 23)) [23],
dF (fA 25 3 none 24) [24],
dF (lD 26 none 25) [25],
dF (bN 27 .eql 22 26) [22,26],
dF (mV 28 27) [27],
dF (gD 29 28 true (.mv 0)) [0,28],
dF (gD 30 28 true (.nilchk 29)) [29,28],
dF (gD 31 28 true (.faddr 5 none 30)) [30,28],
dF (gD 32 28 true (.load none 31)) [31,28],
dF (gD 33 28 true (.mv 6)) [6,28],
dF (gD 34 28 true (.iaddr (some 3) 32 33)) [32,33,28],
dF (gD 35 28 true (.faddr 2 none 34)) [34,28],
dF (gD 36 28 true (.load none 35)) [35,28],
dF (gD 37 28 true (.bin .lss 36 (cI 0))) [36,28],
dF (uO 38 (.pick 28 37 cF)) [28,37]] [0,1,2,6,11,12,38])
(.cond 38 (rg [mV 39 0,
uO 40 (.nilchk 39),
fA 41 5 none 40,
lD 42 none 41,
mV 43 6,
mV 44 2,
iA 45 (some 3) 42 43,
fA 46 2 none 45,
wO (.store none 46 44)] [0,1,2,11,12])
.skip))))
zoe)))
def zog:ACode:=.pr [0,1] (.seq (dr [dF (mV 48 0) [0],
dF (uO 49 (.nilchk 48)) [48],
dF (fA 50 3 none 49) [49],
dF (lD 51 none 50) [50],
dF (mV 52 1) [1],
dF (uO 53 (.nilchk 52)) [52],
dF (fA 54 3 none 53) [53],
dF (lD 55 none 54) [54],
dT (wO (.mdel (none,[2]) 51 55)) [51,55]] [1])
(rg [mV 56 1,
uO 57 (.nilchk 56),
fA 58 3 none 57,
wO (.store none 58 (cS []))] []))
def zod:ACode:=(.seq (.seq (rg [mV 7 0,
uO 8 (.nilchk 7),
fA 9 5 none 8,
lD 10 none 9,
lN 11 10,
mV 12 (cI 0)] [0,1,2,11,12])
(.block 0 (.loop zof)))
zog)
def zbY:AFun:=⟨3,[],zod,false,false⟩
def zoh:ACode:=(.seq (rg [uO 5 (.box 2),
mV 6 (cI 0)] [0,1,5])
(.seq (dr [dF (mV 10 0) [0],
dF (uO 11 (.nilchk 10)) [10],
dF (fA 12 3 none 11) [11],
dF (lD 13 none 12) [12],
dF (fA 14 0 none 5) [5],
dF (lD 15 none 14) [14],
dF (uO 16 (.look (none,[2]) true (.p (.str [])) 13 15)) [13,15],
dF (mV 9 16) [16],
dF (eX 17 9 0) [9],
dF (eX 18 9 1) [9],
dF (mV 7 17) [17],
dF (mV 8 18) [18]] [0,1,5,8])
(.seq (.block 0 (.seq (rg [mV 20 1,
uO 21 (.nilchk 20),
fA 22 0 none 21,
lD 23 none 22,
bN 24 .neq 23 (cI 1),
mV 19 24] [0,1,5,8,19])
(.cond 19 (.seq (rg [mV 6 (cI 11)] [6])
.ret)
(.seq (dr [dF (fA 26 5 none 5) [5],
dF (lD 27 none 26) [26],
dF (mV 28 1) [1],
dF (uO 29 (.nilchk 28)) [28],
dF (fA 30 2 none 29) [29],
dF (lD 31 none 30) [30],
dF (bN 32 .neq 27 31) [27,31],
dF (mV 25 32) [32]] [0,1,5,8,25])
(.cond 25 (.seq (rg [mV 6 (cI 3)] [6])
.ret)
(.seq (rg [mV 34 8,
mV 33 34] [0,1,5,33])
(.cond 33 (.seq (rg [mV 6 (cI 12)] [6])
.ret)
.skip)))))))
(.seq (dr [dF (mV 35 1) [1],
dF (mV 36 1) [1],
dF (mV 37 1) [1],
dF (fA 38 2 none 5) [5],
dF (lD 39 none 38) [38],
dF (fA 40 0 none 5) [5],
dF (lD 41 none 40) [40],
dF (uO 42 (.nilchk 35)) [35],
dF (fA 43 0 none 42) [42],
dA (wO (.store none 43 (cI 2))) [43] true [] [4,6],
dF (uO 44 (.nilchk 36)) [36],
dF (fA 45 1 none 44) [44],
dA (wO (.store none 45 39)) [45,39] true [] [6],
dF (uO 46 (.nilchk 37)) [37],
dF (fA 47 3 none 46) [46],
dT (wO (.store none 47 41)) [47,41]] [0,5])
(.seq (dr [dF (mV 48 0) [0],
dF (uO 49 (.nilchk 48)) [48],
dF (fA 50 3 none 49) [49],
dF (lD 51 none 50) [50],
dF (fA 52 0 none 5) [5],
dF (lD 53 none 52) [52],
dF (fA 54 4 none 5) [5],
dF (lD 55 none 54) [54],
dT (wO (.mupd (none,[2]) 51 53 55)) [51,53,55]] [0,5])
(.seq (dr [dF (mV 56 0) [0],
dF (mV 57 0) [0],
dF (uO 58 (.nilchk 57)) [57],
dF (fA 59 5 none 58) [58],
dF (lD 60 none 59) [59],
dF (fA 61 0 none 5) [5],
dF (lD 62 none 61) [61],
dF (fA 63 2 none 5) [5],
dF (lD 64 none 63) [63],
dF (uO 65 (.build [.p (.str []),.p (.int .i64 0),.p (.int .i64 0)] [(0,1,62),(1,1,64),(2,1,(cI (-1)))])) [62,64],
dF (uO 66 (.bsl false (some 3) 1 (.agg [.str [],.int .i64 0,.int .i64 0]) [(0,65)])) [65],
dT (uO 67 (.app (some 3) 60 66)) [60,66],
dF (uO 68 (.nilchk 56)) [56],
dF (fA 69 5 none 68) [68],
dT (wO (.store none 69 67)) [69,67]] [])
(.seq (rg [mV 6 (cI 0)] [6])
.ret)))))))
def zbZ:AFun:=⟨3,[.t 6],zoh,false,false⟩
def zoj:ACode:=.pr [0,3,5,38,45] (.cond 45 (.seq (rg [mV 48 0,
mV 49 5,
lD 50 (some 8) 3,
cL 51 z6P [48,49,50],
mV 4 51] [4])
.ret)
(.seq (rg [bN 53 .eql 38 (cI 5),
mV 52 53] [0,3,5,52])
(.cond 52 (.seq (.seq (rg [mV 54 5,
uO 55 (.nilchk 54),
fA 56 0 none 55,
lD 57 none 56,
bN 58 .neq 57 (cI 3)] [3,5,58])
(.cond 58 (.seq (rg [mV 4 (cI 11)] [4])
.ret)
.skip))
(.seq (dr [dF (mV 59 5) [5],
dF (mV 60 5) [5],
dF (fA 61 2 none 3) [3],
dF (lD 62 none 61) [61],
dF (uO 63 (.nilchk 59)) [59],
dF (fA 64 0 none 63) [63],
dA (wO (.store none 64 (cI 1))) [64] true [] [3],
dF (uO 65 (.nilchk 60)) [60],
dF (fA 66 1 none 65) [65],
dT (wO (.store none 66 62)) [66,62]] [])
(.seq (rg [mV 4 (cI 0)] [4])
.ret)))
.skip)))
def zok:ACode:=.pr [3,5] (.seq (dr [dF (mV 89 5) [5],
dF (mV 90 5) [5],
dF (fA 91 2 none 3) [3],
dF (lD 92 none 91) [91],
dF (uO 93 (.nilchk 89)) [89],
dF (fA 94 0 none 93) [93],
dA (wO (.store none 94 (cI 5))) [94] true [] [3],
dF (uO 95 (.nilchk 90)) [90],
dF (fA 96 1 none 95) [95],
dT (wO (.store none 96 92)) [96,92]] [])
(.seq (rg [mV 4 (cI 0)] [4])
.ret))
def zol:ACode:=.pr [0,3,5] (.seq (.seq (rg [mV 67 5,
uO 68 (.nilchk 67),
fA 69 0 none 68,
lD 70 none 69,
bN 71 .eql 70 (cI 4),
mV 72 71,
gD 73 72 false (.mv 5),
gD 74 72 false (.nilchk 73),
gD 75 72 false (.faddr 0 none 74),
gD 76 72 false (.load none 75),
gD 77 72 false (.bin .eql 76 (cI 5)),
uO 78 (.pick 72 cT 77)] [0,3,5,78])
(.cond 78 (.seq (rg [mV 4 (cI 11)] [4])
.ret)
.skip))
(.seq (.seq (rg [mV 79 5,
uO 80 (.nilchk 79),
fA 81 0 none 80,
lD 82 none 81,
bN 83 .eql 82 (cI 2)] [0,3,5,83])
(.cond 83 (rg [mV 84 0,
mV 85 5,
fA 86 2 none 3,
lD 87 none 86,
cL 88 z00 [84,85,87]] [3,5])
.skip))
zok))
def zoi:ACode:=(.seq (rg [uO 3 (.box 1),
mV 4 (cI 0)] [0,3])
(.seq (dr [dF (mV 6 0) [0],
dF (uO 7 (.nilchk 6)) [6],
dF (fA 8 2 none 7) [7],
dF (lD 9 none 8) [8],
dF (fA 10 4 none 3) [3],
dF (lD 11 none 10) [10],
dF (uO 12 (.look (none,[2]) false (.nilp) 9 11)) [9,11],
dF (mV 5 12) [12]] [0,3,5])
(.seq (.seq (rg [fA 13 3 none 3,
lD 14 none 13,
bN 15 .eql 14 (cI 1)] [0,3,5,15])
(.cond 15 (.seq (.seq (rg [mV 16 5,
uO 17 (.isnil 0 true 16)] [0,3,17])
(.cond 17 (.seq (rg [mV 4 (cI 6)] [4])
.ret)
.skip))
(.seq (dr [dF (mV 18 0) [0],
dF (uO 19 (.nilchk 18)) [18],
dF (fA 20 2 none 19) [19],
dF (lD 21 none 20) [20],
dF (fA 22 4 none 3) [3],
dF (lD 23 none 22) [22],
dF (fA 24 2 none 3) [3],
dF (lD 25 none 24) [24],
dF (mV 26 0) [0],
dF (uO 27 (.nilchk 26)) [26],
dF (fA 28 0 (some 2) 27) [27],
dF (fA 29 0 none 28) [28],
dF (lD 30 none 29) [29],
dF (iA 31 none 30 (cI 0)) [30],
dF (lD 32 none 31) [31],
dF (uO 33 (.build [.p (.int .i64 0),.p (.int .i64 0),.p (.str []),.p (.str []),.p (.int .i64 0)] [(0,1,(cI 1)),(1,1,25),(2,1,32)])) [25,32],
dA (uO 34 (.box 33)) [33] true [] [3,5],
dT (wO (.mupd (none,[2]) 21 23 34)) [21,23,34]] [])
(.seq (rg [mV 4 (cI 0)] [4])
.ret)))
.skip))
(.seq (.seq (rg [mV 35 5,
uO 36 (.isnil 0 false 35)] [0,3,5,36])
(.cond 36 (.seq (rg [mV 4 (cI 8)] [4])
.ret)
.skip))
(.seq (.seq (rg [fA 37 3 none 3,
lD 38 none 37] [0,3,5,38])
(.block 0 (.seq (rg [bN 40 .eql 38 (cI 2),
mV 39 40] [0,3,5,38,39])
(.cond 39 (.seq (rg [mV 41 0,
mV 42 5,
lD 43 (some 8) 3,
cL 44 z6Q [41,42,43],
mV 4 44] [4])
.ret)
(.seq (.seq (rg [bN 46 .eql 38 (cI 3),
mV 45 46] [0,3,5,38,45])
(.cond 45 .skip
(rg [bN 47 .eql 38 (cI 4),
mV 45 47] [0,3,5,38,45])))
zoj)))))
zol)))))
def zca:AFun:=⟨2,[.t 4],zoi,false,false⟩
def zon:ACode:=.pr [5,6,17,18,19] (rg [bN 59 .add 19 (cI 1),
mV 19 59] [5,6,17,18,19])
def zoo:ACode:=.pr [5,6,17,18,19] (.seq (rg [bN 20 .lss 19 18] [5,6,17,18,19,20])
(.seq (.cond 20 .skip
(.exit 0))
(.seq (.block 1 (.seq (rg [mV 21 19,
iA 22 (some 8) 17 19,
lD 23 (some 8) 22,
uO 8 (.alloc [.p (.str []),.p (.int .i64 0),.p (.int .i64 0),.p (.int .i64 0),.p (.str []),.p (.str []),.p (.str []),.p (.int .i64 0)]),
mV 7 21,
wO (.store (some 8) 8 23)] [5,6,7,8,17,18,19])
(.seq (.seq (rg [mV 24 6,
mV 25 7,
iA 26 none 24 25,
lD 27 none 26,
uO 28 (.un .not 27),
mV 29 28,
gD 30 29 false (.faddr 3 none 8),
gD 31 29 false (.load none 30),
gD 32 29 false (.bin .eql 31 (cI 7)),
uO 33 (.pick 29 cT 32)] [5,6,7,8,17,18,19,33])
(.cond 33 (.exit 1)
.skip))
(.seq (rg [mV 34 5,
lD 35 (some 8) 8,
cL 36 z6R [34,35],
mV 9 36] [5,6,7,9,17,18,19])
(.seq (rg [mV 37 9,
bN 38 .neq 37 (cI 0)] [5,6,7,9,17,18,19,38])
(.cond 38 (.seq (rg [mV 39 5,
mV 40 5,
uO 41 (.nilchk 40),
fA 42 6 none 41,
lD 43 none 42,
mV 44 7,
uO 45 (.bsl false none 1 (.int .i64 0) [(0,44)]),
uO 46 (.app none 43 45),
uO 47 (.nilchk 39),
fA 48 6 none 47,
wO (.store none 48 46)] [5,6,9,17,18,19])
(rg [mV 49 5,
mV 50 5,
uO 51 (.nilchk 50),
fA 52 7 none 51,
lD 53 none 52,
mV 54 9,
uO 55 (.bsl false none 1 (.int .i64 0) [(0,54)]),
uO 56 (.app none 53 55),
uO 57 (.nilchk 49),
fA 58 7 none 57,
wO (.store none 58 56)] [5,6,17,18,19]))
.skip))))))
zon)))
def zop:ACode:=.pr [5] (.seq (rg [mV 60 5,
mV 4 60] [4])
.ret)
def zom:ACode:=(.seq (rg [uO 2 (.uns 12 0 [0]),
mV 4 (.c (.nilp))] [1,2])
(.seq (rg [lD 10 (some 2) 2,
uO 11 (.mkmap),
uO 12 (.mkmap),
uO 13 (.build [.sl0 none,.p (.int .i64 0),.nilm,.nilm,.sl0 (some 5),.sl0 (some 3),.sl0 none,.sl0 none] [(0,2,10),(2,1,11),(3,1,12)]),
uO 14 (.uns 12 0 [13]),
mV 5 14] [1,5])
(.seq (rg [mV 15 1,
cL 16 z6L [15],
mV 6 16] [1,5,6])
(.seq (.seq (rg [mV 17 1,
lN 18 17,
mV 19 (cI 0)] [5,6,17,18,19])
(.block 0 (.loop (.scope zoo))))
zop))))
def zcb:AFun:=⟨2,[.t 4],zom,false,false⟩
def zoq:ACode:=(.seq (rg [mV 2 (cI 0)] [0])
(.seq (.seq (rg [mV 3 0,
cL 4 z0t [3],
uO 5 (.un .not 4)] [5])
(.cond 5 (.seq (rg [mV 2 (cI 1)] [2])
.ret)
.skip))
(.seq (rg [mV 2 (cI 0)] [2])
.ret)))
def zcc:AFun:=⟨1,[.t 2],zoq,false,false⟩
def zos:ACode:=.pr [3,8,9,10] (.seq (rg [bN 11 .lss 10 9] [3,8,9,10,11])
(.seq (.cond 11 .skip
(.exit 0))
(.seq (.block 1 (.seq (rg [iA 12 (some 8) 8 10,
lD 13 (some 8) 12,
uO 5 (.alloc [.p (.str []),.p (.int .i64 0),.p (.int .i64 0),.p (.int .i64 0),.p (.str []),.p (.str []),.p (.str []),.p (.int .i64 0)]),
wO (.store (some 8) 5 13)] [3,5,8,9,10])
(.seq (rg [fA 14 0 none 5,
lD 15 none 14,
fA 16 1 none 5,
lD 17 none 16,
uO 18 (.build [.p (.str []),.p (.int .i64 0)] [(0,1,15),(1,1,17)]),
uO 6 (.alloc [.p (.str []),.p (.int .i64 0)]),
wO (.store (some 2) 6 18)] [3,6,8,9,10])
(.seq (.seq (rg [mV 19 3,
lD 20 (some 2) 6,
uO 21 (.look ((some 2),[2,0]) false (AB false) 19 20)] [3,6,8,9,10,21])
(.cond 21 (.seq (rg [mV 2 cT] [2])
.ret)
.skip))
(rg [mV 22 3,
lD 23 (some 2) 6,
wO (.mupd ((some 2),[2,0]) 22 23 cT)] [3,8,9,10])))))
(rg [bN 24 .add 10 (cI 1),
mV 10 24] [3,8,9,10]))))
def zot:ACode:=.pr [] (.seq (rg [mV 2 cF] [2])
.ret)
def zor:ACode:=(.seq (rg [mV 2 cF] [0])
(.seq (rg [uO 7 (.mkmap),
mV 3 7] [0,3])
(.seq (.seq (rg [mV 8 0,
lN 9 8,
mV 10 (cI 0)] [3,8,9,10])
(.block 0 (.loop (.scope zos))))
zot)))
def zcd:AFun:=⟨1,[.t 2],zor,false,false⟩
def zov:ACode:=.pr [0,1,5] (.seq (.seq (rg [mV 8 5,
bN 9 .gtr 8 (cI 0),
mV 10 9,
gD 11 10 true (.mv 0),
gD 12 10 true (.mv 5),
gD 13 10 true (.bin .sub 12 (cI 1)),
gD 14 10 true (.iaddr (some 8) 11 13),
gD 15 10 true (.faddr 2 none 14),
gD 16 10 true (.load none 15),
gD 17 10 true (.mv 1),
gD 18 10 true (.bin .gtr 16 17),
uO 19 (.pick 10 18 cF)] [0,1,5,19])
(.cond 19 .skip
(.exit 0)))
(.block 1 (rg [mV 20 5,
bN 21 .sub 20 (cI 1),
mV 5 21] [0,1,5])))
def zow:ACode:=.pr [0,5] (.seq (rg [mV 22 0,
mV 23 5,
uO 24 (.slice (some 8) 22 none (some 23) none),
mV 4 24] [4])
.ret)
def zou:ACode:=(.seq (rg [mV 4 (.c (.p (.sl (some 8) [])))] [0,1])
(.seq (rg [mV 6 0,
lN 7 6,
mV 5 7] [0,1,5])
(.seq (.block 0 (.loop zov))
zow)))
def zce:AFun:=⟨2,[.t 4],zou,false,false⟩
def zox:ACode:=(.seq (rg [mV 4 (cI 0)] [0,1])
(.seq (rg [mV 5 0,
mV 6 1,
cL 7 z65 [5,6],
mV 4 7] [4])
.ret))
def zcf:AFun:=⟨2,[.t 4],zox,false,false⟩
def zoy:ACode:=(.seq (rg [mV 2 (cI 0),
mV 3 (cI 0)] [0])
(.seq (.seq (rg [mV 5 0,
cL 6 PG [5],
mV 4 6] [0,4])
(.seq (rg [mV 7 4,
bN 8 .neq 7 (cI 0)] [0,4,8])
(.cond 8 (.seq (rg [mV 9 4,
mV 2 (cI 0),
mV 3 9] [2,3])
.ret)
.skip)))
(.seq (rg [mV 10 0,
cL 11 oG [10,(.c (.nilp))],
uO 12 (.nilchk 11),
fA 13 37 none 12,
lD 14 none 13,
mV 2 14,
mV 3 (cI 0)] [2,3])
.ret)))
def zcg:AFun:=⟨1,[.t 2,.t 3],zoy,false,false⟩
end Go.Am
end
section
/- The abstract machine,part L: functions of the library that are met by the kit's contracts: plain values in,plain values out,new memory at most. -/
set_option linter.unusedSimpArgs false
set_option linter.unusedVariables false
namespace Go.Am
variable {P:Program} {gl:Nat→Option PV}
structure PureRow (P:Program) (gl:Nat→Option PV) (f:Nat) (spec:List PV→Option AV):Prop where
 enter:∀us w,(callFunc f us).run P w = .ok (.enter f us) w
 run:∀(M:Mem) (w:World) (vs:List PV) (r:AV) (us:List Value),(∀b o v,M.c b o=some v→w.cell? ⟨b,o,none⟩=some v)→(∀b o,M.b b=some o→w.heap[b]?=some o)→qE gl M→vs.length=us.length →
  (∀(j:Nat) (y:PV) (v:Value),vs[j]?=some y→us[j]?=some v→RPV M y v)→spec vs=some r →
  Calls P f us.toArray w fun e w'=>∃x,e = .returned x∧WExt w w'∧RAV (jH M w w') [] [] r x
abbrev aG:=List (Nat × (List PV→Option AV))
def dI:aG→Nat→List AV→aA→Option (AV × aA × Esc)
 | [],_,_,_=>none
 | (g,s)::r,f,asv,h=>bif Nat.beq f g then((unp asv).bind s).map fun v=>(v,h,[]) else dI r f asv h
theorem z2J:∀ (gs:aG),(∀ g s,(g,s)∈gs→PureRow P gl g s)→∀ {f:Nat} {asv:List AV} {h:aA} {v:AV} {h':aA} {x:Esc},dI gs f asv h=some (v,h',x) →
 RC P gl f asv h fun v1 h1 x1=>v1=v∧h1=h'∧x1=x
 | [],_,f,asv,h,v,h',x,H=>by cases H
 | (g,s)::r,hg,f,asv,h,v,h',x,H=>by
  unfold dI at H;cases e1:Nat.beq f g with
  | false=>
   rw[e1]at H;exact z2J r (fun g sh hm=>hg g sh (by simp [hm])) H
  | true=>
   rw[e1]at H;have e:=Nat.eq_of_beq_eq_true e1
   subst e;have R:=hg f s (by simp)
   simp only[cond_true]at H;obtain⟨y,hy,e2⟩:=Option.map_eq_some_iff.1 H;simp only[Prod.mk.injEq]at e2;obtain⟨rfl,rfl,rfl⟩:=e2;obtain⟨ps,hps,hs⟩:=Option.bind_eq_some_iff.1 hy;have hm:=VM hps
   subst hm;intro μ w vs Hh Hg hl hr;refine .inl ⟨R.enter _,?_⟩;refine(R.run (imm h μ w) w ps y vs (fun b o v hv=>(lE.1 hv).2) (fun b o hv=>(NH.1 hv).2) Hg (by simpa using hl) (fun j q v hq hv=>(hr j (.p q) v (by simp [hq]) hv).p_inv) hs).mono fun e w' he=>?_
   obtain⟨u,rfl,g1,g2⟩:=he;obtain⟨n1,n2⟩:=Hh.ext g1;have Lq:(jH (imm h μ w) w w').le (imm h μ w'):=by
    refine⟨fun b o v hv=>?_,fun b o hv=>?_,rfl,fun _ _ h=>by cases h⟩
    ·dsimp only[jH]at hv
     split at hv
     ·exact n2.le.c _ _ _ hv
     ·rename_i hb
      exact lE.2 ⟨fun hO=>hb (z0Q Hh hO),hv⟩
    ·dsimp only[jH]at hv
     cases hv
   exact⟨_,_,_,μ,⟨rfl,rfl,rfl⟩,g2.evo ⟨Lq,Nat.zero_le _,fun id o m h1=>by simp at h1⟩,n1,n2,tA.refl h []⟩
def RF (gs:List (Nat × Sh))(ps:aG)(f:Nat)(asv:List AV)(h:aA):Option (AV×aA×Esc):=match jL gs f asv h with
 | some y=>some y
 | none=>match dI ps f asv h with
  | some y=>some y
  | none=>match rA h asv with
   | some (asv',h1)=>dI ps f asv' h1
   | none=>none
theorem zoF {ps:aG}(hp:∀ g s,(g,s)∈ps→PureRow P gl g s){f:Nat}{asv asv':List AV}{h h1:aA}{v:AV}{h':aA}{x:Esc}(hq:rA h asv=some (asv',h1))(H:dI ps f asv' h1=some (v,h',x)) :
 RC P gl f asv h fun v1 h2 x1=>v1=v∧h2=h'∧x1=x:=by
 intro μ w vs Hh Hg hl hr;obtain⟨q1,q2,q3⟩:=XU asv Hh hl hr hq;rcases z2J ps hp H μ w vs q1.1 (Hg.mono q1.2.1.le) q2 q3 with⟨k1,k2⟩|⟨r,w',v2,h2,x2,μ',k1,k2,k3,k4,k5,k6⟩
 ·refine .inl ⟨k1,k2.mono fun e w' he=>?_⟩
  cases e with
  | returned r=>
   obtain⟨v2,h2,x2,μ',k2,k3,k4,k5,k6⟩:=he;exact⟨v2,h2,x2,μ',k2,k3,k4,q1.2.1.trans k5,by simpa using q1.2.2.trans k6⟩
  | panicked _=>exact he
  | outgrown=>exact he
 ·exact .inr ⟨r,w',v2,h2,x2,μ',k1,k2,k3,k4,q1.2.1.trans k5,by simpa using q1.2.2.trans k6⟩
theorem libF_ok {gs:List (Nat × Sh)}{ps:aG}(hg:∀ g sh,(g,sh)∈gs→GrowRow P g sh)(hp:∀ g s,(g,s)∈ps→PureRow P gl g s){f:Nat}{asv:List AV}{h:aA}{v:AV}{h':aA}{x:Esc}(H:RF gs ps f asv h=some (v,h',x)) :
 RC P gl f asv h fun v1 h1 x1=>v1=v∧h1=h'∧x1=x:=by
 unfold RF at H;split at H
 ·rename_i y hy
  cases H;exact z7N gs hg hy
 ·split at H
  ·rename_i y hy
   cases H;exact z2J ps hp hy
  ·split at H
   ·rename_i asv' h1 hq
    exact zoF hp hq H
   ·cases H
theorem bT {X:Ctx}{f:Nat}{asv:List AV}{h h':aA}{v:AV}{x:Esc}{K:kA}(hf:X.fn f=none)(hx:X.ex2 f asv h=some (v,h',x)):bA X f asv h K=K v h' x:=by
 refine propext (bA.eq (bA.fold ?_) K);unfold sC;simp only[hf,hx];exact⟨trivial,trivial,trivial⟩
def XS:List (Nat × Sh)→Nat→Option Sh
 | [],_=>none
 | (g,s)::r,f=>bif Nat.beq f g then some s else XS r f
theorem z7M:∀ {gs:List (Nat × Sh)} {f:Nat} {asv:List AV} {h:aA},XS gs f=none→jL gs f asv h=none
 | [],f,asv,h,_=>rfl
 | (g,s)::r,f,asv,h,hm=>by
  unfold XS at hm;unfold jL;cases hq:Nat.beq f g with
  | true=>rw[hq]at hm;cases hm
  | false=>rw[hq]at hm;exact z7M hm
def YU:aG→Nat→Option (List PV→Option AV)
 | [],_=>none
 | (g,s)::r,f=>bif Nat.beq f g then some s else YU r f
theorem z8F:∀ {gs:aG} {f:Nat} {s:List PV→Option AV} {asv:List AV} {h:aA},YU gs f=some s→dI gs f asv h=((unp asv).bind s).map fun v=>(v,h,[])
 | [],f,s,asv,h,hm=>by cases hm
 | (g,s')::r,f,s,asv,h,hm=>by
  unfold YU at hm;unfold dI;cases hq:Nat.beq f g with
  | true=>rw[hq]at hm;cases hm;rfl
  | false=>rw[hq]at hm;exact z8F hm
theorem z0I {gs:List (Nat × Sh)}{ps:aG}{f:Nat}{s:List PV→Option AV}{asv:List AV}{vs:List PV}{v:AV}{h:aA}(hg:XS gs f=none)(hm:YU ps f=some s)(hu:unp asv=some vs)(hv:s vs=some v):RF gs ps f asv h=some (v,h,[]):=by
 unfold RF;rw[z7M hg,z8F hm,hu];simp [hv]
def glOf:List (Nat × PV)→Nat→Option PV
 | [],_=>none
 | (g,v)::r,n=>bif Nat.beq n g then some v else glOf r n
theorem ztp {f:Nat}(h:(match P.funcs[f]? with | some fn=>fn.body.isSome&&fn.name != "runtime.NumGoroutine" | none=>false)=true)(us:Array Value)(w:World):(callFunc f us).run P w = .ok (.enter f us) w:=by
 cases hf:P.funcs[f]? with
 | none=>rw[hf]at h;cases h
 | some fn=>
  rw[hf]at h;simp only[Bool.and_eq_true,bne_iff_ne,ne_eq]at h;cases hb:fn.body with
  | none=>rw[hb]at h;cases h.1
  | some c=>exact z0i hf hb h.2 us w
theorem ztr {M:Mem}:qE (glOf []) M:=fun n v hv=>by cases hv
def gI (s:List UInt8):Nat→List UInt8
 | 0=>[]
 | c+1=>s++gI s c
def DM:List PV→Option AV
 | [.str s,.int .i64 c]=>if 0≤c∧s.length*c.toNat≤1000000∧c≤1000000 then some (.p (.str (gI s c.toNat))) else none
 | _=>none
def zF (s cs:List UInt8):List UInt8:=(s.reverse.dropWhile (cs.contains ·)).reverse.dropWhile (cs.contains ·)
def trimS:List PV→Option AV
 | [.str s,.str cs]=>if s.length≤1000000∧cs.length≤1000∧cs.all (fun b=>decide (b.toNat<128))=true then some (.p (.str (zF s cs))) else none
 | _=>none
def qJ:PV→Bool
 | .agg [.int .i64 _,.int .i64 _,.int .i64 _,.str _,.str _,.str _]=>true
 | _=>false
def PQ:PV→Int
 | .agg (.int _ k::_)=>k
 | _=>0
def jP:PV:=.agg [.int .i64 0,.int .i64 1,.int .i64 0,.str [],.str [],.str []]
def OH (l:List PV)(k:Int):PV:=(l.reverse.find? fun c=>PQ c==k).getD jP
def MM:List PV→Option AV
 | [.sl (some 6) xs,.int .i64 i,.int .i64 k]=>if 0≤i∧i≤(xs.length:Int)∧xs.length≤1000000∧xs.all qJ=true then some (.p (OH (xs.take i.toNat) k)) else none
 | _=>none
end Go.Am
end
section
/- The abstract machine,part C: NB calls that say true,asv contracts. -/
set_option linter.all false
namespace Go.Am
variable {P:Program} {gl:Nat→Option PV}
def z34:List PV→Option AV
 | []=>some (AB true)
 | _=>none
theorem RPV.mono' {M M':Mem}(hM:∀ b o v,M.c b o=some v→M'.c b o=some v){v:PV}{x:Value}(H:RPV M v x):RPV M' v x:=by
 induction H with
 | int k n=>exact .int k n
 | bool b=>exact .bool b
 | str s=>exact .str s
 | nilp=>exact .nilp
 | unk k n=>exact .unk k n
 | nils sh a cap=>exact .nils sh a cap
 | sl sh xs b o cap f hne hc he hm hr ih=>exact .sl sh xs b o cap f hne hc he (fun j y hy=>hM _ _ _ (hm j y hy)) ih
 | agg cs vs hl hr ih=>exact .agg cs vs hl ih
theorem qE.mono' {M M':Mem}(hc:∀ b o v,M.c b o=some v→M'.c b o=some v)(hb:∀ b o,M.b b=some o→M'.b b=some o)(H:qE gl M):qE gl M':=fun n v hv=>by
 obtain⟨h1,cs,t,x,h2,h3⟩:=H n v hv;refine⟨?_,cs,t,x,hb _ _ h2,h3⟩;cases h1 with|vp _ _ _ f hm hr=>exact .vp v n 0 f (fun j y hy=>hc _ _ _ (hm j y hy)) (fun j y hy=>(hr j y hy).mono' hc)
theorem zts {X:Ctx}(HX:Fits P X){f:Nat}(H:bA X f [] [] fun v h x=>v=AB true∧h=[]∧x=[])(he:∀ us w,(callFunc f us).run P w = .ok (.enter f us) w):PureRow P X.gl f z34:=by
 refine⟨he,fun M w vs r us hc hb hG hl hr hs=>?_⟩
 cases vs with
 | cons a l=>cases hs
 | nil=>
  have hu:us=[]:=List.length_eq_zero_iff.1 (by simpa using hl.symm)
  subst hu;simp only[z34,Option.some.injEq]at hs;subst hs;have hno:∀b o,¬zG ([]:aA) ([]:Mu) b o:=fun b o ⟨id,n,h1,_⟩=>by simp at h1
  have hnt:∀b,¬ZJ ([]:Mu) b:=fun b ⟨id,n,h1⟩=>by simp at h1
  have hG':qE X.gl (imm [] [] w):=hG.mono' (fun b o v h=>lE.2 ⟨hno b o,hc b o v h⟩) (fun b o h=>NH.2 ⟨hnt b,hb b o h⟩)
  have hR:HeapRel [] [] w:=⟨rfl,fun id o m h1=>by simp at h1,fun i j b n n' h1=>by simp at h1,fun i b n h1=>by simp at h1⟩
  rcases z4P HX H [] w [] hR hG' rfl (fun j y v h1=>by simp at h1) with⟨_,q⟩|⟨r,w',v,h',x,μ',q,_⟩
  ·refine q.mono fun e w' h=>?_
   cases e with
   | panicked _=>exact h.elim
   | outgrown=>exact h.elim
   | returned r=>
    obtain⟨v,h',x,μ',⟨rfl,rfl,rfl⟩,h1,h2,h3,h4⟩:=h;have hm:μ'=[]:=List.length_eq_zero_iff.1 (by simpa using h2.len)
    subst hm;have hbl:∀b o,w.heap[b]?=some o→w'.heap[b]?=some o:=fun b o h=>(NH.1 (h3.le.b b o (NH.2 ⟨hnt b,h⟩))).2
    refine⟨r,rfl,⟨?_,fun b hb=>?_,?_⟩,?_⟩
    ·rcases Nat.lt_or_ge w'.heap.size w.heap.size with q|q
     ·have:=hbl w'.heap.size _ (Array.getElem?_eq_getElem q)
      simp at this
     ·exact q
    ·rw[hbl b _ (Array.getElem?_eq_getElem hb),Array.getElem?_eq_getElem hb]
    ·have:=h3.le.z
     simpa [imm] using this
    ·have:=h1.p_bool
     rw[this];exact .p _ _ (.bool true)
  ·rw[he]at q
   cases q
end Go.Am
end
section
/- The functions together. -/
set_option linter.all false
set_option maxRecDepth 100000
namespace Go.Am
def fns:List (Nat × AFun):=[(RS,gW),(lO,kW),(mO,mW),(NF,rW),(cP,EX),(aP,CX),(bP,DX),(pO,wW),(IK,KW),(nO,sW),(XK,FX),(bJ,lQ),(YE,oW),(DE,tW),(jE,nW),(EC,qW),(jO,jW),(lJ,JX),(kJ,GX),(EO,VW),(nG,rQ),(HK,yW),(OK,YW),(qO,xW),(HH,DW),(yO,HW),(BO,MW),(JK,LW),(DO,SW),(KK,OW),(PG,qQ),(oG,uQ),(lG,gX),(fJ,fX),(MG,JW),(bL,KX),(dJ,iW),(HO,bX),(jJ,sQ),(mJ,AQ),(ZK,xQ),(tF,uW),(GH,pW),(EH,iQ),(JH,oX),(PO,qX),(UK,lX),(eJ,aX),(zO,IW),(tO,EW),(NK,UW),(LK,PW),(MK,TW),(kG,RW),(gC,kQ),(YK,tQ),(eL,CQ),(KO,iX),(CO,QW),(UD,jQ),(RG,wQ),(OF,yQ),(QG,vQ),(QO,rX),(OO,pX),(CE,gQ),(NO,nX),(FH,fW),(QK,dX),(vO,FW),(oO,vW),(TK,jX),(PK,ZW),(xO,GW),(OG,mQ),(sO,CW),(VD,zW),(dL,BQ),(aL,zQ),(VK,oQ),(RO,sX),(XO,zX),(SO,tX),(GO,XW),(FO,WW),(MO,mX),(uF,zI),(LO,kX),(JO,cX),(RK,nQ),(rO,BW),(hJ,pQ),(mG,aK),(YO,AX),(TO,uX),(iJ,xX),(UO,vX),(WK,wX),(iO,eW),(WO,yX),(ZO,BX),(OS,bW),(PS,cW),(QS,dW)]
def GRL:List (Nat × Sh):=[]
def PRL:aG:=[(NG,MM),(PB,DM),(gJ,trimS),(cJ,z34)]
def GLL:List (Nat × PV):=[]
def fP:List (Nat × AFun)→Nat→Option AFun
 | [],_=>none
 | (k,F)::r,n=>bif Nat.beq k n then some F else fP r n
def X:Ctx:=⟨fP fns,glOf GLL,GK DH MS,RF GRL PRL⟩
theorem z7j {p:Nat→AFun→Bool}:∀(l:List (Nat×AFun)),(l.all fun y=>p y.1 y.2)=true→∀n F,fP l n=some F→p n F=true
 | [],_,n,F,h=>by cases h
 | (k,G)::r,ha,n,F,h=>by
  simp only[List.all_cons,Bool.and_eq_true]at ha;simp only[fP]at h;cases hk:Nat.beq k n with
  | true=>
   rw[hk]at h;have:=Nat.eq_of_beq_eq_true hk;simp only[cond_true,Option.some.injEq]at h;subst this;subst h;exact ha.1
  | false=>
   rw[hk]at h;exact z7j r ha.2 n F h
def fns0:List (Nat × AFun):=[(cJ,zbF),(bJ,lQ),(nG,rQ),(z6W,zcg),(PG,qQ),(oG,uQ),(z6y,zb2),(z66,zbA),(z6J,zbR),(z6i,zbh),(z6B,zbG),(jJ,sQ),(mJ,AQ),(ZK,xQ),(EH,iQ),(gC,kQ),(YK,tQ),(eL,CQ),(z6x,zb1),(z69,zbD),(z68,zbC),(z0s,zbc),(z6N,zbV),(UD,jQ),(z6S,zcb),(z6V,zce),(z6g,zbf),(z6r,zbr),(NS,zbs),(RG,wQ),(OF,yQ),(QG,vQ),(CE,gQ),(OG,mQ),(dL,BQ),(aL,zQ),(z6z,zb3),(z61,zb5),(z64,zb8),(z63,zb7),(z62,zb6),(z6E,zbK),(z6A,zbE),(z67,zbB),(z6f,zbd),(z6I,zbQ),(z6H,zbP),(z6T,zcc),(z6L,zbT),(z6R,zca),(z6h,zbg),(z6l,zbk),(z6D,zbI),(VK,oQ),(uF,zI),(RK,nQ),(z6w,zb0),(z6v,zbz),(z6G,zbN),(z0y,zbL),(z6M,zbU),(z6K,zbS),(z6U,zcd),(z0t,zbe),(z6Q,zbZ),(z6P,zbX),(z00,zbY),(z6m,zbl),(z6q,zbq),(z6s,zbt),(hJ,pQ),(mG,aK),(z60,zb4),(z0z,zbO),(z0v,zbx),(z0u,zbw),(SK,zcf),(z6O,zbW),(z6k,zbj),(fO,zbp),(z0x,zbJ),(z6n,zbm),(z6t,zbu),(z6j,zbi),(z0w,zby),(z65,zb9),(z6F,zbM),(z6o,zbn),(z6u,zbv),(z6C,zbH),(z6p,zbo)]
def PRL0:aG:=[(NG,MM),(PB,DM),(gJ,trimS)]
def X0:Ctx:=⟨fP fns0,glOf GLL,GK DH MS,RF GRL PRL0⟩
theorem zrA:X0.fn mG=some aK:=by kernel_rfl
theorem zr9:X0.fn uF=some zI:=by kernel_rfl
theorem z4j:X.NoNext:=fun f F h=>z7j (p:=fun _ F=>F.isDet||F.body.noNext) fns (by kernel_rfl) f F h
theorem zrK:X.fn RS=some gW:=by kernel_rfl
theorem zdq {u0 v0:AV}{h h1:aA}{P:kA}(hp:rA h [u0]=some ([v0],h1)):bA X RS [u0] h P=(sN (bA X) X.gl [(0,v0)] h1 [] (qA [.t 2] false h.length P)).1:=by rw[yA zrK rfl hp rfl];exact zfN
theorem zrO:X.fn lO=some kW:=by kernel_rfl
theorem zdu {u0 v0:AV}{h h1:aA}{P:kA}(hp:rA h [u0]=some ([v0],h1)):bA X lO [u0] h P=(ZQ (bA X) X.gl [(0,v0)] h1 [] (qA [.t 2] false h.length P)).1:=by rw[yA zrO rfl hp rfl];exact zfY
theorem zrP:X.fn mO=some mW:=by kernel_rfl
theorem zdv {u0 u1 v0 v1:AV}{h h1:aA}{P:kA}(hp:rA h [u0,u1]=some ([v0,v1],h1)):bA X mO [u0,u1] h P=(aR (bA X) X.gl [(0,v0),(1,v1)] h1 [] (qA [.t 4] false h.length P)).1:=by rw[yA zrP rfl hp rfl];exact zfZ
theorem zrU:X.fn NF=some rW:=by kernel_rfl
theorem zdz {u0 u1 u2 v0 v1 v2:AV}{h h1:aA}{P:kA}(hp:rA h [u0,u1,u2]=some ([v0,v1,v2],h1)):bA X NF [u0,u1,u2] h P=(dR (bA X) X.gl [(0,v0),(1,v1),(2,v2)] h1 [] (qA [.t 6] false h.length P)).1:=by rw[yA zrU rfl hp rfl];exact zgi
theorem zsY:X.fn cP=some EX:=by kernel_rfl
theorem ze3 {u0 u1 v0 v1:AV}{h h1:aA}{P:kA}(hp:rA h [u0,u1]=some ([v0,v1],h1)):bA X cP [u0,u1] h P=(NN (bA X) X.gl [(0,v0),(1,v1)] h1 [] (qA [.t 4,.t 5] false h.length P)).1:=by rw[yA zsY rfl hp rfl];exact zib
theorem zsW:X.fn aP=some CX:=by kernel_rfl
theorem ze1 {u0 u1 v0 v1:AV}{h h1:aA}{P:kA}(hp:rA h [u0,u1]=some ([v0,v1],h1)):bA X aP [u0,u1] h P=(IN (bA X) X.gl [(0,v0),(1,v1)] h1 [] (qA [.t 4,.t 5,.t 6] false h.length P)).1:=by rw[yA zsW rfl hp rfl];exact zhY
theorem zsX:X.fn bP=some DX:=by kernel_rfl
theorem ze2 {u0 u1 v0 v1:AV}{h h1:aA}{P:kA}(hp:rA h [u0,u1]=some ([v0,v1],h1)):bA X bP [u0,u1] h P=(KN (bA X) X.gl [(0,v0),(1,v1)] h1 [] (qA [.t 4,.t 5] false h.length P)).1:=by rw[yA zsX rfl hp rfl];exact zia
theorem zrZ:X.fn pO=some wW:=by kernel_rfl
theorem zd4 {u0 v0:AV}{h h1:aA}{P:kA}(hp:rA h [u0]=some ([v0],h1)):bA X pO [u0] h P=(mK (bA X) X.gl [(0,v0)] h1 [] (qA [.t 2] false h.length P)).1:=by rw[yA zrZ rfl hp rfl];exact zgr
theorem zsm:X.fn IK=some KW:=by kernel_rfl
theorem zdH {u0 v0:AV}{h h1:aA}{P:kA}(hp:rA h [u0]=some ([v0],h1)):bA X IK [u0] h P=(zN (bA X) X.gl [(0,v0)] h1 [] (qA [.t 2] false h.length P)).1:=by rw[yA zsm rfl hp rfl];exact zgB
theorem zrV:X.fn nO=some sW:=by kernel_rfl
theorem zd0 {u0 u1 v0 v1:AV}{h h1:aA}{P:kA}(hp:rA h [u0,u1]=some ([v0,v1],h1)):bA X nO [u0,u1] h P=(fR (bA X) X.gl [(0,v0),(1,v1)] h1 [] (qA [.t 4] false h.length P)).1:=by rw[yA zrV rfl hp rfl];exact zgj
theorem zsZ:X.fn XK=some FX:=by kernel_rfl
theorem ze4 {u0 v0:AV}{h h1:aA}{P:kA}(hp:rA h [u0]=some ([v0],h1)):bA X XK [u0] h P=(ON (bA X) X.gl [(0,v0)] h1 [] (qA [.t 2,.t 3,.t 4,.t 5] false h.length P)).1:=by rw[yA zsZ rfl hp rfl];exact zic
theorem zrL:X.fn bJ=some lQ:=by kernel_rfl
theorem zdr {u0 v0:AV}{h h1:aA}{P:kA}(hp:rA h [u0]=some ([v0],h1)):bA X bJ [u0] h P=(XQ (bA X) X.gl [(0,v0)] h1 [] (qA [.t 2] false h.length P)).1:=by rw[yA zrL rfl hp rfl];exact zfO
theorem zrR:X.fn YE=some oW:=by kernel_rfl
theorem zdx {u0 u1 v0 v1:AV}{h h1:aA}{P:kA}(hp:rA h [u0,u1]=some ([v0,v1],h1)):bA X YE [u0,u1] h P=(uN (bA X) X.gl [(0,v0),(1,v1)] h1 [] (qA [.t 4] false h.length P)).1:=by rw[yA zrR rfl hp rfl];exact zgf
theorem zrW:X.fn DE=some tW:=by kernel_rfl
theorem zd1 {u0 u1 v0 v1:AV}{h h1:aA}{P:kA}(hp:rA h [u0,u1]=some ([v0,v1],h1)):bA X DE [u0,u1] h P=(gR (bA X) X.gl [(0,v0),(1,v1)] h1 [] (qA [.t 4] false h.length P)).1:=by rw[yA zrW rfl hp rfl];exact zgm
theorem zrQ:X.fn jE=some nW:=by kernel_rfl
theorem zdw {u0 u1 v0 v1:AV}{h h1:aA}{P:kA}(hp:rA h [u0,u1]=some ([v0,v1],h1)):bA X jE [u0,u1] h P=(bR (bA X) X.gl [(0,v0),(1,v1)] h1 [] (qA [.t 4] false h.length P)).1:=by rw[yA zrQ rfl hp rfl];exact zge
theorem zrT:X.fn EC=some qW:=by kernel_rfl
theorem zdy {u0 u1 v0 v1:AV}{h h1:aA}{P:kA}(hp:rA h [u0,u1]=some ([v0,v1],h1)):bA X EC [u0,u1] h P=(cR (bA X) X.gl [(0,v0),(1,v1)] h1 [] (qA [.t 4] false h.length P)).1:=by rw[yA zrT rfl hp rfl];exact zgh
theorem zrN:X.fn jO=some jW:=by kernel_rfl
theorem zdt {u0 v0:AV}{h h1:aA}{P:kA}(hp:rA h [u0]=some ([v0],h1)):bA X jO [u0] h P=oF (bA X) X.gl GT HT v0 h1 [] (qA [.cell 2 (some 6)] false h.length P):=by rw[yA zrN rfl hp rfl];exact zfT
theorem ztf:X.fn lJ=some JX:=by kernel_rfl
theorem ze9 {u0 u1 v0 v1:AV}{h h1:aA}{P:kA}(hp:rA h [u0,u1]=some ([v0,v1],h1)):bA X lJ [u0,u1] h P=(qS (bA X) X.gl [(0,v0),(1,v1)] h1 [] (qA [.t 4] false h.length P)).1:=by rw[yA ztf rfl hp rfl];exact zil
theorem zte:X.fn kJ=some GX:=by kernel_rfl
theorem ze8 {u0 u1 v0 v1:AV}{h h1:aA}{P:kA}(hp:rA h [u0,u1]=some ([v0,v1],h1)):bA X kJ [u0,u1] h P=(oS (bA X) X.gl [(0,v0),(1,v1)] h1 [] (qA [.t 4] false h.length P)).1:=by rw[yA zte rfl hp rfl];exact zik
theorem zsw:X.fn EO=some VW:=by kernel_rfl
theorem zdQ {u0 v0:AV}{h h1:aA}{P:kA}(hp:rA h [u0]=some ([v0],h1)):bA X EO [u0] h P = ∃v h' x,P v h' x∧(zR (bA X) X.gl [(0,v0)] h1 [] (qA [.t 2] true h.length fun v1 h1 x1=>v1=v∧h1=h'∧x1=x)).1:=by rw[iN zsw rfl hp rfl];exact LS fun v h' x=>congrArg (And (P v h' x)) zhd
theorem zta:X.fn nG=some rQ:=by kernel_rfl
theorem ze5 {u0 v0:AV}{h h1:aA}{P:kA}(hp:rA h [u0]=some ([v0],h1)):bA X nG [u0] h P=(xK (bA X) X.gl [(0,v0)] h1 [] (qA [.t 2] false h.length P)).1:=by rw[yA zta rfl hp rfl];exact zid
theorem zsb:X.fn HK=some yW:=by kernel_rfl
theorem zd6 {u0 v0:AV}{h h1:aA}{P:kA}(hp:rA h [u0]=some ([v0],h1)):bA X HK [u0] h P=(TI (bA X) X.gl [(0,v0)] h1 [] (qA [.t 2] false h.length P)).1:=by rw[yA zsb rfl hp rfl];exact zgt
theorem zsz:X.fn OK=some YW:=by kernel_rfl
theorem zdT {u0 u1 h P}:bA X OK [u0,u1] h P=(DR (bA X) X.gl [(0,u0),(1,u1)] h [] (qA [.t 4] false h.length P)).1:=by rw[oH zsz rfl rfl];exact zhg
theorem zsa:X.fn qO=some xW:=by kernel_rfl
theorem zd5 {u0 u1 v0 v1:AV}{h h1:aA}{P:kA}(hp:rA h [u0,u1]=some ([v0,v1],h1)):bA X qO [u0,u1] h P=(kR (bA X) X.gl [(0,v0),(1,v1)] h1 [] (qA [.t 3] false h.length P)).1:=by rw[yA zsa rfl hp rfl];exact zgs
theorem zsf:X.fn HH=some DW:=by kernel_rfl
theorem zdA {u0 u1 u2 v0 v1 v2:AV}{h h1:aA}{P:kA}(hp:rA h [u0,u1,u2]=some ([v0,v1,v2],h1)):bA X HH [u0,u1,u2] h P=(oR (bA X) X.gl [(0,v0),(1,v1),(2,v2)] h1 [] (qA [.t 6] false h.length P)).1:=by rw[yA zsf rfl hp rfl];exact zg4
theorem zsj:X.fn yO=some HW:=by kernel_rfl
theorem zdE {u0 v0:AV}{h h1:aA}{P:kA}(hp:rA h [u0]=some ([v0],h1)):bA X yO [u0] h P=(nK (bA X) X.gl [(0,v0)] h1 [] (qA [.t 2] false h.length P)).1:=by rw[yA zsj rfl hp rfl];exact zg8
theorem zso:X.fn BO=some MW:=by kernel_rfl
theorem zdJ {u0 v0:AV}{h h1:aA}{P:kA}(hp:rA h [u0]=some ([v0],h1)):bA X BO [u0] h P=TD (bA X) X.gl XT YT v0 h1 [] (qA [.t 2] false h.length P):=by rw[yA zso rfl hp rfl];exact zgH
theorem zsn:X.fn JK=some LW:=by kernel_rfl
theorem zdI {u0 v0:AV}{h h1:aA}{P:kA}(hp:rA h [u0]=some ([v0],h1)):bA X JK [u0] h P=(tR (bA X) X.gl [(0,v0)] h1 [] (qA [.t 2,.t 3,.t 4] false h.length P)).1:=by rw[yA zsn rfl hp rfl];exact zgE
theorem zst:X.fn DO=some SW:=by kernel_rfl
theorem zdN {u0 v0:AV}{h h1:aA}{P:kA}(hp:rA h [u0]=some ([v0],h1)):bA X DO [u0] h P=(xR (bA X) X.gl [(0,v0)] h1 [] (qA [.t 2] false h.length P)).1:=by rw[yA zst rfl hp rfl];exact zgY
theorem zsp:X.fn KK=some OW:=by kernel_rfl
theorem zdK {u0 v0:AV}{h h1:aA}{P:kA}(hp:rA h [u0]=some ([v0],h1)):bA X KK [u0] h P=(uR (bA X) X.gl [(0,v0)] h1 [] (qA [.t 2] false h.length P)).1:=by rw[yA zsp rfl hp rfl];exact zgM
theorem zsV:X.fn PG=some qQ:=by kernel_rfl
theorem ze0 {u0 v0:AV}{h h1:aA}{P:kA}(hp:rA h [u0]=some ([v0],h1)):bA X PG [u0] h P=(HN (bA X) X.gl [(0,v0)] h1 [] (qA [.t 2] false h.length P)).1:=by rw[yA zsV rfl hp rfl];exact zhV
theorem ztd:X.fn oG=some uQ:=by kernel_rfl
theorem z4N {u0 u1 v0 v1:AV}{h h1:aA}{P:kA}(hp:rA h [u0,u1]=some ([v0,v1],h1)):bA X oG [u0,u1] h P=(PN (bA X) X.gl [(0,v0),(1,v1)] h1 [] (qA [.t 4] false h.length P)).1:=by rw[yA ztd rfl hp rfl];exact zih
theorem zs8:X.fn lG=some gX:=by kernel_rfl
theorem zec {u0 u1 v0 v1:AV}{h h1:aA}{P:kA}(hp:rA h [u0,u1]=some ([v0,v1],h1)):bA X lG [u0,u1] h P=(NR (bA X) X.gl [(0,v0),(1,v1)] h1 [] (qA [.t 4,.t 5] false h.length P)).1:=by rw[yA zs8 rfl hp rfl];exact zhx
theorem zs7:X.fn fJ=some fX:=by kernel_rfl
theorem zeb {u0 v0:AV}{h h1:aA}{P:kA}(hp:rA h [u0]=some ([v0],h1)):bA X fJ [u0] h P=(AN (bA X) X.gl [(0,v0)] h1 [] (qA [.t 2] false h.length P)).1:=by rw[yA zs7 rfl hp rfl];exact zhw
theorem zsl:X.fn MG=some JW:=by kernel_rfl
theorem zdG {u0 v0:AV}{h h1:aA}{P:kA}(hp:rA h [u0]=some ([v0],h1)):bA X MG [u0] h P=(sR (bA X) X.gl [(0,v0)] h1 [] (qA [.t 2] false h.length P)).1:=by rw[yA zsl rfl hp rfl];exact zgA
theorem ztm:X.fn bL=some KX:=by kernel_rfl
theorem zeF {u0 v0:AV}{h h1:aA}{P:kA}(hp:rA h [u0]=some ([v0],h1)):bA X bL [u0] h P=(sS (bA X) X.gl [(0,v0)] h1 [] (qA [.t 2] false h.length P)).1:=by rw[yA ztm rfl hp rfl];exact zi4
theorem zrM:X.fn dJ=some iW:=by kernel_rfl
theorem zds {u0 u1 v0 v1:AV}{h h1:aA}{P:kA}(hp:rA h [u0,u1]=some ([v0,v1],h1)):bA X dJ [u0,u1] h P=(YQ (bA X) X.gl [(0,v0),(1,v1)] h1 [] (qA [.t 4] false h.length P)).1:=by rw[yA zrM rfl hp rfl];exact zfR
theorem zs3:X.fn HO=some bX:=by kernel_rfl
theorem zdX {u0 u1 h P}:bA X HO [u0,u1] h P=(IR (bA X) X.gl [(0,u0),(1,u1)] h [] (qA [.t 4] false h.length P)).1:=by rw[oH zs3 rfl rfl];exact zhk
theorem ztb:X.fn jJ=some sQ:=by kernel_rfl
theorem ze6 {u0 v0:AV}{h h1:aA}{P:kA}(hp:rA h [u0]=some ([v0],h1)):bA X jJ [u0] h P=(yK (bA X) X.gl [(0,v0)] h1 [] (qA [.t 2] false h.length P)).1:=by rw[yA ztb rfl hp rfl];exact zie
theorem ztl:X.fn mJ=some AQ:=by kernel_rfl
theorem zeE {u0 u1 v0 v1:AV}{h h1:aA}{P:kA}(hp:rA h [u0,u1]=some ([v0,v1],h1)):bA X mJ [u0,u1] h P=(GG (bA X) X.gl [(0,v0),(1,v1)] h1 [] (qA [.t 4] false h.length P)).1:=by rw[yA ztl rfl hp rfl];exact zi3
theorem zti:X.fn ZK=some xQ:=by kernel_rfl
theorem zeB {u0 u1 v0 v1:AV}{h h1:aA}{P:kA}(hp:rA h [u0,u1]=some ([v0,v1],h1)):bA X ZK [u0,u1] h P=WE (bA X) X.gl DJ CP v0 v1 h1 [] (qA [] false h.length P):=by rw[yA zti rfl hp rfl];exact ziw
theorem zrX:X.fn tF=some uW:=by kernel_rfl
theorem zd2 {u0 u1 v0 v1:AV}{h h1:aA}{P:kA}(hp:rA h [u0,u1]=some ([v0,v1],h1)):bA X tF [u0,u1] h P=(iR (bA X) X.gl [(0,v0),(1,v1)] h1 [] (qA [.t 4] false h.length P)).1:=by rw[yA zrX rfl hp rfl];exact zgn
theorem zrS:X.fn GH=some pW:=by kernel_rfl
theorem z4M {u0 u1 u2 v0 v1 v2:AV}{h h1:aA}{P:kA}(hp:rA h [u0,u1,u2]=some ([v0,v1,v2],h1)):bA X GH [u0,u1,u2] h P=(vN (bA X) X.gl [(0,v0),(1,v1),(2,v2)] h1 [] (qA [.t 6] false h.length P)).1:=by rw[yA zrS rfl hp rfl];exact zgg
theorem zrC:X.fn EH=some iQ:=by kernel_rfl
theorem zdm {u0 v0:AV}{h h1:aA}{P:kA}(hp:rA h [u0]=some ([v0],h1)):bA X EH [u0] h P=(UQ (bA X) X.gl [(0,v0)] h1 [] (qA [.t 2] false h.length P)).1:=by rw[yA zrC rfl hp rfl];exact zfy
theorem zsF:X.fn JH=some oX:=by kernel_rfl
theorem zek {u0 v0:AV}{h h1:aA}{P:kA}(hp:rA h [u0]=some ([v0],h1)):bA X JH [u0] h P=(qK (bA X) X.gl [(0,v0)] h1 [] (qA [.t 2] false h.length P)).1:=by rw[yA zsF rfl hp rfl];exact zh5
theorem zsI:X.fn PO=some qX:=by kernel_rfl
theorem zen {u0 u1 u2 v0 v1 v2:AV}{h h1:aA}{P:kA}(hp:rA h [u0,u1,u2]=some ([v0,v1,v2],h1)):bA X PO [u0,u1,u2] h P=(XR (bA X) X.gl [(0,v0),(1,v1),(2,v2)] h1 [] (qA [.t 6,.t 7] false h.length P)).1:=by rw[yA zsI rfl hp rfl];exact zh8
theorem zsC:X.fn UK=some lX:=by kernel_rfl
theorem zeh {u0 u1 v0 v1:AV}{h h1:aA}{P:kA}(hp:rA h [u0,u1]=some ([v0,v1],h1)):bA X UK [u0,u1] h P=(QR (bA X) X.gl [(0,v0),(1,v1)] h1 [] (qA [.t 4] false h.length P)).1:=by rw[yA zsC rfl hp rfl];exact zh1
theorem zs1:X.fn eJ=some aX:=by kernel_rfl
theorem zdV {u0 u1 h P}:bA X eJ [u0,u1] h P=(GR (bA X) X.gl [(0,u0),(1,u1)] h [] (qA [.t 4] false h.length P)).1:=by rw[oH zs1 rfl rfl];exact zhi
theorem zsk:X.fn zO=some IW:=by kernel_rfl
theorem zdF {u0 u1 v0 v1:AV}{h h1:aA}{P:kA}(hp:rA h [u0,u1]=some ([v0,v1],h1)):bA X zO [u0,u1] h P=(rR (bA X) X.gl [(0,v0),(1,v1)] h1 [] (qA [.t 3] false h.length P)).1:=by rw[yA zsk rfl hp rfl];exact zg9
theorem zsg:X.fn tO=some EW:=by kernel_rfl
theorem zdB {u0 u1 v0 v1:AV}{h h1:aA}{P:kA}(hp:rA h [u0,u1]=some ([v0,v1],h1)):bA X tO [u0,u1] h P=(UE (bA X) X.gl [(0,v0),(1,v1)] h1 [] (qA [.t 4] false h.length P)).1:=by rw[yA zsg rfl hp rfl];exact zg5
theorem zsv:X.fn NK=some UW:=by kernel_rfl
theorem zdP {u0 v0:AV}{h h1:aA}{P:kA}(hp:rA h [u0]=some ([v0],h1)):bA X NK [u0] h P=(yR (bA X) X.gl [(0,v0)] h1 [] (qA [.t 2] false h.length P)).1:=by rw[yA zsv rfl hp rfl];exact zhc
theorem zsq:X.fn LK=some PW:=by kernel_rfl
theorem zdL {u0 u1 u2 v0 v1 v2:AV}{h h1:aA}{P:kA}(hp:rA h [u0,u1,u2]=some ([v0,v1,v2],h1)):bA X LK [u0,u1,u2] h P=(vR (bA X) X.gl [(0,v0),(1,v1),(2,v2)] h1 [] (qA [.t 6] false h.length P)).1:=by rw[yA zsq rfl hp rfl];exact zgQ
theorem zsu:X.fn MK=some TW:=by kernel_rfl
theorem zdO {u0 v0:AV}{h h1:aA}{P:kA}(hp:rA h [u0]=some ([v0],h1)):bA X MK [u0] h P=(vE (bA X) X.gl [(0,v0)] h1 [] (qA [.t 2] false h.length P)).1:=by rw[yA zsu rfl hp rfl];exact zhb
theorem zss:X.fn kG=some RW:=by kernel_rfl
theorem gN {u0 u1 u2 v0 v1 v2:AV}{h h1:aA}{P:kA}(hp:rA h [u0,u1,u2]=some ([v0,v1,v2],h1)):bA X kG [u0,u1,u2] h P=uH (bA X) X.gl cU dU v0 v1 v2 h1 [] (qA [.cell 6 (some 5)] false h.length P):=by rw[yA zss rfl hp rfl];exact zgU
theorem zrE:X.fn gC=some kQ:=by kernel_rfl
theorem zdo {u0 u1 u2 v0 v1 v2:AV}{h h1:aA}{P:kA}(hp:rA h [u0,u1,u2]=some ([v0,v1,v2],h1)):bA X gC [u0,u1,u2] h P=(VQ (bA X) X.gl [(0,v0),(1,v1),(2,v2)] h1 [] (qA [.t 6] false h.length P)).1:=by rw[yA zrE rfl hp rfl];exact zf4
theorem ztc:X.fn YK=some tQ:=by kernel_rfl
theorem ze7 {u0 v0:AV}{h h1:aA}{P:kA}(hp:rA h [u0]=some ([v0],h1)):bA X YK [u0] h P=(yE (bA X) X.gl [(0,v0)] h1 [] (qA [.cell 2 (some 6),.t 3] false h.length P)).1:=by rw[yA ztc rfl hp rfl];exact zif
theorem zto:X.fn eL=some CQ:=by kernel_rfl
theorem zeH {h h1:aA}{P:kA}(hp:rA h []=some ([],h1)):bA X eL [] h P=(tS (bA X) X.gl [] h1 [] (qA [.cell 0 (some 36)] false h.length P)).1:=by rw[yA zto rfl hp rfl];exact zi6
theorem zs9:X.fn KO=some iX:=by kernel_rfl
theorem zee {u0 v0:AV}{h h1:aA}{P:kA}(hp:rA h [u0]=some ([v0],h1)):bA X KO [u0] h P=(BN (bA X) X.gl [(0,v0)] h1 [] (qA [] false h.length P)).1:=by rw[yA zs9 rfl hp rfl];exact zhy
theorem zsr:X.fn CO=some QW:=by kernel_rfl
theorem zdM {u0 u1 v0 v1:AV}{h h1:aA}{P:kA}(hp:rA h [u0,u1]=some ([v0,v1],h1)):bA X CO [u0,u1] h P=(wR (bA X) X.gl [(0,v0),(1,v1)] h1 [] (qA [.t 4] false h.length P)).1:=by rw[yA zsr rfl hp rfl];exact zgR
theorem zrD:X.fn UD=some jQ:=by kernel_rfl
theorem zdn {u0 v0:AV}{h h1:aA}{P:kA}(hp:rA h [u0]=some ([v0],h1)):bA X UD [u0] h P=(tH (bA X) X.gl [(0,v0)] h1 [] (qA [.t 2] false h.length P)).1:=by rw[yA zrD rfl hp rfl];exact zf1
theorem zth:X.fn RG=some wQ:=by kernel_rfl
theorem z4O {u0 u1 v0 v1:AV}{h h1:aA}{P:kA}(hp:rA h [u0,u1]=some ([v0,v1],h1)):bA X RG [u0,u1] h P=(TN (bA X) X.gl [(0,v0),(1,v1)] h1 [] (qA [.t 4] false h.length P)).1:=by rw[yA zth rfl hp rfl];exact zin
theorem ztj:X.fn OF=some yQ:=by kernel_rfl
theorem zeC {u0 u1 v0 v1:AV}{h h1:aA}{P:kA}(hp:rA h [u0,u1]=some ([v0,v1],h1)):bA X OF [u0,u1] h P=(rS (bA X) X.gl [(0,v0),(1,v1)] h1 [] (qA [] false h.length P)).1:=by rw[yA ztj rfl hp rfl];exact ziz
theorem ztg:X.fn QG=some vQ:=by kernel_rfl
theorem zeA {u0 u1 u2 u3 v0 v1 v2 v3:AV}{h h1:aA}{P:kA}(hp:rA h [u0,u1,u2,u3]=some ([v0,v1,v2,v3],h1)):bA X QG [u0,u1,u2,u3] h P=(SN (bA X) X.gl [(0,v0),(1,v1),(2,v2),(3,v3)] h1 [] (qA [] false h.length P)).1:=by rw[yA ztg rfl hp rfl];exact zim
theorem zsJ:X.fn QO=some rX:=by kernel_rfl
theorem zeo {u0 u1 v0 v1:AV}{h h1:aA}{P:kA}(hp:rA h [u0,u1]=some ([v0,v1],h1)):bA X QO [u0,u1] h P=(xE (bA X) X.gl [(0,v0),(1,v1)] h1 [] (qA [.t 4] false h.length P)).1:=by rw[yA zsJ rfl hp rfl];exact zhB
theorem zsG:X.fn OO=some pX:=by kernel_rfl
theorem zel {u0 v0:AV}{h h1:aA}{P:kA}(hp:rA h [u0]=some ([v0],h1)):bA X OO [u0] h P=(VR (bA X) X.gl [(0,v0)] h1 [] (qA [.t 2,.t 3] false h.length P)).1:=by rw[yA zsG rfl hp rfl];exact zh6
theorem zrB:X.fn CE=some gQ:=by kernel_rfl
theorem zdl {u0 v0:AV}{h h1:aA}{P:kA}(hp:rA h [u0]=some ([v0],h1)):bA X CE [u0] h P=(TQ (bA X) X.gl [(0,v0)] h1 [] (qA [.t 2] false h.length P)).1:=by rw[yA zrB rfl hp rfl];exact zfx
theorem zsE:X.fn NO=some nX:=by kernel_rfl
theorem zej {u0 u1 u2 v0 v1 v2:AV}{h h1:aA}{P:kA}(hp:rA h [u0,u1,u2]=some ([v0,v1,v2],h1)):bA X NO [u0,u1,u2] h P=(SR (bA X) X.gl [(0,v0),(1,v1),(2,v2)] h1 [] (qA [.t 6] false h.length P)).1:=by rw[yA zsE rfl hp rfl];exact zh3
theorem zrJ:X.fn FH=some fW:=by kernel_rfl
theorem z4L {u0 u1 v0 v1:AV}{h h1:aA}{P:kA}(hp:rA h [u0,u1]=some ([v0,v1],h1)):bA X FH [u0,u1] h P=(rN (bA X) X.gl [(0,v0),(1,v1)] h1 [] (qA [.t 4] false h.length P)).1:=by rw[yA zrJ rfl hp rfl];exact zfM
theorem zs5:X.fn QK=some dX:=by kernel_rfl
theorem zdZ {u0 u1 h P}:bA X QK [u0,u1] h P=(KR (bA X) X.gl [(0,u0),(1,u1)] h [] (qA [.t 4] false h.length P)).1:=by rw[oH zs5 rfl rfl];exact zhq
theorem zsh:X.fn vO=some FW:=by kernel_rfl
theorem zdC {u0 u1 v0 v1:AV}{h h1:aA}{P:kA}(hp:rA h [u0,u1]=some ([v0,v1],h1)):bA X vO [u0,u1] h P=(pR (bA X) X.gl [(0,v0),(1,v1)] h1 [] (qA [.t 3] false h.length P)).1:=by rw[yA zsh rfl hp rfl];exact zg6
theorem zrY:X.fn oO=some vW:=by kernel_rfl
theorem zd3 {u0 v0:AV}{h h1:aA}{P:kA}(hp:rA h [u0]=some ([v0],h1)):bA X oO [u0] h P=(wN (bA X) X.gl [(0,v0)] h1 [] (qA [.t 2] false h.length P)).1:=by rw[yA zrY rfl hp rfl];exact zgq
theorem zsA:X.fn TK=some jX:=by kernel_rfl
theorem zef {u0 u1 v0 v1:AV}{h h1:aA}{P:kA}(hp:rA h [u0,u1]=some ([v0,v1],h1)):bA X TK [u0,u1] h P=(OR (bA X) X.gl [(0,v0),(1,v1)] h1 [] (qA [.t 4] false h.length P)).1:=by rw[yA zsA rfl hp rfl];exact zhz
theorem zs0:X.fn PK=some ZW:=by kernel_rfl
theorem zdU {u0 u1 h P}:bA X PK [u0,u1] h P=(ER (bA X) X.gl [(0,u0),(1,u1)] h [] (qA [.t 4] false h.length P)).1:=by rw[oH zs0 rfl rfl];exact zhh
theorem zsi:X.fn xO=some GW:=by kernel_rfl
theorem zdD {u0 u1 v0 v1:AV}{h h1:aA}{P:kA}(hp:rA h [u0,u1]=some ([v0,v1],h1)):bA X xO [u0,u1] h P=(qR (bA X) X.gl [(0,v0),(1,v1)] h1 [] (qA [.t 3] false h.length P)).1:=by rw[yA zsi rfl hp rfl];exact zg7
theorem zs2:X.fn OG=some mQ:=by kernel_rfl
theorem zdW {u0 u1 h P}:bA X OG [u0,u1] h P=(HR (bA X) X.gl [(0,u0),(1,u1)] h [] (qA [.t 4] false h.length P)).1:=by rw[oH zs2 rfl rfl];exact zhj
theorem zse:X.fn sO=some CW:=by kernel_rfl
theorem zd9 {u0 u1 v0 v1:AV}{h h1:aA}{P:kA}(hp:rA h [u0,u1]=some ([v0,v1],h1)):bA X sO [u0,u1] h P=(nR (bA X) X.gl [(0,v0),(1,v1)] h1 [] (qA [.t 4] false h.length P)).1:=by rw[yA zse rfl hp rfl];exact zg3
theorem zsc:X.fn VD=some zW:=by kernel_rfl
theorem zd7 {u0 u1 v0 v1:AV}{h h1:aA}{P:kA}(hp:rA h [u0,u1]=some ([v0,v1],h1)):bA X VD [u0,u1] h P=(lR (bA X) X.gl [(0,v0),(1,v1)] h1 [] (qA [.t 4] false h.length P)).1:=by rw[yA zsc rfl hp rfl];exact zgu
theorem ztn:X.fn dL=some BQ:=by kernel_rfl
theorem zeG {u0 v0:AV}{h h1:aA}{P:kA}(hp:rA h [u0]=some ([v0],h1)):bA X dL [u0] h P=(xH (bA X) X.gl [(0,v0)] h1 [] (qA [.t 2] false h.length P)).1:=by rw[yA ztn rfl hp rfl];exact zi5
theorem ztk:X.fn aL=some zQ:=by kernel_rfl
theorem zeD {u0 v0:AV}{h h1:aA}{P:kA}(hp:rA h [u0]=some ([v0],h1)):bA X aL [u0] h P=(zE (bA X) X.gl [(0,v0)] h1 [] (qA [.t 2] false h.length P)).1:=by rw[yA ztk rfl hp rfl];exact zi2
theorem zsH:X.fn VK=some oQ:=by kernel_rfl
theorem zem {u0 u1 v0 v1:AV}{h h1:aA}{P:kA}(hp:rA h [u0,u1]=some ([v0,v1],h1)):bA X VK [u0,u1] h P=(WR (bA X) X.gl [(0,v0),(1,v1)] h1 [] (qA [.t 4,.t 5] false h.length P)).1:=by rw[yA zsH rfl hp rfl];exact zh7
theorem zsK:X.fn RO=some sX:=by kernel_rfl
theorem zep {u0 u1 v0 v1:AV}{h h1:aA}{P:kA}(hp:rA h [u0,u1]=some ([v0,v1],h1)):bA X RO [u0,u1] h P=(YR (bA X) X.gl [(0,v0),(1,v1)] h1 [] (qA [.t 3] false h.length P)).1:=by rw[yA zsK rfl hp rfl];exact zhC
theorem zsS:X.fn XO=some zX:=by kernel_rfl
theorem zex {u0 v0:AV}{h h1:aA}{P:kA}(hp:rA h [u0]=some ([v0],h1)):bA X XO [u0] h P=(gS (bA X) X.gl [(0,v0)] h1 [] (qA [.t 2] false h.length P)).1:=by rw[yA zsS rfl hp rfl];exact zhQ
theorem zsL:X.fn SO=some tX:=by kernel_rfl
theorem zeq {u0 v0:AV}{h h1:aA}{P:kA}(hp:rA h [u0]=some ([v0],h1)):bA X SO [u0] h P=(ZR (bA X) X.gl [(0,v0)] h1 [] (qA [.t 2] false h.length P)).1:=by rw[yA zsL rfl hp rfl];exact zhD
theorem zsy:X.fn GO=some XW:=by kernel_rfl
theorem zdS {u0 v0:AV}{h h1:aA}{P:kA}(hp:rA h [u0]=some ([v0],h1)):bA X GO [u0] h P = ∃v h' x,P v h' x∧(BR (bA X) X.gl [(0,v0)] h1 [] (qA [.t 2] false h.length fun v1 h1 x1=>v1=v∧h1=h'∧x1=x)).1:=by rw[iN zsy rfl hp rfl];exact LS fun v h' x=>congrArg (And (P v h' x)) zhf
theorem zsx:X.fn FO=some WW:=by kernel_rfl
theorem zdR {u0 v0:AV}{h h1:aA}{P:kA}(hp:rA h [u0]=some ([v0],h1)):bA X FO [u0] h P = ∃v h' x,P v h' x∧(AR (bA X) X.gl [(0,v0)] h1 [] (qA [.t 2] false h.length fun v1 h1 x1=>v1=v∧h1=h'∧x1=x)).1:=by rw[iN zsx rfl hp rfl];exact LS fun v h' x=>congrArg (And (P v h' x)) zhe
theorem zsD:X.fn MO=some mX:=by kernel_rfl
theorem zei {u0 u1 u2 v0 v1 v2:AV}{h h1:aA}{P:kA}(hp:rA h [u0,u1,u2]=some ([v0,v1,v2],h1)):bA X MO [u0,u1,u2] h P=(VE (bA X) X.gl [(0,v0),(1,v1),(2,v2)] h1 [] (qA [.t 6] false h.length P)).1:=by rw[yA zsD rfl hp rfl];exact zh2
theorem zaw:X.fn uF=some zI:=by kernel_rfl
theorem c_q05x {u0 u1 v0 v1:AV}{h h1:aA}{P:kA}(hp:rA h [u0,u1]=some ([v0,v1],h1)):bA X uF [u0,u1] h P=eS (bA X) X.gl v0 v1 h1 [] (qA [.t 4] false h.length P):=by rw[yA zaw rfl hp rfl];exact z5F
theorem zsB:X.fn LO=some kX:=by kernel_rfl
theorem zeg {u0 u1 v0 v1:AV}{h h1:aA}{P:kA}(hp:rA h [u0,u1]=some ([v0,v1],h1)):bA X LO [u0,u1] h P=(PR (bA X) X.gl [(0,v0),(1,v1)] h1 [] (qA [.t 4] false h.length P)).1:=by rw[yA zsB rfl hp rfl];exact zh0
theorem zs4:X.fn JO=some cX:=by kernel_rfl
theorem zdY {u0 u1 h P}:bA X JO [u0,u1] h P=(JR (bA X) X.gl [(0,u0),(1,u1)] h [] (qA [.t 4] false h.length P)).1:=by rw[oH zs4 rfl rfl];exact zhn
theorem zs6:X.fn RK=some nQ:=by kernel_rfl
theorem zea {u0 u1 h P}:bA X RK [u0,u1] h P=(MR (bA X) X.gl [(0,u0),(1,u1)] h [] (qA [.t 4] false h.length P)).1:=by rw[oH zs6 rfl rfl];exact zht
theorem zsd:X.fn rO=some BW:=by kernel_rfl
theorem zd8 {u0 u1 v0 v1:AV}{h h1:aA}{P:kA}(hp:rA h [u0,u1]=some ([v0,v1],h1)):bA X rO [u0,u1] h P=(mR (bA X) X.gl [(0,v0),(1,v1)] h1 [] (qA [.t 4] false h.length P)).1:=by rw[yA zsd rfl hp rfl];exact zg0
theorem zsN:X.fn hJ=some pQ:=by kernel_rfl
theorem zes {u0 v0:AV}{h h1:aA}{P:kA}(hp:rA h [u0]=some ([v0],h1)):bA X hJ [u0] h P=(dS (bA X) X.gl [(0,v0)] h1 [] (qA [.t 2] false h.length P)).1:=by rw[yA zsN rfl hp rfl];exact zhF
theorem zax:X.fn mG=some aK:=by kernel_rfl
theorem c_q05y {u0 u1 v0 v1:AV}{h h1:aA}{P:kA}(hp:rA h [u0,u1]=some ([v0,v1],h1)):bA X mG [u0,u1] h P = ∃v h' x,P v h' x∧FN (bA X) X.gl cM vU v0 v1 h1 [] (qA [.t 4] false h.length fun v1 h1 x1=>v1=v∧h1=h'∧x1=x):=by rw[iN zax rfl hp rfl];exact LS fun v h' x=>congrArg (And (P v h' x)) z5G
theorem zsT:X.fn YO=some AX:=by kernel_rfl
theorem zey {u0 u1 v0 v1:AV}{h h1:aA}{P:kA}(hp:rA h [u0,u1]=some ([v0,v1],h1)):bA X YO [u0,u1] h P=(jS (bA X) X.gl [(0,v0),(1,v1)] h1 [] (qA [.t 3] false h.length P)).1:=by rw[yA zsT rfl hp rfl];exact zhR
theorem zsM:X.fn TO=some uX:=by kernel_rfl
theorem zer {u0 u1 v0 v1:AV}{h h1:aA}{P:kA}(hp:rA h [u0,u1]=some ([v0,v1],h1)):bA X TO [u0,u1] h P=(bS (bA X) X.gl [(0,v0),(1,v1)] h1 [] (qA [.t 3] false h.length P)).1:=by rw[yA zsM rfl hp rfl];exact zhE
theorem zsQ:X.fn iJ=some xX:=by kernel_rfl
theorem zev {u0 u1 v0 v1:AV}{h h1:aA}{P:kA}(hp:rA h [u0,u1]=some ([v0,v1],h1)):bA X iJ [u0,u1] h P=(FG (bA X) X.gl [(0,v0),(1,v1)] h1 [] (qA [.cell 4 (some 2),.t 5] false h.length P)).1:=by rw[yA zsQ rfl hp rfl];exact zhO
theorem zsO:X.fn UO=some vX:=by kernel_rfl
theorem zet {u0 v0:AV}{h h1:aA}{P:kA}(hp:rA h [u0]=some ([v0],h1)):bA X UO [u0] h P=(uK (bA X) X.gl [(0,v0)] h1 [] (qA [.t 2] false h.length P)).1:=by rw[yA zsO rfl hp rfl];exact zhK
theorem zsP:X.fn WK=some wX:=by kernel_rfl
theorem zeu {u0 v0:AV}{h h1:aA}{P:kA}(hp:rA h [u0]=some ([v0],h1)):bA X WK [u0] h P=(vK (bA X) X.gl [(0,v0)] h1 [] (qA [.cell 2 (some 2)] false h.length P)).1:=by rw[yA zsP rfl hp rfl];exact zhN
theorem zrI:X.fn iO=some eW:=by kernel_rfl
theorem zdp {u0 u1 v0 v1:AV}{h h1:aA}{P:kA}(hp:rA h [u0,u1]=some ([v0,v1],h1)):bA X iO [u0,u1] h P=(WQ (bA X) X.gl [(0,v0),(1,v1)] h1 [] (qA [.t 4] false h.length P)).1:=by rw[yA zrI rfl hp rfl];exact zfI
theorem zsR:X.fn WO=some yX:=by kernel_rfl
theorem zew {u0 u1 v0 v1:AV}{h h1:aA}{P:kA}(hp:rA h [u0,u1]=some ([v0,v1],h1)):bA X WO [u0,u1] h P=(fS (bA X) X.gl [(0,v0),(1,v1)] h1 [] (qA [.t 3] false h.length P)).1:=by rw[yA zsR rfl hp rfl];exact zhP
theorem zsU:X.fn ZO=some BX:=by kernel_rfl
theorem zez {u0 u1 v0 v1:AV}{h h1:aA}{P:kA}(hp:rA h [u0,u1]=some ([v0,v1],h1)):bA X ZO [u0,u1] h P=(kS (bA X) X.gl [(0,v0),(1,v1)] h1 [] (qA [.cell 4 (some 2)] false h.length P)).1:=by rw[yA zsU rfl hp rfl];exact zhS
theorem zrF:X.fn OS=some bW:=by kernel_rfl
theorem c_q016 {u0 v0:AV}{h h1:aA}{P:kA}(hp:rA h [u0]=some ([v0],h1)):bA X OS [u0] h P=(rY (bA X) X.gl [(0,v0)] h1 [] (qA [.t 2] false h.length P)).1:=by rw[yA zrF rfl hp rfl];exact zf5
theorem zrG:X.fn PS=some cW:=by kernel_rfl
theorem c_q017 {u0 u1 v0 v1:AV}{h h1:aA}{P:kA}(hp:rA h [u0,u1]=some ([v0,v1],h1)):bA X PS [u0,u1] h P=(sY (bA X) X.gl [(0,v0),(1,v1)] h1 [] (qA [.t 4] false h.length P)).1:=by rw[yA zrG rfl hp rfl];exact zf6
theorem zrH:X.fn QS=some dW:=by kernel_rfl
theorem c_q018 {u0 v0:AV}{h h1:aA}{P:kA}(hp:rA h [u0]=some ([v0],h1)):bA X QS [u0] h P=(xY (bA X) X.gl [(0,v0)] h1 [] (qA [.t 2,.t 3] false h.length P)).1:=by rw[yA zrH rfl hp rfl];exact zfB
attribute [go_sem] yS UZ zjS kK tN HG jG LF zS BS zjU GF pF SE lK SI zga zgb zgc zgd zjV zjW LY MY NY OY ZN aO AH z0d zhZ z5I zk0 zk1 YI ZI iG JN GZ lS
attribute [go_sem] z0e z0f z5J zk2 LN MN nS MF z5C zjZ TE jR zgC zgD zkf aZ bZ zgk zgl zjX PY QY zfP zfQ zjT HY IY zfU zfV zfW zfX z5q KY z5r FF z0g z0h FS z5K zk4
attribute [go_sem] QN RN zK pS IG VN VZ WZ zkd zke HF UI xN yN zgI zgJ zgK zgL VI IF FD oK zgF zgG zkg cZ dZ zgZ zha zkj kZ lZ zgN zgO zgP zkh eZ fZ gZ zhW
attribute [go_sem] zhX zkz EZ FZ zii zij zk3 JZ KZ zfS JY zhl zhm zkk mZ nZ zix ziy zk6 z5u UN zgo zgp zjY RY SY zfz zf0 zjL nY oY CS z5D zkp rK UR zh9 ES zhA zks
attribute [go_sem] vZ tK xZ zgV zgW zgX vH jZ EG zig IZ zgS zgT zki hZ iZ zf2 zf3 zjM pY qY zio ziq zir zis zit ziu ziv zk5 LZ MZ NZ OZ PZ QZ RZ zi0 zi1 zk7 SZ
attribute [go_sem] TZ YN ZZ z0a DS z0b zkq zkr wH CN DN sK EN zh4 WN XN zko uZ WI XI zhr zhs zkm qZ rZ zgv zgw zgx zgy zgz zka zkb TY UY VY WY XY zH z5H zkx
attribute [go_sem] gG iS yH z5E zkt fG aS XZ YZ qF wE zho zhp zkl oZ pZ zhu zhv zkn sZ tZ zg1 zg2 zkc YY ZY zhG zhH zhI zhJ zku zkv z5s yZ zZ z5t zhL zhM zkw AZ
attribute [go_sem] BZ zfJ zfK zfL zjR EY FY GY zhT zhU z0c zky CZ DZ GN zf7 zf8 zf9 zfA zjN zjO tY uY vY wY zfC zfD zfE zfF zfG zfH zjP zjQ yY zY AY BY CY DY
end Go.Am
end
section
/- The stream of numbers out of which the laws draw. -/
open Go
namespace Go.Am
abbrev eI (n:Int):PV:=.int .i64 n
abbrev AL (l:List Int):AV:=.p (.sl none (l.map eI))
abbrev OA (L:List Int)(a:Int):Obj:=.box [AL L,AI a]
def lH (x n:Int):Int:=if n<1 then 0 else if x.tmod n<0 then IntKind.i64.wrap (x.tmod n+n) else x.tmod n
theorem z9j (x n:Int)(h:aA)(K:kA):bA X dJ [AI x,AI n] h K=K (AI (lH x n)) h []:=by
 refine xA ?_;rw[zds rfl];simp only[YQ,go_sem];unfold lH;by_cases h1:n<1
 ·simp only[h1,if_true]
 ·simp only[h1,if_false,show ¬n=0 by omega]
  split <;> rfl
theorem zcF (x n:Int)(h1:1≤n)(h2:n≤4611686018427387904):0≤lH x n∧lH x n<n:=by
 unfold lH;rw[if_neg (by omega)]
 have:=Int.tmod_lt_of_pos x (show 0<n by omega)
 have h3 : -n<x.tmod n:=by
  have:=Int.lt_tmod_of_pos x (show 0<n by omega)
  exact this
 split
 ·rw[GA _ (by omega) (by omega)];omega
 ·omega
def CB (L:List Int)(a n:Int):Int:=
 if L.length=0 then lH (IntKind.i64.wrap ((a+1)*7919)) n
 else lH (IntKind.i64.wrap (lH (L.getD (a.tmod L.length).toNat 0) 1073741824+IntKind.i64.wrap (IntKind.i64.wrap (a.tdiv L.length)*IntKind.i64.wrap (7919+a.tmod L.length)))) n
theorem vJ (L:List Int)(a n:Int)(h1:1≤n)(h2:n≤4611686018427387904):0≤CB L a n∧CB L a n<n:=by
 unfold CB;split <;> exact zcF _ _ h1 h2
theorem WP {h:aA}{id:Nat}{o':Obj}(hid:id<h.length):(h.set id o')[id]?=some o':=by simp [hid]
theorem WG {h:aA}{id:Nat}{o:Obj}(hh:h[id]?=some o):id<h.length:=(List.getElem?_eq_some_iff.1 hh).1
def aB (n:Nat)(a:Int):Prop:=0≤a∧a+n<4611686018427387904
theorem OC {n m:Nat}{a b:Int}(H:aB m a)(h:a≤b)(hn:b+n≤a+m):aB n b:=by unfold aB at *;omega
theorem rM {a:Int}(H:aB 14 a):aB 0 (a)∧aB 0 (a+1)∧aB 0 (a+1+1)∧aB 0 (a+1+1+1)∧aB 0 (a+1+1+1+1)∧aB 0 (a+1+1+1+1+1)∧aB 0 (a+1+1+1+1+1+1)∧aB 0 (a+1+1+1+1+1+1+1)∧aB 0 (a+1+1+1+1+1+1+1+1)∧aB 0 (a+1+1+1+1+1+1+1+1+1)∧aB 0 (a+1+1+1+1+1+1+1+1+1+1)∧aB 0 (a+1+1+1+1+1+1+1+1+1+1+1)∧aB 0 (a+1+1+1+1+1+1+1+1+1+1+1+1)∧aB 0 (a+1+1+1+1+1+1+1+1+1+1+1+1+1)∧aB 0 (a+1+1+1+1+1+1+1+1+1+1+1+1+1+1):=by
 unfold aB at *;omega
def Gen (f:Nat)(args:List AV)(L:List Int)(a a2:Int)(v:AV):Prop:=∀(h:aA) (id:Nat) (K:kA),h[id]?=some (OA L a)→bA X f (.ref id 0::args) h K=K v (h.set id (OA L a2)) []
section
variable {f:Nat} {args:List AV} {L:List Int} {a a2:Int} {v:AV} {h l:aA} {id:Nat} {K:kA}
theorem Gen.set (g:Gen f args L a a2 v)(hid:id<h.length):bA X f (.ref id 0::args) (h.set id (OA L a)) K=K v (h.set id (OA L a2)) []:=by
 rw[g _ _ _ (WP hid),List.set_set]
theorem Gen.app (g:Gen f args L a a2 v)(hid:id<h.length):bA X f (.ref id 0::args) (h.set id (OA L a)++l) K=K v (h.set id (OA L a2)++l) []:=by
 rw[g _ _ _ (by rw[z7K (by simpa using hid)];exact WP hid),z9N (by simpa using hid),List.set_set]
theorem Gen.hd (g:Gen f args L a a2 v):bA X f (.ref 0 0::args) (OA L a::l) K=K v (OA L a2::l) []:=by
 rw[g _ _ _ rfl];rfl
theorem Gen.of (H:∀ (h:aA) (id:Nat),id<h.length→bA X f (.ref id 0::args) (h.set id (OA L a)) fun v1 h1 x1=>v1=v∧h1=h.set id (OA L a2)∧x1=[]):Gen f args L a a2 v:=by
 intro h id K hh;have hid:=WG hh
 have:h.set id (OA L a)=h:=by
  apply List.ext_getElem?
  intro i;rw[List.getElem?_set];split
  ·rename_i e;subst e;rw[hh]
  ·rfl
 have k:=H h id hid
 rw[this]at k;exact xA k
end
def qD (f:Nat)(args:List AV)(L:List Int)(a:Int)(Q:AV→Int→Prop):Prop:=∀(h:aA) (id:Nat),h[id]?=some (OA L a)→∃v a2,Q v a2∧∀K:kA,bA X f (.ref id 0::args) h K=K v (h.set id (OA L a2)) []
section
variable {f:Nat} {args:List AV} {L:List Int} {a:Int} {Q:AV→Int→Prop}
theorem qD.set (g:qD f args L a Q){h:aA}{id:Nat}(hid:id<h.length):∃v a2,Q v a2∧∀K:kA,bA X f (.ref id 0::args) (h.set id (OA L a)) K=K v (h.set id (OA L a2)) []:=by
 obtain⟨v,a2,q,r⟩:=g _ _ (WP hid);exact⟨v,a2,q,fun K=>by rw[r,List.set_set]⟩
theorem qD.app (g:qD f args L a Q){h l:aA}{id:Nat}(hid:id<h.length):∃v a2,Q v a2∧∀K:kA,bA X f (.ref id 0::args) (h.set id (OA L a)++l) K=K v (h.set id (OA L a2)++l) []:=by
 obtain⟨v,a2,q,r⟩:=g (h.set id (OA L a)++l) id (by rw[z7K (by simpa using hid)];exact WP hid)
 exact⟨v,a2,q,fun K=>by rw[r,z9N (by simpa using hid),List.set_set]⟩
theorem qD.hd (g:qD f args L a Q){l:aA}:∃v a2,Q v a2∧∀K:kA,bA X f (.ref 0 0::args) (OA L a::l) K=K v (OA L a2::l) []:=g (OA L a::l) 0 rfl
theorem qD.of (H:∀ (h:aA) (id:Nat),id<h.length→bA X f (.ref id 0::args) (h.set id (OA L a)) fun v1 h1 x1=>∃ a2,Q v1 a2∧h1=h.set id (OA L a2)∧x1=[]):qD f args L a Q:=by
 intro h id hh;have hid:=WG hh
 have:h.set id (OA L a)=h:=by
  apply List.ext_getElem?
  intro i;rw[List.getElem?_set];split
  ·rename_i e;subst e;rw[hh]
  ·rfl
 have k:=H h id hid
 rw[this]at k;obtain⟨v,h',x,⟨a2,q,e1,e2⟩,r⟩:=bA.one z4j k;subst e1;subst e2
 exact⟨v,a2,q,r⟩
end
def NC (l:List Int)(L:List Int)(a:Int):Int:=l.getD (CB L a l.length).toNat 0
theorem UU {l L:List Int}{a:Int}(hl:0<l.length)(hl2:l.length<4611686018427387904):NC l L a∈l:=by
 obtain⟨b1,b2⟩:=vJ L a l.length (by omega) (by omega)
 unfold NC;have:(CB L a l.length).toNat<l.length:=by omega
 simp only[List.getD,List.getElem?_eq_getElem this,Option.getD_some];exact List.getElem_mem _
def isI:PV→Bool
 | .int .i64 _=>true
 | _=>false
def unI:PV→Int
 | .int _ n=>n
 | _=>0
theorem zrt {xs:List PV}(h:xs.all isI=true):xs=(xs.map unI).map eI:=by
 induction xs with
 | nil=>rfl
 | cons x r ih=>
  simp only[List.all_cons,Bool.and_eq_true]at h;simp only[List.map_cons];rw[←ih h.2];cases x with
  | int k n=>cases k <;> first|rfl|cases h.1
  | _=>cases h.1
set_option maxHeartbeats 400000 in
theorem z7A (L:List Int)(a n:Int)(hp:aB 0 a):Gen YE [AI n] L a (a+1) (AI (CB L a n)):=by
 refine Gen.of fun h id hid=>?_
 rw[zdx rfl];obtain⟨h0,h1⟩:=hp;have w1:IntKind.i64.wrap (a+1)=a+1:=GA _ (by omega) (by omega)
 have w2:IntKind.i64.wrap (a+1-1)=a:=by rw[GA _ (by omega) (by omega)];omega
 have hs:∀o',(h.set id o')[id]?=some o':=fun o'=>WP hid
 rcases Nat.eq_zero_or_pos L.length with hl|hl
 ·simp only[uN,go_sem,hs,z9j,hl,w1]
  simp only[CB,hl,if_true]
 ·have e1:((L.length:Int)=0)=False:=by simp only[eq_iff_iff,iff_false];omega
  have e2:0≤a.tmod L.length:=Int.tmod_nonneg _ h0
  have e3:a.tmod L.length<L.length:=Int.tmod_lt_of_pos _ (by omega)
  have e4:=z0N (k:=.i64) e2
  have e5:(L.map eI)[(a.tmod L.length).toNat]?=some (eI (L.getD (a.tmod L.length).toNat 0)):=by
   rw[iC eI (show(a.tmod L.length).toNat<L.length by omega)]
   simp [List.getD,show(a.tmod L.length).toNat<L.length by omega]
  simp only[uN,go_sem,hs,z9j,e1,w1,w2,e4,e5];simp only[CB,show ¬L.length=0 by omega,if_false]
section
variable {L:List Int} {a:Int} {h l:aA} {id:Nat} {K:kA}
theorem JM (hid:id<h.length)(hp:aB 0 a)(n:Int):bA X YE [.ref id 0,AI n] (h.set id (OA L a)) K=K (AI (CB L a n)) (h.set id (OA L (a+1))) []:=(z7A L a n hp).set hid
theorem z9r (hid:id<h.length)(hp:aB 0 a)(n:Int):bA X YE [.ref id 0,AI n] (h.set id (OA L a)++l) K=K (AI (CB L a n)) (h.set id (OA L (a+1))++l) []:=(z7A L a n hp).app hid
theorem z79 (hp:aB 0 a)(n:Int):Gen jE [AI n] L a (a+1) (AB (decide (CB L a n=0))):=by
 refine Gen.of fun h id hid=>?_
 rw[zdw rfl];simp only[bR,go_sem,JM hid hp]
theorem z9o (hid:id<h.length)(hp:aB 0 a)(n:Int):bA X jE [.ref id 0,AI n] (h.set id (OA L a)) K=K (AB (decide (CB L a n=0))) (h.set id (OA L (a+1))) []:=(z79 hp n).set hid
theorem z9n (hid:id<h.length)(hp:aB 0 a)(n:Int):bA X jE [.ref id 0,AI n] (h.set id (OA L a)++l) K=K (AB (decide (CB L a n=0))) (h.set id (OA L (a+1))++l) []:=(z79 hp n).app hid
theorem z7C (hp:aB 0 a)(xs:List PV)(hx:xs.all isI=true)(hl:0<xs.length)(hl2:xs.length<4611686018427387904) :
 Gen EC [.p (.sl none xs)] L a (a+1) (AI (NC (xs.map unI) L a)):=by
 refine Gen.of fun h id hid=>?_
 rw[zdy rfl];obtain⟨b1,b2⟩:=vJ L a xs.length (by omega) (by omega)
 have e4:=z0N (k:=.i64) b1
 have e5:xs[(CB L a xs.length).toNat]?=some (eI (NC (xs.map unI) L a)):=by
  have hm:=zrt hx
  generalize hq:xs.map unI=q at *;subst hm;simp only[List.length_map]at *;rw[iC eI (show(CB L a q.length).toNat<q.length by omega)]
  simp [NC,List.getD,show(CB L a q.length).toNat<q.length by omega]
 simp only[cR,go_sem,JM hid hp,e4,e5]
theorem z9t (hid:id<h.length)(hp:aB 0 a){xs:List PV}(hx:xs.all isI=true)(hl:0<xs.length)(hl2:xs.length<4611686018427387904) :
 bA X EC [.ref id 0,.p (.sl none xs)] (h.set id (OA L a)) K=K (AI (NC (xs.map unI) L a)) (h.set id (OA L (a+1))) []:=(z7C hp xs hx hl hl2).set hid
theorem z9s (hid:id<h.length)(hp:aB 0 a){xs:List PV}(hx:xs.all isI=true)(hl:0<xs.length)(hl2:xs.length<4611686018427387904) :
 bA X EC [.ref id 0,.p (.sl none xs)] (h.set id (OA L a)++l) K=K (AI (NC (xs.map unI) L a)) (h.set id (OA L (a+1))++l) []:=(z7C hp xs hx hl hl2).app hid
def XD (u v:Int)(L:List Int)(a:Int):Int:=u+CB L a (v-u+1)
theorem LP {u v:Int}(L:List Int)(a:Int)(h1:u≤v)(h2:v≤u+4611686018427387900):u≤XD u v L a∧XD u v L a≤v:=by
 have:=vJ L a (v-u+1) (by omega) (by omega)
 unfold XD;omega
theorem z09 (hp:aB 0 a)(u v:Int)(huv:u≤v)(hu : -1152921504606846976≤u)(hv:v≤1152921504606846976) :
 Gen NF [AI u,AI v] L a (a+1) (AI (XD u v L a)):=by
 refine Gen.of fun h id hid=>?_
 rw[zdz rfl];obtain⟨b1,b2⟩:=LP L a huv (by omega)
 have w1:IntKind.i64.wrap (v-u)=v-u:=GA _ (by omega) (by omega)
 have w2:IntKind.i64.wrap (v-u+1)=v-u+1:=GA _ (by omega) (by omega)
 have w3:IntKind.i64.wrap (u+CB L a (v-u+1))=XD u v L a:=GA (XD u v L a) (by omega) (by omega)
 simp only[dR,go_sem,show ¬v<u by omega,w1,w2,JM hid hp,w3]
theorem z9w (hid:id<h.length)(hp:aB 0 a){u v:Int}(huv:u≤v)(hu : -1152921504606846976≤u)(hv:v≤1152921504606846976) :
 bA X NF [.ref id 0,AI u,AI v] (h.set id (OA L a)) K=K (AI (XD u v L a)) (h.set id (OA L (a+1))) []:=(z09 hp u v huv hu hv).set hid
theorem z9u (hid:id<h.length)(hp:aB 0 a){u v:Int}(huv:u≤v)(hu : -1152921504606846976≤u)(hv:v≤1152921504606846976) :
 bA X NF [.ref id 0,AI u,AI v] (h.set id (OA L a)++l) K=K (AI (XD u v L a)) (h.set id (OA L (a+1))++l) []:=(z09 hp u v huv hu hv).app hid
theorem z9v (hp:aB 0 a){u v:Int}(huv:u≤v)(hu : -1152921504606846976≤u)(hv:v≤1152921504606846976) :
 bA X NF [.ref 0 0,AI u,AI v] (OA L a::l) K=K (AI (XD u v L a)) (OA L (a+1)::l) []:=(z09 hp u v huv hu hv).hd
end
attribute [go_sem ↓] JM z9r z9o z9n z9t z9s z9w z9u z9v
attribute [go_sem] JM z9r z9o z9n z9t z9s z9w z9u z9v isI unI
end Go.Am
end
section
/- Plain laws of fractions in lowest terms. -/
namespace Go.Am
end Go.Am
end
section
/- Small functions of numbers and of lists of numbers. -/
open Go
namespace Go.Am
variable {h:aA} {K:kA}
theorem GC (n a b:Int):bA X gC [AI n,AI a,AI b] h K=K (AB (decide (n<a)||decide (b<n))) h []:=by
 refine xA ?_;rw[zdo rfl];by_cases h1:n<a <;> simp only[VQ,go_sem,h1]
theorem s_in (n a b:Int):bA X LK [AI n,AI a,AI b] h K=K (AB (decide (a≤n)&&decide (n≤b))) h []:=by
 refine xA ?_;rw[zdL rfl];by_cases h1:a≤n <;> simp only[vR,go_sem,h1]
end Go.Am
end
section
/- Functions of lists. -/
open Go
namespace Go.Am
variable {h:aA} {K:kA}
theorem zra (l:List Int)(a b:Int)(hv:∀ n∈l,a≤n∧n≤b):(l.length:Int)*a≤l.sum∧l.sum≤(l.length:Int)*b:=by
 induction l with
 | nil=>simp
 | cons x r ih=>
  obtain⟨i1,i2⟩:=ih (fun n hn=>hv n (by simp [hn]))
  obtain⟨x1,x2⟩:=hv x (by simp)
  simp only[List.length_cons,List.sum_cons,Int.natCast_add,Int.add_mul];omega
theorem zrb {l:List Int}{B:Int}(hv:∀ n∈l,-B≤n∧n≤B){N:Nat}(hl:l.length≤N)(hB:0≤B) : -(N*B)≤l.sum∧l.sum≤N*B:=by
 obtain⟨h1,h2⟩:=zra l (-B) B hv;have:(l.length:Int)*B≤N*B:=Int.mul_le_mul_of_nonneg_right (by omega) hB
 rw[Int.mul_neg]at h1;omega
theorem zrc {l:List Int}{B:Int}(hv:∀ n∈l,-B≤n∧n≤B){N:Nat}(hl:l.length≤N)(hB:0≤B)(k:Nat) : -(N*B)≤(l.take k).sum∧(l.take k).sum≤N*B:=
 zrb (fun n hn=>hv n (List.mem_of_mem_take hn)) (by simp;omega) hB
def sE (g:Nat)(caps:List AV)(p:PV→Bool)(xs:List PV)(h:aA):Prop:=∀x∈xs,∀K:kA,bA X g (.p x::caps) h K=K (AB (p x)) h []
def FE (p:PV→Bool)(xs:List PV):Int:=if xs.findIdx p<xs.length then(xs.findIdx p:Int) else -1
theorem z0C (p:PV→Bool)(xs:List PV):decide (0≤FE p xs)=xs.any p:=by
 unfold FE;rw[Bool.eq_iff_iff];by_cases h:xs.findIdx p<xs.length
 ·rw[if_pos h];simp only[decide_eq_true_eq,List.any_eq_true]
  exact⟨fun _=>⟨_,List.getElem_mem h,List.findIdx_getElem⟩,fun _=>by omega⟩
 ·rw[if_neg h];simp only[decide_eq_true_eq,List.any_eq_true]
  refine⟨fun h=>by omega,fun⟨x,hx,hp⟩=>absurd (List.findIdx_lt_length_of_exists ⟨x,hx,hp⟩) h⟩
def gL:List Int→Int
 | []=>0
 | e::r=>if e=0 then gL r else e
end Go.Am
end
section
/- Values of a shape: loads and stores in rows. -/
open Go
namespace Go.Am
variable {h:aA} {K:kA}
theorem zq4 {sh:Sh}{x:PV}(hx:x.shp sh=true):nB sh 0 x=some x:=by
 cases sh with
 | none=>exact zfn hx
 | some n=>
  cases x with
  | agg cs=>
   simp only[PV.shp,Bool.and_eq_true,beq_iff_eq]at hx;simp [nB,hx.1];exact List.take_of_length_le (by omega)
  | _=>cases hx
theorem zq5 {sh:Sh}{x y:PV}(hx:x.shp sh=true)(hy:y.shp sh=true)(id i fz:Nat)(xs:List PV)(h1:aA):stE sh id i 0 fz sh xs x h1 (some y)=some (.und,h1.set id (.row sh (xs.set i x) fz),[]):=by
 cases sh with
 | none=>
  cases y with
  | agg cs=>cases hy
  | _=>simp only[PV.shp]at hx;simp [stE,hx]
 | some n=>
  cases y with
  | agg cs=>
   cases x with
   | agg ds=>
    simp only[PV.shp,Bool.and_eq_true,beq_iff_eq]at hx hy;simp [stE,PV.cells,splice,hx.1,hy.1,show cs.drop n=[] from List.drop_of_length_le (by omega)]
   | _=>cases hx
  | _=>cases hy
def fH (sh:Sh)(xs:List PV):Prop:=∀x∈xs,x.shp sh=true
theorem zq7 {sh:Sh}{xs:List PV}(hx:fH sh xs){i:Nat}(hi:i<xs.length):xs[i].shp sh=true:=hx _ (List.getElem_mem hi)
theorem zq3 {h:aA}{id:Nat}{o:Obj}(hh:h[id]?=some o):h.set id o=h:=by
 apply List.ext_getElem?
 intro i;rw[List.getElem?_set];split
 ·rename_i e;subst e;rw[hh];simp [WG hh]
 ·rfl
structure Shows (sh:Sh) (v:AV) (xs:List PV) (h:aA):Prop where
 len:ZG v=some (AI xs.length)
 get:∀(k:Nat) (hk:k<xs.length),∃a,eD sh v (AI k) h=some a∧CA sh a h=some (.p xs[k])
theorem XP {sh:Sh}{xs:List PV}(hs:fH sh xs):Shows sh (.p (.sl sh xs)) xs h:=by
 refine⟨rfl,fun k hk=>⟨.vp xs[k],?_,?_⟩⟩
 ·simp [eD,vB,hk]
 ·simp only[z8f,zq4 (zq7 hs hk)];rfl
end Go.Am
end
section
/- Strings: keys,the library's functions without text. -/
open Go
set_option linter.unusedSimpArgs false
namespace Go.Am
variable {h:aA} {K:kA}
abbrev AS (s:List UInt8):AV:=.p (.str s)
theorem X_ext:X.ext=GK DH MS:=rfl
theorem z90 (s:List UInt8)(c:UInt8):bA X DH [AS s,.p (.int .u8 c.toNat)] h K=K (AI (dD s c)) h []:=by
 have:=ziM (X:=X) (f:=DH) (asv:=[AS s,.p (.int .u8 c.toNat)]) (vs:=[.str s,.int .u8 c.toNat]) (h:=h) (h1:=h) (r:=.int .i64 (dD s c)) (K:=K) (by kernel_rfl) rfl rfl rfl ?_
 ·exact this
 ·rw[X_ext]
  unfold GK;rw[show Nat.beq DH DH=true from by kernel_rfl]
  simp
theorem z3e (s:List UInt8)(c:UInt8):bA X UK [AS s,.p (.int .u8 c.toNat)] h K=K (AI (dD s c)) h []:=by
 have key:∀(h:aA) (K:kA),bA X FH [AS s,.p (.int .u8 c.toNat)] h K=K (AI (dD s c)) h []:=by
  intro h K;refine xA ?_;rw[z4L rfl];simp only[rN,go_sem,z90]
 refine xA ?_;rw[zeh rfl];simp only[QR,go_sem,key]
def GE (c:UInt8):Bool:=decide ((97:Int)≤c.toNat)&&decide ((c.toNat:Int)≤122)||decide ((48:Int)≤c.toNat)&&decide ((c.toNat:Int)≤57)||decide ((c.toNat:Int)=45)||decide ((c.toNat:Int)=95)
def MC (s:List UInt8):Bool:=match s with
 | []=>false
 | c::r=>decide (r.length<40)&&(decide ((97:Int)≤c.toNat)&&decide ((c.toNat:Int)≤122))&&(c::r).all GE
theorem z9p (s:List UInt8)(hl:s.length≤1000000000):bA X UD [AS s] h K=K (AB (MC s)) h []:=by
 refine xA ?_;rw[zdn rfl];cases s with
 | nil=>simp only[tH,go_sem,MC]
 | cons c r=>
  have n0:((c::r)=[])=False:=by simp
  have e1:(((r.length+1:Nat):Int)≤40)=(r.length<40):=by simp only[eq_iff_iff];omega
  by_cases h1:(40:Int)<((r.length+1:Nat):Int)
  ·have:¬r.length<40:=by omega
   simp only[tH,go_sem,n0,h1,MC,this]
  have h1':r.length<40:=by omega
  by_cases h2:(c.toNat:Int)<97
  ·have:¬(97:Int)≤c.toNat:=by omega
   simp only[tH,go_sem,n0,h1,h2,MC,this,h1']
  have h2':(97:Int)≤c.toNat:=by omega
  by_cases h3:(122:Int)<c.toNat
  ·have:¬(c.toNat:Int)≤122:=by omega
   simp only[tH,go_sem,n0,h1,h2,h3,MC,this,h1',h2']
  have h3':(c.toNat:Int)≤122:=by omega
  have ek:MC (c::r)=(c::r).all GE:=by simp [MC,h1',h2',h3']
  rw[ek];generalize hB:(c::r).all GE=B;simp only[tH,go_sem,n0,h1,h2,h3];have hlen:(c::r).length=r.length+1:=rfl
  rw[←hlen];generalize c::r=s at *;refine jB (fun k:Nat=>⟨[(0,AS s),(23,AI s.length),(24,AI k)],h,[]⟩) (fun k=>k≤s.length∧(s.take k).all GE=true) (fun k=>s.length-k) 0 rfl ⟨by omega,rfl⟩ ?_
  rintro k ⟨hk,hp⟩
  rcases Nat.lt_or_ge k s.length with hlt|hge
  ·have hg:s[k]?=some s[k]:=List.getElem?_eq_getElem hlt
   have w2:IntKind.i64.wrap ((k:Int)+1)=((k+1:Nat):Int):=GA _ (by omega) (by omega)
   generalize hc:s[k]=c at *;have key:(decide ((97:Int)≤c.toNat)&&decide ((c.toNat:Int)≤122)||decide ((48:Int)≤c.toNat)&&decide ((c.toNat:Int)≤57)||decide ((c.toNat:Int)=45)||decide ((c.toNat:Int)=95))=GE c:=rfl
   cases hkc:GE c with
   | true=>
    rw[hkc]at key;have hn:(s.take (k+1)).all GE=true:=by rw[List.take_succ_eq_append_getElem hlt,List.all_append,hp,hc];simp [hkc]
    by_cases b1:(97:Int)≤c.toNat <;> by_cases b2:(c.toNat:Int)≤122 <;> by_cases b3:(48:Int)≤c.toNat <;> by_cases b4:(c.toNat:Int)≤57 <;> by_cases b5:(c.toNat:Int)=45 <;> by_cases b6:(c.toNat:Int)=95
    all_goals first
     | (simp only[b1,b2,b3,b4,b5,b6,decide_true,decide_false,Bool.and_self,Bool.and_true,Bool.and_false,Bool.or_self,Bool.or_true,Bool.or_false,Bool.true_or,Bool.false_or,Bool.false_and,reduceCtorEq]at key;done)
     | (exfalso;omega)
     | (simp only[go_sem,hlt,hg,w2,b1,b2,b3,b4,b5,b6];exact⟨k+1,rfl,⟨by omega,hn⟩,by omega⟩)
   | false=>
    rw[hkc]at key;have hn:s.all GE=false:=by rw[List.all_eq_false];exact⟨_,List.getElem_mem hlt,by rw[hc,hkc];simp⟩
    rw[hn]at hB;subst hB;by_cases b1:(97:Int)≤c.toNat <;> by_cases b2:(c.toNat:Int)≤122 <;> by_cases b3:(48:Int)≤c.toNat <;> by_cases b4:(c.toNat:Int)≤57 <;> by_cases b5:(c.toNat:Int)=45 <;> by_cases b6:(c.toNat:Int)=95
    all_goals first
     | (simp only[b1,b2,b3,b4,b5,b6,decide_true,decide_false,Bool.and_self,Bool.and_true,Bool.and_false,Bool.or_self,Bool.or_true,Bool.or_false,Bool.true_or,Bool.false_or,Bool.false_and,reduceCtorEq]at key;done)
     | (exfalso;omega)
     | (simp only[go_sem,hlt,hg,b1,b2,b3,b4,b5,b6])
  ·have ek:k=s.length:=by omega
   subst ek;rw[List.take_length,hB]at hp;subst hp;simp only[go_sem,Nat.lt_irrefl]
theorem z0B (s:List UInt8)(c:UInt8):decide (dD s c<0) = !s.contains c:=by
 unfold dD;rw[Bool.eq_iff_iff];by_cases hf:s.findIdx (· == c)<s.length
 ·rw[if_pos hf]
  have:=List.findIdx_getElem (w:=hf);simp only[beq_iff_eq]at this;have hm:c∈s:=by rw[←this];exact List.getElem_mem hf
  simp [hm]
 ·rw[if_neg hf]
  have hm:¬c∈s:=fun hm=>hf (List.findIdx_lt_length_of_exists ⟨c,hm,by simp⟩)
  simp [hm]
theorem zpN (s t:List UInt8)(hl:s.length≤1000000000):bA X CO [AS s,AS t] h K=K (AB (s.all fun c=>t.contains c)) h []:=by
 refine xA ?_;rw[zdM rfl];simp only[wR,go_sem];refine jB (fun k:Nat=>⟨[(0,AS s),(1,AS t),(7,AI s.length),(8,AI k)],h,[]⟩) (fun k=>k≤s.length∧(s.take k).all (fun c=>t.contains c)=true) (fun k=>s.length-k) 0 rfl ⟨by omega,rfl⟩ ?_
 rintro k ⟨hk,hp⟩
 rcases Nat.lt_or_ge k s.length with hlt|hge
 ·have hg:s[k]?=some s[k]:=List.getElem?_eq_getElem hlt
  have w2:IntKind.i64.wrap ((k:Int)+1)=((k+1:Nat):Int):=GA _ (by omega) (by omega)
  have hi:=z0B t s[k]
  by_cases hc:dD t s[k]<0
  ·have:s.all (fun c=>t.contains c)=false:=by
    rw[List.all_eq_false];refine⟨_,List.getElem_mem hlt,?_⟩;rw[decide_eq_true hc]at hi;cases hq:t.contains s[k]with
    | true=>rw[hq]at hi;cases hi
    | false=>simp
   simp only[go_sem,hlt,hg,z3e,hc,this]
  ·rw[decide_eq_false hc]at hi
   have hq:t.contains s[k]=true:=by cases hq:t.contains s[k]with|true=>rfl|false=>rw[hq]at hi;cases hi
   simp only[go_sem,hlt,hg,z3e,hc,w2];exact⟨k+1,rfl,⟨by omega,by rw[List.take_succ_eq_append_getElem hlt,List.all_append,hp];simp only[List.all_cons,List.all_nil,hq];rfl⟩,by omega⟩
 ·have ek:k=s.length:=by omega
  subst ek;rw[List.take_length]at hp;simp only[go_sem,Nat.lt_irrefl,hp]
end Go.Am
end
section
/- What is wrong with devices,plainly. -/
set_option linter.all false
namespace Go.Am
def UB (pre:List TReg)(r:TReg):Int:=
 if MC r.name=false then 5 else if r.name=tB∨r.name=sB∨(pre.any fun x=>decide (x.name=r.name))=true then 6 else if r.long<1∨1000<r.long then 1 else 0
def LD:List TReg→List TReg→Int
 | _,[]=>0
 | pre,r::rs=>if UB pre r≠0 then UB pre r else LD (pre++[r]) rs
def QB (d:TDev)(pre:List TIns)(x:TIns):Int:=
 if(x.code.length:Int)≠d.long then 3 else if zA x.code=false then 9 else if x.code.contains 48=false then 16 else if(pre.any fun y=>decide (y.code=x.code))=true then 6 else if(kC d x.reg).isSome=false then 8 else 0
def mE (d:TDev):List TIns→List TIns→Int
 | _,[]=>0
 | pre,x::xs=>if QB d pre x≠0 then QB d pre x else mE d (pre++[x]) xs
def JF (pre:List TDev)(d:TDev):Int:=
 if MC d.name=false then 5 else if(pre.any fun x=>decide (x.name=d.name))=true then 6 else if(d.long<2∨32<d.long)∨(d.id<0∨4294967295<d.id) then 1
 else if d.id≠0∧d.id.tmod 2=0 then 3 else if(10:Int)<d.regs.length∨(100:Int)<d.ins.length then 2 else if LD [] d.regs≠0 then LD [] d.regs else mE d [] d.ins
def sF:List TDev→List TDev→Int
 | _,[]=>0
 | pre,d::ds=>if JF pre d≠0 then JF pre d else sF (pre++[d]) ds
def rF (ds:List TDev):Int:=if ds.length=0 then 8 else if 20<ds.length then 2 else sF [] ds
theorem z7W {s:List UInt8}(h:MC s=true):s.length≤40∧s≠[]:=by
 unfold MC at h;cases s with
 | nil=>cases h
 | cons c r=>
  simp only[Bool.and_eq_true,decide_eq_true_eq]at h;simp;omega
theorem z8L:∀ {rs pre:List TReg},LD pre rs=0→(∀ r∈rs,r.name≠tB∧r.name≠sB∧1≤r.long∧r.long≤1000∧∀ x∈pre,x.name≠r.name)∧(rs.map TReg.name).Nodup
 | [],_,_=>⟨by simp,by simp⟩
 | r::rs,pre,h=>by
  unfold LD at h;by_cases h0:UB pre r≠0
  ·rw[if_pos h0]at h;exact absurd h h0
  rw[if_neg h0]at h;obtain⟨a1,a2⟩:=z8L h;have h0:UB pre r=0:=by omega
  unfold UB at h0;split at h0
  ·cases h0
  split at h0
  ·cases h0
  rename_i n1;split at h0
  ·cases h0
  rename_i n2;rw[not_or,not_or]at n1;obtain⟨b1,b2,b3⟩:=n1;have b3:∀x∈pre,x.name≠r.name:=fun x hx e=>b3 (List.any_eq_true.2 ⟨x,hx,by simpa using e⟩)
  refine⟨fun y hy=>?_,?_⟩
  ·rcases List.mem_cons.1 hy with e|e
   ·subst e;exact⟨b1,b2,by omega,by omega,b3⟩
   ·obtain⟨c1,c2,c3,c4,c5⟩:=a1 y e
    exact⟨c1,c2,c3,c4,fun x hx=>c5 x (List.mem_append_left _ hx)⟩
  ·rw[List.map_cons,List.nodup_cons]
   refine⟨fun hm=>?_,a2⟩
   obtain⟨y,hy,e⟩:=List.mem_map.1 hm;exact(a1 y hy).2.2.2.2 r (by simp) e.symm
theorem z7T {d:TDev}:∀{xs pre:List TIns},mE d pre xs=0→∀x∈xs,(x.code.length:Int)=d.long∧(kC d x.reg).isSome=true
 | [],_,_,x,hx=>by cases hx
 | y::xs,pre,h,x,hx=>by
  unfold mE at h;by_cases h0:QB d pre y≠0
  ·rw[if_pos h0]at h;exact absurd h h0
  rw[if_neg h0]at h;have h0:QB d pre y=0:=by omega
  rcases List.mem_cons.1 hx with e|e
  ·subst e
   unfold QB at h0;split at h0
   ·cases h0
   rename_i n1;split at h0
   ·cases h0
   split at h0
   ·cases h0
   split at h0
   ·cases h0
   split at h0
   ·cases h0
   rename_i n5;exact⟨by omega,by cases q:(kC d x.reg).isSome with|true=>rfl|false=>exact absurd q n5⟩
  ·exact z7T h x e
theorem zfr {pre:List TDev}{d:TDev}(h:JF pre d=0):DevOk d∧∀x∈pre,x.name≠d.name:=by
 unfold JF at h;split at h
 ·cases h
 rename_i n1;split at h
 ·cases h
 rename_i n2;split at h
 ·cases h
 rename_i n3;split at h
 ·cases h
 split at h
 ·cases h
 rename_i n5;split at h
 ·rename_i n6;exact absurd h n6
 rename_i n6;have kn:MC d.name=true:=by simpa using n1
 obtain⟨r1,r2⟩:=z8L (show LD [] d.regs=0 by omega)
 have i1:=z7T h
 refine⟨⟨by omega,by omega,by omega,by omega,fun x hx e=>?_,fun x hx=>(i1 x hx).2,fun r hr=>(r1 r hr).1,fun r hr=>(r1 r hr).2.1,fun r hr=>⟨(r1 r hr).2.2.1,by have:=(r1 r hr).2.2.2.1;omega⟩,r2,by omega,by omega,by have:=(z7W kn).1;omega⟩,fun x hx e=>n2 (List.any_eq_true.2 ⟨x,hx,by simpa using e⟩)⟩
 have:=(i1 x hx).1;rw[e]at this;simp at this;omega
theorem z5w:∀ {ds pre:List TDev},sF pre ds=0→(∀ d∈ds,DevOk d∧∀ x∈pre,x.name≠d.name)∧(ds.map TDev.name).Nodup
 | [],_,_=>⟨by simp,by simp⟩
 | d::ds,pre,h=>by
  unfold sF at h;by_cases h0:JF pre d≠0
  ·rw[if_pos h0]at h;exact absurd h h0
  rw[if_neg h0]at h;obtain⟨b1,b2⟩:=zfr (show JF pre d=0 by omega)
  obtain⟨a1,a2⟩:=z5w h;refine⟨fun y hy=>?_,?_⟩
  ·rcases List.mem_cons.1 hy with e|e
   ·subst e;exact⟨b1,b2⟩
   ·obtain⟨c1,c2⟩:=a1 y e
    exact⟨c1,fun x hx=>c2 x (List.mem_append_left _ hx)⟩
  ·rw[List.map_cons,List.nodup_cons]
   refine⟨fun hm=>?_,a2⟩
   obtain⟨y,hy,e⟩:=List.mem_map.1 hm;exact(a1 y hy).2 d (by simp) e.symm
theorem zft {ds:List TDev}(h:rF ds=0):(∀d∈ds,DevOk d)∧(ds.map TDev.name).Nodup∧ds≠[]∧ds.length≤20:=by
 unfold rF at h;split at h
 ·cases h
 rename_i n1;split at h
 ·cases h
 obtain⟨a1,a2⟩:=z5w h;exact⟨fun d hd=>(a1 d hd).1,a2,fun e=>n1 (by rw[e];rfl),by omega⟩
structure DevB (d:TDev):Prop where
 n:d.name.length≤1000
 rs:d.regs.length≤1000
 is:d.ins.length≤1000
 rn:∀r∈d.regs,r.name.length≤1000
 ic:∀x∈d.ins,x.code.length≤1000∧x.reg.length≤1000
end Go.Am
end
section
/- Devices looked through: printed by program. -/
open Go
set_option linter.unusedSimpArgs false
namespace Go.Am
attribute [-go_sem] PV.cells splice
variable {h:aA} {K:kA}
theorem z3R {v:AV}{g:Nat}{caps:List AV}{p:PV→Bool}{xs:List PV}(hv:Shows (some 2) v xs h)(hp:sE g caps p xs h)(hl:xs.length≤1000000000) :
 bA X QK [v,.fn g caps] h K=K (AI (FE p xs)) h []:=by
 refine xA ?_;rw[zdZ];have vl:=hv.len
 simp only[KR,go_sem,vl];refine jB (fun k:Nat=>⟨[(0,v),(1,.fn g caps),(7,AI xs.length),(8,AI k)],h,[]⟩) (fun k=>k≤xs.length∧∀x∈xs.take k,p x=false) (fun k=>xs.length-k) 0 rfl (by simp) ?_
 rintro k ⟨hk,hn⟩
 rcases Nat.lt_or_ge k xs.length with hlt|hge
 ·obtain⟨a,ha,hb⟩:=hv.get k hlt
  have w2:IntKind.i64.wrap ((k:Int)+1)=((k+1:Nat):Int):=GA _ (by omega) (by omega)
  have ht:=hp _ (List.getElem_mem hlt)
  cases hpk:p xs[k]with
  | true=>
   have hf:xs.findIdx p=k:=by
    rw[List.findIdx_eq hlt];refine⟨hpk,fun j hj=>?_⟩
    have:=hn xs[j] (by rw[List.mem_take_iff_getElem];exact⟨j,by omega,rfl⟩)
    simpa using this
   simp only[go_sem,hlt,ha,hb,ht,hpk,w2];simp only[FE,hf,hlt,if_true]
  | false=>
   simp only[go_sem,hlt,ha,hb,ht,hpk,w2];refine⟨k+1,rfl,⟨by omega,fun x hx=>?_⟩,by omega⟩
   rw[List.take_succ_eq_append_getElem hlt,List.mem_append,List.mem_singleton]at hx;rcases hx with hx|hx
   ·exact hn x hx
   ·rw[hx];exact hpk
 ·have e1:k=xs.length:=by omega
  subst e1;simp only[go_sem,Nat.lt_irrefl];rw[List.take_length]at hn;have:¬xs.findIdx p<xs.length:=by
   rw[Nat.not_lt,Nat.le_iff_lt_or_eq];right
   exact(List.findIdx_eq_length.2 (fun x hx=>by simp [hn x hx])).symm
  simp [FE,this]
theorem ZV {g:Nat}{caps:List AV}{p:PV→Bool}{xs:List PV}(hp:sE g caps p xs h)(hs:fH (some 2) xs)(hl:xs.length≤1000000000) :
 bA X eJ [.p (.sl (some 2) xs),.fn g caps] h K=K (AB (xs.any p)) h []:=by
 refine xA ?_;rw[zdV];have vi:=fun K=>z3R (h:=h) (K:=K) (XP hs) hp hl
 simp only[GR,go_sem,vi,z0C]
theorem zaS {v:AV}{g:Nat}{caps:List AV}{p:PV→Bool}{xs:List PV}(hv:Shows (some 2) v xs h)(hp:sE g caps p xs h)(hl:xs.length≤1000000000) :
 bA X JO [v,.fn g caps] h K=K (AI (FE p xs)) h []:=by
 refine xA ?_;rw[zdY];have vl:=hv.len
 simp only[JR,go_sem,vl];refine jB (fun k:Nat=>⟨[(0,v),(1,.fn g caps),(7,AI xs.length),(8,AI k)],h,[]⟩) (fun k=>k≤xs.length∧∀x∈xs.take k,p x=false) (fun k=>xs.length-k) 0 rfl (by simp) ?_
 rintro k ⟨hk,hn⟩
 rcases Nat.lt_or_ge k xs.length with hlt|hge
 ·obtain⟨a,ha,hb⟩:=hv.get k hlt
  have w2:IntKind.i64.wrap ((k:Int)+1)=((k+1:Nat):Int):=GA _ (by omega) (by omega)
  have ht:=hp _ (List.getElem_mem hlt)
  cases hpk:p xs[k]with
  | true=>
   have hf:xs.findIdx p=k:=by
    rw[List.findIdx_eq hlt];refine⟨hpk,fun j hj=>?_⟩
    have:=hn xs[j] (by rw[List.mem_take_iff_getElem];exact⟨j,by omega,rfl⟩)
    simpa using this
   simp only[go_sem,hlt,ha,hb,ht,hpk,w2];simp only[FE,hf,hlt,if_true]
  | false=>
   simp only[go_sem,hlt,ha,hb,ht,hpk,w2];refine⟨k+1,rfl,⟨by omega,fun x hx=>?_⟩,by omega⟩
   rw[List.take_succ_eq_append_getElem hlt,List.mem_append,List.mem_singleton]at hx;rcases hx with hx|hx
   ·exact hn x hx
   ·rw[hx];exact hpk
 ·have e1:k=xs.length:=by omega
  subst e1;simp only[go_sem,Nat.lt_irrefl];rw[List.take_length]at hn;have:¬xs.findIdx p<xs.length:=by
   rw[Nat.not_lt,Nat.le_iff_lt_or_eq];right
   exact(List.findIdx_eq_length.2 (fun x hx=>by simp [hn x hx])).symm
  simp [FE,this]
theorem z3P {g:Nat}{caps:List AV}{p:PV→Bool}{xs:List PV}(hp:sE g caps p xs h)(hs:fH (some 2) xs)(hl:xs.length≤1000000000) :
 bA X PK [.p (.sl (some 2) xs),.fn g caps] h K=K (AB (xs.any p)) h []:=by
 refine xA ?_;rw[zdU];have vi:=fun K=>zaS (h:=h) (K:=K) (XP hs) hp hl
 simp only[ER,go_sem,vi,z0C]
theorem zaR {v:AV}{g:Nat}{caps:List AV}{p:PV→Bool}{xs:List PV}(hv:Shows (some 5) v xs h)(hp:sE g caps p xs h)(hl:xs.length≤1000000000) :
 bA X HO [v,.fn g caps] h K=K (AI (FE p xs)) h []:=by
 refine xA ?_;rw[zdX];have vl:=hv.len
 simp only[IR,go_sem,vl];refine jB (fun k:Nat=>⟨[(0,v),(1,.fn g caps),(7,AI xs.length),(8,AI k)],h,[]⟩) (fun k=>k≤xs.length∧∀x∈xs.take k,p x=false) (fun k=>xs.length-k) 0 rfl (by simp) ?_
 rintro k ⟨hk,hn⟩
 rcases Nat.lt_or_ge k xs.length with hlt|hge
 ·obtain⟨a,ha,hb⟩:=hv.get k hlt
  have w2:IntKind.i64.wrap ((k:Int)+1)=((k+1:Nat):Int):=GA _ (by omega) (by omega)
  have ht:=hp _ (List.getElem_mem hlt)
  cases hpk:p xs[k]with
  | true=>
   have hf:xs.findIdx p=k:=by
    rw[List.findIdx_eq hlt];refine⟨hpk,fun j hj=>?_⟩
    have:=hn xs[j] (by rw[List.mem_take_iff_getElem];exact⟨j,by omega,rfl⟩)
    simpa using this
   simp only[go_sem,hlt,ha,hb,ht,hpk,w2];simp only[FE,hf,hlt,if_true]
  | false=>
   simp only[go_sem,hlt,ha,hb,ht,hpk,w2];refine⟨k+1,rfl,⟨by omega,fun x hx=>?_⟩,by omega⟩
   rw[List.take_succ_eq_append_getElem hlt,List.mem_append,List.mem_singleton]at hx;rcases hx with hx|hx
   ·exact hn x hx
   ·rw[hx];exact hpk
 ·have e1:k=xs.length:=by omega
  subst e1;simp only[go_sem,Nat.lt_irrefl];rw[List.take_length]at hn;have:¬xs.findIdx p<xs.length:=by
   rw[Nat.not_lt,Nat.le_iff_lt_or_eq];right
   exact(List.findIdx_eq_length.2 (fun x hx=>by simp [hn x hx])).symm
  simp [FE,this]
theorem z3O {g:Nat}{caps:List AV}{p:PV→Bool}{xs:List PV}(hp:sE g caps p xs h)(hs:fH (some 5) xs)(hl:xs.length≤1000000000) :
 bA X OK [.p (.sl (some 5) xs),.fn g caps] h K=K (AB (xs.any p)) h []:=by
 refine xA ?_;rw[zdT];have vi:=fun K=>zaR (h:=h) (K:=K) (XP hs) hp hl
 simp only[DR,go_sem,vi,z0C]
end Go.Am
end
section
/- Maps,asv lists of keys with values. -/
open Go
set_option linter.all false
namespace Go.Am
section
variable {α β:Type} [DecidableEq α]
def ZE (key:α→PV)(val:β→AV):Nat→List (α×β)→List ME
 | _,[]=>[]
 | n,e::r=>⟨key e.1,val e.2,n⟩::ZE key val (n+1) r
def RA (key:α→PV)(val:β→AV)(l:List (α × β)):Obj:=.amap (ZE key val 0 l) l.length
def oD (k:α):List (α×β)→Option Nat
 | []=>none
 | e::r=>if k=e.1 then some 0 else(oD k r).map (· + 1)
def oB (k:α):List (α×β)→Option β
 | []=>none
 | e::r=>if k=e.1 then some e.2 else oB k r
def GB (k:α)(v:β):List (α×β)→List (α×β)
 | []=>[(k,v)]
 | e::r=>if k=e.1 then(k,v)::r else e::GB k v r
def ZM (key:α→PV):Prop:=∀a b,PV.eqv (key a) (key b)=some (decide (a=b))
theorem z7Y:ZM PV.str:=fun a b=>rfl
theorem z0F:ZM (fun n:Int=>PV.int .i64 n):=fun a b=>by simp [PV.eqv,PV.eq1]
theorem z7Z {s:List UInt8}:tD (none,[2]) (.p (.str s))=some (.str s):=by simp [tD,PV.key,PV.shp,PV.sc,PV.cells,PV.kind]
theorem z0G {n:Int}{k:IntKind}:tD (none,[0]) (.p (.int k n))=some (.int k n):=by simp [tD,PV.key,PV.shp,PV.sc,PV.cells,PV.kind]
variable {key:α→PV} {val:β→AV}
theorem z0L (hk:ZM key)(k:α):∀(l:List (α×β)) (n:Nat),FC (key k) (ZE key val n l)=some (oD k l)
 | [],n=>rfl
 | e::r,n=>by
  simp only[ZE,FC,hk k e.1,oD];by_cases h:k=e.1
  ·simp [h]
  ·simp [h,z0L hk k r (n+1)]
theorem jT:∀ (l:List (α × β)) (n i:Nat),(ZE key val n l)[i]?=(l[i]?).map fun e=>⟨key e.1,val e.2,n+i⟩
 | [],n,i=>rfl
 | e::r,n,0=>rfl
 | e::r,n,i+1=>by simp only[ZE,List.getElem?_cons_succ,jT r (n+1) i];rw[show n+1+i=n+(i+1) by omega]
theorem zas {k:α}:∀{l:List (α×β)} {i:Nat},oD k l=some i→i<l.length
 | [],i,h=>by cases h
 | e::r,i,h=>by
  unfold oD at h;split at h
  ·cases h;simp
  ·obtain⟨j,hj,e2⟩:=Option.map_eq_some_iff.1 h
   have:=zas hj;simp;omega
theorem z39 {k:α}:∀{l:List (α×β)} {i:Nat},oD k l=some i→l[i]?=(oB k l).map fun v=>(k,v)
 | [],i,h=>by cases h
 | e::r,i,h=>by
  unfold oD at h;unfold oB;split at h
  ·rename_i hk;cases h;simp [hk]
  ·rename_i hk
   obtain⟨j,hj,e2⟩:=Option.map_eq_some_iff.1 h;subst e2;rw[if_neg hk,List.getElem?_cons_succ];exact z39 hj
theorem zat {k:α}:∀{l:List (α×β)},oD k l=none→oB k l=none
 | [],h=>rfl
 | e::r,h=>by
  unfold oD at h;unfold oB;split at h
  ·cases h
  ·rename_i hk
   rw[if_neg hk];exact zat (by simpa using h)
theorem zau {k:α}:∀{l:List (α×β)} {i:Nat},oD k l=some i→(oB k l).isSome=true
 | [],i,h=>by cases h
 | e::r,i,h=>by
  unfold oD at h;unfold oB;split at h
  ·rename_i hk;simp [hk]
  ·rename_i hk
   obtain⟨j,hj,e2⟩:=Option.map_eq_some_iff.1 h;rw[if_neg hk];exact zau hj
theorem zkW {k:α}{l:List (α × β)}{n:Nat}:((oD k l).bind fun i=>(ZE key val n l)[i]?).map ME.val=(oB k l).map val:=by
 cases h:oD k l with
 | none=>rw[zat h];rfl
 | some i=>
  simp only[Option.bind_some,jT,z39 h];cases oB k l <;> rfl
theorem zag {k:α}{v:β}:∀{l:List (α×β)},oD k l=none→GB k v l=l++[(k,v)]
 | [],h=>rfl
 | e::r,h=>by
  unfold oD at h;unfold GB;split at h
  ·cases h
  ·rename_i hk
   rw[if_neg hk,zag (by simpa using h)];rfl
theorem zah {k:α}{v:β}:∀{l:List (α×β)} {i:Nat},oD k l=some i→GB k v l=l.set i (k,v)
 | [],i,h=>by cases h
 | e::r,i,h=>by
  unfold oD at h;unfold GB;split at h
  ·rename_i hk;cases h;simp [hk]
  ·rename_i hk
   obtain⟨j,hj,e2⟩:=Option.map_eq_some_iff.1 h;subst e2;rw[if_neg hk,zah hj];rfl
theorem z8m (k:α)(v:β):∀(l:List (α×β)) (n:Nat),ZE key val n (l++[(k,v)])=ZE key val n l++[⟨key k,val v,n+l.length⟩]
 | [],n=>rfl
 | e::r,n=>by simp only[List.cons_append,ZE,z8m k v r (n+1),List.length_cons];rw[show n+1+r.length=n+(r.length+1) by omega]
theorem zlb {k:α}{v:β}{l:List (α × β)}{i n:Nat}(h:oD k l=some i):(ZE key val n l).modify i (fun e=>{ e with val:=val v })=ZE key val n (l.set i (k,v)):=by
 apply List.ext_getElem?
 intro j;rw[List.getElem?_modify,jT,jT,List.getElem?_set];have hi:=zas h
 have hg:=z39 h
 by_cases hij:i=j
 ·subst hij
  rw[hg];simp only[if_true,hi];obtain⟨w,hw⟩:=Option.isSome_iff_exists.1 (zau h);rw[hw];rfl
 ·simp [hij]
variable {h:aA} {id:Nat} {l:List (α × β)} {kk:Sh × List Nat} {k:α}
theorem z8n (hh:h[id]?=some (RA key val l)):vC h (.mp id)=some (id,ZE key val 0 l,l.length):=by
 simp only[vC,hh,RA]
theorem z0J (hk:ZM key)(hh:h[id]?=some (RA key val l))(hq:tD kk (.p (key k))=some (key k)){ok:Bool}{z:AV} :
 XB kk ok z (.mp id) (.p (key k)) h=some (bif ok then .tup [((oB k l).map val).getD z,AV.p (.bool (oB k l).isSome)] else((oB k l).map val).getD z):=by
 simp only[XB,hq,z8n hh,Option.map_some,z0L hk,zkW,Option.isSome_map];rfl
theorem z8p (hk:ZM key)(hh:h[id]?=some (RA key val l))(hq:tD kk (.p (key k))=some (key k)){v:β}(hv:UH (val v)=true) :
 rC kk (.mp id) (.p (key k)) (val v) h=some (.und,h.set id (RA key val (GB k v l)),UC id (val v)):=by
 simp only[rC,hq,z8n hh,hv,z0L hk];cases hw:oD k l with
 | none=>
  simp only[RA,zag hw,z8m,List.length_append,List.length_cons,List.length_nil,Nat.zero_add]
 | some i=>
  simp only[RA,zah hw,zlb hw,List.length_set]
end
end Go.Am
end
