/- Texts of the proof, laid together: CodesG, CodesH, AmL, AmC, Ctx, SpStream, MathFrac, SpBase, SpList, PSort, SpShp, SpStr, SpFind, SpLimD, PBrd. -/
import Derived.KernelRfl
import Derived.Test.YtddfpebjibeclaaGreatDoorlawCS6
set_option linter.all false
section
/- The functions asv abstract code,and asv formulas over their values: printed by program out of the translation. -/
set_option linter.unusedVariables false
set_option maxRecDepth 100000
namespace Go.Am
def zoz:ACode:=.pr [0,7,18,19,20] (.seq (rg [bN 21 .lss 20 19] [0,7,18,19,20,21])
(.seq (.cond 21 .skip
(.exit 0))
(.seq (.block 1 (.seq (rg [iA 22 (some 2) 18 20,
lD 23 (some 2) 22,
uO 9 (.alloc [.p (.int .i64 0),.sl0 none]),
wO (.store (some 2) 9 23)] [0,7,9,18,19,20])
(dr [dF (mV 24 7) [7],
dF (lD 25 (some 2) 9) [9],
dF (mV 26 0) [0],
dF (iA 27 none 26 (cI 0)) [26],
dF (lD 28 none 27) [27],
dF (uO 29 (.lens 28)) [28],
dA (cL 30 z5b [29]) [29] true [] [1],
dT (cL 31 z5c [24,25,30]) [24,25,30]] [0,7,18,19,20])))
(rg [bN 32 .add 20 (cI 1),
mV 20 32] [0,7,18,19,20]))))
def zo0:ACode:=.pr [0,7] (.seq (rg [mV 33 7,
mV 34 0,
iA 35 none 34 (cI 0),
lD 36 none 35,
uO 37 (.lens 36),
cL 38 z5a [33,37],
mV 4 38,
mV 5 (cI 0)] [4,5])
.ret)
def zbx (q1 q2:ACode):ACode:=(.seq (rg [mV 4 (.c (.p (.sl none []))),
mV 5 (cI 0)] [0,1])
(.seq (.seq (rg [mV 10 0,
mV 11 1,
cL 12 z4X [10,11],
mV 6 12] [0,1,6])
(.seq (rg [mV 13 6,
bN 14 .neq 13 (cI 0)] [0,1,6,14])
(.cond 14 (.seq (rg [mV 15 6,
mV 4 (.c (.p (.sl none []))),
mV 5 15] [4,5])
.ret)
.skip)))
(.seq (rg [mV 16 0,
cL 17 z4Z [16],
mV 7 17] [0,1,7])
(.seq (.seq (rg [mV 18 1,
lN 19 18,
mV 20 (cI 0)] [0,7,18,19,20])
(.block 0 (.loop (.scope q1))))
q2))))
def zdl:AFun:=⟨2,[.t 4,.t 5],zbx zoz zo0,false,false⟩
def zby:ACode:=(.seq (rg [uO 3 (.box 1),
mV 4 (.c (.p (.sl none []))),
mV 5 (cI 0)] [0,3])
(.seq (rg [mV 6 0,
lD 7 (some 2) 3,
uO 8 (.bsl false (some 2) 1 (.agg [.int .i64 0,.sl none []]) [(0,7)]),
cL 9 z4V [6,8],
eX 10 9 0,
eX 11 9 1,
mV 4 10,
mV 5 11] [4,5])
.ret))
def zdm:AFun:=⟨2,[.t 4,.t 5],zby,false,false⟩
def zo1:ACode:=.pr [0,14,15,16] (.seq (rg [bN 17 .lss 16 15] [0,14,15,16,17])
(.seq (.cond 17 .skip
(.exit 0))
(.seq (.block 1 (.seq (rg [iA 18 (some 2) 14 16,
lD 19 (some 2) 18,
uO 7 (.alloc [.p (.int .i64 0),.sl0 none]),
wO (.store (some 2) 7 19)] [0,7,14,15,16])
(.seq (rg [mV 20 0,
lN 21 20,
lD 22 (some 2) 7,
cL 23 z4T [21,22],
mV 8 23] [0,8,14,15,16])
(.seq (rg [mV 24 8,
bN 25 .neq 24 (cI 0)] [0,8,14,15,16,25])
(.cond 25 (.seq (rg [mV 26 8,
mV 4 26] [4])
.ret)
.skip)))))
(rg [bN 27 .add 16 (cI 1),
mV 16 27] [0,14,15,16]))))
def zo2:ACode:=.pr [] (.seq (rg [mV 4 (cI 0)] [4])
.ret)
def zbz (q1 q2:ACode):ACode:=(.seq (rg [mV 4 (cI 0)] [0,1])
(.seq (.seq (rg [mV 9 0,
cL 10 z4U [9],
mV 5 10] [0,1,5])
(.seq (rg [mV 11 5,
bN 12 .neq 11 (cI 0)] [0,1,5,12])
(.cond 12 (.seq (rg [mV 13 5,
mV 4 13] [4])
.ret)
.skip)))
(.seq (.seq (rg [mV 14 1,
lN 15 14,
mV 16 (cI 0)] [0,14,15,16])
(.block 0 (.loop (.scope q1))))
q2)))
def zdn:AFun:=⟨2,[.t 4],zbz zo1 zo2,false,false⟩
def zb0:ACode:=(.seq (rg [mV 2 cF] [0])
(.seq (rg [mV 3 0,
cL 4 fC [3,(cI 3),(cI 5)],
uO 5 (.un .not 4),
mV 2 5] [2])
.ret))
def zdo:AFun:=⟨1,[.t 2],zb0,false,false⟩
def zo3:ACode:=.pr [3,5,6,8,9,10,15,16] (.seq (rg [bN 17 .lss 16 15] [3,5,6,8,9,10,15,16,17])
(.seq (.cond 17 .skip
(.exit 2))
(.seq (.block 3 (.seq (rg [mV 18 16,
mV 7 18] [3,5,6,7,8,9,10,15,16])
(rg [mV 19 6,
mV 20 5,
mV 21 7,
uO 22 (.idxs 20 21),
bN 23 .sub 22 (.c (.p (.int .u8 48))),
uO 24 (.conv (.i .u64) 23),
mV 25 7,
bN 26 .shl 24 25,
bN 27 .or 19 26,
mV 6 27] [3,5,6,8,9,10,15,16])))
(rg [bN 28 .add 16 (cI 1),
mV 16 28] [3,5,6,8,9,10,15,16]))))
def zo4:ACode:=.pr [3,6,8,9,10] (rg [mV 29 3,
mV 30 6,
uO 31 (.bsl false none 1 (.int .u64 0) [(0,30)]),
uO 32 (.app none 29 31),
mV 3 32] [3,8,9,10])
def zo5:ACode:=.pr [3,8,9,10] (rg [bN 33 .add 10 (cI 1),
mV 10 33] [3,8,9,10])
def zb2 (q1 q2 q3:ACode):ACode:=.pr [3,8,9,10] (.seq (rg [bN 11 .lss 10 9] [3,8,9,10,11])
(.seq (.cond 11 .skip
(.exit 0))
(.seq (.block 1 (.seq (rg [iA 12 none 8 10,
lD 13 none 12,
mV 5 13] [3,5,8,9,10])
(.seq (rg [mV 6 (.c (.p (.int .u64 0)))] [3,5,6,8,9,10])
(.seq (.seq (rg [mV 14 5,
uO 15 (.lens 14),
mV 16 (cI 0)] [3,5,6,8,9,10,15,16])
(.block 2 (.loop q1)))
q2))))
q3)))
def zo6:ACode:=zb2 zo3 zo4 zo5
def zo7:ACode:=.pr [3] (.seq (rg [mV 34 3,
mV 2 34] [2])
.ret)
def zb1 (q4 q5:ACode):ACode:=(.seq (rg [mV 2 (.c (.p (.sl none [])))] [0])
(.seq (rg [uO 3 (.new0 none)] [0,3])
(.seq (.seq (rg [mV 8 0,
lN 9 8,
mV 10 (cI 0)] [3,8,9,10])
(.block 0 (.loop (.scope q4))))
q5)))
def zdp:AFun:=⟨1,[.t 2],zb1 zo6 zo7,false,true⟩
def zo8:ACode:=.pr [1,5,7,8,10,11,12,19,20] (.seq (rg [bN 21 .lss 20 19] [1,5,7,8,10,11,12,19,20,21])
(.seq (.cond 21 .skip
(.exit 2))
(.seq (.block 3 (.seq (rg [mV 22 20,
mV 9 22] [1,5,7,8,9,10,11,12,19,20])
(rg [mV 23 8,
mV 24 9,
mV 25 7,
mV 26 9,
bN 27 .shr 25 26,
bN 28 .and 27 (.c (.p (.int .u64 1))),
bN 29 .add (.c (.p (.int .u64 48))) 28,
uO 30 (.conv (.i .u8) 29),
iA 31 none 23 24,
wO (.store none 31 30)] [1,5,7,8,10,11,12,19,20])))
(rg [bN 32 .add 20 (cI 1),
mV 20 32] [1,5,7,8,10,11,12,19,20]))))
def zo9:ACode:=.pr [1,5,8,10,11,12] (rg [mV 33 5,
mV 34 8,
uO 35 (.conv .b2s 34),
uO 36 (.bsl false none 1 (.str []) [(0,35)]),
uO 37 (.app none 33 36),
mV 5 37] [1,5,10,11,12])
def zoA:ACode:=.pr [1,5,10,11,12] (rg [bN 38 .add 12 (cI 1),
mV 12 38] [1,5,10,11,12])
def zb4 (q1 q2 q3:ACode):ACode:=.pr [1,5,10,11,12] (.seq (rg [bN 13 .lss 12 11] [1,5,10,11,12,13])
(.seq (.cond 13 .skip
(.exit 0))
(.seq (.block 1 (.seq (rg [iA 14 none 10 12,
lD 15 none 14,
mV 7 15] [1,5,7,10,11,12])
(.seq (rg [mV 16 1,
uO 17 (.mksl none (.int .u8 0) 16 16),
mV 8 17] [1,5,7,8,10,11,12])
(.seq (.seq (rg [mV 18 8,
lN 19 18,
mV 20 (cI 0)] [1,5,7,8,10,11,12,19,20])
(.block 2 (.loop q1)))
q2))))
q3)))
def zoB:ACode:=zb4 zo8 zo9 zoA
def zoC:ACode:=.pr [5] (.seq (rg [mV 39 5,
mV 4 39] [4])
.ret)
def zb3 (q4 q5:ACode):ACode:=(.seq (rg [mV 4 (.c (.p (.sl none [])))] [0,1])
(.seq (rg [uO 5 (.new0 none)] [0,1,5])
(.seq (.seq (rg [mV 10 0,
lN 11 10,
mV 12 (cI 0)] [1,5,10,11,12])
(.block 0 (.loop (.scope q4))))
q5)))
def zdq:AFun:=⟨2,[.t 4],zb3 zoB zoC,false,false⟩
def zb5:ACode:=(.seq (rg [mV 2 (.c (.p (.int .u64 0)))] [0])
(.seq (rg [mV 3 0,
bN 4 .shl (.c (.p (.int .u64 1))) 3,
bN 5 .sub 4 (.c (.p (.int .u64 1))),
mV 2 5] [2])
.ret))
def zdr:AFun:=⟨1,[.t 2],zb5,false,false⟩
def zoD:ACode:=.pr [0,4,6,31,32,33] (.seq (rg [bN 34 .lss 33 32] [0,4,6,31,32,33,34])
(.seq (.cond 34 .skip
(.exit 1))
(.seq (.block 2 (.seq (rg [iA 35 none 31 33,
lD 36 none 35,
mV 8 36] [0,4,6,8,31,32,33])
(rg [mV 37 6,
mV 38 0,
mV 39 8,
iA 40 none 38 39,
lD 41 none 40,
bN 42 .and 37 41,
mV 6 42] [0,4,6,31,32,33])))
(rg [bN 43 .add 33 (cI 1),
mV 33 43] [0,4,6,31,32,33]))))
def zoE:ACode:=.pr [0,4,6,47,48,49] (.seq (rg [bN 50 .lss 49 48] [0,4,6,47,48,49,50])
(.seq (.cond 50 .skip
(.exit 3))
(.seq (.block 4 (.seq (rg [iA 51 none 47 49,
lD 52 none 51,
mV 10 52] [0,4,6,10,47,48,49])
(rg [mV 53 6,
mV 54 0,
mV 55 10,
iA 56 none 54 55,
lD 57 none 56,
bN 58 .or 53 57,
mV 6 58] [0,4,6,47,48,49])))
(rg [bN 59 .add 49 (cI 1),
mV 49 59] [0,4,6,47,48,49]))))
def zb7 (q1 q2:ACode):ACode:=.pr [0,2,4,6,21,24] (.cond 24 (rg [mV 27 2,
mV 6 27] [0,4,6])
(.seq (rg [bN 29 .eql 21 (cI 3),
mV 28 29] [0,4,6,21,28])
(.cond 28 (.seq (rg [fA 30 1 none 4,
lD 31 none 30,
lN 32 31,
mV 33 (cI 0)] [0,4,6,31,32,33])
(.block 1 (.loop q1)))
(.seq (rg [bN 45 .eql 21 (cI 4),
mV 44 45] [0,4,6,44])
(.cond 44 (.seq (rg [fA 46 1 none 4,
lD 47 none 46,
lN 48 47,
mV 49 (cI 0)] [0,4,6,47,48,49])
(.block 3 (.loop q2)))
.skip)))))
def zoF:ACode:=zb7 zoD zoE
def zoG:ACode:=.pr [0,6,61,62,63] (.seq (rg [bN 64 .lss 63 62] [0,6,61,62,63,64])
(.seq (.cond 64 .skip
(.exit 5))
(.seq (.block 6 (.seq (rg [iA 65 none 61 63,
lD 66 none 65,
mV 12 66] [0,6,12,61,62,63])
(rg [mV 67 0,
mV 68 12,
mV 69 6,
iA 70 none 67 68,
wO (.store none 70 69)] [0,6,61,62,63])))
(rg [bN 71 .add 63 (cI 1),
mV 63 71] [0,6,61,62,63]))))
def zb8 (q4:ACode):ACode:=.pr [0,4,6] (.seq (rg [fA 60 1 none 4,
lD 61 none 60,
lN 62 61,
mV 63 (cI 0)] [0,6,61,62,63])
(.block 5 (.loop q4)))
def zoH:ACode:=zb8 zoG
def zb6 (q3 q5:ACode):ACode:=(.seq (rg [uO 4 (.box 1)] [0,2,4])
(.seq (rg [mV 13 0,
fA 14 1 none 4,
lD 15 none 14,
iA 16 none 15 (cI 0),
lD 17 none 16,
iA 18 none 13 17,
lD 19 none 18,
mV 6 19] [0,2,4,6])
(.seq (.seq (rg [fA 20 0 none 4,
lD 21 none 20] [0,2,4,6,21])
(.block 0 (.seq (rg [bN 23 .eql 21 (cI 1),
mV 22 23] [0,2,4,6,21,22])
(.cond 22 (rg [mV 6 (.c (.p (.int .u64 0)))] [0,4,6])
(.seq (.seq (rg [bN 25 .eql 21 (cI 2),
mV 24 25] [0,2,4,6,21,24])
(.cond 24 .skip
(rg [bN 26 .eql 21 (cI 6),
mV 24 26] [0,2,4,6,21,24])))
q3)))))
q5)))
def zds:AFun:=⟨3,[],zb6 zoF zoH,true,false⟩
def zbC:ACode:=(.seq (rg [uO 2 (.alloc [.p (.int .i64 0),.p (.int .i64 0)]),
uO 3 (.alloc [.p (.int .i64 0),.p (.int .i64 0)]),
mV 4 (cI 0)] [0,2,3])
(.seq (.seq (rg [mV 9 0,
cL 10 z5g [9,(cI 1)],
mV 5 10] [0,2,3,5])
(.seq (rg [mV 11 5,
bN 12 .neq 11 (cI 0)] [0,2,3,5,12])
(.cond 12 (.seq (rg [uO 13 (.build [.p (.int .i64 0),.p (.int .i64 0)] []),
uO 14 (.build [.p (.int .i64 0),.p (.int .i64 0)] []),
mV 15 5,
wO (.store (some 2) 2 13),
wO (.store (some 2) 3 14),
mV 4 15] [2,3,4])
.ret)
.skip)))
(.seq (rg [mV 17 0,
cL 18 z5f [17],
mV 16 18,
eX 19 16 0,
eX 20 16 1,
mV 6 19,
mV 7 20] [0,2,3,6,7])
(.seq (rg [mV 21 0,
lN 22 21,
mV 8 22] [2,3,6,7,8])
(.seq (rg [mV 23 6,
mV 24 8,
cL 25 wW [23,24],
mV 26 7,
mV 27 8,
mV 28 8,
bN 29 .mul 27 28,
cL 30 wW [26,29],
wO (.store (some 2) 2 25),
wO (.store (some 2) 3 30),
mV 4 (cI 0)] [2,3,4])
.ret)))))
def zdt:AFun:=⟨1,[.cell 2 (some 2),.cell 3 (some 2),.t 4],zbC,false,false⟩
def zbD:ACode:=(.seq (rg [mV 2 cF] [0])
(.seq (rg [mV 3 0,
cL 4 fC [3,(cI (-100000)),(cI 100000)],
uO 5 (.un .not 4),
mV 2 5] [2])
.ret))
def zdu:AFun:=⟨1,[.t 2],zbD,false,false⟩
def zoI:ACode:=.pr [0,2,4,7,8,9] (.seq (rg [bN 10 .lss 9 8] [0,2,4,7,8,9,10])
(.seq (.cond 10 .skip
(.exit 0))
(.seq (.block 1 (.seq (rg [iA 11 none 7 9,
lD 12 none 11,
mV 6 12] [0,2,4,6,7,8,9])
(.seq (rg [mV 13 2,
mV 14 6,
bN 15 .add 13 14,
mV 2 15] [0,2,4,6,7,8,9])
(rg [mV 16 4,
mV 17 6,
mV 18 6,
bN 19 .mul 17 18,
bN 20 .add 16 19,
mV 4 20] [0,2,4,7,8,9]))))
(rg [bN 21 .add 9 (cI 1),
mV 9 21] [0,2,4,7,8,9]))))
def zoJ:ACode:=.pr [0,2,4] (.seq (rg [mV 22 2,
mV 23 0,
lN 24 23,
mV 25 4,
bN 26 .mul 24 25,
mV 27 2,
mV 28 2,
bN 29 .mul 27 28,
bN 30 .sub 26 29,
mV 2 22,
mV 3 30] [2,3])
.ret)
def zbE (q1 q2:ACode):ACode:=(.seq (rg [mV 2 (cI 0),
mV 3 (cI 0)] [0,2])
(.seq (rg [mV 4 (cI 0)] [0,2,4])
(.seq (.seq (rg [mV 7 0,
lN 8 7,
mV 9 (cI 0)] [0,2,4,7,8,9])
(.block 0 (.loop q1)))
q2)))
def zdv:AFun:=⟨1,[.t 2,.t 3],zbE zoI zoJ,false,false⟩
def zbF:ACode:=(.seq (rg [mV 4 (cI 0)] [0,1])
(.seq (.block 0 (.seq (rg [mV 6 0,
lN 7 6,
mV 8 1,
bN 9 .lss 7 8,
mV 5 9] [0,5])
(.cond 5 (.seq (rg [mV 4 (cI 8)] [4])
.ret)
(.seq (rg [mV 11 0,
lN 12 11,
bN 13 .gtr 12 (cI 5000),
mV 10 13] [0,10])
(.cond 10 (.seq (rg [mV 4 (cI 2)] [4])
.ret)
(.seq (rg [mV 15 0,
cL 16 z5k [15,(.f z5h)],
mV 14 16] [14])
(.cond 14 (.seq (rg [mV 4 (cI 1)] [4])
.ret)
.skip)))))))
(.seq (rg [mV 4 (cI 0)] [4])
.ret)))
def zdw:AFun:=⟨2,[.t 4],zbF,false,false⟩
def zbG:ACode:=(.seq (rg [mV 2 cF] [0])
(.seq (rg [mV 3 0,
cL 4 z5e [3],
uO 5 (.un .not 4),
mV 2 5] [2])
.ret))
def zdx:AFun:=⟨1,[.t 2],zbG,false,false⟩
def zbI:ACode:=(.seq (rg [mV 0 cF] [])
(.seq (rg [cL 13 z5j [],
uO 14 (.bsl false none 1 (.str []) [(0,(cS [49]))]),
cL 15 mH [13,14],
mV 12 15,
eX 16 12 0,
eX 17 12 1,
mV 1 16,
mV 2 17] [1,2])
(.seq (rg [uO 19 (.bsl false none 1 (.str []) [(0,(cS [48,49]))]),
uO 20 (.bsl false none 1 (.int .i64 0) [(0,(cI 0))]),
uO 21 (.build [.p (.int .i64 0),.sl0 none] [(0,1,(cI 2)),(1,1,20)]),
cL 22 z4W [19,21],
mV 18 22,
eX 23 18 0,
eX 24 18 1,
mV 3 23,
mV 4 24] [1,2,3,4])
(.seq (rg [uO 26 (.build [.p (.int .i64 0),.p (.int .i64 0),.p (.int .i64 0),.p (.str []),.p (.str []),.p (.str [])] [(0,1,(cI 7)),(3,1,(cS [49,48]))]),
uO 27 (.bsl false (some 6) 1 (.agg [.int .i64 0,.int .i64 0,.int .i64 0,.str [],.str [],.str []]) [(0,26)]),
cL 28 z5J [27],
mV 25 28,
eX 29 25 0,
eX 30 25 1,
mV 5 29,
mV 6 30] [1,2,3,4,5,6])
(.seq (rg [uO 32 (.bsl false none 2 (.int .i64 0) [(0,(cI 1)),(1,(cI 3))]),
cL 33 z5d [32],
mV 31 33,
eX 34 31 0,
eX 35 31 1,
eX 36 31 2,
uO 7 (.alloc [.p (.int .i64 0),.p (.int .i64 0)]),
uO 8 (.alloc [.p (.int .i64 0),.p (.int .i64 0)]),
wO (.store (some 2) 7 34),
wO (.store (some 2) 8 35),
mV 9 36] [1,2,3,4,5,6,7,9])
(.seq (rg [uO 38 (.bsl false none 1 (.str []) [(0,(cS [115,99,97,110]))]),
uO 39 (.build [.sl0 none,.p (.int .i64 0)] [(0,1,38),(1,1,(cI 1))]),
uO 40 (.build [.p (.str []),.p (.int .i64 0),.p (.int .i64 0),.p (.int .i64 0),.p (.str []),.p (.str []),.p (.str []),.p (.int .i64 0)] [(0,1,(cS [97])),(1,1,(cI 1)),(3,1,(cI 1)),(4,1,(cS [98]))]),
uO 41 (.bsl false (some 8) 1 (.agg [.str [],.int .i64 0,.int .i64 0,.int .i64 0,.str [],.str [],.str [],.int .i64 0]) [(0,40)]),
cL 42 z54 [39,41,(cS [98]),(cI 0)],
mV 37 42,
eX 43 37 0,
eX 44 37 1,
uO 10 (.alloc [.p (.int .i64 0),.p (.int .i64 0),.p (.str []),.p (.str []),.p (.int .i64 0)]),
wO (.store (some 5) 10 43),
mV 11 44] [1,2,3,4,5,6,7,9,10,11])
(.seq (rg [mV 45 2,
mV 46 4,
mV 47 6,
mV 48 9,
mV 49 11,
uO 50 (.bsl false none 5 (.int .i64 0) [(0,45),(1,46),(2,47),(3,48),(4,49)]),
cL 51 EG [50],
bN 52 .eql 51 (cI 0),
mV 53 52,
gD 54 53 true (.mv 1),
gD 55 53 true (.len 54),
gD 56 53 true (.bin .eql 55 (cI 1)),
uO 57 (.pick 53 56 cF),
mV 58 57,
gD 59 58 true (.mv 1),
gD 60 58 true (.iaddr none 59 (cI 0)),
gD 61 58 true (.load none 60),
gD 62 58 true (.bin .eql 61 (cI 1)),
uO 63 (.pick 58 62 cF),
mV 64 63,
gD 65 64 true (.mv 3),
gD 66 64 true (.len 65),
gD 67 64 true (.bin .eql 66 (cI 1)),
uO 68 (.pick 64 67 cF),
mV 69 68,
gD 70 69 true (.mv 3),
gD 71 69 true (.iaddr none 70 (cI 0)),
gD 72 69 true (.load none 71),
gD 73 69 true (.bin .eql 72 (cS [49,49])),
uO 74 (.pick 69 73 cF),
mV 75 74,
gD 76 75 true (.mv 5),
gD 77 75 true (.bin .eql 76 (cI 9)),
uO 78 (.pick 75 77 cF),
mV 79 78,
gD 80 79 true (.faddr 0 none 7),
gD 81 79 true (.load none 80),
gD 82 79 true (.bin .eql 81 (cI 2)),
uO 83 (.pick 79 82 cF),
mV 84 83,
gD 85 84 true (.faddr 0 none 10),
gD 86 84 true (.load none 85),
gD 87 84 true (.bin .eql 86 (cI 1)),
uO 88 (.pick 84 87 cF),
mV 0 88] [0])
.ret)))))))
def zdy:AFun:=⟨0,[.t 0],zbI,false,false⟩
def zbJ:ACode:=(.seq (rg [uO 0 (.alloc [.sl0 (some 2),.sl0 (some 3),.sl0 (some 2)])] [0])
(.seq (rg [uO 1 (.build [.p (.int .i64 0),.p (.str []),.p (.int .i64 0),.p (.int .i64 0)] [(0,1,(cI 2)),(1,1,(cS [97])),(2,1,(cI (-1)))]),
uO 2 (.bsl false (some 4) 1 (.agg [.int .i64 0,.str [],.int .i64 0,.int .i64 0]) [(0,1)]),
uO 3 (.build [.p (.str []),.sl0 (some 4)] [(0,1,(cS [117])),(1,1,2)]),
uO 4 (.bsl false (some 2) 1 (.agg [.str [],.sl (some 4) []]) [(0,3)]),
uO 5 (.build [.p (.str []),.p (.str []),.p (.str [])] [(0,1,(cS [110])),(1,1,(cS [117])),(2,1,(cS [97]))]),
uO 6 (.bsl false (some 3) 1 (.agg [.str [],.str [],.str []]) [(0,5)]),
uO 7 (.build [.sl0 (some 2),.sl0 (some 3),.sl0 (some 2)] [(0,1,4),(1,1,6)]),
wO (.store (some 3) 0 7)] [0])
.ret))
def zdz:AFun:=⟨0,[.cell 0 (some 3)],zbJ,false,false⟩
def zcf:ACode:=(.seq (rg [mV 4 cF] [0,1])
(.seq (rg [mV 5 0,
mV 6 1,
cL 7 z5m [5,6],
bN 8 .geq 7 (cI 0),
mV 4 8] [4])
.ret))
def zd0:AFun:=⟨2,[.t 4],zcf,true,false⟩
def zch:ACode:=(.seq (rg [mV 4 cF] [0,1])
(.seq (rg [mV 5 0,
mV 6 1,
cL 7 z5n [5,6],
bN 8 .geq 7 (cI 0),
mV 4 8] [4])
.ret))
def zd1:AFun:=⟨2,[.t 4],zch,true,false⟩
def zoK:ACode:=.pr [0,1,7,8] (.seq (rg [bN 9 .lss 8 7] [0,1,7,8,9])
(.seq (.cond 9 .skip
(.exit 0))
(.seq (.block 1 (.seq (rg [mV 10 8,
mV 5 10] [0,1,5,7,8])
(.seq (rg [mV 11 1,
mV 12 0,
mV 13 5,
iA 14 none 12 13,
lD 15 none 14,
uO 16 (.callv 11 [15])] [0,1,5,7,8,16])
(.cond 16 (.seq (rg [mV 17 5,
mV 4 17] [4])
.ret)
.skip))))
(rg [bN 18 .add 8 (cI 1),
mV 8 18] [0,1,7,8]))))
def zoL:ACode:=.pr [] (.seq (rg [mV 4 (cI (-1))] [4])
.ret)
def zcj (q1 q2:ACode):ACode:=(.seq (rg [mV 4 (cI 0)] [0,1])
(.seq (.seq (rg [mV 6 0,
lN 7 6,
mV 8 (cI 0)] [0,1,7,8])
(.block 0 (.loop q1)))
q2))
def zd2:AFun:=⟨2,[.t 4],zcj zoK zoL,true,false⟩
def zoM:ACode:=.pr [0,1,7,8] (.seq (rg [bN 9 .lss 8 7] [0,1,7,8,9])
(.seq (.cond 9 .skip
(.exit 0))
(.seq (.block 1 (.seq (rg [mV 10 8,
mV 5 10] [0,1,5,7,8])
(.seq (rg [mV 11 1,
mV 12 0,
mV 13 5,
iA 14 none 12 13,
lD 15 none 14,
bN 16 .eql 11 15] [0,1,5,7,8,16])
(.cond 16 (.seq (rg [mV 17 5,
mV 4 17] [4])
.ret)
.skip))))
(rg [bN 18 .add 8 (cI 1),
mV 8 18] [0,1,7,8]))))
def zoN:ACode:=.pr [] (.seq (rg [mV 4 (cI (-1))] [4])
.ret)
def zck (q1 q2:ACode):ACode:=(.seq (rg [mV 4 (cI 0)] [0,1])
(.seq (.seq (rg [mV 6 0,
lN 7 6,
mV 8 (cI 0)] [0,1,7,8])
(.block 0 (.loop q1)))
q2))
def zd3:AFun:=⟨2,[.t 4],zck zoM zoN,true,false⟩
def zoO:ACode:=.pr [0,9,10,11] (.seq (rg [bN 12 .lss 11 10] [0,9,10,11,12])
(.seq (.cond 12 .skip
(.exit 0))
(.seq (.block 1 (.seq (rg [mV 13 11,
iA 14 (some 8) 9 11,
lD 15 (some 8) 14,
uO 4 (.alloc [.p (.str []),.p (.int .i64 0),.p (.int .i64 0),.p (.int .i64 0),.p (.str []),.p (.str []),.p (.str []),.p (.int .i64 0)]),
mV 3 13,
wO (.store (some 8) 4 15)] [0,3,4,9,10,11])
(.seq (.seq (rg [lD 16 (some 8) 4,
cL 17 z57 [16],
mV 5 17] [0,3,4,5,9,10,11])
(.seq (rg [mV 18 5,
bN 19 .neq 18 (cI 0)] [0,3,4,5,9,10,11,19])
(.cond 19 (.seq (rg [mV 20 5,
mV 2 20] [2])
.ret)
.skip)))
(.seq (dr [dF (mV 21 3) [3],
dF (bN 22 .gtr 21 (cI 0)) [21],
dF (mV 23 22) [22],
dF (gD 24 23 true (.load (some 8) 4)) [4,23],
dF (gD 25 23 true (.mv 0)) [0,23],
dF (gD 26 23 true (.mv 3)) [3,23],
dF (gD 27 23 true (.bin .sub 26 (cI 1))) [26,23],
dF (gD 28 23 true (.iaddr (some 8) 25 27)) [25,27,23],
dF (gD 29 23 true (.load (some 8) 28)) [28,23],
dT (gD 30 23 true (.call z55 [24,29])) [24,29,23],
dF (gD 31 23 true (.bin .leq 30 (cI 0))) [30,23],
dF (uO 32 (.pick 23 31 cF)) [23,31]] [0,9,10,11,32])
(.cond 32 (.seq (rg [mV 2 (cI 7)] [2])
.ret)
.skip)))))
(rg [bN 33 .add 11 (cI 1),
mV 11 33] [0,9,10,11]))))
def zoP:ACode:=.pr [0] (.seq (.seq (rg [mV 34 0,
cL 35 z5F [34]] [35])
(.cond 35 (.seq (rg [mV 2 (cI 6)] [2])
.ret)
.skip))
(.seq (rg [mV 2 (cI 0)] [2])
.ret))
def zcn (q1 q2:ACode):ACode:=(.seq (rg [mV 2 (cI 0)] [0])
(.seq (.seq (rg [mV 6 0,
lN 7 6,
bN 8 .gtr 7 (cI 2000)] [0,8])
(.cond 8 (.seq (rg [mV 2 (cI 2)] [2])
.ret)
.skip))
(.seq (.seq (rg [mV 9 0,
lN 10 9,
mV 11 (cI 0)] [0,9,10,11])
(.block 0 (.loop (.scope q1))))
q2)))
def zd4:AFun:=⟨1,[.t 2],zcn zoO zoP,false,false⟩
def zoQ:ACode:=.pr [1,16,17,18] (.seq (rg [bN 19 .lss 18 17] [1,16,17,18,19])
(.seq (.cond 19 .skip
(.exit 1))
(.seq (.block 2 (.seq (rg [mV 20 18,
iA 21 none 16 18,
lD 22 none 21,
mV 3 20,
mV 4 22] [1,3,4,16,17,18])
(.block 3 (.seq (rg [mV 24 4,
cL 25 wD [24],
uO 26 (.un .not 25),
mV 23 26] [1,3,4,16,17,18,23])
(.cond 23 (.seq (rg [mV 2 (cI 5)] [2])
.ret)
(.seq (rg [fA 28 0 none 1,
lD 29 none 28,
mV 30 3,
uO 31 (.slice none 29 none (some 30) none),
mV 32 4,
cL 33 nE [31,32],
mV 27 33] [1,16,17,18,27])
(.cond 27 (.seq (rg [mV 2 (cI 6)] [2])
.ret)
.skip)))))))
(rg [bN 34 .add 18 (cI 1),
mV 18 34] [1,16,17,18]))))
def zoR:ACode:=.pr [1] (.seq (.seq (rg [fA 35 1 none 1,
lD 36 none 35,
cL 37 fC [36,(cI 1),(cI 10)]] [37])
(.cond 37 (.seq (rg [mV 2 (cI 1)] [2])
.ret)
.skip))
(.seq (rg [mV 2 (cI 0)] [2])
.ret))
def zco (q1 q2:ACode):ACode:=(.seq (rg [uO 1 (.box 0),
mV 2 (cI 0)] [1])
(.seq (.block 0 (.seq (rg [fA 6 0 none 1,
lD 7 none 6,
lN 8 7,
bN 9 .eql 8 (cI 0),
mV 5 9] [1,5])
(.cond 5 (.seq (rg [mV 2 (cI 8)] [2])
.ret)
(.seq (rg [fA 11 0 none 1,
lD 12 none 11,
lN 13 12,
bN 14 .gtr 13 (cI 20),
mV 10 14] [1,10])
(.cond 10 (.seq (rg [mV 2 (cI 2)] [2])
.ret)
.skip)))))
(.seq (.seq (rg [fA 15 0 none 1,
lD 16 none 15,
lN 17 16,
mV 18 (cI 0)] [1,16,17,18])
(.block 1 (.loop q1)))
q2)))
def zd5:AFun:=⟨1,[.t 2],zco zoQ zoR,false,false⟩
def zcp:ACode:=(.seq (rg [uO 4 (.box 0),
uO 8 (.alloc [.p (.int .i64 0),.p (.int .i64 0),.p (.str []),.p (.str []),.p (.int .i64 0)]),
mV 9 (cI 0)] [1,2,3,4,8])
(.seq (.seq (rg [lD 12 (some 2) 4,
mV 13 1,
mV 14 3,
cL 15 z58 [12,13,14],
mV 10 15] [1,2,3,4,8,10])
(.seq (rg [mV 16 10,
bN 17 .neq 16 (cI 0)] [1,2,3,4,8,10,17])
(.cond 17 (.seq (rg [uO 18 (.build [.p (.int .i64 0),.p (.int .i64 0),.p (.str []),.p (.str []),.p (.int .i64 0)] []),
mV 19 10,
wO (.store (some 5) 8 18),
mV 9 19] [8,9])
.ret)
.skip)))
(.seq (.seq (rg [mV 20 2,
cL 21 wD [20],
uO 22 (.un .not 21)] [1,2,3,4,8,22])
(.cond 22 (.seq (rg [uO 23 (.build [.p (.int .i64 0),.p (.int .i64 0),.p (.str []),.p (.str []),.p (.int .i64 0)] []),
wO (.store (some 5) 8 23),
mV 9 (cI 5)] [8,9])
.ret)
.skip))
(.seq (dr [dF (lD 24 (some 2) 4) [4],
dF (mV 25 1) [1],
dF (mV 26 3) [3],
dA (cL 27 z5G [25,26]) [25,26] true [] [0],
dT (cL 28 z5D [24,27]) [24,27],
dF (uO 29 (.nilchk 28)) [28],
dF (fA 30 2 none 29) [29],
dF (lD 31 none 30) [30],
dF (mV 32 2) [2],
dF (uO 33 (.look (none,[2]) false (.nilp) 31 32)) [31,32],
dF (mV 11 33) [33]] [8,11])
(.seq (.seq (rg [mV 34 11,
uO 35 (.isnil 0 false 34)] [8,11,35])
(.cond 35 (.seq (rg [uO 36 (.build [.p (.int .i64 0),.p (.int .i64 0),.p (.str []),.p (.str []),.p (.int .i64 0)] []),
wO (.store (some 5) 8 36),
mV 9 (cI 8)] [8,9])
.ret)
.skip))
(.seq (rg [mV 37 11,
uO 38 (.nilchk 37),
lD 39 (some 5) 38,
wO (.store (some 5) 8 39),
mV 9 (cI 0)] [8,9])
.ret))))))
def zd6:AFun:=⟨4,[.cell 8 (some 5),.t 9],zcp,false,false⟩
def zcq:ACode:=(.seq (rg [uO 2 (.box 0),
uO 3 (.box 1),
mV 4 (cI 0)] [2,3])
(.seq (dr [dF (fA 5 2 none 2) [2],
dF (lD 6 none 5) [5],
dF (fA 7 2 none 3) [3],
dF (lD 8 none 7) [7],
dT (cL 9 yW [6,8]) [6,8],
dF (fA 10 0 none 2) [2],
dA (lD 11 none 10) [10] false [4] [],
dF (fA 12 0 none 3) [3],
dA (lD 13 none 12) [12] false [4] [],
dT (cL 14 oE [11,13]) [11,13],
dF (fA 15 1 none 2) [2],
dA (lD 16 none 15) [15] false [4,9] [],
dF (fA 17 1 none 3) [3],
dA (lD 18 none 17) [17] false [4,9] [],
dT (cL 19 yW [16,18]) [16,18],
dF (uO 20 (.bsl false none 3 (.int .i64 0) [(0,9),(1,14),(2,19)])) [9,14,19],
dT (cL 21 pH [20]) [20],
dF (mV 4 21) [21]] [4])
.ret))
def zd7:AFun:=⟨2,[.t 4],zcq,false,false⟩
def zoS:ACode:=.pr [0,3,4,5] (rg [mV 16 5,
bN 17 .sub 16 (cI 1),
mV 5 17] [0,3,4,5])
def zcs (q1:ACode):ACode:=.pr [0,3,4,5] (.seq (.seq (rg [mV 14 5,
bN 15 .geq 14 (cI 0)] [0,3,4,5,15])
(.cond 15 .skip
(.exit 0)))
(.seq (.block 1 (.seq (rg [mV 18 0,
mV 19 5,
iA 20 (some 8) 18 19,
lD 21 (some 8) 20,
uO 6 (.alloc [.p (.str []),.p (.int .i64 0),.p (.int .i64 0),.p (.int .i64 0),.p (.str []),.p (.str []),.p (.str []),.p (.int .i64 0)]),
wO (.store (some 8) 6 21)] [0,3,4,5,6])
(.seq (rg [mV 22 4,
mV 23 5,
mV 24 3,
fA 25 0 none 6,
lD 26 none 25,
fA 27 1 none 6,
lD 28 none 27,
uO 29 (.build [.p (.str []),.p (.int .i64 0)] [(0,1,26),(1,1,28)]),
uO 30 (.look ((some 2),[2,0]) false (AB false) 24 29),
uO 31 (.un .not 30),
iA 32 none 22 23,
wO (.store none 32 31)] [0,3,4,5,6])
(.seq (rg [mV 33 4,
mV 34 5,
iA 35 none 33 34,
lD 36 none 35,
mV 37 36,
gD 38 37 true (.faddr 3 none 6),
gD 39 37 true (.load none 38),
gD 40 37 true (.bin .eql 39 (cI 7)),
uO 41 (.pick 37 40 cF)] [0,3,4,5,6,41])
(.cond 41 (rg [mV 42 3,
fA 43 6 none 6,
lD 44 none 43,
fA 45 7 none 6,
lD 46 none 45,
uO 47 (.build [.p (.str []),.p (.int .i64 0)] [(0,1,44),(1,1,46)]),
wO (.mupd ((some 2),[2,0]) 42 47 cT)] [0,3,4,5])
.skip)))))
q1))
def zoT:ACode:=zcs zoS
def zoU:ACode:=.pr [4] (.seq (rg [mV 48 4,
mV 2 48] [2])
.ret)
def zcr (q2 q3:ACode):ACode:=(.seq (rg [mV 2 (.c (.p (.sl none [])))] [0])
(.seq (rg [uO 7 (.mkmap),
mV 3 7] [0,3])
(.seq (rg [mV 8 0,
lN 9 8,
uO 10 (.mksl none (.bool false) 9 9),
mV 4 10] [0,3,4])
(.seq (.seq (rg [mV 11 0,
lN 12 11,
bN 13 .sub 12 (cI 1),
mV 5 13] [0,3,4,5])
(.block 0 (.loop (.scope q2))))
q3))))
def zd8:AFun:=⟨1,[.t 2],zcr zoT zoU,false,false⟩
def zct:ACode:=(.seq (rg [uO 1 (.box 0),
mV 2 (cI 0)] [1])
(.seq (dr [dF (fA 5 3 none 1) [1],
dF (lD 6 none 5) [5],
dF (bN 7 .eql 6 (cI 7)) [6],
dF (fA 8 3 none 1) [1],
dF (lD 9 none 8) [8],
dF (bN 10 .eql 9 (cI 2)) [9],
dF (mV 3 7) [7],
dF (mV 4 10) [10]] [1,3,4])
(.seq (.block 0 (.seq (rg [fA 12 0 none 1,
lD 13 none 12,
cL 14 wD [13],
uO 15 (.un .not 14),
mV 11 15] [1,3,4,11])
(.cond 11 (.seq (rg [mV 2 (cI 5)] [2])
.ret)
(.seq (rg [fA 17 1 none 1,
lD 18 none 17,
cL 19 fC [18,(cI 1),(cI 1000000)],
mV 20 19,
gD 21 20 false (.faddr 2 none 1),
gD 22 20 false (.load none 21),
gD 23 20 false (.call xW [22]),
gD 24 20 false (.un .not 23),
uO 25 (.pick 20 cT 24),
mV 16 25] [1,3,4,16])
(.cond 16 (.seq (rg [mV 2 (cI 1)] [2])
.ret)
(.seq (rg [fA 27 3 none 1,
lD 28 none 27,
cL 29 fC [28,(cI 1),(cI 7)],
mV 26 29] [1,3,4,26])
(.cond 26 (.seq (rg [mV 2 (cI 4)] [2])
.ret)
(.seq (rg [mV 31 3,
uO 32 (.un .not 31),
mV 33 32,
gD 34 33 true (.faddr 4 none 1),
gD 35 33 true (.load none 34),
gD 36 33 true (.call wD [35]),
gD 37 33 true (.un .not 36),
uO 38 (.pick 33 37 cF),
mV 39 38,
gD 40 39 false (.mv 4),
gD 41 39 false (.mv 40),
gD 42 41 true (.faddr 5 none 1),
gD 43 41 true (.load none 42),
gD 44 41 true (.call wD [43]),
gD 45 41 true (.un .not 44),
gD 46 39 false (.pick 41 45 cF),
uO 47 (.pick 39 cT 46),
mV 48 47,
gD 49 48 false (.mv 3),
gD 50 48 false (.mv 49),
gD 51 50 true (.faddr 6 none 1),
gD 52 50 true (.load none 51),
gD 53 50 true (.call wD [52]),
gD 54 50 true (.un .not 53),
gD 55 48 false (.pick 50 54 cF),
uO 56 (.pick 48 cT 55),
mV 30 56] [1,3,4,30])
(.cond 30 (.seq (rg [mV 2 (cI 5)] [2])
.ret)
(.seq (rg [mV 58 3,
mV 59 58,
gD 60 59 true (.faddr 7 none 1),
gD 61 59 true (.load none 60),
gD 62 59 true (.call fC [61,(cI 1),(cI 1000000)]),
uO 63 (.pick 59 62 cF),
mV 57 63] [1,3,4,57])
(.cond 57 (.seq (rg [mV 2 (cI 1)] [2])
.ret)
(.seq (rg [mV 65 3,
mV 66 65,
gD 67 66 true (.faddr 4 none 1),
gD 68 66 true (.load none 67),
gD 69 66 true (.bin .neq 68 (cS [])),
uO 70 (.pick 66 69 cF),
mV 71 70,
gD 72 71 false (.mv 4),
gD 73 71 false (.un .not 72),
gD 74 71 false (.mv 73),
gD 75 74 true (.faddr 5 none 1),
gD 76 74 true (.load none 75),
gD 77 74 true (.bin .neq 76 (cS [])),
gD 78 71 false (.pick 74 77 cF),
uO 79 (.pick 71 cT 78),
mV 80 79,
gD 81 80 false (.mv 3),
gD 82 80 false (.un .not 81),
gD 83 80 false (.mv 82),
gD 84 83 true (.faddr 6 none 1),
gD 85 83 true (.load none 84),
gD 86 83 true (.bin .neq 85 (cS [])),
gD 87 83 true (.mv 86),
gD 88 87 false (.faddr 7 none 1),
gD 89 87 false (.load none 88),
gD 90 87 false (.bin .neq 89 (cI 0)),
gD 91 83 true (.pick 87 cT 90),
gD 92 80 false (.pick 83 91 cF),
uO 93 (.pick 80 cT 92),
mV 64 93] [64])
(.cond 64 (.seq (rg [mV 2 (cI 3)] [2])
.ret)
.skip)))))))))))))
(.seq (rg [mV 2 (cI 0)] [2])
.ret))))
def zd9:AFun:=⟨1,[.t 2],zct,false,false⟩
def zcu:ACode:=(.seq (rg [uO 3 (.box 0),
mV 6 (cI 0)] [1,2,3])
(.seq (rg [lD 7 (some 2) 3,
cL 8 z53 [7],
mV 9 1,
cL 10 z52 [9],
mV 11 2,
cL 12 z5E [11],
uO 13 (.bsl false none 3 (.int .i64 0) [(0,8),(1,10),(2,12)]),
cL 14 z4R [13],
mV 6 14] [6])
.ret))
def zdA:AFun:=⟨3,[.t 6],zcu,false,false⟩
def zcv:ACode:=(.seq (rg [mV 4 (cI 0)] [0,1])
(.seq (rg [mV 5 0,
uO 6 (.nilchk 5),
fA 7 0 (some 2) 6,
fA 8 0 none 7,
lD 9 none 8,
mV 10 1,
cL 11 vH [9,10],
mV 4 11] [4])
.ret))
def zdB:AFun:=⟨2,[.t 4],zcv,false,false⟩
def zoV:ACode:=.pr [] (.seq (rg [mV 6 (cI 0)] [6])
.ret)
def zoW:ACode:=.pr [] (.seq (rg [mV 6 (cI 0)] [6])
.ret)
def zcx (q2:ACode):ACode:=.pr [0,1] (.seq (rg [mV 98 1,
uO 99 (.nilchk 98),
fA 100 4 none 99,
lD 101 none 100,
bN 102 .add 101 (cI 1),
uO 103 (.nilchk 98),
fA 104 4 none 103,
wO (.store none 104 102)] [0,1])
(.seq (rg [mV 105 1,
uO 106 (.nilchk 105),
fA 107 0 none 106,
wO (.store none 107 (cI 3))] [0,1])
(.seq (.seq (dr [dF (mV 108 1) [1],
dF (uO 109 (.nilchk 108)) [108],
dF (fA 110 4 none 109) [109],
dF (lD 111 none 110) [110],
dF (mV 112 0) [0],
dF (uO 113 (.nilchk 112)) [112],
dF (fA 114 0 (some 2) 113) [113],
dF (fA 115 1 none 114) [114],
dF (lD 116 none 115) [115],
dF (bN 117 .eql 111 116) [111,116]] [1,117])
(.cond 117 (rg [mV 118 1,
uO 119 (.nilchk 118),
fA 120 0 none 119,
wO (.store none 120 (cI 5))] [])
.skip))
q2)))
def zoX:ACode:=zcx zoW
def zcw (q1 q3:ACode):ACode:=(.seq (rg [uO 5 (.box 2),
mV 6 (cI 0)] [0,1,5])
(.seq (.block 0 (.seq (rg [mV 10 1,
uO 11 (.nilchk 10),
fA 12 0 none 11,
lD 13 none 12,
bN 14 .neq 13 (cI 2),
mV 9 14] [0,1,5,9])
(.cond 9 (.seq (rg [mV 6 (cI 11)] [6])
.ret)
(.seq (dr [dF (mV 16 1) [1],
dF (uO 17 (.nilchk 16)) [16],
dF (fA 18 3 none 17) [17],
dF (lD 19 none 18) [18],
dF (fA 20 0 none 5) [5],
dF (lD 21 none 20) [20],
dF (bN 22 .neq 19 21) [19,21],
dF (mV 15 22) [22]] [0,1,5,15])
(.cond 15 (.seq (rg [mV 6 (cI 13)] [6])
.ret)
.skip)))))
(.seq (rg [fA 23 3 none 5,
lD 24 none 23,
bN 25 .eql 24 (cI 3),
mV 7 25] [0,1,5,7])
(.seq (dr [dF (mV 26 0) [0],
dF (mV 27 0) [0],
dF (uO 28 (.nilchk 27)) [27],
dF (fA 29 4 none 28) [28],
dF (lD 30 none 29) [29],
dF (fA 31 4 none 5) [5],
dF (lD 32 none 31) [31],
dF (mV 33 1) [1],
dF (uO 34 (.nilchk 33)) [33],
dF (fA 35 2 none 34) [34],
dF (lD 36 none 35) [35],
dF (mV 37 1) [1],
dF (uO 38 (.nilchk 37)) [37],
dF (fA 39 1 none 38) [38],
dF (lD 40 none 39) [39],
dF (fA 41 2 none 5) [5],
dF (lD 42 none 41) [41],
dF (mV 43 7) [7],
dF (uO 44 (.build [.p (.str []),.p (.str []),.p (.int .i64 0),.p (.int .i64 0),.p (.bool false)] [(0,1,32),(1,1,36),(2,1,40),(3,1,42),(4,1,43)])) [32,36,40,42,43],
dF (uO 45 (.bsl false (some 5) 1 (.agg [.str [],.str [],.int .i64 0,.int .i64 0,.bool false]) [(0,44)])) [44],
dT (uO 46 (.app (some 5) 30 45)) [30,45],
dF (uO 47 (.nilchk 26)) [26],
dF (fA 48 4 none 47) [47],
dT (wO (.store none 48 46)) [48,46]] [0,1,5,7])
(.seq (rg [mV 49 0,
mV 50 1,
fA 51 2 none 5,
lD 52 none 51,
cL 53 BW [49,50,52]] [0,1,5,7])
(.seq (rg [mV 54 1,
fA 55 2 none 5,
lD 56 none 55,
uO 57 (.nilchk 54),
fA 58 1 none 57,
wO (.store none 58 56)] [0,1,7])
(.seq (.seq (rg [mV 59 7] [0,1,59])
(.cond 59 (.seq (rg [mV 60 1,
uO 61 (.nilchk 60),
fA 62 4 none 61,
wO (.store none 62 (cI 0))] [0,1])
(.seq (rg [mV 63 0,
mV 64 1,
uO 65 (.nilchk 64),
fA 66 2 none 65,
lD 67 none 66,
cL 68 z59 [63,67],
bN 69 .add 68 (cI 1),
mV 8 69] [0,1,8])
(.seq (.seq (rg [mV 70 8,
mV 71 0,
uO 72 (.nilchk 71),
fA 73 0 (some 2) 72,
fA 74 0 none 73,
lD 75 none 74,
lN 76 75,
bN 77 .eql 70 76] [0,1,8,77])
(.cond 77 (rg [mV 78 1,
mV 79 1,
uO 80 (.nilchk 78),
fA 81 0 none 80,
wO (.store none 81 (cI 4)),
uO 82 (.nilchk 79),
fA 83 2 none 82,
wO (.store none 83 (cS []))] [])
(rg [mV 84 1,
mV 85 1,
mV 86 0,
uO 87 (.nilchk 86),
fA 88 0 (some 2) 87,
fA 89 0 none 88,
lD 90 none 89,
mV 91 8,
iA 92 none 90 91,
lD 93 none 92,
uO 94 (.nilchk 84),
fA 95 0 none 94,
wO (.store none 95 (cI 1)),
uO 96 (.nilchk 85),
fA 97 2 none 96,
wO (.store none 97 93)] [])))
q1)))
.skip))
q3)))))))
def zdC:AFun:=⟨3,[.t 6],zcw zoV zoX,false,false⟩
def zoY:ACode:=.pr [0,1,2,11,12] (rg [bN 47 .add 12 (cI 1),
mV 12 47] [0,1,2,11,12])
def zcz (q1:ACode):ACode:=.pr [0,1,2,11,12] (.seq (rg [bN 13 .lss 12 11] [0,1,2,11,12,13])
(.seq (.cond 13 .skip
(.exit 0))
(.seq (.block 1 (.seq (rg [mV 14 12,
mV 6 14] [0,1,2,6,11,12])
(.seq (dr [dF (mV 15 0) [0],
dF (uO 16 (.nilchk 15)) [15],
dF (fA 17 5 none 16) [16],
dF (lD 18 none 17) [17],
dF (mV 19 6) [6],
dF (iA 20 (some 3) 18 19) [18,19],
dF (fA 21 0 none 20) [20],
dF (lD 22 none 21) [21],
dF (mV 23 1) [1],
dF (uO 24 (.nilchk 23)) [23],
dF (fA 25 3 none 24) [24],
dF (lD 26 none 25) [25],
dF (bN 27 .eql 22 26) [22,26],
dF (mV 28 27) [27],
dF (gD 29 28 true (.mv 0)) [0,28],
dF (gD 30 28 true (.nilchk 29)) [29,28],
dF (gD 31 28 true (.faddr 5 none 30)) [30,28],
dF (gD 32 28 true (.load none 31)) [31,28],
dF (gD 33 28 true (.mv 6)) [6,28],
dF (gD 34 28 true (.iaddr (some 3) 32 33)) [32,33,28],
dF (gD 35 28 true (.faddr 2 none 34)) [34,28],
dF (gD 36 28 true (.load none 35)) [35,28],
dF (gD 37 28 true (.bin .lss 36 (cI 0))) [36,28],
dF (uO 38 (.pick 28 37 cF)) [28,37]] [0,1,2,6,11,12,38])
(.cond 38 (rg [mV 39 0,
uO 40 (.nilchk 39),
fA 41 5 none 40,
lD 42 none 41,
mV 43 6,
mV 44 2,
iA 45 (some 3) 42 43,
fA 46 2 none 45,
wO (.store none 46 44)] [0,1,2,11,12])
.skip))))
q1)))
def zoZ:ACode:=zcz zoY
def zpa:ACode:=.pr [0,1] (.seq (dr [dF (mV 48 0) [0],
dF (uO 49 (.nilchk 48)) [48],
dF (fA 50 3 none 49) [49],
dF (lD 51 none 50) [50],
dF (mV 52 1) [1],
dF (uO 53 (.nilchk 52)) [52],
dF (fA 54 3 none 53) [53],
dF (lD 55 none 54) [54],
dT (wO (.mdel (none,[2]) 51 55)) [51,55]] [1])
(rg [mV 56 1,
uO 57 (.nilchk 56),
fA 58 3 none 57,
wO (.store none 58 (cS []))] []))
def zcy (q2 q3:ACode):ACode:=(.seq (.seq (rg [mV 7 0,
uO 8 (.nilchk 7),
fA 9 5 none 8,
lD 10 none 9,
lN 11 10,
mV 12 (cI 0)] [0,1,2,11,12])
(.block 0 (.loop q2)))
q3)
def zdD:AFun:=⟨3,[],zcy zoZ zpa,false,false⟩
def zc0:ACode:=(.seq (rg [uO 5 (.box 2),
mV 6 (cI 0)] [0,1,5])
(.seq (dr [dF (mV 10 0) [0],
dF (uO 11 (.nilchk 10)) [10],
dF (fA 12 3 none 11) [11],
dF (lD 13 none 12) [12],
dF (fA 14 0 none 5) [5],
dF (lD 15 none 14) [14],
dF (uO 16 (.look (none,[2]) true (.p (.str [])) 13 15)) [13,15],
dF (mV 9 16) [16],
dF (eX 17 9 0) [9],
dF (eX 18 9 1) [9],
dF (mV 7 17) [17],
dF (mV 8 18) [18]] [0,1,5,8])
(.seq (.block 0 (.seq (rg [mV 20 1,
uO 21 (.nilchk 20),
fA 22 0 none 21,
lD 23 none 22,
bN 24 .neq 23 (cI 1),
mV 19 24] [0,1,5,8,19])
(.cond 19 (.seq (rg [mV 6 (cI 11)] [6])
.ret)
(.seq (dr [dF (fA 26 5 none 5) [5],
dF (lD 27 none 26) [26],
dF (mV 28 1) [1],
dF (uO 29 (.nilchk 28)) [28],
dF (fA 30 2 none 29) [29],
dF (lD 31 none 30) [30],
dF (bN 32 .neq 27 31) [27,31],
dF (mV 25 32) [32]] [0,1,5,8,25])
(.cond 25 (.seq (rg [mV 6 (cI 3)] [6])
.ret)
(.seq (rg [mV 34 8,
mV 33 34] [0,1,5,33])
(.cond 33 (.seq (rg [mV 6 (cI 12)] [6])
.ret)
.skip)))))))
(.seq (dr [dF (mV 35 1) [1],
dF (mV 36 1) [1],
dF (mV 37 1) [1],
dF (fA 38 2 none 5) [5],
dF (lD 39 none 38) [38],
dF (fA 40 0 none 5) [5],
dF (lD 41 none 40) [40],
dF (uO 42 (.nilchk 35)) [35],
dF (fA 43 0 none 42) [42],
dA (wO (.store none 43 (cI 2))) [43] true [] [4,6],
dF (uO 44 (.nilchk 36)) [36],
dF (fA 45 1 none 44) [44],
dA (wO (.store none 45 39)) [45,39] true [] [6],
dF (uO 46 (.nilchk 37)) [37],
dF (fA 47 3 none 46) [46],
dT (wO (.store none 47 41)) [47,41]] [0,5])
(.seq (dr [dF (mV 48 0) [0],
dF (uO 49 (.nilchk 48)) [48],
dF (fA 50 3 none 49) [49],
dF (lD 51 none 50) [50],
dF (fA 52 0 none 5) [5],
dF (lD 53 none 52) [52],
dF (fA 54 4 none 5) [5],
dF (lD 55 none 54) [54],
dT (wO (.mupd (none,[2]) 51 53 55)) [51,53,55]] [0,5])
(.seq (dr [dF (mV 56 0) [0],
dF (mV 57 0) [0],
dF (uO 58 (.nilchk 57)) [57],
dF (fA 59 5 none 58) [58],
dF (lD 60 none 59) [59],
dF (fA 61 0 none 5) [5],
dF (lD 62 none 61) [61],
dF (fA 63 2 none 5) [5],
dF (lD 64 none 63) [63],
dF (uO 65 (.build [.p (.str []),.p (.int .i64 0),.p (.int .i64 0)] [(0,1,62),(1,1,64),(2,1,(cI (-1)))])) [62,64],
dF (uO 66 (.bsl false (some 3) 1 (.agg [.str [],.int .i64 0,.int .i64 0]) [(0,65)])) [65],
dT (uO 67 (.app (some 3) 60 66)) [60,66],
dF (uO 68 (.nilchk 56)) [56],
dF (fA 69 5 none 68) [68],
dT (wO (.store none 69 67)) [69,67]] [])
(.seq (rg [mV 6 (cI 0)] [6])
.ret)))))))
def zdE:AFun:=⟨3,[.t 6],zc0,false,false⟩
def zpb:ACode:=.pr [0,3,5,38,45] (.cond 45 (.seq (rg [mV 48 0,
mV 49 5,
lD 50 (some 8) 3,
cL 51 z5A [48,49,50],
mV 4 51] [4])
.ret)
(.seq (rg [bN 53 .eql 38 (cI 5),
mV 52 53] [0,3,5,52])
(.cond 52 (.seq (.seq (rg [mV 54 5,
uO 55 (.nilchk 54),
fA 56 0 none 55,
lD 57 none 56,
bN 58 .neq 57 (cI 3)] [3,5,58])
(.cond 58 (.seq (rg [mV 4 (cI 11)] [4])
.ret)
.skip))
(.seq (dr [dF (mV 59 5) [5],
dF (mV 60 5) [5],
dF (fA 61 2 none 3) [3],
dF (lD 62 none 61) [61],
dF (uO 63 (.nilchk 59)) [59],
dF (fA 64 0 none 63) [63],
dA (wO (.store none 64 (cI 1))) [64] true [] [3],
dF (uO 65 (.nilchk 60)) [60],
dF (fA 66 1 none 65) [65],
dT (wO (.store none 66 62)) [66,62]] [])
(.seq (rg [mV 4 (cI 0)] [4])
.ret)))
.skip)))
def zpc:ACode:=.pr [3,5] (.seq (dr [dF (mV 89 5) [5],
dF (mV 90 5) [5],
dF (fA 91 2 none 3) [3],
dF (lD 92 none 91) [91],
dF (uO 93 (.nilchk 89)) [89],
dF (fA 94 0 none 93) [93],
dA (wO (.store none 94 (cI 5))) [94] true [] [3],
dF (uO 95 (.nilchk 90)) [90],
dF (fA 96 1 none 95) [95],
dT (wO (.store none 96 92)) [96,92]] [])
(.seq (rg [mV 4 (cI 0)] [4])
.ret))
def zc2 (q2:ACode):ACode:=.pr [0,3,5] (.seq (.seq (rg [mV 67 5,
uO 68 (.nilchk 67),
fA 69 0 none 68,
lD 70 none 69,
bN 71 .eql 70 (cI 4),
mV 72 71,
gD 73 72 false (.mv 5),
gD 74 72 false (.nilchk 73),
gD 75 72 false (.faddr 0 none 74),
gD 76 72 false (.load none 75),
gD 77 72 false (.bin .eql 76 (cI 5)),
uO 78 (.pick 72 cT 77)] [0,3,5,78])
(.cond 78 (.seq (rg [mV 4 (cI 11)] [4])
.ret)
.skip))
(.seq (.seq (rg [mV 79 5,
uO 80 (.nilchk 79),
fA 81 0 none 80,
lD 82 none 81,
bN 83 .eql 82 (cI 2)] [0,3,5,83])
(.cond 83 (rg [mV 84 0,
mV 85 5,
fA 86 2 none 3,
lD 87 none 86,
cL 88 BW [84,85,87]] [3,5])
.skip))
q2))
def zpd:ACode:=zc2 zpc
def zc1 (q1 q3:ACode):ACode:=(.seq (rg [uO 3 (.box 1),
mV 4 (cI 0)] [0,3])
(.seq (dr [dF (mV 6 0) [0],
dF (uO 7 (.nilchk 6)) [6],
dF (fA 8 2 none 7) [7],
dF (lD 9 none 8) [8],
dF (fA 10 4 none 3) [3],
dF (lD 11 none 10) [10],
dF (uO 12 (.look (none,[2]) false (.nilp) 9 11)) [9,11],
dF (mV 5 12) [12]] [0,3,5])
(.seq (.seq (rg [fA 13 3 none 3,
lD 14 none 13,
bN 15 .eql 14 (cI 1)] [0,3,5,15])
(.cond 15 (.seq (.seq (rg [mV 16 5,
uO 17 (.isnil 0 true 16)] [0,3,17])
(.cond 17 (.seq (rg [mV 4 (cI 6)] [4])
.ret)
.skip))
(.seq (dr [dF (mV 18 0) [0],
dF (uO 19 (.nilchk 18)) [18],
dF (fA 20 2 none 19) [19],
dF (lD 21 none 20) [20],
dF (fA 22 4 none 3) [3],
dF (lD 23 none 22) [22],
dF (fA 24 2 none 3) [3],
dF (lD 25 none 24) [24],
dF (mV 26 0) [0],
dF (uO 27 (.nilchk 26)) [26],
dF (fA 28 0 (some 2) 27) [27],
dF (fA 29 0 none 28) [28],
dF (lD 30 none 29) [29],
dF (iA 31 none 30 (cI 0)) [30],
dF (lD 32 none 31) [31],
dF (uO 33 (.build [.p (.int .i64 0),.p (.int .i64 0),.p (.str []),.p (.str []),.p (.int .i64 0)] [(0,1,(cI 1)),(1,1,25),(2,1,32)])) [25,32],
dA (uO 34 (.box 33)) [33] true [] [3,5],
dT (wO (.mupd (none,[2]) 21 23 34)) [21,23,34]] [])
(.seq (rg [mV 4 (cI 0)] [4])
.ret)))
.skip))
(.seq (.seq (rg [mV 35 5,
uO 36 (.isnil 0 false 35)] [0,3,5,36])
(.cond 36 (.seq (rg [mV 4 (cI 8)] [4])
.ret)
.skip))
(.seq (.seq (rg [fA 37 3 none 3,
lD 38 none 37] [0,3,5,38])
(.block 0 (.seq (rg [bN 40 .eql 38 (cI 2),
mV 39 40] [0,3,5,38,39])
(.cond 39 (.seq (rg [mV 41 0,
mV 42 5,
lD 43 (some 8) 3,
cL 44 z5B [41,42,43],
mV 4 44] [4])
.ret)
(.seq (.seq (rg [bN 46 .eql 38 (cI 3),
mV 45 46] [0,3,5,38,45])
(.cond 45 .skip
(rg [bN 47 .eql 38 (cI 4),
mV 45 47] [0,3,5,38,45])))
q1)))))
q3)))))
def zdF:AFun:=⟨2,[.t 4],zc1 zpb zpd,false,false⟩
def zpe:ACode:=.pr [5,6,17,18,19] (rg [bN 59 .add 19 (cI 1),
mV 19 59] [5,6,17,18,19])
def zc4 (q1:ACode):ACode:=.pr [5,6,17,18,19] (.seq (rg [bN 20 .lss 19 18] [5,6,17,18,19,20])
(.seq (.cond 20 .skip
(.exit 0))
(.seq (.block 1 (.seq (rg [mV 21 19,
iA 22 (some 8) 17 19,
lD 23 (some 8) 22,
uO 8 (.alloc [.p (.str []),.p (.int .i64 0),.p (.int .i64 0),.p (.int .i64 0),.p (.str []),.p (.str []),.p (.str []),.p (.int .i64 0)]),
mV 7 21,
wO (.store (some 8) 8 23)] [5,6,7,8,17,18,19])
(.seq (.seq (rg [mV 24 6,
mV 25 7,
iA 26 none 24 25,
lD 27 none 26,
uO 28 (.un .not 27),
mV 29 28,
gD 30 29 false (.faddr 3 none 8),
gD 31 29 false (.load none 30),
gD 32 29 false (.bin .eql 31 (cI 7)),
uO 33 (.pick 29 cT 32)] [5,6,7,8,17,18,19,33])
(.cond 33 (.exit 1)
.skip))
(.seq (rg [mV 34 5,
lD 35 (some 8) 8,
cL 36 z5C [34,35],
mV 9 36] [5,6,7,9,17,18,19])
(.seq (rg [mV 37 9,
bN 38 .neq 37 (cI 0)] [5,6,7,9,17,18,19,38])
(.cond 38 (.seq (rg [mV 39 5,
mV 40 5,
uO 41 (.nilchk 40),
fA 42 6 none 41,
lD 43 none 42,
mV 44 7,
uO 45 (.bsl false none 1 (.int .i64 0) [(0,44)]),
uO 46 (.app none 43 45),
uO 47 (.nilchk 39),
fA 48 6 none 47,
wO (.store none 48 46)] [5,6,9,17,18,19])
(rg [mV 49 5,
mV 50 5,
uO 51 (.nilchk 50),
fA 52 7 none 51,
lD 53 none 52,
mV 54 9,
uO 55 (.bsl false none 1 (.int .i64 0) [(0,54)]),
uO 56 (.app none 53 55),
uO 57 (.nilchk 49),
fA 58 7 none 57,
wO (.store none 58 56)] [5,6,17,18,19]))
.skip))))))
q1)))
def zpf:ACode:=zc4 zpe
def zpg:ACode:=.pr [5] (.seq (rg [mV 60 5,
mV 4 60] [4])
.ret)
def zc3 (q2 q3:ACode):ACode:=(.seq (rg [uO 2 (.uns 12 0 [0]),
mV 4 (.c (.nilp))] [1,2])
(.seq (rg [lD 10 (some 2) 2,
uO 11 (.mkmap),
uO 12 (.mkmap),
uO 13 (.build [.sl0 none,.p (.int .i64 0),.nilm,.nilm,.sl0 (some 5),.sl0 (some 3),.sl0 none,.sl0 none] [(0,2,10),(2,1,11),(3,1,12)]),
uO 14 (.uns 12 0 [13]),
mV 5 14] [1,5])
(.seq (rg [mV 15 1,
cL 16 z56 [15],
mV 6 16] [1,5,6])
(.seq (.seq (rg [mV 17 1,
lN 18 17,
mV 19 (cI 0)] [5,6,17,18,19])
(.block 0 (.loop (.scope q2))))
q3))))
def zdG:AFun:=⟨2,[.t 4],zc3 zpf zpg,false,false⟩
def zc5:ACode:=(.seq (rg [mV 2 (cI 0)] [0])
(.seq (.seq (rg [mV 3 0,
cL 4 xW [3],
uO 5 (.un .not 4)] [5])
(.cond 5 (.seq (rg [mV 2 (cI 1)] [2])
.ret)
.skip))
(.seq (rg [mV 2 (cI 0)] [2])
.ret)))
def zdH:AFun:=⟨1,[.t 2],zc5,false,false⟩
def zph:ACode:=.pr [3,8,9,10] (.seq (rg [bN 11 .lss 10 9] [3,8,9,10,11])
(.seq (.cond 11 .skip
(.exit 0))
(.seq (.block 1 (.seq (rg [iA 12 (some 8) 8 10,
lD 13 (some 8) 12,
uO 5 (.alloc [.p (.str []),.p (.int .i64 0),.p (.int .i64 0),.p (.int .i64 0),.p (.str []),.p (.str []),.p (.str []),.p (.int .i64 0)]),
wO (.store (some 8) 5 13)] [3,5,8,9,10])
(.seq (rg [fA 14 0 none 5,
lD 15 none 14,
fA 16 1 none 5,
lD 17 none 16,
uO 18 (.build [.p (.str []),.p (.int .i64 0)] [(0,1,15),(1,1,17)]),
uO 6 (.alloc [.p (.str []),.p (.int .i64 0)]),
wO (.store (some 2) 6 18)] [3,6,8,9,10])
(.seq (.seq (rg [mV 19 3,
lD 20 (some 2) 6,
uO 21 (.look ((some 2),[2,0]) false (AB false) 19 20)] [3,6,8,9,10,21])
(.cond 21 (.seq (rg [mV 2 cT] [2])
.ret)
.skip))
(rg [mV 22 3,
lD 23 (some 2) 6,
wO (.mupd ((some 2),[2,0]) 22 23 cT)] [3,8,9,10])))))
(rg [bN 24 .add 10 (cI 1),
mV 10 24] [3,8,9,10]))))
def zpi:ACode:=.pr [] (.seq (rg [mV 2 cF] [2])
.ret)
def zc6 (q1 q2:ACode):ACode:=(.seq (rg [mV 2 cF] [0])
(.seq (rg [uO 7 (.mkmap),
mV 3 7] [0,3])
(.seq (.seq (rg [mV 8 0,
lN 9 8,
mV 10 (cI 0)] [3,8,9,10])
(.block 0 (.loop (.scope q1))))
q2)))
def zdI:AFun:=⟨1,[.t 2],zc6 zph zpi,false,false⟩
def zpj:ACode:=.pr [0,1,5] (.seq (.seq (rg [mV 8 5,
bN 9 .gtr 8 (cI 0),
mV 10 9,
gD 11 10 true (.mv 0),
gD 12 10 true (.mv 5),
gD 13 10 true (.bin .sub 12 (cI 1)),
gD 14 10 true (.iaddr (some 8) 11 13),
gD 15 10 true (.faddr 2 none 14),
gD 16 10 true (.load none 15),
gD 17 10 true (.mv 1),
gD 18 10 true (.bin .gtr 16 17),
uO 19 (.pick 10 18 cF)] [0,1,5,19])
(.cond 19 .skip
(.exit 0)))
(.block 1 (rg [mV 20 5,
bN 21 .sub 20 (cI 1),
mV 5 21] [0,1,5])))
def zpk:ACode:=.pr [0,5] (.seq (rg [mV 22 0,
mV 23 5,
uO 24 (.slice (some 8) 22 none (some 23) none),
mV 4 24] [4])
.ret)
def zc7 (q1 q2:ACode):ACode:=(.seq (rg [mV 4 (.c (.p (.sl (some 8) [])))] [0,1])
(.seq (rg [mV 6 0,
lN 7 6,
mV 5 7] [0,1,5])
(.seq (.block 0 (.loop q1))
q2)))
def zdJ:AFun:=⟨2,[.t 4],zc7 zpj zpk,false,false⟩
def zcC:ACode:=(.seq (rg [mV 4 (cS []),
mV 5 (cI 0)] [0,1])
(.seq (.seq (rg [mV 6 0,
cL 7 CW [6],
uO 8 (.un .not 7),
mV 9 8,
gD 10 9 false (.mv 1),
gD 11 9 false (.call CW [10]),
gD 12 9 false (.un .not 11),
uO 13 (.pick 9 cT 12)] [0,1,13])
(.cond 13 (.seq (rg [mV 4 (cS []),
mV 5 (cI 1)] [4,5])
.ret)
.skip))
(.seq (rg [mV 14 0,
mV 15 1,
cL 16 BI [14,15],
mV 4 16,
mV 5 (cI 0)] [4,5])
.ret)))
def zdK:AFun:=⟨2,[.t 4,.t 5],zcC,false,false⟩
def zcD:ACode:=(.seq (rg [mV 2 cF] [0])
(.seq (rg [mV 3 0,
cL 4 fC [3,(cI 0),(cI 15)],
uO 5 (.un .not 4),
mV 2 5] [2])
.ret))
def zdL:AFun:=⟨1,[.t 2],zcD,false,false⟩
def zcE:ACode:=(.seq (rg [mV 4 (cI 0)] [0,1])
(.seq (rg [uO 6 (.build [.p (.int .i64 0),.p (.int .i64 0)] [(0,1,(cI 1)),(1,1,(cI 0))]),
uO 7 (.build [.p (.int .i64 0),.p (.int .i64 0)] [(0,1,(cI 1)),(1,1,(cI 2))]),
uO 8 (.build [.p (.int .i64 0),.p (.int .i64 0)] [(0,1,(cI 3)),(1,1,(cI 9))]),
uO 9 (.build [.p (.int .i64 0),.p (.int .i64 0)] [(0,1,(cI 4)),(1,1,(cI 5))]),
uO 10 (.build [.p (.int .i64 0),.p (.int .i64 0)] [(0,1,(cI 4)),(1,1,(cI 5))]),
uO 11 (.build [.p (.int .i64 0),.p (.int .i64 0)] [(0,1,(cI 6)),(1,1,(cI 8))]),
uO 12 (.build [.p (.int .i64 0),.p (.int .i64 0)] [(0,1,(cI 6)),(1,1,(cI 7))]),
uO 13 (.build [.p (.int .i64 0),.p (.int .i64 0)] [(0,1,(cI 4)),(1,1,(cI 8))]),
uO 14 (.build [.p (.int .i64 0),.p (.int .i64 0)] [(0,1,(cI 1)),(1,1,(cI 2))]),
uO 15 (.build [.p (.int .i64 0),.p (.int .i64 0)] [(0,1,(cI 10)),(1,1,(cI 0))]),
uO 16 (.build [.p (.int .i64 0),.p (.int .i64 0)] [(0,1,(cI 11)),(1,1,(cI 12))]),
uO 17 (.build [.p (.int .i64 0),.p (.int .i64 0)] [(0,1,(cI 11)),(1,1,(cI 12))]),
uO 18 (.build [.p (.int .i64 0),.p (.int .i64 0)] [(0,1,(cI 13)),(1,1,(cI 15))]),
uO 19 (.build [.p (.int .i64 0),.p (.int .i64 0)] [(0,1,(cI 13)),(1,1,(cI 14))]),
uO 20 (.build [.p (.int .i64 0),.p (.int .i64 0)] [(0,1,(cI 11)),(1,1,(cI 15))]),
uO 21 (.build [.p (.int .i64 0),.p (.int .i64 0)] [(0,1,(cI 1)),(1,1,(cI 2))]),
uO 22 (.build [.p (.int .i64 0),.p (.int .i64 0),.p (.int .i64 0),.p (.int .i64 0),.p (.int .i64 0),.p (.int .i64 0),.p (.int .i64 0),.p (.int .i64 0),.p (.int .i64 0),.p (.int .i64 0),.p (.int .i64 0),.p (.int .i64 0),.p (.int .i64 0),.p (.int .i64 0),.p (.int .i64 0),.p (.int .i64 0),.p (.int .i64 0),.p (.int .i64 0),.p (.int .i64 0),.p (.int .i64 0),.p (.int .i64 0),.p (.int .i64 0),.p (.int .i64 0),.p (.int .i64 0),.p (.int .i64 0),.p (.int .i64 0),.p (.int .i64 0),.p (.int .i64 0),.p (.int .i64 0),.p (.int .i64 0),.p (.int .i64 0),.p (.int .i64 0)] [(0,2,6),(2,2,7),(4,2,8),(6,2,9),(8,2,10),(10,2,11),(12,2,12),(14,2,13),(16,2,14),(18,2,15),(20,2,16),(22,2,17),(24,2,18),(26,2,19),(28,2,20),(30,2,21)]),
uO 5 (.alloc [.p (.int .i64 0),.p (.int .i64 0),.p (.int .i64 0),.p (.int .i64 0),.p (.int .i64 0),.p (.int .i64 0),.p (.int .i64 0),.p (.int .i64 0),.p (.int .i64 0),.p (.int .i64 0),.p (.int .i64 0),.p (.int .i64 0),.p (.int .i64 0),.p (.int .i64 0),.p (.int .i64 0),.p (.int .i64 0),.p (.int .i64 0),.p (.int .i64 0),.p (.int .i64 0),.p (.int .i64 0),.p (.int .i64 0),.p (.int .i64 0),.p (.int .i64 0),.p (.int .i64 0),.p (.int .i64 0),.p (.int .i64 0),.p (.int .i64 0),.p (.int .i64 0),.p (.int .i64 0),.p (.int .i64 0),.p (.int .i64 0),.p (.int .i64 0)]),
wO (.store (some 32) 5 22)] [0,1,5])
(.seq (rg [mV 23 0,
mV 24 1,
uO 25 (.iaddra 16 (some 2) 5 23),
uO 26 (.iaddra 2 none 25 24),
lD 27 none 26,
mV 4 27] [4])
.ret)))
def WL:AFun:=⟨2,[.t 4],zcE,false,false⟩
def bW (C:Hd)(gl:GL)(v0 v1:AV)(h:bA)(x:Esc)(K:KT):Prop:=
 pK (DB [.p (.int .i64 0),.p (.int .i64 0)] [(0,1,(AI 1)),(1,1,(AI 0))]) fun t1=>
 pK (DB [.p (.int .i64 0),.p (.int .i64 0)] [(0,1,(AI 1)),(1,1,(AI 2))]) fun t2=>
 pK (DB [.p (.int .i64 0),.p (.int .i64 0)] [(0,1,(AI 3)),(1,1,(AI 9))]) fun t3=>
 pK (DB [.p (.int .i64 0),.p (.int .i64 0)] [(0,1,(AI 4)),(1,1,(AI 5))]) fun t4=>
 pK (DB [.p (.int .i64 0),.p (.int .i64 0)] [(0,1,(AI 4)),(1,1,(AI 5))]) fun t5=>
 pK (DB [.p (.int .i64 0),.p (.int .i64 0)] [(0,1,(AI 6)),(1,1,(AI 8))]) fun t6=>
 pK (DB [.p (.int .i64 0),.p (.int .i64 0)] [(0,1,(AI 6)),(1,1,(AI 7))]) fun t7=>
 pK (DB [.p (.int .i64 0),.p (.int .i64 0)] [(0,1,(AI 4)),(1,1,(AI 8))]) fun t8=>
 pK (DB [.p (.int .i64 0),.p (.int .i64 0)] [(0,1,(AI 1)),(1,1,(AI 2))]) fun t9=>
 pK (DB [.p (.int .i64 0),.p (.int .i64 0)] [(0,1,(AI 10)),(1,1,(AI 0))]) fun t10=>
 pK (DB [.p (.int .i64 0),.p (.int .i64 0)] [(0,1,(AI 11)),(1,1,(AI 12))]) fun t11=>
 pK (DB [.p (.int .i64 0),.p (.int .i64 0)] [(0,1,(AI 11)),(1,1,(AI 12))]) fun t12=>
 pK (DB [.p (.int .i64 0),.p (.int .i64 0)] [(0,1,(AI 13)),(1,1,(AI 15))]) fun t13=>
 pK (DB [.p (.int .i64 0),.p (.int .i64 0)] [(0,1,(AI 13)),(1,1,(AI 14))]) fun t14=>
 pK (DB [.p (.int .i64 0),.p (.int .i64 0)] [(0,1,(AI 11)),(1,1,(AI 15))]) fun t15=>
 pK (DB [.p (.int .i64 0),.p (.int .i64 0)] [(0,1,(AI 1)),(1,1,(AI 2))]) fun t16=>
 pK (DB [.p (.int .i64 0),.p (.int .i64 0),.p (.int .i64 0),.p (.int .i64 0),.p (.int .i64 0),.p (.int .i64 0),.p (.int .i64 0),.p (.int .i64 0),.p (.int .i64 0),.p (.int .i64 0),.p (.int .i64 0),.p (.int .i64 0),.p (.int .i64 0),.p (.int .i64 0),.p (.int .i64 0),.p (.int .i64 0),.p (.int .i64 0),.p (.int .i64 0),.p (.int .i64 0),.p (.int .i64 0),.p (.int .i64 0),.p (.int .i64 0),.p (.int .i64 0),.p (.int .i64 0),.p (.int .i64 0),.p (.int .i64 0),.p (.int .i64 0),.p (.int .i64 0),.p (.int .i64 0),.p (.int .i64 0),.p (.int .i64 0),.p (.int .i64 0)] [(0,2,t1),(2,2,t2),(4,2,t3),(6,2,t4),(8,2,t5),(10,2,t6),(12,2,t7),(14,2,t8),(16,2,t9),(18,2,t10),(20,2,t11),(22,2,t12),(24,2,t13),(26,2,t14),(28,2,t15),(30,2,t16)]) fun t17=>
 alK [.p (.int .i64 0),.p (.int .i64 0),.p (.int .i64 0),.p (.int .i64 0),.p (.int .i64 0),.p (.int .i64 0),.p (.int .i64 0),.p (.int .i64 0),.p (.int .i64 0),.p (.int .i64 0),.p (.int .i64 0),.p (.int .i64 0),.p (.int .i64 0),.p (.int .i64 0),.p (.int .i64 0),.p (.int .i64 0),.p (.int .i64 0),.p (.int .i64 0),.p (.int .i64 0),.p (.int .i64 0),.p (.int .i64 0),.p (.int .i64 0),.p (.int .i64 0),.p (.int .i64 0),.p (.int .i64 0),.p (.int .i64 0),.p (.int .i64 0),.p (.int .i64 0),.p (.int .i64 0),.p (.int .i64 0),.p (.int .i64 0),.p (.int .i64 0)] h fun t18 h19 y20=>
 wK (RA (some 32) t18 t17 h19) fun t21 h22 y23=>
 pK (LI 16 (some 2) t18 v0) fun t24=>
 pK (LI 2 none t24 v1) fun t25=>
 pK (kA none t25 h22) fun t26=>
 K .ret ⟨[(4,t26)],h22,(y23++(y20++x))⟩
theorem zkF {C gl v0 v1 h x K}:NW C gl WL.body ⟨enter [v0,v1],h,x⟩ K=bW C gl v0 v1 h x K:=by kernel_rfl
end Go.Am
end
section
/- The functions asv abstract code,and asv formulas over their values: printed by program out of the translation. -/
set_option linter.unusedVariables false
set_option maxRecDepth 100000
namespace Go.Am
def mY:ACode:=.pr [1,5,6,7,25] (rg [bN 53 .add 25 (cI 1),
mV 25 53] [1,5,6,7,25])
def z4w (C:Hd)(gl:GL)(v1 v5 v6 v7 v25:AV)(h:bA)(x:Esc)(K:KT):Prop:=
 pK (eA .add v25 (AI 1)) fun t1=>
 K .normal ⟨[(1,v1),(5,v5),(6,v6),(7,v7),(25,t1)],h,x⟩
theorem zkH {C gl e h x K}:NW C gl mY ⟨e,h,x⟩ K=z4w C gl (aA e 1) (aA e 5) (aA e 6) (aA e 7) (aA e 25) h x K:=by kernel_rfl
def z1k (q1:ACode):ACode:=.pr [1,5,6,7,25] (.seq (rg [bN 26 .lss 25 (cI 2)] [1,5,6,7,25,26])
(.seq (.cond 26 .skip
(.exit 2))
(.seq (.block 3 (.seq (rg [mV 27 25,
mV 8 27] [1,5,6,7,8,25])
(.seq (rg [mV 28 7,
mV 29 8,
cL 30 zI [28,29],
mV 9 30] [1,5,6,7,8,9,25])
(.seq (rg [mV 32 5,
mV 33 9,
uO 34 (.look (none,[0]) true (.p (.str [])) 32 33),
mV 31 34,
eX 35 31 0,
eX 36 31 1,
mV 10 35,
mV 11 36] [1,5,6,7,8,9,11,25])
(.seq (rg [mV 37 11,
uO 38 (.un .not 37)] [1,5,6,7,8,9,25,38])
(.cond 38 (.seq (rg [mV 39 5,
mV 40 9,
mV 41 5,
mV 42 7,
uO 43 (.look (none,[0]) false (.p (.str [])) 41 42),
mV 44 8,
bN 45 .add (cI 48) 44,
uO 46 (.conv (.i .i32) 45),
uO 47 (.conv .r2s 46),
bN 48 .add 43 47,
wO (.mupd (none,[0]) 39 40 48)] [1,5,6,7,9,25])
(rg [mV 49 6,
mV 50 9,
uO 51 (.bsl false none 1 (.int .i64 0) [(0,50)]),
uO 52 (.mnext (some none) [49,51]),
mV 6 52] [1,5,6,7,25]))
.skip))))))
q1)))
def JN:ACode:=z1k mY
def cW (C:Hd)(gl:GL)(q1:ACode)(v1 v5 v6 v7 v25:AV)(h:bA)(x:Esc)(K:KT):Prop:=
 pK (eA .lss v25 (AI 2)) fun t1=>
 nA t1 (C zI [v7,v25] h fun t2 h3 y4=>
 pK (YA (none,[0]) true (.p (.str [])) v5 t2 h3) fun t5=>
 pK (MB t5 0) fun t6=>
 pK (MB t5 1) fun t7=>
 pK (oUn .not t7) fun t8=>
 nA t8 (pK (YA (none,[0]) false (.p (.str [])) v5 v7 h3) fun t9=>
 pK (eA .add (AI 48) v25) fun t10=>
 pK (XC .i32 t10) fun t11=>
 wK (uF .r2s t11 h3) fun t12 h13 y14=>
 pK (eA .add t9 t12) fun t15=>
 wK (bB (none,[0]) v5 t2 t15 h13) fun t16 h17 y18=>
 wK (aB false none 1 (.int .i64 0) [(0,t2)] h17) fun t19 h20 y21=>
 nqK (some none) [v6,t19] h20 fun t22 h23 y24=>
 NW C gl q1 ⟨[(1,v1),(5,v5),(6,t22),(7,v7),(25,v25)],h23,(y24++(y21++(y18++(y14++(y4++x)))))⟩ K)
 (NW C gl q1 ⟨[(1,v1),(5,v5),(6,v6),(7,v7),(8,v25),(9,t2),(25,v25),(38,t8)],h3,(y4++x)⟩ K))
 (K (.exit 2) ⟨[(1,v1),(5,v5),(6,v6),(7,v7),(25,v25),(26,t1)],h,x⟩)
theorem zaO {C gl q1 e h x K}:NW C gl (z1k q1) ⟨e,h,x⟩ K=cW C gl q1 (aA e 1) (aA e 5) (aA e 6) (aA e 7) (aA e 25) h x K:=by kernel_rfl
theorem zkI {C gl e h x K}:NW C gl JN ⟨e,h,x⟩ K=cW C gl mY (aA e 1) (aA e 5) (aA e 6) (aA e 7) (aA e 25) h x K:=zaO
theorem znm {C gl e h x K}:NW C gl (.loop JN) ⟨e,h,x⟩ K=FA C gl JN K [(1,aA e 1),(5,aA e 5),(6,aA e 6),(7,aA e 7),(25,aA e 25)] h x:=NB
def z1l (q2:ACode):ACode:=.pr [1,5,6] (.seq (.seq (rg [mV 17 6,
lN 18 17,
bN 19 .gtr 18 (cI 0)] [1,5,6,19])
(.cond 19 .skip
(.exit 0)))
(.block 1 (.seq (rg [mV 20 6,
iA 21 none 20 (cI 0),
lD 22 none 21,
mV 7 22] [1,5,6,7])
(.seq (rg [mV 23 6,
uO 24 (.slice none 23 (some (cI 1)) none none),
mV 6 24] [1,5,6,7])
(.seq (rg [mV 25 (cI 0)] [1,5,6,7,25])
(.block 2 (.loop q2)))))))
def KN:ACode:=z1l JN
def dW (C:Hd)(gl:GL)(q2:ACode)(v1 v5 v6:AV)(h:bA)(x:Esc)(K:KT):Prop:=
 pK (yA v6) fun t1=>
 pK (eA .gtr t1 (AI 0)) fun t2=>
 nA t2 (pK (uA none v6 (AI 0) h) fun t3=>
 pK (kA none t3 h) fun t4=>
 pK (qE none v6 (some (AI 1)) none none h) fun t5=>
 NW C gl (.loop q2) ⟨[(1,v1),(5,v5),(6,t5),(7,t4),(25,(AI 0))],h,x⟩ (wA 2 (wA 1 K)))
 (K (.exit 0) ⟨[(1,v1),(5,v5),(6,v6),(19,t2)],h,x⟩)
theorem zaP {C gl q2 e h x K}:NW C gl (z1l q2) ⟨e,h,x⟩ K=dW C gl q2 (aA e 1) (aA e 5) (aA e 6) h x K:=by kernel_rfl
theorem zkJ {C gl e h x K}:NW C gl KN ⟨e,h,x⟩ K=dW C gl JN (aA e 1) (aA e 5) (aA e 6) h x K:=zaP
theorem znn {C gl e h x K}:NW C gl (.loop KN) ⟨e,h,x⟩ K=FA C gl KN K [(1,aA e 1),(5,aA e 5),(6,aA e 6)] h x:=NB
def nY:ACode:=.pr [1,5] (.seq (rg [mV 54 5,
mV 55 1,
uO 56 (.look (none,[0]) false (.p (.str [])) 54 55),
mV 4 56] [4])
.ret)
def z4x (C:Hd)(gl:GL)(v1 v5:AV)(h:bA)(x:Esc)(K:KT):Prop:=
 pK (YA (none,[0]) false (.p (.str [])) v5 v1 h) fun t1=>
 K .ret ⟨[(4,t1)],h,x⟩
theorem zkK {C gl e h x K}:NW C gl nY ⟨e,h,x⟩ K=z4x C gl (aA e 1) (aA e 5) h x K:=by kernel_rfl
def z1j (q3 q4:ACode):ACode:=(.det (.seq (rg [mV 4 (cS [])] [0,1])
(.seq (rg [uO 12 (.mkmap),
mV 13 0,
wO (.mupd (none,[0]) 12 13 (cS [])),
mV 14 12,
mV 5 14] [0,1,5])
(.seq (rg [mV 15 0,
uO 16 (.bsl true none 1 (.int .i64 0) [(0,15)]),
mV 6 16] [1,5,6])
(.seq (.block 0 (.loop q3))
q4)))))
def dP:AFun:=⟨2,[.t 4],z1j KN nY,false,false⟩
def zQ (C:Hd)(gl:GL)(q3 q4:ACode)(v0 v1:AV)(h:bA)(x:Esc)(K:KT):Prop:=
 mmK h fun t1 h2 y3=>
 wK (bB (none,[0]) t1 v0 (.p (.str [])) h2) fun t4 h5 y6=>
 wK (aB true none 1 (.int .i64 0) [(0,v0)] h5) fun t7 h8 y9=>
 NW C gl (.loop q3) ⟨[(1,v1),(5,t1),(6,t7)],h8,(y9++(y6++(y3++x)))⟩ (wA 0 (OA C gl q4 K))
theorem zaN {C gl q3 q4 v0 v1 h x K}:NW C gl (z1j q3 q4) ⟨enter [v0,v1],h,x⟩ K=zQ C gl q3 q4 v0 v1 h x K:=by kernel_rfl
theorem zkG {C gl v0 v1 h x K}:NW C gl dP.body ⟨enter [v0,v1],h,x⟩ K=zQ C gl KN nY v0 v1 h x K:=zaN
def zpl:ACode:=.pr [0,10,11,12] (.seq (rg [bN 13 .lss 12 11] [0,10,11,12,13])
(.seq (.cond 13 .skip
(.exit 0))
(.seq (.block 1 (.seq (rg [iA 14 (some 6) 10 12,
lD 15 (some 6) 14,
uO 4 (.alloc [.p (.int .i64 0),.p (.int .i64 0),.p (.int .i64 0),.p (.str []),.p (.str []),.p (.str [])]),
wO (.store (some 6) 4 15)] [0,4,10,11,12])
(.seq (.seq (rg [fA 16 0 none 4,
lD 17 none 16,
cL 18 fC [17,(cI 1),(cI 10)]] [0,4,10,11,12,18])
(.cond 18 (.seq (rg [mV 2 (cI 4)] [2])
.ret)
.skip))
(.seq (rg [lD 20 (some 6) 4,
cL 21 z5L [20],
mV 19 21,
eX 22 19 0,
eX 23 19 1,
uO 5 (.alloc [.p (.int .i64 0),.p (.int .i64 0),.p (.int .i64 0),.p (.str []),.p (.str []),.p (.str [])]),
wO (.store (some 6) 5 22),
mV 6 23] [0,4,5,6,10,11,12])
(.block 2 (.seq (rg [mV 25 6,
bN 26 .neq 25 (cI 0),
mV 24 26] [0,4,5,6,10,11,12,24])
(.cond 24 (.seq (rg [mV 27 6,
mV 2 27] [2])
.ret)
(.seq (rg [lD 29 (some 6) 5,
fA 30 0 none 4,
lD 31 none 30,
uO 32 (.build [.p (.int .i64 0),.p (.int .i64 0),.p (.int .i64 0),.p (.str []),.p (.str []),.p (.str [])] [(0,1,31)]),
uO 33 (.eqa [0,0,0,2,2,2] true 29 32),
mV 28 33] [0,10,11,12,28])
(.cond 28 (.seq (rg [mV 2 (cI 3)] [2])
.ret)
.skip)))))))))
(rg [bN 34 .add 12 (cI 1),
mV 12 34] [0,10,11,12]))))
def zpm:ACode:=.pr [0] (.seq (.seq (rg [mV 35 0,
cL 36 EW [35,(.c (.nilp))],
uO 37 (.nilchk 36),
fA 38 37 none 37,
lD 39 none 38,
bN 40 .gtr 39 (cI 20000)] [40])
(.cond 40 (.seq (rg [mV 2 (cI 2)] [2])
.ret)
.skip))
(.seq (rg [mV 2 (cI 0)] [2])
.ret))
def zcF (q1 q2:ACode):ACode:=(.seq (rg [mV 2 (cI 0)] [0])
(.seq (.seq (rg [mV 7 0,
lN 8 7,
bN 9 .gtr 8 (cI 1000)] [0,9])
(.cond 9 (.seq (rg [mV 2 (cI 2)] [2])
.ret)
.skip))
(.seq (.seq (rg [mV 10 0,
lN 11 10,
mV 12 (cI 0)] [0,10,11,12])
(.block 0 (.loop (.scope q1))))
q2)))
def zdM:AFun:=⟨1,[.t 2],zcF zpl zpm,false,false⟩
def zcG:ACode:=(.seq (rg [mV 2 (cI 0),
mV 3 (cI 0)] [0])
(.seq (.seq (rg [mV 5 0,
cL 6 z5I [5],
mV 4 6] [0,4])
(.seq (rg [mV 7 4,
bN 8 .neq 7 (cI 0)] [0,4,8])
(.cond 8 (.seq (rg [mV 9 4,
mV 2 (cI 0),
mV 3 9] [2,3])
.ret)
.skip)))
(.seq (rg [mV 10 0,
cL 11 EW [10,(.c (.nilp))],
uO 12 (.nilchk 11),
fA 13 37 none 12,
lD 14 none 13,
mV 2 14,
mV 3 (cI 0)] [2,3])
.ret)))
def zdN:AFun:=⟨1,[.t 2,.t 3],zcG,false,false⟩
def zcH:ACode:=(.seq (rg [mV 2 cF] [0])
(.seq (rg [mV 3 0,
bN 4 .eql 3 (cI 7),
mV 5 4,
gD 6 5 false (.mv 0),
gD 7 5 false (.bin .eql 6 (cI 8)),
uO 8 (.pick 5 cT 7),
mV 2 8] [2])
.ret))
def zdO:AFun:=⟨1,[.t 2],zcH,false,false⟩
def zcI:ACode:=(.seq (rg [mV 2 cF] [0])
(.seq (rg [mV 3 0,
cL 4 fC [3,(cI 1),(cI 6)],
uO 5 (.un .not 4),
mV 2 5] [2])
.ret))
def zdP:AFun:=⟨1,[.t 2],zcI,false,false⟩
def zpn:ACode:=.pr [2,4] (.seq (rg [lD 56 (some 6) 4,
wO (.store (some 6) 2 56),
mV 3 (cI 0)] [2,3])
.ret)
def zcJ (q1:ACode):ACode:=(.seq (rg [uO 1 (.box 0),
uO 2 (.alloc [.p (.int .i64 0),.p (.int .i64 0),.p (.int .i64 0),.p (.str []),.p (.str []),.p (.str [])]),
mV 3 (cI 0)] [1,2])
(.seq (rg [lD 5 (some 6) 1,
uO 4 (.alloc [.p (.int .i64 0),.p (.int .i64 0),.p (.int .i64 0),.p (.str []),.p (.str []),.p (.str [])]),
wO (.store (some 6) 4 5)] [1,2,4])
(.seq (.block 0 (.seq (rg [fA 18 0 none 1,
lD 19 none 18,
bN 20 .eql 19 (cI 1),
mV 21 20,
gD 22 21 false (.faddr 0 none 1),
gD 23 21 false (.load none 22),
gD 24 21 false (.bin .eql 23 (cI 2)),
uO 25 (.pick 21 cT 24),
mV 26 25,
gD 27 26 false (.faddr 0 none 1),
gD 28 26 false (.load none 27),
gD 29 26 false (.bin .eql 28 (cI 10)),
uO 30 (.pick 26 cT 29),
mV 17 30] [1,2,4,17])
(.cond 17 (.seq (rg [fA 31 1 none 4,
wO (.store none 31 (cI 0))] [1,2,4])
(.seq (rg [fA 32 1 none 1,
lD 33 none 32,
cL 34 z5Q [33],
uO 35 (.un .not 34)] [2,4,35])
(.cond 35 (.seq (rg [lD 36 (some 6) 4,
wO (.store (some 6) 2 36),
mV 3 (cI 1)] [2,3])
.ret)
.skip)))
(.seq (rg [fA 38 0 none 1,
lD 39 none 38,
bN 40 .eql 39 (cI 9),
mV 37 40] [1,2,4,37])
(.cond 37 (.seq (rg [fA 41 2 none 4,
wO (.store none 41 (cI 0))] [1,2,4])
(.seq (rg [fA 42 2 none 1,
lD 43 none 42,
cL 44 fC [43,(cI 0),(cI 20000)]] [2,4,44])
(.cond 44 (.seq (rg [lD 45 (some 6) 4,
wO (.store (some 6) 2 45),
mV 3 (cI 1)] [2,3])
.ret)
.skip)))
(.seq (rg [fA 47 0 none 1,
lD 48 none 47,
cL 49 DW [48],
mV 46 49] [1,2,4,46])
(.cond 46 (.seq (rg [fA 50 3 none 4,
wO (.store none 50 (cS [])),
fA 51 4 none 4,
wO (.store none 51 (cS [])),
fA 52 5 none 4,
wO (.store none 52 (cS []))] [1,2,4])
(.seq (dr [dF (lD 53 (some 6) 4) [4],
dF (lD 54 (some 6) 1) [1],
dA (cL 55 z5O [54]) [54] true [] [0],
dT (wO (.store (some 6) 2 53)) [2,53],
dF (mV 3 55) [55]] [2,3])
.ret))
(.seq (rg [fA 6 3 none 4,
wO (.store none 6 (cS []))] [1,2,4])
(.seq (.seq (rg [fA 7 3 none 1,
lD 8 none 7,
cL 9 NE [8],
uO 10 (.un .not 9)] [1,2,4,10])
(.cond 10 (.seq (rg [lD 11 (some 6) 4,
wO (.store (some 6) 2 11),
mV 3 (cI 9)] [2,3])
.ret)
.skip))
(.seq (rg [fA 12 3 none 1,
lD 13 none 12,
uO 14 (.lens 13),
bN 15 .gtr 14 (cI 2000)] [2,4,15])
(.cond 15 (.seq (rg [lD 16 (some 6) 4,
wO (.store (some 6) 2 16),
mV 3 (cI 2)] [2,3])
.ret)
.skip)))))))))))
q1)))
def zdQ:AFun:=⟨1,[.cell 2 (some 6),.t 3],zcJ zpn,false,false⟩
def zpo:ACode:=.pr [5,13,14,15] (.seq (rg [bN 16 .lss 15 14] [5,13,14,15,16])
(.seq (.cond 16 .skip
(.exit 0))
(.seq (.block 1 (.seq (rg [iA 17 (some 6) 13 15,
lD 18 (some 6) 17,
uO 7 (.alloc [.p (.int .i64 0),.p (.int .i64 0),.p (.int .i64 0),.p (.str []),.p (.str []),.p (.str [])]),
wO (.store (some 6) 7 18)] [5,7,13,14,15])
(.seq (.seq (rg [mV 19 5,
uO 20 (.nilchk 19),
fA 21 37 none 20,
lD 22 none 21,
bN 23 .gtr 22 (cI 20000)] [5,7,13,14,15,23])
(.cond 23 (.exit 0)
.skip))
(rg [mV 24 5,
lD 25 (some 6) 7,
cL 26 z5N [24,25]] [5,13,14,15]))))
(rg [bN 27 .add 15 (cI 1),
mV 15 27] [5,13,14,15]))))
def zpp:ACode:=.pr [5] (.seq (rg [mV 28 5,
mV 4 28] [4])
.ret)
def zcK (q1 q2:ACode):ACode:=(.seq (rg [mV 4 (.c (.nilp))] [0,1])
(.seq (rg [cL 8 z5R [],
mV 9 1,
uO 10 (.isnil 0 true 9),
uO 11 (.build [.p (.int .i64 0),.p (.int .i64 0),.p (.int .i64 0),.p (.str []),.p (.str []),.p (.str []),.p (.int .i64 0),.p (.int .i64 0),.p (.int .i64 0),.p (.str []),.p (.str []),.p (.str []),.p (.int .i64 0),.p (.int .i64 0),.p (.int .i64 0),.p (.str []),.p (.str []),.p (.str []),.p (.int .i64 0),.p (.int .i64 0),.p (.int .i64 0),.p (.str []),.p (.str []),.p (.str []),.p (.int .i64 0),.p (.int .i64 0),.p (.int .i64 0),.p (.str []),.p (.str []),.p (.str []),.p (.int .i64 0),.p (.int .i64 0),.p (.int .i64 0),.p (.str []),.p (.str []),.p (.str []),.p (.int .i64 0),.p (.int .i64 0),.p (.int .i64 0),.p (.int .i64 0),.sl0 none,.sl0 none,.sl0 none,.sl0 none,.sl0 none,.p (.bool false)] [(0,36,8),(36,1,(cI 0)),(45,1,10)]),
uO 12 (.uns 12 0 [11]),
mV 5 12] [0,5])
(.seq (.seq (rg [mV 13 0,
lN 14 13,
mV 15 (cI 0)] [5,13,14,15])
(.block 0 (.loop (.scope q1))))
q2)))
def zdR:AFun:=⟨2,[.t 4],zcK zpo zpp,false,false⟩
def zcL:ACode:=(.seq (rg [mV 8 0,
uO 9 (.nilchk 8),
fA 10 37 none 9,
lD 11 none 10,
bN 12 .add 11 (cI 1),
uO 13 (.nilchk 8),
fA 14 37 none 13,
wO (.store none 14 12)] [0,1,2,3])
(.seq (rg [mV 15 0,
uO 16 (.nilchk 15),
fA 17 45 none 16,
lD 18 none 17] [0,1,2,3,18])
(.cond 18 (dr [dF (mV 19 0) [0],
dF (mV 20 0) [0],
dF (mV 21 0) [0],
dF (mV 22 0) [0],
dF (uO 23 (.nilchk 22)) [22],
dF (fA 24 42 none 23) [23],
dF (lD 25 none 24) [24],
dF (mV 26 1) [1],
dF (uO 27 (.bsl false none 1 (.int .u8 0) [(0,26)])) [26],
dT (uO 28 (.app none 25 27)) [25,27],
dF (mV 29 0) [0],
dF (uO 30 (.nilchk 29)) [29],
dF (fA 31 43 none 30) [30],
dA (lD 32 none 31) [31] false [9] [],
dF (mV 33 2) [2],
dA (uO 34 (.bsl false none 1 (.int .u8 0) [(0,33)])) [33] false [9] [],
dT (uO 35 (.app none 32 34)) [32,34],
dF (mV 36 0) [0],
dF (uO 37 (.nilchk 36)) [36],
dF (fA 38 44 none 37) [37],
dA (lD 39 none 38) [38] false [9,16] [],
dF (mV 40 3) [3],
dA (uO 41 (.bsl false none 1 (.int .u8 0) [(0,40)])) [40] false [9,16] [],
dT (uO 42 (.app none 39 41)) [39,41],
dF (uO 43 (.nilchk 19)) [19],
dF (fA 44 42 none 43) [43],
dT (wO (.store none 44 28)) [44,28],
dF (uO 45 (.nilchk 20)) [20],
dF (fA 46 43 none 45) [45],
dT (wO (.store none 46 35)) [46,35],
dF (uO 47 (.nilchk 21)) [21],
dF (fA 48 44 none 47) [47],
dT (wO (.store none 48 42)) [48,42]] [])
.skip)))
def zdS:AFun:=⟨4,[],zcL,false,false⟩
def zpq:ACode:=.pr [0,3,5,7,9,10,11,12,13,14,93,94] (rg [mV 126 0,
mV 127 13,
mV 128 10,
mV 129 12,
uO 130 (.idxs 128 129),
mV 131 14,
cL 132 PQ [126,127,130,131]] [0,3,5,7,9,10,11,93,94])
def zcN (q1:ACode):ACode:=.pr [0,3,5,7,9,10,11,12,13,14,93,94] (.seq (.seq (rg [mV 102 12,
mV 103 5,
uO 104 (.lens 103),
bN 105 .sub 102 104,
mV 15 105] [0,3,5,7,9,10,11,12,13,14,15,93,94])
(.seq (rg [mV 106 15,
bN 107 .geq 106 (cI 0),
mV 108 107,
gD 109 108 true (.mv 15),
gD 110 108 true (.faddr 5 none 3),
gD 111 108 true (.load none 110),
gD 112 108 true (.lens 111),
gD 113 108 true (.bin .lss 109 112),
uO 114 (.pick 108 113 cF),
mV 115 114,
gD 116 115 true (.faddr 5 none 3),
gD 117 115 true (.load none 116),
gD 118 115 true (.mv 15),
gD 119 115 true (.idxs 117 118),
gD 120 115 true (.bin .eql 119 (.c (.p (.int .u8 49)))),
uO 121 (.pick 115 120 cF)] [0,3,5,7,9,10,11,12,13,14,15,93,94,121])
(.cond 121 (rg [fA 122 4 none 3,
lD 123 none 122,
mV 124 15,
uO 125 (.idxs 123 124),
mV 14 125] [0,3,5,7,9,10,11,12,13,14,93,94])
.skip)))
q1)
def zpr:ACode:=zcN zpq
def zps:ACode:=.pr [0,3,5,7,9,10,11,93,94] (rg [bN 133 .add 94 (cI 1),
mV 94 133] [0,3,5,7,9,10,11,93,94])
def zcO (q2 q3:ACode):ACode:=.pr [0,3,5,7,9,10,11,93,94] (.seq (rg [bN 95 .lss 94 93] [0,3,5,7,9,10,11,93,94,95])
(.seq (.cond 95 .skip
(.exit 0))
(.seq (.block 1 (.seq (rg [mV 96 94,
mV 12 96] [0,3,5,7,9,10,11,12,93,94])
(.seq (rg [mV 13 (.c (.p (.int .u8 48))),
mV 14 (.c (.p (.int .u8 120)))] [0,3,5,7,9,10,11,12,13,14,93,94])
(.seq (.seq (rg [mV 97 12,
mV 98 10,
uO 99 (.lens 98),
bN 100 .sub 99 (cI 1),
bN 101 .eql 97 100] [0,3,5,7,9,10,11,12,13,14,93,94,101])
(.cond 101 (rg [mV 13 (.c (.p (.int .u8 49)))] [0,3,5,7,9,10,11,12,13,14,93,94])
.skip))
q2))))
q3)))
def zpt:ACode:=zcO zpr zps
def zpu:ACode:=.pr [0,7,9,11] (.seq (rg [mV 134 0,
mV 135 9,
uO 136 (.nilchk 134),
fA 137 36 none 136,
wO (.store none 137 135)] [0,7,11])
(.seq (rg [mV 138 0,
mV 139 7,
cL 140 LM [138,139]] [11])
(.seq (rg [mV 141 11,
mV 4 141] [4])
.ret)))
def zcP (q4 q5:ACode):ACode:=.pr [0,3,5,7,9,10] (.seq (rg [mV 85 0,
uO 86 (.nilchk 85),
fA 87 37 none 86,
lD 88 none 87,
mV 89 5,
uO 90 (.lens 89),
bN 91 .add 88 90,
mV 11 91] [0,3,5,7,9,10,11])
(.seq (.seq (rg [mV 92 10,
uO 93 (.lens 92),
mV 94 (cI 0)] [0,3,5,7,9,10,11,93,94])
(.block 0 (.loop q4)))
q5))
def zpv:ACode:=zcP zpt zpu
def zcQ (q6:ACode):ACode:=.pr [0,3,5,6,7,8,9] (.seq (rg [mV 55 0,
mV 56 8,
cL 57 LM [55,56]] [0,3,5,6,7,9])
(.seq (rg [mV 58 5,
fA 59 3 none 3,
lD 60 none 59,
bN 61 .add 58 60,
mV 62 6,
bN 63 .add 61 62,
mV 10 63] [0,3,5,7,9,10])
(.seq (.seq (rg [fA 64 0 none 3,
lD 65 none 64,
bN 66 .eql 65 (cI 7)] [0,3,5,7,9,10,66])
(.cond 66 (rg [mV 67 0,
uO 68 (.nilchk 67),
fA 69 38 none 68,
lD 70 none 69,
mV 71 10,
uO 72 (.lens 71),
bN 73 .add 70 72,
uO 74 (.nilchk 67),
fA 75 38 none 74,
wO (.store none 75 73)] [0,3,5,7,9,10])
(rg [mV 76 0,
uO 77 (.nilchk 76),
fA 78 39 none 77,
lD 79 none 78,
mV 80 10,
uO 81 (.lens 80),
bN 82 .add 79 81,
uO 83 (.nilchk 76),
fA 84 39 none 83,
wO (.store none 84 82)] [0,3,5,7,9,10])))
q6)))
def zpw:ACode:=zcQ zpv
def zcM (q7:ACode):ACode:=(.seq (rg [uO 3 (.box 1),
mV 4 (cI 0)] [0,3])
(.seq (dr [dF (mV 16 0) [0],
dF (uO 17 (.nilchk 16)) [16],
dF (fA 18 0 (some 36) 17) [17],
dF (fA 19 24 (some 6) 18) [18],
dF (fA 20 3 none 19) [19],
dF (lD 21 none 20) [20],
dF (mV 22 0) [0],
dF (uO 23 (.nilchk 22)) [22],
dF (fA 24 0 (some 36) 23) [23],
dF (fA 25 30 (some 6) 24) [24],
dF (fA 26 3 none 25) [25],
dF (lD 27 none 26) [26],
dF (mV 28 0) [0],
dF (uO 29 (.nilchk 28)) [28],
dF (fA 30 0 (some 36) 29) [29],
dF (fA 31 6 (some 6) 30) [30],
dF (fA 32 1 none 31) [31],
dF (lD 33 none 32) [32],
dF (mV 5 21) [21],
dF (mV 6 27) [27],
dF (mV 7 33) [33],
dF (mV 8 (cI 4)) [],
dF (mV 9 (cI 5)) []] [0,3,5,6,7,8,9])
(.seq (.seq (rg [fA 34 0 none 3,
lD 35 none 34,
bN 36 .eql 35 (cI 7)] [0,3,5,6,7,8,9,36])
(.cond 36 (dr [dF (mV 37 0) [0],
dF (uO 38 (.nilchk 37)) [37],
dF (fA 39 0 (some 36) 38) [38],
dF (fA 40 12 (some 6) 39) [39],
dF (fA 41 3 none 40) [40],
dF (lD 42 none 41) [41],
dF (mV 43 0) [0],
dF (uO 44 (.nilchk 43)) [43],
dF (fA 45 0 (some 36) 44) [44],
dF (fA 46 18 (some 6) 45) [45],
dF (fA 47 3 none 46) [46],
dF (lD 48 none 47) [47],
dF (mV 49 0) [0],
dF (uO 50 (.nilchk 49)) [49],
dF (fA 51 0 (some 36) 50) [50],
dF (fA 52 0 (some 6) 51) [51],
dF (fA 53 1 none 52) [52],
dF (lD 54 none 53) [53],
dF (mV 5 42) [42],
dF (mV 6 48) [48],
dF (mV 7 54) [54],
dF (mV 8 (cI 11)) [],
dF (mV 9 (cI 12)) []] [0,3,5,6,7,8,9])
.skip))
q7)))
def zdT:AFun:=⟨2,[.t 4],zcM zpw,false,false⟩
def zpx:ACode:=.pr [0,4,35,36] (.seq (rg [bN 37 .lss 36 35] [0,4,35,36,37])
(.seq (.cond 37 .skip
(.exit 1))
(.seq (.block 2 (rg [mV 38 0,
cL 39 PQ [38,(.c (.p (.int .u8 48))),(.c (.p (.int .u8 48))),(.c (.p (.int .u8 120)))]] [0,4,35,36]))
(rg [bN 40 .add 36 (cI 1),
mV 36 40] [0,4,35,36]))))
def zpy:ACode:=.pr [0,4] (.seq (dr [dF (mV 41 0) [0],
dF (mV 42 0) [0],
dF (uO 43 (.nilchk 42)) [42],
dF (fA 44 40 none 43) [43],
dF (lD 45 none 44) [44],
dF (mV 46 0) [0],
dF (uO 47 (.nilchk 46)) [46],
dF (fA 48 36 none 47) [47],
dF (lD 49 none 48) [48],
dF (uO 50 (.bsl false none 1 (.int .i64 0) [(0,49)])) [49],
dT (uO 51 (.app none 45 50)) [45,50],
dF (uO 52 (.nilchk 41)) [41],
dF (fA 53 40 none 52) [52],
dT (wO (.store none 53 51)) [53,51]] [0,4])
(rg [mV 54 0,
mV 55 0,
uO 56 (.nilchk 55),
fA 57 41 none 56,
lD 58 none 57,
mV 59 4,
uO 60 (.bsl false none 1 (.int .i64 0) [(0,59)]),
uO 61 (.app none 58 60),
uO 62 (.nilchk 54),
fA 63 41 none 62,
wO (.store none 63 61)] []))
def zcR (q1 q2:ACode):ACode:=(.seq (rg [uO 3 (.box 1)] [0,3])
(.seq (rg [mV 4 (cI 0)] [0,3,4])
(.seq (.block 0 (.seq (rg [fA 10 0 none 3,
lD 11 none 10,
cL 12 z5K [11],
mV 9 12] [0,3,4,9])
(.cond 9 (dr [dF (mV 13 0) [0],
dF (uO 14 (.nilchk 13)) [13],
dF (fA 15 0 (some 36) 14) [14],
dF (fA 16 0 none 3) [3],
dF (lD 17 none 16) [16],
dT (cL 18 z5P [15,17]) [15,17],
dA (lD 19 (some 6) 3) [3] false [5] [],
dF (uO 20 (.nilchk 18)) [18],
dT (wO (.store (some 6) 20 19)) [20,19]] [0,4])
(.seq (rg [fA 22 0 none 3,
lD 23 none 22,
cL 24 DW [23],
mV 21 24] [0,3,4,21])
(.cond 21 (rg [mV 25 0,
lD 26 (some 6) 3,
cL 27 z5M [25,26],
mV 4 27] [0,4])
(.seq (rg [fA 29 0 none 3,
lD 30 none 29,
bN 31 .eql 30 (cI 9),
mV 28 31] [0,3,4,28])
(.cond 28 (.seq (rg [mV 32 0,
cL 33 LM [32,(cI 1)]] [0,3,4])
(.seq (rg [fA 34 2 none 3,
lD 35 none 34,
mV 36 (cI 0)] [0,4,35,36])
(.block 1 (.loop q1))))
(rg [mV 5 0,
fA 6 1 none 3,
lD 7 none 6,
cL 8 LM [5,7]] [0,4]))))))))
q2)))
def zdU:AFun:=⟨2,[],zcR zpx zpy,false,false⟩
def zpz:ACode:=.pr [0,1,4,17,18] (.seq (rg [bN 19 .lss 18 17] [0,1,4,17,18,19])
(.seq (.cond 19 .skip
(.exit 0))
(.seq (.block 1 (.seq (rg [mV 20 18,
mV 6 20] [0,1,4,6,17,18])
(rg [mV 21 0,
mV 22 4,
mV 23 6,
uO 24 (.idxs 22 23),
cL 25 PQ [21,24,(.c (.p (.int .u8 48))),(.c (.p (.int .u8 120)))]] [0,1,4,17,18])))
(rg [bN 26 .add 18 (cI 1),
mV 18 26] [0,1,4,17,18]))))
def zp0:ACode:=.pr [0,1] (rg [mV 27 0,
mV 28 1,
uO 29 (.nilchk 27),
fA 30 36 none 29,
wO (.store none 30 28)] [])
def zcS (q1 q2:ACode):ACode:=(.seq (rg [mV 8 0,
uO 9 (.nilchk 8),
fA 10 36 none 9,
lD 11 none 10,
mV 12 1,
cL 13 z5H [11,12],
mV 7 13,
eX 14 7 0,
eX 15 7 1,
mV 4 14,
mV 5 15] [0,1,4])
(.seq (.seq (rg [mV 16 4,
uO 17 (.lens 16),
mV 18 (cI 0)] [0,1,4,17,18])
(.block 0 (.loop q1)))
q2))
def zdV:AFun:=⟨2,[],zcS zpz zp0,false,false⟩
def zcT:ACode:=(.seq (rg [uO 1 (.box 0),
mV 2 (cI 0)] [1])
(.seq (.block 0 (.seq (rg [fA 4 3 none 1,
lD 5 none 4,
bN 6 .eql 5 (cS []),
mV 3 6] [1,3])
(.cond 3 (.seq (rg [mV 2 (cI 8)] [2])
.ret)
(.seq (rg [fA 8 3 none 1,
lD 9 none 8,
cL 10 NE [9],
uO 11 (.un .not 10),
mV 7 11] [1,7])
(.cond 7 (.seq (rg [mV 2 (cI 9)] [2])
.ret)
(.seq (rg [fA 13 3 none 1,
lD 14 none 13,
uO 15 (.lens 14),
bN 16 .gtr 15 (cI 2000),
mV 12 16] [1,12])
(.cond 12 (.seq (rg [mV 2 (cI 2)] [2])
.ret)
(.seq (rg [fA 18 4 none 1,
lD 19 none 18,
bN 20 .neq 19 (cS []),
mV 21 20,
gD 22 21 true (.faddr 4 none 1),
gD 23 21 true (.load none 22),
gD 24 21 true (.lens 23),
gD 25 21 true (.faddr 3 none 1),
gD 26 21 true (.load none 25),
gD 27 21 true (.lens 26),
gD 28 21 true (.bin .neq 24 27),
gD 29 21 true (.mv 28),
gD 30 29 false (.faddr 5 none 1),
gD 31 29 false (.load none 30),
gD 32 29 false (.lens 31),
gD 33 29 false (.faddr 3 none 1),
gD 34 29 false (.load none 33),
gD 35 29 false (.lens 34),
gD 36 29 false (.bin .neq 32 35),
gD 37 21 true (.pick 29 cT 36),
uO 38 (.pick 21 37 cF),
mV 17 38] [1,17])
(.cond 17 (.seq (rg [mV 2 (cI 3)] [2])
.ret)
(.seq (rg [fA 40 4 none 1,
lD 41 none 40,
cL 42 NE [41],
uO 43 (.un .not 42),
mV 44 43,
gD 45 44 false (.faddr 5 none 1),
gD 46 44 false (.load none 45),
gD 47 44 false (.call NE [46]),
gD 48 44 false (.un .not 47),
uO 49 (.pick 44 cT 48),
mV 39 49] [1,39])
(.cond 39 (.seq (rg [mV 2 (cI 9)] [2])
.ret)
(.seq (rg [fA 51 4 none 1,
lD 52 none 51,
bN 53 .eql 52 (cS []),
mV 54 53,
gD 55 54 true (.faddr 5 none 1),
gD 56 54 true (.load none 55),
gD 57 54 true (.bin .neq 56 (cS [])),
uO 58 (.pick 54 57 cF),
mV 50 58] [50])
(.cond 50 (.seq (rg [mV 2 (cI 3)] [2])
.ret)
.skip)))))))))))))
(.seq (rg [mV 2 (cI 0)] [2])
.ret)))
def zdW:AFun:=⟨1,[.t 2],zcT,false,false⟩
def zcU:ACode:=(.seq (rg [mV 4 (.c (.nilp))] [0,1])
(.seq (.seq (rg [mV 5 1] [0,5])
(.block 0 (.seq (rg [bN 7 .eql 5 (cI 1),
mV 6 7] [0,5,6])
(.cond 6 (.seq (rg [mV 8 0,
uO 9 (.nilchk 8),
fA 10 0 (some 6) 9,
mV 4 10] [4])
.ret)
(.seq (rg [bN 12 .eql 5 (cI 2),
mV 11 12] [0,5,11])
(.cond 11 (.seq (rg [mV 13 0,
uO 14 (.nilchk 13),
fA 15 6 (some 6) 14,
mV 4 15] [4])
.ret)
(.seq (rg [bN 17 .eql 5 (cI 3),
mV 16 17] [0,5,16])
(.cond 16 (.seq (rg [mV 18 0,
uO 19 (.nilchk 18),
fA 20 12 (some 6) 19,
mV 4 20] [4])
.ret)
(.seq (rg [bN 22 .eql 5 (cI 4),
mV 21 22] [0,5,21])
(.cond 21 (.seq (rg [mV 23 0,
uO 24 (.nilchk 23),
fA 25 18 (some 6) 24,
mV 4 25] [4])
.ret)
(.seq (rg [bN 27 .eql 5 (cI 5),
mV 26 27] [0,26])
(.cond 26 (.seq (rg [mV 28 0,
uO 29 (.nilchk 28),
fA 30 24 (some 6) 29,
mV 4 30] [4])
.ret)
.skip))))))))))))
(.seq (rg [mV 31 0,
uO 32 (.nilchk 31),
fA 33 30 (some 6) 32,
mV 4 33] [4])
.ret)))
def zdX:AFun:=⟨2,[.t 4],zcU,false,false⟩
def zcV:ACode:=(.seq (rg [mV 2 cF] [0])
(.seq (rg [mV 3 0,
bN 4 .eql 3 (cI 0),
mV 5 4,
gD 6 5 false (.mv 0),
gD 7 5 false (.bin .eql 6 (cI 1)),
uO 8 (.pick 5 cT 7),
mV 9 8,
gD 10 9 false (.mv 0),
gD 11 9 false (.bin .eql 10 (cI 6)),
uO 12 (.pick 9 cT 11),
mV 13 12,
gD 14 13 false (.mv 0),
gD 15 13 false (.bin .eql 14 (cI 13)),
uO 16 (.pick 13 cT 15),
mV 2 16] [2])
.ret))
def zdY:AFun:=⟨1,[.t 2],zcV,false,false⟩
def zcW:ACode:=(.seq (rg [uO 0 (.alloc [.p (.int .i64 0),.p (.int .i64 0),.p (.int .i64 0),.p (.str []),.p (.str []),.p (.str []),.p (.int .i64 0),.p (.int .i64 0),.p (.int .i64 0),.p (.str []),.p (.str []),.p (.str []),.p (.int .i64 0),.p (.int .i64 0),.p (.int .i64 0),.p (.str []),.p (.str []),.p (.str []),.p (.int .i64 0),.p (.int .i64 0),.p (.int .i64 0),.p (.str []),.p (.str []),.p (.str []),.p (.int .i64 0),.p (.int .i64 0),.p (.int .i64 0),.p (.str []),.p (.str []),.p (.str []),.p (.int .i64 0),.p (.int .i64 0),.p (.int .i64 0),.p (.str []),.p (.str []),.p (.str [])])] [0])
(.seq (rg [uO 1 (.build [.p (.int .i64 0),.p (.int .i64 0),.p (.int .i64 0),.p (.str []),.p (.str []),.p (.str [])] [(0,1,(cI 1)),(1,1,(cI 1))]),
uO 2 (.build [.p (.int .i64 0),.p (.int .i64 0),.p (.int .i64 0),.p (.str []),.p (.str []),.p (.str [])] [(0,1,(cI 2)),(1,1,(cI 1))]),
uO 3 (.build [.p (.int .i64 0),.p (.int .i64 0),.p (.int .i64 0),.p (.str []),.p (.str []),.p (.str [])] [(0,1,(cI 3))]),
uO 4 (.build [.p (.int .i64 0),.p (.int .i64 0),.p (.int .i64 0),.p (.str []),.p (.str []),.p (.str [])] [(0,1,(cI 4))]),
uO 5 (.build [.p (.int .i64 0),.p (.int .i64 0),.p (.int .i64 0),.p (.str []),.p (.str []),.p (.str [])] [(0,1,(cI 5))]),
uO 6 (.build [.p (.int .i64 0),.p (.int .i64 0),.p (.int .i64 0),.p (.str []),.p (.str []),.p (.str [])] [(0,1,(cI 6))]),
uO 7 (.build [.p (.int .i64 0),.p (.int .i64 0),.p (.int .i64 0),.p (.str []),.p (.str []),.p (.str []),.p (.int .i64 0),.p (.int .i64 0),.p (.int .i64 0),.p (.str []),.p (.str []),.p (.str []),.p (.int .i64 0),.p (.int .i64 0),.p (.int .i64 0),.p (.str []),.p (.str []),.p (.str []),.p (.int .i64 0),.p (.int .i64 0),.p (.int .i64 0),.p (.str []),.p (.str []),.p (.str []),.p (.int .i64 0),.p (.int .i64 0),.p (.int .i64 0),.p (.str []),.p (.str []),.p (.str []),.p (.int .i64 0),.p (.int .i64 0),.p (.int .i64 0),.p (.str []),.p (.str []),.p (.str [])] [(0,6,1),(6,6,2),(12,6,3),(18,6,4),(24,6,5),(30,6,6)]),
wO (.store (some 36) 0 7)] [0])
.ret))
def zdZ:AFun:=⟨0,[.cell 0 (some 36)],zcW,false,false⟩
end Go.Am
end
section
/- The abstract machine,part L: functions of the library that are met by the kit's contracts: plain values in,plain values out,new memory at most. -/
set_option linter.unusedSimpArgs false
set_option linter.unusedVariables false
namespace Go.Am
variable {P:Program} {gl:Nat→Option PV}
structure PureRow (P:Program) (gl:Nat→Option PV) (f:Nat) (spec:List PV→Option AV):Prop where
 enter:∀us w,(callFunc f us).run P w = .ok (.enter f us) w
 run:∀(M:Mem) (w:World) (vs:List PV) (r:AV) (us:List Value),(∀b o v,M.c b o=some v→w.cell? ⟨b,o,none⟩=some v)→(∀b o,M.b b=some o→w.heap[b]?=some o)→gE gl M→vs.length=us.length →
  (∀(j:Nat) (y:PV) (v:Value),vs[j]?=some y→us[j]?=some v→RPV M y v)→spec vs=some r →
  Calls P f us.toArray w fun e w'=>∃x,e = .returned x∧WExt w w'∧RAV (WG M w w') [] [] r x
abbrev KF:=List (Nat × (List PV→Option AV))
def HH:KF→Nat→List AV→bA→Option (AV×bA×Esc)
 | [],_,_,_=>none
 | (g,s)::r,f,asv,h=>bif Nat.beq f g then((unp asv).bind s).map fun v=>(v,h,[]) else HH r f asv h
theorem yY:∀ (gs:KF),(∀g s,(g,s)∈gs→PureRow P gl g s)→∀{f:Nat} {asv:List AV} {h:bA} {v:AV} {h':bA} {x:Esc},HH gs f asv h=some (v,h',x) →
 EC P gl f asv h fun v1 h1 x1=>v1=v∧h1=h'∧x1=x
 | [],_,f,asv,h,v,h',x,H=>by cases H
 | (g,s)::r,hg,f,asv,h,v,h',x,H=>by
  unfold HH at H;cases e1:Nat.beq f g with
  | false=>
   rw[e1]at H;exact yY r (fun g sh hm=>hg g sh (by simp [hm])) H
  | true=>
   rw[e1]at H;have e:=Nat.eq_of_beq_eq_true e1
   subst e;have R:=hg f s (by simp)
   simp only[cond_true]at H;obtain⟨y,hy,e2⟩:=Option.map_eq_some_iff.1 H;simp only[Prod.mk.injEq]at e2;obtain⟨rfl,rfl,rfl⟩:=e2;obtain⟨ps,hps,hs⟩:=Option.bind_eq_some_iff.1 hy;have hm:=QL hps
   subst hm;intro μ w vs Hh Hg hl hr;refine .inl ⟨R.enter _,?_⟩;refine(R.run (imm h μ w) w ps y vs (fun b o v hv=>(WD.1 hv).2) (fun b o hv=>(xH.1 hv).2) Hg (by simpa using hl) (fun j q v hq hv=>(hr j (.p q) v (by simp [hq]) hv).p_inv) hs).mono fun e w' he=>?_
   obtain⟨u,rfl,g1,g2⟩:=he;obtain⟨n1,n2⟩:=Hh.ext g1;have Lq:(WG (imm h μ w) w w').le (imm h μ w'):=by
    refine⟨fun b o v hv=>?_,fun b o hv=>?_,rfl,fun _ _ h=>by cases h⟩
    ·dsimp only[WG]at hv
     split at hv
     ·exact n2.le.c _ _ _ hv
     ·rename_i hb
      exact WD.2 ⟨fun hO=>hb (kX Hh hO),hv⟩
    ·dsimp only[WG]at hv
     cases hv
   exact⟨_,_,_,μ,⟨rfl,rfl,rfl⟩,g2.evo ⟨Lq,Nat.zero_le _,fun id o m h1=>by simp at h1⟩,n1,n2,CA.refl h []⟩
def GI (gs:List (Nat × Sh))(ps:KF)(f:Nat)(asv:List AV)(h:bA):Option (AV×bA×Esc):=match tK gs f asv h with
 | some y=>some y
 | none=>match HH ps f asv h with
  | some y=>some y
  | none=>match zA h asv with
   | some (asv',h1)=>HH ps f asv' h1
   | none=>none
theorem zpJ {ps:KF}(hp:∀ g s,(g,s)∈ps→PureRow P gl g s){f:Nat}{asv asv':List AV}{h h1:bA}{v:AV}{h':bA}{x:Esc}(hq:zA h asv=some (asv',h1))(H:HH ps f asv' h1=some (v,h',x)) :
 EC P gl f asv h fun v1 h2 x1=>v1=v∧h2=h'∧x1=x:=by
 intro μ w vs Hh Hg hl hr;obtain⟨q1,q2,q3⟩:=oS asv Hh hl hr hq;rcases yY ps hp H μ w vs q1.1 (Hg.mono q1.2.1.le) q2 q3 with⟨k1,k2⟩|⟨r,w',v2,h2,x2,μ',k1,k2,k3,k4,k5,k6⟩
 ·refine .inl ⟨k1,k2.mono fun e w' he=>?_⟩
  cases e with
  | returned r=>
   obtain⟨v2,h2,x2,μ',k2,k3,k4,k5,k6⟩:=he;exact⟨v2,h2,x2,μ',k2,k3,k4,q1.2.1.trans k5,by simpa using q1.2.2.trans k6⟩
  | panicked _=>exact he
  | outgrown=>exact he
 ·exact .inr ⟨r,w',v2,h2,x2,μ',k1,k2,k3,k4,q1.2.1.trans k5,by simpa using q1.2.2.trans k6⟩
theorem libF_ok {gs:List (Nat × Sh)}{ps:KF}(hg:∀ g sh,(g,sh)∈gs→GrowRow P g sh)(hp:∀ g s,(g,s)∈ps→PureRow P gl g s){f:Nat}{asv:List AV}{h:bA}{v:AV}{h':bA}{x:Esc}(H:GI gs ps f asv h=some (v,h',x)) :
 EC P gl f asv h fun v1 h1 x1=>v1=v∧h1=h'∧x1=x:=by
 unfold GI at H;split at H
 ·rename_i y hy
  cases H;exact z65 gs hg hy
 ·split at H
  ·rename_i y hy
   cases H;exact yY ps hp hy
  ·split at H
   ·rename_i asv' h1 hq
    exact zpJ hp hq H
   ·cases H
theorem z6U {X:Ctx}{f:Nat}{asv:List AV}{h h':bA}{v:AV}{x:Esc}{K:mA}(hf:X.fn f=none)(hx:X.ex2 f asv h=some (v,h',x)):jA X f asv h K=K v h' x:=by
 refine propext (jA.eq (jA.fold ?_) K);unfold nC;simp only[hf,hx];exact⟨trivial,trivial,trivial⟩
def UQ:List (Nat × Sh)→Nat→Option Sh
 | [],_=>none
 | (g,s)::r,f=>bif Nat.beq f g then some s else UQ r f
theorem z64:∀ {gs:List (Nat × Sh)}{f:Nat}{asv:List AV}{h:bA},UQ gs f=none→tK gs f asv h=none
 | [],f,asv,h,_=>rfl
 | (g,s)::r,f,asv,h,hm=>by
  unfold UQ at hm;unfold tK;cases hq:Nat.beq f g with
  | true=>rw[hq]at hm;cases hm
  | false=>rw[hq]at hm;exact z64 hm
def pS:KF→Nat→Option (List PV→Option AV)
 | [],_=>none
 | (g,s)::r,f=>bif Nat.beq f g then some s else pS r f
theorem z7C:∀ {gs:KF}{f:Nat}{s:List PV→Option AV}{asv:List AV}{h:bA},pS gs f=some s→HH gs f asv h=((unp asv).bind s).map fun v=>(v,h,[])
 | [],f,s,asv,h,hm=>by cases hm
 | (g,s')::r,f,s,asv,h,hm=>by
  unfold pS at hm;unfold HH;cases hq:Nat.beq f g with
  | true=>rw[hq]at hm;cases hm;rfl
  | false=>rw[hq]at hm;exact z7C hm
theorem zn4 {gs:List (Nat × Sh)}{ps:KF}{f:Nat}{s:List PV→Option AV}{asv:List AV}{vs:List PV}{v:AV}{h:bA}(hg:UQ gs f=none)(hm:pS ps f=some s)(hu:unp asv=some vs)(hv:s vs=some v):GI gs ps f asv h=some (v,h,[]):=by
 unfold GI;rw[z64 hg,z7C hm,hu];simp [hv]
def glOf:List (Nat × PV)→Nat→Option PV
 | [],_=>none
 | (g,v)::r,n=>bif Nat.beq n g then some v else glOf r n
theorem zue {f:Nat}(h:(match P.funcs[f]? with | some fn=>fn.body.isSome&&fn.name != "runtime.NumGoroutine" | none=>false)=true)(us:Array Value)(w:World):(callFunc f us).run P w = .ok (.enter f us) w:=by
 cases hf:P.funcs[f]? with
 | none=>rw[hf]at h;cases h
 | some fn=>
  rw[hf]at h;simp only[Bool.and_eq_true,bne_iff_ne,ne_eq]at h;cases hb:fn.body with
  | none=>rw[hb]at h;cases h.1
  | some c=>exact pW hf hb h.2 us w
theorem zug {M:Mem}:gE (glOf []) M:=fun n v hv=>by cases hv
def iO (s cs:List UInt8):List UInt8:=(s.reverse.dropWhile (cs.contains ·)).reverse.dropWhile (cs.contains ·)
def trimS:List PV→Option AV
 | [.str s,.str cs]=>if s.length≤1000000∧cs.length≤1000∧cs.all (fun b=>decide (b.toNat<128))=true then some (.p (.str (iO s cs))) else none
 | _=>none
end Go.Am
end
section
/- The abstract machine,part C: WB calls that say true,asv contracts. -/
set_option linter.all false
namespace Go.Am
variable {P:Program} {gl:Nat→Option PV}
def dZ:List PV→Option AV
 | []=>some (AB true)
 | _=>none
theorem RPV.mono' {M M':Mem}(hM:∀ b o v,M.c b o=some v→M'.c b o=some v){v:PV}{x:Value}(H:RPV M v x):RPV M' v x:=by
 induction H with
 | int k n=>exact .int k n
 | bool b=>exact .bool b
 | str s=>exact .str s
 | nilp=>exact .nilp
 | unk k n=>exact .unk k n
 | nils sh a cap=>exact .nils sh a cap
 | sl sh xs b o cap f hne hc he hm hr ih=>exact .sl sh xs b o cap f hne hc he (fun j y hy=>hM _ _ _ (hm j y hy)) ih
 | agg cs vs hl hr ih=>exact .agg cs vs hl ih
theorem gE.mono' {M M':Mem}(hc:∀ b o v,M.c b o=some v→M'.c b o=some v)(hb:∀ b o,M.b b=some o→M'.b b=some o)(H:gE gl M):gE gl M':=fun n v hv=>by
 obtain⟨h1,cs,t,x,h2,h3⟩:=H n v hv;refine⟨?_,cs,t,x,hb _ _ h2,h3⟩;cases h1 with|vp _ _ _ f hm hr=>exact .vp v n 0 f (fun j y hy=>hc _ _ _ (hm j y hy)) (fun j y hy=>(hr j y hy).mono' hc)
theorem zuh {X:Ctx}(HX:Fits P X){f:Nat}(H:jA X f [] [] fun v h x=>v=AB true∧h=[]∧x=[])(he:∀ us w,(callFunc f us).run P w = .ok (.enter f us) w):PureRow P X.gl f dZ:=by
 refine⟨he,fun M w vs r us hc hb hG hl hr hs=>?_⟩
 cases vs with
 | cons a l=>cases hs
 | nil=>
  have hu:us=[]:=List.length_eq_zero_iff.1 (by simpa using hl.symm)
  subst hu;simp only[dZ,Option.some.injEq]at hs;subst hs;have hno:∀b o,¬tG ([]:bA) ([]:Mu) b o:=fun b o ⟨id,n,h1,_⟩=>by simp at h1
  have hnt:∀b,¬fJ ([]:Mu) b:=fun b ⟨id,n,h1⟩=>by simp at h1
  have hG':gE X.gl (imm [] [] w):=hG.mono' (fun b o v h=>WD.2 ⟨hno b o,hc b o v h⟩) (fun b o h=>xH.2 ⟨hnt b,hb b o h⟩)
  have hR:HeapRel [] [] w:=⟨rfl,fun id o m h1=>by simp at h1,fun i j b n n' h1=>by simp at h1,fun i b n h1=>by simp at h1⟩
  rcases z1U HX H [] w [] hR hG' rfl (fun j y v h1=>by simp at h1) with⟨_,q⟩|⟨r,w',v,h',x,μ',q,_⟩
  ·refine q.mono fun e w' h=>?_
   cases e with
   | panicked _=>exact h.elim
   | outgrown=>exact h.elim
   | returned r=>
    obtain⟨v,h',x,μ',⟨rfl,rfl,rfl⟩,h1,h2,h3,h4⟩:=h;have hm:μ'=[]:=List.length_eq_zero_iff.1 (by simpa using h2.len)
    subst hm;have hbl:∀b o,w.heap[b]?=some o→w'.heap[b]?=some o:=fun b o h=>(xH.1 (h3.le.b b o (xH.2 ⟨hnt b,h⟩))).2
    refine⟨r,rfl,⟨?_,fun b hb=>?_,?_⟩,?_⟩
    ·rcases Nat.lt_or_ge w'.heap.size w.heap.size with q|q
     ·have:=hbl w'.heap.size _ (Array.getElem?_eq_getElem q)
      simp at this
     ·exact q
    ·rw[hbl b _ (Array.getElem?_eq_getElem hb),Array.getElem?_eq_getElem hb]
    ·have:=h3.le.z
     simpa [imm] using this
    ·have:=h1.p_bool
     rw[this];exact .p _ _ (.bool true)
  ·rw[he]at q
   cases q
end Go.Am
end
section
/- The functions together. -/
set_option linter.unusedVariables false
set_option maxRecDepth 100000
namespace Go.Am
def fns:List (Nat × AFun):=[(OQ,qT),(UJ,AT),(RJ,uT),(WJ,HT),(lH,XS),(mH,zO),(LJ,aT),(JJ,YS),(EG,UO),(eK,bU),(MJ,bT),(wH,nU),(nE,ZO),(QJ,sT),(sH,IT),(wC,BT),(pC,vT),(LB,wT),(VJ,GT),(AE,xO),(OE,NO),(DG,PO),(xD,OO),(CG,yO),(dK,aU),(KJ,ZS),(UF,FO),(nK,oU),(vH,bP),(qI,DT),(cK,ZT),(xI,gU),(rH,tT),(uH,XT),(GG,MT),(mF,FT),(YF,LT),(aK,VT),(ZJ,QT),(bK,YT),(sI,JT),(UD,TT),(WF,rT),(ZF,UT),(wD,tO),(NE,rO),(aG,XO),(lI,GO),(nI,MO),(fC,vO),(jK,eU),(OJ,mT),(XF,zT),(JD,YO),(rI,ET),(kK,fU),(bG,lU),(qH,oT),(NJ,fT),(yI,iU),(TJ,xT),(mE,yT),(YJ,PT),(vI,WT),(XJ,NT),(uI,ST),(iK,dU),(oK,pU),(kI,EO),(BE,LO),(nH,HO),(oI,QO),(jI,DO),(lF,nT),(IM,jT),(JM,kT),(wI,aP),(lK,jU),(PJ,pT),(PE,iT),(cG,mU),(fK,cU),(tI,OT),(mI,JO),(oH,RO),(pH,SO),(oE,cP),(KM,lT),(mK,kU),(kF,gT),(tH,WO),(VF,KO),(pI,TO)]
def GRL:List (Nat × Sh):=[]
def PRL:KF:=[(qK,trimS),(FG,dZ)]
def GLL:List (Nat × PV):=[]
def RM:List (Nat × AFun)→Nat→Option AFun
 | [],_=>none
 | (k,F)::r,n=>bif Nat.beq k n then some F else RM r n
def X:Ctx:=⟨RM fns,glOf GLL,iI SF TF,GI GRL PRL⟩
theorem z6c {p:Nat→AFun→Bool}:∀(l:List (Nat×AFun)),(l.all fun y=>p y.1 y.2)=true→∀n F,RM l n=some F→p n F=true
 | [],_,n,F,h=>by cases h
 | (k,G)::r,ha,n,F,h=>by
  simp only[List.all_cons,Bool.and_eq_true]at ha;simp only[RM]at h;cases hk:Nat.beq k n with
  | true=>
   rw[hk]at h;have:=Nat.eq_of_beq_eq_true hk;simp only[cond_true,Option.some.injEq]at h;subst this;subst h;exact ha.1
  | false=>
   rw[hk]at h;exact z6c r ha.2 n F h
def fns0:List (Nat × AFun):=[(FG,zdy),(mH,zO),(EG,UO),(nE,ZO),(z5j,zdz),(z4W,zdm),(z5J,zdN),(z5d,zdt),(z54,zd6),(AE,xO),(OE,NO),(DG,PO),(xD,OO),(CG,yO),(UF,FO),(vH,bP),(z4V,zdl),(z5I,zdM),(EW,zdR),(z5g,zdw),(z5f,zdv),(wW,zde),(z58,zdA),(wD,tO),(z5D,zdG),(z5G,zdJ),(NE,rO),(aG,XO),(lI,GO),(nI,MO),(fC,vO),(JD,YO),(z4X,zdn),(z4Z,zdp),(z5c,zds),(z5b,zdr),(z5a,zdq),(z5L,zdQ),(z5R,zdZ),(z5N,zdU),(z5k,zd0),(z5h,zdx),(z5e,zdu),(z4S,zdf),(z4R,zdd),(z53,zd5),(z52,zd4),(z5E,zdH),(z56,zd8),(z5C,zdF),(kI,EO),(BE,LO),(nH,HO),(oI,QO),(jI,DO),(wI,aP),(z4U,zdk),(z4T,zdj),(z5Q,zdY),(DW,zdO),(z5O,zdW),(z5K,zdP),(z5P,zdX),(z5M,zdT),(LM,zdV),(PQ,zdS),(z5m,zd2),(z57,zd9),(z55,zd7),(z5F,zdI),(xW,zdg),(z5B,zdE),(z5A,zdC),(BW,zdD),(mI,JO),(oH,RO),(pH,SO),(oE,cP),(z4Y,zdo),(z5l,zd1),(z5H,zdK),(yW,zdh),(z59,zdB),(tH,WO),(VF,KO),(pI,TO),(z5n,zd3),(CW,zdL),(BI,dP),(zW,zdi),(zI,WL)]
def PRL0:KF:=[(qK,trimS)]
def X0:Ctx:=⟨RM fns0,glOf GLL,iI SF TF,GI GRL PRL0⟩
theorem zs8:X0.fn BI=some dP:=by kernel_rfl
theorem zs7:X0.fn zI=some WL:=by kernel_rfl
theorem VL:X.NoNext:=fun f F h=>z6c (p:=fun _ F=>F.isDet||F.body.noNext) fns (by kernel_rfl) f F h
theorem ztk:X.fn OQ=some qT:=by kernel_rfl
theorem zf2 {u0 v0:AV}{h h1:bA}{P:mA}(hp:zA h [u0]=some ([v0],h1)):jA X OQ [u0] h P=rM (jA X) X.gl PI BR v0 h1 [] (xA [.t 2] false h.length P):=by rw[PA ztk rfl hp rfl];exact zi0
theorem ztv:X.fn UJ=some AT:=by kernel_rfl
theorem zfC {u0 v0:AV}{h h1:bA}{P:mA}(hp:zA h [u0]=some ([v0],h1)):jA X UJ [u0] h P=aQ (jA X) X.gl eL KR v0 h1 [] (xA [.cell 2 (some 3)] false h.length P):=by rw[PA ztv rfl hp rfl];exact ziT
theorem ztp:X.fn RJ=some uT:=by kernel_rfl
theorem zf7 {u0 u1 v0 v1:AV}{h h1:bA}{P:mA}(hp:zA h [u0,u1]=some ([v0,v1],h1)):jA X RJ [u0,u1] h P=XP (jA X) X.gl dL JR v0 v1 h1 [] (xA [.t 4] false h.length P):=by rw[PA ztp rfl hp rfl];exact ziI
theorem zt1:X.fn WJ=some HT:=by kernel_rfl
theorem zfH {u0 u1 v0 v1:AV}{h h1:bA}{P:mA}(hp:zA h [u0,u1]=some ([v0,v1],h1)):jA X WJ [u0,u1] h P=CJ (jA X) X.gl iL NR v0 v1 h1 [] (xA [.t 4] false h.length P):=by rw[PA zt1 rfl hp rfl];exact zjj
theorem zsC:X.fn lH=some XS:=by kernel_rfl
theorem zeY {u0 u1 v0 v1:AV}{h h1:bA}{P:mA}(hp:zA h [u0,u1]=some ([v0,v1],h1)):jA X lH [u0,u1] h P=jM (jA X) X.gl FK oR v0 v1 h1 [] (xA [.t 4,.t 5] false h.length P):=by rw[PA zsC rfl hp rfl];exact zha
theorem zsH:X.fn mH=some zO:=by kernel_rfl
theorem zfd {u0 u1 v0 v1:AV}{h h1:bA}{P:mA}(hp:zA h [u0,u1]=some ([v0,v1],h1)):jA X mH [u0,u1] h P=mM (jA X) X.gl IK qR v0 v1 h1 [] (xA [.t 4,.t 5] false h.length P):=by rw[PA zsH rfl hp rfl];exact zhp
theorem zsI:X.fn LJ=some aT:=by kernel_rfl
theorem zfe {u0 v0:AV}{h h1:bA}{P:mA}(hp:zA h [u0]=some ([v0],h1)):jA X LJ [u0] h P=RU (jA X) X.gl v0 h1 [] (xA [.t 2,.t 3] false h.length P):=by rw[PA zsI rfl hp rfl];exact zhs
theorem zsF:X.fn JJ=some YS:=by kernel_rfl
theorem zfb {u0 u1 v0 v1:AV}{h h1:bA}{P:mA}(hp:zA h [u0,u1]=some ([v0,v1],h1)):jA X JJ [u0,u1] h P=yP (jA X) X.gl v0 v1 h1 [] (xA [.t 4,.t 5] false h.length P):=by rw[PA zsF rfl hp rfl];exact zhn
theorem ztl:X.fn EG=some UO:=by kernel_rfl
theorem zf3 {u0 v0:AV}{h h1:bA}{P:mA}(hp:zA h [u0]=some ([v0],h1)):jA X EG [u0] h P=TP (jA X) X.gl WK CR v0 h1 [] (xA [.t 2] false h.length P):=by rw[PA ztl rfl hp rfl];exact zi2
theorem ztN:X.fn eK=some bU:=by kernel_rfl
theorem zgb {u0 u1 v0 v1:AV}{h h1:bA}{P:mA}(hp:zA h [u0,u1]=some ([v0,v1],h1)):jA X eK [u0,u1] h P=oQ (jA X) X.gl rL XR v0 v1 h1 [] (xA [.t 4] false h.length P):=by rw[PA ztN rfl hp rfl];exact zjW
theorem zsJ:X.fn MJ=some bT:=by kernel_rfl
theorem zff {u0 u1 u2 v0 v1 v2:AV}{h h1:bA}{P:mA}(hp:zA h [u0,u1,u2]=some ([v0,v1,v2],h1)):jA X MJ [u0,u1,u2] h P=zP (jA X) X.gl OI pN v0 v1 v2 h1 [] (xA [.t 6,.t 7] false h.length P):=by rw[PA zsJ rfl hp rfl];exact zht
theorem zub:X.fn wH=some nU:=by kernel_rfl
theorem zgp {u0 u1 v0 v1:AV}{h h1:bA}{P:mA}(hp:zA h [u0,u1]=some ([v0,v1],h1)):jA X wH [u0,u1] h P=YV (jA X) X.gl v0 v1 h1 [] (xA [.t 4] false h.length P):=by rw[PA zub rfl hp rfl];exact zkC
theorem ztL:X.fn nE=some ZO:=by kernel_rfl
theorem zfZ {u0 u1 h P}:jA X nE [u0,u1] h P=KV (jA X) X.gl u0 u1 h [] (xA [.t 4] false h.length P):=by rw[TC ztL rfl rfl];exact zjR
theorem ztn:X.fn QJ=some sT:=by kernel_rfl
theorem zf5 {u0 v0:AV}{h h1:bA}{P:mA}(hp:zA h [u0]=some ([v0],h1)):jA X QJ [u0] h P=VP (jA X) X.gl QI yN v0 h1 [] (xA [.cell 2 (some 3)] false h.length P):=by rw[PA ztn rfl hp rfl];exact zi7
theorem zt2:X.fn sH=some IT:=by kernel_rfl
theorem zfI {u0 v0:AV}{h h1:bA}{P:mA}(hp:zA h [u0]=some ([v0],h1)):jA X sH [u0] h P=vM (jA X) X.gl jL DN v0 h1 [] (xA [.t 2] false h.length P):=by rw[PA zt2 rfl hp rfl];exact zjm
theorem ztw:X.fn wC=some BT:=by kernel_rfl
theorem zfD {u0 u1 v0 v1:AV}{h h1:bA}{P:mA}(hp:zA h [u0,u1]=some ([v0,v1],h1)):jA X wC [u0,u1] h P=wV (jA X) X.gl v0 v1 h1 [] (xA [.t 4] false h.length P):=by rw[PA ztw rfl hp rfl];exact ziV
theorem ztq:X.fn pC=some vT:=by kernel_rfl
theorem zf8 {u0 u1 v0 v1:AV}{h h1:bA}{P:mA}(hp:zA h [u0,u1]=some ([v0,v1],h1)):jA X pC [u0,u1] h P=tV (jA X) X.gl v0 v1 h1 [] (xA [.t 4] false h.length P):=by rw[PA ztq rfl hp rfl];exact ziO
theorem ztr:X.fn LB=some wT:=by kernel_rfl
theorem zf9 {u0 u1 v0 v1:AV}{h h1:bA}{P:mA}(hp:zA h [u0,u1]=some ([v0,v1],h1)):jA X LB [u0,u1] h P=YP (jA X) X.gl v0 v1 h1 [] (xA [.t 4] false h.length P):=by rw[PA ztr rfl hp rfl];exact ziP
theorem zt0:X.fn VJ=some GT:=by kernel_rfl
theorem zfG {u0 v0:AV}{h h1:bA}{P:mA}(hp:zA h [u0]=some ([v0],h1)):jA X VJ [u0] h P=BV (jA X) X.gl v0 h1 [] (xA [.t 2] false h.length P):=by rw[PA zt0 rfl hp rfl];exact zji
theorem zsD:X.fn AE=some xO:=by kernel_rfl
theorem zeZ {u0 u1 v0 v1:AV}{h h1:bA}{P:mA}(hp:zA h [u0,u1]=some ([v0,v1],h1)):jA X AE [u0,u1] h P=uJ (jA X) X.gl GK pR v0 v1 h1 [] (xA [.t 4] false h.length P):=by rw[PA zsD rfl hp rfl];exact zhg
theorem zsT:X.fn OE=some NO:=by kernel_rfl
theorem zfp {u0 u1 v0 v1:AV}{h h1:bA}{P:mA}(hp:zA h [u0,u1]=some ([v0,v1],h1)):jA X OE [u0,u1] h P = ∃v h' x,P v h' x∧IP (jA X) X.gl OK sR v0 v1 h1 [] (xA [.t 4] false h.length fun v1 h1 x1=>v1=v∧h1=h'∧x1=x):=by rw[z1V zsT rfl hp rfl];exact zkV fun v h' x=>congrArg (And (P v h' x)) zhE
theorem zsV:X.fn DG=some PO:=by kernel_rfl
theorem zfr {u0 v0:AV}{h h1:bA}{P:mA}(hp:zA h [u0]=some ([v0],h1)):jA X DG [u0] h P=KP (jA X) X.gl RK vR v0 h1 [] (xA [.t 2] false h.length P):=by rw[PA zsV rfl hp rfl];exact zhQ
theorem zsU:X.fn xD=some OO:=by kernel_rfl
theorem zfq {u0 v0:AV}{h h1:bA}{P:mA}(hp:zA h [u0]=some ([v0],h1)):jA X xD [u0] h P=JP (jA X) X.gl QK uR v0 h1 [] (xA [.t 2] true h.length P):=by rw[PA zsU rfl hp rfl];exact zhN
theorem zsE:X.fn CG=some yO:=by kernel_rfl
theorem zfa {u0 v0:AV}{h h1:bA}{P:mA}(hp:zA h [u0]=some ([v0],h1)):jA X CG [u0] h P=kM (jA X) X.gl HK oN v0 h1 [] (xA [.t 2] false h.length P):=by rw[PA zsE rfl hp rfl];exact zhj
theorem ztM:X.fn dK=some aU:=by kernel_rfl
theorem zga {u0 u1 h P}:jA X dK [u0,u1] h P=nQ (jA X) X.gl qL WR u0 u1 h [] (xA [.t 4] false h.length P):=by rw[TC ztM rfl rfl];exact zjS
theorem zsG:X.fn KJ=some ZS:=by kernel_rfl
theorem zfc {u0 u1 v0 v1:AV}{h h1:bA}{P:mA}(hp:zA h [u0,u1]=some ([v0,v1],h1)):jA X KJ [u0,u1] h P=QU (jA X) X.gl v0 v1 h1 [] (xA [.t 3] false h.length P):=by rw[PA zsG rfl hp rfl];exact zho
theorem zsM:X.fn UF=some FO:=by kernel_rfl
theorem zfi {u0 u1 v0 v1:AV}{h h1:bA}{P:mA}(hp:zA h [u0,u1]=some ([v0,v1],h1)):jA X UF [u0,u1] h P=BP (jA X) X.gl KK rR v0 v1 h1 [] (xA [.t 4] false h.length P):=by rw[PA zsM rfl hp rfl];exact zhx
theorem zuc:X.fn nK=some oU:=by kernel_rfl
theorem zgq {u0 u1 v0 v1:AV}{h h1:bA}{P:mA}(hp:zA h [u0,u1]=some ([v0,v1],h1)):jA X nK [u0,u1] h P=ZV (jA X) X.gl v0 v1 h1 [] (xA [.t 4] false h.length P):=by rw[PA zuc rfl hp rfl];exact zkD
theorem ztT:X.fn vH=some bP:=by kernel_rfl
theorem zgh {u0 u1 h P}:jA X vH [u0,u1] h P=uQ (jA X) X.gl xL gS u0 u1 h [] (xA [.t 4] false h.length P):=by rw[TC ztT rfl rfl];exact zko
theorem ztx:X.fn qI=some DT:=by kernel_rfl
theorem zfE {u0 v0:AV}{h h1:bA}{P:mA}(hp:zA h [u0]=some ([v0],h1)):jA X qI [u0] h P=cQ (jA X) X.gl RI MR v0 h1 [] (xA [.t 2] true h.length P):=by rw[PA ztx rfl hp rfl];exact ziW
theorem ztK:X.fn cK=some ZT:=by kernel_rfl
theorem zfY {u0 u1 h P}:jA X cK [u0,u1] h P=JV (jA X) X.gl u0 u1 h [] (xA [.t 4] false h.length P):=by rw[TC ztK rfl rfl];exact zjQ
theorem ztU:X.fn xI=some gU:=by kernel_rfl
theorem zgi {u0 u1 h P}:jA X xI [u0,u1] h P=MV (jA X) X.gl u0 u1 h [] (xA [] false h.length P):=by rw[TC ztU rfl rfl];exact zkr
theorem zto:X.fn rH=some tT:=by kernel_rfl
theorem zf6 {u0 u1 v0 v1:AV}{h h1:bA}{P:mA}(hp:zA h [u0,u1]=some ([v0,v1],h1)):jA X rH [u0,u1] h P=rV (jA X) X.gl v0 v1 h1 [] (xA [.t 4] false h.length P):=by rw[PA zto rfl hp rfl];exact ziH
theorem ztH:X.fn uH=some XT:=by kernel_rfl
theorem zfW {u0 u1 v0 v1:AV}{h h1:bA}{P:mA}(hp:zA h [u0,u1]=some ([v0,v1],h1)):jA X uH [u0,u1] h P=kQ (jA X) X.gl pL VR v0 v1 h1 [] (xA [.t 4] false h.length P):=by rw[PA ztH rfl hp rfl];exact zjL
theorem zt5:X.fn GG=some MT:=by kernel_rfl
theorem z1S {u0 h P}:jA X GG [u0] h P=wM (jA X) X.gl kL QR u0 h [] (xA [.t 2] true h.length P):=by rw[TC zt5 rfl rfl];exact zju
theorem ztz:X.fn mF=some FT:=by kernel_rfl
theorem jP {u0 u1 v0 v1:AV}{h h1:bA}{P:mA}(hp:zA h [u0,u1]=some ([v0,v1],h1)):jA X mF [u0,u1] h P=jF (jA X) X.gl v0 v1 h1 [] (xA [] false h.length P):=by rw[PA ztz rfl hp rfl];exact zjh
theorem zt4:X.fn YF=some LT:=by kernel_rfl
theorem zfK {u0 v0:AV}{h h1:bA}{P:mA}(hp:zA h [u0]=some ([v0],h1)):jA X YF [u0] h P=DJ (jA X) X.gl v0 h1 [] (xA [.t 2] false h.length P):=by rw[PA zt4 rfl hp rfl];exact zjt
theorem ztD:X.fn aK=some VT:=by kernel_rfl
theorem zfS {u0 v0:AV}{h h1:bA}{P:mA}(hp:zA h [u0]=some ([v0],h1)):jA X aK [u0] h P=yM (jA X) X.gl mL FN v0 h1 [] (xA [.t 2] false h.length P):=by rw[PA ztD rfl hp rfl];exact zj6
theorem zt9:X.fn ZJ=some QT:=by kernel_rfl
theorem zfO {u0 u1 u2 v0 v1 v2:AV}{h h1:bA}{P:mA}(hp:zA h [u0,u1,u2]=some ([v0,v1,v2],h1)):jA X ZJ [u0,u1,u2] h P=xM (jA X) X.gl v0 v1 v2 h1 [] (xA [.t 6] false h.length P):=by rw[PA zt9 rfl hp rfl];exact zj0
theorem ztJ:X.fn bK=some YT:=by kernel_rfl
theorem zfX {u0 u1 h P}:jA X bK [u0,u1] h P=IV (jA X) X.gl u0 u1 h [] (xA [.t 4] false h.length P):=by rw[TC ztJ rfl rfl];exact zjP
theorem zt3:X.fn sI=some JT:=by kernel_rfl
theorem zfJ {u0 u1 v0 v1:AV}{h h1:bA}{P:mA}(hp:zA h [u0,u1]=some ([v0,v1],h1)):jA X sI [u0,u1] h P=fQ (jA X) X.gl v0 v1 h1 [] (xA [.t 3] false h.length P):=by rw[PA zt3 rfl hp rfl];exact zjs
theorem ztB:X.fn UD=some TT:=by kernel_rfl
theorem zfQ {u0 u1 u2 v0 v1 v2:AV}{h h1:bA}{P:mA}(hp:zA h [u0,u1,u2]=some ([v0,v1,v2],h1)):jA X UD [u0,u1,u2] h P=FV (jA X) X.gl v0 v1 v2 h1 [] (xA [.t 6] false h.length P):=by rw[PA ztB rfl hp rfl];exact zj2
theorem ztm:X.fn WF=some rT:=by kernel_rfl
theorem zf4 {u0 u1 v0 v1:AV}{h h1:bA}{P:mA}(hp:zA h [u0,u1]=some ([v0,v1],h1)):jA X WF [u0,u1] h P=UP (jA X) X.gl DR v0 v1 h1 [] (xA [.t 4] false h.length P):=by rw[PA ztm rfl hp rfl];exact zi5
theorem ztC:X.fn ZF=some UT:=by kernel_rfl
theorem zfR {u0 u1 v0 v1:AV}{h h1:bA}{P:mA}(hp:zA h [u0,u1]=some ([v0,v1],h1)):jA X ZF [u0,u1] h P=gQ (jA X) X.gl lL SR v0 v1 h1 [] (xA [.t 4] false h.length P):=by rw[PA ztC rfl hp rfl];exact zj3
theorem zsA:X.fn wD=some tO:=by kernel_rfl
theorem zeW {u0 v0:AV}{h h1:bA}{P:mA}(hp:zA h [u0]=some ([v0],h1)):jA X wD [u0] h P=dH (jA X) X.gl DK nR v0 h1 [] (xA [.t 2] false h.length P):=by rw[PA zsA rfl hp rfl];exact zgW
theorem zs9:X.fn NE=some rO:=by kernel_rfl
theorem zeV {u0 v0:AV}{h h1:bA}{P:mA}(hp:zA h [u0]=some ([v0],h1)):jA X NE [u0] h P=NU (jA X) X.gl v0 h1 [] (xA [.t 2] false h.length P):=by rw[PA zs9 rfl hp rfl];exact zgV
theorem ztG:X.fn aG=some XO:=by kernel_rfl
theorem zfV {u0 h P}:jA X aG [u0] h P=AM (jA X) X.gl oL UR u0 h [] (xA [.t 2] false h.length P):=by rw[TC ztG rfl rfl];exact zjE
theorem zsN:X.fn lI=some GO:=by kernel_rfl
theorem zfj {u0 v0:AV}{h h1:bA}{P:mA}(hp:zA h [u0]=some ([v0],h1)):jA X lI [u0] h P=nM (jA X) X.gl LK rN v0 h1 [] (xA [.t 2] false h.length P):=by rw[PA zsN rfl hp rfl];exact zh2
theorem zsS:X.fn nI=some MO:=by kernel_rfl
theorem zfo {u0 v0:AV}{h h1:bA}{P:mA}(hp:zA h [u0]=some ([v0],h1)):jA X nI [u0] h P=GP (jA X) X.gl NK tN v0 h1 [] (xA [.t 2] false h.length P):=by rw[PA zsS rfl hp rfl];exact zhA
theorem zsB:X.fn fC=some vO:=by kernel_rfl
theorem zeX {u0 u1 u2 v0 v1 v2:AV}{h h1:bA}{P:mA}(hp:zA h [u0,u1,u2]=some ([v0,v1,v2],h1)):jA X fC [u0,u1,u2] h P=OU (jA X) X.gl v0 v1 v2 h1 [] (xA [.t 6] false h.length P):=by rw[PA zsB rfl hp rfl];exact zgZ
theorem ztR:X.fn jK=some eU:=by kernel_rfl
theorem zgf {u0 u1 h P}:jA X jK [u0,u1] h P=sQ (jA X) X.gl vL dS u0 u1 h [] (xA [.t 4] false h.length P):=by rw[TC ztR rfl rfl];exact zki
theorem ztg:X.fn OJ=some mT:=by kernel_rfl
theorem zfz {u0 u1 v0 v1:AV}{h h1:bA}{P:mA}(hp:zA h [u0,u1]=some ([v0,v1],h1)):jA X OJ [u0,u1] h P=OP (jA X) X.gl VK zR v0 v1 h1 [] (xA [.t 4] false h.length P):=by rw[PA ztg rfl hp rfl];exact ziq
theorem ztu:X.fn XF=some zT:=by kernel_rfl
theorem zfB {u0 u1 u2 v0 v1 v2:AV}{h h1:bA}{P:mA}(hp:zA h [u0,u1,u2]=some ([v0,v1,v2],h1)):jA X XF [u0,u1,u2] h P=vV (jA X) X.gl v0 v1 v2 h1 [] (xA [.t 6] false h.length P):=by rw[PA ztu rfl hp rfl];exact ziS
theorem ztI:X.fn JD=some YO:=by kernel_rfl
theorem z1T {u0 u1 h P}:jA X JD [u0,u1] h P=mQ (jA X) X.gl u0 u1 h [] (xA [.t 4] false h.length P):=by rw[TC ztI rfl rfl];exact zjO
theorem zty:X.fn rI=some ET:=by kernel_rfl
theorem zfF {u0 u1 v0 v1:AV}{h h1:bA}{P:mA}(hp:zA h [u0,u1]=some ([v0,v1],h1)):jA X rI [u0,u1] h P=dQ (jA X) X.gl v0 v1 h1 [] (xA [.t 3] false h.length P):=by rw[PA zty rfl hp rfl];exact zjg
theorem ztS:X.fn kK=some fU:=by kernel_rfl
theorem zgg {u0 u1 h P}:jA X kK [u0,u1] h P=tQ (jA X) X.gl wL fS u0 u1 h [] (xA [.t 4] false h.length P):=by rw[TC ztS rfl rfl];exact zkl
theorem ztY:X.fn bG=some lU:=by kernel_rfl
theorem zgm {u0 u1 u2 u3 u4 h P}:jA X bG [u0,u1,u2,u3,u4] h P=xQ (jA X) X.gl BL u0 u1 u2 u3 u4 h [] (xA [] false h.length P):=by rw[TC ztY rfl rfl];exact zk1
theorem zti:X.fn qH=some oT:=by kernel_rfl
theorem zf0 {u0 v0:AV}{h h1:bA}{P:mA}(hp:zA h [u0]=some ([v0],h1)):jA X qH [u0] h P=jV (jA X) X.gl v0 h1 [] (xA [.t 2] false h.length P):=by rw[PA zti rfl hp rfl];exact ziv
theorem zsY:X.fn NJ=some fT:=by kernel_rfl
theorem zfu {u0 u1 v0 v1:AV}{h h1:bA}{P:mA}(hp:zA h [u0,u1]=some ([v0,v1],h1)):jA X NJ [u0,u1] h P=qM (jA X) X.gl v0 v1 h1 [] (xA [.t 4] false h.length P):=by rw[PA zsY rfl hp rfl];exact zhV
theorem ztV:X.fn yI=some iU:=by kernel_rfl
theorem zgj {u0 h P}:jA X yI [u0] h P=NV (jA X) X.gl u0 h [] (xA [] false h.length P):=by rw[TC ztV rfl rfl];exact zks
theorem zts:X.fn TJ=some xT:=by kernel_rfl
theorem z1R {u0 u1 u2 v0 v1 v2:AV}{h h1:bA}{P:mA}(hp:zA h [u0,u1,u2]=some ([v0,v1,v2],h1)):jA X TJ [u0,u1,u2] h P=ZP (jA X) X.gl v0 v1 v2 h1 [] (xA [.t 6] false h.length P):=by rw[PA zts rfl hp rfl];exact ziQ
theorem ztt:X.fn mE=some yT:=by kernel_rfl
theorem zfA {u0 u1 v0 v1:AV}{h h1:bA}{P:mA}(hp:zA h [u0,u1]=some ([v0,v1],h1)):jA X mE [u0,u1] h P=uV (jA X) X.gl v0 v1 h1 [] (xA [.t 4] false h.length P):=by rw[PA ztt rfl hp rfl];exact ziR
theorem zt8:X.fn YJ=some PT:=by kernel_rfl
theorem zfN {u0 u1 v0 v1:AV}{h h1:bA}{P:mA}(hp:zA h [u0,u1]=some ([v0,v1],h1)):jA X YJ [u0,u1] h P=KC (jA X) X.gl v0 v1 h1 [] (xA [.t 4] false h.length P):=by rw[PA zt8 rfl hp rfl];exact zjz
theorem ztE:X.fn vI=some WT:=by kernel_rfl
theorem zfT {u0 u1 v0 v1:AV}{h h1:bA}{P:mA}(hp:zA h [u0,u1]=some ([v0,v1],h1)):jA X vI [u0,u1] h P=iQ (jA X) X.gl v0 v1 h1 [] (xA [.t 3] false h.length P):=by rw[PA ztE rfl hp rfl];exact zjA
theorem zt6:X.fn XJ=some NT:=by kernel_rfl
theorem zfL {u0 u1 v0 v1:AV}{h h1:bA}{P:mA}(hp:zA h [u0,u1]=some ([v0,v1],h1)):jA X XJ [u0,u1] h P=CV (jA X) X.gl v0 v1 h1 [] (xA [.t 4] false h.length P):=by rw[PA zt6 rfl hp rfl];exact zjx
theorem ztA:X.fn uI=some ST:=by kernel_rfl
theorem zfP {u0 u1 v0 v1:AV}{h h1:bA}{P:mA}(hp:zA h [u0,u1]=some ([v0,v1],h1)):jA X uI [u0,u1] h P=EV (jA X) X.gl v0 v1 h1 [] (xA [.t 3] false h.length P):=by rw[PA ztA rfl hp rfl];exact zj1
theorem ztQ:X.fn iK=some dU:=by kernel_rfl
theorem zge {u0 u1 h P}:jA X iK [u0,u1] h P=rQ (jA X) X.gl uL aS u0 u1 h [] (xA [.t 4] false h.length P):=by rw[TC ztQ rfl rfl];exact zkf
theorem zud:X.fn oK=some pU:=by kernel_rfl
theorem zgr {u0 u1 v0 v1:AV}{h h1:bA}{P:mA}(hp:zA h [u0,u1]=some ([v0,v1],h1)):jA X oK [u0,u1] h P=aW (jA X) X.gl v0 v1 h1 [] (xA [.t 4] false h.length P):=by rw[PA zud rfl hp rfl];exact zkE
theorem zsL:X.fn kI=some EO:=by kernel_rfl
theorem zfh {u0 u1 v0 v1:AV}{h h1:bA}{P:mA}(hp:zA h [u0,u1]=some ([v0,v1],h1)):jA X kI [u0,u1] h P=kD (jA X) X.gl v0 v1 h1 [] (xA [.t 4] false h.length P):=by rw[PA zsL rfl hp rfl];exact zhw
theorem zsR:X.fn BE=some LO:=by kernel_rfl
theorem zfn {u0 v0:AV}{h h1:bA}{P:mA}(hp:zA h [u0]=some ([v0],h1)):jA X BE [u0] h P=pM (jA X) X.gl v0 h1 [] (xA [.t 2] false h.length P):=by rw[PA zsR rfl hp rfl];exact zh9
theorem zsO:X.fn nH=some HO:=by kernel_rfl
theorem zfk {u0 u1 v0 v1:AV}{h h1:bA}{P:mA}(hp:zA h [u0,u1]=some ([v0,v1],h1)):jA X nH [u0,u1] h P=EP (jA X) X.gl v0 v1 h1 [] (xA [.t 3] false h.length P):=by rw[PA zsO rfl hp rfl];exact zh6
theorem zsW:X.fn oI=some QO:=by kernel_rfl
theorem zfs {u0 u1 u2 v0 v1 v2:AV}{h h1:bA}{P:mA}(hp:zA h [u0,u1,u2]=some ([v0,v1,v2],h1)):jA X oI [u0,u1,u2] h P=LP (jA X) X.gl v0 v1 v2 h1 [] (xA [.t 6] false h.length P):=by rw[PA zsW rfl hp rfl];exact zhT
theorem zsK:X.fn jI=some DO:=by kernel_rfl
theorem zfg {u0 u1 v0 v1:AV}{h h1:bA}{P:mA}(hp:zA h [u0,u1]=some ([v0,v1],h1)):jA X jI [u0,u1] h P=SU (jA X) X.gl v0 v1 h1 [] (xA [.t 4] false h.length P):=by rw[PA zsK rfl hp rfl];exact zhv
theorem zth:X.fn lF=some nT:=by kernel_rfl
theorem z1Q {u0 u1 v0 v1:AV}{h h1:bA}{P:mA}(hp:zA h [u0,u1]=some ([v0,v1],h1)):jA X lF [u0,u1] h P=PP (jA X) X.gl v0 v1 h1 [] (xA [.t 4] false h.length P):=by rw[PA zth rfl hp rfl];exact ziu
theorem ztd:X.fn IM=some jT:=by kernel_rfl
theorem c_q05s {u0 v0:AV}{h h1:bA}{P:mA}(hp:zA h [u0]=some ([v0],h1)):jA X IM [u0] h P=z3j (jA X) X.gl v0 h1 [] (xA [.t 2] false h.length P):=by rw[PA ztd rfl hp rfl];exact zic
theorem zte:X.fn JM=some kT:=by kernel_rfl
theorem c_q05t {u0 u1 v0 v1:AV}{h h1:bA}{P:mA}(hp:zA h [u0,u1]=some ([v0,v1],h1)):jA X JM [u0,u1] h P=bV (jA X) X.gl TK xR v0 v1 h1 [] (xA [.t 4] false h.length P):=by rw[PA zte rfl hp rfl];exact zid
theorem ztO:X.fn wI=some aP:=by kernel_rfl
theorem zgc {u0 u1 h P}:jA X wI [u0,u1] h P=pQ (jA X) X.gl sL YR u0 u1 h [] (xA [.t 4] false h.length P):=by rw[TC ztO rfl rfl];exact zjZ
theorem ztW:X.fn lK=some jU:=by kernel_rfl
theorem zgk {u0 u1 u2 u3 h P}:jA X lK [u0,u1,u2,u3] h P=vQ (jA X) X.gl yL u0 u1 u2 u3 h [] (xA [] false h.length P):=by rw[TC ztW rfl rfl];exact zkt
theorem ztj:X.fn PJ=some pT:=by kernel_rfl
theorem zf1 {u0 v0:AV}{h h1:bA}{P:mA}(hp:zA h [u0]=some ([v0],h1)):jA X PJ [u0] h P=QP (jA X) X.gl AR v0 h1 [] (xA [.t 2] false h.length P):=by rw[PA ztj rfl hp rfl];exact ziw
theorem ztb:X.fn PE=some iT:=by kernel_rfl
theorem zfx {u0 v0:AV}{h h1:bA}{P:mA}(hp:zA h [u0]=some ([v0],h1)):jA X PE [u0] h P=ZU (jA X) X.gl v0 h1 [] (xA [.t 2] false h.length P):=by rw[PA ztb rfl hp rfl];exact zia
theorem ztZ:X.fn cG=some mU:=by kernel_rfl
theorem zgn {u0 u1 u2 u3 h P}:jA X cG [u0,u1,u2,u3] h P=yQ (jA X) X.gl CL u0 u1 u2 u3 h [] (xA [] false h.length P):=by rw[TC ztZ rfl rfl];exact zk6
theorem ztP:X.fn fK=some cU:=by kernel_rfl
theorem zgd {u0 u1 h P}:jA X fK [u0,u1] h P=qQ (jA X) X.gl tL ZR u0 u1 h [] (xA [.t 4] false h.length P):=by rw[TC ztP rfl rfl];exact zkc
theorem zt7:X.fn tI=some OT:=by kernel_rfl
theorem zfM {u0 u1 v0 v1:AV}{h h1:bA}{P:mA}(hp:zA h [u0,u1]=some ([v0,v1],h1)):jA X tI [u0,u1] h P=DV (jA X) X.gl v0 v1 h1 [] (xA [.t 3] false h.length P):=by rw[PA zt7 rfl hp rfl];exact zjy
theorem zsP:X.fn mI=some JO:=by kernel_rfl
theorem zfl {u0 u1 v0 v1:AV}{h h1:bA}{P:mA}(hp:zA h [u0,u1]=some ([v0,v1],h1)):jA X mI [u0,u1] h P=FP (jA X) X.gl v0 v1 h1 [] (xA [.t 4] false h.length P):=by rw[PA zsP rfl hp rfl];exact zh7
theorem zsX:X.fn oH=some RO:=by kernel_rfl
theorem zft {u0 u1 v0 v1:AV}{h h1:bA}{P:mA}(hp:zA h [u0,u1]=some ([v0,v1],h1)):jA X oH [u0,u1] h P=MP (jA X) X.gl v0 v1 h1 [] (xA [.t 3] false h.length P):=by rw[PA zsX rfl hp rfl];exact zhU
theorem zta:X.fn pH=some SO:=by kernel_rfl
theorem zfw {u0 v0:AV}{h h1:bA}{P:mA}(hp:zA h [u0]=some ([v0],h1)):jA X pH [u0] h P=NP (jA X) X.gl SK wR v0 h1 [] (xA [.t 2] false h.length P):=by rw[PA zta rfl hp rfl];exact zhX
theorem zua:X.fn oE=some cP:=by kernel_rfl
theorem zgo {u0 u1 v0 v1:AV}{h h1:bA}{P:mA}(hp:zA h [u0,u1]=some ([v0,v1],h1)):jA X oE [u0,u1] h P=XV (jA X) X.gl v0 v1 h1 [] (xA [.t 4] false h.length P):=by rw[PA zua rfl hp rfl];exact zkB
theorem ztf:X.fn KM=some lT:=by kernel_rfl
theorem c_q05u {u0 v0:AV}{h h1:bA}{P:mA}(hp:zA h [u0]=some ([v0],h1)):jA X KM [u0] h P=dV (jA X) X.gl UK yR v0 h1 [] (xA [.t 2,.t 3] false h.length P):=by rw[PA ztf rfl hp rfl];exact zii
theorem ztX:X.fn mK=some kU:=by kernel_rfl
theorem zgl {u0 u1 u2 h P}:jA X mK [u0,u1,u2] h P=wQ (jA X) X.gl zL u0 u1 u2 h [] (xA [] false h.length P):=by rw[TC ztX rfl rfl];exact zkx
theorem zsZ:X.fn kF=some gT:=by kernel_rfl
theorem zfv {u0 u1 v0 v1:AV}{h h1:bA}{P:mA}(hp:zA h [u0,u1]=some ([v0,v1],h1)):jA X kF [u0,u1] h P=YU (jA X) X.gl v0 v1 h1 [] (xA [.t 4] false h.length P):=by rw[PA zsZ rfl hp rfl];exact zhW
theorem ztF:X.fn tH=some WO:=by kernel_rfl
theorem zfU {u0 u1 u2 v0 v1 v2:AV}{h h1:bA}{P:mA}(hp:zA h [u0,u1,u2]=some ([v0,v1,v2],h1)):jA X tH [u0,u1,u2] h P=jQ (jA X) X.gl nL TR v0 v1 v2 h1 [] (xA [.t 6,.t 7] false h.length P):=by rw[PA ztF rfl hp rfl];exact zjB
theorem zsQ:X.fn VF=some KO:=by kernel_rfl
theorem zfm {u0 u1 v0 v1:AV}{h h1:bA}{P:mA}(hp:zA h [u0,u1]=some ([v0,v1],h1)):jA X VF [u0,u1] h P=UU (jA X) X.gl v0 v1 h1 [] (xA [.t 4] false h.length P):=by rw[PA zsQ rfl hp rfl];exact zh8
theorem ztc:X.fn pI=some TO:=by kernel_rfl
theorem zfy {u0 u1 v0 v1:AV}{h h1:bA}{P:mA}(hp:zA h [u0,u1]=some ([v0,v1],h1)):jA X pI [u0,u1] h P=aV (jA X) X.gl v0 v1 h1 [] (xA [.t 4] false h.length P):=by rw[PA ztc rfl hp rfl];exact zib
attribute [go_sem] zi1 iW zm8 z3u RP ziU kW zmH z37 bQ ziJ ziK ziL ziM ziN jW zmF zmG z33 z34 z35 sV z36 eH zjk zjl zmL z3E z3F zhb zhc zhd zhe z47 zhf zmj zmk z2D PU z2E
attribute [go_sem] z2F xP z2G zhq zhr zmo z2M z2N zi3 zi4 zm9 z3v z3w zjX zjY zmZ z4c z4d zhu fW zmp z2O AP zi8 ziA ziB z49 ziC ziD ziE ziF ziG zi9 DQ FQ GQ HQ IQ zmB zmC
attribute [go_sem] zmD zmE zmA z3y oV z3z WP z30 pV z31 qV z32 nV sM fI yJ zJ AJ zjn zjo zjp zjq zjr EJ FJ GJ zmM zmN zmO zmP z3G z3H z3I z3J z3K fH gH iH zhh zhi
attribute [go_sem] zml z2H z2I zhF zhG zhH zhI zhJ CQ zhK zhL zhM zmw zmx zmy zmz z2Y z2Z z3a z3b VU xJ z3c WU XU zhR zhS zm1 z3f z3g zhO zhP zm0 z3d z3e zhk zhl zhm eW zmm
attribute [go_sem] zmn z2J z2K z2L vJ zjT zjU zjV zmY z4a LV z4b zhy zhz zh0 z48 zh1 zmq zmr z2P TU z2Q DP z2R zkp zkq znf z4o z4p ziX ziY ziZ zja zjb zjc zjd zje zjf lW mW
attribute [go_sem] nW zmI zmJ zmK z38 z39 xV z3A yV z3B z3C zV z3D tM BJ uM zjM zjN zmX z3Y z3Z zjv zjw zmQ z3L z3M zj7 zj8 zj9 oW zmS zmT z3P z3Q z3R zM zi6 z3x zj4 zj5
attribute [go_sem] zmR z3N z3O zgX zgY zmi z2B z2C zjF zjG zjH zjI zjJ zjK zmV zmW z3U GV z3V z3W HV z3X zh3 zh4 zh5 gW zms zmt z2S z2T z2U oM zhB zhC zhD BQ zmu zmv z2V z2W
attribute [go_sem] z2X wJ zkj zkk znd z4k z4l zir zis zit zm7 z3r iV z3s zkm zkn zne z4m z4n zk2 zk3 zk4 zk5 znk z4u RV SV TV zkg zkh znc z4i z4j zie zif zig zih zm3 zm4 z3k
attribute [go_sem] z3l z3m cV zka zkb zna z4e z4f zku zkv zkw zng znh z4q z4r OV zix ziy ziz z3t kV lV zk7 zk8 zk9 zkA znl z4v UV VV WV zkd zke znb z4g z4h zhY zhZ zm2 z3h
attribute [go_sem] z3i zij zik zil zim zin zio zm5 zm6 z3n z3o z3p eV z3q fV zky zkz zk0 zni znj z4s z4t QV zjC zjD zmU z3S z3T zkH zkI zkJ zkK znm znn z4w cW dW z4x
end Go.Am
end
section
/- The stream of numbers out of which the laws draw. -/
open Go
namespace Go.Am
abbrev eI (n:Int):PV:=.int .i64 n
abbrev AL (l:List Int):AV:=.p (.sl none (l.map eI))
abbrev DA (L:List Int)(a:Int):Obj:=.box [AL L,AI a]
def YG (x n:Int):Int:=if n<1 then 0 else if x.tmod n<0 then IntKind.i64.wrap (x.tmod n+n) else x.tmod n
theorem z8b (x n:Int)(h:bA)(K:mA):jA X WF [AI x,AI n] h K=K (AI (YG x n)) h []:=by
 refine IA ?_;rw[zf4 rfl];simp only[UP,go_sem];unfold YG;by_cases h1:n<1
 ·simp only[h1,if_true]
 ·simp only[h1,if_false,show ¬n=0 by omega]
  split <;> rfl
theorem ze0 (x n:Int)(h1:1≤n)(h2:n≤4611686018427387904):0≤YG x n∧YG x n<n:=by
 unfold YG;rw[if_neg (by omega)]
 have:=Int.tmod_lt_of_pos x (show 0<n by omega)
 have h3 : -n<x.tmod n:=by
  have:=Int.lt_tmod_of_pos x (show 0<n by omega)
  exact this
 split
 ·rw[JA _ (by omega) (by omega)];omega
 ·omega
def EA (L:List Int)(a n:Int):Int:=
 if L.length=0 then YG (IntKind.i64.wrap ((a+1)*7919)) n
 else YG (IntKind.i64.wrap (YG (L.getD (a.tmod L.length).toNat 0) 1073741824+IntKind.i64.wrap (IntKind.i64.wrap (a.tdiv L.length)*IntKind.i64.wrap (7919+a.tmod L.length)))) n
theorem FE (L:List Int)(a n:Int)(h1:1≤n)(h2:n≤4611686018427387904):0≤EA L a n∧EA L a n<n:=by
 unfold EA;split <;> exact ze0 _ _ h1 h2
theorem pG {h:bA}{id:Nat}{o':Obj}(hid:id<h.length):(h.set id o')[id]?=some o':=by simp [hid]
theorem yB {h:bA}{id:Nat}{o:Obj}(hh:h[id]?=some o):id<h.length:=(List.getElem?_eq_some_iff.1 hh).1
def sA (n:Nat)(a:Int):Prop:=0≤a∧a+n<4611686018427387904
theorem zpD {n m:Nat}{a b:Int}(H:sA m a)(h:a≤b)(hn:b+n≤a+m):sA n b:=by unfold sA at *;omega
theorem z76 {a:Int}(H:sA 14 a):sA 0 (a)∧sA 0 (a+1)∧sA 0 (a+1+1)∧sA 0 (a+1+1+1)∧sA 0 (a+1+1+1+1)∧sA 0 (a+1+1+1+1+1)∧sA 0 (a+1+1+1+1+1+1)∧sA 0 (a+1+1+1+1+1+1+1)∧sA 0 (a+1+1+1+1+1+1+1+1)∧sA 0 (a+1+1+1+1+1+1+1+1+1)∧sA 0 (a+1+1+1+1+1+1+1+1+1+1)∧sA 0 (a+1+1+1+1+1+1+1+1+1+1+1)∧sA 0 (a+1+1+1+1+1+1+1+1+1+1+1+1)∧sA 0 (a+1+1+1+1+1+1+1+1+1+1+1+1+1)∧sA 0 (a+1+1+1+1+1+1+1+1+1+1+1+1+1+1):=by
 unfold sA at *;omega
def Gen (f:Nat)(args:List AV)(L:List Int)(a a2:Int)(v:AV):Prop:=∀(h:bA) (id:Nat) (K:mA),h[id]?=some (DA L a)→jA X f (.ref id 0::args) h K=K v (h.set id (DA L a2)) []
section
variable {f:Nat} {args:List AV} {L:List Int} {a a2:Int} {v:AV} {h l:bA} {id:Nat} {K:mA}
theorem Gen.set (g:Gen f args L a a2 v)(hid:id<h.length):jA X f (.ref id 0::args) (h.set id (DA L a)) K=K v (h.set id (DA L a2)) []:=by
 rw[g _ _ _ (pG hid),List.set_set]
theorem Gen.app (g:Gen f args L a a2 v)(hid:id<h.length):jA X f (.ref id 0::args) (h.set id (DA L a)++l) K=K v (h.set id (DA L a2)++l) []:=by
 rw[g _ _ _ (by rw[z60 (by simpa using hid)];exact pG hid),FS (by simpa using hid),List.set_set]
theorem Gen.hd (g:Gen f args L a a2 v):jA X f (.ref 0 0::args) (DA L a::l) K=K v (DA L a2::l) []:=by
 rw[g _ _ _ rfl];rfl
theorem Gen.of (H:∀ (h:bA) (id:Nat),id<h.length→jA X f (.ref id 0::args) (h.set id (DA L a)) fun v1 h1 x1=>v1=v∧h1=h.set id (DA L a2)∧x1=[]):Gen f args L a a2 v:=by
 intro h id K hh;have hid:=yB hh
 have:h.set id (DA L a)=h:=by
  apply List.ext_getElem?
  intro i;rw[List.getElem?_set];split
  ·rename_i e;subst e;rw[hh]
  ·rfl
 have k:=H h id hid
 rw[this]at k;exact IA k
end
def HE (f:Nat)(args:List AV)(L:List Int)(a:Int)(Q:AV→Int→Prop):Prop:=∀(h:bA) (id:Nat),h[id]?=some (DA L a)→∃v a2,Q v a2∧∀K:mA,jA X f (.ref id 0::args) h K=K v (h.set id (DA L a2)) []
section
variable {f:Nat} {args:List AV} {L:List Int} {a:Int} {Q:AV→Int→Prop}
theorem HE.set (g:HE f args L a Q){h:bA}{id:Nat}(hid:id<h.length):∃v a2,Q v a2∧∀K:mA,jA X f (.ref id 0::args) (h.set id (DA L a)) K=K v (h.set id (DA L a2)) []:=by
 obtain⟨v,a2,q,r⟩:=g _ _ (pG hid);exact⟨v,a2,q,fun K=>by rw[r,List.set_set]⟩
theorem HE.app (g:HE f args L a Q){h l:bA}{id:Nat}(hid:id<h.length):∃v a2,Q v a2∧∀K:mA,jA X f (.ref id 0::args) (h.set id (DA L a)++l) K=K v (h.set id (DA L a2)++l) []:=by
 obtain⟨v,a2,q,r⟩:=g (h.set id (DA L a)++l) id (by rw[z60 (by simpa using hid)];exact pG hid)
 exact⟨v,a2,q,fun K=>by rw[r,FS (by simpa using hid),List.set_set]⟩
theorem HE.hd (g:HE f args L a Q){l:bA}:∃v a2,Q v a2∧∀K:mA,jA X f (.ref 0 0::args) (DA L a::l) K=K v (DA L a2::l) []:=g (DA L a::l) 0 rfl
theorem HE.of (H:∀ (h:bA) (id:Nat),id<h.length→jA X f (.ref id 0::args) (h.set id (DA L a)) fun v1 h1 x1=>∃ a2,Q v1 a2∧h1=h.set id (DA L a2)∧x1=[]):HE f args L a Q:=by
 intro h id hh;have hid:=yB hh
 have:h.set id (DA L a)=h:=by
  apply List.ext_getElem?
  intro i;rw[List.getElem?_set];split
  ·rename_i e;subst e;rw[hh]
  ·rfl
 have k:=H h id hid
 rw[this]at k;obtain⟨v,h',x,⟨a2,q,e1,e2⟩,r⟩:=jA.one VL k;subst e1;subst e2
 exact⟨v,a2,q,r⟩
end
def wF (l:List Int)(L:List Int)(a:Int):Int:=l.getD (EA L a l.length).toNat 0
theorem zp5 {l L:List Int}{a:Int}(hl:0<l.length)(hl2:l.length<4611686018427387904):wF l L a∈l:=by
 obtain⟨b1,b2⟩:=FE L a l.length (by omega) (by omega)
 unfold wF;have:(EA L a l.length).toNat<l.length:=by omega
 simp only[List.getD,List.getElem?_eq_getElem this,Option.getD_some];exact List.getElem_mem _
def isI:PV→Bool
 | .int .i64 _=>true
 | _=>false
def unI:PV→Int
 | .int _ n=>n
 | _=>0
theorem zst {xs:List PV}(h:xs.all isI=true):xs=(xs.map unI).map eI:=by
 induction xs with
 | nil=>rfl
 | cons x r ih=>
  simp only[List.all_cons,Bool.and_eq_true]at h;simp only[List.map_cons];rw[←ih h.2];cases x with
  | int k n=>cases k <;> first|rfl|cases h.1
  | _=>cases h.1
set_option maxHeartbeats 400000 in
theorem z6v (L:List Int)(a n:Int)(hp:sA 0 a):Gen LB [AI n] L a (a+1) (AI (EA L a n)):=by
 refine Gen.of fun h id hid=>?_
 rw[zf9 rfl];obtain⟨h0,h1⟩:=hp;have w1:IntKind.i64.wrap (a+1)=a+1:=JA _ (by omega) (by omega)
 have w2:IntKind.i64.wrap (a+1-1)=a:=by rw[JA _ (by omega) (by omega)];omega
 have hs:∀o',(h.set id o')[id]?=some o':=fun o'=>pG hid
 rcases Nat.eq_zero_or_pos L.length with hl|hl
 ·simp only[YP,go_sem,hs,z8b,hl,w1]
  simp only[EA,hl,if_true]
 ·have e1:((L.length:Int)=0)=False:=by simp only[eq_iff_iff,iff_false];omega
  have e2:0≤a.tmod L.length:=Int.tmod_nonneg _ h0
  have e3:a.tmod L.length<L.length:=Int.tmod_lt_of_pos _ (by omega)
  have e4:=sF (k:=.i64) e2
  have e5:(L.map eI)[(a.tmod L.length).toNat]?=some (eI (L.getD (a.tmod L.length).toNat 0)):=by
   rw[ZA eI (show(a.tmod L.length).toNat<L.length by omega)]
   simp [List.getD,show(a.tmod L.length).toNat<L.length by omega]
  simp only[YP,go_sem,hs,z8b,e1,w1,w2,e4,e5];simp only[EA,show ¬L.length=0 by omega,if_false]
section
variable {L:List Int} {a:Int} {h l:bA} {id:Nat} {K:mA}
theorem IL (hid:id<h.length)(hp:sA 0 a)(n:Int):jA X LB [.ref id 0,AI n] (h.set id (DA L a)) K=K (AI (EA L a n)) (h.set id (DA L (a+1))) []:=(z6v L a n hp).set hid
theorem z8j (hid:id<h.length)(hp:sA 0 a)(n:Int):jA X LB [.ref id 0,AI n] (h.set id (DA L a)++l) K=K (AI (EA L a n)) (h.set id (DA L (a+1))++l) []:=(z6v L a n hp).app hid
theorem z6u (hp:sA 0 a)(n:Int):Gen pC [AI n] L a (a+1) (AB (decide (EA L a n=0))):=by
 refine Gen.of fun h id hid=>?_
 rw[zf8 rfl];simp only[tV,go_sem,IL hid hp]
theorem z8h (hid:id<h.length)(hp:sA 0 a)(n:Int):jA X pC [.ref id 0,AI n] (h.set id (DA L a)) K=K (AB (decide (EA L a n=0))) (h.set id (DA L (a+1))) []:=(z6u hp n).set hid
theorem z8g (hid:id<h.length)(hp:sA 0 a)(n:Int):jA X pC [.ref id 0,AI n] (h.set id (DA L a)++l) K=K (AB (decide (EA L a n=0))) (h.set id (DA L (a+1))++l) []:=(z6u hp n).app hid
theorem z6w (hp:sA 0 a)(xs:List PV)(hx:xs.all isI=true)(hl:0<xs.length)(hl2:xs.length<4611686018427387904) :
 Gen mE [.p (.sl none xs)] L a (a+1) (AI (wF (xs.map unI) L a)):=by
 refine Gen.of fun h id hid=>?_
 rw[zfA rfl];obtain⟨b1,b2⟩:=FE L a xs.length (by omega) (by omega)
 have e4:=sF (k:=.i64) b1
 have e5:xs[(EA L a xs.length).toNat]?=some (eI (wF (xs.map unI) L a)):=by
  have hm:=zst hx
  generalize hq:xs.map unI=q at *;subst hm;simp only[List.length_map]at *;rw[ZA eI (show(EA L a q.length).toNat<q.length by omega)]
  simp [wF,List.getD,show(EA L a q.length).toNat<q.length by omega]
 simp only[uV,go_sem,IL hid hp,e4,e5]
theorem z8k (hid:id<h.length)(hp:sA 0 a){xs:List PV}(hx:xs.all isI=true)(hl:0<xs.length)(hl2:xs.length<4611686018427387904) :
 jA X mE [.ref id 0,.p (.sl none xs)] (h.set id (DA L a)) K=K (AI (wF (xs.map unI) L a)) (h.set id (DA L (a+1))) []:=(z6w hp xs hx hl hl2).set hid
theorem WN (hid:id<h.length)(hp:sA 0 a){xs:List PV}(hx:xs.all isI=true)(hl:0<xs.length)(hl2:xs.length<4611686018427387904) :
 jA X mE [.ref id 0,.p (.sl none xs)] (h.set id (DA L a)++l) K=K (AI (wF (xs.map unI) L a)) (h.set id (DA L (a+1))++l) []:=(z6w hp xs hx hl hl2).app hid
def OG (u v:Int)(L:List Int)(a:Int):Int:=u+EA L a (v-u+1)
theorem zY {u v:Int}(L:List Int)(a:Int)(h1:u≤v)(h2:v≤u+4611686018427387900):u≤OG u v L a∧OG u v L a≤v:=by
 have:=FE L a (v-u+1) (by omega) (by omega)
 unfold OG;omega
theorem z6x (hp:sA 0 a)(u v:Int)(huv:u≤v)(hu : -1152921504606846976≤u)(hv:v≤1152921504606846976) :
 Gen XF [AI u,AI v] L a (a+1) (AI (OG u v L a)):=by
 refine Gen.of fun h id hid=>?_
 rw[zfB rfl];obtain⟨b1,b2⟩:=zY L a huv (by omega)
 have w1:IntKind.i64.wrap (v-u)=v-u:=JA _ (by omega) (by omega)
 have w2:IntKind.i64.wrap (v-u+1)=v-u+1:=JA _ (by omega) (by omega)
 have w3:IntKind.i64.wrap (u+EA L a (v-u+1))=OG u v L a:=JA (OG u v L a) (by omega) (by omega)
 simp only[vV,go_sem,show ¬v<u by omega,w1,w2,IL hid hp,w3]
theorem z8m (hid:id<h.length)(hp:sA 0 a){u v:Int}(huv:u≤v)(hu : -1152921504606846976≤u)(hv:v≤1152921504606846976) :
 jA X XF [.ref id 0,AI u,AI v] (h.set id (DA L a)) K=K (AI (OG u v L a)) (h.set id (DA L (a+1))) []:=(z6x hp u v huv hu hv).set hid
theorem z8l (hid:id<h.length)(hp:sA 0 a){u v:Int}(huv:u≤v)(hu : -1152921504606846976≤u)(hv:v≤1152921504606846976) :
 jA X XF [.ref id 0,AI u,AI v] (h.set id (DA L a)++l) K=K (AI (OG u v L a)) (h.set id (DA L (a+1))++l) []:=(z6x hp u v huv hu hv).app hid
end
attribute [go_sem ↓] IL z8j z8h z8g z8k WN z8m z8l
attribute [go_sem] IL z8j z8h z8g z8k WN z8m z8l isI unI
end Go.Am
end
section
/- Plain laws of fractions in lowest terms. -/
namespace Go.Am
end Go.Am
end
section
/- Small functions of numbers and of lists of numbers. -/
open Go
namespace Go.Am
variable {h:bA} {K:mA}
theorem s_Out (n a b:Int):jA X fC [AI n,AI a,AI b] h K=K (AB (decide (n<a)||decide (b<n))) h []:=by
 refine IA ?_;rw[zeX rfl];by_cases h1:n<a <;> simp only[OU,go_sem,h1]
theorem XN (n a b:Int):jA X UD [AI n,AI a,AI b] h K=K (AB (decide (a≤n)&&decide (n≤b))) h []:=by
 refine IA ?_;rw[zfQ rfl];by_cases h1:a≤n <;> simp only[FV,go_sem,h1]
theorem zol (n a b:Int):(decide (n<a)||decide (b<n)) = !(decide (a≤n)&&decide (n≤b)):=by
 rw[Bool.eq_iff_iff];simp
theorem gZ (n:Int)(h1:0≤n)(h2:n<18446744073709551616):IntKind.u64.wrap n=n:=by
 simp [IntKind.wrap,IntKind.bits,IntKind.signed];omega
abbrev AU (n:Int):AV:=.p (.int .u64 n)
end Go.Am
end
section
/- Functions of lists. -/
open Go
namespace Go.Am
variable {h:bA} {K:mA}
theorem zrY (l:List Int)(a b:Int)(hv:∀ n∈l,a≤n∧n≤b):(l.length:Int)*a≤l.sum∧l.sum≤(l.length:Int)*b:=by
 induction l with
 | nil=>simp
 | cons x r ih=>
  obtain⟨i1,i2⟩:=ih (fun n hn=>hv n (by simp [hn]))
  obtain⟨x1,x2⟩:=hv x (by simp)
  simp only[List.length_cons,List.sum_cons,Int.natCast_add,Int.add_mul];omega
theorem zrZ {l:List Int}{B:Int}(hv:∀ n∈l,-B≤n∧n≤B){N:Nat}(hl:l.length≤N)(hB:0≤B) : -(N*B)≤l.sum∧l.sum≤N*B:=by
 obtain⟨h1,h2⟩:=zrY l (-B) B hv;have:(l.length:Int)*B≤N*B:=Int.mul_le_mul_of_nonneg_right (by omega) hB
 rw[Int.mul_neg]at h1;omega
theorem zsa {l:List Int}{B:Int}(hv:∀ n∈l,-B≤n∧n≤B){N:Nat}(hl:l.length≤N)(hB:0≤B)(k:Nat) : -(N*B)≤(l.take k).sum∧(l.take k).sum≤N*B:=
 zrZ (fun n hn=>hv n (List.mem_of_mem_take hn)) (by simp;omega) hB
def jE (g:Nat)(caps:List AV)(p:PV→Bool)(xs:List PV)(h:bA):Prop:=∀x∈xs,∀K:mA,jA X g (.p x::caps) h K=K (AB (p x)) h []
def OC (p:PV→Bool)(xs:List PV):Int:=if xs.findIdx p<xs.length then(xs.findIdx p:Int) else -1
theorem MW (p:PV→Bool)(xs:List PV):decide (0≤OC p xs)=xs.any p:=by
 unfold OC;rw[Bool.eq_iff_iff];by_cases h:xs.findIdx p<xs.length
 ·rw[if_pos h];simp only[decide_eq_true_eq,List.any_eq_true]
  exact⟨fun _=>⟨_,List.getElem_mem h,List.findIdx_getElem⟩,fun _=>by omega⟩
 ·rw[if_neg h];simp only[decide_eq_true_eq,List.any_eq_true]
  refine⟨fun h=>by omega,fun⟨x,hx,hp⟩=>absurd (List.findIdx_lt_length_of_exists ⟨x,hx,hp⟩) h⟩
def PM:List Int→Int
 | []=>0
 | e::r=>if e=0 then PM r else e
end Go.Am
end
section
/- Plain lists: insertion sort asv Go's package slices does it on short lists;deleting;compacting. -/
namespace Go.Am
variable {α:Type}
def dC (lt:α→α→Bool)(x:α):List α→List α
 | []=>[x]
 | y::r=>bif lt x y then y::dC lt x r else x::y::r
def yD (lt:α→α→Bool)(l:List α):List α:=l.foldl (fun r x=>dC lt x r) []
def UB (lt:α→α→Bool)(l:List α):List α:=(yD lt l).reverse
theorem OW (lt:α→α→Bool)(x:α):∀r:List α,(dC lt x r).Perm (x::r)
 | []=>.refl _
 | y::r=>by
  unfold dC;cases lt x y with
  | true=>exact((OW lt x r).cons y).trans (.swap _ _ _)
  | false=>exact .refl _
theorem z6G (lt:α→α→Bool):∀(l r:List α),(l.foldl (fun r x=>dC lt x r) r).Perm (l++r)
 | [],r=>.refl _
 | x::l,r=>by
  simp only[List.foldl_cons,List.cons_append];refine(z6G lt l _).trans ?_;exact((OW lt x r).append_left l).trans (List.perm_middle)
theorem ZQ (lt:α→α→Bool)(l:List α):(yD lt l).Perm l:=by
 have:=z6G lt l [];rwa [List.append_nil]at this
theorem z6L (lt:α→α→Bool)(l:List α):(UB lt l).Perm l:=(List.reverse_perm _).trans (ZQ lt l)
theorem zlS (lt:α→α→Bool)(l:List α):(UB lt l).length=l.length:=(z6L lt l).length_eq
theorem zlT {lt:α→α→Bool}{l:List α}{x:α}:x∈UB lt l↔x∈l:=(z6L lt l).mem_iff
theorem z6F (lt:α→α→Bool)(l:List α):(yD lt l).length=l.length:=(ZQ lt l).length_eq
structure Weak (lt:α→α→Bool):Prop where
 asym:∀a b,lt a b=true→lt b a=false
 ntrans:∀a b c,lt b a=false→lt c b=false→lt c a=false
theorem z69 {lt:α→α→Bool}(w:Weak lt)(x:α):∀r:List α,r.Pairwise (fun a b=>lt a b=false)→(dC lt x r).Pairwise (fun a b=>lt a b=false)
 | [],_=>by simp [dC]
 | y::r,h=>by
  unfold dC;rw[List.pairwise_cons]at h;cases hxy:lt x y with
  | true=>
   rw[cond_true,List.pairwise_cons];refine⟨fun z hz=>?_,z69 w x r h.2⟩
   rcases List.mem_cons.1 ((OW lt x r).mem_iff.1 hz) with rfl|hz
   ·exact w.asym _ _ hxy
   ·exact h.1 z hz
  | false=>
   rw[cond_false,List.pairwise_cons,List.pairwise_cons];refine⟨fun z hz=>?_,h⟩
   rcases List.mem_cons.1 hz with rfl|hz
   ·exact hxy
   ·exact w.ntrans _ _ _ (h.1 z hz) hxy
theorem z6H {lt:α→α→Bool}(w:Weak lt):∀(l r:List α),r.Pairwise (fun a b=>lt a b=false)→(l.foldl (fun r x=>dC lt x r) r).Pairwise (fun a b=>lt a b=false)
 | [],r,h=>h
 | x::l,r,h=>z6H w l _ (z69 w x r h)
theorem zlU {lt:α→α→Bool}(w:Weak lt)(l:List α):(UB lt l).Pairwise (fun a b=>lt b a=false):=by
 unfold UB;rw[List.pairwise_reverse];exact z6H w l [] .nil
theorem z6I (lt:α→α→Bool)(l:List α)(k:Nat)(hk:k<l.length):yD lt (l.take (k+1))=dC lt l[k] (yD lt (l.take k)):=by
 rw[List.take_succ_eq_append_getElem hk];unfold yD;rw[List.foldl_append];rfl
theorem z7c {β:Type}(f:α→β){lt:α→α→Bool}{lt':β→β→Bool}(h:∀ a b,lt' (f a) (f b)=lt a b)(x:α):∀r:List α,dC lt' (f x) (r.map f)=(dC lt x r).map f
 | []=>rfl
 | y::r=>by
  simp only[List.map_cons,dC,h];cases lt x y with
  | true=>simp only[cond_true,List.map_cons,z7c f h x r]
  | false=>rfl
theorem z6A (lt:α→α→Bool)(x:α)(A:List α):∀B:List α,(∀b∈B,lt x b=true)→dC lt x (B++A)=B++dC lt x A
 | [],_=>rfl
 | b::B,h=>by
  simp only[List.cons_append,dC,h b (by simp),cond_true]
  rw[z6A lt x A B (fun b hb=>h b (by simp [hb]))]
theorem z6B (A C:List α)(x:α):(A.reverse++x::C)[A.length]?=some x:=by
 rw[List.getElem?_append_right (by simp)];simp
theorem z6C (A C:List α)(x y:α):((y::A).reverse++x::C)[A.length]?=some y:=by
 rw[List.getElem?_append_left (by simp)];simp
theorem z6D (A C:List α)(x y:α):(((y::A).reverse++x::C).set (A.length+1) y).set A.length x=A.reverse++x::y::C:=by
 have e:(y::A).reverse++x::C=A.reverse++y::x::C:=by simp
 rw[e,List.set_append_right _ _ (by simp),List.length_reverse,Nat.add_sub_cancel_left,List.set_append_right _ _ (by simp),List.length_reverse,Nat.sub_self]
 rfl
theorem YQ (lt:α→α→Bool)(x:α)(A B:List α)(hB:∀ b∈B,lt x b=true)(hA:∀ y r,A=y::r→lt x y=false):dC lt x (B++A)=B++x::A:=by
 rw[z6A lt x A B hB];cases A with
 | nil=>rfl
 | cons y r=>simp only[dC,hA y r rfl,cond_false]
theorem z6J {β:Type}(f:α→β){lt:α→α→Bool}{lt':β→β→Bool}(h:∀ a b,lt' (f a) (f b)=lt a b)(l:List α):UB lt' (l.map f)=(UB lt l).map f:=by
 have key:∀(l r:List α),(l.map f).foldl (fun r x=>dC lt' x r) (r.map f)=(l.foldl (fun r x=>dC lt x r) r).map f:=by
  intro l;induction l with
  | nil=>intro r;rfl
  | cons x l ih=>intro r;simp only[List.map_cons,List.foldl_cons,z7c f h,ih]
 unfold UB yD;have:=key l [];simp only[List.map_nil]at this;rw[this,List.map_reverse]
end Go.Am
namespace Go.Am
variable {α:Type}
def ID (q:α→α→Bool)(prev:α):List α→List α
 | []=>[]
 | x::r=>bif q x prev then ID q x r else x::ID q x r
def XB (q:α→α→Bool):List α→List α
 | []=>[]
 | x::r=>x::ID q x r
theorem z2z (q:α→α→Bool):∀(l:List α) (p:α),(ID q p l).length≤l.length
 | [],_=>Nat.le_refl _
 | x::r,p=>by
  unfold ID;have:=z2z q r x;cases q x p with
  | true=>simp only[cond_true,List.length_cons];omega
  | false=>simp only[cond_false,List.length_cons];omega
theorem z22 (q:α→α→Bool)(l:List α):(XB q l).length≤l.length:=by
 cases l with
 | nil=>exact Nat.le_refl _
 | cons x r=>have:=z2z q r x;simp only[XB,List.length_cons];omega
theorem LU (q:α→α→Bool):∀(l:List α) (p:α),∀x∈ID q p l,x∈l
 | [],_,x,h=>h
 | y::r,p,x,h=>by
  unfold ID at h;cases hq:q y p with
  | true=>rw[hq]at h;exact List.mem_cons_of_mem _ (LU q r y x h)
  | false=>
   rw[hq]at h;rcases List.mem_cons.1 h with rfl|h
   ·simp
   ·exact List.mem_cons_of_mem _ (LU q r y x h)
theorem zgC {q:α→α→Bool}{l:List α}{x:α}(h:x∈XB q l):x∈l:=by
 cases l with
 | nil=>exact h
 | cons y r=>
  rcases List.mem_cons.1 h with rfl|h
  ·simp
  ·exact List.mem_cons_of_mem _ (LU q r y x h)
theorem z20 (q:α→α→Bool)(z:α):∀(l:List α) (p:α),ID q p (l++[z])=ID q p l++(bif q z ((p::l).getLast (by simp)) then [] else [z])
 | [],p=>by simp only[List.nil_append,ID,List.getLast_singleton]
 | x::r,p=>by
  simp only[List.cons_append,ID,z20 q z r x];have e:(p::x::r).getLast (by simp)=(x::r).getLast (by simp):=List.getLast_cons (by simp)
  rw[e];cases q x p <;> rfl
theorem z23 (q:α→α→Bool)(l:List α)(k:Nat)(hk:k+1<l.length):XB q (l.take (k+1+1))=XB q (l.take (k+1))++(bif q l[k+1] l[k] then [] else [l[k+1]]):=by
 rw[List.take_succ_eq_append_getElem hk];cases l with
 | nil=>simp at hk
 | cons x r=>
  simp only[List.take_succ_cons,List.cons_append,XB,z20];have e:(x::r.take k).getLast (by simp)=(x::r)[k]:=by
   have:x::r.take k=(x::r).take (k+1):=rfl
   simp only[this];rw[List.getLast_eq_getElem];simp only[List.getElem_take];congr 1
   simp only[List.length_take,List.length_cons]at hk ⊢;omega
  rw[e]
theorem zgB {β:Type}(f:α→β){q:α→α→Bool}{q':β→β→Bool}(h:∀ a b,q' (f a) (f b)=q a b)(l:List α):XB q' (l.map f)=(XB q l).map f:=by
 have key:∀(l:List α) (p:α),ID q' (f p) (l.map f)=(ID q p l).map f:=by
  intro l;induction l with
  | nil=>intro p;rfl
  | cons x r ih=>
   intro p;simp only[List.map_cons,ID,h,ih];cases q x p <;> rfl
 cases l with
 | nil=>rfl
 | cons x r=>simp only[List.map_cons,XB,key]
end Go.Am
end
section
/- Values of a shape: loads and stores in rows. -/
open Go
namespace Go.Am
variable {h:bA} {K:mA}
theorem EF {sh:Sh}{x:PV}(hx:x.shp sh=true):QA sh 0 x=some x:=by
 cases sh with
 | none=>exact zgM hx
 | some n=>
  cases x with
  | agg cs=>
   simp only[PV.shp,Bool.and_eq_true,beq_iff_eq]at hx;simp [QA,hx.1];exact List.take_of_length_le (by omega)
  | _=>cases hx
theorem ML {sh:Sh}{x:PV}(hx:x.shp sh=true):x.cells.length=lA sh:=by
 cases sh with
 | none=>cases x <;> first|rfl|cases hx
 | some n=>
  cases x with
  | agg cs=>simp only[PV.shp,Bool.and_eq_true,beq_iff_eq]at hx;exact hx.1
  | _=>cases hx
theorem LL {sh:Sh}{x:PV}(hx:x.shp sh=true):x.cells.all PV.sc=true:=by
 cases sh with
 | none=>cases x <;> first|rfl|cases hx
 | some n=>
  cases x with
  | agg cs=>simp only[PV.shp,Bool.and_eq_true,beq_iff_eq]at hx;exact hx.2
  | _=>cases hx
theorem NL {sh:Sh}{x y:PV}(hx:x.shp sh=true)(hy:y.shp sh=true)(id i fz:Nat)(xs:List PV)(h1:bA):stE sh id i 0 fz sh xs x h1 (some y)=some (.und,h1.set id (.row sh (xs.set i x) fz),[]):=by
 cases sh with
 | none=>
  cases y with
  | agg cs=>cases hy
  | _=>simp only[PV.shp]at hx;simp [stE,hx]
 | some n=>
  cases y with
  | agg cs=>
   cases x with
   | agg ds=>
    simp only[PV.shp,Bool.and_eq_true,beq_iff_eq]at hx hy;simp [stE,PV.cells,splice,hx.1,hy.1,show cs.drop n=[] from List.drop_of_length_le (by omega)]
   | _=>cases hx
  | _=>cases hy
def bC (sh:Sh)(xs:List PV):Prop:=∀x∈xs,x.shp sh=true
theorem SG {sh:Sh}{xs:List PV}(hx:bC sh xs){i:Nat}(hi:i<xs.length):xs[i].shp sh=true:=hx _ (List.getElem_mem hi)
theorem qG {h:bA}{id:Nat}{o:Obj}(hh:h[id]?=some o):h.set id o=h:=by
 apply List.ext_getElem?
 intro i;rw[List.getElem?_set];split
 ·rename_i e;subst e;rw[hh];simp [yB hh]
 ·rfl
def Cmps (g:Nat)(caps:List AV)(c:PV→PV→Int)(xs:List PV)(id:Nat)(h:bA):Prop:=∀(o:Obj) (x:PV),x∈xs→∀y,y∈xs→∀K:mA,jA X g (.p x :: .p y::caps) (h.set id o) K=K (AI (c x y)) (h.set id o) []
def ltC (c:PV→PV→Int)(a b:PV):Bool:=decide (c a b<0)
structure Shows (sh:Sh) (v:AV) (xs:List PV) (h:bA):Prop where
 len:yA v=some (AI xs.length)
 get:∀(k:Nat) (hk:k<xs.length),∃a,uA sh v (AI k) h=some a∧kA sh a h=some (.p xs[k])
theorem GS {sh:Sh}{xs:List PV}(hs:bC sh xs):Shows sh (.p (.sl sh xs)) xs h:=by
 refine⟨rfl,fun k hk=>⟨.vp xs[k],?_,?_⟩⟩
 ·simp [uA,vB,hk]
 ·simp only[z6W,EF (SG hs hk)];rfl
theorem KL {sh:Sh}{id off len fz:Nat}{xs:List PV}(hs:bC sh xs)(hh:h[id]?=some (.row sh xs fz))(hl:off+len≤xs.length):Shows sh (.own id xs.length off len) (win xs off len) h:=by
 have hw:(win xs off len).length=len:=by simp [win];omega
 refine⟨by rw[hw];rfl,fun k hk=>⟨.rref id xs.length (off+k) 0,?_,?_⟩⟩
 ·rw[hw]at hk
  simp [uA,vB,hh,hl,hk]
 ·have hk':off+k<xs.length:=by rw[hw]at hk;omega
  have e:(win xs off len)[k]=xs[off+k]:=by simp [win]
  rw[e];simp only[z6V,hh,z6Q,if_true,List.getElem?_eq_getElem hk',Option.bind_some,EF (SG hs hk'),Option.map_some]
theorem z83 {sh:Sh}{id fz:Nat}{xs:List PV}(hs:bC sh xs)(hh:h[id]?=some (.row sh xs fz)):Shows sh (.own id xs.length 0 xs.length) xs h:=by
 have:=KL hs hh (off:=0) (len:=xs.length) (by omega)
 rwa [z8Z]at this
theorem zr0 {sh:Sh}{xs ys:List PV}(hx:bC sh xs)(hy:bC sh ys):bC sh (xs++ys):=fun x h=>by
 rcases List.mem_append.1 h with h|h
 ·exact hx x h
 ·exact hy x h
def z1n (g:Nat)(caps:List AV)(p:PV→Bool)(xs:List PV)(id:Nat)(h:bA):Prop:=∀(o:Obj) (x:PV),x∈xs→∀K:mA,jA X g (.p x::caps) (h.set id o) K=K (AB (p x)) (h.set id o) []
end Go.Am
end
section
/- Strings: keys,the library's functions without text. -/
open Go
set_option linter.unusedSimpArgs false
namespace Go.Am
variable {h:bA} {K:mA}
abbrev AS (s:List UInt8):AV:=.p (.str s)
theorem z1q:X.ext=iI SF TF:=rfl
theorem z8q (s:List UInt8)(c:UInt8):jA X SF [AS s,.p (.int .u8 c.toNat)] h K=K (AI (oD s c)) h []:=by
 have:=z4Q (X:=X) (f:=SF) (asv:=[AS s,.p (.int .u8 c.toNat)]) (vs:=[.str s,.int .u8 c.toNat]) (h:=h) (h1:=h) (r:=.int .i64 (oD s c)) (K:=K) (by kernel_rfl) rfl rfl rfl ?_
 ·exact this
 ·rw[z1q]
  unfold iI;rw[show Nat.beq SF SF=true from by kernel_rfl]
  simp
theorem zqS (a b:List UInt8):jA X TF [AS a,AS b] h K=K (AI (vA a b)) h []:=by
 have:=z4Q (X:=X) (f:=TF) (asv:=[AS a,AS b]) (vs:=[.str a,.str b]) (h:=h) (h1:=h) (r:=.int .i64 (vA a b)) (K:=K) (by kernel_rfl) rfl rfl rfl ?_
 ·exact this
 ·rw[z1q]
  unfold iI;rw[show Nat.beq TF SF=false from by kernel_rfl,show Nat.beq TF TF=true from by kernel_rfl]
  rfl
theorem DS (a b:List UInt8):jA X oE [AS a,AS b] h K=K (AI (vA a b)) h []:=by
 have key:∀(h:bA) (K:mA),jA X pI [AS a,AS b] h K=K (AI (vA a b)) h []:=by
  intro h K;refine IA ?_;rw[zfy rfl];simp only[aV,go_sem,zqS]
 refine IA ?_;rw[zgo rfl];simp only[XV,go_sem,key]
theorem z8i (s:List UInt8)(c:UInt8):jA X oK [AS s,.p (.int .u8 c.toNat)] h K=K (AI (oD s c)) h []:=by
 have key:∀(h:bA) (K:mA),jA X lF [AS s,.p (.int .u8 c.toNat)] h K=K (AI (oD s c)) h []:=by
  intro h K;refine IA ?_;rw[z1Q rfl];simp only[PP,go_sem,z8q]
 refine IA ?_;rw[zgr rfl];simp only[aW,go_sem,key]
theorem QF:∀ {a b:List UInt8},vA a b=0→a=b
 | [],[],_=>rfl
 | [],_::_,h=>by simp [vA]at h
 | _::_,[],h=>by simp [vA]at h
 | x::a,y::b,h=>by
  simp only[vA]at h;split at h
  ·cases h
  ·split at h
   ·cases h
   ·rename_i h1 h2
    have:x=y:=UInt8.le_antisymm (UInt8.not_lt.1 h2) (UInt8.not_lt.1 h1)
    rw[this,QF h]
theorem LE:∀ a b,vA b a = - vA a b
 | [],[]=>rfl
 | [],_::_=>rfl
 | _::_,[]=>rfl
 | x::a,y::b=>by
  simp only[vA];by_cases h1:x<y
  ·have h2:¬y<x:=UInt8.lt_asymm h1
   simp [h1,h2]
  ·by_cases h2:y<x
   ·simp [h1,h2]
   ·simp [h1,h2,LE a b]
theorem z2y:∀ a b,vA a b = -1∨vA a b=0∨vA a b=1
 | [],[]=>.inr (.inl rfl)
 | [],_::_=>.inl rfl
 | _::_,[]=>.inr (.inr rfl)
 | x::a,y::b=>by
  simp only[vA];split
  ·exact .inl rfl
  ·split
   ·exact .inr (.inr rfl)
   ·exact z2y a b
theorem rJ:∀ {a b c:List UInt8},vA a b<0→vA b c<0→vA a c<0
 | [],[],_,h,_=>by simp [vA]at h
 | [],_::_,[],_,h=>by simp [vA]at h
 | [],_::_,_::_,_,_=>by simp [vA]
 | _::_,[],_,h,_=>by simp [vA]at h
 | _::_,_::_,[],_,h=>by simp [vA]at h
 | x::a,y::b,z::c,h1,h2=>by
  simp only[vA]at h1 h2 ⊢;by_cases hxy:x<y
  ·by_cases hyz:y<z
   ·simp [UInt8.lt_trans hxy hyz]
   ·by_cases hzy:z<y
    ·simp [hyz,hzy]at h2
    ·have:y=z:=UInt8.le_antisymm (UInt8.not_lt.1 hzy) (UInt8.not_lt.1 hyz)
     subst this;simp [hxy]
  ·by_cases hyx:y<x
   ·simp [hxy,hyx]at h1
   ·have:x=y:=UInt8.le_antisymm (UInt8.not_lt.1 hyx) (UInt8.not_lt.1 hxy)
    subst this;simp only[UInt8.lt_irrefl,if_false]at h1;by_cases hyz:x<z
    ·simp [hyz]
    ·by_cases hzy:z<x
     ·simp [hyz,hzy]at h2
     ·simp only[hyz,hzy,if_false]at h2 ⊢
      exact rJ h1 h2
def QE (c:UInt8):Bool:=decide ((97:Int)≤c.toNat)&&decide ((c.toNat:Int)≤122)||decide ((48:Int)≤c.toNat)&&decide ((c.toNat:Int)≤57)||decide ((c.toNat:Int)=45)||decide ((c.toNat:Int)=95)
def PB (s:List UInt8):Bool:=match s with
 | []=>false
 | c::r=>decide (r.length<40)&&(decide ((97:Int)≤c.toNat)&&decide ((c.toNat:Int)≤122))&&(c::r).all QE
theorem PY (s:List UInt8)(hl:s.length≤1000000000):jA X wD [AS s] h K=K (AB (PB s)) h []:=by
 refine IA ?_;rw[zeW rfl];cases s with
 | nil=>simp only[dH,go_sem,PB]
 | cons c r=>
  have n0:((c::r)=[])=False:=by simp
  have e1:(((r.length+1:Nat):Int)≤40)=(r.length<40):=by simp only[eq_iff_iff];omega
  by_cases h1:(40:Int)<((r.length+1:Nat):Int)
  ·have:¬r.length<40:=by omega
   simp only[dH,go_sem,n0,h1,PB,this]
  have h1':r.length<40:=by omega
  by_cases h2:(c.toNat:Int)<97
  ·have:¬(97:Int)≤c.toNat:=by omega
   simp only[dH,go_sem,n0,h1,h2,PB,this,h1']
  have h2':(97:Int)≤c.toNat:=by omega
  by_cases h3:(122:Int)<c.toNat
  ·have:¬(c.toNat:Int)≤122:=by omega
   simp only[dH,go_sem,n0,h1,h2,h3,PB,this,h1',h2']
  have h3':(c.toNat:Int)≤122:=by omega
  have ek:PB (c::r)=(c::r).all QE:=by simp [PB,h1',h2',h3']
  rw[ek];generalize hB:(c::r).all QE=B;simp only[dH,go_sem,n0,h1,h2,h3];have hlen:(c::r).length=r.length+1:=rfl
  rw[←hlen];generalize c::r=s at *;refine UA (fun k:Nat=>⟨[(0,AS s),(23,AI s.length),(24,AI k)],h,[]⟩) (fun k=>k≤s.length∧(s.take k).all QE=true) (fun k=>s.length-k) 0 rfl ⟨by omega,rfl⟩ ?_
  rintro k ⟨hk,hp⟩
  rcases Nat.lt_or_ge k s.length with hlt|hge
  ·have hg:s[k]?=some s[k]:=List.getElem?_eq_getElem hlt
   have w2:IntKind.i64.wrap ((k:Int)+1)=((k+1:Nat):Int):=JA _ (by omega) (by omega)
   generalize hc:s[k]=c at *;have key:(decide ((97:Int)≤c.toNat)&&decide ((c.toNat:Int)≤122)||decide ((48:Int)≤c.toNat)&&decide ((c.toNat:Int)≤57)||decide ((c.toNat:Int)=45)||decide ((c.toNat:Int)=95))=QE c:=rfl
   cases hkc:QE c with
   | true=>
    rw[hkc]at key;have hn:(s.take (k+1)).all QE=true:=by rw[List.take_succ_eq_append_getElem hlt,List.all_append,hp,hc];simp [hkc]
    by_cases b1:(97:Int)≤c.toNat <;> by_cases b2:(c.toNat:Int)≤122 <;> by_cases b3:(48:Int)≤c.toNat <;> by_cases b4:(c.toNat:Int)≤57 <;> by_cases b5:(c.toNat:Int)=45 <;> by_cases b6:(c.toNat:Int)=95
    all_goals first
     | (simp only[b1,b2,b3,b4,b5,b6,decide_true,decide_false,Bool.and_self,Bool.and_true,Bool.and_false,Bool.or_self,Bool.or_true,Bool.or_false,Bool.true_or,Bool.false_or,Bool.false_and,reduceCtorEq]at key;done)
     | (exfalso;omega)
     | (simp only[go_sem,hlt,hg,w2,b1,b2,b3,b4,b5,b6];exact⟨k+1,rfl,⟨by omega,hn⟩,by omega⟩)
   | false=>
    rw[hkc]at key;have hn:s.all QE=false:=by rw[List.all_eq_false];exact⟨_,List.getElem_mem hlt,by rw[hc,hkc];simp⟩
    rw[hn]at hB;subst hB;by_cases b1:(97:Int)≤c.toNat <;> by_cases b2:(c.toNat:Int)≤122 <;> by_cases b3:(48:Int)≤c.toNat <;> by_cases b4:(c.toNat:Int)≤57 <;> by_cases b5:(c.toNat:Int)=45 <;> by_cases b6:(c.toNat:Int)=95
    all_goals first
     | (simp only[b1,b2,b3,b4,b5,b6,decide_true,decide_false,Bool.and_self,Bool.and_true,Bool.and_false,Bool.or_self,Bool.or_true,Bool.or_false,Bool.true_or,Bool.false_or,Bool.false_and,reduceCtorEq]at key;done)
     | (exfalso;omega)
     | (simp only[go_sem,hlt,hg,b1,b2,b3,b4,b5,b6])
  ·have ek:k=s.length:=by omega
   subst ek;rw[List.take_length,hB]at hp;subst hp;simp only[go_sem,Nat.lt_irrefl]
theorem z67 (s:List UInt8)(c:UInt8):decide (oD s c<0) = !s.contains c:=by
 unfold oD;rw[Bool.eq_iff_iff];by_cases hf:s.findIdx (· == c)<s.length
 ·rw[if_pos hf]
  have:=List.findIdx_getElem (w:=hf);simp only[beq_iff_eq]at this;have hm:c∈s:=by rw[←this];exact List.getElem_mem hf
  simp [hm]
 ·rw[if_neg hf]
  have hm:¬c∈s:=fun hm=>hf (List.findIdx_lt_length_of_exists ⟨c,hm,by simp⟩)
  simp [hm]
theorem TY (s t:List UInt8)(hl:s.length≤1000000000):jA X ZF [AS s,AS t] h K=K (AB (s.all fun c=>t.contains c)) h []:=by
 refine IA ?_;rw[zfR rfl];simp only[gQ,go_sem];refine UA (fun k:Nat=>⟨[(0,AS s),(1,AS t),(7,AI s.length),(8,AI k)],h,[]⟩) (fun k=>k≤s.length∧(s.take k).all (fun c=>t.contains c)=true) (fun k=>s.length-k) 0 rfl ⟨by omega,rfl⟩ ?_
 rintro k ⟨hk,hp⟩
 rcases Nat.lt_or_ge k s.length with hlt|hge
 ·have hg:s[k]?=some s[k]:=List.getElem?_eq_getElem hlt
  have w2:IntKind.i64.wrap ((k:Int)+1)=((k+1:Nat):Int):=JA _ (by omega) (by omega)
  have hi:=z67 t s[k]
  by_cases hc:oD t s[k]<0
  ·have:s.all (fun c=>t.contains c)=false:=by
    rw[List.all_eq_false];refine⟨_,List.getElem_mem hlt,?_⟩;rw[decide_eq_true hc]at hi;cases hq:t.contains s[k]with
    | true=>rw[hq]at hi;cases hi
    | false=>simp
   simp only[go_sem,hlt,hg,z8i,hc,this]
  ·rw[decide_eq_false hc]at hi
   have hq:t.contains s[k]=true:=by cases hq:t.contains s[k]with|true=>rfl|false=>rw[hq]at hi;cases hi
   simp only[go_sem,hlt,hg,z8i,hc,w2];exact⟨k+1,rfl,⟨by omega,by rw[List.take_succ_eq_append_getElem hlt,List.all_append,hp];simp only[List.all_cons,List.all_nil,hq];rfl⟩,by omega⟩
 ·have ek:k=s.length:=by omega
  subst ek;rw[List.take_length]at hp;simp only[go_sem,Nat.lt_irrefl,hp]
def ZN:List UInt8:=[97,98,99,100,101,102,103,104,105,106,107,108,109,110,111,112,113,114,115,116,117,118,119,120,121,122]
def YM:List UInt8:=[97,98,99,100,101,102,103,104,105,106,107,108,109,110,111,112,113,114,115,116,117,118,119,120,121,122,48,49,50,51,52,53,54,55,56,57,45,95]
theorem z8M {p:UInt8→Bool}(h:((List.range 256).all fun n=>p (UInt8.ofNat n))=true)(c:UInt8):p c=true:=by
 have:=List.all_eq_true.1 h c.toNat (by simp;exact c.toNat_lt)
 rwa [UInt8.ofNat_toNat]at this
theorem zr6 (c:UInt8):ZN.contains c=(decide ((97:Int)≤c.toNat)&&decide ((c.toNat:Int)≤122)):=by
 have:=z8M (p:=fun c=>ZN.contains c==(decide ((97:Int)≤c.toNat)&&decide ((c.toNat:Int)≤122))) (by kernel_rfl) c
 simpa using this
theorem zmg (c:UInt8):YM.contains c=QE c:=by
 have:=z8M (p:=fun c=>YM.contains c==QE c) (by kernel_rfl) c
 simpa using this
theorem UY (s:List UInt8)(hl:s.length≤1000000000):jA X YF [AS s] h K=K (AB (PB s)) h []:=by
 refine IA ?_;rw[zfK rfl];have o1:=fun h K=>TY (h:=h) (K:=K) s YM hl
 have e2:(s.all fun c=>YM.contains c)=s.all QE:=by congr 1;funext c;exact zmg c
 rw[e2]at o1;unfold YM at o1;cases s with
 | nil=>simp only[DJ,go_sem,XN,PB]
 | cons c r=>
  have o2:=fun h K=>TY (h:=h) (K:=K) [c] ZN (by simp)
  have e3:([c].all fun c=>ZN.contains c)=(decide ((97:Int)≤c.toNat)&&decide ((c.toNat:Int)≤122)):=by simp only[List.all_cons,List.all_nil,Bool.and_true];exact zr6 c
  rw[e3]at o2;unfold ZN at o2;have q1:(1:Int)≤((r.length+1:Nat):Int):=by omega
  have q2:1≤r.length+1:=by omega
  by_cases h1:r.length<40
  ·have h1':((r.length+1:Nat):Int)≤40:=by omega
   cases h2:(decide ((97:Int)≤c.toNat)&&decide ((c.toNat:Int)≤122)) with
   | true=>
    have ek:PB (c::r)=(c::r).all QE:=by
     simp only[PB,h1,decide_true,Bool.true_and,h2]
    rw[ek];simp only[DJ,go_sem,XN,h1',q1,q2,win,↓o2,o2,h2,↓o1,o1]
   | false=>
    have ek:PB (c::r)=false:=by simp only[PB,h1,decide_true,Bool.true_and,h2,Bool.false_and]
    rw[ek];simp only[DJ,go_sem,XN,h1',q1,q2,win,↓o2,o2,h2]
  ·have h1':¬((r.length+1:Nat):Int)≤40:=by omega
   have ek:PB (c::r)=false:=by simp only[PB,h1,decide_false,Bool.false_and]
   rw[ek];simp only[DJ,go_sem,XN,h1',q1]
end Go.Am
end
section
/- Finding values in lists: printed by program. -/
open Go
set_option linter.unusedSimpArgs false
namespace Go.Am
attribute [-go_sem] PV.cells
variable {h:bA} {K:mA}
end Go.Am
end
section
/- Limits: what they are,what is wrong with them. -/
open Go
namespace Go.Am
variable {h:bA} {K:mA}
structure Lim where
 key:List UInt8
 lo:Int
 hi:Int
 bin:Int
def Lim.pv (x:Lim):PV:=.agg [.str x.key,eI x.lo,eI x.hi,eI x.bin]
def inB (a n b:Int):Bool:=decide (a≤n)&&decide (n≤b)
theorem zS (n a b:Int):jA X fC [AI n,AI a,AI b] h K=K (AB (!inB a n b)) h []:=by rw[s_Out,zol];rfl
theorem BS (n a b:Int):jA X UD [AI n,AI a,AI b] h K=K (AB (inB a n b)) h []:=XN n a b
end Go.Am
end
section
/- Boards,plainly: what is wrong with them. -/
set_option linter.all false
namespace Go.Am
structure Cel where
 kind:Int
 pin:List UInt8
 ctl:Int
 off:Int
 deriving DecidableEq
structure Prt where
 key:List UInt8
 cells:List Cel
 deriving DecidableEq
structure Jon where
 net:List UInt8
 part:List UInt8
 pin:List UInt8
 deriving DecidableEq
structure Pul where
 net:List UInt8
 level:Int
 deriving DecidableEq
structure Brd where
 parts:List Prt
 joins:List Jon
 pulls:List Pul
 deriving DecidableEq
def Cel.pv (c:Cel):PV:=.agg [eI c.kind,.str c.pin,eI c.ctl,eI c.off]
def Prt.pv (p:Prt):PV:=.agg [.str p.key,.sl (some 4) (p.cells.map Cel.pv)]
def Jon.pv (j:Jon):PV:=.agg [.str j.net,.str j.part,.str j.pin]
def Pul.pv (p:Pul):PV:=.agg [.str p.net,eI p.level]
def Brd.pv (b:Brd):PV:=.agg [.sl (some 2) (b.parts.map Prt.pv),.sl (some 3) (b.joins.map Jon.pv),.sl (some 2) (b.pulls.map Pul.pv)]
def aC (c:Cel):Bool:=decide (c.kind=1)||decide (c.kind=2)
def EE (l:List Cel)(i:Int):Int:=((l[i.toNat]?).map Cel.kind).getD 0
def xB (b1 b2 b3 b4 b5 b6 b7 b8 b9 bp:Bool):Int:=
 bif !b1 then 4 else bif b2 && !b3 then 5 else bif !b2 && !bp then 3
 else bif !b4 then(bif !b5 || !b9 then 3 else 0)
 else bif !b5&&(!b6 || !b7) then 8 else bif !b8||(b5 && !b9) then 1 else 0
def mC (l:List Cel)(c:Cel):Int:=
 xB (inB 1 c.kind 4) (aC c) (PB c.pin) (decide (c.kind=2)) (decide (c.ctl = -1)) (inB 0 c.ctl (l.length-1)) (decide (EE l c.ctl=3)) (inB 0 c.off 1) (decide (c.off=0)) (decide (c.pin=[]))
def nD {α:Type}(f:α→Int):List α→Int
 | []=>0
 | x::r=>if f x≠0 then f x else nD f r
theorem sK {α:Type}{f:α→Int}:∀{l:List α},nD f l=0→∀x∈l,f x=0
 | [],_,_,h=>by cases h
 | y::r,h,x,hx=>by
  unfold nD at h;by_cases hy:f y=0
  ·rw[if_neg (by simp [hy])]at h
   rcases List.mem_cons.1 hx with e|hx
   ·rw[e];exact hy
   ·exact sK h x hx
  ·rw[if_pos hy]at h;exact absurd h hy
def QC (c d:Cel):Bool:=decide (d.kind=c.kind)&&decide (d.pin=c.pin)
def twC (P:Cel→Bool)(seen:List Cel):List Cel→Bool
 | []=>false
 | c::r=>if P c&&seen.any (QC c) then true else twC P (seen++[c]) r
def jD (l:List Cel):Int:=if(200:Int)<l.length then 2 else if nD (mC l) l≠0 then nD (mC l) l else if twC aC [] l then 6 else 0
def KD (c:Cel):Bool:=!decide (c.pin=[])
theorem z1Y {l:List Cel}{c:Cel}(h:mC l c=0):KD c=aC c:=by
 unfold mC at h;unfold KD;cases h1:inB 1 c.kind 4 with
 | false=>rw[h1]at h;cases h
 | true=>
  cases h2:aC c with
  | true=>
   cases h3:PB c.pin with
   | false=>rw[h1,h2,h3]at h;cases h
   | true=>
    have:c.pin≠[]:=fun e=>by rw[e]at h3;cases h3
    simp [this]
  | false=>
   cases h3:decide (c.pin=[]) with
   | true=>rfl
   | false=>rw[h1,h2,h3]at h;cases h
theorem z8J {P Q:Cel→Bool}:∀{l seen:List Cel},(∀c∈l,P c=Q c)→twC P seen l=twC Q seen l
 | [],_,_=>rfl
 | c::r,seen,h=>by
  unfold twC;rw[h c (by simp),z8J (l:=r) fun d hd=>h d (by simp [hd])]
theorem zg7 (l:List Cel):jD l=if(200:Int)<l.length then 2 else if nD (mC l) l≠0 then nD (mC l) l else if twC KD [] l then 6 else 0:=by
 unfold jD;split
 ·rfl
 ·split
  ·rfl
  ·rename_i h1 h2
   rw[z8J (P:=aC) (Q:=KD) fun c hc=>(z1Y (sK (by simpa using h2) c hc)).symm]
def DC:Option Prt→List Prt→Int
 | _,[]=>0
 | p,x::r=>if PB x.key=false then 5 else if(match p with|some q=>decide (vA x.key q.key≤0)|none=>false)=true then 7 else if jD x.cells≠0 then jD x.cells else DC (some x) r
def oY (b:Brd)(key:List UInt8):Option Prt:=b.parts[b.parts.findIdx fun p=>decide (p.key=key)]?
def NG (b:Brd)(part pin:List UInt8):Bool:=match oY b part with
 | some p=>p.cells.any fun c=>aC c&&decide (c.pin=pin)
 | none=>false
def zB (x y:Jon):Int:=if vA x.net y.net≠0 then vA x.net y.net else if vA x.part y.part≠0 then vA x.part y.part else vA x.pin y.pin
def zD (b:Brd):Option Jon→List Jon→Int
 | _,[]=>0
 | p,x::r=>if PB x.net=false then 5 else if NG b x.part x.pin=false then 8 else if(match p with|some q=>decide (zB x q≤0)|none=>false)=true then 7 else zD b (some x) r
def ZC (x y:Jon):Bool:=decide (y.part=x.part)&&decide (y.pin=x.pin)
def twJ (seen:List Jon):List Jon→Bool
 | []=>false
 | x::r=>if seen.any (ZC x) then true else twJ (seen++[x]) r
def DE (b:Brd):Int:=if(1000:Int)<b.joins.length then 2 else if zD b none b.joins≠0 then zD b none b.joins else if twJ [] b.joins then 6 else 0
def eqN (x y:List UInt8):Bool:=decide (x=y)
def tA (b:Brd):List (List UInt8):=XB eqN (b.joins.map Jon.net)
def xF (nets:List (List UInt8)):Option Pul→List Pul→Int
 | _,[]=>0
 | p,x::r=>if nets.contains x.net=false then 8 else if inB 0 x.level 1=false then 1 else if(match p with|some q=>decide (vA x.net q.net≤0)|none=>false)=true then 7 else xF nets (some x) r
def fD (b:Brd):Int:=
 if(40:Int)<b.parts.length then 2 else if DC none b.parts≠0 then DC none b.parts
 else if DE b≠0 then DE b else if(100:Int)<(tA b).length then 2 else xF (tA b) none b.pulls
end Go.Am
end
