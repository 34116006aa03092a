import Derived.KernelRfl
import Derived.Test.YthofcepomhnpdaaGreatlawST5
set_option linter.all false
set_option maxRecDepth 100000
set_option maxHeartbeats 0
namespace Go.Am
section
variable (C:Hd)(gl:GL)(e:En)(h:aA)(x:Esc)(K:KT)
def z73:ACode:=(.seq (rg [uO 5 (.box 2),
mV 6 (cI 0)] [0,1,5])
(.seq (dr [dF (mV 10 0) [0],
dF (uO 11 (.nilchk 10)) [10],
dF (fA 12 3 none 11) [11],
dF (lD 13 none 12) [12],
dF (fA 14 0 none 5) [5],
dF (lD 15 none 14) [14],
dF (uO 16 (.look (none,[2]) true (.p (.str [])) 13 15)) [13,15],
dF (mV 9 16) [16],
dF (eX 17 9 0) [9],
dF (eX 18 9 1) [9],
dF (mV 7 17) [17],
dF (mV 8 18) [18]] [0,1,5,8])
(.seq (.block 0 (.seq (rg [mV 20 1,
uO 21 (.nilchk 20),
fA 22 0 none 21,
lD 23 none 22,
bN 24 .neq 23 (cI 1),
mV 19 24] [0,1,5,8,19])
(.cond 19 (.seq (rg [mV 6 (cI 11)] [6])
.ret)
(.seq (dr [dF (fA 26 5 none 5) [5],
dF (lD 27 none 26) [26],
dF (mV 28 1) [1],
dF (uO 29 (.nilchk 28)) [28],
dF (fA 30 2 none 29) [29],
dF (lD 31 none 30) [30],
dF (bN 32 .neq 27 31) [27,31],
dF (mV 25 32) [32]] [0,1,5,8,25])
(.cond 25 (.seq (rg [mV 6 (cI 3)] [6])
.ret)
(.seq (rg [mV 34 8,
mV 33 34] [0,1,5,33])
(.cond 33 (.seq (rg [mV 6 (cI 12)] [6])
.ret)
.skip)))))))
(.seq (dr [dF (mV 35 1) [1],
dF (mV 36 1) [1],
dF (mV 37 1) [1],
dF (fA 38 2 none 5) [5],
dF (lD 39 none 38) [38],
dF (fA 40 0 none 5) [5],
dF (lD 41 none 40) [40],
dF (uO 42 (.nilchk 35)) [35],
dF (fA 43 0 none 42) [42],
dA (wO (.store none 43 (cI 2))) [43] true [] [4,6],
dF (uO 44 (.nilchk 36)) [36],
dF (fA 45 1 none 44) [44],
dA (wO (.store none 45 39)) [45,39] true [] [6],
dF (uO 46 (.nilchk 37)) [37],
dF (fA 47 3 none 46) [46],
dT (wO (.store none 47 41)) [47,41]] [0,5])
(.seq (dr [dF (mV 48 0) [0],
dF (uO 49 (.nilchk 48)) [48],
dF (fA 50 3 none 49) [49],
dF (lD 51 none 50) [50],
dF (fA 52 0 none 5) [5],
dF (lD 53 none 52) [52],
dF (fA 54 4 none 5) [5],
dF (lD 55 none 54) [54],
dT (wO (.mupd (none,[2]) 51 53 55)) [51,53,55]] [0,5])
(.seq (dr [dF (mV 56 0) [0],
dF (mV 57 0) [0],
dF (uO 58 (.nilchk 57)) [57],
dF (fA 59 5 none 58) [58],
dF (lD 60 none 59) [59],
dF (fA 61 0 none 5) [5],
dF (lD 62 none 61) [61],
dF (fA 63 2 none 5) [5],
dF (lD 64 none 63) [63],
dF (uO 65 (.build [.p (.str []),.p (.int .i64 0),.p (.int .i64 0)] [(0,1,62),(1,1,64),(2,1,(cI (-1)))])) [62,64],
dF (uO 66 (.bsl false (some 3) 1 (.agg [.str [],.int .i64 0,.int .i64 0]) [(0,65)])) [65],
dT (uO 67 (.app (some 3) 60 66)) [60,66],
dF (uO 68 (.nilchk 56)) [56],
dF (fA 69 5 none 68) [68],
dT (wO (.store none 69 67)) [69,67]] [])
(.seq (rg [mV 6 (cI 0)] [6])
.ret)))))))
def bT:AFun:=⟨3,[.t 6],z73,false,false⟩
def UJ:Sf C gl z73 e h x K:=⟨_,by simp only[z73,↓wZ,AO.still];rfl⟩
theorem znx {C gl v0 v1 v2 h x K}:NW C gl bT.body ⟨enter [v0,v1,v2],h,x⟩ K=(UJ C gl [(0,v0),(1,v1),(2,v2)] h x K).1:=(UJ C gl [(0,v0),(1,v1),(2,v2)] h x K).2
def oY:ACode:=.pr [] (.seq (rg [mV 6 (cI 0)] [6])
.ret)
def z4g:Sf C gl oY e h x K:=⟨_,by simp only[oY,↓wZ,AO.still];rfl⟩
theorem znm:NW C gl oY ⟨e,h,x⟩ K=(z4g C gl e h x K).1:=(z4g ..).2
def pY:ACode:=.pr [] (.seq (rg [mV 6 (cI 0)] [6])
.ret)
def z4h:Sf C gl pY e h x K:=⟨_,by simp only[pY,↓wZ,AO.still];rfl⟩
theorem znn:NW C gl pY ⟨e,h,x⟩ K=(z4h C gl e h x K).1:=(z4h ..).2
def qY:ACode:=.pr [0,1] (.seq (rg [mV 98 1,
uO 99 (.nilchk 98),
fA 100 4 none 99,
lD 101 none 100,
bN 102 .add 101 (cI 1),
uO 103 (.nilchk 98),
fA 104 4 none 103,
wO (.store none 104 102)] [0,1])
(.seq (rg [mV 105 1,
uO 106 (.nilchk 105),
fA 107 0 none 106,
wO (.store none 107 (cI 3))] [0,1])
(.seq (.seq (dr [dF (mV 108 1) [1],
dF (uO 109 (.nilchk 108)) [108],
dF (fA 110 4 none 109) [109],
dF (lD 111 none 110) [110],
dF (mV 112 0) [0],
dF (uO 113 (.nilchk 112)) [112],
dF (fA 114 0 (some 2) 113) [113],
dF (fA 115 1 none 114) [114],
dF (lD 116 none 115) [115],
dF (bN 117 .eql 111 116) [111,116]] [1,117])
(.cond 117 (rg [mV 118 1,
uO 119 (.nilchk 118),
fA 120 0 none 119,
wO (.store none 120 (cI 5))] [])
.skip))
pY)))
def z4i:Sf C gl qY e h x K:=⟨_,by simp only[qY,↓wZ,AO.still];rfl⟩
theorem zno:NW C gl qY ⟨e,h,x⟩ K=(z4i C gl e h x K).1:=(z4i ..).2
def z70:ACode:=(.seq (rg [uO 5 (.box 2),
mV 6 (cI 0)] [0,1,5])
(.seq (.block 0 (.seq (rg [mV 10 1,
uO 11 (.nilchk 10),
fA 12 0 none 11,
lD 13 none 12,
bN 14 .neq 13 (cI 2),
mV 9 14] [0,1,5,9])
(.cond 9 (.seq (rg [mV 6 (cI 11)] [6])
.ret)
(.seq (dr [dF (mV 16 1) [1],
dF (uO 17 (.nilchk 16)) [16],
dF (fA 18 3 none 17) [17],
dF (lD 19 none 18) [18],
dF (fA 20 0 none 5) [5],
dF (lD 21 none 20) [20],
dF (bN 22 .neq 19 21) [19,21],
dF (mV 15 22) [22]] [0,1,5,15])
(.cond 15 (.seq (rg [mV 6 (cI 13)] [6])
.ret)
.skip)))))
(.seq (rg [fA 23 3 none 5,
lD 24 none 23,
bN 25 .eql 24 (cI 3),
mV 7 25] [0,1,5,7])
(.seq (dr [dF (mV 26 0) [0],
dF (mV 27 0) [0],
dF (uO 28 (.nilchk 27)) [27],
dF (fA 29 4 none 28) [28],
dF (lD 30 none 29) [29],
dF (fA 31 4 none 5) [5],
dF (lD 32 none 31) [31],
dF (mV 33 1) [1],
dF (uO 34 (.nilchk 33)) [33],
dF (fA 35 2 none 34) [34],
dF (lD 36 none 35) [35],
dF (mV 37 1) [1],
dF (uO 38 (.nilchk 37)) [37],
dF (fA 39 1 none 38) [38],
dF (lD 40 none 39) [39],
dF (fA 41 2 none 5) [5],
dF (lD 42 none 41) [41],
dF (mV 43 7) [7],
dF (uO 44 (.build [.p (.str []),.p (.str []),.p (.int .i64 0),.p (.int .i64 0),.p (.bool false)] [(0,1,32),(1,1,36),(2,1,40),(3,1,42),(4,1,43)])) [32,36,40,42,43],
dF (uO 45 (.bsl false (some 5) 1 (.agg [.str [],.str [],.int .i64 0,.int .i64 0,.bool false]) [(0,44)])) [44],
dT (uO 46 (.app (some 5) 30 45)) [30,45],
dF (uO 47 (.nilchk 26)) [26],
dF (fA 48 4 none 47) [47],
dT (wO (.store none 48 46)) [48,46]] [0,1,5,7])
(.seq (rg [mV 49 0,
mV 50 1,
fA 51 2 none 5,
lD 52 none 51,
cL 53 yK [49,50,52]] [0,1,5,7])
(.seq (rg [mV 54 1,
fA 55 2 none 5,
lD 56 none 55,
uO 57 (.nilchk 54),
fA 58 1 none 57,
wO (.store none 58 56)] [0,1,7])
(.seq (.seq (rg [mV 59 7] [0,1,59])
(.cond 59 (.seq (rg [mV 60 1,
uO 61 (.nilchk 60),
fA 62 4 none 61,
wO (.store none 62 (cI 0))] [0,1])
(.seq (rg [mV 63 0,
mV 64 1,
uO 65 (.nilchk 64),
fA 66 2 none 65,
lD 67 none 66,
cL 68 vM [63,67],
bN 69 .add 68 (cI 1),
mV 8 69] [0,1,8])
(.seq (.seq (rg [mV 70 8,
mV 71 0,
uO 72 (.nilchk 71),
fA 73 0 (some 2) 72,
fA 74 0 none 73,
lD 75 none 74,
lN 76 75,
bN 77 .eql 70 76] [0,1,8,77])
(.cond 77 (rg [mV 78 1,
mV 79 1,
uO 80 (.nilchk 78),
fA 81 0 none 80,
wO (.store none 81 (cI 4)),
uO 82 (.nilchk 79),
fA 83 2 none 82,
wO (.store none 83 (cS []))] [])
(rg [mV 84 1,
mV 85 1,
mV 86 0,
uO 87 (.nilchk 86),
fA 88 0 (some 2) 87,
fA 89 0 none 88,
lD 90 none 89,
mV 91 8,
iA 92 none 90 91,
lD 93 none 92,
uO 94 (.nilchk 84),
fA 95 0 none 94,
wO (.store none 95 (cI 1)),
uO 96 (.nilchk 85),
fA 97 2 none 96,
wO (.store none 97 93)] [])))
oY)))
.skip))
qY)))))))
def ZS:AFun:=⟨3,[.t 6],z70,false,false⟩
def OH:Sf C gl z70 e h x K:=⟨_,by simp only[z70,↓wZ,AO.still];rfl⟩
theorem znl {C gl v0 v1 v2 h x K}:NW C gl ZS.body ⟨enter [v0,v1,v2],h,x⟩ K=(OH C gl [(0,v0),(1,v1),(2,v2)] h x K).1:=(OH C gl [(0,v0),(1,v1),(2,v2)] h x K).2
def rY:ACode:=.pr [0,1,2,11,12] (rg [bN 47 .add 12 (cI 1),
mV 12 47] [0,1,2,11,12])
def z4j:Sf C gl rY e h x K:=⟨_,by simp only[rY,↓wZ,AO.still];rfl⟩
theorem znq:NW C gl rY ⟨e,h,x⟩ K=(z4j C gl e h x K).1:=(z4j ..).2
def qO:ACode:=.pr [0,1,2,11,12] (.seq (rg [bN 13 .lss 12 11] [0,1,2,11,12,13])
(.seq (.cond 13 .skip
(.exit 0))
(.seq (.block 1 (.seq (rg [mV 14 12,
mV 6 14] [0,1,2,6,11,12])
(.seq (dr [dF (mV 15 0) [0],
dF (uO 16 (.nilchk 15)) [15],
dF (fA 17 5 none 16) [16],
dF (lD 18 none 17) [17],
dF (mV 19 6) [6],
dF (iA 20 (some 3) 18 19) [18,19],
dF (fA 21 0 none 20) [20],
dF (lD 22 none 21) [21],
dF (mV 23 1) [1],
dF (uO 24 (.nilchk 23)) [23],
dF (fA 25 3 none 24) [24],
dF (lD 26 none 25) [25],
dF (bN 27 .eql 22 26) [22,26],
dF (mV 28 27) [27],
dF (gD 29 28 true (.mv 0)) [0,28],
dF (gD 30 28 true (.nilchk 29)) [29,28],
dF (gD 31 28 true (.faddr 5 none 30)) [30,28],
dF (gD 32 28 true (.load none 31)) [31,28],
dF (gD 33 28 true (.mv 6)) [6,28],
dF (gD 34 28 true (.iaddr (some 3) 32 33)) [32,33,28],
dF (gD 35 28 true (.faddr 2 none 34)) [34,28],
dF (gD 36 28 true (.load none 35)) [35,28],
dF (gD 37 28 true (.bin .lss 36 (cI 0))) [36,28],
dF (uO 38 (.pick 28 37 cF)) [28,37]] [0,1,2,6,11,12,38])
(.cond 38 (rg [mV 39 0,
uO 40 (.nilchk 39),
fA 41 5 none 40,
lD 42 none 41,
mV 43 6,
mV 44 2,
iA 45 (some 3) 42 43,
fA 46 2 none 45,
wO (.store none 46 44)] [0,1,2,11,12])
.skip))))
rY)))
def z4k:Sf C gl qO e h x K:=⟨_,by simp only[qO,↓wZ,AO.still];rfl⟩
theorem znr:NW C gl qO ⟨e,h,x⟩ K=(z4k C gl e h x K).1:=(z4k ..).2
theorem zq6 {C gl e h x K}:NW C gl (.loop qO) ⟨e,h,x⟩ K=yA C gl qO K [(0,bA e 0),(1,bA e 1),(2,bA e 2),(11,bA e 11),(12,bA e 12)] h x:=mB
def sY:ACode:=.pr [0,1] (.seq (dr [dF (mV 48 0) [0],
dF (uO 49 (.nilchk 48)) [48],
dF (fA 50 3 none 49) [49],
dF (lD 51 none 50) [50],
dF (mV 52 1) [1],
dF (uO 53 (.nilchk 52)) [52],
dF (fA 54 3 none 53) [53],
dF (lD 55 none 54) [54],
dT (wO (.mdel (none,[2]) 51 55)) [51,55]] [1])
(rg [mV 56 1,
uO 57 (.nilchk 56),
fA 58 3 none 57,
wO (.store none 58 (cS []))] []))
def z4l:Sf C gl sY e h x K:=⟨_,by simp only[sY,↓wZ,AO.still];rfl⟩
theorem zns:NW C gl sY ⟨e,h,x⟩ K=(z4l C gl e h x K).1:=(z4l ..).2
def z71:ACode:=(.seq (.seq (rg [mV 7 0,
uO 8 (.nilchk 7),
fA 9 5 none 8,
lD 10 none 9,
lN 11 10,
mV 12 (cI 0)] [0,1,2,11,12])
(.block 0 (.loop qO)))
sY)
def aT:AFun:=⟨3,[],z71,false,false⟩
def nV:Sf C gl z71 e h x K:=⟨_,by simp only[z71,↓wZ,AO.still];rfl⟩
theorem znp {C gl v0 v1 v2 h x K}:NW C gl aT.body ⟨enter [v0,v1,v2],h,x⟩ K=(nV C gl [(0,v0),(1,v1),(2,v2)] h x K).1:=(nV C gl [(0,v0),(1,v1),(2,v2)] h x K).2
def z5K:ACode:=(.seq (rg [mV 2 cF] [0])
(.seq (rg [mV 3 0,
cL 4 dG [3,(cI 0),(cI 345686399999)],
uO 5 (.un .not 4),
mV 2 5] [2])
.ret))
def ES:AFun:=⟨1,[.t 2],z5K,false,false⟩
def OT:Sf C gl z5K e h x K:=⟨_,by simp only[z5K,↓wZ,AO.still];rfl⟩
theorem zje {C gl v0 h x K}:NW C gl ES.body ⟨enter [v0],h,x⟩ K=(OT C gl [(0,v0)] h x K).1:=(OT C gl [(0,v0)] h x K).2
def RX:ACode:=.pr [0,1,2,3,8,9,10,11] (.seq (.seq (dr [dF (mV 73 1) [1],
dF (bN 74 .gtr 73 (cI 0)) [73],
dF (mV 75 74) [74],
dF (gD 76 75 true (.mv 0)) [0,75],
dF (gD 77 75 true (.mv 1)) [1,75],
dF (gD 78 75 true (.bin .sub 77 (cI 1))) [77,75],
dF (gD 79 75 true (.iaddr none 76 78)) [76,78,75],
dF (gD 80 75 true (.load none 79)) [79,75],
dF (gD 81 75 true (.mv 0)) [0,75],
dF (gD 82 75 true (.mv 11)) [11,75],
dF (gD 83 75 true (.iaddr none 81 82)) [81,82,75],
dF (gD 84 75 true (.load none 83)) [83,75],
dT (gD 85 75 true (.call TH [80,84])) [80,84,75],
dF (gD 86 75 true (.un .not 85)) [85,75],
dF (uO 87 (.pick 75 86 cF)) [75,86]] [0,1,2,3,8,9,10,11,87])
(.cond 87 (.seq (rg [mV 88 0,
mV 89 1,
mV 90 2,
mV 91 11,
cL 92 zor [88,89,90,91],
mV 13 92] [0,2,3,8,9,13])
(.seq (rg [mV 93 13,
mV 1 93] [0,1,2,3,8,9])
(.exit 1)))
.skip))
(.seq (rg [mV 95 0,
mV 96 1,
mV 97 2,
mV 98 11,
cL 99 zos [95,96,97,98],
mV 94 99,
eX 100 94 0,
eX 101 94 1,
mV 14 100,
mV 15 101] [0,1,2,3,10,14,15])
(.seq (rg [mV 102 15,
mV 9 102] [0,1,2,3,9,10,14])
(.seq (rg [mV 103 14,
mV 104 1,
bN 105 .sub 103 104,
mV 106 2,
mV 107 14,
bN 108 .sub 106 107,
mV 16 105,
mV 17 108] [0,1,2,3,9,10,14,16,17])
(.seq (rg [mV 109 10,
bN 110 .quo 109 (cI 8),
mV 18 110] [0,1,2,3,9,14,16,17,18])
(.seq (rg [mV 111 16,
mV 112 17,
bN 113 .lss 111 112] [0,1,2,3,9,14,16,17,18,113])
(.cond 113 (.seq (rg [mV 114 16,
mV 115 18,
bN 116 .geq 114 115,
mV 8 116] [0,1,2,3,8,9,14])
(.seq (rg [mV 117 0,
mV 118 1,
mV 119 14,
mV 120 3,
cL 121 nK [117,118,119,120]] [0,2,3,8,9,14])
(rg [mV 122 14,
bN 123 .add 122 (cI 1),
mV 1 123] [0,1,2,3,8,9])))
(.seq (rg [mV 124 17,
mV 125 18,
bN 126 .geq 124 125,
mV 8 126] [0,1,2,3,8,9,14])
(.seq (rg [mV 127 0,
mV 128 14,
bN 129 .add 128 (cI 1),
mV 130 2,
mV 131 3,
cL 132 nK [127,129,130,131]] [0,1,3,8,9,14])
(rg [mV 133 14,
mV 2 133] [0,1,2,3,8,9]))))))))))
def z31:Sf C gl RX e h x K:=⟨_,by simp only[RX,↓wZ,AO.still];rfl⟩
theorem zmv:NW C gl RX ⟨e,h,x⟩ K=(z31 C gl e h x K).1:=(z31 ..).2
def SX:ACode:=.pr [0,1,2,3,8,9,10,11,12] (.seq (.seq (rg [mV 61 8,
mV 62 61,
gD 63 62 true (.mv 9),
uO 64 (.pick 62 63 cF),
mV 65 64,
gD 66 65 true (.mv 12),
gD 67 65 true (.bin .eql 66 (cI 1)),
uO 68 (.pick 65 67 cF)] [0,1,2,3,8,9,10,11,68])
(.cond 68 (.seq (rg [mV 69 0,
mV 70 1,
mV 71 2,
cL 72 zoo [69,70,71]] [0,1,2,3,8,9,10,11,72])
(.cond 72 .ret
.skip))
.skip))
RX)
def z34:Sf C gl SX e h x K:=⟨_,by simp only[SX,↓wZ,AO.still];rfl⟩
theorem zmw:NW C gl SX ⟨e,h,x⟩ K=(z34 C gl e h x K).1:=(z34 ..).2
def TX:ACode:=.pr [0,1,2,3,8,9,10] (.seq (rg [mV 43 0,
mV 44 1,
mV 45 2,
cL 46 zok [43,44,45],
mV 42 46,
eX 47 42 0,
eX 48 42 1,
mV 11 47,
mV 12 48] [0,1,2,3,8,9,10,11,12])
(.seq (.seq (rg [mV 49 12,
bN 50 .eql 49 (cI 2)] [0,1,2,3,8,9,10,11,12,50])
(.cond 50 (.seq (rg [mV 51 0,
mV 52 1,
mV 53 2,
cL 54 zou [51,52,53]] [0,1,2,3,8,9,10,11])
(.seq (rg [mV 55 2,
bN 56 .sub 55 (cI 1),
mV 57 11,
mV 58 1,
bN 59 .sub 57 58,
bN 60 .sub 56 59,
mV 11 60] [0,1,2,3,8,9,10,11])
(rg [mV 12 (cI 1)] [0,1,2,3,8,9,10,11,12])))
.skip))
SX))
def z37:Sf C gl TX e h x K:=⟨_,by simp only[TX,↓wZ,AO.still];rfl⟩
theorem zmx:NW C gl TX ⟨e,h,x⟩ K=(z37 C gl e h x K).1:=(z37 ..).2
def YN:ACode:=.pr [0,1,2,3,8,9] (.block 1 (.seq (rg [mV 19 2,
mV 20 1,
bN 21 .sub 19 20,
mV 10 21] [0,1,2,3,8,9,10])
(.seq (.seq (rg [mV 22 10,
bN 23 .leq 22 (cI 12)] [0,1,2,3,8,9,10,23])
(.cond 23 (.seq (rg [mV 24 0,
mV 25 1,
mV 26 2,
cL 27 AQ [24,25,26]] [])
.ret)
.skip))
(.seq (.seq (rg [mV 28 3,
bN 29 .eql 28 (cI 0)] [0,1,2,3,8,9,10,29])
(.cond 29 (.seq (rg [mV 30 0,
mV 31 1,
mV 32 2,
cL 33 zom [30,31,32]] [])
.ret)
.skip))
(.seq (.seq (rg [mV 34 8,
uO 35 (.un .not 34)] [0,1,2,3,8,9,10,35])
(.cond 35 (.seq (rg [mV 36 0,
mV 37 1,
mV 38 2,
cL 39 zoi [36,37,38]] [0,1,2,3,8,9,10])
(rg [mV 40 3,
bN 41 .sub 40 (cI 1),
mV 3 41] [0,1,2,3,8,9,10]))
.skip))
TX)))))
def z38:Sf C gl YN e h x K:=⟨_,by simp only[YN,↓wZ,AO.still];rfl⟩
theorem zmy:NW C gl YN ⟨e,h,x⟩ K=(z38 C gl e h x K).1:=(z38 ..).2
theorem zqr {C gl e h x K}:NW C gl (.loop YN) ⟨e,h,x⟩ K=yA C gl YN K [(0,bA e 0),(1,bA e 1),(2,bA e 2),(3,bA e 3),(8,bA e 8),(9,bA e 9)] h x:=mB
def z7k:ACode:=(.seq (rg [mV 8 cT] [0,1,2,3,8])
(.seq (rg [mV 9 cT] [0,1,2,3,8,9])
(.block 0 (.loop YN))))
def z0Y:AFun:=⟨4,[],z7k,true,false⟩
def dV:Sf C gl z7k e h x K:=⟨_,by simp only[z7k,↓wZ,AO.still];rfl⟩
theorem zmu {C gl v0 v1 v2 v3 h x K}:NW C gl z0Y.body ⟨enter [v0,v1,v2,v3],h,x⟩ K=(dV C gl [(0,v0),(1,v1),(2,v2),(3,v3)] h x K).1:=(dV C gl [(0,v0),(1,v1),(2,v2),(3,v3)] h x K).2
def z5X:ACode:=(.seq (rg [mV 2 (cI 0)] [0])
(.seq (.cond cF (.seq (rg [mV 3 0,
uO 4 (.conv (.i .u32) 3),
cL 5 zog [4],
mV 2 5] [2])
.ret)
.skip)
(.seq (rg [mV 6 0,
cL 7 gQ [6],
mV 2 7] [2])
.ret)))
def TZ:AFun:=⟨1,[.t 2],z5X,false,false⟩
def aU:Sf C gl z5X e h x K:=⟨_,by simp only[z5X,↓wZ,AO.still];rfl⟩
theorem zj4 {C gl v0 h x K}:NW C gl TZ.body ⟨enter [v0],h,x⟩ K=(aU C gl [(0,v0)] h x K).1:=(aU C gl [(0,v0)] h x K).2
def OX:ACode:=.pr [0,1,2,3,4,10,11,12,13] (.seq (.seq (dr [dF (mV 81 1) [1],
dF (bN 82 .gtr 81 (cI 0)) [81],
dF (mV 83 82) [82],
dF (gD 84 83 true (.mv 4)) [4,83],
dF (gD 85 83 true (.mv 0)) [0,83],
dF (gD 86 83 true (.mv 1)) [1,83],
dF (gD 87 83 true (.bin .sub 86 (cI 1))) [86,83],
dF (gD 88 83 true (.iaddr none 85 87)) [85,87,83],
dF (gD 89 83 true (.load none 88)) [88,83],
dF (gD 90 83 true (.mv 0)) [0,83],
dF (gD 91 83 true (.mv 13)) [13,83],
dF (gD 92 83 true (.iaddr none 90 91)) [90,91,83],
dF (gD 93 83 true (.load none 92)) [92,83],
dT (gD 94 83 true (.callv 84 [89,93])) [84,89,93,83],
dF (gD 95 83 true (.bin .lss 94 (cI 0))) [94,83],
dF (gD 96 83 true (.un .not 95)) [95,83],
dF (uO 97 (.pick 83 96 cF)) [83,96]] [0,1,2,3,4,10,11,12,13,97])
(.cond 97 (.seq (rg [mV 98 0,
mV 99 1,
mV 100 2,
mV 101 13,
mV 102 4,
cL 103 zoq [98,99,100,101,102],
mV 15 103] [0,2,3,4,10,11,15])
(.seq (rg [mV 104 15,
mV 1 104] [0,1,2,3,4,10,11])
(.exit 1)))
.skip))
(.seq (rg [mV 106 0,
mV 107 1,
mV 108 2,
mV 109 13,
mV 110 4,
cL 111 zop [106,107,108,109,110],
mV 105 111,
eX 112 105 0,
eX 113 105 1,
mV 16 112,
mV 17 113] [0,1,2,3,4,12,16,17])
(.seq (rg [mV 114 17,
mV 11 114] [0,1,2,3,4,11,12,16])
(.seq (rg [mV 115 16,
mV 116 1,
bN 117 .sub 115 116,
mV 118 2,
mV 119 16,
bN 120 .sub 118 119,
mV 18 117,
mV 19 120] [0,1,2,3,4,11,12,16,18,19])
(.seq (rg [mV 121 12,
bN 122 .quo 121 (cI 8),
mV 20 122] [0,1,2,3,4,11,16,18,19,20])
(.seq (rg [mV 123 18,
mV 124 19,
bN 125 .lss 123 124] [0,1,2,3,4,11,16,18,19,20,125])
(.cond 125 (.seq (rg [mV 126 18,
mV 127 20,
bN 128 .geq 126 127,
mV 10 128] [0,1,2,3,4,10,11,16])
(.seq (rg [mV 129 0,
mV 130 1,
mV 131 16,
mV 132 3,
mV 133 4,
cL 134 mK [129,130,131,132,133]] [0,2,3,4,10,11,16])
(rg [mV 135 16,
bN 136 .add 135 (cI 1),
mV 1 136] [0,1,2,3,4,10,11])))
(.seq (rg [mV 137 19,
mV 138 20,
bN 139 .geq 137 138,
mV 10 139] [0,1,2,3,4,10,11,16])
(.seq (rg [mV 140 0,
mV 141 16,
bN 142 .add 141 (cI 1),
mV 143 2,
mV 144 3,
mV 145 4,
cL 146 mK [140,142,143,144,145]] [0,1,3,4,10,11,16])
(rg [mV 147 16,
mV 2 147] [0,1,2,3,4,10,11]))))))))))
def z3x:Sf C gl OX e h x K:=⟨_,by simp only[OX,↓wZ,AO.still];rfl⟩
theorem zmq:NW C gl OX ⟨e,h,x⟩ K=(z3x C gl e h x K).1:=(z3x ..).2
def PX:ACode:=.pr [0,1,2,3,4,10,11,12,13,14] (.seq (.seq (rg [mV 68 10,
mV 69 68,
gD 70 69 true (.mv 11),
uO 71 (.pick 69 70 cF),
mV 72 71,
gD 73 72 true (.mv 14),
gD 74 72 true (.bin .eql 73 (cI 1)),
uO 75 (.pick 72 74 cF)] [0,1,2,3,4,10,11,12,13,75])
(.cond 75 (.seq (rg [mV 76 0,
mV 77 1,
mV 78 2,
mV 79 4,
cL 80 zon [76,77,78,79]] [0,1,2,3,4,10,11,12,13,80])
(.cond 80 .ret
.skip))
.skip))
OX)
def z3y:Sf C gl PX e h x K:=⟨_,by simp only[PX,↓wZ,AO.still];rfl⟩
theorem zmr:NW C gl PX ⟨e,h,x⟩ K=(z3y C gl e h x K).1:=(z3y ..).2
def QX:ACode:=.pr [0,1,2,3,4,10,11,12] (.seq (rg [mV 48 0,
mV 49 1,
mV 50 2,
mV 51 4,
cL 52 zoj [48,49,50,51],
mV 47 52,
eX 53 47 0,
eX 54 47 1,
mV 13 53,
mV 14 54] [0,1,2,3,4,10,11,12,13,14])
(.seq (.seq (rg [mV 55 14,
bN 56 .eql 55 (cI 2)] [0,1,2,3,4,10,11,12,13,14,56])
(.cond 56 (.seq (rg [mV 57 0,
mV 58 1,
mV 59 2,
mV 60 4,
cL 61 zot [57,58,59,60]] [0,1,2,3,4,10,11,12,13])
(.seq (rg [mV 62 2,
bN 63 .sub 62 (cI 1),
mV 64 13,
mV 65 1,
bN 66 .sub 64 65,
bN 67 .sub 63 66,
mV 13 67] [0,1,2,3,4,10,11,12,13])
(rg [mV 14 (cI 1)] [0,1,2,3,4,10,11,12,13,14])))
.skip))
PX))
def z3z:Sf C gl QX e h x K:=⟨_,by simp only[QX,↓wZ,AO.still];rfl⟩
theorem zms:NW C gl QX ⟨e,h,x⟩ K=(z3z C gl e h x K).1:=(z3z ..).2
def XN:ACode:=.pr [0,1,2,3,4,10,11] (.block 1 (.seq (rg [mV 21 2,
mV 22 1,
bN 23 .sub 21 22,
mV 12 23] [0,1,2,3,4,10,11,12])
(.seq (.seq (rg [mV 24 12,
bN 25 .leq 24 (cI 12)] [0,1,2,3,4,10,11,12,25])
(.cond 25 (.seq (rg [mV 26 0,
mV 27 1,
mV 28 2,
mV 29 4,
cL 30 lK [26,27,28,29]] [])
.ret)
.skip))
(.seq (.seq (rg [mV 31 3,
bN 32 .eql 31 (cI 0)] [0,1,2,3,4,10,11,12,32])
(.cond 32 (.seq (rg [mV 33 0,
mV 34 1,
mV 35 2,
mV 36 4,
cL 37 zol [33,34,35,36]] [])
.ret)
.skip))
(.seq (.seq (rg [mV 38 10,
uO 39 (.un .not 38)] [0,1,2,3,4,10,11,12,39])
(.cond 39 (.seq (rg [mV 40 0,
mV 41 1,
mV 42 2,
mV 43 4,
cL 44 zoh [40,41,42,43]] [0,1,2,3,4,10,11,12])
(rg [mV 45 3,
bN 46 .sub 45 (cI 1),
mV 3 46] [0,1,2,3,4,10,11,12]))
.skip))
QX)))))
def z30:Sf C gl XN e h x K:=⟨_,by simp only[XN,↓wZ,AO.still];rfl⟩
theorem zmt:NW C gl XN ⟨e,h,x⟩ K=(z30 C gl e h x K).1:=(z30 ..).2
theorem zqq {C gl e h x K}:NW C gl (.loop XN) ⟨e,h,x⟩ K=yA C gl XN K [(0,bA e 0),(1,bA e 1),(2,bA e 2),(3,bA e 3),(4,bA e 4),(10,bA e 10),(11,bA e 11)] h x:=mB
def z7j:ACode:=(.seq (rg [mV 10 cT] [0,1,2,3,4,10])
(.seq (rg [mV 11 cT] [0,1,2,3,4,10,11])
(.block 0 (.loop XN))))
def z0X:AFun:=⟨5,[],z7j,true,false⟩
def cV:Sf C gl z7j e h x K:=⟨_,by simp only[z7j,↓wZ,AO.still];rfl⟩
theorem zmp {C gl v0 v1 v2 v3 v4 h x K}:NW C gl z0X.body ⟨enter [v0,v1,v2,v3,v4],h,x⟩ K=(cV C gl [(0,v0),(1,v1),(2,v2),(3,v3),(4,v4)] h x K).1:=(cV C gl [(0,v0),(1,v1),(2,v2),(3,v3),(4,v4)] h x K).2
def z5S:ACode:=(.seq (rg [mV 2 cF] [0])
(.seq (rg [mV 3 0,
mV 4 0,
bN 5 .neq 3 4,
mV 2 5] [2])
.ret))
def LS:AFun:=⟨1,[.t 2],z5S,false,false⟩
def VT:Sf C gl z5S e h x K:=⟨_,by simp only[z5S,↓wZ,AO.still];rfl⟩
theorem zjz {C gl v0 h x K}:NW C gl LS.body ⟨enter [v0],h,x⟩ K=(VT C gl [(0,v0)] h x K).1:=(VT C gl [(0,v0)] h x K).2
def NN:ACode:=.pr [0,1,7,8] (.seq (rg [bN 9 .lss 8 7] [0,1,7,8,9])
(.seq (.cond 9 .skip
(.exit 0))
(.seq (.block 1 (.seq (rg [mV 10 8,
mV 5 10] [0,1,5,7,8])
(.seq (rg [mV 11 1,
mV 12 0,
mV 13 5,
iA 14 (some 8) 12 13,
lD 15 (some 8) 14,
uO 16 (.callv 11 [15])] [0,1,5,7,8,16])
(.cond 16 (.seq (rg [mV 17 5,
mV 4 17] [4])
.ret)
.skip))))
(rg [bN 18 .add 8 (cI 1),
mV 8 18] [0,1,7,8]))))
def z3i:Sf C gl NN e h x K:=⟨_,by simp only[NN,↓wZ,AO.still];rfl⟩
theorem zlR:NW C gl NN ⟨e,h,x⟩ K=(z3i C gl e h x K).1:=(z3i ..).2
theorem zqh {C gl e h x K}:NW C gl (.loop NN) ⟨e,h,x⟩ K=yA C gl NN K [(0,bA e 0),(1,bA e 1),(7,bA e 7),(8,bA e 8)] h x:=mB
def GX:ACode:=.pr [] (.seq (rg [mV 4 (cI (-1))] [4])
.ret)
def z3j:Sf C gl GX e h x K:=⟨_,by simp only[GX,↓wZ,AO.still];rfl⟩
theorem zlS:NW C gl GX ⟨e,h,x⟩ K=(z3j C gl e h x K).1:=(z3j ..).2
def z6Z:ACode:=(.seq (rg [mV 4 (cI 0)] [0,1])
(.seq (.seq (rg [mV 6 0,
lN 7 6,
mV 8 (cI 0)] [0,1,7,8])
(.block 0 (.loop NN)))
GX))
def z0O:AFun:=⟨2,[.t 4],z6Z,true,false⟩
def TU:Sf C gl z6Z e h x K:=⟨_,by simp only[z6Z,↓wZ,AO.still];rfl⟩
theorem zlQ {C gl v0 v1 h x K}:NW C gl z0O.body ⟨enter [v0,v1],h,x⟩ K=(TU C gl [(0,v0),(1,v1)] h x K).1:=(TU C gl [(0,v0),(1,v1)] h x K).2
def z7D:ACode:=(.seq (rg [mV 4 (cI 0)] [0,1])
(.seq (rg [mV 5 0,
mV 6 1,
cL 7 eQ [5,6],
mV 4 7] [4])
.ret))
def z1l:AFun:=⟨2,[.t 4],z7D,false,false⟩
def vV:Sf C gl z7D e h x K:=⟨_,by simp only[z7D,↓wZ,AO.still];rfl⟩
theorem znK {C gl v0 v1 h x K}:NW C gl z1l.body ⟨enter [v0,v1],h,x⟩ K=(vV C gl [(0,v0),(1,v1)] h x K).1:=(vV C gl [(0,v0),(1,v1)] h x K).2
def wN:ACode:=.pr [0,1] (.seq (.seq (rg [mV 5 1,
bN 6 .neq 5 (cI 0)] [0,1,6])
(.cond 6 .skip
(.exit 0)))
(.block 1 (dr [dF (mV 7 1) [1],
dF (mV 8 0) [0],
dF (mV 9 1) [1],
dF (bN 10 .rem 8 9) [8,9],
dF (mV 0 7) [7],
dF (mV 1 10) [10]] [0,1])))
def z2u:Sf C gl wN e h x K:=⟨_,by simp only[wN,↓wZ,AO.still];rfl⟩
theorem zkJ:NW C gl wN ⟨e,h,x⟩ K=(z2u C gl e h x K).1:=(z2u ..).2
theorem zpL {C gl e h x K}:NW C gl (.loop wN) ⟨e,h,x⟩ K=yA C gl wN K [(0,bA e 0),(1,bA e 1)] h x:=mB
def kX:ACode:=.pr [0] (.seq (rg [mV 11 0,
mV 12 0,
uO 13 (.un .neg 12),
uO 14 (.mx [11,13]),
mV 4 14] [4])
.ret)
def z2v:Sf C gl kX e h x K:=⟨_,by simp only[kX,↓wZ,AO.still];rfl⟩
theorem zkK:NW C gl kX ⟨e,h,x⟩ K=(z2v C gl e h x K).1:=(z2v ..).2
def z69:ACode:=(.seq (rg [mV 4 (cI 0)] [0,1])
(.seq (.block 0 (.loop wN))
kX))
def z06:AFun:=⟨2,[.t 4],z69,false,false⟩
def DU:Sf C gl z69 e h x K:=⟨_,by simp only[z69,↓wZ,AO.still];rfl⟩
theorem zkI {C gl v0 v1 h x K}:NW C gl z06.body ⟨enter [v0,v1],h,x⟩ K=(DU C gl [(0,v0),(1,v1)] h x K).1:=(DU C gl [(0,v0),(1,v1)] h x K).2
def ON:ACode:=.pr [0,1,7,8] (.seq (rg [bN 9 .lss 8 7] [0,1,7,8,9])
(.seq (.cond 9 .skip
(.exit 0))
(.seq (.block 1 (.seq (rg [mV 10 8,
mV 5 10] [0,1,5,7,8])
(.seq (rg [mV 11 1,
mV 12 0,
mV 13 5,
iA 14 none 12 13,
lD 15 none 14,
uO 16 (.callv 11 [15])] [0,1,5,7,8,16])
(.cond 16 (.seq (rg [mV 17 5,
mV 4 17] [4])
.ret)
.skip))))
(rg [bN 18 .add 8 (cI 1),
mV 8 18] [0,1,7,8]))))
def z3k:Sf C gl ON e h x K:=⟨_,by simp only[ON,↓wZ,AO.still];rfl⟩
theorem zlU:NW C gl ON ⟨e,h,x⟩ K=(z3k C gl e h x K).1:=(z3k ..).2
theorem zqi {C gl e h x K}:NW C gl (.loop ON) ⟨e,h,x⟩ K=yA C gl ON K [(0,bA e 0),(1,bA e 1),(7,bA e 7),(8,bA e 8)] h x:=mB
def IX:ACode:=.pr [] (.seq (rg [mV 4 (cI (-1))] [4])
.ret)
def z3l:Sf C gl IX e h x K:=⟨_,by simp only[IX,↓wZ,AO.still];rfl⟩
theorem zlV:NW C gl IX ⟨e,h,x⟩ K=(z3l C gl e h x K).1:=(z3l ..).2
def z7a:ACode:=(.seq (rg [mV 4 (cI 0)] [0,1])
(.seq (.seq (rg [mV 6 0,
lN 7 6,
mV 8 (cI 0)] [0,1,7,8])
(.block 0 (.loop ON)))
IX))
def z0P:AFun:=⟨2,[.t 4],z7a,true,false⟩
def UU:Sf C gl z7a e h x K:=⟨_,by simp only[z7a,↓wZ,AO.still];rfl⟩
theorem zlT {C gl v0 v1 h x K}:NW C gl z0P.body ⟨enter [v0,v1],h,x⟩ K=(UU C gl [(0,v0),(1,v1)] h x K).1:=(UU C gl [(0,v0),(1,v1)] h x K).2
def cO:ACode:=.pr [0,1,2,6,7,8] (.seq (.seq (rg [mV 11 8,
mV 12 1,
bN 13 .leq 11 12] [0,1,2,6,7,8,13])
(.cond 13 .skip
(.exit 0)))
(.block 1 (.seq (rg [mV 14 0,
mV 15 7,
mV 16 8,
mV 17 2,
cL 18 lK [14,15,16,17]] [0,1,2,6,8])
(.seq (rg [mV 19 8,
mV 7 19] [0,1,2,6,7,8])
(rg [mV 20 8,
mV 21 6,
bN 22 .add 20 21,
mV 8 22] [0,1,2,6,7,8])))))
def z3F:Sf C gl cO e h x K:=⟨_,by simp only[cO,↓wZ,AO.still];rfl⟩
theorem zm7:NW C gl cO ⟨e,h,x⟩ K=(z3F C gl e h x K).1:=(z3F ..).2
theorem zqv {C gl e h x K}:NW C gl (.loop cO) ⟨e,h,x⟩ K=yA C gl cO K [(0,bA e 0),(1,bA e 1),(2,bA e 2),(6,bA e 6),(7,bA e 7),(8,bA e 8)] h x:=mB
def dO:ACode:=.pr [0,1,2,6,7,8] (.seq (.seq (rg [mV 33 8,
mV 34 1,
bN 35 .leq 33 34] [0,1,2,6,7,8,35])
(.cond 35 .skip
(.exit 4)))
(.block 5 (.seq (rg [mV 36 0,
mV 37 7,
mV 38 7,
mV 39 6,
bN 40 .add 38 39,
mV 41 8,
mV 42 2,
cL 43 zaZ [36,37,40,41,42]] [0,1,2,6,8])
(.seq (rg [mV 44 8,
mV 7 44] [0,1,2,6,7,8])
(rg [mV 45 8,
mV 46 6,
bN 47 .mul (cI 2) 46,
bN 48 .add 45 47,
mV 8 48] [0,1,2,6,7,8])))))
def z3G:Sf C gl dO e h x K:=⟨_,by simp only[dO,↓wZ,AO.still];rfl⟩
theorem zm8:NW C gl dO ⟨e,h,x⟩ K=(z3G C gl e h x K).1:=(z3G ..).2
theorem zqw {C gl e h x K}:NW C gl (.loop dO) ⟨e,h,x⟩ K=yA C gl dO K [(0,bA e 0),(1,bA e 1),(2,bA e 2),(6,bA e 6),(7,bA e 7),(8,bA e 8)] h x:=mB
def XX:ACode:=.pr [0,1,2,6] (rg [mV 61 6,
bN 62 .mul 61 (cI 2),
mV 6 62] [0,1,2,6])
def z3H:Sf C gl XX e h x K:=⟨_,by simp only[XX,↓wZ,AO.still];rfl⟩
theorem zm9:NW C gl XX ⟨e,h,x⟩ K=(z3H C gl e h x K).1:=(z3H ..).2
def YX:ACode:=.pr [0,1,2,6,7] (.seq (.seq (rg [mV 49 7,
mV 50 6,
bN 51 .add 49 50,
mV 9 51] [0,1,2,6,7,9])
(.seq (rg [mV 52 9,
mV 53 1,
bN 54 .lss 52 53] [0,1,2,6,7,9,54])
(.cond 54 (rg [mV 55 0,
mV 56 7,
mV 57 9,
mV 58 1,
mV 59 2,
cL 60 zaZ [55,56,57,58,59]] [0,1,2,6])
.skip)))
XX)
def z3I:Sf C gl YX e h x K:=⟨_,by simp only[YX,↓wZ,AO.still];rfl⟩
theorem zmA:NW C gl YX ⟨e,h,x⟩ K=(z3I C gl e h x K).1:=(z3I ..).2
def eO:ACode:=.pr [0,1,2,6] (.seq (.seq (rg [mV 28 6,
mV 29 1,
bN 30 .lss 28 29] [0,1,2,6,30])
(.cond 30 .skip
(.exit 2)))
(.block 3 (.seq (rg [mV 31 6,
bN 32 .mul (cI 2) 31,
mV 7 (cI 0),
mV 8 32] [0,1,2,6,7,8])
(.seq (.block 4 (.loop dO))
YX))))
def z3J:Sf C gl eO e h x K:=⟨_,by simp only[eO,↓wZ,AO.still];rfl⟩
theorem zmB:NW C gl eO ⟨e,h,x⟩ K=(z3J C gl e h x K).1:=(z3J ..).2
theorem zqx {C gl e h x K}:NW C gl (.loop eO) ⟨e,h,x⟩ K=yA C gl eO K [(0,bA e 0),(1,bA e 1),(2,bA e 2),(6,bA e 6)] h x:=mB
def ZX:ACode:=.pr [0,1,2,6,7] (.seq (rg [mV 23 0,
mV 24 7,
mV 25 1,
mV 26 2,
cL 27 lK [23,24,25,26]] [0,1,2,6])
(.block 2 (.loop eO)))
def z3K:Sf C gl ZX e h x K:=⟨_,by simp only[ZX,↓wZ,AO.still];rfl⟩
theorem zmC:NW C gl ZX ⟨e,h,x⟩ K=(z3K C gl e h x K).1:=(z3K ..).2
def z7m:ACode:=(.seq (rg [mV 6 (cI 20)] [0,1,2,6])
(.seq (rg [mV 10 6,
mV 7 (cI 0),
mV 8 10] [0,1,2,6,7,8])
(.seq (.block 0 (.loop cO))
ZX)))
def z1a:AFun:=⟨3,[],z7m,true,false⟩
def fV:Sf C gl z7m e h x K:=⟨_,by simp only[z7m,↓wZ,AO.still];rfl⟩
theorem zm6 {C gl v0 v1 v2 h x K}:NW C gl z1a.body ⟨enter [v0,v1,v2],h,x⟩ K=(fV C gl [(0,v0),(1,v1),(2,v2)] h x K).1:=(fV C gl [(0,v0),(1,v1),(2,v2)] h x K).2
def z7z:ACode:=(.seq (rg [mV 4 (cI 0)] [0,1])
(.seq (rg [mV 5 0,
uO 6 (.nilchk 5),
fA 7 0 (some 2) 6,
fA 8 0 none 7,
lD 9 none 8,
mV 10 1,
cL 11 WI [9,10],
mV 4 11] [4])
.ret))
def YS:AFun:=⟨2,[.t 4],z7z,false,false⟩
def lV:Sf C gl z7z e h x K:=⟨_,by simp only[z7z,↓wZ,AO.still];rfl⟩
theorem znk {C gl v0 v1 h x K}:NW C gl YS.body ⟨enter [v0,v1],h,x⟩ K=(lV C gl [(0,v0),(1,v1)] h x K).1:=(lV C gl [(0,v0),(1,v1)] h x K).2
def VN:ACode:=.pr [0,1,2,6,7] (.seq (.seq (dr [dF (mV 16 7) [7],
dF (mV 17 1) [1],
dF (bN 18 .gtr 16 17) [16,17],
dF (mV 19 18) [18],
dF (gD 20 19 true (.mv 0)) [0,19],
dF (gD 21 19 true (.mv 7)) [7,19],
dF (gD 22 19 true (.iaddr none 20 21)) [20,21,19],
dF (gD 23 19 true (.load none 22)) [22,19],
dF (gD 24 19 true (.mv 0)) [0,19],
dF (gD 25 19 true (.mv 7)) [7,19],
dF (gD 26 19 true (.bin .sub 25 (cI 1))) [25,19],
dF (gD 27 19 true (.iaddr none 24 26)) [24,26,19],
dF (gD 28 19 true (.load none 27)) [27,19],
dT (gD 29 19 true (.call TH [23,28])) [23,28,19],
dF (uO 30 (.pick 19 29 cF)) [19,29]] [0,1,2,6,7,30])
(.cond 30 .skip
(.exit 2)))
(.seq (.block 3 (dr [dF (mV 33 0) [0],
dF (mV 34 7) [7],
dF (mV 35 0) [0],
dF (mV 36 7) [7],
dF (bN 37 .sub 36 (cI 1)) [36],
dF (mV 38 0) [0],
dF (mV 39 7) [7],
dF (bN 40 .sub 39 (cI 1)) [39],
dF (iA 41 none 38 40) [38,40],
dF (lD 42 none 41) [41],
dF (mV 43 0) [0],
dF (mV 44 7) [7],
dF (iA 45 none 43 44) [43,44],
dF (lD 46 none 45) [45],
dF (iA 47 none 33 34) [33,34],
dT (wO (.store none 47 42)) [47,42],
dF (iA 48 none 35 37) [35,37],
dT (wO (.store none 48 46)) [48,46]] [0,1,2,6,7]))
(rg [mV 31 7,
bN 32 .sub 31 (cI 1),
mV 7 32] [0,1,2,6,7])))
def z3u:Sf C gl VN e h x K:=⟨_,by simp only[VN,↓wZ,AO.still];rfl⟩
theorem zmm:NW C gl VN ⟨e,h,x⟩ K=(z3u C gl e h x K).1:=(z3u ..).2
theorem zqo {C gl e h x K}:NW C gl (.loop VN) ⟨e,h,x⟩ K=yA C gl VN K [(0,bA e 0),(1,bA e 1),(2,bA e 2),(6,bA e 6),(7,bA e 7)] h x:=mB
def MX:ACode:=.pr [0,1,2,6] (rg [mV 13 6,
bN 14 .add 13 (cI 1),
mV 6 14] [0,1,2,6])
def z3v:Sf C gl MX e h x K:=⟨_,by simp only[MX,↓wZ,AO.still];rfl⟩
theorem zmn:NW C gl MX ⟨e,h,x⟩ K=(z3v C gl e h x K).1:=(z3v ..).2
def WN:ACode:=.pr [0,1,2,6] (.seq (.seq (rg [mV 10 6,
mV 11 2,
bN 12 .lss 10 11] [0,1,2,6,12])
(.cond 12 .skip
(.exit 0)))
(.seq (.block 1 (.seq (rg [mV 15 6,
mV 7 15] [0,1,2,6,7])
(.block 2 (.loop VN))))
MX))
def z3w:Sf C gl WN e h x K:=⟨_,by simp only[WN,↓wZ,AO.still];rfl⟩
theorem zmo:NW C gl WN ⟨e,h,x⟩ K=(z3w C gl e h x K).1:=(z3w ..).2
theorem zqp {C gl e h x K}:NW C gl (.loop WN) ⟨e,h,x⟩ K=yA C gl WN K [(0,bA e 0),(1,bA e 1),(2,bA e 2),(6,bA e 6)] h x:=mB
def z7i:ACode:=(.seq (rg [mV 8 1,
bN 9 .add 8 (cI 1),
mV 6 9] [0,1,2,6])
(.block 0 (.loop WN)))
def z0W:AFun:=⟨3,[],z7i,true,false⟩
def bV:Sf C gl z7i e h x K:=⟨_,by simp only[z7i,↓wZ,AO.still];rfl⟩
theorem zml {C gl v0 v1 v2 h x K}:NW C gl z0W.body ⟨enter [v0,v1,v2],h,x⟩ K=(bV C gl [(0,v0),(1,v1),(2,v2)] h x K).1:=(bV C gl [(0,v0),(1,v1),(2,v2)] h x K).2
def z5Q:ACode:=(.seq (rg [mV 4 cF] [0,1])
(.seq (rg [mV 5 0,
cL 6 TL [5],
mV 7 6,
gD 8 7 true (.mv 1),
gD 9 7 true (.call TL [8]),
gD 10 7 true (.un .not 9),
uO 11 (.pick 7 10 cF),
mV 12 11,
gD 13 12 false (.mv 0),
gD 14 12 false (.mv 1),
gD 15 12 false (.bin .lss 13 14),
uO 16 (.pick 12 cT 15),
mV 4 16] [4])
.ret))
def PZ:AFun:=⟨2,[.t 4],z5Q,false,false⟩
def TT:Sf C gl z5Q e h x K:=⟨_,by simp only[z5Q,↓wZ,AO.still];rfl⟩
theorem zjv {C gl v0 v1 h x K}:NW C gl PZ.body ⟨enter [v0,v1],h,x⟩ K=(TT C gl [(0,v0),(1,v1)] h x K).1:=(TT C gl [(0,v0),(1,v1)] h x K).2
def EW:ACode:=.pr [0,2] (.seq (rg [mV 19 2,
mV 20 0,
uO 21 (.conv (.i .u8) 20),
uO 22 (.idxs (cS [0,1,2,2,3,3,3,3,4,4,4,4,4,4,4,4,5,5,5,5,5,5,5,5,5,5,5,5,5,5,5,5,6,6,6,6,6,6,6,6,6,6,6,6,6,6,6,6,6,6,6,6,6,6,6,6,6,6,6,6,6,6,6,6,7,7,7,7,7,7,7,7,7,7,7,7,7,7,7,7,7,7,7,7,7,7,7,7,7,7,7,7,7,7,7,7,7,7,7,7,7,7,7,7,7,7,7,7,7,7,7,7,7,7,7,7,7,7,7,7,7,7,7,7,7,7,7,7,8,8,8,8,8,8,8,8,8,8,8,8,8,8,8,8,8,8,8,8,8,8,8,8,8,8,8,8,8,8,8,8,8,8,8,8,8,8,8,8,8,8,8,8,8,8,8,8,8,8,8,8,8,8,8,8,8,8,8,8,8,8,8,8,8,8,8,8,8,8,8,8,8,8,8,8,8,8,8,8,8,8,8,8,8,8,8,8,8,8,8,8,8,8,8,8,8,8,8,8,8,8,8,8,8,8,8,8,8,8,8,8,8,8,8,8,8,8,8,8,8,8,8,8,8,8,8,8]) 21),
uO 23 (.conv (.i .i64) 22),
bN 24 .add 19 23,
mV 2 24] [2])
.ret)
def z1M:Sf C gl EW e h x K:=⟨_,by simp only[EW,↓wZ,AO.still];rfl⟩
theorem zj6:NW C gl EW ⟨e,h,x⟩ K=(z1M C gl e h x K).1:=(z1M ..).2
def FW:ACode:=.pr [0,2] (.seq (.seq (rg [mV 13 0,
bN 14 .geq 13 (.c (.p (.int .u64 256)))] [0,2,14])
(.cond 14 (.seq (rg [mV 15 0,
bN 16 .shr 15 (.c (.p (.int .u64 8))),
mV 0 16] [0,2])
(rg [mV 17 2,
bN 18 .add 17 (cI 8),
mV 2 18] [0,2]))
.skip))
EW)
def z1N:Sf C gl FW e h x K:=⟨_,by simp only[FW,↓wZ,AO.still];rfl⟩
theorem zj7:NW C gl FW ⟨e,h,x⟩ K=(z1N C gl e h x K).1:=(z1N ..).2
def GW:ACode:=.pr [0,2] (.seq (.seq (rg [mV 7 0,
bN 8 .geq 7 (.c (.p (.int .u64 65536)))] [0,2,8])
(.cond 8 (.seq (rg [mV 9 0,
bN 10 .shr 9 (.c (.p (.int .u64 16))),
mV 0 10] [0,2])
(rg [mV 11 2,
bN 12 .add 11 (cI 16),
mV 2 12] [0,2]))
.skip))
FW)
def z1O:Sf C gl GW e h x K:=⟨_,by simp only[GW,↓wZ,AO.still];rfl⟩
theorem zj8:NW C gl GW ⟨e,h,x⟩ K=(z1O C gl e h x K).1:=(z1O ..).2
def z5Y:ACode:=(.seq (rg [mV 2 (cI 0)] [0,2])
(.seq (.seq (rg [mV 3 0,
bN 4 .geq 3 (.c (.p (.int .u64 4294967296)))] [0,2,4])
(.cond 4 (.seq (rg [mV 5 0,
bN 6 .shr 5 (.c (.p (.int .u64 32))),
mV 0 6] [0])
(rg [mV 2 (cI 32)] [0,2]))
.skip))
GW))
def UZ:AFun:=⟨1,[.t 2],z5Y,false,false⟩
def bU:Sf C gl z5Y e h x K:=⟨_,by simp only[z5Y,↓wZ,AO.still];rfl⟩
theorem zj5 {C gl v0 h x K}:NW C gl UZ.body ⟨enter [v0],h,x⟩ K=(bU C gl [(0,v0)] h x K).1:=(bU C gl [(0,v0)] h x K).2
def TN:ACode:=.pr [0,1,2,3,8,9] (.seq (.seq (dr [dF (mV 18 9) [9],
dF (mV 19 1) [1],
dF (bN 20 .gtr 18 19) [18,19],
dF (mV 21 20) [20],
dF (gD 22 21 true (.mv 3)) [3,21],
dF (gD 23 21 true (.mv 0)) [0,21],
dF (gD 24 21 true (.mv 9)) [9,21],
dF (gD 25 21 true (.iaddr none 23 24)) [23,24,21],
dF (gD 26 21 true (.load none 25)) [25,21],
dF (gD 27 21 true (.mv 0)) [0,21],
dF (gD 28 21 true (.mv 9)) [9,21],
dF (gD 29 21 true (.bin .sub 28 (cI 1))) [28,21],
dF (gD 30 21 true (.iaddr none 27 29)) [27,29,21],
dF (gD 31 21 true (.load none 30)) [30,21],
dT (gD 32 21 true (.callv 22 [26,31])) [22,26,31,21],
dF (gD 33 21 true (.bin .lss 32 (cI 0))) [32,21],
dF (uO 34 (.pick 21 33 cF)) [21,33]] [0,1,2,3,8,9,34])
(.cond 34 .skip
(.exit 2)))
(.seq (.block 3 (dr [dF (mV 37 0) [0],
dF (mV 38 9) [9],
dF (mV 39 0) [0],
dF (mV 40 9) [9],
dF (bN 41 .sub 40 (cI 1)) [40],
dF (mV 42 0) [0],
dF (mV 43 9) [9],
dF (bN 44 .sub 43 (cI 1)) [43],
dF (iA 45 none 42 44) [42,44],
dF (lD 46 none 45) [45],
dF (mV 47 0) [0],
dF (mV 48 9) [9],
dF (iA 49 none 47 48) [47,48],
dF (lD 50 none 49) [49],
dF (iA 51 none 37 38) [37,38],
dT (wO (.store none 51 46)) [51,46],
dF (iA 52 none 39 41) [39,41],
dT (wO (.store none 52 50)) [52,50]] [0,1,2,3,8,9]))
(rg [mV 35 9,
bN 36 .sub 35 (cI 1),
mV 9 36] [0,1,2,3,8,9])))
def z3r:Sf C gl TN e h x K:=⟨_,by simp only[TN,↓wZ,AO.still];rfl⟩
theorem zmi:NW C gl TN ⟨e,h,x⟩ K=(z3r C gl e h x K).1:=(z3r ..).2
theorem zqm {C gl e h x K}:NW C gl (.loop TN) ⟨e,h,x⟩ K=yA C gl TN K [(0,bA e 0),(1,bA e 1),(2,bA e 2),(3,bA e 3),(8,bA e 8),(9,bA e 9)] h x:=mB
def LX:ACode:=.pr [0,1,2,3,8] (rg [mV 15 8,
bN 16 .add 15 (cI 1),
mV 8 16] [0,1,2,3,8])
def z3s:Sf C gl LX e h x K:=⟨_,by simp only[LX,↓wZ,AO.still];rfl⟩
theorem zmj:NW C gl LX ⟨e,h,x⟩ K=(z3s C gl e h x K).1:=(z3s ..).2
def UN:ACode:=.pr [0,1,2,3,8] (.seq (.seq (rg [mV 12 8,
mV 13 2,
bN 14 .lss 12 13] [0,1,2,3,8,14])
(.cond 14 .skip
(.exit 0)))
(.seq (.block 1 (.seq (rg [mV 17 8,
mV 9 17] [0,1,2,3,8,9])
(.block 2 (.loop TN))))
LX))
def z3t:Sf C gl UN e h x K:=⟨_,by simp only[UN,↓wZ,AO.still];rfl⟩
theorem zmk:NW C gl UN ⟨e,h,x⟩ K=(z3t C gl e h x K).1:=(z3t ..).2
theorem zqn {C gl e h x K}:NW C gl (.loop UN) ⟨e,h,x⟩ K=yA C gl UN K [(0,bA e 0),(1,bA e 1),(2,bA e 2),(3,bA e 3),(8,bA e 8)] h x:=mB
def z7h:ACode:=(.seq (rg [mV 10 1,
bN 11 .add 10 (cI 1),
mV 8 11] [0,1,2,3,8])
(.block 0 (.loop UN)))
def z0V:AFun:=⟨4,[],z7h,true,false⟩
def aV:Sf C gl z7h e h x K:=⟨_,by simp only[z7h,↓wZ,AO.still];rfl⟩
theorem zmh {C gl v0 v1 v2 v3 h x K}:NW C gl z0V.body ⟨enter [v0,v1,v2,v3],h,x⟩ K=(aV C gl [(0,v0),(1,v1),(2,v2),(3,v3)] h x K).1:=(aV C gl [(0,v0),(1,v1),(2,v2),(3,v3)] h x K).2
def z5V:ACode:=(.seq (rg [mV 4 (cI 0)] [0,1])
(.seq (rg [mV 5 0,
mV 6 1,
cL 7 RH [5,6],
mV 4 7] [4])
.ret))
def RZ:AFun:=⟨2,[.t 4],z5V,false,false⟩
def YT:Sf C gl z5V e h x K:=⟨_,by simp only[z5V,↓wZ,AO.still];rfl⟩
theorem zj2 {C gl v0 v1 h x K}:NW C gl RZ.body ⟨enter [v0,v1],h,x⟩ K=(YT C gl [(0,v0),(1,v1)] h x K).1:=(YT C gl [(0,v0),(1,v1)] h x K).2
def z5T:ACode:=(.seq (rg [mV 2 cF] [0])
(.seq (rg [mV 3 0,
mV 4 0,
bN 5 .neq 3 4,
mV 2 5] [2])
.ret))
def QZ:AFun:=⟨1,[.t 2],z5T,false,false⟩
def WT:Sf C gl z5T e h x K:=⟨_,by simp only[z5T,↓wZ,AO.still];rfl⟩
theorem zj0 {C gl v0 h x K}:NW C gl QZ.body ⟨enter [v0],h,x⟩ K=(WT C gl [(0,v0)] h x K).1:=(WT C gl [(0,v0)] h x K).2
def zr7:ACode:=(.seq (rg [mV 0 cF] [])
(.seq (rg [uO 4 (.bsl false none 1 (.str []) [(0,(cS [115,99,97,110]))]),
uO 5 (.build [.sl0 none,.p (.int .i64 0)] [(0,1,4),(1,1,(cI 1))]),
uO 6 (.build [.p (.str []),.p (.int .i64 0),.p (.int .i64 0),.p (.int .i64 0),.p (.str []),.p (.str []),.p (.str []),.p (.int .i64 0)] [(0,1,(cS [97])),(1,1,(cI 1)),(3,1,(cI 1)),(4,1,(cS [98]))]),
uO 7 (.bsl false (some 8) 1 (.agg [.str [],.int .i64 0,.int .i64 0,.int .i64 0,.str [],.str [],.str [],.int .i64 0]) [(0,6)]),
cL 8 zba [5,7,(cS [98]),(cI 0)],
mV 3 8,
eX 9 3 0,
eX 10 3 1,
uO 1 (.alloc [.p (.int .i64 0),.p (.int .i64 0),.p (.str []),.p (.str []),.p (.int .i64 0)]),
wO (.store (some 5) 1 9),
mV 2 10] [1,2])
(.seq (rg [mV 11 2,
bN 12 .eql 11 (cI 0),
mV 13 12,
gD 14 13 true (.faddr 0 none 1),
gD 15 13 true (.load none 14),
gD 16 13 true (.bin .eql 15 (cI 1)),
uO 17 (.pick 13 16 cF),
mV 18 17,
gD 19 18 true (.faddr 2 none 1),
gD 20 18 true (.load none 19),
gD 21 18 true (.bin .eql 20 (cS [115,99,97,110])),
uO 22 (.pick 18 21 cF),
mV 0 22] [0])
.ret)))
def zfA:AFun:=⟨0,[.t 0],zr7,false,false⟩
def zr8:ACode:=(.seq (rg [uO 4 (.box 0),
uO 8 (.alloc [.p (.int .i64 0),.p (.int .i64 0),.p (.str []),.p (.str []),.p (.int .i64 0)]),
mV 9 (cI 0)] [1,2,3,4,8])
(.seq (.seq (rg [lD 12 (some 2) 4,
mV 13 1,
mV 14 3,
cL 15 lH [12,13,14],
mV 10 15] [1,2,3,4,8,10])
(.seq (rg [mV 16 10,
bN 17 .neq 16 (cI 0)] [1,2,3,4,8,10,17])
(.cond 17 (.seq (rg [uO 18 (.build [.p (.int .i64 0),.p (.int .i64 0),.p (.str []),.p (.str []),.p (.int .i64 0)] []),
mV 19 10,
wO (.store (some 5) 8 18),
mV 9 19] [8,9])
.ret)
.skip)))
(.seq (.seq (rg [mV 20 2,
cL 21 cG [20],
uO 22 (.un .not 21)] [1,2,3,4,8,22])
(.cond 22 (.seq (rg [uO 23 (.build [.p (.int .i64 0),.p (.int .i64 0),.p (.str []),.p (.str []),.p (.int .i64 0)] []),
wO (.store (some 5) 8 23),
mV 9 (cI 5)] [8,9])
.ret)
.skip))
(.seq (dr [dF (lD 24 (some 2) 4) [4],
dF (mV 25 1) [1],
dF (mV 26 3) [3],
dA (cL 27 fG [25,26]) [25,26] true [] [0],
dT (cL 28 ND [24,27]) [24,27],
dF (uO 29 (.nilchk 28)) [28],
dF (fA 30 2 none 29) [29],
dF (lD 31 none 30) [30],
dF (mV 32 2) [2],
dF (uO 33 (.look (none,[2]) false (.nilp) 31 32)) [31,32],
dF (mV 11 33) [33]] [8,11])
(.seq (.seq (rg [mV 34 11,
uO 35 (.isnil 0 false 34)] [8,11,35])
(.cond 35 (.seq (rg [uO 36 (.build [.p (.int .i64 0),.p (.int .i64 0),.p (.str []),.p (.str []),.p (.int .i64 0)] []),
wO (.store (some 5) 8 36),
mV 9 (cI 8)] [8,9])
.ret)
.skip))
(.seq (rg [mV 37 11,
uO 38 (.nilchk 37),
lD 39 (some 5) 38,
wO (.store (some 5) 8 39),
mV 9 (cI 0)] [8,9])
.ret))))))
def zfB:AFun:=⟨4,[.cell 8 (some 5),.t 9],zr8,false,false⟩
end
section
variable {P:Program} {gl:Nat->Option PV}
def z8q:List PV->Option AV
 | []=>some (AB true)
 | _=>none
theorem RPV.mono' {M M':Mem}(hM:∀ b o v,M.c b o=some v->M'.c b o=some v){v:PV}{x:Value}(H:RPV M v x):RPV M' v x:=by
 induction H with
 | int k n=>exact .int k n
 | bool b=>exact .bool b
 | str s=>exact .str s
 | nilp=>exact .nilp
 | unk k n=>exact .unk k n
 | nils sh a cap=>exact .nils sh a cap
 | sl sh xs b o cap f hne hc he hm hr ih=>exact .sl sh xs b o cap f hne hc he (λj y hy=>hM _ _ _ (hm j y hy)) ih
 | agg cs vs hl hr ih=>exact .agg cs vs hl ih
theorem LE.mono' {M M':Mem}(hc:∀ b o v,M.c b o=some v->M'.c b o=some v)(hb:∀ b o,M.b b=some o->M'.b b=some o)(H:LE gl M):LE gl M':=λn v hv=>by
 obtain⟨h1,cs,t,x,h2,h3⟩:=H n v hv;refine⟨?_,cs,t,x,hb _ _ h2,h3⟩;cases h1 with|vp _ _ _ f hm hr=>exact .vp v n 0 f (λj y hy=>hc _ _ _ (hm j y hy)) (λj y hy=>(hr j y hy).mono' hc)
theorem zxa {X:Ctx}(HX:Fits P X){f:Nat}(H:gA X f [] [] λv h x=>v=AB true/\h=[]/\x=[])(he:∀ us w,(callFunc f us).run P w = .ok (.enter f us) w):PureRow P X.gl f z8q:=by
 refine⟨he,λM w vs r us hc hb hG hl hr hs=>?_⟩
 cases vs with
 | cons a l=>cases hs
 | nil=>
  have hu:us=[]:=List.length_eq_zero_iff.1 (by simpa using hl.symm)
  subst hu;simp only[z8q,Option.some.injEq]at hs;subst hs;have hno:∀b o,¬BH ([]:aA) ([]:Mu) b o:=λb o ⟨id,n,h1,_⟩=>by simp at h1
  have hnt:∀b,¬mL ([]:Mu) b:=λb ⟨id,n,h1⟩=>by simp at h1
  have hG':LE X.gl (imm [] [] w):=hG.mono' (λb o v h=>ZD.2 ⟨hno b o,hc b o v h⟩) (λb o h=>bJ.2 ⟨hnt b,hb b o h⟩)
  have hR:HeapRel [] [] w:=⟨rfl,λid o m h1=>by simp at h1,λi j b n n' h1=>by simp at h1,λi b n h1=>by simp at h1⟩
  rcases z9L HX H [] w [] hR hG' rfl (λj y v h1=>by simp at h1) with⟨_,q⟩|⟨r,w',v,h',x,μ',q,_⟩
  ·refine q.mono λe w' h=>?_
   cases e with
   | panicked _=>exact h.elim
   | outgrown=>exact h.elim
   | returned r=>
    obtain⟨v,h',x,μ',⟨rfl,rfl,rfl⟩,h1,h2,h3,h4⟩:=h;have hm:μ'=[]:=List.length_eq_zero_iff.1 (by simpa using h2.len)
    subst hm;have hbl:∀b o,w.heap[b]?=some o->w'.heap[b]?=some o:=λb o h=>(bJ.1 (h3.le.b b o (bJ.2 ⟨hnt b,h⟩))).2
    refine⟨r,rfl,⟨?_,λb hb=>?_,?_⟩,?_⟩
    ·rcases Nat.lt_or_ge w'.heap.size w.heap.size with q|q
     ·have:=hbl w'.heap.size _ (Array.getElem?_eq_getElem q)
      simp at this
     ·exact q
    ·rw[hbl b _ (Array.getElem?_eq_getElem hb),Array.getElem?_eq_getElem hb]
    ·have:=h3.le.z
     simpa [imm] using this
    ·have:=h1.p_bool
     rw[this];exact .p _ _ (.bool true)
  ·rw[he]at q
   cases q
end
def fns:List (Nat × AFun):=[(JV,VZ),(ZL,z0c),(aM,z0d),(MD,z0j),(bM,z0e),(yC,z0k),(TD,z0i),(uK,z1e),(vK,z1f),(xK,z1g),(oK,z1b),(tK,z1d),(sK,z1c),(JG,WZ),(RI,XZ),(eM,z0v),(XL,ZZ),(WL,YZ),(jM,z04),(fK,z00),(eK,z0y),(VI,z0z),(UI,z0x),(SI,z0w),(UH,z0l),(pM,z0N),(oM,z0M),(KG,z0f),(tQ,z0J),(aF,z0h),(eG,z0g),(qM,z0R),(VH,z0q),(BM,z1k),(ND,fT),(fG,jT),(xM,z1h),(bQ,LZ),(lH,XS),(YJ,IS),(WJ,CS),(rK,TS),(qK,RS),(cG,DS),(dQ,OZ),(fQ,SZ),(DQ,z1i),(kQ,z0r),(iQ,z0n),(dK,z0u),(YL,z0a),(WH,OS),(bF,z0s),(yE,z0D),(cM,z0m),(lM,z08),(nM,z0F),(HF,z0G),(jK,NS),(iK,z0A),(mQ,z01),(cK,z0b),(BQ,z0Z),(kK,z0I),(XI,kT),(tM,VS),(mH,eT),(cQ,MZ),(AM,gT),(SL,NZ),(dG,GS),(uM,WS),(sM,US),(CM,iT),(rM,z0T),(yQ,z0Q),(zM,z1j),(ZJ,KS),(PI,JS),(jQ,z0p),(uQ,z0K),(dM,z0o),(sQ,z0H),(WI,PS),(mM,z0E),(kM,z05),(qQ,z0B),(pQ,z09),(oQ,z07),(rQ,z0C),(lQ,z0t),(vQ,z0L),(fM,z02),(zQ,z0S),(iM,z03),(XH,z0U),(UL,MS),(yM,bT),(wM,ZS),(yK,aT),(XJ,ES),(nK,z0Y),(VL,TZ),(mK,z0X),(aK,LS),(wQ,z0O),(EQ,z1l),(nQ,z06),(xQ,z0P),(CQ,z1a),(vM,YS),(AQ,z0W),(TH,PZ),(gQ,UZ),(lK,z0V),(eQ,RZ),(TL,QZ)]
def GRL:List (Nat × Sh):=[(KV,none)]
def PRL:AG:=[(bK,z8q)]
def GLL:List (Nat × PV):=[]
def KRL:wI:=[(z4N,IV)]
def LQ:List (Nat × AFun)->Nat->Option AFun
 | [],_=>none
 | (k,F)::r,n=>bif Nat.beq k n then some F else LQ r n
def X:Ctx:=⟨LQ fns,glOf GLL,VJ RH SH,WQ KRL GRL PRL⟩
theorem zbt {p:Nat->AFun->Bool}:∀(l:List (Nat×AFun)),(l.all λy=>p y.1 y.2)=true->∀n F,LQ l n=some F->p n F=true
 | [],_,n,F,h=>by cases h
 | (k,G)::r,ha,n,F,h=>by
  simp only[List.all_cons,Bool.and_eq_true]at ha;simp only[LQ]at h;cases hk:Nat.beq k n with
  | true=>
   rw[hk]at h;have:=Nat.eq_of_beq_eq_true hk;simp only[cond_true,Option.some.injEq]at h;subst this;subst h;exact ha.1
  | false=>
   rw[hk]at h;exact zbt r ha.2 n F h
def fns0:List (Nat × AFun):=[(bK,zfA),(ND,fT),(fG,jT),(lH,XS),(WJ,CS),(rK,TS),(qK,RS),(cG,DS),(WH,OS),(zba,zfB),(XI,kT),(tM,VS),(mH,eT),(AM,gT),(dG,GS),(uM,WS),(sM,US),(CM,iT),(ZJ,KS),(PI,JS),(WI,PS),(UL,MS),(yM,bT),(wM,ZS),(yK,aT),(XJ,ES),(aK,LS),(vM,YS)]
def PRL0:AG:=[]
def X0:Ctx:=⟨LQ fns0,glOf GLL,VJ RH SH,EK GRL PRL0⟩
theorem z9m:X.NoNext:=λf F h=>zbt (p:=λ_ F=>F.isDet||F.body.noNext) fns (by kernel_rfl) f F h
theorem zvy:X.fn JV=some VZ:=by kernel_rfl
theorem zgI {u0 v0:AV}{h h1:aA}{P:jA}(hp:oA h [u0]=some ([v0],h1)):gA X JV [u0] h P=EP (gA X) X.gl IW v0 h1 [] (nA [.t 2] false h.length P):=by rw[tA zvy rfl hp rfl];exact zj9
theorem zv5:X.fn ZL=some z0c:=by kernel_rfl
theorem zgP {u0 v0:AV}{h h1:aA}{P:jA}(hp:oA h [u0]=some ([v0],h1)):gA X ZL [u0] h P = ∃v h' x,P v h' x/\(gU (gA X) X.gl [(0,v0)] h1 [] (nA [.cell 2 (some 2)] false h.length λv1 h1 x1=>v1=v/\h1=h'/\x1=x)).1:=by rw[FI zv5 rfl hp rfl];exact RL λv h' x=>congrArg (And (P v h' x)) zjJ
theorem zv6:X.fn aM=some z0d:=by kernel_rfl
theorem zgQ {u0 u1 v0 v1:AV}{h h1:aA}{P:jA}(hp:oA h [u0,u1]=some ([v0,v1],h1)):gA X aM [u0,u1] h P=iU (gA X) X.gl kN AR v0 v1 h1 [] (nA [.t 4] false h.length P):=by rw[tA zv6 rfl hp rfl];exact zjM
theorem zvC:X.fn MD=some z0j:=by kernel_rfl
theorem zgV {u0 u1 u2 v0 v1 v2:AV}{h h1:aA}{P:jA}(hp:oA h [u0,u1,u2]=some ([v0,v1,v2],h1)):gA X MD [u0,u1,u2] h P=(mU (gA X) X.gl [(0,v0),(1,v1),(2,v2)] h1 [] (nA [.t 6] false h.length P)).1:=by rw[tA zvC rfl hp rfl];exact zjW
theorem zv7:X.fn bM=some z0e:=by kernel_rfl
theorem zgR {u0 v0:AV}{h h1:aA}{P:jA}(hp:oA h [u0]=some ([v0],h1)):gA X bM [u0] h P=(jU (gA X) X.gl [(0,v0)] h1 [] (nA [.t 2] false h.length P)).1:=by rw[tA zv7 rfl hp rfl];exact zjR
theorem zvD:X.fn yC=some z0k:=by kernel_rfl
theorem zgW {u0 u1 v0 v1:AV}{h h1:aA}{P:jA}(hp:oA h [u0,u1]=some ([v0,v1],h1)):gA X yC [u0,u1] h P=(nU (gA X) X.gl [(0,v0),(1,v1)] h1 [] (nA [.t 4] false h.length P)).1:=by rw[tA zvD rfl hp rfl];exact zjX
theorem zvB:X.fn TD=some z0i:=by kernel_rfl
theorem zgU {u0 u1 v0 v1:AV}{h h1:aA}{P:jA}(hp:oA h [u0,u1]=some ([v0,v1],h1)):gA X TD [u0,u1] h P=(lU (gA X) X.gl [(0,v0),(1,v1)] h1 [] (nA [.t 4] false h.length P)).1:=by rw[tA zvB rfl hp rfl];exact zjV
theorem zwB:X.fn uK=some z1e:=by kernel_rfl
theorem zhT {u0 u1 u2 u3 v0 v1 v2 v3:AV}{h h1:aA}{P:jA}(hp:oA h [u0,u1,u2,u3]=some ([v0,v1,v2,v3],h1)):gA X uK [u0,u1,u2,u3] h P=(FL (gA X) X.gl [(0,v0),(1,v1),(2,v2),(3,v3)] h1 [] (nA [.cell 8 (some 2),.t 9] false h.length P)).1:=by rw[tA zwB rfl hp rfl];exact zmV
theorem zwC:X.fn vK=some z1f:=by kernel_rfl
theorem zhU {u0 u1 u2 v0 v1 v2:AV}{h h1:aA}{P:jA}(hp:oA h [u0,u1,u2]=some ([v0,v1,v2],h1)):gA X vK [u0,u1,u2] h P=(VP (gA X) X.gl [(0,v0),(1,v1),(2,v2)] h1 [] (nA [.cell 6 (some 2),.t 7] false h.length P)).1:=by rw[tA zwC rfl hp rfl];exact zmW
theorem zwD:X.fn xK=some z1g:=by kernel_rfl
theorem zhV {u0 u1 u2 u3 v0 v1 v2 v3:AV}{h h1:aA}{P:jA}(hp:oA h [u0,u1,u2,u3]=some ([v0,v1,v2,v3],h1)):gA X xK [u0,u1,u2,u3] h P=(WP (gA X) X.gl [(0,v0),(1,v1),(2,v2),(3,v3)] h1 [] (nA [.t 8,.t 9] false h.length P)).1:=by rw[tA zwD rfl hp rfl];exact zmZ
theorem zw6:X.fn oK=some z1b:=by kernel_rfl
theorem zhO {u0 u1 u2 u3 v0 v1 v2 v3:AV}{h h1:aA}{P:jA}(hp:oA h [u0,u1,u2,u3]=some ([v0,v1,v2,v3],h1)):gA X oK [u0,u1,u2,u3] h P=(TJ (gA X) X.gl [(0,v0),(1,v1),(2,v2),(3,v3)] h1 [] (nA [.t 8,.t 9] false h.length P)).1:=by rw[tA zw6 rfl hp rfl];exact zmD
theorem zwA:X.fn tK=some z1d:=by kernel_rfl
theorem zhS {u0 u1 u2 v0 v1 v2:AV}{h h1:aA}{P:jA}(hp:oA h [u0,u1,u2]=some ([v0,v1,v2],h1)):gA X tK [u0,u1,u2] h P=(UP (gA X) X.gl [(0,v0),(1,v1),(2,v2)] h1 [] (nA [.t 6,.t 7,.t 8,.t 9] false h.length P)).1:=by rw[tA zwA rfl hp rfl];exact zmR
theorem zw9:X.fn sK=some z1c:=by kernel_rfl
theorem zhR {u0 u1 u2 v0 v1 v2:AV}{h h1:aA}{P:jA}(hp:oA h [u0,u1,u2]=some ([v0,v1,v2],h1)):gA X sK [u0,u1,u2] h P=(TP (gA X) X.gl [(0,v0),(1,v1),(2,v2)] h1 [] (nA [.t 6,.t 7] false h.length P)).1:=by rw[tA zw9 rfl hp rfl];exact zmN
theorem zvz:X.fn JG=some WZ:=by kernel_rfl
theorem zgJ {u0 v0:AV}{h h1:aA}{P:jA}(hp:oA h [u0]=some ([v0],h1)):gA X JG [u0] h P=(cU (gA X) X.gl [(0,v0)] h1 [] (nA [.t 2] false h.length P)).1:=by rw[tA zvz rfl hp rfl];exact zjA
theorem zv0:X.fn RI=some XZ:=by kernel_rfl
theorem zgK {u0 u1 v0 v1:AV}{h h1:aA}{P:jA}(hp:oA h [u0,u1]=some ([v0,v1],h1)):gA X RI [u0,u1] h P=(dU (gA X) X.gl [(0,v0),(1,v1)] h1 [] (nA [.t 4] false h.length P)).1:=by rw[tA zv0 rfl hp rfl];exact zjD
theorem zvO:X.fn eM=some z0v:=by kernel_rfl
theorem zhg {u0 v0:AV}{h h1:aA}{P:jA}(hp:oA h [u0]=some ([v0],h1)):gA X eM [u0] h P=(LP (gA X) X.gl [(0,v0)] h1 [] (nA [.t 2] false h.length P)).1:=by rw[tA zvO rfl hp rfl];exact zku
theorem zv2:X.fn XL=some ZZ:=by kernel_rfl
theorem zgM {u0 u1 v0 v1:AV}{h h1:aA}{P:jA}(hp:oA h [u0,u1]=some ([v0,v1],h1)):gA X XL [u0,u1] h P=(HP (gA X) X.gl [(0,v0),(1,v1)] h1 [] (nA [.t 4] false h.length P)).1:=by rw[tA zv2 rfl hp rfl];exact zjF
theorem zv1:X.fn WL=some YZ:=by kernel_rfl
theorem zgL {u0 v0:AV}{h h1:aA}{P:jA}(hp:oA h [u0]=some ([v0],h1)):gA X WL [u0] h P=(FP (gA X) X.gl [(0,v0)] h1 [] (nA [.t 2] false h.length P)).1:=by rw[tA zv1 rfl hp rfl];exact zjE
theorem zvX:X.fn jM=some z04:=by kernel_rfl
theorem zhp {u0 v0:AV}{h h1:aA}{P:jA}(hp:oA h [u0]=some ([v0],h1)):gA X jM [u0] h P=(RJ (gA X) X.gl [(0,v0)] h1 [] (nA [.t 2] false h.length P)).1:=by rw[tA zvX rfl hp rfl];exact zkE
theorem zvT:X.fn fK=some z00:=by kernel_rfl
theorem zhl {u0 u1 u2 u3 v0 v1 v2 v3:AV}{h h1:aA}{P:jA}(hp:oA h [u0,u1,u2,u3]=some ([v0,v1,v2,v3],h1)):gA X fK [u0,u1,u2,u3] h P=(yU (gA X) X.gl [(0,v0),(1,v1),(2,v2),(3,v3)] h1 [] (nA [.t 8] false h.length P)).1:=by rw[tA zvT rfl hp rfl];exact zk7
theorem zvR:X.fn eK=some z0y:=by kernel_rfl
theorem zhj {u0 u1 u2 u3 v0 v1 v2 v3:AV}{h h1:aA}{P:jA}(hp:oA h [u0,u1,u2,u3]=some ([v0,v1,v2,v3],h1)):gA X eK [u0,u1,u2,u3] h P=(wU (gA X) X.gl [(0,v0),(1,v1),(2,v2),(3,v3)] h1 [] (nA [.cell 8 (some 2),.t 9] false h.length P)).1:=by rw[tA zvR rfl hp rfl];exact zk3
theorem zvS:X.fn VI=some z0z:=by kernel_rfl
theorem zhk {u0 u1 u2 v0 v1 v2:AV}{h h1:aA}{P:jA}(hp:oA h [u0,u1,u2]=some ([v0,v1,v2],h1)):gA X VI [u0,u1,u2] h P=(xU (gA X) X.gl [(0,v0),(1,v1),(2,v2)] h1 [] (nA [.cell 6 (some 2),.t 7] false h.length P)).1:=by rw[tA zvS rfl hp rfl];exact zk4
theorem zvQ:X.fn UI=some z0x:=by kernel_rfl
theorem zhi {u0 u1 u2 v0 v1 v2:AV}{h h1:aA}{P:jA}(hp:oA h [u0,u1,u2]=some ([v0,v1,v2],h1)):gA X UI [u0,u1,u2] h P=(vU (gA X) X.gl [(0,v0),(1,v1),(2,v2)] h1 [] (nA [.t 6,.t 7,.t 8] false h.length P)).1:=by rw[tA zvQ rfl hp rfl];exact zkz
theorem zvP:X.fn SI=some z0w:=by kernel_rfl
theorem zhh {u0 u1 u2 v0 v1 v2:AV}{h h1:aA}{P:jA}(hp:oA h [u0,u1,u2]=some ([v0,v1,v2],h1)):gA X SI [u0,u1,u2] h P=(uU (gA X) X.gl [(0,v0),(1,v1),(2,v2)] h1 [] (nA [.t 6] false h.length P)).1:=by rw[tA zvP rfl hp rfl];exact zkv
theorem zvE:X.fn UH=some z0l:=by kernel_rfl
theorem zgX {u0 u1 u2 u3 v0 v1 v2 v3:AV}{h h1:aA}{P:jA}(hp:oA h [u0,u1,u2,u3]=some ([v0,v1,v2,v3],h1)):gA X UH [u0,u1,u2,u3] h P=(oU (gA X) X.gl [(0,v0),(1,v1),(2,v2),(3,v3)] h1 [] (nA [.t 8] false h.length P)).1:=by rw[tA zvE rfl hp rfl];exact zjY
theorem zwr:X.fn pM=some z0N:=by kernel_rfl
theorem zhA {u0 u1 v0 v1:AV}{h h1:aA}{P:jA}(hp:oA h [u0,u1]=some ([v0,v1],h1)):gA X pM [u0,u1] h P=(OP (gA X) X.gl [(0,v0),(1,v1)] h1 [] (nA [.t 4] false h.length P)).1:=by rw[tA zwr rfl hp rfl];exact zlN
theorem zwq:X.fn oM=some z0M:=by kernel_rfl
theorem zh9 {u0 u1 v0 v1:AV}{h h1:aA}{P:jA}(hp:oA h [u0,u1]=some ([v0,v1],h1)):gA X oM [u0,u1] h P=(SU (gA X) X.gl [(0,v0),(1,v1)] h1 [] (nA [.t 4] false h.length P)).1:=by rw[tA zwq rfl hp rfl];exact zlK
theorem zv8:X.fn KG=some z0f:=by kernel_rfl
theorem zgS {u0 u1 v0 v1:AV}{h h1:aA}{P:jA}(hp:oA h [u0,u1]=some ([v0,v1],h1)):gA X KG [u0,u1] h P=(kU (gA X) X.gl [(0,v0),(1,v1)] h1 [] (nA [.t 4] false h.length P)).1:=by rw[tA zv8 rfl hp rfl];exact zjS
theorem zwm:X.fn tQ=some z0J:=by kernel_rfl
theorem zh5 {u0 v0:AV}{h h1:aA}{P:jA}(hp:oA h [u0]=some ([v0],h1)):gA X tQ [u0] h P=(NU (gA X) X.gl [(0,v0)] h1 [] (nA [.t 2] true h.length P)).1:=by rw[tA zwm rfl hp rfl];exact zl9
theorem zvA:X.fn aF=some z0h:=by kernel_rfl
theorem rT {u0 u1 u2 v0 v1 v2:AV}{h h1:aA}{P:jA}(hp:oA h [u0,u1,u2]=some ([v0,v1,v2],h1)):gA X aF [u0,u1,u2] h P=(PJ (gA X) X.gl [(0,v0),(1,v1),(2,v2)] h1 [] (nA [.t 6] false h.length P)).1:=by rw[tA zvA rfl hp rfl];exact zjU
theorem zv9:X.fn eG=some z0g:=by kernel_rfl
theorem zgT {u0 u1 v0 v1:AV}{h h1:aA}{P:jA}(hp:oA h [u0,u1]=some ([v0,v1],h1)):gA X eG [u0,u1] h P=(IP (gA X) X.gl [(0,v0),(1,v1)] h1 [] (nA [.t 4] false h.length P)).1:=by rw[tA zv9 rfl hp rfl];exact zjT
theorem zww:X.fn qM=some z0R:=by kernel_rfl
theorem zhF {u0 u1 h P}:gA X qM [u0,u1] h P=(XU (gA X) X.gl [(0,u0),(1,u1)] h [] (nA [] false h.length P)).1:=by rw[SD zww rfl rfl];exact zma
theorem zvJ:X.fn VH=some z0q:=by kernel_rfl
theorem z9J {u0 u1 v0 v1:AV}{h h1:aA}{P:jA}(hp:oA h [u0,u1]=some ([v0,v1],h1)):gA X VH [u0,u1] h P=(NH (gA X) X.gl [(0,v0),(1,v1)] h1 [] (nA [.t 4] false h.length P)).1:=by rw[tA zvJ rfl hp rfl];exact zko
theorem zwS:X.fn BM=some z1k:=by kernel_rfl
theorem zij {u0 u1 u2 u3 v0 v1 v2 v3:AV}{h h1:aA}{P:jA}(hp:oA h [u0,u1,u2,u3]=some ([v0,v1,v2,v3],h1)):gA X BM [u0,u1,u2,u3] h P=(HL (gA X) X.gl [(0,v0),(1,v1),(2,v2),(3,v3)] h1 [] (nA [.t 8] false h.length P)).1:=by rw[tA zwS rfl hp rfl];exact znB
theorem zwQ:X.fn ND=some fT:=by kernel_rfl
theorem zih {u0 u1 v0 v1:AV}{h h1:aA}{P:jA}(hp:oA h [u0,u1]=some ([v0,v1],h1)):gA X ND [u0,u1] h P=(rV (gA X) X.gl [(0,v0),(1,v1)] h1 [] (nA [.t 4] false h.length P)).1:=by rw[tA zwQ rfl hp rfl];exact zn6
theorem zwU:X.fn fG=some jT:=by kernel_rfl
theorem zil {u0 u1 v0 v1:AV}{h h1:aA}{P:jA}(hp:oA h [u0,u1]=some ([v0,v1],h1)):gA X fG [u0,u1] h P=(tV (gA X) X.gl [(0,v0),(1,v1)] h1 [] (nA [.t 4] false h.length P)).1:=by rw[tA zwU rfl hp rfl];exact znG
theorem zwL:X.fn xM=some z1h:=by kernel_rfl
theorem zid {u0 u1 v0 v1:AV}{h h1:aA}{P:jA}(hp:oA h [u0,u1]=some ([v0,v1],h1)):gA X xM [u0,u1] h P=(oV (gA X) X.gl [(0,v0),(1,v1)] h1 [] (nA [.t 4,.t 5] false h.length P)).1:=by rw[tA zwL rfl hp rfl];exact znt
theorem zvh:X.fn bQ=some LZ:=by kernel_rfl
theorem zg0 {u0 u1 v0 v1:AV}{h h1:aA}{P:jA}(hp:oA h [u0,u1]=some ([v0,v1],h1)):gA X bQ [u0,u1] h P=(MT (gA X) X.gl [(0,v0),(1,v1)] h1 [] (nA [.cell 4 (some 2)] false h.length P)).1:=by rw[tA zvh rfl hp rfl];exact ziX
theorem zwH:X.fn lH=some XS:=by kernel_rfl
theorem zhZ {u0 u1 u2 v0 v1 v2:AV}{h h1:aA}{P:jA}(hp:oA h [u0,u1,u2]=some ([v0,v1,v2],h1)):gA X lH [u0,u1,u2] h P=(kV (gA X) X.gl [(0,v0),(1,v1),(2,v2)] h1 [] (nA [.t 6] false h.length P)).1:=by rw[tA zwH rfl hp rfl];exact znj
theorem zeM:X.fn YJ=some IS:=by kernel_rfl
theorem zg5 {u0 v0:AV}{h h1:aA}{P:jA}(hp:oA h [u0]=some ([v0],h1)):gA X YJ [u0] h P = ∃v h' x,P v h' x/\(RT (gA X) X.gl [(0,v0)] h1 [] (nA [.cell 2 (some 2),.t 3] false h.length λv1 h1 x1=>v1=v/\h1=h'/\x1=x)).1:=by rw[FI zeM rfl hp rfl];exact RL λv h' x=>congrArg (And (P v h' x)) zjg
theorem zvg:X.fn WJ=some CS:=by kernel_rfl
theorem zgz {u0 v0:AV}{h h1:aA}{P:jA}(hp:oA h [u0]=some ([v0],h1)):gA X WJ [u0] h P=(LT (gA X) X.gl [(0,v0)] h1 [] (nA [.t 2] false h.length P)).1:=by rw[tA zvg rfl hp rfl];exact ziU
theorem zw8:X.fn rK=some TS:=by kernel_rfl
theorem zhQ {u0 v0:AV}{h h1:aA}{P:jA}(hp:oA h [u0]=some ([v0],h1)):gA X rK [u0] h P=(EL (gA X) X.gl [(0,v0)] h1 [] (nA [.t 2] false h.length P)).1:=by rw[tA zw8 rfl hp rfl];exact zmL
theorem zw7:X.fn qK=some RS:=by kernel_rfl
theorem zhP {u0 v0:AV}{h h1:aA}{P:jA}(hp:oA h [u0]=some ([v0],h1)):gA X qK [u0] h P=(RP (gA X) X.gl [(0,v0)] h1 [] (nA [.t 2] false h.length P)).1:=by rw[tA zw7 rfl hp rfl];exact zmI
theorem zvj:X.fn cG=some DS:=by kernel_rfl
theorem zg2 {u0 v0:AV}{h h1:aA}{P:jA}(hp:oA h [u0]=some ([v0],h1)):gA X cG [u0] h P=(LI (gA X) X.gl [(0,v0)] h1 [] (nA [.t 2] false h.length P)).1:=by rw[tA zvj rfl hp rfl];exact zjb
theorem zvn:X.fn dQ=some OZ:=by kernel_rfl
theorem zg7 {u0 v0:AV}{h h1:aA}{P:jA}(hp:oA h [u0]=some ([v0],h1)):gA X dQ [u0] h P=(DP (gA X) X.gl [(0,v0)] h1 [] (nA [.t 2] false h.length P)).1:=by rw[tA zvn rfl hp rfl];exact zjt
theorem zvv:X.fn fQ=some SZ:=by kernel_rfl
theorem zgF {u0 v0:AV}{h h1:aA}{P:jA}(hp:oA h [u0]=some ([v0],h1)):gA X fQ [u0] h P=(ZT (gA X) X.gl [(0,v0)] h1 [] (nA [.t 2] false h.length P)).1:=by rw[tA zvv rfl hp rfl];exact zj3
theorem zwO:X.fn DQ=some z1i:=by kernel_rfl
theorem zif {u0 u1 v0 v1:AV}{h h1:aA}{P:jA}(hp:oA h [u0,u1]=some ([v0,v1],h1)):gA X DQ [u0,u1] h P = ∃v h' x,P v h' x/\(pV (gA X) X.gl [(0,v0),(1,v1)] h1 [] (nA [.t 4] false h.length λv1 h1 x1=>v1=v/\h1=h'/\x1=x)).1:=by rw[FI zwO rfl hp rfl];exact RL λv h' x=>congrArg (And (P v h' x)) zn2
theorem zvK:X.fn kQ=some z0r:=by kernel_rfl
theorem zhc {u0 v0:AV}{h h1:aA}{P:jA}(hp:oA h [u0]=some ([v0],h1)):gA X kQ [u0] h P=(BL (gA X) X.gl [(0,v0)] h1 [] (nA [.t 2] false h.length P)).1:=by rw[tA zvK rfl hp rfl];exact zkp
theorem zvG:X.fn iQ=some z0n:=by kernel_rfl
theorem zgZ {u0 v0:AV}{h h1:aA}{P:jA}(hp:oA h [u0]=some ([v0],h1)):gA X iQ [u0] h P=(JP (gA X) X.gl [(0,v0)] h1 [] (nA [.t 2] false h.length P)).1:=by rw[tA zvG rfl hp rfl];exact zkh
theorem zvN:X.fn dK=some z0u:=by kernel_rfl
theorem zhf {u0 v0:AV}{h h1:aA}{P:jA}(hp:oA h [u0]=some ([v0],h1)):gA X dK [u0] h P=(tU (gA X) X.gl [(0,v0)] h1 [] (nA [.t 2] false h.length P)).1:=by rw[tA zvN rfl hp rfl];exact zkt
theorem zv3:X.fn YL=some z0a:=by kernel_rfl
theorem zgN {u0 u1 v0 v1:AV}{h h1:aA}{P:jA}(hp:oA h [u0,u1]=some ([v0,v1],h1)):gA X YL [u0,u1] h P=(eU (gA X) X.gl [(0,v0),(1,v1)] h1 [] (nA [.t 4] false h.length P)).1:=by rw[tA zv3 rfl hp rfl];exact zjG
theorem zwo:X.fn WH=some OS:=by kernel_rfl
theorem zh7 {u0 u1 h P}:gA X WH [u0,u1] h P=(PU (gA X) X.gl [(0,u0),(1,u1)] h [] (nA [.t 4] false h.length P)).1:=by rw[SD zwo rfl rfl];exact zlF
theorem zvL:X.fn bF=some z0s:=by kernel_rfl
theorem zhd {u0 v0:AV}{h h1:aA}{P:jA}(hp:oA h [u0]=some ([v0],h1)):gA X bF [u0] h P=(QJ (gA X) X.gl [(0,v0)] h1 [] (nA [.t 2] false h.length P)).1:=by rw[tA zvL rfl hp rfl];exact zkr
theorem zwg:X.fn yE=some z0D:=by kernel_rfl
theorem zhy {u0 u1 u2 v0 v1 v2:AV}{h h1:aA}{P:jA}(hp:oA h [u0,u1,u2]=some ([v0,v1,v2],h1)):gA X yE [u0,u1,u2] h P=(IU (gA X) X.gl [(0,v0),(1,v1),(2,v2)] h1 [] (nA [.t 6] false h.length P)).1:=by rw[tA zwg rfl hp rfl];exact zlc
theorem zvF:X.fn cM=some z0m:=by kernel_rfl
theorem zgY {u0 u1 v0 v1:AV}{h h1:aA}{P:jA}(hp:oA h [u0,u1]=some ([v0,v1],h1)):gA X cM [u0,u1] h P=(pU (gA X) X.gl [(0,v0),(1,v1)] h1 [] (nA [.t 4] false h.length P)).1:=by rw[tA zvF rfl hp rfl];exact zkd
theorem zwb:X.fn lM=some z08:=by kernel_rfl
theorem zht {u0 u1 v0 v1:AV}{h h1:aA}{P:jA}(hp:oA h [u0,u1]=some ([v0,v1],h1)):gA X lM [u0,u1] h P=(vE (gA X) X.gl [(0,v0),(1,v1)] h1 [] (nA [.t 4] false h.length P)).1:=by rw[tA zwb rfl hp rfl];exact zkO
theorem zwi:X.fn nM=some z0F:=by kernel_rfl
theorem zh0 {u0 u1 v0 v1:AV}{h h1:aA}{P:jA}(hp:oA h [u0,u1]=some ([v0,v1],h1)):gA X nM [u0,u1] h P=(KU (gA X) X.gl [(0,v0),(1,v1)] h1 [] (nA [.cell 4 (some 2),.t 5] false h.length P)).1:=by rw[tA zwi rfl hp rfl];exact zlg
theorem zwj:X.fn HF=some z0G:=by kernel_rfl
theorem zh2 {u0 u1 u2 v0 v1 v2:AV}{h h1:aA}{P:jA}(hp:oA h [u0,u1,u2]=some ([v0,v1,v2],h1)):gA X HF [u0,u1,u2] h P=(MU (gA X) X.gl [(0,v0),(1,v1),(2,v2)] h1 [] (nA [.t 6] false h.length P)).1:=by rw[tA zwj rfl hp rfl];exact zl3
theorem zeN:X.fn jK=some NS:=by kernel_rfl
theorem zh1 {u0 u1 v0 v1:AV}{h h1:aA}{P:jA}(hp:oA h [u0,u1]=some ([v0,v1],h1)):gA X jK [u0,u1] h P = ∃v h' x,P v h' x/\LU (gA X) X.gl FN xX v0 v1 h1 [] (nA [.cell 4 (some 2),.t 5] false h.length λv1 h1 x1=>v1=v/\h1=h'/\x1=x):=by rw[FI zeN rfl hp rfl];exact RL λv h' x=>congrArg (And (P v h' x)) zln
theorem zwd:X.fn iK=some z0A:=by kernel_rfl
theorem zhv {u0 v0:AV}{h h1:aA}{P:jA}(hp:oA h [u0]=some ([v0],h1)):gA X iK [u0] h P = ∃v h' x,P v h' x/\(FU (gA X) X.gl [(0,v0)] h1 [] (nA [.t 2] true h.length λv1 h1 x1=>v1=v/\h1=h'/\x1=x)).1:=by rw[FI zwd rfl hp rfl];exact RL λv h' x=>congrArg (And (P v h' x)) zkT
theorem zvU:X.fn mQ=some z01:=by kernel_rfl
theorem zhm {u0 u1 u2 u3 v0 v1 v2 v3:AV}{h h1:aA}{P:jA}(hp:oA h [u0,u1,u2,u3]=some ([v0,v1,v2,v3],h1)):gA X mQ [u0,u1,u2,u3] h P=(zU (gA X) X.gl [(0,v0),(1,v1),(2,v2),(3,v3)] h1 [] (nA [.t 8] false h.length P)).1:=by rw[tA zvU rfl hp rfl];exact zkB
theorem zv4:X.fn cK=some z0b:=by kernel_rfl
theorem zgO {u0 u1 v0 v1:AV}{h h1:aA}{P:jA}(hp:oA h [u0,u1]=some ([v0,v1],h1)):gA X cK [u0,u1] h P=(fU (gA X) X.gl [(0,v0),(1,v1)] h1 [] (nA [.t 4] false h.length P)).1:=by rw[tA zv4 rfl hp rfl];exact zjH
theorem zw4:X.fn BQ=some z0Z:=by kernel_rfl
theorem zhM {u0 u1 u2 h P}:gA X BQ [u0,u1,u2] h P=(eV (gA X) X.gl [(0,u0),(1,u1),(2,u2)] h [] (nA [] false h.length P)).1:=by rw[SD zw4 rfl rfl];exact zmz
theorem zwl:X.fn kK=some z0I:=by kernel_rfl
theorem zh4 {u0 v0:AV}{h h1:aA}{P:jA}(hp:oA h [u0]=some ([v0],h1)):gA X kK [u0] h P=(DL (gA X) X.gl [(0,v0)] h1 [] (nA [.t 2] false h.length P)).1:=by rw[tA zwl rfl hp rfl];exact zl8
theorem zwV:X.fn XI=some kT:=by kernel_rfl
theorem zim {u0 u1 v0 v1:AV}{h h1:aA}{P:jA}(hp:oA h [u0,u1]=some ([v0,v1],h1)):gA X XI [u0,u1] h P=(uV (gA X) X.gl [(0,v0),(1,v1)] h1 [] (nA [.t 4] false h.length P)).1:=by rw[tA zwV rfl hp rfl];exact znJ
theorem zwF:X.fn tM=some VS:=by kernel_rfl
theorem zhX {u0 v0:AV}{h h1:aA}{P:jA}(hp:oA h [u0]=some ([v0],h1)):gA X tM [u0] h P=(jV (gA X) X.gl [(0,v0)] h1 [] (nA [.t 2] false h.length P)).1:=by rw[tA zwF rfl hp rfl];exact zne
theorem zwN:X.fn mH=some eT:=by kernel_rfl
theorem tT {u0 u1 v0 v1:AV}{h h1:aA}{P:jA}(hp:oA h [u0,u1]=some ([v0,v1],h1)):gA X mH [u0,u1] h P=(wE (gA X) X.gl [(0,v0),(1,v1)] h1 [] (nA [.t 4] false h.length P)).1:=by rw[tA zwN rfl hp rfl];exact zny
theorem zvi:X.fn cQ=some MZ:=by kernel_rfl
theorem zg1 {u0 u1 v0 v1:AV}{h h1:aA}{P:jA}(hp:oA h [u0,u1]=some ([v0,v1],h1)):gA X cQ [u0,u1] h P=(NT (gA X) X.gl [(0,v0),(1,v1)] h1 [] (nA [.t 4] false h.length P)).1:=by rw[tA zvi rfl hp rfl];exact ziY
theorem zwR:X.fn AM=some gT:=by kernel_rfl
theorem zii {u0 v0:AV}{h h1:aA}{P:jA}(hp:oA h [u0]=some ([v0],h1)):gA X AM [u0] h P=(XP (gA X) X.gl [(0,v0)] h1 [] (nA [.t 2] false h.length P)).1:=by rw[tA zwR rfl hp rfl];exact znA
theorem zvm:X.fn SL=some NZ:=by kernel_rfl
theorem zg6 {u0 u1 u2 v0 v1 v2:AV}{h h1:aA}{P:jA}(hp:oA h [u0,u1,u2]=some ([v0,v1,v2],h1)):gA X SL [u0,u1,u2] h P=(ST (gA X) X.gl [(0,v0),(1,v1),(2,v2)] h1 [] (nA [] false h.length P)).1:=by rw[tA zvm rfl hp rfl];exact zjp
theorem zvl:X.fn dG=some GS:=by kernel_rfl
theorem zg4 {u0 u1 u2 v0 v1 v2:AV}{h h1:aA}{P:jA}(hp:oA h [u0,u1,u2]=some ([v0,v1,v2],h1)):gA X dG [u0,u1,u2] h P=(PT (gA X) X.gl [(0,v0),(1,v1),(2,v2)] h1 [] (nA [.t 6] false h.length P)).1:=by rw[tA zvl rfl hp rfl];exact zjf
theorem zwG:X.fn uM=some WS:=by kernel_rfl
theorem zhY {u0 v0:AV}{h h1:aA}{P:jA}(hp:oA h [u0]=some ([v0],h1)):gA X uM [u0] h P=(fH (gA X) X.gl [(0,v0)] h1 [] (nA [.t 2] false h.length P)).1:=by rw[tA zwG rfl hp rfl];exact zni
theorem zwE:X.fn sM=some US:=by kernel_rfl
theorem zhW {u0 u1 v0 v1:AV}{h h1:aA}{P:jA}(hp:oA h [u0,u1]=some ([v0,v1],h1)):gA X sM [u0,u1] h P=(iV (gA X) X.gl [(0,v0),(1,v1)] h1 [] (nA [.t 4] false h.length P)).1:=by rw[tA zwE rfl hp rfl];exact znd
theorem zwT:X.fn CM=some iT:=by kernel_rfl
theorem zik {u0 v0:AV}{h h1:aA}{P:jA}(hp:oA h [u0]=some ([v0],h1)):gA X CM [u0] h P=(sV (gA X) X.gl [(0,v0)] h1 [] (nA [.t 2] false h.length P)).1:=by rw[tA zwT rfl hp rfl];exact znD
theorem zwy:X.fn rM=some z0T:=by kernel_rfl
theorem zhH {u0 h P}:gA X rM [u0] h P=(ZU (gA X) X.gl [(0,u0)] h [] (nA [] false h.length P)).1:=by rw[SD zwy rfl rfl];exact zmc
theorem zwv:X.fn yQ=some z0Q:=by kernel_rfl
theorem zhE {u0 u1 h P}:gA X yQ [u0,u1] h P=(WU (gA X) X.gl [(0,u0),(1,u1)] h [] (nA [] false h.length P)).1:=by rw[SD zwv rfl rfl];exact zlZ
theorem zwP:X.fn zM=some z1j:=by kernel_rfl
theorem zig {u0 u1 u2 v0 v1 v2:AV}{h h1:aA}{P:jA}(hp:oA h [u0,u1,u2]=some ([v0,v1,v2],h1)):gA X zM [u0,u1,u2] h P=(qV (gA X) X.gl [(0,v0),(1,v1),(2,v2)] h1 [] (nA [.t 5] false h.length P)).1:=by rw[tA zwP rfl hp rfl];exact zn5
theorem zvq:X.fn ZJ=some KS:=by kernel_rfl
theorem zgA {u0 v0:AV}{h h1:aA}{P:jA}(hp:oA h [u0]=some ([v0],h1)):gA X ZJ [u0] h P=(UT (gA X) X.gl [(0,v0)] h1 [] (nA [.t 2] false h.length P)).1:=by rw[tA zvq rfl hp rfl];exact zjw
theorem zvo:X.fn PI=some JS:=by kernel_rfl
theorem zg8 {u0 u1 v0 v1:AV}{h h1:aA}{P:jA}(hp:oA h [u0,u1]=some ([v0,v1],h1)):gA X PI [u0,u1] h P=(xL (gA X) X.gl [(0,v0),(1,v1)] h1 [] (nA [.t 4] false h.length P)).1:=by rw[tA zvo rfl hp rfl];exact zju
theorem zvI:X.fn jQ=some z0p:=by kernel_rfl
theorem zhb {u0 v0:AV}{h h1:aA}{P:jA}(hp:oA h [u0]=some ([v0],h1)):gA X jQ [u0] h P=MI (gA X) X.gl YW v0 h1 [] (nA [.t 2] false h.length P):=by rw[tA zvI rfl hp rfl];exact zkm
theorem zwn:X.fn uQ=some z0K:=by kernel_rfl
theorem zh6 {u0 u1 h P}:gA X uQ [u0,u1] h P=(OU (gA X) X.gl [(0,u0),(1,u1)] h [] (nA [.t 4] false h.length P)).1:=by rw[SD zwn rfl rfl];exact zlE
theorem zvH:X.fn dM=some z0o:=by kernel_rfl
theorem zha {u0 u1 v0 v1:AV}{h h1:aA}{P:jA}(hp:oA h [u0,u1]=some ([v0,v1],h1)):gA X dM [u0,u1] h P=(rU (gA X) X.gl [(0,v0),(1,v1)] h1 [] (nA [.t 3] false h.length P)).1:=by rw[tA zvH rfl hp rfl];exact zkl
theorem zwk:X.fn sQ=some z0H:=by kernel_rfl
theorem zh3 {u0 u1 v0 v1:AV}{h h1:aA}{P:jA}(hp:oA h [u0,u1]=some ([v0,v1],h1)):gA X sQ [u0,u1] h P=(NP (gA X) X.gl [(0,v0),(1,v1)] h1 [] (nA [.t 4] false h.length P)).1:=by rw[tA zwk rfl hp rfl];exact zl7
theorem zwu:X.fn WI=some PS:=by kernel_rfl
theorem zhD {u0 u1 h P}:gA X WI [u0,u1] h P=(VU (gA X) X.gl [(0,u0),(1,u1)] h [] (nA [.t 4] false h.length P)).1:=by rw[SD zwu rfl rfl];exact zlW
theorem zwh:X.fn mM=some z0E:=by kernel_rfl
theorem zhz {u0 u1 v0 v1:AV}{h h1:aA}{P:jA}(hp:oA h [u0,u1]=some ([v0,v1],h1)):gA X mM [u0,u1] h P=(JU (gA X) X.gl [(0,v0),(1,v1)] h1 [] (nA [.t 4] false h.length P)).1:=by rw[tA zwh rfl hp rfl];exact zld
theorem zvY:X.fn kM=some z05:=by kernel_rfl
theorem zhq {u0 u1 u2 v0 v1 v2:AV}{h h1:aA}{P:jA}(hp:oA h [u0,u1,u2]=some ([v0,v1,v2],h1)):gA X kM [u0,u1,u2] h P=(MP (gA X) X.gl [(0,v0),(1,v1),(2,v2)] h1 [] (nA [.t 6] false h.length P)).1:=by rw[tA zvY rfl hp rfl];exact zkF
theorem zwe:X.fn qQ=some z0B:=by kernel_rfl
theorem zhw {u0 u1 v0 v1:AV}{h h1:aA}{P:jA}(hp:oA h [u0,u1]=some ([v0,v1],h1)):gA X qQ [u0,u1] h P = ∃v h' x,P v h' x/\(GU (gA X) X.gl [(0,v0),(1,v1)] h1 [] (nA [.t 4] false h.length λv1 h1 x1=>v1=v/\h1=h'/\x1=x)).1:=by rw[FI zwe rfl hp rfl];exact RL λv h' x=>congrArg (And (P v h' x)) zkW
theorem zwc:X.fn pQ=some z09:=by kernel_rfl
theorem zhu {u0 u1 u2 u3 v0 v1 v2 v3:AV}{h h1:aA}{P:jA}(hp:oA h [u0,u1,u2,u3]=some ([v0,v1,v2,v3],h1)):gA X pQ [u0,u1,u2,u3] h P=(EU (gA X) X.gl [(0,v0),(1,v1),(2,v2),(3,v3)] h1 [] (nA [] false h.length P)).1:=by rw[tA zwc rfl hp rfl];exact zkQ
theorem zwa:X.fn oQ=some z07:=by kernel_rfl
theorem zhs {u0 u1 u2 u3 v0 v1 v2 v3:AV}{h h1:aA}{P:jA}(hp:oA h [u0,u1,u2,u3]=some ([v0,v1,v2,v3],h1)):gA X oQ [u0,u1,u2,u3] h P=(SJ (gA X) X.gl [(0,v0),(1,v1),(2,v2),(3,v3)] h1 [] (nA [.cell 8 (some 5)] false h.length P)).1:=by rw[tA zwa rfl hp rfl];exact zkL
theorem zwf:X.fn rQ=some z0C:=by kernel_rfl
theorem zhx {u0 u1 v0 v1:AV}{h h1:aA}{P:jA}(hp:oA h [u0,u1]=some ([v0,v1],h1)):gA X rQ [u0,u1] h P=(HU (gA X) X.gl [(0,v0),(1,v1)] h1 [] (nA [] false h.length P)).1:=by rw[tA zwf rfl hp rfl];exact zkZ
theorem zvM:X.fn lQ=some z0t:=by kernel_rfl
theorem zhe {u0 u1 v0 v1:AV}{h h1:aA}{P:jA}(hp:oA h [u0,u1]=some ([v0,v1],h1)):gA X lQ [u0,u1] h P=(sU (gA X) X.gl [(0,v0),(1,v1)] h1 [] (nA [.cell 4 (some 2)] false h.length P)).1:=by rw[tA zvM rfl hp rfl];exact zks
theorem zwp:X.fn vQ=some z0L:=by kernel_rfl
theorem zh8 {u0 u1 h P}:gA X vQ [u0,u1] h P=(QU (gA X) X.gl [(0,u0),(1,u1)] h [] (nA [.t 4] false h.length P)).1:=by rw[SD zwp rfl rfl];exact zlG
theorem zvV:X.fn fM=some z02:=by kernel_rfl
theorem zhn {u0 u1 u2 v0 v1 v2:AV}{h h1:aA}{P:jA}(hp:oA h [u0,u1,u2]=some ([v0,v1,v2],h1)):gA X fM [u0,u1,u2] h P=(CL (gA X) X.gl [(0,v0),(1,v1),(2,v2)] h1 [] (nA [.t 4] false h.length P)).1:=by rw[tA zvV rfl hp rfl];exact zkC
theorem zwx:X.fn zQ=some z0S:=by kernel_rfl
theorem zhG {u0 u1 h P}:gA X zQ [u0,u1] h P=(YU (gA X) X.gl [(0,u0),(1,u1)] h [] (nA [] false h.length P)).1:=by rw[SD zwx rfl rfl];exact zmb
theorem zvW:X.fn iM=some z03:=by kernel_rfl
theorem zho {u0 u1 u2 v0 v1 v2:AV}{h h1:aA}{P:jA}(hp:oA h [u0,u1,u2]=some ([v0,v1,v2],h1)):gA X iM [u0,u1,u2] h P=(CU (gA X) X.gl [(0,v0),(1,v1),(2,v2)] h1 [] (nA [.t 5] false h.length P)).1:=by rw[tA zvW rfl hp rfl];exact zkD
theorem zwz:X.fn XH=some z0U:=by kernel_rfl
theorem z9K {u0 u1 u2 u3 h P}:gA X XH [u0,u1,u2,u3] h P=(PP (gA X) X.gl [(0,u0),(1,u1),(2,u2),(3,u3)] h [] (nA [] false h.length P)).1:=by rw[SD zwz rfl rfl];exact zmd
theorem zvt:X.fn UL=some MS:=by kernel_rfl
theorem zgD {u0 u1 v0 v1:AV}{h h1:aA}{P:jA}(hp:oA h [u0,u1]=some ([v0,v1],h1)):gA X UL [u0,u1] h P=(XT (gA X) X.gl [(0,v0),(1,v1)] h1 [] (nA [.t 4] false h.length P)).1:=by rw[tA zvt rfl hp rfl];exact zj1
theorem zwM:X.fn yM=some bT:=by kernel_rfl
theorem zie {u0 u1 u2 v0 v1 v2:AV}{h h1:aA}{P:jA}(hp:oA h [u0,u1,u2]=some ([v0,v1,v2],h1)):gA X yM [u0,u1,u2] h P=(UJ (gA X) X.gl [(0,v0),(1,v1),(2,v2)] h1 [] (nA [.t 6] false h.length P)).1:=by rw[tA zwM rfl hp rfl];exact znx
theorem zwJ:X.fn wM=some ZS:=by kernel_rfl
theorem zib {u0 u1 u2 v0 v1 v2:AV}{h h1:aA}{P:jA}(hp:oA h [u0,u1,u2]=some ([v0,v1,v2],h1)):gA X wM [u0,u1,u2] h P=(OH (gA X) X.gl [(0,v0),(1,v1),(2,v2)] h1 [] (nA [.t 6] false h.length P)).1:=by rw[tA zwJ rfl hp rfl];exact znl
theorem zwK:X.fn yK=some aT:=by kernel_rfl
theorem zic {u0 u1 u2 v0 v1 v2:AV}{h h1:aA}{P:jA}(hp:oA h [u0,u1,u2]=some ([v0,v1,v2],h1)):gA X yK [u0,u1,u2] h P=(nV (gA X) X.gl [(0,v0),(1,v1),(2,v2)] h1 [] (nA [] false h.length P)).1:=by rw[tA zwK rfl hp rfl];exact znp
theorem zvk:X.fn XJ=some ES:=by kernel_rfl
theorem zg3 {u0 v0:AV}{h h1:aA}{P:jA}(hp:oA h [u0]=some ([v0],h1)):gA X XJ [u0] h P=(OT (gA X) X.gl [(0,v0)] h1 [] (nA [.t 2] false h.length P)).1:=by rw[tA zvk rfl hp rfl];exact zje
theorem zw3:X.fn nK=some z0Y:=by kernel_rfl
theorem zhL {u0 u1 u2 u3 h P}:gA X nK [u0,u1,u2,u3] h P=(dV (gA X) X.gl [(0,u0),(1,u1),(2,u2),(3,u3)] h [] (nA [] false h.length P)).1:=by rw[SD zw3 rfl rfl];exact zmu
theorem zvw:X.fn VL=some TZ:=by kernel_rfl
theorem zgG {u0 v0:AV}{h h1:aA}{P:jA}(hp:oA h [u0]=some ([v0],h1)):gA X VL [u0] h P=(aU (gA X) X.gl [(0,v0)] h1 [] (nA [.t 2] false h.length P)).1:=by rw[tA zvw rfl hp rfl];exact zj4
theorem zw2:X.fn mK=some z0X:=by kernel_rfl
theorem zhK {u0 u1 u2 u3 u4 h P}:gA X mK [u0,u1,u2,u3,u4] h P=(cV (gA X) X.gl [(0,u0),(1,u1),(2,u2),(3,u3),(4,u4)] h [] (nA [] false h.length P)).1:=by rw[SD zw2 rfl rfl];exact zmp
theorem zvr:X.fn aK=some LS:=by kernel_rfl
theorem zgB {u0 v0:AV}{h h1:aA}{P:jA}(hp:oA h [u0]=some ([v0],h1)):gA X aK [u0] h P=(VT (gA X) X.gl [(0,v0)] h1 [] (nA [.t 2] false h.length P)).1:=by rw[tA zvr rfl hp rfl];exact zjz
theorem zws:X.fn wQ=some z0O:=by kernel_rfl
theorem zhB {u0 u1 h P}:gA X wQ [u0,u1] h P=(TU (gA X) X.gl [(0,u0),(1,u1)] h [] (nA [.t 4] false h.length P)).1:=by rw[SD zws rfl rfl];exact zlQ
theorem zwW:X.fn EQ=some z1l:=by kernel_rfl
theorem zin {u0 u1 v0 v1:AV}{h h1:aA}{P:jA}(hp:oA h [u0,u1]=some ([v0,v1],h1)):gA X EQ [u0,u1] h P=(vV (gA X) X.gl [(0,v0),(1,v1)] h1 [] (nA [.t 4] false h.length P)).1:=by rw[tA zwW rfl hp rfl];exact znK
theorem zvZ:X.fn nQ=some z06:=by kernel_rfl
theorem zhr {u0 u1 v0 v1:AV}{h h1:aA}{P:jA}(hp:oA h [u0,u1]=some ([v0,v1],h1)):gA X nQ [u0,u1] h P=(DU (gA X) X.gl [(0,v0),(1,v1)] h1 [] (nA [.t 4] false h.length P)).1:=by rw[tA zvZ rfl hp rfl];exact zkI
theorem zwt:X.fn xQ=some z0P:=by kernel_rfl
theorem zhC {u0 u1 h P}:gA X xQ [u0,u1] h P=(UU (gA X) X.gl [(0,u0),(1,u1)] h [] (nA [.t 4] false h.length P)).1:=by rw[SD zwt rfl rfl];exact zlT
theorem zw5:X.fn CQ=some z1a:=by kernel_rfl
theorem zhN {u0 u1 u2 h P}:gA X CQ [u0,u1,u2] h P=(fV (gA X) X.gl [(0,u0),(1,u1),(2,u2)] h [] (nA [] false h.length P)).1:=by rw[SD zw5 rfl rfl];exact zm6
theorem zwI:X.fn vM=some YS:=by kernel_rfl
theorem zia {u0 u1 v0 v1:AV}{h h1:aA}{P:jA}(hp:oA h [u0,u1]=some ([v0,v1],h1)):gA X vM [u0,u1] h P=(lV (gA X) X.gl [(0,v0),(1,v1)] h1 [] (nA [.t 4] false h.length P)).1:=by rw[tA zwI rfl hp rfl];exact znk
theorem zw1:X.fn AQ=some z0W:=by kernel_rfl
theorem zhJ {u0 u1 u2 h P}:gA X AQ [u0,u1,u2] h P=(bV (gA X) X.gl [(0,u0),(1,u1),(2,u2)] h [] (nA [] false h.length P)).1:=by rw[SD zw1 rfl rfl];exact zml
theorem zvp:X.fn TH=some PZ:=by kernel_rfl
theorem zg9 {u0 u1 v0 v1:AV}{h h1:aA}{P:jA}(hp:oA h [u0,u1]=some ([v0,v1],h1)):gA X TH [u0,u1] h P=(TT (gA X) X.gl [(0,v0),(1,v1)] h1 [] (nA [.t 4] false h.length P)).1:=by rw[tA zvp rfl hp rfl];exact zjv
theorem zvx:X.fn gQ=some UZ:=by kernel_rfl
theorem zgH {u0 v0:AV}{h h1:aA}{P:jA}(hp:oA h [u0]=some ([v0],h1)):gA X gQ [u0] h P=(bU (gA X) X.gl [(0,v0)] h1 [] (nA [.t 2] false h.length P)).1:=by rw[tA zvx rfl hp rfl];exact zj5
theorem zw0:X.fn lK=some z0V:=by kernel_rfl
theorem zhI {u0 u1 u2 u3 h P}:gA X lK [u0,u1,u2,u3] h P=(aV (gA X) X.gl [(0,u0),(1,u1),(2,u2),(3,u3)] h [] (nA [] false h.length P)).1:=by rw[SD zw0 rfl rfl];exact zmh
theorem zvu:X.fn eQ=some RZ:=by kernel_rfl
theorem zgE {u0 u1 v0 v1:AV}{h h1:aA}{P:jA}(hp:oA h [u0,u1]=some ([v0,v1],h1)):gA X eQ [u0,u1] h P=(YT (gA X) X.gl [(0,v0),(1,v1)] h1 [] (nA [.t 4] false h.length P)).1:=by rw[tA zvu rfl hp rfl];exact zj2
theorem zvs:X.fn TL=some QZ:=by kernel_rfl
theorem zgC {u0 v0:AV}{h h1:aA}{P:jA}(hp:oA h [u0]=some ([v0],h1)):gA X TL [u0] h P=(WT (gA X) X.gl [(0,v0)] h1 [] (nA [.t 2] false h.length P)).1:=by rw[tA zvs rfl hp rfl];exact zj0
attribute [go_sem] z43 xV yV z1P yL zL zjK zjL JL z1T z1U NJ z45 zjN KL z47 zjO zjP zjQ zpA zaj zak eH OJ zal z1V zam zmX zmY zq3 z3Y z3Z zna znb znc zq4 z4a z4b z4c zmE
attribute [go_sem] zmF zmG zmH zqy z3L z3M z3N z3O zmS zmT zmU zq2 z3V z3W z3X zmO zmP zmQ zq1 z3S z3T z3U zjB zjC zp9 z1Q z1R zk8 zk9 zkA zpJ z2p z2q z2r zk5 zk6 zpI z2n z2o zk0
attribute [go_sem] zk1 zk2 zpH z2k z2l z2m zkw zkx zky zpG z2h z2i z2j zjZ zka zkb zkc zpB z1W z1X z1Y z1Z zlO zlP zqg z3g z3h zlL zlM zqf z3e z3f zlA zlB zlC zlD zqc zqd z2X z2Y
attribute [go_sem] z2Z z3a znC z4x zn7 zn8 zn9 zq9 z4u z4v z4w znH znI zqB z40 z42 znu znv znw zq7 z4m z4n z4o zjh zji zjj zjk zjl zjm zjn zjo zp1 zp2 zp3 zp4 zp5 z19 z1A z1B z1C
attribute [go_sem] z1D z1E z1F z1G ziV ziW zpy z13 z14 zmM z4C zq0 z3R SP zmJ zmK zqz z3P z3Q zjc zjd zp0 z17 z18 zn3 zn4 zq8 z4s z4t zkq z49 zpF z2g KP zki zkj zkk z48 zpD zpE
attribute [go_sem] z2d z2e z2f qU zke zkf zkg zpC z2a z2b z2c z4A zkP ZF z2y zlh zli zlj zlk zll zlm zpR zpS z2H z2I z2J z2K z2L z2M zl4 zl5 zl6 zqb z2U z2V z2W zlo zlw zlx zly
attribute [go_sem] z4B zlz zl0 zl1 zl2 zlp zlq zlr zls zlt zlu zlv zpT zpX zpY zpZ zqa zpU zpV zpW zan zar z2R z2S NI zas z2T zat zau z2N zao zap z2O zaq z2P z2Q zkU zkV zpN z25
attribute [go_sem] z2A zjI z1S zm0 zm1 zm2 zm3 zm4 zm5 zqs zqt zqu z39 z3A z3B z3C z3D z3E znf zng znh zq5 z4d z4e z4f znz zn0 zn1 z4p z4q z4r ziZ zja zpz z15 z16 zjq zjr zjs zp6
attribute [go_sem] zp7 z1H z1I z1J znE znF zqA z4y z4z zjx zjy zp8 z1K z1L zkn XE zlX zlY zqj z3m z3n zle zlf zpQ z2F z2G zkG zkH zpK z2s z2t zkX zkY zpO z2B z2C zkR zkS zpM z2z
attribute [go_sem] z21 zkM zkN z2w z2x zla zlb zpP z2D z2E zlH zlI zlJ zqe z3b z3c z3d zme zmf zmg zqk zql z3o z3p z3q znm znn zno z4g z4h z4i znq znr zns zq6 z4j z4k z4l zmv zmw
attribute [go_sem] zmx zmy zqr z31 z34 z37 z38 zmq zmr zms zmt zqq z3x z3y z3z z30 zlR zlS zqh z3i z3j zkJ zkK zpL z2u z2v zlU zlV zqi z3k z3l zm7 zm8 zm9 zmA zmB zmC zqv zqw zqx
attribute [go_sem] z3F z3G z3H z3I z3J z3K zmm zmn zmo zqo zqp z3u z3v z3w zj6 zj7 zj8 z1M z1N z1O zmi zmj zmk zqm zqn z3r z3s z3t
section
abbrev eI (n:Int):PV:=.int .i64 n
abbrev AL (l:List Int):AV:=.p (.sl none (l.map eI))
abbrev GA (L:List Int)(a:Int):Obj:=.box [AL L,AI a]
def EI (x n:Int):Int:=if n<1 then 0 else if x.tmod n<0 then IntKind.i64.wrap (x.tmod n+n) else x.tmod n
theorem zd6 (x n:Int)(h:aA)(K:jA):gA X cK [AI x,AI n] h K=K (AI (EI x n)) h []:=by
 refine sA ?_;rw[zgO rfl];simp only[fU,go_sem];unfold EI;by_cases h1:n<1
 ·simp only[h1,if_true]
 ·simp only[h1,if_false,show ¬n=0 by omega]
  split <;> rfl
theorem zga (x n:Int)(h1:1<=n)(h2:n<=4611686018427387904):0<=EI x n/\EI x n<n:=by
 unfold EI;rw[if_neg (by omega)]
 have:=Int.tmod_lt_of_pos x (show 0<n by omega)
 have h3 : -n<x.tmod n:=by
  have:=Int.lt_tmod_of_pos x (show 0<n by omega)
  exact this
 split
 ·rw[rA _ (by omega) (by omega)];omega
 ·omega
def eC (L:List Int)(a n:Int):Int:=
 if L.length=0 then EI (IntKind.i64.wrap ((a+1)*7919)) n
 else EI (IntKind.i64.wrap (EI (L.getD (a.tmod L.length).toNat 0) 1073741824+IntKind.i64.wrap (IntKind.i64.wrap (a.tdiv L.length)*IntKind.i64.wrap (7919+a.tmod L.length)))) n
theorem fR (L:List Int)(a n:Int)(h1:1<=n)(h2:n<=4611686018427387904):0<=eC L a n/\eC L a n<n:=by
 unfold eC;split <;> exact zga _ _ h1 h2
theorem nI {h:aA}{id:Nat}{o':Obj}(hid:id<h.length):(h.set id o')[id]?=some o':=by simp [hid]
theorem oH {h:aA}{id:Nat}{o:Obj}(hh:h[id]?=some o):id<h.length:=(List.getElem?_eq_some_iff.1 hh).1
def XA (n:Nat)(a:Int):Prop:=0<=a/\a+n<4611686018427387904
theorem fC {n m:Nat}{a b:Int}(H:XA m a)(h:a<=b)(hn:b+n<=a+m):XA n b:=by unfold XA at *;omega
theorem gI {a:Int}(H:XA 14 a):XA 0 (a)/\XA 0 (a+1)/\XA 0 (a+1+1)/\XA 0 (a+1+1+1)/\XA 0 (a+1+1+1+1)/\XA 0 (a+1+1+1+1+1)/\XA 0 (a+1+1+1+1+1+1)/\XA 0 (a+1+1+1+1+1+1+1)/\XA 0 (a+1+1+1+1+1+1+1+1)/\XA 0 (a+1+1+1+1+1+1+1+1+1)/\XA 0 (a+1+1+1+1+1+1+1+1+1+1)/\XA 0 (a+1+1+1+1+1+1+1+1+1+1+1)/\XA 0 (a+1+1+1+1+1+1+1+1+1+1+1+1)/\XA 0 (a+1+1+1+1+1+1+1+1+1+1+1+1+1)/\XA 0 (a+1+1+1+1+1+1+1+1+1+1+1+1+1+1):=by
 unfold XA at *;omega
def Gen (f:Nat)(args:List AV)(L:List Int)(a a2:Int)(v:AV):Prop:=∀(h:aA) (id:Nat) (K:jA),h[id]?=some (GA L a)->gA X f (.ref id 0::args) h K=K v (h.set id (GA L a2)) []
section
variable {f:Nat} {args:List AV} {L:List Int} {a a2:Int} {v:AV} {h l:aA} {id:Nat} {K:jA}
theorem Gen.set (g:Gen f args L a a2 v)(hid:id<h.length):gA X f (.ref id 0::args) (h.set id (GA L a)) K=K v (h.set id (GA L a2)) []:=by
 rw[g _ _ _ (nI hid),List.set_set]
theorem Gen.app (g:Gen f args L a a2 v)(hid:id<h.length):gA X f (.ref id 0::args) (h.set id (GA L a)++l) K=K v (h.set id (GA L a2)++l) []:=by
 rw[g _ _ _ (by rw[zbM (by simpa using hid)];exact nI hid),zeg (by simpa using hid),List.set_set]
theorem Gen.hd (g:Gen f args L a a2 v):gA X f (.ref 0 0::args) (GA L a::l) K=K v (GA L a2::l) []:=by
 rw[g _ _ _ rfl];rfl
theorem Gen.of (H:∀ (h:aA) (id:Nat),id<h.length->gA X f (.ref id 0::args) (h.set id (GA L a)) λv1 h1 x1=>v1=v/\h1=h.set id (GA L a2)/\x1=[]):Gen f args L a a2 v:=by
 intro h id K hh;have hid:=oH hh
 have:h.set id (GA L a)=h:=by
  apply List.ext_getElem?
  intro i;rw[List.getElem?_set];split
  ·rename_i e;subst e;rw[hh]
  ·rfl
 have k:=H h id hid
 rw[this]at k;exact sA k
end
def VF (f:Nat)(args:List AV)(L:List Int)(a:Int)(Q:AV->Int->Prop):Prop:=∀(h:aA) (id:Nat),h[id]?=some (GA L a)->∃v a2,Q v a2/\∀K:jA,gA X f (.ref id 0::args) h K=K v (h.set id (GA L a2)) []
section
variable {f:Nat} {args:List AV} {L:List Int} {a:Int} {Q:AV->Int->Prop}
theorem VF.set (g:VF f args L a Q){h:aA}{id:Nat}(hid:id<h.length):∃v a2,Q v a2/\∀K:jA,gA X f (.ref id 0::args) (h.set id (GA L a)) K=K v (h.set id (GA L a2)) []:=by
 obtain⟨v,a2,q,r⟩:=g _ _ (nI hid);exact⟨v,a2,q,λK=>by rw[r,List.set_set]⟩
theorem VF.app (g:VF f args L a Q){h l:aA}{id:Nat}(hid:id<h.length):∃v a2,Q v a2/\∀K:jA,gA X f (.ref id 0::args) (h.set id (GA L a)++l) K=K v (h.set id (GA L a2)++l) []:=by
 obtain⟨v,a2,q,r⟩:=g (h.set id (GA L a)++l) id (by rw[zbM (by simpa using hid)];exact nI hid)
 exact⟨v,a2,q,λK=>by rw[r,zeg (by simpa using hid),List.set_set]⟩
theorem VF.hd (g:VF f args L a Q){l:aA}:∃v a2,Q v a2/\∀K:jA,gA X f (.ref 0 0::args) (GA L a::l) K=K v (GA L a2::l) []:=g (GA L a::l) 0 rfl
theorem VF.of (H:∀ (h:aA) (id:Nat),id<h.length->gA X f (.ref id 0::args) (h.set id (GA L a)) λv1 h1 x1=>∃ a2,Q v1 a2/\h1=h.set id (GA L a2)/\x1=[]):VF f args L a Q:=by
 intro h id hh;have hid:=oH hh
 have:h.set id (GA L a)=h:=by
  apply List.ext_getElem?
  intro i;rw[List.getElem?_set];split
  ·rename_i e;subst e;rw[hh]
  ·rfl
 have k:=H h id hid
 rw[this]at k;obtain⟨v,h',x,⟨a2,q,e1,e2⟩,r⟩:=gA.one z9m k;subst e1;subst e2
 exact⟨v,a2,q,r⟩
end
def zD (l:List Int)(L:List Int)(a:Int):Int:=l.getD (eC L a l.length).toNat 0
theorem HY {l L:List Int}{a:Int}(hl:0<l.length)(hl2:l.length<4611686018427387904):zD l L a∈l:=by
 obtain⟨b1,b2⟩:=fR L a l.length (by omega) (by omega)
 unfold zD;have:(eC L a l.length).toNat<l.length:=by omega
 simp only[List.getD,List.getElem?_eq_getElem this,Option.getD_some];exact List.getElem_mem _
def isI:PV->Bool
 | .int .i64 _=>true
 | _=>false
def unI:PV->Int
 | .int _ n=>n
 | _=>0
theorem zuQ {xs:List PV}(h:xs.all isI=true):xs=(xs.map unI).map eI:=by
 induction xs with
 | nil=>rfl
 | cons x r ih=>
  simp only[List.all_cons,Bool.and_eq_true]at h;simp only[List.map_cons];rw[<-ih h.2];cases x with
  | int k n=>cases k <;> first|rfl|cases h.1
  | _=>cases h.1
theorem zbI (L:List Int)(a n:Int)(hp:XA 0 a):Gen eG [AI n] L a (a+1) (AI (eC L a n)):=by
 refine Gen.of λh id hid=>?_
 rw[zgT rfl];obtain⟨h0,h1⟩:=hp;have w1:IntKind.i64.wrap (a+1)=a+1:=rA _ (by omega) (by omega)
 have w2:IntKind.i64.wrap (a+1-1)=a:=by rw[rA _ (by omega) (by omega)];omega
 have hs:∀o',(h.set id o')[id]?=some o':=λo'=>nI hid
 rcases Nat.eq_zero_or_pos L.length with hl|hl
 ·simp only[IP,go_sem,hs,zd6,hl,w1]
  simp only[eC,hl,if_true]
 ·have e1:((L.length:Int)=0)=False:=by simp only[eq_iff_iff,iff_false];omega
  have e2:0<=a.tmod L.length:=Int.tmod_nonneg _ h0
  have e3:a.tmod L.length<L.length:=Int.tmod_lt_of_pos _ (by omega)
  have e4:=jW (k:=.i64) e2
  have e5:(L.map eI)[(a.tmod L.length).toNat]?=some (eI (L.getD (a.tmod L.length).toNat 0)):=by
   rw[sB eI (show(a.tmod L.length).toNat<L.length by omega)]
   simp [List.getD,show(a.tmod L.length).toNat<L.length by omega]
  simp only[IP,go_sem,hs,zd6,e1,w1,w2,e4,e5];simp only[eC,show ¬L.length=0 by omega,if_false]
section
variable {L:List Int} {a:Int} {h l:aA} {id:Nat} {K:jA}
theorem SO (hid:id<h.length)(hp:XA 0 a)(n:Int):gA X eG [.ref id 0,AI n] (h.set id (GA L a)) K=K (AI (eC L a n)) (h.set id (GA L (a+1))) []:=(zbI L a n hp).set hid
theorem zdE (hid:id<h.length)(hp:XA 0 a)(n:Int):gA X eG [.ref id 0,AI n] (h.set id (GA L a)++l) K=K (AI (eC L a n)) (h.set id (GA L (a+1))++l) []:=(zbI L a n hp).app hid
theorem zbH (hp:XA 0 a)(n:Int):Gen KG [AI n] L a (a+1) (AB (decide (eC L a n=0))):=by
 refine Gen.of λh id hid=>?_
 rw[zgS rfl];simp only[kU,go_sem,SO hid hp]
theorem zdC (hid:id<h.length)(hp:XA 0 a)(n:Int):gA X KG [.ref id 0,AI n] (h.set id (GA L a)) K=K (AB (decide (eC L a n=0))) (h.set id (GA L (a+1))) []:=(zbH hp n).set hid
theorem zdB (hid:id<h.length)(hp:XA 0 a)(n:Int):gA X KG [.ref id 0,AI n] (h.set id (GA L a)++l) K=K (AB (decide (eC L a n=0))) (h.set id (GA L (a+1))++l) []:=(zbH hp n).app hid
theorem z4Z (hp:XA 0 a)(xs:List PV)(hx:xs.all isI=true)(hl:0<xs.length)(hl2:xs.length<4611686018427387904) :
 Gen TD [.p (.sl none xs)] L a (a+1) (AI (zD (xs.map unI) L a)):=by
 refine Gen.of λh id hid=>?_
 rw[zgU rfl];obtain⟨b1,b2⟩:=fR L a xs.length (by omega) (by omega)
 have e4:=jW (k:=.i64) b1
 have e5:xs[(eC L a xs.length).toNat]?=some (eI (zD (xs.map unI) L a)):=by
  have hm:=zuQ hx
  generalize hq:xs.map unI=q at *;subst hm;simp only[List.length_map]at *;rw[sB eI (show(eC L a q.length).toNat<q.length by omega)]
  simp [zD,List.getD,show(eC L a q.length).toNat<q.length by omega]
 simp only[lU,go_sem,SO hid hp,e4,e5]
theorem z7Y (hid:id<h.length)(hp:XA 0 a){xs:List PV}(hx:xs.all isI=true)(hl:0<xs.length)(hl2:xs.length<4611686018427387904) :
 gA X TD [.ref id 0,.p (.sl none xs)] (h.set id (GA L a)) K=K (AI (zD (xs.map unI) L a)) (h.set id (GA L (a+1))) []:=(z4Z hp xs hx hl hl2).set hid
theorem zdF (hid:id<h.length)(hp:XA 0 a){xs:List PV}(hx:xs.all isI=true)(hl:0<xs.length)(hl2:xs.length<4611686018427387904) :
 gA X TD [.ref id 0,.p (.sl none xs)] (h.set id (GA L a)++l) K=K (AI (zD (xs.map unI) L a)) (h.set id (GA L (a+1))++l) []:=(z4Z hp xs hx hl hl2).app hid
theorem zdG (hp:XA 0 a){xs:List PV}(hx:xs.all isI=true)(hl:0<xs.length)(hl2:xs.length<4611686018427387904) :
 gA X TD [.ref 0 0,.p (.sl none xs)] (GA L a::l) K=K (AI (zD (xs.map unI) L a)) (GA L (a+1)::l) []:=(z4Z hp xs hx hl hl2).hd
def rD (u v:Int)(L:List Int)(a:Int):Int:=u+eC L a (v-u+1)
theorem UR {u v:Int}(L:List Int)(a:Int)(h1:u<=v)(h2:v<=u+4611686018427387900):u<=rD u v L a/\rD u v L a<=v:=by
 have:=fR L a (v-u+1) (by omega) (by omega)
 unfold rD;omega
theorem z5a (hp:XA 0 a)(u v:Int)(huv:u<=v)(hu : -1152921504606846976<=u)(hv:v<=1152921504606846976) :
 Gen MD [AI u,AI v] L a (a+1) (AI (rD u v L a)):=by
 refine Gen.of λh id hid=>?_
 rw[zgV rfl];obtain⟨b1,b2⟩:=UR L a huv (by omega)
 have w1:IntKind.i64.wrap (v-u)=v-u:=rA _ (by omega) (by omega)
 have w2:IntKind.i64.wrap (v-u+1)=v-u+1:=rA _ (by omega) (by omega)
 have w3:IntKind.i64.wrap (u+eC L a (v-u+1))=rD u v L a:=rA (rD u v L a) (by omega) (by omega)
 simp only[mU,go_sem,show ¬v<u by omega,w1,w2,SO hid hp,w3]
theorem zdJ (hid:id<h.length)(hp:XA 0 a){u v:Int}(huv:u<=v)(hu : -1152921504606846976<=u)(hv:v<=1152921504606846976) :
 gA X MD [.ref id 0,AI u,AI v] (h.set id (GA L a)) K=K (AI (rD u v L a)) (h.set id (GA L (a+1))) []:=(z5a hp u v huv hu hv).set hid
theorem zdH (hid:id<h.length)(hp:XA 0 a){u v:Int}(huv:u<=v)(hu : -1152921504606846976<=u)(hv:v<=1152921504606846976) :
 gA X MD [.ref id 0,AI u,AI v] (h.set id (GA L a)++l) K=K (AI (rD u v L a)) (h.set id (GA L (a+1))++l) []:=(z5a hp u v huv hu hv).app hid
theorem zdI (hp:XA 0 a){u v:Int}(huv:u<=v)(hu : -1152921504606846976<=u)(hv:v<=1152921504606846976) :
 gA X MD [.ref 0 0,AI u,AI v] (GA L a::l) K=K (AI (rD u v L a)) (GA L (a+1)::l) []:=(z5a hp u v huv hu hv).hd
end
attribute [go_sem ↓] SO zdE zdC zdB z7Y zdF zdG zdJ zdH zdI
attribute [go_sem] SO zdE zdC zdB z7Y zdF zdG zdJ zdH zdI isI unI
end
section
section
variable {α β:Type} [DecidableEq α]
def zC (key:α->PV)(val:β->AV):Nat->List (α×β)->List ME
 | _,[]=>[]
 | n,e::r=>⟨key e.1,val e.2,n⟩::zC key val (n+1) r
def lA (key:α->PV)(val:β->AV)(l:List (α × β)):Obj:=.amap (zC key val 0 l) l.length
def eD (k:α):List (α×β)->Option Nat
 | []=>none
 | e::r=>if k=e.1 then some 0 else(eD k r).map (· + 1)
def iB (k:α):List (α×β)->Option β
 | []=>none
 | e::r=>if k=e.1 then some e.2 else iB k r
def IB (k:α)(v:β):List (α×β)->List (α×β)
 | []=>[(k,v)]
 | e::r=>if k=e.1 then(k,v)::r else e::IB k v r
def gL (key:α->PV):Prop:=∀a b,PV.eqv (key a) (key b)=some (decide (a=b))
theorem PG:gL PV.str:=λa b=>rfl
theorem zcc:gL (λn:Int=>PV.int .i64 n):=λa b=>by simp [PV.eqv,PV.eq1]
theorem iF {s:List UInt8}:cD (none,[2]) (.p (.str s))=some (.str s):=by simp [cD,PV.key,PV.shp,PV.sc,PV.cells,PV.kind]
theorem zcd {n:Int}{k:IntKind}:cD (none,[0]) (.p (.int k n))=some (.int k n):=by simp [cD,PV.key,PV.shp,PV.sc,PV.cells,PV.kind]
variable {key:α->PV} {val:β->AV}
theorem z54 (hk:gL key)(k:α):∀(l:List (α×β)) (n:Nat),QC (key k) (zC key val n l)=some (eD k l)
 | [],n=>rfl
 | e::r,n=>by
  simp only[zC,QC,hk k e.1,eD];by_cases h:k=e.1
  ·simp [h]
  ·simp [h,z54 hk k r (n+1)]
theorem zc8:∀ (l:List (α × β))(n:Nat),(zC key val n l).length=l.length
 | [],n=>rfl
 | e::r,n=>by simp [zC,zc8 r (n+1)]
theorem fJ:∀ (l:List (α × β))(n i:Nat),(zC key val n l)[i]?=(l[i]?).map λe=>⟨key e.1,val e.2,n+i⟩
 | [],n,i=>rfl
 | e::r,n,0=>rfl
 | e::r,n,i+1=>by simp only[zC,List.getElem?_cons_succ,fJ r (n+1) i];rw[show n+1+i=n+(i+1) by omega]
theorem zeJ {k:α}:∀{l:List (α×β)} {i:Nat},eD k l=some i->i<l.length
 | [],i,h=>by cases h
 | e::r,i,h=>by
  unfold eD at h;split at h
  ·cases h;simp
  ·obtain⟨j,hj,e2⟩:=Option.map_eq_some_iff.1 h
   have:=zeJ hj;simp;omega
theorem z8u {k:α}:∀{l:List (α×β)} {i:Nat},eD k l=some i->l[i]?=(iB k l).map λv=>(k,v)
 | [],i,h=>by cases h
 | e::r,i,h=>by
  unfold eD at h;unfold iB;split at h
  ·rename_i hk;cases h;simp [hk]
  ·rename_i hk
   obtain⟨j,hj,e2⟩:=Option.map_eq_some_iff.1 h;subst e2;rw[if_neg hk,List.getElem?_cons_succ];exact z8u hj
theorem z8v {k:α}:∀{l:List (α×β)},eD k l=none->iB k l=none
 | [],h=>rfl
 | e::r,h=>by
  unfold eD at h;unfold iB;split at h
  ·cases h
  ·rename_i hk
   rw[if_neg hk];exact z8v (by simpa using h)
theorem z8w {k:α}:∀{l:List (α×β)} {i:Nat},eD k l=some i->(iB k l).isSome=true
 | [],i,h=>by cases h
 | e::r,i,h=>by
  unfold eD at h;unfold iB;split at h
  ·rename_i hk;simp [hk]
  ·rename_i hk
   obtain⟨j,hj,e2⟩:=Option.map_eq_some_iff.1 h;rw[if_neg hk];exact z8w hj
theorem zeI {k:α}{l:List (α × β)}:(eD k l).isSome=(iB k l).isSome:=by
 generalize h:eD k l=o;cases o with
 | none=>rw[z8v h];rfl
 | some i=>rw[z8w h];rfl
theorem zqS {k:α}{l:List (α × β)}{n:Nat}:((eD k l).bind λi=>(zC key val n l)[i]?).map ME.val=(iB k l).map val:=by
 cases h:eD k l with
 | none=>rw[z8v h];rfl
 | some i=>
  simp only[Option.bind_some,fJ,z8u h];cases iB k l <;> rfl
theorem jZ {k:α}{v:β}:∀{l:List (α×β)},eD k l=none->IB k v l=l++[(k,v)]
 | [],h=>rfl
 | e::r,h=>by
  unfold eD at h;unfold IB;split at h
  ·cases h
  ·rename_i hk
   rw[if_neg hk,jZ (by simpa using h)];rfl
theorem zeD {k:α}{v:β}:∀{l:List (α×β)} {i:Nat},eD k l=some i->IB k v l=l.set i (k,v)
 | [],i,h=>by cases h
 | e::r,i,h=>by
  unfold eD at h;unfold IB;split at h
  ·rename_i hk;cases h;simp [hk]
  ·rename_i hk
   obtain⟨j,hj,e2⟩:=Option.map_eq_some_iff.1 h;subst e2;rw[if_neg hk,zeD hj];rfl
theorem zc9 (k:α)(v:β):∀(l:List (α×β)) (n:Nat),zC key val n (l++[(k,v)])=zC key val n l++[⟨key k,val v,n+l.length⟩]
 | [],n=>rfl
 | e::r,n=>by simp only[List.cons_append,zC,zc9 k v r (n+1),List.length_cons];rw[show n+1+r.length=n+(r.length+1) by omega]
theorem zrd {k:α}{v:β}{l:List (α × β)}{i n:Nat}(h:eD k l=some i):(zC key val n l).modify i (λe=>{ e with val:=val v })=zC key val n (l.set i (k,v)):=by
 apply List.ext_getElem?
 intro j;rw[List.getElem?_modify,fJ,fJ,List.getElem?_set];have hi:=zeJ h
 have hg:=z8u h
 by_cases hij:i=j
 ·subst hij
  rw[hg];simp only[if_true,hi];obtain⟨w,hw⟩:=Option.isSome_iff_exists.1 (z8w h);rw[hw];rfl
 ·simp [hij]
variable {h:aA} {id:Nat} {l:List (α × β)} {kk:Sh × List Nat} {k:α}
theorem cR (hh:h[id]?=some (lA key val l)):mC h (.mp id)=some (id,zC key val 0 l,l.length):=by
 simp only[mC,hh,lA]
theorem qH (hk:gL key)(hh:h[id]?=some (lA key val l))(hq:cD kk (.p (key k))=some (key k)){ok:Bool}{z:AV} :
 UA kk ok z (.mp id) (.p (key k)) h=some (bif ok then .tup [((iB k l).map val).getD z,AV.p (.bool (iB k l).isSome)] else((iB k l).map val).getD z):=by
 simp only[UA,hq,cR hh,Option.map_some,z54 hk,zqS,Option.isSome_map];rfl
theorem HK (hk:gL key)(hh:h[id]?=some (lA key val l))(hq:cD kk (.p (key k))=some (key k)){v:β}(hv:fI (val v)=true) :
 ZA kk (.mp id) (.p (key k)) (val v) h=some (.und,h.set id (lA key val (IB k v l)),dC id (val v)):=by
 simp only[ZA,hq,cR hh,hv,z54 hk];cases hw:eD k l with
 | none=>
  simp only[lA,jZ hw,zc9,List.length_append,List.length_cons,List.length_nil,Nat.zero_add]
 | some i=>
  simp only[lA,zeD hw,zrd hw,List.length_set]
theorem zgs {l:List (α × β)}{i:Nat}(hi:i<l.length):(zC key val 0 l).findIdx? (λe=>e.born==i)=some i:=by
 rw[List.findIdx?_eq_some_iff_getElem];have hl:=zc8 (key:=key) (val:=val) l 0
 have hb:∀j (hj:j<(zC key val 0 l).length),(zC key val 0 l)[j].born=j:=λj hj=>by
  have h1:=List.getElem?_eq_getElem hj
  rw[fJ,List.getElem?_eq_getElem (by omega)]at h1
  simp only[Option.map_some,Option.some.injEq]at h1;rw[<-h1];simp
 refine⟨by omega,by simp [hb],λj hj=>?_⟩
 simp [hb];omega
theorem FM (k k':α)(v:β):∀(l:List (α×β)),iB k' (IB k v l)=if k'=k then some v else iB k' l
 | []=>by simp [IB,iB]
 | e::r=>by
  unfold IB;by_cases h1:k=e.1
  ·rw[if_pos h1];simp only[iB]
   by_cases h2:k'=k
   ·simp [h2]
   ·rw[if_neg h2,if_neg h2,if_neg (by rw[<-h1];exact h2)]
  ·rw[if_neg h1];simp only[iB,FM k k' v r]
   by_cases h2:k'=e.1
   ·rw[if_pos h2,if_pos h2,if_neg (by rw[h2];exact λh=>h1 h.symm)]
   ·rw[if_neg h2,if_neg h2]
def KC (l:List (α × β)):List α:=l.map (·.1)
theorem ZV (e:α × β)(r:List (α × β)):KC (e::r)=e.1::KC r:=rfl
theorem z5v (k:α)(v:β):∀(l:List (α×β)),KC (IB k v l)=if k∈KC l then KC l else KC l++[k]
 | []=>rfl
 | e::r=>by
  unfold IB;by_cases h1:k=e.1
  ·rw[if_pos h1];simp [ZV,h1]
  ·rw[if_neg h1]
   rw[ZV,ZV,z5v k v r];by_cases h2:k∈KC r
   ·rw[if_pos h2,if_pos (by simp [h2])]
   ·rw[if_neg h2,if_neg (by simp [h1,h2])];rfl
theorem zpw (k:α)(v:β){l:List (α × β)}(h:(KC l).Nodup):(KC (IB k v l)).Nodup:=by
 rw[z5v];split
 ·exact h
 ·rename_i hk
  rw[List.nodup_append];exact⟨h,by simp,λa ha b hb=>by rw[List.mem_singleton]at hb;subst hb;intro e;subst e;exact hk ha⟩
theorem zbN {k:α}:∀{l:List (α×β)},(iB k l).isSome=true↔k∈KC l
 | []=>by simp [iB,KC]
 | e::r=>by
  unfold iB;by_cases h:k=e.1
  ·simp [h,KC]
  ·have:=zbN (k:=k) (l:=r)
   simp only[KC]at this;simp [h,KC,this]
theorem JK {j m:Nat}{seen:List Nat}{K:AV->aA->Esc->Prop}(hj:h[j]?=some (.iter (some m) l.length seen l.length))(hm:h[m]?=some (lA key val l))
 (hend:(∀i,i<l.length->i∈seen)->K (.tup [AV.p (.bool false)]) (h.set j (.iter none 1 [] 0)) [])
 (hstep:∀(i:Nat) (hi:i<l.length),i∉seen->K (.tup [AV.p (.bool true),.p (key l[i].1),val l[i].2]) (h.set j (.iter (some m) l.length (seen++[i]) l.length)) []):nxK (.it j) h K:=by
 unfold nxK dR;simp only[hj,cR hm,and_self,if_true];have hmem:∀e∈(zC key val 0 l).filter (λe=>!seen.contains e.born),∃(i:Nat) (hi:i<l.length),e=⟨key l[i].1,val l[i].2,i⟩/\i∉seen:=by
  intro e he;obtain⟨h1,h2⟩:=List.mem_filter.1 he;obtain⟨i,hi,e2⟩:=List.mem_iff_getElem?.1 h1 |>.elim λi hi=>by
   rw[fJ]at hi;obtain⟨x,hx,e3⟩:=Option.map_eq_some_iff.1 hi;obtain⟨hl,e4⟩:=List.getElem?_eq_some_iff.1 hx;exact(⟨i,hl,by rw[<-e3,<-e4];simp⟩:∃(i:Nat) (hi:i<l.length),e=⟨key l[i].1,val l[i].2,i⟩)
  refine⟨i,hi,e2,?_⟩;rw[e2]at h2;simpa using h2
 have hnil:(zC key val 0 l).filter (λe=>!seen.contains e.born)=[]->∀i,i<l.length->i∈seen:=by
  intro hf i hi;have h1:=List.filter_eq_nil_iff.1 hf ⟨key l[i].1,val l[i].2,i⟩ (by
   apply List.mem_iff_getElem?.2
   exact⟨i,by rw[fJ,List.getElem?_eq_getElem hi];simp⟩)
  simpa using h1
 generalize (zC key val 0 l).filter (λe=>!seen.contains e.born)=F at *
 cases F with
 | nil=>
  refine⟨by simp,λy hy=>?_⟩
  rw[List.mem_singleton]at hy;subst hy;exact hend (hnil rfl)
 | cons e F=>
  refine⟨by simp,λy hy=>?_⟩
  obtain⟨e',he',rfl⟩:=List.mem_map.1 hy;obtain⟨i,hi,e2,h2⟩:=hmem e' he';subst e2;exact hstep i hi h2
theorem RM (hh:h[id]?=some (lA key val l)):WB (.mp id) h=some (.it h.length,h++[.iter (some id) l.length [] l.length],[]):=by
 simp only[WB,cR hh]
theorem GK {j m:Nat}{seen:List Nat}{i:Nat}(hj:h[j]?=some (.iter (some m) l.length (seen++[i]) l.length))(hm:h[m]?=some (lA key val l))(hi:i<l.length) :
 ZB (.it j) h=some (.tup [.p (key l[i].1),val l[i].2],h,[]):=by
 simp only[ZB,hj,cR hm,List.getLast?_append,List.getLast?_singleton,Option.some_or,if_true];have hb:=zgs (key:=key) (val:=val) hi
 have hg:=fJ (key:=key) (val:=val) l 0 i
 rw[List.getElem?_eq_getElem hi]at hg;have hf:(zC key val 0 l).find? (λe=>e.born==i)=some ⟨key l[i].1,val l[i].2,i⟩:=by
  rw[List.find?_eq_some_iff_getElem];rw[List.findIdx?_eq_some_iff_getElem]at hb;obtain⟨h1,h2,h3⟩:=hb;refine⟨by simp,i,h1,?_,λj hj=>by simpa using h3 j hj⟩
  have:=List.getElem?_eq_getElem h1;rw[hg]at this;simpa using (Option.some.inj this).symm
 rw[hf];rfl
theorem bS {n:Nat}{seen:List Nat}(hd:seen.Nodup)(hb:∀ i∈seen,i<n)(ha:∀ i,i<n->i∈seen):seen.Perm (List.range n):=by
 rw[List.perm_ext_iff_of_nodup hd List.nodup_range];intro i;rw[List.mem_range];exact⟨hb i,ha i⟩
end
end
def low (a b:Int):Int×Int:=(a.tdiv (Int.gcd a b),b.tdiv (Int.gcd a b))
theorem OQ (a b:Int)(hb:0<b):0<(Int.gcd a b:Int):=by
 have:Int.gcd a b≠0:=by
  intro h;have:=(Int.gcd_eq_zero_iff.1 h).2;omega
 omega
theorem zqU (a b:Int):(low a b).1*(Int.gcd a b:Int)=a:=by
 unfold low;exact Int.tdiv_mul_cancel (Int.gcd_dvd_left ..)
theorem zcw (a b:Int):(low a b).2*(Int.gcd a b:Int)=b:=by
 unfold low;exact Int.tdiv_mul_cancel (Int.gcd_dvd_right ..)
theorem z5y (a b:Int)(hb:0<b):0<(low a b).2:=by
 have h1:=zcw a b
 have h2:=OQ a b hb
 rcases Int.lt_trichotomy (low a b).2 0 with h|h|h
 ·have:=Int.mul_neg_of_neg_of_pos h h2;omega
 ·rw[h]at h1;omega
 ·exact h
theorem zcx (a b:Int)(hb:0<b):(low a b).2<=b:=by
 have h1:=zcw a b
 have h2:=OQ a b hb
 have h3:=z5y a b hb
 have:(low a b).2*1<=(low a b).2*(Int.gcd a b:Int):=Int.mul_le_mul_of_nonneg_left (by omega) (by omega)
 omega
theorem zcv (a b:Int)(hb:0<b):(low a b).1.natAbs<=a.natAbs:=by
 have h1:=zqU a b
 have h2:=OQ a b hb
 have h3:((low a b).1*(Int.gcd a b:Int)).natAbs=a.natAbs:=by rw[h1]
 rw[Int.natAbs_mul]at h3;rw[<-h3];exact Nat.le_mul_of_pos_right _ (by omega)
section
variable {h:aA} {K:jA}
theorem s_Out (n a b:Int):gA X dG [AI n,AI a,AI b] h K=K (AB (decide (n<a)||decide (b<n))) h []:=by
 refine sA ?_;rw[zg4 rfl];by_cases h1:n<a <;> simp only[PT,go_sem,h1]
theorem UO (n a b:Int):gA X yE [AI n,AI a,AI b] h K=K (AB (decide (a<=n)&&decide (n<=b))) h []:=by
 refine sA ?_;rw[zhy rfl];by_cases h1:a<=n <;> simp only[IU,go_sem,h1]
theorem zr4 (n a b:Int):(decide (n<a)||decide (b<n)) = !(decide (a<=n)&&decide (n<=b)):=by
 rw[Bool.eq_iff_iff];simp
theorem aS (n:Int):gA X kK [AI n] h K=K (AI n.sign) h []:=by
 refine sA ?_;rw[zh4 rfl];rcases Int.lt_trichotomy n 0 with h1|h1|h1
 ·simp only[DL,go_sem,h1,Int.sign_eq_neg_one_of_neg h1]
 ·subst h1;simp only[DL,go_sem,Int.sign_zero]
 ·simp only[DL,go_sem,show ¬n<0 by omega,h1,Int.sign_eq_one_of_pos h1]
theorem zbK (a b:Int):Int.gcd b (a.tmod b)=Int.gcd a b:=by
 unfold Int.gcd;rw[Int.natAbs_tmod,Nat.gcd_comm,<-Nat.gcd_rec,Nat.gcd_comm]
theorem s_Gcd (a b:Int)(ha:0<=a)(hb:0<=b):gA X cQ [AI a,AI b] h K=K (AI (Int.gcd a b)) h []:=by
 refine sA ?_;rw[zg1 rfl];simp only[NT,go_sem];refine DA (λt:Int×Int=>⟨[(0,AI t.1),(1,AI t.2)],h,[]⟩) (λt=>0<=t.1/\0<=t.2/\Int.gcd t.1 t.2=Int.gcd a b) (λt=>t.2.toNat) (a,b) rfl ⟨ha,hb,rfl⟩ ?_
 rintro⟨u,v⟩ ⟨h1,h2,h3⟩
 dsimp only at h1 h2 h3;by_cases hv:v=0
 ·subst hv
  simp only[go_sem];rw[<-h3];simp;omega
 ·simp only[go_sem,hv]
  exact⟨(v,u.tmod v),rfl,⟨h2,Int.tmod_nonneg _ h1,by rw[zbK];exact h3⟩,by have:=Int.tmod_lt_of_pos u (show 0<v by omega);dsimp only;omega⟩
theorem zsW (a b:Int)(ha : -9223372036854775807<=a/\a<=9223372036854775807)(hb : -9223372036854775807<=b/\b<=9223372036854775807):gA X nQ [AI a,AI b] h K=K (AI (Int.gcd a b)) h []:=by
 refine sA ?_;rw[zhr rfl];simp only[DU,go_sem];refine DA (λt:Int×Int=>⟨[(0,AI t.1),(1,AI t.2)],h,[]⟩) (λt=>(-9223372036854775807<=t.1/\t.1<=9223372036854775807)/\(-9223372036854775807<=t.2/\t.2<=9223372036854775807)/\Int.gcd t.1 t.2=Int.gcd a b) (λt=>t.2.natAbs) (a,b) rfl ⟨ha,hb,rfl⟩ ?_
 rintro⟨u,v⟩ ⟨h1,h2,h3⟩
 dsimp only at h1 h2 h3;by_cases hv:v=0
 ·subst hv
  have w:IntKind.i64.wrap (-u) = -u:=rA _ (by omega) (by omega)
  simp only[go_sem,w];rw[<-h3];simp;omega
 ·simp only[go_sem,hv]
  have hl:(u.tmod v).natAbs<v.natAbs:=by rw[Int.natAbs_tmod];exact Nat.mod_lt _ (by omega)
  exact⟨(v,u.tmod v),rfl,⟨h2,by dsimp only;omega,by rw[zbK];exact h3⟩,hl⟩
theorem zs7 (a b:Int)(ha : -9223372036854775807<=a/\a<=9223372036854775807)(hb:0<b/\b<=9223372036854775807):gA X bQ [AI a,AI b] h K=K (.p (.agg [eI (low a b).1,eI (low a b).2])) h []:=by
 refine sA ?_;rw[zg0 rfl];have w:IntKind.i64.wrap (-a) = -a:=rA _ (by omega) (by omega)
 have e:Int.gcd (max a (-a)) b=Int.gcd a b:=by
  rcases Int.le_total 0 a with h|h
  ·rw[show max a (-a)=a by omega]
  ·rw[show max a (-a) = -a by omega,Int.neg_gcd]
 have hg:=OQ a b hb.1
 have hd:=zcx a b hb.1
 have hp:=z5y a b hb.1
 have hn:=zcv a b hb.1
 have w1:IntKind.i64.wrap (a.tdiv (Int.gcd a b))=(low a b).1:=rA (low a b).1 (by omega) (by omega)
 have w2:IntKind.i64.wrap (b.tdiv (Int.gcd a b))=(low a b).2:=rA (low a b).2 (by omega) (by omega)
 have e0:((Int.gcd a b:Int)=0)=False:=by simp only[eq_iff_iff,iff_false];omega
 simp only[MT,go_sem,w,s_Gcd (max a (-a)) b (by omega) (by omega),e,e0,w1,w2]
theorem ztk (a b:Int)(ha : -9223372036854775807<=a/\a<=9223372036854775807)(hb:0<b/\b<=9223372036854775807):gA X lQ [AI a,AI b] h K=K (.p (.agg [eI (low a b).1,eI (low a b).2])) h []:=by
 refine sA ?_;rw[zhe rfl];have hg:=OQ a b hb.1
 have hd:=zcx a b hb.1
 have hp:=z5y a b hb.1
 have hn:=zcv a b hb.1
 have w1:IntKind.i64.wrap (a.tdiv (Int.gcd a b))=(low a b).1:=rA (low a b).1 (by omega) (by omega)
 have w2:IntKind.i64.wrap (b.tdiv (Int.gcd a b))=(low a b).2:=rA (low a b).2 (by omega) (by omega)
 have e0:((Int.gcd a b:Int)=0)=False:=by simp only[eq_iff_iff,iff_false];omega
 simp only[sU,go_sem,zsW a b ha (by omega),e0,w1,w2]
theorem ze6 (n:Int)(h1:0<=n)(h2:n<18446744073709551616):IntKind.u64.wrap n=n:=by
 simp [IntKind.wrap,IntKind.bits,IntKind.signed];omega
abbrev AU (n:Int):AV:=.p (.int .u64 n)
def uB (x y:Int):Int:=if x<y then -1 else if x=y then 0 else 1
theorem ET (x y:Int):uB x y=(x-y).sign:=by
 unfold uB;rcases Int.lt_trichotomy x y with h|h|h
 ·rw[if_pos h,Int.sign_eq_neg_one_of_neg (by omega)]
 ·rw[if_neg (by omega),if_pos h,h];simp
 ·rw[if_neg (by omega),if_neg (by omega),Int.sign_eq_one_of_pos (by omega)]
end
section
variable {h:aA} {K:jA}
theorem z7Z (a:Int):gA X aK [AI a] h K=K (AB false) h []:=by
 refine sA ?_;rw[zgB rfl];simp only[VT,go_sem]
theorem zdM (a b:Int):gA X PI [AI a,AI b] h K=K (AI (uB a b)) h []:=by
 refine sA ?_;rw[zg8 rfl];unfold uB;by_cases h1:a<b
 ·simp only[xL,go_sem,z7Z,h1]
 ·by_cases h2:b<a
  ·simp only[xL,go_sem,z7Z,h1,h2,show ¬a=b by omega]
  ·simp only[xL,go_sem,z7Z,h1,h2,show a=b by omega,Int.lt_irrefl]
theorem zu0 (l:List Int)(a b:Int)(hv:∀ n∈l,a<=n/\n<=b):(l.length:Int)*a<=l.sum/\l.sum<=(l.length:Int)*b:=by
 induction l with
 | nil=>simp
 | cons x r ih=>
  obtain⟨i1,i2⟩:=ih (λn hn=>hv n (by simp [hn]))
  obtain⟨x1,x2⟩:=hv x (by simp)
  simp only[List.length_cons,List.sum_cons,Int.natCast_add,Int.add_mul];omega
theorem zu1 {l:List Int}{B:Int}(hv:∀ n∈l,-B<=n/\n<=B){N:Nat}(hl:l.length<=N)(hB:0<=B) : -(N*B)<=l.sum/\l.sum<=N*B:=by
 obtain⟨h1,h2⟩:=zu0 l (-B) B hv;have:(l.length:Int)*B<=N*B:=Int.mul_le_mul_of_nonneg_right (by omega) hB
 rw[Int.mul_neg]at h1;omega
theorem zu2 {l:List Int}{B:Int}(hv:∀ n∈l,-B<=n/\n<=B){N:Nat}(hl:l.length<=N)(hB:0<=B)(k:Nat) : -(N*B)<=(l.take k).sum/\(l.take k).sum<=N*B:=
 zu1 (λn hn=>hv n (List.mem_of_mem_take hn)) (by simp;omega) hB
theorem zs5 (l m:List Int)(hl:l.length<=1000000000):gA X pM [AL l,AL m] h K=K (AB (decide (l=m))) h []:=by
 refine sA ?_;rw[zhA rfl];by_cases hlen:l.length=m.length
 ·simp only[OP,go_sem,hlen]
  refine DA (λk:Nat=>⟨[(0,AL l),(1,AL m),(12,AI m.length),(13,AI k)],h,[]⟩) (λk=>k<=m.length/\l.take k=m.take k) (λk=>m.length-k) 0 rfl (by simp) ?_
  rintro k ⟨hk,hp⟩
  rcases Nat.lt_or_ge k m.length with hlt|hge
  ·have hg1:=sB eI (show k<l.length by omega)
   have hg2:=sB eI hlt
   have w2:IntKind.i64.wrap ((k:Int)+1)=((k+1:Nat):Int):=rA _ (by omega) (by omega)
   by_cases he:l[k]=m[k]
   ·simp only[go_sem,hlt,hg1,hg2,w2,he]
    exact⟨k+1,rfl,⟨by omega,by rw[List.take_succ_eq_append_getElem (by omega),List.take_succ_eq_append_getElem hlt,hp,he]⟩,by omega⟩
   ·simp only[go_sem,hlt,hg1,hg2,w2,he]
    have:¬l=m:=λh=>he (by simp only[h])
    simp [this]
  ·have e1:k=m.length:=by omega
   have e2:l=m:=by rw[<-List.take_length (l:=l),<-List.take_length (l:=m),hlen,<-e1,hp]
   subst e1;simp only[go_sem,Nat.lt_irrefl];simp [e2]
 ·have e1:((l.length:Int)=m.length)=False:=by simp only[eq_iff_iff,iff_false];omega
  simp only[OP,go_sem,e1];have:¬l=m:=λh=>hlen (by rw[h])
  simp [this]
def KZ (g:Nat)(caps:List AV)(p:PV->Bool)(xs:List PV)(h:aA):Prop:=∀x∈xs,∀K:jA,gA X g (.p x::caps) h K=K (AB (p x)) h []
def iG (p:PV->Bool)(xs:List PV):Int:=if xs.findIdx p<xs.length then(xs.findIdx p:Int) else -1
theorem zpc (p:PV->Bool)(xs:List PV):decide (0<=iG p xs)=xs.any p:=by
 unfold iG;rw[Bool.eq_iff_iff];by_cases h:xs.findIdx p<xs.length
 ·rw[if_pos h];simp only[decide_eq_true_eq,List.any_eq_true]
  exact⟨λ_=>⟨_,List.getElem_mem h,List.findIdx_getElem⟩,λ_=>by omega⟩
 ·rw[if_neg h];simp only[decide_eq_true_eq,List.any_eq_true]
  refine⟨λh=>by omega,λ⟨x,hx,hp⟩=>absurd (List.findIdx_lt_length_of_exists ⟨x,hx,hp⟩) h⟩
def rC:List Int->Int
 | []=>0
 | e::r=>if e=0 then rC r else e
theorem VY (l:List Int)(hl:l.length<=1000):gA X JG [AL l] h K=K (AI (rC l)) h []:=by
 refine sA ?_;rw[zgJ rfl];simp only[cU,go_sem];refine DA (λk:Nat=>⟨[(5,AL l),(6,AI l.length),(7,AI k)],h,[]⟩) (λk=>k<=l.length/\rC (l.drop k)=rC l) (λk=>l.length-k) 0 rfl (by simp) ?_
 rintro k ⟨hk,hp⟩
 rcases Nat.lt_or_ge k l.length with hlt|hge
 ·have hg:=sB eI hlt
  have w2:IntKind.i64.wrap ((k:Int)+1)=((k+1:Nat):Int):=rA _ (by omega) (by omega)
  rw[List.drop_eq_getElem_cons hlt,rC]at hp;by_cases he:l[k]=0
  ·rw[if_pos he]at hp
   simp only[go_sem,hlt,hg,w2,he];exact⟨k+1,rfl,⟨by omega,hp⟩,by omega⟩
  ·rw[if_neg he]at hp
   simp only[go_sem,hlt,hg,w2,he];rw[hp]
 ·have e1:k=l.length:=by omega
  subst e1;simp only[go_sem,Nat.lt_irrefl];rw[List.drop_length]at hp;rw[<-hp];rfl
end
section
variable {α:Type}
def VB (lt:α->α->Bool)(x:α):List α->List α
 | []=>[x]
 | y::r=>bif lt x y then y::VB lt x r else x::y::r
def DD (lt:α->α->Bool)(l:List α):List α:=l.foldl (λr x=>VB lt x r) []
def xB (lt:α->α->Bool)(l:List α):List α:=(DD lt l).reverse
theorem SQ (lt:α->α->Bool)(x:α):∀r:List α,(VB lt x r).Perm (x::r)
 | []=>.refl _
 | y::r=>by
  unfold VB;cases lt x y with
  | true=>exact((SQ lt x r).cons y).trans (.swap _ _ _)
  | false=>exact .refl _
theorem zbX (lt:α->α->Bool):∀(l r:List α),(l.foldl (λr x=>VB lt x r) r).Perm (l++r)
 | [],r=>.refl _
 | x::l,r=>by
  simp only[List.foldl_cons,List.cons_append];refine(zbX lt l _).trans ?_;exact((SQ lt x r).append_left l).trans (List.perm_middle)
theorem TQ (lt:α->α->Bool)(l:List α):(DD lt l).Perm l:=by
 have:=zbX lt l [];rwa [List.append_nil]at this
theorem z5p (lt:α->α->Bool)(l:List α):(xB lt l).Perm l:=(List.reverse_perm _).trans (TQ lt l)
theorem VV (lt:α->α->Bool)(l:List α):(xB lt l).length=l.length:=(z5p lt l).length_eq
theorem OG {lt:α->α->Bool}{l:List α}{x:α}:x∈xB lt l↔x∈l:=(z5p lt l).mem_iff
theorem z5m (lt:α->α->Bool)(l:List α):(DD lt l).length=l.length:=(TQ lt l).length_eq
structure Weak (lt:α->α->Bool):Prop where
 asym:∀a b,lt a b=true->lt b a=false
 ntrans:∀a b c,lt b a=false->lt c b=false->lt c a=false
theorem zbV {lt:α->α->Bool}(w:Weak lt)(x:α):∀r:List α,r.Pairwise (λa b=>lt a b=false)->(VB lt x r).Pairwise (λa b=>lt a b=false)
 | [],_=>by simp [VB]
 | y::r,h=>by
  unfold VB;rw[List.pairwise_cons]at h;cases hxy:lt x y with
  | true=>
   rw[cond_true,List.pairwise_cons];refine⟨λz hz=>?_,zbV w x r h.2⟩
   rcases List.mem_cons.1 ((SQ lt x r).mem_iff.1 hz) with rfl|hz
   ·exact w.asym _ _ hxy
   ·exact h.1 z hz
  | false=>
   rw[cond_false,List.pairwise_cons,List.pairwise_cons];refine⟨λz hz=>?_,h⟩
   rcases List.mem_cons.1 hz with rfl|hz
   ·exact hxy
   ·exact w.ntrans _ _ _ (h.1 z hz) hxy
theorem zbY {lt:α->α->Bool}(w:Weak lt):∀(l r:List α),r.Pairwise (λa b=>lt a b=false)->(l.foldl (λr x=>VB lt x r) r).Pairwise (λa b=>lt a b=false)
 | [],r,h=>h
 | x::l,r,h=>zbY w l _ (zbV w x r h)
theorem zpp {lt:α->α->Bool}(w:Weak lt)(l:List α):(xB lt l).Pairwise (λa b=>lt b a=false):=by
 unfold xB;rw[List.pairwise_reverse];exact zbY w l [] .nil
theorem z5n (lt:α->α->Bool)(l:List α)(k:Nat)(hk:k<l.length):DD lt (l.take (k+1))=VB lt l[k] (DD lt (l.take k)):=by
 rw[List.take_succ_eq_append_getElem hk];unfold DD;rw[List.foldl_append];rfl
theorem zc5 {β:Type}(f:α->β){lt:α->α->Bool}{lt':β->β->Bool}(h:∀ a b,lt' (f a) (f b)=lt a b)(x:α):∀r:List α,VB lt' (f x) (r.map f)=(VB lt x r).map f
 | []=>rfl
 | y::r=>by
  simp only[List.map_cons,VB,h];cases lt x y with
  | true=>simp only[cond_true,List.map_cons,zc5 f h x r]
  | false=>rfl
theorem zbW (lt:α->α->Bool)(x:α)(A:List α):∀B:List α,(∀b∈B,lt x b=true)->VB lt x (B++A)=B++VB lt x A
 | [],_=>rfl
 | b::B,h=>by
  simp only[List.cons_append,VB,h b (by simp),cond_true]
  rw[zbW lt x A B (λb hb=>h b (by simp [hb]))]
theorem z5j (A C:List α)(x:α):(A.reverse++x::C)[A.length]?=some x:=by
 rw[List.getElem?_append_right (by simp)];simp
theorem z5k (A C:List α)(x y:α):((y::A).reverse++x::C)[A.length]?=some y:=by
 rw[List.getElem?_append_left (by simp)];simp
theorem z5l (A C:List α)(x y:α):(((y::A).reverse++x::C).set (A.length+1) y).set A.length x=A.reverse++x::y::C:=by
 have e:(y::A).reverse++x::C=A.reverse++y::x::C:=by simp
 rw[e,List.set_append_right _ _ (by simp),List.length_reverse,Nat.add_sub_cancel_left,List.set_append_right _ _ (by simp),List.length_reverse,Nat.sub_self]
 rfl
theorem IM (lt:α->α->Bool)(x:α)(A B:List α)(hB:∀ b∈B,lt x b=true)(hA:∀ y r,A=y::r->lt x y=false):VB lt x (B++A)=B++x::A:=by
 rw[zbW lt x A B hB];cases A with
 | nil=>rfl
 | cons y r=>simp only[VB,hA y r rfl,cond_false]
theorem z5o {β:Type}(f:α->β){lt:α->α->Bool}{lt':β->β->Bool}(h:∀ a b,lt' (f a) (f b)=lt a b)(l:List α):xB lt' (l.map f)=(xB lt l).map f:=by
 have key:∀(l r:List α),(l.map f).foldl (λr x=>VB lt' x r) (r.map f)=(l.foldl (λr x=>VB lt x r) r).map f:=by
  intro l;induction l with
  | nil=>intro r;rfl
  | cons x l ih=>intro r;simp only[List.map_cons,List.foldl_cons,zc5 f h,ih]
 unfold xB DD;have:=key l [];simp only[List.map_nil]at this;rw[this,List.map_reverse]
end
section
variable {α:Type}
end
section
variable {h:aA} {K:jA}
theorem oI {sh:Sh}{x:PV}(hx:x.shp sh=true):NA sh 0 x=some x:=by
 cases sh with
 | none=>exact ziM hx
 | some n=>
  cases x with
  | agg cs=>
   simp only[PV.shp,Bool.and_eq_true,beq_iff_eq]at hx;simp [NA,hx.1];exact List.take_of_length_le (by omega)
  | _=>cases hx
theorem ZK {sh:Sh}{x:PV}(hx:x.shp sh=true):x.cells.length=kA sh:=by
 cases sh with
 | none=>cases x <;> first|rfl|cases hx
 | some n=>
  cases x with
  | agg cs=>simp only[PV.shp,Bool.and_eq_true,beq_iff_eq]at hx;exact hx.1
  | _=>cases hx
theorem YK {sh:Sh}{x:PV}(hx:x.shp sh=true):x.cells.all PV.sc=true:=by
 cases sh with
 | none=>cases x <;> first|rfl|cases hx
 | some n=>
  cases x with
  | agg cs=>simp only[PV.shp,Bool.and_eq_true,beq_iff_eq]at hx;exact hx.2
  | _=>cases hx
theorem aL {sh:Sh}{x y:PV}(hx:x.shp sh=true)(hy:y.shp sh=true)(id i fz:Nat)(xs:List PV)(h1:aA):stE sh id i 0 fz sh xs x h1 (some y)=some (.und,h1.set id (.row sh (xs.set i x) fz),[]):=by
 cases sh with
 | none=>
  cases y with
  | agg cs=>cases hy
  | _=>simp only[PV.shp]at hx;simp [stE,hx]
 | some n=>
  cases y with
  | agg cs=>
   cases x with
   | agg ds=>
    simp only[PV.shp,Bool.and_eq_true,beq_iff_eq]at hx hy;simp [stE,PV.cells,splice,hx.1,hy.1,show cs.drop n=[] from List.drop_of_length_le (by omega)]
   | _=>cases hx
  | _=>cases hy
def VD (sh:Sh)(xs:List PV):Prop:=∀x∈xs,x.shp sh=true
theorem aZ {sh:Sh}{xs:List PV}(hx:VD sh xs){i:Nat}(hi:i<xs.length):xs[i].shp sh=true:=hx _ (List.getElem_mem hi)
theorem XK {h:aA}{id:Nat}{o:Obj}(hh:h[id]?=some o):h.set id o=h:=by
 apply List.ext_getElem?
 intro i;rw[List.getElem?_set];split
 ·rename_i e;subst e;rw[hh];simp [oH hh]
 ·rfl
def oP (g:Nat)(caps:List AV)(c:PV->PV->Int)(xs:List PV)(id:Nat)(h:aA):Prop:=∀(o:Obj) (x:PV),x∈xs->∀y,y∈xs->∀K:jA,gA X g (.p x :: .p y::caps) (h.set id o) K=K (AI (c x y)) (h.set id o) []
def ltC (c:PV->PV->Int)(a b:PV):Bool:=decide (c a b<0)
structure Shows (sh:Sh) (v:AV) (xs:List PV) (h:aA):Prop where
 len:jJ v=some (AI xs.length)
 get:∀(k:Nat) (hk:k<xs.length),∃a,OF sh v (AI k) h=some a/\uA sh a h=some (.p xs[k])
theorem zeh {sh:Sh}{xs:List PV}(hs:VD sh xs):Shows sh (.p (.sl sh xs)) xs h:=by
 refine⟨rfl,λk hk=>⟨.vp xs[k],?_,?_⟩⟩
 ·simp [OF,GB,hk]
 ·simp only[zcr,oI (aZ hs hk)];rfl
theorem ztJ {sh:Sh}{id off len fz:Nat}{xs:List PV}(hs:VD sh xs)(hh:h[id]?=some (.row sh xs fz))(hl:off+len<=xs.length):Shows sh (.own id xs.length off len) (win xs off len) h:=by
 have hw:(win xs off len).length=len:=by simp [win];omega
 refine⟨by rw[hw];rfl,λk hk=>⟨.rref id xs.length (off+k) 0,?_,?_⟩⟩
 ·rw[hw]at hk
  simp [OF,GB,hh,hl,hk]
 ·have hk':off+k<xs.length:=by rw[hw]at hk;omega
  have e:(win xs off len)[k]=xs[off+k]:=by simp [win]
  rw[e];simp only[zcq,hh,zcm,if_true,List.getElem?_eq_getElem hk',Option.bind_some,oI (aZ hs hk'),Option.map_some]
theorem ztI {sh:Sh}{id fz:Nat}{xs:List PV}(hs:VD sh xs)(hh:h[id]?=some (.row sh xs fz)):Shows sh (.own id xs.length 0 xs.length) xs h:=by
 have:=ztJ hs hh (off:=0) (len:=xs.length) (by omega)
 rwa [zeK]at this
def zf8 (g:Nat)(caps:List AV)(p:PV->Bool)(xs:List PV)(id:Nat)(h:aA):Prop:=∀(o:Obj) (x:PV),x∈xs->∀K:jA,gA X g (.p x::caps) (h.set id o) K=K (AB (p x)) (h.set id o) []
end
section
variable {h:aA} {K:jA}
abbrev AS (s:List UInt8):AV:=.p (.str s)
theorem z9l:X.ext=VJ RH SH:=rfl
theorem ztd (s:List UInt8)(c:UInt8):gA X RH [AS s,.p (.int .u8 c.toNat)] h K=K (AI (NG s c)) h []:=by
 have:=zaW (X:=X) (f:=RH) (asv:=[AS s,.p (.int .u8 c.toNat)]) (vs:=[.str s,.int .u8 c.toNat]) (h:=h) (h1:=h) (r:=.int .i64 (NG s c)) (K:=K) (by kernel_rfl) rfl rfl rfl ?_
 ·exact this
 ·rw[z9l]
  unfold VJ;rw[show Nat.beq RH RH=true from by kernel_rfl]
  simp
theorem zsU (a b:List UInt8):gA X SH [AS a,AS b] h K=K (AI (LA a b)) h []:=by
 have:=zaW (X:=X) (f:=SH) (asv:=[AS a,AS b]) (vs:=[.str a,.str b]) (h:=h) (h1:=h) (r:=.int .i64 (LA a b)) (K:=K) (by kernel_rfl) rfl rfl rfl ?_
 ·exact this
 ·rw[z9l]
  unfold VJ;rw[show Nat.beq SH RH=false from by kernel_rfl,show Nat.beq SH SH=true from by kernel_rfl]
  rfl
theorem XY (a b:List UInt8):gA X XI [AS a,AS b] h K=K (AI (LA a b)) h []:=by
 have key:∀(h:aA) (K:jA),gA X UL [AS a,AS b] h K=K (AI (LA a b)) h []:=by
  intro h K;refine sA ?_;rw[zgD rfl];simp only[XT,go_sem,zsU]
 refine sA ?_;rw[zim rfl];simp only[uV,go_sem,key]
theorem zdD (s:List UInt8)(c:UInt8):gA X EQ [AS s,.p (.int .u8 c.toNat)] h K=K (AI (NG s c)) h []:=by
 have key:∀(h:aA) (K:jA),gA X eQ [AS s,.p (.int .u8 c.toNat)] h K=K (AI (NG s c)) h []:=by
  intro h K;refine sA ?_;rw[zgE rfl];simp only[YT,go_sem,ztd]
 refine sA ?_;rw[zin rfl];simp only[vV,go_sem,key]
theorem AP:∀ a,LA a a=0
 | []=>rfl
 | x::a=>by simp only[LA,UInt8.lt_irrefl,if_false];exact AP a
theorem uE:∀ {a b:List UInt8},LA a b=0->a=b
 | [],[],_=>rfl
 | [],_::_,h=>by simp [LA]at h
 | _::_,[],h=>by simp [LA]at h
 | x::a,y::b,h=>by
  simp only[LA]at h;split at h
  ·cases h
  ·split at h
   ·cases h
   ·rename_i h1 h2
    have:x=y:=UInt8.le_antisymm (UInt8.not_lt.1 h2) (UInt8.not_lt.1 h1)
    rw[this,uE h]
theorem zP:∀ a b,LA b a = - LA a b
 | [],[]=>rfl
 | [],_::_=>rfl
 | _::_,[]=>rfl
 | x::a,y::b=>by
  simp only[LA];by_cases h1:x<y
  ·have h2:¬y<x:=UInt8.lt_asymm h1
   simp [h1,h2]
  ·by_cases h2:y<x
   ·simp [h1,h2]
   ·simp [h1,h2,zP a b]
theorem FT:∀ {a b c:List UInt8},LA a b<0->LA b c<0->LA a c<0
 | [],[],_,h,_=>by simp [LA]at h
 | [],_::_,[],_,h=>by simp [LA]at h
 | [],_::_,_::_,_,_=>by simp [LA]
 | _::_,[],_,h,_=>by simp [LA]at h
 | _::_,_::_,[],_,h=>by simp [LA]at h
 | x::a,y::b,z::c,h1,h2=>by
  simp only[LA]at h1 h2 ⊢;by_cases hxy:x<y
  ·by_cases hyz:y<z
   ·simp [UInt8.lt_trans hxy hyz]
   ·by_cases hzy:z<y
    ·simp [hyz,hzy]at h2
    ·have:y=z:=UInt8.le_antisymm (UInt8.not_lt.1 hzy) (UInt8.not_lt.1 hyz)
     subst this;simp [hxy]
  ·by_cases hyx:y<x
   ·simp [hxy,hyx]at h1
   ·have:x=y:=UInt8.le_antisymm (UInt8.not_lt.1 hyx) (UInt8.not_lt.1 hxy)
    subst this;simp only[UInt8.lt_irrefl,if_false]at h1;by_cases hyz:x<z
    ·simp [hyz]
    ·by_cases hzy:z<x
     ·simp [hyz,hzy]at h2
     ·simp only[hyz,hzy,if_false]at h2 ⊢
      exact FT h1 h2
def jG (c:UInt8):Bool:=decide ((97:Int)<=c.toNat)&&decide ((c.toNat:Int)<=122)||decide ((48:Int)<=c.toNat)&&decide ((c.toNat:Int)<=57)||decide ((c.toNat:Int)=45)||decide ((c.toNat:Int)=95)
def oB (s:List UInt8):Bool:=match s with
 | []=>false
 | c::r=>decide (r.length<40)&&(decide ((97:Int)<=c.toNat)&&decide ((c.toNat:Int)<=122))&&(c::r).all jG
theorem MO (s:List UInt8)(hl:s.length<=1000000000):gA X cG [AS s] h K=K (AB (oB s)) h []:=by
 refine sA ?_;rw[zg2 rfl];cases s with
 | nil=>simp only[LI,go_sem,oB]
 | cons c r=>
  have n0:((c::r)=[])=False:=by simp
  have e1:(((r.length+1:Nat):Int)<=40)=(r.length<40):=by simp only[eq_iff_iff];omega
  by_cases h1:(40:Int)<((r.length+1:Nat):Int)
  ·have:¬r.length<40:=by omega
   simp only[LI,go_sem,n0,h1,oB,this]
  have h1':r.length<40:=by omega
  by_cases h2:(c.toNat:Int)<97
  ·have:¬(97:Int)<=c.toNat:=by omega
   simp only[LI,go_sem,n0,h1,h2,oB,this,h1']
  have h2':(97:Int)<=c.toNat:=by omega
  by_cases h3:(122:Int)<c.toNat
  ·have:¬(c.toNat:Int)<=122:=by omega
   simp only[LI,go_sem,n0,h1,h2,h3,oB,this,h1',h2']
  have h3':(c.toNat:Int)<=122:=by omega
  have ek:oB (c::r)=(c::r).all jG:=by simp [oB,h1',h2',h3']
  rw[ek];generalize hB:(c::r).all jG=B;simp only[LI,go_sem,n0,h1,h2,h3];have hlen:(c::r).length=r.length+1:=rfl
  rw[<-hlen];generalize c::r=s at *;refine DA (λk:Nat=>⟨[(0,AS s),(23,AI s.length),(24,AI k)],h,[]⟩) (λk=>k<=s.length/\(s.take k).all jG=true) (λk=>s.length-k) 0 rfl ⟨by omega,rfl⟩ ?_
  rintro k ⟨hk,hp⟩
  rcases Nat.lt_or_ge k s.length with hlt|hge
  ·have hg:s[k]?=some s[k]:=List.getElem?_eq_getElem hlt
   have w2:IntKind.i64.wrap ((k:Int)+1)=((k+1:Nat):Int):=rA _ (by omega) (by omega)
   generalize hc:s[k]=c at *;have key:(decide ((97:Int)<=c.toNat)&&decide ((c.toNat:Int)<=122)||decide ((48:Int)<=c.toNat)&&decide ((c.toNat:Int)<=57)||decide ((c.toNat:Int)=45)||decide ((c.toNat:Int)=95))=jG c:=rfl
   cases hkc:jG c with
   | true=>
    rw[hkc]at key;have hn:(s.take (k+1)).all jG=true:=by rw[List.take_succ_eq_append_getElem hlt,List.all_append,hp,hc];simp [hkc]
    by_cases b1:(97:Int)<=c.toNat <;> by_cases b2:(c.toNat:Int)<=122 <;> by_cases b3:(48:Int)<=c.toNat <;> by_cases b4:(c.toNat:Int)<=57 <;> by_cases b5:(c.toNat:Int)=45 <;> by_cases b6:(c.toNat:Int)=95
    all_goals first
     | (simp only[b1,b2,b3,b4,b5,b6,decide_true,decide_false,Bool.and_self,Bool.and_true,Bool.and_false,Bool.or_self,Bool.or_true,Bool.or_false,Bool.true_or,Bool.false_or,Bool.false_and,reduceCtorEq]at key;done)
     | (exfalso;omega)
     | (simp only[go_sem,hlt,hg,w2,b1,b2,b3,b4,b5,b6];exact⟨k+1,rfl,⟨by omega,hn⟩,by omega⟩)
   | false=>
    rw[hkc]at key;have hn:s.all jG=false:=by rw[List.all_eq_false];exact⟨_,List.getElem_mem hlt,by rw[hc,hkc];simp⟩
    rw[hn]at hB;subst hB;by_cases b1:(97:Int)<=c.toNat <;> by_cases b2:(c.toNat:Int)<=122 <;> by_cases b3:(48:Int)<=c.toNat <;> by_cases b4:(c.toNat:Int)<=57 <;> by_cases b5:(c.toNat:Int)=45 <;> by_cases b6:(c.toNat:Int)=95
    all_goals first
     | (simp only[b1,b2,b3,b4,b5,b6,decide_true,decide_false,Bool.and_self,Bool.and_true,Bool.and_false,Bool.or_self,Bool.or_true,Bool.or_false,Bool.true_or,Bool.false_or,Bool.false_and,reduceCtorEq]at key;done)
     | (exfalso;omega)
     | (simp only[go_sem,hlt,hg,b1,b2,b3,b4,b5,b6])
  ·have ek:k=s.length:=by omega
   subst ek;rw[List.take_length,hB]at hp;subst hp;simp only[go_sem,Nat.lt_irrefl]
theorem zpa (s:List UInt8)(c:UInt8):decide (NG s c<0) = !s.contains c:=by
 unfold NG;rw[Bool.eq_iff_iff];by_cases hf:s.findIdx (· == c)<s.length
 ·rw[if_pos hf]
  have:=List.findIdx_getElem (w:=hf);simp only[beq_iff_eq]at this;have hm:c∈s:=by rw[<-this];exact List.getElem_mem hf
  simp [hm]
 ·rw[if_neg hf]
  have hm:¬c∈s:=λhm=>hf (List.findIdx_lt_length_of_exists ⟨c,hm,by simp⟩)
  simp [hm]
theorem zdS (s t:List UInt8)(hl:s.length<=1000000000):gA X mM [AS s,AS t] h K=K (AB (s.all λc=>t.contains c)) h []:=by
 refine sA ?_;rw[zhz rfl];simp only[JU,go_sem];refine DA (λk:Nat=>⟨[(0,AS s),(1,AS t),(7,AI s.length),(8,AI k)],h,[]⟩) (λk=>k<=s.length/\(s.take k).all (λc=>t.contains c)=true) (λk=>s.length-k) 0 rfl ⟨by omega,rfl⟩ ?_
 rintro k ⟨hk,hp⟩
 rcases Nat.lt_or_ge k s.length with hlt|hge
 ·have hg:s[k]?=some s[k]:=List.getElem?_eq_getElem hlt
  have w2:IntKind.i64.wrap ((k:Int)+1)=((k+1:Nat):Int):=rA _ (by omega) (by omega)
  have hi:=zpa t s[k]
  by_cases hc:NG t s[k]<0
  ·have:s.all (λc=>t.contains c)=false:=by
    rw[List.all_eq_false];refine⟨_,List.getElem_mem hlt,?_⟩;rw[decide_eq_true hc]at hi;cases hq:t.contains s[k]with
    | true=>rw[hq]at hi;cases hi
    | false=>simp
   simp only[go_sem,hlt,hg,zdD,hc,this]
  ·rw[decide_eq_false hc]at hi
   have hq:t.contains s[k]=true:=by cases hq:t.contains s[k]with|true=>rfl|false=>rw[hq]at hi;cases hi
   simp only[go_sem,hlt,hg,zdD,hc,w2];exact⟨k+1,rfl,⟨by omega,by rw[List.take_succ_eq_append_getElem hlt,List.all_append,hp];simp only[List.all_cons,List.all_nil,hq];rfl⟩,by omega⟩
 ·have ek:k=s.length:=by omega
  subst ek;rw[List.take_length]at hp;simp only[go_sem,Nat.lt_irrefl,hp]
def dS:List UInt8:=[97,98,99,100,101,102,103,104,105,106,107,108,109,110,111,112,113,114,115,116,117,118,119,120,121,122]
def VQ:List UInt8:=[97,98,99,100,101,102,103,104,105,106,107,108,109,110,111,112,113,114,115,116,117,118,119,120,121,122,48,49,50,51,52,53,54,55,56,57,45,95]
theorem ze7 {p:UInt8->Bool}(h:((List.range 256).all λn=>p (UInt8.ofNat n))=true)(c:UInt8):p c=true:=by
 have:=List.all_eq_true.1 h c.toNat (by simp;exact c.toNat_lt)
 rwa [UInt8.ofNat_toNat]at this
theorem ztQ (c:UInt8):dS.contains c=(decide ((97:Int)<=c.toNat)&&decide ((c.toNat:Int)<=122)):=by
 have:=ze7 (p:=λc=>dS.contains c==(decide ((97:Int)<=c.toNat)&&decide ((c.toNat:Int)<=122))) (by kernel_rfl) c
 simpa using this
theorem zpv (c:UInt8):VQ.contains c=jG c:=by
 have:=ze7 (p:=λc=>VQ.contains c==jG c) (by kernel_rfl) c
 simpa using this
theorem WO (s:List UInt8)(hl:s.length<=1000000000):gA X bF [AS s] h K=K (AB (oB s)) h []:=by
 refine sA ?_;rw[zhd rfl];have o1:=λh K=>zdS (h:=h) (K:=K) s VQ hl
 have e2:(s.all λc=>VQ.contains c)=s.all jG:=by congr 1;funext c;exact zpv c
 rw[e2]at o1;unfold VQ at o1;cases s with
 | nil=>simp only[QJ,go_sem,UO,oB]
 | cons c r=>
  have o2:=λh K=>zdS (h:=h) (K:=K) [c] dS (by simp)
  have e3:([c].all λc=>dS.contains c)=(decide ((97:Int)<=c.toNat)&&decide ((c.toNat:Int)<=122)):=by simp only[List.all_cons,List.all_nil,Bool.and_true];exact ztQ c
  rw[e3]at o2;unfold dS at o2;have q1:(1:Int)<=((r.length+1:Nat):Int):=by omega
  have q2:1<=r.length+1:=by omega
  by_cases h1:r.length<40
  ·have h1':((r.length+1:Nat):Int)<=40:=by omega
   cases h2:(decide ((97:Int)<=c.toNat)&&decide ((c.toNat:Int)<=122)) with
   | true=>
    have ek:oB (c::r)=(c::r).all jG:=by
     simp only[oB,h1,decide_true,Bool.true_and,h2]
    rw[ek];simp only[QJ,go_sem,UO,h1',q1,q2,win,↓o2,o2,h2,↓o1,o1]
   | false=>
    have ek:oB (c::r)=false:=by simp only[oB,h1,decide_true,Bool.true_and,h2,Bool.false_and]
    rw[ek];simp only[QJ,go_sem,UO,h1',q1,q2,win,↓o2,o2,h2]
  ·have h1':¬((r.length+1:Nat):Int)<=40:=by omega
   have ek:oB (c::r)=false:=by simp only[oB,h1,decide_false,Bool.false_and]
   rw[ek];simp only[QJ,go_sem,UO,h1',q1]
end
section
attribute [-go_sem] PV.cells
variable {h:aA} {K:jA}
end
section
variable {h:aA} {K:jA}
structure Lim where
 key:List UInt8
 lo:Int
 hi:Int
 bin:Int
def Lim.pv (x:Lim):PV:=.agg [.str x.key,eI x.lo,eI x.hi,eI x.bin]
def inB (a n b:Int):Bool:=decide (a<=n)&&decide (n<=b)
theorem dE (n a b:Int):gA X dG [AI n,AI a,AI b] h K=K (AB (!inB a n b)) h []:=by rw[s_Out,zr4];rfl
theorem lG (n a b:Int):gA X yE [AI n,AI a,AI b] h K=K (AB (inB a n b)) h []:=UO n a b
end
section
variable {h:aA} {K:jA}
end
section
variable {h:aA} {K:jA}
structure Meas (l:List Int):Prop where
 len:l.length<=5000
 bd:∀n∈l,-100000<=n/\n<=100000
theorem Meas.sum {l:List Int}(hm:Meas l)(k:Nat) : -500000000<=(l.take k).sum/\(l.take k).sum<=500000000:=by
 have:=zu2 hm.bd hm.len (by omega) k
 omega
end
section
variable {h:aA} {K:jA}
theorem zsh {b:Nat}{P:jA}{vs:List AV}{h:aA}:kD true b P (some vs) h []=P (dB vs) (h.take (max b (dB vs).top)) []:=by
 simp [kD,close,YB]
attribute [go_sem] zsh
structure Rec where
 unit:List UInt8
 time:Int
 site:List UInt8
 res:List Int
def Rec.pv (r:Rec):PV:=.agg [.str r.unit,eI r.time,.str r.site,.sl none (r.res.map eI)]
def KF (n:Int):Bool:=inB 0 n 345686399999
theorem z10 (x y:Int):uB y x = - uB x y:=by
 unfold uB;split <;> split <;> (try split) <;> (try split) <;> omega
theorem lI (n:Int):gA X XJ [AI n] h K=K (AB (KF n)) h []:=by
 refine sA ?_;rw[zg3 rfl];simp only[OT,go_sem,dE,Bool.not_not];rfl
theorem tH (n:Int):gA X dK [AI n] h K=K (AB (KF n)) h []:=by
 refine sA ?_;rw[zhf rfl];simp only[tU,go_sem,lG];rfl
end
structure Ent where
 site:List UInt8
 no:Int
 time:Int
 kind:Int
 board:List UInt8
 step:List UInt8
 of:List UInt8
 other:Int
 deriving DecidableEq
def Ent.pv (x:Ent):PV:=.agg [.str x.site,eI x.no,eI x.time,eI x.kind,.str x.board,.str x.step,.str x.of,eI x.other]
def noB (n:Int):Bool:=inB 1 n 1000000
def hJ (x:Ent):Bool:=if x.kind=7 then oB x.of else if x.kind=2 then oB x.board&&oB x.step else oB x.board
def kZ (x:Ent):Ent:=if x.kind=7 then⟨x.site,x.no,x.time,x.kind,[],[],x.of,x.other⟩ else if x.kind=2 then⟨x.site,x.no,x.time,x.kind,x.board,x.step,[],0⟩ else⟨x.site,x.no,x.time,x.kind,x.board,[],[],0⟩
def TB (x:Ent):Int:=
 if oB x.site=false then 5 else if noB x.no=false∨KF x.time=false then 1 else if inB 1 x.kind 7=false then 4
 else if hJ x=false then 5 else if x.kind=7/\noB x.other=false then 1 else if x≠kZ x then 3 else 0
def xC (a b:Ent):Int:=if uB a.time b.time≠0 then uB a.time b.time else if LA a.site b.site≠0 then LA a.site b.site else uB a.no b.no
theorem znO (a b:Ent):xC b a = - xC a b:=by
 unfold xC;rw[z10 a.time b.time,zP a.site b.site,z10 a.no b.no];by_cases h1:uB a.time b.time=0
 ·by_cases h2:LA a.site b.site=0
  ·simp [h1,h2]
  ·simp [h1,h2]
 ·simp [h1]
def AD (a b:Ent):Bool:=decide (a.site=b.site)&&decide (a.no=b.no)
def wD:Option Ent->List Ent->Int
 | _,[]=>0
 | p,x::r=>if TB x≠0 then TB x else if(match p with|some q=>decide (xC x q<=0)|none=>false)=true then 7 else wD (some x) r
def HE (seen:List Ent):List Ent->Bool
 | []=>false
 | x::r=>if seen.any (λo=>AD o x) then true else HE (seen++[x]) r
def PB (l:List Ent):Int:=if(2000:Int)<l.length then 2 else if wD none l≠0 then wD none l else if HE [] l then 6 else 0
end Go.Am
