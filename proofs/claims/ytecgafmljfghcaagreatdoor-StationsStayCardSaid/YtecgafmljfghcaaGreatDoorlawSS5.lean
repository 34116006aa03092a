/- Texts of the proof, laid together: CodesB, CodesC. -/
import Derived.KernelRfl
import Derived.Test.YtecgafmljfghcaaGreatDoorlawSS4
set_option linter.all false
section
/- The functions asv abstract code,and asv formulas aF their values: printed by program out of the translation. -/
set_option linter.all false
set_option maxRecDepth 100000
namespace Go.Am
def VK:ACode:=.pr [3,8,9,10] (.seq (rg [bN 11 .lss 10 9] [3,8,9,10,11])
(.seq (.cond 11 .skip
(.exit 0))
(.seq (.block 1 (.seq (rg [iA 12 (some 8) 8 10,
lD 13 (some 8) 12,
uO 5 (.alloc [.p (.str []),.p (.int .i64 0),.p (.int .i64 0),.p (.int .i64 0),.p (.str []),.p (.str []),.p (.str []),.p (.int .i64 0)]),
wO (.store (some 8) 5 13)] [3,5,8,9,10])
(.seq (rg [fA 14 0 none 5,
lD 15 none 14,
fA 16 1 none 5,
lD 17 none 16,
uO 18 (.build [.p (.str []),.p (.int .i64 0)] [(0,1,15),(1,1,17)]),
uO 6 (.alloc [.p (.str []),.p (.int .i64 0)]),
wO (.store (some 2) 6 18)] [3,6,8,9,10])
(.seq (.seq (rg [mV 19 3,
lD 20 (some 2) 6,
uO 21 (.look ((some 2),[2,0]) false (AB false) 19 20)] [3,6,8,9,10,21])
(.cond 21 (.seq (rg [mV 2 cT] [2])
.ret)
.skip))
(rg [mV 22 3,
lD 23 (some 2) 6,
wO (.mupd ((some 2),[2,0]) 22 23 cT)] [3,8,9,10])))))
(rg [bN 24 .add 10 (cI 1),
mV 10 24] [3,8,9,10]))))
def aW (C:Hd)(gl:GL)(e:En)(h:aA)(x:Esc)(K:KT):Sf C gl VK e h x K:=⟨_,by simp only[VK,↓wZ,AO.still];rfl⟩
theorem zdp {C gl e h x K}:NW C gl VK ⟨e,h,x⟩ K=(aW C gl e h x K).1:=(aW C gl e h x K).2
theorem zf3 {C gl e h x K}:NW C gl (.loop (.scope VK)) ⟨e,h,x⟩ K=VA C gl (.scope VK) K [(3,eA e 3),(8,eA e 8),(9,eA e 9),(10,eA e 10)] h x:=iF
def LR:ACode:=.pr [] (.seq (rg [mV 2 cF] [2])
.ret)
def bW (C:Hd)(gl:GL)(e:En)(h:aA)(x:Esc)(K:KT):Sf C gl LR e h x K:=⟨_,by simp only[LR,↓wZ,AO.still];rfl⟩
theorem zdq {C gl e h x K}:NW C gl LR ⟨e,h,x⟩ K=(bW C gl e h x K).1:=(bW C gl e h x K).2
def GY:ACode:=(.seq (rg [mV 2 cF] [0])
(.seq (rg [uO 7 (.mkmap),
mV 3 7] [0,3])
(.seq (.seq (rg [mV 8 0,
lN 9 8,
mV 10 (cI 0)] [3,8,9,10])
(.block 0 (.loop (.scope VK))))
LR)))
def lO:AFun:=⟨1,[.t 2],GY,true,false⟩
def UL (C:Hd)(gl:GL)(e:En)(h:aA)(x:Esc)(K:KT):Sf C gl GY e h x K:=⟨_,by simp only[GY,↓wZ,AO.still];rfl⟩
theorem zdo {C gl v0 h x K}:NW C gl lO.body ⟨enter [v0],h,x⟩ K=(UL C gl [(0,v0)] h x K).1:=(UL C gl [(0,v0)] h x K).2
def uY:ACode:=(.seq (rg [uO 1 (.box 0),
mV 2 (cI 0)] [1])
(.seq (dr [dF (fA 5 3 none 1) [1],
dF (lD 6 none 5) [5],
dF (bN 7 .eql 6 (cI 7)) [6],
dF (fA 8 3 none 1) [1],
dF (lD 9 none 8) [8],
dF (bN 10 .eql 9 (cI 2)) [9],
dF (mV 3 7) [7],
dF (mV 4 10) [10]] [1,3,4])
(.seq (.block 0 (.seq (rg [fA 12 0 none 1,
lD 13 none 12,
cL 14 fE [13],
uO 15 (.un .not 14),
mV 11 15] [1,3,4,11])
(.cond 11 (.seq (rg [mV 2 (cI 5)] [2])
.ret)
(.seq (rg [fA 17 1 none 1,
lD 18 none 17,
cL 19 lC [18,(cI 1),(cI 1000000)],
mV 20 19,
gD 21 20 false (.faddr 2 none 1),
gD 22 20 false (.load none 21),
gD 23 20 false (.call jI [22]),
gD 24 20 false (.un .not 23),
uO 25 (.pick 20 cT 24),
mV 16 25] [1,3,4,16])
(.cond 16 (.seq (rg [mV 2 (cI 1)] [2])
.ret)
(.seq (rg [fA 27 3 none 1,
lD 28 none 27,
cL 29 lC [28,(cI 1),(cI 7)],
mV 26 29] [1,3,4,26])
(.cond 26 (.seq (rg [mV 2 (cI 4)] [2])
.ret)
(.seq (rg [mV 31 3,
uO 32 (.un .not 31),
mV 33 32,
gD 34 33 true (.faddr 4 none 1),
gD 35 33 true (.load none 34),
gD 36 33 true (.call fE [35]),
gD 37 33 true (.un .not 36),
uO 38 (.pick 33 37 cF),
mV 39 38,
gD 40 39 false (.mv 4),
gD 41 39 false (.mv 40),
gD 42 41 true (.faddr 5 none 1),
gD 43 41 true (.load none 42),
gD 44 41 true (.call fE [43]),
gD 45 41 true (.un .not 44),
gD 46 39 false (.pick 41 45 cF),
uO 47 (.pick 39 cT 46),
mV 48 47,
gD 49 48 false (.mv 3),
gD 50 48 false (.mv 49),
gD 51 50 true (.faddr 6 none 1),
gD 52 50 true (.load none 51),
gD 53 50 true (.call fE [52]),
gD 54 50 true (.un .not 53),
gD 55 48 false (.pick 50 54 cF),
uO 56 (.pick 48 cT 55),
mV 30 56] [1,3,4,30])
(.cond 30 (.seq (rg [mV 2 (cI 5)] [2])
.ret)
(.seq (rg [mV 58 3,
mV 59 58,
gD 60 59 true (.faddr 7 none 1),
gD 61 59 true (.load none 60),
gD 62 59 true (.call lC [61,(cI 1),(cI 1000000)]),
uO 63 (.pick 59 62 cF),
mV 57 63] [1,3,4,57])
(.cond 57 (.seq (rg [mV 2 (cI 1)] [2])
.ret)
(.seq (rg [mV 65 3,
mV 66 65,
gD 67 66 true (.faddr 4 none 1),
gD 68 66 true (.load none 67),
gD 69 66 true (.bin .neq 68 (cS [])),
uO 70 (.pick 66 69 cF),
mV 71 70,
gD 72 71 false (.mv 4),
gD 73 71 false (.un .not 72),
gD 74 71 false (.mv 73),
gD 75 74 true (.faddr 5 none 1),
gD 76 74 true (.load none 75),
gD 77 74 true (.bin .neq 76 (cS [])),
gD 78 71 false (.pick 74 77 cF),
uO 79 (.pick 71 cT 78),
mV 80 79,
gD 81 80 false (.mv 3),
gD 82 80 false (.un .not 81),
gD 83 80 false (.mv 82),
gD 84 83 true (.faddr 6 none 1),
gD 85 83 true (.load none 84),
gD 86 83 true (.bin .neq 85 (cS [])),
gD 87 83 true (.mv 86),
gD 88 87 false (.faddr 7 none 1),
gD 89 87 false (.load none 88),
gD 90 87 false (.bin .neq 89 (cI 0)),
gD 91 83 true (.pick 87 cT 90),
gD 92 80 false (.pick 83 91 cF),
uO 93 (.pick 80 cT 92),
mV 64 93] [64])
(.cond 64 (.seq (rg [mV 2 (cI 3)] [2])
.ret)
.skip)))))))))))))
(.seq (rg [mV 2 (cI 0)] [2])
.ret))))
def ZN:AFun:=⟨1,[.t 2],uY,false,false⟩
def KF (C:Hd)(gl:GL)(e:En)(h:aA)(x:Esc)(K:KT):Sf C gl uY e h x K:=⟨_,by simp only[uY,↓wZ,AO.still];rfl⟩
theorem zcN {C gl v0 h x K}:NW C gl ZN.body ⟨enter [v0],h,x⟩ K=(KF C gl [(0,v0)] h x K).1:=(KF C gl [(0,v0)] h x K).2
def WX:ACode:=(.det (.seq (rg [mV 2 (.c (.p (.sl (some 8) [])))] [0])
(.seq (.seq (rg [mV 3 0,
uO 4 (.isnil 4 false 3)] [0,4])
(.condu 4 (.seq (rg [uO 2 (.new0 (some 8))] [2])
.ret)
.skip))
(.seq (rg [uO 5 (.bsl true (some 8) 0 (.agg [.str [],.int .i64 0,.int .i64 0,.int .i64 0,.str [],.str [],.str [],.int .i64 0]) []),
mV 6 0,
uO 7 (.app (some 8) 5 6),
mV 2 7] [2])
.ret))))
def FT:AFun:=⟨1,[.t 2],WX,false,true⟩
def sP (C:Hd)(gl:GL)(e:En)(h:aA)(x:Esc)(K:KT):Sf C gl WX e h x K:=⟨_,by simp only[WX,↓wZ,AO.still];rfl⟩
theorem zbH {C gl v0 h x K}:NW C gl FT.body ⟨enter [v0],h,x⟩ K=(sP C gl [(0,v0)] h x K).1:=(sP C gl [(0,v0)] h x K).2
def vY:ACode:=(.seq (rg [uO 3 (.box 0),
mV 6 (cI 0)] [1,2,3])
(.seq (rg [lD 7 (some 2) 3,
cL 8 IJ [7],
mV 9 1,
cL 10 rF [9],
mV 11 2,
cL 12 QJ [11],
uO 13 (.bsl false none 3 (.int .i64 0) [(0,8),(1,10),(2,12)]),
cL 14 iI [13],
mV 6 14] [6])
.ret))
def aO:AFun:=⟨3,[.t 6],vY,false,false⟩
def HP (C:Hd)(gl:GL)(e:En)(h:aA)(x:Esc)(K:KT):Sf C gl vY e h x K:=⟨_,by simp only[vY,↓wZ,AO.still];rfl⟩
theorem zcO {C gl v0 v1 v2 h x K}:NW C gl aO.body ⟨enter [v0,v1,v2],h,x⟩ K=(HP C gl [(0,v0),(1,v1),(2,v2)] h x K).1:=(HP C gl [(0,v0),(1,v1),(2,v2)] h x K).2
def IR:ACode:=.pr [5,6,17,18,19] (rg [bN 59 .add 19 (cI 1),
mV 19 59] [5,6,17,18,19])
def WV (C:Hd)(gl:GL)(e:En)(h:aA)(x:Esc)(K:KT):Sf C gl IR e h x K:=⟨_,by simp only[IR,↓wZ,AO.still];rfl⟩
theorem zdi {C gl e h x K}:NW C gl IR ⟨e,h,x⟩ K=(WV C gl e h x K).1:=(WV C gl e h x K).2
def UK:ACode:=.pr [5,6,17,18,19] (.seq (rg [bN 20 .lss 19 18] [5,6,17,18,19,20])
(.seq (.cond 20 .skip
(.exit 0))
(.seq (.block 1 (.seq (rg [mV 21 19,
iA 22 (some 8) 17 19,
lD 23 (some 8) 22,
uO 8 (.alloc [.p (.str []),.p (.int .i64 0),.p (.int .i64 0),.p (.int .i64 0),.p (.str []),.p (.str []),.p (.str []),.p (.int .i64 0)]),
mV 7 21,
wO (.store (some 8) 8 23)] [5,6,7,8,17,18,19])
(.seq (.seq (rg [mV 24 6,
mV 25 7,
iA 26 none 24 25,
lD 27 none 26,
uO 28 (.un .not 27),
mV 29 28,
gD 30 29 false (.faddr 3 none 8),
gD 31 29 false (.load none 30),
gD 32 29 false (.bin .eql 31 (cI 7)),
uO 33 (.pick 29 cT 32)] [5,6,7,8,17,18,19,33])
(.cond 33 (.exit 1)
.skip))
(.seq (rg [mV 34 5,
lD 35 (some 8) 8,
cL 36 NF [34,35],
mV 9 36] [5,6,7,9,17,18,19])
(.seq (rg [mV 37 9,
bN 38 .neq 37 (cI 0)] [5,6,7,9,17,18,19,38])
(.cond 38 (.seq (rg [mV 39 5,
mV 40 5,
uO 41 (.nilchk 40),
fA 42 6 none 41,
lD 43 none 42,
mV 44 7,
uO 45 (.bsl false none 1 (.int .i64 0) [(0,44)]),
uO 46 (.app none 43 45),
uO 47 (.nilchk 39),
fA 48 6 none 47,
wO (.store none 48 46)] [5,6,9,17,18,19])
(rg [mV 49 5,
mV 50 5,
uO 51 (.nilchk 50),
fA 52 7 none 51,
lD 53 none 52,
mV 54 9,
uO 55 (.bsl false none 1 (.int .i64 0) [(0,54)]),
uO 56 (.app none 53 55),
uO 57 (.nilchk 49),
fA 58 7 none 57,
wO (.store none 58 56)] [5,6,17,18,19]))
.skip))))))
IR)))
def XV (C:Hd)(gl:GL)(e:En)(h:aA)(x:Esc)(K:KT):Sf C gl UK e h x K:=⟨_,by simp only[UK,↓wZ,AO.still];rfl⟩
theorem zdj {C gl e h x K}:NW C gl UK ⟨e,h,x⟩ K=(XV C gl e h x K).1:=(XV C gl e h x K).2
theorem zf2 {C gl e h x K}:NW C gl (.loop (.scope UK)) ⟨e,h,x⟩ K=VA C gl (.scope UK) K [(5,eA e 5),(6,eA e 6),(17,eA e 17),(18,eA e 18),(19,eA e 19)] h x:=iF
def JR:ACode:=.pr [5] (.seq (rg [mV 60 5,
mV 4 60] [4])
.ret)
def YV (C:Hd)(gl:GL)(e:En)(h:aA)(x:Esc)(K:KT):Sf C gl JR e h x K:=⟨_,by simp only[JR,↓wZ,AO.still];rfl⟩
theorem zdk {C gl e h x K}:NW C gl JR ⟨e,h,x⟩ K=(YV C gl e h x K).1:=(YV C gl e h x K).2
def DY:ACode:=(.seq (rg [uO 2 (.uns 12 0 [0]),
mV 4 (.c (.nilp))] [1,2])
(.seq (rg [lD 10 (some 2) 2,
uO 11 (.mkmap),
uO 12 (.mkmap),
uO 13 (.build [.sl0 none,.p (.int .i64 0),.nilm,.nilm,.sl0 (some 5),.sl0 (some 3),.sl0 none,.sl0 none] [(0,2,10),(2,1,11),(3,1,12)]),
uO 14 (.uns 12 0 [13]),
mV 5 14] [1,5])
(.seq (rg [mV 15 1,
cL 16 KJ [15],
mV 6 16] [1,5,6])
(.seq (.seq (rg [mV 17 1,
lN 18 17,
mV 19 (cI 0)] [5,6,17,18,19])
(.block 0 (.loop (.scope UK))))
JR))))
def iO:AFun:=⟨2,[.t 4],DY,false,false⟩
def MP (C:Hd)(gl:GL)(e:En)(h:aA)(x:Esc)(K:KT):Sf C gl DY e h x K:=⟨_,by simp only[DY,↓wZ,AO.still];rfl⟩
theorem zdh {C gl v0 v1 h x K}:NW C gl iO.body ⟨enter [v0,v1],h,x⟩ K=(MP C gl [(0,v0),(1,v1)] h x K).1:=(MP C gl [(0,v0),(1,v1)] h x K).2
def WK:ACode:=.pr [0,1,5] (.seq (.seq (rg [mV 8 5,
bN 9 .gtr 8 (cI 0),
mV 10 9,
gD 11 10 true (.mv 0),
gD 12 10 true (.mv 5),
gD 13 10 true (.bin .sub 12 (cI 1)),
gD 14 10 true (.iaddr (some 8) 11 13),
gD 15 10 true (.faddr 2 none 14),
gD 16 10 true (.load none 15),
gD 17 10 true (.mv 1),
gD 18 10 true (.bin .gtr 16 17),
uO 19 (.pick 10 18 cF)] [0,1,5,19])
(.cond 19 .skip
(.exit 0)))
(.block 1 (rg [mV 20 5,
bN 21 .sub 20 (cI 1),
mV 5 21] [0,1,5])))
def cW (C:Hd)(gl:GL)(e:En)(h:aA)(x:Esc)(K:KT):Sf C gl WK e h x K:=⟨_,by simp only[WK,↓wZ,AO.still];rfl⟩
theorem zds {C gl e h x K}:NW C gl WK ⟨e,h,x⟩ K=(cW C gl e h x K).1:=(cW C gl e h x K).2
theorem zf4 {C gl e h x K}:NW C gl (.loop WK) ⟨e,h,x⟩ K=VA C gl WK K [(0,eA e 0),(1,eA e 1),(5,eA e 5)] h x:=GB
def MR:ACode:=.pr [0,5] (.seq (rg [mV 22 0,
mV 23 5,
uO 24 (.slice (some 8) 22 none (some 23) none),
mV 4 24] [4])
.ret)
def dW (C:Hd)(gl:GL)(e:En)(h:aA)(x:Esc)(K:KT):Sf C gl MR e h x K:=⟨_,by simp only[MR,↓wZ,AO.still];rfl⟩
theorem zdt {C gl e h x K}:NW C gl MR ⟨e,h,x⟩ K=(dW C gl e h x K).1:=(dW C gl e h x K).2
def HY:ACode:=(.seq (rg [mV 4 (.c (.p (.sl (some 8) [])))] [0,1])
(.seq (rg [mV 6 0,
lN 7 6,
mV 5 7] [0,1,5])
(.seq (.block 0 (.loop WK))
MR)))
def mO:AFun:=⟨2,[.t 4],HY,false,false⟩
def NP (C:Hd)(gl:GL)(e:En)(h:aA)(x:Esc)(K:KT):Sf C gl HY e h x K:=⟨_,by simp only[HY,↓wZ,AO.still];rfl⟩
theorem zdr {C gl v0 v1 h x K}:NW C gl mO.body ⟨enter [v0,v1],h,x⟩ K=(NP C gl [(0,v0),(1,v1)] h x K).1:=(NP C gl [(0,v0),(1,v1)] h x K).2
def TK:ACode:=.pr [1,2,5,12] (.seq (rg [uO 13 (.mnext none [12]),
eX 14 13 0] [1,2,5,12,14])
(.seq (.cond 14 .skip
(.exit 0))
(.block 1 (.seq (rg [uO 15 (.mentry 12),
eX 16 15 0,
eX 17 15 1,
mV 6 16,
mV 7 17] [1,2,5,6,7,12])
(.seq (rg [mV 18 7,
uO 19 (.nilchk 18),
fA 20 0 none 19,
lD 21 none 20,
bN 22 .eql 21 (cI 1),
mV 23 22,
gD 24 23 true (.mv 7),
gD 25 23 true (.nilchk 24),
gD 26 23 true (.faddr 2 none 25),
gD 27 23 true (.load none 26),
gD 28 23 true (.mv 1),
gD 29 23 true (.bin .eql 27 28),
uO 30 (.pick 23 29 cF)] [1,2,5,6,12,30])
(.cond 30 (rg [mV 31 5,
mV 32 6,
uO 33 (.bsl false none 1 (.str []) [(0,32)]),
uO 34 (.app none 31 33),
mV 5 34] [1,2,5,12])
.skip))))))
def UV (C:Hd)(gl:GL)(e:En)(h:aA)(x:Esc)(K:KT):Sf C gl TK e h x K:=⟨_,by simp only[TK,↓wZ,AO.still];rfl⟩
theorem zde {C gl e h x K}:NW C gl TK ⟨e,h,x⟩ K=(UV C gl e h x K).1:=(UV C gl e h x K).2
theorem zf1 {C gl e h x K}:NW C gl (.loop (.scope TK)) ⟨e,h,x⟩ K=VA C gl (.scope TK) K [(1,eA e 1),(2,eA e 2),(5,eA e 5),(12,eA e 12)] h x:=iF
def HR:ACode:=.pr [2,5] (.seq (rg [mV 35 5,
uO 36 (.mkfn PJ [2]),
cL 37 sM [35,36]] [5])
(.seq (rg [mV 38 5,
mV 4 38] [4])
.ret))
def VV (C:Hd)(gl:GL)(e:En)(h:aA)(x:Esc)(K:KT):Sf C gl HR e h x K:=⟨_,by simp only[HR,↓wZ,AO.still];rfl⟩
theorem zdf {C gl e h x K}:NW C gl HR ⟨e,h,x⟩ K=(VV C gl e h x K).1:=(VV C gl e h x K).2
def BY:ACode:=(.det (.seq (rg [uO 2 (.box 0),
mV 4 (.c (.p (.sl none [])))] [1,2])
(.seq (rg [uO 5 (.new0 none)] [1,2,5])
(.seq (.seq (rg [lD 8 none 2,
uO 9 (.nilchk 8),
fA 10 2 none 9,
lD 11 none 10,
uO 12 (.mrange 11)] [1,2,5,12])
(.block 0 (.loop (.scope TK))))
HR))))
def XT:AFun:=⟨2,[.o 4],BY,false,false⟩
def KP (C:Hd)(gl:GL)(e:En)(h:aA)(x:Esc)(K:KT):Sf C gl BY e h x K:=⟨_,by simp only[BY,↓wZ,AO.still];rfl⟩
theorem zdd {C gl v0 v1 h x K}:NW C gl XT.body ⟨enter [v0,v1],h,x⟩ K=(KP C gl [(0,v0),(1,v1)] h x K).1:=(KP C gl [(0,v0),(1,v1)] h x K).2
def KR:ACode:=.pr [9] (.seq (rg [mV 23 9,
mV 8 23] [8])
.ret)
def ZV (C:Hd)(gl:GL)(e:En)(h:aA)(x:Esc)(K:KT):Sf C gl KR e h x K:=⟨_,by simp only[KR,↓wZ,AO.still];rfl⟩
theorem zdn {C gl e h x K}:NW C gl KR ⟨e,h,x⟩ K=(ZV C gl e h x K).1:=(ZV C gl e h x K).2
def FY:ACode:=(.seq (rg [uO 4 (.box 0),
mV 8 (cI 0)] [1,2,3,4])
(.seq (rg [lD 10 (some 2) 4,
mV 11 1,
mV 12 3,
cL 13 kH [10,11,12],
mV 9 13] [2,4,9])
(.seq (.seq (rg [mV 14 9,
bN 15 .eql 14 (cI 0),
mV 16 15,
gD 17 16 true (.faddr 0 none 4),
gD 18 16 true (.load none 17),
gD 19 16 true (.mv 2),
gD 20 16 true (.call iH [18,19]),
gD 21 16 true (.un .not 20),
uO 22 (.pick 16 21 cF)] [9,22])
(.cond 22 (rg [mV 9 (cI 8)] [9])
.skip))
KR)))
def ZT:AFun:=⟨4,[.t 8],FY,false,false⟩
def rJ (C:Hd)(gl:GL)(e:En)(h:aA)(x:Esc)(K:KT):Sf C gl FY e h x K:=⟨_,by simp only[FY,↓wZ,AO.still];rfl⟩
theorem zdm {C gl v0 v1 v2 v3 h x K}:NW C gl ZT.body ⟨enter [v0,v1,v2,v3],h,x⟩ K=(rJ C gl [(0,v0),(1,v1),(2,v2),(3,v3)] h x K).1:=(rJ C gl [(0,v0),(1,v1),(2,v2),(3,v3)] h x K).2
def FX:ACode:=(.seq (rg [mV 4 (cI 0)] [0,1])
(.seq (rg [mV 7 0,
uO 8 (.nilchk 7),
fA 9 1 none 8,
lD 10 none 9,
bN 11 .add 10 (cI 1),
uO 12 (.nilchk 7),
fA 13 1 none 12,
wO (.store none 13 11)] [0,1])
(.seq (.seq (rg [mV 14 0,
uO 15 (.nilchk 14),
fA 16 0 none 15,
lD 17 none 16,
lN 18 17,
bN 19 .eql 18 (cI 0)] [0,1,19])
(.cond 19 (.seq (rg [mV 20 0,
uO 21 (.nilchk 20),
fA 22 1 none 21,
lD 23 none 22,
bN 24 .mul 23 (cI 7919),
mV 25 1,
cL 26 mI [24,25],
mV 4 26] [4])
.ret)
.skip))
(.seq (dr [dF (mV 27 0) [0],
dF (uO 28 (.nilchk 27)) [27],
dF (fA 29 1 none 28) [28],
dF (lD 30 none 29) [29],
dF (bN 31 .sub 30 (cI 1)) [30],
dF (mV 32 0) [0],
dF (uO 33 (.nilchk 32)) [32],
dF (fA 34 0 none 33) [33],
dF (lD 35 none 34) [34],
dF (lN 36 35) [35],
dF (bN 37 .rem 31 36) [31,36],
dF (mV 5 37) [37]] [0,1,5])
(.seq (dr [dF (mV 38 0) [0],
dF (uO 39 (.nilchk 38)) [38],
dF (fA 40 1 none 39) [39],
dF (lD 41 none 40) [40],
dF (bN 42 .sub 41 (cI 1)) [41],
dF (mV 43 0) [0],
dF (uO 44 (.nilchk 43)) [43],
dF (fA 45 0 none 44) [44],
dF (lD 46 none 45) [45],
dF (lN 47 46) [46],
dF (bN 48 .quo 42 47) [42,47],
dF (mV 6 48) [48]] [0,1,5,6])
(.seq (rg [mV 49 0,
uO 50 (.nilchk 49),
fA 51 0 none 50,
lD 52 none 51,
mV 53 5,
iA 54 none 52 53,
lD 55 none 54,
cL 56 mI [55,(cI 1073741824)],
mV 57 6,
mV 58 5,
bN 59 .add (cI 7919) 58,
bN 60 .mul 57 59,
bN 61 .add 56 60,
mV 62 1,
cL 63 mI [61,62],
mV 4 63] [4])
.ret))))))
def nT:AFun:=⟨2,[.t 4],FX,false,false⟩
def IL (C:Hd)(gl:GL)(e:En)(h:aA)(x:Esc)(K:KT):Sf C gl FX e h x K:=⟨_,by simp only[FX,↓wZ,AO.still];rfl⟩
theorem zbs {C gl v0 v1 h x K}:NW C gl nT.body ⟨enter [v0,v1],h,x⟩ K=(IL C gl [(0,v0),(1,v1)] h x K).1:=(IL C gl [(0,v0),(1,v1)] h x K).2
def IX:ACode:=(.seq (rg [mV 4 (cI 0)] [0,1])
(.seq (rg [mV 5 1,
mV 6 0,
mV 7 1,
lN 8 7,
cL 9 SE [6,8],
iA 10 none 5 9,
lD 11 none 10,
mV 4 11] [4])
.ret))
def pT:AFun:=⟨2,[.t 4],IX,false,false⟩
def iP (C:Hd)(gl:GL)(e:En)(h:aA)(x:Esc)(K:KT):Sf C gl IX e h x K:=⟨_,by simp only[IX,↓wZ,AO.still];rfl⟩
theorem zbu {C gl v0 v1 h x K}:NW C gl pT.body ⟨enter [v0,v1],h,x⟩ K=(iP C gl [(0,v0),(1,v1)] h x K).1:=(iP C gl [(0,v0),(1,v1)] h x K).2
def MX:ACode:=(.seq (rg [mV 4 (cS [])] [0,1])
(.seq (rg [mV 5 1,
mV 6 0,
mV 7 1,
lN 8 7,
cL 9 SE [6,8],
iA 10 none 5 9,
lD 11 none 10,
mV 4 11] [4])
.ret))
def uT:AFun:=⟨2,[.t 4],MX,false,false⟩
def mP (C:Hd)(gl:GL)(e:En)(h:aA)(x:Esc)(K:KT):Sf C gl MX e h x K:=⟨_,by simp only[MX,↓wZ,AO.still];rfl⟩
theorem zb0 {C gl v0 v1 h x K}:NW C gl uT.body ⟨enter [v0,v1],h,x⟩ K=(mP C gl [(0,v0),(1,v1)] h x K).1:=(mP C gl [(0,v0),(1,v1)] h x K).2
def EX:ACode:=(.seq (rg [mV 4 cF] [0,1])
(.seq (rg [mV 5 0,
mV 6 1,
cL 7 SE [5,6],
bN 8 .eql 7 (cI 0),
mV 4 8] [4])
.ret))
def mT:AFun:=⟨2,[.t 4],EX,false,false⟩
def fP (C:Hd)(gl:GL)(e:En)(h:aA)(x:Esc)(K:KT):Sf C gl EX e h x K:=⟨_,by simp only[EX,↓wZ,AO.still];rfl⟩
theorem zbr {C gl v0 v1 h x K}:NW C gl mT.body ⟨enter [v0,v1],h,x⟩ K=(fP C gl [(0,v0),(1,v1)] h x K).1:=(fP C gl [(0,v0),(1,v1)] h x K).2
def GX:ACode:=(.seq (rg [mV 6 (cI 0)] [0,1,2])
(.seq (.seq (rg [mV 7 0,
cL 8 tG [7,(cI 12)]] [0,1,2,8])
(.cond 8 (.seq (rg [mV 9 0,
mV 10 1,
bN 11 .sub 10 (cI 1),
mV 12 2,
bN 13 .add 12 (cI 1),
mV 14 1,
mV 15 2,
uO 16 (.bsl false none 6 (.int .i64 0) [(0,11),(1,13),(2,14),(3,15),(4,(cI (-1099511627776))),(5,(cI 1099511627776))]),
cL 17 pF [9,16],
mV 6 17] [6])
.ret)
.skip))
(.seq (rg [mV 18 0,
mV 19 1,
mV 20 2,
cL 21 qF [18,19,20],
mV 6 21] [6])
.ret)))
def oT:AFun:=⟨3,[.t 6],GX,false,false⟩
def ZH (C:Hd)(gl:GL)(e:En)(h:aA)(x:Esc)(K:KT):Sf C gl GX e h x K:=⟨_,by simp only[GX,↓wZ,AO.still];rfl⟩
theorem zbt {C gl v0 v1 v2 h x K}:NW C gl oT.body ⟨enter [v0,v1,v2],h,x⟩ K=(ZH C gl [(0,v0),(1,v1),(2,v2)] h x K).1:=(ZH C gl [(0,v0),(1,v1),(2,v2)] h x K).2
def PX:ACode:=(.seq (rg [uO 2 (.box 0),
uO 3 (.box 1),
mV 4 (cI 0)] [2,3])
(.seq (.block 0 (.seq (rg [fA 6 2 none 2,
lD 7 none 6,
fA 8 2 none 3,
lD 9 none 8,
bN 10 .neq 7 9,
mV 5 10] [2,3,5])
(.cond 5 (.seq (rg [fA 11 2 none 2,
lD 12 none 11,
fA 13 2 none 3,
lD 14 none 13,
bN 15 .sub 12 14,
cL 16 GJ [15],
mV 4 16] [4])
.ret)
(.seq (rg [fA 18 0 none 2,
lD 19 none 18,
fA 20 0 none 3,
lD 21 none 20,
bN 22 .neq 19 21,
mV 17 22] [2,3,17])
(.cond 17 (.seq (rg [fA 23 0 none 2,
lD 24 none 23,
fA 25 0 none 3,
lD 26 none 25,
cL 27 UE [24,26],
mV 4 27] [4])
.ret)
.skip)))))
(.seq (rg [fA 28 1 none 2,
lD 29 none 28,
fA 30 1 none 3,
lD 31 none 30,
bN 32 .sub 29 31,
cL 33 GJ [32],
mV 4 33] [4])
.ret)))
def yT:AFun:=⟨2,[.t 4],PX,false,false⟩
def nG (C:Hd)(gl:GL)(e:En)(h:aA)(x:Esc)(K:KT):Sf C gl PX e h x K:=⟨_,by simp only[PX,↓wZ,AO.still];rfl⟩
theorem zb8 {C gl v0 v1 h x K}:NW C gl yT.body ⟨enter [v0,v1],h,x⟩ K=(nG C gl [(0,v0),(1,v1)] h x K).1:=(nG C gl [(0,v0),(1,v1)] h x K).2
def XQ:ACode:=.pr [1,3,4] (.seq (.block 0 (.seq (rg [fA 45 0 none 1,
lD 46 none 45,
cL 47 TE [46],
uO 48 (.un .not 47),
mV 44 48] [1,3,4,44])
(.cond 44 (.seq (rg [mV 2 (cI 5)] [2])
.ret)
(.seq (rg [fA 50 1 none 1,
lD 51 none 50,
cL 52 wE [51,(cI 1),(cI 1000000)],
uO 53 (.un .not 52),
mV 54 53,
gD 55 54 false (.faddr 2 none 1),
gD 56 54 false (.load none 55),
gD 57 54 false (.call EJ [56]),
gD 58 54 false (.un .not 57),
uO 59 (.pick 54 cT 58),
mV 49 59] [1,3,4,49])
(.cond 49 (.seq (rg [mV 2 (cI 1)] [2])
.ret)
(.seq (rg [fA 61 3 none 1,
lD 62 none 61,
cL 63 wE [62,(cI 1),(cI 7)],
uO 64 (.un .not 63),
mV 60 64] [1,3,4,60])
(.cond 60 (.seq (rg [mV 2 (cI 4)] [2])
.ret)
(.seq (rg [mV 66 4,
uO 67 (.un .not 66),
mV 65 67] [1,3,65])
(.cond 65 (.seq (rg [mV 2 (cI 5)] [2])
.ret)
(.seq (rg [fA 69 3 none 1,
lD 70 none 69,
bN 71 .eql 70 (cI 7),
mV 72 71,
gD 73 72 true (.faddr 7 none 1),
gD 74 72 true (.load none 73),
gD 75 72 true (.call wE [74,(cI 1),(cI 1000000)]),
gD 76 72 true (.un .not 75),
uO 77 (.pick 72 76 cF),
mV 68 77] [1,3,68])
(.cond 68 (.seq (rg [mV 2 (cI 1)] [2])
.ret)
(.seq (rg [lD 79 (some 8) 1,
lD 80 (some 8) 3,
uO 81 (.eqa [2,0,0,0,2,2,2,0] true 79 80),
mV 78 81] [78])
(.cond 78 (.seq (rg [mV 2 (cI 3)] [2])
.ret)
.skip)))))))))))))
(.seq (rg [mV 2 (cI 0)] [2])
.ret))
def dE (C:Hd)(gl:GL)(v1 v3 v4:AV)(h:aA)(x:Esc)(K:KT):Prop:=
 pK (EA 0 none v1) fun t1=>
 pK (FA none t1 h) fun t2=>
 C TE [t2] h fun t3 h4 y5=>
 pK (oUn .not t3) fun t6=>
 kB t6 (K .ret ⟨[(2,(AI 5))],h4,(y5++x)⟩)
 (pK (EA 1 none v1) fun t7=>
 pK (FA none t7 h4) fun t8=>
 C wE [t8,(AI 1),(AI 1000000)] h4 fun t9 h10 y11=>
 pK (oUn .not t9) fun t12=>
 gP t12 false (EA 2 none v1) h10 fun t13 h14 y15=>
 gP t12 false (FA none t13 h14) h14 fun t16 h17 y18=>
 gV t12 false h17 (C EJ [t16] h17) fun t19 h20 y21=>
 gP t12 false (oUn .not t19) h20 fun t22 h23 y24=>
 pK (HG t12 (AB true) t22) fun t25=>
 kB t25 (K .ret ⟨[(2,(AI 1))],h23,(y24++(y21++(y18++(y15++(y11++(y5++x))))))⟩)
 (pK (EA 3 none v1) fun t26=>
 pK (FA none t26 h23) fun t27=>
 C wE [t27,(AI 1),(AI 7)] h23 fun t28 h29 y30=>
 pK (oUn .not t28) fun t31=>
 kB t31 (K .ret ⟨[(2,(AI 4))],h29,(y30++(y24++(y21++(y18++(y15++(y11++(y5++x)))))))⟩)
 (pK (oUn .not v4) fun t32=>
 kB t32 (K .ret ⟨[(2,(AI 5))],h29,(y30++(y24++(y21++(y18++(y15++(y11++(y5++x)))))))⟩)
 (pK (EA 3 none v1) fun t33=>
 pK (FA none t33 h29) fun t34=>
 pK (CA .eql t34 (AI 7)) fun t35=>
 gP t35 true (EA 7 none v1) h29 fun t36 h37 y38=>
 gP t35 true (FA none t36 h37) h37 fun t39 h40 y41=>
 gV t35 true h40 (C wE [t39,(AI 1),(AI 1000000)] h40) fun t42 h43 y44=>
 gP t35 true (oUn .not t42) h43 fun t45 h46 y47=>
 pK (HG t35 t45 (AB false)) fun t48=>
 kB t48 (K .ret ⟨[(2,(AI 1))],h46,(y47++(y44++(y41++(y38++(y30++(y24++(y21++(y18++(y15++(y11++(y5++x)))))))))))⟩)
 (pK (FA (some 8) v1 h46) fun t49=>
 pK (FA (some 8) v3 h46) fun t50=>
 pK (GA [2,0,0,0,2,2,2,0] true t49 t50) fun t51=>
 kB t51 (K .ret ⟨[(2,(AI 3))],h46,(y47++(y44++(y41++(y38++(y30++(y24++(y21++(y18++(y15++(y11++(y5++x)))))))))))⟩)
 (K .ret ⟨[(2,(AI 0))],h46,(y47++(y44++(y41++(y38++(y30++(y24++(y21++(y18++(y15++(y11++(y5++x)))))))))))⟩))))))
theorem zb7 {C gl e h x K}:NW C gl XQ ⟨e,h,x⟩ K=dE C gl (eA e 1) (eA e 3) (eA e 4) h x K:=by kernel_rfl
def z0e (q1:ACode):ACode:=(.seq (rg [uO 1 (.box 0),
mV 2 (cI 0)] [1])
(.seq (rg [fA 5 0 none 1,
lD 6 none 5,
fA 7 1 none 1,
lD 8 none 7,
fA 9 2 none 1,
lD 10 none 9,
fA 11 3 none 1,
lD 12 none 11,
uO 13 (.build [.p (.str []),.p (.int .i64 0),.p (.int .i64 0),.p (.int .i64 0),.p (.str []),.p (.str []),.p (.str []),.p (.int .i64 0)] [(0,1,6),(1,1,8),(2,1,10),(3,1,12)]),
uO 3 (.alloc [.p (.str []),.p (.int .i64 0),.p (.int .i64 0),.p (.int .i64 0),.p (.str []),.p (.str []),.p (.str []),.p (.int .i64 0)]),
wO (.store (some 8) 3 13)] [1,3])
(.seq (rg [mV 4 cT] [1,3])
(.seq (.seq (rg [fA 14 3 none 1,
lD 15 none 14,
bN 16 .eql 15 (cI 7)] [1,3,16])
(.cond 16 (dr [dF (fA 17 6 none 1) [1],
dF (lD 18 none 17) [17],
dF (fA 19 7 none 1) [1],
dF (lD 20 none 19) [19],
dF (fA 21 6 none 1) [1],
dF (lD 22 none 21) [21],
dA (cL 23 TE [22]) [22] true [] [1,3],
dF (fA 24 6 none 3) [3],
dA (wO (.store none 24 18)) [24,18] true [] [3],
dF (fA 25 7 none 3) [3],
dT (wO (.store none 25 20)) [25,20],
dF (mV 4 23) [23]] [1,3,4])
(.seq (dr [dF (fA 26 4 none 1) [1],
dF (lD 27 none 26) [26],
dF (fA 28 4 none 1) [1],
dF (lD 29 none 28) [28],
dA (cL 30 TE [29]) [29] true [] [1],
dF (fA 31 4 none 3) [3],
dT (wO (.store none 31 27)) [31,27],
dF (mV 4 30) [30]] [1,3,4])
(.seq (rg [fA 32 3 none 1,
lD 33 none 32,
bN 34 .eql 33 (cI 2)] [1,3,4,34])
(.cond 34 (dr [dF (fA 35 5 none 1) [1],
dF (lD 36 none 35) [35],
dF (mV 37 4) [4],
dF (mV 38 37) [37],
dF (gD 39 38 true (.faddr 5 none 1)) [1,38],
dF (gD 40 38 true (.load none 39)) [39,38],
dA (gD 41 38 true (.call TE [40])) [40,38] true [] [1],
dF (uO 42 (.pick 38 41 cF)) [38,41],
dF (fA 43 5 none 3) [3],
dT (wO (.store none 43 36)) [43,36],
dF (mV 4 42) [42]] [1,3,4])
.skip)))))
q1))))
def xT:AFun:=⟨1,[.t 2],z0e XQ,false,false⟩
def bH (C:Hd)(gl:GL)(q1:ACode)(v0:AV)(h:aA)(x:Esc)(K:KT):Prop:=
 wK (fK v0 h) fun t1 h2 y3=>
 pK (EA 0 none t1) fun t4=>
 pK (FA none t4 h2) fun t5=>
 pK (EA 1 none t1) fun t6=>
 pK (FA none t6 h2) fun t7=>
 pK (EA 2 none t1) fun t8=>
 pK (FA none t8 h2) fun t9=>
 pK (EA 3 none t1) fun t10=>
 pK (FA none t10 h2) fun t11=>
 pK (pC [.p (.str []),.p (.int .i64 0),.p (.int .i64 0),.p (.int .i64 0),.p (.str []),.p (.str []),.p (.str []),.p (.int .i64 0)] [(0,1,t5),(1,1,t7),(2,1,t9),(3,1,t11)]) fun t12=>
 alK [.p (.str []),.p (.int .i64 0),.p (.int .i64 0),.p (.int .i64 0),.p (.str []),.p (.str []),.p (.str []),.p (.int .i64 0)] h2 fun t13 h14 y15=>
 wK (vB (some 8) t13 t12 h14) fun t16 h17 y18=>
 pK (EA 3 none t1) fun t19=>
 pK (FA none t19 h17) fun t20=>
 pK (CA .eql t20 (AI 7)) fun t21=>
 kB t21 (pK (EA 6 none t1) fun t22=>
 pK (FA none t22 h17) fun t23=>
 pK (EA 7 none t1) fun t24=>
 pK (FA none t24 h17) fun t25=>
 pK (EA 6 none t1) fun t26=>
 pK (FA none t26 h17) fun t27=>
 UC C TE [t27] h17 fun t28 h29 y30=>
 (pK (FA none t22 h29) fun v=>(fun u (g1:aA) (y1:Esc)=>u=t23∧g1=h29∧y1=[]) v h29 [])∧((pK (FA none t24 h29) fun v=>(fun u (g1:aA) (y1:Esc)=>u=t25∧g1=h29∧y1=[]) v h29 [])∧(pK (EA 6 none t13) fun t31=>
 wK (vB none t31 t23 h29) fun t32 h33 y34=>
 (pK (FA none t24 h33) fun v=>(fun u (g1:aA) (y1:Esc)=>u=t25∧g1=h33∧y1=[]) v h33 [])∧(pK (EA 7 none t13) fun t35=>
 wK (vB none t35 t25 h33) fun t36 h37 y38=>
 NW C gl q1 ⟨[(1,t1),(3,t13),(4,t28)],h37,(y38++(y34++(y30++(y18++(y15++(y3++x))))))⟩ K))))
 (pK (EA 4 none t1) fun t39=>
 pK (FA none t39 h17) fun t40=>
 pK (EA 4 none t1) fun t41=>
 pK (FA none t41 h17) fun t42=>
 UC C TE [t42] h17 fun t43 h44 y45=>
 (pK (FA none t39 h44) fun v=>(fun u (g1:aA) (y1:Esc)=>u=t40∧g1=h44∧y1=[]) v h44 [])∧(pK (EA 4 none t13) fun t46=>
 wK (vB none t46 t40 h44) fun t47 h48 y49=>
 pK (EA 3 none t1) fun t50=>
 pK (FA none t50 h48) fun t51=>
 pK (CA .eql t51 (AI 2)) fun t52=>
 kB t52 (pK (EA 5 none t1) fun t53=>
 pK (FA none t53 h48) fun t54=>
 gP t43 true (EA 5 none t1) h48 fun t55 h56 y57=>
 gP t43 true (FA none t55 h56) h56 fun t58 h59 y60=>
 gV t43 true h59 (UC C TE [t58] h59) fun t61 h62 y63=>
 (pK (FA none t53 h62) fun v=>(fun u (g1:aA) (y1:Esc)=>u=t54∧g1=h62∧y1=[]) v h62 [])∧(pK (HG t43 t61 (AB false)) fun t64=>
 pK (EA 5 none t13) fun t65=>
 wK (vB none t65 t54 h62) fun t66 h67 y68=>
 NW C gl q1 ⟨[(1,t1),(3,t13),(4,t64)],h67,(y68++(y63++(y60++(y57++(y49++(y45++(y18++(y15++(y3++x)))))))))⟩ K))
 (NW C gl q1 ⟨[(1,t1),(3,t13),(4,t43),(34,t52)],h48,(y49++(y45++(y18++(y15++(y3++x)))))⟩ K)))
theorem z6A {C gl q1 v0 h x K}:NW C gl (z0e q1) ⟨enter [v0],h,x⟩ K=bH C gl q1 v0 h x K:=by kernel_rfl
theorem zb6 {C gl v0 h x K}:NW C gl xT.body ⟨enter [v0],h,x⟩ K=bH C gl XQ v0 h x K:=z6A
def ZX:ACode:=(.seq (rg [mV 4 cF] [0,1])
(.seq (rg [mV 5 0,
mV 6 1,
cL 7 rM [5,6],
bN 8 .geq 7 (cI 0),
mV 4 8] [4])
.ret))
def IT:AFun:=⟨2,[.t 4],ZX,true,false⟩
def uP (C:Hd)(gl:GL)(e:En)(h:aA)(x:Esc)(K:KT):Sf C gl ZX e h x K:=⟨_,by simp only[ZX,↓wZ,AO.still];rfl⟩
theorem zbU {C gl v0 v1 h x K}:NW C gl IT.body ⟨enter [v0,v1],h,x⟩ K=(uP C gl [(0,v0),(1,v1)] h x K).1:=(uP C gl [(0,v0),(1,v1)] h x K).2
def OX:ACode:=(.seq (rg [uO 2 (.box 0),
mV 3 cF] [1,2])
(.seq (rg [lD 4 (some 8) 2,
lD 5 (some 8) 1,
cL 6 lM [4,5],
mV 3 6] [3])
.ret))
def wT:AFun:=⟨2,[.t 3],OX,false,false⟩
def oP (C:Hd)(gl:GL)(e:En)(h:aA)(x:Esc)(K:KT):Sf C gl OX e h x K:=⟨_,by simp only[OX,↓wZ,AO.still];rfl⟩
theorem zb5 {C gl v0 v1 h x K}:NW C gl wT.body ⟨enter [v0,v1],h,x⟩ K=(oP C gl [(0,v0),(1,v1)] h x K).1:=(oP C gl [(0,v0),(1,v1)] h x K).2
def UX:ACode:=(.seq (rg [uO 2 (.box 0),
uO 3 (.box 1),
mV 4 cF] [2,3])
(.seq (rg [fA 5 0 none 2,
lD 6 none 5,
fA 7 0 none 3,
lD 8 none 7,
bN 9 .eql 6 8,
mV 10 9,
gD 11 10 true (.faddr 1 none 2),
gD 12 10 true (.load none 11),
gD 13 10 true (.faddr 1 none 3),
gD 14 10 true (.load none 13),
gD 15 10 true (.bin .eql 12 14),
uO 16 (.pick 10 15 cF),
mV 4 16] [4])
.ret))
def DT:AFun:=⟨2,[.t 4],UX,false,false⟩
def KL (C:Hd)(gl:GL)(e:En)(h:aA)(x:Esc)(K:KT):Sf C gl UX e h x K:=⟨_,by simp only[UX,↓wZ,AO.still];rfl⟩
theorem zbF {C gl v0 v1 h x K}:NW C gl DT.body ⟨enter [v0,v1],h,x⟩ K=(KL C gl [(0,v0),(1,v1)] h x K).1:=(KL C gl [(0,v0),(1,v1)] h x K).2
def KK:ACode:=.pr [0,1,2,6,7,8] (.seq (.seq (rg [mV 11 8,
mV 12 1,
bN 13 .leq 11 12] [0,1,2,6,7,8,13])
(.cond 13 .skip
(.exit 0)))
(.block 1 (.seq (rg [mV 14 0,
mV 15 7,
mV 16 8,
mV 17 2,
cL 18 vG [14,15,16,17]] [0,1,2,6,8])
(.seq (rg [mV 19 8,
mV 7 19] [0,1,2,6,7,8])
(rg [mV 20 8,
mV 21 6,
bN 22 .add 20 21,
mV 8 22] [0,1,2,6,7,8])))))
def tV (C:Hd)(gl:GL)(e:En)(h:aA)(x:Esc)(K:KT):Sf C gl KK e h x K:=⟨_,by simp only[KK,↓wZ,AO.still];rfl⟩
theorem zcy {C gl e h x K}:NW C gl KK ⟨e,h,x⟩ K=(tV C gl e h x K).1:=(tV C gl e h x K).2
theorem zfs {C gl e h x K}:NW C gl (.loop KK) ⟨e,h,x⟩ K=VA C gl KK K [(0,eA e 0),(1,eA e 1),(2,eA e 2),(6,eA e 6),(7,eA e 7),(8,eA e 8)] h x:=GB
def LK:ACode:=.pr [0,1,2,6,7,8] (.seq (.seq (rg [mV 33 8,
mV 34 1,
bN 35 .leq 33 34] [0,1,2,6,7,8,35])
(.cond 35 .skip
(.exit 4)))
(.block 5 (.seq (rg [mV 36 0,
mV 37 7,
mV 38 7,
mV 39 6,
bN 40 .add 38 39,
mV 41 8,
mV 42 2,
cL 43 z2N [36,37,40,41,42]] [0,1,2,6,8])
(.seq (rg [mV 44 8,
mV 7 44] [0,1,2,6,7,8])
(rg [mV 45 8,
mV 46 6,
bN 47 .mul (cI 2) 46,
bN 48 .add 45 47,
mV 8 48] [0,1,2,6,7,8])))))
def uV (C:Hd)(gl:GL)(e:En)(h:aA)(x:Esc)(K:KT):Sf C gl LK e h x K:=⟨_,by simp only[LK,↓wZ,AO.still];rfl⟩
theorem zcz {C gl e h x K}:NW C gl LK ⟨e,h,x⟩ K=(uV C gl e h x K).1:=(uV C gl e h x K).2
theorem zft {C gl e h x K}:NW C gl (.loop LK) ⟨e,h,x⟩ K=VA C gl LK K [(0,eA e 0),(1,eA e 1),(2,eA e 2),(6,eA e 6),(7,eA e 7),(8,eA e 8)] h x:=GB
def pR:ACode:=.pr [0,1,2,6] (rg [mV 61 6,
bN 62 .mul 61 (cI 2),
mV 6 62] [0,1,2,6])
def vV (C:Hd)(gl:GL)(e:En)(h:aA)(x:Esc)(K:KT):Sf C gl pR e h x K:=⟨_,by simp only[pR,↓wZ,AO.still];rfl⟩
theorem zc0 {C gl e h x K}:NW C gl pR ⟨e,h,x⟩ K=(vV C gl e h x K).1:=(vV C gl e h x K).2
def qR:ACode:=.pr [0,1,2,6,7] (.seq (.seq (rg [mV 49 7,
mV 50 6,
bN 51 .add 49 50,
mV 9 51] [0,1,2,6,7,9])
(.seq (rg [mV 52 9,
mV 53 1,
bN 54 .lss 52 53] [0,1,2,6,7,9,54])
(.cond 54 (rg [mV 55 0,
mV 56 7,
mV 57 9,
mV 58 1,
mV 59 2,
cL 60 z2N [55,56,57,58,59]] [0,1,2,6])
.skip)))
pR)
def wV (C:Hd)(gl:GL)(e:En)(h:aA)(x:Esc)(K:KT):Sf C gl qR e h x K:=⟨_,by simp only[qR,↓wZ,AO.still];rfl⟩
theorem zc1 {C gl e h x K}:NW C gl qR ⟨e,h,x⟩ K=(wV C gl e h x K).1:=(wV C gl e h x K).2
def MK:ACode:=.pr [0,1,2,6] (.seq (.seq (rg [mV 28 6,
mV 29 1,
bN 30 .lss 28 29] [0,1,2,6,30])
(.cond 30 .skip
(.exit 2)))
(.block 3 (.seq (rg [mV 31 6,
bN 32 .mul (cI 2) 31,
mV 7 (cI 0),
mV 8 32] [0,1,2,6,7,8])
(.seq (.block 4 (.loop LK))
qR))))
def xV (C:Hd)(gl:GL)(e:En)(h:aA)(x:Esc)(K:KT):Sf C gl MK e h x K:=⟨_,by simp only[MK,↓wZ,AO.still];rfl⟩
theorem zc2 {C gl e h x K}:NW C gl MK ⟨e,h,x⟩ K=(xV C gl e h x K).1:=(xV C gl e h x K).2
theorem zfu {C gl e h x K}:NW C gl (.loop MK) ⟨e,h,x⟩ K=VA C gl MK K [(0,eA e 0),(1,eA e 1),(2,eA e 2),(6,eA e 6)] h x:=GB
def rR:ACode:=.pr [0,1,2,6,7] (.seq (rg [mV 23 0,
mV 24 7,
mV 25 1,
mV 26 2,
cL 27 vG [23,24,25,26]] [0,1,2,6])
(.block 2 (.loop MK)))
def yV (C:Hd)(gl:GL)(e:En)(h:aA)(x:Esc)(K:KT):Sf C gl rR e h x K:=⟨_,by simp only[rR,↓wZ,AO.still];rfl⟩
theorem zc3 {C gl e h x K}:NW C gl rR ⟨e,h,x⟩ K=(yV C gl e h x K).1:=(yV C gl e h x K).2
def lY:ACode:=(.seq (rg [mV 6 (cI 20)] [0,1,2,6])
(.seq (rg [mV 10 6,
mV 7 (cI 0),
mV 8 10] [0,1,2,6,7,8])
(.seq (.block 0 (.loop KK))
rR)))
def ST:AFun:=⟨3,[],lY,true,false⟩
def DP (C:Hd)(gl:GL)(e:En)(h:aA)(x:Esc)(K:KT):Sf C gl lY e h x K:=⟨_,by simp only[lY,↓wZ,AO.still];rfl⟩
theorem zcx {C gl v0 v1 v2 h x K}:NW C gl ST.body ⟨enter [v0,v1,v2],h,x⟩ K=(DP C gl [(0,v0),(1,v1),(2,v2)] h x K).1:=(DP C gl [(0,v0),(1,v1),(2,v2)] h x K).2
def mK:ACode:=.pr [3,6,7,8] (.seq (rg [bN 9 .lss 8 7] [3,6,7,8,9])
(.seq (.cond 9 .skip
(.exit 0))
(.seq (.block 1 (.seq (rg [iA 10 none 6 8,
lD 11 none 10,
mV 5 11] [3,5,6,7,8])
(.seq (rg [mV 12 5,
mV 13 3,
bN 14 .neq 12 13] [3,5,6,7,8,14])
(.cond 14 (.seq (rg [mV 15 5,
mV 2 15] [2])
.ret)
.skip))))
(rg [bN 16 .add 8 (cI 1),
mV 8 16] [3,6,7,8]))))
def zU (C:Hd)(gl:GL)(e:En)(h:aA)(x:Esc)(K:KT):Sf C gl mK e h x K:=⟨_,by simp only[mK,↓wZ,AO.still];rfl⟩
theorem zaW {C gl e h x K}:NW C gl mK ⟨e,h,x⟩ K=(zU C gl e h x K).1:=(zU C gl e h x K).2
theorem zeW {C gl e h x K}:NW C gl (.loop mK) ⟨e,h,x⟩ K=VA C gl mK K [(3,eA e 3),(6,eA e 6),(7,eA e 7),(8,eA e 8)] h x:=GB
def MQ:ACode:=.pr [3] (.seq (rg [mV 17 3,
mV 2 17] [2])
.ret)
def BU (C:Hd)(gl:GL)(e:En)(h:aA)(x:Esc)(K:KT):Sf C gl MQ e h x K:=⟨_,by simp only[MQ,↓wZ,AO.still];rfl⟩
theorem zaX {C gl e h x K}:NW C gl MQ ⟨e,h,x⟩ K=(BU C gl e h x K).1:=(BU C gl e h x K).2
def tX:ACode:=(.seq (rg [mV 2 (cI 0)] [0])
(.seq (rg [mV 3 (cI 0)] [0,3])
(.seq (.seq (rg [mV 6 0,
lN 7 6,
mV 8 (cI 0)] [3,6,7,8])
(.block 0 (.loop mK)))
MQ)))
def QN:AFun:=⟨1,[.t 2],tX,false,false⟩
def UO (C:Hd)(gl:GL)(e:En)(h:aA)(x:Esc)(K:KT):Sf C gl tX e h x K:=⟨_,by simp only[tX,↓wZ,AO.still];rfl⟩
theorem zaV {C gl v0 h x K}:NW C gl QN.body ⟨enter [v0],h,x⟩ K=(UO C gl [(0,v0)] h x K).1:=(UO C gl [(0,v0)] h x K).2
def sX:ACode:=(.seq (rg [mV 4 (cI 0)] [0,1])
(.seq (rg [mV 7 0,
cL 8 kI [7],
mV 5 8] [0,1,5])
(.seq (rg [mV 9 1,
cL 10 kI [9],
mV 6 10] [0,1,5,6])
(.seq (.seq (rg [mV 11 5] [0,1,6,11])
(.cond 11 (.seq (.seq (rg [mV 12 6] [12])
(.cond 12 (.seq (rg [mV 4 (cI 0)] [4])
.ret)
.skip))
(.seq (rg [mV 4 (cI (-1))] [4])
.ret))
.skip))
(.seq (.seq (rg [mV 13 6] [0,1,13])
(.cond 13 (.seq (rg [mV 4 (cI 1)] [4])
.ret)
.skip))
(.seq (.seq (rg [mV 14 0,
mV 15 1,
bN 16 .lss 14 15] [0,1,16])
(.cond 16 (.seq (rg [mV 4 (cI (-1))] [4])
.ret)
.skip))
(.seq (.seq (rg [mV 17 0,
mV 18 1,
bN 19 .gtr 17 18] [19])
(.cond 19 (.seq (rg [mV 4 (cI 1)] [4])
.ret)
.skip))
(.seq (rg [mV 4 (cI 0)] [4])
.ret))))))))
def PN:AFun:=⟨2,[.t 4],sX,false,false⟩
def lJ (C:Hd)(gl:GL)(e:En)(h:aA)(x:Esc)(K:KT):Sf C gl sX e h x K:=⟨_,by simp only[sX,↓wZ,AO.still];rfl⟩
theorem zaU {C gl v0 v1 h x K}:NW C gl PN.body ⟨enter [v0,v1],h,x⟩ K=(lJ C gl [(0,v0),(1,v1)] h x K).1:=(lJ C gl [(0,v0),(1,v1)] h x K).2
def IY:ACode:=(.seq (rg [mV 4 (cI 0)] [0,1])
(.seq (rg [mV 5 0,
mV 6 1,
cL 7 AJ [5,6],
mV 4 7] [4])
.ret))
def nO:AFun:=⟨2,[.t 4],IY,false,false⟩
def OP (C:Hd)(gl:GL)(e:En)(h:aA)(x:Esc)(K:KT):Sf C gl IY e h x K:=⟨_,by simp only[IY,↓wZ,AO.still];rfl⟩
theorem zdu {C gl v0 v1 h x K}:NW C gl nO.body ⟨enter [v0,v1],h,x⟩ K=(OP C gl [(0,v0),(1,v1)] h x K).1:=(OP C gl [(0,v0),(1,v1)] h x K).2
def lK:ACode:=.pr [0,23,24] (.seq (rg [bN 25 .lss 24 23] [0,23,24,25])
(.seq (.cond 25 .skip
(.exit 0))
(.seq (.block 1 (.seq (rg [mV 26 24,
mV 3 26] [0,3,23,24])
(.seq (rg [mV 27 0,
mV 28 3,
uO 29 (.idxs 27 28),
mV 4 29] [0,4,23,24])
(.seq (rg [mV 30 4,
bN 31 .geq 30 (.c (.p (.int .u8 97))),
mV 32 31,
gD 33 32 true (.mv 4),
gD 34 32 true (.bin .leq 33 (.c (.p (.int .u8 122)))),
uO 35 (.pick 32 34 cF),
mV 36 35,
gD 37 36 false (.mv 4),
gD 38 36 false (.bin .geq 37 (.c (.p (.int .u8 48)))),
gD 39 36 false (.mv 38),
gD 40 39 true (.mv 4),
gD 41 39 true (.bin .leq 40 (.c (.p (.int .u8 57)))),
gD 42 36 false (.pick 39 41 cF),
uO 43 (.pick 36 cT 42),
mV 44 43,
gD 45 44 false (.mv 4),
gD 46 44 false (.bin .eql 45 (.c (.p (.int .u8 45)))),
uO 47 (.pick 44 cT 46),
mV 48 47,
gD 49 48 false (.mv 4),
gD 50 48 false (.bin .eql 49 (.c (.p (.int .u8 95)))),
uO 51 (.pick 48 cT 50),
uO 52 (.un .not 51)] [0,23,24,52])
(.cond 52 (.seq (rg [mV 2 cF] [2])
.ret)
.skip)))))
(rg [bN 53 .add 24 (cI 1),
mV 24 53] [0,23,24]))))
def xU (C:Hd)(gl:GL)(e:En)(h:aA)(x:Esc)(K:KT):Sf C gl lK e h x K:=⟨_,by simp only[lK,↓wZ,AO.still];rfl⟩
theorem zaQ {C gl e h x K}:NW C gl lK ⟨e,h,x⟩ K=(xU C gl e h x K).1:=(xU C gl e h x K).2
theorem zeV {C gl e h x K}:NW C gl (.loop lK) ⟨e,h,x⟩ K=VA C gl lK K [(0,eA e 0),(23,eA e 23),(24,eA e 24)] h x:=GB
def LQ:ACode:=.pr [] (.seq (rg [mV 2 cT] [2])
.ret)
def yU (C:Hd)(gl:GL)(e:En)(h:aA)(x:Esc)(K:KT):Sf C gl LQ e h x K:=⟨_,by simp only[LQ,↓wZ,AO.still];rfl⟩
theorem zaR {C gl e h x K}:NW C gl LQ ⟨e,h,x⟩ K=(yU C gl e h x K).1:=(yU C gl e h x K).2
def pX:ACode:=(.seq (rg [mV 2 cF] [0])
(.seq (.seq (rg [mV 5 0,
bN 6 .eql 5 (cS []),
mV 7 6,
gD 8 7 false (.mv 0),
gD 9 7 false (.lens 8),
gD 10 7 false (.bin .gtr 9 (cI 40)),
uO 11 (.pick 7 cT 10),
mV 12 11,
gD 13 12 false (.mv 0),
gD 14 12 false (.idxs 13 (cI 0)),
gD 15 12 false (.bin .lss 14 (.c (.p (.int .u8 97)))),
uO 16 (.pick 12 cT 15),
mV 17 16,
gD 18 17 false (.mv 0),
gD 19 17 false (.idxs 18 (cI 0)),
gD 20 17 false (.bin .gtr 19 (.c (.p (.int .u8 122)))),
uO 21 (.pick 17 cT 20)] [0,21])
(.cond 21 (.seq (rg [mV 2 cF] [2])
.ret)
.skip))
(.seq (.seq (rg [mV 22 0,
uO 23 (.lens 22),
mV 24 (cI 0)] [0,23,24])
(.block 0 (.loop lK)))
LQ)))
def MN:AFun:=⟨1,[.t 2],pX,false,false⟩
def aH (C:Hd)(gl:GL)(e:En)(h:aA)(x:Esc)(K:KT):Sf C gl pX e h x K:=⟨_,by simp only[pX,↓wZ,AO.still];rfl⟩
theorem zaP {C gl v0 h x K}:NW C gl MN.body ⟨enter [v0],h,x⟩ K=(aH C gl [(0,v0)] h x K).1:=(aH C gl [(0,v0)] h x K).2
def rX:ACode:=(.seq (rg [mV 6 cF] [0,1,2])
(.seq (rg [mV 7 0,
mV 8 1,
bN 9 .lss 7 8,
mV 10 9,
gD 11 10 false (.mv 0),
gD 12 10 false (.mv 2),
gD 13 10 false (.bin .gtr 11 12),
uO 14 (.pick 10 cT 13),
mV 6 14] [6])
.ret))
def ON:AFun:=⟨3,[.t 6],rX,false,false⟩
def TO (C:Hd)(gl:GL)(e:En)(h:aA)(x:Esc)(K:KT):Sf C gl rX e h x K:=⟨_,by simp only[rX,↓wZ,AO.still];rfl⟩
theorem zaT {C gl v0 v1 v2 h x K}:NW C gl ON.body ⟨enter [v0,v1,v2],h,x⟩ K=(TO C gl [(0,v0),(1,v1),(2,v2)] h x K).1:=(TO C gl [(0,v0),(1,v1),(2,v2)] h x K).2
def qX:ACode:=(.seq (rg [mV 2 cF] [0])
(.seq (rg [mV 3 0,
cL 4 lC [3,(cI 0),(cI 345686399999)],
uO 5 (.un .not 4),
mV 2 5] [2])
.ret))
def NN:AFun:=⟨1,[.t 2],qX,false,false⟩
def SO (C:Hd)(gl:GL)(e:En)(h:aA)(x:Esc)(K:KT):Sf C gl qX e h x K:=⟨_,by simp only[qX,↓wZ,AO.still];rfl⟩
theorem zaS {C gl v0 h x K}:NW C gl NN.body ⟨enter [v0],h,x⟩ K=(SO C gl [(0,v0)] h x K).1:=(SO C gl [(0,v0)] h x K).2
def OK:ACode:=.pr [1,16,17,18] (.seq (rg [bN 19 .lss 18 17] [1,16,17,18,19])
(.seq (.cond 19 .skip
(.exit 1))
(.seq (.block 2 (.seq (rg [mV 20 18,
iA 21 none 16 18,
lD 22 none 21,
mV 3 20,
mV 4 22] [1,3,4,16,17,18])
(.block 3 (.seq (rg [mV 24 4,
cL 25 fE [24],
uO 26 (.un .not 25),
mV 23 26] [1,3,4,16,17,18,23])
(.cond 23 (.seq (rg [mV 2 (cI 5)] [2])
.ret)
(.seq (rg [fA 28 0 none 1,
lD 29 none 28,
mV 30 3,
uO 31 (.slice none 29 none (some 30) none),
mV 32 4,
cL 33 iH [31,32],
mV 27 33] [1,16,17,18,27])
(.cond 27 (.seq (rg [mV 2 (cI 6)] [2])
.ret)
.skip)))))))
(rg [bN 34 .add 18 (cI 1),
mV 18 34] [1,16,17,18]))))
def CV (C:Hd)(gl:GL)(e:En)(h:aA)(x:Esc)(K:KT):Sf C gl OK e h x K:=⟨_,by simp only[OK,↓wZ,AO.still];rfl⟩
theorem zc8 {C gl e h x K}:NW C gl OK ⟨e,h,x⟩ K=(CV C gl e h x K).1:=(CV C gl e h x K).2
theorem zfw {C gl e h x K}:NW C gl (.loop OK) ⟨e,h,x⟩ K=VA C gl OK K [(1,eA e 1),(16,eA e 16),(17,eA e 17),(18,eA e 18)] h x:=GB
def tR:ACode:=.pr [1] (.seq (.seq (rg [fA 35 1 none 1,
lD 36 none 35,
cL 37 lC [36,(cI 1),(cI 10)]] [37])
(.cond 37 (.seq (rg [mV 2 (cI 1)] [2])
.ret)
.skip))
(.seq (rg [mV 2 (cI 0)] [2])
.ret))
def PL (C:Hd)(gl:GL)(e:En)(h:aA)(x:Esc)(K:KT):Sf C gl tR e h x K:=⟨_,by simp only[tR,↓wZ,AO.still];rfl⟩
theorem mW {C gl e h x K}:NW C gl tR ⟨e,h,x⟩ K=(PL C gl e h x K).1:=(PL C gl e h x K).2
def nY:ACode:=(.seq (rg [uO 1 (.box 0),
mV 2 (cI 0)] [1])
(.seq (.block 0 (.seq (rg [fA 6 0 none 1,
lD 7 none 6,
lN 8 7,
bN 9 .eql 8 (cI 0),
mV 5 9] [1,5])
(.cond 5 (.seq (rg [mV 2 (cI 8)] [2])
.ret)
(.seq (rg [fA 11 0 none 1,
lD 12 none 11,
lN 13 12,
bN 14 .gtr 13 (cI 20),
mV 10 14] [1,10])
(.cond 10 (.seq (rg [mV 2 (cI 2)] [2])
.ret)
.skip)))))
(.seq (.seq (rg [fA 15 0 none 1,
lD 16 none 15,
lN 17 16,
mV 18 (cI 0)] [1,16,17,18])
(.block 1 (.loop OK)))
tR)))
def WN:AFun:=⟨1,[.t 2],nY,false,false⟩
def pJ (C:Hd)(gl:GL)(e:En)(h:aA)(x:Esc)(K:KT):Sf C gl nY e h x K:=⟨_,by simp only[nY,↓wZ,AO.still];rfl⟩
theorem zc7 {C gl v0 h x K}:NW C gl WN.body ⟨enter [v0],h,x⟩ K=(pJ C gl [(0,v0)] h x K).1:=(pJ C gl [(0,v0)] h x K).2
def EY:ACode:=(.seq (rg [mV 2 (cI 0)] [0])
(.seq (.seq (rg [mV 3 0,
cL 4 jI [3],
uO 5 (.un .not 4)] [5])
(.cond 5 (.seq (rg [mV 2 (cI 1)] [2])
.ret)
.skip))
(.seq (rg [mV 2 (cI 0)] [2])
.ret)))
def jO:AFun:=⟨1,[.t 2],EY,false,false⟩
def TL (C:Hd)(gl:GL)(e:En)(h:aA)(x:Esc)(K:KT):Sf C gl EY e h x K:=⟨_,by simp only[EY,↓wZ,AO.still];rfl⟩
theorem zdl {C gl v0 h x K}:NW C gl jO.body ⟨enter [v0],h,x⟩ K=(TL C gl [(0,v0)] h x K).1:=(TL C gl [(0,v0)] h x K).2
def wR:ACode:=.pr [0,3,4,5] (rg [mV 16 5,
bN 17 .sub 16 (cI 1),
mV 5 17] [0,3,4,5])
def HV (C:Hd)(gl:GL)(e:En)(h:aA)(x:Esc)(K:KT):Sf C gl wR e h x K:=⟨_,by simp only[wR,↓wZ,AO.still];rfl⟩
theorem zcK {C gl e h x K}:NW C gl wR ⟨e,h,x⟩ K=(HV C gl e h x K).1:=(HV C gl e h x K).2
def RK:ACode:=.pr [0,3,4,5] (.seq (.seq (rg [mV 14 5,
bN 15 .geq 14 (cI 0)] [0,3,4,5,15])
(.cond 15 .skip
(.exit 0)))
(.seq (.block 1 (.seq (rg [mV 18 0,
mV 19 5,
iA 20 (some 8) 18 19,
lD 21 (some 8) 20,
uO 6 (.alloc [.p (.str []),.p (.int .i64 0),.p (.int .i64 0),.p (.int .i64 0),.p (.str []),.p (.str []),.p (.str []),.p (.int .i64 0)]),
wO (.store (some 8) 6 21)] [0,3,4,5,6])
(.seq (rg [mV 22 4,
mV 23 5,
mV 24 3,
fA 25 0 none 6,
lD 26 none 25,
fA 27 1 none 6,
lD 28 none 27,
uO 29 (.build [.p (.str []),.p (.int .i64 0)] [(0,1,26),(1,1,28)]),
uO 30 (.look ((some 2),[2,0]) false (AB false) 24 29),
uO 31 (.un .not 30),
iA 32 none 22 23,
wO (.store none 32 31)] [0,3,4,5,6])
(.seq (rg [mV 33 4,
mV 34 5,
iA 35 none 33 34,
lD 36 none 35,
mV 37 36,
gD 38 37 true (.faddr 3 none 6),
gD 39 37 true (.load none 38),
gD 40 37 true (.bin .eql 39 (cI 7)),
uO 41 (.pick 37 40 cF)] [0,3,4,5,6,41])
(.cond 41 (rg [mV 42 3,
fA 43 6 none 6,
lD 44 none 43,
fA 45 7 none 6,
lD 46 none 45,
uO 47 (.build [.p (.str []),.p (.int .i64 0)] [(0,1,44),(1,1,46)]),
wO (.mupd ((some 2),[2,0]) 42 47 cT)] [0,3,4,5])
.skip)))))
wR))
def IV (C:Hd)(gl:GL)(e:En)(h:aA)(x:Esc)(K:KT):Sf C gl RK e h x K:=⟨_,by simp only[RK,↓wZ,AO.still];rfl⟩
theorem zcL {C gl e h x K}:NW C gl RK ⟨e,h,x⟩ K=(IV C gl e h x K).1:=(IV C gl e h x K).2
theorem zfz {C gl e h x K}:NW C gl (.loop (.scope RK)) ⟨e,h,x⟩ K=VA C gl (.scope RK) K [(0,eA e 0),(3,eA e 3),(4,eA e 4),(5,eA e 5)] h x:=iF
def xR:ACode:=.pr [4] (.seq (rg [mV 48 4,
mV 2 48] [2])
.ret)
def JV (C:Hd)(gl:GL)(e:En)(h:aA)(x:Esc)(K:KT):Sf C gl xR e h x K:=⟨_,by simp only[xR,↓wZ,AO.still];rfl⟩
theorem zcM {C gl e h x K}:NW C gl xR ⟨e,h,x⟩ K=(JV C gl e h x K).1:=(JV C gl e h x K).2
def tY:ACode:=(.seq (rg [mV 2 (.c (.p (.sl none [])))] [0])
(.seq (rg [uO 7 (.mkmap),
mV 3 7] [0,3])
(.seq (rg [mV 8 0,
lN 9 8,
uO 10 (.mksl none (.bool false) 9 9),
mV 4 10] [0,3,4])
(.seq (.seq (rg [mV 11 0,
lN 12 11,
bN 13 .sub 12 (cI 1),
mV 5 13] [0,3,4,5])
(.block 0 (.loop (.scope RK))))
xR))))
def YN:AFun:=⟨1,[.t 2],tY,false,false⟩
def GP (C:Hd)(gl:GL)(e:En)(h:aA)(x:Esc)(K:KT):Sf C gl tY e h x K:=⟨_,by simp only[tY,↓wZ,AO.still];rfl⟩
theorem zcJ {C gl v0 h x K}:NW C gl YN.body ⟨enter [v0],h,x⟩ K=(GP C gl [(0,v0)] h x K).1:=(GP C gl [(0,v0)] h x K).2
def DR:ACode:=.pr [0,3,5,38,45] (.cond 45 (.seq (rg [mV 48 0,
mV 49 5,
lD 50 (some 8) 3,
cL 51 MJ [48,49,50],
mV 4 51] [4])
.ret)
(.seq (rg [bN 53 .eql 38 (cI 5),
mV 52 53] [0,3,5,52])
(.cond 52 (.seq (.seq (rg [mV 54 5,
uO 55 (.nilchk 54),
fA 56 0 none 55,
lD 57 none 56,
bN 58 .neq 57 (cI 3)] [3,5,58])
(.cond 58 (.seq (rg [mV 4 (cI 11)] [4])
.ret)
.skip))
(.seq (dr [dF (mV 59 5) [5],
dF (mV 60 5) [5],
dF (fA 61 2 none 3) [3],
dF (lD 62 none 61) [61],
dF (uO 63 (.nilchk 59)) [59],
dF (fA 64 0 none 63) [63],
dA (wO (.store none 64 (cI 1))) [64] true [] [3],
dF (uO 65 (.nilchk 60)) [60],
dF (fA 66 1 none 65) [65],
dT (wO (.store none 66 62)) [66,62]] [])
(.seq (rg [mV 4 (cI 0)] [4])
.ret)))
.skip)))
def RV (C:Hd)(gl:GL)(e:En)(h:aA)(x:Esc)(K:KT):Sf C gl DR e h x K:=⟨_,by simp only[DR,↓wZ,AO.still];rfl⟩
theorem zda {C gl e h x K}:NW C gl DR ⟨e,h,x⟩ K=(RV C gl e h x K).1:=(RV C gl e h x K).2
def ER:ACode:=.pr [3,5] (.seq (dr [dF (mV 89 5) [5],
dF (mV 90 5) [5],
dF (fA 91 2 none 3) [3],
dF (lD 92 none 91) [91],
dF (uO 93 (.nilchk 89)) [89],
dF (fA 94 0 none 93) [93],
dA (wO (.store none 94 (cI 5))) [94] true [] [3],
dF (uO 95 (.nilchk 90)) [90],
dF (fA 96 1 none 95) [95],
dT (wO (.store none 96 92)) [96,92]] [])
(.seq (rg [mV 4 (cI 0)] [4])
.ret))
def SV (C:Hd)(gl:GL)(e:En)(h:aA)(x:Esc)(K:KT):Sf C gl ER e h x K:=⟨_,by simp only[ER,↓wZ,AO.still];rfl⟩
theorem zdb {C gl e h x K}:NW C gl ER ⟨e,h,x⟩ K=(SV C gl e h x K).1:=(SV C gl e h x K).2
def GR:ACode:=.pr [0,3,5] (.seq (.seq (rg [mV 67 5,
uO 68 (.nilchk 67),
fA 69 0 none 68,
lD 70 none 69,
bN 71 .eql 70 (cI 4),
mV 72 71,
gD 73 72 false (.mv 5),
gD 74 72 false (.nilchk 73),
gD 75 72 false (.faddr 0 none 74),
gD 76 72 false (.load none 75),
gD 77 72 false (.bin .eql 76 (cI 5)),
uO 78 (.pick 72 cT 77)] [0,3,5,78])
(.cond 78 (.seq (rg [mV 4 (cI 11)] [4])
.ret)
.skip))
(.seq (.seq (rg [mV 79 5,
uO 80 (.nilchk 79),
fA 81 0 none 80,
lD 82 none 81,
bN 83 .eql 82 (cI 2)] [0,3,5,83])
(.cond 83 (rg [mV 84 0,
mV 85 5,
fA 86 2 none 3,
lD 87 none 86,
cL 88 qI [84,85,87]] [3,5])
.skip))
ER))
def TV (C:Hd)(gl:GL)(e:En)(h:aA)(x:Esc)(K:KT):Sf C gl GR e h x K:=⟨_,by simp only[GR,↓wZ,AO.still];rfl⟩
theorem zdc {C gl e h x K}:NW C gl GR ⟨e,h,x⟩ K=(TV C gl e h x K).1:=(TV C gl e h x K).2
def AY:ACode:=(.seq (rg [uO 3 (.box 1),
mV 4 (cI 0)] [0,3])
(.seq (dr [dF (mV 6 0) [0],
dF (uO 7 (.nilchk 6)) [6],
dF (fA 8 2 none 7) [7],
dF (lD 9 none 8) [8],
dF (fA 10 4 none 3) [3],
dF (lD 11 none 10) [10],
dF (uO 12 (.look (none,[2]) false (.nilp) 9 11)) [9,11],
dF (mV 5 12) [12]] [0,3,5])
(.seq (.seq (rg [fA 13 3 none 3,
lD 14 none 13,
bN 15 .eql 14 (cI 1)] [0,3,5,15])
(.cond 15 (.seq (.seq (rg [mV 16 5,
uO 17 (.isnil 0 true 16)] [0,3,17])
(.cond 17 (.seq (rg [mV 4 (cI 6)] [4])
.ret)
.skip))
(.seq (dr [dF (mV 18 0) [0],
dF (uO 19 (.nilchk 18)) [18],
dF (fA 20 2 none 19) [19],
dF (lD 21 none 20) [20],
dF (fA 22 4 none 3) [3],
dF (lD 23 none 22) [22],
dF (fA 24 2 none 3) [3],
dF (lD 25 none 24) [24],
dF (mV 26 0) [0],
dF (uO 27 (.nilchk 26)) [26],
dF (fA 28 0 (some 2) 27) [27],
dF (fA 29 0 none 28) [28],
dF (lD 30 none 29) [29],
dF (iA 31 none 30 (cI 0)) [30],
dF (lD 32 none 31) [31],
dF (uO 33 (.build [.p (.int .i64 0),.p (.int .i64 0),.p (.str []),.p (.str []),.p (.int .i64 0)] [(0,1,(cI 1)),(1,1,25),(2,1,32)])) [25,32],
dA (uO 34 (.box 33)) [33] true [] [3,5],
dT (wO (.mupd (none,[2]) 21 23 34)) [21,23,34]] [])
(.seq (rg [mV 4 (cI 0)] [4])
.ret)))
.skip))
(.seq (.seq (rg [mV 35 5,
uO 36 (.isnil 0 false 35)] [0,3,5,36])
(.cond 36 (.seq (rg [mV 4 (cI 8)] [4])
.ret)
.skip))
(.seq (.seq (rg [fA 37 3 none 3,
lD 38 none 37] [0,3,5,38])
(.block 0 (.seq (rg [bN 40 .eql 38 (cI 2),
mV 39 40] [0,3,5,38,39])
(.cond 39 (.seq (rg [mV 41 0,
mV 42 5,
lD 43 (some 8) 3,
cL 44 NJ [41,42,43],
mV 4 44] [4])
.ret)
(.seq (.seq (rg [bN 46 .eql 38 (cI 3),
mV 45 46] [0,3,5,38,45])
(.cond 45 .skip
(rg [bN 47 .eql 38 (cI 4),
mV 45 47] [0,3,5,38,45])))
DR)))))
GR)))))
def fO:AFun:=⟨2,[.t 4],AY,false,false⟩
def LD (C:Hd)(gl:GL)(e:En)(h:aA)(x:Esc)(K:KT):Sf C gl AY e h x K:=⟨_,by simp only[AY,↓wZ,AO.still];rfl⟩
theorem zcZ {C gl v0 v1 h x K}:NW C gl fO.body ⟨enter [v0,v1],h,x⟩ K=(LD C gl [(0,v0),(1,v1)] h x K).1:=(LD C gl [(0,v0),(1,v1)] h x K).2
def fY:ACode:=(.seq (rg [mV 5 0,
lN 6 5,
mV 4 6] [0,1,4])
(rg [mV 7 0,
mV 8 4,
mV 9 4,
uO 10 (.conv (.i .u64) 9),
cL 11 dM [10],
mV 12 1,
cL 13 pI [7,(cI 0),8,11,12]] []))
def NT:AFun:=⟨2,[],fY,true,false⟩
def zP (C:Hd)(gl:GL)(e:En)(h:aA)(x:Esc)(K:KT):Sf C gl fY e h x K:=⟨_,by simp only[fY,↓wZ,AO.still];rfl⟩
theorem zci {C gl v0 v1 h x K}:NW C gl NT.body ⟨enter [v0,v1],h,x⟩ K=(zP C gl [(0,v0),(1,v1)] h x K).1:=(zP C gl [(0,v0),(1,v1)] h x K).2
def CY:ACode:=(.seq (rg [mV 5 (cI 0)] [0,1,2])
(.seq (dr [dF (lD 6 none 2) [2],
dF (uO 7 (.nilchk 6)) [6],
dF (fA 8 2 none 7) [7],
dF (lD 9 none 8) [8],
dF (mV 10 0) [0],
dF (uO 11 (.look (none,[2]) false (.nilp) 9 10)) [9,10],
dF (uO 12 (.nilchk 11)) [11],
dF (fA 13 1 none 12) [12],
dF (lD 14 none 13) [13],
dF (lD 15 none 2) [2],
dF (uO 16 (.nilchk 15)) [15],
dF (fA 17 2 none 16) [16],
dF (lD 18 none 17) [17],
dF (mV 19 1) [1],
dF (uO 20 (.look (none,[2]) false (.nilp) 18 19)) [18,19],
dF (uO 21 (.nilchk 20)) [20],
dF (fA 22 1 none 21) [21],
dF (lD 23 none 22) [22],
dT (cL 24 dH [14,23]) [14,23],
dF (mV 25 0) [0],
dF (mV 26 1) [1],
dT (cL 27 UE [25,26]) [25,26],
dF (uO 28 (.bsl false none 2 (.int .i64 0) [(0,24),(1,27)])) [24,27],
dT (cL 29 eH [28]) [28],
dF (mV 5 29) [29]] [5])
.ret))
def YT:AFun:=⟨3,[.t 5],CY,false,false⟩
def LP (C:Hd)(gl:GL)(e:En)(h:aA)(x:Esc)(K:KT):Sf C gl CY e h x K:=⟨_,by simp only[CY,↓wZ,AO.still];rfl⟩
theorem zdg {C gl v0 v1 v2 h x K}:NW C gl YT.body ⟨enter [v0,v1,v2],h,x⟩ K=(LP C gl [(0,v0),(1,v1),(2,v2)] h x K).1:=(LP C gl [(0,v0),(1,v1),(2,v2)] h x K).2
def aY:ACode:=(.seq (rg [mV 4 cF] [0,1])
(.seq (rg [mV 5 0,
mV 6 1,
cL 7 nI [5,6],
bN 8 .geq 7 (cI 0),
mV 4 8] [4])
.ret))
def TN:AFun:=⟨2,[.t 4],aY,true,false⟩
def vP (C:Hd)(gl:GL)(e:En)(h:aA)(x:Esc)(K:KT):Sf C gl aY e h x K:=⟨_,by simp only[aY,↓wZ,AO.still];rfl⟩
theorem zbV {C gl v0 v1 h x K}:NW C gl TN.body ⟨enter [v0,v1],h,x⟩ K=(vP C gl [(0,v0),(1,v1)] h x K).1:=(vP C gl [(0,v0),(1,v1)] h x K).2
def QQ:ACode:=.pr [0] (.seq (rg [mV 15 0,
mV 4 15] [4])
.ret)
def FU (C:Hd)(gl:GL)(e:En)(h:aA)(x:Esc)(K:KT):Sf C gl QQ e h x K:=⟨_,by simp only[QQ,↓wZ,AO.still];rfl⟩
theorem zbl {C gl e h x K}:NW C gl QQ ⟨e,h,x⟩ K=(FU C gl e h x K).1:=(FU C gl e h x K).2
def DX:ACode:=(.seq (rg [mV 4 (cI 0)] [0,1])
(.seq (.seq (rg [mV 5 1,
bN 6 .lss 5 (cI 1)] [0,1,6])
(.cond 6 (.seq (rg [mV 4 (cI 0)] [4])
.ret)
.skip))
(.seq (rg [mV 7 0,
mV 8 1,
bN 9 .rem 7 8,
mV 0 9] [0,1])
(.seq (.seq (rg [mV 10 0,
bN 11 .lss 10 (cI 0)] [0,1,11])
(.cond 11 (rg [mV 12 0,
mV 13 1,
bN 14 .add 12 13,
mV 0 14] [0])
.skip))
QQ))))
def kT:AFun:=⟨2,[.t 4],DX,false,false⟩
def dP (C:Hd)(gl:GL)(e:En)(h:aA)(x:Esc)(K:KT):Sf C gl DX e h x K:=⟨_,by simp only[DX,↓wZ,AO.still];rfl⟩
theorem zbk {C gl v0 v1 h x K}:NW C gl kT.body ⟨enter [v0,v1],h,x⟩ K=(dP C gl [(0,v0),(1,v1)] h x K).1:=(dP C gl [(0,v0),(1,v1)] h x K).2
def VX:ACode:=(.seq (rg [mV 2 (cI 0)] [0])
(.seq (.block 0 (.seq (rg [mV 4 0,
bN 5 .lss 4 (cI 0),
mV 3 5] [0,3])
(.cond 3 (.seq (rg [mV 2 (cI (-1))] [2])
.ret)
(.seq (rg [mV 7 0,
bN 8 .gtr 7 (cI 0),
mV 6 8] [6])
(.cond 6 (.seq (rg [mV 2 (cI 1)] [2])
.ret)
.skip)))))
(.seq (rg [mV 2 (cI 0)] [2])
.ret)))
def ET:AFun:=⟨1,[.t 2],VX,false,false⟩
def oJ (C:Hd)(gl:GL)(e:En)(h:aA)(x:Esc)(K:KT):Sf C gl VX e h x K:=⟨_,by simp only[VX,↓wZ,AO.still];rfl⟩
theorem zbG {C gl v0 h x K}:NW C gl ET.body ⟨enter [v0],h,x⟩ K=(oJ C gl [(0,v0)] h x K).1:=(oJ C gl [(0,v0)] h x K).2
def QX:ACode:=(.seq (rg [mV 2 cF] [0])
(.seq (rg [mV 3 0,
uO 4 (.lens 3),
cL 5 wE [4,(cI 1),(cI 40)],
mV 6 5,
gD 7 6 true (.mv 0),
gD 8 6 true (.slstr 7 none (some (cI 1))),
gD 9 6 true (.call FJ [8,(cS [97,98,99,100,101,102,103,104,105,106,107,108,109,110,111,112,113,114,115,116,117,118,119,120,121,122])]),
uO 10 (.pick 6 9 cF),
mV 11 10,
gD 12 11 true (.mv 0),
gD 13 11 true (.call FJ [12,(cS [97,98,99,100,101,102,103,104,105,106,107,108,109,110,111,112,113,114,115,116,117,118,119,120,121,122,48,49,50,51,52,53,54,55,56,57,45,95])]),
uO 14 (.pick 11 13 cF),
mV 2 14] [2])
.ret))
def zT:AFun:=⟨1,[.t 2],QX,false,false⟩
def aI (C:Hd)(gl:GL)(e:En)(h:aA)(x:Esc)(K:KT):Sf C gl QX e h x K:=⟨_,by simp only[QX,↓wZ,AO.still];rfl⟩
theorem zb9 {C gl v0 h x K}:NW C gl zT.body ⟨enter [v0],h,x⟩ K=(aI C gl [(0,v0)] h x K).1:=(aI C gl [(0,v0)] h x K).2
def SX:ACode:=(.seq (rg [mV 6 cF] [0,1,2])
(.seq (rg [mV 7 1,
mV 8 0,
bN 9 .leq 7 8,
mV 10 9,
gD 11 10 true (.mv 0),
gD 12 10 true (.mv 2),
gD 13 10 true (.bin .leq 11 12),
uO 14 (.pick 10 13 cF),
mV 6 14] [6])
.ret))
def BT:AFun:=⟨3,[.t 6],SX,false,false⟩
def qP (C:Hd)(gl:GL)(e:En)(h:aA)(x:Esc)(K:KT):Sf C gl SX e h x K:=⟨_,by simp only[SX,↓wZ,AO.still];rfl⟩
theorem zbB {C gl v0 v1 v2 h x K}:NW C gl BT.body ⟨enter [v0,v1,v2],h,x⟩ K=(qP C gl [(0,v0),(1,v1),(2,v2)] h x K).1:=(qP C gl [(0,v0),(1,v1),(2,v2)] h x K).2
def RX:ACode:=(.seq (rg [mV 2 cF] [0])
(.seq (rg [mV 3 0,
cL 4 wE [3,(cI 0),(cI 345686399999)],
mV 2 4] [2])
.ret))
def AT:AFun:=⟨1,[.t 2],RX,false,false⟩
def pP (C:Hd)(gl:GL)(e:En)(h:aA)(x:Esc)(K:KT):Sf C gl RX e h x K:=⟨_,by simp only[RX,↓wZ,AO.still];rfl⟩
theorem zbA {C gl v0 h x K}:NW C gl AT.body ⟨enter [v0],h,x⟩ K=(pP C gl [(0,v0)] h x K).1:=(pP C gl [(0,v0)] h x K).2
end Go.Am
end
section
/- The functions asv abstract code,and asv formulas aF their values: printed by program out of the translation. -/
set_option linter.all false
set_option maxRecDepth 100000
namespace Go.Am
def DK:ACode:=.pr [0,1,7,8] (.seq (rg [bN 9 .lss 8 7] [0,1,7,8,9])
(.seq (.cond 9 .skip
(.exit 0))
(.seq (.block 1 (.seq (rg [mV 10 8,
mV 5 10] [0,1,5,7,8])
(.seq (rg [mV 11 1,
mV 12 0,
mV 13 5,
iA 14 (some 8) 12 13,
lD 15 (some 8) 14,
uO 16 (.callv 11 [15])] [0,1,5,7,8,16])
(.cond 16 (.seq (rg [mV 17 5,
mV 4 17] [4])
.ret)
.skip))))
(rg [bN 18 .add 8 (cI 1),
mV 8 18] [0,1,7,8]))))
def cV (C:Hd)(gl:GL)(e:En)(h:aA)(x:Esc)(K:KT):Sf C gl DK e h x K:=⟨_,by simp only[DK,↓wZ,AO.still];rfl⟩
theorem zcd {C gl e h x K}:NW C gl DK ⟨e,h,x⟩ K=(cV C gl e h x K).1:=(cV C gl e h x K).2
theorem zfl {C gl e h x K}:NW C gl (.loop DK) ⟨e,h,x⟩ K=VA C gl DK K [(0,eA e 0),(1,eA e 1),(7,eA e 7),(8,eA e 8)] h x:=GB
def iR:ACode:=.pr [] (.seq (rg [mV 4 (cI (-1))] [4])
.ret)
def dV (C:Hd)(gl:GL)(e:En)(h:aA)(x:Esc)(K:KT):Sf C gl iR e h x K:=⟨_,by simp only[iR,↓wZ,AO.still];rfl⟩
theorem zce {C gl e h x K}:NW C gl iR ⟨e,h,x⟩ K=(dV C gl e h x K).1:=(dV C gl e h x K).2
def dY:ACode:=(.seq (rg [mV 4 (cI 0)] [0,1])
(.seq (.seq (rg [mV 6 0,
lN 7 6,
mV 8 (cI 0)] [0,1,7,8])
(.block 0 (.loop DK)))
iR))
def MT:AFun:=⟨2,[.t 4],dY,true,false⟩
def xP (C:Hd)(gl:GL)(e:En)(h:aA)(x:Esc)(K:KT):Sf C gl dY e h x K:=⟨_,by simp only[dY,↓wZ,AO.still];rfl⟩
theorem zcc {C gl v0 v1 h x K}:NW C gl MT.body ⟨enter [v0,v1],h,x⟩ K=(xP C gl [(0,v0),(1,v1)] h x K).1:=(xP C gl [(0,v0),(1,v1)] h x K).2
def FK:ACode:=.pr [0,1,2,3,8,9] (.seq (.seq (dr [dF (mV 18 9) [9],
dF (mV 19 1) [1],
dF (bN 20 .gtr 18 19) [18,19],
dF (mV 21 20) [20],
dF (gD 22 21 true (.mv 3)) [3,21],
dF (gD 23 21 true (.mv 0)) [0,21],
dF (gD 24 21 true (.mv 9)) [9,21],
dF (gD 25 21 true (.iaddr (some 8) 23 24)) [23,24,21],
dF (gD 26 21 true (.load (some 8) 25)) [25,21],
dF (gD 27 21 true (.mv 0)) [0,21],
dF (gD 28 21 true (.mv 9)) [9,21],
dF (gD 29 21 true (.bin .sub 28 (cI 1))) [28,21],
dF (gD 30 21 true (.iaddr (some 8) 27 29)) [27,29,21],
dF (gD 31 21 true (.load (some 8) 30)) [30,21],
dT (gD 32 21 true (.callv 22 [26,31])) [22,26,31,21],
dF (gD 33 21 true (.bin .lss 32 (cI 0))) [32,21],
dF (uO 34 (.pick 21 33 cF)) [21,33]] [0,1,2,3,8,9,34])
(.cond 34 .skip
(.exit 2)))
(.seq (.block 3 (dr [dF (mV 37 0) [0],
dF (mV 38 9) [9],
dF (mV 39 0) [0],
dF (mV 40 9) [9],
dF (bN 41 .sub 40 (cI 1)) [40],
dF (mV 42 0) [0],
dF (mV 43 9) [9],
dF (bN 44 .sub 43 (cI 1)) [43],
dF (iA 45 (some 8) 42 44) [42,44],
dF (lD 46 (some 8) 45) [45],
dF (mV 47 0) [0],
dF (mV 48 9) [9],
dF (iA 49 (some 8) 47 48) [47,48],
dF (lD 50 (some 8) 49) [49],
dF (iA 51 (some 8) 37 38) [37,38],
dT (wO (.store (some 8) 51 46)) [51,46],
dF (iA 52 (some 8) 39 41) [39,41],
dT (wO (.store (some 8) 52 50)) [52,50]] [0,1,2,3,8,9]))
(rg [mV 35 9,
bN 36 .sub 35 (cI 1),
mV 9 36] [0,1,2,3,8,9])))
def iV (C:Hd)(gl:GL)(e:En)(h:aA)(x:Esc)(K:KT):Sf C gl FK e h x K:=⟨_,by simp only[FK,↓wZ,AO.still];rfl⟩
theorem zcl {C gl e h x K}:NW C gl FK ⟨e,h,x⟩ K=(iV C gl e h x K).1:=(iV C gl e h x K).2
theorem zfn {C gl e h x K}:NW C gl (.loop FK) ⟨e,h,x⟩ K=VA C gl FK K [(0,eA e 0),(1,eA e 1),(2,eA e 2),(3,eA e 3),(8,eA e 8),(9,eA e 9)] h x:=GB
def kR:ACode:=.pr [0,1,2,3,8] (rg [mV 15 8,
bN 16 .add 15 (cI 1),
mV 8 16] [0,1,2,3,8])
def jV (C:Hd)(gl:GL)(e:En)(h:aA)(x:Esc)(K:KT):Sf C gl kR e h x K:=⟨_,by simp only[kR,↓wZ,AO.still];rfl⟩
theorem zcm {C gl e h x K}:NW C gl kR ⟨e,h,x⟩ K=(jV C gl e h x K).1:=(jV C gl e h x K).2
def GK:ACode:=.pr [0,1,2,3,8] (.seq (.seq (rg [mV 12 8,
mV 13 2,
bN 14 .lss 12 13] [0,1,2,3,8,14])
(.cond 14 .skip
(.exit 0)))
(.seq (.block 1 (.seq (rg [mV 17 8,
mV 9 17] [0,1,2,3,8,9])
(.block 2 (.loop FK))))
kR))
def kV (C:Hd)(gl:GL)(e:En)(h:aA)(x:Esc)(K:KT):Sf C gl GK e h x K:=⟨_,by simp only[GK,↓wZ,AO.still];rfl⟩
theorem zcn {C gl e h x K}:NW C gl GK ⟨e,h,x⟩ K=(kV C gl e h x K).1:=(kV C gl e h x K).2
theorem zfo {C gl e h x K}:NW C gl (.loop GK) ⟨e,h,x⟩ K=VA C gl GK K [(0,eA e 0),(1,eA e 1),(2,eA e 2),(3,eA e 3),(8,eA e 8)] h x:=GB
def iY:ACode:=(.seq (rg [mV 10 1,
bN 11 .add 10 (cI 1),
mV 8 11] [0,1,2,3,8])
(.block 0 (.loop GK)))
def PT:AFun:=⟨4,[],iY,true,false⟩
def NL (C:Hd)(gl:GL)(e:En)(h:aA)(x:Esc)(K:KT):Sf C gl iY e h x K:=⟨_,by simp only[iY,↓wZ,AO.still];rfl⟩
theorem zck {C gl v0 v1 v2 v3 h x K}:NW C gl PT.body ⟨enter [v0,v1,v2,v3],h,x⟩ K=(NL C gl [(0,v0),(1,v1),(2,v2),(3,v3)] h x K).1:=(NL C gl [(0,v0),(1,v1),(2,v2),(3,v3)] h x K).2
def uX:ACode:=(.seq (rg [mV 2 cF] [0])
(.seq (rg [mV 3 0,
mV 4 0,
bN 5 .neq 3 4,
mV 2 5] [2])
.ret))
def RN:AFun:=⟨1,[.t 2],uX,false,false⟩
def WO (C:Hd)(gl:GL)(e:En)(h:aA)(x:Esc)(K:KT):Sf C gl uX e h x K:=⟨_,by simp only[uX,↓wZ,AO.still];rfl⟩
theorem zaY {C gl v0 h x K}:NW C gl RN.body ⟨enter [v0],h,x⟩ K=(WO C gl [(0,v0)] h x K).1:=(WO C gl [(0,v0)] h x K).2
def vX:ACode:=(.seq (rg [mV 4 (cI 0)] [0,1])
(.seq (rg [mV 5 0,
mV 6 1,
cL 7 sG [5,6],
mV 4 7] [4])
.ret))
def SN:AFun:=⟨2,[.t 4],vX,false,false⟩
def XO (C:Hd)(gl:GL)(e:En)(h:aA)(x:Esc)(K:KT):Sf C gl vX e h x K:=⟨_,by simp only[vX,↓wZ,AO.still];rfl⟩
theorem zaZ {C gl v0 v1 h x K}:NW C gl SN.body ⟨enter [v0,v1],h,x⟩ K=(XO C gl [(0,v0),(1,v1)] h x K).1:=(XO C gl [(0,v0),(1,v1)] h x K).2
def zY:ACode:=(.seq (rg [uO 5 (.box 2),
mV 6 (cI 0)] [0,1,5])
(.seq (dr [dF (mV 10 0) [0],
dF (uO 11 (.nilchk 10)) [10],
dF (fA 12 3 none 11) [11],
dF (lD 13 none 12) [12],
dF (fA 14 0 none 5) [5],
dF (lD 15 none 14) [14],
dF (uO 16 (.look (none,[2]) true (.p (.str [])) 13 15)) [13,15],
dF (mV 9 16) [16],
dF (eX 17 9 0) [9],
dF (eX 18 9 1) [9],
dF (mV 7 17) [17],
dF (mV 8 18) [18]] [0,1,5,8])
(.seq (.block 0 (.seq (rg [mV 20 1,
uO 21 (.nilchk 20),
fA 22 0 none 21,
lD 23 none 22,
bN 24 .neq 23 (cI 1),
mV 19 24] [0,1,5,8,19])
(.cond 19 (.seq (rg [mV 6 (cI 11)] [6])
.ret)
(.seq (dr [dF (fA 26 5 none 5) [5],
dF (lD 27 none 26) [26],
dF (mV 28 1) [1],
dF (uO 29 (.nilchk 28)) [28],
dF (fA 30 2 none 29) [29],
dF (lD 31 none 30) [30],
dF (bN 32 .neq 27 31) [27,31],
dF (mV 25 32) [32]] [0,1,5,8,25])
(.cond 25 (.seq (rg [mV 6 (cI 3)] [6])
.ret)
(.seq (rg [mV 34 8,
mV 33 34] [0,1,5,33])
(.cond 33 (.seq (rg [mV 6 (cI 12)] [6])
.ret)
.skip)))))))
(.seq (dr [dF (mV 35 1) [1],
dF (mV 36 1) [1],
dF (mV 37 1) [1],
dF (fA 38 2 none 5) [5],
dF (lD 39 none 38) [38],
dF (fA 40 0 none 5) [5],
dF (lD 41 none 40) [40],
dF (uO 42 (.nilchk 35)) [35],
dF (fA 43 0 none 42) [42],
dA (wO (.store none 43 (cI 2))) [43] true [] [4,6],
dF (uO 44 (.nilchk 36)) [36],
dF (fA 45 1 none 44) [44],
dA (wO (.store none 45 39)) [45,39] true [] [6],
dF (uO 46 (.nilchk 37)) [37],
dF (fA 47 3 none 46) [46],
dT (wO (.store none 47 41)) [47,41]] [0,5])
(.seq (dr [dF (mV 48 0) [0],
dF (uO 49 (.nilchk 48)) [48],
dF (fA 50 3 none 49) [49],
dF (lD 51 none 50) [50],
dF (fA 52 0 none 5) [5],
dF (lD 53 none 52) [52],
dF (fA 54 4 none 5) [5],
dF (lD 55 none 54) [54],
dT (wO (.mupd (none,[2]) 51 53 55)) [51,53,55]] [0,5])
(.seq (dr [dF (mV 56 0) [0],
dF (mV 57 0) [0],
dF (uO 58 (.nilchk 57)) [57],
dF (fA 59 5 none 58) [58],
dF (lD 60 none 59) [59],
dF (fA 61 0 none 5) [5],
dF (lD 62 none 61) [61],
dF (fA 63 2 none 5) [5],
dF (lD 64 none 63) [63],
dF (uO 65 (.build [.p (.str []),.p (.int .i64 0),.p (.int .i64 0)] [(0,1,62),(1,1,64),(2,1,(cI (-1)))])) [62,64],
dF (uO 66 (.bsl false (some 3) 1 (.agg [.str [],.int .i64 0,.int .i64 0]) [(0,65)])) [65],
dT (uO 67 (.app (some 3) 60 66)) [60,66],
dF (uO 68 (.nilchk 56)) [56],
dF (fA 69 5 none 68) [68],
dT (wO (.store none 69 67)) [69,67]] [])
(.seq (rg [mV 6 (cI 0)] [6])
.ret)))))))
def eO:AFun:=⟨3,[.t 6],zY,false,false⟩
def bI (C:Hd)(gl:GL)(e:En)(h:aA)(x:Esc)(K:KT):Sf C gl zY e h x K:=⟨_,by simp only[zY,↓wZ,AO.still];rfl⟩
theorem zcY {C gl v0 v1 v2 h x K}:NW C gl eO.body ⟨enter [v0,v1,v2],h,x⟩ K=(bI C gl [(0,v0),(1,v1),(2,v2)] h x K).1:=(bI C gl [(0,v0),(1,v1),(2,v2)] h x K).2
def yR:ACode:=.pr [] (.seq (rg [mV 6 (cI 0)] [6])
.ret)
def KV (C:Hd)(gl:GL)(e:En)(h:aA)(x:Esc)(K:KT):Sf C gl yR e h x K:=⟨_,by simp only[yR,↓wZ,AO.still];rfl⟩
theorem zcR {C gl e h x K}:NW C gl yR ⟨e,h,x⟩ K=(KV C gl e h x K).1:=(KV C gl e h x K).2
def zR:ACode:=.pr [] (.seq (rg [mV 6 (cI 0)] [6])
.ret)
def LV (C:Hd)(gl:GL)(e:En)(h:aA)(x:Esc)(K:KT):Sf C gl zR e h x K:=⟨_,by simp only[zR,↓wZ,AO.still];rfl⟩
theorem zcS {C gl e h x K}:NW C gl zR ⟨e,h,x⟩ K=(LV C gl e h x K).1:=(LV C gl e h x K).2
def AR:ACode:=.pr [0,1] (.seq (rg [mV 98 1,
uO 99 (.nilchk 98),
fA 100 4 none 99,
lD 101 none 100,
bN 102 .add 101 (cI 1),
uO 103 (.nilchk 98),
fA 104 4 none 103,
wO (.store none 104 102)] [0,1])
(.seq (rg [mV 105 1,
uO 106 (.nilchk 105),
fA 107 0 none 106,
wO (.store none 107 (cI 3))] [0,1])
(.seq (.seq (dr [dF (mV 108 1) [1],
dF (uO 109 (.nilchk 108)) [108],
dF (fA 110 4 none 109) [109],
dF (lD 111 none 110) [110],
dF (mV 112 0) [0],
dF (uO 113 (.nilchk 112)) [112],
dF (fA 114 0 (some 2) 113) [113],
dF (fA 115 1 none 114) [114],
dF (lD 116 none 115) [115],
dF (bN 117 .eql 111 116) [111,116]] [1,117])
(.cond 117 (rg [mV 118 1,
uO 119 (.nilchk 118),
fA 120 0 none 119,
wO (.store none 120 (cI 5))] [])
.skip))
zR)))
def MV (C:Hd)(gl:GL)(e:En)(h:aA)(x:Esc)(K:KT):Sf C gl AR e h x K:=⟨_,by simp only[AR,↓wZ,AO.still];rfl⟩
theorem zcT {C gl e h x K}:NW C gl AR ⟨e,h,x⟩ K=(MV C gl e h x K).1:=(MV C gl e h x K).2
def xY:ACode:=(.seq (rg [uO 5 (.box 2),
mV 6 (cI 0)] [0,1,5])
(.seq (.block 0 (.seq (rg [mV 10 1,
uO 11 (.nilchk 10),
fA 12 0 none 11,
lD 13 none 12,
bN 14 .neq 13 (cI 2),
mV 9 14] [0,1,5,9])
(.cond 9 (.seq (rg [mV 6 (cI 11)] [6])
.ret)
(.seq (dr [dF (mV 16 1) [1],
dF (uO 17 (.nilchk 16)) [16],
dF (fA 18 3 none 17) [17],
dF (lD 19 none 18) [18],
dF (fA 20 0 none 5) [5],
dF (lD 21 none 20) [20],
dF (bN 22 .neq 19 21) [19,21],
dF (mV 15 22) [22]] [0,1,5,15])
(.cond 15 (.seq (rg [mV 6 (cI 13)] [6])
.ret)
.skip)))))
(.seq (rg [fA 23 3 none 5,
lD 24 none 23,
bN 25 .eql 24 (cI 3),
mV 7 25] [0,1,5,7])
(.seq (dr [dF (mV 26 0) [0],
dF (mV 27 0) [0],
dF (uO 28 (.nilchk 27)) [27],
dF (fA 29 4 none 28) [28],
dF (lD 30 none 29) [29],
dF (fA 31 4 none 5) [5],
dF (lD 32 none 31) [31],
dF (mV 33 1) [1],
dF (uO 34 (.nilchk 33)) [33],
dF (fA 35 2 none 34) [34],
dF (lD 36 none 35) [35],
dF (mV 37 1) [1],
dF (uO 38 (.nilchk 37)) [37],
dF (fA 39 1 none 38) [38],
dF (lD 40 none 39) [39],
dF (fA 41 2 none 5) [5],
dF (lD 42 none 41) [41],
dF (mV 43 7) [7],
dF (uO 44 (.build [.p (.str []),.p (.str []),.p (.int .i64 0),.p (.int .i64 0),.p (.bool false)] [(0,1,32),(1,1,36),(2,1,40),(3,1,42),(4,1,43)])) [32,36,40,42,43],
dF (uO 45 (.bsl false (some 5) 1 (.agg [.str [],.str [],.int .i64 0,.int .i64 0,.bool false]) [(0,44)])) [44],
dT (uO 46 (.app (some 5) 30 45)) [30,45],
dF (uO 47 (.nilchk 26)) [26],
dF (fA 48 4 none 47) [47],
dT (wO (.store none 48 46)) [48,46]] [0,1,5,7])
(.seq (rg [mV 49 0,
mV 50 1,
fA 51 2 none 5,
lD 52 none 51,
cL 53 qI [49,50,52]] [0,1,5,7])
(.seq (rg [mV 54 1,
fA 55 2 none 5,
lD 56 none 55,
uO 57 (.nilchk 54),
fA 58 1 none 57,
wO (.store none 58 56)] [0,1,7])
(.seq (.seq (rg [mV 59 7] [0,1,59])
(.cond 59 (.seq (rg [mV 60 1,
uO 61 (.nilchk 60),
fA 62 4 none 61,
wO (.store none 62 (cI 0))] [0,1])
(.seq (rg [mV 63 0,
mV 64 1,
uO 65 (.nilchk 64),
fA 66 2 none 65,
lD 67 none 66,
cL 68 LJ [63,67],
bN 69 .add 68 (cI 1),
mV 8 69] [0,1,8])
(.seq (.seq (rg [mV 70 8,
mV 71 0,
uO 72 (.nilchk 71),
fA 73 0 (some 2) 72,
fA 74 0 none 73,
lD 75 none 74,
lN 76 75,
bN 77 .eql 70 76] [0,1,8,77])
(.cond 77 (rg [mV 78 1,
mV 79 1,
uO 80 (.nilchk 78),
fA 81 0 none 80,
wO (.store none 81 (cI 4)),
uO 82 (.nilchk 79),
fA 83 2 none 82,
wO (.store none 83 (cS []))] [])
(rg [mV 84 1,
mV 85 1,
mV 86 0,
uO 87 (.nilchk 86),
fA 88 0 (some 2) 87,
fA 89 0 none 88,
lD 90 none 89,
mV 91 8,
iA 92 none 90 91,
lD 93 none 92,
uO 94 (.nilchk 84),
fA 95 0 none 94,
wO (.store none 95 (cI 1)),
uO 96 (.nilchk 85),
fA 97 2 none 96,
wO (.store none 97 93)] [])))
yR)))
.skip))
AR)))))))
def cO:AFun:=⟨3,[.t 6],xY,false,false⟩
def oG (C:Hd)(gl:GL)(e:En)(h:aA)(x:Esc)(K:KT):Sf C gl xY e h x K:=⟨_,by simp only[xY,↓wZ,AO.still];rfl⟩
theorem zcQ {C gl v0 v1 v2 h x K}:NW C gl cO.body ⟨enter [v0,v1,v2],h,x⟩ K=(oG C gl [(0,v0),(1,v1),(2,v2)] h x K).1:=(oG C gl [(0,v0),(1,v1),(2,v2)] h x K).2
def BR:ACode:=.pr [0,1,2,11,12] (rg [bN 47 .add 12 (cI 1),
mV 12 47] [0,1,2,11,12])
def NV (C:Hd)(gl:GL)(e:En)(h:aA)(x:Esc)(K:KT):Sf C gl BR e h x K:=⟨_,by simp only[BR,↓wZ,AO.still];rfl⟩
theorem zcV {C gl e h x K}:NW C gl BR ⟨e,h,x⟩ K=(NV C gl e h x K).1:=(NV C gl e h x K).2
def SK:ACode:=.pr [0,1,2,11,12] (.seq (rg [bN 13 .lss 12 11] [0,1,2,11,12,13])
(.seq (.cond 13 .skip
(.exit 0))
(.seq (.block 1 (.seq (rg [mV 14 12,
mV 6 14] [0,1,2,6,11,12])
(.seq (dr [dF (mV 15 0) [0],
dF (uO 16 (.nilchk 15)) [15],
dF (fA 17 5 none 16) [16],
dF (lD 18 none 17) [17],
dF (mV 19 6) [6],
dF (iA 20 (some 3) 18 19) [18,19],
dF (fA 21 0 none 20) [20],
dF (lD 22 none 21) [21],
dF (mV 23 1) [1],
dF (uO 24 (.nilchk 23)) [23],
dF (fA 25 3 none 24) [24],
dF (lD 26 none 25) [25],
dF (bN 27 .eql 22 26) [22,26],
dF (mV 28 27) [27],
dF (gD 29 28 true (.mv 0)) [0,28],
dF (gD 30 28 true (.nilchk 29)) [29,28],
dF (gD 31 28 true (.faddr 5 none 30)) [30,28],
dF (gD 32 28 true (.load none 31)) [31,28],
dF (gD 33 28 true (.mv 6)) [6,28],
dF (gD 34 28 true (.iaddr (some 3) 32 33)) [32,33,28],
dF (gD 35 28 true (.faddr 2 none 34)) [34,28],
dF (gD 36 28 true (.load none 35)) [35,28],
dF (gD 37 28 true (.bin .lss 36 (cI 0))) [36,28],
dF (uO 38 (.pick 28 37 cF)) [28,37]] [0,1,2,6,11,12,38])
(.cond 38 (rg [mV 39 0,
uO 40 (.nilchk 39),
fA 41 5 none 40,
lD 42 none 41,
mV 43 6,
mV 44 2,
iA 45 (some 3) 42 43,
fA 46 2 none 45,
wO (.store none 46 44)] [0,1,2,11,12])
.skip))))
BR)))
def OV (C:Hd)(gl:GL)(e:En)(h:aA)(x:Esc)(K:KT):Sf C gl SK e h x K:=⟨_,by simp only[SK,↓wZ,AO.still];rfl⟩
theorem zcW {C gl e h x K}:NW C gl SK ⟨e,h,x⟩ K=(OV C gl e h x K).1:=(OV C gl e h x K).2
theorem zf0 {C gl e h x K}:NW C gl (.loop SK) ⟨e,h,x⟩ K=VA C gl SK K [(0,eA e 0),(1,eA e 1),(2,eA e 2),(11,eA e 11),(12,eA e 12)] h x:=GB
def CR:ACode:=.pr [0,1] (.seq (dr [dF (mV 48 0) [0],
dF (uO 49 (.nilchk 48)) [48],
dF (fA 50 3 none 49) [49],
dF (lD 51 none 50) [50],
dF (mV 52 1) [1],
dF (uO 53 (.nilchk 52)) [52],
dF (fA 54 3 none 53) [53],
dF (lD 55 none 54) [54],
dT (wO (.mdel (none,[2]) 51 55)) [51,55]] [1])
(rg [mV 56 1,
uO 57 (.nilchk 56),
fA 58 3 none 57,
wO (.store none 58 (cS []))] []))
def QV (C:Hd)(gl:GL)(e:En)(h:aA)(x:Esc)(K:KT):Sf C gl CR e h x K:=⟨_,by simp only[CR,↓wZ,AO.still];rfl⟩
theorem zcX {C gl e h x K}:NW C gl CR ⟨e,h,x⟩ K=(QV C gl e h x K).1:=(QV C gl e h x K).2
def yY:ACode:=(.seq (.seq (rg [mV 7 0,
uO 8 (.nilchk 7),
fA 9 5 none 8,
lD 10 none 9,
lN 11 10,
mV 12 (cI 0)] [0,1,2,11,12])
(.block 0 (.loop SK)))
CR)
def dO:AFun:=⟨3,[],yY,false,false⟩
def JP (C:Hd)(gl:GL)(e:En)(h:aA)(x:Esc)(K:KT):Sf C gl yY e h x K:=⟨_,by simp only[yY,↓wZ,AO.still];rfl⟩
theorem zcU {C gl v0 v1 v2 h x K}:NW C gl dO.body ⟨enter [v0,v1,v2],h,x⟩ K=(JP C gl [(0,v0),(1,v1),(2,v2)] h x K).1:=(JP C gl [(0,v0),(1,v1),(2,v2)] h x K).2
def mR:ACode:=.pr [0,1,2,3,4,10,11,12,13] (.seq (.seq (dr [dF (mV 81 1) [1],
dF (bN 82 .gtr 81 (cI 0)) [81],
dF (mV 83 82) [82],
dF (gD 84 83 true (.mv 4)) [4,83],
dF (gD 85 83 true (.mv 0)) [0,83],
dF (gD 86 83 true (.mv 1)) [1,83],
dF (gD 87 83 true (.bin .sub 86 (cI 1))) [86,83],
dF (gD 88 83 true (.iaddr none 85 87)) [85,87,83],
dF (gD 89 83 true (.load none 88)) [88,83],
dF (gD 90 83 true (.mv 0)) [0,83],
dF (gD 91 83 true (.mv 13)) [13,83],
dF (gD 92 83 true (.iaddr none 90 91)) [90,91,83],
dF (gD 93 83 true (.load none 92)) [92,83],
dT (gD 94 83 true (.callv 84 [89,93])) [84,89,93,83],
dF (gD 95 83 true (.bin .lss 94 (cI 0))) [94,83],
dF (gD 96 83 true (.un .not 95)) [95,83],
dF (uO 97 (.pick 83 96 cF)) [83,96]] [0,1,2,3,4,10,11,12,13,97])
(.cond 97 (.seq (rg [mV 98 0,
mV 99 1,
mV 100 2,
mV 101 13,
mV 102 4,
cL 103 zdQ [98,99,100,101,102],
mV 15 103] [0,2,3,4,10,11,15])
(.seq (rg [mV 104 15,
mV 1 104] [0,1,2,3,4,10,11])
(.exit 1)))
.skip))
(.seq (rg [mV 106 0,
mV 107 1,
mV 108 2,
mV 109 13,
mV 110 4,
cL 111 zdP [106,107,108,109,110],
mV 105 111,
eX 112 105 0,
eX 113 105 1,
mV 16 112,
mV 17 113] [0,1,2,3,4,12,16,17])
(.seq (rg [mV 114 17,
mV 11 114] [0,1,2,3,4,11,12,16])
(.seq (rg [mV 115 16,
mV 116 1,
bN 117 .sub 115 116,
mV 118 2,
mV 119 16,
bN 120 .sub 118 119,
mV 18 117,
mV 19 120] [0,1,2,3,4,11,12,16,18,19])
(.seq (rg [mV 121 12,
bN 122 .quo 121 (cI 8),
mV 20 122] [0,1,2,3,4,11,16,18,19,20])
(.seq (rg [mV 123 18,
mV 124 19,
bN 125 .lss 123 124] [0,1,2,3,4,11,16,18,19,20,125])
(.cond 125 (.seq (rg [mV 126 18,
mV 127 20,
bN 128 .geq 126 127,
mV 10 128] [0,1,2,3,4,10,11,16])
(.seq (rg [mV 129 0,
mV 130 1,
mV 131 16,
mV 132 3,
mV 133 4,
cL 134 pI [129,130,131,132,133]] [0,2,3,4,10,11,16])
(rg [mV 135 16,
bN 136 .add 135 (cI 1),
mV 1 136] [0,1,2,3,4,10,11])))
(.seq (rg [mV 137 19,
mV 138 20,
bN 139 .geq 137 138,
mV 10 139] [0,1,2,3,4,10,11,16])
(.seq (rg [mV 140 0,
mV 141 16,
bN 142 .add 141 (cI 1),
mV 143 2,
mV 144 3,
mV 145 4,
cL 146 pI [140,142,143,144,145]] [0,1,3,4,10,11,16])
(rg [mV 147 16,
mV 2 147] [0,1,2,3,4,10,11]))))))))))
def pV (C:Hd)(gl:GL)(e:En)(h:aA)(x:Esc)(K:KT):Sf C gl mR e h x K:=⟨_,by simp only[mR,↓wZ,AO.still];rfl⟩
theorem zct {C gl e h x K}:NW C gl mR ⟨e,h,x⟩ K=(pV C gl e h x K).1:=(pV C gl e h x K).2
def nR:ACode:=.pr [0,1,2,3,4,10,11,12,13,14] (.seq (.seq (rg [mV 68 10,
mV 69 68,
gD 70 69 true (.mv 11),
uO 71 (.pick 69 70 cF),
mV 72 71,
gD 73 72 true (.mv 14),
gD 74 72 true (.bin .eql 73 (cI 1)),
uO 75 (.pick 72 74 cF)] [0,1,2,3,4,10,11,12,13,75])
(.cond 75 (.seq (rg [mV 76 0,
mV 77 1,
mV 78 2,
mV 79 4,
cL 80 zdO [76,77,78,79]] [0,1,2,3,4,10,11,12,13,80])
(.cond 80 .ret
.skip))
.skip))
mR)
def qV (C:Hd)(gl:GL)(e:En)(h:aA)(x:Esc)(K:KT):Sf C gl nR e h x K:=⟨_,by simp only[nR,↓wZ,AO.still];rfl⟩
theorem zcu {C gl e h x K}:NW C gl nR ⟨e,h,x⟩ K=(qV C gl e h x K).1:=(qV C gl e h x K).2
def oR:ACode:=.pr [0,1,2,3,4,10,11,12] (.seq (rg [mV 48 0,
mV 49 1,
mV 50 2,
mV 51 4,
cL 52 zdM [48,49,50,51],
mV 47 52,
eX 53 47 0,
eX 54 47 1,
mV 13 53,
mV 14 54] [0,1,2,3,4,10,11,12,13,14])
(.seq (.seq (rg [mV 55 14,
bN 56 .eql 55 (cI 2)] [0,1,2,3,4,10,11,12,13,14,56])
(.cond 56 (.seq (rg [mV 57 0,
mV 58 1,
mV 59 2,
mV 60 4,
cL 61 zdR [57,58,59,60]] [0,1,2,3,4,10,11,12,13])
(.seq (rg [mV 62 2,
bN 63 .sub 62 (cI 1),
mV 64 13,
mV 65 1,
bN 66 .sub 64 65,
bN 67 .sub 63 66,
mV 13 67] [0,1,2,3,4,10,11,12,13])
(rg [mV 14 (cI 1)] [0,1,2,3,4,10,11,12,13,14])))
.skip))
nR))
def rV (C:Hd)(gl:GL)(e:En)(h:aA)(x:Esc)(K:KT):Sf C gl oR e h x K:=⟨_,by simp only[oR,↓wZ,AO.still];rfl⟩
theorem zcv {C gl e h x K}:NW C gl oR ⟨e,h,x⟩ K=(rV C gl e h x K).1:=(rV C gl e h x K).2
def JK:ACode:=.pr [0,1,2,3,4,10,11] (.block 1 (.seq (rg [mV 21 2,
mV 22 1,
bN 23 .sub 21 22,
mV 12 23] [0,1,2,3,4,10,11,12])
(.seq (.seq (rg [mV 24 12,
bN 25 .leq 24 (cI 12)] [0,1,2,3,4,10,11,12,25])
(.cond 25 (.seq (rg [mV 26 0,
mV 27 1,
mV 28 2,
mV 29 4,
cL 30 tM [26,27,28,29]] [])
.ret)
.skip))
(.seq (.seq (rg [mV 31 3,
bN 32 .eql 31 (cI 0)] [0,1,2,3,4,10,11,12,32])
(.cond 32 (.seq (rg [mV 33 0,
mV 34 1,
mV 35 2,
mV 36 4,
cL 37 zdN [33,34,35,36]] [])
.ret)
.skip))
(.seq (.seq (rg [mV 38 10,
uO 39 (.un .not 38)] [0,1,2,3,4,10,11,12,39])
(.cond 39 (.seq (rg [mV 40 0,
mV 41 1,
mV 42 2,
mV 43 4,
cL 44 zdL [40,41,42,43]] [0,1,2,3,4,10,11,12])
(rg [mV 45 3,
bN 46 .sub 45 (cI 1),
mV 3 46] [0,1,2,3,4,10,11,12]))
.skip))
oR)))))
def sV (C:Hd)(gl:GL)(e:En)(h:aA)(x:Esc)(K:KT):Sf C gl JK e h x K:=⟨_,by simp only[JK,↓wZ,AO.still];rfl⟩
theorem zcw {C gl e h x K}:NW C gl JK ⟨e,h,x⟩ K=(sV C gl e h x K).1:=(sV C gl e h x K).2
theorem zfr {C gl e h x K}:NW C gl (.loop JK) ⟨e,h,x⟩ K=VA C gl JK K [(0,eA e 0),(1,eA e 1),(2,eA e 2),(3,eA e 3),(4,eA e 4),(10,eA e 10),(11,eA e 11)] h x:=GB
def kY:ACode:=(.seq (rg [mV 10 cT] [0,1,2,3,4,10])
(.seq (rg [mV 11 cT] [0,1,2,3,4,10,11])
(.block 0 (.loop JK))))
def RT:AFun:=⟨5,[],kY,true,false⟩
def CP (C:Hd)(gl:GL)(e:En)(h:aA)(x:Esc)(K:KT):Sf C gl kY e h x K:=⟨_,by simp only[kY,↓wZ,AO.still];rfl⟩
theorem zcs {C gl v0 v1 v2 v3 v4 h x K}:NW C gl RT.body ⟨enter [v0,v1,v2,v3,v4],h,x⟩ K=(CP C gl [(0,v0),(1,v1),(2,v2),(3,v3),(4,v4)] h x K).1:=(CP C gl [(0,v0),(1,v1),(2,v2),(3,v3),(4,v4)] h x K).2
def xX:ACode:=(.seq (rg [mV 2 (cI 0)] [0])
(.seq (.cond cF (.seq (rg [mV 3 0,
uO 4 (.conv (.i .u32) 3),
cL 5 zdK [4],
mV 2 5] [2])
.ret)
.skip)
(.seq (rg [mV 6 0,
cL 7 eM [6],
mV 2 7] [2])
.ret)))
def bT:AFun:=⟨1,[.t 2],xX,false,false⟩
def ZO (C:Hd)(gl:GL)(e:En)(h:aA)(x:Esc)(K:KT):Sf C gl xX e h x K:=⟨_,by simp only[xX,↓wZ,AO.still];rfl⟩
theorem zbb {C gl v0 h x K}:NW C gl bT.body ⟨enter [v0],h,x⟩ K=(ZO C gl [(0,v0)] h x K).1:=(ZO C gl [(0,v0)] h x K).2
def EK:ACode:=.pr [0,1,7,8] (.seq (rg [bN 9 .lss 8 7] [0,1,7,8,9])
(.seq (.cond 9 .skip
(.exit 0))
(.seq (.block 1 (.seq (rg [mV 10 8,
mV 5 10] [0,1,5,7,8])
(.seq (rg [mV 11 1,
mV 12 0,
mV 13 5,
iA 14 none 12 13,
lD 15 none 14,
bN 16 .eql 11 15] [0,1,5,7,8,16])
(.cond 16 (.seq (rg [mV 17 5,
mV 4 17] [4])
.ret)
.skip))))
(rg [bN 18 .add 8 (cI 1),
mV 8 18] [0,1,7,8]))))
def eV (C:Hd)(gl:GL)(e:En)(h:aA)(x:Esc)(K:KT):Sf C gl EK e h x K:=⟨_,by simp only[EK,↓wZ,AO.still];rfl⟩
theorem zcg {C gl e h x K}:NW C gl EK ⟨e,h,x⟩ K=(eV C gl e h x K).1:=(eV C gl e h x K).2
theorem zfm {C gl e h x K}:NW C gl (.loop EK) ⟨e,h,x⟩ K=VA C gl EK K [(0,eA e 0),(1,eA e 1),(7,eA e 7),(8,eA e 8)] h x:=GB
def jR:ACode:=.pr [] (.seq (rg [mV 4 (cI (-1))] [4])
.ret)
def fV (C:Hd)(gl:GL)(e:En)(h:aA)(x:Esc)(K:KT):Sf C gl jR e h x K:=⟨_,by simp only[jR,↓wZ,AO.still];rfl⟩
theorem zch {C gl e h x K}:NW C gl jR ⟨e,h,x⟩ K=(fV C gl e h x K).1:=(fV C gl e h x K).2
def eY:ACode:=(.seq (rg [mV 4 (cI 0)] [0,1])
(.seq (.seq (rg [mV 6 0,
lN 7 6,
mV 8 (cI 0)] [0,1,7,8])
(.block 0 (.loop EK)))
jR))
def UN:AFun:=⟨2,[.t 4],eY,true,false⟩
def yP (C:Hd)(gl:GL)(e:En)(h:aA)(x:Esc)(K:KT):Sf C gl eY e h x K:=⟨_,by simp only[eY,↓wZ,AO.still];rfl⟩
theorem zcf {C gl v0 v1 h x K}:NW C gl UN.body ⟨enter [v0,v1],h,x⟩ K=(yP C gl [(0,v0),(1,v1)] h x K).1:=(yP C gl [(0,v0),(1,v1)] h x K).2
def vK:ACode:=.pr [0,1,7,8] (.seq (rg [bN 9 .lss 8 7] [0,1,7,8,9])
(.seq (.cond 9 .skip
(.exit 0))
(.seq (.block 1 (.seq (rg [mV 10 8,
mV 5 10] [0,1,5,7,8])
(.seq (rg [mV 11 1,
mV 12 0,
mV 13 5,
uO 14 (.idxs 12 13),
cL 15 zM [11,14],
bN 16 .lss 15 (cI 0)] [0,1,7,8,16])
(.cond 16 (.seq (rg [mV 4 cF] [4])
.ret)
.skip))))
(rg [bN 17 .add 8 (cI 1),
mV 8 17] [0,1,7,8]))))
def MU (C:Hd)(gl:GL)(e:En)(h:aA)(x:Esc)(K:KT):Sf C gl vK e h x K:=⟨_,by simp only[vK,↓wZ,AO.still];rfl⟩
theorem zbD {C gl e h x K}:NW C gl vK ⟨e,h,x⟩ K=(MU C gl e h x K).1:=(MU C gl e h x K).2
theorem zfe {C gl e h x K}:NW C gl (.loop vK) ⟨e,h,x⟩ K=VA C gl vK K [(0,eA e 0),(1,eA e 1),(7,eA e 7),(8,eA e 8)] h x:=GB
def YQ:ACode:=.pr [] (.seq (rg [mV 4 cT] [4])
.ret)
def NU (C:Hd)(gl:GL)(e:En)(h:aA)(x:Esc)(K:KT):Sf C gl YQ e h x K:=⟨_,by simp only[YQ,↓wZ,AO.still];rfl⟩
theorem zbE {C gl e h x K}:NW C gl YQ ⟨e,h,x⟩ K=(NU C gl e h x K).1:=(NU C gl e h x K).2
def TX:ACode:=(.seq (rg [mV 4 cF] [0,1])
(.seq (.seq (rg [mV 6 0,
uO 7 (.lens 6),
mV 8 (cI 0)] [0,1,7,8])
(.block 0 (.loop vK)))
YQ))
def CT:AFun:=⟨2,[.t 4],TX,false,false⟩
def rP (C:Hd)(gl:GL)(e:En)(h:aA)(x:Esc)(K:KT):Sf C gl TX e h x K:=⟨_,by simp only[TX,↓wZ,AO.still];rfl⟩
theorem zbC {C gl v0 v1 h x K}:NW C gl CT.body ⟨enter [v0,v1],h,x⟩ K=(rP C gl [(0,v0),(1,v1)] h x K).1:=(rP C gl [(0,v0),(1,v1)] h x K).2
def wY:ACode:=(.seq (rg [mV 4 (cI 0)] [0,1])
(.seq (rg [mV 5 0,
uO 6 (.nilchk 5),
fA 7 0 (some 2) 6,
fA 8 0 none 7,
lD 9 none 8,
mV 10 1,
cL 11 nI [9,10],
mV 4 11] [4])
.ret))
def bO:AFun:=⟨2,[.t 4],wY,false,false⟩
def IP (C:Hd)(gl:GL)(e:En)(h:aA)(x:Esc)(K:KT):Sf C gl wY e h x K:=⟨_,by simp only[wY,↓wZ,AO.still];rfl⟩
theorem zcP {C gl v0 v1 h x K}:NW C gl bO.body ⟨enter [v0,v1],h,x⟩ K=(IP C gl [(0,v0),(1,v1)] h x K).1:=(IP C gl [(0,v0),(1,v1)] h x K).2
def HK:ACode:=.pr [0,1,2,3,8,9] (.seq (.seq (dr [dF (mV 18 9) [9],
dF (mV 19 1) [1],
dF (bN 20 .gtr 18 19) [18,19],
dF (mV 21 20) [20],
dF (gD 22 21 true (.mv 3)) [3,21],
dF (gD 23 21 true (.mv 0)) [0,21],
dF (gD 24 21 true (.mv 9)) [9,21],
dF (gD 25 21 true (.iaddr none 23 24)) [23,24,21],
dF (gD 26 21 true (.load none 25)) [25,21],
dF (gD 27 21 true (.mv 0)) [0,21],
dF (gD 28 21 true (.mv 9)) [9,21],
dF (gD 29 21 true (.bin .sub 28 (cI 1))) [28,21],
dF (gD 30 21 true (.iaddr none 27 29)) [27,29,21],
dF (gD 31 21 true (.load none 30)) [30,21],
dT (gD 32 21 true (.callv 22 [26,31])) [22,26,31,21],
dF (gD 33 21 true (.bin .lss 32 (cI 0))) [32,21],
dF (uO 34 (.pick 21 33 cF)) [21,33]] [0,1,2,3,8,9,34])
(.cond 34 .skip
(.exit 2)))
(.seq (.block 3 (dr [dF (mV 37 0) [0],
dF (mV 38 9) [9],
dF (mV 39 0) [0],
dF (mV 40 9) [9],
dF (bN 41 .sub 40 (cI 1)) [40],
dF (mV 42 0) [0],
dF (mV 43 9) [9],
dF (bN 44 .sub 43 (cI 1)) [43],
dF (iA 45 none 42 44) [42,44],
dF (lD 46 none 45) [45],
dF (mV 47 0) [0],
dF (mV 48 9) [9],
dF (iA 49 none 47 48) [47,48],
dF (lD 50 none 49) [49],
dF (iA 51 none 37 38) [37,38],
dT (wO (.store none 51 46)) [51,46],
dF (iA 52 none 39 41) [39,41],
dT (wO (.store none 52 50)) [52,50]] [0,1,2,3,8,9]))
(rg [mV 35 9,
bN 36 .sub 35 (cI 1),
mV 9 36] [0,1,2,3,8,9])))
def lV (C:Hd)(gl:GL)(e:En)(h:aA)(x:Esc)(K:KT):Sf C gl HK e h x K:=⟨_,by simp only[HK,↓wZ,AO.still];rfl⟩
theorem zcp {C gl e h x K}:NW C gl HK ⟨e,h,x⟩ K=(lV C gl e h x K).1:=(lV C gl e h x K).2
theorem zfp {C gl e h x K}:NW C gl (.loop HK) ⟨e,h,x⟩ K=VA C gl HK K [(0,eA e 0),(1,eA e 1),(2,eA e 2),(3,eA e 3),(8,eA e 8),(9,eA e 9)] h x:=GB
def lR:ACode:=.pr [0,1,2,3,8] (rg [mV 15 8,
bN 16 .add 15 (cI 1),
mV 8 16] [0,1,2,3,8])
def nV (C:Hd)(gl:GL)(e:En)(h:aA)(x:Esc)(K:KT):Sf C gl lR e h x K:=⟨_,by simp only[lR,↓wZ,AO.still];rfl⟩
theorem zcq {C gl e h x K}:NW C gl lR ⟨e,h,x⟩ K=(nV C gl e h x K).1:=(nV C gl e h x K).2
def IK:ACode:=.pr [0,1,2,3,8] (.seq (.seq (rg [mV 12 8,
mV 13 2,
bN 14 .lss 12 13] [0,1,2,3,8,14])
(.cond 14 .skip
(.exit 0)))
(.seq (.block 1 (.seq (rg [mV 17 8,
mV 9 17] [0,1,2,3,8,9])
(.block 2 (.loop HK))))
lR))
def oV (C:Hd)(gl:GL)(e:En)(h:aA)(x:Esc)(K:KT):Sf C gl IK e h x K:=⟨_,by simp only[IK,↓wZ,AO.still];rfl⟩
theorem zcr {C gl e h x K}:NW C gl IK ⟨e,h,x⟩ K=(oV C gl e h x K).1:=(oV C gl e h x K).2
theorem zfq {C gl e h x K}:NW C gl (.loop IK) ⟨e,h,x⟩ K=VA C gl IK K [(0,eA e 0),(1,eA e 1),(2,eA e 2),(3,eA e 3),(8,eA e 8)] h x:=GB
def jY:ACode:=(.seq (rg [mV 10 1,
bN 11 .add 10 (cI 1),
mV 8 11] [0,1,2,3,8])
(.block 0 (.loop IK)))
def QT:AFun:=⟨4,[],jY,true,false⟩
def BP (C:Hd)(gl:GL)(e:En)(h:aA)(x:Esc)(K:KT):Sf C gl jY e h x K:=⟨_,by simp only[jY,↓wZ,AO.still];rfl⟩
theorem zco {C gl v0 v1 v2 v3 h x K}:NW C gl QT.body ⟨enter [v0,v1,v2,v3],h,x⟩ K=(BP C gl [(0,v0),(1,v1),(2,v2),(3,v3)] h x K).1:=(BP C gl [(0,v0),(1,v1),(2,v2),(3,v3)] h x K).2
def NQ:ACode:=.pr [0,2] (.seq (rg [mV 19 2,
mV 20 0,
uO 21 (.conv (.i .u8) 20),
uO 22 (.idxs (cS [0,1,2,2,3,3,3,3,4,4,4,4,4,4,4,4,5,5,5,5,5,5,5,5,5,5,5,5,5,5,5,5,6,6,6,6,6,6,6,6,6,6,6,6,6,6,6,6,6,6,6,6,6,6,6,6,6,6,6,6,6,6,6,6,7,7,7,7,7,7,7,7,7,7,7,7,7,7,7,7,7,7,7,7,7,7,7,7,7,7,7,7,7,7,7,7,7,7,7,7,7,7,7,7,7,7,7,7,7,7,7,7,7,7,7,7,7,7,7,7,7,7,7,7,7,7,7,7,8,8,8,8,8,8,8,8,8,8,8,8,8,8,8,8,8,8,8,8,8,8,8,8,8,8,8,8,8,8,8,8,8,8,8,8,8,8,8,8,8,8,8,8,8,8,8,8,8,8,8,8,8,8,8,8,8,8,8,8,8,8,8,8,8,8,8,8,8,8,8,8,8,8,8,8,8,8,8,8,8,8,8,8,8,8,8,8,8,8,8,8,8,8,8,8,8,8,8,8,8,8,8,8,8,8,8,8,8,8,8,8,8,8,8,8,8,8,8,8,8,8,8,8,8,8,8,8]) 21),
uO 23 (.conv (.i .i64) 22),
bN 24 .add 19 23,
mV 2 24] [2])
.ret)
def CU (C:Hd)(gl:GL)(e:En)(h:aA)(x:Esc)(K:KT):Sf C gl NQ e h x K:=⟨_,by simp only[NQ,↓wZ,AO.still];rfl⟩
theorem zbd {C gl e h x K}:NW C gl NQ ⟨e,h,x⟩ K=(CU C gl e h x K).1:=(CU C gl e h x K).2
def OQ:ACode:=.pr [0,2] (.seq (.seq (rg [mV 13 0,
bN 14 .geq 13 (.c (.p (.int .u64 256)))] [0,2,14])
(.cond 14 (.seq (rg [mV 15 0,
bN 16 .shr 15 (.c (.p (.int .u64 8))),
mV 0 16] [0,2])
(rg [mV 17 2,
bN 18 .add 17 (cI 8),
mV 2 18] [0,2]))
.skip))
NQ)
def DU (C:Hd)(gl:GL)(e:En)(h:aA)(x:Esc)(K:KT):Sf C gl OQ e h x K:=⟨_,by simp only[OQ,↓wZ,AO.still];rfl⟩
theorem zbe {C gl e h x K}:NW C gl OQ ⟨e,h,x⟩ K=(DU C gl e h x K).1:=(DU C gl e h x K).2
def PQ:ACode:=.pr [0,2] (.seq (.seq (rg [mV 7 0,
bN 8 .geq 7 (.c (.p (.int .u64 65536)))] [0,2,8])
(.cond 8 (.seq (rg [mV 9 0,
bN 10 .shr 9 (.c (.p (.int .u64 16))),
mV 0 10] [0,2])
(rg [mV 11 2,
bN 12 .add 11 (cI 16),
mV 2 12] [0,2]))
.skip))
OQ)
def EU (C:Hd)(gl:GL)(e:En)(h:aA)(x:Esc)(K:KT):Sf C gl PQ e h x K:=⟨_,by simp only[PQ,↓wZ,AO.still];rfl⟩
theorem zbf {C gl e h x K}:NW C gl PQ ⟨e,h,x⟩ K=(EU C gl e h x K).1:=(EU C gl e h x K).2
def yX:ACode:=(.seq (rg [mV 2 (cI 0)] [0,2])
(.seq (.seq (rg [mV 3 0,
bN 4 .geq 3 (.c (.p (.int .u64 4294967296)))] [0,2,4])
(.cond 4 (.seq (rg [mV 5 0,
bN 6 .shr 5 (.c (.p (.int .u64 32))),
mV 0 6] [0])
(rg [mV 2 (cI 32)] [0,2]))
.skip))
PQ))
def eT:AFun:=⟨1,[.t 2],yX,false,false⟩
def aP (C:Hd)(gl:GL)(e:En)(h:aA)(x:Esc)(K:KT):Sf C gl yX e h x K:=⟨_,by simp only[yX,↓wZ,AO.still];rfl⟩
theorem zbc {C gl v0 h x K}:NW C gl eT.body ⟨enter [v0],h,x⟩ K=(aP C gl [(0,v0)] h x K).1:=(aP C gl [(0,v0)] h x K).2
def JY:ACode:=(.seq (rg [mV 4 (cI 0)] [0,1])
(.seq (rg [mV 5 0,
mV 6 1,
cL 7 cM [5,6],
mV 4 7] [4])
.ret))
def aU:AFun:=⟨2,[.t 4],JY,false,false⟩
def PP (C:Hd)(gl:GL)(e:En)(h:aA)(x:Esc)(K:KT):Sf C gl JY e h x K:=⟨_,by simp only[JY,↓wZ,AO.still];rfl⟩
theorem zdv {C gl v0 v1 h x K}:NW C gl aU.body ⟨enter [v0,v1],h,x⟩ K=(PP C gl [(0,v0),(1,v1)] h x K).1:=(PP C gl [(0,v0),(1,v1)] h x K).2
def wX:ACode:=(.seq (rg [mV 4 (cI 0)] [0,1])
(.seq (rg [mV 5 0,
mV 6 1,
cL 7 rG [5,6],
mV 4 7] [4])
.ret))
def aT:AFun:=⟨2,[.t 4],wX,false,false⟩
def YO (C:Hd)(gl:GL)(e:En)(h:aA)(x:Esc)(K:KT):Sf C gl wX e h x K:=⟨_,by simp only[wX,↓wZ,AO.still];rfl⟩
theorem zba {C gl v0 v1 h x K}:NW C gl aT.body ⟨enter [v0,v1],h,x⟩ K=(YO C gl [(0,v0),(1,v1)] h x K).1:=(YO C gl [(0,v0),(1,v1)] h x K).2
def zgA:ACode:=(.seq (rg [mV 2 cF] [0])
(.seq (rg [mV 3 0,
cL 4 CW [3,(cS [48,49])],
bN 5 .eql 4 (cS []),
mV 2 5] [2])
.ret))
def z7d:AFun:=⟨1,[.t 2],zgA,false,false⟩
def zgB:ACode:=(.seq (rg [uO 4 (.alloc [.p (.int .i64 0),.p (.int .i64 0)])] [0,1,4])
(.seq (rg [mV 6 0,
mV 7 0,
uO 8 (.un .neg 7),
uO 9 (.mx [6,8]),
mV 10 1,
cL 11 z2g [9,10],
mV 5 11] [0,1,4,5])
(.seq (dr [dF (mV 12 0) [0],
dF (mV 13 5) [5],
dF (bN 14 .quo 12 13) [12,13],
dF (mV 15 1) [1],
dF (mV 16 5) [5],
dF (bN 17 .quo 15 16) [15,16],
dF (uO 18 (.build [.p (.int .i64 0),.p (.int .i64 0)] [(0,1,14),(1,1,17)])) [14,17],
dT (wO (.store (some 2) 4 18)) [4,18]] [4])
.ret)))
def z7e:AFun:=⟨2,[.cell 4 (some 2)],zgB,false,false⟩
def zgD:ACode:=.pr [0,1] (.seq (.seq (rg [mV 5 1,
bN 6 .neq 5 (cI 0)] [0,1,6])
(.cond 6 .skip
(.exit 0)))
(.block 1 (dr [dF (mV 7 1) [1],
dF (mV 8 0) [0],
dF (mV 9 1) [1],
dF (bN 10 .rem 8 9) [8,9],
dF (mV 0 7) [7],
dF (mV 1 10) [10]] [0,1])))
def zgE:ACode:=.pr [0] (.seq (rg [mV 11 0,
mV 4 11] [4])
.ret)
def zgC:ACode:=(.seq (rg [mV 4 (cI 0)] [0,1])
(.seq (.block 0 (.loop zgD))
zgE))
def z7f:AFun:=⟨2,[.t 4],zgC,false,false⟩
def zgG:ACode:=.pr [2,19,20,21] (.seq (rg [bN 22 .lss 21 20] [2,19,20,21,22])
(.seq (.cond 22 .skip
(.exit 0))
(.seq (.block 1 (.seq (rg [mV 23 21,
iA 24 none 19 21,
lD 25 none 24,
mV 6 23,
mV 7 25] [2,6,7,19,20,21])
(.seq (rg [mV 26 7,
uO 27 (.lens 26),
fA 28 0 none 2,
lD 29 none 28,
mV 30 6,
iA 31 (some 2) 29 30,
fA 32 1 none 31,
lD 33 none 32,
lN 34 33,
bN 35 .neq 27 34,
mV 36 35,
gD 37 36 false (.mv 7),
gD 38 36 false (.call gI [37]),
gD 39 36 false (.un .not 38),
uO 40 (.pick 36 cT 39)] [2,19,20,21,40])
(.cond 40 (.seq (rg [mV 4 (cI 3)] [4])
.ret)
.skip))))
(rg [bN 41 .add 21 (cI 1),
mV 21 41] [2,19,20,21]))))
def zgH:ACode:=.pr [] (.seq (rg [mV 4 (cI 0)] [4])
.ret)
def zgF:ACode:=(.seq (rg [uO 2 (.box 0),
mV 4 (cI 0)] [1,2])
(.seq (.seq (rg [lD 8 (some 3) 2,
cL 9 z2i [8],
mV 5 9] [1,2,5])
(.seq (rg [mV 10 5,
bN 11 .neq 10 (cI 0)] [1,2,5,11])
(.cond 11 (.seq (rg [mV 12 5,
mV 4 12] [4])
.ret)
.skip)))
(.seq (.seq (rg [mV 13 1,
lN 14 13,
fA 15 0 none 2,
lD 16 none 15,
lN 17 16,
bN 18 .neq 14 17] [1,2,18])
(.cond 18 (.seq (rg [mV 4 (cI 3)] [4])
.ret)
.skip))
(.seq (.seq (rg [mV 19 1,
lN 20 19,
mV 21 (cI 0)] [2,19,20,21])
(.block 0 (.loop zgG)))
zgH))))
def z7g:AFun:=⟨2,[.t 4],zgF,false,false⟩
def zgJ:ACode:=.pr [1,15,16,17] (.seq (rg [bN 18 .lss 17 16] [1,15,16,17,18])
(.seq (.cond 18 .skip
(.exit 0))
(.seq (.block 1 (.seq (rg [mV 19 17,
iA 20 (some 2) 15 17,
lD 21 (some 2) 20,
uO 4 (.alloc [.p (.str []),.sl0 (some 4)]),
mV 3 19,
wO (.store (some 2) 4 21)] [1,3,4,15,16,17])
(.seq (.block 2 (.seq (rg [fA 23 0 none 4,
lD 24 none 23,
cL 25 fE [24],
uO 26 (.un .not 25),
mV 22 26] [1,3,4,15,16,17,22])
(.cond 22 (.seq (rg [mV 2 (cI 5)] [2])
.ret)
(.seq (dr [dF (mV 28 3) [3],
dF (bN 29 .gtr 28 (cI 0)) [28],
dF (mV 30 29) [29],
dF (gD 31 30 true (.faddr 0 none 4)) [4,30],
dF (gD 32 30 true (.load none 31)) [31,30],
dF (gD 33 30 true (.faddr 0 none 1)) [1,30],
dF (gD 34 30 true (.load none 33)) [33,30],
dF (gD 35 30 true (.mv 3)) [3,30],
dF (gD 36 30 true (.bin .sub 35 (cI 1))) [35,30],
dF (gD 37 30 true (.iaddr (some 2) 34 36)) [34,36,30],
dF (gD 38 30 true (.faddr 0 none 37)) [37,30],
dF (gD 39 30 true (.load none 38)) [38,30],
dF (gD 40 30 true (.bin .leq 32 39)) [32,39,30],
dF (uO 41 (.pick 30 40 cF)) [30,40],
dF (mV 27 41) [41]] [1,4,15,16,17,27])
(.cond 27 (.seq (rg [mV 2 (cI 7)] [2])
.ret)
.skip)))))
(.seq (rg [lD 42 (some 2) 4,
cL 43 z2n [42],
mV 5 43] [1,5,15,16,17])
(.seq (rg [mV 44 5,
bN 45 .neq 44 (cI 0)] [1,5,15,16,17,45])
(.cond 45 (.seq (rg [mV 46 5,
mV 2 46] [2])
.ret)
.skip))))))
(rg [bN 47 .add 17 (cI 1),
mV 17 47] [1,15,16,17]))))
def zgK:ACode:=.pr [1,7,59,60,61] (.seq (rg [bN 62 .lss 61 60] [1,7,59,60,61,62])
(.seq (.cond 62 .skip
(.exit 3))
(.seq (.block 4 (.seq (rg [mV 63 61,
iA 64 (some 2) 59 61,
lD 65 (some 2) 64,
uO 9 (.alloc [.p (.str []),.p (.int .i64 0)]),
mV 8 63,
wO (.store (some 2) 9 65)] [1,7,8,9,59,60,61])
(.block 5 (.seq (rg [mV 67 7,
fA 68 0 none 9,
lD 69 none 68,
cL 70 iH [67,69],
uO 71 (.un .not 70),
mV 66 71] [1,7,8,9,59,60,61,66])
(.cond 66 (.seq (rg [mV 2 (cI 8)] [2])
.ret)
(.seq (rg [fA 73 1 none 9,
lD 74 none 73,
cL 75 lC [74,(cI 0),(cI 1)],
mV 72 75] [1,7,8,9,59,60,61,72])
(.cond 72 (.seq (rg [mV 2 (cI 1)] [2])
.ret)
(.seq (dr [dF (mV 77 8) [8],
dF (bN 78 .gtr 77 (cI 0)) [77],
dF (mV 79 78) [78],
dF (gD 80 79 true (.faddr 0 none 9)) [9,79],
dF (gD 81 79 true (.load none 80)) [80,79],
dF (gD 82 79 true (.faddr 2 none 1)) [1,79],
dF (gD 83 79 true (.load none 82)) [82,79],
dF (gD 84 79 true (.mv 8)) [8,79],
dF (gD 85 79 true (.bin .sub 84 (cI 1))) [84,79],
dF (gD 86 79 true (.iaddr (some 2) 83 85)) [83,85,79],
dF (gD 87 79 true (.faddr 0 none 86)) [86,79],
dF (gD 88 79 true (.load none 87)) [87,79],
dF (gD 89 79 true (.bin .leq 81 88)) [81,88,79],
dF (uO 90 (.pick 79 89 cF)) [79,89],
dF (mV 76 90) [90]] [1,7,59,60,61,76])
(.cond 76 (.seq (rg [mV 2 (cI 7)] [2])
.ret)
.skip)))))))))
(rg [bN 91 .add 61 (cI 1),
mV 61 91] [1,7,59,60,61]))))
def zgL:ACode:=.pr [] (.seq (rg [mV 2 (cI 0)] [2])
.ret)
def zgM:ACode:=.pr [1] (.seq (.seq (rg [lD 48 (some 3) 1,
cL 49 z2r [48],
mV 6 49] [1,6])
(.seq (rg [mV 50 6,
bN 51 .neq 50 (cI 0)] [1,6,51])
(.cond 51 (.seq (rg [mV 52 6,
mV 2 52] [2])
.ret)
.skip)))
(.seq (rg [lD 53 (some 3) 1,
cL 54 cQ [53],
mV 7 54] [1,7])
(.seq (.seq (rg [mV 55 7,
lN 56 55,
bN 57 .gtr 56 (cI 100)] [1,7,57])
(.cond 57 (.seq (rg [mV 2 (cI 2)] [2])
.ret)
.skip))
(.seq (.seq (rg [fA 58 2 none 1,
lD 59 none 58,
lN 60 59,
mV 61 (cI 0)] [1,7,59,60,61])
(.block 3 (.loop (.scope zgK))))
zgL))))
def zgI:ACode:=(.seq (rg [uO 1 (.box 0),
mV 2 (cI 0)] [1])
(.seq (.seq (rg [fA 10 0 none 1,
lD 11 none 10,
lN 12 11,
bN 13 .gtr 12 (cI 40)] [1,13])
(.cond 13 (.seq (rg [mV 2 (cI 2)] [2])
.ret)
.skip))
(.seq (.seq (rg [fA 14 0 none 1,
lD 15 none 14,
lN 16 15,
mV 17 (cI 0)] [1,15,16,17])
(.block 0 (.loop (.scope zgJ))))
zgM)))
def z7h:AFun:=⟨1,[.t 2],zgI,false,false⟩
def zgO:ACode:=.pr [7,8,21,22,23] (.seq (rg [bN 24 .lss 23 22] [7,8,21,22,23,24])
(.seq (.cond 24 .skip
(.exit 0))
(.seq (.block 1 (.seq (rg [iA 25 none 21 23,
lD 26 none 25,
mV 10 26] [7,8,10,21,22,23])
(rg [mV 27 8,
mV 28 7,
mV 29 10,
uO 30 (.look (none,[2]) false (AI 0) 28 29),
uO 31 (.bsl false none 1 (.int .i64 0) [(0,30)]),
uO 32 (.app none 27 31),
mV 8 32] [7,8,21,22,23])))
(rg [bN 33 .add 23 (cI 1),
mV 23 33] [7,8,21,22,23]))))
def zgP:ACode:=.pr [8] (.seq (rg [mV 34 8,
mV 4 34,
mV 5 (cI 0)] [4,5])
.ret)
def zgN:ACode:=(.seq (rg [uO 2 (.box 0),
mV 4 (.c (.p (.sl none []))),
mV 5 (cI 0)] [1,2])
(.seq (.seq (rg [lD 11 (some 3) 2,
mV 12 1,
cL 13 z2h [11,12],
mV 6 13] [1,2,6])
(.seq (rg [mV 14 6,
bN 15 .neq 14 (cI 0)] [1,2,6,15])
(.cond 15 (.seq (rg [mV 16 6,
mV 4 (.c (.p (.sl none []))),
mV 5 16] [4,5])
.ret)
.skip)))
(.seq (rg [lD 17 (some 3) 2,
mV 18 1,
cL 19 z2s [17,18],
mV 7 19] [2,7])
(.seq (rg [uO 8 (.new0 none)] [2,7,8])
(.seq (.seq (rg [lD 20 (some 3) 2,
cL 21 cQ [20],
lN 22 21,
mV 23 (cI 0)] [7,8,21,22,23])
(.block 0 (.loop (.scope zgO))))
zgP)))))
def z7i:AFun:=⟨2,[.t 4,.t 5],zgN,false,false⟩
def zgQ:ACode:=(.seq (rg [uO 2 (.box 0),
uO 3 (.box 1),
mV 4 (cI 0)] [2,3])
(.seq (dr [dF (fA 5 0 none 2) [2],
dF (lD 6 none 5) [5],
dF (fA 7 0 none 3) [3],
dF (lD 8 none 7) [7],
dT (cL 9 UE [6,8]) [6,8],
dF (fA 10 1 none 2) [2],
dA (lD 11 none 10) [10] false [4] [],
dF (fA 12 1 none 3) [3],
dA (lD 13 none 12) [12] false [4] [],
dT (cL 14 UE [11,13]) [11,13],
dF (fA 15 2 none 2) [2],
dA (lD 16 none 15) [15] false [4,9] [],
dF (fA 17 2 none 3) [3],
dA (lD 18 none 17) [17] false [4,9] [],
dT (cL 19 UE [16,18]) [16,18],
dF (uO 20 (.bsl false none 3 (.int .i64 0) [(0,9),(1,14),(2,19)])) [9,14,19],
dT (cL 21 eH [20]) [20],
dF (mV 4 21) [21]] [4])
.ret))
def z7j:AFun:=⟨2,[.t 4],zgQ,false,false⟩
def zgR:ACode:=(.seq (rg [uO 2 (.box 0),
uO 3 (.box 1),
mV 4 (cI 0)] [2,3])
(.seq (.block 0 (.seq (rg [fA 6 0 none 3,
lD 7 none 6,
cL 8 lC [7,(cI 1),(cI 4)],
mV 5 8] [2,3,5])
(.cond 5 (.seq (rg [mV 4 (cI 4)] [4])
.ret)
(.seq (rg [lD 10 (some 4) 3,
cL 11 bM [10],
mV 12 11,
gD 13 12 true (.faddr 1 none 3),
gD 14 12 true (.load none 13),
gD 15 12 true (.call fE [14]),
gD 16 12 true (.un .not 15),
uO 17 (.pick 12 16 cF),
mV 9 17] [2,3,9])
(.cond 9 (.seq (rg [mV 4 (cI 5)] [4])
.ret)
(.seq (rg [lD 19 (some 4) 3,
cL 20 bM [19],
uO 21 (.un .not 20),
mV 22 21,
gD 23 22 true (.faddr 1 none 3),
gD 24 22 true (.load none 23),
gD 25 22 true (.bin .neq 24 (cS [])),
uO 26 (.pick 22 25 cF),
mV 18 26] [2,3,18])
(.cond 18 (.seq (rg [mV 4 (cI 3)] [4])
.ret)
.skip)))))))
(.seq (.seq (rg [fA 27 0 none 3,
lD 28 none 27,
bN 29 .neq 28 (cI 2)] [2,3,29])
(.cond 29 (.seq (.seq (rg [fA 30 2 none 3,
lD 31 none 30,
bN 32 .neq 31 (cI (-1)),
mV 33 32,
gD 34 33 false (.faddr 3 none 3),
gD 35 33 false (.load none 34),
gD 36 33 false (.bin .neq 35 (cI 0)),
uO 37 (.pick 33 cT 36)] [37])
(.cond 37 (.seq (rg [mV 4 (cI 3)] [4])
.ret)
.skip))
(.seq (rg [mV 4 (cI 0)] [4])
.ret))
.skip))
(.seq (.block 1 (.seq (rg [fA 39 2 none 3,
lD 40 none 39,
bN 41 .neq 40 (cI (-1)),
mV 42 41,
gD 43 42 true (.faddr 2 none 3),
gD 44 42 true (.load none 43),
gD 45 42 true (.faddr 1 none 2),
gD 46 42 true (.load none 45),
gD 47 42 true (.len 46),
gD 48 42 true (.bin .sub 47 (cI 1)),
gD 49 42 true (.call lC [44,(cI 0),48]),
gD 50 42 true (.mv 49),
gD 51 50 false (.faddr 1 none 2),
gD 52 50 false (.load none 51),
gD 53 50 false (.faddr 2 none 3),
gD 54 50 false (.load none 53),
gD 55 50 false (.iaddr (some 4) 52 54),
gD 56 50 false (.faddr 0 none 55),
gD 57 50 false (.load none 56),
gD 58 50 false (.bin .neq 57 (cI 3)),
gD 59 42 true (.pick 50 cT 58),
uO 60 (.pick 42 59 cF),
mV 38 60] [3,38])
(.cond 38 (.seq (rg [mV 4 (cI 8)] [4])
.ret)
(.seq (rg [fA 62 3 none 3,
lD 63 none 62,
cL 64 lC [63,(cI 0),(cI 1)],
mV 65 64,
gD 66 65 false (.faddr 2 none 3),
gD 67 65 false (.load none 66),
gD 68 65 false (.bin .eql 67 (cI (-1))),
gD 69 65 false (.mv 68),
gD 70 69 true (.faddr 3 none 3),
gD 71 69 true (.load none 70),
gD 72 69 true (.bin .neq 71 (cI 0)),
gD 73 65 false (.pick 69 72 cF),
uO 74 (.pick 65 cT 73),
mV 61 74] [61])
(.cond 61 (.seq (rg [mV 4 (cI 1)] [4])
.ret)
.skip)))))
(.seq (rg [mV 4 (cI 0)] [4])
.ret)))))
def z7k:AFun:=⟨2,[.t 4],zgR,false,false⟩
def zgT:ACode:=.pr [1,5,6,7,8,17,18,19,25,26,27] (rg [bN 57 .add 27 (cI 1),
mV 27 57] [1,5,6,7,8,17,18,19,25,26,27])
def zgU:ACode:=.pr [1,5,6,7,8,17,18,19,25,26,27] (.seq (rg [bN 28 .lss 27 26] [1,5,6,7,8,17,18,19,25,26,27,28])
(.seq (.cond 28 .skip
(.exit 2))
(.seq (.block 3 (.seq (rg [mV 29 27,
iA 30 (some 4) 25 27,
lD 31 (some 4) 30,
uO 10 (.alloc [.p (.int .i64 0),.p (.str []),.p (.int .i64 0),.p (.int .i64 0)]),
mV 9 29,
wO (.store (some 4) 10 31)] [1,5,6,7,8,9,10,17,18,19,25,26,27])
(.seq (.seq (rg [fA 32 0 none 10,
lD 33 none 32,
mV 34 1,
bN 35 .neq 33 34] [1,5,6,7,8,9,10,17,18,19,25,26,27,35])
(.cond 35 (.exit 3)
.skip))
(.seq (rg [mV 37 5,
fA 38 0 none 8,
lD 39 none 38,
fA 40 1 none 10,
lD 41 none 40,
uO 42 (.build [.p (.str []),.p (.str [])] [(0,1,39),(1,1,41)]),
uO 43 (.look ((some 2),[2,2]) true (.p (.str [])) 37 42),
mV 36 43,
eX 44 36 0,
eX 45 36 1,
mV 11 44,
mV 12 45] [1,5,6,7,8,9,11,12,17,18,19,25,26,27])
(.seq (rg [mV 46 12] [1,5,6,7,8,9,11,17,18,19,25,26,27,46])
(.cond 46 (rg [mV 47 6,
mV 48 11,
mV 49 6,
mV 50 11,
uO 51 (.look (none,[2]) false (.sl0 (some 2)) 49 50),
mV 52 7,
mV 53 9,
uO 54 (.build [.p (.int .i64 0),.p (.int .i64 0)] [(0,1,52),(1,1,53)]),
uO 55 (.bsl false (some 2) 1 (.agg [.int .i64 0,.int .i64 0]) [(0,54)]),
uO 56 (.app (some 2) 51 55),
wO (.mupd (none,[2]) 47 48 56)] [1,5,6,7,8,17,18,19,25,26,27])
.skip))))))
zgT)))
def zgV:ACode:=.pr [1,5,6,17,18,19] (rg [bN 58 .add 19 (cI 1),
mV 19 58] [1,5,6,17,18,19])
def zgW:ACode:=.pr [1,5,6,17,18,19] (.seq (rg [bN 20 .lss 19 18] [1,5,6,17,18,19,20])
(.seq (.cond 20 .skip
(.exit 0))
(.seq (.block 1 (.seq (rg [mV 21 19,
iA 22 (some 2) 17 19,
lD 23 (some 2) 22,
uO 8 (.alloc [.p (.str []),.sl0 (some 4)]),
mV 7 21,
wO (.store (some 2) 8 23)] [1,5,6,7,8,17,18,19])
(.seq (rg [fA 24 1 none 8,
lD 25 none 24,
lN 26 25,
mV 27 (cI 0)] [1,5,6,7,8,17,18,19,25,26,27])
(.block 2 (.loop (.scope zgU))))))
zgV)))
def zgX:ACode:=.pr [6] (.seq (rg [mV 59 6,
mV 4 59] [4])
.ret)
def zgS:ACode:=(.seq (rg [uO 2 (.box 0),
mV 4 (.c (.nilm))] [1,2])
(.seq (rg [lD 13 (some 3) 2,
cL 14 z2t [13],
mV 5 14] [1,2,5])
(.seq (rg [uO 15 (.mkmap),
mV 6 15] [1,2,5,6])
(.seq (.seq (rg [fA 16 0 none 2,
lD 17 none 16,
lN 18 17,
mV 19 (cI 0)] [1,5,6,17,18,19])
(.block 0 (.loop (.scope zgW))))
zgX))))
def z7l:AFun:=⟨2,[.t 4],zgS,false,false⟩
def zgZ:ACode:=.pr [1,13,14,15] (.seq (rg [bN 16 .lss 15 14] [1,13,14,15,16])
(.seq (.cond 16 .skip
(.exit 0))
(.seq (.block 1 (.seq (rg [iA 17 (some 4) 13 15,
lD 18 (some 4) 17,
uO 4 (.alloc [.p (.int .i64 0),.p (.str []),.p (.int .i64 0),.p (.int .i64 0)]),
wO (.store (some 4) 4 18)] [1,4,13,14,15])
(.seq (rg [lD 19 (some 2) 1,
lD 20 (some 4) 4,
cL 21 z2l [19,20],
mV 5 21] [1,5,13,14,15])
(.seq (rg [mV 22 5,
bN 23 .neq 22 (cI 0)] [1,5,13,14,15,23])
(.cond 23 (.seq (rg [mV 24 5,
mV 2 24] [2])
.ret)
.skip)))))
(rg [bN 25 .add 15 (cI 1),
mV 15 25] [1,13,14,15]))))
def zha:ACode:=.pr [1,27,28,29] (.seq (rg [bN 30 .lss 29 28] [1,27,28,29,30])
(.seq (.cond 30 .skip
(.exit 2))
(.seq (.block 3 (.seq (rg [mV 31 29,
iA 32 (some 4) 27 29,
lD 33 (some 4) 32,
uO 7 (.alloc [.p (.int .i64 0),.p (.str []),.p (.int .i64 0),.p (.int .i64 0)]),
mV 6 31,
wO (.store (some 4) 7 33)] [1,6,7,27,28,29])
(.seq (rg [lD 34 (some 4) 7,
cL 35 bM [34],
mV 36 35,
gD 37 36 true (.faddr 1 none 1),
gD 38 36 true (.load none 37),
gD 39 36 true (.mv 6),
gD 40 36 true (.slice (some 4) 38 none (some 39) none),
gD 41 36 true (.mkfn z2o [7]),
gD 42 36 true (.call BW [40,41]),
uO 43 (.pick 36 42 cF)] [1,27,28,29,43])
(.cond 43 (.seq (rg [mV 2 (cI 6)] [2])
.ret)
.skip))))
(rg [bN 44 .add 29 (cI 1),
mV 29 44] [1,27,28,29]))))
def zhb:ACode:=.pr [] (.seq (rg [mV 2 (cI 0)] [2])
.ret)
def zhc:ACode:=.pr [1] (.seq (.seq (rg [fA 26 1 none 1,
lD 27 none 26,
lN 28 27,
mV 29 (cI 0)] [1,27,28,29])
(.block 2 (.loop (.scope zha))))
zhb)
def zgY:ACode:=(.seq (rg [uO 1 (.box 0),
mV 2 (cI 0)] [1])
(.seq (.seq (rg [fA 8 1 none 1,
lD 9 none 8,
lN 10 9,
bN 11 .gtr 10 (cI 200)] [1,11])
(.cond 11 (.seq (rg [mV 2 (cI 2)] [2])
.ret)
.skip))
(.seq (.seq (rg [fA 12 1 none 1,
lD 13 none 12,
lN 14 13,
mV 15 (cI 0)] [1,13,14,15])
(.block 0 (.loop (.scope zgZ))))
zhc)))
def z7m:AFun:=⟨1,[.t 2],zgY,false,false⟩
def zhd:ACode:=(.seq (rg [uO 2 (.box 0),
mV 3 cF] [1,2])
(.seq (rg [fA 4 0 none 2,
lD 5 none 4,
fA 6 0 none 1,
lD 7 none 6,
bN 8 .eql 5 7,
mV 9 8,
gD 10 9 true (.faddr 1 none 2),
gD 11 9 true (.load none 10),
gD 12 9 true (.faddr 1 none 1),
gD 13 9 true (.load none 12),
gD 14 9 true (.bin .eql 11 13),
uO 15 (.pick 9 14 cF),
mV 3 15] [3])
.ret))
def z7n:AFun:=⟨2,[.t 3],zhd,false,false⟩
def zhe:ACode:=(.seq (rg [uO 2 (.box 0),
mV 4 (cI 0)] [1,2])
(.seq (rg [fA 8 0 none 2,
lD 9 none 8,
mV 10 1,
cL 11 z2G [9,10,(.f z2q)],
mV 7 11,
eX 12 7 0,
eX 13 7 1,
mV 5 12,
mV 6 13] [5,6])
(.seq (.seq (rg [mV 14 6,
uO 15 (.un .not 14)] [5,15])
(.cond 15 (.seq (rg [mV 4 (cI (-1))] [4])
.ret)
.skip))
(.seq (rg [mV 16 5,
mV 4 16] [4])
.ret))))
def z7o:AFun:=⟨2,[.t 4],zhe,false,false⟩
def zhf:ACode:=(.seq (rg [uO 2 (.box 0),
mV 4 (cI 0)] [1,2])
(.seq (rg [fA 5 0 none 2,
lD 6 none 5,
mV 7 1,
cL 8 UE [6,7],
mV 4 8] [4])
.ret))
def z7p:AFun:=⟨2,[.t 4],zhf,false,false⟩
def zhg:ACode:=(.seq (rg [uO 1 (.box 0),
mV 2 cF] [1])
(.seq (rg [fA 3 0 none 1,
lD 4 none 3,
bN 5 .eql 4 (cI 1),
mV 6 5,
gD 7 6 false (.faddr 0 none 1),
gD 8 6 false (.load none 7),
gD 9 6 false (.bin .eql 8 (cI 2)),
uO 10 (.pick 6 cT 9),
mV 2 10] [2])
.ret))
def z7q:AFun:=⟨1,[.t 2],zhg,false,false⟩
def zhi:ACode:=.pr [1,14,15,16] (.seq (rg [bN 17 .lss 16 15] [1,14,15,16,17])
(.seq (.cond 17 .skip
(.exit 0))
(.seq (.block 1 (.seq (rg [mV 18 16,
iA 19 (some 3) 14 16,
lD 20 (some 3) 19,
uO 4 (.alloc [.p (.str []),.p (.str []),.p (.str [])]),
mV 3 18,
wO (.store (some 3) 4 20)] [1,3,4,14,15,16])
(.block 2 (.seq (rg [fA 22 0 none 4,
lD 23 none 22,
cL 24 fE [23],
uO 25 (.un .not 24),
mV 21 25] [1,3,4,14,15,16,21])
(.cond 21 (.seq (rg [mV 2 (cI 5)] [2])
.ret)
(.seq (rg [lD 27 (some 3) 1,
fA 28 1 none 4,
lD 29 none 28,
fA 30 2 none 4,
lD 31 none 30,
cL 32 z2u [27,29,31],
uO 33 (.un .not 32),
mV 26 33] [1,3,4,14,15,16,26])
(.cond 26 (.seq (rg [mV 2 (cI 8)] [2])
.ret)
(.seq (dr [dF (mV 35 3) [3],
dF (bN 36 .gtr 35 (cI 0)) [35],
dF (mV 37 36) [36],
dF (gD 38 37 true (.load (some 3) 4)) [4,37],
dF (gD 39 37 true (.faddr 1 none 1)) [1,37],
dF (gD 40 37 true (.load none 39)) [39,37],
dF (gD 41 37 true (.mv 3)) [3,37],
dF (gD 42 37 true (.bin .sub 41 (cI 1))) [41,37],
dF (gD 43 37 true (.iaddr (some 3) 40 42)) [40,42,37],
dF (gD 44 37 true (.load (some 3) 43)) [43,37],
dT (gD 45 37 true (.call z2k [38,44])) [38,44,37],
dF (gD 46 37 true (.bin .leq 45 (cI 0))) [45,37],
dF (uO 47 (.pick 37 46 cF)) [37,46],
dF (mV 34 47) [47]] [1,14,15,16,34])
(.cond 34 (.seq (rg [mV 2 (cI 7)] [2])
.ret)
.skip)))))))))
(rg [bN 48 .add 16 (cI 1),
mV 16 48] [1,14,15,16]))))
def zhj:ACode:=.pr [5,51,52,53] (.seq (rg [bN 54 .lss 53 52] [5,51,52,53,54])
(.seq (.cond 54 .skip
(.exit 3))
(.seq (.block 4 (.seq (rg [iA 55 (some 3) 51 53,
lD 56 (some 3) 55,
uO 7 (.alloc [.p (.str []),.p (.str []),.p (.str [])]),
wO (.store (some 3) 7 56)] [5,7,51,52,53])
(.seq (rg [fA 57 1 none 7,
lD 58 none 57,
fA 59 2 none 7,
lD 60 none 59,
uO 61 (.build [.p (.str []),.p (.str [])] [(0,1,58),(1,1,60)]),
uO 8 (.alloc [.p (.str []),.p (.str [])]),
wO (.store (some 2) 8 61)] [5,8,51,52,53])
(.seq (.seq (rg [mV 62 5,
lD 63 (some 2) 8,
uO 64 (.look ((some 2),[2,2]) false (AB false) 62 63)] [5,8,51,52,53,64])
(.cond 64 (.seq (rg [mV 2 (cI 6)] [2])
.ret)
.skip))
(rg [mV 65 5,
lD 66 (some 2) 8,
wO (.mupd ((some 2),[2,2]) 65 66 cT)] [5,51,52,53])))))
(rg [bN 67 .add 53 (cI 1),
mV 53 67] [5,51,52,53]))))
def zhk:ACode:=.pr [] (.seq (rg [mV 2 (cI 0)] [2])
.ret)
def zhl:ACode:=.pr [1] (.seq (rg [uO 49 (.mkmap),
mV 5 49] [1,5])
(.seq (.seq (rg [fA 50 1 none 1,
lD 51 none 50,
lN 52 51,
mV 53 (cI 0)] [5,51,52,53])
(.block 3 (.loop (.scope zhj))))
zhk))
def zhh:ACode:=(.seq (rg [uO 1 (.box 0),
mV 2 (cI 0)] [1])
(.seq (.seq (rg [fA 9 1 none 1,
lD 10 none 9,
lN 11 10,
bN 12 .gtr 11 (cI 1000)] [1,12])
(.cond 12 (.seq (rg [mV 2 (cI 2)] [2])
.ret)
.skip))
(.seq (.seq (rg [fA 13 1 none 1,
lD 14 none 13,
lN 15 14,
mV 16 (cI 0)] [1,14,15,16])
(.block 0 (.loop (.scope zhi))))
zhl)))
def z7r:AFun:=⟨1,[.t 2],zhh,false,false⟩
end Go.Am
end
