/- Texts of the proof, laid together: CodesB, CodesC, CodesD. -/
import Derived.KernelRfl
import Derived.Test.YtngfahepmdicnaaGreatDoorlawEA4
set_option linter.all false
section
/- The functions asv abstract code,and asv formulas UD their values: printed by program out of the translation. -/
set_option linter.all false
set_option maxRecDepth 100000
namespace Go.Am
def GZ:ACode:=(.seq (rg [uO 1 (.box 0),
mV 2 (cS [])] [1])
(.seq (dr [dF (fA 4 0 none 1) [1],
dF (lD 5 none 4) [4],
dF (bN 6 .add 5 (cS [32])) [5],
dF (fA 7 1 none 1) [1],
dF (lD 8 none 7) [7],
dA (cL 9 dI [8]) [8] true [] [1],
dF (bN 10 .add 6 9) [6,9],
dF (bN 11 .add 10 (cS [32])) [10],
dF (fA 12 2 none 1) [1],
dA (lD 13 none 12) [12] false [5] [],
dA (cL 14 dI [13]) [13] true [] [1],
dF (bN 15 .add 11 14) [11,14],
dF (bN 16 .add 15 (cS [32])) [15],
dF (fA 17 3 none 1) [1],
dA (lD 18 none 17) [17] false [5,10] [],
dA (cL 19 uJ [18]) [18] true [] [1],
dF (bN 20 .add 16 19) [16,19],
dF (bN 21 .add 20 (cS [32])) [20],
dF (mV 3 21) [21]] [1,3])
(.seq (.seq (rg [fA 22 3 none 1,
lD 23 none 22] [1,3,23])
(.block 0 (.seq (rg [bN 25 .eql 23 (cI 2),
mV 24 25] [1,3,23,24])
(.cond 24 (.seq (rg [mV 26 3,
fA 27 4 none 1,
lD 28 none 27,
bN 29 .add 26 28,
bN 30 .add 29 (cS [32]),
fA 31 5 none 1,
lD 32 none 31,
bN 33 .add 30 32,
mV 2 33] [2])
.ret)
(.seq (rg [bN 35 .eql 23 (cI 7),
mV 34 35] [1,3,34])
(.cond 34 (.seq (dr [dF (mV 36 3) [3],
dF (fA 37 6 none 1) [1],
dF (lD 38 none 37) [37],
dF (bN 39 .add 36 38) [36,38],
dF (bN 40 .add 39 (cS [32])) [39],
dF (fA 41 7 none 1) [1],
dF (lD 42 none 41) [41],
dA (cL 43 dI [42]) [42] true [] [2],
dF (bN 44 .add 40 43) [40,43],
dF (mV 2 44) [44]] [2])
.ret)
.skip))))))
(.seq (rg [mV 45 3,
fA 46 4 none 1,
lD 47 none 46,
bN 48 .add 45 47,
mV 2 48] [2])
.ret))))
def VT:AFun:=⟨1,[.t 2],GZ,false,false⟩
def cJ (C:Hd)(gl:GL)(e:En)(h:aA)(x:Esc)(K:KT):Sf C gl GZ e h x K:=⟨_,by simp only[GZ,↓wZ,AO.still];rfl⟩
theorem zex {C gl v0 h x K}:NW C gl VT.body ⟨enter [v0],h,x⟩ K=(cJ C gl [(0,v0)] h x K).1:=(cJ C gl [(0,v0)] h x K).2
def NZ:ACode:=(.seq (rg [mV 2 (cI 0)] [0])
(.seq (rg [mV 3 0,
uO 4 (.nilchk 3),
fA 5 1 none 4,
lD 6 none 5,
uO 7 (.uns 4 0 [6]),
mV 2 7] [2])
.ret))
def YT:AFun:=⟨1,[.t 2],NZ,false,false⟩
def zP (C:Hd)(gl:GL)(e:En)(h:aA)(x:Esc)(K:KT):Sf C gl NZ e h x K:=⟨_,by simp only[NZ,↓wZ,AO.still];rfl⟩
theorem ze8 {C gl v0 h x K}:NW C gl YT.body ⟨enter [v0],h,x⟩ K=(zP C gl [(0,v0)] h x K).1:=(zP C gl [(0,v0)] h x K).2
def OZ:ACode:=(.seq (rg [mV 2 (cS [])] [0])
(.seq (dr [dF (mV 3 0) [0],
dF (uO 4 (.nilchk 3)) [3],
dF (fA 5 1 none 4) [4],
dF (lD 6 none 5) [5],
dF (uO 7 (.uns 5 5 [6])) [6],
dF (mV 8 0) [0],
dF (uO 9 (.nilchk 8)) [8],
dF (fA 10 1 none 9) [9],
dF (lD 11 none 10) [10],
dF (uO 12 (.uns 4 0 [11])) [11],
dT (uO 13 (.uns 6 5 [7,12])) [7,12],
dF (mV 2 13) [13]] [2])
.ret))
def ZT:AFun:=⟨1,[.t 2],OZ,false,false⟩
def FL (C:Hd)(gl:GL)(e:En)(h:aA)(x:Esc)(K:KT):Sf C gl OZ e h x K:=⟨_,by simp only[OZ,↓wZ,AO.still];rfl⟩
theorem ze9 {C gl v0 h x K}:NW C gl ZT.body ⟨enter [v0],h,x⟩ K=(FL C gl [(0,v0)] h x K).1:=(FL C gl [(0,v0)] h x K).2
def QJ:ACode:=.pr [1,6,7,15,16,17] (.seq (rg [bN 18 .lss 17 16] [1,6,7,15,16,17,18])
(.seq (.cond 18 .skip
(.exit 0))
(.seq (.block 1 (.seq (rg [mV 19 17,
iA 20 none 15 17,
lD 21 none 20,
mV 8 19,
mV 9 21] [1,6,7,8,9,15,16,17])
(.seq (rg [mV 22 7,
uO 23 (.un .not 22),
mV 24 23,
gD 25 24 true (.mv 8),
gD 26 24 true (.mv 6),
gD 27 24 true (.len 26),
gD 28 24 true (.bin .sub 27 (cI 1)),
gD 29 24 true (.bin .eql 25 28),
uO 30 (.pick 24 29 cF),
mV 31 30,
gD 32 31 false (.mv 1),
gD 33 31 false (.mv 9),
gD 34 31 false (.callv 32 [33]),
gD 35 31 false (.un .not 34),
uO 36 (.pick 31 cT 35)] [1,6,7,8,15,16,17,36])
(.cond 36 (.seq (rg [mV 37 8,
mV 4 37,
mV 5 cF] [4,5])
.ret)
.skip))))
(rg [bN 38 .add 17 (cI 1),
mV 17 38] [1,6,7,15,16,17]))))
def RU (C:Hd)(gl:GL)(e:En)(h:aA)(x:Esc)(K:KT):Sf C gl QJ e h x K:=⟨_,by simp only[QJ,↓wZ,AO.still];rfl⟩
theorem zbM {C gl e h x K}:NW C gl QJ ⟨e,h,x⟩ K=(RU C gl e h x K).1:=(RU C gl e h x K).2
theorem zgu {C gl e h x K}:NW C gl (.loop QJ) ⟨e,h,x⟩ K=GA C gl QJ K [(1,gA e 1),(6,gA e 6),(7,gA e 7),(15,gA e 15),(16,gA e 16),(17,gA e 17)] h x:=nB
def OQ:ACode:=.pr [] (.seq (rg [mV 4 (cI 0),
mV 5 cT] [4,5])
.ret)
def JO (C:Hd)(gl:GL)(e:En)(h:aA)(x:Esc)(K:KT):Sf C gl OQ e h x K:=⟨_,by simp only[OQ,↓wZ,AO.still];rfl⟩
theorem kX {C gl e h x K}:NW C gl OQ ⟨e,h,x⟩ K=(JO C gl e h x K).1:=(JO C gl e h x K).2
def sY:ACode:=(.seq (rg [mV 4 (cI 0),
mV 5 cF] [0,1])
(.seq (rg [mV 11 0,
cL 12 TL [11],
mV 10 12,
eX 13 10 0,
eX 14 10 1,
mV 6 13,
mV 7 14] [1,6,7])
(.seq (.seq (rg [mV 15 6,
lN 16 15,
mV 17 (cI 0)] [1,6,7,15,16,17])
(.block 0 (.loop QJ)))
OQ)))
def SS:AFun:=⟨2,[.t 4,.t 5],sY,false,false⟩
def HO (C:Hd)(gl:GL)(e:En)(h:aA)(x:Esc)(K:KT):Sf C gl sY e h x K:=⟨_,by simp only[sY,↓wZ,AO.still];rfl⟩
theorem zbL {C gl v0 v1 h x K}:NW C gl SS.body ⟨enter [v0,v1],h,x⟩ K=(HO C gl [(0,v0),(1,v1)] h x K).1:=(HO C gl [(0,v0),(1,v1)] h x K).2
def AZ:ACode:=(.seq (rg [mV 3 cF] [0,1])
(.seq (rg [mV 7 0,
cL 8 tM [7],
mV 6 8,
eX 9 6 0,
eX 10 6 1,
uO 4 (.alloc [.p (.str []),.p (.int .i64 0),.p (.int .i64 0),.p (.int .i64 0),.p (.str []),.p (.str []),.p (.str []),.p (.int .i64 0)]),
wO (.store (some 8) 4 9),
mV 5 10] [1,4,5])
(.seq (rg [lD 11 none 1,
lD 12 (some 8) 4,
uO 13 (.bsl false (some 8) 1 (.agg [.str [],.int .i64 0,.int .i64 0,.int .i64 0,.str [],.str [],.str [],.int .i64 0]) [(0,12)]),
uO 14 (.app (some 8) 11 13),
wO (.store none 1 14)] [5])
(.seq (rg [mV 15 5,
mV 3 15] [3])
.ret))))
def ST:AFun:=⟨2,[.t 3],AZ,false,false⟩
def sP (C:Hd)(gl:GL)(e:En)(h:aA)(x:Esc)(K:KT):Sf C gl AZ e h x K:=⟨_,by simp only[AZ,↓wZ,AO.still];rfl⟩
theorem zel {C gl v0 v1 h x K}:NW C gl ST.body ⟨enter [v0,v1],h,x⟩ K=(sP C gl [(0,v0),(1,v1)] h x K).1:=(sP C gl [(0,v0),(1,v1)] h x K).2
def VR:ACode:=.pr [2,6,7] (.seq (rg [lD 101 (some 8) 7,
mV 102 6,
wO (.store (some 8) 2 101),
mV 3 102] [2,3])
.ret)
def PW (C:Hd)(gl:GL)(e:En)(h:aA)(x:Esc)(K:KT):Sf C gl VR e h x K:=⟨_,by simp only[VR,↓wZ,AO.still];rfl⟩
theorem ze0 {C gl e h x K}:NW C gl VR ⟨e,h,x⟩ K=(PW C gl e h x K).1:=(PW C gl e h x K).2
def JZ:ACode:=(.seq (rg [uO 2 (.alloc [.p (.str []),.p (.int .i64 0),.p (.int .i64 0),.p (.int .i64 0),.p (.str []),.p (.str []),.p (.str []),.p (.int .i64 0)]),
mV 3 cF] [0,2])
(.seq (rg [mV 9 0,
cL 10 xJ [9,(cS [32])],
mV 4 10] [2,4])
(.seq (.seq (rg [mV 11 4,
lN 12 11,
bN 13 .lss 12 (cI 5),
mV 14 13,
gD 15 14 false (.mv 4),
gD 16 14 false (.call LG [15,(cS [])]),
uO 17 (.pick 14 cT 16)] [2,4,17])
(.cond 17 (.seq (rg [uO 18 (.build [.p (.str []),.p (.int .i64 0),.p (.int .i64 0),.p (.int .i64 0),.p (.str []),.p (.str []),.p (.str []),.p (.int .i64 0)] []),
wO (.store (some 8) 2 18),
mV 3 cF] [2,3])
.ret)
.skip))
(.seq (rg [mV 20 4,
uO 21 (.slice none 20 (some (cI 1)) (some (cI 3)) none),
cL 22 UL [21,(cI 15)],
mV 19 22,
eX 23 19 0,
eX 24 19 1,
mV 5 23,
mV 6 24] [2,4,5,6])
(.seq (dr [dF (mV 25 4) [4],
dF (iA 26 none 25 (cI 0)) [25],
dF (lD 27 none 26) [26],
dF (mV 28 4) [4],
dF (iA 29 none 28 (cI 3)) [28],
dF (lD 30 none 29) [29],
dF (cL 31 rM [30]) [30],
dF (uO 32 (.build [.p (.str []),.p (.int .i64 0),.p (.int .i64 0),.p (.int .i64 0),.p (.str []),.p (.str []),.p (.str []),.p (.int .i64 0)] [(0,1,27),(3,1,31)])) [27,31],
dA (uO 7 (.alloc [.p (.str []),.p (.int .i64 0),.p (.int .i64 0),.p (.int .i64 0),.p (.str []),.p (.str []),.p (.str []),.p (.int .i64 0)])) [] true [] [1,2,4,5,6],
dT (wO (.store (some 8) 7 32)) [7,32]] [2,4,5,6,7])
(.seq (.seq (rg [mV 33 6,
uO 34 (.un .not 33),
mV 35 34,
gD 36 35 false (.faddr 3 none 7),
gD 37 35 false (.load none 36),
gD 38 35 false (.bin .eql 37 (cI 0)),
uO 39 (.pick 35 cT 38)] [2,4,5,6,7,39])
(.cond 39 (.seq (rg [uO 40 (.build [.p (.str []),.p (.int .i64 0),.p (.int .i64 0),.p (.int .i64 0),.p (.str []),.p (.str []),.p (.str []),.p (.int .i64 0)] []),
wO (.store (some 8) 2 40),
mV 3 cF] [2,3])
.ret)
.skip))
(.seq (dr [dF (mV 41 5) [5],
dF (iA 42 none 41 (cI 0)) [41],
dF (lD 43 none 42) [42],
dF (mV 44 5) [5],
dF (iA 45 none 44 (cI 1)) [44],
dF (lD 46 none 45) [45],
dF (fA 47 1 none 7) [7],
dA (wO (.store none 47 43)) [47,43] true [] [4,5],
dF (fA 48 2 none 7) [7],
dT (wO (.store none 48 46)) [48,46]] [2,4,6,7])
(.seq (rg [fA 49 3 none 7,
lD 50 none 49,
bN 51 .eql 50 (cI 2),
mV 52 51,
gD 53 52 false (.faddr 3 none 7),
gD 54 52 false (.load none 53),
gD 55 52 false (.bin .eql 54 (cI 7)),
uO 56 (.pick 52 cT 55),
mV 8 56] [2,4,6,7,8])
(.seq (.block 0 (.seq (rg [mV 62 8,
mV 63 4,
lN 64 63,
bN 65 .eql 64 (cI 6),
uO 66 (.eqa [] true 62 65),
mV 67 66,
gD 68 67 false (.mv 4),
gD 69 67 false (.len 68),
gD 70 67 false (.bin .gtr 69 (cI 6)),
uO 71 (.pick 67 cT 70),
mV 61 71] [2,4,6,7,61])
(.cond 61 (.seq (rg [uO 72 (.build [.p (.str []),.p (.int .i64 0),.p (.int .i64 0),.p (.int .i64 0),.p (.str []),.p (.str []),.p (.str []),.p (.int .i64 0)] []),
wO (.store (some 8) 2 72),
mV 3 cF] [2,3])
.ret)
(.seq (rg [fA 74 3 none 7,
lD 75 none 74,
bN 76 .eql 75 (cI 2),
mV 73 76] [2,4,6,7,73])
(.cond 73 (dr [dF (mV 77 4) [4],
dF (iA 78 none 77 (cI 4)) [77],
dF (lD 79 none 78) [78],
dF (mV 80 4) [4],
dF (iA 81 none 80 (cI 5)) [80],
dF (lD 82 none 81) [81],
dF (fA 83 4 none 7) [7],
dA (wO (.store none 83 79)) [83,79] true [] [4,5],
dF (fA 84 5 none 7) [7],
dT (wO (.store none 84 82)) [84,82]] [2,6,7])
(.seq (rg [fA 86 3 none 7,
lD 87 none 86,
bN 88 .eql 87 (cI 7),
mV 85 88] [2,4,6,7,85])
(.cond 85 (.seq (rg [mV 89 4,
iA 90 none 89 (cI 4),
lD 91 none 90,
fA 92 6 none 7,
wO (.store none 92 91)] [2,4,7])
(rg [mV 94 4,
iA 95 none 94 (cI 5),
lD 96 none 95,
cL 97 jJ [96,(cI 15)],
mV 93 97,
eX 98 93 0,
eX 99 93 1,
fA 100 7 none 7,
wO (.store none 100 98),
mV 6 99] [2,6,7]))
(rg [mV 57 4,
iA 58 none 57 (cI 4),
lD 59 none 58,
fA 60 4 none 7,
wO (.store none 60 59)] [2,6,7]))))))))
VR)))))))))
def WT:AFun:=⟨1,[.cell 2 (some 8),.t 3],JZ,false,false⟩
def PD (C:Hd)(gl:GL)(e:En)(h:aA)(x:Esc)(K:KT):Sf C gl JZ e h x K:=⟨_,by simp only[JZ,↓wZ,AO.still];rfl⟩
theorem zez {C gl v0 h x K}:NW C gl WT.body ⟨enter [v0],h,x⟩ K=(PD C gl [(0,v0)] h x K).1:=(PD C gl [(0,v0)] h x K).2
def IZ:ACode:=(.seq (rg [mV 2 (cI 0)] [0])
(.seq (.seq (rg [mV 3 0,
cL 4 QH [3],
uO 5 (.un .not 4)] [5])
(.cond 5 (.seq (rg [mV 2 (cI 1)] [2])
.ret)
.skip))
(.seq (rg [mV 2 (cI 0)] [2])
.ret)))
def iO:AFun:=⟨1,[.t 2],IZ,false,false⟩
def EL (C:Hd)(gl:GL)(e:En)(h:aA)(x:Esc)(K:KT):Sf C gl IZ e h x K:=⟨_,by simp only[IZ,↓wZ,AO.still];rfl⟩
theorem zey {C gl v0 h x K}:NW C gl iO.body ⟨enter [v0],h,x⟩ K=(EL C gl [(0,v0)] h x K).1:=(EL C gl [(0,v0)] h x K).2
def SR:ACode:=.pr [0,3,4,5] (rg [mV 16 5,
bN 17 .sub 16 (cI 1),
mV 5 17] [0,3,4,5])
def JW (C:Hd)(gl:GL)(e:En)(h:aA)(x:Esc)(K:KT):Sf C gl SR e h x K:=⟨_,by simp only[SR,↓wZ,AO.still];rfl⟩
theorem zeq {C gl e h x K}:NW C gl SR ⟨e,h,x⟩ K=(JW C gl e h x K).1:=(JW C gl e h x K).2
def GK:ACode:=.pr [0,3,4,5] (.seq (.seq (rg [mV 14 5,
bN 15 .geq 14 (cI 0)] [0,3,4,5,15])
(.cond 15 .skip
(.exit 0)))
(.seq (.block 1 (.seq (rg [mV 18 0,
mV 19 5,
iA 20 (some 8) 18 19,
lD 21 (some 8) 20,
uO 6 (.alloc [.p (.str []),.p (.int .i64 0),.p (.int .i64 0),.p (.int .i64 0),.p (.str []),.p (.str []),.p (.str []),.p (.int .i64 0)]),
wO (.store (some 8) 6 21)] [0,3,4,5,6])
(.seq (rg [mV 22 4,
mV 23 5,
mV 24 3,
fA 25 0 none 6,
lD 26 none 25,
fA 27 1 none 6,
lD 28 none 27,
uO 29 (.build [.p (.str []),.p (.int .i64 0)] [(0,1,26),(1,1,28)]),
uO 30 (.look ((some 2),[2,0]) false (AB false) 24 29),
uO 31 (.un .not 30),
iA 32 none 22 23,
wO (.store none 32 31)] [0,3,4,5,6])
(.seq (rg [mV 33 4,
mV 34 5,
iA 35 none 33 34,
lD 36 none 35,
mV 37 36,
gD 38 37 true (.faddr 3 none 6),
gD 39 37 true (.load none 38),
gD 40 37 true (.bin .eql 39 (cI 7)),
uO 41 (.pick 37 40 cF)] [0,3,4,5,6,41])
(.cond 41 (rg [mV 42 3,
fA 43 6 none 6,
lD 44 none 43,
fA 45 7 none 6,
lD 46 none 45,
uO 47 (.build [.p (.str []),.p (.int .i64 0)] [(0,1,44),(1,1,46)]),
wO (.mupd ((some 2),[2,0]) 42 47 cT)] [0,3,4,5])
.skip)))))
SR))
def KW (C:Hd)(gl:GL)(e:En)(h:aA)(x:Esc)(K:KT):Sf C gl GK e h x K:=⟨_,by simp only[GK,↓wZ,AO.still];rfl⟩
theorem zer {C gl e h x K}:NW C gl GK ⟨e,h,x⟩ K=(KW C gl e h x K).1:=(KW C gl e h x K).2
theorem zgZ {C gl e h x K}:NW C gl (.loop (.scope GK)) ⟨e,h,x⟩ K=GA C gl (.scope GK) K [(0,gA e 0),(3,gA e 3),(4,gA e 4),(5,gA e 5)] h x:=vE
def TR:ACode:=.pr [4] (.seq (rg [mV 48 4,
mV 2 48] [2])
.ret)
def LW (C:Hd)(gl:GL)(e:En)(h:aA)(x:Esc)(K:KT):Sf C gl TR e h x K:=⟨_,by simp only[TR,↓wZ,AO.still];rfl⟩
theorem zes {C gl e h x K}:NW C gl TR ⟨e,h,x⟩ K=(LW C gl e h x K).1:=(LW C gl e h x K).2
def DZ:ACode:=(.seq (rg [mV 2 (.c (.p (.sl none [])))] [0])
(.seq (rg [uO 7 (.mkmap),
mV 3 7] [0,3])
(.seq (rg [mV 8 0,
lN 9 8,
uO 10 (.mksl none (.bool false) 9 9),
mV 4 10] [0,3,4])
(.seq (.seq (rg [mV 11 0,
lN 12 11,
bN 13 .sub 12 (cI 1),
mV 5 13] [0,3,4,5])
(.block 0 (.loop (.scope GK))))
TR))))
def eO:AFun:=⟨1,[.t 2],DZ,false,false⟩
def vP (C:Hd)(gl:GL)(e:En)(h:aA)(x:Esc)(K:KT):Sf C gl DZ e h x K:=⟨_,by simp only[DZ,↓wZ,AO.still];rfl⟩
theorem zep {C gl v0 h x K}:NW C gl eO.body ⟨enter [v0],h,x⟩ K=(vP C gl [(0,v0)] h x K).1:=(vP C gl [(0,v0)] h x K).2
def JK:ACode:=.pr [0,1,5] (.seq (.seq (rg [mV 8 5,
bN 9 .gtr 8 (cI 0),
mV 10 9,
gD 11 10 true (.mv 0),
gD 12 10 true (.mv 5),
gD 13 10 true (.bin .sub 12 (cI 1)),
gD 14 10 true (.iaddr (some 8) 11 13),
gD 15 10 true (.faddr 2 none 14),
gD 16 10 true (.load none 15),
gD 17 10 true (.mv 1),
gD 18 10 true (.bin .gtr 16 17),
uO 19 (.pick 10 18 cF)] [0,1,5,19])
(.cond 19 .skip
(.exit 0)))
(.block 1 (rg [mV 20 5,
bN 21 .sub 20 (cI 1),
mV 5 21] [0,1,5])))
def TW (C:Hd)(gl:GL)(e:En)(h:aA)(x:Esc)(K:KT):Sf C gl JK e h x K:=⟨_,by simp only[JK,↓wZ,AO.still];rfl⟩
theorem ze5 {C gl e h x K}:NW C gl JK ⟨e,h,x⟩ K=(TW C gl e h x K).1:=(TW C gl e h x K).2
theorem zhc {C gl e h x K}:NW C gl (.loop JK) ⟨e,h,x⟩ K=GA C gl JK K [(0,gA e 0),(1,gA e 1),(5,gA e 5)] h x:=nB
def XR:ACode:=.pr [0,5] (.seq (rg [mV 22 0,
mV 23 5,
uO 24 (.slice (some 8) 22 none (some 23) none),
mV 4 24] [4])
.ret)
def UW (C:Hd)(gl:GL)(e:En)(h:aA)(x:Esc)(K:KT):Sf C gl XR e h x K:=⟨_,by simp only[XR,↓wZ,AO.still];rfl⟩
theorem ze6 {C gl e h x K}:NW C gl XR ⟨e,h,x⟩ K=(UW C gl e h x K).1:=(UW C gl e h x K).2
def LZ:ACode:=(.seq (rg [mV 4 (.c (.p (.sl (some 8) [])))] [0,1])
(.seq (rg [mV 6 0,
lN 7 6,
mV 5 7] [0,1,5])
(.seq (.block 0 (.loop JK))
XR)))
def jO:AFun:=⟨2,[.t 4],LZ,false,false⟩
def yP (C:Hd)(gl:GL)(e:En)(h:aA)(x:Esc)(K:KT):Sf C gl LZ e h x K:=⟨_,by simp only[LZ,↓wZ,AO.still];rfl⟩
theorem ze4 {C gl v0 v1 h x K}:NW C gl jO.body ⟨enter [v0,v1],h,x⟩ K=(yP C gl [(0,v0),(1,v1)] h x K).1:=(yP C gl [(0,v0),(1,v1)] h x K).2
def UY:ACode:=(.seq (rg [mV 4 (cI 0)] [0,1])
(.seq (rg [mV 5 1,
mV 6 0,
mV 7 1,
lN 8 7,
cL 9 gE [6,8],
iA 10 none 5 9,
lD 11 none 10,
mV 4 11] [4])
.ret))
def pT:AFun:=⟨2,[.t 4],UY,false,false⟩
def aP (C:Hd)(gl:GL)(e:En)(h:aA)(x:Esc)(K:KT):Sf C gl UY e h x K:=⟨_,by simp only[UY,↓wZ,AO.still];rfl⟩
theorem zcN {C gl v0 v1 h x K}:NW C gl pT.body ⟨enter [v0,v1],h,x⟩ K=(aP C gl [(0,v0),(1,v1)] h x K).1:=(aP C gl [(0,v0),(1,v1)] h x K).2
def XY:ACode:=(.seq (rg [mV 4 (cS [])] [0,1])
(.seq (rg [mV 5 1,
mV 6 0,
mV 7 1,
lN 8 7,
cL 9 gE [6,8],
iA 10 none 5 9,
lD 11 none 10,
mV 4 11] [4])
.ret))
def tT:AFun:=⟨2,[.t 4],XY,false,false⟩
def dP (C:Hd)(gl:GL)(e:En)(h:aA)(x:Esc)(K:KT):Sf C gl XY e h x K:=⟨_,by simp only[XY,↓wZ,AO.still];rfl⟩
theorem zcS {C gl v0 v1 h x K}:NW C gl tT.body ⟨enter [v0,v1],h,x⟩ K=(dP C gl [(0,v0),(1,v1)] h x K).1:=(dP C gl [(0,v0),(1,v1)] h x K).2
def RY:ACode:=(.seq (rg [mV 4 cF] [0,1])
(.seq (rg [mV 5 0,
mV 6 1,
cL 7 gE [5,6],
bN 8 .eql 7 (cI 0),
mV 4 8] [4])
.ret))
def mT:AFun:=⟨2,[.t 4],RY,false,false⟩
def ZO (C:Hd)(gl:GL)(e:En)(h:aA)(x:Esc)(K:KT):Sf C gl RY e h x K:=⟨_,by simp only[RY,↓wZ,AO.still];rfl⟩
theorem zcK {C gl v0 v1 h x K}:NW C gl mT.body ⟨enter [v0,v1],h,x⟩ K=(ZO C gl [(0,v0),(1,v1)] h x K).1:=(ZO C gl [(0,v0),(1,v1)] h x K).2
def TY:ACode:=(.seq (rg [mV 6 (cI 0)] [0,1,2])
(.seq (.seq (rg [mV 7 0,
cL 8 aG [7,(cI 12)]] [0,1,2,8])
(.cond 8 (.seq (rg [mV 9 0,
mV 10 1,
bN 11 .sub 10 (cI 1),
mV 12 2,
bN 13 .add 12 (cI 1),
mV 14 1,
mV 15 2,
uO 16 (.bsl false none 6 (.int .i64 0) [(0,11),(1,13),(2,14),(3,15),(4,(cI (-1099511627776))),(5,(cI 1099511627776))]),
cL 17 YE [9,16],
mV 6 17] [6])
.ret)
.skip))
(.seq (rg [mV 18 0,
mV 19 1,
mV 20 2,
cL 21 CE [18,19,20],
mV 6 21] [6])
.ret)))
def oT:AFun:=⟨3,[.t 6],TY,false,false⟩
def LH (C:Hd)(gl:GL)(e:En)(h:aA)(x:Esc)(K:KT):Sf C gl TY e h x K:=⟨_,by simp only[TY,↓wZ,AO.still];rfl⟩
theorem zcM {C gl v0 v1 v2 h x K}:NW C gl oT.body ⟨enter [v0,v1,v2],h,x⟩ K=(LH C gl [(0,v0),(1,v1),(2,v2)] h x K).1:=(LH C gl [(0,v0),(1,v1),(2,v2)] h x K).2
def aZ:ACode:=(.seq (rg [uO 2 (.box 0),
uO 3 (.box 1),
mV 4 (cI 0)] [2,3])
(.seq (.block 0 (.seq (rg [fA 6 2 none 2,
lD 7 none 6,
fA 8 2 none 3,
lD 9 none 8,
bN 10 .neq 7 9,
mV 5 10] [2,3,5])
(.cond 5 (.seq (rg [fA 11 2 none 2,
lD 12 none 11,
fA 13 2 none 3,
lD 14 none 13,
bN 15 .sub 12 14,
cL 16 pJ [15],
mV 4 16] [4])
.ret)
(.seq (rg [fA 18 0 none 2,
lD 19 none 18,
fA 20 0 none 3,
lD 21 none 20,
bN 22 .neq 19 21,
mV 17 22] [2,3,17])
(.cond 17 (.seq (rg [fA 23 0 none 2,
lD 24 none 23,
fA 25 0 none 3,
lD 26 none 25,
cL 27 aF [24,26],
mV 4 27] [4])
.ret)
.skip)))))
(.seq (rg [fA 28 1 none 2,
lD 29 none 28,
fA 30 1 none 3,
lD 31 none 30,
bN 32 .sub 29 31,
cL 33 pJ [32],
mV 4 33] [4])
.ret)))
def xT:AFun:=⟨2,[.t 4],aZ,false,false⟩
def VF (C:Hd)(gl:GL)(e:En)(h:aA)(x:Esc)(K:KT):Sf C gl aZ e h x K:=⟨_,by simp only[aZ,↓wZ,AO.still];rfl⟩
theorem zda {C gl v0 v1 h x K}:NW C gl xT.body ⟨enter [v0,v1],h,x⟩ K=(VF C gl [(0,v0),(1,v1)] h x K).1:=(VF C gl [(0,v0),(1,v1)] h x K).2
def pR:ACode:=.pr [1,3,4] (.seq (.block 0 (.seq (rg [fA 45 0 none 1,
lD 46 none 45,
cL 47 DE [46],
uO 48 (.un .not 47),
mV 44 48] [1,3,4,44])
(.cond 44 (.seq (rg [mV 2 (cI 5)] [2])
.ret)
(.seq (rg [fA 50 1 none 1,
lD 51 none 50,
cL 52 jE [51,(cI 1),(cI 1000000)],
uO 53 (.un .not 52),
mV 54 53,
gD 55 54 false (.faddr 2 none 1),
gD 56 54 false (.load none 55),
gD 57 54 false (.call nJ [56]),
gD 58 54 false (.un .not 57),
uO 59 (.pick 54 cT 58),
mV 49 59] [1,3,4,49])
(.cond 49 (.seq (rg [mV 2 (cI 1)] [2])
.ret)
(.seq (rg [fA 61 3 none 1,
lD 62 none 61,
cL 63 jE [62,(cI 1),(cI 7)],
uO 64 (.un .not 63),
mV 60 64] [1,3,4,60])
(.cond 60 (.seq (rg [mV 2 (cI 4)] [2])
.ret)
(.seq (rg [mV 66 4,
uO 67 (.un .not 66),
mV 65 67] [1,3,65])
(.cond 65 (.seq (rg [mV 2 (cI 5)] [2])
.ret)
(.seq (rg [fA 69 3 none 1,
lD 70 none 69,
bN 71 .eql 70 (cI 7),
mV 72 71,
gD 73 72 true (.faddr 7 none 1),
gD 74 72 true (.load none 73),
gD 75 72 true (.call jE [74,(cI 1),(cI 1000000)]),
gD 76 72 true (.un .not 75),
uO 77 (.pick 72 76 cF),
mV 68 77] [1,3,68])
(.cond 68 (.seq (rg [mV 2 (cI 1)] [2])
.ret)
(.seq (rg [lD 79 (some 8) 1,
lD 80 (some 8) 3,
uO 81 (.eqa [2,0,0,0,2,2,2,0] true 79 80),
mV 78 81] [78])
(.cond 78 (.seq (rg [mV 2 (cI 3)] [2])
.ret)
.skip)))))))))))))
(.seq (rg [mV 2 (cI 0)] [2])
.ret))
def OD (C:Hd)(gl:GL)(v1 v3 v4:AV)(h:aA)(x:Esc)(K:KT):Prop:=
 pK (MA 0 none v1) fun t1=>
 pK (SA none t1 h) fun t2=>
 C DE [t2] h fun t3 h4 y5=>
 pK (oUn .not t3) fun t6=>
 DB t6 (K .ret ⟨[(2,(AI 5))],h4,(y5++x)⟩)
 (pK (MA 1 none v1) fun t7=>
 pK (SA none t7 h4) fun t8=>
 C jE [t8,(AI 1),(AI 1000000)] h4 fun t9 h10 y11=>
 pK (oUn .not t9) fun t12=>
 gP t12 false (MA 2 none v1) h10 fun t13 h14 y15=>
 gP t12 false (SA none t13 h14) h14 fun t16 h17 y18=>
 gV t12 false h17 (C nJ [t16] h17) fun t19 h20 y21=>
 gP t12 false (oUn .not t19) h20 fun t22 h23 y24=>
 pK (YG t12 (AB true) t22) fun t25=>
 DB t25 (K .ret ⟨[(2,(AI 1))],h23,(y24++(y21++(y18++(y15++(y11++(y5++x))))))⟩)
 (pK (MA 3 none v1) fun t26=>
 pK (SA none t26 h23) fun t27=>
 C jE [t27,(AI 1),(AI 7)] h23 fun t28 h29 y30=>
 pK (oUn .not t28) fun t31=>
 DB t31 (K .ret ⟨[(2,(AI 4))],h29,(y30++(y24++(y21++(y18++(y15++(y11++(y5++x)))))))⟩)
 (pK (oUn .not v4) fun t32=>
 DB t32 (K .ret ⟨[(2,(AI 5))],h29,(y30++(y24++(y21++(y18++(y15++(y11++(y5++x)))))))⟩)
 (pK (MA 3 none v1) fun t33=>
 pK (SA none t33 h29) fun t34=>
 pK (IA .eql t34 (AI 7)) fun t35=>
 gP t35 true (MA 7 none v1) h29 fun t36 h37 y38=>
 gP t35 true (SA none t36 h37) h37 fun t39 h40 y41=>
 gV t35 true h40 (C jE [t39,(AI 1),(AI 1000000)] h40) fun t42 h43 y44=>
 gP t35 true (oUn .not t42) h43 fun t45 h46 y47=>
 pK (YG t35 t45 (AB false)) fun t48=>
 DB t48 (K .ret ⟨[(2,(AI 1))],h46,(y47++(y44++(y41++(y38++(y30++(y24++(y21++(y18++(y15++(y11++(y5++x)))))))))))⟩)
 (pK (SA (some 8) v1 h46) fun t49=>
 pK (SA (some 8) v3 h46) fun t50=>
 pK (ZA [2,0,0,0,2,2,2,0] true t49 t50) fun t51=>
 DB t51 (K .ret ⟨[(2,(AI 3))],h46,(y47++(y44++(y41++(y38++(y30++(y24++(y21++(y18++(y15++(y11++(y5++x)))))))))))⟩)
 (K .ret ⟨[(2,(AI 0))],h46,(y47++(y44++(y41++(y38++(y30++(y24++(y21++(y18++(y15++(y11++(y5++x)))))))))))⟩))))))
theorem zcZ {C gl e h x K}:NW C gl pR ⟨e,h,x⟩ K=OD C gl (gA e 1) (gA e 3) (gA e 4) h x K:=by kernel_rfl
def z1e (q1:ACode):ACode:=(.seq (rg [uO 1 (.box 0),
mV 2 (cI 0)] [1])
(.seq (rg [fA 5 0 none 1,
lD 6 none 5,
fA 7 1 none 1,
lD 8 none 7,
fA 9 2 none 1,
lD 10 none 9,
fA 11 3 none 1,
lD 12 none 11,
uO 13 (.build [.p (.str []),.p (.int .i64 0),.p (.int .i64 0),.p (.int .i64 0),.p (.str []),.p (.str []),.p (.str []),.p (.int .i64 0)] [(0,1,6),(1,1,8),(2,1,10),(3,1,12)]),
uO 3 (.alloc [.p (.str []),.p (.int .i64 0),.p (.int .i64 0),.p (.int .i64 0),.p (.str []),.p (.str []),.p (.str []),.p (.int .i64 0)]),
wO (.store (some 8) 3 13)] [1,3])
(.seq (rg [mV 4 cT] [1,3])
(.seq (.seq (rg [fA 14 3 none 1,
lD 15 none 14,
bN 16 .eql 15 (cI 7)] [1,3,16])
(.cond 16 (dr [dF (fA 17 6 none 1) [1],
dF (lD 18 none 17) [17],
dF (fA 19 7 none 1) [1],
dF (lD 20 none 19) [19],
dF (fA 21 6 none 1) [1],
dF (lD 22 none 21) [21],
dA (cL 23 DE [22]) [22] true [] [1,3],
dF (fA 24 6 none 3) [3],
dA (wO (.store none 24 18)) [24,18] true [] [3],
dF (fA 25 7 none 3) [3],
dT (wO (.store none 25 20)) [25,20],
dF (mV 4 23) [23]] [1,3,4])
(.seq (dr [dF (fA 26 4 none 1) [1],
dF (lD 27 none 26) [26],
dF (fA 28 4 none 1) [1],
dF (lD 29 none 28) [28],
dA (cL 30 DE [29]) [29] true [] [1],
dF (fA 31 4 none 3) [3],
dT (wO (.store none 31 27)) [31,27],
dF (mV 4 30) [30]] [1,3,4])
(.seq (rg [fA 32 3 none 1,
lD 33 none 32,
bN 34 .eql 33 (cI 2)] [1,3,4,34])
(.cond 34 (dr [dF (fA 35 5 none 1) [1],
dF (lD 36 none 35) [35],
dF (mV 37 4) [4],
dF (mV 38 37) [37],
dF (gD 39 38 true (.faddr 5 none 1)) [1,38],
dF (gD 40 38 true (.load none 39)) [39,38],
dA (gD 41 38 true (.call DE [40])) [40,38] true [] [1],
dF (uO 42 (.pick 38 41 cF)) [38,41],
dF (fA 43 5 none 3) [3],
dT (wO (.store none 43 36)) [43,36],
dF (mV 4 42) [42]] [1,3,4])
.skip)))))
q1))))
def wT:AFun:=⟨1,[.t 2],z1e pR,false,false⟩
def GG (C:Hd)(gl:GL)(q1:ACode)(v0:AV)(h:aA)(x:Esc)(K:KT):Prop:=
 wK (aN v0 h) fun t1 h2 y3=>
 pK (MA 0 none t1) fun t4=>
 pK (SA none t4 h2) fun t5=>
 pK (MA 1 none t1) fun t6=>
 pK (SA none t6 h2) fun t7=>
 pK (MA 2 none t1) fun t8=>
 pK (SA none t8 h2) fun t9=>
 pK (MA 3 none t1) fun t10=>
 pK (SA none t10 h2) fun t11=>
 pK (cC [.p (.str []),.p (.int .i64 0),.p (.int .i64 0),.p (.int .i64 0),.p (.str []),.p (.str []),.p (.str []),.p (.int .i64 0)] [(0,1,t5),(1,1,t7),(2,1,t9),(3,1,t11)]) fun t12=>
 alK [.p (.str []),.p (.int .i64 0),.p (.int .i64 0),.p (.int .i64 0),.p (.str []),.p (.str []),.p (.str []),.p (.int .i64 0)] h2 fun t13 h14 y15=>
 wK (FB (some 8) t13 t12 h14) fun t16 h17 y18=>
 pK (MA 3 none t1) fun t19=>
 pK (SA none t19 h17) fun t20=>
 pK (IA .eql t20 (AI 7)) fun t21=>
 DB t21 (pK (MA 6 none t1) fun t22=>
 pK (SA none t22 h17) fun t23=>
 pK (MA 7 none t1) fun t24=>
 pK (SA none t24 h17) fun t25=>
 pK (MA 6 none t1) fun t26=>
 pK (SA none t26 h17) fun t27=>
 kD C DE [t27] h17 fun t28 h29 y30=>
 (pK (SA none t22 h29) fun v=>(fun u (g1:aA) (y1:Esc)=>u=t23∧g1=h29∧y1=[]) v h29 [])∧((pK (SA none t24 h29) fun v=>(fun u (g1:aA) (y1:Esc)=>u=t25∧g1=h29∧y1=[]) v h29 [])∧(pK (MA 6 none t13) fun t31=>
 wK (FB none t31 t23 h29) fun t32 h33 y34=>
 (pK (SA none t24 h33) fun v=>(fun u (g1:aA) (y1:Esc)=>u=t25∧g1=h33∧y1=[]) v h33 [])∧(pK (MA 7 none t13) fun t35=>
 wK (FB none t35 t25 h33) fun t36 h37 y38=>
 NW C gl q1 ⟨[(1,t1),(3,t13),(4,t28)],h37,(y38++(y34++(y30++(y18++(y15++(y3++x))))))⟩ K))))
 (pK (MA 4 none t1) fun t39=>
 pK (SA none t39 h17) fun t40=>
 pK (MA 4 none t1) fun t41=>
 pK (SA none t41 h17) fun t42=>
 kD C DE [t42] h17 fun t43 h44 y45=>
 (pK (SA none t39 h44) fun v=>(fun u (g1:aA) (y1:Esc)=>u=t40∧g1=h44∧y1=[]) v h44 [])∧(pK (MA 4 none t13) fun t46=>
 wK (FB none t46 t40 h44) fun t47 h48 y49=>
 pK (MA 3 none t1) fun t50=>
 pK (SA none t50 h48) fun t51=>
 pK (IA .eql t51 (AI 2)) fun t52=>
 DB t52 (pK (MA 5 none t1) fun t53=>
 pK (SA none t53 h48) fun t54=>
 gP t43 true (MA 5 none t1) h48 fun t55 h56 y57=>
 gP t43 true (SA none t55 h56) h56 fun t58 h59 y60=>
 gV t43 true h59 (kD C DE [t58] h59) fun t61 h62 y63=>
 (pK (SA none t53 h62) fun v=>(fun u (g1:aA) (y1:Esc)=>u=t54∧g1=h62∧y1=[]) v h62 [])∧(pK (YG t43 t61 (AB false)) fun t64=>
 pK (MA 5 none t13) fun t65=>
 wK (FB none t65 t54 h62) fun t66 h67 y68=>
 NW C gl q1 ⟨[(1,t1),(3,t13),(4,t64)],h67,(y68++(y63++(y60++(y57++(y49++(y45++(y18++(y15++(y3++x)))))))))⟩ K))
 (NW C gl q1 ⟨[(1,t1),(3,t13),(4,t43),(34,t52)],h48,(y49++(y45++(y18++(y15++(y3++x)))))⟩ K)))
theorem z74 {C gl q1 v0 h x K}:NW C gl (z1e q1) ⟨enter [v0],h,x⟩ K=GG C gl q1 v0 h x K:=by kernel_rfl
theorem zcY {C gl v0 h x K}:NW C gl wT.body ⟨enter [v0],h,x⟩ K=GG C gl pR v0 h x K:=z74
def kZ:ACode:=(.seq (rg [mV 4 cF] [0,1])
(.seq (rg [mV 5 0,
mV 6 1,
cL 7 nM [5,6],
bN 8 .geq 7 (cI 0),
mV 4 8] [4])
.ret))
def GT:AFun:=⟨2,[.t 4],kZ,true,false⟩
def mP (C:Hd)(gl:GL)(e:En)(h:aA)(x:Esc)(K:KT):Sf C gl kZ e h x K:=⟨_,by simp only[kZ,↓wZ,AO.still];rfl⟩
theorem zdv {C gl v0 v1 h x K}:NW C gl GT.body ⟨enter [v0,v1],h,x⟩ K=(mP C gl [(0,v0),(1,v1)] h x K).1:=(mP C gl [(0,v0),(1,v1)] h x K).2
def ZY:ACode:=(.seq (rg [uO 2 (.box 0),
mV 3 cF] [1,2])
(.seq (rg [lD 4 (some 8) 2,
lD 5 (some 8) 1,
cL 6 iM [4,5],
mV 3 6] [3])
.ret))
def vT:AFun:=⟨2,[.t 3],ZY,false,false⟩
def fP (C:Hd)(gl:GL)(e:En)(h:aA)(x:Esc)(K:KT):Sf C gl ZY e h x K:=⟨_,by simp only[ZY,↓wZ,AO.still];rfl⟩
theorem zcX {C gl v0 v1 h x K}:NW C gl vT.body ⟨enter [v0,v1],h,x⟩ K=(fP C gl [(0,v0),(1,v1)] h x K).1:=(fP C gl [(0,v0),(1,v1)] h x K).2
def gZ:ACode:=(.seq (rg [uO 2 (.box 0),
uO 3 (.box 1),
mV 4 cF] [2,3])
(.seq (rg [fA 5 0 none 2,
lD 6 none 5,
fA 7 0 none 3,
lD 8 none 7,
bN 9 .eql 6 8,
mV 10 9,
gD 11 10 true (.faddr 1 none 2),
gD 12 10 true (.load none 11),
gD 13 10 true (.faddr 1 none 3),
gD 14 10 true (.load none 13),
gD 15 10 true (.bin .eql 12 14),
uO 16 (.pick 10 15 cF),
mV 4 16] [4])
.ret))
def CT:AFun:=⟨2,[.t 4],gZ,false,false⟩
def vL (C:Hd)(gl:GL)(e:En)(h:aA)(x:Esc)(K:KT):Sf C gl gZ e h x K:=⟨_,by simp only[gZ,↓wZ,AO.still];rfl⟩
theorem zdh {C gl v0 v1 h x K}:NW C gl CT.body ⟨enter [v0,v1],h,x⟩ K=(vL C gl [(0,v0),(1,v1)] h x K).1:=(vL C gl [(0,v0),(1,v1)] h x K).2
def iR:ACode:=.pr [0] (.seq (rg [mV 15 0,
mV 4 15] [4])
.ret)
def CV (C:Hd)(gl:GL)(e:En)(h:aA)(x:Esc)(K:KT):Sf C gl iR e h x K:=⟨_,by simp only[iR,↓wZ,AO.still];rfl⟩
theorem zcE {C gl e h x K}:NW C gl iR ⟨e,h,x⟩ K=(CV C gl e h x K).1:=(CV C gl e h x K).2
def QY:ACode:=(.seq (rg [mV 4 (cI 0)] [0,1])
(.seq (.seq (rg [mV 5 1,
bN 6 .lss 5 (cI 1)] [0,1,6])
(.cond 6 (.seq (rg [mV 4 (cI 0)] [4])
.ret)
.skip))
(.seq (rg [mV 7 0,
mV 8 1,
bN 9 .rem 7 8,
mV 0 9] [0,1])
(.seq (.seq (rg [mV 10 0,
bN 11 .lss 10 (cI 0)] [0,1,11])
(.cond 11 (rg [mV 12 0,
mV 13 1,
bN 14 .add 12 13,
mV 0 14] [0])
.skip))
iR))))
def kT:AFun:=⟨2,[.t 4],QY,false,false⟩
def XO (C:Hd)(gl:GL)(e:En)(h:aA)(x:Esc)(K:KT):Sf C gl QY e h x K:=⟨_,by simp only[QY,↓wZ,AO.still];rfl⟩
theorem zcD {C gl v0 v1 h x K}:NW C gl kT.body ⟨enter [v0,v1],h,x⟩ K=(XO C gl [(0,v0),(1,v1)] h x K).1:=(XO C gl [(0,v0),(1,v1)] h x K).2
def EZ:ACode:=(.seq (rg [uO 1 (.box 0),
mV 2 (cI 0)] [1])
(.seq (dr [dF (fA 5 3 none 1) [1],
dF (lD 6 none 5) [5],
dF (bN 7 .eql 6 (cI 7)) [6],
dF (fA 8 3 none 1) [1],
dF (lD 9 none 8) [8],
dF (bN 10 .eql 9 (cI 2)) [9],
dF (mV 3 7) [7],
dF (mV 4 10) [10]] [1,3,4])
(.seq (.block 0 (.seq (rg [fA 12 0 none 1,
lD 13 none 12,
cL 14 RD [13],
uO 15 (.un .not 14),
mV 11 15] [1,3,4,11])
(.cond 11 (.seq (rg [mV 2 (cI 5)] [2])
.ret)
(.seq (rg [fA 17 1 none 1,
lD 18 none 17,
cL 19 YB [18,(cI 1),(cI 1000000)],
mV 20 19,
gD 21 20 false (.faddr 2 none 1),
gD 22 20 false (.load none 21),
gD 23 20 false (.call QH [22]),
gD 24 20 false (.un .not 23),
uO 25 (.pick 20 cT 24),
mV 16 25] [1,3,4,16])
(.cond 16 (.seq (rg [mV 2 (cI 1)] [2])
.ret)
(.seq (rg [fA 27 3 none 1,
lD 28 none 27,
cL 29 YB [28,(cI 1),(cI 7)],
mV 26 29] [1,3,4,26])
(.cond 26 (.seq (rg [mV 2 (cI 4)] [2])
.ret)
(.seq (rg [mV 31 3,
uO 32 (.un .not 31),
mV 33 32,
gD 34 33 true (.faddr 4 none 1),
gD 35 33 true (.load none 34),
gD 36 33 true (.call RD [35]),
gD 37 33 true (.un .not 36),
uO 38 (.pick 33 37 cF),
mV 39 38,
gD 40 39 false (.mv 4),
gD 41 39 false (.mv 40),
gD 42 41 true (.faddr 5 none 1),
gD 43 41 true (.load none 42),
gD 44 41 true (.call RD [43]),
gD 45 41 true (.un .not 44),
gD 46 39 false (.pick 41 45 cF),
uO 47 (.pick 39 cT 46),
mV 48 47,
gD 49 48 false (.mv 3),
gD 50 48 false (.mv 49),
gD 51 50 true (.faddr 6 none 1),
gD 52 50 true (.load none 51),
gD 53 50 true (.call RD [52]),
gD 54 50 true (.un .not 53),
gD 55 48 false (.pick 50 54 cF),
uO 56 (.pick 48 cT 55),
mV 30 56] [1,3,4,30])
(.cond 30 (.seq (rg [mV 2 (cI 5)] [2])
.ret)
(.seq (rg [mV 58 3,
mV 59 58,
gD 60 59 true (.faddr 7 none 1),
gD 61 59 true (.load none 60),
gD 62 59 true (.call YB [61,(cI 1),(cI 1000000)]),
uO 63 (.pick 59 62 cF),
mV 57 63] [1,3,4,57])
(.cond 57 (.seq (rg [mV 2 (cI 1)] [2])
.ret)
(.seq (rg [mV 65 3,
mV 66 65,
gD 67 66 true (.faddr 4 none 1),
gD 68 66 true (.load none 67),
gD 69 66 true (.bin .neq 68 (cS [])),
uO 70 (.pick 66 69 cF),
mV 71 70,
gD 72 71 false (.mv 4),
gD 73 71 false (.un .not 72),
gD 74 71 false (.mv 73),
gD 75 74 true (.faddr 5 none 1),
gD 76 74 true (.load none 75),
gD 77 74 true (.bin .neq 76 (cS [])),
gD 78 71 false (.pick 74 77 cF),
uO 79 (.pick 71 cT 78),
mV 80 79,
gD 81 80 false (.mv 3),
gD 82 80 false (.un .not 81),
gD 83 80 false (.mv 82),
gD 84 83 true (.faddr 6 none 1),
gD 85 83 true (.load none 84),
gD 86 83 true (.bin .neq 85 (cS [])),
gD 87 83 true (.mv 86),
gD 88 87 false (.faddr 7 none 1),
gD 89 87 false (.load none 88),
gD 90 87 false (.bin .neq 89 (cI 0)),
gD 91 83 true (.pick 87 cT 90),
gD 92 80 false (.pick 83 91 cF),
uO 93 (.pick 80 cT 92),
mV 64 93] [64])
(.cond 64 (.seq (rg [mV 2 (cI 3)] [2])
.ret)
.skip)))))))))))))
(.seq (rg [mV 2 (cI 0)] [2])
.ret))))
def fO:AFun:=⟨1,[.t 2],EZ,false,false⟩
def wF (C:Hd)(gl:GL)(e:En)(h:aA)(x:Esc)(K:KT):Sf C gl EZ e h x K:=⟨_,by simp only[EZ,↓wZ,AO.still];rfl⟩
theorem zet {C gl v0 h x K}:NW C gl fO.body ⟨enter [v0],h,x⟩ K=(wF C gl [(0,v0)] h x K).1:=(wF C gl [(0,v0)] h x K).2
def vK:ACode:=.pr [0,1,2,6,7,8] (.seq (.seq (rg [mV 11 8,
mV 12 1,
bN 13 .leq 11 12] [0,1,2,6,7,8,13])
(.cond 13 .skip
(.exit 0)))
(.block 1 (.seq (rg [mV 14 0,
mV 15 7,
mV 16 8,
mV 17 2,
cL 18 EE [14,15,16,17]] [0,1,2,6,8])
(.seq (rg [mV 19 8,
mV 7 19] [0,1,2,6,7,8])
(rg [mV 20 8,
mV 21 6,
bN 22 .add 20 21,
mV 8 22] [0,1,2,6,7,8])))))
def iW (C:Hd)(gl:GL)(e:En)(h:aA)(x:Esc)(K:KT):Sf C gl vK e h x K:=⟨_,by simp only[vK,↓wZ,AO.still];rfl⟩
theorem zdF {C gl e h x K}:NW C gl vK ⟨e,h,x⟩ K=(iW C gl e h x K).1:=(iW C gl e h x K).2
theorem zgN {C gl e h x K}:NW C gl (.loop vK) ⟨e,h,x⟩ K=GA C gl vK K [(0,gA e 0),(1,gA e 1),(2,gA e 2),(6,gA e 6),(7,gA e 7),(8,gA e 8)] h x:=nB
def xK:ACode:=.pr [0,1,2,6,7,8] (.seq (.seq (rg [mV 33 8,
mV 34 1,
bN 35 .leq 33 34] [0,1,2,6,7,8,35])
(.cond 35 .skip
(.exit 4)))
(.block 5 (.seq (rg [mV 36 0,
mV 37 7,
mV 38 7,
mV 39 6,
bN 40 .add 38 39,
mV 41 8,
mV 42 2,
cL 43 ZE [36,37,40,41,42]] [0,1,2,6,8])
(.seq (rg [mV 44 8,
mV 7 44] [0,1,2,6,7,8])
(rg [mV 45 8,
mV 46 6,
bN 47 .mul (cI 2) 46,
bN 48 .add 45 47,
mV 8 48] [0,1,2,6,7,8])))))
def jW (C:Hd)(gl:GL)(e:En)(h:aA)(x:Esc)(K:KT):Sf C gl xK e h x K:=⟨_,by simp only[xK,↓wZ,AO.still];rfl⟩
theorem zdG {C gl e h x K}:NW C gl xK ⟨e,h,x⟩ K=(jW C gl e h x K).1:=(jW C gl e h x K).2
theorem zgO {C gl e h x K}:NW C gl (.loop xK) ⟨e,h,x⟩ K=GA C gl xK K [(0,gA e 0),(1,gA e 1),(2,gA e 2),(6,gA e 6),(7,gA e 7),(8,gA e 8)] h x:=nB
def CR:ACode:=.pr [0,1,2,6] (rg [mV 61 6,
bN 62 .mul 61 (cI 2),
mV 6 62] [0,1,2,6])
def kW (C:Hd)(gl:GL)(e:En)(h:aA)(x:Esc)(K:KT):Sf C gl CR e h x K:=⟨_,by simp only[CR,↓wZ,AO.still];rfl⟩
theorem zdH {C gl e h x K}:NW C gl CR ⟨e,h,x⟩ K=(kW C gl e h x K).1:=(kW C gl e h x K).2
def DR:ACode:=.pr [0,1,2,6,7] (.seq (.seq (rg [mV 49 7,
mV 50 6,
bN 51 .add 49 50,
mV 9 51] [0,1,2,6,7,9])
(.seq (rg [mV 52 9,
mV 53 1,
bN 54 .lss 52 53] [0,1,2,6,7,9,54])
(.cond 54 (rg [mV 55 0,
mV 56 7,
mV 57 9,
mV 58 1,
mV 59 2,
cL 60 ZE [55,56,57,58,59]] [0,1,2,6])
.skip)))
CR)
def lW (C:Hd)(gl:GL)(e:En)(h:aA)(x:Esc)(K:KT):Sf C gl DR e h x K:=⟨_,by simp only[DR,↓wZ,AO.still];rfl⟩
theorem zdI {C gl e h x K}:NW C gl DR ⟨e,h,x⟩ K=(lW C gl e h x K).1:=(lW C gl e h x K).2
def yK:ACode:=.pr [0,1,2,6] (.seq (.seq (rg [mV 28 6,
mV 29 1,
bN 30 .lss 28 29] [0,1,2,6,30])
(.cond 30 .skip
(.exit 2)))
(.block 3 (.seq (rg [mV 31 6,
bN 32 .mul (cI 2) 31,
mV 7 (cI 0),
mV 8 32] [0,1,2,6,7,8])
(.seq (.block 4 (.loop xK))
DR))))
def mW (C:Hd)(gl:GL)(e:En)(h:aA)(x:Esc)(K:KT):Sf C gl yK e h x K:=⟨_,by simp only[yK,↓wZ,AO.still];rfl⟩
theorem zdJ {C gl e h x K}:NW C gl yK ⟨e,h,x⟩ K=(mW C gl e h x K).1:=(mW C gl e h x K).2
theorem zgP {C gl e h x K}:NW C gl (.loop yK) ⟨e,h,x⟩ K=GA C gl yK K [(0,gA e 0),(1,gA e 1),(2,gA e 2),(6,gA e 6)] h x:=nB
def FR:ACode:=.pr [0,1,2,6,7] (.seq (rg [mV 23 0,
mV 24 7,
mV 25 1,
mV 26 2,
cL 27 EE [23,24,25,26]] [0,1,2,6])
(.block 2 (.loop yK)))
def nW (C:Hd)(gl:GL)(e:En)(h:aA)(x:Esc)(K:KT):Sf C gl FR e h x K:=⟨_,by simp only[FR,↓wZ,AO.still];rfl⟩
theorem zdK {C gl e h x K}:NW C gl FR ⟨e,h,x⟩ K=(nW C gl e h x K).1:=(nW C gl e h x K).2
def sZ:ACode:=(.seq (rg [mV 6 (cI 20)] [0,1,2,6])
(.seq (rg [mV 10 6,
mV 7 (cI 0),
mV 8 10] [0,1,2,6,7,8])
(.seq (.block 0 (.loop vK))
FR)))
def NT:AFun:=⟨3,[],sZ,true,false⟩
def zL (C:Hd)(gl:GL)(e:En)(h:aA)(x:Esc)(K:KT):Sf C gl sZ e h x K:=⟨_,by simp only[sZ,↓wZ,AO.still];rfl⟩
theorem zdE {C gl v0 v1 v2 h x K}:NW C gl NT.body ⟨enter [v0,v1,v2],h,x⟩ K=(zL C gl [(0,v0),(1,v1),(2,v2)] h x K).1:=(zL C gl [(0,v0),(1,v1),(2,v2)] h x K).2
def UJ:ACode:=.pr [3,6,7,8] (.seq (rg [bN 9 .lss 8 7] [3,6,7,8,9])
(.seq (.cond 9 .skip
(.exit 0))
(.seq (.block 1 (.seq (rg [iA 10 none 6 8,
lD 11 none 10,
mV 5 11] [3,5,6,7,8])
(.seq (rg [mV 12 5,
mV 13 3,
bN 14 .neq 12 13] [3,5,6,7,8,14])
(.cond 14 (.seq (rg [mV 15 5,
mV 2 15] [2])
.ret)
.skip))))
(rg [bN 16 .add 8 (cI 1),
mV 8 16] [3,6,7,8]))))
def YU (C:Hd)(gl:GL)(e:En)(h:aA)(x:Esc)(K:KT):Sf C gl UJ e h x K:=⟨_,by simp only[UJ,↓wZ,AO.still];rfl⟩
theorem zcc {C gl e h x K}:NW C gl UJ ⟨e,h,x⟩ K=(YU C gl e h x K).1:=(YU C gl e h x K).2
theorem zgz {C gl e h x K}:NW C gl (.loop UJ) ⟨e,h,x⟩ K=GA C gl UJ K [(3,gA e 3),(6,gA e 6),(7,gA e 7),(8,gA e 8)] h x:=nB
def TQ:ACode:=.pr [3] (.seq (rg [mV 17 3,
mV 2 17] [2])
.ret)
def ZU (C:Hd)(gl:GL)(e:En)(h:aA)(x:Esc)(K:KT):Sf C gl TQ e h x K:=⟨_,by simp only[TQ,↓wZ,AO.still];rfl⟩
theorem zcd {C gl e h x K}:NW C gl TQ ⟨e,h,x⟩ K=(ZU C gl e h x K).1:=(ZU C gl e h x K).2
def BY:ACode:=(.seq (rg [mV 2 (cI 0)] [0])
(.seq (rg [mV 3 (cI 0)] [0,3])
(.seq (.seq (rg [mV 6 0,
lN 7 6,
mV 8 (cI 0)] [3,6,7,8])
(.block 0 (.loop UJ)))
TQ)))
def WN:AFun:=⟨1,[.t 2],BY,false,false⟩
def PO (C:Hd)(gl:GL)(e:En)(h:aA)(x:Esc)(K:KT):Sf C gl BY e h x K:=⟨_,by simp only[BY,↓wZ,AO.still];rfl⟩
theorem zcb {C gl v0 h x K}:NW C gl WN.body ⟨enter [v0],h,x⟩ K=(PO C gl [(0,v0)] h x K).1:=(PO C gl [(0,v0)] h x K).2
def AY:ACode:=(.seq (rg [mV 4 (cI 0)] [0,1])
(.seq (rg [mV 7 0,
cL 8 TH [7],
mV 5 8] [0,1,5])
(.seq (rg [mV 9 1,
cL 10 TH [9],
mV 6 10] [0,1,5,6])
(.seq (.seq (rg [mV 11 5] [0,1,6,11])
(.cond 11 (.seq (.seq (rg [mV 12 6] [12])
(.cond 12 (.seq (rg [mV 4 (cI 0)] [4])
.ret)
.skip))
(.seq (rg [mV 4 (cI (-1))] [4])
.ret))
.skip))
(.seq (.seq (rg [mV 13 6] [0,1,13])
(.cond 13 (.seq (rg [mV 4 (cI 1)] [4])
.ret)
.skip))
(.seq (.seq (rg [mV 14 0,
mV 15 1,
bN 16 .lss 14 15] [0,1,16])
(.cond 16 (.seq (rg [mV 4 (cI (-1))] [4])
.ret)
.skip))
(.seq (.seq (rg [mV 17 0,
mV 18 1,
bN 19 .gtr 17 18] [19])
(.cond 19 (.seq (rg [mV 4 (cI 1)] [4])
.ret)
.skip))
(.seq (rg [mV 4 (cI 0)] [4])
.ret))))))))
def VN:AFun:=⟨2,[.t 4],AY,false,false⟩
def UI (C:Hd)(gl:GL)(e:En)(h:aA)(x:Esc)(K:KT):Sf C gl AY e h x K:=⟨_,by simp only[AY,↓wZ,AO.still];rfl⟩
theorem zca {C gl v0 v1 h x K}:NW C gl VN.body ⟨enter [v0,v1],h,x⟩ K=(UI C gl [(0,v0),(1,v1)] h x K).1:=(UI C gl [(0,v0),(1,v1)] h x K).2
def RZ:ACode:=(.seq (rg [mV 4 (cI 0)] [0,1])
(.seq (rg [mV 5 0,
mV 6 1,
cL 7 kJ [5,6],
mV 4 7] [4])
.ret))
def lO:AFun:=⟨2,[.t 4],RZ,false,false⟩
def BP (C:Hd)(gl:GL)(e:En)(h:aA)(x:Esc)(K:KT):Sf C gl RZ e h x K:=⟨_,by simp only[RZ,↓wZ,AO.still];rfl⟩
theorem zeC {C gl v0 v1 h x K}:NW C gl lO.body ⟨enter [v0,v1],h,x⟩ K=(BP C gl [(0,v0),(1,v1)] h x K).1:=(BP C gl [(0,v0),(1,v1)] h x K).2
def QZ:ACode:=(.seq (rg [mV 2 0,
uO 3 (.nilchk 2),
fA 4 0 none 3,
lD 5 none 4,
uO 6 (.isnil 0 false 5)] [0,6])
(.cond 6 (rg [mV 7 0,
mV 8 0,
uO 9 (.uns 1 56 [8]),
uO 10 (.uns 7 z2R [(.f z2R),9]),
uO 11 (.uns 1 56 [10]),
uO 12 (.nilchk 7),
fA 13 0 none 12,
wO (.store none 13 11)] [])
(.seq (rg [mV 14 0,
uO 15 (.nilchk 14),
fA 16 0 none 15,
lD 17 none 16,
mV 18 0,
uO 19 (.uns 2 0 [17,18])] [19])
(.cond 19 .bad
.skip))))
def bU:AFun:=⟨1,[],QZ,false,false⟩
def HL (C:Hd)(gl:GL)(e:En)(h:aA)(x:Esc)(K:KT):Sf C gl QZ e h x K:=⟨_,by simp only[QZ,↓wZ,AO.still];rfl⟩
theorem zeB {C gl v0 h x K}:NW C gl bU.body ⟨enter [v0],h,x⟩ K=(HL C gl [(0,v0)] h x K).1:=(HL C gl [(0,v0)] h x K).2
def MZ:ACode:=(.seq (rg [mV 2 (cS [])] [0])
(.seq (rg [uO 3 (.build [.p (.str []),.p (.str []),.p (.str []),.p (.str []),.p (.str []),.p (.str []),.p (.str [])] [(0,1,(cS [101,110,116,101,114])),(1,1,(cS [115,116,97,114,116])),(2,1,(cS [112,97,115,115])),(3,1,(cS [102,97,105,108])),(4,1,(cS [114,101,112,97,105,114])),(5,1,(cS [115,99,114,97,112])),(6,1,(cS [117,110,100,111]))]),
mV 4 0,
bN 5 .sub 4 (cI 1),
uO 6 (.idxa 7 none 3 5),
mV 2 6] [2])
.ret))
def XT:AFun:=⟨1,[.t 2],MZ,false,false⟩
def xF (C:Hd)(gl:GL)(e:En)(h:aA)(x:Esc)(K:KT):Sf C gl MZ e h x K:=⟨_,by simp only[MZ,↓wZ,AO.still];rfl⟩
theorem ze7 {C gl v0 h x K}:NW C gl XT.body ⟨enter [v0],h,x⟩ K=(xF C gl [(0,v0)] h x K).1:=(xF C gl [(0,v0)] h x K).2
def vY:ACode:=(.seq (rg [mV 2 (.c (.p (.sl none []))),
mV 3 cF] [0])
(.seq (.seq (rg [mV 5 0,
bN 6 .eql 5 (cS [])] [0,6])
(.cond 6 (.seq (rg [mV 2 (.c (.p (.sl none []))),
mV 3 cT] [2,3])
.ret)
.skip))
(.seq (rg [mV 8 0,
cL 9 yM [8,(cS [10])],
mV 7 9,
eX 10 7 0,
eX 11 7 1,
mV 4 10,
mV 3 11] [3,4])
(.seq (rg [mV 12 4,
cL 13 xJ [12,(cS [10])],
mV 14 3,
mV 2 13,
mV 3 14] [2,3])
.ret))))
def TS:AFun:=⟨1,[.t 2,.t 3],vY,false,false⟩
def mL (C:Hd)(gl:GL)(e:En)(h:aA)(x:Esc)(K:KT):Sf C gl vY e h x K:=⟨_,by simp only[vY,↓wZ,AO.still];rfl⟩
theorem zbT {C gl v0 h x K}:NW C gl TS.body ⟨enter [v0],h,x⟩ K=(mL C gl [(0,v0)] h x K).1:=(mL C gl [(0,v0)] h x K).2
def VZ:ACode:=(.seq (rg [mV 4 (.c (.p (.sl none [])))] [0,1])
(.seq (rg [mV 5 0,
mV 6 1,
cL 7 CM [5,6,(cI 0),(cI (-1))],
mV 4 7] [4])
.ret))
def fU:AFun:=⟨2,[.t 4],VZ,false,false⟩
def FP (C:Hd)(gl:GL)(e:En)(h:aA)(x:Esc)(K:KT):Sf C gl VZ e h x K:=⟨_,by simp only[VZ,↓wZ,AO.still];rfl⟩
theorem zeG {C gl v0 v1 h x K}:NW C gl fU.body ⟨enter [v0,v1],h,x⟩ K=(FP C gl [(0,v0),(1,v1)] h x K).1:=(FP C gl [(0,v0),(1,v1)] h x K).2
def lZ:ACode:=(.seq (rg [mV 4 cF] [0,1])
(.seq (rg [mV 5 0,
mV 6 1,
cL 7 XH [5,6],
bN 8 .geq 7 (cI 0),
mV 4 8] [4])
.ret))
def aO:AFun:=⟨2,[.t 4],lZ,true,false⟩
def nP (C:Hd)(gl:GL)(e:En)(h:aA)(x:Esc)(K:KT):Sf C gl lZ e h x K:=⟨_,by simp only[lZ,↓wZ,AO.still];rfl⟩
theorem zdw {C gl v0 v1 h x K}:NW C gl aO.body ⟨enter [v0,v1],h,x⟩ K=(nP C gl [(0,v0),(1,v1)] h x K).1:=(nP C gl [(0,v0),(1,v1)] h x K).2
def TJ:ACode:=.pr [1,6,11,12,13] (.seq (rg [bN 14 .lss 13 12] [1,6,11,12,13,14])
(.seq (.cond 14 .skip
(.exit 0))
(.seq (.block 1 (.seq (rg [iA 15 none 11 13,
lD 16 none 15,
mV 8 16] [1,6,8,11,12,13])
(.seq (rg [mV 18 8,
mV 19 1,
cL 20 jJ [18,19],
mV 17 20,
eX 21 17 0,
eX 22 17 1,
mV 9 21,
mV 10 22] [1,6,9,10,11,12,13])
(.seq (.seq (rg [mV 23 10,
uO 24 (.un .not 23)] [1,6,9,11,12,13,24])
(.cond 24 (.seq (rg [mV 4 (.c (.p (.sl none []))),
mV 5 cF] [4,5])
.ret)
.skip))
(rg [mV 25 6,
mV 26 9,
uO 27 (.bsl false none 1 (.int .i64 0) [(0,26)]),
uO 28 (.app none 25 27),
mV 6 28] [1,6,11,12,13])))))
(rg [bN 29 .add 13 (cI 1),
mV 13 29] [1,6,11,12,13]))))
def XU (C:Hd)(gl:GL)(e:En)(h:aA)(x:Esc)(K:KT):Sf C gl TJ e h x K:=⟨_,by simp only[TJ,↓wZ,AO.still];rfl⟩
theorem zbY {C gl e h x K}:NW C gl TJ ⟨e,h,x⟩ K=(XU C gl e h x K).1:=(XU C gl e h x K).2
theorem zgy {C gl e h x K}:NW C gl (.loop (.scope TJ)) ⟨e,h,x⟩ K=GA C gl (.scope TJ) K [(1,gA e 1),(6,gA e 6),(11,gA e 11),(12,gA e 12),(13,gA e 13)] h x:=vE
def SQ:ACode:=.pr [6] (.seq (rg [mV 30 6,
mV 4 30,
mV 5 cT] [4,5])
.ret)
def NO (C:Hd)(gl:GL)(e:En)(h:aA)(x:Esc)(K:KT):Sf C gl SQ e h x K:=⟨_,by simp only[SQ,↓wZ,AO.still];rfl⟩
theorem lX {C gl e h x K}:NW C gl SQ ⟨e,h,x⟩ K=(NO C gl e h x K).1:=(NO C gl e h x K).2
def yY:ACode:=(.seq (rg [mV 4 (.c (.p (.sl none []))),
mV 5 cF] [0,1])
(.seq (rg [uO 6 (.new0 none)] [0,1,6])
(.seq (.seq (rg [mV 11 0,
lN 12 11,
mV 13 (cI 0)] [1,6,11,12,13])
(.block 0 (.loop (.scope TJ))))
SQ)))
def VS:AFun:=⟨2,[.t 4,.t 5],yY,false,false⟩
def MO (C:Hd)(gl:GL)(e:En)(h:aA)(x:Esc)(K:KT):Sf C gl yY e h x K:=⟨_,by simp only[yY,↓wZ,AO.still];rfl⟩
theorem zbX {C gl v0 v1 h x K}:NW C gl VS.body ⟨enter [v0,v1],h,x⟩ K=(MO C gl [(0,v0),(1,v1)] h x K).1:=(MO C gl [(0,v0),(1,v1)] h x K).2
def HK:ACode:=.pr [0,3] (.seq (.seq (rg [mV 4 3,
bN 5 .leq 4 (cI 7)] [0,3,5])
(.cond 5 .skip
(.exit 0)))
(.seq (.block 1 (.seq (rg [mV 8 3,
cL 9 uJ [8],
mV 10 0,
bN 11 .eql 9 10] [0,3,11])
(.cond 11 (.seq (rg [mV 12 3,
mV 2 12] [2])
.ret)
.skip)))
(rg [mV 6 3,
bN 7 .add 6 (cI 1),
mV 3 7] [0,3])))
def MW (C:Hd)(gl:GL)(e:En)(h:aA)(x:Esc)(K:KT):Sf C gl HK e h x K:=⟨_,by simp only[HK,↓wZ,AO.still];rfl⟩
theorem zev {C gl e h x K}:NW C gl HK ⟨e,h,x⟩ K=(MW C gl e h x K).1:=(MW C gl e h x K).2
theorem zha {C gl e h x K}:NW C gl (.loop HK) ⟨e,h,x⟩ K=GA C gl HK K [(0,gA e 0),(3,gA e 3)] h x:=nB
def UR:ACode:=.pr [] (.seq (rg [mV 2 (cI 0)] [2])
.ret)
def OW (C:Hd)(gl:GL)(e:En)(h:aA)(x:Esc)(K:KT):Sf C gl UR e h x K:=⟨_,by simp only[UR,↓wZ,AO.still];rfl⟩
theorem zew {C gl e h x K}:NW C gl UR ⟨e,h,x⟩ K=(OW C gl e h x K).1:=(OW C gl e h x K).2
def FZ:ACode:=(.seq (rg [mV 2 (cI 0)] [0])
(.seq (.seq (rg [mV 3 (cI 1)] [0,3])
(.block 0 (.loop HK)))
UR))
def UT:AFun:=⟨1,[.t 2],FZ,false,false⟩
def wP (C:Hd)(gl:GL)(e:En)(h:aA)(x:Esc)(K:KT):Sf C gl FZ e h x K:=⟨_,by simp only[FZ,↓wZ,AO.still];rfl⟩
theorem zeu {C gl v0 h x K}:NW C gl UT.body ⟨enter [v0],h,x⟩ K=(wP C gl [(0,v0)] h x K).1:=(wP C gl [(0,v0)] h x K).2
def tI:ACode:=.pr [0,6,38,39] (.seq (rg [bN 40 .lss 39 38] [0,6,38,39,40])
(.seq (.cond 40 .skip
(.exit 0))
(.seq (.block 1 (.seq (rg [mV 41 39,
mV 7 41] [0,6,7,38,39])
(.seq (rg [mV 42 6,
mV 43 7,
uO 44 (.idxs 42 43),
bN 45 .lss 44 (.c (.p (.int .u8 48))),
mV 46 45,
gD 47 46 false (.mv 6),
gD 48 46 false (.mv 7),
gD 49 46 false (.idxs 47 48),
gD 50 46 false (.bin .gtr 49 (.c (.p (.int .u8 57)))),
uO 51 (.pick 46 cT 50)] [0,6,38,39,51])
(.cond 51 (.seq (rg [mV 4 (cI 0),
mV 5 cF] [4,5])
.ret)
.skip))))
(rg [bN 52 .add 39 (cI 1),
mV 39 52] [0,6,38,39]))))
def WU (C:Hd)(gl:GL)(e:En)(h:aA)(x:Esc)(K:KT):Sf C gl tI e h x K:=⟨_,by simp only[tI,↓wZ,AO.still];rfl⟩
theorem zbW {C gl e h x K}:NW C gl tI ⟨e,h,x⟩ K=(WU C gl e h x K).1:=(WU C gl e h x K).2
theorem zgx {C gl e h x K}:NW C gl (.loop tI) ⟨e,h,x⟩ K=GA C gl tI K [(0,gA e 0),(6,gA e 6),(38,gA e 38),(39,gA e 39)] h x:=nB
def RQ:ACode:=.pr [0] (.seq (rg [mV 54 0,
cL 55 uM [54],
mV 53 55,
eX 56 53 0,
eX 57 53 1,
mV 8 56,
mV 9 57] [8,9])
(.seq (dr [dF (mV 58 8) [8],
dF (mV 59 9) [9],
dF (uO 60 (.isnil 3 false 59)) [59],
dF (mV 4 58) [58],
dF (mV 5 60) [60]] [4,5])
.ret))
def nL (C:Hd)(gl:GL)(e:En)(h:aA)(x:Esc)(K:KT):Sf C gl RQ e h x K:=⟨_,by simp only[RQ,↓wZ,AO.still];rfl⟩
theorem QP {C gl e h x K}:NW C gl RQ ⟨e,h,x⟩ K=(nL C gl e h x K).1:=(nL C gl e h x K).2
def xY:ACode:=(.seq (rg [mV 4 (cI 0),
mV 5 cF] [0,1])
(.seq (rg [mV 10 0,
cL 11 BM [10,(cS [45])],
mV 6 11] [0,1,6])
(.seq (.seq (rg [mV 12 6,
bN 13 .eql 12 (cS []),
mV 14 13,
gD 15 14 false (.mv 6),
gD 16 14 false (.lens 15),
gD 17 14 false (.mv 1),
gD 18 14 false (.bin .gtr 16 17),
uO 19 (.pick 14 cT 18),
mV 20 19,
gD 21 20 false (.mv 6),
gD 22 20 false (.idxs 21 (cI 0)),
gD 23 20 false (.bin .eql 22 (.c (.p (.int .u8 48)))),
gD 24 20 false (.mv 23),
gD 25 24 true (.mv 6),
gD 26 24 true (.lens 25),
gD 27 24 true (.bin .gtr 26 (cI 1)),
gD 28 24 true (.mv 27),
gD 29 28 false (.mv 0),
gD 30 28 false (.lens 29),
gD 31 28 false (.mv 6),
gD 32 28 false (.lens 31),
gD 33 28 false (.bin .gtr 30 32),
gD 34 24 true (.pick 28 cT 33),
gD 35 20 false (.pick 24 34 cF),
uO 36 (.pick 20 cT 35)] [0,6,36])
(.cond 36 (.seq (rg [mV 4 (cI 0),
mV 5 cF] [4,5])
.ret)
.skip))
(.seq (.seq (rg [mV 37 6,
uO 38 (.lens 37),
mV 39 (cI 0)] [0,6,38,39])
(.block 0 (.loop tI)))
RQ))))
def US:AFun:=⟨2,[.t 4,.t 5],xY,false,false⟩
def UF (C:Hd)(gl:GL)(e:En)(h:aA)(x:Esc)(K:KT):Sf C gl xY e h x K:=⟨_,by simp only[xY,↓wZ,AO.still];rfl⟩
theorem zbV {C gl v0 v1 h x K}:NW C gl US.body ⟨enter [v0,v1],h,x⟩ K=(UF C gl [(0,v0),(1,v1)] h x K).1:=(UF C gl [(0,v0),(1,v1)] h x K).2
def wY:ACode:=(.seq (rg [mV 2 cF] [0])
(.seq (rg [mV 3 0,
cL 4 YB [3,(cI 0),(cI 345686399999)],
uO 5 (.un .not 4),
mV 2 5] [2])
.ret))
def TN:AFun:=⟨1,[.t 2],wY,false,false⟩
def LO (C:Hd)(gl:GL)(e:En)(h:aA)(x:Esc)(K:KT):Sf C gl wY e h x K:=⟨_,by simp only[wY,↓wZ,AO.still];rfl⟩
theorem zbU {C gl v0 h x K}:NW C gl TN.body ⟨enter [v0],h,x⟩ K=(LO C gl [(0,v0)] h x K).1:=(LO C gl [(0,v0)] h x K).2
def SJ:ACode:=.pr [0,23,24] (.seq (rg [bN 25 .lss 24 23] [0,23,24,25])
(.seq (.cond 25 .skip
(.exit 0))
(.seq (.block 1 (.seq (rg [mV 26 24,
mV 3 26] [0,3,23,24])
(.seq (rg [mV 27 0,
mV 28 3,
uO 29 (.idxs 27 28),
mV 4 29] [0,4,23,24])
(.seq (rg [mV 30 4,
bN 31 .geq 30 (.c (.p (.int .u8 97))),
mV 32 31,
gD 33 32 true (.mv 4),
gD 34 32 true (.bin .leq 33 (.c (.p (.int .u8 122)))),
uO 35 (.pick 32 34 cF),
mV 36 35,
gD 37 36 false (.mv 4),
gD 38 36 false (.bin .geq 37 (.c (.p (.int .u8 48)))),
gD 39 36 false (.mv 38),
gD 40 39 true (.mv 4),
gD 41 39 true (.bin .leq 40 (.c (.p (.int .u8 57)))),
gD 42 36 false (.pick 39 41 cF),
uO 43 (.pick 36 cT 42),
mV 44 43,
gD 45 44 false (.mv 4),
gD 46 44 false (.bin .eql 45 (.c (.p (.int .u8 45)))),
uO 47 (.pick 44 cT 46),
mV 48 47,
gD 49 48 false (.mv 4),
gD 50 48 false (.bin .eql 49 (.c (.p (.int .u8 95)))),
uO 51 (.pick 48 cT 50),
uO 52 (.un .not 51)] [0,23,24,52])
(.cond 52 (.seq (rg [mV 2 cF] [2])
.ret)
.skip)))))
(rg [bN 53 .add 24 (cI 1),
mV 24 53] [0,23,24]))))
def UU (C:Hd)(gl:GL)(e:En)(h:aA)(x:Esc)(K:KT):Sf C gl SJ e h x K:=⟨_,by simp only[SJ,↓wZ,AO.still];rfl⟩
theorem zbR {C gl e h x K}:NW C gl SJ ⟨e,h,x⟩ K=(UU C gl e h x K).1:=(UU C gl e h x K).2
theorem zgw {C gl e h x K}:NW C gl (.loop SJ) ⟨e,h,x⟩ K=GA C gl SJ K [(0,gA e 0),(23,gA e 23),(24,gA e 24)] h x:=nB
def QQ:ACode:=.pr [] (.seq (rg [mV 2 cT] [2])
.ret)
def VU (C:Hd)(gl:GL)(e:En)(h:aA)(x:Esc)(K:KT):Sf C gl QQ e h x K:=⟨_,by simp only[QQ,↓wZ,AO.still];rfl⟩
theorem zbS {C gl e h x K}:NW C gl QQ ⟨e,h,x⟩ K=(VU C gl e h x K).1:=(VU C gl e h x K).2
def uY:ACode:=(.seq (rg [mV 2 cF] [0])
(.seq (.seq (rg [mV 5 0,
bN 6 .eql 5 (cS []),
mV 7 6,
gD 8 7 false (.mv 0),
gD 9 7 false (.lens 8),
gD 10 7 false (.bin .gtr 9 (cI 40)),
uO 11 (.pick 7 cT 10),
mV 12 11,
gD 13 12 false (.mv 0),
gD 14 12 false (.idxs 13 (cI 0)),
gD 15 12 false (.bin .lss 14 (.c (.p (.int .u8 97)))),
uO 16 (.pick 12 cT 15),
mV 17 16,
gD 18 17 false (.mv 0),
gD 19 17 false (.idxs 18 (cI 0)),
gD 20 17 false (.bin .gtr 19 (.c (.p (.int .u8 122)))),
uO 21 (.pick 17 cT 20)] [0,21])
(.cond 21 (.seq (rg [mV 2 cF] [2])
.ret)
.skip))
(.seq (.seq (rg [mV 22 0,
uO 23 (.lens 22),
mV 24 (cI 0)] [0,23,24])
(.block 0 (.loop SJ)))
QQ)))
def SN:AFun:=⟨1,[.t 2],uY,false,false⟩
def FG (C:Hd)(gl:GL)(e:En)(h:aA)(x:Esc)(K:KT):Sf C gl uY e h x K:=⟨_,by simp only[uY,↓wZ,AO.still];rfl⟩
theorem zbQ {C gl v0 h x K}:NW C gl SN.body ⟨enter [v0],h,x⟩ K=(FG C gl [(0,v0)] h x K).1:=(FG C gl [(0,v0)] h x K).2
def hZ:ACode:=(.seq (rg [mV 2 (cI 0)] [0])
(.seq (.block 0 (.seq (rg [mV 4 0,
bN 5 .lss 4 (cI 0),
mV 3 5] [0,3])
(.cond 3 (.seq (rg [mV 2 (cI (-1))] [2])
.ret)
(.seq (rg [mV 7 0,
bN 8 .gtr 7 (cI 0),
mV 6 8] [6])
(.cond 6 (.seq (rg [mV 2 (cI 1)] [2])
.ret)
.skip)))))
(.seq (rg [mV 2 (cI 0)] [2])
.ret)))
def DT:AFun:=⟨1,[.t 2],hZ,false,false⟩
def VI (C:Hd)(gl:GL)(e:En)(h:aA)(x:Esc)(K:KT):Sf C gl hZ e h x K:=⟨_,by simp only[hZ,↓wZ,AO.still];rfl⟩
theorem zdi {C gl v0 h x K}:NW C gl DT.body ⟨enter [v0],h,x⟩ K=(VI C gl [(0,v0)] h x K).1:=(VI C gl [(0,v0)] h x K).2
def bZ:ACode:=(.seq (rg [mV 2 cF] [0])
(.seq (rg [mV 3 0,
uO 4 (.lens 3),
cL 5 jE [4,(cI 1),(cI 40)],
mV 6 5,
gD 7 6 true (.mv 0),
gD 8 6 true (.slstr 7 none (some (cI 1))),
gD 9 6 true (.call oJ [8,(cS [97,98,99,100,101,102,103,104,105,106,107,108,109,110,111,112,113,114,115,116,117,118,119,120,121,122])]),
uO 10 (.pick 6 9 cF),
mV 11 10,
gD 12 11 true (.mv 0),
gD 13 11 true (.call oJ [12,(cS [97,98,99,100,101,102,103,104,105,106,107,108,109,110,111,112,113,114,115,116,117,118,119,120,121,122,48,49,50,51,52,53,54,55,56,57,45,95])]),
uO 14 (.pick 11 13 cF),
mV 2 14] [2])
.ret))
def yT:AFun:=⟨1,[.t 2],bZ,false,false⟩
def MH (C:Hd)(gl:GL)(e:En)(h:aA)(x:Esc)(K:KT):Sf C gl bZ e h x K:=⟨_,by simp only[bZ,↓wZ,AO.still];rfl⟩
theorem zdb {C gl v0 h x K}:NW C gl yT.body ⟨enter [v0],h,x⟩ K=(MH C gl [(0,v0)] h x K).1:=(MH C gl [(0,v0)] h x K).2
def dZ:ACode:=(.seq (rg [mV 6 cF] [0,1,2])
(.seq (rg [mV 7 1,
mV 8 0,
bN 9 .leq 7 8,
mV 10 9,
gD 11 10 true (.mv 0),
gD 12 10 true (.mv 2),
gD 13 10 true (.bin .leq 11 12),
uO 14 (.pick 10 13 cF),
mV 6 14] [6])
.ret))
def AT:AFun:=⟨3,[.t 6],dZ,false,false⟩
def jP (C:Hd)(gl:GL)(e:En)(h:aA)(x:Esc)(K:KT):Sf C gl dZ e h x K:=⟨_,by simp only[dZ,↓wZ,AO.still];rfl⟩
theorem zdd {C gl v0 v1 v2 h x K}:NW C gl AT.body ⟨enter [v0,v1,v2],h,x⟩ K=(jP C gl [(0,v0),(1,v1),(2,v2)] h x K).1:=(jP C gl [(0,v0),(1,v1),(2,v2)] h x K).2
def cZ:ACode:=(.seq (rg [mV 2 cF] [0])
(.seq (rg [mV 3 0,
cL 4 jE [3,(cI 0),(cI 345686399999)],
mV 2 4] [2])
.ret))
def zT:AFun:=⟨1,[.t 2],cZ,false,false⟩
def iP (C:Hd)(gl:GL)(e:En)(h:aA)(x:Esc)(K:KT):Sf C gl cZ e h x K:=⟨_,by simp only[cZ,↓wZ,AO.still];rfl⟩
theorem zdc {C gl v0 h x K}:NW C gl zT.body ⟨enter [v0],h,x⟩ K=(iP C gl [(0,v0)] h x K).1:=(iP C gl [(0,v0)] h x K).2
def qK:ACode:=.pr [0,1,7,8] (.seq (rg [bN 9 .lss 8 7] [0,1,7,8,9])
(.seq (.cond 9 .skip
(.exit 0))
(.seq (.block 1 (.seq (rg [mV 10 8,
mV 5 10] [0,1,5,7,8])
(.seq (rg [mV 11 1,
mV 12 0,
mV 13 5,
iA 14 (some 8) 12 13,
lD 15 (some 8) 14,
uO 16 (.callv 11 [15])] [0,1,5,7,8,16])
(.cond 16 (.seq (rg [mV 17 5,
mV 4 17] [4])
.ret)
.skip))))
(rg [bN 18 .add 8 (cI 1),
mV 8 18] [0,1,7,8]))))
def YV (C:Hd)(gl:GL)(e:En)(h:aA)(x:Esc)(K:KT):Sf C gl qK e h x K:=⟨_,by simp only[qK,↓wZ,AO.still];rfl⟩
theorem zd1 {C gl e h x K}:NW C gl qK ⟨e,h,x⟩ K=(YV C gl e h x K).1:=(YV C gl e h x K).2
theorem zgI {C gl e h x K}:NW C gl (.loop qK) ⟨e,h,x⟩ K=GA C gl qK K [(0,gA e 0),(1,gA e 1),(7,gA e 7),(8,gA e 8)] h x:=nB
def yR:ACode:=.pr [] (.seq (rg [mV 4 (cI (-1))] [4])
.ret)
def ZV (C:Hd)(gl:GL)(e:En)(h:aA)(x:Esc)(K:KT):Sf C gl yR e h x K:=⟨_,by simp only[yR,↓wZ,AO.still];rfl⟩
theorem zd2 {C gl e h x K}:NW C gl yR ⟨e,h,x⟩ K=(ZV C gl e h x K).1:=(ZV C gl e h x K).2
def nZ:ACode:=(.seq (rg [mV 4 (cI 0)] [0,1])
(.seq (.seq (rg [mV 6 0,
lN 7 6,
mV 8 (cI 0)] [0,1,7,8])
(.block 0 (.loop qK)))
yR))
def IT:AFun:=⟨2,[.t 4],nZ,true,false⟩
def oP (C:Hd)(gl:GL)(e:En)(h:aA)(x:Esc)(K:KT):Sf C gl nZ e h x K:=⟨_,by simp only[nZ,↓wZ,AO.still];rfl⟩
theorem zd0 {C gl v0 v1 h x K}:NW C gl IT.body ⟨enter [v0,v1],h,x⟩ K=(oP C gl [(0,v0),(1,v1)] h x K).1:=(oP C gl [(0,v0),(1,v1)] h x K).2
def zY:ACode:=(.seq (rg [mV 6 cF] [0,1,2])
(.seq (rg [mV 7 0,
mV 8 1,
bN 9 .lss 7 8,
mV 10 9,
gD 11 10 false (.mv 0),
gD 12 10 false (.mv 2),
gD 13 10 false (.bin .gtr 11 12),
uO 14 (.pick 10 cT 13),
mV 6 14] [6])
.ret))
def UN:AFun:=⟨3,[.t 6],zY,false,false⟩
def OO (C:Hd)(gl:GL)(e:En)(h:aA)(x:Esc)(K:KT):Sf C gl zY e h x K:=⟨_,by simp only[zY,↓wZ,AO.still];rfl⟩
theorem zbZ {C gl v0 v1 v2 h x K}:NW C gl UN.body ⟨enter [v0,v1,v2],h,x⟩ K=(OO C gl [(0,v0),(1,v1),(2,v2)] h x K).1:=(OO C gl [(0,v0),(1,v1),(2,v2)] h x K).2
end Go.Am
end
section
/- The functions asv abstract code,and asv formulas UD their values: printed by program out of the translation. -/
set_option linter.all false
set_option maxRecDepth 100000
namespace Go.Am
def sK:ACode:=.pr [0,1,2,3,8,9] (.seq (.seq (dr [dF (mV 18 9) [9],
dF (mV 19 1) [1],
dF (bN 20 .gtr 18 19) [18,19],
dF (mV 21 20) [20],
dF (gD 22 21 true (.mv 3)) [3,21],
dF (gD 23 21 true (.mv 0)) [0,21],
dF (gD 24 21 true (.mv 9)) [9,21],
dF (gD 25 21 true (.iaddr (some 8) 23 24)) [23,24,21],
dF (gD 26 21 true (.load (some 8) 25)) [25,21],
dF (gD 27 21 true (.mv 0)) [0,21],
dF (gD 28 21 true (.mv 9)) [9,21],
dF (gD 29 21 true (.bin .sub 28 (cI 1))) [28,21],
dF (gD 30 21 true (.iaddr (some 8) 27 29)) [27,29,21],
dF (gD 31 21 true (.load (some 8) 30)) [30,21],
dT (gD 32 21 true (.callv 22 [26,31])) [22,26,31,21],
dF (gD 33 21 true (.bin .lss 32 (cI 0))) [32,21],
dF (uO 34 (.pick 21 33 cF)) [21,33]] [0,1,2,3,8,9,34])
(.cond 34 .skip
(.exit 2)))
(.seq (.block 3 (dr [dF (mV 37 0) [0],
dF (mV 38 9) [9],
dF (mV 39 0) [0],
dF (mV 40 9) [9],
dF (bN 41 .sub 40 (cI 1)) [40],
dF (mV 42 0) [0],
dF (mV 43 9) [9],
dF (bN 44 .sub 43 (cI 1)) [43],
dF (iA 45 (some 8) 42 44) [42,44],
dF (lD 46 (some 8) 45) [45],
dF (mV 47 0) [0],
dF (mV 48 9) [9],
dF (iA 49 (some 8) 47 48) [47,48],
dF (lD 50 (some 8) 49) [49],
dF (iA 51 (some 8) 37 38) [37,38],
dT (wO (.store (some 8) 51 46)) [51,46],
dF (iA 52 (some 8) 39 41) [39,41],
dT (wO (.store (some 8) 52 50)) [52,50]] [0,1,2,3,8,9]))
(rg [mV 35 9,
bN 36 .sub 35 (cI 1),
mV 9 36] [0,1,2,3,8,9])))
def cW (C:Hd)(gl:GL)(e:En)(h:aA)(x:Esc)(K:KT):Sf C gl sK e h x K:=⟨_,by simp only[sK,↓wZ,AO.still];rfl⟩
theorem zd8 {C gl e h x K}:NW C gl sK ⟨e,h,x⟩ K=(cW C gl e h x K).1:=(cW C gl e h x K).2
theorem zgK {C gl e h x K}:NW C gl (.loop sK) ⟨e,h,x⟩ K=GA C gl sK K [(0,gA e 0),(1,gA e 1),(2,gA e 2),(3,gA e 3),(8,gA e 8),(9,gA e 9)] h x:=nB
def AR:ACode:=.pr [0,1,2,3,8] (rg [mV 15 8,
bN 16 .add 15 (cI 1),
mV 8 16] [0,1,2,3,8])
def dW (C:Hd)(gl:GL)(e:En)(h:aA)(x:Esc)(K:KT):Sf C gl AR e h x K:=⟨_,by simp only[AR,↓wZ,AO.still];rfl⟩
theorem zd9 {C gl e h x K}:NW C gl AR ⟨e,h,x⟩ K=(dW C gl e h x K).1:=(dW C gl e h x K).2
def tK:ACode:=.pr [0,1,2,3,8] (.seq (.seq (rg [mV 12 8,
mV 13 2,
bN 14 .lss 12 13] [0,1,2,3,8,14])
(.cond 14 .skip
(.exit 0)))
(.seq (.block 1 (.seq (rg [mV 17 8,
mV 9 17] [0,1,2,3,8,9])
(.block 2 (.loop sK))))
AR))
def eW (C:Hd)(gl:GL)(e:En)(h:aA)(x:Esc)(K:KT):Sf C gl tK e h x K:=⟨_,by simp only[tK,↓wZ,AO.still];rfl⟩
theorem zdA {C gl e h x K}:NW C gl tK ⟨e,h,x⟩ K=(eW C gl e h x K).1:=(eW C gl e h x K).2
theorem zgL {C gl e h x K}:NW C gl (.loop tK) ⟨e,h,x⟩ K=GA C gl tK K [(0,gA e 0),(1,gA e 1),(2,gA e 2),(3,gA e 3),(8,gA e 8)] h x:=nB
def qZ:ACode:=(.seq (rg [mV 10 1,
bN 11 .add 10 (cI 1),
mV 8 11] [0,1,2,3,8])
(.block 0 (.loop tK)))
def LT:AFun:=⟨4,[],qZ,true,false⟩
def WI (C:Hd)(gl:GL)(e:En)(h:aA)(x:Esc)(K:KT):Sf C gl qZ e h x K:=⟨_,by simp only[qZ,↓wZ,AO.still];rfl⟩
theorem zd7 {C gl v0 v1 v2 v3 h x K}:NW C gl LT.body ⟨enter [v0,v1,v2,v3],h,x⟩ K=(WI C gl [(0,v0),(1,v1),(2,v2),(3,v3)] h x K).1:=(WI C gl [(0,v0),(1,v1),(2,v2),(3,v3)] h x K).2
def AK:ACode:=.pr [0,1,4,10,11] (.seq (.seq (rg [mV 31 10,
mV 32 11,
bN 33 .lss 31 32] [0,1,4,10,11,33])
(.cond 33 .skip
(.exit 0)))
(.block 1 (.seq (rg [mV 34 10,
mV 35 11,
bN 36 .add 34 35,
uO 37 (.conv (.i .u64) 36),
bN 38 .shr 37 (.c (.p (.int .u64 1))),
uO 39 (.conv (.i .i64) 38),
mV 12 39] [0,1,4,10,11,12])
(.seq (dr [dF (mV 40 4) [4],
dF (mV 41 0) [0],
dF (mV 42 12) [12],
dF (iA 43 (some 8) 41 42) [41,42],
dF (lD 44 (some 8) 43) [43],
dF (mV 45 0) [0],
dF (mV 46 1) [1],
dF (iA 47 (some 8) 45 46) [45,46],
dF (lD 48 (some 8) 47) [47],
dT (uO 49 (.callv 40 [44,48])) [40,44,48],
dF (bN 50 .lss 49 (cI 0)) [49]] [0,1,4,10,11,12,50])
(.cond 50 (rg [mV 51 12,
bN 52 .add 51 (cI 1),
mV 10 52] [0,1,4,10,11])
(rg [mV 53 12,
mV 11 53] [0,1,4,10,11]))))))
def pW (C:Hd)(gl:GL)(e:En)(h:aA)(x:Esc)(K:KT):Sf C gl AK e h x K:=⟨_,by simp only[AK,↓wZ,AO.still];rfl⟩
theorem zdO {C gl e h x K}:NW C gl AK ⟨e,h,x⟩ K=(pW C gl e h x K).1:=(pW C gl e h x K).2
theorem zgR {C gl e h x K}:NW C gl (.loop AK) ⟨e,h,x⟩ K=GA C gl AK K [(0,gA e 0),(1,gA e 1),(4,gA e 4),(10,gA e 10),(11,gA e 11)] h x:=nB
def BK:ACode:=.pr [0,10,13] (.seq (.seq (rg [mV 55 13,
mV 56 10,
bN 57 .sub 56 (cI 1),
bN 58 .lss 55 57] [0,10,13,58])
(.cond 58 .skip
(.exit 2)))
(.seq (.block 3 (dr [dF (mV 61 0) [0],
dF (mV 62 13) [13],
dF (mV 63 0) [0],
dF (mV 64 13) [13],
dF (bN 65 .add 64 (cI 1)) [64],
dF (mV 66 0) [0],
dF (mV 67 13) [13],
dF (bN 68 .add 67 (cI 1)) [67],
dF (iA 69 (some 8) 66 68) [66,68],
dF (lD 70 (some 8) 69) [69],
dF (mV 71 0) [0],
dF (mV 72 13) [13],
dF (iA 73 (some 8) 71 72) [71,72],
dF (lD 74 (some 8) 73) [73],
dF (iA 75 (some 8) 61 62) [61,62],
dT (wO (.store (some 8) 75 70)) [75,70],
dF (iA 76 (some 8) 63 65) [63,65],
dT (wO (.store (some 8) 76 74)) [76,74]] [0,10,13]))
(rg [mV 59 13,
bN 60 .add 59 (cI 1),
mV 13 60] [0,10,13])))
def uW (C:Hd)(gl:GL)(e:En)(h:aA)(x:Esc)(K:KT):Sf C gl BK e h x K:=⟨_,by simp only[BK,↓wZ,AO.still];rfl⟩
theorem zdT {C gl e h x K}:NW C gl BK ⟨e,h,x⟩ K=(uW C gl e h x K).1:=(uW C gl e h x K).2
theorem zgS {C gl e h x K}:NW C gl (.loop BK) ⟨e,h,x⟩ K=GA C gl BK K [(0,gA e 0),(10,gA e 10),(13,gA e 13)] h x:=nB
def JR:ACode:=.pr [] .ret
def vW (C:Hd)(gl:GL)(e:En)(h:aA)(x:Esc)(K:KT):Sf C gl JR e h x K:=⟨_,by simp only[JR,↓wZ,AO.still];rfl⟩
theorem zdU {C gl e h x K}:NW C gl JR ⟨e,h,x⟩ K=(vW C gl e h x K).1:=(vW C gl e h x K).2
def KR:ACode:=.pr [0,1,10] (.seq (.seq (rg [mV 54 1,
mV 13 54] [0,10,13])
(.block 2 (.loop BK)))
JR)
def wW (C:Hd)(gl:GL)(e:En)(h:aA)(x:Esc)(K:KT):Sf C gl KR e h x K:=⟨_,by simp only[KR,↓wZ,AO.still];rfl⟩
theorem zdV {C gl e h x K}:NW C gl KR ⟨e,h,x⟩ K=(wW C gl e h x K).1:=(wW C gl e h x K).2
def CK:ACode:=.pr [0,2,4,14,15] (.seq (.seq (rg [mV 83 14,
mV 84 15,
bN 85 .lss 83 84] [0,2,4,14,15,85])
(.cond 85 .skip
(.exit 4)))
(.block 5 (.seq (rg [mV 86 14,
mV 87 15,
bN 88 .add 86 87,
uO 89 (.conv (.i .u64) 88),
bN 90 .shr 89 (.c (.p (.int .u64 1))),
uO 91 (.conv (.i .i64) 90),
mV 16 91] [0,2,4,14,15,16])
(.seq (dr [dF (mV 92 4) [4],
dF (mV 93 0) [0],
dF (mV 94 2) [2],
dF (iA 95 (some 8) 93 94) [93,94],
dF (lD 96 (some 8) 95) [95],
dF (mV 97 0) [0],
dF (mV 98 16) [16],
dF (iA 99 (some 8) 97 98) [97,98],
dF (lD 100 (some 8) 99) [99],
dT (uO 101 (.callv 92 [96,100])) [92,96,100],
dF (bN 102 .lss 101 (cI 0)) [101],
dF (uO 103 (.un .not 102)) [102]] [0,2,4,14,15,16,103])
(.cond 103 (rg [mV 104 16,
bN 105 .add 104 (cI 1),
mV 14 105] [0,2,4,14,15])
(rg [mV 106 16,
mV 15 106] [0,2,4,14,15]))))))
def xW (C:Hd)(gl:GL)(e:En)(h:aA)(x:Esc)(K:KT):Sf C gl CK e h x K:=⟨_,by simp only[CK,↓wZ,AO.still];rfl⟩
theorem zdW {C gl e h x K}:NW C gl CK ⟨e,h,x⟩ K=(xW C gl e h x K).1:=(xW C gl e h x K).2
theorem zgT {C gl e h x K}:NW C gl (.loop CK) ⟨e,h,x⟩ K=GA C gl CK K [(0,gA e 0),(2,gA e 2),(4,gA e 4),(14,gA e 14),(15,gA e 15)] h x:=nB
def DK:ACode:=.pr [0,14,17] (.seq (.seq (rg [mV 108 17,
mV 109 14,
bN 110 .gtr 108 109] [0,14,17,110])
(.cond 110 .skip
(.exit 6)))
(.seq (.block 7 (dr [dF (mV 113 0) [0],
dF (mV 114 17) [17],
dF (mV 115 0) [0],
dF (mV 116 17) [17],
dF (bN 117 .sub 116 (cI 1)) [116],
dF (mV 118 0) [0],
dF (mV 119 17) [17],
dF (bN 120 .sub 119 (cI 1)) [119],
dF (iA 121 (some 8) 118 120) [118,120],
dF (lD 122 (some 8) 121) [121],
dF (mV 123 0) [0],
dF (mV 124 17) [17],
dF (iA 125 (some 8) 123 124) [123,124],
dF (lD 126 (some 8) 125) [125],
dF (iA 127 (some 8) 113 114) [113,114],
dT (wO (.store (some 8) 127 122)) [127,122],
dF (iA 128 (some 8) 115 117) [115,117],
dT (wO (.store (some 8) 128 126)) [128,126]] [0,14,17]))
(rg [mV 111 17,
bN 112 .sub 111 (cI 1),
mV 17 112] [0,14,17])))
def yW (C:Hd)(gl:GL)(e:En)(h:aA)(x:Esc)(K:KT):Sf C gl DK e h x K:=⟨_,by simp only[DK,↓wZ,AO.still];rfl⟩
theorem zdX {C gl e h x K}:NW C gl DK ⟨e,h,x⟩ K=(yW C gl e h x K).1:=(yW C gl e h x K).2
theorem zgU {C gl e h x K}:NW C gl (.loop DK) ⟨e,h,x⟩ K=GA C gl DK K [(0,gA e 0),(14,gA e 14),(17,gA e 17)] h x:=nB
def LR:ACode:=.pr [] .ret
def zW (C:Hd)(gl:GL)(e:En)(h:aA)(x:Esc)(K:KT):Sf C gl LR e h x K:=⟨_,by simp only[LR,↓wZ,AO.still];rfl⟩
theorem zdY {C gl e h x K}:NW C gl LR ⟨e,h,x⟩ K=(zW C gl e h x K).1:=(zW C gl e h x K).2
def MR:ACode:=.pr [0,2,14] (.seq (.seq (rg [mV 107 2,
mV 17 107] [0,14,17])
(.block 6 (.loop DK)))
LR)
def BW (C:Hd)(gl:GL)(e:En)(h:aA)(x:Esc)(K:KT):Sf C gl MR e h x K:=⟨_,by simp only[MR,↓wZ,AO.still];rfl⟩
theorem zdZ {C gl e h x K}:NW C gl MR ⟨e,h,x⟩ K=(BW C gl e h x K).1:=(BW C gl e h x K).2
def uI:ACode:=.pr [0,1,2,3,4,18,19,20,21,22] (.seq (.seq (rg [mV 149 20,
mV 150 21,
bN 151 .lss 149 150] [0,1,2,3,4,18,19,20,21,22,151])
(.cond 151 .skip
(.exit 8)))
(.block 9 (.seq (rg [mV 152 20,
mV 153 21,
bN 154 .add 152 153,
uO 155 (.conv (.i .u64) 154),
bN 156 .shr 155 (.c (.p (.int .u64 1))),
uO 157 (.conv (.i .i64) 156),
mV 23 157] [0,1,2,3,4,18,19,20,21,22,23])
(.seq (dr [dF (mV 158 4) [4],
dF (mV 159 0) [0],
dF (mV 160 22) [22],
dF (mV 161 23) [23],
dF (bN 162 .sub 160 161) [160,161],
dF (iA 163 (some 8) 159 162) [159,162],
dF (lD 164 (some 8) 163) [163],
dF (mV 165 0) [0],
dF (mV 166 23) [23],
dF (iA 167 (some 8) 165 166) [165,166],
dF (lD 168 (some 8) 167) [167],
dT (uO 169 (.callv 158 [164,168])) [158,164,168],
dF (bN 170 .lss 169 (cI 0)) [169],
dF (uO 171 (.un .not 170)) [170]] [0,1,2,3,4,18,19,20,21,22,23,171])
(.cond 171 (rg [mV 172 23,
bN 173 .add 172 (cI 1),
mV 20 173] [0,1,2,3,4,18,19,20,21,22])
(rg [mV 174 23,
mV 21 174] [0,1,2,3,4,18,19,20,21,22]))))))
def CW (C:Hd)(gl:GL)(e:En)(h:aA)(x:Esc)(K:KT):Sf C gl uI e h x K:=⟨_,by simp only[uI,↓wZ,AO.still];rfl⟩
theorem zea {C gl e h x K}:NW C gl uI ⟨e,h,x⟩ K=(CW C gl e h x K).1:=(CW C gl e h x K).2
theorem zgV {C gl e h x K}:NW C gl (.loop uI) ⟨e,h,x⟩ K=GA C gl uI K [(0,gA e 0),(1,gA e 1),(2,gA e 2),(3,gA e 3),(4,gA e 4),(18,gA e 18),(19,gA e 19),(20,gA e 20),(21,gA e 21),(22,gA e 22)] h x:=nB
def oN:ACode:=.pr [0,3,4,18,24] (.seq (rg [mV 206 18,
mV 207 24,
bN 208 .lss 206 207,
mV 209 208,
gD 210 209 true (.mv 24),
gD 211 209 true (.mv 3),
gD 212 209 true (.bin .lss 210 211),
uO 213 (.pick 209 212 cF)] [0,3,4,18,24,213])
(.cond 213 (rg [mV 214 0,
mV 215 18,
mV 216 24,
mV 217 3,
mV 218 4,
cL 219 ZE [214,215,216,217,218]] [])
.skip))
def YI (C:Hd)(gl:GL)(e:En)(h:aA)(x:Esc)(K:KT):Sf C gl oN e h x K:=⟨_,by simp only[oN,↓wZ,AO.still];rfl⟩
theorem pX {C gl e h x K}:NW C gl oN ⟨e,h,x⟩ K=(YI C gl e h x K).1:=(YI C gl e h x K).2
def pN:ACode:=.pr [0,1,3,4,18,20,24] (.seq (.seq (rg [mV 192 1,
mV 193 20,
bN 194 .lss 192 193,
mV 195 194,
gD 196 195 true (.mv 20),
gD 197 195 true (.mv 18),
gD 198 195 true (.bin .lss 196 197),
uO 199 (.pick 195 198 cF)] [0,1,3,4,18,20,24,199])
(.cond 199 (rg [mV 200 0,
mV 201 1,
mV 202 20,
mV 203 18,
mV 204 4,
cL 205 ZE [200,201,202,203,204]] [0,3,4,18,24])
.skip))
oN)
def ZI (C:Hd)(gl:GL)(e:En)(h:aA)(x:Esc)(K:KT):Sf C gl pN e h x K:=⟨_,by simp only[pN,↓wZ,AO.still];rfl⟩
theorem qX {C gl e h x K}:NW C gl pN ⟨e,h,x⟩ K=(ZI C gl e h x K).1:=(ZI C gl e h x K).2
def qN:ACode:=.pr [0,1,2,3,4,18,19,20] (.seq (rg [mV 175 19,
mV 176 20,
bN 177 .sub 175 176,
mV 24 177] [0,1,2,3,4,18,20,24])
(.seq (.seq (rg [mV 178 20,
mV 179 2,
bN 180 .lss 178 179,
mV 181 180,
gD 182 181 true (.mv 2),
gD 183 181 true (.mv 24),
gD 184 181 true (.bin .lss 182 183),
uO 185 (.pick 181 184 cF)] [0,1,2,3,4,18,20,24,185])
(.cond 185 (rg [mV 186 0,
mV 187 20,
mV 188 2,
mV 189 24,
mV 190 4,
cL 191 oM [186,187,188,189,190]] [0,1,3,4,18,20,24])
.skip))
pN))
def qW (C:Hd)(gl:GL)(e:En)(h:aA)(x:Esc)(K:KT):Sf C gl qN e h x K:=⟨_,by simp only[qN,↓wZ,AO.still];rfl⟩
theorem zdP {C gl e h x K}:NW C gl qN ⟨e,h,x⟩ K=(qW C gl e h x K).1:=(qW C gl e h x K).2
def GR:ACode:=.pr [0,1,2,3,4,18,19,20,21] (.seq (rg [mV 147 19,
bN 148 .sub 147 (cI 1),
mV 22 148] [0,1,2,3,4,18,19,20,21,22])
(.seq (.block 8 (.loop uI))
qN))
def rW (C:Hd)(gl:GL)(e:En)(h:aA)(x:Esc)(K:KT):Sf C gl GR e h x K:=⟨_,by simp only[GR,↓wZ,AO.still];rfl⟩
theorem zdQ {C gl e h x K}:NW C gl GR ⟨e,h,x⟩ K=(rW C gl e h x K).1:=(rW C gl e h x K).2
def HR:ACode:=.pr [0,1,2,3,4] (.seq (rg [mV 129 1,
mV 130 3,
bN 131 .add 129 130,
uO 132 (.conv (.i .u64) 131),
bN 133 .shr 132 (.c (.p (.int .u64 1))),
uO 134 (.conv (.i .i64) 133),
mV 18 134] [0,1,2,3,4,18])
(.seq (rg [mV 135 18,
mV 136 2,
bN 137 .add 135 136,
mV 19 137] [0,1,2,3,4,18,19])
(.seq (rg [mV 20 (cI 0),
mV 21 (cI 0)] [0,1,2,3,4,18,19])
(.seq (.seq (rg [mV 138 2,
mV 139 18,
bN 140 .gtr 138 139] [0,1,2,3,4,18,19,140])
(.cond 140 (.seq (rg [mV 141 19,
mV 142 3,
bN 143 .sub 141 142,
mV 20 143] [0,1,2,3,4,18,19,20])
(rg [mV 144 18,
mV 21 144] [0,1,2,3,4,18,19,20,21]))
(.seq (rg [mV 145 1,
mV 20 145] [0,1,2,3,4,18,19,20])
(rg [mV 146 2,
mV 21 146] [0,1,2,3,4,18,19,20,21]))))
GR))))
def sW (C:Hd)(gl:GL)(e:En)(h:aA)(x:Esc)(K:KT):Sf C gl HR e h x K:=⟨_,by simp only[HR,↓wZ,AO.still];rfl⟩
theorem zdR {C gl e h x K}:NW C gl HR ⟨e,h,x⟩ K=(sW C gl e h x K).1:=(sW C gl e h x K).2
def IR:ACode:=.pr [0,1,2,3,4] (.seq (.seq (rg [mV 77 3,
mV 78 2,
bN 79 .sub 77 78,
bN 80 .eql 79 (cI 1)] [0,1,2,3,4,80])
(.cond 80 (.seq (rg [mV 81 1,
mV 14 81] [0,2,4,14])
(.seq (rg [mV 82 2,
mV 15 82] [0,2,4,14,15])
(.seq (.block 4 (.loop CK))
MR)))
.skip))
HR)
def tW (C:Hd)(gl:GL)(e:En)(h:aA)(x:Esc)(K:KT):Sf C gl IR e h x K:=⟨_,by simp only[IR,↓wZ,AO.still];rfl⟩
theorem zdS {C gl e h x K}:NW C gl IR ⟨e,h,x⟩ K=(tW C gl e h x K).1:=(tW C gl e h x K).2
def uZ:ACode:=(.seq (.seq (rg [mV 25 2,
mV 26 1,
bN 27 .sub 25 26,
bN 28 .eql 27 (cI 1)] [0,1,2,3,4,28])
(.cond 28 (.seq (rg [mV 29 2,
mV 10 29] [0,1,3,4,10])
(.seq (rg [mV 30 3,
mV 11 30] [0,1,4,10,11])
(.seq (.block 0 (.loop AK))
KR)))
.skip))
IR)
def PT:AFun:=⟨5,[],uZ,true,false⟩
def XI (C:Hd)(gl:GL)(e:En)(h:aA)(x:Esc)(K:KT):Sf C gl uZ e h x K:=⟨_,by simp only[uZ,↓wZ,AO.still];rfl⟩
theorem zdN {C gl v0 v1 v2 v3 v4 h x K}:NW C gl PT.body ⟨enter [v0,v1,v2,v3,v4],h,x⟩ K=(XI C gl [(0,v0),(1,v1),(2,v2),(3,v3),(4,v4)] h x K).1:=(XI C gl [(0,v0),(1,v1),(2,v2),(3,v3),(4,v4)] h x K).2
def CY:ACode:=(.seq (rg [mV 2 cF] [0])
(.seq (rg [mV 3 0,
mV 4 0,
bN 5 .neq 3 4,
mV 2 5] [2])
.ret))
def XN:AFun:=⟨1,[.t 2],CY,false,false⟩
def QO (C:Hd)(gl:GL)(e:En)(h:aA)(x:Esc)(K:KT):Sf C gl CY e h x K:=⟨_,by simp only[CY,↓wZ,AO.still];rfl⟩
theorem zce {C gl v0 h x K}:NW C gl XN.body ⟨enter [v0],h,x⟩ K=(QO C gl [(0,v0)] h x K).1:=(QO C gl [(0,v0)] h x K).2
def DY:ACode:=(.seq (rg [mV 4 (cI 0)] [0,1])
(.seq (rg [mV 5 0,
mV 6 1,
cL 7 ZF [5,6],
mV 4 7] [4])
.ret))
def YN:AFun:=⟨2,[.t 4],DY,false,false⟩
def RO (C:Hd)(gl:GL)(e:En)(h:aA)(x:Esc)(K:KT):Sf C gl DY e h x K:=⟨_,by simp only[DY,↓wZ,AO.still];rfl⟩
theorem zcf {C gl v0 v1 h x K}:NW C gl YN.body ⟨enter [v0,v1],h,x⟩ K=(RO C gl [(0,v0),(1,v1)] h x K).1:=(RO C gl [(0,v0),(1,v1)] h x K).2
def SZ:ACode:=(.seq (rg [mV 4 (cS []),
mV 5 cF] [0,1])
(.seq (rg [mV 6 0,
mV 7 1,
cL 8 WL [6,7],
eX 9 8 0,
eX 10 8 1,
mV 4 9,
mV 5 10] [4,5])
.ret))
def cU:AFun:=⟨2,[.t 4,.t 5],SZ,false,false⟩
def CP (C:Hd)(gl:GL)(e:En)(h:aA)(x:Esc)(K:KT):Sf C gl SZ e h x K:=⟨_,by simp only[SZ,↓wZ,AO.still];rfl⟩
theorem zeD {C gl v0 v1 h x K}:NW C gl cU.body ⟨enter [v0,v1],h,x⟩ K=(CP C gl [(0,v0),(1,v1)] h x K).1:=(CP C gl [(0,v0),(1,v1)] h x K).2
def LK:ACode:=.pr [0,1,2,3,9,10] (.seq (.seq (rg [mV 34 10,
mV 35 3,
bN 36 .lss 34 35] [0,1,2,3,9,10,36])
(.cond 36 .skip
(.exit 0)))
(.block 1 (.seq (rg [mV 37 0,
mV 38 1,
cL 39 zM [37,38],
mV 11 39] [0,1,2,3,9,10,11])
(.seq (.seq (rg [mV 40 11,
bN 41 .lss 40 (cI 0)] [0,1,2,3,9,10,11,41])
(.cond 41 (.exit 0)
.skip))
(.seq (rg [mV 42 9,
mV 43 10,
mV 44 0,
mV 45 11,
mV 46 2,
bN 47 .add 45 46,
uO 48 (.slstr 44 none (some 47)),
iA 49 none 42 43,
wO (.store none 49 48)] [0,1,2,3,9,10,11])
(.seq (rg [mV 50 0,
mV 51 11,
mV 52 1,
uO 53 (.lens 52),
bN 54 .add 51 53,
uO 55 (.slstr 50 (some 54) none),
mV 0 55] [0,1,2,3,9,10])
(rg [mV 56 10,
bN 57 .add 56 (cI 1),
mV 10 57] [0,1,2,3,9,10])))))))
def aX (C:Hd)(gl:GL)(e:En)(h:aA)(x:Esc)(K:KT):Sf C gl LK e h x K:=⟨_,by simp only[LK,↓wZ,AO.still];rfl⟩
theorem zeO {C gl e h x K}:NW C gl LK ⟨e,h,x⟩ K=(aX C gl e h x K).1:=(aX C gl e h x K).2
theorem zhe {C gl e h x K}:NW C gl (.loop LK) ⟨e,h,x⟩ K=GA C gl LK K [(0,gA e 0),(1,gA e 1),(2,gA e 2),(3,gA e 3),(9,gA e 9),(10,gA e 10)] h x:=nB
def bS:ACode:=.pr [0,9,10] (.seq (rg [mV 58 9,
mV 59 10,
mV 60 0,
iA 61 none 58 59,
wO (.store none 61 60)] [9,10])
(.seq (rg [mV 62 9,
mV 63 10,
bN 64 .add 63 (cI 1),
uO 65 (.slice none 62 none (some 64) none),
mV 8 65] [8])
.ret))
def bX (C:Hd)(gl:GL)(e:En)(h:aA)(x:Esc)(K:KT):Sf C gl bS e h x K:=⟨_,by simp only[bS,↓wZ,AO.still];rfl⟩
theorem zeP {C gl e h x K}:NW C gl bS ⟨e,h,x⟩ K=(bX C gl e h x K).1:=(bX C gl e h x K).2
def dS:ACode:=.pr [0,1,2,3] (.seq (rg [mV 25 3,
mV 26 0,
uO 27 (.lens 26),
bN 28 .add 27 (cI 1),
uO 29 (.mn [25,28]),
mV 3 29] [0,1,2,3])
(.seq (rg [mV 30 3,
uO 31 (.mksl none (.str []) 30 30),
mV 9 31] [0,1,2,3,9])
(.seq (rg [mV 32 3,
bN 33 .sub 32 (cI 1),
mV 3 33] [0,1,2,3,9])
(.seq (rg [mV 10 (cI 0)] [0,1,2,3,9,10])
(.seq (.block 0 (.loop LK))
bS)))))
def IP (C:Hd)(gl:GL)(e:En)(h:aA)(x:Esc)(K:KT):Sf C gl dS e h x K:=⟨_,by simp only[dS,↓wZ,AO.still];rfl⟩
theorem sX {C gl e h x K}:NW C gl dS ⟨e,h,x⟩ K=(IP C gl e h x K).1:=(IP C gl e h x K).2
def YZ:ACode:=(.seq (rg [mV 8 (.c (.p (.sl none [])))] [0,1,2,3])
(.seq (.seq (rg [mV 12 3,
bN 13 .eql 12 (cI 0)] [0,1,2,3,13])
(.cond 13 (.seq (rg [mV 8 (.c (.p (.sl none [])))] [8])
.ret)
.skip))
(.seq (.seq (rg [mV 14 1,
bN 15 .eql 14 (cS [])] [0,1,2,3,15])
(.cond 15 (.seq (rg [mV 16 0,
mV 17 3,
cL 18 dQ [16,17],
mV 8 18] [8])
.ret)
.skip))
(.seq (.seq (rg [mV 19 3,
bN 20 .lss 19 (cI 0)] [0,1,2,3,20])
(.cond 20 (rg [mV 21 0,
mV 22 1,
cL 23 xM [21,22],
bN 24 .add 23 (cI 1),
mV 3 24] [0,1,2,3])
.skip))
dS))))
def jU:AFun:=⟨4,[.t 8],YZ,false,false⟩
def HP (C:Hd)(gl:GL)(e:En)(h:aA)(x:Esc)(K:KT):Sf C gl YZ e h x K:=⟨_,by simp only[YZ,↓wZ,AO.still];rfl⟩
theorem zeN {C gl v0 v1 v2 v3 h x K}:NW C gl jU.body ⟨enter [v0,v1,v2,v3],h,x⟩ K=(HP C gl [(0,v0),(1,v1),(2,v2),(3,v3)] h x K).1:=(HP C gl [(0,v0),(1,v1),(2,v2),(3,v3)] h x K).2
def rK:ACode:=.pr [0,1,7,8] (.seq (rg [bN 9 .lss 8 7] [0,1,7,8,9])
(.seq (.cond 9 .skip
(.exit 0))
(.seq (.block 1 (.seq (rg [mV 10 8,
mV 5 10] [0,1,5,7,8])
(.seq (rg [mV 11 1,
mV 12 0,
mV 13 5,
iA 14 none 12 13,
lD 15 none 14,
bN 16 .eql 11 15] [0,1,5,7,8,16])
(.cond 16 (.seq (rg [mV 17 5,
mV 4 17] [4])
.ret)
.skip))))
(rg [bN 18 .add 8 (cI 1),
mV 8 18] [0,1,7,8]))))
def aW (C:Hd)(gl:GL)(e:En)(h:aA)(x:Esc)(K:KT):Sf C gl rK e h x K:=⟨_,by simp only[rK,↓wZ,AO.still];rfl⟩
theorem zd4 {C gl e h x K}:NW C gl rK ⟨e,h,x⟩ K=(aW C gl e h x K).1:=(aW C gl e h x K).2
theorem zgJ {C gl e h x K}:NW C gl (.loop rK) ⟨e,h,x⟩ K=GA C gl rK K [(0,gA e 0),(1,gA e 1),(7,gA e 7),(8,gA e 8)] h x:=nB
def zR:ACode:=.pr [] (.seq (rg [mV 4 (cI (-1))] [4])
.ret)
def bW (C:Hd)(gl:GL)(e:En)(h:aA)(x:Esc)(K:KT):Sf C gl zR e h x K:=⟨_,by simp only[zR,↓wZ,AO.still];rfl⟩
theorem zd5 {C gl e h x K}:NW C gl zR ⟨e,h,x⟩ K=(bW C gl e h x K).1:=(bW C gl e h x K).2
def oZ:ACode:=(.seq (rg [mV 4 (cI 0)] [0,1])
(.seq (.seq (rg [mV 6 0,
lN 7 6,
mV 8 (cI 0)] [0,1,7,8])
(.block 0 (.loop rK)))
zR))
def bO:AFun:=⟨2,[.t 4],oZ,true,false⟩
def pP (C:Hd)(gl:GL)(e:En)(h:aA)(x:Esc)(K:KT):Sf C gl oZ e h x K:=⟨_,by simp only[oZ,↓wZ,AO.still];rfl⟩
theorem zd3 {C gl v0 v1 h x K}:NW C gl bO.body ⟨enter [v0,v1],h,x⟩ K=(pP C gl [(0,v0),(1,v1)] h x K).1:=(pP C gl [(0,v0),(1,v1)] h x K).2
def WZ:ACode:=(.seq (rg [mV 4 (cS [])] [0,1])
(.seq (rg [mV 5 0,
mV 6 1,
cL 7 aM [5,6],
mV 4 7] [4])
.ret))
def gU:AFun:=⟨2,[.t 4],WZ,false,false⟩
def GP (C:Hd)(gl:GL)(e:En)(h:aA)(x:Esc)(K:KT):Sf C gl WZ e h x K:=⟨_,by simp only[WZ,↓wZ,AO.still];rfl⟩
theorem zeH {C gl v0 v1 h x K}:NW C gl gU.body ⟨enter [v0,v1],h,x⟩ K=(GP C gl [(0,v0),(1,v1)] h x K).1:=(GP C gl [(0,v0),(1,v1)] h x K).2
def jK:ACode:=.pr [0,1,7,8] (.seq (rg [bN 9 .lss 8 7] [0,1,7,8,9])
(.seq (.cond 9 .skip
(.exit 0))
(.seq (.block 1 (.seq (rg [mV 10 8,
mV 5 10] [0,1,5,7,8])
(.seq (rg [mV 11 1,
mV 12 0,
mV 13 5,
uO 14 (.idxs 12 13),
cL 15 AM [11,14],
bN 16 .lss 15 (cI 0)] [0,1,7,8,16])
(.cond 16 (.seq (rg [mV 4 cF] [4])
.ret)
.skip))))
(rg [bN 17 .add 8 (cI 1),
mV 8 17] [0,1,7,8]))))
def JV (C:Hd)(gl:GL)(e:En)(h:aA)(x:Esc)(K:KT):Sf C gl jK e h x K:=⟨_,by simp only[jK,↓wZ,AO.still];rfl⟩
theorem zdf {C gl e h x K}:NW C gl jK ⟨e,h,x⟩ K=(JV C gl e h x K).1:=(JV C gl e h x K).2
theorem zgC {C gl e h x K}:NW C gl (.loop jK) ⟨e,h,x⟩ K=GA C gl jK K [(0,gA e 0),(1,gA e 1),(7,gA e 7),(8,gA e 8)] h x:=nB
def qR:ACode:=.pr [] (.seq (rg [mV 4 cT] [4])
.ret)
def KV (C:Hd)(gl:GL)(e:En)(h:aA)(x:Esc)(K:KT):Sf C gl qR e h x K:=⟨_,by simp only[qR,↓wZ,AO.still];rfl⟩
theorem zdg {C gl e h x K}:NW C gl qR ⟨e,h,x⟩ K=(KV C gl e h x K).1:=(KV C gl e h x K).2
def fZ:ACode:=(.seq (rg [mV 4 cF] [0,1])
(.seq (.seq (rg [mV 6 0,
uO 7 (.lens 6),
mV 8 (cI 0)] [0,1,7,8])
(.block 0 (.loop jK)))
qR))
def BT:AFun:=⟨2,[.t 4],fZ,false,false⟩
def kP (C:Hd)(gl:GL)(e:En)(h:aA)(x:Esc)(K:KT):Sf C gl fZ e h x K:=⟨_,by simp only[fZ,↓wZ,AO.still];rfl⟩
theorem zde {C gl v0 v1 h x K}:NW C gl BT.body ⟨enter [v0,v1],h,x⟩ K=(kP C gl [(0,v0),(1,v1)] h x K).1:=(kP C gl [(0,v0),(1,v1)] h x K).2
def uK:ACode:=.pr [0,2,4,10,11] (.seq (.seq (rg [mV 18 10,
mV 19 11,
bN 20 .neq 18 19] [0,2,4,10,11,20])
(.cond 20 .skip
(.exit 0)))
(.block 1 (.seq (rg [mV 21 10,
mV 22 11,
bN 23 .gtr 21 22] [0,2,4,10,11,23])
(.cond 23 (.seq (rg [mV 24 0,
mV 25 2,
mV 26 10,
bN 27 .sub 25 26,
mV 28 2,
mV 29 11,
mV 30 4,
cL 31 YH [24,27,28,29,30]] [0,2,4,10,11])
(rg [mV 32 10,
mV 33 11,
bN 34 .sub 32 33,
mV 10 34] [0,2,4,10,11]))
(.seq (rg [mV 35 0,
mV 36 2,
mV 37 10,
bN 38 .sub 36 37,
mV 39 2,
mV 40 11,
bN 41 .add 39 40,
mV 42 10,
bN 43 .sub 41 42,
mV 44 10,
mV 45 4,
cL 46 YH [35,38,43,44,45]] [0,2,4,10,11])
(rg [mV 47 11,
mV 48 10,
bN 49 .sub 47 48,
mV 11 49] [0,2,4,10,11]))))))
def fW (C:Hd)(gl:GL)(e:En)(h:aA)(x:Esc)(K:KT):Sf C gl uK e h x K:=⟨_,by simp only[uK,↓wZ,AO.still];rfl⟩
theorem zdC {C gl e h x K}:NW C gl uK ⟨e,h,x⟩ K=(fW C gl e h x K).1:=(fW C gl e h x K).2
theorem zgM {C gl e h x K}:NW C gl (.loop uK) ⟨e,h,x⟩ K=GA C gl uK K [(0,gA e 0),(2,gA e 2),(4,gA e 4),(10,gA e 10),(11,gA e 11)] h x:=nB
def BR:ACode:=.pr [0,2,4,10] (rg [mV 50 0,
mV 51 2,
mV 52 10,
bN 53 .sub 51 52,
mV 54 2,
mV 55 10,
mV 56 4,
cL 57 YH [50,53,54,55,56]] [])
def gW (C:Hd)(gl:GL)(e:En)(h:aA)(x:Esc)(K:KT):Sf C gl BR e h x K:=⟨_,by simp only[BR,↓wZ,AO.still];rfl⟩
theorem zdD {C gl e h x K}:NW C gl BR ⟨e,h,x⟩ K=(gW C gl e h x K).1:=(gW C gl e h x K).2
def rZ:ACode:=(.seq (rg [mV 12 2,
mV 13 1,
bN 14 .sub 12 13,
mV 10 14] [0,2,3,4,10])
(.seq (rg [mV 15 3,
mV 16 2,
bN 17 .sub 15 16,
mV 11 17] [0,2,4,10,11])
(.seq (.block 0 (.loop uK))
BR)))
def MT:AFun:=⟨5,[],rZ,true,false⟩
def qP (C:Hd)(gl:GL)(e:En)(h:aA)(x:Esc)(K:KT):Sf C gl rZ e h x K:=⟨_,by simp only[rZ,↓wZ,AO.still];rfl⟩
theorem zdB {C gl v0 v1 v2 v3 v4 h x K}:NW C gl MT.body ⟨enter [v0,v1,v2,v3,v4],h,x⟩ K=(qP C gl [(0,v0),(1,v1),(2,v2),(3,v3),(4,v4)] h x K).1:=(qP C gl [(0,v0),(1,v1),(2,v2),(3,v3),(4,v4)] h x K).2
def HY:ACode:=(.seq (rg [mV 4 (cS []),
mV 5 cF] [0,1])
(.seq (.seq (rg [mV 6 0,
mV 7 1,
cL 8 YL [6,7],
uO 9 (.un .not 8)] [0,1,9])
(.cond 9 (.seq (rg [mV 10 0,
mV 4 10,
mV 5 cF] [4,5])
.ret)
.skip))
(.seq (rg [mV 11 0,
mV 12 0,
uO 13 (.lens 12),
mV 14 1,
uO 15 (.lens 14),
bN 16 .sub 13 15,
uO 17 (.slstr 11 none (some 16)),
mV 4 17,
mV 5 cT] [4,5])
.ret)))
def ZS:AFun:=⟨2,[.t 4,.t 5],HY,false,false⟩
def oL (C:Hd)(gl:GL)(e:En)(h:aA)(x:Esc)(K:KT):Sf C gl HY e h x K:=⟨_,by simp only[HY,↓wZ,AO.still];rfl⟩
theorem zct {C gl v0 v1 h x K}:NW C gl ZS.body ⟨enter [v0,v1],h,x⟩ K=(oL C gl [(0,v0),(1,v1)] h x K).1:=(oL C gl [(0,v0),(1,v1)] h x K).2
def KK:ACode:=.pr [0,1,6,7] (.seq (.seq (rg [mV 22 7,
mV 23 1,
bN 24 .sub 23 (cI 1),
bN 25 .lss 22 24] [0,1,6,7,25])
(.cond 25 .skip
(.exit 0)))
(.seq (.block 1 (.seq (rg [mV 29 0,
cL 30 eQ [29],
mV 28 30,
eX 31 28 0,
eX 32 28 1,
mV 8 31,
mV 9 32] [0,1,6,7,9])
(.seq (rg [mV 33 6,
mV 34 7,
mV 35 0,
mV 36 9,
uO 37 (.slstr 35 none (some 36)),
iA 38 none 33 34,
wO (.store none 38 37)] [0,1,6,7,9])
(rg [mV 39 0,
mV 40 9,
uO 41 (.slstr 39 (some 40) none),
mV 0 41] [0,1,6,7]))))
(rg [mV 26 7,
bN 27 .add 26 (cI 1),
mV 7 27] [0,1,6,7])))
def WW (C:Hd)(gl:GL)(e:En)(h:aA)(x:Esc)(K:KT):Sf C gl KK e h x K:=⟨_,by simp only[KK,↓wZ,AO.still];rfl⟩
theorem zeJ {C gl e h x K}:NW C gl KK ⟨e,h,x⟩ K=(WW C gl e h x K).1:=(WW C gl e h x K).2
theorem zhd {C gl e h x K}:NW C gl (.loop KK) ⟨e,h,x⟩ K=GA C gl KK K [(0,gA e 0),(1,gA e 1),(6,gA e 6),(7,gA e 7)] h x:=nB
def YR:ACode:=.pr [6] (.seq (rg [mV 49 6,
mV 4 49] [4])
.ret)
def XW (C:Hd)(gl:GL)(e:En)(h:aA)(x:Esc)(K:KT):Sf C gl YR e h x K:=⟨_,by simp only[YR,↓wZ,AO.still];rfl⟩
theorem zeK {C gl e h x K}:NW C gl YR ⟨e,h,x⟩ K=(XW C gl e h x K).1:=(XW C gl e h x K).2
def ZR:ACode:=.pr [0,1,6] (.seq (.seq (rg [mV 42 1,
bN 43 .gtr 42 (cI 0)] [0,1,6,43])
(.cond 43 (rg [mV 44 6,
mV 45 1,
bN 46 .sub 45 (cI 1),
mV 47 0,
iA 48 none 44 46,
wO (.store none 48 47)] [6])
.skip))
YR)
def YW (C:Hd)(gl:GL)(e:En)(h:aA)(x:Esc)(K:KT):Sf C gl ZR e h x K:=⟨_,by simp only[ZR,↓wZ,AO.still];rfl⟩
theorem zeL {C gl e h x K}:NW C gl ZR ⟨e,h,x⟩ K=(YW C gl e h x K).1:=(YW C gl e h x K).2
def aS:ACode:=.pr [0,1] (.seq (rg [mV 20 1,
uO 21 (.mksl none (.str []) 20 20),
mV 6 21] [0,1,6])
(.seq (.seq (rg [mV 7 (cI 0)] [0,1,6,7])
(.block 0 (.loop KK)))
ZR))
def ZW (C:Hd)(gl:GL)(e:En)(h:aA)(x:Esc)(K:KT):Sf C gl aS e h x K:=⟨_,by simp only[aS,↓wZ,AO.still];rfl⟩
theorem zeM {C gl e h x K}:NW C gl aS ⟨e,h,x⟩ K=(ZW C gl e h x K).1:=(ZW C gl e h x K).2
def XZ:ACode:=(.seq (rg [mV 4 (.c (.p (.sl none [])))] [0,1])
(.seq (rg [mV 10 0,
cL 11 zfr [10],
mV 5 11] [0,1,5])
(.seq (.seq (rg [mV 12 1,
bN 13 .lss 12 (cI 0),
mV 14 13,
gD 15 14 false (.mv 1),
gD 16 14 false (.mv 5),
gD 17 14 false (.bin .gtr 15 16),
uO 18 (.pick 14 cT 17)] [0,1,5,18])
(.cond 18 (rg [mV 19 5,
mV 1 19] [0,1])
.skip))
aS)))
def iU:AFun:=⟨2,[.t 4],XZ,false,false⟩
def VW (C:Hd)(gl:GL)(e:En)(h:aA)(x:Esc)(K:KT):Sf C gl XZ e h x K:=⟨_,by simp only[XZ,↓wZ,AO.still];rfl⟩
theorem zeI {C gl v0 v1 h x K}:NW C gl iU.body ⟨enter [v0,v1],h,x⟩ K=(VW C gl [(0,v0),(1,v1)] h x K).1:=(VW C gl [(0,v0),(1,v1)] h x K).2
def TZ:ACode:=(.seq (rg [mV 4 (cI 0)] [0,1])
(.seq (rg [mV 5 0,
mV 6 1,
cL 7 ZL [5,6],
mV 4 7] [4])
.ret))
def dU:AFun:=⟨2,[.t 4],TZ,false,false⟩
def DP (C:Hd)(gl:GL)(e:En)(h:aA)(x:Esc)(K:KT):Sf C gl TZ e h x K:=⟨_,by simp only[TZ,↓wZ,AO.still];rfl⟩
theorem zeE {C gl v0 v1 h x K}:NW C gl dU.body ⟨enter [v0,v1],h,x⟩ K=(DP C gl [(0,v0),(1,v1)] h x K).1:=(DP C gl [(0,v0),(1,v1)] h x K).2
def MY:ACode:=(.seq (rg [mV 4 (cS [])] [0,1])
(.seq (.seq (rg [mV 5 0,
mV 6 1,
cL 7 XL [5,6]] [0,1,7])
(.cond 7 (.seq (rg [mV 8 0,
mV 9 1,
uO 10 (.lens 9),
uO 11 (.slstr 8 (some 10) none),
mV 4 11] [4])
.ret)
.skip))
(.seq (rg [mV 12 0,
mV 4 12] [4])
.ret)))
def gT:AFun:=⟨2,[.t 4],MY,false,false⟩
def sL (C:Hd)(gl:GL)(e:En)(h:aA)(x:Esc)(K:KT):Sf C gl MY e h x K:=⟨_,by simp only[MY,↓wZ,AO.still];rfl⟩
theorem zc1 {C gl v0 v1 h x K}:NW C gl gT.body ⟨enter [v0,v1],h,x⟩ K=(sL C gl [(0,v0),(1,v1)] h x K).1:=(sL C gl [(0,v0),(1,v1)] h x K).2
def UZ:ACode:=(.seq (rg [mV 4 (cI 0)] [0,1])
(.seq (rg [mV 5 0,
mV 6 1,
cL 7 KG [5,6],
mV 4 7] [4])
.ret))
def eU:AFun:=⟨2,[.t 4],UZ,false,false⟩
def EP (C:Hd)(gl:GL)(e:En)(h:aA)(x:Esc)(K:KT):Sf C gl UZ e h x K:=⟨_,by simp only[UZ,↓wZ,AO.still];rfl⟩
theorem zeF {C gl v0 v1 h x K}:NW C gl eU.body ⟨enter [v0,v1],h,x⟩ K=(EP C gl [(0,v0),(1,v1)] h x K).1:=(EP C gl [(0,v0),(1,v1)] h x K).2
def zK:ACode:=.pr [0,1,2,3,10] (.seq (.seq (rg [mV 11 10,
mV 12 3,
bN 13 .lss 11 12] [0,1,2,3,10,13])
(.cond 13 .skip
(.exit 0)))
(.seq (.block 1 (dr [dF (mV 16 0) [0],
dF (mV 17 1) [1],
dF (mV 18 10) [10],
dF (bN 19 .add 17 18) [17,18],
dF (mV 20 0) [0],
dF (mV 21 2) [2],
dF (mV 22 10) [10],
dF (bN 23 .add 21 22) [21,22],
dF (mV 24 0) [0],
dF (mV 25 2) [2],
dF (mV 26 10) [10],
dF (bN 27 .add 25 26) [25,26],
dF (iA 28 (some 8) 24 27) [24,27],
dF (lD 29 (some 8) 28) [28],
dF (mV 30 0) [0],
dF (mV 31 1) [1],
dF (mV 32 10) [10],
dF (bN 33 .add 31 32) [31,32],
dF (iA 34 (some 8) 30 33) [30,33],
dF (lD 35 (some 8) 34) [34],
dF (iA 36 (some 8) 16 19) [16,19],
dT (wO (.store (some 8) 36 29)) [36,29],
dF (iA 37 (some 8) 20 23) [20,23],
dT (wO (.store (some 8) 37 35)) [37,35]] [0,1,2,3,10]))
(rg [mV 14 10,
bN 15 .add 14 (cI 1),
mV 10 15] [0,1,2,3,10])))
def oW (C:Hd)(gl:GL)(e:En)(h:aA)(x:Esc)(K:KT):Sf C gl zK e h x K:=⟨_,by simp only[zK,↓wZ,AO.still];rfl⟩
theorem zdM {C gl e h x K}:NW C gl zK ⟨e,h,x⟩ K=(oW C gl e h x K).1:=(oW C gl e h x K).2
theorem zgQ {C gl e h x K}:NW C gl (.loop zK) ⟨e,h,x⟩ K=GA C gl zK K [(0,gA e 0),(1,gA e 1),(2,gA e 2),(3,gA e 3),(10,gA e 10)] h x:=nB
def tZ:ACode:=(.seq (rg [mV 10 (cI 0)] [0,1,2,3,10])
(.block 0 (.loop zK)))
def OT:AFun:=⟨5,[],tZ,true,false⟩
def rP (C:Hd)(gl:GL)(e:En)(h:aA)(x:Esc)(K:KT):Sf C gl tZ e h x K:=⟨_,by simp only[tZ,↓wZ,AO.still];rfl⟩
theorem zdL {C gl v0 v1 v2 v3 v4 h x K}:NW C gl OT.body ⟨enter [v0,v1,v2,v3,v4],h,x⟩ K=(rP C gl [(0,v0),(1,v1),(2,v2),(3,v3),(4,v4)] h x K).1:=(rP C gl [(0,v0),(1,v1),(2,v2),(3,v3),(4,v4)] h x K).2
def JY:ACode:=(.seq (rg [mV 4 cF] [0,1])
(.seq (rg [mV 5 0,
uO 6 (.lens 5),
mV 7 1,
uO 8 (.lens 7),
bN 9 .geq 6 8,
mV 10 9,
gD 11 10 true (.mv 0),
gD 12 10 true (.mv 0),
gD 13 10 true (.lens 12),
gD 14 10 true (.mv 1),
gD 15 10 true (.lens 14),
gD 16 10 true (.bin .sub 13 15),
gD 17 10 true (.slstr 11 (some 16) none),
gD 18 10 true (.mv 1),
gD 19 10 true (.bin .eql 17 18),
uO 20 (.pick 10 19 cF),
mV 4 20] [4])
.ret))
def bT:AFun:=⟨2,[.t 4],JY,false,false⟩
def qL (C:Hd)(gl:GL)(e:En)(h:aA)(x:Esc)(K:KT):Sf C gl JY e h x K:=⟨_,by simp only[JY,↓wZ,AO.still];rfl⟩
theorem zcv {C gl v0 v1 h x K}:NW C gl bT.body ⟨enter [v0,v1],h,x⟩ K=(qL C gl [(0,v0),(1,v1)] h x K).1:=(qL C gl [(0,v0),(1,v1)] h x K).2
def z0b:ACode:=(.seq (rg [mV 2 (.c (.p (.int .i32 0))),
mV 3 (cI 0)] [0])
(.seq (.seq (rg [mV 4 0,
bN 5 .neq 4 (cS []),
mV 6 5,
gD 7 6 true (.mv 0),
gD 8 6 true (.idxs 7 (cI 0)),
gD 9 6 true (.bin .lss 8 (.c (.p (.int .u8 128)))),
uO 10 (.pick 6 9 cF)] [0,10])
(.cond 10 (.seq (rg [mV 11 0,
uO 12 (.idxs 11 (cI 0)),
uO 13 (.conv (.i .i32) 12),
mV 2 13,
mV 3 (cI 1)] [2,3])
.ret)
(rg [mV 15 0,
cL 16 fQ [15],
mV 14 16,
eX 17 14 0,
eX 18 14 1,
mV 2 17,
mV 3 18] [2,3])))
.ret))
def kU:AFun:=⟨1,[.t 2,.t 3],z0b,false,false⟩
def gX (C:Hd)(gl:GL)(e:En)(h:aA)(x:Esc)(K:KT):Sf C gl z0b e h x K:=⟨_,by simp only[z0b,↓wZ,AO.still];rfl⟩
theorem zeW {C gl v0 h x K}:NW C gl kU.body ⟨enter [v0],h,x⟩ K=(gX C gl [(0,v0)] h x K).1:=(gX C gl [(0,v0)] h x K).2
def aR:ACode:=.pr [0,1,5,6,7,8,9,10] (.seq (.seq (rg [mV 78 0,
mV 79 8,
bN 80 .add 79 (cI 1),
uO 81 (.idxs 78 80),
mV 82 7,
bN 83 .eql 81 82,
mV 84 83,
gD 85 84 true (.mv 0),
gD 86 84 true (.mv 8),
gD 87 84 true (.mv 8),
gD 88 84 true (.mv 5),
gD 89 84 true (.bin .add 87 88),
gD 90 84 true (.slstr 85 (some 86) (some 89)),
gD 91 84 true (.mv 1),
gD 92 84 true (.bin .eql 90 91),
uO 93 (.pick 84 92 cF)] [0,1,5,6,7,8,9,10,93])
(.cond 93 (.seq (rg [mV 94 8,
mV 4 94] [4])
.ret)
.skip))
(.seq (rg [mV 95 8,
bN 96 .add 95 (cI 1),
mV 8 96] [0,1,5,6,7,8,9,10])
(.seq (rg [mV 97 10,
bN 98 .add 97 (cI 1),
mV 10 98] [0,1,5,6,7,8,9,10])
(.seq (rg [mV 99 5,
lD 100 none (.g 0),
bN 101 .leq 99 100,
mV 102 101,
gD 103 102 true (.mv 10),
gD 104 102 true (.mv 8),
gD 105 102 true (.call YP [104]),
gD 106 102 true (.bin .gtr 103 105),
uO 107 (.pick 102 106 cF)] [0,1,5,6,7,8,9,10,107])
(.cond 107 (.seq (rg [mV 108 0,
mV 109 8,
uO 110 (.slstr 108 (some 109) none),
mV 111 1,
cL 112 z2S [110,111],
mV 12 112] [8,12])
(.seq (.seq (rg [mV 113 12,
bN 114 .geq 113 (cI 0)] [8,12,114])
(.cond 114 (.seq (rg [mV 115 12,
mV 116 8,
bN 117 .add 115 116,
mV 4 117] [4])
.ret)
.skip))
(.seq (rg [mV 4 (cI (-1))] [4])
.ret)))
(.seq (rg [mV 118 5,
lD 119 none (.g 0),
bN 120 .gtr 118 119,
mV 121 120,
gD 122 121 true (.mv 10),
gD 123 121 true (.mv 8),
gD 124 121 true (.bin .shr 123 (.c (.p (.int .u64 4)))),
gD 125 121 true (.bin .add (cI 4) 124),
gD 126 121 true (.bin .geq 122 125),
uO 127 (.pick 121 126 cF),
mV 128 127,
gD 129 128 true (.mv 8),
gD 130 128 true (.mv 9),
gD 131 128 true (.bin .lss 129 130),
uO 132 (.pick 128 131 cF)] [0,1,5,6,7,8,9,10,132])
(.cond 132 (.seq (rg [mV 133 0,
mV 134 8,
uO 135 (.slstr 133 (some 134) none),
mV 136 1,
cL 137 ZP [135,136],
mV 13 137] [8,13])
(.seq (.seq (rg [mV 138 13,
bN 139 .lss 138 (cI 0)] [8,13,139])
(.cond 139 (.seq (rg [mV 4 (cI (-1))] [4])
.ret)
.skip))
(.seq (rg [mV 140 8,
mV 141 13,
bN 142 .add 140 141,
mV 4 142] [4])
.ret)))
.skip)))))))
def qV (C:Hd)(gl:GL)(e:En)(h:aA)(x:Esc)(K:KT):Sf C gl aR e h x K:=⟨_,by simp only[aR,↓wZ,AO.still];rfl⟩
theorem zcx {C gl e h x K}:NW C gl aR ⟨e,h,x⟩ K=(qV C gl e h x K).1:=(qV C gl e h x K).2
def ZJ:ACode:=.pr [0,1,5,6,7,8,9,10] (.seq (.seq (rg [mV 57 8,
mV 58 9,
bN 59 .lss 57 58] [0,1,5,6,7,8,9,10,59])
(.cond 59 .skip
(.exit 1)))
(.block 2 (.seq (.seq (rg [mV 60 0,
mV 61 8,
uO 62 (.idxs 60 61),
mV 63 6,
bN 64 .neq 62 63] [0,1,5,6,7,8,9,10,64])
(.cond 64 (.seq (rg [mV 65 0,
mV 66 8,
bN 67 .add 66 (cI 1),
mV 68 9,
uO 69 (.slstr 65 (some 67) (some 68)),
mV 70 6,
cL 71 KG [69,70],
mV 11 71] [0,1,5,6,7,8,9,10,11])
(.seq (.seq (rg [mV 72 11,
bN 73 .lss 72 (cI 0)] [0,1,5,6,7,8,9,10,11,73])
(.cond 73 (.seq (rg [mV 4 (cI (-1))] [4])
.ret)
.skip))
(rg [mV 74 8,
mV 75 11,
bN 76 .add 75 (cI 1),
bN 77 .add 74 76,
mV 8 77] [0,1,5,6,7,8,9,10])))
.skip))
aR)))
def rV (C:Hd)(gl:GL)(e:En)(h:aA)(x:Esc)(K:KT):Sf C gl ZJ e h x K:=⟨_,by simp only[ZJ,↓wZ,AO.still];rfl⟩
theorem zcy {C gl e h x K}:NW C gl ZJ ⟨e,h,x⟩ K=(rV C gl e h x K).1:=(rV C gl e h x K).2
theorem zg4 {C gl e h x K}:NW C gl (.loop ZJ) ⟨e,h,x⟩ K=GA C gl ZJ K [(0,gA e 0),(1,gA e 1),(5,gA e 5),(6,gA e 6),(7,gA e 7),(8,gA e 8),(9,gA e 9),(10,gA e 10)] h x:=nB
def bR:ACode:=.pr [] (.seq (rg [mV 4 (cI (-1))] [4])
.ret)
def sV (C:Hd)(gl:GL)(e:En)(h:aA)(x:Esc)(K:KT):Sf C gl bR e h x K:=⟨_,by simp only[bR,↓wZ,AO.still];rfl⟩
theorem zcz {C gl e h x K}:NW C gl bR ⟨e,h,x⟩ K=(sV C gl e h x K).1:=(sV C gl e h x K).2
def KY:ACode:=(.seq (rg [mV 4 (cI 0)] [0,1])
(.seq (rg [mV 14 1,
uO 15 (.lens 14),
mV 5 15] [0,1,5])
(.seq (.block 0 (.seq (rg [mV 17 5,
bN 18 .eql 17 (cI 0),
mV 19 18,
gD 20 19 false (.mv 1),
gD 21 19 false (.mv 0),
gD 22 19 false (.bin .eql 20 21),
uO 23 (.pick 19 cT 22),
mV 16 23] [0,1,5,16])
(.cond 16 (.seq (rg [mV 4 (cI 0)] [4])
.ret)
(.seq (rg [mV 25 5,
bN 26 .eql 25 (cI 1),
mV 24 26] [0,1,5,24])
(.cond 24 (.seq (rg [mV 27 0,
mV 28 1,
uO 29 (.idxs 28 (cI 0)),
cL 30 KG [27,29],
mV 4 30] [4])
.ret)
(.seq (rg [mV 32 5,
mV 33 0,
uO 34 (.lens 33),
bN 35 .geq 32 34,
mV 31 35] [0,1,5,31])
(.cond 31 (.seq (rg [mV 4 (cI (-1))] [4])
.ret)
(.seq (rg [mV 37 5,
lD 38 none (.g 0),
bN 39 .leq 37 38,
mV 40 39,
gD 41 40 true (.mv 0),
gD 42 40 true (.lens 41),
gD 43 40 true (.bin .leq 42 (cI 64)),
uO 44 (.pick 40 43 cF),
mV 36 44] [0,1,5,36])
(.cond 36 (.seq (rg [mV 45 0,
mV 46 1,
cL 47 z2S [45,46],
mV 4 47] [4])
.ret)
.skip)))))))))
(.seq (rg [mV 48 1,
uO 49 (.idxs 48 (cI 0)),
mV 6 49] [0,1,5,6])
(.seq (rg [mV 50 1,
uO 51 (.idxs 50 (cI 1)),
mV 7 51] [0,1,5,6,7])
(.seq (rg [mV 8 (cI 0)] [0,1,5,6,7,8])
(.seq (rg [mV 52 0,
uO 53 (.lens 52),
mV 54 5,
bN 55 .sub 53 54,
bN 56 .add 55 (cI 1),
mV 9 56] [0,1,5,6,7,8,9])
(.seq (rg [mV 10 (cI 0)] [0,1,5,6,7,8,9,10])
(.seq (.block 1 (.loop ZJ))
bR)))))))))
def eT:AFun:=⟨2,[.t 4],KY,false,false⟩
def SO (C:Hd)(gl:GL)(e:En)(h:aA)(x:Esc)(K:KT):Sf C gl KY e h x K:=⟨_,by simp only[KY,↓wZ,AO.still];rfl⟩
theorem zcw {C gl v0 v1 h x K}:NW C gl eT.body ⟨enter [v0,v1],h,x⟩ K=(SO C gl [(0,v0),(1,v1)] h x K).1:=(SO C gl [(0,v0),(1,v1)] h x K).2
def IY:ACode:=(.seq (rg [mV 4 cF] [0,1])
(.seq (rg [mV 5 0,
uO 6 (.lens 5),
mV 7 1,
uO 8 (.lens 7),
bN 9 .geq 6 8,
mV 10 9,
gD 11 10 true (.mv 0),
gD 12 10 true (.mv 1),
gD 13 10 true (.lens 12),
gD 14 10 true (.slstr 11 none (some 13)),
gD 15 10 true (.mv 1),
gD 16 10 true (.bin .eql 14 15),
uO 17 (.pick 10 16 cF),
mV 4 17] [4])
.ret))
def aT:AFun:=⟨2,[.t 4],IY,false,false⟩
def pL (C:Hd)(gl:GL)(e:En)(h:aA)(x:Esc)(K:KT):Sf C gl IY e h x K:=⟨_,by simp only[IY,↓wZ,AO.still];rfl⟩
theorem zcu {C gl v0 v1 h x K}:NW C gl aT.body ⟨enter [v0,v1],h,x⟩ K=(pL C gl [(0,v0),(1,v1)] h x K).1:=(pL C gl [(0,v0),(1,v1)] h x K).2
def LY:ACode:=(.seq (rg [mV 4 (cI 0)] [0,1])
(.seq (rg [mV 5 0,
mV 6 1,
cL 7 YF [5,6],
mV 4 7] [4])
.ret))
def fT:AFun:=⟨2,[.t 4],LY,false,false⟩
def rL (C:Hd)(gl:GL)(e:En)(h:aA)(x:Esc)(K:KT):Sf C gl LY e h x K:=⟨_,by simp only[LY,↓wZ,AO.still];rfl⟩
theorem zc0 {C gl v0 v1 h x K}:NW C gl fT.body ⟨enter [v0,v1],h,x⟩ K=(rL C gl [(0,v0),(1,v1)] h x K).1:=(rL C gl [(0,v0),(1,v1)] h x K).2
def z0c:ACode:=(.seq (rg [mV 2 (.c (.p (.int .i32 0))),
mV 3 (cI 0)] [0])
(.seq (rg [mV 13 0,
uO 14 (.lens 13),
mV 4 14] [0,4])
(.seq (.seq (rg [mV 15 4,
bN 16 .lss 15 (cI 1)] [0,4,16])
(.cond 16 (.seq (rg [mV 2 (.c (.p (.int .i32 65533))),
mV 3 (cI 0)] [2,3])
.ret)
.skip))
(.seq (rg [mV 17 0,
uO 18 (.idxs 17 (cI 0)),
mV 5 18] [0,4,5])
(.seq (rg [mV 19 5,
uO 20 (.iaddra 256 none (.g 4) 19),
lD 21 none 20,
mV 6 21] [0,4,5,6])
(.seq (.seq (rg [mV 22 6,
bN 23 .geq 22 (.c (.p (.int .u8 240)))] [0,4,5,6,23])
(.cond 23 (.seq (rg [mV 24 6,
uO 25 (.conv (.i .i32) 24),
bN 26 .shl 25 (.c (.p (.int .u64 31))),
bN 27 .shr 26 (.c (.p (.int .u64 31))),
mV 7 27] [0,7])
(.seq (rg [mV 28 0,
uO 29 (.idxs 28 (cI 0)),
uO 30 (.conv (.i .i32) 29),
mV 31 7,
bN 32 .andNot 30 31,
mV 33 7,
bN 34 .and (.c (.p (.int .i32 65533))) 33,
bN 35 .or 32 34,
mV 2 35,
mV 3 (cI 1)] [2,3])
.ret))
.skip))
(.seq (rg [mV 36 6,
bN 37 .and 36 (.c (.p (.int .u8 7))),
uO 38 (.conv (.i .i64) 37),
mV 8 38] [0,4,5,6,8])
(.seq (rg [mV 39 6,
bN 40 .shr 39 (.c (.p (.int .u64 4))),
uO 41 (.iaddra 16 (some 2) (.g 5) 40),
lD 42 (some 2) 41,
uO 9 (.alloc [.p (.int .u8 0),.p (.int .u8 0)]),
wO (.store (some 2) 9 42)] [0,4,5,8,9])
(.seq (.seq (rg [mV 43 4,
mV 44 8,
bN 45 .lss 43 44] [0,5,8,9,45])
(.cond 45 (.seq (rg [mV 2 (.c (.p (.int .i32 65533))),
mV 3 (cI 1)] [2,3])
.ret)
.skip))
(.seq (rg [mV 46 0,
uO 47 (.idxs 46 (cI 1)),
mV 10 47] [0,5,8,9,10])
(.seq (.seq (rg [mV 48 10,
fA 49 0 none 9,
lD 50 none 49,
bN 51 .lss 48 50,
mV 52 51,
gD 53 52 false (.faddr 1 none 9),
gD 54 52 false (.load none 53),
gD 55 52 false (.mv 10),
gD 56 52 false (.bin .lss 54 55),
uO 57 (.pick 52 cT 56)] [0,5,8,10,57])
(.cond 57 (.seq (rg [mV 2 (.c (.p (.int .i32 65533))),
mV 3 (cI 1)] [2,3])
.ret)
.skip))
(.seq (.seq (rg [mV 58 8,
bN 59 .leq 58 (cI 2)] [0,5,8,10,59])
(.cond 59 (.seq (rg [mV 60 5,
bN 61 .and 60 (.c (.p (.int .u8 31))),
uO 62 (.conv (.i .i32) 61),
bN 63 .shl 62 (.c (.p (.int .u64 6))),
mV 64 10,
bN 65 .and 64 (.c (.p (.int .u8 63))),
uO 66 (.conv (.i .i32) 65),
bN 67 .or 63 66,
mV 2 67,
mV 3 (cI 2)] [2,3])
.ret)
.skip))
(.seq (rg [mV 68 0,
uO 69 (.idxs 68 (cI 2)),
mV 11 69] [0,5,8,10,11])
(.seq (.seq (rg [mV 70 11,
bN 71 .lss 70 (.c (.p (.int .u8 128))),
mV 72 71,
gD 73 72 false (.mv 11),
gD 74 72 false (.bin .lss (.c (.p (.int .u8 191))) 73),
uO 75 (.pick 72 cT 74)] [0,5,8,10,11,75])
(.cond 75 (.seq (rg [mV 2 (.c (.p (.int .i32 65533))),
mV 3 (cI 1)] [2,3])
.ret)
.skip))
(.seq (.seq (rg [mV 76 8,
bN 77 .leq 76 (cI 3)] [0,5,10,11,77])
(.cond 77 (.seq (rg [mV 78 5,
bN 79 .and 78 (.c (.p (.int .u8 15))),
uO 80 (.conv (.i .i32) 79),
bN 81 .shl 80 (.c (.p (.int .u64 12))),
mV 82 10,
bN 83 .and 82 (.c (.p (.int .u8 63))),
uO 84 (.conv (.i .i32) 83),
bN 85 .shl 84 (.c (.p (.int .u64 6))),
bN 86 .or 81 85,
mV 87 11,
bN 88 .and 87 (.c (.p (.int .u8 63))),
uO 89 (.conv (.i .i32) 88),
bN 90 .or 86 89,
mV 2 90,
mV 3 (cI 3)] [2,3])
.ret)
.skip))
(.seq (rg [mV 91 0,
uO 92 (.idxs 91 (cI 3)),
mV 12 92] [5,10,11,12])
(.seq (.seq (rg [mV 93 12,
bN 94 .lss 93 (.c (.p (.int .u8 128))),
mV 95 94,
gD 96 95 false (.mv 12),
gD 97 95 false (.bin .lss (.c (.p (.int .u8 191))) 96),
uO 98 (.pick 95 cT 97)] [5,10,11,12,98])
(.cond 98 (.seq (rg [mV 2 (.c (.p (.int .i32 65533))),
mV 3 (cI 1)] [2,3])
.ret)
.skip))
(.seq (rg [mV 99 5,
bN 100 .and 99 (.c (.p (.int .u8 7))),
uO 101 (.conv (.i .i32) 100),
bN 102 .shl 101 (.c (.p (.int .u64 18))),
mV 103 10,
bN 104 .and 103 (.c (.p (.int .u8 63))),
uO 105 (.conv (.i .i32) 104),
bN 106 .shl 105 (.c (.p (.int .u64 12))),
bN 107 .or 102 106,
mV 108 11,
bN 109 .and 108 (.c (.p (.int .u8 63))),
uO 110 (.conv (.i .i32) 109),
bN 111 .shl 110 (.c (.p (.int .u64 6))),
bN 112 .or 107 111,
mV 113 12,
bN 114 .and 113 (.c (.p (.int .u8 63))),
uO 115 (.conv (.i .i32) 114),
bN 116 .or 112 115,
mV 2 116,
mV 3 (cI 4)] [2,3])
.ret))))))))))))))))))
def lU:AFun:=⟨1,[.t 2,.t 3],z0c,false,false⟩
def iX (C:Hd)(gl:GL)(e:En)(h:aA)(x:Esc)(K:KT):Sf C gl z0c e h x K:=⟨_,by simp only[z0c,↓wZ,AO.still];rfl⟩
theorem zeX {C gl v0 h x K}:NW C gl lU.body ⟨enter [v0],h,x⟩ K=(iX C gl [(0,v0)] h x K).1:=(iX C gl [(0,v0)] h x K).2
def EY:ACode:=(.seq (rg [mV 2 (cI 0)] [0])
(.seq (rg [mV 3 0,
bN 4 .add 3 (cI 16),
bN 5 .quo 4 (cI 8),
mV 2 5] [2])
.ret))
def WS:AFun:=⟨1,[.t 2],EY,false,false⟩
def aV (C:Hd)(gl:GL)(e:En)(h:aA)(x:Esc)(K:KT):Sf C gl EY e h x K:=⟨_,by simp only[EY,↓wZ,AO.still];rfl⟩
theorem zcg {C gl v0 h x K}:NW C gl WS.body ⟨enter [v0],h,x⟩ K=(aV C gl [(0,v0)] h x K).1:=(aV C gl [(0,v0)] h x K).2
def VJ:ACode:=.pr [0,1,5,6,7,8,9] (.seq (.seq (rg [mV 18 9,
mV 19 7,
bN 20 .lss 18 19] [0,1,5,6,7,8,9,20])
(.cond 20 .skip
(.exit 0)))
(.seq (.block 1 (rg [mV 23 8,
bN 24 .mul 23 (.c (.p (.int .u32 16777619))),
mV 25 0,
mV 26 9,
uO 27 (.idxs 25 26),
uO 28 (.conv (.i .u32) 27),
bN 29 .add 24 28,
mV 8 29] [0,1,5,6,7,8,9]))
(rg [mV 21 9,
bN 22 .add 21 (cI 1),
mV 9 22] [0,1,5,6,7,8,9])))
def cV (C:Hd)(gl:GL)(e:En)(h:aA)(x:Esc)(K:KT):Sf C gl VJ e h x K:=⟨_,by simp only[VJ,↓wZ,AO.still];rfl⟩
theorem zci {C gl e h x K}:NW C gl VJ ⟨e,h,x⟩ K=(cV C gl e h x K).1:=(cV C gl e h x K).2
theorem zg0 {C gl e h x K}:NW C gl (.loop VJ) ⟨e,h,x⟩ K=GA C gl VJ K [(0,gA e 0),(1,gA e 1),(5,gA e 5),(6,gA e 6),(7,gA e 7),(8,gA e 8),(9,gA e 9)] h x:=nB
def WJ:ACode:=.pr [0,1,5,6,7,8,10] (.seq (.seq (rg [mV 41 10,
mV 42 0,
uO 43 (.lens 42),
bN 44 .lss 41 43] [0,1,5,6,7,8,10,44])
(.cond 44 .skip
(.exit 2)))
(.block 3 (.seq (rg [mV 45 8,
bN 46 .mul 45 (.c (.p (.int .u32 16777619))),
mV 8 46] [0,1,5,6,7,8,10])
(.seq (rg [mV 47 8,
mV 48 0,
mV 49 10,
uO 50 (.idxs 48 49),
uO 51 (.conv (.i .u32) 50),
bN 52 .add 47 51,
mV 8 52] [0,1,5,6,7,8,10])
(.seq (rg [mV 53 8,
mV 54 6,
mV 55 0,
mV 56 10,
mV 57 7,
bN 58 .sub 56 57,
uO 59 (.idxs 55 58),
uO 60 (.conv (.i .u32) 59),
bN 61 .mul 54 60,
bN 62 .sub 53 61,
mV 8 62] [0,1,5,6,7,8,10])
(.seq (rg [mV 63 10,
bN 64 .add 63 (cI 1),
mV 10 64] [0,1,5,6,7,8,10])
(.seq (rg [mV 65 8,
mV 66 5,
bN 67 .eql 65 66,
mV 68 67,
gD 69 68 true (.mv 0),
gD 70 68 true (.mv 10),
gD 71 68 true (.mv 7),
gD 72 68 true (.bin .sub 70 71),
gD 73 68 true (.mv 10),
gD 74 68 true (.slstr 69 (some 72) (some 73)),
gD 75 68 true (.mv 1),
gD 76 68 true (.bin .eql 74 75),
uO 77 (.pick 68 76 cF)] [0,1,5,6,7,8,10,77])
(.cond 77 (.seq (rg [mV 78 10,
mV 79 7,
bN 80 .sub 78 79,
mV 4 80] [4])
.ret)
.skip))))))))
def dV (C:Hd)(gl:GL)(e:En)(h:aA)(x:Esc)(K:KT):Sf C gl WJ e h x K:=⟨_,by simp only[WJ,↓wZ,AO.still];rfl⟩
theorem zcj {C gl e h x K}:NW C gl WJ ⟨e,h,x⟩ K=(dV C gl e h x K).1:=(dV C gl e h x K).2
theorem zg1 {C gl e h x K}:NW C gl (.loop WJ) ⟨e,h,x⟩ K=GA C gl WJ K [(0,gA e 0),(1,gA e 1),(5,gA e 5),(6,gA e 6),(7,gA e 7),(8,gA e 8),(10,gA e 10)] h x:=nB
def UQ:ACode:=.pr [] (.seq (rg [mV 4 (cI (-1))] [4])
.ret)
def eV (C:Hd)(gl:GL)(e:En)(h:aA)(x:Esc)(K:KT):Sf C gl UQ e h x K:=⟨_,by simp only[UQ,↓wZ,AO.still];rfl⟩
theorem zck {C gl e h x K}:NW C gl UQ ⟨e,h,x⟩ K=(eV C gl e h x K).1:=(eV C gl e h x K).2
def VQ:ACode:=.pr [0,1,5,6,7,8] (.seq (.seq (rg [mV 30 8,
mV 31 5,
bN 32 .eql 30 31,
mV 33 32,
gD 34 33 true (.mv 0),
gD 35 33 true (.mv 7),
gD 36 33 true (.slstr 34 none (some 35)),
gD 37 33 true (.mv 1),
gD 38 33 true (.bin .eql 36 37),
uO 39 (.pick 33 38 cF)] [0,1,5,6,7,8,39])
(.cond 39 (.seq (rg [mV 4 (cI 0)] [4])
.ret)
.skip))
(.seq (.seq (rg [mV 40 7,
mV 10 40] [0,1,5,6,7,8,10])
(.block 2 (.loop WJ)))
UQ))
def fV (C:Hd)(gl:GL)(e:En)(h:aA)(x:Esc)(K:KT):Sf C gl VQ e h x K:=⟨_,by simp only[VQ,↓wZ,AO.still];rfl⟩
theorem zcl {C gl e h x K}:NW C gl VQ ⟨e,h,x⟩ K=(fV C gl e h x K).1:=(fV C gl e h x K).2
def FY:ACode:=(.seq (rg [mV 4 (cI 0)] [0,1])
(.seq (rg [mV 12 1,
cL 13 aQ [12],
mV 11 13,
eX 14 11 0,
eX 15 11 1,
mV 5 14,
mV 6 15] [0,1,5,6])
(.seq (rg [mV 16 1,
uO 17 (.lens 16),
mV 7 17] [0,1,5,6,7])
(.seq (rg [mV 8 (.c (.p (.int .u32 0)))] [0,1,5,6,7,8])
(.seq (.seq (rg [mV 9 (cI 0)] [0,1,5,6,7,8,9])
(.block 0 (.loop VJ)))
VQ)))))
def XS:AFun:=⟨2,[.t 4],FY,false,false⟩
def bV (C:Hd)(gl:GL)(e:En)(h:aA)(x:Esc)(K:KT):Sf C gl FY e h x K:=⟨_,by simp only[FY,↓wZ,AO.still];rfl⟩
theorem zch {C gl v0 v1 h x K}:NW C gl XS.body ⟨enter [v0,v1],h,x⟩ K=(bV C gl [(0,v0),(1,v1)] h x K).1:=(bV C gl [(0,v0),(1,v1)] h x K).2
end Go.Am
end
section
/- The functions asv abstract code,and asv formulas UD their values: printed by program out of the translation. -/
set_option linter.all false
set_option maxRecDepth 100000
namespace Go.Am
def XJ:ACode:=.pr [0,4,5] (.seq (.seq (rg [mV 9 5,
mV 10 0,
uO 11 (.lens 10),
bN 12 .lss 9 11] [0,4,5,12])
(.cond 12 .skip
(.exit 0)))
(.seq (.block 1 (rg [mV 15 4,
bN 16 .mul 15 (.c (.p (.int .u32 16777619))),
mV 17 0,
mV 18 5,
uO 19 (.idxs 17 18),
uO 20 (.conv (.i .u32) 19),
bN 21 .add 16 20,
mV 4 21] [0,4,5]))
(rg [mV 13 5,
bN 14 .add 13 (cI 1),
mV 5 14] [0,4,5])))
def jV (C:Hd)(gl:GL)(e:En)(h:aA)(x:Esc)(K:KT):Sf C gl XJ e h x K:=⟨_,by simp only[XJ,↓wZ,AO.still];rfl⟩
theorem zcn {C gl e h x K}:NW C gl XJ ⟨e,h,x⟩ K=(jV C gl e h x K).1:=(jV C gl e h x K).2
theorem zg2 {C gl e h x K}:NW C gl (.loop XJ) ⟨e,h,x⟩ K=GA C gl XJ K [(0,gA e 0),(4,gA e 4),(5,gA e 5)] h x:=nB
def WQ:ACode:=.pr [4,6,7,8] (rg [mV 34 7,
mV 35 7,
bN 36 .mul 34 35,
mV 7 36] [4,6,7,8])
def kV (C:Hd)(gl:GL)(e:En)(h:aA)(x:Esc)(K:KT):Sf C gl WQ e h x K:=⟨_,by simp only[WQ,↓wZ,AO.still];rfl⟩
theorem zco {C gl e h x K}:NW C gl WQ ⟨e,h,x⟩ K=(kV C gl e h x K).1:=(kV C gl e h x K).2
def XQ:ACode:=.pr [4,6,7,8] (rg [mV 26 8,
bN 27 .shr 26 (.c (.p (.int .u64 1))),
mV 8 27] [4,6,7,8])
def lV (C:Hd)(gl:GL)(e:En)(h:aA)(x:Esc)(K:KT):Sf C gl XQ e h x K:=⟨_,by simp only[XQ,↓wZ,AO.still];rfl⟩
theorem zcp {C gl e h x K}:NW C gl XQ ⟨e,h,x⟩ K=(lV C gl e h x K).1:=(lV C gl e h x K).2
def YJ:ACode:=.pr [4,6,7,8] (.seq (.seq (rg [mV 24 8,
bN 25 .gtr 24 (cI 0)] [4,6,7,8,25])
(.cond 25 .skip
(.exit 2)))
(.seq (.block 3 (.seq (.seq (rg [mV 28 8,
bN 29 .and 28 (cI 1),
bN 30 .neq 29 (cI 0)] [4,6,7,8,30])
(.cond 30 (rg [mV 31 6,
mV 32 7,
bN 33 .mul 31 32,
mV 6 33] [4,6,7,8])
.skip))
WQ))
XQ))
def nV (C:Hd)(gl:GL)(e:En)(h:aA)(x:Esc)(K:KT):Sf C gl YJ e h x K:=⟨_,by simp only[YJ,↓wZ,AO.still];rfl⟩
theorem zcq {C gl e h x K}:NW C gl YJ ⟨e,h,x⟩ K=(nV C gl e h x K).1:=(nV C gl e h x K).2
theorem zg3 {C gl e h x K}:NW C gl (.loop YJ) ⟨e,h,x⟩ K=GA C gl YJ K [(4,gA e 4),(6,gA e 6),(7,gA e 7),(8,gA e 8)] h x:=nB
def YQ:ACode:=.pr [4,6] (.seq (rg [mV 37 4,
mV 38 6,
mV 2 37,
mV 3 38] [2,3])
.ret)
def oV (C:Hd)(gl:GL)(e:En)(h:aA)(x:Esc)(K:KT):Sf C gl YQ e h x K:=⟨_,by simp only[YQ,↓wZ,AO.still];rfl⟩
theorem zcr {C gl e h x K}:NW C gl YQ ⟨e,h,x⟩ K=(oV C gl e h x K).1:=(oV C gl e h x K).2
def ZQ:ACode:=.pr [0,4] (.seq (rg [mV 6 (.c (.p (.int .u32 1))),
mV 7 (.c (.p (.int .u32 16777619)))] [0,4,6,7])
(.seq (.seq (rg [mV 22 0,
uO 23 (.lens 22),
mV 8 23] [4,6,7,8])
(.block 2 (.loop YJ)))
YQ))
def pV (C:Hd)(gl:GL)(e:En)(h:aA)(x:Esc)(K:KT):Sf C gl ZQ e h x K:=⟨_,by simp only[ZQ,↓wZ,AO.still];rfl⟩
theorem zcs {C gl e h x K}:NW C gl ZQ ⟨e,h,x⟩ K=(pV C gl e h x K).1:=(pV C gl e h x K).2
def GY:ACode:=(.seq (rg [mV 2 (.c (.p (.int .u32 0))),
mV 3 (.c (.p (.int .u32 0)))] [0])
(.seq (rg [mV 4 (.c (.p (.int .u32 0)))] [0,4])
(.seq (.seq (rg [mV 5 (cI 0)] [0,4,5])
(.block 0 (.loop XJ)))
ZQ)))
def YS:AFun:=⟨1,[.t 2,.t 3],GY,false,false⟩
def iV (C:Hd)(gl:GL)(e:En)(h:aA)(x:Esc)(K:KT):Sf C gl GY e h x K:=⟨_,by simp only[GY,↓wZ,AO.still];rfl⟩
theorem zcm {C gl v0 h x K}:NW C gl YS.body ⟨enter [v0],h,x⟩ K=(iV C gl [(0,v0)] h x K).1:=(iV C gl [(0,v0)] h x K).2
def zio:ACode:=(.seq (rg [mV 2 cF] [0])
(.seq (rg [mV 3 0,
cL 4 JX [3,(cS [48,49])],
bN 5 .eql 4 (cS []),
mV 2 5] [2])
.ret))
def z7L:AFun:=⟨1,[.t 2],zio,false,false⟩
def ziq:ACode:=(.seq (rg [uO 4 (.alloc [.p (.int .i64 0),.p (.int .i64 0)])] [0,1,4])
(.seq (rg [mV 6 0,
mV 7 0,
uO 8 (.un .neg 7),
uO 9 (.mx [6,8]),
mV 10 1,
cL 11 z2T [9,10],
mV 5 11] [0,1,4,5])
(.seq (dr [dF (mV 12 0) [0],
dF (mV 13 5) [5],
dF (bN 14 .quo 12 13) [12,13],
dF (mV 15 1) [1],
dF (mV 16 5) [5],
dF (bN 17 .quo 15 16) [15,16],
dF (uO 18 (.build [.p (.int .i64 0),.p (.int .i64 0)] [(0,1,14),(1,1,17)])) [14,17],
dT (wO (.store (some 2) 4 18)) [4,18]] [4])
.ret)))
def z7M:AFun:=⟨2,[.cell 4 (some 2)],ziq,false,false⟩
def zis:ACode:=.pr [0,1] (.seq (.seq (rg [mV 5 1,
bN 6 .neq 5 (cI 0)] [0,1,6])
(.cond 6 .skip
(.exit 0)))
(.block 1 (dr [dF (mV 7 1) [1],
dF (mV 8 0) [0],
dF (mV 9 1) [1],
dF (bN 10 .rem 8 9) [8,9],
dF (mV 0 7) [7],
dF (mV 1 10) [10]] [0,1])))
def zit:ACode:=.pr [0] (.seq (rg [mV 11 0,
mV 4 11] [4])
.ret)
def zir:ACode:=(.seq (rg [mV 4 (cI 0)] [0,1])
(.seq (.block 0 (.loop zis))
zit))
def z7N:AFun:=⟨2,[.t 4],zir,false,false⟩
def ziv:ACode:=.pr [2,19,20,21] (.seq (rg [bN 22 .lss 21 20] [2,19,20,21,22])
(.seq (.cond 22 .skip
(.exit 0))
(.seq (.block 1 (.seq (rg [mV 23 21,
iA 24 none 19 21,
lD 25 none 24,
mV 6 23,
mV 7 25] [2,6,7,19,20,21])
(.seq (rg [mV 26 7,
uO 27 (.lens 26),
fA 28 0 none 2,
lD 29 none 28,
mV 30 6,
iA 31 (some 2) 29 30,
fA 32 1 none 31,
lD 33 none 32,
lN 34 33,
bN 35 .neq 27 34,
mV 36 35,
gD 37 36 false (.mv 7),
gD 38 36 false (.call PH [37]),
gD 39 36 false (.un .not 38),
uO 40 (.pick 36 cT 39)] [2,19,20,21,40])
(.cond 40 (.seq (rg [mV 4 (cI 3)] [4])
.ret)
.skip))))
(rg [bN 41 .add 21 (cI 1),
mV 21 41] [2,19,20,21]))))
def ziw:ACode:=.pr [] (.seq (rg [mV 4 (cI 0)] [4])
.ret)
def ziu:ACode:=(.seq (rg [uO 2 (.box 0),
mV 4 (cI 0)] [1,2])
(.seq (.seq (rg [lD 8 (some 3) 2,
cL 9 z2V [8],
mV 5 9] [1,2,5])
(.seq (rg [mV 10 5,
bN 11 .neq 10 (cI 0)] [1,2,5,11])
(.cond 11 (.seq (rg [mV 12 5,
mV 4 12] [4])
.ret)
.skip)))
(.seq (.seq (rg [mV 13 1,
lN 14 13,
fA 15 0 none 2,
lD 16 none 15,
lN 17 16,
bN 18 .neq 14 17] [1,2,18])
(.cond 18 (.seq (rg [mV 4 (cI 3)] [4])
.ret)
.skip))
(.seq (.seq (rg [mV 19 1,
lN 20 19,
mV 21 (cI 0)] [2,19,20,21])
(.block 0 (.loop ziv)))
ziw))))
def z7O:AFun:=⟨2,[.t 4],ziu,false,false⟩
def ziy:ACode:=.pr [1,15,16,17] (.seq (rg [bN 18 .lss 17 16] [1,15,16,17,18])
(.seq (.cond 18 .skip
(.exit 0))
(.seq (.block 1 (.seq (rg [mV 19 17,
iA 20 (some 2) 15 17,
lD 21 (some 2) 20,
uO 4 (.alloc [.p (.str []),.sl0 (some 4)]),
mV 3 19,
wO (.store (some 2) 4 21)] [1,3,4,15,16,17])
(.seq (.block 2 (.seq (rg [fA 23 0 none 4,
lD 24 none 23,
cL 25 RD [24],
uO 26 (.un .not 25),
mV 22 26] [1,3,4,15,16,17,22])
(.cond 22 (.seq (rg [mV 2 (cI 5)] [2])
.ret)
(.seq (dr [dF (mV 28 3) [3],
dF (bN 29 .gtr 28 (cI 0)) [28],
dF (mV 30 29) [29],
dF (gD 31 30 true (.faddr 0 none 4)) [4,30],
dF (gD 32 30 true (.load none 31)) [31,30],
dF (gD 33 30 true (.faddr 0 none 1)) [1,30],
dF (gD 34 30 true (.load none 33)) [33,30],
dF (gD 35 30 true (.mv 3)) [3,30],
dF (gD 36 30 true (.bin .sub 35 (cI 1))) [35,30],
dF (gD 37 30 true (.iaddr (some 2) 34 36)) [34,36,30],
dF (gD 38 30 true (.faddr 0 none 37)) [37,30],
dF (gD 39 30 true (.load none 38)) [38,30],
dF (gD 40 30 true (.bin .leq 32 39)) [32,39,30],
dF (uO 41 (.pick 30 40 cF)) [30,40],
dF (mV 27 41) [41]] [1,4,15,16,17,27])
(.cond 27 (.seq (rg [mV 2 (cI 7)] [2])
.ret)
.skip)))))
(.seq (rg [lD 42 (some 2) 4,
cL 43 z3a [42],
mV 5 43] [1,5,15,16,17])
(.seq (rg [mV 44 5,
bN 45 .neq 44 (cI 0)] [1,5,15,16,17,45])
(.cond 45 (.seq (rg [mV 46 5,
mV 2 46] [2])
.ret)
.skip))))))
(rg [bN 47 .add 17 (cI 1),
mV 17 47] [1,15,16,17]))))
def ziz:ACode:=.pr [1,7,59,60,61] (.seq (rg [bN 62 .lss 61 60] [1,7,59,60,61,62])
(.seq (.cond 62 .skip
(.exit 3))
(.seq (.block 4 (.seq (rg [mV 63 61,
iA 64 (some 2) 59 61,
lD 65 (some 2) 64,
uO 9 (.alloc [.p (.str []),.p (.int .i64 0)]),
mV 8 63,
wO (.store (some 2) 9 65)] [1,7,8,9,59,60,61])
(.block 5 (.seq (rg [mV 67 7,
fA 68 0 none 9,
lD 69 none 68,
cL 70 LG [67,69],
uO 71 (.un .not 70),
mV 66 71] [1,7,8,9,59,60,61,66])
(.cond 66 (.seq (rg [mV 2 (cI 8)] [2])
.ret)
(.seq (rg [fA 73 1 none 9,
lD 74 none 73,
cL 75 YB [74,(cI 0),(cI 1)],
mV 72 75] [1,7,8,9,59,60,61,72])
(.cond 72 (.seq (rg [mV 2 (cI 1)] [2])
.ret)
(.seq (dr [dF (mV 77 8) [8],
dF (bN 78 .gtr 77 (cI 0)) [77],
dF (mV 79 78) [78],
dF (gD 80 79 true (.faddr 0 none 9)) [9,79],
dF (gD 81 79 true (.load none 80)) [80,79],
dF (gD 82 79 true (.faddr 2 none 1)) [1,79],
dF (gD 83 79 true (.load none 82)) [82,79],
dF (gD 84 79 true (.mv 8)) [8,79],
dF (gD 85 79 true (.bin .sub 84 (cI 1))) [84,79],
dF (gD 86 79 true (.iaddr (some 2) 83 85)) [83,85,79],
dF (gD 87 79 true (.faddr 0 none 86)) [86,79],
dF (gD 88 79 true (.load none 87)) [87,79],
dF (gD 89 79 true (.bin .leq 81 88)) [81,88,79],
dF (uO 90 (.pick 79 89 cF)) [79,89],
dF (mV 76 90) [90]] [1,7,59,60,61,76])
(.cond 76 (.seq (rg [mV 2 (cI 7)] [2])
.ret)
.skip)))))))))
(rg [bN 91 .add 61 (cI 1),
mV 61 91] [1,7,59,60,61]))))
def zi0:ACode:=.pr [] (.seq (rg [mV 2 (cI 0)] [2])
.ret)
def zi1:ACode:=.pr [1] (.seq (.seq (rg [lD 48 (some 3) 1,
cL 49 z3e [48],
mV 6 49] [1,6])
(.seq (rg [mV 50 6,
bN 51 .neq 50 (cI 0)] [1,6,51])
(.cond 51 (.seq (rg [mV 52 6,
mV 2 52] [2])
.ret)
.skip)))
(.seq (rg [lD 53 (some 3) 1,
cL 54 XP [53],
mV 7 54] [1,7])
(.seq (.seq (rg [mV 55 7,
lN 56 55,
bN 57 .gtr 56 (cI 100)] [1,7,57])
(.cond 57 (.seq (rg [mV 2 (cI 2)] [2])
.ret)
.skip))
(.seq (.seq (rg [fA 58 2 none 1,
lD 59 none 58,
lN 60 59,
mV 61 (cI 0)] [1,7,59,60,61])
(.block 3 (.loop (.scope ziz))))
zi0))))
def zix:ACode:=(.seq (rg [uO 1 (.box 0),
mV 2 (cI 0)] [1])
(.seq (.seq (rg [fA 10 0 none 1,
lD 11 none 10,
lN 12 11,
bN 13 .gtr 12 (cI 40)] [1,13])
(.cond 13 (.seq (rg [mV 2 (cI 2)] [2])
.ret)
.skip))
(.seq (.seq (rg [fA 14 0 none 1,
lD 15 none 14,
lN 16 15,
mV 17 (cI 0)] [1,15,16,17])
(.block 0 (.loop (.scope ziy))))
zi1)))
def z7P:AFun:=⟨1,[.t 2],zix,false,false⟩
def zi3:ACode:=.pr [7,8,21,22,23] (.seq (rg [bN 24 .lss 23 22] [7,8,21,22,23,24])
(.seq (.cond 24 .skip
(.exit 0))
(.seq (.block 1 (.seq (rg [iA 25 none 21 23,
lD 26 none 25,
mV 10 26] [7,8,10,21,22,23])
(rg [mV 27 8,
mV 28 7,
mV 29 10,
uO 30 (.look (none,[2]) false (AI 0) 28 29),
uO 31 (.bsl false none 1 (.int .i64 0) [(0,30)]),
uO 32 (.app none 27 31),
mV 8 32] [7,8,21,22,23])))
(rg [bN 33 .add 23 (cI 1),
mV 23 33] [7,8,21,22,23]))))
def zi4:ACode:=.pr [8] (.seq (rg [mV 34 8,
mV 4 34,
mV 5 (cI 0)] [4,5])
.ret)
def zi2:ACode:=(.seq (rg [uO 2 (.box 0),
mV 4 (.c (.p (.sl none []))),
mV 5 (cI 0)] [1,2])
(.seq (.seq (rg [lD 11 (some 3) 2,
mV 12 1,
cL 13 z2U [11,12],
mV 6 13] [1,2,6])
(.seq (rg [mV 14 6,
bN 15 .neq 14 (cI 0)] [1,2,6,15])
(.cond 15 (.seq (rg [mV 16 6,
mV 4 (.c (.p (.sl none []))),
mV 5 16] [4,5])
.ret)
.skip)))
(.seq (rg [lD 17 (some 3) 2,
mV 18 1,
cL 19 z3f [17,18],
mV 7 19] [2,7])
(.seq (rg [uO 8 (.new0 none)] [2,7,8])
(.seq (.seq (rg [lD 20 (some 3) 2,
cL 21 XP [20],
lN 22 21,
mV 23 (cI 0)] [7,8,21,22,23])
(.block 0 (.loop (.scope zi3))))
zi4)))))
def z7Q:AFun:=⟨2,[.t 4,.t 5],zi2,false,false⟩
def zi5:ACode:=(.seq (rg [uO 2 (.box 0),
uO 3 (.box 1),
mV 4 (cI 0)] [2,3])
(.seq (dr [dF (fA 5 0 none 2) [2],
dF (lD 6 none 5) [5],
dF (fA 7 0 none 3) [3],
dF (lD 8 none 7) [7],
dT (cL 9 aF [6,8]) [6,8],
dF (fA 10 1 none 2) [2],
dA (lD 11 none 10) [10] false [4] [],
dF (fA 12 1 none 3) [3],
dA (lD 13 none 12) [12] false [4] [],
dT (cL 14 aF [11,13]) [11,13],
dF (fA 15 2 none 2) [2],
dA (lD 16 none 15) [15] false [4,9] [],
dF (fA 17 2 none 3) [3],
dA (lD 18 none 17) [17] false [4,9] [],
dT (cL 19 aF [16,18]) [16,18],
dF (uO 20 (.bsl false none 3 (.int .i64 0) [(0,9),(1,14),(2,19)])) [9,14,19],
dT (cL 21 SH [20]) [20],
dF (mV 4 21) [21]] [4])
.ret))
def z7R:AFun:=⟨2,[.t 4],zi5,false,false⟩
def zi6:ACode:=(.seq (rg [uO 2 (.box 0),
uO 3 (.box 1),
mV 4 (cI 0)] [2,3])
(.seq (.block 0 (.seq (rg [fA 6 0 none 3,
lD 7 none 6,
cL 8 YB [7,(cI 1),(cI 4)],
mV 5 8] [2,3,5])
(.cond 5 (.seq (rg [mV 4 (cI 4)] [4])
.ret)
(.seq (rg [lD 10 (some 4) 3,
cL 11 VL [10],
mV 12 11,
gD 13 12 true (.faddr 1 none 3),
gD 14 12 true (.load none 13),
gD 15 12 true (.call RD [14]),
gD 16 12 true (.un .not 15),
uO 17 (.pick 12 16 cF),
mV 9 17] [2,3,9])
(.cond 9 (.seq (rg [mV 4 (cI 5)] [4])
.ret)
(.seq (rg [lD 19 (some 4) 3,
cL 20 VL [19],
uO 21 (.un .not 20),
mV 22 21,
gD 23 22 true (.faddr 1 none 3),
gD 24 22 true (.load none 23),
gD 25 22 true (.bin .neq 24 (cS [])),
uO 26 (.pick 22 25 cF),
mV 18 26] [2,3,18])
(.cond 18 (.seq (rg [mV 4 (cI 3)] [4])
.ret)
.skip)))))))
(.seq (.seq (rg [fA 27 0 none 3,
lD 28 none 27,
bN 29 .neq 28 (cI 2)] [2,3,29])
(.cond 29 (.seq (.seq (rg [fA 30 2 none 3,
lD 31 none 30,
bN 32 .neq 31 (cI (-1)),
mV 33 32,
gD 34 33 false (.faddr 3 none 3),
gD 35 33 false (.load none 34),
gD 36 33 false (.bin .neq 35 (cI 0)),
uO 37 (.pick 33 cT 36)] [37])
(.cond 37 (.seq (rg [mV 4 (cI 3)] [4])
.ret)
.skip))
(.seq (rg [mV 4 (cI 0)] [4])
.ret))
.skip))
(.seq (.block 1 (.seq (rg [fA 39 2 none 3,
lD 40 none 39,
bN 41 .neq 40 (cI (-1)),
mV 42 41,
gD 43 42 true (.faddr 2 none 3),
gD 44 42 true (.load none 43),
gD 45 42 true (.faddr 1 none 2),
gD 46 42 true (.load none 45),
gD 47 42 true (.len 46),
gD 48 42 true (.bin .sub 47 (cI 1)),
gD 49 42 true (.call YB [44,(cI 0),48]),
gD 50 42 true (.mv 49),
gD 51 50 false (.faddr 1 none 2),
gD 52 50 false (.load none 51),
gD 53 50 false (.faddr 2 none 3),
gD 54 50 false (.load none 53),
gD 55 50 false (.iaddr (some 4) 52 54),
gD 56 50 false (.faddr 0 none 55),
gD 57 50 false (.load none 56),
gD 58 50 false (.bin .neq 57 (cI 3)),
gD 59 42 true (.pick 50 cT 58),
uO 60 (.pick 42 59 cF),
mV 38 60] [3,38])
(.cond 38 (.seq (rg [mV 4 (cI 8)] [4])
.ret)
(.seq (rg [fA 62 3 none 3,
lD 63 none 62,
cL 64 YB [63,(cI 0),(cI 1)],
mV 65 64,
gD 66 65 false (.faddr 2 none 3),
gD 67 65 false (.load none 66),
gD 68 65 false (.bin .eql 67 (cI (-1))),
gD 69 65 false (.mv 68),
gD 70 69 true (.faddr 3 none 3),
gD 71 69 true (.load none 70),
gD 72 69 true (.bin .neq 71 (cI 0)),
gD 73 65 false (.pick 69 72 cF),
uO 74 (.pick 65 cT 73),
mV 61 74] [61])
(.cond 61 (.seq (rg [mV 4 (cI 1)] [4])
.ret)
.skip)))))
(.seq (rg [mV 4 (cI 0)] [4])
.ret)))))
def z7S:AFun:=⟨2,[.t 4],zi6,false,false⟩
def zi8:ACode:=.pr [1,5,6,7,8,17,18,19,25,26,27] (rg [bN 57 .add 27 (cI 1),
mV 27 57] [1,5,6,7,8,17,18,19,25,26,27])
def zi9:ACode:=.pr [1,5,6,7,8,17,18,19,25,26,27] (.seq (rg [bN 28 .lss 27 26] [1,5,6,7,8,17,18,19,25,26,27,28])
(.seq (.cond 28 .skip
(.exit 2))
(.seq (.block 3 (.seq (rg [mV 29 27,
iA 30 (some 4) 25 27,
lD 31 (some 4) 30,
uO 10 (.alloc [.p (.int .i64 0),.p (.str []),.p (.int .i64 0),.p (.int .i64 0)]),
mV 9 29,
wO (.store (some 4) 10 31)] [1,5,6,7,8,9,10,17,18,19,25,26,27])
(.seq (.seq (rg [fA 32 0 none 10,
lD 33 none 32,
mV 34 1,
bN 35 .neq 33 34] [1,5,6,7,8,9,10,17,18,19,25,26,27,35])
(.cond 35 (.exit 3)
.skip))
(.seq (rg [mV 37 5,
fA 38 0 none 8,
lD 39 none 38,
fA 40 1 none 10,
lD 41 none 40,
uO 42 (.build [.p (.str []),.p (.str [])] [(0,1,39),(1,1,41)]),
uO 43 (.look ((some 2),[2,2]) true (.p (.str [])) 37 42),
mV 36 43,
eX 44 36 0,
eX 45 36 1,
mV 11 44,
mV 12 45] [1,5,6,7,8,9,11,12,17,18,19,25,26,27])
(.seq (rg [mV 46 12] [1,5,6,7,8,9,11,17,18,19,25,26,27,46])
(.cond 46 (rg [mV 47 6,
mV 48 11,
mV 49 6,
mV 50 11,
uO 51 (.look (none,[2]) false (.sl0 (some 2)) 49 50),
mV 52 7,
mV 53 9,
uO 54 (.build [.p (.int .i64 0),.p (.int .i64 0)] [(0,1,52),(1,1,53)]),
uO 55 (.bsl false (some 2) 1 (.agg [.int .i64 0,.int .i64 0]) [(0,54)]),
uO 56 (.app (some 2) 51 55),
wO (.mupd (none,[2]) 47 48 56)] [1,5,6,7,8,17,18,19,25,26,27])
.skip))))))
zi8)))
def ziA:ACode:=.pr [1,5,6,17,18,19] (rg [bN 58 .add 19 (cI 1),
mV 19 58] [1,5,6,17,18,19])
def ziB:ACode:=.pr [1,5,6,17,18,19] (.seq (rg [bN 20 .lss 19 18] [1,5,6,17,18,19,20])
(.seq (.cond 20 .skip
(.exit 0))
(.seq (.block 1 (.seq (rg [mV 21 19,
iA 22 (some 2) 17 19,
lD 23 (some 2) 22,
uO 8 (.alloc [.p (.str []),.sl0 (some 4)]),
mV 7 21,
wO (.store (some 2) 8 23)] [1,5,6,7,8,17,18,19])
(.seq (rg [fA 24 1 none 8,
lD 25 none 24,
lN 26 25,
mV 27 (cI 0)] [1,5,6,7,8,17,18,19,25,26,27])
(.block 2 (.loop (.scope zi9))))))
ziA)))
def ziC:ACode:=.pr [6] (.seq (rg [mV 59 6,
mV 4 59] [4])
.ret)
def zi7:ACode:=(.seq (rg [uO 2 (.box 0),
mV 4 (.c (.nilm))] [1,2])
(.seq (rg [lD 13 (some 3) 2,
cL 14 z3g [13],
mV 5 14] [1,2,5])
(.seq (rg [uO 15 (.mkmap),
mV 6 15] [1,2,5,6])
(.seq (.seq (rg [fA 16 0 none 2,
lD 17 none 16,
lN 18 17,
mV 19 (cI 0)] [1,5,6,17,18,19])
(.block 0 (.loop (.scope ziB))))
ziC))))
def z7T:AFun:=⟨2,[.t 4],zi7,false,false⟩
def ziE:ACode:=.pr [1,13,14,15] (.seq (rg [bN 16 .lss 15 14] [1,13,14,15,16])
(.seq (.cond 16 .skip
(.exit 0))
(.seq (.block 1 (.seq (rg [iA 17 (some 4) 13 15,
lD 18 (some 4) 17,
uO 4 (.alloc [.p (.int .i64 0),.p (.str []),.p (.int .i64 0),.p (.int .i64 0)]),
wO (.store (some 4) 4 18)] [1,4,13,14,15])
(.seq (rg [lD 19 (some 2) 1,
lD 20 (some 4) 4,
cL 21 z2Y [19,20],
mV 5 21] [1,5,13,14,15])
(.seq (rg [mV 22 5,
bN 23 .neq 22 (cI 0)] [1,5,13,14,15,23])
(.cond 23 (.seq (rg [mV 24 5,
mV 2 24] [2])
.ret)
.skip)))))
(rg [bN 25 .add 15 (cI 1),
mV 15 25] [1,13,14,15]))))
def ziF:ACode:=.pr [1,27,28,29] (.seq (rg [bN 30 .lss 29 28] [1,27,28,29,30])
(.seq (.cond 30 .skip
(.exit 2))
(.seq (.block 3 (.seq (rg [mV 31 29,
iA 32 (some 4) 27 29,
lD 33 (some 4) 32,
uO 7 (.alloc [.p (.int .i64 0),.p (.str []),.p (.int .i64 0),.p (.int .i64 0)]),
mV 6 31,
wO (.store (some 4) 7 33)] [1,6,7,27,28,29])
(.seq (rg [lD 34 (some 4) 7,
cL 35 VL [34],
mV 36 35,
gD 37 36 true (.faddr 1 none 1),
gD 38 36 true (.load none 37),
gD 39 36 true (.mv 6),
gD 40 36 true (.slice (some 4) 38 none (some 39) none),
gD 41 36 true (.mkfn z3b [7]),
gD 42 36 true (.call GX [40,41]),
uO 43 (.pick 36 42 cF)] [1,27,28,29,43])
(.cond 43 (.seq (rg [mV 2 (cI 6)] [2])
.ret)
.skip))))
(rg [bN 44 .add 29 (cI 1),
mV 29 44] [1,27,28,29]))))
def ziG:ACode:=.pr [] (.seq (rg [mV 2 (cI 0)] [2])
.ret)
def ziH:ACode:=.pr [1] (.seq (.seq (rg [fA 26 1 none 1,
lD 27 none 26,
lN 28 27,
mV 29 (cI 0)] [1,27,28,29])
(.block 2 (.loop (.scope ziF))))
ziG)
def ziD:ACode:=(.seq (rg [uO 1 (.box 0),
mV 2 (cI 0)] [1])
(.seq (.seq (rg [fA 8 1 none 1,
lD 9 none 8,
lN 10 9,
bN 11 .gtr 10 (cI 200)] [1,11])
(.cond 11 (.seq (rg [mV 2 (cI 2)] [2])
.ret)
.skip))
(.seq (.seq (rg [fA 12 1 none 1,
lD 13 none 12,
lN 14 13,
mV 15 (cI 0)] [1,13,14,15])
(.block 0 (.loop (.scope ziE))))
ziH)))
def z7U:AFun:=⟨1,[.t 2],ziD,false,false⟩
def ziI:ACode:=(.seq (rg [uO 2 (.box 0),
mV 3 cF] [1,2])
(.seq (rg [fA 4 0 none 2,
lD 5 none 4,
fA 6 0 none 1,
lD 7 none 6,
bN 8 .eql 5 7,
mV 9 8,
gD 10 9 true (.faddr 1 none 2),
gD 11 9 true (.load none 10),
gD 12 9 true (.faddr 1 none 1),
gD 13 9 true (.load none 12),
gD 14 9 true (.bin .eql 11 13),
uO 15 (.pick 9 14 cF),
mV 3 15] [3])
.ret))
def z7V:AFun:=⟨2,[.t 3],ziI,false,false⟩
def ziJ:ACode:=(.seq (rg [uO 2 (.box 0),
mV 4 (cI 0)] [1,2])
(.seq (rg [fA 8 0 none 2,
lD 9 none 8,
mV 10 1,
cL 11 z3z [9,10,(.f z3d)],
mV 7 11,
eX 12 7 0,
eX 13 7 1,
mV 5 12,
mV 6 13] [5,6])
(.seq (.seq (rg [mV 14 6,
uO 15 (.un .not 14)] [5,15])
(.cond 15 (.seq (rg [mV 4 (cI (-1))] [4])
.ret)
.skip))
(.seq (rg [mV 16 5,
mV 4 16] [4])
.ret))))
def z7W:AFun:=⟨2,[.t 4],ziJ,false,false⟩
def ziK:ACode:=(.seq (rg [uO 2 (.box 0),
mV 4 (cI 0)] [1,2])
(.seq (rg [fA 5 0 none 2,
lD 6 none 5,
mV 7 1,
cL 8 aF [6,7],
mV 4 8] [4])
.ret))
def z7X:AFun:=⟨2,[.t 4],ziK,false,false⟩
def ziL:ACode:=(.seq (rg [uO 1 (.box 0),
mV 2 cF] [1])
(.seq (rg [fA 3 0 none 1,
lD 4 none 3,
bN 5 .eql 4 (cI 1),
mV 6 5,
gD 7 6 false (.faddr 0 none 1),
gD 8 6 false (.load none 7),
gD 9 6 false (.bin .eql 8 (cI 2)),
uO 10 (.pick 6 cT 9),
mV 2 10] [2])
.ret))
def z7Y:AFun:=⟨1,[.t 2],ziL,false,false⟩
def ziN:ACode:=.pr [1,14,15,16] (.seq (rg [bN 17 .lss 16 15] [1,14,15,16,17])
(.seq (.cond 17 .skip
(.exit 0))
(.seq (.block 1 (.seq (rg [mV 18 16,
iA 19 (some 3) 14 16,
lD 20 (some 3) 19,
uO 4 (.alloc [.p (.str []),.p (.str []),.p (.str [])]),
mV 3 18,
wO (.store (some 3) 4 20)] [1,3,4,14,15,16])
(.block 2 (.seq (rg [fA 22 0 none 4,
lD 23 none 22,
cL 24 RD [23],
uO 25 (.un .not 24),
mV 21 25] [1,3,4,14,15,16,21])
(.cond 21 (.seq (rg [mV 2 (cI 5)] [2])
.ret)
(.seq (rg [lD 27 (some 3) 1,
fA 28 1 none 4,
lD 29 none 28,
fA 30 2 none 4,
lD 31 none 30,
cL 32 z3h [27,29,31],
uO 33 (.un .not 32),
mV 26 33] [1,3,4,14,15,16,26])
(.cond 26 (.seq (rg [mV 2 (cI 8)] [2])
.ret)
(.seq (dr [dF (mV 35 3) [3],
dF (bN 36 .gtr 35 (cI 0)) [35],
dF (mV 37 36) [36],
dF (gD 38 37 true (.load (some 3) 4)) [4,37],
dF (gD 39 37 true (.faddr 1 none 1)) [1,37],
dF (gD 40 37 true (.load none 39)) [39,37],
dF (gD 41 37 true (.mv 3)) [3,37],
dF (gD 42 37 true (.bin .sub 41 (cI 1))) [41,37],
dF (gD 43 37 true (.iaddr (some 3) 40 42)) [40,42,37],
dF (gD 44 37 true (.load (some 3) 43)) [43,37],
dT (gD 45 37 true (.call z2X [38,44])) [38,44,37],
dF (gD 46 37 true (.bin .leq 45 (cI 0))) [45,37],
dF (uO 47 (.pick 37 46 cF)) [37,46],
dF (mV 34 47) [47]] [1,14,15,16,34])
(.cond 34 (.seq (rg [mV 2 (cI 7)] [2])
.ret)
.skip)))))))))
(rg [bN 48 .add 16 (cI 1),
mV 16 48] [1,14,15,16]))))
def ziO:ACode:=.pr [5,51,52,53] (.seq (rg [bN 54 .lss 53 52] [5,51,52,53,54])
(.seq (.cond 54 .skip
(.exit 3))
(.seq (.block 4 (.seq (rg [iA 55 (some 3) 51 53,
lD 56 (some 3) 55,
uO 7 (.alloc [.p (.str []),.p (.str []),.p (.str [])]),
wO (.store (some 3) 7 56)] [5,7,51,52,53])
(.seq (rg [fA 57 1 none 7,
lD 58 none 57,
fA 59 2 none 7,
lD 60 none 59,
uO 61 (.build [.p (.str []),.p (.str [])] [(0,1,58),(1,1,60)]),
uO 8 (.alloc [.p (.str []),.p (.str [])]),
wO (.store (some 2) 8 61)] [5,8,51,52,53])
(.seq (.seq (rg [mV 62 5,
lD 63 (some 2) 8,
uO 64 (.look ((some 2),[2,2]) false (AB false) 62 63)] [5,8,51,52,53,64])
(.cond 64 (.seq (rg [mV 2 (cI 6)] [2])
.ret)
.skip))
(rg [mV 65 5,
lD 66 (some 2) 8,
wO (.mupd ((some 2),[2,2]) 65 66 cT)] [5,51,52,53])))))
(rg [bN 67 .add 53 (cI 1),
mV 53 67] [5,51,52,53]))))
def ziP:ACode:=.pr [] (.seq (rg [mV 2 (cI 0)] [2])
.ret)
def ziQ:ACode:=.pr [1] (.seq (rg [uO 49 (.mkmap),
mV 5 49] [1,5])
(.seq (.seq (rg [fA 50 1 none 1,
lD 51 none 50,
lN 52 51,
mV 53 (cI 0)] [5,51,52,53])
(.block 3 (.loop (.scope ziO))))
ziP))
def ziM:ACode:=(.seq (rg [uO 1 (.box 0),
mV 2 (cI 0)] [1])
(.seq (.seq (rg [fA 9 1 none 1,
lD 10 none 9,
lN 11 10,
bN 12 .gtr 11 (cI 1000)] [1,12])
(.cond 12 (.seq (rg [mV 2 (cI 2)] [2])
.ret)
.skip))
(.seq (.seq (rg [fA 13 1 none 1,
lD 14 none 13,
lN 15 14,
mV 16 (cI 0)] [1,14,15,16])
(.block 0 (.loop (.scope ziN))))
ziQ)))
def z7Z:AFun:=⟨1,[.t 2],ziM,false,false⟩
def ziS:ACode:=.pr [1,2,5,20,21,22] (.seq (rg [bN 23 .lss 22 21] [1,2,5,20,21,22,23])
(.seq (.cond 23 .skip
(.exit 0))
(.seq (.block 1 (.seq (rg [iA 24 none 20 22,
lD 25 none 24,
mV 7 25] [1,2,5,7,20,21,22])
(rg [mV 26 5,
mV 27 7,
wO (.mupd (none,[2]) 26 27 (cI 2))] [1,2,5,20,21,22])))
(rg [bN 28 .add 22 (cI 1),
mV 22 28] [1,2,5,20,21,22]))))
def ziT:ACode:=.pr [1,2,5,30,31,32] (.seq (rg [bN 33 .lss 32 31] [1,2,5,30,31,32,33])
(.seq (.cond 33 .skip
(.exit 2))
(.seq (.block 3 (.seq (rg [iA 34 (some 2) 30 32,
lD 35 (some 2) 34,
uO 9 (.alloc [.p (.str []),.p (.int .i64 0)]),
wO (.store (some 2) 9 35)] [1,2,5,9,30,31,32])
(rg [mV 36 5,
fA 37 0 none 9,
lD 38 none 37,
fA 39 1 none 9,
lD 40 none 39,
wO (.mupd (none,[2]) 36 38 40)] [1,2,5,30,31,32])))
(rg [bN 41 .add 32 (cI 1),
mV 32 41] [1,2,5,30,31,32]))))
def ziU:ACode:=.pr [1,2,5,10,17,44,50,51,52] (rg [mV 100 5,
mV 101 10,
mV 102 17,
wO (.mupd (none,[2]) 100 101 102),
mV 12 cT] [1,2,5,10,12,44,50,51,52])
def ziV:ACode:=.pr [1,2,5,10,12,44,50,51,52] (rg [bN 103 .add 52 (cI 1),
mV 52 103] [1,2,5,10,12,44,50,51,52])
def ziW:ACode:=.pr [1,2,5,10,12,44,50,51,52] (.seq (rg [bN 53 .lss 52 51] [1,2,5,10,12,44,50,51,52,53])
(.seq (.cond 53 .skip
(.exit 6))
(.seq (.block 7 (.seq (rg [iA 54 (some 2) 50 52,
lD 55 (some 2) 54,
uO 14 (.alloc [.p (.int .i64 0),.p (.int .i64 0)]),
wO (.store (some 2) 14 55)] [1,2,5,10,12,14,44,50,51,52])
(.seq (dr [dF (fA 56 0 none 2) [2],
dF (lD 57 none 56) [56],
dF (fA 58 0 none 14) [14],
dF (lD 59 none 58) [58],
dF (iA 60 (some 2) 57 59) [57,59],
dF (fA 61 1 none 60) [60],
dF (lD 62 none 61) [61],
dF (fA 63 1 none 14) [14],
dF (lD 64 none 63) [63],
dF (iA 65 (some 4) 62 64) [62,64],
dF (lD 66 (some 4) 65) [65],
dF (mV 67 1) [1],
dF (fA 68 0 none 14) [14],
dF (lD 69 none 68) [68],
dF (iA 70 none 67 69) [67,69],
dF (lD 71 none 70) [70],
dA (uO 15 (.alloc [.p (.int .i64 0),.p (.str []),.p (.int .i64 0),.p (.int .i64 0)])) [] true [] [1,3,4,6,8,9,10,13,14,15],
dA (wO (.store (some 4) 15 66)) [15,66] true [] [13,14,15],
dF (mV 16 71) [71]] [1,2,5,10,12,14,15,16,44,50,51,52])
(.seq (.seq (dr [dF (fA 72 2 none 15) [15],
dF (lD 73 none 72) [72],
dF (bN 74 .geq 73 (cI 0)) [73],
dF (mV 75 74) [74],
dF (gD 76 75 true (.mv 16)) [16,75],
dF (gD 77 75 true (.faddr 2 none 15)) [15,75],
dF (gD 78 75 true (.load none 77)) [77,75],
dF (gD 79 75 true (.idxs 76 78)) [76,78,75],
dF (gD 80 75 true (.bin .sub 79 (.c (.p (.int .u8 48))))) [79,75],
dF (gD 81 75 true (.conv (.i .i64) 80)) [80,75],
dF (gD 82 75 true (.faddr 3 none 15)) [15,75],
dF (gD 83 75 true (.load none 82)) [82,75],
dF (gD 84 75 true (.bin .eql 81 83)) [81,83,75],
dF (uO 85 (.pick 75 84 cF)) [75,84]] [1,2,5,10,12,14,16,44,50,51,52,85])
(.cond 85 (.exit 7)
.skip))
(.seq (rg [mV 86 16,
fA 87 1 none 14,
lD 88 none 87,
uO 89 (.idxs 86 88),
bN 90 .sub 89 (.c (.p (.int .u8 48))),
uO 91 (.conv (.i .i64) 90),
mV 17 91] [1,2,5,10,12,17,44,50,51,52])
(.seq (.seq (rg [mV 92 12,
mV 93 92,
gD 94 93 true (.mv 5),
gD 95 93 true (.mv 10),
gD 96 93 true (.look (none,[2]) false (AI 0) 94 95),
gD 97 93 true (.mv 17),
gD 98 93 true (.bin .neq 96 97),
uO 99 (.pick 93 98 cF)] [1,2,5,10,17,44,50,51,52,99])
(.cond 99 (rg [mV 17 (cI 3)] [1,2,5,10,17,44,50,51,52])
.skip))
ziU))))))
ziV)))
def ziX:ACode:=.pr [1,2,5,44] (.seq (rg [uO 45 (.mnext none [44]),
eX 46 45 0] [1,2,5,44,46])
(.seq (.cond 46 .skip
(.exit 4))
(.block 5 (.seq (rg [uO 47 (.mentry 44),
eX 48 47 0,
eX 49 47 1,
mV 10 48,
mV 11 49] [1,2,5,10,11,44])
(.seq (rg [mV 12 cF] [1,2,5,10,11,12,44])
(.seq (rg [mV 50 11,
lN 51 50,
mV 52 (cI 0)] [1,2,5,10,12,44,50,51,52])
(.block 6 (.loop (.scope ziW)))))))))
def ziY:ACode:=.pr [5] (.seq (rg [mV 104 5,
mV 4 104] [4])
.ret)
def ziZ:ACode:=.pr [1,2,5] (.seq (.seq (rg [lD 42 (some 3) 2,
cL 43 z2Z [42,(cI 2)],
uO 44 (.mrange 43)] [1,2,5,44])
(.block 4 (.loop (.scope ziX))))
ziY)
def zja:ACode:=.pr [1,2,5] (.seq (.seq (rg [fA 29 2 none 2,
lD 30 none 29,
lN 31 30,
mV 32 (cI 0)] [1,2,5,30,31,32])
(.block 2 (.loop (.scope ziT))))
ziZ)
def ziR:ACode:=(.det (.seq (rg [uO 2 (.box 0),
mV 4 (.c (.nilm))] [1,2])
(.seq (rg [uO 18 (.mkmap),
mV 5 18] [1,2,5])
(.seq (.seq (rg [lD 19 (some 3) 2,
cL 20 XP [19],
lN 21 20,
mV 22 (cI 0)] [1,2,5,20,21,22])
(.block 0 (.loop ziS)))
zja))))
def z8a:AFun:=⟨2,[.t 4],ziR,false,false⟩
def zjc:ACode:=.pr [3,7,8,9] (.seq (rg [bN 10 .lss 9 8] [3,7,8,9,10])
(.seq (.cond 10 .skip
(.exit 0))
(.seq (.block 1 (.seq (rg [iA 11 (some 3) 7 9,
lD 12 (some 3) 11,
uO 5 (.alloc [.p (.str []),.p (.str []),.p (.str [])]),
wO (.store (some 3) 5 12)] [3,5,7,8,9])
(rg [mV 13 3,
fA 14 0 none 5,
lD 15 none 14,
uO 16 (.bsl false none 1 (.str []) [(0,15)]),
uO 17 (.app none 13 16),
mV 3 17] [3,7,8,9])))
(rg [bN 18 .add 9 (cI 1),
mV 9 18] [3,7,8,9]))))
def zjd:ACode:=.pr [3] (.seq (rg [mV 19 3,
cL 20 z30 [19],
mV 2 20] [2])
.ret)
def zjb:ACode:=(.seq (rg [uO 1 (.box 0),
mV 2 (.c (.p (.sl none [])))] [1])
(.seq (rg [uO 3 (.new0 none)] [1,3])
(.seq (.seq (rg [fA 6 1 none 1,
lD 7 none 6,
lN 8 7,
mV 9 (cI 0)] [3,7,8,9])
(.block 0 (.loop (.scope zjc))))
zjd)))
def z8b:AFun:=⟨1,[.t 2],zjb,false,true⟩
def zjf:ACode:=.pr [3,8,9,10] (.seq (rg [bN 11 .lss 10 9] [3,8,9,10,11])
(.seq (.cond 11 .skip
(.exit 0))
(.seq (.block 1 (.seq (rg [iA 12 (some 3) 8 10,
lD 13 (some 3) 12,
uO 5 (.alloc [.p (.str []),.p (.str []),.p (.str [])]),
wO (.store (some 3) 5 13)] [3,5,8,9,10])
(rg [mV 14 3,
fA 15 1 none 5,
lD 16 none 15,
fA 17 2 none 5,
lD 18 none 17,
uO 19 (.build [.p (.str []),.p (.str [])] [(0,1,16),(1,1,18)]),
fA 20 0 none 5,
lD 21 none 20,
wO (.mupd ((some 2),[2,2]) 14 19 21)] [3,8,9,10])))
(rg [bN 22 .add 10 (cI 1),
mV 10 22] [3,8,9,10]))))
def zjg:ACode:=.pr [3] (.seq (rg [mV 23 3,
mV 2 23] [2])
.ret)
def zje:ACode:=(.seq (rg [uO 1 (.box 0),
mV 2 (.c (.nilm))] [1])
(.seq (rg [uO 6 (.mkmap),
mV 3 6] [1,3])
(.seq (.seq (rg [fA 7 1 none 1,
lD 8 none 7,
lN 9 8,
mV 10 (cI 0)] [3,8,9,10])
(.block 0 (.loop (.scope zjf))))
zjg)))
def z8c:AFun:=⟨1,[.t 2],zje,false,false⟩
def zjh:ACode:=(.seq (rg [uO 3 (.box 0),
uO 5 (.box 2),
mV 6 cF] [1,3,5])
(.seq (rg [lD 8 (some 3) 3,
mV 9 1,
cL 10 z3c [8,9],
mV 7 10] [3,5,7])
(.seq (rg [mV 11 7,
bN 12 .geq 11 (cI 0),
mV 13 12,
gD 14 13 true (.faddr 0 none 3),
gD 15 13 true (.load none 14),
gD 16 13 true (.mv 7),
gD 17 13 true (.iaddr (some 2) 15 16),
gD 18 13 true (.faddr 1 none 17),
gD 19 13 true (.load none 18),
gD 20 13 true (.mkfn z3i [5]),
gD 21 13 true (.call GX [19,20]),
uO 22 (.pick 13 21 cF),
mV 6 22] [6])
.ret)))
def z8d:AFun:=⟨3,[.t 6],zjh,false,false⟩
def zji:ACode:=(.seq (rg [uO 2 (.box 0),
mV 3 cF] [1,2])
(.seq (rg [lD 4 (some 4) 2,
cL 5 VL [4],
mV 6 5,
gD 7 6 true (.faddr 1 none 2),
gD 8 6 true (.load none 7),
gD 9 6 true (.load none 1),
gD 10 6 true (.bin .eql 8 9),
uO 11 (.pick 6 10 cF),
mV 3 11] [3])
.ret))
def z8e:AFun:=⟨2,[.t 3],zji,false,false⟩
def zjk:ACode:=.pr [0,3,27,28,29] (.seq (rg [bN 30 .lss 29 28] [0,3,27,28,29,30])
(.seq (.cond 30 .skip
(.exit 1))
(.seq (.block 2 (.seq (rg [iA 31 none 27 29,
lD 32 none 31,
mV 6 32] [0,3,6,27,28,29])
(.seq (rg [mV 33 6,
mV 34 0,
bN 35 .sub 34 (cI 1),
cL 36 YB [33,(cI 0),35]] [0,3,27,28,29,36])
(.cond 36 (.seq (rg [mV 4 (cI 1)] [4])
.ret)
.skip))))
(rg [bN 37 .add 29 (cI 1),
mV 29 37] [0,3,27,28,29]))))
def zjl:ACode:=.pr [3,7,8] (.seq (.seq (rg [mV 53 8,
mV 54 7,
lN 55 54,
bN 56 .lss 53 55] [3,7,8,56])
(.cond 56 .skip
(.exit 3)))
(.seq (.block 4 (.seq (dr [dF (mV 59 7) [7],
dF (mV 60 8) [8],
dF (iA 61 none 59 60) [59,60],
dF (lD 62 none 61) [61],
dF (mV 63 7) [7],
dF (mV 64 8) [8],
dF (bN 65 .sub 64 (cI 1)) [64],
dF (iA 66 none 63 65) [63,65],
dF (lD 67 none 66) [66],
dF (bN 68 .leq 62 67) [62,67]] [3,7,8,68])
(.cond 68 (.seq (rg [mV 4 (cI 7)] [4])
.ret)
.skip)))
(rg [mV 57 8,
bN 58 .add 57 (cI 1),
mV 8 58] [3,7,8])))
def zjm:ACode:=.pr [3,7] (.seq (.seq (rg [fA 69 0 none 3,
lD 70 none 69,
bN 71 .eql 70 (cI 5),
mV 72 71,
gD 73 72 true (.mv 7),
gD 74 72 true (.faddr 1 none 3),
gD 75 72 true (.load none 74),
gD 76 72 true (.iaddr none 75 (cI 0)),
gD 77 72 true (.load none 76),
gD 78 72 true (.call z32 [73,77]),
uO 79 (.pick 72 78 cF)] [79])
(.cond 79 (.seq (rg [mV 4 (cI 6)] [4])
.ret)
.skip))
(.seq (rg [mV 4 (cI 0)] [4])
.ret))
def zjn:ACode:=.pr [3,7] (.seq (.seq (rg [mV 8 (cI 1)] [3,7,8])
(.block 3 (.loop zjl)))
zjm)
def zjo:ACode:=.pr [3] (.seq (.seq (dr [dF (fA 38 0 none 3) [3],
dF (lD 39 none 38) [38],
dT (cL 40 z3o [39]) [39],
dF (fA 41 1 none 3) [3],
dA (lD 42 none 41) [41] false [2] [],
dF (lN 43 42) [42],
dF (bN 44 .gtr 43 (cI 1)) [43],
dF (uO 45 (.eqa [] true 40 44)) [40,44]] [3,45])
(.cond 45 (.seq (rg [mV 4 (cI 3)] [4])
.ret)
.skip))
(.seq (rg [fA 46 1 none 3,
lD 47 none 46,
mV 7 47] [3,7])
(.seq (.seq (rg [fA 48 0 none 3,
lD 49 none 48,
bN 50 .eql 49 (cI 5)] [3,7,50])
(.cond 50 (rg [mV 51 7,
uO 52 (.slice none 51 (some (cI 1)) none none),
mV 7 52] [3,7])
.skip))
zjn)))
def zjj:ACode:=(.seq (rg [uO 3 (.box 1),
mV 4 (cI 0)] [0,3])
(.seq (.block 0 (.seq (rg [mV 10 0,
cL 11 YB [10,(cI 1),(cI 100)],
mV 9 11] [0,3,9])
(.cond 9 (.seq (rg [mV 4 (cI 1)] [4])
.ret)
(.seq (rg [fA 13 0 none 3,
lD 14 none 13,
cL 15 YB [14,(cI 1),(cI 6)],
mV 12 15] [0,3,12])
(.cond 12 (.seq (rg [mV 4 (cI 4)] [4])
.ret)
(.seq (rg [fA 17 1 none 3,
lD 18 none 17,
lN 19 18,
bN 20 .eql 19 (cI 0),
mV 16 20] [0,3,16])
(.cond 16 (.seq (rg [mV 4 (cI 8)] [4])
.ret)
(.seq (rg [fA 22 1 none 3,
lD 23 none 22,
lN 24 23,
bN 25 .gtr 24 (cI 6),
mV 21 25] [0,3,21])
(.cond 21 (.seq (rg [mV 4 (cI 2)] [4])
.ret)
.skip)))))))))
(.seq (.seq (rg [fA 26 1 none 3,
lD 27 none 26,
lN 28 27,
mV 29 (cI 0)] [0,3,27,28,29])
(.block 1 (.loop zjk)))
zjo)))
def z8f:AFun:=⟨2,[.t 4],zjj,false,false⟩
def zjq:ACode:=.pr [0,13,14,15] (.seq (rg [bN 16 .lss 15 14] [0,13,14,15,16])
(.seq (.cond 16 .skip
(.exit 1))
(.seq (.block 2 (.seq (rg [iA 17 none 13 15,
lD 18 none 17,
mV 4 18] [0,4,13,14,15])
(.block 3 (.seq (rg [mV 20 4,
cL 21 PH [20],
uO 22 (.un .not 21),
mV 19 22] [0,4,13,14,15,19])
(.cond 19 (.seq (rg [mV 2 (cI 3)] [2])
.ret)
(.seq (rg [mV 24 4,
uO 25 (.lens 24),
bN 26 .gtr 25 (cI 64),
mV 23 26] [0,4,13,14,15,23])
(.cond 23 (.seq (rg [mV 2 (cI 2)] [2])
.ret)
(.seq (rg [mV 28 4,
uO 29 (.lens 28),
mV 30 0,
iA 31 none 30 (cI 0),
lD 32 none 31,
uO 33 (.lens 32),
bN 34 .neq 29 33,
mV 27 34] [0,13,14,15,27])
(.cond 27 (.seq (rg [mV 2 (cI 3)] [2])
.ret)
.skip)))))))))
(rg [bN 35 .add 15 (cI 1),
mV 15 35] [0,13,14,15]))))
def zjr:ACode:=.pr [] (.seq (rg [mV 2 (cI 0)] [2])
.ret)
def zjp:ACode:=(.seq (rg [mV 2 (cI 0)] [0])
(.seq (.block 0 (.seq (rg [mV 6 0,
lN 7 6,
bN 8 .eql 7 (cI 0),
mV 5 8] [0,5])
(.cond 5 (.seq (rg [mV 2 (cI 8)] [2])
.ret)
(.seq (rg [mV 10 0,
lN 11 10,
bN 12 .gtr 11 (cI 100),
mV 9 12] [0,9])
(.cond 9 (.seq (rg [mV 2 (cI 2)] [2])
.ret)
.skip)))))
(.seq (.seq (rg [mV 13 0,
lN 14 13,
mV 15 (cI 0)] [0,13,14,15])
(.block 1 (.loop zjq)))
zjr)))
def z8g:AFun:=⟨1,[.t 2],zjp,false,false⟩
def zjt:ACode:=.pr [0,7,18,19,20] (.seq (rg [bN 21 .lss 20 19] [0,7,18,19,20,21])
(.seq (.cond 21 .skip
(.exit 0))
(.seq (.block 1 (.seq (rg [iA 22 (some 2) 18 20,
lD 23 (some 2) 22,
uO 9 (.alloc [.p (.int .i64 0),.sl0 none]),
wO (.store (some 2) 9 23)] [0,7,9,18,19,20])
(dr [dF (mV 24 7) [7],
dF (lD 25 (some 2) 9) [9],
dF (mV 26 0) [0],
dF (iA 27 none 26 (cI 0)) [26],
dF (lD 28 none 27) [27],
dF (uO 29 (.lens 28)) [28],
dA (cL 30 z3r [29]) [29] true [] [1],
dT (cL 31 z3s [24,25,30]) [24,25,30]] [0,7,18,19,20])))
(rg [bN 32 .add 20 (cI 1),
mV 20 32] [0,7,18,19,20]))))
def zju:ACode:=.pr [0,7] (.seq (rg [mV 33 7,
mV 34 0,
iA 35 none 34 (cI 0),
lD 36 none 35,
uO 37 (.lens 36),
cL 38 z3q [33,37],
mV 4 38,
mV 5 (cI 0)] [4,5])
.ret)
def zjs:ACode:=(.seq (rg [mV 4 (.c (.p (.sl none []))),
mV 5 (cI 0)] [0,1])
(.seq (.seq (rg [mV 10 0,
mV 11 1,
cL 12 z3n [10,11],
mV 6 12] [0,1,6])
(.seq (rg [mV 13 6,
bN 14 .neq 13 (cI 0)] [0,1,6,14])
(.cond 14 (.seq (rg [mV 15 6,
mV 4 (.c (.p (.sl none []))),
mV 5 15] [4,5])
.ret)
.skip)))
(.seq (rg [mV 16 0,
cL 17 z3p [16],
mV 7 17] [0,1,7])
(.seq (.seq (rg [mV 18 1,
lN 19 18,
mV 20 (cI 0)] [0,7,18,19,20])
(.block 0 (.loop (.scope zjt))))
zju))))
def z8h:AFun:=⟨2,[.t 4,.t 5],zjs,false,false⟩
def zjv:ACode:=(.seq (rg [uO 3 (.box 1),
mV 4 (.c (.p (.sl none []))),
mV 5 (cI 0)] [0,3])
(.seq (rg [mV 6 0,
lD 7 (some 2) 3,
uO 8 (.bsl false (some 2) 1 (.agg [.int .i64 0,.sl none []]) [(0,7)]),
cL 9 z3l [6,8],
eX 10 9 0,
eX 11 9 1,
mV 4 10,
mV 5 11] [4,5])
.ret))
def z8i:AFun:=⟨2,[.t 4,.t 5],zjv,false,false⟩
def zjx:ACode:=.pr [0,14,15,16] (.seq (rg [bN 17 .lss 16 15] [0,14,15,16,17])
(.seq (.cond 17 .skip
(.exit 0))
(.seq (.block 1 (.seq (rg [iA 18 (some 2) 14 16,
lD 19 (some 2) 18,
uO 7 (.alloc [.p (.int .i64 0),.sl0 none]),
wO (.store (some 2) 7 19)] [0,7,14,15,16])
(.seq (rg [mV 20 0,
lN 21 20,
lD 22 (some 2) 7,
cL 23 z3j [21,22],
mV 8 23] [0,8,14,15,16])
(.seq (rg [mV 24 8,
bN 25 .neq 24 (cI 0)] [0,8,14,15,16,25])
(.cond 25 (.seq (rg [mV 26 8,
mV 4 26] [4])
.ret)
.skip)))))
(rg [bN 27 .add 16 (cI 1),
mV 16 27] [0,14,15,16]))))
def zjy:ACode:=.pr [] (.seq (rg [mV 4 (cI 0)] [4])
.ret)
def zjw:ACode:=(.seq (rg [mV 4 (cI 0)] [0,1])
(.seq (.seq (rg [mV 9 0,
cL 10 z3k [9],
mV 5 10] [0,1,5])
(.seq (rg [mV 11 5,
bN 12 .neq 11 (cI 0)] [0,1,5,12])
(.cond 12 (.seq (rg [mV 13 5,
mV 4 13] [4])
.ret)
.skip)))
(.seq (.seq (rg [mV 14 1,
lN 15 14,
mV 16 (cI 0)] [0,14,15,16])
(.block 0 (.loop (.scope zjx))))
zjy)))
def z8j:AFun:=⟨2,[.t 4],zjw,false,false⟩
def zjz:ACode:=(.seq (rg [mV 2 cF] [0])
(.seq (rg [mV 3 0,
cL 4 YB [3,(cI 3),(cI 5)],
uO 5 (.un .not 4),
mV 2 5] [2])
.ret))
def z8k:AFun:=⟨1,[.t 2],zjz,false,false⟩
def zj1:ACode:=.pr [3,5,6,8,9,10,15,16] (.seq (rg [bN 17 .lss 16 15] [3,5,6,8,9,10,15,16,17])
(.seq (.cond 17 .skip
(.exit 2))
(.seq (.block 3 (.seq (rg [mV 18 16,
mV 7 18] [3,5,6,7,8,9,10,15,16])
(rg [mV 19 6,
mV 20 5,
mV 21 7,
uO 22 (.idxs 20 21),
bN 23 .sub 22 (.c (.p (.int .u8 48))),
uO 24 (.conv (.i .u64) 23),
mV 25 7,
bN 26 .shl 24 25,
bN 27 .or 19 26,
mV 6 27] [3,5,6,8,9,10,15,16])))
(rg [bN 28 .add 16 (cI 1),
mV 16 28] [3,5,6,8,9,10,15,16]))))
def zj2:ACode:=.pr [3,6,8,9,10] (rg [mV 29 3,
mV 30 6,
uO 31 (.bsl false none 1 (.int .u64 0) [(0,30)]),
uO 32 (.app none 29 31),
mV 3 32] [3,8,9,10])
def zj3:ACode:=.pr [3,8,9,10] (rg [bN 33 .add 10 (cI 1),
mV 10 33] [3,8,9,10])
def zj4:ACode:=.pr [3,8,9,10] (.seq (rg [bN 11 .lss 10 9] [3,8,9,10,11])
(.seq (.cond 11 .skip
(.exit 0))
(.seq (.block 1 (.seq (rg [iA 12 none 8 10,
lD 13 none 12,
mV 5 13] [3,5,8,9,10])
(.seq (rg [mV 6 (.c (.p (.int .u64 0)))] [3,5,6,8,9,10])
(.seq (.seq (rg [mV 14 5,
uO 15 (.lens 14),
mV 16 (cI 0)] [3,5,6,8,9,10,15,16])
(.block 2 (.loop zj1)))
zj2))))
zj3)))
def zj5:ACode:=.pr [3] (.seq (rg [mV 34 3,
mV 2 34] [2])
.ret)
def zj0:ACode:=(.seq (rg [mV 2 (.c (.p (.sl none [])))] [0])
(.seq (rg [uO 3 (.new0 none)] [0,3])
(.seq (.seq (rg [mV 8 0,
lN 9 8,
mV 10 (cI 0)] [3,8,9,10])
(.block 0 (.loop (.scope zj4))))
zj5)))
def z8l:AFun:=⟨1,[.t 2],zj0,false,true⟩
def zj7:ACode:=.pr [1,5,7,8,10,11,12,19,20] (.seq (rg [bN 21 .lss 20 19] [1,5,7,8,10,11,12,19,20,21])
(.seq (.cond 21 .skip
(.exit 2))
(.seq (.block 3 (.seq (rg [mV 22 20,
mV 9 22] [1,5,7,8,9,10,11,12,19,20])
(rg [mV 23 8,
mV 24 9,
mV 25 7,
mV 26 9,
bN 27 .shr 25 26,
bN 28 .and 27 (.c (.p (.int .u64 1))),
bN 29 .add (.c (.p (.int .u64 48))) 28,
uO 30 (.conv (.i .u8) 29),
iA 31 none 23 24,
wO (.store none 31 30)] [1,5,7,8,10,11,12,19,20])))
(rg [bN 32 .add 20 (cI 1),
mV 20 32] [1,5,7,8,10,11,12,19,20]))))
def zj8:ACode:=.pr [1,5,8,10,11,12] (rg [mV 33 5,
mV 34 8,
uO 35 (.conv .b2s 34),
uO 36 (.bsl false none 1 (.str []) [(0,35)]),
uO 37 (.app none 33 36),
mV 5 37] [1,5,10,11,12])
def zj9:ACode:=.pr [1,5,10,11,12] (rg [bN 38 .add 12 (cI 1),
mV 12 38] [1,5,10,11,12])
def zjA:ACode:=.pr [1,5,10,11,12] (.seq (rg [bN 13 .lss 12 11] [1,5,10,11,12,13])
(.seq (.cond 13 .skip
(.exit 0))
(.seq (.block 1 (.seq (rg [iA 14 none 10 12,
lD 15 none 14,
mV 7 15] [1,5,7,10,11,12])
(.seq (rg [mV 16 1,
uO 17 (.mksl none (.int .u8 0) 16 16),
mV 8 17] [1,5,7,8,10,11,12])
(.seq (.seq (rg [mV 18 8,
lN 19 18,
mV 20 (cI 0)] [1,5,7,8,10,11,12,19,20])
(.block 2 (.loop zj7)))
zj8))))
zj9)))
def zjB:ACode:=.pr [5] (.seq (rg [mV 39 5,
mV 4 39] [4])
.ret)
def zj6:ACode:=(.seq (rg [mV 4 (.c (.p (.sl none [])))] [0,1])
(.seq (rg [uO 5 (.new0 none)] [0,1,5])
(.seq (.seq (rg [mV 10 0,
lN 11 10,
mV 12 (cI 0)] [1,5,10,11,12])
(.block 0 (.loop (.scope zjA))))
zjB)))
def z8m:AFun:=⟨2,[.t 4],zj6,false,false⟩
def zjC:ACode:=(.seq (rg [mV 2 (.c (.p (.int .u64 0)))] [0])
(.seq (rg [mV 3 0,
bN 4 .shl (.c (.p (.int .u64 1))) 3,
bN 5 .sub 4 (.c (.p (.int .u64 1))),
mV 2 5] [2])
.ret))
def z8n:AFun:=⟨1,[.t 2],zjC,false,false⟩
def zjE:ACode:=.pr [0,4,6,31,32,33] (.seq (rg [bN 34 .lss 33 32] [0,4,6,31,32,33,34])
(.seq (.cond 34 .skip
(.exit 1))
(.seq (.block 2 (.seq (rg [iA 35 none 31 33,
lD 36 none 35,
mV 8 36] [0,4,6,8,31,32,33])
(rg [mV 37 6,
mV 38 0,
mV 39 8,
iA 40 none 38 39,
lD 41 none 40,
bN 42 .and 37 41,
mV 6 42] [0,4,6,31,32,33])))
(rg [bN 43 .add 33 (cI 1),
mV 33 43] [0,4,6,31,32,33]))))
def zjF:ACode:=.pr [0,4,6,47,48,49] (.seq (rg [bN 50 .lss 49 48] [0,4,6,47,48,49,50])
(.seq (.cond 50 .skip
(.exit 3))
(.seq (.block 4 (.seq (rg [iA 51 none 47 49,
lD 52 none 51,
mV 10 52] [0,4,6,10,47,48,49])
(rg [mV 53 6,
mV 54 0,
mV 55 10,
iA 56 none 54 55,
lD 57 none 56,
bN 58 .or 53 57,
mV 6 58] [0,4,6,47,48,49])))
(rg [bN 59 .add 49 (cI 1),
mV 49 59] [0,4,6,47,48,49]))))
def zjG:ACode:=.pr [0,2,4,6,21,24] (.cond 24 (rg [mV 27 2,
mV 6 27] [0,4,6])
(.seq (rg [bN 29 .eql 21 (cI 3),
mV 28 29] [0,4,6,21,28])
(.cond 28 (.seq (rg [fA 30 1 none 4,
lD 31 none 30,
lN 32 31,
mV 33 (cI 0)] [0,4,6,31,32,33])
(.block 1 (.loop zjE)))
(.seq (rg [bN 45 .eql 21 (cI 4),
mV 44 45] [0,4,6,44])
(.cond 44 (.seq (rg [fA 46 1 none 4,
lD 47 none 46,
lN 48 47,
mV 49 (cI 0)] [0,4,6,47,48,49])
(.block 3 (.loop zjF)))
.skip)))))
def zjH:ACode:=.pr [0,6,61,62,63] (.seq (rg [bN 64 .lss 63 62] [0,6,61,62,63,64])
(.seq (.cond 64 .skip
(.exit 5))
(.seq (.block 6 (.seq (rg [iA 65 none 61 63,
lD 66 none 65,
mV 12 66] [0,6,12,61,62,63])
(rg [mV 67 0,
mV 68 12,
mV 69 6,
iA 70 none 67 68,
wO (.store none 70 69)] [0,6,61,62,63])))
(rg [bN 71 .add 63 (cI 1),
mV 63 71] [0,6,61,62,63]))))
def zjI:ACode:=.pr [0,4,6] (.seq (rg [fA 60 1 none 4,
lD 61 none 60,
lN 62 61,
mV 63 (cI 0)] [0,6,61,62,63])
(.block 5 (.loop zjH)))
def zjD:ACode:=(.seq (rg [uO 4 (.box 1)] [0,2,4])
(.seq (rg [mV 13 0,
fA 14 1 none 4,
lD 15 none 14,
iA 16 none 15 (cI 0),
lD 17 none 16,
iA 18 none 13 17,
lD 19 none 18,
mV 6 19] [0,2,4,6])
(.seq (.seq (rg [fA 20 0 none 4,
lD 21 none 20] [0,2,4,6,21])
(.block 0 (.seq (rg [bN 23 .eql 21 (cI 1),
mV 22 23] [0,2,4,6,21,22])
(.cond 22 (rg [mV 6 (.c (.p (.int .u64 0)))] [0,4,6])
(.seq (.seq (rg [bN 25 .eql 21 (cI 2),
mV 24 25] [0,2,4,6,21,24])
(.cond 24 .skip
(rg [bN 26 .eql 21 (cI 6),
mV 24 26] [0,2,4,6,21,24])))
zjG)))))
zjI)))
def z8o:AFun:=⟨3,[],zjD,true,false⟩
def zjJ:ACode:=(.seq (rg [uO 2 (.alloc [.p (.int .i64 0),.p (.int .i64 0)]),
uO 3 (.alloc [.p (.int .i64 0),.p (.int .i64 0)]),
mV 4 (cI 0)] [0,2,3])
(.seq (.seq (rg [mV 9 0,
cL 10 z3w [9,(cI 1)],
mV 5 10] [0,2,3,5])
(.seq (rg [mV 11 5,
bN 12 .neq 11 (cI 0)] [0,2,3,5,12])
(.cond 12 (.seq (rg [uO 13 (.build [.p (.int .i64 0),.p (.int .i64 0)] []),
uO 14 (.build [.p (.int .i64 0),.p (.int .i64 0)] []),
mV 15 5,
wO (.store (some 2) 2 13),
wO (.store (some 2) 3 14),
mV 4 15] [2,3,4])
.ret)
.skip)))
(.seq (rg [mV 17 0,
cL 18 z3v [17],
mV 16 18,
eX 19 16 0,
eX 20 16 1,
mV 6 19,
mV 7 20] [0,2,3,6,7])
(.seq (rg [mV 21 0,
lN 22 21,
mV 8 22] [2,3,6,7,8])
(.seq (rg [mV 23 6,
mV 24 8,
cL 25 FX [23,24],
mV 26 7,
mV 27 8,
mV 28 8,
bN 29 .mul 27 28,
cL 30 FX [26,29],
wO (.store (some 2) 2 25),
wO (.store (some 2) 3 30),
mV 4 (cI 0)] [2,3,4])
.ret)))))
def z8p:AFun:=⟨1,[.cell 2 (some 2),.cell 3 (some 2),.t 4],zjJ,false,false⟩
def zjK:ACode:=(.seq (rg [mV 2 cF] [0])
(.seq (rg [mV 3 0,
cL 4 YB [3,(cI (-100000)),(cI 100000)],
uO 5 (.un .not 4),
mV 2 5] [2])
.ret))
def z8q:AFun:=⟨1,[.t 2],zjK,false,false⟩
def zjM:ACode:=.pr [0,2,4,7,8,9] (.seq (rg [bN 10 .lss 9 8] [0,2,4,7,8,9,10])
(.seq (.cond 10 .skip
(.exit 0))
(.seq (.block 1 (.seq (rg [iA 11 none 7 9,
lD 12 none 11,
mV 6 12] [0,2,4,6,7,8,9])
(.seq (rg [mV 13 2,
mV 14 6,
bN 15 .add 13 14,
mV 2 15] [0,2,4,6,7,8,9])
(rg [mV 16 4,
mV 17 6,
mV 18 6,
bN 19 .mul 17 18,
bN 20 .add 16 19,
mV 4 20] [0,2,4,7,8,9]))))
(rg [bN 21 .add 9 (cI 1),
mV 9 21] [0,2,4,7,8,9]))))
def zjN:ACode:=.pr [0,2,4] (.seq (rg [mV 22 2,
mV 23 0,
lN 24 23,
mV 25 4,
bN 26 .mul 24 25,
mV 27 2,
mV 28 2,
bN 29 .mul 27 28,
bN 30 .sub 26 29,
mV 2 22,
mV 3 30] [2,3])
.ret)
def zjL:ACode:=(.seq (rg [mV 2 (cI 0),
mV 3 (cI 0)] [0,2])
(.seq (rg [mV 4 (cI 0)] [0,2,4])
(.seq (.seq (rg [mV 7 0,
lN 8 7,
mV 9 (cI 0)] [0,2,4,7,8,9])
(.block 0 (.loop zjM)))
zjN)))
def z8r:AFun:=⟨1,[.t 2,.t 3],zjL,false,false⟩
def zjO:ACode:=(.seq (rg [mV 4 (cI 0)] [0,1])
(.seq (.block 0 (.seq (rg [mV 6 0,
lN 7 6,
mV 8 1,
bN 9 .lss 7 8,
mV 5 9] [0,5])
(.cond 5 (.seq (rg [mV 4 (cI 8)] [4])
.ret)
(.seq (rg [mV 11 0,
lN 12 11,
bN 13 .gtr 12 (cI 5000),
mV 10 13] [0,10])
(.cond 10 (.seq (rg [mV 4 (cI 2)] [4])
.ret)
(.seq (rg [mV 15 0,
cL 16 z31 [15,(.f z3x)],
mV 14 16] [14])
(.cond 14 (.seq (rg [mV 4 (cI 1)] [4])
.ret)
.skip)))))))
(.seq (rg [mV 4 (cI 0)] [4])
.ret)))
def z8s:AFun:=⟨2,[.t 4],zjO,false,false⟩
def zjP:ACode:=(.seq (rg [mV 2 cF] [0])
(.seq (rg [mV 3 0,
cL 4 z3u [3],
uO 5 (.un .not 4),
mV 2 5] [2])
.ret))
def z8t:AFun:=⟨1,[.t 2],zjP,false,false⟩
def zjQ:ACode:=(.seq (rg [mV 0 cF] [])
(.seq (rg [cL 13 z3y [],
uO 14 (.bsl false none 1 (.str []) [(0,(cS [49]))]),
cL 15 z2W [13,14],
mV 12 15,
eX 16 12 0,
eX 17 12 1,
mV 1 16,
mV 2 17] [1,2])
(.seq (rg [uO 19 (.bsl false none 1 (.str []) [(0,(cS [48,49]))]),
uO 20 (.bsl false none 1 (.int .i64 0) [(0,(cI 0))]),
uO 21 (.build [.p (.int .i64 0),.sl0 none] [(0,1,(cI 2)),(1,1,20)]),
cL 22 z3m [19,21],
mV 18 22,
eX 23 18 0,
eX 24 18 1,
mV 3 23,
mV 4 24] [1,2,3,4])
(.seq (rg [uO 26 (.build [.p (.int .i64 0),.p (.int .i64 0),.p (.int .i64 0),.p (.str []),.p (.str []),.p (.str [])] [(0,1,(cI 7)),(3,1,(cS [49,48]))]),
uO 27 (.bsl false (some 6) 1 (.agg [.int .i64 0,.int .i64 0,.int .i64 0,.str [],.str [],.str []]) [(0,26)]),
cL 28 z3H [27],
mV 25 28,
eX 29 25 0,
eX 30 25 1,
mV 5 29,
mV 6 30] [1,2,3,4,5,6])
(.seq (rg [uO 32 (.bsl false none 2 (.int .i64 0) [(0,(cI 1)),(1,(cI 3))]),
cL 33 z3t [32],
mV 31 33,
eX 34 31 0,
eX 35 31 1,
eX 36 31 2,
uO 7 (.alloc [.p (.int .i64 0),.p (.int .i64 0)]),
uO 8 (.alloc [.p (.int .i64 0),.p (.int .i64 0)]),
wO (.store (some 2) 7 34),
wO (.store (some 2) 8 35),
mV 9 36] [1,2,3,4,5,6,7,9])
(.seq (rg [uO 38 (.bsl false none 1 (.str []) [(0,(cS [115,99,97,110]))]),
uO 39 (.build [.sl0 none,.p (.int .i64 0)] [(0,1,38),(1,1,(cI 1))]),
uO 40 (.build [.p (.str []),.p (.int .i64 0),.p (.int .i64 0),.p (.int .i64 0),.p (.str []),.p (.str []),.p (.str []),.p (.int .i64 0)] [(0,1,(cS [97])),(1,1,(cI 1)),(3,1,(cI 1)),(4,1,(cS [98]))]),
uO 41 (.bsl false (some 8) 1 (.agg [.str [],.int .i64 0,.int .i64 0,.int .i64 0,.str [],.str [],.str [],.int .i64 0]) [(0,40)]),
cL 42 z38 [39,41,(cS [98]),(cI 0)],
mV 37 42,
eX 43 37 0,
eX 44 37 1,
uO 10 (.alloc [.p (.int .i64 0),.p (.int .i64 0),.p (.str []),.p (.str []),.p (.int .i64 0)]),
wO (.store (some 5) 10 43),
mV 11 44] [1,2,3,4,5,6,7,9,10,11])
(.seq (rg [mV 45 2,
mV 46 4,
mV 47 6,
mV 48 9,
mV 49 11,
uO 50 (.bsl false none 5 (.int .i64 0) [(0,45),(1,46),(2,47),(3,48),(4,49)]),
cL 51 UH [50],
bN 52 .eql 51 (cI 0),
mV 53 52,
gD 54 53 true (.mv 1),
gD 55 53 true (.len 54),
gD 56 53 true (.bin .eql 55 (cI 1)),
uO 57 (.pick 53 56 cF),
mV 58 57,
gD 59 58 true (.mv 1),
gD 60 58 true (.iaddr none 59 (cI 0)),
gD 61 58 true (.load none 60),
gD 62 58 true (.bin .eql 61 (cI 1)),
uO 63 (.pick 58 62 cF),
mV 64 63,
gD 65 64 true (.mv 3),
gD 66 64 true (.len 65),
gD 67 64 true (.bin .eql 66 (cI 1)),
uO 68 (.pick 64 67 cF),
mV 69 68,
gD 70 69 true (.mv 3),
gD 71 69 true (.iaddr none 70 (cI 0)),
gD 72 69 true (.load none 71),
gD 73 69 true (.bin .eql 72 (cS [49,49])),
uO 74 (.pick 69 73 cF),
mV 75 74,
gD 76 75 true (.mv 5),
gD 77 75 true (.bin .eql 76 (cI 9)),
uO 78 (.pick 75 77 cF),
mV 79 78,
gD 80 79 true (.faddr 0 none 7),
gD 81 79 true (.load none 80),
gD 82 79 true (.bin .eql 81 (cI 2)),
uO 83 (.pick 79 82 cF),
mV 84 83,
gD 85 84 true (.faddr 0 none 10),
gD 86 84 true (.load none 85),
gD 87 84 true (.bin .eql 86 (cI 1)),
uO 88 (.pick 84 87 cF),
mV 0 88] [0])
.ret)))))))
def z8u:AFun:=⟨0,[.t 0],zjQ,false,false⟩
def zjR:ACode:=(.seq (rg [uO 0 (.alloc [.sl0 (some 2),.sl0 (some 3),.sl0 (some 2)])] [0])
(.seq (rg [uO 1 (.build [.p (.int .i64 0),.p (.str []),.p (.int .i64 0),.p (.int .i64 0)] [(0,1,(cI 2)),(1,1,(cS [97])),(2,1,(cI (-1)))]),
uO 2 (.bsl false (some 4) 1 (.agg [.int .i64 0,.str [],.int .i64 0,.int .i64 0]) [(0,1)]),
uO 3 (.build [.p (.str []),.sl0 (some 4)] [(0,1,(cS [117])),(1,1,2)]),
uO 4 (.bsl false (some 2) 1 (.agg [.str [],.sl (some 4) []]) [(0,3)]),
uO 5 (.build [.p (.str []),.p (.str []),.p (.str [])] [(0,1,(cS [110])),(1,1,(cS [117])),(2,1,(cS [97]))]),
uO 6 (.bsl false (some 3) 1 (.agg [.str [],.str [],.str []]) [(0,5)]),
uO 7 (.build [.sl0 (some 2),.sl0 (some 3),.sl0 (some 2)] [(0,1,4),(1,1,6)]),
wO (.store (some 3) 0 7)] [0])
.ret))
def z8v:AFun:=⟨0,[.cell 0 (some 3)],zjR,false,false⟩
def zjT:ACode:=.pr [0,1,2,8,9,10] (.seq (.seq (rg [mV 15 9,
mV 16 10,
bN 17 .lss 15 16] [0,1,2,8,9,10,17])
(.cond 17 .skip
(.exit 0)))
(.block 1 (.seq (rg [mV 18 9,
mV 19 10,
bN 20 .add 18 19,
uO 21 (.conv (.i .u64) 20),
bN 22 .shr 21 (.c (.p (.int .u64 1))),
uO 23 (.conv (.i .i64) 22),
mV 11 23] [0,1,2,8,9,10,11])
(.seq (rg [mV 24 2,
mV 25 0,
mV 26 11,
iA 27 (some 2) 25 26,
lD 28 (some 2) 27,
mV 29 1,
uO 30 (.callv 24 [28,29]),
bN 31 .lss 30 (cI 0)] [0,1,2,8,9,10,11,31])
(.cond 31 (rg [mV 32 11,
bN 33 .add 32 (cI 1),
mV 9 33] [0,1,2,8,9,10])
(rg [mV 34 11,
mV 10 34] [0,1,2,8,9,10]))))))
def zjU:ACode:=.pr [0,1,2,8,9] (.seq (rg [mV 35 9,
mV 36 9,
mV 37 8,
bN 38 .lss 36 37,
mV 39 38,
gD 40 39 true (.mv 2),
gD 41 39 true (.mv 0),
gD 42 39 true (.mv 9),
gD 43 39 true (.iaddr (some 2) 41 42),
gD 44 39 true (.load (some 2) 43),
gD 45 39 true (.mv 1),
gD 46 39 true (.callv 40 [44,45]),
gD 47 39 true (.bin .eql 46 (cI 0)),
uO 48 (.pick 39 47 cF),
mV 6 35,
mV 7 48] [6,7])
.ret)
def zjS:ACode:=(.seq (rg [mV 6 (cI 0),
mV 7 cF] [0,1,2])
(.seq (rg [mV 12 0,
lN 13 12,
mV 8 13] [0,1,2,8])
(.seq (rg [mV 14 8,
mV 9 (cI 0),
mV 10 14] [0,1,2,8,9,10])
(.seq (.block 0 (.loop zjT))
zjU))))
def z8w:AFun:=⟨3,[.t 6,.t 7],zjS,false,false⟩
end Go.Am
end
