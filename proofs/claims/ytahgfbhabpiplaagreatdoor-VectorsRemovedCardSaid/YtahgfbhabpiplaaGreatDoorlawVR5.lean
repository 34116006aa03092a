/- Texts of the proof, laid together: CodesC, CodesD, AmL, AmC, AmK, AmV, Ctx, SpStream, MathFrac, SpBase, SpList, PSort, SpShp, SpLen, SpFind. -/
import Derived.KernelRfl
import Derived.Laws.AppendOwn
import Derived.Test.YtahgfbhabpiplaaGreatDoorlawVR4
set_option linter.all false
section
/- The functions asv abstract code,and asv formulas over their values: printed by program out of the translation. -/
set_option linter.all false
set_option maxRecDepth 100000
namespace Go.Am
def aM:ACode:=.pr [0,4,6,31,32,33] (.seq (rg [bN 34 .lss 33 32] [0,4,6,31,32,33,34])
(.seq (.cond 34 .skip
(.exit 1))
(.seq (.block 2 (.seq (rg [iA 35 none 31 33,
lD 36 none 35,
mV 8 36] [0,4,6,8,31,32,33])
(rg [mV 37 6,
mV 38 0,
mV 39 8,
iA 40 none 38 39,
lD 41 none 40,
bN 42 .and 37 41,
mV 6 42] [0,4,6,31,32,33])))
(rg [bN 43 .add 33 (cI 1),
mV 33 43] [0,4,6,31,32,33]))))
def z14 (C:Hd)(gl:GL)(v0 v4 v6 v31 v32 v33:AV)(h:aA)(x:Esc)(K:KT):Prop:=
 pK (sA .lss v33 v32) fun t1=>
 SA t1 (pK (tB none v31 v33 h) fun t2=>
 pK (IA none t2 h) fun t3=>
 pK (tB none v0 t3 h) fun t4=>
 pK (IA none t4 h) fun t5=>
 pK (sA .and v6 t5) fun t6=>
 pK (sA .add v33 (AI 1)) fun t7=>
 K .normal ⟨[(0,v0),(4,v4),(6,t6),(31,v31),(32,v32),(33,t7)],h,x⟩)
 (K (.exit 1) ⟨[(0,v0),(4,v4),(6,v6),(31,v31),(32,v32),(33,v33),(34,t1)],h,x⟩)
theorem zaq {C gl e h x K}:NW C gl aM ⟨e,h,x⟩ K=z14 C gl (bA e 0) (bA e 4) (bA e 6) (bA e 31) (bA e 32) (bA e 33) h x K:=by kernel_rfl
theorem ze9 {C gl e h x K}:NW C gl (.loop aM) ⟨e,h,x⟩ K=CA C gl aM K [(0,bA e 0),(4,bA e 4),(6,bA e 6),(31,bA e 31),(32,bA e 32),(33,bA e 33)] h x:=YA
def bM:ACode:=.pr [0,4,6,47,48,49] (.seq (rg [bN 50 .lss 49 48] [0,4,6,47,48,49,50])
(.seq (.cond 50 .skip
(.exit 3))
(.seq (.block 4 (.seq (rg [iA 51 none 47 49,
lD 52 none 51,
mV 10 52] [0,4,6,10,47,48,49])
(rg [mV 53 6,
mV 54 0,
mV 55 10,
iA 56 none 54 55,
lD 57 none 56,
bN 58 .or 53 57,
mV 6 58] [0,4,6,47,48,49])))
(rg [bN 59 .add 49 (cI 1),
mV 49 59] [0,4,6,47,48,49]))))
def z15 (C:Hd)(gl:GL)(v0 v4 v6 v47 v48 v49:AV)(h:aA)(x:Esc)(K:KT):Prop:=
 pK (sA .lss v49 v48) fun t1=>
 SA t1 (pK (tB none v47 v49 h) fun t2=>
 pK (IA none t2 h) fun t3=>
 pK (tB none v0 t3 h) fun t4=>
 pK (IA none t4 h) fun t5=>
 pK (sA .or v6 t5) fun t6=>
 pK (sA .add v49 (AI 1)) fun t7=>
 K .normal ⟨[(0,v0),(4,v4),(6,t6),(47,v47),(48,v48),(49,t7)],h,x⟩)
 (K (.exit 3) ⟨[(0,v0),(4,v4),(6,v6),(47,v47),(48,v48),(49,v49),(50,t1)],h,x⟩)
theorem zar {C gl e h x K}:NW C gl bM ⟨e,h,x⟩ K=z15 C gl (bA e 0) (bA e 4) (bA e 6) (bA e 47) (bA e 48) (bA e 49) h x K:=by kernel_rfl
theorem zeA {C gl e h x K}:NW C gl (.loop bM) ⟨e,h,x⟩ K=CA C gl bM K [(0,bA e 0),(4,bA e 4),(6,bA e 6),(47,bA e 47),(48,bA e 48),(49,bA e 49)] h x:=YA
def z0m (q1 q2:ACode):ACode:=.pr [0,2,4,6,21,24] (.cond 24 (rg [mV 27 2,
mV 6 27] [0,4,6])
(.seq (rg [bN 29 .eql 21 (cI 3),
mV 28 29] [0,4,6,21,28])
(.cond 28 (.seq (rg [fA 30 1 none 4,
lD 31 none 30,
lN 32 31,
mV 33 (cI 0)] [0,4,6,31,32,33])
(.block 1 (.loop q1)))
(.seq (rg [bN 45 .eql 21 (cI 4),
mV 44 45] [0,4,6,44])
(.cond 44 (.seq (rg [fA 46 1 none 4,
lD 47 none 46,
lN 48 47,
mV 49 (cI 0)] [0,4,6,47,48,49])
(.block 3 (.loop q2)))
.skip)))))
def wP:ACode:=z0m aM bM
def xU (C:Hd)(gl:GL)(q1 q2:ACode)(v0 v2 v4 v6 v21 v24:AV)(h:aA)(x:Esc)(K:KT):Prop:=
 SA v24 (K .normal ⟨[(0,v0),(4,v4),(6,v2)],h,x⟩)
 (pK (sA .eql v21 (AI 3)) fun t1=>
 SA t1 (pK (VA 1 none v4) fun t2=>
 pK (IA none t2 h) fun t3=>
 pK (VB t3) fun t4=>
 NW C gl (.loop q1) ⟨[(0,v0),(4,v4),(6,v6),(31,t3),(32,t4),(33,(AI 0))],h,x⟩ (tC 1 K))
 (pK (sA .eql v21 (AI 4)) fun t5=>
 SA t5 (pK (VA 1 none v4) fun t6=>
 pK (IA none t6 h) fun t7=>
 pK (VB t7) fun t8=>
 NW C gl (.loop q2) ⟨[(0,v0),(4,v4),(6,v6),(47,t7),(48,t8),(49,(AI 0))],h,x⟩ (tC 3 K))
 (K .normal ⟨[(0,v0),(4,v4),(6,v6),(44,t5)],h,x⟩)))
theorem z5Q {C gl q1 q2 e h x K}:NW C gl (z0m q1 q2) ⟨e,h,x⟩ K=xU C gl q1 q2 (bA e 0) (bA e 2) (bA e 4) (bA e 6) (bA e 21) (bA e 24) h x K:=by kernel_rfl
theorem zas {C gl e h x K}:NW C gl wP ⟨e,h,x⟩ K=xU C gl aM bM (bA e 0) (bA e 2) (bA e 4) (bA e 6) (bA e 21) (bA e 24) h x K:=z5Q
def UF:ACode:=.pr [0,6,61,62,63] (.seq (rg [bN 64 .lss 63 62] [0,6,61,62,63,64])
(.seq (.cond 64 .skip
(.exit 5))
(.seq (.block 6 (.seq (rg [iA 65 none 61 63,
lD 66 none 65,
mV 12 66] [0,6,12,61,62,63])
(rg [mV 67 0,
mV 68 12,
mV 69 6,
iA 70 none 67 68,
wO (.store none 70 69)] [0,6,61,62,63])))
(rg [bN 71 .add 63 (cI 1),
mV 63 71] [0,6,61,62,63]))))
def z16 (C:Hd)(gl:GL)(v0 v6 v61 v62 v63:AV)(h:aA)(x:Esc)(K:KT):Prop:=
 pK (sA .lss v63 v62) fun t1=>
 SA t1 (pK (tB none v61 v63 h) fun t2=>
 pK (IA none t2 h) fun t3=>
 pK (tB none v0 t3 h) fun t4=>
 wK (NC none t4 v6 h) fun t5 h6 y7=>
 pK (sA .add v63 (AI 1)) fun t8=>
 K .normal ⟨[(0,v0),(6,v6),(61,v61),(62,v62),(63,t8)],h6,(y7++x)⟩)
 (K (.exit 5) ⟨[(0,v0),(6,v6),(61,v61),(62,v62),(63,v63),(64,t1)],h,x⟩)
theorem zat {C gl e h x K}:NW C gl UF ⟨e,h,x⟩ K=z16 C gl (bA e 0) (bA e 6) (bA e 61) (bA e 62) (bA e 63) h x K:=by kernel_rfl
theorem zeB {C gl e h x K}:NW C gl (.loop UF) ⟨e,h,x⟩ K=CA C gl UF K [(0,bA e 0),(6,bA e 6),(61,bA e 61),(62,bA e 62),(63,bA e 63)] h x:=YA
def z0n (q4:ACode):ACode:=.pr [0,4,6] (.seq (rg [fA 60 1 none 4,
lD 61 none 60,
lN 62 61,
mV 63 (cI 0)] [0,6,61,62,63])
(.block 5 (.loop q4)))
def xP:ACode:=z0n UF
def AF (C:Hd)(gl:GL)(q4:ACode)(v0 v4 v6:AV)(h:aA)(x:Esc)(K:KT):Prop:=
 pK (VA 1 none v4) fun t1=>
 pK (IA none t1 h) fun t2=>
 pK (VB t2) fun t3=>
 NW C gl (.loop q4) ⟨[(0,v0),(6,v6),(61,t2),(62,t3),(63,(AI 0))],h,x⟩ (tC 5 K)
theorem z5R {C gl q4 e h x K}:NW C gl (z0n q4) ⟨e,h,x⟩ K=AF C gl q4 (bA e 0) (bA e 4) (bA e 6) h x K:=by kernel_rfl
theorem zau {C gl e h x K}:NW C gl xP ⟨e,h,x⟩ K=AF C gl UF (bA e 0) (bA e 4) (bA e 6) h x K:=z5R
def z0l (q3 q5:ACode):ACode:=(.seq (rg [uO 4 (.box 1)] [0,2,4])
(.seq (rg [mV 13 0,
fA 14 1 none 4,
lD 15 none 14,
iA 16 none 15 (cI 0),
lD 17 none 16,
iA 18 none 13 17,
lD 19 none 18,
mV 6 19] [0,2,4,6])
(.seq (.seq (rg [fA 20 0 none 4,
lD 21 none 20] [0,2,4,6,21])
(.block 0 (.seq (rg [bN 23 .eql 21 (cI 1),
mV 22 23] [0,2,4,6,21,22])
(.cond 22 (rg [mV 6 (.c (.p (.int .u64 0)))] [0,4,6])
(.seq (.seq (rg [bN 25 .eql 21 (cI 2),
mV 24 25] [0,2,4,6,21,24])
(.cond 24 .skip
(rg [bN 26 .eql 21 (cI 6),
mV 24 26] [0,2,4,6,21,24])))
q3)))))
q5)))
def PR:AFun:=⟨3,[],z0l wP xP,true,false⟩
def QE (C:Hd)(gl:GL)(q3 q5:ACode)(v0 v1 v2:AV)(h:aA)(x:Esc)(K:KT):Prop:=
 wK (QF v1 h) fun t1 h2 y3=>
 pK (VA 1 none t1) fun t4=>
 pK (IA none t4 h2) fun t5=>
 pK (tB none t5 (AI 0) h2) fun t6=>
 pK (IA none t6 h2) fun t7=>
 pK (tB none v0 t7 h2) fun t8=>
 pK (IA none t8 h2) fun t9=>
 pK (VA 0 none t1) fun t10=>
 pK (IA none t10 h2) fun t11=>
 pK (sA .eql t11 (AI 1)) fun t12=>
 SA t12 (NW C gl q5 ⟨[(0,v0),(4,t1),(6,(.p (.int .u64 0)))],h2,(y3++x)⟩ K)
 (pK (sA .eql t11 (AI 2)) fun t13=>
 SA t13 (NW C gl q3 ⟨[(0,v0),(2,v2),(4,t1),(6,t9),(21,t11),(24,t13)],h2,(y3++x)⟩ (tC 0 (iE C gl q5 K)))
 (pK (sA .eql t11 (AI 6)) fun t14=>
 NW C gl q3 ⟨[(0,v0),(2,v2),(4,t1),(6,t9),(21,t11),(24,t14)],h2,(y3++x)⟩ (tC 0 (iE C gl q5 K))))
theorem z5P {C gl q3 q5 v0 v1 v2 h x K}:NW C gl (z0l q3 q5) ⟨enter [v0,v1,v2],h,x⟩ K=QE C gl q3 q5 v0 v1 v2 h x K:=by kernel_rfl
theorem zap {C gl v0 v1 v2 h x K}:NW C gl PR.body ⟨enter [v0,v1,v2],h,x⟩ K=QE C gl wP xP v0 v1 v2 h x K:=z5P
def HI:ACode:=.pr [1,5,7,8,10,11,12,19,20] (.seq (rg [bN 21 .lss 20 19] [1,5,7,8,10,11,12,19,20,21])
(.seq (.cond 21 .skip
(.exit 2))
(.seq (.block 3 (.seq (rg [mV 22 20,
mV 9 22] [1,5,7,8,9,10,11,12,19,20])
(rg [mV 23 8,
mV 24 9,
mV 25 7,
mV 26 9,
bN 27 .shr 25 26,
bN 28 .and 27 (.c (.p (.int .u64 1))),
bN 29 .add (.c (.p (.int .u64 48))) 28,
uO 30 (.conv (.i .u8) 29),
iA 31 none 23 24,
wO (.store none 31 30)] [1,5,7,8,10,11,12,19,20])))
(rg [bN 32 .add 20 (cI 1),
mV 20 32] [1,5,7,8,10,11,12,19,20]))))
def sU (C:Hd)(gl:GL)(e:En)(h:aA)(x:Esc)(K:KT):Sf C gl HI e h x K:=⟨_,by simp only[HI,↓wZ,AO.still];rfl⟩
theorem zaj {C gl e h x K}:NW C gl HI ⟨e,h,x⟩ K=(sU C gl e h x K).1:=(sU C gl e h x K).2
theorem ze7 {C gl e h x K}:NW C gl (.loop HI) ⟨e,h,x⟩ K=CA C gl HI K [(1,bA e 1),(5,bA e 5),(7,bA e 7),(8,bA e 8),(10,bA e 10),(11,bA e 11),(12,bA e 12),(19,bA e 19),(20,bA e 20)] h x:=YA
def tP:ACode:=.pr [1,5,8,10,11,12] (rg [mV 33 5,
mV 34 8,
uO 35 (.conv .b2s 34),
uO 36 (.bsl false none 1 (.str []) [(0,35)]),
uO 37 (.app none 33 36),
mV 5 37] [1,5,10,11,12])
def tU (C:Hd)(gl:GL)(e:En)(h:aA)(x:Esc)(K:KT):Sf C gl tP e h x K:=⟨_,by simp only[tP,↓wZ,AO.still];rfl⟩
theorem zak {C gl e h x K}:NW C gl tP ⟨e,h,x⟩ K=(tU C gl e h x K).1:=(tU C gl e h x K).2
def uP:ACode:=.pr [1,5,10,11,12] (rg [bN 38 .add 12 (cI 1),
mV 12 38] [1,5,10,11,12])
def uU (C:Hd)(gl:GL)(e:En)(h:aA)(x:Esc)(K:KT):Sf C gl uP e h x K:=⟨_,by simp only[uP,↓wZ,AO.still];rfl⟩
theorem zal {C gl e h x K}:NW C gl uP ⟨e,h,x⟩ K=(uU C gl e h x K).1:=(uU C gl e h x K).2
def II:ACode:=.pr [1,5,10,11,12] (.seq (rg [bN 13 .lss 12 11] [1,5,10,11,12,13])
(.seq (.cond 13 .skip
(.exit 0))
(.seq (.block 1 (.seq (rg [iA 14 none 10 12,
lD 15 none 14,
mV 7 15] [1,5,7,10,11,12])
(.seq (rg [mV 16 1,
uO 17 (.mksl none (.int .u8 0) 16 16),
mV 8 17] [1,5,7,8,10,11,12])
(.seq (.seq (rg [mV 18 8,
lN 19 18,
mV 20 (cI 0)] [1,5,7,8,10,11,12,19,20])
(.block 2 (.loop HI)))
tP))))
uP)))
def vU (C:Hd)(gl:GL)(e:En)(h:aA)(x:Esc)(K:KT):Sf C gl II e h x K:=⟨_,by simp only[II,↓wZ,AO.still];rfl⟩
theorem zam {C gl e h x K}:NW C gl II ⟨e,h,x⟩ K=(vU C gl e h x K).1:=(vU C gl e h x K).2
theorem ze8 {C gl e h x K}:NW C gl (.loop (.scope II)) ⟨e,h,x⟩ K=CA C gl (.scope II) K [(1,bA e 1),(5,bA e 5),(10,bA e 10),(11,bA e 11),(12,bA e 12)] h x:=FB
def vP:ACode:=.pr [5] (.seq (rg [mV 39 5,
mV 4 39] [4])
.ret)
def wU (C:Hd)(gl:GL)(e:En)(h:aA)(x:Esc)(K:KT):Sf C gl vP e h x K:=⟨_,by simp only[vP,↓wZ,AO.still];rfl⟩
theorem zan {C gl e h x K}:NW C gl vP ⟨e,h,x⟩ K=(wU C gl e h x K).1:=(wU C gl e h x K).2
def IX:ACode:=(.seq (rg [mV 4 (.c (.p (.sl none [])))] [0,1])
(.seq (rg [uO 5 (.new0 none)] [0,1,5])
(.seq (.seq (rg [mV 10 0,
lN 11 10,
mV 12 (cI 0)] [1,5,10,11,12])
(.block 0 (.loop (.scope II))))
vP)))
def yM:AFun:=⟨2,[.t 4],IX,false,false⟩
def gN (C:Hd)(gl:GL)(e:En)(h:aA)(x:Esc)(K:KT):Sf C gl IX e h x K:=⟨_,by simp only[IX,↓wZ,AO.still];rfl⟩
theorem zai {C gl v0 v1 h x K}:NW C gl yM.body ⟨enter [v0,v1],h,x⟩ K=(gN C gl [(0,v0),(1,v1)] h x K).1:=(gN C gl [(0,v0),(1,v1)] h x K).2
def nX:ACode:=(.seq (rg [mV 4 cF] [0,1])
(.seq (rg [mV 5 0,
cL 6 UE [5],
mV 7 6,
gD 8 7 true (.mv 1),
gD 9 7 true (.call UE [8]),
gD 10 7 true (.un .not 9),
uO 11 (.pick 7 10 cF),
mV 12 11,
gD 13 12 false (.mv 0),
gD 14 12 false (.mv 1),
gD 15 12 false (.bin .lss 13 14),
uO 16 (.pick 12 cT 15),
mV 4 16] [4])
.ret))
def wR:AFun:=⟨2,[.t 4],nX,false,false⟩
def VM (C:Hd)(gl:GL)(e:En)(h:aA)(x:Esc)(K:KT):Sf C gl nX e h x K:=⟨_,by simp only[nX,↓wZ,AO.still];rfl⟩
theorem z9j {C gl v0 v1 h x K}:NW C gl wR.body ⟨enter [v0,v1],h,x⟩ K=(VM C gl [(0,v0),(1,v1)] h x K).1:=(VM C gl [(0,v0),(1,v1)] h x K).2
def CQ:ACode:=.pr [0,1,2,3,8,9,10,11] (.seq (.seq (dr [dF (mV 73 1) [1],
dF (bN 74 .gtr 73 (cI 0)) [73],
dF (mV 75 74) [74],
dF (gD 76 75 true (.mv 0)) [0,75],
dF (gD 77 75 true (.mv 1)) [1,75],
dF (gD 78 75 true (.bin .sub 77 (cI 1))) [77,75],
dF (gD 79 75 true (.iaddr none 76 78)) [76,78,75],
dF (gD 80 75 true (.load none 79)) [79,75],
dF (gD 81 75 true (.mv 0)) [0,75],
dF (gD 82 75 true (.mv 11)) [11,75],
dF (gD 83 75 true (.iaddr none 81 82)) [81,82,75],
dF (gD 84 75 true (.load none 83)) [83,75],
dT (gD 85 75 true (.call WD [80,84])) [80,84,75],
dF (gD 86 75 true (.un .not 85)) [85,75],
dF (uO 87 (.pick 75 86 cF)) [75,86]] [0,1,2,3,8,9,10,11,87])
(.cond 87 (.seq (rg [mV 88 0,
mV 89 1,
mV 90 2,
mV 91 11,
cL 92 zdu [88,89,90,91],
mV 13 92] [0,2,3,8,9,13])
(.seq (rg [mV 93 13,
mV 1 93] [0,1,2,3,8,9])
(.exit 1)))
.skip))
(.seq (rg [mV 95 0,
mV 96 1,
mV 97 2,
mV 98 11,
cL 99 zdw [95,96,97,98],
mV 94 99,
eX 100 94 0,
eX 101 94 1,
mV 14 100,
mV 15 101] [0,1,2,3,10,14,15])
(.seq (rg [mV 102 15,
mV 9 102] [0,1,2,3,9,10,14])
(.seq (rg [mV 103 14,
mV 104 1,
bN 105 .sub 103 104,
mV 106 2,
mV 107 14,
bN 108 .sub 106 107,
mV 16 105,
mV 17 108] [0,1,2,3,9,10,14,16,17])
(.seq (rg [mV 109 10,
bN 110 .quo 109 (cI 8),
mV 18 110] [0,1,2,3,9,14,16,17,18])
(.seq (rg [mV 111 16,
mV 112 17,
bN 113 .lss 111 112] [0,1,2,3,9,14,16,17,18,113])
(.cond 113 (.seq (rg [mV 114 16,
mV 115 18,
bN 116 .geq 114 115,
mV 8 116] [0,1,2,3,8,9,14])
(.seq (rg [mV 117 0,
mV 118 1,
mV 119 14,
mV 120 3,
cL 121 KF [117,118,119,120]] [0,2,3,8,9,14])
(rg [mV 122 14,
bN 123 .add 122 (cI 1),
mV 1 123] [0,1,2,3,8,9])))
(.seq (rg [mV 124 17,
mV 125 18,
bN 126 .geq 124 125,
mV 8 126] [0,1,2,3,8,9,14])
(.seq (rg [mV 127 0,
mV 128 14,
bN 129 .add 128 (cI 1),
mV 130 2,
mV 131 3,
cL 132 KF [127,129,130,131]] [0,1,3,8,9,14])
(rg [mV 133 14,
mV 2 133] [0,1,2,3,8,9]))))))))))
def tW (C:Hd)(gl:GL)(e:En)(h:aA)(x:Esc)(K:KT):Sf C gl CQ e h x K:=⟨_,by simp only[CQ,↓wZ,AO.still];rfl⟩
theorem zcR {C gl e h x K}:NW C gl CQ ⟨e,h,x⟩ K=(tW C gl e h x K).1:=(tW C gl e h x K).2
def DQ:ACode:=.pr [0,1,2,3,8,9,10,11,12] (.seq (.seq (rg [mV 61 8,
mV 62 61,
gD 63 62 true (.mv 9),
uO 64 (.pick 62 63 cF),
mV 65 64,
gD 66 65 true (.mv 12),
gD 67 65 true (.bin .eql 66 (cI 1)),
uO 68 (.pick 65 67 cF)] [0,1,2,3,8,9,10,11,68])
(.cond 68 (.seq (rg [mV 69 0,
mV 70 1,
mV 71 2,
cL 72 zds [69,70,71]] [0,1,2,3,8,9,10,11,72])
(.cond 72 .ret
.skip))
.skip))
CQ)
def uW (C:Hd)(gl:GL)(e:En)(h:aA)(x:Esc)(K:KT):Sf C gl DQ e h x K:=⟨_,by simp only[DQ,↓wZ,AO.still];rfl⟩
theorem zcS {C gl e h x K}:NW C gl DQ ⟨e,h,x⟩ K=(uW C gl e h x K).1:=(uW C gl e h x K).2
def EQ:ACode:=.pr [0,1,2,3,8,9,10] (.seq (rg [mV 43 0,
mV 44 1,
mV 45 2,
cL 46 zdo [43,44,45],
mV 42 46,
eX 47 42 0,
eX 48 42 1,
mV 11 47,
mV 12 48] [0,1,2,3,8,9,10,11,12])
(.seq (.seq (rg [mV 49 12,
bN 50 .eql 49 (cI 2)] [0,1,2,3,8,9,10,11,12,50])
(.cond 50 (.seq (rg [mV 51 0,
mV 52 1,
mV 53 2,
cL 54 zdy [51,52,53]] [0,1,2,3,8,9,10,11])
(.seq (rg [mV 55 2,
bN 56 .sub 55 (cI 1),
mV 57 11,
mV 58 1,
bN 59 .sub 57 58,
bN 60 .sub 56 59,
mV 11 60] [0,1,2,3,8,9,10,11])
(rg [mV 12 (cI 1)] [0,1,2,3,8,9,10,11,12])))
.skip))
DQ))
def vW (C:Hd)(gl:GL)(e:En)(h:aA)(x:Esc)(K:KT):Sf C gl EQ e h x K:=⟨_,by simp only[EQ,↓wZ,AO.still];rfl⟩
theorem zcT {C gl e h x K}:NW C gl EQ ⟨e,h,x⟩ K=(vW C gl e h x K).1:=(vW C gl e h x K).2
def xJ:ACode:=.pr [0,1,2,3,8,9] (.block 1 (.seq (rg [mV 19 2,
mV 20 1,
bN 21 .sub 19 20,
mV 10 21] [0,1,2,3,8,9,10])
(.seq (.seq (rg [mV 22 10,
bN 23 .leq 22 (cI 12)] [0,1,2,3,8,9,10,23])
(.cond 23 (.seq (rg [mV 24 0,
mV 25 1,
mV 26 2,
cL 27 aI [24,25,26]] [])
.ret)
.skip))
(.seq (.seq (rg [mV 28 3,
bN 29 .eql 28 (cI 0)] [0,1,2,3,8,9,10,29])
(.cond 29 (.seq (rg [mV 30 0,
mV 31 1,
mV 32 2,
cL 33 zdq [30,31,32]] [])
.ret)
.skip))
(.seq (.seq (rg [mV 34 8,
uO 35 (.un .not 34)] [0,1,2,3,8,9,10,35])
(.cond 35 (.seq (rg [mV 36 0,
mV 37 1,
mV 38 2,
cL 39 zdm [36,37,38]] [0,1,2,3,8,9,10])
(rg [mV 40 3,
bN 41 .sub 40 (cI 1),
mV 3 41] [0,1,2,3,8,9,10]))
.skip))
EQ)))))
def wW (C:Hd)(gl:GL)(e:En)(h:aA)(x:Esc)(K:KT):Sf C gl xJ e h x K:=⟨_,by simp only[xJ,↓wZ,AO.still];rfl⟩
theorem zcU {C gl e h x K}:NW C gl xJ ⟨e,h,x⟩ K=(wW C gl e h x K).1:=(wW C gl e h x K).2
theorem zfp {C gl e h x K}:NW C gl (.loop xJ) ⟨e,h,x⟩ K=CA C gl xJ K [(0,bA e 0),(1,bA e 1),(2,bA e 2),(3,bA e 3),(8,bA e 8),(9,bA e 9)] h x:=YA
def RY:ACode:=(.seq (rg [mV 8 cT] [0,1,2,3,8])
(.seq (rg [mV 9 cT] [0,1,2,3,8,9])
(.block 0 (.loop xJ))))
def aT:AFun:=⟨4,[],RY,true,false⟩
def FK (C:Hd)(gl:GL)(e:En)(h:aA)(x:Esc)(K:KT):Sf C gl RY e h x K:=⟨_,by simp only[RY,↓wZ,AO.still];rfl⟩
theorem zcQ {C gl v0 v1 v2 v3 h x K}:NW C gl aT.body ⟨enter [v0,v1,v2,v3],h,x⟩ K=(FK C gl [(0,v0),(1,v1),(2,v2),(3,v3)] h x K).1:=(FK C gl [(0,v0),(1,v1),(2,v2),(3,v3)] h x K).2
def LX:ACode:=(.seq (rg [mV 2 (cI 0)] [0])
(.seq (.cond cF (.seq (rg [mV 3 0,
uO 4 (.conv (.i .u32) 3),
cL 5 zdl [4],
mV 2 5] [2])
.ret)
.skip)
(.seq (rg [mV 6 0,
cL 7 QK [6],
mV 2 7] [2])
.ret)))
def SR:AFun:=⟨1,[.t 2],LX,false,false⟩
def kN (C:Hd)(gl:GL)(e:En)(h:aA)(x:Esc)(K:KT):Sf C gl LX e h x K:=⟨_,by simp only[LX,↓wZ,AO.still];rfl⟩
theorem zaw {C gl v0 h x K}:NW C gl SR.body ⟨enter [v0],h,x⟩ K=(kN C gl [(0,v0)] h x K).1:=(kN C gl [(0,v0)] h x K).2
def CP:ACode:=.pr [0] (.seq (rg [mV 15 0,
mV 4 15] [4])
.ret)
def DU (C:Hd)(gl:GL)(e:En)(h:aA)(x:Esc)(K:KT):Sf C gl CP e h x K:=⟨_,by simp only[CP,↓wZ,AO.still];rfl⟩
theorem za7 {C gl e h x K}:NW C gl CP ⟨e,h,x⟩ K=(DU C gl e h x K).1:=(DU C gl e h x K).2
def RX:ACode:=(.seq (rg [mV 4 (cI 0)] [0,1])
(.seq (.seq (rg [mV 5 1,
bN 6 .lss 5 (cI 1)] [0,1,6])
(.cond 6 (.seq (rg [mV 4 (cI 0)] [4])
.ret)
.skip))
(.seq (rg [mV 7 0,
mV 8 1,
bN 9 .rem 7 8,
mV 0 9] [0,1])
(.seq (.seq (rg [mV 10 0,
bN 11 .lss 10 (cI 0)] [0,1,11])
(.cond 11 (rg [mV 12 0,
mV 13 1,
bN 14 .add 12 13,
mV 0 14] [0])
.skip))
CP))))
def YR:AFun:=⟨2,[.t 4],RX,false,false⟩
def pN (C:Hd)(gl:GL)(e:En)(h:aA)(x:Esc)(K:KT):Sf C gl RX e h x K:=⟨_,by simp only[RX,↓wZ,AO.still];rfl⟩
theorem za6 {C gl v0 v1 h x K}:NW C gl YR.body ⟨enter [v0,v1],h,x⟩ K=(pN C gl [(0,v0),(1,v1)] h x K).1:=(pN C gl [(0,v0),(1,v1)] h x K).2
def NI:ACode:=.pr [0,1,5,9,10] (.seq (rg [bN 11 .lss 10 9] [0,1,5,9,10,11])
(.seq (.cond 11 .skip
(.exit 0))
(.seq (.block 1 (.seq (rg [mV 12 10,
mV 6 12] [0,1,5,6,9,10])
(rg [mV 13 5,
mV 14 6,
uO 15 (.bsl false none 1 (.int .i64 0) [(0,14)]),
uO 16 (.app none 13 15),
mV 5 16] [0,1,5,9,10])))
(rg [bN 17 .add 10 (cI 1),
mV 10 17] [0,1,5,9,10]))))
def OU (C:Hd)(gl:GL)(e:En)(h:aA)(x:Esc)(K:KT):Sf C gl NI e h x K:=⟨_,by simp only[NI,↓wZ,AO.still];rfl⟩
theorem zaR {C gl e h x K}:NW C gl NI ⟨e,h,x⟩ K=(OU C gl e h x K).1:=(OU C gl e h x K).2
theorem zeG {C gl e h x K}:NW C gl (.loop (.scope NI)) ⟨e,h,x⟩ K=CA C gl (.scope NI) K [(0,bA e 0),(1,bA e 1),(5,bA e 5),(9,bA e 9),(10,bA e 10)] h x:=FB
def OI:ACode:=.pr [0,5,7] (.seq (.seq (rg [mV 20 7,
bN 21 .gtr 20 (cI 0)] [0,5,7,21])
(.cond 21 .skip
(.exit 2)))
(.seq (.block 3 (.seq (rg [mV 24 0,
mV 25 7,
bN 26 .add 25 (cI 1),
cL 27 XC [24,26],
mV 8 27] [0,5,7,8])
(dr [dF (mV 28 5) [5],
dF (mV 29 7) [7],
dF (mV 30 5) [5],
dF (mV 31 8) [8],
dF (mV 32 5) [5],
dF (mV 33 8) [8],
dF (iA 34 none 32 33) [32,33],
dF (lD 35 none 34) [34],
dF (mV 36 5) [5],
dF (mV 37 7) [7],
dF (iA 38 none 36 37) [36,37],
dF (lD 39 none 38) [38],
dF (iA 40 none 28 29) [28,29],
dT (wO (.store none 40 35)) [40,35],
dF (iA 41 none 30 31) [30,31],
dT (wO (.store none 41 39)) [41,39]] [0,5,7])))
(rg [mV 22 7,
bN 23 .sub 22 (cI 1),
mV 7 23] [0,5,7])))
def PU (C:Hd)(gl:GL)(e:En)(h:aA)(x:Esc)(K:KT):Sf C gl OI e h x K:=⟨_,by simp only[OI,↓wZ,AO.still];rfl⟩
theorem zaS {C gl e h x K}:NW C gl OI ⟨e,h,x⟩ K=(PU C gl e h x K).1:=(PU C gl e h x K).2
theorem zeH {C gl e h x K}:NW C gl (.loop OI) ⟨e,h,x⟩ K=CA C gl OI K [(0,bA e 0),(5,bA e 5),(7,bA e 7)] h x:=YA
def JP:ACode:=.pr [5] (.seq (rg [mV 42 5,
mV 4 42] [4])
.ret)
def QU (C:Hd)(gl:GL)(e:En)(h:aA)(x:Esc)(K:KT):Sf C gl JP e h x K:=⟨_,by simp only[JP,↓wZ,AO.still];rfl⟩
theorem zaT {C gl e h x K}:NW C gl JP ⟨e,h,x⟩ K=(QU C gl e h x K).1:=(QU C gl e h x K).2
def KP:ACode:=.pr [0,1,5] (.seq (.seq (rg [mV 18 1,
bN 19 .sub 18 (cI 1),
mV 7 19] [0,5,7])
(.block 2 (.loop OI)))
JP)
def RU (C:Hd)(gl:GL)(e:En)(h:aA)(x:Esc)(K:KT):Sf C gl KP e h x K:=⟨_,by simp only[KP,↓wZ,AO.still];rfl⟩
theorem zaU {C gl e h x K}:NW C gl KP ⟨e,h,x⟩ K=(RU C gl e h x K).1:=(RU C gl e h x K).2
def YX:ACode:=(.seq (rg [mV 4 (.c (.p (.sl none [])))] [0,1])
(.seq (rg [uO 5 (.new0 none)] [0,1,5])
(.seq (.seq (rg [mV 9 1,
mV 10 (cI 0)] [0,1,5,9,10])
(.block 0 (.loop (.scope NI))))
KP)))
def gS:AFun:=⟨2,[.t 4],YX,false,true⟩
def tN (C:Hd)(gl:GL)(e:En)(h:aA)(x:Esc)(K:KT):Sf C gl YX e h x K:=⟨_,by simp only[YX,↓wZ,AO.still];rfl⟩
theorem zaQ {C gl v0 v1 h x K}:NW C gl gS.body ⟨enter [v0,v1],h,x⟩ K=(tN C gl [(0,v0),(1,v1)] h x K).1:=(tN C gl [(0,v0),(1,v1)] h x K).2
def sI:ACode:=.pr [0,13,14,15] (.seq (rg [bN 16 .lss 15 14] [0,13,14,15,16])
(.seq (.cond 16 .skip
(.exit 1))
(.seq (.block 2 (.seq (rg [iA 17 none 13 15,
lD 18 none 17,
mV 4 18] [0,4,13,14,15])
(.block 3 (.seq (rg [mV 20 4,
cL 21 JK [20],
uO 22 (.un .not 21),
mV 19 22] [0,4,13,14,15,19])
(.cond 19 (.seq (rg [mV 2 (cI 3)] [2])
.ret)
(.seq (rg [mV 24 4,
uO 25 (.lens 24),
bN 26 .gtr 25 (cI 64),
mV 23 26] [0,4,13,14,15,23])
(.cond 23 (.seq (rg [mV 2 (cI 2)] [2])
.ret)
(.seq (rg [mV 28 4,
uO 29 (.lens 28),
mV 30 0,
iA 31 none 30 (cI 0),
lD 32 none 31,
uO 33 (.lens 32),
bN 34 .neq 29 33,
mV 27 34] [0,13,14,15,27])
(.cond 27 (.seq (rg [mV 2 (cI 3)] [2])
.ret)
.skip)))))))))
(rg [bN 35 .add 15 (cI 1),
mV 15 35] [0,13,14,15]))))
def FT (C:Hd)(gl:GL)(e:En)(h:aA)(x:Esc)(K:KT):Sf C gl sI e h x K:=⟨_,by simp only[sI,↓wZ,AO.still];rfl⟩
theorem z9u {C gl e h x K}:NW C gl sI ⟨e,h,x⟩ K=(FT C gl e h x K).1:=(FT C gl e h x K).2
theorem zet {C gl e h x K}:NW C gl (.loop sI) ⟨e,h,x⟩ K=CA C gl sI K [(0,bA e 0),(13,bA e 13),(14,bA e 14),(15,bA e 15)] h x:=YA
def UO:ACode:=.pr [] (.seq (rg [mV 2 (cI 0)] [2])
.ret)
def GT (C:Hd)(gl:GL)(e:En)(h:aA)(x:Esc)(K:KT):Sf C gl UO e h x K:=⟨_,by simp only[UO,↓wZ,AO.still];rfl⟩
theorem z9v {C gl e h x K}:NW C gl UO ⟨e,h,x⟩ K=(GT C gl e h x K).1:=(GT C gl e h x K).2
def sX:ACode:=(.seq (rg [mV 2 (cI 0)] [0])
(.seq (.block 0 (.seq (rg [mV 6 0,
lN 7 6,
bN 8 .eql 7 (cI 0),
mV 5 8] [0,5])
(.cond 5 (.seq (rg [mV 2 (cI 8)] [2])
.ret)
(.seq (rg [mV 10 0,
lN 11 10,
bN 12 .gtr 11 (cI 100),
mV 9 12] [0,9])
(.cond 9 (.seq (rg [mV 2 (cI 2)] [2])
.ret)
.skip)))))
(.seq (.seq (rg [mV 13 0,
lN 14 13,
mV 15 (cI 0)] [0,13,14,15])
(.block 1 (.loop sI)))
UO)))
def BR:AFun:=⟨1,[.t 2],sX,false,false⟩
def zH (C:Hd)(gl:GL)(e:En)(h:aA)(x:Esc)(K:KT):Sf C gl sX e h x K:=⟨_,by simp only[sX,↓wZ,AO.still];rfl⟩
theorem z9t {C gl v0 h x K}:NW C gl BR.body ⟨enter [v0],h,x⟩ K=(zH C gl [(0,v0)] h x K).1:=(zH C gl [(0,v0)] h x K).2
def CI:ACode:=.pr [0,7,13,14,15] (.seq (rg [bN 16 .lss 15 14] [0,7,13,14,15,16])
(.seq (.cond 16 .skip
(.exit 0))
(.seq (.block 1 (.seq (rg [mV 17 15,
iA 18 none 13 15,
lD 19 none 18,
mV 8 17,
mV 9 19] [0,7,8,9,13,14,15])
(rg [mV 20 7,
mV 21 9,
mV 22 0,
mV 23 8,
iA 24 none 22 23,
lD 25 none 24,
bN 26 .xor 21 25,
bN 27 .or 20 26,
mV 7 27] [0,7,13,14,15])))
(rg [bN 28 .add 15 (cI 1),
mV 15 28] [0,7,13,14,15]))))
def gU (C:Hd)(gl:GL)(e:En)(h:aA)(x:Esc)(K:KT):Sf C gl CI e h x K:=⟨_,by simp only[CI,↓wZ,AO.still];rfl⟩
theorem z9P {C gl e h x K}:NW C gl CI ⟨e,h,x⟩ K=(gU C gl e h x K).1:=(gU C gl e h x K).2
theorem ze2 {C gl e h x K}:NW C gl (.loop CI) ⟨e,h,x⟩ K=CA C gl CI K [(0,bA e 0),(7,bA e 7),(13,bA e 13),(14,bA e 14),(15,bA e 15)] h x:=YA
def nP:ACode:=.pr [7] (.seq (rg [mV 29 7,
mV 6 29] [6])
.ret)
def iU (C:Hd)(gl:GL)(e:En)(h:aA)(x:Esc)(K:KT):Sf C gl nP e h x K:=⟨_,by simp only[nP,↓wZ,AO.still];rfl⟩
theorem z9Q {C gl e h x K}:NW C gl nP ⟨e,h,x⟩ K=(iU C gl e h x K).1:=(iU C gl e h x K).2
def yX:ACode:=(.seq (rg [uO 4 (.box 1),
mV 6 (.c (.p (.int .u64 0)))] [0,2,4])
(.seq (rg [mV 7 (.c (.p (.int .u64 0)))] [0,2,4,7])
(.seq (.seq (rg [mV 10 0,
lD 11 (some 2) 4,
mV 12 2,
cL 13 OK [10,11,12],
lN 14 13,
mV 15 (cI 0)] [0,7,13,14,15])
(.block 0 (.loop CI)))
nP)))
def wM:AFun:=⟨3,[.t 6],yX,false,false⟩
def ZM (C:Hd)(gl:GL)(e:En)(h:aA)(x:Esc)(K:KT):Sf C gl yX e h x K:=⟨_,by simp only[yX,↓wZ,AO.still];rfl⟩
theorem z9O {C gl v0 v1 v2 h x K}:NW C gl wM.body ⟨enter [v0,v1,v2],h,x⟩ K=(ZM C gl [(0,v0),(1,v1),(2,v2)] h x K).1:=(ZM C gl [(0,v0),(1,v1),(2,v2)] h x K).2
def CY:ACode:=(.seq (rg [mV 4 cF] [0,1])
(.seq (rg [mV 5 0,
mV 6 1,
cL 7 nL [5,6],
bN 8 .geq 7 (cI 0),
mV 4 8] [4])
.ret))
def LS:AFun:=⟨2,[.t 4],CY,true,false⟩
def RN (C:Hd)(gl:GL)(e:En)(h:aA)(x:Esc)(K:KT):Sf C gl CY e h x K:=⟨_,by simp only[CY,↓wZ,AO.still];rfl⟩
theorem zcq {C gl v0 v1 h x K}:NW C gl LS.body ⟨enter [v0,v1],h,x⟩ K=(RN C gl [(0,v0),(1,v1)] h x K).1:=(RN C gl [(0,v0),(1,v1)] h x K).2
def AX:ACode:=(.seq (rg [mV 3 cF] [0,1])
(.seq (rg [mV 4 0,
bN 5 .neq 4 (.c (.p (.int .u64 0))),
mV 6 5,
gD 7 6 true (.mv 0),
gD 8 6 true (.load none 1),
gD 9 6 true (.bin .and 7 8),
gD 10 6 true (.bin .eql 9 (.c (.p (.int .u64 0)))),
uO 11 (.pick 6 10 cF),
mV 3 11] [3])
.ret))
def HR:AFun:=⟨2,[.t 3],AX,false,false⟩
def BH (C:Hd)(gl:GL)(e:En)(h:aA)(x:Esc)(K:KT):Sf C gl AX e h x K:=⟨_,by simp only[AX,↓wZ,AO.still];rfl⟩
theorem z9S {C gl v0 v1 h x K}:NW C gl HR.body ⟨enter [v0,v1],h,x⟩ K=(BH C gl [(0,v0),(1,v1)] h x K).1:=(BH C gl [(0,v0),(1,v1)] h x K).2
def MY:ACode:=(.seq (rg [mV 3 0,
lN 4 3,
mV 2 4] [0,2])
(rg [mV 5 0,
mV 6 2,
mV 7 2,
uO 8 (.conv (.i .u64) 7),
cL 9 MH [8],
cL 10 QG [5,(cI 0),6,9]] []))
def VS:AFun:=⟨1,[],MY,true,false⟩
def YN (C:Hd)(gl:GL)(e:En)(h:aA)(x:Esc)(K:KT):Sf C gl MY e h x K:=⟨_,by simp only[MY,↓wZ,AO.still];rfl⟩
theorem zcF {C gl v0 h x K}:NW C gl VS.body ⟨enter [v0],h,x⟩ K=(YN C gl [(0,v0)] h x K).1:=(YN C gl [(0,v0)] h x K).2
def cY:ACode:=(.seq (rg [mV 2 cF] [0])
(.seq (rg [mV 3 0,
cL 4 aL [3,(cS [48,49])],
mV 2 4] [2])
.ret))
def lS:AFun:=⟨1,[.t 2],cY,false,false⟩
def xN (C:Hd)(gl:GL)(e:En)(h:aA)(x:Esc)(K:KT):Sf C gl cY e h x K:=⟨_,by simp only[cY,↓wZ,AO.still];rfl⟩
theorem zaY {C gl v0 h x K}:NW C gl lS.body ⟨enter [v0],h,x⟩ K=(xN C gl [(0,v0)] h x K).1:=(xN C gl [(0,v0)] h x K).2
def qJ:ACode:=.pr [0,1,7,8] (.seq (rg [bN 9 .lss 8 7] [0,1,7,8,9])
(.seq (.cond 9 .skip
(.exit 0))
(.seq (.block 1 (.seq (rg [mV 10 8,
mV 5 10] [0,1,5,7,8])
(.seq (rg [mV 11 1,
mV 12 0,
mV 13 5,
iA 14 none 12 13,
lD 15 none 14,
uO 16 (.callv 11 [15])] [0,1,5,7,8,16])
(.cond 16 (.seq (rg [mV 17 5,
mV 4 17] [4])
.ret)
.skip))))
(rg [bN 18 .add 8 (cI 1),
mV 8 18] [0,1,7,8]))))
def gW (C:Hd)(gl:GL)(e:En)(h:aA)(x:Esc)(K:KT):Sf C gl qJ e h x K:=⟨_,by simp only[qJ,↓wZ,AO.still];rfl⟩
theorem zc6 {C gl e h x K}:NW C gl qJ ⟨e,h,x⟩ K=(gW C gl e h x K).1:=(gW C gl e h x K).2
theorem zfi {C gl e h x K}:NW C gl (.loop qJ) ⟨e,h,x⟩ K=CA C gl qJ K [(0,bA e 0),(1,bA e 1),(7,bA e 7),(8,bA e 8)] h x:=YA
def xQ:ACode:=.pr [] (.seq (rg [mV 4 (cI (-1))] [4])
.ret)
def iW (C:Hd)(gl:GL)(e:En)(h:aA)(x:Esc)(K:KT):Sf C gl xQ e h x K:=⟨_,by simp only[xQ,↓wZ,AO.still];rfl⟩
theorem zc7 {C gl e h x K}:NW C gl xQ ⟨e,h,x⟩ K=(iW C gl e h x K).1:=(iW C gl e h x K).2
def IY:ACode:=(.seq (rg [mV 4 (cI 0)] [0,1])
(.seq (.seq (rg [mV 6 0,
lN 7 6,
mV 8 (cI 0)] [0,1,7,8])
(.block 0 (.loop qJ)))
xQ))
def RS:AFun:=⟨2,[.t 4],IY,true,false⟩
def VN (C:Hd)(gl:GL)(e:En)(h:aA)(x:Esc)(K:KT):Sf C gl IY e h x K:=⟨_,by simp only[IY,↓wZ,AO.still];rfl⟩
theorem zc5 {C gl v0 v1 h x K}:NW C gl RS.body ⟨enter [v0,v1],h,x⟩ K=(VN C gl [(0,v0),(1,v1)] h x K).1:=(VN C gl [(0,v0),(1,v1)] h x K).2
def AY:ACode:=(.seq (rg [mV 4 cF] [0,1])
(.seq (rg [mV 5 0,
mV 6 1,
cL 7 mL [5,6],
bN 8 .geq 7 (cI 0),
mV 4 8] [4])
.ret))
def JS:AFun:=⟨2,[.t 4],AY,true,false⟩
def PN (C:Hd)(gl:GL)(e:En)(h:aA)(x:Esc)(K:KT):Sf C gl AY e h x K:=⟨_,by simp only[AY,↓wZ,AO.still];rfl⟩
theorem zco {C gl v0 v1 h x K}:NW C gl JS.body ⟨enter [v0,v1],h,x⟩ K=(PN C gl [(0,v0),(1,v1)] h x K).1:=(PN C gl [(0,v0),(1,v1)] h x K).2
def pY:ACode:=(.seq (rg [mV 3 cF] [0,1])
(.seq (rg [mV 4 0,
lN 5 4,
bN 6 .gtr 5 (cI 0),
mV 7 6,
gD 8 7 true (.mv 0),
gD 9 7 true (.mkfn VH [1]),
gD 10 7 true (.call PG [8,9]),
gD 11 7 true (.un .not 10),
uO 12 (.pick 7 11 cF),
mV 3 12] [3])
.ret))
def yS:AFun:=⟨2,[.t 3],pY,false,false⟩
def xK (C:Hd)(gl:GL)(e:En)(h:aA)(x:Esc)(K:KT):Sf C gl pY e h x K:=⟨_,by simp only[pY,↓wZ,AO.still];rfl⟩
theorem zbJ {C gl v0 v1 h x K}:NW C gl yS.body ⟨enter [v0,v1],h,x⟩ K=(xK C gl [(0,v0),(1,v1)] h x K).1:=(xK C gl [(0,v0),(1,v1)] h x K).2
def BY:ACode:=(.seq (rg [mV 4 cF] [0,1])
(.seq (rg [mV 5 0,
mV 6 1,
cL 7 YH [5,6],
bN 8 .geq 7 (cI 0),
mV 4 8] [4])
.ret))
def KS:AFun:=⟨2,[.t 4],BY,true,false⟩
def QN (C:Hd)(gl:GL)(e:En)(h:aA)(x:Esc)(K:KT):Sf C gl BY e h x K:=⟨_,by simp only[BY,↓wZ,AO.still];rfl⟩
theorem zcp {C gl v0 v1 h x K}:NW C gl KS.body ⟨enter [v0,v1],h,x⟩ K=(QN C gl [(0,v0),(1,v1)] h x K).1:=(QN C gl [(0,v0),(1,v1)] h x K).2
def qY:ACode:=(.seq (rg [mV 3 cF] [0,1])
(.seq (rg [lD 4 none 1,
mV 5 0,
cL 6 XD [4,5],
mV 3 6] [3])
.ret))
def zS:AFun:=⟨2,[.t 3],qY,false,false⟩
def IN (C:Hd)(gl:GL)(e:En)(h:aA)(x:Esc)(K:KT):Sf C gl qY e h x K:=⟨_,by simp only[qY,↓wZ,AO.still];rfl⟩
theorem zbK {C gl v0 v1 h x K}:NW C gl zS.body ⟨enter [v0,v1],h,x⟩ K=(IN C gl [(0,v0),(1,v1)] h x K).1:=(IN C gl [(0,v0),(1,v1)] h x K).2
def mX:ACode:=(.seq (rg [mV 4 (cI 0)] [0,1])
(.seq (rg [mV 7 0,
cL 8 UE [7],
mV 5 8] [0,1,5])
(.seq (rg [mV 9 1,
cL 10 UE [9],
mV 6 10] [0,1,5,6])
(.seq (.seq (rg [mV 11 5] [0,1,6,11])
(.cond 11 (.seq (.seq (rg [mV 12 6] [12])
(.cond 12 (.seq (rg [mV 4 (cI 0)] [4])
.ret)
.skip))
(.seq (rg [mV 4 (cI (-1))] [4])
.ret))
.skip))
(.seq (.seq (rg [mV 13 6] [0,1,13])
(.cond 13 (.seq (rg [mV 4 (cI 1)] [4])
.ret)
.skip))
(.seq (.seq (rg [mV 14 0,
mV 15 1,
bN 16 .lss 14 15] [0,1,16])
(.cond 16 (.seq (rg [mV 4 (cI (-1))] [4])
.ret)
.skip))
(.seq (.seq (rg [mV 17 0,
mV 18 1,
bN 19 .gtr 17 18] [19])
(.cond 19 (.seq (rg [mV 4 (cI 1)] [4])
.ret)
.skip))
(.seq (rg [mV 4 (cI 0)] [4])
.ret))))))))
def vR:AFun:=⟨2,[.t 4],mX,false,false⟩
def xH (C:Hd)(gl:GL)(e:En)(h:aA)(x:Esc)(K:KT):Sf C gl mX e h x K:=⟨_,by simp only[mX,↓wZ,AO.still];rfl⟩
theorem z9i {C gl v0 v1 h x K}:NW C gl vR.body ⟨enter [v0,v1],h,x⟩ K=(xH C gl [(0,v0),(1,v1)] h x K).1:=(xH C gl [(0,v0),(1,v1)] h x K).2
def lX:ACode:=(.seq (rg [mV 6 cF] [0,1,2])
(.seq (rg [mV 7 0,
mV 8 1,
bN 9 .lss 7 8,
mV 10 9,
gD 11 10 false (.mv 0),
gD 12 10 false (.mv 2),
gD 13 10 false (.bin .gtr 11 12),
uO 14 (.pick 10 cT 13),
mV 6 14] [6])
.ret))
def uR:AFun:=⟨3,[.t 6],lX,false,false⟩
def UM (C:Hd)(gl:GL)(e:En)(h:aA)(x:Esc)(K:KT):Sf C gl lX e h x K:=⟨_,by simp only[lX,↓wZ,AO.still];rfl⟩
theorem z9h {C gl v0 v1 v2 h x K}:NW C gl uR.body ⟨enter [v0,v1,v2],h,x⟩ K=(UM C gl [(0,v0),(1,v1),(2,v2)] h x K).1:=(UM C gl [(0,v0),(1,v1),(2,v2)] h x K).2
def FX:ACode:=(.seq (rg [uO 4 (.box 1),
mV 6 (.c (.p (.sl none [])))] [0,2,4])
(.seq (rg [mV 8 0,
cL 9 dL [8],
mV 7 9] [2,4,7])
(.seq (dr [dF (mV 10 7) [7],
dF (lD 11 (some 2) 4) [4],
dF (mV 12 2) [2],
dA (cL 13 VE [12]) [12] true [] [1],
dT (cL 14 IG [10,11,13]) [10,11,13]] [7])
(.seq (rg [mV 15 7,
mV 6 15] [6])
.ret))))
def MR:AFun:=⟨3,[.t 6],FX,false,false⟩
def eN (C:Hd)(gl:GL)(e:En)(h:aA)(x:Esc)(K:KT):Sf C gl FX e h x K:=⟨_,by simp only[FX,↓wZ,AO.still];rfl⟩
theorem zab {C gl v0 v1 v2 h x K}:NW C gl MR.body ⟨enter [v0,v1,v2],h,x⟩ K=(eN C gl [(0,v0),(1,v1),(2,v2)] h x K).1:=(eN C gl [(0,v0),(1,v1),(2,v2)] h x K).2
def gJ:ACode:=.pr [0,3,5,9,25,26,27] (.seq (rg [bN 28 .lss 27 26] [0,3,5,9,25,26,27,28])
(.seq (.cond 28 .skip
(.exit 0))
(.seq (.block 1 (.seq (rg [iA 29 none 25 27,
lD 30 none 29,
mV 11 30] [0,3,5,9,11,25,26,27])
(rg [mV 31 9,
mV 32 0,
mV 33 11,
iA 34 none 32 33,
lD 35 none 34,
mV 36 3,
uO 37 (.idxs 35 36),
bN 38 .sub 37 (.c (.p (.int .u8 48))),
uO 39 (.conv (.i .i64) 38),
bN 40 .add 31 39,
mV 9 40] [0,3,5,9,25,26,27])))
(rg [bN 41 .add 27 (cI 1),
mV 27 41] [0,3,5,9,25,26,27]))))
def EV (C:Hd)(gl:GL)(e:En)(h:aA)(x:Esc)(K:KT):Sf C gl gJ e h x K:=⟨_,by simp only[gJ,↓wZ,AO.still];rfl⟩
theorem zbQ {C gl e h x K}:NW C gl gJ ⟨e,h,x⟩ K=(EV C gl e h x K).1:=(EV C gl e h x K).2
theorem zeY {C gl e h x K}:NW C gl (.loop gJ) ⟨e,h,x⟩ K=CA C gl gJ K [(0,bA e 0),(3,bA e 3),(5,bA e 5),(9,bA e 9),(25,bA e 25),(26,bA e 26),(27,bA e 27)] h x:=YA
def fQ:ACode:=.pr [0,3,5,9,12,43,44] (.cond 44 (rg [mV 12 cT] [12])
(.seq (rg [bN 48 .eql 43 (cI 3),
mV 47 48] [0,3,5,9,12,43,47])
(.cond 47 (rg [mV 49 9,
fA 50 1 none 5,
lD 51 none 50,
lN 52 51,
bN 53 .eql 49 52,
mV 12 53] [12])
(.seq (rg [bN 55 .eql 43 (cI 4),
mV 54 55] [0,3,5,9,12,43,54])
(.cond 54 (rg [mV 56 9,
bN 57 .gtr 56 (cI 0),
mV 12 57] [12])
(.seq (rg [bN 59 .eql 43 (cI 5),
mV 58 59] [0,3,5,12,58])
(.cond 58 (.seq (rg [mV 60 0,
fA 61 1 none 5,
lD 62 none 61,
iA 63 none 62 (cI 0),
lD 64 none 63,
iA 65 none 60 64,
lD 66 none 65,
mV 67 3,
uO 68 (.idxs 66 67),
mV 8 68] [8])
.ret)
.skip)))))))
def FV (C:Hd)(gl:GL)(e:En)(h:aA)(x:Esc)(K:KT):Sf C gl fQ e h x K:=⟨_,by simp only[fQ,↓wZ,AO.still];rfl⟩
theorem zbR {C gl e h x K}:NW C gl fQ ⟨e,h,x⟩ K=(FV C gl e h x K).1:=(FV C gl e h x K).2
def gQ:ACode:=.pr [12] (.seq (.seq (rg [mV 69 12] [69])
(.cond 69 (.seq (rg [mV 8 (.c (.p (.int .u8 49)))] [8])
.ret)
.skip))
(.seq (rg [mV 8 (.c (.p (.int .u8 48)))] [8])
.ret))
def GV (C:Hd)(gl:GL)(e:En)(h:aA)(x:Esc)(K:KT):Sf C gl gQ e h x K:=⟨_,by simp only[gQ,↓wZ,AO.still];rfl⟩
theorem zbS {C gl e h x K}:NW C gl gQ ⟨e,h,x⟩ K=(GV C gl e h x K).1:=(GV C gl e h x K).2
def iQ:ACode:=.pr [0,3,5,9] (.seq (rg [mV 12 cF] [0,3,5,9,12])
(.seq (.seq (rg [fA 42 0 none 5,
lD 43 none 42] [0,3,5,9,12,43])
(.block 2 (.seq (.seq (rg [bN 45 .eql 43 (cI 2),
mV 44 45] [0,3,5,9,12,43,44])
(.cond 44 .skip
(rg [bN 46 .eql 43 (cI 6),
mV 44 46] [0,3,5,9,12,43,44])))
fQ)))
gQ))
def HV (C:Hd)(gl:GL)(e:En)(h:aA)(x:Esc)(K:KT):Sf C gl iQ e h x K:=⟨_,by simp only[iQ,↓wZ,AO.still];rfl⟩
theorem zbT {C gl e h x K}:NW C gl iQ ⟨e,h,x⟩ K=(HV C gl e h x K).1:=(HV C gl e h x K).2
def tY:ACode:=(.seq (rg [uO 5 (.box 1),
mV 8 (.c (.p (.int .u8 0)))] [0,2,3,5])
(.seq (.seq (rg [fA 13 1 none 5,
lD 14 none 13,
mV 15 2,
cL 16 XD [14,15],
uO 17 (.un .not 16)] [0,2,3,5,17])
(.cond 17 (.seq (rg [mV 18 0,
mV 19 2,
iA 20 none 18 19,
lD 21 none 20,
mV 22 3,
uO 23 (.idxs 21 22),
mV 8 23] [8])
.ret)
.skip))
(.seq (rg [mV 9 (cI 0)] [0,3,5,9])
(.seq (.seq (rg [fA 24 1 none 5,
lD 25 none 24,
lN 26 25,
mV 27 (cI 0)] [0,3,5,9,25,26,27])
(.block 0 (.loop gJ)))
iQ))))
def DS:AFun:=⟨4,[.t 8],tY,false,false⟩
def yK (C:Hd)(gl:GL)(e:En)(h:aA)(x:Esc)(K:KT):Sf C gl tY e h x K:=⟨_,by simp only[tY,↓wZ,AO.still];rfl⟩
theorem zbP {C gl v0 v1 v2 v3 h x K}:NW C gl DS.body ⟨enter [v0,v1,v2,v3],h,x⟩ K=(yK C gl [(0,v0),(1,v1),(2,v2),(3,v3)] h x K).1:=(yK C gl [(0,v0),(1,v1),(2,v2),(3,v3)] h x K).2
def dY:ACode:=(.seq (rg [mV 3 cF] [0,1])
(.seq (rg [mV 4 0,
lD 5 none 1,
bN 6 .sub 5 (cI 1),
cL 7 rE [4,(cI 0),6],
uO 8 (.un .not 7),
mV 3 8] [3])
.ret))
def nS:AFun:=⟨2,[.t 3],dY,false,false⟩
def yN (C:Hd)(gl:GL)(e:En)(h:aA)(x:Esc)(K:KT):Sf C gl dY e h x K:=⟨_,by simp only[dY,↓wZ,AO.still];rfl⟩
theorem zbd {C gl v0 v1 h x K}:NW C gl nS.body ⟨enter [v0,v1],h,x⟩ K=(yN C gl [(0,v0),(1,v1)] h x K).1:=(yN C gl [(0,v0),(1,v1)] h x K).2
def qI:ACode:=.pr [0,3,27,28,29] (.seq (rg [bN 30 .lss 29 28] [0,3,27,28,29,30])
(.seq (.cond 30 .skip
(.exit 1))
(.seq (.block 2 (.seq (rg [iA 31 none 27 29,
lD 32 none 31,
mV 6 32] [0,3,6,27,28,29])
(.seq (rg [mV 33 6,
mV 34 0,
bN 35 .sub 34 (cI 1),
cL 36 VD [33,(cI 0),35]] [0,3,27,28,29,36])
(.cond 36 (.seq (rg [mV 4 (cI 1)] [4])
.ret)
.skip))))
(rg [bN 37 .add 29 (cI 1),
mV 29 37] [0,3,27,28,29]))))
def z11 (C:Hd)(gl:GL)(v0 v3 v27 v28 v29:AV)(h:aA)(x:Esc)(K:KT):Prop:=
 pK (sA .lss v29 v28) fun t1=>
 SA t1 (pK (tB none v27 v29 h) fun t2=>
 pK (IA none t2 h) fun t3=>
 pK (sA .sub v0 (AI 1)) fun t4=>
 C VD [t3,(AI 0),t4] h fun t5 h6 y7=>
 SA t5 (K .ret ⟨[(4,(AI 1))],h6,(y7++x)⟩)
 (pK (sA .add v29 (AI 1)) fun t8=>
 K .normal ⟨[(0,v0),(3,v3),(27,v27),(28,v28),(29,t8)],h6,(y7++x)⟩))
 (K (.exit 1) ⟨[(0,v0),(3,v3),(27,v27),(28,v28),(29,v29),(30,t1)],h,x⟩)
theorem z9o {C gl e h x K}:NW C gl qI ⟨e,h,x⟩ K=z11 C gl (bA e 0) (bA e 3) (bA e 27) (bA e 28) (bA e 29) h x K:=by kernel_rfl
theorem zer {C gl e h x K}:NW C gl (.loop qI) ⟨e,h,x⟩ K=CA C gl qI K [(0,bA e 0),(3,bA e 3),(27,bA e 27),(28,bA e 28),(29,bA e 29)] h x:=YA
def rI:ACode:=.pr [3,7,8] (.seq (.seq (rg [mV 53 8,
mV 54 7,
lN 55 54,
bN 56 .lss 53 55] [3,7,8,56])
(.cond 56 .skip
(.exit 3)))
(.seq (.block 4 (.seq (dr [dF (mV 59 7) [7],
dF (mV 60 8) [8],
dF (iA 61 none 59 60) [59,60],
dF (lD 62 none 61) [61],
dF (mV 63 7) [7],
dF (mV 64 8) [8],
dF (bN 65 .sub 64 (cI 1)) [64],
dF (iA 66 none 63 65) [63,65],
dF (lD 67 none 66) [66],
dF (bN 68 .leq 62 67) [62,67]] [3,7,8,68])
(.cond 68 (.seq (rg [mV 4 (cI 7)] [4])
.ret)
.skip)))
(rg [mV 57 8,
bN 58 .add 57 (cI 1),
mV 8 58] [3,7,8])))
def z12 (C:Hd)(gl:GL)(v3 v7 v8:AV)(h:aA)(x:Esc)(K:KT):Prop:=
 pK (VB v7) fun t1=>
 pK (sA .lss v8 t1) fun t2=>
 SA t2 (pK (tB none v7 v8 h) fun t3=>
 pK (IA none t3 h) fun t4=>
 pK (sA .sub v8 (AI 1)) fun t5=>
 pK (tB none v7 t5 h) fun t6=>
 pK (IA none t6 h) fun t7=>
 pK (sA .leq t4 t7) fun t8=>
 SA t8 (K .ret ⟨[(4,(AI 7))],h,x⟩)
 (pK (sA .add v8 (AI 1)) fun t9=>
 K .normal ⟨[(3,v3),(7,v7),(8,t9)],h,x⟩))
 (K (.exit 3) ⟨[(3,v3),(7,v7),(8,v8),(56,t2)],h,x⟩)
theorem z9p {C gl e h x K}:NW C gl rI ⟨e,h,x⟩ K=z12 C gl (bA e 3) (bA e 7) (bA e 8) h x K:=by kernel_rfl
theorem zes {C gl e h x K}:NW C gl (.loop rI) ⟨e,h,x⟩ K=CA C gl rI K [(3,bA e 3),(7,bA e 7),(8,bA e 8)] h x:=YA
def SO:ACode:=.pr [3,7] (.seq (.seq (rg [fA 69 0 none 3,
lD 70 none 69,
bN 71 .eql 70 (cI 5),
mV 72 71,
gD 73 72 true (.mv 7),
gD 74 72 true (.faddr 1 none 3),
gD 75 72 true (.load none 74),
gD 76 72 true (.iaddr none 75 (cI 0)),
gD 77 72 true (.load none 76),
gD 78 72 true (.call XD [73,77]),
uO 79 (.pick 72 78 cF)] [79])
(.cond 79 (.seq (rg [mV 4 (cI 6)] [4])
.ret)
.skip))
(.seq (rg [mV 4 (cI 0)] [4])
.ret))
def z13 (C:Hd)(gl:GL)(v3 v7:AV)(h:aA)(x:Esc)(K:KT):Prop:=
 pK (VA 0 none v3) fun t1=>
 pK (IA none t1 h) fun t2=>
 pK (sA .eql t2 (AI 5)) fun t3=>
 gM t3 true v7 h fun t4 h5 y6=>
 gP t3 true (VA 1 none v3) h5 fun t7 h8 y9=>
 gP t3 true (IA none t7 h8) h8 fun t10 h11 y12=>
 gP t3 true (tB none t10 (AI 0) h11) h11 fun t13 h14 y15=>
 gP t3 true (IA none t13 h14) h14 fun t16 h17 y18=>
 gV t3 true h17 (C XD [t4,t16] h17) fun t19 h20 y21=>
 pK (RF t3 t19 (AB false)) fun t22=>
 SA t22 (K .ret ⟨[(4,(AI 6))],h20,(y21++(y18++(y15++(y12++(y9++(y6++x))))))⟩)
 (K .ret ⟨[(4,(AI 0))],h20,(y21++(y18++(y15++(y12++(y9++(y6++x))))))⟩)
theorem z9q {C gl e h x K}:NW C gl SO ⟨e,h,x⟩ K=z13 C gl (bA e 3) (bA e 7) h x K:=by kernel_rfl
def z0j (q2 q3:ACode):ACode:=.pr [3,7] (.seq (.seq (rg [mV 8 (cI 1)] [3,7,8])
(.block 3 (.loop q2)))
q3)
def rX:ACode:=z0j rI SO
def yH (C:Hd)(gl:GL)(q2 q3:ACode)(v3 v7:AV)(h:aA)(x:Esc)(K:KT):Prop:=
 NW C gl (.loop q2) ⟨[(3,v3),(7,v7),(8,(AI 1))],h,x⟩ (tC 3 (iE C gl q3 K))
theorem z5N {C gl q2 q3 e h x K}:NW C gl (z0j q2 q3) ⟨e,h,x⟩ K=yH C gl q2 q3 (bA e 3) (bA e 7) h x K:=by kernel_rfl
theorem z9r {C gl e h x K}:NW C gl rX ⟨e,h,x⟩ K=yH C gl rI SO (bA e 3) (bA e 7) h x K:=z5N
def z0k (q4:ACode):ACode:=.pr [3] (.seq (.seq (dr [dF (fA 38 0 none 3) [3],
dF (lD 39 none 38) [38],
dT (cL 40 KH [39]) [39],
dF (fA 41 1 none 3) [3],
dA (lD 42 none 41) [41] false [2] [],
dF (lN 43 42) [42],
dF (bN 44 .gtr 43 (cI 1)) [43],
dF (uO 45 (.eqa [] true 40 44)) [40,44]] [3,45])
(.cond 45 (.seq (rg [mV 4 (cI 3)] [4])
.ret)
.skip))
(.seq (rg [fA 46 1 none 3,
lD 47 none 46,
mV 7 47] [3,7])
(.seq (.seq (rg [fA 48 0 none 3,
lD 49 none 48,
bN 50 .eql 49 (cI 5)] [3,7,50])
(.cond 50 (rg [mV 51 7,
uO 52 (.slice none 51 (some (cI 1)) none none),
mV 7 52] [3,7])
.skip))
q4)))
def TO:ACode:=z0k rX
def ET (C:Hd)(gl:GL)(q4:ACode)(v3:AV)(h:aA)(x:Esc)(K:KT):Prop:=
 pK (VA 0 none v3) fun t1=>
 pK (IA none t1 h) fun t2=>
 AD C KH [t2] h fun t3 h4 y5=>
 pK (VA 1 none v3) fun t6=>
 pK (IA none t6 h4) fun t7=>
 (pK (IA none t6 h) fun v=>(fun u (g1:aA) (y1:Esc)=>u=t7∧g1=h∧y1=[]) v h [])∧(pK (VB t7) fun t8=>
 pK (sA .gtr t8 (AI 1)) fun t9=>
 pK (XG [] true t3 t9) fun t10=>
 SA t10 (K .ret ⟨[(4,(AI 3))],h4,(y5++x)⟩)
 (pK (VA 1 none v3) fun t11=>
 pK (IA none t11 h4) fun t12=>
 pK (VA 0 none v3) fun t13=>
 pK (IA none t13 h4) fun t14=>
 pK (sA .eql t14 (AI 5)) fun t15=>
 SA t15 (pK (cE none t12 (some (AI 1)) none none h4) fun t16=>
 NW C gl q4 ⟨[(3,v3),(7,t16)],h4,(y5++x)⟩ K)
 (NW C gl q4 ⟨[(3,v3),(7,t12),(50,t15)],h4,(y5++x)⟩ K)))
theorem z5O {C gl q4 e h x K}:NW C gl (z0k q4) ⟨e,h,x⟩ K=ET C gl q4 (bA e 3) h x K:=by kernel_rfl
theorem z9s {C gl e h x K}:NW C gl TO ⟨e,h,x⟩ K=ET C gl rX (bA e 3) h x K:=z5O
def z0i (q1 q5:ACode):ACode:=(.seq (rg [uO 3 (.box 1),
mV 4 (cI 0)] [0,3])
(.seq (.block 0 (.seq (rg [mV 10 0,
cL 11 VD [10,(cI 1),(cI 100)],
mV 9 11] [0,3,9])
(.cond 9 (.seq (rg [mV 4 (cI 1)] [4])
.ret)
(.seq (rg [fA 13 0 none 3,
lD 14 none 13,
cL 15 VD [14,(cI 1),(cI 6)],
mV 12 15] [0,3,12])
(.cond 12 (.seq (rg [mV 4 (cI 4)] [4])
.ret)
(.seq (rg [fA 17 1 none 3,
lD 18 none 17,
lN 19 18,
bN 20 .eql 19 (cI 0),
mV 16 20] [0,3,16])
(.cond 16 (.seq (rg [mV 4 (cI 8)] [4])
.ret)
(.seq (rg [fA 22 1 none 3,
lD 23 none 22,
lN 24 23,
bN 25 .gtr 24 (cI 6),
mV 21 25] [0,3,21])
(.cond 21 (.seq (rg [mV 4 (cI 2)] [4])
.ret)
.skip)))))))))
(.seq (.seq (rg [fA 26 1 none 3,
lD 27 none 26,
lN 28 27,
mV 29 (cI 0)] [0,3,27,28,29])
(.block 1 (.loop q1)))
q5)))
def AR:AFun:=⟨2,[.t 4],z0i qI TO,false,false⟩
def zF (C:Hd)(gl:GL)(q1 q5:ACode)(v0 v1:AV)(h:aA)(x:Esc)(K:KT):Prop:=
 wK (QF v1 h) fun t1 h2 y3=>
 C VD [v0,(AI 1),(AI 100)] h2 fun t4 h5 y6=>
 SA t4 (K .ret ⟨[(4,(AI 1))],h5,(y6++(y3++x))⟩)
 (pK (VA 0 none t1) fun t7=>
 pK (IA none t7 h5) fun t8=>
 C VD [t8,(AI 1),(AI 6)] h5 fun t9 h10 y11=>
 SA t9 (K .ret ⟨[(4,(AI 4))],h10,(y11++(y6++(y3++x)))⟩)
 (pK (VA 1 none t1) fun t12=>
 pK (IA none t12 h10) fun t13=>
 pK (VB t13) fun t14=>
 pK (sA .eql t14 (AI 0)) fun t15=>
 SA t15 (K .ret ⟨[(4,(AI 8))],h10,(y11++(y6++(y3++x)))⟩)
 (pK (VA 1 none t1) fun t16=>
 pK (IA none t16 h10) fun t17=>
 pK (VB t17) fun t18=>
 pK (sA .gtr t18 (AI 6)) fun t19=>
 SA t19 (K .ret ⟨[(4,(AI 2))],h10,(y11++(y6++(y3++x)))⟩)
 (pK (VA 1 none t1) fun t20=>
 pK (IA none t20 h10) fun t21=>
 pK (VB t21) fun t22=>
 NW C gl (.loop q1) ⟨[(0,v0),(3,t1),(27,t21),(28,t22),(29,(AI 0))],h10,(y11++(y6++(y3++x)))⟩ (tC 1 (iE C gl q5 K))))))
theorem z5M {C gl q1 q5 v0 v1 h x K}:NW C gl (z0i q1 q5) ⟨enter [v0,v1],h,x⟩ K=zF C gl q1 q5 v0 v1 h x K:=by kernel_rfl
theorem z9n {C gl v0 v1 h x K}:NW C gl AR.body ⟨enter [v0,v1],h,x⟩ K=zF C gl qI TO v0 v1 h x K:=z5M
def pX:ACode:=(.seq (rg [mV 2 cF] [0])
(.seq (rg [mV 3 0,
mV 4 0,
bN 5 .neq 3 4,
mV 2 5] [2])
.ret))
def yR:AFun:=⟨1,[.t 2],pX,false,false⟩
def jK (C:Hd)(gl:GL)(e:En)(h:aA)(x:Esc)(K:KT):Sf C gl pX e h x K:=⟨_,by simp only[pX,↓wZ,AO.still];rfl⟩
theorem z9l {C gl v0 h x K}:NW C gl yR.body ⟨enter [v0],h,x⟩ K=(jK C gl [(0,v0)] h x K).1:=(jK C gl [(0,v0)] h x K).2
def tJ:ACode:=.pr [0,1,2,6,7] (.seq (.seq (dr [dF (mV 16 7) [7],
dF (mV 17 1) [1],
dF (bN 18 .gtr 16 17) [16,17],
dF (mV 19 18) [18],
dF (gD 20 19 true (.mv 0)) [0,19],
dF (gD 21 19 true (.mv 7)) [7,19],
dF (gD 22 19 true (.iaddr none 20 21)) [20,21,19],
dF (gD 23 19 true (.load none 22)) [22,19],
dF (gD 24 19 true (.mv 0)) [0,19],
dF (gD 25 19 true (.mv 7)) [7,19],
dF (gD 26 19 true (.bin .sub 25 (cI 1))) [25,19],
dF (gD 27 19 true (.iaddr none 24 26)) [24,26,19],
dF (gD 28 19 true (.load none 27)) [27,19],
dT (gD 29 19 true (.call WD [23,28])) [23,28,19],
dF (uO 30 (.pick 19 29 cF)) [19,29]] [0,1,2,6,7,30])
(.cond 30 .skip
(.exit 2)))
(.seq (.block 3 (dr [dF (mV 33 0) [0],
dF (mV 34 7) [7],
dF (mV 35 0) [0],
dF (mV 36 7) [7],
dF (bN 37 .sub 36 (cI 1)) [36],
dF (mV 38 0) [0],
dF (mV 39 7) [7],
dF (bN 40 .sub 39 (cI 1)) [39],
dF (iA 41 none 38 40) [38,40],
dF (lD 42 none 41) [41],
dF (mV 43 0) [0],
dF (mV 44 7) [7],
dF (iA 45 none 43 44) [43,44],
dF (lD 46 none 45) [45],
dF (iA 47 none 33 34) [33,34],
dT (wO (.store none 47 42)) [47,42],
dF (iA 48 none 35 37) [35,37],
dT (wO (.store none 48 46)) [48,46]] [0,1,2,6,7]))
(rg [mV 31 7,
bN 32 .sub 31 (cI 1),
mV 7 32] [0,1,2,6,7])))
def nW (C:Hd)(gl:GL)(e:En)(h:aA)(x:Esc)(K:KT):Sf C gl tJ e h x K:=⟨_,by simp only[tJ,↓wZ,AO.still];rfl⟩
theorem zcJ {C gl e h x K}:NW C gl tJ ⟨e,h,x⟩ K=(nW C gl e h x K).1:=(nW C gl e h x K).2
theorem zfl {C gl e h x K}:NW C gl (.loop tJ) ⟨e,h,x⟩ K=CA C gl tJ K [(0,bA e 0),(1,bA e 1),(2,bA e 2),(6,bA e 6),(7,bA e 7)] h x:=YA
def AQ:ACode:=.pr [0,1,2,6] (rg [mV 13 6,
bN 14 .add 13 (cI 1),
mV 6 14] [0,1,2,6])
def oW (C:Hd)(gl:GL)(e:En)(h:aA)(x:Esc)(K:KT):Sf C gl AQ e h x K:=⟨_,by simp only[AQ,↓wZ,AO.still];rfl⟩
theorem zcK {C gl e h x K}:NW C gl AQ ⟨e,h,x⟩ K=(oW C gl e h x K).1:=(oW C gl e h x K).2
def uJ:ACode:=.pr [0,1,2,6] (.seq (.seq (rg [mV 10 6,
mV 11 2,
bN 12 .lss 10 11] [0,1,2,6,12])
(.cond 12 .skip
(.exit 0)))
(.seq (.block 1 (.seq (rg [mV 15 6,
mV 7 15] [0,1,2,6,7])
(.block 2 (.loop tJ))))
AQ))
def pW (C:Hd)(gl:GL)(e:En)(h:aA)(x:Esc)(K:KT):Sf C gl uJ e h x K:=⟨_,by simp only[uJ,↓wZ,AO.still];rfl⟩
theorem zcL {C gl e h x K}:NW C gl uJ ⟨e,h,x⟩ K=(pW C gl e h x K).1:=(pW C gl e h x K).2
theorem zfm {C gl e h x K}:NW C gl (.loop uJ) ⟨e,h,x⟩ K=CA C gl uJ K [(0,bA e 0),(1,bA e 1),(2,bA e 2),(6,bA e 6)] h x:=YA
def PY:ACode:=(.seq (rg [mV 8 1,
bN 9 .add 8 (cI 1),
mV 6 9] [0,1,2,6])
(.block 0 (.loop uJ)))
def YS:AFun:=⟨3,[],PY,true,false⟩
def EK (C:Hd)(gl:GL)(e:En)(h:aA)(x:Esc)(K:KT):Sf C gl PY e h x K:=⟨_,by simp only[PY,↓wZ,AO.still];rfl⟩
theorem zcI {C gl v0 v1 v2 h x K}:NW C gl YS.body ⟨enter [v0,v1,v2],h,x⟩ K=(EK C gl [(0,v0),(1,v1),(2,v2)] h x K).1:=(EK C gl [(0,v0),(1,v1),(2,v2)] h x K).2
def yP:ACode:=.pr [0,2] (.seq (rg [mV 19 2,
mV 20 0,
uO 21 (.conv (.i .u8) 20),
uO 22 (.idxs (cS [0,1,2,2,3,3,3,3,4,4,4,4,4,4,4,4,5,5,5,5,5,5,5,5,5,5,5,5,5,5,5,5,6,6,6,6,6,6,6,6,6,6,6,6,6,6,6,6,6,6,6,6,6,6,6,6,6,6,6,6,6,6,6,6,7,7,7,7,7,7,7,7,7,7,7,7,7,7,7,7,7,7,7,7,7,7,7,7,7,7,7,7,7,7,7,7,7,7,7,7,7,7,7,7,7,7,7,7,7,7,7,7,7,7,7,7,7,7,7,7,7,7,7,7,7,7,7,7,8,8,8,8,8,8,8,8,8,8,8,8,8,8,8,8,8,8,8,8,8,8,8,8,8,8,8,8,8,8,8,8,8,8,8,8,8,8,8,8,8,8,8,8,8,8,8,8,8,8,8,8,8,8,8,8,8,8,8,8,8,8,8,8,8,8,8,8,8,8,8,8,8,8,8,8,8,8,8,8,8,8,8,8,8,8,8,8,8,8,8,8,8,8,8,8,8,8,8,8,8,8,8,8,8,8,8,8,8,8,8,8,8,8,8,8,8,8,8,8,8,8,8,8,8,8,8,8]) 21),
uO 23 (.conv (.i .i64) 22),
bN 24 .add 19 23,
mV 2 24] [2])
.ret)
def yU (C:Hd)(gl:GL)(e:En)(h:aA)(x:Esc)(K:KT):Sf C gl yP e h x K:=⟨_,by simp only[yP,↓wZ,AO.still];rfl⟩
theorem zay {C gl e h x K}:NW C gl yP ⟨e,h,x⟩ K=(yU C gl e h x K).1:=(yU C gl e h x K).2
def zP:ACode:=.pr [0,2] (.seq (.seq (rg [mV 13 0,
bN 14 .geq 13 (.c (.p (.int .u64 256)))] [0,2,14])
(.cond 14 (.seq (rg [mV 15 0,
bN 16 .shr 15 (.c (.p (.int .u64 8))),
mV 0 16] [0,2])
(rg [mV 17 2,
bN 18 .add 17 (cI 8),
mV 2 18] [0,2]))
.skip))
yP)
def zU (C:Hd)(gl:GL)(e:En)(h:aA)(x:Esc)(K:KT):Sf C gl zP e h x K:=⟨_,by simp only[zP,↓wZ,AO.still];rfl⟩
theorem zaz {C gl e h x K}:NW C gl zP ⟨e,h,x⟩ K=(zU C gl e h x K).1:=(zU C gl e h x K).2
def AP:ACode:=.pr [0,2] (.seq (.seq (rg [mV 7 0,
bN 8 .geq 7 (.c (.p (.int .u64 65536)))] [0,2,8])
(.cond 8 (.seq (rg [mV 9 0,
bN 10 .shr 9 (.c (.p (.int .u64 16))),
mV 0 10] [0,2])
(rg [mV 11 2,
bN 12 .add 11 (cI 16),
mV 2 12] [0,2]))
.skip))
zP)
def BU (C:Hd)(gl:GL)(e:En)(h:aA)(x:Esc)(K:KT):Sf C gl AP e h x K:=⟨_,by simp only[AP,↓wZ,AO.still];rfl⟩
theorem za0 {C gl e h x K}:NW C gl AP ⟨e,h,x⟩ K=(BU C gl e h x K).1:=(BU C gl e h x K).2
def MX:ACode:=(.seq (rg [mV 2 (cI 0)] [0,2])
(.seq (.seq (rg [mV 3 0,
bN 4 .geq 3 (.c (.p (.int .u64 4294967296)))] [0,2,4])
(.cond 4 (.seq (rg [mV 5 0,
bN 6 .shr 5 (.c (.p (.int .u64 32))),
mV 0 6] [0])
(rg [mV 2 (cI 32)] [0,2]))
.skip))
AP))
def TR:AFun:=⟨1,[.t 2],MX,false,false⟩
def mN (C:Hd)(gl:GL)(e:En)(h:aA)(x:Esc)(K:KT):Sf C gl MX e h x K:=⟨_,by simp only[MX,↓wZ,AO.still];rfl⟩
theorem zax {C gl v0 h x K}:NW C gl TR.body ⟨enter [v0],h,x⟩ K=(mN C gl [(0,v0)] h x K).1:=(mN C gl [(0,v0)] h x K).2
def kX:ACode:=(.seq (rg [mV 2 cF] [0])
(.seq (rg [mV 3 0,
cL 4 oO [3,(cS [48,49])],
bN 5 .eql 4 (cS []),
mV 2 5] [2])
.ret))
def tR:AFun:=⟨1,[.t 2],kX,false,false⟩
def TM (C:Hd)(gl:GL)(e:En)(h:aA)(x:Esc)(K:KT):Sf C gl kX e h x K:=⟨_,by simp only[kX,↓wZ,AO.still];rfl⟩
theorem z9g {C gl v0 h x K}:NW C gl tR.body ⟨enter [v0],h,x⟩ K=(TM C gl [(0,v0)] h x K).1:=(TM C gl [(0,v0)] h x K).2
def rJ:ACode:=.pr [0,1,7,8] (.seq (rg [bN 9 .lss 8 7] [0,1,7,8,9])
(.seq (.cond 9 .skip
(.exit 0))
(.seq (.block 1 (.seq (rg [mV 10 8,
mV 5 10] [0,1,5,7,8])
(.seq (rg [mV 11 1,
mV 12 0,
mV 13 5,
iA 14 none 12 13,
lD 15 none 14,
uO 16 (.callv 11 [15])] [0,1,5,7,8,16])
(.cond 16 (.seq (rg [mV 17 5,
mV 4 17] [4])
.ret)
.skip))))
(rg [bN 18 .add 8 (cI 1),
mV 8 18] [0,1,7,8]))))
def jW (C:Hd)(gl:GL)(e:En)(h:aA)(x:Esc)(K:KT):Sf C gl rJ e h x K:=⟨_,by simp only[rJ,↓wZ,AO.still];rfl⟩
theorem zc9 {C gl e h x K}:NW C gl rJ ⟨e,h,x⟩ K=(jW C gl e h x K).1:=(jW C gl e h x K).2
theorem zfj {C gl e h x K}:NW C gl (.loop rJ) ⟨e,h,x⟩ K=CA C gl rJ K [(0,bA e 0),(1,bA e 1),(7,bA e 7),(8,bA e 8)] h x:=YA
def yQ:ACode:=.pr [] (.seq (rg [mV 4 (cI (-1))] [4])
.ret)
def kW (C:Hd)(gl:GL)(e:En)(h:aA)(x:Esc)(K:KT):Sf C gl yQ e h x K:=⟨_,by simp only[yQ,↓wZ,AO.still];rfl⟩
theorem zcA {C gl e h x K}:NW C gl yQ ⟨e,h,x⟩ K=(kW C gl e h x K).1:=(kW C gl e h x K).2
def JY:ACode:=(.seq (rg [mV 4 (cI 0)] [0,1])
(.seq (.seq (rg [mV 6 0,
lN 7 6,
mV 8 (cI 0)] [0,1,7,8])
(.block 0 (.loop rJ)))
yQ))
def SS:AFun:=⟨2,[.t 4],JY,true,false⟩
def WN (C:Hd)(gl:GL)(e:En)(h:aA)(x:Esc)(K:KT):Sf C gl JY e h x K:=⟨_,by simp only[JY,↓wZ,AO.still];rfl⟩
theorem zc8 {C gl v0 v1 h x K}:NW C gl SS.body ⟨enter [v0,v1],h,x⟩ K=(WN C gl [(0,v0),(1,v1)] h x K).1:=(WN C gl [(0,v0),(1,v1)] h x K).2
end Go.Am
end
section
/- The functions asv abstract code,and asv formulas over their values: printed by program out of the translation. -/
set_option linter.all false
set_option maxRecDepth 100000
namespace Go.Am
def FQ:ACode:=.pr [0,1,2,3,8,9,10,11] (.seq (.seq (dr [dF (mV 73 1) [1],
dF (bN 74 .gtr 73 (cI 0)) [73],
dF (mV 75 74) [74],
dF (gD 76 75 true (.mv 0)) [0,75],
dF (gD 77 75 true (.mv 1)) [1,75],
dF (gD 78 75 true (.bin .sub 77 (cI 1))) [77,75],
dF (gD 79 75 true (.iaddr none 76 78)) [76,78,75],
dF (gD 80 75 true (.load none 79)) [79,75],
dF (gD 81 75 true (.mv 0)) [0,75],
dF (gD 82 75 true (.mv 11)) [11,75],
dF (gD 83 75 true (.iaddr none 81 82)) [81,82,75],
dF (gD 84 75 true (.load none 83)) [83,75],
dT (gD 85 75 true (.call EF [80,84])) [80,84,75],
dF (gD 86 75 true (.un .not 85)) [85,75],
dF (uO 87 (.pick 75 86 cF)) [75,86]] [0,1,2,3,8,9,10,11,87])
(.cond 87 (.seq (rg [mV 88 0,
mV 89 1,
mV 90 2,
mV 91 11,
cL 92 zdv [88,89,90,91],
mV 13 92] [0,2,3,8,9,13])
(.seq (rg [mV 93 13,
mV 1 93] [0,1,2,3,8,9])
(.exit 1)))
.skip))
(.seq (rg [mV 95 0,
mV 96 1,
mV 97 2,
mV 98 11,
cL 99 zdx [95,96,97,98],
mV 94 99,
eX 100 94 0,
eX 101 94 1,
mV 14 100,
mV 15 101] [0,1,2,3,10,14,15])
(.seq (rg [mV 102 15,
mV 9 102] [0,1,2,3,9,10,14])
(.seq (rg [mV 103 14,
mV 104 1,
bN 105 .sub 103 104,
mV 106 2,
mV 107 14,
bN 108 .sub 106 107,
mV 16 105,
mV 17 108] [0,1,2,3,9,10,14,16,17])
(.seq (rg [mV 109 10,
bN 110 .quo 109 (cI 8),
mV 18 110] [0,1,2,3,9,14,16,17,18])
(.seq (rg [mV 111 16,
mV 112 17,
bN 113 .lss 111 112] [0,1,2,3,9,14,16,17,18,113])
(.cond 113 (.seq (rg [mV 114 16,
mV 115 18,
bN 116 .geq 114 115,
mV 8 116] [0,1,2,3,8,9,14])
(.seq (rg [mV 117 0,
mV 118 1,
mV 119 14,
mV 120 3,
cL 121 QG [117,118,119,120]] [0,2,3,8,9,14])
(rg [mV 122 14,
bN 123 .add 122 (cI 1),
mV 1 123] [0,1,2,3,8,9])))
(.seq (rg [mV 124 17,
mV 125 18,
bN 126 .geq 124 125,
mV 8 126] [0,1,2,3,8,9,14])
(.seq (rg [mV 127 0,
mV 128 14,
bN 129 .add 128 (cI 1),
mV 130 2,
mV 131 3,
cL 132 QG [127,129,130,131]] [0,1,3,8,9,14])
(rg [mV 133 14,
mV 2 133] [0,1,2,3,8,9]))))))))))
def xW (C:Hd)(gl:GL)(e:En)(h:aA)(x:Esc)(K:KT):Sf C gl FQ e h x K:=⟨_,by simp only[FQ,↓wZ,AO.still];rfl⟩
theorem zcW {C gl e h x K}:NW C gl FQ ⟨e,h,x⟩ K=(xW C gl e h x K).1:=(xW C gl e h x K).2
def GQ:ACode:=.pr [0,1,2,3,8,9,10,11,12] (.seq (.seq (rg [mV 61 8,
mV 62 61,
gD 63 62 true (.mv 9),
uO 64 (.pick 62 63 cF),
mV 65 64,
gD 66 65 true (.mv 12),
gD 67 65 true (.bin .eql 66 (cI 1)),
uO 68 (.pick 65 67 cF)] [0,1,2,3,8,9,10,11,68])
(.cond 68 (.seq (rg [mV 69 0,
mV 70 1,
mV 71 2,
cL 72 zdt [69,70,71]] [0,1,2,3,8,9,10,11,72])
(.cond 72 .ret
.skip))
.skip))
FQ)
def yW (C:Hd)(gl:GL)(e:En)(h:aA)(x:Esc)(K:KT):Sf C gl GQ e h x K:=⟨_,by simp only[GQ,↓wZ,AO.still];rfl⟩
theorem zcX {C gl e h x K}:NW C gl GQ ⟨e,h,x⟩ K=(yW C gl e h x K).1:=(yW C gl e h x K).2
def HQ:ACode:=.pr [0,1,2,3,8,9,10] (.seq (rg [mV 43 0,
mV 44 1,
mV 45 2,
cL 46 zdp [43,44,45],
mV 42 46,
eX 47 42 0,
eX 48 42 1,
mV 11 47,
mV 12 48] [0,1,2,3,8,9,10,11,12])
(.seq (.seq (rg [mV 49 12,
bN 50 .eql 49 (cI 2)] [0,1,2,3,8,9,10,11,12,50])
(.cond 50 (.seq (rg [mV 51 0,
mV 52 1,
mV 53 2,
cL 54 zdz [51,52,53]] [0,1,2,3,8,9,10,11])
(.seq (rg [mV 55 2,
bN 56 .sub 55 (cI 1),
mV 57 11,
mV 58 1,
bN 59 .sub 57 58,
bN 60 .sub 56 59,
mV 11 60] [0,1,2,3,8,9,10,11])
(rg [mV 12 (cI 1)] [0,1,2,3,8,9,10,11,12])))
.skip))
GQ))
def zW (C:Hd)(gl:GL)(e:En)(h:aA)(x:Esc)(K:KT):Sf C gl HQ e h x K:=⟨_,by simp only[HQ,↓wZ,AO.still];rfl⟩
theorem zcY {C gl e h x K}:NW C gl HQ ⟨e,h,x⟩ K=(zW C gl e h x K).1:=(zW C gl e h x K).2
def yJ:ACode:=.pr [0,1,2,3,8,9] (.block 1 (.seq (rg [mV 19 2,
mV 20 1,
bN 21 .sub 19 20,
mV 10 21] [0,1,2,3,8,9,10])
(.seq (.seq (rg [mV 22 10,
bN 23 .leq 22 (cI 12)] [0,1,2,3,8,9,10,23])
(.cond 23 (.seq (rg [mV 24 0,
mV 25 1,
mV 26 2,
cL 27 sL [24,25,26]] [])
.ret)
.skip))
(.seq (.seq (rg [mV 28 3,
bN 29 .eql 28 (cI 0)] [0,1,2,3,8,9,10,29])
(.cond 29 (.seq (rg [mV 30 0,
mV 31 1,
mV 32 2,
cL 33 zdr [30,31,32]] [])
.ret)
.skip))
(.seq (.seq (rg [mV 34 8,
uO 35 (.un .not 34)] [0,1,2,3,8,9,10,35])
(.cond 35 (.seq (rg [mV 36 0,
mV 37 1,
mV 38 2,
cL 39 zdn [36,37,38]] [0,1,2,3,8,9,10])
(rg [mV 40 3,
bN 41 .sub 40 (cI 1),
mV 3 41] [0,1,2,3,8,9,10]))
.skip))
HQ)))))
def BW (C:Hd)(gl:GL)(e:En)(h:aA)(x:Esc)(K:KT):Sf C gl yJ e h x K:=⟨_,by simp only[yJ,↓wZ,AO.still];rfl⟩
theorem zcZ {C gl e h x K}:NW C gl yJ ⟨e,h,x⟩ K=(BW C gl e h x K).1:=(BW C gl e h x K).2
theorem zfq {C gl e h x K}:NW C gl (.loop yJ) ⟨e,h,x⟩ K=CA C gl yJ K [(0,bA e 0),(1,bA e 1),(2,bA e 2),(3,bA e 3),(8,bA e 8),(9,bA e 9)] h x:=YA
def SY:ACode:=(.seq (rg [mV 8 cT] [0,1,2,3,8])
(.seq (rg [mV 9 cT] [0,1,2,3,8,9])
(.block 0 (.loop yJ))))
def bT:AFun:=⟨4,[],SY,true,false⟩
def cO (C:Hd)(gl:GL)(e:En)(h:aA)(x:Esc)(K:KT):Sf C gl SY e h x K:=⟨_,by simp only[SY,↓wZ,AO.still];rfl⟩
theorem zcV {C gl v0 v1 v2 v3 h x K}:NW C gl bT.body ⟨enter [v0,v1,v2,v3],h,x⟩ K=(cO C gl [(0,v0),(1,v1),(2,v2),(3,v3)] h x K).1:=(cO C gl [(0,v0),(1,v1),(2,v2),(3,v3)] h x K).2
def fJ:ACode:=.pr [0,1,7,8] (.seq (rg [bN 9 .lss 8 7] [0,1,7,8,9])
(.seq (.cond 9 .skip
(.exit 0))
(.seq (.block 1 (.seq (rg [mV 10 8,
mV 5 10] [0,1,5,7,8])
(.seq (rg [mV 11 1,
mV 12 0,
mV 13 5,
uO 14 (.idxs 12 13),
cL 15 tL [11,14],
bN 16 .lss 15 (cI 0)] [0,1,7,8,16])
(.cond 16 (.seq (rg [mV 4 cF] [4])
.ret)
.skip))))
(rg [bN 17 .add 8 (cI 1),
mV 8 17] [0,1,7,8]))))
def BV (C:Hd)(gl:GL)(e:En)(h:aA)(x:Esc)(K:KT):Sf C gl fJ e h x K:=⟨_,by simp only[fJ,↓wZ,AO.still];rfl⟩
theorem zbN {C gl e h x K}:NW C gl fJ ⟨e,h,x⟩ K=(BV C gl e h x K).1:=(BV C gl e h x K).2
theorem zeX {C gl e h x K}:NW C gl (.loop fJ) ⟨e,h,x⟩ K=CA C gl fJ K [(0,bA e 0),(1,bA e 1),(7,bA e 7),(8,bA e 8)] h x:=YA
def eQ:ACode:=.pr [] (.seq (rg [mV 4 cT] [4])
.ret)
def DV (C:Hd)(gl:GL)(e:En)(h:aA)(x:Esc)(K:KT):Sf C gl eQ e h x K:=⟨_,by simp only[eQ,↓wZ,AO.still];rfl⟩
theorem zbO {C gl e h x K}:NW C gl eQ ⟨e,h,x⟩ K=(DV C gl e h x K).1:=(DV C gl e h x K).2
def sY:ACode:=(.seq (rg [mV 4 cF] [0,1])
(.seq (.seq (rg [mV 6 0,
uO 7 (.lens 6),
mV 8 (cI 0)] [0,1,7,8])
(.block 0 (.loop fJ)))
eQ))
def CS:AFun:=⟨2,[.t 4],sY,false,false⟩
def KN (C:Hd)(gl:GL)(e:En)(h:aA)(x:Esc)(K:KT):Sf C gl sY e h x K:=⟨_,by simp only[sY,↓wZ,AO.still];rfl⟩
theorem zbM {C gl v0 v1 h x K}:NW C gl CS.body ⟨enter [v0,v1],h,x⟩ K=(KN C gl [(0,v0),(1,v1)] h x K).1:=(KN C gl [(0,v0),(1,v1)] h x K).2
def pJ:ACode:=.pr [0,1,7,8] (.seq (rg [bN 9 .lss 8 7] [0,1,7,8,9])
(.seq (.cond 9 .skip
(.exit 0))
(.seq (.block 1 (.seq (rg [mV 10 8,
mV 5 10] [0,1,5,7,8])
(.seq (rg [mV 11 1,
mV 12 0,
mV 13 5,
iA 14 none 12 13,
lD 15 none 14,
uO 16 (.callv 11 [15])] [0,1,5,7,8,16])
(.cond 16 (.seq (rg [mV 17 5,
mV 4 17] [4])
.ret)
.skip))))
(rg [bN 18 .add 8 (cI 1),
mV 8 18] [0,1,7,8]))))
def eW (C:Hd)(gl:GL)(e:En)(h:aA)(x:Esc)(K:KT):Sf C gl pJ e h x K:=⟨_,by simp only[pJ,↓wZ,AO.still];rfl⟩
theorem zc3 {C gl e h x K}:NW C gl pJ ⟨e,h,x⟩ K=(eW C gl e h x K).1:=(eW C gl e h x K).2
theorem zfh {C gl e h x K}:NW C gl (.loop pJ) ⟨e,h,x⟩ K=CA C gl pJ K [(0,bA e 0),(1,bA e 1),(7,bA e 7),(8,bA e 8)] h x:=YA
def wQ:ACode:=.pr [] (.seq (rg [mV 4 (cI (-1))] [4])
.ret)
def fW (C:Hd)(gl:GL)(e:En)(h:aA)(x:Esc)(K:KT):Sf C gl wQ e h x K:=⟨_,by simp only[wQ,↓wZ,AO.still];rfl⟩
theorem zc4 {C gl e h x K}:NW C gl wQ ⟨e,h,x⟩ K=(fW C gl e h x K).1:=(fW C gl e h x K).2
def HY:ACode:=(.seq (rg [mV 4 (cI 0)] [0,1])
(.seq (.seq (rg [mV 6 0,
lN 7 6,
mV 8 (cI 0)] [0,1,7,8])
(.block 0 (.loop pJ)))
wQ))
def QS:AFun:=⟨2,[.t 4],HY,true,false⟩
def UN (C:Hd)(gl:GL)(e:En)(h:aA)(x:Esc)(K:KT):Sf C gl HY e h x K:=⟨_,by simp only[HY,↓wZ,AO.still];rfl⟩
theorem zc2 {C gl v0 v1 h x K}:NW C gl QS.body ⟨enter [v0,v1],h,x⟩ K=(UN C gl [(0,v0),(1,v1)] h x K).1:=(UN C gl [(0,v0),(1,v1)] h x K).2
def wY:ACode:=(.det (.seq (rg [mV 2 (.c (.p (.sl none [])))] [0])
(.seq (.seq (rg [mV 3 0,
uO 4 (.isnil 4 false 3)] [0,4])
(.condu 4 (.seq (rg [uO 2 (.new0 none)] [2])
.ret)
.skip))
(.seq (rg [uO 5 (.bsl true none 0 (.int .u64 0) []),
mV 6 0,
uO 7 (.app none 5 6),
mV 2 7] [2])
.ret))))
def FS:AFun:=⟨1,[.t 2],wY,false,true⟩
def NN (C:Hd)(gl:GL)(e:En)(h:aA)(x:Esc)(K:KT):Sf C gl wY e h x K:=⟨_,by simp only[wY,↓wZ,AO.still];rfl⟩
theorem zbW {C gl v0 h x K}:NW C gl FS.body ⟨enter [v0],h,x⟩ K=(NN C gl [(0,v0)] h x K).1:=(NN C gl [(0,v0)] h x K).2
def vJ:ACode:=.pr [0,1,2,6,7] (.seq (.seq (dr [dF (mV 16 7) [7],
dF (mV 17 1) [1],
dF (bN 18 .gtr 16 17) [16,17],
dF (mV 19 18) [18],
dF (gD 20 19 true (.mv 0)) [0,19],
dF (gD 21 19 true (.mv 7)) [7,19],
dF (gD 22 19 true (.iaddr none 20 21)) [20,21,19],
dF (gD 23 19 true (.load none 22)) [22,19],
dF (gD 24 19 true (.mv 0)) [0,19],
dF (gD 25 19 true (.mv 7)) [7,19],
dF (gD 26 19 true (.bin .sub 25 (cI 1))) [25,19],
dF (gD 27 19 true (.iaddr none 24 26)) [24,26,19],
dF (gD 28 19 true (.load none 27)) [27,19],
dT (gD 29 19 true (.call EF [23,28])) [23,28,19],
dF (uO 30 (.pick 19 29 cF)) [19,29]] [0,1,2,6,7,30])
(.cond 30 .skip
(.exit 2)))
(.seq (.block 3 (dr [dF (mV 33 0) [0],
dF (mV 34 7) [7],
dF (mV 35 0) [0],
dF (mV 36 7) [7],
dF (bN 37 .sub 36 (cI 1)) [36],
dF (mV 38 0) [0],
dF (mV 39 7) [7],
dF (bN 40 .sub 39 (cI 1)) [39],
dF (iA 41 none 38 40) [38,40],
dF (lD 42 none 41) [41],
dF (mV 43 0) [0],
dF (mV 44 7) [7],
dF (iA 45 none 43 44) [43,44],
dF (lD 46 none 45) [45],
dF (iA 47 none 33 34) [33,34],
dT (wO (.store none 47 42)) [47,42],
dF (iA 48 none 35 37) [35,37],
dT (wO (.store none 48 46)) [48,46]] [0,1,2,6,7]))
(rg [mV 31 7,
bN 32 .sub 31 (cI 1),
mV 7 32] [0,1,2,6,7])))
def qW (C:Hd)(gl:GL)(e:En)(h:aA)(x:Esc)(K:KT):Sf C gl vJ e h x K:=⟨_,by simp only[vJ,↓wZ,AO.still];rfl⟩
theorem zcN {C gl e h x K}:NW C gl vJ ⟨e,h,x⟩ K=(qW C gl e h x K).1:=(qW C gl e h x K).2
theorem zfn {C gl e h x K}:NW C gl (.loop vJ) ⟨e,h,x⟩ K=CA C gl vJ K [(0,bA e 0),(1,bA e 1),(2,bA e 2),(6,bA e 6),(7,bA e 7)] h x:=YA
def BQ:ACode:=.pr [0,1,2,6] (rg [mV 13 6,
bN 14 .add 13 (cI 1),
mV 6 14] [0,1,2,6])
def rW (C:Hd)(gl:GL)(e:En)(h:aA)(x:Esc)(K:KT):Sf C gl BQ e h x K:=⟨_,by simp only[BQ,↓wZ,AO.still];rfl⟩
theorem zcO {C gl e h x K}:NW C gl BQ ⟨e,h,x⟩ K=(rW C gl e h x K).1:=(rW C gl e h x K).2
def wJ:ACode:=.pr [0,1,2,6] (.seq (.seq (rg [mV 10 6,
mV 11 2,
bN 12 .lss 10 11] [0,1,2,6,12])
(.cond 12 .skip
(.exit 0)))
(.seq (.block 1 (.seq (rg [mV 15 6,
mV 7 15] [0,1,2,6,7])
(.block 2 (.loop vJ))))
BQ))
def sW (C:Hd)(gl:GL)(e:En)(h:aA)(x:Esc)(K:KT):Sf C gl wJ e h x K:=⟨_,by simp only[wJ,↓wZ,AO.still];rfl⟩
theorem zcP {C gl e h x K}:NW C gl wJ ⟨e,h,x⟩ K=(sW C gl e h x K).1:=(sW C gl e h x K).2
theorem zfo {C gl e h x K}:NW C gl (.loop wJ) ⟨e,h,x⟩ K=CA C gl wJ K [(0,bA e 0),(1,bA e 1),(2,bA e 2),(6,bA e 6)] h x:=YA
def QY:ACode:=(.seq (rg [mV 8 1,
bN 9 .add 8 (cI 1),
mV 6 9] [0,1,2,6])
(.block 0 (.loop wJ)))
def ZS:AFun:=⟨3,[],QY,true,false⟩
def bO (C:Hd)(gl:GL)(e:En)(h:aA)(x:Esc)(K:KT):Sf C gl QY e h x K:=⟨_,by simp only[QY,↓wZ,AO.still];rfl⟩
theorem zcM {C gl v0 v1 v2 h x K}:NW C gl ZS.body ⟨enter [v0,v1,v2],h,x⟩ K=(bO C gl [(0,v0),(1,v1),(2,v2)] h x K).1:=(bO C gl [(0,v0),(1,v1),(2,v2)] h x K).2
def oX:ACode:=(.seq (rg [mV 4 cF] [0,1])
(.seq (rg [mV 5 0,
cL 6 FH [5],
mV 7 6,
gD 8 7 true (.mv 1),
gD 9 7 true (.call FH [8]),
gD 10 7 true (.un .not 9),
uO 11 (.pick 7 10 cF),
mV 12 11,
gD 13 12 false (.mv 0),
gD 14 12 false (.mv 1),
gD 15 12 false (.bin .lss 13 14),
uO 16 (.pick 12 cT 15),
mV 4 16] [4])
.ret))
def xR:AFun:=⟨2,[.t 4],oX,false,false⟩
def WM (C:Hd)(gl:GL)(e:En)(h:aA)(x:Esc)(K:KT):Sf C gl oX e h x K:=⟨_,by simp only[oX,↓wZ,AO.still];rfl⟩
theorem z9k {C gl v0 v1 h x K}:NW C gl xR.body ⟨enter [v0,v1],h,x⟩ K=(WM C gl [(0,v0),(1,v1)] h x K).1:=(WM C gl [(0,v0),(1,v1)] h x K).2
def TY:ACode:=(.seq (rg [mV 4 (cI 0)] [0,1])
(.seq (rg [mV 5 0,
mV 6 1,
cL 7 PK [5,6],
mV 4 7] [4])
.ret))
def eT:AFun:=⟨2,[.t 4],TY,false,false⟩
def dO (C:Hd)(gl:GL)(e:En)(h:aA)(x:Esc)(K:KT):Sf C gl TY e h x K:=⟨_,by simp only[TY,↓wZ,AO.still];rfl⟩
theorem zda {C gl v0 v1 h x K}:NW C gl eT.body ⟨enter [v0,v1],h,x⟩ K=(dO C gl [(0,v0),(1,v1)] h x K).1:=(dO C gl [(0,v0),(1,v1)] h x K).2
def qX:ACode:=(.seq (rg [mV 2 cF] [0])
(.seq (rg [mV 3 0,
mV 4 0,
bN 5 .neq 3 4,
mV 2 5] [2])
.ret))
def zR:AFun:=⟨1,[.t 2],qX,false,false⟩
def XM (C:Hd)(gl:GL)(e:En)(h:aA)(x:Esc)(K:KT):Sf C gl qX e h x K:=⟨_,by simp only[qX,↓wZ,AO.still];rfl⟩
theorem z9m {C gl v0 h x K}:NW C gl zR.body ⟨enter [v0],h,x⟩ K=(XM C gl [(0,v0)] h x K).1:=(XM C gl [(0,v0)] h x K).2
def KX:ACode:=(.seq (rg [mV 4 (cI 0)] [0,1])
(.seq (rg [mV 5 0,
mV 6 1,
cL 7 BG [5,6],
mV 4 7] [4])
.ret))
def QR:AFun:=⟨2,[.t 4],KX,false,false⟩
def jN (C:Hd)(gl:GL)(e:En)(h:aA)(x:Esc)(K:KT):Sf C gl KX e h x K:=⟨_,by simp only[KX,↓wZ,AO.still];rfl⟩
theorem zav {C gl v0 v1 h x K}:NW C gl QR.body ⟨enter [v0,v1],h,x⟩ K=(jN C gl [(0,v0),(1,v1)] h x K).1:=(jN C gl [(0,v0),(1,v1)] h x K).2
end Go.Am
end
section
/- The abstract machine,part L: functions of the library that are met by the kit's contracts: plain values in,plain values out,new memory at most. -/
set_option linter.unusedSimpArgs false
set_option linter.unusedVariables false
namespace Go.Am
variable {P:Program} {gl:Nat→Option PV}
structure PureRow (P:Program) (gl:Nat→Option PV) (f:Nat) (spec:List PV→Option AV):Prop where
 enter:∀us w,(callFunc f us).run P w = .ok (.enter f us) w
 run:∀(M:Mem) (w:World) (vs:List PV) (r:AV) (us:List Value),(∀b o v,M.c b o=some v→w.cell? ⟨b,o,none⟩=some v)→(∀b o,M.b b=some o→w.heap[b]?=some o)→nE gl M→vs.length=us.length →
  (∀(j:Nat) (y:PV) (v:Value),vs[j]?=some y→us[j]?=some v→RPV M y v)→spec vs=some r →
  Calls P f us.toArray w fun e w'=>∃x,e = .returned x∧WExt w w'∧RAV (SC M w w') [] [] r x
abbrev TC:=List (Nat × (List PV→Option AV))
def WF:TC→Nat→List AV→aA→Option (AV × aA × Esc)
 | [],_,_,_=>none
 | (g,s)::r,f,asv,h=>bif Nat.beq f g then((unp asv).bind s).map fun v=>(v,h,[]) else WF r f asv h
theorem cZ:∀ (gs:TC),(∀ g s,(g,s)∈gs→PureRow P gl g s)→∀ {f:Nat} {asv:List AV} {h:aA} {v:AV} {h':aA} {x:Esc},WF gs f asv h=some (v,h',x) →
 xB P gl f asv h fun v1 h1 x1=>v1=v∧h1=h'∧x1=x
 | [],_,f,asv,h,v,h',x,H=>by cases H
 | (g,s)::r,hg,f,asv,h,v,h',x,H=>by
  unfold WF at H;cases e1:Nat.beq f g with
  | false=>
   rw[e1]at H;exact cZ r (fun g sh hm=>hg g sh (by simp [hm])) H
  | true=>
   rw[e1]at H;have e:=Nat.eq_of_beq_eq_true e1
   subst e;have R:=hg f s (by simp)
   simp only[cond_true]at H;obtain⟨y,hy,e2⟩:=Option.map_eq_some_iff.1 H;simp only[Prod.mk.injEq]at e2;obtain⟨rfl,rfl,rfl⟩:=e2;obtain⟨ps,hps,hs⟩:=Option.bind_eq_some_iff.1 hy;have hm:=LJ hps
   subst hm;intro μ w vs Hh Hg hl hr;refine .inl ⟨R.enter _,?_⟩;refine(R.run (imm h μ w) w ps y vs (fun b o v hv=>(vC.1 hv).2) (fun b o hv=>(FL.1 hv).2) Hg (by simpa using hl) (fun j q v hq hv=>(hr j (.p q) v (by simp [hq]) hv).p_inv) hs).mono fun e w' he=>?_
   obtain⟨u,rfl,g1,g2⟩:=he;obtain⟨n1,n2⟩:=Hh.ext g1;have Lq:(SC (imm h μ w) w w').le (imm h μ w'):=by
    refine⟨fun b o v hv=>?_,fun b o hv=>?_,rfl,fun _ _ h=>by cases h⟩
    ·dsimp only[SC]at hv
     split at hv
     ·exact n2.le.c _ _ _ hv
     ·rename_i hb
      exact vC.2 ⟨fun hO=>hb (RO Hh hO),hv⟩
    ·dsimp only[SC]at hv
     cases hv
   exact⟨_,_,_,μ,⟨rfl,rfl,rfl⟩,g2.evo ⟨Lq,Nat.zero_le _,fun id o m h1=>by simp at h1⟩,n1,n2,rA.refl h []⟩
def bF (gs:List (Nat × Sh))(ps:TC)(f:Nat)(asv:List AV)(h:aA):Option (AV×aA×Esc):=match fI gs f asv h with
 | some y=>some y
 | none=>match WF ps f asv h with
  | some y=>some y
  | none=>match mA h asv with
   | some (asv',h1)=>WF ps f asv' h1
   | none=>none
theorem zgr {ps:TC}(hp:∀ g s,(g,s)∈ps→PureRow P gl g s){f:Nat}{asv asv':List AV}{h h1:aA}{v:AV}{h':aA}{x:Esc}(hq:mA h asv=some (asv',h1))(H:WF ps f asv' h1=some (v,h',x)) :
 xB P gl f asv h fun v1 h2 x1=>v1=v∧h2=h'∧x1=x:=by
 intro μ w vs Hh Hg hl hr;obtain⟨q1,q2,q3⟩:=PQ asv Hh hl hr hq;rcases cZ ps hp H μ w vs q1.1 (Hg.mono q1.2.1.le) q2 q3 with⟨k1,k2⟩|⟨r,w',v2,h2,x2,μ',k1,k2,k3,k4,k5,k6⟩
 ·refine .inl ⟨k1,k2.mono fun e w' he=>?_⟩
  cases e with
  | returned r=>
   obtain⟨v2,h2,x2,μ',k2,k3,k4,k5,k6⟩:=he;exact⟨v2,h2,x2,μ',k2,k3,k4,q1.2.1.trans k5,by simpa using q1.2.2.trans k6⟩
  | panicked _=>exact he
  | outgrown=>exact he
 ·exact .inr ⟨r,w',v2,h2,x2,μ',k1,k2,k3,k4,q1.2.1.trans k5,by simpa using q1.2.2.trans k6⟩
theorem zf0 {gs:List (Nat × Sh)}{ps:TC}(hg:∀ g sh,(g,sh)∈gs→GrowRow P g sh)(hp:∀ g s,(g,s)∈ps→PureRow P gl g s){f:Nat}{asv:List AV}{h:aA}{v:AV}{h':aA}{x:Esc}(H:bF gs ps f asv h=some (v,h',x)) :
 xB P gl f asv h fun v1 h1 x1=>v1=v∧h1=h'∧x1=x:=by
 unfold bF at H;split at H
 ·rename_i y hy
  cases H;exact z2H gs hg hy
 ·split at H
  ·rename_i y hy
   cases H;exact cZ ps hp hy
  ·split at H
   ·rename_i asv' h1 hq
    exact zgr hp hq H
   ·cases H
theorem gX {X:Ctx}{f:Nat}{asv:List AV}{h h':aA}{v:AV}{x:Esc}{K:jA}(hf:X.fn f=none)(hx:X.ex2 f asv h=some (v,h',x)):eA X f asv h K=K v h' x:=by
 refine propext (eA.eq (eA.fold ?_) K);unfold GB;simp only[hf,hx];exact⟨trivial,trivial,trivial⟩
def rO:List (Nat × Sh)→Nat→Option Sh
 | [],_=>none
 | (g,s)::r,f=>bif Nat.beq f g then some s else rO r f
theorem z2G:∀ {gs:List (Nat × Sh)} {f:Nat} {asv:List AV} {h:aA},rO gs f=none→fI gs f asv h=none
 | [],f,asv,h,_=>rfl
 | (g,s)::r,f,asv,h,hm=>by
  unfold rO at hm;unfold fI;cases hq:Nat.beq f g with
  | true=>rw[hq]at hm;cases hm
  | false=>rw[hq]at hm;exact z2G hm
def QQ:TC→Nat→Option (List PV→Option AV)
 | [],_=>none
 | (g,s)::r,f=>bif Nat.beq f g then some s else QQ r f
theorem z3D:∀ {gs:TC} {f:Nat} {s:List PV→Option AV} {asv:List AV} {h:aA},QQ gs f=some s→WF gs f asv h=((unp asv).bind s).map fun v=>(v,h,[])
 | [],f,s,asv,h,hm=>by cases hm
 | (g,s')::r,f,s,asv,h,hm=>by
  unfold QQ at hm;unfold WF;cases hq:Nat.beq f g with
  | true=>rw[hq]at hm;cases hm;rfl
  | false=>rw[hq]at hm;exact z3D hm
theorem z2Y {gs:List (Nat × Sh)}{ps:TC}{f:Nat}{s:List PV→Option AV}{asv:List AV}{vs:List PV}{v:AV}{h:aA}(hg:rO gs f=none)(hm:QQ ps f=some s)(hu:unp asv=some vs)(hv:s vs=some v):bF gs ps f asv h=some (v,h,[]):=by
 unfold bF;rw[z2G hg,z3D hm,hu];simp [hv]
def glOf:List (Nat × PV)→Nat→Option PV
 | [],_=>none
 | (g,v)::r,n=>bif Nat.beq n g then some v else glOf r n
theorem zjT {f:Nat}(h:(match P.funcs[f]? with | some fn=>fn.body.isSome&&fn.name != "runtime.NumGoroutine" | none=>false)=true)(us:Array Value)(w:World):(callFunc f us).run P w = .ok (.enter f us) w:=by
 cases hf:P.funcs[f]? with
 | none=>rw[hf]at h;cases h
 | some fn=>
  rw[hf]at h;simp only[Bool.and_eq_true,bne_iff_ne,ne_eq]at h;cases hb:fn.body with
  | none=>rw[hb]at h;cases h.1
  | some c=>exact GW hf hb h.2 us w
theorem zjV {M:Mem}:nE (glOf []) M:=fun n v hv=>by cases hv
def rD (s:List UInt8):Nat→List UInt8
 | 0=>[]
 | c+1=>s++rD s c
def mM:List PV→Option AV
 | [.str s,.int .i64 c]=>if 0≤c∧s.length*c.toNat≤1000000∧c≤1000000 then some (.p (.str (rD s c.toNat))) else none
 | _=>none
def tM (s cs:List UInt8):List UInt8:=(s.reverse.dropWhile (cs.contains ·)).reverse.dropWhile (cs.contains ·)
def trimS:List PV→Option AV
 | [.str s,.str cs]=>if s.length≤1000000∧cs.length≤1000∧cs.all (fun b=>decide (b.toNat<128))=true then some (.p (.str (tM s cs))) else none
 | _=>none
def PE:Nat→Nat→Nat
 | 0,_=>0
 | f+1,x=>if x%2=1 then 0 else 1+PE f (x / 2)
end Go.Am
end
section
/- The abstract machine,part C: vB calls that say true,asv contracts. -/
set_option linter.all false
namespace Go.Am
variable {P:Program} {gl:Nat→Option PV}
end Go.Am
end
section
/- The abstract machine,part K: slices.Sorted(maps.Keys(m)) at a map keyed by strings: its keys,sorted;met by the kit's contract. -/
set_option linter.all false
namespace Go.Am
variable {P:Program} {gl:Nat→Option PV}
def z4T (ss:List (List UInt8)):List (List UInt8):=ss.mergeSort fun x y=>decide (x≤y)
def tO:List ME→Option (List (List UInt8))
 | []=>some []
 | e::r=>match e.key with
  | .str s=>(tO r).map (s :: ·)
  | _=>none
theorem z2S:∀ {es:List ME} {ss:List (List UInt8)},tO es=some ss→es.map (·.key)=ss.map .str
 | [],ss,h=>by cases h;rfl
 | e::r,ss,h=>by
  unfold tO at h;split at h
  ·rename_i s hs
   obtain⟨t,ht,rfl⟩:=Option.map_eq_some_iff.1 h;simp [hs,z2S ht]
  ·cases h
def RJ (w w':World)(x:Value)(ss:List (List UInt8)):Prop:=(ss=[]∧x = .slice none 0 0) ∨
 ∃b cap,x = .slice (some ⟨b,0,none⟩) ss.length cap∧w.heap.size≤b∧ss.length≤cap∧∀(j:Nat) (s:List UInt8),ss[j]?=some s→w'.cell? ⟨b,j,none⟩=some (.string ⟨s.toArray⟩)
theorem RJ.rpv {M:Mem}{w w':World}{x:Value}{ss:List (List UInt8)}(h:RJ w w' x ss):RPV (SC M w w') (.sl none (ss.map .str)) x:=by
 rcases h with⟨rfl,rfl⟩|⟨b,cap,rfl,hb,hc,hx⟩
 ·exact .nils _ _ _
 ·cases hs:ss with
  | nil=>exact .nils _ _ _
  | cons s0 r=>
   rw[←hs];have hne:ss≠[]:=by rw[hs];simp
   have hfl:(ss.map PV.str).flatMap PV.cells=ss.map PV.str:=by
    rw[List.flatMap_map];clear hx hc hne hs;induction ss with
    | nil=>rfl
    | cons a t ih=>rw[List.flatMap_cons,ih];rfl
   have:=RPV.sl (M:=SC M w w') none (ss.map .str) b 0 cap (fun j=>.string ⟨(ss.getD j []).toArray⟩) (by simpa using hne) (by simpa using hc) (fun x hx=>by
    obtain⟨s,_,rfl⟩:=List.mem_map.1 hx;rfl) (fun j y hy=>by
    rw[hfl,List.getElem?_map]at hy;obtain⟨s,hs,rfl⟩:=Option.map_eq_some_iff.1 hy;show(if b<w.heap.size then M.c b (0+j) else w'.cell? ⟨b,0+j,none⟩)=_
    rw[if_neg (by omega),Nat.zero_add,hx j s hs]
    simp [List.getD,hs]) (fun j y hy=>by
    rw[hfl,List.getElem?_map]at hy;obtain⟨s,hs,rfl⟩:=Option.map_eq_some_iff.1 hy;simp only[List.getD,hs,Option.getD_some];exact .str s)
   simpa using this
structure KeysRow (P:Program) (f g:Nat):Prop where
 enter:∀us w,(callFunc f us).run P w = .ok (.enter f us) w
 run:∀(w:World) (bq bm clk:Nat) (ces:Array MapEntry) (ss:List (List UInt8)),w.cell? ⟨bq,0,none⟩=some (.map (some bm))→w.heap[bm]?=some (.map ces clk) →
  ces.toList.map (·.key)=ss.map (fun s=>Value.string ⟨s.toArray⟩)→(∀x∈ces.toList,x.born<clk)→(ces.toList.map (·.born)).Nodup→ss.Nodup→(∀s∈ss,s.length≤maxLen)→ss.length≤1000000 →
  Calls P f #[.func (.func g) #[] #[.pointer (some ⟨bq,0,none⟩)]] w fun e w'=>∃x,e = .returned x∧WExt w w'∧RJ w w' x (z4T ss)
 nil:∀(w:World) (bq:Nat),w.cell? ⟨bq,0,none⟩=some (.map none) →
  Calls P f #[.func (.func g) #[] #[.pointer (some ⟨bq,0,none⟩)]] w fun e w'=>∃x,e = .returned x∧WExt w w'∧RJ w w' x []
def z2U (es:List ME):Option (List (List UInt8)):=match tO es with
 | some ss=>if ss.Nodup∧(es.map (·.born)).Nodup∧ss.length≤1000000∧∀s∈ss,s.length≤maxLen then some (z4T ss) else none
 | none=>none
abbrev uD:=List (Nat × Nat)
def xO:uD→Nat→List AV→aA→Option (AV × aA × Esc)
 | [],_,_,_=>none
 | (g,m)::r,f,asv,h=>bif Nat.beq f g&&(match asv with
  | [.fn k [.ref _ 0]]=>Nat.beq k m
  | _=>false) then(match asv with
  | [.fn _ [.ref q 0]]=>(match h[q]? with
   | some (.box [.mp id])=>(match h[id]? with
    | some (.amap es _)=>(z2U es).map fun ss=>(.p (.sl none (ss.map .str)),h,[])
    | _=>none)
   | some (.box [.nilm])=>some (.p (.sl none []),h,[])
   | _=>none)
  | _=>none) else xO r f asv h
theorem z2T:∀ (gs:uD),(∀ g m,(g,m)∈gs→KeysRow P g m)→∀ {f:Nat} {asv:List AV} {h:aA} {v:AV} {h':aA} {x:Esc},xO gs f asv h=some (v,h',x) →
 xB P gl f asv h fun v1 h1 x1=>v1=v∧h1=h'∧x1=x
 | [],_,f,asv,h,v,h',x,H=>by cases H
 | (g,m)::r,hg,f,asv,h,v,h',x,H=>by
  unfold xO at H;rw[Bool.cond_eq_ite]at H;generalize hbb:(Nat.beq f g&&_)=bb at H;cases bb with
  | true=>
   rw[if_pos rfl]at H;rw[Bool.and_eq_true]at hbb;obtain⟨hf,hb⟩:=hbb;have e:=Nat.eq_of_beq_eq_true hf
   subst e;split at hb
   ·rename_i k q
    have e:=Nat.eq_of_beq_eq_true hb
    subst e;have R:=hg f k (by simp)
    have key:∃ss:List (List UInt8),(v,h',x)=(.p (.sl none (ss.map .str)),h,[])∧∀(μ:Mu) (w:World) (u:Value),HeapRel h μ w→RAV (imm h μ w) h μ (.fn k [.ref q 0]) u →
     Calls P f #[u] w fun e w'=>∃x,e = .returned x∧WExt w w'∧RJ w w' x ss:=by
     have arg:∀(μ:Mu) (w:World) (u:Value) (cs:List AV),h[q]?=some (.box cs)→HeapRel h μ w→RAV (imm h μ w) h μ (.fn k [.ref q 0]) u →
      ∀a,cs[0]?=some a→∃b v,u = .func (.func k) #[] #[.pointer (some ⟨b,0,none⟩)]∧w.cell? ⟨b,0,none⟩=some v∧RAV (imm h μ w) h μ a v:=by
      intro μ w u cs hq Hh hu a ha;cases hu with
      | fn _ _ vs hl hr=>
       match vs,hl with
       | [u0],_=>
        have q0:=hr 0 _ u0 rfl rfl
        cases q0 with
        | ref _ _ b n cs' ho hm=>
         have O:=Hh.obj q _ _ hq hm
         obtain⟨b',c,e1,B,hc⟩:=O;cases e1;obtain⟨_,v,hv,hR⟩:=hc 0 a ha;obtain⟨_,E,lo,hi,hB,_⟩:=B;refine⟨b,v,rfl,?_,hR⟩;simp only[World.cell?,hB];simpa using hv
     split at H;case h_2=>cases H
     rename_i k' q' hq0;cases hq0;split at H
     ·rename_i id hq
      split at H
      ·rename_i es c hid
       obtain⟨ss,hk,e2⟩:=Option.map_eq_some_iff.1 H;refine⟨ss,e2.symm,fun μ w u Hh hu=>?_⟩
       obtain⟨b,v,rfl,hcell,hR⟩:=arg μ w u _ hq Hh hu _ rfl;unfold z2U at hk;split at hk
       ·rename_i s0 hs0
        split at hk
        ·rename_i hc
         cases hk;obtain⟨k1,k2,k3,k4⟩:=hc
         cases hR with
         | mp _ bm nm es' c' ho hm=>
          rw[hid]at ho;cases ho;have O:=Hh.obj id _ _ hid hm
          obtain⟨b',n',ces,e1,hblk,hsz,hborn,hes⟩:=O;cases e1;have hkeys:=z2S hs0
          have hlen:es.length=s0.length:=by simpa using congrArg List.length hkeys
          refine R.run w b bm c ces s0 hcell hblk ?_ ?_ ?_ k1 k4 k3
          ·apply List.ext_getElem?
           intro i;simp only[List.getElem?_map,Array.getElem?_toList];by_cases hi:i<es.length
           ·have h1:es[i]?=some es[i]:=List.getElem?_eq_getElem hi
            have h2:ces[i]?=some (ces[i]'(by omega)):=Array.getElem?_eq_getElem (by omega)
            have h3:s0[i]?=some (s0[i]'(by omega)):=List.getElem?_eq_getElem (by omega)
            obtain⟨r1,_⟩:=hes i _ _ h1 h2;have h4:=congrArg (·[i]?) hkeys
            simp only[List.getElem?_map,h1,h3,Option.map_some,Option.some.injEq]at h4;rw[h4]at r1;rw[h2,h3];simp only[Option.map_some];revert r1
            generalize ces[i].key=kk;intro r1;cases r1;rfl
           ·rw[Array.getElem?_eq_none (by omega),List.getElem?_eq_none (by omega)]
            rfl
          ·intro x hx
           obtain⟨i,hi,rfl⟩:=List.mem_iff_getElem.1 hx;have hi':i<ces.size:=by simpa using hi
           have h1:es[i]?=some (es[i]'(by omega)):=List.getElem?_eq_getElem (by omega)
           have h2:ces[i]?=some ces[i]:=Array.getElem?_eq_getElem hi'
           obtain⟨_,_,_,r4⟩:=hes i _ _ h1 h2;have:=hborn _ (List.getElem_mem (l:=es) (n:=i) (by omega))
           simp only[Array.getElem_toList];omega
          ·have:ces.toList.map (·.born)=es.map (·.born):=by
            apply List.ext_getElem?
            intro i;simp only[List.getElem?_map,Array.getElem?_toList];by_cases hi:i<es.length
            ·have h1:es[i]?=some es[i]:=List.getElem?_eq_getElem hi
             have h2:ces[i]?=some (ces[i]'(by omega)):=Array.getElem?_eq_getElem (by omega)
             obtain⟨_,_,_,r4⟩:=hes i _ _ h1 h2;rw[h1,h2];simp [r4]
            ·rw[Array.getElem?_eq_none (by omega),List.getElem?_eq_none (by omega)]
             rfl
           rw[this];exact k2
        ·cases hk
       ·cases hk
      ·cases H
     ·rename_i hq
      refine⟨[],(Option.some.inj H).symm,fun μ w u Hh hu=>?_⟩
      obtain⟨b,v,rfl,hcell,hR⟩:=arg μ w u _ hq Hh hu _ rfl;cases hR;exact R.nil w b hcell
     ·cases H
    obtain⟨ss,e3,hrun⟩:=key;cases e3;intro μ w vs Hh Hg hl hr;match vs,hl with
    | [u],_=>
     refine .inl ⟨R.enter _,(hrun μ w u Hh (hr 0 _ u rfl rfl)).mono fun e w' he=>?_⟩
     obtain⟨u,rfl,g1,g2⟩:=he;obtain⟨n1,n2⟩:=Hh.ext g1;have Lq:(SC (imm h μ w) w w').le (imm h μ w'):=by
      refine⟨fun b o v hv=>?_,fun b o hv=>?_,rfl,fun _ _ h=>by cases h⟩
      ·dsimp only[SC]at hv
       split at hv
       ·exact n2.le.c _ _ _ hv
       ·rename_i hb
        exact vC.2 ⟨fun hO=>hb (RO Hh hO),hv⟩
      ·dsimp only[SC]at hv
       cases hv
     have g3:RAV (SC (imm h μ w) w w') [] [] (.p (.sl none (ss.map .str))) u:=.p _ _ g2.rpv
     exact⟨_,_,_,μ,⟨rfl,rfl,rfl⟩,g3.evo ⟨Lq,Nat.zero_le _,fun id o m h1=>by simp at h1⟩,n1,n2,rA.refl h []⟩
   ·cases hb
  | false=>
   rw[if_neg (by simp)]at H
   exact z2T r (fun g m hm=>hg g m (by simp [hm])) H
def libK (ks:uD)(gs:List (Nat × Sh))(ps:TC)(f:Nat)(asv:List AV)(h:aA):Option (AV×aA×Esc):=match xO ks f asv h with
 | some y=>some y
 | none=>bF gs ps f asv h
theorem zf1 {ks:uD}{gs:List (Nat × Sh)}{ps:TC}(hk:∀ g m,(g,m)∈ks→KeysRow P g m)(hg:∀ g sh,(g,sh)∈gs→GrowRow P g sh)(hp:∀ g s,(g,s)∈ps→PureRow P gl g s){f:Nat}{asv:List AV}{h:aA}{v:AV}{h':aA}{x:Esc}(H:libK ks gs ps f asv h=some (v,h',x)) :
 xB P gl f asv h fun v1 h1 x1=>v1=v∧h1=h'∧x1=x:=by
 unfold libK at H;split at H
 ·rename_i y hy
  cases H;exact z2T ks hk hy
 ·exact zf0 hg hp H
def yO:uD→Nat→Nat→Bool
 | [],_,_=>false
 | (g,m)::r,f,k=>(Nat.beq f g&&Nat.beq k m)||yO r f k
end Go.Am
end
section
/- The abstract machine,part V: slices.Collect(slices.Values(l)) at whole numbers: a new row that holds them. -/
set_option linter.all false
namespace Go.Am
variable {P:Program} {gl:Nat→Option PV}
def iI:PV→Bool
 | .int .u64 _=>true
 | _=>false
def gG:List PV→List Int
 | .int .u64 n::r=>n::gG r
 | _::r=>0::gG r
 | []=>[]
theorem z5i:∀ xs:List PV,(gG xs).length=xs.length
 | []=>rfl
 | x::r=>by
  have ih:=z5i r
  cases x with
  | int k n=>cases k <;> simp [gG,ih]
  | _=>simp [gG,ih]
theorem z5h:∀ {xs:List PV},xs.all iI=true→xs=(gG xs).map (PV.int .u64)
 | [],_=>rfl
 | x::r,h=>by
  rw[List.all_cons,Bool.and_eq_true]at h;obtain⟨h1,h2⟩:=h;unfold iI at h1;split at h1
  ·rename_i n
   rw[gG,List.map_cons,←z5h h2]
  ·cases h1
theorem z2i:∀ zs:List Int,(zs.map (PV.int .u64)).flatMap PV.cells=zs.map (PV.int .u64)
 | []=>rfl
 | a::t=>by rw[List.map_cons,List.flatMap_cons,z2i t];rfl
def z5F (P:Program)(fn g:Nat):Prop:=
 (∀(bq b off len cap:Nat) (zs:List Int) (w:World),zs.length=len→0<len→len≤1000000→w.cell? ⟨bq,0,none⟩=some (.slice (some ⟨b,off,none⟩) len cap) →
  (b<w.heap.size∧∀j,j<len→w.cell? ⟨b,off+j,none⟩=some (.int .u64 (zs[j]?.getD 0))) →
  Calls P fn #[.func (.func g) #[] #[.pointer (some ⟨bq,0,none⟩)]] w fun e W'=>∃v,e = .returned v∧(∃T,W'.ownsRow w.heap.size T 1 v len (zs.map (Value.int .u64)))∧Go.RowKit.Below w.heap.size w W') ∧
 (∀(bq:Nat) (a:Option Addr) (cap:Nat) (w:World),w.cell? ⟨bq,0,none⟩=some (.slice a 0 cap) →
  Calls P fn #[.func (.func g) #[] #[.pointer (some ⟨bq,0,none⟩)]] w fun e W'=>e = .returned (.slice none 0 0)∧Go.RowKit.Below w.heap.size w W')
structure CollRow (P:Program) (f g:Nat):Prop where
 enter:∀us w,(callFunc f us).run P w = .ok (.enter f us) w
 said:z5F P f g
def tH:uD→Nat→List AV→aA→Option (AV × aA × Esc)
 | [],_,_,_=>none
 | (g,m)::r,f,asv,h=>bif Nat.beq f g&&(match asv with
  | [.fn k [.ref _ 0]]=>Nat.beq k m
  | _=>false) then(match asv with
  | [.fn _ [.ref q 0]]=>(match h[q]? with
   | some (.box [.p (.sl none xs)])=>if xs.all iI=true∧xs.length≤1000000 then some (.own h.length xs.length 0 xs.length,h++[.row none xs 0],[]) else none
   | _=>none)
  | _=>none) else tH r f asv h
theorem z1o:∀ (gs:uD),(∀ g m,(g,m)∈gs→CollRow P g m)→∀ {f:Nat} {asv:List AV} {h:aA} {v:AV} {h':aA} {x:Esc},tH gs f asv h=some (v,h',x) →
 xB P gl f asv h fun v1 h1 x1=>v1=v∧h1=h'∧x1=x
 | [],_,f,asv,h,v,h',x,H=>by cases H
 | (g,m)::r,hg,f,asv,h,v,h',x,H=>by
  unfold tH at H;rw[Bool.cond_eq_ite]at H;generalize hbb:(Nat.beq f g&&_)=bb at H;cases bb with
  | false=>
   rw[if_neg (by simp)]at H
   exact z1o r (fun g m hm=>hg g m (by simp [hm])) H
  | true=>
   rw[if_pos rfl]at H;rw[Bool.and_eq_true]at hbb;obtain⟨hf,hb⟩:=hbb;have e:=Nat.eq_of_beq_eq_true hf
   subst e;split at hb;case h_2=>cases hb
   rename_i k q;have e:=Nat.eq_of_beq_eq_true hb
   subst e;have R:=hg f k (by simp)
   split at H;case h_2=>cases H
   rename_i k' q' hq0;cases hq0;split at H;case h_2=>cases H
   rename_i xs hq;split at H;case isFalse=>cases H
   rename_i hcd;obtain⟨hall,hlen⟩:=hcd;simp only[Option.some.injEq,Prod.mk.injEq]at H;obtain⟨rfl,rfl,rfl⟩:=H;intro μ w vs Hh Hg hl hr;match vs,hl with
   | [u],_=>
    refine .inl ⟨R.enter _,?_⟩;have arg:∀u,RAV (imm h μ w) h μ (.fn k [.ref q 0]) u→∃b v,u = .func (.func k) #[] #[.pointer (some ⟨b,0,none⟩)]∧w.cell? ⟨b,0,none⟩=some v∧RPV (imm h μ w) (.sl none xs) v:=by
     intro u hu;cases hu with
     | fn _ _ vs hl hr=>
      match vs,hl with
      | [u0],_=>
       have q0:=hr 0 _ u0 rfl rfl
       cases q0 with
       | ref _ _ b n cs' ho hm=>
        have O:=Hh.obj q _ _ hq hm
        obtain⟨b',c,e1,B,hc⟩:=O;cases e1;obtain⟨_,v,hv,hR⟩:=hc 0 _ rfl;obtain⟨_,E,lo,hi,hB,_⟩:=B;refine⟨b,v,rfl,?_,hR.p_inv⟩;simp only[World.cell?,hB];simpa using hv
    obtain⟨bq,v,rfl,hcell,hR⟩:=arg u (hr 0 _ u rfl rfl);have sizes:∀{W':World},Go.RowKit.Below w.heap.size w W'→WExt w W':=fun h=>⟨h.size,fun b hb=>h.block b hb,by unfold zed;rw[h.os,h.tape,h.output]⟩
    cases xs with
    | nil=>
     have:∃a cap,v = .slice a 0 cap:=by
      cases hR with
      | nils _ a cap=>exact⟨_,_,rfl⟩
      | sl _ _ b o cap f hne=>exact absurd rfl hne
     obtain⟨a,cap,rfl⟩:=this;refine(R.said.2 bq a cap w hcell).mono fun e w' he=>?_
     obtain⟨rfl,hB⟩:=he;obtain⟨n1,n2⟩:=Hh.ext (sizes hB);obtain⟨m1,m2⟩:=GO n1 none;refine⟨_,_,_,_,⟨rfl,rfl,rfl⟩,?_,m1,n2.trans m2,rA.push (by simp [Obj.top])⟩
     exact .own h.length 0 0 0 _ 0 none [] 0 none (Nat.le_refl _) (by simp) (by rw[←Hh.len];simp) (by simp) (by simp) (fun _=>rfl)
    | cons x0 r0=>
     have hne:x0::r0≠[]:=by simp
     generalize x0::r0=xs at *;have hz:=z5h hall
     have hzl:=z5i xs
     generalize gG xs=zs at *;subst hz;rw[List.length_map]at hlen;have hsl:∃(b o cap:Nat) (f:Nat→Value),v = .slice (some ⟨b,o,none⟩) (zs.map (PV.int .u64)).length cap∧(∀(j:Nat) (y:PV),((zs.map (PV.int .u64)).flatMap PV.cells)[j]?=some y→(imm h μ w) b (o+j)=some (f j))∧(∀(j:Nat) (y:PV),((zs.map (PV.int .u64)).flatMap PV.cells)[j]?=some y→RPV (imm h μ w) y (f j)):=by
      clear hcell;generalize zs.map (PV.int .u64)=X at *;cases hR with
      | nils _ a cap=>exact absurd rfl hne
      | sl _ _ b o cap f _ hcap hshp hm hrr=>exact⟨b,o,cap,f,rfl,hm,hrr⟩
     obtain⟨b,o,cap,f,rfl,hm,hrr⟩:=hsl
     ·skip
      have hfl:=z2i zs
      rw[hfl]at hm hrr;have hc:∀j,j<zs.length→w.cell? ⟨b,o+j,none⟩=some (.int .u64 (zs[j]?.getD 0)):=fun j hj=>by
       have hg:(zs.map (PV.int .u64))[j]?=some (.int .u64 zs[j]):=by rw[List.getElem?_map,List.getElem?_eq_getElem hj];rfl
       have h1:=(vC.1 (hm j _ hg)).2
       have h2:=hrr j _ hg
       rw[h1,List.getElem?_eq_getElem hj,Option.getD_some];revert h2
       generalize f j=fj;intro h2;cases h2;rfl
      have hpos:0<zs.length:=by
       rcases Nat.eq_zero_or_pos zs.length with h0|h0
       ·exact absurd (by rw[List.length_eq_zero_iff.1 h0];rfl) hne
       ·exact h0
      rw[List.length_map]at hcell;refine(R.said.1 bq b o zs.length cap zs w rfl hpos hlen hcell ⟨aK (hc 0 hpos),hc⟩).mono fun e w' he=>?_
      obtain⟨v',rfl,⟨T,hrow⟩,hB⟩:=he;rcases hrow.2 with⟨_,h0⟩|⟨g,cap',cur,rfl,hbase,hgb,r1,r2,r3,r4⟩
      ·omega
      ·have hBlk:TA w' g cur.size cur:=⟨rfl,T,0,0,hgb,fun _ h=>by omega⟩
       obtain⟨n1,n2⟩:=OF (sh:=none) (xs:=zs.map (PV.int .u64)) Hh (sizes hB) hbase (Array.getElem?_eq_some_iff.1 hgb).1 hBlk (by rw[r3,List.length_map];show zs.length*1≤_;omega)
        (fun x hx=>by obtain⟨n,_,rfl⟩:=List.mem_map.1 hx;rfl) (fun i j x y hx hy=>by
         obtain⟨z,hz,rfl⟩:∃z,zs[i]?=some z∧PV.int .u64 z=x:=by
          rw[List.getElem?_map]at hx;obtain⟨z,h1,h2⟩:=Option.map_eq_some_iff.1 hx;exact⟨z,h1,h2⟩
         have hi:=uA hz
         match j with
         | 0=>
          cases hy;refine⟨.int .u64 z,?_,.int _ _⟩
          have h1:(cur.toList.take (zs.length*1))[i]?=some (.int .u64 z):=by rw[r4,List.getElem?_map,hz];rfl
          rw[List.getElem?_take,if_pos (by omega),Array.getElem?_toList]at h1
          show cur[i*1+0]?=_
          rw[show i*1+0=i by omega]
          exact h1
         | j+1=>simp [PV.cells]at hy)
       refine⟨_,_,_,_,⟨rfl,rfl,rfl⟩,?_,n1,n2,rA.push (by simp [Obj.top])⟩
       rw[List.length_map];refine .own h.length zs.length 0 zs.length _ cap' none (zs.map (PV.int .u64)) 0 (some (g,cur.size)) r1 (by simp) (by rw[←Hh.len];simp) (by simp) (by omega) (fun _=>?_)
       exact .inr ⟨by simp,by rw[r3];show(0+cap')*1≤_;omega⟩
def jI (cs ks:uD)(gs:List (Nat × Sh))(ps:TC)(f:Nat)(asv:List AV)(h:aA):Option (AV×aA×Esc):=match tH cs f asv h with
 | some y=>some y
 | none=>libK ks gs ps f asv h
theorem libV_ok {cs ks:uD}{gs:List (Nat × Sh)}{ps:TC}(hc:∀ g m,(g,m)∈cs→CollRow P g m)(hk:∀ g m,(g,m)∈ks→KeysRow P g m)(hg:∀ g sh,(g,sh)∈gs→GrowRow P g sh)(hp:∀ g s,(g,s)∈ps→PureRow P gl g s){f:Nat}{asv:List AV}{h:aA}{v:AV}{h':aA}{x:Esc}(H:jI cs ks gs ps f asv h=some (v,h',x)) :
 xB P gl f asv h fun v1 h1 x1=>v1=v∧h1=h'∧x1=x:=by
 unfold jI at H;split at H
 ·rename_i y hy
  cases H;exact z1o cs hc hy
 ·exact zf1 hk hg hp H
theorem z1n:∀ {ks:uD} {f m q:Nat} {h:aA} {xs:List PV},yO ks f m=true→h[q]?=some (.box [.p (.sl none xs)])→xs.all iI=true→xs.length≤1000000 →
 tH ks f [.fn m [.ref q 0]] h=some (.own h.length xs.length 0 xs.length,h++[.row none xs 0],[])
 | [],f,m,q,h,xs,hk,_,_,_=>by cases hk
 | (g,k)::r,f,m,q,h,xs,hk,h1,h2,h3=>by
  unfold yO at hk;unfold tH;cases hb:Nat.beq f g&&Nat.beq m k with
  | true=>simp [hb,h1,h2,h3]
  | false=>rw[hb]at hk;simp only[hb,cond_false];exact z1n (by simpa using hk) h1 h2 h3
theorem zf2 {cs ks:uD}{gs:List (Nat × Sh)}{ps:TC}{f m q:Nat}{h:aA}{xs:List PV}(hk:yO cs f m=true)(h1:h[q]?=some (.box [.p (.sl none xs)]))(h2:xs.all iI=true)(h3:xs.length≤1000000) :
 jI cs ks gs ps f [.fn m [.ref q 0]] h=some (.own h.length xs.length 0 xs.length,h++[.row none xs 0],[]):=by
 unfold jI;rw[z1n hk h1 h2 h3]
end Go.Am
end
section
/- The functions together. -/
set_option linter.all false
set_option maxRecDepth 100000
namespace Go.Am
def fns:List (Nat × AFun):=[(mO,VR),(TK,aS),(UK,bS),(CG,DR),(DG,ER),(FF,GR),(KG,XR),(PH,pS),(QH,qS),(NG,tS),(XH,OS),(lL,PS),(RK,WR),(DD,iS),(CD,dS),(JC,jS),(XD,MS),(MK,CR),(ED,US),(HF,kS),(XC,eS),(SK,ZR),(JF,AM),(FG,KR),(GG,LR),(JG,UR),(VE,OR),(GF,xM),(fL,IS),(qL,WS),(rL,XS),(ZK,uS),(XK,oS),(TH,xS),(eL,GS),(SH,vS),(kL,NS),(RH,rS),(IF,zM),(OG,BM),(NK,FR),(NH,fS),(KH,JR),(rE,BS),(WH,ES),(YK,sS),(WK,mS),(oL,TS),(JH,IR),(LH,NR),(IG,PR),(HG,yM),(WD,wR),(KF,aT),(MH,SR),(LG,YR),(OH,gS),(GH,BR),(EG,wM),(jL,LS),(HH,HR),(pL,VS),(VK,lS),(YH,RS),(gL,JS),(UH,yS),(PG,KS),(VH,zS),(KK,vR),(VD,uR),(OK,MR),(bL,DS),(MG,nS),(LK,AR),(UE,yR),(aI,YS),(QK,TR),(JK,tR),(nL,SS),(QG,bT),(aL,CS),(mL,QS),(dL,FS),(sL,ZS),(EF,xR),(tL,eT),(FH,zR),(PK,QR)]
def GRL:List (Nat × Sh):=[]
def PRL:TC:=[(uL,mM),(oO,trimS)]
def GLL:List (Nat × PV):=[]
def CRL:uD:=[(nO,ZH)]
def fnOf:List (Nat × AFun)→Nat→Option AFun
 | [],_=>none
 | (k,F)::r,n=>bif Nat.beq k n then some F else fnOf r n
def X:Ctx:=⟨fnOf fns,glOf GLL,IK BG z1V,jI CRL [] GRL PRL⟩
theorem z2l {p:Nat→AFun→Bool}:∀(l:List (Nat×AFun)),(l.all fun y=>p y.1 y.2)=true→∀n F,fnOf l n=some F→p n F=true
 | [],_,n,F,h=>by cases h
 | (k,G)::r,ha,n,F,h=>by
  simp only[List.all_cons,Bool.and_eq_true]at ha;simp only[fnOf]at h;cases hk:Nat.beq k n with
  | true=>
   rw[hk]at h;have:=Nat.eq_of_beq_eq_true hk;simp only[cond_true,Option.some.injEq]at h;subst this;subst h;exact ha.1
  | false=>
   rw[hk]at h;exact z2l r ha.2 n F h
theorem z0w:X.NoNext:=fun f F h=>z2l (p:=fun _ F=>F.isDet||F.body.noNext) fns (by kernel_rfl) f F h
theorem zjc:X.fn mO=some VR:=by kernel_rfl
theorem z7A {u0 v0:AV}{h h1:aA}{P:jA}(hp:mA h [u0]=some ([v0],h1)):eA X mO [u0] h P=(CH (eA X) X.gl [(0,v0)] h1 [] (nA [.t 2] false h.length P)).1:=by rw[BA zjc rfl hp rfl];exact za2
theorem zjg:X.fn TK=some aS:=by kernel_rfl
theorem z7F {u0 v0:AV}{h h1:aA}{P:jA}(hp:mA h [u0]=some ([v0],h1)):eA X TK [u0] h P=(qN (eA X) X.gl [(0,v0)] h1 [] (nA [.t 2] false h.length P)).1:=by rw[BA zjg rfl hp rfl];exact zaC
theorem zjh:X.fn UK=some bS:=by kernel_rfl
theorem z7G {u0 u1 v0 v1:AV}{h h1:aA}{P:jA}(hp:mA h [u0,u1]=some ([v0,v1],h1)):eA X UK [u0,u1] h P=(rN (eA X) X.gl [(0,v0),(1,v1)] h1 [] (nA [.t 4] true h.length P)).1:=by rw[BA zjh rfl hp rfl];exact zaK
theorem NZ:X.fn CG=some DR:=by kernel_rfl
theorem z7m {u0 u1 v0 v1:AV}{h h1:aA}{P:jA}(hp:mA h [u0,u1]=some ([v0,v1],h1)):eA X CG [u0,u1] h P=(lK (eA X) X.gl [(0,v0),(1,v1)] h1 [] (nA [.t 4,.t 5] false h.length P)).1:=by rw[BA NZ rfl hp rfl];exact z9z
theorem OZ:X.fn DG=some ER:=by kernel_rfl
theorem z7n {u0 u1 v0 v1:AV}{h h1:aA}{P:jA}(hp:mA h [u0,u1]=some ([v0,v1],h1)):eA X DG [u0,u1] h P=(mK (eA X) X.gl [(0,v0),(1,v1)] h1 [] (nA [.t 4,.t 5] false h.length P)).1:=by rw[BA OZ rfl hp rfl];exact z96
theorem mR:X.fn FF=some GR:=by kernel_rfl
theorem z7p {u0 u1 v0 v1:AV}{h h1:aA}{P:jA}(hp:mA h [u0,u1]=some ([v0,v1],h1)):eA X FF [u0,u1] h P=(AH (eA X) X.gl [(0,v0),(1,v1)] h1 [] (nA [.t 4,.t 5] false h.length P)).1:=by rw[BA mR rfl hp rfl];exact z9H
theorem PZ:X.fn KG=some XR:=by kernel_rfl
theorem z7C {u0 u1 v0 v1:AV}{h h1:aA}{P:jA}(hp:mA h [u0,u1]=some ([v0,v1],h1)):eA X KG [u0,u1] h P=(qK (eA X) X.gl [(0,v0),(1,v1)] h1 [] (nA [.t 4] false h.length P)).1:=by rw[BA PZ rfl hp rfl];exact za5
theorem z5v:X.fn PH=some pS:=by kernel_rfl
theorem z7R {u0 u1 v0 v1:AV}{h h1:aA}{P:jA}(hp:mA h [u0,u1]=some ([v0,v1],h1)):eA X PH [u0,u1] h P=(AN (eA X) X.gl [(0,v0),(1,v1)] h1 [] (nA [.t 4] false h.length P)).1:=by rw[BA z5v rfl hp rfl];exact zbh
theorem z5w:X.fn QH=some qS:=by kernel_rfl
theorem z7S {u0 u1 v0 v1:AV}{h h1:aA}{P:jA}(hp:mA h [u0,u1]=some ([v0,v1],h1)):eA X QH [u0,u1] h P=(BN (eA X) X.gl [(0,v0),(1,v1)] h1 [] (nA [.t 4] false h.length P)).1:=by rw[BA z5w rfl hp rfl];exact zbl
theorem QZ:X.fn NG=some tS:=by kernel_rfl
theorem z7V {u0 u1 v0 v1:AV}{h h1:aA}{P:jA}(hp:mA h [u0,u1]=some ([v0,v1],h1)):eA X NG [u0,u1] h P=(vK (eA X) X.gl [(0,v0),(1,v1)] h1 [] (nA [.t 4,.t 5] false h.length P)).1:=by rw[BA QZ rfl hp rfl];exact zb1
theorem zjC:X.fn XH=some OS:=by kernel_rfl
theorem z8q {u0 u1 v0 v1:AV}{h h1:aA}{P:jA}(hp:mA h [u0,u1]=some ([v0,v1],h1)):eA X XH [u0,u1] h P=(BK (eA X) X.gl [(0,v0),(1,v1)] h1 [] (nA [.t 4] false h.length P)).1:=by rw[BA zjC rfl hp rfl];exact zcw
theorem zjD:X.fn lL=some PS:=by kernel_rfl
theorem z8r {u0 u1 v0 v1:AV}{h h1:aA}{P:jA}(hp:mA h [u0,u1]=some ([v0,v1],h1)):eA X lL [u0,u1] h P=(CK (eA X) X.gl [(0,v0),(1,v1)] h1 [] (nA [.t 4] false h.length P)).1:=by rw[BA zjD rfl hp rfl];exact zcz
theorem zjd:X.fn RK=some WR:=by kernel_rfl
theorem z7B {h h1:aA}{P:jA}(hp:mA h []=some ([],h1)):eA X RK [] h P=(oN (eA X) X.gl [] h1 [] (nA [.t 0] false h.length P)).1:=by rw[BA zjd rfl hp rfl];exact za4
theorem zjm:X.fn DD=some iS:=by kernel_rfl
theorem z7K {u0 u1 v0 v1:AV}{h h1:aA}{P:jA}(hp:mA h [u0,u1]=some ([v0,v1],h1)):eA X DD [u0,u1] h P=(uN (eA X) X.gl [(0,v0),(1,v1)] h1 [] (nA [.t 4] false h.length P)).1:=by rw[BA zjm rfl hp rfl];exact zaV
theorem zji:X.fn CD=some dS:=by kernel_rfl
theorem z7H {u0 u1 v0 v1:AV}{h h1:aA}{P:jA}(hp:mA h [u0,u1]=some ([v0,v1],h1)):eA X CD [u0,u1] h P=(sN (eA X) X.gl [(0,v0),(1,v1)] h1 [] (nA [.t 4] false h.length P)).1:=by rw[BA zji rfl hp rfl];exact zaN
theorem zjn:X.fn JC=some jS:=by kernel_rfl
theorem z7L {u0 u1 u2 v0 v1 v2:AV}{h h1:aA}{P:jA}(hp:mA h [u0,u1,u2]=some ([v0,v1,v2],h1)):eA X JC [u0,u1,u2] h P=(vN (eA X) X.gl [(0,v0),(1,v1),(2,v2)] h1 [] (nA [.t 6] false h.length P)).1:=by rw[BA zjn rfl hp rfl];exact zaW
theorem zjA:X.fn XD=some MS:=by kernel_rfl
theorem z8o {u0 u1 h P}:eA X XD [u0,u1] h P=(SN (eA X) X.gl [(0,u0),(1,u1)] h [] (nA [.t 4] false h.length P)).1:=by rw[gC zjA rfl rfl];exact zcr
theorem ziN:X.fn MK=some CR:=by kernel_rfl
theorem z7l {u0 u1 v0 v1:AV}{h h1:aA}{P:jA}(hp:mA h [u0,u1]=some ([v0,v1],h1)):eA X MK [u0,u1] h P=(kK (eA X) X.gl [(0,v0),(1,v1)] h1 [] (nA [.t 4,.t 5] false h.length P)).1:=by rw[BA ziN rfl hp rfl];exact z9w
theorem zjI:X.fn ED=some US:=by kernel_rfl
theorem z0Q {u0 h P}:eA X ED [u0] h P=(DK (eA X) X.gl [(0,u0)] h [] (nA [] false h.length P)).1:=by rw[gC zjI rfl rfl];exact zcE
theorem zjo:X.fn HF=some kS:=by kernel_rfl
theorem z7M {u0 u1 v0 v1:AV}{h h1:aA}{P:jA}(hp:mA h [u0,u1]=some ([v0,v1],h1)):eA X HF [u0,u1] h P=(wN (eA X) X.gl [(0,v0),(1,v1)] h1 [] (nA [.t 4] false h.length P)).1:=by rw[BA zjo rfl hp rfl];exact zaX
theorem zjj:X.fn XC=some eS:=by kernel_rfl
theorem z7I {u0 u1 v0 v1:AV}{h h1:aA}{P:jA}(hp:mA h [u0,u1]=some ([v0,v1],h1)):eA X XC [u0,u1] h P=(rK (eA X) X.gl [(0,v0),(1,v1)] h1 [] (nA [.t 4] false h.length P)).1:=by rw[BA zjj rfl hp rfl];exact zaO
theorem zjf:X.fn SK=some ZR:=by kernel_rfl
theorem z7E {u0 u1 v0 v1:AV}{h h1:aA}{P:jA}(hp:mA h [u0,u1]=some ([v0,v1],h1)):eA X SK [u0,u1] h P=zG (eA X) X.gl DP v0 v1 h1 [] (nA [.cell 4 (some 2)] false h.length P):=by rw[BA zjf rfl hp rfl];exact za8
theorem z5y:X.fn JF=some AM:=by kernel_rfl
theorem z8g {u0 v0:AV}{h h1:aA}{P:jA}(hp:mA h [u0]=some ([v0],h1)):eA X JF [u0] h P = ∃v h' x,P v h' x∧(MN (eA X) X.gl [(0,v0)] h1 [] (nA [.t 2] true h.length fun v1 h1 x1=>v1=v∧h1=h'∧x1=x)).1:=by rw[HM z5y rfl hp rfl];exact z1U fun v h' x=>congrArg (And (P v h' x)) zbV
theorem ziS:X.fn FG=some KR:=by kernel_rfl
theorem z7v {u0 u1 v0 v1:AV}{h h1:aA}{P:jA}(hp:mA h [u0,u1]=some ([v0,v1],h1)):eA X FG [u0,u1] h P=(oK (eA X) X.gl [(0,v0),(1,v1)] h1 [] (nA [.t 4] false h.length P)).1:=by rw[BA ziS rfl hp rfl];exact z9X
theorem ziT:X.fn GG=some LR:=by kernel_rfl
theorem z7w {u0 u1 v0 v1:AV}{h h1:aA}{P:jA}(hp:mA h [u0,u1]=some ([v0,v1],h1)):eA X GG [u0,u1] h P=(dN (eA X) X.gl [(0,v0),(1,v1)] h1 [] (nA [.t 4] false h.length P)).1:=by rw[BA ziT rfl hp rfl];exact z9Y
theorem zjb:X.fn JG=some UR:=by kernel_rfl
theorem z79 {u0 v0:AV}{h h1:aA}{P:jA}(hp:mA h [u0]=some ([v0],h1)):eA X JG [u0] h P=(nN (eA X) X.gl [(0,v0)] h1 [] (nA [.t 2] false h.length P)).1:=by rw[BA zjb rfl hp rfl];exact za1
theorem ziW:X.fn VE=some OR:=by kernel_rfl
theorem z71 {u0 v0:AV}{h h1:aA}{P:jA}(hp:mA h [u0]=some ([v0],h1)):eA X VE [u0] h P=(iN (eA X) X.gl [(0,v0)] h1 [] (nA [.t 2] false h.length P)).1:=by rw[BA ziW rfl hp rfl];exact zao
theorem z5t:X.fn GF=some xM:=by kernel_rfl
theorem z7r {u0 u1 v0 v1:AV}{h h1:aA}{P:jA}(hp:mA h [u0,u1]=some ([v0,v1],h1)):eA X GF [u0,u1] h P=(aN (eA X) X.gl [(0,v0),(1,v1)] h1 [] (nA [.t 4] false h.length P)).1:=by rw[BA z5t rfl hp rfl];exact z9R
theorem zj6:X.fn fL=some IS:=by kernel_rfl
theorem z8j {u0 h P}:eA X fL [u0] h P=(AK (eA X) X.gl [(0,u0)] h [] (nA [.t 2] false h.length P)).1:=by rw[gC zj6 rfl rfl];exact zce
theorem zjK:X.fn qL=some WS:=by kernel_rfl
theorem z8x {u0 v0:AV}{h h1:aA}{P:jA}(hp:mA h [u0]=some ([v0],h1)):eA X qL [u0] h P=(ZN (eA X) X.gl [(0,v0)] h1 [] (nA [.t 2] true h.length P)).1:=by rw[BA zjK rfl hp rfl];exact zcG
theorem zjL:X.fn rL=some XS:=by kernel_rfl
theorem z8y {u0 v0:AV}{h h1:aA}{P:jA}(hp:mA h [u0]=some ([v0],h1)):eA X rL [u0] h P=(aO (eA X) X.gl [(0,v0)] h1 [] (nA [.t 2] false h.length P)).1:=by rw[BA zjL rfl hp rfl];exact zcH
theorem zjv:X.fn ZK=some uS:=by kernel_rfl
theorem z7W {u0 v0:AV}{h h1:aA}{P:jA}(hp:mA h [u0]=some ([v0],h1)):eA X ZK [u0] h P=(EH (eA X) X.gl [(0,v0)] h1 [] (nA [.t 2] false h.length P)).1:=by rw[BA zjv rfl hp rfl];exact zb7
theorem zjs:X.fn XK=some oS:=by kernel_rfl
theorem z7Q {u0 u1 v0 v1:AV}{h h1:aA}{P:jA}(hp:mA h [u0,u1]=some ([v0,v1],h1)):eA X XK [u0,u1] h P=(zN (eA X) X.gl [(0,v0),(1,v1)] h1 [] (nA [.t 4] false h.length P)).1:=by rw[BA zjs rfl hp rfl];exact zbe
theorem zjx:X.fn TH=some xS:=by kernel_rfl
theorem z7Y {u0 u1 v0 v1:AV}{h h1:aA}{P:jA}(hp:mA h [u0,u1]=some ([v0,v1],h1)):eA X TH [u0,u1] h P=(GN (eA X) X.gl [(0,v0),(1,v1)] h1 [] (nA [.t 4] false h.length P)).1:=by rw[BA zjx rfl hp rfl];exact zbD
theorem zj5:X.fn eL=some GS:=by kernel_rfl
theorem z8i {u0 h P}:eA X eL [u0] h P=(zK (eA X) X.gl [(0,u0)] h [] (nA [.t 2] false h.length P)).1:=by rw[gC zj5 rfl rfl];exact zbX
theorem zjw:X.fn SH=some vS:=by kernel_rfl
theorem z7X {u0 u1 v0 v1:AV}{h h1:aA}{P:jA}(hp:mA h [u0,u1]=some ([v0,v1],h1)):eA X SH [u0,u1] h P=(FN (eA X) X.gl [(0,v0),(1,v1)] h1 [] (nA [.t 4] false h.length P)).1:=by rw[BA zjw rfl hp rfl];exact zbA
theorem zjB:X.fn kL=some NS:=by kernel_rfl
theorem z8p {u0 u1 h P}:eA X kL [u0,u1] h P=(TN (eA X) X.gl [(0,u0),(1,u1)] h [] (nA [.t 4] false h.length P)).1:=by rw[gC zjB rfl rfl];exact zcs
theorem zjt:X.fn RH=some rS:=by kernel_rfl
theorem z7T {u0 u1 v0 v1:AV}{h h1:aA}{P:jA}(hp:mA h [u0,u1]=some ([v0,v1],h1)):eA X RH [u0,u1] h P=(CN (eA X) X.gl [(0,v0),(1,v1)] h1 [] (nA [.t 3] false h.length P)).1:=by rw[BA zjt rfl hp rfl];exact zbu
theorem z5x:X.fn IF=some zM:=by kernel_rfl
theorem z7Z {u0 u1 v0 v1:AV}{h h1:aA}{P:jA}(hp:mA h [u0,u1]=some ([v0,v1],h1)):eA X IF [u0,u1] h P=(HN (eA X) X.gl [(0,v0),(1,v1)] h1 [] (nA [.t 4] false h.length P)).1:=by rw[BA z5x rfl hp rfl];exact zbI
theorem z5z:X.fn OG=some BM:=by kernel_rfl
theorem z8k {u0 u1 v0 v1:AV}{h h1:aA}{P:jA}(hp:mA h [u0,u1]=some ([v0,v1],h1)):eA X OG [u0,u1] h P=(ON (eA X) X.gl [(0,v0),(1,v1)] h1 [] (nA [.t 4] false h.length P)).1:=by rw[BA z5z rfl hp rfl];exact zcl
theorem ziO:X.fn NK=some FR:=by kernel_rfl
theorem z7o {u0 u1 v0 v1:AV}{h h1:aA}{P:jA}(hp:mA h [u0,u1]=some ([v0,v1],h1)):eA X NK [u0,u1] h P=(YM (eA X) X.gl [(0,v0),(1,v1)] h1 [] (nA [.t 4,.t 5] false h.length P)).1:=by rw[BA ziO rfl hp rfl];exact z9G
theorem zjk:X.fn NH=some fS:=by kernel_rfl
theorem z0P {u0 u1 u2 v0 v1 v2:AV}{h h1:aA}{P:jA}(hp:mA h [u0,u1,u2]=some ([v0,v1,v2],h1)):eA X NH [u0,u1,u2] h P=(sK (eA X) X.gl [(0,v0),(1,v1),(2,v2)] h1 [] (nA [.t 6] false h.length P)).1:=by rw[BA zjk rfl hp rfl];exact zaP
theorem ziR:X.fn KH=some JR:=by kernel_rfl
theorem z7u {u0 v0:AV}{h h1:aA}{P:jA}(hp:mA h [u0]=some ([v0],h1)):eA X KH [u0] h P=(cN (eA X) X.gl [(0,v0)] h1 [] (nA [.t 2] false h.length P)).1:=by rw[BA ziR rfl hp rfl];exact z9W
theorem zj0:X.fn rE=some BS:=by kernel_rfl
theorem z8c {u0 u1 u2 v0 v1 v2:AV}{h h1:aA}{P:jA}(hp:mA h [u0,u1,u2]=some ([v0,v1,v2],h1)):eA X rE [u0,u1,u2] h P=(JN (eA X) X.gl [(0,v0),(1,v1),(2,v2)] h1 [] (nA [.t 6] false h.length P)).1:=by rw[BA zj0 rfl hp rfl];exact zbL
theorem zj3:X.fn WH=some ES:=by kernel_rfl
theorem z8f {u0 v0:AV}{h h1:aA}{P:jA}(hp:mA h [u0]=some ([v0],h1)):eA X WH [u0] h P=(LN (eA X) X.gl [(0,v0)] h1 [] (nA [.t 2] false h.length P)).1:=by rw[BA zj3 rfl hp rfl];exact zbU
theorem zju:X.fn YK=some sS:=by kernel_rfl
theorem z7U {u0 u1 v0 v1:AV}{h h1:aA}{P:jA}(hp:mA h [u0,u1]=some ([v0,v1],h1)):eA X YK [u0,u1] h P=(DN (eA X) X.gl [(0,v0),(1,v1)] h1 [] (nA [.t 4] false h.length P)).1:=by rw[BA zju rfl hp rfl];exact zbv
theorem zjq:X.fn WK=some mS:=by kernel_rfl
theorem z7O {u0 u1 v0 v1:AV}{h h1:aA}{P:jA}(hp:mA h [u0,u1]=some ([v0,v1],h1)):eA X WK [u0,u1] h P=RE (eA X) X.gl MP v0 v1 h1 [] (nA [.t 4] false h.length P):=by rw[BA zjq rfl hp rfl];exact zaZ
theorem zjH:X.fn oL=some TS:=by kernel_rfl
theorem z8v {u0 u1 h P}:eA X oL [u0,u1] h P=(XN (eA X) X.gl [(0,u0),(1,u1)] h [] (nA [.t 4] false h.length P)).1:=by rw[gC zjH rfl rfl];exact zcB
theorem ziQ:X.fn JH=some IR:=by kernel_rfl
theorem z7t {u0 u1 v0 v1:AV}{h h1:aA}{P:jA}(hp:mA h [u0,u1]=some ([v0,v1],h1)):eA X JH [u0,u1] h P=(nK (eA X) X.gl [(0,v0),(1,v1)] h1 [] (nA [.t 4] false h.length P)).1:=by rw[BA ziQ rfl hp rfl];exact z9T
theorem ziV:X.fn LH=some NR:=by kernel_rfl
theorem z7y {u0 v0:AV}{h h1:aA}{P:jA}(hp:mA h [u0]=some ([v0],h1)):eA X LH [u0] h P=(fN (eA X) X.gl [(0,v0)] h1 [] (nA [.t 2] true h.length P)).1:=by rw[BA ziV rfl hp rfl];exact zac
theorem ziX:X.fn IG=some PR:=by kernel_rfl
theorem z73 {u0 u1 u2 h P}:eA X IG [u0,u1,u2] h P=QE (eA X) X.gl wP xP u0 u1 u2 h [] (nA [] false h.length P):=by rw[gC ziX rfl rfl];exact zap
theorem z5u:X.fn HG=some yM:=by kernel_rfl
theorem z7z {u0 u1 v0 v1:AV}{h h1:aA}{P:jA}(hp:mA h [u0,u1]=some ([v0,v1],h1)):eA X HG [u0,u1] h P=(gN (eA X) X.gl [(0,v0),(1,v1)] h1 [] (nA [.t 4] false h.length P)).1:=by rw[BA z5u rfl hp rfl];exact zai
theorem ziH:X.fn WD=some wR:=by kernel_rfl
theorem z7g {u0 u1 v0 v1:AV}{h h1:aA}{P:jA}(hp:mA h [u0,u1]=some ([v0,v1],h1)):eA X WD [u0,u1] h P=(VM (eA X) X.gl [(0,v0),(1,v1)] h1 [] (nA [.t 4] false h.length P)).1:=by rw[BA ziH rfl hp rfl];exact z9j
theorem zjO:X.fn KF=some aT:=by kernel_rfl
theorem z0S {u0 u1 u2 u3 h P}:eA X KF [u0,u1,u2,u3] h P=(FK (eA X) X.gl [(0,u0),(1,u1),(2,u2),(3,u3)] h [] (nA [] false h.length P)).1:=by rw[gC zjO rfl rfl];exact zcQ
theorem ziZ:X.fn MH=some SR:=by kernel_rfl
theorem z77 {u0 v0:AV}{h h1:aA}{P:jA}(hp:mA h [u0]=some ([v0],h1)):eA X MH [u0] h P=(kN (eA X) X.gl [(0,v0)] h1 [] (nA [.t 2] false h.length P)).1:=by rw[BA ziZ rfl hp rfl];exact zaw
theorem zje:X.fn LG=some YR:=by kernel_rfl
theorem z7D {u0 u1 v0 v1:AV}{h h1:aA}{P:jA}(hp:mA h [u0,u1]=some ([v0,v1],h1)):eA X LG [u0,u1] h P=(pN (eA X) X.gl [(0,v0),(1,v1)] h1 [] (nA [.t 4] false h.length P)).1:=by rw[BA zje rfl hp rfl];exact za6
theorem zjl:X.fn OH=some gS:=by kernel_rfl
theorem z7J {u0 u1 v0 v1:AV}{h h1:aA}{P:jA}(hp:mA h [u0,u1]=some ([v0,v1],h1)):eA X OH [u0,u1] h P=(tN (eA X) X.gl [(0,v0),(1,v1)] h1 [] (nA [.t 4] true h.length P)).1:=by rw[BA zjl rfl hp rfl];exact zaQ
theorem ziM:X.fn GH=some BR:=by kernel_rfl
theorem z7k {u0 v0:AV}{h h1:aA}{P:jA}(hp:mA h [u0]=some ([v0],h1)):eA X GH [u0] h P=(zH (eA X) X.gl [(0,v0)] h1 [] (nA [.t 2] false h.length P)).1:=by rw[BA ziM rfl hp rfl];exact z9t
theorem z5s:X.fn EG=some wM:=by kernel_rfl
theorem z7q {u0 u1 u2 v0 v1 v2:AV}{h h1:aA}{P:jA}(hp:mA h [u0,u1,u2]=some ([v0,v1,v2],h1)):eA X EG [u0,u1,u2] h P=(ZM (eA X) X.gl [(0,v0),(1,v1),(2,v2)] h1 [] (nA [.t 6] false h.length P)).1:=by rw[BA z5s rfl hp rfl];exact z9O
theorem zj9:X.fn jL=some LS:=by kernel_rfl
theorem z8n {u0 u1 h P}:eA X jL [u0,u1] h P=(RN (eA X) X.gl [(0,u0),(1,u1)] h [] (nA [.t 4] false h.length P)).1:=by rw[gC zj9 rfl rfl];exact zcq
theorem ziP:X.fn HH=some HR:=by kernel_rfl
theorem z7s {u0 u1 v0 v1:AV}{h h1:aA}{P:jA}(hp:mA h [u0,u1]=some ([v0,v1],h1)):eA X HH [u0,u1] h P=(BH (eA X) X.gl [(0,v0),(1,v1)] h1 [] (nA [.t 3] false h.length P)).1:=by rw[BA ziP rfl hp rfl];exact z9S
theorem zjJ:X.fn pL=some VS:=by kernel_rfl
theorem z8w {u0 h P}:eA X pL [u0] h P=(YN (eA X) X.gl [(0,u0)] h [] (nA [] false h.length P)).1:=by rw[gC zjJ rfl rfl];exact zcF
theorem zjp:X.fn VK=some lS:=by kernel_rfl
theorem z7N {u0 v0:AV}{h h1:aA}{P:jA}(hp:mA h [u0]=some ([v0],h1)):eA X VK [u0] h P=(xN (eA X) X.gl [(0,v0)] h1 [] (nA [.t 2] false h.length P)).1:=by rw[BA zjp rfl hp rfl];exact zaY
theorem zjF:X.fn YH=some RS:=by kernel_rfl
theorem z8t {u0 u1 h P}:eA X YH [u0,u1] h P=(VN (eA X) X.gl [(0,u0),(1,u1)] h [] (nA [.t 4] false h.length P)).1:=by rw[gC zjF rfl rfl];exact zc5
theorem zj7:X.fn gL=some JS:=by kernel_rfl
theorem z8l {u0 u1 h P}:eA X gL [u0,u1] h P=(PN (eA X) X.gl [(0,u0),(1,u1)] h [] (nA [.t 4] false h.length P)).1:=by rw[gC zj7 rfl rfl];exact zco
theorem zjy:X.fn UH=some yS:=by kernel_rfl
theorem z8a {u0 u1 v0 v1:AV}{h h1:aA}{P:jA}(hp:mA h [u0,u1]=some ([v0,v1],h1)):eA X UH [u0,u1] h P=(xK (eA X) X.gl [(0,v0),(1,v1)] h1 [] (nA [.t 3] false h.length P)).1:=by rw[BA zjy rfl hp rfl];exact zbJ
theorem zj8:X.fn PG=some KS:=by kernel_rfl
theorem z8m {u0 u1 h P}:eA X PG [u0,u1] h P=(QN (eA X) X.gl [(0,u0),(1,u1)] h [] (nA [.t 4] false h.length P)).1:=by rw[gC zj8 rfl rfl];exact zcp
theorem zjz:X.fn VH=some zS:=by kernel_rfl
theorem z8b {u0 u1 v0 v1:AV}{h h1:aA}{P:jA}(hp:mA h [u0,u1]=some ([v0,v1],h1)):eA X VH [u0,u1] h P=(IN (eA X) X.gl [(0,v0),(1,v1)] h1 [] (nA [.t 3] false h.length P)).1:=by rw[BA zjz rfl hp rfl];exact zbK
theorem ziG:X.fn KK=some vR:=by kernel_rfl
theorem z7f {u0 u1 v0 v1:AV}{h h1:aA}{P:jA}(hp:mA h [u0,u1]=some ([v0,v1],h1)):eA X KK [u0,u1] h P=(xH (eA X) X.gl [(0,v0),(1,v1)] h1 [] (nA [.t 4] false h.length P)).1:=by rw[BA ziG rfl hp rfl];exact z9i
theorem ziF:X.fn VD=some uR:=by kernel_rfl
theorem z7e {u0 u1 u2 v0 v1 v2:AV}{h h1:aA}{P:jA}(hp:mA h [u0,u1,u2]=some ([v0,v1,v2],h1)):eA X VD [u0,u1,u2] h P=(UM (eA X) X.gl [(0,v0),(1,v1),(2,v2)] h1 [] (nA [.t 6] false h.length P)).1:=by rw[BA ziF rfl hp rfl];exact z9h
theorem ziU:X.fn OK=some MR:=by kernel_rfl
theorem z7x {u0 u1 u2 v0 v1 v2:AV}{h h1:aA}{P:jA}(hp:mA h [u0,u1,u2]=some ([v0,v1,v2],h1)):eA X OK [u0,u1,u2] h P=(eN (eA X) X.gl [(0,v0),(1,v1),(2,v2)] h1 [] (nA [.t 6] false h.length P)).1:=by rw[BA ziU rfl hp rfl];exact zab
theorem zj2:X.fn bL=some DS:=by kernel_rfl
theorem z8e {u0 u1 u2 u3 v0 v1 v2 v3:AV}{h h1:aA}{P:jA}(hp:mA h [u0,u1,u2,u3]=some ([v0,v1,v2,v3],h1)):eA X bL [u0,u1,u2,u3] h P=(yK (eA X) X.gl [(0,v0),(1,v1),(2,v2),(3,v3)] h1 [] (nA [.t 8] false h.length P)).1:=by rw[BA zj2 rfl hp rfl];exact zbP
theorem zjr:X.fn MG=some nS:=by kernel_rfl
theorem z7P {u0 u1 v0 v1:AV}{h h1:aA}{P:jA}(hp:mA h [u0,u1]=some ([v0,v1],h1)):eA X MG [u0,u1] h P=(yN (eA X) X.gl [(0,v0),(1,v1)] h1 [] (nA [.t 3] false h.length P)).1:=by rw[BA zjr rfl hp rfl];exact zbd
theorem ziL:X.fn LK=some AR:=by kernel_rfl
theorem z7j {u0 u1 v0 v1:AV}{h h1:aA}{P:jA}(hp:mA h [u0,u1]=some ([v0,v1],h1)):eA X LK [u0,u1] h P=zF (eA X) X.gl qI TO v0 v1 h1 [] (nA [.t 4] false h.length P):=by rw[BA ziL rfl hp rfl];exact z9n
theorem ziJ:X.fn UE=some yR:=by kernel_rfl
theorem z0O {u0 v0:AV}{h h1:aA}{P:jA}(hp:mA h [u0]=some ([v0],h1)):eA X UE [u0] h P=(jK (eA X) X.gl [(0,v0)] h1 [] (nA [.t 2] false h.length P)).1:=by rw[BA ziJ rfl hp rfl];exact z9l
theorem zjM:X.fn aI=some YS:=by kernel_rfl
theorem z0R {u0 u1 u2 h P}:eA X aI [u0,u1,u2] h P=(EK (eA X) X.gl [(0,u0),(1,u1),(2,u2)] h [] (nA [] false h.length P)).1:=by rw[gC zjM rfl rfl];exact zcI
theorem zja:X.fn QK=some TR:=by kernel_rfl
theorem z78 {u0 v0:AV}{h h1:aA}{P:jA}(hp:mA h [u0]=some ([v0],h1)):eA X QK [u0] h P=(mN (eA X) X.gl [(0,v0)] h1 [] (nA [.t 2] false h.length P)).1:=by rw[BA zja rfl hp rfl];exact zax
theorem ziE:X.fn JK=some tR:=by kernel_rfl
theorem z7d {u0 v0:AV}{h h1:aA}{P:jA}(hp:mA h [u0]=some ([v0],h1)):eA X JK [u0] h P=(TM (eA X) X.gl [(0,v0)] h1 [] (nA [.t 2] false h.length P)).1:=by rw[BA ziE rfl hp rfl];exact z9g
theorem zjG:X.fn nL=some SS:=by kernel_rfl
theorem z8u {u0 u1 h P}:eA X nL [u0,u1] h P=(WN (eA X) X.gl [(0,u0),(1,u1)] h [] (nA [.t 4] false h.length P)).1:=by rw[gC zjG rfl rfl];exact zc8
theorem zjP:X.fn QG=some bT:=by kernel_rfl
theorem z80 {u0 u1 u2 u3 h P}:eA X QG [u0,u1,u2,u3] h P=(cO (eA X) X.gl [(0,u0),(1,u1),(2,u2),(3,u3)] h [] (nA [] false h.length P)).1:=by rw[gC zjP rfl rfl];exact zcV
theorem zj1:X.fn aL=some CS:=by kernel_rfl
theorem z8d {u0 u1 v0 v1:AV}{h h1:aA}{P:jA}(hp:mA h [u0,u1]=some ([v0,v1],h1)):eA X aL [u0,u1] h P=(KN (eA X) X.gl [(0,v0),(1,v1)] h1 [] (nA [.t 4] false h.length P)).1:=by rw[BA zj1 rfl hp rfl];exact zbM
theorem zjE:X.fn mL=some QS:=by kernel_rfl
theorem z8s {u0 u1 h P}:eA X mL [u0,u1] h P=(UN (eA X) X.gl [(0,u0),(1,u1)] h [] (nA [.t 4] false h.length P)).1:=by rw[gC zjE rfl rfl];exact zc2
theorem zj4:X.fn dL=some FS:=by kernel_rfl
theorem z8h {u0 v0:AV}{h h1:aA}{P:jA}(hp:mA h [u0]=some ([v0],h1)):eA X dL [u0] h P = ∃v h' x,P v h' x∧(NN (eA X) X.gl [(0,v0)] h1 [] (nA [.t 2] true h.length fun v1 h1 x1=>v1=v∧h1=h'∧x1=x)).1:=by rw[HM zj4 rfl hp rfl];exact z1U fun v h' x=>congrArg (And (P v h' x)) zbW
theorem zjN:X.fn sL=some ZS:=by kernel_rfl
theorem z8z {u0 u1 u2 h P}:eA X sL [u0,u1,u2] h P=(bO (eA X) X.gl [(0,u0),(1,u1),(2,u2)] h [] (nA [] false h.length P)).1:=by rw[gC zjN rfl rfl];exact zcM
theorem ziI:X.fn EF=some xR:=by kernel_rfl
theorem z7h {u0 u1 v0 v1:AV}{h h1:aA}{P:jA}(hp:mA h [u0,u1]=some ([v0,v1],h1)):eA X EF [u0,u1] h P=(WM (eA X) X.gl [(0,v0),(1,v1)] h1 [] (nA [.t 4] false h.length P)).1:=by rw[BA ziI rfl hp rfl];exact z9k
theorem zjQ:X.fn tL=some eT:=by kernel_rfl
theorem z81 {u0 u1 v0 v1:AV}{h h1:aA}{P:jA}(hp:mA h [u0,u1]=some ([v0,v1],h1)):eA X tL [u0,u1] h P=(dO (eA X) X.gl [(0,v0),(1,v1)] h1 [] (nA [.t 4] false h.length P)).1:=by rw[BA zjQ rfl hp rfl];exact zda
theorem ziK:X.fn FH=some zR:=by kernel_rfl
theorem z7i {u0 v0:AV}{h h1:aA}{P:jA}(hp:mA h [u0]=some ([v0],h1)):eA X FH [u0] h P=(XM (eA X) X.gl [(0,v0)] h1 [] (nA [.t 2] false h.length P)).1:=by rw[BA ziK rfl hp rfl];exact z9m
theorem ziY:X.fn PK=some QR:=by kernel_rfl
theorem z74 {u0 u1 v0 v1:AV}{h h1:aA}{P:jA}(hp:mA h [u0,u1]=some ([v0,v1],h1)):eA X PK [u0,u1] h P=(jN (eA X) X.gl [(0,v0),(1,v1)] h1 [] (nA [.t 4] false h.length P)).1:=by rw[BA ziY rfl hp rfl];exact zav
attribute [go_sem] za3 CU zaD zaE zaF zaG zaH zaI zaJ zeC zeD zeE FU GU HU IU JU KU LU zaL zaM zeF MU NU z90 z91 z92 z93 z94 z95 zev zew JT LT MT NT OT PT z97 z98
attribute [go_sem] z99 z9A z9B z9C z9D z9E z9F zex zey zez QT RT ST TT UT VT WT XT YT z9I z9J z9K z9L z9M z9N ze0 ze1 ZT aU bU cU dU fU zbi zbj zbk zeK UU VU WU
attribute [go_sem] zbm zbn zbo zbp zbq zbr zbs zbt EW DW zeL zeM zeN zeO XU YU ZU aV bV cV dV eV uK tK zb2 zb3 FW zb4 zb5 zb6 zeR zeS nV oV UD pV qV rV zcx zcy
attribute [go_sem] zff aW bW zc0 zc1 zfg cW dW z9x z9y zeu HT IT za9 zaA zaB z17 BD EU z9Z zaa ze4 lU mU zcf zcg zch zci zcj zck zfb zfc OV QV RV SV TV UV zb8 zb9
attribute [go_sem] zeT sV tV zbf zbg zeJ SU TU zbE zbF zbG zbH zeV zeW wV xV yV zV zbY zbZ zca zcb zcc zcd zeZ zfa IV JV KV LV MV NV zbB zbC zeU uV vV zct zcu zcv
attribute [go_sem] zfe XV YV ZV zcm zcn zfd VV WV zbw zbx zby zbz zb0 zeP zeQ fV iV jV kV lV zba zbb zbc zeI z18 z19 DH zcC zcD zfk lW mW z9U z9V ze3 jU kU zad zae
attribute [go_sem] zaf zag zah ze5 ze6 nU oU pU qU rU zaq zar zas zat zau ze9 zeA zeB z14 z15 xU z16 AF zaj zak zal zam zan ze7 ze8 sU tU uU vU wU zcR zcS zcT zcU zfp
attribute [go_sem] tW uW vW wW za7 DU zaR zaS zaT zaU zeG zeH OU PU QU RU z9u z9v zet FT GT z9P z9Q ze2 gU iU zc6 zc7 zfi gW iW zbQ zbR zbS zbT zeY EV FV GV HV
attribute [go_sem] z9o z9p z9q z9r z9s zer zes z11 z12 z13 yH ET zcJ zcK zcL zfl zfm nW oW pW zay zaz za0 yU zU BU zc9 zcA zfj jW kW zcW zcX zcY zcZ zfq xW yW zW BW
attribute [go_sem] zbN zbO zeX BV DV zc3 zc4 zfh eW fW zcN zcO zcP zfn zfo qW rW sW
end Go.Am
end
section
/- The stream of numbers out of which the laws draw. -/
open Go
namespace Go.Am
abbrev eI (n:Int):PV:=.int .i64 n
abbrev AL (l:List Int):AV:=.p (.sl none (l.map eI))
abbrev xA (L:List Int)(a:Int):Obj:=.box [AL L,AI a]
def uF (x n:Int):Int:=if n<1 then 0 else if x.tmod n<0 then IntKind.i64.wrap (x.tmod n+n) else x.tmod n
theorem z4n (x n:Int)(h:aA)(K:jA):eA X LG [AI x,AI n] h K=K (AI (uF x n)) h []:=by
 refine tA ?_;rw[z7D rfl];simp only[pN,go_sem];unfold uF;by_cases h1:n<1
 ·simp only[h1,if_true]
 ·simp only[h1,if_false,show ¬n=0 by omega]
  split <;> rfl
theorem z6C (x n:Int)(h1:1≤n)(h2:n≤4611686018427387904):0≤uF x n∧uF x n<n:=by
 unfold uF;rw[if_neg (by omega)]
 have:=Int.tmod_lt_of_pos x (show 0<n by omega)
 have h3 : -n<x.tmod n:=by
  have:=Int.lt_tmod_of_pos x (show 0<n by omega)
  exact this
 split
 ·rw[qA _ (by omega) (by omega)];omega
 ·omega
def iB (L:List Int)(a n:Int):Int:=
 if L.length=0 then uF (IntKind.i64.wrap ((a+1)*7919)) n
 else uF (IntKind.i64.wrap (uF (L.getD (a.tmod L.length).toNat 0) 1073741824+IntKind.i64.wrap (IntKind.i64.wrap (a.tdiv L.length)*IntKind.i64.wrap (7919+a.tmod L.length)))) n
theorem WG (L:List Int)(a n:Int)(h1:1≤n)(h2:n≤4611686018427387904):0≤iB L a n∧iB L a n<n:=by
 unfold iB;split <;> exact z6C _ _ h1 h2
theorem QD {h:aA}{id:Nat}{o':Obj}(hid:id<h.length):(h.set id o')[id]?=some o':=by simp [hid]
theorem YD {h:aA}{id:Nat}{o:Obj}(hh:h[id]?=some o):id<h.length:=(List.getElem?_eq_some_iff.1 hh).1
def RA (n:Nat)(a:Int):Prop:=0≤a∧a+n<4611686018427387904
theorem PC {n m:Nat}{a b:Int}(H:RA m a)(h:a≤b)(hn:b+n≤a+m):RA n b:=by unfold RA at *;omega
theorem zJ {a:Int}(H:RA 14 a):RA 0 (a)∧RA 0 (a+1)∧RA 0 (a+1+1)∧RA 0 (a+1+1+1)∧RA 0 (a+1+1+1+1)∧RA 0 (a+1+1+1+1+1)∧RA 0 (a+1+1+1+1+1+1)∧RA 0 (a+1+1+1+1+1+1+1)∧RA 0 (a+1+1+1+1+1+1+1+1)∧RA 0 (a+1+1+1+1+1+1+1+1+1)∧RA 0 (a+1+1+1+1+1+1+1+1+1+1)∧RA 0 (a+1+1+1+1+1+1+1+1+1+1+1)∧RA 0 (a+1+1+1+1+1+1+1+1+1+1+1+1)∧RA 0 (a+1+1+1+1+1+1+1+1+1+1+1+1+1)∧RA 0 (a+1+1+1+1+1+1+1+1+1+1+1+1+1+1):=by
 unfold RA at *;omega
def Gen (f:Nat)(args:List AV)(L:List Int)(a a2:Int)(v:AV):Prop:=∀(h:aA) (id:Nat) (K:jA),h[id]?=some (xA L a)→eA X f (.ref id 0::args) h K=K v (h.set id (xA L a2)) []
section
variable {f:Nat} {args:List AV} {L:List Int} {a a2:Int} {v:AV} {h l:aA} {id:Nat} {K:jA}
theorem Gen.set (g:Gen f args L a a2 v)(hid:id<h.length):eA X f (.ref id 0::args) (h.set id (xA L a)) K=K v (h.set id (xA L a2)) []:=by
 rw[g _ _ _ (QD hid),List.set_set]
theorem Gen.app (g:Gen f args L a a2 v)(hid:id<h.length):eA X f (.ref id 0::args) (h.set id (xA L a)++l) K=K v (h.set id (xA L a2)++l) []:=by
 rw[g _ _ _ (by rw[z2E (by simpa using hid)];exact QD hid),z4L (by simpa using hid),List.set_set]
theorem Gen.hd (g:Gen f args L a a2 v):eA X f (.ref 0 0::args) (xA L a::l) K=K v (xA L a2::l) []:=by
 rw[g _ _ _ rfl];rfl
theorem Gen.of (H:∀ (h:aA) (id:Nat),id<h.length→eA X f (.ref id 0::args) (h.set id (xA L a)) fun v1 h1 x1=>v1=v∧h1=h.set id (xA L a2)∧x1=[]):Gen f args L a a2 v:=by
 intro h id K hh;have hid:=YD hh
 have:h.set id (xA L a)=h:=by
  apply List.ext_getElem?
  intro i;rw[List.getElem?_set];split
  ·rename_i e;subst e;rw[hh]
  ·rfl
 have k:=H h id hid
 rw[this]at k;exact tA k
end
def tD (f:Nat)(args:List AV)(L:List Int)(a:Int)(Q:AV→Int→Prop):Prop:=∀(h:aA) (id:Nat),h[id]?=some (xA L a)→∃v a2,Q v a2∧∀K:jA,eA X f (.ref id 0::args) h K=K v (h.set id (xA L a2)) []
section
variable {f:Nat} {args:List AV} {L:List Int} {a:Int} {Q:AV→Int→Prop}
theorem tD.set (g:tD f args L a Q){h:aA}{id:Nat}(hid:id<h.length):∃v a2,Q v a2∧∀K:jA,eA X f (.ref id 0::args) (h.set id (xA L a)) K=K v (h.set id (xA L a2)) []:=by
 obtain⟨v,a2,q,r⟩:=g _ _ (QD hid);exact⟨v,a2,q,fun K=>by rw[r,List.set_set]⟩
theorem tD.app (g:tD f args L a Q){h l:aA}{id:Nat}(hid:id<h.length):∃v a2,Q v a2∧∀K:jA,eA X f (.ref id 0::args) (h.set id (xA L a)++l) K=K v (h.set id (xA L a2)++l) []:=by
 obtain⟨v,a2,q,r⟩:=g (h.set id (xA L a)++l) id (by rw[z2E (by simpa using hid)];exact QD hid)
 exact⟨v,a2,q,fun K=>by rw[r,z4L (by simpa using hid),List.set_set]⟩
theorem tD.hd (g:tD f args L a Q){l:aA}:∃v a2,Q v a2∧∀K:jA,eA X f (.ref 0 0::args) (xA L a::l) K=K v (xA L a2::l) []:=g (xA L a::l) 0 rfl
theorem tD.of (H:∀ (h:aA) (id:Nat),id<h.length→eA X f (.ref id 0::args) (h.set id (xA L a)) fun v1 h1 x1=>∃ a2,Q v1 a2∧h1=h.set id (xA L a2)∧x1=[]):tD f args L a Q:=by
 intro h id hh;have hid:=YD hh
 have:h.set id (xA L a)=h:=by
  apply List.ext_getElem?
  intro i;rw[List.getElem?_set];split
  ·rename_i e;subst e;rw[hh]
  ·rfl
 have k:=H h id hid
 rw[this]at k;obtain⟨v,h',x,⟨a2,q,e1,e2⟩,r⟩:=eA.one z0w k;subst e1;subst e2
 exact⟨v,a2,q,r⟩
end
def eE (l:List Int)(L:List Int)(a:Int):Int:=l.getD (iB L a l.length).toNat 0
theorem KQ {l L:List Int}{a:Int}(hl:0<l.length)(hl2:l.length<4611686018427387904):eE l L a∈l:=by
 obtain⟨b1,b2⟩:=WG L a l.length (by omega) (by omega)
 unfold eE;have:(iB L a l.length).toNat<l.length:=by omega
 simp only[List.getD,List.getElem?_eq_getElem this,Option.getD_some];exact List.getElem_mem _
def isI:PV→Bool
 | .int .i64 _=>true
 | _=>false
def unI:PV→Int
 | .int _ n=>n
 | _=>0
theorem zi1 {xs:List PV}(h:xs.all isI=true):xs=(xs.map unI).map eI:=by
 induction xs with
 | nil=>rfl
 | cons x r ih=>
  simp only[List.all_cons,Bool.and_eq_true]at h;simp only[List.map_cons];rw[←ih h.2];cases x with
  | int k n=>cases k <;> first|rfl|cases h.1
  | _=>cases h.1
set_option maxHeartbeats 400000 in
theorem z2A (L:List Int)(a n:Int)(hp:RA 0 a):Gen XC [AI n] L a (a+1) (AI (iB L a n)):=by
 refine Gen.of fun h id hid=>?_
 rw[z7I rfl];obtain⟨h0,h1⟩:=hp;have w1:IntKind.i64.wrap (a+1)=a+1:=qA _ (by omega) (by omega)
 have w2:IntKind.i64.wrap (a+1-1)=a:=by rw[qA _ (by omega) (by omega)];omega
 have hs:∀o',(h.set id o')[id]?=some o':=fun o'=>QD hid
 rcases Nat.eq_zero_or_pos L.length with hl|hl
 ·simp only[rK,go_sem,hs,z4n,hl,w1]
  simp only[iB,hl,if_true]
 ·have e1:((L.length:Int)=0)=False:=by simp only[eq_iff_iff,iff_false];omega
  have e2:0≤a.tmod L.length:=Int.tmod_nonneg _ h0
  have e3:a.tmod L.length<L.length:=Int.tmod_lt_of_pos _ (by omega)
  have e4:=KD (k:=.i64) e2
  have e5:(L.map eI)[(a.tmod L.length).toNat]?=some (eI (L.getD (a.tmod L.length).toNat 0)):=by
   rw[PA eI (show(a.tmod L.length).toNat<L.length by omega)]
   simp [List.getD,show(a.tmod L.length).toNat<L.length by omega]
  simp only[rK,go_sem,hs,z4n,e1,w1,w2,e4,e5];simp only[iB,show ¬L.length=0 by omega,if_false]
section
variable {L:List Int} {a:Int} {h l:aA} {id:Nat} {K:jA}
theorem EJ (hid:id<h.length)(hp:RA 0 a)(n:Int):eA X XC [.ref id 0,AI n] (h.set id (xA L a)) K=K (AI (iB L a n)) (h.set id (xA L (a+1))) []:=(z2A L a n hp).set hid
theorem z4u (hid:id<h.length)(hp:RA 0 a)(n:Int):eA X XC [.ref id 0,AI n] (h.set id (xA L a)++l) K=K (AI (iB L a n)) (h.set id (xA L (a+1))++l) []:=(z2A L a n hp).app hid
theorem z29 (hp:RA 0 a)(n:Int):Gen CD [AI n] L a (a+1) (AB (decide (iB L a n=0))):=by
 refine Gen.of fun h id hid=>?_
 rw[z7H rfl];simp only[sN,go_sem,EJ hid hp]
theorem z4s (hid:id<h.length)(hp:RA 0 a)(n:Int):eA X CD [.ref id 0,AI n] (h.set id (xA L a)) K=K (AB (decide (iB L a n=0))) (h.set id (xA L (a+1))) []:=(z29 hp n).set hid
theorem z4r (hid:id<h.length)(hp:RA 0 a)(n:Int):eA X CD [.ref id 0,AI n] (h.set id (xA L a)++l) K=K (AB (decide (iB L a n=0))) (h.set id (xA L (a+1))++l) []:=(z29 hp n).app hid
theorem z2B (hp:RA 0 a)(xs:List PV)(hx:xs.all isI=true)(hl:0<xs.length)(hl2:xs.length<4611686018427387904) :
 Gen DD [.p (.sl none xs)] L a (a+1) (AI (eE (xs.map unI) L a)):=by
 refine Gen.of fun h id hid=>?_
 rw[z7K rfl];obtain⟨b1,b2⟩:=WG L a xs.length (by omega) (by omega)
 have e4:=KD (k:=.i64) b1
 have e5:xs[(iB L a xs.length).toNat]?=some (eI (eE (xs.map unI) L a)):=by
  have hm:=zi1 hx
  generalize hq:xs.map unI=q at *;subst hm;simp only[List.length_map]at *;rw[PA eI (show(iB L a q.length).toNat<q.length by omega)]
  simp [eE,List.getD,show(iB L a q.length).toNat<q.length by omega]
 simp only[uN,go_sem,EJ hid hp,e4,e5]
theorem z4w (hid:id<h.length)(hp:RA 0 a){xs:List PV}(hx:xs.all isI=true)(hl:0<xs.length)(hl2:xs.length<4611686018427387904) :
 eA X DD [.ref id 0,.p (.sl none xs)] (h.set id (xA L a)) K=K (AI (eE (xs.map unI) L a)) (h.set id (xA L (a+1))) []:=(z2B hp xs hx hl hl2).set hid
theorem z4v (hid:id<h.length)(hp:RA 0 a){xs:List PV}(hx:xs.all isI=true)(hl:0<xs.length)(hl2:xs.length<4611686018427387904) :
 eA X DD [.ref id 0,.p (.sl none xs)] (h.set id (xA L a)++l) K=K (AI (eE (xs.map unI) L a)) (h.set id (xA L (a+1))++l) []:=(z2B hp xs hx hl hl2).app hid
def bD (u v:Int)(L:List Int)(a:Int):Int:=u+iB L a (v-u+1)
theorem XF {u v:Int}(L:List Int)(a:Int)(h1:u≤v)(h2:v≤u+4611686018427387900):u≤bD u v L a∧bD u v L a≤v:=by
 have:=WG L a (v-u+1) (by omega) (by omega)
 unfold bD;omega
theorem z2C (hp:RA 0 a)(u v:Int)(huv:u≤v)(hu : -1152921504606846976≤u)(hv:v≤1152921504606846976) :
 Gen JC [AI u,AI v] L a (a+1) (AI (bD u v L a)):=by
 refine Gen.of fun h id hid=>?_
 rw[z7L rfl];obtain⟨b1,b2⟩:=XF L a huv (by omega)
 have w1:IntKind.i64.wrap (v-u)=v-u:=qA _ (by omega) (by omega)
 have w2:IntKind.i64.wrap (v-u+1)=v-u+1:=qA _ (by omega) (by omega)
 have w3:IntKind.i64.wrap (u+iB L a (v-u+1))=bD u v L a:=qA (bD u v L a) (by omega) (by omega)
 simp only[vN,go_sem,show ¬v<u by omega,w1,w2,EJ hid hp,w3]
theorem z4y (hid:id<h.length)(hp:RA 0 a){u v:Int}(huv:u≤v)(hu : -1152921504606846976≤u)(hv:v≤1152921504606846976) :
 eA X JC [.ref id 0,AI u,AI v] (h.set id (xA L a)) K=K (AI (bD u v L a)) (h.set id (xA L (a+1))) []:=(z2C hp u v huv hu hv).set hid
theorem z4x (hid:id<h.length)(hp:RA 0 a){u v:Int}(huv:u≤v)(hu : -1152921504606846976≤u)(hv:v≤1152921504606846976) :
 eA X JC [.ref id 0,AI u,AI v] (h.set id (xA L a)++l) K=K (AI (bD u v L a)) (h.set id (xA L (a+1))++l) []:=(z2C hp u v huv hu hv).app hid
end
attribute [go_sem ↓] EJ z4u z4s z4r z4w z4v z4y z4x
attribute [go_sem] EJ z4u z4s z4r z4w z4v z4y z4x isI unI
end Go.Am
end
section
/- Plain laws of fractions in lowest terms. -/
namespace Go.Am
def low (a b:Int):Int×Int:=(a.tdiv (Int.gcd a b),b.tdiv (Int.gcd a b))
end Go.Am
end
section
/- Small functions of numbers and of lists of numbers. -/
open Go
namespace Go.Am
variable {h:aA} {K:jA}
theorem dG (n a b:Int):eA X VD [AI n,AI a,AI b] h K=K (AB (decide (n<a)||decide (b<n))) h []:=by
 refine tA ?_;rw[z7e rfl];by_cases h1:n<a <;> simp only[UM,go_sem,h1]
theorem eG (n a b:Int):eA X rE [AI n,AI a,AI b] h K=K (AB (decide (a≤n)&&decide (n≤b))) h []:=by
 refine tA ?_;rw[z8c rfl];by_cases h1:a≤n <;> simp only[JN,go_sem,h1]
theorem LZ (n:Int)(h1:0≤n)(h2:n<18446744073709551616):IntKind.u64.wrap n=n:=by
 simp [IntKind.wrap,IntKind.bits,IntKind.signed];omega
abbrev AU (n:Int):AV:=.p (.int .u64 n)
end Go.Am
end
section
/- Functions of lists. -/
open Go
namespace Go.Am
variable {h:aA} {K:jA}
theorem zho (a:Int):eA X UE [AI a] h K=K (AB false) h []:=by
 refine tA ?_;rw[z0O rfl];simp only[jK,go_sem]
theorem zie (l:List Int)(a b:Int)(hv:∀ n∈l,a≤n∧n≤b):(l.length:Int)*a≤l.sum∧l.sum≤(l.length:Int)*b:=by
 induction l with
 | nil=>simp
 | cons x r ih=>
  obtain⟨i1,i2⟩:=ih (fun n hn=>hv n (by simp [hn]))
  obtain⟨x1,x2⟩:=hv x (by simp)
  simp only[List.length_cons,List.sum_cons,Int.natCast_add,Int.add_mul];omega
theorem zif {l:List Int}{B:Int}(hv:∀ n∈l,-B≤n∧n≤B){N:Nat}(hl:l.length≤N)(hB:0≤B) : -(N*B)≤l.sum∧l.sum≤N*B:=by
 obtain⟨h1,h2⟩:=zie l (-B) B hv;have:(l.length:Int)*B≤N*B:=Int.mul_le_mul_of_nonneg_right (by omega) hB
 rw[Int.mul_neg]at h1;omega
theorem zig {l:List Int}{B:Int}(hv:∀ n∈l,-B≤n∧n≤B){N:Nat}(hl:l.length≤N)(hB:0≤B)(k:Nat) : -(N*B)≤(l.take k).sum∧(l.take k).sum≤N*B:=
 zif (fun n hn=>hv n (List.mem_of_mem_take hn)) (by simp;omega) hB
theorem pZ (l m:List Int)(hl:l.length≤1000000000):eA X XH [AL l,AL m] h K=K (AB (decide (l=m))) h []:=by
 refine tA ?_;rw[z8q rfl];by_cases hlen:l.length=m.length
 ·simp only[BK,go_sem,hlen]
  refine FA (fun k:Nat=>⟨[(0,AL l),(1,AL m),(12,AI m.length),(13,AI k)],h,[]⟩) (fun k=>k≤m.length∧l.take k=m.take k) (fun k=>m.length-k) 0 rfl (by simp) ?_
  rintro k ⟨hk,hp⟩
  rcases Nat.lt_or_ge k m.length with hlt|hge
  ·have hg1:=PA eI (show k<l.length by omega)
   have hg2:=PA eI hlt
   have w2:IntKind.i64.wrap ((k:Int)+1)=((k+1:Nat):Int):=qA _ (by omega) (by omega)
   by_cases he:l[k]=m[k]
   ·simp only[go_sem,hlt,hg1,hg2,w2,he]
    exact⟨k+1,rfl,⟨by omega,by rw[List.take_succ_eq_append_getElem (by omega),List.take_succ_eq_append_getElem hlt,hp,he]⟩,by omega⟩
   ·simp only[go_sem,hlt,hg1,hg2,w2,he]
    have:¬l=m:=fun h=>he (by simp only[h])
    simp [this]
  ·have e1:k=m.length:=by omega
   have e2:l=m:=by rw[←List.take_length (l:=l),←List.take_length (l:=m),hlen,←e1,hp]
   subst e1;simp only[go_sem,Nat.lt_irrefl];simp [e2]
 ·have e1:((l.length:Int)=m.length)=False:=by simp only[eq_iff_iff,iff_false];omega
  simp only[BK,go_sem,e1];have:¬l=m:=fun h=>hlen (by rw[h])
  simp [this]
def nG (g:Nat)(caps:List AV)(p:PV→Bool)(xs:List PV)(h:aA):Prop:=∀x∈xs,∀K:jA,eA X g (.p x::caps) h K=K (AB (p x)) h []
def LC (p:PV→Bool)(xs:List PV):Int:=if xs.findIdx p<xs.length then(xs.findIdx p:Int) else -1
theorem SW (p:PV→Bool)(xs:List PV):decide (0≤LC p xs)=xs.any p:=by
 unfold LC;rw[Bool.eq_iff_iff];by_cases h:xs.findIdx p<xs.length
 ·rw[if_pos h];simp only[decide_eq_true_eq,List.any_eq_true]
  exact⟨fun _=>⟨_,List.getElem_mem h,List.findIdx_getElem⟩,fun _=>by omega⟩
 ·rw[if_neg h];simp only[decide_eq_true_eq,List.any_eq_true]
  refine⟨fun h=>by omega,fun⟨x,hx,hp⟩=>absurd (List.findIdx_lt_length_of_exists ⟨x,hx,hp⟩) h⟩
end Go.Am
end
section
/- Plain lists: insertion sort asv Go's package slices does it on short lists;deleting;compacting. -/
namespace Go.Am
variable {α:Type}
def nB (lt:α→α→Bool)(x:α):List α→List α
 | []=>[x]
 | y::r=>bif lt x y then y::nB lt x r else x::y::r
def bC (lt:α→α→Bool)(l:List α):List α:=l.foldl (fun r x=>nB lt x r) []
def XA (lt:α→α→Bool)(l:List α):List α:=(bC lt l).reverse
theorem TW (lt:α→α→Bool)(x:α):∀r:List α,(nB lt x r).Perm (x::r)
 | []=>.refl _
 | y::r=>by
  unfold nB;cases lt x y with
  | true=>exact((TW lt x r).cons y).trans (.swap _ _ _)
  | false=>exact .refl _
theorem z2N (lt:α→α→Bool):∀(l r:List α),(l.foldl (fun r x=>nB lt x r) r).Perm (l++r)
 | [],r=>.refl _
 | x::l,r=>by
  simp only[List.foldl_cons,List.cons_append];refine(z2N lt l _).trans ?_;exact((TW lt x r).append_left l).trans (List.perm_middle)
theorem IL (lt:α→α→Bool)(l:List α):(bC lt l).Perm l:=by
 have:=z2N lt l [];rwa [List.append_nil]at this
theorem z2Q (lt:α→α→Bool)(l:List α):(XA lt l).Perm l:=(List.reverse_perm _).trans (IL lt l)
theorem JL (lt:α→α→Bool)(l:List α):(XA lt l).length=l.length:=(z2Q lt l).length_eq
theorem vE {lt:α→α→Bool}{l:List α}{x:α}:x∈XA lt l↔x∈l:=(z2Q lt l).mem_iff
theorem ZW (lt:α→α→Bool)(l:List α):(bC lt l).length=l.length:=(IL lt l).length_eq
structure Weak (lt:α→α→Bool):Prop where
 asym:∀a b,lt a b=true→lt b a=false
 ntrans:∀a b c,lt b a=false→lt c b=false→lt c a=false
theorem z2L {lt:α→α→Bool}(w:Weak lt)(x:α):∀r:List α,r.Pairwise (fun a b=>lt a b=false)→(nB lt x r).Pairwise (fun a b=>lt a b=false)
 | [],_=>by simp [nB]
 | y::r,h=>by
  unfold nB;rw[List.pairwise_cons]at h;cases hxy:lt x y with
  | true=>
   rw[cond_true,List.pairwise_cons];refine⟨fun z hz=>?_,z2L w x r h.2⟩
   rcases List.mem_cons.1 ((TW lt x r).mem_iff.1 hz) with rfl|hz
   ·exact w.asym _ _ hxy
   ·exact h.1 z hz
  | false=>
   rw[cond_false,List.pairwise_cons,List.pairwise_cons];refine⟨fun z hz=>?_,h⟩
   rcases List.mem_cons.1 hz with rfl|hz
   ·exact hxy
   ·exact w.ntrans _ _ _ (h.1 z hz) hxy
theorem z2O {lt:α→α→Bool}(w:Weak lt):∀(l r:List α),r.Pairwise (fun a b=>lt a b=false)→(l.foldl (fun r x=>nB lt x r) r).Pairwise (fun a b=>lt a b=false)
 | [],r,h=>h
 | x::l,r,h=>z2O w l _ (z2L w x r h)
theorem zep {lt:α→α→Bool}(w:Weak lt)(l:List α):(XA lt l).Pairwise (fun a b=>lt b a=false):=by
 unfold XA;rw[List.pairwise_reverse];exact z2O w l [] .nil
theorem aX (lt:α→α→Bool)(l:List α)(k:Nat)(hk:k<l.length):bC lt (l.take (k+1))=nB lt l[k] (bC lt (l.take k)):=by
 rw[List.take_succ_eq_append_getElem hk];unfold bC;rw[List.foldl_append];rfl
theorem z3g {β:Type}(f:α→β){lt:α→α→Bool}{lt':β→β→Bool}(h:∀ a b,lt' (f a) (f b)=lt a b)(x:α):∀r:List α,nB lt' (f x) (r.map f)=(nB lt x r).map f
 | []=>rfl
 | y::r=>by
  simp only[List.map_cons,nB,h];cases lt x y with
  | true=>simp only[cond_true,List.map_cons,z3g f h x r]
  | false=>rfl
theorem z2M (lt:α→α→Bool)(x:α)(A:List α):∀B:List α,(∀b∈B,lt x b=true)→nB lt x (B++A)=B++nB lt x A
 | [],_=>rfl
 | b::B,h=>by
  simp only[List.cons_append,nB,h b (by simp),cond_true]
  rw[z2M lt x A B (fun b hb=>h b (by simp [hb]))]
theorem UW (A C:List α)(x:α):(A.reverse++x::C)[A.length]?=some x:=by
 rw[List.getElem?_append_right (by simp)];simp
theorem VW (A C:List α)(x y:α):((y::A).reverse++x::C)[A.length]?=some y:=by
 rw[List.getElem?_append_left (by simp)];simp
theorem WW (A C:List α)(x y:α):(((y::A).reverse++x::C).set (A.length+1) y).set A.length x=A.reverse++x::y::C:=by
 have e:(y::A).reverse++x::C=A.reverse++y::x::C:=by simp
 rw[e,List.set_append_right _ _ (by simp),List.length_reverse,Nat.add_sub_cancel_left,List.set_append_right _ _ (by simp),List.length_reverse,Nat.sub_self]
 rfl
theorem gI (lt:α→α→Bool)(x:α)(A B:List α)(hB:∀ b∈B,lt x b=true)(hA:∀ y r,A=y::r→lt x y=false):nB lt x (B++A)=B++x::A:=by
 rw[z2M lt x A B hB];cases A with
 | nil=>rfl
 | cons y r=>simp only[nB,hA y r rfl,cond_false]
theorem z2P {β:Type}(f:α→β){lt:α→α→Bool}{lt':β→β→Bool}(h:∀ a b,lt' (f a) (f b)=lt a b)(l:List α):XA lt' (l.map f)=(XA lt l).map f:=by
 have key:∀(l r:List α),(l.map f).foldl (fun r x=>nB lt' x r) (r.map f)=(l.foldl (fun r x=>nB lt x r) r).map f:=by
  intro l;induction l with
  | nil=>intro r;rfl
  | cons x l ih=>intro r;simp only[List.map_cons,List.foldl_cons,z3g f h,ih]
 unfold XA bC;have:=key l [];simp only[List.map_nil]at this;rw[this,List.map_reverse]
end Go.Am
namespace Go.Am
variable {α:Type}
def oB (q:α→α→Bool)(prev:α):List α→List α
 | []=>[]
 | x::r=>bif q x prev then oB q x r else x::oB q x r
def OA (q:α→α→Bool):List α→List α
 | []=>[]
 | x::r=>x::oB q x r
theorem z1l (q:α→α→Bool):∀(l:List α) (p:α),(oB q p l).length≤l.length
 | [],_=>Nat.le_refl _
 | x::r,p=>by
  unfold oB;have:=z1l q r x;cases q x p with
  | true=>simp only[cond_true,List.length_cons];omega
  | false=>simp only[cond_false,List.length_cons];omega
theorem z1q (q:α→α→Bool)(l:List α):(OA q l).length≤l.length:=by
 cases l with
 | nil=>exact Nat.le_refl _
 | cons x r=>have:=z1l q r x;simp only[OA,List.length_cons];omega
theorem AT (q:α→α→Bool):∀(l:List α) (p:α),∀x∈oB q p l,x∈l
 | [],_,x,h=>h
 | y::r,p,x,h=>by
  unfold oB at h;cases hq:q y p with
  | true=>rw[hq]at h;exact List.mem_cons_of_mem _ (AT q r y x h)
  | false=>
   rw[hq]at h;rcases List.mem_cons.1 h with rfl|h
   ·simp
   ·exact List.mem_cons_of_mem _ (AT q r y x h)
theorem z1s {q:α→α→Bool}{l:List α}{x:α}(h:x∈OA q l):x∈l:=by
 cases l with
 | nil=>exact h
 | cons y r=>
  rcases List.mem_cons.1 h with rfl|h
  ·simp
  ·exact List.mem_cons_of_mem _ (AT q r y x h)
theorem z1m (q:α→α→Bool)(z:α):∀(l:List α) (p:α),oB q p (l++[z])=oB q p l++(bif q z ((p::l).getLast (by simp)) then [] else [z])
 | [],p=>by simp only[List.nil_append,oB,List.getLast_singleton]
 | x::r,p=>by
  simp only[List.cons_append,oB,z1m q z r x];have e:(p::x::r).getLast (by simp)=(x::r).getLast (by simp):=List.getLast_cons (by simp)
  rw[e];cases q x p <;> rfl
theorem PM (q:α→α→Bool)(l:List α)(k:Nat)(hk:k+1<l.length):OA q (l.take (k+1+1))=OA q (l.take (k+1))++(bif q l[k+1] l[k] then [] else [l[k+1]]):=by
 rw[List.take_succ_eq_append_getElem hk];cases l with
 | nil=>simp at hk
 | cons x r=>
  simp only[List.take_succ_cons,List.cons_append,OA,z1m];have e:(x::r.take k).getLast (by simp)=(x::r)[k]:=by
   have:x::r.take k=(x::r).take (k+1):=rfl
   simp only[this];rw[List.getLast_eq_getElem];simp only[List.getElem_take];congr 1
   simp only[List.length_take,List.length_cons]at hk ⊢;omega
  rw[e]
theorem z1r {β:Type}(f:α→β){q:α→α→Bool}{q':β→β→Bool}(h:∀ a b,q' (f a) (f b)=q a b)(l:List α):OA q' (l.map f)=(OA q l).map f:=by
 have key:∀(l:List α) (p:α),oB q' (f p) (l.map f)=(oB q p l).map f:=by
  intro l;induction l with
  | nil=>intro p;rfl
  | cons x r ih=>
   intro p;simp only[List.map_cons,oB,h,ih];cases q x p <;> rfl
 cases l with
 | nil=>rfl
 | cons x r=>simp only[List.map_cons,OA,key]
end Go.Am
end
section
/- Values of a shape: loads and stores in rows. -/
open Go
namespace Go.Am
variable {h:aA} {K:jA}
theorem qC {sh:Sh}{x:PV}(hx:x.shp sh=true):mB sh 0 x=some x:=by
 cases sh with
 | none=>exact z8Z hx
 | some n=>
  cases x with
  | agg cs=>
   simp only[PV.shp,Bool.and_eq_true,beq_iff_eq]at hx;simp [mB,hx.1];exact List.take_of_length_le (by omega)
  | _=>cases hx
theorem nF {sh:Sh}{x:PV}(hx:x.shp sh=true):x.cells.length=gA sh:=by
 cases sh with
 | none=>cases x <;> first|rfl|cases hx
 | some n=>
  cases x with
  | agg cs=>simp only[PV.shp,Bool.and_eq_true,beq_iff_eq]at hx;exact hx.1
  | _=>cases hx
theorem mF {sh:Sh}{x:PV}(hx:x.shp sh=true):x.cells.all PV.sc=true:=by
 cases sh with
 | none=>cases x <;> first|rfl|cases hx
 | some n=>
  cases x with
  | agg cs=>simp only[PV.shp,Bool.and_eq_true,beq_iff_eq]at hx;exact hx.2
  | _=>cases hx
theorem oF {sh:Sh}{x y:PV}(hx:x.shp sh=true)(hy:y.shp sh=true)(id i fz:Nat)(xs:List PV)(h1:aA):stE sh id i 0 fz sh xs x h1 (some y)=some (.und,h1.set id (.row sh (xs.set i x) fz),[]):=by
 cases sh with
 | none=>
  cases y with
  | agg cs=>cases hy
  | _=>simp only[PV.shp]at hx;simp [stE,hx]
 | some n=>
  cases y with
  | agg cs=>
   cases x with
   | agg ds=>
    simp only[PV.shp,Bool.and_eq_true,beq_iff_eq]at hx hy;simp [stE,PV.cells,splice,hx.1,hy.1,show cs.drop n=[] from List.drop_of_length_le (by omega)]
   | _=>cases hx
  | _=>cases hy
def XB (sh:Sh)(xs:List PV):Prop:=∀x∈xs,x.shp sh=true
theorem eD {sh:Sh}{xs:List PV}(hx:XB sh xs){i:Nat}(hi:i<xs.length):xs[i].shp sh=true:=hx _ (List.getElem_mem hi)
theorem dD {h:aA}{id:Nat}{o:Obj}(hh:h[id]?=some o):h.set id o=h:=by
 apply List.ext_getElem?
 intro i;rw[List.getElem?_set];split
 ·rename_i e;subst e;rw[hh];simp [YD hh]
 ·rfl
structure Shows (sh:Sh) (v:AV) (xs:List PV) (h:aA):Prop where
 len:VB v=some (AI xs.length)
 get:∀(k:Nat) (hk:k<xs.length),∃a,tB sh v (AI k) h=some a∧IA sh a h=some (.p xs[k])
theorem eR {sh:Sh}{xs:List PV}(hs:XB sh xs):Shows sh (.p (.sl sh xs)) xs h:=by
 refine⟨rfl,fun k hk=>⟨.vp xs[k],?_,?_⟩⟩
 ·simp [tB,aB,hk]
 ·simp only[z3b,qC (eD hs hk)];rfl
theorem zh8 {sh:Sh}{id off len fz:Nat}{xs:List PV}(hs:XB sh xs)(hh:h[id]?=some (.row sh xs fz))(hl:off+len≤xs.length):Shows sh (.own id xs.length off len) (win xs off len) h:=by
 have hw:(win xs off len).length=len:=by simp [win];omega
 refine⟨by rw[hw];rfl,fun k hk=>⟨.rref id xs.length (off+k) 0,?_,?_⟩⟩
 ·rw[hw]at hk
  simp [tB,aB,hh,hl,hk]
 ·have hk':off+k<xs.length:=by rw[hw]at hk;omega
  have e:(win xs off len)[k]=xs[off+k]:=by simp [win]
  rw[e];simp only[z3a,hh,z2V,if_true,List.getElem?_eq_getElem hk',Option.bind_some,qC (eD hs hk'),Option.map_some]
theorem zh7 {sh:Sh}{id fz:Nat}{xs:List PV}(hs:XB sh xs)(hh:h[id]?=some (.row sh xs fz)):Shows sh (.own id xs.length 0 xs.length) xs h:=by
 have:=zh8 hs hh (off:=0) (len:=xs.length) (by omega)
 rwa [z5o]at this
def z6i (g:Nat)(caps:List AV)(p:PV→Bool)(xs:List PV)(id:Nat)(h:aA):Prop:=∀(o:Obj) (x:PV),x∈xs→∀K:jA,eA X g (.p x::caps) (h.set id o) K=K (AB (p x)) (h.set id o) []
end Go.Am
end
section
/- Lengths of numbers in bits,and comparisons of plain values. -/
open Go
namespace Go.Am
variable {h:aA} {K:jA}
set_option maxRecDepth 20000
theorem zih (k:Nat)(hk:k<256):∃b,([0,1,2,2,3,3,3,3,4,4,4,4,4,4,4,4,5,5,5,5,5,5,5,5,5,5,5,5,5,5,5,5,6,6,6,6,6,6,6,6,6,6,6,6,6,6,6,6,6,6,6,6,6,6,6,6,6,6,6,6,6,6,6,6,7,7,7,7,7,7,7,7,7,7,7,7,7,7,7,7,7,7,7,7,7,7,7,7,7,7,7,7,7,7,7,7,7,7,7,7,7,7,7,7,7,7,7,7,7,7,7,7,7,7,7,7,7,7,7,7,7,7,7,7,7,7,7,7,8,8,8,8,8,8,8,8,8,8,8,8,8,8,8,8,8,8,8,8,8,8,8,8,8,8,8,8,8,8,8,8,8,8,8,8,8,8,8,8,8,8,8,8,8,8,8,8,8,8,8,8,8,8,8,8,8,8,8,8,8,8,8,8,8,8,8,8,8,8,8,8,8,8,8,8,8,8,8,8,8,8,8,8,8,8,8,8,8,8,8,8,8,8,8,8,8,8,8,8,8,8,8,8,8,8,8,8,8,8,8,8,8,8,8,8,8,8,8,8,8,8,8,8,8,8,8,8]:List UInt8)[k]?=some b:=⟨_,List.getElem?_eq_getElem (Nat.lt_of_lt_of_eq hk (by kernel_rfl))⟩
theorem dX (x:Int)(h0:0≤x)(h1:x<256):∃m:Int,∀(h:aA) (K:jA),eA X MH [AU x] h K=K (AI m) h []:=by
 obtain⟨b,hb⟩:=zih x.toNat (by omega)
 refine⟨IntKind.i64.wrap (0+IntKind.i64.wrap b.toNat),fun h K=>?_⟩
 have w:IntKind.u8.wrap x=x:=by simp [IntKind.wrap,IntKind.bits,IntKind.signed];omega
 have b1:¬(4294967296≤x):=by omega
 have b2:¬(65536≤x):=by omega
 have b3:¬(256≤x):=by omega
 have hn:=KD (k:=.u8) h0
 have key:∀(h:aA) (K:jA),eA X QK [AU x] h K=K (AI (IntKind.i64.wrap (0+IntKind.i64.wrap b.toNat))) h []:=by
  intro h K;refine tA ?_;rw[z78 rfl];simp only[mN,go_sem,b1,b2,b3,w,hn,hb]
 refine tA ?_;rw[z77 rfl];simp only[kN,go_sem,key]
theorem zgR (a b:Int):eA X WD [AI a,AI b] h K=K (AB (decide (a<b))) h []:=by
 refine tA ?_;rw[z7g rfl];simp only[VM,go_sem,zho]
def ltI (a b:Int):Bool:=decide (a<b)
def ltP (a b:PV):Bool:=match a,b with
 | .int _ a,.int _ b=>decide (a<b)
 | _,_=>false
theorem z2X {l:List Int}:∀x∈l.map eI,∀y∈l.map eI,∀(h:aA) (K:jA),eA X WD [.p x,.p y] h K=K (AB (ltP x y)) h []:=by
 intro x hx y hy h K;obtain⟨a,_,rfl⟩:=List.mem_map.1 hx;obtain⟨b,_,rfl⟩:=List.mem_map.1 hy;exact zgR a b
theorem iH {l:List Int}:XB none (l.map eI):=fun x hx=>by obtain⟨n,_,rfl⟩:=List.mem_map.1 hx;rfl
end Go.Am
end
section
/- Finding values in lists: printed by program. -/
open Go
set_option linter.unusedSimpArgs false
namespace Go.Am
attribute [-go_sem] PV.cells
variable {h:aA} {K:jA}
theorem z0f {v:AV}{g:Nat}{caps:List AV}{p:PV→Bool}{xs:List PV}(hv:Shows none v xs h)(hp:nG g caps p xs h)(hl:xs.length≤1000000000) :
 eA X YH [v,.fn g caps] h K=K (AI (LC p xs)) h []:=by
 refine tA ?_;rw[z8t];have vl:=hv.len
 simp only[VN,go_sem,vl];refine FA (fun k:Nat=>⟨[(0,v),(1,.fn g caps),(7,AI xs.length),(8,AI k)],h,[]⟩) (fun k=>k≤xs.length∧∀x∈xs.take k,p x=false) (fun k=>xs.length-k) 0 rfl (by simp) ?_
 rintro k ⟨hk,hn⟩
 rcases Nat.lt_or_ge k xs.length with hlt|hge
 ·obtain⟨a,ha,hb⟩:=hv.get k hlt
  have w2:IntKind.i64.wrap ((k:Int)+1)=((k+1:Nat):Int):=qA _ (by omega) (by omega)
  have ht:=hp _ (List.getElem_mem hlt)
  cases hpk:p xs[k]with
  | true=>
   have hf:xs.findIdx p=k:=by
    rw[List.findIdx_eq hlt];refine⟨hpk,fun j hj=>?_⟩
    have:=hn xs[j] (by rw[List.mem_take_iff_getElem];exact⟨j,by omega,rfl⟩)
    simpa using this
   simp only[go_sem,hlt,ha,hb,ht,hpk,w2];simp only[LC,hf,hlt,if_true]
  | false=>
   simp only[go_sem,hlt,ha,hb,ht,hpk,w2];refine⟨k+1,rfl,⟨by omega,fun x hx=>?_⟩,by omega⟩
   rw[List.take_succ_eq_append_getElem hlt,List.mem_append,List.mem_singleton]at hx;rcases hx with hx|hx
   ·exact hn x hx
   ·rw[hx];exact hpk
 ·have e1:k=xs.length:=by omega
  subst e1;simp only[go_sem,Nat.lt_irrefl];rw[List.take_length]at hn;have:¬xs.findIdx p<xs.length:=by
   rw[Nat.not_lt,Nat.le_iff_lt_or_eq];right
   exact(List.findIdx_eq_length.2 (fun x hx=>by simp [hn x hx])).symm
  simp [LC,this]
theorem z0d {g:Nat}{caps:List AV}{p:PV→Bool}{xs:List PV}(hp:nG g caps p xs h)(hs:XB none xs)(hl:xs.length≤1000000000) :
 eA X PG [.p (.sl none xs),.fn g caps] h K=K (AB (xs.any p)) h []:=by
 refine tA ?_;rw[z8m];have vi:=fun K=>z0f (h:=h) (K:=K) (eR hs) hp hl
 simp only[QN,go_sem,vi,SW]
end Go.Am
end
