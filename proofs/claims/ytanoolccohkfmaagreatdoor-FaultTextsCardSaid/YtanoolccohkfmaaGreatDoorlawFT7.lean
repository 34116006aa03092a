/- Texts of the proof, laid together: CodesD, AmC, Ctx, SpStream, MathFrac, SpBase, SpList, SpShp, SpStr, SpIdx, SpLen, SpMap, SpStrs, SpFind, SpLimD, SpLim, SpLotA, SpRecD, SpGenA, SpSome, SpGenL, SpRec, SpSortRec, SpCompact, SpGenR, PMerge, SpMrgA, SpSort, SpMrgB, SpMrgC, SpMrgD, PFin, SpTxt, AmL4, AmL5, SpSplit, SpLines. -/
import Derived.KernelRfl
import Derived.Shelf.Strings.Repeat
import Derived.Shelf.Strings.SlTrimAscii
import Derived.Shelf.Spec.TrailingZeros
import Derived.Shelf.Strings.Count
import Derived.Shelf.Strings.OnBuilder
import Derived.Test.YtanoolccohkfmaaGreatDoorlawFT6
set_option linter.all false
section
/- The functions asv abstract code,and asv formulas over their values: printed by program out of the translation. -/
set_option linter.unusedVariables false
set_option maxRecDepth 100000
namespace Go.Am
def p_q055_k1 : ACode:=.pr [0,1,7,8] (.seq (rg [bN 9 .lss 8 7] [0,1,7,8,9])
(.seq (.cond 9 .skip
(.exit 0))
(.seq (.block 1 (.seq (rg [mV 10 8,
mV 5 10] [0,1,5,7,8])
(.seq (rg [mV 11 1,
mV 12 0,
mV 13 5,
uO 14 (.idxs 12 13),
cL 15 f_q08a [11,14],
bN 16 .lss 15 (cI 0)] [0,1,7,8,16])
(.cond 16 (.seq (rg [mV 4 cF] [4])
.ret)
.skip))))
(rg [bN 17 .add 8 (cI 1),
mV 8 17] [0,1,7,8]))))
def d_q055_k1 (C : Hd) (gl : GL) (v0 v1 v7 v8 : AV) (h : Heap) (x : Esc) (K : KT) : Prop:=
 pK (oBin .lss v8 v7) fun t1=>
 condB t1 (pK (oIdxs v0 v8) fun t2=>
 C f_q08a [v1,t2] h fun t3 h4 y5=>
 pK (oBin .lss t3 (AI 0)) fun t6=>
 condB t6 (K .ret ⟨[(4,(AB false))],h4,(y5 ++ x)⟩)
 (pK (oBin .add v8 (AI 1)) fun t7=>
 K .normal ⟨[(0,v0),(1,v1),(7,v7),(8,t7)],h4,(y5 ++ x)⟩))
 (K (.exit 0) ⟨[(0,v0),(1,v1),(7,v7),(8,v8),(9,t1)],h,x⟩)
theorem e_q055_k1 {C gl e h x K} : NW C gl p_q055_k1 ⟨e,h,x⟩ K = d_q055_k1 C gl (aget e 0) (aget e 1) (aget e 7) (aget e 8) h x K:=by kernel_rfl
theorem l_q055_k1 {C gl e h x K} : NW C gl (.loop p_q055_k1) ⟨e,h,x⟩ K = NLoop C gl p_q055_k1 K [(0,aget e 0),(1,aget e 1),(7,aget e 7),(8,aget e 8)] h x:=NLoop_pr
def p_q055_k2 : ACode:=.pr [] (.seq (rg [mV 4 cT] [4])
.ret)
def d_q055_k2 (C : Hd) (gl : GL) (h : Heap) (x : Esc) (K : KT) : Prop:=
 K .ret ⟨[(4,(AB true))],h,x⟩
theorem e_q055_k2 {C gl e h x K} : NW C gl p_q055_k2 ⟨e,h,x⟩ K = d_q055_k2 C gl h x K:=by kernel_rfl
def P_q055 (q1 q2 : ACode) : ACode:=(.seq (rg [mV 4 cF] [0,1])
(.seq (.seq (rg [mV 6 0,
uO 7 (.lens 6),
mV 8 (cI 0)] [0,1,7,8])
(.block 0 (.loop q1)))
q2))
def a_q055 : AFun:=⟨2,[.t 4],P_q055 p_q055_k1 p_q055_k2,false,false⟩
def d_q055 (C : Hd) (gl : GL) (q1 q2 : ACode) (v0 v1 : AV) (h : Heap) (x : Esc) (K : KT) : Prop:=
 pK (oLens v0) fun t1=>
 NW C gl (.loop q1) ⟨[(0,v0),(1,v1),(7,t1),(8,(AI 0))],h,x⟩ (blockN 0 (seqN C gl q2 K))
theorem E_q055 {C gl q1 q2 v0 v1 h x K} : NW C gl (P_q055 q1 q2) ⟨enter [v0,v1],h,x⟩ K = d_q055 C gl q1 q2 v0 v1 h x K:=by kernel_rfl
theorem e_q055 {C gl v0 v1 h x K} : NW C gl a_q055.body ⟨enter [v0,v1],h,x⟩ K = d_q055 C gl p_q055_k1 p_q055_k2 v0 v1 h x K:=E_q055
def P_q087 : ACode:=(.seq (rg [mV 4 (cS []),
mV 5 cF] [0,1])
(.seq (rg [mV 6 0,
mV 7 1,
cL 8 f_q02m [6,7],
eX 9 8 0,
eX 10 8 1,
mV 4 9,
mV 5 10] [4,5])
.ret))
def a_q087 : AFun:=⟨2,[.t 4,.t 5],P_q087,false,false⟩
def d_q087 (C : Hd) (gl : GL) (v0 v1 : AV) (h : Heap) (x : Esc) (K : KT) : Prop:=
 C f_q02m [v0,v1] h fun t1 h2 y3=>
 pK (oExt t1 0) fun t4=>
 pK (oExt t1 1) fun t5=>
 K .ret ⟨[(4,t4),(5,t5)],h2,(y3 ++ x)⟩
theorem e_q087 {C gl v0 v1 h x K} : NW C gl a_q087.body ⟨enter [v0,v1],h,x⟩ K = d_q087 C gl v0 v1 h x K:=by kernel_rfl
def p_q08j_k1 : ACode:=.pr [0,1,2,3,9,10] (.seq (.seq (rg [mV 34 10,
mV 35 3,
bN 36 .lss 34 35] [0,1,2,3,9,10,36])
(.cond 36 .skip
(.exit 0)))
(.block 1 (.seq (rg [mV 37 0,
mV 38 1,
cL 39 f_q089 [37,38],
mV 11 39] [0,1,2,3,9,10,11])
(.seq (.seq (rg [mV 40 11,
bN 41 .lss 40 (cI 0)] [0,1,2,3,9,10,11,41])
(.cond 41 (.exit 0)
.skip))
(.seq (rg [mV 42 9,
mV 43 10,
mV 44 0,
mV 45 11,
mV 46 2,
bN 47 .add 45 46,
uO 48 (.slstr 44 none (some 47)),
iA 49 none 42 43,
wO (.store none 49 48)] [0,1,2,3,9,10,11])
(.seq (rg [mV 50 0,
mV 51 11,
mV 52 1,
uO 53 (.lens 52),
bN 54 .add 51 53,
uO 55 (.slstr 50 (some 54) none),
mV 0 55] [0,1,2,3,9,10])
(rg [mV 56 10,
bN 57 .add 56 (cI 1),
mV 10 57] [0,1,2,3,9,10])))))))
def d_q08j_k1 (C : Hd) (gl : GL) (v0 v1 v2 v3 v9 v10 : AV) (h : Heap) (x : Esc) (K : KT) : Prop:=
 pK (oBin .lss v10 v3) fun t1=>
 condB t1 (C f_q089 [v0,v1] h fun t2 h3 y4=>
 pK (oBin .lss t2 (AI 0)) fun t5=>
 condB t5 (K (.exit 0) ⟨[(0,v0),(1,v1),(2,v2),(3,v3),(9,v9),(10,v10),(11,t2),(41,t5)],h3,(y4 ++ x)⟩)
 (pK (oBin .add t2 v2) fun t6=>
 pK (oSlstr v0 none (some t6)) fun t7=>
 pK (oIaddr none v9 v10 h3) fun t8=>
 wK (oStore none t8 t7 h3) fun t9 h10 y11=>
 pK (oLens v1) fun t12=>
 pK (oBin .add t2 t12) fun t13=>
 pK (oSlstr v0 (some t13) none) fun t14=>
 pK (oBin .add v10 (AI 1)) fun t15=>
 K .normal ⟨[(0,t14),(1,v1),(2,v2),(3,v3),(9,v9),(10,t15)],h10,(y11 ++ (y4 ++ x))⟩))
 (K (.exit 0) ⟨[(0,v0),(1,v1),(2,v2),(3,v3),(9,v9),(10,v10),(36,t1)],h,x⟩)
theorem e_q08j_k1 {C gl e h x K} : NW C gl p_q08j_k1 ⟨e,h,x⟩ K = d_q08j_k1 C gl (aget e 0) (aget e 1) (aget e 2) (aget e 3) (aget e 9) (aget e 10) h x K:=by kernel_rfl
theorem l_q08j_k1 {C gl e h x K} : NW C gl (.loop p_q08j_k1) ⟨e,h,x⟩ K = NLoop C gl p_q08j_k1 K [(0,aget e 0),(1,aget e 1),(2,aget e 2),(3,aget e 3),(9,aget e 9),(10,aget e 10)] h x:=NLoop_pr
def p_q08j_k2 : ACode:=.pr [0,9,10] (.seq (rg [mV 58 9,
mV 59 10,
mV 60 0,
iA 61 none 58 59,
wO (.store none 61 60)] [9,10])
(.seq (rg [mV 62 9,
mV 63 10,
bN 64 .add 63 (cI 1),
uO 65 (.slice none 62 none (some 64) none),
mV 8 65] [8])
.ret))
def d_q08j_k2 (C : Hd) (gl : GL) (v0 v9 v10 : AV) (h : Heap) (x : Esc) (K : KT) : Prop:=
 pK (oIaddr none v9 v10 h) fun t1=>
 wK (oStore none t1 v0 h) fun t2 h3 y4=>
 pK (oBin .add v10 (AI 1)) fun t5=>
 pK (oSlice none v9 none (some t5) none h3) fun t6=>
 K .ret ⟨[(8,t6)],h3,(y4 ++ x)⟩
theorem e_q08j_k2 {C gl e h x K} : NW C gl p_q08j_k2 ⟨e,h,x⟩ K = d_q08j_k2 C gl (aget e 0) (aget e 9) (aget e 10) h x K:=by kernel_rfl
def P_q08j_k3 (q1 q2 : ACode) : ACode:=.pr [0,1,2,3] (.seq (rg [mV 25 3,
mV 26 0,
uO 27 (.lens 26),
bN 28 .add 27 (cI 1),
uO 29 (.mn [25,28]),
mV 3 29] [0,1,2,3])
(.seq (rg [mV 30 3,
uO 31 (.mksl none (.str []) 30 30),
mV 9 31] [0,1,2,3,9])
(.seq (rg [mV 32 3,
bN 33 .sub 32 (cI 1),
mV 3 33] [0,1,2,3,9])
(.seq (rg [mV 10 (cI 0)] [0,1,2,3,9,10])
(.seq (.block 0 (.loop q1))
q2)))))
def p_q08j_k3 : ACode:=P_q08j_k3 p_q08j_k1 p_q08j_k2
def d_q08j_k3 (C : Hd) (gl : GL) (q1 q2 : ACode) (v0 v1 v2 v3 : AV) (h : Heap) (x : Esc) (K : KT) : Prop:=
 pK (oLens v0) fun t1=>
 pK (oBin .add t1 (AI 1)) fun t2=>
 pK (oMn [v3,t2]) fun t3=>
 wK (oMksl none (.str []) t3 t3 h) fun t4 h5 y6=>
 pK (oBin .sub t3 (AI 1)) fun t7=>
 NW C gl (.loop q1) ⟨[(0,v0),(1,v1),(2,v2),(3,t7),(9,t4),(10,(AI 0))],h5,(y6 ++ x)⟩ (blockN 0 (seqN C gl q2 K))
theorem E_q08j_k3 {C gl q1 q2 e h x K} : NW C gl (P_q08j_k3 q1 q2) ⟨e,h,x⟩ K = d_q08j_k3 C gl q1 q2 (aget e 0) (aget e 1) (aget e 2) (aget e 3) h x K:=by kernel_rfl
theorem e_q08j_k3 {C gl e h x K} : NW C gl p_q08j_k3 ⟨e,h,x⟩ K = d_q08j_k3 C gl p_q08j_k1 p_q08j_k2 (aget e 0) (aget e 1) (aget e 2) (aget e 3) h x K:=E_q08j_k3
def P_q08j (q3 : ACode) : ACode:=(.seq (rg [mV 8 (.c (.p (.sl none [])))] [0,1,2,3])
(.seq (.seq (rg [mV 12 3,
bN 13 .eql 12 (cI 0)] [0,1,2,3,13])
(.cond 13 (.seq (rg [mV 8 (.c (.p (.sl none [])))] [8])
.ret)
.skip))
(.seq (.seq (rg [mV 14 1,
bN 15 .eql 14 (cS [])] [0,1,2,3,15])
(.cond 15 (.seq (rg [mV 16 0,
mV 17 3,
cL 18 f_q08i [16,17],
mV 8 18] [8])
.ret)
.skip))
(.seq (.seq (rg [mV 19 3,
bN 20 .lss 19 (cI 0)] [0,1,2,3,20])
(.cond 20 (rg [mV 21 0,
mV 22 1,
cL 23 f_q085 [21,22],
bN 24 .add 23 (cI 1),
mV 3 24] [0,1,2,3])
.skip))
q3))))
def a_q08j : AFun:=⟨4,[.t 8],P_q08j p_q08j_k3,false,false⟩
def d_q08j (C : Hd) (gl : GL) (q3 : ACode) (v0 v1 v2 v3 : AV) (h : Heap) (x : Esc) (K : KT) : Prop:=
 pK (oBin .eql v3 (AI 0)) fun t1=>
 condB t1 (K .ret ⟨[(8,(.p (.sl none [])))],h,x⟩)
 (pK (oBin .eql v1 (.p (.str []))) fun t2=>
 condB t2 (C f_q08i [v0,v3] h fun t3 h4 y5=>
 K .ret ⟨[(8,t3)],h4,(y5 ++ x)⟩)
 (pK (oBin .lss v3 (AI 0)) fun t6=>
 condB t6 (C f_q085 [v0,v1] h fun t7 h8 y9=>
 pK (oBin .add t7 (AI 1)) fun t10=>
 NW C gl q3 ⟨[(0,v0),(1,v1),(2,v2),(3,t10)],h8,(y9 ++ x)⟩ K)
 (NW C gl q3 ⟨[(0,v0),(1,v1),(2,v2),(3,v3),(20,t6)],h,x⟩ K)))
theorem E_q08j {C gl q3 v0 v1 v2 v3 h x K} : NW C gl (P_q08j q3) ⟨enter [v0,v1,v2,v3],h,x⟩ K = d_q08j C gl q3 v0 v1 v2 v3 h x K:=by kernel_rfl
theorem e_q08j {C gl v0 v1 v2 v3 h x K} : NW C gl a_q08j.body ⟨enter [v0,v1,v2,v3],h,x⟩ K = d_q08j C gl p_q08j_k3 v0 v1 v2 v3 h x K:=E_q08j
def p_q008_k1 : ACode:=.pr [0,6,38,39] (.seq (rg [bN 40 .lss 39 38] [0,6,38,39,40])
(.seq (.cond 40 .skip
(.exit 0))
(.seq (.block 1 (.seq (rg [mV 41 39,
mV 7 41] [0,6,7,38,39])
(.seq (rg [mV 42 6,
mV 43 7,
uO 44 (.idxs 42 43),
bN 45 .lss 44 (.c (.p (.int .u8 48))),
mV 46 45,
gD 47 46 false (.mv 6),
gD 48 46 false (.mv 7),
gD 49 46 false (.idxs 47 48),
gD 50 46 false (.bin .gtr 49 (.c (.p (.int .u8 57)))),
uO 51 (.pick 46 cT 50)] [0,6,38,39,51])
(.cond 51 (.seq (rg [mV 4 (cI 0),
mV 5 cF] [4,5])
.ret)
.skip))))
(rg [bN 52 .add 39 (cI 1),
mV 39 52] [0,6,38,39]))))
def d_q008_k1 (C : Hd) (gl : GL) (v0 v6 v38 v39 : AV) (h : Heap) (x : Esc) (K : KT) : Prop:=
 pK (oBin .lss v39 v38) fun t1=>
 condB t1 (pK (oIdxs v6 v39) fun t2=>
 pK (oBin .lss t2 (.p (.int .u8 48))) fun t3=>
 gM t3 false v6 h fun t4 h5 y6=>
 gM t3 false v39 h5 fun t7 h8 y9=>
 gP t3 false (oIdxs t4 t7) h8 fun t10 h11 y12=>
 gP t3 false (oBin .gtr t10 (.p (.int .u8 57))) h11 fun t13 h14 y15=>
 pK (oPick t3 (AB true) t13) fun t16=>
 condB t16 (K .ret ⟨[(4,(AI 0)),(5,(AB false))],h14,(y15 ++ (y12 ++ (y9 ++ (y6 ++ x))))⟩)
 (pK (oBin .add v39 (AI 1)) fun t17=>
 K .normal ⟨[(0,v0),(6,v6),(38,v38),(39,t17)],h14,(y15 ++ (y12 ++ (y9 ++ (y6 ++ x))))⟩))
 (K (.exit 0) ⟨[(0,v0),(6,v6),(38,v38),(39,v39),(40,t1)],h,x⟩)
theorem e_q008_k1 {C gl e h x K} : NW C gl p_q008_k1 ⟨e,h,x⟩ K = d_q008_k1 C gl (aget e 0) (aget e 6) (aget e 38) (aget e 39) h x K:=by kernel_rfl
theorem l_q008_k1 {C gl e h x K} : NW C gl (.loop p_q008_k1) ⟨e,h,x⟩ K = NLoop C gl p_q008_k1 K [(0,aget e 0),(6,aget e 6),(38,aget e 38),(39,aget e 39)] h x:=NLoop_pr
def p_q008_k2 : ACode:=.pr [0] (.seq (rg [mV 54 0,
cL 55 f_q07p [54],
mV 53 55,
eX 56 53 0,
eX 57 53 1,
mV 8 56,
mV 9 57] [8,9])
(.seq (dr [dF (mV 58 8) [8],
dF (mV 59 9) [9],
dF (uO 60 (.isnil 3 false 59)) [59],
dF (mV 4 58) [58],
dF (mV 5 60) [60]] [4,5])
.ret))
def d_q008_k2 (C : Hd) (gl : GL) (v0 : AV) (h : Heap) (x : Esc) (K : KT) : Prop:=
 C f_q07p [v0] h fun t1 h2 y3=>
 pK (oExt t1 0) fun t4=>
 pK (oExt t1 1) fun t5=>
 pK (oIsnil 3 false t5) fun t6=>
 K .ret ⟨[(4,t4),(5,t6)],h2,(y3 ++ x)⟩
theorem e_q008_k2 {C gl e h x K} : NW C gl p_q008_k2 ⟨e,h,x⟩ K = d_q008_k2 C gl (aget e 0) h x K:=by kernel_rfl
def P_q008 (q1 q2 : ACode) : ACode:=(.seq (rg [mV 4 (cI 0),
mV 5 cF] [0,1])
(.seq (rg [mV 10 0,
cL 11 f_q08g [10,(cS [45])],
mV 6 11] [0,1,6])
(.seq (.seq (rg [mV 12 6,
bN 13 .eql 12 (cS []),
mV 14 13,
gD 15 14 false (.mv 6),
gD 16 14 false (.lens 15),
gD 17 14 false (.mv 1),
gD 18 14 false (.bin .gtr 16 17),
uO 19 (.pick 14 cT 18),
mV 20 19,
gD 21 20 false (.mv 6),
gD 22 20 false (.idxs 21 (cI 0)),
gD 23 20 false (.bin .eql 22 (.c (.p (.int .u8 48)))),
gD 24 20 false (.mv 23),
gD 25 24 true (.mv 6),
gD 26 24 true (.lens 25),
gD 27 24 true (.bin .gtr 26 (cI 1)),
gD 28 24 true (.mv 27),
gD 29 28 false (.mv 0),
gD 30 28 false (.lens 29),
gD 31 28 false (.mv 6),
gD 32 28 false (.lens 31),
gD 33 28 false (.bin .gtr 30 32),
gD 34 24 true (.pick 28 cT 33),
gD 35 20 false (.pick 24 34 cF),
uO 36 (.pick 20 cT 35)] [0,6,36])
(.cond 36 (.seq (rg [mV 4 (cI 0),
mV 5 cF] [4,5])
.ret)
.skip))
(.seq (.seq (rg [mV 37 6,
uO 38 (.lens 37),
mV 39 (cI 0)] [0,6,38,39])
(.block 0 (.loop q1)))
q2))))
def a_q008 : AFun:=⟨2,[.t 4,.t 5],P_q008 p_q008_k1 p_q008_k2,false,false⟩
def d_q008 (C : Hd) (gl : GL) (q1 q2 : ACode) (v0 v1 : AV) (h : Heap) (x : Esc) (K : KT) : Prop:=
 C f_q08g [v0,(.p (.str [45]))] h fun t1 h2 y3=>
 pK (oBin .eql t1 (.p (.str []))) fun t4=>
 gM t4 false t1 h2 fun t5 h6 y7=>
 gP t4 false (oLens t5) h6 fun t8 h9 y10=>
 gM t4 false v1 h9 fun t11 h12 y13=>
 gP t4 false (oBin .gtr t8 t11) h12 fun t14 h15 y16=>
 pK (oPick t4 (AB true) t14) fun t17=>
 gM t17 false t1 h15 fun t18 h19 y20=>
 gP t17 false (oIdxs t18 (AI 0)) h19 fun t21 h22 y23=>
 gP t17 false (oBin .eql t21 (.p (.int .u8 48))) h22 fun t24 h25 y26=>
 gM t17 false t24 h25 fun t27 h28 y29=>
 gM t27 true t1 h28 fun t30 h31 y32=>
 gP t27 true (oLens t30) h31 fun t33 h34 y35=>
 gP t27 true (oBin .gtr t33 (AI 1)) h34 fun t36 h37 y38=>
 gM t27 true t36 h37 fun t39 h40 y41=>
 gM t39 false v0 h40 fun t42 h43 y44=>
 gP t39 false (oLens t42) h43 fun t45 h46 y47=>
 gM t39 false t1 h46 fun t48 h49 y50=>
 gP t39 false (oLens t48) h49 fun t51 h52 y53=>
 gP t39 false (oBin .gtr t45 t51) h52 fun t54 h55 y56=>
 gP t27 true (oPick t39 (AB true) t54) h55 fun t57 h58 y59=>
 gP t17 false (oPick t27 t57 (AB false)) h58 fun t60 h61 y62=>
 pK (oPick t17 (AB true) t60) fun t63=>
 condB t63 (K .ret ⟨[(4,(AI 0)),(5,(AB false))],h61,(y62 ++ (y59 ++ (y56 ++ (y53 ++ (y50 ++ (y47 ++ (y44 ++ (y41 ++ (y38 ++ (y35 ++ (y32 ++ (y29 ++ (y26 ++ (y23 ++ (y20 ++ (y16 ++ (y13 ++ (y10 ++ (y7 ++ (y3 ++ x))))))))))))))))))))⟩)
 (pK (oLens t1) fun t64=>
 NW C gl (.loop q1) ⟨[(0,v0),(6,t1),(38,t64),(39,(AI 0))],h61,(y62 ++ (y59 ++ (y56 ++ (y53 ++ (y50 ++ (y47 ++ (y44 ++ (y41 ++ (y38 ++ (y35 ++ (y32 ++ (y29 ++ (y26 ++ (y23 ++ (y20 ++ (y16 ++ (y13 ++ (y10 ++ (y7 ++ (y3 ++ x))))))))))))))))))))⟩ (blockN 0 (seqN C gl q2 K)))
theorem E_q008 {C gl q1 q2 v0 v1 h x K} : NW C gl (P_q008 q1 q2) ⟨enter [v0,v1],h,x⟩ K = d_q008 C gl q1 q2 v0 v1 h x K:=by kernel_rfl
theorem e_q008 {C gl v0 v1 h x K} : NW C gl a_q008.body ⟨enter [v0,v1],h,x⟩ K = d_q008 C gl p_q008_k1 p_q008_k2 v0 v1 h x K:=E_q008
def P_q02l : ACode:=(.seq (rg [mV 4 (cS []),
mV 5 (cS []),
mV 6 cF] [0,1])
(.seq (.seq (rg [mV 8 0,
mV 9 1,
cL 10 f_q02p [8,9],
mV 7 10] [0,1,7])
(.seq (rg [mV 11 7,
bN 12 .geq 11 (cI 0)] [0,1,7,12])
(.cond 12 (.seq (dr [dF (mV 13 0) [0],
dF (mV 14 7) [7],
dF (uO 15 (.slstr 13 none (some 14))) [13,14],
dF (mV 16 0) [0],
dF (mV 17 7) [7],
dF (mV 18 1) [1],
dF (uO 19 (.lens 18)) [18],
dF (bN 20 .add 17 19) [17,19],
dF (uO 21 (.slstr 16 (some 20) none)) [16,20],
dF (mV 4 15) [15],
dF (mV 5 21) [21],
dF (mV 6 cT) []] [4,5,6])
.ret)
.skip)))
(.seq (rg [mV 22 0,
mV 4 22,
mV 5 (cS []),
mV 6 cF] [4,5,6])
.ret)))
def a_q02l : AFun:=⟨2,[.t 4,.t 5,.t 6],P_q02l,false,false⟩
def d_q02l (C : Hd) (gl : GL) (v0 v1 : AV) (h : Heap) (x : Esc) (K : KT) : Prop:=
 C f_q02p [v0,v1] h fun t1 h2 y3=>
 pK (oBin .geq t1 (AI 0)) fun t4=>
 condB t4 (pK (oSlstr v0 none (some t1)) fun t5=>
 pK (oLens v1) fun t6=>
 pK (oBin .add t1 t6) fun t7=>
 pK (oSlstr v0 (some t7) none) fun t8=>
 K .ret ⟨[(4,t5),(5,t8),(6,(AB true))],h2,(y3 ++ x)⟩)
 (K .ret ⟨[(4,v0),(5,(.p (.str []))),(6,(AB false))],h2,(y3 ++ x)⟩)
theorem e_q02l {C gl v0 v1 h x K} : NW C gl a_q02l.body ⟨enter [v0,v1],h,x⟩ K = d_q02l C gl v0 v1 h x K:=by kernel_rfl
def P_q08g : ACode:=(.seq (rg [mV 4 (cS [])] [0,1])
(.seq (rg [mV 5 0,
mV 6 1,
cL 7 f_q02r [5,6],
mV 4 7] [4])
.ret))
def a_q08g : AFun:=⟨2,[.t 4],P_q08g,false,false⟩
def d_q08g (C : Hd) (gl : GL) (v0 v1 : AV) (h : Heap) (x : Esc) (K : KT) : Prop:=
 C f_q02r [v0,v1] h fun t1 h2 y3=>
 K .ret ⟨[(4,t1)],h2,(y3 ++ x)⟩
theorem e_q08g {C gl v0 v1 h x K} : NW C gl a_q08g.body ⟨enter [v0,v1],h,x⟩ K = d_q08g C gl v0 v1 h x K:=by kernel_rfl
def P_q08a : ACode:=(.seq (rg [mV 4 (cI 0)] [0,1])
(.seq (rg [mV 5 0,
mV 6 1,
cL 7 f_q02q [5,6],
mV 4 7] [4])
.ret))
def a_q08a : AFun:=⟨2,[.t 4],P_q08a,false,false⟩
def d_q08a (C : Hd) (gl : GL) (v0 v1 : AV) (h : Heap) (x : Esc) (K : KT) : Prop:=
 C f_q02q [v0,v1] h fun t1 h2 y3=>
 K .ret ⟨[(4,t1)],h2,(y3 ++ x)⟩
theorem e_q08a {C gl v0 v1 h x K} : NW C gl a_q08a.body ⟨enter [v0,v1],h,x⟩ K = d_q08a C gl v0 v1 h x K:=by kernel_rfl
def P_q02m : ACode:=(.seq (rg [mV 4 (cS []),
mV 5 cF] [0,1])
(.seq (.seq (rg [mV 6 0,
mV 7 1,
cL 8 f_q02o [6,7],
uO 9 (.un .not 8)] [0,1,9])
(.cond 9 (.seq (rg [mV 10 0,
mV 4 10,
mV 5 cF] [4,5])
.ret)
.skip))
(.seq (rg [mV 11 0,
mV 12 0,
uO 13 (.lens 12),
mV 14 1,
uO 15 (.lens 14),
bN 16 .sub 13 15,
uO 17 (.slstr 11 none (some 16)),
mV 4 17,
mV 5 cT] [4,5])
.ret)))
def a_q02m : AFun:=⟨2,[.t 4,.t 5],P_q02m,false,false⟩
def d_q02m (C : Hd) (gl : GL) (v0 v1 : AV) (h : Heap) (x : Esc) (K : KT) : Prop:=
 C f_q02o [v0,v1] h fun t1 h2 y3=>
 pK (oUn .not t1) fun t4=>
 condB t4 (K .ret ⟨[(4,v0),(5,(AB false))],h2,(y3 ++ x)⟩)
 (pK (oLens v0) fun t5=>
 pK (oLens v1) fun t6=>
 pK (oBin .sub t5 t6) fun t7=>
 pK (oSlstr v0 none (some t7)) fun t8=>
 K .ret ⟨[(4,t8),(5,(AB true))],h2,(y3 ++ x)⟩)
theorem e_q02m {C gl v0 v1 h x K} : NW C gl a_q02m.body ⟨enter [v0,v1],h,x⟩ K = d_q02m C gl v0 v1 h x K:=by kernel_rfl
def p_q08i_k1 : ACode:=.pr [0,1,6,7] (.seq (.seq (rg [mV 22 7,
mV 23 1,
bN 24 .sub 23 (cI 1),
bN 25 .lss 22 24] [0,1,6,7,25])
(.cond 25 .skip
(.exit 0)))
(.seq (.block 1 (.seq (rg [mV 29 0,
cL 30 f_q08y [29],
mV 28 30,
eX 31 28 0,
eX 32 28 1,
mV 8 31,
mV 9 32] [0,1,6,7,9])
(.seq (rg [mV 33 6,
mV 34 7,
mV 35 0,
mV 36 9,
uO 37 (.slstr 35 none (some 36)),
iA 38 none 33 34,
wO (.store none 38 37)] [0,1,6,7,9])
(rg [mV 39 0,
mV 40 9,
uO 41 (.slstr 39 (some 40) none),
mV 0 41] [0,1,6,7]))))
(rg [mV 26 7,
bN 27 .add 26 (cI 1),
mV 7 27] [0,1,6,7])))
def d_q08i_k1 (C : Hd) (gl : GL) (v0 v1 v6 v7 : AV) (h : Heap) (x : Esc) (K : KT) : Prop:=
 pK (oBin .sub v1 (AI 1)) fun t1=>
 pK (oBin .lss v7 t1) fun t2=>
 condB t2 (C f_q08y [v0] h fun t3 h4 y5=>
 pK (oExt t3 0) fun t6=>
 pK (oExt t3 1) fun t7=>
 pK (oSlstr v0 none (some t7)) fun t8=>
 pK (oIaddr none v6 v7 h4) fun t9=>
 wK (oStore none t9 t8 h4) fun t10 h11 y12=>
 pK (oSlstr v0 (some t7) none) fun t13=>
 pK (oBin .add v7 (AI 1)) fun t14=>
 K .normal ⟨[(0,t13),(1,v1),(6,v6),(7,t14)],h11,(y12 ++ (y5 ++ x))⟩)
 (K (.exit 0) ⟨[(0,v0),(1,v1),(6,v6),(7,v7),(25,t2)],h,x⟩)
theorem e_q08i_k1 {C gl e h x K} : NW C gl p_q08i_k1 ⟨e,h,x⟩ K = d_q08i_k1 C gl (aget e 0) (aget e 1) (aget e 6) (aget e 7) h x K:=by kernel_rfl
theorem l_q08i_k1 {C gl e h x K} : NW C gl (.loop p_q08i_k1) ⟨e,h,x⟩ K = NLoop C gl p_q08i_k1 K [(0,aget e 0),(1,aget e 1),(6,aget e 6),(7,aget e 7)] h x:=NLoop_pr
def p_q08i_k2 : ACode:=.pr [6] (.seq (rg [mV 49 6,
mV 4 49] [4])
.ret)
def d_q08i_k2 (C : Hd) (gl : GL) (v6 : AV) (h : Heap) (x : Esc) (K : KT) : Prop:=
 K .ret ⟨[(4,v6)],h,x⟩
theorem e_q08i_k2 {C gl e h x K} : NW C gl p_q08i_k2 ⟨e,h,x⟩ K = d_q08i_k2 C gl (aget e 6) h x K:=by kernel_rfl
def P_q08i_k3 (q2 : ACode) : ACode:=.pr [0,1,6] (.seq (.seq (rg [mV 42 1,
bN 43 .gtr 42 (cI 0)] [0,1,6,43])
(.cond 43 (rg [mV 44 6,
mV 45 1,
bN 46 .sub 45 (cI 1),
mV 47 0,
iA 48 none 44 46,
wO (.store none 48 47)] [6])
.skip))
q2)
def p_q08i_k3 : ACode:=P_q08i_k3 p_q08i_k2
def d_q08i_k3 (C : Hd) (gl : GL) (q2 : ACode) (v0 v1 v6 : AV) (h : Heap) (x : Esc) (K : KT) : Prop:=
 pK (oBin .gtr v1 (AI 0)) fun t1=>
 condB t1 (pK (oBin .sub v1 (AI 1)) fun t2=>
 pK (oIaddr none v6 t2 h) fun t3=>
 wK (oStore none t3 v0 h) fun t4 h5 y6=>
 NW C gl q2 ⟨[(6,v6)],h5,(y6 ++ x)⟩ K)
 (NW C gl q2 ⟨[(0,v0),(1,v1),(6,v6),(43,t1)],h,x⟩ K)
theorem E_q08i_k3 {C gl q2 e h x K} : NW C gl (P_q08i_k3 q2) ⟨e,h,x⟩ K = d_q08i_k3 C gl q2 (aget e 0) (aget e 1) (aget e 6) h x K:=by kernel_rfl
theorem e_q08i_k3 {C gl e h x K} : NW C gl p_q08i_k3 ⟨e,h,x⟩ K = d_q08i_k3 C gl p_q08i_k2 (aget e 0) (aget e 1) (aget e 6) h x K:=E_q08i_k3
def P_q08i_k4 (q1 q3 : ACode) : ACode:=.pr [0,1] (.seq (rg [mV 20 1,
uO 21 (.mksl none (.str []) 20 20),
mV 6 21] [0,1,6])
(.seq (.seq (rg [mV 7 (cI 0)] [0,1,6,7])
(.block 0 (.loop q1)))
q3))
def p_q08i_k4 : ACode:=P_q08i_k4 p_q08i_k1 p_q08i_k3
def d_q08i_k4 (C : Hd) (gl : GL) (q1 q3 : ACode) (v0 v1 : AV) (h : Heap) (x : Esc) (K : KT) : Prop:=
 wK (oMksl none (.str []) v1 v1 h) fun t1 h2 y3=>
 NW C gl (.loop q1) ⟨[(0,v0),(1,v1),(6,t1),(7,(AI 0))],h2,(y3 ++ x)⟩ (blockN 0 (seqN C gl q3 K))
theorem E_q08i_k4 {C gl q1 q3 e h x K} : NW C gl (P_q08i_k4 q1 q3) ⟨e,h,x⟩ K = d_q08i_k4 C gl q1 q3 (aget e 0) (aget e 1) h x K:=by kernel_rfl
theorem e_q08i_k4 {C gl e h x K} : NW C gl p_q08i_k4 ⟨e,h,x⟩ K = d_q08i_k4 C gl p_q08i_k1 p_q08i_k3 (aget e 0) (aget e 1) h x K:=E_q08i_k4
def P_q08i (q4 : ACode) : ACode:=(.seq (rg [mV 4 (.c (.p (.sl none [])))] [0,1])
(.seq (rg [mV 10 0,
cL 11 f_q08z [10],
mV 5 11] [0,1,5])
(.seq (.seq (rg [mV 12 1,
bN 13 .lss 12 (cI 0),
mV 14 13,
gD 15 14 false (.mv 1),
gD 16 14 false (.mv 5),
gD 17 14 false (.bin .gtr 15 16),
uO 18 (.pick 14 cT 17)] [0,1,5,18])
(.cond 18 (rg [mV 19 5,
mV 1 19] [0,1])
.skip))
q4)))
def a_q08i : AFun:=⟨2,[.t 4],P_q08i p_q08i_k4,false,false⟩
def d_q08i (C : Hd) (gl : GL) (q4 : ACode) (v0 v1 : AV) (h : Heap) (x : Esc) (K : KT) : Prop:=
 C f_q08z [v0] h fun t1 h2 y3=>
 pK (oBin .lss v1 (AI 0)) fun t4=>
 gM t4 false v1 h2 fun t5 h6 y7=>
 gM t4 false t1 h6 fun t8 h9 y10=>
 gP t4 false (oBin .gtr t5 t8) h9 fun t11 h12 y13=>
 pK (oPick t4 (AB true) t11) fun t14=>
 condB t14 (NW C gl q4 ⟨[(0,v0),(1,t1)],h12,(y13 ++ (y10 ++ (y7 ++ (y3 ++ x))))⟩ K)
 (NW C gl q4 ⟨[(0,v0),(1,v1),(5,t1),(18,t14)],h12,(y13 ++ (y10 ++ (y7 ++ (y3 ++ x))))⟩ K)
theorem E_q08i {C gl q4 v0 v1 h x K} : NW C gl (P_q08i q4) ⟨enter [v0,v1],h,x⟩ K = d_q08i C gl q4 v0 v1 h x K:=by kernel_rfl
theorem e_q08i {C gl v0 v1 h x K} : NW C gl a_q08i.body ⟨enter [v0,v1],h,x⟩ K = d_q08i C gl p_q08i_k4 v0 v1 h x K:=E_q08i
def P_q089 : ACode:=(.seq (rg [mV 4 (cI 0)] [0,1])
(.seq (rg [mV 5 0,
mV 6 1,
cL 7 f_q02p [5,6],
mV 4 7] [4])
.ret))
def a_q089 : AFun:=⟨2,[.t 4],P_q089,false,false⟩
def d_q089 (C : Hd) (gl : GL) (v0 v1 : AV) (h : Heap) (x : Esc) (K : KT) : Prop:=
 C f_q02p [v0,v1] h fun t1 h2 y3=>
 K .ret ⟨[(4,t1)],h2,(y3 ++ x)⟩
theorem e_q089 {C gl v0 v1 h x K} : NW C gl a_q089.body ⟨enter [v0,v1],h,x⟩ K = d_q089 C gl v0 v1 h x K:=by kernel_rfl
def p_q02p_k1 : ACode:=.pr [0,1,5,6,7,8,9,10] (.seq (.seq (rg [mV 78 0,
mV 79 8,
bN 80 .add 79 (cI 1),
uO 81 (.idxs 78 80),
mV 82 7,
bN 83 .eql 81 82,
mV 84 83,
gD 85 84 true (.mv 0),
gD 86 84 true (.mv 8),
gD 87 84 true (.mv 8),
gD 88 84 true (.mv 5),
gD 89 84 true (.bin .add 87 88),
gD 90 84 true (.slstr 85 (some 86) (some 89)),
gD 91 84 true (.mv 1),
gD 92 84 true (.bin .eql 90 91),
uO 93 (.pick 84 92 cF)] [0,1,5,6,7,8,9,10,93])
(.cond 93 (.seq (rg [mV 94 8,
mV 4 94] [4])
.ret)
.skip))
(.seq (rg [mV 95 8,
bN 96 .add 95 (cI 1),
mV 8 96] [0,1,5,6,7,8,9,10])
(.seq (rg [mV 97 10,
bN 98 .add 97 (cI 1),
mV 10 98] [0,1,5,6,7,8,9,10])
(.seq (rg [mV 99 5,
lD 100 none (.g 0),
bN 101 .leq 99 100,
mV 102 101,
gD 103 102 true (.mv 10),
gD 104 102 true (.mv 8),
gD 105 102 true (.call f_q022 [104]),
gD 106 102 true (.bin .gtr 103 105),
uO 107 (.pick 102 106 cF)] [0,1,5,6,7,8,9,10,107])
(.cond 107 (.seq (rg [mV 108 0,
mV 109 8,
uO 110 (.slstr 108 (some 109) none),
mV 111 1,
cL 112 f_internal_bytealg_IndexString [110,111],
mV 12 112] [8,12])
(.seq (.seq (rg [mV 113 12,
bN 114 .geq 113 (cI 0)] [8,12,114])
(.cond 114 (.seq (rg [mV 115 12,
mV 116 8,
bN 117 .add 115 116,
mV 4 117] [4])
.ret)
.skip))
(.seq (rg [mV 4 (cI (-1))] [4])
.ret)))
(.seq (rg [mV 118 5,
lD 119 none (.g 0),
bN 120 .gtr 118 119,
mV 121 120,
gD 122 121 true (.mv 10),
gD 123 121 true (.mv 8),
gD 124 121 true (.bin .shr 123 (.c (.p (.int .u64 4)))),
gD 125 121 true (.bin .add (cI 4) 124),
gD 126 121 true (.bin .geq 122 125),
uO 127 (.pick 121 126 cF),
mV 128 127,
gD 129 128 true (.mv 8),
gD 130 128 true (.mv 9),
gD 131 128 true (.bin .lss 129 130),
uO 132 (.pick 128 131 cF)] [0,1,5,6,7,8,9,10,132])
(.cond 132 (.seq (rg [mV 133 0,
mV 134 8,
uO 135 (.slstr 133 (some 134) none),
mV 136 1,
cL 137 f_q023 [135,136],
mV 13 137] [8,13])
(.seq (.seq (rg [mV 138 13,
bN 139 .lss 138 (cI 0)] [8,13,139])
(.cond 139 (.seq (rg [mV 4 (cI (-1))] [4])
.ret)
.skip))
(.seq (rg [mV 140 8,
mV 141 13,
bN 142 .add 140 141,
mV 4 142] [4])
.ret)))
.skip)))))))
def d_q02p_k1 (C : Hd) (gl : GL) (v0 v1 v5 v6 v7 v8 v9 v10 : AV) (h : Heap) (x : Esc) (K : KT) : Prop:=
 pK (oBin .add v8 (AI 1)) fun t1=>
 pK (oIdxs v0 t1) fun t2=>
 pK (oBin .eql t2 v7) fun t3=>
 gM t3 true v0 h fun t4 h5 y6=>
 gM t3 true v8 h5 fun t7 h8 y9=>
 gM t3 true v8 h8 fun t10 h11 y12=>
 gM t3 true v5 h11 fun t13 h14 y15=>
 gP t3 true (oBin .add t10 t13) h14 fun t16 h17 y18=>
 gP t3 true (oSlstr t4 (some t7) (some t16)) h17 fun t19 h20 y21=>
 gM t3 true v1 h20 fun t22 h23 y24=>
 gP t3 true (oBin .eql t19 t22) h23 fun t25 h26 y27=>
 pK (oPick t3 t25 (AB false)) fun t28=>
 condB t28 (K .ret ⟨[(4,v8)],h26,(y27 ++ (y24 ++ (y21 ++ (y18 ++ (y15 ++ (y12 ++ (y9 ++ (y6 ++ x))))))))⟩)
 (pK (oBin .add v8 (AI 1)) fun t29=>
 pK (oBin .add v10 (AI 1)) fun t30=>
 pK (oLoad none (gv gl 0) h26) fun t31=>
 pK (oBin .leq v5 t31) fun t32=>
 gM t32 true t30 h26 fun t33 h34 y35=>
 gM t32 true t29 h34 fun t36 h37 y38=>
 gV t32 true h37 (C f_q022 [t36] h37) fun t39 h40 y41=>
 gP t32 true (oBin .gtr t33 t39) h40 fun t42 h43 y44=>
 pK (oPick t32 t42 (AB false)) fun t45=>
 condB t45 (pK (oSlstr v0 (some t29) none) fun t46=>
 C f_internal_bytealg_IndexString [t46,v1] h43 fun t47 h48 y49=>
 pK (oBin .geq t47 (AI 0)) fun t50=>
 condB t50 (pK (oBin .add t47 t29) fun t51=>
 K .ret ⟨[(4,t51)],h48,(y49 ++ (y44 ++ (y41 ++ (y38 ++ (y35 ++ (y27 ++ (y24 ++ (y21 ++ (y18 ++ (y15 ++ (y12 ++ (y9 ++ (y6 ++ x)))))))))))))⟩)
 (K .ret ⟨[(4,(AI (-1)))],h48,(y49 ++ (y44 ++ (y41 ++ (y38 ++ (y35 ++ (y27 ++ (y24 ++ (y21 ++ (y18 ++ (y15 ++ (y12 ++ (y9 ++ (y6 ++ x)))))))))))))⟩))
 (pK (oLoad none (gv gl 0) h43) fun t52=>
 pK (oBin .gtr v5 t52) fun t53=>
 gM t53 true t30 h43 fun t54 h55 y56=>
 gM t53 true t29 h55 fun t57 h58 y59=>
 gP t53 true (oBin .shr t57 (.p (.int .u64 4))) h58 fun t60 h61 y62=>
 gP t53 true (oBin .add (AI 4) t60) h61 fun t63 h64 y65=>
 gP t53 true (oBin .geq t54 t63) h64 fun t66 h67 y68=>
 pK (oPick t53 t66 (AB false)) fun t69=>
 gM t69 true t29 h67 fun t70 h71 y72=>
 gM t69 true v9 h71 fun t73 h74 y75=>
 gP t69 true (oBin .lss t70 t73) h74 fun t76 h77 y78=>
 pK (oPick t69 t76 (AB false)) fun t79=>
 condB t79 (pK (oSlstr v0 (some t29) none) fun t80=>
 C f_q023 [t80,v1] h77 fun t81 h82 y83=>
 pK (oBin .lss t81 (AI 0)) fun t84=>
 condB t84 (K .ret ⟨[(4,(AI (-1)))],h82,(y83 ++ (y78 ++ (y75 ++ (y72 ++ (y68 ++ (y65 ++ (y62 ++ (y59 ++ (y56 ++ (y44 ++ (y41 ++ (y38 ++ (y35 ++ (y27 ++ (y24 ++ (y21 ++ (y18 ++ (y15 ++ (y12 ++ (y9 ++ (y6 ++ x)))))))))))))))))))))⟩)
 (pK (oBin .add t29 t81) fun t85=>
 K .ret ⟨[(4,t85)],h82,(y83 ++ (y78 ++ (y75 ++ (y72 ++ (y68 ++ (y65 ++ (y62 ++ (y59 ++ (y56 ++ (y44 ++ (y41 ++ (y38 ++ (y35 ++ (y27 ++ (y24 ++ (y21 ++ (y18 ++ (y15 ++ (y12 ++ (y9 ++ (y6 ++ x)))))))))))))))))))))⟩))
 (K .normal ⟨[(0,v0),(1,v1),(5,v5),(6,v6),(7,v7),(8,t29),(9,v9),(10,t30),(132,t79)],h77,(y78 ++ (y75 ++ (y72 ++ (y68 ++ (y65 ++ (y62 ++ (y59 ++ (y56 ++ (y44 ++ (y41 ++ (y38 ++ (y35 ++ (y27 ++ (y24 ++ (y21 ++ (y18 ++ (y15 ++ (y12 ++ (y9 ++ (y6 ++ x))))))))))))))))))))⟩)))
theorem e_q02p_k1 {C gl e h x K} : NW C gl p_q02p_k1 ⟨e,h,x⟩ K = d_q02p_k1 C gl (aget e 0) (aget e 1) (aget e 5) (aget e 6) (aget e 7) (aget e 8) (aget e 9) (aget e 10) h x K:=by kernel_rfl
def P_q02p_k2 (q1 : ACode) : ACode:=.pr [0,1,5,6,7,8,9,10] (.seq (.seq (rg [mV 57 8,
mV 58 9,
bN 59 .lss 57 58] [0,1,5,6,7,8,9,10,59])
(.cond 59 .skip
(.exit 1)))
(.block 2 (.seq (.seq (rg [mV 60 0,
mV 61 8,
uO 62 (.idxs 60 61),
mV 63 6,
bN 64 .neq 62 63] [0,1,5,6,7,8,9,10,64])
(.cond 64 (.seq (rg [mV 65 0,
mV 66 8,
bN 67 .add 66 (cI 1),
mV 68 9,
uO 69 (.slstr 65 (some 67) (some 68)),
mV 70 6,
cL 71 f_q02q [69,70],
mV 11 71] [0,1,5,6,7,8,9,10,11])
(.seq (.seq (rg [mV 72 11,
bN 73 .lss 72 (cI 0)] [0,1,5,6,7,8,9,10,11,73])
(.cond 73 (.seq (rg [mV 4 (cI (-1))] [4])
.ret)
.skip))
(rg [mV 74 8,
mV 75 11,
bN 76 .add 75 (cI 1),
bN 77 .add 74 76,
mV 8 77] [0,1,5,6,7,8,9,10])))
.skip))
q1)))
def p_q02p_k2 : ACode:=P_q02p_k2 p_q02p_k1
def d_q02p_k2 (C : Hd) (gl : GL) (q1 : ACode) (v0 v1 v5 v6 v7 v8 v9 v10 : AV) (h : Heap) (x : Esc) (K : KT) : Prop:=
 pK (oBin .lss v8 v9) fun t1=>
 condB t1 (pK (oIdxs v0 v8) fun t2=>
 pK (oBin .neq t2 v6) fun t3=>
 condB t3 (pK (oBin .add v8 (AI 1)) fun t4=>
 pK (oSlstr v0 (some t4) (some v9)) fun t5=>
 C f_q02q [t5,v6] h fun t6 h7 y8=>
 pK (oBin .lss t6 (AI 0)) fun t9=>
 condB t9 (K .ret ⟨[(4,(AI (-1)))],h7,(y8 ++ x)⟩)
 (pK (oBin .add t6 (AI 1)) fun t10=>
 pK (oBin .add v8 t10) fun t11=>
 NW C gl q1 ⟨[(0,v0),(1,v1),(5,v5),(6,v6),(7,v7),(8,t11),(9,v9),(10,v10)],h7,(y8 ++ x)⟩ (blockN 2 K)))
 (NW C gl q1 ⟨[(0,v0),(1,v1),(5,v5),(6,v6),(7,v7),(8,v8),(9,v9),(10,v10),(64,t3)],h,x⟩ (blockN 2 K)))
 (K (.exit 1) ⟨[(0,v0),(1,v1),(5,v5),(6,v6),(7,v7),(8,v8),(9,v9),(10,v10),(59,t1)],h,x⟩)
theorem E_q02p_k2 {C gl q1 e h x K} : NW C gl (P_q02p_k2 q1) ⟨e,h,x⟩ K = d_q02p_k2 C gl q1 (aget e 0) (aget e 1) (aget e 5) (aget e 6) (aget e 7) (aget e 8) (aget e 9) (aget e 10) h x K:=by kernel_rfl
theorem e_q02p_k2 {C gl e h x K} : NW C gl p_q02p_k2 ⟨e,h,x⟩ K = d_q02p_k2 C gl p_q02p_k1 (aget e 0) (aget e 1) (aget e 5) (aget e 6) (aget e 7) (aget e 8) (aget e 9) (aget e 10) h x K:=E_q02p_k2
theorem l_q02p_k2 {C gl e h x K} : NW C gl (.loop p_q02p_k2) ⟨e,h,x⟩ K = NLoop C gl p_q02p_k2 K [(0,aget e 0),(1,aget e 1),(5,aget e 5),(6,aget e 6),(7,aget e 7),(8,aget e 8),(9,aget e 9),(10,aget e 10)] h x:=NLoop_pr
def p_q02p_k3 : ACode:=.pr [] (.seq (rg [mV 4 (cI (-1))] [4])
.ret)
def d_q02p_k3 (C : Hd) (gl : GL) (h : Heap) (x : Esc) (K : KT) : Prop:=
 K .ret ⟨[(4,(AI (-1)))],h,x⟩
theorem e_q02p_k3 {C gl e h x K} : NW C gl p_q02p_k3 ⟨e,h,x⟩ K = d_q02p_k3 C gl h x K:=by kernel_rfl
def P_q02p (q2 q3 : ACode) : ACode:=(.seq (rg [mV 4 (cI 0)] [0,1])
(.seq (rg [mV 14 1,
uO 15 (.lens 14),
mV 5 15] [0,1,5])
(.seq (.block 0 (.seq (rg [mV 17 5,
bN 18 .eql 17 (cI 0),
mV 19 18,
gD 20 19 false (.mv 1),
gD 21 19 false (.mv 0),
gD 22 19 false (.bin .eql 20 21),
uO 23 (.pick 19 cT 22),
mV 16 23] [0,1,5,16])
(.cond 16 (.seq (rg [mV 4 (cI 0)] [4])
.ret)
(.seq (rg [mV 25 5,
bN 26 .eql 25 (cI 1),
mV 24 26] [0,1,5,24])
(.cond 24 (.seq (rg [mV 27 0,
mV 28 1,
uO 29 (.idxs 28 (cI 0)),
cL 30 f_q02q [27,29],
mV 4 30] [4])
.ret)
(.seq (rg [mV 32 5,
mV 33 0,
uO 34 (.lens 33),
bN 35 .geq 32 34,
mV 31 35] [0,1,5,31])
(.cond 31 (.seq (rg [mV 4 (cI (-1))] [4])
.ret)
(.seq (rg [mV 37 5,
lD 38 none (.g 0),
bN 39 .leq 37 38,
mV 40 39,
gD 41 40 true (.mv 0),
gD 42 40 true (.lens 41),
gD 43 40 true (.bin .leq 42 (cI 64)),
uO 44 (.pick 40 43 cF),
mV 36 44] [0,1,5,36])
(.cond 36 (.seq (rg [mV 45 0,
mV 46 1,
cL 47 f_internal_bytealg_IndexString [45,46],
mV 4 47] [4])
.ret)
.skip)))))))))
(.seq (rg [mV 48 1,
uO 49 (.idxs 48 (cI 0)),
mV 6 49] [0,1,5,6])
(.seq (rg [mV 50 1,
uO 51 (.idxs 50 (cI 1)),
mV 7 51] [0,1,5,6,7])
(.seq (rg [mV 8 (cI 0)] [0,1,5,6,7,8])
(.seq (rg [mV 52 0,
uO 53 (.lens 52),
mV 54 5,
bN 55 .sub 53 54,
bN 56 .add 55 (cI 1),
mV 9 56] [0,1,5,6,7,8,9])
(.seq (rg [mV 10 (cI 0)] [0,1,5,6,7,8,9,10])
(.seq (.block 1 (.loop q2))
q3)))))))))
def a_q02p : AFun:=⟨2,[.t 4],P_q02p p_q02p_k2 p_q02p_k3,false,false⟩
def d_q02p (C : Hd) (gl : GL) (q2 q3 : ACode) (v0 v1 : AV) (h : Heap) (x : Esc) (K : KT) : Prop:=
 pK (oLens v1) fun t1=>
 pK (oBin .eql t1 (AI 0)) fun t2=>
 gM t2 false v1 h fun t3 h4 y5=>
 gM t2 false v0 h4 fun t6 h7 y8=>
 gP t2 false (oBin .eql t3 t6) h7 fun t9 h10 y11=>
 pK (oPick t2 (AB true) t9) fun t12=>
 condB t12 (K .ret ⟨[(4,(AI 0))],h10,(y11 ++ (y8 ++ (y5 ++ x)))⟩)
 (pK (oBin .eql t1 (AI 1)) fun t13=>
 condB t13 (pK (oIdxs v1 (AI 0)) fun t14=>
 C f_q02q [v0,t14] h10 fun t15 h16 y17=>
 K .ret ⟨[(4,t15)],h16,(y17 ++ (y11 ++ (y8 ++ (y5 ++ x))))⟩)
 (pK (oLens v0) fun t18=>
 pK (oBin .geq t1 t18) fun t19=>
 condB t19 (K .ret ⟨[(4,(AI (-1)))],h10,(y11 ++ (y8 ++ (y5 ++ x)))⟩)
 (pK (oLoad none (gv gl 0) h10) fun t20=>
 pK (oBin .leq t1 t20) fun t21=>
 gM t21 true v0 h10 fun t22 h23 y24=>
 gP t21 true (oLens t22) h23 fun t25 h26 y27=>
 gP t21 true (oBin .leq t25 (AI 64)) h26 fun t28 h29 y30=>
 pK (oPick t21 t28 (AB false)) fun t31=>
 condB t31 (C f_internal_bytealg_IndexString [v0,v1] h29 fun t32 h33 y34=>
 K .ret ⟨[(4,t32)],h33,(y34 ++ (y30 ++ (y27 ++ (y24 ++ (y11 ++ (y8 ++ (y5 ++ x)))))))⟩)
 (pK (oIdxs v1 (AI 0)) fun t35=>
 pK (oIdxs v1 (AI 1)) fun t36=>
 pK (oLens v0) fun t37=>
 pK (oBin .sub t37 t1) fun t38=>
 pK (oBin .add t38 (AI 1)) fun t39=>
 NW C gl (.loop q2) ⟨[(0,v0),(1,v1),(5,t1),(6,t35),(7,t36),(8,(AI 0)),(9,t39),(10,(AI 0))],h29,(y30 ++ (y27 ++ (y24 ++ (y11 ++ (y8 ++ (y5 ++ x))))))⟩ (blockN 1 (seqN C gl q3 K))))))
theorem E_q02p {C gl q2 q3 v0 v1 h x K} : NW C gl (P_q02p q2 q3) ⟨enter [v0,v1],h,x⟩ K = d_q02p C gl q2 q3 v0 v1 h x K:=by kernel_rfl
theorem e_q02p {C gl v0 v1 h x K} : NW C gl a_q02p.body ⟨enter [v0,v1],h,x⟩ K = d_q02p C gl p_q02p_k2 p_q02p_k3 v0 v1 h x K:=E_q02p
def P_q02r : ACode:=(.seq (rg [mV 4 (cS [])] [0,1])
(.seq (.seq (rg [mV 5 0,
mV 6 1,
cL 7 f_q02n [5,6]] [0,1,7])
(.cond 7 (.seq (rg [mV 8 0,
mV 9 1,
uO 10 (.lens 9),
uO 11 (.slstr 8 (some 10) none),
mV 4 11] [4])
.ret)
.skip))
(.seq (rg [mV 12 0,
mV 4 12] [4])
.ret)))
def a_q02r : AFun:=⟨2,[.t 4],P_q02r,false,false⟩
def d_q02r (C : Hd) (gl : GL) (v0 v1 : AV) (h : Heap) (x : Esc) (K : KT) : Prop:=
 C f_q02n [v0,v1] h fun t1 h2 y3=>
 condB t1 (pK (oLens v1) fun t4=>
 pK (oSlstr v0 (some t4) none) fun t5=>
 K .ret ⟨[(4,t5)],h2,(y3 ++ x)⟩)
 (K .ret ⟨[(4,v0)],h2,(y3 ++ x)⟩)
theorem e_q02r {C gl v0 v1 h x K} : NW C gl a_q02r.body ⟨enter [v0,v1],h,x⟩ K = d_q02r C gl v0 v1 h x K:=by kernel_rfl
def P_q02q : ACode:=(.seq (rg [mV 4 (cI 0)] [0,1])
(.seq (rg [mV 5 0,
mV 6 1,
cL 7 f_internal_bytealg_IndexByteString [5,6],
mV 4 7] [4])
.ret))
def a_q02q : AFun:=⟨2,[.t 4],P_q02q,false,false⟩
def d_q02q (C : Hd) (gl : GL) (v0 v1 : AV) (h : Heap) (x : Esc) (K : KT) : Prop:=
 C f_internal_bytealg_IndexByteString [v0,v1] h fun t1 h2 y3=>
 K .ret ⟨[(4,t1)],h2,(y3 ++ x)⟩
theorem e_q02q {C gl v0 v1 h x K} : NW C gl a_q02q.body ⟨enter [v0,v1],h,x⟩ K = d_q02q C gl v0 v1 h x K:=by kernel_rfl
def P_q02o : ACode:=(.seq (rg [mV 4 cF] [0,1])
(.seq (rg [mV 5 0,
uO 6 (.lens 5),
mV 7 1,
uO 8 (.lens 7),
bN 9 .geq 6 8,
mV 10 9,
gD 11 10 true (.mv 0),
gD 12 10 true (.mv 0),
gD 13 10 true (.lens 12),
gD 14 10 true (.mv 1),
gD 15 10 true (.lens 14),
gD 16 10 true (.bin .sub 13 15),
gD 17 10 true (.slstr 11 (some 16) none),
gD 18 10 true (.mv 1),
gD 19 10 true (.bin .eql 17 18),
uO 20 (.pick 10 19 cF),
mV 4 20] [4])
.ret))
def a_q02o : AFun:=⟨2,[.t 4],P_q02o,false,false⟩
def d_q02o (C : Hd) (gl : GL) (v0 v1 : AV) (h : Heap) (x : Esc) (K : KT) : Prop:=
 pK (oLens v0) fun t1=>
 pK (oLens v1) fun t2=>
 pK (oBin .geq t1 t2) fun t3=>
 gM t3 true v0 h fun t4 h5 y6=>
 gM t3 true v0 h5 fun t7 h8 y9=>
 gP t3 true (oLens t7) h8 fun t10 h11 y12=>
 gM t3 true v1 h11 fun t13 h14 y15=>
 gP t3 true (oLens t13) h14 fun t16 h17 y18=>
 gP t3 true (oBin .sub t10 t16) h17 fun t19 h20 y21=>
 gP t3 true (oSlstr t4 (some t19) none) h20 fun t22 h23 y24=>
 gM t3 true v1 h23 fun t25 h26 y27=>
 gP t3 true (oBin .eql t22 t25) h26 fun t28 h29 y30=>
 pK (oPick t3 t28 (AB false)) fun t31=>
 K .ret ⟨[(4,t31)],h29,(y30 ++ (y27 ++ (y24 ++ (y21 ++ (y18 ++ (y15 ++ (y12 ++ (y9 ++ (y6 ++ x)))))))))⟩
theorem e_q02o {C gl v0 v1 h x K} : NW C gl a_q02o.body ⟨enter [v0,v1],h,x⟩ K = d_q02o C gl v0 v1 h x K:=by kernel_rfl
def P_q08y : ACode:=(.seq (rg [mV 2 (.c (.p (.int .i32 0))),
mV 3 (cI 0)] [0])
(.seq (.seq (rg [mV 4 0,
bN 5 .neq 4 (cS []),
mV 6 5,
gD 7 6 true (.mv 0),
gD 8 6 true (.idxs 7 (cI 0)),
gD 9 6 true (.bin .lss 8 (.c (.p (.int .u8 128)))),
uO 10 (.pick 6 9 cF)] [0,10])
(.cond 10 (.seq (rg [mV 11 0,
uO 12 (.idxs 11 (cI 0)),
uO 13 (.conv (.i .i32) 12),
mV 2 13,
mV 3 (cI 1)] [2,3])
.ret)
(rg [mV 15 0,
cL 16 f_q092 [15],
mV 14 16,
eX 17 14 0,
eX 18 14 1,
mV 2 17,
mV 3 18] [2,3])))
.ret))
def a_q08y : AFun:=⟨1,[.t 2,.t 3],P_q08y,false,false⟩
def d_q08y (C : Hd) (gl : GL) (v0 : AV) (h : Heap) (x : Esc) (K : KT) : Prop:=
 pK (oBin .neq v0 (.p (.str []))) fun t1=>
 gM t1 true v0 h fun t2 h3 y4=>
 gP t1 true (oIdxs t2 (AI 0)) h3 fun t5 h6 y7=>
 gP t1 true (oBin .lss t5 (.p (.int .u8 128))) h6 fun t8 h9 y10=>
 pK (oPick t1 t8 (AB false)) fun t11=>
 condB t11 (pK (oIdxs v0 (AI 0)) fun t12=>
 pK (oConvI .i32 t12) fun t13=>
 K .ret ⟨[(2,t13),(3,(AI 1))],h9,(y10 ++ (y7 ++ (y4 ++ x)))⟩)
 (C f_q092 [v0] h9 fun t14 h15 y16=>
 pK (oExt t14 0) fun t17=>
 pK (oExt t14 1) fun t18=>
 K .ret ⟨[(2,t17),(3,t18)],h15,(y16 ++ (y10 ++ (y7 ++ (y4 ++ x))))⟩)
theorem e_q08y {C gl v0 h x K} : NW C gl a_q08y.body ⟨enter [v0],h,x⟩ K = d_q08y C gl v0 h x K:=by kernel_rfl
def P_q022 : ACode:=(.seq (rg [mV 2 (cI 0)] [0])
(.seq (rg [mV 3 0,
bN 4 .add 3 (cI 16),
bN 5 .quo 4 (cI 8),
mV 2 5] [2])
.ret))
def a_q022 : AFun:=⟨1,[.t 2],P_q022,false,false⟩
def d_q022 (C : Hd) (gl : GL) (v0 : AV) (h : Heap) (x : Esc) (K : KT) : Prop:=
 pK (oBin .add v0 (AI 16)) fun t1=>
 pK (oBin .quo t1 (AI 8)) fun t2=>
 K .ret ⟨[(2,t2)],h,x⟩
theorem e_q022 {C gl v0 h x K} : NW C gl a_q022.body ⟨enter [v0],h,x⟩ K = d_q022 C gl v0 h x K:=by kernel_rfl
def p_q023_k1 : ACode:=.pr [0,1,5,6,7,8,9] (.seq (.seq (rg [mV 18 9,
mV 19 7,
bN 20 .lss 18 19] [0,1,5,6,7,8,9,20])
(.cond 20 .skip
(.exit 0)))
(.seq (.block 1 (rg [mV 23 8,
bN 24 .mul 23 (.c (.p (.int .u32 16777619))),
mV 25 0,
mV 26 9,
uO 27 (.idxs 25 26),
uO 28 (.conv (.i .u32) 27),
bN 29 .add 24 28,
mV 8 29] [0,1,5,6,7,8,9]))
(rg [mV 21 9,
bN 22 .add 21 (cI 1),
mV 9 22] [0,1,5,6,7,8,9])))
def d_q023_k1 (C : Hd) (gl : GL) (v0 v1 v5 v6 v7 v8 v9 : AV) (h : Heap) (x : Esc) (K : KT) : Prop:=
 pK (oBin .lss v9 v7) fun t1=>
 condB t1 (pK (oBin .mul v8 (.p (.int .u32 16777619))) fun t2=>
 pK (oIdxs v0 v9) fun t3=>
 pK (oConvI .u32 t3) fun t4=>
 pK (oBin .add t2 t4) fun t5=>
 pK (oBin .add v9 (AI 1)) fun t6=>
 K .normal ⟨[(0,v0),(1,v1),(5,v5),(6,v6),(7,v7),(8,t5),(9,t6)],h,x⟩)
 (K (.exit 0) ⟨[(0,v0),(1,v1),(5,v5),(6,v6),(7,v7),(8,v8),(9,v9),(20,t1)],h,x⟩)
theorem e_q023_k1 {C gl e h x K} : NW C gl p_q023_k1 ⟨e,h,x⟩ K = d_q023_k1 C gl (aget e 0) (aget e 1) (aget e 5) (aget e 6) (aget e 7) (aget e 8) (aget e 9) h x K:=by kernel_rfl
theorem l_q023_k1 {C gl e h x K} : NW C gl (.loop p_q023_k1) ⟨e,h,x⟩ K = NLoop C gl p_q023_k1 K [(0,aget e 0),(1,aget e 1),(5,aget e 5),(6,aget e 6),(7,aget e 7),(8,aget e 8),(9,aget e 9)] h x:=NLoop_pr
def p_q023_k2 : ACode:=.pr [0,1,5,6,7,8,10] (.seq (.seq (rg [mV 41 10,
mV 42 0,
uO 43 (.lens 42),
bN 44 .lss 41 43] [0,1,5,6,7,8,10,44])
(.cond 44 .skip
(.exit 2)))
(.block 3 (.seq (rg [mV 45 8,
bN 46 .mul 45 (.c (.p (.int .u32 16777619))),
mV 8 46] [0,1,5,6,7,8,10])
(.seq (rg [mV 47 8,
mV 48 0,
mV 49 10,
uO 50 (.idxs 48 49),
uO 51 (.conv (.i .u32) 50),
bN 52 .add 47 51,
mV 8 52] [0,1,5,6,7,8,10])
(.seq (rg [mV 53 8,
mV 54 6,
mV 55 0,
mV 56 10,
mV 57 7,
bN 58 .sub 56 57,
uO 59 (.idxs 55 58),
uO 60 (.conv (.i .u32) 59),
bN 61 .mul 54 60,
bN 62 .sub 53 61,
mV 8 62] [0,1,5,6,7,8,10])
(.seq (rg [mV 63 10,
bN 64 .add 63 (cI 1),
mV 10 64] [0,1,5,6,7,8,10])
(.seq (rg [mV 65 8,
mV 66 5,
bN 67 .eql 65 66,
mV 68 67,
gD 69 68 true (.mv 0),
gD 70 68 true (.mv 10),
gD 71 68 true (.mv 7),
gD 72 68 true (.bin .sub 70 71),
gD 73 68 true (.mv 10),
gD 74 68 true (.slstr 69 (some 72) (some 73)),
gD 75 68 true (.mv 1),
gD 76 68 true (.bin .eql 74 75),
uO 77 (.pick 68 76 cF)] [0,1,5,6,7,8,10,77])
(.cond 77 (.seq (rg [mV 78 10,
mV 79 7,
bN 80 .sub 78 79,
mV 4 80] [4])
.ret)
.skip))))))))
def d_q023_k2 (C : Hd) (gl : GL) (v0 v1 v5 v6 v7 v8 v10 : AV) (h : Heap) (x : Esc) (K : KT) : Prop:=
 pK (oLens v0) fun t1=>
 pK (oBin .lss v10 t1) fun t2=>
 condB t2 (pK (oBin .mul v8 (.p (.int .u32 16777619))) fun t3=>
 pK (oIdxs v0 v10) fun t4=>
 pK (oConvI .u32 t4) fun t5=>
 pK (oBin .add t3 t5) fun t6=>
 pK (oBin .sub v10 v7) fun t7=>
 pK (oIdxs v0 t7) fun t8=>
 pK (oConvI .u32 t8) fun t9=>
 pK (oBin .mul v6 t9) fun t10=>
 pK (oBin .sub t6 t10) fun t11=>
 pK (oBin .add v10 (AI 1)) fun t12=>
 pK (oBin .eql t11 v5) fun t13=>
 gM t13 true v0 h fun t14 h15 y16=>
 gM t13 true t12 h15 fun t17 h18 y19=>
 gM t13 true v7 h18 fun t20 h21 y22=>
 gP t13 true (oBin .sub t17 t20) h21 fun t23 h24 y25=>
 gM t13 true t12 h24 fun t26 h27 y28=>
 gP t13 true (oSlstr t14 (some t23) (some t26)) h27 fun t29 h30 y31=>
 gM t13 true v1 h30 fun t32 h33 y34=>
 gP t13 true (oBin .eql t29 t32) h33 fun t35 h36 y37=>
 pK (oPick t13 t35 (AB false)) fun t38=>
 condB t38 (pK (oBin .sub t12 v7) fun t39=>
 K .ret ⟨[(4,t39)],h36,(y37 ++ (y34 ++ (y31 ++ (y28 ++ (y25 ++ (y22 ++ (y19 ++ (y16 ++ x))))))))⟩)
 (K .normal ⟨[(0,v0),(1,v1),(5,v5),(6,v6),(7,v7),(8,t11),(10,t12),(77,t38)],h36,(y37 ++ (y34 ++ (y31 ++ (y28 ++ (y25 ++ (y22 ++ (y19 ++ (y16 ++ x))))))))⟩))
 (K (.exit 2) ⟨[(0,v0),(1,v1),(5,v5),(6,v6),(7,v7),(8,v8),(10,v10),(44,t2)],h,x⟩)
theorem e_q023_k2 {C gl e h x K} : NW C gl p_q023_k2 ⟨e,h,x⟩ K = d_q023_k2 C gl (aget e 0) (aget e 1) (aget e 5) (aget e 6) (aget e 7) (aget e 8) (aget e 10) h x K:=by kernel_rfl
theorem l_q023_k2 {C gl e h x K} : NW C gl (.loop p_q023_k2) ⟨e,h,x⟩ K = NLoop C gl p_q023_k2 K [(0,aget e 0),(1,aget e 1),(5,aget e 5),(6,aget e 6),(7,aget e 7),(8,aget e 8),(10,aget e 10)] h x:=NLoop_pr
def p_q023_k3 : ACode:=.pr [] (.seq (rg [mV 4 (cI (-1))] [4])
.ret)
def d_q023_k3 (C : Hd) (gl : GL) (h : Heap) (x : Esc) (K : KT) : Prop:=
 K .ret ⟨[(4,(AI (-1)))],h,x⟩
theorem e_q023_k3 {C gl e h x K} : NW C gl p_q023_k3 ⟨e,h,x⟩ K = d_q023_k3 C gl h x K:=by kernel_rfl
def P_q023_k4 (q2 q3 : ACode) : ACode:=.pr [0,1,5,6,7,8] (.seq (.seq (rg [mV 30 8,
mV 31 5,
bN 32 .eql 30 31,
mV 33 32,
gD 34 33 true (.mv 0),
gD 35 33 true (.mv 7),
gD 36 33 true (.slstr 34 none (some 35)),
gD 37 33 true (.mv 1),
gD 38 33 true (.bin .eql 36 37),
uO 39 (.pick 33 38 cF)] [0,1,5,6,7,8,39])
(.cond 39 (.seq (rg [mV 4 (cI 0)] [4])
.ret)
.skip))
(.seq (.seq (rg [mV 40 7,
mV 10 40] [0,1,5,6,7,8,10])
(.block 2 (.loop q2)))
q3))
def p_q023_k4 : ACode:=P_q023_k4 p_q023_k2 p_q023_k3
def d_q023_k4 (C : Hd) (gl : GL) (q2 q3 : ACode) (v0 v1 v5 v6 v7 v8 : AV) (h : Heap) (x : Esc) (K : KT) : Prop:=
 pK (oBin .eql v8 v5) fun t1=>
 gM t1 true v0 h fun t2 h3 y4=>
 gM t1 true v7 h3 fun t5 h6 y7=>
 gP t1 true (oSlstr t2 none (some t5)) h6 fun t8 h9 y10=>
 gM t1 true v1 h9 fun t11 h12 y13=>
 gP t1 true (oBin .eql t8 t11) h12 fun t14 h15 y16=>
 pK (oPick t1 t14 (AB false)) fun t17=>
 condB t17 (K .ret ⟨[(4,(AI 0))],h15,(y16 ++ (y13 ++ (y10 ++ (y7 ++ (y4 ++ x)))))⟩)
 (NW C gl (.loop q2) ⟨[(0,v0),(1,v1),(5,v5),(6,v6),(7,v7),(8,v8),(10,v7)],h15,(y16 ++ (y13 ++ (y10 ++ (y7 ++ (y4 ++ x)))))⟩ (blockN 2 (seqN C gl q3 K)))
theorem E_q023_k4 {C gl q2 q3 e h x K} : NW C gl (P_q023_k4 q2 q3) ⟨e,h,x⟩ K = d_q023_k4 C gl q2 q3 (aget e 0) (aget e 1) (aget e 5) (aget e 6) (aget e 7) (aget e 8) h x K:=by kernel_rfl
theorem e_q023_k4 {C gl e h x K} : NW C gl p_q023_k4 ⟨e,h,x⟩ K = d_q023_k4 C gl p_q023_k2 p_q023_k3 (aget e 0) (aget e 1) (aget e 5) (aget e 6) (aget e 7) (aget e 8) h x K:=E_q023_k4
def P_q023 (q1 q4 : ACode) : ACode:=(.seq (rg [mV 4 (cI 0)] [0,1])
(.seq (rg [mV 12 1,
cL 13 f_q024 [12],
mV 11 13,
eX 14 11 0,
eX 15 11 1,
mV 5 14,
mV 6 15] [0,1,5,6])
(.seq (rg [mV 16 1,
uO 17 (.lens 16),
mV 7 17] [0,1,5,6,7])
(.seq (rg [mV 8 (.c (.p (.int .u32 0)))] [0,1,5,6,7,8])
(.seq (.seq (rg [mV 9 (cI 0)] [0,1,5,6,7,8,9])
(.block 0 (.loop q1)))
q4)))))
def a_q023 : AFun:=⟨2,[.t 4],P_q023 p_q023_k1 p_q023_k4,false,false⟩
def d_q023 (C : Hd) (gl : GL) (q1 q4 : ACode) (v0 v1 : AV) (h : Heap) (x : Esc) (K : KT) : Prop:=
 C f_q024 [v1] h fun t1 h2 y3=>
 pK (oExt t1 0) fun t4=>
 pK (oExt t1 1) fun t5=>
 pK (oLens v1) fun t6=>
 NW C gl (.loop q1) ⟨[(0,v0),(1,v1),(5,t4),(6,t5),(7,t6),(8,(.p (.int .u32 0))),(9,(AI 0))],h2,(y3 ++ x)⟩ (blockN 0 (seqN C gl q4 K))
theorem E_q023 {C gl q1 q4 v0 v1 h x K} : NW C gl (P_q023 q1 q4) ⟨enter [v0,v1],h,x⟩ K = d_q023 C gl q1 q4 v0 v1 h x K:=by kernel_rfl
theorem e_q023 {C gl v0 v1 h x K} : NW C gl a_q023.body ⟨enter [v0,v1],h,x⟩ K = d_q023 C gl p_q023_k1 p_q023_k4 v0 v1 h x K:=E_q023
def P_q092 : ACode:=(.seq (rg [mV 2 (.c (.p (.int .i32 0))),
mV 3 (cI 0)] [0])
(.seq (rg [mV 13 0,
uO 14 (.lens 13),
mV 4 14] [0,4])
(.seq (.seq (rg [mV 15 4,
bN 16 .lss 15 (cI 1)] [0,4,16])
(.cond 16 (.seq (rg [mV 2 (.c (.p (.int .i32 65533))),
mV 3 (cI 0)] [2,3])
.ret)
.skip))
(.seq (rg [mV 17 0,
uO 18 (.idxs 17 (cI 0)),
mV 5 18] [0,4,5])
(.seq (rg [mV 19 5,
uO 20 (.iaddra 256 none (.g 6) 19),
lD 21 none 20,
mV 6 21] [0,4,5,6])
(.seq (.seq (rg [mV 22 6,
bN 23 .geq 22 (.c (.p (.int .u8 240)))] [0,4,5,6,23])
(.cond 23 (.seq (rg [mV 24 6,
uO 25 (.conv (.i .i32) 24),
bN 26 .shl 25 (.c (.p (.int .u64 31))),
bN 27 .shr 26 (.c (.p (.int .u64 31))),
mV 7 27] [0,7])
(.seq (rg [mV 28 0,
uO 29 (.idxs 28 (cI 0)),
uO 30 (.conv (.i .i32) 29),
mV 31 7,
bN 32 .andNot 30 31,
mV 33 7,
bN 34 .and (.c (.p (.int .i32 65533))) 33,
bN 35 .or 32 34,
mV 2 35,
mV 3 (cI 1)] [2,3])
.ret))
.skip))
(.seq (rg [mV 36 6,
bN 37 .and 36 (.c (.p (.int .u8 7))),
uO 38 (.conv (.i .i64) 37),
mV 8 38] [0,4,5,6,8])
(.seq (rg [mV 39 6,
bN 40 .shr 39 (.c (.p (.int .u64 4))),
uO 41 (.iaddra 16 (some 2) (.g 7) 40),
lD 42 (some 2) 41,
uO 9 (.alloc [.p (.int .u8 0),.p (.int .u8 0)]),
wO (.store (some 2) 9 42)] [0,4,5,8,9])
(.seq (.seq (rg [mV 43 4,
mV 44 8,
bN 45 .lss 43 44] [0,5,8,9,45])
(.cond 45 (.seq (rg [mV 2 (.c (.p (.int .i32 65533))),
mV 3 (cI 1)] [2,3])
.ret)
.skip))
(.seq (rg [mV 46 0,
uO 47 (.idxs 46 (cI 1)),
mV 10 47] [0,5,8,9,10])
(.seq (.seq (rg [mV 48 10,
fA 49 0 none 9,
lD 50 none 49,
bN 51 .lss 48 50,
mV 52 51,
gD 53 52 false (.faddr 1 none 9),
gD 54 52 false (.load none 53),
gD 55 52 false (.mv 10),
gD 56 52 false (.bin .lss 54 55),
uO 57 (.pick 52 cT 56)] [0,5,8,10,57])
(.cond 57 (.seq (rg [mV 2 (.c (.p (.int .i32 65533))),
mV 3 (cI 1)] [2,3])
.ret)
.skip))
(.seq (.seq (rg [mV 58 8,
bN 59 .leq 58 (cI 2)] [0,5,8,10,59])
(.cond 59 (.seq (rg [mV 60 5,
bN 61 .and 60 (.c (.p (.int .u8 31))),
uO 62 (.conv (.i .i32) 61),
bN 63 .shl 62 (.c (.p (.int .u64 6))),
mV 64 10,
bN 65 .and 64 (.c (.p (.int .u8 63))),
uO 66 (.conv (.i .i32) 65),
bN 67 .or 63 66,
mV 2 67,
mV 3 (cI 2)] [2,3])
.ret)
.skip))
(.seq (rg [mV 68 0,
uO 69 (.idxs 68 (cI 2)),
mV 11 69] [0,5,8,10,11])
(.seq (.seq (rg [mV 70 11,
bN 71 .lss 70 (.c (.p (.int .u8 128))),
mV 72 71,
gD 73 72 false (.mv 11),
gD 74 72 false (.bin .lss (.c (.p (.int .u8 191))) 73),
uO 75 (.pick 72 cT 74)] [0,5,8,10,11,75])
(.cond 75 (.seq (rg [mV 2 (.c (.p (.int .i32 65533))),
mV 3 (cI 1)] [2,3])
.ret)
.skip))
(.seq (.seq (rg [mV 76 8,
bN 77 .leq 76 (cI 3)] [0,5,10,11,77])
(.cond 77 (.seq (rg [mV 78 5,
bN 79 .and 78 (.c (.p (.int .u8 15))),
uO 80 (.conv (.i .i32) 79),
bN 81 .shl 80 (.c (.p (.int .u64 12))),
mV 82 10,
bN 83 .and 82 (.c (.p (.int .u8 63))),
uO 84 (.conv (.i .i32) 83),
bN 85 .shl 84 (.c (.p (.int .u64 6))),
bN 86 .or 81 85,
mV 87 11,
bN 88 .and 87 (.c (.p (.int .u8 63))),
uO 89 (.conv (.i .i32) 88),
bN 90 .or 86 89,
mV 2 90,
mV 3 (cI 3)] [2,3])
.ret)
.skip))
(.seq (rg [mV 91 0,
uO 92 (.idxs 91 (cI 3)),
mV 12 92] [5,10,11,12])
(.seq (.seq (rg [mV 93 12,
bN 94 .lss 93 (.c (.p (.int .u8 128))),
mV 95 94,
gD 96 95 false (.mv 12),
gD 97 95 false (.bin .lss (.c (.p (.int .u8 191))) 96),
uO 98 (.pick 95 cT 97)] [5,10,11,12,98])
(.cond 98 (.seq (rg [mV 2 (.c (.p (.int .i32 65533))),
mV 3 (cI 1)] [2,3])
.ret)
.skip))
(.seq (rg [mV 99 5,
bN 100 .and 99 (.c (.p (.int .u8 7))),
uO 101 (.conv (.i .i32) 100),
bN 102 .shl 101 (.c (.p (.int .u64 18))),
mV 103 10,
bN 104 .and 103 (.c (.p (.int .u8 63))),
uO 105 (.conv (.i .i32) 104),
bN 106 .shl 105 (.c (.p (.int .u64 12))),
bN 107 .or 102 106,
mV 108 11,
bN 109 .and 108 (.c (.p (.int .u8 63))),
uO 110 (.conv (.i .i32) 109),
bN 111 .shl 110 (.c (.p (.int .u64 6))),
bN 112 .or 107 111,
mV 113 12,
bN 114 .and 113 (.c (.p (.int .u8 63))),
uO 115 (.conv (.i .i32) 114),
bN 116 .or 112 115,
mV 2 116,
mV 3 (cI 4)] [2,3])
.ret))))))))))))))))))
def a_q092 : AFun:=⟨1,[.t 2,.t 3],P_q092,false,false⟩
def d_q092 (C : Hd) (gl : GL) (v0 : AV) (h : Heap) (x : Esc) (K : KT) : Prop:=
 pK (oLens v0) fun t1=>
 pK (oBin .lss t1 (AI 1)) fun t2=>
 condB t2 (K .ret ⟨[(2,(.p (.int .i32 65533))),(3,(AI 0))],h,x⟩)
 (pK (oIdxs v0 (AI 0)) fun t3=>
 pK (oIaddra 256 none (gv gl 6) t3) fun t4=>
 pK (oLoad none t4 h) fun t5=>
 pK (oBin .geq t5 (.p (.int .u8 240))) fun t6=>
 condB t6 (pK (oConvI .i32 t5) fun t7=>
 pK (oBin .shl t7 (.p (.int .u64 31))) fun t8=>
 pK (oBin .shr t8 (.p (.int .u64 31))) fun t9=>
 pK (oIdxs v0 (AI 0)) fun t10=>
 pK (oConvI .i32 t10) fun t11=>
 pK (oBin .andNot t11 t9) fun t12=>
 pK (oBin .and (.p (.int .i32 65533)) t9) fun t13=>
 pK (oBin .or t12 t13) fun t14=>
 K .ret ⟨[(2,t14),(3,(AI 1))],h,x⟩)
 (pK (oBin .and t5 (.p (.int .u8 7))) fun t15=>
 pK (oConvI .i64 t15) fun t16=>
 pK (oBin .shr t5 (.p (.int .u64 4))) fun t17=>
 pK (oIaddra 16 (some 2) (gv gl 7) t17) fun t18=>
 pK (oLoad (some 2) t18 h) fun t19=>
 alK [.p (.int .u8 0),.p (.int .u8 0)] h fun t20 h21 y22=>
 wK (oStore (some 2) t20 t19 h21) fun t23 h24 y25=>
 pK (oBin .lss t1 t16) fun t26=>
 condB t26 (K .ret ⟨[(2,(.p (.int .i32 65533))),(3,(AI 1))],h24,(y25 ++ (y22 ++ x))⟩)
 (pK (oIdxs v0 (AI 1)) fun t27=>
 pK (oFaddr 0 none t20) fun t28=>
 pK (oLoad none t28 h24) fun t29=>
 pK (oBin .lss t27 t29) fun t30=>
 gP t30 false (oFaddr 1 none t20) h24 fun t31 h32 y33=>
 gP t30 false (oLoad none t31 h32) h32 fun t34 h35 y36=>
 gM t30 false t27 h35 fun t37 h38 y39=>
 gP t30 false (oBin .lss t34 t37) h38 fun t40 h41 y42=>
 pK (oPick t30 (AB true) t40) fun t43=>
 condB t43 (K .ret ⟨[(2,(.p (.int .i32 65533))),(3,(AI 1))],h41,(y42 ++ (y39 ++ (y36 ++ (y33 ++ (y25 ++ (y22 ++ x))))))⟩)
 (pK (oBin .leq t16 (AI 2)) fun t44=>
 condB t44 (pK (oBin .and t3 (.p (.int .u8 31))) fun t45=>
 pK (oConvI .i32 t45) fun t46=>
 pK (oBin .shl t46 (.p (.int .u64 6))) fun t47=>
 pK (oBin .and t27 (.p (.int .u8 63))) fun t48=>
 pK (oConvI .i32 t48) fun t49=>
 pK (oBin .or t47 t49) fun t50=>
 K .ret ⟨[(2,t50),(3,(AI 2))],h41,(y42 ++ (y39 ++ (y36 ++ (y33 ++ (y25 ++ (y22 ++ x))))))⟩)
 (pK (oIdxs v0 (AI 2)) fun t51=>
 pK (oBin .lss t51 (.p (.int .u8 128))) fun t52=>
 gM t52 false t51 h41 fun t53 h54 y55=>
 gP t52 false (oBin .lss (.p (.int .u8 191)) t53) h54 fun t56 h57 y58=>
 pK (oPick t52 (AB true) t56) fun t59=>
 condB t59 (K .ret ⟨[(2,(.p (.int .i32 65533))),(3,(AI 1))],h57,(y58 ++ (y55 ++ (y42 ++ (y39 ++ (y36 ++ (y33 ++ (y25 ++ (y22 ++ x))))))))⟩)
 (pK (oBin .leq t16 (AI 3)) fun t60=>
 condB t60 (pK (oBin .and t3 (.p (.int .u8 15))) fun t61=>
 pK (oConvI .i32 t61) fun t62=>
 pK (oBin .shl t62 (.p (.int .u64 12))) fun t63=>
 pK (oBin .and t27 (.p (.int .u8 63))) fun t64=>
 pK (oConvI .i32 t64) fun t65=>
 pK (oBin .shl t65 (.p (.int .u64 6))) fun t66=>
 pK (oBin .or t63 t66) fun t67=>
 pK (oBin .and t51 (.p (.int .u8 63))) fun t68=>
 pK (oConvI .i32 t68) fun t69=>
 pK (oBin .or t67 t69) fun t70=>
 K .ret ⟨[(2,t70),(3,(AI 3))],h57,(y58 ++ (y55 ++ (y42 ++ (y39 ++ (y36 ++ (y33 ++ (y25 ++ (y22 ++ x))))))))⟩)
 (pK (oIdxs v0 (AI 3)) fun t71=>
 pK (oBin .lss t71 (.p (.int .u8 128))) fun t72=>
 gM t72 false t71 h57 fun t73 h74 y75=>
 gP t72 false (oBin .lss (.p (.int .u8 191)) t73) h74 fun t76 h77 y78=>
 pK (oPick t72 (AB true) t76) fun t79=>
 condB t79 (K .ret ⟨[(2,(.p (.int .i32 65533))),(3,(AI 1))],h77,(y78 ++ (y75 ++ (y58 ++ (y55 ++ (y42 ++ (y39 ++ (y36 ++ (y33 ++ (y25 ++ (y22 ++ x))))))))))⟩)
 (pK (oBin .and t3 (.p (.int .u8 7))) fun t80=>
 pK (oConvI .i32 t80) fun t81=>
 pK (oBin .shl t81 (.p (.int .u64 18))) fun t82=>
 pK (oBin .and t27 (.p (.int .u8 63))) fun t83=>
 pK (oConvI .i32 t83) fun t84=>
 pK (oBin .shl t84 (.p (.int .u64 12))) fun t85=>
 pK (oBin .or t82 t85) fun t86=>
 pK (oBin .and t51 (.p (.int .u8 63))) fun t87=>
 pK (oConvI .i32 t87) fun t88=>
 pK (oBin .shl t88 (.p (.int .u64 6))) fun t89=>
 pK (oBin .or t86 t89) fun t90=>
 pK (oBin .and t71 (.p (.int .u8 63))) fun t91=>
 pK (oConvI .i32 t91) fun t92=>
 pK (oBin .or t90 t92) fun t93=>
 K .ret ⟨[(2,t93),(3,(AI 4))],h77,(y78 ++ (y75 ++ (y58 ++ (y55 ++ (y42 ++ (y39 ++ (y36 ++ (y33 ++ (y25 ++ (y22 ++ x))))))))))⟩))))))))
theorem e_q092 {C gl v0 h x K} : NW C gl a_q092.body ⟨enter [v0],h,x⟩ K = d_q092 C gl v0 h x K:=by kernel_rfl
def p_q024_k1 : ACode:=.pr [0,4,5] (.seq (.seq (rg [mV 9 5,
mV 10 0,
uO 11 (.lens 10),
bN 12 .lss 9 11] [0,4,5,12])
(.cond 12 .skip
(.exit 0)))
(.seq (.block 1 (rg [mV 15 4,
bN 16 .mul 15 (.c (.p (.int .u32 16777619))),
mV 17 0,
mV 18 5,
uO 19 (.idxs 17 18),
uO 20 (.conv (.i .u32) 19),
bN 21 .add 16 20,
mV 4 21] [0,4,5]))
(rg [mV 13 5,
bN 14 .add 13 (cI 1),
mV 5 14] [0,4,5])))
def d_q024_k1 (C : Hd) (gl : GL) (v0 v4 v5 : AV) (h : Heap) (x : Esc) (K : KT) : Prop:=
 pK (oLens v0) fun t1=>
 pK (oBin .lss v5 t1) fun t2=>
 condB t2 (pK (oBin .mul v4 (.p (.int .u32 16777619))) fun t3=>
 pK (oIdxs v0 v5) fun t4=>
 pK (oConvI .u32 t4) fun t5=>
 pK (oBin .add t3 t5) fun t6=>
 pK (oBin .add v5 (AI 1)) fun t7=>
 K .normal ⟨[(0,v0),(4,t6),(5,t7)],h,x⟩)
 (K (.exit 0) ⟨[(0,v0),(4,v4),(5,v5),(12,t2)],h,x⟩)
theorem e_q024_k1 {C gl e h x K} : NW C gl p_q024_k1 ⟨e,h,x⟩ K = d_q024_k1 C gl (aget e 0) (aget e 4) (aget e 5) h x K:=by kernel_rfl
theorem l_q024_k1 {C gl e h x K} : NW C gl (.loop p_q024_k1) ⟨e,h,x⟩ K = NLoop C gl p_q024_k1 K [(0,aget e 0),(4,aget e 4),(5,aget e 5)] h x:=NLoop_pr
def p_q024_k2 : ACode:=.pr [4,6,7,8] (rg [mV 34 7,
mV 35 7,
bN 36 .mul 34 35,
mV 7 36] [4,6,7,8])
def d_q024_k2 (C : Hd) (gl : GL) (v4 v6 v7 v8 : AV) (h : Heap) (x : Esc) (K : KT) : Prop:=
 pK (oBin .mul v7 v7) fun t1=>
 K .normal ⟨[(4,v4),(6,v6),(7,t1),(8,v8)],h,x⟩
theorem e_q024_k2 {C gl e h x K} : NW C gl p_q024_k2 ⟨e,h,x⟩ K = d_q024_k2 C gl (aget e 4) (aget e 6) (aget e 7) (aget e 8) h x K:=by kernel_rfl
def p_q024_k3 : ACode:=.pr [4,6,7,8] (rg [mV 26 8,
bN 27 .shr 26 (.c (.p (.int .u64 1))),
mV 8 27] [4,6,7,8])
def d_q024_k3 (C : Hd) (gl : GL) (v4 v6 v7 v8 : AV) (h : Heap) (x : Esc) (K : KT) : Prop:=
 pK (oBin .shr v8 (.p (.int .u64 1))) fun t1=>
 K .normal ⟨[(4,v4),(6,v6),(7,v7),(8,t1)],h,x⟩
theorem e_q024_k3 {C gl e h x K} : NW C gl p_q024_k3 ⟨e,h,x⟩ K = d_q024_k3 C gl (aget e 4) (aget e 6) (aget e 7) (aget e 8) h x K:=by kernel_rfl
def P_q024_k4 (q2 q3 : ACode) : ACode:=.pr [4,6,7,8] (.seq (.seq (rg [mV 24 8,
bN 25 .gtr 24 (cI 0)] [4,6,7,8,25])
(.cond 25 .skip
(.exit 2)))
(.seq (.block 3 (.seq (.seq (rg [mV 28 8,
bN 29 .and 28 (cI 1),
bN 30 .neq 29 (cI 0)] [4,6,7,8,30])
(.cond 30 (rg [mV 31 6,
mV 32 7,
bN 33 .mul 31 32,
mV 6 33] [4,6,7,8])
.skip))
q2))
q3))
def p_q024_k4 : ACode:=P_q024_k4 p_q024_k2 p_q024_k3
def d_q024_k4 (C : Hd) (gl : GL) (q2 q3 : ACode) (v4 v6 v7 v8 : AV) (h : Heap) (x : Esc) (K : KT) : Prop:=
 pK (oBin .gtr v8 (AI 0)) fun t1=>
 condB t1 (pK (oBin .and v8 (AI 1)) fun t2=>
 pK (oBin .neq t2 (AI 0)) fun t3=>
 condB t3 (pK (oBin .mul v6 v7) fun t4=>
 NW C gl q2 ⟨[(4,v4),(6,t4),(7,v7),(8,v8)],h,x⟩ (blockN 3 (seqN C gl q3 K)))
 (NW C gl q2 ⟨[(4,v4),(6,v6),(7,v7),(8,v8),(30,t3)],h,x⟩ (blockN 3 (seqN C gl q3 K))))
 (K (.exit 2) ⟨[(4,v4),(6,v6),(7,v7),(8,v8),(25,t1)],h,x⟩)
theorem E_q024_k4 {C gl q2 q3 e h x K} : NW C gl (P_q024_k4 q2 q3) ⟨e,h,x⟩ K = d_q024_k4 C gl q2 q3 (aget e 4) (aget e 6) (aget e 7) (aget e 8) h x K:=by kernel_rfl
theorem e_q024_k4 {C gl e h x K} : NW C gl p_q024_k4 ⟨e,h,x⟩ K = d_q024_k4 C gl p_q024_k2 p_q024_k3 (aget e 4) (aget e 6) (aget e 7) (aget e 8) h x K:=E_q024_k4
theorem l_q024_k4 {C gl e h x K} : NW C gl (.loop p_q024_k4) ⟨e,h,x⟩ K = NLoop C gl p_q024_k4 K [(4,aget e 4),(6,aget e 6),(7,aget e 7),(8,aget e 8)] h x:=NLoop_pr
def p_q024_k5 : ACode:=.pr [4,6] (.seq (rg [mV 37 4,
mV 38 6,
mV 2 37,
mV 3 38] [2,3])
.ret)
def d_q024_k5 (C : Hd) (gl : GL) (v4 v6 : AV) (h : Heap) (x : Esc) (K : KT) : Prop:=
 K .ret ⟨[(2,v4),(3,v6)],h,x⟩
theorem e_q024_k5 {C gl e h x K} : NW C gl p_q024_k5 ⟨e,h,x⟩ K = d_q024_k5 C gl (aget e 4) (aget e 6) h x K:=by kernel_rfl
def P_q024_k6 (q4 q5 : ACode) : ACode:=.pr [0,4] (.seq (rg [mV 6 (.c (.p (.int .u32 1))),
mV 7 (.c (.p (.int .u32 16777619)))] [0,4,6,7])
(.seq (.seq (rg [mV 22 0,
uO 23 (.lens 22),
mV 8 23] [4,6,7,8])
(.block 2 (.loop q4)))
q5))
def p_q024_k6 : ACode:=P_q024_k6 p_q024_k4 p_q024_k5
def d_q024_k6 (C : Hd) (gl : GL) (q4 q5 : ACode) (v0 v4 : AV) (h : Heap) (x : Esc) (K : KT) : Prop:=
 pK (oLens v0) fun t1=>
 NW C gl (.loop q4) ⟨[(4,v4),(6,(.p (.int .u32 1))),(7,(.p (.int .u32 16777619))),(8,t1)],h,x⟩ (blockN 2 (seqN C gl q5 K))
theorem E_q024_k6 {C gl q4 q5 e h x K} : NW C gl (P_q024_k6 q4 q5) ⟨e,h,x⟩ K = d_q024_k6 C gl q4 q5 (aget e 0) (aget e 4) h x K:=by kernel_rfl
theorem e_q024_k6 {C gl e h x K} : NW C gl p_q024_k6 ⟨e,h,x⟩ K = d_q024_k6 C gl p_q024_k4 p_q024_k5 (aget e 0) (aget e 4) h x K:=E_q024_k6
def P_q024 (q1 q6 : ACode) : ACode:=(.seq (rg [mV 2 (.c (.p (.int .u32 0))),
mV 3 (.c (.p (.int .u32 0)))] [0])
(.seq (rg [mV 4 (.c (.p (.int .u32 0)))] [0,4])
(.seq (.seq (rg [mV 5 (cI 0)] [0,4,5])
(.block 0 (.loop q1)))
q6)))
def a_q024 : AFun:=⟨1,[.t 2,.t 3],P_q024 p_q024_k1 p_q024_k6,false,false⟩
def d_q024 (C : Hd) (gl : GL) (q1 q6 : ACode) (v0 : AV) (h : Heap) (x : Esc) (K : KT) : Prop:=
 NW C gl (.loop q1) ⟨[(0,v0),(4,(.p (.int .u32 0))),(5,(AI 0))],h,x⟩ (blockN 0 (seqN C gl q6 K))
theorem E_q024 {C gl q1 q6 v0 h x K} : NW C gl (P_q024 q1 q6) ⟨enter [v0],h,x⟩ K = d_q024 C gl q1 q6 v0 h x K:=by kernel_rfl
theorem e_q024 {C gl v0 h x K} : NW C gl a_q024.body ⟨enter [v0],h,x⟩ K = d_q024 C gl p_q024_k1 p_q024_k6 v0 h x K:=E_q024
end Go.Am
end
section
/- The abstract machine,part C: closed calls that say true,asv contracts. -/
set_option linter.all false
namespace Go.Am
variable {P : Program} {gl : Nat → Option PV}
end Go.Am
end
section
/- The functions together. -/
set_option linter.unusedVariables false
set_option maxRecDepth 100000
namespace Go.Am
def fns : List (Nat × AFun):=[(f_q03j,a_q03j),(f_q03s,a_q03s),(f_q05x,a_q05x),(f_q03m,a_q03m),(f_q03z,a_q03z),(f_q03u,a_q03u),(f_q040,a_q040),(f_q05w,a_q05w),(f_q04s,a_q04s),(f_q03t,a_q03t),(f_q01g,a_q01g),(f_q04d,a_q04d),(f_q04c,a_q04c),(f_q01a,a_q01a),(f_q04e,a_q04e),(f_q041,a_q041),(f_q05q,a_q05q),(f_q015,a_q015),(f_q069,a_q069),(f_q013,a_q013),(f_q03w,a_q03w),(f_q03p,a_q03p),(f_q05d,a_q05d),(f_q01v,a_q01v),(f_q01e,a_q01e),(f_q03x,a_q03x),(f_q01n,a_q01n),(f_q054,a_q054),(f_q057,a_q057),(f_q03r,a_q03r),(f_q080,a_q080),(f_q01x,a_q01x),(f_q07z,a_q07z),(f_q07x,a_q07x),(f_q07y,a_q07y),(f_q04a,a_q04a),(f_q053,a_q053),(f_q04m,a_q04m),(f_q00a,a_q00a),(f_q001,a_q001),(f_q01b,a_q01b),(f_q01r,a_q01r),(f_q04i,a_q04i),(f_q04f,a_q04f),(f_q04w,a_q04w),(f_q04n,a_q04n),(f_q067,a_q067),(f_q05s,a_q05s),(f_q042,a_q042),(f_q066,a_q066),(f_q01l,a_q01l),(f_q01t,a_q01t),(f_q01w,a_q01w),(f_q01u,a_q01u),(f_q00w,a_q00w),(f_q06z,a_q06z),(f_q02z,a_q02z),(f_q062,a_q062),(f_q03o,a_q03o),(f_q03y,a_q03y),(f_q014,a_q014),(f_q063,a_q063),(f_q05o,a_q05o),(f_q081,a_q081),(f_q04b,a_q04b),(f_q006,a_q006),(f_q08e,a_q08e),(f_q009,a_q009),(f_q086,a_q086),(f_q05r,a_q05r),(f_q04l,a_q04l),(f_q00z,a_q00z),(f_q06k,a_q06k),(f_q031,a_q031),(f_q02n,a_q02n),(f_q000,a_q000),(f_q055,a_q055),(f_q087,a_q087),(f_q08j,a_q08j),(f_q008,a_q008),(f_q02l,a_q02l),(f_q08g,a_q08g),(f_q08a,a_q08a),(f_q02m,a_q02m),(f_q08i,a_q08i),(f_q089,a_q089),(f_q02p,a_q02p),(f_q02r,a_q02r),(f_q02q,a_q02q),(f_q02o,a_q02o),(f_q08y,a_q08y),(f_q022,a_q022),(f_q023,a_q023),(f_q092,a_q092),(f_q024,a_q024)]
def GRL : List (Nat × Sh):=[]
def PRL : PureT:=[(f_q07p,atoiS),(f_q07q,itoaS),(f_q085,countS),(f_q08c,joinS),(f_q08f,trimS)]
def GLL : List (Nat × PV):=[(1,pow10PV)]
def fnOf : List (Nat × AFun) → Nat → Option AFun
  | [],_=>none
  | (k,F) :: r,n=>bif Nat.beq k n then some F else fnOf r n
def X : Ctx:=⟨fnOf fns,glOf GLL,extF f_internal_bytealg_IndexByteString f_internal_bytealg_abigen_runtime_cmpstring,libF GRL PRL⟩
theorem fnOf_all {p : Nat → AFun → Bool} : ∀ (l : List (Nat × AFun)),(l.all fun y=>p y.1 y.2) = true → ∀ n F,fnOf l n = some F → p n F = true
  | [],_,n,F,h=>by cases h
  | (k,G) :: r,ha,n,F,h=>by
    simp only [List.all_cons,Bool.and_eq_true] at ha
    simp only [fnOf] at h
    cases hk : Nat.beq k n with
    | true=>
      rw [hk] at h
      have:=Nat.eq_of_beq_eq_true hk
      simp only [cond_true,Option.some.injEq] at h
      subst this; subst h; exact ha.1
    | false=>
      rw [hk] at h
      exact fnOf_all r ha.2 n F h
theorem X_noNext : X.NoNext:=fun f F h=>fnOf_all (p:=fun _ F=>F.isDet || F.body.noNext) fns (by kernel_rfl) f F h
theorem x_q03j : X.fn f_q03j = some a_q03j:=by kernel_rfl
theorem c_q03j {u0 v0 : AV} {h h1 : Heap} {P : Post} (hp : puras h [u0] = some ([v0],h1)) : ACall X f_q03j [u0] h P = d_q03j (ACall X) X.gl p_q03j_k1 v0 h1 [] (finR [.t 2] false h.length P):=by rw [call_val x_q03j rfl hp rfl]; exact e_q03j
theorem x_q03s : X.fn f_q03s = some a_q03s:=by kernel_rfl
theorem c_q03s {u0 u1 v0 v1 : AV} {h h1 : Heap} {P : Post} (hp : puras h [u0,u1] = some ([v0,v1],h1)) : ACall X f_q03s [u0,u1] h P = d_q03s (ACall X) X.gl p_q03s_k1 p_q03s_k2 v0 v1 h1 [] (finR [.t 4] true h.length P):=by rw [call_val x_q03s rfl hp rfl]; exact e_q03s
theorem x_q05x : X.fn f_q05x = some a_q05x:=by kernel_rfl
theorem c_q05x {u0 u1 v0 v1 : AV} {h h1 : Heap} {P : Post} (hp : puras h [u0,u1] = some ([v0,v1],h1)) : ACall X f_q05x [u0,u1] h P = d_q05x (ACall X) X.gl p_q05x_k1 p_q05x_k2 v0 v1 h1 [] (finR [.t 4] false h.length P):=by rw [call_val x_q05x rfl hp rfl]; exact e_q05x
theorem x_q03m : X.fn f_q03m = some a_q03m:=by kernel_rfl
theorem c_q03m {h h1 : Heap} {P : Post} (hp : puras h [] = some ([],h1)) : ACall X f_q03m [] h P = d_q03m (ACall X) X.gl  h1 [] (finR [.t 0] false h.length P):=by rw [call_val x_q03m rfl hp rfl]; exact e_q03m
theorem x_q03z : X.fn f_q03z = some a_q03z:=by kernel_rfl
theorem c_q03z {u0 u1 v0 v1 : AV} {h h1 : Heap} {P : Post} (hp : puras h [u0,u1] = some ([v0,v1],h1)) : ACall X f_q03z [u0,u1] h P = d_q03z (ACall X) X.gl v0 v1 h1 [] (finR [.t 4] false h.length P):=by rw [call_val x_q03z rfl hp rfl]; exact e_q03z
theorem x_q03u : X.fn f_q03u = some a_q03u:=by kernel_rfl
theorem c_q03u {u0 u1 v0 v1 : AV} {h h1 : Heap} {P : Post} (hp : puras h [u0,u1] = some ([v0,v1],h1)) : ACall X f_q03u [u0,u1] h P = d_q03u (ACall X) X.gl v0 v1 h1 [] (finR [.t 4] false h.length P):=by rw [call_val x_q03u rfl hp rfl]; exact e_q03u
theorem x_q040 : X.fn f_q040 = some a_q040:=by kernel_rfl
theorem c_q040 {u0 u1 u2 v0 v1 v2 : AV} {h h1 : Heap} {P : Post} (hp : puras h [u0,u1,u2] = some ([v0,v1,v2],h1)) : ACall X f_q040 [u0,u1,u2] h P = d_q040 (ACall X) X.gl v0 v1 v2 h1 [] (finR [.t 6] false h.length P):=by rw [call_val x_q040 rfl hp rfl]; exact e_q040
theorem x_q05w : X.fn f_q05w = some a_q05w:=by kernel_rfl
theorem c_q05w {u0 u1 u2 v0 v1 v2 : AV} {h h1 : Heap} {P : Post} (hp : puras h [u0,u1,u2] = some ([v0,v1,v2],h1)) : ACall X f_q05w [u0,u1,u2] h P = d_q05w (ACall X) X.gl p_q05w_k1 p_q05w_k2 v0 v1 v2 h1 [] (finR [.t 6] false h.length P):=by rw [call_val x_q05w rfl hp rfl]; exact e_q05w
theorem x_q04s : X.fn f_q04s = some a_q04s:=by kernel_rfl
theorem c_q04s {u0 u1 v0 v1 : AV} {h h1 : Heap} {P : Post} (hp : puras h [u0,u1] = some ([v0,v1],h1)) : ACall X f_q04s [u0,u1] h P = d_q04s (ACall X) X.gl v0 v1 h1 [] (finR [.t 4] false h.length P):=by rw [call_val x_q04s rfl hp rfl]; exact e_q04s
theorem x_q03t : X.fn f_q03t = some a_q03t:=by kernel_rfl
theorem c_q03t {u0 u1 v0 v1 : AV} {h h1 : Heap} {P : Post} (hp : puras h [u0,u1] = some ([v0,v1],h1)) : ACall X f_q03t [u0,u1] h P = d_q03t (ACall X) X.gl p_q03t_k1 p_q03t_k2 v0 v1 h1 [] (finR [.t 4] false h.length P):=by rw [call_val x_q03t rfl hp rfl]; exact e_q03t
theorem x_q01g : X.fn f_q01g = some a_q01g:=by kernel_rfl
theorem c_q01g {u0 v0 : AV} {h h1 : Heap} {P : Post} (hp : puras h [u0] = some ([v0],h1)) : ACall X f_q01g [u0] h P = d_q01g (ACall X) X.gl p_q01g_k1 p_q01g_k7 v0 h1 [] (finR [.t 2,.t 3] false h.length P):=by rw [call_val x_q01g rfl hp rfl]; exact e_q01g
theorem x_q04d : X.fn f_q04d = some a_q04d:=by kernel_rfl
theorem c_q04d {u0 u1 v0 v1 : AV} {h h1 : Heap} {P : Post} (hp : puras h [u0,u1] = some ([v0,v1],h1)) : ACall X f_q04d [u0,u1] h P = d_q04d (ACall X) X.gl p_q04d_k1 p_q04d_k2 v0 v1 h1 [] (finR [.t 4] false h.length P):=by rw [call_val x_q04d rfl hp rfl]; exact e_q04d
theorem x_q04c : X.fn f_q04c = some a_q04c:=by kernel_rfl
theorem c_q04c {u0 v0 : AV} {h h1 : Heap} {P : Post} (hp : puras h [u0] = some ([v0],h1)) : ACall X f_q04c [u0] h P = d_q04c (ACall X) X.gl p_q04c_k1 p_q04c_k2 v0 h1 [] (finR [.t 2] false h.length P):=by rw [call_val x_q04c rfl hp rfl]; exact e_q04c
theorem x_q01a : X.fn f_q01a = some a_q01a:=by kernel_rfl
theorem c_q01a {u0 u1 v0 v1 : AV} {h h1 : Heap} {P : Post} (hp : puras h [u0,u1] = some ([v0,v1],h1)) : ACall X f_q01a [u0,u1] h P = d_q01a (ACall X) X.gl p_q01a_k1 p_q01a_k2 v0 v1 h1 [] (finR [.t 4,.t 5,.t 6] false h.length P):=by rw [call_val x_q01a rfl hp rfl]; exact e_q01a
theorem x_q04e : X.fn f_q04e = some a_q04e:=by kernel_rfl
theorem c_q04e {u0 u1 v0 v1 : AV} {h h1 : Heap} {P : Post} (hp : puras h [u0,u1] = some ([v0,v1],h1)) : ACall X f_q04e [u0,u1] h P = d_q04e (ACall X) X.gl v0 v1 h1 [] (finR [.t 4,.t 5,.t 6] false h.length P):=by rw [call_val x_q04e rfl hp rfl]; exact e_q04e
theorem x_q041 : X.fn f_q041 = some a_q041:=by kernel_rfl
theorem c_q041 {u0 u1 v0 v1 : AV} {h h1 : Heap} {P : Post} (hp : puras h [u0,u1] = some ([v0,v1],h1)) : ACall X f_q041 [u0,u1] h P = d_q041 (ACall X) X.gl v0 v1 h1 [] (finR [.t 4] false h.length P):=by rw [call_val x_q041 rfl hp rfl]; exact e_q041
theorem x_q05q : X.fn f_q05q = some a_q05q:=by kernel_rfl
theorem c_q05q {u0 u1 h P} : ACall X f_q05q [u0,u1] h P = d_q05q (ACall X) X.gl u0 u1 h [] (finR [.t 4] false h.length P):=by rw [call_ref x_q05q rfl rfl]; exact e_q05q
theorem x_q015 : X.fn f_q015 = some a_q015:=by kernel_rfl
theorem c_q015 {u0 u1 v0 v1 : AV} {h h1 : Heap} {P : Post} (hp : puras h [u0,u1] = some ([v0,v1],h1)) : ACall X f_q015 [u0,u1] h P = d_q015 (ACall X) X.gl p_q015_k1 p_q015_k2 v0 v1 h1 [] (finR [.t 4,.t 5] false h.length P):=by rw [call_val x_q015 rfl hp rfl]; exact e_q015
theorem x_q069 : X.fn f_q069 = some a_q069:=by kernel_rfl
theorem c_q069 {u0 h P} : ACall X f_q069 [u0] h P = d_q069 (ACall X) X.gl u0 h [] (finR [] false h.length P):=by rw [call_ref x_q069 rfl rfl]; exact e_q069
theorem x_q013 : X.fn f_q013 = some a_q013:=by kernel_rfl
theorem c_q013 {u0 u1 v0 v1 : AV} {h h1 : Heap} {P : Post} (hp : puras h [u0,u1] = some ([v0,v1],h1)) : ACall X f_q013 [u0,u1] h P = d_q013 (ACall X) X.gl p_q013_k1 p_q013_k5 v0 v1 h1 [] (finR [.t 4] false h.length P):=by rw [call_val x_q013 rfl hp rfl]; exact e_q013
theorem x_q03w : X.fn f_q03w = some a_q03w:=by kernel_rfl
theorem c_q03w {u0 u1 v0 v1 : AV} {h h1 : Heap} {P : Post} (hp : puras h [u0,u1] = some ([v0,v1],h1)) : ACall X f_q03w [u0,u1] h P = d_q03w (ACall X) X.gl v0 v1 h1 [] (finR [.t 4] false h.length P):=by rw [call_val x_q03w rfl hp rfl]; exact e_q03w
theorem x_q03p : X.fn f_q03p = some a_q03p:=by kernel_rfl
theorem c_q03p {u0 u1 v0 v1 : AV} {h h1 : Heap} {P : Post} (hp : puras h [u0,u1] = some ([v0,v1],h1)) : ACall X f_q03p [u0,u1] h P = d_q03p (ACall X) X.gl p_q03p_k3 v0 v1 h1 [] (finR [.cell 4 (some 2)] false h.length P):=by rw [call_val x_q03p rfl hp rfl]; exact e_q03p
theorem x_q05d : X.fn f_q05d = some a_q05d:=by kernel_rfl
theorem c_q05d {u0 v0 : AV} {h h1 : Heap} {P : Post} (hp : puras h [u0] = some ([v0],h1)) : ACall X f_q05d [u0] h P = ∃ v h' x,P v h' x ∧ d_q05d (ACall X) X.gl v0 h1 [] (finR [.t 2] true h.length fun v1 h1 x1=>v1 = v ∧ h1 = h' ∧ x1 = x):=by rw [call_val_det x_q05d rfl hp rfl]; exact ex3_congr fun v h' x=>congrArg (And (P v h' x)) e_q05d
theorem x_q01v : X.fn f_q01v = some a_q01v:=by kernel_rfl
theorem c_q01v {u0 v0 : AV} {h h1 : Heap} {P : Post} (hp : puras h [u0] = some ([v0],h1)) : ACall X f_q01v [u0] h P = d_q01v (ACall X) X.gl v0 h1 [] (finR [.t 2] false h.length P):=by rw [call_val x_q01v rfl hp rfl]; exact e_q01v
theorem x_q01e : X.fn f_q01e = some a_q01e:=by kernel_rfl
theorem c_q01e {u0 u1 v0 v1 : AV} {h h1 : Heap} {P : Post} (hp : puras h [u0,u1] = some ([v0,v1],h1)) : ACall X f_q01e [u0,u1] h P = d_q01e (ACall X) X.gl v0 v1 h1 [] (finR [.t 4,.t 5] false h.length P):=by rw [call_val x_q01e rfl hp rfl]; exact e_q01e
theorem x_q03x : X.fn f_q03x = some a_q03x:=by kernel_rfl
theorem c_q03x {u0 u1 u2 v0 v1 v2 : AV} {h h1 : Heap} {P : Post} (hp : puras h [u0,u1,u2] = some ([v0,v1,v2],h1)) : ACall X f_q03x [u0,u1,u2] h P = d_q03x (ACall X) X.gl v0 v1 v2 h1 [] (finR [.t 6] false h.length P):=by rw [call_val x_q03x rfl hp rfl]; exact e_q03x
theorem x_q01n : X.fn f_q01n = some a_q01n:=by kernel_rfl
theorem c_q01n {u0 v0 : AV} {h h1 : Heap} {P : Post} (hp : puras h [u0] = some ([v0],h1)) : ACall X f_q01n [u0] h P = d_q01n (ACall X) X.gl v0 h1 [] (finR [.t 2] false h.length P):=by rw [call_val x_q01n rfl hp rfl]; exact e_q01n
theorem x_q054 : X.fn f_q054 = some a_q054:=by kernel_rfl
theorem c_q054 {u0 u1 u2 v0 v1 v2 : AV} {h h1 : Heap} {P : Post} (hp : puras h [u0,u1,u2] = some ([v0,v1,v2],h1)) : ACall X f_q054 [u0,u1,u2] h P = d_q054 (ACall X) X.gl v0 v1 v2 h1 [] (finR [.t 6] false h.length P):=by rw [call_val x_q054 rfl hp rfl]; exact e_q054
theorem x_q057 : X.fn f_q057 = some a_q057:=by kernel_rfl
theorem c_q057 {u0 v0 : AV} {h h1 : Heap} {P : Post} (hp : puras h [u0] = some ([v0],h1)) : ACall X f_q057 [u0] h P = d_q057 (ACall X) X.gl v0 h1 [] (finR [.t 2] false h.length P):=by rw [call_val x_q057 rfl hp rfl]; exact e_q057
theorem x_q03r : X.fn f_q03r = some a_q03r:=by kernel_rfl
theorem c_q03r {u0 u1 u2 v0 v1 v2 : AV} {h h1 : Heap} {P : Post} (hp : puras h [u0,u1,u2] = some ([v0,v1,v2],h1)) : ACall X f_q03r [u0,u1,u2] h P = d_q03r (ACall X) X.gl v0 v1 v2 h1 [] (finR [.t 6] false h.length P):=by rw [call_val x_q03r rfl hp rfl]; exact e_q03r
theorem x_q080 : X.fn f_q080 = some a_q080:=by kernel_rfl
theorem c_q080 {u0 u1 v0 v1 : AV} {h h1 : Heap} {P : Post} (hp : puras h [u0,u1] = some ([v0,v1],h1)) : ACall X f_q080 [u0,u1] h P = d_q080 (ACall X) X.gl v0 v1 h1 [] (finR [.t 4,.t 5] false h.length P):=by rw [call_val x_q080 rfl hp rfl]; exact e_q080
theorem x_q01x : X.fn f_q01x = some a_q01x:=by kernel_rfl
theorem c_q01x {u0 v0 : AV} {h h1 : Heap} {P : Post} (hp : puras h [u0] = some ([v0],h1)) : ACall X f_q01x [u0] h P = d_q01x (ACall X) X.gl v0 h1 [] (finR [.t 2] false h.length P):=by rw [call_val x_q01x rfl hp rfl]; exact e_q01x
theorem x_q07z : X.fn f_q07z = some a_q07z:=by kernel_rfl
theorem c_q07z {u0 u1 v0 v1 : AV} {h h1 : Heap} {P : Post} (hp : puras h [u0,u1] = some ([v0,v1],h1)) : ACall X f_q07z [u0,u1] h P = d_q07z (ACall X) X.gl v0 v1 h1 [] (finR [.t 4] false h.length P):=by rw [call_val x_q07z rfl hp rfl]; exact e_q07z
theorem x_q07x : X.fn f_q07x = some a_q07x:=by kernel_rfl
theorem c_q07x {u0 v0 : AV} {h h1 : Heap} {P : Post} (hp : puras h [u0] = some ([v0],h1)) : ACall X f_q07x [u0] h P = d_q07x (ACall X) X.gl v0 h1 [] (finR [.t 2] false h.length P):=by rw [call_val x_q07x rfl hp rfl]; exact e_q07x
theorem x_q07y : X.fn f_q07y = some a_q07y:=by kernel_rfl
theorem c_q07y {u0 v0 : AV} {h h1 : Heap} {P : Post} (hp : puras h [u0] = some ([v0],h1)) : ACall X f_q07y [u0] h P = d_q07y (ACall X) X.gl v0 h1 [] (finR [.t 2] false h.length P):=by rw [call_val x_q07y rfl hp rfl]; exact e_q07y
theorem x_q04a : X.fn f_q04a = some a_q04a:=by kernel_rfl
theorem c_q04a {u0 u1 v0 v1 : AV} {h h1 : Heap} {P : Post} (hp : puras h [u0,u1] = some ([v0,v1],h1)) : ACall X f_q04a [u0,u1] h P = d_q04a (ACall X) X.gl p_q04a_k3 v0 v1 h1 [] (finR [.t 4] false h.length P):=by rw [call_val x_q04a rfl hp rfl]; exact e_q04a
theorem x_q053 : X.fn f_q053 = some a_q053:=by kernel_rfl
theorem c_q053 {h h1 : Heap} {P : Post} (hp : puras h [] = some ([],h1)) : ACall X f_q053 [] h P = d_q053 (ACall X) X.gl  h1 [] (finR [.t 0] false h.length P):=by rw [call_val x_q053 rfl hp rfl]; exact e_q053
theorem x_q04m : X.fn f_q04m = some a_q04m:=by kernel_rfl
theorem c_q04m {u0 v0 : AV} {h h1 : Heap} {P : Post} (hp : puras h [u0] = some ([v0],h1)) : ACall X f_q04m [u0] h P = d_q04m (ACall X) X.gl p_q04m_k1 p_q04m_k2 v0 h1 [] (finR [.t 2] false h.length P):=by rw [call_val x_q04m rfl hp rfl]; exact e_q04m
theorem x_q00a : X.fn f_q00a = some a_q00a:=by kernel_rfl
theorem c_q00a {u0 u1 u2 v0 v1 v2 : AV} {h h1 : Heap} {P : Post} (hp : puras h [u0,u1,u2] = some ([v0,v1,v2],h1)) : ACall X f_q00a [u0,u1,u2] h P = d_q00a (ACall X) X.gl v0 v1 v2 h1 [] (finR [.t 6] false h.length P):=by rw [call_val x_q00a rfl hp rfl]; exact e_q00a
theorem x_q001 : X.fn f_q001 = some a_q001:=by kernel_rfl
theorem c_q001 {u0 u1 v0 v1 : AV} {h h1 : Heap} {P : Post} (hp : puras h [u0,u1] = some ([v0,v1],h1)) : ACall X f_q001 [u0,u1] h P = d_q001 (ACall X) X.gl p_q001_k1 p_q001_k2 v0 v1 h1 [] (finR [.t 4,.t 5] false h.length P):=by rw [call_val x_q001 rfl hp rfl]; exact e_q001
theorem x_q01b : X.fn f_q01b = some a_q01b:=by kernel_rfl
theorem c_q01b {u0 u1 v0 v1 : AV} {h h1 : Heap} {P : Post} (hp : puras h [u0,u1] = some ([v0,v1],h1)) : ACall X f_q01b [u0,u1] h P = d_q01b (ACall X) X.gl v0 v1 h1 [] (finR [.t 3] false h.length P):=by rw [call_val x_q01b rfl hp rfl]; exact e_q01b
theorem x_q01r : X.fn f_q01r = some a_q01r:=by kernel_rfl
theorem c_q01r {u0 v0 : AV} {h h1 : Heap} {P : Post} (hp : puras h [u0] = some ([v0],h1)) : ACall X f_q01r [u0] h P = d_q01r (ACall X) X.gl p_q01r_k1 p_q01r_k2 v0 h1 [] (finR [.cell 2 (some 2),.t 3] false h.length P):=by rw [call_val x_q01r rfl hp rfl]; exact e_q01r
theorem x_q04i : X.fn f_q04i = some a_q04i:=by kernel_rfl
theorem c_q04i {u0 u1 v0 v1 : AV} {h h1 : Heap} {P : Post} (hp : puras h [u0,u1] = some ([v0,v1],h1)) : ACall X f_q04i [u0,u1] h P = d_q04i (ACall X) X.gl p_q04i_k1 p_q04i_k2 v0 v1 h1 [] (finR [.t 4,.t 5] false h.length P):=by rw [call_val x_q04i rfl hp rfl]; exact e_q04i
theorem x_q04f : X.fn f_q04f = some a_q04f:=by kernel_rfl
theorem c_q04f {u0 u1 v0 v1 : AV} {h h1 : Heap} {P : Post} (hp : puras h [u0,u1] = some ([v0,v1],h1)) : ACall X f_q04f [u0,u1] h P = d_q04f (ACall X) X.gl v0 v1 h1 [] (finR [.t 3] false h.length P):=by rw [call_val x_q04f rfl hp rfl]; exact e_q04f
theorem x_q04w : X.fn f_q04w = some a_q04w:=by kernel_rfl
theorem c_q04w {u0 v0 : AV} {h h1 : Heap} {P : Post} (hp : puras h [u0] = some ([v0],h1)) : ACall X f_q04w [u0] h P = d_q04w (ACall X) X.gl v0 h1 [] (finR [.t 2,.t 3] false h.length P):=by rw [call_val x_q04w rfl hp rfl]; exact e_q04w
theorem x_q04n : X.fn f_q04n = some a_q04n:=by kernel_rfl
theorem c_q04n {u0 u1 v0 v1 : AV} {h h1 : Heap} {P : Post} (hp : puras h [u0,u1] = some ([v0,v1],h1)) : ACall X f_q04n [u0,u1] h P = d_q04n (ACall X) X.gl p_q04n_k1 p_q04n_k2 v0 v1 h1 [] (finR [.t 4,.t 5] false h.length P):=by rw [call_val x_q04n rfl hp rfl]; exact e_q04n
theorem x_q067 : X.fn f_q067 = some a_q067:=by kernel_rfl
theorem c_q067 {u0 u1 h P} : ACall X f_q067 [u0,u1] h P = d_q067 (ACall X) X.gl p_q067_k1 p_q067_k2 u0 u1 h [] (finR [.t 4] false h.length P):=by rw [call_ref x_q067 rfl rfl]; exact e_q067
theorem x_q05s : X.fn f_q05s = some a_q05s:=by kernel_rfl
theorem c_q05s {u0 u1 h P} : ACall X f_q05s [u0,u1] h P = d_q05s (ACall X) X.gl p_q05s_k2 p_q05s_k3 u0 u1 h [] (finR [.t 4] false h.length P):=by rw [call_ref x_q05s rfl rfl]; exact e_q05s
theorem x_q042 : X.fn f_q042 = some a_q042:=by kernel_rfl
theorem c_q042 {u0 u1 v0 v1 : AV} {h h1 : Heap} {P : Post} (hp : puras h [u0,u1] = some ([v0,v1],h1)) : ACall X f_q042 [u0,u1] h P = d_q042 (ACall X) X.gl v0 v1 h1 [] (finR [.t 3] false h.length P):=by rw [call_val x_q042 rfl hp rfl]; exact e_q042
theorem x_q066 : X.fn f_q066 = some a_q066:=by kernel_rfl
theorem c_q066 {u0 u1 h P} : ACall X f_q066 [u0,u1] h P = d_q066 (ACall X) X.gl p_q066_k1 p_q066_k2 u0 u1 h [] (finR [.t 4] false h.length P):=by rw [call_ref x_q066 rfl rfl]; exact e_q066
theorem x_q01l : X.fn f_q01l = some a_q01l:=by kernel_rfl
theorem c_q01l {u0 u1 v0 v1 : AV} {h h1 : Heap} {P : Post} (hp : puras h [u0,u1] = some ([v0,v1],h1)) : ACall X f_q01l [u0,u1] h P = d_q01l (ACall X) X.gl p_q01l_k1 p_q01l_k2 v0 v1 h1 [] (finR [.t 4] false h.length P):=by rw [call_val x_q01l rfl hp rfl]; exact e_q01l
theorem x_q01t : X.fn f_q01t = some a_q01t:=by kernel_rfl
theorem c_q01t {u0 v0 : AV} {h h1 : Heap} {P : Post} (hp : puras h [u0] = some ([v0],h1)) : ACall X f_q01t [u0] h P = d_q01t (ACall X) X.gl p_q01t_k4 p_q01t_k5 v0 h1 [] (finR [.t 2] true h.length P):=by rw [call_val x_q01t rfl hp rfl]; exact e_q01t
theorem x_q01w : X.fn f_q01w = some a_q01w:=by kernel_rfl
theorem c_q01w {u0 u1 u2 h P} : ACall X f_q01w [u0,u1,u2] h P = d_q01w (ACall X) X.gl p_q01w_k3 p_q01w_k5 u0 u1 u2 h [] (finR [] false h.length P):=by rw [call_ref x_q01w rfl rfl]; exact e_q01w
theorem x_q01u : X.fn f_q01u = some a_q01u:=by kernel_rfl
theorem c_q01u {u0 u1 v0 v1 : AV} {h h1 : Heap} {P : Post} (hp : puras h [u0,u1] = some ([v0,v1],h1)) : ACall X f_q01u [u0,u1] h P = d_q01u (ACall X) X.gl p_q01u_k4 p_q01u_k5 v0 v1 h1 [] (finR [.t 4] false h.length P):=by rw [call_val x_q01u rfl hp rfl]; exact e_q01u
theorem x_q00w : X.fn f_q00w = some a_q00w:=by kernel_rfl
theorem c_q00w {u0 u1 v0 v1 : AV} {h h1 : Heap} {P : Post} (hp : puras h [u0,u1] = some ([v0,v1],h1)) : ACall X f_q00w [u0,u1] h P = d_q00w (ACall X) X.gl v0 v1 h1 [] (finR [.t 4] false h.length P):=by rw [call_val x_q00w rfl hp rfl]; exact e_q00w
theorem x_q06z : X.fn f_q06z = some a_q06z:=by kernel_rfl
theorem c_q06z {u0 u1 u2 u3 h P} : ACall X f_q06z [u0,u1,u2,u3] h P = d_q06z (ACall X) X.gl p_q06z_k4 u0 u1 u2 u3 h [] (finR [] false h.length P):=by rw [call_ref x_q06z rfl rfl]; exact e_q06z
theorem x_q02z : X.fn f_q02z = some a_q02z:=by kernel_rfl
theorem c_q02z {u0 v0 : AV} {h h1 : Heap} {P : Post} (hp : puras h [u0] = some ([v0],h1)) : ACall X f_q02z [u0] h P = d_q02z (ACall X) X.gl v0 h1 [] (finR [.t 2] false h.length P):=by rw [call_val x_q02z rfl hp rfl]; exact e_q02z
theorem x_q062 : X.fn f_q062 = some a_q062:=by kernel_rfl
theorem c_q062 {u0 u1 h P} : ACall X f_q062 [u0,u1] h P = d_q062 (ACall X) X.gl p_q062_k1 p_q062_k2 u0 u1 h [] (finR [.t 4] false h.length P):=by rw [call_ref x_q062 rfl rfl]; exact e_q062
theorem x_q03o : X.fn f_q03o = some a_q03o:=by kernel_rfl
theorem c_q03o {u0 u1 v0 v1 : AV} {h h1 : Heap} {P : Post} (hp : puras h [u0,u1] = some ([v0,v1],h1)) : ACall X f_q03o [u0,u1] h P = d_q03o (ACall X) X.gl p_q03o_k1 v0 v1 h1 [] (finR [.t 4] false h.length P):=by rw [call_val x_q03o rfl hp rfl]; exact e_q03o
theorem x_q03y : X.fn f_q03y = some a_q03y:=by kernel_rfl
theorem c_q03y {u0 u1 v0 v1 : AV} {h h1 : Heap} {P : Post} (hp : puras h [u0,u1] = some ([v0,v1],h1)) : ACall X f_q03y [u0,u1] h P = d_q03y (ACall X) X.gl p_q03y_k1 p_q03y_k4 v0 v1 h1 [] (finR [.t 4] true h.length P):=by rw [call_val x_q03y rfl hp rfl]; exact e_q03y
theorem x_q014 : X.fn f_q014 = some a_q014:=by kernel_rfl
theorem c_q014 {u0 v0 : AV} {h h1 : Heap} {P : Post} (hp : puras h [u0] = some ([v0],h1)) : ACall X f_q014 [u0] h P = d_q014 (ACall X) X.gl p_q014_k1 p_q014_k2 v0 h1 [] (finR [.t 2] false h.length P):=by rw [call_val x_q014 rfl hp rfl]; exact e_q014
theorem x_q063 : X.fn f_q063 = some a_q063:=by kernel_rfl
theorem c_q063 {u0 u1 h P} : ACall X f_q063 [u0,u1] h P = d_q063 (ACall X) X.gl p_q063_k1 p_q063_k2 u0 u1 h [] (finR [.t 4] false h.length P):=by rw [call_ref x_q063 rfl rfl]; exact e_q063
theorem x_q05o : X.fn f_q05o = some a_q05o:=by kernel_rfl
theorem c_q05o {u0 u1 h P} : ACall X f_q05o [u0,u1] h P = d_q05o (ACall X) X.gl u0 u1 h [] (finR [.t 4] false h.length P):=by rw [call_ref x_q05o rfl rfl]; exact e_q05o
theorem x_q081 : X.fn f_q081 = some a_q081:=by kernel_rfl
theorem c_q081 {u0 v0 : AV} {h h1 : Heap} {P : Post} (hp : puras h [u0] = some ([v0],h1)) : ACall X f_q081 [u0] h P = d_q081 (ACall X) X.gl v0 h1 [] (finR [] false h.length P):=by rw [call_val x_q081 rfl hp rfl]; exact e_q081
theorem x_q04b : X.fn f_q04b = some a_q04b:=by kernel_rfl
theorem c_q04b {u0 u1 v0 v1 : AV} {h h1 : Heap} {P : Post} (hp : puras h [u0,u1] = some ([v0,v1],h1)) : ACall X f_q04b [u0,u1] h P = d_q04b (ACall X) X.gl v0 v1 h1 [] (finR [.t 3] false h.length P):=by rw [call_val x_q04b rfl hp rfl]; exact e_q04b
theorem x_q006 : X.fn f_q006 = some a_q006:=by kernel_rfl
theorem c_q006 {u0 v0 : AV} {h h1 : Heap} {P : Post} (hp : puras h [u0] = some ([v0],h1)) : ACall X f_q006 [u0] h P = d_q006 (ACall X) X.gl v0 h1 [] (finR [.t 2,.t 3] false h.length P):=by rw [call_val x_q006 rfl hp rfl]; exact e_q006
theorem x_q08e : X.fn f_q08e = some a_q08e:=by kernel_rfl
theorem c_q08e {u0 u1 v0 v1 : AV} {h h1 : Heap} {P : Post} (hp : puras h [u0,u1] = some ([v0,v1],h1)) : ACall X f_q08e [u0,u1] h P = d_q08e (ACall X) X.gl v0 v1 h1 [] (finR [.t 4] false h.length P):=by rw [call_val x_q08e rfl hp rfl]; exact e_q08e
theorem x_q009 : X.fn f_q009 = some a_q009:=by kernel_rfl
theorem c_q009 {u0 u1 v0 v1 : AV} {h h1 : Heap} {P : Post} (hp : puras h [u0,u1] = some ([v0,v1],h1)) : ACall X f_q009 [u0,u1] h P = d_q009 (ACall X) X.gl p_q009_k1 p_q009_k2 v0 v1 h1 [] (finR [.t 4,.t 5] false h.length P):=by rw [call_val x_q009 rfl hp rfl]; exact e_q009
theorem x_q086 : X.fn f_q086 = some a_q086:=by kernel_rfl
theorem c_q086 {u0 u1 v0 v1 : AV} {h h1 : Heap} {P : Post} (hp : puras h [u0,u1] = some ([v0,v1],h1)) : ACall X f_q086 [u0,u1] h P = d_q086 (ACall X) X.gl v0 v1 h1 [] (finR [.t 4,.t 5,.t 6] false h.length P):=by rw [call_val x_q086 rfl hp rfl]; exact e_q086
theorem x_q05r : X.fn f_q05r = some a_q05r:=by kernel_rfl
theorem c_q05r {u0 u1 h P} : ACall X f_q05r [u0,u1] h P = d_q05r (ACall X) X.gl u0 u1 h [] (finR [.t 4] false h.length P):=by rw [call_ref x_q05r rfl rfl]; exact e_q05r
theorem x_q04l : X.fn f_q04l = some a_q04l:=by kernel_rfl
theorem c_q04l {u0 u1 v0 v1 : AV} {h h1 : Heap} {P : Post} (hp : puras h [u0,u1] = some ([v0,v1],h1)) : ACall X f_q04l [u0,u1] h P = d_q04l (ACall X) X.gl v0 v1 h1 [] (finR [.t 4,.t 5] false h.length P):=by rw [call_val x_q04l rfl hp rfl]; exact e_q04l
theorem x_q00z : X.fn f_q00z = some a_q00z:=by kernel_rfl
theorem c_q00z {u0 v0 : AV} {h h1 : Heap} {P : Post} (hp : puras h [u0] = some ([v0],h1)) : ACall X f_q00z [u0] h P = d_q00z (ACall X) X.gl v0 h1 [] (finR [.t 2] false h.length P):=by rw [call_val x_q00z rfl hp rfl]; exact e_q00z
theorem x_q06k : X.fn f_q06k = some a_q06k:=by kernel_rfl
theorem c_q06k {u0 u1 u2 h P} : ACall X f_q06k [u0,u1,u2] h P = d_q06k (ACall X) X.gl p_q06k_k3 u0 u1 u2 h [] (finR [] false h.length P):=by rw [call_ref x_q06k rfl rfl]; exact e_q06k
theorem x_q031 : X.fn f_q031 = some a_q031:=by kernel_rfl
theorem c_q031 {u0 v0 : AV} {h h1 : Heap} {P : Post} (hp : puras h [u0] = some ([v0],h1)) : ACall X f_q031 [u0] h P = d_q031 (ACall X) X.gl p_q031_k3 v0 h1 [] (finR [.t 2] false h.length P):=by rw [call_val x_q031 rfl hp rfl]; exact e_q031
theorem x_q02n : X.fn f_q02n = some a_q02n:=by kernel_rfl
theorem c_q02n {u0 u1 v0 v1 : AV} {h h1 : Heap} {P : Post} (hp : puras h [u0,u1] = some ([v0,v1],h1)) : ACall X f_q02n [u0,u1] h P = d_q02n (ACall X) X.gl v0 v1 h1 [] (finR [.t 4] false h.length P):=by rw [call_val x_q02n rfl hp rfl]; exact e_q02n
theorem x_q000 : X.fn f_q000 = some a_q000:=by kernel_rfl
theorem c_q000 {u0 v0 : AV} {h h1 : Heap} {P : Post} (hp : puras h [u0] = some ([v0],h1)) : ACall X f_q000 [u0] h P = d_q000 (ACall X) X.gl v0 h1 [] (finR [.t 2] false h.length P):=by rw [call_val x_q000 rfl hp rfl]; exact e_q000
theorem x_q055 : X.fn f_q055 = some a_q055:=by kernel_rfl
theorem c_q055 {u0 u1 v0 v1 : AV} {h h1 : Heap} {P : Post} (hp : puras h [u0,u1] = some ([v0,v1],h1)) : ACall X f_q055 [u0,u1] h P = d_q055 (ACall X) X.gl p_q055_k1 p_q055_k2 v0 v1 h1 [] (finR [.t 4] false h.length P):=by rw [call_val x_q055 rfl hp rfl]; exact e_q055
theorem x_q087 : X.fn f_q087 = some a_q087:=by kernel_rfl
theorem c_q087 {u0 u1 v0 v1 : AV} {h h1 : Heap} {P : Post} (hp : puras h [u0,u1] = some ([v0,v1],h1)) : ACall X f_q087 [u0,u1] h P = d_q087 (ACall X) X.gl v0 v1 h1 [] (finR [.t 4,.t 5] false h.length P):=by rw [call_val x_q087 rfl hp rfl]; exact e_q087
theorem x_q08j : X.fn f_q08j = some a_q08j:=by kernel_rfl
theorem c_q08j {u0 u1 u2 u3 v0 v1 v2 v3 : AV} {h h1 : Heap} {P : Post} (hp : puras h [u0,u1,u2,u3] = some ([v0,v1,v2,v3],h1)) : ACall X f_q08j [u0,u1,u2,u3] h P = d_q08j (ACall X) X.gl p_q08j_k3 v0 v1 v2 v3 h1 [] (finR [.t 8] false h.length P):=by rw [call_val x_q08j rfl hp rfl]; exact e_q08j
theorem x_q008 : X.fn f_q008 = some a_q008:=by kernel_rfl
theorem c_q008 {u0 u1 v0 v1 : AV} {h h1 : Heap} {P : Post} (hp : puras h [u0,u1] = some ([v0,v1],h1)) : ACall X f_q008 [u0,u1] h P = d_q008 (ACall X) X.gl p_q008_k1 p_q008_k2 v0 v1 h1 [] (finR [.t 4,.t 5] false h.length P):=by rw [call_val x_q008 rfl hp rfl]; exact e_q008
theorem x_q02l : X.fn f_q02l = some a_q02l:=by kernel_rfl
theorem c_q02l {u0 u1 v0 v1 : AV} {h h1 : Heap} {P : Post} (hp : puras h [u0,u1] = some ([v0,v1],h1)) : ACall X f_q02l [u0,u1] h P = d_q02l (ACall X) X.gl v0 v1 h1 [] (finR [.t 4,.t 5,.t 6] false h.length P):=by rw [call_val x_q02l rfl hp rfl]; exact e_q02l
theorem x_q08g : X.fn f_q08g = some a_q08g:=by kernel_rfl
theorem c_q08g {u0 u1 v0 v1 : AV} {h h1 : Heap} {P : Post} (hp : puras h [u0,u1] = some ([v0,v1],h1)) : ACall X f_q08g [u0,u1] h P = d_q08g (ACall X) X.gl v0 v1 h1 [] (finR [.t 4] false h.length P):=by rw [call_val x_q08g rfl hp rfl]; exact e_q08g
theorem x_q08a : X.fn f_q08a = some a_q08a:=by kernel_rfl
theorem c_q08a {u0 u1 v0 v1 : AV} {h h1 : Heap} {P : Post} (hp : puras h [u0,u1] = some ([v0,v1],h1)) : ACall X f_q08a [u0,u1] h P = d_q08a (ACall X) X.gl v0 v1 h1 [] (finR [.t 4] false h.length P):=by rw [call_val x_q08a rfl hp rfl]; exact e_q08a
theorem x_q02m : X.fn f_q02m = some a_q02m:=by kernel_rfl
theorem c_q02m {u0 u1 v0 v1 : AV} {h h1 : Heap} {P : Post} (hp : puras h [u0,u1] = some ([v0,v1],h1)) : ACall X f_q02m [u0,u1] h P = d_q02m (ACall X) X.gl v0 v1 h1 [] (finR [.t 4,.t 5] false h.length P):=by rw [call_val x_q02m rfl hp rfl]; exact e_q02m
theorem x_q08i : X.fn f_q08i = some a_q08i:=by kernel_rfl
theorem c_q08i {u0 u1 v0 v1 : AV} {h h1 : Heap} {P : Post} (hp : puras h [u0,u1] = some ([v0,v1],h1)) : ACall X f_q08i [u0,u1] h P = d_q08i (ACall X) X.gl p_q08i_k4 v0 v1 h1 [] (finR [.t 4] false h.length P):=by rw [call_val x_q08i rfl hp rfl]; exact e_q08i
theorem x_q089 : X.fn f_q089 = some a_q089:=by kernel_rfl
theorem c_q089 {u0 u1 v0 v1 : AV} {h h1 : Heap} {P : Post} (hp : puras h [u0,u1] = some ([v0,v1],h1)) : ACall X f_q089 [u0,u1] h P = d_q089 (ACall X) X.gl v0 v1 h1 [] (finR [.t 4] false h.length P):=by rw [call_val x_q089 rfl hp rfl]; exact e_q089
theorem x_q02p : X.fn f_q02p = some a_q02p:=by kernel_rfl
theorem c_q02p {u0 u1 v0 v1 : AV} {h h1 : Heap} {P : Post} (hp : puras h [u0,u1] = some ([v0,v1],h1)) : ACall X f_q02p [u0,u1] h P = d_q02p (ACall X) X.gl p_q02p_k2 p_q02p_k3 v0 v1 h1 [] (finR [.t 4] false h.length P):=by rw [call_val x_q02p rfl hp rfl]; exact e_q02p
theorem x_q02r : X.fn f_q02r = some a_q02r:=by kernel_rfl
theorem c_q02r {u0 u1 v0 v1 : AV} {h h1 : Heap} {P : Post} (hp : puras h [u0,u1] = some ([v0,v1],h1)) : ACall X f_q02r [u0,u1] h P = d_q02r (ACall X) X.gl v0 v1 h1 [] (finR [.t 4] false h.length P):=by rw [call_val x_q02r rfl hp rfl]; exact e_q02r
theorem x_q02q : X.fn f_q02q = some a_q02q:=by kernel_rfl
theorem c_q02q {u0 u1 v0 v1 : AV} {h h1 : Heap} {P : Post} (hp : puras h [u0,u1] = some ([v0,v1],h1)) : ACall X f_q02q [u0,u1] h P = d_q02q (ACall X) X.gl v0 v1 h1 [] (finR [.t 4] false h.length P):=by rw [call_val x_q02q rfl hp rfl]; exact e_q02q
theorem x_q02o : X.fn f_q02o = some a_q02o:=by kernel_rfl
theorem c_q02o {u0 u1 v0 v1 : AV} {h h1 : Heap} {P : Post} (hp : puras h [u0,u1] = some ([v0,v1],h1)) : ACall X f_q02o [u0,u1] h P = d_q02o (ACall X) X.gl v0 v1 h1 [] (finR [.t 4] false h.length P):=by rw [call_val x_q02o rfl hp rfl]; exact e_q02o
theorem x_q08y : X.fn f_q08y = some a_q08y:=by kernel_rfl
theorem c_q08y {u0 v0 : AV} {h h1 : Heap} {P : Post} (hp : puras h [u0] = some ([v0],h1)) : ACall X f_q08y [u0] h P = d_q08y (ACall X) X.gl v0 h1 [] (finR [.t 2,.t 3] false h.length P):=by rw [call_val x_q08y rfl hp rfl]; exact e_q08y
theorem x_q022 : X.fn f_q022 = some a_q022:=by kernel_rfl
theorem c_q022 {u0 v0 : AV} {h h1 : Heap} {P : Post} (hp : puras h [u0] = some ([v0],h1)) : ACall X f_q022 [u0] h P = d_q022 (ACall X) X.gl v0 h1 [] (finR [.t 2] false h.length P):=by rw [call_val x_q022 rfl hp rfl]; exact e_q022
theorem x_q023 : X.fn f_q023 = some a_q023:=by kernel_rfl
theorem c_q023 {u0 u1 v0 v1 : AV} {h h1 : Heap} {P : Post} (hp : puras h [u0,u1] = some ([v0,v1],h1)) : ACall X f_q023 [u0,u1] h P = d_q023 (ACall X) X.gl p_q023_k1 p_q023_k4 v0 v1 h1 [] (finR [.t 4] false h.length P):=by rw [call_val x_q023 rfl hp rfl]; exact e_q023
theorem x_q092 : X.fn f_q092 = some a_q092:=by kernel_rfl
theorem c_q092 {u0 v0 : AV} {h h1 : Heap} {P : Post} (hp : puras h [u0] = some ([v0],h1)) : ACall X f_q092 [u0] h P = d_q092 (ACall X) X.gl v0 h1 [] (finR [.t 2,.t 3] false h.length P):=by rw [call_val x_q092 rfl hp rfl]; exact e_q092
theorem x_q024 : X.fn f_q024 = some a_q024:=by kernel_rfl
theorem c_q024 {u0 v0 : AV} {h h1 : Heap} {P : Post} (hp : puras h [u0] = some ([v0],h1)) : ACall X f_q024 [u0] h P = d_q024 (ACall X) X.gl p_q024_k1 p_q024_k6 v0 h1 [] (finR [.t 2,.t 3] false h.length P):=by rw [call_val x_q024 rfl hp rfl]; exact e_q024
attribute [go_sem] e_q03j_k1 d_q03j_k1 e_q03s_k1 e_q03s_k2 l_q03s_k1 d_q03s_k1 d_q03s_k2 e_q05x_k1 e_q05x_k2 l_q05x_k1 d_q05x_k1 d_q05x_k2 e_q05w_k1 e_q05w_k2 l_q05w_k1 d_q05w_k1 d_q05w_k2 e_q03t_k1 e_q03t_k2 l_q03t_k1 d_q03t_k1 d_q03t_k2 e_q01g_k1 e_q01g_k2 e_q01g_k3 e_q01g_k4 e_q01g_k5 e_q01g_k6 e_q01g_k7 l_q01g_k1 l_q01g_k2 l_q01g_k5 d_q01g_k1 d_q01g_k2 d_q01g_k3 d_q01g_k4 d_q01g_k5 d_q01g_k6 d_q01g_k7 e_q04d_k1
attribute [go_sem] e_q04d_k2 l_q04d_k1 d_q04d_k1 d_q04d_k2 e_q04c_k1 e_q04c_k2 l_q04c_k1 d_q04c_k1 d_q04c_k2 e_q01a_k1 e_q01a_k2 l_q01a_k1 d_q01a_k1 d_q01a_k2 e_q015_k1 e_q015_k2 l_q015_k1 d_q015_k1 d_q015_k2 e_q013_k1 e_q013_k2 e_q013_k3 e_q013_k4 e_q013_k5 l_q013_k1 l_q013_k2 d_q013_k1 d_q013_k2 d_q013_k3 d_q013_k4 d_q013_k5 e_q03p_k1 e_q03p_k2 e_q03p_k3 d_q03p_k1 d_q03p_k2 d_q03p_k3 e_q04a_k1 e_q04a_k2 e_q04a_k3
attribute [go_sem] l_q04a_k1 d_q04a_k1 d_q04a_k2 d_q04a_k3 e_q04m_k1 e_q04m_k2 l_q04m_k1 d_q04m_k1 d_q04m_k2 e_q001_k1 e_q001_k2 l_q001_k1 d_q001_k1 d_q001_k2 e_q01r_k1 e_q01r_k2 l_q01r_k1 d_q01r_k1 d_q01r_k2 e_q04i_k1 e_q04i_k2 l_q04i_k1 d_q04i_k1 d_q04i_k2 e_q04n_k1 e_q04n_k2 l_q04n_k1 d_q04n_k1 d_q04n_k2 e_q067_k1 e_q067_k2 l_q067_k1 d_q067_k1 d_q067_k2 e_q05s_k1 e_q05s_k2 e_q05s_k3 l_q05s_k2 d_q05s_k1 d_q05s_k2
attribute [go_sem] d_q05s_k3 e_q066_k1 e_q066_k2 l_q066_k1 d_q066_k1 d_q066_k2 e_q01l_k1 e_q01l_k2 l_q01l_k1 d_q01l_k1 d_q01l_k2 e_q01t_k1 e_q01t_k2 e_q01t_k3 e_q01t_k4 e_q01t_k5 l_q01t_k1 l_q01t_k4 d_q01t_k1 d_q01t_k2 d_q01t_k3 d_q01t_k4 d_q01t_k5 e_q01w_k1 e_q01w_k2 e_q01w_k3 e_q01w_k4 e_q01w_k5 l_q01w_k1 l_q01w_k2 l_q01w_k4 d_q01w_k1 d_q01w_k2 d_q01w_k3 d_q01w_k4 d_q01w_k5 e_q01u_k1 e_q01u_k2 e_q01u_k3 e_q01u_k4
attribute [go_sem] e_q01u_k5 l_q01u_k1 l_q01u_k4 d_q01u_k1 d_q01u_k2 d_q01u_k3 d_q01u_k4 d_q01u_k5 e_q06z_k1 e_q06z_k2 e_q06z_k3 e_q06z_k4 l_q06z_k4 d_q06z_k1 d_q06z_k2 d_q06z_k3 d_q06z_k4 e_q062_k1 e_q062_k2 l_q062_k1 d_q062_k1 d_q062_k2 e_q03o_k1 d_q03o_k1 e_q03y_k1 e_q03y_k2 e_q03y_k3 e_q03y_k4 l_q03y_k1 l_q03y_k2 d_q03y_k1 d_q03y_k2 d_q03y_k3 d_q03y_k4 e_q014_k1 e_q014_k2 l_q014_k1 d_q014_k1 d_q014_k2 e_q063_k1
attribute [go_sem] e_q063_k2 l_q063_k1 d_q063_k1 d_q063_k2 e_q009_k1 e_q009_k2 l_q009_k1 d_q009_k1 d_q009_k2 e_q06k_k1 e_q06k_k2 e_q06k_k3 l_q06k_k1 l_q06k_k3 d_q06k_k1 d_q06k_k2 d_q06k_k3 e_q031_k1 e_q031_k2 e_q031_k3 d_q031_k1 d_q031_k2 d_q031_k3 e_q055_k1 e_q055_k2 l_q055_k1 d_q055_k1 d_q055_k2 e_q08j_k1 e_q08j_k2 e_q08j_k3 l_q08j_k1 d_q08j_k1 d_q08j_k2 d_q08j_k3 e_q008_k1 e_q008_k2 l_q008_k1 d_q008_k1 d_q008_k2
attribute [go_sem] e_q08i_k1 e_q08i_k2 e_q08i_k3 e_q08i_k4 l_q08i_k1 d_q08i_k1 d_q08i_k2 d_q08i_k3 d_q08i_k4 e_q02p_k1 e_q02p_k2 e_q02p_k3 l_q02p_k2 d_q02p_k1 d_q02p_k2 d_q02p_k3 e_q023_k1 e_q023_k2 e_q023_k3 e_q023_k4 l_q023_k1 l_q023_k2 d_q023_k1 d_q023_k2 d_q023_k3 d_q023_k4 e_q024_k1 e_q024_k2 e_q024_k3 e_q024_k4 e_q024_k5 e_q024_k6 l_q024_k1 l_q024_k4 d_q024_k1 d_q024_k2 d_q024_k3 d_q024_k4 d_q024_k5 d_q024_k6
end Go.Am
end
section
/- The stream of numbers out of which the laws draw. -/
open Go
namespace Go.Am
abbrev eI (n : Int) : PV:=.int .i64 n
abbrev AL (l : List Int) : AV:=.p (.sl none (l.map eI))
abbrev strm (L : List Int) (a : Int) : Obj:=.box [AL L,AI a]
def below (x n : Int) : Int:=if n < 1 then 0 else if x.tmod n < 0 then IntKind.i64.wrap (x.tmod n + n) else x.tmod n
theorem s_Below (x n : Int) (h : Heap) (K : Post) : ACall X f_q03o [AI x,AI n] h K = K (AI (below x n)) h []:=by
  refine rule ?_
  rw [c_q03o rfl]
  simp only [d_q03o,go_sem]
  unfold below
  by_cases h1 : n < 1
  · simp only [h1,if_true]
  · simp only [h1, if_false, show ¬ n = 0 by omega]
    split <;> rfl
theorem below_bd (x n : Int) (h1 : 1 ≤ n) (h2 : n ≤ 4611686018427387904) : 0 ≤ below x n ∧ below x n < n:=by
  unfold below
  rw [if_neg (by omega)]
  have:=Int.tmod_lt_of_pos x (show 0 < n by omega)
  have h3 : -n < x.tmod n:=by
    have:=Int.lt_tmod_of_pos x (show 0 < n by omega)
    exact this
  split
  · rw [i64_wrap _ (by omega) (by omega)]; omega
  · omega
def nextV (L : List Int) (a n : Int) : Int:=
  if L.length = 0 then below (IntKind.i64.wrap ((a + 1) * 7919)) n
  else below (IntKind.i64.wrap (below (L.getD (a.tmod L.length).toNat 0) 1073741824 + IntKind.i64.wrap (IntKind.i64.wrap (a.tdiv L.length) * IntKind.i64.wrap (7919 + a.tmod L.length)))) n
theorem nextV_bd (L : List Int) (a n : Int) (h1 : 1 ≤ n) (h2 : n ≤ 4611686018427387904) : 0 ≤ nextV L a n ∧ nextV L a n < n:=by
  unfold nextV
  split <;> exact below_bd _ _ h1 h2
theorem set_get' {h : Heap} {id : Nat} {o' : Obj} (hid : id < h.length) : (h.set id o')[id]? = some o':=by simp [hid]
theorem get_lt {h : Heap} {id : Nat} {o : Obj} (hh : h[id]? = some o) : id < h.length:=(List.getElem?_eq_some_iff.1 hh).1
def posN (n : Nat) (a : Int) : Prop:=0 ≤ a ∧ a + n < 4611686018427387904
theorem posN_le {n m : Nat} {a b : Int} (H : posN m a) (h : a ≤ b) (hn : b + n ≤ a + m) : posN n b:=by unfold posN at *; omega
theorem posAll {a : Int} (H : posN 14 a) : posN 0 (a) ∧ posN 0 (a + 1) ∧ posN 0 (a + 1 + 1) ∧ posN 0 (a + 1 + 1 + 1) ∧ posN 0 (a + 1 + 1 + 1 + 1) ∧ posN 0 (a + 1 + 1 + 1 + 1 + 1) ∧ posN 0 (a + 1 + 1 + 1 + 1 + 1 + 1) ∧ posN 0 (a + 1 + 1 + 1 + 1 + 1 + 1 + 1) ∧ posN 0 (a + 1 + 1 + 1 + 1 + 1 + 1 + 1 + 1) ∧ posN 0 (a + 1 + 1 + 1 + 1 + 1 + 1 + 1 + 1 + 1) ∧ posN 0 (a + 1 + 1 + 1 + 1 + 1 + 1 + 1 + 1 + 1 + 1) ∧ posN 0 (a + 1 + 1 + 1 + 1 + 1 + 1 + 1 + 1 + 1 + 1 + 1) ∧ posN 0 (a + 1 + 1 + 1 + 1 + 1 + 1 + 1 + 1 + 1 + 1 + 1 + 1) ∧ posN 0 (a + 1 + 1 + 1 + 1 + 1 + 1 + 1 + 1 + 1 + 1 + 1 + 1 + 1) ∧ posN 0 (a + 1 + 1 + 1 + 1 + 1 + 1 + 1 + 1 + 1 + 1 + 1 + 1 + 1 + 1):=by
  unfold posN at *; omega
def Gen (f : Nat) (args : List AV) (L : List Int) (a a2 : Int) (v : AV) : Prop:=∀ (h : Heap) (id : Nat) (K : Post),h[id]? = some (strm L a) → ACall X f (.ref id 0 :: args) h K = K v (h.set id (strm L a2)) []
section
variable {f : Nat} {args : List AV} {L : List Int} {a a2 : Int} {v : AV} {h l : Heap} {id : Nat} {K : Post}
theorem Gen.set (g : Gen f args L a a2 v) (hid : id < h.length) : ACall X f (.ref id 0 :: args) (h.set id (strm L a)) K = K v (h.set id (strm L a2)) []:=by
  rw [g _ _ _ (set_get' hid),List.set_set]
theorem Gen.app (g : Gen f args L a a2 v) (hid : id < h.length) : ACall X f (.ref id 0 :: args) (h.set id (strm L a) ++ l) K = K v (h.set id (strm L a2) ++ l) []:=by
  rw [g _ _ _ (by rw [get_app (by simpa using hid)]; exact set_get' hid),set_app (by simpa using hid),List.set_set]
theorem Gen.hd (g : Gen f args L a a2 v) : ACall X f (.ref 0 0 :: args) (strm L a :: l) K = K v (strm L a2 :: l) []:=by
  rw [g _ _ _ rfl]; rfl
theorem Gen.of (H : ∀ (h : Heap) (id : Nat),id < h.length → ACall X f (.ref id 0 :: args) (h.set id (strm L a)) fun v1 h1 x1=>v1 = v ∧ h1 = h.set id (strm L a2) ∧ x1 = []) : Gen f args L a a2 v:=by
  intro h id K hh
  have hid:=get_lt hh
  have : h.set id (strm L a) = h:=by
    apply List.ext_getElem?
    intro i
    rw [List.getElem?_set]
    split
    · rename_i e; subst e; rw [hh]
    · rfl
  have k:=H h id hid
  rw [this] at k
  exact rule k
end
def GenE (f : Nat) (args : List AV) (L : List Int) (a : Int) (Q : AV → Int → Prop) : Prop:=∀ (h : Heap) (id : Nat),h[id]? = some (strm L a) → ∃ v a2,Q v a2 ∧ ∀ K : Post,ACall X f (.ref id 0 :: args) h K = K v (h.set id (strm L a2)) []
section
variable {f : Nat} {args : List AV} {L : List Int} {a : Int} {Q : AV → Int → Prop}
theorem GenE.set (g : GenE f args L a Q) {h : Heap} {id : Nat} (hid : id < h.length) : ∃ v a2,Q v a2 ∧ ∀ K : Post,ACall X f (.ref id 0 :: args) (h.set id (strm L a)) K = K v (h.set id (strm L a2)) []:=by
  obtain ⟨v,a2,q,r⟩:=g _ _ (set_get' hid)
  exact ⟨v,a2,q,fun K=>by rw [r,List.set_set]⟩
theorem GenE.app (g : GenE f args L a Q) {h l : Heap} {id : Nat} (hid : id < h.length) : ∃ v a2,Q v a2 ∧ ∀ K : Post,ACall X f (.ref id 0 :: args) (h.set id (strm L a) ++ l) K = K v (h.set id (strm L a2) ++ l) []:=by
  obtain ⟨v,a2,q,r⟩:=g (h.set id (strm L a) ++ l) id (by rw [get_app (by simpa using hid)]; exact set_get' hid)
  exact ⟨v,a2,q,fun K=>by rw [r,set_app (by simpa using hid),List.set_set]⟩
theorem GenE.hd (g : GenE f args L a Q) {l : Heap} : ∃ v a2,Q v a2 ∧ ∀ K : Post,ACall X f (.ref 0 0 :: args) (strm L a :: l) K = K v (strm L a2 :: l) []:=g (strm L a :: l) 0 rfl
theorem GenE.of (H : ∀ (h : Heap) (id : Nat),id < h.length → ACall X f (.ref id 0 :: args) (h.set id (strm L a)) fun v1 h1 x1=>∃ a2,Q v1 a2 ∧ h1 = h.set id (strm L a2) ∧ x1 = []) : GenE f args L a Q:=by
  intro h id hh
  have hid:=get_lt hh
  have : h.set id (strm L a) = h:=by
    apply List.ext_getElem?
    intro i
    rw [List.getElem?_set]
    split
    · rename_i e; subst e; rw [hh]
    · rfl
  have k:=H h id hid
  rw [this] at k
  obtain ⟨v,h',x,⟨a2,q,e1,e2⟩,r⟩:=ACall.one X_noNext k
  subst e1; subst e2
  exact ⟨v,a2,q,r⟩
end
def pickV (l : List Int) (L : List Int) (a : Int) : Int:=l.getD (nextV L a l.length).toNat 0
theorem pickV_mem {l L : List Int} {a : Int} (hl : 0 < l.length) (hl2 : l.length < 4611686018427387904) : pickV l L a ∈ l:=by
  obtain ⟨b1,b2⟩:=nextV_bd L a l.length (by omega) (by omega)
  unfold pickV
  have : (nextV L a l.length).toNat < l.length:=by omega
  simp only [List.getD,List.getElem?_eq_getElem this,Option.getD_some]
  exact List.getElem_mem _
def isI : PV → Bool
  | .int .i64 _=>true
  | _=>false
def unI : PV → Int
  | .int _ n=>n
  | _=>0
theorem unI_map {xs : List PV} (h : xs.all isI = true) : xs = (xs.map unI).map eI:=by
  induction xs with
  | nil=>rfl
  | cons x r ih=>
    simp only [List.all_cons,Bool.and_eq_true] at h
    simp only [List.map_cons]
    rw [← ih h.2]
    cases x with
    | int k n=>cases k <;> first | rfl | cases h.1
    | _=>cases h.1
set_option maxHeartbeats 400000 in
theorem g_Next (L : List Int) (a n : Int) (hp : posN 0 a) : Gen f_q03w [AI n] L a (a + 1) (AI (nextV L a n)):=by
  refine Gen.of fun h id hid=>?_
  rw [c_q03w rfl]
  obtain ⟨h0,h1⟩:=hp
  have w1 : IntKind.i64.wrap (a + 1) = a + 1:=i64_wrap _ (by omega) (by omega)
  have w2 : IntKind.i64.wrap (a + 1 - 1) = a:=by rw [i64_wrap _ (by omega) (by omega)]; omega
  have hs : ∀ o',(h.set id o')[id]? = some o':=fun o'=>set_get' hid
  rcases Nat.eq_zero_or_pos L.length with hl | hl
  · simp only [d_q03w, go_sem, hs, s_Below, hl, w1]
    simp only [nextV,hl,if_true]
  · have e1 : ((L.length : Int) = 0) = False := by simp only [eq_iff_iff, iff_false]; omega
    have e2 : 0 ≤ a.tmod L.length:=Int.tmod_nonneg _ h0
    have e3 : a.tmod L.length < L.length:=Int.tmod_lt_of_pos _ (by omega)
    have e4:=natOf_int (k:=.i64) e2
    have e5 : (L.map eI)[(a.tmod L.length).toNat]? = some (eI (L.getD (a.tmod L.length).toNat 0)):=by
      rw [map_get eI (show (a.tmod L.length).toNat < L.length by omega)]
      simp [List.getD,show (a.tmod L.length).toNat < L.length by omega]
    simp only [d_q03w,go_sem,hs,s_Below,e1,w1,w2,e4,e5]
    simp only [nextV,show ¬ L.length = 0 by omega,if_false]
section
variable {L : List Int} {a : Int} {h l : Heap} {id : Nat} {K : Post}
theorem s_Next_set (hid : id < h.length) (hp : posN 0 a) (n : Int) : ACall X f_q03w [.ref id 0,AI n] (h.set id (strm L a)) K = K (AI (nextV L a n)) (h.set id (strm L (a + 1))) []:=(g_Next L a n hp).set hid
theorem s_Next_app (hid : id < h.length) (hp : posN 0 a) (n : Int) : ACall X f_q03w [.ref id 0,AI n] (h.set id (strm L a) ++ l) K = K (AI (nextV L a n)) (h.set id (strm L (a + 1)) ++ l) []:=(g_Next L a n hp).app hid
theorem s_Next_hd (hp : posN 0 a) (n : Int) : ACall X f_q03w [.ref 0 0,AI n] (strm L a :: l) K = K (AI (nextV L a n)) (strm L (a + 1) :: l) []:=(g_Next L a n hp).hd
theorem g_Flip (hp : posN 0 a) (n : Int) : Gen f_q03u [AI n] L a (a + 1) (AB (decide (nextV L a n = 0))):=by
  refine Gen.of fun h id hid=>?_
  rw [c_q03u rfl]
  simp only [d_q03u,go_sem,s_Next_set hid hp]
theorem s_Flip_set (hid : id < h.length) (hp : posN 0 a) (n : Int) : ACall X f_q03u [.ref id 0,AI n] (h.set id (strm L a)) K = K (AB (decide (nextV L a n = 0))) (h.set id (strm L (a + 1))) []:=(g_Flip hp n).set hid
theorem s_Flip_app (hid : id < h.length) (hp : posN 0 a) (n : Int) : ACall X f_q03u [.ref id 0,AI n] (h.set id (strm L a) ++ l) K = K (AB (decide (nextV L a n = 0))) (h.set id (strm L (a + 1)) ++ l) []:=(g_Flip hp n).app hid
theorem s_Flip_hd (hp : posN 0 a) (n : Int) : ACall X f_q03u [.ref 0 0,AI n] (strm L a :: l) K = K (AB (decide (nextV L a n = 0))) (strm L (a + 1) :: l) []:=(g_Flip hp n).hd
theorem g_Pick (hp : posN 0 a) (xs : List PV) (hx : xs.all isI = true) (hl : 0 < xs.length) (hl2 : xs.length < 4611686018427387904) :
    Gen f_q03z [.p (.sl none xs)] L a (a + 1) (AI (pickV (xs.map unI) L a)):=by
  refine Gen.of fun h id hid=>?_
  rw [c_q03z rfl]
  obtain ⟨b1,b2⟩:=nextV_bd L a xs.length (by omega) (by omega)
  have e4:=natOf_int (k:=.i64) b1
  have e5 : xs[(nextV L a xs.length).toNat]? = some (eI (pickV (xs.map unI) L a)):=by
      have hm:=unI_map hx
      generalize hq : xs.map unI = q at *
      subst hm
      simp only [List.length_map] at *
      rw [map_get eI (show (nextV L a q.length).toNat < q.length by omega)]
      simp [pickV,List.getD,show (nextV L a q.length).toNat < q.length by omega]
  simp only [d_q03z,go_sem,s_Next_set hid hp,e4,e5]
theorem s_Pick_set (hid : id < h.length) (hp : posN 0 a) {xs : List PV} (hx : xs.all isI = true) (hl : 0 < xs.length) (hl2 : xs.length < 4611686018427387904) :
    ACall X f_q03z [.ref id 0,.p (.sl none xs)] (h.set id (strm L a)) K = K (AI (pickV (xs.map unI) L a)) (h.set id (strm L (a + 1))) []:=(g_Pick hp xs hx hl hl2).set hid
theorem s_Pick_app (hid : id < h.length) (hp : posN 0 a) {xs : List PV} (hx : xs.all isI = true) (hl : 0 < xs.length) (hl2 : xs.length < 4611686018427387904) :
    ACall X f_q03z [.ref id 0,.p (.sl none xs)] (h.set id (strm L a) ++ l) K = K (AI (pickV (xs.map unI) L a)) (h.set id (strm L (a + 1)) ++ l) []:=(g_Pick hp xs hx hl hl2).app hid
theorem s_Pick_hd (hp : posN 0 a) {xs : List PV} (hx : xs.all isI = true) (hl : 0 < xs.length) (hl2 : xs.length < 4611686018427387904) :
    ACall X f_q03z [.ref 0 0,.p (.sl none xs)] (strm L a :: l) K = K (AI (pickV (xs.map unI) L a)) (strm L (a + 1) :: l) []:=(g_Pick hp xs hx hl hl2).hd
def rangeV (u v : Int) (L : List Int) (a : Int) : Int:=u + nextV L a (v - u + 1)
theorem rangeV_bd {u v : Int} (L : List Int) (a : Int) (h1 : u ≤ v) (h2 : v ≤ u + 4611686018427387900) : u ≤ rangeV u v L a ∧ rangeV u v L a ≤ v:=by
  have:=nextV_bd L a (v - u + 1) (by omega) (by omega)
  unfold rangeV; omega
theorem g_Range (hp : posN 0 a) (u v : Int) (huv : u ≤ v) (hu : -1152921504606846976 ≤ u) (hv : v ≤ 1152921504606846976) :
    Gen f_q040 [AI u,AI v] L a (a + 1) (AI (rangeV u v L a)):=by
  refine Gen.of fun h id hid=>?_
  rw [c_q040 rfl]
  obtain ⟨b1,b2⟩:=rangeV_bd L a huv (by omega)
  have w1 : IntKind.i64.wrap (v - u) = v - u:=i64_wrap _ (by omega) (by omega)
  have w2 : IntKind.i64.wrap (v - u + 1) = v - u + 1:=i64_wrap _ (by omega) (by omega)
  have w3 : IntKind.i64.wrap (u + nextV L a (v - u + 1)) = rangeV u v L a:=i64_wrap (rangeV u v L a) (by omega) (by omega)
  simp only [d_q040,go_sem,show ¬ v < u by omega,w1,w2,s_Next_set hid hp,w3]
theorem s_Range_set (hid : id < h.length) (hp : posN 0 a) {u v : Int} (huv : u ≤ v) (hu : -1152921504606846976 ≤ u) (hv : v ≤ 1152921504606846976) :
    ACall X f_q040 [.ref id 0,AI u,AI v] (h.set id (strm L a)) K = K (AI (rangeV u v L a)) (h.set id (strm L (a + 1))) []:=(g_Range hp u v huv hu hv).set hid
theorem s_Range_app (hid : id < h.length) (hp : posN 0 a) {u v : Int} (huv : u ≤ v) (hu : -1152921504606846976 ≤ u) (hv : v ≤ 1152921504606846976) :
    ACall X f_q040 [.ref id 0,AI u,AI v] (h.set id (strm L a) ++ l) K = K (AI (rangeV u v L a)) (h.set id (strm L (a + 1)) ++ l) []:=(g_Range hp u v huv hu hv).app hid
theorem s_Range_hd (hp : posN 0 a) {u v : Int} (huv : u ≤ v) (hu : -1152921504606846976 ≤ u) (hv : v ≤ 1152921504606846976) :
    ACall X f_q040 [.ref 0 0,AI u,AI v] (strm L a :: l) K = K (AI (rangeV u v L a)) (strm L (a + 1) :: l) []:=(g_Range hp u v huv hu hv).hd
end
attribute [go_sem ↓] s_Next_set s_Next_app s_Next_hd s_Flip_set s_Flip_app s_Flip_hd s_Pick_set s_Pick_app s_Pick_hd s_Range_set s_Range_app s_Range_hd
attribute [go_sem] s_Next_set s_Next_app s_Next_hd s_Flip_set s_Flip_app s_Flip_hd s_Pick_set s_Pick_app s_Pick_hd s_Range_set s_Range_app s_Range_hd isI unI
end Go.Am
end
section
/- Plain laws of fractions in lowest terms. -/
namespace Go.Am
end Go.Am
end
section
/- Small functions of numbers and of lists of numbers. -/
open Go
namespace Go.Am
variable {h : Heap} {K : Post}
theorem s_Out (n a b : Int) : ACall X f_q00a [AI n,AI a,AI b] h K = K (AB (decide (n < a) || decide (b < n))) h []:=by
  refine rule ?_
  rw [c_q00a rfl]
  by_cases h1 : n < a <;> simp only [d_q00a,go_sem,h1]
theorem s_in (n a b : Int) : ACall X f_q054 [AI n,AI a,AI b] h K = K (AB (decide (a ≤ n) && decide (n ≤ b))) h []:=by
  refine rule ?_
  rw [c_q054 rfl]
  by_cases h1 : a ≤ n <;> simp only [d_q054,go_sem,h1]
theorem u64_wrap (n : Int) (h1 : 0 ≤ n) (h2 : n < 18446744073709551616) : IntKind.u64.wrap n = n:=by
  simp [IntKind.wrap,IntKind.bits,IntKind.signed]; omega
abbrev AU (n : Int) : AV:=.p (.int .u64 n)
end Go.Am
end
section
/- Functions of lists. -/
open Go
namespace Go.Am
variable {h : Heap} {K : Post}
theorem s_isNaN (a : Int) : ACall X f_q00z [AI a] h K = K (AB false) h []:=by
  refine rule ?_
  rw [c_q00z rfl]
  simp only [d_q00z,go_sem]
theorem s_EqualI (l m : List Int) (hl : l.length ≤ 1000000000) : ACall X f_q05x [AL l,AL m] h K = K (AB (decide (l = m))) h []:=by
  refine rule ?_
  rw [c_q05x rfl]
  by_cases hlen : l.length = m.length
  · simp only [d_q05x, go_sem, hlen]
    refine N_loop (fun k : Nat=>⟨[(0,AL l),(1,AL m),(12,AI m.length),(13,AI k)],h,[]⟩) (fun k=>k ≤ m.length ∧ l.take k = m.take k) (fun k=>m.length - k) 0 rfl (by simp) ?_
    rintro k ⟨hk,hp⟩
    rcases Nat.lt_or_ge k m.length with hlt | hge
    · have hg1 := map_get eI (show k < l.length by omega)
      have hg2:=map_get eI hlt
      have w2 : IntKind.i64.wrap ((k : Int) + 1) = ((k + 1 : Nat) : Int):=i64_wrap _ (by omega) (by omega)
      by_cases he : l[k] = m[k]
      · simp only [go_sem, hlt, hg1, hg2, w2, he]
        exact ⟨k + 1,rfl,⟨by omega,by rw [List.take_succ_eq_append_getElem (by omega),List.take_succ_eq_append_getElem hlt,hp,he]⟩,by omega⟩
      · simp only [go_sem, hlt, hg1, hg2, w2, he]
        have : ¬ l = m:=fun h=>he (by simp only [h])
        simp [this]
    · have e1 : k = m.length := by omega
      have e2 : l = m:=by rw [← List.take_length (l:=l),← List.take_length (l:=m),hlen,← e1,hp]
      subst e1
      simp only [go_sem,Nat.lt_irrefl]
      simp [e2]
  · have e1 : ((l.length : Int) = m.length) = False := by simp only [eq_iff_iff, iff_false]; omega
    simp only [d_q05x,go_sem,e1]
    have : ¬ l = m:=fun h=>hlen (by rw [h])
    simp [this]
def Tells (g : Nat) (caps : List AV) (p : PV → Bool) (xs : List PV) (h : Heap) : Prop:=∀ x ∈ xs,∀ K : Post,ACall X g (.p x :: caps) h K = K (AB (p x)) h []
def idxP (p : PV → Bool) (xs : List PV) : Int:=if xs.findIdx p < xs.length then (xs.findIdx p : Int) else -1
theorem idxP_any (p : PV → Bool) (xs : List PV) : decide (0 ≤ idxP p xs) = xs.any p:=by
  unfold idxP
  rw [Bool.eq_iff_iff]
  by_cases h : xs.findIdx p < xs.length
  · rw [if_pos h]; simp only [decide_eq_true_eq, List.any_eq_true]
    exact ⟨fun _=>⟨_,List.getElem_mem h,List.findIdx_getElem⟩,fun _=>by omega⟩
  · rw [if_neg h]; simp only [decide_eq_true_eq, List.any_eq_true]
    refine ⟨fun h=>by omega,fun ⟨x,hx,hp⟩=>absurd (List.findIdx_lt_length_of_exists ⟨x,hx,hp⟩) h⟩
end Go.Am
end
section
/- Values of a shape: loads and stores in rows. -/
open Go
namespace Go.Am
variable {h : Heap} {K : Post}
theorem shp_cut {sh : Sh} {x : PV} (hx : x.shp sh = true) : cutP sh 0 x = some x:=by
  cases sh with
  | none=>exact cutP_sc hx
  | some n=>
    cases x with
    | agg cs=>
      simp only [PV.shp,Bool.and_eq_true,beq_iff_eq] at hx
      simp [cutP,hx.1]
      exact List.take_of_length_le (by omega)
    | _=>cases hx
theorem shp_len {sh : Sh} {x : PV} (hx : x.shp sh = true) : x.cells.length = shSize sh:=by
  cases sh with
  | none=>cases x <;> first | rfl | cases hx
  | some n=>
    cases x with
    | agg cs=>simp only [PV.shp,Bool.and_eq_true,beq_iff_eq] at hx; exact hx.1
    | _=>cases hx
theorem shp_all {sh : Sh} {x : PV} (hx : x.shp sh = true) : x.cells.all PV.sc = true:=by
  cases sh with
  | none=>cases x <;> first | rfl | cases hx
  | some n=>
    cases x with
    | agg cs=>simp only [PV.shp,Bool.and_eq_true,beq_iff_eq] at hx; exact hx.2
    | _=>cases hx
theorem shp_st {sh : Sh} {x y : PV} (hx : x.shp sh = true) (hy : y.shp sh = true) (id i fz : Nat) (xs : List PV) (h1 : Heap) : stE sh id i 0 fz sh xs x h1 (some y) = some (.und,h1.set id (.row sh (xs.set i x) fz),[]):=by
  cases sh with
  | none=>
    cases y with
    | agg cs=>cases hy
    | _=>simp only [PV.shp] at hx; simp [stE,hx]
  | some n=>
    cases y with
    | agg cs=>
      cases x with
      | agg ds=>
        simp only [PV.shp,Bool.and_eq_true,beq_iff_eq] at hx hy
        simp [stE,PV.cells,splice,hx.1,hy.1,show cs.drop n = [] from List.drop_of_length_le (by omega)]
      | _=>cases hx
    | _=>cases hy
def shps (sh : Sh) (xs : List PV) : Prop:=∀ x ∈ xs,x.shp sh = true
theorem shps_get {sh : Sh} {xs : List PV} (hx : shps sh xs) {i : Nat} (hi : i < xs.length) : xs[i].shp sh = true:=hx _ (List.getElem_mem hi)
theorem set_self {h : Heap} {id : Nat} {o : Obj} (hh : h[id]? = some o) : h.set id o = h:=by
  apply List.ext_getElem?
  intro i
  rw [List.getElem?_set]
  split
  · rename_i e; subst e; rw [hh]; simp [get_lt hh]
  · rfl
structure Shows (sh : Sh) (v : AV) (xs : List PV) (h : Heap) : Prop where
  len : oLen v = some (AI xs.length)
  get : ∀ (k : Nat) (hk : k < xs.length),∃ a,oIaddr sh v (AI k) h = some a ∧ oLoad sh a h = some (.p xs[k])
theorem shows_sl {sh : Sh} {xs : List PV} (hs : shps sh xs) : Shows sh (.p (.sl sh xs)) xs h:=by
  refine ⟨rfl,fun k hk=>⟨.vp xs[k],?_,?_⟩⟩
  · simp [oIaddr,natOf,hk]
  · simp only [load_vp,shp_cut (shps_get hs hk)]; rfl
theorem shows_own {sh : Sh} {id off len fz : Nat} {xs : List PV} (hs : shps sh xs) (hh : h[id]? = some (.row sh xs fz)) (hl : off + len ≤ xs.length) : Shows sh (.own id xs.length off len) (win xs off len) h:=by
  have hw : (win xs off len).length = len:=by simp [win]; omega
  refine ⟨by rw [hw]; rfl,fun k hk=>⟨.rref id xs.length (off + k) 0,?_,?_⟩⟩
  · rw [hw] at hk
    simp [oIaddr,natOf,hh,hl,hk]
  · have hk' : off + k < xs.length := by rw [hw] at hk; omega
    have e : (win xs off len)[k] = xs[off + k]:=by simp [win]
    rw [e]
    simp only [load_rref,hh,ldR_row,if_true,List.getElem?_eq_getElem hk',Option.bind_some,shp_cut (shps_get hs hk'),Option.map_some]
theorem shows_full {sh : Sh} {id fz : Nat} {xs : List PV} (hs : shps sh xs) (hh : h[id]? = some (.row sh xs fz)) : Shows sh (.own id xs.length 0 xs.length) xs h:=by
  have:=shows_own hs hh (off:=0) (len:=xs.length) (by omega)
  rwa [win_all] at this
def TellsX (g : Nat) (caps : List AV) (p : PV → Bool) (xs : List PV) (id : Nat) (h : Heap) : Prop:=∀ (o : Obj) (t : Heap) (x : PV),x ∈ xs → ∀ K : Post,ACall X g (.p x :: caps) (h.set id o ++ t) K = K (AB (p x)) (h.set id o ++ t) []
theorem shp_agg {n : Nat} {x : PV} (hx : x.shp (some n) = true) : ∃ cs,x = .agg cs ∧ cs.length = n ∧ cs.all PV.sc = true:=by
  cases x with
  | agg cs=>simp only [PV.shp,Bool.and_eq_true,beq_iff_eq] at hx; exact ⟨cs,rfl,hx.1,hx.2⟩
  | _=>cases hx
theorem unp_pmap : ∀ cs : List PV,unp (cs.map AV.p) = some cs
  | []=>rfl
  | c :: cs=>by simp [unp,unp_pmap cs]
theorem cut_map {n : Nat} {cs : List PV} (h : cs.length = n) : cut (some n) 0 (cs.map AV.p) = some (.p (.agg cs)):=by
  unfold cut
  simp only [List.length_map,h,Nat.zero_add,Nat.le_refl,if_true,List.drop_zero]
  rw [List.take_of_length_le (by simp [h])]
  unfold mkA
  rw [unp_pmap]
end Go.Am
end
section
/- Strings: keys,the library's functions without text. -/
open Go
set_option linter.unusedSimpArgs false
namespace Go.Am
variable {h : Heap} {K : Post}
abbrev AS (s : List UInt8) : AV:=.p (.str s)
theorem X_ext : X.ext = extF f_internal_bytealg_IndexByteString f_internal_bytealg_abigen_runtime_cmpstring:=rfl
theorem s_idxExt (s : List UInt8) (c : UInt8) : ACall X f_internal_bytealg_IndexByteString [AS s,.p (.int .u8 c.toNat)] h K = K (AI (idxB s c)) h []:=by
  have:=ext_call (X:=X) (f:=f_internal_bytealg_IndexByteString) (asv:=[AS s,.p (.int .u8 c.toNat)]) (vs:=[.str s,.int .u8 c.toNat]) (h:=h) (h1:=h) (r:=.int .i64 (idxB s c)) (K:=K) (by kernel_rfl) rfl rfl rfl ?_
  · exact this
  · rw [X_ext]
    unfold extF
    rw [show Nat.beq f_internal_bytealg_IndexByteString f_internal_bytealg_IndexByteString = true from by kernel_rfl]
    simp
theorem s_IndexByte (s : List UInt8) (c : UInt8) : ACall X f_q08a [AS s,.p (.int .u8 c.toNat)] h K = K (AI (idxB s c)) h []:=by
  have key : ∀ (h : Heap) (K : Post),ACall X f_q02q [AS s,.p (.int .u8 c.toNat)] h K = K (AI (idxB s c)) h []:=by
    intro h K
    refine rule ?_
    rw [c_q02q rfl]
    simp only [d_q02q,go_sem,s_idxExt]
  refine rule ?_
  rw [c_q08a rfl]
  simp only [d_q08a,go_sem,key]
theorem idxB_neg (s : List UInt8) (c : UInt8) : decide (idxB s c < 0) = !s.contains c:=by
  unfold idxB
  rw [Bool.eq_iff_iff]
  by_cases hf : s.findIdx (· == c) < s.length
  · rw [if_pos hf]
    have:=List.findIdx_getElem (w:=hf)
    simp only [beq_iff_eq] at this
    have hm : c ∈ s:=by rw [← this]; exact List.getElem_mem hf
    simp [hm]
  · rw [if_neg hf]
    have hm : ¬ c ∈ s:=fun hm=>hf (List.findIdx_lt_length_of_exists ⟨c,hm,by simp⟩)
    simp [hm]
theorem s_only (s t : List UInt8) (hl : s.length ≤ 1000000000) : ACall X f_q055 [AS s,AS t] h K = K (AB (s.all fun c=>t.contains c)) h []:=by
  refine rule ?_
  rw [c_q055 rfl]
  simp only [d_q055,go_sem]
  refine N_loop (fun k : Nat=>⟨[(0,AS s),(1,AS t),(7,AI s.length),(8,AI k)],h,[]⟩) (fun k=>k ≤ s.length ∧ (s.take k).all (fun c=>t.contains c) = true) (fun k=>s.length - k) 0 rfl ⟨by omega,rfl⟩ ?_
  rintro k ⟨hk,hp⟩
  rcases Nat.lt_or_ge k s.length with hlt | hge
  · have hg : s[k]? = some s[k] := List.getElem?_eq_getElem hlt
    have w2 : IntKind.i64.wrap ((k : Int) + 1) = ((k + 1 : Nat) : Int):=i64_wrap _ (by omega) (by omega)
    have hi:=idxB_neg t s[k]
    by_cases hc : idxB t s[k] < 0
    · have : s.all (fun c=>t.contains c) = false:=by
        rw [List.all_eq_false]
        refine ⟨_,List.getElem_mem hlt,?_⟩
        rw [decide_eq_true hc] at hi
        cases hq : t.contains s[k] with
        | true=>rw [hq] at hi; cases hi
        | false=>simp
      simp only [go_sem,hlt,hg,s_IndexByte,hc,this]
    · rw [decide_eq_false hc] at hi
      have hq : t.contains s[k] = true:=by cases hq : t.contains s[k] with | true=>rfl | false=>rw [hq] at hi; cases hi
      simp only [go_sem,hlt,hg,s_IndexByte,hc,w2]
      exact ⟨k + 1,rfl,⟨by omega,by rw [List.take_succ_eq_append_getElem hlt,List.all_append,hp]; simp only [List.all_cons,List.all_nil,hq]; rfl⟩,by omega⟩
  · have ek : k = s.length := by omega
    subst ek
    rw [List.take_length] at hp
    simp only [go_sem,Nat.lt_irrefl,hp]
end Go.Am
end
section
/- Where a byte stands in a text. -/
open Go
set_option linter.all false
namespace Go.Am
variable {h : Heap} {K : Post}
theorem s_slIndexByte (s : List UInt8) (c : UInt8) : ACall X f_q02q [AS s,.p (.int .u8 c.toNat)] h K = K (AI (idxB s c)) h []:=by
  refine rule ?_
  rw [c_q02q rfl]
  simp only [d_q02q,go_sem,s_idxExt]
theorem idxB_at (a b : List UInt8) (c : UInt8) (ha : c ∉ a) : idxB (a ++ c :: b) c = (a.length : Int):=by
  unfold idxB
  have h1 : (a ++ c :: b).findIdx (· == c) = a.length:=by
    rw [List.findIdx_append]
    have : a.findIdx (· == c) = a.length:=by
      rw [List.findIdx_eq_length]
      intro x hx
      simp
      intro e; subst e; exact ha hx
    rw [this,if_neg (by omega)]
    simp [List.findIdx_cons]
  rw [h1,if_pos (by simp)]
attribute [-go_sem] e_q02p_k1 e_q02p_k2 e_q02p_k3 d_q02p_k1 d_q02p_k2 d_q02p_k3
end Go.Am
end
section
/- Lengths of numbers in bits,and comparisons of plain values. -/
open Go
namespace Go.Am
variable {h : Heap} {K : Post}
set_option maxRecDepth 20000
theorem tab_get (k : Nat) (hk : k < 256) : ∃ b,([0,1,2,2,3,3,3,3,4,4,4,4,4,4,4,4,5,5,5,5,5,5,5,5,5,5,5,5,5,5,5,5,6,6,6,6,6,6,6,6,6,6,6,6,6,6,6,6,6,6,6,6,6,6,6,6,6,6,6,6,6,6,6,6,7,7,7,7,7,7,7,7,7,7,7,7,7,7,7,7,7,7,7,7,7,7,7,7,7,7,7,7,7,7,7,7,7,7,7,7,7,7,7,7,7,7,7,7,7,7,7,7,7,7,7,7,7,7,7,7,7,7,7,7,7,7,7,7,8,8,8,8,8,8,8,8,8,8,8,8,8,8,8,8,8,8,8,8,8,8,8,8,8,8,8,8,8,8,8,8,8,8,8,8,8,8,8,8,8,8,8,8,8,8,8,8,8,8,8,8,8,8,8,8,8,8,8,8,8,8,8,8,8,8,8,8,8,8,8,8,8,8,8,8,8,8,8,8,8,8,8,8,8,8,8,8,8,8,8,8,8,8,8,8,8,8,8,8,8,8,8,8,8,8,8,8,8,8,8,8,8,8,8,8,8,8,8,8,8,8,8,8,8,8,8,8] : List UInt8)[k]? = some b:=⟨_,List.getElem?_eq_getElem (Nat.lt_of_lt_of_eq hk (by kernel_rfl))⟩
theorem len_any (x : Int) (h0 : 0 ≤ x) (h1 : x < 256) : ∃ m : Int,∀ (h : Heap) (K : Post),ACall X f_q02z [AU x] h K = K (AI m) h []:=by
  obtain ⟨b,hb⟩:=tab_get x.toNat (by omega)
  refine ⟨IntKind.i64.wrap (0 + IntKind.i64.wrap b.toNat),fun h K=>?_⟩
  have w : IntKind.u8.wrap x = x:=by simp [IntKind.wrap,IntKind.bits,IntKind.signed]; omega
  have b1 : ¬ (4294967296 ≤ x):=by omega
  have b2 : ¬ (65536 ≤ x):=by omega
  have b3 : ¬ (256 ≤ x):=by omega
  have hn:=natOf_int (k:=.u8) h0
  have key : ∀ (h : Heap) (K : Post),ACall X f_q031 [AU x] h K = K (AI (IntKind.i64.wrap (0 + IntKind.i64.wrap b.toNat))) h []:=by
    intro h K
    refine rule ?_
    rw [c_q031 rfl]
    simp only [d_q031,go_sem,b1,b2,b3,w,hn,hb]
  refine rule ?_
  rw [c_q02z rfl]
  simp only [d_q02z,go_sem,key]
theorem s_Less (a b : Int) : ACall X f_q00w [AI a,AI b] h K = K (AB (decide (a < b))) h []:=by
  refine rule ?_
  rw [c_q00w rfl]
  simp only [d_q00w,go_sem,s_isNaN]
def ltI (a b : Int) : Bool:=decide (a < b)
def ltP (a b : PV) : Bool:=match a,b with
  | .int _ a,.int _ b=>decide (a < b)
  | _,_=>false
theorem less_eI {l : List Int} : ∀ x ∈ l.map eI,∀ y ∈ l.map eI,∀ (h : Heap) (K : Post),ACall X f_q00w [.p x,.p y] h K = K (AB (ltP x y)) h []:=by
  intro x hx y hy h K
  obtain ⟨a,_,rfl⟩:=List.mem_map.1 hx
  obtain ⟨b,_,rfl⟩:=List.mem_map.1 hy
  exact s_Less a b
theorem shps_eI {l : List Int} : shps none (l.map eI):=fun x hx=>by obtain ⟨n,_,rfl⟩:=List.mem_map.1 hx; rfl
end Go.Am
end
section
/- Maps,asv lists of keys with values. -/
open Go
set_option linter.all false
namespace Go.Am
section
variable {α β : Type} [DecidableEq α]
variable {key : α → PV} {val : β → AV}
variable {h : Heap} {id : Nat} {l : List (α × β)} {kk : Sh × List Nat} {k : α}
end
end Go.Am
end
section
/- Lists of strings sorted,left out: printed by program. -/
open Go
set_option linter.unusedSimpArgs false
namespace Go.Am
attribute [-go_sem] PV.cells splice
variable {h : Heap} {K : Post}
end Go.Am
end
section
/- Finding values in lists: printed by program. -/
open Go
set_option linter.unusedSimpArgs false
namespace Go.Am
attribute [-go_sem] PV.cells
variable {h : Heap} {K : Post}
theorem IndexFunc_int {v : AV} {g : Nat} {caps : List AV} {p : PV → Bool} {xs : List PV} (hv : Shows none v xs h) (hp : Tells g caps p xs h) (hl : xs.length ≤ 1000000000) :
    ACall X f_q063 [v,.fn g caps] h K = K (AI (idxP p xs)) h []:=by
  refine rule ?_
  rw [c_q063]
  have vl:=hv.len
  simp only [d_q063,go_sem,vl]
  refine N_loop (fun k : Nat=>⟨[(0,v),(1,.fn g caps),(7,AI xs.length),(8,AI k)],h,[]⟩) (fun k=>k ≤ xs.length ∧ ∀ x ∈ xs.take k,p x = false) (fun k=>xs.length - k) 0 rfl (by simp) ?_
  rintro k ⟨hk,hn⟩
  rcases Nat.lt_or_ge k xs.length with hlt | hge
  · obtain ⟨a, ha, hb⟩ := hv.get k hlt
    have w2 : IntKind.i64.wrap ((k : Int) + 1) = ((k + 1 : Nat) : Int):=i64_wrap _ (by omega) (by omega)
    have ht:=hp _ (List.getElem_mem hlt)
    cases hpk : p xs[k] with
    | true=>
      have hf : xs.findIdx p = k:=by
        rw [List.findIdx_eq hlt]
        refine ⟨hpk,fun j hj=>?_⟩
        have:=hn xs[j] (by rw [List.mem_take_iff_getElem]; exact ⟨j,by omega,rfl⟩)
        simpa using this
      simp only [go_sem,hlt,ha,hb,ht,hpk,w2]
      simp only [idxP,hf,hlt,if_true]
    | false=>
      simp only [go_sem,hlt,ha,hb,ht,hpk,w2]
      refine ⟨k + 1,rfl,⟨by omega,fun x hx=>?_⟩,by omega⟩
      rw [List.take_succ_eq_append_getElem hlt,List.mem_append,List.mem_singleton] at hx
      rcases hx with hx | hx
      · exact hn x hx
      · rw [hx]; exact hpk
  · have e1 : k = xs.length := by omega
    subst e1
    simp only [go_sem,Nat.lt_irrefl]
    rw [List.take_length] at hn
    have : ¬ xs.findIdx p < xs.length:=by
      rw [Nat.not_lt,Nat.le_iff_lt_or_eq]; right
      exact (List.findIdx_eq_length.2 (fun x hx=>by simp [hn x hx])).symm
    simp [idxP,this]
theorem ContainsFunc_int {g : Nat} {caps : List AV} {p : PV → Bool} {xs : List PV} (hp : Tells g caps p xs h) (hs : shps none xs) (hl : xs.length ≤ 1000000000) :
    ACall X f_q05o [.p (.sl none xs),.fn g caps] h K = K (AB (xs.any p)) h []:=by
  refine rule ?_
  rw [c_q05o]
  have vi:=fun K=>IndexFunc_int (h:=h) (K:=K) (shows_sl hs) hp hl
  simp only [d_q05o,go_sem,vi,idxP_any]
end Go.Am
end
section
/- Limits: what they are,what is wrong with them. -/
open Go
namespace Go.Am
variable {h : Heap} {K : Post}
structure Lim where
  key : List UInt8
  lo : Int
  hi : Int
  bin : Int
def Lim.pv (x : Lim) : PV:=.agg [.str x.key,eI x.lo,eI x.hi,eI x.bin]
def inB (a n b : Int) : Bool:=decide (a ≤ n) && decide (n ≤ b)
end Go.Am
end
section
/- What is wrong with limits,both ways: printed by program. -/
open Go
set_option linter.unusedSimpArgs false
namespace Go.Am
variable {h : Heap} {K : Post}
end Go.Am
end
section
/- Package lot on measured values,and what the reference says of them. -/
open Go
namespace Go.Am
variable {h : Heap} {K : Post}
end Go.Am
end
section
/- Records: what they are,what is wrong with them. -/
open Go
set_option linter.unusedSimpArgs false
namespace Go.Am
variable {h : Heap} {K : Post}
theorem retK_keep {b : Nat} {P : Post} {vs : List AV} {h : Heap} : retK true b P (some vs) h [] = P (oneOf vs) (h.take (max b (oneOf vs).top)) []:=by
  simp [retK,close,closed]
attribute [go_sem] retK_keep
structure Rec where
  unit : List UInt8
  time : Int
  site : List UInt8
  res : List Int
def Rec.pv (r : Rec) : PV:=.agg [.str r.unit,eI r.time,.str r.site,.sl none (r.res.map eI)]
def good (x : Lim) (n : Int) : Bool:=inB x.lo n x.hi
def goods (l : List Lim) (res : List Int) : List Bool:=List.zipWith good l res
def failIdx (l : List Lim) (res : List Int) : Int:=if (goods l res).findIdx (fun b=>!b) < (goods l res).length then ((goods l res).findIdx (fun b=>!b) : Int) else -1
end Go.Am
end
section
/- What is drawn: numbers,measured values. -/
open Go
namespace Go.Am
variable {L : List Int} {a : Int}
theorem g_Odd (hp : posN 14 a) (u v : Int) (huv : u ≤ v) (hu : -1000000000000 ≤ u) (hv : v ≤ 1000000000000) : ∃ k a2 : Int,a ≤ a2 ∧ a2 ≤ a + 2 ∧ -1099511627776 ≤ k ∧ k ≤ 1099511627776 ∧
    Gen f_q03x [AI u,AI v] L a a2 (AI k):=by
  have w1 : IntKind.i64.wrap (u - 1) = u - 1:=i64_wrap _ (by omega) (by omega)
  have w2 : IntKind.i64.wrap (v + 1) = v + 1:=i64_wrap _ (by omega) (by omega)
  by_cases hf : nextV L a 12 = 0
  · have hm := pickV_mem (L := L) (a := a + 1) (l := [u - 1, v + 1, u, v, -1099511627776, 1099511627776]) (by simp) (by simp)
    simp only [List.mem_cons,List.not_mem_nil,or_false] at hm
    refine ⟨pickV [u - 1,v + 1,u,v,-1099511627776,1099511627776] L (a + 1),a + 1 + 1,by omega,by omega,by omega,by omega,Gen.of fun h id hid=>?_⟩
    rw [c_q03x rfl]
    simp only [d_q03x,go_sem,hid,posAll hp,hf,w1,w2]
  · have hm := rangeV_bd L (a + 1) huv (by omega)
    refine ⟨rangeV u v L (a + 1),a + 1 + 1,by omega,by omega,by omega,by omega,Gen.of fun h id hid=>?_⟩
    rw [c_q03x rfl]
    simp only [d_q03x,go_sem,hid,posAll hp,hf,w1,w2,huv,show -1152921504606846976 ≤ u by omega,show v ≤ 1152921504606846976 by omega]
end Go.Am
end
section
/- Strings that are drawn. -/
open Go
set_option linter.unusedSimpArgs false
namespace Go.Am
variable {L : List Int} {a : Int} {h l : Heap} {id : Nat} {K : Post}
def isS : PV → Bool
  | .str _=>true
  | _=>false
def unS : PV → List UInt8
  | .str s=>s
  | _=>[]
attribute [go_sem] isS unS
end Go.Am
end
section
/- What is drawn: strings,limits. -/
open Go
set_option linter.unusedSimpArgs false
namespace Go.Am
variable {L : List Int} {a : Int} {h l : Heap} {id : Nat} {K : Post}
end Go.Am
end
section
/- Records: what is wrong with them,both ways. -/
open Go
set_option linter.unusedSimpArgs false
namespace Go.Am
variable {h : Heap} {K : Post}
end Go.Am
end
section
/- Sorting records: printed by program. -/
open Go
set_option linter.unusedSimpArgs false
namespace Go.Am
attribute [-go_sem] PV.cells splice
variable {h : Heap} {K : Post}
end Go.Am
end
section
/- Leaving out what is alike: printed by program. -/
open Go
set_option linter.unusedSimpArgs false
namespace Go.Am
attribute [-go_sem] PV.cells splice
variable {h : Heap} {K : Post}
end Go.Am
end
section
/- What is drawn: records. -/
open Go
set_option linter.unusedSimpArgs false
namespace Go.Am
variable {L : List Int} {a : Int} {h l : Heap} {id : Nat} {K : Post}
theorem close_out {b : Nat} {x : Esc} (hx : ∀ y ∈ x,b ≤ y.1) : ∀ k,close k x b = b:=by
  have hb : bump x b = b:=by
    unfold bump
    induction x with
    | nil=>rfl
    | cons y r ih=>
      simp only [List.foldl_cons]
      rw [if_neg (by have:=hx y (by simp); omega)]
      exact ih (fun z hz=>hx z (by simp [hz]))
  intro k
  induction k with
  | zero=>rfl
  | succ k ih=>unfold close; rw [hb,ih]
theorem trunc_out {b : Nat} {x0 x : Esc} {e : List (Nat × AV)} {h : Heap} (hx : ∀ y ∈ x,b ≤ y.1) : trunc b x0 ⟨e,h,x⟩ = ⟨clean b e,h.take b,x0⟩:=by
  unfold trunc
  simp only [close_out hx]
  have hc : closed x b = true:=by
    unfold closed
    rw [List.all_eq_true]
    intro y hy
    simp [hx y hy]
  have hf : x.filter (fun y=>decide (y.1 < b)) = []:=by
    rw [List.filter_eq_nil_iff]
    intro y hy
    have:=hx y hy
    simp; omega
  rw [if_pos hc,hf,List.nil_append]
end Go.Am
end
section
/- Merging two ordered lists: by sorting and leaving out what is alike,and by looking each one up. Plain lists. -/
namespace Go.Am
variable {α : Type}
structure Ordr (c : α → α → Int) : Prop where
  neg : ∀ a b,c b a = - c a b
  trans : ∀ a b d,c a b ≤ 0 → c b d ≤ 0 → c a d ≤ 0
theorem Ordr.refl {c : α → α → Int} (o : Ordr c) (a : α) : c a a = 0:=by have:=o.neg a a; omega
variable {c : α → α → Int} {q : α → α → Bool} {a b : List α}
end Go.Am
end
section
/- Records alike; copies; bins. -/
open Go
set_option linter.unusedSimpArgs false
namespace Go.Am
variable {h : Heap} {K : Post}
def sameR (a b : Rec) : Bool:=decide (a.unit = b.unit) && (decide (a.time = b.time) && (decide (a.site = b.site) && decide (a.res = b.res)))
theorem sameR_iff (a b : Rec) : sameR a b = true ↔ a = b:=by
  cases a; cases b
  simp [sameR]
theorem retK_out {b : Nat} {P : Post} {vs : List AV} {h : Heap} {x : Esc} (hx : ∀ y ∈ x,b ≤ y.1) {v : AV} (h1 : reif b h (oneOf vs) = some v) (h2 : v.top ≤ b) : retK false b P (some vs) h x = P v (h.take b) []:=by
  have e : max b v.top = b:=by omega
  have c : closed x b = true:=by
    unfold closed
    rw [List.all_eq_true]
    intro y hy
    simp [hx y hy]
  have f : x.filter (fun y=>decide (y.1 < b)) = []:=by
    rw [List.filter_eq_nil_iff]
    intro y hy
    have:=hx y hy
    simp; omega
  simp only [retK,h1,e,close_out hx,c,if_true,f]
  exact propext ⟨fun h=>h.2,fun h=>⟨h2,h⟩⟩
end Go.Am
end
section
/- Sorting numbers: printed by program. -/
open Go
set_option linter.unusedSimpArgs false
namespace Go.Am
attribute [-go_sem] PV.cells splice
variable {h : Heap} {K : Post}
end Go.Am
end
section
/- Bins,both ways; lists joined; records sorted. -/
open Go
set_option linter.unusedSimpArgs false
namespace Go.Am
variable {h : Heap} {K : Post}
end Go.Am
end
section
/- Lists of records joined,compared,merged. -/
open Go
set_option linter.unusedSimpArgs false
namespace Go.Am
variable {h : Heap} {K : Post}
instance : DecidableEq Rec:=fun a b=>decidable_of_iff (sameR a b = true) (sameR_iff a b)
end Go.Am
end
section
/- Records merged asv the reference does it. -/
open Go
set_option linter.unusedSimpArgs false
namespace Go.Am
variable {h : Heap} {K : Post}
end Go.Am
end
section
/- Retests: which record of a unit counts. Plain lists; both ways yield the same. -/
set_option linter.all false
namespace Go.Am
def badR (l : List Lim) (r : Rec) : Bool:=decide (0 ≤ failIdx l r.res)
def rec0 : Rec:=⟨[],0,[],[]⟩
def cntL (l : List Lim) (rule : Int) (f : List Rec) : Rec:=
  if rule = 1 then f.headD rec0 else if f.findIdx (fun x=>!badR l x) < f.length ∧ rule = 3 then f.getD (f.findIdx fun x=>!badR l x) rec0 else f.getLastD rec0
end Go.Am
end
section
/- Lists of strings. -/
open Go
set_option linter.all false
namespace Go.Am
variable {h : Heap} {K : Post}
theorem X_ex2 : X.ex2 = libF GRL PRL:=rfl
abbrev AStr (us : List (List UInt8)) : AV:=.p (.sl none (us.map PV.str))
theorem str_shps {us : List (List UInt8)} : shps none (us.map PV.str):=fun x hx=>by obtain ⟨n,_,rfl⟩:=List.mem_map.1 hx; rfl
end Go.Am
end
section
/- The abstract machine,part L4: strings.Repeat,strings.Trim,math/bits.TrailingZeros64 asv rows. -/
set_option linter.all false
namespace Go.Am
variable {P : Program} {gl : Nat → Option PV}
open Go.Shelf
theorem below_ext {w w' : World} (h : Go.RowKit.Below w.heap.size w w') : WExt w w':=⟨h.size,fun b hb=>h.block b hb,by unfold zed; rw [h.os,h.tape,h.output]⟩
theorem lib_trim (s cs : List UInt8) : Go.Lib.trimS s cs = trimL s cs:=rfl
theorem trimRow {ρ : Ren} (L : Go.Proofs.Lays.n160 P ρ) (h116 : (P.info? (ρ.t 116)).map (fun i=>(i.zero,i.size)) = some (some (.agg (Array.replicate 256 (.bool false))),256)) (he : ∀ us w,(callFunc (ρ.f 160) us).run P w = .ok (.enter (ρ.f 160) us) w) : PureRow P gl (ρ.f 160) trimS where
  enter:=he
  run M w vs r us hc hb hG hl hr hs:=by
    unfold trimS at hs
    split at hs
    · rename_i s cs
      split at hs
      · rename_i hbd
        match us,hl with
        | [u,v],_=>
          have q:=hr 0 _ u rfl rfl
          cases q
          have q2:=hr 1 _ v rfl rfl
          cases q2
          simp only [Option.some.injEq] at hs
          subst hs
          have hsz : ∀ l : List UInt8,(⟨l.toArray⟩ : ByteArray).size = l.length:=fun l=>by simp [ByteArray.size]
          refine (Go.Proofs.Any.strings_Trim_laid L h116 ⟨s.toArray⟩ ⟨cs.toArray⟩ w (by rw [hsz]; omega) (by rw [hsz]; omega) (Go.Proofs.ascii_of_all hbd.2.2)).mono fun e w' h=>?_
          obtain ⟨rfl,h⟩:=h
          exact ⟨_,rfl,below_ext h,by rw [← lib_trim]; exact .p _ _ (.str _)⟩
      · cases hs
    · cases hs
end Go.Am
end
section
/- The abstract machine,part L5: strings.Count at one byte,strings.Join asv rows. -/
set_option linter.all false
namespace Go.Am
variable {P : Program} {gl : Nat → Option PV}
open Go.Shelf
theorem countRow {ρ : Ren} (L : Go.Proofs.Lays.n138 P ρ) (he : ∀ us w,(callFunc (ρ.f 138) us).run P w = .ok (.enter (ρ.f 138) us) w) : PureRow P gl (ρ.f 138) countS where
  enter:=he
  run M w vs r us hc hb hG hl hr hs:=by
    unfold countS at hs
    split at hs
    · rename_i s c
      match us,hl with
      | [u,v],_=>
        have q:=hr 0 _ u rfl rfl
        cases q
        have q2:=hr 1 _ v rfl rfl
        cases q2
        simp only [Option.some.injEq] at hs
        subst hs
        refine (Go.Proofs.Any.strings_Count_one L ⟨s.toArray⟩ c w).mono fun e w' h=>?_
        obtain ⟨rfl,rfl⟩:=h
        exact ⟨_,rfl,WExt.refl _,.p _ _ (.int _ _)⟩
    · cases hs
theorem flat_strs (l : List (List UInt8)) : (l.map PV.str).flatMap PV.cells = l.map PV.str:=by
  induction l with
  | nil=>rfl
  | cons a r ih=>rw [List.map_cons,List.flatMap_cons,ih]; rfl
theorem joinRow {ρ : Ren} (L : Go.Proofs.Lays.n156 P ρ) (E : Go.Proofs.Builder.Extra P ρ) (he : ∀ us w,(callFunc (ρ.f 156) us).run P w = .ok (.enter (ρ.f 156) us) w) : PureRow P gl (ρ.f 156) joinS where
  enter:=he
  run M w vs r us hc hb hG hl hr hs:=by
    unfold joinS at hs
    split at hs
    · rename_i xs sep
      obtain ⟨l,hlx,hs2⟩:=Option.bind_eq_some_iff.1 hs
      have hx:=strsOf_eq hlx
      subst hx
      split at hs2
      · rename_i hbd
        simp only [Option.some.injEq] at hs2
        subst hs2
        match us,hl with
        | [u,v],_=>
          have q:=hr 0 _ u rfl rfl
          have q2:=hr 1 _ v rfl rfl
          cases q2
          have hmk : ∀ x : List UInt8,(⟨x.toArray⟩ : ByteArray).data.toList = x:=fun x=>rfl
          have key : ∀ (bk o c : Nat),bk < w.heap.size → l.length ≤ c → (∀ (j : Nat) (x : List UInt8),l[j]? = some x → w.cell? ⟨bk,o + j,none⟩ = some (.string ⟨x.toArray⟩)) →
              Calls P (ρ.f 156) #[.slice (some ⟨bk,o,none⟩) l.length c,.string ⟨sep.toArray⟩] w fun e w'=>∃ x,e = .returned x ∧ WExt w w' ∧ RAV (ExtM M w w') [] [] (.p (.str (sep.intercalate l))) x:=by
            intro bk o c h1 h2 h3
            have hm : (l.map fun x=>(⟨x.toArray⟩ : ByteArray)).map (·.data.toList) = l:=by
              rw [List.map_map]
              conv=>rhs; rw [← List.map_id l]
              exact List.map_congr_left (fun x _=>rfl)
            have hJ:=Go.Proofs.Any.strings_Join L E bk o c (l.map fun x=>(⟨x.toArray⟩ : ByteArray)) ⟨sep.toArray⟩ w (fun j x hx=>by
              rw [List.getElem?_map] at hx
              obtain ⟨y,hy,rfl⟩:=Option.map_eq_some_iff.1 hx
              exact h3 j y hy) h1 (by simp; omega) (by simpa using h2) (by rw [hm]; show (sep.intercalate l).length ≤ _; omega)
            rw [hm,List.length_map] at hJ
            refine hJ.mono fun e w' h=>?_
            obtain ⟨rfl,h⟩:=h
            exact ⟨_,rfl,below_ext h,.p _ _ (.str _)⟩
          generalize hxs : l.map PV.str = xs at q hl hr
          cases q with
          | nils _ a cap=>
            have h0 : l = []:=List.map_eq_nil_iff.1 hxs
            subst h0
            refine (Go.Proofs.Any.strings_Join_none L E a cap ⟨sep.toArray⟩ w).mono fun e w' h=>?_
            obtain ⟨rfl,rfl⟩:=h
            exact ⟨_,rfl,WExt.refl _,.p _ _ (.str [])⟩
          | sl _ _ b o cap f hne hcap hshp hm hrr=>
            subst hxs
            rw [List.length_map] at hcap ⊢
            rw [flat_strs] at hm hrr
            have hcell : ∀ (j : Nat) (x : List UInt8),l[j]? = some x → w.cell? ⟨b,o + j,none⟩ = some (.string ⟨x.toArray⟩):=by
              intro j x hx
              have hy : (l.map PV.str)[j]? = some (.str x):=by rw [List.getElem?_map,hx]; rfl
              have h1:=hc _ _ _ (hm j _ hy)
              have h2:=hrr j _ hy
              generalize hf : f j = fj at h1 h2
              cases h2
              exact h1
            refine key b o cap ?_ hcap hcell
            cases l with
            | nil=>exact absurd rfl hne
            | cons a r=>exact Go.Am.cell_lt (hcell 0 a rfl)
      · cases hs2
    · cases hs
end Go.Am
end
section
/- Texts split at a byte. -/
open Go
set_option linter.all false
namespace Go.Am
variable {h : Heap} {K : Post}
theorem s_Count (s : List UInt8) (c : UInt8) : ACall X f_q085 [AS s,AS [c]] h K = K (AI (s.count c)) h []:=by
  refine lib_call (X:=X) (by kernel_rfl) ?_
  rw [X_ex2]
  exact libF_pure (vs:=[.str s,.str [c]]) (by kernel_rfl) (s:=countS) (by kernel_rfl) rfl rfl
theorem s_slIndexC (s : List UInt8) (c : UInt8) (hs : s.length ≤ 1000000) : ACall X f_q02p [AS s,AS [c]] h K = K (AI (idxB s c)) h []:=by
  refine rule ?_
  rw [c_q02p rfl]
  have q:=fun h K=>s_slIndexByte (h:=h) (K:=K) s c
  simp only [d_q02p,go_sem,↓q,q,List.length_cons,List.length_nil]
  split
  · rename_i h1; subst h1; simp [idxB]
  · trivial
theorem s_IndexC (s : List UInt8) (c : UInt8) (hs : s.length ≤ 1000000) : ACall X f_q089 [AS s,AS [c]] h K = K (AI (idxB s c)) h []:=by
  refine rule ?_
  rw [c_q089 rfl]
  have q:=fun h K=>s_slIndexC (h:=h) (K:=K) s c hs
  simp only [d_q089,go_sem,↓q,q]
theorem idxB_no {s : List UInt8} {c : UInt8} (h : c ∉ s) : idxB s c = -1:=by
  unfold idxB
  rw [if_neg]
  rw [List.findIdx_lt_length]
  rintro ⟨x,hx,e⟩
  simp at e
  subst e
  exact h hx
theorem set_mid {α : Type} (a : List α) (x y : α) (b : List α) : (a ++ x :: b).set a.length y = a ++ y :: b:=by simp
def spRow (c : UInt8) (s : List UInt8) (k : Nat) : List PV:=((splitC c s).take k).map PV.str ++ List.replicate (s.count c + 1 - k) (.str [])
theorem spRow_len (c : UInt8) (s : List UInt8) (k : Nat) (hk : k ≤ s.count c + 1) : (spRow c s k).length = s.count c + 1:=by
  unfold spRow
  have:=splitC_len c s
  simp; omega
theorem spRow_set (c : UInt8) (s : List UInt8) (k : Nat) (hk : k < s.count c + 1) (p : List UInt8) (hp : (splitC c s)[k]? = some p) : (spRow c s k).set k (.str p) = spRow c s (k + 1):=by
  have hl:=splitC_len c s
  have e : ((splitC c s).take k).map PV.str = ((splitC c s).take k).map PV.str:=rfl
  have el : (((splitC c s).take k).map PV.str).length = k:=by simp; omega
  unfold spRow
  rw [show s.count c + 1 - k = (s.count c + 1 - (k + 1)) + 1 by omega,List.replicate_succ]
  conv=>lhs; arg 2; rw [← el]
  rw [set_mid,List.take_succ,hp]
  simp
theorem spRow_get (c : UInt8) (s : List UInt8) (k : Nat) (hk : k < s.count c + 1) : (spRow c s k)[k]? = some (.str []):=by
  have hl:=splitC_len c s
  unfold spRow
  rw [List.getElem?_append_right (by simp; omega)]
  rw [List.getElem?_replicate,if_pos (by simp; omega)]
theorem spRow_all (c : UInt8) (s : List UInt8) : spRow c s (s.count c + 1) = (splitC c s).map PV.str:=by
  have hl:=splitC_len c s
  unfold spRow
  rw [List.take_of_length_le (by omega),Nat.sub_self]
  simp
attribute [-go_sem] e_q08j_k3
theorem s_genSplit (s : List UInt8) (c : UInt8) (hs : s.length ≤ 1000000) : ACall X f_q08j [AS s,AS [c],AI 0,AI (-1)] h K = K (AStr (splitC c s)) h []:=by
  refine rule ?_
  rw [c_q08j rfl]
  have ec:=fun h K=>s_Count (h:=h) (K:=K) s c
  have hcl : s.count c ≤ s.length:=List.count_le_length
  have w1 : IntKind.i64.wrap ((s.count c : Int) + 1) = ((s.count c + 1 : Nat) : Int):=i64_wrap _ (by omega) (by omega)
  simp only [d_q08j,go_sem,↓ec,ec,w1]
  rw [e_q08j_k3]
  have w2 : IntKind.i64.wrap ((s.length : Int) + 1) = ((s.length + 1 : Nat) : Int):=i64_wrap _ (by omega) (by omega)
  have w3 : min ((s.count c + 1 : Nat) : Int) ((s.length + 1 : Nat) : Int) = ((s.count c + 1 : Nat) : Int):=by omega
  have w4 : IntKind.i64.wrap (((s.count c + 1 : Nat) : Int) - 1) = (s.count c : Int):=by rw [i64_wrap _ (by omega) (by omega)]; omega
  have hm : s.count c + 1 ≤ maxSl:=by unfold maxSl; omega
  simp only [d_q08j_k3,go_sem,w2,w3,w4,hm]
  have row0 : List.replicate (s.count c + 1) (PV.str []) = spRow c s 0:=by simp [spRow]
  rw [row0]
  refine N_loop (fun k : Nat=>⟨[(0,AS (restC c k s)),(1,AS [c]),(2,AI 0),(3,AI (s.count c)),(9,.own h.length (s.count c + 1) 0 (s.count c + 1)),(10,AI k)],h ++ [.row none (spRow c s k) 0],[]⟩) (fun k=>k ≤ s.count c) (fun k=>s.count c - k) 0 rfl (by omega) ?_
  intro k hk
  obtain ⟨r1,r2,r3⟩:=rest_split c k s hk
  have hrl:=spRow_len c s k (by omega)
  have hsl:=splitC_len c s
  rcases Nat.lt_or_ge k (s.count c) with hlt | hge
  · obtain ⟨a, b, hab, ha⟩ := cut_at (c := c) (s := restC c k s) (List.count_pos_iff.1 (by omega))
    have hi:=fun h K=>s_IndexC (h:=h) (K:=K) (restC c k s) c (by omega)
    have hix : idxB (restC c k s) c = (a.length : Int):=by rw [hab]; exact idxB_at a b c ha
    rw [hix] at hi
    have hnext : restC c (k + 1) s = b:=by rw [rest_succ,hab,dropW ha]
    have hrl2 : (restC c k s).length = a.length + (b.length + 1):=by rw [hab]; simp
    have g1 : (splitC c s)[k]? = some a:=by
      have:=congrArg (fun l=>l[0]?) r1
      simp only [List.getElem?_drop,Nat.add_zero] at this
      rw [← this,hab,splitC_cut ha]
      rfl
    have W1 : win (restC c k s) 0 a.length = a:=by rw [hab]; unfold win; simp
    have W2 : win (restC c k s) (a.length + 1) ((restC c k s).length - (a.length + 1)) = b:=by
      rw [hab]; unfold win
      rw [show a ++ c :: b = (a ++ [c]) ++ b by simp,List.drop_left' (by simp)]
      exact List.take_of_length_le (by simp; omega)
    have hp : ¬ (a.length : Int) < 0:=by omega
    have wa : IntKind.i64.wrap ((a.length : Int) + 0) = (a.length : Int):=by rw [Int.add_zero]; exact i64_wrap _ (by omega) (by omega)
    have wb : IntKind.i64.wrap ((a.length : Int) + 1) = ((a.length + 1 : Nat) : Int):=i64_wrap _ (by omega) (by omega)
    have wk : IntKind.i64.wrap ((k : Int) + 1) = ((k + 1 : Nat) : Int):=i64_wrap _ (by omega) (by omega)
    have hlt' : (k : Int) < (s.count c : Int):=by omega
    have hse:=spRow_set c s k (by omega) a g1
    have st:=fun h1=>shp_st (sh:=none) (x:=.str a) (y:=.str []) rfl rfl h.length k 0 (spRow c s k) h1
    have c1 : a.length ≤ (restC c k s).length:=by omega
    have c2 : a.length + 1 ≤ (restC c k s).length:=by omega
    have c3 : k < s.count c + 1:=by omega
    simp only [go_sem,hlt',hi,↓hi,hp,wa,wb,wk,hrl,W1,W2,spRow_get c s k c3,st,hse,c1,c2,c3]
    exact ⟨k + 1,by rw [hnext],by omega,by omega⟩
  · have hk' : k = s.count c := by omega
    have hlt' : ¬ (k : Int) < (s.count c : Int):=by omega
    have st:=fun h1=>shp_st (sh:=none) (x:=.str (restC c k s)) (y:=.str []) rfl rfl h.length k 0 (spRow c s k) h1
    have c3 : k < s.count c + 1:=by omega
    have wk : IntKind.i64.wrap ((k : Int) + 1) = ((k + 1 : Nat) : Int):=i64_wrap _ (by omega) (by omega)
    have g1 : (splitC c s)[k]? = some (restC c k s):=by
      have:=congrArg (fun l=>l[0]?) r1
      simp only [List.getElem?_drop,Nat.add_zero] at this
      rw [← this,splitC_none (List.count_eq_zero.1 (by omega))]
      rfl
    have hse : (spRow c s k).set k (.str (restC c k s)) = (splitC c s).map PV.str:=by
      rw [spRow_set c s k c3 _ g1,hk',spRow_all]
    have c4 : k + 1 = s.count c + 1:=by omega
    have hwin : win ((splitC c s).map PV.str) 0 (s.count c + 1) = (splitC c s).map PV.str:=by unfold win; rw [List.drop_zero,List.take_of_length_le (by simp; omega)]
    have hml : ((splitC c s).map PV.str).length = s.count c + 1:=by simp [hsl]
    simp only [go_sem,hlt',hrl,spRow_get c s k c3,st,hse,c3,wk,hml,c4,hwin]
theorem s_Split (s : List UInt8) (c : UInt8) (hs : s.length ≤ 1000000) : ACall X f_q08e [AS s,AS [c]] h K = K (AStr (splitC c s)) h []:=by
  refine rule ?_
  rw [c_q08e rfl]
  have q:=fun h K=>s_genSplit (h:=h) (K:=K) s c hs
  simp only [d_q08e,go_sem,↓q,q]
theorem s_slHasPrefix (s p : List UInt8) (hs : s.length ≤ 1000000) (hp : p.length ≤ 1000000) : ACall X f_q02n [AS s,AS p] h K = K (AB (decide (s.take p.length = p))) h []:=by
  refine rule ?_
  rw [c_q02n rfl]
  by_cases h1 : p.length ≤ s.length
  · have h1' : (p.length : Int) ≤ (s.length : Int) := by omega
    have W : win s 0 p.length = s.take p.length:=by unfold win; simp
    simp only [d_q02n,go_sem,h1',h1,W]
  · have h1' : ¬ (p.length : Int) ≤ (s.length : Int) := by omega
    have e : decide (s.take p.length = p) = false:=by
      simp only [decide_eq_false_iff_not]
      intro e
      have:=congrArg List.length e
      simp at this
      omega
    simp only [d_q02n,go_sem,h1',h1,e]
theorem s_TrimPrefix (s p : List UInt8) (hs : s.length ≤ 1000000) (hp : p.length ≤ 1000000) : ACall X f_q08g [AS s,AS p] h K = K (AS (if s.take p.length = p then s.drop p.length else s)) h []:=by
  refine rule ?_
  rw [c_q08g rfl]
  have key : ∀ (h : Heap) (K : Post),ACall X f_q02r [AS s,AS p] h K = K (AS (if s.take p.length = p then s.drop p.length else s)) h []:=by
    intro h K
    refine rule ?_
    rw [c_q02r rfl]
    have q:=fun h K=>s_slHasPrefix (h:=h) (K:=K) s p hs hp
    by_cases e : s.take p.length = p
    · have hl : p.length ≤ s.length:=by
        have:=congrArg List.length e
        simp at this
        omega
      have W : win s p.length (s.length - p.length) = s.drop p.length:=by unfold win; rw [List.take_of_length_le (by simp)]
      simp only [d_q02r,go_sem,↓q,q,e,decide_true,hl,W]
    · simp only [d_q02r,go_sem,↓q,q,e,decide_false]
  simp only [d_q08g,go_sem,↓key,key]
end Go.Am
end
section
/- Lines of a text. -/
open Go
set_option linter.all false
namespace Go.Am
variable {h : Heap} {K : Post}
theorem s_slHasSuffix (s p : List UInt8) (hs : s.length ≤ 1000000) (hp : p.length ≤ 1000000) : ACall X f_q02o [AS s,AS p] h K = K (AB (decide (p.length ≤ s.length ∧ s.drop (s.length - p.length) = p))) h []:=by
  refine rule ?_
  rw [c_q02o rfl]
  by_cases h1 : p.length ≤ s.length
  · have h1' : (p.length : Int) ≤ (s.length : Int) := by omega
    have w : IntKind.i64.wrap ((s.length : Int) - (p.length : Int)) = ((s.length - p.length : Nat) : Int):=by rw [i64_wrap _ (by omega) (by omega)]; omega
    have W : win s (s.length - p.length) (s.length - (s.length - p.length)) = s.drop (s.length - p.length):=by unfold win; rw [List.take_of_length_le (by simp)]
    have h2 : s.length - p.length ≤ s.length:=by omega
    simp only [d_q02o,go_sem,h1',h1,w,W,h2]
  · have h1' : ¬ (p.length : Int) ≤ (s.length : Int) := by omega
    simp only [d_q02o,go_sem,h1',h1]
def endsNL (s : List UInt8) : Bool:=decide (s.getLast? = some 10)
def bodyNL (s : List UInt8) : List UInt8:=if endsNL s then s.dropLast else s
theorem ends_suffix (s : List UInt8) : decide (([10] : List UInt8).length ≤ s.length ∧ s.drop (s.length - ([10] : List UInt8).length) = [10]) = endsNL s:=by
  unfold endsNL
  rw [decide_eq_decide]
  rcases List.eq_nil_or_concat s with rfl | ⟨r,x,rfl⟩
  · simp
  · simp
theorem s_CutSuffixNL (s : List UInt8) (hs : s.length ≤ 1000000) : ACall X f_q087 [AS s,AS [10]] h K = K (.tup [AS (bodyNL s),AB (endsNL s)]) h []:=by
  refine rule ?_
  rw [c_q087 rfl]
  have key : ∀ (h : Heap) (K : Post),ACall X f_q02m [AS s,AS [10]] h K = K (.tup [AS (bodyNL s),AB (endsNL s)]) h []:=by
    intro h K
    refine rule ?_
    rw [c_q02m rfl]
    have q:=fun h K=>s_slHasSuffix (h:=h) (K:=K) s [10] hs (by simp)
    rw [ends_suffix] at q
    cases e : endsNL s with
    | false=>
      have eb : bodyNL s = s:=by unfold bodyNL; rw [e]; rfl
      rw [e] at q
      simp only [d_q02m,go_sem,↓q,q,eb]
    | true=>
      have eb : bodyNL s = s.dropLast:=by unfold bodyNL; rw [e]; rfl
      rw [e] at q
      have h1 : 1 ≤ s.length:=by
        cases s with
        | nil=>simp [endsNL] at e
        | cons a r=>simp
      have w : IntKind.i64.wrap ((s.length : Int) - 1) = ((s.length - 1 : Nat) : Int):=by rw [i64_wrap _ (by omega) (by omega)]; omega
      have W : win s 0 (s.length - 1) = s.dropLast:=by unfold win; rw [List.drop_zero,List.dropLast_eq_take]
      have h2 : s.length - 1 ≤ s.length:=by omega
      simp only [d_q02m,go_sem,↓q,q,eb,List.length_cons,List.length_nil,w,W,h2]
  simp only [d_q087,go_sem,↓key,key]
def linesB (s : List UInt8) : List (List UInt8):=if s = [] then [] else splitC 10 (bodyNL s)
def endsB (s : List UInt8) : Bool:=decide (s = []) || endsNL s
theorem s_Lines (s : List UInt8) (hs : s.length ≤ 1000000) : ACall X f_q006 [AS s] h K = K (.tup [AStr (linesB s),AB (endsB s)]) h []:=by
  refine rule ?_
  rw [c_q006 rfl]
  by_cases h0 : s = []
  · subst h0
    simp only [d_q006,go_sem]
    rfl
  · have q := fun h K => s_CutSuffixNL (h := h) (K := K) s hs
    have hb : (bodyNL s).length ≤ 1000000:=by
      unfold bodyNL
      split
      · simp; omega
      · exact hs
    have q2:=fun h K=>s_Split (h:=h) (K:=K) (bodyNL s) 10 hb
    have e1 : linesB s = splitC 10 (bodyNL s):=by unfold linesB; rw [if_neg h0]
    have e2 : endsB s = endsNL s:=by unfold endsB; simp [h0]
    simp only [d_q006,go_sem,h0,↓q,q,↓q2,q2,e1,e2]
end Go.Am
end
