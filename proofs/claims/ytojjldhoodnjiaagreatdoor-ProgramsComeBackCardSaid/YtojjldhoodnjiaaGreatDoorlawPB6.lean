/- Texts of the proof, laid together: CodesB, CodesC. -/
import Derived.KernelRfl
import Derived.Test.YtojjldhoodnjiaaGreatDoorlawPB5
set_option linter.all false
section
/- The functions asv abstract code,and asv formulas over their values: printed by program out of the translation. -/
set_option linter.unusedVariables false
set_option maxRecDepth 100000
namespace Go.Am
def P_q04y:ACode:=(.seq (rg [mV 4 (cI 0),
mV 5 (.c (.nili))] [0,1])
(.seq (rg [mV 6 0,
cL 7 zaD [6]] [0,1])
(.seq (rg [mV 8 0,
mV 9 0,
uO 10 (.nilchk 9),
fA 11 1 none 10,
lD 12 none 11,
mV 13 1,
uO 14 (.uns 3 5 [12,13]),
uO 15 (.nilchk 8),
fA 16 1 none 15,
wO (.store none 16 14)] [1])
(.seq (rg [mV 17 1,
uO 18 (.lens 17),
mV 4 18,
mV 5 (.c (.nili))] [4,5])
.ret))))
def zmf:AFun:=⟨2,[.t 4,.t 5],P_q04y,false,false⟩
def znq (C:Hd) (gl:GL) (v0 v1:AV) (h:Heap) (x:Esc) (K:KT):Prop:=
 C zaD [v0] h fun t1 h2 y3=>
 pK (oNil v0) fun t4=>
 pK (z0d 1 none t4) fun t5=>
 pK (z0e none t5 h2) fun t6=>
 wK (z13 3 5 [t6,v1] h2) fun t7 h8 y9=>
 pK (oNil v0) fun t10=>
 pK (z0d 1 none t10) fun t11=>
 wK (z0m none t11 t7 h8) fun t12 h13 y14=>
 pK (z0C v1) fun t15=>
 K .ret ⟨[(4,t15),(5,(.nili))],h13,(y14++(y9++(y3++x)))⟩
theorem e_q04y {C gl v0 v1 h x K}:NW C gl zmf.body ⟨enter [v0,v1],h,x⟩ K=znq C gl v0 v1 h x K:=by kernel_rfl
def P_q06g:ACode:=(.seq (rg [uO 1 (.box 0),
mV 2 (cS [])] [1])
(.seq (rg [fA 4 0 none 1,
lD 5 none 4,
cL 6 z79 [5],
bN 7 .add 6 (cS [32]),
mV 3 7] [1,3])
(.seq (.block 0 (.seq (rg [fA 9 0 none 1,
lD 10 none 9,
bN 11 .eql 10 (cI 1),
mV 12 11,
gD 13 12 false (.faddr 0 none 1),
gD 14 12 false (.load none 13),
gD 15 12 false (.bin .eql 14 (cI 2)),
uO 16 (.pick 12 cT 15),
mV 17 16,
gD 18 17 false (.faddr 0 none 1),
gD 19 17 false (.load none 18),
gD 20 17 false (.bin .eql 19 (cI 10)),
uO 21 (.pick 17 cT 20),
mV 8 21] [1,3,8])
(.cond 8 (.seq (rg [mV 22 3,
fA 23 1 none 1,
lD 24 none 23,
cL 25 z78 [24],
bN 26 .add 22 25,
mV 2 26] [2])
.ret)
(.seq (rg [fA 28 0 none 1,
lD 29 none 28,
bN 30 .eql 29 (cI 9),
mV 27 30] [1,3,27])
(.cond 27 (.seq (rg [mV 31 3,
fA 32 2 none 1,
lD 33 none 32,
cL 34 zeH [33],
bN 35 .add 31 34,
mV 2 35] [2])
.ret)
(.seq (rg [fA 37 0 none 1,
lD 38 none 37,
cL 39 z29 [38],
mV 40 39,
gD 41 40 true (.faddr 4 none 1),
gD 42 40 true (.load none 41),
gD 43 40 true (.bin .neq 42 (cS [])),
uO 44 (.pick 40 43 cF),
mV 36 44] [1,3,36])
(.cond 36 (.seq (rg [mV 45 3,
fA 46 3 none 1,
lD 47 none 46,
bN 48 .add 45 47,
bN 49 .add 48 (cS [32]),
fA 50 4 none 1,
lD 51 none 50,
bN 52 .add 49 51,
bN 53 .add 52 (cS [32]),
fA 54 5 none 1,
lD 55 none 54,
bN 56 .add 53 55,
mV 2 56] [2])
.ret)
(.seq (rg [fA 58 3 none 1,
lD 59 none 58,
bN 60 .eql 59 (cS []),
mV 57 60] [1,3,57])
(.cond 57 (.seq (rg [mV 61 3,
bN 62 .add 61 (cS [45]),
mV 2 62] [2])
.ret)
.skip)))))))))
(.seq (rg [mV 63 3,
fA 64 3 none 1,
lD 65 none 64,
bN 66 .add 63 65,
mV 2 66] [2])
.ret))))
def zmu:AFun:=⟨1,[.t 2],P_q06g,false,false⟩
def z5R (C:Hd) (gl:GL) (v0:AV) (h:Heap) (x:Esc) (K:KT):Prop:=
 wK (oBox v0 h) fun t1 h2 y3=>
 pK (z0d 0 none t1) fun t4=>
 pK (z0e none t4 h2) fun t5=>
 C z79 [t5] h2 fun t6 h7 y8=>
 pK (oBin .add t6 (.p (.str [32]))) fun t9=>
 pK (z0d 0 none t1) fun t10=>
 pK (z0e none t10 h7) fun t11=>
 pK (oBin .eql t11 (AI 1)) fun t12=>
 gP t12 false (z0d 0 none t1) h7 fun t13 h14 y15=>
 gP t12 false (z0e none t13 h14) h14 fun t16 h17 y18=>
 gP t12 false (oBin .eql t16 (AI 2)) h17 fun t19 h20 y21=>
 pK (z0K t12 (AB true) t19) fun t22=>
 gP t22 false (z0d 0 none t1) h20 fun t23 h24 y25=>
 gP t22 false (z0e none t23 h24) h24 fun t26 h27 y28=>
 gP t22 false (oBin .eql t26 (AI 10)) h27 fun t29 h30 y31=>
 pK (z0K t22 (AB true) t29) fun t32=>
 z0i t32 (pK (z0d 1 none t1) fun t33=>
 pK (z0e none t33 h30) fun t34=>
 C z78 [t34] h30 fun t35 h36 y37=>
 pK (oBin .add t9 t35) fun t38=>
 K .ret ⟨[(2,t38)],h36,(y37++(y31++(y28++(y25++(y21++(y18++(y15++(y8++(y3++x)))))))))⟩)
 (pK (z0d 0 none t1) fun t39=>
 pK (z0e none t39 h30) fun t40=>
 pK (oBin .eql t40 (AI 9)) fun t41=>
 z0i t41 (pK (z0d 2 none t1) fun t42=>
 pK (z0e none t42 h30) fun t43=>
 C zeH [t43] h30 fun t44 h45 y46=>
 pK (oBin .add t9 t44) fun t47=>
 K .ret ⟨[(2,t47)],h45,(y46++(y31++(y28++(y25++(y21++(y18++(y15++(y8++(y3++x)))))))))⟩)
 (pK (z0d 0 none t1) fun t48=>
 pK (z0e none t48 h30) fun t49=>
 C z29 [t49] h30 fun t50 h51 y52=>
 gP t50 true (z0d 4 none t1) h51 fun t53 h54 y55=>
 gP t50 true (z0e none t53 h54) h54 fun t56 h57 y58=>
 gP t50 true (oBin .neq t56 (.p (.str []))) h57 fun t59 h60 y61=>
 pK (z0K t50 t59 (AB false)) fun t62=>
 z0i t62 (pK (z0d 3 none t1) fun t63=>
 pK (z0e none t63 h60) fun t64=>
 pK (oBin .add t9 t64) fun t65=>
 pK (oBin .add t65 (.p (.str [32]))) fun t66=>
 pK (z0d 4 none t1) fun t67=>
 pK (z0e none t67 h60) fun t68=>
 pK (oBin .add t66 t68) fun t69=>
 pK (oBin .add t69 (.p (.str [32]))) fun t70=>
 pK (z0d 5 none t1) fun t71=>
 pK (z0e none t71 h60) fun t72=>
 pK (oBin .add t70 t72) fun t73=>
 K .ret ⟨[(2,t73)],h60,(y61++(y58++(y55++(y52++(y31++(y28++(y25++(y21++(y18++(y15++(y8++(y3++x))))))))))))⟩)
 (pK (z0d 3 none t1) fun t74=>
 pK (z0e none t74 h60) fun t75=>
 pK (oBin .eql t75 (.p (.str []))) fun t76=>
 z0i t76 (pK (oBin .add t9 (.p (.str [45]))) fun t77=>
 K .ret ⟨[(2,t77)],h60,(y61++(y58++(y55++(y52++(y31++(y28++(y25++(y21++(y18++(y15++(y8++(y3++x))))))))))))⟩)
 (pK (z0d 3 none t1) fun t78=>
 pK (z0e none t78 h60) fun t79=>
 pK (oBin .add t9 t79) fun t80=>
 K .ret ⟨[(2,t80)],h60,(y61++(y58++(y55++(y52++(y31++(y28++(y25++(y21++(y18++(y15++(y8++(y3++x))))))))))))⟩))))
theorem e_q06g {C gl v0 h x K}:NW C gl zmu.body ⟨enter [v0],h,x⟩ K=z5R C gl v0 h x K:=by kernel_rfl
def P_q04w:ACode:=(.seq (rg [mV 2 (cI 0)] [0])
(.seq (rg [mV 3 0,
uO 4 (.nilchk 3),
fA 5 1 none 4,
lD 6 none 5,
uO 7 (.uns 4 0 [6]),
mV 2 7] [2])
.ret))
def zmd:AFun:=⟨1,[.t 2],P_q04w,false,false⟩
def znp (C:Hd) (gl:GL) (v0:AV) (h:Heap) (x:Esc) (K:KT):Prop:=
 pK (oNil v0) fun t1=>
 pK (z0d 1 none t1) fun t2=>
 pK (z0e none t2 h) fun t3=>
 wK (z13 4 0 [t3] h) fun t4 h5 y6=>
 K .ret ⟨[(2,t4)],h5,(y6++x)⟩
theorem e_q04w {C gl v0 h x K}:NW C gl zmd.body ⟨enter [v0],h,x⟩ K=znp C gl v0 h x K:=by kernel_rfl
def P_q04x:ACode:=(.seq (rg [mV 2 (cS [])] [0])
(.seq (dr [dF (mV 3 0) [0],
dF (uO 4 (.nilchk 3)) [3],
dF (fA 5 1 none 4) [4],
dF (lD 6 none 5) [5],
dF (uO 7 (.uns 5 5 [6])) [6],
dF (mV 8 0) [0],
dF (uO 9 (.nilchk 8)) [8],
dF (fA 10 1 none 9) [9],
dF (lD 11 none 10) [10],
dF (uO 12 (.uns 4 0 [11])) [11],
dT (uO 13 (.uns 6 5 [7,12])) [7,12],
dF (mV 2 13) [13]] [2])
.ret))
def zme:AFun:=⟨1,[.t 2],P_q04x,false,false⟩
def zhu (C:Hd) (gl:GL) (v0:AV) (h:Heap) (x:Esc) (K:KT):Prop:=
 pK (oNil v0) fun t1=>
 pK (z0d 1 none t1) fun t2=>
 pK (z0e none t2 h) fun t3=>
 wK (z13 5 5 [t3] h) fun t4 h5 y6=>
 (h5=h∧y6=[])∧(pK (oNil v0) fun t7=>
 pK (z0d 1 none t7) fun t8=>
 pK (z0e none t8 h5) fun t9=>
 wK (z13 4 0 [t9] h5) fun t10 h11 y12=>
 (h11=h5∧y12=[])∧(wK (z13 6 5 [t4,t10] h11) fun t13 h14 y15=>
 K .ret ⟨[(2,t13)],h14,(y15++(y12++(y6++x)))⟩))
theorem e_q04x {C gl v0 h x K}:NW C gl zme.body ⟨enter [v0],h,x⟩ K=zhu C gl v0 h x K:=by kernel_rfl
def z9q:ACode:=.pr [1,3,48] (.cond 48 (.seq (dr [dF (fA 51 3 none 1) [1],
dF (lD 52 none 51) [51],
dF (fA 53 4 none 1) [1],
dF (lD 54 none 53) [53],
dF (fA 55 5 none 1) [1],
dF (lD 56 none 55) [55],
dF (fA 57 3 none 3) [3],
dA (wO (.store none 57 52)) [57,52] true [] [3,5],
dF (fA 58 4 none 3) [3],
dA (wO (.store none 58 54)) [58,54] true [] [5],
dF (fA 59 5 none 3) [3],
dT (wO (.store none 59 56)) [59,56]] [1,3])
(.seq (rg [lD 60 (some 6) 1,
cL 61 za9 [60],
mV 4 61] [1,3,4])
(.seq (rg [mV 62 4,
bN 63 .neq 62 (cI 0)] [1,3,4,63])
(.cond 63 (.seq (rg [mV 64 4,
mV 2 64] [2])
.ret)
.skip))))
(.seq (rg [mV 2 (cI 4)] [2])
.ret))
def z22 (C:Hd) (gl:GL) (v1 v3 v48:AV) (h:Heap) (x:Esc) (K:KT):Prop:=
 z0i v48 (pK (z0d 3 none v1) fun t1=>
 pK (z0e none t1 h) fun t2=>
 pK (z0d 4 none v1) fun t3=>
 pK (z0e none t3 h) fun t4=>
 pK (z0d 5 none v1) fun t5=>
 pK (z0e none t5 h) fun t6=>
 pK (z0d 3 none v3) fun t7=>
 wK (z0m none t7 t2 h) fun t8 h9 y10=>
 (pK (z0e none t3 h9) fun v=>(fun u (g1:Heap) (y1:Esc)=>u=t4∧g1=h9∧y1=[]) v h9 [])∧((pK (z0e none t5 h9) fun v=>(fun u (g1:Heap) (y1:Esc)=>u=t6∧g1=h9∧y1=[]) v h9 [])∧(pK (z0d 4 none v3) fun t11=>
 wK (z0m none t11 t4 h9) fun t12 h13 y14=>
 (pK (z0e none t5 h13) fun v=>(fun u (g1:Heap) (y1:Esc)=>u=t6∧g1=h13∧y1=[]) v h13 [])∧(pK (z0d 5 none v3) fun t15=>
 wK (z0m none t15 t6 h13) fun t16 h17 y18=>
 pK (z0e (some 6) v1 h17) fun t19=>
 C za9 [t19] h17 fun t20 h21 y22=>
 pK (oBin .neq t20 (AI 0)) fun t23=>
 z0i t23 (K .ret ⟨[(2,t20)],h21,(y22++(y18++(y14++(y10++x))))⟩)
 (K .normal ⟨[(1,v1),(3,v3),(4,t20),(63,t23)],h21,(y22++(y18++(y14++(y10++x))))⟩)))))
 (K .ret ⟨[(2,(AI 4))],h,x⟩)
theorem zou {C gl e h x K}:NW C gl z9q ⟨e,h,x⟩ K=z22 C gl (aget e 1) (aget e 3) (aget e 48) h x K:=by kernel_rfl
def zcF (q1:ACode):ACode:=.pr [1,3,9,30] (.cond 30 (.seq (rg [fA 35 3 none 1,
lD 36 none 35,
fA 37 3 none 3,
wO (.store none 37 36)] [1,3])
(.block 1 (.seq (rg [fA 39 3 none 1,
lD 40 none 39,
cL 41 z4c [40],
uO 42 (.un .not 41),
mV 38 42] [1,3,38])
(.cond 38 (.seq (rg [mV 2 (cI 9)] [2])
.ret)
(.seq (rg [fA 44 3 none 1,
lD 45 none 44,
uO 46 (.lens 45),
bN 47 .gtr 46 (cI 2000),
mV 43 47] [1,3,43])
(.cond 43 (.seq (rg [mV 2 (cI 2)] [2])
.ret)
.skip))))))
(.seq (.seq (rg [bN 49 .eql 9 (cI 7),
mV 48 49] [1,3,9,48])
(.cond 48 .skip
(rg [bN 50 .eql 9 (cI 8),
mV 48 50] [1,3,48])))
q1))
def z9r:ACode:=zcF z9q
def z1y (C:Hd) (gl:GL) (q1:ACode) (v1 v3 v9 v30:AV) (h:Heap) (x:Esc) (K:KT):Prop:=
 z0i v30 (pK (z0d 3 none v1) fun t1=>
 pK (z0e none t1 h) fun t2=>
 pK (z0d 3 none v3) fun t3=>
 wK (z0m none t3 t2 h) fun t4 h5 y6=>
 pK (z0d 3 none v1) fun t7=>
 pK (z0e none t7 h5) fun t8=>
 C z4c [t8] h5 fun t9 h10 y11=>
 pK (oUn .not t9) fun t12=>
 z0i t12 (K .ret ⟨[(2,(AI 9))],h10,(y11++(y6++x))⟩)
 (pK (z0d 3 none v1) fun t13=>
 pK (z0e none t13 h10) fun t14=>
 pK (z0C t14) fun t15=>
 pK (oBin .gtr t15 (AI 2000)) fun t16=>
 z0i t16 (K .ret ⟨[(2,(AI 2))],h10,(y11++(y6++x))⟩)
 (K .normal ⟨[(1,v1),(3,v3),(43,t16)],h10,(y11++(y6++x))⟩)))
 (pK (oBin .eql v9 (AI 7)) fun t17=>
 z0i t17 (NW C gl q1 ⟨[(1,v1),(3,v3),(9,v9),(48,t17)],h,x⟩ K)
 (pK (oBin .eql v9 (AI 8)) fun t18=>
 NW C gl q1 ⟨[(1,v1),(3,v3),(48,t18)],h,x⟩ K))
theorem zkO {C gl q1 e h x K}:NW C gl (zcF q1) ⟨e,h,x⟩ K=z1y C gl q1 (aget e 1) (aget e 3) (aget e 9) (aget e 30) h x K:=by kernel_rfl
theorem zov {C gl e h x K}:NW C gl z9r ⟨e,h,x⟩ K=z1y C gl z9q (aget e 1) (aget e 3) (aget e 9) (aget e 30) h x K:=zkO
def zcG (q2:ACode):ACode:=.pr [1,3,9,10] (.cond 10 (.seq (rg [fA 14 1 none 1,
lD 15 none 14,
fA 16 1 none 3,
wO (.store none 16 15)] [1,3])
(.seq (rg [fA 17 1 none 1,
lD 18 none 17,
cL 19 zaA [18],
uO 20 (.un .not 19)] [1,3,20])
(.cond 20 (.seq (rg [mV 2 (cI 1)] [2])
.ret)
.skip)))
(.seq (rg [bN 22 .eql 9 (cI 9),
mV 21 22] [1,3,9,21])
(.cond 21 (.seq (rg [fA 23 2 none 1,
lD 24 none 23,
fA 25 2 none 3,
wO (.store none 25 24)] [1,3])
(.seq (rg [fA 26 2 none 1,
lD 27 none 26,
cL 28 za6 [27,(cI 0),(cI 20000)],
uO 29 (.un .not 28)] [1,3,29])
(.cond 29 (.seq (rg [mV 2 (cI 1)] [2])
.ret)
.skip)))
(.seq (.seq (rg [bN 31 .eql 9 (cI 3),
mV 30 31] [1,3,9,30])
(.cond 30 .skip
(.seq (rg [bN 32 .eql 9 (cI 4),
mV 30 32] [1,3,9,30])
(.cond 30 .skip
(.seq (rg [bN 33 .eql 9 (cI 5),
mV 30 33] [1,3,9,30])
(.cond 30 .skip
(rg [bN 34 .eql 9 (cI 6),
mV 30 34] [1,3,9,30])))))))
q2))))
def z6v:ACode:=zcG z9r
def z0O (C:Hd) (gl:GL) (q2:ACode) (v1 v3 v9 v10:AV) (h:Heap) (x:Esc) (K:KT):Prop:=
 z0i v10 (pK (z0d 1 none v1) fun t1=>
 pK (z0e none t1 h) fun t2=>
 pK (z0d 1 none v3) fun t3=>
 wK (z0m none t3 t2 h) fun t4 h5 y6=>
 pK (z0d 1 none v1) fun t7=>
 pK (z0e none t7 h5) fun t8=>
 C zaA [t8] h5 fun t9 h10 y11=>
 pK (oUn .not t9) fun t12=>
 z0i t12 (K .ret ⟨[(2,(AI 1))],h10,(y11++(y6++x))⟩)
 (K .normal ⟨[(1,v1),(3,v3),(20,t12)],h10,(y11++(y6++x))⟩))
 (pK (oBin .eql v9 (AI 9)) fun t13=>
 z0i t13 (pK (z0d 2 none v1) fun t14=>
 pK (z0e none t14 h) fun t15=>
 pK (z0d 2 none v3) fun t16=>
 wK (z0m none t16 t15 h) fun t17 h18 y19=>
 pK (z0d 2 none v1) fun t20=>
 pK (z0e none t20 h18) fun t21=>
 C za6 [t21,(AI 0),(AI 20000)] h18 fun t22 h23 y24=>
 pK (oUn .not t22) fun t25=>
 z0i t25 (K .ret ⟨[(2,(AI 1))],h23,(y24++(y19++x))⟩)
 (K .normal ⟨[(1,v1),(3,v3),(29,t25)],h23,(y24++(y19++x))⟩))
 (pK (oBin .eql v9 (AI 3)) fun t26=>
 z0i t26 (NW C gl q2 ⟨[(1,v1),(3,v3),(9,v9),(30,t26)],h,x⟩ K)
 (pK (oBin .eql v9 (AI 4)) fun t27=>
 z0i t27 (NW C gl q2 ⟨[(1,v1),(3,v3),(9,v9),(30,t27)],h,x⟩ K)
 (pK (oBin .eql v9 (AI 5)) fun t28=>
 z0i t28 (NW C gl q2 ⟨[(1,v1),(3,v3),(9,v9),(30,t28)],h,x⟩ K)
 (pK (oBin .eql v9 (AI 6)) fun t29=>
 NW C gl q2 ⟨[(1,v1),(3,v3),(9,v9),(30,t29)],h,x⟩ K)))))
theorem zkP {C gl q2 e h x K}:NW C gl (zcG q2) ⟨e,h,x⟩ K=z0O C gl q2 (aget e 1) (aget e 3) (aget e 9) (aget e 10) h x K:=by kernel_rfl
theorem zow {C gl e h x K}:NW C gl z6v ⟨e,h,x⟩ K=z0O C gl z9r (aget e 1) (aget e 3) (aget e 9) (aget e 10) h x K:=zkP
def z6w:ACode:=.pr [1,3] (.seq (.seq (rg [lD 65 (some 6) 1,
lD 66 (some 6) 3,
uO 67 (.eqa [0,0,0,2,2,2] true 65 66)] [67])
(.cond 67 (.seq (rg [mV 2 (cI 3)] [2])
.ret)
.skip))
(.seq (rg [mV 2 (cI 0)] [2])
.ret))
def z3j (C:Hd) (gl:GL) (v1 v3:AV) (h:Heap) (x:Esc) (K:KT):Prop:=
 pK (z0e (some 6) v1 h) fun t1=>
 pK (z0e (some 6) v3 h) fun t2=>
 pK (oEqa [0,0,0,2,2,2] true t1 t2) fun t3=>
 z0i t3 (K .ret ⟨[(2,(AI 3))],h,x⟩)
 (K .ret ⟨[(2,(AI 0))],h,x⟩)
theorem zox {C gl e h x K}:NW C gl z6w ⟨e,h,x⟩ K=z3j C gl (aget e 1) (aget e 3) h x K:=by kernel_rfl
def zwL (q3 q4:ACode):ACode:=(.seq (rg [uO 1 (.box 0),
mV 2 (cI 0)] [1])
(.seq (rg [fA 5 0 none 1,
lD 6 none 5,
uO 7 (.build [.p (.int .i64 0),.p (.int .i64 0),.p (.int .i64 0),.p (.str []),.p (.str []),.p (.str [])] [(0,1,6)]),
uO 3 (.alloc [.p (.int .i64 0),.p (.int .i64 0),.p (.int .i64 0),.p (.str []),.p (.str []),.p (.str [])]),
wO (.store (some 6) 3 7)] [1,3])
(.seq (.seq (rg [fA 8 0 none 1,
lD 9 none 8] [1,3,9])
(.block 0 (.seq (.seq (rg [bN 11 .eql 9 (cI 1),
mV 10 11] [1,3,9,10])
(.cond 10 .skip
(.seq (rg [bN 12 .eql 9 (cI 2),
mV 10 12] [1,3,9,10])
(.cond 10 .skip
(rg [bN 13 .eql 9 (cI 10),
mV 10 13] [1,3,9,10])))))
q3)))
q4)))
def zlU:AFun:=⟨1,[.t 2],zwL z6v z6w,false,false⟩
def z2p (C:Hd) (gl:GL) (q3 q4:ACode) (v0:AV) (h:Heap) (x:Esc) (K:KT):Prop:=
 wK (oBox v0 h) fun t1 h2 y3=>
 pK (z0d 0 none t1) fun t4=>
 pK (z0e none t4 h2) fun t5=>
 pK (z0y [.p (.int .i64 0),.p (.int .i64 0),.p (.int .i64 0),.p (.str []),.p (.str []),.p (.str [])] [(0,1,t5)]) fun t6=>
 alK [.p (.int .i64 0),.p (.int .i64 0),.p (.int .i64 0),.p (.str []),.p (.str []),.p (.str [])] h2 fun t7 h8 y9=>
 wK (z0m (some 6) t7 t6 h8) fun t10 h11 y12=>
 pK (z0d 0 none t1) fun t13=>
 pK (z0e none t13 h11) fun t14=>
 pK (oBin .eql t14 (AI 1)) fun t15=>
 z0i t15 (NW C gl q3 ⟨[(1,t1),(3,t7),(9,t14),(10,t15)],h11,(y12++(y9++(y3++x)))⟩ (z0t 0 (seqN C gl q4 K)))
 (pK (oBin .eql t14 (AI 2)) fun t16=>
 z0i t16 (NW C gl q3 ⟨[(1,t1),(3,t7),(9,t14),(10,t16)],h11,(y12++(y9++(y3++x)))⟩ (z0t 0 (seqN C gl q4 K)))
 (pK (oBin .eql t14 (AI 10)) fun t17=>
 NW C gl q3 ⟨[(1,t1),(3,t7),(9,t14),(10,t17)],h11,(y12++(y9++(y3++x)))⟩ (z0t 0 (seqN C gl q4 K))))
theorem E_q03d {C gl q3 q4 v0 h x K}:NW C gl (zwL q3 q4) ⟨enter [v0],h,x⟩ K=z2p C gl q3 q4 v0 h x K:=by kernel_rfl
theorem e_q03d {C gl v0 h x K}:NW C gl zlU.body ⟨enter [v0],h,x⟩ K=z2p C gl z6v z6w v0 h x K:=E_q03d
def z32:ACode:=.pr [5,6,7,11,12,13] (.seq (rg [bN 14 .lss 13 12] [5,6,7,11,12,13,14])
(.seq (.cond 14 .skip
(.exit 0))
(.seq (.block 1 (.seq (rg [iA 15 (some 5) 11 13,
lD 16 (some 5) 15,
uO 9 (.alloc [.p (.str []),.p (.str []),.p (.str []),.p (.int .i64 0),.p (.int .i64 0)]),
wO (.store (some 5) 9 16)] [5,6,7,9,11,12,13])
(.seq (rg [fA 17 0 none 9,
lD 18 none 17,
cL 19 z2r [5,18]] [5,6,7,9,11,12,13])
(.seq (rg [fA 20 1 none 9,
lD 21 none 20,
cL 22 z2r [6,21]] [5,6,7,9,11,12,13])
(rg [fA 23 2 none 9,
lD 24 none 23,
cL 25 z2r [7,24]] [5,6,7,11,12,13])))))
(rg [bN 26 .add 13 (cI 1),
mV 13 26] [5,6,7,11,12,13]))))
def zdF (C:Hd) (gl:GL) (v5 v6 v7 v11 v12 v13:AV) (h:Heap) (x:Esc) (K:KT):Prop:=
 pK (oBin .lss v13 v12) fun t1=>
 z0i t1 (pK (z03 (some 5) v11 v13 h) fun t2=>
 pK (z0e (some 5) t2 h) fun t3=>
 alK [.p (.str []),.p (.str []),.p (.str []),.p (.int .i64 0),.p (.int .i64 0)] h fun t4 h5 y6=>
 wK (z0m (some 5) t4 t3 h5) fun t7 h8 y9=>
 pK (z0d 0 none t4) fun t10=>
 pK (z0e none t10 h8) fun t11=>
 C z2r [v5,t11] h8 fun t12 h13 y14=>
 pK (z0d 1 none t4) fun t15=>
 pK (z0e none t15 h13) fun t16=>
 C z2r [v6,t16] h13 fun t17 h18 y19=>
 pK (z0d 2 none t4) fun t20=>
 pK (z0e none t20 h18) fun t21=>
 C z2r [v7,t21] h18 fun t22 h23 y24=>
 pK (oBin .add v13 (AI 1)) fun t25=>
 K .normal ⟨[(5,v5),(6,v6),(7,v7),(11,v11),(12,v12),(13,t25)],h23,(y24++(y19++(y14++(y9++(y6++x)))))⟩)
 (K (.exit 0) ⟨[(5,v5),(6,v6),(7,v7),(11,v11),(12,v12),(13,v13),(14,t1)],h,x⟩)
theorem zos {C gl e h x K}:NW C gl z32 ⟨e,h,x⟩ K=zdF C gl (aget e 5) (aget e 6) (aget e 7) (aget e 11) (aget e 12) (aget e 13) h x K:=by kernel_rfl
theorem zql {C gl e h x K}:NW C gl (.loop (.scope z32)) ⟨e,h,x⟩ K=z1a C gl (.scope z32) K [(5,aget e 5),(6,aget e 6),(7,aget e 7),(11,aget e 11),(12,aget e 12),(13,aget e 13)] h x:=z2a
def z6u:ACode:=.pr [5,6,7] (.seq (rg [cL 27 z4d [5],
cL 28 z4d [6],
cL 29 z4d [7],
mV 2 27,
mV 3 28,
mV 4 29] [2,3,4])
.ret)
def zdG (C:Hd) (gl:GL) (v5 v6 v7:AV) (h:Heap) (x:Esc) (K:KT):Prop:=
 C z4d [v5] h fun t1 h2 y3=>
 C z4d [v6] h2 fun t4 h5 y6=>
 C z4d [v7] h5 fun t7 h8 y9=>
 K .ret ⟨[(2,t1),(3,t4),(4,t7)],h8,(y9++(y6++(y3++x)))⟩
theorem zot {C gl e h x K}:NW C gl z6u ⟨e,h,x⟩ K=zdG C gl (aget e 5) (aget e 6) (aget e 7) h x K:=by kernel_rfl
def zwK (q1 q2:ACode):ACode:=(.seq (rg [mV 2 (cS []),
mV 3 (cS []),
mV 4 (cS [])] [0])
(.seq (rg [uO 5 (.uns 0 106 [(cI 5)]),
uO 6 (.uns 0 106 [(cI 5)]),
uO 7 (.uns 0 106 [(cI 5)])] [0,5,6,7])
(.seq (.seq (rg [mV 10 0,
cL 11 za8 [10],
lN 12 11,
mV 13 (cI 0)] [5,6,7,11,12,13])
(.block 0 (.loop (.scope q1))))
q2)))
def zlT:AFun:=⟨1,[.t 2,.t 3,.t 4],zwK z32 z6u,false,false⟩
def zho (C:Hd) (gl:GL) (q1 q2:ACode) (v0:AV) (h:Heap) (x:Esc) (K:KT):Prop:=
 wK (z13 0 106 [(AI 5)] h) fun t1 h2 y3=>
 wK (z13 0 106 [(AI 5)] h2) fun t4 h5 y6=>
 wK (z13 0 106 [(AI 5)] h5) fun t7 h8 y9=>
 C za8 [v0] h8 fun t10 h11 y12=>
 pK (oLen t10) fun t13=>
 NW C gl (.loop (.scope q1)) ⟨[(5,t1),(6,t4),(7,t7),(11,t10),(12,t13),(13,(AI 0))],h11,(y12++(y9++(y6++(y3++x))))⟩ (z0t 0 (seqN C gl q2 K))
theorem E_q03a {C gl q1 q2 v0 h x K}:NW C gl (zwK q1 q2) ⟨enter [v0],h,x⟩ K=zho C gl q1 q2 v0 h x K:=by kernel_rfl
theorem e_q03a {C gl v0 h x K}:NW C gl zlT.body ⟨enter [v0],h,x⟩ K=zho C gl z32 z6u v0 h x K:=E_q03a
def z3r:ACode:=.pr [1,6,7,15,16,17] (.seq (rg [bN 18 .lss 17 16] [1,6,7,15,16,17,18])
(.seq (.cond 18 .skip
(.exit 0))
(.seq (.block 1 (.seq (rg [mV 19 17,
iA 20 none 15 17,
lD 21 none 20,
mV 8 19,
mV 9 21] [1,6,7,8,9,15,16,17])
(.seq (rg [mV 22 7,
uO 23 (.un .not 22),
mV 24 23,
gD 25 24 true (.mv 8),
gD 26 24 true (.mv 6),
gD 27 24 true (.len 26),
gD 28 24 true (.bin .sub 27 (cI 1)),
gD 29 24 true (.bin .eql 25 28),
uO 30 (.pick 24 29 cF),
mV 31 30,
gD 32 31 false (.mv 1),
gD 33 31 false (.mv 9),
gD 34 31 false (.callv 32 [33]),
gD 35 31 false (.un .not 34),
uO 36 (.pick 31 cT 35)] [1,6,7,8,15,16,17,36])
(.cond 36 (.seq (rg [mV 37 8,
mV 4 37,
mV 5 cF] [4,5])
.ret)
.skip))))
(rg [bN 38 .add 17 (cI 1),
mV 17 38] [1,6,7,15,16,17]))))
def zdk (C:Hd) (gl:GL) (v1 v6 v7 v15 v16 v17:AV) (h:Heap) (x:Esc) (K:KT):Prop:=
 pK (oBin .lss v17 v16) fun t1=>
 z0i t1 (pK (z03 none v15 v17 h) fun t2=>
 pK (z0e none t2 h) fun t3=>
 pK (oUn .not v7) fun t4=>
 gM t4 true v17 h fun t5 h6 y7=>
 gM t4 true v6 h6 fun t8 h9 y10=>
 gP t4 true (oLen t8) h9 fun t11 h12 y13=>
 gP t4 true (oBin .sub t11 (AI 1)) h12 fun t14 h15 y16=>
 gP t4 true (oBin .eql t5 t14) h15 fun t17 h18 y19=>
 pK (z0K t4 t17 (AB false)) fun t20=>
 gM t20 false v1 h18 fun t21 h22 y23=>
 gM t20 false t3 h22 fun t24 h25 y26=>
 gV t20 false h25 (z8c C t21 [t24] h25) fun t27 h28 y29=>
 gP t20 false (oUn .not t27) h28 fun t30 h31 y32=>
 pK (z0K t20 (AB true) t30) fun t33=>
 z0i t33 (K .ret ⟨[(4,v17),(5,(AB false))],h31,(y32++(y29++(y26++(y23++(y19++(y16++(y13++(y10++(y7++x)))))))))⟩)
 (pK (oBin .add v17 (AI 1)) fun t34=>
 K .normal ⟨[(1,v1),(6,v6),(7,v7),(15,v15),(16,v16),(17,t34)],h31,(y32++(y29++(y26++(y23++(y19++(y16++(y13++(y10++(y7++x)))))))))⟩))
 (K (.exit 0) ⟨[(1,v1),(6,v6),(7,v7),(15,v15),(16,v16),(17,v17),(18,t1)],h,x⟩)
theorem znF {C gl e h x K}:NW C gl z3r ⟨e,h,x⟩ K=zdk C gl (aget e 1) (aget e 6) (aget e 7) (aget e 15) (aget e 16) (aget e 17) h x K:=by kernel_rfl
theorem zpV {C gl e h x K}:NW C gl (.loop z3r) ⟨e,h,x⟩ K=z1a C gl z3r K [(1,aget e 1),(6,aget e 6),(7,aget e 7),(15,aget e 15),(16,aget e 16),(17,aget e 17)] h x:=z0G
def z6g:ACode:=.pr [] (.seq (rg [mV 4 (cI 0),
mV 5 cT] [4,5])
.ret)
def z8r (C:Hd) (gl:GL) (h:Heap) (x:Esc) (K:KT):Prop:=
 K .ret ⟨[(4,(AI 0)),(5,(AB true))],h,x⟩
theorem z8D {C gl e h x K}:NW C gl z6g ⟨e,h,x⟩ K=z8r C gl h x K:=by kernel_rfl
def zw6 (q1 q2:ACode):ACode:=(.seq (rg [mV 4 (cI 0),
mV 5 cF] [0,1])
(.seq (rg [mV 11 0,
cL 12 zas [11],
mV 10 12,
eX 13 10 0,
eX 14 10 1,
mV 6 13,
mV 7 14] [1,6,7])
(.seq (.seq (rg [mV 15 6,
lN 16 15,
mV 17 (cI 0)] [1,6,7,15,16,17])
(.block 0 (.loop q1)))
q2)))
def zl0:AFun:=⟨2,[.t 4,.t 5],zw6 z3r z6g,false,false⟩
def zgX (C:Hd) (gl:GL) (q1 q2:ACode) (v0 v1:AV) (h:Heap) (x:Esc) (K:KT):Prop:=
 C zas [v0] h fun t1 h2 y3=>
 pK (oExt t1 0) fun t4=>
 pK (oExt t1 1) fun t5=>
 pK (oLen t4) fun t6=>
 NW C gl (.loop q1) ⟨[(1,v1),(6,t4),(7,t5),(15,t4),(16,t6),(17,(AI 0))],h2,(y3++x)⟩ (z0t 0 (seqN C gl q2 K))
theorem E_q001 {C gl q1 q2 v0 v1 h x K}:NW C gl (zw6 q1 q2) ⟨enter [v0,v1],h,x⟩ K=zgX C gl q1 q2 v0 v1 h x K:=by kernel_rfl
theorem e_q001 {C gl v0 v1 h x K}:NW C gl zl0.body ⟨enter [v0,v1],h,x⟩ K=zgX C gl z3r z6g v0 v1 h x K:=E_q001
def P_q065:ACode:=(.seq (rg [mV 3 cF] [0,1])
(.seq (rg [mV 7 0,
cL 8 zaO [7],
mV 6 8,
eX 9 6 0,
eX 10 6 1,
uO 4 (.alloc [.p (.int .i64 0),.p (.int .i64 0),.p (.int .i64 0),.p (.str []),.p (.str []),.p (.str [])]),
wO (.store (some 6) 4 9),
mV 5 10] [1,4,5])
(.seq (rg [lD 11 none 1,
lD 12 (some 6) 4,
uO 13 (.bsl false (some 6) 1 (.agg [.int .i64 0,.int .i64 0,.int .i64 0,.str [],.str [],.str []]) [(0,12)]),
uO 14 (.app (some 6) 11 13),
wO (.store none 1 14)] [5])
(.seq (rg [mV 15 5,
mV 3 15] [3])
.ret))))
def zmr:AFun:=⟨2,[.t 3],P_q065,false,false⟩
def znz (C:Hd) (gl:GL) (v0 v1:AV) (h:Heap) (x:Esc) (K:KT):Prop:=
 C zaO [v0] h fun t1 h2 y3=>
 pK (oExt t1 0) fun t4=>
 pK (oExt t1 1) fun t5=>
 alK [.p (.int .i64 0),.p (.int .i64 0),.p (.int .i64 0),.p (.str []),.p (.str []),.p (.str [])] h2 fun t6 h7 y8=>
 wK (z0m (some 6) t6 t4 h7) fun t9 h10 y11=>
 pK (z0e none v1 h10) fun t12=>
 pK (z0e (some 6) t6 h10) fun t13=>
 wK (oBsl false (some 6) 1 (.agg [.int .i64 0,.int .i64 0,.int .i64 0,.str [],.str [],.str []]) [(0,t13)] h10) fun t14 h15 y16=>
 wK (oApp (some 6) t12 t14 h15) fun t17 h18 y19=>
 wK (z0m none v1 t17 h18) fun t20 h21 y22=>
 K .ret ⟨[(3,t5)],h21,(y22++(y19++(y16++(y11++(y8++(y3++x))))))⟩
theorem e_q065 {C gl v0 v1 h x K}:NW C gl zmr.body ⟨enter [v0,v1],h,x⟩ K=znz C gl v0 v1 h x K:=by kernel_rfl
def z2F:ACode:=.pr [2,4,5,64,65,66] (.seq (rg [bN 67 .lss 66 65] [2,4,5,64,65,66,67])
(.seq (.cond 67 .skip
(.exit 1))
(.seq (.block 2 (.seq (rg [iA 68 none 64 66,
lD 69 none 68,
mV 7 69] [2,4,5,7,64,65,66])
(.seq (dr [dF (mV 70 7) [7],
dT (cL 71 z78 [70]) [70],
dF (mV 72 4) [4],
dA (iA 73 none 72 (cI 1)) [72] false [1] [],
dA (lD 74 none 73) [73] false [1] [],
dF (bN 75 .eql 71 74) [71,74]] [2,4,5,7,64,65,66,75])
(.cond 75 (.seq (rg [mV 76 7,
fA 77 1 none 5,
wO (.store none 77 76)] [2,5])
(.seq (rg [lD 78 (some 6) 5,
wO (.store (some 6) 2 78),
mV 3 cT] [2,3])
.ret))
.skip))))
(rg [bN 79 .add 66 (cI 1),
mV 66 79] [2,4,5,64,65,66]))))
def zer (C:Hd) (gl:GL) (v2 v4 v5 v64 v65 v66:AV) (h:Heap) (x:Esc) (K:KT):Prop:=
 pK (oBin .lss v66 v65) fun t1=>
 z0i t1 (pK (z03 none v64 v66 h) fun t2=>
 pK (z0e none t2 h) fun t3=>
 z1Q C z78 [t3] h fun t4 h5 y6=>
 pK (z03 none v4 (AI 1) h5) fun t7=>
 (pK (z03 none v4 (AI 1) h) fun v=>(fun u (g1:Heap) (y1:Esc)=>u=t7∧g1=h∧y1=[]) v h [])∧(pK (z0e none t7 h5) fun t8=>
 (pK (z0e none t7 h) fun v=>(fun u (g1:Heap) (y1:Esc)=>u=t8∧g1=h∧y1=[]) v h [])∧(pK (oBin .eql t4 t8) fun t9=>
 z0i t9 (pK (z0d 1 none v5) fun t10=>
 wK (z0m none t10 t3 h5) fun t11 h12 y13=>
 pK (z0e (some 6) v5 h12) fun t14=>
 wK (z0m (some 6) v2 t14 h12) fun t15 h16 y17=>
 K .ret ⟨[(2,v2),(3,(AB true))],h16,(y17++(y13++(y6++x)))⟩)
 (pK (oBin .add v66 (AI 1)) fun t18=>
 K .normal ⟨[(2,v2),(4,v4),(5,v5),(64,v64),(65,v65),(66,t18)],h5,(y6++x)⟩))))
 (K (.exit 1) ⟨[(2,v2),(4,v4),(5,v5),(64,v64),(65,v65),(66,v66),(67,t1)],h,x⟩)
theorem zoX {C gl e h x K}:NW C gl z2F ⟨e,h,x⟩ K=zer C gl (aget e 2) (aget e 4) (aget e 5) (aget e 64) (aget e 65) (aget e 66) h x K:=by kernel_rfl
theorem zq0 {C gl e h x K}:NW C gl (.loop z2F) ⟨e,h,x⟩ K=z1a C gl z2F K [(2,aget e 2),(4,aget e 4),(5,aget e 5),(64,aget e 64),(65,aget e 65),(66,aget e 66)] h x:=z0G
def z4A:ACode:=.pr [2] (.seq (rg [uO 80 (.build [.p (.int .i64 0),.p (.int .i64 0),.p (.int .i64 0),.p (.str []),.p (.str []),.p (.str [])] []),
wO (.store (some 6) 2 80),
mV 3 cF] [2,3])
.ret)
def z5S (C:Hd) (gl:GL) (v2:AV) (h:Heap) (x:Esc) (K:KT):Prop:=
 pK (z0y [.p (.int .i64 0),.p (.int .i64 0),.p (.int .i64 0),.p (.str []),.p (.str []),.p (.str [])] []) fun t1=>
 wK (z0m (some 6) v2 t1 h) fun t2 h3 y4=>
 K .ret ⟨[(2,v2),(3,(AB false))],h3,(y4++x)⟩
theorem zoY {C gl e h x K}:NW C gl z4A ⟨e,h,x⟩ K=z5S C gl (aget e 2) h x K:=by kernel_rfl
def z4B:ACode:=.pr [2,5] (.seq (rg [lD 110 (some 6) 5,
wO (.store (some 6) 2 110),
mV 3 cT] [2,3])
.ret)
def z3l (C:Hd) (gl:GL) (v2 v5:AV) (h:Heap) (x:Esc) (K:KT):Prop:=
 pK (z0e (some 6) v5 h) fun t1=>
 wK (z0m (some 6) v2 t1 h) fun t2 h3 y4=>
 K .ret ⟨[(2,v2),(3,(AB true))],h3,(y4++x)⟩
theorem zoZ {C gl e h x K}:NW C gl z4B ⟨e,h,x⟩ K=z3l C gl (aget e 2) (aget e 5) h x K:=by kernel_rfl
def zxb (q1 q2 q3:ACode):ACode:=(.seq (rg [uO 2 (.alloc [.p (.int .i64 0),.p (.int .i64 0),.p (.int .i64 0),.p (.str []),.p (.str []),.p (.str [])]),
mV 3 cF] [0,2])
(.seq (rg [mV 10 0,
cL 11 z77 [10,(cS [32])],
mV 4 11] [2,4])
(.seq (.seq (rg [mV 12 4,
cL 13 z5Z [12,(cS [])]] [2,4,13])
(.cond 13 (.seq (rg [uO 14 (.build [.p (.int .i64 0),.p (.int .i64 0),.p (.int .i64 0),.p (.str []),.p (.str []),.p (.str [])] []),
wO (.store (some 6) 2 14),
mV 3 cF] [2,3])
.ret)
.skip))
(.seq (rg [mV 15 4,
iA 16 none 15 (cI 0),
lD 17 none 16,
cL 18 zaM [17],
uO 19 (.build [.p (.int .i64 0),.p (.int .i64 0),.p (.int .i64 0),.p (.str []),.p (.str []),.p (.str [])] [(0,1,18)]),
uO 5 (.alloc [.p (.int .i64 0),.p (.int .i64 0),.p (.int .i64 0),.p (.str []),.p (.str []),.p (.str [])]),
wO (.store (some 6) 5 19)] [2,4,5])
(.seq (.seq (rg [fA 20 0 none 5,
lD 21 none 20,
cL 22 z29 [21],
mV 23 22,
gD 24 23 true (.mv 4),
gD 25 23 true (.len 24),
gD 26 23 true (.bin .eql 25 (cI 4)),
uO 27 (.pick 23 26 cF)] [2,4,5,27])
(.cond 27 (.seq (dr [dF (mV 28 4) [4],
dF (iA 29 none 28 (cI 1)) [28],
dF (lD 30 none 29) [29],
dF (mV 31 4) [4],
dF (iA 32 none 31 (cI 2)) [31],
dF (lD 33 none 32) [32],
dF (mV 34 4) [4],
dF (iA 35 none 34 (cI 3)) [34],
dF (lD 36 none 35) [35],
dF (fA 37 3 none 5) [5],
dA (wO (.store none 37 30)) [37,30] true [] [4,5,7,8],
dF (fA 38 4 none 5) [5],
dA (wO (.store none 38 33)) [38,33] true [] [7,8],
dF (fA 39 5 none 5) [5],
dT (wO (.store none 39 36)) [39,36]] [2,5])
(.seq (rg [lD 40 (some 6) 5,
wO (.store (some 6) 2 40),
mV 3 cT] [2,3])
.ret))
.skip))
(.seq (.seq (rg [fA 41 0 none 5,
lD 42 none 41,
bN 43 .eql 42 (cI 0),
mV 44 43,
gD 45 44 false (.mv 4),
gD 46 44 false (.len 45),
gD 47 44 false (.bin .neq 46 (cI 2)),
uO 48 (.pick 44 cT 47)] [2,4,5,48])
(.cond 48 (.seq (rg [uO 49 (.build [.p (.int .i64 0),.p (.int .i64 0),.p (.int .i64 0),.p (.str []),.p (.str []),.p (.str [])] []),
wO (.store (some 6) 2 49),
mV 3 cF] [2,3])
.ret)
.skip))
(.seq (.block 0 (.seq (rg [fA 51 0 none 5,
lD 52 none 51,
bN 53 .eql 52 (cI 1),
mV 54 53,
gD 55 54 false (.faddr 0 none 5),
gD 56 54 false (.load none 55),
gD 57 54 false (.bin .eql 56 (cI 2)),
uO 58 (.pick 54 cT 57),
mV 59 58,
gD 60 59 false (.faddr 0 none 5),
gD 61 59 false (.load none 60),
gD 62 59 false (.bin .eql 61 (cI 10)),
uO 63 (.pick 59 cT 62),
mV 50 63] [2,4,5,50])
(.cond 50 (.seq (.seq (rg [uO 64 (.bsl false none 4 (.int .i64 0) [(0,(cI 0)),(1,(cI 1)),(2,(cI 6)),(3,(cI 13))]),
lN 65 64,
mV 66 (cI 0)] [2,4,5,64,65,66])
(.block 1 (.loop q1)))
q2)
(.seq (rg [fA 82 0 none 5,
lD 83 none 82,
bN 84 .eql 83 (cI 9),
mV 81 84] [2,4,5,81])
(.cond 81 (.seq (rg [mV 86 4,
iA 87 none 86 (cI 1),
lD 88 none 87,
cL 89 zat [88,(cI 15)],
mV 85 89,
eX 90 85 0,
eX 91 85 1,
mV 8 90,
mV 9 91] [2,5,8,9])
(.seq (rg [mV 92 8,
fA 93 2 none 5,
wO (.store none 93 92)] [2,5,9])
(.seq (rg [lD 94 (some 6) 5,
mV 95 9,
wO (.store (some 6) 2 94),
mV 3 95] [2,3])
.ret)))
(.seq (rg [fA 97 0 none 5,
lD 98 none 97,
cL 99 z29 [98],
mV 100 99,
gD 101 100 false (.mv 4),
gD 102 100 false (.iaddr none 101 (cI 1)),
gD 103 100 false (.load none 102),
gD 104 100 false (.bin .neq 103 (cS [45])),
uO 105 (.pick 100 cT 104),
mV 96 105] [2,4,5,96])
(.cond 96 (rg [mV 106 4,
iA 107 none 106 (cI 1),
lD 108 none 107,
fA 109 3 none 5,
wO (.store none 109 108)] [2,5])
.skip)))))))
q3)))))))
def zmv:AFun:=⟨1,[.cell 2 (some 6),.t 3],zxb z2F z4A z4B,false,false⟩
def z23 (C:Hd) (gl:GL) (q1 q2 q3:ACode) (v0:AV) (h:Heap) (x:Esc) (K:KT):Prop:=
 alK [.p (.int .i64 0),.p (.int .i64 0),.p (.int .i64 0),.p (.str []),.p (.str []),.p (.str [])] h fun t1 h2 y3=>
 C z77 [v0,(.p (.str [32]))] h2 fun t4 h5 y6=>
 C z5Z [t4,(.p (.str []))] h5 fun t7 h8 y9=>
 z0i t7 (pK (z0y [.p (.int .i64 0),.p (.int .i64 0),.p (.int .i64 0),.p (.str []),.p (.str []),.p (.str [])] []) fun t10=>
 wK (z0m (some 6) t1 t10 h8) fun t11 h12 y13=>
 K .ret ⟨[(2,t1),(3,(AB false))],h12,(y13++(y9++(y6++(y3++x))))⟩)
 (pK (z03 none t4 (AI 0) h8) fun t14=>
 pK (z0e none t14 h8) fun t15=>
 C zaM [t15] h8 fun t16 h17 y18=>
 pK (z0y [.p (.int .i64 0),.p (.int .i64 0),.p (.int .i64 0),.p (.str []),.p (.str []),.p (.str [])] [(0,1,t16)]) fun t19=>
 alK [.p (.int .i64 0),.p (.int .i64 0),.p (.int .i64 0),.p (.str []),.p (.str []),.p (.str [])] h17 fun t20 h21 y22=>
 wK (z0m (some 6) t20 t19 h21) fun t23 h24 y25=>
 pK (z0d 0 none t20) fun t26=>
 pK (z0e none t26 h24) fun t27=>
 C z29 [t27] h24 fun t28 h29 y30=>
 gM t28 true t4 h29 fun t31 h32 y33=>
 gP t28 true (oLen t31) h32 fun t34 h35 y36=>
 gP t28 true (oBin .eql t34 (AI 4)) h35 fun t37 h38 y39=>
 pK (z0K t28 t37 (AB false)) fun t40=>
 z0i t40 (pK (z03 none t4 (AI 1) h38) fun t41=>
 pK (z0e none t41 h38) fun t42=>
 pK (z03 none t4 (AI 2) h38) fun t43=>
 pK (z0e none t43 h38) fun t44=>
 pK (z03 none t4 (AI 3) h38) fun t45=>
 pK (z0e none t45 h38) fun t46=>
 pK (z0d 3 none t20) fun t47=>
 wK (z0m none t47 t42 h38) fun t48 h49 y50=>
 (pK (z03 none t4 (AI 2) h49) fun v=>(fun u (g1:Heap) (y1:Esc)=>u=t43∧g1=h49∧y1=[]) v h49 [])∧((pK (z0e none t43 h49) fun v=>(fun u (g1:Heap) (y1:Esc)=>u=t44∧g1=h49∧y1=[]) v h49 [])∧((pK (z03 none t4 (AI 3) h49) fun v=>(fun u (g1:Heap) (y1:Esc)=>u=t45∧g1=h49∧y1=[]) v h49 [])∧((pK (z0e none t45 h49) fun v=>(fun u (g1:Heap) (y1:Esc)=>u=t46∧g1=h49∧y1=[]) v h49 [])∧(pK (z0d 4 none t20) fun t51=>
 wK (z0m none t51 t44 h49) fun t52 h53 y54=>
 (pK (z03 none t4 (AI 3) h53) fun v=>(fun u (g1:Heap) (y1:Esc)=>u=t45∧g1=h53∧y1=[]) v h53 [])∧((pK (z0e none t45 h53) fun v=>(fun u (g1:Heap) (y1:Esc)=>u=t46∧g1=h53∧y1=[]) v h53 [])∧(pK (z0d 5 none t20) fun t55=>
 wK (z0m none t55 t46 h53) fun t56 h57 y58=>
 pK (z0e (some 6) t20 h57) fun t59=>
 wK (z0m (some 6) t1 t59 h57) fun t60 h61 y62=>
 K .ret ⟨[(2,t1),(3,(AB true))],h61,(y62++(y58++(y54++(y50++(y39++(y36++(y33++(y30++(y25++(y22++(y18++(y9++(y6++(y3++x))))))))))))))⟩)))))))
 (pK (z0d 0 none t20) fun t63=>
 pK (z0e none t63 h38) fun t64=>
 pK (oBin .eql t64 (AI 0)) fun t65=>
 gM t65 false t4 h38 fun t66 h67 y68=>
 gP t65 false (oLen t66) h67 fun t69 h70 y71=>
 gP t65 false (oBin .neq t69 (AI 2)) h70 fun t72 h73 y74=>
 pK (z0K t65 (AB true) t72) fun t75=>
 z0i t75 (pK (z0y [.p (.int .i64 0),.p (.int .i64 0),.p (.int .i64 0),.p (.str []),.p (.str []),.p (.str [])] []) fun t76=>
 wK (z0m (some 6) t1 t76 h73) fun t77 h78 y79=>
 K .ret ⟨[(2,t1),(3,(AB false))],h78,(y79++(y74++(y71++(y68++(y39++(y36++(y33++(y30++(y25++(y22++(y18++(y9++(y6++(y3++x))))))))))))))⟩)
 (pK (z0d 0 none t20) fun t80=>
 pK (z0e none t80 h73) fun t81=>
 pK (oBin .eql t81 (AI 1)) fun t82=>
 gP t82 false (z0d 0 none t20) h73 fun t83 h84 y85=>
 gP t82 false (z0e none t83 h84) h84 fun t86 h87 y88=>
 gP t82 false (oBin .eql t86 (AI 2)) h87 fun t89 h90 y91=>
 pK (z0K t82 (AB true) t89) fun t92=>
 gP t92 false (z0d 0 none t20) h90 fun t93 h94 y95=>
 gP t92 false (z0e none t93 h94) h94 fun t96 h97 y98=>
 gP t92 false (oBin .eql t96 (AI 10)) h97 fun t99 h100 y101=>
 pK (z0K t92 (AB true) t99) fun t102=>
 z0i t102 (wK (oBsl false none 4 (.int .i64 0) [(0,(AI 0)),(1,(AI 1)),(2,(AI 6)),(3,(AI 13))] h100) fun t103 h104 y105=>
 pK (oLen t103) fun t106=>
 NW C gl (.loop q1) ⟨[(2,t1),(4,t4),(5,t20),(64,t103),(65,t106),(66,(AI 0))],h104,(y105++(y101++(y98++(y95++(y91++(y88++(y85++(y74++(y71++(y68++(y39++(y36++(y33++(y30++(y25++(y22++(y18++(y9++(y6++(y3++x))))))))))))))))))))⟩ (z0t 1 (seqN C gl q2 (z0t 0 (seqN C gl q3 K)))))
 (pK (z0d 0 none t20) fun t107=>
 pK (z0e none t107 h100) fun t108=>
 pK (oBin .eql t108 (AI 9)) fun t109=>
 z0i t109 (pK (z03 none t4 (AI 1) h100) fun t110=>
 pK (z0e none t110 h100) fun t111=>
 C zat [t111,(AI 15)] h100 fun t112 h113 y114=>
 pK (oExt t112 0) fun t115=>
 pK (oExt t112 1) fun t116=>
 pK (z0d 2 none t20) fun t117=>
 wK (z0m none t117 t115 h113) fun t118 h119 y120=>
 pK (z0e (some 6) t20 h119) fun t121=>
 wK (z0m (some 6) t1 t121 h119) fun t122 h123 y124=>
 K .ret ⟨[(2,t1),(3,t116)],h123,(y124++(y120++(y114++(y101++(y98++(y95++(y91++(y88++(y85++(y74++(y71++(y68++(y39++(y36++(y33++(y30++(y25++(y22++(y18++(y9++(y6++(y3++x))))))))))))))))))))))⟩)
 (pK (z0d 0 none t20) fun t125=>
 pK (z0e none t125 h100) fun t126=>
 C z29 [t126] h100 fun t127 h128 y129=>
 gM t127 false t4 h128 fun t130 h131 y132=>
 gP t127 false (z03 none t130 (AI 1) h131) h131 fun t133 h134 y135=>
 gP t127 false (z0e none t133 h134) h134 fun t136 h137 y138=>
 gP t127 false (oBin .neq t136 (.p (.str [45]))) h137 fun t139 h140 y141=>
 pK (z0K t127 (AB true) t139) fun t142=>
 z0i t142 (pK (z03 none t4 (AI 1) h140) fun t143=>
 pK (z0e none t143 h140) fun t144=>
 pK (z0d 3 none t20) fun t145=>
 wK (z0m none t145 t144 h140) fun t146 h147 y148=>
 NW C gl q3 ⟨[(2,t1),(5,t20)],h147,(y148++(y141++(y138++(y135++(y132++(y129++(y101++(y98++(y95++(y91++(y88++(y85++(y74++(y71++(y68++(y39++(y36++(y33++(y30++(y25++(y22++(y18++(y9++(y6++(y3++x)))))))))))))))))))))))))⟩ K)
 (NW C gl q3 ⟨[(2,t1),(4,t4),(5,t20),(96,t142)],h140,(y141++(y138++(y135++(y132++(y129++(y101++(y98++(y95++(y91++(y88++(y85++(y74++(y71++(y68++(y39++(y36++(y33++(y30++(y25++(y22++(y18++(y9++(y6++(y3++x))))))))))))))))))))))))⟩ K))))))
theorem E_q06i {C gl q1 q2 q3 v0 h x K}:NW C gl (zxb q1 q2 q3) ⟨enter [v0],h,x⟩ K=z23 C gl q1 q2 q3 v0 h x K:=by kernel_rfl
theorem e_q06i {C gl v0 h x K}:NW C gl zmv.body ⟨enter [v0],h,x⟩ K=z23 C gl z2F z4A z4B v0 h x K:=E_q06i
def z6m:ACode:=.pr [0] (.seq (rg [mV 15 0,
mV 4 15] [4])
.ret)
def zdx (C:Hd) (gl:GL) (v0:AV) (h:Heap) (x:Esc) (K:KT):Prop:=
 K .ret ⟨[(4,v0)],h,x⟩
theorem znW {C gl e h x K}:NW C gl z6m ⟨e,h,x⟩ K=zdx C gl (aget e 0) h x K:=by kernel_rfl
def zwC (q1:ACode):ACode:=(.seq (rg [mV 4 (cI 0)] [0,1])
(.seq (.seq (rg [mV 5 1,
bN 6 .lss 5 (cI 1)] [0,1,6])
(.cond 6 (.seq (rg [mV 4 (cI 0)] [4])
.ret)
.skip))
(.seq (rg [mV 7 0,
mV 8 1,
bN 9 .rem 7 8,
mV 0 9] [0,1])
(.seq (.seq (rg [mV 10 0,
bN 11 .lss 10 (cI 0)] [0,1,11])
(.cond 11 (rg [mV 12 0,
mV 13 1,
bN 14 .add 12 13,
mV 0 14] [0])
.skip))
q1))))
def zlD:AFun:=⟨2,[.t 4],zwC z6m,false,false⟩
def zhg (C:Hd) (gl:GL) (q1:ACode) (v0 v1:AV) (h:Heap) (x:Esc) (K:KT):Prop:=
 pK (oBin .lss v1 (AI 1)) fun t1=>
 z0i t1 (K .ret ⟨[(4,(AI 0))],h,x⟩)
 (pK (oBin .rem v0 v1) fun t2=>
 pK (oBin .lss t2 (AI 0)) fun t3=>
 z0i t3 (pK (oBin .add t2 v1) fun t4=>
 NW C gl q1 ⟨[(0,t4)],h,x⟩ K)
 (NW C gl q1 ⟨[(0,t2),(1,v1),(11,t3)],h,x⟩ K))
theorem E_q02l {C gl q1 v0 v1 h x K}:NW C gl (zwC q1) ⟨enter [v0,v1],h,x⟩ K=zhg C gl q1 v0 v1 h x K:=by kernel_rfl
theorem e_q02l {C gl v0 v1 h x K}:NW C gl zlD.body ⟨enter [v0,v1],h,x⟩ K=zhg C gl z6m v0 v1 h x K:=E_q02l
def P_q009:ACode:=(.seq (rg [mV 6 cF] [0,1,2])
(.seq (rg [mV 7 0,
mV 8 1,
bN 9 .lss 7 8,
mV 10 9,
gD 11 10 false (.mv 0),
gD 12 10 false (.mv 2),
gD 13 10 false (.bin .gtr 11 12),
uO 14 (.pick 10 cT 13),
mV 6 14] [6])
.ret))
def zg6:AFun:=⟨3,[.t 6],P_q009,false,false⟩
def znb (C:Hd) (gl:GL) (v0 v1 v2:AV) (h:Heap) (x:Esc) (K:KT):Prop:=
 pK (oBin .lss v0 v1) fun t1=>
 gM t1 false v0 h fun t2 h3 y4=>
 gM t1 false v2 h3 fun t5 h6 y7=>
 gP t1 false (oBin .gtr t2 t5) h6 fun t8 h9 y10=>
 pK (z0K t1 (AB true) t8) fun t11=>
 K .ret ⟨[(6,t11)],h9,(y10++(y7++(y4++x)))⟩
theorem e_q009 {C gl v0 v1 v2 h x K}:NW C gl zg6.body ⟨enter [v0,v1,v2],h,x⟩ K=znb C gl v0 v1 v2 h x K:=by kernel_rfl
def z6A:ACode:=.pr [2,4] (.seq (rg [lD 56 (some 6) 4,
wO (.store (some 6) 2 56),
mV 3 (cI 0)] [2,3])
.ret)
def zel (C:Hd) (gl:GL) (v2 v4:AV) (h:Heap) (x:Esc) (K:KT):Prop:=
 pK (z0e (some 6) v4 h) fun t1=>
 wK (z0m (some 6) v2 t1 h) fun t2 h3 y4=>
 K .ret ⟨[(2,v2),(3,(AI 0))],h3,(y4++x)⟩
theorem zoS {C gl e h x K}:NW C gl z6A ⟨e,h,x⟩ K=zel C gl (aget e 2) (aget e 4) h x K:=by kernel_rfl
def zwY (q1:ACode):ACode:=(.seq (rg [uO 1 (.box 0),
uO 2 (.alloc [.p (.int .i64 0),.p (.int .i64 0),.p (.int .i64 0),.p (.str []),.p (.str []),.p (.str [])]),
mV 3 (cI 0)] [1,2])
(.seq (rg [lD 5 (some 6) 1,
uO 4 (.alloc [.p (.int .i64 0),.p (.int .i64 0),.p (.int .i64 0),.p (.str []),.p (.str []),.p (.str [])]),
wO (.store (some 6) 4 5)] [1,2,4])
(.seq (.block 0 (.seq (rg [fA 18 0 none 1,
lD 19 none 18,
bN 20 .eql 19 (cI 1),
mV 21 20,
gD 22 21 false (.faddr 0 none 1),
gD 23 21 false (.load none 22),
gD 24 21 false (.bin .eql 23 (cI 2)),
uO 25 (.pick 21 cT 24),
mV 26 25,
gD 27 26 false (.faddr 0 none 1),
gD 28 26 false (.load none 27),
gD 29 26 false (.bin .eql 28 (cI 10)),
uO 30 (.pick 26 cT 29),
mV 17 30] [1,2,4,17])
(.cond 17 (.seq (rg [fA 31 1 none 4,
wO (.store none 31 (cI 0))] [1,2,4])
(.seq (rg [fA 32 1 none 1,
lD 33 none 32,
cL 34 z8T [33],
uO 35 (.un .not 34)] [2,4,35])
(.cond 35 (.seq (rg [lD 36 (some 6) 4,
wO (.store (some 6) 2 36),
mV 3 (cI 1)] [2,3])
.ret)
.skip)))
(.seq (rg [fA 38 0 none 1,
lD 39 none 38,
bN 40 .eql 39 (cI 9),
mV 37 40] [1,2,4,37])
(.cond 37 (.seq (rg [fA 41 2 none 4,
wO (.store none 41 (cI 0))] [1,2,4])
(.seq (rg [fA 42 2 none 1,
lD 43 none 42,
cL 44 z1i [43,(cI 0),(cI 20000)]] [2,4,44])
(.cond 44 (.seq (rg [lD 45 (some 6) 4,
wO (.store (some 6) 2 45),
mV 3 (cI 1)] [2,3])
.ret)
.skip)))
(.seq (rg [fA 47 0 none 1,
lD 48 none 47,
cL 49 z29 [48],
mV 46 49] [1,2,4,46])
(.cond 46 (.seq (rg [fA 50 3 none 4,
wO (.store none 50 (cS [])),
fA 51 4 none 4,
wO (.store none 51 (cS [])),
fA 52 5 none 4,
wO (.store none 52 (cS []))] [1,2,4])
(.seq (dr [dF (lD 53 (some 6) 4) [4],
dF (lD 54 (some 6) 1) [1],
dA (cL 55 z8R [54]) [54] true [] [0],
dT (wO (.store (some 6) 2 53)) [2,53],
dF (mV 3 55) [55]] [2,3])
.ret))
(.seq (rg [fA 6 3 none 4,
wO (.store none 6 (cS []))] [1,2,4])
(.seq (.seq (rg [fA 7 3 none 1,
lD 8 none 7,
cL 9 z26 [8],
uO 10 (.un .not 9)] [1,2,4,10])
(.cond 10 (.seq (rg [lD 11 (some 6) 4,
wO (.store (some 6) 2 11),
mV 3 (cI 9)] [2,3])
.ret)
.skip))
(.seq (rg [fA 12 3 none 1,
lD 13 none 12,
uO 14 (.lens 13),
bN 15 .gtr 14 (cI 2000)] [2,4,15])
(.cond 15 (.seq (rg [lD 16 (some 6) 4,
wO (.store (some 6) 2 16),
mV 3 (cI 2)] [2,3])
.ret)
.skip)))))))))))
q1)))
def zgG:AFun:=⟨1,[.cell 2 (some 6),.t 3],zwY z6A,false,false⟩
def z2S (C:Hd) (gl:GL) (q1:ACode) (v0:AV) (h:Heap) (x:Esc) (K:KT):Prop:=
 wK (oBox v0 h) fun t1 h2 y3=>
 alK [.p (.int .i64 0),.p (.int .i64 0),.p (.int .i64 0),.p (.str []),.p (.str []),.p (.str [])] h2 fun t4 h5 y6=>
 pK (z0e (some 6) t1 h5) fun t7=>
 alK [.p (.int .i64 0),.p (.int .i64 0),.p (.int .i64 0),.p (.str []),.p (.str []),.p (.str [])] h5 fun t8 h9 y10=>
 wK (z0m (some 6) t8 t7 h9) fun t11 h12 y13=>
 pK (z0d 0 none t1) fun t14=>
 pK (z0e none t14 h12) fun t15=>
 pK (oBin .eql t15 (AI 1)) fun t16=>
 gP t16 false (z0d 0 none t1) h12 fun t17 h18 y19=>
 gP t16 false (z0e none t17 h18) h18 fun t20 h21 y22=>
 gP t16 false (oBin .eql t20 (AI 2)) h21 fun t23 h24 y25=>
 pK (z0K t16 (AB true) t23) fun t26=>
 gP t26 false (z0d 0 none t1) h24 fun t27 h28 y29=>
 gP t26 false (z0e none t27 h28) h28 fun t30 h31 y32=>
 gP t26 false (oBin .eql t30 (AI 10)) h31 fun t33 h34 y35=>
 pK (z0K t26 (AB true) t33) fun t36=>
 z0i t36 (pK (z0d 1 none t8) fun t37=>
 wK (z0m none t37 (AI 0) h34) fun t38 h39 y40=>
 pK (z0d 1 none t1) fun t41=>
 pK (z0e none t41 h39) fun t42=>
 C z8T [t42] h39 fun t43 h44 y45=>
 pK (oUn .not t43) fun t46=>
 z0i t46 (pK (z0e (some 6) t8 h44) fun t47=>
 wK (z0m (some 6) t4 t47 h44) fun t48 h49 y50=>
 K .ret ⟨[(2,t4),(3,(AI 1))],h49,(y50++(y45++(y40++(y35++(y32++(y29++(y25++(y22++(y19++(y13++(y10++(y6++(y3++x)))))))))))))⟩)
 (NW C gl q1 ⟨[(2,t4),(4,t8),(35,t46)],h44,(y45++(y40++(y35++(y32++(y29++(y25++(y22++(y19++(y13++(y10++(y6++(y3++x))))))))))))⟩ K))
 (pK (z0d 0 none t1) fun t51=>
 pK (z0e none t51 h34) fun t52=>
 pK (oBin .eql t52 (AI 9)) fun t53=>
 z0i t53 (pK (z0d 2 none t8) fun t54=>
 wK (z0m none t54 (AI 0) h34) fun t55 h56 y57=>
 pK (z0d 2 none t1) fun t58=>
 pK (z0e none t58 h56) fun t59=>
 C z1i [t59,(AI 0),(AI 20000)] h56 fun t60 h61 y62=>
 z0i t60 (pK (z0e (some 6) t8 h61) fun t63=>
 wK (z0m (some 6) t4 t63 h61) fun t64 h65 y66=>
 K .ret ⟨[(2,t4),(3,(AI 1))],h65,(y66++(y62++(y57++(y35++(y32++(y29++(y25++(y22++(y19++(y13++(y10++(y6++(y3++x)))))))))))))⟩)
 (NW C gl q1 ⟨[(2,t4),(4,t8),(44,t60)],h61,(y62++(y57++(y35++(y32++(y29++(y25++(y22++(y19++(y13++(y10++(y6++(y3++x))))))))))))⟩ K))
 (pK (z0d 0 none t1) fun t67=>
 pK (z0e none t67 h34) fun t68=>
 C z29 [t68] h34 fun t69 h70 y71=>
 z0i t69 (pK (z0d 3 none t8) fun t72=>
 wK (z0m none t72 (.p (.str [])) h70) fun t73 h74 y75=>
 pK (z0d 4 none t8) fun t76=>
 wK (z0m none t76 (.p (.str [])) h74) fun t77 h78 y79=>
 pK (z0d 5 none t8) fun t80=>
 wK (z0m none t80 (.p (.str [])) h78) fun t81 h82 y83=>
 pK (z0e (some 6) t8 h82) fun t84=>
 pK (z0e (some 6) t1 h82) fun t85=>
 z1Q C z8R [t85] h82 fun t86 h87 y88=>
 (pK (z0e (some 6) t8 h87) fun v=>(fun u (g1:Heap) (y1:Esc)=>u=t84∧g1=h87∧y1=[]) v h87 [])∧(wK (z0m (some 6) t4 t84 h87) fun t89 h90 y91=>
 K .ret ⟨[(2,t4),(3,t86)],h90,(y91++(y88++(y83++(y79++(y75++(y71++(y35++(y32++(y29++(y25++(y22++(y19++(y13++(y10++(y6++(y3++x))))))))))))))))⟩))
 (pK (z0d 3 none t8) fun t92=>
 wK (z0m none t92 (.p (.str [])) h70) fun t93 h94 y95=>
 pK (z0d 3 none t1) fun t96=>
 pK (z0e none t96 h94) fun t97=>
 C z26 [t97] h94 fun t98 h99 y100=>
 pK (oUn .not t98) fun t101=>
 z0i t101 (pK (z0e (some 6) t8 h99) fun t102=>
 wK (z0m (some 6) t4 t102 h99) fun t103 h104 y105=>
 K .ret ⟨[(2,t4),(3,(AI 9))],h104,(y105++(y100++(y95++(y71++(y35++(y32++(y29++(y25++(y22++(y19++(y13++(y10++(y6++(y3++x))))))))))))))⟩)
 (pK (z0d 3 none t1) fun t106=>
 pK (z0e none t106 h99) fun t107=>
 pK (z0C t107) fun t108=>
 pK (oBin .gtr t108 (AI 2000)) fun t109=>
 z0i t109 (pK (z0e (some 6) t8 h99) fun t110=>
 wK (z0m (some 6) t4 t110 h99) fun t111 h112 y113=>
 K .ret ⟨[(2,t4),(3,(AI 2))],h112,(y113++(y100++(y95++(y71++(y35++(y32++(y29++(y25++(y22++(y19++(y13++(y10++(y6++(y3++x))))))))))))))⟩)
 (NW C gl q1 ⟨[(2,t4),(4,t8),(15,t109)],h99,(y100++(y95++(y71++(y35++(y32++(y29++(y25++(y22++(y19++(y13++(y10++(y6++(y3++x)))))))))))))⟩ K)))))
theorem E_q06e {C gl q1 v0 h x K}:NW C gl (zwY q1) ⟨enter [v0],h,x⟩ K=z2S C gl q1 v0 h x K:=by kernel_rfl
theorem e_q06e {C gl v0 h x K}:NW C gl zgG.body ⟨enter [v0],h,x⟩ K=z2S C gl z6A v0 h x K:=E_q06e
def P_q06r:ACode:=(.seq (rg [uO 0 (.alloc [.p (.int .i64 0),.p (.int .i64 0),.p (.int .i64 0),.p (.str []),.p (.str []),.p (.str []),.p (.int .i64 0),.p (.int .i64 0),.p (.int .i64 0),.p (.str []),.p (.str []),.p (.str []),.p (.int .i64 0),.p (.int .i64 0),.p (.int .i64 0),.p (.str []),.p (.str []),.p (.str []),.p (.int .i64 0),.p (.int .i64 0),.p (.int .i64 0),.p (.str []),.p (.str []),.p (.str []),.p (.int .i64 0),.p (.int .i64 0),.p (.int .i64 0),.p (.str []),.p (.str []),.p (.str []),.p (.int .i64 0),.p (.int .i64 0),.p (.int .i64 0),.p (.str []),.p (.str []),.p (.str [])])] [0])
(.seq (rg [uO 1 (.build [.p (.int .i64 0),.p (.int .i64 0),.p (.int .i64 0),.p (.str []),.p (.str []),.p (.str [])] [(0,1,(cI 1)),(1,1,(cI 1))]),
uO 2 (.build [.p (.int .i64 0),.p (.int .i64 0),.p (.int .i64 0),.p (.str []),.p (.str []),.p (.str [])] [(0,1,(cI 2)),(1,1,(cI 1))]),
uO 3 (.build [.p (.int .i64 0),.p (.int .i64 0),.p (.int .i64 0),.p (.str []),.p (.str []),.p (.str [])] [(0,1,(cI 3))]),
uO 4 (.build [.p (.int .i64 0),.p (.int .i64 0),.p (.int .i64 0),.p (.str []),.p (.str []),.p (.str [])] [(0,1,(cI 4))]),
uO 5 (.build [.p (.int .i64 0),.p (.int .i64 0),.p (.int .i64 0),.p (.str []),.p (.str []),.p (.str [])] [(0,1,(cI 5))]),
uO 6 (.build [.p (.int .i64 0),.p (.int .i64 0),.p (.int .i64 0),.p (.str []),.p (.str []),.p (.str [])] [(0,1,(cI 6))]),
uO 7 (.build [.p (.int .i64 0),.p (.int .i64 0),.p (.int .i64 0),.p (.str []),.p (.str []),.p (.str []),.p (.int .i64 0),.p (.int .i64 0),.p (.int .i64 0),.p (.str []),.p (.str []),.p (.str []),.p (.int .i64 0),.p (.int .i64 0),.p (.int .i64 0),.p (.str []),.p (.str []),.p (.str []),.p (.int .i64 0),.p (.int .i64 0),.p (.int .i64 0),.p (.str []),.p (.str []),.p (.str []),.p (.int .i64 0),.p (.int .i64 0),.p (.int .i64 0),.p (.str []),.p (.str []),.p (.str []),.p (.int .i64 0),.p (.int .i64 0),.p (.int .i64 0),.p (.str []),.p (.str []),.p (.str [])] [(0,6,1),(6,6,2),(12,6,3),(18,6,4),(24,6,5),(30,6,6)]),
wO (.store (some 36) 0 7)] [0])
.ret))
def zgP:AFun:=⟨0,[.cell 0 (some 36)],P_q06r,false,false⟩
def zn0 (C:Hd) (gl:GL) (h:Heap) (x:Esc) (K:KT):Prop:=
 alK [.p (.int .i64 0),.p (.int .i64 0),.p (.int .i64 0),.p (.str []),.p (.str []),.p (.str []),.p (.int .i64 0),.p (.int .i64 0),.p (.int .i64 0),.p (.str []),.p (.str []),.p (.str []),.p (.int .i64 0),.p (.int .i64 0),.p (.int .i64 0),.p (.str []),.p (.str []),.p (.str []),.p (.int .i64 0),.p (.int .i64 0),.p (.int .i64 0),.p (.str []),.p (.str []),.p (.str []),.p (.int .i64 0),.p (.int .i64 0),.p (.int .i64 0),.p (.str []),.p (.str []),.p (.str []),.p (.int .i64 0),.p (.int .i64 0),.p (.int .i64 0),.p (.str []),.p (.str []),.p (.str [])] h fun t1 h2 y3=>
 pK (z0y [.p (.int .i64 0),.p (.int .i64 0),.p (.int .i64 0),.p (.str []),.p (.str []),.p (.str [])] [(0,1,(AI 1)),(1,1,(AI 1))]) fun t4=>
 pK (z0y [.p (.int .i64 0),.p (.int .i64 0),.p (.int .i64 0),.p (.str []),.p (.str []),.p (.str [])] [(0,1,(AI 2)),(1,1,(AI 1))]) fun t5=>
 pK (z0y [.p (.int .i64 0),.p (.int .i64 0),.p (.int .i64 0),.p (.str []),.p (.str []),.p (.str [])] [(0,1,(AI 3))]) fun t6=>
 pK (z0y [.p (.int .i64 0),.p (.int .i64 0),.p (.int .i64 0),.p (.str []),.p (.str []),.p (.str [])] [(0,1,(AI 4))]) fun t7=>
 pK (z0y [.p (.int .i64 0),.p (.int .i64 0),.p (.int .i64 0),.p (.str []),.p (.str []),.p (.str [])] [(0,1,(AI 5))]) fun t8=>
 pK (z0y [.p (.int .i64 0),.p (.int .i64 0),.p (.int .i64 0),.p (.str []),.p (.str []),.p (.str [])] [(0,1,(AI 6))]) fun t9=>
 pK (z0y [.p (.int .i64 0),.p (.int .i64 0),.p (.int .i64 0),.p (.str []),.p (.str []),.p (.str []),.p (.int .i64 0),.p (.int .i64 0),.p (.int .i64 0),.p (.str []),.p (.str []),.p (.str []),.p (.int .i64 0),.p (.int .i64 0),.p (.int .i64 0),.p (.str []),.p (.str []),.p (.str []),.p (.int .i64 0),.p (.int .i64 0),.p (.int .i64 0),.p (.str []),.p (.str []),.p (.str []),.p (.int .i64 0),.p (.int .i64 0),.p (.int .i64 0),.p (.str []),.p (.str []),.p (.str []),.p (.int .i64 0),.p (.int .i64 0),.p (.int .i64 0),.p (.str []),.p (.str []),.p (.str [])] [(0,6,t4),(6,6,t5),(12,6,t6),(18,6,t7),(24,6,t8),(30,6,t9)]) fun t10=>
 wK (z0m (some 36) t1 t10 h2) fun t11 h12 y13=>
 K .ret ⟨[(0,t1)],h12,(y13++(y3++x))⟩
theorem e_q06r {C gl h x K}:NW C gl zgP.body ⟨enter [],h,x⟩ K=zn0 C gl h x K:=by kernel_rfl
def P_q06c:ACode:=(.seq (rg [mV 2 cF] [0])
(.seq (rg [mV 3 0,
bN 4 .eql 3 (cI 7),
mV 5 4,
gD 6 5 false (.mv 0),
gD 7 5 false (.bin .eql 6 (cI 8)),
uO 8 (.pick 5 cT 7),
mV 2 8] [2])
.ret))
def zgE:AFun:=⟨1,[.t 2],P_q06c,false,false⟩
def zej (C:Hd) (gl:GL) (v0:AV) (h:Heap) (x:Esc) (K:KT):Prop:=
 pK (oBin .eql v0 (AI 7)) fun t1=>
 gM t1 false v0 h fun t2 h3 y4=>
 gP t1 false (oBin .eql t2 (AI 8)) h3 fun t5 h6 y7=>
 pK (z0K t1 (AB true) t5) fun t8=>
 K .ret ⟨[(2,t8)],h6,(y7++(y4++x))⟩
theorem e_q06c {C gl v0 h x K}:NW C gl zgE.body ⟨enter [v0],h,x⟩ K=zej C gl v0 h x K:=by kernel_rfl
def z9y:ACode:=.pr [0,3,5,7,9,10,11,12,13,14,93,94] (rg [mV 126 0,
mV 127 13,
mV 128 10,
mV 129 12,
uO 130 (.idxs 128 129),
mV 131 14,
cL 132 z4u [126,127,130,131]] [0,3,5,7,9,10,11,93,94])
def zet (C:Hd) (gl:GL) (v0 v3 v5 v7 v9 v10 v11 v12 v13 v14 v93 v94:AV) (h:Heap) (x:Esc) (K:KT):Prop:=
 pK (z1L v10 v12) fun t1=>
 C z4u [v0,v13,t1,v14] h fun t2 h3 y4=>
 K .normal ⟨[(0,v0),(3,v3),(5,v5),(7,v7),(9,v9),(10,v10),(11,v11),(93,v93),(94,v94)],h3,(y4++x)⟩
theorem zpa {C gl e h x K}:NW C gl z9y ⟨e,h,x⟩ K=zet C gl (aget e 0) (aget e 3) (aget e 5) (aget e 7) (aget e 9) (aget e 10) (aget e 11) (aget e 12) (aget e 13) (aget e 14) (aget e 93) (aget e 94) h x K:=by kernel_rfl
def zcO (q1:ACode):ACode:=.pr [0,3,5,7,9,10,11,12,13,14,93,94] (.seq (.seq (rg [mV 102 12,
mV 103 5,
uO 104 (.lens 103),
bN 105 .sub 102 104,
mV 15 105] [0,3,5,7,9,10,11,12,13,14,15,93,94])
(.seq (rg [mV 106 15,
bN 107 .geq 106 (cI 0),
mV 108 107,
gD 109 108 true (.mv 15),
gD 110 108 true (.faddr 5 none 3),
gD 111 108 true (.load none 110),
gD 112 108 true (.lens 111),
gD 113 108 true (.bin .lss 109 112),
uO 114 (.pick 108 113 cF),
mV 115 114,
gD 116 115 true (.faddr 5 none 3),
gD 117 115 true (.load none 116),
gD 118 115 true (.mv 15),
gD 119 115 true (.idxs 117 118),
gD 120 115 true (.bin .eql 119 (.c (.p (.int .u8 49)))),
uO 121 (.pick 115 120 cF)] [0,3,5,7,9,10,11,12,13,14,15,93,94,121])
(.cond 121 (rg [fA 122 4 none 3,
lD 123 none 122,
mV 124 15,
uO 125 (.idxs 123 124),
mV 14 125] [0,3,5,7,9,10,11,12,13,14,93,94])
.skip)))
q1)
def z9z:ACode:=zcO z9y
def z88 (C:Hd) (gl:GL) (q1:ACode) (v0 v3 v5 v7 v9 v10 v11 v12 v13 v14 v93 v94:AV) (h:Heap) (x:Esc) (K:KT):Prop:=
 pK (z0C v5) fun t1=>
 pK (oBin .sub v12 t1) fun t2=>
 pK (oBin .geq t2 (AI 0)) fun t3=>
 gM t3 true t2 h fun t4 h5 y6=>
 gP t3 true (z0d 5 none v3) h5 fun t7 h8 y9=>
 gP t3 true (z0e none t7 h8) h8 fun t10 h11 y12=>
 gP t3 true (z0C t10) h11 fun t13 h14 y15=>
 gP t3 true (oBin .lss t4 t13) h14 fun t16 h17 y18=>
 pK (z0K t3 t16 (AB false)) fun t19=>
 gP t19 true (z0d 5 none v3) h17 fun t20 h21 y22=>
 gP t19 true (z0e none t20 h21) h21 fun t23 h24 y25=>
 gM t19 true t2 h24 fun t26 h27 y28=>
 gP t19 true (z1L t23 t26) h27 fun t29 h30 y31=>
 gP t19 true (oBin .eql t29 (.p (.int .u8 49))) h30 fun t32 h33 y34=>
 pK (z0K t19 t32 (AB false)) fun t35=>
 z0i t35 (pK (z0d 4 none v3) fun t36=>
 pK (z0e none t36 h33) fun t37=>
 pK (z1L t37 t2) fun t38=>
 NW C gl q1 ⟨[(0,v0),(3,v3),(5,v5),(7,v7),(9,v9),(10,v10),(11,v11),(12,v12),(13,v13),(14,t38),(93,v93),(94,v94)],h33,(y34++(y31++(y28++(y25++(y22++(y18++(y15++(y12++(y9++(y6++x))))))))))⟩ K)
 (NW C gl q1 ⟨[(0,v0),(3,v3),(5,v5),(7,v7),(9,v9),(10,v10),(11,v11),(12,v12),(13,v13),(14,v14),(15,t2),(93,v93),(94,v94),(121,t35)],h33,(y34++(y31++(y28++(y25++(y22++(y18++(y15++(y12++(y9++(y6++x))))))))))⟩ K)
theorem zkX {C gl q1 e h x K}:NW C gl (zcO q1) ⟨e,h,x⟩ K=z88 C gl q1 (aget e 0) (aget e 3) (aget e 5) (aget e 7) (aget e 9) (aget e 10) (aget e 11) (aget e 12) (aget e 13) (aget e 14) (aget e 93) (aget e 94) h x K:=by kernel_rfl
theorem zpb {C gl e h x K}:NW C gl z9z ⟨e,h,x⟩ K=z88 C gl z9y (aget e 0) (aget e 3) (aget e 5) (aget e 7) (aget e 9) (aget e 10) (aget e 11) (aget e 12) (aget e 13) (aget e 14) (aget e 93) (aget e 94) h x K:=zkX
def z90:ACode:=.pr [0,3,5,7,9,10,11,93,94] (rg [bN 133 .add 94 (cI 1),
mV 94 133] [0,3,5,7,9,10,11,93,94])
def zeu (C:Hd) (gl:GL) (v0 v3 v5 v7 v9 v10 v11 v93 v94:AV) (h:Heap) (x:Esc) (K:KT):Prop:=
 pK (oBin .add v94 (AI 1)) fun t1=>
 K .normal ⟨[(0,v0),(3,v3),(5,v5),(7,v7),(9,v9),(10,v10),(11,v11),(93,v93),(94,t1)],h,x⟩
theorem zpc {C gl e h x K}:NW C gl z90 ⟨e,h,x⟩ K=zeu C gl (aget e 0) (aget e 3) (aget e 5) (aget e 7) (aget e 9) (aget e 10) (aget e 11) (aget e 93) (aget e 94) h x K:=by kernel_rfl
def zcP (q2 q3:ACode):ACode:=.pr [0,3,5,7,9,10,11,93,94] (.seq (rg [bN 95 .lss 94 93] [0,3,5,7,9,10,11,93,94,95])
(.seq (.cond 95 .skip
(.exit 0))
(.seq (.block 1 (.seq (rg [mV 96 94,
mV 12 96] [0,3,5,7,9,10,11,12,93,94])
(.seq (rg [mV 13 (.c (.p (.int .u8 48))),
mV 14 (.c (.p (.int .u8 120)))] [0,3,5,7,9,10,11,12,13,14,93,94])
(.seq (.seq (rg [mV 97 12,
mV 98 10,
uO 99 (.lens 98),
bN 100 .sub 99 (cI 1),
bN 101 .eql 97 100] [0,3,5,7,9,10,11,12,13,14,93,94,101])
(.cond 101 (rg [mV 13 (.c (.p (.int .u8 49)))] [0,3,5,7,9,10,11,12,13,14,93,94])
.skip))
q2))))
q3)))
def z4C:ACode:=zcP z9z z90
def z89 (C:Hd) (gl:GL) (q2 q3:ACode) (v0 v3 v5 v7 v9 v10 v11 v93 v94:AV) (h:Heap) (x:Esc) (K:KT):Prop:=
 pK (oBin .lss v94 v93) fun t1=>
 z0i t1 (pK (z0C v10) fun t2=>
 pK (oBin .sub t2 (AI 1)) fun t3=>
 pK (oBin .eql v94 t3) fun t4=>
 z0i t4 (NW C gl q2 ⟨[(0,v0),(3,v3),(5,v5),(7,v7),(9,v9),(10,v10),(11,v11),(12,v94),(13,(.p (.int .u8 49))),(14,(.p (.int .u8 120))),(93,v93),(94,v94)],h,x⟩ (z0t 1 (seqN C gl q3 K)))
 (NW C gl q2 ⟨[(0,v0),(3,v3),(5,v5),(7,v7),(9,v9),(10,v10),(11,v11),(12,v94),(13,(.p (.int .u8 48))),(14,(.p (.int .u8 120))),(93,v93),(94,v94),(101,t4)],h,x⟩ (z0t 1 (seqN C gl q3 K))))
 (K (.exit 0) ⟨[(0,v0),(3,v3),(5,v5),(7,v7),(9,v9),(10,v10),(11,v11),(93,v93),(94,v94),(95,t1)],h,x⟩)
theorem zkY {C gl q2 q3 e h x K}:NW C gl (zcP q2 q3) ⟨e,h,x⟩ K=z89 C gl q2 q3 (aget e 0) (aget e 3) (aget e 5) (aget e 7) (aget e 9) (aget e 10) (aget e 11) (aget e 93) (aget e 94) h x K:=by kernel_rfl
theorem zpd {C gl e h x K}:NW C gl z4C ⟨e,h,x⟩ K=z89 C gl z9z z90 (aget e 0) (aget e 3) (aget e 5) (aget e 7) (aget e 9) (aget e 10) (aget e 11) (aget e 93) (aget e 94) h x K:=zkY
theorem zq1 {C gl e h x K}:NW C gl (.loop z4C) ⟨e,h,x⟩ K=z1a C gl z4C K [(0,aget e 0),(3,aget e 3),(5,aget e 5),(7,aget e 7),(9,aget e 9),(10,aget e 10),(11,aget e 11),(93,aget e 93),(94,aget e 94)] h x:=z0G
def z91:ACode:=.pr [0,7,9,11] (.seq (rg [mV 134 0,
mV 135 9,
uO 136 (.nilchk 134),
fA 137 36 none 136,
wO (.store none 137 135)] [0,7,11])
(.seq (rg [mV 138 0,
mV 139 7,
cL 140 z3p [138,139]] [11])
(.seq (rg [mV 141 11,
mV 4 141] [4])
.ret)))
def zev (C:Hd) (gl:GL) (v0 v7 v9 v11:AV) (h:Heap) (x:Esc) (K:KT):Prop:=
 pK (oNil v0) fun t1=>
 pK (z0d 36 none t1) fun t2=>
 wK (z0m none t2 v9 h) fun t3 h4 y5=>
 C z3p [v0,v7] h4 fun t6 h7 y8=>
 K .ret ⟨[(4,v11)],h7,(y8++(y5++x))⟩
theorem zpe {C gl e h x K}:NW C gl z91 ⟨e,h,x⟩ K=zev C gl (aget e 0) (aget e 7) (aget e 9) (aget e 11) h x K:=by kernel_rfl
def zcQ (q4 q5:ACode):ACode:=.pr [0,3,5,7,9,10] (.seq (rg [mV 85 0,
uO 86 (.nilchk 85),
fA 87 37 none 86,
lD 88 none 87,
mV 89 5,
uO 90 (.lens 89),
bN 91 .add 88 90,
mV 11 91] [0,3,5,7,9,10,11])
(.seq (.seq (rg [mV 92 10,
uO 93 (.lens 92),
mV 94 (cI 0)] [0,3,5,7,9,10,11,93,94])
(.block 0 (.loop q4)))
q5))
def z92:ACode:=zcQ z4C z91
def z8A (C:Hd) (gl:GL) (q4 q5:ACode) (v0 v3 v5 v7 v9 v10:AV) (h:Heap) (x:Esc) (K:KT):Prop:=
 pK (oNil v0) fun t1=>
 pK (z0d 37 none t1) fun t2=>
 pK (z0e none t2 h) fun t3=>
 pK (z0C v5) fun t4=>
 pK (oBin .add t3 t4) fun t5=>
 pK (z0C v10) fun t6=>
 NW C gl (.loop q4) ⟨[(0,v0),(3,v3),(5,v5),(7,v7),(9,v9),(10,v10),(11,t5),(93,t6),(94,(AI 0))],h,x⟩ (z0t 0 (seqN C gl q5 K))
theorem zkZ {C gl q4 q5 e h x K}:NW C gl (zcQ q4 q5) ⟨e,h,x⟩ K=z8A C gl q4 q5 (aget e 0) (aget e 3) (aget e 5) (aget e 7) (aget e 9) (aget e 10) h x K:=by kernel_rfl
theorem zpf {C gl e h x K}:NW C gl z92 ⟨e,h,x⟩ K=z8A C gl z4C z91 (aget e 0) (aget e 3) (aget e 5) (aget e 7) (aget e 9) (aget e 10) h x K:=zkZ
def zcR (q6:ACode):ACode:=.pr [0,3,5,6,7,8,9] (.seq (rg [mV 55 0,
mV 56 8,
cL 57 z3p [55,56]] [0,3,5,6,7,9])
(.seq (rg [mV 58 5,
fA 59 3 none 3,
lD 60 none 59,
bN 61 .add 58 60,
mV 62 6,
bN 63 .add 61 62,
mV 10 63] [0,3,5,7,9,10])
(.seq (.seq (rg [fA 64 0 none 3,
lD 65 none 64,
bN 66 .eql 65 (cI 7)] [0,3,5,7,9,10,66])
(.cond 66 (rg [mV 67 0,
uO 68 (.nilchk 67),
fA 69 38 none 68,
lD 70 none 69,
mV 71 10,
uO 72 (.lens 71),
bN 73 .add 70 72,
uO 74 (.nilchk 67),
fA 75 38 none 74,
wO (.store none 75 73)] [0,3,5,7,9,10])
(rg [mV 76 0,
uO 77 (.nilchk 76),
fA 78 39 none 77,
lD 79 none 78,
mV 80 10,
uO 81 (.lens 80),
bN 82 .add 79 81,
uO 83 (.nilchk 76),
fA 84 39 none 83,
wO (.store none 84 82)] [0,3,5,7,9,10])))
q6)))
def z6C:ACode:=zcR z92
def z8B (C:Hd) (gl:GL) (q6:ACode) (v0 v3 v5 v6 v7 v8 v9:AV) (h:Heap) (x:Esc) (K:KT):Prop:=
 C z3p [v0,v8] h fun t1 h2 y3=>
 pK (z0d 3 none v3) fun t4=>
 pK (z0e none t4 h2) fun t5=>
 pK (oBin .add v5 t5) fun t6=>
 pK (oBin .add t6 v6) fun t7=>
 pK (z0d 0 none v3) fun t8=>
 pK (z0e none t8 h2) fun t9=>
 pK (oBin .eql t9 (AI 7)) fun t10=>
 z0i t10 (pK (oNil v0) fun t11=>
 pK (z0d 38 none t11) fun t12=>
 pK (z0e none t12 h2) fun t13=>
 pK (z0C t7) fun t14=>
 pK (oBin .add t13 t14) fun t15=>
 pK (oNil v0) fun t16=>
 pK (z0d 38 none t16) fun t17=>
 wK (z0m none t17 t15 h2) fun t18 h19 y20=>
 NW C gl q6 ⟨[(0,v0),(3,v3),(5,v5),(7,v7),(9,v9),(10,t7)],h19,(y20++(y3++x))⟩ K)
 (pK (oNil v0) fun t21=>
 pK (z0d 39 none t21) fun t22=>
 pK (z0e none t22 h2) fun t23=>
 pK (z0C t7) fun t24=>
 pK (oBin .add t23 t24) fun t25=>
 pK (oNil v0) fun t26=>
 pK (z0d 39 none t26) fun t27=>
 wK (z0m none t27 t25 h2) fun t28 h29 y30=>
 NW C gl q6 ⟨[(0,v0),(3,v3),(5,v5),(7,v7),(9,v9),(10,t7)],h29,(y30++(y3++x))⟩ K)
theorem zla {C gl q6 e h x K}:NW C gl (zcR q6) ⟨e,h,x⟩ K=z8B C gl q6 (aget e 0) (aget e 3) (aget e 5) (aget e 6) (aget e 7) (aget e 8) (aget e 9) h x K:=by kernel_rfl
theorem zpg {C gl e h x K}:NW C gl z6C ⟨e,h,x⟩ K=z8B C gl z92 (aget e 0) (aget e 3) (aget e 5) (aget e 6) (aget e 7) (aget e 8) (aget e 9) h x K:=zla
def zxc (q7:ACode):ACode:=(.seq (rg [uO 3 (.box 1),
mV 4 (cI 0)] [0,3])
(.seq (dr [dF (mV 16 0) [0],
dF (uO 17 (.nilchk 16)) [16],
dF (fA 18 0 (some 36) 17) [17],
dF (fA 19 24 (some 6) 18) [18],
dF (fA 20 3 none 19) [19],
dF (lD 21 none 20) [20],
dF (mV 22 0) [0],
dF (uO 23 (.nilchk 22)) [22],
dF (fA 24 0 (some 36) 23) [23],
dF (fA 25 30 (some 6) 24) [24],
dF (fA 26 3 none 25) [25],
dF (lD 27 none 26) [26],
dF (mV 28 0) [0],
dF (uO 29 (.nilchk 28)) [28],
dF (fA 30 0 (some 36) 29) [29],
dF (fA 31 6 (some 6) 30) [30],
dF (fA 32 1 none 31) [31],
dF (lD 33 none 32) [32],
dF (mV 5 21) [21],
dF (mV 6 27) [27],
dF (mV 7 33) [33],
dF (mV 8 (cI 4)) [],
dF (mV 9 (cI 5)) []] [0,3,5,6,7,8,9])
(.seq (.seq (rg [fA 34 0 none 3,
lD 35 none 34,
bN 36 .eql 35 (cI 7)] [0,3,5,6,7,8,9,36])
(.cond 36 (dr [dF (mV 37 0) [0],
dF (uO 38 (.nilchk 37)) [37],
dF (fA 39 0 (some 36) 38) [38],
dF (fA 40 12 (some 6) 39) [39],
dF (fA 41 3 none 40) [40],
dF (lD 42 none 41) [41],
dF (mV 43 0) [0],
dF (uO 44 (.nilchk 43)) [43],
dF (fA 45 0 (some 36) 44) [44],
dF (fA 46 18 (some 6) 45) [45],
dF (fA 47 3 none 46) [46],
dF (lD 48 none 47) [47],
dF (mV 49 0) [0],
dF (uO 50 (.nilchk 49)) [49],
dF (fA 51 0 (some 36) 50) [50],
dF (fA 52 0 (some 6) 51) [51],
dF (fA 53 1 none 52) [52],
dF (lD 54 none 53) [53],
dF (mV 5 42) [42],
dF (mV 6 48) [48],
dF (mV 7 54) [54],
dF (mV 8 (cI 11)) [],
dF (mV 9 (cI 12)) []] [0,3,5,6,7,8,9])
.skip))
q7)))
def zgJ:AFun:=⟨2,[.t 4],zxc z6C,false,false⟩
def zes (C:Hd) (gl:GL) (q7:ACode) (v0 v1:AV) (h:Heap) (x:Esc) (K:KT):Prop:=
 wK (oBox v1 h) fun t1 h2 y3=>
 pK (oNil v0) fun t4=>
 pK (z0d 0 (some 36) t4) fun t5=>
 pK (z0d 24 (some 6) t5) fun t6=>
 pK (z0d 3 none t6) fun t7=>
 pK (z0e none t7 h2) fun t8=>
 pK (oNil v0) fun t9=>
 pK (z0d 0 (some 36) t9) fun t10=>
 pK (z0d 30 (some 6) t10) fun t11=>
 pK (z0d 3 none t11) fun t12=>
 pK (z0e none t12 h2) fun t13=>
 pK (oNil v0) fun t14=>
 pK (z0d 0 (some 36) t14) fun t15=>
 pK (z0d 6 (some 6) t15) fun t16=>
 pK (z0d 1 none t16) fun t17=>
 pK (z0e none t17 h2) fun t18=>
 pK (z0d 0 none t1) fun t19=>
 pK (z0e none t19 h2) fun t20=>
 pK (oBin .eql t20 (AI 7)) fun t21=>
 z0i t21 (pK (oNil v0) fun t22=>
 pK (z0d 0 (some 36) t22) fun t23=>
 pK (z0d 12 (some 6) t23) fun t24=>
 pK (z0d 3 none t24) fun t25=>
 pK (z0e none t25 h2) fun t26=>
 pK (oNil v0) fun t27=>
 pK (z0d 0 (some 36) t27) fun t28=>
 pK (z0d 18 (some 6) t28) fun t29=>
 pK (z0d 3 none t29) fun t30=>
 pK (z0e none t30 h2) fun t31=>
 pK (oNil v0) fun t32=>
 pK (z0d 0 (some 36) t32) fun t33=>
 pK (z0d 0 (some 6) t33) fun t34=>
 pK (z0d 1 none t34) fun t35=>
 pK (z0e none t35 h2) fun t36=>
 NW C gl q7 ⟨[(0,v0),(3,t1),(5,t26),(6,t31),(7,t36),(8,(AI 11)),(9,(AI 12))],h2,(y3++x)⟩ K)
 (NW C gl q7 ⟨[(0,v0),(3,t1),(5,t8),(6,t13),(7,t18),(8,(AI 4)),(9,(AI 5)),(36,t21)],h2,(y3++x)⟩ K)
theorem E_q06k {C gl q7 v0 v1 h x K}:NW C gl (zxc q7) ⟨enter [v0,v1],h,x⟩ K=zes C gl q7 v0 v1 h x K:=by kernel_rfl
theorem e_q06k {C gl v0 v1 h x K}:NW C gl zgJ.body ⟨enter [v0,v1],h,x⟩ K=zes C gl z6C v0 v1 h x K:=E_q06k
def z3D:ACode:=.pr [0,1,4,17,18] (.seq (rg [bN 19 .lss 18 17] [0,1,4,17,18,19])
(.seq (.cond 19 .skip
(.exit 0))
(.seq (.block 1 (.seq (rg [mV 20 18,
mV 6 20] [0,1,4,6,17,18])
(rg [mV 21 0,
mV 22 4,
mV 23 6,
uO 24 (.idxs 22 23),
cL 25 z4u [21,24,(.c (.p (.int .u8 48))),(.c (.p (.int .u8 120)))]] [0,1,4,17,18])))
(rg [bN 26 .add 18 (cI 1),
mV 18 26] [0,1,4,17,18]))))
def zex (C:Hd) (gl:GL) (v0 v1 v4 v17 v18:AV) (h:Heap) (x:Esc) (K:KT):Prop:=
 pK (oBin .lss v18 v17) fun t1=>
 z0i t1 (pK (z1L v4 v18) fun t2=>
 C z4u [v0,t2,(.p (.int .u8 48)),(.p (.int .u8 120))] h fun t3 h4 y5=>
 pK (oBin .add v18 (AI 1)) fun t6=>
 K .normal ⟨[(0,v0),(1,v1),(4,v4),(17,v17),(18,t6)],h4,(y5++x)⟩)
 (K (.exit 0) ⟨[(0,v0),(1,v1),(4,v4),(17,v17),(18,v18),(19,t1)],h,x⟩)
theorem zpj {C gl e h x K}:NW C gl z3D ⟨e,h,x⟩ K=zex C gl (aget e 0) (aget e 1) (aget e 4) (aget e 17) (aget e 18) h x K:=by kernel_rfl
theorem zq3 {C gl e h x K}:NW C gl (.loop z3D) ⟨e,h,x⟩ K=z1a C gl z3D K [(0,aget e 0),(1,aget e 1),(4,aget e 4),(17,aget e 17),(18,aget e 18)] h x:=z0G
def z6D:ACode:=.pr [0,1] (rg [mV 27 0,
mV 28 1,
uO 29 (.nilchk 27),
fA 30 36 none 29,
wO (.store none 30 28)] [])
def zey (C:Hd) (gl:GL) (v0 v1:AV) (h:Heap) (x:Esc) (K:KT):Prop:=
 pK (oNil v0) fun t1=>
 pK (z0d 36 none t1) fun t2=>
 wK (z0m none t2 v1 h) fun t3 h4 y5=>
 K .normal ⟨[],h4,(y5++x)⟩
theorem zpk {C gl e h x K}:NW C gl z6D ⟨e,h,x⟩ K=zey C gl (aget e 0) (aget e 1) h x K:=by kernel_rfl
def zxe (q1 q2:ACode):ACode:=(.seq (rg [mV 8 0,
uO 9 (.nilchk 8),
fA 10 36 none 9,
lD 11 none 10,
mV 12 1,
cL 13 z8M [11,12],
mV 7 13,
eX 14 7 0,
eX 15 7 1,
mV 4 14,
mV 5 15] [0,1,4])
(.seq (.seq (rg [mV 16 4,
uO 17 (.lens 16),
mV 18 (cI 0)] [0,1,4,17,18])
(.block 0 (.loop q1)))
q2))
def zgL:AFun:=⟨2,[],zxe z3D z6D,false,false⟩
def zh0 (C:Hd) (gl:GL) (q1 q2:ACode) (v0 v1:AV) (h:Heap) (x:Esc) (K:KT):Prop:=
 pK (oNil v0) fun t1=>
 pK (z0d 36 none t1) fun t2=>
 pK (z0e none t2 h) fun t3=>
 C z8M [t3,v1] h fun t4 h5 y6=>
 pK (oExt t4 0) fun t7=>
 pK (oExt t4 1) fun t8=>
 pK (z0C t7) fun t9=>
 NW C gl (.loop q1) ⟨[(0,v0),(1,v1),(4,t7),(17,t9),(18,(AI 0))],h5,(y6++x)⟩ (z0t 0 (seqN C gl q2 K))
theorem E_q06m {C gl q1 q2 v0 v1 h x K}:NW C gl (zxe q1 q2) ⟨enter [v0,v1],h,x⟩ K=zh0 C gl q1 q2 v0 v1 h x K:=by kernel_rfl
theorem e_q06m {C gl v0 v1 h x K}:NW C gl zgL.body ⟨enter [v0,v1],h,x⟩ K=zh0 C gl z3D z6D v0 v1 h x K:=E_q06m
end Go.Am
end
section
/- The functions asv abstract code,and asv formulas over their values: printed by program out of the translation. -/
set_option linter.unusedVariables false
set_option maxRecDepth 100000
namespace Go.Am
def P_q06j:ACode:=(.seq (rg [mV 8 0,
uO 9 (.nilchk 8),
fA 10 37 none 9,
lD 11 none 10,
bN 12 .add 11 (cI 1),
uO 13 (.nilchk 8),
fA 14 37 none 13,
wO (.store none 14 12)] [0,1,2,3])
(.seq (rg [mV 15 0,
uO 16 (.nilchk 15),
fA 17 45 none 16,
lD 18 none 17] [0,1,2,3,18])
(.cond 18 (dr [dF (mV 19 0) [0],
dF (mV 20 0) [0],
dF (mV 21 0) [0],
dF (mV 22 0) [0],
dF (uO 23 (.nilchk 22)) [22],
dF (fA 24 42 none 23) [23],
dF (lD 25 none 24) [24],
dF (mV 26 1) [1],
dF (uO 27 (.bsl false none 1 (.int .u8 0) [(0,26)])) [26],
dT (uO 28 (.app none 25 27)) [25,27],
dF (mV 29 0) [0],
dF (uO 30 (.nilchk 29)) [29],
dF (fA 31 43 none 30) [30],
dA (lD 32 none 31) [31] false [9] [],
dF (mV 33 2) [2],
dA (uO 34 (.bsl false none 1 (.int .u8 0) [(0,33)])) [33] false [9] [],
dT (uO 35 (.app none 32 34)) [32,34],
dF (mV 36 0) [0],
dF (uO 37 (.nilchk 36)) [36],
dF (fA 38 44 none 37) [37],
dA (lD 39 none 38) [38] false [9,16] [],
dF (mV 40 3) [3],
dA (uO 41 (.bsl false none 1 (.int .u8 0) [(0,40)])) [40] false [9,16] [],
dT (uO 42 (.app none 39 41)) [39,41],
dF (uO 43 (.nilchk 19)) [19],
dF (fA 44 42 none 43) [43],
dT (wO (.store none 44 28)) [44,28],
dF (uO 45 (.nilchk 20)) [20],
dF (fA 46 43 none 45) [45],
dT (wO (.store none 46 35)) [46,35],
dF (uO 47 (.nilchk 21)) [21],
dF (fA 48 44 none 47) [47],
dT (wO (.store none 48 42)) [48,42]] [])
.skip)))
def zgI:AFun:=⟨4,[],P_q06j,false,false⟩
def zhz (C:Hd) (gl:GL) (v0 v1 v2 v3:AV) (h:Heap) (x:Esc) (K:KT):Prop:=
 pK (oNil v0) fun t1=>
 pK (z0d 37 none t1) fun t2=>
 pK (z0e none t2 h) fun t3=>
 pK (oBin .add t3 (AI 1)) fun t4=>
 pK (oNil v0) fun t5=>
 pK (z0d 37 none t5) fun t6=>
 wK (z0m none t6 t4 h) fun t7 h8 y9=>
 pK (oNil v0) fun t10=>
 pK (z0d 45 none t10) fun t11=>
 pK (z0e none t11 h8) fun t12=>
 z0i t12 (pK (oNil v0) fun t13=>
 pK (z0d 42 none t13) fun t14=>
 pK (z0e none t14 h8) fun t15=>
 wK (oBsl false none 1 (.int .u8 0) [(0,v1)] h8) fun t16 h17 y18=>
 (h17=h8∧y18=[])∧(wK (oApp none t15 t16 h17) fun t19 h20 y21=>
 pK (oNil v0) fun t22=>
 pK (z0d 43 none t22) fun t23=>
 pK (z0e none t23 h20) fun t24=>
 (pK (z0e none t23 h17) fun v=>(fun u (g1:Heap) (y1:Esc)=>u=t24∧g1=h17∧y1=[]) v h17 [])∧(wK (oBsl false none 1 (.int .u8 0) [(0,v2)] h20) fun t25 h26 y27=>
 (h26=h20∧y27=[])∧((wK (oBsl false none 1 (.int .u8 0) [(0,v2)] h17) (fun u (g1:Heap) (y1:Esc)=>u=t25∧g1=h17∧y1=[]))∧(wK (oApp none t24 t25 h26) fun t28 h29 y30=>
 pK (oNil v0) fun t31=>
 pK (z0d 44 none t31) fun t32=>
 pK (z0e none t32 h29) fun t33=>
 (pK (z0e none t32 h17) fun v=>(fun u (g1:Heap) (y1:Esc)=>u=t33∧g1=h17∧y1=[]) v h17 [])∧((pK (z0e none t32 h26) fun v=>(fun u (g1:Heap) (y1:Esc)=>u=t33∧g1=h26∧y1=[]) v h26 [])∧(wK (oBsl false none 1 (.int .u8 0) [(0,v3)] h29) fun t34 h35 y36=>
 (h35=h29∧y36=[])∧((wK (oBsl false none 1 (.int .u8 0) [(0,v3)] h17) (fun u (g1:Heap) (y1:Esc)=>u=t34∧g1=h17∧y1=[]))∧((wK (oBsl false none 1 (.int .u8 0) [(0,v3)] h26) (fun u (g1:Heap) (y1:Esc)=>u=t34∧g1=h26∧y1=[]))∧(wK (oApp none t33 t34 h35) fun t37 h38 y39=>
 pK (oNil v0) fun t40=>
 pK (z0d 42 none t40) fun t41=>
 wK (z0m none t41 t19 h38) fun t42 h43 y44=>
 pK (oNil v0) fun t45=>
 pK (z0d 43 none t45) fun t46=>
 wK (z0m none t46 t28 h43) fun t47 h48 y49=>
 pK (oNil v0) fun t50=>
 pK (z0d 44 none t50) fun t51=>
 wK (z0m none t51 t37 h48) fun t52 h53 y54=>
 K .normal ⟨[],h53,(y54++(y49++(y44++(y39++(y36++(y30++(y27++(y21++(y18++(y9++x))))))))))⟩))))))))))
 (K .normal ⟨[(0,v0),(1,v1),(2,v2),(3,v3),(18,t12)],h8,(y9++x)⟩)
theorem e_q06j {C gl v0 v1 v2 v3 h x K}:NW C gl zgI.body ⟨enter [v0,v1,v2,v3],h,x⟩ K=zhz C gl v0 v1 v2 v3 h x K:=by kernel_rfl
def z9k:ACode:=.pr [0,1,5,6,7,8,9,10] (.seq (.seq (rg [mV 78 0,
mV 79 8,
bN 80 .add 79 (cI 1),
uO 81 (.idxs 78 80),
mV 82 7,
bN 83 .eql 81 82,
mV 84 83,
gD 85 84 true (.mv 0),
gD 86 84 true (.mv 8),
gD 87 84 true (.mv 8),
gD 88 84 true (.mv 5),
gD 89 84 true (.bin .add 87 88),
gD 90 84 true (.slstr 85 (some 86) (some 89)),
gD 91 84 true (.mv 1),
gD 92 84 true (.bin .eql 90 91),
uO 93 (.pick 84 92 cF)] [0,1,5,6,7,8,9,10,93])
(.cond 93 (.seq (rg [mV 94 8,
mV 4 94] [4])
.ret)
.skip))
(.seq (rg [mV 95 8,
bN 96 .add 95 (cI 1),
mV 8 96] [0,1,5,6,7,8,9,10])
(.seq (rg [mV 97 10,
bN 98 .add 97 (cI 1),
mV 10 98] [0,1,5,6,7,8,9,10])
(.seq (rg [mV 99 5,
lD 100 none (.g 0),
bN 101 .leq 99 100,
mV 102 101,
gD 103 102 true (.mv 10),
gD 104 102 true (.mv 8),
gD 105 102 true (.call zeE [104]),
gD 106 102 true (.bin .gtr 103 105),
uO 107 (.pick 102 106 cF)] [0,1,5,6,7,8,9,10,107])
(.cond 107 (.seq (rg [mV 108 0,
mV 109 8,
uO 110 (.slstr 108 (some 109) none),
mV 111 1,
cL 112 z0B [110,111],
mV 12 112] [8,12])
(.seq (.seq (rg [mV 113 12,
bN 114 .geq 113 (cI 0)] [8,12,114])
(.cond 114 (.seq (rg [mV 115 12,
mV 116 8,
bN 117 .add 115 116,
mV 4 117] [4])
.ret)
.skip))
(.seq (rg [mV 4 (cI (-1))] [4])
.ret)))
(.seq (rg [mV 118 5,
lD 119 none (.g 0),
bN 120 .gtr 118 119,
mV 121 120,
gD 122 121 true (.mv 10),
gD 123 121 true (.mv 8),
gD 124 121 true (.bin .shr 123 (.c (.p (.int .u64 4)))),
gD 125 121 true (.bin .add (cI 4) 124),
gD 126 121 true (.bin .geq 122 125),
uO 127 (.pick 121 126 cF),
mV 128 127,
gD 129 128 true (.mv 8),
gD 130 128 true (.mv 9),
gD 131 128 true (.bin .lss 129 130),
uO 132 (.pick 128 131 cF)] [0,1,5,6,7,8,9,10,132])
(.cond 132 (.seq (rg [mV 133 0,
mV 134 8,
uO 135 (.slstr 133 (some 134) none),
mV 136 1,
cL 137 zeF [135,136],
mV 13 137] [8,13])
(.seq (.seq (rg [mV 138 13,
bN 139 .lss 138 (cI 0)] [8,13,139])
(.cond 139 (.seq (rg [mV 4 (cI (-1))] [4])
.ret)
.skip))
(.seq (rg [mV 140 8,
mV 141 13,
bN 142 .add 140 141,
mV 4 142] [4])
.ret)))
.skip)))))))
def zdt (C:Hd) (gl:GL) (v0 v1 v5 v6 v7 v8 v9 v10:AV) (h:Heap) (x:Esc) (K:KT):Prop:=
 pK (oBin .add v8 (AI 1)) fun t1=>
 pK (z1L v0 t1) fun t2=>
 pK (oBin .eql t2 v7) fun t3=>
 gM t3 true v0 h fun t4 h5 y6=>
 gM t3 true v8 h5 fun t7 h8 y9=>
 gM t3 true v8 h8 fun t10 h11 y12=>
 gM t3 true v5 h11 fun t13 h14 y15=>
 gP t3 true (oBin .add t10 t13) h14 fun t16 h17 y18=>
 gP t3 true (z2j t4 (some t7) (some t16)) h17 fun t19 h20 y21=>
 gM t3 true v1 h20 fun t22 h23 y24=>
 gP t3 true (oBin .eql t19 t22) h23 fun t25 h26 y27=>
 pK (z0K t3 t25 (AB false)) fun t28=>
 z0i t28 (K .ret ⟨[(4,v8)],h26,(y27++(y24++(y21++(y18++(y15++(y12++(y9++(y6++x))))))))⟩)
 (pK (oBin .add v8 (AI 1)) fun t29=>
 pK (oBin .add v10 (AI 1)) fun t30=>
 pK (z0e none (gv gl 0) h26) fun t31=>
 pK (oBin .leq v5 t31) fun t32=>
 gM t32 true t30 h26 fun t33 h34 y35=>
 gM t32 true t29 h34 fun t36 h37 y38=>
 gV t32 true h37 (C zeE [t36] h37) fun t39 h40 y41=>
 gP t32 true (oBin .gtr t33 t39) h40 fun t42 h43 y44=>
 pK (z0K t32 t42 (AB false)) fun t45=>
 z0i t45 (pK (z2j v0 (some t29) none) fun t46=>
 C z0B [t46,v1] h43 fun t47 h48 y49=>
 pK (oBin .geq t47 (AI 0)) fun t50=>
 z0i t50 (pK (oBin .add t47 t29) fun t51=>
 K .ret ⟨[(4,t51)],h48,(y49++(y44++(y41++(y38++(y35++(y27++(y24++(y21++(y18++(y15++(y12++(y9++(y6++x)))))))))))))⟩)
 (K .ret ⟨[(4,(AI (-1)))],h48,(y49++(y44++(y41++(y38++(y35++(y27++(y24++(y21++(y18++(y15++(y12++(y9++(y6++x)))))))))))))⟩))
 (pK (z0e none (gv gl 0) h43) fun t52=>
 pK (oBin .gtr v5 t52) fun t53=>
 gM t53 true t30 h43 fun t54 h55 y56=>
 gM t53 true t29 h55 fun t57 h58 y59=>
 gP t53 true (oBin .shr t57 (.p (.int .u64 4))) h58 fun t60 h61 y62=>
 gP t53 true (oBin .add (AI 4) t60) h61 fun t63 h64 y65=>
 gP t53 true (oBin .geq t54 t63) h64 fun t66 h67 y68=>
 pK (z0K t53 t66 (AB false)) fun t69=>
 gM t69 true t29 h67 fun t70 h71 y72=>
 gM t69 true v9 h71 fun t73 h74 y75=>
 gP t69 true (oBin .lss t70 t73) h74 fun t76 h77 y78=>
 pK (z0K t69 t76 (AB false)) fun t79=>
 z0i t79 (pK (z2j v0 (some t29) none) fun t80=>
 C zeF [t80,v1] h77 fun t81 h82 y83=>
 pK (oBin .lss t81 (AI 0)) fun t84=>
 z0i t84 (K .ret ⟨[(4,(AI (-1)))],h82,(y83++(y78++(y75++(y72++(y68++(y65++(y62++(y59++(y56++(y44++(y41++(y38++(y35++(y27++(y24++(y21++(y18++(y15++(y12++(y9++(y6++x)))))))))))))))))))))⟩)
 (pK (oBin .add t29 t81) fun t85=>
 K .ret ⟨[(4,t85)],h82,(y83++(y78++(y75++(y72++(y68++(y65++(y62++(y59++(y56++(y44++(y41++(y38++(y35++(y27++(y24++(y21++(y18++(y15++(y12++(y9++(y6++x)))))))))))))))))))))⟩))
 (K .normal ⟨[(0,v0),(1,v1),(5,v5),(6,v6),(7,v7),(8,t29),(9,v9),(10,t30),(132,t79)],h77,(y78++(y75++(y72++(y68++(y65++(y62++(y59++(y56++(y44++(y41++(y38++(y35++(y27++(y24++(y21++(y18++(y15++(y12++(y9++(y6++x))))))))))))))))))))⟩)))
theorem znR {C gl e h x K}:NW C gl z9k ⟨e,h,x⟩ K=zdt C gl (aget e 0) (aget e 1) (aget e 5) (aget e 6) (aget e 7) (aget e 8) (aget e 9) (aget e 10) h x K:=by kernel_rfl
def zc9 (q1:ACode):ACode:=.pr [0,1,5,6,7,8,9,10] (.seq (.seq (rg [mV 57 8,
mV 58 9,
bN 59 .lss 57 58] [0,1,5,6,7,8,9,10,59])
(.cond 59 .skip
(.exit 1)))
(.block 2 (.seq (.seq (rg [mV 60 0,
mV 61 8,
uO 62 (.idxs 60 61),
mV 63 6,
bN 64 .neq 62 63] [0,1,5,6,7,8,9,10,64])
(.cond 64 (.seq (rg [mV 65 0,
mV 66 8,
bN 67 .add 66 (cI 1),
mV 68 9,
uO 69 (.slstr 65 (some 67) (some 68)),
mV 70 6,
cL 71 z4q [69,70],
mV 11 71] [0,1,5,6,7,8,9,10,11])
(.seq (.seq (rg [mV 72 11,
bN 73 .lss 72 (cI 0)] [0,1,5,6,7,8,9,10,11,73])
(.cond 73 (.seq (rg [mV 4 (cI (-1))] [4])
.ret)
.skip))
(rg [mV 74 8,
mV 75 11,
bN 76 .add 75 (cI 1),
bN 77 .add 74 76,
mV 8 77] [0,1,5,6,7,8,9,10])))
.skip))
q1)))
def z3u:ACode:=zc9 z9k
def z8v (C:Hd) (gl:GL) (q1:ACode) (v0 v1 v5 v6 v7 v8 v9 v10:AV) (h:Heap) (x:Esc) (K:KT):Prop:=
 pK (oBin .lss v8 v9) fun t1=>
 z0i t1 (pK (z1L v0 v8) fun t2=>
 pK (oBin .neq t2 v6) fun t3=>
 z0i t3 (pK (oBin .add v8 (AI 1)) fun t4=>
 pK (z2j v0 (some t4) (some v9)) fun t5=>
 C z4q [t5,v6] h fun t6 h7 y8=>
 pK (oBin .lss t6 (AI 0)) fun t9=>
 z0i t9 (K .ret ⟨[(4,(AI (-1)))],h7,(y8++x)⟩)
 (pK (oBin .add t6 (AI 1)) fun t10=>
 pK (oBin .add v8 t10) fun t11=>
 NW C gl q1 ⟨[(0,v0),(1,v1),(5,v5),(6,v6),(7,v7),(8,t11),(9,v9),(10,v10)],h7,(y8++x)⟩ (z0t 2 K)))
 (NW C gl q1 ⟨[(0,v0),(1,v1),(5,v5),(6,v6),(7,v7),(8,v8),(9,v9),(10,v10),(64,t3)],h,x⟩ (z0t 2 K)))
 (K (.exit 1) ⟨[(0,v0),(1,v1),(5,v5),(6,v6),(7,v7),(8,v8),(9,v9),(10,v10),(59,t1)],h,x⟩)
theorem zkI {C gl q1 e h x K}:NW C gl (zc9 q1) ⟨e,h,x⟩ K=z8v C gl q1 (aget e 0) (aget e 1) (aget e 5) (aget e 6) (aget e 7) (aget e 8) (aget e 9) (aget e 10) h x K:=by kernel_rfl
theorem znS {C gl e h x K}:NW C gl z3u ⟨e,h,x⟩ K=z8v C gl z9k (aget e 0) (aget e 1) (aget e 5) (aget e 6) (aget e 7) (aget e 8) (aget e 9) (aget e 10) h x K:=zkI
theorem zqb {C gl e h x K}:NW C gl (.loop z3u) ⟨e,h,x⟩ K=z1a C gl z3u K [(0,aget e 0),(1,aget e 1),(5,aget e 5),(6,aget e 6),(7,aget e 7),(8,aget e 8),(9,aget e 9),(10,aget e 10)] h x:=z0G
def z6k:ACode:=.pr [] (.seq (rg [mV 4 (cI (-1))] [4])
.ret)
def zdu (C:Hd) (gl:GL) (h:Heap) (x:Esc) (K:KT):Prop:=
 K .ret ⟨[(4,(AI (-1)))],h,x⟩
theorem znT {C gl e h x K}:NW C gl z6k ⟨e,h,x⟩ K=zdu C gl h x K:=by kernel_rfl
def zwA (q2 q3:ACode):ACode:=(.seq (rg [mV 4 (cI 0)] [0,1])
(.seq (rg [mV 14 1,
uO 15 (.lens 14),
mV 5 15] [0,1,5])
(.seq (.block 0 (.seq (rg [mV 17 5,
bN 18 .eql 17 (cI 0),
mV 19 18,
gD 20 19 false (.mv 1),
gD 21 19 false (.mv 0),
gD 22 19 false (.bin .eql 20 21),
uO 23 (.pick 19 cT 22),
mV 16 23] [0,1,5,16])
(.cond 16 (.seq (rg [mV 4 (cI 0)] [4])
.ret)
(.seq (rg [mV 25 5,
bN 26 .eql 25 (cI 1),
mV 24 26] [0,1,5,24])
(.cond 24 (.seq (rg [mV 27 0,
mV 28 1,
uO 29 (.idxs 28 (cI 0)),
cL 30 z4q [27,29],
mV 4 30] [4])
.ret)
(.seq (rg [mV 32 5,
mV 33 0,
uO 34 (.lens 33),
bN 35 .geq 32 34,
mV 31 35] [0,1,5,31])
(.cond 31 (.seq (rg [mV 4 (cI (-1))] [4])
.ret)
(.seq (rg [mV 37 5,
lD 38 none (.g 0),
bN 39 .leq 37 38,
mV 40 39,
gD 41 40 true (.mv 0),
gD 42 40 true (.lens 41),
gD 43 40 true (.bin .leq 42 (cI 64)),
uO 44 (.pick 40 43 cF),
mV 36 44] [0,1,5,36])
(.cond 36 (.seq (rg [mV 45 0,
mV 46 1,
cL 47 z0B [45,46],
mV 4 47] [4])
.ret)
.skip)))))))))
(.seq (rg [mV 48 1,
uO 49 (.idxs 48 (cI 0)),
mV 6 49] [0,1,5,6])
(.seq (rg [mV 50 1,
uO 51 (.idxs 50 (cI 1)),
mV 7 51] [0,1,5,6,7])
(.seq (rg [mV 8 (cI 0)] [0,1,5,6,7,8])
(.seq (rg [mV 52 0,
uO 53 (.lens 52),
mV 54 5,
bN 55 .sub 53 54,
bN 56 .add 55 (cI 1),
mV 9 56] [0,1,5,6,7,8,9])
(.seq (rg [mV 10 (cI 0)] [0,1,5,6,7,8,9,10])
(.seq (.block 1 (.loop q2))
q3)))))))))
def zl9:AFun:=⟨2,[.t 4],zwA z3u z6k,false,false⟩
def zhc (C:Hd) (gl:GL) (q2 q3:ACode) (v0 v1:AV) (h:Heap) (x:Esc) (K:KT):Prop:=
 pK (z0C v1) fun t1=>
 pK (oBin .eql t1 (AI 0)) fun t2=>
 gM t2 false v1 h fun t3 h4 y5=>
 gM t2 false v0 h4 fun t6 h7 y8=>
 gP t2 false (oBin .eql t3 t6) h7 fun t9 h10 y11=>
 pK (z0K t2 (AB true) t9) fun t12=>
 z0i t12 (K .ret ⟨[(4,(AI 0))],h10,(y11++(y8++(y5++x)))⟩)
 (pK (oBin .eql t1 (AI 1)) fun t13=>
 z0i t13 (pK (z1L v1 (AI 0)) fun t14=>
 C z4q [v0,t14] h10 fun t15 h16 y17=>
 K .ret ⟨[(4,t15)],h16,(y17++(y11++(y8++(y5++x))))⟩)
 (pK (z0C v0) fun t18=>
 pK (oBin .geq t1 t18) fun t19=>
 z0i t19 (K .ret ⟨[(4,(AI (-1)))],h10,(y11++(y8++(y5++x)))⟩)
 (pK (z0e none (gv gl 0) h10) fun t20=>
 pK (oBin .leq t1 t20) fun t21=>
 gM t21 true v0 h10 fun t22 h23 y24=>
 gP t21 true (z0C t22) h23 fun t25 h26 y27=>
 gP t21 true (oBin .leq t25 (AI 64)) h26 fun t28 h29 y30=>
 pK (z0K t21 t28 (AB false)) fun t31=>
 z0i t31 (C z0B [v0,v1] h29 fun t32 h33 y34=>
 K .ret ⟨[(4,t32)],h33,(y34++(y30++(y27++(y24++(y11++(y8++(y5++x)))))))⟩)
 (pK (z1L v1 (AI 0)) fun t35=>
 pK (z1L v1 (AI 1)) fun t36=>
 pK (z0C v0) fun t37=>
 pK (oBin .sub t37 t1) fun t38=>
 pK (oBin .add t38 (AI 1)) fun t39=>
 NW C gl (.loop q2) ⟨[(0,v0),(1,v1),(5,t1),(6,t35),(7,t36),(8,(AI 0)),(9,t39),(10,(AI 0))],h29,(y30++(y27++(y24++(y11++(y8++(y5++x))))))⟩ (z0t 1 (seqN C gl q3 K))))))
theorem E_q01v {C gl q2 q3 v0 v1 h x K}:NW C gl (zwA q2 q3) ⟨enter [v0,v1],h,x⟩ K=zhc C gl q2 q3 v0 v1 h x K:=by kernel_rfl
theorem e_q01v {C gl v0 v1 h x K}:NW C gl zl9.body ⟨enter [v0,v1],h,x⟩ K=zhc C gl z3u z6k v0 v1 h x K:=E_q01v
def z3y:ACode:=.pr [0,5,6,7] (.seq (rg [bN 8 .lss 7 6] [0,5,6,7,8])
(.seq (.cond 8 .skip
(.exit 0))
(.seq (.block 1 (rg [mV 9 5,
mV 10 0,
uO 11 (.bsl false none 2 (.str []) [(0,(cS [48])),(1,(cS [49]))]),
cL 12 z28 [10,11],
bN 13 .add 9 12,
mV 5 13] [0,5,6,7]))
(rg [bN 14 .add 7 (cI 1),
mV 7 14] [0,5,6,7]))))
def zd5 (C:Hd) (gl:GL) (v0 v5 v6 v7:AV) (h:Heap) (x:Esc) (K:KT):Prop:=
 pK (oBin .lss v7 v6) fun t1=>
 z0i t1 (wK (oBsl false none 2 (.str []) [(0,(.p (.str [48]))),(1,(.p (.str [49])))] h) fun t2 h3 y4=>
 C z28 [v0,t2] h3 fun t5 h6 y7=>
 pK (oBin .add v5 t5) fun t8=>
 pK (oBin .add v7 (AI 1)) fun t9=>
 K .normal ⟨[(0,v0),(5,t8),(6,v6),(7,t9)],h6,(y7++(y4++x))⟩)
 (K (.exit 0) ⟨[(0,v0),(5,v5),(6,v6),(7,v7),(8,t1)],h,x⟩)
theorem zoh {C gl e h x K}:NW C gl z3y ⟨e,h,x⟩ K=zd5 C gl (aget e 0) (aget e 5) (aget e 6) (aget e 7) h x K:=by kernel_rfl
theorem zqg {C gl e h x K}:NW C gl (.loop z3y) ⟨e,h,x⟩ K=z1a C gl z3y K [(0,aget e 0),(5,aget e 5),(6,aget e 6),(7,aget e 7)] h x:=z0G
def z6r:ACode:=.pr [5] (.seq (rg [mV 15 5,
mV 4 15] [4])
.ret)
def zd6 (C:Hd) (gl:GL) (v5:AV) (h:Heap) (x:Esc) (K:KT):Prop:=
 K .ret ⟨[(4,v5)],h,x⟩
theorem zoi {C gl e h x K}:NW C gl z6r ⟨e,h,x⟩ K=zd6 C gl (aget e 5) h x K:=by kernel_rfl
def zwG (q1 q2:ACode):ACode:=(.seq (rg [mV 4 (cS [])] [0,1])
(.seq (rg [mV 5 (cS [])] [0,1,5])
(.seq (.seq (rg [mV 6 1,
mV 7 (cI 0)] [0,5,6,7])
(.block 0 (.loop q1)))
q2)))
def zlN:AFun:=⟨2,[.t 4],zwG z3y z6r,false,false⟩
def zhl (C:Hd) (gl:GL) (q1 q2:ACode) (v0 v1:AV) (h:Heap) (x:Esc) (K:KT):Prop:=
 NW C gl (.loop q1) ⟨[(0,v0),(5,(.p (.str []))),(6,v1),(7,(AI 0))],h,x⟩ (z0t 0 (seqN C gl q2 K))
theorem E_q02x {C gl q1 q2 v0 v1 h x K}:NW C gl (zwG q1 q2) ⟨enter [v0,v1],h,x⟩ K=zhl C gl q1 q2 v0 v1 h x K:=by kernel_rfl
theorem e_q02x {C gl v0 v1 h x K}:NW C gl zlN.body ⟨enter [v0,v1],h,x⟩ K=zhl C gl z3y z6r v0 v1 h x K:=E_q02x
def P_q02s:ACode:=(.seq (rg [mV 6 (cI 0)] [0,1,2])
(.seq (.seq (rg [mV 7 0,
cL 8 z27 [7,(cI 12)]] [0,1,2,8])
(.cond 8 (.seq (rg [mV 9 0,
mV 10 1,
bN 11 .sub 10 (cI 1),
mV 12 2,
bN 13 .add 12 (cI 1),
mV 14 1,
mV 15 2,
uO 16 (.bsl false none 6 (.int .i64 0) [(0,11),(1,13),(2,14),(3,15),(4,(cI (-1099511627776))),(5,(cI 1099511627776))]),
cL 17 z1z [9,16],
mV 6 17] [6])
.ret)
.skip))
(.seq (rg [mV 18 0,
mV 19 1,
mV 20 2,
cL 21 z4r [18,19,20],
mV 6 21] [6])
.ret)))
def zlI:AFun:=⟨3,[.t 6],P_q02s,false,false⟩
def zhj (C:Hd) (gl:GL) (v0 v1 v2:AV) (h:Heap) (x:Esc) (K:KT):Prop:=
 C z27 [v0,(AI 12)] h fun t1 h2 y3=>
 z0i t1 (pK (oBin .sub v1 (AI 1)) fun t4=>
 pK (oBin .add v2 (AI 1)) fun t5=>
 wK (oBsl false none 6 (.int .i64 0) [(0,t4),(1,t5),(2,v1),(3,v2),(4,(AI (-1099511627776))),(5,(AI 1099511627776))] h2) fun t6 h7 y8=>
 C z1z [v0,t6] h7 fun t9 h10 y11=>
 K .ret ⟨[(6,t9)],h10,(y11++(y8++(y3++x)))⟩)
 (C z4r [v0,v1,v2] h2 fun t12 h13 y14=>
 K .ret ⟨[(6,t12)],h13,(y14++(y3++x))⟩)
theorem e_q02s {C gl v0 v1 v2 h x K}:NW C gl zlI.body ⟨enter [v0,v1,v2],h,x⟩ K=zhj C gl v0 v1 v2 h x K:=by kernel_rfl
def P_q02w:ACode:=(.seq (rg [mV 4 (cS [])] [0,1])
(.seq (rg [mV 5 1,
mV 6 0,
mV 7 1,
lN 8 7,
cL 9 z2i [6,8],
iA 10 none 5 9,
lD 11 none 10,
mV 4 11] [4])
.ret))
def zlM:AFun:=⟨2,[.t 4],P_q02w,false,false⟩
def zni (C:Hd) (gl:GL) (v0 v1:AV) (h:Heap) (x:Esc) (K:KT):Prop:=
 pK (oLen v1) fun t1=>
 C z2i [v0,t1] h fun t2 h3 y4=>
 pK (z03 none v1 t2 h3) fun t5=>
 pK (z0e none t5 h3) fun t6=>
 K .ret ⟨[(4,t6)],h3,(y4++x)⟩
theorem e_q02w {C gl v0 v1 h x K}:NW C gl zlM.body ⟨enter [v0,v1],h,x⟩ K=zni C gl v0 v1 h x K:=by kernel_rfl
def P_q04z:ACode:=(.seq (rg [mV 2 0,
uO 3 (.nilchk 2),
fA 4 0 none 3,
lD 5 none 4,
uO 6 (.isnil 0 false 5)] [0,6])
(.cond 6 (rg [mV 7 0,
mV 8 0,
uO 9 (.uns 1 106 [8]),
uO 10 (.uns 7 z0W [(.f z0W),9]),
uO 11 (.uns 1 106 [10]),
uO 12 (.nilchk 7),
fA 13 0 none 12,
wO (.store none 13 11)] [])
(.seq (rg [mV 14 0,
uO 15 (.nilchk 14),
fA 16 0 none 15,
lD 17 none 16,
mV 18 0,
uO 19 (.uns 2 0 [17,18])] [19])
(.cond 19 .bad
.skip))))
def zmg:AFun:=⟨1,[],P_q04z,false,false⟩
def zhv (C:Hd) (gl:GL) (v0:AV) (h:Heap) (x:Esc) (K:KT):Prop:=
 pK (oNil v0) fun t1=>
 pK (z0d 0 none t1) fun t2=>
 pK (z0e none t2 h) fun t3=>
 pK (zaX 0 false t3) fun t4=>
 z0i t4 (wK (z13 1 106 [v0] h) fun t5 h6 y7=>
 wK (z13 7 z0W [(.fn z0W []),t5] h6) fun t8 h9 y10=>
 wK (z13 1 106 [t8] h9) fun t11 h12 y13=>
 pK (oNil v0) fun t14=>
 pK (z0d 0 none t14) fun t15=>
 wK (z0m none t15 t11 h12) fun t16 h17 y18=>
 K .normal ⟨[],h17,(y18++(y13++(y10++(y7++x))))⟩)
 (pK (oNil v0) fun t19=>
 pK (z0d 0 none t19) fun t20=>
 pK (z0e none t20 h) fun t21=>
 wK (z13 2 0 [t21,v0] h) fun t22 h23 y24=>
 z0i t22 (False)
 (K .normal ⟨[(19,t22)],h23,(y24++x)⟩))
theorem e_q04z {C gl v0 h x K}:NW C gl zmg.body ⟨enter [v0],h,x⟩ K=zhv C gl v0 h x K:=by kernel_rfl
def P_q06u:ACode:=(.seq (rg [mV 2 (cS [])] [0])
(.seq (rg [uO 3 (.build [.p (.str []),.p (.str []),.p (.str []),.p (.str []),.p (.str []),.p (.str []),.p (.str []),.p (.str []),.p (.str []),.p (.str [])] [(0,1,(cS [101,110,100,105,114])),(1,1,(cS [101,110,100,100,114])),(2,1,(cS [104,101,97,100,105,114])),(3,1,(cS [116,97,105,108,105,114])),(4,1,(cS [104,101,97,100,100,114])),(5,1,(cS [116,97,105,108,100,114])),(6,1,(cS [115,99,97,110,105,114])),(7,1,(cS [115,99,97,110,100,114])),(8,1,(cS [105,100,108,101])),(9,1,(cS [103,111]))]),
mV 4 0,
bN 5 .sub 4 (cI 1),
uO 6 (.idxa 10 none 3 5),
mV 2 6] [2])
.ret))
def zmx:AFun:=⟨1,[.t 2],P_q06u,false,false⟩
def zn1 (C:Hd) (gl:GL) (v0:AV) (h:Heap) (x:Esc) (K:KT):Prop:=
 pK (z0y [.p (.str []),.p (.str []),.p (.str []),.p (.str []),.p (.str []),.p (.str []),.p (.str []),.p (.str []),.p (.str []),.p (.str [])] [(0,1,(.p (.str [101,110,100,105,114]))),(1,1,(.p (.str [101,110,100,100,114]))),(2,1,(.p (.str [104,101,97,100,105,114]))),(3,1,(.p (.str [116,97,105,108,105,114]))),(4,1,(.p (.str [104,101,97,100,100,114]))),(5,1,(.p (.str [116,97,105,108,100,114]))),(6,1,(.p (.str [115,99,97,110,105,114]))),(7,1,(.p (.str [115,99,97,110,100,114]))),(8,1,(.p (.str [105,100,108,101]))),(9,1,(.p (.str [103,111])))]) fun t1=>
 pK (oBin .sub v0 (AI 1)) fun t2=>
 pK (zcc 10 none t1 t2) fun t3=>
 K .ret ⟨[(2,t3)],h,x⟩
theorem e_q06u {C gl v0 h x K}:NW C gl zmx.body ⟨enter [v0],h,x⟩ K=zn1 C gl v0 h x K:=by kernel_rfl
def P_q06s:ACode:=(.seq (rg [mV 2 (cS [])] [0])
(.seq (.seq (rg [mV 3 0] [3])
(.block 0 (.seq (rg [bN 5 .eql 3 (cI 0),
mV 4 5] [3,4])
(.cond 4 (.seq (rg [mV 2 (cS [114,101,115,101,116])] [2])
.ret)
(.seq (rg [bN 7 .eql 3 (cI 1),
mV 6 7] [3,6])
(.cond 6 (.seq (rg [mV 2 (cS [105,100,108,101])] [2])
.ret)
(.seq (rg [bN 9 .eql 3 (cI 6),
mV 8 9] [8])
(.cond 8 (.seq (rg [mV 2 (cS [112,97,117,115,101,100,114])] [2])
.ret)
.skip))))))))
(.seq (rg [mV 2 (cS [112,97,117,115,101,105,114])] [2])
.ret)))
def zmw:AFun:=⟨1,[.t 2],P_q06s,false,false⟩
def zap (C:Hd) (gl:GL) (v0:AV) (h:Heap) (x:Esc) (K:KT):Prop:=
 pK (oBin .eql v0 (AI 0)) fun t1=>
 z0i t1 (K .ret ⟨[(2,(.p (.str [114,101,115,101,116])))],h,x⟩)
 (pK (oBin .eql v0 (AI 1)) fun t2=>
 z0i t2 (K .ret ⟨[(2,(.p (.str [105,100,108,101])))],h,x⟩)
 (pK (oBin .eql v0 (AI 6)) fun t3=>
 z0i t3 (K .ret ⟨[(2,(.p (.str [112,97,117,115,101,100,114])))],h,x⟩)
 (K .ret ⟨[(2,(.p (.str [112,97,117,115,101,105,114])))],h,x⟩)))
theorem e_q06s {C gl v0 h x K}:NW C gl zmw.body ⟨enter [v0],h,x⟩ K=zap C gl v0 h x K:=by kernel_rfl
def P_q03p:ACode:=(.seq (rg [mV 2 cF] [0])
(.seq (rg [uO 3 (.bsl false none 4 (.int .i64 0) [(0,(cI 0)),(1,(cI 1)),(2,(cI 6)),(3,(cI 13))]),
mV 4 0,
cL 5 z5t [3,4],
mV 2 5] [2])
.ret))
def zmb:AFun:=⟨1,[.t 2],P_q03p,false,false⟩
def znm (C:Hd) (gl:GL) (v0:AV) (h:Heap) (x:Esc) (K:KT):Prop:=
 wK (oBsl false none 4 (.int .i64 0) [(0,(AI 0)),(1,(AI 1)),(2,(AI 6)),(3,(AI 13))] h) fun t1 h2 y3=>
 C z5t [t1,v0] h2 fun t4 h5 y6=>
 K .ret ⟨[(2,t4)],h5,(y6++(y3++x))⟩
theorem e_q03p {C gl v0 h x K}:NW C gl zmb.body ⟨enter [v0],h,x⟩ K=znm C gl v0 h x K:=by kernel_rfl
def P_q03i:ACode:=(.seq (rg [mV 6 cF] [0,1,2])
(.seq (rg [mV 7 1,
mV 8 0,
bN 9 .leq 7 8,
mV 10 9,
gD 11 10 true (.mv 0),
gD 12 10 true (.mv 2),
gD 13 10 true (.bin .leq 11 12),
uO 14 (.pick 10 13 cF),
mV 6 14] [6])
.ret))
def zlW:AFun:=⟨3,[.t 6],P_q03i,false,false⟩
def znl (C:Hd) (gl:GL) (v0 v1 v2:AV) (h:Heap) (x:Esc) (K:KT):Prop:=
 pK (oBin .leq v1 v0) fun t1=>
 gM t1 true v0 h fun t2 h3 y4=>
 gM t1 true v2 h3 fun t5 h6 y7=>
 gP t1 true (oBin .leq t2 t5) h6 fun t8 h9 y10=>
 pK (z0K t1 t8 (AB false)) fun t11=>
 K .ret ⟨[(6,t11)],h9,(y10++(y7++(y4++x)))⟩
theorem e_q03i {C gl v0 v1 v2 h x K}:NW C gl zlW.body ⟨enter [v0,v1,v2],h,x⟩ K=znl C gl v0 v1 v2 h x K:=by kernel_rfl
def P_q031:ACode:=(.seq (rg [mV 2 cF] [0])
(.seq (rg [mV 3 0,
cL 4 za7 [3,(cS [48,49])],
mV 2 4] [2])
.ret))
def zlR:AFun:=⟨1,[.t 2],P_q031,false,false⟩
def znk (C:Hd) (gl:GL) (v0:AV) (h:Heap) (x:Esc) (K:KT):Prop:=
 C za7 [v0,(.p (.str [48,49]))] h fun t1 h2 y3=>
 K .ret ⟨[(2,t1)],h2,(y3++x)⟩
theorem e_q031 {C gl v0 h x K}:NW C gl zlR.body ⟨enter [v0],h,x⟩ K=znk C gl v0 h x K:=by kernel_rfl
def P_q03n:ACode:=(.seq (rg [uO 1 (.box 0),
mV 2 (cI 0)] [1])
(.seq (.block 0 (.seq (rg [fA 4 3 none 1,
lD 5 none 4,
bN 6 .eql 5 (cS []),
mV 3 6] [1,3])
(.cond 3 (.seq (rg [mV 2 (cI 8)] [2])
.ret)
(.seq (rg [fA 8 3 none 1,
lD 9 none 8,
cL 10 z4c [9],
uO 11 (.un .not 10),
mV 7 11] [1,7])
(.cond 7 (.seq (rg [mV 2 (cI 9)] [2])
.ret)
(.seq (rg [fA 13 3 none 1,
lD 14 none 13,
uO 15 (.lens 14),
bN 16 .gtr 15 (cI 2000),
mV 12 16] [1,12])
(.cond 12 (.seq (rg [mV 2 (cI 2)] [2])
.ret)
(.seq (rg [fA 18 4 none 1,
lD 19 none 18,
bN 20 .neq 19 (cS []),
mV 21 20,
gD 22 21 true (.faddr 4 none 1),
gD 23 21 true (.load none 22),
gD 24 21 true (.lens 23),
gD 25 21 true (.faddr 3 none 1),
gD 26 21 true (.load none 25),
gD 27 21 true (.lens 26),
gD 28 21 true (.bin .neq 24 27),
gD 29 21 true (.mv 28),
gD 30 29 false (.faddr 5 none 1),
gD 31 29 false (.load none 30),
gD 32 29 false (.lens 31),
gD 33 29 false (.faddr 3 none 1),
gD 34 29 false (.load none 33),
gD 35 29 false (.lens 34),
gD 36 29 false (.bin .neq 32 35),
gD 37 21 true (.pick 29 cT 36),
uO 38 (.pick 21 37 cF),
mV 17 38] [1,17])
(.cond 17 (.seq (rg [mV 2 (cI 3)] [2])
.ret)
(.seq (rg [fA 40 4 none 1,
lD 41 none 40,
cL 42 z4c [41],
uO 43 (.un .not 42),
mV 44 43,
gD 45 44 false (.faddr 5 none 1),
gD 46 44 false (.load none 45),
gD 47 44 false (.call z4c [46]),
gD 48 44 false (.un .not 47),
uO 49 (.pick 44 cT 48),
mV 39 49] [1,39])
(.cond 39 (.seq (rg [mV 2 (cI 9)] [2])
.ret)
(.seq (rg [fA 51 4 none 1,
lD 52 none 51,
bN 53 .eql 52 (cS []),
mV 54 53,
gD 55 54 true (.faddr 5 none 1),
gD 56 54 true (.load none 55),
gD 57 54 true (.bin .neq 56 (cS [])),
uO 58 (.pick 54 57 cF),
mV 50 58] [50])
(.cond 50 (.seq (rg [mV 2 (cI 3)] [2])
.ret)
.skip)))))))))))))
(.seq (rg [mV 2 (cI 0)] [2])
.ret)))
def zma:AFun:=⟨1,[.t 2],P_q03n,false,false⟩
def z3k (C:Hd) (gl:GL) (v0:AV) (h:Heap) (x:Esc) (K:KT):Prop:=
 wK (oBox v0 h) fun t1 h2 y3=>
 pK (z0d 3 none t1) fun t4=>
 pK (z0e none t4 h2) fun t5=>
 pK (oBin .eql t5 (.p (.str []))) fun t6=>
 z0i t6 (K .ret ⟨[(2,(AI 8))],h2,(y3++x)⟩)
 (pK (z0d 3 none t1) fun t7=>
 pK (z0e none t7 h2) fun t8=>
 C z4c [t8] h2 fun t9 h10 y11=>
 pK (oUn .not t9) fun t12=>
 z0i t12 (K .ret ⟨[(2,(AI 9))],h10,(y11++(y3++x))⟩)
 (pK (z0d 3 none t1) fun t13=>
 pK (z0e none t13 h10) fun t14=>
 pK (z0C t14) fun t15=>
 pK (oBin .gtr t15 (AI 2000)) fun t16=>
 z0i t16 (K .ret ⟨[(2,(AI 2))],h10,(y11++(y3++x))⟩)
 (pK (z0d 4 none t1) fun t17=>
 pK (z0e none t17 h10) fun t18=>
 pK (oBin .neq t18 (.p (.str []))) fun t19=>
 gP t19 true (z0d 4 none t1) h10 fun t20 h21 y22=>
 gP t19 true (z0e none t20 h21) h21 fun t23 h24 y25=>
 gP t19 true (z0C t23) h24 fun t26 h27 y28=>
 gP t19 true (z0d 3 none t1) h27 fun t29 h30 y31=>
 gP t19 true (z0e none t29 h30) h30 fun t32 h33 y34=>
 gP t19 true (z0C t32) h33 fun t35 h36 y37=>
 gP t19 true (oBin .neq t26 t35) h36 fun t38 h39 y40=>
 gM t19 true t38 h39 fun t41 h42 y43=>
 gP t41 false (z0d 5 none t1) h42 fun t44 h45 y46=>
 gP t41 false (z0e none t44 h45) h45 fun t47 h48 y49=>
 gP t41 false (z0C t47) h48 fun t50 h51 y52=>
 gP t41 false (z0d 3 none t1) h51 fun t53 h54 y55=>
 gP t41 false (z0e none t53 h54) h54 fun t56 h57 y58=>
 gP t41 false (z0C t56) h57 fun t59 h60 y61=>
 gP t41 false (oBin .neq t50 t59) h60 fun t62 h63 y64=>
 gP t19 true (z0K t41 (AB true) t62) h63 fun t65 h66 y67=>
 pK (z0K t19 t65 (AB false)) fun t68=>
 z0i t68 (K .ret ⟨[(2,(AI 3))],h66,(y67++(y64++(y61++(y58++(y55++(y52++(y49++(y46++(y43++(y40++(y37++(y34++(y31++(y28++(y25++(y22++(y11++(y3++x))))))))))))))))))⟩)
 (pK (z0d 4 none t1) fun t69=>
 pK (z0e none t69 h66) fun t70=>
 C z4c [t70] h66 fun t71 h72 y73=>
 pK (oUn .not t71) fun t74=>
 gP t74 false (z0d 5 none t1) h72 fun t75 h76 y77=>
 gP t74 false (z0e none t75 h76) h76 fun t78 h79 y80=>
 gV t74 false h79 (C z4c [t78] h79) fun t81 h82 y83=>
 gP t74 false (oUn .not t81) h82 fun t84 h85 y86=>
 pK (z0K t74 (AB true) t84) fun t87=>
 z0i t87 (K .ret ⟨[(2,(AI 9))],h85,(y86++(y83++(y80++(y77++(y73++(y67++(y64++(y61++(y58++(y55++(y52++(y49++(y46++(y43++(y40++(y37++(y34++(y31++(y28++(y25++(y22++(y11++(y3++x)))))))))))))))))))))))⟩)
 (pK (z0d 4 none t1) fun t88=>
 pK (z0e none t88 h85) fun t89=>
 pK (oBin .eql t89 (.p (.str []))) fun t90=>
 gP t90 true (z0d 5 none t1) h85 fun t91 h92 y93=>
 gP t90 true (z0e none t91 h92) h92 fun t94 h95 y96=>
 gP t90 true (oBin .neq t94 (.p (.str []))) h95 fun t97 h98 y99=>
 pK (z0K t90 t97 (AB false)) fun t100=>
 z0i t100 (K .ret ⟨[(2,(AI 3))],h98,(y99++(y96++(y93++(y86++(y83++(y80++(y77++(y73++(y67++(y64++(y61++(y58++(y55++(y52++(y49++(y46++(y43++(y40++(y37++(y34++(y31++(y28++(y25++(y22++(y11++(y3++x))))))))))))))))))))))))))⟩)
 (K .ret ⟨[(2,(AI 0))],h98,(y99++(y96++(y93++(y86++(y83++(y80++(y77++(y73++(y67++(y64++(y61++(y58++(y55++(y52++(y49++(y46++(y43++(y40++(y37++(y34++(y31++(y28++(y25++(y22++(y11++(y3++x))))))))))))))))))))))))))⟩))))))
theorem e_q03n {C gl v0 h x K}:NW C gl zma.body ⟨enter [v0],h,x⟩ K=z3k C gl v0 h x K:=by kernel_rfl
def z35:ACode:=.pr [0,3,4,8,9] (.seq (rg [bN 10 .lss 9 8] [0,3,4,8,9,10])
(.seq (.cond 10 .skip
(.exit 0))
(.seq (.block 1 (.seq (rg [mV 11 9,
mV 5 11] [0,3,4,5,8,9])
(.seq (rg [mV 12 0,
mV 13 5,
mV 14 4,
cL 15 z4s [12,13,14],
uO 6 (.alloc [.p (.str []),.p (.str []),.p (.str []),.p (.int .i64 0),.p (.int .i64 0)]),
wO (.store (some 5) 6 15)] [0,3,6,8,9])
(dr [dF (mV 16 3) [3],
dF (lD 17 (some 5) 6) [6],
dF (uO 18 (.bsl false (some 5) 1 (.agg [.str [],.str [],.str [],.int .i64 0,.int .i64 0]) [(0,17)])) [17],
dT (uO 19 (.app (some 5) 16 18)) [16,18],
dF (fA 20 4 none 6) [6],
dA (lD 21 none 20) [20] false [3] [],
dF (mV 3 19) [19],
dF (mV 4 21) [21]] [0,3,4,8,9]))))
(rg [bN 22 .add 9 (cI 1),
mV 9 22] [0,3,4,8,9]))))
def zdL (C:Hd) (gl:GL) (v0 v3 v4 v8 v9:AV) (h:Heap) (x:Esc) (K:KT):Prop:=
 pK (oBin .lss v9 v8) fun t1=>
 z0i t1 (C z4s [v0,v9,v4] h fun t2 h3 y4=>
 alK [.p (.str []),.p (.str []),.p (.str []),.p (.int .i64 0),.p (.int .i64 0)] h3 fun t5 h6 y7=>
 wK (z0m (some 5) t5 t2 h6) fun t8 h9 y10=>
 pK (z0e (some 5) t5 h9) fun t11=>
 wK (oBsl false (some 5) 1 (.agg [.str [],.str [],.str [],.int .i64 0,.int .i64 0]) [(0,t11)] h9) fun t12 h13 y14=>
 (h13=h9∧y14=[])∧(wK (oApp (some 5) v3 t12 h13) fun t15 h16 y17=>
 pK (z0d 4 none t5) fun t18=>
 pK (z0e none t18 h16) fun t19=>
 (pK (z0e none t18 h13) fun v=>(fun u (g1:Heap) (y1:Esc)=>u=t19∧g1=h13∧y1=[]) v h13 [])∧(pK (oBin .add v9 (AI 1)) fun t20=>
 K .normal ⟨[(0,v0),(3,t15),(4,t19),(8,v8),(9,t20)],h16,(y17++(y14++(y10++(y7++(y4++x)))))⟩)))
 (K (.exit 0) ⟨[(0,v0),(3,v3),(4,v4),(8,v8),(9,v9),(10,t1)],h,x⟩)
theorem zo6 {C gl e h x K}:NW C gl z35 ⟨e,h,x⟩ K=zdL C gl (aget e 0) (aget e 3) (aget e 4) (aget e 8) (aget e 9) h x K:=by kernel_rfl
theorem zqo {C gl e h x K}:NW C gl (.loop (.scope z35)) ⟨e,h,x⟩ K=z1a C gl (.scope z35) K [(0,aget e 0),(3,aget e 3),(4,aget e 4),(8,aget e 8),(9,aget e 9)] h x:=z2a
def z61:ACode:=.pr [3] (.seq (rg [mV 23 3,
mV 2 23] [2])
.ret)
def zdM (C:Hd) (gl:GL) (v3:AV) (h:Heap) (x:Esc) (K:KT):Prop:=
 K .ret ⟨[(2,v3)],h,x⟩
theorem zo7 {C gl e h x K}:NW C gl z61 ⟨e,h,x⟩ K=zdM C gl (aget e 3) h x K:=by kernel_rfl
def zwP (q1 q2:ACode):ACode:=(.seq (rg [mV 2 (.c (.p (.sl (some 5) [])))] [0])
(.seq (rg [uO 3 (.new0 (some 5))] [0,3])
(.seq (rg [mV 4 (cI 0)] [0,3,4])
(.seq (.seq (rg [mV 7 0,
lN 8 7,
mV 9 (cI 0)] [0,3,4,8,9])
(.block 0 (.loop (.scope q1))))
q2))))
def zlZ:AFun:=⟨1,[.t 2],zwP z35 z61,false,false⟩
def zhr (C:Hd) (gl:GL) (q1 q2:ACode) (v0:AV) (h:Heap) (x:Esc) (K:KT):Prop:=
 nwK (some 5) h fun t1 h2 y3=>
 pK (oLen v0) fun t4=>
 NW C gl (.loop (.scope q1)) ⟨[(0,v0),(3,t1),(4,(AI 0)),(8,t4),(9,(AI 0))],h2,(y3++x)⟩ (z0t 0 (seqN C gl q2 K))
theorem E_q03m {C gl q1 q2 v0 h x K}:NW C gl (zwP q1 q2) ⟨enter [v0],h,x⟩ K=zhr C gl q1 q2 v0 h x K:=by kernel_rfl
theorem e_q03m {C gl v0 h x K}:NW C gl zlZ.body ⟨enter [v0],h,x⟩ K=zhr C gl z35 z61 v0 h x K:=E_q03m
def z38:ACode:=.pr [0,1,7,8] (.seq (rg [bN 9 .lss 8 7] [0,1,7,8,9])
(.seq (.cond 9 .skip
(.exit 0))
(.seq (.block 1 (.seq (rg [mV 10 8,
mV 5 10] [0,1,5,7,8])
(.seq (rg [mV 11 1,
mV 12 0,
mV 13 5,
iA 14 none 12 13,
lD 15 none 14,
bN 16 .eql 11 15] [0,1,5,7,8,16])
(.cond 16 (.seq (rg [mV 17 5,
mV 4 17] [4])
.ret)
.skip))))
(rg [bN 18 .add 8 (cI 1),
mV 8 18] [0,1,7,8]))))
def zdQ (C:Hd) (gl:GL) (v0 v1 v7 v8:AV) (h:Heap) (x:Esc) (K:KT):Prop:=
 pK (oBin .lss v8 v7) fun t1=>
 z0i t1 (pK (z03 none v0 v8 h) fun t2=>
 pK (z0e none t2 h) fun t3=>
 pK (oBin .eql v1 t3) fun t4=>
 z0i t4 (K .ret ⟨[(4,v8)],h,x⟩)
 (pK (oBin .add v8 (AI 1)) fun t5=>
 K .normal ⟨[(0,v0),(1,v1),(7,v7),(8,t5)],h,x⟩))
 (K (.exit 0) ⟨[(0,v0),(1,v1),(7,v7),(8,v8),(9,t1)],h,x⟩)
theorem zoA {C gl e h x K}:NW C gl z38 ⟨e,h,x⟩ K=zdQ C gl (aget e 0) (aget e 1) (aget e 7) (aget e 8) h x K:=by kernel_rfl
theorem zqq {C gl e h x K}:NW C gl (.loop z38) ⟨e,h,x⟩ K=z1a C gl z38 K [(0,aget e 0),(1,aget e 1),(7,aget e 7),(8,aget e 8)] h x:=z0G
def z63:ACode:=.pr [] (.seq (rg [mV 4 (cI (-1))] [4])
.ret)
def zdR (C:Hd) (gl:GL) (h:Heap) (x:Esc) (K:KT):Prop:=
 K .ret ⟨[(4,(AI (-1)))],h,x⟩
theorem zoB {C gl e h x K}:NW C gl z63 ⟨e,h,x⟩ K=zdR C gl h x K:=by kernel_rfl
def zwR (q1 q2:ACode):ACode:=(.seq (rg [mV 4 (cI 0)] [0,1])
(.seq (.seq (rg [mV 6 0,
lN 7 6,
mV 8 (cI 0)] [0,1,7,8])
(.block 0 (.loop q1)))
q2))
def zgA:AFun:=⟨2,[.t 4],zwR z38 z63,true,false⟩
def zhs (C:Hd) (gl:GL) (q1 q2:ACode) (v0 v1:AV) (h:Heap) (x:Esc) (K:KT):Prop:=
 pK (oLen v0) fun t1=>
 NW C gl (.loop q1) ⟨[(0,v0),(1,v1),(7,t1),(8,(AI 0))],h,x⟩ (z0t 0 (seqN C gl q2 K))
theorem E_q044 {C gl q1 q2 v0 v1 h x K}:NW C gl (zwR q1 q2) ⟨enter [v0,v1],h,x⟩ K=zhs C gl q1 q2 v0 v1 h x K:=by kernel_rfl
theorem e_q044 {C gl v0 v1 h x K}:NW C gl zgA.body ⟨enter [v0,v1],h,x⟩ K=zhs C gl z38 z63 v0 v1 h x K:=E_q044
def P_q006:ACode:=(.seq (rg [mV 2 (.c (.p (.sl none []))),
mV 3 cF] [0])
(.seq (.seq (rg [mV 5 0,
bN 6 .eql 5 (cS [])] [0,6])
(.cond 6 (.seq (rg [mV 2 (.c (.p (.sl none []))),
mV 3 cT] [2,3])
.ret)
.skip))
(.seq (rg [mV 8 0,
cL 9 zaF [8,(cS [10])],
mV 7 9,
eX 10 7 0,
eX 11 7 1,
mV 4 10,
mV 3 11] [3,4])
(.seq (rg [mV 12 4,
cL 13 z77 [12,(cS [10])],
mV 14 3,
mV 2 13,
mV 3 14] [2,3])
.ret))))
def zl1:AFun:=⟨1,[.t 2,.t 3],P_q006,false,false⟩
def zgY (C:Hd) (gl:GL) (v0:AV) (h:Heap) (x:Esc) (K:KT):Prop:=
 pK (oBin .eql v0 (.p (.str []))) fun t1=>
 z0i t1 (K .ret ⟨[(2,(.p (.sl none []))),(3,(AB true))],h,x⟩)
 (C zaF [v0,(.p (.str [10]))] h fun t2 h3 y4=>
 pK (oExt t2 0) fun t5=>
 pK (oExt t2 1) fun t6=>
 C z77 [t5,(.p (.str [10]))] h3 fun t7 h8 y9=>
 K .ret ⟨[(2,t7),(3,t6)],h8,(y9++(y4++x))⟩)
theorem e_q006 {C gl v0 h x K}:NW C gl zl1.body ⟨enter [v0],h,x⟩ K=zgY C gl v0 h x K:=by kernel_rfl
def P_q05c:ACode:=(.seq (rg [mV 4 (.c (.p (.sl none [])))] [0,1])
(.seq (rg [mV 5 0,
mV 6 1,
cL 7 zaJ [5,6,(cI 0),(cI (-1))],
mV 4 7] [4])
.ret))
def zmk:AFun:=⟨2,[.t 4],P_q05c,false,false⟩
def znu (C:Hd) (gl:GL) (v0 v1:AV) (h:Heap) (x:Esc) (K:KT):Prop:=
 C zaJ [v0,v1,(AI 0),(AI (-1))] h fun t1 h2 y3=>
 K .ret ⟨[(4,t1)],h2,(y3++x)⟩
theorem e_q05c {C gl v0 v1 h x K}:NW C gl zmk.body ⟨enter [v0,v1],h,x⟩ K=znu C gl v0 v1 h x K:=by kernel_rfl
def P_q03y:ACode:=(.seq (rg [mV 4 cF] [0,1])
(.seq (rg [mV 5 0,
mV 6 1,
cL 7 z74 [5,6],
bN 8 .geq 7 (cI 0),
mV 4 8] [4])
.ret))
def zg9:AFun:=⟨2,[.t 4],P_q03y,true,false⟩
def zno (C:Hd) (gl:GL) (v0 v1:AV) (h:Heap) (x:Esc) (K:KT):Prop:=
 C z74 [v0,v1] h fun t1 h2 y3=>
 pK (oBin .geq t1 (AI 0)) fun t4=>
 K .ret ⟨[(4,t4)],h2,(y3++x)⟩
theorem e_q03y {C gl v0 v1 h x K}:NW C gl zg9.body ⟨enter [v0,v1],h,x⟩ K=zno C gl v0 v1 h x K:=by kernel_rfl
def z3C:ACode:=.pr [0,3] (.seq (.seq (rg [mV 4 3,
bN 5 .leq 4 (cI 10)] [0,3,5])
(.cond 5 .skip
(.exit 0)))
(.seq (.block 1 (.seq (rg [mV 8 3,
cL 9 z79 [8],
mV 10 0,
bN 11 .eql 9 10] [0,3,11])
(.cond 11 (.seq (rg [mV 12 3,
mV 2 12] [2])
.ret)
.skip)))
(rg [mV 6 3,
bN 7 .add 6 (cI 1),
mV 3 7] [0,3])))
def zem (C:Hd) (gl:GL) (v0 v3:AV) (h:Heap) (x:Esc) (K:KT):Prop:=
 pK (oBin .leq v3 (AI 10)) fun t1=>
 z0i t1 (C z79 [v3] h fun t2 h3 y4=>
 pK (oBin .eql t2 v0) fun t5=>
 z0i t5 (K .ret ⟨[(2,v3)],h3,(y4++x)⟩)
 (pK (oBin .add v3 (AI 1)) fun t6=>
 K .normal ⟨[(0,v0),(3,t6)],h3,(y4++x)⟩))
 (K (.exit 0) ⟨[(0,v0),(3,v3),(5,t1)],h,x⟩)
theorem zoT {C gl e h x K}:NW C gl z3C ⟨e,h,x⟩ K=zem C gl (aget e 0) (aget e 3) h x K:=by kernel_rfl
theorem zqy {C gl e h x K}:NW C gl (.loop z3C) ⟨e,h,x⟩ K=z1a C gl z3C K [(0,aget e 0),(3,aget e 3)] h x:=z0G
def z6B:ACode:=.pr [] (.seq (rg [mV 2 (cI 0)] [2])
.ret)
def zen (C:Hd) (gl:GL) (h:Heap) (x:Esc) (K:KT):Prop:=
 K .ret ⟨[(2,(AI 0))],h,x⟩
theorem zoU {C gl e h x K}:NW C gl z6B ⟨e,h,x⟩ K=zen C gl h x K:=by kernel_rfl
def zwZ (q1 q2:ACode):ACode:=(.seq (rg [mV 2 (cI 0)] [0])
(.seq (.seq (rg [mV 3 (cI 1)] [0,3])
(.block 0 (.loop q1)))
q2))
def zmt:AFun:=⟨1,[.t 2],zwZ z3C z6B,false,false⟩
def zhy (C:Hd) (gl:GL) (q1 q2:ACode) (v0:AV) (h:Heap) (x:Esc) (K:KT):Prop:=
 NW C gl (.loop q1) ⟨[(0,v0),(3,(AI 1))],h,x⟩ (z0t 0 (seqN C gl q2 K))
theorem E_q06f {C gl q1 q2 v0 h x K}:NW C gl (zwZ q1 q2) ⟨enter [v0],h,x⟩ K=zhy C gl q1 q2 v0 h x K:=by kernel_rfl
theorem e_q06f {C gl v0 h x K}:NW C gl zmt.body ⟨enter [v0],h,x⟩ K=zhy C gl z3C z6B v0 h x K:=E_q06f
def z2C:ACode:=.pr [0,6,38,39] (.seq (rg [bN 40 .lss 39 38] [0,6,38,39,40])
(.seq (.cond 40 .skip
(.exit 0))
(.seq (.block 1 (.seq (rg [mV 41 39,
mV 7 41] [0,6,7,38,39])
(.seq (rg [mV 42 6,
mV 43 7,
uO 44 (.idxs 42 43),
bN 45 .lss 44 (.c (.p (.int .u8 48))),
mV 46 45,
gD 47 46 false (.mv 6),
gD 48 46 false (.mv 7),
gD 49 46 false (.idxs 47 48),
gD 50 46 false (.bin .gtr 49 (.c (.p (.int .u8 57)))),
uO 51 (.pick 46 cT 50)] [0,6,38,39,51])
(.cond 51 (.seq (rg [mV 4 (cI 0),
mV 5 cF] [4,5])
.ret)
.skip))))
(rg [bN 52 .add 39 (cI 1),
mV 39 52] [0,6,38,39]))))
def zdl (C:Hd) (gl:GL) (v0 v6 v38 v39:AV) (h:Heap) (x:Esc) (K:KT):Prop:=
 pK (oBin .lss v39 v38) fun t1=>
 z0i t1 (pK (z1L v6 v39) fun t2=>
 pK (oBin .lss t2 (.p (.int .u8 48))) fun t3=>
 gM t3 false v6 h fun t4 h5 y6=>
 gM t3 false v39 h5 fun t7 h8 y9=>
 gP t3 false (z1L t4 t7) h8 fun t10 h11 y12=>
 gP t3 false (oBin .gtr t10 (.p (.int .u8 57))) h11 fun t13 h14 y15=>
 pK (z0K t3 (AB true) t13) fun t16=>
 z0i t16 (K .ret ⟨[(4,(AI 0)),(5,(AB false))],h14,(y15++(y12++(y9++(y6++x))))⟩)
 (pK (oBin .add v39 (AI 1)) fun t17=>
 K .normal ⟨[(0,v0),(6,v6),(38,v38),(39,t17)],h14,(y15++(y12++(y9++(y6++x))))⟩))
 (K (.exit 0) ⟨[(0,v0),(6,v6),(38,v38),(39,v39),(40,t1)],h,x⟩)
theorem znG {C gl e h x K}:NW C gl z2C ⟨e,h,x⟩ K=zdl C gl (aget e 0) (aget e 6) (aget e 38) (aget e 39) h x K:=by kernel_rfl
theorem zpW {C gl e h x K}:NW C gl (.loop z2C) ⟨e,h,x⟩ K=z1a C gl z2C K [(0,aget e 0),(6,aget e 6),(38,aget e 38),(39,aget e 39)] h x:=z0G
def z6h:ACode:=.pr [0] (.seq (rg [mV 54 0,
cL 55 zaC [54],
mV 53 55,
eX 56 53 0,
eX 57 53 1,
mV 8 56,
mV 9 57] [8,9])
(.seq (dr [dF (mV 58 8) [8],
dF (mV 59 9) [9],
dF (uO 60 (.isnil 3 false 59)) [59],
dF (mV 4 58) [58],
dF (mV 5 60) [60]] [4,5])
.ret))
def z5P (C:Hd) (gl:GL) (v0:AV) (h:Heap) (x:Esc) (K:KT):Prop:=
 C zaC [v0] h fun t1 h2 y3=>
 pK (oExt t1 0) fun t4=>
 pK (oExt t1 1) fun t5=>
 pK (zaX 3 false t5) fun t6=>
 K .ret ⟨[(4,t4),(5,t6)],h2,(y3++x)⟩
theorem z5V {C gl e h x K}:NW C gl z6h ⟨e,h,x⟩ K=z5P C gl (aget e 0) h x K:=by kernel_rfl
def zw7 (q1 q2:ACode):ACode:=(.seq (rg [mV 4 (cI 0),
mV 5 cF] [0,1])
(.seq (rg [mV 10 0,
cL 11 zaI [10,(cS [45])],
mV 6 11] [0,1,6])
(.seq (.seq (rg [mV 12 6,
bN 13 .eql 12 (cS []),
mV 14 13,
gD 15 14 false (.mv 6),
gD 16 14 false (.lens 15),
gD 17 14 false (.mv 1),
gD 18 14 false (.bin .gtr 16 17),
uO 19 (.pick 14 cT 18),
mV 20 19,
gD 21 20 false (.mv 6),
gD 22 20 false (.idxs 21 (cI 0)),
gD 23 20 false (.bin .eql 22 (.c (.p (.int .u8 48)))),
gD 24 20 false (.mv 23),
gD 25 24 true (.mv 6),
gD 26 24 true (.lens 25),
gD 27 24 true (.bin .gtr 26 (cI 1)),
gD 28 24 true (.mv 27),
gD 29 28 false (.mv 0),
gD 30 28 false (.lens 29),
gD 31 28 false (.mv 6),
gD 32 28 false (.lens 31),
gD 33 28 false (.bin .gtr 30 32),
gD 34 24 true (.pick 28 cT 33),
gD 35 20 false (.pick 24 34 cF),
uO 36 (.pick 20 cT 35)] [0,6,36])
(.cond 36 (.seq (rg [mV 4 (cI 0),
mV 5 cF] [4,5])
.ret)
.skip))
(.seq (.seq (rg [mV 37 6,
uO 38 (.lens 37),
mV 39 (cI 0)] [0,6,38,39])
(.block 0 (.loop q1)))
q2))))
def zl2:AFun:=⟨2,[.t 4,.t 5],zw7 z2C z6h,false,false⟩
def z5O (C:Hd) (gl:GL) (q1 q2:ACode) (v0 v1:AV) (h:Heap) (x:Esc) (K:KT):Prop:=
 C zaI [v0,(.p (.str [45]))] h fun t1 h2 y3=>
 pK (oBin .eql t1 (.p (.str []))) fun t4=>
 gM t4 false t1 h2 fun t5 h6 y7=>
 gP t4 false (z0C t5) h6 fun t8 h9 y10=>
 gM t4 false v1 h9 fun t11 h12 y13=>
 gP t4 false (oBin .gtr t8 t11) h12 fun t14 h15 y16=>
 pK (z0K t4 (AB true) t14) fun t17=>
 gM t17 false t1 h15 fun t18 h19 y20=>
 gP t17 false (z1L t18 (AI 0)) h19 fun t21 h22 y23=>
 gP t17 false (oBin .eql t21 (.p (.int .u8 48))) h22 fun t24 h25 y26=>
 gM t17 false t24 h25 fun t27 h28 y29=>
 gM t27 true t1 h28 fun t30 h31 y32=>
 gP t27 true (z0C t30) h31 fun t33 h34 y35=>
 gP t27 true (oBin .gtr t33 (AI 1)) h34 fun t36 h37 y38=>
 gM t27 true t36 h37 fun t39 h40 y41=>
 gM t39 false v0 h40 fun t42 h43 y44=>
 gP t39 false (z0C t42) h43 fun t45 h46 y47=>
 gM t39 false t1 h46 fun t48 h49 y50=>
 gP t39 false (z0C t48) h49 fun t51 h52 y53=>
 gP t39 false (oBin .gtr t45 t51) h52 fun t54 h55 y56=>
 gP t27 true (z0K t39 (AB true) t54) h55 fun t57 h58 y59=>
 gP t17 false (z0K t27 t57 (AB false)) h58 fun t60 h61 y62=>
 pK (z0K t17 (AB true) t60) fun t63=>
 z0i t63 (K .ret ⟨[(4,(AI 0)),(5,(AB false))],h61,(y62++(y59++(y56++(y53++(y50++(y47++(y44++(y41++(y38++(y35++(y32++(y29++(y26++(y23++(y20++(y16++(y13++(y10++(y7++(y3++x))))))))))))))))))))⟩)
 (pK (z0C t1) fun t64=>
 NW C gl (.loop q1) ⟨[(0,v0),(6,t1),(38,t64),(39,(AI 0))],h61,(y62++(y59++(y56++(y53++(y50++(y47++(y44++(y41++(y38++(y35++(y32++(y29++(y26++(y23++(y20++(y16++(y13++(y10++(y7++(y3++x))))))))))))))))))))⟩ (z0t 0 (seqN C gl q2 K)))
theorem E_q008 {C gl q1 q2 v0 v1 h x K}:NW C gl (zw7 q1 q2) ⟨enter [v0,v1],h,x⟩ K=z5O C gl q1 q2 v0 v1 h x K:=by kernel_rfl
theorem e_q008 {C gl v0 v1 h x K}:NW C gl zl2.body ⟨enter [v0,v1],h,x⟩ K=z5O C gl z2C z6h v0 v1 h x K:=E_q008
def z39:ACode:=.pr [0,1,7,8] (.seq (rg [bN 9 .lss 8 7] [0,1,7,8,9])
(.seq (.cond 9 .skip
(.exit 0))
(.seq (.block 1 (.seq (rg [mV 10 8,
mV 5 10] [0,1,5,7,8])
(.seq (rg [mV 11 1,
mV 12 0,
mV 13 5,
iA 14 none 12 13,
lD 15 none 14,
bN 16 .eql 11 15] [0,1,5,7,8,16])
(.cond 16 (.seq (rg [mV 17 5,
mV 4 17] [4])
.ret)
.skip))))
(rg [bN 18 .add 8 (cI 1),
mV 8 18] [0,1,7,8]))))
def zdS (C:Hd) (gl:GL) (v0 v1 v7 v8:AV) (h:Heap) (x:Esc) (K:KT):Prop:=
 pK (oBin .lss v8 v7) fun t1=>
 z0i t1 (pK (z03 none v0 v8 h) fun t2=>
 pK (z0e none t2 h) fun t3=>
 pK (oBin .eql v1 t3) fun t4=>
 z0i t4 (K .ret ⟨[(4,v8)],h,x⟩)
 (pK (oBin .add v8 (AI 1)) fun t5=>
 K .normal ⟨[(0,v0),(1,v1),(7,v7),(8,t5)],h,x⟩))
 (K (.exit 0) ⟨[(0,v0),(1,v1),(7,v7),(8,v8),(9,t1)],h,x⟩)
theorem zoC {C gl e h x K}:NW C gl z39 ⟨e,h,x⟩ K=zdS C gl (aget e 0) (aget e 1) (aget e 7) (aget e 8) h x K:=by kernel_rfl
theorem zqr {C gl e h x K}:NW C gl (.loop z39) ⟨e,h,x⟩ K=z1a C gl z39 K [(0,aget e 0),(1,aget e 1),(7,aget e 7),(8,aget e 8)] h x:=z0G
def z64:ACode:=.pr [] (.seq (rg [mV 4 (cI (-1))] [4])
.ret)
def zdT (C:Hd) (gl:GL) (h:Heap) (x:Esc) (K:KT):Prop:=
 K .ret ⟨[(4,(AI (-1)))],h,x⟩
theorem zoD {C gl e h x K}:NW C gl z64 ⟨e,h,x⟩ K=zdT C gl h x K:=by kernel_rfl
def zwS (q1 q2:ACode):ACode:=(.seq (rg [mV 4 (cI 0)] [0,1])
(.seq (.seq (rg [mV 6 0,
lN 7 6,
mV 8 (cI 0)] [0,1,7,8])
(.block 0 (.loop q1)))
q2))
def zgB:AFun:=⟨2,[.t 4],zwS z39 z64,true,false⟩
def zht (C:Hd) (gl:GL) (q1 q2:ACode) (v0 v1:AV) (h:Heap) (x:Esc) (K:KT):Prop:=
 pK (oLen v0) fun t1=>
 NW C gl (.loop q1) ⟨[(0,v0),(1,v1),(7,t1),(8,(AI 0))],h,x⟩ (z0t 0 (seqN C gl q2 K))
theorem E_q045 {C gl q1 q2 v0 v1 h x K}:NW C gl (zwS q1 q2) ⟨enter [v0,v1],h,x⟩ K=zht C gl q1 q2 v0 v1 h x K:=by kernel_rfl
theorem e_q045 {C gl v0 v1 h x K}:NW C gl zgB.body ⟨enter [v0,v1],h,x⟩ K=zht C gl z39 z64 v0 v1 h x K:=E_q045
def P_q06q:ACode:=(.seq (rg [mV 2 cF] [0])
(.seq (rg [mV 3 0,
bN 4 .eql 3 (cI 0),
mV 5 4,
gD 6 5 false (.mv 0),
gD 7 5 false (.bin .eql 6 (cI 1)),
uO 8 (.pick 5 cT 7),
mV 9 8,
gD 10 9 false (.mv 0),
gD 11 9 false (.bin .eql 10 (cI 6)),
uO 12 (.pick 9 cT 11),
mV 13 12,
gD 14 13 false (.mv 0),
gD 15 13 false (.bin .eql 14 (cI 13)),
uO 16 (.pick 13 cT 15),
mV 2 16] [2])
.ret))
def zgO:AFun:=⟨1,[.t 2],P_q06q,false,false⟩
def z8C (C:Hd) (gl:GL) (v0:AV) (h:Heap) (x:Esc) (K:KT):Prop:=
 pK (oBin .eql v0 (AI 0)) fun t1=>
 gM t1 false v0 h fun t2 h3 y4=>
 gP t1 false (oBin .eql t2 (AI 1)) h3 fun t5 h6 y7=>
 pK (z0K t1 (AB true) t5) fun t8=>
 gM t8 false v0 h6 fun t9 h10 y11=>
 gP t8 false (oBin .eql t9 (AI 6)) h10 fun t12 h13 y14=>
 pK (z0K t8 (AB true) t12) fun t15=>
 gM t15 false v0 h13 fun t16 h17 y18=>
 gP t15 false (oBin .eql t16 (AI 13)) h17 fun t19 h20 y21=>
 pK (z0K t15 (AB true) t19) fun t22=>
 K .ret ⟨[(2,t22)],h20,(y21++(y18++(y14++(y11++(y7++(y4++x))))))⟩
theorem e_q06q {C gl v0 h x K}:NW C gl zgO.body ⟨enter [v0],h,x⟩ K=z8C C gl v0 h x K:=by kernel_rfl
def P_q06n:ACode:=(.seq (rg [uO 1 (.box 0),
mV 2 (cI 0)] [1])
(.seq (.block 0 (.seq (rg [fA 4 3 none 1,
lD 5 none 4,
bN 6 .eql 5 (cS []),
mV 3 6] [1,3])
(.cond 3 (.seq (rg [mV 2 (cI 8)] [2])
.ret)
(.seq (rg [fA 8 3 none 1,
lD 9 none 8,
cL 10 z26 [9],
uO 11 (.un .not 10),
mV 7 11] [1,7])
(.cond 7 (.seq (rg [mV 2 (cI 9)] [2])
.ret)
(.seq (rg [fA 13 3 none 1,
lD 14 none 13,
uO 15 (.lens 14),
bN 16 .gtr 15 (cI 2000),
mV 12 16] [1,12])
(.cond 12 (.seq (rg [mV 2 (cI 2)] [2])
.ret)
(.seq (rg [fA 18 4 none 1,
lD 19 none 18,
bN 20 .neq 19 (cS []),
mV 21 20,
gD 22 21 true (.faddr 4 none 1),
gD 23 21 true (.load none 22),
gD 24 21 true (.lens 23),
gD 25 21 true (.faddr 3 none 1),
gD 26 21 true (.load none 25),
gD 27 21 true (.lens 26),
gD 28 21 true (.bin .neq 24 27),
gD 29 21 true (.mv 28),
gD 30 29 false (.faddr 5 none 1),
gD 31 29 false (.load none 30),
gD 32 29 false (.lens 31),
gD 33 29 false (.faddr 3 none 1),
gD 34 29 false (.load none 33),
gD 35 29 false (.lens 34),
gD 36 29 false (.bin .neq 32 35),
gD 37 21 true (.pick 29 cT 36),
uO 38 (.pick 21 37 cF),
mV 17 38] [1,17])
(.cond 17 (.seq (rg [mV 2 (cI 3)] [2])
.ret)
(.seq (rg [fA 40 4 none 1,
lD 41 none 40,
cL 42 z26 [41],
uO 43 (.un .not 42),
mV 44 43,
gD 45 44 false (.faddr 5 none 1),
gD 46 44 false (.load none 45),
gD 47 44 false (.call z26 [46]),
gD 48 44 false (.un .not 47),
uO 49 (.pick 44 cT 48),
mV 39 49] [1,39])
(.cond 39 (.seq (rg [mV 2 (cI 9)] [2])
.ret)
(.seq (rg [fA 51 4 none 1,
lD 52 none 51,
bN 53 .eql 52 (cS []),
mV 54 53,
gD 55 54 true (.faddr 5 none 1),
gD 56 54 true (.load none 55),
gD 57 54 true (.bin .neq 56 (cS [])),
uO 58 (.pick 54 57 cF),
mV 50 58] [50])
(.cond 50 (.seq (rg [mV 2 (cI 3)] [2])
.ret)
.skip)))))))))))))
(.seq (rg [mV 2 (cI 0)] [2])
.ret)))
def zgM:AFun:=⟨1,[.t 2],P_q06n,false,false⟩
def z3n (C:Hd) (gl:GL) (v0:AV) (h:Heap) (x:Esc) (K:KT):Prop:=
 wK (oBox v0 h) fun t1 h2 y3=>
 pK (z0d 3 none t1) fun t4=>
 pK (z0e none t4 h2) fun t5=>
 pK (oBin .eql t5 (.p (.str []))) fun t6=>
 z0i t6 (K .ret ⟨[(2,(AI 8))],h2,(y3++x)⟩)
 (pK (z0d 3 none t1) fun t7=>
 pK (z0e none t7 h2) fun t8=>
 C z26 [t8] h2 fun t9 h10 y11=>
 pK (oUn .not t9) fun t12=>
 z0i t12 (K .ret ⟨[(2,(AI 9))],h10,(y11++(y3++x))⟩)
 (pK (z0d 3 none t1) fun t13=>
 pK (z0e none t13 h10) fun t14=>
 pK (z0C t14) fun t15=>
 pK (oBin .gtr t15 (AI 2000)) fun t16=>
 z0i t16 (K .ret ⟨[(2,(AI 2))],h10,(y11++(y3++x))⟩)
 (pK (z0d 4 none t1) fun t17=>
 pK (z0e none t17 h10) fun t18=>
 pK (oBin .neq t18 (.p (.str []))) fun t19=>
 gP t19 true (z0d 4 none t1) h10 fun t20 h21 y22=>
 gP t19 true (z0e none t20 h21) h21 fun t23 h24 y25=>
 gP t19 true (z0C t23) h24 fun t26 h27 y28=>
 gP t19 true (z0d 3 none t1) h27 fun t29 h30 y31=>
 gP t19 true (z0e none t29 h30) h30 fun t32 h33 y34=>
 gP t19 true (z0C t32) h33 fun t35 h36 y37=>
 gP t19 true (oBin .neq t26 t35) h36 fun t38 h39 y40=>
 gM t19 true t38 h39 fun t41 h42 y43=>
 gP t41 false (z0d 5 none t1) h42 fun t44 h45 y46=>
 gP t41 false (z0e none t44 h45) h45 fun t47 h48 y49=>
 gP t41 false (z0C t47) h48 fun t50 h51 y52=>
 gP t41 false (z0d 3 none t1) h51 fun t53 h54 y55=>
 gP t41 false (z0e none t53 h54) h54 fun t56 h57 y58=>
 gP t41 false (z0C t56) h57 fun t59 h60 y61=>
 gP t41 false (oBin .neq t50 t59) h60 fun t62 h63 y64=>
 gP t19 true (z0K t41 (AB true) t62) h63 fun t65 h66 y67=>
 pK (z0K t19 t65 (AB false)) fun t68=>
 z0i t68 (K .ret ⟨[(2,(AI 3))],h66,(y67++(y64++(y61++(y58++(y55++(y52++(y49++(y46++(y43++(y40++(y37++(y34++(y31++(y28++(y25++(y22++(y11++(y3++x))))))))))))))))))⟩)
 (pK (z0d 4 none t1) fun t69=>
 pK (z0e none t69 h66) fun t70=>
 C z26 [t70] h66 fun t71 h72 y73=>
 pK (oUn .not t71) fun t74=>
 gP t74 false (z0d 5 none t1) h72 fun t75 h76 y77=>
 gP t74 false (z0e none t75 h76) h76 fun t78 h79 y80=>
 gV t74 false h79 (C z26 [t78] h79) fun t81 h82 y83=>
 gP t74 false (oUn .not t81) h82 fun t84 h85 y86=>
 pK (z0K t74 (AB true) t84) fun t87=>
 z0i t87 (K .ret ⟨[(2,(AI 9))],h85,(y86++(y83++(y80++(y77++(y73++(y67++(y64++(y61++(y58++(y55++(y52++(y49++(y46++(y43++(y40++(y37++(y34++(y31++(y28++(y25++(y22++(y11++(y3++x)))))))))))))))))))))))⟩)
 (pK (z0d 4 none t1) fun t88=>
 pK (z0e none t88 h85) fun t89=>
 pK (oBin .eql t89 (.p (.str []))) fun t90=>
 gP t90 true (z0d 5 none t1) h85 fun t91 h92 y93=>
 gP t90 true (z0e none t91 h92) h92 fun t94 h95 y96=>
 gP t90 true (oBin .neq t94 (.p (.str []))) h95 fun t97 h98 y99=>
 pK (z0K t90 t97 (AB false)) fun t100=>
 z0i t100 (K .ret ⟨[(2,(AI 3))],h98,(y99++(y96++(y93++(y86++(y83++(y80++(y77++(y73++(y67++(y64++(y61++(y58++(y55++(y52++(y49++(y46++(y43++(y40++(y37++(y34++(y31++(y28++(y25++(y22++(y11++(y3++x))))))))))))))))))))))))))⟩)
 (K .ret ⟨[(2,(AI 0))],h98,(y99++(y96++(y93++(y86++(y83++(y80++(y77++(y73++(y67++(y64++(y61++(y58++(y55++(y52++(y49++(y46++(y43++(y40++(y37++(y34++(y31++(y28++(y25++(y22++(y11++(y3++x))))))))))))))))))))))))))⟩))))))
theorem e_q06n {C gl v0 h x K}:NW C gl zgM.body ⟨enter [v0],h,x⟩ K=z3n C gl v0 h x K:=by kernel_rfl
def P_q000:ACode:=(.seq (rg [mV 2 cF] [0])
(.seq (rg [mV 3 0,
cL 4 zeI [3,(cS [48,49])],
bN 5 .eql 4 (cS []),
mV 2 5] [2])
.ret))
def zg5:AFun:=⟨1,[.t 2],P_q000,false,false⟩
def zna (C:Hd) (gl:GL) (v0:AV) (h:Heap) (x:Esc) (K:KT):Prop:=
 C zeI [v0,(.p (.str [48,49]))] h fun t1 h2 y3=>
 pK (oBin .eql t1 (.p (.str []))) fun t4=>
 K .ret ⟨[(2,t4)],h2,(y3++x)⟩
theorem e_q000 {C gl v0 h x K}:NW C gl zg5.body ⟨enter [v0],h,x⟩ K=zna C gl v0 h x K:=by kernel_rfl
def P_q05p:ACode:=(.seq (rg [mV 4 (cS []),
mV 5 (cI 0)] [0,1])
(.seq (.seq (rg [mV 6 0,
cL 7 z6a [6],
uO 8 (.un .not 7),
mV 9 8,
gD 10 9 false (.mv 1),
gD 11 9 false (.call z6a [10]),
gD 12 9 false (.un .not 11),
uO 13 (.pick 9 cT 12)] [0,1,13])
(.cond 13 (.seq (rg [mV 4 (cS []),
mV 5 (cI 1)] [4,5])
.ret)
.skip))
(.seq (rg [mV 14 0,
mV 15 1,
cL 16 z4t [14,15],
mV 4 16,
mV 5 (cI 0)] [4,5])
.ret)))
def zgC:AFun:=⟨2,[.t 4,.t 5],P_q05p,false,false⟩
def znx (C:Hd) (gl:GL) (v0 v1:AV) (h:Heap) (x:Esc) (K:KT):Prop:=
 C z6a [v0] h fun t1 h2 y3=>
 pK (oUn .not t1) fun t4=>
 gM t4 false v1 h2 fun t5 h6 y7=>
 gV t4 false h6 (C z6a [t5] h6) fun t8 h9 y10=>
 gP t4 false (oUn .not t8) h9 fun t11 h12 y13=>
 pK (z0K t4 (AB true) t11) fun t14=>
 z0i t14 (K .ret ⟨[(4,(.p (.str []))),(5,(AI 1))],h12,(y13++(y10++(y7++(y3++x))))⟩)
 (C z4t [v0,v1] h12 fun t15 h16 y17=>
 K .ret ⟨[(4,t15),(5,(AI 0))],h16,(y17++(y13++(y10++(y7++(y3++x)))))⟩)
theorem e_q05p {C gl v0 v1 h x K}:NW C gl zgC.body ⟨enter [v0,v1],h,x⟩ K=znx C gl v0 v1 h x K:=by kernel_rfl
def P_q01w:ACode:=(.seq (rg [mV 4 (cI 0)] [0,1])
(.seq (rg [mV 5 0,
mV 6 1,
cL 7 z0l [5,6],
mV 4 7] [4])
.ret))
def zlA:AFun:=⟨2,[.t 4],P_q01w,false,false⟩
def zhd (C:Hd) (gl:GL) (v0 v1:AV) (h:Heap) (x:Esc) (K:KT):Prop:=
 C z0l [v0,v1] h fun t1 h2 y3=>
 K .ret ⟨[(4,t1)],h2,(y3++x)⟩
theorem e_q01w {C gl v0 v1 h x K}:NW C gl zlA.body ⟨enter [v0,v1],h,x⟩ K=zhd C gl v0 v1 h x K:=by kernel_rfl
def P_q019:ACode:=(.seq (rg [mV 2 (cI 0)] [0])
(.seq (rg [mV 3 0,
bN 4 .add 3 (cI 16),
bN 5 .quo 4 (cI 8),
mV 2 5] [2])
.ret))
def zl3:AFun:=⟨1,[.t 2],P_q019,false,false⟩
def zxr (C:Hd) (gl:GL) (v0:AV) (h:Heap) (x:Esc) (K:KT):Prop:=
 pK (oBin .add v0 (AI 16)) fun t1=>
 pK (oBin .quo t1 (AI 8)) fun t2=>
 K .ret ⟨[(2,t2)],h,x⟩
theorem e_q019 {C gl v0 h x K}:NW C gl zl3.body ⟨enter [v0],h,x⟩ K=zxr C gl v0 h x K:=by kernel_rfl
def z3s:ACode:=.pr [0,1,5,6,7,8,9] (.seq (.seq (rg [mV 18 9,
mV 19 7,
bN 20 .lss 18 19] [0,1,5,6,7,8,9,20])
(.cond 20 .skip
(.exit 0)))
(.seq (.block 1 (rg [mV 23 8,
bN 24 .mul 23 (.c (.p (.int .u32 16777619))),
mV 25 0,
mV 26 9,
uO 27 (.idxs 25 26),
uO 28 (.conv (.i .u32) 27),
bN 29 .add 24 28,
mV 8 29] [0,1,5,6,7,8,9]))
(rg [mV 21 9,
bN 22 .add 21 (cI 1),
mV 9 22] [0,1,5,6,7,8,9])))
def zdm (C:Hd) (gl:GL) (v0 v1 v5 v6 v7 v8 v9:AV) (h:Heap) (x:Esc) (K:KT):Prop:=
 pK (oBin .lss v9 v7) fun t1=>
 z0i t1 (pK (oBin .mul v8 (.p (.int .u32 16777619))) fun t2=>
 pK (z1L v0 v9) fun t3=>
 pK (z18 .u32 t3) fun t4=>
 pK (oBin .add t2 t4) fun t5=>
 pK (oBin .add v9 (AI 1)) fun t6=>
 K .normal ⟨[(0,v0),(1,v1),(5,v5),(6,v6),(7,v7),(8,t5),(9,t6)],h,x⟩)
 (K (.exit 0) ⟨[(0,v0),(1,v1),(5,v5),(6,v6),(7,v7),(8,v8),(9,v9),(20,t1)],h,x⟩)
theorem znH {C gl e h x K}:NW C gl z3s ⟨e,h,x⟩ K=zdm C gl (aget e 0) (aget e 1) (aget e 5) (aget e 6) (aget e 7) (aget e 8) (aget e 9) h x K:=by kernel_rfl
theorem zpX {C gl e h x K}:NW C gl (.loop z3s) ⟨e,h,x⟩ K=z1a C gl z3s K [(0,aget e 0),(1,aget e 1),(5,aget e 5),(6,aget e 6),(7,aget e 7),(8,aget e 8),(9,aget e 9)] h x:=z0G
def z40:ACode:=.pr [0,1,5,6,7,8,10] (.seq (.seq (rg [mV 41 10,
mV 42 0,
uO 43 (.lens 42),
bN 44 .lss 41 43] [0,1,5,6,7,8,10,44])
(.cond 44 .skip
(.exit 2)))
(.block 3 (.seq (rg [mV 45 8,
bN 46 .mul 45 (.c (.p (.int .u32 16777619))),
mV 8 46] [0,1,5,6,7,8,10])
(.seq (rg [mV 47 8,
mV 48 0,
mV 49 10,
uO 50 (.idxs 48 49),
uO 51 (.conv (.i .u32) 50),
bN 52 .add 47 51,
mV 8 52] [0,1,5,6,7,8,10])
(.seq (rg [mV 53 8,
mV 54 6,
mV 55 0,
mV 56 10,
mV 57 7,
bN 58 .sub 56 57,
uO 59 (.idxs 55 58),
uO 60 (.conv (.i .u32) 59),
bN 61 .mul 54 60,
bN 62 .sub 53 61,
mV 8 62] [0,1,5,6,7,8,10])
(.seq (rg [mV 63 10,
bN 64 .add 63 (cI 1),
mV 10 64] [0,1,5,6,7,8,10])
(.seq (rg [mV 65 8,
mV 66 5,
bN 67 .eql 65 66,
mV 68 67,
gD 69 68 true (.mv 0),
gD 70 68 true (.mv 10),
gD 71 68 true (.mv 7),
gD 72 68 true (.bin .sub 70 71),
gD 73 68 true (.mv 10),
gD 74 68 true (.slstr 69 (some 72) (some 73)),
gD 75 68 true (.mv 1),
gD 76 68 true (.bin .eql 74 75),
uO 77 (.pick 68 76 cF)] [0,1,5,6,7,8,10,77])
(.cond 77 (.seq (rg [mV 78 10,
mV 79 7,
bN 80 .sub 78 79,
mV 4 80] [4])
.ret)
.skip))))))))
def zdn (C:Hd) (gl:GL) (v0 v1 v5 v6 v7 v8 v10:AV) (h:Heap) (x:Esc) (K:KT):Prop:=
 pK (z0C v0) fun t1=>
 pK (oBin .lss v10 t1) fun t2=>
 z0i t2 (pK (oBin .mul v8 (.p (.int .u32 16777619))) fun t3=>
 pK (z1L v0 v10) fun t4=>
 pK (z18 .u32 t4) fun t5=>
 pK (oBin .add t3 t5) fun t6=>
 pK (oBin .sub v10 v7) fun t7=>
 pK (z1L v0 t7) fun t8=>
 pK (z18 .u32 t8) fun t9=>
 pK (oBin .mul v6 t9) fun t10=>
 pK (oBin .sub t6 t10) fun t11=>
 pK (oBin .add v10 (AI 1)) fun t12=>
 pK (oBin .eql t11 v5) fun t13=>
 gM t13 true v0 h fun t14 h15 y16=>
 gM t13 true t12 h15 fun t17 h18 y19=>
 gM t13 true v7 h18 fun t20 h21 y22=>
 gP t13 true (oBin .sub t17 t20) h21 fun t23 h24 y25=>
 gM t13 true t12 h24 fun t26 h27 y28=>
 gP t13 true (z2j t14 (some t23) (some t26)) h27 fun t29 h30 y31=>
 gM t13 true v1 h30 fun t32 h33 y34=>
 gP t13 true (oBin .eql t29 t32) h33 fun t35 h36 y37=>
 pK (z0K t13 t35 (AB false)) fun t38=>
 z0i t38 (pK (oBin .sub t12 v7) fun t39=>
 K .ret ⟨[(4,t39)],h36,(y37++(y34++(y31++(y28++(y25++(y22++(y19++(y16++x))))))))⟩)
 (K .normal ⟨[(0,v0),(1,v1),(5,v5),(6,v6),(7,v7),(8,t11),(10,t12),(77,t38)],h36,(y37++(y34++(y31++(y28++(y25++(y22++(y19++(y16++x))))))))⟩))
 (K (.exit 2) ⟨[(0,v0),(1,v1),(5,v5),(6,v6),(7,v7),(8,v8),(10,v10),(44,t2)],h,x⟩)
theorem znI {C gl e h x K}:NW C gl z40 ⟨e,h,x⟩ K=zdn C gl (aget e 0) (aget e 1) (aget e 5) (aget e 6) (aget e 7) (aget e 8) (aget e 10) h x K:=by kernel_rfl
theorem zpY {C gl e h x K}:NW C gl (.loop z40) ⟨e,h,x⟩ K=z1a C gl z40 K [(0,aget e 0),(1,aget e 1),(5,aget e 5),(6,aget e 6),(7,aget e 7),(8,aget e 8),(10,aget e 10)] h x:=z0G
def z9g:ACode:=.pr [] (.seq (rg [mV 4 (cI (-1))] [4])
.ret)
def zdo (C:Hd) (gl:GL) (h:Heap) (x:Esc) (K:KT):Prop:=
 K .ret ⟨[(4,(AI (-1)))],h,x⟩
theorem znJ {C gl e h x K}:NW C gl z9g ⟨e,h,x⟩ K=zdo C gl h x K:=by kernel_rfl
def zc6 (q2 q3:ACode):ACode:=.pr [0,1,5,6,7,8] (.seq (.seq (rg [mV 30 8,
mV 31 5,
bN 32 .eql 30 31,
mV 33 32,
gD 34 33 true (.mv 0),
gD 35 33 true (.mv 7),
gD 36 33 true (.slstr 34 none (some 35)),
gD 37 33 true (.mv 1),
gD 38 33 true (.bin .eql 36 37),
uO 39 (.pick 33 38 cF)] [0,1,5,6,7,8,39])
(.cond 39 (.seq (rg [mV 4 (cI 0)] [4])
.ret)
.skip))
(.seq (.seq (rg [mV 40 7,
mV 10 40] [0,1,5,6,7,8,10])
(.block 2 (.loop q2)))
q3))
def z6i:ACode:=zc6 z40 z9g
def z8s (C:Hd) (gl:GL) (q2 q3:ACode) (v0 v1 v5 v6 v7 v8:AV) (h:Heap) (x:Esc) (K:KT):Prop:=
 pK (oBin .eql v8 v5) fun t1=>
 gM t1 true v0 h fun t2 h3 y4=>
 gM t1 true v7 h3 fun t5 h6 y7=>
 gP t1 true (z2j t2 none (some t5)) h6 fun t8 h9 y10=>
 gM t1 true v1 h9 fun t11 h12 y13=>
 gP t1 true (oBin .eql t8 t11) h12 fun t14 h15 y16=>
 pK (z0K t1 t14 (AB false)) fun t17=>
 z0i t17 (K .ret ⟨[(4,(AI 0))],h15,(y16++(y13++(y10++(y7++(y4++x)))))⟩)
 (NW C gl (.loop q2) ⟨[(0,v0),(1,v1),(5,v5),(6,v6),(7,v7),(8,v8),(10,v7)],h15,(y16++(y13++(y10++(y7++(y4++x)))))⟩ (z0t 2 (seqN C gl q3 K)))
theorem zkF {C gl q2 q3 e h x K}:NW C gl (zc6 q2 q3) ⟨e,h,x⟩ K=z8s C gl q2 q3 (aget e 0) (aget e 1) (aget e 5) (aget e 6) (aget e 7) (aget e 8) h x K:=by kernel_rfl
theorem znK {C gl e h x K}:NW C gl z6i ⟨e,h,x⟩ K=z8s C gl z40 z9g (aget e 0) (aget e 1) (aget e 5) (aget e 6) (aget e 7) (aget e 8) h x K:=zkF
def zw8 (q1 q4:ACode):ACode:=(.seq (rg [mV 4 (cI 0)] [0,1])
(.seq (rg [mV 12 1,
cL 13 zeG [12],
mV 11 13,
eX 14 11 0,
eX 15 11 1,
mV 5 14,
mV 6 15] [0,1,5,6])
(.seq (rg [mV 16 1,
uO 17 (.lens 16),
mV 7 17] [0,1,5,6,7])
(.seq (rg [mV 8 (.c (.p (.int .u32 0)))] [0,1,5,6,7,8])
(.seq (.seq (rg [mV 9 (cI 0)] [0,1,5,6,7,8,9])
(.block 0 (.loop q1)))
q4)))))
def zl4:AFun:=⟨2,[.t 4],zw8 z3s z6i,false,false⟩
def znc (C:Hd) (gl:GL) (q1 q4:ACode) (v0 v1:AV) (h:Heap) (x:Esc) (K:KT):Prop:=
 C zeG [v1] h fun t1 h2 y3=>
 pK (oExt t1 0) fun t4=>
 pK (oExt t1 1) fun t5=>
 pK (z0C v1) fun t6=>
 NW C gl (.loop q1) ⟨[(0,v0),(1,v1),(5,t4),(6,t5),(7,t6),(8,(.p (.int .u32 0))),(9,(AI 0))],h2,(y3++x)⟩ (z0t 0 (seqN C gl q4 K))
theorem E_q01a {C gl q1 q4 v0 v1 h x K}:NW C gl (zw8 q1 q4) ⟨enter [v0,v1],h,x⟩ K=znc C gl q1 q4 v0 v1 h x K:=by kernel_rfl
theorem e_q01a {C gl v0 v1 h x K}:NW C gl zl4.body ⟨enter [v0,v1],h,x⟩ K=znc C gl z3s z6i v0 v1 h x K:=E_q01a
def P_q01t:ACode:=(.seq (rg [mV 4 cF] [0,1])
(.seq (rg [mV 5 0,
uO 6 (.lens 5),
mV 7 1,
uO 8 (.lens 7),
bN 9 .geq 6 8,
mV 10 9,
gD 11 10 true (.mv 0),
gD 12 10 true (.mv 1),
gD 13 10 true (.lens 12),
gD 14 10 true (.slstr 11 none (some 13)),
gD 15 10 true (.mv 1),
gD 16 10 true (.bin .eql 14 15),
uO 17 (.pick 10 16 cF),
mV 4 17] [4])
.ret))
def zl7:AFun:=⟨2,[.t 4],P_q01t,false,false⟩
def zha (C:Hd) (gl:GL) (v0 v1:AV) (h:Heap) (x:Esc) (K:KT):Prop:=
 pK (z0C v0) fun t1=>
 pK (z0C v1) fun t2=>
 pK (oBin .geq t1 t2) fun t3=>
 gM t3 true v0 h fun t4 h5 y6=>
 gM t3 true v1 h5 fun t7 h8 y9=>
 gP t3 true (z0C t7) h8 fun t10 h11 y12=>
 gP t3 true (z2j t4 none (some t10)) h11 fun t13 h14 y15=>
 gM t3 true v1 h14 fun t16 h17 y18=>
 gP t3 true (oBin .eql t13 t16) h17 fun t19 h20 y21=>
 pK (z0K t3 t19 (AB false)) fun t22=>
 K .ret ⟨[(4,t22)],h20,(y21++(y18++(y15++(y12++(y9++(y6++x))))))⟩
theorem e_q01t {C gl v0 v1 h x K}:NW C gl zl7.body ⟨enter [v0,v1],h,x⟩ K=zha C gl v0 v1 h x K:=by kernel_rfl
def P_q03x:ACode:=(.seq (rg [mV 4 cF] [0,1])
(.seq (rg [mV 5 0,
mV 6 1,
cL 7 z8J [5,6],
bN 8 .geq 7 (cI 0),
mV 4 8] [4])
.ret))
def zg8:AFun:=⟨2,[.t 4],P_q03x,true,false⟩
def znn (C:Hd) (gl:GL) (v0 v1:AV) (h:Heap) (x:Esc) (K:KT):Prop:=
 C z8J [v0,v1] h fun t1 h2 y3=>
 pK (oBin .geq t1 (AI 0)) fun t4=>
 K .ret ⟨[(4,t4)],h2,(y3++x)⟩
theorem e_q03x {C gl v0 v1 h x K}:NW C gl zg8.body ⟨enter [v0,v1],h,x⟩ K=znn C gl v0 v1 h x K:=by kernel_rfl
def z34:ACode:=.pr [0,1,7,8] (.seq (rg [bN 9 .lss 8 7] [0,1,7,8,9])
(.seq (.cond 9 .skip
(.exit 0))
(.seq (.block 1 (.seq (rg [mV 10 8,
mV 5 10] [0,1,5,7,8])
(.seq (rg [mV 11 1,
mV 12 0,
mV 13 5,
uO 14 (.idxs 12 13),
cL 15 zaH [11,14],
bN 16 .lss 15 (cI 0)] [0,1,7,8,16])
(.cond 16 (.seq (rg [mV 4 cF] [4])
.ret)
.skip))))
(rg [bN 17 .add 8 (cI 1),
mV 8 17] [0,1,7,8]))))
def zdJ (C:Hd) (gl:GL) (v0 v1 v7 v8:AV) (h:Heap) (x:Esc) (K:KT):Prop:=
 pK (oBin .lss v8 v7) fun t1=>
 z0i t1 (pK (z1L v0 v8) fun t2=>
 C zaH [v1,t2] h fun t3 h4 y5=>
 pK (oBin .lss t3 (AI 0)) fun t6=>
 z0i t6 (K .ret ⟨[(4,(AB false))],h4,(y5++x)⟩)
 (pK (oBin .add v8 (AI 1)) fun t7=>
 K .normal ⟨[(0,v0),(1,v1),(7,v7),(8,t7)],h4,(y5++x)⟩))
 (K (.exit 0) ⟨[(0,v0),(1,v1),(7,v7),(8,v8),(9,t1)],h,x⟩)
theorem zo1 {C gl e h x K}:NW C gl z34 ⟨e,h,x⟩ K=zdJ C gl (aget e 0) (aget e 1) (aget e 7) (aget e 8) h x K:=by kernel_rfl
theorem zqn {C gl e h x K}:NW C gl (.loop z34) ⟨e,h,x⟩ K=z1a C gl z34 K [(0,aget e 0),(1,aget e 1),(7,aget e 7),(8,aget e 8)] h x:=z0G
def z6y:ACode:=.pr [] (.seq (rg [mV 4 cT] [4])
.ret)
def zdK (C:Hd) (gl:GL) (h:Heap) (x:Esc) (K:KT):Prop:=
 K .ret ⟨[(4,(AB true))],h,x⟩
theorem zo2 {C gl e h x K}:NW C gl z6y ⟨e,h,x⟩ K=zdK C gl h x K:=by kernel_rfl
def zwN (q1 q2:ACode):ACode:=(.seq (rg [mV 4 cF] [0,1])
(.seq (.seq (rg [mV 6 0,
uO 7 (.lens 6),
mV 8 (cI 0)] [0,1,7,8])
(.block 0 (.loop q1)))
q2))
def zlX:AFun:=⟨2,[.t 4],zwN z34 z6y,false,false⟩
def zhq (C:Hd) (gl:GL) (q1 q2:ACode) (v0 v1:AV) (h:Heap) (x:Esc) (K:KT):Prop:=
 pK (z0C v0) fun t1=>
 NW C gl (.loop q1) ⟨[(0,v0),(1,v1),(7,t1),(8,(AI 0))],h,x⟩ (z0t 0 (seqN C gl q2 K))
theorem E_q03k {C gl q1 q2 v0 v1 h x K}:NW C gl (zwN q1 q2) ⟨enter [v0,v1],h,x⟩ K=zhq C gl q1 q2 v0 v1 h x K:=by kernel_rfl
theorem e_q03k {C gl v0 v1 h x K}:NW C gl zlX.body ⟨enter [v0,v1],h,x⟩ K=zhq C gl z34 z6y v0 v1 h x K:=E_q03k
end Go.Am
end
