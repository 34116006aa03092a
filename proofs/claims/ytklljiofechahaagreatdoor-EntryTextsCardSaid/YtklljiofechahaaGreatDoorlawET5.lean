/- Texts of the proof, laid together: CodesA, CodesB. -/
import Derived.KernelRfl
import Derived.Test.YtklljiofechahaaGreatDoorlawET4
set_option linter.all false
section
/- The functions asv abstract code,and asv formulas over their values: printed by program out of the translation. -/
set_option linter.unusedVariables false
set_option maxRecDepth 100000
namespace Go.Am
def z56:ACode:=.pr [5,6,7,8,9] (.seq (rg [mV 37 5,
cL 38 z9S [37],
mV 36 38,
eX 39 36 0,
eX 40 36 1,
eX 41 36 2,
mV 10 39,
mV 11 40,
mV 12 41] [5,6,7,8,9,10,11,12])
(.seq (rg [mV 43 5,
cL 44 z9E [43],
mV 42 44,
eX 45 42 0,
eX 46 42 1,
eX 47 42 2,
mV 13 45,
mV 14 46,
mV 15 47] [6,7,8,9,10,11,12,13,14,15])
(.seq (rg [mV 48 7,
mV 49 8,
bN 50 .eql 48 49,
mV 51 50,
gD 52 51 true (.mv 6),
gD 53 51 true (.mv 9),
gD 54 51 true (.bin .eql 52 53),
uO 55 (.pick 51 54 cF),
mV 56 55,
gD 57 56 true (.mv 10),
gD 58 56 true (.mv 13),
gD 59 56 true (.call z9O [57,58]),
uO 60 (.pick 56 59 cF),
mV 61 60,
gD 62 61 true (.mv 11),
gD 63 61 true (.mv 14),
gD 64 61 true (.bin .eql 62 63),
uO 65 (.pick 61 64 cF),
mV 66 65,
gD 67 66 true (.mv 12),
gD 68 66 true (.mv 15),
gD 69 66 true (.bin .eql 67 68),
uO 70 (.pick 66 69 cF),
mV 71 70,
gD 72 71 true (.call z8f []),
uO 73 (.pick 71 72 cF),
mV 2 73] [2])
.ret)))
def z36 (C:Hd) (gl:GL) (v5 v6 v7 v8 v9:AV) (h:Heap) (x:Esc) (K:KT):Prop:=
 C z9S [v5] h fun t1 h2 y3=>
 pK (oExt t1 0) fun t4=>
 pK (oExt t1 1) fun t5=>
 pK (oExt t1 2) fun t6=>
 C z9E [v5] h2 fun t7 h8 y9=>
 pK (oExt t7 0) fun t10=>
 pK (oExt t7 1) fun t11=>
 pK (oExt t7 2) fun t12=>
 pK (oBin .eql v7 v8) fun t13=>
 gM t13 true v6 h8 fun t14 h15 y16=>
 gM t13 true v9 h15 fun t17 h18 y19=>
 gP t13 true (oBin .eql t14 t17) h18 fun t20 h21 y22=>
 pK (z0y t13 t20 (AB false)) fun t23=>
 gM t23 true t4 h21 fun t24 h25 y26=>
 gM t23 true t10 h25 fun t27 h28 y29=>
 gV t23 true h28 (C z9O [t24,t27] h28) fun t30 h31 y32=>
 pK (z0y t23 t30 (AB false)) fun t33=>
 gM t33 true t5 h31 fun t34 h35 y36=>
 gM t33 true t11 h35 fun t37 h38 y39=>
 gP t33 true (oBin .eql t34 t37) h38 fun t40 h41 y42=>
 pK (z0y t33 t40 (AB false)) fun t43=>
 gM t43 true t6 h41 fun t44 h45 y46=>
 gM t43 true t12 h45 fun t47 h48 y49=>
 gP t43 true (oBin .eql t44 t47) h48 fun t50 h51 y52=>
 pK (z0y t43 t50 (AB false)) fun t53=>
 gV t53 true h51 (C z8f [] h51) fun t54 h55 y56=>
 pK (z0y t53 t54 (AB false)) fun t57=>
 K .ret ⟨[(2,t57)],h55,(y56++(y52++(y49++(y46++(y42++(y39++(y36++(y32++(y29++(y26++(y22++(y19++(y16++(y9++(y3++x)))))))))))))))⟩
theorem z5i {C gl e h x K}:NW C gl z56 ⟨e,h,x⟩ K=z36 C gl (aget e 5) (aget e 6) (aget e 7) (aget e 8) (aget e 9) h x K:=by kernel_rfl
def zrU (q1:ACode):ACode:=(.seq (rg [mV 2 cF] [0])
(.seq (rg [mV 16 0,
uO 17 (.build [.sl0 none,.p (.int .i64 0)] [(0,1,16)]),
uO 18 (.box 17),
mV 3 18] [3])
(.seq (rg [mV 19 3,
mV 20 3,
cL 21 z2b [20,(cI 0),(cI 8)],
cL 22 z6E [19,21],
mV 23 3,
cL 24 z9C [23],
mV 4 22,
mV 5 24] [4,5])
(.seq (rg [mV 26 4,
cL 27 z9T [26],
mV 25 27,
eX 28 25 0,
eX 29 25 1,
mV 6 28,
mV 7 29] [4,5,6,7])
(.seq (rg [mV 30 4,
cL 31 z3D [30],
mV 8 31,
mV 9 (cS [])] [4,5,6,7,8,9])
(.seq (.seq (rg [mV 32 8,
bN 33 .eql 32 (cI 0)] [4,5,6,7,8,9,33])
(.cond 33 (rg [mV 34 4,
cL 35 z6F [34],
mV 9 35] [5,6,7,8,9])
.skip))
q1))))))
def zjc:AFun:=⟨1,[.t 2],zrU z56,false,false⟩
def zbX (C:Hd) (gl:GL) (q1:ACode) (v0:AV) (h:Heap) (x:Esc) (K:KT):Prop:=
 pK (z2q [.sl0 none,.p (.int .i64 0)] [(0,1,v0)]) fun t1=>
 wK (oBox t1 h) fun t2 h3 y4=>
 C z2b [t2,(AI 0),(AI 8)] h3 fun t5 h6 y7=>
 C z6E [t2,t5] h6 fun t8 h9 y10=>
 C z9C [t2] h9 fun t11 h12 y13=>
 C z9T [t8] h12 fun t14 h15 y16=>
 pK (oExt t14 0) fun t17=>
 pK (oExt t14 1) fun t18=>
 C z3D [t8] h15 fun t19 h20 y21=>
 pK (oBin .eql t19 (AI 0)) fun t22=>
 z0j t22 (C z6F [t8] h20 fun t23 h24 y25=>
 NW C gl q1 ⟨[(5,t11),(6,t17),(7,t18),(8,t19),(9,t23)],h24,(y25++(y21++(y16++(y13++(y10++(y7++(y4++x)))))))⟩ K)
 (NW C gl q1 ⟨[(4,t8),(5,t11),(6,t17),(7,t18),(8,t19),(9,(.p (.str []))),(33,t22)],h20,(y21++(y16++(y13++(y10++(y7++(y4++x))))))⟩ K)
theorem E_q030 {C gl q1 v0 h x K}:NW C gl (zrU q1) ⟨enter [v0],h,x⟩ K=zbX C gl q1 v0 h x K:=by kernel_rfl
theorem e_q030 {C gl v0 h x K}:NW C gl zjc.body ⟨enter [v0],h,x⟩ K=zbX C gl z56 v0 h x K:=E_q030
def P_q03k:ACode:=(.seq (rg [mV 6 (cI 0)] [0,1,2])
(.seq (.seq (rg [mV 7 2,
mV 8 1,
bN 9 .lss 7 8] [0,1,2,9])
(.cond 9 (.seq (rg [mV 10 1,
mV 6 10] [6])
.ret)
.skip))
(.seq (rg [mV 11 1,
mV 12 0,
mV 13 2,
mV 14 1,
bN 15 .sub 13 14,
bN 16 .add 15 (cI 1),
cL 17 z1k [12,16],
bN 18 .add 11 17,
mV 6 18] [6])
.ret)))
def zjl:AFun:=⟨3,[.t 6],P_q03k,false,false⟩
def zkG (C:Hd) (gl:GL) (v0 v1 v2:AV) (h:Heap) (x:Esc) (K:KT):Prop:=
 pK (oBin .lss v2 v1) fun t1=>
 z0j t1 (K .ret ⟨[(6,v1)],h,x⟩)
 (pK (oBin .sub v2 v1) fun t2=>
 pK (oBin .add t2 (AI 1)) fun t3=>
 C z1k [v0,t3] h fun t4 h5 y6=>
 pK (oBin .add v1 t4) fun t7=>
 K .ret ⟨[(6,t7)],h5,(y6++x)⟩)
theorem e_q03k {C gl v0 v1 v2 h x K}:NW C gl zjl.body ⟨enter [v0,v1,v2],h,x⟩ K=zkG C gl v0 v1 v2 h x K:=by kernel_rfl
def z2K:ACode:=.pr [0,1,6] (.seq (rg [bN 7 .lss 6 (cI 8)] [0,1,6,7])
(.seq (.cond 7 .skip
(.exit 0))
(.seq (.block 1 (.seq (rg [mV 8 0,
mV 9 1,
cL 10 z6E [8,9],
mV 5 10] [0,1,5,6])
(.seq (rg [mV 11 5,
cL 12 z3D [11],
bN 13 .eql 12 (cI 0)] [0,1,5,6,13])
(.cond 13 (.seq (rg [mV 14 5,
mV 4 14] [4])
.ret)
.skip))))
(rg [bN 15 .add 6 (cI 1),
mV 6 15] [0,1,6]))))
def zcf (C:Hd) (gl:GL) (v0 v1 v6:AV) (h:Heap) (x:Esc) (K:KT):Prop:=
 pK (oBin .lss v6 (AI 8)) fun t1=>
 z0j t1 (C z6E [v0,v1] h fun t2 h3 y4=>
 C z3D [t2] h3 fun t5 h6 y7=>
 pK (oBin .eql t5 (AI 0)) fun t8=>
 z0j t8 (K .ret ⟨[(4,t2)],h6,(y7++(y4++x))⟩)
 (pK (oBin .add v6 (AI 1)) fun t9=>
 K .normal ⟨[(0,v0),(1,v1),(6,t9)],h6,(y7++(y4++x))⟩))
 (K (.exit 0) ⟨[(0,v0),(1,v1),(6,v6),(7,t1)],h,x⟩)
theorem zlI {C gl e h x K}:NW C gl z2K ⟨e,h,x⟩ K=zcf C gl (aget e 0) (aget e 1) (aget e 6) h x K:=by kernel_rfl
theorem znq {C gl e h x K}:NW C gl (.loop z2K) ⟨e,h,x⟩ K=z0T C gl z2K K [(0,aget e 0),(1,aget e 1),(6,aget e 6)] h x:=z0A
def z5C:ACode:=.pr [] (.seq (rg [mV 4 (.c (.p (.sl (some 8) [])))] [4])
.ret)
def zcg (C:Hd) (gl:GL) (h:Heap) (x:Esc) (K:KT):Prop:=
 K .ret ⟨[(4,(.p (.sl (some 8) [])))],h,x⟩
theorem zlJ {C gl e h x K}:NW C gl z5C ⟨e,h,x⟩ K=zcg C gl h x K:=by kernel_rfl
def zrY (q1 q2:ACode):ACode:=(.seq (rg [mV 4 (.c (.p (.sl (some 8) [])))] [0,1])
(.seq (.seq (rg [mV 6 (cI 0)] [0,1,6])
(.block 0 (.loop q1)))
q2))
def zjm:AFun:=⟨2,[.t 4],zrY z2K z5C,false,false⟩
def zf3 (C:Hd) (gl:GL) (q1 q2:ACode) (v0 v1:AV) (h:Heap) (x:Esc) (K:KT):Prop:=
 NW C gl (.loop q1) ⟨[(0,v0),(1,v1),(6,(AI 0))],h,x⟩ (z0u 0 (seqN C gl q2 K))
theorem E_q03p {C gl q1 q2 v0 v1 h x K}:NW C gl (zrY q1 q2) ⟨enter [v0,v1],h,x⟩ K=zf3 C gl q1 q2 v0 v1 h x K:=by kernel_rfl
theorem e_q03p {C gl v0 v1 h x K}:NW C gl zjm.body ⟨enter [v0,v1],h,x⟩ K=zf3 C gl z2K z5C v0 v1 h x K:=E_q03p
def z3Q:ACode:=.pr [0,5,6,7,9,11,12] (.seq (rg [fA 55 3 none 9,
lD 56 none 55,
bN 57 .eql 56 (cI 2)] [0,5,6,7,9,11,12,57])
(.cond 57 (rg [mV 58 0,
uO 59 (.bsl false none 4 (.str []) [(0,(cS [115,99,97,110])),(1,(cS [115,99,97,110])),(2,(cS [102,108,97,115,104])),(3,(cS [98,117,114,110]))]),
cL 60 z1l [58,59],
fA 61 5 none 9,
wO (.store none 61 60)] [0,5,6,7,9,11,12])
.skip))
def zbZ (C:Hd) (gl:GL) (v0 v5 v6 v7 v9 v11 v12:AV) (h:Heap) (x:Esc) (K:KT):Prop:=
 pK (z0g 3 none v9) fun t1=>
 pK (z0e none t1 h) fun t2=>
 pK (oBin .eql t2 (AI 2)) fun t3=>
 z0j t3 (wK (oBsl false none 4 (.str []) [(0,(.p (.str [115,99,97,110]))),(1,(.p (.str [115,99,97,110]))),(2,(.p (.str [102,108,97,115,104]))),(3,(.p (.str [98,117,114,110])))] h) fun t4 h5 y6=>
 C z1l [v0,t4] h5 fun t7 h8 y9=>
 pK (z0g 5 none v9) fun t10=>
 wK (z0n none t10 t7 h8) fun t11 h12 y13=>
 K .normal ⟨[(0,v0),(5,v5),(6,v6),(7,v7),(9,v9),(11,v11),(12,v12)],h12,(y13++(y9++(y6++x)))⟩)
 (K .normal ⟨[(0,v0),(5,v5),(6,v6),(7,v7),(9,v9),(11,v11),(12,v12),(57,t3)],h,x⟩)
theorem z7R {C gl e h x K}:NW C gl z3Q ⟨e,h,x⟩ K=zbZ C gl (aget e 0) (aget e 5) (aget e 6) (aget e 7) (aget e 9) (aget e 11) (aget e 12) h x K:=by kernel_rfl
def z58:ACode:=.pr [0,5,6,7,9,11,12] (rg [mV 111 5,
lD 112 (some 8) 9,
uO 113 (.bsl false (some 8) 1 (.agg [.str [],.int .i64 0,.int .i64 0,.int .i64 0,.str [],.str [],.str [],.int .i64 0]) [(0,112)]),
uO 114 (.app (some 8) 111 113),
mV 5 114] [0,5,6,7,11,12])
def zca (C:Hd) (gl:GL) (v0 v5 v6 v7 v9 v11 v12:AV) (h:Heap) (x:Esc) (K:KT):Prop:=
 pK (z0e (some 8) v9 h) fun t1=>
 wK (oBsl false (some 8) 1 (.agg [.str [],.int .i64 0,.int .i64 0,.int .i64 0,.str [],.str [],.str [],.int .i64 0]) [(0,t1)] h) fun t2 h3 y4=>
 wK (oApp (some 8) v5 t2 h3) fun t5 h6 y7=>
 K .normal ⟨[(0,v0),(5,t5),(6,v6),(7,v7),(11,v11),(12,v12)],h6,(y7++(y4++x))⟩
theorem zlC {C gl e h x K}:NW C gl z58 ⟨e,h,x⟩ K=zca C gl (aget e 0) (aget e 5) (aget e 6) (aget e 7) (aget e 9) (aget e 11) (aget e 12) h x K:=by kernel_rfl
def zbp (q2:ACode):ACode:=.pr [0,5,6,7,9,11,12] (.seq (.seq (rg [mV 71 0,
cL 72 z3C [71,(cI 100)]] [0,5,6,7,9,11,12,72])
(.cond 72 (.seq (rg [mV 73 0,
cL 74 z1k [73,(cI 3)]] [0,5,6,7,9,11,12,74])
(.block 3 (.seq (rg [bN 83 .eql 74 (cI 0),
mV 82 83] [0,5,6,7,9,11,12,74,82])
(.cond 82 (rg [mV 84 0,
fA 85 0 none 9,
lD 86 none 85,
uO 87 (.bsl false none 2 (.str []) [(0,(cS [])),(1,86)]),
cL 88 z1l [84,87],
mV 89 0,
cL 90 z3u [89,(cI 1),(cI 9)],
mV 91 0,
cL 92 z3u [91,(cI 0),(cI 100)],
fA 93 0 none 9,
wO (.store none 93 88),
fA 94 1 none 9,
wO (.store none 94 90),
fA 95 2 none 9,
wO (.store none 95 92)] [0,5,6,7,9,11,12])
(.seq (rg [bN 97 .eql 74 (cI 1),
mV 96 97] [0,5,6,7,9,11,12,96])
(.cond 96 (dr [dF (mV 98 0) [0],
dT (cL 99 z3u [98,(cI 1),(cI 7)]) [98],
dF (mV 100 0) [0],
dF (fA 101 4 none 9) [9],
dA (lD 102 none 101) [101] false [1] [],
dA (uO 103 (.bsl false none 3 (.str []) [(0,(cS [])),(1,(cS [65])),(2,102)])) [102] false [1] [],
dT (cL 104 z1l [100,103]) [100,103],
dF (mV 105 0) [0],
dA (uO 106 (.bsl false none 2 (.str []) [(0,(cS [])),(1,(cS [115,99,97,110]))])) [] false [1,6] [],
dT (cL 107 z1l [105,106]) [105,106],
dF (fA 108 3 none 9) [9],
dT (wO (.store none 108 99)) [108,99],
dF (fA 109 4 none 9) [9],
dT (wO (.store none 109 104)) [109,104],
dF (fA 110 5 none 9) [9],
dT (wO (.store none 110 107)) [110,107]] [0,5,6,7,9,11,12])
(rg [mV 75 0,
uO 76 (.bsl false none 2 (.str []) [(0,(cS [])),(1,(cS [115,97]))]),
cL 77 z1l [75,76],
mV 78 0,
cL 79 z3u [78,(cI 0),(cI 5)],
fA 80 6 none 9,
wO (.store none 80 77),
fA 81 7 none 9,
wO (.store none 81 79)] [0,5,6,7,9,11,12])))))))
.skip))
q2)
def z3R:ACode:=zbp z58
def z1v (C:Hd) (gl:GL) (q2:ACode) (v0 v5 v6 v7 v9 v11 v12:AV) (h:Heap) (x:Esc) (K:KT):Prop:=
 C z3C [v0,(AI 100)] h fun t1 h2 y3=>
 z0j t1 (C z1k [v0,(AI 3)] h2 fun t4 h5 y6=>
 pK (oBin .eql t4 (AI 0)) fun t7=>
 z0j t7 (pK (z0g 0 none v9) fun t8=>
 pK (z0e none t8 h5) fun t9=>
 wK (oBsl false none 2 (.str []) [(0,(.p (.str []))),(1,t9)] h5) fun t10 h11 y12=>
 C z1l [v0,t10] h11 fun t13 h14 y15=>
 C z3u [v0,(AI 1),(AI 9)] h14 fun t16 h17 y18=>
 C z3u [v0,(AI 0),(AI 100)] h17 fun t19 h20 y21=>
 pK (z0g 0 none v9) fun t22=>
 wK (z0n none t22 t13 h20) fun t23 h24 y25=>
 pK (z0g 1 none v9) fun t26=>
 wK (z0n none t26 t16 h24) fun t27 h28 y29=>
 pK (z0g 2 none v9) fun t30=>
 wK (z0n none t30 t19 h28) fun t31 h32 y33=>
 NW C gl q2 ⟨[(0,v0),(5,v5),(6,v6),(7,v7),(9,v9),(11,v11),(12,v12)],h32,(y33++(y29++(y25++(y21++(y18++(y15++(y12++(y6++(y3++x)))))))))⟩ K)
 (pK (oBin .eql t4 (AI 1)) fun t34=>
 z0j t34 (z1u C z3u [v0,(AI 1),(AI 7)] h5 fun t35 h36 y37=>
 pK (z0g 4 none v9) fun t38=>
 pK (z0e none t38 h36) fun t39=>
 (pK (z0e none t38 h5) fun v=>(fun u (g1:Heap) (y1:Esc)=>u=t39∧g1=h5∧y1=[]) v h5 [])∧(wK (oBsl false none 3 (.str []) [(0,(.p (.str []))),(1,(.p (.str [65]))),(2,t39)] h36) fun t40 h41 y42=>
 (h41=h36∧y42=[])∧((wK (oBsl false none 3 (.str []) [(0,(.p (.str []))),(1,(.p (.str [65]))),(2,t39)] h5) (fun u (g1:Heap) (y1:Esc)=>u=t40∧g1=h5∧y1=[]))∧(z1u C z1l [v0,t40] h41 fun t43 h44 y45=>
 wK (oBsl false none 2 (.str []) [(0,(.p (.str []))),(1,(.p (.str [115,99,97,110])))] h44) fun t46 h47 y48=>
 (h47=h44∧y48=[])∧((wK (oBsl false none 2 (.str []) [(0,(.p (.str []))),(1,(.p (.str [115,99,97,110])))] h5) (fun u (g1:Heap) (y1:Esc)=>u=t46∧g1=h5∧y1=[]))∧((wK (oBsl false none 2 (.str []) [(0,(.p (.str []))),(1,(.p (.str [115,99,97,110])))] h41) (fun u (g1:Heap) (y1:Esc)=>u=t46∧g1=h41∧y1=[]))∧(z1u C z1l [v0,t46] h47 fun t49 h50 y51=>
 pK (z0g 3 none v9) fun t52=>
 wK (z0n none t52 t35 h50) fun t53 h54 y55=>
 pK (z0g 4 none v9) fun t56=>
 wK (z0n none t56 t43 h54) fun t57 h58 y59=>
 pK (z0g 5 none v9) fun t60=>
 wK (z0n none t60 t49 h58) fun t61 h62 y63=>
 NW C gl q2 ⟨[(0,v0),(5,v5),(6,v6),(7,v7),(9,v9),(11,v11),(12,v12)],h62,(y63++(y59++(y55++(y51++(y48++(y45++(y42++(y37++(y6++(y3++x))))))))))⟩ K)))))))
 (wK (oBsl false none 2 (.str []) [(0,(.p (.str []))),(1,(.p (.str [115,97])))] h5) fun t64 h65 y66=>
 C z1l [v0,t64] h65 fun t67 h68 y69=>
 C z3u [v0,(AI 0),(AI 5)] h68 fun t70 h71 y72=>
 pK (z0g 6 none v9) fun t73=>
 wK (z0n none t73 t67 h71) fun t74 h75 y76=>
 pK (z0g 7 none v9) fun t77=>
 wK (z0n none t77 t70 h75) fun t78 h79 y80=>
 NW C gl q2 ⟨[(0,v0),(5,v5),(6,v6),(7,v7),(9,v9),(11,v11),(12,v12)],h79,(y80++(y76++(y72++(y69++(y66++(y6++(y3++x)))))))⟩ K)))
 (NW C gl q2 ⟨[(0,v0),(5,v5),(6,v6),(7,v7),(9,v9),(11,v11),(12,v12),(72,t1)],h2,(y3++x)⟩ K)
theorem zi4 {C gl q2 e h x K}:NW C gl (zbp q2) ⟨e,h,x⟩ K=z1v C gl q2 (aget e 0) (aget e 5) (aget e 6) (aget e 7) (aget e 9) (aget e 11) (aget e 12) h x K:=by kernel_rfl
theorem z27 {C gl e h x K}:NW C gl z3R ⟨e,h,x⟩ K=z1v C gl z58 (aget e 0) (aget e 5) (aget e 6) (aget e 7) (aget e 9) (aget e 11) (aget e 12) h x K:=zi4
def zbq (q1 q3:ACode):ACode:=.pr [0,5,6,7,8,9,11,12] (.seq (rg [mV 31 7,
fA 32 0 none 9,
lD 33 none 32,
uO 34 (.look (none,[2]) false (AI 0) 31 33),
bN 35 .add 34 (cI 1),
wO (.mupd (none,[2]) 31 33 35)] [0,5,6,7,8,9,11,12])
(.seq (rg [mV 36 7,
fA 37 0 none 9,
lD 38 none 37,
uO 39 (.look (none,[2]) false (AI 0) 36 38),
fA 40 1 none 9,
wO (.store none 40 39)] [0,5,6,7,8,9,11,12])
(.seq (.seq (rg [fA 41 3 none 9,
lD 42 none 41] [0,5,6,7,8,9,11,12,42])
(.block 2 (.seq (rg [bN 63 .eql 42 (cI 7),
mV 62 63] [0,5,6,7,8,9,11,12,62])
(.cond 62 (rg [mV 64 0,
uO 65 (.bsl false none 2 (.str []) [(0,(cS [115,97])),(1,(cS [115,98]))]),
cL 66 z1l [64,65],
mV 67 0,
cL 68 z2b [67,(cI 1),(cI 8)],
fA 69 6 none 9,
wO (.store none 69 66),
fA 70 7 none 9,
wO (.store none 70 68)] [0,5,6,7,9,11,12])
(.seq (rg [uO 43 (.bsl false none 3 (.str []) [(0,(cS [98,49])),(1,(cS [98,50])),(2,(cS [98,51]))]),
mV 44 8,
bN 45 .rem 44 (cI 3),
iA 46 none 43 45,
lD 47 none 46,
fA 48 4 none 9,
wO (.store none 48 47)] [0,5,6,7,8,9,11,12])
(.seq (.seq (rg [mV 49 8,
bN 50 .geq 49 (cI 3)] [0,5,6,7,9,11,12,50])
(.cond 50 (rg [mV 51 0,
uO 52 (.bsl false none 5 (.str []) [(0,(cS [98,49])),(1,(cS [98,49])),(2,(cS [98,50])),(3,(cS [98,51])),(4,(cS [98,52]))]),
cL 53 z1l [51,52],
fA 54 4 none 9,
wO (.store none 54 53)] [0,5,6,7,9,11,12])
.skip))
q1))))))
q3)))
def z59:ACode:=zbq z3Q z3R
def z1W (C:Hd) (gl:GL) (q1 q3:ACode) (v0 v5 v6 v7 v8 v9 v11 v12:AV) (h:Heap) (x:Esc) (K:KT):Prop:=
 pK (z0g 0 none v9) fun t1=>
 pK (z0e none t1 h) fun t2=>
 pK (z82 (none,[2]) false (AI 0) v7 t2 h) fun t3=>
 pK (oBin .add t3 (AI 1)) fun t4=>
 wK (zaM (none,[2]) v7 t2 t4 h) fun t5 h6 y7=>
 pK (z0g 0 none v9) fun t8=>
 pK (z0e none t8 h6) fun t9=>
 pK (z82 (none,[2]) false (AI 0) v7 t9 h6) fun t10=>
 pK (z0g 1 none v9) fun t11=>
 wK (z0n none t11 t10 h6) fun t12 h13 y14=>
 pK (z0g 3 none v9) fun t15=>
 pK (z0e none t15 h13) fun t16=>
 pK (oBin .eql t16 (AI 7)) fun t17=>
 z0j t17 (wK (oBsl false none 2 (.str []) [(0,(.p (.str [115,97]))),(1,(.p (.str [115,98])))] h13) fun t18 h19 y20=>
 C z1l [v0,t18] h19 fun t21 h22 y23=>
 C z2b [v0,(AI 1),(AI 8)] h22 fun t24 h25 y26=>
 pK (z0g 6 none v9) fun t27=>
 wK (z0n none t27 t21 h25) fun t28 h29 y30=>
 pK (z0g 7 none v9) fun t31=>
 wK (z0n none t31 t24 h29) fun t32 h33 y34=>
 NW C gl q3 ⟨[(0,v0),(5,v5),(6,v6),(7,v7),(9,v9),(11,v11),(12,v12)],h33,(y34++(y30++(y26++(y23++(y20++(y14++(y7++x)))))))⟩ K)
 (wK (oBsl false none 3 (.str []) [(0,(.p (.str [98,49]))),(1,(.p (.str [98,50]))),(2,(.p (.str [98,51])))] h13) fun t35 h36 y37=>
 pK (oBin .rem v8 (AI 3)) fun t38=>
 pK (z0p none t35 t38 h36) fun t39=>
 pK (z0e none t39 h36) fun t40=>
 pK (z0g 4 none v9) fun t41=>
 wK (z0n none t41 t40 h36) fun t42 h43 y44=>
 pK (oBin .geq v8 (AI 3)) fun t45=>
 z0j t45 (wK (oBsl false none 5 (.str []) [(0,(.p (.str [98,49]))),(1,(.p (.str [98,49]))),(2,(.p (.str [98,50]))),(3,(.p (.str [98,51]))),(4,(.p (.str [98,52])))] h43) fun t46 h47 y48=>
 C z1l [v0,t46] h47 fun t49 h50 y51=>
 pK (z0g 4 none v9) fun t52=>
 wK (z0n none t52 t49 h50) fun t53 h54 y55=>
 NW C gl q1 ⟨[(0,v0),(5,v5),(6,v6),(7,v7),(9,v9),(11,v11),(12,v12)],h54,(y55++(y51++(y48++(y44++(y37++(y14++(y7++x)))))))⟩ (z0u 2 (seqN C gl q3 K)))
 (NW C gl q1 ⟨[(0,v0),(5,v5),(6,v6),(7,v7),(9,v9),(11,v11),(12,v12),(50,t45)],h43,(y44++(y37++(y14++(y7++x))))⟩ (z0u 2 (seqN C gl q3 K))))
theorem zi5 {C gl q1 q3 e h x K}:NW C gl (zbq q1 q3) ⟨e,h,x⟩ K=z1W C gl q1 q3 (aget e 0) (aget e 5) (aget e 6) (aget e 7) (aget e 8) (aget e 9) (aget e 11) (aget e 12) h x K:=by kernel_rfl
theorem z7S {C gl e h x K}:NW C gl z59 ⟨e,h,x⟩ K=z1W C gl z3Q z3R (aget e 0) (aget e 5) (aget e 6) (aget e 7) (aget e 8) (aget e 9) (aget e 11) (aget e 12) h x K:=zi5
def z5A:ACode:=.pr [0,5,6,7,11,12] (rg [bN 115 .add 12 (cI 1),
mV 12 115] [0,5,6,7,11,12])
def zcb (C:Hd) (gl:GL) (v0 v5 v6 v7 v11 v12:AV) (h:Heap) (x:Esc) (K:KT):Prop:=
 pK (oBin .add v12 (AI 1)) fun t1=>
 K .normal ⟨[(0,v0),(5,v5),(6,v6),(7,v7),(11,v11),(12,t1)],h,x⟩
theorem zlD {C gl e h x K}:NW C gl z5A ⟨e,h,x⟩ K=zcb C gl (aget e 0) (aget e 5) (aget e 6) (aget e 7) (aget e 11) (aget e 12) h x K:=by kernel_rfl
def zbr (q4 q5:ACode):ACode:=.pr [0,5,6,7,11,12] (.seq (rg [bN 13 .lss 12 11] [0,5,6,7,11,12,13])
(.seq (.cond 13 .skip
(.exit 0))
(.seq (.block 1 (.seq (rg [mV 14 12,
mV 8 14] [0,5,6,7,8,11,12])
(.seq (rg [mV 15 6,
mV 16 0,
uO 17 (.bsl false none 5 (.int .i64 0) [(0,(cI 0)),(1,(cI 1)),(2,(cI 1)),(3,(cI 3)),(4,(cI 10))]),
cL 18 z2a [16,17],
bN 19 .add 15 18,
mV 6 19] [0,5,6,7,8,11,12])
(.seq (rg [mV 20 0,
uO 21 (.bsl false none 3 (.str []) [(0,(cS [115,97])),(1,(cS [115,97])),(2,(cS [115,98]))]),
cL 22 z1l [20,21],
mV 23 6,
mV 24 0,
uO 25 (.bsl false none 12 (.int .i64 0) [(0,(cI 2)),(1,(cI 2)),(2,(cI 2)),(3,(cI 3)),(4,(cI 3)),(5,(cI 4)),(6,(cI 4)),(7,(cI 5)),(8,(cI 5)),(9,(cI 6)),(10,(cI 7)),(11,(cI 1))]),
cL 26 z2a [24,25],
uO 27 (.build [.p (.str []),.p (.int .i64 0),.p (.int .i64 0),.p (.int .i64 0),.p (.str []),.p (.str []),.p (.str []),.p (.int .i64 0)] [(0,1,22),(2,1,23),(3,1,26)]),
uO 9 (.alloc [.p (.str []),.p (.int .i64 0),.p (.int .i64 0),.p (.int .i64 0),.p (.str []),.p (.str []),.p (.str []),.p (.int .i64 0)]),
wO (.store (some 8) 9 27)] [0,5,6,7,8,9,11,12])
(.seq (.seq (rg [mV 28 8,
bN 29 .lss 28 (cI 3)] [0,5,6,7,8,9,11,12,29])
(.cond 29 (rg [fA 30 3 none 9,
wO (.store none 30 (cI 1))] [0,5,6,7,8,9,11,12])
.skip))
q4)))))
q5)))
def z2I:ACode:=zbr z59 z5A
def z7C (C:Hd) (gl:GL) (q4 q5:ACode) (v0 v5 v6 v7 v11 v12:AV) (h:Heap) (x:Esc) (K:KT):Prop:=
 pK (oBin .lss v12 v11) fun t1=>
 z0j t1 (wK (oBsl false none 5 (.int .i64 0) [(0,(AI 0)),(1,(AI 1)),(2,(AI 1)),(3,(AI 3)),(4,(AI 10))] h) fun t2 h3 y4=>
 C z2a [v0,t2] h3 fun t5 h6 y7=>
 pK (oBin .add v6 t5) fun t8=>
 wK (oBsl false none 3 (.str []) [(0,(.p (.str [115,97]))),(1,(.p (.str [115,97]))),(2,(.p (.str [115,98])))] h6) fun t9 h10 y11=>
 C z1l [v0,t9] h10 fun t12 h13 y14=>
 wK (oBsl false none 12 (.int .i64 0) [(0,(AI 2)),(1,(AI 2)),(2,(AI 2)),(3,(AI 3)),(4,(AI 3)),(5,(AI 4)),(6,(AI 4)),(7,(AI 5)),(8,(AI 5)),(9,(AI 6)),(10,(AI 7)),(11,(AI 1))] h13) fun t15 h16 y17=>
 C z2a [v0,t15] h16 fun t18 h19 y20=>
 pK (z2q [.p (.str []),.p (.int .i64 0),.p (.int .i64 0),.p (.int .i64 0),.p (.str []),.p (.str []),.p (.str []),.p (.int .i64 0)] [(0,1,t12),(2,1,t8),(3,1,t18)]) fun t21=>
 alK [.p (.str []),.p (.int .i64 0),.p (.int .i64 0),.p (.int .i64 0),.p (.str []),.p (.str []),.p (.str []),.p (.int .i64 0)] h19 fun t22 h23 y24=>
 wK (z0n (some 8) t22 t21 h23) fun t25 h26 y27=>
 pK (oBin .lss v12 (AI 3)) fun t28=>
 z0j t28 (pK (z0g 3 none t22) fun t29=>
 wK (z0n none t29 (AI 1) h26) fun t30 h31 y32=>
 NW C gl q4 ⟨[(0,v0),(5,v5),(6,t8),(7,v7),(8,v12),(9,t22),(11,v11),(12,v12)],h31,(y32++(y27++(y24++(y20++(y17++(y14++(y11++(y7++(y4++x)))))))))⟩ (z0u 1 (seqN C gl q5 K)))
 (NW C gl q4 ⟨[(0,v0),(5,v5),(6,t8),(7,v7),(8,v12),(9,t22),(11,v11),(12,v12),(29,t28)],h26,(y27++(y24++(y20++(y17++(y14++(y11++(y7++(y4++x))))))))⟩ (z0u 1 (seqN C gl q5 K))))
 (K (.exit 0) ⟨[(0,v0),(5,v5),(6,v6),(7,v7),(11,v11),(12,v12),(13,t1)],h,x⟩)
theorem zi6 {C gl q4 q5 e h x K}:NW C gl (zbr q4 q5) ⟨e,h,x⟩ K=z7C C gl q4 q5 (aget e 0) (aget e 5) (aget e 6) (aget e 7) (aget e 11) (aget e 12) h x K:=by kernel_rfl
theorem zlE {C gl e h x K}:NW C gl z2I ⟨e,h,x⟩ K=z7C C gl z59 z5A (aget e 0) (aget e 5) (aget e 6) (aget e 7) (aget e 11) (aget e 12) h x K:=zi6
theorem zno {C gl e h x K}:NW C gl (.loop (.scope z2I)) ⟨e,h,x⟩ K=z0T C gl (.scope z2I) K [(0,aget e 0),(5,aget e 5),(6,aget e 6),(7,aget e 7),(11,aget e 11),(12,aget e 12)] h x:=z1E
def z3S:ACode:=.pr [5] (.seq (rg [mV 116 5,
cL 117 z9Q [116,(.f z43)]] [5])
(.seq (rg [mV 118 5,
mV 4 118] [4])
.ret))
def zcc (C:Hd) (gl:GL) (v5:AV) (h:Heap) (x:Esc) (K:KT):Prop:=
 C z9Q [v5,(.fn z43 [])] h fun t1 h2 y3=>
 K .ret ⟨[(4,v5)],h2,(y3++x)⟩
theorem zlF {C gl e h x K}:NW C gl z3S ⟨e,h,x⟩ K=zcc C gl (aget e 5) h x K:=by kernel_rfl
def zrW (q6 q7:ACode):ACode:=(.seq (rg [mV 4 (.c (.p (.sl (some 8) [])))] [0,1])
(.seq (rg [uO 5 (.new0 (some 8))] [0,1,5])
(.seq (rg [mV 6 (cI 0)] [0,1,5,6])
(.seq (rg [uO 10 (.mkmap),
mV 7 10] [0,1,5,6,7])
(.seq (.seq (rg [mV 11 1,
mV 12 (cI 0)] [0,5,6,7,11,12])
(.block 0 (.loop (.scope q6))))
q7)))))
def zjf:AFun:=⟨2,[.t 4],zrW z2I z3S,false,false⟩
def zfz (C:Hd) (gl:GL) (q6 q7:ACode) (v0 v1:AV) (h:Heap) (x:Esc) (K:KT):Prop:=
 nwK (some 8) h fun t1 h2 y3=>
 mmK h2 fun t4 h5 y6=>
 NW C gl (.loop (.scope q6)) ⟨[(0,v0),(5,t1),(6,(AI 0)),(7,t4),(11,v1),(12,(AI 0))],h5,(y6++(y3++x))⟩ (z0u 0 (seqN C gl q7 K))
theorem E_q03c {C gl q6 q7 v0 v1 h x K}:NW C gl (zrW q6 q7) ⟨enter [v0,v1],h,x⟩ K=zfz C gl q6 q7 v0 v1 h x K:=by kernel_rfl
theorem e_q03c {C gl v0 v1 h x K}:NW C gl zjf.body ⟨enter [v0,v1],h,x⟩ K=zfz C gl z2I z3S v0 v1 h x K:=E_q03c
def z2J:ACode:=.pr [0,3,11,12] (.seq (rg [bN 13 .lss 12 11] [0,3,11,12,13])
(.seq (.cond 13 .skip
(.exit 0))
(.seq (.block 1 (rg [mV 14 0,
mV 15 3,
cL 16 z9B [14,15,(cS [32,10,48,45,57,115,98])],
mV 3 16] [0,3,11,12]))
(rg [bN 17 .add 12 (cI 1),
mV 12 17] [0,3,11,12]))))
def zcd (C:Hd) (gl:GL) (v0 v3 v11 v12:AV) (h:Heap) (x:Esc) (K:KT):Prop:=
 pK (oBin .lss v12 v11) fun t1=>
 z0j t1 (C z9B [v0,v3,(.p (.str [32,10,48,45,57,115,98]))] h fun t2 h3 y4=>
 pK (oBin .add v12 (AI 1)) fun t5=>
 K .normal ⟨[(0,v0),(3,t2),(11,v11),(12,t5)],h3,(y4++x)⟩)
 (K (.exit 0) ⟨[(0,v0),(3,v3),(11,v11),(12,v12),(13,t1)],h,x⟩)
theorem zlG {C gl e h x K}:NW C gl z2J ⟨e,h,x⟩ K=zcd C gl (aget e 0) (aget e 3) (aget e 11) (aget e 12) h x K:=by kernel_rfl
theorem znp {C gl e h x K}:NW C gl (.loop z2J) ⟨e,h,x⟩ K=z0T C gl z2J K [(0,aget e 0),(3,aget e 3),(11,aget e 11),(12,aget e 12)] h x:=z0A
def z5B:ACode:=.pr [3] (.seq (rg [mV 18 3,
mV 2 18] [2])
.ret)
def zce (C:Hd) (gl:GL) (v3:AV) (h:Heap) (x:Esc) (K:KT):Prop:=
 K .ret ⟨[(2,v3)],h,x⟩
theorem zlH {C gl e h x K}:NW C gl z5B ⟨e,h,x⟩ K=zce C gl (aget e 3) h x K:=by kernel_rfl
def zrX (q1 q2:ACode):ACode:=(.seq (rg [mV 2 (cS [])] [0])
(.seq (rg [mV 4 0,
mV 5 0,
cL 6 z2b [5,(cI 0),(cI 5)],
cL 7 z9D [4,6],
cL 8 z6F [7],
mV 3 8] [0,3])
(.seq (.seq (rg [mV 9 0,
uO 10 (.bsl false none 4 (.int .i64 0) [(0,(cI 0)),(1,(cI 0)),(2,(cI 1)),(3,(cI 2))]),
cL 11 z2a [9,10],
mV 12 (cI 0)] [0,3,11,12])
(.block 0 (.loop q1)))
q2)))
def zjg:AFun:=⟨1,[.t 2],zrX z2J z5B,false,false⟩
def zf0 (C:Hd) (gl:GL) (q1 q2:ACode) (v0:AV) (h:Heap) (x:Esc) (K:KT):Prop:=
 C z2b [v0,(AI 0),(AI 5)] h fun t1 h2 y3=>
 C z9D [v0,t1] h2 fun t4 h5 y6=>
 C z6F [t4] h5 fun t7 h8 y9=>
 wK (oBsl false none 4 (.int .i64 0) [(0,(AI 0)),(1,(AI 0)),(2,(AI 1)),(3,(AI 2))] h8) fun t10 h11 y12=>
 C z2a [v0,t10] h11 fun t13 h14 y15=>
 NW C gl (.loop q1) ⟨[(0,v0),(3,t7),(11,t13),(12,(AI 0))],h14,(y15++(y12++(y9++(y6++(y3++x)))))⟩ (z0u 0 (seqN C gl q2 K))
theorem E_q03d {C gl q1 q2 v0 h x K}:NW C gl (zrX q1 q2) ⟨enter [v0],h,x⟩ K=zf0 C gl q1 q2 v0 h x K:=by kernel_rfl
theorem e_q03d {C gl v0 h x K}:NW C gl zjg.body ⟨enter [v0],h,x⟩ K=zf0 C gl z2J z5B v0 h x K:=E_q03d
def z2h:ACode:=.pr [5,13,14,15] (.seq (rg [bN 16 .lss 15 14] [5,13,14,15,16])
(.seq (.cond 16 .skip
(.exit 0))
(.seq (.block 1 (.seq (rg [iA 17 (some 8) 13 15,
lD 18 (some 8) 17,
uO 7 (.alloc [.p (.str []),.p (.int .i64 0),.p (.int .i64 0),.p (.int .i64 0),.p (.str []),.p (.str []),.p (.str []),.p (.int .i64 0)]),
wO (.store (some 8) 7 18)] [5,7,13,14,15])
(rg [lD 19 (some 8) 7,
cL 20 z9U [19],
bN 21 .add 20 (cS [10]),
cL 22 z8o [5,21]] [5,13,14,15])))
(rg [bN 23 .add 15 (cI 1),
mV 15 23] [5,13,14,15]))))
def zcB (C:Hd) (gl:GL) (v5 v13 v14 v15:AV) (h:Heap) (x:Esc) (K:KT):Prop:=
 pK (oBin .lss v15 v14) fun t1=>
 z0j t1 (pK (z0p (some 8) v13 v15 h) fun t2=>
 pK (z0e (some 8) t2 h) fun t3=>
 alK [.p (.str []),.p (.int .i64 0),.p (.int .i64 0),.p (.int .i64 0),.p (.str []),.p (.str []),.p (.str []),.p (.int .i64 0)] h fun t4 h5 y6=>
 wK (z0n (some 8) t4 t3 h5) fun t7 h8 y9=>
 pK (z0e (some 8) t4 h8) fun t10=>
 C z9U [t10] h8 fun t11 h12 y13=>
 pK (oBin .add t11 (.p (.str [10]))) fun t14=>
 C z8o [v5,t14] h12 fun t15 h16 y17=>
 pK (oBin .add v15 (AI 1)) fun t18=>
 K .normal ⟨[(5,v5),(13,v13),(14,v14),(15,t18)],h16,(y17++(y13++(y9++(y6++x))))⟩)
 (K (.exit 0) ⟨[(5,v5),(13,v13),(14,v14),(15,v15),(16,t1)],h,x⟩)
theorem zmn {C gl e h x K}:NW C gl z2h ⟨e,h,x⟩ K=zcB C gl (aget e 5) (aget e 13) (aget e 14) (aget e 15) h x K:=by kernel_rfl
theorem zn7 {C gl e h x K}:NW C gl (.loop (.scope z2h)) ⟨e,h,x⟩ K=z0T C gl (.scope z2h) K [(5,aget e 5),(13,aget e 13),(14,aget e 14),(15,aget e 15)] h x:=z1E
def z5P:ACode:=.pr [5] (.seq (.seq (rg [cL 24 z8n [5],
bN 25 .gtr 24 (cI 200000)] [5,25])
(.cond 25 (.seq (rg [mV 2 (cS []),
mV 3 (cI 2)] [2,3])
.ret)
.skip))
(.seq (rg [cL 26 z9W [5],
mV 2 26,
mV 3 (cI 0)] [2,3])
.ret))
def z7M (C:Hd) (gl:GL) (v5:AV) (h:Heap) (x:Esc) (K:KT):Prop:=
 C z8n [v5] h fun t1 h2 y3=>
 pK (oBin .gtr t1 (AI 200000)) fun t4=>
 z0j t4 (K .ret ⟨[(2,(.p (.str []))),(3,(AI 2))],h2,(y3++x)⟩)
 (C z9W [v5] h2 fun t5 h6 y7=>
 K .ret ⟨[(2,t5),(3,(AI 0))],h6,(y7++(y3++x))⟩)
theorem z7Y {C gl e h x K}:NW C gl z5P ⟨e,h,x⟩ K=z7M C gl (aget e 5) h x K:=by kernel_rfl
def zsm (q1 q2:ACode):ACode:=(.seq (rg [mV 2 (cS []),
mV 3 (cI 0)] [0])
(.seq (.seq (rg [mV 8 0,
cL 9 z3E [8],
mV 4 9] [0,4])
(.seq (rg [mV 10 4,
bN 11 .neq 10 (cI 0)] [0,4,11])
(.cond 11 (.seq (rg [mV 12 4,
mV 2 (cS []),
mV 3 12] [2,3])
.ret)
.skip)))
(.seq (rg [uO 5 (.uns 0 107 [(cI 5)])] [0,5])
(.seq (.seq (rg [mV 13 0,
lN 14 13,
mV 15 (cI 0)] [5,13,14,15])
(.block 0 (.loop (.scope q1))))
q2))))
def zjF:AFun:=⟨1,[.t 2,.t 3],zsm z2h z5P,false,false⟩
def zcA (C:Hd) (gl:GL) (q1 q2:ACode) (v0:AV) (h:Heap) (x:Esc) (K:KT):Prop:=
 C z3E [v0] h fun t1 h2 y3=>
 pK (oBin .neq t1 (AI 0)) fun t4=>
 z0j t4 (K .ret ⟨[(2,(.p (.str []))),(3,t1)],h2,(y3++x)⟩)
 (wK (z1x 0 107 [(AI 5)] h2) fun t5 h6 y7=>
 pK (oLen v0) fun t8=>
 NW C gl (.loop (.scope q1)) ⟨[(5,t5),(13,v0),(14,t8),(15,(AI 0))],h6,(y7++(y3++x))⟩ (z0u 0 (seqN C gl q2 K)))
theorem E_q07y {C gl q1 q2 v0 h x K}:NW C gl (zsm q1 q2) ⟨enter [v0],h,x⟩ K=zcA C gl q1 q2 v0 h x K:=by kernel_rfl
theorem e_q07y {C gl v0 h x K}:NW C gl zjF.body ⟨enter [v0],h,x⟩ K=zcA C gl z2h z5P v0 h x K:=E_q07y
def z2L:ACode:=.pr [0,11,12,13] (.seq (rg [bN 14 .lss 13 12] [0,11,12,13,14])
(.seq (.cond 14 .skip
(.exit 0))
(.seq (.block 1 (.seq (rg [mV 15 13,
iA 16 (some 8) 11 13,
lD 17 (some 8) 16,
uO 4 (.alloc [.p (.str []),.p (.int .i64 0),.p (.int .i64 0),.p (.int .i64 0),.p (.str []),.p (.str []),.p (.str []),.p (.int .i64 0)]),
mV 3 15,
wO (.store (some 8) 4 17)] [0,3,4,11,12,13])
(.seq (.seq (rg [lD 18 (some 8) 4,
cL 19 z9F [18],
mV 5 19] [0,3,4,5,11,12,13])
(.seq (rg [mV 20 5,
bN 21 .neq 20 (cI 0)] [0,3,4,5,11,12,13,21])
(.cond 21 (.seq (rg [mV 22 5,
mV 2 22] [2])
.ret)
.skip)))
(.seq (dr [dF (mV 23 3) [3],
dF (bN 24 .gtr 23 (cI 0)) [23],
dF (mV 25 24) [24],
dF (gD 26 25 true (.mv 0)) [0,25],
dF (gD 27 25 true (.mv 3)) [3,25],
dF (gD 28 25 true (.bin .sub 27 (cI 1))) [27,25],
dF (gD 29 25 true (.iaddr (some 8) 26 28)) [26,28,25],
dF (gD 30 25 true (.load (some 8) 29)) [29,25],
dF (gD 31 25 true (.load (some 8) 4)) [4,25],
dT (gD 32 25 true (.call z43 [30,31])) [30,31,25],
dF (gD 33 25 true (.bin .geq 32 (cI 0))) [32,25],
dF (uO 34 (.pick 25 33 cF)) [25,33]] [0,11,12,13,34])
(.cond 34 (.seq (rg [mV 2 (cI 7)] [2])
.ret)
.skip)))))
(rg [bN 35 .add 13 (cI 1),
mV 13 35] [0,11,12,13]))))
def zci (C:Hd) (gl:GL) (v0 v11 v12 v13:AV) (h:Heap) (x:Esc) (K:KT):Prop:=
 pK (oBin .lss v13 v12) fun t1=>
 z0j t1 (pK (z0p (some 8) v11 v13 h) fun t2=>
 pK (z0e (some 8) t2 h) fun t3=>
 alK [.p (.str []),.p (.int .i64 0),.p (.int .i64 0),.p (.int .i64 0),.p (.str []),.p (.str []),.p (.str []),.p (.int .i64 0)] h fun t4 h5 y6=>
 wK (z0n (some 8) t4 t3 h5) fun t7 h8 y9=>
 pK (z0e (some 8) t4 h8) fun t10=>
 C z9F [t10] h8 fun t11 h12 y13=>
 pK (oBin .neq t11 (AI 0)) fun t14=>
 z0j t14 (K .ret ⟨[(2,t11)],h12,(y13++(y9++(y6++x)))⟩)
 (pK (oBin .gtr v13 (AI 0)) fun t15=>
 gM t15 true v0 h12 fun t16 h17 y18=>
 gM t15 true v13 h17 fun t19 h20 y21=>
 gP t15 true (oBin .sub t19 (AI 1)) h20 fun t22 h23 y24=>
 gP t15 true (z0p (some 8) t16 t22 h23) h23 fun t25 h26 y27=>
 gP t15 true (z0e (some 8) t25 h26) h26 fun t28 h29 y30=>
 gP t15 true (z0e (some 8) t4 h29) h29 fun t31 h32 y33=>
 gV t15 true h32 (z1u C z43 [t28,t31] h32) fun t34 h35 y36=>
 gP t15 true (oBin .geq t34 (AI 0)) h35 fun t37 h38 y39=>
 pK (z0y t15 t37 (AB false)) fun t40=>
 z0j t40 (K .ret ⟨[(2,(AI 7))],h38,(y39++(y36++(y33++(y30++(y27++(y24++(y21++(y18++(y13++(y9++(y6++x)))))))))))⟩)
 (pK (oBin .add v13 (AI 1)) fun t41=>
 K .normal ⟨[(0,v0),(11,v11),(12,v12),(13,t41)],h38,(y39++(y36++(y33++(y30++(y27++(y24++(y21++(y18++(y13++(y9++(y6++x)))))))))))⟩)))
 (K (.exit 0) ⟨[(0,v0),(11,v11),(12,v12),(13,v13),(14,t1)],h,x⟩)
theorem zlK {C gl e h x K}:NW C gl z2L ⟨e,h,x⟩ K=zci C gl (aget e 0) (aget e 11) (aget e 12) (aget e 13) h x K:=by kernel_rfl
theorem znr {C gl e h x K}:NW C gl (.loop (.scope z2L)) ⟨e,h,x⟩ K=z0T C gl (.scope z2L) K [(0,aget e 0),(11,aget e 11),(12,aget e 12),(13,aget e 13)] h x:=z1E
def z3T:ACode:=.pr [0,36,37,38] (.seq (rg [bN 39 .lss 38 37] [0,36,37,38,39])
(.seq (.cond 39 .skip
(.exit 2))
(.seq (.block 3 (.seq (rg [mV 40 38,
iA 41 (some 8) 36 38,
lD 42 (some 8) 41,
uO 7 (.alloc [.p (.str []),.p (.int .i64 0),.p (.int .i64 0),.p (.int .i64 0),.p (.str []),.p (.str []),.p (.str []),.p (.int .i64 0)]),
mV 6 40,
wO (.store (some 8) 7 42)] [0,6,7,36,37,38])
(.seq (rg [mV 43 0,
mV 44 6,
uO 45 (.slice (some 8) 43 none (some 44) none),
uO 46 (.mkfn z8g [7]),
cL 47 z9N [45,46]] [0,36,37,38,47])
(.cond 47 (.seq (rg [mV 2 (cI 6)] [2])
.ret)
.skip))))
(rg [bN 48 .add 38 (cI 1),
mV 38 48] [0,36,37,38]))))
def zcj (C:Hd) (gl:GL) (v0 v36 v37 v38:AV) (h:Heap) (x:Esc) (K:KT):Prop:=
 pK (oBin .lss v38 v37) fun t1=>
 z0j t1 (pK (z0p (some 8) v36 v38 h) fun t2=>
 pK (z0e (some 8) t2 h) fun t3=>
 alK [.p (.str []),.p (.int .i64 0),.p (.int .i64 0),.p (.int .i64 0),.p (.str []),.p (.str []),.p (.str []),.p (.int .i64 0)] h fun t4 h5 y6=>
 wK (z0n (some 8) t4 t3 h5) fun t7 h8 y9=>
 pK (z6O (some 8) v0 none (some v38) none h8) fun t10=>
 C z9N [t10,(.fn z8g [t4])] h8 fun t11 h12 y13=>
 z0j t11 (K .ret ⟨[(2,(AI 6))],h12,(y13++(y9++(y6++x)))⟩)
 (pK (oBin .add v38 (AI 1)) fun t14=>
 K .normal ⟨[(0,v0),(36,v36),(37,v37),(38,t14)],h12,(y13++(y9++(y6++x)))⟩))
 (K (.exit 2) ⟨[(0,v0),(36,v36),(37,v37),(38,v38),(39,t1)],h,x⟩)
theorem zlL {C gl e h x K}:NW C gl z3T ⟨e,h,x⟩ K=zcj C gl (aget e 0) (aget e 36) (aget e 37) (aget e 38) h x K:=by kernel_rfl
theorem zns {C gl e h x K}:NW C gl (.loop (.scope z3T)) ⟨e,h,x⟩ K=z0T C gl (.scope z3T) K [(0,aget e 0),(36,aget e 36),(37,aget e 37),(38,aget e 38)] h x:=z1E
def z8A:ACode:=.pr [] (.seq (rg [mV 2 (cI 0)] [2])
.ret)
def zck (C:Hd) (gl:GL) (h:Heap) (x:Esc) (K:KT):Prop:=
 K .ret ⟨[(2,(AI 0))],h,x⟩
theorem zlM {C gl e h x K}:NW C gl z8A ⟨e,h,x⟩ K=zck C gl h x K:=by kernel_rfl
def zbs (q2 q3:ACode):ACode:=.pr [0] (.seq (.seq (rg [mV 36 0,
lN 37 36,
mV 38 (cI 0)] [0,36,37,38])
(.block 2 (.loop (.scope q2))))
q3)
def z5D:ACode:=zbs z3T z8A
def z5d (C:Hd) (gl:GL) (q2 q3:ACode) (v0:AV) (h:Heap) (x:Esc) (K:KT):Prop:=
 pK (oLen v0) fun t1=>
 NW C gl (.loop (.scope q2)) ⟨[(0,v0),(36,v0),(37,t1),(38,(AI 0))],h,x⟩ (z0u 2 (seqN C gl q3 K))
theorem zi7 {C gl q2 q3 e h x K}:NW C gl (zbs q2 q3) ⟨e,h,x⟩ K=z5d C gl q2 q3 (aget e 0) h x K:=by kernel_rfl
theorem z7T {C gl e h x K}:NW C gl z5D ⟨e,h,x⟩ K=z5d C gl z3T z8A (aget e 0) h x K:=zi7
def zrZ (q1 q4:ACode):ACode:=(.seq (rg [mV 2 (cI 0)] [0])
(.seq (.seq (rg [mV 8 0,
lN 9 8,
bN 10 .gtr 9 (cI 2000)] [0,10])
(.cond 10 (.seq (rg [mV 2 (cI 2)] [2])
.ret)
.skip))
(.seq (.seq (rg [mV 11 0,
lN 12 11,
mV 13 (cI 0)] [0,11,12,13])
(.block 0 (.loop (.scope q1))))
q4)))
def zeY:AFun:=⟨1,[.t 2],zrZ z2L z5D,false,false⟩
def zch (C:Hd) (gl:GL) (q1 q4:ACode) (v0:AV) (h:Heap) (x:Esc) (K:KT):Prop:=
 pK (oLen v0) fun t1=>
 pK (oBin .gtr t1 (AI 2000)) fun t2=>
 z0j t2 (K .ret ⟨[(2,(AI 2))],h,x⟩)
 (pK (oLen v0) fun t3=>
 NW C gl (.loop (.scope q1)) ⟨[(0,v0),(11,v0),(12,t3),(13,(AI 0))],h,x⟩ (z0u 0 (seqN C gl q4 K)))
theorem E_q03v {C gl q1 q4 v0 h x K}:NW C gl (zrZ q1 q4) ⟨enter [v0],h,x⟩ K=zch C gl q1 q4 v0 h x K:=by kernel_rfl
theorem e_q03v {C gl v0 h x K}:NW C gl zeY.body ⟨enter [v0],h,x⟩ K=zch C gl z2L z5D v0 h x K:=E_q03v
def z8B:ACode:=.pr [3,6,7,8] (rg [mV 59 3,
bN 60 .add 59 (cS [10]),
mV 3 60] [3,6,7,8])
def zcm (C:Hd) (gl:GL) (v3 v6 v7 v8:AV) (h:Heap) (x:Esc) (K:KT):Prop:=
 pK (oBin .add v3 (.p (.str [10]))) fun t1=>
 K .normal ⟨[(3,t1),(6,v6),(7,v7),(8,v8)],h,x⟩
theorem zlO {C gl e h x K}:NW C gl z8B ⟨e,h,x⟩ K=zcm C gl (aget e 3) (aget e 6) (aget e 7) (aget e 8) h x K:=by kernel_rfl
def z8C:ACode:=.pr [3,6,7,8] (rg [bN 61 .add 8 (cI 1),
mV 8 61] [3,6,7,8])
def zcn (C:Hd) (gl:GL) (v3 v6 v7 v8:AV) (h:Heap) (x:Esc) (K:KT):Prop:=
 pK (oBin .add v8 (AI 1)) fun t1=>
 K .normal ⟨[(3,v3),(6,v6),(7,v7),(8,t1)],h,x⟩
theorem zlP {C gl e h x K}:NW C gl z8C ⟨e,h,x⟩ K=zcn C gl (aget e 3) (aget e 6) (aget e 7) (aget e 8) h x K:=by kernel_rfl
def zbt (q1 q2:ACode):ACode:=.pr [3,6,7,8] (.seq (rg [bN 9 .lss 8 7] [3,6,7,8,9])
(.seq (.cond 9 .skip
(.exit 0))
(.seq (.block 1 (.seq (rg [iA 10 (some 8) 6 8,
lD 11 (some 8) 10,
uO 5 (.alloc [.p (.str []),.p (.int .i64 0),.p (.int .i64 0),.p (.int .i64 0),.p (.str []),.p (.str []),.p (.str []),.p (.int .i64 0)]),
wO (.store (some 8) 5 11)] [3,5,6,7,8])
(.seq (dr [dF (mV 12 3) [3],
dF (fA 13 0 none 5) [5],
dF (lD 14 none 13) [13],
dF (bN 15 .add 14 (cS [32])) [14],
dF (fA 16 1 none 5) [5],
dF (lD 17 none 16) [16],
dF (fA 18 2 none 5) [5],
dF (lD 19 none 18) [18],
dF (uO 20 (.bsl false none 2 (.int .i64 0) [(0,17),(1,19)])) [17,19],
dA (cL 21 z9I [20]) [20] true [] [2],
dF (bN 22 .add 15 21) [15,21],
dF (bN 23 .add 22 (cS [32])) [22],
dA (cL 24 z5o []) [] true [] [2],
dF (fA 25 3 none 5) [5],
dA (lD 26 none 25) [25] false [9,12] [],
dF (iA 27 none 24 26) [24,26],
dF (lD 28 none 27) [27],
dF (bN 29 .add 23 28) [23,28],
dF (bN 30 .add 29 (cS [32])) [29],
dF (bN 31 .add 12 30) [12,30],
dF (mV 3 31) [31]] [3,5,6,7,8])
(.seq (.seq (rg [fA 32 3 none 5,
lD 33 none 32] [3,5,6,7,8,33])
(.block 2 (.seq (rg [bN 39 .eql 33 (cI 7),
mV 38 39] [3,5,6,7,8,33,38])
(.cond 38 (dr [dF (mV 40 3) [3],
dF (fA 41 6 none 5) [5],
dF (lD 42 none 41) [41],
dF (bN 43 .add 42 (cS [32])) [42],
dF (fA 44 7 none 5) [5],
dF (lD 45 none 44) [44],
dA (cL 46 z2d [45]) [45] true [] [2],
dF (bN 47 .add 43 46) [43,46],
dF (bN 48 .add 40 47) [40,47],
dF (mV 3 48) [48]] [3,6,7,8])
(.seq (rg [bN 50 .eql 33 (cI 2),
mV 49 50] [3,5,6,7,8,49])
(.cond 49 (rg [mV 51 3,
fA 52 4 none 5,
lD 53 none 52,
bN 54 .add 53 (cS [32]),
fA 55 5 none 5,
lD 56 none 55,
bN 57 .add 54 56,
bN 58 .add 51 57,
mV 3 58] [3,6,7,8])
(rg [mV 34 3,
fA 35 4 none 5,
lD 36 none 35,
bN 37 .add 34 36,
mV 3 37] [3,6,7,8])))))))
q1))))
q2)))
def z2M:ACode:=zbt z8B z8C
def z7D (C:Hd) (gl:GL) (q1 q2:ACode) (v3 v6 v7 v8:AV) (h:Heap) (x:Esc) (K:KT):Prop:=
 pK (oBin .lss v8 v7) fun t1=>
 z0j t1 (pK (z0p (some 8) v6 v8 h) fun t2=>
 pK (z0e (some 8) t2 h) fun t3=>
 alK [.p (.str []),.p (.int .i64 0),.p (.int .i64 0),.p (.int .i64 0),.p (.str []),.p (.str []),.p (.str []),.p (.int .i64 0)] h fun t4 h5 y6=>
 wK (z0n (some 8) t4 t3 h5) fun t7 h8 y9=>
 pK (z0g 0 none t4) fun t10=>
 pK (z0e none t10 h8) fun t11=>
 pK (oBin .add t11 (.p (.str [32]))) fun t12=>
 pK (z0g 1 none t4) fun t13=>
 pK (z0e none t13 h8) fun t14=>
 pK (z0g 2 none t4) fun t15=>
 pK (z0e none t15 h8) fun t16=>
 wK (oBsl false none 2 (.int .i64 0) [(0,t14),(1,t16)] h8) fun t17 h18 y19=>
 (h18=h8∧y19=[])∧(z1u C z9I [t17] h18 fun t20 h21 y22=>
 (pK (z0e none t10 h21) fun v=>(fun u (g1:Heap) (y1:Esc)=>u=t11∧g1=h21∧y1=[]) v h21 [])∧(pK (oBin .add t12 t20) fun t23=>
 pK (oBin .add t23 (.p (.str [32]))) fun t24=>
 z1u C z5o [] h21 fun t25 h26 y27=>
 (pK (z0e none t10 h26) fun v=>(fun u (g1:Heap) (y1:Esc)=>u=t11∧g1=h26∧y1=[]) v h26 [])∧(pK (z0g 3 none t4) fun t28=>
 pK (z0e none t28 h26) fun t29=>
 (pK (z0e none t28 h18) fun v=>(fun u (g1:Heap) (y1:Esc)=>u=t29∧g1=h18∧y1=[]) v h18 [])∧((pK (z0e none t28 h21) fun v=>(fun u (g1:Heap) (y1:Esc)=>u=t29∧g1=h21∧y1=[]) v h21 [])∧(pK (z0p none t25 t29 h26) fun t30=>
 pK (z0e none t30 h26) fun t31=>
 pK (oBin .add t24 t31) fun t32=>
 pK (oBin .add t32 (.p (.str [32]))) fun t33=>
 pK (oBin .add v3 t33) fun t34=>
 pK (z0g 3 none t4) fun t35=>
 pK (z0e none t35 h26) fun t36=>
 pK (oBin .eql t36 (AI 7)) fun t37=>
 z0j t37 (pK (z0g 6 none t4) fun t38=>
 pK (z0e none t38 h26) fun t39=>
 pK (oBin .add t39 (.p (.str [32]))) fun t40=>
 pK (z0g 7 none t4) fun t41=>
 pK (z0e none t41 h26) fun t42=>
 z1u C z2d [t42] h26 fun t43 h44 y45=>
 (pK (z0e none t38 h44) fun v=>(fun u (g1:Heap) (y1:Esc)=>u=t39∧g1=h44∧y1=[]) v h44 [])∧(pK (oBin .add t40 t43) fun t46=>
 pK (oBin .add t34 t46) fun t47=>
 NW C gl q1 ⟨[(3,t47),(6,v6),(7,v7),(8,v8)],h44,(y45++(y27++(y22++(y19++(y9++(y6++x))))))⟩ (z0u 1 (seqN C gl q2 K))))
 (pK (oBin .eql t36 (AI 2)) fun t48=>
 z0j t48 (pK (z0g 4 none t4) fun t49=>
 pK (z0e none t49 h26) fun t50=>
 pK (oBin .add t50 (.p (.str [32]))) fun t51=>
 pK (z0g 5 none t4) fun t52=>
 pK (z0e none t52 h26) fun t53=>
 pK (oBin .add t51 t53) fun t54=>
 pK (oBin .add t34 t54) fun t55=>
 NW C gl q1 ⟨[(3,t55),(6,v6),(7,v7),(8,v8)],h26,(y27++(y22++(y19++(y9++(y6++x)))))⟩ (z0u 1 (seqN C gl q2 K)))
 (pK (z0g 4 none t4) fun t56=>
 pK (z0e none t56 h26) fun t57=>
 pK (oBin .add t34 t57) fun t58=>
 NW C gl q1 ⟨[(3,t58),(6,v6),(7,v7),(8,v8)],h26,(y27++(y22++(y19++(y9++(y6++x)))))⟩ (z0u 1 (seqN C gl q2 K))))))))))
 (K (.exit 0) ⟨[(3,v3),(6,v6),(7,v7),(8,v8),(9,t1)],h,x⟩)
theorem zi8 {C gl q1 q2 e h x K}:NW C gl (zbt q1 q2) ⟨e,h,x⟩ K=z7D C gl q1 q2 (aget e 3) (aget e 6) (aget e 7) (aget e 8) h x K:=by kernel_rfl
theorem zlQ {C gl e h x K}:NW C gl z2M ⟨e,h,x⟩ K=z7D C gl z8B z8C (aget e 3) (aget e 6) (aget e 7) (aget e 8) h x K:=zi8
theorem znt {C gl e h x K}:NW C gl (.loop (.scope z2M)) ⟨e,h,x⟩ K=z0T C gl (.scope z2M) K [(3,aget e 3),(6,aget e 6),(7,aget e 7),(8,aget e 8)] h x:=z1E
def z5F:ACode:=.pr [3] (.seq (rg [mV 62 3,
mV 2 62] [2])
.ret)
def z7E (C:Hd) (gl:GL) (v3:AV) (h:Heap) (x:Esc) (K:KT):Prop:=
 K .ret ⟨[(2,v3)],h,x⟩
theorem z7U {C gl e h x K}:NW C gl z5F ⟨e,h,x⟩ K=z7E C gl (aget e 3) h x K:=by kernel_rfl
def zsb (q3 q4:ACode):ACode:=(.seq (rg [mV 2 (cS [])] [0])
(.seq (rg [mV 3 (cS [])] [0,3])
(.seq (.seq (rg [mV 6 0,
lN 7 6,
mV 8 (cI 0)] [3,6,7,8])
(.block 0 (.loop (.scope q3))))
q4)))
def zjs:AFun:=⟨1,[.t 2],zsb z2M z5F,false,false⟩
def zf4 (C:Hd) (gl:GL) (q3 q4:ACode) (v0:AV) (h:Heap) (x:Esc) (K:KT):Prop:=
 pK (oLen v0) fun t1=>
 NW C gl (.loop (.scope q3)) ⟨[(3,(.p (.str []))),(6,v0),(7,t1),(8,(AI 0))],h,x⟩ (z0u 0 (seqN C gl q4 K))
theorem E_q040 {C gl q3 q4 v0 h x K}:NW C gl (zsb q3 q4) ⟨enter [v0],h,x⟩ K=zf4 C gl q3 q4 v0 h x K:=by kernel_rfl
theorem e_q040 {C gl v0 h x K}:NW C gl zjs.body ⟨enter [v0],h,x⟩ K=zf4 C gl z2M z5F v0 h x K:=E_q040
def P_q07u:ACode:=(.seq (rg [mV 2 (.c (.p (.sl (some 8) []))),
mV 3 (cI 0),
mV 4 (cI 0)] [0])
(.seq (.seq (rg [mV 9 0,
uO 10 (.lens 9),
bN 11 .gtr 10 (cI 200000)] [0,11])
(.cond 11 (.seq (rg [mV 2 (.c (.p (.sl (some 8) []))),
mV 3 (cI 0),
mV 4 (cI 2)] [2,3,4])
.ret)
.skip))
(.seq (rg [uO 5 (.uns 8 0 [(.c (.sl0 (some 8)))])] [0,5])
(.seq (rg [mV 13 0,
uO 14 (.mkfn z8i [5]),
cL 15 z94 [13,14],
mV 12 15,
eX 16 12 0,
eX 17 12 1,
mV 6 16,
mV 7 17] [5,6,7])
(.seq (.seq (rg [mV 18 7,
uO 19 (.un .not 18)] [5,6,19])
(.cond 19 (.seq (rg [mV 20 6,
mV 2 (.c (.p (.sl (some 8) []))),
mV 3 20,
mV 4 (cI 9)] [2,3,4])
.ret)
.skip))
(.seq (.seq (rg [lD 21 none 5,
cL 22 z3E [21],
mV 8 22] [5,8])
(.seq (rg [mV 23 8,
bN 24 .neq 23 (cI 0)] [5,8,24])
(.cond 24 (.seq (rg [mV 25 8,
mV 2 (.c (.p (.sl (some 8) []))),
mV 3 (cI 0),
mV 4 25] [2,3,4])
.ret)
.skip)))
(.seq (rg [lD 26 none 5,
mV 2 26,
mV 3 (cI 0),
mV 4 (cI 0)] [2,3,4])
.ret)))))))
def zjD:AFun:=⟨1,[.t 2,.t 3,.t 4],P_q07u,false,false⟩
def zc9 (C:Hd) (gl:GL) (v0:AV) (h:Heap) (x:Esc) (K:KT):Prop:=
 pK (z0X v0) fun t1=>
 pK (oBin .gtr t1 (AI 200000)) fun t2=>
 z0j t2 (K .ret ⟨[(2,(.p (.sl (some 8) []))),(3,(AI 0)),(4,(AI 2))],h,x⟩)
 (wK (z1x 8 0 [.sl0 (some 8)] h) fun t3 h4 y5=>
 C z94 [v0,(.fn z8i [t3])] h4 fun t6 h7 y8=>
 pK (oExt t6 0) fun t9=>
 pK (oExt t6 1) fun t10=>
 pK (oUn .not t10) fun t11=>
 z0j t11 (K .ret ⟨[(2,(.p (.sl (some 8) []))),(3,t9),(4,(AI 9))],h7,(y8++(y5++x))⟩)
 (pK (z0e none t3 h7) fun t12=>
 C z3E [t12] h7 fun t13 h14 y15=>
 pK (oBin .neq t13 (AI 0)) fun t16=>
 z0j t16 (K .ret ⟨[(2,(.p (.sl (some 8) []))),(3,(AI 0)),(4,t13)],h14,(y15++(y8++(y5++x)))⟩)
 (pK (z0e none t3 h14) fun t17=>
 K .ret ⟨[(2,t17),(3,(AI 0)),(4,(AI 0))],h14,(y15++(y8++(y5++x)))⟩)))
theorem e_q07u {C gl v0 h x K}:NW C gl zjD.body ⟨enter [v0],h,x⟩ K=zc9 C gl v0 h x K:=by kernel_rfl
def P_q03x:ACode:=(.seq (rg [mV 2 (.c (.p (.sl (some 8) []))),
mV 3 (cI 0),
mV 4 (cI 0)] [0])
(.seq (.seq (rg [mV 9 0,
uO 10 (.lens 9),
bN 11 .gtr 10 (cI 200000)] [0,11])
(.cond 11 (.seq (rg [mV 2 (.c (.p (.sl (some 8) []))),
mV 3 (cI 0),
mV 4 (cI 2)] [2,3,4])
.ret)
.skip))
(.seq (rg [uO 5 (.uns 8 0 [(.c (.sl0 (some 8)))])] [0,5])
(.seq (rg [mV 13 0,
uO 14 (.mkfn z8h [5]),
cL 15 z9G [13,14],
mV 12 15,
eX 16 12 0,
eX 17 12 1,
mV 6 16,
mV 7 17] [5,6,7])
(.seq (.seq (rg [mV 18 7,
uO 19 (.un .not 18)] [5,6,19])
(.cond 19 (.seq (rg [mV 20 6,
mV 2 (.c (.p (.sl (some 8) []))),
mV 3 20,
mV 4 (cI 9)] [2,3,4])
.ret)
.skip))
(.seq (.seq (rg [lD 21 none 5,
cL 22 z3D [21],
mV 8 22] [5,8])
(.seq (rg [mV 23 8,
bN 24 .neq 23 (cI 0)] [5,8,24])
(.cond 24 (.seq (rg [mV 25 8,
mV 2 (.c (.p (.sl (some 8) []))),
mV 3 (cI 0),
mV 4 25] [2,3,4])
.ret)
.skip)))
(.seq (rg [lD 26 none 5,
mV 2 26,
mV 3 (cI 0),
mV 4 (cI 0)] [2,3,4])
.ret)))))))
def zjp:AFun:=⟨1,[.t 2,.t 3,.t 4],P_q03x,false,false⟩
def zcl (C:Hd) (gl:GL) (v0:AV) (h:Heap) (x:Esc) (K:KT):Prop:=
 pK (z0X v0) fun t1=>
 pK (oBin .gtr t1 (AI 200000)) fun t2=>
 z0j t2 (K .ret ⟨[(2,(.p (.sl (some 8) []))),(3,(AI 0)),(4,(AI 2))],h,x⟩)
 (wK (z1x 8 0 [.sl0 (some 8)] h) fun t3 h4 y5=>
 C z9G [v0,(.fn z8h [t3])] h4 fun t6 h7 y8=>
 pK (oExt t6 0) fun t9=>
 pK (oExt t6 1) fun t10=>
 pK (oUn .not t10) fun t11=>
 z0j t11 (K .ret ⟨[(2,(.p (.sl (some 8) []))),(3,t9),(4,(AI 9))],h7,(y8++(y5++x))⟩)
 (pK (z0e none t3 h7) fun t12=>
 C z3D [t12] h7 fun t13 h14 y15=>
 pK (oBin .neq t13 (AI 0)) fun t16=>
 z0j t16 (K .ret ⟨[(2,(.p (.sl (some 8) []))),(3,(AI 0)),(4,t13)],h14,(y15++(y8++(y5++x)))⟩)
 (pK (z0e none t3 h14) fun t17=>
 K .ret ⟨[(2,t17),(3,(AI 0)),(4,(AI 0))],h14,(y15++(y8++(y5++x)))⟩)))
theorem e_q03x {C gl v0 h x K}:NW C gl zjp.body ⟨enter [v0],h,x⟩ K=zcl C gl v0 h x K:=by kernel_rfl
def z2R:ACode:=.pr [0,1,12,13] (.seq (rg [bN 14 .lss 13 12] [0,1,12,13,14])
(.seq (.cond 14 .skip
(.exit 0))
(.seq (.block 1 (.seq (rg [mV 15 13,
mV 5 15] [0,1,5,12,13])
(.seq (dr [dF (mV 16 0) [0],
dF (mV 17 5) [5],
dF (iA 18 (some 8) 16 17) [16,17],
dF (lD 19 (some 8) 18) [18],
dF (mV 20 1) [1],
dF (mV 21 5) [5],
dF (iA 22 (some 8) 20 21) [20,21],
dF (lD 23 (some 8) 22) [22],
dF (uO 24 (.eqa [2,0,0,0,2,2,2,0] true 19 23)) [19,23]] [0,1,12,13,24])
(.cond 24 (.seq (rg [mV 4 cF] [4])
.ret)
.skip))))
(rg [bN 25 .add 13 (cI 1),
mV 13 25] [0,1,12,13]))))
def zcv (C:Hd) (gl:GL) (v0 v1 v12 v13:AV) (h:Heap) (x:Esc) (K:KT):Prop:=
 pK (oBin .lss v13 v12) fun t1=>
 z0j t1 (pK (z0p (some 8) v0 v13 h) fun t2=>
 pK (z0e (some 8) t2 h) fun t3=>
 pK (z0p (some 8) v1 v13 h) fun t4=>
 pK (z0e (some 8) t4 h) fun t5=>
 pK (oEqa [2,0,0,0,2,2,2,0] true t3 t5) fun t6=>
 z0j t6 (K .ret ⟨[(4,(AB false))],h,x⟩)
 (pK (oBin .add v13 (AI 1)) fun t7=>
 K .normal ⟨[(0,v0),(1,v1),(12,v12),(13,t7)],h,x⟩))
 (K (.exit 0) ⟨[(0,v0),(1,v1),(12,v12),(13,v13),(14,t1)],h,x⟩)
theorem zlW {C gl e h x K}:NW C gl z2R ⟨e,h,x⟩ K=zcv C gl (aget e 0) (aget e 1) (aget e 12) (aget e 13) h x K:=by kernel_rfl
theorem zny {C gl e h x K}:NW C gl (.loop z2R) ⟨e,h,x⟩ K=z0T C gl z2R K [(0,aget e 0),(1,aget e 1),(12,aget e 12),(13,aget e 13)] h x:=z0A
def z5K:ACode:=.pr [] (.seq (rg [mV 4 cT] [4])
.ret)
def zcw (C:Hd) (gl:GL) (h:Heap) (x:Esc) (K:KT):Prop:=
 K .ret ⟨[(4,(AB true))],h,x⟩
theorem zlX {C gl e h x K}:NW C gl z5K ⟨e,h,x⟩ K=zcw C gl h x K:=by kernel_rfl
def zsg (q1 q2:ACode):ACode:=(.seq (rg [mV 4 cF] [0,1])
(.seq (.seq (rg [mV 6 0,
lN 7 6,
mV 8 1,
lN 9 8,
bN 10 .neq 7 9] [0,1,10])
(.cond 10 (.seq (rg [mV 4 cF] [4])
.ret)
.skip))
(.seq (.seq (rg [mV 11 0,
lN 12 11,
mV 13 (cI 0)] [0,1,12,13])
(.block 0 (.loop q1)))
q2)))
def zj8:AFun:=⟨2,[.t 4],zsg z2R z5K,false,false⟩
def zcu (C:Hd) (gl:GL) (q1 q2:ACode) (v0 v1:AV) (h:Heap) (x:Esc) (K:KT):Prop:=
 pK (oLen v0) fun t1=>
 pK (oLen v1) fun t2=>
 pK (oBin .neq t1 t2) fun t3=>
 z0j t3 (K .ret ⟨[(4,(AB false))],h,x⟩)
 (pK (oLen v0) fun t4=>
 NW C gl (.loop q1) ⟨[(0,v0),(1,v1),(12,t4),(13,(AI 0))],h,x⟩ (z0u 0 (seqN C gl q2 K)))
theorem E_q05n {C gl q1 q2 v0 v1 h x K}:NW C gl (zsg q1 q2) ⟨enter [v0,v1],h,x⟩ K=zcu C gl q1 q2 v0 v1 h x K:=by kernel_rfl
theorem e_q05n {C gl v0 v1 h x K}:NW C gl zj8.body ⟨enter [v0,v1],h,x⟩ K=zcu C gl z2R z5K v0 v1 h x K:=E_q05n
def P_q03s:ACode:=(.seq (rg [mV 4 (cS [])] [0,1])
(.seq (rg [mV 5 1,
mV 6 0,
mV 7 1,
lN 8 7,
cL 9 z1k [6,8],
iA 10 none 5 9,
lD 11 none 10,
mV 4 11] [4])
.ret))
def zjn:AFun:=⟨2,[.t 4],P_q03s,false,false⟩
def zkH (C:Hd) (gl:GL) (v0 v1:AV) (h:Heap) (x:Esc) (K:KT):Prop:=
 pK (oLen v1) fun t1=>
 C z1k [v0,t1] h fun t2 h3 y4=>
 pK (z0p none v1 t2 h3) fun t5=>
 pK (z0e none t5 h3) fun t6=>
 K .ret ⟨[(4,t6)],h3,(y4++x)⟩
theorem e_q03s {C gl v0 v1 h x K}:NW C gl zjn.body ⟨enter [v0,v1],h,x⟩ K=zkH C gl v0 v1 h x K:=by kernel_rfl
def P_q03j:ACode:=(.seq (rg [mV 4 (cI 0)] [0,1])
(.seq (rg [mV 5 1,
mV 6 0,
mV 7 1,
lN 8 7,
cL 9 z1k [6,8],
iA 10 none 5 9,
lD 11 none 10,
mV 4 11] [4])
.ret))
def zjk:AFun:=⟨2,[.t 4],P_q03j,false,false⟩
def zkF (C:Hd) (gl:GL) (v0 v1:AV) (h:Heap) (x:Esc) (K:KT):Prop:=
 pK (oLen v1) fun t1=>
 C z1k [v0,t1] h fun t2 h3 y4=>
 pK (z0p none v1 t2 h3) fun t5=>
 pK (z0e none t5 h3) fun t6=>
 K .ret ⟨[(4,t6)],h3,(y4++x)⟩
theorem e_q03j {C gl v0 v1 h x K}:NW C gl zjk.body ⟨enter [v0,v1],h,x⟩ K=zkF C gl v0 v1 h x K:=by kernel_rfl
def P_q03f:ACode:=(.seq (rg [mV 4 cF] [0,1])
(.seq (rg [mV 5 0,
mV 6 1,
cL 7 z1k [5,6],
bN 8 .eql 7 (cI 0),
mV 4 8] [4])
.ret))
def zjh:AFun:=⟨2,[.t 4],P_q03f,false,false⟩
def zkE (C:Hd) (gl:GL) (v0 v1:AV) (h:Heap) (x:Esc) (K:KT):Prop:=
 C z1k [v0,v1] h fun t1 h2 y3=>
 pK (oBin .eql t1 (AI 0)) fun t4=>
 K .ret ⟨[(4,t4)],h2,(y3++x)⟩
theorem e_q03f {C gl v0 v1 h x K}:NW C gl zjh.body ⟨enter [v0,v1],h,x⟩ K=zkE C gl v0 v1 h x K:=by kernel_rfl
def P_q03i:ACode:=(.seq (rg [mV 6 (cI 0)] [0,1,2])
(.seq (.seq (rg [mV 7 0,
cL 8 z3C [7,(cI 12)]] [0,1,2,8])
(.cond 8 (.seq (rg [mV 9 0,
mV 10 1,
bN 11 .sub 10 (cI 1),
mV 12 2,
bN 13 .add 12 (cI 1),
mV 14 1,
mV 15 2,
uO 16 (.bsl false none 6 (.int .i64 0) [(0,11),(1,13),(2,14),(3,15),(4,(cI (-1099511627776))),(5,(cI 1099511627776))]),
cL 17 z2a [9,16],
mV 6 17] [6])
.ret)
.skip))
(.seq (rg [mV 18 0,
mV 19 1,
mV 20 2,
cL 21 z2b [18,19,20],
mV 6 21] [6])
.ret)))
def zjj:AFun:=⟨3,[.t 6],P_q03i,false,false⟩
def zf2 (C:Hd) (gl:GL) (v0 v1 v2:AV) (h:Heap) (x:Esc) (K:KT):Prop:=
 C z3C [v0,(AI 12)] h fun t1 h2 y3=>
 z0j t1 (pK (oBin .sub v1 (AI 1)) fun t4=>
 pK (oBin .add v2 (AI 1)) fun t5=>
 wK (oBsl false none 6 (.int .i64 0) [(0,t4),(1,t5),(2,v1),(3,v2),(4,(AI (-1099511627776))),(5,(AI 1099511627776))] h2) fun t6 h7 y8=>
 C z2a [v0,t6] h7 fun t9 h10 y11=>
 K .ret ⟨[(6,t9)],h10,(y11++(y8++(y3++x)))⟩)
 (C z2b [v0,v1,v2] h2 fun t12 h13 y14=>
 K .ret ⟨[(6,t12)],h13,(y14++(y3++x))⟩)
theorem e_q03i {C gl v0 v1 v2 h x K}:NW C gl zjj.body ⟨enter [v0,v1,v2],h,x⟩ K=zf2 C gl v0 v1 v2 h x K:=by kernel_rfl
def P_q03h:ACode:=(.seq (rg [mV 4 (cI 0)] [0,1])
(.seq (rg [mV 7 0,
uO 8 (.nilchk 7),
fA 9 1 none 8,
lD 10 none 9,
bN 11 .add 10 (cI 1),
uO 12 (.nilchk 7),
fA 13 1 none 12,
wO (.store none 13 11)] [0,1])
(.seq (.seq (rg [mV 14 0,
uO 15 (.nilchk 14),
fA 16 0 none 15,
lD 17 none 16,
lN 18 17,
bN 19 .eql 18 (cI 0)] [0,1,19])
(.cond 19 (.seq (rg [mV 20 0,
uO 21 (.nilchk 20),
fA 22 1 none 21,
lD 23 none 22,
bN 24 .mul 23 (cI 7919),
mV 25 1,
cL 26 z42 [24,25],
mV 4 26] [4])
.ret)
.skip))
(.seq (dr [dF (mV 27 0) [0],
dF (uO 28 (.nilchk 27)) [27],
dF (fA 29 1 none 28) [28],
dF (lD 30 none 29) [29],
dF (bN 31 .sub 30 (cI 1)) [30],
dF (mV 32 0) [0],
dF (uO 33 (.nilchk 32)) [32],
dF (fA 34 0 none 33) [33],
dF (lD 35 none 34) [34],
dF (lN 36 35) [35],
dF (bN 37 .rem 31 36) [31,36],
dF (mV 5 37) [37]] [0,1,5])
(.seq (dr [dF (mV 38 0) [0],
dF (uO 39 (.nilchk 38)) [38],
dF (fA 40 1 none 39) [39],
dF (lD 41 none 40) [40],
dF (bN 42 .sub 41 (cI 1)) [41],
dF (mV 43 0) [0],
dF (uO 44 (.nilchk 43)) [43],
dF (fA 45 0 none 44) [44],
dF (lD 46 none 45) [45],
dF (lN 47 46) [46],
dF (bN 48 .quo 42 47) [42,47],
dF (mV 6 48) [48]] [0,1,5,6])
(.seq (rg [mV 49 0,
uO 50 (.nilchk 49),
fA 51 0 none 50,
lD 52 none 51,
mV 53 5,
iA 54 none 52 53,
lD 55 none 54,
cL 56 z42 [55,(cI 1073741824)],
mV 57 6,
mV 58 5,
bN 59 .add (cI 7919) 58,
bN 60 .mul 57 59,
bN 61 .add 56 60,
mV 62 1,
cL 63 z42 [61,62],
mV 4 63] [4])
.ret))))))
def zji:AFun:=⟨2,[.t 4],P_q03h,false,false⟩
def zf1 (C:Hd) (gl:GL) (v0 v1:AV) (h:Heap) (x:Esc) (K:KT):Prop:=
 pK (oNil v0) fun t1=>
 pK (z0g 1 none t1) fun t2=>
 pK (z0e none t2 h) fun t3=>
 pK (oBin .add t3 (AI 1)) fun t4=>
 pK (oNil v0) fun t5=>
 pK (z0g 1 none t5) fun t6=>
 wK (z0n none t6 t4 h) fun t7 h8 y9=>
 pK (oNil v0) fun t10=>
 pK (z0g 0 none t10) fun t11=>
 pK (z0e none t11 h8) fun t12=>
 pK (oLen t12) fun t13=>
 pK (oBin .eql t13 (AI 0)) fun t14=>
 z0j t14 (pK (oNil v0) fun t15=>
 pK (z0g 1 none t15) fun t16=>
 pK (z0e none t16 h8) fun t17=>
 pK (oBin .mul t17 (AI 7919)) fun t18=>
 C z42 [t18,v1] h8 fun t19 h20 y21=>
 K .ret ⟨[(4,t19)],h20,(y21++(y9++x))⟩)
 (pK (oNil v0) fun t22=>
 pK (z0g 1 none t22) fun t23=>
 pK (z0e none t23 h8) fun t24=>
 pK (oBin .sub t24 (AI 1)) fun t25=>
 pK (oNil v0) fun t26=>
 pK (z0g 0 none t26) fun t27=>
 pK (z0e none t27 h8) fun t28=>
 pK (oLen t28) fun t29=>
 pK (oBin .rem t25 t29) fun t30=>
 pK (oNil v0) fun t31=>
 pK (z0g 1 none t31) fun t32=>
 pK (z0e none t32 h8) fun t33=>
 pK (oBin .sub t33 (AI 1)) fun t34=>
 pK (oNil v0) fun t35=>
 pK (z0g 0 none t35) fun t36=>
 pK (z0e none t36 h8) fun t37=>
 pK (oLen t37) fun t38=>
 pK (oBin .quo t34 t38) fun t39=>
 pK (oNil v0) fun t40=>
 pK (z0g 0 none t40) fun t41=>
 pK (z0e none t41 h8) fun t42=>
 pK (z0p none t42 t30 h8) fun t43=>
 pK (z0e none t43 h8) fun t44=>
 C z42 [t44,(AI 1073741824)] h8 fun t45 h46 y47=>
 pK (oBin .add (AI 7919) t30) fun t48=>
 pK (oBin .mul t39 t48) fun t49=>
 pK (oBin .add t45 t49) fun t50=>
 C z42 [t50,v1] h46 fun t51 h52 y53=>
 K .ret ⟨[(4,t51)],h52,(y53++(y47++(y9++x)))⟩)
theorem e_q03h {C gl v0 v1 h x K}:NW C gl zji.body ⟨enter [v0,v1],h,x⟩ K=zf1 C gl v0 v1 h x K:=by kernel_rfl
def z2E:ACode:=.pr [3,6,7,8] (.seq (rg [bN 9 .lss 8 7] [3,6,7,8,9])
(.seq (.cond 9 .skip
(.exit 0))
(.seq (.block 1 (.seq (rg [iA 10 none 6 8,
lD 11 none 10,
mV 5 11] [3,5,6,7,8])
(.seq (rg [mV 12 5,
mV 13 3,
bN 14 .neq 12 13] [3,5,6,7,8,14])
(.cond 14 (.seq (rg [mV 15 5,
mV 2 15] [2])
.ret)
.skip))))
(rg [bN 16 .add 8 (cI 1),
mV 8 16] [3,6,7,8]))))
def zbM (C:Hd) (gl:GL) (v3 v6 v7 v8:AV) (h:Heap) (x:Esc) (K:KT):Prop:=
 pK (oBin .lss v8 v7) fun t1=>
 z0j t1 (pK (z0p none v6 v8 h) fun t2=>
 pK (z0e none t2 h) fun t3=>
 pK (oBin .neq t3 v3) fun t4=>
 z0j t4 (K .ret ⟨[(2,t3)],h,x⟩)
 (pK (oBin .add v8 (AI 1)) fun t5=>
 K .normal ⟨[(3,v3),(6,v6),(7,v7),(8,t5)],h,x⟩))
 (K (.exit 0) ⟨[(3,v3),(6,v6),(7,v7),(8,v8),(9,t1)],h,x⟩)
theorem zlw {C gl e h x K}:NW C gl z2E ⟨e,h,x⟩ K=zbM C gl (aget e 3) (aget e 6) (aget e 7) (aget e 8) h x K:=by kernel_rfl
theorem zni {C gl e h x K}:NW C gl (.loop z2E) ⟨e,h,x⟩ K=z0T C gl z2E K [(3,aget e 3),(6,aget e 6),(7,aget e 7),(8,aget e 8)] h x:=z0A
def z50:ACode:=.pr [3] (.seq (rg [mV 17 3,
mV 2 17] [2])
.ret)
def zbN (C:Hd) (gl:GL) (v3:AV) (h:Heap) (x:Esc) (K:KT):Prop:=
 K .ret ⟨[(2,v3)],h,x⟩
theorem zlx {C gl e h x K}:NW C gl z50 ⟨e,h,x⟩ K=zbN C gl (aget e 3) h x K:=by kernel_rfl
def zrQ (q1 q2:ACode):ACode:=(.seq (rg [mV 2 (cI 0)] [0])
(.seq (rg [mV 3 (cI 0)] [0,3])
(.seq (.seq (rg [mV 6 0,
lN 7 6,
mV 8 (cI 0)] [3,6,7,8])
(.block 0 (.loop q1)))
q2)))
def zeV:AFun:=⟨1,[.t 2],zrQ z2E z50,false,false⟩
def zfp (C:Hd) (gl:GL) (q1 q2:ACode) (v0:AV) (h:Heap) (x:Esc) (K:KT):Prop:=
 pK (oLen v0) fun t1=>
 NW C gl (.loop q1) ⟨[(3,(AI 0)),(6,v0),(7,t1),(8,(AI 0))],h,x⟩ (z0u 0 (seqN C gl q2 K))
theorem E_q00u {C gl q1 q2 v0 h x K}:NW C gl (zrQ q1 q2) ⟨enter [v0],h,x⟩ K=zfp C gl q1 q2 v0 h x K:=by kernel_rfl
theorem e_q00u {C gl v0 h x K}:NW C gl zeV.body ⟨enter [v0],h,x⟩ K=zfp C gl z2E z50 v0 h x K:=E_q00u
def P_q00s:ACode:=(.seq (rg [mV 4 (cI 0)] [0,1])
(.seq (rg [mV 7 0,
cL 8 z5n [7],
mV 5 8] [0,1,5])
(.seq (rg [mV 9 1,
cL 10 z5n [9],
mV 6 10] [0,1,5,6])
(.seq (.seq (rg [mV 11 5] [0,1,6,11])
(.cond 11 (.seq (.seq (rg [mV 12 6] [12])
(.cond 12 (.seq (rg [mV 4 (cI 0)] [4])
.ret)
.skip))
(.seq (rg [mV 4 (cI (-1))] [4])
.ret))
.skip))
(.seq (.seq (rg [mV 13 6] [0,1,13])
(.cond 13 (.seq (rg [mV 4 (cI 1)] [4])
.ret)
.skip))
(.seq (.seq (rg [mV 14 0,
mV 15 1,
bN 16 .lss 14 15] [0,1,16])
(.cond 16 (.seq (rg [mV 4 (cI (-1))] [4])
.ret)
.skip))
(.seq (.seq (rg [mV 17 0,
mV 18 1,
bN 19 .gtr 17 18] [19])
(.cond 19 (.seq (rg [mV 4 (cI 1)] [4])
.ret)
.skip))
(.seq (rg [mV 4 (cI 0)] [4])
.ret))))))))
def zeU:AFun:=⟨2,[.t 4],P_q00s,false,false⟩
def zbL (C:Hd) (gl:GL) (v0 v1:AV) (h:Heap) (x:Esc) (K:KT):Prop:=
 C z5n [v0] h fun t1 h2 y3=>
 C z5n [v1] h2 fun t4 h5 y6=>
 z0j t1 (z0j t4 (K .ret ⟨[(4,(AI 0))],h5,(y6++(y3++x))⟩)
 (K .ret ⟨[(4,(AI (-1)))],h5,(y6++(y3++x))⟩))
 (z0j t4 (K .ret ⟨[(4,(AI 1))],h5,(y6++(y3++x))⟩)
 (pK (oBin .lss v0 v1) fun t7=>
 z0j t7 (K .ret ⟨[(4,(AI (-1)))],h5,(y6++(y3++x))⟩)
 (pK (oBin .gtr v0 v1) fun t8=>
 z0j t8 (K .ret ⟨[(4,(AI 1))],h5,(y6++(y3++x))⟩)
 (K .ret ⟨[(4,(AI 0))],h5,(y6++(y3++x))⟩))))
theorem e_q00s {C gl v0 v1 h x K}:NW C gl zeU.body ⟨enter [v0,v1],h,x⟩ K=zbL C gl v0 v1 h x K:=by kernel_rfl
def P_q091:ACode:=(.seq (rg [mV 4 (cI 0)] [0,1])
(.seq (rg [mV 5 0,
mV 6 1,
cL 7 z8d [5,6],
mV 4 7] [4])
.ret))
def zfe:AFun:=⟨2,[.t 4],P_q091,false,false⟩
def zkV (C:Hd) (gl:GL) (v0 v1:AV) (h:Heap) (x:Esc) (K:KT):Prop:=
 C z8d [v0,v1] h fun t1 h2 y3=>
 K .ret ⟨[(4,t1)],h2,(y3++x)⟩
theorem e_q091 {C gl v0 v1 h x K}:NW C gl zfe.body ⟨enter [v0,v1],h,x⟩ K=zkV C gl v0 v1 h x K:=by kernel_rfl
def P_q03b:ACode:=(.seq (rg [mV 6 (cS [])] [0,1,2])
(.seq (.seq (rg [mV 9 1,
bN 10 .eql 9 (cS []),
mV 11 10,
gD 12 11 false (.mv 2),
gD 13 11 false (.bin .eql 12 (cS [])),
uO 14 (.pick 11 cT 13)] [0,1,2,14])
(.cond 14 (.seq (rg [mV 15 2,
mV 6 15] [6])
.ret)
.skip))
(.seq (rg [mV 16 0,
mV 17 1,
uO 18 (.lens 17),
cL 19 z1k [16,18],
mV 7 19] [0,1,2,7])
(.seq (rg [mV 20 2,
mV 21 0,
mV 22 2,
uO 23 (.lens 22),
cL 24 z1k [21,23],
uO 25 (.idxs 20 24),
mV 8 25] [0,1,7,8])
(.seq (.seq (rg [mV 26 0,
cL 27 z1k [26,(cI 3)]] [1,7,8,27])
(.block 0 (.seq (rg [bN 29 .eql 27 (cI 0),
mV 28 29] [1,7,8,27,28])
(.cond 28 (.seq (dr [dF (mV 30 1) [1],
dF (mV 31 7) [7],
dF (uO 32 (.slstr 30 none (some 31))) [30,31],
dF (mV 33 8) [8],
dF (uO 34 (.conv (.i .i32) 33)) [33],
dF (uO 35 (.conv .r2s 34)) [34],
dF (bN 36 .add 32 35) [32,35],
dF (mV 37 1) [1],
dF (mV 38 7) [7],
dF (bN 39 .add 38 (cI 1)) [38],
dF (uO 40 (.slstr 37 (some 39) none)) [37,39],
dF (bN 41 .add 36 40) [36,40],
dF (mV 6 41) [41]] [6])
.ret)
(.seq (rg [bN 43 .eql 27 (cI 1),
mV 42 43] [1,7,8,42])
(.cond 42 (.seq (dr [dF (mV 44 1) [1],
dF (mV 45 7) [7],
dF (uO 46 (.slstr 44 none (some 45))) [44,45],
dF (mV 47 8) [8],
dF (uO 48 (.conv (.i .i32) 47)) [47],
dF (uO 49 (.conv .r2s 48)) [48],
dF (bN 50 .add 46 49) [46,49],
dF (mV 51 1) [1],
dF (mV 52 7) [7],
dF (uO 53 (.slstr 51 (some 52) none)) [51,52],
dF (bN 54 .add 50 53) [50,53],
dF (mV 6 54) [54]] [6])
.ret)
.skip))))))
(.seq (dr [dF (mV 55 1) [1],
dF (mV 56 7) [7],
dF (uO 57 (.slstr 55 none (some 56))) [55,56],
dF (mV 58 1) [1],
dF (mV 59 7) [7],
dF (bN 60 .add 59 (cI 1)) [59],
dF (uO 61 (.slstr 58 (some 60) none)) [58,60],
dF (bN 62 .add 57 61) [57,61],
dF (mV 6 62) [62]] [6])
.ret))))))
def zje:AFun:=⟨3,[.t 6],P_q03b,false,false⟩
def zfy (C:Hd) (gl:GL) (v0 v1 v2:AV) (h:Heap) (x:Esc) (K:KT):Prop:=
 pK (oBin .eql v1 (.p (.str []))) fun t1=>
 gM t1 false v2 h fun t2 h3 y4=>
 gP t1 false (oBin .eql t2 (.p (.str []))) h3 fun t5 h6 y7=>
 pK (z0y t1 (AB true) t5) fun t8=>
 z0j t8 (K .ret ⟨[(6,v2)],h6,(y7++(y4++x))⟩)
 (pK (z0X v1) fun t9=>
 C z1k [v0,t9] h6 fun t10 h11 y12=>
 pK (z0X v2) fun t13=>
 C z1k [v0,t13] h11 fun t14 h15 y16=>
 pK (z17 v2 t14) fun t17=>
 C z1k [v0,(AI 3)] h15 fun t18 h19 y20=>
 pK (oBin .eql t18 (AI 0)) fun t21=>
 z0j t21 (pK (z0Y v1 none (some t10)) fun t22=>
 pK (z1s .i32 t17) fun t23=>
 (h19=h19∧([]:Esc)=[])∧(wK (ze6 .r2s t23 h19) fun t24 h25 y26=>
 (h25=h19∧y26=[])∧(pK (oBin .add t22 t24) fun t27=>
 pK (oBin .add t10 (AI 1)) fun t28=>
 pK (z0Y v1 (some t28) none) fun t29=>
 pK (oBin .add t27 t29) fun t30=>
 K .ret ⟨[(6,t30)],h25,(y26++(y20++(y16++(y12++(y7++(y4++x))))))⟩)))
 (pK (oBin .eql t18 (AI 1)) fun t31=>
 z0j t31 (pK (z0Y v1 none (some t10)) fun t32=>
 pK (z1s .i32 t17) fun t33=>
 (h19=h19∧([]:Esc)=[])∧(wK (ze6 .r2s t33 h19) fun t34 h35 y36=>
 (h35=h19∧y36=[])∧(pK (oBin .add t32 t34) fun t37=>
 pK (z0Y v1 (some t10) none) fun t38=>
 pK (oBin .add t37 t38) fun t39=>
 K .ret ⟨[(6,t39)],h35,(y36++(y20++(y16++(y12++(y7++(y4++x))))))⟩)))
 (pK (z0Y v1 none (some t10)) fun t40=>
 pK (oBin .add t10 (AI 1)) fun t41=>
 pK (z0Y v1 (some t41) none) fun t42=>
 pK (oBin .add t40 t42) fun t43=>
 K .ret ⟨[(6,t43)],h19,(y20++(y16++(y12++(y7++(y4++x)))))⟩)))
theorem e_q03b {C gl v0 v1 v2 h x K}:NW C gl zje.body ⟨enter [v0,v1,v2],h,x⟩ K=zfy C gl v0 v1 v2 h x K:=by kernel_rfl
def P_q08y:ACode:=(.seq (rg [mV 4 (cI 0),
mV 5 (.c (.nili))] [0,1])
(.seq (rg [mV 6 0,
cL 7 z9X [6]] [0,1])
(.seq (rg [mV 8 0,
mV 9 0,
uO 10 (.nilchk 9),
fA 11 1 none 10,
lD 12 none 11,
mV 13 1,
uO 14 (.uns 3 5 [12,13]),
uO 15 (.nilchk 8),
fA 16 1 none 15,
wO (.store none 16 14)] [1])
(.seq (rg [mV 17 1,
uO 18 (.lens 17),
mV 4 18,
mV 5 (.c (.nili))] [4,5])
.ret))))
def zjM:AFun:=⟨2,[.t 4,.t 5],P_q08y,false,false⟩
def zkU (C:Hd) (gl:GL) (v0 v1:AV) (h:Heap) (x:Esc) (K:KT):Prop:=
 C z9X [v0] h fun t1 h2 y3=>
 pK (oNil v0) fun t4=>
 pK (z0g 1 none t4) fun t5=>
 pK (z0e none t5 h2) fun t6=>
 wK (z1x 3 5 [t6,v1] h2) fun t7 h8 y9=>
 pK (oNil v0) fun t10=>
 pK (z0g 1 none t10) fun t11=>
 wK (z0n none t11 t7 h8) fun t12 h13 y14=>
 pK (z0X v1) fun t15=>
 K .ret ⟨[(4,t15),(5,(.nili))],h13,(y14++(y9++(y3++x)))⟩
theorem e_q08y {C gl v0 v1 h x K}:NW C gl zjM.body ⟨enter [v0,v1],h,x⟩ K=zkU C gl v0 v1 h x K:=by kernel_rfl
end Go.Am
end
section
/- The functions asv abstract code,and asv formulas over their values: printed by program out of the translation. -/
set_option linter.unusedVariables false
set_option maxRecDepth 100000
namespace Go.Am
def P_q08v:ACode:=(.seq (rg [mV 2 (cI 0)] [0])
(.seq (rg [mV 3 0,
uO 4 (.nilchk 3),
fA 5 1 none 4,
lD 6 none 5,
uO 7 (.uns 4 0 [6]),
mV 2 7] [2])
.ret))
def zjK:AFun:=⟨1,[.t 2],P_q08v,false,false⟩
def zkT (C:Hd) (gl:GL) (v0:AV) (h:Heap) (x:Esc) (K:KT):Prop:=
 pK (oNil v0) fun t1=>
 pK (z0g 1 none t1) fun t2=>
 pK (z0e none t2 h) fun t3=>
 wK (z1x 4 0 [t3] h) fun t4 h5 y6=>
 K .ret ⟨[(2,t4)],h5,(y6++x)⟩
theorem e_q08v {C gl v0 h x K}:NW C gl zjK.body ⟨enter [v0],h,x⟩ K=zkT C gl v0 h x K:=by kernel_rfl
def P_q08w:ACode:=(.seq (rg [mV 2 (cS [])] [0])
(.seq (dr [dF (mV 3 0) [0],
dF (uO 4 (.nilchk 3)) [3],
dF (fA 5 1 none 4) [4],
dF (lD 6 none 5) [5],
dF (uO 7 (.uns 5 5 [6])) [6],
dF (mV 8 0) [0],
dF (uO 9 (.nilchk 8)) [8],
dF (fA 10 1 none 9) [9],
dF (lD 11 none 10) [10],
dF (uO 12 (.uns 4 0 [11])) [11],
dT (uO 13 (.uns 6 5 [7,12])) [7,12],
dF (mV 2 13) [13]] [2])
.ret))
def zjL:AFun:=⟨1,[.t 2],P_q08w,false,false⟩
def zfG (C:Hd) (gl:GL) (v0:AV) (h:Heap) (x:Esc) (K:KT):Prop:=
 pK (oNil v0) fun t1=>
 pK (z0g 1 none t1) fun t2=>
 pK (z0e none t2 h) fun t3=>
 wK (z1x 5 5 [t3] h) fun t4 h5 y6=>
 (h5=h∧y6=[])∧(pK (oNil v0) fun t7=>
 pK (z0g 1 none t7) fun t8=>
 pK (z0e none t8 h5) fun t9=>
 wK (z1x 4 0 [t9] h5) fun t10 h11 y12=>
 (h11=h5∧y12=[])∧(wK (z1x 6 5 [t4,t10] h11) fun t13 h14 y15=>
 K .ret ⟨[(2,t13)],h14,(y15++(y12++(y6++x)))⟩))
theorem e_q08w {C gl v0 h x K}:NW C gl zjL.body ⟨enter [v0],h,x⟩ K=zfG C gl v0 h x K:=by kernel_rfl
def z2O:ACode:=.pr [3,6,7,8] (.seq (rg [bN 9 .lss 8 7] [3,6,7,8,9])
(.seq (.cond 9 .skip
(.exit 0))
(.seq (.block 1 (.seq (rg [iA 10 none 6 8,
lD 11 none 10,
mV 5 11] [3,5,6,7,8])
(rg [mV 12 3,
mV 13 5,
cL 14 z2d [13],
uO 15 (.bsl false none 1 (.str []) [(0,14)]),
uO 16 (.app none 12 15),
mV 3 16] [3,6,7,8])))
(rg [bN 17 .add 8 (cI 1),
mV 8 17] [3,6,7,8]))))
def zcp (C:Hd) (gl:GL) (v3 v6 v7 v8:AV) (h:Heap) (x:Esc) (K:KT):Prop:=
 pK (oBin .lss v8 v7) fun t1=>
 z0j t1 (pK (z0p none v6 v8 h) fun t2=>
 pK (z0e none t2 h) fun t3=>
 C z2d [t3] h fun t4 h5 y6=>
 wK (oBsl false none 1 (.str []) [(0,t4)] h5) fun t7 h8 y9=>
 wK (oApp none v3 t7 h8) fun t10 h11 y12=>
 pK (oBin .add v8 (AI 1)) fun t13=>
 K .normal ⟨[(3,t10),(6,v6),(7,v7),(8,t13)],h11,(y12++(y9++(y6++x)))⟩)
 (K (.exit 0) ⟨[(3,v3),(6,v6),(7,v7),(8,v8),(9,t1)],h,x⟩)
theorem zlS {C gl e h x K}:NW C gl z2O ⟨e,h,x⟩ K=zcp C gl (aget e 3) (aget e 6) (aget e 7) (aget e 8) h x K:=by kernel_rfl
theorem znv {C gl e h x K}:NW C gl (.loop (.scope z2O)) ⟨e,h,x⟩ K=z0T C gl (.scope z2O) K [(3,aget e 3),(6,aget e 6),(7,aget e 7),(8,aget e 8)] h x:=z1E
def z5H:ACode:=.pr [3] (.seq (rg [mV 18 3,
cL 19 zde [18,(cS [32])],
mV 2 19] [2])
.ret)
def z7G (C:Hd) (gl:GL) (v3:AV) (h:Heap) (x:Esc) (K:KT):Prop:=
 C zde [v3,(.p (.str [32]))] h fun t1 h2 y3=>
 K .ret ⟨[(2,t1)],h2,(y3++x)⟩
theorem z7W {C gl e h x K}:NW C gl z5H ⟨e,h,x⟩ K=z7G C gl (aget e 3) h x K:=by kernel_rfl
def zsd (q1 q2:ACode):ACode:=(.seq (rg [mV 2 (cS [])] [0])
(.seq (rg [uO 3 (.new0 none)] [0,3])
(.seq (.seq (rg [mV 6 0,
lN 7 6,
mV 8 (cI 0)] [3,6,7,8])
(.block 0 (.loop (.scope q1))))
q2)))
def zjy:AFun:=⟨1,[.t 2],zsd z2O z5H,false,false⟩
def zf6 (C:Hd) (gl:GL) (q1 q2:ACode) (v0:AV) (h:Heap) (x:Esc) (K:KT):Prop:=
 nwK none h fun t1 h2 y3=>
 pK (oLen v0) fun t4=>
 NW C gl (.loop (.scope q1)) ⟨[(3,t1),(6,v0),(7,t4),(8,(AI 0))],h2,(y3++x)⟩ (z0u 0 (seqN C gl q2 K))
theorem E_q049 {C gl q1 q2 v0 h x K}:NW C gl (zsd q1 q2) ⟨enter [v0],h,x⟩ K=zf6 C gl q1 q2 v0 h x K:=by kernel_rfl
theorem e_q049 {C gl v0 h x K}:NW C gl zjy.body ⟨enter [v0],h,x⟩ K=zf6 C gl z2O z5H v0 h x K:=E_q049
def z2B:ACode:=.pr [1,6,7,15,16,17] (.seq (rg [bN 18 .lss 17 16] [1,6,7,15,16,17,18])
(.seq (.cond 18 .skip
(.exit 0))
(.seq (.block 1 (.seq (rg [mV 19 17,
iA 20 none 15 17,
lD 21 none 20,
mV 8 19,
mV 9 21] [1,6,7,8,9,15,16,17])
(.seq (rg [mV 22 7,
uO 23 (.un .not 22),
mV 24 23,
gD 25 24 true (.mv 8),
gD 26 24 true (.mv 6),
gD 27 24 true (.len 26),
gD 28 24 true (.bin .sub 27 (cI 1)),
gD 29 24 true (.bin .eql 25 28),
uO 30 (.pick 24 29 cF),
mV 31 30,
gD 32 31 false (.mv 1),
gD 33 31 false (.mv 9),
gD 34 31 false (.callv 32 [33]),
gD 35 31 false (.un .not 34),
uO 36 (.pick 31 cT 35)] [1,6,7,8,15,16,17,36])
(.cond 36 (.seq (rg [mV 37 8,
mV 4 37,
mV 5 cF] [4,5])
.ret)
.skip))))
(rg [bN 38 .add 17 (cI 1),
mV 17 38] [1,6,7,15,16,17]))))
def zbG (C:Hd) (gl:GL) (v1 v6 v7 v15 v16 v17:AV) (h:Heap) (x:Esc) (K:KT):Prop:=
 pK (oBin .lss v17 v16) fun t1=>
 z0j t1 (pK (z0p none v15 v17 h) fun t2=>
 pK (z0e none t2 h) fun t3=>
 pK (oUn .not v7) fun t4=>
 gM t4 true v17 h fun t5 h6 y7=>
 gM t4 true v6 h6 fun t8 h9 y10=>
 gP t4 true (oLen t8) h9 fun t11 h12 y13=>
 gP t4 true (oBin .sub t11 (AI 1)) h12 fun t14 h15 y16=>
 gP t4 true (oBin .eql t5 t14) h15 fun t17 h18 y19=>
 pK (z0y t4 t17 (AB false)) fun t20=>
 gM t20 false v1 h18 fun t21 h22 y23=>
 gM t20 false t3 h22 fun t24 h25 y26=>
 gV t20 false h25 (z4V C t21 [t24] h25) fun t27 h28 y29=>
 gP t20 false (oUn .not t27) h28 fun t30 h31 y32=>
 pK (z0y t20 (AB true) t30) fun t33=>
 z0j t33 (K .ret ⟨[(4,v17),(5,(AB false))],h31,(y32++(y29++(y26++(y23++(y19++(y16++(y13++(y10++(y7++x)))))))))⟩)
 (pK (oBin .add v17 (AI 1)) fun t34=>
 K .normal ⟨[(1,v1),(6,v6),(7,v7),(15,v15),(16,v16),(17,t34)],h31,(y32++(y29++(y26++(y23++(y19++(y16++(y13++(y10++(y7++x)))))))))⟩))
 (K (.exit 0) ⟨[(1,v1),(6,v6),(7,v7),(15,v15),(16,v16),(17,v17),(18,t1)],h,x⟩)
theorem zlr {C gl e h x K}:NW C gl z2B ⟨e,h,x⟩ K=zbG C gl (aget e 1) (aget e 6) (aget e 7) (aget e 15) (aget e 16) (aget e 17) h x K:=by kernel_rfl
theorem zne {C gl e h x K}:NW C gl (.loop z2B) ⟨e,h,x⟩ K=z0T C gl z2B K [(1,aget e 1),(6,aget e 6),(7,aget e 7),(15,aget e 15),(16,aget e 16),(17,aget e 17)] h x:=z0A
def z5w:ACode:=.pr [] (.seq (rg [mV 4 (cI 0),
mV 5 cT] [4,5])
.ret)
def z74 (C:Hd) (gl:GL) (h:Heap) (x:Esc) (K:KT):Prop:=
 K .ret ⟨[(4,(AI 0)),(5,(AB true))],h,x⟩
theorem z7P {C gl e h x K}:NW C gl z5w ⟨e,h,x⟩ K=z74 C gl h x K:=by kernel_rfl
def zrM (q1 q2:ACode):ACode:=(.seq (rg [mV 4 (cI 0),
mV 5 cF] [0,1])
(.seq (rg [mV 11 0,
cL 12 z95 [11],
mV 10 12,
eX 13 10 0,
eX 14 10 1,
mV 6 13,
mV 7 14] [1,6,7])
(.seq (.seq (rg [mV 15 6,
lN 16 15,
mV 17 (cI 0)] [1,6,7,15,16,17])
(.block 0 (.loop q1)))
q2)))
def ziO:AFun:=⟨2,[.t 4,.t 5],zrM z2B z5w,false,false⟩
def zfm (C:Hd) (gl:GL) (q1 q2:ACode) (v0 v1:AV) (h:Heap) (x:Esc) (K:KT):Prop:=
 C z95 [v0] h fun t1 h2 y3=>
 pK (oExt t1 0) fun t4=>
 pK (oExt t1 1) fun t5=>
 pK (oLen t4) fun t6=>
 NW C gl (.loop q1) ⟨[(1,v1),(6,t4),(7,t5),(15,t4),(16,t6),(17,(AI 0))],h2,(y3++x)⟩ (z0u 0 (seqN C gl q2 K))
theorem E_q001 {C gl q1 q2 v0 v1 h x K}:NW C gl (zrM q1 q2) ⟨enter [v0,v1],h,x⟩ K=zfm C gl q1 q2 v0 v1 h x K:=by kernel_rfl
theorem e_q001 {C gl v0 v1 h x K}:NW C gl ziO.body ⟨enter [v0,v1],h,x⟩ K=zfm C gl z2B z5w v0 v1 h x K:=E_q001
def z2N:ACode:=.pr [0,1,6] (.seq (.seq (rg [mV 10 0,
bN 11 .neq 10 (cS [])] [0,1,6,11])
(.cond 11 .skip
(.exit 0)))
(.seq (.block 1 (.seq (rg [mV 15 0,
cL 16 z8p [15,(cS [10])],
mV 14 16,
eX 17 14 0,
eX 18 14 1,
eX 19 14 2,
mV 7 17,
mV 8 18,
mV 9 19] [1,6,7,8,9])
(.seq (.seq (rg [mV 20 9,
uO 21 (.un .not 20),
mV 22 21,
gD 23 22 false (.mv 1),
gD 24 22 false (.mv 7),
gD 25 22 false (.callv 23 [24]),
gD 26 22 false (.un .not 25),
uO 27 (.pick 22 cT 26)] [1,6,8,27])
(.cond 27 (.seq (rg [mV 28 6,
mV 4 28,
mV 5 cF] [4,5])
.ret)
.skip))
(rg [mV 29 8,
mV 0 29] [0,1,6]))))
(rg [mV 12 6,
bN 13 .add 12 (cI 1),
mV 6 13] [0,1,6])))
def zco (C:Hd) (gl:GL) (v0 v1 v6:AV) (h:Heap) (x:Esc) (K:KT):Prop:=
 pK (oBin .neq v0 (.p (.str []))) fun t1=>
 z0j t1 (C z8p [v0,(.p (.str [10]))] h fun t2 h3 y4=>
 pK (oExt t2 0) fun t5=>
 pK (oExt t2 1) fun t6=>
 pK (oExt t2 2) fun t7=>
 pK (oUn .not t7) fun t8=>
 gM t8 false v1 h3 fun t9 h10 y11=>
 gM t8 false t5 h10 fun t12 h13 y14=>
 gV t8 false h13 (z4V C t9 [t12] h13) fun t15 h16 y17=>
 gP t8 false (oUn .not t15) h16 fun t18 h19 y20=>
 pK (z0y t8 (AB true) t18) fun t21=>
 z0j t21 (K .ret ⟨[(4,v6),(5,(AB false))],h19,(y20++(y17++(y14++(y11++(y4++x)))))⟩)
 (pK (oBin .add v6 (AI 1)) fun t22=>
 K .normal ⟨[(0,t6),(1,v1),(6,t22)],h19,(y20++(y17++(y14++(y11++(y4++x)))))⟩))
 (K (.exit 0) ⟨[(0,v0),(1,v1),(6,v6),(11,t1)],h,x⟩)
theorem zlR {C gl e h x K}:NW C gl z2N ⟨e,h,x⟩ K=zco C gl (aget e 0) (aget e 1) (aget e 6) h x K:=by kernel_rfl
theorem znu {C gl e h x K}:NW C gl (.loop z2N) ⟨e,h,x⟩ K=z0T C gl z2N K [(0,aget e 0),(1,aget e 1),(6,aget e 6)] h x:=z0A
def z5G:ACode:=.pr [] (.seq (rg [mV 4 (cI 0),
mV 5 cT] [4,5])
.ret)
def z7F (C:Hd) (gl:GL) (h:Heap) (x:Esc) (K:KT):Prop:=
 K .ret ⟨[(4,(AI 0)),(5,(AB true))],h,x⟩
theorem z7V {C gl e h x K}:NW C gl z5G ⟨e,h,x⟩ K=z7F C gl h x K:=by kernel_rfl
def zsc (q1 q2:ACode):ACode:=(.seq (rg [mV 4 (cI 0),
mV 5 cF] [0,1])
(.seq (.seq (rg [mV 6 (cI 0)] [0,1,6])
(.block 0 (.loop q1)))
q2))
def zjv:AFun:=⟨2,[.t 4,.t 5],zsc z2N z5G,false,false⟩
def zf5 (C:Hd) (gl:GL) (q1 q2:ACode) (v0 v1:AV) (h:Heap) (x:Esc) (K:KT):Prop:=
 NW C gl (.loop q1) ⟨[(0,v0),(1,v1),(6,(AI 0))],h,x⟩ (z0u 0 (seqN C gl q2 K))
theorem E_q045 {C gl q1 q2 v0 v1 h x K}:NW C gl (zsc q1 q2) ⟨enter [v0,v1],h,x⟩ K=zf5 C gl q1 q2 v0 v1 h x K:=by kernel_rfl
theorem e_q045 {C gl v0 v1 h x K}:NW C gl zjv.body ⟨enter [v0,v1],h,x⟩ K=zf5 C gl z2N z5G v0 v1 h x K:=E_q045
def P_q04p:ACode:=(.seq (rg [mV 2 (.c (.p (.sl none []))),
mV 3 cF] [0])
(.seq (rg [mV 5 0,
cL 6 z47 [5,(cS [32])],
mV 4 6] [4])
(.seq (rg [mV 7 4,
mV 8 4,
cL 9 z45 [8,(cS [])],
uO 10 (.un .not 9),
mV 2 7,
mV 3 10] [2,3])
.ret)))
def zj0:AFun:=⟨1,[.t 2,.t 3],P_q04p,false,false⟩
def zkL (C:Hd) (gl:GL) (v0:AV) (h:Heap) (x:Esc) (K:KT):Prop:=
 C z47 [v0,(.p (.str [32]))] h fun t1 h2 y3=>
 C z45 [t1,(.p (.str []))] h2 fun t4 h5 y6=>
 pK (oUn .not t4) fun t7=>
 K .ret ⟨[(2,t1),(3,t7)],h5,(y6++(y3++x))⟩
theorem e_q04p {C gl v0 h x K}:NW C gl zj0.body ⟨enter [v0],h,x⟩ K=zkL C gl v0 h x K:=by kernel_rfl
def P_q048:ACode:=(.seq (rg [mV 4 (cI 0),
mV 5 cF] [0,1])
(.seq (rg [mV 9 0,
cL 10 z6L [9,(cS [45])],
mV 6 10] [0,1,6])
(.seq (.seq (rg [mV 11 6,
bN 12 .eql 11 (cS []),
mV 13 12,
gD 14 13 false (.mv 6),
gD 15 13 false (.lens 14),
gD 16 13 false (.mv 1),
gD 17 13 false (.bin .gtr 15 16),
uO 18 (.pick 13 cT 17),
mV 19 18,
gD 20 19 false (.mv 6),
gD 21 19 false (.call z44 [20,(cS [48,49,50,51,52,53,54,55,56,57])]),
gD 22 19 false (.un .not 21),
uO 23 (.pick 19 cT 22)] [0,23])
(.cond 23 (.seq (rg [mV 4 (cI 0),
mV 5 cF] [4,5])
.ret)
.skip))
(.seq (rg [mV 25 0,
cL 26 z6K [25],
mV 24 26,
eX 27 24 0,
eX 28 24 1,
mV 7 27,
mV 8 28] [0,7,8])
(.seq (rg [mV 29 7,
mV 30 8,
uO 31 (.isnil 3 false 30),
mV 32 31,
gD 33 32 true (.mv 7),
gD 34 32 true (.call z2d [33]),
gD 35 32 true (.mv 0),
gD 36 32 true (.bin .eql 34 35),
uO 37 (.pick 32 36 cF),
mV 4 29,
mV 5 37] [4,5])
.ret)))))
def zjx:AFun:=⟨2,[.t 4,.t 5],P_q048,false,false⟩
def z92 (C:Hd) (gl:GL) (v0 v1:AV) (h:Heap) (x:Esc) (K:KT):Prop:=
 C z6L [v0,(.p (.str [45]))] h fun t1 h2 y3=>
 pK (oBin .eql t1 (.p (.str []))) fun t4=>
 gM t4 false t1 h2 fun t5 h6 y7=>
 gP t4 false (z0X t5) h6 fun t8 h9 y10=>
 gM t4 false v1 h9 fun t11 h12 y13=>
 gP t4 false (oBin .gtr t8 t11) h12 fun t14 h15 y16=>
 pK (z0y t4 (AB true) t14) fun t17=>
 gM t17 false t1 h15 fun t18 h19 y20=>
 gV t17 false h19 (C z44 [t18,(.p (.str [48,49,50,51,52,53,54,55,56,57]))] h19) fun t21 h22 y23=>
 gP t17 false (oUn .not t21) h22 fun t24 h25 y26=>
 pK (z0y t17 (AB true) t24) fun t27=>
 z0j t27 (K .ret ⟨[(4,(AI 0)),(5,(AB false))],h25,(y26++(y23++(y20++(y16++(y13++(y10++(y7++(y3++x))))))))⟩)
 (C z6K [v0] h25 fun t28 h29 y30=>
 pK (oExt t28 0) fun t31=>
 pK (oExt t28 1) fun t32=>
 pK (zaj 3 false t32) fun t33=>
 gM t33 true t31 h29 fun t34 h35 y36=>
 gV t33 true h35 (C z2d [t34] h35) fun t37 h38 y39=>
 gM t33 true v0 h38 fun t40 h41 y42=>
 gP t33 true (oBin .eql t37 t40) h41 fun t43 h44 y45=>
 pK (z0y t33 t43 (AB false)) fun t46=>
 K .ret ⟨[(4,t31),(5,t46)],h44,(y45++(y42++(y39++(y36++(y30++(y26++(y23++(y20++(y16++(y13++(y10++(y7++(y3++x)))))))))))))⟩)
theorem e_q048 {C gl v0 v1 h x K}:NW C gl zjx.body ⟨enter [v0,v1],h,x⟩ K=z92 C gl v0 v1 h x K:=by kernel_rfl
def z2P:ACode:=.pr [1,6,7,12,13,14] (.seq (rg [bN 15 .lss 14 13] [1,6,7,12,13,14,15])
(.seq (.cond 15 .skip
(.exit 0))
(.seq (.block 1 (.seq (rg [iA 16 none 12 14,
lD 17 none 16,
mV 9 17] [1,6,7,9,12,13,14])
(.seq (rg [mV 19 9,
mV 20 1,
cL 21 z6G [19,20],
mV 18 21,
eX 22 18 0,
eX 23 18 1,
mV 10 22,
mV 11 23] [1,6,7,10,11,12,13,14])
(rg [mV 24 6,
mV 25 10,
uO 26 (.bsl false none 1 (.int .i64 0) [(0,25)]),
uO 27 (.app none 24 26),
mV 28 7,
mV 29 28,
gD 30 29 true (.mv 11),
uO 31 (.pick 29 30 cF),
mV 6 27,
mV 7 31] [1,6,7,12,13,14]))))
(rg [bN 32 .add 14 (cI 1),
mV 14 32] [1,6,7,12,13,14]))))
def zcq (C:Hd) (gl:GL) (v1 v6 v7 v12 v13 v14:AV) (h:Heap) (x:Esc) (K:KT):Prop:=
 pK (oBin .lss v14 v13) fun t1=>
 z0j t1 (pK (z0p none v12 v14 h) fun t2=>
 pK (z0e none t2 h) fun t3=>
 C z6G [t3,v1] h fun t4 h5 y6=>
 pK (oExt t4 0) fun t7=>
 pK (oExt t4 1) fun t8=>
 wK (oBsl false none 1 (.int .i64 0) [(0,t7)] h5) fun t9 h10 y11=>
 wK (oApp none v6 t9 h10) fun t12 h13 y14=>
 gM v7 true t8 h13 fun t15 h16 y17=>
 pK (z0y v7 t15 (AB false)) fun t18=>
 pK (oBin .add v14 (AI 1)) fun t19=>
 K .normal ⟨[(1,v1),(6,t12),(7,t18),(12,v12),(13,v13),(14,t19)],h16,(y17++(y14++(y11++(y6++x))))⟩)
 (K (.exit 0) ⟨[(1,v1),(6,v6),(7,v7),(12,v12),(13,v13),(14,v14),(15,t1)],h,x⟩)
theorem zlT {C gl e h x K}:NW C gl z2P ⟨e,h,x⟩ K=zcq C gl (aget e 1) (aget e 6) (aget e 7) (aget e 12) (aget e 13) (aget e 14) h x K:=by kernel_rfl
theorem znw {C gl e h x K}:NW C gl (.loop (.scope z2P)) ⟨e,h,x⟩ K=z0T C gl (.scope z2P) K [(1,aget e 1),(6,aget e 6),(7,aget e 7),(12,aget e 12),(13,aget e 13),(14,aget e 14)] h x:=z1E
def z5I:ACode:=.pr [6,7] (.seq (rg [mV 33 6,
mV 34 7,
mV 4 33,
mV 5 34] [4,5])
.ret)
def z7H (C:Hd) (gl:GL) (v6 v7:AV) (h:Heap) (x:Esc) (K:KT):Prop:=
 K .ret ⟨[(4,v6),(5,v7)],h,x⟩
theorem z7X {C gl e h x K}:NW C gl z5I ⟨e,h,x⟩ K=z7H C gl (aget e 6) (aget e 7) h x K:=by kernel_rfl
def zse (q1 q2:ACode):ACode:=(.seq (rg [mV 4 (.c (.p (.sl none []))),
mV 5 cF] [0,1])
(.seq (rg [uO 6 (.new0 none)] [0,1,6])
(.seq (rg [mV 7 cT] [0,1,6,7])
(.seq (.seq (rg [mV 12 0,
lN 13 12,
mV 14 (cI 0)] [1,6,7,12,13,14])
(.block 0 (.loop (.scope q1))))
q2))))
def zjz:AFun:=⟨2,[.t 4,.t 5],zse z2P z5I,false,false⟩
def zf7 (C:Hd) (gl:GL) (q1 q2:ACode) (v0 v1:AV) (h:Heap) (x:Esc) (K:KT):Prop:=
 nwK none h fun t1 h2 y3=>
 pK (oLen v0) fun t4=>
 NW C gl (.loop (.scope q1)) ⟨[(1,v1),(6,t1),(7,(AB true)),(12,v0),(13,t4),(14,(AI 0))],h2,(y3++x)⟩ (z0u 0 (seqN C gl q2 K))
theorem E_q04a {C gl q1 q2 v0 v1 h x K}:NW C gl (zse q1 q2) ⟨enter [v0,v1],h,x⟩ K=zf7 C gl q1 q2 v0 v1 h x K:=by kernel_rfl
theorem e_q04a {C gl v0 v1 h x K}:NW C gl zjz.body ⟨enter [v0,v1],h,x⟩ K=zf7 C gl z2P z5I v0 v1 h x K:=E_q04a
def z2C:ACode:=.pr [0,23,24] (.seq (rg [bN 25 .lss 24 23] [0,23,24,25])
(.seq (.cond 25 .skip
(.exit 0))
(.seq (.block 1 (.seq (rg [mV 26 24,
mV 3 26] [0,3,23,24])
(.seq (rg [mV 27 0,
mV 28 3,
uO 29 (.idxs 27 28),
mV 4 29] [0,4,23,24])
(.seq (rg [mV 30 4,
bN 31 .geq 30 (.c (.p (.int .u8 97))),
mV 32 31,
gD 33 32 true (.mv 4),
gD 34 32 true (.bin .leq 33 (.c (.p (.int .u8 122)))),
uO 35 (.pick 32 34 cF),
mV 36 35,
gD 37 36 false (.mv 4),
gD 38 36 false (.bin .geq 37 (.c (.p (.int .u8 48)))),
gD 39 36 false (.mv 38),
gD 40 39 true (.mv 4),
gD 41 39 true (.bin .leq 40 (.c (.p (.int .u8 57)))),
gD 42 36 false (.pick 39 41 cF),
uO 43 (.pick 36 cT 42),
mV 44 43,
gD 45 44 false (.mv 4),
gD 46 44 false (.bin .eql 45 (.c (.p (.int .u8 45)))),
uO 47 (.pick 44 cT 46),
mV 48 47,
gD 49 48 false (.mv 4),
gD 50 48 false (.bin .eql 49 (.c (.p (.int .u8 95)))),
uO 51 (.pick 48 cT 50),
uO 52 (.un .not 51)] [0,23,24,52])
(.cond 52 (.seq (rg [mV 2 cF] [2])
.ret)
.skip)))))
(rg [bN 53 .add 24 (cI 1),
mV 24 53] [0,23,24]))))
def zbH (C:Hd) (gl:GL) (v0 v23 v24:AV) (h:Heap) (x:Esc) (K:KT):Prop:=
 pK (oBin .lss v24 v23) fun t1=>
 z0j t1 (pK (z17 v0 v24) fun t2=>
 pK (oBin .geq t2 (.p (.int .u8 97))) fun t3=>
 gM t3 true t2 h fun t4 h5 y6=>
 gP t3 true (oBin .leq t4 (.p (.int .u8 122))) h5 fun t7 h8 y9=>
 pK (z0y t3 t7 (AB false)) fun t10=>
 gM t10 false t2 h8 fun t11 h12 y13=>
 gP t10 false (oBin .geq t11 (.p (.int .u8 48))) h12 fun t14 h15 y16=>
 gM t10 false t14 h15 fun t17 h18 y19=>
 gM t17 true t2 h18 fun t20 h21 y22=>
 gP t17 true (oBin .leq t20 (.p (.int .u8 57))) h21 fun t23 h24 y25=>
 gP t10 false (z0y t17 t23 (AB false)) h24 fun t26 h27 y28=>
 pK (z0y t10 (AB true) t26) fun t29=>
 gM t29 false t2 h27 fun t30 h31 y32=>
 gP t29 false (oBin .eql t30 (.p (.int .u8 45))) h31 fun t33 h34 y35=>
 pK (z0y t29 (AB true) t33) fun t36=>
 gM t36 false t2 h34 fun t37 h38 y39=>
 gP t36 false (oBin .eql t37 (.p (.int .u8 95))) h38 fun t40 h41 y42=>
 pK (z0y t36 (AB true) t40) fun t43=>
 pK (oUn .not t43) fun t44=>
 z0j t44 (K .ret ⟨[(2,(AB false))],h41,(y42++(y39++(y35++(y32++(y28++(y25++(y22++(y19++(y16++(y13++(y9++(y6++x))))))))))))⟩)
 (pK (oBin .add v24 (AI 1)) fun t45=>
 K .normal ⟨[(0,v0),(23,v23),(24,t45)],h41,(y42++(y39++(y35++(y32++(y28++(y25++(y22++(y19++(y16++(y13++(y9++(y6++x))))))))))))⟩))
 (K (.exit 0) ⟨[(0,v0),(23,v23),(24,v24),(25,t1)],h,x⟩)
theorem zls {C gl e h x K}:NW C gl z2C ⟨e,h,x⟩ K=zbH C gl (aget e 0) (aget e 23) (aget e 24) h x K:=by kernel_rfl
theorem znf {C gl e h x K}:NW C gl (.loop z2C) ⟨e,h,x⟩ K=z0T C gl z2C K [(0,aget e 0),(23,aget e 23),(24,aget e 24)] h x:=z0A
def z5x:ACode:=.pr [] (.seq (rg [mV 2 cT] [2])
.ret)
def zbI (C:Hd) (gl:GL) (h:Heap) (x:Esc) (K:KT):Prop:=
 K .ret ⟨[(2,(AB true))],h,x⟩
theorem zlt {C gl e h x K}:NW C gl z5x ⟨e,h,x⟩ K=zbI C gl h x K:=by kernel_rfl
def zrN (q1 q2:ACode):ACode:=(.seq (rg [mV 2 cF] [0])
(.seq (.seq (rg [mV 5 0,
bN 6 .eql 5 (cS []),
mV 7 6,
gD 8 7 false (.mv 0),
gD 9 7 false (.lens 8),
gD 10 7 false (.bin .gtr 9 (cI 40)),
uO 11 (.pick 7 cT 10),
mV 12 11,
gD 13 12 false (.mv 0),
gD 14 12 false (.idxs 13 (cI 0)),
gD 15 12 false (.bin .lss 14 (.c (.p (.int .u8 97)))),
uO 16 (.pick 12 cT 15),
mV 17 16,
gD 18 17 false (.mv 0),
gD 19 17 false (.idxs 18 (cI 0)),
gD 20 17 false (.bin .gtr 19 (.c (.p (.int .u8 122)))),
uO 21 (.pick 17 cT 20)] [0,21])
(.cond 21 (.seq (rg [mV 2 cF] [2])
.ret)
.skip))
(.seq (.seq (rg [mV 22 0,
uO 23 (.lens 22),
mV 24 (cI 0)] [0,23,24])
(.block 0 (.loop q1)))
q2)))
def zeR:AFun:=⟨1,[.t 2],zrN z2C z5x,false,false⟩
def z65 (C:Hd) (gl:GL) (q1 q2:ACode) (v0:AV) (h:Heap) (x:Esc) (K:KT):Prop:=
 pK (oBin .eql v0 (.p (.str []))) fun t1=>
 gM t1 false v0 h fun t2 h3 y4=>
 gP t1 false (z0X t2) h3 fun t5 h6 y7=>
 gP t1 false (oBin .gtr t5 (AI 40)) h6 fun t8 h9 y10=>
 pK (z0y t1 (AB true) t8) fun t11=>
 gM t11 false v0 h9 fun t12 h13 y14=>
 gP t11 false (z17 t12 (AI 0)) h13 fun t15 h16 y17=>
 gP t11 false (oBin .lss t15 (.p (.int .u8 97))) h16 fun t18 h19 y20=>
 pK (z0y t11 (AB true) t18) fun t21=>
 gM t21 false v0 h19 fun t22 h23 y24=>
 gP t21 false (z17 t22 (AI 0)) h23 fun t25 h26 y27=>
 gP t21 false (oBin .gtr t25 (.p (.int .u8 122))) h26 fun t28 h29 y30=>
 pK (z0y t21 (AB true) t28) fun t31=>
 z0j t31 (K .ret ⟨[(2,(AB false))],h29,(y30++(y27++(y24++(y20++(y17++(y14++(y10++(y7++(y4++x)))))))))⟩)
 (pK (z0X v0) fun t32=>
 NW C gl (.loop q1) ⟨[(0,v0),(23,t32),(24,(AI 0))],h29,(y30++(y27++(y24++(y20++(y17++(y14++(y10++(y7++(y4++x)))))))))⟩ (z0u 0 (seqN C gl q2 K)))
theorem E_q005 {C gl q1 q2 v0 h x K}:NW C gl (zrN q1 q2) ⟨enter [v0],h,x⟩ K=z65 C gl q1 q2 v0 h x K:=by kernel_rfl
theorem e_q005 {C gl v0 h x K}:NW C gl zeR.body ⟨enter [v0],h,x⟩ K=z65 C gl z2C z5x v0 h x K:=E_q005
def P_q062:ACode:=(rg [mV 4 0,
mV 5 0,
lN 6 5,
mV 7 1,
cL 8 z9R [4,6,7]] [])
def zjA:AFun:=⟨2,[],P_q062,true,false⟩
def zkQ (C:Hd) (gl:GL) (v0 v1:AV) (h:Heap) (x:Esc) (K:KT):Prop:=
 pK (oLen v0) fun t1=>
 C z9R [v0,t1,v1] h fun t2 h3 y4=>
 K .normal ⟨[],h3,(y4++x)⟩
theorem e_q062 {C gl v0 v1 h x K}:NW C gl zjA.body ⟨enter [v0,v1],h,x⟩ K=zkQ C gl v0 v1 h x K:=by kernel_rfl
def P_q041:ACode:=(.seq (rg [uO 2 (.box 0),
uO 3 (.box 1),
mV 4 (cI 0)] [2,3])
(.seq (.block 0 (.seq (rg [fA 6 2 none 2,
lD 7 none 6,
fA 8 2 none 3,
lD 9 none 8,
bN 10 .neq 7 9,
mV 5 10] [2,3,5])
(.cond 5 (.seq (rg [fA 11 2 none 2,
lD 12 none 11,
fA 13 2 none 3,
lD 14 none 13,
bN 15 .sub 12 14,
cL 16 z6H [15],
mV 4 16] [4])
.ret)
(.seq (rg [fA 18 0 none 2,
lD 19 none 18,
fA 20 0 none 3,
lD 21 none 20,
bN 22 .neq 19 21,
mV 17 22] [2,3,17])
(.cond 17 (.seq (rg [fA 23 0 none 2,
lD 24 none 23,
fA 25 0 none 3,
lD 26 none 25,
cL 27 z5p [24,26],
mV 4 27] [4])
.ret)
.skip)))))
(.seq (rg [fA 28 1 none 2,
lD 29 none 28,
fA 30 1 none 3,
lD 31 none 30,
bN 32 .sub 29 31,
cL 33 z6H [32],
mV 4 33] [4])
.ret)))
def zjt:AFun:=⟨2,[.t 4],P_q041,false,false⟩
def z67 (C:Hd) (gl:GL) (v0 v1:AV) (h:Heap) (x:Esc) (K:KT):Prop:=
 wK (oBox v0 h) fun t1 h2 y3=>
 wK (oBox v1 h2) fun t4 h5 y6=>
 pK (z0g 2 none t1) fun t7=>
 pK (z0e none t7 h5) fun t8=>
 pK (z0g 2 none t4) fun t9=>
 pK (z0e none t9 h5) fun t10=>
 pK (oBin .neq t8 t10) fun t11=>
 z0j t11 (pK (z0g 2 none t1) fun t12=>
 pK (z0e none t12 h5) fun t13=>
 pK (z0g 2 none t4) fun t14=>
 pK (z0e none t14 h5) fun t15=>
 pK (oBin .sub t13 t15) fun t16=>
 C z6H [t16] h5 fun t17 h18 y19=>
 K .ret ⟨[(4,t17)],h18,(y19++(y6++(y3++x)))⟩)
 (pK (z0g 0 none t1) fun t20=>
 pK (z0e none t20 h5) fun t21=>
 pK (z0g 0 none t4) fun t22=>
 pK (z0e none t22 h5) fun t23=>
 pK (oBin .neq t21 t23) fun t24=>
 z0j t24 (pK (z0g 0 none t1) fun t25=>
 pK (z0e none t25 h5) fun t26=>
 pK (z0g 0 none t4) fun t27=>
 pK (z0e none t27 h5) fun t28=>
 C z5p [t26,t28] h5 fun t29 h30 y31=>
 K .ret ⟨[(4,t29)],h30,(y31++(y6++(y3++x)))⟩)
 (pK (z0g 1 none t1) fun t32=>
 pK (z0e none t32 h5) fun t33=>
 pK (z0g 1 none t4) fun t34=>
 pK (z0e none t34 h5) fun t35=>
 pK (oBin .sub t33 t35) fun t36=>
 C z6H [t36] h5 fun t37 h38 y39=>
 K .ret ⟨[(4,t37)],h38,(y39++(y6++(y3++x)))⟩))
theorem e_q041 {C gl v0 v1 h x K}:NW C gl zjt.body ⟨enter [v0,v1],h,x⟩ K=z67 C gl v0 v1 h x K:=by kernel_rfl
def z2W:ACode:=.pr [0,9,10,11] (.seq (rg [bN 12 .lss 11 10] [0,9,10,11,12])
(.seq (.cond 12 .skip
(.exit 0))
(.seq (.block 1 (.seq (rg [mV 13 11,
iA 14 (some 8) 9 11,
lD 15 (some 8) 14,
uO 4 (.alloc [.p (.str []),.p (.int .i64 0),.p (.int .i64 0),.p (.int .i64 0),.p (.str []),.p (.str []),.p (.str []),.p (.int .i64 0)]),
mV 3 13,
wO (.store (some 8) 4 15)] [0,3,4,9,10,11])
(.seq (.seq (rg [lD 16 (some 8) 4,
cL 17 z8k [16],
mV 5 17] [0,3,4,5,9,10,11])
(.seq (rg [mV 18 5,
bN 19 .neq 18 (cI 0)] [0,3,4,5,9,10,11,19])
(.cond 19 (.seq (rg [mV 20 5,
mV 2 20] [2])
.ret)
.skip)))
(.seq (dr [dF (mV 21 3) [3],
dF (bN 22 .gtr 21 (cI 0)) [21],
dF (mV 23 22) [22],
dF (gD 24 23 true (.load (some 8) 4)) [4,23],
dF (gD 25 23 true (.mv 0)) [0,23],
dF (gD 26 23 true (.mv 3)) [3,23],
dF (gD 27 23 true (.bin .sub 26 (cI 1))) [26,23],
dF (gD 28 23 true (.iaddr (some 8) 25 27)) [25,27,23],
dF (gD 29 23 true (.load (some 8) 28)) [28,23],
dT (gD 30 23 true (.call z8j [24,29])) [24,29,23],
dF (gD 31 23 true (.bin .leq 30 (cI 0))) [30,23],
dF (uO 32 (.pick 23 31 cF)) [23,31]] [0,9,10,11,32])
(.cond 32 (.seq (rg [mV 2 (cI 7)] [2])
.ret)
.skip)))))
(rg [bN 33 .add 11 (cI 1),
mV 11 33] [0,9,10,11]))))
def zc7 (C:Hd) (gl:GL) (v0 v9 v10 v11:AV) (h:Heap) (x:Esc) (K:KT):Prop:=
 pK (oBin .lss v11 v10) fun t1=>
 z0j t1 (pK (z0p (some 8) v9 v11 h) fun t2=>
 pK (z0e (some 8) t2 h) fun t3=>
 alK [.p (.str []),.p (.int .i64 0),.p (.int .i64 0),.p (.int .i64 0),.p (.str []),.p (.str []),.p (.str []),.p (.int .i64 0)] h fun t4 h5 y6=>
 wK (z0n (some 8) t4 t3 h5) fun t7 h8 y9=>
 pK (z0e (some 8) t4 h8) fun t10=>
 C z8k [t10] h8 fun t11 h12 y13=>
 pK (oBin .neq t11 (AI 0)) fun t14=>
 z0j t14 (K .ret ⟨[(2,t11)],h12,(y13++(y9++(y6++x)))⟩)
 (pK (oBin .gtr v11 (AI 0)) fun t15=>
 gP t15 true (z0e (some 8) t4 h12) h12 fun t16 h17 y18=>
 gM t15 true v0 h17 fun t19 h20 y21=>
 gM t15 true v11 h20 fun t22 h23 y24=>
 gP t15 true (oBin .sub t22 (AI 1)) h23 fun t25 h26 y27=>
 gP t15 true (z0p (some 8) t19 t25 h26) h26 fun t28 h29 y30=>
 gP t15 true (z0e (some 8) t28 h29) h29 fun t31 h32 y33=>
 gV t15 true h32 (z1u C z8j [t16,t31] h32) fun t34 h35 y36=>
 gP t15 true (oBin .leq t34 (AI 0)) h35 fun t37 h38 y39=>
 pK (z0y t15 t37 (AB false)) fun t40=>
 z0j t40 (K .ret ⟨[(2,(AI 7))],h38,(y39++(y36++(y33++(y30++(y27++(y24++(y21++(y18++(y13++(y9++(y6++x)))))))))))⟩)
 (pK (oBin .add v11 (AI 1)) fun t41=>
 K .normal ⟨[(0,v0),(9,v9),(10,v10),(11,t41)],h38,(y39++(y36++(y33++(y30++(y27++(y24++(y21++(y18++(y13++(y9++(y6++x)))))))))))⟩)))
 (K (.exit 0) ⟨[(0,v0),(9,v9),(10,v10),(11,v11),(12,t1)],h,x⟩)
theorem zml {C gl e h x K}:NW C gl z2W ⟨e,h,x⟩ K=zc7 C gl (aget e 0) (aget e 9) (aget e 10) (aget e 11) h x K:=by kernel_rfl
theorem zn6 {C gl e h x K}:NW C gl (.loop (.scope z2W)) ⟨e,h,x⟩ K=z0T C gl (.scope z2W) K [(0,aget e 0),(9,aget e 9),(10,aget e 10),(11,aget e 11)] h x:=z1E
def z5O:ACode:=.pr [0] (.seq (.seq (rg [mV 34 0,
cL 35 z8m [34]] [35])
(.cond 35 (.seq (rg [mV 2 (cI 6)] [2])
.ret)
.skip))
(.seq (rg [mV 2 (cI 0)] [2])
.ret))
def zc8 (C:Hd) (gl:GL) (v0:AV) (h:Heap) (x:Esc) (K:KT):Prop:=
 C z8m [v0] h fun t1 h2 y3=>
 z0j t1 (K .ret ⟨[(2,(AI 6))],h2,(y3++x)⟩)
 (K .ret ⟨[(2,(AI 0))],h2,(y3++x)⟩)
theorem zmm {C gl e h x K}:NW C gl z5O ⟨e,h,x⟩ K=zc8 C gl (aget e 0) h x K:=by kernel_rfl
def zsl (q1 q2:ACode):ACode:=(.seq (rg [mV 2 (cI 0)] [0])
(.seq (.seq (rg [mV 6 0,
lN 7 6,
bN 8 .gtr 7 (cI 2000)] [0,8])
(.cond 8 (.seq (rg [mV 2 (cI 2)] [2])
.ret)
.skip))
(.seq (.seq (rg [mV 9 0,
lN 10 9,
mV 11 (cI 0)] [0,9,10,11])
(.block 0 (.loop (.scope q1))))
q2)))
def zb1:AFun:=⟨1,[.t 2],zsl z2W z5O,false,false⟩
def zc6 (C:Hd) (gl:GL) (q1 q2:ACode) (v0:AV) (h:Heap) (x:Esc) (K:KT):Prop:=
 pK (oLen v0) fun t1=>
 pK (oBin .gtr t1 (AI 2000)) fun t2=>
 z0j t2 (K .ret ⟨[(2,(AI 2))],h,x⟩)
 (pK (oLen v0) fun t3=>
 NW C gl (.loop (.scope q1)) ⟨[(0,v0),(9,v0),(10,t3),(11,(AI 0))],h,x⟩ (z0u 0 (seqN C gl q2 K)))
theorem E_q07q {C gl q1 q2 v0 h x K}:NW C gl (zsl q1 q2) ⟨enter [v0],h,x⟩ K=zc6 C gl q1 q2 v0 h x K:=by kernel_rfl
theorem e_q07q {C gl v0 h x K}:NW C gl zb1.body ⟨enter [v0],h,x⟩ K=zc6 C gl z2W z5O v0 h x K:=E_q07q
def P_q08d:ACode:=(.seq (rg [uO 1 (.box 0),
mV 2 (cS [])] [1])
(.seq (dr [dF (fA 4 0 none 1) [1],
dF (lD 5 none 4) [4],
dF (bN 6 .add 5 (cS [32])) [5],
dF (fA 7 1 none 1) [1],
dF (lD 8 none 7) [7],
dA (cL 9 z2d [8]) [8] true [] [1],
dF (bN 10 .add 6 9) [6,9],
dF (bN 11 .add 10 (cS [32])) [10],
dF (fA 12 2 none 1) [1],
dA (lD 13 none 12) [12] false [5] [],
dA (cL 14 z2d [13]) [13] true [] [1],
dF (bN 15 .add 11 14) [11,14],
dF (bN 16 .add 15 (cS [32])) [15],
dF (fA 17 3 none 1) [1],
dA (lD 18 none 17) [17] false [5,10] [],
dA (cL 19 z6J [18]) [18] true [] [1],
dF (bN 20 .add 16 19) [16,19],
dF (bN 21 .add 20 (cS [32])) [20],
dF (mV 3 21) [21]] [1,3])
(.seq (.seq (rg [fA 22 3 none 1,
lD 23 none 22] [1,3,23])
(.block 0 (.seq (rg [bN 25 .eql 23 (cI 2),
mV 24 25] [1,3,23,24])
(.cond 24 (.seq (rg [mV 26 3,
fA 27 4 none 1,
lD 28 none 27,
bN 29 .add 26 28,
bN 30 .add 29 (cS [32]),
fA 31 5 none 1,
lD 32 none 31,
bN 33 .add 30 32,
mV 2 33] [2])
.ret)
(.seq (rg [bN 35 .eql 23 (cI 7),
mV 34 35] [1,3,34])
(.cond 34 (.seq (dr [dF (mV 36 3) [3],
dF (fA 37 6 none 1) [1],
dF (lD 38 none 37) [37],
dF (bN 39 .add 36 38) [36,38],
dF (bN 40 .add 39 (cS [32])) [39],
dF (fA 41 7 none 1) [1],
dF (lD 42 none 41) [41],
dA (cL 43 z2d [42]) [42] true [] [2],
dF (bN 44 .add 40 43) [40,43],
dF (mV 2 44) [44]] [2])
.ret)
.skip))))))
(.seq (rg [mV 45 3,
fA 46 4 none 1,
lD 47 none 46,
bN 48 .add 45 47,
mV 2 48] [2])
.ret))))
def zjH:AFun:=⟨1,[.t 2],P_q08d,false,false⟩
def zcE (C:Hd) (gl:GL) (v0:AV) (h:Heap) (x:Esc) (K:KT):Prop:=
 wK (oBox v0 h) fun t1 h2 y3=>
 pK (z0g 0 none t1) fun t4=>
 pK (z0e none t4 h2) fun t5=>
 pK (oBin .add t5 (.p (.str [32]))) fun t6=>
 pK (z0g 1 none t1) fun t7=>
 pK (z0e none t7 h2) fun t8=>
 z1u C z2d [t8] h2 fun t9 h10 y11=>
 (pK (z0e none t4 h10) fun v=>(fun u (g1:Heap) (y1:Esc)=>u=t5∧g1=h10∧y1=[]) v h10 [])∧(pK (oBin .add t6 t9) fun t12=>
 pK (oBin .add t12 (.p (.str [32]))) fun t13=>
 pK (z0g 2 none t1) fun t14=>
 pK (z0e none t14 h10) fun t15=>
 (pK (z0e none t14 h2) fun v=>(fun u (g1:Heap) (y1:Esc)=>u=t15∧g1=h2∧y1=[]) v h2 [])∧(z1u C z2d [t15] h10 fun t16 h17 y18=>
 (pK (z0e none t4 h17) fun v=>(fun u (g1:Heap) (y1:Esc)=>u=t5∧g1=h17∧y1=[]) v h17 [])∧(pK (oBin .add t13 t16) fun t19=>
 pK (oBin .add t19 (.p (.str [32]))) fun t20=>
 pK (z0g 3 none t1) fun t21=>
 pK (z0e none t21 h17) fun t22=>
 (pK (z0e none t21 h2) fun v=>(fun u (g1:Heap) (y1:Esc)=>u=t22∧g1=h2∧y1=[]) v h2 [])∧((pK (z0e none t21 h10) fun v=>(fun u (g1:Heap) (y1:Esc)=>u=t22∧g1=h10∧y1=[]) v h10 [])∧(z1u C z6J [t22] h17 fun t23 h24 y25=>
 (pK (z0e none t4 h24) fun v=>(fun u (g1:Heap) (y1:Esc)=>u=t5∧g1=h24∧y1=[]) v h24 [])∧(pK (oBin .add t20 t23) fun t26=>
 pK (oBin .add t26 (.p (.str [32]))) fun t27=>
 pK (z0g 3 none t1) fun t28=>
 pK (z0e none t28 h24) fun t29=>
 pK (oBin .eql t29 (AI 2)) fun t30=>
 z0j t30 (pK (z0g 4 none t1) fun t31=>
 pK (z0e none t31 h24) fun t32=>
 pK (oBin .add t27 t32) fun t33=>
 pK (oBin .add t33 (.p (.str [32]))) fun t34=>
 pK (z0g 5 none t1) fun t35=>
 pK (z0e none t35 h24) fun t36=>
 pK (oBin .add t34 t36) fun t37=>
 K .ret ⟨[(2,t37)],h24,(y25++(y18++(y11++(y3++x))))⟩)
 (pK (oBin .eql t29 (AI 7)) fun t38=>
 z0j t38 (pK (z0g 6 none t1) fun t39=>
 pK (z0e none t39 h24) fun t40=>
 pK (oBin .add t27 t40) fun t41=>
 pK (oBin .add t41 (.p (.str [32]))) fun t42=>
 pK (z0g 7 none t1) fun t43=>
 pK (z0e none t43 h24) fun t44=>
 z1u C z2d [t44] h24 fun t45 h46 y47=>
 (pK (z0e none t39 h46) fun v=>(fun u (g1:Heap) (y1:Esc)=>u=t40∧g1=h46∧y1=[]) v h46 [])∧(pK (oBin .add t42 t45) fun t48=>
 K .ret ⟨[(2,t48)],h46,(y47++(y25++(y18++(y11++(y3++x)))))⟩))
 (pK (z0g 4 none t1) fun t49=>
 pK (z0e none t49 h24) fun t50=>
 pK (oBin .add t27 t50) fun t51=>
 K .ret ⟨[(2,t51)],h24,(y25++(y18++(y11++(y3++x))))⟩))))))))
theorem e_q08d {C gl v0 h x K}:NW C gl zjH.body ⟨enter [v0],h,x⟩ K=zcE C gl v0 h x K:=by kernel_rfl
def z5E:ACode:=.pr [1,3,4] (.seq (.block 0 (.seq (rg [fA 45 0 none 1,
lD 46 none 45,
cL 47 z3v [46],
uO 48 (.un .not 47),
mV 44 48] [1,3,4,44])
(.cond 44 (.seq (rg [mV 2 (cI 5)] [2])
.ret)
(.seq (rg [fA 50 1 none 1,
lD 51 none 50,
cL 52 z2c [51,(cI 1),(cI 1000000)],
uO 53 (.un .not 52),
mV 54 53,
gD 55 54 false (.faddr 2 none 1),
gD 56 54 false (.load none 55),
gD 57 54 false (.call z9H [56]),
gD 58 54 false (.un .not 57),
uO 59 (.pick 54 cT 58),
mV 49 59] [1,3,4,49])
(.cond 49 (.seq (rg [mV 2 (cI 1)] [2])
.ret)
(.seq (rg [fA 61 3 none 1,
lD 62 none 61,
cL 63 z2c [62,(cI 1),(cI 7)],
uO 64 (.un .not 63),
mV 60 64] [1,3,4,60])
(.cond 60 (.seq (rg [mV 2 (cI 4)] [2])
.ret)
(.seq (rg [mV 66 4,
uO 67 (.un .not 66),
mV 65 67] [1,3,65])
(.cond 65 (.seq (rg [mV 2 (cI 5)] [2])
.ret)
(.seq (rg [fA 69 3 none 1,
lD 70 none 69,
bN 71 .eql 70 (cI 7),
mV 72 71,
gD 73 72 true (.faddr 7 none 1),
gD 74 72 true (.load none 73),
gD 75 72 true (.call z2c [74,(cI 1),(cI 1000000)]),
gD 76 72 true (.un .not 75),
uO 77 (.pick 72 76 cF),
mV 68 77] [1,3,68])
(.cond 68 (.seq (rg [mV 2 (cI 1)] [2])
.ret)
(.seq (rg [lD 79 (some 8) 1,
lD 80 (some 8) 3,
uO 81 (.eqa [2,0,0,0,2,2,2,0] true 79 80),
mV 78 81] [78])
(.cond 78 (.seq (rg [mV 2 (cI 3)] [2])
.ret)
.skip)))))))))))))
(.seq (rg [mV 2 (cI 0)] [2])
.ret))
def z0O (C:Hd) (gl:GL) (v1 v3 v4:AV) (h:Heap) (x:Esc) (K:KT):Prop:=
 pK (z0g 0 none v1) fun t1=>
 pK (z0e none t1 h) fun t2=>
 C z3v [t2] h fun t3 h4 y5=>
 pK (oUn .not t3) fun t6=>
 z0j t6 (K .ret ⟨[(2,(AI 5))],h4,(y5++x)⟩)
 (pK (z0g 1 none v1) fun t7=>
 pK (z0e none t7 h4) fun t8=>
 C z2c [t8,(AI 1),(AI 1000000)] h4 fun t9 h10 y11=>
 pK (oUn .not t9) fun t12=>
 gP t12 false (z0g 2 none v1) h10 fun t13 h14 y15=>
 gP t12 false (z0e none t13 h14) h14 fun t16 h17 y18=>
 gV t12 false h17 (C z9H [t16] h17) fun t19 h20 y21=>
 gP t12 false (oUn .not t19) h20 fun t22 h23 y24=>
 pK (z0y t12 (AB true) t22) fun t25=>
 z0j t25 (K .ret ⟨[(2,(AI 1))],h23,(y24++(y21++(y18++(y15++(y11++(y5++x))))))⟩)
 (pK (z0g 3 none v1) fun t26=>
 pK (z0e none t26 h23) fun t27=>
 C z2c [t27,(AI 1),(AI 7)] h23 fun t28 h29 y30=>
 pK (oUn .not t28) fun t31=>
 z0j t31 (K .ret ⟨[(2,(AI 4))],h29,(y30++(y24++(y21++(y18++(y15++(y11++(y5++x)))))))⟩)
 (pK (oUn .not v4) fun t32=>
 z0j t32 (K .ret ⟨[(2,(AI 5))],h29,(y30++(y24++(y21++(y18++(y15++(y11++(y5++x)))))))⟩)
 (pK (z0g 3 none v1) fun t33=>
 pK (z0e none t33 h29) fun t34=>
 pK (oBin .eql t34 (AI 7)) fun t35=>
 gP t35 true (z0g 7 none v1) h29 fun t36 h37 y38=>
 gP t35 true (z0e none t36 h37) h37 fun t39 h40 y41=>
 gV t35 true h40 (C z2c [t39,(AI 1),(AI 1000000)] h40) fun t42 h43 y44=>
 gP t35 true (oUn .not t42) h43 fun t45 h46 y47=>
 pK (z0y t35 t45 (AB false)) fun t48=>
 z0j t48 (K .ret ⟨[(2,(AI 1))],h46,(y47++(y44++(y41++(y38++(y30++(y24++(y21++(y18++(y15++(y11++(y5++x)))))))))))⟩)
 (pK (z0e (some 8) v1 h46) fun t49=>
 pK (z0e (some 8) v3 h46) fun t50=>
 pK (oEqa [2,0,0,0,2,2,2,0] true t49 t50) fun t51=>
 z0j t51 (K .ret ⟨[(2,(AI 3))],h46,(y47++(y44++(y41++(y38++(y30++(y24++(y21++(y18++(y15++(y11++(y5++x)))))))))))⟩)
 (K .ret ⟨[(2,(AI 0))],h46,(y47++(y44++(y41++(y38++(y30++(y24++(y21++(y18++(y15++(y11++(y5++x)))))))))))⟩))))))
theorem zlN {C gl e h x K}:NW C gl z5E ⟨e,h,x⟩ K=z0O C gl (aget e 1) (aget e 3) (aget e 4) h x K:=by kernel_rfl
def zsa (q1:ACode):ACode:=(.seq (rg [uO 1 (.box 0),
mV 2 (cI 0)] [1])
(.seq (rg [fA 5 0 none 1,
lD 6 none 5,
fA 7 1 none 1,
lD 8 none 7,
fA 9 2 none 1,
lD 10 none 9,
fA 11 3 none 1,
lD 12 none 11,
uO 13 (.build [.p (.str []),.p (.int .i64 0),.p (.int .i64 0),.p (.int .i64 0),.p (.str []),.p (.str []),.p (.str []),.p (.int .i64 0)] [(0,1,6),(1,1,8),(2,1,10),(3,1,12)]),
uO 3 (.alloc [.p (.str []),.p (.int .i64 0),.p (.int .i64 0),.p (.int .i64 0),.p (.str []),.p (.str []),.p (.str []),.p (.int .i64 0)]),
wO (.store (some 8) 3 13)] [1,3])
(.seq (rg [mV 4 cT] [1,3])
(.seq (.seq (rg [fA 14 3 none 1,
lD 15 none 14,
bN 16 .eql 15 (cI 7)] [1,3,16])
(.cond 16 (dr [dF (fA 17 6 none 1) [1],
dF (lD 18 none 17) [17],
dF (fA 19 7 none 1) [1],
dF (lD 20 none 19) [19],
dF (fA 21 6 none 1) [1],
dF (lD 22 none 21) [21],
dA (cL 23 z3v [22]) [22] true [] [1,3],
dF (fA 24 6 none 3) [3],
dA (wO (.store none 24 18)) [24,18] true [] [3],
dF (fA 25 7 none 3) [3],
dT (wO (.store none 25 20)) [25,20],
dF (mV 4 23) [23]] [1,3,4])
(.seq (dr [dF (fA 26 4 none 1) [1],
dF (lD 27 none 26) [26],
dF (fA 28 4 none 1) [1],
dF (lD 29 none 28) [28],
dA (cL 30 z3v [29]) [29] true [] [1],
dF (fA 31 4 none 3) [3],
dT (wO (.store none 31 27)) [31,27],
dF (mV 4 30) [30]] [1,3,4])
(.seq (rg [fA 32 3 none 1,
lD 33 none 32,
bN 34 .eql 33 (cI 2)] [1,3,4,34])
(.cond 34 (dr [dF (fA 35 5 none 1) [1],
dF (lD 36 none 35) [35],
dF (mV 37 4) [4],
dF (mV 38 37) [37],
dF (gD 39 38 true (.faddr 5 none 1)) [1,38],
dF (gD 40 38 true (.load none 39)) [39,38],
dA (gD 41 38 true (.call z3v [40])) [40,38] true [] [1],
dF (uO 42 (.pick 38 41 cF)) [38,41],
dF (fA 43 5 none 3) [3],
dT (wO (.store none 43 36)) [43,36],
dF (mV 4 42) [42]] [1,3,4])
.skip)))))
q1))))
def zjr:AFun:=⟨1,[.t 2],zsa z5E,false,false⟩
def z66 (C:Hd) (gl:GL) (q1:ACode) (v0:AV) (h:Heap) (x:Esc) (K:KT):Prop:=
 wK (oBox v0 h) fun t1 h2 y3=>
 pK (z0g 0 none t1) fun t4=>
 pK (z0e none t4 h2) fun t5=>
 pK (z0g 1 none t1) fun t6=>
 pK (z0e none t6 h2) fun t7=>
 pK (z0g 2 none t1) fun t8=>
 pK (z0e none t8 h2) fun t9=>
 pK (z0g 3 none t1) fun t10=>
 pK (z0e none t10 h2) fun t11=>
 pK (z2q [.p (.str []),.p (.int .i64 0),.p (.int .i64 0),.p (.int .i64 0),.p (.str []),.p (.str []),.p (.str []),.p (.int .i64 0)] [(0,1,t5),(1,1,t7),(2,1,t9),(3,1,t11)]) fun t12=>
 alK [.p (.str []),.p (.int .i64 0),.p (.int .i64 0),.p (.int .i64 0),.p (.str []),.p (.str []),.p (.str []),.p (.int .i64 0)] h2 fun t13 h14 y15=>
 wK (z0n (some 8) t13 t12 h14) fun t16 h17 y18=>
 pK (z0g 3 none t1) fun t19=>
 pK (z0e none t19 h17) fun t20=>
 pK (oBin .eql t20 (AI 7)) fun t21=>
 z0j t21 (pK (z0g 6 none t1) fun t22=>
 pK (z0e none t22 h17) fun t23=>
 pK (z0g 7 none t1) fun t24=>
 pK (z0e none t24 h17) fun t25=>
 pK (z0g 6 none t1) fun t26=>
 pK (z0e none t26 h17) fun t27=>
 z1u C z3v [t27] h17 fun t28 h29 y30=>
 (pK (z0e none t22 h29) fun v=>(fun u (g1:Heap) (y1:Esc)=>u=t23∧g1=h29∧y1=[]) v h29 [])∧((pK (z0e none t24 h29) fun v=>(fun u (g1:Heap) (y1:Esc)=>u=t25∧g1=h29∧y1=[]) v h29 [])∧(pK (z0g 6 none t13) fun t31=>
 wK (z0n none t31 t23 h29) fun t32 h33 y34=>
 (pK (z0e none t24 h33) fun v=>(fun u (g1:Heap) (y1:Esc)=>u=t25∧g1=h33∧y1=[]) v h33 [])∧(pK (z0g 7 none t13) fun t35=>
 wK (z0n none t35 t25 h33) fun t36 h37 y38=>
 NW C gl q1 ⟨[(1,t1),(3,t13),(4,t28)],h37,(y38++(y34++(y30++(y18++(y15++(y3++x))))))⟩ K))))
 (pK (z0g 4 none t1) fun t39=>
 pK (z0e none t39 h17) fun t40=>
 pK (z0g 4 none t1) fun t41=>
 pK (z0e none t41 h17) fun t42=>
 z1u C z3v [t42] h17 fun t43 h44 y45=>
 (pK (z0e none t39 h44) fun v=>(fun u (g1:Heap) (y1:Esc)=>u=t40∧g1=h44∧y1=[]) v h44 [])∧(pK (z0g 4 none t13) fun t46=>
 wK (z0n none t46 t40 h44) fun t47 h48 y49=>
 pK (z0g 3 none t1) fun t50=>
 pK (z0e none t50 h48) fun t51=>
 pK (oBin .eql t51 (AI 2)) fun t52=>
 z0j t52 (pK (z0g 5 none t1) fun t53=>
 pK (z0e none t53 h48) fun t54=>
 gP t43 true (z0g 5 none t1) h48 fun t55 h56 y57=>
 gP t43 true (z0e none t55 h56) h56 fun t58 h59 y60=>
 gV t43 true h59 (z1u C z3v [t58] h59) fun t61 h62 y63=>
 (pK (z0e none t53 h62) fun v=>(fun u (g1:Heap) (y1:Esc)=>u=t54∧g1=h62∧y1=[]) v h62 [])∧(pK (z0y t43 t61 (AB false)) fun t64=>
 pK (z0g 5 none t13) fun t65=>
 wK (z0n none t65 t54 h62) fun t66 h67 y68=>
 NW C gl q1 ⟨[(1,t1),(3,t13),(4,t64)],h67,(y68++(y63++(y60++(y57++(y49++(y45++(y18++(y15++(y3++x)))))))))⟩ K))
 (NW C gl q1 ⟨[(1,t1),(3,t13),(4,t43),(34,t52)],h48,(y49++(y45++(y18++(y15++(y3++x)))))⟩ K)))
theorem E_q03z {C gl q1 v0 h x K}:NW C gl (zsa q1) ⟨enter [v0],h,x⟩ K=z66 C gl q1 v0 h x K:=by kernel_rfl
theorem e_q03z {C gl v0 h x K}:NW C gl zjr.body ⟨enter [v0],h,x⟩ K=z66 C gl z5E v0 h x K:=E_q03z
def P_q05h:ACode:=(.seq (rg [mV 4 cF] [0,1])
(.seq (rg [mV 5 0,
mV 6 1,
cL 7 z9P [5,6],
bN 8 .geq 7 (cI 0),
mV 4 8] [4])
.ret))
def zj7:AFun:=⟨2,[.t 4],P_q05h,true,false⟩
def zkO (C:Hd) (gl:GL) (v0 v1:AV) (h:Heap) (x:Esc) (K:KT):Prop:=
 C z9P [v0,v1] h fun t1 h2 y3=>
 pK (oBin .geq t1 (AI 0)) fun t4=>
 K .ret ⟨[(4,t4)],h2,(y3++x)⟩
theorem e_q05h {C gl v0 v1 h x K}:NW C gl zj7.body ⟨enter [v0,v1],h,x⟩ K=zkO C gl v0 v1 h x K:=by kernel_rfl
def P_q03w:ACode:=(.seq (rg [uO 2 (.box 0),
mV 3 cF] [1,2])
(.seq (rg [lD 4 (some 8) 2,
lD 5 (some 8) 1,
cL 6 z9M [4,5],
mV 3 6] [3])
.ret))
def zjo:AFun:=⟨2,[.t 3],P_q03w,false,false⟩
def zkI (C:Hd) (gl:GL) (v0 v1:AV) (h:Heap) (x:Esc) (K:KT):Prop:=
 wK (oBox v0 h) fun t1 h2 y3=>
 pK (z0e (some 8) t1 h2) fun t4=>
 pK (z0e (some 8) v1 h2) fun t5=>
 C z9M [t4,t5] h2 fun t6 h7 y8=>
 K .ret ⟨[(3,t6)],h7,(y8++(y3++x))⟩
theorem e_q03w {C gl v0 v1 h x K}:NW C gl zjo.body ⟨enter [v0,v1],h,x⟩ K=zkI C gl v0 v1 h x K:=by kernel_rfl
def P_q056:ACode:=(.seq (rg [uO 2 (.box 0),
uO 3 (.box 1),
mV 4 cF] [2,3])
(.seq (rg [fA 5 0 none 2,
lD 6 none 5,
fA 7 0 none 3,
lD 8 none 7,
bN 9 .eql 6 8,
mV 10 9,
gD 11 10 true (.faddr 1 none 2),
gD 12 10 true (.load none 11),
gD 13 10 true (.faddr 1 none 3),
gD 14 10 true (.load none 13),
gD 15 10 true (.bin .eql 12 14),
uO 16 (.pick 10 15 cF),
mV 4 16] [4])
.ret))
def zj5:AFun:=⟨2,[.t 4],P_q056,false,false⟩
def zf9 (C:Hd) (gl:GL) (v0 v1:AV) (h:Heap) (x:Esc) (K:KT):Prop:=
 wK (oBox v0 h) fun t1 h2 y3=>
 wK (oBox v1 h2) fun t4 h5 y6=>
 pK (z0g 0 none t1) fun t7=>
 pK (z0e none t7 h5) fun t8=>
 pK (z0g 0 none t4) fun t9=>
 pK (z0e none t9 h5) fun t10=>
 pK (oBin .eql t8 t10) fun t11=>
 gP t11 true (z0g 1 none t1) h5 fun t12 h13 y14=>
 gP t11 true (z0e none t12 h13) h13 fun t15 h16 y17=>
 gP t11 true (z0g 1 none t4) h16 fun t18 h19 y20=>
 gP t11 true (z0e none t18 h19) h19 fun t21 h22 y23=>
 gP t11 true (oBin .eql t15 t21) h22 fun t24 h25 y26=>
 pK (z0y t11 t24 (AB false)) fun t27=>
 K .ret ⟨[(4,t27)],h25,(y26++(y23++(y20++(y17++(y14++(y6++(y3++x)))))))⟩
theorem e_q056 {C gl v0 v1 h x K}:NW C gl zj5.body ⟨enter [v0,v1],h,x⟩ K=zf9 C gl v0 v1 h x K:=by kernel_rfl
def P_q04s:ACode:=(.seq (rg [mV 0 (.c (.p (.sl none [])))] [])
(.seq (rg [uO 1 (.bsl false none 8 (.str []) [(0,(cS [])),(1,(cS [101,110,116,101,114])),(2,(cS [115,116,97,114,116])),(3,(cS [112,97,115,115])),(4,(cS [102,97,105,108])),(5,(cS [114,101,112,97,105,114])),(6,(cS [115,99,114,97,112])),(7,(cS [117,110,100,111]))]),
mV 0 1] [0])
.ret))
def zj2:AFun:=⟨0,[.t 0],P_q04s,false,false⟩
def zkM (C:Hd) (gl:GL) (h:Heap) (x:Esc) (K:KT):Prop:=
 wK (oBsl false none 8 (.str []) [(0,(.p (.str []))),(1,(.p (.str [101,110,116,101,114]))),(2,(.p (.str [115,116,97,114,116]))),(3,(.p (.str [112,97,115,115]))),(4,(.p (.str [102,97,105,108]))),(5,(.p (.str [114,101,112,97,105,114]))),(6,(.p (.str [115,99,114,97,112]))),(7,(.p (.str [117,110,100,111])))] h) fun t1 h2 y3=>
 K .ret ⟨[(0,t1)],h2,(y3++x)⟩
theorem e_q04s {C gl h x K}:NW C gl zj2.body ⟨enter [],h,x⟩ K=zkM C gl h x K:=by kernel_rfl
def P_q07v:ACode:=(.seq (rg [mV 3 cF] [0,1])
(.seq (rg [mV 7 0,
cL 8 z9V [7],
mV 6 8,
eX 9 6 0,
eX 10 6 1,
uO 4 (.alloc [.p (.str []),.p (.int .i64 0),.p (.int .i64 0),.p (.int .i64 0),.p (.str []),.p (.str []),.p (.str []),.p (.int .i64 0)]),
wO (.store (some 8) 4 9),
mV 5 10] [1,4,5])
(.seq (rg [lD 11 none 1,
lD 12 (some 8) 4,
uO 13 (.bsl false (some 8) 1 (.agg [.str [],.int .i64 0,.int .i64 0,.int .i64 0,.str [],.str [],.str [],.int .i64 0]) [(0,12)]),
uO 14 (.app (some 8) 11 13),
wO (.store none 1 14)] [5])
(.seq (rg [mV 15 5,
mV 3 15] [3])
.ret))))
def zjE:AFun:=⟨2,[.t 3],P_q07v,false,false⟩
def zkR (C:Hd) (gl:GL) (v0 v1:AV) (h:Heap) (x:Esc) (K:KT):Prop:=
 C z9V [v0] h fun t1 h2 y3=>
 pK (oExt t1 0) fun t4=>
 pK (oExt t1 1) fun t5=>
 alK [.p (.str []),.p (.int .i64 0),.p (.int .i64 0),.p (.int .i64 0),.p (.str []),.p (.str []),.p (.str []),.p (.int .i64 0)] h2 fun t6 h7 y8=>
 wK (z0n (some 8) t6 t4 h7) fun t9 h10 y11=>
 pK (z0e none v1 h10) fun t12=>
 pK (z0e (some 8) t6 h10) fun t13=>
 wK (oBsl false (some 8) 1 (.agg [.str [],.int .i64 0,.int .i64 0,.int .i64 0,.str [],.str [],.str [],.int .i64 0]) [(0,t13)] h10) fun t14 h15 y16=>
 wK (oApp (some 8) t12 t14 h15) fun t17 h18 y19=>
 wK (z0n none v1 t17 h18) fun t20 h21 y22=>
 K .ret ⟨[(3,t5)],h21,(y22++(y19++(y16++(y11++(y8++(y3++x))))))⟩
theorem e_q07v {C gl v0 v1 h x K}:NW C gl zjE.body ⟨enter [v0,v1],h,x⟩ K=zkR C gl v0 v1 h x K:=by kernel_rfl
def z5R:ACode:=.pr [2,6,7] (.seq (rg [lD 101 (some 8) 7,
mV 102 6,
wO (.store (some 8) 2 101),
mV 3 102] [2,3])
.ret)
def zcF (C:Hd) (gl:GL) (v2 v6 v7:AV) (h:Heap) (x:Esc) (K:KT):Prop:=
 pK (z0e (some 8) v7 h) fun t1=>
 wK (z0n (some 8) v2 t1 h) fun t2 h3 y4=>
 K .ret ⟨[(2,v2),(3,v6)],h3,(y4++x)⟩
theorem zmq {C gl e h x K}:NW C gl z5R ⟨e,h,x⟩ K=zcF C gl (aget e 2) (aget e 6) (aget e 7) h x K:=by kernel_rfl
def zso (q1:ACode):ACode:=(.seq (rg [uO 2 (.alloc [.p (.str []),.p (.int .i64 0),.p (.int .i64 0),.p (.int .i64 0),.p (.str []),.p (.str []),.p (.str []),.p (.int .i64 0)]),
mV 3 cF] [0,2])
(.seq (rg [mV 9 0,
cL 10 z47 [9,(cS [32])],
mV 4 10] [2,4])
(.seq (.seq (rg [mV 11 4,
lN 12 11,
bN 13 .lss 12 (cI 5),
mV 14 13,
gD 15 14 false (.mv 4),
gD 16 14 false (.call z45 [15,(cS [])]),
uO 17 (.pick 14 cT 16)] [2,4,17])
(.cond 17 (.seq (rg [uO 18 (.build [.p (.str []),.p (.int .i64 0),.p (.int .i64 0),.p (.int .i64 0),.p (.str []),.p (.str []),.p (.str []),.p (.int .i64 0)] []),
wO (.store (some 8) 2 18),
mV 3 cF] [2,3])
.ret)
.skip))
(.seq (rg [mV 20 4,
uO 21 (.slice none 20 (some (cI 1)) (some (cI 3)) none),
cL 22 z96 [21,(cI 15)],
mV 19 22,
eX 23 19 0,
eX 24 19 1,
mV 5 23,
mV 6 24] [2,4,5,6])
(.seq (dr [dF (mV 25 4) [4],
dF (iA 26 none 25 (cI 0)) [25],
dF (lD 27 none 26) [26],
dF (mV 28 4) [4],
dF (iA 29 none 28 (cI 3)) [28],
dF (lD 30 none 29) [29],
dF (cL 31 z8l [30]) [30],
dF (uO 32 (.build [.p (.str []),.p (.int .i64 0),.p (.int .i64 0),.p (.int .i64 0),.p (.str []),.p (.str []),.p (.str []),.p (.int .i64 0)] [(0,1,27),(3,1,31)])) [27,31],
dA (uO 7 (.alloc [.p (.str []),.p (.int .i64 0),.p (.int .i64 0),.p (.int .i64 0),.p (.str []),.p (.str []),.p (.str []),.p (.int .i64 0)])) [] true [] [1,2,4,5,6],
dT (wO (.store (some 8) 7 32)) [7,32]] [2,4,5,6,7])
(.seq (.seq (rg [mV 33 6,
uO 34 (.un .not 33),
mV 35 34,
gD 36 35 false (.faddr 3 none 7),
gD 37 35 false (.load none 36),
gD 38 35 false (.bin .eql 37 (cI 0)),
uO 39 (.pick 35 cT 38)] [2,4,5,6,7,39])
(.cond 39 (.seq (rg [uO 40 (.build [.p (.str []),.p (.int .i64 0),.p (.int .i64 0),.p (.int .i64 0),.p (.str []),.p (.str []),.p (.str []),.p (.int .i64 0)] []),
wO (.store (some 8) 2 40),
mV 3 cF] [2,3])
.ret)
.skip))
(.seq (dr [dF (mV 41 5) [5],
dF (iA 42 none 41 (cI 0)) [41],
dF (lD 43 none 42) [42],
dF (mV 44 5) [5],
dF (iA 45 none 44 (cI 1)) [44],
dF (lD 46 none 45) [45],
dF (fA 47 1 none 7) [7],
dA (wO (.store none 47 43)) [47,43] true [] [4,5],
dF (fA 48 2 none 7) [7],
dT (wO (.store none 48 46)) [48,46]] [2,4,6,7])
(.seq (rg [fA 49 3 none 7,
lD 50 none 49,
bN 51 .eql 50 (cI 2),
mV 52 51,
gD 53 52 false (.faddr 3 none 7),
gD 54 52 false (.load none 53),
gD 55 52 false (.bin .eql 54 (cI 7)),
uO 56 (.pick 52 cT 55),
mV 8 56] [2,4,6,7,8])
(.seq (.block 0 (.seq (rg [mV 62 8,
mV 63 4,
lN 64 63,
bN 65 .eql 64 (cI 6),
uO 66 (.eqa [] true 62 65),
mV 67 66,
gD 68 67 false (.mv 4),
gD 69 67 false (.len 68),
gD 70 67 false (.bin .gtr 69 (cI 6)),
uO 71 (.pick 67 cT 70),
mV 61 71] [2,4,6,7,61])
(.cond 61 (.seq (rg [uO 72 (.build [.p (.str []),.p (.int .i64 0),.p (.int .i64 0),.p (.int .i64 0),.p (.str []),.p (.str []),.p (.str []),.p (.int .i64 0)] []),
wO (.store (some 8) 2 72),
mV 3 cF] [2,3])
.ret)
(.seq (rg [fA 74 3 none 7,
lD 75 none 74,
bN 76 .eql 75 (cI 2),
mV 73 76] [2,4,6,7,73])
(.cond 73 (dr [dF (mV 77 4) [4],
dF (iA 78 none 77 (cI 4)) [77],
dF (lD 79 none 78) [78],
dF (mV 80 4) [4],
dF (iA 81 none 80 (cI 5)) [80],
dF (lD 82 none 81) [81],
dF (fA 83 4 none 7) [7],
dA (wO (.store none 83 79)) [83,79] true [] [4,5],
dF (fA 84 5 none 7) [7],
dT (wO (.store none 84 82)) [84,82]] [2,6,7])
(.seq (rg [fA 86 3 none 7,
lD 87 none 86,
bN 88 .eql 87 (cI 7),
mV 85 88] [2,4,6,7,85])
(.cond 85 (.seq (rg [mV 89 4,
iA 90 none 89 (cI 4),
lD 91 none 90,
fA 92 6 none 7,
wO (.store none 92 91)] [2,4,7])
(rg [mV 94 4,
iA 95 none 94 (cI 5),
lD 96 none 95,
cL 97 z6C [96,(cI 15)],
mV 93 97,
eX 98 93 0,
eX 99 93 1,
fA 100 7 none 7,
wO (.store none 100 98),
mV 6 99] [2,6,7]))
(rg [mV 57 4,
iA 58 none 57 (cI 4),
lD 59 none 58,
fA 60 4 none 7,
wO (.store none 60 59)] [2,6,7]))))))))
q1)))))))))
def zjI:AFun:=⟨1,[.cell 2 (some 8),.t 3],zso z5R,false,false⟩
def z2p (C:Hd) (gl:GL) (q1:ACode) (v0:AV) (h:Heap) (x:Esc) (K:KT):Prop:=
 alK [.p (.str []),.p (.int .i64 0),.p (.int .i64 0),.p (.int .i64 0),.p (.str []),.p (.str []),.p (.str []),.p (.int .i64 0)] h fun t1 h2 y3=>
 C z47 [v0,(.p (.str [32]))] h2 fun t4 h5 y6=>
 pK (oLen t4) fun t7=>
 pK (oBin .lss t7 (AI 5)) fun t8=>
 gM t8 false t4 h5 fun t9 h10 y11=>
 gV t8 false h10 (C z45 [t9,(.p (.str []))] h10) fun t12 h13 y14=>
 pK (z0y t8 (AB true) t12) fun t15=>
 z0j t15 (pK (z2q [.p (.str []),.p (.int .i64 0),.p (.int .i64 0),.p (.int .i64 0),.p (.str []),.p (.str []),.p (.str []),.p (.int .i64 0)] []) fun t16=>
 wK (z0n (some 8) t1 t16 h13) fun t17 h18 y19=>
 K .ret ⟨[(2,t1),(3,(AB false))],h18,(y19++(y14++(y11++(y6++(y3++x)))))⟩)
 (pK (z6O none t4 (some (AI 1)) (some (AI 3)) none h13) fun t20=>
 C z96 [t20,(AI 15)] h13 fun t21 h22 y23=>
 pK (oExt t21 0) fun t24=>
 pK (oExt t21 1) fun t25=>
 pK (z0p none t4 (AI 0) h22) fun t26=>
 pK (z0e none t26 h22) fun t27=>
 pK (z0p none t4 (AI 3) h22) fun t28=>
 pK (z0e none t28 h22) fun t29=>
 z1u C z8l [t29] h22 fun t30 h31 y32=>
 (h31=h22∧y32=[])∧(pK (z2q [.p (.str []),.p (.int .i64 0),.p (.int .i64 0),.p (.int .i64 0),.p (.str []),.p (.str []),.p (.str []),.p (.int .i64 0)] [(0,1,t27),(3,1,t30)]) fun t33=>
 alK [.p (.str []),.p (.int .i64 0),.p (.int .i64 0),.p (.int .i64 0),.p (.str []),.p (.str []),.p (.str []),.p (.int .i64 0)] h31 fun t34 h35 y36=>
 (pK (z0p none t4 (AI 0) h35) fun v=>(fun u (g1:Heap) (y1:Esc)=>u=t26∧g1=h35∧y1=[]) v h35 [])∧((pK (z0e none t26 h35) fun v=>(fun u (g1:Heap) (y1:Esc)=>u=t27∧g1=h35∧y1=[]) v h35 [])∧((pK (z0p none t4 (AI 3) h35) fun v=>(fun u (g1:Heap) (y1:Esc)=>u=t28∧g1=h35∧y1=[]) v h35 [])∧((pK (z0e none t28 h35) fun v=>(fun u (g1:Heap) (y1:Esc)=>u=t29∧g1=h35∧y1=[]) v h35 [])∧((z1u C z8l [t29] h35 (fun u (g1:Heap) (y1:Esc)=>u=t30∧g1=h35∧y1=[]))∧(wK (z0n (some 8) t34 t33 h35) fun t37 h38 y39=>
 pK (oUn .not t25) fun t40=>
 gP t40 false (z0g 3 none t34) h38 fun t41 h42 y43=>
 gP t40 false (z0e none t41 h42) h42 fun t44 h45 y46=>
 gP t40 false (oBin .eql t44 (AI 0)) h45 fun t47 h48 y49=>
 pK (z0y t40 (AB true) t47) fun t50=>
 z0j t50 (pK (z2q [.p (.str []),.p (.int .i64 0),.p (.int .i64 0),.p (.int .i64 0),.p (.str []),.p (.str []),.p (.str []),.p (.int .i64 0)] []) fun t51=>
 wK (z0n (some 8) t1 t51 h48) fun t52 h53 y54=>
 K .ret ⟨[(2,t1),(3,(AB false))],h53,(y54++(y49++(y46++(y43++(y39++(y36++(y32++(y23++(y14++(y11++(y6++(y3++x))))))))))))⟩)
 (pK (z0p none t24 (AI 0) h48) fun t55=>
 pK (z0e none t55 h48) fun t56=>
 pK (z0p none t24 (AI 1) h48) fun t57=>
 pK (z0e none t57 h48) fun t58=>
 pK (z0g 1 none t34) fun t59=>
 wK (z0n none t59 t56 h48) fun t60 h61 y62=>
 (pK (z0p none t24 (AI 1) h61) fun v=>(fun u (g1:Heap) (y1:Esc)=>u=t57∧g1=h61∧y1=[]) v h61 [])∧((pK (z0e none t57 h61) fun v=>(fun u (g1:Heap) (y1:Esc)=>u=t58∧g1=h61∧y1=[]) v h61 [])∧(pK (z0g 2 none t34) fun t63=>
 wK (z0n none t63 t58 h61) fun t64 h65 y66=>
 pK (z0g 3 none t34) fun t67=>
 pK (z0e none t67 h65) fun t68=>
 pK (oBin .eql t68 (AI 2)) fun t69=>
 gP t69 false (z0g 3 none t34) h65 fun t70 h71 y72=>
 gP t69 false (z0e none t70 h71) h71 fun t73 h74 y75=>
 gP t69 false (oBin .eql t73 (AI 7)) h74 fun t76 h77 y78=>
 pK (z0y t69 (AB true) t76) fun t79=>
 pK (oLen t4) fun t80=>
 pK (oBin .eql t80 (AI 6)) fun t81=>
 pK (oEqa [] true t79 t81) fun t82=>
 gM t82 false t4 h77 fun t83 h84 y85=>
 gP t82 false (oLen t83) h84 fun t86 h87 y88=>
 gP t82 false (oBin .gtr t86 (AI 6)) h87 fun t89 h90 y91=>
 pK (z0y t82 (AB true) t89) fun t92=>
 z0j t92 (pK (z2q [.p (.str []),.p (.int .i64 0),.p (.int .i64 0),.p (.int .i64 0),.p (.str []),.p (.str []),.p (.str []),.p (.int .i64 0)] []) fun t93=>
 wK (z0n (some 8) t1 t93 h90) fun t94 h95 y96=>
 K .ret ⟨[(2,t1),(3,(AB false))],h95,(y96++(y91++(y88++(y85++(y78++(y75++(y72++(y66++(y62++(y49++(y46++(y43++(y39++(y36++(y32++(y23++(y14++(y11++(y6++(y3++x))))))))))))))))))))⟩)
 (pK (z0g 3 none t34) fun t97=>
 pK (z0e none t97 h90) fun t98=>
 pK (oBin .eql t98 (AI 2)) fun t99=>
 z0j t99 (pK (z0p none t4 (AI 4) h90) fun t100=>
 pK (z0e none t100 h90) fun t101=>
 pK (z0p none t4 (AI 5) h90) fun t102=>
 pK (z0e none t102 h90) fun t103=>
 pK (z0g 4 none t34) fun t104=>
 wK (z0n none t104 t101 h90) fun t105 h106 y107=>
 (pK (z0p none t4 (AI 5) h106) fun v=>(fun u (g1:Heap) (y1:Esc)=>u=t102∧g1=h106∧y1=[]) v h106 [])∧((pK (z0e none t102 h106) fun v=>(fun u (g1:Heap) (y1:Esc)=>u=t103∧g1=h106∧y1=[]) v h106 [])∧(pK (z0g 5 none t34) fun t108=>
 wK (z0n none t108 t103 h106) fun t109 h110 y111=>
 NW C gl q1 ⟨[(2,t1),(6,t25),(7,t34)],h110,(y111++(y107++(y91++(y88++(y85++(y78++(y75++(y72++(y66++(y62++(y49++(y46++(y43++(y39++(y36++(y32++(y23++(y14++(y11++(y6++(y3++x)))))))))))))))))))))⟩ K)))
 (pK (z0g 3 none t34) fun t112=>
 pK (z0e none t112 h90) fun t113=>
 pK (oBin .eql t113 (AI 7)) fun t114=>
 z0j t114 (pK (z0p none t4 (AI 4) h90) fun t115=>
 pK (z0e none t115 h90) fun t116=>
 pK (z0g 6 none t34) fun t117=>
 wK (z0n none t117 t116 h90) fun t118 h119 y120=>
 pK (z0p none t4 (AI 5) h119) fun t121=>
 pK (z0e none t121 h119) fun t122=>
 C z6C [t122,(AI 15)] h119 fun t123 h124 y125=>
 pK (oExt t123 0) fun t126=>
 pK (oExt t123 1) fun t127=>
 pK (z0g 7 none t34) fun t128=>
 wK (z0n none t128 t126 h124) fun t129 h130 y131=>
 NW C gl q1 ⟨[(2,t1),(6,t127),(7,t34)],h130,(y131++(y125++(y120++(y91++(y88++(y85++(y78++(y75++(y72++(y66++(y62++(y49++(y46++(y43++(y39++(y36++(y32++(y23++(y14++(y11++(y6++(y3++x))))))))))))))))))))))⟩ K)
 (pK (z0p none t4 (AI 4) h90) fun t132=>
 pK (z0e none t132 h90) fun t133=>
 pK (z0g 4 none t34) fun t134=>
 wK (z0n none t134 t133 h90) fun t135 h136 y137=>
 NW C gl q1 ⟨[(2,t1),(6,t25),(7,t34)],h136,(y137++(y91++(y88++(y85++(y78++(y75++(y72++(y66++(y62++(y49++(y46++(y43++(y39++(y36++(y32++(y23++(y14++(y11++(y6++(y3++x))))))))))))))))))))⟩ K)))))))))))))
theorem E_q08f {C gl q1 v0 h x K}:NW C gl (zso q1) ⟨enter [v0],h,x⟩ K=z2p C gl q1 v0 h x K:=by kernel_rfl
theorem e_q08f {C gl v0 h x K}:NW C gl zjI.body ⟨enter [v0],h,x⟩ K=z2p C gl z5R v0 h x K:=E_q08f
def P_q03y:ACode:=(.seq (rg [mV 3 cF] [0,1])
(.seq (rg [mV 7 0,
cL 8 z9L [7],
mV 6 8,
eX 9 6 0,
eX 10 6 1,
uO 4 (.alloc [.p (.str []),.p (.int .i64 0),.p (.int .i64 0),.p (.int .i64 0),.p (.str []),.p (.str []),.p (.str []),.p (.int .i64 0)]),
wO (.store (some 8) 4 9),
mV 5 10] [1,4,5])
(.seq (rg [lD 11 none 1,
lD 12 (some 8) 4,
uO 13 (.bsl false (some 8) 1 (.agg [.str [],.int .i64 0,.int .i64 0,.int .i64 0,.str [],.str [],.str [],.int .i64 0]) [(0,12)]),
uO 14 (.app (some 8) 11 13),
wO (.store none 1 14)] [5])
(.seq (rg [mV 15 5,
mV 3 15] [3])
.ret))))
def zjq:AFun:=⟨2,[.t 3],P_q03y,false,false⟩
def zkJ (C:Hd) (gl:GL) (v0 v1:AV) (h:Heap) (x:Esc) (K:KT):Prop:=
 C z9L [v0] h fun t1 h2 y3=>
 pK (oExt t1 0) fun t4=>
 pK (oExt t1 1) fun t5=>
 alK [.p (.str []),.p (.int .i64 0),.p (.int .i64 0),.p (.int .i64 0),.p (.str []),.p (.str []),.p (.str []),.p (.int .i64 0)] h2 fun t6 h7 y8=>
 wK (z0n (some 8) t6 t4 h7) fun t9 h10 y11=>
 pK (z0e none v1 h10) fun t12=>
 pK (z0e (some 8) t6 h10) fun t13=>
 wK (oBsl false (some 8) 1 (.agg [.str [],.int .i64 0,.int .i64 0,.int .i64 0,.str [],.str [],.str [],.int .i64 0]) [(0,t13)] h10) fun t14 h15 y16=>
 wK (oApp (some 8) t12 t14 h15) fun t17 h18 y19=>
 wK (z0n none v1 t17 h18) fun t20 h21 y22=>
 K .ret ⟨[(3,t5)],h21,(y22++(y19++(y16++(y11++(y8++(y3++x))))))⟩
theorem e_q03y {C gl v0 v1 h x K}:NW C gl zjq.body ⟨enter [v0,v1],h,x⟩ K=zkJ C gl v0 v1 h x K:=by kernel_rfl
def P_q04r:ACode:=(.seq (rg [uO 2 (.alloc [.p (.str []),.p (.int .i64 0),.p (.int .i64 0),.p (.int .i64 0),.p (.str []),.p (.str []),.p (.str []),.p (.int .i64 0)]),
mV 3 cF] [0,2])
(.seq (rg [mV 10 0,
cL 11 z9K [10],
mV 9 11,
eX 12 9 0,
eX 13 9 1,
mV 4 12,
mV 5 13] [2,4,5])
(.seq (.seq (rg [mV 14 5,
uO 15 (.un .not 14),
mV 16 15,
gD 17 16 false (.mv 4),
gD 18 16 false (.len 17),
gD 19 16 false (.bin .lss 18 (cI 5)),
uO 20 (.pick 16 cT 19)] [2,4,20])
(.cond 20 (.seq (rg [uO 21 (.build [.p (.str []),.p (.int .i64 0),.p (.int .i64 0),.p (.int .i64 0),.p (.str []),.p (.str []),.p (.str []),.p (.int .i64 0)] []),
wO (.store (some 8) 2 21),
mV 3 cF] [2,3])
.ret)
.skip))
(.seq (rg [mV 23 4,
uO 24 (.slice none 23 (some (cI 1)) (some (cI 3)) none),
cL 25 z9J [24,(cI 15)],
mV 22 25,
eX 26 22 0,
eX 27 22 1,
mV 6 26,
mV 7 27] [2,4,6,7])
(.seq (dr [dF (mV 28 4) [4],
dF (iA 29 none 28 (cI 0)) [28],
dF (lD 30 none 29) [29],
dF (mV 31 6) [6],
dF (iA 32 none 31 (cI 0)) [31],
dF (lD 33 none 32) [32],
dF (mV 34 6) [6],
dF (iA 35 none 34 (cI 1)) [34],
dF (lD 36 none 35) [35],
dF (cL 37 z5o []) [],
dF (mV 38 4) [4],
dF (iA 39 none 38 (cI 3)) [38],
dF (lD 40 none 39) [39],
dF (cL 41 z3w [37,40]) [37,40],
dF (uO 42 (.build [.p (.str []),.p (.int .i64 0),.p (.int .i64 0),.p (.int .i64 0),.p (.str []),.p (.str []),.p (.str []),.p (.int .i64 0)] [(0,1,30),(1,1,33),(2,1,36),(3,1,41)])) [30,33,36,41],
dA (uO 8 (.alloc [.p (.str []),.p (.int .i64 0),.p (.int .i64 0),.p (.int .i64 0),.p (.str []),.p (.str []),.p (.str []),.p (.int .i64 0)])) [] true [] [1,2,4,5,7,8,9,11,12,13],
dT (wO (.store (some 8) 8 42)) [8,42]] [2,4,7,8])
(.seq (.seq (rg [mV 43 7,
uO 44 (.un .not 43),
mV 45 44,
gD 46 45 false (.faddr 3 none 8),
gD 47 45 false (.load none 46),
gD 48 45 false (.bin .lss 47 (cI 1)),
uO 49 (.pick 45 cT 48)] [2,4,8,49])
(.cond 49 (.seq (rg [lD 50 (some 8) 8,
wO (.store (some 8) 2 50),
mV 3 cF] [2,3])
.ret)
.skip))
(.seq (.seq (rg [fA 51 3 none 8,
lD 52 none 51] [2,4,8,52])
(.block 0 (.seq (rg [bN 54 .eql 52 (cI 7),
mV 53 54] [2,4,8,52,53])
(.cond 53 (.seq (.seq (rg [mV 55 4,
lN 56 55,
bN 57 .neq 56 (cI 6)] [2,4,8,57])
(.cond 57 (.seq (rg [lD 58 (some 8) 8,
wO (.store (some 8) 2 58),
mV 3 cF] [2,3])
.ret)
.skip))
(.seq (rg [mV 59 4,
iA 60 none 59 (cI 4),
lD 61 none 60,
fA 62 6 none 8,
wO (.store none 62 61)] [2,4,8])
(.seq (rg [mV 64 4,
iA 65 none 64 (cI 5),
lD 66 none 65,
cL 67 z6G [66,(cI 15)],
mV 63 67,
eX 68 63 0,
eX 69 63 1,
fA 70 7 none 8,
wO (.store none 70 68),
mV 5 69] [2,5,8])
(.seq (rg [lD 71 (some 8) 8,
mV 72 5,
wO (.store (some 8) 2 71),
mV 3 72] [2,3])
.ret))))
(.seq (rg [bN 74 .eql 52 (cI 2),
mV 73 74] [2,4,8,73])
(.cond 73 (.seq (.seq (rg [mV 75 4,
lN 76 75,
bN 77 .neq 76 (cI 6)] [2,4,8,77])
(.cond 77 (.seq (rg [lD 78 (some 8) 8,
wO (.store (some 8) 2 78),
mV 3 cF] [2,3])
.ret)
.skip))
(.seq (dr [dF (mV 79 4) [4],
dF (iA 80 none 79 (cI 4)) [79],
dF (lD 81 none 80) [80],
dF (mV 82 4) [4],
dF (iA 83 none 82 (cI 5)) [82],
dF (lD 84 none 83) [83],
dF (fA 85 4 none 8) [8],
dA (wO (.store none 85 81)) [85,81] true [] [4,5],
dF (fA 86 5 none 8) [8],
dT (wO (.store none 86 84)) [86,84]] [2,8])
(.seq (rg [lD 87 (some 8) 8,
wO (.store (some 8) 2 87),
mV 3 cT] [2,3])
.ret)))
.skip))))))
(.seq (rg [mV 88 4,
iA 89 none 88 (cI 4),
lD 90 none 89,
fA 91 4 none 8,
wO (.store none 91 90)] [2,4,8])
(.seq (rg [lD 92 (some 8) 8,
mV 93 4,
lN 94 93,
bN 95 .eql 94 (cI 5),
wO (.store (some 8) 2 92),
mV 3 95] [2,3])
.ret)))))))))
def zj1:AFun:=⟨1,[.cell 2 (some 8),.t 3],P_q04r,false,false⟩
def z38 (C:Hd) (gl:GL) (v0:AV) (h:Heap) (x:Esc) (K:KT):Prop:=
 alK [.p (.str []),.p (.int .i64 0),.p (.int .i64 0),.p (.int .i64 0),.p (.str []),.p (.str []),.p (.str []),.p (.int .i64 0)] h fun t1 h2 y3=>
 C z9K [v0] h2 fun t4 h5 y6=>
 pK (oExt t4 0) fun t7=>
 pK (oExt t4 1) fun t8=>
 pK (oUn .not t8) fun t9=>
 gM t9 false t7 h5 fun t10 h11 y12=>
 gP t9 false (oLen t10) h11 fun t13 h14 y15=>
 gP t9 false (oBin .lss t13 (AI 5)) h14 fun t16 h17 y18=>
 pK (z0y t9 (AB true) t16) fun t19=>
 z0j t19 (pK (z2q [.p (.str []),.p (.int .i64 0),.p (.int .i64 0),.p (.int .i64 0),.p (.str []),.p (.str []),.p (.str []),.p (.int .i64 0)] []) fun t20=>
 wK (z0n (some 8) t1 t20 h17) fun t21 h22 y23=>
 K .ret ⟨[(2,t1),(3,(AB false))],h22,(y23++(y18++(y15++(y12++(y6++(y3++x))))))⟩)
 (pK (z6O none t7 (some (AI 1)) (some (AI 3)) none h17) fun t24=>
 C z9J [t24,(AI 15)] h17 fun t25 h26 y27=>
 pK (oExt t25 0) fun t28=>
 pK (oExt t25 1) fun t29=>
 pK (z0p none t7 (AI 0) h26) fun t30=>
 pK (z0e none t30 h26) fun t31=>
 pK (z0p none t28 (AI 0) h26) fun t32=>
 pK (z0e none t32 h26) fun t33=>
 pK (z0p none t28 (AI 1) h26) fun t34=>
 pK (z0e none t34 h26) fun t35=>
 z1u C z5o [] h26 fun t36 h37 y38=>
 (h37=h26∧y38=[])∧(pK (z0p none t7 (AI 3) h37) fun t39=>
 pK (z0e none t39 h37) fun t40=>
 z1u C z3w [t36,t40] h37 fun t41 h42 y43=>
 (h42=h37∧y43=[])∧(pK (z2q [.p (.str []),.p (.int .i64 0),.p (.int .i64 0),.p (.int .i64 0),.p (.str []),.p (.str []),.p (.str []),.p (.int .i64 0)] [(0,1,t31),(1,1,t33),(2,1,t35),(3,1,t41)]) fun t44=>
 alK [.p (.str []),.p (.int .i64 0),.p (.int .i64 0),.p (.int .i64 0),.p (.str []),.p (.str []),.p (.str []),.p (.int .i64 0)] h42 fun t45 h46 y47=>
 (pK (z0p none t7 (AI 0) h46) fun v=>(fun u (g1:Heap) (y1:Esc)=>u=t30∧g1=h46∧y1=[]) v h46 [])∧((pK (z0e none t30 h46) fun v=>(fun u (g1:Heap) (y1:Esc)=>u=t31∧g1=h46∧y1=[]) v h46 [])∧((pK (z0p none t28 (AI 0) h46) fun v=>(fun u (g1:Heap) (y1:Esc)=>u=t32∧g1=h46∧y1=[]) v h46 [])∧((pK (z0e none t32 h46) fun v=>(fun u (g1:Heap) (y1:Esc)=>u=t33∧g1=h46∧y1=[]) v h46 [])∧((pK (z0p none t28 (AI 1) h46) fun v=>(fun u (g1:Heap) (y1:Esc)=>u=t34∧g1=h46∧y1=[]) v h46 [])∧((pK (z0e none t34 h46) fun v=>(fun u (g1:Heap) (y1:Esc)=>u=t35∧g1=h46∧y1=[]) v h46 [])∧((z1u C z5o [] h46 (fun u (g1:Heap) (y1:Esc)=>u=t36∧g1=h46∧y1=[]))∧((pK (z0p none t7 (AI 3) h46) fun v=>(fun u (g1:Heap) (y1:Esc)=>u=t39∧g1=h46∧y1=[]) v h46 [])∧((pK (z0e none t39 h46) fun v=>(fun u (g1:Heap) (y1:Esc)=>u=t40∧g1=h46∧y1=[]) v h46 [])∧((z1u C z3w [t36,t40] h46 (fun u (g1:Heap) (y1:Esc)=>u=t41∧g1=h46∧y1=[]))∧(wK (z0n (some 8) t45 t44 h46) fun t48 h49 y50=>
 pK (oUn .not t29) fun t51=>
 gP t51 false (z0g 3 none t45) h49 fun t52 h53 y54=>
 gP t51 false (z0e none t52 h53) h53 fun t55 h56 y57=>
 gP t51 false (oBin .lss t55 (AI 1)) h56 fun t58 h59 y60=>
 pK (z0y t51 (AB true) t58) fun t61=>
 z0j t61 (pK (z0e (some 8) t45 h59) fun t62=>
 wK (z0n (some 8) t1 t62 h59) fun t63 h64 y65=>
 K .ret ⟨[(2,t1),(3,(AB false))],h64,(y65++(y60++(y57++(y54++(y50++(y47++(y43++(y38++(y27++(y18++(y15++(y12++(y6++(y3++x))))))))))))))⟩)
 (pK (z0g 3 none t45) fun t66=>
 pK (z0e none t66 h59) fun t67=>
 pK (oBin .eql t67 (AI 7)) fun t68=>
 z0j t68 (pK (oLen t7) fun t69=>
 pK (oBin .neq t69 (AI 6)) fun t70=>
 z0j t70 (pK (z0e (some 8) t45 h59) fun t71=>
 wK (z0n (some 8) t1 t71 h59) fun t72 h73 y74=>
 K .ret ⟨[(2,t1),(3,(AB false))],h73,(y74++(y60++(y57++(y54++(y50++(y47++(y43++(y38++(y27++(y18++(y15++(y12++(y6++(y3++x))))))))))))))⟩)
 (pK (z0p none t7 (AI 4) h59) fun t75=>
 pK (z0e none t75 h59) fun t76=>
 pK (z0g 6 none t45) fun t77=>
 wK (z0n none t77 t76 h59) fun t78 h79 y80=>
 pK (z0p none t7 (AI 5) h79) fun t81=>
 pK (z0e none t81 h79) fun t82=>
 C z6G [t82,(AI 15)] h79 fun t83 h84 y85=>
 pK (oExt t83 0) fun t86=>
 pK (oExt t83 1) fun t87=>
 pK (z0g 7 none t45) fun t88=>
 wK (z0n none t88 t86 h84) fun t89 h90 y91=>
 pK (z0e (some 8) t45 h90) fun t92=>
 wK (z0n (some 8) t1 t92 h90) fun t93 h94 y95=>
 K .ret ⟨[(2,t1),(3,t87)],h94,(y95++(y91++(y85++(y80++(y60++(y57++(y54++(y50++(y47++(y43++(y38++(y27++(y18++(y15++(y12++(y6++(y3++x)))))))))))))))))⟩))
 (pK (oBin .eql t67 (AI 2)) fun t96=>
 z0j t96 (pK (oLen t7) fun t97=>
 pK (oBin .neq t97 (AI 6)) fun t98=>
 z0j t98 (pK (z0e (some 8) t45 h59) fun t99=>
 wK (z0n (some 8) t1 t99 h59) fun t100 h101 y102=>
 K .ret ⟨[(2,t1),(3,(AB false))],h101,(y102++(y60++(y57++(y54++(y50++(y47++(y43++(y38++(y27++(y18++(y15++(y12++(y6++(y3++x))))))))))))))⟩)
 (pK (z0p none t7 (AI 4) h59) fun t103=>
 pK (z0e none t103 h59) fun t104=>
 pK (z0p none t7 (AI 5) h59) fun t105=>
 pK (z0e none t105 h59) fun t106=>
 pK (z0g 4 none t45) fun t107=>
 wK (z0n none t107 t104 h59) fun t108 h109 y110=>
 (pK (z0p none t7 (AI 5) h109) fun v=>(fun u (g1:Heap) (y1:Esc)=>u=t105∧g1=h109∧y1=[]) v h109 [])∧((pK (z0e none t105 h109) fun v=>(fun u (g1:Heap) (y1:Esc)=>u=t106∧g1=h109∧y1=[]) v h109 [])∧(pK (z0g 5 none t45) fun t111=>
 wK (z0n none t111 t106 h109) fun t112 h113 y114=>
 pK (z0e (some 8) t45 h113) fun t115=>
 wK (z0n (some 8) t1 t115 h113) fun t116 h117 y118=>
 K .ret ⟨[(2,t1),(3,(AB true))],h117,(y118++(y114++(y110++(y60++(y57++(y54++(y50++(y47++(y43++(y38++(y27++(y18++(y15++(y12++(y6++(y3++x))))))))))))))))⟩))))
 (pK (z0p none t7 (AI 4) h59) fun t119=>
 pK (z0e none t119 h59) fun t120=>
 pK (z0g 4 none t45) fun t121=>
 wK (z0n none t121 t120 h59) fun t122 h123 y124=>
 pK (z0e (some 8) t45 h123) fun t125=>
 pK (oLen t7) fun t126=>
 pK (oBin .eql t126 (AI 5)) fun t127=>
 wK (z0n (some 8) t1 t125 h123) fun t128 h129 y130=>
 K .ret ⟨[(2,t1),(3,t127)],h129,(y130++(y124++(y60++(y57++(y54++(y50++(y47++(y43++(y38++(y27++(y18++(y15++(y12++(y6++(y3++x)))))))))))))))⟩))))))))))))))))
theorem e_q04r {C gl v0 h x K}:NW C gl zj1.body ⟨enter [v0],h,x⟩ K=z38 C gl v0 h x K:=by kernel_rfl
def P_q046:ACode:=(.seq (rg [mV 2 cF] [0])
(.seq (rg [mV 3 0,
cL 4 z2c [3,(cI 0),(cI 345686399999)],
mV 2 4] [2])
.ret))
def zjw:AFun:=⟨1,[.t 2],P_q046,false,false⟩
def zkK (C:Hd) (gl:GL) (v0:AV) (h:Heap) (x:Esc) (K:KT):Prop:=
 C z2c [v0,(AI 0),(AI 345686399999)] h fun t1 h2 y3=>
 K .ret ⟨[(2,t1)],h2,(y3++x)⟩
theorem e_q046 {C gl v0 h x K}:NW C gl zjw.body ⟨enter [v0],h,x⟩ K=zkK C gl v0 h x K:=by kernel_rfl
end Go.Am
end
