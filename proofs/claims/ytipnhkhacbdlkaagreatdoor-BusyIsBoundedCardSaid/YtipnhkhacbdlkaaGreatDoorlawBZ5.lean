/- Texts of the proof, laid together: CodesA, CodesB. -/
import Derived.KernelRfl
import Derived.Test.YtipnhkhacbdlkaaGreatDoorlawBZ4
set_option linter.all false
section
/- The functions asv abstract code,and asv formulas over their values: printed by program out of the translation. -/
set_option linter.unusedVariables false
set_option maxRecDepth 100000
namespace Go.Am
def P_q02t:ACode:=(.seq (rg [mV 2 cF] [0])
(.seq (rg [mV 11 0,
uO 12 (.build [.sl0 none,.p (.int .i64 0)] [(0,1,11)]),
uO 13 (.box 12),
mV 3 13] [3])
(.seq (rg [mV 14 3,
cL 15 z8S [14],
mV 16 3,
mV 17 3,
cL 18 z1x [17,(cI 0),(cI 16)],
cL 19 z8R [16,18],
uO 4 (.alloc [.sl0 none,.p (.int .i64 0)]),
wO (.store (some 2) 4 15),
mV 5 19] [3,4,5])
(.seq (rg [mV 20 3,
cL 21 z1x [20,(cI 0),(cI 40)],
mV 22 3,
cL 23 z1x [22,(cI 40),(cI 200)],
uO 24 (.build [.p (.int .i64 0),.p (.int .i64 0)] [(0,1,21),(1,1,23)]),
uO 6 (.alloc [.p (.int .i64 0),.p (.int .i64 0)]),
wO (.store (some 2) 6 24)] [4,5,6])
(.seq (rg [lD 26 (some 2) 4,
mV 27 5,
lD 28 (some 2) 6,
cL 29 z9b [26,27,(cS [115,97]),28],
mV 25 29,
eX 30 25 0,
eX 31 25 1,
mV 7 30,
mV 8 31] [4,5,6,7,8])
(.seq (rg [lD 33 (some 2) 4,
mV 34 5,
fA 35 1 none 6,
lD 36 none 35,
cL 37 z9c [33,34,(cS [115,99,97,110]),36],
mV 32 37,
eX 38 32 0,
eX 39 32 1,
mV 9 38,
mV 10 39] [6,7,8,9,10])
(.seq (.seq (rg [mV 40 8,
mV 41 10,
uO 42 (.bsl false none 2 (.int .i64 0) [(0,40),(1,41)]),
cL 43 z6o [42],
bN 44 .neq 43 (cI 0),
mV 45 44,
gD 46 45 false (.mv 7),
gD 47 45 false (.bin .lss 46 (cI 0)),
uO 48 (.pick 45 cT 47),
mV 49 48,
gD 50 49 false (.mv 7),
gD 51 49 false (.faddr 1 none 6),
gD 52 49 false (.load none 51),
gD 53 49 false (.faddr 0 none 6),
gD 54 49 false (.load none 53),
gD 55 49 false (.bin .sub 52 54),
gD 56 49 false (.bin .gtr 50 55),
uO 57 (.pick 49 cT 56)] [9,57])
(.cond 57 (.seq (rg [mV 2 cF] [2])
.ret)
.skip))
(.seq (rg [mV 58 9,
cL 59 z6r [58,(.f z7v)],
uO 60 (.un .not 59),
mV 61 60,
gD 62 61 true (.call z7w []),
uO 63 (.pick 61 62 cF),
mV 2 63] [2])
.ret))))))))
def zi8:AFun:=⟨1,[.t 2],P_q02t,false,false⟩
def zjK (C:Hd) (gl:GL) (v0:AV) (h:Heap) (x:Esc) (K:KT):Prop:=
 pK (z0G [.sl0 none,.p (.int .i64 0)] [(0,1,v0)]) fun t1=>
 wK (oBox t1 h) fun t2 h3 y4=>
 C z8S [t2] h3 fun t5 h6 y7=>
 C z1x [t2,(AI 0),(AI 16)] h6 fun t8 h9 y10=>
 C z8R [t2,t8] h9 fun t11 h12 y13=>
 alK [.sl0 none,.p (.int .i64 0)] h12 fun t14 h15 y16=>
 wK (z0n (some 2) t14 t5 h15) fun t17 h18 y19=>
 C z1x [t2,(AI 0),(AI 40)] h18 fun t20 h21 y22=>
 C z1x [t2,(AI 40),(AI 200)] h21 fun t23 h24 y25=>
 pK (z0G [.p (.int .i64 0),.p (.int .i64 0)] [(0,1,t20),(1,1,t23)]) fun t26=>
 alK [.p (.int .i64 0),.p (.int .i64 0)] h24 fun t27 h28 y29=>
 wK (z0n (some 2) t27 t26 h28) fun t30 h31 y32=>
 pK (z0e (some 2) t14 h31) fun t33=>
 pK (z0e (some 2) t27 h31) fun t34=>
 C z9b [t33,t11,(.p (.str [115,97])),t34] h31 fun t35 h36 y37=>
 pK (oExt t35 0) fun t38=>
 pK (oExt t35 1) fun t39=>
 pK (z0e (some 2) t14 h36) fun t40=>
 pK (z0c 1 none t27) fun t41=>
 pK (z0e none t41 h36) fun t42=>
 C z9c [t40,t11,(.p (.str [115,99,97,110])),t42] h36 fun t43 h44 y45=>
 pK (oExt t43 0) fun t46=>
 pK (oExt t43 1) fun t47=>
 wK (oBsl false none 2 (.int .i64 0) [(0,t39),(1,t47)] h44) fun t48 h49 y50=>
 C z6o [t48] h49 fun t51 h52 y53=>
 pK (oBin .neq t51 (AI 0)) fun t54=>
 gM t54 false t38 h52 fun t55 h56 y57=>
 gP t54 false (oBin .lss t55 (AI 0)) h56 fun t58 h59 y60=>
 pK (z0M t54 (AB true) t58) fun t61=>
 gM t61 false t38 h59 fun t62 h63 y64=>
 gP t61 false (z0c 1 none t27) h63 fun t65 h66 y67=>
 gP t61 false (z0e none t65 h66) h66 fun t68 h69 y70=>
 gP t61 false (z0c 0 none t27) h69 fun t71 h72 y73=>
 gP t61 false (z0e none t71 h72) h72 fun t74 h75 y76=>
 gP t61 false (oBin .sub t68 t74) h75 fun t77 h78 y79=>
 gP t61 false (oBin .gtr t62 t77) h78 fun t80 h81 y82=>
 pK (z0M t61 (AB true) t80) fun t83=>
 z0l t83 (K .ret ⟨[(2,(AB false))],h81,(y82++(y79++(y76++(y73++(y70++(y67++(y64++(y60++(y57++(y53++(y50++(y45++(y37++(y32++(y29++(y25++(y22++(y19++(y16++(y13++(y10++(y7++(y4++x)))))))))))))))))))))))⟩)
 (C z6r [t46,(.fn z7v [])] h81 fun t84 h85 y86=>
 pK (oUn .not t84) fun t87=>
 gV t87 true h85 (C z7w [] h85) fun t88 h89 y90=>
 pK (z0M t87 t88 (AB false)) fun t91=>
 K .ret ⟨[(2,t91)],h89,(y90++(y86++(y82++(y79++(y76++(y73++(y70++(y67++(y64++(y60++(y57++(y53++(y50++(y45++(y37++(y32++(y29++(y25++(y22++(y19++(y16++(y13++(y10++(y7++(y4++x)))))))))))))))))))))))))⟩)
theorem e_q02t {C gl v0 h x K}:NW C gl zi8.body ⟨enter [v0],h,x⟩ K=zjK C gl v0 h x K:=by kernel_rfl
def P_q03q:ACode:=(.seq (rg [uO 2 (.alloc [.sl0 none,.p (.int .i64 0)])] [0,2])
(.seq (dr [dF (uO 3 (.bsl false none 3 (.str []) [(0,(cS [115,99,97,110])),(1,(cS [102,108,97,115,104])),(2,(cS [98,117,114,110]))])) [],
dF (mV 4 0) [0],
dA (cL 5 z1x [4,(cI 1),(cI 3)]) [4] true [] [0],
dF (uO 6 (.slice none 3 none (some 5) none)) [3,5],
dF (mV 7 0) [0],
dA (cL 8 z1x [7,(cI 1),(cI 3)]) [7] true [] [0,3],
dF (uO 9 (.build [.sl0 none,.p (.int .i64 0)] [(0,1,6),(1,1,8)])) [6,8],
dT (wO (.store (some 2) 2 9)) [2,9]] [2])
.ret))
def ziI:AFun:=⟨1,[.cell 2 (some 2)],P_q03q,false,false⟩
def zjP (C:Hd) (gl:GL) (v0:AV) (h:Heap) (x:Esc) (K:KT):Prop:=
 alK [.sl0 none,.p (.int .i64 0)] h fun t1 h2 y3=>
 wK (oBsl false none 3 (.str []) [(0,(.p (.str [115,99,97,110]))),(1,(.p (.str [102,108,97,115,104]))),(2,(.p (.str [98,117,114,110])))] h2) fun t4 h5 y6=>
 (h5=h2∧y6=[])∧(z1J C z1x [v0,(AI 1),(AI 3)] h5 fun t7 h8 y9=>
 (wK (oBsl false none 3 (.str []) [(0,(.p (.str [115,99,97,110]))),(1,(.p (.str [102,108,97,115,104]))),(2,(.p (.str [98,117,114,110])))] h8) (fun u (g1:Heap) (y1:Esc)=>u=t4∧g1=h8∧y1=[]))∧(pK (z4m none t4 none (some t7) none h8) fun t10=>
 z1J C z1x [v0,(AI 1),(AI 3)] h8 fun t11 h12 y13=>
 (wK (oBsl false none 3 (.str []) [(0,(.p (.str [115,99,97,110]))),(1,(.p (.str [102,108,97,115,104]))),(2,(.p (.str [98,117,114,110])))] h12) (fun u (g1:Heap) (y1:Esc)=>u=t4∧g1=h12∧y1=[]))∧((pK (z4m none t4 none (some t7) none h12) fun v=>(fun u (g1:Heap) (y1:Esc)=>u=t10∧g1=h12∧y1=[]) v h12 [])∧(pK (z0G [.sl0 none,.p (.int .i64 0)] [(0,1,t10),(1,1,t11)]) fun t14=>
 wK (z0n (some 2) t1 t14 h12) fun t15 h16 y17=>
 K .ret ⟨[(2,t1)],h16,(y17++(y13++(y9++(y6++(y3++x)))))⟩))))
theorem e_q03q {C gl v0 h x K}:NW C gl ziI.body ⟨enter [v0],h,x⟩ K=zjP C gl v0 h x K:=by kernel_rfl
def z2E:ACode:=.pr [0,1,6] (.seq (rg [bN 7 .lss 6 (cI 8)] [0,1,6,7])
(.seq (.cond 7 .skip
(.exit 0))
(.seq (.block 1 (.seq (rg [mV 8 0,
mV 9 1,
cL 10 z8Q [8,9],
mV 5 10] [0,1,5,6])
(.seq (rg [mV 11 5,
cL 12 z8T [11],
bN 13 .eql 12 (cI 0)] [0,1,5,6,13])
(.cond 13 (.seq (rg [mV 14 5,
mV 4 14] [4])
.ret)
.skip))))
(rg [bN 15 .add 6 (cI 1),
mV 6 15] [0,1,6]))))
def zbr (C:Hd) (gl:GL) (v0 v1 v6:AV) (h:Heap) (x:Esc) (K:KT):Prop:=
 pK (oBin .lss v6 (AI 8)) fun t1=>
 z0l t1 (C z8Q [v0,v1] h fun t2 h3 y4=>
 C z8T [t2] h3 fun t5 h6 y7=>
 pK (oBin .eql t5 (AI 0)) fun t8=>
 z0l t8 (K .ret ⟨[(4,t2)],h6,(y7++(y4++x))⟩)
 (pK (oBin .add v6 (AI 1)) fun t9=>
 K .normal ⟨[(0,v0),(1,v1),(6,t9)],h6,(y7++(y4++x))⟩))
 (K (.exit 0) ⟨[(0,v0),(1,v1),(6,v6),(7,t1)],h,x⟩)
theorem zk4 {C gl e h x K}:NW C gl z2E ⟨e,h,x⟩ K=zbr C gl (aget e 0) (aget e 1) (aget e 6) h x K:=by kernel_rfl
theorem zmq {C gl e h x K}:NW C gl (.loop z2E) ⟨e,h,x⟩ K=z1t C gl z2E K [(0,aget e 0),(1,aget e 1),(6,aget e 6)] h x:=z0F
def z5k:ACode:=.pr [] (.seq (rg [mV 4 (.c (.p (.sl (some 8) [])))] [4])
.ret)
def zbs (C:Hd) (gl:GL) (h:Heap) (x:Esc) (K:KT):Prop:=
 K .ret ⟨[(4,(.p (.sl (some 8) [])))],h,x⟩
theorem zk5 {C gl e h x K}:NW C gl z5k ⟨e,h,x⟩ K=zbs C gl h x K:=by kernel_rfl
def zrX (q1 q2:ACode):ACode:=(.seq (rg [mV 4 (.c (.p (.sl (some 8) [])))] [0,1])
(.seq (.seq (rg [mV 6 (cI 0)] [0,1,6])
(.block 0 (.loop q1)))
q2))
def ziH:AFun:=⟨2,[.t 4],zrX z2E z5k,false,false⟩
def zeQ (C:Hd) (gl:GL) (q1 q2:ACode) (v0 v1:AV) (h:Heap) (x:Esc) (K:KT):Prop:=
 NW C gl (.loop q1) ⟨[(0,v0),(1,v1),(6,(AI 0))],h,x⟩ (z0v 0 (seqN C gl q2 K))
theorem E_q03p {C gl q1 q2 v0 v1 h x K}:NW C gl (zrX q1 q2) ⟨enter [v0,v1],h,x⟩ K=zeQ C gl q1 q2 v0 v1 h x K:=by kernel_rfl
theorem e_q03p {C gl v0 v1 h x K}:NW C gl ziH.body ⟨enter [v0,v1],h,x⟩ K=zeQ C gl z2E z5k v0 v1 h x K:=E_q03p
def P_q03k:ACode:=(.seq (rg [mV 6 (cI 0)] [0,1,2])
(.seq (.seq (rg [mV 7 2,
mV 8 1,
bN 9 .lss 7 8] [0,1,2,9])
(.cond 9 (.seq (rg [mV 10 1,
mV 6 10] [6])
.ret)
.skip))
(.seq (rg [mV 11 1,
mV 12 0,
mV 13 2,
mV 14 1,
bN 15 .sub 13 14,
bN 16 .add 15 (cI 1),
cL 17 z1M [12,16],
bN 18 .add 11 17,
mV 6 18] [6])
.ret)))
def ziG:AFun:=⟨3,[.t 6],P_q03k,false,false⟩
def zjO (C:Hd) (gl:GL) (v0 v1 v2:AV) (h:Heap) (x:Esc) (K:KT):Prop:=
 pK (oBin .lss v2 v1) fun t1=>
 z0l t1 (K .ret ⟨[(6,v1)],h,x⟩)
 (pK (oBin .sub v2 v1) fun t2=>
 pK (oBin .add t2 (AI 1)) fun t3=>
 C z1M [v0,t3] h fun t4 h5 y6=>
 pK (oBin .add v1 t4) fun t7=>
 K .ret ⟨[(6,t7)],h5,(y6++x)⟩)
theorem e_q03k {C gl v0 v1 v2 h x K}:NW C gl ziG.body ⟨enter [v0,v1,v2],h,x⟩ K=zjO C gl v0 v1 v2 h x K:=by kernel_rfl
def z7O:ACode:=.pr [2,7,11,13,14,41,42,43] (.seq (rg [fA 53 0 none 13,
lD 54 none 53,
mV 55 2,
bN 56 .eql 54 55] [2,7,11,13,14,41,42,43,56])
(.cond 56 (rg [mV 57 11,
mV 58 14,
fA 59 1 none 7,
lD 60 none 59,
uO 61 (.mn [58,60]),
fA 62 1 none 13,
lD 63 none 62,
fA 64 0 none 7,
lD 65 none 64,
uO 66 (.mx [63,65]),
bN 67 .sub 61 66,
uO 68 (.mx [(cI 0),67]),
bN 69 .add 57 68,
mV 11 69] [2,7,11,41,42,43])
.skip))
def zbB (C:Hd) (gl:GL) (v2 v7 v11 v13 v14 v41 v42 v43:AV) (h:Heap) (x:Esc) (K:KT):Prop:=
 pK (z0c 0 none v13) fun t1=>
 pK (z0e none t1 h) fun t2=>
 pK (oBin .eql t2 v2) fun t3=>
 z0l t3 (pK (z0c 1 none v7) fun t4=>
 pK (z0e none t4 h) fun t5=>
 pK (oMn [v14,t5]) fun t6=>
 pK (z0c 1 none v13) fun t7=>
 pK (z0e none t7 h) fun t8=>
 pK (z0c 0 none v7) fun t9=>
 pK (z0e none t9 h) fun t10=>
 pK (oMx [t8,t10]) fun t11=>
 pK (oBin .sub t6 t11) fun t12=>
 pK (oMx [(AI 0),t12]) fun t13=>
 pK (oBin .add v11 t13) fun t14=>
 K .normal ⟨[(2,v2),(7,v7),(11,t14),(41,v41),(42,v42),(43,v43)],h,x⟩)
 (K .normal ⟨[(2,v2),(7,v7),(11,v11),(13,v13),(14,v14),(41,v41),(42,v42),(43,v43),(56,t3)],h,x⟩)
theorem zkR {C gl e h x K}:NW C gl z7O ⟨e,h,x⟩ K=zbB C gl (aget e 2) (aget e 7) (aget e 11) (aget e 13) (aget e 14) (aget e 41) (aget e 42) (aget e 43) h x K:=by kernel_rfl
def z7P:ACode:=.pr [2,7,11,41,42,43] (rg [bN 70 .add 43 (cI 1),
mV 43 70] [2,7,11,41,42,43])
def zbC (C:Hd) (gl:GL) (v2 v7 v11 v41 v42 v43:AV) (h:Heap) (x:Esc) (K:KT):Prop:=
 pK (oBin .add v43 (AI 1)) fun t1=>
 K .normal ⟨[(2,v2),(7,v7),(11,v11),(41,v41),(42,v42),(43,t1)],h,x⟩
theorem zkS {C gl e h x K}:NW C gl z7P ⟨e,h,x⟩ K=zbC C gl (aget e 2) (aget e 7) (aget e 11) (aget e 41) (aget e 42) (aget e 43) h x K:=by kernel_rfl
def zaF (q1 q2:ACode):ACode:=.pr [2,7,11,41,42,43] (.seq (rg [bN 44 .lss 43 42] [2,7,11,41,42,43,44])
(.seq (.cond 44 .skip
(.exit 1))
(.seq (.block 2 (.seq (rg [iA 45 (some 3) 41 43,
lD 46 (some 3) 45,
uO 13 (.alloc [.p (.str []),.p (.int .i64 0),.p (.int .i64 0)]),
wO (.store (some 3) 13 46)] [2,7,11,13,41,42,43])
(.seq (rg [fA 47 2 none 13,
lD 48 none 47,
mV 14 48] [2,7,11,13,14,41,42,43])
(.seq (.seq (rg [mV 49 14,
bN 50 .lss 49 (cI 0)] [2,7,11,13,14,41,42,43,50])
(.cond 50 (rg [fA 51 1 none 7,
lD 52 none 51,
mV 14 52] [2,7,11,13,14,41,42,43])
.skip))
q1))))
q2)))
def z2M:ACode:=zaF z7O z7P
def z7f (C:Hd) (gl:GL) (q1 q2:ACode) (v2 v7 v11 v41 v42 v43:AV) (h:Heap) (x:Esc) (K:KT):Prop:=
 pK (oBin .lss v43 v42) fun t1=>
 z0l t1 (pK (z0y (some 3) v41 v43 h) fun t2=>
 pK (z0e (some 3) t2 h) fun t3=>
 alK [.p (.str []),.p (.int .i64 0),.p (.int .i64 0)] h fun t4 h5 y6=>
 wK (z0n (some 3) t4 t3 h5) fun t7 h8 y9=>
 pK (z0c 2 none t4) fun t10=>
 pK (z0e none t10 h8) fun t11=>
 pK (oBin .lss t11 (AI 0)) fun t12=>
 z0l t12 (pK (z0c 1 none v7) fun t13=>
 pK (z0e none t13 h8) fun t14=>
 NW C gl q1 ⟨[(2,v2),(7,v7),(11,v11),(13,t4),(14,t14),(41,v41),(42,v42),(43,v43)],h8,(y9++(y6++x))⟩ (z0v 2 (seqN C gl q2 K)))
 (NW C gl q1 ⟨[(2,v2),(7,v7),(11,v11),(13,t4),(14,t11),(41,v41),(42,v42),(43,v43),(50,t12)],h8,(y9++(y6++x))⟩ (z0v 2 (seqN C gl q2 K))))
 (K (.exit 1) ⟨[(2,v2),(7,v7),(11,v11),(41,v41),(42,v42),(43,v43),(44,t1)],h,x⟩)
theorem zhX {C gl q1 q2 e h x K}:NW C gl (zaF q1 q2) ⟨e,h,x⟩ K=z7f C gl q1 q2 (aget e 2) (aget e 7) (aget e 11) (aget e 41) (aget e 42) (aget e 43) h x K:=by kernel_rfl
theorem zkT {C gl e h x K}:NW C gl z2M ⟨e,h,x⟩ K=z7f C gl z7O z7P (aget e 2) (aget e 7) (aget e 11) (aget e 41) (aget e 42) (aget e 43) h x K:=zhX
theorem zm2 {C gl e h x K}:NW C gl (.loop (.scope z2M)) ⟨e,h,x⟩ K=z1t C gl (.scope z2M) K [(2,aget e 2),(7,aget e 7),(11,aget e 11),(41,aget e 41),(42,aget e 42),(43,aget e 43)] h x:=z1V
def z5s:ACode:=.pr [11] (.seq (rg [mV 71 11,
mV 8 71,
mV 9 (cI 0)] [8,9])
.ret)
def zbD (C:Hd) (gl:GL) (v11:AV) (h:Heap) (x:Esc) (K:KT):Prop:=
 K .ret ⟨[(8,v11),(9,(AI 0))],h,x⟩
theorem zkU {C gl e h x K}:NW C gl z5s ⟨e,h,x⟩ K=zbD C gl (aget e 11) h x K:=by kernel_rfl
def zsg (q3 q4:ACode):ACode:=(.seq (rg [uO 4 (.box 0),
uO 7 (.box 3),
mV 8 (cI 0),
mV 9 (cI 0)] [1,2,4,7])
(.seq (.seq (rg [lD 15 (some 2) 4,
cL 16 z4S [15],
mV 17 1,
cL 18 z4R [17],
uO 19 (.bsl false none 2 (.int .i64 0) [(0,16),(1,18)]),
cL 20 z4M [19],
mV 10 20] [1,2,4,7,10])
(.seq (rg [mV 21 10,
bN 22 .neq 21 (cI 0)] [1,2,4,7,10,22])
(.cond 22 (.seq (rg [mV 23 10,
mV 8 (cI 0),
mV 9 23] [8,9])
.ret)
.skip)))
(.seq (.block 0 (.seq (rg [mV 25 2,
cL 26 z1w [25],
uO 27 (.un .not 26),
mV 24 27] [1,2,4,7,24])
(.cond 24 (.seq (rg [mV 8 (cI 0),
mV 9 (cI 5)] [8,9])
.ret)
(.seq (rg [lD 29 (some 2) 7,
cL 30 z8O [29],
uO 31 (.un .not 30),
mV 28 31] [1,2,4,7,28])
(.cond 28 (.seq (rg [mV 8 (cI 0),
mV 9 (cI 1)] [8,9])
.ret)
.skip)))))
(.seq (rg [mV 11 (cI 0)] [1,2,4,7,11])
(.seq (.seq (dr [dF (lD 32 (some 2) 4) [4],
dF (mV 33 1) [1],
dF (fA 34 1 none 7) [7],
dF (lD 35 none 34) [34],
dF (bN 36 .sub 35 (cI 1)) [35],
dA (cL 37 z4k [33,36]) [33,36] true [] [0],
dT (cL 38 z3p [32,37]) [32,37],
dF (uO 39 (.nilchk 38)) [38],
dF (fA 40 5 none 39) [39],
dF (lD 41 none 40) [40],
dF (lN 42 41) [41],
dF (mV 43 (cI 0)) []] [2,7,11,41,42,43])
(.block 1 (.loop (.scope q3))))
q4)))))
def ziZ:AFun:=⟨4,[.t 8,.t 9],zsg z2M z5s,false,false⟩
def z8J (C:Hd) (gl:GL) (q3 q4:ACode) (v0 v1 v2 v3:AV) (h:Heap) (x:Esc) (K:KT):Prop:=
 wK (oBox v0 h) fun t1 h2 y3=>
 wK (oBox v3 h2) fun t4 h5 y6=>
 pK (z0e (some 2) t1 h5) fun t7=>
 C z4S [t7] h5 fun t8 h9 y10=>
 C z4R [v1] h9 fun t11 h12 y13=>
 wK (oBsl false none 2 (.int .i64 0) [(0,t8),(1,t11)] h12) fun t14 h15 y16=>
 C z4M [t14] h15 fun t17 h18 y19=>
 pK (oBin .neq t17 (AI 0)) fun t20=>
 z0l t20 (K .ret ⟨[(8,(AI 0)),(9,t17)],h18,(y19++(y16++(y13++(y10++(y6++(y3++x))))))⟩)
 (C z1w [v2] h18 fun t21 h22 y23=>
 pK (oUn .not t21) fun t24=>
 z0l t24 (K .ret ⟨[(8,(AI 0)),(9,(AI 5))],h22,(y23++(y19++(y16++(y13++(y10++(y6++(y3++x)))))))⟩)
 (pK (z0e (some 2) t4 h22) fun t25=>
 C z8O [t25] h22 fun t26 h27 y28=>
 pK (oUn .not t26) fun t29=>
 z0l t29 (K .ret ⟨[(8,(AI 0)),(9,(AI 1))],h27,(y28++(y23++(y19++(y16++(y13++(y10++(y6++(y3++x))))))))⟩)
 (pK (z0e (some 2) t1 h27) fun t30=>
 pK (z0c 1 none t4) fun t31=>
 pK (z0e none t31 h27) fun t32=>
 pK (oBin .sub t32 (AI 1)) fun t33=>
 z1J C z4k [v1,t33] h27 fun t34 h35 y36=>
 (pK (z0e (some 2) t1 h35) fun v=>(fun u (g1:Heap) (y1:Esc)=>u=t30∧g1=h35∧y1=[]) v h35 [])∧(z1J C z3p [t30,t34] h35 fun t37 h38 y39=>
 pK (oNil t37) fun t40=>
 pK (z0c 5 none t40) fun t41=>
 pK (z0e none t41 h38) fun t42=>
 pK (oLen t42) fun t43=>
 NW C gl (.loop (.scope q3)) ⟨[(2,v2),(7,t4),(11,(AI 0)),(41,t42),(42,t43),(43,(AI 0))],h38,(y39++(y36++(y28++(y23++(y19++(y16++(y13++(y10++(y6++(y3++x))))))))))⟩ (z0v 1 (seqN C gl q4 K))))))
theorem E_q07q {C gl q3 q4 v0 v1 v2 v3 h x K}:NW C gl (zsg q3 q4) ⟨enter [v0,v1,v2,v3],h,x⟩ K=z8J C gl q3 q4 v0 v1 v2 v3 h x K:=by kernel_rfl
theorem e_q07q {C gl v0 v1 v2 v3 h x K}:NW C gl ziZ.body ⟨enter [v0,v1,v2,v3],h,x⟩ K=z8J C gl z2M z5s v0 v1 v2 v3 h x K:=E_q07q
def z7Q:ACode:=.pr [2,11,29,30,31] (rg [bN 47 .add 31 (cI 1),
mV 31 47] [2,11,29,30,31])
def zbJ (C:Hd) (gl:GL) (v2 v11 v29 v30 v31:AV) (h:Heap) (x:Esc) (K:KT):Prop:=
 pK (oBin .add v31 (AI 1)) fun t1=>
 K .normal ⟨[(2,v2),(11,v11),(29,v29),(30,v30),(31,t1)],h,x⟩
theorem zkY {C gl e h x K}:NW C gl z7Q ⟨e,h,x⟩ K=zbJ C gl (aget e 2) (aget e 11) (aget e 29) (aget e 30) (aget e 31) h x K:=by kernel_rfl
def zaG (q1:ACode):ACode:=.pr [2,11,29,30,31] (.seq (rg [bN 32 .lss 31 30] [2,11,29,30,31,32])
(.seq (.cond 32 .skip
(.exit 0))
(.seq (.block 1 (.seq (rg [iA 33 (some 5) 29 31,
lD 34 (some 5) 33,
uO 13 (.alloc [.p (.str []),.p (.str []),.p (.int .i64 0),.p (.int .i64 0),.p (.bool false)]),
wO (.store (some 5) 13 34)] [2,11,13,29,30,31])
(.seq (rg [fA 35 1 none 13,
lD 36 none 35,
mV 37 2,
bN 38 .eql 36 37] [2,11,13,29,30,31,38])
(.cond 38 (rg [mV 39 11,
fA 40 3 none 13,
lD 41 none 40,
fA 42 2 none 13,
lD 43 none 42,
bN 44 .sub 41 43,
uO 45 (.bsl false none 1 (.int .i64 0) [(0,44)]),
uO 46 (.app none 39 45),
mV 11 46] [2,11,29,30,31])
.skip))))
q1)))
def z2P:ACode:=zaG z7Q
def z7g (C:Hd) (gl:GL) (q1:ACode) (v2 v11 v29 v30 v31:AV) (h:Heap) (x:Esc) (K:KT):Prop:=
 pK (oBin .lss v31 v30) fun t1=>
 z0l t1 (pK (z0y (some 5) v29 v31 h) fun t2=>
 pK (z0e (some 5) t2 h) fun t3=>
 alK [.p (.str []),.p (.str []),.p (.int .i64 0),.p (.int .i64 0),.p (.bool false)] h fun t4 h5 y6=>
 wK (z0n (some 5) t4 t3 h5) fun t7 h8 y9=>
 pK (z0c 1 none t4) fun t10=>
 pK (z0e none t10 h8) fun t11=>
 pK (oBin .eql t11 v2) fun t12=>
 z0l t12 (pK (z0c 3 none t4) fun t13=>
 pK (z0e none t13 h8) fun t14=>
 pK (z0c 2 none t4) fun t15=>
 pK (z0e none t15 h8) fun t16=>
 pK (oBin .sub t14 t16) fun t17=>
 wK (oBsl false none 1 (.int .i64 0) [(0,t17)] h8) fun t18 h19 y20=>
 wK (oApp none v11 t18 h19) fun t21 h22 y23=>
 NW C gl q1 ⟨[(2,v2),(11,t21),(29,v29),(30,v30),(31,v31)],h22,(y23++(y20++(y9++(y6++x))))⟩ K)
 (NW C gl q1 ⟨[(2,v2),(11,v11),(13,t4),(29,v29),(30,v30),(31,v31),(38,t12)],h8,(y9++(y6++x))⟩ K))
 (K (.exit 0) ⟨[(2,v2),(11,v11),(29,v29),(30,v30),(31,v31),(32,t1)],h,x⟩)
theorem zhY {C gl q1 e h x K}:NW C gl (zaG q1) ⟨e,h,x⟩ K=z7g C gl q1 (aget e 2) (aget e 11) (aget e 29) (aget e 30) (aget e 31) h x K:=by kernel_rfl
theorem zkZ {C gl e h x K}:NW C gl z2P ⟨e,h,x⟩ K=z7g C gl z7Q (aget e 2) (aget e 11) (aget e 29) (aget e 30) (aget e 31) h x K:=zhY
theorem zm5 {C gl e h x K}:NW C gl (.loop (.scope z2P)) ⟨e,h,x⟩ K=z1t C gl (.scope z2P) K [(2,aget e 2),(11,aget e 11),(29,aget e 29),(30,aget e 30),(31,aget e 31)] h x:=z1V
def z5v:ACode:=.pr [11] (.seq (rg [mV 48 11,
mV 8 48,
mV 9 (cI 0)] [8,9])
.ret)
def zbK (C:Hd) (gl:GL) (v11:AV) (h:Heap) (x:Esc) (K:KT):Prop:=
 K .ret ⟨[(8,v11),(9,(AI 0))],h,x⟩
theorem zla {C gl e h x K}:NW C gl z5v ⟨e,h,x⟩ K=zbK C gl (aget e 11) h x K:=by kernel_rfl
def zsj (q2 q3:ACode):ACode:=(.seq (rg [uO 4 (.box 0),
mV 8 (.c (.p (.sl none []))),
mV 9 (cI 0)] [1,2,3,4])
(.seq (.seq (rg [lD 14 (some 2) 4,
mV 15 1,
mV 16 2,
mV 17 3,
cL 18 z9d [14,15,16,17],
mV 10 18] [1,2,3,4,10])
(.seq (rg [mV 19 10,
bN 20 .neq 19 (cI 0)] [1,2,3,4,10,20])
(.cond 20 (.seq (rg [mV 21 10,
mV 8 (.c (.p (.sl none []))),
mV 9 21] [8,9])
.ret)
.skip)))
(.seq (rg [uO 11 (.new0 none)] [1,2,3,4,11])
(.seq (.seq (dr [dF (lD 22 (some 2) 4) [4],
dF (mV 23 1) [1],
dF (mV 24 3) [3],
dA (cL 25 z4k [23,24]) [23,24] true [] [0],
dT (cL 26 z3p [22,25]) [22,25],
dF (uO 27 (.nilchk 26)) [26],
dF (fA 28 4 none 27) [27],
dF (lD 29 none 28) [28],
dF (lN 30 29) [29],
dF (mV 31 (cI 0)) []] [2,11,29,30,31])
(.block 0 (.loop (.scope q2))))
q3))))
def zja:AFun:=⟨4,[.t 8,.t 9],zsj z2P z5v,false,false⟩
def zbI (C:Hd) (gl:GL) (q2 q3:ACode) (v0 v1 v2 v3:AV) (h:Heap) (x:Esc) (K:KT):Prop:=
 wK (oBox v0 h) fun t1 h2 y3=>
 pK (z0e (some 2) t1 h2) fun t4=>
 C z9d [t4,v1,v2,v3] h2 fun t5 h6 y7=>
 pK (oBin .neq t5 (AI 0)) fun t8=>
 z0l t8 (K .ret ⟨[(8,(.p (.sl none []))),(9,t5)],h6,(y7++(y3++x))⟩)
 (nwK none h6 fun t9 h10 y11=>
 pK (z0e (some 2) t1 h10) fun t12=>
 z1J C z4k [v1,v3] h10 fun t13 h14 y15=>
 (pK (z0e (some 2) t1 h14) fun v=>(fun u (g1:Heap) (y1:Esc)=>u=t12∧g1=h14∧y1=[]) v h14 [])∧(z1J C z3p [t12,t13] h14 fun t16 h17 y18=>
 pK (oNil t16) fun t19=>
 pK (z0c 4 none t19) fun t20=>
 pK (z0e none t20 h17) fun t21=>
 pK (oLen t21) fun t22=>
 NW C gl (.loop (.scope q2)) ⟨[(2,v2),(11,t9),(29,t21),(30,t22),(31,(AI 0))],h17,(y18++(y15++(y11++(y7++(y3++x)))))⟩ (z0v 0 (seqN C gl q3 K))))
theorem E_q080 {C gl q2 q3 v0 v1 v2 v3 h x K}:NW C gl (zsj q2 q3) ⟨enter [v0,v1,v2,v3],h,x⟩ K=zbI C gl q2 q3 v0 v1 v2 v3 h x K:=by kernel_rfl
theorem e_q080 {C gl v0 v1 v2 v3 h x K}:NW C gl zja.body ⟨enter [v0,v1,v2,v3],h,x⟩ K=zbI C gl z2P z5v v0 v1 v2 v3 h x K:=E_q080
def z2C:ACode:=.pr [5,6,7] (.seq (rg [bN 8 .lss 7 6] [5,6,7,8])
(.seq (.cond 8 .skip
(.exit 0))
(.seq (.block 1 (.seq (rg [iA 9 none 5 7,
lD 10 none 9,
mV 4 10] [4,5,6,7])
(.seq (rg [mV 11 4,
bN 12 .neq 11 (cI 0)] [4,5,6,7,12])
(.cond 12 (.seq (rg [mV 13 4,
mV 2 13] [2])
.ret)
.skip))))
(rg [bN 14 .add 7 (cI 1),
mV 7 14] [5,6,7]))))
def zbk (C:Hd) (gl:GL) (v5 v6 v7:AV) (h:Heap) (x:Esc) (K:KT):Prop:=
 pK (oBin .lss v7 v6) fun t1=>
 z0l t1 (pK (z0y none v5 v7 h) fun t2=>
 pK (z0e none t2 h) fun t3=>
 pK (oBin .neq t3 (AI 0)) fun t4=>
 z0l t4 (K .ret ⟨[(2,t3)],h,x⟩)
 (pK (oBin .add v7 (AI 1)) fun t5=>
 K .normal ⟨[(5,v5),(6,v6),(7,t5)],h,x⟩))
 (K (.exit 0) ⟨[(5,v5),(6,v6),(7,v7),(8,t1)],h,x⟩)
theorem zkx {C gl e h x K}:NW C gl z2C ⟨e,h,x⟩ K=zbk C gl (aget e 5) (aget e 6) (aget e 7) h x K:=by kernel_rfl
theorem zmo {C gl e h x K}:NW C gl (.loop z2C) ⟨e,h,x⟩ K=z1t C gl z2C K [(5,aget e 5),(6,aget e 6),(7,aget e 7)] h x:=z0F
def z5f:ACode:=.pr [] (.seq (rg [mV 2 (cI 0)] [2])
.ret)
def zbl (C:Hd) (gl:GL) (h:Heap) (x:Esc) (K:KT):Prop:=
 K .ret ⟨[(2,(AI 0))],h,x⟩
theorem zky {C gl e h x K}:NW C gl z5f ⟨e,h,x⟩ K=zbl C gl h x K:=by kernel_rfl
def zrU (q1 q2:ACode):ACode:=(.seq (rg [mV 2 (cI 0)] [0])
(.seq (.seq (rg [mV 5 0,
lN 6 5,
mV 7 (cI 0)] [5,6,7])
(.block 0 (.loop q1)))
q2))
def zej:AFun:=⟨1,[.t 2],zrU z2C z5f,false,false⟩
def zeM (C:Hd) (gl:GL) (q1 q2:ACode) (v0:AV) (h:Heap) (x:Esc) (K:KT):Prop:=
 pK (oLen v0) fun t1=>
 NW C gl (.loop q1) ⟨[(5,v0),(6,t1),(7,(AI 0))],h,x⟩ (z0v 0 (seqN C gl q2 K))
theorem E_q02w {C gl q1 q2 v0 h x K}:NW C gl (zrU q1 q2) ⟨enter [v0],h,x⟩ K=zeM C gl q1 q2 v0 h x K:=by kernel_rfl
theorem e_q02w {C gl v0 h x K}:NW C gl zej.body ⟨enter [v0],h,x⟩ K=zeM C gl z2C z5f v0 h x K:=E_q02w
def P_q05i:ACode:=(.seq (rg [mV 4 cF] [0,1])
(.seq (rg [mV 5 0,
mV 6 1,
cL 7 z7y [5,6],
bN 8 .geq 7 (cI 0),
mV 4 8] [4])
.ret))
def zek:AFun:=⟨2,[.t 4],P_q05i,true,false⟩
def zjV (C:Hd) (gl:GL) (v0 v1:AV) (h:Heap) (x:Esc) (K:KT):Prop:=
 C z7y [v0,v1] h fun t1 h2 y3=>
 pK (oBin .geq t1 (AI 0)) fun t4=>
 K .ret ⟨[(4,t4)],h2,(y3++x)⟩
theorem e_q05i {C gl v0 v1 h x K}:NW C gl zek.body ⟨enter [v0,v1],h,x⟩ K=zjV C gl v0 v1 h x K:=by kernel_rfl
def P_q02u:ACode:=(.seq (rg [mV 2 cF] [0])
(.seq (rg [mV 3 0,
bN 4 .lss 3 (cI 0),
mV 2 4] [2])
.ret))
def zi9:AFun:=⟨1,[.t 2],P_q02u,false,false⟩
def zjL (C:Hd) (gl:GL) (v0:AV) (h:Heap) (x:Esc) (K:KT):Prop:=
 pK (oBin .lss v0 (AI 0)) fun t1=>
 K .ret ⟨[(2,t1)],h,x⟩
theorem e_q02u {C gl v0 h x K}:NW C gl zi9.body ⟨enter [v0],h,x⟩ K=zjL C gl v0 h x K:=by kernel_rfl
def z36:ACode:=.pr [0,5,6,7,9,11,12] (.seq (rg [fA 55 3 none 9,
lD 56 none 55,
bN 57 .eql 56 (cI 2)] [0,5,6,7,9,11,12,57])
(.cond 57 (rg [mV 58 0,
uO 59 (.bsl false none 4 (.str []) [(0,(cS [115,99,97,110])),(1,(cS [115,99,97,110])),(2,(cS [102,108,97,115,104])),(3,(cS [98,117,114,110]))]),
cL 60 z1k [58,59],
fA 61 5 none 9,
wO (.store none 61 60)] [0,5,6,7,9,11,12])
.skip))
def zbn (C:Hd) (gl:GL) (v0 v5 v6 v7 v9 v11 v12:AV) (h:Heap) (x:Esc) (K:KT):Prop:=
 pK (z0c 3 none v9) fun t1=>
 pK (z0e none t1 h) fun t2=>
 pK (oBin .eql t2 (AI 2)) fun t3=>
 z0l t3 (wK (oBsl false none 4 (.str []) [(0,(.p (.str [115,99,97,110]))),(1,(.p (.str [115,99,97,110]))),(2,(.p (.str [102,108,97,115,104]))),(3,(.p (.str [98,117,114,110])))] h) fun t4 h5 y6=>
 C z1k [v0,t4] h5 fun t7 h8 y9=>
 pK (z0c 5 none v9) fun t10=>
 wK (z0n none t10 t7 h8) fun t11 h12 y13=>
 K .normal ⟨[(0,v0),(5,v5),(6,v6),(7,v7),(9,v9),(11,v11),(12,v12)],h12,(y13++(y9++(y6++x)))⟩)
 (K .normal ⟨[(0,v0),(5,v5),(6,v6),(7,v7),(9,v9),(11,v11),(12,v12),(57,t3)],h,x⟩)
theorem z7o {C gl e h x K}:NW C gl z36 ⟨e,h,x⟩ K=zbn C gl (aget e 0) (aget e 5) (aget e 6) (aget e 7) (aget e 9) (aget e 11) (aget e 12) h x K:=by kernel_rfl
def z5h:ACode:=.pr [0,5,6,7,9,11,12] (rg [mV 111 5,
lD 112 (some 8) 9,
uO 113 (.bsl false (some 8) 1 (.agg [.str [],.int .i64 0,.int .i64 0,.int .i64 0,.str [],.str [],.str [],.int .i64 0]) [(0,112)]),
uO 114 (.app (some 8) 111 113),
mV 5 114] [0,5,6,7,11,12])
def zbo (C:Hd) (gl:GL) (v0 v5 v6 v7 v9 v11 v12:AV) (h:Heap) (x:Esc) (K:KT):Prop:=
 pK (z0e (some 8) v9 h) fun t1=>
 wK (oBsl false (some 8) 1 (.agg [.str [],.int .i64 0,.int .i64 0,.int .i64 0,.str [],.str [],.str [],.int .i64 0]) [(0,t1)] h) fun t2 h3 y4=>
 wK (oApp (some 8) v5 t2 h3) fun t5 h6 y7=>
 K .normal ⟨[(0,v0),(5,t5),(6,v6),(7,v7),(11,v11),(12,v12)],h6,(y7++(y4++x))⟩
theorem zk0 {C gl e h x K}:NW C gl z5h ⟨e,h,x⟩ K=zbo C gl (aget e 0) (aget e 5) (aget e 6) (aget e 7) (aget e 9) (aget e 11) (aget e 12) h x K:=by kernel_rfl
def za7 (q2:ACode):ACode:=.pr [0,5,6,7,9,11,12] (.seq (.seq (rg [mV 71 0,
cL 72 z3x [71,(cI 100)]] [0,5,6,7,9,11,12,72])
(.cond 72 (.seq (rg [mV 73 0,
cL 74 z1M [73,(cI 3)]] [0,5,6,7,9,11,12,74])
(.block 3 (.seq (rg [bN 83 .eql 74 (cI 0),
mV 82 83] [0,5,6,7,9,11,12,74,82])
(.cond 82 (rg [mV 84 0,
fA 85 0 none 9,
lD 86 none 85,
uO 87 (.bsl false none 2 (.str []) [(0,(cS [])),(1,86)]),
cL 88 z1k [84,87],
mV 89 0,
cL 90 z26 [89,(cI 1),(cI 9)],
mV 91 0,
cL 92 z26 [91,(cI 0),(cI 100)],
fA 93 0 none 9,
wO (.store none 93 88),
fA 94 1 none 9,
wO (.store none 94 90),
fA 95 2 none 9,
wO (.store none 95 92)] [0,5,6,7,9,11,12])
(.seq (rg [bN 97 .eql 74 (cI 1),
mV 96 97] [0,5,6,7,9,11,12,96])
(.cond 96 (dr [dF (mV 98 0) [0],
dT (cL 99 z26 [98,(cI 1),(cI 7)]) [98],
dF (mV 100 0) [0],
dF (fA 101 4 none 9) [9],
dA (lD 102 none 101) [101] false [1] [],
dA (uO 103 (.bsl false none 3 (.str []) [(0,(cS [])),(1,(cS [65])),(2,102)])) [102] false [1] [],
dT (cL 104 z1k [100,103]) [100,103],
dF (mV 105 0) [0],
dA (uO 106 (.bsl false none 2 (.str []) [(0,(cS [])),(1,(cS [115,99,97,110]))])) [] false [1,6] [],
dT (cL 107 z1k [105,106]) [105,106],
dF (fA 108 3 none 9) [9],
dT (wO (.store none 108 99)) [108,99],
dF (fA 109 4 none 9) [9],
dT (wO (.store none 109 104)) [109,104],
dF (fA 110 5 none 9) [9],
dT (wO (.store none 110 107)) [110,107]] [0,5,6,7,9,11,12])
(rg [mV 75 0,
uO 76 (.bsl false none 2 (.str []) [(0,(cS [])),(1,(cS [115,97]))]),
cL 77 z1k [75,76],
mV 78 0,
cL 79 z26 [78,(cI 0),(cI 5)],
fA 80 6 none 9,
wO (.store none 80 77),
fA 81 7 none 9,
wO (.store none 81 79)] [0,5,6,7,9,11,12])))))))
.skip))
q2)
def z37:ACode:=za7 z5h
def z1v (C:Hd) (gl:GL) (q2:ACode) (v0 v5 v6 v7 v9 v11 v12:AV) (h:Heap) (x:Esc) (K:KT):Prop:=
 C z3x [v0,(AI 100)] h fun t1 h2 y3=>
 z0l t1 (C z1M [v0,(AI 3)] h2 fun t4 h5 y6=>
 pK (oBin .eql t4 (AI 0)) fun t7=>
 z0l t7 (pK (z0c 0 none v9) fun t8=>
 pK (z0e none t8 h5) fun t9=>
 wK (oBsl false none 2 (.str []) [(0,(.p (.str []))),(1,t9)] h5) fun t10 h11 y12=>
 C z1k [v0,t10] h11 fun t13 h14 y15=>
 C z26 [v0,(AI 1),(AI 9)] h14 fun t16 h17 y18=>
 C z26 [v0,(AI 0),(AI 100)] h17 fun t19 h20 y21=>
 pK (z0c 0 none v9) fun t22=>
 wK (z0n none t22 t13 h20) fun t23 h24 y25=>
 pK (z0c 1 none v9) fun t26=>
 wK (z0n none t26 t16 h24) fun t27 h28 y29=>
 pK (z0c 2 none v9) fun t30=>
 wK (z0n none t30 t19 h28) fun t31 h32 y33=>
 NW C gl q2 ⟨[(0,v0),(5,v5),(6,v6),(7,v7),(9,v9),(11,v11),(12,v12)],h32,(y33++(y29++(y25++(y21++(y18++(y15++(y12++(y6++(y3++x)))))))))⟩ K)
 (pK (oBin .eql t4 (AI 1)) fun t34=>
 z0l t34 (z1J C z26 [v0,(AI 1),(AI 7)] h5 fun t35 h36 y37=>
 pK (z0c 4 none v9) fun t38=>
 pK (z0e none t38 h36) fun t39=>
 (pK (z0e none t38 h5) fun v=>(fun u (g1:Heap) (y1:Esc)=>u=t39∧g1=h5∧y1=[]) v h5 [])∧(wK (oBsl false none 3 (.str []) [(0,(.p (.str []))),(1,(.p (.str [65]))),(2,t39)] h36) fun t40 h41 y42=>
 (h41=h36∧y42=[])∧((wK (oBsl false none 3 (.str []) [(0,(.p (.str []))),(1,(.p (.str [65]))),(2,t39)] h5) (fun u (g1:Heap) (y1:Esc)=>u=t40∧g1=h5∧y1=[]))∧(z1J C z1k [v0,t40] h41 fun t43 h44 y45=>
 wK (oBsl false none 2 (.str []) [(0,(.p (.str []))),(1,(.p (.str [115,99,97,110])))] h44) fun t46 h47 y48=>
 (h47=h44∧y48=[])∧((wK (oBsl false none 2 (.str []) [(0,(.p (.str []))),(1,(.p (.str [115,99,97,110])))] h5) (fun u (g1:Heap) (y1:Esc)=>u=t46∧g1=h5∧y1=[]))∧((wK (oBsl false none 2 (.str []) [(0,(.p (.str []))),(1,(.p (.str [115,99,97,110])))] h41) (fun u (g1:Heap) (y1:Esc)=>u=t46∧g1=h41∧y1=[]))∧(z1J C z1k [v0,t46] h47 fun t49 h50 y51=>
 pK (z0c 3 none v9) fun t52=>
 wK (z0n none t52 t35 h50) fun t53 h54 y55=>
 pK (z0c 4 none v9) fun t56=>
 wK (z0n none t56 t43 h54) fun t57 h58 y59=>
 pK (z0c 5 none v9) fun t60=>
 wK (z0n none t60 t49 h58) fun t61 h62 y63=>
 NW C gl q2 ⟨[(0,v0),(5,v5),(6,v6),(7,v7),(9,v9),(11,v11),(12,v12)],h62,(y63++(y59++(y55++(y51++(y48++(y45++(y42++(y37++(y6++(y3++x))))))))))⟩ K)))))))
 (wK (oBsl false none 2 (.str []) [(0,(.p (.str []))),(1,(.p (.str [115,97])))] h5) fun t64 h65 y66=>
 C z1k [v0,t64] h65 fun t67 h68 y69=>
 C z26 [v0,(AI 0),(AI 5)] h68 fun t70 h71 y72=>
 pK (z0c 6 none v9) fun t73=>
 wK (z0n none t73 t67 h71) fun t74 h75 y76=>
 pK (z0c 7 none v9) fun t77=>
 wK (z0n none t77 t70 h75) fun t78 h79 y80=>
 NW C gl q2 ⟨[(0,v0),(5,v5),(6,v6),(7,v7),(9,v9),(11,v11),(12,v12)],h79,(y80++(y76++(y72++(y69++(y66++(y6++(y3++x)))))))⟩ K)))
 (NW C gl q2 ⟨[(0,v0),(5,v5),(6,v6),(7,v7),(9,v9),(11,v11),(12,v12),(72,t1)],h2,(y3++x)⟩ K)
theorem zhP {C gl q2 e h x K}:NW C gl (za7 q2) ⟨e,h,x⟩ K=z1v C gl q2 (aget e 0) (aget e 5) (aget e 6) (aget e 7) (aget e 9) (aget e 11) (aget e 12) h x K:=by kernel_rfl
theorem z25 {C gl e h x K}:NW C gl z37 ⟨e,h,x⟩ K=z1v C gl z5h (aget e 0) (aget e 5) (aget e 6) (aget e 7) (aget e 9) (aget e 11) (aget e 12) h x K:=zhP
def za8 (q1 q3:ACode):ACode:=.pr [0,5,6,7,8,9,11,12] (.seq (rg [mV 31 7,
fA 32 0 none 9,
lD 33 none 32,
uO 34 (.look (none,[2]) false (AI 0) 31 33),
bN 35 .add 34 (cI 1),
wO (.mupd (none,[2]) 31 33 35)] [0,5,6,7,8,9,11,12])
(.seq (rg [mV 36 7,
fA 37 0 none 9,
lD 38 none 37,
uO 39 (.look (none,[2]) false (AI 0) 36 38),
fA 40 1 none 9,
wO (.store none 40 39)] [0,5,6,7,8,9,11,12])
(.seq (.seq (rg [fA 41 3 none 9,
lD 42 none 41] [0,5,6,7,8,9,11,12,42])
(.block 2 (.seq (rg [bN 63 .eql 42 (cI 7),
mV 62 63] [0,5,6,7,8,9,11,12,62])
(.cond 62 (rg [mV 64 0,
uO 65 (.bsl false none 2 (.str []) [(0,(cS [115,97])),(1,(cS [115,98]))]),
cL 66 z1k [64,65],
mV 67 0,
cL 68 z1x [67,(cI 1),(cI 8)],
fA 69 6 none 9,
wO (.store none 69 66),
fA 70 7 none 9,
wO (.store none 70 68)] [0,5,6,7,9,11,12])
(.seq (rg [uO 43 (.bsl false none 3 (.str []) [(0,(cS [98,49])),(1,(cS [98,50])),(2,(cS [98,51]))]),
mV 44 8,
bN 45 .rem 44 (cI 3),
iA 46 none 43 45,
lD 47 none 46,
fA 48 4 none 9,
wO (.store none 48 47)] [0,5,6,7,8,9,11,12])
(.seq (.seq (rg [mV 49 8,
bN 50 .geq 49 (cI 3)] [0,5,6,7,9,11,12,50])
(.cond 50 (rg [mV 51 0,
uO 52 (.bsl false none 5 (.str []) [(0,(cS [98,49])),(1,(cS [98,49])),(2,(cS [98,50])),(3,(cS [98,51])),(4,(cS [98,52]))]),
cL 53 z1k [51,52],
fA 54 4 none 9,
wO (.store none 54 53)] [0,5,6,7,9,11,12])
.skip))
q1))))))
q3)))
def z5i:ACode:=za8 z36 z37
def z2d (C:Hd) (gl:GL) (q1 q3:ACode) (v0 v5 v6 v7 v8 v9 v11 v12:AV) (h:Heap) (x:Esc) (K:KT):Prop:=
 pK (z0c 0 none v9) fun t1=>
 pK (z0e none t1 h) fun t2=>
 pK (z1p (none,[2]) false (AI 0) v7 t2 h) fun t3=>
 pK (oBin .add t3 (AI 1)) fun t4=>
 wK (z17 (none,[2]) v7 t2 t4 h) fun t5 h6 y7=>
 pK (z0c 0 none v9) fun t8=>
 pK (z0e none t8 h6) fun t9=>
 pK (z1p (none,[2]) false (AI 0) v7 t9 h6) fun t10=>
 pK (z0c 1 none v9) fun t11=>
 wK (z0n none t11 t10 h6) fun t12 h13 y14=>
 pK (z0c 3 none v9) fun t15=>
 pK (z0e none t15 h13) fun t16=>
 pK (oBin .eql t16 (AI 7)) fun t17=>
 z0l t17 (wK (oBsl false none 2 (.str []) [(0,(.p (.str [115,97]))),(1,(.p (.str [115,98])))] h13) fun t18 h19 y20=>
 C z1k [v0,t18] h19 fun t21 h22 y23=>
 C z1x [v0,(AI 1),(AI 8)] h22 fun t24 h25 y26=>
 pK (z0c 6 none v9) fun t27=>
 wK (z0n none t27 t21 h25) fun t28 h29 y30=>
 pK (z0c 7 none v9) fun t31=>
 wK (z0n none t31 t24 h29) fun t32 h33 y34=>
 NW C gl q3 ⟨[(0,v0),(5,v5),(6,v6),(7,v7),(9,v9),(11,v11),(12,v12)],h33,(y34++(y30++(y26++(y23++(y20++(y14++(y7++x)))))))⟩ K)
 (wK (oBsl false none 3 (.str []) [(0,(.p (.str [98,49]))),(1,(.p (.str [98,50]))),(2,(.p (.str [98,51])))] h13) fun t35 h36 y37=>
 pK (oBin .rem v8 (AI 3)) fun t38=>
 pK (z0y none t35 t38 h36) fun t39=>
 pK (z0e none t39 h36) fun t40=>
 pK (z0c 4 none v9) fun t41=>
 wK (z0n none t41 t40 h36) fun t42 h43 y44=>
 pK (oBin .geq v8 (AI 3)) fun t45=>
 z0l t45 (wK (oBsl false none 5 (.str []) [(0,(.p (.str [98,49]))),(1,(.p (.str [98,49]))),(2,(.p (.str [98,50]))),(3,(.p (.str [98,51]))),(4,(.p (.str [98,52])))] h43) fun t46 h47 y48=>
 C z1k [v0,t46] h47 fun t49 h50 y51=>
 pK (z0c 4 none v9) fun t52=>
 wK (z0n none t52 t49 h50) fun t53 h54 y55=>
 NW C gl q1 ⟨[(0,v0),(5,v5),(6,v6),(7,v7),(9,v9),(11,v11),(12,v12)],h54,(y55++(y51++(y48++(y44++(y37++(y14++(y7++x)))))))⟩ (z0v 2 (seqN C gl q3 K)))
 (NW C gl q1 ⟨[(0,v0),(5,v5),(6,v6),(7,v7),(9,v9),(11,v11),(12,v12),(50,t45)],h43,(y44++(y37++(y14++(y7++x))))⟩ (z0v 2 (seqN C gl q3 K))))
theorem zhQ {C gl q1 q3 e h x K}:NW C gl (za8 q1 q3) ⟨e,h,x⟩ K=z2d C gl q1 q3 (aget e 0) (aget e 5) (aget e 6) (aget e 7) (aget e 8) (aget e 9) (aget e 11) (aget e 12) h x K:=by kernel_rfl
theorem z7p {C gl e h x K}:NW C gl z5i ⟨e,h,x⟩ K=z2d C gl z36 z37 (aget e 0) (aget e 5) (aget e 6) (aget e 7) (aget e 8) (aget e 9) (aget e 11) (aget e 12) h x K:=zhQ
def z5j:ACode:=.pr [0,5,6,7,11,12] (rg [bN 115 .add 12 (cI 1),
mV 12 115] [0,5,6,7,11,12])
def zbp (C:Hd) (gl:GL) (v0 v5 v6 v7 v11 v12:AV) (h:Heap) (x:Esc) (K:KT):Prop:=
 pK (oBin .add v12 (AI 1)) fun t1=>
 K .normal ⟨[(0,v0),(5,v5),(6,v6),(7,v7),(11,v11),(12,t1)],h,x⟩
theorem zk1 {C gl e h x K}:NW C gl z5j ⟨e,h,x⟩ K=zbp C gl (aget e 0) (aget e 5) (aget e 6) (aget e 7) (aget e 11) (aget e 12) h x K:=by kernel_rfl
def za9 (q4 q5:ACode):ACode:=.pr [0,5,6,7,11,12] (.seq (rg [bN 13 .lss 12 11] [0,5,6,7,11,12,13])
(.seq (.cond 13 .skip
(.exit 0))
(.seq (.block 1 (.seq (rg [mV 14 12,
mV 8 14] [0,5,6,7,8,11,12])
(.seq (rg [mV 15 6,
mV 16 0,
uO 17 (.bsl false none 5 (.int .i64 0) [(0,(cI 0)),(1,(cI 1)),(2,(cI 1)),(3,(cI 3)),(4,(cI 10))]),
cL 18 z27 [16,17],
bN 19 .add 15 18,
mV 6 19] [0,5,6,7,8,11,12])
(.seq (rg [mV 20 0,
uO 21 (.bsl false none 3 (.str []) [(0,(cS [115,97])),(1,(cS [115,97])),(2,(cS [115,98]))]),
cL 22 z1k [20,21],
mV 23 6,
mV 24 0,
uO 25 (.bsl false none 12 (.int .i64 0) [(0,(cI 2)),(1,(cI 2)),(2,(cI 2)),(3,(cI 3)),(4,(cI 3)),(5,(cI 4)),(6,(cI 4)),(7,(cI 5)),(8,(cI 5)),(9,(cI 6)),(10,(cI 7)),(11,(cI 1))]),
cL 26 z27 [24,25],
uO 27 (.build [.p (.str []),.p (.int .i64 0),.p (.int .i64 0),.p (.int .i64 0),.p (.str []),.p (.str []),.p (.str []),.p (.int .i64 0)] [(0,1,22),(2,1,23),(3,1,26)]),
uO 9 (.alloc [.p (.str []),.p (.int .i64 0),.p (.int .i64 0),.p (.int .i64 0),.p (.str []),.p (.str []),.p (.str []),.p (.int .i64 0)]),
wO (.store (some 8) 9 27)] [0,5,6,7,8,9,11,12])
(.seq (.seq (rg [mV 28 8,
bN 29 .lss 28 (cI 3)] [0,5,6,7,8,9,11,12,29])
(.cond 29 (rg [fA 30 3 none 9,
wO (.store none 30 (cI 1))] [0,5,6,7,8,9,11,12])
.skip))
q4)))))
q5)))
def z2D:ACode:=za9 z5i z5j
def z7a (C:Hd) (gl:GL) (q4 q5:ACode) (v0 v5 v6 v7 v11 v12:AV) (h:Heap) (x:Esc) (K:KT):Prop:=
 pK (oBin .lss v12 v11) fun t1=>
 z0l t1 (wK (oBsl false none 5 (.int .i64 0) [(0,(AI 0)),(1,(AI 1)),(2,(AI 1)),(3,(AI 3)),(4,(AI 10))] h) fun t2 h3 y4=>
 C z27 [v0,t2] h3 fun t5 h6 y7=>
 pK (oBin .add v6 t5) fun t8=>
 wK (oBsl false none 3 (.str []) [(0,(.p (.str [115,97]))),(1,(.p (.str [115,97]))),(2,(.p (.str [115,98])))] h6) fun t9 h10 y11=>
 C z1k [v0,t9] h10 fun t12 h13 y14=>
 wK (oBsl false none 12 (.int .i64 0) [(0,(AI 2)),(1,(AI 2)),(2,(AI 2)),(3,(AI 3)),(4,(AI 3)),(5,(AI 4)),(6,(AI 4)),(7,(AI 5)),(8,(AI 5)),(9,(AI 6)),(10,(AI 7)),(11,(AI 1))] h13) fun t15 h16 y17=>
 C z27 [v0,t15] h16 fun t18 h19 y20=>
 pK (z0G [.p (.str []),.p (.int .i64 0),.p (.int .i64 0),.p (.int .i64 0),.p (.str []),.p (.str []),.p (.str []),.p (.int .i64 0)] [(0,1,t12),(2,1,t8),(3,1,t18)]) fun t21=>
 alK [.p (.str []),.p (.int .i64 0),.p (.int .i64 0),.p (.int .i64 0),.p (.str []),.p (.str []),.p (.str []),.p (.int .i64 0)] h19 fun t22 h23 y24=>
 wK (z0n (some 8) t22 t21 h23) fun t25 h26 y27=>
 pK (oBin .lss v12 (AI 3)) fun t28=>
 z0l t28 (pK (z0c 3 none t22) fun t29=>
 wK (z0n none t29 (AI 1) h26) fun t30 h31 y32=>
 NW C gl q4 ⟨[(0,v0),(5,v5),(6,t8),(7,v7),(8,v12),(9,t22),(11,v11),(12,v12)],h31,(y32++(y27++(y24++(y20++(y17++(y14++(y11++(y7++(y4++x)))))))))⟩ (z0v 1 (seqN C gl q5 K)))
 (NW C gl q4 ⟨[(0,v0),(5,v5),(6,t8),(7,v7),(8,v12),(9,t22),(11,v11),(12,v12),(29,t28)],h26,(y27++(y24++(y20++(y17++(y14++(y11++(y7++(y4++x))))))))⟩ (z0v 1 (seqN C gl q5 K))))
 (K (.exit 0) ⟨[(0,v0),(5,v5),(6,v6),(7,v7),(11,v11),(12,v12),(13,t1)],h,x⟩)
theorem zhR {C gl q4 q5 e h x K}:NW C gl (za9 q4 q5) ⟨e,h,x⟩ K=z7a C gl q4 q5 (aget e 0) (aget e 5) (aget e 6) (aget e 7) (aget e 11) (aget e 12) h x K:=by kernel_rfl
theorem zk2 {C gl e h x K}:NW C gl z2D ⟨e,h,x⟩ K=z7a C gl z5i z5j (aget e 0) (aget e 5) (aget e 6) (aget e 7) (aget e 11) (aget e 12) h x K:=zhR
theorem zmp {C gl e h x K}:NW C gl (.loop (.scope z2D)) ⟨e,h,x⟩ K=z1t C gl (.scope z2D) K [(0,aget e 0),(5,aget e 5),(6,aget e 6),(7,aget e 7),(11,aget e 11),(12,aget e 12)] h x:=z1V
def z38:ACode:=.pr [5] (.seq (rg [mV 116 5,
cL 117 z8Z [116,(.f z4i)]] [5])
(.seq (rg [mV 118 5,
mV 4 118] [4])
.ret))
def zbq (C:Hd) (gl:GL) (v5:AV) (h:Heap) (x:Esc) (K:KT):Prop:=
 C z8Z [v5,(.fn z4i [])] h fun t1 h2 y3=>
 K .ret ⟨[(4,v5)],h2,(y3++x)⟩
theorem zk3 {C gl e h x K}:NW C gl z38 ⟨e,h,x⟩ K=zbq C gl (aget e 5) h x K:=by kernel_rfl
def zrW (q6 q7:ACode):ACode:=(.seq (rg [mV 4 (.c (.p (.sl (some 8) [])))] [0,1])
(.seq (rg [uO 5 (.new0 (some 8))] [0,1,5])
(.seq (rg [mV 6 (cI 0)] [0,1,5,6])
(.seq (rg [uO 10 (.mkmap),
mV 7 10] [0,1,5,6,7])
(.seq (.seq (rg [mV 11 1,
mV 12 (cI 0)] [0,5,6,7,11,12])
(.block 0 (.loop (.scope q6))))
q7)))))
def ziB:AFun:=⟨2,[.t 4],zrW z2D z38,false,false⟩
def zeO (C:Hd) (gl:GL) (q6 q7:ACode) (v0 v1:AV) (h:Heap) (x:Esc) (K:KT):Prop:=
 nwK (some 8) h fun t1 h2 y3=>
 mmK h2 fun t4 h5 y6=>
 NW C gl (.loop (.scope q6)) ⟨[(0,v0),(5,t1),(6,(AI 0)),(7,t4),(11,v1),(12,(AI 0))],h5,(y6++(y3++x))⟩ (z0v 0 (seqN C gl q7 K))
theorem E_q03c {C gl q6 q7 v0 v1 h x K}:NW C gl (zrW q6 q7) ⟨enter [v0,v1],h,x⟩ K=zeO C gl q6 q7 v0 v1 h x K:=by kernel_rfl
theorem e_q03c {C gl v0 v1 h x K}:NW C gl ziB.body ⟨enter [v0,v1],h,x⟩ K=zeO C gl z2D z38 v0 v1 h x K:=E_q03c
def z2F:ACode:=.pr [0,11,12,13] (.seq (rg [bN 14 .lss 13 12] [0,11,12,13,14])
(.seq (.cond 14 .skip
(.exit 0))
(.seq (.block 1 (.seq (rg [mV 15 13,
iA 16 (some 8) 11 13,
lD 17 (some 8) 16,
uO 4 (.alloc [.p (.str []),.p (.int .i64 0),.p (.int .i64 0),.p (.int .i64 0),.p (.str []),.p (.str []),.p (.str []),.p (.int .i64 0)]),
mV 3 15,
wO (.store (some 8) 4 17)] [0,3,4,11,12,13])
(.seq (.seq (rg [lD 18 (some 8) 4,
cL 19 z8U [18],
mV 5 19] [0,3,4,5,11,12,13])
(.seq (rg [mV 20 5,
bN 21 .neq 20 (cI 0)] [0,3,4,5,11,12,13,21])
(.cond 21 (.seq (rg [mV 22 5,
mV 2 22] [2])
.ret)
.skip)))
(.seq (dr [dF (mV 23 3) [3],
dF (bN 24 .gtr 23 (cI 0)) [23],
dF (mV 25 24) [24],
dF (gD 26 25 true (.mv 0)) [0,25],
dF (gD 27 25 true (.mv 3)) [3,25],
dF (gD 28 25 true (.bin .sub 27 (cI 1))) [27,25],
dF (gD 29 25 true (.iaddr (some 8) 26 28)) [26,28,25],
dF (gD 30 25 true (.load (some 8) 29)) [29,25],
dF (gD 31 25 true (.load (some 8) 4)) [4,25],
dT (gD 32 25 true (.call z4i [30,31])) [30,31,25],
dF (gD 33 25 true (.bin .geq 32 (cI 0))) [32,25],
dF (uO 34 (.pick 25 33 cF)) [25,33]] [0,11,12,13,34])
(.cond 34 (.seq (rg [mV 2 (cI 7)] [2])
.ret)
.skip)))))
(rg [bN 35 .add 13 (cI 1),
mV 13 35] [0,11,12,13]))))
def zbu (C:Hd) (gl:GL) (v0 v11 v12 v13:AV) (h:Heap) (x:Esc) (K:KT):Prop:=
 pK (oBin .lss v13 v12) fun t1=>
 z0l t1 (pK (z0y (some 8) v11 v13 h) fun t2=>
 pK (z0e (some 8) t2 h) fun t3=>
 alK [.p (.str []),.p (.int .i64 0),.p (.int .i64 0),.p (.int .i64 0),.p (.str []),.p (.str []),.p (.str []),.p (.int .i64 0)] h fun t4 h5 y6=>
 wK (z0n (some 8) t4 t3 h5) fun t7 h8 y9=>
 pK (z0e (some 8) t4 h8) fun t10=>
 C z8U [t10] h8 fun t11 h12 y13=>
 pK (oBin .neq t11 (AI 0)) fun t14=>
 z0l t14 (K .ret ⟨[(2,t11)],h12,(y13++(y9++(y6++x)))⟩)
 (pK (oBin .gtr v13 (AI 0)) fun t15=>
 gM t15 true v0 h12 fun t16 h17 y18=>
 gM t15 true v13 h17 fun t19 h20 y21=>
 gP t15 true (oBin .sub t19 (AI 1)) h20 fun t22 h23 y24=>
 gP t15 true (z0y (some 8) t16 t22 h23) h23 fun t25 h26 y27=>
 gP t15 true (z0e (some 8) t25 h26) h26 fun t28 h29 y30=>
 gP t15 true (z0e (some 8) t4 h29) h29 fun t31 h32 y33=>
 gV t15 true h32 (z1J C z4i [t28,t31] h32) fun t34 h35 y36=>
 gP t15 true (oBin .geq t34 (AI 0)) h35 fun t37 h38 y39=>
 pK (z0M t15 t37 (AB false)) fun t40=>
 z0l t40 (K .ret ⟨[(2,(AI 7))],h38,(y39++(y36++(y33++(y30++(y27++(y24++(y21++(y18++(y13++(y9++(y6++x)))))))))))⟩)
 (pK (oBin .add v13 (AI 1)) fun t41=>
 K .normal ⟨[(0,v0),(11,v11),(12,v12),(13,t41)],h38,(y39++(y36++(y33++(y30++(y27++(y24++(y21++(y18++(y13++(y9++(y6++x)))))))))))⟩)))
 (K (.exit 0) ⟨[(0,v0),(11,v11),(12,v12),(13,v13),(14,t1)],h,x⟩)
theorem zk6 {C gl e h x K}:NW C gl z2F ⟨e,h,x⟩ K=zbu C gl (aget e 0) (aget e 11) (aget e 12) (aget e 13) h x K:=by kernel_rfl
theorem zmr {C gl e h x K}:NW C gl (.loop (.scope z2F)) ⟨e,h,x⟩ K=z1t C gl (.scope z2F) K [(0,aget e 0),(11,aget e 11),(12,aget e 12),(13,aget e 13)] h x:=z1V
def z39:ACode:=.pr [0,36,37,38] (.seq (rg [bN 39 .lss 38 37] [0,36,37,38,39])
(.seq (.cond 39 .skip
(.exit 2))
(.seq (.block 3 (.seq (rg [mV 40 38,
iA 41 (some 8) 36 38,
lD 42 (some 8) 41,
uO 7 (.alloc [.p (.str []),.p (.int .i64 0),.p (.int .i64 0),.p (.int .i64 0),.p (.str []),.p (.str []),.p (.str []),.p (.int .i64 0)]),
mV 6 40,
wO (.store (some 8) 7 42)] [0,6,7,36,37,38])
(.seq (rg [mV 43 0,
mV 44 6,
uO 45 (.slice (some 8) 43 none (some 44) none),
uO 46 (.mkfn z7x [7]),
cL 47 z8X [45,46]] [0,36,37,38,47])
(.cond 47 (.seq (rg [mV 2 (cI 6)] [2])
.ret)
.skip))))
(rg [bN 48 .add 38 (cI 1),
mV 38 48] [0,36,37,38]))))
def zbv (C:Hd) (gl:GL) (v0 v36 v37 v38:AV) (h:Heap) (x:Esc) (K:KT):Prop:=
 pK (oBin .lss v38 v37) fun t1=>
 z0l t1 (pK (z0y (some 8) v36 v38 h) fun t2=>
 pK (z0e (some 8) t2 h) fun t3=>
 alK [.p (.str []),.p (.int .i64 0),.p (.int .i64 0),.p (.int .i64 0),.p (.str []),.p (.str []),.p (.str []),.p (.int .i64 0)] h fun t4 h5 y6=>
 wK (z0n (some 8) t4 t3 h5) fun t7 h8 y9=>
 pK (z4m (some 8) v0 none (some v38) none h8) fun t10=>
 C z8X [t10,(.fn z7x [t4])] h8 fun t11 h12 y13=>
 z0l t11 (K .ret ⟨[(2,(AI 6))],h12,(y13++(y9++(y6++x)))⟩)
 (pK (oBin .add v38 (AI 1)) fun t14=>
 K .normal ⟨[(0,v0),(36,v36),(37,v37),(38,t14)],h12,(y13++(y9++(y6++x)))⟩))
 (K (.exit 2) ⟨[(0,v0),(36,v36),(37,v37),(38,v38),(39,t1)],h,x⟩)
theorem zk7 {C gl e h x K}:NW C gl z39 ⟨e,h,x⟩ K=zbv C gl (aget e 0) (aget e 36) (aget e 37) (aget e 38) h x K:=by kernel_rfl
theorem zms {C gl e h x K}:NW C gl (.loop (.scope z39)) ⟨e,h,x⟩ K=z1t C gl (.scope z39) K [(0,aget e 0),(36,aget e 36),(37,aget e 37),(38,aget e 38)] h x:=z1V
def z7K:ACode:=.pr [] (.seq (rg [mV 2 (cI 0)] [2])
.ret)
def zbw (C:Hd) (gl:GL) (h:Heap) (x:Esc) (K:KT):Prop:=
 K .ret ⟨[(2,(AI 0))],h,x⟩
theorem zk8 {C gl e h x K}:NW C gl z7K ⟨e,h,x⟩ K=zbw C gl h x K:=by kernel_rfl
def zaA (q2 q3:ACode):ACode:=.pr [0] (.seq (.seq (rg [mV 36 0,
lN 37 36,
mV 38 (cI 0)] [0,36,37,38])
(.block 2 (.loop (.scope q2))))
q3)
def z5l:ACode:=zaA z39 z7K
def z4F (C:Hd) (gl:GL) (q2 q3:ACode) (v0:AV) (h:Heap) (x:Esc) (K:KT):Prop:=
 pK (oLen v0) fun t1=>
 NW C gl (.loop (.scope q2)) ⟨[(0,v0),(36,v0),(37,t1),(38,(AI 0))],h,x⟩ (z0v 2 (seqN C gl q3 K))
theorem zhS {C gl q2 q3 e h x K}:NW C gl (zaA q2 q3) ⟨e,h,x⟩ K=z4F C gl q2 q3 (aget e 0) h x K:=by kernel_rfl
theorem z7q {C gl e h x K}:NW C gl z5l ⟨e,h,x⟩ K=z4F C gl z39 z7K (aget e 0) h x K:=zhS
def zrY (q1 q4:ACode):ACode:=(.seq (rg [mV 2 (cI 0)] [0])
(.seq (.seq (rg [mV 8 0,
lN 9 8,
bN 10 .gtr 9 (cI 2000)] [0,10])
(.cond 10 (.seq (rg [mV 2 (cI 2)] [2])
.ret)
.skip))
(.seq (.seq (rg [mV 11 0,
lN 12 11,
mV 13 (cI 0)] [0,11,12,13])
(.block 0 (.loop (.scope q1))))
q4)))
def ziK:AFun:=⟨1,[.t 2],zrY z2F z5l,false,false⟩
def zbt (C:Hd) (gl:GL) (q1 q4:ACode) (v0:AV) (h:Heap) (x:Esc) (K:KT):Prop:=
 pK (oLen v0) fun t1=>
 pK (oBin .gtr t1 (AI 2000)) fun t2=>
 z0l t2 (K .ret ⟨[(2,(AI 2))],h,x⟩)
 (pK (oLen v0) fun t3=>
 NW C gl (.loop (.scope q1)) ⟨[(0,v0),(11,v0),(12,t3),(13,(AI 0))],h,x⟩ (z0v 0 (seqN C gl q4 K)))
theorem E_q03v {C gl q1 q4 v0 h x K}:NW C gl (zrY q1 q4) ⟨enter [v0],h,x⟩ K=zbt C gl q1 q4 v0 h x K:=by kernel_rfl
theorem e_q03v {C gl v0 h x K}:NW C gl ziK.body ⟨enter [v0],h,x⟩ K=zbt C gl z2F z5l v0 h x K:=E_q03v
def P_q03h:ACode:=(.seq (rg [mV 4 (cI 0)] [0,1])
(.seq (rg [mV 7 0,
uO 8 (.nilchk 7),
fA 9 1 none 8,
lD 10 none 9,
bN 11 .add 10 (cI 1),
uO 12 (.nilchk 7),
fA 13 1 none 12,
wO (.store none 13 11)] [0,1])
(.seq (.seq (rg [mV 14 0,
uO 15 (.nilchk 14),
fA 16 0 none 15,
lD 17 none 16,
lN 18 17,
bN 19 .eql 18 (cI 0)] [0,1,19])
(.cond 19 (.seq (rg [mV 20 0,
uO 21 (.nilchk 20),
fA 22 1 none 21,
lD 23 none 22,
bN 24 .mul 23 (cI 7919),
mV 25 1,
cL 26 z4h [24,25],
mV 4 26] [4])
.ret)
.skip))
(.seq (dr [dF (mV 27 0) [0],
dF (uO 28 (.nilchk 27)) [27],
dF (fA 29 1 none 28) [28],
dF (lD 30 none 29) [29],
dF (bN 31 .sub 30 (cI 1)) [30],
dF (mV 32 0) [0],
dF (uO 33 (.nilchk 32)) [32],
dF (fA 34 0 none 33) [33],
dF (lD 35 none 34) [34],
dF (lN 36 35) [35],
dF (bN 37 .rem 31 36) [31,36],
dF (mV 5 37) [37]] [0,1,5])
(.seq (dr [dF (mV 38 0) [0],
dF (uO 39 (.nilchk 38)) [38],
dF (fA 40 1 none 39) [39],
dF (lD 41 none 40) [40],
dF (bN 42 .sub 41 (cI 1)) [41],
dF (mV 43 0) [0],
dF (uO 44 (.nilchk 43)) [43],
dF (fA 45 0 none 44) [44],
dF (lD 46 none 45) [45],
dF (lN 47 46) [46],
dF (bN 48 .quo 42 47) [42,47],
dF (mV 6 48) [48]] [0,1,5,6])
(.seq (rg [mV 49 0,
uO 50 (.nilchk 49),
fA 51 0 none 50,
lD 52 none 51,
mV 53 5,
iA 54 none 52 53,
lD 55 none 54,
cL 56 z4h [55,(cI 1073741824)],
mV 57 6,
mV 58 5,
bN 59 .add (cI 7919) 58,
bN 60 .mul 57 59,
bN 61 .add 56 60,
mV 62 1,
cL 63 z4h [61,62],
mV 4 63] [4])
.ret))))))
def ziD:AFun:=⟨2,[.t 4],P_q03h,false,false⟩
def zeP (C:Hd) (gl:GL) (v0 v1:AV) (h:Heap) (x:Esc) (K:KT):Prop:=
 pK (oNil v0) fun t1=>
 pK (z0c 1 none t1) fun t2=>
 pK (z0e none t2 h) fun t3=>
 pK (oBin .add t3 (AI 1)) fun t4=>
 pK (oNil v0) fun t5=>
 pK (z0c 1 none t5) fun t6=>
 wK (z0n none t6 t4 h) fun t7 h8 y9=>
 pK (oNil v0) fun t10=>
 pK (z0c 0 none t10) fun t11=>
 pK (z0e none t11 h8) fun t12=>
 pK (oLen t12) fun t13=>
 pK (oBin .eql t13 (AI 0)) fun t14=>
 z0l t14 (pK (oNil v0) fun t15=>
 pK (z0c 1 none t15) fun t16=>
 pK (z0e none t16 h8) fun t17=>
 pK (oBin .mul t17 (AI 7919)) fun t18=>
 C z4h [t18,v1] h8 fun t19 h20 y21=>
 K .ret ⟨[(4,t19)],h20,(y21++(y9++x))⟩)
 (pK (oNil v0) fun t22=>
 pK (z0c 1 none t22) fun t23=>
 pK (z0e none t23 h8) fun t24=>
 pK (oBin .sub t24 (AI 1)) fun t25=>
 pK (oNil v0) fun t26=>
 pK (z0c 0 none t26) fun t27=>
 pK (z0e none t27 h8) fun t28=>
 pK (oLen t28) fun t29=>
 pK (oBin .rem t25 t29) fun t30=>
 pK (oNil v0) fun t31=>
 pK (z0c 1 none t31) fun t32=>
 pK (z0e none t32 h8) fun t33=>
 pK (oBin .sub t33 (AI 1)) fun t34=>
 pK (oNil v0) fun t35=>
 pK (z0c 0 none t35) fun t36=>
 pK (z0e none t36 h8) fun t37=>
 pK (oLen t37) fun t38=>
 pK (oBin .quo t34 t38) fun t39=>
 pK (oNil v0) fun t40=>
 pK (z0c 0 none t40) fun t41=>
 pK (z0e none t41 h8) fun t42=>
 pK (z0y none t42 t30 h8) fun t43=>
 pK (z0e none t43 h8) fun t44=>
 C z4h [t44,(AI 1073741824)] h8 fun t45 h46 y47=>
 pK (oBin .add (AI 7919) t30) fun t48=>
 pK (oBin .mul t39 t48) fun t49=>
 pK (oBin .add t45 t49) fun t50=>
 C z4h [t50,v1] h46 fun t51 h52 y53=>
 K .ret ⟨[(4,t51)],h52,(y53++(y47++(y9++x)))⟩)
theorem e_q03h {C gl v0 v1 h x K}:NW C gl ziD.body ⟨enter [v0,v1],h,x⟩ K=zeP C gl v0 v1 h x K:=by kernel_rfl
def z29:ACode:=.pr [5,6,7] (.seq (rg [bN 8 .lss 7 6] [5,6,7,8])
(.seq (.cond 8 .skip
(.exit 0))
(.seq (.block 1 (.seq (rg [iA 9 none 5 7,
lD 10 none 9,
mV 4 10] [4,5,6,7])
(.seq (rg [mV 11 4,
bN 12 .neq 11 (cI 0)] [4,5,6,7,12])
(.cond 12 (.seq (rg [mV 13 4,
mV 2 13] [2])
.ret)
.skip))))
(rg [bN 14 .add 7 (cI 1),
mV 7 14] [5,6,7]))))
def zbd (C:Hd) (gl:GL) (v5 v6 v7:AV) (h:Heap) (x:Esc) (K:KT):Prop:=
 pK (oBin .lss v7 v6) fun t1=>
 z0l t1 (pK (z0y none v5 v7 h) fun t2=>
 pK (z0e none t2 h) fun t3=>
 pK (oBin .neq t3 (AI 0)) fun t4=>
 z0l t4 (K .ret ⟨[(2,t3)],h,x⟩)
 (pK (oBin .add v7 (AI 1)) fun t5=>
 K .normal ⟨[(5,v5),(6,v6),(7,t5)],h,x⟩))
 (K (.exit 0) ⟨[(5,v5),(6,v6),(7,v7),(8,t1)],h,x⟩)
theorem zkr {C gl e h x K}:NW C gl z29 ⟨e,h,x⟩ K=zbd C gl (aget e 5) (aget e 6) (aget e 7) h x K:=by kernel_rfl
theorem zml {C gl e h x K}:NW C gl (.loop z29) ⟨e,h,x⟩ K=z1t C gl z29 K [(5,aget e 5),(6,aget e 6),(7,aget e 7)] h x:=z0F
def z5c:ACode:=.pr [] (.seq (rg [mV 2 (cI 0)] [2])
.ret)
def zbe (C:Hd) (gl:GL) (h:Heap) (x:Esc) (K:KT):Prop:=
 K .ret ⟨[(2,(AI 0))],h,x⟩
theorem zks {C gl e h x K}:NW C gl z5c ⟨e,h,x⟩ K=zbe C gl h x K:=by kernel_rfl
def zrR (q1 q2:ACode):ACode:=(.seq (rg [mV 2 (cI 0)] [0])
(.seq (.seq (rg [mV 5 0,
lN 6 5,
mV 7 (cI 0)] [5,6,7])
(.block 0 (.loop q1)))
q2))
def zea:AFun:=⟨1,[.t 2],zrR z29 z5c,false,false⟩
def zeJ (C:Hd) (gl:GL) (q1 q2:ACode) (v0:AV) (h:Heap) (x:Esc) (K:KT):Prop:=
 pK (oLen v0) fun t1=>
 NW C gl (.loop q1) ⟨[(5,v0),(6,t1),(7,(AI 0))],h,x⟩ (z0v 0 (seqN C gl q2 K))
theorem E_q002 {C gl q1 q2 v0 h x K}:NW C gl (zrR q1 q2) ⟨enter [v0],h,x⟩ K=zeJ C gl q1 q2 v0 h x K:=by kernel_rfl
theorem e_q002 {C gl v0 h x K}:NW C gl zea.body ⟨enter [v0],h,x⟩ K=zeJ C gl z29 z5c v0 h x K:=E_q002
def z2O:ACode:=.pr [1,16,17,18] (.seq (rg [bN 19 .lss 18 17] [1,16,17,18,19])
(.seq (.cond 19 .skip
(.exit 1))
(.seq (.block 2 (.seq (rg [mV 20 18,
iA 21 none 16 18,
lD 22 none 21,
mV 3 20,
mV 4 22] [1,3,4,16,17,18])
(.block 3 (.seq (rg [mV 24 4,
cL 25 z1w [24],
uO 26 (.un .not 25),
mV 23 26] [1,3,4,16,17,18,23])
(.cond 23 (.seq (rg [mV 2 (cI 5)] [2])
.ret)
(.seq (rg [fA 28 0 none 1,
lD 29 none 28,
mV 30 3,
uO 31 (.slice none 29 none (some 30) none),
mV 32 4,
cL 33 z4j [31,32],
mV 27 33] [1,16,17,18,27])
(.cond 27 (.seq (rg [mV 2 (cI 6)] [2])
.ret)
.skip)))))))
(rg [bN 34 .add 18 (cI 1),
mV 18 34] [1,16,17,18]))))
def zbH (C:Hd) (gl:GL) (v1 v16 v17 v18:AV) (h:Heap) (x:Esc) (K:KT):Prop:=
 pK (oBin .lss v18 v17) fun t1=>
 z0l t1 (pK (z0y none v16 v18 h) fun t2=>
 pK (z0e none t2 h) fun t3=>
 C z1w [t3] h fun t4 h5 y6=>
 pK (oUn .not t4) fun t7=>
 z0l t7 (K .ret ⟨[(2,(AI 5))],h5,(y6++x)⟩)
 (pK (z0c 0 none v1) fun t8=>
 pK (z0e none t8 h5) fun t9=>
 pK (z4m none t9 none (some v18) none h5) fun t10=>
 C z4j [t10,t3] h5 fun t11 h12 y13=>
 z0l t11 (K .ret ⟨[(2,(AI 6))],h12,(y13++(y6++x))⟩)
 (pK (oBin .add v18 (AI 1)) fun t14=>
 K .normal ⟨[(1,v1),(16,v16),(17,v17),(18,t14)],h12,(y13++(y6++x))⟩)))
 (K (.exit 1) ⟨[(1,v1),(16,v16),(17,v17),(18,v18),(19,t1)],h,x⟩)
theorem zkX {C gl e h x K}:NW C gl z2O ⟨e,h,x⟩ K=zbH C gl (aget e 1) (aget e 16) (aget e 17) (aget e 18) h x K:=by kernel_rfl
theorem zm4 {C gl e h x K}:NW C gl (.loop z2O) ⟨e,h,x⟩ K=z1t C gl z2O K [(1,aget e 1),(16,aget e 16),(17,aget e 17),(18,aget e 18)] h x:=z0F
def z5u:ACode:=.pr [1] (.seq (.seq (rg [fA 35 1 none 1,
lD 36 none 35,
cL 37 z0I [36,(cI 1),(cI 10)]] [37])
(.cond 37 (.seq (rg [mV 2 (cI 1)] [2])
.ret)
.skip))
(.seq (rg [mV 2 (cI 0)] [2])
.ret))
def z4G (C:Hd) (gl:GL) (v1:AV) (h:Heap) (x:Esc) (K:KT):Prop:=
 pK (z0c 1 none v1) fun t1=>
 pK (z0e none t1 h) fun t2=>
 C z0I [t2,(AI 1),(AI 10)] h fun t3 h4 y5=>
 z0l t3 (K .ret ⟨[(2,(AI 1))],h4,(y5++x)⟩)
 (K .ret ⟨[(2,(AI 0))],h4,(y5++x)⟩)
theorem z7r {C gl e h x K}:NW C gl z5u ⟨e,h,x⟩ K=z4G C gl (aget e 1) h x K:=by kernel_rfl
def zsi (q1 q2:ACode):ACode:=(.seq (rg [uO 1 (.box 0),
mV 2 (cI 0)] [1])
(.seq (.block 0 (.seq (rg [fA 6 0 none 1,
lD 7 none 6,
lN 8 7,
bN 9 .eql 8 (cI 0),
mV 5 9] [1,5])
(.cond 5 (.seq (rg [mV 2 (cI 8)] [2])
.ret)
(.seq (rg [fA 11 0 none 1,
lD 12 none 11,
lN 13 12,
bN 14 .gtr 13 (cI 20),
mV 10 14] [1,10])
(.cond 10 (.seq (rg [mV 2 (cI 2)] [2])
.ret)
.skip)))))
(.seq (.seq (rg [fA 15 0 none 1,
lD 16 none 15,
lN 17 16,
mV 18 (cI 0)] [1,16,17,18])
(.block 1 (.loop q1)))
q2)))
def zep:AFun:=⟨1,[.t 2],zsi z2O z5u,false,false⟩
def z8K (C:Hd) (gl:GL) (q1 q2:ACode) (v0:AV) (h:Heap) (x:Esc) (K:KT):Prop:=
 wK (oBox v0 h) fun t1 h2 y3=>
 pK (z0c 0 none t1) fun t4=>
 pK (z0e none t4 h2) fun t5=>
 pK (oLen t5) fun t6=>
 pK (oBin .eql t6 (AI 0)) fun t7=>
 z0l t7 (K .ret ⟨[(2,(AI 8))],h2,(y3++x)⟩)
 (pK (z0c 0 none t1) fun t8=>
 pK (z0e none t8 h2) fun t9=>
 pK (oLen t9) fun t10=>
 pK (oBin .gtr t10 (AI 20)) fun t11=>
 z0l t11 (K .ret ⟨[(2,(AI 2))],h2,(y3++x)⟩)
 (pK (z0c 0 none t1) fun t12=>
 pK (z0e none t12 h2) fun t13=>
 pK (oLen t13) fun t14=>
 NW C gl (.loop q1) ⟨[(1,t1),(16,t13),(17,t14),(18,(AI 0))],h2,(y3++x)⟩ (z0v 1 (seqN C gl q2 K))))
theorem E_q07s {C gl q1 q2 v0 h x K}:NW C gl (zsi q1 q2) ⟨enter [v0],h,x⟩ K=z8K C gl q1 q2 v0 h x K:=by kernel_rfl
theorem e_q07s {C gl v0 h x K}:NW C gl zep.body ⟨enter [v0],h,x⟩ K=z8K C gl z2O z5u v0 h x K:=E_q07s
def z2N:ACode:=.pr [0,9,10,11] (.seq (rg [bN 12 .lss 11 10] [0,9,10,11,12])
(.seq (.cond 12 .skip
(.exit 0))
(.seq (.block 1 (.seq (rg [mV 13 11,
iA 14 (some 8) 9 11,
lD 15 (some 8) 14,
uO 4 (.alloc [.p (.str []),.p (.int .i64 0),.p (.int .i64 0),.p (.int .i64 0),.p (.str []),.p (.str []),.p (.str []),.p (.int .i64 0)]),
mV 3 13,
wO (.store (some 8) 4 15)] [0,3,4,9,10,11])
(.seq (.seq (rg [lD 16 (some 8) 4,
cL 17 z71 [16],
mV 5 17] [0,3,4,5,9,10,11])
(.seq (rg [mV 18 5,
bN 19 .neq 18 (cI 0)] [0,3,4,5,9,10,11,19])
(.cond 19 (.seq (rg [mV 20 5,
mV 2 20] [2])
.ret)
.skip)))
(.seq (dr [dF (mV 21 3) [3],
dF (bN 22 .gtr 21 (cI 0)) [21],
dF (mV 23 22) [22],
dF (gD 24 23 true (.load (some 8) 4)) [4,23],
dF (gD 25 23 true (.mv 0)) [0,23],
dF (gD 26 23 true (.mv 3)) [3,23],
dF (gD 27 23 true (.bin .sub 26 (cI 1))) [26,23],
dF (gD 28 23 true (.iaddr (some 8) 25 27)) [25,27,23],
dF (gD 29 23 true (.load (some 8) 28)) [28,23],
dT (gD 30 23 true (.call z7z [24,29])) [24,29,23],
dF (gD 31 23 true (.bin .leq 30 (cI 0))) [30,23],
dF (uO 32 (.pick 23 31 cF)) [23,31]] [0,9,10,11,32])
(.cond 32 (.seq (rg [mV 2 (cI 7)] [2])
.ret)
.skip)))))
(rg [bN 33 .add 11 (cI 1),
mV 11 33] [0,9,10,11]))))
def zbF (C:Hd) (gl:GL) (v0 v9 v10 v11:AV) (h:Heap) (x:Esc) (K:KT):Prop:=
 pK (oBin .lss v11 v10) fun t1=>
 z0l t1 (pK (z0y (some 8) v9 v11 h) fun t2=>
 pK (z0e (some 8) t2 h) fun t3=>
 alK [.p (.str []),.p (.int .i64 0),.p (.int .i64 0),.p (.int .i64 0),.p (.str []),.p (.str []),.p (.str []),.p (.int .i64 0)] h fun t4 h5 y6=>
 wK (z0n (some 8) t4 t3 h5) fun t7 h8 y9=>
 pK (z0e (some 8) t4 h8) fun t10=>
 C z71 [t10] h8 fun t11 h12 y13=>
 pK (oBin .neq t11 (AI 0)) fun t14=>
 z0l t14 (K .ret ⟨[(2,t11)],h12,(y13++(y9++(y6++x)))⟩)
 (pK (oBin .gtr v11 (AI 0)) fun t15=>
 gP t15 true (z0e (some 8) t4 h12) h12 fun t16 h17 y18=>
 gM t15 true v0 h17 fun t19 h20 y21=>
 gM t15 true v11 h20 fun t22 h23 y24=>
 gP t15 true (oBin .sub t22 (AI 1)) h23 fun t25 h26 y27=>
 gP t15 true (z0y (some 8) t19 t25 h26) h26 fun t28 h29 y30=>
 gP t15 true (z0e (some 8) t28 h29) h29 fun t31 h32 y33=>
 gV t15 true h32 (z1J C z7z [t16,t31] h32) fun t34 h35 y36=>
 gP t15 true (oBin .leq t34 (AI 0)) h35 fun t37 h38 y39=>
 pK (z0M t15 t37 (AB false)) fun t40=>
 z0l t40 (K .ret ⟨[(2,(AI 7))],h38,(y39++(y36++(y33++(y30++(y27++(y24++(y21++(y18++(y13++(y9++(y6++x)))))))))))⟩)
 (pK (oBin .add v11 (AI 1)) fun t41=>
 K .normal ⟨[(0,v0),(9,v9),(10,v10),(11,t41)],h38,(y39++(y36++(y33++(y30++(y27++(y24++(y21++(y18++(y13++(y9++(y6++x)))))))))))⟩)))
 (K (.exit 0) ⟨[(0,v0),(9,v9),(10,v10),(11,v11),(12,t1)],h,x⟩)
theorem zkV {C gl e h x K}:NW C gl z2N ⟨e,h,x⟩ K=zbF C gl (aget e 0) (aget e 9) (aget e 10) (aget e 11) h x K:=by kernel_rfl
theorem zm3 {C gl e h x K}:NW C gl (.loop (.scope z2N)) ⟨e,h,x⟩ K=z1t C gl (.scope z2N) K [(0,aget e 0),(9,aget e 9),(10,aget e 10),(11,aget e 11)] h x:=z1V
def z5t:ACode:=.pr [0] (.seq (.seq (rg [mV 34 0,
cL 35 z76 [34]] [35])
(.cond 35 (.seq (rg [mV 2 (cI 6)] [2])
.ret)
.skip))
(.seq (rg [mV 2 (cI 0)] [2])
.ret))
def zbG (C:Hd) (gl:GL) (v0:AV) (h:Heap) (x:Esc) (K:KT):Prop:=
 C z76 [v0] h fun t1 h2 y3=>
 z0l t1 (K .ret ⟨[(2,(AI 6))],h2,(y3++x)⟩)
 (K .ret ⟨[(2,(AI 0))],h2,(y3++x)⟩)
theorem zkW {C gl e h x K}:NW C gl z5t ⟨e,h,x⟩ K=zbG C gl (aget e 0) h x K:=by kernel_rfl
def zsh (q1 q2:ACode):ACode:=(.seq (rg [mV 2 (cI 0)] [0])
(.seq (.seq (rg [mV 6 0,
lN 7 6,
bN 8 .gtr 7 (cI 2000)] [0,8])
(.cond 8 (.seq (rg [mV 2 (cI 2)] [2])
.ret)
.skip))
(.seq (.seq (rg [mV 9 0,
lN 10 9,
mV 11 (cI 0)] [0,9,10,11])
(.block 0 (.loop (.scope q1))))
q2)))
def zeo:AFun:=⟨1,[.t 2],zsh z2N z5t,false,false⟩
def zbE (C:Hd) (gl:GL) (q1 q2:ACode) (v0:AV) (h:Heap) (x:Esc) (K:KT):Prop:=
 pK (oLen v0) fun t1=>
 pK (oBin .gtr t1 (AI 2000)) fun t2=>
 z0l t2 (K .ret ⟨[(2,(AI 2))],h,x⟩)
 (pK (oLen v0) fun t3=>
 NW C gl (.loop (.scope q1)) ⟨[(0,v0),(9,v0),(10,t3),(11,(AI 0))],h,x⟩ (z0v 0 (seqN C gl q2 K)))
theorem E_q07r {C gl q1 q2 v0 h x K}:NW C gl (zsh q1 q2) ⟨enter [v0],h,x⟩ K=zbE C gl q1 q2 v0 h x K:=by kernel_rfl
theorem e_q07r {C gl v0 h x K}:NW C gl zeo.body ⟨enter [v0],h,x⟩ K=zbE C gl z2N z5t v0 h x K:=E_q07r
def z2A:ACode:=.pr [0,23,24] (.seq (rg [bN 25 .lss 24 23] [0,23,24,25])
(.seq (.cond 25 .skip
(.exit 0))
(.seq (.block 1 (.seq (rg [mV 26 24,
mV 3 26] [0,3,23,24])
(.seq (rg [mV 27 0,
mV 28 3,
uO 29 (.idxs 27 28),
mV 4 29] [0,4,23,24])
(.seq (rg [mV 30 4,
bN 31 .geq 30 (.c (.p (.int .u8 97))),
mV 32 31,
gD 33 32 true (.mv 4),
gD 34 32 true (.bin .leq 33 (.c (.p (.int .u8 122)))),
uO 35 (.pick 32 34 cF),
mV 36 35,
gD 37 36 false (.mv 4),
gD 38 36 false (.bin .geq 37 (.c (.p (.int .u8 48)))),
gD 39 36 false (.mv 38),
gD 40 39 true (.mv 4),
gD 41 39 true (.bin .leq 40 (.c (.p (.int .u8 57)))),
gD 42 36 false (.pick 39 41 cF),
uO 43 (.pick 36 cT 42),
mV 44 43,
gD 45 44 false (.mv 4),
gD 46 44 false (.bin .eql 45 (.c (.p (.int .u8 45)))),
uO 47 (.pick 44 cT 46),
mV 48 47,
gD 49 48 false (.mv 4),
gD 50 48 false (.bin .eql 49 (.c (.p (.int .u8 95)))),
uO 51 (.pick 48 cT 50),
uO 52 (.un .not 51)] [0,23,24,52])
(.cond 52 (.seq (rg [mV 2 cF] [2])
.ret)
.skip)))))
(rg [bN 53 .add 24 (cI 1),
mV 24 53] [0,23,24]))))
def zbf (C:Hd) (gl:GL) (v0 v23 v24:AV) (h:Heap) (x:Esc) (K:KT):Prop:=
 pK (oBin .lss v24 v23) fun t1=>
 z0l t1 (pK (zc3 v0 v24) fun t2=>
 pK (oBin .geq t2 (.p (.int .u8 97))) fun t3=>
 gM t3 true t2 h fun t4 h5 y6=>
 gP t3 true (oBin .leq t4 (.p (.int .u8 122))) h5 fun t7 h8 y9=>
 pK (z0M t3 t7 (AB false)) fun t10=>
 gM t10 false t2 h8 fun t11 h12 y13=>
 gP t10 false (oBin .geq t11 (.p (.int .u8 48))) h12 fun t14 h15 y16=>
 gM t10 false t14 h15 fun t17 h18 y19=>
 gM t17 true t2 h18 fun t20 h21 y22=>
 gP t17 true (oBin .leq t20 (.p (.int .u8 57))) h21 fun t23 h24 y25=>
 gP t10 false (z0M t17 t23 (AB false)) h24 fun t26 h27 y28=>
 pK (z0M t10 (AB true) t26) fun t29=>
 gM t29 false t2 h27 fun t30 h31 y32=>
 gP t29 false (oBin .eql t30 (.p (.int .u8 45))) h31 fun t33 h34 y35=>
 pK (z0M t29 (AB true) t33) fun t36=>
 gM t36 false t2 h34 fun t37 h38 y39=>
 gP t36 false (oBin .eql t37 (.p (.int .u8 95))) h38 fun t40 h41 y42=>
 pK (z0M t36 (AB true) t40) fun t43=>
 pK (oUn .not t43) fun t44=>
 z0l t44 (K .ret ⟨[(2,(AB false))],h41,(y42++(y39++(y35++(y32++(y28++(y25++(y22++(y19++(y16++(y13++(y9++(y6++x))))))))))))⟩)
 (pK (oBin .add v24 (AI 1)) fun t45=>
 K .normal ⟨[(0,v0),(23,v23),(24,t45)],h41,(y42++(y39++(y35++(y32++(y28++(y25++(y22++(y19++(y16++(y13++(y9++(y6++x))))))))))))⟩))
 (K (.exit 0) ⟨[(0,v0),(23,v23),(24,v24),(25,t1)],h,x⟩)
theorem zkt {C gl e h x K}:NW C gl z2A ⟨e,h,x⟩ K=zbf C gl (aget e 0) (aget e 23) (aget e 24) h x K:=by kernel_rfl
theorem zmm {C gl e h x K}:NW C gl (.loop z2A) ⟨e,h,x⟩ K=z1t C gl z2A K [(0,aget e 0),(23,aget e 23),(24,aget e 24)] h x:=z0F
def z5d:ACode:=.pr [] (.seq (rg [mV 2 cT] [2])
.ret)
def zbg (C:Hd) (gl:GL) (h:Heap) (x:Esc) (K:KT):Prop:=
 K .ret ⟨[(2,(AB true))],h,x⟩
theorem zku {C gl e h x K}:NW C gl z5d ⟨e,h,x⟩ K=zbg C gl h x K:=by kernel_rfl
def zrS (q1 q2:ACode):ACode:=(.seq (rg [mV 2 cF] [0])
(.seq (.seq (rg [mV 5 0,
bN 6 .eql 5 (cS []),
mV 7 6,
gD 8 7 false (.mv 0),
gD 9 7 false (.lens 8),
gD 10 7 false (.bin .gtr 9 (cI 40)),
uO 11 (.pick 7 cT 10),
mV 12 11,
gD 13 12 false (.mv 0),
gD 14 12 false (.idxs 13 (cI 0)),
gD 15 12 false (.bin .lss 14 (.c (.p (.int .u8 97)))),
uO 16 (.pick 12 cT 15),
mV 17 16,
gD 18 17 false (.mv 0),
gD 19 17 false (.idxs 18 (cI 0)),
gD 20 17 false (.bin .gtr 19 (.c (.p (.int .u8 122)))),
uO 21 (.pick 17 cT 20)] [0,21])
(.cond 21 (.seq (rg [mV 2 cF] [2])
.ret)
.skip))
(.seq (.seq (rg [mV 22 0,
uO 23 (.lens 22),
mV 24 (cI 0)] [0,23,24])
(.block 0 (.loop q1)))
q2)))
def zeb:AFun:=⟨1,[.t 2],zrS z2A z5d,false,false⟩
def z6g (C:Hd) (gl:GL) (q1 q2:ACode) (v0:AV) (h:Heap) (x:Esc) (K:KT):Prop:=
 pK (oBin .eql v0 (.p (.str []))) fun t1=>
 gM t1 false v0 h fun t2 h3 y4=>
 gP t1 false (zd9 t2) h3 fun t5 h6 y7=>
 gP t1 false (oBin .gtr t5 (AI 40)) h6 fun t8 h9 y10=>
 pK (z0M t1 (AB true) t8) fun t11=>
 gM t11 false v0 h9 fun t12 h13 y14=>
 gP t11 false (zc3 t12 (AI 0)) h13 fun t15 h16 y17=>
 gP t11 false (oBin .lss t15 (.p (.int .u8 97))) h16 fun t18 h19 y20=>
 pK (z0M t11 (AB true) t18) fun t21=>
 gM t21 false v0 h19 fun t22 h23 y24=>
 gP t21 false (zc3 t22 (AI 0)) h23 fun t25 h26 y27=>
 gP t21 false (oBin .gtr t25 (.p (.int .u8 122))) h26 fun t28 h29 y30=>
 pK (z0M t21 (AB true) t28) fun t31=>
 z0l t31 (K .ret ⟨[(2,(AB false))],h29,(y30++(y27++(y24++(y20++(y17++(y14++(y10++(y7++(y4++x)))))))))⟩)
 (pK (zd9 v0) fun t32=>
 NW C gl (.loop q1) ⟨[(0,v0),(23,t32),(24,(AI 0))],h29,(y30++(y27++(y24++(y20++(y17++(y14++(y10++(y7++(y4++x)))))))))⟩ (z0v 0 (seqN C gl q2 K)))
theorem E_q005 {C gl q1 q2 v0 h x K}:NW C gl (zrS q1 q2) ⟨enter [v0],h,x⟩ K=z6g C gl q1 q2 v0 h x K:=by kernel_rfl
theorem e_q005 {C gl v0 h x K}:NW C gl zeb.body ⟨enter [v0],h,x⟩ K=z6g C gl z2A z5d v0 h x K:=E_q005
def P_q00b:ACode:=(.seq (rg [uO 1 (.box 0),
mV 2 cF] [1])
(.seq (rg [fA 3 0 none 1,
lD 4 none 3,
fA 5 1 none 1,
lD 6 none 5,
cL 7 z0I [4,(cI 0),6],
uO 8 (.un .not 7),
mV 9 8,
gD 10 9 true (.faddr 1 none 1),
gD 11 9 true (.load none 10),
gD 12 9 true (.bin .leq 11 (cI 345686400000)),
uO 13 (.pick 9 12 cF),
mV 2 13] [2])
.ret))
def zi6:AFun:=⟨1,[.t 2],P_q00b,false,false⟩
def zeK (C:Hd) (gl:GL) (v0:AV) (h:Heap) (x:Esc) (K:KT):Prop:=
 wK (oBox v0 h) fun t1 h2 y3=>
 pK (z0c 0 none t1) fun t4=>
 pK (z0e none t4 h2) fun t5=>
 pK (z0c 1 none t1) fun t6=>
 pK (z0e none t6 h2) fun t7=>
 C z0I [t5,(AI 0),t7] h2 fun t8 h9 y10=>
 pK (oUn .not t8) fun t11=>
 gP t11 true (z0c 1 none t1) h9 fun t12 h13 y14=>
 gP t11 true (z0e none t12 h13) h13 fun t15 h16 y17=>
 gP t11 true (oBin .leq t15 (AI 345686400000)) h16 fun t18 h19 y20=>
 pK (z0M t11 t18 (AB false)) fun t21=>
 K .ret ⟨[(2,t21)],h19,(y20++(y17++(y14++(y10++(y3++x)))))⟩
theorem e_q00b {C gl v0 h x K}:NW C gl zi6.body ⟨enter [v0],h,x⟩ K=zeK C gl v0 h x K:=by kernel_rfl
end Go.Am
end
section
/- The functions asv abstract code,and asv formulas over their values: printed by program out of the translation. -/
set_option linter.unusedVariables false
set_option maxRecDepth 100000
namespace Go.Am
def z7V:ACode:=.pr [5,6,17,18,19] (rg [bN 59 .add 19 (cI 1),
mV 19 59] [5,6,17,18,19])
def zbT (C:Hd) (gl:GL) (v5 v6 v17 v18 v19:AV) (h:Heap) (x:Esc) (K:KT):Prop:=
 pK (oBin .add v19 (AI 1)) fun t1=>
 K .normal ⟨[(5,v5),(6,v6),(17,v17),(18,v18),(19,t1)],h,x⟩
theorem zln {C gl e h x K}:NW C gl z7V ⟨e,h,x⟩ K=zbT C gl (aget e 5) (aget e 6) (aget e 17) (aget e 18) (aget e 19) h x K:=by kernel_rfl
def zaL (q1:ACode):ACode:=.pr [5,6,17,18,19] (.seq (rg [bN 20 .lss 19 18] [5,6,17,18,19,20])
(.seq (.cond 20 .skip
(.exit 0))
(.seq (.block 1 (.seq (rg [mV 21 19,
iA 22 (some 8) 17 19,
lD 23 (some 8) 22,
uO 8 (.alloc [.p (.str []),.p (.int .i64 0),.p (.int .i64 0),.p (.int .i64 0),.p (.str []),.p (.str []),.p (.str []),.p (.int .i64 0)]),
mV 7 21,
wO (.store (some 8) 8 23)] [5,6,7,8,17,18,19])
(.seq (.seq (rg [mV 24 6,
mV 25 7,
iA 26 none 24 25,
lD 27 none 26,
uO 28 (.un .not 27),
mV 29 28,
gD 30 29 false (.faddr 3 none 8),
gD 31 29 false (.load none 30),
gD 32 29 false (.bin .eql 31 (cI 7)),
uO 33 (.pick 29 cT 32)] [5,6,7,8,17,18,19,33])
(.cond 33 (.exit 1)
.skip))
(.seq (rg [mV 34 5,
lD 35 (some 8) 8,
cL 36 z3y [34,35],
mV 9 36] [5,6,7,9,17,18,19])
(.seq (rg [mV 37 9,
bN 38 .neq 37 (cI 0)] [5,6,7,9,17,18,19,38])
(.cond 38 (.seq (rg [mV 39 5,
mV 40 5,
uO 41 (.nilchk 40),
fA 42 6 none 41,
lD 43 none 42,
mV 44 7,
uO 45 (.bsl false none 1 (.int .i64 0) [(0,44)]),
uO 46 (.app none 43 45),
uO 47 (.nilchk 39),
fA 48 6 none 47,
wO (.store none 48 46)] [5,6,9,17,18,19])
(rg [mV 49 5,
mV 50 5,
uO 51 (.nilchk 50),
fA 52 7 none 51,
lD 53 none 52,
mV 54 9,
uO 55 (.bsl false none 1 (.int .i64 0) [(0,54)]),
uO 56 (.app none 53 55),
uO 57 (.nilchk 49),
fA 58 7 none 57,
wO (.store none 58 56)] [5,6,17,18,19]))
.skip))))))
q1)))
def z2S:ACode:=zaL z7V
def z7l (C:Hd) (gl:GL) (q1:ACode) (v5 v6 v17 v18 v19:AV) (h:Heap) (x:Esc) (K:KT):Prop:=
 pK (oBin .lss v19 v18) fun t1=>
 z0l t1 (pK (z0y (some 8) v17 v19 h) fun t2=>
 pK (z0e (some 8) t2 h) fun t3=>
 alK [.p (.str []),.p (.int .i64 0),.p (.int .i64 0),.p (.int .i64 0),.p (.str []),.p (.str []),.p (.str []),.p (.int .i64 0)] h fun t4 h5 y6=>
 wK (z0n (some 8) t4 t3 h5) fun t7 h8 y9=>
 pK (z0y none v6 v19 h8) fun t10=>
 pK (z0e none t10 h8) fun t11=>
 pK (oUn .not t11) fun t12=>
 gP t12 false (z0c 3 none t4) h8 fun t13 h14 y15=>
 gP t12 false (z0e none t13 h14) h14 fun t16 h17 y18=>
 gP t12 false (oBin .eql t16 (AI 7)) h17 fun t19 h20 y21=>
 pK (z0M t12 (AB true) t19) fun t22=>
 z0l t22 (NW C gl q1 ⟨[(5,v5),(6,v6),(7,v19),(8,t4),(17,v17),(18,v18),(19,v19),(33,t22)],h20,(y21++(y18++(y15++(y9++(y6++x)))))⟩ K)
 (pK (z0e (some 8) t4 h20) fun t23=>
 C z3y [v5,t23] h20 fun t24 h25 y26=>
 pK (oBin .neq t24 (AI 0)) fun t27=>
 z0l t27 (pK (oNil v5) fun t28=>
 pK (z0c 6 none t28) fun t29=>
 pK (z0e none t29 h25) fun t30=>
 wK (oBsl false none 1 (.int .i64 0) [(0,v19)] h25) fun t31 h32 y33=>
 wK (oApp none t30 t31 h32) fun t34 h35 y36=>
 pK (oNil v5) fun t37=>
 pK (z0c 6 none t37) fun t38=>
 wK (z0n none t38 t34 h35) fun t39 h40 y41=>
 pK (oNil v5) fun t42=>
 pK (z0c 7 none t42) fun t43=>
 pK (z0e none t43 h40) fun t44=>
 wK (oBsl false none 1 (.int .i64 0) [(0,t24)] h40) fun t45 h46 y47=>
 wK (oApp none t44 t45 h46) fun t48 h49 y50=>
 pK (oNil v5) fun t51=>
 pK (z0c 7 none t51) fun t52=>
 wK (z0n none t52 t48 h49) fun t53 h54 y55=>
 NW C gl q1 ⟨[(5,v5),(6,v6),(17,v17),(18,v18),(19,v19)],h54,(y55++(y50++(y47++(y41++(y36++(y33++(y26++(y21++(y18++(y15++(y9++(y6++x))))))))))))⟩ K)
 (NW C gl q1 ⟨[(5,v5),(6,v6),(7,v19),(9,t24),(17,v17),(18,v18),(19,v19),(38,t27)],h25,(y26++(y21++(y18++(y15++(y9++(y6++x))))))⟩ K)))
 (K (.exit 0) ⟨[(5,v5),(6,v6),(17,v17),(18,v18),(19,v19),(20,t1)],h,x⟩)
theorem zid {C gl q1 e h x K}:NW C gl (zaL q1) ⟨e,h,x⟩ K=z7l C gl q1 (aget e 5) (aget e 6) (aget e 17) (aget e 18) (aget e 19) h x K:=by kernel_rfl
theorem zlo {C gl e h x K}:NW C gl z2S ⟨e,h,x⟩ K=z7l C gl z7V (aget e 5) (aget e 6) (aget e 17) (aget e 18) (aget e 19) h x K:=zid
theorem zm8 {C gl e h x K}:NW C gl (.loop (.scope z2S)) ⟨e,h,x⟩ K=z1t C gl (.scope z2S) K [(5,aget e 5),(6,aget e 6),(17,aget e 17),(18,aget e 18),(19,aget e 19)] h x:=z1V
def z52:ACode:=.pr [5] (.seq (rg [mV 60 5,
mV 4 60] [4])
.ret)
def zbU (C:Hd) (gl:GL) (v5:AV) (h:Heap) (x:Esc) (K:KT):Prop:=
 K .ret ⟨[(4,v5)],h,x⟩
theorem zlp {C gl e h x K}:NW C gl z52 ⟨e,h,x⟩ K=zbU C gl (aget e 5) h x K:=by kernel_rfl
def zso (q2 q3:ACode):ACode:=(.seq (rg [uO 2 (.uns 12 0 [0]),
mV 4 (.c (.nilp))] [1,2])
(.seq (rg [lD 10 (some 2) 2,
uO 11 (.mkmap),
uO 12 (.mkmap),
uO 13 (.build [.sl0 none,.p (.int .i64 0),.nilm,.nilm,.sl0 (some 5),.sl0 (some 3),.sl0 none,.sl0 none] [(0,2,10),(2,1,11),(3,1,12)]),
uO 14 (.uns 12 0 [13]),
mV 5 14] [1,5])
(.seq (rg [mV 15 1,
cL 16 z70 [15],
mV 6 16] [1,5,6])
(.seq (.seq (rg [mV 17 1,
lN 18 17,
mV 19 (cI 0)] [5,6,17,18,19])
(.block 0 (.loop (.scope q2))))
q3))))
def zez:AFun:=⟨2,[.t 4],zso z2S z52,false,false⟩
def zfa (C:Hd) (gl:GL) (q2 q3:ACode) (v0 v1:AV) (h:Heap) (x:Esc) (K:KT):Prop:=
 wK (z2p 12 0 [v0] h) fun t1 h2 y3=>
 pK (z0e (some 2) t1 h2) fun t4=>
 mmK h2 fun t5 h6 y7=>
 mmK h6 fun t8 h9 y10=>
 pK (z0G [.sl0 none,.p (.int .i64 0),.nilm,.nilm,.sl0 (some 5),.sl0 (some 3),.sl0 none,.sl0 none] [(0,2,t4),(2,1,t5),(3,1,t8)]) fun t11=>
 wK (z2p 12 0 [t11] h9) fun t12 h13 y14=>
 C z70 [v1] h13 fun t15 h16 y17=>
 pK (oLen v1) fun t18=>
 NW C gl (.loop (.scope q2)) ⟨[(5,t12),(6,t15),(17,v1),(18,t18),(19,(AI 0))],h16,(y17++(y14++(y10++(y7++(y3++x)))))⟩ (z0v 0 (seqN C gl q3 K))
theorem E_q08d {C gl q2 q3 v0 v1 h x K}:NW C gl (zso q2 q3) ⟨enter [v0,v1],h,x⟩ K=zfa C gl q2 q3 v0 v1 h x K:=by kernel_rfl
theorem e_q08d {C gl v0 v1 h x K}:NW C gl zez.body ⟨enter [v0,v1],h,x⟩ K=zfa C gl z2S z52 v0 v1 h x K:=E_q08d
def z2U:ACode:=.pr [0,1,5] (.seq (.seq (rg [mV 8 5,
bN 9 .gtr 8 (cI 0),
mV 10 9,
gD 11 10 true (.mv 0),
gD 12 10 true (.mv 5),
gD 13 10 true (.bin .sub 12 (cI 1)),
gD 14 10 true (.iaddr (some 8) 11 13),
gD 15 10 true (.faddr 2 none 14),
gD 16 10 true (.load none 15),
gD 17 10 true (.mv 1),
gD 18 10 true (.bin .gtr 16 17),
uO 19 (.pick 10 18 cF)] [0,1,5,19])
(.cond 19 .skip
(.exit 0)))
(.block 1 (rg [mV 20 5,
bN 21 .sub 20 (cI 1),
mV 5 21] [0,1,5])))
def zbY (C:Hd) (gl:GL) (v0 v1 v5:AV) (h:Heap) (x:Esc) (K:KT):Prop:=
 pK (oBin .gtr v5 (AI 0)) fun t1=>
 gM t1 true v0 h fun t2 h3 y4=>
 gM t1 true v5 h3 fun t5 h6 y7=>
 gP t1 true (oBin .sub t5 (AI 1)) h6 fun t8 h9 y10=>
 gP t1 true (z0y (some 8) t2 t8 h9) h9 fun t11 h12 y13=>
 gP t1 true (z0c 2 none t11) h12 fun t14 h15 y16=>
 gP t1 true (z0e none t14 h15) h15 fun t17 h18 y19=>
 gM t1 true v1 h18 fun t20 h21 y22=>
 gP t1 true (oBin .gtr t17 t20) h21 fun t23 h24 y25=>
 pK (z0M t1 t23 (AB false)) fun t26=>
 z0l t26 (pK (oBin .sub v5 (AI 1)) fun t27=>
 K .normal ⟨[(0,v0),(1,v1),(5,t27)],h24,(y25++(y22++(y19++(y16++(y13++(y10++(y7++(y4++x))))))))⟩)
 (K (.exit 0) ⟨[(0,v0),(1,v1),(5,v5),(19,t26)],h24,(y25++(y22++(y19++(y16++(y13++(y10++(y7++(y4++x))))))))⟩)
theorem zlt {C gl e h x K}:NW C gl z2U ⟨e,h,x⟩ K=zbY C gl (aget e 0) (aget e 1) (aget e 5) h x K:=by kernel_rfl
theorem zmA {C gl e h x K}:NW C gl (.loop z2U) ⟨e,h,x⟩ K=z1t C gl z2U K [(0,aget e 0),(1,aget e 1),(5,aget e 5)] h x:=z0F
def z55:ACode:=.pr [0,5] (.seq (rg [mV 22 0,
mV 23 5,
uO 24 (.slice (some 8) 22 none (some 23) none),
mV 4 24] [4])
.ret)
def zbZ (C:Hd) (gl:GL) (v0 v5:AV) (h:Heap) (x:Esc) (K:KT):Prop:=
 pK (z4m (some 8) v0 none (some v5) none h) fun t1=>
 K .ret ⟨[(4,t1)],h,x⟩
theorem zlu {C gl e h x K}:NW C gl z55 ⟨e,h,x⟩ K=zbZ C gl (aget e 0) (aget e 5) h x K:=by kernel_rfl
def zsr (q1 q2:ACode):ACode:=(.seq (rg [mV 4 (.c (.p (.sl (some 8) [])))] [0,1])
(.seq (rg [mV 6 0,
lN 7 6,
mV 5 7] [0,1,5])
(.seq (.block 0 (.loop q1))
q2)))
def ze2:AFun:=⟨2,[.t 4],zsr z2U z55,false,false⟩
def zfd (C:Hd) (gl:GL) (q1 q2:ACode) (v0 v1:AV) (h:Heap) (x:Esc) (K:KT):Prop:=
 pK (oLen v0) fun t1=>
 NW C gl (.loop q1) ⟨[(0,v0),(1,v1),(5,t1)],h,x⟩ (z0v 0 (seqN C gl q2 K))
theorem E_q08l {C gl q1 q2 v0 v1 h x K}:NW C gl (zsr q1 q2) ⟨enter [v0,v1],h,x⟩ K=zfd C gl q1 q2 v0 v1 h x K:=by kernel_rfl
theorem e_q08l {C gl v0 v1 h x K}:NW C gl ze2.body ⟨enter [v0,v1],h,x⟩ K=zfd C gl z2U z55 v0 v1 h x K:=E_q08l
def z53:ACode:=.pr [9] (.seq (rg [mV 23 9,
mV 8 23] [8])
.ret)
def zbV (C:Hd) (gl:GL) (v9:AV) (h:Heap) (x:Esc) (K:KT):Prop:=
 K .ret ⟨[(8,v9)],h,x⟩
theorem zlq {C gl e h x K}:NW C gl z53 ⟨e,h,x⟩ K=zbV C gl (aget e 9) h x K:=by kernel_rfl
def zsp (q1:ACode):ACode:=(.seq (rg [uO 4 (.box 0),
mV 8 (cI 0)] [1,2,3,4])
(.seq (rg [lD 10 (some 2) 4,
mV 11 1,
mV 12 3,
cL 13 z6t [10,11,12],
mV 9 13] [2,4,9])
(.seq (.seq (rg [mV 14 9,
bN 15 .eql 14 (cI 0),
mV 16 15,
gD 17 16 true (.faddr 0 none 4),
gD 18 16 true (.load none 17),
gD 19 16 true (.mv 2),
gD 20 16 true (.call z4j [18,19]),
gD 21 16 true (.un .not 20),
uO 22 (.pick 16 21 cF)] [9,22])
(.cond 22 (rg [mV 9 (cI 8)] [9])
.skip))
q1)))
def zjb:AFun:=⟨4,[.t 8],zsp z53,false,false⟩
def z8M (C:Hd) (gl:GL) (q1:ACode) (v0 v1 v2 v3:AV) (h:Heap) (x:Esc) (K:KT):Prop:=
 wK (oBox v0 h) fun t1 h2 y3=>
 pK (z0e (some 2) t1 h2) fun t4=>
 C z6t [t4,v1,v3] h2 fun t5 h6 y7=>
 pK (oBin .eql t5 (AI 0)) fun t8=>
 gP t8 true (z0c 0 none t1) h6 fun t9 h10 y11=>
 gP t8 true (z0e none t9 h10) h10 fun t12 h13 y14=>
 gM t8 true v2 h13 fun t15 h16 y17=>
 gV t8 true h16 (C z4j [t12,t15] h16) fun t18 h19 y20=>
 gP t8 true (oUn .not t18) h19 fun t21 h22 y23=>
 pK (z0M t8 t21 (AB false)) fun t24=>
 z0l t24 (NW C gl q1 ⟨[(9,(AI 8))],h22,(y23++(y20++(y17++(y14++(y11++(y7++(y3++x)))))))⟩ K)
 (NW C gl q1 ⟨[(9,t5),(22,t24)],h22,(y23++(y20++(y17++(y14++(y11++(y7++(y3++x)))))))⟩ K)
theorem E_q08j {C gl q1 v0 v1 v2 v3 h x K}:NW C gl (zsp q1) ⟨enter [v0,v1,v2,v3],h,x⟩ K=z8M C gl q1 v0 v1 v2 v3 h x K:=by kernel_rfl
theorem e_q08j {C gl v0 v1 v2 v3 h x K}:NW C gl zjb.body ⟨enter [v0,v1,v2,v3],h,x⟩ K=z8M C gl z53 v0 v1 v2 v3 h x K:=E_q08j
def z2I:ACode:=.pr [0,1,7,8] (.seq (rg [bN 9 .lss 8 7] [0,1,7,8,9])
(.seq (.cond 9 .skip
(.exit 0))
(.seq (.block 1 (.seq (rg [mV 10 8,
mV 5 10] [0,1,5,7,8])
(.seq (rg [mV 11 1,
mV 12 0,
mV 13 5,
iA 14 none 12 13,
lD 15 none 14,
uO 16 (.callv 11 [15])] [0,1,5,7,8,16])
(.cond 16 (.seq (rg [mV 17 5,
mV 4 17] [4])
.ret)
.skip))))
(rg [bN 18 .add 8 (cI 1),
mV 8 18] [0,1,7,8]))))
def zb2 (C:Hd) (gl:GL) (v0 v1 v7 v8:AV) (h:Heap) (x:Esc) (K:KT):Prop:=
 pK (oBin .lss v8 v7) fun t1=>
 z0l t1 (pK (z0y none v0 v8 h) fun t2=>
 pK (z0e none t2 h) fun t3=>
 z6d C v1 [t3] h fun t4 h5 y6=>
 z0l t4 (K .ret ⟨[(4,v8)],h5,(y6++x)⟩)
 (pK (oBin .add v8 (AI 1)) fun t7=>
 K .normal ⟨[(0,v0),(1,v1),(7,v7),(8,t7)],h5,(y6++x)⟩))
 (K (.exit 0) ⟨[(0,v0),(1,v1),(7,v7),(8,v8),(9,t1)],h,x⟩)
theorem zkE {C gl e h x K}:NW C gl z2I ⟨e,h,x⟩ K=zb2 C gl (aget e 0) (aget e 1) (aget e 7) (aget e 8) h x K:=by kernel_rfl
theorem zmv {C gl e h x K}:NW C gl (.loop z2I) ⟨e,h,x⟩ K=z1t C gl z2I K [(0,aget e 0),(1,aget e 1),(7,aget e 7),(8,aget e 8)] h x:=z0F
def z5p:ACode:=.pr [] (.seq (rg [mV 4 (cI (-1))] [4])
.ret)
def zb3 (C:Hd) (gl:GL) (h:Heap) (x:Esc) (K:KT):Prop:=
 K .ret ⟨[(4,(AI (-1)))],h,x⟩
theorem zkF {C gl e h x K}:NW C gl z5p ⟨e,h,x⟩ K=zb3 C gl h x K:=by kernel_rfl
def zsc (q1 q2:ACode):ACode:=(.seq (rg [mV 4 (cI 0)] [0,1])
(.seq (.seq (rg [mV 6 0,
lN 7 6,
mV 8 (cI 0)] [0,1,7,8])
(.block 0 (.loop q1)))
q2))
def zem:AFun:=⟨2,[.t 4],zsc z2I z5p,true,false⟩
def zeU (C:Hd) (gl:GL) (q1 q2:ACode) (v0 v1:AV) (h:Heap) (x:Esc) (K:KT):Prop:=
 pK (oLen v0) fun t1=>
 NW C gl (.loop q1) ⟨[(0,v0),(1,v1),(7,t1),(8,(AI 0))],h,x⟩ (z0v 0 (seqN C gl q2 K))
theorem E_q05w {C gl q1 q2 v0 v1 h x K}:NW C gl (zsc q1 q2) ⟨enter [v0,v1],h,x⟩ K=zeU C gl q1 q2 v0 v1 h x K:=by kernel_rfl
theorem e_q05w {C gl v0 v1 h x K}:NW C gl zem.body ⟨enter [v0,v1],h,x⟩ K=zeU C gl z2I z5p v0 v1 h x K:=E_q05w
def P_q03j:ACode:=(.seq (rg [mV 4 (cI 0)] [0,1])
(.seq (rg [mV 5 1,
mV 6 0,
mV 7 1,
lN 8 7,
cL 9 z1M [6,8],
iA 10 none 5 9,
lD 11 none 10,
mV 4 11] [4])
.ret))
def ziF:AFun:=⟨2,[.t 4],P_q03j,false,false⟩
def zjN (C:Hd) (gl:GL) (v0 v1:AV) (h:Heap) (x:Esc) (K:KT):Prop:=
 pK (oLen v1) fun t1=>
 C z1M [v0,t1] h fun t2 h3 y4=>
 pK (z0y none v1 t2 h3) fun t5=>
 pK (z0e none t5 h3) fun t6=>
 K .ret ⟨[(4,t6)],h3,(y4++x)⟩
theorem e_q03j {C gl v0 v1 h x K}:NW C gl ziF.body ⟨enter [v0,v1],h,x⟩ K=zjN C gl v0 v1 h x K:=by kernel_rfl
def P_q03s:ACode:=(.seq (rg [mV 4 (cS [])] [0,1])
(.seq (rg [mV 5 1,
mV 6 0,
mV 7 1,
lN 8 7,
cL 9 z1M [6,8],
iA 10 none 5 9,
lD 11 none 10,
mV 4 11] [4])
.ret))
def ziJ:AFun:=⟨2,[.t 4],P_q03s,false,false⟩
def zjQ (C:Hd) (gl:GL) (v0 v1:AV) (h:Heap) (x:Esc) (K:KT):Prop:=
 pK (oLen v1) fun t1=>
 C z1M [v0,t1] h fun t2 h3 y4=>
 pK (z0y none v1 t2 h3) fun t5=>
 pK (z0e none t5 h3) fun t6=>
 K .ret ⟨[(4,t6)],h3,(y4++x)⟩
theorem e_q03s {C gl v0 v1 h x K}:NW C gl ziJ.body ⟨enter [v0,v1],h,x⟩ K=zjQ C gl v0 v1 h x K:=by kernel_rfl
def P_q03f:ACode:=(.seq (rg [mV 4 cF] [0,1])
(.seq (rg [mV 5 0,
mV 6 1,
cL 7 z1M [5,6],
bN 8 .eql 7 (cI 0),
mV 4 8] [4])
.ret))
def ziC:AFun:=⟨2,[.t 4],P_q03f,false,false⟩
def zjM (C:Hd) (gl:GL) (v0 v1:AV) (h:Heap) (x:Esc) (K:KT):Prop:=
 C z1M [v0,v1] h fun t1 h2 y3=>
 pK (oBin .eql t1 (AI 0)) fun t4=>
 K .ret ⟨[(4,t4)],h2,(y3++x)⟩
theorem e_q03f {C gl v0 v1 h x K}:NW C gl ziC.body ⟨enter [v0,v1],h,x⟩ K=zjM C gl v0 v1 h x K:=by kernel_rfl
def P_q03i:ACode:=(.seq (rg [mV 6 (cI 0)] [0,1,2])
(.seq (.seq (rg [mV 7 0,
cL 8 z3x [7,(cI 12)]] [0,1,2,8])
(.cond 8 (.seq (rg [mV 9 0,
mV 10 1,
bN 11 .sub 10 (cI 1),
mV 12 2,
bN 13 .add 12 (cI 1),
mV 14 1,
mV 15 2,
uO 16 (.bsl false none 6 (.int .i64 0) [(0,11),(1,13),(2,14),(3,15),(4,(cI (-1099511627776))),(5,(cI 1099511627776))]),
cL 17 z27 [9,16],
mV 6 17] [6])
.ret)
.skip))
(.seq (rg [mV 18 0,
mV 19 1,
mV 20 2,
cL 21 z1x [18,19,20],
mV 6 21] [6])
.ret)))
def ziE:AFun:=⟨3,[.t 6],P_q03i,false,false⟩
def z8H (C:Hd) (gl:GL) (v0 v1 v2:AV) (h:Heap) (x:Esc) (K:KT):Prop:=
 C z3x [v0,(AI 12)] h fun t1 h2 y3=>
 z0l t1 (pK (oBin .sub v1 (AI 1)) fun t4=>
 pK (oBin .add v2 (AI 1)) fun t5=>
 wK (oBsl false none 6 (.int .i64 0) [(0,t4),(1,t5),(2,v1),(3,v2),(4,(AI (-1099511627776))),(5,(AI 1099511627776))] h2) fun t6 h7 y8=>
 C z27 [v0,t6] h7 fun t9 h10 y11=>
 K .ret ⟨[(6,t9)],h10,(y11++(y8++(y3++x)))⟩)
 (C z1x [v0,v1,v2] h2 fun t12 h13 y14=>
 K .ret ⟨[(6,t12)],h13,(y14++(y3++x))⟩)
theorem e_q03i {C gl v0 v1 v2 h x K}:NW C gl ziE.body ⟨enter [v0,v1,v2],h,x⟩ K=z8H C gl v0 v1 v2 h x K:=by kernel_rfl
def P_q062:ACode:=(rg [mV 4 0,
mV 5 0,
lN 6 5,
mV 7 1,
cL 8 z9a [4,6,7]] [])
def ziW:AFun:=⟨2,[],P_q062,true,false⟩
def zjX (C:Hd) (gl:GL) (v0 v1:AV) (h:Heap) (x:Esc) (K:KT):Prop:=
 pK (oLen v0) fun t1=>
 C z9a [v0,t1,v1] h fun t2 h3 y4=>
 K .normal ⟨[],h3,(y4++x)⟩
theorem e_q062 {C gl v0 v1 h x K}:NW C gl ziW.body ⟨enter [v0,v1],h,x⟩ K=zjX C gl v0 v1 h x K:=by kernel_rfl
def P_q041:ACode:=(.seq (rg [uO 2 (.box 0),
uO 3 (.box 1),
mV 4 (cI 0)] [2,3])
(.seq (.block 0 (.seq (rg [fA 6 2 none 2,
lD 7 none 6,
fA 8 2 none 3,
lD 9 none 8,
bN 10 .neq 7 9,
mV 5 10] [2,3,5])
(.cond 5 (.seq (rg [fA 11 2 none 2,
lD 12 none 11,
fA 13 2 none 3,
lD 14 none 13,
bN 15 .sub 12 14,
cL 16 z6q [15],
mV 4 16] [4])
.ret)
(.seq (rg [fA 18 0 none 2,
lD 19 none 18,
fA 20 0 none 3,
lD 21 none 20,
bN 22 .neq 19 21,
mV 17 22] [2,3,17])
(.cond 17 (.seq (rg [fA 23 0 none 2,
lD 24 none 23,
fA 25 0 none 3,
lD 26 none 25,
cL 27 z28 [24,26],
mV 4 27] [4])
.ret)
.skip)))))
(.seq (rg [fA 28 1 none 2,
lD 29 none 28,
fA 30 1 none 3,
lD 31 none 30,
bN 32 .sub 29 31,
cL 33 z6q [32],
mV 4 33] [4])
.ret)))
def ziN:AFun:=⟨2,[.t 4],P_q041,false,false⟩
def z6i (C:Hd) (gl:GL) (v0 v1:AV) (h:Heap) (x:Esc) (K:KT):Prop:=
 wK (oBox v0 h) fun t1 h2 y3=>
 wK (oBox v1 h2) fun t4 h5 y6=>
 pK (z0c 2 none t1) fun t7=>
 pK (z0e none t7 h5) fun t8=>
 pK (z0c 2 none t4) fun t9=>
 pK (z0e none t9 h5) fun t10=>
 pK (oBin .neq t8 t10) fun t11=>
 z0l t11 (pK (z0c 2 none t1) fun t12=>
 pK (z0e none t12 h5) fun t13=>
 pK (z0c 2 none t4) fun t14=>
 pK (z0e none t14 h5) fun t15=>
 pK (oBin .sub t13 t15) fun t16=>
 C z6q [t16] h5 fun t17 h18 y19=>
 K .ret ⟨[(4,t17)],h18,(y19++(y6++(y3++x)))⟩)
 (pK (z0c 0 none t1) fun t20=>
 pK (z0e none t20 h5) fun t21=>
 pK (z0c 0 none t4) fun t22=>
 pK (z0e none t22 h5) fun t23=>
 pK (oBin .neq t21 t23) fun t24=>
 z0l t24 (pK (z0c 0 none t1) fun t25=>
 pK (z0e none t25 h5) fun t26=>
 pK (z0c 0 none t4) fun t27=>
 pK (z0e none t27 h5) fun t28=>
 C z28 [t26,t28] h5 fun t29 h30 y31=>
 K .ret ⟨[(4,t29)],h30,(y31++(y6++(y3++x)))⟩)
 (pK (z0c 1 none t1) fun t32=>
 pK (z0e none t32 h5) fun t33=>
 pK (z0c 1 none t4) fun t34=>
 pK (z0e none t34 h5) fun t35=>
 pK (oBin .sub t33 t35) fun t36=>
 C z6q [t36] h5 fun t37 h38 y39=>
 K .ret ⟨[(4,t37)],h38,(y39++(y6++(y3++x)))⟩))
theorem e_q041 {C gl v0 v1 h x K}:NW C gl ziN.body ⟨enter [v0,v1],h,x⟩ K=z6i C gl v0 v1 h x K:=by kernel_rfl
def z5m:ACode:=.pr [1,3,4] (.seq (.block 0 (.seq (rg [fA 45 0 none 1,
lD 46 none 45,
cL 47 z3o [46],
uO 48 (.un .not 47),
mV 44 48] [1,3,4,44])
(.cond 44 (.seq (rg [mV 2 (cI 5)] [2])
.ret)
(.seq (rg [fA 50 1 none 1,
lD 51 none 50,
cL 52 z2g [51,(cI 1),(cI 1000000)],
uO 53 (.un .not 52),
mV 54 53,
gD 55 54 false (.faddr 2 none 1),
gD 56 54 false (.load none 55),
gD 57 54 false (.call z8V [56]),
gD 58 54 false (.un .not 57),
uO 59 (.pick 54 cT 58),
mV 49 59] [1,3,4,49])
(.cond 49 (.seq (rg [mV 2 (cI 1)] [2])
.ret)
(.seq (rg [fA 61 3 none 1,
lD 62 none 61,
cL 63 z2g [62,(cI 1),(cI 7)],
uO 64 (.un .not 63),
mV 60 64] [1,3,4,60])
(.cond 60 (.seq (rg [mV 2 (cI 4)] [2])
.ret)
(.seq (rg [mV 66 4,
uO 67 (.un .not 66),
mV 65 67] [1,3,65])
(.cond 65 (.seq (rg [mV 2 (cI 5)] [2])
.ret)
(.seq (rg [fA 69 3 none 1,
lD 70 none 69,
bN 71 .eql 70 (cI 7),
mV 72 71,
gD 73 72 true (.faddr 7 none 1),
gD 74 72 true (.load none 73),
gD 75 72 true (.call z2g [74,(cI 1),(cI 1000000)]),
gD 76 72 true (.un .not 75),
uO 77 (.pick 72 76 cF),
mV 68 77] [1,3,68])
(.cond 68 (.seq (rg [mV 2 (cI 1)] [2])
.ret)
(.seq (rg [lD 79 (some 8) 1,
lD 80 (some 8) 3,
uO 81 (.eqa [2,0,0,0,2,2,2,0] true 79 80),
mV 78 81] [78])
(.cond 78 (.seq (rg [mV 2 (cI 3)] [2])
.ret)
.skip)))))))))))))
(.seq (rg [mV 2 (cI 0)] [2])
.ret))
def z0O (C:Hd) (gl:GL) (v1 v3 v4:AV) (h:Heap) (x:Esc) (K:KT):Prop:=
 pK (z0c 0 none v1) fun t1=>
 pK (z0e none t1 h) fun t2=>
 C z3o [t2] h fun t3 h4 y5=>
 pK (oUn .not t3) fun t6=>
 z0l t6 (K .ret ⟨[(2,(AI 5))],h4,(y5++x)⟩)
 (pK (z0c 1 none v1) fun t7=>
 pK (z0e none t7 h4) fun t8=>
 C z2g [t8,(AI 1),(AI 1000000)] h4 fun t9 h10 y11=>
 pK (oUn .not t9) fun t12=>
 gP t12 false (z0c 2 none v1) h10 fun t13 h14 y15=>
 gP t12 false (z0e none t13 h14) h14 fun t16 h17 y18=>
 gV t12 false h17 (C z8V [t16] h17) fun t19 h20 y21=>
 gP t12 false (oUn .not t19) h20 fun t22 h23 y24=>
 pK (z0M t12 (AB true) t22) fun t25=>
 z0l t25 (K .ret ⟨[(2,(AI 1))],h23,(y24++(y21++(y18++(y15++(y11++(y5++x))))))⟩)
 (pK (z0c 3 none v1) fun t26=>
 pK (z0e none t26 h23) fun t27=>
 C z2g [t27,(AI 1),(AI 7)] h23 fun t28 h29 y30=>
 pK (oUn .not t28) fun t31=>
 z0l t31 (K .ret ⟨[(2,(AI 4))],h29,(y30++(y24++(y21++(y18++(y15++(y11++(y5++x)))))))⟩)
 (pK (oUn .not v4) fun t32=>
 z0l t32 (K .ret ⟨[(2,(AI 5))],h29,(y30++(y24++(y21++(y18++(y15++(y11++(y5++x)))))))⟩)
 (pK (z0c 3 none v1) fun t33=>
 pK (z0e none t33 h29) fun t34=>
 pK (oBin .eql t34 (AI 7)) fun t35=>
 gP t35 true (z0c 7 none v1) h29 fun t36 h37 y38=>
 gP t35 true (z0e none t36 h37) h37 fun t39 h40 y41=>
 gV t35 true h40 (C z2g [t39,(AI 1),(AI 1000000)] h40) fun t42 h43 y44=>
 gP t35 true (oUn .not t42) h43 fun t45 h46 y47=>
 pK (z0M t35 t45 (AB false)) fun t48=>
 z0l t48 (K .ret ⟨[(2,(AI 1))],h46,(y47++(y44++(y41++(y38++(y30++(y24++(y21++(y18++(y15++(y11++(y5++x)))))))))))⟩)
 (pK (z0e (some 8) v1 h46) fun t49=>
 pK (z0e (some 8) v3 h46) fun t50=>
 pK (oEqa [2,0,0,0,2,2,2,0] true t49 t50) fun t51=>
 z0l t51 (K .ret ⟨[(2,(AI 3))],h46,(y47++(y44++(y41++(y38++(y30++(y24++(y21++(y18++(y15++(y11++(y5++x)))))))))))⟩)
 (K .ret ⟨[(2,(AI 0))],h46,(y47++(y44++(y41++(y38++(y30++(y24++(y21++(y18++(y15++(y11++(y5++x)))))))))))⟩))))))
theorem zk9 {C gl e h x K}:NW C gl z5m ⟨e,h,x⟩ K=z0O C gl (aget e 1) (aget e 3) (aget e 4) h x K:=by kernel_rfl
def zrZ (q1:ACode):ACode:=(.seq (rg [uO 1 (.box 0),
mV 2 (cI 0)] [1])
(.seq (rg [fA 5 0 none 1,
lD 6 none 5,
fA 7 1 none 1,
lD 8 none 7,
fA 9 2 none 1,
lD 10 none 9,
fA 11 3 none 1,
lD 12 none 11,
uO 13 (.build [.p (.str []),.p (.int .i64 0),.p (.int .i64 0),.p (.int .i64 0),.p (.str []),.p (.str []),.p (.str []),.p (.int .i64 0)] [(0,1,6),(1,1,8),(2,1,10),(3,1,12)]),
uO 3 (.alloc [.p (.str []),.p (.int .i64 0),.p (.int .i64 0),.p (.int .i64 0),.p (.str []),.p (.str []),.p (.str []),.p (.int .i64 0)]),
wO (.store (some 8) 3 13)] [1,3])
(.seq (rg [mV 4 cT] [1,3])
(.seq (.seq (rg [fA 14 3 none 1,
lD 15 none 14,
bN 16 .eql 15 (cI 7)] [1,3,16])
(.cond 16 (dr [dF (fA 17 6 none 1) [1],
dF (lD 18 none 17) [17],
dF (fA 19 7 none 1) [1],
dF (lD 20 none 19) [19],
dF (fA 21 6 none 1) [1],
dF (lD 22 none 21) [21],
dA (cL 23 z3o [22]) [22] true [] [1,3],
dF (fA 24 6 none 3) [3],
dA (wO (.store none 24 18)) [24,18] true [] [3],
dF (fA 25 7 none 3) [3],
dT (wO (.store none 25 20)) [25,20],
dF (mV 4 23) [23]] [1,3,4])
(.seq (dr [dF (fA 26 4 none 1) [1],
dF (lD 27 none 26) [26],
dF (fA 28 4 none 1) [1],
dF (lD 29 none 28) [28],
dA (cL 30 z3o [29]) [29] true [] [1],
dF (fA 31 4 none 3) [3],
dT (wO (.store none 31 27)) [31,27],
dF (mV 4 30) [30]] [1,3,4])
(.seq (rg [fA 32 3 none 1,
lD 33 none 32,
bN 34 .eql 33 (cI 2)] [1,3,4,34])
(.cond 34 (dr [dF (fA 35 5 none 1) [1],
dF (lD 36 none 35) [35],
dF (mV 37 4) [4],
dF (mV 38 37) [37],
dF (gD 39 38 true (.faddr 5 none 1)) [1,38],
dF (gD 40 38 true (.load none 39)) [39,38],
dA (gD 41 38 true (.call z3o [40])) [40,38] true [] [1],
dF (uO 42 (.pick 38 41 cF)) [38,41],
dF (fA 43 5 none 3) [3],
dT (wO (.store none 43 36)) [43,36],
dF (mV 4 42) [42]] [1,3,4])
.skip)))))
q1))))
def ziM:AFun:=⟨1,[.t 2],zrZ z5m,false,false⟩
def z6h (C:Hd) (gl:GL) (q1:ACode) (v0:AV) (h:Heap) (x:Esc) (K:KT):Prop:=
 wK (oBox v0 h) fun t1 h2 y3=>
 pK (z0c 0 none t1) fun t4=>
 pK (z0e none t4 h2) fun t5=>
 pK (z0c 1 none t1) fun t6=>
 pK (z0e none t6 h2) fun t7=>
 pK (z0c 2 none t1) fun t8=>
 pK (z0e none t8 h2) fun t9=>
 pK (z0c 3 none t1) fun t10=>
 pK (z0e none t10 h2) fun t11=>
 pK (z0G [.p (.str []),.p (.int .i64 0),.p (.int .i64 0),.p (.int .i64 0),.p (.str []),.p (.str []),.p (.str []),.p (.int .i64 0)] [(0,1,t5),(1,1,t7),(2,1,t9),(3,1,t11)]) fun t12=>
 alK [.p (.str []),.p (.int .i64 0),.p (.int .i64 0),.p (.int .i64 0),.p (.str []),.p (.str []),.p (.str []),.p (.int .i64 0)] h2 fun t13 h14 y15=>
 wK (z0n (some 8) t13 t12 h14) fun t16 h17 y18=>
 pK (z0c 3 none t1) fun t19=>
 pK (z0e none t19 h17) fun t20=>
 pK (oBin .eql t20 (AI 7)) fun t21=>
 z0l t21 (pK (z0c 6 none t1) fun t22=>
 pK (z0e none t22 h17) fun t23=>
 pK (z0c 7 none t1) fun t24=>
 pK (z0e none t24 h17) fun t25=>
 pK (z0c 6 none t1) fun t26=>
 pK (z0e none t26 h17) fun t27=>
 z1J C z3o [t27] h17 fun t28 h29 y30=>
 (pK (z0e none t22 h29) fun v=>(fun u (g1:Heap) (y1:Esc)=>u=t23∧g1=h29∧y1=[]) v h29 [])∧((pK (z0e none t24 h29) fun v=>(fun u (g1:Heap) (y1:Esc)=>u=t25∧g1=h29∧y1=[]) v h29 [])∧(pK (z0c 6 none t13) fun t31=>
 wK (z0n none t31 t23 h29) fun t32 h33 y34=>
 (pK (z0e none t24 h33) fun v=>(fun u (g1:Heap) (y1:Esc)=>u=t25∧g1=h33∧y1=[]) v h33 [])∧(pK (z0c 7 none t13) fun t35=>
 wK (z0n none t35 t25 h33) fun t36 h37 y38=>
 NW C gl q1 ⟨[(1,t1),(3,t13),(4,t28)],h37,(y38++(y34++(y30++(y18++(y15++(y3++x))))))⟩ K))))
 (pK (z0c 4 none t1) fun t39=>
 pK (z0e none t39 h17) fun t40=>
 pK (z0c 4 none t1) fun t41=>
 pK (z0e none t41 h17) fun t42=>
 z1J C z3o [t42] h17 fun t43 h44 y45=>
 (pK (z0e none t39 h44) fun v=>(fun u (g1:Heap) (y1:Esc)=>u=t40∧g1=h44∧y1=[]) v h44 [])∧(pK (z0c 4 none t13) fun t46=>
 wK (z0n none t46 t40 h44) fun t47 h48 y49=>
 pK (z0c 3 none t1) fun t50=>
 pK (z0e none t50 h48) fun t51=>
 pK (oBin .eql t51 (AI 2)) fun t52=>
 z0l t52 (pK (z0c 5 none t1) fun t53=>
 pK (z0e none t53 h48) fun t54=>
 gP t43 true (z0c 5 none t1) h48 fun t55 h56 y57=>
 gP t43 true (z0e none t55 h56) h56 fun t58 h59 y60=>
 gV t43 true h59 (z1J C z3o [t58] h59) fun t61 h62 y63=>
 (pK (z0e none t53 h62) fun v=>(fun u (g1:Heap) (y1:Esc)=>u=t54∧g1=h62∧y1=[]) v h62 [])∧(pK (z0M t43 t61 (AB false)) fun t64=>
 pK (z0c 5 none t13) fun t65=>
 wK (z0n none t65 t54 h62) fun t66 h67 y68=>
 NW C gl q1 ⟨[(1,t1),(3,t13),(4,t64)],h67,(y68++(y63++(y60++(y57++(y49++(y45++(y18++(y15++(y3++x)))))))))⟩ K))
 (NW C gl q1 ⟨[(1,t1),(3,t13),(4,t43),(34,t52)],h48,(y49++(y45++(y18++(y15++(y3++x)))))⟩ K)))
theorem E_q03z {C gl q1 v0 h x K}:NW C gl (zrZ q1) ⟨enter [v0],h,x⟩ K=z6h C gl q1 v0 h x K:=by kernel_rfl
theorem e_q03z {C gl v0 h x K}:NW C gl ziM.body ⟨enter [v0],h,x⟩ K=z6h C gl z5m v0 h x K:=E_q03z
def P_q05h:ACode:=(.seq (rg [mV 4 cF] [0,1])
(.seq (rg [mV 5 0,
mV 6 1,
cL 7 z8Y [5,6],
bN 8 .geq 7 (cI 0),
mV 4 8] [4])
.ret))
def ziU:AFun:=⟨2,[.t 4],P_q05h,true,false⟩
def zjU (C:Hd) (gl:GL) (v0 v1:AV) (h:Heap) (x:Esc) (K:KT):Prop:=
 C z8Y [v0,v1] h fun t1 h2 y3=>
 pK (oBin .geq t1 (AI 0)) fun t4=>
 K .ret ⟨[(4,t4)],h2,(y3++x)⟩
theorem e_q05h {C gl v0 v1 h x K}:NW C gl ziU.body ⟨enter [v0,v1],h,x⟩ K=zjU C gl v0 v1 h x K:=by kernel_rfl
def P_q03w:ACode:=(.seq (rg [uO 2 (.box 0),
mV 3 cF] [1,2])
(.seq (rg [lD 4 (some 8) 2,
lD 5 (some 8) 1,
cL 6 z8W [4,5],
mV 3 6] [3])
.ret))
def ziL:AFun:=⟨2,[.t 3],P_q03w,false,false⟩
def zjR (C:Hd) (gl:GL) (v0 v1:AV) (h:Heap) (x:Esc) (K:KT):Prop:=
 wK (oBox v0 h) fun t1 h2 y3=>
 pK (z0e (some 8) t1 h2) fun t4=>
 pK (z0e (some 8) v1 h2) fun t5=>
 C z8W [t4,t5] h2 fun t6 h7 y8=>
 K .ret ⟨[(3,t6)],h7,(y8++(y3++x))⟩
theorem e_q03w {C gl v0 v1 h x K}:NW C gl ziL.body ⟨enter [v0,v1],h,x⟩ K=zjR C gl v0 v1 h x K:=by kernel_rfl
def P_q056:ACode:=(.seq (rg [uO 2 (.box 0),
uO 3 (.box 1),
mV 4 cF] [2,3])
(.seq (rg [fA 5 0 none 2,
lD 6 none 5,
fA 7 0 none 3,
lD 8 none 7,
bN 9 .eql 6 8,
mV 10 9,
gD 11 10 true (.faddr 1 none 2),
gD 12 10 true (.load none 11),
gD 13 10 true (.faddr 1 none 3),
gD 14 10 true (.load none 13),
gD 15 10 true (.bin .eql 12 14),
uO 16 (.pick 10 15 cF),
mV 4 16] [4])
.ret))
def ziS:AFun:=⟨2,[.t 4],P_q056,false,false⟩
def zeS (C:Hd) (gl:GL) (v0 v1:AV) (h:Heap) (x:Esc) (K:KT):Prop:=
 wK (oBox v0 h) fun t1 h2 y3=>
 wK (oBox v1 h2) fun t4 h5 y6=>
 pK (z0c 0 none t1) fun t7=>
 pK (z0e none t7 h5) fun t8=>
 pK (z0c 0 none t4) fun t9=>
 pK (z0e none t9 h5) fun t10=>
 pK (oBin .eql t8 t10) fun t11=>
 gP t11 true (z0c 1 none t1) h5 fun t12 h13 y14=>
 gP t11 true (z0e none t12 h13) h13 fun t15 h16 y17=>
 gP t11 true (z0c 1 none t4) h16 fun t18 h19 y20=>
 gP t11 true (z0e none t18 h19) h19 fun t21 h22 y23=>
 gP t11 true (oBin .eql t15 t21) h22 fun t24 h25 y26=>
 pK (z0M t11 t24 (AB false)) fun t27=>
 K .ret ⟨[(4,t27)],h25,(y26++(y23++(y20++(y17++(y14++(y6++(y3++x)))))))⟩
theorem e_q056 {C gl v0 v1 h x K}:NW C gl ziS.body ⟨enter [v0,v1],h,x⟩ K=zeS C gl v0 v1 h x K:=by kernel_rfl
def z5g:ACode:=.pr [0] (.seq (rg [mV 15 0,
mV 4 15] [4])
.ret)
def zbm (C:Hd) (gl:GL) (v0:AV) (h:Heap) (x:Esc) (K:KT):Prop:=
 K .ret ⟨[(4,v0)],h,x⟩
theorem zkz {C gl e h x K}:NW C gl z5g ⟨e,h,x⟩ K=zbm C gl (aget e 0) h x K:=by kernel_rfl
def zrV (q1:ACode):ACode:=(.seq (rg [mV 4 (cI 0)] [0,1])
(.seq (.seq (rg [mV 5 1,
bN 6 .lss 5 (cI 1)] [0,1,6])
(.cond 6 (.seq (rg [mV 4 (cI 0)] [4])
.ret)
.skip))
(.seq (rg [mV 7 0,
mV 8 1,
bN 9 .rem 7 8,
mV 0 9] [0,1])
(.seq (.seq (rg [mV 10 0,
bN 11 .lss 10 (cI 0)] [0,1,11])
(.cond 11 (rg [mV 12 0,
mV 13 1,
bN 14 .add 12 13,
mV 0 14] [0])
.skip))
q1))))
def ziA:AFun:=⟨2,[.t 4],zrV z5g,false,false⟩
def zeN (C:Hd) (gl:GL) (q1:ACode) (v0 v1:AV) (h:Heap) (x:Esc) (K:KT):Prop:=
 pK (oBin .lss v1 (AI 1)) fun t1=>
 z0l t1 (K .ret ⟨[(4,(AI 0))],h,x⟩)
 (pK (oBin .rem v0 v1) fun t2=>
 pK (oBin .lss t2 (AI 0)) fun t3=>
 z0l t3 (pK (oBin .add t2 v1) fun t4=>
 NW C gl q1 ⟨[(0,t4)],h,x⟩ K)
 (NW C gl q1 ⟨[(0,t2),(1,v1),(11,t3)],h,x⟩ K))
theorem E_q039 {C gl q1 v0 v1 h x K}:NW C gl (zrV q1) ⟨enter [v0,v1],h,x⟩ K=zeN C gl q1 v0 v1 h x K:=by kernel_rfl
theorem e_q039 {C gl v0 v1 h x K}:NW C gl ziA.body ⟨enter [v0,v1],h,x⟩ K=zeN C gl z5g v0 v1 h x K:=E_q039
def P_q05k:ACode:=(.seq (rg [mV 4 cF] [0,1])
(.seq (rg [mV 5 0,
mV 6 1,
cL 7 z4Q [5,6],
bN 8 .geq 7 (cI 0),
mV 4 8] [4])
.ret))
def zel:AFun:=⟨2,[.t 4],P_q05k,true,false⟩
def zjW (C:Hd) (gl:GL) (v0 v1:AV) (h:Heap) (x:Esc) (K:KT):Prop:=
 C z4Q [v0,v1] h fun t1 h2 y3=>
 pK (oBin .geq t1 (AI 0)) fun t4=>
 K .ret ⟨[(4,t4)],h2,(y3++x)⟩
theorem e_q05k {C gl v0 v1 h x K}:NW C gl zel.body ⟨enter [v0,v1],h,x⟩ K=zjW C gl v0 v1 h x K:=by kernel_rfl
def P_q00a:ACode:=(.seq (rg [mV 6 cF] [0,1,2])
(.seq (rg [mV 7 0,
mV 8 1,
bN 9 .lss 7 8,
mV 10 9,
gD 11 10 false (.mv 0),
gD 12 10 false (.mv 2),
gD 13 10 false (.bin .gtr 11 12),
uO 14 (.pick 10 cT 13),
mV 6 14] [6])
.ret))
def zee:AFun:=⟨3,[.t 6],P_q00a,false,false⟩
def zjG (C:Hd) (gl:GL) (v0 v1 v2:AV) (h:Heap) (x:Esc) (K:KT):Prop:=
 pK (oBin .lss v0 v1) fun t1=>
 gM t1 false v0 h fun t2 h3 y4=>
 gM t1 false v2 h3 fun t5 h6 y7=>
 gP t1 false (oBin .gtr t2 t5) h6 fun t8 h9 y10=>
 pK (z0M t1 (AB true) t8) fun t11=>
 K .ret ⟨[(6,t11)],h9,(y10++(y7++(y4++x)))⟩
theorem e_q00a {C gl v0 v1 v2 h x K}:NW C gl zee.body ⟨enter [v0,v1,v2],h,x⟩ K=zjG C gl v0 v1 v2 h x K:=by kernel_rfl
def P_q084:ACode:=(.seq (rg [uO 1 (.box 0),
mV 2 (cI 0)] [1])
(.seq (dr [dF (fA 5 3 none 1) [1],
dF (lD 6 none 5) [5],
dF (bN 7 .eql 6 (cI 7)) [6],
dF (fA 8 3 none 1) [1],
dF (lD 9 none 8) [8],
dF (bN 10 .eql 9 (cI 2)) [9],
dF (mV 3 7) [7],
dF (mV 4 10) [10]] [1,3,4])
(.seq (.block 0 (.seq (rg [fA 12 0 none 1,
lD 13 none 12,
cL 14 z1w [13],
uO 15 (.un .not 14),
mV 11 15] [1,3,4,11])
(.cond 11 (.seq (rg [mV 2 (cI 5)] [2])
.ret)
(.seq (rg [fA 17 1 none 1,
lD 18 none 17,
cL 19 z0I [18,(cI 1),(cI 1000000)],
mV 20 19,
gD 21 20 false (.faddr 2 none 1),
gD 22 20 false (.load none 21),
gD 23 20 false (.call z4N [22]),
gD 24 20 false (.un .not 23),
uO 25 (.pick 20 cT 24),
mV 16 25] [1,3,4,16])
(.cond 16 (.seq (rg [mV 2 (cI 1)] [2])
.ret)
(.seq (rg [fA 27 3 none 1,
lD 28 none 27,
cL 29 z0I [28,(cI 1),(cI 7)],
mV 26 29] [1,3,4,26])
(.cond 26 (.seq (rg [mV 2 (cI 4)] [2])
.ret)
(.seq (rg [mV 31 3,
uO 32 (.un .not 31),
mV 33 32,
gD 34 33 true (.faddr 4 none 1),
gD 35 33 true (.load none 34),
gD 36 33 true (.call z1w [35]),
gD 37 33 true (.un .not 36),
uO 38 (.pick 33 37 cF),
mV 39 38,
gD 40 39 false (.mv 4),
gD 41 39 false (.mv 40),
gD 42 41 true (.faddr 5 none 1),
gD 43 41 true (.load none 42),
gD 44 41 true (.call z1w [43]),
gD 45 41 true (.un .not 44),
gD 46 39 false (.pick 41 45 cF),
uO 47 (.pick 39 cT 46),
mV 48 47,
gD 49 48 false (.mv 3),
gD 50 48 false (.mv 49),
gD 51 50 true (.faddr 6 none 1),
gD 52 50 true (.load none 51),
gD 53 50 true (.call z1w [52]),
gD 54 50 true (.un .not 53),
gD 55 48 false (.pick 50 54 cF),
uO 56 (.pick 48 cT 55),
mV 30 56] [1,3,4,30])
(.cond 30 (.seq (rg [mV 2 (cI 5)] [2])
.ret)
(.seq (rg [mV 58 3,
mV 59 58,
gD 60 59 true (.faddr 7 none 1),
gD 61 59 true (.load none 60),
gD 62 59 true (.call z0I [61,(cI 1),(cI 1000000)]),
uO 63 (.pick 59 62 cF),
mV 57 63] [1,3,4,57])
(.cond 57 (.seq (rg [mV 2 (cI 1)] [2])
.ret)
(.seq (rg [mV 65 3,
mV 66 65,
gD 67 66 true (.faddr 4 none 1),
gD 68 66 true (.load none 67),
gD 69 66 true (.bin .neq 68 (cS [])),
uO 70 (.pick 66 69 cF),
mV 71 70,
gD 72 71 false (.mv 4),
gD 73 71 false (.un .not 72),
gD 74 71 false (.mv 73),
gD 75 74 true (.faddr 5 none 1),
gD 76 74 true (.load none 75),
gD 77 74 true (.bin .neq 76 (cS [])),
gD 78 71 false (.pick 74 77 cF),
uO 79 (.pick 71 cT 78),
mV 80 79,
gD 81 80 false (.mv 3),
gD 82 80 false (.un .not 81),
gD 83 80 false (.mv 82),
gD 84 83 true (.faddr 6 none 1),
gD 85 83 true (.load none 84),
gD 86 83 true (.bin .neq 85 (cS [])),
gD 87 83 true (.mv 86),
gD 88 87 false (.faddr 7 none 1),
gD 89 87 false (.load none 88),
gD 90 87 false (.bin .neq 89 (cI 0)),
gD 91 83 true (.pick 87 cT 90),
gD 92 80 false (.pick 83 91 cF),
uO 93 (.pick 80 cT 92),
mV 64 93] [64])
(.cond 64 (.seq (rg [mV 2 (cI 3)] [2])
.ret)
.skip)))))))))))))
(.seq (rg [mV 2 (cI 0)] [2])
.ret))))
def zes:AFun:=⟨1,[.t 2],P_q084,false,false⟩
def z4H (C:Hd) (gl:GL) (v0:AV) (h:Heap) (x:Esc) (K:KT):Prop:=
 wK (oBox v0 h) fun t1 h2 y3=>
 pK (z0c 3 none t1) fun t4=>
 pK (z0e none t4 h2) fun t5=>
 pK (oBin .eql t5 (AI 7)) fun t6=>
 pK (z0c 3 none t1) fun t7=>
 pK (z0e none t7 h2) fun t8=>
 pK (oBin .eql t8 (AI 2)) fun t9=>
 pK (z0c 0 none t1) fun t10=>
 pK (z0e none t10 h2) fun t11=>
 C z1w [t11] h2 fun t12 h13 y14=>
 pK (oUn .not t12) fun t15=>
 z0l t15 (K .ret ⟨[(2,(AI 5))],h13,(y14++(y3++x))⟩)
 (pK (z0c 1 none t1) fun t16=>
 pK (z0e none t16 h13) fun t17=>
 C z0I [t17,(AI 1),(AI 1000000)] h13 fun t18 h19 y20=>
 gP t18 false (z0c 2 none t1) h19 fun t21 h22 y23=>
 gP t18 false (z0e none t21 h22) h22 fun t24 h25 y26=>
 gV t18 false h25 (C z4N [t24] h25) fun t27 h28 y29=>
 gP t18 false (oUn .not t27) h28 fun t30 h31 y32=>
 pK (z0M t18 (AB true) t30) fun t33=>
 z0l t33 (K .ret ⟨[(2,(AI 1))],h31,(y32++(y29++(y26++(y23++(y20++(y14++(y3++x)))))))⟩)
 (pK (z0c 3 none t1) fun t34=>
 pK (z0e none t34 h31) fun t35=>
 C z0I [t35,(AI 1),(AI 7)] h31 fun t36 h37 y38=>
 z0l t36 (K .ret ⟨[(2,(AI 4))],h37,(y38++(y32++(y29++(y26++(y23++(y20++(y14++(y3++x))))))))⟩)
 (pK (oUn .not t6) fun t39=>
 gP t39 true (z0c 4 none t1) h37 fun t40 h41 y42=>
 gP t39 true (z0e none t40 h41) h41 fun t43 h44 y45=>
 gV t39 true h44 (C z1w [t43] h44) fun t46 h47 y48=>
 gP t39 true (oUn .not t46) h47 fun t49 h50 y51=>
 pK (z0M t39 t49 (AB false)) fun t52=>
 gM t52 false t9 h50 fun t53 h54 y55=>
 gM t52 false t53 h54 fun t56 h57 y58=>
 gP t56 true (z0c 5 none t1) h57 fun t59 h60 y61=>
 gP t56 true (z0e none t59 h60) h60 fun t62 h63 y64=>
 gV t56 true h63 (C z1w [t62] h63) fun t65 h66 y67=>
 gP t56 true (oUn .not t65) h66 fun t68 h69 y70=>
 gP t52 false (z0M t56 t68 (AB false)) h69 fun t71 h72 y73=>
 pK (z0M t52 (AB true) t71) fun t74=>
 gM t74 false t6 h72 fun t75 h76 y77=>
 gM t74 false t75 h76 fun t78 h79 y80=>
 gP t78 true (z0c 6 none t1) h79 fun t81 h82 y83=>
 gP t78 true (z0e none t81 h82) h82 fun t84 h85 y86=>
 gV t78 true h85 (C z1w [t84] h85) fun t87 h88 y89=>
 gP t78 true (oUn .not t87) h88 fun t90 h91 y92=>
 gP t74 false (z0M t78 t90 (AB false)) h91 fun t93 h94 y95=>
 pK (z0M t74 (AB true) t93) fun t96=>
 z0l t96 (K .ret ⟨[(2,(AI 5))],h94,(y95++(y92++(y89++(y86++(y83++(y80++(y77++(y73++(y70++(y67++(y64++(y61++(y58++(y55++(y51++(y48++(y45++(y42++(y38++(y32++(y29++(y26++(y23++(y20++(y14++(y3++x))))))))))))))))))))))))))⟩)
 (gP t6 true (z0c 7 none t1) h94 fun t97 h98 y99=>
 gP t6 true (z0e none t97 h98) h98 fun t100 h101 y102=>
 gV t6 true h101 (C z0I [t100,(AI 1),(AI 1000000)] h101) fun t103 h104 y105=>
 pK (z0M t6 t103 (AB false)) fun t106=>
 z0l t106 (K .ret ⟨[(2,(AI 1))],h104,(y105++(y102++(y99++(y95++(y92++(y89++(y86++(y83++(y80++(y77++(y73++(y70++(y67++(y64++(y61++(y58++(y55++(y51++(y48++(y45++(y42++(y38++(y32++(y29++(y26++(y23++(y20++(y14++(y3++x)))))))))))))))))))))))))))))⟩)
 (gP t6 true (z0c 4 none t1) h104 fun t107 h108 y109=>
 gP t6 true (z0e none t107 h108) h108 fun t110 h111 y112=>
 gP t6 true (oBin .neq t110 (.p (.str []))) h111 fun t113 h114 y115=>
 pK (z0M t6 t113 (AB false)) fun t116=>
 gM t116 false t9 h114 fun t117 h118 y119=>
 gP t116 false (oUn .not t117) h118 fun t120 h121 y122=>
 gM t116 false t120 h121 fun t123 h124 y125=>
 gP t123 true (z0c 5 none t1) h124 fun t126 h127 y128=>
 gP t123 true (z0e none t126 h127) h127 fun t129 h130 y131=>
 gP t123 true (oBin .neq t129 (.p (.str []))) h130 fun t132 h133 y134=>
 gP t116 false (z0M t123 t132 (AB false)) h133 fun t135 h136 y137=>
 pK (z0M t116 (AB true) t135) fun t138=>
 gM t138 false t6 h136 fun t139 h140 y141=>
 gP t138 false (oUn .not t139) h140 fun t142 h143 y144=>
 gM t138 false t142 h143 fun t145 h146 y147=>
 gP t145 true (z0c 6 none t1) h146 fun t148 h149 y150=>
 gP t145 true (z0e none t148 h149) h149 fun t151 h152 y153=>
 gP t145 true (oBin .neq t151 (.p (.str []))) h152 fun t154 h155 y156=>
 gM t145 true t154 h155 fun t157 h158 y159=>
 gP t157 false (z0c 7 none t1) h158 fun t160 h161 y162=>
 gP t157 false (z0e none t160 h161) h161 fun t163 h164 y165=>
 gP t157 false (oBin .neq t163 (AI 0)) h164 fun t166 h167 y168=>
 gP t145 true (z0M t157 (AB true) t166) h167 fun t169 h170 y171=>
 gP t138 false (z0M t145 t169 (AB false)) h170 fun t172 h173 y174=>
 pK (z0M t138 (AB true) t172) fun t175=>
 z0l t175 (K .ret ⟨[(2,(AI 3))],h173,(y174++(y171++(y168++(y165++(y162++(y159++(y156++(y153++(y150++(y147++(y144++(y141++(y137++(y134++(y131++(y128++(y125++(y122++(y119++(y115++(y112++(y109++(y105++(y102++(y99++(y95++(y92++(y89++(y86++(y83++(y80++(y77++(y73++(y70++(y67++(y64++(y61++(y58++(y55++(y51++(y48++(y45++(y42++(y38++(y32++(y29++(y26++(y23++(y20++(y14++(y3++x)))))))))))))))))))))))))))))))))))))))))))))))))))⟩)
 (K .ret ⟨[(2,(AI 0))],h173,(y174++(y171++(y168++(y165++(y162++(y159++(y156++(y153++(y150++(y147++(y144++(y141++(y137++(y134++(y131++(y128++(y125++(y122++(y119++(y115++(y112++(y109++(y105++(y102++(y99++(y95++(y92++(y89++(y86++(y83++(y80++(y77++(y73++(y70++(y67++(y64++(y61++(y58++(y55++(y51++(y48++(y45++(y42++(y38++(y32++(y29++(y26++(y23++(y20++(y14++(y3++x)))))))))))))))))))))))))))))))))))))))))))))))))))⟩))))))
theorem e_q084 {C gl v0 h x K}:NW C gl zes.body ⟨enter [v0],h,x⟩ K=z4H C gl v0 h x K:=by kernel_rfl
def P_q082:ACode:=(.seq (rg [uO 2 (.box 0),
uO 3 (.box 1),
mV 4 (cI 0)] [2,3])
(.seq (dr [dF (fA 5 2 none 2) [2],
dF (lD 6 none 5) [5],
dF (fA 7 2 none 3) [3],
dF (lD 8 none 7) [7],
dT (cL 9 z4O [6,8]) [6,8],
dF (fA 10 0 none 2) [2],
dA (lD 11 none 10) [10] false [4] [],
dF (fA 12 0 none 3) [3],
dA (lD 13 none 12) [12] false [4] [],
dT (cL 14 z28 [11,13]) [11,13],
dF (fA 15 1 none 2) [2],
dA (lD 16 none 15) [15] false [4,9] [],
dF (fA 17 1 none 3) [3],
dA (lD 18 none 17) [17] false [4,9] [],
dT (cL 19 z4O [16,18]) [16,18],
dF (uO 20 (.bsl false none 3 (.int .i64 0) [(0,9),(1,14),(2,19)])) [9,14,19],
dT (cL 21 z6n [20]) [20],
dF (mV 4 21) [21]] [4])
.ret))
def zeq:AFun:=⟨2,[.t 4],P_q082,false,false⟩
def zjY (C:Hd) (gl:GL) (v0 v1:AV) (h:Heap) (x:Esc) (K:KT):Prop:=
 wK (oBox v0 h) fun t1 h2 y3=>
 wK (oBox v1 h2) fun t4 h5 y6=>
 pK (z0c 2 none t1) fun t7=>
 pK (z0e none t7 h5) fun t8=>
 pK (z0c 2 none t4) fun t9=>
 pK (z0e none t9 h5) fun t10=>
 z1J C z4O [t8,t10] h5 fun t11 h12 y13=>
 pK (z0c 0 none t1) fun t14=>
 pK (z0e none t14 h12) fun t15=>
 (pK (z0e none t14 h5) fun v=>(fun u (g1:Heap) (y1:Esc)=>u=t15∧g1=h5∧y1=[]) v h5 [])∧(pK (z0c 0 none t4) fun t16=>
 pK (z0e none t16 h12) fun t17=>
 (pK (z0e none t16 h5) fun v=>(fun u (g1:Heap) (y1:Esc)=>u=t17∧g1=h5∧y1=[]) v h5 [])∧(z1J C z28 [t15,t17] h12 fun t18 h19 y20=>
 pK (z0c 1 none t1) fun t21=>
 pK (z0e none t21 h19) fun t22=>
 (pK (z0e none t21 h5) fun v=>(fun u (g1:Heap) (y1:Esc)=>u=t22∧g1=h5∧y1=[]) v h5 [])∧((pK (z0e none t21 h12) fun v=>(fun u (g1:Heap) (y1:Esc)=>u=t22∧g1=h12∧y1=[]) v h12 [])∧(pK (z0c 1 none t4) fun t23=>
 pK (z0e none t23 h19) fun t24=>
 (pK (z0e none t23 h5) fun v=>(fun u (g1:Heap) (y1:Esc)=>u=t24∧g1=h5∧y1=[]) v h5 [])∧((pK (z0e none t23 h12) fun v=>(fun u (g1:Heap) (y1:Esc)=>u=t24∧g1=h12∧y1=[]) v h12 [])∧(z1J C z4O [t22,t24] h19 fun t25 h26 y27=>
 wK (oBsl false none 3 (.int .i64 0) [(0,t11),(1,t18),(2,t25)] h26) fun t28 h29 y30=>
 (h29=h26∧y30=[])∧(z1J C z6n [t28] h29 fun t31 h32 y33=>
 K .ret ⟨[(4,t31)],h32,(y33++(y30++(y27++(y20++(y13++(y6++(y3++x)))))))⟩)))))))
theorem e_q082 {C gl v0 v1 h x K}:NW C gl zeq.body ⟨enter [v0,v1],h,x⟩ K=zjY C gl v0 v1 h x K:=by kernel_rfl
def z2T:ACode:=.pr [3,8,9,10] (.seq (rg [bN 11 .lss 10 9] [3,8,9,10,11])
(.seq (.cond 11 .skip
(.exit 0))
(.seq (.block 1 (.seq (rg [iA 12 (some 8) 8 10,
lD 13 (some 8) 12,
uO 5 (.alloc [.p (.str []),.p (.int .i64 0),.p (.int .i64 0),.p (.int .i64 0),.p (.str []),.p (.str []),.p (.str []),.p (.int .i64 0)]),
wO (.store (some 8) 5 13)] [3,5,8,9,10])
(.seq (rg [fA 14 0 none 5,
lD 15 none 14,
fA 16 1 none 5,
lD 17 none 16,
uO 18 (.build [.p (.str []),.p (.int .i64 0)] [(0,1,15),(1,1,17)]),
uO 6 (.alloc [.p (.str []),.p (.int .i64 0)]),
wO (.store (some 2) 6 18)] [3,6,8,9,10])
(.seq (.seq (rg [mV 19 3,
lD 20 (some 2) 6,
uO 21 (.look ((some 2),[2,0]) false (AB false) 19 20)] [3,6,8,9,10,21])
(.cond 21 (.seq (rg [mV 2 cT] [2])
.ret)
.skip))
(rg [mV 22 3,
lD 23 (some 2) 6,
wO (.mupd ((some 2),[2,0]) 22 23 cT)] [3,8,9,10])))))
(rg [bN 24 .add 10 (cI 1),
mV 10 24] [3,8,9,10]))))
def zbW (C:Hd) (gl:GL) (v3 v8 v9 v10:AV) (h:Heap) (x:Esc) (K:KT):Prop:=
 pK (oBin .lss v10 v9) fun t1=>
 z0l t1 (pK (z0y (some 8) v8 v10 h) fun t2=>
 pK (z0e (some 8) t2 h) fun t3=>
 alK [.p (.str []),.p (.int .i64 0),.p (.int .i64 0),.p (.int .i64 0),.p (.str []),.p (.str []),.p (.str []),.p (.int .i64 0)] h fun t4 h5 y6=>
 wK (z0n (some 8) t4 t3 h5) fun t7 h8 y9=>
 pK (z0c 0 none t4) fun t10=>
 pK (z0e none t10 h8) fun t11=>
 pK (z0c 1 none t4) fun t12=>
 pK (z0e none t12 h8) fun t13=>
 pK (z0G [.p (.str []),.p (.int .i64 0)] [(0,1,t11),(1,1,t13)]) fun t14=>
 alK [.p (.str []),.p (.int .i64 0)] h8 fun t15 h16 y17=>
 wK (z0n (some 2) t15 t14 h16) fun t18 h19 y20=>
 pK (z0e (some 2) t15 h19) fun t21=>
 pK (z1p ((some 2),[2,0]) false (AB false) v3 t21 h19) fun t22=>
 z0l t22 (K .ret ⟨[(2,(AB true))],h19,(y20++(y17++(y9++(y6++x))))⟩)
 (pK (z0e (some 2) t15 h19) fun t23=>
 wK (z17 ((some 2),[2,0]) v3 t23 (AB true) h19) fun t24 h25 y26=>
 pK (oBin .add v10 (AI 1)) fun t27=>
 K .normal ⟨[(3,v3),(8,v8),(9,v9),(10,t27)],h25,(y26++(y20++(y17++(y9++(y6++x)))))⟩))
 (K (.exit 0) ⟨[(3,v3),(8,v8),(9,v9),(10,v10),(11,t1)],h,x⟩)
theorem zlr {C gl e h x K}:NW C gl z2T ⟨e,h,x⟩ K=zbW C gl (aget e 3) (aget e 8) (aget e 9) (aget e 10) h x K:=by kernel_rfl
theorem zm9 {C gl e h x K}:NW C gl (.loop (.scope z2T)) ⟨e,h,x⟩ K=z1t C gl (.scope z2T) K [(3,aget e 3),(8,aget e 8),(9,aget e 9),(10,aget e 10)] h x:=z1V
def z54:ACode:=.pr [] (.seq (rg [mV 2 cF] [2])
.ret)
def zbX (C:Hd) (gl:GL) (h:Heap) (x:Esc) (K:KT):Prop:=
 K .ret ⟨[(2,(AB false))],h,x⟩
theorem zls {C gl e h x K}:NW C gl z54 ⟨e,h,x⟩ K=zbX C gl h x K:=by kernel_rfl
def zsq (q1 q2:ACode):ACode:=(.seq (rg [mV 2 cF] [0])
(.seq (rg [uO 7 (.mkmap),
mV 3 7] [0,3])
(.seq (.seq (rg [mV 8 0,
lN 9 8,
mV 10 (cI 0)] [3,8,9,10])
(.block 0 (.loop (.scope q1))))
q2)))
def ze1:AFun:=⟨1,[.t 2],zsq z2T z54,false,false⟩
def zfc (C:Hd) (gl:GL) (q1 q2:ACode) (v0:AV) (h:Heap) (x:Esc) (K:KT):Prop:=
 mmK h fun t1 h2 y3=>
 pK (oLen v0) fun t4=>
 NW C gl (.loop (.scope q1)) ⟨[(3,t1),(8,v0),(9,t4),(10,(AI 0))],h2,(y3++x)⟩ (z0v 0 (seqN C gl q2 K))
theorem E_q08k {C gl q1 q2 v0 h x K}:NW C gl (zsq q1 q2) ⟨enter [v0],h,x⟩ K=zfc C gl q1 q2 v0 h x K:=by kernel_rfl
theorem e_q08k {C gl v0 h x K}:NW C gl ze1.body ⟨enter [v0],h,x⟩ K=zfc C gl z2T z54 v0 h x K:=E_q08k
def z7R:ACode:=.pr [0,3,4,5] (rg [mV 16 5,
bN 17 .sub 16 (cI 1),
mV 5 17] [0,3,4,5])
def zbL (C:Hd) (gl:GL) (v0 v3 v4 v5:AV) (h:Heap) (x:Esc) (K:KT):Prop:=
 pK (oBin .sub v5 (AI 1)) fun t1=>
 K .normal ⟨[(0,v0),(3,v3),(4,v4),(5,t1)],h,x⟩
theorem zlb {C gl e h x K}:NW C gl z7R ⟨e,h,x⟩ K=zbL C gl (aget e 0) (aget e 3) (aget e 4) (aget e 5) h x K:=by kernel_rfl
def zaH (q1:ACode):ACode:=.pr [0,3,4,5] (.seq (.seq (rg [mV 14 5,
bN 15 .geq 14 (cI 0)] [0,3,4,5,15])
(.cond 15 .skip
(.exit 0)))
(.seq (.block 1 (.seq (rg [mV 18 0,
mV 19 5,
iA 20 (some 8) 18 19,
lD 21 (some 8) 20,
uO 6 (.alloc [.p (.str []),.p (.int .i64 0),.p (.int .i64 0),.p (.int .i64 0),.p (.str []),.p (.str []),.p (.str []),.p (.int .i64 0)]),
wO (.store (some 8) 6 21)] [0,3,4,5,6])
(.seq (rg [mV 22 4,
mV 23 5,
mV 24 3,
fA 25 0 none 6,
lD 26 none 25,
fA 27 1 none 6,
lD 28 none 27,
uO 29 (.build [.p (.str []),.p (.int .i64 0)] [(0,1,26),(1,1,28)]),
uO 30 (.look ((some 2),[2,0]) false (AB false) 24 29),
uO 31 (.un .not 30),
iA 32 none 22 23,
wO (.store none 32 31)] [0,3,4,5,6])
(.seq (rg [mV 33 4,
mV 34 5,
iA 35 none 33 34,
lD 36 none 35,
mV 37 36,
gD 38 37 true (.faddr 3 none 6),
gD 39 37 true (.load none 38),
gD 40 37 true (.bin .eql 39 (cI 7)),
uO 41 (.pick 37 40 cF)] [0,3,4,5,6,41])
(.cond 41 (rg [mV 42 3,
fA 43 6 none 6,
lD 44 none 43,
fA 45 7 none 6,
lD 46 none 45,
uO 47 (.build [.p (.str []),.p (.int .i64 0)] [(0,1,44),(1,1,46)]),
wO (.mupd ((some 2),[2,0]) 42 47 cT)] [0,3,4,5])
.skip)))))
q1))
def z2Q:ACode:=zaH z7R
def z7h (C:Hd) (gl:GL) (q1:ACode) (v0 v3 v4 v5:AV) (h:Heap) (x:Esc) (K:KT):Prop:=
 pK (oBin .geq v5 (AI 0)) fun t1=>
 z0l t1 (pK (z0y (some 8) v0 v5 h) fun t2=>
 pK (z0e (some 8) t2 h) fun t3=>
 alK [.p (.str []),.p (.int .i64 0),.p (.int .i64 0),.p (.int .i64 0),.p (.str []),.p (.str []),.p (.str []),.p (.int .i64 0)] h fun t4 h5 y6=>
 wK (z0n (some 8) t4 t3 h5) fun t7 h8 y9=>
 pK (z0c 0 none t4) fun t10=>
 pK (z0e none t10 h8) fun t11=>
 pK (z0c 1 none t4) fun t12=>
 pK (z0e none t12 h8) fun t13=>
 pK (z0G [.p (.str []),.p (.int .i64 0)] [(0,1,t11),(1,1,t13)]) fun t14=>
 pK (z1p ((some 2),[2,0]) false (AB false) v3 t14 h8) fun t15=>
 pK (oUn .not t15) fun t16=>
 pK (z0y none v4 v5 h8) fun t17=>
 wK (z0n none t17 t16 h8) fun t18 h19 y20=>
 pK (z0y none v4 v5 h19) fun t21=>
 pK (z0e none t21 h19) fun t22=>
 gP t22 true (z0c 3 none t4) h19 fun t23 h24 y25=>
 gP t22 true (z0e none t23 h24) h24 fun t26 h27 y28=>
 gP t22 true (oBin .eql t26 (AI 7)) h27 fun t29 h30 y31=>
 pK (z0M t22 t29 (AB false)) fun t32=>
 z0l t32 (pK (z0c 6 none t4) fun t33=>
 pK (z0e none t33 h30) fun t34=>
 pK (z0c 7 none t4) fun t35=>
 pK (z0e none t35 h30) fun t36=>
 pK (z0G [.p (.str []),.p (.int .i64 0)] [(0,1,t34),(1,1,t36)]) fun t37=>
 wK (z17 ((some 2),[2,0]) v3 t37 (AB true) h30) fun t38 h39 y40=>
 NW C gl q1 ⟨[(0,v0),(3,v3),(4,v4),(5,v5)],h39,(y40++(y31++(y28++(y25++(y20++(y9++(y6++x)))))))⟩ K)
 (NW C gl q1 ⟨[(0,v0),(3,v3),(4,v4),(5,v5),(6,t4),(41,t32)],h30,(y31++(y28++(y25++(y20++(y9++(y6++x))))))⟩ K))
 (K (.exit 0) ⟨[(0,v0),(3,v3),(4,v4),(5,v5),(15,t1)],h,x⟩)
theorem zhZ {C gl q1 e h x K}:NW C gl (zaH q1) ⟨e,h,x⟩ K=z7h C gl q1 (aget e 0) (aget e 3) (aget e 4) (aget e 5) h x K:=by kernel_rfl
theorem zlc {C gl e h x K}:NW C gl z2Q ⟨e,h,x⟩ K=z7h C gl z7R (aget e 0) (aget e 3) (aget e 4) (aget e 5) h x K:=zhZ
theorem zm6 {C gl e h x K}:NW C gl (.loop (.scope z2Q)) ⟨e,h,x⟩ K=z1t C gl (.scope z2Q) K [(0,aget e 0),(3,aget e 3),(4,aget e 4),(5,aget e 5)] h x:=z1V
def z5w:ACode:=.pr [4] (.seq (rg [mV 48 4,
mV 2 48] [2])
.ret)
def zbM (C:Hd) (gl:GL) (v4:AV) (h:Heap) (x:Esc) (K:KT):Prop:=
 K .ret ⟨[(2,v4)],h,x⟩
theorem zld {C gl e h x K}:NW C gl z5w ⟨e,h,x⟩ K=zbM C gl (aget e 4) h x K:=by kernel_rfl
def zsk (q2 q3:ACode):ACode:=(.seq (rg [mV 2 (.c (.p (.sl none [])))] [0])
(.seq (rg [uO 7 (.mkmap),
mV 3 7] [0,3])
(.seq (rg [mV 8 0,
lN 9 8,
uO 10 (.mksl none (.bool false) 9 9),
mV 4 10] [0,3,4])
(.seq (.seq (rg [mV 11 0,
lN 12 11,
bN 13 .sub 12 (cI 1),
mV 5 13] [0,3,4,5])
(.block 0 (.loop (.scope q2))))
q3))))
def zer:AFun:=⟨1,[.t 2],zsk z2Q z5w,false,false⟩
def zeY (C:Hd) (gl:GL) (q2 q3:ACode) (v0:AV) (h:Heap) (x:Esc) (K:KT):Prop:=
 mmK h fun t1 h2 y3=>
 pK (oLen v0) fun t4=>
 wK (zvc none (.bool false) t4 t4 h2) fun t5 h6 y7=>
 pK (oLen v0) fun t8=>
 pK (oBin .sub t8 (AI 1)) fun t9=>
 NW C gl (.loop (.scope q2)) ⟨[(0,v0),(3,t1),(4,t5),(5,t9)],h6,(y7++(y3++x))⟩ (z0v 0 (seqN C gl q3 K))
theorem E_q083 {C gl q2 q3 v0 h x K}:NW C gl (zsk q2 q3) ⟨enter [v0],h,x⟩ K=zeY C gl q2 q3 v0 h x K:=by kernel_rfl
theorem e_q083 {C gl v0 h x K}:NW C gl zer.body ⟨enter [v0],h,x⟩ K=zeY C gl z2Q z5w v0 h x K:=E_q083
def z50:ACode:=.pr [0,3,5,38,45] (.cond 45 (.seq (rg [mV 48 0,
mV 49 5,
lD 50 (some 8) 3,
cL 51 z73 [48,49,50],
mV 4 51] [4])
.ret)
(.seq (rg [bN 53 .eql 38 (cI 5),
mV 52 53] [0,3,5,52])
(.cond 52 (.seq (.seq (rg [mV 54 5,
uO 55 (.nilchk 54),
fA 56 0 none 55,
lD 57 none 56,
bN 58 .neq 57 (cI 3)] [3,5,58])
(.cond 58 (.seq (rg [mV 4 (cI 11)] [4])
.ret)
.skip))
(.seq (dr [dF (mV 59 5) [5],
dF (mV 60 5) [5],
dF (fA 61 2 none 3) [3],
dF (lD 62 none 61) [61],
dF (uO 63 (.nilchk 59)) [59],
dF (fA 64 0 none 63) [63],
dA (wO (.store none 64 (cI 1))) [64] true [] [3],
dF (uO 65 (.nilchk 60)) [60],
dF (fA 66 1 none 65) [65],
dT (wO (.store none 66 62)) [66,62]] [])
(.seq (rg [mV 4 (cI 0)] [4])
.ret)))
.skip)))
def zbR (C:Hd) (gl:GL) (v0 v3 v5 v38 v45:AV) (h:Heap) (x:Esc) (K:KT):Prop:=
 z0l v45 (pK (z0e (some 8) v3 h) fun t1=>
 C z73 [v0,v5,t1] h fun t2 h3 y4=>
 K .ret ⟨[(4,t2)],h3,(y4++x)⟩)
 (pK (oBin .eql v38 (AI 5)) fun t5=>
 z0l t5 (pK (oNil v5) fun t6=>
 pK (z0c 0 none t6) fun t7=>
 pK (z0e none t7 h) fun t8=>
 pK (oBin .neq t8 (AI 3)) fun t9=>
 z0l t9 (K .ret ⟨[(4,(AI 11))],h,x⟩)
 (pK (z0c 2 none v3) fun t10=>
 pK (z0e none t10 h) fun t11=>
 pK (oNil v5) fun t12=>
 pK (z0c 0 none t12) fun t13=>
 wK (z0n none t13 (AI 1) h) fun t14 h15 y16=>
 (pK (z0e none t10 h15) fun v=>(fun u (g1:Heap) (y1:Esc)=>u=t11∧g1=h15∧y1=[]) v h15 [])∧(pK (oNil v5) fun t17=>
 pK (z0c 1 none t17) fun t18=>
 wK (z0n none t18 t11 h15) fun t19 h20 y21=>
 K .ret ⟨[(4,(AI 0))],h20,(y21++(y16++x))⟩)))
 (K .normal ⟨[(0,v0),(3,v3),(5,v5),(52,t5)],h,x⟩))
theorem zlk {C gl e h x K}:NW C gl z50 ⟨e,h,x⟩ K=zbR C gl (aget e 0) (aget e 3) (aget e 5) (aget e 38) (aget e 45) h x K:=by kernel_rfl
def z7U:ACode:=.pr [3,5] (.seq (dr [dF (mV 89 5) [5],
dF (mV 90 5) [5],
dF (fA 91 2 none 3) [3],
dF (lD 92 none 91) [91],
dF (uO 93 (.nilchk 89)) [89],
dF (fA 94 0 none 93) [93],
dA (wO (.store none 94 (cI 5))) [94] true [] [3],
dF (uO 95 (.nilchk 90)) [90],
dF (fA 96 1 none 95) [95],
dT (wO (.store none 96 92)) [96,92]] [])
(.seq (rg [mV 4 (cI 0)] [4])
.ret))
def zbS (C:Hd) (gl:GL) (v3 v5:AV) (h:Heap) (x:Esc) (K:KT):Prop:=
 pK (z0c 2 none v3) fun t1=>
 pK (z0e none t1 h) fun t2=>
 pK (oNil v5) fun t3=>
 pK (z0c 0 none t3) fun t4=>
 wK (z0n none t4 (AI 5) h) fun t5 h6 y7=>
 (pK (z0e none t1 h6) fun v=>(fun u (g1:Heap) (y1:Esc)=>u=t2∧g1=h6∧y1=[]) v h6 [])∧(pK (oNil v5) fun t8=>
 pK (z0c 1 none t8) fun t9=>
 wK (z0n none t9 t2 h6) fun t10 h11 y12=>
 K .ret ⟨[(4,(AI 0))],h11,(y12++(y7++x))⟩)
theorem zll {C gl e h x K}:NW C gl z7U ⟨e,h,x⟩ K=zbS C gl (aget e 3) (aget e 5) h x K:=by kernel_rfl
def zaK (q2:ACode):ACode:=.pr [0,3,5] (.seq (.seq (rg [mV 67 5,
uO 68 (.nilchk 67),
fA 69 0 none 68,
lD 70 none 69,
bN 71 .eql 70 (cI 4),
mV 72 71,
gD 73 72 false (.mv 5),
gD 74 72 false (.nilchk 73),
gD 75 72 false (.faddr 0 none 74),
gD 76 72 false (.load none 75),
gD 77 72 false (.bin .eql 76 (cI 5)),
uO 78 (.pick 72 cT 77)] [0,3,5,78])
(.cond 78 (.seq (rg [mV 4 (cI 11)] [4])
.ret)
.skip))
(.seq (.seq (rg [mV 79 5,
uO 80 (.nilchk 79),
fA 81 0 none 80,
lD 82 none 81,
bN 83 .eql 82 (cI 2)] [0,3,5,83])
(.cond 83 (rg [mV 84 0,
mV 85 5,
fA 86 2 none 3,
lD 87 none 86,
cL 88 z4T [84,85,87]] [3,5])
.skip))
q2))
def z51:ACode:=zaK z7U
def z7k (C:Hd) (gl:GL) (q2:ACode) (v0 v3 v5:AV) (h:Heap) (x:Esc) (K:KT):Prop:=
 pK (oNil v5) fun t1=>
 pK (z0c 0 none t1) fun t2=>
 pK (z0e none t2 h) fun t3=>
 pK (oBin .eql t3 (AI 4)) fun t4=>
 gM t4 false v5 h fun t5 h6 y7=>
 gP t4 false (oNil t5) h6 fun t8 h9 y10=>
 gP t4 false (z0c 0 none t8) h9 fun t11 h12 y13=>
 gP t4 false (z0e none t11 h12) h12 fun t14 h15 y16=>
 gP t4 false (oBin .eql t14 (AI 5)) h15 fun t17 h18 y19=>
 pK (z0M t4 (AB true) t17) fun t20=>
 z0l t20 (K .ret ⟨[(4,(AI 11))],h18,(y19++(y16++(y13++(y10++(y7++x)))))⟩)
 (pK (oNil v5) fun t21=>
 pK (z0c 0 none t21) fun t22=>
 pK (z0e none t22 h18) fun t23=>
 pK (oBin .eql t23 (AI 2)) fun t24=>
 z0l t24 (pK (z0c 2 none v3) fun t25=>
 pK (z0e none t25 h18) fun t26=>
 C z4T [v0,v5,t26] h18 fun t27 h28 y29=>
 NW C gl q2 ⟨[(3,v3),(5,v5)],h28,(y29++(y19++(y16++(y13++(y10++(y7++x))))))⟩ K)
 (NW C gl q2 ⟨[(0,v0),(3,v3),(5,v5),(83,t24)],h18,(y19++(y16++(y13++(y10++(y7++x)))))⟩ K))
theorem zic {C gl q2 e h x K}:NW C gl (zaK q2) ⟨e,h,x⟩ K=z7k C gl q2 (aget e 0) (aget e 3) (aget e 5) h x K:=by kernel_rfl
theorem zlm {C gl e h x K}:NW C gl z51 ⟨e,h,x⟩ K=z7k C gl z7U (aget e 0) (aget e 3) (aget e 5) h x K:=zic
def zsn (q1 q3:ACode):ACode:=(.seq (rg [uO 3 (.box 1),
mV 4 (cI 0)] [0,3])
(.seq (dr [dF (mV 6 0) [0],
dF (uO 7 (.nilchk 6)) [6],
dF (fA 8 2 none 7) [7],
dF (lD 9 none 8) [8],
dF (fA 10 4 none 3) [3],
dF (lD 11 none 10) [10],
dF (uO 12 (.look (none,[2]) false (.nilp) 9 11)) [9,11],
dF (mV 5 12) [12]] [0,3,5])
(.seq (.seq (rg [fA 13 3 none 3,
lD 14 none 13,
bN 15 .eql 14 (cI 1)] [0,3,5,15])
(.cond 15 (.seq (.seq (rg [mV 16 5,
uO 17 (.isnil 0 true 16)] [0,3,17])
(.cond 17 (.seq (rg [mV 4 (cI 6)] [4])
.ret)
.skip))
(.seq (dr [dF (mV 18 0) [0],
dF (uO 19 (.nilchk 18)) [18],
dF (fA 20 2 none 19) [19],
dF (lD 21 none 20) [20],
dF (fA 22 4 none 3) [3],
dF (lD 23 none 22) [22],
dF (fA 24 2 none 3) [3],
dF (lD 25 none 24) [24],
dF (mV 26 0) [0],
dF (uO 27 (.nilchk 26)) [26],
dF (fA 28 0 (some 2) 27) [27],
dF (fA 29 0 none 28) [28],
dF (lD 30 none 29) [29],
dF (iA 31 none 30 (cI 0)) [30],
dF (lD 32 none 31) [31],
dF (uO 33 (.build [.p (.int .i64 0),.p (.int .i64 0),.p (.str []),.p (.str []),.p (.int .i64 0)] [(0,1,(cI 1)),(1,1,25),(2,1,32)])) [25,32],
dA (uO 34 (.box 33)) [33] true [] [3,5],
dT (wO (.mupd (none,[2]) 21 23 34)) [21,23,34]] [])
(.seq (rg [mV 4 (cI 0)] [4])
.ret)))
.skip))
(.seq (.seq (rg [mV 35 5,
uO 36 (.isnil 0 false 35)] [0,3,5,36])
(.cond 36 (.seq (rg [mV 4 (cI 8)] [4])
.ret)
.skip))
(.seq (.seq (rg [fA 37 3 none 3,
lD 38 none 37] [0,3,5,38])
(.block 0 (.seq (rg [bN 40 .eql 38 (cI 2),
mV 39 40] [0,3,5,38,39])
(.cond 39 (.seq (rg [mV 41 0,
mV 42 5,
lD 43 (some 8) 3,
cL 44 z74 [41,42,43],
mV 4 44] [4])
.ret)
(.seq (.seq (rg [bN 46 .eql 38 (cI 3),
mV 45 46] [0,3,5,38,45])
(.cond 45 .skip
(rg [bN 47 .eql 38 (cI 4),
mV 45 47] [0,3,5,38,45])))
q1)))))
q3)))))
def zey:AFun:=⟨2,[.t 4],zsn z50 z51,false,false⟩
def z2e (C:Hd) (gl:GL) (q1 q3:ACode) (v0 v1:AV) (h:Heap) (x:Esc) (K:KT):Prop:=
 wK (oBox v1 h) fun t1 h2 y3=>
 pK (oNil v0) fun t4=>
 pK (z0c 2 none t4) fun t5=>
 pK (z0e none t5 h2) fun t6=>
 pK (z0c 4 none t1) fun t7=>
 pK (z0e none t7 h2) fun t8=>
 pK (z1p (none,[2]) false (.nilp) t6 t8 h2) fun t9=>
 pK (z0c 3 none t1) fun t10=>
 pK (z0e none t10 h2) fun t11=>
 pK (oBin .eql t11 (AI 1)) fun t12=>
 z0l t12 (pK (zc4 0 true t9) fun t13=>
 z0l t13 (K .ret ⟨[(4,(AI 6))],h2,(y3++x)⟩)
 (pK (oNil v0) fun t14=>
 pK (z0c 2 none t14) fun t15=>
 pK (z0e none t15 h2) fun t16=>
 pK (z0c 4 none t1) fun t17=>
 pK (z0e none t17 h2) fun t18=>
 pK (z0c 2 none t1) fun t19=>
 pK (z0e none t19 h2) fun t20=>
 pK (oNil v0) fun t21=>
 pK (z0c 0 (some 2) t21) fun t22=>
 pK (z0c 0 none t22) fun t23=>
 pK (z0e none t23 h2) fun t24=>
 pK (z0y none t24 (AI 0) h2) fun t25=>
 pK (z0e none t25 h2) fun t26=>
 pK (z0G [.p (.int .i64 0),.p (.int .i64 0),.p (.str []),.p (.str []),.p (.int .i64 0)] [(0,1,(AI 1)),(1,1,t20),(2,1,t26)]) fun t27=>
 wK (oBox t27 h2) fun t28 h29 y30=>
 (pK (z0e none t15 h29) fun v=>(fun u (g1:Heap) (y1:Esc)=>u=t16∧g1=h29∧y1=[]) v h29 [])∧((pK (z0e none t17 h29) fun v=>(fun u (g1:Heap) (y1:Esc)=>u=t18∧g1=h29∧y1=[]) v h29 [])∧(wK (z17 (none,[2]) t16 t18 t28 h29) fun t31 h32 y33=>
 K .ret ⟨[(4,(AI 0))],h32,(y33++(y30++(y3++x)))⟩))))
 (pK (zc4 0 false t9) fun t34=>
 z0l t34 (K .ret ⟨[(4,(AI 8))],h2,(y3++x)⟩)
 (pK (z0c 3 none t1) fun t35=>
 pK (z0e none t35 h2) fun t36=>
 pK (oBin .eql t36 (AI 2)) fun t37=>
 z0l t37 (pK (z0e (some 8) t1 h2) fun t38=>
 C z74 [v0,t9,t38] h2 fun t39 h40 y41=>
 K .ret ⟨[(4,t39)],h40,(y41++(y3++x))⟩)
 (pK (oBin .eql t36 (AI 3)) fun t42=>
 z0l t42 (NW C gl q1 ⟨[(0,v0),(3,t1),(5,t9),(38,t36),(45,t42)],h2,(y3++x)⟩ (z0v 0 (seqN C gl q3 K)))
 (pK (oBin .eql t36 (AI 4)) fun t43=>
 NW C gl q1 ⟨[(0,v0),(3,t1),(5,t9),(38,t36),(45,t43)],h2,(y3++x)⟩ (z0v 0 (seqN C gl q3 K))))))
theorem E_q08a {C gl q1 q3 v0 v1 h x K}:NW C gl (zsn q1 q3) ⟨enter [v0,v1],h,x⟩ K=z2e C gl q1 q3 v0 v1 h x K:=by kernel_rfl
theorem e_q08a {C gl v0 v1 h x K}:NW C gl zey.body ⟨enter [v0,v1],h,x⟩ K=z2e C gl z50 z51 v0 v1 h x K:=E_q08a
def P_q085:ACode:=(.seq (rg [uO 3 (.box 0),
mV 6 (cI 0)] [1,2,3])
(.seq (rg [lD 7 (some 2) 3,
cL 8 z4S [7],
mV 9 1,
cL 10 z4R [9],
mV 11 2,
cL 12 z75 [11],
uO 13 (.bsl false none 3 (.int .i64 0) [(0,8),(1,10),(2,12)]),
cL 14 z4M [13],
mV 6 14] [6])
.ret))
def zet:AFun:=⟨3,[.t 6],P_q085,false,false⟩
def zjZ (C:Hd) (gl:GL) (v0 v1 v2:AV) (h:Heap) (x:Esc) (K:KT):Prop:=
 wK (oBox v0 h) fun t1 h2 y3=>
 pK (z0e (some 2) t1 h2) fun t4=>
 C z4S [t4] h2 fun t5 h6 y7=>
 C z4R [v1] h6 fun t8 h9 y10=>
 C z75 [v2] h9 fun t11 h12 y13=>
 wK (oBsl false none 3 (.int .i64 0) [(0,t5),(1,t8),(2,t11)] h12) fun t14 h15 y16=>
 C z4M [t14] h15 fun t17 h18 y19=>
 K .ret ⟨[(6,t17)],h18,(y19++(y16++(y13++(y10++(y7++(y3++x))))))⟩
theorem e_q085 {C gl v0 v1 v2 h x K}:NW C gl zet.body ⟨enter [v0,v1,v2],h,x⟩ K=zjZ C gl v0 v1 v2 h x K:=by kernel_rfl
def z2L:ACode:=.pr [0,1,2,6,7,8] (.seq (.seq (rg [mV 11 8,
mV 12 1,
bN 13 .leq 11 12] [0,1,2,6,7,8,13])
(.cond 13 .skip
(.exit 0)))
(.block 1 (.seq (rg [mV 14 0,
mV 15 7,
mV 16 8,
mV 17 2,
cL 18 z6s [14,15,16,17]] [0,1,2,6,8])
(.seq (rg [mV 19 8,
mV 7 19] [0,1,2,6,7,8])
(rg [mV 20 8,
mV 21 6,
bN 22 .add 20 21,
mV 8 22] [0,1,2,6,7,8])))))
def zb8 (C:Hd) (gl:GL) (v0 v1 v2 v6 v7 v8:AV) (h:Heap) (x:Esc) (K:KT):Prop:=
 pK (oBin .leq v8 v1) fun t1=>
 z0l t1 (C z6s [v0,v7,v8,v2] h fun t2 h3 y4=>
 pK (oBin .add v8 v6) fun t5=>
 K .normal ⟨[(0,v0),(1,v1),(2,v2),(6,v6),(7,v8),(8,t5)],h3,(y4++x)⟩)
 (K (.exit 0) ⟨[(0,v0),(1,v1),(2,v2),(6,v6),(7,v7),(8,v8),(13,t1)],h,x⟩)
theorem zkL {C gl e h x K}:NW C gl z2L ⟨e,h,x⟩ K=zb8 C gl (aget e 0) (aget e 1) (aget e 2) (aget e 6) (aget e 7) (aget e 8) h x K:=by kernel_rfl
theorem zmz {C gl e h x K}:NW C gl (.loop z2L) ⟨e,h,x⟩ K=z1t C gl z2L K [(0,aget e 0),(1,aget e 1),(2,aget e 2),(6,aget e 6),(7,aget e 7),(8,aget e 8)] h x:=z0F
def z3B:ACode:=.pr [0,1,2,6,7,8] (.seq (.seq (rg [mV 33 8,
mV 34 1,
bN 35 .leq 33 34] [0,1,2,6,7,8,35])
(.cond 35 .skip
(.exit 4)))
(.block 5 (.seq (rg [mV 36 0,
mV 37 7,
mV 38 7,
mV 39 6,
bN 40 .add 38 39,
mV 41 8,
mV 42 2,
cL 43 zfs [36,37,40,41,42]] [0,1,2,6,8])
(.seq (rg [mV 44 8,
mV 7 44] [0,1,2,6,7,8])
(rg [mV 45 8,
mV 46 6,
bN 47 .mul (cI 2) 46,
bN 48 .add 45 47,
mV 8 48] [0,1,2,6,7,8])))))
def zb9 (C:Hd) (gl:GL) (v0 v1 v2 v6 v7 v8:AV) (h:Heap) (x:Esc) (K:KT):Prop:=
 pK (oBin .leq v8 v1) fun t1=>
 z0l t1 (pK (oBin .add v7 v6) fun t2=>
 C zfs [v0,v7,t2,v8,v2] h fun t3 h4 y5=>
 pK (oBin .mul (AI 2) v6) fun t6=>
 pK (oBin .add v8 t6) fun t7=>
 K .normal ⟨[(0,v0),(1,v1),(2,v2),(6,v6),(7,v8),(8,t7)],h4,(y5++x)⟩)
 (K (.exit 4) ⟨[(0,v0),(1,v1),(2,v2),(6,v6),(7,v7),(8,v8),(35,t1)],h,x⟩)
theorem zkM {C gl e h x K}:NW C gl z3B ⟨e,h,x⟩ K=zb9 C gl (aget e 0) (aget e 1) (aget e 2) (aget e 6) (aget e 7) (aget e 8) h x K:=by kernel_rfl
theorem zm0 {C gl e h x K}:NW C gl (.loop z3B) ⟨e,h,x⟩ K=z1t C gl z3B K [(0,aget e 0),(1,aget e 1),(2,aget e 2),(6,aget e 6),(7,aget e 7),(8,aget e 8)] h x:=z0F
def z7M:ACode:=.pr [0,1,2,6] (rg [mV 61 6,
bN 62 .mul 61 (cI 2),
mV 6 62] [0,1,2,6])
def zbA (C:Hd) (gl:GL) (v0 v1 v2 v6:AV) (h:Heap) (x:Esc) (K:KT):Prop:=
 pK (oBin .mul v6 (AI 2)) fun t1=>
 K .normal ⟨[(0,v0),(1,v1),(2,v2),(6,t1)],h,x⟩
theorem zkN {C gl e h x K}:NW C gl z7M ⟨e,h,x⟩ K=zbA C gl (aget e 0) (aget e 1) (aget e 2) (aget e 6) h x K:=by kernel_rfl
def zaC (q3:ACode):ACode:=.pr [0,1,2,6,7] (.seq (.seq (rg [mV 49 7,
mV 50 6,
bN 51 .add 49 50,
mV 9 51] [0,1,2,6,7,9])
(.seq (rg [mV 52 9,
mV 53 1,
bN 54 .lss 52 53] [0,1,2,6,7,9,54])
(.cond 54 (rg [mV 55 0,
mV 56 7,
mV 57 9,
mV 58 1,
mV 59 2,
cL 60 zfs [55,56,57,58,59]] [0,1,2,6])
.skip)))
q3)
def z7N:ACode:=zaC z7M
def z7c (C:Hd) (gl:GL) (q3:ACode) (v0 v1 v2 v6 v7:AV) (h:Heap) (x:Esc) (K:KT):Prop:=
 pK (oBin .add v7 v6) fun t1=>
 pK (oBin .lss t1 v1) fun t2=>
 z0l t2 (C zfs [v0,v7,t1,v1,v2] h fun t3 h4 y5=>
 NW C gl q3 ⟨[(0,v0),(1,v1),(2,v2),(6,v6)],h4,(y5++x)⟩ K)
 (NW C gl q3 ⟨[(0,v0),(1,v1),(2,v2),(6,v6),(7,v7),(9,t1),(54,t2)],h,x⟩ K)
theorem zhU {C gl q3 e h x K}:NW C gl (zaC q3) ⟨e,h,x⟩ K=z7c C gl q3 (aget e 0) (aget e 1) (aget e 2) (aget e 6) (aget e 7) h x K:=by kernel_rfl
theorem zkO {C gl e h x K}:NW C gl z7N ⟨e,h,x⟩ K=z7c C gl z7M (aget e 0) (aget e 1) (aget e 2) (aget e 6) (aget e 7) h x K:=zhU
def zaD (q2 q4:ACode):ACode:=.pr [0,1,2,6] (.seq (.seq (rg [mV 28 6,
mV 29 1,
bN 30 .lss 28 29] [0,1,2,6,30])
(.cond 30 .skip
(.exit 2)))
(.block 3 (.seq (rg [mV 31 6,
bN 32 .mul (cI 2) 31,
mV 7 (cI 0),
mV 8 32] [0,1,2,6,7,8])
(.seq (.block 4 (.loop q2))
q4))))
def z3C:ACode:=zaD z3B z7N
def z7d (C:Hd) (gl:GL) (q2 q4:ACode) (v0 v1 v2 v6:AV) (h:Heap) (x:Esc) (K:KT):Prop:=
 pK (oBin .lss v6 v1) fun t1=>
 z0l t1 (pK (oBin .mul (AI 2) v6) fun t2=>
 NW C gl (.loop q2) ⟨[(0,v0),(1,v1),(2,v2),(6,v6),(7,(AI 0)),(8,t2)],h,x⟩ (z0v 4 (seqN C gl q4 (z0v 3 K))))
 (K (.exit 2) ⟨[(0,v0),(1,v1),(2,v2),(6,v6),(30,t1)],h,x⟩)
theorem zhV {C gl q2 q4 e h x K}:NW C gl (zaD q2 q4) ⟨e,h,x⟩ K=z7d C gl q2 q4 (aget e 0) (aget e 1) (aget e 2) (aget e 6) h x K:=by kernel_rfl
theorem zkP {C gl e h x K}:NW C gl z3C ⟨e,h,x⟩ K=z7d C gl z3B z7N (aget e 0) (aget e 1) (aget e 2) (aget e 6) h x K:=zhV
theorem zm1 {C gl e h x K}:NW C gl (.loop z3C) ⟨e,h,x⟩ K=z1t C gl z3C K [(0,aget e 0),(1,aget e 1),(2,aget e 2),(6,aget e 6)] h x:=z0F
def zaE (q5:ACode):ACode:=.pr [0,1,2,6,7] (.seq (rg [mV 23 0,
mV 24 7,
mV 25 1,
mV 26 2,
cL 27 z6s [23,24,25,26]] [0,1,2,6])
(.block 2 (.loop q5)))
def z5r:ACode:=zaE z3C
def z7e (C:Hd) (gl:GL) (q5:ACode) (v0 v1 v2 v6 v7:AV) (h:Heap) (x:Esc) (K:KT):Prop:=
 C z6s [v0,v7,v1,v2] h fun t1 h2 y3=>
 NW C gl (.loop q5) ⟨[(0,v0),(1,v1),(2,v2),(6,v6)],h2,(y3++x)⟩ (z0v 2 K)
theorem zhW {C gl q5 e h x K}:NW C gl (zaE q5) ⟨e,h,x⟩ K=z7e C gl q5 (aget e 0) (aget e 1) (aget e 2) (aget e 6) (aget e 7) h x K:=by kernel_rfl
theorem zkQ {C gl e h x K}:NW C gl z5r ⟨e,h,x⟩ K=z7e C gl z3C (aget e 0) (aget e 1) (aget e 2) (aget e 6) (aget e 7) h x K:=zhW
def zsf (q1 q6:ACode):ACode:=(.seq (rg [mV 6 (cI 20)] [0,1,2,6])
(.seq (rg [mV 10 6,
mV 7 (cI 0),
mV 8 10] [0,1,2,6,7,8])
(.seq (.block 0 (.loop q1))
q6)))
def ziY:AFun:=⟨3,[],zsf z2L z5r,true,false⟩
def zeX (C:Hd) (gl:GL) (q1 q6:ACode) (v0 v1 v2:AV) (h:Heap) (x:Esc) (K:KT):Prop:=
 NW C gl (.loop q1) ⟨[(0,v0),(1,v1),(2,v2),(6,(AI 20)),(7,(AI 0)),(8,(AI 20))],h,x⟩ (z0v 0 (seqN C gl q6 K))
theorem E_q07g {C gl q1 q6 v0 v1 v2 h x K}:NW C gl (zsf q1 q6) ⟨enter [v0,v1,v2],h,x⟩ K=zeX C gl q1 q6 v0 v1 v2 h x K:=by kernel_rfl
theorem e_q07g {C gl v0 v1 v2 h x K}:NW C gl ziY.body ⟨enter [v0,v1,v2],h,x⟩ K=zeX C gl z2L z5r v0 v1 v2 h x K:=E_q07g
end Go.Am
end
