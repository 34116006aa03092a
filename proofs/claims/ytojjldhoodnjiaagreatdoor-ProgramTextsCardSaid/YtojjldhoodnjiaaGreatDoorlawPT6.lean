/- Texts of the proof, laid together: CodesC, CodesD. -/
import Derived.KernelRfl
import Derived.Test.YtojjldhoodnjiaaGreatDoorlawPT5
set_option linter.all false
section
/- The functions asv abstract code,and asv formulas over their values: printed by program out of the translation. -/
set_option linter.unusedVariables false
set_option maxRecDepth 100000
namespace Go.Am
def z6E:ACode:=.pr [2,5,6] (.seq (rg [lD 102 (some 6) 6,
mV 103 5,
wO (.store (some 6) 2 102),
mV 3 103] [2,3])
.ret)
def z1N (C:Hd) (gl:GL) (v2 v5 v6:AV) (h:Heap) (x:Esc) (K:KT):Prop:=
 pK (z0e (some 6) v6 h) fun t1=>
 wK (z0k (some 6) v2 t1 h) fun t2 h3 y4=>
 K .ret ⟨[(2,v2),(3,v5)],h3,(y4++x)⟩
theorem zpe {C gl e h x K}:NW C gl z6E ⟨e,h,x⟩ K=z1N C gl (aget e 2) (aget e 5) (aget e 6) h x K:=by kernel_rfl
def zvS (q1:ACode):ACode:=(.seq (rg [uO 2 (.alloc [.p (.int .i64 0),.p (.int .i64 0),.p (.int .i64 0),.p (.str []),.p (.str []),.p (.str [])]),
mV 3 cF] [0,2])
(.seq (rg [mV 11 0,
cL 12 zaZ [11],
mV 10 12,
eX 13 10 0,
eX 14 10 1,
mV 4 13,
mV 5 14] [2,4,5])
(.seq (dr [dF (cL 15 z6j []) [],
dF (mV 16 4) [4],
dF (iA 17 none 16 (cI 0)) [16],
dF (lD 18 none 17) [17],
dF (cL 19 z44 [15,18]) [15,18],
dF (uO 20 (.build [.p (.int .i64 0),.p (.int .i64 0),.p (.int .i64 0),.p (.str []),.p (.str []),.p (.str [])] [(0,1,19)])) [19],
dA (uO 6 (.alloc [.p (.int .i64 0),.p (.int .i64 0),.p (.int .i64 0),.p (.str []),.p (.str []),.p (.str [])])) [] true [] [0,2,3,4],
dT (wO (.store (some 6) 6 20)) [6,20]] [2,4,5,6])
(.seq (.seq (rg [mV 21 5,
uO 22 (.un .not 21),
mV 23 22,
gD 24 23 false (.faddr 0 none 6),
gD 25 23 false (.load none 24),
gD 26 23 false (.bin .lss 25 (cI 1)),
uO 27 (.pick 23 cT 26)] [2,4,5,6,27])
(.cond 27 (.seq (rg [lD 28 (some 6) 6,
wO (.store (some 6) 2 28),
mV 3 cF] [2,3])
.ret)
.skip))
(.seq (.seq (rg [lD 29 (some 6) 6,
cL 30 z4l [29],
mV 31 30,
gD 32 31 true (.mv 4),
gD 33 31 true (.len 32),
gD 34 31 true (.bin .eql 33 (cI 4)),
uO 35 (.pick 31 34 cF)] [2,4,5,6,35])
(.cond 35 (.seq (dr [dF (mV 36 4) [4],
dF (iA 37 none 36 (cI 1)) [36],
dF (lD 38 none 37) [37],
dF (mV 39 4) [4],
dF (iA 40 none 39 (cI 2)) [39],
dF (lD 41 none 40) [40],
dF (mV 42 4) [4],
dF (iA 43 none 42 (cI 3)) [42],
dF (lD 44 none 43) [43],
dF (fA 45 3 none 6) [6],
dA (wO (.store none 45 38)) [45,38] true [] [4,5,7,8],
dF (fA 46 4 none 6) [6],
dA (wO (.store none 46 41)) [46,41] true [] [7,8],
dF (fA 47 5 none 6) [6],
dT (wO (.store none 47 44)) [47,44]] [2,6])
(.seq (rg [lD 48 (some 6) 6,
wO (.store (some 6) 2 48),
mV 3 cT] [2,3])
.ret))
.skip))
(.seq (.seq (rg [mV 49 4,
lN 50 49,
bN 51 .neq 50 (cI 2)] [2,4,5,6,51])
(.cond 51 (.seq (rg [lD 52 (some 6) 6,
wO (.store (some 6) 2 52),
mV 3 cF] [2,3])
.ret)
.skip))
(.seq (rg [cL 54 z7W [],
mV 53 54,
eX 55 53 0,
eX 56 53 1,
mV 7 55,
mV 8 56] [2,4,5,6,7,8])
(.seq (.block 0 (.seq (rg [lD 71 (some 6) 6,
cL 72 z4l [71],
mV 70 72] [2,4,5,6,7,8,70])
(.cond 70 (rg [mV 73 4,
iA 74 none 73 (cI 1),
lD 75 none 74,
fA 76 3 none 6,
wO (.store none 76 75)] [2,5,6])
(.seq (rg [fA 78 0 none 6,
lD 79 none 78,
bN 80 .eql 79 (cI 9),
mV 77 80] [2,4,5,6,7,8,77])
(.cond 77 (rg [mV 82 4,
iA 83 none 82 (cI 1),
lD 84 none 83,
cL 85 zaX [84,(cI 15)],
mV 81 85,
eX 86 81 0,
eX 87 81 1,
fA 88 2 none 6,
wO (.store none 88 86),
mV 5 87] [2,5,6])
(.seq (rg [fA 90 0 none 6,
lD 91 none 90,
cL 92 z2O [91,(cI 3),(cI 6)],
mV 89 92] [2,4,5,6,7,8,89])
(.cond 89 (.seq (rg [mV 93 4,
iA 94 none 93 (cI 1),
lD 95 none 94,
fA 96 3 none 6,
wO (.store none 96 95)] [2,4,5,6])
(.seq (rg [mV 97 4,
iA 98 none 97 (cI 1),
lD 99 none 98,
bN 100 .eql 99 (cS [45])] [2,5,6,100])
(.cond 100 (rg [fA 101 3 none 6,
wO (.store none 101 (cS []))] [2,5,6])
.skip)))
(.seq (rg [mV 57 8,
mV 58 4,
iA 59 none 58 (cI 1),
lD 60 none 59,
cL 61 z44 [57,60],
mV 9 61] [2,5,6,7,9])
(.seq (.seq (rg [mV 62 9,
bN 63 .lss 62 (cI 0)] [2,5,6,7,9,63])
(.cond 63 (.seq (rg [lD 64 (some 6) 6,
wO (.store (some 6) 2 64),
mV 3 cF] [2,3])
.ret)
.skip))
(rg [mV 65 7,
mV 66 9,
iA 67 none 65 66,
lD 68 none 67,
fA 69 1 none 6,
wO (.store none 69 68)] [2,5,6]))))))))))
q1))))))))
def zma:AFun:=⟨1,[.cell 2 (some 6),.t 3],zvS z6E,false,false⟩
def z2M (C:Hd) (gl:GL) (q1:ACode) (v0:AV) (h:Heap) (x:Esc) (K:KT):Prop:=
 alK [.p (.int .i64 0),.p (.int .i64 0),.p (.int .i64 0),.p (.str []),.p (.str []),.p (.str [])] h fun t1 h2 y3=>
 C zaZ [v0] h2 fun t4 h5 y6=>
 pK (oExt t4 0) fun t7=>
 pK (oExt t4 1) fun t8=>
 z1A C z6j [] h5 fun t9 h10 y11=>
 (h10=h5∧y11=[])∧(pK (z0r none t7 (AI 0) h10) fun t12=>
 pK (z0e none t12 h10) fun t13=>
 z1A C z44 [t9,t13] h10 fun t14 h15 y16=>
 (h15=h10∧y16=[])∧(pK (z0x [.p (.int .i64 0),.p (.int .i64 0),.p (.int .i64 0),.p (.str []),.p (.str []),.p (.str [])] [(0,1,t14)]) fun t17=>
 alK [.p (.int .i64 0),.p (.int .i64 0),.p (.int .i64 0),.p (.str []),.p (.str []),.p (.str [])] h15 fun t18 h19 y20=>
 (z1A C z6j [] h19 (fun u (g1:Heap) (y1:Esc)=>u=t9∧g1=h19∧y1=[]))∧((pK (z0r none t7 (AI 0) h19) fun v=>(fun u (g1:Heap) (y1:Esc)=>u=t12∧g1=h19∧y1=[]) v h19 [])∧((pK (z0e none t12 h19) fun v=>(fun u (g1:Heap) (y1:Esc)=>u=t13∧g1=h19∧y1=[]) v h19 [])∧((z1A C z44 [t9,t13] h19 (fun u (g1:Heap) (y1:Esc)=>u=t14∧g1=h19∧y1=[]))∧(wK (z0k (some 6) t18 t17 h19) fun t21 h22 y23=>
 pK (oUn .not t8) fun t24=>
 gP t24 false (z0d 0 none t18) h22 fun t25 h26 y27=>
 gP t24 false (z0e none t25 h26) h26 fun t28 h29 y30=>
 gP t24 false (oBin .lss t28 (AI 1)) h29 fun t31 h32 y33=>
 pK (z09 t24 (AB true) t31) fun t34=>
 z0i t34 (pK (z0e (some 6) t18 h32) fun t35=>
 wK (z0k (some 6) t1 t35 h32) fun t36 h37 y38=>
 K .ret ⟨[(2,t1),(3,(AB false))],h37,(y38++(y33++(y30++(y27++(y23++(y20++(y16++(y11++(y6++(y3++x))))))))))⟩)
 (pK (z0e (some 6) t18 h32) fun t39=>
 C z4l [t39] h32 fun t40 h41 y42=>
 gM t40 true t7 h41 fun t43 h44 y45=>
 gP t40 true (oLen t43) h44 fun t46 h47 y48=>
 gP t40 true (oBin .eql t46 (AI 4)) h47 fun t49 h50 y51=>
 pK (z09 t40 t49 (AB false)) fun t52=>
 z0i t52 (pK (z0r none t7 (AI 1) h50) fun t53=>
 pK (z0e none t53 h50) fun t54=>
 pK (z0r none t7 (AI 2) h50) fun t55=>
 pK (z0e none t55 h50) fun t56=>
 pK (z0r none t7 (AI 3) h50) fun t57=>
 pK (z0e none t57 h50) fun t58=>
 pK (z0d 3 none t18) fun t59=>
 wK (z0k none t59 t54 h50) fun t60 h61 y62=>
 (pK (z0r none t7 (AI 2) h61) fun v=>(fun u (g1:Heap) (y1:Esc)=>u=t55∧g1=h61∧y1=[]) v h61 [])∧((pK (z0e none t55 h61) fun v=>(fun u (g1:Heap) (y1:Esc)=>u=t56∧g1=h61∧y1=[]) v h61 [])∧((pK (z0r none t7 (AI 3) h61) fun v=>(fun u (g1:Heap) (y1:Esc)=>u=t57∧g1=h61∧y1=[]) v h61 [])∧((pK (z0e none t57 h61) fun v=>(fun u (g1:Heap) (y1:Esc)=>u=t58∧g1=h61∧y1=[]) v h61 [])∧(pK (z0d 4 none t18) fun t63=>
 wK (z0k none t63 t56 h61) fun t64 h65 y66=>
 (pK (z0r none t7 (AI 3) h65) fun v=>(fun u (g1:Heap) (y1:Esc)=>u=t57∧g1=h65∧y1=[]) v h65 [])∧((pK (z0e none t57 h65) fun v=>(fun u (g1:Heap) (y1:Esc)=>u=t58∧g1=h65∧y1=[]) v h65 [])∧(pK (z0d 5 none t18) fun t67=>
 wK (z0k none t67 t58 h65) fun t68 h69 y70=>
 pK (z0e (some 6) t18 h69) fun t71=>
 wK (z0k (some 6) t1 t71 h69) fun t72 h73 y74=>
 K .ret ⟨[(2,t1),(3,(AB true))],h73,(y74++(y70++(y66++(y62++(y51++(y48++(y45++(y42++(y33++(y30++(y27++(y23++(y20++(y16++(y11++(y6++(y3++x)))))))))))))))))⟩)))))))
 (pK (oLen t7) fun t75=>
 pK (oBin .neq t75 (AI 2)) fun t76=>
 z0i t76 (pK (z0e (some 6) t18 h50) fun t77=>
 wK (z0k (some 6) t1 t77 h50) fun t78 h79 y80=>
 K .ret ⟨[(2,t1),(3,(AB false))],h79,(y80++(y51++(y48++(y45++(y42++(y33++(y30++(y27++(y23++(y20++(y16++(y11++(y6++(y3++x))))))))))))))⟩)
 (C z7W [] h50 fun t81 h82 y83=>
 pK (oExt t81 0) fun t84=>
 pK (oExt t81 1) fun t85=>
 pK (z0e (some 6) t18 h82) fun t86=>
 C z4l [t86] h82 fun t87 h88 y89=>
 z0i t87 (pK (z0r none t7 (AI 1) h88) fun t90=>
 pK (z0e none t90 h88) fun t91=>
 pK (z0d 3 none t18) fun t92=>
 wK (z0k none t92 t91 h88) fun t93 h94 y95=>
 NW C gl q1 ⟨[(2,t1),(5,t8),(6,t18)],h94,(y95++(y89++(y83++(y51++(y48++(y45++(y42++(y33++(y30++(y27++(y23++(y20++(y16++(y11++(y6++(y3++x))))))))))))))))⟩ K)
 (pK (z0d 0 none t18) fun t96=>
 pK (z0e none t96 h88) fun t97=>
 pK (oBin .eql t97 (AI 9)) fun t98=>
 z0i t98 (pK (z0r none t7 (AI 1) h88) fun t99=>
 pK (z0e none t99 h88) fun t100=>
 C zaX [t100,(AI 15)] h88 fun t101 h102 y103=>
 pK (oExt t101 0) fun t104=>
 pK (oExt t101 1) fun t105=>
 pK (z0d 2 none t18) fun t106=>
 wK (z0k none t106 t104 h102) fun t107 h108 y109=>
 NW C gl q1 ⟨[(2,t1),(5,t105),(6,t18)],h108,(y109++(y103++(y89++(y83++(y51++(y48++(y45++(y42++(y33++(y30++(y27++(y23++(y20++(y16++(y11++(y6++(y3++x)))))))))))))))))⟩ K)
 (pK (z0d 0 none t18) fun t110=>
 pK (z0e none t110 h88) fun t111=>
 C z2O [t111,(AI 3),(AI 6)] h88 fun t112 h113 y114=>
 z0i t112 (pK (z0r none t7 (AI 1) h113) fun t115=>
 pK (z0e none t115 h113) fun t116=>
 pK (z0d 3 none t18) fun t117=>
 wK (z0k none t117 t116 h113) fun t118 h119 y120=>
 pK (z0r none t7 (AI 1) h119) fun t121=>
 pK (z0e none t121 h119) fun t122=>
 pK (oBin .eql t122 (.p (.str [45]))) fun t123=>
 z0i t123 (pK (z0d 3 none t18) fun t124=>
 wK (z0k none t124 (.p (.str [])) h119) fun t125 h126 y127=>
 NW C gl q1 ⟨[(2,t1),(5,t8),(6,t18)],h126,(y127++(y120++(y114++(y89++(y83++(y51++(y48++(y45++(y42++(y33++(y30++(y27++(y23++(y20++(y16++(y11++(y6++(y3++x))))))))))))))))))⟩ K)
 (NW C gl q1 ⟨[(2,t1),(5,t8),(6,t18),(100,t123)],h119,(y120++(y114++(y89++(y83++(y51++(y48++(y45++(y42++(y33++(y30++(y27++(y23++(y20++(y16++(y11++(y6++(y3++x)))))))))))))))))⟩ K))
 (pK (z0r none t7 (AI 1) h113) fun t128=>
 pK (z0e none t128 h113) fun t129=>
 C z44 [t85,t129] h113 fun t130 h131 y132=>
 pK (oBin .lss t130 (AI 0)) fun t133=>
 z0i t133 (pK (z0e (some 6) t18 h131) fun t134=>
 wK (z0k (some 6) t1 t134 h131) fun t135 h136 y137=>
 K .ret ⟨[(2,t1),(3,(AB false))],h136,(y137++(y132++(y114++(y89++(y83++(y51++(y48++(y45++(y42++(y33++(y30++(y27++(y23++(y20++(y16++(y11++(y6++(y3++x))))))))))))))))))⟩)
 (pK (z0r none t84 t130 h131) fun t138=>
 pK (z0e none t138 h131) fun t139=>
 pK (z0d 1 none t18) fun t140=>
 wK (z0k none t140 t139 h131) fun t141 h142 y143=>
 NW C gl q1 ⟨[(2,t1),(5,t8),(6,t18)],h142,(y143++(y132++(y114++(y89++(y83++(y51++(y48++(y45++(y42++(y33++(y30++(y27++(y23++(y20++(y16++(y11++(y6++(y3++x))))))))))))))))))⟩ K)))))))))))))
theorem E_q03e {C gl q1 v0 h x K}:NW C gl (zvS q1) ⟨enter [v0],h,x⟩ K=z2M C gl q1 v0 h x K:=by kernel_rfl
theorem e_q03e {C gl v0 h x K}:NW C gl zma.body ⟨enter [v0],h,x⟩ K=z2M C gl z6E v0 h x K:=E_q03e
def z6z:ACode:=.pr [0] (.seq (rg [mV 15 0,
mV 4 15] [4])
.ret)
def zdW (C:Hd) (gl:GL) (v0:AV) (h:Heap) (x:Esc) (K:KT):Prop:=
 K .ret ⟨[(4,v0)],h,x⟩
theorem zo6 {C gl e h x K}:NW C gl z6z ⟨e,h,x⟩ K=zdW C gl (aget e 0) h x K:=by kernel_rfl
def zvE (q1:ACode):ACode:=(.seq (rg [mV 4 (cI 0)] [0,1])
(.seq (.seq (rg [mV 5 1,
bN 6 .lss 5 (cI 1)] [0,1,6])
(.cond 6 (.seq (rg [mV 4 (cI 0)] [4])
.ret)
.skip))
(.seq (rg [mV 7 0,
mV 8 1,
bN 9 .rem 7 8,
mV 0 9] [0,1])
(.seq (.seq (rg [mV 10 0,
bN 11 .lss 10 (cI 0)] [0,1,11])
(.cond 11 (rg [mV 12 0,
mV 13 1,
bN 14 .add 12 13,
mV 0 14] [0])
.skip))
q1))))
def zlA:AFun:=⟨2,[.t 4],zvE z6z,false,false⟩
def zhx (C:Hd) (gl:GL) (q1:ACode) (v0 v1:AV) (h:Heap) (x:Esc) (K:KT):Prop:=
 pK (oBin .lss v1 (AI 1)) fun t1=>
 z0i t1 (K .ret ⟨[(4,(AI 0))],h,x⟩)
 (pK (oBin .rem v0 v1) fun t2=>
 pK (oBin .lss t2 (AI 0)) fun t3=>
 z0i t3 (pK (oBin .add t2 v1) fun t4=>
 NW C gl q1 ⟨[(0,t4)],h,x⟩ K)
 (NW C gl q1 ⟨[(0,t2),(1,v1),(11,t3)],h,x⟩ K))
theorem E_q02l {C gl q1 v0 v1 h x K}:NW C gl (zvE q1) ⟨enter [v0,v1],h,x⟩ K=zhx C gl q1 v0 v1 h x K:=by kernel_rfl
theorem e_q02l {C gl v0 v1 h x K}:NW C gl zlA.body ⟨enter [v0,v1],h,x⟩ K=zhx C gl z6z v0 v1 h x K:=E_q02l
def P_q009:ACode:=(.seq (rg [mV 6 cF] [0,1,2])
(.seq (rg [mV 7 0,
mV 8 1,
bN 9 .lss 7 8,
mV 10 9,
gD 11 10 false (.mv 0),
gD 12 10 false (.mv 2),
gD 13 10 false (.bin .gtr 11 12),
uO 14 (.pick 10 cT 13),
mV 6 14] [6])
.ret))
def zlx:AFun:=⟨3,[.t 6],P_q009,false,false⟩
def zn6 (C:Hd) (gl:GL) (v0 v1 v2:AV) (h:Heap) (x:Esc) (K:KT):Prop:=
 pK (oBin .lss v0 v1) fun t1=>
 gM t1 false v0 h fun t2 h3 y4=>
 gM t1 false v2 h3 fun t5 h6 y7=>
 gP t1 false (oBin .gtr t2 t5) h6 fun t8 h9 y10=>
 pK (z09 t1 (AB true) t8) fun t11=>
 K .ret ⟨[(6,t11)],h9,(y10++(y7++(y4++x)))⟩
theorem e_q009 {C gl v0 v1 v2 h x K}:NW C gl zlx.body ⟨enter [v0,v1,v2],h,x⟩ K=zn6 C gl v0 v1 v2 h x K:=by kernel_rfl
def z6S:ACode:=.pr [2,4] (.seq (rg [lD 56 (some 6) 4,
wO (.store (some 6) 2 56),
mV 3 (cI 0)] [2,3])
.ret)
def zeR (C:Hd) (gl:GL) (v2 v4:AV) (h:Heap) (x:Esc) (K:KT):Prop:=
 pK (z0e (some 6) v4 h) fun t1=>
 wK (z0k (some 6) v2 t1 h) fun t2 h3 y4=>
 K .ret ⟨[(2,v2),(3,(AI 0))],h3,(y4++x)⟩
theorem zp9 {C gl e h x K}:NW C gl z6S ⟨e,h,x⟩ K=zeR C gl (aget e 2) (aget e 4) h x K:=by kernel_rfl
def zwf (q1:ACode):ACode:=(.seq (rg [uO 1 (.box 0),
uO 2 (.alloc [.p (.int .i64 0),.p (.int .i64 0),.p (.int .i64 0),.p (.str []),.p (.str []),.p (.str [])]),
mV 3 (cI 0)] [1,2])
(.seq (rg [lD 5 (some 6) 1,
uO 4 (.alloc [.p (.int .i64 0),.p (.int .i64 0),.p (.int .i64 0),.p (.str []),.p (.str []),.p (.str [])]),
wO (.store (some 6) 4 5)] [1,2,4])
(.seq (.block 0 (.seq (rg [fA 18 0 none 1,
lD 19 none 18,
bN 20 .eql 19 (cI 1),
mV 21 20,
gD 22 21 false (.faddr 0 none 1),
gD 23 21 false (.load none 22),
gD 24 21 false (.bin .eql 23 (cI 2)),
uO 25 (.pick 21 cT 24),
mV 26 25,
gD 27 26 false (.faddr 0 none 1),
gD 28 26 false (.load none 27),
gD 29 26 false (.bin .eql 28 (cI 10)),
uO 30 (.pick 26 cT 29),
mV 17 30] [1,2,4,17])
(.cond 17 (.seq (rg [fA 31 1 none 4,
wO (.store none 31 (cI 0))] [1,2,4])
(.seq (rg [fA 32 1 none 1,
lD 33 none 32,
cL 34 zbz [33],
uO 35 (.un .not 34)] [2,4,35])
(.cond 35 (.seq (rg [lD 36 (some 6) 4,
wO (.store (some 6) 2 36),
mV 3 (cI 1)] [2,3])
.ret)
.skip)))
(.seq (rg [fA 38 0 none 1,
lD 39 none 38,
bN 40 .eql 39 (cI 9),
mV 37 40] [1,2,4,37])
(.cond 37 (.seq (rg [fA 41 2 none 4,
wO (.store none 41 (cI 0))] [1,2,4])
(.seq (rg [fA 42 2 none 1,
lD 43 none 42,
cL 44 z4h [43,(cI 0),(cI 20000)]] [2,4,44])
(.cond 44 (.seq (rg [lD 45 (some 6) 4,
wO (.store (some 6) 2 45),
mV 3 (cI 1)] [2,3])
.ret)
.skip)))
(.seq (rg [fA 47 0 none 1,
lD 48 none 47,
cL 49 z2P [48],
mV 46 49] [1,2,4,46])
(.cond 46 (.seq (rg [fA 50 3 none 4,
wO (.store none 50 (cS [])),
fA 51 4 none 4,
wO (.store none 51 (cS [])),
fA 52 5 none 4,
wO (.store none 52 (cS []))] [1,2,4])
(.seq (dr [dF (lD 53 (some 6) 4) [4],
dF (lD 54 (some 6) 1) [1],
dA (cL 55 zbx [54]) [54] true [] [0],
dT (wO (.store (some 6) 2 53)) [2,53],
dF (mV 3 55) [55]] [2,3])
.ret))
(.seq (rg [fA 6 3 none 4,
wO (.store none 6 (cS []))] [1,2,4])
(.seq (.seq (rg [fA 7 3 none 1,
lD 8 none 7,
cL 9 z4g [8],
uO 10 (.un .not 9)] [1,2,4,10])
(.cond 10 (.seq (rg [lD 11 (some 6) 4,
wO (.store (some 6) 2 11),
mV 3 (cI 9)] [2,3])
.ret)
.skip))
(.seq (rg [fA 12 3 none 1,
lD 13 none 12,
uO 14 (.lens 13),
bN 15 .gtr 14 (cI 2000)] [2,4,15])
(.cond 15 (.seq (rg [lD 16 (some 6) 4,
wO (.store (some 6) 2 16),
mV 3 (cI 2)] [2,3])
.ret)
.skip)))))))))))
q1)))
def zmD:AFun:=⟨1,[.cell 2 (some 6),.t 3],zwf z6S,false,false⟩
def z2N (C:Hd) (gl:GL) (q1:ACode) (v0:AV) (h:Heap) (x:Esc) (K:KT):Prop:=
 wK (oBox v0 h) fun t1 h2 y3=>
 alK [.p (.int .i64 0),.p (.int .i64 0),.p (.int .i64 0),.p (.str []),.p (.str []),.p (.str [])] h2 fun t4 h5 y6=>
 pK (z0e (some 6) t1 h5) fun t7=>
 alK [.p (.int .i64 0),.p (.int .i64 0),.p (.int .i64 0),.p (.str []),.p (.str []),.p (.str [])] h5 fun t8 h9 y10=>
 wK (z0k (some 6) t8 t7 h9) fun t11 h12 y13=>
 pK (z0d 0 none t1) fun t14=>
 pK (z0e none t14 h12) fun t15=>
 pK (oBin .eql t15 (AI 1)) fun t16=>
 gP t16 false (z0d 0 none t1) h12 fun t17 h18 y19=>
 gP t16 false (z0e none t17 h18) h18 fun t20 h21 y22=>
 gP t16 false (oBin .eql t20 (AI 2)) h21 fun t23 h24 y25=>
 pK (z09 t16 (AB true) t23) fun t26=>
 gP t26 false (z0d 0 none t1) h24 fun t27 h28 y29=>
 gP t26 false (z0e none t27 h28) h28 fun t30 h31 y32=>
 gP t26 false (oBin .eql t30 (AI 10)) h31 fun t33 h34 y35=>
 pK (z09 t26 (AB true) t33) fun t36=>
 z0i t36 (pK (z0d 1 none t8) fun t37=>
 wK (z0k none t37 (AI 0) h34) fun t38 h39 y40=>
 pK (z0d 1 none t1) fun t41=>
 pK (z0e none t41 h39) fun t42=>
 C zbz [t42] h39 fun t43 h44 y45=>
 pK (oUn .not t43) fun t46=>
 z0i t46 (pK (z0e (some 6) t8 h44) fun t47=>
 wK (z0k (some 6) t4 t47 h44) fun t48 h49 y50=>
 K .ret ⟨[(2,t4),(3,(AI 1))],h49,(y50++(y45++(y40++(y35++(y32++(y29++(y25++(y22++(y19++(y13++(y10++(y6++(y3++x)))))))))))))⟩)
 (NW C gl q1 ⟨[(2,t4),(4,t8),(35,t46)],h44,(y45++(y40++(y35++(y32++(y29++(y25++(y22++(y19++(y13++(y10++(y6++(y3++x))))))))))))⟩ K))
 (pK (z0d 0 none t1) fun t51=>
 pK (z0e none t51 h34) fun t52=>
 pK (oBin .eql t52 (AI 9)) fun t53=>
 z0i t53 (pK (z0d 2 none t8) fun t54=>
 wK (z0k none t54 (AI 0) h34) fun t55 h56 y57=>
 pK (z0d 2 none t1) fun t58=>
 pK (z0e none t58 h56) fun t59=>
 C z4h [t59,(AI 0),(AI 20000)] h56 fun t60 h61 y62=>
 z0i t60 (pK (z0e (some 6) t8 h61) fun t63=>
 wK (z0k (some 6) t4 t63 h61) fun t64 h65 y66=>
 K .ret ⟨[(2,t4),(3,(AI 1))],h65,(y66++(y62++(y57++(y35++(y32++(y29++(y25++(y22++(y19++(y13++(y10++(y6++(y3++x)))))))))))))⟩)
 (NW C gl q1 ⟨[(2,t4),(4,t8),(44,t60)],h61,(y62++(y57++(y35++(y32++(y29++(y25++(y22++(y19++(y13++(y10++(y6++(y3++x))))))))))))⟩ K))
 (pK (z0d 0 none t1) fun t67=>
 pK (z0e none t67 h34) fun t68=>
 C z2P [t68] h34 fun t69 h70 y71=>
 z0i t69 (pK (z0d 3 none t8) fun t72=>
 wK (z0k none t72 (.p (.str [])) h70) fun t73 h74 y75=>
 pK (z0d 4 none t8) fun t76=>
 wK (z0k none t76 (.p (.str [])) h74) fun t77 h78 y79=>
 pK (z0d 5 none t8) fun t80=>
 wK (z0k none t80 (.p (.str [])) h78) fun t81 h82 y83=>
 pK (z0e (some 6) t8 h82) fun t84=>
 pK (z0e (some 6) t1 h82) fun t85=>
 z1A C zbx [t85] h82 fun t86 h87 y88=>
 (pK (z0e (some 6) t8 h87) fun v=>(fun u (g1:Heap) (y1:Esc)=>u=t84∧g1=h87∧y1=[]) v h87 [])∧(wK (z0k (some 6) t4 t84 h87) fun t89 h90 y91=>
 K .ret ⟨[(2,t4),(3,t86)],h90,(y91++(y88++(y83++(y79++(y75++(y71++(y35++(y32++(y29++(y25++(y22++(y19++(y13++(y10++(y6++(y3++x))))))))))))))))⟩))
 (pK (z0d 3 none t8) fun t92=>
 wK (z0k none t92 (.p (.str [])) h70) fun t93 h94 y95=>
 pK (z0d 3 none t1) fun t96=>
 pK (z0e none t96 h94) fun t97=>
 C z4g [t97] h94 fun t98 h99 y100=>
 pK (oUn .not t98) fun t101=>
 z0i t101 (pK (z0e (some 6) t8 h99) fun t102=>
 wK (z0k (some 6) t4 t102 h99) fun t103 h104 y105=>
 K .ret ⟨[(2,t4),(3,(AI 9))],h104,(y105++(y100++(y95++(y71++(y35++(y32++(y29++(y25++(y22++(y19++(y13++(y10++(y6++(y3++x))))))))))))))⟩)
 (pK (z0d 3 none t1) fun t106=>
 pK (z0e none t106 h99) fun t107=>
 pK (z06 t107) fun t108=>
 pK (oBin .gtr t108 (AI 2000)) fun t109=>
 z0i t109 (pK (z0e (some 6) t8 h99) fun t110=>
 wK (z0k (some 6) t4 t110 h99) fun t111 h112 y113=>
 K .ret ⟨[(2,t4),(3,(AI 2))],h112,(y113++(y100++(y95++(y71++(y35++(y32++(y29++(y25++(y22++(y19++(y13++(y10++(y6++(y3++x))))))))))))))⟩)
 (NW C gl q1 ⟨[(2,t4),(4,t8),(15,t109)],h99,(y100++(y95++(y71++(y35++(y32++(y29++(y25++(y22++(y19++(y13++(y10++(y6++(y3++x)))))))))))))⟩ K)))))
theorem E_q06e {C gl q1 v0 h x K}:NW C gl (zwf q1) ⟨enter [v0],h,x⟩ K=z2N C gl q1 v0 h x K:=by kernel_rfl
theorem e_q06e {C gl v0 h x K}:NW C gl zmD.body ⟨enter [v0],h,x⟩ K=z2N C gl z6S v0 h x K:=E_q06e
def P_q06r:ACode:=(.seq (rg [uO 0 (.alloc [.p (.int .i64 0),.p (.int .i64 0),.p (.int .i64 0),.p (.str []),.p (.str []),.p (.str []),.p (.int .i64 0),.p (.int .i64 0),.p (.int .i64 0),.p (.str []),.p (.str []),.p (.str []),.p (.int .i64 0),.p (.int .i64 0),.p (.int .i64 0),.p (.str []),.p (.str []),.p (.str []),.p (.int .i64 0),.p (.int .i64 0),.p (.int .i64 0),.p (.str []),.p (.str []),.p (.str []),.p (.int .i64 0),.p (.int .i64 0),.p (.int .i64 0),.p (.str []),.p (.str []),.p (.str []),.p (.int .i64 0),.p (.int .i64 0),.p (.int .i64 0),.p (.str []),.p (.str []),.p (.str [])])] [0])
(.seq (rg [uO 1 (.build [.p (.int .i64 0),.p (.int .i64 0),.p (.int .i64 0),.p (.str []),.p (.str []),.p (.str [])] [(0,1,(cI 1)),(1,1,(cI 1))]),
uO 2 (.build [.p (.int .i64 0),.p (.int .i64 0),.p (.int .i64 0),.p (.str []),.p (.str []),.p (.str [])] [(0,1,(cI 2)),(1,1,(cI 1))]),
uO 3 (.build [.p (.int .i64 0),.p (.int .i64 0),.p (.int .i64 0),.p (.str []),.p (.str []),.p (.str [])] [(0,1,(cI 3))]),
uO 4 (.build [.p (.int .i64 0),.p (.int .i64 0),.p (.int .i64 0),.p (.str []),.p (.str []),.p (.str [])] [(0,1,(cI 4))]),
uO 5 (.build [.p (.int .i64 0),.p (.int .i64 0),.p (.int .i64 0),.p (.str []),.p (.str []),.p (.str [])] [(0,1,(cI 5))]),
uO 6 (.build [.p (.int .i64 0),.p (.int .i64 0),.p (.int .i64 0),.p (.str []),.p (.str []),.p (.str [])] [(0,1,(cI 6))]),
uO 7 (.build [.p (.int .i64 0),.p (.int .i64 0),.p (.int .i64 0),.p (.str []),.p (.str []),.p (.str []),.p (.int .i64 0),.p (.int .i64 0),.p (.int .i64 0),.p (.str []),.p (.str []),.p (.str []),.p (.int .i64 0),.p (.int .i64 0),.p (.int .i64 0),.p (.str []),.p (.str []),.p (.str []),.p (.int .i64 0),.p (.int .i64 0),.p (.int .i64 0),.p (.str []),.p (.str []),.p (.str []),.p (.int .i64 0),.p (.int .i64 0),.p (.int .i64 0),.p (.str []),.p (.str []),.p (.str []),.p (.int .i64 0),.p (.int .i64 0),.p (.int .i64 0),.p (.str []),.p (.str []),.p (.str [])] [(0,6,1),(6,6,2),(12,6,3),(18,6,4),(24,6,5),(30,6,6)]),
wO (.store (some 36) 0 7)] [0])
.ret))
def zmP:AFun:=⟨0,[.cell 0 (some 36)],P_q06r,false,false⟩
def zoa (C:Hd) (gl:GL) (h:Heap) (x:Esc) (K:KT):Prop:=
 alK [.p (.int .i64 0),.p (.int .i64 0),.p (.int .i64 0),.p (.str []),.p (.str []),.p (.str []),.p (.int .i64 0),.p (.int .i64 0),.p (.int .i64 0),.p (.str []),.p (.str []),.p (.str []),.p (.int .i64 0),.p (.int .i64 0),.p (.int .i64 0),.p (.str []),.p (.str []),.p (.str []),.p (.int .i64 0),.p (.int .i64 0),.p (.int .i64 0),.p (.str []),.p (.str []),.p (.str []),.p (.int .i64 0),.p (.int .i64 0),.p (.int .i64 0),.p (.str []),.p (.str []),.p (.str []),.p (.int .i64 0),.p (.int .i64 0),.p (.int .i64 0),.p (.str []),.p (.str []),.p (.str [])] h fun t1 h2 y3=>
 pK (z0x [.p (.int .i64 0),.p (.int .i64 0),.p (.int .i64 0),.p (.str []),.p (.str []),.p (.str [])] [(0,1,(AI 1)),(1,1,(AI 1))]) fun t4=>
 pK (z0x [.p (.int .i64 0),.p (.int .i64 0),.p (.int .i64 0),.p (.str []),.p (.str []),.p (.str [])] [(0,1,(AI 2)),(1,1,(AI 1))]) fun t5=>
 pK (z0x [.p (.int .i64 0),.p (.int .i64 0),.p (.int .i64 0),.p (.str []),.p (.str []),.p (.str [])] [(0,1,(AI 3))]) fun t6=>
 pK (z0x [.p (.int .i64 0),.p (.int .i64 0),.p (.int .i64 0),.p (.str []),.p (.str []),.p (.str [])] [(0,1,(AI 4))]) fun t7=>
 pK (z0x [.p (.int .i64 0),.p (.int .i64 0),.p (.int .i64 0),.p (.str []),.p (.str []),.p (.str [])] [(0,1,(AI 5))]) fun t8=>
 pK (z0x [.p (.int .i64 0),.p (.int .i64 0),.p (.int .i64 0),.p (.str []),.p (.str []),.p (.str [])] [(0,1,(AI 6))]) fun t9=>
 pK (z0x [.p (.int .i64 0),.p (.int .i64 0),.p (.int .i64 0),.p (.str []),.p (.str []),.p (.str []),.p (.int .i64 0),.p (.int .i64 0),.p (.int .i64 0),.p (.str []),.p (.str []),.p (.str []),.p (.int .i64 0),.p (.int .i64 0),.p (.int .i64 0),.p (.str []),.p (.str []),.p (.str []),.p (.int .i64 0),.p (.int .i64 0),.p (.int .i64 0),.p (.str []),.p (.str []),.p (.str []),.p (.int .i64 0),.p (.int .i64 0),.p (.int .i64 0),.p (.str []),.p (.str []),.p (.str []),.p (.int .i64 0),.p (.int .i64 0),.p (.int .i64 0),.p (.str []),.p (.str []),.p (.str [])] [(0,6,t4),(6,6,t5),(12,6,t6),(18,6,t7),(24,6,t8),(30,6,t9)]) fun t10=>
 wK (z0k (some 36) t1 t10 h2) fun t11 h12 y13=>
 K .ret ⟨[(0,t1)],h12,(y13++(y3++x))⟩
theorem e_q06r {C gl h x K}:NW C gl zmP.body ⟨enter [],h,x⟩ K=zoa C gl h x K:=by kernel_rfl
def P_q06c:ACode:=(.seq (rg [mV 2 cF] [0])
(.seq (rg [mV 3 0,
bN 4 .eql 3 (cI 7),
mV 5 4,
gD 6 5 false (.mv 0),
gD 7 5 false (.bin .eql 6 (cI 8)),
uO 8 (.pick 5 cT 7),
mV 2 8] [2])
.ret))
def zmB:AFun:=⟨1,[.t 2],P_q06c,false,false⟩
def zeP (C:Hd) (gl:GL) (v0:AV) (h:Heap) (x:Esc) (K:KT):Prop:=
 pK (oBin .eql v0 (AI 7)) fun t1=>
 gM t1 false v0 h fun t2 h3 y4=>
 gP t1 false (oBin .eql t2 (AI 8)) h3 fun t5 h6 y7=>
 pK (z09 t1 (AB true) t5) fun t8=>
 K .ret ⟨[(2,t8)],h6,(y7++(y4++x))⟩
theorem e_q06c {C gl v0 h x K}:NW C gl zmB.body ⟨enter [v0],h,x⟩ K=zeP C gl v0 h x K:=by kernel_rfl
def z9R:ACode:=.pr [0,3,5,7,9,10,11,12,13,14,93,94] (rg [mV 126 0,
mV 127 13,
mV 128 10,
mV 129 12,
uO 130 (.idxs 128 129),
mV 131 14,
cL 132 z58 [126,127,130,131]] [0,3,5,7,9,10,11,93,94])
def zeZ (C:Hd) (gl:GL) (v0 v3 v5 v7 v9 v10 v11 v12 v13 v14 v93 v94:AV) (h:Heap) (x:Esc) (K:KT):Prop:=
 pK (z1I v10 v12) fun t1=>
 C z58 [v0,v13,t1,v14] h fun t2 h3 y4=>
 K .normal ⟨[(0,v0),(3,v3),(5,v5),(7,v7),(9,v9),(10,v10),(11,v11),(93,v93),(94,v94)],h3,(y4++x)⟩
theorem zpH {C gl e h x K}:NW C gl z9R ⟨e,h,x⟩ K=zeZ C gl (aget e 0) (aget e 3) (aget e 5) (aget e 7) (aget e 9) (aget e 10) (aget e 11) (aget e 12) (aget e 13) (aget e 14) (aget e 93) (aget e 94) h x K:=by kernel_rfl
def zdz (q1:ACode):ACode:=.pr [0,3,5,7,9,10,11,12,13,14,93,94] (.seq (.seq (rg [mV 102 12,
mV 103 5,
uO 104 (.lens 103),
bN 105 .sub 102 104,
mV 15 105] [0,3,5,7,9,10,11,12,13,14,15,93,94])
(.seq (rg [mV 106 15,
bN 107 .geq 106 (cI 0),
mV 108 107,
gD 109 108 true (.mv 15),
gD 110 108 true (.faddr 5 none 3),
gD 111 108 true (.load none 110),
gD 112 108 true (.lens 111),
gD 113 108 true (.bin .lss 109 112),
uO 114 (.pick 108 113 cF),
mV 115 114,
gD 116 115 true (.faddr 5 none 3),
gD 117 115 true (.load none 116),
gD 118 115 true (.mv 15),
gD 119 115 true (.idxs 117 118),
gD 120 115 true (.bin .eql 119 (.c (.p (.int .u8 49)))),
uO 121 (.pick 115 120 cF)] [0,3,5,7,9,10,11,12,13,14,15,93,94,121])
(.cond 121 (rg [fA 122 4 none 3,
lD 123 none 122,
mV 124 15,
uO 125 (.idxs 123 124),
mV 14 125] [0,3,5,7,9,10,11,12,13,14,93,94])
.skip)))
q1)
def z9S:ACode:=zdz z9R
def z9d (C:Hd) (gl:GL) (q1:ACode) (v0 v3 v5 v7 v9 v10 v11 v12 v13 v14 v93 v94:AV) (h:Heap) (x:Esc) (K:KT):Prop:=
 pK (z06 v5) fun t1=>
 pK (oBin .sub v12 t1) fun t2=>
 pK (oBin .geq t2 (AI 0)) fun t3=>
 gM t3 true t2 h fun t4 h5 y6=>
 gP t3 true (z0d 5 none v3) h5 fun t7 h8 y9=>
 gP t3 true (z0e none t7 h8) h8 fun t10 h11 y12=>
 gP t3 true (z06 t10) h11 fun t13 h14 y15=>
 gP t3 true (oBin .lss t4 t13) h14 fun t16 h17 y18=>
 pK (z09 t3 t16 (AB false)) fun t19=>
 gP t19 true (z0d 5 none v3) h17 fun t20 h21 y22=>
 gP t19 true (z0e none t20 h21) h21 fun t23 h24 y25=>
 gM t19 true t2 h24 fun t26 h27 y28=>
 gP t19 true (z1I t23 t26) h27 fun t29 h30 y31=>
 gP t19 true (oBin .eql t29 (.p (.int .u8 49))) h30 fun t32 h33 y34=>
 pK (z09 t19 t32 (AB false)) fun t35=>
 z0i t35 (pK (z0d 4 none v3) fun t36=>
 pK (z0e none t36 h33) fun t37=>
 pK (z1I t37 t2) fun t38=>
 NW C gl q1 ⟨[(0,v0),(3,v3),(5,v5),(7,v7),(9,v9),(10,v10),(11,v11),(12,v12),(13,v13),(14,t38),(93,v93),(94,v94)],h33,(y34++(y31++(y28++(y25++(y22++(y18++(y15++(y12++(y9++(y6++x))))))))))⟩ K)
 (NW C gl q1 ⟨[(0,v0),(3,v3),(5,v5),(7,v7),(9,v9),(10,v10),(11,v11),(12,v12),(13,v13),(14,v14),(15,t2),(93,v93),(94,v94),(121,t35)],h33,(y34++(y31++(y28++(y25++(y22++(y18++(y15++(y12++(y9++(y6++x))))))))))⟩ K)
theorem zlk {C gl q1 e h x K}:NW C gl (zdz q1) ⟨e,h,x⟩ K=z9d C gl q1 (aget e 0) (aget e 3) (aget e 5) (aget e 7) (aget e 9) (aget e 10) (aget e 11) (aget e 12) (aget e 13) (aget e 14) (aget e 93) (aget e 94) h x K:=by kernel_rfl
theorem zpI {C gl e h x K}:NW C gl z9S ⟨e,h,x⟩ K=z9d C gl z9R (aget e 0) (aget e 3) (aget e 5) (aget e 7) (aget e 9) (aget e 10) (aget e 11) (aget e 12) (aget e 13) (aget e 14) (aget e 93) (aget e 94) h x K:=zlk
def z9T:ACode:=.pr [0,3,5,7,9,10,11,93,94] (rg [bN 133 .add 94 (cI 1),
mV 94 133] [0,3,5,7,9,10,11,93,94])
def zfa (C:Hd) (gl:GL) (v0 v3 v5 v7 v9 v10 v11 v93 v94:AV) (h:Heap) (x:Esc) (K:KT):Prop:=
 pK (oBin .add v94 (AI 1)) fun t1=>
 K .normal ⟨[(0,v0),(3,v3),(5,v5),(7,v7),(9,v9),(10,v10),(11,v11),(93,v93),(94,t1)],h,x⟩
theorem zpJ {C gl e h x K}:NW C gl z9T ⟨e,h,x⟩ K=zfa C gl (aget e 0) (aget e 3) (aget e 5) (aget e 7) (aget e 9) (aget e 10) (aget e 11) (aget e 93) (aget e 94) h x K:=by kernel_rfl
def zd0 (q2 q3:ACode):ACode:=.pr [0,3,5,7,9,10,11,93,94] (.seq (rg [bN 95 .lss 94 93] [0,3,5,7,9,10,11,93,94,95])
(.seq (.cond 95 .skip
(.exit 0))
(.seq (.block 1 (.seq (rg [mV 96 94,
mV 12 96] [0,3,5,7,9,10,11,12,93,94])
(.seq (rg [mV 13 (.c (.p (.int .u8 48))),
mV 14 (.c (.p (.int .u8 120)))] [0,3,5,7,9,10,11,12,13,14,93,94])
(.seq (.seq (rg [mV 97 12,
mV 98 10,
uO 99 (.lens 98),
bN 100 .sub 99 (cI 1),
bN 101 .eql 97 100] [0,3,5,7,9,10,11,12,13,14,93,94,101])
(.cond 101 (rg [mV 13 (.c (.p (.int .u8 49)))] [0,3,5,7,9,10,11,12,13,14,93,94])
.skip))
q2))))
q3)))
def z4M:ACode:=zd0 z9S z9T
def z9e (C:Hd) (gl:GL) (q2 q3:ACode) (v0 v3 v5 v7 v9 v10 v11 v93 v94:AV) (h:Heap) (x:Esc) (K:KT):Prop:=
 pK (oBin .lss v94 v93) fun t1=>
 z0i t1 (pK (z06 v10) fun t2=>
 pK (oBin .sub t2 (AI 1)) fun t3=>
 pK (oBin .eql v94 t3) fun t4=>
 z0i t4 (NW C gl q2 ⟨[(0,v0),(3,v3),(5,v5),(7,v7),(9,v9),(10,v10),(11,v11),(12,v94),(13,(.p (.int .u8 49))),(14,(.p (.int .u8 120))),(93,v93),(94,v94)],h,x⟩ (z0s 1 (seqN C gl q3 K)))
 (NW C gl q2 ⟨[(0,v0),(3,v3),(5,v5),(7,v7),(9,v9),(10,v10),(11,v11),(12,v94),(13,(.p (.int .u8 48))),(14,(.p (.int .u8 120))),(93,v93),(94,v94),(101,t4)],h,x⟩ (z0s 1 (seqN C gl q3 K))))
 (K (.exit 0) ⟨[(0,v0),(3,v3),(5,v5),(7,v7),(9,v9),(10,v10),(11,v11),(93,v93),(94,v94),(95,t1)],h,x⟩)
theorem zll {C gl q2 q3 e h x K}:NW C gl (zd0 q2 q3) ⟨e,h,x⟩ K=z9e C gl q2 q3 (aget e 0) (aget e 3) (aget e 5) (aget e 7) (aget e 9) (aget e 10) (aget e 11) (aget e 93) (aget e 94) h x K:=by kernel_rfl
theorem zpK {C gl e h x K}:NW C gl z4M ⟨e,h,x⟩ K=z9e C gl z9S z9T (aget e 0) (aget e 3) (aget e 5) (aget e 7) (aget e 9) (aget e 10) (aget e 11) (aget e 93) (aget e 94) h x K:=zll
theorem zre {C gl e h x K}:NW C gl (.loop z4M) ⟨e,h,x⟩ K=z0Z C gl z4M K [(0,aget e 0),(3,aget e 3),(5,aget e 5),(7,aget e 7),(9,aget e 9),(10,aget e 10),(11,aget e 11),(93,aget e 93),(94,aget e 94)] h x:=z0C
def z9U:ACode:=.pr [0,7,9,11] (.seq (rg [mV 134 0,
mV 135 9,
uO 136 (.nilchk 134),
fA 137 36 none 136,
wO (.store none 137 135)] [0,7,11])
(.seq (rg [mV 138 0,
mV 139 7,
cL 140 z4o [138,139]] [11])
(.seq (rg [mV 141 11,
mV 4 141] [4])
.ret)))
def zfb (C:Hd) (gl:GL) (v0 v7 v9 v11:AV) (h:Heap) (x:Esc) (K:KT):Prop:=
 pK (oNil v0) fun t1=>
 pK (z0d 36 none t1) fun t2=>
 wK (z0k none t2 v9 h) fun t3 h4 y5=>
 C z4o [v0,v7] h4 fun t6 h7 y8=>
 K .ret ⟨[(4,v11)],h7,(y8++(y5++x))⟩
theorem zpL {C gl e h x K}:NW C gl z9U ⟨e,h,x⟩ K=zfb C gl (aget e 0) (aget e 7) (aget e 9) (aget e 11) h x K:=by kernel_rfl
def zd1 (q4 q5:ACode):ACode:=.pr [0,3,5,7,9,10] (.seq (rg [mV 85 0,
uO 86 (.nilchk 85),
fA 87 37 none 86,
lD 88 none 87,
mV 89 5,
uO 90 (.lens 89),
bN 91 .add 88 90,
mV 11 91] [0,3,5,7,9,10,11])
(.seq (.seq (rg [mV 92 10,
uO 93 (.lens 92),
mV 94 (cI 0)] [0,3,5,7,9,10,11,93,94])
(.block 0 (.loop q4)))
q5))
def z9V:ACode:=zd1 z4M z9U
def z9f (C:Hd) (gl:GL) (q4 q5:ACode) (v0 v3 v5 v7 v9 v10:AV) (h:Heap) (x:Esc) (K:KT):Prop:=
 pK (oNil v0) fun t1=>
 pK (z0d 37 none t1) fun t2=>
 pK (z0e none t2 h) fun t3=>
 pK (z06 v5) fun t4=>
 pK (oBin .add t3 t4) fun t5=>
 pK (z06 v10) fun t6=>
 NW C gl (.loop q4) ⟨[(0,v0),(3,v3),(5,v5),(7,v7),(9,v9),(10,v10),(11,t5),(93,t6),(94,(AI 0))],h,x⟩ (z0s 0 (seqN C gl q5 K))
theorem zlm {C gl q4 q5 e h x K}:NW C gl (zd1 q4 q5) ⟨e,h,x⟩ K=z9f C gl q4 q5 (aget e 0) (aget e 3) (aget e 5) (aget e 7) (aget e 9) (aget e 10) h x K:=by kernel_rfl
theorem zpM {C gl e h x K}:NW C gl z9V ⟨e,h,x⟩ K=z9f C gl z4M z9U (aget e 0) (aget e 3) (aget e 5) (aget e 7) (aget e 9) (aget e 10) h x K:=zlm
def zd2 (q6:ACode):ACode:=.pr [0,3,5,6,7,8,9] (.seq (rg [mV 55 0,
mV 56 8,
cL 57 z4o [55,56]] [0,3,5,6,7,9])
(.seq (rg [mV 58 5,
fA 59 3 none 3,
lD 60 none 59,
bN 61 .add 58 60,
mV 62 6,
bN 63 .add 61 62,
mV 10 63] [0,3,5,7,9,10])
(.seq (.seq (rg [fA 64 0 none 3,
lD 65 none 64,
bN 66 .eql 65 (cI 7)] [0,3,5,7,9,10,66])
(.cond 66 (rg [mV 67 0,
uO 68 (.nilchk 67),
fA 69 38 none 68,
lD 70 none 69,
mV 71 10,
uO 72 (.lens 71),
bN 73 .add 70 72,
uO 74 (.nilchk 67),
fA 75 38 none 74,
wO (.store none 75 73)] [0,3,5,7,9,10])
(rg [mV 76 0,
uO 77 (.nilchk 76),
fA 78 39 none 77,
lD 79 none 78,
mV 80 10,
uO 81 (.lens 80),
bN 82 .add 79 81,
uO 83 (.nilchk 76),
fA 84 39 none 83,
wO (.store none 84 82)] [0,3,5,7,9,10])))
q6)))
def z6U:ACode:=zd2 z9V
def z9g (C:Hd) (gl:GL) (q6:ACode) (v0 v3 v5 v6 v7 v8 v9:AV) (h:Heap) (x:Esc) (K:KT):Prop:=
 C z4o [v0,v8] h fun t1 h2 y3=>
 pK (z0d 3 none v3) fun t4=>
 pK (z0e none t4 h2) fun t5=>
 pK (oBin .add v5 t5) fun t6=>
 pK (oBin .add t6 v6) fun t7=>
 pK (z0d 0 none v3) fun t8=>
 pK (z0e none t8 h2) fun t9=>
 pK (oBin .eql t9 (AI 7)) fun t10=>
 z0i t10 (pK (oNil v0) fun t11=>
 pK (z0d 38 none t11) fun t12=>
 pK (z0e none t12 h2) fun t13=>
 pK (z06 t7) fun t14=>
 pK (oBin .add t13 t14) fun t15=>
 pK (oNil v0) fun t16=>
 pK (z0d 38 none t16) fun t17=>
 wK (z0k none t17 t15 h2) fun t18 h19 y20=>
 NW C gl q6 ⟨[(0,v0),(3,v3),(5,v5),(7,v7),(9,v9),(10,t7)],h19,(y20++(y3++x))⟩ K)
 (pK (oNil v0) fun t21=>
 pK (z0d 39 none t21) fun t22=>
 pK (z0e none t22 h2) fun t23=>
 pK (z06 t7) fun t24=>
 pK (oBin .add t23 t24) fun t25=>
 pK (oNil v0) fun t26=>
 pK (z0d 39 none t26) fun t27=>
 wK (z0k none t27 t25 h2) fun t28 h29 y30=>
 NW C gl q6 ⟨[(0,v0),(3,v3),(5,v5),(7,v7),(9,v9),(10,t7)],h29,(y30++(y3++x))⟩ K)
theorem zln {C gl q6 e h x K}:NW C gl (zd2 q6) ⟨e,h,x⟩ K=z9g C gl q6 (aget e 0) (aget e 3) (aget e 5) (aget e 6) (aget e 7) (aget e 8) (aget e 9) h x K:=by kernel_rfl
theorem zpN {C gl e h x K}:NW C gl z6U ⟨e,h,x⟩ K=z9g C gl z9V (aget e 0) (aget e 3) (aget e 5) (aget e 6) (aget e 7) (aget e 8) (aget e 9) h x K:=zln
def zwj (q7:ACode):ACode:=(.seq (rg [uO 3 (.box 1),
mV 4 (cI 0)] [0,3])
(.seq (dr [dF (mV 16 0) [0],
dF (uO 17 (.nilchk 16)) [16],
dF (fA 18 0 (some 36) 17) [17],
dF (fA 19 24 (some 6) 18) [18],
dF (fA 20 3 none 19) [19],
dF (lD 21 none 20) [20],
dF (mV 22 0) [0],
dF (uO 23 (.nilchk 22)) [22],
dF (fA 24 0 (some 36) 23) [23],
dF (fA 25 30 (some 6) 24) [24],
dF (fA 26 3 none 25) [25],
dF (lD 27 none 26) [26],
dF (mV 28 0) [0],
dF (uO 29 (.nilchk 28)) [28],
dF (fA 30 0 (some 36) 29) [29],
dF (fA 31 6 (some 6) 30) [30],
dF (fA 32 1 none 31) [31],
dF (lD 33 none 32) [32],
dF (mV 5 21) [21],
dF (mV 6 27) [27],
dF (mV 7 33) [33],
dF (mV 8 (cI 4)) [],
dF (mV 9 (cI 5)) []] [0,3,5,6,7,8,9])
(.seq (.seq (rg [fA 34 0 none 3,
lD 35 none 34,
bN 36 .eql 35 (cI 7)] [0,3,5,6,7,8,9,36])
(.cond 36 (dr [dF (mV 37 0) [0],
dF (uO 38 (.nilchk 37)) [37],
dF (fA 39 0 (some 36) 38) [38],
dF (fA 40 12 (some 6) 39) [39],
dF (fA 41 3 none 40) [40],
dF (lD 42 none 41) [41],
dF (mV 43 0) [0],
dF (uO 44 (.nilchk 43)) [43],
dF (fA 45 0 (some 36) 44) [44],
dF (fA 46 18 (some 6) 45) [45],
dF (fA 47 3 none 46) [46],
dF (lD 48 none 47) [47],
dF (mV 49 0) [0],
dF (uO 50 (.nilchk 49)) [49],
dF (fA 51 0 (some 36) 50) [50],
dF (fA 52 0 (some 6) 51) [51],
dF (fA 53 1 none 52) [52],
dF (lD 54 none 53) [53],
dF (mV 5 42) [42],
dF (mV 6 48) [48],
dF (mV 7 54) [54],
dF (mV 8 (cI 11)) [],
dF (mV 9 (cI 12)) []] [0,3,5,6,7,8,9])
.skip))
q7)))
def zmJ:AFun:=⟨2,[.t 4],zwj z6U,false,false⟩
def zeY (C:Hd) (gl:GL) (q7:ACode) (v0 v1:AV) (h:Heap) (x:Esc) (K:KT):Prop:=
 wK (oBox v1 h) fun t1 h2 y3=>
 pK (oNil v0) fun t4=>
 pK (z0d 0 (some 36) t4) fun t5=>
 pK (z0d 24 (some 6) t5) fun t6=>
 pK (z0d 3 none t6) fun t7=>
 pK (z0e none t7 h2) fun t8=>
 pK (oNil v0) fun t9=>
 pK (z0d 0 (some 36) t9) fun t10=>
 pK (z0d 30 (some 6) t10) fun t11=>
 pK (z0d 3 none t11) fun t12=>
 pK (z0e none t12 h2) fun t13=>
 pK (oNil v0) fun t14=>
 pK (z0d 0 (some 36) t14) fun t15=>
 pK (z0d 6 (some 6) t15) fun t16=>
 pK (z0d 1 none t16) fun t17=>
 pK (z0e none t17 h2) fun t18=>
 pK (z0d 0 none t1) fun t19=>
 pK (z0e none t19 h2) fun t20=>
 pK (oBin .eql t20 (AI 7)) fun t21=>
 z0i t21 (pK (oNil v0) fun t22=>
 pK (z0d 0 (some 36) t22) fun t23=>
 pK (z0d 12 (some 6) t23) fun t24=>
 pK (z0d 3 none t24) fun t25=>
 pK (z0e none t25 h2) fun t26=>
 pK (oNil v0) fun t27=>
 pK (z0d 0 (some 36) t27) fun t28=>
 pK (z0d 18 (some 6) t28) fun t29=>
 pK (z0d 3 none t29) fun t30=>
 pK (z0e none t30 h2) fun t31=>
 pK (oNil v0) fun t32=>
 pK (z0d 0 (some 36) t32) fun t33=>
 pK (z0d 0 (some 6) t33) fun t34=>
 pK (z0d 1 none t34) fun t35=>
 pK (z0e none t35 h2) fun t36=>
 NW C gl q7 ⟨[(0,v0),(3,t1),(5,t26),(6,t31),(7,t36),(8,(AI 11)),(9,(AI 12))],h2,(y3++x)⟩ K)
 (NW C gl q7 ⟨[(0,v0),(3,t1),(5,t8),(6,t13),(7,t18),(8,(AI 4)),(9,(AI 5)),(36,t21)],h2,(y3++x)⟩ K)
theorem E_q06k {C gl q7 v0 v1 h x K}:NW C gl (zwj q7) ⟨enter [v0,v1],h,x⟩ K=zeY C gl q7 v0 v1 h x K:=by kernel_rfl
theorem e_q06k {C gl v0 v1 h x K}:NW C gl zmJ.body ⟨enter [v0,v1],h,x⟩ K=zeY C gl z6U v0 v1 h x K:=E_q06k
def z3F:ACode:=.pr [0,1,4,17,18] (.seq (rg [bN 19 .lss 18 17] [0,1,4,17,18,19])
(.seq (.cond 19 .skip
(.exit 0))
(.seq (.block 1 (.seq (rg [mV 20 18,
mV 6 20] [0,1,4,6,17,18])
(rg [mV 21 0,
mV 22 4,
mV 23 6,
uO 24 (.idxs 22 23),
cL 25 z58 [21,24,(.c (.p (.int .u8 48))),(.c (.p (.int .u8 120)))]] [0,1,4,17,18])))
(rg [bN 26 .add 18 (cI 1),
mV 18 26] [0,1,4,17,18]))))
def zfd (C:Hd) (gl:GL) (v0 v1 v4 v17 v18:AV) (h:Heap) (x:Esc) (K:KT):Prop:=
 pK (oBin .lss v18 v17) fun t1=>
 z0i t1 (pK (z1I v4 v18) fun t2=>
 C z58 [v0,t2,(.p (.int .u8 48)),(.p (.int .u8 120))] h fun t3 h4 y5=>
 pK (oBin .add v18 (AI 1)) fun t6=>
 K .normal ⟨[(0,v0),(1,v1),(4,v4),(17,v17),(18,t6)],h4,(y5++x)⟩)
 (K (.exit 0) ⟨[(0,v0),(1,v1),(4,v4),(17,v17),(18,v18),(19,t1)],h,x⟩)
theorem zpQ {C gl e h x K}:NW C gl z3F ⟨e,h,x⟩ K=zfd C gl (aget e 0) (aget e 1) (aget e 4) (aget e 17) (aget e 18) h x K:=by kernel_rfl
theorem zrg {C gl e h x K}:NW C gl (.loop z3F) ⟨e,h,x⟩ K=z0Z C gl z3F K [(0,aget e 0),(1,aget e 1),(4,aget e 4),(17,aget e 17),(18,aget e 18)] h x:=z0C
def z6V:ACode:=.pr [0,1] (rg [mV 27 0,
mV 28 1,
uO 29 (.nilchk 27),
fA 30 36 none 29,
wO (.store none 30 28)] [])
def zfe (C:Hd) (gl:GL) (v0 v1:AV) (h:Heap) (x:Esc) (K:KT):Prop:=
 pK (oNil v0) fun t1=>
 pK (z0d 36 none t1) fun t2=>
 wK (z0k none t2 v1 h) fun t3 h4 y5=>
 K .normal ⟨[],h4,(y5++x)⟩
theorem zpR {C gl e h x K}:NW C gl z6V ⟨e,h,x⟩ K=zfe C gl (aget e 0) (aget e 1) h x K:=by kernel_rfl
def zwl (q1 q2:ACode):ACode:=(.seq (rg [mV 8 0,
uO 9 (.nilchk 8),
fA 10 36 none 9,
lD 11 none 10,
mV 12 1,
cL 13 zbn [11,12],
mV 7 13,
eX 14 7 0,
eX 15 7 1,
mV 4 14,
mV 5 15] [0,1,4])
(.seq (.seq (rg [mV 16 4,
uO 17 (.lens 16),
mV 18 (cI 0)] [0,1,4,17,18])
(.block 0 (.loop q1)))
q2))
def zmL:AFun:=⟨2,[],zwl z3F z6V,false,false⟩
def zhO (C:Hd) (gl:GL) (q1 q2:ACode) (v0 v1:AV) (h:Heap) (x:Esc) (K:KT):Prop:=
 pK (oNil v0) fun t1=>
 pK (z0d 36 none t1) fun t2=>
 pK (z0e none t2 h) fun t3=>
 C zbn [t3,v1] h fun t4 h5 y6=>
 pK (oExt t4 0) fun t7=>
 pK (oExt t4 1) fun t8=>
 pK (z06 t7) fun t9=>
 NW C gl (.loop q1) ⟨[(0,v0),(1,v1),(4,t7),(17,t9),(18,(AI 0))],h5,(y6++x)⟩ (z0s 0 (seqN C gl q2 K))
theorem E_q06m {C gl q1 q2 v0 v1 h x K}:NW C gl (zwl q1 q2) ⟨enter [v0,v1],h,x⟩ K=zhO C gl q1 q2 v0 v1 h x K:=by kernel_rfl
theorem e_q06m {C gl v0 v1 h x K}:NW C gl zmL.body ⟨enter [v0,v1],h,x⟩ K=zhO C gl z3F z6V v0 v1 h x K:=E_q06m
def P_q06j:ACode:=(.seq (rg [mV 8 0,
uO 9 (.nilchk 8),
fA 10 37 none 9,
lD 11 none 10,
bN 12 .add 11 (cI 1),
uO 13 (.nilchk 8),
fA 14 37 none 13,
wO (.store none 14 12)] [0,1,2,3])
(.seq (rg [mV 15 0,
uO 16 (.nilchk 15),
fA 17 45 none 16,
lD 18 none 17] [0,1,2,3,18])
(.cond 18 (dr [dF (mV 19 0) [0],
dF (mV 20 0) [0],
dF (mV 21 0) [0],
dF (mV 22 0) [0],
dF (uO 23 (.nilchk 22)) [22],
dF (fA 24 42 none 23) [23],
dF (lD 25 none 24) [24],
dF (mV 26 1) [1],
dF (uO 27 (.bsl false none 1 (.int .u8 0) [(0,26)])) [26],
dT (uO 28 (.app none 25 27)) [25,27],
dF (mV 29 0) [0],
dF (uO 30 (.nilchk 29)) [29],
dF (fA 31 43 none 30) [30],
dA (lD 32 none 31) [31] false [9] [],
dF (mV 33 2) [2],
dA (uO 34 (.bsl false none 1 (.int .u8 0) [(0,33)])) [33] false [9] [],
dT (uO 35 (.app none 32 34)) [32,34],
dF (mV 36 0) [0],
dF (uO 37 (.nilchk 36)) [36],
dF (fA 38 44 none 37) [37],
dA (lD 39 none 38) [38] false [9,16] [],
dF (mV 40 3) [3],
dA (uO 41 (.bsl false none 1 (.int .u8 0) [(0,40)])) [40] false [9,16] [],
dT (uO 42 (.app none 39 41)) [39,41],
dF (uO 43 (.nilchk 19)) [19],
dF (fA 44 42 none 43) [43],
dT (wO (.store none 44 28)) [44,28],
dF (uO 45 (.nilchk 20)) [20],
dF (fA 46 43 none 45) [45],
dT (wO (.store none 46 35)) [46,35],
dF (uO 47 (.nilchk 21)) [21],
dF (fA 48 44 none 47) [47],
dT (wO (.store none 48 42)) [48,42]] [])
.skip)))
def zmI:AFun:=⟨4,[],P_q06j,false,false⟩
def zhN (C:Hd) (gl:GL) (v0 v1 v2 v3:AV) (h:Heap) (x:Esc) (K:KT):Prop:=
 pK (oNil v0) fun t1=>
 pK (z0d 37 none t1) fun t2=>
 pK (z0e none t2 h) fun t3=>
 pK (oBin .add t3 (AI 1)) fun t4=>
 pK (oNil v0) fun t5=>
 pK (z0d 37 none t5) fun t6=>
 wK (z0k none t6 t4 h) fun t7 h8 y9=>
 pK (oNil v0) fun t10=>
 pK (z0d 45 none t10) fun t11=>
 pK (z0e none t11 h8) fun t12=>
 z0i t12 (pK (oNil v0) fun t13=>
 pK (z0d 42 none t13) fun t14=>
 pK (z0e none t14 h8) fun t15=>
 wK (oBsl false none 1 (.int .u8 0) [(0,v1)] h8) fun t16 h17 y18=>
 (h17=h8∧y18=[])∧(wK (oApp none t15 t16 h17) fun t19 h20 y21=>
 pK (oNil v0) fun t22=>
 pK (z0d 43 none t22) fun t23=>
 pK (z0e none t23 h20) fun t24=>
 (pK (z0e none t23 h17) fun v=>(fun u (g1:Heap) (y1:Esc)=>u=t24∧g1=h17∧y1=[]) v h17 [])∧(wK (oBsl false none 1 (.int .u8 0) [(0,v2)] h20) fun t25 h26 y27=>
 (h26=h20∧y27=[])∧((wK (oBsl false none 1 (.int .u8 0) [(0,v2)] h17) (fun u (g1:Heap) (y1:Esc)=>u=t25∧g1=h17∧y1=[]))∧(wK (oApp none t24 t25 h26) fun t28 h29 y30=>
 pK (oNil v0) fun t31=>
 pK (z0d 44 none t31) fun t32=>
 pK (z0e none t32 h29) fun t33=>
 (pK (z0e none t32 h17) fun v=>(fun u (g1:Heap) (y1:Esc)=>u=t33∧g1=h17∧y1=[]) v h17 [])∧((pK (z0e none t32 h26) fun v=>(fun u (g1:Heap) (y1:Esc)=>u=t33∧g1=h26∧y1=[]) v h26 [])∧(wK (oBsl false none 1 (.int .u8 0) [(0,v3)] h29) fun t34 h35 y36=>
 (h35=h29∧y36=[])∧((wK (oBsl false none 1 (.int .u8 0) [(0,v3)] h17) (fun u (g1:Heap) (y1:Esc)=>u=t34∧g1=h17∧y1=[]))∧((wK (oBsl false none 1 (.int .u8 0) [(0,v3)] h26) (fun u (g1:Heap) (y1:Esc)=>u=t34∧g1=h26∧y1=[]))∧(wK (oApp none t33 t34 h35) fun t37 h38 y39=>
 pK (oNil v0) fun t40=>
 pK (z0d 42 none t40) fun t41=>
 wK (z0k none t41 t19 h38) fun t42 h43 y44=>
 pK (oNil v0) fun t45=>
 pK (z0d 43 none t45) fun t46=>
 wK (z0k none t46 t28 h43) fun t47 h48 y49=>
 pK (oNil v0) fun t50=>
 pK (z0d 44 none t50) fun t51=>
 wK (z0k none t51 t37 h48) fun t52 h53 y54=>
 K .normal ⟨[],h53,(y54++(y49++(y44++(y39++(y36++(y30++(y27++(y21++(y18++(y9++x))))))))))⟩))))))))))
 (K .normal ⟨[(0,v0),(1,v1),(2,v2),(3,v3),(18,t12)],h8,(y9++x)⟩)
theorem e_q06j {C gl v0 v1 v2 v3 h x K}:NW C gl zmI.body ⟨enter [v0,v1,v2,v3],h,x⟩ K=zhN C gl v0 v1 v2 v3 h x K:=by kernel_rfl
def z9D:ACode:=.pr [0,1,5,6,7,8,9,10] (.seq (.seq (rg [mV 78 0,
mV 79 8,
bN 80 .add 79 (cI 1),
uO 81 (.idxs 78 80),
mV 82 7,
bN 83 .eql 81 82,
mV 84 83,
gD 85 84 true (.mv 0),
gD 86 84 true (.mv 8),
gD 87 84 true (.mv 8),
gD 88 84 true (.mv 5),
gD 89 84 true (.bin .add 87 88),
gD 90 84 true (.slstr 85 (some 86) (some 89)),
gD 91 84 true (.mv 1),
gD 92 84 true (.bin .eql 90 91),
uO 93 (.pick 84 92 cF)] [0,1,5,6,7,8,9,10,93])
(.cond 93 (.seq (rg [mV 94 8,
mV 4 94] [4])
.ret)
.skip))
(.seq (rg [mV 95 8,
bN 96 .add 95 (cI 1),
mV 8 96] [0,1,5,6,7,8,9,10])
(.seq (rg [mV 97 10,
bN 98 .add 97 (cI 1),
mV 10 98] [0,1,5,6,7,8,9,10])
(.seq (rg [mV 99 5,
lD 100 none (.g 0),
bN 101 .leq 99 100,
mV 102 101,
gD 103 102 true (.mv 10),
gD 104 102 true (.mv 8),
gD 105 102 true (.call zfp [104]),
gD 106 102 true (.bin .gtr 103 105),
uO 107 (.pick 102 106 cF)] [0,1,5,6,7,8,9,10,107])
(.cond 107 (.seq (rg [mV 108 0,
mV 109 8,
uO 110 (.slstr 108 (some 109) none),
mV 111 1,
cL 112 z0D [110,111],
mV 12 112] [8,12])
(.seq (.seq (rg [mV 113 12,
bN 114 .geq 113 (cI 0)] [8,12,114])
(.cond 114 (.seq (rg [mV 115 12,
mV 116 8,
bN 117 .add 115 116,
mV 4 117] [4])
.ret)
.skip))
(.seq (rg [mV 4 (cI (-1))] [4])
.ret)))
(.seq (rg [mV 118 5,
lD 119 none (.g 0),
bN 120 .gtr 118 119,
mV 121 120,
gD 122 121 true (.mv 10),
gD 123 121 true (.mv 8),
gD 124 121 true (.bin .shr 123 (.c (.p (.int .u64 4)))),
gD 125 121 true (.bin .add (cI 4) 124),
gD 126 121 true (.bin .geq 122 125),
uO 127 (.pick 121 126 cF),
mV 128 127,
gD 129 128 true (.mv 8),
gD 130 128 true (.mv 9),
gD 131 128 true (.bin .lss 129 130),
uO 132 (.pick 128 131 cF)] [0,1,5,6,7,8,9,10,132])
(.cond 132 (.seq (rg [mV 133 0,
mV 134 8,
uO 135 (.slstr 133 (some 134) none),
mV 136 1,
cL 137 zfq [135,136],
mV 13 137] [8,13])
(.seq (.seq (rg [mV 138 13,
bN 139 .lss 138 (cI 0)] [8,13,139])
(.cond 139 (.seq (rg [mV 4 (cI (-1))] [4])
.ret)
.skip))
(.seq (rg [mV 140 8,
mV 141 13,
bN 142 .add 140 141,
mV 4 142] [4])
.ret)))
.skip)))))))
def zdT (C:Hd) (gl:GL) (v0 v1 v5 v6 v7 v8 v9 v10:AV) (h:Heap) (x:Esc) (K:KT):Prop:=
 pK (oBin .add v8 (AI 1)) fun t1=>
 pK (z1I v0 t1) fun t2=>
 pK (oBin .eql t2 v7) fun t3=>
 gM t3 true v0 h fun t4 h5 y6=>
 gM t3 true v8 h5 fun t7 h8 y9=>
 gM t3 true v8 h8 fun t10 h11 y12=>
 gM t3 true v5 h11 fun t13 h14 y15=>
 gP t3 true (oBin .add t10 t13) h14 fun t16 h17 y18=>
 gP t3 true (z1s t4 (some t7) (some t16)) h17 fun t19 h20 y21=>
 gM t3 true v1 h20 fun t22 h23 y24=>
 gP t3 true (oBin .eql t19 t22) h23 fun t25 h26 y27=>
 pK (z09 t3 t25 (AB false)) fun t28=>
 z0i t28 (K .ret ⟨[(4,v8)],h26,(y27++(y24++(y21++(y18++(y15++(y12++(y9++(y6++x))))))))⟩)
 (pK (oBin .add v8 (AI 1)) fun t29=>
 pK (oBin .add v10 (AI 1)) fun t30=>
 pK (z0e none (gv gl 0) h26) fun t31=>
 pK (oBin .leq v5 t31) fun t32=>
 gM t32 true t30 h26 fun t33 h34 y35=>
 gM t32 true t29 h34 fun t36 h37 y38=>
 gV t32 true h37 (C zfp [t36] h37) fun t39 h40 y41=>
 gP t32 true (oBin .gtr t33 t39) h40 fun t42 h43 y44=>
 pK (z09 t32 t42 (AB false)) fun t45=>
 z0i t45 (pK (z1s v0 (some t29) none) fun t46=>
 C z0D [t46,v1] h43 fun t47 h48 y49=>
 pK (oBin .geq t47 (AI 0)) fun t50=>
 z0i t50 (pK (oBin .add t47 t29) fun t51=>
 K .ret ⟨[(4,t51)],h48,(y49++(y44++(y41++(y38++(y35++(y27++(y24++(y21++(y18++(y15++(y12++(y9++(y6++x)))))))))))))⟩)
 (K .ret ⟨[(4,(AI (-1)))],h48,(y49++(y44++(y41++(y38++(y35++(y27++(y24++(y21++(y18++(y15++(y12++(y9++(y6++x)))))))))))))⟩))
 (pK (z0e none (gv gl 0) h43) fun t52=>
 pK (oBin .gtr v5 t52) fun t53=>
 gM t53 true t30 h43 fun t54 h55 y56=>
 gM t53 true t29 h55 fun t57 h58 y59=>
 gP t53 true (oBin .shr t57 (.p (.int .u64 4))) h58 fun t60 h61 y62=>
 gP t53 true (oBin .add (AI 4) t60) h61 fun t63 h64 y65=>
 gP t53 true (oBin .geq t54 t63) h64 fun t66 h67 y68=>
 pK (z09 t53 t66 (AB false)) fun t69=>
 gM t69 true t29 h67 fun t70 h71 y72=>
 gM t69 true v9 h71 fun t73 h74 y75=>
 gP t69 true (oBin .lss t70 t73) h74 fun t76 h77 y78=>
 pK (z09 t69 t76 (AB false)) fun t79=>
 z0i t79 (pK (z1s v0 (some t29) none) fun t80=>
 C zfq [t80,v1] h77 fun t81 h82 y83=>
 pK (oBin .lss t81 (AI 0)) fun t84=>
 z0i t84 (K .ret ⟨[(4,(AI (-1)))],h82,(y83++(y78++(y75++(y72++(y68++(y65++(y62++(y59++(y56++(y44++(y41++(y38++(y35++(y27++(y24++(y21++(y18++(y15++(y12++(y9++(y6++x)))))))))))))))))))))⟩)
 (pK (oBin .add t29 t81) fun t85=>
 K .ret ⟨[(4,t85)],h82,(y83++(y78++(y75++(y72++(y68++(y65++(y62++(y59++(y56++(y44++(y41++(y38++(y35++(y27++(y24++(y21++(y18++(y15++(y12++(y9++(y6++x)))))))))))))))))))))⟩))
 (K .normal ⟨[(0,v0),(1,v1),(5,v5),(6,v6),(7,v7),(8,t29),(9,v9),(10,t30),(132,t79)],h77,(y78++(y75++(y72++(y68++(y65++(y62++(y59++(y56++(y44++(y41++(y38++(y35++(y27++(y24++(y21++(y18++(y15++(y12++(y9++(y6++x))))))))))))))))))))⟩)))
theorem zo3 {C gl e h x K}:NW C gl z9D ⟨e,h,x⟩ K=zdT C gl (aget e 0) (aget e 1) (aget e 5) (aget e 6) (aget e 7) (aget e 8) (aget e 9) (aget e 10) h x K:=by kernel_rfl
def zdk (q1:ACode):ACode:=.pr [0,1,5,6,7,8,9,10] (.seq (.seq (rg [mV 57 8,
mV 58 9,
bN 59 .lss 57 58] [0,1,5,6,7,8,9,10,59])
(.cond 59 .skip
(.exit 1)))
(.block 2 (.seq (.seq (rg [mV 60 0,
mV 61 8,
uO 62 (.idxs 60 61),
mV 63 6,
bN 64 .neq 62 63] [0,1,5,6,7,8,9,10,64])
(.cond 64 (.seq (rg [mV 65 0,
mV 66 8,
bN 67 .add 66 (cI 1),
mV 68 9,
uO 69 (.slstr 65 (some 67) (some 68)),
mV 70 6,
cL 71 z42 [69,70],
mV 11 71] [0,1,5,6,7,8,9,10,11])
(.seq (.seq (rg [mV 72 11,
bN 73 .lss 72 (cI 0)] [0,1,5,6,7,8,9,10,11,73])
(.cond 73 (.seq (rg [mV 4 (cI (-1))] [4])
.ret)
.skip))
(rg [mV 74 8,
mV 75 11,
bN 76 .add 75 (cI 1),
bN 77 .add 74 76,
mV 8 77] [0,1,5,6,7,8,9,10])))
.skip))
q1)))
def z3s:ACode:=zdk z9D
def z8Q (C:Hd) (gl:GL) (q1:ACode) (v0 v1 v5 v6 v7 v8 v9 v10:AV) (h:Heap) (x:Esc) (K:KT):Prop:=
 pK (oBin .lss v8 v9) fun t1=>
 z0i t1 (pK (z1I v0 v8) fun t2=>
 pK (oBin .neq t2 v6) fun t3=>
 z0i t3 (pK (oBin .add v8 (AI 1)) fun t4=>
 pK (z1s v0 (some t4) (some v9)) fun t5=>
 C z42 [t5,v6] h fun t6 h7 y8=>
 pK (oBin .lss t6 (AI 0)) fun t9=>
 z0i t9 (K .ret ⟨[(4,(AI (-1)))],h7,(y8++x)⟩)
 (pK (oBin .add t6 (AI 1)) fun t10=>
 pK (oBin .add v8 t10) fun t11=>
 NW C gl q1 ⟨[(0,v0),(1,v1),(5,v5),(6,v6),(7,v7),(8,t11),(9,v9),(10,v10)],h7,(y8++x)⟩ (z0s 2 K)))
 (NW C gl q1 ⟨[(0,v0),(1,v1),(5,v5),(6,v6),(7,v7),(8,v8),(9,v9),(10,v10),(64,t3)],h,x⟩ (z0s 2 K)))
 (K (.exit 1) ⟨[(0,v0),(1,v1),(5,v5),(6,v6),(7,v7),(8,v8),(9,v9),(10,v10),(59,t1)],h,x⟩)
theorem zkV {C gl q1 e h x K}:NW C gl (zdk q1) ⟨e,h,x⟩ K=z8Q C gl q1 (aget e 0) (aget e 1) (aget e 5) (aget e 6) (aget e 7) (aget e 8) (aget e 9) (aget e 10) h x K:=by kernel_rfl
theorem zo4 {C gl e h x K}:NW C gl z3s ⟨e,h,x⟩ K=z8Q C gl z9D (aget e 0) (aget e 1) (aget e 5) (aget e 6) (aget e 7) (aget e 8) (aget e 9) (aget e 10) h x K:=zkV
theorem zqB {C gl e h x K}:NW C gl (.loop z3s) ⟨e,h,x⟩ K=z0Z C gl z3s K [(0,aget e 0),(1,aget e 1),(5,aget e 5),(6,aget e 6),(7,aget e 7),(8,aget e 8),(9,aget e 9),(10,aget e 10)] h x:=z0C
def z6x:ACode:=.pr [] (.seq (rg [mV 4 (cI (-1))] [4])
.ret)
def zdU (C:Hd) (gl:GL) (h:Heap) (x:Esc) (K:KT):Prop:=
 K .ret ⟨[(4,(AI (-1)))],h,x⟩
theorem zo5 {C gl e h x K}:NW C gl z6x ⟨e,h,x⟩ K=zdU C gl h x K:=by kernel_rfl
def zvC (q2 q3:ACode):ACode:=(.seq (rg [mV 4 (cI 0)] [0,1])
(.seq (rg [mV 14 1,
uO 15 (.lens 14),
mV 5 15] [0,1,5])
(.seq (.block 0 (.seq (rg [mV 17 5,
bN 18 .eql 17 (cI 0),
mV 19 18,
gD 20 19 false (.mv 1),
gD 21 19 false (.mv 0),
gD 22 19 false (.bin .eql 20 21),
uO 23 (.pick 19 cT 22),
mV 16 23] [0,1,5,16])
(.cond 16 (.seq (rg [mV 4 (cI 0)] [4])
.ret)
(.seq (rg [mV 25 5,
bN 26 .eql 25 (cI 1),
mV 24 26] [0,1,5,24])
(.cond 24 (.seq (rg [mV 27 0,
mV 28 1,
uO 29 (.idxs 28 (cI 0)),
cL 30 z42 [27,29],
mV 4 30] [4])
.ret)
(.seq (rg [mV 32 5,
mV 33 0,
uO 34 (.lens 33),
bN 35 .geq 32 34,
mV 31 35] [0,1,5,31])
(.cond 31 (.seq (rg [mV 4 (cI (-1))] [4])
.ret)
(.seq (rg [mV 37 5,
lD 38 none (.g 0),
bN 39 .leq 37 38,
mV 40 39,
gD 41 40 true (.mv 0),
gD 42 40 true (.lens 41),
gD 43 40 true (.bin .leq 42 (cI 64)),
uO 44 (.pick 40 43 cF),
mV 36 44] [0,1,5,36])
(.cond 36 (.seq (rg [mV 45 0,
mV 46 1,
cL 47 z0D [45,46],
mV 4 47] [4])
.ret)
.skip)))))))))
(.seq (rg [mV 48 1,
uO 49 (.idxs 48 (cI 0)),
mV 6 49] [0,1,5,6])
(.seq (rg [mV 50 1,
uO 51 (.idxs 50 (cI 1)),
mV 7 51] [0,1,5,6,7])
(.seq (rg [mV 8 (cI 0)] [0,1,5,6,7,8])
(.seq (rg [mV 52 0,
uO 53 (.lens 52),
mV 54 5,
bN 55 .sub 53 54,
bN 56 .add 55 (cI 1),
mV 9 56] [0,1,5,6,7,8,9])
(.seq (rg [mV 10 (cI 0)] [0,1,5,6,7,8,9,10])
(.seq (.block 1 (.loop q2))
q3)))))))))
def zl5:AFun:=⟨2,[.t 4],zvC z3s z6x,false,false⟩
def zhu (C:Hd) (gl:GL) (q2 q3:ACode) (v0 v1:AV) (h:Heap) (x:Esc) (K:KT):Prop:=
 pK (z06 v1) fun t1=>
 pK (oBin .eql t1 (AI 0)) fun t2=>
 gM t2 false v1 h fun t3 h4 y5=>
 gM t2 false v0 h4 fun t6 h7 y8=>
 gP t2 false (oBin .eql t3 t6) h7 fun t9 h10 y11=>
 pK (z09 t2 (AB true) t9) fun t12=>
 z0i t12 (K .ret ⟨[(4,(AI 0))],h10,(y11++(y8++(y5++x)))⟩)
 (pK (oBin .eql t1 (AI 1)) fun t13=>
 z0i t13 (pK (z1I v1 (AI 0)) fun t14=>
 C z42 [v0,t14] h10 fun t15 h16 y17=>
 K .ret ⟨[(4,t15)],h16,(y17++(y11++(y8++(y5++x))))⟩)
 (pK (z06 v0) fun t18=>
 pK (oBin .geq t1 t18) fun t19=>
 z0i t19 (K .ret ⟨[(4,(AI (-1)))],h10,(y11++(y8++(y5++x)))⟩)
 (pK (z0e none (gv gl 0) h10) fun t20=>
 pK (oBin .leq t1 t20) fun t21=>
 gM t21 true v0 h10 fun t22 h23 y24=>
 gP t21 true (z06 t22) h23 fun t25 h26 y27=>
 gP t21 true (oBin .leq t25 (AI 64)) h26 fun t28 h29 y30=>
 pK (z09 t21 t28 (AB false)) fun t31=>
 z0i t31 (C z0D [v0,v1] h29 fun t32 h33 y34=>
 K .ret ⟨[(4,t32)],h33,(y34++(y30++(y27++(y24++(y11++(y8++(y5++x)))))))⟩)
 (pK (z1I v1 (AI 0)) fun t35=>
 pK (z1I v1 (AI 1)) fun t36=>
 pK (z06 v0) fun t37=>
 pK (oBin .sub t37 t1) fun t38=>
 pK (oBin .add t38 (AI 1)) fun t39=>
 NW C gl (.loop q2) ⟨[(0,v0),(1,v1),(5,t1),(6,t35),(7,t36),(8,(AI 0)),(9,t39),(10,(AI 0))],h29,(y30++(y27++(y24++(y11++(y8++(y5++x))))))⟩ (z0s 1 (seqN C gl q3 K))))))
theorem E_q01v {C gl q2 q3 v0 v1 h x K}:NW C gl (zvC q2 q3) ⟨enter [v0,v1],h,x⟩ K=zhu C gl q2 q3 v0 v1 h x K:=by kernel_rfl
theorem e_q01v {C gl v0 v1 h x K}:NW C gl zl5.body ⟨enter [v0,v1],h,x⟩ K=zhu C gl z3s z6x v0 v1 h x K:=E_q01v
def z3w:ACode:=.pr [0,5,6,7] (.seq (rg [bN 8 .lss 7 6] [0,5,6,7,8])
(.seq (.cond 8 .skip
(.exit 0))
(.seq (.block 1 (rg [mV 9 5,
mV 10 0,
uO 11 (.bsl false none 2 (.str []) [(0,(cS [48])),(1,(cS [49]))]),
cL 12 z22 [10,11],
bN 13 .add 9 12,
mV 5 13] [0,5,6,7]))
(rg [bN 14 .add 7 (cI 1),
mV 7 14] [0,5,6,7]))))
def zeh (C:Hd) (gl:GL) (v0 v5 v6 v7:AV) (h:Heap) (x:Esc) (K:KT):Prop:=
 pK (oBin .lss v7 v6) fun t1=>
 z0i t1 (wK (oBsl false none 2 (.str []) [(0,(.p (.str [48]))),(1,(.p (.str [49])))] h) fun t2 h3 y4=>
 C z22 [v0,t2] h3 fun t5 h6 y7=>
 pK (oBin .add v5 t5) fun t8=>
 pK (oBin .add v7 (AI 1)) fun t9=>
 K .normal ⟨[(0,v0),(5,t8),(6,v6),(7,t9)],h6,(y7++(y4++x))⟩)
 (K (.exit 0) ⟨[(0,v0),(5,v5),(6,v6),(7,v7),(8,t1)],h,x⟩)
theorem zoJ {C gl e h x K}:NW C gl z3w ⟨e,h,x⟩ K=zeh C gl (aget e 0) (aget e 5) (aget e 6) (aget e 7) h x K:=by kernel_rfl
theorem zqG {C gl e h x K}:NW C gl (.loop z3w) ⟨e,h,x⟩ K=z0Z C gl z3w K [(0,aget e 0),(5,aget e 5),(6,aget e 6),(7,aget e 7)] h x:=z0C
def z65:ACode:=.pr [5] (.seq (rg [mV 15 5,
mV 4 15] [4])
.ret)
def zei (C:Hd) (gl:GL) (v5:AV) (h:Heap) (x:Esc) (K:KT):Prop:=
 K .ret ⟨[(4,v5)],h,x⟩
theorem zoK {C gl e h x K}:NW C gl z65 ⟨e,h,x⟩ K=zei C gl (aget e 5) h x K:=by kernel_rfl
def zvJ (q1 q2:ACode):ACode:=(.seq (rg [mV 4 (cS [])] [0,1])
(.seq (rg [mV 5 (cS [])] [0,1,5])
(.seq (.seq (rg [mV 6 1,
mV 7 (cI 0)] [0,5,6,7])
(.block 0 (.loop q1)))
q2)))
def zlM:AFun:=⟨2,[.t 4],zvJ z3w z65,false,false⟩
def zh4 (C:Hd) (gl:GL) (q1 q2:ACode) (v0 v1:AV) (h:Heap) (x:Esc) (K:KT):Prop:=
 NW C gl (.loop q1) ⟨[(0,v0),(5,(.p (.str []))),(6,v1),(7,(AI 0))],h,x⟩ (z0s 0 (seqN C gl q2 K))
theorem E_q02x {C gl q1 q2 v0 v1 h x K}:NW C gl (zvJ q1 q2) ⟨enter [v0,v1],h,x⟩ K=zh4 C gl q1 q2 v0 v1 h x K:=by kernel_rfl
theorem e_q02x {C gl v0 v1 h x K}:NW C gl zlM.body ⟨enter [v0,v1],h,x⟩ K=zh4 C gl z3w z65 v0 v1 h x K:=E_q02x
def P_q02s:ACode:=(.seq (rg [mV 6 (cI 0)] [0,1,2])
(.seq (.seq (rg [mV 7 0,
cL 8 z2z [7,(cI 12)]] [0,1,2,8])
(.cond 8 (.seq (rg [mV 9 0,
mV 10 1,
bN 11 .sub 10 (cI 1),
mV 12 2,
bN 13 .add 12 (cI 1),
mV 14 1,
mV 15 2,
uO 16 (.bsl false none 6 (.int .i64 0) [(0,11),(1,13),(2,14),(3,15),(4,(cI (-1099511627776))),(5,(cI 1099511627776))]),
cL 17 z1p [9,16],
mV 6 17] [6])
.ret)
.skip))
(.seq (rg [mV 18 0,
mV 19 1,
mV 20 2,
cL 21 z3n [18,19,20],
mV 6 21] [6])
.ret)))
def zlH:AFun:=⟨3,[.t 6],P_q02s,false,false⟩
def zh2 (C:Hd) (gl:GL) (v0 v1 v2:AV) (h:Heap) (x:Esc) (K:KT):Prop:=
 C z2z [v0,(AI 12)] h fun t1 h2 y3=>
 z0i t1 (pK (oBin .sub v1 (AI 1)) fun t4=>
 pK (oBin .add v2 (AI 1)) fun t5=>
 wK (oBsl false none 6 (.int .i64 0) [(0,t4),(1,t5),(2,v1),(3,v2),(4,(AI (-1099511627776))),(5,(AI 1099511627776))] h2) fun t6 h7 y8=>
 C z1p [v0,t6] h7 fun t9 h10 y11=>
 K .ret ⟨[(6,t9)],h10,(y11++(y8++(y3++x)))⟩)
 (C z3n [v0,v1,v2] h2 fun t12 h13 y14=>
 K .ret ⟨[(6,t12)],h13,(y14++(y3++x))⟩)
theorem e_q02s {C gl v0 v1 v2 h x K}:NW C gl zlH.body ⟨enter [v0,v1,v2],h,x⟩ K=zh2 C gl v0 v1 v2 h x K:=by kernel_rfl
def P_q02w:ACode:=(.seq (rg [mV 4 (cS [])] [0,1])
(.seq (rg [mV 5 1,
mV 6 0,
mV 7 1,
lN 8 7,
cL 9 z12 [6,8],
iA 10 none 5 9,
lD 11 none 10,
mV 4 11] [4])
.ret))
def zlL:AFun:=⟨2,[.t 4],P_q02w,false,false⟩
def znD (C:Hd) (gl:GL) (v0 v1:AV) (h:Heap) (x:Esc) (K:KT):Prop:=
 pK (oLen v1) fun t1=>
 C z12 [v0,t1] h fun t2 h3 y4=>
 pK (z0r none v1 t2 h3) fun t5=>
 pK (z0e none t5 h3) fun t6=>
 K .ret ⟨[(4,t6)],h3,(y4++x)⟩
theorem e_q02w {C gl v0 v1 h x K}:NW C gl zlL.body ⟨enter [v0,v1],h,x⟩ K=znD C gl v0 v1 h x K:=by kernel_rfl
def P_q04z:ACode:=(.seq (rg [mV 2 0,
uO 3 (.nilchk 2),
fA 4 0 none 3,
lD 5 none 4,
uO 6 (.isnil 0 false 5)] [0,6])
(.cond 6 (rg [mV 7 0,
mV 8 0,
uO 9 (.uns 1 106 [8]),
uO 10 (.uns 7 z1a [(.f z1a),9]),
uO 11 (.uns 1 106 [10]),
uO 12 (.nilchk 7),
fA 13 0 none 12,
wO (.store none 13 11)] [])
(.seq (rg [mV 14 0,
uO 15 (.nilchk 14),
fA 16 0 none 15,
lD 17 none 16,
mV 18 0,
uO 19 (.uns 2 0 [17,18])] [19])
(.cond 19 .bad
.skip))))
def zmu:AFun:=⟨1,[],P_q04z,false,false⟩
def zhH (C:Hd) (gl:GL) (v0:AV) (h:Heap) (x:Esc) (K:KT):Prop:=
 pK (oNil v0) fun t1=>
 pK (z0d 0 none t1) fun t2=>
 pK (z0e none t2 h) fun t3=>
 pK (z97 0 false t3) fun t4=>
 z0i t4 (wK (z1y 1 106 [v0] h) fun t5 h6 y7=>
 wK (z1y 7 z1a [(.fn z1a []),t5] h6) fun t8 h9 y10=>
 wK (z1y 1 106 [t8] h9) fun t11 h12 y13=>
 pK (oNil v0) fun t14=>
 pK (z0d 0 none t14) fun t15=>
 wK (z0k none t15 t11 h12) fun t16 h17 y18=>
 K .normal ⟨[],h17,(y18++(y13++(y10++(y7++x))))⟩)
 (pK (oNil v0) fun t19=>
 pK (z0d 0 none t19) fun t20=>
 pK (z0e none t20 h) fun t21=>
 wK (z1y 2 0 [t21,v0] h) fun t22 h23 y24=>
 z0i t22 (False)
 (K .normal ⟨[(19,t22)],h23,(y24++x)⟩))
theorem e_q04z {C gl v0 h x K}:NW C gl zmu.body ⟨enter [v0],h,x⟩ K=zhH C gl v0 h x K:=by kernel_rfl
def P_q06u:ACode:=(.seq (rg [mV 2 (cS [])] [0])
(.seq (rg [uO 3 (.build [.p (.str []),.p (.str []),.p (.str []),.p (.str []),.p (.str []),.p (.str []),.p (.str []),.p (.str []),.p (.str []),.p (.str [])] [(0,1,(cS [101,110,100,105,114])),(1,1,(cS [101,110,100,100,114])),(2,1,(cS [104,101,97,100,105,114])),(3,1,(cS [116,97,105,108,105,114])),(4,1,(cS [104,101,97,100,100,114])),(5,1,(cS [116,97,105,108,100,114])),(6,1,(cS [115,99,97,110,105,114])),(7,1,(cS [115,99,97,110,100,114])),(8,1,(cS [105,100,108,101])),(9,1,(cS [103,111]))]),
mV 4 0,
bN 5 .sub 4 (cI 1),
uO 6 (.idxa 10 none 3 5),
mV 2 6] [2])
.ret))
def zmR:AFun:=⟨1,[.t 2],P_q06u,false,false⟩
def zob (C:Hd) (gl:GL) (v0:AV) (h:Heap) (x:Esc) (K:KT):Prop:=
 pK (z0x [.p (.str []),.p (.str []),.p (.str []),.p (.str []),.p (.str []),.p (.str []),.p (.str []),.p (.str []),.p (.str []),.p (.str [])] [(0,1,(.p (.str [101,110,100,105,114]))),(1,1,(.p (.str [101,110,100,100,114]))),(2,1,(.p (.str [104,101,97,100,105,114]))),(3,1,(.p (.str [116,97,105,108,105,114]))),(4,1,(.p (.str [104,101,97,100,100,114]))),(5,1,(.p (.str [116,97,105,108,100,114]))),(6,1,(.p (.str [115,99,97,110,105,114]))),(7,1,(.p (.str [115,99,97,110,100,114]))),(8,1,(.p (.str [105,100,108,101]))),(9,1,(.p (.str [103,111])))]) fun t1=>
 pK (oBin .sub v0 (AI 1)) fun t2=>
 pK (zc4 10 none t1 t2) fun t3=>
 K .ret ⟨[(2,t3)],h,x⟩
theorem e_q06u {C gl v0 h x K}:NW C gl zmR.body ⟨enter [v0],h,x⟩ K=zob C gl v0 h x K:=by kernel_rfl
def P_q06s:ACode:=(.seq (rg [mV 2 (cS [])] [0])
(.seq (.seq (rg [mV 3 0] [3])
(.block 0 (.seq (rg [bN 5 .eql 3 (cI 0),
mV 4 5] [3,4])
(.cond 4 (.seq (rg [mV 2 (cS [114,101,115,101,116])] [2])
.ret)
(.seq (rg [bN 7 .eql 3 (cI 1),
mV 6 7] [3,6])
(.cond 6 (.seq (rg [mV 2 (cS [105,100,108,101])] [2])
.ret)
(.seq (rg [bN 9 .eql 3 (cI 6),
mV 8 9] [8])
(.cond 8 (.seq (rg [mV 2 (cS [112,97,117,115,101,100,114])] [2])
.ret)
.skip))))))))
(.seq (rg [mV 2 (cS [112,97,117,115,101,105,114])] [2])
.ret)))
def zmQ:AFun:=⟨1,[.t 2],P_q06s,false,false⟩
def zaF (C:Hd) (gl:GL) (v0:AV) (h:Heap) (x:Esc) (K:KT):Prop:=
 pK (oBin .eql v0 (AI 0)) fun t1=>
 z0i t1 (K .ret ⟨[(2,(.p (.str [114,101,115,101,116])))],h,x⟩)
 (pK (oBin .eql v0 (AI 1)) fun t2=>
 z0i t2 (K .ret ⟨[(2,(.p (.str [105,100,108,101])))],h,x⟩)
 (pK (oBin .eql v0 (AI 6)) fun t3=>
 z0i t3 (K .ret ⟨[(2,(.p (.str [112,97,117,115,101,100,114])))],h,x⟩)
 (K .ret ⟨[(2,(.p (.str [112,97,117,115,101,105,114])))],h,x⟩)))
theorem e_q06s {C gl v0 h x K}:NW C gl zmQ.body ⟨enter [v0],h,x⟩ K=zaF C gl v0 h x K:=by kernel_rfl
def P_q03p:ACode:=(.seq (rg [mV 2 cF] [0])
(.seq (rg [uO 3 (.bsl false none 4 (.int .i64 0) [(0,(cI 0)),(1,(cI 1)),(2,(cI 6)),(3,(cI 13))]),
mV 4 0,
cL 5 z7X [3,4],
mV 2 5] [2])
.ret))
def zmk:AFun:=⟨1,[.t 2],P_q03p,false,false⟩
def znL (C:Hd) (gl:GL) (v0:AV) (h:Heap) (x:Esc) (K:KT):Prop:=
 wK (oBsl false none 4 (.int .i64 0) [(0,(AI 0)),(1,(AI 1)),(2,(AI 6)),(3,(AI 13))] h) fun t1 h2 y3=>
 C z7X [t1,v0] h2 fun t4 h5 y6=>
 K .ret ⟨[(2,t4)],h5,(y6++(y3++x))⟩
theorem e_q03p {C gl v0 h x K}:NW C gl zmk.body ⟨enter [v0],h,x⟩ K=znL C gl v0 h x K:=by kernel_rfl
def P_q03i:ACode:=(.seq (rg [mV 6 cF] [0,1,2])
(.seq (rg [mV 7 1,
mV 8 0,
bN 9 .leq 7 8,
mV 10 9,
gD 11 10 true (.mv 0),
gD 12 10 true (.mv 2),
gD 13 10 true (.bin .leq 11 12),
uO 14 (.pick 10 13 cF),
mV 6 14] [6])
.ret))
def zme:AFun:=⟨3,[.t 6],P_q03i,false,false⟩
def znJ (C:Hd) (gl:GL) (v0 v1 v2:AV) (h:Heap) (x:Esc) (K:KT):Prop:=
 pK (oBin .leq v1 v0) fun t1=>
 gM t1 true v0 h fun t2 h3 y4=>
 gM t1 true v2 h3 fun t5 h6 y7=>
 gP t1 true (oBin .leq t2 t5) h6 fun t8 h9 y10=>
 pK (z09 t1 t8 (AB false)) fun t11=>
 K .ret ⟨[(6,t11)],h9,(y10++(y7++(y4++x)))⟩
theorem e_q03i {C gl v0 v1 v2 h x K}:NW C gl zme.body ⟨enter [v0,v1,v2],h,x⟩ K=znJ C gl v0 v1 v2 h x K:=by kernel_rfl
def P_q031:ACode:=(.seq (rg [mV 2 cF] [0])
(.seq (rg [mV 3 0,
cL 4 z7U [3,(cS [48,49])],
mV 2 4] [2])
.ret))
def zlQ:AFun:=⟨1,[.t 2],P_q031,false,false⟩
def znF (C:Hd) (gl:GL) (v0:AV) (h:Heap) (x:Esc) (K:KT):Prop:=
 C z7U [v0,(.p (.str [48,49]))] h fun t1 h2 y3=>
 K .ret ⟨[(2,t1)],h2,(y3++x)⟩
theorem e_q031 {C gl v0 h x K}:NW C gl zlQ.body ⟨enter [v0],h,x⟩ K=znF C gl v0 h x K:=by kernel_rfl
end Go.Am
end
section
/- The functions asv abstract code,and asv formulas over their values: printed by program out of the translation. -/
set_option linter.unusedVariables false
set_option maxRecDepth 100000
namespace Go.Am
def P_q03n:ACode:=(.seq (rg [uO 1 (.box 0),
mV 2 (cI 0)] [1])
(.seq (.block 0 (.seq (rg [fA 4 3 none 1,
lD 5 none 4,
bN 6 .eql 5 (cS []),
mV 3 6] [1,3])
(.cond 3 (.seq (rg [mV 2 (cI 8)] [2])
.ret)
(.seq (rg [fA 8 3 none 1,
lD 9 none 8,
cL 10 z4j [9],
uO 11 (.un .not 10),
mV 7 11] [1,7])
(.cond 7 (.seq (rg [mV 2 (cI 9)] [2])
.ret)
(.seq (rg [fA 13 3 none 1,
lD 14 none 13,
uO 15 (.lens 14),
bN 16 .gtr 15 (cI 2000),
mV 12 16] [1,12])
(.cond 12 (.seq (rg [mV 2 (cI 2)] [2])
.ret)
(.seq (rg [fA 18 4 none 1,
lD 19 none 18,
bN 20 .neq 19 (cS []),
mV 21 20,
gD 22 21 true (.faddr 4 none 1),
gD 23 21 true (.load none 22),
gD 24 21 true (.lens 23),
gD 25 21 true (.faddr 3 none 1),
gD 26 21 true (.load none 25),
gD 27 21 true (.lens 26),
gD 28 21 true (.bin .neq 24 27),
gD 29 21 true (.mv 28),
gD 30 29 false (.faddr 5 none 1),
gD 31 29 false (.load none 30),
gD 32 29 false (.lens 31),
gD 33 29 false (.faddr 3 none 1),
gD 34 29 false (.load none 33),
gD 35 29 false (.lens 34),
gD 36 29 false (.bin .neq 32 35),
gD 37 21 true (.pick 29 cT 36),
uO 38 (.pick 21 37 cF),
mV 17 38] [1,17])
(.cond 17 (.seq (rg [mV 2 (cI 3)] [2])
.ret)
(.seq (rg [fA 40 4 none 1,
lD 41 none 40,
cL 42 z4j [41],
uO 43 (.un .not 42),
mV 44 43,
gD 45 44 false (.faddr 5 none 1),
gD 46 44 false (.load none 45),
gD 47 44 false (.call z4j [46]),
gD 48 44 false (.un .not 47),
uO 49 (.pick 44 cT 48),
mV 39 49] [1,39])
(.cond 39 (.seq (rg [mV 2 (cI 9)] [2])
.ret)
(.seq (rg [fA 51 4 none 1,
lD 52 none 51,
bN 53 .eql 52 (cS []),
mV 54 53,
gD 55 54 true (.faddr 5 none 1),
gD 56 54 true (.load none 55),
gD 57 54 true (.bin .neq 56 (cS [])),
uO 58 (.pick 54 57 cF),
mV 50 58] [50])
(.cond 50 (.seq (rg [mV 2 (cI 3)] [2])
.ret)
.skip)))))))))))))
(.seq (rg [mV 2 (cI 0)] [2])
.ret)))
def zmj:AFun:=⟨1,[.t 2],P_q03n,false,false⟩
def z3i (C:Hd) (gl:GL) (v0:AV) (h:Heap) (x:Esc) (K:KT):Prop:=
 wK (oBox v0 h) fun t1 h2 y3=>
 pK (z0d 3 none t1) fun t4=>
 pK (z0e none t4 h2) fun t5=>
 pK (oBin .eql t5 (.p (.str []))) fun t6=>
 z0i t6 (K .ret ⟨[(2,(AI 8))],h2,(y3++x)⟩)
 (pK (z0d 3 none t1) fun t7=>
 pK (z0e none t7 h2) fun t8=>
 C z4j [t8] h2 fun t9 h10 y11=>
 pK (oUn .not t9) fun t12=>
 z0i t12 (K .ret ⟨[(2,(AI 9))],h10,(y11++(y3++x))⟩)
 (pK (z0d 3 none t1) fun t13=>
 pK (z0e none t13 h10) fun t14=>
 pK (z06 t14) fun t15=>
 pK (oBin .gtr t15 (AI 2000)) fun t16=>
 z0i t16 (K .ret ⟨[(2,(AI 2))],h10,(y11++(y3++x))⟩)
 (pK (z0d 4 none t1) fun t17=>
 pK (z0e none t17 h10) fun t18=>
 pK (oBin .neq t18 (.p (.str []))) fun t19=>
 gP t19 true (z0d 4 none t1) h10 fun t20 h21 y22=>
 gP t19 true (z0e none t20 h21) h21 fun t23 h24 y25=>
 gP t19 true (z06 t23) h24 fun t26 h27 y28=>
 gP t19 true (z0d 3 none t1) h27 fun t29 h30 y31=>
 gP t19 true (z0e none t29 h30) h30 fun t32 h33 y34=>
 gP t19 true (z06 t32) h33 fun t35 h36 y37=>
 gP t19 true (oBin .neq t26 t35) h36 fun t38 h39 y40=>
 gM t19 true t38 h39 fun t41 h42 y43=>
 gP t41 false (z0d 5 none t1) h42 fun t44 h45 y46=>
 gP t41 false (z0e none t44 h45) h45 fun t47 h48 y49=>
 gP t41 false (z06 t47) h48 fun t50 h51 y52=>
 gP t41 false (z0d 3 none t1) h51 fun t53 h54 y55=>
 gP t41 false (z0e none t53 h54) h54 fun t56 h57 y58=>
 gP t41 false (z06 t56) h57 fun t59 h60 y61=>
 gP t41 false (oBin .neq t50 t59) h60 fun t62 h63 y64=>
 gP t19 true (z09 t41 (AB true) t62) h63 fun t65 h66 y67=>
 pK (z09 t19 t65 (AB false)) fun t68=>
 z0i t68 (K .ret ⟨[(2,(AI 3))],h66,(y67++(y64++(y61++(y58++(y55++(y52++(y49++(y46++(y43++(y40++(y37++(y34++(y31++(y28++(y25++(y22++(y11++(y3++x))))))))))))))))))⟩)
 (pK (z0d 4 none t1) fun t69=>
 pK (z0e none t69 h66) fun t70=>
 C z4j [t70] h66 fun t71 h72 y73=>
 pK (oUn .not t71) fun t74=>
 gP t74 false (z0d 5 none t1) h72 fun t75 h76 y77=>
 gP t74 false (z0e none t75 h76) h76 fun t78 h79 y80=>
 gV t74 false h79 (C z4j [t78] h79) fun t81 h82 y83=>
 gP t74 false (oUn .not t81) h82 fun t84 h85 y86=>
 pK (z09 t74 (AB true) t84) fun t87=>
 z0i t87 (K .ret ⟨[(2,(AI 9))],h85,(y86++(y83++(y80++(y77++(y73++(y67++(y64++(y61++(y58++(y55++(y52++(y49++(y46++(y43++(y40++(y37++(y34++(y31++(y28++(y25++(y22++(y11++(y3++x)))))))))))))))))))))))⟩)
 (pK (z0d 4 none t1) fun t88=>
 pK (z0e none t88 h85) fun t89=>
 pK (oBin .eql t89 (.p (.str []))) fun t90=>
 gP t90 true (z0d 5 none t1) h85 fun t91 h92 y93=>
 gP t90 true (z0e none t91 h92) h92 fun t94 h95 y96=>
 gP t90 true (oBin .neq t94 (.p (.str []))) h95 fun t97 h98 y99=>
 pK (z09 t90 t97 (AB false)) fun t100=>
 z0i t100 (K .ret ⟨[(2,(AI 3))],h98,(y99++(y96++(y93++(y86++(y83++(y80++(y77++(y73++(y67++(y64++(y61++(y58++(y55++(y52++(y49++(y46++(y43++(y40++(y37++(y34++(y31++(y28++(y25++(y22++(y11++(y3++x))))))))))))))))))))))))))⟩)
 (K .ret ⟨[(2,(AI 0))],h98,(y99++(y96++(y93++(y86++(y83++(y80++(y77++(y73++(y67++(y64++(y61++(y58++(y55++(y52++(y49++(y46++(y43++(y40++(y37++(y34++(y31++(y28++(y25++(y22++(y11++(y3++x))))))))))))))))))))))))))⟩))))))
theorem e_q03n {C gl v0 h x K}:NW C gl zmj.body ⟨enter [v0],h,x⟩ K=z3i C gl v0 h x K:=by kernel_rfl
def z38:ACode:=.pr [0,3,4,8,9] (.seq (rg [bN 10 .lss 9 8] [0,3,4,8,9,10])
(.seq (.cond 10 .skip
(.exit 0))
(.seq (.block 1 (.seq (rg [mV 11 9,
mV 5 11] [0,3,4,5,8,9])
(.seq (rg [mV 12 0,
mV 13 5,
mV 14 4,
cL 15 z43 [12,13,14],
uO 6 (.alloc [.p (.str []),.p (.str []),.p (.str []),.p (.int .i64 0),.p (.int .i64 0)]),
wO (.store (some 5) 6 15)] [0,3,6,8,9])
(dr [dF (mV 16 3) [3],
dF (lD 17 (some 5) 6) [6],
dF (uO 18 (.bsl false (some 5) 1 (.agg [.str [],.str [],.str [],.int .i64 0,.int .i64 0]) [(0,17)])) [17],
dT (uO 19 (.app (some 5) 16 18)) [16,18],
dF (fA 20 4 none 6) [6],
dA (lD 21 none 20) [20] false [3] [],
dF (mV 3 19) [19],
dF (mV 4 21) [21]] [0,3,4,8,9]))))
(rg [bN 22 .add 9 (cI 1),
mV 9 22] [0,3,4,8,9]))))
def ze2 (C:Hd) (gl:GL) (v0 v3 v4 v8 v9:AV) (h:Heap) (x:Esc) (K:KT):Prop:=
 pK (oBin .lss v9 v8) fun t1=>
 z0i t1 (C z43 [v0,v9,v4] h fun t2 h3 y4=>
 alK [.p (.str []),.p (.str []),.p (.str []),.p (.int .i64 0),.p (.int .i64 0)] h3 fun t5 h6 y7=>
 wK (z0k (some 5) t5 t2 h6) fun t8 h9 y10=>
 pK (z0e (some 5) t5 h9) fun t11=>
 wK (oBsl false (some 5) 1 (.agg [.str [],.str [],.str [],.int .i64 0,.int .i64 0]) [(0,t11)] h9) fun t12 h13 y14=>
 (h13=h9∧y14=[])∧(wK (oApp (some 5) v3 t12 h13) fun t15 h16 y17=>
 pK (z0d 4 none t5) fun t18=>
 pK (z0e none t18 h16) fun t19=>
 (pK (z0e none t18 h13) fun v=>(fun u (g1:Heap) (y1:Esc)=>u=t19∧g1=h13∧y1=[]) v h13 [])∧(pK (oBin .add v9 (AI 1)) fun t20=>
 K .normal ⟨[(0,v0),(3,t15),(4,t19),(8,v8),(9,t20)],h16,(y17++(y14++(y10++(y7++(y4++x)))))⟩)))
 (K (.exit 0) ⟨[(0,v0),(3,v3),(4,v4),(8,v8),(9,v9),(10,t1)],h,x⟩)
theorem zpn {C gl e h x K}:NW C gl z38 ⟨e,h,x⟩ K=ze2 C gl (aget e 0) (aget e 3) (aget e 4) (aget e 8) (aget e 9) h x K:=by kernel_rfl
theorem zqR {C gl e h x K}:NW C gl (.loop (.scope z38)) ⟨e,h,x⟩ K=z0Z C gl (.scope z38) K [(0,aget e 0),(3,aget e 3),(4,aget e 4),(8,aget e 8),(9,aget e 9)] h x:=z1F
def z6J:ACode:=.pr [3] (.seq (rg [mV 23 3,
mV 2 23] [2])
.ret)
def ze3 (C:Hd) (gl:GL) (v3:AV) (h:Heap) (x:Esc) (K:KT):Prop:=
 K .ret ⟨[(2,v3)],h,x⟩
theorem zpo {C gl e h x K}:NW C gl z6J ⟨e,h,x⟩ K=ze3 C gl (aget e 3) h x K:=by kernel_rfl
def zvW (q1 q2:ACode):ACode:=(.seq (rg [mV 2 (.c (.p (.sl (some 5) [])))] [0])
(.seq (rg [uO 3 (.new0 (some 5))] [0,3])
(.seq (rg [mV 4 (cI 0)] [0,3,4])
(.seq (.seq (rg [mV 7 0,
lN 8 7,
mV 9 (cI 0)] [0,3,4,8,9])
(.block 0 (.loop (.scope q1))))
q2))))
def zmi:AFun:=⟨1,[.t 2],zvW z38 z6J,false,false⟩
def zhD (C:Hd) (gl:GL) (q1 q2:ACode) (v0:AV) (h:Heap) (x:Esc) (K:KT):Prop:=
 nwK (some 5) h fun t1 h2 y3=>
 pK (oLen v0) fun t4=>
 NW C gl (.loop (.scope q1)) ⟨[(0,v0),(3,t1),(4,(AI 0)),(8,t4),(9,(AI 0))],h2,(y3++x)⟩ (z0s 0 (seqN C gl q2 K))
theorem E_q03m {C gl q1 q2 v0 h x K}:NW C gl (zvW q1 q2) ⟨enter [v0],h,x⟩ K=zhD C gl q1 q2 v0 h x K:=by kernel_rfl
theorem e_q03m {C gl v0 h x K}:NW C gl zmi.body ⟨enter [v0],h,x⟩ K=zhD C gl z38 z6J v0 h x K:=E_q03m
def P_q03g:ACode:=(.seq (rg [mV 0 (.c (.p (.sl none [])))] [])
(.seq (rg [uO 1 (.bsl false none 11 (.str []) [(0,(cS [])),(1,(cS [101,110,100,105,114])),(2,(cS [101,110,100,100,114])),(3,(cS [104,101,97,100,105,114])),(4,(cS [116,97,105,108,105,114])),(5,(cS [104,101,97,100,100,114])),(6,(cS [116,97,105,108,100,114])),(7,(cS [115,99,97,110,105,114])),(8,(cS [115,99,97,110,100,114])),(9,(cS [105,100,108,101])),(10,(cS [103,111]))]),
mV 0 1] [0])
.ret))
def zmc:AFun:=⟨0,[.t 0],P_q03g,false,false⟩
def znI (C:Hd) (gl:GL) (h:Heap) (x:Esc) (K:KT):Prop:=
 wK (oBsl false none 11 (.str []) [(0,(.p (.str []))),(1,(.p (.str [101,110,100,105,114]))),(2,(.p (.str [101,110,100,100,114]))),(3,(.p (.str [104,101,97,100,105,114]))),(4,(.p (.str [116,97,105,108,105,114]))),(5,(.p (.str [104,101,97,100,100,114]))),(6,(.p (.str [116,97,105,108,100,114]))),(7,(.p (.str [115,99,97,110,105,114]))),(8,(.p (.str [115,99,97,110,100,114]))),(9,(.p (.str [105,100,108,101]))),(10,(.p (.str [103,111])))] h) fun t1 h2 y3=>
 K .ret ⟨[(0,t1)],h2,(y3++x)⟩
theorem e_q03g {C gl h x K}:NW C gl zmc.body ⟨enter [],h,x⟩ K=znI C gl h x K:=by kernel_rfl
def P_q03q:ACode:=(.seq (rg [mV 0 (.c (.p (.sl none []))),
mV 1 (.c (.p (.sl none [])))] [])
(.seq (rg [uO 2 (.bsl false none 4 (.int .i64 0) [(0,(cI 0)),(1,(cI 1)),(2,(cI 6)),(3,(cI 13))]),
uO 3 (.bsl false none 4 (.str []) [(0,(cS [114,101,115,101,116])),(1,(cS [105,100,108,101])),(2,(cS [112,97,117,115,101,100,114])),(3,(cS [112,97,117,115,101,105,114]))]),
mV 0 2,
mV 1 3] [0,1])
.ret))
def zml:AFun:=⟨0,[.t 0,.t 1],P_q03q,false,false⟩
def znM (C:Hd) (gl:GL) (h:Heap) (x:Esc) (K:KT):Prop:=
 wK (oBsl false none 4 (.int .i64 0) [(0,(AI 0)),(1,(AI 1)),(2,(AI 6)),(3,(AI 13))] h) fun t1 h2 y3=>
 wK (oBsl false none 4 (.str []) [(0,(.p (.str [114,101,115,101,116]))),(1,(.p (.str [105,100,108,101]))),(2,(.p (.str [112,97,117,115,101,100,114]))),(3,(.p (.str [112,97,117,115,101,105,114])))] h2) fun t4 h5 y6=>
 K .ret ⟨[(0,t1),(1,t4)],h5,(y6++(y3++x))⟩
theorem e_q03q {C gl h x K}:NW C gl zml.body ⟨enter [],h,x⟩ K=znM C gl h x K:=by kernel_rfl
def P_q03j:ACode:=(.seq (rg [uO 1 (.box 0),
mV 2 cF] [1])
(.seq (rg [fA 3 0 none 1,
lD 4 none 3,
cL 5 z2O [4,(cI 7),(cI 8)],
mV 2 5] [2])
.ret))
def zmf:AFun:=⟨1,[.t 2],P_q03j,false,false⟩
def znK (C:Hd) (gl:GL) (v0:AV) (h:Heap) (x:Esc) (K:KT):Prop:=
 wK (oBox v0 h) fun t1 h2 y3=>
 pK (z0d 0 none t1) fun t4=>
 pK (z0e none t4 h2) fun t5=>
 C z2O [t5,(AI 7),(AI 8)] h2 fun t6 h7 y8=>
 K .ret ⟨[(2,t6)],h7,(y8++(y3++x))⟩
theorem e_q03j {C gl v0 h x K}:NW C gl zmf.body ⟨enter [v0],h,x⟩ K=znK C gl v0 h x K:=by kernel_rfl
def z33:ACode:=.pr [3,6,7,8] (.seq (rg [bN 9 .lss 8 7] [3,6,7,8,9])
(.seq (.cond 9 .skip
(.exit 0))
(.seq (.block 1 (.seq (rg [iA 10 none 6 8,
lD 11 none 10,
mV 5 11] [3,5,6,7,8])
(rg [mV 12 3,
mV 13 5,
cL 14 z8a [13],
uO 15 (.bsl false none 1 (.str []) [(0,14)]),
uO 16 (.app none 12 15),
mV 3 16] [3,6,7,8])))
(rg [bN 17 .add 8 (cI 1),
mV 8 17] [3,6,7,8]))))
def zev (C:Hd) (gl:GL) (v3 v6 v7 v8:AV) (h:Heap) (x:Esc) (K:KT):Prop:=
 pK (oBin .lss v8 v7) fun t1=>
 z0i t1 (pK (z0r none v6 v8 h) fun t2=>
 pK (z0e none t2 h) fun t3=>
 C z8a [t3] h fun t4 h5 y6=>
 wK (oBsl false none 1 (.str []) [(0,t4)] h5) fun t7 h8 y9=>
 wK (oApp none v3 t7 h8) fun t10 h11 y12=>
 pK (oBin .add v8 (AI 1)) fun t13=>
 K .normal ⟨[(3,t10),(6,v6),(7,v7),(8,t13)],h11,(y12++(y9++(y6++x)))⟩)
 (K (.exit 0) ⟨[(3,v3),(6,v6),(7,v7),(8,v8),(9,t1)],h,x⟩)
theorem zoX {C gl e h x K}:NW C gl z33 ⟨e,h,x⟩ K=zev C gl (aget e 3) (aget e 6) (aget e 7) (aget e 8) h x K:=by kernel_rfl
theorem zqN {C gl e h x K}:NW C gl (.loop (.scope z33)) ⟨e,h,x⟩ K=z0Z C gl (.scope z33) K [(3,aget e 3),(6,aget e 6),(7,aget e 7),(8,aget e 8)] h x:=z1F
def z6A:ACode:=.pr [3] (.seq (rg [mV 18 3,
cL 19 zhV [18,(cS [32])],
mV 2 19] [2])
.ret)
def z8W (C:Hd) (gl:GL) (v3:AV) (h:Heap) (x:Esc) (K:KT):Prop:=
 C zhV [v3,(.p (.str [32]))] h fun t1 h2 y3=>
 K .ret ⟨[(2,t1)],h2,(y3++x)⟩
theorem z9k {C gl e h x K}:NW C gl z6A ⟨e,h,x⟩ K=z8W C gl (aget e 3) h x K:=by kernel_rfl
def zvP (q1 q2:ACode):ACode:=(.seq (rg [mV 2 (cS [])] [0])
(.seq (rg [uO 3 (.new0 none)] [0,3])
(.seq (.seq (rg [mV 6 0,
lN 7 6,
mV 8 (cI 0)] [3,6,7,8])
(.block 0 (.loop (.scope q1))))
q2)))
def zlW:AFun:=⟨1,[.t 2],zvP z33 z6A,false,false⟩
def zh9 (C:Hd) (gl:GL) (q1 q2:ACode) (v0:AV) (h:Heap) (x:Esc) (K:KT):Prop:=
 nwK none h fun t1 h2 y3=>
 pK (oLen v0) fun t4=>
 NW C gl (.loop (.scope q1)) ⟨[(3,t1),(6,v0),(7,t4),(8,(AI 0))],h2,(y3++x)⟩ (z0s 0 (seqN C gl q2 K))
theorem E_q038 {C gl q1 q2 v0 h x K}:NW C gl (zvP q1 q2) ⟨enter [v0],h,x⟩ K=zh9 C gl q1 q2 v0 h x K:=by kernel_rfl
theorem e_q038 {C gl v0 h x K}:NW C gl zlW.body ⟨enter [v0],h,x⟩ K=zh9 C gl z33 z6A v0 h x K:=E_q038
def z3A:ACode:=.pr [0,1,7,8] (.seq (rg [bN 9 .lss 8 7] [0,1,7,8,9])
(.seq (.cond 9 .skip
(.exit 0))
(.seq (.block 1 (.seq (rg [mV 10 8,
mV 5 10] [0,1,5,7,8])
(.seq (rg [mV 11 1,
mV 12 0,
mV 13 5,
iA 14 none 12 13,
lD 15 none 14,
bN 16 .eql 11 15] [0,1,5,7,8,16])
(.cond 16 (.seq (rg [mV 17 5,
mV 4 17] [4])
.ret)
.skip))))
(rg [bN 18 .add 8 (cI 1),
mV 8 18] [0,1,7,8]))))
def ze7 (C:Hd) (gl:GL) (v0 v1 v7 v8:AV) (h:Heap) (x:Esc) (K:KT):Prop:=
 pK (oBin .lss v8 v7) fun t1=>
 z0i t1 (pK (z0r none v0 v8 h) fun t2=>
 pK (z0e none t2 h) fun t3=>
 pK (oBin .eql v1 t3) fun t4=>
 z0i t4 (K .ret ⟨[(4,v8)],h,x⟩)
 (pK (oBin .add v8 (AI 1)) fun t5=>
 K .normal ⟨[(0,v0),(1,v1),(7,v7),(8,t5)],h,x⟩))
 (K (.exit 0) ⟨[(0,v0),(1,v1),(7,v7),(8,v8),(9,t1)],h,x⟩)
theorem zpr {C gl e h x K}:NW C gl z3A ⟨e,h,x⟩ K=ze7 C gl (aget e 0) (aget e 1) (aget e 7) (aget e 8) h x K:=by kernel_rfl
theorem zqT {C gl e h x K}:NW C gl (.loop z3A) ⟨e,h,x⟩ K=z0Z C gl z3A K [(0,aget e 0),(1,aget e 1),(7,aget e 7),(8,aget e 8)] h x:=z0C
def z6L:ACode:=.pr [] (.seq (rg [mV 4 (cI (-1))] [4])
.ret)
def ze8 (C:Hd) (gl:GL) (h:Heap) (x:Esc) (K:KT):Prop:=
 K .ret ⟨[(4,(AI (-1)))],h,x⟩
theorem zps {C gl e h x K}:NW C gl z6L ⟨e,h,x⟩ K=ze8 C gl h x K:=by kernel_rfl
def zvY (q1 q2:ACode):ACode:=(.seq (rg [mV 4 (cI 0)] [0,1])
(.seq (.seq (rg [mV 6 0,
lN 7 6,
mV 8 (cI 0)] [0,1,7,8])
(.block 0 (.loop q1)))
q2))
def zmp:AFun:=⟨2,[.t 4],zvY z3A z6L,true,false⟩
def zhE (C:Hd) (gl:GL) (q1 q2:ACode) (v0 v1:AV) (h:Heap) (x:Esc) (K:KT):Prop:=
 pK (oLen v0) fun t1=>
 NW C gl (.loop q1) ⟨[(0,v0),(1,v1),(7,t1),(8,(AI 0))],h,x⟩ (z0s 0 (seqN C gl q2 K))
theorem E_q044 {C gl q1 q2 v0 v1 h x K}:NW C gl (zvY q1 q2) ⟨enter [v0,v1],h,x⟩ K=zhE C gl q1 q2 v0 v1 h x K:=by kernel_rfl
theorem e_q044 {C gl v0 v1 h x K}:NW C gl zmp.body ⟨enter [v0,v1],h,x⟩ K=zhE C gl z3A z6L v0 v1 h x K:=E_q044
def P_q006:ACode:=(.seq (rg [mV 2 (.c (.p (.sl none []))),
mV 3 cF] [0])
(.seq (.seq (rg [mV 5 0,
bN 6 .eql 5 (cS [])] [0,6])
(.cond 6 (.seq (rg [mV 2 (.c (.p (.sl none []))),
mV 3 cT] [2,3])
.ret)
.skip))
(.seq (rg [mV 8 0,
cL 9 zbj [8,(cS [10])],
mV 7 9,
eX 10 7 0,
eX 11 7 1,
mV 4 10,
mV 3 11] [3,4])
(.seq (rg [mV 12 4,
cL 13 z57 [12,(cS [10])],
mV 14 3,
mV 2 13,
mV 3 14] [2,3])
.ret))))
def zlv:AFun:=⟨1,[.t 2,.t 3],P_q006,false,false⟩
def zhp (C:Hd) (gl:GL) (v0:AV) (h:Heap) (x:Esc) (K:KT):Prop:=
 pK (oBin .eql v0 (.p (.str []))) fun t1=>
 z0i t1 (K .ret ⟨[(2,(.p (.sl none []))),(3,(AB true))],h,x⟩)
 (C zbj [v0,(.p (.str [10]))] h fun t2 h3 y4=>
 pK (oExt t2 0) fun t5=>
 pK (oExt t2 1) fun t6=>
 C z57 [t5,(.p (.str [10]))] h3 fun t7 h8 y9=>
 K .ret ⟨[(2,t7),(3,t6)],h8,(y9++(y4++x))⟩)
theorem e_q006 {C gl v0 h x K}:NW C gl zlv.body ⟨enter [v0],h,x⟩ K=zhp C gl v0 h x K:=by kernel_rfl
def P_q05c:ACode:=(.seq (rg [mV 4 (.c (.p (.sl none [])))] [0,1])
(.seq (rg [mV 5 0,
mV 6 1,
cL 7 zbm [5,6,(cI 0),(cI (-1))],
mV 4 7] [4])
.ret))
def zmz:AFun:=⟨2,[.t 4],P_q05c,false,false⟩
def znU (C:Hd) (gl:GL) (v0 v1:AV) (h:Heap) (x:Esc) (K:KT):Prop:=
 C zbm [v0,v1,(AI 0),(AI (-1))] h fun t1 h2 y3=>
 K .ret ⟨[(4,t1)],h2,(y3++x)⟩
theorem e_q05c {C gl v0 v1 h x K}:NW C gl zmz.body ⟨enter [v0,v1],h,x⟩ K=znU C gl v0 v1 h x K:=by kernel_rfl
def P_q03y:ACode:=(.seq (rg [mV 4 cF] [0,1])
(.seq (rg [mV 5 0,
mV 6 1,
cL 7 z44 [5,6],
bN 8 .geq 7 (cI 0),
mV 4 8] [4])
.ret))
def zmn:AFun:=⟨2,[.t 4],P_q03y,true,false⟩
def znO (C:Hd) (gl:GL) (v0 v1:AV) (h:Heap) (x:Esc) (K:KT):Prop:=
 C z44 [v0,v1] h fun t1 h2 y3=>
 pK (oBin .geq t1 (AI 0)) fun t4=>
 K .ret ⟨[(4,t4)],h2,(y3++x)⟩
theorem e_q03y {C gl v0 v1 h x K}:NW C gl zmn.body ⟨enter [v0,v1],h,x⟩ K=znO C gl v0 v1 h x K:=by kernel_rfl
def z3E:ACode:=.pr [0,3] (.seq (.seq (rg [mV 4 3,
bN 5 .leq 4 (cI 10)] [0,3,5])
(.cond 5 .skip
(.exit 0)))
(.seq (.block 1 (.seq (rg [mV 8 3,
cL 9 z8g [8],
mV 10 0,
bN 11 .eql 9 10] [0,3,11])
(.cond 11 (.seq (rg [mV 12 3,
mV 2 12] [2])
.ret)
.skip)))
(rg [mV 6 3,
bN 7 .add 6 (cI 1),
mV 3 7] [0,3])))
def zeS (C:Hd) (gl:GL) (v0 v3:AV) (h:Heap) (x:Esc) (K:KT):Prop:=
 pK (oBin .leq v3 (AI 10)) fun t1=>
 z0i t1 (C z8g [v3] h fun t2 h3 y4=>
 pK (oBin .eql t2 v0) fun t5=>
 z0i t5 (K .ret ⟨[(2,v3)],h3,(y4++x)⟩)
 (pK (oBin .add v3 (AI 1)) fun t6=>
 K .normal ⟨[(0,v0),(3,t6)],h3,(y4++x)⟩))
 (K (.exit 0) ⟨[(0,v0),(3,v3),(5,t1)],h,x⟩)
theorem zpA {C gl e h x K}:NW C gl z3E ⟨e,h,x⟩ K=zeS C gl (aget e 0) (aget e 3) h x K:=by kernel_rfl
theorem zrb {C gl e h x K}:NW C gl (.loop z3E) ⟨e,h,x⟩ K=z0Z C gl z3E K [(0,aget e 0),(3,aget e 3)] h x:=z0C
def z6T:ACode:=.pr [] (.seq (rg [mV 2 (cI 0)] [2])
.ret)
def zeT (C:Hd) (gl:GL) (h:Heap) (x:Esc) (K:KT):Prop:=
 K .ret ⟨[(2,(AI 0))],h,x⟩
theorem zpB {C gl e h x K}:NW C gl z6T ⟨e,h,x⟩ K=zeT C gl h x K:=by kernel_rfl
def zwg (q1 q2:ACode):ACode:=(.seq (rg [mV 2 (cI 0)] [0])
(.seq (.seq (rg [mV 3 (cI 1)] [0,3])
(.block 0 (.loop q1)))
q2))
def zmE:AFun:=⟨1,[.t 2],zwg z3E z6T,false,false⟩
def zhM (C:Hd) (gl:GL) (q1 q2:ACode) (v0:AV) (h:Heap) (x:Esc) (K:KT):Prop:=
 NW C gl (.loop q1) ⟨[(0,v0),(3,(AI 1))],h,x⟩ (z0s 0 (seqN C gl q2 K))
theorem E_q06f {C gl q1 q2 v0 h x K}:NW C gl (zwg q1 q2) ⟨enter [v0],h,x⟩ K=zhM C gl q1 q2 v0 h x K:=by kernel_rfl
theorem e_q06f {C gl v0 h x K}:NW C gl zmE.body ⟨enter [v0],h,x⟩ K=zhM C gl z3E z6T v0 h x K:=E_q06f
def z25:ACode:=.pr [0,6,38,39] (.seq (rg [bN 40 .lss 39 38] [0,6,38,39,40])
(.seq (.cond 40 .skip
(.exit 0))
(.seq (.block 1 (.seq (rg [mV 41 39,
mV 7 41] [0,6,7,38,39])
(.seq (rg [mV 42 6,
mV 43 7,
uO 44 (.idxs 42 43),
bN 45 .lss 44 (.c (.p (.int .u8 48))),
mV 46 45,
gD 47 46 false (.mv 6),
gD 48 46 false (.mv 7),
gD 49 46 false (.idxs 47 48),
gD 50 46 false (.bin .gtr 49 (.c (.p (.int .u8 57)))),
uO 51 (.pick 46 cT 50)] [0,6,38,39,51])
(.cond 51 (.seq (rg [mV 4 (cI 0),
mV 5 cF] [4,5])
.ret)
.skip))))
(rg [bN 52 .add 39 (cI 1),
mV 39 52] [0,6,38,39]))))
def zdL (C:Hd) (gl:GL) (v0 v6 v38 v39:AV) (h:Heap) (x:Esc) (K:KT):Prop:=
 pK (oBin .lss v39 v38) fun t1=>
 z0i t1 (pK (z1I v6 v39) fun t2=>
 pK (oBin .lss t2 (.p (.int .u8 48))) fun t3=>
 gM t3 false v6 h fun t4 h5 y6=>
 gM t3 false v39 h5 fun t7 h8 y9=>
 gP t3 false (z1I t4 t7) h8 fun t10 h11 y12=>
 gP t3 false (oBin .gtr t10 (.p (.int .u8 57))) h11 fun t13 h14 y15=>
 pK (z09 t3 (AB true) t13) fun t16=>
 z0i t16 (K .ret ⟨[(4,(AI 0)),(5,(AB false))],h14,(y15++(y12++(y9++(y6++x))))⟩)
 (pK (oBin .add v39 (AI 1)) fun t17=>
 K .normal ⟨[(0,v0),(6,v6),(38,v38),(39,t17)],h14,(y15++(y12++(y9++(y6++x))))⟩))
 (K (.exit 0) ⟨[(0,v0),(6,v6),(38,v38),(39,v39),(40,t1)],h,x⟩)
theorem zos {C gl e h x K}:NW C gl z25 ⟨e,h,x⟩ K=zdL C gl (aget e 0) (aget e 6) (aget e 38) (aget e 39) h x K:=by kernel_rfl
theorem zq6 {C gl e h x K}:NW C gl (.loop z25) ⟨e,h,x⟩ K=z0Z C gl z25 K [(0,aget e 0),(6,aget e 6),(38,aget e 38),(39,aget e 39)] h x:=z0C
def z6u:ACode:=.pr [0] (.seq (rg [mV 54 0,
cL 55 z9p [54],
mV 53 55,
eX 56 53 0,
eX 57 53 1,
mV 8 56,
mV 9 57] [8,9])
(.seq (dr [dF (mV 58 8) [8],
dF (mV 59 9) [9],
dF (uO 60 (.isnil 3 false 59)) [59],
dF (mV 4 58) [58],
dF (mV 5 60) [60]] [4,5])
.ret))
def z6a (C:Hd) (gl:GL) (v0:AV) (h:Heap) (x:Esc) (K:KT):Prop:=
 C z9p [v0] h fun t1 h2 y3=>
 pK (oExt t1 0) fun t4=>
 pK (oExt t1 1) fun t5=>
 pK (z97 3 false t5) fun t6=>
 K .ret ⟨[(4,t4),(5,t6)],h2,(y3++x)⟩
theorem z6f {C gl e h x K}:NW C gl z6u ⟨e,h,x⟩ K=z6a C gl (aget e 0) h x K:=by kernel_rfl
def zv9 (q1 q2:ACode):ACode:=(.seq (rg [mV 4 (cI 0),
mV 5 cF] [0,1])
(.seq (rg [mV 10 0,
cL 11 z8b [10,(cS [45])],
mV 6 11] [0,1,6])
(.seq (.seq (rg [mV 12 6,
bN 13 .eql 12 (cS []),
mV 14 13,
gD 15 14 false (.mv 6),
gD 16 14 false (.lens 15),
gD 17 14 false (.mv 1),
gD 18 14 false (.bin .gtr 16 17),
uO 19 (.pick 14 cT 18),
mV 20 19,
gD 21 20 false (.mv 6),
gD 22 20 false (.idxs 21 (cI 0)),
gD 23 20 false (.bin .eql 22 (.c (.p (.int .u8 48)))),
gD 24 20 false (.mv 23),
gD 25 24 true (.mv 6),
gD 26 24 true (.lens 25),
gD 27 24 true (.bin .gtr 26 (cI 1)),
gD 28 24 true (.mv 27),
gD 29 28 false (.mv 0),
gD 30 28 false (.lens 29),
gD 31 28 false (.mv 6),
gD 32 28 false (.lens 31),
gD 33 28 false (.bin .gtr 30 32),
gD 34 24 true (.pick 28 cT 33),
gD 35 20 false (.pick 24 34 cF),
uO 36 (.pick 20 cT 35)] [0,6,36])
(.cond 36 (.seq (rg [mV 4 (cI 0),
mV 5 cF] [4,5])
.ret)
.skip))
(.seq (.seq (rg [mV 37 6,
uO 38 (.lens 37),
mV 39 (cI 0)] [0,6,38,39])
(.block 0 (.loop q1)))
q2))))
def zlw:AFun:=⟨2,[.t 4,.t 5],zv9 z25 z6u,false,false⟩
def z5Z (C:Hd) (gl:GL) (q1 q2:ACode) (v0 v1:AV) (h:Heap) (x:Esc) (K:KT):Prop:=
 C z8b [v0,(.p (.str [45]))] h fun t1 h2 y3=>
 pK (oBin .eql t1 (.p (.str []))) fun t4=>
 gM t4 false t1 h2 fun t5 h6 y7=>
 gP t4 false (z06 t5) h6 fun t8 h9 y10=>
 gM t4 false v1 h9 fun t11 h12 y13=>
 gP t4 false (oBin .gtr t8 t11) h12 fun t14 h15 y16=>
 pK (z09 t4 (AB true) t14) fun t17=>
 gM t17 false t1 h15 fun t18 h19 y20=>
 gP t17 false (z1I t18 (AI 0)) h19 fun t21 h22 y23=>
 gP t17 false (oBin .eql t21 (.p (.int .u8 48))) h22 fun t24 h25 y26=>
 gM t17 false t24 h25 fun t27 h28 y29=>
 gM t27 true t1 h28 fun t30 h31 y32=>
 gP t27 true (z06 t30) h31 fun t33 h34 y35=>
 gP t27 true (oBin .gtr t33 (AI 1)) h34 fun t36 h37 y38=>
 gM t27 true t36 h37 fun t39 h40 y41=>
 gM t39 false v0 h40 fun t42 h43 y44=>
 gP t39 false (z06 t42) h43 fun t45 h46 y47=>
 gM t39 false t1 h46 fun t48 h49 y50=>
 gP t39 false (z06 t48) h49 fun t51 h52 y53=>
 gP t39 false (oBin .gtr t45 t51) h52 fun t54 h55 y56=>
 gP t27 true (z09 t39 (AB true) t54) h55 fun t57 h58 y59=>
 gP t17 false (z09 t27 t57 (AB false)) h58 fun t60 h61 y62=>
 pK (z09 t17 (AB true) t60) fun t63=>
 z0i t63 (K .ret ⟨[(4,(AI 0)),(5,(AB false))],h61,(y62++(y59++(y56++(y53++(y50++(y47++(y44++(y41++(y38++(y35++(y32++(y29++(y26++(y23++(y20++(y16++(y13++(y10++(y7++(y3++x))))))))))))))))))))⟩)
 (pK (z06 t1) fun t64=>
 NW C gl (.loop q1) ⟨[(0,v0),(6,t1),(38,t64),(39,(AI 0))],h61,(y62++(y59++(y56++(y53++(y50++(y47++(y44++(y41++(y38++(y35++(y32++(y29++(y26++(y23++(y20++(y16++(y13++(y10++(y7++(y3++x))))))))))))))))))))⟩ (z0s 0 (seqN C gl q2 K)))
theorem E_q008 {C gl q1 q2 v0 v1 h x K}:NW C gl (zv9 q1 q2) ⟨enter [v0,v1],h,x⟩ K=z5Z C gl q1 q2 v0 v1 h x K:=by kernel_rfl
theorem e_q008 {C gl v0 v1 h x K}:NW C gl zlw.body ⟨enter [v0,v1],h,x⟩ K=z5Z C gl z25 z6u v0 v1 h x K:=E_q008
def P_q054:ACode:=(.seq (rg [mV 4 (cS []),
mV 5 (cS []),
mV 6 cF] [0,1])
(.seq (rg [mV 7 0,
mV 8 1,
cL 9 z9m [7,8],
eX 10 9 0,
eX 11 9 1,
eX 12 9 2,
mV 4 10,
mV 5 11,
mV 6 12] [4,5,6])
.ret))
def zmv:AFun:=⟨2,[.t 4,.t 5,.t 6],P_q054,false,false⟩
def zhI (C:Hd) (gl:GL) (v0 v1:AV) (h:Heap) (x:Esc) (K:KT):Prop:=
 C z9m [v0,v1] h fun t1 h2 y3=>
 pK (oExt t1 0) fun t4=>
 pK (oExt t1 1) fun t5=>
 pK (oExt t1 2) fun t6=>
 K .ret ⟨[(4,t4),(5,t5),(6,t6)],h2,(y3++x)⟩
theorem e_q054 {C gl v0 v1 h x K}:NW C gl zmv.body ⟨enter [v0,v1],h,x⟩ K=zhI C gl v0 v1 h x K:=by kernel_rfl
def P_q03c:ACode:=(.seq (rg [mV 2 (.c (.p (.sl none []))),
mV 3 cF] [0])
(.seq (rg [mV 5 0,
cL 6 z57 [5,(cS [32])],
mV 4 6] [4])
(.seq (rg [mV 7 4,
mV 8 4,
cL 9 z7Y [8,(cS [])],
uO 10 (.un .not 9),
mV 2 7,
mV 3 10] [2,3])
.ret)))
def zlY:AFun:=⟨1,[.t 2,.t 3],P_q03c,false,false⟩
def znH (C:Hd) (gl:GL) (v0:AV) (h:Heap) (x:Esc) (K:KT):Prop:=
 C z57 [v0,(.p (.str [32]))] h fun t1 h2 y3=>
 C z7Y [t1,(.p (.str []))] h2 fun t4 h5 y6=>
 pK (oUn .not t4) fun t7=>
 K .ret ⟨[(2,t1),(3,t7)],h5,(y6++(y3++x))⟩
theorem e_q03c {C gl v0 h x K}:NW C gl zlY.body ⟨enter [v0],h,x⟩ K=znH C gl v0 h x K:=by kernel_rfl
def z3B:ACode:=.pr [0,1,7,8] (.seq (rg [bN 9 .lss 8 7] [0,1,7,8,9])
(.seq (.cond 9 .skip
(.exit 0))
(.seq (.block 1 (.seq (rg [mV 10 8,
mV 5 10] [0,1,5,7,8])
(.seq (rg [mV 11 1,
mV 12 0,
mV 13 5,
iA 14 none 12 13,
lD 15 none 14,
bN 16 .eql 11 15] [0,1,5,7,8,16])
(.cond 16 (.seq (rg [mV 17 5,
mV 4 17] [4])
.ret)
.skip))))
(rg [bN 18 .add 8 (cI 1),
mV 8 18] [0,1,7,8]))))
def ze9 (C:Hd) (gl:GL) (v0 v1 v7 v8:AV) (h:Heap) (x:Esc) (K:KT):Prop:=
 pK (oBin .lss v8 v7) fun t1=>
 z0i t1 (pK (z0r none v0 v8 h) fun t2=>
 pK (z0e none t2 h) fun t3=>
 pK (oBin .eql v1 t3) fun t4=>
 z0i t4 (K .ret ⟨[(4,v8)],h,x⟩)
 (pK (oBin .add v8 (AI 1)) fun t5=>
 K .normal ⟨[(0,v0),(1,v1),(7,v7),(8,t5)],h,x⟩))
 (K (.exit 0) ⟨[(0,v0),(1,v1),(7,v7),(8,v8),(9,t1)],h,x⟩)
theorem zpt {C gl e h x K}:NW C gl z3B ⟨e,h,x⟩ K=ze9 C gl (aget e 0) (aget e 1) (aget e 7) (aget e 8) h x K:=by kernel_rfl
theorem zqU {C gl e h x K}:NW C gl (.loop z3B) ⟨e,h,x⟩ K=z0Z C gl z3B K [(0,aget e 0),(1,aget e 1),(7,aget e 7),(8,aget e 8)] h x:=z0C
def z6M:ACode:=.pr [] (.seq (rg [mV 4 (cI (-1))] [4])
.ret)
def zeA (C:Hd) (gl:GL) (h:Heap) (x:Esc) (K:KT):Prop:=
 K .ret ⟨[(4,(AI (-1)))],h,x⟩
theorem zpu {C gl e h x K}:NW C gl z6M ⟨e,h,x⟩ K=zeA C gl h x K:=by kernel_rfl
def zvZ (q1 q2:ACode):ACode:=(.seq (rg [mV 4 (cI 0)] [0,1])
(.seq (.seq (rg [mV 6 0,
lN 7 6,
mV 8 (cI 0)] [0,1,7,8])
(.block 0 (.loop q1)))
q2))
def zmq:AFun:=⟨2,[.t 4],zvZ z3B z6M,true,false⟩
def zhF (C:Hd) (gl:GL) (q1 q2:ACode) (v0 v1:AV) (h:Heap) (x:Esc) (K:KT):Prop:=
 pK (oLen v0) fun t1=>
 NW C gl (.loop q1) ⟨[(0,v0),(1,v1),(7,t1),(8,(AI 0))],h,x⟩ (z0s 0 (seqN C gl q2 K))
theorem E_q045 {C gl q1 q2 v0 v1 h x K}:NW C gl (zvZ q1 q2) ⟨enter [v0,v1],h,x⟩ K=zhF C gl q1 q2 v0 v1 h x K:=by kernel_rfl
theorem e_q045 {C gl v0 v1 h x K}:NW C gl zmq.body ⟨enter [v0,v1],h,x⟩ K=zhF C gl z3B z6M v0 v1 h x K:=E_q045
def P_q037:ACode:=(.seq (rg [mV 4 (cI 0),
mV 5 cF] [0,1])
(.seq (rg [mV 9 0,
cL 10 z8b [9,(cS [45])],
mV 6 10] [0,1,6])
(.seq (.seq (rg [mV 11 6,
bN 12 .eql 11 (cS []),
mV 13 12,
gD 14 13 false (.mv 6),
gD 15 13 false (.lens 14),
gD 16 13 false (.mv 1),
gD 17 13 false (.bin .gtr 15 16),
uO 18 (.pick 13 cT 17),
mV 19 18,
gD 20 19 false (.mv 6),
gD 21 19 false (.call z7U [20,(cS [48,49,50,51,52,53,54,55,56,57])]),
gD 22 19 false (.un .not 21),
uO 23 (.pick 19 cT 22)] [0,23])
(.cond 23 (.seq (rg [mV 4 (cI 0),
mV 5 cF] [4,5])
.ret)
.skip))
(.seq (rg [mV 25 0,
cL 26 z9p [25],
mV 24 26,
eX 27 24 0,
eX 28 24 1,
mV 7 27,
mV 8 28] [0,7,8])
(.seq (rg [mV 29 7,
mV 30 8,
uO 31 (.isnil 3 false 30),
mV 32 31,
gD 33 32 true (.mv 7),
gD 34 32 true (.call z8a [33]),
gD 35 32 true (.mv 0),
gD 36 32 true (.bin .eql 34 35),
uO 37 (.pick 32 36 cF),
mV 4 29,
mV 5 37] [4,5])
.ret)))))
def zlV:AFun:=⟨2,[.t 4,.t 5],P_q037,false,false⟩
def zaE (C:Hd) (gl:GL) (v0 v1:AV) (h:Heap) (x:Esc) (K:KT):Prop:=
 C z8b [v0,(.p (.str [45]))] h fun t1 h2 y3=>
 pK (oBin .eql t1 (.p (.str []))) fun t4=>
 gM t4 false t1 h2 fun t5 h6 y7=>
 gP t4 false (z06 t5) h6 fun t8 h9 y10=>
 gM t4 false v1 h9 fun t11 h12 y13=>
 gP t4 false (oBin .gtr t8 t11) h12 fun t14 h15 y16=>
 pK (z09 t4 (AB true) t14) fun t17=>
 gM t17 false t1 h15 fun t18 h19 y20=>
 gV t17 false h19 (C z7U [t18,(.p (.str [48,49,50,51,52,53,54,55,56,57]))] h19) fun t21 h22 y23=>
 gP t17 false (oUn .not t21) h22 fun t24 h25 y26=>
 pK (z09 t17 (AB true) t24) fun t27=>
 z0i t27 (K .ret ⟨[(4,(AI 0)),(5,(AB false))],h25,(y26++(y23++(y20++(y16++(y13++(y10++(y7++(y3++x))))))))⟩)
 (C z9p [v0] h25 fun t28 h29 y30=>
 pK (oExt t28 0) fun t31=>
 pK (oExt t28 1) fun t32=>
 pK (z97 3 false t32) fun t33=>
 gM t33 true t31 h29 fun t34 h35 y36=>
 gV t33 true h35 (C z8a [t34] h35) fun t37 h38 y39=>
 gM t33 true v0 h38 fun t40 h41 y42=>
 gP t33 true (oBin .eql t37 t40) h41 fun t43 h44 y45=>
 pK (z09 t33 t43 (AB false)) fun t46=>
 K .ret ⟨[(4,t31),(5,t46)],h44,(y45++(y42++(y39++(y36++(y30++(y26++(y23++(y20++(y16++(y13++(y10++(y7++(y3++x)))))))))))))⟩)
theorem e_q037 {C gl v0 v1 h x K}:NW C gl zlV.body ⟨enter [v0,v1],h,x⟩ K=zaE C gl v0 v1 h x K:=by kernel_rfl
def P_q06q:ACode:=(.seq (rg [mV 2 cF] [0])
(.seq (rg [mV 3 0,
bN 4 .eql 3 (cI 0),
mV 5 4,
gD 6 5 false (.mv 0),
gD 7 5 false (.bin .eql 6 (cI 1)),
uO 8 (.pick 5 cT 7),
mV 9 8,
gD 10 9 false (.mv 0),
gD 11 9 false (.bin .eql 10 (cI 6)),
uO 12 (.pick 9 cT 11),
mV 13 12,
gD 14 13 false (.mv 0),
gD 15 13 false (.bin .eql 14 (cI 13)),
uO 16 (.pick 13 cT 15),
mV 2 16] [2])
.ret))
def zmO:AFun:=⟨1,[.t 2],P_q06q,false,false⟩
def z9h (C:Hd) (gl:GL) (v0:AV) (h:Heap) (x:Esc) (K:KT):Prop:=
 pK (oBin .eql v0 (AI 0)) fun t1=>
 gM t1 false v0 h fun t2 h3 y4=>
 gP t1 false (oBin .eql t2 (AI 1)) h3 fun t5 h6 y7=>
 pK (z09 t1 (AB true) t5) fun t8=>
 gM t8 false v0 h6 fun t9 h10 y11=>
 gP t8 false (oBin .eql t9 (AI 6)) h10 fun t12 h13 y14=>
 pK (z09 t8 (AB true) t12) fun t15=>
 gM t15 false v0 h13 fun t16 h17 y18=>
 gP t15 false (oBin .eql t16 (AI 13)) h17 fun t19 h20 y21=>
 pK (z09 t15 (AB true) t19) fun t22=>
 K .ret ⟨[(2,t22)],h20,(y21++(y18++(y14++(y11++(y7++(y4++x))))))⟩
theorem e_q06q {C gl v0 h x K}:NW C gl zmO.body ⟨enter [v0],h,x⟩ K=z9h C gl v0 h x K:=by kernel_rfl
def P_q06n:ACode:=(.seq (rg [uO 1 (.box 0),
mV 2 (cI 0)] [1])
(.seq (.block 0 (.seq (rg [fA 4 3 none 1,
lD 5 none 4,
bN 6 .eql 5 (cS []),
mV 3 6] [1,3])
(.cond 3 (.seq (rg [mV 2 (cI 8)] [2])
.ret)
(.seq (rg [fA 8 3 none 1,
lD 9 none 8,
cL 10 z4g [9],
uO 11 (.un .not 10),
mV 7 11] [1,7])
(.cond 7 (.seq (rg [mV 2 (cI 9)] [2])
.ret)
(.seq (rg [fA 13 3 none 1,
lD 14 none 13,
uO 15 (.lens 14),
bN 16 .gtr 15 (cI 2000),
mV 12 16] [1,12])
(.cond 12 (.seq (rg [mV 2 (cI 2)] [2])
.ret)
(.seq (rg [fA 18 4 none 1,
lD 19 none 18,
bN 20 .neq 19 (cS []),
mV 21 20,
gD 22 21 true (.faddr 4 none 1),
gD 23 21 true (.load none 22),
gD 24 21 true (.lens 23),
gD 25 21 true (.faddr 3 none 1),
gD 26 21 true (.load none 25),
gD 27 21 true (.lens 26),
gD 28 21 true (.bin .neq 24 27),
gD 29 21 true (.mv 28),
gD 30 29 false (.faddr 5 none 1),
gD 31 29 false (.load none 30),
gD 32 29 false (.lens 31),
gD 33 29 false (.faddr 3 none 1),
gD 34 29 false (.load none 33),
gD 35 29 false (.lens 34),
gD 36 29 false (.bin .neq 32 35),
gD 37 21 true (.pick 29 cT 36),
uO 38 (.pick 21 37 cF),
mV 17 38] [1,17])
(.cond 17 (.seq (rg [mV 2 (cI 3)] [2])
.ret)
(.seq (rg [fA 40 4 none 1,
lD 41 none 40,
cL 42 z4g [41],
uO 43 (.un .not 42),
mV 44 43,
gD 45 44 false (.faddr 5 none 1),
gD 46 44 false (.load none 45),
gD 47 44 false (.call z4g [46]),
gD 48 44 false (.un .not 47),
uO 49 (.pick 44 cT 48),
mV 39 49] [1,39])
(.cond 39 (.seq (rg [mV 2 (cI 9)] [2])
.ret)
(.seq (rg [fA 51 4 none 1,
lD 52 none 51,
bN 53 .eql 52 (cS []),
mV 54 53,
gD 55 54 true (.faddr 5 none 1),
gD 56 54 true (.load none 55),
gD 57 54 true (.bin .neq 56 (cS [])),
uO 58 (.pick 54 57 cF),
mV 50 58] [50])
(.cond 50 (.seq (rg [mV 2 (cI 3)] [2])
.ret)
.skip)))))))))))))
(.seq (rg [mV 2 (cI 0)] [2])
.ret)))
def zmM:AFun:=⟨1,[.t 2],P_q06n,false,false⟩
def z3l (C:Hd) (gl:GL) (v0:AV) (h:Heap) (x:Esc) (K:KT):Prop:=
 wK (oBox v0 h) fun t1 h2 y3=>
 pK (z0d 3 none t1) fun t4=>
 pK (z0e none t4 h2) fun t5=>
 pK (oBin .eql t5 (.p (.str []))) fun t6=>
 z0i t6 (K .ret ⟨[(2,(AI 8))],h2,(y3++x)⟩)
 (pK (z0d 3 none t1) fun t7=>
 pK (z0e none t7 h2) fun t8=>
 C z4g [t8] h2 fun t9 h10 y11=>
 pK (oUn .not t9) fun t12=>
 z0i t12 (K .ret ⟨[(2,(AI 9))],h10,(y11++(y3++x))⟩)
 (pK (z0d 3 none t1) fun t13=>
 pK (z0e none t13 h10) fun t14=>
 pK (z06 t14) fun t15=>
 pK (oBin .gtr t15 (AI 2000)) fun t16=>
 z0i t16 (K .ret ⟨[(2,(AI 2))],h10,(y11++(y3++x))⟩)
 (pK (z0d 4 none t1) fun t17=>
 pK (z0e none t17 h10) fun t18=>
 pK (oBin .neq t18 (.p (.str []))) fun t19=>
 gP t19 true (z0d 4 none t1) h10 fun t20 h21 y22=>
 gP t19 true (z0e none t20 h21) h21 fun t23 h24 y25=>
 gP t19 true (z06 t23) h24 fun t26 h27 y28=>
 gP t19 true (z0d 3 none t1) h27 fun t29 h30 y31=>
 gP t19 true (z0e none t29 h30) h30 fun t32 h33 y34=>
 gP t19 true (z06 t32) h33 fun t35 h36 y37=>
 gP t19 true (oBin .neq t26 t35) h36 fun t38 h39 y40=>
 gM t19 true t38 h39 fun t41 h42 y43=>
 gP t41 false (z0d 5 none t1) h42 fun t44 h45 y46=>
 gP t41 false (z0e none t44 h45) h45 fun t47 h48 y49=>
 gP t41 false (z06 t47) h48 fun t50 h51 y52=>
 gP t41 false (z0d 3 none t1) h51 fun t53 h54 y55=>
 gP t41 false (z0e none t53 h54) h54 fun t56 h57 y58=>
 gP t41 false (z06 t56) h57 fun t59 h60 y61=>
 gP t41 false (oBin .neq t50 t59) h60 fun t62 h63 y64=>
 gP t19 true (z09 t41 (AB true) t62) h63 fun t65 h66 y67=>
 pK (z09 t19 t65 (AB false)) fun t68=>
 z0i t68 (K .ret ⟨[(2,(AI 3))],h66,(y67++(y64++(y61++(y58++(y55++(y52++(y49++(y46++(y43++(y40++(y37++(y34++(y31++(y28++(y25++(y22++(y11++(y3++x))))))))))))))))))⟩)
 (pK (z0d 4 none t1) fun t69=>
 pK (z0e none t69 h66) fun t70=>
 C z4g [t70] h66 fun t71 h72 y73=>
 pK (oUn .not t71) fun t74=>
 gP t74 false (z0d 5 none t1) h72 fun t75 h76 y77=>
 gP t74 false (z0e none t75 h76) h76 fun t78 h79 y80=>
 gV t74 false h79 (C z4g [t78] h79) fun t81 h82 y83=>
 gP t74 false (oUn .not t81) h82 fun t84 h85 y86=>
 pK (z09 t74 (AB true) t84) fun t87=>
 z0i t87 (K .ret ⟨[(2,(AI 9))],h85,(y86++(y83++(y80++(y77++(y73++(y67++(y64++(y61++(y58++(y55++(y52++(y49++(y46++(y43++(y40++(y37++(y34++(y31++(y28++(y25++(y22++(y11++(y3++x)))))))))))))))))))))))⟩)
 (pK (z0d 4 none t1) fun t88=>
 pK (z0e none t88 h85) fun t89=>
 pK (oBin .eql t89 (.p (.str []))) fun t90=>
 gP t90 true (z0d 5 none t1) h85 fun t91 h92 y93=>
 gP t90 true (z0e none t91 h92) h92 fun t94 h95 y96=>
 gP t90 true (oBin .neq t94 (.p (.str []))) h95 fun t97 h98 y99=>
 pK (z09 t90 t97 (AB false)) fun t100=>
 z0i t100 (K .ret ⟨[(2,(AI 3))],h98,(y99++(y96++(y93++(y86++(y83++(y80++(y77++(y73++(y67++(y64++(y61++(y58++(y55++(y52++(y49++(y46++(y43++(y40++(y37++(y34++(y31++(y28++(y25++(y22++(y11++(y3++x))))))))))))))))))))))))))⟩)
 (K .ret ⟨[(2,(AI 0))],h98,(y99++(y96++(y93++(y86++(y83++(y80++(y77++(y73++(y67++(y64++(y61++(y58++(y55++(y52++(y49++(y46++(y43++(y40++(y37++(y34++(y31++(y28++(y25++(y22++(y11++(y3++x))))))))))))))))))))))))))⟩))))))
theorem e_q06n {C gl v0 h x K}:NW C gl zmM.body ⟨enter [v0],h,x⟩ K=z3l C gl v0 h x K:=by kernel_rfl
def P_q000:ACode:=(.seq (rg [mV 2 cF] [0])
(.seq (rg [mV 3 0,
cL 4 zhW [3,(cS [48,49])],
bN 5 .eql 4 (cS []),
mV 2 5] [2])
.ret))
def zlt:AFun:=⟨1,[.t 2],P_q000,false,false⟩
def zn5 (C:Hd) (gl:GL) (v0:AV) (h:Heap) (x:Esc) (K:KT):Prop:=
 C zhW [v0,(.p (.str [48,49]))] h fun t1 h2 y3=>
 pK (oBin .eql t1 (.p (.str []))) fun t4=>
 K .ret ⟨[(2,t4)],h2,(y3++x)⟩
theorem e_q000 {C gl v0 h x K}:NW C gl zlt.body ⟨enter [v0],h,x⟩ K=zn5 C gl v0 h x K:=by kernel_rfl
def P_q05p:ACode:=(.seq (rg [mV 4 (cS []),
mV 5 (cI 0)] [0,1])
(.seq (.seq (rg [mV 6 0,
cL 7 z8c [6],
uO 8 (.un .not 7),
mV 9 8,
gD 10 9 false (.mv 1),
gD 11 9 false (.call z8c [10]),
gD 12 9 false (.un .not 11),
uO 13 (.pick 9 cT 12)] [0,1,13])
(.cond 13 (.seq (rg [mV 4 (cS []),
mV 5 (cI 1)] [4,5])
.ret)
.skip))
(.seq (rg [mV 14 0,
mV 15 1,
cL 16 z9s [14,15],
mV 4 16,
mV 5 (cI 0)] [4,5])
.ret)))
def zm3:AFun:=⟨2,[.t 4,.t 5],P_q05p,false,false⟩
def znX (C:Hd) (gl:GL) (v0 v1:AV) (h:Heap) (x:Esc) (K:KT):Prop:=
 C z8c [v0] h fun t1 h2 y3=>
 pK (oUn .not t1) fun t4=>
 gM t4 false v1 h2 fun t5 h6 y7=>
 gV t4 false h6 (C z8c [t5] h6) fun t8 h9 y10=>
 gP t4 false (oUn .not t8) h9 fun t11 h12 y13=>
 pK (z09 t4 (AB true) t11) fun t14=>
 z0i t14 (K .ret ⟨[(4,(.p (.str []))),(5,(AI 1))],h12,(y13++(y10++(y7++(y3++x))))⟩)
 (C z9s [v0,v1] h12 fun t15 h16 y17=>
 K .ret ⟨[(4,t15),(5,(AI 0))],h16,(y17++(y13++(y10++(y7++(y3++x)))))⟩)
theorem e_q05p {C gl v0 v1 h x K}:NW C gl zm3.body ⟨enter [v0,v1],h,x⟩ K=znX C gl v0 v1 h x K:=by kernel_rfl
def P_q01w:ACode:=(.seq (rg [mV 4 (cI 0)] [0,1])
(.seq (rg [mV 5 0,
mV 6 1,
cL 7 z0n [5,6],
mV 4 7] [4])
.ret))
def zl6:AFun:=⟨2,[.t 4],P_q01w,false,false⟩
def zhv (C:Hd) (gl:GL) (v0 v1:AV) (h:Heap) (x:Esc) (K:KT):Prop:=
 C z0n [v0,v1] h fun t1 h2 y3=>
 K .ret ⟨[(4,t1)],h2,(y3++x)⟩
theorem e_q01w {C gl v0 v1 h x K}:NW C gl zl6.body ⟨enter [v0,v1],h,x⟩ K=zhv C gl v0 v1 h x K:=by kernel_rfl
def P_q019:ACode:=(.seq (rg [mV 2 (cI 0)] [0])
(.seq (rg [mV 3 0,
bN 4 .add 3 (cI 16),
bN 5 .quo 4 (cI 8),
mV 2 5] [2])
.ret))
def zly:AFun:=⟨1,[.t 2],P_q019,false,false⟩
def zwz (C:Hd) (gl:GL) (v0:AV) (h:Heap) (x:Esc) (K:KT):Prop:=
 pK (oBin .add v0 (AI 16)) fun t1=>
 pK (oBin .quo t1 (AI 8)) fun t2=>
 K .ret ⟨[(2,t2)],h,x⟩
theorem e_q019 {C gl v0 h x K}:NW C gl zly.body ⟨enter [v0],h,x⟩ K=zwz C gl v0 h x K:=by kernel_rfl
def z3q:ACode:=.pr [0,1,5,6,7,8,9] (.seq (.seq (rg [mV 18 9,
mV 19 7,
bN 20 .lss 18 19] [0,1,5,6,7,8,9,20])
(.cond 20 .skip
(.exit 0)))
(.seq (.block 1 (rg [mV 23 8,
bN 24 .mul 23 (.c (.p (.int .u32 16777619))),
mV 25 0,
mV 26 9,
uO 27 (.idxs 25 26),
uO 28 (.conv (.i .u32) 27),
bN 29 .add 24 28,
mV 8 29] [0,1,5,6,7,8,9]))
(rg [mV 21 9,
bN 22 .add 21 (cI 1),
mV 9 22] [0,1,5,6,7,8,9])))
def zdM (C:Hd) (gl:GL) (v0 v1 v5 v6 v7 v8 v9:AV) (h:Heap) (x:Esc) (K:KT):Prop:=
 pK (oBin .lss v9 v7) fun t1=>
 z0i t1 (pK (oBin .mul v8 (.p (.int .u32 16777619))) fun t2=>
 pK (z1I v0 v9) fun t3=>
 pK (z1w .u32 t3) fun t4=>
 pK (oBin .add t2 t4) fun t5=>
 pK (oBin .add v9 (AI 1)) fun t6=>
 K .normal ⟨[(0,v0),(1,v1),(5,v5),(6,v6),(7,v7),(8,t5),(9,t6)],h,x⟩)
 (K (.exit 0) ⟨[(0,v0),(1,v1),(5,v5),(6,v6),(7,v7),(8,v8),(9,v9),(20,t1)],h,x⟩)
theorem zot {C gl e h x K}:NW C gl z3q ⟨e,h,x⟩ K=zdM C gl (aget e 0) (aget e 1) (aget e 5) (aget e 6) (aget e 7) (aget e 8) (aget e 9) h x K:=by kernel_rfl
theorem zq7 {C gl e h x K}:NW C gl (.loop z3q) ⟨e,h,x⟩ K=z0Z C gl z3q K [(0,aget e 0),(1,aget e 1),(5,aget e 5),(6,aget e 6),(7,aget e 7),(8,aget e 8),(9,aget e 9)] h x:=z0C
def z4B:ACode:=.pr [0,1,5,6,7,8,10] (.seq (.seq (rg [mV 41 10,
mV 42 0,
uO 43 (.lens 42),
bN 44 .lss 41 43] [0,1,5,6,7,8,10,44])
(.cond 44 .skip
(.exit 2)))
(.block 3 (.seq (rg [mV 45 8,
bN 46 .mul 45 (.c (.p (.int .u32 16777619))),
mV 8 46] [0,1,5,6,7,8,10])
(.seq (rg [mV 47 8,
mV 48 0,
mV 49 10,
uO 50 (.idxs 48 49),
uO 51 (.conv (.i .u32) 50),
bN 52 .add 47 51,
mV 8 52] [0,1,5,6,7,8,10])
(.seq (rg [mV 53 8,
mV 54 6,
mV 55 0,
mV 56 10,
mV 57 7,
bN 58 .sub 56 57,
uO 59 (.idxs 55 58),
uO 60 (.conv (.i .u32) 59),
bN 61 .mul 54 60,
bN 62 .sub 53 61,
mV 8 62] [0,1,5,6,7,8,10])
(.seq (rg [mV 63 10,
bN 64 .add 63 (cI 1),
mV 10 64] [0,1,5,6,7,8,10])
(.seq (rg [mV 65 8,
mV 66 5,
bN 67 .eql 65 66,
mV 68 67,
gD 69 68 true (.mv 0),
gD 70 68 true (.mv 10),
gD 71 68 true (.mv 7),
gD 72 68 true (.bin .sub 70 71),
gD 73 68 true (.mv 10),
gD 74 68 true (.slstr 69 (some 72) (some 73)),
gD 75 68 true (.mv 1),
gD 76 68 true (.bin .eql 74 75),
uO 77 (.pick 68 76 cF)] [0,1,5,6,7,8,10,77])
(.cond 77 (.seq (rg [mV 78 10,
mV 79 7,
bN 80 .sub 78 79,
mV 4 80] [4])
.ret)
.skip))))))))
def zdN (C:Hd) (gl:GL) (v0 v1 v5 v6 v7 v8 v10:AV) (h:Heap) (x:Esc) (K:KT):Prop:=
 pK (z06 v0) fun t1=>
 pK (oBin .lss v10 t1) fun t2=>
 z0i t2 (pK (oBin .mul v8 (.p (.int .u32 16777619))) fun t3=>
 pK (z1I v0 v10) fun t4=>
 pK (z1w .u32 t4) fun t5=>
 pK (oBin .add t3 t5) fun t6=>
 pK (oBin .sub v10 v7) fun t7=>
 pK (z1I v0 t7) fun t8=>
 pK (z1w .u32 t8) fun t9=>
 pK (oBin .mul v6 t9) fun t10=>
 pK (oBin .sub t6 t10) fun t11=>
 pK (oBin .add v10 (AI 1)) fun t12=>
 pK (oBin .eql t11 v5) fun t13=>
 gM t13 true v0 h fun t14 h15 y16=>
 gM t13 true t12 h15 fun t17 h18 y19=>
 gM t13 true v7 h18 fun t20 h21 y22=>
 gP t13 true (oBin .sub t17 t20) h21 fun t23 h24 y25=>
 gM t13 true t12 h24 fun t26 h27 y28=>
 gP t13 true (z1s t14 (some t23) (some t26)) h27 fun t29 h30 y31=>
 gM t13 true v1 h30 fun t32 h33 y34=>
 gP t13 true (oBin .eql t29 t32) h33 fun t35 h36 y37=>
 pK (z09 t13 t35 (AB false)) fun t38=>
 z0i t38 (pK (oBin .sub t12 v7) fun t39=>
 K .ret ⟨[(4,t39)],h36,(y37++(y34++(y31++(y28++(y25++(y22++(y19++(y16++x))))))))⟩)
 (K .normal ⟨[(0,v0),(1,v1),(5,v5),(6,v6),(7,v7),(8,t11),(10,t12),(77,t38)],h36,(y37++(y34++(y31++(y28++(y25++(y22++(y19++(y16++x))))))))⟩))
 (K (.exit 2) ⟨[(0,v0),(1,v1),(5,v5),(6,v6),(7,v7),(8,v8),(10,v10),(44,t2)],h,x⟩)
theorem zou {C gl e h x K}:NW C gl z4B ⟨e,h,x⟩ K=zdN C gl (aget e 0) (aget e 1) (aget e 5) (aget e 6) (aget e 7) (aget e 8) (aget e 10) h x K:=by kernel_rfl
theorem zq8 {C gl e h x K}:NW C gl (.loop z4B) ⟨e,h,x⟩ K=z0Z C gl z4B K [(0,aget e 0),(1,aget e 1),(5,aget e 5),(6,aget e 6),(7,aget e 7),(8,aget e 8),(10,aget e 10)] h x:=z0C
def z99:ACode:=.pr [] (.seq (rg [mV 4 (cI (-1))] [4])
.ret)
def zdO (C:Hd) (gl:GL) (h:Heap) (x:Esc) (K:KT):Prop:=
 K .ret ⟨[(4,(AI (-1)))],h,x⟩
theorem zov {C gl e h x K}:NW C gl z99 ⟨e,h,x⟩ K=zdO C gl h x K:=by kernel_rfl
def zdh (q2 q3:ACode):ACode:=.pr [0,1,5,6,7,8] (.seq (.seq (rg [mV 30 8,
mV 31 5,
bN 32 .eql 30 31,
mV 33 32,
gD 34 33 true (.mv 0),
gD 35 33 true (.mv 7),
gD 36 33 true (.slstr 34 none (some 35)),
gD 37 33 true (.mv 1),
gD 38 33 true (.bin .eql 36 37),
uO 39 (.pick 33 38 cF)] [0,1,5,6,7,8,39])
(.cond 39 (.seq (rg [mV 4 (cI 0)] [4])
.ret)
.skip))
(.seq (.seq (rg [mV 40 7,
mV 10 40] [0,1,5,6,7,8,10])
(.block 2 (.loop q2)))
q3))
def z6v:ACode:=zdh z4B z99
def z8N (C:Hd) (gl:GL) (q2 q3:ACode) (v0 v1 v5 v6 v7 v8:AV) (h:Heap) (x:Esc) (K:KT):Prop:=
 pK (oBin .eql v8 v5) fun t1=>
 gM t1 true v0 h fun t2 h3 y4=>
 gM t1 true v7 h3 fun t5 h6 y7=>
 gP t1 true (z1s t2 none (some t5)) h6 fun t8 h9 y10=>
 gM t1 true v1 h9 fun t11 h12 y13=>
 gP t1 true (oBin .eql t8 t11) h12 fun t14 h15 y16=>
 pK (z09 t1 t14 (AB false)) fun t17=>
 z0i t17 (K .ret ⟨[(4,(AI 0))],h15,(y16++(y13++(y10++(y7++(y4++x)))))⟩)
 (NW C gl (.loop q2) ⟨[(0,v0),(1,v1),(5,v5),(6,v6),(7,v7),(8,v8),(10,v7)],h15,(y16++(y13++(y10++(y7++(y4++x)))))⟩ (z0s 2 (seqN C gl q3 K)))
theorem zkS {C gl q2 q3 e h x K}:NW C gl (zdh q2 q3) ⟨e,h,x⟩ K=z8N C gl q2 q3 (aget e 0) (aget e 1) (aget e 5) (aget e 6) (aget e 7) (aget e 8) h x K:=by kernel_rfl
theorem zow {C gl e h x K}:NW C gl z6v ⟨e,h,x⟩ K=z8N C gl z4B z99 (aget e 0) (aget e 1) (aget e 5) (aget e 6) (aget e 7) (aget e 8) h x K:=zkS
def zvA (q1 q4:ACode):ACode:=(.seq (rg [mV 4 (cI 0)] [0,1])
(.seq (rg [mV 12 1,
cL 13 zfr [12],
mV 11 13,
eX 14 11 0,
eX 15 11 1,
mV 5 14,
mV 6 15] [0,1,5,6])
(.seq (rg [mV 16 1,
uO 17 (.lens 16),
mV 7 17] [0,1,5,6,7])
(.seq (rg [mV 8 (.c (.p (.int .u32 0)))] [0,1,5,6,7,8])
(.seq (.seq (rg [mV 9 (cI 0)] [0,1,5,6,7,8,9])
(.block 0 (.loop q1)))
q4)))))
def zlz:AFun:=⟨2,[.t 4],zvA z3q z6v,false,false⟩
def zn7 (C:Hd) (gl:GL) (q1 q4:ACode) (v0 v1:AV) (h:Heap) (x:Esc) (K:KT):Prop:=
 C zfr [v1] h fun t1 h2 y3=>
 pK (oExt t1 0) fun t4=>
 pK (oExt t1 1) fun t5=>
 pK (z06 v1) fun t6=>
 NW C gl (.loop q1) ⟨[(0,v0),(1,v1),(5,t4),(6,t5),(7,t6),(8,(.p (.int .u32 0))),(9,(AI 0))],h2,(y3++x)⟩ (z0s 0 (seqN C gl q4 K))
theorem E_q01a {C gl q1 q4 v0 v1 h x K}:NW C gl (zvA q1 q4) ⟨enter [v0,v1],h,x⟩ K=zn7 C gl q1 q4 v0 v1 h x K:=by kernel_rfl
theorem e_q01a {C gl v0 v1 h x K}:NW C gl zlz.body ⟨enter [v0,v1],h,x⟩ K=zn7 C gl z3q z6v v0 v1 h x K:=E_q01a
def P_q01t:ACode:=(.seq (rg [mV 4 cF] [0,1])
(.seq (rg [mV 5 0,
uO 6 (.lens 5),
mV 7 1,
uO 8 (.lens 7),
bN 9 .geq 6 8,
mV 10 9,
gD 11 10 true (.mv 0),
gD 12 10 true (.mv 1),
gD 13 10 true (.lens 12),
gD 14 10 true (.slstr 11 none (some 13)),
gD 15 10 true (.mv 1),
gD 16 10 true (.bin .eql 14 15),
uO 17 (.pick 10 16 cF),
mV 4 17] [4])
.ret))
def zl3:AFun:=⟨2,[.t 4],P_q01t,false,false⟩
def zhs (C:Hd) (gl:GL) (v0 v1:AV) (h:Heap) (x:Esc) (K:KT):Prop:=
 pK (z06 v0) fun t1=>
 pK (z06 v1) fun t2=>
 pK (oBin .geq t1 t2) fun t3=>
 gM t3 true v0 h fun t4 h5 y6=>
 gM t3 true v1 h5 fun t7 h8 y9=>
 gP t3 true (z06 t7) h8 fun t10 h11 y12=>
 gP t3 true (z1s t4 none (some t10)) h11 fun t13 h14 y15=>
 gM t3 true v1 h14 fun t16 h17 y18=>
 gP t3 true (oBin .eql t13 t16) h17 fun t19 h20 y21=>
 pK (z09 t3 t19 (AB false)) fun t22=>
 K .ret ⟨[(4,t22)],h20,(y21++(y18++(y15++(y12++(y9++(y6++x))))))⟩
theorem e_q01t {C gl v0 v1 h x K}:NW C gl zl3.body ⟨enter [v0,v1],h,x⟩ K=zhs C gl v0 v1 h x K:=by kernel_rfl
def P_q03x:ACode:=(.seq (rg [mV 4 cF] [0,1])
(.seq (rg [mV 5 0,
mV 6 1,
cL 7 z7Z [5,6],
bN 8 .geq 7 (cI 0),
mV 4 8] [4])
.ret))
def zmm:AFun:=⟨2,[.t 4],P_q03x,true,false⟩
def znN (C:Hd) (gl:GL) (v0 v1:AV) (h:Heap) (x:Esc) (K:KT):Prop:=
 C z7Z [v0,v1] h fun t1 h2 y3=>
 pK (oBin .geq t1 (AI 0)) fun t4=>
 K .ret ⟨[(4,t4)],h2,(y3++x)⟩
theorem e_q03x {C gl v0 v1 h x K}:NW C gl zmm.body ⟨enter [v0,v1],h,x⟩ K=znN C gl v0 v1 h x K:=by kernel_rfl
def z36:ACode:=.pr [0,1,7,8] (.seq (rg [bN 9 .lss 8 7] [0,1,7,8,9])
(.seq (.cond 9 .skip
(.exit 0))
(.seq (.block 1 (.seq (rg [mV 10 8,
mV 5 10] [0,1,5,7,8])
(.seq (rg [mV 11 1,
mV 12 0,
mV 13 5,
uO 14 (.idxs 12 13),
cL 15 zbl [11,14],
bN 16 .lss 15 (cI 0)] [0,1,7,8,16])
(.cond 16 (.seq (rg [mV 4 cF] [4])
.ret)
.skip))))
(rg [bN 17 .add 8 (cI 1),
mV 8 17] [0,1,7,8]))))
def ze0 (C:Hd) (gl:GL) (v0 v1 v7 v8:AV) (h:Heap) (x:Esc) (K:KT):Prop:=
 pK (oBin .lss v8 v7) fun t1=>
 z0i t1 (pK (z1I v0 v8) fun t2=>
 C zbl [v1,t2] h fun t3 h4 y5=>
 pK (oBin .lss t3 (AI 0)) fun t6=>
 z0i t6 (K .ret ⟨[(4,(AB false))],h4,(y5++x)⟩)
 (pK (oBin .add v8 (AI 1)) fun t7=>
 K .normal ⟨[(0,v0),(1,v1),(7,v7),(8,t7)],h4,(y5++x)⟩))
 (K (.exit 0) ⟨[(0,v0),(1,v1),(7,v7),(8,v8),(9,t1)],h,x⟩)
theorem zpi {C gl e h x K}:NW C gl z36 ⟨e,h,x⟩ K=ze0 C gl (aget e 0) (aget e 1) (aget e 7) (aget e 8) h x K:=by kernel_rfl
theorem zqQ {C gl e h x K}:NW C gl (.loop z36) ⟨e,h,x⟩ K=z0Z C gl z36 K [(0,aget e 0),(1,aget e 1),(7,aget e 7),(8,aget e 8)] h x:=z0C
def z6G:ACode:=.pr [] (.seq (rg [mV 4 cT] [4])
.ret)
def ze1 (C:Hd) (gl:GL) (h:Heap) (x:Esc) (K:KT):Prop:=
 K .ret ⟨[(4,(AB true))],h,x⟩
theorem zpj {C gl e h x K}:NW C gl z6G ⟨e,h,x⟩ K=ze1 C gl h x K:=by kernel_rfl
def zvU (q1 q2:ACode):ACode:=(.seq (rg [mV 4 cF] [0,1])
(.seq (.seq (rg [mV 6 0,
uO 7 (.lens 6),
mV 8 (cI 0)] [0,1,7,8])
(.block 0 (.loop q1)))
q2))
def zmg:AFun:=⟨2,[.t 4],zvU z36 z6G,false,false⟩
def zhC (C:Hd) (gl:GL) (q1 q2:ACode) (v0 v1:AV) (h:Heap) (x:Esc) (K:KT):Prop:=
 pK (z06 v0) fun t1=>
 NW C gl (.loop q1) ⟨[(0,v0),(1,v1),(7,t1),(8,(AI 0))],h,x⟩ (z0s 0 (seqN C gl q2 K))
theorem E_q03k {C gl q1 q2 v0 v1 h x K}:NW C gl (zvU q1 q2) ⟨enter [v0,v1],h,x⟩ K=zhC C gl q1 q2 v0 v1 h x K:=by kernel_rfl
theorem e_q03k {C gl v0 v1 h x K}:NW C gl zmg.body ⟨enter [v0,v1],h,x⟩ K=zhC C gl z36 z6G v0 v1 h x K:=E_q03k
def z9M:ACode:=.pr [0,1,2,6,7,8,9,10,11] (.seq (dr [dF (mV 54 0) [0],
dF (mV 55 1) [1],
dF (mV 56 11) [11],
dF (iA 57 none 56 (cI 0)) [56],
dF (lD 58 none 57) [57],
dT (cL 59 z7V [54,55,58]) [54,55,58],
dF (uO 60 (.field 3 none 59)) [59],
dF (mV 61 0) [0],
dF (mV 62 1) [1],
dF (mV 63 11) [11],
dA (iA 64 none 63 (cI 1)) [63] false [5] [],
dA (lD 65 none 64) [64] false [5] [],
dT (cL 66 z7V [61,62,65]) [61,62,65],
dF (uO 67 (.field 3 none 66)) [66],
dF (mV 68 0) [0],
dF (mV 69 1) [1],
dF (mV 70 11) [11],
dA (iA 71 none 70 (cI 2)) [70] false [5,12] [],
dA (lD 72 none 71) [71] false [5,12] [],
dT (cL 73 z7V [68,69,72]) [68,69,72],
dF (uO 74 (.field 1 none 73)) [73],
dF (mV 12 60) [60],
dF (mV 13 67) [67],
dF (mV 14 74) [74]] [2,6,7,8,9,10,12,13,14])
(.seq (rg [mV 75 12,
fA 76 3 none 7,
lD 77 none 76,
bN 78 .add 75 77,
mV 79 13,
bN 80 .add 78 79,
mV 15 80] [2,6,7,8,9,10,12,14,15])
(.seq (rg [mV 81 2,
mV 82 9,
cL 83 z2m [81,82],
mV 84 10,
mV 85 14,
cL 86 z2m [84,85],
mV 16 83,
mV 17 86] [6,7,8,12,14,15,16,17])
(.seq (rg [mV 87 16,
mV 88 15,
uO 89 (.lens 88),
bN 90 .sub 89 (cI 1),
cL 91 z1q [(cS [48]),90],
bN 92 .add 87 91,
bN 93 .add 92 (cS [49]),
mV 94 17,
bN 95 .add 93 94,
fA 96 0 none 8,
wO (.store none 96 95)] [6,7,8,12,14,15,16])
(.seq (rg [mV 97 16,
uO 98 (.lens 97),
cL 99 z1q [(cS [48]),98],
mV 100 15,
bN 101 .add 99 100,
fA 102 1 none 8,
wO (.store none 102 101)] [6,7,8,12,14,16])
(.seq (rg [mV 103 16,
uO 104 (.lens 103),
mV 105 12,
uO 106 (.lens 105),
bN 107 .add 104 106,
fA 108 3 none 8,
wO (.store none 108 107)] [6,7,8,14])
(.seq (dr [dF (fA 109 3 none 8) [8],
dF (lD 110 none 109) [109],
dT (cL 111 z1q [(cS [120]),110]) [110],
dA (lD 112 (some 6) 7) [7] false [2] [],
dT (cL 113 zbd [112]) [112],
dF (bN 114 .add 111 113) [111,113],
dF (fA 115 2 none 8) [8],
dT (wO (.store none 115 114)) [115,114]] [6,8,14])
(rg [mV 116 14,
fA 117 4 none 8,
wO (.store none 117 116)] [6,8]))))))))
def z2d (C:Hd) (gl:GL) (v0 v1 v2 v6 v7 v8 v9 v10 v11:AV) (h:Heap) (x:Esc) (K:KT):Prop:=
 pK (z0r none v11 (AI 0) h) fun t1=>
 pK (z0e none t1 h) fun t2=>
 z1A C z7V [v0,v1,t2] h fun t3 h4 y5=>
 pK (z96 3 none t3) fun t6=>
 pK (z0r none v11 (AI 1) h4) fun t7=>
 (pK (z0r none v11 (AI 1) h) fun v=>(fun u (g1:Heap) (y1:Esc)=>u=t7∧g1=h∧y1=[]) v h [])∧(pK (z0e none t7 h4) fun t8=>
 (pK (z0e none t7 h) fun v=>(fun u (g1:Heap) (y1:Esc)=>u=t8∧g1=h∧y1=[]) v h [])∧(z1A C z7V [v0,v1,t8] h4 fun t9 h10 y11=>
 pK (z96 3 none t9) fun t12=>
 pK (z0r none v11 (AI 2) h10) fun t13=>
 (pK (z0r none v11 (AI 2) h) fun v=>(fun u (g1:Heap) (y1:Esc)=>u=t13∧g1=h∧y1=[]) v h [])∧((pK (z0r none v11 (AI 2) h4) fun v=>(fun u (g1:Heap) (y1:Esc)=>u=t13∧g1=h4∧y1=[]) v h4 [])∧(pK (z0e none t13 h10) fun t14=>
 (pK (z0e none t13 h) fun v=>(fun u (g1:Heap) (y1:Esc)=>u=t14∧g1=h∧y1=[]) v h [])∧((pK (z0e none t13 h4) fun v=>(fun u (g1:Heap) (y1:Esc)=>u=t14∧g1=h4∧y1=[]) v h4 [])∧(z1A C z7V [v0,v1,t14] h10 fun t15 h16 y17=>
 pK (z96 1 none t15) fun t18=>
 pK (z0d 3 none v7) fun t19=>
 pK (z0e none t19 h16) fun t20=>
 pK (oBin .add t6 t20) fun t21=>
 pK (oBin .add t21 t12) fun t22=>
 C z2m [v2,v9] h16 fun t23 h24 y25=>
 C z2m [v10,t18] h24 fun t26 h27 y28=>
 pK (z06 t22) fun t29=>
 pK (oBin .sub t29 (AI 1)) fun t30=>
 C z1q [(.p (.str [48])),t30] h27 fun t31 h32 y33=>
 pK (oBin .add t23 t31) fun t34=>
 pK (oBin .add t34 (.p (.str [49]))) fun t35=>
 pK (oBin .add t35 t26) fun t36=>
 pK (z0d 0 none v8) fun t37=>
 wK (z0k none t37 t36 h32) fun t38 h39 y40=>
 pK (z06 t23) fun t41=>
 C z1q [(.p (.str [48])),t41] h39 fun t42 h43 y44=>
 pK (oBin .add t42 t22) fun t45=>
 pK (z0d 1 none v8) fun t46=>
 wK (z0k none t46 t45 h43) fun t47 h48 y49=>
 pK (z06 t23) fun t50=>
 pK (z06 t6) fun t51=>
 pK (oBin .add t50 t51) fun t52=>
 pK (z0d 3 none v8) fun t53=>
 wK (z0k none t53 t52 h48) fun t54 h55 y56=>
 pK (z0d 3 none v8) fun t57=>
 pK (z0e none t57 h55) fun t58=>
 z1A C z1q [(.p (.str [120])),t58] h55 fun t59 h60 y61=>
 pK (z0e (some 6) v7 h60) fun t62=>
 (pK (z0e (some 6) v7 h55) fun v=>(fun u (g1:Heap) (y1:Esc)=>u=t62∧g1=h55∧y1=[]) v h55 [])∧(z1A C zbd [t62] h60 fun t63 h64 y65=>
 pK (oBin .add t59 t63) fun t66=>
 pK (z0d 2 none v8) fun t67=>
 wK (z0k none t67 t66 h64) fun t68 h69 y70=>
 pK (z0d 4 none v8) fun t71=>
 wK (z0k none t71 t18 h69) fun t72 h73 y74=>
 K .normal ⟨[(6,v6),(8,v8)],h73,(y74++(y70++(y65++(y61++(y56++(y49++(y44++(y40++(y33++(y28++(y25++(y17++(y11++(y5++x))))))))))))))⟩)))))))
theorem zpk {C gl e h x K}:NW C gl z9M ⟨e,h,x⟩ K=z2d C gl (aget e 0) (aget e 1) (aget e 2) (aget e 6) (aget e 7) (aget e 8) (aget e 9) (aget e 10) (aget e 11) h x K:=by kernel_rfl
def zdt (q1:ACode):ACode:=.pr [0,1,2,6,7,8,46] (.cond 46 (.seq (rg [uO 49 (.bsl false none 3 (.int .i64 0) [(0,(cI 3)),(1,(cI 4)),(2,(cI 1))]),
mV 9 (cI 11),
mV 10 (cI 12),
mV 11 49] [0,1,2,6,7,8,9,10,11])
(.seq (.seq (rg [fA 50 0 none 7,
lD 51 none 50,
bN 52 .eql 51 (cI 8)] [0,1,2,6,7,8,9,10,11,52])
(.cond 52 (rg [uO 53 (.bsl false none 3 (.int .i64 0) [(0,(cI 5)),(1,(cI 6)),(2,(cI 2))]),
mV 9 (cI 4),
mV 10 (cI 5),
mV 11 53] [0,1,2,6,7,8,9,10,11])
.skip))
q1))
.skip)
def z6H:ACode:=zdt z9M
def z8Y (C:Hd) (gl:GL) (q1:ACode) (v0 v1 v2 v6 v7 v8 v46:AV) (h:Heap) (x:Esc) (K:KT):Prop:=
 z0i v46 (wK (oBsl false none 3 (.int .i64 0) [(0,(AI 3)),(1,(AI 4)),(2,(AI 1))] h) fun t1 h2 y3=>
 pK (z0d 0 none v7) fun t4=>
 pK (z0e none t4 h2) fun t5=>
 pK (oBin .eql t5 (AI 8)) fun t6=>
 z0i t6 (wK (oBsl false none 3 (.int .i64 0) [(0,(AI 5)),(1,(AI 6)),(2,(AI 2))] h2) fun t7 h8 y9=>
 NW C gl q1 ⟨[(0,v0),(1,v1),(2,v2),(6,v6),(7,v7),(8,v8),(9,(AI 4)),(10,(AI 5)),(11,t7)],h8,(y9++(y3++x))⟩ K)
 (NW C gl q1 ⟨[(0,v0),(1,v1),(2,v2),(6,v6),(7,v7),(8,v8),(9,(AI 11)),(10,(AI 12)),(11,t1),(52,t6)],h2,(y3++x)⟩ K))
 (K .normal ⟨[(0,v0),(1,v1),(2,v2),(6,v6),(7,v7),(8,v8),(46,v46)],h,x⟩)
theorem zle {C gl q1 e h x K}:NW C gl (zdt q1) ⟨e,h,x⟩ K=z8Y C gl q1 (aget e 0) (aget e 1) (aget e 2) (aget e 6) (aget e 7) (aget e 8) (aget e 46) h x K:=by kernel_rfl
theorem zpl {C gl e h x K}:NW C gl z6H ⟨e,h,x⟩ K=z8Y C gl z9M (aget e 0) (aget e 1) (aget e 2) (aget e 6) (aget e 7) (aget e 8) (aget e 46) h x K:=zle
def z6I:ACode:=.pr [6,8] (.seq (dr [dF (fA 118 1 none 8) [8],
dF (lD 119 none 118) [118],
dF (fA 120 0 none 8) [8],
dF (lD 121 none 120) [120],
dF (uO 122 (.lens 121)) [121],
dF (fA 123 1 none 8) [8],
dF (lD 124 none 123) [123],
dF (uO 125 (.lens 124)) [124],
dF (bN 126 .sub 122 125) [122,125],
dA (cL 127 z1q [(cS [48]),126]) [126] true [] [1],
dF (bN 128 .add 119 127) [119,127],
dF (fA 129 1 none 8) [8],
dT (wO (.store none 129 128)) [129,128]] [6,8])
(.seq (dr [dF (fA 130 2 none 8) [8],
dF (lD 131 none 130) [130],
dF (fA 132 0 none 8) [8],
dF (lD 133 none 132) [132],
dF (uO 134 (.lens 133)) [133],
dF (fA 135 2 none 8) [8],
dF (lD 136 none 135) [135],
dF (uO 137 (.lens 136)) [136],
dF (bN 138 .sub 134 137) [134,137],
dA (cL 139 z1q [(cS [120]),138]) [138] true [] [1],
dF (bN 140 .add 131 139) [131,139],
dF (fA 141 2 none 8) [8],
dT (wO (.store none 141 140)) [141,140]] [6,8])
(.seq (rg [lD 142 (some 5) 8,
wO (.store (some 5) 6 142)] [6])
.ret)))
def z1O (C:Hd) (gl:GL) (v6 v8:AV) (h:Heap) (x:Esc) (K:KT):Prop:=
 pK (z0d 1 none v8) fun t1=>
 pK (z0e none t1 h) fun t2=>
 pK (z0d 0 none v8) fun t3=>
 pK (z0e none t3 h) fun t4=>
 pK (z06 t4) fun t5=>
 pK (z0d 1 none v8) fun t6=>
 pK (z0e none t6 h) fun t7=>
 pK (z06 t7) fun t8=>
 pK (oBin .sub t5 t8) fun t9=>
 z1A C z1q [(.p (.str [48])),t9] h fun t10 h11 y12=>
 (pK (z0e none t1 h11) fun v=>(fun u (g1:Heap) (y1:Esc)=>u=t2∧g1=h11∧y1=[]) v h11 [])∧(pK (oBin .add t2 t10) fun t13=>
 pK (z0d 1 none v8) fun t14=>
 wK (z0k none t14 t13 h11) fun t15 h16 y17=>
 pK (z0d 2 none v8) fun t18=>
 pK (z0e none t18 h16) fun t19=>
 pK (z0d 0 none v8) fun t20=>
 pK (z0e none t20 h16) fun t21=>
 pK (z06 t21) fun t22=>
 pK (z0d 2 none v8) fun t23=>
 pK (z0e none t23 h16) fun t24=>
 pK (z06 t24) fun t25=>
 pK (oBin .sub t22 t25) fun t26=>
 z1A C z1q [(.p (.str [120])),t26] h16 fun t27 h28 y29=>
 (pK (z0e none t18 h28) fun v=>(fun u (g1:Heap) (y1:Esc)=>u=t19∧g1=h28∧y1=[]) v h28 [])∧(pK (oBin .add t19 t27) fun t30=>
 pK (z0d 2 none v8) fun t31=>
 wK (z0k none t31 t30 h28) fun t32 h33 y34=>
 pK (z0e (some 5) v8 h33) fun t35=>
 wK (z0k (some 5) v6 t35 h33) fun t36 h37 y38=>
 K .ret ⟨[(6,v6)],h37,(y38++(y34++(y29++(y17++(y12++x)))))⟩))
theorem zpm {C gl e h x K}:NW C gl z6I ⟨e,h,x⟩ K=z1O C gl (aget e 6) (aget e 8) h x K:=by kernel_rfl
def zvV (q2 q3:ACode):ACode:=(.seq (rg [uO 6 (.alloc [.p (.str []),.p (.str []),.p (.str []),.p (.int .i64 0),.p (.int .i64 0)])] [0,1,2,6])
(.seq (rg [mV 18 0,
mV 19 1,
iA 20 (some 6) 18 19,
lD 21 (some 6) 20,
uO 7 (.alloc [.p (.int .i64 0),.p (.int .i64 0),.p (.int .i64 0),.p (.str []),.p (.str []),.p (.str [])]),
wO (.store (some 6) 7 21)] [0,1,2,6,7])
(.seq (rg [mV 22 2,
uO 23 (.build [.p (.str []),.p (.str []),.p (.str []),.p (.int .i64 0),.p (.int .i64 0)] [(4,1,22)]),
uO 8 (.alloc [.p (.str []),.p (.str []),.p (.str []),.p (.int .i64 0),.p (.int .i64 0)]),
wO (.store (some 5) 8 23)] [0,1,2,6,7,8])
(.seq (.seq (rg [fA 24 0 none 7,
lD 25 none 24] [0,1,2,6,7,8,25])
(.block 0 (.seq (rg [bN 27 .eql 25 (cI 10),
mV 26 27] [0,1,2,6,7,8,25,26])
(.cond 26 (dr [dF (mV 28 2) [2],
dF (fA 29 1 none 7) [7],
dF (lD 30 none 29) [29],
dT (cL 31 z2m [28,30]) [28,30],
dF (fA 32 1 none 7) [7],
dA (lD 33 none 32) [32] false [3] [],
dF (fA 34 0 none 8) [8],
dA (wO (.store none 34 31)) [34,31] true [] [5],
dF (fA 35 4 none 8) [8],
dT (wO (.store none 35 33)) [35,33]] [6,8])
(.seq (rg [bN 37 .eql 25 (cI 9),
mV 36 37] [0,1,2,6,7,8,25,36])
(.cond 36 (dr [dF (mV 38 2) [2],
dT (cL 39 z2m [38,(cI 1)]) [38],
dF (fA 40 2 none 7) [7],
dA (lD 41 none 40) [40] false [1] [],
dT (cL 42 z1q [(cS [48]),41]) [41],
dF (bN 43 .add 39 42) [39,42],
dF (fA 44 0 none 8) [8],
dT (wO (.store none 44 43)) [44,43],
dF (fA 45 4 none 8) [8],
dT (wO (.store none 45 (cI 1))) [45]] [6,8])
(.seq (.seq (rg [bN 47 .eql 25 (cI 7),
mV 46 47] [0,1,2,6,7,8,25,46])
(.cond 46 .skip
(rg [bN 48 .eql 25 (cI 8),
mV 46 48] [0,1,2,6,7,8,46])))
q2)))))))
q3))))
def zmh:AFun:=⟨3,[.cell 6 (some 5)],zvV z6H z6I,false,false⟩
def z7M (C:Hd) (gl:GL) (q2 q3:ACode) (v0 v1 v2:AV) (h:Heap) (x:Esc) (K:KT):Prop:=
 alK [.p (.str []),.p (.str []),.p (.str []),.p (.int .i64 0),.p (.int .i64 0)] h fun t1 h2 y3=>
 pK (z0r (some 6) v0 v1 h2) fun t4=>
 pK (z0e (some 6) t4 h2) fun t5=>
 alK [.p (.int .i64 0),.p (.int .i64 0),.p (.int .i64 0),.p (.str []),.p (.str []),.p (.str [])] h2 fun t6 h7 y8=>
 wK (z0k (some 6) t6 t5 h7) fun t9 h10 y11=>
 pK (z0x [.p (.str []),.p (.str []),.p (.str []),.p (.int .i64 0),.p (.int .i64 0)] [(4,1,v2)]) fun t12=>
 alK [.p (.str []),.p (.str []),.p (.str []),.p (.int .i64 0),.p (.int .i64 0)] h10 fun t13 h14 y15=>
 wK (z0k (some 5) t13 t12 h14) fun t16 h17 y18=>
 pK (z0d 0 none t6) fun t19=>
 pK (z0e none t19 h17) fun t20=>
 pK (oBin .eql t20 (AI 10)) fun t21=>
 z0i t21 (pK (z0d 1 none t6) fun t22=>
 pK (z0e none t22 h17) fun t23=>
 z1A C z2m [v2,t23] h17 fun t24 h25 y26=>
 pK (z0d 1 none t6) fun t27=>
 pK (z0e none t27 h25) fun t28=>
 (pK (z0e none t27 h17) fun v=>(fun u (g1:Heap) (y1:Esc)=>u=t28∧g1=h17∧y1=[]) v h17 [])∧(pK (z0d 0 none t13) fun t29=>
 wK (z0k none t29 t24 h25) fun t30 h31 y32=>
 (pK (z0e none t27 h31) fun v=>(fun u (g1:Heap) (y1:Esc)=>u=t28∧g1=h31∧y1=[]) v h31 [])∧(pK (z0d 4 none t13) fun t33=>
 wK (z0k none t33 t28 h31) fun t34 h35 y36=>
 NW C gl q3 ⟨[(6,t1),(8,t13)],h35,(y36++(y32++(y26++(y18++(y15++(y11++(y8++(y3++x))))))))⟩ K)))
 (pK (oBin .eql t20 (AI 9)) fun t37=>
 z0i t37 (z1A C z2m [v2,(AI 1)] h17 fun t38 h39 y40=>
 pK (z0d 2 none t6) fun t41=>
 pK (z0e none t41 h39) fun t42=>
 (pK (z0e none t41 h17) fun v=>(fun u (g1:Heap) (y1:Esc)=>u=t42∧g1=h17∧y1=[]) v h17 [])∧(z1A C z1q [(.p (.str [48])),t42] h39 fun t43 h44 y45=>
 pK (oBin .add t38 t43) fun t46=>
 pK (z0d 0 none t13) fun t47=>
 wK (z0k none t47 t46 h44) fun t48 h49 y50=>
 pK (z0d 4 none t13) fun t51=>
 wK (z0k none t51 (AI 1) h49) fun t52 h53 y54=>
 NW C gl q3 ⟨[(6,t1),(8,t13)],h53,(y54++(y50++(y45++(y40++(y18++(y15++(y11++(y8++(y3++x)))))))))⟩ K))
 (pK (oBin .eql t20 (AI 7)) fun t55=>
 z0i t55 (NW C gl q2 ⟨[(0,v0),(1,v1),(2,v2),(6,t1),(7,t6),(8,t13),(25,t20),(46,t55)],h17,(y18++(y15++(y11++(y8++(y3++x)))))⟩ (z0s 0 (seqN C gl q3 K)))
 (pK (oBin .eql t20 (AI 8)) fun t56=>
 NW C gl q2 ⟨[(0,v0),(1,v1),(2,v2),(6,t1),(7,t6),(8,t13),(46,t56)],h17,(y18++(y15++(y11++(y8++(y3++x)))))⟩ (z0s 0 (seqN C gl q3 K)))))
theorem E_q03l {C gl q2 q3 v0 v1 v2 h x K}:NW C gl (zvV q2 q3) ⟨enter [v0,v1,v2],h,x⟩ K=z7M C gl q2 q3 v0 v1 v2 h x K:=by kernel_rfl
theorem e_q03l {C gl v0 v1 v2 h x K}:NW C gl zmh.body ⟨enter [v0,v1,v2],h,x⟩ K=z7M C gl z6H z6I v0 v1 v2 h x K:=E_q03l
def P_q055:ACode:=(.seq (rg [mV 4 (cS []),
mV 5 cF] [0,1])
(.seq (rg [mV 6 0,
mV 7 1,
cL 8 zaK [6,7],
eX 9 8 0,
eX 10 8 1,
mV 4 9,
mV 5 10] [4,5])
.ret))
def zmw:AFun:=⟨2,[.t 4,.t 5],P_q055,false,false⟩
def znR (C:Hd) (gl:GL) (v0 v1:AV) (h:Heap) (x:Esc) (K:KT):Prop:=
 C zaK [v0,v1] h fun t1 h2 y3=>
 pK (oExt t1 0) fun t4=>
 pK (oExt t1 1) fun t5=>
 K .ret ⟨[(4,t4),(5,t5)],h2,(y3++x)⟩
theorem e_q055 {C gl v0 v1 h x K}:NW C gl zmw.body ⟨enter [v0,v1],h,x⟩ K=znR C gl v0 v1 h x K:=by kernel_rfl
end Go.Am
end
