/- Texts of the proof, laid together: CodesC, CodesD. -/
import Derived.KernelRfl
import Derived.Test.YtpmepdkfbangiaaGreatDoorlawBF4
set_option linter.all false
section
/- The functions asv abstract code,and asv formulas PE their values: printed by program out of the translation. -/
set_option linter.unusedVariables false
set_option maxRecDepth 100000
namespace Go.Am
def JM:ACode:=.pr [0,11,12,13] (.seq (rg [bN 14 .lss 13 12] [0,11,12,13,14])
(.seq (.cond 14 .skip
(.exit 0))
(.seq (.block 1 (.seq (rg [mV 15 13,
iA 16 (some 8) 11 13,
lD 17 (some 8) 16,
uO 4 (.alloc [.p (.str []),.p (.int .i64 0),.p (.int .i64 0),.p (.int .i64 0),.p (.str []),.p (.str []),.p (.str []),.p (.int .i64 0)]),
mV 3 15,
wO (.store (some 8) 4 17)] [0,3,4,11,12,13])
(.seq (.seq (rg [lD 18 (some 8) 4,
cL 19 wL [18],
mV 5 19] [0,3,4,5,11,12,13])
(.seq (rg [mV 20 5,
bN 21 .neq 20 (cI 0)] [0,3,4,5,11,12,13,21])
(.cond 21 (.seq (rg [mV 22 5,
mV 2 22] [2])
.ret)
.skip)))
(.seq (dr [dF (mV 23 3) [3],
dF (bN 24 .gtr 23 (cI 0)) [23],
dF (mV 25 24) [24],
dF (gD 26 25 true (.mv 0)) [0,25],
dF (gD 27 25 true (.mv 3)) [3,25],
dF (gD 28 25 true (.bin .sub 27 (cI 1))) [27,25],
dF (gD 29 25 true (.iaddr (some 8) 26 28)) [26,28,25],
dF (gD 30 25 true (.load (some 8) 29)) [29,25],
dF (gD 31 25 true (.load (some 8) 4)) [4,25],
dT (gD 32 25 true (.call AG [30,31])) [30,31,25],
dF (gD 33 25 true (.bin .geq 32 (cI 0))) [32,25],
dF (uO 34 (.pick 25 33 cF)) [25,33]] [0,11,12,13,34])
(.cond 34 (.seq (rg [mV 2 (cI 7)] [2])
.ret)
.skip)))))
(rg [bN 35 .add 13 (cI 1),
mV 13 35] [0,11,12,13]))))
def z49 (C:Hd)(gl:GL)(v0 v11 v12 v13:AV)(h:aA)(x:Esc)(K:KT):Prop:=
 pK (gA .lss v13 v12) fun t1=>
 mA t1 (pK (wA (some 8) v11 v13 h) fun t2=>
 pK (eA (some 8) t2 h) fun t3=>
 alK [.p (.str []),.p (.int .i64 0),.p (.int .i64 0),.p (.int .i64 0),.p (.str []),.p (.str []),.p (.str []),.p (.int .i64 0)] h fun t4 h5 y6=>
 wK (tA (some 8) t4 t3 h5) fun t7 h8 y9=>
 pK (eA (some 8) t4 h8) fun t10=>
 C wL [t10] h8 fun t11 h12 y13=>
 pK (gA .neq t11 (AI 0)) fun t14=>
 mA t14 (K .ret ⟨[(2,t11)],h12,(y13++(y9++(y6++x)))⟩)
 (pK (gA .gtr v13 (AI 0)) fun t15=>
 gM t15 true v0 h12 fun t16 h17 y18=>
 gM t15 true v13 h17 fun t19 h20 y21=>
 gP t15 true (gA .sub t19 (AI 1)) h20 fun t22 h23 y24=>
 gP t15 true (wA (some 8) t16 t22 h23) h23 fun t25 h26 y27=>
 gP t15 true (eA (some 8) t25 h26) h26 fun t28 h29 y30=>
 gP t15 true (eA (some 8) t4 h29) h29 fun t31 h32 y33=>
 gV t15 true h32 (YA C AG [t28,t31] h32) fun t34 h35 y36=>
 gP t15 true (gA .geq t34 (AI 0)) h35 fun t37 h38 y39=>
 pK (DA t15 t37 (AB false)) fun t40=>
 mA t40 (K .ret ⟨[(2,(AI 7))],h38,(y39++(y36++(y33++(y30++(y27++(y24++(y21++(y18++(y13++(y9++(y6++x)))))))))))⟩)
 (pK (gA .add v13 (AI 1)) fun t41=>
 K .normal ⟨[(0,v0),(11,v11),(12,v12),(13,t41)],h38,(y39++(y36++(y33++(y30++(y27++(y24++(y21++(y18++(y13++(y9++(y6++x)))))))))))⟩)))
 (K (.exit 0) ⟨[(0,v0),(11,v11),(12,v12),(13,v13),(14,t1)],h,x⟩)
theorem zhw {C gl e h x K}:NW C gl JM ⟨e,h,x⟩ K=z49 C gl (bA e 0) (bA e 11) (bA e 12) (bA e 13) h x K:=by kernel_rfl
theorem zlU {C gl e h x K}:NW C gl (.loop (.scope JM)) ⟨e,h,x⟩ K=PA C gl (.scope JM) K [(0,bA e 0),(11,bA e 11),(12,bA e 12),(13,bA e 13)] h x:=ZC
def tP:ACode:=.pr [0,36,37,38] (.seq (rg [bN 39 .lss 38 37] [0,36,37,38,39])
(.seq (.cond 39 .skip
(.exit 2))
(.seq (.block 3 (.seq (rg [mV 40 38,
iA 41 (some 8) 36 38,
lD 42 (some 8) 41,
uO 7 (.alloc [.p (.str []),.p (.int .i64 0),.p (.int .i64 0),.p (.int .i64 0),.p (.str []),.p (.str []),.p (.str []),.p (.int .i64 0)]),
mV 6 40,
wO (.store (some 8) 7 42)] [0,6,7,36,37,38])
(.seq (rg [mV 43 0,
mV 44 6,
uO 45 (.slice (some 8) 43 none (some 44) none),
uO 46 (.mkfn KJ [7]),
cL 47 NL [45,46]] [0,36,37,38,47])
(.cond 47 (.seq (rg [mV 2 (cI 6)] [2])
.ret)
.skip))))
(rg [bN 48 .add 38 (cI 1),
mV 38 48] [0,36,37,38]))))
def z4A (C:Hd)(gl:GL)(v0 v36 v37 v38:AV)(h:aA)(x:Esc)(K:KT):Prop:=
 pK (gA .lss v38 v37) fun t1=>
 mA t1 (pK (wA (some 8) v36 v38 h) fun t2=>
 pK (eA (some 8) t2 h) fun t3=>
 alK [.p (.str []),.p (.int .i64 0),.p (.int .i64 0),.p (.int .i64 0),.p (.str []),.p (.str []),.p (.str []),.p (.int .i64 0)] h fun t4 h5 y6=>
 wK (tA (some 8) t4 t3 h5) fun t7 h8 y9=>
 pK (eD (some 8) v0 none (some v38) none h8) fun t10=>
 C NL [t10,(.fn KJ [t4])] h8 fun t11 h12 y13=>
 mA t11 (K .ret ⟨[(2,(AI 6))],h12,(y13++(y9++(y6++x)))⟩)
 (pK (gA .add v38 (AI 1)) fun t14=>
 K .normal ⟨[(0,v0),(36,v36),(37,v37),(38,t14)],h12,(y13++(y9++(y6++x)))⟩))
 (K (.exit 2) ⟨[(0,v0),(36,v36),(37,v37),(38,v38),(39,t1)],h,x⟩)
theorem zhx {C gl e h x K}:NW C gl tP ⟨e,h,x⟩ K=z4A C gl (bA e 0) (bA e 36) (bA e 37) (bA e 38) h x K:=by kernel_rfl
theorem zlV {C gl e h x K}:NW C gl (.loop (.scope tP)) ⟨e,h,x⟩ K=PA C gl (.scope tP) K [(0,bA e 0),(36,bA e 36),(37,bA e 37),(38,bA e 38)] h x:=ZC
def SZ:ACode:=.pr [] (.seq (rg [mV 2 (cI 0)] [2])
.ret)
def z4B (C:Hd)(gl:GL)(h:aA)(x:Esc)(K:KT):Prop:=
 K .ret ⟨[(2,(AI 0))],h,x⟩
theorem zhy {C gl e h x K}:NW C gl SZ ⟨e,h,x⟩ K=z4B C gl h x K:=by kernel_rfl
def z1H (q2 q3:ACode):ACode:=.pr [0] (.seq (.seq (rg [mV 36 0,
lN 37 36,
mV 38 (cI 0)] [0,36,37,38])
(.block 2 (.loop (.scope q2))))
q3)
def zT:ACode:=z1H tP SZ
def sR (C:Hd)(gl:GL)(q2 q3:ACode)(v0:AV)(h:aA)(x:Esc)(K:KT):Prop:=
 pK (OA v0) fun t1=>
 NW C gl (.loop (.scope q2)) ⟨[(0,v0),(36,v0),(37,t1),(38,(AI 0))],h,x⟩ (yA 2 (NA C gl q3 K))
theorem zaK {C gl q2 q3 e h x K}:NW C gl (z1H q2 q3) ⟨e,h,x⟩ K=sR C gl q2 q3 (bA e 0) h x K:=by kernel_rfl
theorem WY {C gl e h x K}:NW C gl zT ⟨e,h,x⟩ K=sR C gl tP SZ (bA e 0) h x K:=zaK
def z1G (q1 q4:ACode):ACode:=(.seq (rg [mV 2 (cI 0)] [0])
(.seq (.seq (rg [mV 8 0,
lN 9 8,
bN 10 .gtr 9 (cI 2000)] [0,10])
(.cond 10 (.seq (rg [mV 2 (cI 2)] [2])
.ret)
.skip))
(.seq (.seq (rg [mV 11 0,
lN 12 11,
mV 13 (cI 0)] [0,11,12,13])
(.block 0 (.loop (.scope q1))))
q4)))
def RV:AFun:=⟨1,[.t 2],z1G JM zT,false,false⟩
def mO (C:Hd)(gl:GL)(q1 q4:ACode)(v0:AV)(h:aA)(x:Esc)(K:KT):Prop:=
 pK (OA v0) fun t1=>
 pK (gA .gtr t1 (AI 2000)) fun t2=>
 mA t2 (K .ret ⟨[(2,(AI 2))],h,x⟩)
 (pK (OA v0) fun t3=>
 NW C gl (.loop (.scope q1)) ⟨[(0,v0),(11,v0),(12,t3),(13,(AI 0))],h,x⟩ (yA 0 (NA C gl q4 K)))
theorem zaJ {C gl q1 q4 v0 h x K}:NW C gl (z1G q1 q4) ⟨enter [v0],h,x⟩ K=mO C gl q1 q4 v0 h x K:=by kernel_rfl
theorem zhv {C gl v0 h x K}:NW C gl RV.body ⟨enter [v0],h,x⟩ K=mO C gl JM zT v0 h x K:=zaJ
def zc8:ACode:=(.seq (rg [mV 2 cF] [0])
(.seq (rg [mV 3 0,
cL 4 qD [3,(cI 0),(cI 345686399999)],
mV 2 4] [2])
.ret))
def XV:AFun:=⟨1,[.t 2],zc8,false,false⟩
def UX (C:Hd)(gl:GL)(v0:AV)(h:aA)(x:Esc)(K:KT):Prop:=
 C qD [v0,(AI 0),(AI 345686399999)] h fun t1 h2 y3=>
 K .ret ⟨[(2,t1)],h2,(y3++x)⟩
theorem zh6 {C gl v0 h x K}:NW C gl XV.body ⟨enter [v0],h,x⟩ K=UX C gl v0 h x K:=by kernel_rfl
def zcx:ACode:=(.seq (rg [mV 4 (cI 0)] [0,1])
(.seq (.seq (rg [mV 5 0] [1,5])
(.cond 5 (.seq (rg [mV 6 1,
mV 4 6] [4])
.ret)
.skip))
(.seq (rg [mV 4 (cI 0)] [4])
.ret)))
def DV:AFun:=⟨2,[.t 4],zcx,false,false⟩
def JX (C:Hd)(gl:GL)(v0 v1:AV)(h:aA)(x:Esc)(K:KT):Prop:=
 mA v0 (K .ret ⟨[(4,v1)],h,x⟩)
 (K .ret ⟨[(4,(AI 0))],h,x⟩)
theorem zgT {C gl v0 v1 h x K}:NW C gl DV.body ⟨enter [v0,v1],h,x⟩ K=JX C gl v0 v1 h x K:=by kernel_rfl
def zc7:ACode:=(.seq (rg [mV 2 cF] [0])
(.seq (rg [mV 3 0,
uO 4 (.lens 3),
cL 5 qD [4,(cI 1),(cI 40)],
mV 6 5,
gD 7 6 true (.mv 0),
gD 8 6 true (.slstr 7 none (some (cI 1))),
gD 9 6 true (.call EI [8,(cS [97,98,99,100,101,102,103,104,105,106,107,108,109,110,111,112,113,114,115,116,117,118,119,120,121,122])]),
uO 10 (.pick 6 9 cF),
mV 11 10,
gD 12 11 true (.mv 0),
gD 13 11 true (.call EI [12,(cS [97,98,99,100,101,102,103,104,105,106,107,108,109,110,111,112,113,114,115,116,117,118,119,120,121,122,48,49,50,51,52,53,54,55,56,57,45,95])]),
uO 14 (.pick 11 13 cF),
mV 2 14] [2])
.ret))
def WV:AFun:=⟨1,[.t 2],zc7,false,false⟩
def WK (C:Hd)(gl:GL)(v0:AV)(h:aA)(x:Esc)(K:KT):Prop:=
 pK (nK v0) fun t1=>
 C qD [t1,(AI 1),(AI 40)] h fun t2 h3 y4=>
 gM t2 true v0 h3 fun t5 h6 y7=>
 gP t2 true (jT t5 none (some (AI 1))) h6 fun t8 h9 y10=>
 gV t2 true h9 (C EI [t8,(.p (.str [97,98,99,100,101,102,103,104,105,106,107,108,109,110,111,112,113,114,115,116,117,118,119,120,121,122]))] h9) fun t11 h12 y13=>
 pK (DA t2 t11 (AB false)) fun t14=>
 gM t14 true v0 h12 fun t15 h16 y17=>
 gV t14 true h16 (C EI [t15,(.p (.str [97,98,99,100,101,102,103,104,105,106,107,108,109,110,111,112,113,114,115,116,117,118,119,120,121,122,48,49,50,51,52,53,54,55,56,57,45,95]))] h16) fun t18 h19 y20=>
 pK (DA t14 t18 (AB false)) fun t21=>
 K .ret ⟨[(2,t21)],h19,(y20++(y17++(y13++(y10++(y7++(y4++x))))))⟩
theorem zh5 {C gl v0 h x K}:NW C gl WV.body ⟨enter [v0],h,x⟩ K=WK C gl v0 h x K:=by kernel_rfl
def zcL:ACode:=(.seq (rg [mV 4 cF] [0,1])
(.seq (rg [mV 5 0,
mV 6 1,
cL 7 VF [5,6],
bN 8 .geq 7 (cI 0),
mV 4 8] [4])
.ret))
def uQ:AFun:=⟨2,[.t 4],zcL,true,false⟩
def hY (C:Hd)(gl:GL)(v0 v1:AV)(h:aA)(x:Esc)(K:KT):Prop:=
 C VF [v0,v1] h fun t1 h2 y3=>
 pK (gA .geq t1 (AI 0)) fun t4=>
 K .ret ⟨[(4,t4)],h2,(y3++x)⟩
theorem ziu {C gl v0 v1 h x K}:NW C gl uQ.body ⟨enter [v0,v1],h,x⟩ K=hY C gl v0 v1 h x K:=by kernel_rfl
def WZ:ACode:=.pr [1,7,17,18,19] (rg [bN 51 .add 19 (cI 1),
mV 19 51] [1,7,17,18,19])
def z4S (C:Hd)(gl:GL)(v1 v7 v17 v18 v19:AV)(h:aA)(x:Esc)(K:KT):Prop:=
 pK (gA .add v19 (AI 1)) fun t1=>
 K .normal ⟨[(1,v1),(7,v7),(17,v17),(18,v18),(19,t1)],h,x⟩
theorem zih {C gl e h x K}:NW C gl WZ ⟨e,h,x⟩ K=z4S C gl (bA e 1) (bA e 7) (bA e 17) (bA e 18) (bA e 19) h x K:=by kernel_rfl
def z1X (q1:ACode):ACode:=.pr [1,7,17,18,19] (.seq (rg [bN 20 .lss 19 18] [1,7,17,18,19,20])
(.seq (.cond 20 .skip
(.exit 0))
(.seq (.block 1 (.seq (rg [iA 21 none 17 19,
lD 22 none 21,
mV 9 22] [1,7,9,17,18,19])
(.seq (rg [mV 23 7,
mV 24 1,
mV 25 9,
iA 26 (some 8) 24 25,
lD 27 (some 8) 26,
cL 28 FL [23,27],
mV 10 28] [1,7,9,10,17,18,19])
(.seq (rg [mV 29 10,
bN 30 .neq 29 (cI 0)] [1,7,9,10,17,18,19,30])
(.cond 30 (dr [dF (mV 31 7) [7],
dF (mV 32 7) [7],
dF (mV 33 7) [7],
dF (uO 34 (.nilchk 33)) [33],
dF (fA 35 4 none 34) [34],
dF (lD 36 none 35) [35],
dF (mV 37 9) [9],
dF (uO 38 (.bsl false none 1 (.int .i64 0) [(0,37)])) [37],
dT (uO 39 (.app none 36 38)) [36,38],
dF (mV 40 7) [7],
dF (uO 41 (.nilchk 40)) [40],
dF (fA 42 5 none 41) [41],
dA (lD 43 none 42) [42] false [8] [],
dF (mV 44 10) [10],
dA (uO 45 (.bsl false none 1 (.int .i64 0) [(0,44)])) [44] false [8] [],
dT (uO 46 (.app none 43 45)) [43,45],
dF (uO 47 (.nilchk 31)) [31],
dF (fA 48 4 none 47) [47],
dT (wO (.store none 48 39)) [48,39],
dF (uO 49 (.nilchk 32)) [32],
dF (fA 50 5 none 49) [49],
dT (wO (.store none 50 46)) [50,46]] [1,7,17,18,19])
.skip)))))
q1)))
def TM:ACode:=z1X WZ
def dY (C:Hd)(gl:GL)(q1:ACode)(v1 v7 v17 v18 v19:AV)(h:aA)(x:Esc)(K:KT):Prop:=
 pK (gA .lss v19 v18) fun t1=>
 mA t1 (pK (wA none v17 v19 h) fun t2=>
 pK (eA none t2 h) fun t3=>
 pK (wA (some 8) v1 t3 h) fun t4=>
 pK (eA (some 8) t4 h) fun t5=>
 C FL [v7,t5] h fun t6 h7 y8=>
 pK (gA .neq t6 (AI 0)) fun t9=>
 mA t9 (pK (rA v7) fun t10=>
 pK (jA 4 none t10) fun t11=>
 pK (eA none t11 h7) fun t12=>
 wK (RA false none 1 (.int .i64 0) [(0,t3)] h7) fun t13 h14 y15=>
 (h14=h7∧y15=[])∧(wK (dD none t12 t13 h14) fun t16 h17 y18=>
 pK (rA v7) fun t19=>
 pK (jA 5 none t19) fun t20=>
 pK (eA none t20 h17) fun t21=>
 (pK (eA none t20 h14) fun v=>(fun u (g1:aA) (y1:Esc)=>u=t21∧g1=h14∧y1=[]) v h14 [])∧(wK (RA false none 1 (.int .i64 0) [(0,t6)] h17) fun t22 h23 y24=>
 (h23=h17∧y24=[])∧((wK (RA false none 1 (.int .i64 0) [(0,t6)] h14) (fun u (g1:aA) (y1:Esc)=>u=t22∧g1=h14∧y1=[]))∧(wK (dD none t21 t22 h23) fun t25 h26 y27=>
 pK (rA v7) fun t28=>
 pK (jA 4 none t28) fun t29=>
 wK (tA none t29 t16 h26) fun t30 h31 y32=>
 pK (rA v7) fun t33=>
 pK (jA 5 none t33) fun t34=>
 wK (tA none t34 t25 h31) fun t35 h36 y37=>
 NW C gl q1 ⟨[(1,v1),(7,v7),(17,v17),(18,v18),(19,v19)],h36,(y37++(y32++(y27++(y24++(y18++(y15++(y8++x)))))))⟩ K)))))
 (NW C gl q1 ⟨[(1,v1),(7,v7),(9,t3),(10,t6),(17,v17),(18,v18),(19,v19),(30,t9)],h7,(y8++x)⟩ K))
 (K (.exit 0) ⟨[(1,v1),(7,v7),(17,v17),(18,v18),(19,v19),(20,t1)],h,x⟩)
theorem zba {C gl q1 e h x K}:NW C gl (z1X q1) ⟨e,h,x⟩ K=dY C gl q1 (bA e 1) (bA e 7) (bA e 17) (bA e 18) (bA e 19) h x K:=by kernel_rfl
theorem zii {C gl e h x K}:NW C gl TM ⟨e,h,x⟩ K=dY C gl WZ (bA e 1) (bA e 7) (bA e 17) (bA e 18) (bA e 19) h x K:=zba
theorem zme {C gl e h x K}:NW C gl (.loop (.scope TM)) ⟨e,h,x⟩ K=PA C gl (.scope TM) K [(1,bA e 1),(7,bA e 7),(17,bA e 17),(18,bA e 18),(19,bA e 19)] h x:=ZC
def MT:ACode:=.pr [7] (.seq (rg [mV 52 7,
mV 6 52] [6])
.ret)
def z4T (C:Hd)(gl:GL)(v7:AV)(h:aA)(x:Esc)(K:KT):Prop:=
 K .ret ⟨[(6,v7)],h,x⟩
theorem zij {C gl e h x K}:NW C gl MT ⟨e,h,x⟩ K=z4T C gl (bA e 7) h x K:=by kernel_rfl
def z1W (q2 q3:ACode):ACode:=(.seq (rg [uO 3 (.uns 12 0 [0]),
mV 6 (.c (.nilp))] [1,2,3])
(.seq (rg [lD 11 (some 2) 3,
uO 12 (.mkmap),
uO 13 (.build [.sl0 none,.p (.int .i64 0),.nilm,.sl0 (some 6),.sl0 none,.sl0 none] [(0,2,11),(2,1,12)]),
uO 14 (.uns 12 0 [13]),
mV 7 14] [1,2,7])
(.seq (.seq (rg [mV 15 1,
mV 16 2,
cL 17 tL [15,16],
lN 18 17,
mV 19 (cI 0)] [1,7,17,18,19])
(.block 0 (.loop (.scope q2))))
q3)))
def qW:AFun:=⟨3,[.t 6],z1W TM MT,false,false⟩
def CR (C:Hd)(gl:GL)(q2 q3:ACode)(v0 v1 v2:AV)(h:aA)(x:Esc)(K:KT):Prop:=
 wK (kG 12 0 [v0] h) fun t1 h2 y3=>
 pK (eA (some 2) t1 h2) fun t4=>
 mmK h2 fun t5 h6 y7=>
 pK (RB [.sl0 none,.p (.int .i64 0),.nilm,.sl0 (some 6),.sl0 none,.sl0 none] [(0,2,t4),(2,1,t5)]) fun t8=>
 wK (kG 12 0 [t8] h6) fun t9 h10 y11=>
 C tL [v1,v2] h10 fun t12 h13 y14=>
 pK (OA t12) fun t15=>
 NW C gl (.loop (.scope q2)) ⟨[(1,v1),(7,t9),(17,t12),(18,t15),(19,(AI 0))],h13,(y14++(y11++(y7++(y3++x))))⟩ (yA 0 (NA C gl q3 K))
theorem zaZ {C gl q2 q3 v0 v1 v2 h x K}:NW C gl (z1W q2 q3) ⟨enter [v0,v1,v2],h,x⟩ K=CR C gl q2 q3 v0 v1 v2 h x K:=by kernel_rfl
theorem zig {C gl v0 v1 v2 h x K}:NW C gl qW.body ⟨enter [v0,v1,v2],h,x⟩ K=CR C gl TM MT v0 v1 v2 h x K:=zaZ
def PM:ACode:=.pr [3,9] (.seq (rg [uO 10 (.mnext none [9]),
eX 11 10 0] [3,9,11])
(.seq (.cond 11 .skip
(.exit 0))
(.block 1 (.seq (rg [uO 12 (.mentry 9),
eX 13 12 0,
mV 4 13] [3,4,9])
(rg [mV 14 3,
mV 15 4,
uO 16 (.bsl false none 1 (.str []) [(0,15)]),
uO 17 (.app none 14 16),
mV 3 17] [3,9])))))
def z4L (C:Hd)(gl:GL)(v3 v9:AV)(h:aA)(x:Esc)(K:KT):Prop:=
 nxK v9 h fun t1 h2 y3=>
 pK (jB t1 0) fun t4=>
 mA t4 (wK (IC v9 h2) fun t5 h6 y7=>
 pK (jB t5 0) fun t8=>
 wK (RA false none 1 (.str []) [(0,t8)] h6) fun t9 h10 y11=>
 wK (dD none v3 t9 h10) fun t12 h13 y14=>
 K .normal ⟨[(3,t12),(9,v9)],h13,(y14++(y11++(y7++(y3++x))))⟩)
 (K (.exit 0) ⟨[(3,v3),(9,v9),(11,t4)],h2,(y3++x)⟩)
theorem zhU {C gl e h x K}:NW C gl PM ⟨e,h,x⟩ K=z4L C gl (bA e 3) (bA e 9) h x K:=by kernel_rfl
theorem zma {C gl e h x K}:NW C gl (.loop (.scope PM)) ⟨e,h,x⟩ K=PA C gl (.scope PM) K [(3,bA e 3),(9,bA e 9)] h x:=ZC
def HT:ACode:=.pr [3] (.seq (rg [mV 18 3,
cL 19 OJ [18]] [3])
(.seq (rg [mV 20 3,
mV 2 20] [2])
.ret))
def z4M (C:Hd)(gl:GL)(v3:AV)(h:aA)(x:Esc)(K:KT):Prop:=
 C OJ [v3] h fun t1 h2 y3=>
 K .ret ⟨[(2,v3)],h2,(y3++x)⟩
theorem zhV {C gl e h x K}:NW C gl HT ⟨e,h,x⟩ K=z4M C gl (bA e 3) h x K:=by kernel_rfl
def z1R (q1 q2:ACode):ACode:=(.det (.seq (rg [mV 2 (.c (.p (.sl none [])))] [0])
(.seq (rg [uO 3 (.new0 none)] [0,3])
(.seq (.seq (rg [mV 5 0,
uO 6 (.nilchk 5),
fA 7 2 none 6,
lD 8 none 7,
uO 9 (.mrange 8)] [3,9])
(.block 0 (.loop (.scope q1))))
q2))))
def lW:AFun:=⟨1,[.t 2],z1R PM HT,false,true⟩
def yR (C:Hd)(gl:GL)(q1 q2:ACode)(v0:AV)(h:aA)(x:Esc)(K:KT):Prop:=
 nwK none h fun t1 h2 y3=>
 pK (rA v0) fun t4=>
 pK (jA 2 none t4) fun t5=>
 pK (eA none t5 h2) fun t6=>
 wK (JC t6 h2) fun t7 h8 y9=>
 NW C gl (.loop (.scope q1)) ⟨[(3,t1),(9,t7)],h8,(y9++(y3++x))⟩ (yA 0 (NA C gl q2 K))
theorem zaU {C gl q1 q2 v0 h x K}:NW C gl (z1R q1 q2) ⟨enter [v0],h,x⟩ K=yR C gl q1 q2 v0 h x K:=by kernel_rfl
theorem zhT {C gl v0 h x K}:NW C gl lW.body ⟨enter [v0],h,x⟩ K=yR C gl PM HT v0 h x K:=zaU
def zcM:ACode:=(.seq (rg [mV 5 0,
lN 6 5,
mV 4 6] [0,1,4])
(rg [mV 7 0,
mV 8 4,
mV 9 4,
uO 10 (.conv (.i .u64) 9),
cL 11 yG [10],
mV 12 1,
cL 13 DG [7,(cI 0),8,11,12]] []))
def EW:AFun:=⟨2,[],zcM,true,false⟩
def jY (C:Hd)(gl:GL)(v0 v1:AV)(h:aA)(x:Esc)(K:KT):Prop:=
 pK (OA v0) fun t1=>
 pK (DH .u64 t1) fun t2=>
 C yG [t2] h fun t3 h4 y5=>
 C DG [v0,(AI 0),t1,t3,v1] h4 fun t6 h7 y8=>
 K .normal ⟨[],h7,(y8++(y5++x))⟩
theorem ziK {C gl v0 v1 h x K}:NW C gl EW.body ⟨enter [v0,v1],h,x⟩ K=jY C gl v0 v1 h x K:=by kernel_rfl
def zcB:ACode:=(.seq (rg [uO 2 (.box 0),
uO 3 (.box 1),
mV 4 (cI 0)] [2,3])
(.seq (rg [fA 5 0 none 2,
lD 6 none 5,
fA 7 0 none 3,
lD 8 none 7,
cL 9 LE [6,8],
mV 4 9] [4])
.ret))
def bW:AFun:=⟨2,[.t 4],zcB,false,false⟩
def XX (C:Hd)(gl:GL)(v0 v1:AV)(h:aA)(x:Esc)(K:KT):Prop:=
 wK (vB v0 h) fun t1 h2 y3=>
 wK (vB v1 h2) fun t4 h5 y6=>
 pK (jA 0 none t1) fun t7=>
 pK (eA none t7 h5) fun t8=>
 pK (jA 0 none t4) fun t9=>
 pK (eA none t9 h5) fun t10=>
 C LE [t8,t10] h5 fun t11 h12 y13=>
 K .ret ⟨[(4,t11)],h12,(y13++(y6++(y3++x)))⟩
theorem zhD {C gl v0 v1 h x K}:NW C gl bW.body ⟨enter [v0,v1],h,x⟩ K=XX C gl v0 v1 h x K:=by kernel_rfl
def zdc:ACode:=(.seq (rg [mV 4 (cI 0)] [0,1])
(.seq (rg [mV 5 0,
mV 6 1,
cL 7 IJ [5,6],
mV 4 7] [4])
.ret))
def MQ:AFun:=⟨2,[.t 4],zdc,false,false⟩
def RY (C:Hd)(gl:GL)(v0 v1:AV)(h:aA)(x:Esc)(K:KT):Prop:=
 C IJ [v0,v1] h fun t1 h2 y3=>
 K .ret ⟨[(4,t1)],h2,(y3++x)⟩
theorem zk1 {C gl v0 v1 h x K}:NW C gl MQ.body ⟨enter [v0,v1],h,x⟩ K=RY C gl v0 v1 h x K:=by kernel_rfl
def zcJ:ACode:=(.seq (rg [mV 0 (.c (.p (.sl none [])))] [])
(.seq (rg [uO 1 (.bsl false none 6 (.str []) [(0,(cS [])),(1,(cS [119,97,105,116,115])),(2,(cS [114,117,110,115])),(3,(cS [102,97,105,108,101,100])),(4,(cS [100,111,110,101])),(5,(cS [115,99,114,97,112,112,101,100]))]),
mV 0 1] [0])
.ret))
def tW:AFun:=⟨0,[.t 0],zcJ,false,false⟩
def eY (C:Hd)(gl:GL)(h:aA)(x:Esc)(K:KT):Prop:=
 wK (RA false none 6 (.str []) [(0,(.p (.str []))),(1,(.p (.str [119,97,105,116,115]))),(2,(.p (.str [114,117,110,115]))),(3,(.p (.str [102,97,105,108,101,100]))),(4,(.p (.str [100,111,110,101]))),(5,(.p (.str [115,99,114,97,112,112,101,100])))] h) fun t1 h2 y3=>
 K .ret ⟨[(0,t1)],h2,(y3++x)⟩
theorem zim {C gl h x K}:NW C gl tW.body ⟨enter [],h,x⟩ K=eY C gl h x K:=by kernel_rfl
def YZ:ACode:=.pr [0,1,5,6] (rg [mV 20 6,
bN 21 .add 20 (cI 1),
mV 6 21] [0,1,5,6])
def z4X (C:Hd)(gl:GL)(v0 v1 v5 v6:AV)(h:aA)(x:Esc)(K:KT):Prop:=
 pK (gA .add v6 (AI 1)) fun t1=>
 K .normal ⟨[(0,v0),(1,v1),(5,v5),(6,t1)],h,x⟩
theorem ziw {C gl e h x K}:NW C gl YZ ⟨e,h,x⟩ K=z4X C gl (bA e 0) (bA e 1) (bA e 5) (bA e 6) h x K:=by kernel_rfl
def z2b (q1:ACode):ACode:=.pr [0,1,5,6] (.seq (.seq (rg [mV 16 6,
mV 17 0,
lN 18 17,
bN 19 .lss 16 18] [0,1,5,6,19])
(.cond 19 .skip
(.exit 0)))
(.seq (.block 1 (.seq (rg [mV 22 0,
mV 23 6,
iA 24 none 22 23,
lD 25 none 24,
mV 7 25] [0,1,5,6,7])
(.seq (rg [mV 26 1,
mV 27 7,
uO 28 (.callv 26 [27]),
uO 29 (.un .not 28)] [0,1,5,6,7,29])
(.cond 29 (.seq (rg [mV 30 0,
mV 31 5,
mV 32 7,
iA 33 none 30 31,
wO (.store none 33 32)] [0,1,5,6])
(rg [mV 34 5,
bN 35 .add 34 (cI 1),
mV 5 35] [0,1,5,6]))
.skip))))
q1))
def VM:ACode:=z2b YZ
def iY (C:Hd)(gl:GL)(q1:ACode)(v0 v1 v5 v6:AV)(h:aA)(x:Esc)(K:KT):Prop:=
 pK (OA v0) fun t1=>
 pK (gA .lss v6 t1) fun t2=>
 mA t2 (pK (wA none v0 v6 h) fun t3=>
 pK (eA none t3 h) fun t4=>
 sJ C v1 [t4] h fun t5 h6 y7=>
 pK (oUn .not t5) fun t8=>
 mA t8 (pK (wA none v0 v5 h6) fun t9=>
 wK (tA none t9 t4 h6) fun t10 h11 y12=>
 pK (gA .add v5 (AI 1)) fun t13=>
 NW C gl q1 ⟨[(0,v0),(1,v1),(5,t13),(6,v6)],h11,(y12++(y7++x))⟩ K)
 (NW C gl q1 ⟨[(0,v0),(1,v1),(5,v5),(6,v6),(7,t4),(29,t8)],h6,(y7++x)⟩ K))
 (K (.exit 0) ⟨[(0,v0),(1,v1),(5,v5),(6,v6),(19,t2)],h,x⟩)
theorem zbe {C gl q1 e h x K}:NW C gl (z2b q1) ⟨e,h,x⟩ K=iY C gl q1 (bA e 0) (bA e 1) (bA e 5) (bA e 6) h x K:=by kernel_rfl
theorem zix {C gl e h x K}:NW C gl VM ⟨e,h,x⟩ K=iY C gl YZ (bA e 0) (bA e 1) (bA e 5) (bA e 6) h x K:=zbe
theorem zmh {C gl e h x K}:NW C gl (.loop VM) ⟨e,h,x⟩ K=PA C gl VM K [(0,bA e 0),(1,bA e 1),(5,bA e 5),(6,bA e 6)] h x:=wB
def OT:ACode:=.pr [0,5] (.seq (rg [mV 36 0,
mV 37 5,
uO 38 (.slice none 36 (some 37) none none),
wO (.clr none (.str []) 38)] [0,5])
(.seq (rg [mV 39 0,
mV 40 5,
uO 41 (.slice none 39 none (some 40) none),
mV 4 41] [4])
.ret))
def z4Y (C:Hd)(gl:GL)(v0 v5:AV)(h:aA)(x:Esc)(K:KT):Prop:=
 pK (eD none v0 (some v5) none none h) fun t1=>
 wK (oClr none (.str []) t1 h) fun t2 h3 y4=>
 pK (eD none v0 none (some v5) none h3) fun t5=>
 K .ret ⟨[(4,t5)],h3,(y4++x)⟩
theorem ziy {C gl e h x K}:NW C gl OT ⟨e,h,x⟩ K=z4Y C gl (bA e 0) (bA e 5) h x K:=by kernel_rfl
def z2a (q2 q3:ACode):ACode:=(.seq (rg [mV 4 (.c (.p (.sl none [])))] [0,1])
(.seq (rg [mV 8 0,
mV 9 1,
cL 10 UL [8,9],
mV 5 10] [0,1,5])
(.seq (.seq (rg [mV 11 5,
bN 12 .eql 11 (cI (-1))] [0,1,5,12])
(.cond 12 (.seq (rg [mV 13 0,
mV 4 13] [4])
.ret)
.skip))
(.seq (.seq (rg [mV 14 5,
bN 15 .add 14 (cI 1),
mV 6 15] [0,1,5,6])
(.block 0 (.loop q2)))
q3))))
def wW:AFun:=⟨2,[.t 4],z2a VM OT,true,false⟩
def FR (C:Hd)(gl:GL)(q2 q3:ACode)(v0 v1:AV)(h:aA)(x:Esc)(K:KT):Prop:=
 C UL [v0,v1] h fun t1 h2 y3=>
 pK (gA .eql t1 (AI (-1))) fun t4=>
 mA t4 (K .ret ⟨[(4,v0)],h2,(y3++x)⟩)
 (pK (gA .add t1 (AI 1)) fun t5=>
 NW C gl (.loop q2) ⟨[(0,v0),(1,v1),(5,t1),(6,t5)],h2,(y3++x)⟩ (yA 0 (NA C gl q3 K)))
theorem zbd {C gl q2 q3 v0 v1 h x K}:NW C gl (z2a q2 q3) ⟨enter [v0,v1],h,x⟩ K=FR C gl q2 q3 v0 v1 h x K:=by kernel_rfl
theorem ziv {C gl v0 v1 h x K}:NW C gl wW.body ⟨enter [v0,v1],h,x⟩ K=FR C gl VM OT v0 v1 h x K:=zbd
def zcE:ACode:=(.seq (rg [mV 4 cF] [0,1,2])
(.seq (dr [dF (lD 5 none 1) [1],
dF (uO 6 (.nilchk 5)) [5],
dF (fA 7 2 none 6) [6],
dF (lD 8 none 7) [7],
dF (mV 9 0) [0],
dF (uO 10 (.look (none,[2]) false (.p (.agg [.int .i64 0,.int .i64 0,.str [],.str [],.int .i64 0])) 8 9)) [8,9],
dF (uO 11 (.field 0 none 10)) [10],
dF (bN 12 .neq 11 (cI 1)) [11],
dF (mV 13 12) [12],
dF (gD 14 13 false (.load none 1)) [1,13],
dF (gD 15 13 false (.nilchk 14)) [14,13],
dF (gD 16 13 false (.faddr 2 none 15)) [15,13],
dF (gD 17 13 false (.load none 16)) [16,13],
dF (gD 18 13 false (.mv 0)) [0,13],
dF (gD 19 13 false (.look (none,[2]) false (.p (.agg [.int .i64 0,.int .i64 0,.str [],.str [],.int .i64 0])) 17 18)) [17,18,13],
dF (gD 20 13 false (.field 2 none 19)) [19,13],
dF (gD 21 13 false (.load none 2)) [2,13],
dF (gD 22 13 false (.bin .neq 20 21)) [20,21,13],
dF (uO 23 (.pick 13 cT 22)) [13,22],
dF (mV 4 23) [23]] [4])
.ret))
def eW:AFun:=⟨3,[.t 4],zcE,false,false⟩
def nO (C:Hd)(gl:GL)(v0 v1 v2:AV)(h:aA)(x:Esc)(K:KT):Prop:=
 pK (eA none v1 h) fun t1=>
 pK (rA t1) fun t2=>
 pK (jA 2 none t2) fun t3=>
 pK (eA none t3 h) fun t4=>
 pK (QA (none,[2]) false (.p (.agg [.int .i64 0,.int .i64 0,.str [],.str [],.int .i64 0])) t4 v0 h) fun t5=>
 pK (mK 0 none t5) fun t6=>
 pK (gA .neq t6 (AI 1)) fun t7=>
 gP t7 false (eA none v1 h) h fun t8 h9 y10=>
 gP t7 false (rA t8) h9 fun t11 h12 y13=>
 gP t7 false (jA 2 none t11) h12 fun t14 h15 y16=>
 gP t7 false (eA none t14 h15) h15 fun t17 h18 y19=>
 gM t7 false v0 h18 fun t20 h21 y22=>
 gP t7 false (QA (none,[2]) false (.p (.agg [.int .i64 0,.int .i64 0,.str [],.str [],.int .i64 0])) t17 t20 h21) h21 fun t23 h24 y25=>
 gP t7 false (mK 2 none t23) h24 fun t26 h27 y28=>
 gP t7 false (eA none v2 h27) h27 fun t29 h30 y31=>
 gP t7 false (gA .neq t26 t29) h30 fun t32 h33 y34=>
 pK (DA t7 (AB true) t32) fun t35=>
 K .ret ⟨[(4,t35)],h33,(y34++(y31++(y28++(y25++(y22++(y19++(y16++(y13++(y10++x)))))))))⟩
theorem zhG {C gl v0 v1 v2 h x K}:NW C gl eW.body ⟨enter [v0,v1,v2],h,x⟩ K=nO C gl v0 v1 v2 h x K:=by kernel_rfl
def zcP:ACode:=(rg [mV 4 0,
mV 5 0,
lN 6 5,
mV 7 1,
cL 8 cM [4,6,7]] [])
def HW:AFun:=⟨2,[],zcP,true,false⟩
def mY (C:Hd)(gl:GL)(v0 v1:AV)(h:aA)(x:Esc)(K:KT):Prop:=
 pK (OA v0) fun t1=>
 C cM [v0,t1,v1] h fun t2 h3 y4=>
 K .normal ⟨[],h3,(y4++x)⟩
theorem ziN {C gl v0 v1 h x K}:NW C gl HW.body ⟨enter [v0,v1],h,x⟩ K=mY C gl v0 v1 h x K:=by kernel_rfl
def zcF:ACode:=(.seq (rg [mV 5 (cI 0)] [0,1,2])
(.seq (dr [dF (lD 6 none 2) [2],
dF (uO 7 (.nilchk 6)) [6],
dF (fA 8 2 none 7) [7],
dF (lD 9 none 8) [8],
dF (mV 10 0) [0],
dF (uO 11 (.look (none,[2]) false (.p (.agg [.int .i64 0,.int .i64 0,.str [],.str [],.int .i64 0])) 9 10)) [9,10],
dF (uO 12 (.field 1 none 11)) [11],
dF (lD 13 none 2) [2],
dF (uO 14 (.nilchk 13)) [13],
dF (fA 15 2 none 14) [14],
dF (lD 16 none 15) [15],
dF (mV 17 1) [1],
dF (uO 18 (.look (none,[2]) false (.p (.agg [.int .i64 0,.int .i64 0,.str [],.str [],.int .i64 0])) 16 17)) [16,17],
dF (uO 19 (.field 1 none 18)) [18],
dF (bN 20 .sub 12 19) [12,19],
dT (cL 21 BG [20]) [20],
dF (mV 5 21) [21]] [5])
.ret))
def fW:AFun:=⟨3,[.t 5],zcF,false,false⟩
def ZX (C:Hd)(gl:GL)(v0 v1 v2:AV)(h:aA)(x:Esc)(K:KT):Prop:=
 pK (eA none v2 h) fun t1=>
 pK (rA t1) fun t2=>
 pK (jA 2 none t2) fun t3=>
 pK (eA none t3 h) fun t4=>
 pK (QA (none,[2]) false (.p (.agg [.int .i64 0,.int .i64 0,.str [],.str [],.int .i64 0])) t4 v0 h) fun t5=>
 pK (mK 1 none t5) fun t6=>
 pK (eA none v2 h) fun t7=>
 pK (rA t7) fun t8=>
 pK (jA 2 none t8) fun t9=>
 pK (eA none t9 h) fun t10=>
 pK (QA (none,[2]) false (.p (.agg [.int .i64 0,.int .i64 0,.str [],.str [],.int .i64 0])) t10 v1 h) fun t11=>
 pK (mK 1 none t11) fun t12=>
 pK (gA .sub t6 t12) fun t13=>
 YA C BG [t13] h fun t14 h15 y16=>
 K .ret ⟨[(5,t14)],h15,(y16++x)⟩
theorem zhH {C gl v0 v1 v2 h x K}:NW C gl fW.body ⟨enter [v0,v1,v2],h,x⟩ K=ZX C gl v0 v1 v2 h x K:=by kernel_rfl
def zcI:ACode:=(.seq (rg [mV 2 (cI 0)] [0])
(.seq (.block 0 (.seq (rg [mV 4 0,
bN 5 .lss 4 (cI 0),
mV 3 5] [0,3])
(.cond 3 (.seq (rg [mV 2 (cI (-1))] [2])
.ret)
(.seq (rg [mV 7 0,
bN 8 .gtr 7 (cI 0),
mV 6 8] [6])
(.cond 6 (.seq (rg [mV 2 (cI 1)] [2])
.ret)
.skip)))))
(.seq (rg [mV 2 (cI 0)] [2])
.ret)))
def sW:AFun:=⟨1,[.t 2],zcI,false,false⟩
def pO (C:Hd)(gl:GL)(v0:AV)(h:aA)(x:Esc)(K:KT):Prop:=
 pK (gA .lss v0 (AI 0)) fun t1=>
 mA t1 (K .ret ⟨[(2,(AI (-1)))],h,x⟩)
 (pK (gA .gtr v0 (AI 0)) fun t2=>
 mA t2 (K .ret ⟨[(2,(AI 1))],h,x⟩)
 (K .ret ⟨[(2,(AI 0))],h,x⟩))
theorem zil {C gl v0 h x K}:NW C gl sW.body ⟨enter [v0],h,x⟩ K=pO C gl v0 h x K:=by kernel_rfl
def tT:ACode:=.pr [0] (.seq (rg [mV 15 0,
mV 4 15] [4])
.ret)
def z4u (C:Hd)(gl:GL)(v0:AV)(h:aA)(x:Esc)(K:KT):Prop:=
 K .ret ⟨[(4,v0)],h,x⟩
theorem zgV {C gl e h x K}:NW C gl tT ⟨e,h,x⟩ K=z4u C gl (bA e 0) h x K:=by kernel_rfl
def z14 (q1:ACode):ACode:=(.seq (rg [mV 4 (cI 0)] [0,1])
(.seq (.seq (rg [mV 5 1,
bN 6 .lss 5 (cI 1)] [0,1,6])
(.cond 6 (.seq (rg [mV 4 (cI 0)] [4])
.ret)
.skip))
(.seq (rg [mV 7 0,
mV 8 1,
bN 9 .rem 7 8,
mV 0 9] [0,1])
(.seq (.seq (rg [mV 10 0,
bN 11 .lss 10 (cI 0)] [0,1,11])
(.cond 11 (rg [mV 12 0,
mV 13 1,
bN 14 .add 12 13,
mV 0 14] [0])
.skip))
q1))))
def EV:AFun:=⟨2,[.t 4],z14 tT,false,false⟩
def mR (C:Hd)(gl:GL)(q1:ACode)(v0 v1:AV)(h:aA)(x:Esc)(K:KT):Prop:=
 pK (gA .lss v1 (AI 1)) fun t1=>
 mA t1 (K .ret ⟨[(4,(AI 0))],h,x⟩)
 (pK (gA .rem v0 v1) fun t2=>
 pK (gA .lss t2 (AI 0)) fun t3=>
 mA t3 (pK (gA .add t2 v1) fun t4=>
 NW C gl q1 ⟨[(0,t4)],h,x⟩ K)
 (NW C gl q1 ⟨[(0,t2),(1,v1),(11,t3)],h,x⟩ K))
theorem za7 {C gl q1 v0 v1 h x K}:NW C gl (z14 q1) ⟨enter [v0,v1],h,x⟩ K=mR C gl q1 v0 v1 h x K:=by kernel_rfl
theorem zgU {C gl v0 v1 h x K}:NW C gl EV.body ⟨enter [v0,v1],h,x⟩ K=mR C gl tT v0 v1 h x K:=za7
def nN:ACode:=.pr [0,1,2,6,7,8] (.seq (.seq (rg [mV 11 8,
mV 12 1,
bN 13 .leq 11 12] [0,1,2,6,7,8,13])
(.cond 13 .skip
(.exit 0)))
(.block 1 (.seq (rg [mV 14 0,
mV 15 7,
mV 16 8,
mV 17 2,
cL 18 WF [14,15,16,17]] [0,1,2,6,8])
(.seq (rg [mV 19 8,
mV 7 19] [0,1,2,6,7,8])
(rg [mV 20 8,
mV 21 6,
bN 22 .add 20 21,
mV 8 22] [0,1,2,6,7,8])))))
def z5y (C:Hd)(gl:GL)(v0 v1 v2 v6 v7 v8:AV)(h:aA)(x:Esc)(K:KT):Prop:=
 pK (gA .leq v8 v1) fun t1=>
 mA t1 (C WF [v0,v7,v8,v2] h fun t2 h3 y4=>
 pK (gA .add v8 v6) fun t5=>
 K .normal ⟨[(0,v0),(1,v1),(2,v2),(6,v6),(7,v8),(8,t5)],h3,(y4++x)⟩)
 (K (.exit 0) ⟨[(0,v0),(1,v1),(2,v2),(6,v6),(7,v7),(8,v8),(13,t1)],h,x⟩)
theorem zjv {C gl e h x K}:NW C gl nN ⟨e,h,x⟩ K=z5y C gl (bA e 0) (bA e 1) (bA e 2) (bA e 6) (bA e 7) (bA e 8) h x K:=by kernel_rfl
theorem zm0 {C gl e h x K}:NW C gl (.loop nN) ⟨e,h,x⟩ K=PA C gl nN K [(0,bA e 0),(1,bA e 1),(2,bA e 2),(6,bA e 6),(7,bA e 7),(8,bA e 8)] h x:=wB
def AP:ACode:=.pr [0,1,2,6,7,8] (.seq (.seq (rg [mV 33 8,
mV 34 1,
bN 35 .leq 33 34] [0,1,2,6,7,8,35])
(.cond 35 .skip
(.exit 4)))
(.block 5 (.seq (rg [mV 36 0,
mV 37 7,
mV 38 7,
mV 39 6,
bN 40 .add 38 39,
mV 41 8,
mV 42 2,
cL 43 wS [36,37,40,41,42]] [0,1,2,6,8])
(.seq (rg [mV 44 8,
mV 7 44] [0,1,2,6,7,8])
(rg [mV 45 8,
mV 46 6,
bN 47 .mul (cI 2) 46,
bN 48 .add 45 47,
mV 8 48] [0,1,2,6,7,8])))))
def z5z (C:Hd)(gl:GL)(v0 v1 v2 v6 v7 v8:AV)(h:aA)(x:Esc)(K:KT):Prop:=
 pK (gA .leq v8 v1) fun t1=>
 mA t1 (pK (gA .add v7 v6) fun t2=>
 C wS [v0,v7,t2,v8,v2] h fun t3 h4 y5=>
 pK (gA .mul (AI 2) v6) fun t6=>
 pK (gA .add v8 t6) fun t7=>
 K .normal ⟨[(0,v0),(1,v1),(2,v2),(6,v6),(7,v8),(8,t7)],h4,(y5++x)⟩)
 (K (.exit 4) ⟨[(0,v0),(1,v1),(2,v2),(6,v6),(7,v7),(8,v8),(35,t1)],h,x⟩)
theorem zjw {C gl e h x K}:NW C gl AP ⟨e,h,x⟩ K=z5z C gl (bA e 0) (bA e 1) (bA e 2) (bA e 6) (bA e 7) (bA e 8) h x K:=by kernel_rfl
theorem zm1 {C gl e h x K}:NW C gl (.loop AP) ⟨e,h,x⟩ K=PA C gl AP K [(0,bA e 0),(1,bA e 1),(2,bA e 2),(6,bA e 6),(7,bA e 7),(8,bA e 8)] h x:=wB
def z0m:ACode:=.pr [0,1,2,6] (rg [mV 61 6,
bN 62 .mul 61 (cI 2),
mV 6 62] [0,1,2,6])
def z50 (C:Hd)(gl:GL)(v0 v1 v2 v6:AV)(h:aA)(x:Esc)(K:KT):Prop:=
 pK (gA .mul v6 (AI 2)) fun t1=>
 K .normal ⟨[(0,v0),(1,v1),(2,v2),(6,t1)],h,x⟩
theorem zjx {C gl e h x K}:NW C gl z0m ⟨e,h,x⟩ K=z50 C gl (bA e 0) (bA e 1) (bA e 2) (bA e 6) h x K:=by kernel_rfl
def z2C (q3:ACode):ACode:=.pr [0,1,2,6,7] (.seq (.seq (rg [mV 49 7,
mV 50 6,
bN 51 .add 49 50,
mV 9 51] [0,1,2,6,7,9])
(.seq (rg [mV 52 9,
mV 53 1,
bN 54 .lss 52 53] [0,1,2,6,7,9,54])
(.cond 54 (rg [mV 55 0,
mV 56 7,
mV 57 9,
mV 58 1,
mV 59 2,
cL 60 wS [55,56,57,58,59]] [0,1,2,6])
.skip)))
q3)
def z0n:ACode:=z2C z0m
def BY (C:Hd)(gl:GL)(q3:ACode)(v0 v1 v2 v6 v7:AV)(h:aA)(x:Esc)(K:KT):Prop:=
 pK (gA .add v7 v6) fun t1=>
 pK (gA .lss t1 v1) fun t2=>
 mA t2 (C wS [v0,v7,t1,v1,v2] h fun t3 h4 y5=>
 NW C gl q3 ⟨[(0,v0),(1,v1),(2,v2),(6,v6)],h4,(y5++x)⟩ K)
 (NW C gl q3 ⟨[(0,v0),(1,v1),(2,v2),(6,v6),(7,v7),(9,t1),(54,t2)],h,x⟩ K)
theorem zb7 {C gl q3 e h x K}:NW C gl (z2C q3) ⟨e,h,x⟩ K=BY C gl q3 (bA e 0) (bA e 1) (bA e 2) (bA e 6) (bA e 7) h x K:=by kernel_rfl
theorem zjy {C gl e h x K}:NW C gl z0n ⟨e,h,x⟩ K=BY C gl z0m (bA e 0) (bA e 1) (bA e 2) (bA e 6) (bA e 7) h x K:=zb7
def z2D (q2 q4:ACode):ACode:=.pr [0,1,2,6] (.seq (.seq (rg [mV 28 6,
mV 29 1,
bN 30 .lss 28 29] [0,1,2,6,30])
(.cond 30 .skip
(.exit 2)))
(.block 3 (.seq (rg [mV 31 6,
bN 32 .mul (cI 2) 31,
mV 7 (cI 0),
mV 8 32] [0,1,2,6,7,8])
(.seq (.block 4 (.loop q2))
q4))))
def BP:ACode:=z2D AP z0n
def CY (C:Hd)(gl:GL)(q2 q4:ACode)(v0 v1 v2 v6:AV)(h:aA)(x:Esc)(K:KT):Prop:=
 pK (gA .lss v6 v1) fun t1=>
 mA t1 (pK (gA .mul (AI 2) v6) fun t2=>
 NW C gl (.loop q2) ⟨[(0,v0),(1,v1),(2,v2),(6,v6),(7,(AI 0)),(8,t2)],h,x⟩ (yA 4 (NA C gl q4 (yA 3 K))))
 (K (.exit 2) ⟨[(0,v0),(1,v1),(2,v2),(6,v6),(30,t1)],h,x⟩)
theorem zb8 {C gl q2 q4 e h x K}:NW C gl (z2D q2 q4) ⟨e,h,x⟩ K=CY C gl q2 q4 (bA e 0) (bA e 1) (bA e 2) (bA e 6) h x K:=by kernel_rfl
theorem zjz {C gl e h x K}:NW C gl BP ⟨e,h,x⟩ K=CY C gl AP z0n (bA e 0) (bA e 1) (bA e 2) (bA e 6) h x K:=zb8
theorem zm2 {C gl e h x K}:NW C gl (.loop BP) ⟨e,h,x⟩ K=PA C gl BP K [(0,bA e 0),(1,bA e 1),(2,bA e 2),(6,bA e 6)] h x:=wB
def z2E (q5:ACode):ACode:=.pr [0,1,2,6,7] (.seq (rg [mV 23 0,
mV 24 7,
mV 25 1,
mV 26 2,
cL 27 WF [23,24,25,26]] [0,1,2,6])
(.block 2 (.loop q5)))
def WT:ACode:=z2E BP
def DY (C:Hd)(gl:GL)(q5:ACode)(v0 v1 v2 v6 v7:AV)(h:aA)(x:Esc)(K:KT):Prop:=
 C WF [v0,v7,v1,v2] h fun t1 h2 y3=>
 NW C gl (.loop q5) ⟨[(0,v0),(1,v1),(2,v2),(6,v6)],h2,(y3++x)⟩ (yA 2 K)
theorem zb9 {C gl q5 e h x K}:NW C gl (z2E q5) ⟨e,h,x⟩ K=DY C gl q5 (bA e 0) (bA e 1) (bA e 2) (bA e 6) (bA e 7) h x K:=by kernel_rfl
theorem zj0 {C gl e h x K}:NW C gl WT ⟨e,h,x⟩ K=DY C gl BP (bA e 0) (bA e 1) (bA e 2) (bA e 6) (bA e 7) h x K:=zb9
def z2B (q1 q6:ACode):ACode:=(.seq (rg [mV 6 (cI 20)] [0,1,2,6])
(.seq (rg [mV 10 6,
mV 7 (cI 0),
mV 8 10] [0,1,2,6,7,8])
(.seq (.block 0 (.loop q1))
q6)))
def SW:AFun:=⟨3,[],z2B nN WT,true,false⟩
def UR (C:Hd)(gl:GL)(q1 q6:ACode)(v0 v1 v2:AV)(h:aA)(x:Esc)(K:KT):Prop:=
 NW C gl (.loop q1) ⟨[(0,v0),(1,v1),(2,v2),(6,(AI 20)),(7,(AI 0)),(8,(AI 20))],h,x⟩ (yA 0 (NA C gl q6 K))
theorem zb6 {C gl q1 q6 v0 v1 v2 h x K}:NW C gl (z2B q1 q6) ⟨enter [v0,v1,v2],h,x⟩ K=UR C gl q1 q6 v0 v1 v2 h x K:=by kernel_rfl
theorem zju {C gl v0 v1 v2 h x K}:NW C gl SW.body ⟨enter [v0,v1,v2],h,x⟩ K=UR C gl nN WT v0 v1 v2 h x K:=zb6
def CM:ACode:=.pr [5,6,7] (.seq (rg [bN 8 .lss 7 6] [5,6,7,8])
(.seq (.cond 8 .skip
(.exit 0))
(.seq (.block 1 (.seq (rg [iA 9 none 5 7,
lD 10 none 9,
mV 4 10] [4,5,6,7])
(.seq (rg [mV 11 4,
bN 12 .neq 11 (cI 0)] [4,5,6,7,12])
(.cond 12 (.seq (rg [mV 13 4,
mV 2 13] [2])
.ret)
.skip))))
(rg [bN 14 .add 7 (cI 1),
mV 7 14] [5,6,7]))))
def z4l (C:Hd)(gl:GL)(v5 v6 v7:AV)(h:aA)(x:Esc)(K:KT):Prop:=
 pK (gA .lss v7 v6) fun t1=>
 mA t1 (pK (wA none v5 v7 h) fun t2=>
 pK (eA none t2 h) fun t3=>
 pK (gA .neq t3 (AI 0)) fun t4=>
 mA t4 (K .ret ⟨[(2,t3)],h,x⟩)
 (pK (gA .add v7 (AI 1)) fun t5=>
 K .normal ⟨[(5,v5),(6,v6),(7,t5)],h,x⟩))
 (K (.exit 0) ⟨[(5,v5),(6,v6),(7,v7),(8,t1)],h,x⟩)
theorem zg0 {C gl e h x K}:NW C gl CM ⟨e,h,x⟩ K=z4l C gl (bA e 5) (bA e 6) (bA e 7) h x K:=by kernel_rfl
theorem zlM {C gl e h x K}:NW C gl (.loop CM) ⟨e,h,x⟩ K=PA C gl CM K [(5,bA e 5),(6,bA e 6),(7,bA e 7)] h x:=wB
def lT:ACode:=.pr [] (.seq (rg [mV 2 (cI 0)] [2])
.ret)
def z4m (C:Hd)(gl:GL)(h:aA)(x:Esc)(K:KT):Prop:=
 K .ret ⟨[(2,(AI 0))],h,x⟩
theorem zg1 {C gl e h x K}:NW C gl lT ⟨e,h,x⟩ K=z4m C gl h x K:=by kernel_rfl
def z1u (q1 q2:ACode):ACode:=(.seq (rg [mV 2 (cI 0)] [0])
(.seq (.seq (rg [mV 5 0,
lN 6 5,
mV 7 (cI 0)] [5,6,7])
(.block 0 (.loop q1)))
q2))
def mQ:AFun:=⟨1,[.t 2],z1u CM lT,false,false⟩
def fR (C:Hd)(gl:GL)(q1 q2:ACode)(v0:AV)(h:aA)(x:Esc)(K:KT):Prop:=
 pK (OA v0) fun t1=>
 NW C gl (.loop q1) ⟨[(5,v0),(6,t1),(7,(AI 0))],h,x⟩ (yA 0 (NA C gl q2 K))
theorem zax {C gl q1 q2 v0 h x K}:NW C gl (z1u q1 q2) ⟨enter [v0],h,x⟩ K=fR C gl q1 q2 v0 h x K:=by kernel_rfl
theorem zgz {C gl v0 h x K}:NW C gl mQ.body ⟨enter [v0],h,x⟩ K=fR C gl CM lT v0 h x K:=zax
def qN:ACode:=.pr [1,16,17,18] (.seq (rg [bN 19 .lss 18 17] [1,16,17,18,19])
(.seq (.cond 19 .skip
(.exit 1))
(.seq (.block 2 (.seq (rg [mV 20 18,
iA 21 none 16 18,
lD 22 none 21,
mV 3 20,
mV 4 22] [1,3,4,16,17,18])
(.block 3 (.seq (rg [mV 24 4,
cL 25 pD [24],
uO 26 (.un .not 25),
mV 23 26] [1,3,4,16,17,18,23])
(.cond 23 (.seq (rg [mV 2 (cI 5)] [2])
.ret)
(.seq (rg [fA 28 0 none 1,
lD 29 none 28,
mV 30 3,
uO 31 (.slice none 29 none (some 30) none),
mV 32 4,
cL 33 KE [31,32],
mV 27 33] [1,16,17,18,27])
(.cond 27 (.seq (rg [mV 2 (cI 6)] [2])
.ret)
.skip)))))))
(rg [bN 34 .add 18 (cI 1),
mV 18 34] [1,16,17,18]))))
def z59 (C:Hd)(gl:GL)(v1 v16 v17 v18:AV)(h:aA)(x:Esc)(K:KT):Prop:=
 pK (gA .lss v18 v17) fun t1=>
 mA t1 (pK (wA none v16 v18 h) fun t2=>
 pK (eA none t2 h) fun t3=>
 C pD [t3] h fun t4 h5 y6=>
 pK (oUn .not t4) fun t7=>
 mA t7 (K .ret ⟨[(2,(AI 5))],h5,(y6++x)⟩)
 (pK (jA 0 none v1) fun t8=>
 pK (eA none t8 h5) fun t9=>
 pK (eD none t9 none (some v18) none h5) fun t10=>
 C KE [t10,t3] h5 fun t11 h12 y13=>
 mA t11 (K .ret ⟨[(2,(AI 6))],h12,(y13++(y6++x))⟩)
 (pK (gA .add v18 (AI 1)) fun t14=>
 K .normal ⟨[(1,v1),(16,v16),(17,v17),(18,t14)],h12,(y13++(y6++x))⟩)))
 (K (.exit 1) ⟨[(1,v1),(16,v16),(17,v17),(18,v18),(19,t1)],h,x⟩)
theorem zjC {C gl e h x K}:NW C gl qN ⟨e,h,x⟩ K=z59 C gl (bA e 1) (bA e 16) (bA e 17) (bA e 18) h x K:=by kernel_rfl
theorem zm7 {C gl e h x K}:NW C gl (.loop qN) ⟨e,h,x⟩ K=PA C gl qN K [(1,bA e 1),(16,bA e 16),(17,bA e 17),(18,bA e 18)] h x:=wB
def ZT:ACode:=.pr [1] (.seq (.seq (rg [fA 35 1 none 1,
lD 36 none 35,
cL 37 zD [36,(cI 1),(cI 10)]] [37])
(.cond 37 (.seq (rg [mV 2 (cI 1)] [2])
.ret)
.skip))
(.seq (rg [mV 2 (cI 0)] [2])
.ret))
def WR (C:Hd)(gl:GL)(v1:AV)(h:aA)(x:Esc)(K:KT):Prop:=
 pK (jA 1 none v1) fun t1=>
 pK (eA none t1 h) fun t2=>
 C zD [t2,(AI 1),(AI 10)] h fun t3 h4 y5=>
 mA t3 (K .ret ⟨[(2,(AI 1))],h4,(y5++x)⟩)
 (K .ret ⟨[(2,(AI 0))],h4,(y5++x)⟩)
theorem ZY {C gl e h x K}:NW C gl ZT ⟨e,h,x⟩ K=WR C gl (bA e 1) h x K:=by kernel_rfl
def z2K (q1 q2:ACode):ACode:=(.seq (rg [uO 1 (.box 0),
mV 2 (cI 0)] [1])
(.seq (.block 0 (.seq (rg [fA 6 0 none 1,
lD 7 none 6,
lN 8 7,
bN 9 .eql 8 (cI 0),
mV 5 9] [1,5])
(.cond 5 (.seq (rg [mV 2 (cI 8)] [2])
.ret)
(.seq (rg [fA 11 0 none 1,
lD 12 none 11,
lN 13 12,
bN 14 .gtr 13 (cI 20),
mV 10 14] [1,10])
(.cond 10 (.seq (rg [mV 2 (cI 2)] [2])
.ret)
.skip)))))
(.seq (.seq (rg [fA 15 0 none 1,
lD 16 none 15,
lN 17 16,
mV 18 (cI 0)] [1,16,17,18])
(.block 1 (.loop q1)))
q2)))
def xQ:AFun:=⟨1,[.t 2],z2K qN ZT,false,false⟩
def XK (C:Hd)(gl:GL)(q1 q2:ACode)(v0:AV)(h:aA)(x:Esc)(K:KT):Prop:=
 wK (vB v0 h) fun t1 h2 y3=>
 pK (jA 0 none t1) fun t4=>
 pK (eA none t4 h2) fun t5=>
 pK (OA t5) fun t6=>
 pK (gA .eql t6 (AI 0)) fun t7=>
 mA t7 (K .ret ⟨[(2,(AI 8))],h2,(y3++x)⟩)
 (pK (jA 0 none t1) fun t8=>
 pK (eA none t8 h2) fun t9=>
 pK (OA t9) fun t10=>
 pK (gA .gtr t10 (AI 20)) fun t11=>
 mA t11 (K .ret ⟨[(2,(AI 2))],h2,(y3++x)⟩)
 (pK (jA 0 none t1) fun t12=>
 pK (eA none t12 h2) fun t13=>
 pK (OA t13) fun t14=>
 NW C gl (.loop q1) ⟨[(1,t1),(16,t13),(17,t14),(18,(AI 0))],h2,(y3++x)⟩ (yA 1 (NA C gl q2 K))))
theorem zbF {C gl q1 q2 v0 h x K}:NW C gl (z2K q1 q2) ⟨enter [v0],h,x⟩ K=XK C gl q1 q2 v0 h x K:=by kernel_rfl
theorem zjB {C gl v0 h x K}:NW C gl xQ.body ⟨enter [v0],h,x⟩ K=XK C gl qN ZT v0 h x K:=zbF
def pN:ACode:=.pr [0,9,10,11] (.seq (rg [bN 12 .lss 11 10] [0,9,10,11,12])
(.seq (.cond 12 .skip
(.exit 0))
(.seq (.block 1 (.seq (rg [mV 13 11,
iA 14 (some 8) 9 11,
lD 15 (some 8) 14,
uO 4 (.alloc [.p (.str []),.p (.int .i64 0),.p (.int .i64 0),.p (.int .i64 0),.p (.str []),.p (.str []),.p (.str []),.p (.int .i64 0)]),
mV 3 13,
wO (.store (some 8) 4 15)] [0,3,4,9,10,11])
(.seq (.seq (rg [lD 16 (some 8) 4,
cL 17 TJ [16],
mV 5 17] [0,3,4,5,9,10,11])
(.seq (rg [mV 18 5,
bN 19 .neq 18 (cI 0)] [0,3,4,5,9,10,11,19])
(.cond 19 (.seq (rg [mV 20 5,
mV 2 20] [2])
.ret)
.skip)))
(.seq (dr [dF (mV 21 3) [3],
dF (bN 22 .gtr 21 (cI 0)) [21],
dF (mV 23 22) [22],
dF (gD 24 23 true (.load (some 8) 4)) [4,23],
dF (gD 25 23 true (.mv 0)) [0,23],
dF (gD 26 23 true (.mv 3)) [3,23],
dF (gD 27 23 true (.bin .sub 26 (cI 1))) [26,23],
dF (gD 28 23 true (.iaddr (some 8) 25 27)) [25,27,23],
dF (gD 29 23 true (.load (some 8) 28)) [28,23],
dT (gD 30 23 true (.call RJ [24,29])) [24,29,23],
dF (gD 31 23 true (.bin .leq 30 (cI 0))) [30,23],
dF (uO 32 (.pick 23 31 cF)) [23,31]] [0,9,10,11,32])
(.cond 32 (.seq (rg [mV 2 (cI 7)] [2])
.ret)
.skip)))))
(rg [bN 33 .add 11 (cI 1),
mV 11 33] [0,9,10,11]))))
def z56 (C:Hd)(gl:GL)(v0 v9 v10 v11:AV)(h:aA)(x:Esc)(K:KT):Prop:=
 pK (gA .lss v11 v10) fun t1=>
 mA t1 (pK (wA (some 8) v9 v11 h) fun t2=>
 pK (eA (some 8) t2 h) fun t3=>
 alK [.p (.str []),.p (.int .i64 0),.p (.int .i64 0),.p (.int .i64 0),.p (.str []),.p (.str []),.p (.str []),.p (.int .i64 0)] h fun t4 h5 y6=>
 wK (tA (some 8) t4 t3 h5) fun t7 h8 y9=>
 pK (eA (some 8) t4 h8) fun t10=>
 C TJ [t10] h8 fun t11 h12 y13=>
 pK (gA .neq t11 (AI 0)) fun t14=>
 mA t14 (K .ret ⟨[(2,t11)],h12,(y13++(y9++(y6++x)))⟩)
 (pK (gA .gtr v11 (AI 0)) fun t15=>
 gP t15 true (eA (some 8) t4 h12) h12 fun t16 h17 y18=>
 gM t15 true v0 h17 fun t19 h20 y21=>
 gM t15 true v11 h20 fun t22 h23 y24=>
 gP t15 true (gA .sub t22 (AI 1)) h23 fun t25 h26 y27=>
 gP t15 true (wA (some 8) t19 t25 h26) h26 fun t28 h29 y30=>
 gP t15 true (eA (some 8) t28 h29) h29 fun t31 h32 y33=>
 gV t15 true h32 (YA C RJ [t16,t31] h32) fun t34 h35 y36=>
 gP t15 true (gA .leq t34 (AI 0)) h35 fun t37 h38 y39=>
 pK (DA t15 t37 (AB false)) fun t40=>
 mA t40 (K .ret ⟨[(2,(AI 7))],h38,(y39++(y36++(y33++(y30++(y27++(y24++(y21++(y18++(y13++(y9++(y6++x)))))))))))⟩)
 (pK (gA .add v11 (AI 1)) fun t41=>
 K .normal ⟨[(0,v0),(9,v9),(10,v10),(11,t41)],h38,(y39++(y36++(y33++(y30++(y27++(y24++(y21++(y18++(y13++(y9++(y6++x)))))))))))⟩)))
 (K (.exit 0) ⟨[(0,v0),(9,v9),(10,v10),(11,v11),(12,t1)],h,x⟩)
theorem zj9 {C gl e h x K}:NW C gl pN ⟨e,h,x⟩ K=z56 C gl (bA e 0) (bA e 9) (bA e 10) (bA e 11) h x K:=by kernel_rfl
theorem zm6 {C gl e h x K}:NW C gl (.loop (.scope pN)) ⟨e,h,x⟩ K=PA C gl (.scope pN) K [(0,bA e 0),(9,bA e 9),(10,bA e 10),(11,bA e 11)] h x:=ZC
def YT:ACode:=.pr [0] (.seq (.seq (rg [mV 34 0,
cL 35 ZJ [34]] [35])
(.cond 35 (.seq (rg [mV 2 (cI 6)] [2])
.ret)
.skip))
(.seq (rg [mV 2 (cI 0)] [2])
.ret))
def z58 (C:Hd)(gl:GL)(v0:AV)(h:aA)(x:Esc)(K:KT):Prop:=
 C ZJ [v0] h fun t1 h2 y3=>
 mA t1 (K .ret ⟨[(2,(AI 6))],h2,(y3++x)⟩)
 (K .ret ⟨[(2,(AI 0))],h2,(y3++x)⟩)
theorem zjA {C gl e h x K}:NW C gl YT ⟨e,h,x⟩ K=z58 C gl (bA e 0) h x K:=by kernel_rfl
def z2J (q1 q2:ACode):ACode:=(.seq (rg [mV 2 (cI 0)] [0])
(.seq (.seq (rg [mV 6 0,
lN 7 6,
bN 8 .gtr 7 (cI 2000)] [0,8])
(.cond 8 (.seq (rg [mV 2 (cI 2)] [2])
.ret)
.skip))
(.seq (.seq (rg [mV 9 0,
lN 10 9,
mV 11 (cI 0)] [0,9,10,11])
(.block 0 (.loop (.scope q1))))
q2)))
def wQ:AFun:=⟨1,[.t 2],z2J pN YT,false,false⟩
def sO (C:Hd)(gl:GL)(q1 q2:ACode)(v0:AV)(h:aA)(x:Esc)(K:KT):Prop:=
 pK (OA v0) fun t1=>
 pK (gA .gtr t1 (AI 2000)) fun t2=>
 mA t2 (K .ret ⟨[(2,(AI 2))],h,x⟩)
 (pK (OA v0) fun t3=>
 NW C gl (.loop (.scope q1)) ⟨[(0,v0),(9,v0),(10,t3),(11,(AI 0))],h,x⟩ (yA 0 (NA C gl q2 K)))
theorem zbE {C gl q1 q2 v0 h x K}:NW C gl (z2J q1 q2) ⟨enter [v0],h,x⟩ K=sO C gl q1 q2 v0 h x K:=by kernel_rfl
theorem zj8 {C gl v0 h x K}:NW C gl wQ.body ⟨enter [v0],h,x⟩ K=sO C gl pN YT v0 h x K:=zbE
def zda:ACode:=(.seq (rg [mV 2 (cI 0)] [0])
(.seq (.seq (rg [mV 3 0,
cL 4 rH [3],
uO 5 (.un .not 4)] [5])
(.cond 5 (.seq (rg [mV 2 (cI 1)] [2])
.ret)
.skip))
(.seq (rg [mV 2 (cI 0)] [2])
.ret)))
def JQ:AFun:=⟨1,[.t 2],zda,false,false⟩
def gS (C:Hd)(gl:GL)(v0:AV)(h:aA)(x:Esc)(K:KT):Prop:=
 C rH [v0] h fun t1 h2 y3=>
 pK (oUn .not t1) fun t4=>
 mA t4 (K .ret ⟨[(2,(AI 1))],h2,(y3++x)⟩)
 (K .ret ⟨[(2,(AI 0))],h2,(y3++x)⟩)
theorem zkr {C gl v0 h x K}:NW C gl JQ.body ⟨enter [v0],h,x⟩ K=gS C gl v0 h x K:=by kernel_rfl
def z0r:ACode:=.pr [0,3,4,5] (rg [mV 16 5,
bN 17 .sub 16 (cI 1),
mV 5 17] [0,3,4,5])
def z5F (C:Hd)(gl:GL)(v0 v3 v4 v5:AV)(h:aA)(x:Esc)(K:KT):Prop:=
 pK (gA .sub v5 (AI 1)) fun t1=>
 K .normal ⟨[(0,v0),(3,v3),(4,v4),(5,t1)],h,x⟩
theorem zjQ {C gl e h x K}:NW C gl z0r ⟨e,h,x⟩ K=z5F C gl (bA e 0) (bA e 3) (bA e 4) (bA e 5) h x K:=by kernel_rfl
def z2P (q1:ACode):ACode:=.pr [0,3,4,5] (.seq (.seq (rg [mV 14 5,
bN 15 .geq 14 (cI 0)] [0,3,4,5,15])
(.cond 15 .skip
(.exit 0)))
(.seq (.block 1 (.seq (rg [mV 18 0,
mV 19 5,
iA 20 (some 8) 18 19,
lD 21 (some 8) 20,
uO 6 (.alloc [.p (.str []),.p (.int .i64 0),.p (.int .i64 0),.p (.int .i64 0),.p (.str []),.p (.str []),.p (.str []),.p (.int .i64 0)]),
wO (.store (some 8) 6 21)] [0,3,4,5,6])
(.seq (rg [mV 22 4,
mV 23 5,
mV 24 3,
fA 25 0 none 6,
lD 26 none 25,
fA 27 1 none 6,
lD 28 none 27,
uO 29 (.build [.p (.str []),.p (.int .i64 0)] [(0,1,26),(1,1,28)]),
uO 30 (.look ((some 2),[2,0]) false (AB false) 24 29),
uO 31 (.un .not 30),
iA 32 none 22 23,
wO (.store none 32 31)] [0,3,4,5,6])
(.seq (rg [mV 33 4,
mV 34 5,
iA 35 none 33 34,
lD 36 none 35,
mV 37 36,
gD 38 37 true (.faddr 3 none 6),
gD 39 37 true (.load none 38),
gD 40 37 true (.bin .eql 39 (cI 7)),
uO 41 (.pick 37 40 cF)] [0,3,4,5,6,41])
(.cond 41 (rg [mV 42 3,
fA 43 6 none 6,
lD 44 none 43,
fA 45 7 none 6,
lD 46 none 45,
uO 47 (.build [.p (.str []),.p (.int .i64 0)] [(0,1,44),(1,1,46)]),
wO (.mupd ((some 2),[2,0]) 42 47 cT)] [0,3,4,5])
.skip)))))
q1))
def tN:ACode:=z2P z0r
def JY (C:Hd)(gl:GL)(q1:ACode)(v0 v3 v4 v5:AV)(h:aA)(x:Esc)(K:KT):Prop:=
 pK (gA .geq v5 (AI 0)) fun t1=>
 mA t1 (pK (wA (some 8) v0 v5 h) fun t2=>
 pK (eA (some 8) t2 h) fun t3=>
 alK [.p (.str []),.p (.int .i64 0),.p (.int .i64 0),.p (.int .i64 0),.p (.str []),.p (.str []),.p (.str []),.p (.int .i64 0)] h fun t4 h5 y6=>
 wK (tA (some 8) t4 t3 h5) fun t7 h8 y9=>
 pK (jA 0 none t4) fun t10=>
 pK (eA none t10 h8) fun t11=>
 pK (jA 1 none t4) fun t12=>
 pK (eA none t12 h8) fun t13=>
 pK (RB [.p (.str []),.p (.int .i64 0)] [(0,1,t11),(1,1,t13)]) fun t14=>
 pK (QA ((some 2),[2,0]) false (AB false) v3 t14 h8) fun t15=>
 pK (oUn .not t15) fun t16=>
 pK (wA none v4 v5 h8) fun t17=>
 wK (tA none t17 t16 h8) fun t18 h19 y20=>
 pK (wA none v4 v5 h19) fun t21=>
 pK (eA none t21 h19) fun t22=>
 gP t22 true (jA 3 none t4) h19 fun t23 h24 y25=>
 gP t22 true (eA none t23 h24) h24 fun t26 h27 y28=>
 gP t22 true (gA .eql t26 (AI 7)) h27 fun t29 h30 y31=>
 pK (DA t22 t29 (AB false)) fun t32=>
 mA t32 (pK (jA 6 none t4) fun t33=>
 pK (eA none t33 h30) fun t34=>
 pK (jA 7 none t4) fun t35=>
 pK (eA none t35 h30) fun t36=>
 pK (RB [.p (.str []),.p (.int .i64 0)] [(0,1,t34),(1,1,t36)]) fun t37=>
 wK (oB ((some 2),[2,0]) v3 t37 (AB true) h30) fun t38 h39 y40=>
 NW C gl q1 ⟨[(0,v0),(3,v3),(4,v4),(5,v5)],h39,(y40++(y31++(y28++(y25++(y20++(y9++(y6++x)))))))⟩ K)
 (NW C gl q1 ⟨[(0,v0),(3,v3),(4,v4),(5,v5),(6,t4),(41,t32)],h30,(y31++(y28++(y25++(y20++(y9++(y6++x))))))⟩ K))
 (K (.exit 0) ⟨[(0,v0),(3,v3),(4,v4),(5,v5),(15,t1)],h,x⟩)
theorem zbK {C gl q1 e h x K}:NW C gl (z2P q1) ⟨e,h,x⟩ K=JY C gl q1 (bA e 0) (bA e 3) (bA e 4) (bA e 5) h x K:=by kernel_rfl
theorem zjR {C gl e h x K}:NW C gl tN ⟨e,h,x⟩ K=JY C gl z0r (bA e 0) (bA e 3) (bA e 4) (bA e 5) h x K:=zbK
theorem zmB {C gl e h x K}:NW C gl (.loop (.scope tN)) ⟨e,h,x⟩ K=PA C gl (.scope tN) K [(0,bA e 0),(3,bA e 3),(4,bA e 4),(5,bA e 5)] h x:=ZC
def cU:ACode:=.pr [4] (.seq (rg [mV 48 4,
mV 2 48] [2])
.ret)
def z5G (C:Hd)(gl:GL)(v4:AV)(h:aA)(x:Esc)(K:KT):Prop:=
 K .ret ⟨[(2,v4)],h,x⟩
theorem zjS {C gl e h x K}:NW C gl cU ⟨e,h,x⟩ K=z5G C gl (bA e 4) h x K:=by kernel_rfl
def z2O (q2 q3:ACode):ACode:=(.seq (rg [mV 2 (.c (.p (.sl none [])))] [0])
(.seq (rg [uO 7 (.mkmap),
mV 3 7] [0,3])
(.seq (rg [mV 8 0,
lN 9 8,
uO 10 (.mksl none (.bool false) 9 9),
mV 4 10] [0,3,4])
(.seq (.seq (rg [mV 11 0,
lN 12 11,
bN 13 .sub 12 (cI 1),
mV 5 13] [0,3,4,5])
(.block 0 (.loop (.scope q2))))
q3))))
def AQ:AFun:=⟨1,[.t 2],z2O tN cU,false,false⟩
def aS (C:Hd)(gl:GL)(q2 q3:ACode)(v0:AV)(h:aA)(x:Esc)(K:KT):Prop:=
 mmK h fun t1 h2 y3=>
 pK (OA v0) fun t4=>
 wK (IZ none (.bool false) t4 t4 h2) fun t5 h6 y7=>
 pK (OA v0) fun t8=>
 pK (gA .sub t8 (AI 1)) fun t9=>
 NW C gl (.loop (.scope q2)) ⟨[(0,v0),(3,t1),(4,t5),(5,t9)],h6,(y7++(y3++x))⟩ (yA 0 (NA C gl q3 K))
theorem zbJ {C gl q2 q3 v0 h x K}:NW C gl (z2O q2 q3) ⟨enter [v0],h,x⟩ K=aS C gl q2 q3 v0 h x K:=by kernel_rfl
theorem zjP {C gl v0 h x K}:NW C gl AQ.body ⟨enter [v0],h,x⟩ K=aS C gl tN cU v0 h x K:=zbJ
def gU:ACode:=.pr [0,3,5,38,45] (.cond 45 (.seq (rg [mV 48 0,
mV 49 5,
lD 50 (some 8) 3,
cL 51 VJ [48,49,50],
mV 4 51] [4])
.ret)
(.seq (rg [bN 53 .eql 38 (cI 5),
mV 52 53] [0,3,5,52])
(.cond 52 (.seq (.seq (rg [mV 54 5,
uO 55 (.nilchk 54),
fA 56 0 none 55,
lD 57 none 56,
bN 58 .neq 57 (cI 3)] [3,5,58])
(.cond 58 (.seq (rg [mV 4 (cI 11)] [4])
.ret)
.skip))
(.seq (dr [dF (mV 59 5) [5],
dF (mV 60 5) [5],
dF (fA 61 2 none 3) [3],
dF (lD 62 none 61) [61],
dF (uO 63 (.nilchk 59)) [59],
dF (fA 64 0 none 63) [63],
dA (wO (.store none 64 (cI 1))) [64] true [] [3],
dF (uO 65 (.nilchk 60)) [60],
dF (fA 66 1 none 65) [65],
dT (wO (.store none 66 62)) [66,62]] [])
(.seq (rg [mV 4 (cI 0)] [4])
.ret)))
.skip)))
def z5L (C:Hd)(gl:GL)(v0 v3 v5 v38 v45:AV)(h:aA)(x:Esc)(K:KT):Prop:=
 mA v45 (pK (eA (some 8) v3 h) fun t1=>
 C VJ [v0,v5,t1] h fun t2 h3 y4=>
 K .ret ⟨[(4,t2)],h3,(y4++x)⟩)
 (pK (gA .eql v38 (AI 5)) fun t5=>
 mA t5 (pK (rA v5) fun t6=>
 pK (jA 0 none t6) fun t7=>
 pK (eA none t7 h) fun t8=>
 pK (gA .neq t8 (AI 3)) fun t9=>
 mA t9 (K .ret ⟨[(4,(AI 11))],h,x⟩)
 (pK (jA 2 none v3) fun t10=>
 pK (eA none t10 h) fun t11=>
 pK (rA v5) fun t12=>
 pK (jA 0 none t12) fun t13=>
 wK (tA none t13 (AI 1) h) fun t14 h15 y16=>
 (pK (eA none t10 h15) fun v=>(fun u (g1:aA) (y1:Esc)=>u=t11∧g1=h15∧y1=[]) v h15 [])∧(pK (rA v5) fun t17=>
 pK (jA 1 none t17) fun t18=>
 wK (tA none t18 t11 h15) fun t19 h20 y21=>
 K .ret ⟨[(4,(AI 0))],h20,(y21++(y16++x))⟩)))
 (K .normal ⟨[(0,v0),(3,v3),(5,v5),(52,t5)],h,x⟩))
theorem zkg {C gl e h x K}:NW C gl gU ⟨e,h,x⟩ K=z5L C gl (bA e 0) (bA e 3) (bA e 5) (bA e 38) (bA e 45) h x K:=by kernel_rfl
def z0u:ACode:=.pr [3,5] (.seq (dr [dF (mV 89 5) [5],
dF (mV 90 5) [5],
dF (fA 91 2 none 3) [3],
dF (lD 92 none 91) [91],
dF (uO 93 (.nilchk 89)) [89],
dF (fA 94 0 none 93) [93],
dA (wO (.store none 94 (cI 5))) [94] true [] [3],
dF (uO 95 (.nilchk 90)) [90],
dF (fA 96 1 none 95) [95],
dT (wO (.store none 96 92)) [96,92]] [])
(.seq (rg [mV 4 (cI 0)] [4])
.ret))
def z5M (C:Hd)(gl:GL)(v3 v5:AV)(h:aA)(x:Esc)(K:KT):Prop:=
 pK (jA 2 none v3) fun t1=>
 pK (eA none t1 h) fun t2=>
 pK (rA v5) fun t3=>
 pK (jA 0 none t3) fun t4=>
 wK (tA none t4 (AI 5) h) fun t5 h6 y7=>
 (pK (eA none t1 h6) fun v=>(fun u (g1:aA) (y1:Esc)=>u=t2∧g1=h6∧y1=[]) v h6 [])∧(pK (rA v5) fun t8=>
 pK (jA 1 none t8) fun t9=>
 wK (tA none t9 t2 h6) fun t10 h11 y12=>
 K .ret ⟨[(4,(AI 0))],h11,(y12++(y7++x))⟩)
theorem zkh {C gl e h x K}:NW C gl z0u ⟨e,h,x⟩ K=z5M C gl (bA e 3) (bA e 5) h x K:=by kernel_rfl
def z2V (q2:ACode):ACode:=.pr [0,3,5] (.seq (.seq (rg [mV 67 5,
uO 68 (.nilchk 67),
fA 69 0 none 68,
lD 70 none 69,
bN 71 .eql 70 (cI 4),
mV 72 71,
gD 73 72 false (.mv 5),
gD 74 72 false (.nilchk 73),
gD 75 72 false (.faddr 0 none 74),
gD 76 72 false (.load none 75),
gD 77 72 false (.bin .eql 76 (cI 5)),
uO 78 (.pick 72 cT 77)] [0,3,5,78])
(.cond 78 (.seq (rg [mV 4 (cI 11)] [4])
.ret)
.skip))
(.seq (.seq (rg [mV 79 5,
uO 80 (.nilchk 79),
fA 81 0 none 80,
lD 82 none 81,
bN 83 .eql 82 (cI 2)] [0,3,5,83])
(.cond 83 (rg [mV 84 0,
mV 85 5,
fA 86 2 none 3,
lD 87 none 86,
cL 88 uH [84,85,87]] [3,5])
.skip))
q2))
def iU:ACode:=z2V z0u
def OY (C:Hd)(gl:GL)(q2:ACode)(v0 v3 v5:AV)(h:aA)(x:Esc)(K:KT):Prop:=
 pK (rA v5) fun t1=>
 pK (jA 0 none t1) fun t2=>
 pK (eA none t2 h) fun t3=>
 pK (gA .eql t3 (AI 4)) fun t4=>
 gM t4 false v5 h fun t5 h6 y7=>
 gP t4 false (rA t5) h6 fun t8 h9 y10=>
 gP t4 false (jA 0 none t8) h9 fun t11 h12 y13=>
 gP t4 false (eA none t11 h12) h12 fun t14 h15 y16=>
 gP t4 false (gA .eql t14 (AI 5)) h15 fun t17 h18 y19=>
 pK (DA t4 (AB true) t17) fun t20=>
 mA t20 (K .ret ⟨[(4,(AI 11))],h18,(y19++(y16++(y13++(y10++(y7++x)))))⟩)
 (pK (rA v5) fun t21=>
 pK (jA 0 none t21) fun t22=>
 pK (eA none t22 h18) fun t23=>
 pK (gA .eql t23 (AI 2)) fun t24=>
 mA t24 (pK (jA 2 none v3) fun t25=>
 pK (eA none t25 h18) fun t26=>
 C uH [v0,v5,t26] h18 fun t27 h28 y29=>
 NW C gl q2 ⟨[(3,v3),(5,v5)],h28,(y29++(y19++(y16++(y13++(y10++(y7++x))))))⟩ K)
 (NW C gl q2 ⟨[(0,v0),(3,v3),(5,v5),(83,t24)],h18,(y19++(y16++(y13++(y10++(y7++x)))))⟩ K))
theorem zbQ {C gl q2 e h x K}:NW C gl (z2V q2) ⟨e,h,x⟩ K=OY C gl q2 (bA e 0) (bA e 3) (bA e 5) h x K:=by kernel_rfl
theorem zki {C gl e h x K}:NW C gl iU ⟨e,h,x⟩ K=OY C gl z0u (bA e 0) (bA e 3) (bA e 5) h x K:=zbQ
def z2U (q1 q3:ACode):ACode:=(.seq (rg [uO 3 (.box 1),
mV 4 (cI 0)] [0,3])
(.seq (dr [dF (mV 6 0) [0],
dF (uO 7 (.nilchk 6)) [6],
dF (fA 8 2 none 7) [7],
dF (lD 9 none 8) [8],
dF (fA 10 4 none 3) [3],
dF (lD 11 none 10) [10],
dF (uO 12 (.look (none,[2]) false (.nilp) 9 11)) [9,11],
dF (mV 5 12) [12]] [0,3,5])
(.seq (.seq (rg [fA 13 3 none 3,
lD 14 none 13,
bN 15 .eql 14 (cI 1)] [0,3,5,15])
(.cond 15 (.seq (.seq (rg [mV 16 5,
uO 17 (.isnil 0 true 16)] [0,3,17])
(.cond 17 (.seq (rg [mV 4 (cI 6)] [4])
.ret)
.skip))
(.seq (dr [dF (mV 18 0) [0],
dF (uO 19 (.nilchk 18)) [18],
dF (fA 20 2 none 19) [19],
dF (lD 21 none 20) [20],
dF (fA 22 4 none 3) [3],
dF (lD 23 none 22) [22],
dF (fA 24 2 none 3) [3],
dF (lD 25 none 24) [24],
dF (mV 26 0) [0],
dF (uO 27 (.nilchk 26)) [26],
dF (fA 28 0 (some 2) 27) [27],
dF (fA 29 0 none 28) [28],
dF (lD 30 none 29) [29],
dF (iA 31 none 30 (cI 0)) [30],
dF (lD 32 none 31) [31],
dF (uO 33 (.build [.p (.int .i64 0),.p (.int .i64 0),.p (.str []),.p (.str []),.p (.int .i64 0)] [(0,1,(cI 1)),(1,1,25),(2,1,32)])) [25,32],
dA (uO 34 (.box 33)) [33] true [] [3,5],
dT (wO (.mupd (none,[2]) 21 23 34)) [21,23,34]] [])
(.seq (rg [mV 4 (cI 0)] [4])
.ret)))
.skip))
(.seq (.seq (rg [mV 35 5,
uO 36 (.isnil 0 false 35)] [0,3,5,36])
(.cond 36 (.seq (rg [mV 4 (cI 8)] [4])
.ret)
.skip))
(.seq (.seq (rg [fA 37 3 none 3,
lD 38 none 37] [0,3,5,38])
(.block 0 (.seq (rg [bN 40 .eql 38 (cI 2),
mV 39 40] [0,3,5,38,39])
(.cond 39 (.seq (rg [mV 41 0,
mV 42 5,
lD 43 (some 8) 3,
cL 44 WJ [41,42,43],
mV 4 44] [4])
.ret)
(.seq (.seq (rg [bN 46 .eql 38 (cI 3),
mV 45 46] [0,3,5,38,45])
(.cond 45 .skip
(rg [bN 47 .eql 38 (cI 4),
mV 45 47] [0,3,5,38,45])))
q1)))))
q3)))))
def HQ:AFun:=⟨2,[.t 4],z2U gU iU,false,false⟩
def TD (C:Hd)(gl:GL)(q1 q3:ACode)(v0 v1:AV)(h:aA)(x:Esc)(K:KT):Prop:=
 wK (vB v1 h) fun t1 h2 y3=>
 pK (rA v0) fun t4=>
 pK (jA 2 none t4) fun t5=>
 pK (eA none t5 h2) fun t6=>
 pK (jA 4 none t1) fun t7=>
 pK (eA none t7 h2) fun t8=>
 pK (QA (none,[2]) false (.nilp) t6 t8 h2) fun t9=>
 pK (jA 3 none t1) fun t10=>
 pK (eA none t10 h2) fun t11=>
 pK (gA .eql t11 (AI 1)) fun t12=>
 mA t12 (pK (AM 0 true t9) fun t13=>
 mA t13 (K .ret ⟨[(4,(AI 6))],h2,(y3++x)⟩)
 (pK (rA v0) fun t14=>
 pK (jA 2 none t14) fun t15=>
 pK (eA none t15 h2) fun t16=>
 pK (jA 4 none t1) fun t17=>
 pK (eA none t17 h2) fun t18=>
 pK (jA 2 none t1) fun t19=>
 pK (eA none t19 h2) fun t20=>
 pK (rA v0) fun t21=>
 pK (jA 0 (some 2) t21) fun t22=>
 pK (jA 0 none t22) fun t23=>
 pK (eA none t23 h2) fun t24=>
 pK (wA none t24 (AI 0) h2) fun t25=>
 pK (eA none t25 h2) fun t26=>
 pK (RB [.p (.int .i64 0),.p (.int .i64 0),.p (.str []),.p (.str []),.p (.int .i64 0)] [(0,1,(AI 1)),(1,1,t20),(2,1,t26)]) fun t27=>
 wK (vB t27 h2) fun t28 h29 y30=>
 (pK (eA none t15 h29) fun v=>(fun u (g1:aA) (y1:Esc)=>u=t16∧g1=h29∧y1=[]) v h29 [])∧((pK (eA none t17 h29) fun v=>(fun u (g1:aA) (y1:Esc)=>u=t18∧g1=h29∧y1=[]) v h29 [])∧(wK (oB (none,[2]) t16 t18 t28 h29) fun t31 h32 y33=>
 K .ret ⟨[(4,(AI 0))],h32,(y33++(y30++(y3++x)))⟩))))
 (pK (AM 0 false t9) fun t34=>
 mA t34 (K .ret ⟨[(4,(AI 8))],h2,(y3++x)⟩)
 (pK (jA 3 none t1) fun t35=>
 pK (eA none t35 h2) fun t36=>
 pK (gA .eql t36 (AI 2)) fun t37=>
 mA t37 (pK (eA (some 8) t1 h2) fun t38=>
 C WJ [v0,t9,t38] h2 fun t39 h40 y41=>
 K .ret ⟨[(4,t39)],h40,(y41++(y3++x))⟩)
 (pK (gA .eql t36 (AI 3)) fun t42=>
 mA t42 (NW C gl q1 ⟨[(0,v0),(3,t1),(5,t9),(38,t36),(45,t42)],h2,(y3++x)⟩ (yA 0 (NA C gl q3 K)))
 (pK (gA .eql t36 (AI 4)) fun t43=>
 NW C gl q1 ⟨[(0,v0),(3,t1),(5,t9),(38,t36),(45,t43)],h2,(y3++x)⟩ (yA 0 (NA C gl q3 K))))))
theorem zbP {C gl q1 q3 v0 v1 h x K}:NW C gl (z2U q1 q3) ⟨enter [v0,v1],h,x⟩ K=TD C gl q1 q3 v0 v1 h x K:=by kernel_rfl
theorem zkf {C gl v0 v1 h x K}:NW C gl HQ.body ⟨enter [v0,v1],h,x⟩ K=TD C gl gU iU v0 v1 h x K:=zbP
def zcN:ACode:=(.seq (rg [mV 5 0,
lN 6 5,
mV 4 6] [0,1,4])
(rg [mV 7 0,
mV 8 4,
mV 9 4,
uO 10 (.conv (.i .u64) 9),
cL 11 yG [10],
mV 12 1,
cL 13 EG [7,(cI 0),8,11,12]] []))
def FW:AFun:=⟨2,[],zcN,true,false⟩
def kY (C:Hd)(gl:GL)(v0 v1:AV)(h:aA)(x:Esc)(K:KT):Prop:=
 pK (OA v0) fun t1=>
 pK (DH .u64 t1) fun t2=>
 C yG [t2] h fun t3 h4 y5=>
 C EG [v0,(AI 0),t1,t3,v1] h4 fun t6 h7 y8=>
 K .normal ⟨[],h7,(y8++(y5++x))⟩
theorem ziL {C gl v0 v1 h x K}:NW C gl FW.body ⟨enter [v0,v1],h,x⟩ K=kY C gl v0 v1 h x K:=by kernel_rfl
def zcZ:ACode:=(.seq (rg [mV 5 (cI 0)] [0,1,2])
(.seq (dr [dF (lD 6 none 2) [2],
dF (uO 7 (.nilchk 6)) [6],
dF (fA 8 2 none 7) [7],
dF (lD 9 none 8) [8],
dF (mV 10 0) [0],
dF (uO 11 (.look (none,[2]) false (.nilp) 9 10)) [9,10],
dF (uO 12 (.nilchk 11)) [11],
dF (fA 13 1 none 12) [12],
dF (lD 14 none 13) [13],
dF (lD 15 none 2) [2],
dF (uO 16 (.nilchk 15)) [15],
dF (fA 17 2 none 16) [16],
dF (lD 18 none 17) [17],
dF (mV 19 1) [1],
dF (uO 20 (.look (none,[2]) false (.nilp) 18 19)) [18,19],
dF (uO 21 (.nilchk 20)) [20],
dF (fA 22 1 none 21) [21],
dF (lD 23 none 22) [22],
dT (cL 24 TF [14,23]) [14,23],
dF (mV 25 0) [0],
dF (mV 26 1) [1],
dT (cL 27 LE [25,26]) [25,26],
dF (uO 28 (.bsl false none 2 (.int .i64 0) [(0,24),(1,27)])) [24,27],
dT (cL 29 sH [28]) [28],
dF (mV 5 29) [29]] [5])
.ret))
def ZW:AFun:=⟨3,[.t 5],zcZ,false,false⟩
def PY (C:Hd)(gl:GL)(v0 v1 v2:AV)(h:aA)(x:Esc)(K:KT):Prop:=
 pK (eA none v2 h) fun t1=>
 pK (rA t1) fun t2=>
 pK (jA 2 none t2) fun t3=>
 pK (eA none t3 h) fun t4=>
 pK (QA (none,[2]) false (.nilp) t4 v0 h) fun t5=>
 pK (rA t5) fun t6=>
 pK (jA 1 none t6) fun t7=>
 pK (eA none t7 h) fun t8=>
 pK (eA none v2 h) fun t9=>
 pK (rA t9) fun t10=>
 pK (jA 2 none t10) fun t11=>
 pK (eA none t11 h) fun t12=>
 pK (QA (none,[2]) false (.nilp) t12 v1 h) fun t13=>
 pK (rA t13) fun t14=>
 pK (jA 1 none t14) fun t15=>
 pK (eA none t15 h) fun t16=>
 YA C TF [t8,t16] h fun t17 h18 y19=>
 YA C LE [v0,v1] h18 fun t20 h21 y22=>
 wK (RA false none 2 (.int .i64 0) [(0,t17),(1,t20)] h21) fun t23 h24 y25=>
 (h24=h21∧y25=[])∧(YA C sH [t23] h24 fun t26 h27 y28=>
 K .ret ⟨[(5,t26)],h27,(y28++(y25++(y22++(y19++x))))⟩)
theorem zkm {C gl v0 v1 v2 h x K}:NW C gl ZW.body ⟨enter [v0,v1,v2],h,x⟩ K=PY C gl v0 v1 v2 h x K:=by kernel_rfl
end Go.Am
end
section
/- The functions asv abstract code,and asv formulas PE their values: printed by program out of the translation. -/
set_option linter.unusedVariables false
set_option maxRecDepth 100000
namespace Go.Am
def EM:ACode:=.pr [3,6,7,8] (.seq (rg [bN 9 .lss 8 7] [3,6,7,8,9])
(.seq (.cond 9 .skip
(.exit 0))
(.seq (.block 1 (.seq (rg [iA 10 none 6 8,
lD 11 none 10,
mV 5 11] [3,5,6,7,8])
(.seq (rg [mV 12 5,
mV 13 3,
bN 14 .neq 12 13] [3,5,6,7,8,14])
(.cond 14 (.seq (rg [mV 15 5,
mV 2 15] [2])
.ret)
.skip))))
(rg [bN 16 .add 8 (cI 1),
mV 8 16] [3,6,7,8]))))
def z4p (C:Hd)(gl:GL)(v3 v6 v7 v8:AV)(h:aA)(x:Esc)(K:KT):Prop:=
 pK (gA .lss v8 v7) fun t1=>
 mA t1 (pK (wA none v6 v8 h) fun t2=>
 pK (eA none t2 h) fun t3=>
 pK (gA .neq t3 v3) fun t4=>
 mA t4 (K .ret ⟨[(2,t3)],h,x⟩)
 (pK (gA .add v8 (AI 1)) fun t5=>
 K .normal ⟨[(3,v3),(6,v6),(7,v7),(8,t5)],h,x⟩))
 (K (.exit 0) ⟨[(3,v3),(6,v6),(7,v7),(8,v8),(9,t1)],h,x⟩)
theorem zgA {C gl e h x K}:NW C gl EM ⟨e,h,x⟩ K=z4p C gl (bA e 3) (bA e 6) (bA e 7) (bA e 8) h x K:=by kernel_rfl
theorem zlO {C gl e h x K}:NW C gl (.loop EM) ⟨e,h,x⟩ K=PA C gl EM K [(3,bA e 3),(6,bA e 6),(7,bA e 7),(8,bA e 8)] h x:=wB
def nT:ACode:=.pr [3] (.seq (rg [mV 17 3,
mV 2 17] [2])
.ret)
def z4q (C:Hd)(gl:GL)(v3:AV)(h:aA)(x:Esc)(K:KT):Prop:=
 K .ret ⟨[(2,v3)],h,x⟩
theorem zgB {C gl e h x K}:NW C gl nT ⟨e,h,x⟩ K=z4q C gl (bA e 3) h x K:=by kernel_rfl
def z1w (q1 q2:ACode):ACode:=(.seq (rg [mV 2 (cI 0)] [0])
(.seq (rg [mV 3 (cI 0)] [0,3])
(.seq (.seq (rg [mV 6 0,
lN 7 6,
mV 8 (cI 0)] [3,6,7,8])
(.block 0 (.loop q1)))
q2)))
def rQ:AFun:=⟨1,[.t 2],z1w EM nT,false,false⟩
def gR (C:Hd)(gl:GL)(q1 q2:ACode)(v0:AV)(h:aA)(x:Esc)(K:KT):Prop:=
 pK (OA v0) fun t1=>
 NW C gl (.loop q1) ⟨[(3,(AI 0)),(6,v0),(7,t1),(8,(AI 0))],h,x⟩ (yA 0 (NA C gl q2 K))
theorem zaz {C gl q1 q2 v0 h x K}:NW C gl (z1w q1 q2) ⟨enter [v0],h,x⟩ K=gR C gl q1 q2 v0 h x K:=by kernel_rfl
theorem zg9 {C gl v0 h x K}:NW C gl rQ.body ⟨enter [v0],h,x⟩ K=gR C gl EM nT v0 h x K:=zaz
def zcl:ACode:=(.seq (rg [mV 4 (cI 0)] [0,1])
(.seq (rg [mV 7 0,
cL 8 tH [7],
mV 5 8] [0,1,5])
(.seq (rg [mV 9 1,
cL 10 tH [9],
mV 6 10] [0,1,5,6])
(.seq (.seq (rg [mV 11 5] [0,1,6,11])
(.cond 11 (.seq (.seq (rg [mV 12 6] [12])
(.cond 12 (.seq (rg [mV 4 (cI 0)] [4])
.ret)
.skip))
(.seq (rg [mV 4 (cI (-1))] [4])
.ret))
.skip))
(.seq (.seq (rg [mV 13 6] [0,1,13])
(.cond 13 (.seq (rg [mV 4 (cI 1)] [4])
.ret)
.skip))
(.seq (.seq (rg [mV 14 0,
mV 15 1,
bN 16 .lss 14 15] [0,1,16])
(.cond 16 (.seq (rg [mV 4 (cI (-1))] [4])
.ret)
.skip))
(.seq (.seq (rg [mV 17 0,
mV 18 1,
bN 19 .gtr 17 18] [19])
(.cond 19 (.seq (rg [mV 4 (cI 1)] [4])
.ret)
.skip))
(.seq (rg [mV 4 (cI 0)] [4])
.ret))))))))
def qQ:AFun:=⟨2,[.t 4],zcl,false,false⟩
def jO (C:Hd)(gl:GL)(v0 v1:AV)(h:aA)(x:Esc)(K:KT):Prop:=
 C tH [v0] h fun t1 h2 y3=>
 C tH [v1] h2 fun t4 h5 y6=>
 mA t1 (mA t4 (K .ret ⟨[(4,(AI 0))],h5,(y6++(y3++x))⟩)
 (K .ret ⟨[(4,(AI (-1)))],h5,(y6++(y3++x))⟩))
 (mA t4 (K .ret ⟨[(4,(AI 1))],h5,(y6++(y3++x))⟩)
 (pK (gA .lss v0 v1) fun t7=>
 mA t7 (K .ret ⟨[(4,(AI (-1)))],h5,(y6++(y3++x))⟩)
 (pK (gA .gtr v0 v1) fun t8=>
 mA t8 (K .ret ⟨[(4,(AI 1))],h5,(y6++(y3++x))⟩)
 (K .ret ⟨[(4,(AI 0))],h5,(y6++(y3++x))⟩))))
theorem zg7 {C gl v0 v1 h x K}:NW C gl qQ.body ⟨enter [v0,v1],h,x⟩ K=jO C gl v0 v1 h x K:=by kernel_rfl
def zcQ:ACode:=(.seq (rg [mV 3 0,
lN 4 3,
mV 2 4] [0,2])
(rg [mV 5 0,
mV 6 2,
mV 7 2,
uO 8 (.conv (.i .u64) 7),
cL 9 yG [8],
cL 10 FG [5,(cI 0),6,9]] []))
def IW:AFun:=⟨1,[],zcQ,true,false⟩
def nY (C:Hd)(gl:GL)(v0:AV)(h:aA)(x:Esc)(K:KT):Prop:=
 pK (OA v0) fun t1=>
 pK (DH .u64 t1) fun t2=>
 C yG [t2] h fun t3 h4 y5=>
 C FG [v0,(AI 0),t1,t3] h4 fun t6 h7 y8=>
 K .normal ⟨[],h7,(y8++(y5++x))⟩
theorem ziO {C gl v0 h x K}:NW C gl IW.body ⟨enter [v0],h,x⟩ K=nY C gl v0 h x K:=by kernel_rfl
def zcG:ACode:=(.seq (rg [mV 6 cF] [0,1,2])
(.seq (rg [mV 7 1,
mV 8 0,
bN 9 .leq 7 8,
mV 10 9,
gD 11 10 true (.mv 0),
gD 12 10 true (.mv 2),
gD 13 10 true (.bin .leq 11 12),
uO 14 (.pick 10 13 cF),
mV 6 14] [6])
.ret))
def oW:AFun:=⟨3,[.t 6],zcG,false,false⟩
def cY (C:Hd)(gl:GL)(v0 v1 v2:AV)(h:aA)(x:Esc)(K:KT):Prop:=
 pK (gA .leq v1 v0) fun t1=>
 gM t1 true v0 h fun t2 h3 y4=>
 gM t1 true v2 h3 fun t5 h6 y7=>
 gP t1 true (gA .leq t2 t5) h6 fun t8 h9 y10=>
 pK (DA t1 t8 (AB false)) fun t11=>
 K .ret ⟨[(6,t11)],h9,(y10++(y7++(y4++x)))⟩
theorem zic {C gl v0 v1 v2 h x K}:NW C gl oW.body ⟨enter [v0,v1,v2],h,x⟩ K=cY C gl v0 v1 v2 h x K:=by kernel_rfl
def AT:ACode:=.pr [1,3,4] (.seq (.block 0 (.seq (rg [fA 45 0 none 1,
lD 46 none 45,
cL 47 BD [46],
uO 48 (.un .not 47),
mV 44 48] [1,3,4,44])
(.cond 44 (.seq (rg [mV 2 (cI 5)] [2])
.ret)
(.seq (rg [fA 50 1 none 1,
lD 51 none 50,
cL 52 qD [51,(cI 1),(cI 1000000)],
uO 53 (.un .not 52),
mV 54 53,
gD 55 54 false (.faddr 2 none 1),
gD 56 54 false (.load none 55),
gD 57 54 false (.call zI [56]),
gD 58 54 false (.un .not 57),
uO 59 (.pick 54 cT 58),
mV 49 59] [1,3,4,49])
(.cond 49 (.seq (rg [mV 2 (cI 1)] [2])
.ret)
(.seq (rg [fA 61 3 none 1,
lD 62 none 61,
cL 63 qD [62,(cI 1),(cI 7)],
uO 64 (.un .not 63),
mV 60 64] [1,3,4,60])
(.cond 60 (.seq (rg [mV 2 (cI 4)] [2])
.ret)
(.seq (rg [mV 66 4,
uO 67 (.un .not 66),
mV 65 67] [1,3,65])
(.cond 65 (.seq (rg [mV 2 (cI 5)] [2])
.ret)
(.seq (rg [fA 69 3 none 1,
lD 70 none 69,
bN 71 .eql 70 (cI 7),
mV 72 71,
gD 73 72 true (.faddr 7 none 1),
gD 74 72 true (.load none 73),
gD 75 72 true (.call qD [74,(cI 1),(cI 1000000)]),
gD 76 72 true (.un .not 75),
uO 77 (.pick 72 76 cF),
mV 68 77] [1,3,68])
(.cond 68 (.seq (rg [mV 2 (cI 1)] [2])
.ret)
(.seq (rg [lD 79 (some 8) 1,
lD 80 (some 8) 3,
uO 81 (.eqa [2,0,0,0,2,2,2,0] true 79 80),
mV 78 81] [78])
(.cond 78 (.seq (rg [mV 2 (cI 3)] [2])
.ret)
.skip)))))))))))))
(.seq (rg [mV 2 (cI 0)] [2])
.ret))
def sE (C:Hd)(gl:GL)(v1 v3 v4:AV)(h:aA)(x:Esc)(K:KT):Prop:=
 pK (jA 0 none v1) fun t1=>
 pK (eA none t1 h) fun t2=>
 C BD [t2] h fun t3 h4 y5=>
 pK (oUn .not t3) fun t6=>
 mA t6 (K .ret ⟨[(2,(AI 5))],h4,(y5++x)⟩)
 (pK (jA 1 none v1) fun t7=>
 pK (eA none t7 h4) fun t8=>
 C qD [t8,(AI 1),(AI 1000000)] h4 fun t9 h10 y11=>
 pK (oUn .not t9) fun t12=>
 gP t12 false (jA 2 none v1) h10 fun t13 h14 y15=>
 gP t12 false (eA none t13 h14) h14 fun t16 h17 y18=>
 gV t12 false h17 (C zI [t16] h17) fun t19 h20 y21=>
 gP t12 false (oUn .not t19) h20 fun t22 h23 y24=>
 pK (DA t12 (AB true) t22) fun t25=>
 mA t25 (K .ret ⟨[(2,(AI 1))],h23,(y24++(y21++(y18++(y15++(y11++(y5++x))))))⟩)
 (pK (jA 3 none v1) fun t26=>
 pK (eA none t26 h23) fun t27=>
 C qD [t27,(AI 1),(AI 7)] h23 fun t28 h29 y30=>
 pK (oUn .not t28) fun t31=>
 mA t31 (K .ret ⟨[(2,(AI 4))],h29,(y30++(y24++(y21++(y18++(y15++(y11++(y5++x)))))))⟩)
 (pK (oUn .not v4) fun t32=>
 mA t32 (K .ret ⟨[(2,(AI 5))],h29,(y30++(y24++(y21++(y18++(y15++(y11++(y5++x)))))))⟩)
 (pK (jA 3 none v1) fun t33=>
 pK (eA none t33 h29) fun t34=>
 pK (gA .eql t34 (AI 7)) fun t35=>
 gP t35 true (jA 7 none v1) h29 fun t36 h37 y38=>
 gP t35 true (eA none t36 h37) h37 fun t39 h40 y41=>
 gV t35 true h40 (C qD [t39,(AI 1),(AI 1000000)] h40) fun t42 h43 y44=>
 gP t35 true (oUn .not t42) h43 fun t45 h46 y47=>
 pK (DA t35 t45 (AB false)) fun t48=>
 mA t48 (K .ret ⟨[(2,(AI 1))],h46,(y47++(y44++(y41++(y38++(y30++(y24++(y21++(y18++(y15++(y11++(y5++x)))))))))))⟩)
 (pK (eA (some 8) v1 h46) fun t49=>
 pK (eA (some 8) v3 h46) fun t50=>
 pK (nB [2,0,0,0,2,2,2,0] true t49 t50) fun t51=>
 mA t51 (K .ret ⟨[(2,(AI 3))],h46,(y47++(y44++(y41++(y38++(y30++(y24++(y21++(y18++(y15++(y11++(y5++x)))))))))))⟩)
 (K .ret ⟨[(2,(AI 0))],h46,(y47++(y44++(y41++(y38++(y30++(y24++(y21++(y18++(y15++(y11++(y5++x)))))))))))⟩))))))
theorem zh1 {C gl e h x K}:NW C gl AT ⟨e,h,x⟩ K=sE C gl (bA e 1) (bA e 3) (bA e 4) h x K:=by kernel_rfl
def z1I (q1:ACode):ACode:=(.seq (rg [uO 1 (.box 0),
mV 2 (cI 0)] [1])
(.seq (rg [fA 5 0 none 1,
lD 6 none 5,
fA 7 1 none 1,
lD 8 none 7,
fA 9 2 none 1,
lD 10 none 9,
fA 11 3 none 1,
lD 12 none 11,
uO 13 (.build [.p (.str []),.p (.int .i64 0),.p (.int .i64 0),.p (.int .i64 0),.p (.str []),.p (.str []),.p (.str []),.p (.int .i64 0)] [(0,1,6),(1,1,8),(2,1,10),(3,1,12)]),
uO 3 (.alloc [.p (.str []),.p (.int .i64 0),.p (.int .i64 0),.p (.int .i64 0),.p (.str []),.p (.str []),.p (.str []),.p (.int .i64 0)]),
wO (.store (some 8) 3 13)] [1,3])
(.seq (rg [mV 4 cT] [1,3])
(.seq (.seq (rg [fA 14 3 none 1,
lD 15 none 14,
bN 16 .eql 15 (cI 7)] [1,3,16])
(.cond 16 (dr [dF (fA 17 6 none 1) [1],
dF (lD 18 none 17) [17],
dF (fA 19 7 none 1) [1],
dF (lD 20 none 19) [19],
dF (fA 21 6 none 1) [1],
dF (lD 22 none 21) [21],
dA (cL 23 BD [22]) [22] true [] [1,3],
dF (fA 24 6 none 3) [3],
dA (wO (.store none 24 18)) [24,18] true [] [3],
dF (fA 25 7 none 3) [3],
dT (wO (.store none 25 20)) [25,20],
dF (mV 4 23) [23]] [1,3,4])
(.seq (dr [dF (fA 26 4 none 1) [1],
dF (lD 27 none 26) [26],
dF (fA 28 4 none 1) [1],
dF (lD 29 none 28) [28],
dA (cL 30 BD [29]) [29] true [] [1],
dF (fA 31 4 none 3) [3],
dT (wO (.store none 31 27)) [31,27],
dF (mV 4 30) [30]] [1,3,4])
(.seq (rg [fA 32 3 none 1,
lD 33 none 32,
bN 34 .eql 33 (cI 2)] [1,3,4,34])
(.cond 34 (dr [dF (fA 35 5 none 1) [1],
dF (lD 36 none 35) [35],
dF (mV 37 4) [4],
dF (mV 38 37) [37],
dF (gD 39 38 true (.faddr 5 none 1)) [1,38],
dF (gD 40 38 true (.load none 39)) [39,38],
dA (gD 41 38 true (.call BD [40])) [40,38] true [] [1],
dF (uO 42 (.pick 38 41 cF)) [38,41],
dF (fA 43 5 none 3) [3],
dT (wO (.store none 43 36)) [43,36],
dF (mV 4 42) [42]] [1,3,4])
.skip)))))
q1))))
def TV:AFun:=⟨1,[.t 2],z1I AT,false,false⟩
def uI (C:Hd)(gl:GL)(q1:ACode)(v0:AV)(h:aA)(x:Esc)(K:KT):Prop:=
 wK (vB v0 h) fun t1 h2 y3=>
 pK (jA 0 none t1) fun t4=>
 pK (eA none t4 h2) fun t5=>
 pK (jA 1 none t1) fun t6=>
 pK (eA none t6 h2) fun t7=>
 pK (jA 2 none t1) fun t8=>
 pK (eA none t8 h2) fun t9=>
 pK (jA 3 none t1) fun t10=>
 pK (eA none t10 h2) fun t11=>
 pK (RB [.p (.str []),.p (.int .i64 0),.p (.int .i64 0),.p (.int .i64 0),.p (.str []),.p (.str []),.p (.str []),.p (.int .i64 0)] [(0,1,t5),(1,1,t7),(2,1,t9),(3,1,t11)]) fun t12=>
 alK [.p (.str []),.p (.int .i64 0),.p (.int .i64 0),.p (.int .i64 0),.p (.str []),.p (.str []),.p (.str []),.p (.int .i64 0)] h2 fun t13 h14 y15=>
 wK (tA (some 8) t13 t12 h14) fun t16 h17 y18=>
 pK (jA 3 none t1) fun t19=>
 pK (eA none t19 h17) fun t20=>
 pK (gA .eql t20 (AI 7)) fun t21=>
 mA t21 (pK (jA 6 none t1) fun t22=>
 pK (eA none t22 h17) fun t23=>
 pK (jA 7 none t1) fun t24=>
 pK (eA none t24 h17) fun t25=>
 pK (jA 6 none t1) fun t26=>
 pK (eA none t26 h17) fun t27=>
 YA C BD [t27] h17 fun t28 h29 y30=>
 (pK (eA none t22 h29) fun v=>(fun u (g1:aA) (y1:Esc)=>u=t23∧g1=h29∧y1=[]) v h29 [])∧((pK (eA none t24 h29) fun v=>(fun u (g1:aA) (y1:Esc)=>u=t25∧g1=h29∧y1=[]) v h29 [])∧(pK (jA 6 none t13) fun t31=>
 wK (tA none t31 t23 h29) fun t32 h33 y34=>
 (pK (eA none t24 h33) fun v=>(fun u (g1:aA) (y1:Esc)=>u=t25∧g1=h33∧y1=[]) v h33 [])∧(pK (jA 7 none t13) fun t35=>
 wK (tA none t35 t25 h33) fun t36 h37 y38=>
 NW C gl q1 ⟨[(1,t1),(3,t13),(4,t28)],h37,(y38++(y34++(y30++(y18++(y15++(y3++x))))))⟩ K))))
 (pK (jA 4 none t1) fun t39=>
 pK (eA none t39 h17) fun t40=>
 pK (jA 4 none t1) fun t41=>
 pK (eA none t41 h17) fun t42=>
 YA C BD [t42] h17 fun t43 h44 y45=>
 (pK (eA none t39 h44) fun v=>(fun u (g1:aA) (y1:Esc)=>u=t40∧g1=h44∧y1=[]) v h44 [])∧(pK (jA 4 none t13) fun t46=>
 wK (tA none t46 t40 h44) fun t47 h48 y49=>
 pK (jA 3 none t1) fun t50=>
 pK (eA none t50 h48) fun t51=>
 pK (gA .eql t51 (AI 2)) fun t52=>
 mA t52 (pK (jA 5 none t1) fun t53=>
 pK (eA none t53 h48) fun t54=>
 gP t43 true (jA 5 none t1) h48 fun t55 h56 y57=>
 gP t43 true (eA none t55 h56) h56 fun t58 h59 y60=>
 gV t43 true h59 (YA C BD [t58] h59) fun t61 h62 y63=>
 (pK (eA none t53 h62) fun v=>(fun u (g1:aA) (y1:Esc)=>u=t54∧g1=h62∧y1=[]) v h62 [])∧(pK (DA t43 t61 (AB false)) fun t64=>
 pK (jA 5 none t13) fun t65=>
 wK (tA none t65 t54 h62) fun t66 h67 y68=>
 NW C gl q1 ⟨[(1,t1),(3,t13),(4,t64)],h67,(y68++(y63++(y60++(y57++(y49++(y45++(y18++(y15++(y3++x)))))))))⟩ K))
 (NW C gl q1 ⟨[(1,t1),(3,t13),(4,t43),(34,t52)],h48,(y49++(y45++(y18++(y15++(y3++x)))))⟩ K)))
theorem zaL {C gl q1 v0 h x K}:NW C gl (z1I q1) ⟨enter [v0],h,x⟩ K=uI C gl q1 v0 h x K:=by kernel_rfl
theorem zh0 {C gl v0 h x K}:NW C gl TV.body ⟨enter [v0],h,x⟩ K=uI C gl AT v0 h x K:=zaL
def zcK:ACode:=(.seq (rg [mV 4 cF] [0,1])
(.seq (rg [mV 5 0,
mV 6 1,
cL 7 TL [5,6],
bN 8 .geq 7 (cI 0),
mV 4 8] [4])
.ret))
def vW:AFun:=⟨2,[.t 4],zcK,true,false⟩
def gY (C:Hd)(gl:GL)(v0 v1:AV)(h:aA)(x:Esc)(K:KT):Prop:=
 C TL [v0,v1] h fun t1 h2 y3=>
 pK (gA .geq t1 (AI 0)) fun t4=>
 K .ret ⟨[(4,t4)],h2,(y3++x)⟩
theorem zit {C gl v0 v1 h x K}:NW C gl vW.body ⟨enter [v0,v1],h,x⟩ K=gY C gl v0 v1 h x K:=by kernel_rfl
def zc5:ACode:=(.seq (rg [uO 2 (.box 0),
mV 3 cF] [1,2])
(.seq (rg [lD 4 (some 8) 2,
lD 5 (some 8) 1,
cL 6 KL [4,5],
mV 3 6] [3])
.ret))
def SV:AFun:=⟨2,[.t 3],zc5,false,false⟩
def TX (C:Hd)(gl:GL)(v0 v1:AV)(h:aA)(x:Esc)(K:KT):Prop:=
 wK (vB v0 h) fun t1 h2 y3=>
 pK (eA (some 8) t1 h2) fun t4=>
 pK (eA (some 8) v1 h2) fun t5=>
 C KL [t4,t5] h2 fun t6 h7 y8=>
 K .ret ⟨[(3,t6)],h7,(y8++(y3++x))⟩
theorem zhz {C gl v0 v1 h x K}:NW C gl SV.body ⟨enter [v0,v1],h,x⟩ K=TX C gl v0 v1 h x K:=by kernel_rfl
def zcH:ACode:=(.seq (rg [uO 2 (.box 0),
uO 3 (.box 1),
mV 4 cF] [2,3])
(.seq (rg [fA 5 0 none 2,
lD 6 none 5,
fA 7 0 none 3,
lD 8 none 7,
bN 9 .eql 6 8,
mV 10 9,
gD 11 10 true (.faddr 1 none 2),
gD 12 10 true (.load none 11),
gD 13 10 true (.faddr 1 none 3),
gD 14 10 true (.load none 13),
gD 15 10 true (.bin .eql 12 14),
uO 16 (.pick 10 15 cF),
mV 4 16] [4])
.ret))
def rW:AFun:=⟨2,[.t 4],zcH,false,false⟩
def DR (C:Hd)(gl:GL)(v0 v1:AV)(h:aA)(x:Esc)(K:KT):Prop:=
 wK (vB v0 h) fun t1 h2 y3=>
 wK (vB v1 h2) fun t4 h5 y6=>
 pK (jA 0 none t1) fun t7=>
 pK (eA none t7 h5) fun t8=>
 pK (jA 0 none t4) fun t9=>
 pK (eA none t9 h5) fun t10=>
 pK (gA .eql t8 t10) fun t11=>
 gP t11 true (jA 1 none t1) h5 fun t12 h13 y14=>
 gP t11 true (eA none t12 h13) h13 fun t15 h16 y17=>
 gP t11 true (jA 1 none t4) h16 fun t18 h19 y20=>
 gP t11 true (eA none t18 h19) h19 fun t21 h22 y23=>
 gP t11 true (gA .eql t15 t21) h22 fun t24 h25 y26=>
 pK (DA t11 t24 (AB false)) fun t27=>
 K .ret ⟨[(4,t27)],h25,(y26++(y23++(y20++(y17++(y14++(y6++(y3++x)))))))⟩
theorem zik {C gl v0 v1 h x K}:NW C gl rW.body ⟨enter [v0,v1],h,x⟩ K=DR C gl v0 v1 h x K:=by kernel_rfl
def SM:ACode:=.pr [0,1,7,8] (.seq (rg [bN 9 .lss 8 7] [0,1,7,8,9])
(.seq (.cond 9 .skip
(.exit 0))
(.seq (.block 1 (.seq (rg [mV 10 8,
mV 5 10] [0,1,5,7,8])
(.seq (rg [mV 11 1,
mV 12 0,
mV 13 5,
uO 14 (.idxs 12 13),
cL 15 mM [11,14],
bN 16 .lss 15 (cI 0)] [0,1,7,8,16])
(.cond 16 (.seq (rg [mV 4 cF] [4])
.ret)
.skip))))
(rg [bN 17 .add 8 (cI 1),
mV 8 17] [0,1,7,8]))))
def z4Q (C:Hd)(gl:GL)(v0 v1 v7 v8:AV)(h:aA)(x:Esc)(K:KT):Prop:=
 pK (gA .lss v8 v7) fun t1=>
 mA t1 (pK (GH v0 v8) fun t2=>
 C mM [v1,t2] h fun t3 h4 y5=>
 pK (gA .lss t3 (AI 0)) fun t6=>
 mA t6 (K .ret ⟨[(4,(AB false))],h4,(y5++x)⟩)
 (pK (gA .add v8 (AI 1)) fun t7=>
 K .normal ⟨[(0,v0),(1,v1),(7,v7),(8,t7)],h4,(y5++x)⟩))
 (K (.exit 0) ⟨[(0,v0),(1,v1),(7,v7),(8,v8),(9,t1)],h,x⟩)
theorem zie {C gl e h x K}:NW C gl SM ⟨e,h,x⟩ K=z4Q C gl (bA e 0) (bA e 1) (bA e 7) (bA e 8) h x K:=by kernel_rfl
theorem zmd {C gl e h x K}:NW C gl (.loop SM) ⟨e,h,x⟩ K=PA C gl SM K [(0,bA e 0),(1,bA e 1),(7,bA e 7),(8,bA e 8)] h x:=wB
def LT:ACode:=.pr [] (.seq (rg [mV 4 cT] [4])
.ret)
def z4R (C:Hd)(gl:GL)(h:aA)(x:Esc)(K:KT):Prop:=
 K .ret ⟨[(4,(AB true))],h,x⟩
theorem zif {C gl e h x K}:NW C gl LT ⟨e,h,x⟩ K=z4R C gl h x K:=by kernel_rfl
def z1V (q1 q2:ACode):ACode:=(.seq (rg [mV 4 cF] [0,1])
(.seq (.seq (rg [mV 6 0,
uO 7 (.lens 6),
mV 8 (cI 0)] [0,1,7,8])
(.block 0 (.loop q1)))
q2))
def pW:AFun:=⟨2,[.t 4],z1V SM LT,false,false⟩
def BR (C:Hd)(gl:GL)(q1 q2:ACode)(v0 v1:AV)(h:aA)(x:Esc)(K:KT):Prop:=
 pK (nK v0) fun t1=>
 NW C gl (.loop q1) ⟨[(0,v0),(1,v1),(7,t1),(8,(AI 0))],h,x⟩ (yA 0 (NA C gl q2 K))
theorem zaY {C gl q1 q2 v0 v1 h x K}:NW C gl (z1V q1 q2) ⟨enter [v0,v1],h,x⟩ K=BR C gl q1 q2 v0 v1 h x K:=by kernel_rfl
theorem zid {C gl v0 v1 h x K}:NW C gl pW.body ⟨enter [v0,v1],h,x⟩ K=BR C gl SM LT v0 v1 h x K:=zaY
def dN:ACode:=.pr [0,1,7,8] (.seq (rg [bN 9 .lss 8 7] [0,1,7,8,9])
(.seq (.cond 9 .skip
(.exit 0))
(.seq (.block 1 (.seq (rg [mV 10 8,
mV 5 10] [0,1,5,7,8])
(.seq (rg [mV 11 1,
mV 12 0,
mV 13 5,
iA 14 none 12 13,
lD 15 none 14,
bN 16 .eql 11 15] [0,1,5,7,8,16])
(.cond 16 (.seq (rg [mV 17 5,
mV 4 17] [4])
.ret)
.skip))))
(rg [bN 18 .add 8 (cI 1),
mV 8 18] [0,1,7,8]))))
def z5l (C:Hd)(gl:GL)(v0 v1 v7 v8:AV)(h:aA)(x:Esc)(K:KT):Prop:=
 pK (gA .lss v8 v7) fun t1=>
 mA t1 (pK (wA none v0 v8 h) fun t2=>
 pK (eA none t2 h) fun t3=>
 pK (gA .eql v1 t3) fun t4=>
 mA t4 (K .ret ⟨[(4,v8)],h,x⟩)
 (pK (gA .add v8 (AI 1)) fun t5=>
 K .normal ⟨[(0,v0),(1,v1),(7,v7),(8,t5)],h,x⟩))
 (K (.exit 0) ⟨[(0,v0),(1,v1),(7,v7),(8,v8),(9,t1)],h,x⟩)
theorem ziI {C gl e h x K}:NW C gl dN ⟨e,h,x⟩ K=z5l C gl (bA e 0) (bA e 1) (bA e 7) (bA e 8) h x K:=by kernel_rfl
theorem zmo {C gl e h x K}:NW C gl (.loop dN) ⟨e,h,x⟩ K=PA C gl dN K [(0,bA e 0),(1,bA e 1),(7,bA e 7),(8,bA e 8)] h x:=wB
def VT:ACode:=.pr [] (.seq (rg [mV 4 (cI (-1))] [4])
.ret)
def z5m (C:Hd)(gl:GL)(h:aA)(x:Esc)(K:KT):Prop:=
 K .ret ⟨[(4,(AI (-1)))],h,x⟩
theorem ziJ {C gl e h x K}:NW C gl VT ⟨e,h,x⟩ K=z5m C gl h x K:=by kernel_rfl
def z2i (q1 q2:ACode):ACode:=(.seq (rg [mV 4 (cI 0)] [0,1])
(.seq (.seq (rg [mV 6 0,
lN 7 6,
mV 8 (cI 0)] [0,1,7,8])
(.block 0 (.loop q1)))
q2))
def vQ:AFun:=⟨2,[.t 4],z2i dN VT,true,false⟩
def LR (C:Hd)(gl:GL)(q1 q2:ACode)(v0 v1:AV)(h:aA)(x:Esc)(K:KT):Prop:=
 pK (OA v0) fun t1=>
 NW C gl (.loop q1) ⟨[(0,v0),(1,v1),(7,t1),(8,(AI 0))],h,x⟩ (yA 0 (NA C gl q2 K))
theorem zbl {C gl q1 q2 v0 v1 h x K}:NW C gl (z2i q1 q2) ⟨enter [v0,v1],h,x⟩ K=LR C gl q1 q2 v0 v1 h x K:=by kernel_rfl
theorem ziH {C gl v0 v1 h x K}:NW C gl vQ.body ⟨enter [v0,v1],h,x⟩ K=LR C gl dN VT v0 v1 h x K:=zbl
def PZ:ACode:=.pr [0,1,5,8,9] (rg [bN 20 .add 9 (cI 1),
mV 9 20] [0,1,5,8,9])
def z40 (C:Hd)(gl:GL)(v0 v1 v5 v8 v9:AV)(h:aA)(x:Esc)(K:KT):Prop:=
 pK (gA .add v9 (AI 1)) fun t1=>
 K .normal ⟨[(0,v0),(1,v1),(5,v5),(8,v8),(9,t1)],h,x⟩
theorem zhm {C gl e h x K}:NW C gl PZ ⟨e,h,x⟩ K=z40 C gl (bA e 0) (bA e 1) (bA e 5) (bA e 8) (bA e 9) h x K:=by kernel_rfl
def z1D (q1:ACode):ACode:=.pr [0,1,5,8,9] (.seq (rg [bN 10 .lss 9 8] [0,1,5,8,9,10])
(.seq (.cond 10 .skip
(.exit 0))
(.seq (.block 1 (.seq (rg [mV 11 9,
mV 6 11] [0,1,5,6,8,9])
(.seq (rg [mV 12 0,
mV 13 6,
mV 14 1,
cL 15 CI [12,13,14]] [0,1,5,6,8,9,15])
(.cond 15 (rg [mV 16 5,
mV 17 6,
uO 18 (.bsl false none 1 (.int .i64 0) [(0,17)]),
uO 19 (.app none 16 18),
mV 5 19] [0,1,5,8,9])
.skip))))
q1)))
def HM:ACode:=z1D PZ
def RX (C:Hd)(gl:GL)(q1:ACode)(v0 v1 v5 v8 v9:AV)(h:aA)(x:Esc)(K:KT):Prop:=
 pK (gA .lss v9 v8) fun t1=>
 mA t1 (C CI [v0,v9,v1] h fun t2 h3 y4=>
 mA t2 (wK (RA false none 1 (.int .i64 0) [(0,v9)] h3) fun t5 h6 y7=>
 wK (dD none v5 t5 h6) fun t8 h9 y10=>
 NW C gl q1 ⟨[(0,v0),(1,v1),(5,t8),(8,v8),(9,v9)],h9,(y10++(y7++(y4++x)))⟩ K)
 (NW C gl q1 ⟨[(0,v0),(1,v1),(5,v5),(6,v9),(8,v8),(9,v9),(15,t2)],h3,(y4++x)⟩ K))
 (K (.exit 0) ⟨[(0,v0),(1,v1),(5,v5),(8,v8),(9,v9),(10,t1)],h,x⟩)
theorem zaG {C gl q1 e h x K}:NW C gl (z1D q1) ⟨e,h,x⟩ K=RX C gl q1 (bA e 0) (bA e 1) (bA e 5) (bA e 8) (bA e 9) h x K:=by kernel_rfl
theorem zhn {C gl e h x K}:NW C gl HM ⟨e,h,x⟩ K=RX C gl PZ (bA e 0) (bA e 1) (bA e 5) (bA e 8) (bA e 9) h x K:=zaG
theorem zlR {C gl e h x K}:NW C gl (.loop (.scope HM)) ⟨e,h,x⟩ K=PA C gl (.scope HM) K [(0,bA e 0),(1,bA e 1),(5,bA e 5),(8,bA e 8),(9,bA e 9)] h x:=ZC
def xT:ACode:=.pr [5] (.seq (rg [mV 21 5,
mV 4 21] [4])
.ret)
def z42 (C:Hd)(gl:GL)(v5:AV)(h:aA)(x:Esc)(K:KT):Prop:=
 K .ret ⟨[(4,v5)],h,x⟩
theorem zho {C gl e h x K}:NW C gl xT ⟨e,h,x⟩ K=z42 C gl (bA e 5) h x K:=by kernel_rfl
def z1C (q2 q3:ACode):ACode:=(.seq (rg [mV 4 (.c (.p (.sl none [])))] [0,1])
(.seq (rg [uO 5 (.new0 none)] [0,1,5])
(.seq (.seq (rg [mV 7 0,
lN 8 7,
mV 9 (cI 0)] [0,1,5,8,9])
(.block 0 (.loop (.scope q2))))
q3)))
def OV:AFun:=⟨2,[.t 4],z1C HM xT,false,false⟩
def qR (C:Hd)(gl:GL)(q2 q3:ACode)(v0 v1:AV)(h:aA)(x:Esc)(K:KT):Prop:=
 nwK none h fun t1 h2 y3=>
 pK (OA v0) fun t4=>
 NW C gl (.loop (.scope q2)) ⟨[(0,v0),(1,v1),(5,t1),(8,t4),(9,(AI 0))],h2,(y3++x)⟩ (yA 0 (NA C gl q3 K))
theorem zaF {C gl q2 q3 v0 v1 h x K}:NW C gl (z1C q2 q3) ⟨enter [v0,v1],h,x⟩ K=qR C gl q2 q3 v0 v1 h x K:=by kernel_rfl
theorem zhl {C gl v0 v1 h x K}:NW C gl OV.body ⟨enter [v0,v1],h,x⟩ K=qR C gl HM xT v0 v1 h x K:=zaF
def uP:ACode:=.pr [0,3,5,52,96] (.cond 96 (.seq (.block 3 (.seq (rg [fA 100 0 none 5,
lD 101 none 100,
bN 102 .neq 101 (cI 2),
mV 99 102] [0,3,5,99])
(.cond 99 (.seq (rg [mV 4 (cI 11)] [4])
.ret)
(.seq (rg [fA 104 3 none 5,
lD 105 none 104,
fA 106 0 none 3,
lD 107 none 106,
bN 108 .neq 105 107,
mV 103 108] [0,3,5,103])
(.cond 103 (.seq (rg [mV 4 (cI 13)] [4])
.ret)
.skip)))))
(.seq (rg [mV 109 0,
fA 110 4 none 3,
lD 111 none 110,
fA 112 2 none 3,
lD 113 none 112,
fA 114 3 none 3,
lD 115 none 114,
bN 116 .eql 115 (cI 3),
cL 117 HL [109,111,113,116]] [0,3,5])
(rg [mV 118 0,
lD 119 (some 5) 5,
fA 120 2 none 3,
lD 121 none 120,
fA 122 3 none 3,
lD 123 none 122,
bN 124 .eql 123 (cI 3),
cL 125 EL [118,119,121,124],
wO (.store (some 5) 5 125)] [0,3,5])))
(.seq (rg [bN 127 .eql 52 (cI 5),
mV 126 127] [0,3,5,52,126])
(.cond 126 (.seq (.seq (rg [fA 128 0 none 5,
lD 129 none 128,
bN 130 .neq 129 (cI 3)] [0,3,5,130])
(.cond 130 (.seq (rg [mV 4 (cI 11)] [4])
.ret)
.skip))
(dr [dF (fA 131 2 none 3) [3],
dF (lD 132 none 131) [131],
dF (fA 133 0 none 5) [5],
dA (wO (.store none 133 (cI 1))) [133] true [] [1],
dF (fA 134 1 none 5) [5],
dT (wO (.store none 134 132)) [134,132]] [0,3,5]))
(.seq (rg [bN 136 .eql 52 (cI 6),
mV 135 136] [0,3,5,135])
(.cond 135 (.seq (.seq (rg [fA 137 0 none 5,
lD 138 none 137,
bN 139 .eql 138 (cI 4),
mV 140 139,
gD 141 140 false (.faddr 0 none 5),
gD 142 140 false (.load none 141),
gD 143 140 false (.bin .eql 142 (cI 5)),
uO 144 (.pick 140 cT 143)] [0,3,5,144])
(.cond 144 (.seq (rg [mV 4 (cI 11)] [4])
.ret)
.skip))
(.seq (rg [mV 145 0,
lD 146 (some 8) 3,
cL 147 JL [145,146]] [0,3,5])
(dr [dF (fA 148 2 none 3) [3],
dF (lD 149 none 148) [148],
dF (fA 150 0 none 5) [5],
dA (wO (.store none 150 (cI 5))) [150] true [] [1],
dF (fA 151 1 none 5) [5],
dT (wO (.store none 151 149)) [151,149],
dF (fA 152 3 none 5) [5],
dT (wO (.store none 152 (cS []))) [152]] [0,3,5])))
.skip)))))
def QF (C:Hd)(gl:GL)(v0 v3 v5 v52 v96:AV)(h:aA)(x:Esc)(K:KT):Prop:=
 mA v96 (pK (jA 0 none v5) fun t1=>
 pK (eA none t1 h) fun t2=>
 pK (gA .neq t2 (AI 2)) fun t3=>
 mA t3 (K .ret ⟨[(4,(AI 11))],h,x⟩)
 (pK (jA 3 none v5) fun t4=>
 pK (eA none t4 h) fun t5=>
 pK (jA 0 none v3) fun t6=>
 pK (eA none t6 h) fun t7=>
 pK (gA .neq t5 t7) fun t8=>
 mA t8 (K .ret ⟨[(4,(AI 13))],h,x⟩)
 (pK (jA 4 none v3) fun t9=>
 pK (eA none t9 h) fun t10=>
 pK (jA 2 none v3) fun t11=>
 pK (eA none t11 h) fun t12=>
 pK (jA 3 none v3) fun t13=>
 pK (eA none t13 h) fun t14=>
 pK (gA .eql t14 (AI 3)) fun t15=>
 C HL [v0,t10,t12,t15] h fun t16 h17 y18=>
 pK (eA (some 5) v5 h17) fun t19=>
 pK (jA 2 none v3) fun t20=>
 pK (eA none t20 h17) fun t21=>
 pK (jA 3 none v3) fun t22=>
 pK (eA none t22 h17) fun t23=>
 pK (gA .eql t23 (AI 3)) fun t24=>
 C EL [v0,t19,t21,t24] h17 fun t25 h26 y27=>
 wK (tA (some 5) v5 t25 h26) fun t28 h29 y30=>
 K .normal ⟨[(0,v0),(3,v3),(5,v5)],h29,(y30++(y27++(y18++x)))⟩)))
 (pK (gA .eql v52 (AI 5)) fun t31=>
 mA t31 (pK (jA 0 none v5) fun t32=>
 pK (eA none t32 h) fun t33=>
 pK (gA .neq t33 (AI 3)) fun t34=>
 mA t34 (K .ret ⟨[(4,(AI 11))],h,x⟩)
 (pK (jA 2 none v3) fun t35=>
 pK (eA none t35 h) fun t36=>
 pK (jA 0 none v5) fun t37=>
 wK (tA none t37 (AI 1) h) fun t38 h39 y40=>
 (pK (eA none t35 h39) fun v=>(fun u (g1:aA) (y1:Esc)=>u=t36∧g1=h39∧y1=[]) v h39 [])∧(pK (jA 1 none v5) fun t41=>
 wK (tA none t41 t36 h39) fun t42 h43 y44=>
 K .normal ⟨[(0,v0),(3,v3),(5,v5)],h43,(y44++(y40++x))⟩)))
 (pK (gA .eql v52 (AI 6)) fun t45=>
 mA t45 (pK (jA 0 none v5) fun t46=>
 pK (eA none t46 h) fun t47=>
 pK (gA .eql t47 (AI 4)) fun t48=>
 gP t48 false (jA 0 none v5) h fun t49 h50 y51=>
 gP t48 false (eA none t49 h50) h50 fun t52 h53 y54=>
 gP t48 false (gA .eql t52 (AI 5)) h53 fun t55 h56 y57=>
 pK (DA t48 (AB true) t55) fun t58=>
 mA t58 (K .ret ⟨[(4,(AI 11))],h56,(y57++(y54++(y51++x)))⟩)
 (pK (eA (some 8) v3 h56) fun t59=>
 C JL [v0,t59] h56 fun t60 h61 y62=>
 pK (jA 2 none v3) fun t63=>
 pK (eA none t63 h61) fun t64=>
 pK (jA 0 none v5) fun t65=>
 wK (tA none t65 (AI 5) h61) fun t66 h67 y68=>
 (pK (eA none t63 h67) fun v=>(fun u (g1:aA) (y1:Esc)=>u=t64∧g1=h67∧y1=[]) v h67 [])∧(pK (jA 1 none v5) fun t69=>
 wK (tA none t69 t64 h67) fun t70 h71 y72=>
 pK (jA 3 none v5) fun t73=>
 wK (tA none t73 (.p (.str [])) h71) fun t74 h75 y76=>
 K .normal ⟨[(0,v0),(3,v3),(5,v5)],h75,(y76++(y72++(y68++(y62++(y57++(y54++(y51++x)))))))⟩)))
 (K .normal ⟨[(0,v0),(3,v3),(5,v5),(135,t45)],h,x⟩)))
theorem YY {C gl e h x K}:NW C gl uP ⟨e,h,x⟩ K=QF C gl (bA e 0) (bA e 3) (bA e 5) (bA e 52) (bA e 96) h x K:=by kernel_rfl
def GT:ACode:=.pr [0,3,5] (.seq (dr [dF (mV 153 0) [0],
dF (uO 154 (.nilchk 153)) [153],
dF (fA 155 2 none 154) [154],
dF (lD 156 none 155) [155],
dF (fA 157 4 none 3) [3],
dF (lD 158 none 157) [157],
dF (lD 159 (some 5) 5) [5],
dT (wO (.mupd (none,[2]) 156 158 159)) [156,158,159]] [])
(.seq (rg [mV 4 (cI 0)] [4])
.ret))
def z4J (C:Hd)(gl:GL)(v0 v3 v5:AV)(h:aA)(x:Esc)(K:KT):Prop:=
 pK (rA v0) fun t1=>
 pK (jA 2 none t1) fun t2=>
 pK (eA none t2 h) fun t3=>
 pK (jA 4 none v3) fun t4=>
 pK (eA none t4 h) fun t5=>
 pK (eA (some 5) v5 h) fun t6=>
 wK (oB (none,[2]) t3 t5 t6 h) fun t7 h8 y9=>
 K .ret ⟨[(4,(AI 0))],h8,(y9++x)⟩
theorem zhP {C gl e h x K}:NW C gl GT ⟨e,h,x⟩ K=z4J C gl (bA e 0) (bA e 3) (bA e 5) h x K:=by kernel_rfl
def z1O (q1 q2:ACode):ACode:=(.seq (rg [uO 3 (.box 1),
mV 4 (cI 0)] [0,3])
(.seq (dr [dF (mV 8 0) [0],
dF (uO 9 (.nilchk 8)) [8],
dF (fA 10 2 none 9) [9],
dF (lD 11 none 10) [10],
dF (fA 12 4 none 3) [3],
dF (lD 13 none 12) [12],
dF (uO 14 (.look (none,[2]) true (.p (.agg [.int .i64 0,.int .i64 0,.str [],.str [],.int .i64 0])) 11 13)) [11,13],
dF (mV 7 14) [14],
dF (eX 15 7 0) [7],
dF (eX 16 7 1) [7],
dA (uO 5 (.alloc [.p (.int .i64 0),.p (.int .i64 0),.p (.str []),.p (.str []),.p (.int .i64 0)])) [] true [] [3,5,6],
dT (wO (.store (some 5) 5 15)) [5,15],
dF (mV 6 16) [16]] [0,3,5,6])
(.seq (.block 0 (.seq (rg [fA 18 3 none 3,
lD 19 none 18,
bN 20 .eql 19 (cI 7),
mV 17 20] [0,3,5,6,17])
(.cond 17 (.seq (rg [mV 4 (cI 0)] [4])
.ret)
(.seq (rg [fA 22 3 none 3,
lD 23 none 22,
bN 24 .eql 23 (cI 1),
mV 25 24,
gD 26 25 true (.mv 6),
uO 27 (.pick 25 26 cF),
mV 21 27] [0,3,5,6,21])
(.cond 21 (.seq (rg [mV 4 (cI 6)] [4])
.ret)
(.seq (rg [fA 29 3 none 3,
lD 30 none 29,
bN 31 .eql 30 (cI 1),
mV 28 31] [0,3,5,6,28])
(.cond 28 (.seq (dr [dF (mV 32 0) [0],
dF (uO 33 (.nilchk 32)) [32],
dF (fA 34 2 none 33) [33],
dF (lD 35 none 34) [34],
dF (fA 36 4 none 3) [3],
dF (lD 37 none 36) [36],
dF (fA 38 2 none 3) [3],
dF (lD 39 none 38) [38],
dF (mV 40 0) [0],
dF (uO 41 (.nilchk 40)) [40],
dF (fA 42 0 (some 2) 41) [41],
dF (fA 43 0 none 42) [42],
dF (lD 44 none 43) [43],
dF (iA 45 none 44 (cI 0)) [44],
dF (lD 46 none 45) [45],
dF (uO 47 (.build [.p (.int .i64 0),.p (.int .i64 0),.p (.str []),.p (.str []),.p (.int .i64 0)] [(0,1,(cI 1)),(1,1,39),(2,1,46)])) [39,46],
dT (wO (.mupd (none,[2]) 35 37 47)) [35,37,47]] [])
(.seq (rg [mV 4 (cI 0)] [4])
.ret))
(.seq (rg [mV 49 6,
uO 50 (.un .not 49),
mV 48 50] [0,3,5,48])
(.cond 48 (.seq (rg [mV 4 (cI 8)] [4])
.ret)
.skip)))))))))
(.seq (.seq (rg [fA 51 3 none 3,
lD 52 none 51] [0,3,5,52])
(.block 1 (.seq (rg [bN 54 .eql 52 (cI 2),
mV 53 54] [0,3,5,52,53])
(.cond 53 (.seq (.block 2 (.seq (rg [fA 56 0 none 5,
lD 57 none 56,
bN 58 .neq 57 (cI 1),
mV 55 58] [0,3,5,55])
(.cond 55 (.seq (rg [mV 4 (cI 11)] [4])
.ret)
(.seq (rg [fA 60 2 none 5,
lD 61 none 60,
fA 62 5 none 3,
lD 63 none 62,
bN 64 .neq 61 63,
mV 59 64] [0,3,5,59])
(.cond 59 (.seq (rg [mV 4 (cI 3)] [4])
.ret)
(.seq (rg [mV 66 0,
fA 67 0 none 3,
lD 68 none 67,
cL 69 IL [66,68],
bN 70 .neq 69 (cS []),
mV 65 70] [0,3,5,65])
(.cond 65 (.seq (rg [mV 4 (cI 12)] [4])
.ret)
.skip)))))))
(.seq (dr [dF (fA 71 2 none 3) [3],
dF (lD 72 none 71) [71],
dF (fA 73 0 none 3) [3],
dF (lD 74 none 73) [73],
dF (fA 75 0 none 5) [5],
dA (wO (.store none 75 (cI 2))) [75] true [] [1,3],
dF (fA 76 1 none 5) [5],
dA (wO (.store none 76 72)) [76,72] true [] [3],
dF (fA 77 3 none 5) [5],
dT (wO (.store none 77 74)) [77,74]] [0,3,5])
(dr [dF (mV 78 0) [0],
dF (mV 79 0) [0],
dF (uO 80 (.nilchk 79)) [79],
dF (fA 81 3 none 80) [80],
dF (lD 82 none 81) [81],
dF (fA 83 4 none 3) [3],
dF (lD 84 none 83) [83],
dF (fA 85 0 none 3) [3],
dF (lD 86 none 85) [85],
dF (fA 87 5 none 3) [3],
dF (lD 88 none 87) [87],
dF (fA 89 2 none 3) [3],
dF (lD 90 none 89) [89],
dF (uO 91 (.build [.p (.str []),.p (.str []),.p (.str []),.p (.int .i64 0),.p (.int .i64 0),.p (.bool false)] [(0,1,84),(1,1,86),(2,1,88),(3,1,90),(4,1,(cI (-1)))])) [84,86,88,90],
dF (uO 92 (.bsl false (some 6) 1 (.agg [.str [],.str [],.str [],.int .i64 0,.int .i64 0,.bool false]) [(0,91)])) [91],
dT (uO 93 (.app (some 6) 82 92)) [82,92],
dF (uO 94 (.nilchk 78)) [78],
dF (fA 95 3 none 94) [94],
dT (wO (.store none 95 93)) [95,93]] [0,3,5])))
(.seq (.seq (rg [bN 97 .eql 52 (cI 3),
mV 96 97] [0,3,5,52,96])
(.cond 96 .skip
(rg [bN 98 .eql 52 (cI 4),
mV 96 98] [0,3,5,52,96])))
q1)))))
q2))))
def jW:AFun:=⟨2,[.t 4],z1O uP GT,false,false⟩
def SD (C:Hd)(gl:GL)(q1 q2:ACode)(v0 v1:AV)(h:aA)(x:Esc)(K:KT):Prop:=
 wK (vB v1 h) fun t1 h2 y3=>
 pK (rA v0) fun t4=>
 pK (jA 2 none t4) fun t5=>
 pK (eA none t5 h2) fun t6=>
 pK (jA 4 none t1) fun t7=>
 pK (eA none t7 h2) fun t8=>
 pK (QA (none,[2]) true (.p (.agg [.int .i64 0,.int .i64 0,.str [],.str [],.int .i64 0])) t6 t8 h2) fun t9=>
 pK (jB t9 0) fun t10=>
 pK (jB t9 1) fun t11=>
 alK [.p (.int .i64 0),.p (.int .i64 0),.p (.str []),.p (.str []),.p (.int .i64 0)] h2 fun t12 h13 y14=>
 (pK (eA none t5 h13) fun v=>(fun u (g1:aA) (y1:Esc)=>u=t6∧g1=h13∧y1=[]) v h13 [])∧((pK (eA none t7 h13) fun v=>(fun u (g1:aA) (y1:Esc)=>u=t8∧g1=h13∧y1=[]) v h13 [])∧((pK (QA (none,[2]) true (.p (.agg [.int .i64 0,.int .i64 0,.str [],.str [],.int .i64 0])) t6 t8 h13) fun v=>(fun u (g1:aA) (y1:Esc)=>u=t9∧g1=h13∧y1=[]) v h13 [])∧(wK (tA (some 5) t12 t10 h13) fun t15 h16 y17=>
 pK (jA 3 none t1) fun t18=>
 pK (eA none t18 h16) fun t19=>
 pK (gA .eql t19 (AI 7)) fun t20=>
 mA t20 (K .ret ⟨[(4,(AI 0))],h16,(y17++(y14++(y3++x)))⟩)
 (pK (jA 3 none t1) fun t21=>
 pK (eA none t21 h16) fun t22=>
 pK (gA .eql t22 (AI 1)) fun t23=>
 gM t23 true t11 h16 fun t24 h25 y26=>
 pK (DA t23 t24 (AB false)) fun t27=>
 mA t27 (K .ret ⟨[(4,(AI 6))],h25,(y26++(y17++(y14++(y3++x))))⟩)
 (pK (jA 3 none t1) fun t28=>
 pK (eA none t28 h25) fun t29=>
 pK (gA .eql t29 (AI 1)) fun t30=>
 mA t30 (pK (rA v0) fun t31=>
 pK (jA 2 none t31) fun t32=>
 pK (eA none t32 h25) fun t33=>
 pK (jA 4 none t1) fun t34=>
 pK (eA none t34 h25) fun t35=>
 pK (jA 2 none t1) fun t36=>
 pK (eA none t36 h25) fun t37=>
 pK (rA v0) fun t38=>
 pK (jA 0 (some 2) t38) fun t39=>
 pK (jA 0 none t39) fun t40=>
 pK (eA none t40 h25) fun t41=>
 pK (wA none t41 (AI 0) h25) fun t42=>
 pK (eA none t42 h25) fun t43=>
 pK (RB [.p (.int .i64 0),.p (.int .i64 0),.p (.str []),.p (.str []),.p (.int .i64 0)] [(0,1,(AI 1)),(1,1,t37),(2,1,t43)]) fun t44=>
 wK (oB (none,[2]) t33 t35 t44 h25) fun t45 h46 y47=>
 K .ret ⟨[(4,(AI 0))],h46,(y47++(y26++(y17++(y14++(y3++x)))))⟩)
 (pK (oUn .not t11) fun t48=>
 mA t48 (K .ret ⟨[(4,(AI 8))],h25,(y26++(y17++(y14++(y3++x))))⟩)
 (pK (jA 3 none t1) fun t49=>
 pK (eA none t49 h25) fun t50=>
 pK (gA .eql t50 (AI 2)) fun t51=>
 mA t51 (pK (jA 0 none t12) fun t52=>
 pK (eA none t52 h25) fun t53=>
 pK (gA .neq t53 (AI 1)) fun t54=>
 mA t54 (K .ret ⟨[(4,(AI 11))],h25,(y26++(y17++(y14++(y3++x))))⟩)
 (pK (jA 2 none t12) fun t55=>
 pK (eA none t55 h25) fun t56=>
 pK (jA 5 none t1) fun t57=>
 pK (eA none t57 h25) fun t58=>
 pK (gA .neq t56 t58) fun t59=>
 mA t59 (K .ret ⟨[(4,(AI 3))],h25,(y26++(y17++(y14++(y3++x))))⟩)
 (pK (jA 0 none t1) fun t60=>
 pK (eA none t60 h25) fun t61=>
 C IL [v0,t61] h25 fun t62 h63 y64=>
 pK (gA .neq t62 (.p (.str []))) fun t65=>
 mA t65 (K .ret ⟨[(4,(AI 12))],h63,(y64++(y26++(y17++(y14++(y3++x)))))⟩)
 (pK (jA 2 none t1) fun t66=>
 pK (eA none t66 h63) fun t67=>
 pK (jA 0 none t1) fun t68=>
 pK (eA none t68 h63) fun t69=>
 pK (jA 0 none t12) fun t70=>
 wK (tA none t70 (AI 2) h63) fun t71 h72 y73=>
 (pK (eA none t66 h72) fun v=>(fun u (g1:aA) (y1:Esc)=>u=t67∧g1=h72∧y1=[]) v h72 [])∧((pK (eA none t68 h72) fun v=>(fun u (g1:aA) (y1:Esc)=>u=t69∧g1=h72∧y1=[]) v h72 [])∧(pK (jA 1 none t12) fun t74=>
 wK (tA none t74 t67 h72) fun t75 h76 y77=>
 (pK (eA none t68 h76) fun v=>(fun u (g1:aA) (y1:Esc)=>u=t69∧g1=h76∧y1=[]) v h76 [])∧(pK (jA 3 none t12) fun t78=>
 wK (tA none t78 t69 h76) fun t79 h80 y81=>
 pK (rA v0) fun t82=>
 pK (jA 3 none t82) fun t83=>
 pK (eA none t83 h80) fun t84=>
 pK (jA 4 none t1) fun t85=>
 pK (eA none t85 h80) fun t86=>
 pK (jA 0 none t1) fun t87=>
 pK (eA none t87 h80) fun t88=>
 pK (jA 5 none t1) fun t89=>
 pK (eA none t89 h80) fun t90=>
 pK (jA 2 none t1) fun t91=>
 pK (eA none t91 h80) fun t92=>
 pK (RB [.p (.str []),.p (.str []),.p (.str []),.p (.int .i64 0),.p (.int .i64 0),.p (.bool false)] [(0,1,t86),(1,1,t88),(2,1,t90),(3,1,t92),(4,1,(AI (-1)))]) fun t93=>
 wK (RA false (some 6) 1 (.agg [.str [],.str [],.str [],.int .i64 0,.int .i64 0,.bool false]) [(0,t93)] h80) fun t94 h95 y96=>
 (h95=h80∧y96=[])∧(wK (dD (some 6) t84 t94 h95) fun t97 h98 y99=>
 pK (rA v0) fun t100=>
 pK (jA 3 none t100) fun t101=>
 wK (tA none t101 t97 h98) fun t102 h103 y104=>
 NW C gl q2 ⟨[(0,v0),(3,t1),(5,t12)],h103,(y104++(y99++(y96++(y81++(y77++(y73++(y64++(y26++(y17++(y14++(y3++x)))))))))))⟩ K))))))))
 (pK (gA .eql t50 (AI 3)) fun t105=>
 mA t105 (NW C gl q1 ⟨[(0,v0),(3,t1),(5,t12),(52,t50),(96,t105)],h25,(y26++(y17++(y14++(y3++x))))⟩ (yA 1 (NA C gl q2 K)))
 (pK (gA .eql t50 (AI 4)) fun t106=>
 NW C gl q1 ⟨[(0,v0),(3,t1),(5,t12),(52,t50),(96,t106)],h25,(y26++(y17++(y14++(y3++x))))⟩ (yA 1 (NA C gl q2 K)))))))))))
theorem zaR {C gl q1 q2 v0 v1 h x K}:NW C gl (z1O q1 q2) ⟨enter [v0,v1],h,x⟩ K=SD C gl q1 q2 v0 v1 h x K:=by kernel_rfl
theorem zhO {C gl v0 v1 h x K}:NW C gl jW.body ⟨enter [v0,v1],h,x⟩ K=SD C gl uP GT v0 v1 h x K:=zaR
def z0d:ACode:=.pr [0,1,2,3,4,10,11,12,13] (.seq (.seq (dr [dF (mV 81 1) [1],
dF (bN 82 .gtr 81 (cI 0)) [81],
dF (mV 83 82) [82],
dF (gD 84 83 true (.mv 4)) [4,83],
dF (gD 85 83 true (.mv 0)) [0,83],
dF (gD 86 83 true (.mv 1)) [1,83],
dF (gD 87 83 true (.bin .sub 86 (cI 1))) [86,83],
dF (gD 88 83 true (.iaddr (some 2) 85 87)) [85,87,83],
dF (gD 89 83 true (.load (some 2) 88)) [88,83],
dF (gD 90 83 true (.mv 0)) [0,83],
dF (gD 91 83 true (.mv 13)) [13,83],
dF (gD 92 83 true (.iaddr (some 2) 90 91)) [90,91,83],
dF (gD 93 83 true (.load (some 2) 92)) [92,83],
dT (gD 94 83 true (.callv 84 [89,93])) [84,89,93,83],
dF (gD 95 83 true (.bin .lss 94 (cI 0))) [94,83],
dF (gD 96 83 true (.un .not 95)) [95,83],
dF (uO 97 (.pick 83 96 cF)) [83,96]] [0,1,2,3,4,10,11,12,13,97])
(.cond 97 (.seq (rg [mV 98 0,
mV 99 1,
mV 100 2,
mV 101 13,
mV 102 4,
cL 103 z6N [98,99,100,101,102],
mV 15 103] [0,2,3,4,10,11,15])
(.seq (rg [mV 104 15,
mV 1 104] [0,1,2,3,4,10,11])
(.exit 1)))
.skip))
(.seq (rg [mV 106 0,
mV 107 1,
mV 108 2,
mV 109 13,
mV 110 4,
cL 111 z6L [106,107,108,109,110],
mV 105 111,
eX 112 105 0,
eX 113 105 1,
mV 16 112,
mV 17 113] [0,1,2,3,4,12,16,17])
(.seq (rg [mV 114 17,
mV 11 114] [0,1,2,3,4,11,12,16])
(.seq (rg [mV 115 16,
mV 116 1,
bN 117 .sub 115 116,
mV 118 2,
mV 119 16,
bN 120 .sub 118 119,
mV 18 117,
mV 19 120] [0,1,2,3,4,11,12,16,18,19])
(.seq (rg [mV 121 12,
bN 122 .quo 121 (cI 8),
mV 20 122] [0,1,2,3,4,11,16,18,19,20])
(.seq (rg [mV 123 18,
mV 124 19,
bN 125 .lss 123 124] [0,1,2,3,4,11,16,18,19,20,125])
(.cond 125 (.seq (rg [mV 126 18,
mV 127 20,
bN 128 .geq 126 127,
mV 10 128] [0,1,2,3,4,10,11,16])
(.seq (rg [mV 129 0,
mV 130 1,
mV 131 16,
mV 132 3,
mV 133 4,
cL 134 DG [129,130,131,132,133]] [0,2,3,4,10,11,16])
(rg [mV 135 16,
bN 136 .add 135 (cI 1),
mV 1 136] [0,1,2,3,4,10,11])))
(.seq (rg [mV 137 19,
mV 138 20,
bN 139 .geq 137 138,
mV 10 139] [0,1,2,3,4,10,11,16])
(.seq (rg [mV 140 0,
mV 141 16,
bN 142 .add 141 (cI 1),
mV 143 2,
mV 144 3,
mV 145 4,
cL 146 DG [140,142,143,144,145]] [0,1,3,4,10,11,16])
(rg [mV 147 16,
mV 2 147] [0,1,2,3,4,10,11]))))))))))
def z5v (C:Hd)(gl:GL)(v0 v1 v2 v3 v4 v10 v11 v12 v13:AV)(h:aA)(x:Esc)(K:KT):Prop:=
 pK (gA .gtr v1 (AI 0)) fun t1=>
 gM t1 true v4 h fun t2 h3 y4=>
 gM t1 true v0 h3 fun t5 h6 y7=>
 gM t1 true v1 h6 fun t8 h9 y10=>
 gP t1 true (gA .sub t8 (AI 1)) h9 fun t11 h12 y13=>
 gP t1 true (wA (some 2) t5 t11 h12) h12 fun t14 h15 y16=>
 gP t1 true (eA (some 2) t14 h15) h15 fun t17 h18 y19=>
 gM t1 true v0 h18 fun t20 h21 y22=>
 gM t1 true v13 h21 fun t23 h24 y25=>
 gP t1 true (wA (some 2) t20 t23 h24) h24 fun t26 h27 y28=>
 gP t1 true (eA (some 2) t26 h27) h27 fun t29 h30 y31=>
 gV t1 true h30 (eH C t2 [t17,t29] h30) fun t32 h33 y34=>
 gP t1 true (gA .lss t32 (AI 0)) h33 fun t35 h36 y37=>
 gP t1 true (oUn .not t35) h36 fun t38 h39 y40=>
 pK (DA t1 t38 (AB false)) fun t41=>
 mA t41 (C z6N [v0,v1,v2,v13,v4] h39 fun t42 h43 y44=>
 K (.exit 1) ⟨[(0,v0),(1,t42),(2,v2),(3,v3),(4,v4),(10,v10),(11,v11)],h43,(y44++(y40++(y37++(y34++(y31++(y28++(y25++(y22++(y19++(y16++(y13++(y10++(y7++(y4++x))))))))))))))⟩)
 (C z6L [v0,v1,v2,v13,v4] h39 fun t45 h46 y47=>
 pK (jB t45 0) fun t48=>
 pK (jB t45 1) fun t49=>
 pK (gA .sub t48 v1) fun t50=>
 pK (gA .sub v2 t48) fun t51=>
 pK (gA .quo v12 (AI 8)) fun t52=>
 pK (gA .lss t50 t51) fun t53=>
 mA t53 (pK (gA .geq t50 t52) fun t54=>
 C DG [v0,v1,t48,v3,v4] h46 fun t55 h56 y57=>
 pK (gA .add t48 (AI 1)) fun t58=>
 K .normal ⟨[(0,v0),(1,t58),(2,v2),(3,v3),(4,v4),(10,t54),(11,t49)],h56,(y57++(y47++(y40++(y37++(y34++(y31++(y28++(y25++(y22++(y19++(y16++(y13++(y10++(y7++(y4++x)))))))))))))))⟩)
 (pK (gA .geq t51 t52) fun t59=>
 pK (gA .add t48 (AI 1)) fun t60=>
 C DG [v0,t60,v2,v3,v4] h46 fun t61 h62 y63=>
 K .normal ⟨[(0,v0),(1,v1),(2,t48),(3,v3),(4,v4),(10,t59),(11,t49)],h62,(y63++(y47++(y40++(y37++(y34++(y31++(y28++(y25++(y22++(y19++(y16++(y13++(y10++(y7++(y4++x)))))))))))))))⟩))
theorem zjg {C gl e h x K}:NW C gl z0d ⟨e,h,x⟩ K=z5v C gl (bA e 0) (bA e 1) (bA e 2) (bA e 3) (bA e 4) (bA e 10) (bA e 11) (bA e 12) (bA e 13) h x K:=by kernel_rfl
def z2s (q1:ACode):ACode:=.pr [0,1,2,3,4,10,11,12,13,14] (.seq (.seq (rg [mV 68 10,
mV 69 68,
gD 70 69 true (.mv 11),
uO 71 (.pick 69 70 cF),
mV 72 71,
gD 73 72 true (.mv 14),
gD 74 72 true (.bin .eql 73 (cI 1)),
uO 75 (.pick 72 74 cF)] [0,1,2,3,4,10,11,12,13,75])
(.cond 75 (.seq (rg [mV 76 0,
mV 77 1,
mV 78 2,
mV 79 4,
cL 80 z6I [76,77,78,79]] [0,1,2,3,4,10,11,12,13,80])
(.cond 80 .ret
.skip))
.skip))
q1)
def z0e:ACode:=z2s z0d
def sY (C:Hd)(gl:GL)(q1:ACode)(v0 v1 v2 v3 v4 v10 v11 v12 v13 v14:AV)(h:aA)(x:Esc)(K:KT):Prop:=
 gM v10 true v11 h fun t1 h2 y3=>
 pK (DA v10 t1 (AB false)) fun t4=>
 gM t4 true v14 h2 fun t5 h6 y7=>
 gP t4 true (gA .eql t5 (AI 1)) h6 fun t8 h9 y10=>
 pK (DA t4 t8 (AB false)) fun t11=>
 mA t11 (C z6I [v0,v1,v2,v4] h9 fun t12 h13 y14=>
 mA t12 (K .ret ⟨[(0,v0),(1,v1),(2,v2),(3,v3),(4,v4),(10,v10),(11,v11),(12,v12),(13,v13),(80,t12)],h13,(y14++(y10++(y7++(y3++x))))⟩)
 (NW C gl q1 ⟨[(0,v0),(1,v1),(2,v2),(3,v3),(4,v4),(10,v10),(11,v11),(12,v12),(13,v13),(80,t12)],h13,(y14++(y10++(y7++(y3++x))))⟩ K))
 (NW C gl q1 ⟨[(0,v0),(1,v1),(2,v2),(3,v3),(4,v4),(10,v10),(11,v11),(12,v12),(13,v13),(75,t11)],h9,(y10++(y7++(y3++x)))⟩ K)
theorem zbv {C gl q1 e h x K}:NW C gl (z2s q1) ⟨e,h,x⟩ K=sY C gl q1 (bA e 0) (bA e 1) (bA e 2) (bA e 3) (bA e 4) (bA e 10) (bA e 11) (bA e 12) (bA e 13) (bA e 14) h x K:=by kernel_rfl
theorem zjh {C gl e h x K}:NW C gl z0e ⟨e,h,x⟩ K=sY C gl z0d (bA e 0) (bA e 1) (bA e 2) (bA e 3) (bA e 4) (bA e 10) (bA e 11) (bA e 12) (bA e 13) (bA e 14) h x K:=zbv
def z2t (q2:ACode):ACode:=.pr [0,1,2,3,4,10,11,12] (.seq (rg [mV 48 0,
mV 49 1,
mV 50 2,
mV 51 4,
cL 52 z6C [48,49,50,51],
mV 47 52,
eX 53 47 0,
eX 54 47 1,
mV 13 53,
mV 14 54] [0,1,2,3,4,10,11,12,13,14])
(.seq (.seq (rg [mV 55 14,
bN 56 .eql 55 (cI 2)] [0,1,2,3,4,10,11,12,13,14,56])
(.cond 56 (.seq (rg [mV 57 0,
mV 58 1,
mV 59 2,
mV 60 4,
cL 61 z6R [57,58,59,60]] [0,1,2,3,4,10,11,12,13])
(.seq (rg [mV 62 2,
bN 63 .sub 62 (cI 1),
mV 64 13,
mV 65 1,
bN 66 .sub 64 65,
bN 67 .sub 63 66,
mV 13 67] [0,1,2,3,4,10,11,12,13])
(rg [mV 14 (cI 1)] [0,1,2,3,4,10,11,12,13,14])))
.skip))
q2))
def z0f:ACode:=z2t z0e
def tY (C:Hd)(gl:GL)(q2:ACode)(v0 v1 v2 v3 v4 v10 v11 v12:AV)(h:aA)(x:Esc)(K:KT):Prop:=
 C z6C [v0,v1,v2,v4] h fun t1 h2 y3=>
 pK (jB t1 0) fun t4=>
 pK (jB t1 1) fun t5=>
 pK (gA .eql t5 (AI 2)) fun t6=>
 mA t6 (C z6R [v0,v1,v2,v4] h2 fun t7 h8 y9=>
 pK (gA .sub v2 (AI 1)) fun t10=>
 pK (gA .sub t4 v1) fun t11=>
 pK (gA .sub t10 t11) fun t12=>
 NW C gl q2 ⟨[(0,v0),(1,v1),(2,v2),(3,v3),(4,v4),(10,v10),(11,v11),(12,v12),(13,t12),(14,(AI 1))],h8,(y9++(y3++x))⟩ K)
 (NW C gl q2 ⟨[(0,v0),(1,v1),(2,v2),(3,v3),(4,v4),(10,v10),(11,v11),(12,v12),(13,t4),(14,t5),(56,t6)],h2,(y3++x)⟩ K)
theorem zbw {C gl q2 e h x K}:NW C gl (z2t q2) ⟨e,h,x⟩ K=tY C gl q2 (bA e 0) (bA e 1) (bA e 2) (bA e 3) (bA e 4) (bA e 10) (bA e 11) (bA e 12) h x K:=by kernel_rfl
theorem zji {C gl e h x K}:NW C gl z0f ⟨e,h,x⟩ K=tY C gl z0e (bA e 0) (bA e 1) (bA e 2) (bA e 3) (bA e 4) (bA e 10) (bA e 11) (bA e 12) h x K:=zbw
def z2u (q3:ACode):ACode:=.pr [0,1,2,3,4,10,11] (.block 1 (.seq (rg [mV 21 2,
mV 22 1,
bN 23 .sub 21 22,
mV 12 23] [0,1,2,3,4,10,11,12])
(.seq (.seq (rg [mV 24 12,
bN 25 .leq 24 (cI 12)] [0,1,2,3,4,10,11,12,25])
(.cond 25 (.seq (rg [mV 26 0,
mV 27 1,
mV 28 2,
mV 29 4,
cL 30 ZL [26,27,28,29]] [])
.ret)
.skip))
(.seq (.seq (rg [mV 31 3,
bN 32 .eql 31 (cI 0)] [0,1,2,3,4,10,11,12,32])
(.cond 32 (.seq (rg [mV 33 0,
mV 34 1,
mV 35 2,
mV 36 4,
cL 37 z6F [33,34,35,36]] [])
.ret)
.skip))
(.seq (.seq (rg [mV 38 10,
uO 39 (.un .not 38)] [0,1,2,3,4,10,11,12,39])
(.cond 39 (.seq (rg [mV 40 0,
mV 41 1,
mV 42 2,
mV 43 4,
cL 44 z69 [40,41,42,43]] [0,1,2,3,4,10,11,12])
(rg [mV 45 3,
bN 46 .sub 45 (cI 1),
mV 3 46] [0,1,2,3,4,10,11,12]))
.skip))
q3)))))
def jN:ACode:=z2u z0f
def uY (C:Hd)(gl:GL)(q3:ACode)(v0 v1 v2 v3 v4 v10 v11:AV)(h:aA)(x:Esc)(K:KT):Prop:=
 pK (gA .sub v2 v1) fun t1=>
 pK (gA .leq t1 (AI 12)) fun t2=>
 mA t2 (C ZL [v0,v1,v2,v4] h fun t3 h4 y5=>
 K .ret ⟨[],h4,(y5++x)⟩)
 (pK (gA .eql v3 (AI 0)) fun t6=>
 mA t6 (C z6F [v0,v1,v2,v4] h fun t7 h8 y9=>
 K .ret ⟨[],h8,(y9++x)⟩)
 (pK (oUn .not v10) fun t10=>
 mA t10 (C z69 [v0,v1,v2,v4] h fun t11 h12 y13=>
 pK (gA .sub v3 (AI 1)) fun t14=>
 NW C gl q3 ⟨[(0,v0),(1,v1),(2,v2),(3,t14),(4,v4),(10,v10),(11,v11),(12,t1)],h12,(y13++x)⟩ (yA 1 K))
 (NW C gl q3 ⟨[(0,v0),(1,v1),(2,v2),(3,v3),(4,v4),(10,v10),(11,v11),(12,t1),(39,t10)],h,x⟩ (yA 1 K))))
theorem zbx {C gl q3 e h x K}:NW C gl (z2u q3) ⟨e,h,x⟩ K=uY C gl q3 (bA e 0) (bA e 1) (bA e 2) (bA e 3) (bA e 4) (bA e 10) (bA e 11) h x K:=by kernel_rfl
theorem zjj {C gl e h x K}:NW C gl jN ⟨e,h,x⟩ K=uY C gl z0f (bA e 0) (bA e 1) (bA e 2) (bA e 3) (bA e 4) (bA e 10) (bA e 11) h x K:=zbx
theorem zmx {C gl e h x K}:NW C gl (.loop jN) ⟨e,h,x⟩ K=PA C gl jN K [(0,bA e 0),(1,bA e 1),(2,bA e 2),(3,bA e 3),(4,bA e 4),(10,bA e 10),(11,bA e 11)] h x:=wB
def z2r (q4:ACode):ACode:=(.seq (rg [mV 10 cT] [0,1,2,3,4,10])
(.seq (rg [mV 11 cT] [0,1,2,3,4,10,11])
(.block 0 (.loop q4))))
def OW:AFun:=⟨5,[],z2r jN,true,false⟩
def PR (C:Hd)(gl:GL)(q4:ACode)(v0 v1 v2 v3 v4:AV)(h:aA)(x:Esc)(K:KT):Prop:=
 NW C gl (.loop q4) ⟨[(0,v0),(1,v1),(2,v2),(3,v3),(4,v4),(10,(AB true)),(11,(AB true))],h,x⟩ (yA 0 K)
theorem zbu {C gl q4 v0 v1 v2 v3 v4 h x K}:NW C gl (z2r q4) ⟨enter [v0,v1,v2,v3,v4],h,x⟩ K=PR C gl q4 v0 v1 v2 v3 v4 h x K:=by kernel_rfl
theorem zjf {C gl v0 v1 v2 v3 v4 h x K}:NW C gl OW.body ⟨enter [v0,v1,v2,v3,v4],h,x⟩ K=PR C gl jN v0 v1 v2 v3 v4 h x K:=zbu
def zcs:ACode:=(.seq (rg [mV 2 (cI 0)] [0])
(.seq (.cond cF (.seq (rg [mV 3 0,
uO 4 (.conv (.i .u32) 3),
cL 5 z68 [4],
mV 2 5] [2])
.ret)
.skip)
(.seq (rg [mV 6 0,
cL 7 mL [6],
mV 2 7] [2])
.ret)))
def vV:AFun:=⟨1,[.t 2],zcs,false,false⟩
def DX (C:Hd)(gl:GL)(v0:AV)(h:aA)(x:Esc)(K:KT):Prop:=
 mA (AB false) (pK (DH .u32 v0) fun t1=>
 C z68 [t1] h fun t2 h3 y4=>
 K .ret ⟨[(2,t2)],h3,(y4++x)⟩)
 (C mL [v0] h fun t5 h6 y7=>
 K .ret ⟨[(2,t5)],h6,(y7++x)⟩)
theorem zgH {C gl v0 h x K}:NW C gl vV.body ⟨enter [v0],h,x⟩ K=DX C gl v0 h x K:=by kernel_rfl
def zcp:ACode:=(.seq (rg [mV 4 (cI 0)] [0,1])
(.seq (rg [mV 5 0,
mV 6 1,
cL 7 xG [5,6],
mV 4 7] [4])
.ret))
def tQ:AFun:=⟨2,[.t 4],zcp,false,false⟩
def AX (C:Hd)(gl:GL)(v0 v1:AV)(h:aA)(x:Esc)(K:KT):Prop:=
 C xG [v0,v1] h fun t1 h2 y3=>
 K .ret ⟨[(4,t1)],h2,(y3++x)⟩
theorem zgE {C gl v0 v1 h x K}:NW C gl tQ.body ⟨enter [v0,v1],h,x⟩ K=AX C gl v0 v1 h x K:=by kernel_rfl
def cN:ACode:=.pr [0,1,7,8] (.seq (rg [bN 9 .lss 8 7] [0,1,7,8,9])
(.seq (.cond 9 .skip
(.exit 0))
(.seq (.block 1 (.seq (rg [mV 10 8,
mV 5 10] [0,1,5,7,8])
(.seq (rg [mV 11 1,
mV 12 0,
mV 13 5,
iA 14 none 12 13,
lD 15 none 14,
uO 16 (.callv 11 [15])] [0,1,5,7,8,16])
(.cond 16 (.seq (rg [mV 17 5,
mV 4 17] [4])
.ret)
.skip))))
(rg [bN 18 .add 8 (cI 1),
mV 8 18] [0,1,7,8]))))
def z5j (C:Hd)(gl:GL)(v0 v1 v7 v8:AV)(h:aA)(x:Esc)(K:KT):Prop:=
 pK (gA .lss v8 v7) fun t1=>
 mA t1 (pK (wA none v0 v8 h) fun t2=>
 pK (eA none t2 h) fun t3=>
 sJ C v1 [t3] h fun t4 h5 y6=>
 mA t4 (K .ret ⟨[(4,v8)],h5,(y6++x)⟩)
 (pK (gA .add v8 (AI 1)) fun t7=>
 K .normal ⟨[(0,v0),(1,v1),(7,v7),(8,t7)],h5,(y6++x)⟩))
 (K (.exit 0) ⟨[(0,v0),(1,v1),(7,v7),(8,v8),(9,t1)],h,x⟩)
theorem ziF {C gl e h x K}:NW C gl cN ⟨e,h,x⟩ K=z5j C gl (bA e 0) (bA e 1) (bA e 7) (bA e 8) h x K:=by kernel_rfl
theorem zmn {C gl e h x K}:NW C gl (.loop cN) ⟨e,h,x⟩ K=PA C gl cN K [(0,bA e 0),(1,bA e 1),(7,bA e 7),(8,bA e 8)] h x:=wB
def UT:ACode:=.pr [] (.seq (rg [mV 4 (cI (-1))] [4])
.ret)
def z5k (C:Hd)(gl:GL)(h:aA)(x:Esc)(K:KT):Prop:=
 K .ret ⟨[(4,(AI (-1)))],h,x⟩
theorem ziG {C gl e h x K}:NW C gl UT ⟨e,h,x⟩ K=z5k C gl h x K:=by kernel_rfl
def z2h (q1 q2:ACode):ACode:=(.seq (rg [mV 4 (cI 0)] [0,1])
(.seq (.seq (rg [mV 6 0,
lN 7 6,
mV 8 (cI 0)] [0,1,7,8])
(.block 0 (.loop q1)))
q2))
def DW:AFun:=⟨2,[.t 4],z2h cN UT,true,false⟩
def KR (C:Hd)(gl:GL)(q1 q2:ACode)(v0 v1:AV)(h:aA)(x:Esc)(K:KT):Prop:=
 pK (OA v0) fun t1=>
 NW C gl (.loop q1) ⟨[(0,v0),(1,v1),(7,t1),(8,(AI 0))],h,x⟩ (yA 0 (NA C gl q2 K))
theorem zbk {C gl q1 q2 v0 v1 h x K}:NW C gl (z2h q1 q2) ⟨enter [v0,v1],h,x⟩ K=KR C gl q1 q2 v0 v1 h x K:=by kernel_rfl
theorem ziE {C gl v0 v1 h x K}:NW C gl DW.body ⟨enter [v0,v1],h,x⟩ K=KR C gl cN UT v0 v1 h x K:=zbk
def oN:ACode:=.pr [0,1,2,6,7,8] (.seq (.seq (rg [mV 11 8,
mV 12 1,
bN 13 .leq 11 12] [0,1,2,6,7,8,13])
(.cond 13 .skip
(.exit 0)))
(.block 1 (.seq (rg [mV 14 0,
mV 15 7,
mV 16 8,
mV 17 2,
cL 18 CG [14,15,16,17]] [0,1,2,6,8])
(.seq (rg [mV 19 8,
mV 7 19] [0,1,2,6,7,8])
(rg [mV 20 8,
mV 21 6,
bN 22 .add 20 21,
mV 8 22] [0,1,2,6,7,8])))))
def z52 (C:Hd)(gl:GL)(v0 v1 v2 v6 v7 v8:AV)(h:aA)(x:Esc)(K:KT):Prop:=
 pK (gA .leq v8 v1) fun t1=>
 mA t1 (C CG [v0,v7,v8,v2] h fun t2 h3 y4=>
 pK (gA .add v8 v6) fun t5=>
 K .normal ⟨[(0,v0),(1,v1),(2,v2),(6,v6),(7,v8),(8,t5)],h3,(y4++x)⟩)
 (K (.exit 0) ⟨[(0,v0),(1,v1),(2,v2),(6,v6),(7,v7),(8,v8),(13,t1)],h,x⟩)
theorem zj2 {C gl e h x K}:NW C gl oN ⟨e,h,x⟩ K=z52 C gl (bA e 0) (bA e 1) (bA e 2) (bA e 6) (bA e 7) (bA e 8) h x K:=by kernel_rfl
theorem zm3 {C gl e h x K}:NW C gl (.loop oN) ⟨e,h,x⟩ K=PA C gl oN K [(0,bA e 0),(1,bA e 1),(2,bA e 2),(6,bA e 6),(7,bA e 7),(8,bA e 8)] h x:=wB
def CP:ACode:=.pr [0,1,2,6,7,8] (.seq (.seq (rg [mV 33 8,
mV 34 1,
bN 35 .leq 33 34] [0,1,2,6,7,8,35])
(.cond 35 .skip
(.exit 4)))
(.block 5 (.seq (rg [mV 36 0,
mV 37 7,
mV 38 7,
mV 39 6,
bN 40 .add 38 39,
mV 41 8,
mV 42 2,
cL 43 xS [36,37,40,41,42]] [0,1,2,6,8])
(.seq (rg [mV 44 8,
mV 7 44] [0,1,2,6,7,8])
(rg [mV 45 8,
mV 46 6,
bN 47 .mul (cI 2) 46,
bN 48 .add 45 47,
mV 8 48] [0,1,2,6,7,8])))))
def z54 (C:Hd)(gl:GL)(v0 v1 v2 v6 v7 v8:AV)(h:aA)(x:Esc)(K:KT):Prop:=
 pK (gA .leq v8 v1) fun t1=>
 mA t1 (pK (gA .add v7 v6) fun t2=>
 C xS [v0,v7,t2,v8,v2] h fun t3 h4 y5=>
 pK (gA .mul (AI 2) v6) fun t6=>
 pK (gA .add v8 t6) fun t7=>
 K .normal ⟨[(0,v0),(1,v1),(2,v2),(6,v6),(7,v8),(8,t7)],h4,(y5++x)⟩)
 (K (.exit 4) ⟨[(0,v0),(1,v1),(2,v2),(6,v6),(7,v7),(8,v8),(35,t1)],h,x⟩)
theorem zj3 {C gl e h x K}:NW C gl CP ⟨e,h,x⟩ K=z54 C gl (bA e 0) (bA e 1) (bA e 2) (bA e 6) (bA e 7) (bA e 8) h x K:=by kernel_rfl
theorem zm4 {C gl e h x K}:NW C gl (.loop CP) ⟨e,h,x⟩ K=PA C gl CP K [(0,bA e 0),(1,bA e 1),(2,bA e 2),(6,bA e 6),(7,bA e 7),(8,bA e 8)] h x:=wB
def z0o:ACode:=.pr [0,1,2,6] (rg [mV 61 6,
bN 62 .mul 61 (cI 2),
mV 6 62] [0,1,2,6])
def z55 (C:Hd)(gl:GL)(v0 v1 v2 v6:AV)(h:aA)(x:Esc)(K:KT):Prop:=
 pK (gA .mul v6 (AI 2)) fun t1=>
 K .normal ⟨[(0,v0),(1,v1),(2,v2),(6,t1)],h,x⟩
theorem zj4 {C gl e h x K}:NW C gl z0o ⟨e,h,x⟩ K=z55 C gl (bA e 0) (bA e 1) (bA e 2) (bA e 6) h x K:=by kernel_rfl
def z2G (q3:ACode):ACode:=.pr [0,1,2,6,7] (.seq (.seq (rg [mV 49 7,
mV 50 6,
bN 51 .add 49 50,
mV 9 51] [0,1,2,6,7,9])
(.seq (rg [mV 52 9,
mV 53 1,
bN 54 .lss 52 53] [0,1,2,6,7,9,54])
(.cond 54 (rg [mV 55 0,
mV 56 7,
mV 57 9,
mV 58 1,
mV 59 2,
cL 60 xS [55,56,57,58,59]] [0,1,2,6])
.skip)))
q3)
def z0p:ACode:=z2G z0o
def EY (C:Hd)(gl:GL)(q3:ACode)(v0 v1 v2 v6 v7:AV)(h:aA)(x:Esc)(K:KT):Prop:=
 pK (gA .add v7 v6) fun t1=>
 pK (gA .lss t1 v1) fun t2=>
 mA t2 (C xS [v0,v7,t1,v1,v2] h fun t3 h4 y5=>
 NW C gl q3 ⟨[(0,v0),(1,v1),(2,v2),(6,v6)],h4,(y5++x)⟩ K)
 (NW C gl q3 ⟨[(0,v0),(1,v1),(2,v2),(6,v6),(7,v7),(9,t1),(54,t2)],h,x⟩ K)
theorem zbB {C gl q3 e h x K}:NW C gl (z2G q3) ⟨e,h,x⟩ K=EY C gl q3 (bA e 0) (bA e 1) (bA e 2) (bA e 6) (bA e 7) h x K:=by kernel_rfl
theorem zj5 {C gl e h x K}:NW C gl z0p ⟨e,h,x⟩ K=EY C gl z0o (bA e 0) (bA e 1) (bA e 2) (bA e 6) (bA e 7) h x K:=zbB
def z2H (q2 q4:ACode):ACode:=.pr [0,1,2,6] (.seq (.seq (rg [mV 28 6,
mV 29 1,
bN 30 .lss 28 29] [0,1,2,6,30])
(.cond 30 .skip
(.exit 2)))
(.block 3 (.seq (rg [mV 31 6,
bN 32 .mul (cI 2) 31,
mV 7 (cI 0),
mV 8 32] [0,1,2,6,7,8])
(.seq (.block 4 (.loop q2))
q4))))
def DP:ACode:=z2H CP z0p
def FY (C:Hd)(gl:GL)(q2 q4:ACode)(v0 v1 v2 v6:AV)(h:aA)(x:Esc)(K:KT):Prop:=
 pK (gA .lss v6 v1) fun t1=>
 mA t1 (pK (gA .mul (AI 2) v6) fun t2=>
 NW C gl (.loop q2) ⟨[(0,v0),(1,v1),(2,v2),(6,v6),(7,(AI 0)),(8,t2)],h,x⟩ (yA 4 (NA C gl q4 (yA 3 K))))
 (K (.exit 2) ⟨[(0,v0),(1,v1),(2,v2),(6,v6),(30,t1)],h,x⟩)
theorem zbC {C gl q2 q4 e h x K}:NW C gl (z2H q2 q4) ⟨e,h,x⟩ K=FY C gl q2 q4 (bA e 0) (bA e 1) (bA e 2) (bA e 6) h x K:=by kernel_rfl
theorem zj6 {C gl e h x K}:NW C gl DP ⟨e,h,x⟩ K=FY C gl CP z0p (bA e 0) (bA e 1) (bA e 2) (bA e 6) h x K:=zbC
theorem zm5 {C gl e h x K}:NW C gl (.loop DP) ⟨e,h,x⟩ K=PA C gl DP K [(0,bA e 0),(1,bA e 1),(2,bA e 2),(6,bA e 6)] h x:=wB
def z2I (q5:ACode):ACode:=.pr [0,1,2,6,7] (.seq (rg [mV 23 0,
mV 24 7,
mV 25 1,
mV 26 2,
cL 27 CG [23,24,25,26]] [0,1,2,6])
(.block 2 (.loop q5)))
def XT:ACode:=z2I DP
def GY (C:Hd)(gl:GL)(q5:ACode)(v0 v1 v2 v6 v7:AV)(h:aA)(x:Esc)(K:KT):Prop:=
 C CG [v0,v7,v1,v2] h fun t1 h2 y3=>
 NW C gl (.loop q5) ⟨[(0,v0),(1,v1),(2,v2),(6,v6)],h2,(y3++x)⟩ (yA 2 K)
theorem zbD {C gl q5 e h x K}:NW C gl (z2I q5) ⟨e,h,x⟩ K=GY C gl q5 (bA e 0) (bA e 1) (bA e 2) (bA e 6) (bA e 7) h x K:=by kernel_rfl
theorem zj7 {C gl e h x K}:NW C gl XT ⟨e,h,x⟩ K=GY C gl DP (bA e 0) (bA e 1) (bA e 2) (bA e 6) (bA e 7) h x K:=zbD
def z2F (q1 q6:ACode):ACode:=(.seq (rg [mV 6 (cI 20)] [0,1,2,6])
(.seq (rg [mV 10 6,
mV 7 (cI 0),
mV 8 10] [0,1,2,6,7,8])
(.seq (.block 0 (.loop q1))
q6)))
def TW:AFun:=⟨3,[],z2F oN XT,true,false⟩
def VR (C:Hd)(gl:GL)(q1 q6:ACode)(v0 v1 v2:AV)(h:aA)(x:Esc)(K:KT):Prop:=
 NW C gl (.loop q1) ⟨[(0,v0),(1,v1),(2,v2),(6,(AI 20)),(7,(AI 0)),(8,(AI 20))],h,x⟩ (yA 0 (NA C gl q6 K))
theorem zbA {C gl q1 q6 v0 v1 v2 h x K}:NW C gl (z2F q1 q6) ⟨enter [v0,v1,v2],h,x⟩ K=VR C gl q1 q6 v0 v1 v2 h x K:=by kernel_rfl
theorem zj1 {C gl v0 v1 v2 h x K}:NW C gl TW.body ⟨enter [v0,v1,v2],h,x⟩ K=VR C gl oN XT v0 v1 v2 h x K:=zbA
def wP:ACode:=.pr [0,1,2,3,8,9] (.seq (.seq (dr [dF (mV 18 9) [9],
dF (mV 19 1) [1],
dF (bN 20 .gtr 18 19) [18,19],
dF (mV 21 20) [20],
dF (gD 22 21 true (.mv 3)) [3,21],
dF (gD 23 21 true (.mv 0)) [0,21],
dF (gD 24 21 true (.mv 9)) [9,21],
dF (gD 25 21 true (.iaddr (some 8) 23 24)) [23,24,21],
dF (gD 26 21 true (.load (some 8) 25)) [25,21],
dF (gD 27 21 true (.mv 0)) [0,21],
dF (gD 28 21 true (.mv 9)) [9,21],
dF (gD 29 21 true (.bin .sub 28 (cI 1))) [28,21],
dF (gD 30 21 true (.iaddr (some 8) 27 29)) [27,29,21],
dF (gD 31 21 true (.load (some 8) 30)) [30,21],
dT (gD 32 21 true (.callv 22 [26,31])) [22,26,31,21],
dF (gD 33 21 true (.bin .lss 32 (cI 0))) [32,21],
dF (uO 34 (.pick 21 33 cF)) [21,33]] [0,1,2,3,8,9,34])
(.cond 34 .skip
(.exit 2)))
(.seq (.block 3 (dr [dF (mV 37 0) [0],
dF (mV 38 9) [9],
dF (mV 39 0) [0],
dF (mV 40 9) [9],
dF (bN 41 .sub 40 (cI 1)) [40],
dF (mV 42 0) [0],
dF (mV 43 9) [9],
dF (bN 44 .sub 43 (cI 1)) [43],
dF (iA 45 (some 8) 42 44) [42,44],
dF (lD 46 (some 8) 45) [45],
dF (mV 47 0) [0],
dF (mV 48 9) [9],
dF (iA 49 (some 8) 47 48) [47,48],
dF (lD 50 (some 8) 49) [49],
dF (iA 51 (some 8) 37 38) [37,38],
dT (wO (.store (some 8) 51 46)) [51,46],
dF (iA 52 (some 8) 39 41) [39,41],
dT (wO (.store (some 8) 52 50)) [52,50]] [0,1,2,3,8,9]))
(rg [mV 35 9,
bN 36 .sub 35 (cI 1),
mV 9 36] [0,1,2,3,8,9])))
def z5n (C:Hd)(gl:GL)(v0 v1 v2 v3 v8 v9:AV)(h:aA)(x:Esc)(K:KT):Prop:=
 pK (gA .gtr v9 v1) fun t1=>
 gM t1 true v3 h fun t2 h3 y4=>
 gM t1 true v0 h3 fun t5 h6 y7=>
 gM t1 true v9 h6 fun t8 h9 y10=>
 gP t1 true (wA (some 8) t5 t8 h9) h9 fun t11 h12 y13=>
 gP t1 true (eA (some 8) t11 h12) h12 fun t14 h15 y16=>
 gM t1 true v0 h15 fun t17 h18 y19=>
 gM t1 true v9 h18 fun t20 h21 y22=>
 gP t1 true (gA .sub t20 (AI 1)) h21 fun t23 h24 y25=>
 gP t1 true (wA (some 8) t17 t23 h24) h24 fun t26 h27 y28=>
 gP t1 true (eA (some 8) t26 h27) h27 fun t29 h30 y31=>
 gV t1 true h30 (eH C t2 [t14,t29] h30) fun t32 h33 y34=>
 gP t1 true (gA .lss t32 (AI 0)) h33 fun t35 h36 y37=>
 pK (DA t1 t35 (AB false)) fun t38=>
 mA t38 (pK (gA .sub v9 (AI 1)) fun t39=>
 pK (gA .sub v9 (AI 1)) fun t40=>
 pK (wA (some 8) v0 t40 h36) fun t41=>
 pK (eA (some 8) t41 h36) fun t42=>
 pK (wA (some 8) v0 v9 h36) fun t43=>
 pK (eA (some 8) t43 h36) fun t44=>
 pK (wA (some 8) v0 v9 h36) fun t45=>
 wK (tA (some 8) t45 t42 h36) fun t46 h47 y48=>
 pK (wA (some 8) v0 t39 h47) fun t49=>
 wK (tA (some 8) t49 t44 h47) fun t50 h51 y52=>
 pK (gA .sub v9 (AI 1)) fun t53=>
 K .normal ⟨[(0,v0),(1,v1),(2,v2),(3,v3),(8,v8),(9,t53)],h51,(y52++(y48++(y37++(y34++(y31++(y28++(y25++(y22++(y19++(y16++(y13++(y10++(y7++(y4++x))))))))))))))⟩)
 (K (.exit 2) ⟨[(0,v0),(1,v1),(2,v2),(3,v3),(8,v8),(9,v9),(34,t38)],h36,(y37++(y34++(y31++(y28++(y25++(y22++(y19++(y16++(y13++(y10++(y7++(y4++x))))))))))))⟩)
theorem ziQ {C gl e h x K}:NW C gl wP ⟨e,h,x⟩ K=z5n C gl (bA e 0) (bA e 1) (bA e 2) (bA e 3) (bA e 8) (bA e 9) h x K:=by kernel_rfl
theorem zmp {C gl e h x K}:NW C gl (.loop wP) ⟨e,h,x⟩ K=PA C gl wP K [(0,bA e 0),(1,bA e 1),(2,bA e 2),(3,bA e 3),(8,bA e 8),(9,bA e 9)] h x:=wB
def ZZ:ACode:=.pr [0,1,2,3,8] (rg [mV 15 8,
bN 16 .add 15 (cI 1),
mV 8 16] [0,1,2,3,8])
def z5o (C:Hd)(gl:GL)(v0 v1 v2 v3 v8:AV)(h:aA)(x:Esc)(K:KT):Prop:=
 pK (gA .add v8 (AI 1)) fun t1=>
 K .normal ⟨[(0,v0),(1,v1),(2,v2),(3,v3),(8,t1)],h,x⟩
theorem ziR {C gl e h x K}:NW C gl ZZ ⟨e,h,x⟩ K=z5o C gl (bA e 0) (bA e 1) (bA e 2) (bA e 3) (bA e 8) h x K:=by kernel_rfl
def z2k (q1 q2:ACode):ACode:=.pr [0,1,2,3,8] (.seq (.seq (rg [mV 12 8,
mV 13 2,
bN 14 .lss 12 13] [0,1,2,3,8,14])
(.cond 14 .skip
(.exit 0)))
(.seq (.block 1 (.seq (rg [mV 17 8,
mV 9 17] [0,1,2,3,8,9])
(.block 2 (.loop q1))))
q2))
def eN:ACode:=z2k wP ZZ
def oY (C:Hd)(gl:GL)(q1 q2:ACode)(v0 v1 v2 v3 v8:AV)(h:aA)(x:Esc)(K:KT):Prop:=
 pK (gA .lss v8 v2) fun t1=>
 mA t1 (NW C gl (.loop q1) ⟨[(0,v0),(1,v1),(2,v2),(3,v3),(8,v8),(9,v8)],h,x⟩ (yA 2 (yA 1 (NA C gl q2 K))))
 (K (.exit 0) ⟨[(0,v0),(1,v1),(2,v2),(3,v3),(8,v8),(14,t1)],h,x⟩)
theorem zbn {C gl q1 q2 e h x K}:NW C gl (z2k q1 q2) ⟨e,h,x⟩ K=oY C gl q1 q2 (bA e 0) (bA e 1) (bA e 2) (bA e 3) (bA e 8) h x K:=by kernel_rfl
theorem ziS {C gl e h x K}:NW C gl eN ⟨e,h,x⟩ K=oY C gl wP ZZ (bA e 0) (bA e 1) (bA e 2) (bA e 3) (bA e 8) h x K:=zbn
theorem zmq {C gl e h x K}:NW C gl (.loop eN) ⟨e,h,x⟩ K=PA C gl eN K [(0,bA e 0),(1,bA e 1),(2,bA e 2),(3,bA e 3),(8,bA e 8)] h x:=wB
def z2j (q3:ACode):ACode:=(.seq (rg [mV 10 1,
bN 11 .add 10 (cI 1),
mV 8 11] [0,1,2,3,8])
(.block 0 (.loop q3)))
def JW:AFun:=⟨4,[],z2j eN,true,false⟩
def rO (C:Hd)(gl:GL)(q3:ACode)(v0 v1 v2 v3:AV)(h:aA)(x:Esc)(K:KT):Prop:=
 pK (gA .add v1 (AI 1)) fun t1=>
 NW C gl (.loop q3) ⟨[(0,v0),(1,v1),(2,v2),(3,v3),(8,t1)],h,x⟩ (yA 0 K)
theorem zbm {C gl q3 v0 v1 v2 v3 h x K}:NW C gl (z2j q3) ⟨enter [v0,v1,v2,v3],h,x⟩ K=rO C gl q3 v0 v1 v2 v3 h x K:=by kernel_rfl
theorem ziP {C gl v0 v1 v2 v3 h x K}:NW C gl JW.body ⟨enter [v0,v1,v2,v3],h,x⟩ K=rO C gl eN v0 v1 v2 v3 h x K:=zbm
def zck:ACode:=(.seq (rg [mV 6 cF] [0,1,2])
(.seq (rg [mV 7 0,
mV 8 1,
bN 9 .lss 7 8,
mV 10 9,
gD 11 10 false (.mv 0),
gD 12 10 false (.mv 2),
gD 13 10 false (.bin .gtr 11 12),
uO 14 (.pick 10 cT 13),
mV 6 14] [6])
.ret))
def pQ:AFun:=⟨3,[.t 6],zck,false,false⟩
def wX (C:Hd)(gl:GL)(v0 v1 v2:AV)(h:aA)(x:Esc)(K:KT):Prop:=
 pK (gA .lss v0 v1) fun t1=>
 gM t1 false v0 h fun t2 h3 y4=>
 gM t1 false v2 h3 fun t5 h6 y7=>
 gP t1 false (gA .gtr t2 t5) h6 fun t8 h9 y10=>
 pK (DA t1 (AB true) t8) fun t11=>
 K .ret ⟨[(6,t11)],h9,(y10++(y7++(y4++x)))⟩
theorem zg6 {C gl v0 v1 v2 h x K}:NW C gl pQ.body ⟨enter [v0,v1,v2],h,x⟩ K=wX C gl v0 v1 v2 h x K:=by kernel_rfl
end Go.Am
end
