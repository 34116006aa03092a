import Derived.KernelRfl
import Derived.Test.YthlhdniejglcnaaGreatDoorlawPY5
set_option linter.all false
set_option maxRecDepth 100000
set_option maxHeartbeats 0
namespace Go.Am
section
variable (C:Hd)(gl:GL)(e:En)(h:aA)(x:Esc)(K:KT)
def z1G:ACode:=.pr [0,2,3,30] (.cond 30 (.seq (rg [mV 33 0,
mV 34 0,
uO 35 (.bsl false none 5 (.int .i64 0) [(0,(cI 1)),(1,(cI 2)),(2,(cI 3)),(3,(cI 5)),(4,(cI 8))]),
cL 36 AC [34,35],
cL 37 AF [33,36],
fA 38 3 none 3,
wO (.store none 38 37)] [0,2,3])
(.seq (rg [mV 39 0,
cL 40 lE [39,(cI 2)]] [0,2,3,40])
(.cond 40 (dr [dF (mV 41 0) [0],
dF (fA 42 3 none 3) [3],
dF (lD 43 none 42) [42],
dF (uO 44 (.lens 43)) [43],
dT (cL 45 AF [41,44]) [41,44],
dF (mV 46 0) [0],
dF (fA 47 3 none 3) [3],
dA (lD 48 none 47) [47] false [4] [],
dF (uO 49 (.lens 48)) [48],
dT (cL 50 AF [46,49]) [46,49],
dF (fA 51 4 none 3) [3],
dT (wO (.store none 51 45)) [51,45],
dF (fA 52 5 none 3) [3],
dT (wO (.store none 52 50)) [52,50]] [0,2,3])
.skip)))
(rg [mV 10 0,
mV 11 0,
uO 12 (.bsl false none 5 (.int .i64 0) [(0,(cI 0)),(1,(cI 0)),(2,(cI 1)),(3,(cI 2)),(4,(cI 3))]),
cL 13 AC [11,12],
cL 14 AF [10,13],
fA 15 3 none 3,
wO (.store none 15 14)] [0,2,3]))
def z5T (C:Hd)(gl:GL)(v0 v2 v3 v30:AV)(h:aA)(x:Esc)(K:KT):Prop:=
 iB v30 (wK (UC false none 5 (.int .i64 0) [(0,(AI 1)),(1,(AI 2)),(2,(AI 3)),(3,(AI 5)),(4,(AI 8))] h) λt1 h2 y3=>
 C AC [v0,t1] h2 λt4 h5 y6=>
 C AF [v0,t4] h5 λt7 h8 y9=>
 pK (FA 3 none v3) λt10=>
 wK (lB none t10 t7 h8) λt11 h12 y13=>
 C lE [v0,(AI 2)] h12 λt14 h15 y16=>
 iB t14 (pK (FA 3 none v3) λt17=>
 pK (AA none t17 h15) λt18=>
 pK (KD t18) λt19=>
 TB C AF [v0,t19] h15 λt20 h21 y22=>
 pK (FA 3 none v3) λt23=>
 pK (AA none t23 h21) λt24=>
 (pK (AA none t23 h15) λv=>(λu (g1:aA) (y1:Esc)=>u=t24/\g1=h15/\y1=[]) v h15 [])/\(pK (KD t24) λt25=>
 TB C AF [v0,t25] h21 λt26 h27 y28=>
 pK (FA 4 none v3) λt29=>
 wK (lB none t29 t20 h27) λt30 h31 y32=>
 pK (FA 5 none v3) λt33=>
 wK (lB none t33 t26 h31) λt34 h35 y36=>
 K .normal ⟨[(0,v0),(2,v2),(3,v3)],h35,(y36++(y32++(y28++(y22++(y16++(y13++(y9++(y6++(y3++x)))))))))⟩))
 (K .normal ⟨[(0,v0),(2,v2),(3,v3),(40,t14)],h15,(y16++(y13++(y9++(y6++(y3++x)))))⟩))
 (wK (UC false none 5 (.int .i64 0) [(0,(AI 0)),(1,(AI 0)),(2,(AI 1)),(3,(AI 2)),(4,(AI 3))] h) λt37 h38 y39=>
 C AC [v0,t37] h38 λt40 h41 y42=>
 C AF [v0,t40] h41 λt43 h44 y45=>
 pK (FA 3 none v3) λt46=>
 wK (lB none t46 t43 h44) λt47 h48 y49=>
 K .normal ⟨[(0,v0),(2,v2),(3,v3)],h48,(y49++(y45++(y42++(y39++x))))⟩)
theorem zgG {C gl e h x K}:NW C gl z1G ⟨e,h,x⟩ K=z5T C gl (eA e 0) (eA e 2) (eA e 3) (eA e 30) h x K:=by kernel_rfl
def z45 (q1:ACode):ACode:=.pr [0,2,3,9,16] (.cond 16 (rg [mV 20 0,
uO 21 (.bsl false none 5 (.int .i64 0) [(0,(cI 0)),(1,(cI 1)),(2,(cI 1)),(3,(cI 6)),(4,(cI 13))]),
cL 22 AC [20,21],
fA 23 1 none 3,
wO (.store none 23 22)] [0,2,3])
(.seq (rg [bN 25 .eql 9 (cI 9),
mV 24 25] [0,2,3,9,24])
(.cond 24 (rg [mV 26 0,
uO 27 (.bsl false none 4 (.int .i64 0) [(0,(cI 0)),(1,(cI 0)),(2,(cI 1)),(3,(cI 3))]),
cL 28 AC [26,27],
fA 29 2 none 3,
wO (.store none 29 28)] [0,2,3])
(.seq (.seq (rg [bN 31 .eql 9 (cI 7),
mV 30 31] [0,2,3,9,30])
(.cond 30 .skip
(rg [bN 32 .eql 9 (cI 8),
mV 30 32] [0,2,3,30])))
q1))))
def gU:ACode:=z45 z1G
def qZ (C:Hd)(gl:GL)(q1:ACode)(v0 v2 v3 v9 v16:AV)(h:aA)(x:Esc)(K:KT):Prop:=
 iB v16 (wK (UC false none 5 (.int .i64 0) [(0,(AI 0)),(1,(AI 1)),(2,(AI 1)),(3,(AI 6)),(4,(AI 13))] h) λt1 h2 y3=>
 C AC [v0,t1] h2 λt4 h5 y6=>
 pK (FA 1 none v3) λt7=>
 wK (lB none t7 t4 h5) λt8 h9 y10=>
 K .normal ⟨[(0,v0),(2,v2),(3,v3)],h9,(y10++(y6++(y3++x)))⟩)
 (pK (zA .eql v9 (AI 9)) λt11=>
 iB t11 (wK (UC false none 4 (.int .i64 0) [(0,(AI 0)),(1,(AI 0)),(2,(AI 1)),(3,(AI 3))] h) λt12 h13 y14=>
 C AC [v0,t12] h13 λt15 h16 y17=>
 pK (FA 2 none v3) λt18=>
 wK (lB none t18 t15 h16) λt19 h20 y21=>
 K .normal ⟨[(0,v0),(2,v2),(3,v3)],h20,(y21++(y17++(y14++x)))⟩)
 (pK (zA .eql v9 (AI 7)) λt22=>
 iB t22 (NW C gl q1 ⟨[(0,v0),(2,v2),(3,v3),(9,v9),(30,t22)],h,x⟩ K)
 (pK (zA .eql v9 (AI 8)) λt23=>
 NW C gl q1 ⟨[(0,v0),(2,v2),(3,v3),(30,t23)],h,x⟩ K)))
theorem zbK {C gl q1 e h x K}:NW C gl (z45 q1) ⟨e,h,x⟩ K=qZ C gl q1 (eA e 0) (eA e 2) (eA e 3) (eA e 9) (eA e 16) h x K:=by kernel_rfl
theorem zgH {C gl e h x K}:NW C gl gU ⟨e,h,x⟩ K=qZ C gl z1G (eA e 0) (eA e 2) (eA e 3) (eA e 9) (eA e 16) h x K:=zbK
def cQ:ACode:=.pr [2,3] (.seq (rg [lD 99 (some 6) 3,
wO (.store (some 6) 2 99)] [2])
.ret)
def z5U (C:Hd)(gl:GL)(v2 v3:AV)(h:aA)(x:Esc)(K:KT):Prop:=
 pK (AA (some 6) v3 h) λt1=>
 wK (lB (some 6) v2 t1 h) λt2 h3 y4=>
 K .ret ⟨[(2,v2)],h3,(y4++x)⟩
theorem zgI {C gl e h x K}:NW C gl cQ ⟨e,h,x⟩ K=z5U C gl (eA e 2) (eA e 3) h x K:=by kernel_rfl
def z47 (q3:ACode):ACode:=.pr [0,2,3] (.seq (.seq (rg [mV 53 0,
cL 54 lE [53,(cI 60)]] [0,2,3,54])
(.cond 54 (.seq (rg [mV 55 0,
cL 56 aF [55,(cI 4)]] [0,2,3,56])
(.block 1 (.seq (rg [bN 71 .eql 56 (cI 0),
mV 70 71] [0,2,3,56,70])
(.cond 70 (rg [mV 72 0,
cL 73 oI [72,(cI 1),(cI 10)],
fA 74 0 none 3,
wO (.store none 74 73)] [2,3])
(.seq (rg [bN 76 .eql 56 (cI 1),
mV 75 76] [0,2,3,56,75])
(.cond 75 (rg [mV 77 0,
cL 78 oI [77,(cI 0),(cI 15)],
mV 79 0,
uO 80 (.bsl false none 5 (.int .i64 0) [(0,(cI 0)),(1,(cI 1)),(2,(cI (-1))),(3,(cI 20000)),(4,(cI 20001))]),
cL 81 AC [79,80],
fA 82 1 none 3,
wO (.store none 82 78),
fA 83 2 none 3,
wO (.store none 83 81)] [2,3])
(.seq (rg [bN 85 .eql 56 (cI 2),
mV 84 85] [0,2,3,84])
(.cond 84 (dr [dF (fA 86 3 none 3) [3],
dF (lD 87 none 86) [86],
dF (mV 88 0) [0],
dF (fA 89 3 none 3) [3],
dF (lD 90 none 89) [89],
dF (uO 91 (.lens 90)) [90],
dF (bN 92 .sub (cI 2000) 91) [91],
dA (cL 93 DA [(cS [48]),92]) [92] true [] [1],
dA (cL 94 DA [(cS [48]),(cI 2001)]) [] true [] [1],
dF (uO 95 (.bsl false none 4 (.str []) [(0,(cS [120])),(1,(cS [])),(2,93),(3,94)])) [93,94],
dA (cL 96 HE [88,95]) [88,95] true [] [1],
dF (bN 97 .add 87 96) [87,96],
dF (fA 98 3 none 3) [3],
dT (wO (.store none 98 97)) [98,97]] [2,3])
(dr [dF (mV 57 0) [0],
dF (fA 58 4 none 3) [3],
dF (lD 59 none 58) [58],
dF (bN 60 .add 59 (cS [49])) [59],
dF (uO 61 (.bsl false none 3 (.str []) [(0,(cS [])),(1,(cS [48])),(2,60)])) [60],
dT (cL 62 HE [57,61]) [57,61],
dF (mV 63 0) [0],
dF (fA 64 5 none 3) [3],
dA (lD 65 none 64) [64] false [5] [],
dA (uO 66 (.bsl false none 4 (.str []) [(0,(cS [])),(1,(cS [49])),(2,(cS [120])),(3,65)])) [65] false [5] [],
dT (cL 67 HE [63,66]) [63,66],
dF (fA 68 4 none 3) [3],
dT (wO (.store none 68 62)) [68,62],
dF (fA 69 5 none 3) [3],
dT (wO (.store none 69 67)) [69,67]] [2,3])))))))))
.skip))
q3)
def iU:ACode:=z47 cQ
def VF (C:Hd)(gl:GL)(q3:ACode)(v0 v2 v3:AV)(h:aA)(x:Esc)(K:KT):Prop:=
 C lE [v0,(AI 60)] h λt1 h2 y3=>
 iB t1 (C aF [v0,(AI 4)] h2 λt4 h5 y6=>
 pK (zA .eql t4 (AI 0)) λt7=>
 iB t7 (C oI [v0,(AI 1),(AI 10)] h5 λt8 h9 y10=>
 pK (FA 0 none v3) λt11=>
 wK (lB none t11 t8 h9) λt12 h13 y14=>
 NW C gl q3 ⟨[(2,v2),(3,v3)],h13,(y14++(y10++(y6++(y3++x))))⟩ K)
 (pK (zA .eql t4 (AI 1)) λt15=>
 iB t15 (C oI [v0,(AI 0),(AI 15)] h5 λt16 h17 y18=>
 wK (UC false none 5 (.int .i64 0) [(0,(AI 0)),(1,(AI 1)),(2,(AI (-1))),(3,(AI 20000)),(4,(AI 20001))] h17) λt19 h20 y21=>
 C AC [v0,t19] h20 λt22 h23 y24=>
 pK (FA 1 none v3) λt25=>
 wK (lB none t25 t16 h23) λt26 h27 y28=>
 pK (FA 2 none v3) λt29=>
 wK (lB none t29 t22 h27) λt30 h31 y32=>
 NW C gl q3 ⟨[(2,v2),(3,v3)],h31,(y32++(y28++(y24++(y21++(y18++(y6++(y3++x)))))))⟩ K)
 (pK (zA .eql t4 (AI 2)) λt33=>
 iB t33 (pK (FA 3 none v3) λt34=>
 pK (AA none t34 h5) λt35=>
 pK (FA 3 none v3) λt36=>
 pK (AA none t36 h5) λt37=>
 pK (KD t37) λt38=>
 pK (zA .sub (AI 2000) t38) λt39=>
 TB C DA [(.p (.str [48])),t39] h5 λt40 h41 y42=>
 (pK (AA none t34 h41) λv=>(λu (g1:aA) (y1:Esc)=>u=t35/\g1=h41/\y1=[]) v h41 [])/\(TB C DA [(.p (.str [48])),(AI 2001)] h41 λt43 h44 y45=>
 (pK (AA none t34 h44) λv=>(λu (g1:aA) (y1:Esc)=>u=t35/\g1=h44/\y1=[]) v h44 [])/\(wK (UC false none 4 (.str []) [(0,(.p (.str [120]))),(1,(.p (.str []))),(2,t40),(3,t43)] h44) λt46 h47 y48=>
 (h47=h44/\y48=[])/\(TB C HE [v0,t46] h47 λt49 h50 y51=>
 (pK (AA none t34 h50) λv=>(λu (g1:aA) (y1:Esc)=>u=t35/\g1=h50/\y1=[]) v h50 [])/\(pK (zA .add t35 t49) λt52=>
 pK (FA 3 none v3) λt53=>
 wK (lB none t53 t52 h50) λt54 h55 y56=>
 NW C gl q3 ⟨[(2,v2),(3,v3)],h55,(y56++(y51++(y48++(y45++(y42++(y6++(y3++x)))))))⟩ K)))))
 (pK (FA 4 none v3) λt57=>
 pK (AA none t57 h5) λt58=>
 pK (zA .add t58 (.p (.str [49]))) λt59=>
 wK (UC false none 3 (.str []) [(0,(.p (.str []))),(1,(.p (.str [48]))),(2,t59)] h5) λt60 h61 y62=>
 (h61=h5/\y62=[])/\(TB C HE [v0,t60] h61 λt63 h64 y65=>
 pK (FA 5 none v3) λt66=>
 pK (AA none t66 h64) λt67=>
 (pK (AA none t66 h61) λv=>(λu (g1:aA) (y1:Esc)=>u=t67/\g1=h61/\y1=[]) v h61 [])/\(wK (UC false none 4 (.str []) [(0,(.p (.str []))),(1,(.p (.str [49]))),(2,(.p (.str [120]))),(3,t67)] h64) λt68 h69 y70=>
 (h69=h64/\y70=[])/\((wK (UC false none 4 (.str []) [(0,(.p (.str []))),(1,(.p (.str [49]))),(2,(.p (.str [120]))),(3,t67)] h61) (λu (g1:aA) (y1:Esc)=>u=t68/\g1=h61/\y1=[]))/\(TB C HE [v0,t68] h69 λt71 h72 y73=>
 pK (FA 4 none v3) λt74=>
 wK (lB none t74 t63 h72) λt75 h76 y77=>
 pK (FA 5 none v3) λt78=>
 wK (lB none t78 t71 h76) λt79 h80 y81=>
 NW C gl q3 ⟨[(2,v2),(3,v3)],h80,(y81++(y77++(y73++(y70++(y65++(y62++(y6++(y3++x))))))))⟩ K))))))))
 (NW C gl q3 ⟨[(0,v0),(2,v2),(3,v3),(54,t1)],h2,(y3++x)⟩ K)
theorem zbL {C gl q3 e h x K}:NW C gl (z47 q3) ⟨e,h,x⟩ K=VF C gl q3 (eA e 0) (eA e 2) (eA e 3) h x K:=by kernel_rfl
theorem zgJ {C gl e h x K}:NW C gl iU ⟨e,h,x⟩ K=VF C gl cQ (eA e 0) (eA e 2) (eA e 3) h x K:=zbL
def z44 (q2 q4:ACode):ACode:=(.seq (rg [uO 2 (.alloc [.p (.int .i64 0),.p (.int .i64 0),.p (.int .i64 0),.p (.str []),.p (.str []),.p (.str [])])] [0,2])
(.seq (rg [mV 4 0,
uO 5 (.bsl false none 13 (.int .i64 0) [(0,(cI 7)),(1,(cI 7)),(2,(cI 8)),(3,(cI 8)),(4,(cI 8)),(5,(cI 1)),(6,(cI 2)),(7,(cI 3)),(8,(cI 4)),(9,(cI 5)),(10,(cI 6)),(11,(cI 9)),(12,(cI 10))]),
cL 6 AC [4,5],
uO 7 (.build [.p (.int .i64 0),.p (.int .i64 0),.p (.int .i64 0),.p (.str []),.p (.str []),.p (.str [])] [(0,1,6)]),
uO 3 (.alloc [.p (.int .i64 0),.p (.int .i64 0),.p (.int .i64 0),.p (.str []),.p (.str []),.p (.str [])]),
wO (.store (some 6) 3 7)] [0,2,3])
(.seq (.seq (rg [fA 8 0 none 3,
lD 9 none 8] [0,2,3,9])
(.block 0 (.seq (.seq (rg [bN 17 .eql 9 (cI 1),
mV 16 17] [0,2,3,9,16])
(.cond 16 .skip
(.seq (rg [bN 18 .eql 9 (cI 2),
mV 16 18] [0,2,3,9,16])
(.cond 16 .skip
(rg [bN 19 .eql 9 (cI 10),
mV 16 19] [0,2,3,9,16])))))
q2)))
q4)))
def nX:AFun:=⟨1,[.cell 2 (some 6)],z44 gU iU,false,false⟩
def xF (C:Hd)(gl:GL)(q2 q4:ACode)(v0:AV)(h:aA)(x:Esc)(K:KT):Prop:=
 alK [.p (.int .i64 0),.p (.int .i64 0),.p (.int .i64 0),.p (.str []),.p (.str []),.p (.str [])] h λt1 h2 y3=>
 wK (UC false none 13 (.int .i64 0) [(0,(AI 7)),(1,(AI 7)),(2,(AI 8)),(3,(AI 8)),(4,(AI 8)),(5,(AI 1)),(6,(AI 2)),(7,(AI 3)),(8,(AI 4)),(9,(AI 5)),(10,(AI 6)),(11,(AI 9)),(12,(AI 10))] h2) λt4 h5 y6=>
 C AC [v0,t4] h5 λt7 h8 y9=>
 pK (lC [.p (.int .i64 0),.p (.int .i64 0),.p (.int .i64 0),.p (.str []),.p (.str []),.p (.str [])] [(0,1,t7)]) λt10=>
 alK [.p (.int .i64 0),.p (.int .i64 0),.p (.int .i64 0),.p (.str []),.p (.str []),.p (.str [])] h8 λt11 h12 y13=>
 wK (lB (some 6) t11 t10 h12) λt14 h15 y16=>
 pK (FA 0 none t11) λt17=>
 pK (AA none t17 h15) λt18=>
 pK (zA .eql t18 (AI 1)) λt19=>
 iB t19 (NW C gl q2 ⟨[(0,v0),(2,t1),(3,t11),(9,t18),(16,t19)],h15,(y16++(y13++(y9++(y6++(y3++x)))))⟩ (qC 0 (xD C gl q4 K)))
 (pK (zA .eql t18 (AI 2)) λt20=>
 iB t20 (NW C gl q2 ⟨[(0,v0),(2,t1),(3,t11),(9,t18),(16,t20)],h15,(y16++(y13++(y9++(y6++(y3++x)))))⟩ (qC 0 (xD C gl q4 K)))
 (pK (zA .eql t18 (AI 10)) λt21=>
 NW C gl q2 ⟨[(0,v0),(2,t1),(3,t11),(9,t18),(16,t21)],h15,(y16++(y13++(y9++(y6++(y3++x)))))⟩ (qC 0 (xD C gl q4 K))))
theorem zbJ {C gl q2 q4 v0 h x K}:NW C gl (z44 q2 q4) ⟨enter [v0],h,x⟩ K=xF C gl q2 q4 v0 h x K:=by kernel_rfl
theorem zgF {C gl v0 h x K}:NW C gl nX.body ⟨enter [v0],h,x⟩ K=xF C gl gU iU v0 h x K:=zbJ
def z2Y:ACode:=(.seq (rg [mV 4 (cI 0)] [0,1])
(.seq (rg [mV 5 0,
cL 6 qI [5],
mV 7 1,
cL 8 CF [7],
uO 9 (.bsl false none 2 (.int .i64 0) [(0,6),(1,8)]),
cL 10 kI [9],
mV 4 10] [4])
.ret))
def FY:AFun:=⟨2,[.t 4],z2Y,false,false⟩
def gT:Sf C gl z2Y e h x K:=⟨_,by simp only[z2Y,↓wZ,AO.still];rfl⟩
def sV:ACode:=.pr [5,6,8,11,29,30,31] (rg [mV 59 8,
mV 60 11,
uO 61 (.bsl false none 1 (.str []) [(0,60)]),
uO 62 (.app none 59 61),
mV 8 62] [5,6,8,29,30,31])
def pO:Sf C gl sV e h x K:=⟨_,by simp only[sV,↓wZ,AO.still];rfl⟩
def z0N:=(pO C gl e h x K).2
def tV:ACode:=.pr [5,6,8,29,30,31] (rg [bN 63 .add 31 (cI 1),
mV 31 63] [5,6,8,29,30,31])
def qO:Sf C gl tV e h x K:=⟨_,by simp only[tV,↓wZ,AO.still];rfl⟩
def z0O:=(qO C gl e h x K).2
def IM:ACode:=.pr [5,6,8,29,30,31] (.seq (rg [bN 32 .lss 31 30] [5,6,8,29,30,31,32])
(.seq (.cond 32 .skip
(.exit 0))
(.seq (.block 1 (.seq (rg [mV 33 31,
iA 34 (some 6) 29 31,
lD 35 (some 6) 34,
uO 10 (.alloc [.p (.int .i64 0),.p (.int .i64 0),.p (.int .i64 0),.p (.str []),.p (.str []),.p (.str [])]),
mV 9 33,
wO (.store (some 6) 10 35)] [5,6,8,9,10,29,30,31])
(.seq (rg [mV 11 (cS [])] [5,6,8,9,10,11,29,30,31])
(.seq (.seq (rg [fA 36 0 none 10,
lD 37 none 36,
cL 38 bG [37]] [5,6,8,9,10,11,29,30,31,38])
(.cond 38 (dr [dF (mV 39 6) [6],
dF (mV 40 5) [5],
dF (uO 41 (.nilchk 40)) [40],
dF (fA 42 41 none 41) [41],
dF (lD 43 none 42) [42],
dF (mV 44 9) [9],
dF (iA 45 none 43 44) [43,44],
dF (lD 46 none 45) [45],
dF (mV 47 5) [5],
dF (uO 48 (.nilchk 47)) [47],
dF (fA 49 41 none 48) [48],
dF (lD 50 none 49) [49],
dF (mV 51 9) [9],
dF (iA 52 none 50 51) [50,51],
dF (lD 53 none 52) [52],
dF (fA 54 3 none 10) [10],
dF (lD 55 none 54) [54],
dF (uO 56 (.lens 55)) [55],
dF (bN 57 .add 53 56) [53,56],
dF (uO 58 (.slstr 39 (some 46) (some 57))) [39,46,57],
dF (mV 11 58) [58]] [5,6,8,11,29,30,31])
.skip))
sV))))
tV)))
def WK:Sf C gl IM e h x K:=⟨_,by simp only[IM,↓wZ,AO.still];rfl⟩
def yT:=(WK C gl e h x K).2
theorem zlx {C gl e h x K}:NW C gl (.loop (.scope IM)) ⟨e,h,x⟩ K=UA C gl (.scope IM) K [(5,eA e 5),(6,eA e 6),(8,eA e 8),(29,eA e 29),(30,eA e 30),(31,eA e 31)] h x:=jC
def uV:ACode:=.pr [8] (.seq (rg [mV 64 8,
mV 4 64] [4])
.ret)
def fT:Sf C gl uV e h x K:=⟨_,by simp only[uV,↓wZ,AO.still];rfl⟩
def z6z:=(fT C gl e h x K).2
def z2X:ACode:=(.seq (rg [mV 4 (.c (.p (.sl none [])))] [0,1])
(.seq (rg [mV 12 1,
cL 13 DP [12],
mV 5 13] [0,1,5])
(.seq (dr [dF (mV 15 0) [0],
dF (mV 16 5) [5],
dF (uO 17 (.nilchk 16)) [16],
dF (fA 18 42 none 17) [17],
dF (lD 19 none 18) [18],
dF (uO 20 (.conv .b2s 19)) [19],
dF (mV 21 5) [5],
dF (uO 22 (.nilchk 21)) [21],
dF (fA 23 43 none 22) [22],
dF (lD 24 none 23) [23],
dF (uO 25 (.conv .b2s 24)) [24],
dT (cL 26 oP [15,20,25]) [15,20,25],
dF (mV 14 26) [26],
dF (eX 27 14 0) [14],
dF (eX 28 14 1) [14],
dF (mV 6 27) [27],
dF (mV 7 28) [28]] [1,5,6])
(.seq (rg [uO 8 (.new0 none)] [1,5,6,8])
(.seq (.seq (rg [mV 29 1,
lN 30 29,
mV 31 (cI 0)] [5,6,8,29,30,31])
(.block 0 (.loop (.scope IM))))
uV)))))
def EY:AFun:=⟨2,[.t 4],z2X,false,false⟩
def bT:Sf C gl z2X e h x K:=⟨_,by simp only[z2X,↓wZ,AO.still];rfl⟩
def z2g:ACode:=(.det (.seq (rg [mV 2 (.c (.p (.sl (some 6) [])))] [0])
(.seq (.seq (rg [mV 3 0,
uO 4 (.isnil 4 false 3)] [0,4])
(.condu 4 (.seq (rg [uO 2 (.new0 (some 6))] [2])
.ret)
.skip))
(.seq (rg [uO 5 (.bsl true (some 6) 0 (.agg [.int .i64 0,.int .i64 0,.int .i64 0,.str [],.str [],.str []]) []),
mV 6 0,
uO 7 (.app (some 6) 5 6),
mV 2 7] [2])
.ret))))
def OX:AFun:=⟨1,[.t 2],z2g,false,true⟩
def fS:Sf C gl z2g e h x K:=⟨_,by simp only[z2g,↓wZ,AO.still];rfl⟩
theorem zhF {C gl v0 h x K}:NW C gl OX.body ⟨enter [v0],h,x⟩ K=(fS C gl [(0,v0)] h x K).1:=(fS C gl [(0,v0)] h x K).2
def z2T:ACode:=(.seq (rg [mV 2 cF] [0])
(.seq (rg [mV 3 0,
bN 4 .eql 3 (cI 7),
mV 5 4,
gD 6 5 false (.mv 0),
gD 7 5 false (.bin .eql 6 (cI 8)),
uO 8 (.pick 5 cT 7),
mV 2 8] [2])
.ret))
def SQ:AFun:=⟨1,[.t 2],z2T,false,false⟩
def TK:Sf C gl z2T e h x K:=⟨_,by simp only[z2T,↓wZ,AO.still];rfl⟩
def z2j:ACode:=(.seq (rg [mV 4 cF] [0,1])
(.seq (rg [mV 5 0,
mV 6 1,
cL 7 AJ [5,6],
bN 8 .geq 7 (cI 0),
mV 4 8] [4])
.ret))
def RX:AFun:=⟨2,[.t 4],z2j,true,false⟩
def jS:Sf C gl z2j e h x K:=⟨_,by simp only[z2j,↓wZ,AO.still];rfl⟩
theorem zhI {C gl v0 v1 h x K}:NW C gl RX.body ⟨enter [v0,v1],h,x⟩ K=(jS C gl [(0,v0),(1,v1)] h x K).1:=(jS C gl [(0,v0),(1,v1)] h x K).2
def z1X:ACode:=.pr [1,3,48] (.cond 48 (.seq (dr [dF (fA 51 3 none 1) [1],
dF (lD 52 none 51) [51],
dF (fA 53 4 none 1) [1],
dF (lD 54 none 53) [53],
dF (fA 55 5 none 1) [1],
dF (lD 56 none 55) [55],
dF (fA 57 3 none 3) [3],
dA (wO (.store none 57 52)) [57,52] true [] [3,5],
dF (fA 58 4 none 3) [3],
dA (wO (.store none 58 54)) [58,54] true [] [5],
dF (fA 59 5 none 3) [3],
dT (wO (.store none 59 56)) [59,56]] [1,3])
(.seq (rg [lD 60 (some 6) 1,
cL 61 rL [60],
mV 4 61] [1,3,4])
(.seq (rg [mV 62 4,
bN 63 .neq 62 (cI 0)] [1,3,4,63])
(.cond 63 (.seq (rg [mV 64 4,
mV 2 64] [2])
.ret)
.skip))))
(.seq (rg [mV 2 (cI 4)] [2])
.ret))
def sJ (C:Hd)(gl:GL)(v1 v3 v48:AV)(h:aA)(x:Esc)(K:KT):Prop:=
 iB v48 (pK (FA 3 none v1) λt1=>
 pK (AA none t1 h) λt2=>
 pK (FA 4 none v1) λt3=>
 pK (AA none t3 h) λt4=>
 pK (FA 5 none v1) λt5=>
 pK (AA none t5 h) λt6=>
 pK (FA 3 none v3) λt7=>
 wK (lB none t7 t2 h) λt8 h9 y10=>
 (pK (AA none t3 h9) λv=>(λu (g1:aA) (y1:Esc)=>u=t4/\g1=h9/\y1=[]) v h9 [])/\((pK (AA none t5 h9) λv=>(λu (g1:aA) (y1:Esc)=>u=t6/\g1=h9/\y1=[]) v h9 [])/\(pK (FA 4 none v3) λt11=>
 wK (lB none t11 t4 h9) λt12 h13 y14=>
 (pK (AA none t5 h13) λv=>(λu (g1:aA) (y1:Esc)=>u=t6/\g1=h13/\y1=[]) v h13 [])/\(pK (FA 5 none v3) λt15=>
 wK (lB none t15 t6 h13) λt16 h17 y18=>
 pK (AA (some 6) v1 h17) λt19=>
 C rL [t19] h17 λt20 h21 y22=>
 pK (zA .neq t20 (AI 0)) λt23=>
 iB t23 (K .ret ⟨[(2,t20)],h21,(y22++(y18++(y14++(y10++x))))⟩)
 (K .normal ⟨[(1,v1),(3,v3),(4,t20),(63,t23)],h21,(y22++(y18++(y14++(y10++x))))⟩)))))
 (K .ret ⟨[(2,(AI 4))],h,x⟩)
theorem zhu {C gl e h x K}:NW C gl z1X ⟨e,h,x⟩ K=sJ C gl (eA e 1) (eA e 3) (eA e 48) h x K:=by kernel_rfl
def z49 (q1:ACode):ACode:=.pr [1,3,9,30] (.cond 30 (.seq (rg [fA 35 3 none 1,
lD 36 none 35,
fA 37 3 none 3,
wO (.store none 37 36)] [1,3])
(.block 1 (.seq (rg [fA 39 3 none 1,
lD 40 none 39,
cL 41 gH [40],
uO 42 (.un .not 41),
mV 38 42] [1,3,38])
(.cond 38 (.seq (rg [mV 2 (cI 9)] [2])
.ret)
(.seq (rg [fA 44 3 none 1,
lD 45 none 44,
uO 46 (.lens 45),
bN 47 .gtr 46 (cI 2000),
mV 43 47] [1,3,43])
(.cond 43 (.seq (rg [mV 2 (cI 2)] [2])
.ret)
.skip))))))
(.seq (.seq (rg [bN 49 .eql 9 (cI 7),
mV 48 49] [1,3,9,48])
(.cond 48 .skip
(rg [bN 50 .eql 9 (cI 8),
mV 48 50] [1,3,48])))
q1))
def z1Y:ACode:=z49 z1X
def XF (C:Hd)(gl:GL)(q1:ACode)(v1 v3 v9 v30:AV)(h:aA)(x:Esc)(K:KT):Prop:=
 iB v30 (pK (FA 3 none v1) λt1=>
 pK (AA none t1 h) λt2=>
 pK (FA 3 none v3) λt3=>
 wK (lB none t3 t2 h) λt4 h5 y6=>
 pK (FA 3 none v1) λt7=>
 pK (AA none t7 h5) λt8=>
 C gH [t8] h5 λt9 h10 y11=>
 pK (oUn .not t9) λt12=>
 iB t12 (K .ret ⟨[(2,(AI 9))],h10,(y11++(y6++x))⟩)
 (pK (FA 3 none v1) λt13=>
 pK (AA none t13 h10) λt14=>
 pK (KD t14) λt15=>
 pK (zA .gtr t15 (AI 2000)) λt16=>
 iB t16 (K .ret ⟨[(2,(AI 2))],h10,(y11++(y6++x))⟩)
 (K .normal ⟨[(1,v1),(3,v3),(43,t16)],h10,(y11++(y6++x))⟩)))
 (pK (zA .eql v9 (AI 7)) λt17=>
 iB t17 (NW C gl q1 ⟨[(1,v1),(3,v3),(9,v9),(48,t17)],h,x⟩ K)
 (pK (zA .eql v9 (AI 8)) λt18=>
 NW C gl q1 ⟨[(1,v1),(3,v3),(48,t18)],h,x⟩ K))
theorem zbN {C gl q1 e h x K}:NW C gl (z49 q1) ⟨e,h,x⟩ K=XF C gl q1 (eA e 1) (eA e 3) (eA e 9) (eA e 30) h x K:=by kernel_rfl
theorem zhv {C gl e h x K}:NW C gl z1Y ⟨e,h,x⟩ K=XF C gl z1X (eA e 1) (eA e 3) (eA e 9) (eA e 30) h x K:=zbN
def z4A (q2:ACode):ACode:=.pr [1,3,9,10] (.cond 10 (.seq (rg [fA 14 1 none 1,
lD 15 none 14,
fA 16 1 none 3,
wO (.store none 16 15)] [1,3])
(.seq (rg [fA 17 1 none 1,
lD 18 none 17,
cL 19 sL [18],
uO 20 (.un .not 19)] [1,3,20])
(.cond 20 (.seq (rg [mV 2 (cI 1)] [2])
.ret)
.skip)))
(.seq (rg [bN 22 .eql 9 (cI 9),
mV 21 22] [1,3,9,21])
(.cond 21 (.seq (rg [fA 23 2 none 1,
lD 24 none 23,
fA 25 2 none 3,
wO (.store none 25 24)] [1,3])
(.seq (rg [fA 26 2 none 1,
lD 27 none 26,
cL 28 qL [27,(cI 0),(cI 20000)],
uO 29 (.un .not 28)] [1,3,29])
(.cond 29 (.seq (rg [mV 2 (cI 1)] [2])
.ret)
.skip)))
(.seq (.seq (rg [bN 31 .eql 9 (cI 3),
mV 30 31] [1,3,9,30])
(.cond 30 .skip
(.seq (rg [bN 32 .eql 9 (cI 4),
mV 30 32] [1,3,9,30])
(.cond 30 .skip
(.seq (rg [bN 33 .eql 9 (cI 5),
mV 30 33] [1,3,9,30])
(.cond 30 .skip
(rg [bN 34 .eql 9 (cI 6),
mV 30 34] [1,3,9,30])))))))
q2))))
def vU:ACode:=z4A z1Y
def FD (C:Hd)(gl:GL)(q2:ACode)(v1 v3 v9 v10:AV)(h:aA)(x:Esc)(K:KT):Prop:=
 iB v10 (pK (FA 1 none v1) λt1=>
 pK (AA none t1 h) λt2=>
 pK (FA 1 none v3) λt3=>
 wK (lB none t3 t2 h) λt4 h5 y6=>
 pK (FA 1 none v1) λt7=>
 pK (AA none t7 h5) λt8=>
 C sL [t8] h5 λt9 h10 y11=>
 pK (oUn .not t9) λt12=>
 iB t12 (K .ret ⟨[(2,(AI 1))],h10,(y11++(y6++x))⟩)
 (K .normal ⟨[(1,v1),(3,v3),(20,t12)],h10,(y11++(y6++x))⟩))
 (pK (zA .eql v9 (AI 9)) λt13=>
 iB t13 (pK (FA 2 none v1) λt14=>
 pK (AA none t14 h) λt15=>
 pK (FA 2 none v3) λt16=>
 wK (lB none t16 t15 h) λt17 h18 y19=>
 pK (FA 2 none v1) λt20=>
 pK (AA none t20 h18) λt21=>
 C qL [t21,(AI 0),(AI 20000)] h18 λt22 h23 y24=>
 pK (oUn .not t22) λt25=>
 iB t25 (K .ret ⟨[(2,(AI 1))],h23,(y24++(y19++x))⟩)
 (K .normal ⟨[(1,v1),(3,v3),(29,t25)],h23,(y24++(y19++x))⟩))
 (pK (zA .eql v9 (AI 3)) λt26=>
 iB t26 (NW C gl q2 ⟨[(1,v1),(3,v3),(9,v9),(30,t26)],h,x⟩ K)
 (pK (zA .eql v9 (AI 4)) λt27=>
 iB t27 (NW C gl q2 ⟨[(1,v1),(3,v3),(9,v9),(30,t27)],h,x⟩ K)
 (pK (zA .eql v9 (AI 5)) λt28=>
 iB t28 (NW C gl q2 ⟨[(1,v1),(3,v3),(9,v9),(30,t28)],h,x⟩ K)
 (pK (zA .eql v9 (AI 6)) λt29=>
 NW C gl q2 ⟨[(1,v1),(3,v3),(9,v9),(30,t29)],h,x⟩ K)))))
theorem zbO {C gl q2 e h x K}:NW C gl (z4A q2) ⟨e,h,x⟩ K=FD C gl q2 (eA e 1) (eA e 3) (eA e 9) (eA e 10) h x K:=by kernel_rfl
theorem zhw {C gl e h x K}:NW C gl vU ⟨e,h,x⟩ K=FD C gl z1Y (eA e 1) (eA e 3) (eA e 9) (eA e 10) h x K:=zbO
def wU:ACode:=.pr [1,3] (.seq (.seq (rg [lD 65 (some 6) 1,
lD 66 (some 6) 3,
uO 67 (.eqa [0,0,0,2,2,2] true 65 66)] [67])
(.cond 67 (.seq (rg [mV 2 (cI 3)] [2])
.ret)
.skip))
(.seq (rg [mV 2 (cI 0)] [2])
.ret))
def KK (C:Hd)(gl:GL)(v1 v3:AV)(h:aA)(x:Esc)(K:KT):Prop:=
 pK (AA (some 6) v1 h) λt1=>
 pK (AA (some 6) v3 h) λt2=>
 pK (SA [0,0,0,2,2,2] true t1 t2) λt3=>
 iB t3 (K .ret ⟨[(2,(AI 3))],h,x⟩)
 (K .ret ⟨[(2,(AI 0))],h,x⟩)
theorem zhx {C gl e h x K}:NW C gl wU ⟨e,h,x⟩ K=KK C gl (eA e 1) (eA e 3) h x K:=by kernel_rfl
def z48 (q3 q4:ACode):ACode:=(.seq (rg [uO 1 (.box 0),
mV 2 (cI 0)] [1])
(.seq (rg [fA 5 0 none 1,
lD 6 none 5,
uO 7 (.build [.p (.int .i64 0),.p (.int .i64 0),.p (.int .i64 0),.p (.str []),.p (.str []),.p (.str [])] [(0,1,6)]),
uO 3 (.alloc [.p (.int .i64 0),.p (.int .i64 0),.p (.int .i64 0),.p (.str []),.p (.str []),.p (.str [])]),
wO (.store (some 6) 3 7)] [1,3])
(.seq (.seq (rg [fA 8 0 none 1,
lD 9 none 8] [1,3,9])
(.block 0 (.seq (.seq (rg [bN 11 .eql 9 (cI 1),
mV 10 11] [1,3,9,10])
(.cond 10 .skip
(.seq (rg [bN 12 .eql 9 (cI 2),
mV 10 12] [1,3,9,10])
(.cond 10 .skip
(rg [bN 13 .eql 9 (cI 10),
mV 10 13] [1,3,9,10])))))
q3)))
q4)))
def EX:AFun:=⟨1,[.t 2],z48 vU wU,false,false⟩
def UD (C:Hd)(gl:GL)(q3 q4:ACode)(v0:AV)(h:aA)(x:Esc)(K:KT):Prop:=
 wK (OL v0 h) λt1 h2 y3=>
 pK (FA 0 none t1) λt4=>
 pK (AA none t4 h2) λt5=>
 pK (lC [.p (.int .i64 0),.p (.int .i64 0),.p (.int .i64 0),.p (.str []),.p (.str []),.p (.str [])] [(0,1,t5)]) λt6=>
 alK [.p (.int .i64 0),.p (.int .i64 0),.p (.int .i64 0),.p (.str []),.p (.str []),.p (.str [])] h2 λt7 h8 y9=>
 wK (lB (some 6) t7 t6 h8) λt10 h11 y12=>
 pK (FA 0 none t1) λt13=>
 pK (AA none t13 h11) λt14=>
 pK (zA .eql t14 (AI 1)) λt15=>
 iB t15 (NW C gl q3 ⟨[(1,t1),(3,t7),(9,t14),(10,t15)],h11,(y12++(y9++(y3++x)))⟩ (qC 0 (xD C gl q4 K)))
 (pK (zA .eql t14 (AI 2)) λt16=>
 iB t16 (NW C gl q3 ⟨[(1,t1),(3,t7),(9,t14),(10,t16)],h11,(y12++(y9++(y3++x)))⟩ (qC 0 (xD C gl q4 K)))
 (pK (zA .eql t14 (AI 10)) λt17=>
 NW C gl q3 ⟨[(1,t1),(3,t7),(9,t14),(10,t17)],h11,(y12++(y9++(y3++x)))⟩ (qC 0 (xD C gl q4 K))))
theorem zbM {C gl q3 q4 v0 h x K}:NW C gl (z48 q3 q4) ⟨enter [v0],h,x⟩ K=UD C gl q3 q4 v0 h x K:=by kernel_rfl
theorem zht {C gl v0 h x K}:NW C gl EX.body ⟨enter [v0],h,x⟩ K=UD C gl vU wU v0 h x K:=zbM
def fM:ACode:=.pr [5,6,7,11,12,13] (.seq (rg [bN 14 .lss 13 12] [5,6,7,11,12,13,14])
(.seq (.cond 14 .skip
(.exit 0))
(.seq (.block 1 (.seq (rg [iA 15 (some 5) 11 13,
lD 16 (some 5) 15,
uO 9 (.alloc [.p (.str []),.p (.str []),.p (.str []),.p (.int .i64 0),.p (.int .i64 0)]),
wO (.store (some 5) 9 16)] [5,6,7,9,11,12,13])
(.seq (rg [fA 17 0 none 9,
lD 18 none 17,
cL 19 BG [5,18]] [5,6,7,9,11,12,13])
(.seq (rg [fA 20 1 none 9,
lD 21 none 20,
cL 22 BG [6,21]] [5,6,7,9,11,12,13])
(rg [fA 23 2 none 9,
lD 24 none 23,
cL 25 BG [7,24]] [5,6,7,11,12,13])))))
(rg [bN 26 .add 13 (cI 1),
mV 13 26] [5,6,7,11,12,13]))))
def KZ:Sf C gl fM e h x K:=⟨_,by simp only[fM,↓wZ,AO.still];rfl⟩
def zhr:=(KZ C gl e h x K).2
theorem zkT {C gl e h x K}:NW C gl (.loop (.scope fM)) ⟨e,h,x⟩ K=UA C gl (.scope fM) K [(5,eA e 5),(6,eA e 6),(7,eA e 7),(11,eA e 11),(12,eA e 12),(13,eA e 13)] h x:=jC
def uU:ACode:=.pr [5,6,7] (.seq (rg [cL 27 BJ [5],
cL 28 BJ [6],
cL 29 BJ [7],
mV 2 27,
mV 3 28,
mV 4 29] [2,3,4])
.ret)
def LZ:Sf C gl uU e h x K:=⟨_,by simp only[uU,↓wZ,AO.still];rfl⟩
def zhs:=(LZ C gl e h x K).2
def z1W:ACode:=(.seq (rg [mV 2 (cS []),
mV 3 (cS []),
mV 4 (cS [])] [0])
(.seq (rg [uO 5 (.uns 0 115 [(cI 5)]),
uO 6 (.uns 0 115 [(cI 5)]),
uO 7 (.uns 0 115 [(cI 5)])] [0,5,6,7])
(.seq (.seq (rg [mV 10 0,
cL 11 RO [10],
lN 12 11,
mV 13 (cI 0)] [5,6,7,11,12,13])
(.block 0 (.loop (.scope fM))))
uU)))
def DX:AFun:=⟨1,[.t 2,.t 3,.t 4],z1W,false,false⟩
def YR:Sf C gl z1W e h x K:=⟨_,by simp only[z1W,↓wZ,AO.still];rfl⟩
def kM:ACode:=.pr [0,3,4,8,9] (.seq (rg [bN 10 .lss 9 8] [0,3,4,8,9,10])
(.seq (.cond 10 .skip
(.exit 0))
(.seq (.block 1 (.seq (rg [mV 11 9,
mV 5 11] [0,3,4,5,8,9])
(.seq (rg [mV 12 0,
mV 13 5,
mV 14 4,
cL 15 AG [12,13,14],
uO 6 (.alloc [.p (.str []),.p (.str []),.p (.str []),.p (.int .i64 0),.p (.int .i64 0)]),
wO (.store (some 5) 6 15)] [0,3,6,8,9])
(dr [dF (mV 16 3) [3],
dF (lD 17 (some 5) 6) [6],
dF (uO 18 (.bsl false (some 5) 1 (.agg [.str [],.str [],.str [],.int .i64 0,.int .i64 0]) [(0,17)])) [17],
dT (uO 19 (.app (some 5) 16 18)) [16,18],
dF (fA 20 4 none 6) [6],
dA (lD 21 none 20) [20] false [3] [],
dF (mV 3 19) [19],
dF (mV 4 21) [21]] [0,3,4,8,9]))))
(rg [bN 22 .add 9 (cI 1),
mV 9 22] [0,3,4,8,9]))))
def SZ:Sf C gl kM e h x K:=⟨_,by simp only[kM,↓wZ,AO.still];rfl⟩
def zhB:=(SZ C gl e h x K).2
theorem zkW {C gl e h x K}:NW C gl (.loop (.scope kM)) ⟨e,h,x⟩ K=UA C gl (.scope kM) K [(0,eA e 0),(3,eA e 3),(4,eA e 4),(8,eA e 8),(9,eA e 9)] h x:=jC
def CU:ACode:=.pr [3] (.seq (rg [mV 23 3,
mV 2 23] [2])
.ret)
def TZ:Sf C gl CU e h x K:=⟨_,by simp only[CU,↓wZ,AO.still];rfl⟩
def zhC:=(TZ C gl e h x K).2
def z2d:ACode:=(.seq (rg [mV 2 (.c (.p (.sl (some 5) [])))] [0])
(.seq (rg [uO 3 (.new0 (some 5))] [0,3])
(.seq (rg [mV 4 (cI 0)] [0,3,4])
(.seq (.seq (rg [mV 7 0,
lN 8 7,
mV 9 (cI 0)] [0,3,4,8,9])
(.block 0 (.loop (.scope kM))))
CU))))
def LX:AFun:=⟨1,[.t 2],z2d,false,false⟩
def dS:Sf C gl z2d e h x K:=⟨_,by simp only[z2d,↓wZ,AO.still];rfl⟩
def xU:ACode:=.pr [1,3,12,13] (rg [bN 28 .add 13 (cI 1),
mV 13 28] [1,3,12,13])
def MZ:Sf C gl xU e h x K:=⟨_,by simp only[xU,↓wZ,AO.still];rfl⟩
def zhz:=(MZ C gl e h x K).2
def iM:ACode:=.pr [1,3,12,13] (.seq (rg [bN 14 .lss 13 12] [1,3,12,13,14])
(.seq (.cond 14 .skip
(.exit 0))
(.seq (.block 1 (.seq (rg [mV 15 13,
mV 4 15] [1,3,4,12,13])
(.seq (rg [fA 16 5 none 1,
lD 17 none 16,
mV 18 4,
uO 19 (.idxs 17 18),
bN 20 .eql 19 (.c (.p (.int .u8 49)))] [1,3,4,12,13,20])
(.cond 20 (rg [mV 21 3,
mV 22 4,
fA 23 4 none 1,
lD 24 none 23,
mV 25 4,
uO 26 (.idxs 24 25),
iA 27 none 21 22,
wO (.store none 27 26)] [1,3,12,13])
.skip))))
xU)))
def NZ:Sf C gl iM e h x K:=⟨_,by simp only[iM,↓wZ,AO.still];rfl⟩
def zh0:=(NZ C gl e h x K).2
theorem zkU {C gl e h x K}:NW C gl (.loop iM) ⟨e,h,x⟩ K=UA C gl iM K [(1,eA e 1),(3,eA e 3),(12,eA e 12),(13,eA e 13)] h x:=EC
def yU:ACode:=.pr [3] (.seq (rg [mV 29 3,
uO 30 (.conv .b2s 29),
mV 2 30] [2])
.ret)
def OZ:Sf C gl yU e h x K:=⟨_,by simp only[yU,↓wZ,AO.still];rfl⟩
def zh1:=(OZ C gl e h x K).2
def z1Z:ACode:=(.seq (rg [uO 1 (.box 0),
mV 2 (cS [])] [1])
(.seq (rg [fA 5 3 none 1,
lD 6 none 5,
uO 7 (.lens 6),
cL 8 DA [(cS [120]),7],
uO 9 (.conv .s2b 8),
mV 3 9] [1,3])
(.seq (.seq (rg [fA 10 5 none 1,
lD 11 none 10,
uO 12 (.lens 11),
mV 13 (cI 0)] [1,3,12,13])
(.block 0 (.loop iM)))
yU)))
def FX:AFun:=⟨1,[.t 2],z1Z,false,false⟩
def ZR:Sf C gl z1Z e h x K:=⟨_,by simp only[z1Z,↓wZ,AO.still];rfl⟩
def VJ:ACode:=.pr [0,10,11,12] (.seq (rg [bN 13 .lss 12 11] [0,10,11,12,13])
(.seq (.cond 13 .skip
(.exit 0))
(.seq (.block 1 (.seq (rg [iA 14 (some 6) 10 12,
lD 15 (some 6) 14,
uO 4 (.alloc [.p (.int .i64 0),.p (.int .i64 0),.p (.int .i64 0),.p (.str []),.p (.str []),.p (.str [])]),
wO (.store (some 6) 4 15)] [0,4,10,11,12])
(.seq (.seq (rg [fA 16 0 none 4,
lD 17 none 16,
cL 18 kC [17,(cI 1),(cI 10)]] [0,4,10,11,12,18])
(.cond 18 (.seq (rg [mV 2 (cI 4)] [2])
.ret)
.skip))
(.seq (rg [lD 20 (some 6) 4,
cL 21 zL [20],
mV 19 21,
eX 22 19 0,
eX 23 19 1,
uO 5 (.alloc [.p (.int .i64 0),.p (.int .i64 0),.p (.int .i64 0),.p (.str []),.p (.str []),.p (.str [])]),
wO (.store (some 6) 5 22),
mV 6 23] [0,4,5,6,10,11,12])
(.block 2 (.seq (rg [mV 25 6,
bN 26 .neq 25 (cI 0),
mV 24 26] [0,4,5,6,10,11,12,24])
(.cond 24 (.seq (rg [mV 27 6,
mV 2 27] [2])
.ret)
(.seq (rg [lD 29 (some 6) 5,
fA 30 0 none 4,
lD 31 none 30,
uO 32 (.build [.p (.int .i64 0),.p (.int .i64 0),.p (.int .i64 0),.p (.str []),.p (.str []),.p (.str [])] [(0,1,31)]),
uO 33 (.eqa [0,0,0,2,2,2] true 29 32),
mV 28 33] [0,10,11,12,28])
(.cond 28 (.seq (rg [mV 2 (cI 3)] [2])
.ret)
.skip)))))))))
(rg [bN 34 .add 12 (cI 1),
mV 12 34] [0,10,11,12]))))
def z0n:Sf C gl VJ e h x K:=⟨_,by simp only[VJ,↓wZ,AO.still];rfl⟩
def ziF:=(z0n C gl e h x K).2
theorem zlq {C gl e h x K}:NW C gl (.loop (.scope VJ)) ⟨e,h,x⟩ K=UA C gl (.scope VJ) K [(0,eA e 0),(10,eA e 10),(11,eA e 11),(12,eA e 12)] h x:=jC
def gQ:ACode:=.pr [0] (.seq (.seq (rg [mV 35 0,
cL 36 bF [35,(.c (.nilp))],
uO 37 (.nilchk 36),
fA 38 37 none 37,
lD 39 none 38,
bN 40 .gtr 39 (cI 20000)] [40])
(.cond 40 (.seq (rg [mV 2 (cI 2)] [2])
.ret)
.skip))
(.seq (rg [mV 2 (cI 0)] [2])
.ret))
def z0o:Sf C gl gQ e h x K:=⟨_,by simp only[gQ,↓wZ,AO.still];rfl⟩
def ziG:=(z0o C gl e h x K).2
def z2M:ACode:=(.seq (rg [mV 2 (cI 0)] [0])
(.seq (.seq (rg [mV 7 0,
lN 8 7,
bN 9 .gtr 8 (cI 1000)] [0,9])
(.cond 9 (.seq (rg [mV 2 (cI 2)] [2])
.ret)
.skip))
(.seq (.seq (rg [mV 10 0,
lN 11 10,
mV 12 (cI 0)] [0,10,11,12])
(.block 0 (.loop (.scope VJ))))
gQ)))
def RQ:AFun:=⟨1,[.t 2],z2M,true,false⟩
def vJ:Sf C gl z2M e h x K:=⟨_,by simp only[z2M,↓wZ,AO.still];rfl⟩
theorem ziE {C gl v0 h x K}:NW C gl RQ.body ⟨enter [v0],h,x⟩ K=(vJ C gl [(0,v0)] h x K).1:=(vJ C gl [(0,v0)] h x K).2
def WJ:ACode:=.pr [5,13,14,15] (.seq (rg [bN 16 .lss 15 14] [5,13,14,15,16])
(.seq (.cond 16 .skip
(.exit 0))
(.seq (.block 1 (.seq (rg [iA 17 (some 6) 13 15,
lD 18 (some 6) 17,
uO 7 (.alloc [.p (.int .i64 0),.p (.int .i64 0),.p (.int .i64 0),.p (.str []),.p (.str []),.p (.str [])]),
wO (.store (some 6) 7 18)] [5,7,13,14,15])
(.seq (.seq (rg [mV 19 5,
uO 20 (.nilchk 19),
fA 21 37 none 20,
lD 22 none 21,
bN 23 .gtr 22 (cI 20000)] [5,7,13,14,15,23])
(.cond 23 (.exit 0)
.skip))
(rg [mV 24 5,
lD 25 (some 6) 7,
cL 26 EJ [24,25]] [5,13,14,15]))))
(rg [bN 27 .add 15 (cI 1),
mV 15 27] [5,13,14,15]))))
def z0v:Sf C gl WJ e h x K:=⟨_,by simp only[WJ,↓wZ,AO.still];rfl⟩
def ziX:=(z0v C gl e h x K).2
theorem zlw {C gl e h x K}:NW C gl (.loop (.scope WJ)) ⟨e,h,x⟩ K=UA C gl (.scope WJ) K [(5,eA e 5),(13,eA e 13),(14,eA e 14),(15,eA e 15)] h x:=jC
def iQ:ACode:=.pr [5] (.seq (rg [mV 28 5,
mV 4 28] [4])
.ret)
def z0w:Sf C gl iQ e h x K:=⟨_,by simp only[iQ,↓wZ,AO.still];rfl⟩
def ziY:=(z0w C gl e h x K).2
def z2W:ACode:=(.seq (rg [mV 4 (.c (.nilp))] [0,1])
(.seq (rg [cL 8 EL [],
mV 9 1,
uO 10 (.isnil 0 true 9),
uO 11 (.build [.p (.int .i64 0),.p (.int .i64 0),.p (.int .i64 0),.p (.str []),.p (.str []),.p (.str []),.p (.int .i64 0),.p (.int .i64 0),.p (.int .i64 0),.p (.str []),.p (.str []),.p (.str []),.p (.int .i64 0),.p (.int .i64 0),.p (.int .i64 0),.p (.str []),.p (.str []),.p (.str []),.p (.int .i64 0),.p (.int .i64 0),.p (.int .i64 0),.p (.str []),.p (.str []),.p (.str []),.p (.int .i64 0),.p (.int .i64 0),.p (.int .i64 0),.p (.str []),.p (.str []),.p (.str []),.p (.int .i64 0),.p (.int .i64 0),.p (.int .i64 0),.p (.str []),.p (.str []),.p (.str []),.p (.int .i64 0),.p (.int .i64 0),.p (.int .i64 0),.p (.int .i64 0),.sl0 none,.sl0 none,.sl0 none,.sl0 none,.sl0 none,.p (.bool false)] [(0,36,8),(36,1,(cI 0)),(45,1,10)]),
uO 12 (.uns 12 0 [11]),
mV 5 12] [0,5])
(.seq (.seq (rg [mV 13 0,
lN 14 13,
mV 15 (cI 0)] [5,13,14,15])
(.block 0 (.loop (.scope WJ))))
iQ)))
def VQ:AFun:=⟨2,[.t 4],z2W,true,false⟩
def VK:Sf C gl z2W e h x K:=⟨_,by simp only[z2W,↓wZ,AO.still];rfl⟩
theorem ziW {C gl v0 v1 h x K}:NW C gl VQ.body ⟨enter [v0,v1],h,x⟩ K=(VK C gl [(0,v0),(1,v1)] h x K).1:=(VK C gl [(0,v0),(1,v1)] h x K).2
def z2w:ACode:=(.seq (rg [mV 4 (cI 0),
mV 5 (.c (.nili))] [0,1])
(.seq (rg [mV 6 0,
cL 7 eP [6]] [0,1])
(.seq (rg [mV 8 0,
mV 9 0,
uO 10 (.nilchk 9),
fA 11 1 none 10,
lD 12 none 11,
mV 13 1,
uO 14 (.uns 3 5 [12,13]),
uO 15 (.nilchk 8),
fA 16 1 none 15,
wO (.store none 16 14)] [1])
(.seq (rg [mV 17 1,
uO 18 (.lens 17),
mV 4 18,
mV 5 (.c (.nili))] [4,5])
.ret))))
def cY:AFun:=⟨2,[.t 4,.t 5],z2w,false,false⟩
def zS:Sf C gl z2w e h x K:=⟨_,by simp only[z2w,↓wZ,AO.still];rfl⟩
def z2v:ACode:=(.seq (rg [mV 2 (cS [])] [0])
(.seq (dr [dF (mV 3 0) [0],
dF (uO 4 (.nilchk 3)) [3],
dF (fA 5 1 none 4) [4],
dF (lD 6 none 5) [5],
dF (uO 7 (.uns 5 5 [6])) [6],
dF (mV 8 0) [0],
dF (uO 9 (.nilchk 8)) [8],
dF (fA 10 1 none 9) [9],
dF (lD 11 none 10) [10],
dF (uO 12 (.uns 4 0 [11])) [11],
dT (uO 13 (.uns 6 5 [7,12])) [7,12],
dF (mV 2 13) [13]] [2])
.ret))
def bY:AFun:=⟨1,[.t 2],z2v,false,false⟩
def YN:Sf C gl z2v e h x K:=⟨_,by simp only[z2v,↓wZ,AO.still];rfl⟩
def z1U:ACode:=(.seq (rg [mV 2 cF] [0])
(.seq (rg [mV 3 0,
cL 4 QO [3,(cS [48,49])],
mV 2 4] [2])
.ret))
def BX:AFun:=⟨1,[.t 2],z1U,false,false⟩
def XR:Sf C gl z1U e h x K:=⟨_,by simp only[z1U,↓wZ,AO.still];rfl⟩
def z3e:ACode:=(.seq (rg [mV 2 (.c (.nilp))] [0])
(.seq (rg [uO 3 (.alloc [.p (.bool false)]),
wO (.store none 3 cT)] [0,3])
(.seq (rg [mV 4 0,
cL 5 bF [4,3],
mV 2 5] [2])
.ret)))
def GY:AFun:=⟨1,[.t 2],z3e,false,false⟩
def jT:Sf C gl z3e e h x K:=⟨_,by simp only[z3e,↓wZ,AO.still];rfl⟩
def fU:ACode:=.pr [0] (.seq (rg [mV 15 0,
mV 4 15] [4])
.ret)
def pZ:Sf C gl fU e h x K:=⟨_,by simp only[fU,↓wZ,AO.still];rfl⟩
def zgE:=(pZ C gl e h x K).2
def z1F:ACode:=(.seq (rg [mV 4 (cI 0)] [0,1])
(.seq (.seq (rg [mV 5 1,
bN 6 .lss 5 (cI 1)] [0,1,6])
(.cond 6 (.seq (rg [mV 4 (cI 0)] [4])
.ret)
.skip))
(.seq (rg [mV 7 0,
mV 8 1,
bN 9 .rem 7 8,
mV 0 9] [0,1])
(.seq (.seq (rg [mV 10 0,
bN 11 .lss 10 (cI 0)] [0,1,11])
(.cond 11 (rg [mV 12 0,
mV 13 1,
bN 14 .add 12 13,
mV 0 14] [0])
.skip))
fU))))
def mX:AFun:=⟨2,[.t 4],z1F,false,false⟩
def JR:Sf C gl z1F e h x K:=⟨_,by simp only[z1F,↓wZ,AO.still];rfl⟩
def pM:ACode:=.pr [0,1,7,8] (.seq (rg [bN 9 .lss 8 7] [0,1,7,8,9])
(.seq (.cond 9 .skip
(.exit 0))
(.seq (.block 1 (.seq (rg [mV 10 8,
mV 5 10] [0,1,5,7,8])
(.seq (rg [mV 11 1,
mV 12 0,
mV 13 5,
iA 14 (some 5) 12 13,
lD 15 (some 5) 14,
uO 16 (.callv 11 [15])] [0,1,5,7,8,16])
(.cond 16 (.seq (rg [mV 17 5,
mV 4 17] [4])
.ret)
.skip))))
(rg [bN 18 .add 8 (cI 1),
mV 8 18] [0,1,7,8]))))
def WZ:Sf C gl pM e h x K:=⟨_,by simp only[pM,↓wZ,AO.still];rfl⟩
def zhT:=(WZ C gl e h x K).2
theorem zlb {C gl e h x K}:NW C gl (.loop pM) ⟨e,h,x⟩ K=UA C gl pM K [(0,eA e 0),(1,eA e 1),(7,eA e 7),(8,eA e 8)] h x:=EC
def HU:ACode:=.pr [] (.seq (rg [mV 4 (cI (-1))] [4])
.ret)
def XZ:Sf C gl HU e h x K:=⟨_,by simp only[HU,↓wZ,AO.still];rfl⟩
def zhU:=(XZ C gl e h x K).2
def z2r:ACode:=(.seq (rg [mV 4 (cI 0)] [0,1])
(.seq (.seq (rg [mV 6 0,
lN 7 6,
mV 8 (cI 0)] [0,1,7,8])
(.block 0 (.loop pM)))
HU))
def YX:AFun:=⟨2,[.t 4],z2r,true,false⟩
def uS:Sf C gl z2r e h x K:=⟨_,by simp only[z2r,↓wZ,AO.still];rfl⟩
theorem zhS {C gl v0 v1 h x K}:NW C gl YX.body ⟨enter [v0,v1],h,x⟩ K=(uS C gl [(0,v0),(1,v1)] h x K).1:=(uS C gl [(0,v0),(1,v1)] h x K).2
def z2P:ACode:=(.seq (rg [uO 2 (.box 0),
mV 3 cF] [1,2])
(.seq (rg [fA 4 0 none 2,
lD 5 none 4,
lD 6 none 1,
bN 7 .eql 5 6,
mV 3 7] [3])
.ret))
def AY:AFun:=⟨2,[.t 3],z2P,false,false⟩
def XS:Sf C gl z2P e h x K:=⟨_,by simp only[z2P,↓wZ,AO.still];rfl⟩
def GM:ACode:=.pr [3,6,7,8] (.seq (rg [bN 9 .lss 8 7] [3,6,7,8,9])
(.seq (.cond 9 .skip
(.exit 0))
(.seq (.block 1 (.seq (rg [iA 10 (some 5) 6 8,
lD 11 (some 5) 10,
uO 5 (.alloc [.p (.str []),.p (.int .i64 0),.p (.int .i64 0),.sl0 (some 2),.sl0 (some 2)]),
wO (.store (some 5) 5 11)] [3,5,6,7,8])
(rg [mV 12 3,
fA 13 1 none 5,
lD 14 none 13,
bN 15 .add 12 14,
mV 3 15] [3,6,7,8])))
(rg [bN 16 .add 8 (cI 1),
mV 8 16] [3,6,7,8]))))
def oO:Sf C gl GM e h x K:=⟨_,by simp only[GM,↓wZ,AO.still];rfl⟩
def z0M:=(oO C gl e h x K).2
theorem zlu {C gl e h x K}:NW C gl (.loop (.scope GM)) ⟨e,h,x⟩ K=UA C gl (.scope GM) K [(3,eA e 3),(6,eA e 6),(7,eA e 7),(8,eA e 8)] h x:=jC
def lV:ACode:=.pr [3] (.seq (rg [mV 17 3,
cL 18 DA [(cS [49]),17],
mV 2 18] [2])
.ret)
def ZS:Sf C gl lV e h x K:=⟨_,by simp only[lV,↓wZ,AO.still];rfl⟩
def z6y:=(ZS C gl e h x K).2
def z2Q:ACode:=(.seq (rg [mV 2 (cS [])] [0])
(.seq (rg [mV 3 (cI 0)] [0,3])
(.seq (.seq (rg [mV 6 0,
lN 7 6,
mV 8 (cI 0)] [3,6,7,8])
(.block 0 (.loop (.scope GM))))
lV)))
def BY:AFun:=⟨1,[.t 2],z2Q,false,false⟩
def YS:Sf C gl z2Q e h x K:=⟨_,by simp only[z2Q,↓wZ,AO.still];rfl⟩
def z2U:ACode:=(.seq (rg [mV 2 cF] [0])
(.seq (rg [mV 3 0,
cL 4 kC [3,(cI 1),(cI 6)],
uO 5 (.un .not 4),
mV 2 5] [2])
.ret))
def TQ:AFun:=⟨1,[.t 2],z2U,false,false⟩
def UK:Sf C gl z2U e h x K:=⟨_,by simp only[z2U,↓wZ,AO.still];rfl⟩
def LM:ACode:=.pr [2,7,8,9] (.seq (rg [bN 10 .lss 9 8] [2,7,8,9,10])
(.seq (.cond 10 .skip
(.exit 0))
(.seq (.block 1 (.seq (rg [iA 11 (some 6) 7 9,
lD 12 (some 6) 11,
uO 6 (.alloc [.p (.int .i64 0),.p (.int .i64 0),.p (.int .i64 0),.p (.str []),.p (.str []),.p (.str [])]),
wO (.store (some 6) 6 12)] [2,6,7,8,9])
(.seq (.seq (rg [fA 13 0 none 6,
lD 14 none 13,
fA 15 0 none 2,
lD 16 none 15,
bN 17 .eql 14 16] [2,6,7,8,9,17])
(.cond 17 (.seq (rg [mV 4 cF] [4])
.ret)
.skip))
(.seq (dr [dF (fA 18 0 none 6) [6],
dF (lD 19 none 18) [18],
dT (cL 20 bG [19]) [19],
dF (mV 21 20) [20],
dF (gD 22 21 true (.faddr 0 none 6)) [6,21],
dF (gD 23 21 true (.load none 22)) [22,21],
dT (gD 24 21 true (.call yL [23])) [23,21],
dF (gD 25 21 true (.faddr 0 none 2)) [2,21],
dA (gD 26 21 true (.load none 25)) [25,21] false [6] [],
dT (gD 27 21 true (.call yL [26])) [26,21],
dF (gD 28 21 true (.eqa [] false 24 27)) [24,27,21],
dF (uO 29 (.pick 21 28 cF)) [21,28]] [2,7,8,9,29])
(.cond 29 (.seq (rg [mV 4 cT] [4])
.ret)
.skip)))))
(rg [bN 30 .add 9 (cI 1),
mV 9 30] [2,7,8,9]))))
def z06:Sf C gl LM e h x K:=⟨_,by simp only[LM,↓wZ,AO.still];rfl⟩
def zjw:=(z06 C gl e h x K).2
theorem zl1 {C gl e h x K}:NW C gl (.loop (.scope LM)) ⟨e,h,x⟩ K=UA C gl (.scope LM) K [(2,eA e 2),(7,eA e 7),(8,eA e 8),(9,eA e 9)] h x:=jC
def DV:ACode:=.pr [] (.seq (rg [mV 4 cF] [4])
.ret)
def z07:Sf C gl DV e h x K:=⟨_,by simp only[DV,↓wZ,AO.still];rfl⟩
def zjx:=(z07 C gl e h x K).2
def z3h:ACode:=(.seq (rg [uO 2 (.box 0),
mV 4 cF] [1,2])
(.seq (.seq (rg [mV 7 1,
lN 8 7,
mV 9 (cI 0)] [2,7,8,9])
(.block 0 (.loop (.scope LM))))
DV))
def HY:AFun:=⟨2,[.t 4],z3h,false,false⟩
def mT:Sf C gl z3h e h x K:=⟨_,by simp only[z3h,↓wZ,AO.still];rfl⟩
def z3d:ACode:=(.seq (rg [mV 4 (.c (.nilp))] [0,1])
(.seq (.seq (rg [mV 5 1] [0,5])
(.block 0 (.seq (rg [bN 7 .eql 5 (cI 1),
mV 6 7] [0,5,6])
(.cond 6 (.seq (rg [mV 8 0,
uO 9 (.nilchk 8),
fA 10 0 (some 6) 9,
mV 4 10] [4])
.ret)
(.seq (rg [bN 12 .eql 5 (cI 2),
mV 11 12] [0,5,11])
(.cond 11 (.seq (rg [mV 13 0,
uO 14 (.nilchk 13),
fA 15 6 (some 6) 14,
mV 4 15] [4])
.ret)
(.seq (rg [bN 17 .eql 5 (cI 3),
mV 16 17] [0,5,16])
(.cond 16 (.seq (rg [mV 18 0,
uO 19 (.nilchk 18),
fA 20 12 (some 6) 19,
mV 4 20] [4])
.ret)
(.seq (rg [bN 22 .eql 5 (cI 4),
mV 21 22] [0,5,21])
(.cond 21 (.seq (rg [mV 23 0,
uO 24 (.nilchk 23),
fA 25 18 (some 6) 24,
mV 4 25] [4])
.ret)
(.seq (rg [bN 27 .eql 5 (cI 5),
mV 26 27] [0,26])
(.cond 26 (.seq (rg [mV 28 0,
uO 29 (.nilchk 28),
fA 30 24 (some 6) 29,
mV 4 30] [4])
.ret)
.skip))))))))))))
(.seq (rg [mV 31 0,
uO 32 (.nilchk 31),
fA 33 30 (some 6) 32,
mV 4 33] [4])
.ret)))
def bR:AFun:=⟨2,[.t 4],z3d,false,false⟩
def YG:Sf C gl z3d e h x K:=⟨_,by simp only[z3d,↓wZ,AO.still];rfl⟩
def XJ:ACode:=.pr [0,4,35,36] (.seq (rg [bN 37 .lss 36 35] [0,4,35,36,37])
(.seq (.cond 37 .skip
(.exit 1))
(.seq (.block 2 (rg [mV 38 0,
cL 39 kH [38,(.c (.p (.int .u8 48))),(.c (.p (.int .u8 48))),(.c (.p (.int .u8 120)))]] [0,4,35,36]))
(rg [bN 40 .add 36 (cI 1),
mV 36 40] [0,4,35,36]))))
def z5X (C:Hd)(gl:GL)(v0 v4 v35 v36:AV)(h:aA)(x:Esc)(K:KT):Prop:=
 pK (zA .lss v36 v35) λt1=>
 iB t1 (C kH [v0,(.p (.int .u8 48)),(.p (.int .u8 48)),(.p (.int .u8 120))] h λt2 h3 y4=>
 pK (zA .add v36 (AI 1)) λt5=>
 K .normal ⟨[(0,v0),(4,v4),(35,v35),(36,t5)],h3,(y4++x)⟩)
 (K (.exit 1) ⟨[(0,v0),(4,v4),(35,v35),(36,v36),(37,t1)],h,x⟩)
theorem zjl {C gl e h x K}:NW C gl XJ ⟨e,h,x⟩ K=z5X C gl (eA e 0) (eA e 4) (eA e 35) (eA e 36) h x K:=by kernel_rfl
theorem zlz {C gl e h x K}:NW C gl (.loop XJ) ⟨e,h,x⟩ K=UA C gl XJ K [(0,eA e 0),(4,eA e 4),(35,eA e 35),(36,eA e 36)] h x:=EC
def jQ:ACode:=.pr [0,4] (.seq (dr [dF (mV 41 0) [0],
dF (mV 42 0) [0],
dF (uO 43 (.nilchk 42)) [42],
dF (fA 44 40 none 43) [43],
dF (lD 45 none 44) [44],
dF (mV 46 0) [0],
dF (uO 47 (.nilchk 46)) [46],
dF (fA 48 36 none 47) [47],
dF (lD 49 none 48) [48],
dF (uO 50 (.bsl false none 1 (.int .i64 0) [(0,49)])) [49],
dT (uO 51 (.app none 45 50)) [45,50],
dF (uO 52 (.nilchk 41)) [41],
dF (fA 53 40 none 52) [52],
dT (wO (.store none 53 51)) [53,51]] [0,4])
(rg [mV 54 0,
mV 55 0,
uO 56 (.nilchk 55),
fA 57 41 none 56,
lD 58 none 57,
mV 59 4,
uO 60 (.bsl false none 1 (.int .i64 0) [(0,59)]),
uO 61 (.app none 58 60),
uO 62 (.nilchk 54),
fA 63 41 none 62,
wO (.store none 63 61)] []))
def tO (C:Hd)(gl:GL)(v0 v4:AV)(h:aA)(x:Esc)(K:KT):Prop:=
 pK (iF v0) λt1=>
 pK (FA 40 none t1) λt2=>
 pK (AA none t2 h) λt3=>
 pK (iF v0) λt4=>
 pK (FA 36 none t4) λt5=>
 pK (AA none t5 h) λt6=>
 wK (UC false none 1 (.int .i64 0) [(0,t6)] h) λt7 h8 y9=>
 (h8=h/\y9=[])/\(wK (NL none t3 t7 h8) λt10 h11 y12=>
 pK (iF v0) λt13=>
 pK (FA 40 none t13) λt14=>
 wK (lB none t14 t10 h11) λt15 h16 y17=>
 pK (iF v0) λt18=>
 pK (FA 41 none t18) λt19=>
 pK (AA none t19 h16) λt20=>
 wK (UC false none 1 (.int .i64 0) [(0,v4)] h16) λt21 h22 y23=>
 wK (NL none t20 t21 h22) λt24 h25 y26=>
 pK (iF v0) λt27=>
 pK (FA 41 none t27) λt28=>
 wK (lB none t28 t24 h25) λt29 h30 y31=>
 K .normal ⟨[],h30,(y31++(y26++(y23++(y17++(y12++(y9++x))))))⟩)
theorem zjm {C gl e h x K}:NW C gl jQ ⟨e,h,x⟩ K=tO C gl (eA e 0) (eA e 4) h x K:=by kernel_rfl
def z4G (q1 q2:ACode):ACode:=(.seq (rg [uO 3 (.box 1)] [0,3])
(.seq (rg [mV 4 (cI 0)] [0,3,4])
(.seq (.block 0 (.seq (rg [fA 10 0 none 3,
lD 11 none 10,
cL 12 rI [11],
mV 9 12] [0,3,4,9])
(.cond 9 (dr [dF (mV 13 0) [0],
dF (uO 14 (.nilchk 13)) [13],
dF (fA 15 0 (some 36) 14) [14],
dF (fA 16 0 none 3) [3],
dF (lD 17 none 16) [16],
dT (cL 18 sI [15,17]) [15,17],
dA (lD 19 (some 6) 3) [3] false [5] [],
dF (uO 20 (.nilchk 18)) [18],
dT (wO (.store (some 6) 20 19)) [20,19]] [0,4])
(.seq (rg [fA 22 0 none 3,
lD 23 none 22,
cL 24 bG [23],
mV 21 24] [0,3,4,21])
(.cond 21 (rg [mV 25 0,
lD 26 (some 6) 3,
cL 27 lH [25,26],
mV 4 27] [0,4])
(.seq (rg [fA 29 0 none 3,
lD 30 none 29,
bN 31 .eql 30 (cI 9),
mV 28 31] [0,3,4,28])
(.cond 28 (.seq (rg [mV 32 0,
cL 33 cG [32,(cI 1)]] [0,3,4])
(.seq (rg [fA 34 2 none 3,
lD 35 none 34,
mV 36 (cI 0)] [0,4,35,36])
(.block 1 (.loop q1))))
(rg [mV 5 0,
fA 6 1 none 3,
lD 7 none 6,
cL 8 cG [5,7]] [0,4]))))))))
q2)))
def YQ:AFun:=⟨2,[],z4G XJ jQ,false,false⟩
def YE (C:Hd)(gl:GL)(q1 q2:ACode)(v0 v1:AV)(h:aA)(x:Esc)(K:KT):Prop:=
 wK (OL v1 h) λt1 h2 y3=>
 pK (FA 0 none t1) λt4=>
 pK (AA none t4 h2) λt5=>
 C rI [t5] h2 λt6 h7 y8=>
 iB t6 (pK (iF v0) λt9=>
 pK (FA 0 (some 36) t9) λt10=>
 pK (FA 0 none t1) λt11=>
 pK (AA none t11 h7) λt12=>
 TB C sI [t10,t12] h7 λt13 h14 y15=>
 pK (AA (some 6) t1 h14) λt16=>
 (pK (AA (some 6) t1 h7) λv=>(λu (g1:aA) (y1:Esc)=>u=t16/\g1=h7/\y1=[]) v h7 [])/\(pK (iF t13) λt17=>
 wK (lB (some 6) t17 t16 h14) λt18 h19 y20=>
 NW C gl q2 ⟨[(0,v0),(4,(AI 0))],h19,(y20++(y15++(y8++(y3++x))))⟩ K))
 (pK (FA 0 none t1) λt21=>
 pK (AA none t21 h7) λt22=>
 C bG [t22] h7 λt23 h24 y25=>
 iB t23 (pK (AA (some 6) t1 h24) λt26=>
 C lH [v0,t26] h24 λt27 h28 y29=>
 NW C gl q2 ⟨[(0,v0),(4,t27)],h28,(y29++(y25++(y8++(y3++x))))⟩ K)
 (pK (FA 0 none t1) λt30=>
 pK (AA none t30 h24) λt31=>
 pK (zA .eql t31 (AI 9)) λt32=>
 iB t32 (C cG [v0,(AI 1)] h24 λt33 h34 y35=>
 pK (FA 2 none t1) λt36=>
 pK (AA none t36 h34) λt37=>
 NW C gl (.loop q1) ⟨[(0,v0),(4,(AI 0)),(35,t37),(36,(AI 0))],h34,(y35++(y25++(y8++(y3++x))))⟩ (qC 1 (qC 0 (xD C gl q2 K))))
 (pK (FA 1 none t1) λt38=>
 pK (AA none t38 h24) λt39=>
 C cG [v0,t39] h24 λt40 h41 y42=>
 NW C gl q2 ⟨[(0,v0),(4,(AI 0))],h41,(y42++(y25++(y8++(y3++x))))⟩ K)))
theorem zbU {C gl q1 q2 v0 v1 h x K}:NW C gl (z4G q1 q2) ⟨enter [v0,v1],h,x⟩ K=YE C gl q1 q2 v0 v1 h x K:=by kernel_rfl
theorem zjk {C gl v0 v1 h x K}:NW C gl YQ.body ⟨enter [v0,v1],h,x⟩ K=YE C gl XJ jQ v0 v1 h x K:=zbU
def aM:ACode:=.pr [0,5,6,7] (.seq (rg [bN 8 .lss 7 6] [0,5,6,7,8])
(.seq (.cond 8 .skip
(.exit 0))
(.seq (.block 1 (rg [mV 9 5,
mV 10 0,
uO 11 (.bsl false none 2 (.str []) [(0,(cS [48])),(1,(cS [49]))]),
cL 12 HE [10,11],
bN 13 .add 9 12,
mV 5 13] [0,5,6,7]))
(rg [bN 14 .add 7 (cI 1),
mV 7 14] [0,5,6,7]))))
def yZ:Sf C gl aM e h x K:=⟨_,by simp only[aM,↓wZ,AO.still];rfl⟩
def zha:=(yZ C gl e h x K).2
theorem zkO {C gl e h x K}:NW C gl (.loop aM) ⟨e,h,x⟩ K=UA C gl aM K [(0,eA e 0),(5,eA e 5),(6,eA e 6),(7,eA e 7)] h x:=EC
def oU:ACode:=.pr [5] (.seq (rg [mV 15 5,
mV 4 15] [4])
.ret)
def zZ:Sf C gl oU e h x K:=⟨_,by simp only[oU,↓wZ,AO.still];rfl⟩
def zhb:=(zZ C gl e h x K).2
def z1Q:ACode:=(.seq (rg [mV 4 (cS [])] [0,1])
(.seq (rg [mV 5 (cS [])] [0,1,5])
(.seq (.seq (rg [mV 6 1,
mV 7 (cI 0)] [0,5,6,7])
(.block 0 (.loop aM)))
oU)))
def xX:AFun:=⟨2,[.t 4],z1Q,false,false⟩
def SR:Sf C gl z1Q e h x K:=⟨_,by simp only[z1Q,↓wZ,AO.still];rfl⟩
def z1L:ACode:=(.seq (rg [mV 6 (cI 0)] [0,1,2])
(.seq (.seq (rg [mV 7 0,
cL 8 lE [7,(cI 12)]] [0,1,2,8])
(.cond 8 (.seq (rg [mV 9 0,
mV 10 1,
bN 11 .sub 10 (cI 1),
mV 12 2,
bN 13 .add 12 (cI 1),
mV 14 1,
mV 15 2,
uO 16 (.bsl false none 6 (.int .i64 0) [(0,11),(1,13),(2,14),(3,15),(4,(cI (-1099511627776))),(5,(cI 1099511627776))]),
cL 17 AC [9,16],
mV 6 17] [6])
.ret)
.skip))
(.seq (rg [mV 18 0,
mV 19 1,
mV 20 2,
cL 21 fH [18,19,20],
mV 6 21] [6])
.ret)))
def sX:AFun:=⟨3,[.t 6],z1L,false,false⟩
def SN:Sf C gl z1L e h x K:=⟨_,by simp only[z1L,↓wZ,AO.still];rfl⟩
def TL:ACode:=.pr [5,6,7] (.seq (rg [bN 8 .lss 7 6] [5,6,7,8])
(.seq (.cond 8 .skip
(.exit 0))
(.seq (.block 1 (.seq (rg [iA 9 none 5 7,
lD 10 none 9,
mV 4 10] [4,5,6,7])
(.seq (rg [mV 11 4,
bN 12 .neq 11 (cI 0)] [4,5,6,7,12])
(.cond 12 (.seq (rg [mV 13 4,
mV 2 13] [2])
.ret)
.skip))))
(rg [bN 14 .add 7 (cI 1),
mV 7 14] [5,6,7]))))
def lZ:Sf C gl TL e h x K:=⟨_,by simp only[TL,↓wZ,AO.still];rfl⟩
def zg2:=(lZ C gl e h x K).2
theorem zkH {C gl e h x K}:NW C gl (.loop TL) ⟨e,h,x⟩ K=UA C gl TL K [(5,eA e 5),(6,eA e 6),(7,eA e 7)] h x:=EC
def dU:ACode:=.pr [] (.seq (rg [mV 2 (cI 0)] [2])
.ret)
def mZ:Sf C gl dU e h x K:=⟨_,by simp only[dU,↓wZ,AO.still];rfl⟩
def zg3:=(mZ C gl e h x K).2
def z17:ACode:=(.seq (rg [mV 2 (cI 0)] [0])
(.seq (.seq (rg [mV 5 0,
lN 6 5,
mV 7 (cI 0)] [5,6,7])
(.block 0 (.loop TL)))
dU))
def KQ:AFun:=⟨1,[.t 2],z17,false,false⟩
def DR:Sf C gl z17 e h x K:=⟨_,by simp only[z17,↓wZ,AO.still];rfl⟩
def uM:ACode:=.pr [0,14,15,16] (.seq (rg [bN 17 .lss 16 15] [0,14,15,16,17])
(.seq (.cond 17 .skip
(.exit 1))
(.seq (.block 2 (.seq (rg [mV 18 16,
iA 19 (some 5) 14 16,
lD 20 (some 5) 19,
uO 4 (.alloc [.p (.str []),.p (.int .i64 0),.p (.int .i64 0),.sl0 (some 2),.sl0 (some 2)]),
mV 3 18,
wO (.store (some 5) 4 20)] [0,3,4,14,15,16])
(.seq (dr [dF (lD 21 (some 5) 4) [4],
dF (mV 22 0) [0],
dF (mV 23 3) [3],
dF (uO 24 (.slice (some 5) 22 none (some 23) none)) [22,23],
dT (cL 25 pP [21,24]) [21,24],
dF (mV 5 25) [25]] [0,5,14,15,16])
(.seq (rg [mV 26 5,
bN 27 .neq 26 (cI 0)] [0,5,14,15,16,27])
(.cond 27 (.seq (rg [mV 28 5,
mV 2 28] [2])
.ret)
.skip)))))
(rg [bN 29 .add 16 (cI 1),
mV 16 29] [0,14,15,16]))))
def MK:Sf C gl uM e h x K:=⟨_,by simp only[uM,↓wZ,AO.still];rfl⟩
def tT:=(MK C gl e h x K).2
theorem zlg {C gl e h x K}:NW C gl (.loop (.scope uM)) ⟨e,h,x⟩ K=UA C gl (.scope uM) K [(0,eA e 0),(14,eA e 14),(15,eA e 15),(16,eA e 16)] h x:=jC
def PU:ACode:=.pr [] (.seq (rg [mV 2 (cI 0)] [2])
.ret)
def FS:Sf C gl PU e h x K:=⟨_,by simp only[PU,↓wZ,AO.still];rfl⟩
def z6r:=(FS C gl e h x K).2
def z25:ACode:=(.seq (rg [mV 2 (cI 0)] [0])
(.seq (.block 0 (.seq (rg [mV 7 0,
lN 8 7,
bN 9 .eql 8 (cI 0),
mV 6 9] [0,6])
(.cond 6 (.seq (rg [mV 2 (cI 8)] [2])
.ret)
(.seq (rg [mV 11 0,
lN 12 11,
bN 13 .gtr 12 (cI 20),
mV 10 13] [0,10])
(.cond 10 (.seq (rg [mV 2 (cI 2)] [2])
.ret)
.skip)))))
(.seq (.seq (rg [mV 14 0,
lN 15 14,
mV 16 (cI 0)] [0,14,15,16])
(.block 1 (.loop (.scope uM))))
PU)))
def kY:AFun:=⟨1,[.t 2],z25,false,false⟩
def LK:Sf C gl z25 e h x K:=⟨_,by simp only[z25,↓wZ,AO.still];rfl⟩
end
section
variable (C:Hd)(gl:GL)(e:En)(h:aA)(x:Esc)(K:KT)
def TU:ACode:=.pr [1,2,8,10,46,47] (rg [bN 73 .add 47 (cI 1),
mV 47 73] [1,2,8,10,46,47])
def z0f:Sf C gl TU e h x K:=⟨_,by simp only[TU,↓wZ,AO.still];rfl⟩
def zis:=(z0f C gl e h x K).2
def wM:ACode:=.pr [1,2,8,10,46,47] (.seq (rg [bN 48 .lss 47 46] [1,2,8,10,46,47,48])
(.seq (.cond 48 .skip
(.exit 1))
(.seq (.block 2 (.seq (rg [mV 49 47,
mV 11 49] [1,2,8,10,11,46,47])
(.seq (dr [dF (mV 50 8) [8],
dF (mV 51 1) [1],
dF (mV 52 11) [11],
dF (uO 53 (.idxs 51 52)) [51,52],
dF (bN 54 .sub 53 (.c (.p (.int .u8 48)))) [53],
dF (uO 55 (.conv (.i .i64) 54)) [54],
dF (mV 56 2) [2],
dF (mV 57 11) [11],
dF (uO 58 (.idxs 56 57)) [56,57],
dF (bN 59 .sub 58 (.c (.p (.int .u8 48)))) [58],
dF (uO 60 (.conv (.i .i64) 59)) [59],
dT (cL 61 mP [50,55,60]) [50,55,60],
dF (mV 12 61) [61]] [1,2,8,10,12,46,47])
(.seq (rg [mV 62 12,
bN 63 .lss 62 (cI 0)] [1,2,8,10,12,46,47,63])
(.cond 63 (rg [mV 64 10,
uO 65 (.bsl false none 1 (.int .u8 0) [(0,(.c (.p (.int .u8 122))))]),
uO 66 (.app none 64 65),
mV 10 66] [1,2,8,10,46,47])
(rg [mV 67 10,
mV 68 12,
bN 69 .add (cI 48) 68,
uO 70 (.conv (.i .u8) 69),
uO 71 (.bsl false none 1 (.int .u8 0) [(0,70)]),
uO 72 (.app none 67 71),
mV 10 72] [1,2,8,10,46,47]))))))
TU)))
def OK:Sf C gl wM e h x K:=⟨_,by simp only[wM,↓wZ,AO.still];rfl⟩
def vT:=(OK C gl e h x K).2
theorem zlj {C gl e h x K}:NW C gl (.loop (.scope wM)) ⟨e,h,x⟩ K=UA C gl (.scope wM) K [(1,eA e 1),(2,eA e 2),(8,eA e 8),(10,eA e 10),(46,eA e 46),(47,eA e 47)] h x:=jC
def UU:ACode:=.pr [10] (.seq (rg [mV 74 10,
uO 75 (.conv .b2s 74),
mV 6 75,
mV 7 (cI 0)] [6,7])
.ret)
def z0g:Sf C gl UU e h x K:=⟨_,by simp only[UU,↓wZ,AO.still];rfl⟩
def zit:=(z0g C gl e h x K).2
def z28:ACode:=(.seq (rg [mV 6 (cS []),
mV 7 (cI 0)] [0,1,2])
(.seq (rg [mV 14 0,
cL 15 nP [14],
mV 13 15,
eX 16 13 0,
eX 17 13 1,
mV 8 16,
mV 9 17] [1,2,8,9])
(.seq (.seq (rg [mV 18 9,
bN 19 .neq 18 (cI 0)] [1,2,8,9,19])
(.cond 19 (.seq (rg [mV 20 9,
mV 6 (cS []),
mV 7 20] [6,7])
.ret)
.skip))
(.seq (.block 0 (.seq (rg [mV 22 1,
uO 23 (.lens 22),
bN 24 .gtr 23 (cI 20000),
mV 25 24,
gD 26 25 false (.mv 2),
gD 27 25 false (.lens 26),
gD 28 25 false (.bin .gtr 27 (cI 20000)),
uO 29 (.pick 25 cT 28),
mV 21 29] [1,2,8,21])
(.cond 21 (.seq (rg [mV 6 (cS []),
mV 7 (cI 2)] [6,7])
.ret)
(.seq (rg [mV 31 1,
uO 32 (.lens 31),
mV 33 2,
uO 34 (.lens 33),
bN 35 .neq 32 34,
mV 30 35] [1,2,8,30])
(.cond 30 (.seq (rg [mV 6 (cS []),
mV 7 (cI 3)] [6,7])
.ret)
(.seq (rg [mV 37 1,
cL 38 GE [37],
uO 39 (.un .not 38),
mV 40 39,
gD 41 40 false (.mv 2),
gD 42 40 false (.call GE [41]),
gD 43 40 false (.un .not 42),
uO 44 (.pick 40 cT 43),
mV 36 44] [1,2,8,36])
(.cond 36 (.seq (rg [mV 6 (cS []),
mV 7 (cI 9)] [6,7])
.ret)
.skip)))))))
(.seq (rg [uO 10 (.new0 none)] [1,2,8,10])
(.seq (.seq (rg [mV 45 1,
uO 46 (.lens 45),
mV 47 (cI 0)] [1,2,8,10,46,47])
(.block 1 (.loop (.scope wM))))
UU))))))
def mY:AFun:=⟨3,[.t 6,.t 7],z28,false,false⟩
def JS:Sf C gl z28 e h x K:=⟨_,by simp only[z28,↓wZ,AO.still];rfl⟩
def z22:ACode:=(.seq (rg [mV 4 (cI 0)] [0,1])
(.seq (rg [mV 5 0,
mV 6 1,
cL 7 xJ [5,6],
mV 4 7] [4])
.ret))
def gY:AFun:=⟨2,[.t 4],z22,false,false⟩
def DS:Sf C gl z22 e h x K:=⟨_,by simp only[z22,↓wZ,AO.still];rfl⟩
def z2l:ACode:=(.seq (rg [mV 4 cF] [0,1])
(.seq (rg [mV 5 0,
mV 6 1,
cL 7 tL [5,6],
bN 8 .geq 7 (cI 0),
mV 4 8] [4])
.ret))
def TX:AFun:=⟨2,[.t 4],z2l,true,false⟩
def lS:Sf C gl z2l e h x K:=⟨_,by simp only[z2l,↓wZ,AO.still];rfl⟩
theorem zhK {C gl v0 v1 h x K}:NW C gl TX.body ⟨enter [v0,v1],h,x⟩ K=(lS C gl [(0,v0),(1,v1)] h x K).1:=(lS C gl [(0,v0),(1,v1)] h x K).2
def z2f:ACode:=(.seq (rg [mV 2 cF] [0])
(.seq (rg [uO 3 (.bsl false none 4 (.int .i64 0) [(0,(cI 0)),(1,(cI 1)),(2,(cI 6)),(3,(cI 13))]),
mV 4 0,
cL 5 jH [3,4],
mV 2 5] [2])
.ret))
def NX:AFun:=⟨1,[.t 2],z2f,false,false⟩
def eS:Sf C gl z2f e h x K:=⟨_,by simp only[z2f,↓wZ,AO.still];rfl⟩
def z2a:ACode:=(.seq (rg [mV 6 cF] [0,1,2])
(.seq (rg [mV 7 1,
mV 8 0,
bN 9 .leq 7 8,
mV 10 9,
gD 11 10 true (.mv 0),
gD 12 10 true (.mv 2),
gD 13 10 true (.bin .leq 11 12),
uO 14 (.pick 10 13 cF),
mV 6 14] [6])
.ret))
def GX:AFun:=⟨3,[.t 6],z2a,false,false⟩
def aS:Sf C gl z2a e h x K:=⟨_,by simp only[z2a,↓wZ,AO.still];rfl⟩
def z2e:ACode:=(.seq (rg [uO 1 (.box 0),
mV 2 (cI 0)] [1])
(.seq (.block 0 (.seq (rg [fA 4 3 none 1,
lD 5 none 4,
bN 6 .eql 5 (cS []),
mV 3 6] [1,3])
(.cond 3 (.seq (rg [mV 2 (cI 8)] [2])
.ret)
(.seq (rg [fA 8 3 none 1,
lD 9 none 8,
cL 10 gH [9],
uO 11 (.un .not 10),
mV 7 11] [1,7])
(.cond 7 (.seq (rg [mV 2 (cI 9)] [2])
.ret)
(.seq (rg [fA 13 3 none 1,
lD 14 none 13,
uO 15 (.lens 14),
bN 16 .gtr 15 (cI 2000),
mV 12 16] [1,12])
(.cond 12 (.seq (rg [mV 2 (cI 2)] [2])
.ret)
(.seq (rg [fA 18 4 none 1,
lD 19 none 18,
bN 20 .neq 19 (cS []),
mV 21 20,
gD 22 21 true (.faddr 4 none 1),
gD 23 21 true (.load none 22),
gD 24 21 true (.lens 23),
gD 25 21 true (.faddr 3 none 1),
gD 26 21 true (.load none 25),
gD 27 21 true (.lens 26),
gD 28 21 true (.bin .neq 24 27),
gD 29 21 true (.mv 28),
gD 30 29 false (.faddr 5 none 1),
gD 31 29 false (.load none 30),
gD 32 29 false (.lens 31),
gD 33 29 false (.faddr 3 none 1),
gD 34 29 false (.load none 33),
gD 35 29 false (.lens 34),
gD 36 29 false (.bin .neq 32 35),
gD 37 21 true (.pick 29 cT 36),
uO 38 (.pick 21 37 cF),
mV 17 38] [1,17])
(.cond 17 (.seq (rg [mV 2 (cI 3)] [2])
.ret)
(.seq (rg [fA 40 4 none 1,
lD 41 none 40,
cL 42 gH [41],
uO 43 (.un .not 42),
mV 44 43,
gD 45 44 false (.faddr 5 none 1),
gD 46 44 false (.load none 45),
gD 47 44 false (.call gH [46]),
gD 48 44 false (.un .not 47),
uO 49 (.pick 44 cT 48),
mV 39 49] [1,39])
(.cond 39 (.seq (rg [mV 2 (cI 9)] [2])
.ret)
(.seq (rg [fA 51 4 none 1,
lD 52 none 51,
bN 53 .eql 52 (cS []),
mV 54 53,
gD 55 54 true (.faddr 5 none 1),
gD 56 54 true (.load none 55),
gD 57 54 true (.bin .neq 56 (cS [])),
uO 58 (.pick 54 57 cF),
mV 50 58] [50])
(.cond 50 (.seq (rg [mV 2 (cI 3)] [2])
.ret)
.skip)))))))))))))
(.seq (rg [mV 2 (cI 0)] [2])
.ret)))
def MX:AFun:=⟨1,[.t 2],z2e,false,false⟩
def AE:Sf C gl z2e e h x K:=⟨_,by simp only[z2e,↓wZ,AO.still];rfl⟩
def z2c:ACode:=.pr [0,1,2,6,7,8,9,10,11] (.seq (dr [dF (mV 54 0) [0],
dF (mV 55 1) [1],
dF (mV 56 11) [11],
dF (iA 57 none 56 (cI 0)) [56],
dF (lD 58 none 57) [57],
dT (cL 59 iH [54,55,58]) [54,55,58],
dF (uO 60 (.field 3 none 59)) [59],
dF (mV 61 0) [0],
dF (mV 62 1) [1],
dF (mV 63 11) [11],
dA (iA 64 none 63 (cI 1)) [63] false [5] [],
dA (lD 65 none 64) [64] false [5] [],
dT (cL 66 iH [61,62,65]) [61,62,65],
dF (uO 67 (.field 3 none 66)) [66],
dF (mV 68 0) [0],
dF (mV 69 1) [1],
dF (mV 70 11) [11],
dA (iA 71 none 70 (cI 2)) [70] false [5,12] [],
dA (lD 72 none 71) [71] false [5,12] [],
dT (cL 73 iH [68,69,72]) [68,69,72],
dF (uO 74 (.field 1 none 73)) [73],
dF (mV 12 60) [60],
dF (mV 13 67) [67],
dF (mV 14 74) [74]] [2,6,7,8,9,10,12,13,14])
(.seq (rg [mV 75 12,
fA 76 3 none 7,
lD 77 none 76,
bN 78 .add 75 77,
mV 79 13,
bN 80 .add 78 79,
mV 15 80] [2,6,7,8,9,10,12,14,15])
(.seq (rg [mV 81 2,
mV 82 9,
cL 83 WD [81,82],
mV 84 10,
mV 85 14,
cL 86 WD [84,85],
mV 16 83,
mV 17 86] [6,7,8,12,14,15,16,17])
(.seq (rg [mV 87 16,
mV 88 15,
uO 89 (.lens 88),
bN 90 .sub 89 (cI 1),
cL 91 DA [(cS [48]),90],
bN 92 .add 87 91,
bN 93 .add 92 (cS [49]),
mV 94 17,
bN 95 .add 93 94,
fA 96 0 none 8,
wO (.store none 96 95)] [6,7,8,12,14,15,16])
(.seq (rg [mV 97 16,
uO 98 (.lens 97),
cL 99 DA [(cS [48]),98],
mV 100 15,
bN 101 .add 99 100,
fA 102 1 none 8,
wO (.store none 102 101)] [6,7,8,12,14,16])
(.seq (rg [mV 103 16,
uO 104 (.lens 103),
mV 105 12,
uO 106 (.lens 105),
bN 107 .add 104 106,
fA 108 3 none 8,
wO (.store none 108 107)] [6,7,8,14])
(.seq (dr [dF (fA 109 3 none 8) [8],
dF (lD 110 none 109) [109],
dT (cL 111 DA [(cS [120]),110]) [110],
dA (lD 112 (some 6) 7) [7] false [2] [],
dT (cL 113 pL [112]) [112],
dF (bN 114 .add 111 113) [111,113],
dF (fA 115 2 none 8) [8],
dT (wO (.store none 115 114)) [115,114]] [6,8,14])
(rg [mV 116 14,
fA 117 4 none 8,
wO (.store none 117 116)] [6,8]))))))))
def TH (C:Hd)(gl:GL)(v0 v1 v2 v6 v7 v8 v9 v10 v11:AV)(h:aA)(x:Esc)(K:KT):Prop:=
 pK (VC none v11 (AI 0) h) λt1=>
 pK (AA none t1 h) λt2=>
 TB C iH [v0,v1,t2] h λt3 h4 y5=>
 pK (EI 3 none t3) λt6=>
 pK (VC none v11 (AI 1) h4) λt7=>
 (pK (VC none v11 (AI 1) h) λv=>(λu (g1:aA) (y1:Esc)=>u=t7/\g1=h/\y1=[]) v h [])/\(pK (AA none t7 h4) λt8=>
 (pK (AA none t7 h) λv=>(λu (g1:aA) (y1:Esc)=>u=t8/\g1=h/\y1=[]) v h [])/\(TB C iH [v0,v1,t8] h4 λt9 h10 y11=>
 pK (EI 3 none t9) λt12=>
 pK (VC none v11 (AI 2) h10) λt13=>
 (pK (VC none v11 (AI 2) h) λv=>(λu (g1:aA) (y1:Esc)=>u=t13/\g1=h/\y1=[]) v h [])/\((pK (VC none v11 (AI 2) h4) λv=>(λu (g1:aA) (y1:Esc)=>u=t13/\g1=h4/\y1=[]) v h4 [])/\(pK (AA none t13 h10) λt14=>
 (pK (AA none t13 h) λv=>(λu (g1:aA) (y1:Esc)=>u=t14/\g1=h/\y1=[]) v h [])/\((pK (AA none t13 h4) λv=>(λu (g1:aA) (y1:Esc)=>u=t14/\g1=h4/\y1=[]) v h4 [])/\(TB C iH [v0,v1,t14] h10 λt15 h16 y17=>
 pK (EI 1 none t15) λt18=>
 pK (FA 3 none v7) λt19=>
 pK (AA none t19 h16) λt20=>
 pK (zA .add t6 t20) λt21=>
 pK (zA .add t21 t12) λt22=>
 C WD [v2,v9] h16 λt23 h24 y25=>
 C WD [v10,t18] h24 λt26 h27 y28=>
 pK (KD t22) λt29=>
 pK (zA .sub t29 (AI 1)) λt30=>
 C DA [(.p (.str [48])),t30] h27 λt31 h32 y33=>
 pK (zA .add t23 t31) λt34=>
 pK (zA .add t34 (.p (.str [49]))) λt35=>
 pK (zA .add t35 t26) λt36=>
 pK (FA 0 none v8) λt37=>
 wK (lB none t37 t36 h32) λt38 h39 y40=>
 pK (KD t23) λt41=>
 C DA [(.p (.str [48])),t41] h39 λt42 h43 y44=>
 pK (zA .add t42 t22) λt45=>
 pK (FA 1 none v8) λt46=>
 wK (lB none t46 t45 h43) λt47 h48 y49=>
 pK (KD t23) λt50=>
 pK (KD t6) λt51=>
 pK (zA .add t50 t51) λt52=>
 pK (FA 3 none v8) λt53=>
 wK (lB none t53 t52 h48) λt54 h55 y56=>
 pK (FA 3 none v8) λt57=>
 pK (AA none t57 h55) λt58=>
 TB C DA [(.p (.str [120])),t58] h55 λt59 h60 y61=>
 pK (AA (some 6) v7 h60) λt62=>
 (pK (AA (some 6) v7 h55) λv=>(λu (g1:aA) (y1:Esc)=>u=t62/\g1=h55/\y1=[]) v h55 [])/\(TB C pL [t62] h60 λt63 h64 y65=>
 pK (zA .add t59 t63) λt66=>
 pK (FA 2 none v8) λt67=>
 wK (lB none t67 t66 h64) λt68 h69 y70=>
 pK (FA 4 none v8) λt71=>
 wK (lB none t71 t18 h69) λt72 h73 y74=>
 K .normal ⟨[(6,v6),(8,v8)],h73,(y74++(y70++(y65++(y61++(y56++(y49++(y44++(y40++(y33++(y28++(y25++(y17++(y11++(y5++x))))))))))))))⟩)))))))
theorem zh7 {C gl e h x K}:NW C gl z2c ⟨e,h,x⟩ K=TH C gl (eA e 0) (eA e 1) (eA e 2) (eA e 6) (eA e 7) (eA e 8) (eA e 9) (eA e 10) (eA e 11) h x K:=by kernel_rfl
def z4C (q1:ACode):ACode:=.pr [0,1,2,6,7,8,46] (.cond 46 (.seq (rg [uO 49 (.bsl false none 3 (.int .i64 0) [(0,(cI 3)),(1,(cI 4)),(2,(cI 1))]),
mV 9 (cI 11),
mV 10 (cI 12),
mV 11 49] [0,1,2,6,7,8,9,10,11])
(.seq (.seq (rg [fA 50 0 none 7,
lD 51 none 50,
bN 52 .eql 51 (cI 8)] [0,1,2,6,7,8,9,10,11,52])
(.cond 52 (rg [uO 53 (.bsl false none 3 (.int .i64 0) [(0,(cI 5)),(1,(cI 6)),(2,(cI 2))]),
mV 9 (cI 4),
mV 10 (cI 5),
mV 11 53] [0,1,2,6,7,8,9,10,11])
.skip))
q1))
.skip)
def AU:ACode:=z4C z2c
def RZ (C:Hd)(gl:GL)(q1:ACode)(v0 v1 v2 v6 v7 v8 v46:AV)(h:aA)(x:Esc)(K:KT):Prop:=
 iB v46 (wK (UC false none 3 (.int .i64 0) [(0,(AI 3)),(1,(AI 4)),(2,(AI 1))] h) λt1 h2 y3=>
 pK (FA 0 none v7) λt4=>
 pK (AA none t4 h2) λt5=>
 pK (zA .eql t5 (AI 8)) λt6=>
 iB t6 (wK (UC false none 3 (.int .i64 0) [(0,(AI 5)),(1,(AI 6)),(2,(AI 2))] h2) λt7 h8 y9=>
 NW C gl q1 ⟨[(0,v0),(1,v1),(2,v2),(6,v6),(7,v7),(8,v8),(9,(AI 4)),(10,(AI 5)),(11,t7)],h8,(y9++(y3++x))⟩ K)
 (NW C gl q1 ⟨[(0,v0),(1,v1),(2,v2),(6,v6),(7,v7),(8,v8),(9,(AI 11)),(10,(AI 12)),(11,t1),(52,t6)],h2,(y3++x)⟩ K))
 (K .normal ⟨[(0,v0),(1,v1),(2,v2),(6,v6),(7,v7),(8,v8),(46,v46)],h,x⟩)
theorem zbQ {C gl q1 e h x K}:NW C gl (z4C q1) ⟨e,h,x⟩ K=RZ C gl q1 (eA e 0) (eA e 1) (eA e 2) (eA e 6) (eA e 7) (eA e 8) (eA e 46) h x K:=by kernel_rfl
theorem zh8 {C gl e h x K}:NW C gl AU ⟨e,h,x⟩ K=RZ C gl z2c (eA e 0) (eA e 1) (eA e 2) (eA e 6) (eA e 7) (eA e 8) (eA e 46) h x K:=zbQ
def BU:ACode:=.pr [6,8] (.seq (dr [dF (fA 118 1 none 8) [8],
dF (lD 119 none 118) [118],
dF (fA 120 0 none 8) [8],
dF (lD 121 none 120) [120],
dF (uO 122 (.lens 121)) [121],
dF (fA 123 1 none 8) [8],
dF (lD 124 none 123) [123],
dF (uO 125 (.lens 124)) [124],
dF (bN 126 .sub 122 125) [122,125],
dA (cL 127 DA [(cS [48]),126]) [126] true [] [1],
dF (bN 128 .add 119 127) [119,127],
dF (fA 129 1 none 8) [8],
dT (wO (.store none 129 128)) [129,128]] [6,8])
(.seq (dr [dF (fA 130 2 none 8) [8],
dF (lD 131 none 130) [130],
dF (fA 132 0 none 8) [8],
dF (lD 133 none 132) [132],
dF (uO 134 (.lens 133)) [133],
dF (fA 135 2 none 8) [8],
dF (lD 136 none 135) [135],
dF (uO 137 (.lens 136)) [136],
dF (bN 138 .sub 134 137) [134,137],
dA (cL 139 DA [(cS [120]),138]) [138] true [] [1],
dF (bN 140 .add 131 139) [131,139],
dF (fA 141 2 none 8) [8],
dT (wO (.store none 141 140)) [141,140]] [6,8])
(.seq (rg [lD 142 (some 5) 8,
wO (.store (some 5) 6 142)] [6])
.ret)))
def WG (C:Hd)(gl:GL)(v6 v8:AV)(h:aA)(x:Esc)(K:KT):Prop:=
 pK (FA 1 none v8) λt1=>
 pK (AA none t1 h) λt2=>
 pK (FA 0 none v8) λt3=>
 pK (AA none t3 h) λt4=>
 pK (KD t4) λt5=>
 pK (FA 1 none v8) λt6=>
 pK (AA none t6 h) λt7=>
 pK (KD t7) λt8=>
 pK (zA .sub t5 t8) λt9=>
 TB C DA [(.p (.str [48])),t9] h λt10 h11 y12=>
 (pK (AA none t1 h11) λv=>(λu (g1:aA) (y1:Esc)=>u=t2/\g1=h11/\y1=[]) v h11 [])/\(pK (zA .add t2 t10) λt13=>
 pK (FA 1 none v8) λt14=>
 wK (lB none t14 t13 h11) λt15 h16 y17=>
 pK (FA 2 none v8) λt18=>
 pK (AA none t18 h16) λt19=>
 pK (FA 0 none v8) λt20=>
 pK (AA none t20 h16) λt21=>
 pK (KD t21) λt22=>
 pK (FA 2 none v8) λt23=>
 pK (AA none t23 h16) λt24=>
 pK (KD t24) λt25=>
 pK (zA .sub t22 t25) λt26=>
 TB C DA [(.p (.str [120])),t26] h16 λt27 h28 y29=>
 (pK (AA none t18 h28) λv=>(λu (g1:aA) (y1:Esc)=>u=t19/\g1=h28/\y1=[]) v h28 [])/\(pK (zA .add t19 t27) λt30=>
 pK (FA 2 none v8) λt31=>
 wK (lB none t31 t30 h28) λt32 h33 y34=>
 pK (AA (some 5) v8 h33) λt35=>
 wK (lB (some 5) v6 t35 h33) λt36 h37 y38=>
 K .ret ⟨[(6,v6)],h37,(y38++(y34++(y29++(y17++(y12++x)))))⟩))
theorem zh9 {C gl e h x K}:NW C gl BU ⟨e,h,x⟩ K=WG C gl (eA e 6) (eA e 8) h x K:=by kernel_rfl
def z4B (q2 q3:ACode):ACode:=(.seq (rg [uO 6 (.alloc [.p (.str []),.p (.str []),.p (.str []),.p (.int .i64 0),.p (.int .i64 0)])] [0,1,2,6])
(.seq (rg [mV 18 0,
mV 19 1,
iA 20 (some 6) 18 19,
lD 21 (some 6) 20,
uO 7 (.alloc [.p (.int .i64 0),.p (.int .i64 0),.p (.int .i64 0),.p (.str []),.p (.str []),.p (.str [])]),
wO (.store (some 6) 7 21)] [0,1,2,6,7])
(.seq (rg [mV 22 2,
uO 23 (.build [.p (.str []),.p (.str []),.p (.str []),.p (.int .i64 0),.p (.int .i64 0)] [(4,1,22)]),
uO 8 (.alloc [.p (.str []),.p (.str []),.p (.str []),.p (.int .i64 0),.p (.int .i64 0)]),
wO (.store (some 5) 8 23)] [0,1,2,6,7,8])
(.seq (.seq (rg [fA 24 0 none 7,
lD 25 none 24] [0,1,2,6,7,8,25])
(.block 0 (.seq (rg [bN 27 .eql 25 (cI 10),
mV 26 27] [0,1,2,6,7,8,25,26])
(.cond 26 (dr [dF (mV 28 2) [2],
dF (fA 29 1 none 7) [7],
dF (lD 30 none 29) [29],
dT (cL 31 WD [28,30]) [28,30],
dF (fA 32 1 none 7) [7],
dA (lD 33 none 32) [32] false [3] [],
dF (fA 34 0 none 8) [8],
dA (wO (.store none 34 31)) [34,31] true [] [5],
dF (fA 35 4 none 8) [8],
dT (wO (.store none 35 33)) [35,33]] [6,8])
(.seq (rg [bN 37 .eql 25 (cI 9),
mV 36 37] [0,1,2,6,7,8,25,36])
(.cond 36 (dr [dF (mV 38 2) [2],
dT (cL 39 WD [38,(cI 1)]) [38],
dF (fA 40 2 none 7) [7],
dA (lD 41 none 40) [40] false [1] [],
dT (cL 42 DA [(cS [48]),41]) [41],
dF (bN 43 .add 39 42) [39,42],
dF (fA 44 0 none 8) [8],
dT (wO (.store none 44 43)) [44,43],
dF (fA 45 4 none 8) [8],
dT (wO (.store none 45 (cI 1))) [45]] [6,8])
(.seq (.seq (rg [bN 47 .eql 25 (cI 7),
mV 46 47] [0,1,2,6,7,8,25,46])
(.cond 46 .skip
(rg [bN 48 .eql 25 (cI 8),
mV 46 48] [0,1,2,6,7,8,46])))
q2)))))))
q3))))
def KX:AFun:=⟨3,[.cell 6 (some 5)],z4B AU BU,false,false⟩
def SH (C:Hd)(gl:GL)(q2 q3:ACode)(v0 v1 v2:AV)(h:aA)(x:Esc)(K:KT):Prop:=
 alK [.p (.str []),.p (.str []),.p (.str []),.p (.int .i64 0),.p (.int .i64 0)] h λt1 h2 y3=>
 pK (VC (some 6) v0 v1 h2) λt4=>
 pK (AA (some 6) t4 h2) λt5=>
 alK [.p (.int .i64 0),.p (.int .i64 0),.p (.int .i64 0),.p (.str []),.p (.str []),.p (.str [])] h2 λt6 h7 y8=>
 wK (lB (some 6) t6 t5 h7) λt9 h10 y11=>
 pK (lC [.p (.str []),.p (.str []),.p (.str []),.p (.int .i64 0),.p (.int .i64 0)] [(4,1,v2)]) λt12=>
 alK [.p (.str []),.p (.str []),.p (.str []),.p (.int .i64 0),.p (.int .i64 0)] h10 λt13 h14 y15=>
 wK (lB (some 5) t13 t12 h14) λt16 h17 y18=>
 pK (FA 0 none t6) λt19=>
 pK (AA none t19 h17) λt20=>
 pK (zA .eql t20 (AI 10)) λt21=>
 iB t21 (pK (FA 1 none t6) λt22=>
 pK (AA none t22 h17) λt23=>
 TB C WD [v2,t23] h17 λt24 h25 y26=>
 pK (FA 1 none t6) λt27=>
 pK (AA none t27 h25) λt28=>
 (pK (AA none t27 h17) λv=>(λu (g1:aA) (y1:Esc)=>u=t28/\g1=h17/\y1=[]) v h17 [])/\(pK (FA 0 none t13) λt29=>
 wK (lB none t29 t24 h25) λt30 h31 y32=>
 (pK (AA none t27 h31) λv=>(λu (g1:aA) (y1:Esc)=>u=t28/\g1=h31/\y1=[]) v h31 [])/\(pK (FA 4 none t13) λt33=>
 wK (lB none t33 t28 h31) λt34 h35 y36=>
 NW C gl q3 ⟨[(6,t1),(8,t13)],h35,(y36++(y32++(y26++(y18++(y15++(y11++(y8++(y3++x))))))))⟩ K)))
 (pK (zA .eql t20 (AI 9)) λt37=>
 iB t37 (TB C WD [v2,(AI 1)] h17 λt38 h39 y40=>
 pK (FA 2 none t6) λt41=>
 pK (AA none t41 h39) λt42=>
 (pK (AA none t41 h17) λv=>(λu (g1:aA) (y1:Esc)=>u=t42/\g1=h17/\y1=[]) v h17 [])/\(TB C DA [(.p (.str [48])),t42] h39 λt43 h44 y45=>
 pK (zA .add t38 t43) λt46=>
 pK (FA 0 none t13) λt47=>
 wK (lB none t47 t46 h44) λt48 h49 y50=>
 pK (FA 4 none t13) λt51=>
 wK (lB none t51 (AI 1) h49) λt52 h53 y54=>
 NW C gl q3 ⟨[(6,t1),(8,t13)],h53,(y54++(y50++(y45++(y40++(y18++(y15++(y11++(y8++(y3++x)))))))))⟩ K))
 (pK (zA .eql t20 (AI 7)) λt55=>
 iB t55 (NW C gl q2 ⟨[(0,v0),(1,v1),(2,v2),(6,t1),(7,t6),(8,t13),(25,t20),(46,t55)],h17,(y18++(y15++(y11++(y8++(y3++x)))))⟩ (qC 0 (xD C gl q3 K)))
 (pK (zA .eql t20 (AI 8)) λt56=>
 NW C gl q2 ⟨[(0,v0),(1,v1),(2,v2),(6,t1),(7,t6),(8,t13),(46,t56)],h17,(y18++(y15++(y11++(y8++(y3++x)))))⟩ (qC 0 (xD C gl q3 K)))))
theorem zbP {C gl q2 q3 v0 v1 v2 h x K}:NW C gl (z4B q2 q3) ⟨enter [v0,v1,v2],h,x⟩ K=SH C gl q2 q3 v0 v1 v2 h x K:=by kernel_rfl
theorem zh6 {C gl v0 v1 v2 h x K}:NW C gl KX.body ⟨enter [v0,v1,v2],h,x⟩ K=SH C gl AU BU v0 v1 v2 h x K:=zbP
def z19:ACode:=(.seq (rg [mV 6 cF] [0,1,2])
(.seq (rg [mV 7 0,
mV 8 1,
bN 9 .lss 7 8,
mV 10 9,
gD 11 10 false (.mv 0),
gD 12 10 false (.mv 2),
gD 13 10 false (.bin .gtr 11 12),
uO 14 (.pick 10 cT 13),
mV 6 14] [6])
.ret))
def MQ:AFun:=⟨3,[.t 6],z19,false,false⟩
def ER:Sf C gl z19 e h x K:=⟨_,by simp only[z19,↓wZ,AO.still];rfl⟩
def rV:ACode:=.pr [2,4] (.seq (rg [lD 56 (some 6) 4,
wO (.store (some 6) 2 56),
mV 3 (cI 0)] [2,3])
.ret)
def z0u:Sf C gl rV e h x K:=⟨_,by simp only[rV,↓wZ,AO.still];rfl⟩
def ziV:=(z0u C gl e h x K).2
def z2V:ACode:=(.seq (rg [uO 1 (.box 0),
uO 2 (.alloc [.p (.int .i64 0),.p (.int .i64 0),.p (.int .i64 0),.p (.str []),.p (.str []),.p (.str [])]),
mV 3 (cI 0)] [1,2])
(.seq (rg [lD 5 (some 6) 1,
uO 4 (.alloc [.p (.int .i64 0),.p (.int .i64 0),.p (.int .i64 0),.p (.str []),.p (.str []),.p (.str [])]),
wO (.store (some 6) 4 5)] [1,2,4])
(.seq (.block 0 (.seq (rg [fA 18 0 none 1,
lD 19 none 18,
bN 20 .eql 19 (cI 1),
mV 21 20,
gD 22 21 false (.faddr 0 none 1),
gD 23 21 false (.load none 22),
gD 24 21 false (.bin .eql 23 (cI 2)),
uO 25 (.pick 21 cT 24),
mV 26 25,
gD 27 26 false (.faddr 0 none 1),
gD 28 26 false (.load none 27),
gD 29 26 false (.bin .eql 28 (cI 10)),
uO 30 (.pick 26 cT 29),
mV 17 30] [1,2,4,17])
(.cond 17 (.seq (rg [fA 31 1 none 4,
wO (.store none 31 (cI 0))] [1,2,4])
(.seq (rg [fA 32 1 none 1,
lD 33 none 32,
cL 34 DL [33],
uO 35 (.un .not 34)] [2,4,35])
(.cond 35 (.seq (rg [lD 36 (some 6) 4,
wO (.store (some 6) 2 36),
mV 3 (cI 1)] [2,3])
.ret)
.skip)))
(.seq (rg [fA 38 0 none 1,
lD 39 none 38,
bN 40 .eql 39 (cI 9),
mV 37 40] [1,2,4,37])
(.cond 37 (.seq (rg [fA 41 2 none 4,
wO (.store none 41 (cI 0))] [1,2,4])
(.seq (rg [fA 42 2 none 1,
lD 43 none 42,
cL 44 kC [43,(cI 0),(cI 20000)]] [2,4,44])
(.cond 44 (.seq (rg [lD 45 (some 6) 4,
wO (.store (some 6) 2 45),
mV 3 (cI 1)] [2,3])
.ret)
.skip)))
(.seq (rg [fA 47 0 none 1,
lD 48 none 47,
cL 49 bG [48],
mV 46 49] [1,2,4,46])
(.cond 46 (.seq (rg [fA 50 3 none 4,
wO (.store none 50 (cS [])),
fA 51 4 none 4,
wO (.store none 51 (cS [])),
fA 52 5 none 4,
wO (.store none 52 (cS []))] [1,2,4])
(.seq (dr [dF (lD 53 (some 6) 4) [4],
dF (lD 54 (some 6) 1) [1],
dA (cL 55 CL [54]) [54] true [] [0],
dT (wO (.store (some 6) 2 53)) [2,53],
dF (mV 3 55) [55]] [2,3])
.ret))
(.seq (rg [fA 6 3 none 4,
wO (.store none 6 (cS []))] [1,2,4])
(.seq (.seq (rg [fA 7 3 none 1,
lD 8 none 7,
cL 9 GE [8],
uO 10 (.un .not 9)] [1,2,4,10])
(.cond 10 (.seq (rg [lD 11 (some 6) 4,
wO (.store (some 6) 2 11),
mV 3 (cI 9)] [2,3])
.ret)
.skip))
(.seq (rg [fA 12 3 none 1,
lD 13 none 12,
uO 14 (.lens 13),
bN 15 .gtr 14 (cI 2000)] [2,4,15])
(.cond 15 (.seq (rg [lD 16 (some 6) 4,
wO (.store (some 6) 2 16),
mV 3 (cI 2)] [2,3])
.ret)
.skip)))))))))))
rV)))
def UQ:AFun:=⟨1,[.cell 2 (some 6),.t 3],z2V,false,false⟩
def DE:Sf C gl z2V e h x K:=⟨_,by simp only[z2V,↓wZ,AO.still];rfl⟩
def z3g:ACode:=(.seq (rg [uO 0 (.alloc [.p (.int .i64 0),.p (.int .i64 0),.p (.int .i64 0),.p (.str []),.p (.str []),.p (.str []),.p (.int .i64 0),.p (.int .i64 0),.p (.int .i64 0),.p (.str []),.p (.str []),.p (.str []),.p (.int .i64 0),.p (.int .i64 0),.p (.int .i64 0),.p (.str []),.p (.str []),.p (.str []),.p (.int .i64 0),.p (.int .i64 0),.p (.int .i64 0),.p (.str []),.p (.str []),.p (.str []),.p (.int .i64 0),.p (.int .i64 0),.p (.int .i64 0),.p (.str []),.p (.str []),.p (.str []),.p (.int .i64 0),.p (.int .i64 0),.p (.int .i64 0),.p (.str []),.p (.str []),.p (.str [])])] [0])
(.seq (rg [uO 1 (.build [.p (.int .i64 0),.p (.int .i64 0),.p (.int .i64 0),.p (.str []),.p (.str []),.p (.str [])] [(0,1,(cI 1)),(1,1,(cI 1))]),
uO 2 (.build [.p (.int .i64 0),.p (.int .i64 0),.p (.int .i64 0),.p (.str []),.p (.str []),.p (.str [])] [(0,1,(cI 2)),(1,1,(cI 1))]),
uO 3 (.build [.p (.int .i64 0),.p (.int .i64 0),.p (.int .i64 0),.p (.str []),.p (.str []),.p (.str [])] [(0,1,(cI 3))]),
uO 4 (.build [.p (.int .i64 0),.p (.int .i64 0),.p (.int .i64 0),.p (.str []),.p (.str []),.p (.str [])] [(0,1,(cI 4))]),
uO 5 (.build [.p (.int .i64 0),.p (.int .i64 0),.p (.int .i64 0),.p (.str []),.p (.str []),.p (.str [])] [(0,1,(cI 5))]),
uO 6 (.build [.p (.int .i64 0),.p (.int .i64 0),.p (.int .i64 0),.p (.str []),.p (.str []),.p (.str [])] [(0,1,(cI 6))]),
uO 7 (.build [.p (.int .i64 0),.p (.int .i64 0),.p (.int .i64 0),.p (.str []),.p (.str []),.p (.str []),.p (.int .i64 0),.p (.int .i64 0),.p (.int .i64 0),.p (.str []),.p (.str []),.p (.str []),.p (.int .i64 0),.p (.int .i64 0),.p (.int .i64 0),.p (.str []),.p (.str []),.p (.str []),.p (.int .i64 0),.p (.int .i64 0),.p (.int .i64 0),.p (.str []),.p (.str []),.p (.str []),.p (.int .i64 0),.p (.int .i64 0),.p (.int .i64 0),.p (.str []),.p (.str []),.p (.str []),.p (.int .i64 0),.p (.int .i64 0),.p (.int .i64 0),.p (.str []),.p (.str []),.p (.str [])] [(0,6,1),(6,6,2),(12,6,3),(18,6,4),(24,6,5),(30,6,6)]),
wO (.store (some 36) 0 7)] [0])
.ret))
def dR:AFun:=⟨0,[.cell 0 (some 36)],z3g,false,false⟩
def kT:Sf C gl z3g e h x K:=⟨_,by simp only[z3g,↓wZ,AO.still];rfl⟩
theorem zju {C gl h x K}:NW C gl dR.body ⟨enter [],h,x⟩ K=(kT C gl [] h x K).1:=(kT C gl [] h x K).2
def z2x:ACode:=(.seq (rg [mV 2 0,
uO 3 (.nilchk 2),
fA 4 0 none 3,
lD 5 none 4,
uO 6 (.isnil 0 false 5)] [0,6])
(.cond 6 (rg [mV 7 0,
mV 8 0,
uO 9 (.uns 1 115 [8]),
uO 10 (.uns 7 z6M [(.f z6M),9]),
uO 11 (.uns 1 115 [10]),
uO 12 (.nilchk 7),
fA 13 0 none 12,
wO (.store none 13 11)] [])
(.seq (rg [mV 14 0,
uO 15 (.nilchk 14),
fA 16 0 none 15,
lD 17 none 16,
mV 18 0,
uO 19 (.uns 2 0 [17,18])] [19])
(.cond 19 .bad
.skip))))
def dY:AFun:=⟨1,[],z2x,false,false⟩
def ZN:Sf C gl z2x e h x K:=⟨_,by simp only[z2x,↓wZ,AO.still];rfl⟩
def jM:ACode:=.pr [0,1,7,8] (.seq (rg [bN 9 .lss 8 7] [0,1,7,8,9])
(.seq (.cond 9 .skip
(.exit 0))
(.seq (.block 1 (.seq (rg [mV 10 8,
mV 5 10] [0,1,5,7,8])
(.seq (rg [mV 11 1,
mV 12 0,
mV 13 5,
uO 14 (.idxs 12 13),
cL 15 jP [11,14],
bN 16 .lss 15 (cI 0)] [0,1,7,8,16])
(.cond 16 (.seq (rg [mV 4 cF] [4])
.ret)
.skip))))
(rg [bN 17 .add 8 (cI 1),
mV 8 17] [0,1,7,8]))))
def PZ:Sf C gl jM e h x K:=⟨_,by simp only[jM,↓wZ,AO.still];rfl⟩
def zh4:=(PZ C gl e h x K).2
theorem zkV {C gl e h x K}:NW C gl (.loop jM) ⟨e,h,x⟩ K=UA C gl jM K [(0,eA e 0),(1,eA e 1),(7,eA e 7),(8,eA e 8)] h x:=EC
def zU:ACode:=.pr [] (.seq (rg [mV 4 cT] [4])
.ret)
def QZ:Sf C gl zU e h x K:=⟨_,by simp only[zU,↓wZ,AO.still];rfl⟩
def zh5:=(QZ C gl e h x K).2
def z2b:ACode:=(.seq (rg [mV 4 cF] [0,1])
(.seq (.seq (rg [mV 6 0,
uO 7 (.lens 6),
mV 8 (cI 0)] [0,1,7,8])
(.block 0 (.loop jM)))
zU))
def JX:AFun:=⟨2,[.t 4],z2b,false,false⟩
def bS:Sf C gl z2b e h x K:=⟨_,by simp only[z2b,↓wZ,AO.still];rfl⟩
def UL:ACode:=.pr [0,23,24] (.seq (rg [bN 25 .lss 24 23] [0,23,24,25])
(.seq (.cond 25 .skip
(.exit 0))
(.seq (.block 1 (.seq (rg [mV 26 24,
mV 3 26] [0,3,23,24])
(.seq (rg [mV 27 0,
mV 28 3,
uO 29 (.idxs 27 28),
mV 4 29] [0,4,23,24])
(.seq (rg [mV 30 4,
bN 31 .geq 30 (.c (.p (.int .u8 97))),
mV 32 31,
gD 33 32 true (.mv 4),
gD 34 32 true (.bin .leq 33 (.c (.p (.int .u8 122)))),
uO 35 (.pick 32 34 cF),
mV 36 35,
gD 37 36 false (.mv 4),
gD 38 36 false (.bin .geq 37 (.c (.p (.int .u8 48)))),
gD 39 36 false (.mv 38),
gD 40 39 true (.mv 4),
gD 41 39 true (.bin .leq 40 (.c (.p (.int .u8 57)))),
gD 42 36 false (.pick 39 41 cF),
uO 43 (.pick 36 cT 42),
mV 44 43,
gD 45 44 false (.mv 4),
gD 46 44 false (.bin .eql 45 (.c (.p (.int .u8 45)))),
uO 47 (.pick 44 cT 46),
mV 48 47,
gD 49 48 false (.mv 4),
gD 50 48 false (.bin .eql 49 (.c (.p (.int .u8 95)))),
uO 51 (.pick 48 cT 50),
uO 52 (.un .not 51)] [0,23,24,52])
(.cond 52 (.seq (rg [mV 2 cF] [2])
.ret)
.skip)))))
(rg [bN 53 .add 24 (cI 1),
mV 24 53] [0,23,24]))))
def nZ:Sf C gl UL e h x K:=⟨_,by simp only[UL,↓wZ,AO.still];rfl⟩
def zg5:=(nZ C gl e h x K).2
theorem zkI {C gl e h x K}:NW C gl (.loop UL) ⟨e,h,x⟩ K=UA C gl UL K [(0,eA e 0),(23,eA e 23),(24,eA e 24)] h x:=EC
def eU:ACode:=.pr [] (.seq (rg [mV 2 cT] [2])
.ret)
def oZ:Sf C gl eU e h x K:=⟨_,by simp only[eU,↓wZ,AO.still];rfl⟩
def zg6:=(oZ C gl e h x K).2
def z18:ACode:=(.seq (rg [mV 2 cF] [0])
(.seq (.seq (rg [mV 5 0,
bN 6 .eql 5 (cS []),
mV 7 6,
gD 8 7 false (.mv 0),
gD 9 7 false (.lens 8),
gD 10 7 false (.bin .gtr 9 (cI 40)),
uO 11 (.pick 7 cT 10),
mV 12 11,
gD 13 12 false (.mv 0),
gD 14 12 false (.idxs 13 (cI 0)),
gD 15 12 false (.bin .lss 14 (.c (.p (.int .u8 97)))),
uO 16 (.pick 12 cT 15),
mV 17 16,
gD 18 17 false (.mv 0),
gD 19 17 false (.idxs 18 (cI 0)),
gD 20 17 false (.bin .gtr 19 (.c (.p (.int .u8 122)))),
uO 21 (.pick 17 cT 20)] [0,21])
(.cond 21 (.seq (rg [mV 2 cF] [2])
.ret)
.skip))
(.seq (.seq (rg [mV 22 0,
uO 23 (.lens 22),
mV 24 (cI 0)] [0,23,24])
(.block 0 (.loop UL)))
eU)))
def LQ:AFun:=⟨1,[.t 2],z18,false,false⟩
def RH:Sf C gl z18 e h x K:=⟨_,by simp only[z18,↓wZ,AO.still];rfl⟩
def pV:ACode:=.pr [4] (.cond 4 (.seq (rg [mV 2 cT] [2])
.ret)
.skip)
def z0s:Sf C gl pV e h x K:=⟨_,by simp only[pV,↓wZ,AO.still];rfl⟩
def ziQ:=(z0s C gl e h x K).2
def qV:ACode:=.pr [] (.seq (rg [mV 2 cF] [2])
.ret)
def z0t:Sf C gl qV e h x K:=⟨_,by simp only[qV,↓wZ,AO.still];rfl⟩
def ziR:=(z0t C gl e h x K).2
def z2S:ACode:=(.seq (rg [mV 2 cF] [0])
(.seq (.seq (rg [mV 3 0] [3])
(.block 0 (.seq (.seq (rg [bN 5 .eql 3 (cI 1),
mV 4 5] [3,4])
(.cond 4 .skip
(.seq (rg [bN 6 .eql 3 (cI 3),
mV 4 6] [3,4])
(.cond 4 .skip
(.seq (rg [bN 7 .eql 3 (cI 4),
mV 4 7] [3,4])
(.cond 4 .skip
(rg [bN 8 .eql 3 (cI 7),
mV 4 8] [4])))))))
pV)))
qV))
def DY:AFun:=⟨1,[.t 2],z2S,false,false⟩
def YH:Sf C gl z2S e h x K:=⟨_,by simp only[z2S,↓wZ,AO.still];rfl⟩
def vV:ACode:=.pr [0,3,5,7,9,10,11,12,13,14,93,94] (rg [mV 126 0,
mV 127 13,
mV 128 10,
mV 129 12,
uO 130 (.idxs 128 129),
mV 131 14,
cL 132 kH [126,127,130,131]] [0,3,5,7,9,10,11,93,94])
def z0x:Sf C gl vV e h x K:=⟨_,by simp only[vV,↓wZ,AO.still];rfl⟩
def zjd:=(z0x C gl e h x K).2
def wV:ACode:=.pr [0,3,5,7,9,10,11,12,13,14,93,94] (.seq (.seq (rg [mV 102 12,
mV 103 5,
uO 104 (.lens 103),
bN 105 .sub 102 104,
mV 15 105] [0,3,5,7,9,10,11,12,13,14,15,93,94])
(.seq (rg [mV 106 15,
bN 107 .geq 106 (cI 0),
mV 108 107,
gD 109 108 true (.mv 15),
gD 110 108 true (.faddr 5 none 3),
gD 111 108 true (.load none 110),
gD 112 108 true (.lens 111),
gD 113 108 true (.bin .lss 109 112),
uO 114 (.pick 108 113 cF),
mV 115 114,
gD 116 115 true (.faddr 5 none 3),
gD 117 115 true (.load none 116),
gD 118 115 true (.mv 15),
gD 119 115 true (.idxs 117 118),
gD 120 115 true (.bin .eql 119 (.c (.p (.int .u8 49)))),
uO 121 (.pick 115 120 cF)] [0,3,5,7,9,10,11,12,13,14,15,93,94,121])
(.cond 121 (rg [fA 122 4 none 3,
lD 123 none 122,
mV 124 15,
uO 125 (.idxs 123 124),
mV 14 125] [0,3,5,7,9,10,11,12,13,14,93,94])
.skip)))
vV)
def z0y:Sf C gl wV e h x K:=⟨_,by simp only[wV,↓wZ,AO.still];rfl⟩
def zje:=(z0y C gl e h x K).2
def xV:ACode:=.pr [0,3,5,7,9,10,11,93,94] (rg [bN 133 .add 94 (cI 1),
mV 94 133] [0,3,5,7,9,10,11,93,94])
def z0z:Sf C gl xV e h x K:=⟨_,by simp only[xV,↓wZ,AO.still];rfl⟩
def zjf:=(z0z C gl e h x K).2
def JM:ACode:=.pr [0,3,5,7,9,10,11,93,94] (.seq (rg [bN 95 .lss 94 93] [0,3,5,7,9,10,11,93,94,95])
(.seq (.cond 95 .skip
(.exit 0))
(.seq (.block 1 (.seq (rg [mV 96 94,
mV 12 96] [0,3,5,7,9,10,11,12,93,94])
(.seq (rg [mV 13 (.c (.p (.int .u8 48))),
mV 14 (.c (.p (.int .u8 120)))] [0,3,5,7,9,10,11,12,13,14,93,94])
(.seq (.seq (rg [mV 97 12,
mV 98 10,
uO 99 (.lens 98),
bN 100 .sub 99 (cI 1),
bN 101 .eql 97 100] [0,3,5,7,9,10,11,12,13,14,93,94,101])
(.cond 101 (rg [mV 13 (.c (.p (.int .u8 49)))] [0,3,5,7,9,10,11,12,13,14,93,94])
.skip))
wV))))
xV)))
def z00:Sf C gl JM e h x K:=⟨_,by simp only[JM,↓wZ,AO.still];rfl⟩
def zjg:=(z00 C gl e h x K).2
theorem zly {C gl e h x K}:NW C gl (.loop JM) ⟨e,h,x⟩ K=UA C gl JM K [(0,eA e 0),(3,eA e 3),(5,eA e 5),(7,eA e 7),(9,eA e 9),(10,eA e 10),(11,eA e 11),(93,eA e 93),(94,eA e 94)] h x:=EC
def yV:ACode:=.pr [0,7,9,11] (.seq (rg [mV 134 0,
mV 135 9,
uO 136 (.nilchk 134),
fA 137 36 none 136,
wO (.store none 137 135)] [0,7,11])
(.seq (rg [mV 138 0,
mV 139 7,
cL 140 cG [138,139]] [11])
(.seq (rg [mV 141 11,
mV 4 141] [4])
.ret)))
def z01:Sf C gl yV e h x K:=⟨_,by simp only[yV,↓wZ,AO.still];rfl⟩
def zjh:=(z01 C gl e h x K).2
def zV:ACode:=.pr [0,3,5,7,9,10] (.seq (rg [mV 85 0,
uO 86 (.nilchk 85),
fA 87 37 none 86,
lD 88 none 87,
mV 89 5,
uO 90 (.lens 89),
bN 91 .add 88 90,
mV 11 91] [0,3,5,7,9,10,11])
(.seq (.seq (rg [mV 92 10,
uO 93 (.lens 92),
mV 94 (cI 0)] [0,3,5,7,9,10,11,93,94])
(.block 0 (.loop JM)))
yV))
def z02:Sf C gl zV e h x K:=⟨_,by simp only[zV,↓wZ,AO.still];rfl⟩
def zji:=(z02 C gl e h x K).2
def BV:ACode:=.pr [0,3,5,6,7,8,9] (.seq (rg [mV 55 0,
mV 56 8,
cL 57 cG [55,56]] [0,3,5,6,7,9])
(.seq (rg [mV 58 5,
fA 59 3 none 3,
lD 60 none 59,
bN 61 .add 58 60,
mV 62 6,
bN 63 .add 61 62,
mV 10 63] [0,3,5,7,9,10])
(.seq (.seq (rg [fA 64 0 none 3,
lD 65 none 64,
bN 66 .eql 65 (cI 7)] [0,3,5,7,9,10,66])
(.cond 66 (rg [mV 67 0,
uO 68 (.nilchk 67),
fA 69 38 none 68,
lD 70 none 69,
mV 71 10,
uO 72 (.lens 71),
bN 73 .add 70 72,
uO 74 (.nilchk 67),
fA 75 38 none 74,
wO (.store none 75 73)] [0,3,5,7,9,10])
(rg [mV 76 0,
uO 77 (.nilchk 76),
fA 78 39 none 77,
lD 79 none 78,
mV 80 10,
uO 81 (.lens 80),
bN 82 .add 79 81,
uO 83 (.nilchk 76),
fA 84 39 none 83,
wO (.store none 84 82)] [0,3,5,7,9,10])))
zV)))
def z03:Sf C gl BV e h x K:=⟨_,by simp only[BV,↓wZ,AO.still];rfl⟩
def zjj:=(z03 C gl e h x K).2
def z3a:ACode:=(.seq (rg [uO 3 (.box 1),
mV 4 (cI 0)] [0,3])
(.seq (dr [dF (mV 16 0) [0],
dF (uO 17 (.nilchk 16)) [16],
dF (fA 18 0 (some 36) 17) [17],
dF (fA 19 24 (some 6) 18) [18],
dF (fA 20 3 none 19) [19],
dF (lD 21 none 20) [20],
dF (mV 22 0) [0],
dF (uO 23 (.nilchk 22)) [22],
dF (fA 24 0 (some 36) 23) [23],
dF (fA 25 30 (some 6) 24) [24],
dF (fA 26 3 none 25) [25],
dF (lD 27 none 26) [26],
dF (mV 28 0) [0],
dF (uO 29 (.nilchk 28)) [28],
dF (fA 30 0 (some 36) 29) [29],
dF (fA 31 6 (some 6) 30) [30],
dF (fA 32 1 none 31) [31],
dF (lD 33 none 32) [32],
dF (mV 5 21) [21],
dF (mV 6 27) [27],
dF (mV 7 33) [33],
dF (mV 8 (cI 4)) [],
dF (mV 9 (cI 5)) []] [0,3,5,6,7,8,9])
(.seq (.seq (rg [fA 34 0 none 3,
lD 35 none 34,
bN 36 .eql 35 (cI 7)] [0,3,5,6,7,8,9,36])
(.cond 36 (dr [dF (mV 37 0) [0],
dF (uO 38 (.nilchk 37)) [37],
dF (fA 39 0 (some 36) 38) [38],
dF (fA 40 12 (some 6) 39) [39],
dF (fA 41 3 none 40) [40],
dF (lD 42 none 41) [41],
dF (mV 43 0) [0],
dF (uO 44 (.nilchk 43)) [43],
dF (fA 45 0 (some 36) 44) [44],
dF (fA 46 18 (some 6) 45) [45],
dF (fA 47 3 none 46) [46],
dF (lD 48 none 47) [47],
dF (mV 49 0) [0],
dF (uO 50 (.nilchk 49)) [49],
dF (fA 51 0 (some 36) 50) [50],
dF (fA 52 0 (some 6) 51) [51],
dF (fA 53 1 none 52) [52],
dF (lD 54 none 53) [53],
dF (mV 5 42) [42],
dF (mV 6 48) [48],
dF (mV 7 54) [54],
dF (mV 8 (cI 11)) [],
dF (mV 9 (cI 12)) []] [0,3,5,6,7,8,9])
.skip))
BV)))
def XQ:AFun:=⟨2,[.t 4],z3a,false,false⟩
def sO:Sf C gl z3a e h x K:=⟨_,by simp only[z3a,↓wZ,AO.still];rfl⟩
def KM:ACode:=.pr [0,1,4,17,18] (.seq (rg [bN 19 .lss 18 17] [0,1,4,17,18,19])
(.seq (.cond 19 .skip
(.exit 0))
(.seq (.block 1 (.seq (rg [mV 20 18,
mV 6 20] [0,1,4,6,17,18])
(rg [mV 21 0,
mV 22 4,
mV 23 6,
uO 24 (.idxs 22 23),
cL 25 kH [21,24,(.c (.p (.int .u8 48))),(.c (.p (.int .u8 120)))]] [0,1,4,17,18])))
(rg [bN 26 .add 18 (cI 1),
mV 18 26] [0,1,4,17,18]))))
def z04:Sf C gl KM e h x K:=⟨_,by simp only[KM,↓wZ,AO.still];rfl⟩
def zjo:=(z04 C gl e h x K).2
theorem zl0 {C gl e h x K}:NW C gl (.loop KM) ⟨e,h,x⟩ K=UA C gl KM K [(0,eA e 0),(1,eA e 1),(4,eA e 4),(17,eA e 17),(18,eA e 18)] h x:=EC
def CV:ACode:=.pr [0,1] (rg [mV 27 0,
mV 28 1,
uO 29 (.nilchk 27),
fA 30 36 none 29,
wO (.store none 30 28)] [])
def z05:Sf C gl CV e h x K:=⟨_,by simp only[CV,↓wZ,AO.still];rfl⟩
def zjp:=(z05 C gl e h x K).2
def z3b:ACode:=(.seq (rg [mV 8 0,
uO 9 (.nilchk 8),
fA 10 36 none 9,
lD 11 none 10,
mV 12 1,
cL 13 vL [11,12],
mV 7 13,
eX 14 7 0,
eX 15 7 1,
mV 4 14,
mV 5 15] [0,1,4])
(.seq (.seq (rg [mV 16 4,
uO 17 (.lens 16),
mV 18 (cI 0)] [0,1,4,17,18])
(.block 0 (.loop KM)))
CV))
def ZQ:AFun:=⟨2,[],z3b,false,false⟩
def iT:Sf C gl z3b e h x K:=⟨_,by simp only[z3b,↓wZ,AO.still];rfl⟩
def z2Z:ACode:=(.seq (rg [mV 8 0,
uO 9 (.nilchk 8),
fA 10 37 none 9,
lD 11 none 10,
bN 12 .add 11 (cI 1),
uO 13 (.nilchk 8),
fA 14 37 none 13,
wO (.store none 14 12)] [0,1,2,3])
(.seq (rg [mV 15 0,
uO 16 (.nilchk 15),
fA 17 45 none 16,
lD 18 none 17] [0,1,2,3,18])
(.cond 18 (dr [dF (mV 19 0) [0],
dF (mV 20 0) [0],
dF (mV 21 0) [0],
dF (mV 22 0) [0],
dF (uO 23 (.nilchk 22)) [22],
dF (fA 24 42 none 23) [23],
dF (lD 25 none 24) [24],
dF (mV 26 1) [1],
dF (uO 27 (.bsl false none 1 (.int .u8 0) [(0,26)])) [26],
dT (uO 28 (.app none 25 27)) [25,27],
dF (mV 29 0) [0],
dF (uO 30 (.nilchk 29)) [29],
dF (fA 31 43 none 30) [30],
dA (lD 32 none 31) [31] false [9] [],
dF (mV 33 2) [2],
dA (uO 34 (.bsl false none 1 (.int .u8 0) [(0,33)])) [33] false [9] [],
dT (uO 35 (.app none 32 34)) [32,34],
dF (mV 36 0) [0],
dF (uO 37 (.nilchk 36)) [36],
dF (fA 38 44 none 37) [37],
dA (lD 39 none 38) [38] false [9,16] [],
dF (mV 40 3) [3],
dA (uO 41 (.bsl false none 1 (.int .u8 0) [(0,40)])) [40] false [9,16] [],
dT (uO 42 (.app none 39 41)) [39,41],
dF (uO 43 (.nilchk 19)) [19],
dF (fA 44 42 none 43) [43],
dT (wO (.store none 44 28)) [44,28],
dF (uO 45 (.nilchk 20)) [20],
dF (fA 46 43 none 45) [45],
dT (wO (.store none 46 35)) [46,35],
dF (uO 47 (.nilchk 21)) [21],
dF (fA 48 44 none 47) [47],
dT (wO (.store none 48 42)) [48,42]] [])
.skip)))
def WQ:AFun:=⟨4,[],z2Z,false,false⟩
def rO:Sf C gl z2Z e h x K:=⟨_,by simp only[z2Z,↓wZ,AO.still];rfl⟩
def z29:ACode:=(.seq (rg [uO 2 (.box 0),
mV 4 (cI 0)] [1,2])
(.seq (.block 0 (.seq (rg [fA 6 0 none 2,
lD 7 none 6,
cL 8 VD [7],
uO 9 (.un .not 8),
mV 5 9] [1,2,5])
(.cond 5 (.seq (rg [mV 4 (cI 5)] [4])
.ret)
(.seq (rg [mV 11 1,
uO 12 (.mkfn qP [2]),
cL 13 WO [11,12],
mV 10 13] [2,10])
(.cond 10 (.seq (rg [mV 4 (cI 6)] [4])
.ret)
(.seq (rg [fA 15 1 none 2,
lD 16 none 15,
cL 17 kC [16,(cI 2),(cI 32)],
mV 18 17,
gD 19 18 false (.faddr 2 none 2),
gD 20 18 false (.load none 19),
gD 21 18 false (.call kC [20,(cI 0),(cI 4294967295)]),
uO 22 (.pick 18 cT 21),
mV 14 22] [2,14])
(.cond 14 (.seq (rg [mV 4 (cI 1)] [4])
.ret)
(.seq (rg [fA 24 2 none 2,
lD 25 none 24,
bN 26 .neq 25 (cI 0),
mV 27 26,
gD 28 27 true (.faddr 2 none 2),
gD 29 27 true (.load none 28),
gD 30 27 true (.bin .rem 29 (cI 2)),
gD 31 27 true (.bin .eql 30 (cI 0)),
uO 32 (.pick 27 31 cF),
mV 23 32] [2,23])
(.cond 23 (.seq (rg [mV 4 (cI 3)] [4])
.ret)
(.seq (rg [fA 34 3 none 2,
lD 35 none 34,
lN 36 35,
bN 37 .gtr 36 (cI 10),
mV 38 37,
gD 39 38 false (.faddr 4 none 2),
gD 40 38 false (.load none 39),
gD 41 38 false (.len 40),
gD 42 38 false (.bin .gtr 41 (cI 100)),
uO 43 (.pick 38 cT 42),
mV 33 43] [2,33])
(.cond 33 (.seq (rg [mV 4 (cI 2)] [4])
.ret)
.skip)))))))))))
(.seq (dr [dF (lD 44 (some 5) 2) [2],
dT (cL 45 vP [44]) [44],
dA (lD 46 (some 5) 2) [2] false [1] [],
dT (cL 47 rP [46]) [46],
dF (uO 48 (.bsl false none 2 (.int .i64 0) [(0,45),(1,47)])) [45,47],
dT (cL 49 kI [48]) [48],
dF (mV 4 49) [49]] [4])
.ret)))
def nY:AFun:=⟨2,[.t 4],z29,false,false⟩
def CE:Sf C gl z29 e h x K:=⟨_,by simp only[z29,↓wZ,AO.still];rfl⟩
def UJ:ACode:=.pr [5,8,18,19,20,38,39,40] (.seq (rg [bN 41 .lss 40 39] [5,8,18,19,20,38,39,40,41])
(.seq (.cond 41 .skip
(.exit 2))
(.seq (.block 3 (.seq (rg [iA 42 (some 2) 38 40,
lD 43 (some 2) 42,
uO 10 (.alloc [.p (.str []),.p (.int .i64 0)]),
wO (.store (some 2) 10 43)] [5,8,10,18,19,20,38,39,40])
(.seq (dr [dF (mV 44 8) [8],
dF (uO 45 (.nilchk 44)) [44],
dF (fA 46 7 none 45) [45],
dF (lD 47 none 46) [46],
dF (fA 48 0 none 10) [10],
dF (lD 49 none 48) [48],
dF (fA 50 1 none 10) [10],
dF (lD 51 none 50) [50],
dA (cL 52 DA [(cS [48]),51]) [51] true [] [3,5],
dT (wO (.mupd (none,[2]) 47 49 52)) [47,49,52]] [5,8,10,18,19,20,38,39,40])
(dr [dF (mV 53 8) [8],
dF (uO 54 (.nilchk 53)) [53],
dF (fA 55 8 none 54) [54],
dF (lD 56 none 55) [55],
dF (fA 57 0 none 10) [10],
dF (lD 58 none 57) [57],
dF (mV 59 8) [8],
dF (uO 60 (.nilchk 59)) [59],
dF (fA 61 7 none 60) [60],
dF (lD 62 none 61) [61],
dF (fA 63 0 none 10) [10],
dF (lD 64 none 63) [63],
dF (uO 65 (.look (none,[2]) false (.p (.str [])) 62 64)) [62,64],
dT (wO (.mupd (none,[2]) 56 58 65)) [56,58,65]] [5,8,18,19,20,38,39,40]))))
(rg [bN 66 .add 40 (cI 1),
mV 40 66] [5,8,18,19,20,38,39,40]))))
def UH:Sf C gl UJ e h x K:=⟨_,by simp only[UJ,↓wZ,AO.still];rfl⟩
def zO:=(UH C gl e h x K).2
theorem zlh {C gl e h x K}:NW C gl (.loop (.scope UJ)) ⟨e,h,x⟩ K=UA C gl (.scope UJ) K [(5,eA e 5),(8,eA e 8),(18,eA e 18),(19,eA e 19),(20,eA e 20),(38,eA e 38),(39,eA e 39),(40,eA e 40)] h x:=jC
def QU:ACode:=.pr [5,8,18,19,20] (rg [mV 67 5,
mV 68 5,
uO 69 (.nilchk 68),
fA 70 1 none 69,
lD 71 none 70,
mV 72 8,
uO 73 (.uns 9 0 [72]),
uO 74 (.uns 11 0 [71,73]),
uO 75 (.nilchk 67),
fA 76 1 none 75,
wO (.store none 76 74)] [5,18,19,20])
def aO:Sf C gl QU e h x K:=⟨_,by simp only[QU,↓wZ,AO.still];rfl⟩
def z0D:=(aO C gl e h x K).2
def RU:ACode:=.pr [5,18,19,20] (rg [bN 77 .add 20 (cI 1),
mV 20 77] [5,18,19,20])
def bO:Sf C gl RU e h x K:=⟨_,by simp only[RU,↓wZ,AO.still];rfl⟩
def z0E:=(bO C gl e h x K).2
def vM:ACode:=.pr [5,18,19,20] (.seq (rg [bN 21 .lss 20 19] [5,18,19,20,21])
(.seq (.cond 21 .skip
(.exit 0))
(.seq (.block 1 (.seq (rg [iA 22 (some 5) 18 20,
lD 23 (some 5) 22,
uO 7 (.alloc [.p (.str []),.p (.int .i64 0),.p (.int .i64 0),.sl0 (some 2),.sl0 (some 2)]),
wO (.store (some 5) 7 23)] [5,7,18,19,20])
(.seq (dr [dF (fA 24 3 none 7) [7],
dF (lD 25 none 24) [24],
dT (cL 26 UO [25]) [25],
dF (fA 27 4 none 7) [7],
dA (lD 28 none 27) [27] false [2] [],
dT (cL 29 TO [28]) [28],
dF (fA 30 3 none 7) [7],
dT (wO (.store none 30 26)) [30,26],
dF (fA 31 4 none 7) [7],
dT (wO (.store none 31 29)) [31,29]] [5,7,18,19,20])
(.seq (rg [lD 32 (some 5) 7,
uO 33 (.mkmap),
uO 34 (.mkmap),
uO 35 (.build [.p (.str []),.p (.int .i64 0),.p (.int .i64 0),.sl0 (some 2),.sl0 (some 2),.p (.str []),.p (.str []),.nilm,.nilm] [(0,5,32),(6,1,(cS [48])),(7,1,33),(8,1,34)]),
uO 36 (.uns 12 0 [35]),
mV 8 36] [5,7,8,18,19,20])
(.seq (.seq (rg [fA 37 3 none 7,
lD 38 none 37,
lN 39 38,
mV 40 (cI 0)] [5,8,18,19,20,38,39,40])
(.block 2 (.loop (.scope UJ))))
QU)))))
RU)))
def NK:Sf C gl vM e h x K:=⟨_,by simp only[vM,↓wZ,AO.still];rfl⟩
def uT:=(NK C gl e h x K).2
theorem zli {C gl e h x K}:NW C gl (.loop (.scope vM)) ⟨e,h,x⟩ K=UA C gl (.scope vM) K [(5,eA e 5),(18,eA e 18),(19,eA e 19),(20,eA e 20)] h x:=jC
def SU:ACode:=.pr [5] (.seq (rg [mV 78 5,
mV 2 78,
mV 3 (cI 0)] [2,3])
.ret)
def cO:Sf C gl SU e h x K:=⟨_,by simp only[SU,↓wZ,AO.still];rfl⟩
def z0F:=(cO C gl e h x K).2
def z26:ACode:=(.seq (rg [mV 2 (.c (.nilp)),
mV 3 (cI 0)] [0])
(.seq (.seq (rg [mV 11 0,
cL 12 qI [11],
mV 4 12] [0,4])
(.seq (rg [mV 13 4,
bN 14 .neq 13 (cI 0)] [0,4,14])
(.cond 14 (.seq (rg [mV 15 4,
mV 2 (.c (.nilp)),
mV 3 15] [2,3])
.ret)
.skip)))
(.seq (rg [uO 16 (.build [.p (.int .i64 0),.sl0 none] [(0,1,(cI 0))]),
uO 17 (.uns 12 1 [16]),
mV 5 17] [0,5])
(.seq (.seq (rg [mV 18 0,
lN 19 18,
mV 20 (cI 0)] [5,18,19,20])
(.block 0 (.loop (.scope vM))))
SU))))
def lY:AFun:=⟨1,[.t 2,.t 3],z26,false,false⟩
def GS:Sf C gl z26 e h x K:=⟨_,by simp only[z26,↓wZ,AO.still];rfl⟩
def z16:ACode:=(.seq (rg [mV 2 cF] [0])
(.seq (rg [mV 3 0,
cL 4 kP [3,(cS [48,49])],
bN 5 .eql 4 (cS []),
mV 2 5] [2])
.ret))
def JQ:AFun:=⟨1,[.t 2],z16,false,false⟩
def BR:Sf C gl z16 e h x K:=⟨_,by simp only[z16,↓wZ,AO.still];rfl⟩
def tM:ACode:=.pr [0,1,7,17,18,19] (.seq (rg [bN 20 .lss 19 18] [0,1,7,17,18,19,20])
(.seq (.cond 20 .skip
(.exit 0))
(.seq (.block 1 (.seq (rg [iA 21 none 17 19,
lD 22 none 21,
mV 9 22] [0,1,7,9,17,18,19])
(rg [mV 23 0,
mV 24 9,
mV 25 7,
cL 26 lP [23,24,25],
mV 7 26] [0,1,7,17,18,19])))
(rg [bN 27 .add 19 (cI 1),
mV 19 27] [0,1,7,17,18,19]))))
def z0e:Sf C gl tM e h x K:=⟨_,by simp only[tM,↓wZ,AO.still];rfl⟩
def zim:=(z0e C gl e h x K).2
theorem zlf {C gl e h x K}:NW C gl (.loop tM) ⟨e,h,x⟩ K=UA C gl tM K [(0,eA e 0),(1,eA e 1),(7,eA e 7),(17,eA e 17),(18,eA e 18),(19,eA e 19)] h x:=EC
def NU:ACode:=.pr [0,1,10] (.seq (rg [mV 43 0,
mV 44 0,
uO 45 (.nilchk 44),
fA 46 0 none 45,
lD 47 none 46,
mV 48 1,
cL 49 BF [47,48],
uO 50 (.nilchk 43),
fA 51 0 none 50,
wO (.store none 51 49)] [10])
(.seq (rg [mV 52 10,
mV 6 52] [6])
.ret))
def tJ:Sf C gl NU e h x K:=⟨_,by simp only[NU,↓wZ,AO.still];rfl⟩
def xO:=(tJ C gl e h x K).2
def OU:ACode:=.pr [0,1,7] (.seq (rg [mV 10 (cI (-1))] [0,1,7,10])
(.seq (.seq (rg [mV 28 0,
uO 29 (.nilchk 28),
fA 30 0 none 29,
lD 31 none 30,
bN 32 .eql 31 (cI 4),
mV 33 32,
gD 34 33 false (.mv 0),
gD 35 33 false (.nilchk 34),
gD 36 33 false (.faddr 0 none 35),
gD 37 33 false (.load none 36),
gD 38 33 false (.bin .eql 37 (cI 11)),
uO 39 (.pick 33 cT 38)] [0,1,7,10,39])
(.cond 39 (rg [mV 40 7,
bN 41 .sub 40 (.c (.p (.int .u8 48))),
uO 42 (.conv (.i .i64) 41),
mV 10 42] [0,1,10])
.skip))
NU))
def uJ:Sf C gl OU e h x K:=⟨_,by simp only[OU,↓wZ,AO.still];rfl⟩
def yO:=(uJ C gl e h x K).2
def z24:ACode:=(.seq (rg [mV 6 (cI 0)] [0,1,2])
(.seq (rg [mV 11 2,
bN 12 .add (cI 48) 11,
uO 13 (.conv (.i .u8) 12),
mV 7 13] [0,1,7])
(.seq (.seq (rg [mV 14 0,
uO 15 (.nilchk 14),
fA 16 1 none 15,
lD 17 none 16,
lN 18 17,
mV 19 (cI 0)] [0,1,7,17,18,19])
(.block 0 (.loop tM)))
OU)))
def jY:AFun:=⟨3,[.t 6],z24,false,false⟩
def ES:Sf C gl z24 e h x K:=⟨_,by simp only[z24,↓wZ,AO.still];rfl⟩
def z1B:ACode:=(.seq (rg [mV 4 (cI 0)] [0,1])
(.seq (rg [mV 5 0,
mV 6 1,
cL 7 jI [5,6],
mV 4 7] [4])
.ret))
def iX:AFun:=⟨2,[.t 4],z1B,false,false⟩
def PN:Sf C gl z1B e h x K:=⟨_,by simp only[z1B,↓wZ,AO.still];rfl⟩
def rM:ACode:=.pr [0,1,7,8] (.seq (rg [bN 9 .lss 8 7] [0,1,7,8,9])
(.seq (.cond 9 .skip
(.exit 0))
(.seq (.block 1 (.seq (rg [mV 10 8,
mV 5 10] [0,1,5,7,8])
(.seq (rg [mV 11 1,
mV 12 0,
mV 13 5,
iA 14 (some 2) 12 13,
lD 15 (some 2) 14,
uO 16 (.callv 11 [15])] [0,1,5,7,8,16])
(.cond 16 (.seq (rg [mV 17 5,
mV 4 17] [4])
.ret)
.skip))))
(rg [bN 18 .add 8 (cI 1),
mV 8 18] [0,1,7,8]))))
def z0a:Sf C gl rM e h x K:=⟨_,by simp only[rM,↓wZ,AO.still];rfl⟩
def zhZ:=(z0a C gl e h x K).2
theorem zld {C gl e h x K}:NW C gl (.loop rM) ⟨e,h,x⟩ K=UA C gl rM K [(0,eA e 0),(1,eA e 1),(7,eA e 7),(8,eA e 8)] h x:=EC
def JU:ACode:=.pr [] (.seq (rg [mV 4 (cI (-1))] [4])
.ret)
def z0b:Sf C gl JU e h x K:=⟨_,by simp only[JU,↓wZ,AO.still];rfl⟩
def zia:=(z0b C gl e h x K).2
def z2t:ACode:=(.seq (rg [mV 4 (cI 0)] [0,1])
(.seq (.seq (rg [mV 6 0,
lN 7 6,
mV 8 (cI 0)] [0,1,7,8])
(.block 0 (.loop rM)))
JU))
def aY:AFun:=⟨2,[.t 4],z2t,true,false⟩
def xS:Sf C gl z2t e h x K:=⟨_,by simp only[z2t,↓wZ,AO.still];rfl⟩
theorem zhY {C gl v0 v1 h x K}:NW C gl aY.body ⟨enter [v0,v1],h,x⟩ K=(xS C gl [(0,v0),(1,v1)] h x K).1:=(xS C gl [(0,v0),(1,v1)] h x K).2
def z2y:ACode:=(.seq (rg [mV 4 cF] [0,1])
(.seq (rg [mV 5 0,
mV 6 1,
cL 7 iP [5,6],
bN 8 .geq 7 (cI 0),
mV 4 8] [4])
.ret))
def eY:AFun:=⟨2,[.t 4],z2y,false,false⟩
def BS:Sf C gl z2y e h x K:=⟨_,by simp only[z2y,↓wZ,AO.still];rfl⟩
def z2k:ACode:=(.seq (rg [mV 4 cF] [0,1])
(.seq (rg [mV 5 0,
mV 6 1,
cL 7 dP [5,6],
bN 8 .geq 7 (cI 0),
mV 4 8] [4])
.ret))
def SX:AFun:=⟨2,[.t 4],z2k,true,false⟩
def kS:Sf C gl z2k e h x K:=⟨_,by simp only[z2k,↓wZ,AO.still];rfl⟩
theorem zhJ {C gl v0 v1 h x K}:NW C gl SX.body ⟨enter [v0,v1],h,x⟩ K=(kS C gl [(0,v0),(1,v1)] h x K).1:=(kS C gl [(0,v0),(1,v1)] h x K).2
def z2m:ACode:=(.seq (rg [mV 4 cF] [0,1])
(.seq (rg [mV 5 0,
mV 6 1,
cL 7 uL [5,6],
bN 8 .geq 7 (cI 0),
mV 4 8] [4])
.ret))
def NQ:AFun:=⟨2,[.t 4],z2m,true,false⟩
def nS:Sf C gl z2m e h x K:=⟨_,by simp only[z2m,↓wZ,AO.still];rfl⟩
theorem zhL {C gl v0 v1 h x K}:NW C gl NQ.body ⟨enter [v0,v1],h,x⟩ K=(nS C gl [(0,v0),(1,v1)] h x K).1:=(nS C gl [(0,v0),(1,v1)] h x K).2
def z1T:ACode:=(.seq (rg [mV 4 (cI 0)] [0,1])
(.seq (rg [uO 5 (.build [.p (.int .i64 0),.p (.int .i64 0)] [(0,1,(cI 1)),(1,1,(cI 0))]),
uO 6 (.build [.p (.int .i64 0),.p (.int .i64 0)] [(0,1,(cI 1)),(1,1,(cI 2))]),
uO 7 (.build [.p (.int .i64 0),.p (.int .i64 0)] [(0,1,(cI 3)),(1,1,(cI 9))]),
uO 8 (.build [.p (.int .i64 0),.p (.int .i64 0)] [(0,1,(cI 4)),(1,1,(cI 5))]),
uO 9 (.build [.p (.int .i64 0),.p (.int .i64 0)] [(0,1,(cI 4)),(1,1,(cI 5))]),
uO 10 (.build [.p (.int .i64 0),.p (.int .i64 0)] [(0,1,(cI 6)),(1,1,(cI 8))]),
uO 11 (.build [.p (.int .i64 0),.p (.int .i64 0)] [(0,1,(cI 6)),(1,1,(cI 7))]),
uO 12 (.build [.p (.int .i64 0),.p (.int .i64 0)] [(0,1,(cI 4)),(1,1,(cI 8))]),
uO 13 (.build [.p (.int .i64 0),.p (.int .i64 0)] [(0,1,(cI 1)),(1,1,(cI 2))]),
uO 14 (.build [.p (.int .i64 0),.p (.int .i64 0)] [(0,1,(cI 10)),(1,1,(cI 0))]),
uO 15 (.build [.p (.int .i64 0),.p (.int .i64 0)] [(0,1,(cI 11)),(1,1,(cI 12))]),
uO 16 (.build [.p (.int .i64 0),.p (.int .i64 0)] [(0,1,(cI 11)),(1,1,(cI 12))]),
uO 17 (.build [.p (.int .i64 0),.p (.int .i64 0)] [(0,1,(cI 13)),(1,1,(cI 15))]),
uO 18 (.build [.p (.int .i64 0),.p (.int .i64 0)] [(0,1,(cI 13)),(1,1,(cI 14))]),
uO 19 (.build [.p (.int .i64 0),.p (.int .i64 0)] [(0,1,(cI 11)),(1,1,(cI 15))]),
uO 20 (.build [.p (.int .i64 0),.p (.int .i64 0)] [(0,1,(cI 1)),(1,1,(cI 2))]),
uO 21 (.build [.p (.int .i64 0),.p (.int .i64 0),.p (.int .i64 0),.p (.int .i64 0),.p (.int .i64 0),.p (.int .i64 0),.p (.int .i64 0),.p (.int .i64 0),.p (.int .i64 0),.p (.int .i64 0),.p (.int .i64 0),.p (.int .i64 0),.p (.int .i64 0),.p (.int .i64 0),.p (.int .i64 0),.p (.int .i64 0),.p (.int .i64 0),.p (.int .i64 0),.p (.int .i64 0),.p (.int .i64 0),.p (.int .i64 0),.p (.int .i64 0),.p (.int .i64 0),.p (.int .i64 0),.p (.int .i64 0),.p (.int .i64 0),.p (.int .i64 0),.p (.int .i64 0),.p (.int .i64 0),.p (.int .i64 0),.p (.int .i64 0),.p (.int .i64 0)] [(0,2,5),(2,2,6),(4,2,7),(6,2,8),(8,2,9),(10,2,10),(12,2,11),(14,2,12),(16,2,13),(18,2,14),(20,2,15),(22,2,16),(24,2,17),(26,2,18),(28,2,19),(30,2,20)]),
mV 22 0,
uO 23 (.idxa 16 (some 2) 21 22),
mV 24 1,
uO 25 (.idxa 2 none 23 24),
mV 4 25] [4])
.ret))
def AX:AFun:=⟨2,[.t 4],z1T,false,false⟩
def WR:Sf C gl z1T e h x K:=⟨_,by simp only[z1T,↓wZ,AO.still];rfl⟩
end
end Go.Am
