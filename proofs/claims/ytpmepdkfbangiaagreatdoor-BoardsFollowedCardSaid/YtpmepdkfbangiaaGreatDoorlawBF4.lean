/- Texts of the proof, laid together: AmS, CodesA, CodesB. -/
import Derived.KernelRfl
import Derived.Test.YtpmepdkfbangiaaGreatDoorlawBF3
set_option linter.all false
section
/- Short words for the printed code. -/
set_option linter.all false
namespace Go.Am
instance {n:Nat}:OfNat Opd n:=⟨.t n⟩
abbrev GL:=Nat→Option PV
abbrev KT:=Ex→St→Prop
def cI (n:Int):Opd:=.c (.p (.int .i64 n))
def cT:Opd:=.c (.p (.bool true))
def cF:Opd:=.c (.p (.bool false))
def cS (s:List UInt8):Opd:=.c (.p (.str s))
def uO (d:Nat)(o:AO):AOp:=⟨some d,none,o⟩
def wO (o:AO):AOp:=⟨none,none,o⟩
def gD (d g:Nat)(b:Bool)(o:AO):AOp:=⟨some d,some (g,b),o⟩
def mV (d:Nat)(x:Opd):AOp:=⟨some d,none,.mv x⟩
def bN (d:Nat)(b:BinOp)(x y:Opd):AOp:=⟨some d,none,.bin b x y⟩
def cL (d f:Nat)(l:List Opd):AOp:=⟨some d,none,.call f l⟩
def lD (d:Nat)(s:Sh)(x:Opd):AOp:=⟨some d,none,.load s x⟩
def iA (d:Nat)(s:Sh)(x y:Opd):AOp:=⟨some d,none,.iaddr s x y⟩
def fA (d o:Nat)(s:Sh)(x:Opd):AOp:=⟨some d,none,.faddr o s x⟩
def lN (d:Nat)(x:Opd):AOp:=⟨some d,none,.len x⟩
def eX (d:Nat)(x:Opd)(i:Nat):AOp:=⟨some d,none,.ext x i⟩
def dF (o:AOp)(l:List Nat):DOp:=⟨o,l,false,[],[]⟩
def dT (o:AOp)(l:List Nat):DOp:=⟨o,l,true,[],[]⟩
def dA (o:AOp)(l:List Nat)(e:Bool)(a b:List Nat):DOp:=⟨o,l,e,a,b⟩
def rg (l:List AOp)(k:List Nat):ACode:=.reg l (some k)
def dr (l:List DOp)(k:List Nat):ACode:=.draw l (some k)
end Go.Am
end
section
/- The functions asv abstract code,and asv formulas PE their values: printed by program out of the translation. -/
set_option linter.unusedVariables false
set_option maxRecDepth 100000
namespace Go.Am
def pT:ACode:=.pr [9,10,11,12,13,14,15,16,17,18,19,20,21,22,23,24,25,26,27,29] (.seq (rg [mV 141 11,
mV 142 20,
bN 143 .eql 141 142,
mV 144 143,
gD 145 144 true (.mv 9),
gD 146 144 true (.mv 23),
gD 147 144 true (.call RL [145,146]),
uO 148 (.pick 144 147 cF),
mV 149 148,
gD 150 149 true (.mv 10),
gD 151 149 true (.mv 24),
gD 152 149 true (.call PL [150,151]),
uO 153 (.pick 149 152 cF),
mV 154 153,
gD 155 154 true (.mv 13),
gD 156 154 true (.mv 21),
gD 157 154 true (.bin .eql 155 156),
uO 158 (.pick 154 157 cF),
mV 159 158,
gD 160 159 true (.load (some 5) 12),
gD 161 159 true (.load (some 5) 27),
gD 162 159 true (.eqa [0,0,2,2,0] false 160 161),
uO 163 (.pick 159 162 cF),
mV 164 163,
gD 165 164 true (.mv 15),
gD 166 164 true (.mv 22),
gD 167 164 true (.bin .eql 165 166),
uO 168 (.pick 164 167 cF),
mV 169 168,
gD 170 169 true (.mv 14),
gD 171 169 true (.mv 29),
gD 172 169 true (.call SL [170,171]),
uO 173 (.pick 169 172 cF),
mV 174 173,
gD 175 174 true (.mv 17),
gD 176 174 true (.mv 20),
gD 177 174 true (.bin .eql 175 176),
uO 178 (.pick 174 177 cF),
mV 179 178,
gD 180 179 true (.mv 16),
gD 181 179 true (.mv 25),
gD 182 179 true (.call FI [180,181]),
uO 183 (.pick 179 182 cF),
mV 184 183,
gD 185 184 true (.mv 19),
gD 186 184 true (.mv 20),
gD 187 184 true (.bin .eql 185 186),
uO 188 (.pick 184 187 cF),
mV 189 188,
gD 190 189 true (.mv 18),
gD 191 189 true (.mv 26),
gD 192 189 true (.call FI [190,191]),
uO 193 (.pick 189 192 cF),
mV 194 193,
gD 195 194 true (.call JJ []),
uO 196 (.pick 194 195 cF),
mV 2 196] [2])
.ret)
def GX (C:Hd)(gl:GL)(v9 v10 v11 v12 v13 v14 v15 v16 v17 v18 v19 v20 v21 v22 v23 v24 v25 v26 v27 v29:AV)(h:aA)(x:Esc)(K:KT):Prop:=
 pK (gA .eql v11 v20) fun t1=>
 gM t1 true v9 h fun t2 h3 y4=>
 gM t1 true v23 h3 fun t5 h6 y7=>
 gV t1 true h6 (C RL [t2,t5] h6) fun t8 h9 y10=>
 pK (DA t1 t8 (AB false)) fun t11=>
 gM t11 true v10 h9 fun t12 h13 y14=>
 gM t11 true v24 h13 fun t15 h16 y17=>
 gV t11 true h16 (C PL [t12,t15] h16) fun t18 h19 y20=>
 pK (DA t11 t18 (AB false)) fun t21=>
 gM t21 true v13 h19 fun t22 h23 y24=>
 gM t21 true v21 h23 fun t25 h26 y27=>
 gP t21 true (gA .eql t22 t25) h26 fun t28 h29 y30=>
 pK (DA t21 t28 (AB false)) fun t31=>
 gP t31 true (eA (some 5) v12 h29) h29 fun t32 h33 y34=>
 gP t31 true (eA (some 5) v27 h33) h33 fun t35 h36 y37=>
 gP t31 true (nB [0,0,2,2,0] false t32 t35) h36 fun t38 h39 y40=>
 pK (DA t31 t38 (AB false)) fun t41=>
 gM t41 true v15 h39 fun t42 h43 y44=>
 gM t41 true v22 h43 fun t45 h46 y47=>
 gP t41 true (gA .eql t42 t45) h46 fun t48 h49 y50=>
 pK (DA t41 t48 (AB false)) fun t51=>
 gM t51 true v14 h49 fun t52 h53 y54=>
 gM t51 true v29 h53 fun t55 h56 y57=>
 gV t51 true h56 (C SL [t52,t55] h56) fun t58 h59 y60=>
 pK (DA t51 t58 (AB false)) fun t61=>
 gM t61 true v17 h59 fun t62 h63 y64=>
 gM t61 true v20 h63 fun t65 h66 y67=>
 gP t61 true (gA .eql t62 t65) h66 fun t68 h69 y70=>
 pK (DA t61 t68 (AB false)) fun t71=>
 gM t71 true v16 h69 fun t72 h73 y74=>
 gM t71 true v25 h73 fun t75 h76 y77=>
 gV t71 true h76 (C FI [t72,t75] h76) fun t78 h79 y80=>
 pK (DA t71 t78 (AB false)) fun t81=>
 gM t81 true v19 h79 fun t82 h83 y84=>
 gM t81 true v20 h83 fun t85 h86 y87=>
 gP t81 true (gA .eql t82 t85) h86 fun t88 h89 y90=>
 pK (DA t81 t88 (AB false)) fun t91=>
 gM t91 true v18 h89 fun t92 h93 y94=>
 gM t91 true v26 h93 fun t95 h96 y97=>
 gV t91 true h96 (C FI [t92,t95] h96) fun t98 h99 y100=>
 pK (DA t91 t98 (AB false)) fun t101=>
 gV t101 true h99 (C JJ [] h99) fun t102 h103 y104=>
 pK (DA t101 t102 (AB false)) fun t105=>
 K .ret ⟨[(2,t105)],h103,(y104++(y100++(y97++(y94++(y90++(y87++(y84++(y80++(y77++(y74++(y70++(y67++(y64++(y60++(y57++(y54++(y50++(y47++(y44++(y40++(y37++(y34++(y30++(y27++(y24++(y20++(y17++(y14++(y10++(y7++(y4++x)))))))))))))))))))))))))))))))⟩
theorem TY {C gl e h x K}:NW C gl pT ⟨e,h,x⟩ K=GX C gl (bA e 9) (bA e 10) (bA e 11) (bA e 12) (bA e 13) (bA e 14) (bA e 15) (bA e 16) (bA e 17) (bA e 18) (bA e 19) (bA e 20) (bA e 21) (bA e 22) (bA e 23) (bA e 24) (bA e 25) (bA e 26) (bA e 27) (bA e 29) h x K:=by kernel_rfl
def z11 (q1:ACode):ACode:=.pr [4,5,6,8,9,10,11,12,13,14,15,16,17,18,19,20,21,22,23,24,25,26,27] (.seq (rg [mV 29 (.c (.p (.sl none [])))] [4,5,6,8,9,10,11,12,13,14,15,16,17,18,19,20,21,22,23,24,25,26,27,29])
(.seq (.seq (rg [mV 134 22,
bN 135 .eql 134 (cI 0)] [4,5,6,8,9,10,11,12,13,14,15,16,17,18,19,20,21,22,23,24,25,26,27,29,135])
(.cond 135 (rg [lD 136 (some 2) 4,
mV 137 5,
mV 138 8,
mV 139 6,
cL 140 DL [136,137,138,139],
mV 29 140] [9,10,11,12,13,14,15,16,17,18,19,20,21,22,23,24,25,26,27,29])
.skip))
q1))
def qT:ACode:=z11 pT
def TK (C:Hd)(gl:GL)(q1:ACode)(v4 v5 v6 v8 v9 v10 v11 v12 v13 v14 v15 v16 v17 v18 v19 v20 v21 v22 v23 v24 v25 v26 v27:AV)(h:aA)(x:Esc)(K:KT):Prop:=
 pK (gA .eql v22 (AI 0)) fun t1=>
 mA t1 (pK (eA (some 2) v4 h) fun t2=>
 C DL [t2,v5,v8,v6] h fun t3 h4 y5=>
 NW C gl q1 ⟨[(9,v9),(10,v10),(11,v11),(12,v12),(13,v13),(14,v14),(15,v15),(16,v16),(17,v17),(18,v18),(19,v19),(20,v20),(21,v21),(22,v22),(23,v23),(24,v24),(25,v25),(26,v26),(27,v27),(29,t3)],h4,(y5++x)⟩ K)
 (NW C gl q1 ⟨[(4,v4),(5,v5),(6,v6),(8,v8),(9,v9),(10,v10),(11,v11),(12,v12),(13,v13),(14,v14),(15,v15),(16,v16),(17,v17),(18,v18),(19,v19),(20,v20),(21,v21),(22,v22),(23,v23),(24,v24),(25,v25),(26,v26),(27,v27),(29,(.p (.sl none []))),(135,t1)],h,x⟩ K)
theorem za4 {C gl q1 e h x K}:NW C gl (z11 q1) ⟨e,h,x⟩ K=TK C gl q1 (bA e 4) (bA e 5) (bA e 6) (bA e 8) (bA e 9) (bA e 10) (bA e 11) (bA e 12) (bA e 13) (bA e 14) (bA e 15) (bA e 16) (bA e 17) (bA e 18) (bA e 19) (bA e 20) (bA e 21) (bA e 22) (bA e 23) (bA e 24) (bA e 25) (bA e 26) (bA e 27) h x K:=by kernel_rfl
theorem lS {C gl e h x K}:NW C gl qT ⟨e,h,x⟩ K=TK C gl pT (bA e 4) (bA e 5) (bA e 6) (bA e 8) (bA e 9) (bA e 10) (bA e 11) (bA e 12) (bA e 13) (bA e 14) (bA e 15) (bA e 16) (bA e 17) (bA e 18) (bA e 19) (bA e 20) (bA e 21) (bA e 22) (bA e 23) (bA e 24) (bA e 25) (bA e 26) (bA e 27) h x K:=za4
def z12 (q2:ACode):ACode:=.pr [4,5,6,7,8,9,10,11,12,13,14,15,16,17,18,19,20,21,22,23,24,25,26] (.seq (rg [uO 120 (.build [.p (.int .i64 0),.p (.int .i64 0),.p (.str []),.p (.str []),.p (.int .i64 0)] []),
uO 27 (.alloc [.p (.int .i64 0),.p (.int .i64 0),.p (.str []),.p (.str []),.p (.int .i64 0)]),
wO (.store (some 5) 27 120)] [4,5,6,7,8,9,10,11,12,13,14,15,16,17,18,19,20,21,22,23,24,25,26,27])
(.seq (.seq (rg [mV 121 21,
bN 122 .eql 121 (cI 0)] [4,5,6,7,8,9,10,11,12,13,14,15,16,17,18,19,20,21,22,23,24,25,26,27,122])
(.cond 122 (.seq (rg [mV 28 cF] [4,5,6,7,8,9,10,11,12,13,14,15,16,17,18,19,20,21,22,23,24,25,26,27])
(.seq (rg [lD 124 (some 2) 4,
mV 125 5,
mV 126 7,
mV 127 6,
cL 128 CL [124,125,126,127],
mV 123 128,
eX 129 123 0,
eX 130 123 1,
wO (.store (some 5) 27 129),
mV 28 130] [4,5,6,8,9,10,11,12,13,14,15,16,17,18,19,20,21,22,23,24,25,26,27,28])
(.seq (rg [mV 131 28,
uO 132 (.un .not 131)] [4,5,6,8,9,10,11,12,13,14,15,16,17,18,19,20,21,22,23,24,25,26,27,132])
(.cond 132 (rg [uO 133 (.build [.p (.int .i64 0),.p (.int .i64 0),.p (.str []),.p (.str []),.p (.int .i64 0)] []),
wO (.store (some 5) 27 133),
mV 21 (cI 8)] [4,5,6,8,9,10,11,12,13,14,15,16,17,18,19,20,21,22,23,24,25,26,27])
.skip))))
.skip))
q2))
def rT:ACode:=z12 qT
def BJ (C:Hd)(gl:GL)(q2:ACode)(v4 v5 v6 v7 v8 v9 v10 v11 v12 v13 v14 v15 v16 v17 v18 v19 v20 v21 v22 v23 v24 v25 v26:AV)(h:aA)(x:Esc)(K:KT):Prop:=
 pK (RB [.p (.int .i64 0),.p (.int .i64 0),.p (.str []),.p (.str []),.p (.int .i64 0)] []) fun t1=>
 alK [.p (.int .i64 0),.p (.int .i64 0),.p (.str []),.p (.str []),.p (.int .i64 0)] h fun t2 h3 y4=>
 wK (tA (some 5) t2 t1 h3) fun t5 h6 y7=>
 pK (gA .eql v21 (AI 0)) fun t8=>
 mA t8 (pK (eA (some 2) v4 h6) fun t9=>
 C CL [t9,v5,v7,v6] h6 fun t10 h11 y12=>
 pK (jB t10 0) fun t13=>
 pK (jB t10 1) fun t14=>
 wK (tA (some 5) t2 t13 h11) fun t15 h16 y17=>
 pK (oUn .not t14) fun t18=>
 mA t18 (pK (RB [.p (.int .i64 0),.p (.int .i64 0),.p (.str []),.p (.str []),.p (.int .i64 0)] []) fun t19=>
 wK (tA (some 5) t2 t19 h16) fun t20 h21 y22=>
 NW C gl q2 ⟨[(4,v4),(5,v5),(6,v6),(8,v8),(9,v9),(10,v10),(11,v11),(12,v12),(13,v13),(14,v14),(15,v15),(16,v16),(17,v17),(18,v18),(19,v19),(20,v20),(21,(AI 8)),(22,v22),(23,v23),(24,v24),(25,v25),(26,v26),(27,t2)],h21,(y22++(y17++(y12++(y7++(y4++x)))))⟩ K)
 (NW C gl q2 ⟨[(4,v4),(5,v5),(6,v6),(8,v8),(9,v9),(10,v10),(11,v11),(12,v12),(13,v13),(14,v14),(15,v15),(16,v16),(17,v17),(18,v18),(19,v19),(20,v20),(21,v21),(22,v22),(23,v23),(24,v24),(25,v25),(26,v26),(27,t2),(132,t18)],h16,(y17++(y12++(y7++(y4++x))))⟩ K))
 (NW C gl q2 ⟨[(4,v4),(5,v5),(6,v6),(7,v7),(8,v8),(9,v9),(10,v10),(11,v11),(12,v12),(13,v13),(14,v14),(15,v15),(16,v16),(17,v17),(18,v18),(19,v19),(20,v20),(21,v21),(22,v22),(23,v23),(24,v24),(25,v25),(26,v26),(27,t2),(122,t8)],h6,(y7++(y4++x))⟩ K)
theorem za5 {C gl q2 e h x K}:NW C gl (z12 q2) ⟨e,h,x⟩ K=BJ C gl q2 (bA e 4) (bA e 5) (bA e 6) (bA e 7) (bA e 8) (bA e 9) (bA e 10) (bA e 11) (bA e 12) (bA e 13) (bA e 14) (bA e 15) (bA e 16) (bA e 17) (bA e 18) (bA e 19) (bA e 20) (bA e 21) (bA e 22) (bA e 23) (bA e 24) (bA e 25) (bA e 26) h x K:=by kernel_rfl
theorem mS {C gl e h x K}:NW C gl rT ⟨e,h,x⟩ K=BJ C gl qT (bA e 4) (bA e 5) (bA e 6) (bA e 7) (bA e 8) (bA e 9) (bA e 10) (bA e 11) (bA e 12) (bA e 13) (bA e 14) (bA e 15) (bA e 16) (bA e 17) (bA e 18) (bA e 19) (bA e 20) (bA e 21) (bA e 22) (bA e 23) (bA e 24) (bA e 25) (bA e 26) h x K:=za5
def z10 (q3:ACode):ACode:=(.seq (rg [mV 2 cF] [0])
(.seq (rg [mV 30 0,
uO 31 (.build [.sl0 none,.p (.int .i64 0)] [(0,1,30)]),
uO 32 (.box 31),
mV 3 32] [3])
(.seq (rg [mV 33 3,
cL 34 qL [33],
mV 35 3,
mV 36 3,
cL 37 lC [36,(cI 0),(cI 20)],
cL 38 rL [35,37],
mV 39 3,
cL 40 sL [39],
mV 41 3,
uO 42 (.bsl false none 4 (.str []) [(0,(cS [98,49])),(1,(cS [98,50])),(2,(cS [98,57])),(3,(cS [65]))]),
cL 43 aC [41,42],
mV 44 3,
uO 45 (.bsl false none 3 (.str []) [(0,(cS [115,99,97,110])),(1,(cS [102,108,97,115,104])),(2,(cS [122,122]))]),
cL 46 aC [44,45],
uO 4 (.alloc [.sl0 none,.p (.int .i64 0)]),
wO (.store (some 2) 4 34),
mV 5 38,
mV 6 40,
mV 7 43,
mV 8 46] [4,5,6,7,8])
(.seq (rg [lD 48 (some 2) 4,
mV 49 5,
mV 50 6,
cL 51 eM [48,49,50],
mV 47 51,
eX 52 47 0,
eX 53 47 1,
eX 54 47 2,
mV 9 52,
mV 10 53,
mV 11 54] [4,5,6,7,8,9,10,11])
(.seq (rg [lD 56 (some 2) 4,
mV 57 5,
mV 58 7,
mV 59 6,
cL 60 GI [56,57,58,59],
mV 55 60,
eX 61 55 0,
eX 62 55 1,
uO 12 (.alloc [.p (.int .i64 0),.p (.int .i64 0),.p (.str []),.p (.str []),.p (.int .i64 0)]),
wO (.store (some 5) 12 61),
mV 13 62] [4,5,6,7,8,9,10,11,12,13])
(.seq (rg [lD 64 (some 2) 4,
mV 65 5,
mV 66 8,
mV 67 6,
cL 68 iM [64,65,66,67],
mV 63 68,
eX 69 63 0,
eX 70 63 1,
mV 14 69,
mV 15 70] [4,5,6,7,8,9,10,11,12,13,14,15])
(.seq (rg [lD 72 (some 2) 4,
mV 73 5,
mV 74 6,
cL 75 fM [72,73,74],
mV 71 75,
eX 76 71 0,
eX 77 71 1,
mV 16 76,
mV 17 77] [4,5,6,7,8,9,10,11,12,13,14,15,16,17])
(.seq (rg [lD 79 (some 2) 4,
mV 80 5,
mV 81 6,
cL 82 dM [79,80,81],
mV 78 82,
eX 83 78 0,
eX 84 78 1,
mV 18 83,
mV 19 84] [4,5,6,7,8,9,10,11,12,13,14,15,16,17,18,19])
(.seq (rg [lD 85 (some 2) 4,
mV 86 5,
cL 87 nL [85,86],
mV 88 6,
cL 89 yL [88],
uO 90 (.bsl false none 2 (.int .i64 0) [(0,87),(1,89)]),
cL 91 fF [90],
mV 20 91] [4,5,6,7,8,9,10,11,12,13,14,15,16,17,18,19,20])
(.seq (dr [dF (mV 92 20) [20],
dF (mV 93 7) [7],
dT (cL 94 oL [93]) [93],
dF (uO 95 (.bsl false none 2 (.int .i64 0) [(0,92),(1,94)])) [92,94],
dT (cL 96 fF [95]) [95],
dF (mV 97 20) [20],
dA (lD 98 (some 2) 4) [4] false [2,4] [],
dF (mV 99 8) [8],
dT (cL 100 pL [98,99]) [98,99],
dF (uO 101 (.bsl false none 2 (.int .i64 0) [(0,97),(1,100)])) [97,100],
dT (cL 102 fF [101]) [101],
dF (mV 21 96) [96],
dF (mV 22 102) [102]] [4,5,6,7,8,9,10,11,12,13,14,15,16,17,18,19,20,21,22])
(.seq (rg [mV 23 (.c (.p (.sl none [])))] [4,5,6,7,8,9,10,11,12,13,14,15,16,17,18,19,20,21,22,23])
(.seq (rg [mV 24 (.c (.p (.sl none [])))] [4,5,6,7,8,9,10,11,12,13,14,15,16,17,18,19,20,21,22,23,24])
(.seq (rg [mV 25 (.c (.p (.sl (some 2) []))),
mV 26 (.c (.p (.sl (some 2) [])))] [4,5,6,7,8,9,10,11,12,13,14,15,16,17,18,19,20,21,22,23,24,25,26])
(.seq (.seq (rg [mV 103 20,
bN 104 .eql 103 (cI 0)] [4,5,6,7,8,9,10,11,12,13,14,15,16,17,18,19,20,21,22,23,24,25,26,104])
(.cond 104 (.seq (rg [lD 106 (some 2) 4,
mV 107 5,
mV 108 6,
cL 109 zL [106,107,108],
mV 105 109,
eX 110 105 0,
eX 111 105 1,
mV 23 110,
mV 24 111] [4,5,6,7,8,9,10,11,12,13,14,15,16,17,18,19,20,21,22,23,24])
(dr [dF (lD 112 (some 2) 4) [4],
dF (mV 113 5) [5],
dF (mV 114 6) [6],
dT (cL 115 BL [112,113,114]) [112,113,114],
dA (lD 116 (some 2) 4) [4] false [3] [],
dF (mV 117 5) [5],
dF (mV 118 6) [6],
dT (cL 119 uL [116,117,118]) [116,117,118],
dF (mV 25 115) [115],
dF (mV 26 119) [119]] [4,5,6,7,8,9,10,11,12,13,14,15,16,17,18,19,20,21,22,23,24,25,26]))
.skip))
q3))))))))))))))
def xV:AFun:=⟨1,[.t 2],z10 rT,false,false⟩
def lO (C:Hd)(gl:GL)(q3:ACode)(v0:AV)(h:aA)(x:Esc)(K:KT):Prop:=
 pK (RB [.sl0 none,.p (.int .i64 0)] [(0,1,v0)]) fun t1=>
 wK (vB t1 h) fun t2 h3 y4=>
 C qL [t2] h3 fun t5 h6 y7=>
 C lC [t2,(AI 0),(AI 20)] h6 fun t8 h9 y10=>
 C rL [t2,t8] h9 fun t11 h12 y13=>
 C sL [t2] h12 fun t14 h15 y16=>
 wK (RA false none 4 (.str []) [(0,(.p (.str [98,49]))),(1,(.p (.str [98,50]))),(2,(.p (.str [98,57]))),(3,(.p (.str [65])))] h15) fun t17 h18 y19=>
 C aC [t2,t17] h18 fun t20 h21 y22=>
 wK (RA false none 3 (.str []) [(0,(.p (.str [115,99,97,110]))),(1,(.p (.str [102,108,97,115,104]))),(2,(.p (.str [122,122])))] h21) fun t23 h24 y25=>
 C aC [t2,t23] h24 fun t26 h27 y28=>
 alK [.sl0 none,.p (.int .i64 0)] h27 fun t29 h30 y31=>
 wK (tA (some 2) t29 t5 h30) fun t32 h33 y34=>
 pK (eA (some 2) t29 h33) fun t35=>
 C eM [t35,t11,t14] h33 fun t36 h37 y38=>
 pK (jB t36 0) fun t39=>
 pK (jB t36 1) fun t40=>
 pK (jB t36 2) fun t41=>
 pK (eA (some 2) t29 h37) fun t42=>
 C GI [t42,t11,t20,t14] h37 fun t43 h44 y45=>
 pK (jB t43 0) fun t46=>
 pK (jB t43 1) fun t47=>
 alK [.p (.int .i64 0),.p (.int .i64 0),.p (.str []),.p (.str []),.p (.int .i64 0)] h44 fun t48 h49 y50=>
 wK (tA (some 5) t48 t46 h49) fun t51 h52 y53=>
 pK (eA (some 2) t29 h52) fun t54=>
 C iM [t54,t11,t26,t14] h52 fun t55 h56 y57=>
 pK (jB t55 0) fun t58=>
 pK (jB t55 1) fun t59=>
 pK (eA (some 2) t29 h56) fun t60=>
 C fM [t60,t11,t14] h56 fun t61 h62 y63=>
 pK (jB t61 0) fun t64=>
 pK (jB t61 1) fun t65=>
 pK (eA (some 2) t29 h62) fun t66=>
 C dM [t66,t11,t14] h62 fun t67 h68 y69=>
 pK (jB t67 0) fun t70=>
 pK (jB t67 1) fun t71=>
 pK (eA (some 2) t29 h68) fun t72=>
 C nL [t72,t11] h68 fun t73 h74 y75=>
 C yL [t14] h74 fun t76 h77 y78=>
 wK (RA false none 2 (.int .i64 0) [(0,t73),(1,t76)] h77) fun t79 h80 y81=>
 C fF [t79] h80 fun t82 h83 y84=>
 YA C oL [t20] h83 fun t85 h86 y87=>
 wK (RA false none 2 (.int .i64 0) [(0,t82),(1,t85)] h86) fun t88 h89 y90=>
 (h89=h86∧y90=[])∧(YA C fF [t88] h89 fun t91 h92 y93=>
 pK (eA (some 2) t29 h92) fun t94=>
 (pK (eA (some 2) t29 h83) fun v=>(fun u (g1:aA) (y1:Esc)=>u=t94∧g1=h83∧y1=[]) v h83 [])∧((pK (eA (some 2) t29 h89) fun v=>(fun u (g1:aA) (y1:Esc)=>u=t94∧g1=h89∧y1=[]) v h89 [])∧(YA C pL [t94,t26] h92 fun t95 h96 y97=>
 wK (RA false none 2 (.int .i64 0) [(0,t82),(1,t95)] h96) fun t98 h99 y100=>
 (h99=h96∧y100=[])∧(YA C fF [t98] h99 fun t101 h102 y103=>
 pK (gA .eql t82 (AI 0)) fun t104=>
 mA t104 (pK (eA (some 2) t29 h102) fun t105=>
 C zL [t105,t11,t14] h102 fun t106 h107 y108=>
 pK (jB t106 0) fun t109=>
 pK (jB t106 1) fun t110=>
 pK (eA (some 2) t29 h107) fun t111=>
 YA C BL [t111,t11,t14] h107 fun t112 h113 y114=>
 pK (eA (some 2) t29 h113) fun t115=>
 (pK (eA (some 2) t29 h107) fun v=>(fun u (g1:aA) (y1:Esc)=>u=t115∧g1=h107∧y1=[]) v h107 [])∧(YA C uL [t115,t11,t14] h113 fun t116 h117 y118=>
 NW C gl q3 ⟨[(4,t29),(5,t11),(6,t14),(7,t20),(8,t26),(9,t39),(10,t40),(11,t41),(12,t48),(13,t47),(14,t58),(15,t59),(16,t64),(17,t65),(18,t70),(19,t71),(20,t82),(21,t91),(22,t101),(23,t109),(24,t110),(25,t112),(26,t116)],h117,(y118++(y114++(y108++(y103++(y100++(y97++(y93++(y90++(y87++(y84++(y81++(y78++(y75++(y69++(y63++(y57++(y53++(y50++(y45++(y38++(y34++(y31++(y28++(y25++(y22++(y19++(y16++(y13++(y10++(y7++(y4++x)))))))))))))))))))))))))))))))⟩ K))
 (NW C gl q3 ⟨[(4,t29),(5,t11),(6,t14),(7,t20),(8,t26),(9,t39),(10,t40),(11,t41),(12,t48),(13,t47),(14,t58),(15,t59),(16,t64),(17,t65),(18,t70),(19,t71),(20,t82),(21,t91),(22,t101),(23,(.p (.sl none []))),(24,(.p (.sl none []))),(25,(.p (.sl (some 2) []))),(26,(.p (.sl (some 2) []))),(104,t104)],h102,(y103++(y100++(y97++(y93++(y90++(y87++(y84++(y81++(y78++(y75++(y69++(y63++(y57++(y53++(y50++(y45++(y38++(y34++(y31++(y28++(y25++(y22++(y19++(y16++(y13++(y10++(y7++(y4++x))))))))))))))))))))))))))))⟩ K)))))
theorem za3 {C gl q3 v0 h x K}:NW C gl (z10 q3) ⟨enter [v0],h,x⟩ K=lO C gl q3 v0 h x K:=by kernel_rfl
theorem zgM {C gl v0 h x K}:NW C gl xV.body ⟨enter [v0],h,x⟩ K=lO C gl rT v0 h x K:=za3
def NZ:ACode:=.pr [2,3] (.seq (rg [lD 27 (some 2) 3,
wO (.store (some 2) 2 27)] [2])
.ret)
def z4v (C:Hd)(gl:GL)(v2 v3:AV)(h:aA)(x:Esc)(K:KT):Prop:=
 pK (eA (some 2) v3 h) fun t1=>
 wK (tA (some 2) v2 t1 h) fun t2 h3 y4=>
 K .ret ⟨[(2,v2)],h3,(y4++x)⟩
theorem zgX {C gl e h x K}:NW C gl NZ ⟨e,h,x⟩ K=z4v C gl (bA e 2) (bA e 3) h x K:=by kernel_rfl
def z16 (q1:ACode):ACode:=.pr [0,2,3] (.seq (.seq (rg [mV 22 0,
cL 23 vE [22,(cI 25)]] [0,2,3,23])
(.cond 23 (rg [mV 24 0,
cL 25 VD [24,(cI 1),(cI 10)],
fA 26 1 none 3,
wO (.store none 26 25)] [2,3])
.skip))
q1)
def OZ:ACode:=z16 NZ
def KX (C:Hd)(gl:GL)(q1:ACode)(v0 v2 v3:AV)(h:aA)(x:Esc)(K:KT):Prop:=
 C vE [v0,(AI 25)] h fun t1 h2 y3=>
 mA t1 (C VD [v0,(AI 1),(AI 10)] h2 fun t4 h5 y6=>
 pK (jA 1 none v3) fun t7=>
 wK (tA none t7 t4 h5) fun t8 h9 y10=>
 NW C gl q1 ⟨[(2,v2),(3,v3)],h9,(y10++(y6++(y3++x)))⟩ K)
 (NW C gl q1 ⟨[(0,v0),(2,v2),(3,v3),(23,t1)],h2,(y3++x)⟩ K)
theorem za9 {C gl q1 e h x K}:NW C gl (z16 q1) ⟨e,h,x⟩ K=KX C gl q1 (bA e 0) (bA e 2) (bA e 3) h x K:=by kernel_rfl
theorem zgY {C gl e h x K}:NW C gl OZ ⟨e,h,x⟩ K=KX C gl NZ (bA e 0) (bA e 2) (bA e 3) h x K:=za9
def z17 (q2:ACode):ACode:=.pr [0,2,3] (.seq (.seq (rg [mV 11 0,
cL 12 vE [11,(cI 20)]] [0,2,3,12])
(.cond 12 (dr [dF (fA 13 0 none 3) [3],
dF (lD 14 none 13) [13],
dF (mV 15 0) [0],
dF (uO 16 (.bsl false none 3 (.str []) [(0,(cS [])),(1,(cS [115,99,97,110])),(2,(cS [122,122]))])) [],
dA (cL 17 aC [15,16]) [15,16] true [] [1],
dF (uO 18 (.bsl false none 1 (.str []) [(0,17)])) [17],
dF (uO 19 (.bsl false none 2 (.sl none []) [(0,14),(1,18)])) [14,18],
dT (cL 20 ML [19]) [19],
dF (fA 21 0 none 3) [3],
dT (wO (.store none 21 20)) [21,20]] [0,2,3])
.skip))
q2)
def oP:ACode:=z17 OZ
def CJ (C:Hd)(gl:GL)(q2:ACode)(v0 v2 v3:AV)(h:aA)(x:Esc)(K:KT):Prop:=
 C vE [v0,(AI 20)] h fun t1 h2 y3=>
 mA t1 (pK (jA 0 none v3) fun t4=>
 pK (eA none t4 h2) fun t5=>
 wK (RA false none 3 (.str []) [(0,(.p (.str []))),(1,(.p (.str [115,99,97,110]))),(2,(.p (.str [122,122])))] h2) fun t6 h7 y8=>
 (h7=h2∧y8=[])∧(YA C aC [v0,t6] h7 fun t9 h10 y11=>
 (pK (eA none t4 h10) fun v=>(fun u (g1:aA) (y1:Esc)=>u=t5∧g1=h10∧y1=[]) v h10 [])∧(wK (RA false none 1 (.str []) [(0,t9)] h10) fun t12 h13 y14=>
 (h13=h10∧y14=[])∧(wK (RA false none 2 (.sl none []) [(0,t5),(1,t12)] h13) fun t15 h16 y17=>
 (h16=h13∧y17=[])∧(YA C ML [t15] h16 fun t18 h19 y20=>
 pK (jA 0 none v3) fun t21=>
 wK (tA none t21 t18 h19) fun t22 h23 y24=>
 NW C gl q2 ⟨[(0,v0),(2,v2),(3,v3)],h23,(y24++(y20++(y17++(y14++(y11++(y8++(y3++x)))))))⟩ K)))))
 (NW C gl q2 ⟨[(0,v0),(2,v2),(3,v3),(12,t1)],h2,(y3++x)⟩ K)
theorem zaA {C gl q2 e h x K}:NW C gl (z17 q2) ⟨e,h,x⟩ K=CJ C gl q2 (bA e 0) (bA e 2) (bA e 3) h x K:=by kernel_rfl
theorem dL {C gl e h x K}:NW C gl oP ⟨e,h,x⟩ K=CJ C gl OZ (bA e 0) (bA e 2) (bA e 3) h x K:=zaA
def z15 (q3:ACode):ACode:=(.det (.seq (rg [uO 2 (.alloc [.sl0 none,.p (.int .i64 0)])] [0,2])
(.seq (.condu (.c .anyb) (.block 2 (.block 7 (.block 0 (.block 1 (.block 2 (.block 3 (.block 4 (.block 5 (.block 6 (.block 7 (.block 8 (.condu (.c .anyb) (.block 5 (.block 7 (.block 0 (.block 1 (.block 2 (.block 3 (.block 4 (.block 5 (.block 6 (.block 7 (.block 8 (dr [dF (uO 4 (.bsl false none 3 (.str []) [(0,(cS [115,99,97,110])),(1,(cS [102,108,97,115,104])),(2,(cS [98,117,114,110]))])) [],
dF (mV 5 0) [0],
dA (cL 6 lC [5,(cI 1),(cI 3)]) [5] true [] [0],
dF (uO 7 (.slice none 4 none (some 6) none)) [4,6],
dF (mV 8 0) [0],
dA (cL 9 lC [8,(cI 1),(cI 3)]) [8] true [] [0,3],
dF (uO 10 (.build [.sl0 none,.p (.int .i64 0)] [(0,1,7),(1,1,9)])) [7,9],
dA (uO 3 (.alloc [.sl0 none,.p (.int .i64 0)])) [] true [] [0,3],
dT (wO (.store (some 2) 3 10)) [3,10]] [0,2,3]))))))))))))
(.block 7 (.block 5 (.block 0 (.block 1 (.block 2 (.block 3 (.block 4 (.block 7 (.block 5 (.block 6 (.block 8 (dr [dF (uO 4 (.bsl false none 3 (.str []) [(0,(cS [115,99,97,110])),(1,(cS [102,108,97,115,104])),(2,(cS [98,117,114,110]))])) [],
dF (mV 5 0) [0],
dA (cL 6 lC [5,(cI 1),(cI 3)]) [5] true [] [0],
dF (uO 7 (.slice none 4 none (some 6) none)) [4,6],
dF (mV 8 0) [0],
dA (uO 3 (.alloc [.sl0 none,.p (.int .i64 0)])) [] true [] [0,3],
dA (cL 9 lC [8,(cI 1),(cI 3)]) [8] true [] [0,3],
dF (uO 10 (.build [.sl0 none,.p (.int .i64 0)] [(0,1,7),(1,1,9)])) [7,9],
dT (wO (.store (some 2) 3 10)) [3,10]] [0,2,3]))))))))))))))))))))))))
(.block 7 (.block 2 (.block 0 (.block 1 (.block 4 (.block 7 (.block 2 (.block 3 (.block 5 (.block 6 (.block 8 (dr [dF (uO 4 (.bsl false none 3 (.str []) [(0,(cS [115,99,97,110])),(1,(cS [102,108,97,115,104])),(2,(cS [98,117,114,110]))])) [],
dF (mV 5 0) [0],
dF (mV 8 0) [0],
dA (uO 3 (.alloc [.sl0 none,.p (.int .i64 0)])) [] true [] [0],
dA (cL 6 lC [5,(cI 1),(cI 3)]) [5] true [] [0],
dF (uO 7 (.slice none 4 none (some 6) none)) [4,6],
dA (cL 9 lC [8,(cI 1),(cI 3)]) [8] true [] [0,5],
dF (uO 10 (.build [.sl0 none,.p (.int .i64 0)] [(0,1,7),(1,1,9)])) [7,9],
dT (wO (.store (some 2) 3 10)) [3,10]] [0,2,3])))))))))))))
q3)))
def FV:AFun:=⟨1,[.cell 2 (some 2)],z15 oP,false,false⟩
def nR (C:Hd)(gl:GL)(q3:ACode)(v0:AV)(h:aA)(x:Esc)(K:KT):Prop:=
 alK [.sl0 none,.p (.int .i64 0)] h fun t1 h2 y3=>
 bR .anyb (bR .anyb (wK (RA false none 3 (.str []) [(0,(.p (.str [115,99,97,110]))),(1,(.p (.str [102,108,97,115,104]))),(2,(.p (.str [98,117,114,110])))] h2) fun t4 h5 y6=>
 (h5=h2∧y6=[])∧(YA C lC [v0,(AI 1),(AI 3)] h5 fun t7 h8 y9=>
 (wK (RA false none 3 (.str []) [(0,(.p (.str [115,99,97,110]))),(1,(.p (.str [102,108,97,115,104]))),(2,(.p (.str [98,117,114,110])))] h8) (fun u (g1:aA) (y1:Esc)=>u=t4∧g1=h8∧y1=[]))∧(pK (eD none t4 none (some t7) none h8) fun t10=>
 YA C lC [v0,(AI 1),(AI 3)] h8 fun t11 h12 y13=>
 (wK (RA false none 3 (.str []) [(0,(.p (.str [115,99,97,110]))),(1,(.p (.str [102,108,97,115,104]))),(2,(.p (.str [98,117,114,110])))] h12) (fun u (g1:aA) (y1:Esc)=>u=t4∧g1=h12∧y1=[]))∧((pK (eD none t4 none (some t7) none h12) fun v=>(fun u (g1:aA) (y1:Esc)=>u=t10∧g1=h12∧y1=[]) v h12 [])∧(pK (RB [.sl0 none,.p (.int .i64 0)] [(0,1,t10),(1,1,t11)]) fun t14=>
 alK [.sl0 none,.p (.int .i64 0)] h12 fun t15 h16 y17=>
 (wK (RA false none 3 (.str []) [(0,(.p (.str [115,99,97,110]))),(1,(.p (.str [102,108,97,115,104]))),(2,(.p (.str [98,117,114,110])))] h16) (fun u (g1:aA) (y1:Esc)=>u=t4∧g1=h16∧y1=[]))∧((pK (eD none t4 none (some t7) none h16) fun v=>(fun u (g1:aA) (y1:Esc)=>u=t10∧g1=h16∧y1=[]) v h16 [])∧(wK (tA (some 2) t15 t14 h16) fun t18 h19 y20=>
 NW C gl q3 ⟨[(0,v0),(2,t1),(3,t15)],h19,(y20++(y17++(y13++(y9++(y6++(y3++x))))))⟩ K)))))))
 (wK (RA false none 3 (.str []) [(0,(.p (.str [115,99,97,110]))),(1,(.p (.str [102,108,97,115,104]))),(2,(.p (.str [98,117,114,110])))] h2) fun t21 h22 y23=>
 (h22=h2∧y23=[])∧(YA C lC [v0,(AI 1),(AI 3)] h22 fun t24 h25 y26=>
 (wK (RA false none 3 (.str []) [(0,(.p (.str [115,99,97,110]))),(1,(.p (.str [102,108,97,115,104]))),(2,(.p (.str [98,117,114,110])))] h25) (fun u (g1:aA) (y1:Esc)=>u=t21∧g1=h25∧y1=[]))∧(pK (eD none t21 none (some t24) none h25) fun t27=>
 alK [.sl0 none,.p (.int .i64 0)] h25 fun t28 h29 y30=>
 (wK (RA false none 3 (.str []) [(0,(.p (.str [115,99,97,110]))),(1,(.p (.str [102,108,97,115,104]))),(2,(.p (.str [98,117,114,110])))] h29) (fun u (g1:aA) (y1:Esc)=>u=t21∧g1=h29∧y1=[]))∧((pK (eD none t21 none (some t24) none h29) fun v=>(fun u (g1:aA) (y1:Esc)=>u=t27∧g1=h29∧y1=[]) v h29 [])∧(YA C lC [v0,(AI 1),(AI 3)] h29 fun t31 h32 y33=>
 (wK (RA false none 3 (.str []) [(0,(.p (.str [115,99,97,110]))),(1,(.p (.str [102,108,97,115,104]))),(2,(.p (.str [98,117,114,110])))] h32) (fun u (g1:aA) (y1:Esc)=>u=t21∧g1=h32∧y1=[]))∧((pK (eD none t21 none (some t24) none h32) fun v=>(fun u (g1:aA) (y1:Esc)=>u=t27∧g1=h32∧y1=[]) v h32 [])∧(pK (RB [.sl0 none,.p (.int .i64 0)] [(0,1,t27),(1,1,t31)]) fun t34=>
 wK (tA (some 2) t28 t34 h32) fun t35 h36 y37=>
 NW C gl q3 ⟨[(0,v0),(2,t1),(3,t28)],h36,(y37++(y33++(y30++(y26++(y23++(y3++x))))))⟩ K))))))))
 (wK (RA false none 3 (.str []) [(0,(.p (.str [115,99,97,110]))),(1,(.p (.str [102,108,97,115,104]))),(2,(.p (.str [98,117,114,110])))] h2) fun t38 h39 y40=>
 (h39=h2∧y40=[])∧(alK [.sl0 none,.p (.int .i64 0)] h39 fun t41 h42 y43=>
 (wK (RA false none 3 (.str []) [(0,(.p (.str [115,99,97,110]))),(1,(.p (.str [102,108,97,115,104]))),(2,(.p (.str [98,117,114,110])))] h42) (fun u (g1:aA) (y1:Esc)=>u=t38∧g1=h42∧y1=[]))∧(YA C lC [v0,(AI 1),(AI 3)] h42 fun t44 h45 y46=>
 (wK (RA false none 3 (.str []) [(0,(.p (.str [115,99,97,110]))),(1,(.p (.str [102,108,97,115,104]))),(2,(.p (.str [98,117,114,110])))] h45) (fun u (g1:aA) (y1:Esc)=>u=t38∧g1=h45∧y1=[]))∧(pK (eD none t38 none (some t44) none h45) fun t47=>
 YA C lC [v0,(AI 1),(AI 3)] h45 fun t48 h49 y50=>
 (wK (RA false none 3 (.str []) [(0,(.p (.str [115,99,97,110]))),(1,(.p (.str [102,108,97,115,104]))),(2,(.p (.str [98,117,114,110])))] h49) (fun u (g1:aA) (y1:Esc)=>u=t38∧g1=h49∧y1=[]))∧((pK (eD none t38 none (some t44) none h49) fun v=>(fun u (g1:aA) (y1:Esc)=>u=t47∧g1=h49∧y1=[]) v h49 [])∧(pK (RB [.sl0 none,.p (.int .i64 0)] [(0,1,t47),(1,1,t48)]) fun t51=>
 wK (tA (some 2) t41 t51 h49) fun t52 h53 y54=>
 NW C gl q3 ⟨[(0,v0),(2,t1),(3,t41)],h53,(y54++(y50++(y46++(y43++(y40++(y3++x))))))⟩ K))))))
theorem za8 {C gl q3 v0 h x K}:NW C gl (z15 q3) ⟨enter [v0],h,x⟩ K=nR C gl q3 v0 h x K:=by kernel_rfl
theorem zgW {C gl v0 h x K}:NW C gl FV.body ⟨enter [v0],h,x⟩ K=nR C gl oP v0 h x K:=za8
def pP:ACode:=.pr [0,5,6,7,9,11,12] (.seq (rg [fA 55 3 none 9,
lD 56 none 55,
bN 57 .eql 56 (cI 2)] [0,5,6,7,9,11,12,57])
(.cond 57 (rg [mV 58 0,
uO 59 (.bsl false none 4 (.str []) [(0,(cS [115,99,97,110])),(1,(cS [115,99,97,110])),(2,(cS [102,108,97,115,104])),(3,(cS [98,117,114,110]))]),
cL 60 aC [58,59],
fA 61 5 none 9,
wO (.store none 61 60)] [0,5,6,7,9,11,12])
.skip))
def z4w (C:Hd)(gl:GL)(v0 v5 v6 v7 v9 v11 v12:AV)(h:aA)(x:Esc)(K:KT):Prop:=
 pK (jA 3 none v9) fun t1=>
 pK (eA none t1 h) fun t2=>
 pK (gA .eql t2 (AI 2)) fun t3=>
 mA t3 (wK (RA false none 4 (.str []) [(0,(.p (.str [115,99,97,110]))),(1,(.p (.str [115,99,97,110]))),(2,(.p (.str [102,108,97,115,104]))),(3,(.p (.str [98,117,114,110])))] h) fun t4 h5 y6=>
 C aC [v0,t4] h5 fun t7 h8 y9=>
 pK (jA 5 none v9) fun t10=>
 wK (tA none t10 t7 h8) fun t11 h12 y13=>
 K .normal ⟨[(0,v0),(5,v5),(6,v6),(7,v7),(9,v9),(11,v11),(12,v12)],h12,(y13++(y9++(y6++x)))⟩)
 (K .normal ⟨[(0,v0),(5,v5),(6,v6),(7,v7),(9,v9),(11,v11),(12,v12),(57,t3)],h,x⟩)
theorem UY {C gl e h x K}:NW C gl pP ⟨e,h,x⟩ K=z4w C gl (bA e 0) (bA e 5) (bA e 6) (bA e 7) (bA e 9) (bA e 11) (bA e 12) h x K:=by kernel_rfl
def uT:ACode:=.pr [0,5,6,7,9,11,12] (rg [mV 111 5,
lD 112 (some 8) 9,
uO 113 (.bsl false (some 8) 1 (.agg [.str [],.int .i64 0,.int .i64 0,.int .i64 0,.str [],.str [],.str [],.int .i64 0]) [(0,112)]),
uO 114 (.app (some 8) 111 113),
mV 5 114] [0,5,6,7,11,12])
def z4x (C:Hd)(gl:GL)(v0 v5 v6 v7 v9 v11 v12:AV)(h:aA)(x:Esc)(K:KT):Prop:=
 pK (eA (some 8) v9 h) fun t1=>
 wK (RA false (some 8) 1 (.agg [.str [],.int .i64 0,.int .i64 0,.int .i64 0,.str [],.str [],.str [],.int .i64 0]) [(0,t1)] h) fun t2 h3 y4=>
 wK (dD (some 8) v5 t2 h3) fun t5 h6 y7=>
 K .normal ⟨[(0,v0),(5,t5),(6,v6),(7,v7),(11,v11),(12,v12)],h6,(y7++(y4++x))⟩
theorem zha {C gl e h x K}:NW C gl uT ⟨e,h,x⟩ K=z4x C gl (bA e 0) (bA e 5) (bA e 6) (bA e 7) (bA e 9) (bA e 11) (bA e 12) h x K:=by kernel_rfl
def z19 (q2:ACode):ACode:=.pr [0,5,6,7,9,11,12] (.seq (.seq (rg [mV 71 0,
cL 72 vE [71,(cI 100)]] [0,5,6,7,9,11,12,72])
(.cond 72 (.seq (rg [mV 73 0,
cL 74 AD [73,(cI 3)]] [0,5,6,7,9,11,12,74])
(.block 3 (.seq (rg [bN 83 .eql 74 (cI 0),
mV 82 83] [0,5,6,7,9,11,12,74,82])
(.cond 82 (rg [mV 84 0,
fA 85 0 none 9,
lD 86 none 85,
uO 87 (.bsl false none 2 (.str []) [(0,(cS [])),(1,86)]),
cL 88 aC [84,87],
mV 89 0,
cL 90 VD [89,(cI 1),(cI 9)],
mV 91 0,
cL 92 VD [91,(cI 0),(cI 100)],
fA 93 0 none 9,
wO (.store none 93 88),
fA 94 1 none 9,
wO (.store none 94 90),
fA 95 2 none 9,
wO (.store none 95 92)] [0,5,6,7,9,11,12])
(.seq (rg [bN 97 .eql 74 (cI 1),
mV 96 97] [0,5,6,7,9,11,12,96])
(.cond 96 (dr [dF (mV 98 0) [0],
dT (cL 99 VD [98,(cI 1),(cI 7)]) [98],
dF (mV 100 0) [0],
dF (fA 101 4 none 9) [9],
dA (lD 102 none 101) [101] false [1] [],
dA (uO 103 (.bsl false none 3 (.str []) [(0,(cS [])),(1,(cS [65])),(2,102)])) [102] false [1] [],
dT (cL 104 aC [100,103]) [100,103],
dF (mV 105 0) [0],
dA (uO 106 (.bsl false none 2 (.str []) [(0,(cS [])),(1,(cS [115,99,97,110]))])) [] false [1,6] [],
dT (cL 107 aC [105,106]) [105,106],
dF (fA 108 3 none 9) [9],
dT (wO (.store none 108 99)) [108,99],
dF (fA 109 4 none 9) [9],
dT (wO (.store none 109 104)) [109,104],
dF (fA 110 5 none 9) [9],
dT (wO (.store none 110 107)) [110,107]] [0,5,6,7,9,11,12])
(rg [mV 75 0,
uO 76 (.bsl false none 2 (.str []) [(0,(cS [])),(1,(cS [115,97]))]),
cL 77 aC [75,76],
mV 78 0,
cL 79 VD [78,(cI 0),(cI 5)],
fA 80 6 none 9,
wO (.store none 80 77),
fA 81 7 none 9,
wO (.store none 81 79)] [0,5,6,7,9,11,12])))))))
.skip))
q2)
def qP:ACode:=z19 uT
def uG (C:Hd)(gl:GL)(q2:ACode)(v0 v5 v6 v7 v9 v11 v12:AV)(h:aA)(x:Esc)(K:KT):Prop:=
 C vE [v0,(AI 100)] h fun t1 h2 y3=>
 mA t1 (C AD [v0,(AI 3)] h2 fun t4 h5 y6=>
 pK (gA .eql t4 (AI 0)) fun t7=>
 mA t7 (pK (jA 0 none v9) fun t8=>
 pK (eA none t8 h5) fun t9=>
 wK (RA false none 2 (.str []) [(0,(.p (.str []))),(1,t9)] h5) fun t10 h11 y12=>
 C aC [v0,t10] h11 fun t13 h14 y15=>
 C VD [v0,(AI 1),(AI 9)] h14 fun t16 h17 y18=>
 C VD [v0,(AI 0),(AI 100)] h17 fun t19 h20 y21=>
 pK (jA 0 none v9) fun t22=>
 wK (tA none t22 t13 h20) fun t23 h24 y25=>
 pK (jA 1 none v9) fun t26=>
 wK (tA none t26 t16 h24) fun t27 h28 y29=>
 pK (jA 2 none v9) fun t30=>
 wK (tA none t30 t19 h28) fun t31 h32 y33=>
 NW C gl q2 ⟨[(0,v0),(5,v5),(6,v6),(7,v7),(9,v9),(11,v11),(12,v12)],h32,(y33++(y29++(y25++(y21++(y18++(y15++(y12++(y6++(y3++x)))))))))⟩ K)
 (pK (gA .eql t4 (AI 1)) fun t34=>
 mA t34 (YA C VD [v0,(AI 1),(AI 7)] h5 fun t35 h36 y37=>
 pK (jA 4 none v9) fun t38=>
 pK (eA none t38 h36) fun t39=>
 (pK (eA none t38 h5) fun v=>(fun u (g1:aA) (y1:Esc)=>u=t39∧g1=h5∧y1=[]) v h5 [])∧(wK (RA false none 3 (.str []) [(0,(.p (.str []))),(1,(.p (.str [65]))),(2,t39)] h36) fun t40 h41 y42=>
 (h41=h36∧y42=[])∧((wK (RA false none 3 (.str []) [(0,(.p (.str []))),(1,(.p (.str [65]))),(2,t39)] h5) (fun u (g1:aA) (y1:Esc)=>u=t40∧g1=h5∧y1=[]))∧(YA C aC [v0,t40] h41 fun t43 h44 y45=>
 wK (RA false none 2 (.str []) [(0,(.p (.str []))),(1,(.p (.str [115,99,97,110])))] h44) fun t46 h47 y48=>
 (h47=h44∧y48=[])∧((wK (RA false none 2 (.str []) [(0,(.p (.str []))),(1,(.p (.str [115,99,97,110])))] h5) (fun u (g1:aA) (y1:Esc)=>u=t46∧g1=h5∧y1=[]))∧((wK (RA false none 2 (.str []) [(0,(.p (.str []))),(1,(.p (.str [115,99,97,110])))] h41) (fun u (g1:aA) (y1:Esc)=>u=t46∧g1=h41∧y1=[]))∧(YA C aC [v0,t46] h47 fun t49 h50 y51=>
 pK (jA 3 none v9) fun t52=>
 wK (tA none t52 t35 h50) fun t53 h54 y55=>
 pK (jA 4 none v9) fun t56=>
 wK (tA none t56 t43 h54) fun t57 h58 y59=>
 pK (jA 5 none v9) fun t60=>
 wK (tA none t60 t49 h58) fun t61 h62 y63=>
 NW C gl q2 ⟨[(0,v0),(5,v5),(6,v6),(7,v7),(9,v9),(11,v11),(12,v12)],h62,(y63++(y59++(y55++(y51++(y48++(y45++(y42++(y37++(y6++(y3++x))))))))))⟩ K)))))))
 (wK (RA false none 2 (.str []) [(0,(.p (.str []))),(1,(.p (.str [115,97])))] h5) fun t64 h65 y66=>
 C aC [v0,t64] h65 fun t67 h68 y69=>
 C VD [v0,(AI 0),(AI 5)] h68 fun t70 h71 y72=>
 pK (jA 6 none v9) fun t73=>
 wK (tA none t73 t67 h71) fun t74 h75 y76=>
 pK (jA 7 none v9) fun t77=>
 wK (tA none t77 t70 h75) fun t78 h79 y80=>
 NW C gl q2 ⟨[(0,v0),(5,v5),(6,v6),(7,v7),(9,v9),(11,v11),(12,v12)],h79,(y80++(y76++(y72++(y69++(y66++(y6++(y3++x)))))))⟩ K)))
 (NW C gl q2 ⟨[(0,v0),(5,v5),(6,v6),(7,v7),(9,v9),(11,v11),(12,v12),(72,t1)],h2,(y3++x)⟩ K)
theorem zaC {C gl q2 e h x K}:NW C gl (z19 q2) ⟨e,h,x⟩ K=uG C gl q2 (bA e 0) (bA e 5) (bA e 6) (bA e 7) (bA e 9) (bA e 11) (bA e 12) h x K:=by kernel_rfl
theorem eL {C gl e h x K}:NW C gl qP ⟨e,h,x⟩ K=uG C gl uT (bA e 0) (bA e 5) (bA e 6) (bA e 7) (bA e 9) (bA e 11) (bA e 12) h x K:=zaC
def z1A (q1 q3:ACode):ACode:=.pr [0,5,6,7,8,9,11,12] (.seq (rg [mV 31 7,
fA 32 0 none 9,
lD 33 none 32,
uO 34 (.look (none,[2]) false (AI 0) 31 33),
bN 35 .add 34 (cI 1),
wO (.mupd (none,[2]) 31 33 35)] [0,5,6,7,8,9,11,12])
(.seq (rg [mV 36 7,
fA 37 0 none 9,
lD 38 none 37,
uO 39 (.look (none,[2]) false (AI 0) 36 38),
fA 40 1 none 9,
wO (.store none 40 39)] [0,5,6,7,8,9,11,12])
(.seq (.seq (rg [fA 41 3 none 9,
lD 42 none 41] [0,5,6,7,8,9,11,12,42])
(.block 2 (.seq (rg [bN 63 .eql 42 (cI 7),
mV 62 63] [0,5,6,7,8,9,11,12,62])
(.cond 62 (rg [mV 64 0,
uO 65 (.bsl false none 2 (.str []) [(0,(cS [115,97])),(1,(cS [115,98]))]),
cL 66 aC [64,65],
mV 67 0,
cL 68 lC [67,(cI 1),(cI 8)],
fA 69 6 none 9,
wO (.store none 69 66),
fA 70 7 none 9,
wO (.store none 70 68)] [0,5,6,7,9,11,12])
(.seq (rg [uO 43 (.bsl false none 3 (.str []) [(0,(cS [98,49])),(1,(cS [98,50])),(2,(cS [98,51]))]),
mV 44 8,
bN 45 .rem 44 (cI 3),
iA 46 none 43 45,
lD 47 none 46,
fA 48 4 none 9,
wO (.store none 48 47)] [0,5,6,7,8,9,11,12])
(.seq (.seq (rg [mV 49 8,
bN 50 .geq 49 (cI 3)] [0,5,6,7,9,11,12,50])
(.cond 50 (rg [mV 51 0,
uO 52 (.bsl false none 5 (.str []) [(0,(cS [98,49])),(1,(cS [98,49])),(2,(cS [98,50])),(3,(cS [98,51])),(4,(cS [98,52]))]),
cL 53 aC [51,52],
fA 54 4 none 9,
wO (.store none 54 53)] [0,5,6,7,9,11,12])
.skip))
q1))))))
q3)))
def vT:ACode:=z1A pP qP
def DJ (C:Hd)(gl:GL)(q1 q3:ACode)(v0 v5 v6 v7 v8 v9 v11 v12:AV)(h:aA)(x:Esc)(K:KT):Prop:=
 pK (jA 0 none v9) fun t1=>
 pK (eA none t1 h) fun t2=>
 pK (QA (none,[2]) false (AI 0) v7 t2 h) fun t3=>
 pK (gA .add t3 (AI 1)) fun t4=>
 wK (oB (none,[2]) v7 t2 t4 h) fun t5 h6 y7=>
 pK (jA 0 none v9) fun t8=>
 pK (eA none t8 h6) fun t9=>
 pK (QA (none,[2]) false (AI 0) v7 t9 h6) fun t10=>
 pK (jA 1 none v9) fun t11=>
 wK (tA none t11 t10 h6) fun t12 h13 y14=>
 pK (jA 3 none v9) fun t15=>
 pK (eA none t15 h13) fun t16=>
 pK (gA .eql t16 (AI 7)) fun t17=>
 mA t17 (wK (RA false none 2 (.str []) [(0,(.p (.str [115,97]))),(1,(.p (.str [115,98])))] h13) fun t18 h19 y20=>
 C aC [v0,t18] h19 fun t21 h22 y23=>
 C lC [v0,(AI 1),(AI 8)] h22 fun t24 h25 y26=>
 pK (jA 6 none v9) fun t27=>
 wK (tA none t27 t21 h25) fun t28 h29 y30=>
 pK (jA 7 none v9) fun t31=>
 wK (tA none t31 t24 h29) fun t32 h33 y34=>
 NW C gl q3 ⟨[(0,v0),(5,v5),(6,v6),(7,v7),(9,v9),(11,v11),(12,v12)],h33,(y34++(y30++(y26++(y23++(y20++(y14++(y7++x)))))))⟩ K)
 (wK (RA false none 3 (.str []) [(0,(.p (.str [98,49]))),(1,(.p (.str [98,50]))),(2,(.p (.str [98,51])))] h13) fun t35 h36 y37=>
 pK (gA .rem v8 (AI 3)) fun t38=>
 pK (wA none t35 t38 h36) fun t39=>
 pK (eA none t39 h36) fun t40=>
 pK (jA 4 none v9) fun t41=>
 wK (tA none t41 t40 h36) fun t42 h43 y44=>
 pK (gA .geq v8 (AI 3)) fun t45=>
 mA t45 (wK (RA false none 5 (.str []) [(0,(.p (.str [98,49]))),(1,(.p (.str [98,49]))),(2,(.p (.str [98,50]))),(3,(.p (.str [98,51]))),(4,(.p (.str [98,52])))] h43) fun t46 h47 y48=>
 C aC [v0,t46] h47 fun t49 h50 y51=>
 pK (jA 4 none v9) fun t52=>
 wK (tA none t52 t49 h50) fun t53 h54 y55=>
 NW C gl q1 ⟨[(0,v0),(5,v5),(6,v6),(7,v7),(9,v9),(11,v11),(12,v12)],h54,(y55++(y51++(y48++(y44++(y37++(y14++(y7++x)))))))⟩ (yA 2 (NA C gl q3 K)))
 (NW C gl q1 ⟨[(0,v0),(5,v5),(6,v6),(7,v7),(9,v9),(11,v11),(12,v12),(50,t45)],h43,(y44++(y37++(y14++(y7++x))))⟩ (yA 2 (NA C gl q3 K))))
theorem zaD {C gl q1 q3 e h x K}:NW C gl (z1A q1 q3) ⟨e,h,x⟩ K=DJ C gl q1 q3 (bA e 0) (bA e 5) (bA e 6) (bA e 7) (bA e 8) (bA e 9) (bA e 11) (bA e 12) h x K:=by kernel_rfl
theorem VY {C gl e h x K}:NW C gl vT ⟨e,h,x⟩ K=DJ C gl pP qP (bA e 0) (bA e 5) (bA e 6) (bA e 7) (bA e 8) (bA e 9) (bA e 11) (bA e 12) h x K:=zaD
def wT:ACode:=.pr [0,5,6,7,11,12] (rg [bN 115 .add 12 (cI 1),
mV 12 115] [0,5,6,7,11,12])
def z4y (C:Hd)(gl:GL)(v0 v5 v6 v7 v11 v12:AV)(h:aA)(x:Esc)(K:KT):Prop:=
 pK (gA .add v12 (AI 1)) fun t1=>
 K .normal ⟨[(0,v0),(5,v5),(6,v6),(7,v7),(11,v11),(12,t1)],h,x⟩
theorem zhb {C gl e h x K}:NW C gl wT ⟨e,h,x⟩ K=z4y C gl (bA e 0) (bA e 5) (bA e 6) (bA e 7) (bA e 11) (bA e 12) h x K:=by kernel_rfl
def z1B (q4 q5:ACode):ACode:=.pr [0,5,6,7,11,12] (.seq (rg [bN 13 .lss 12 11] [0,5,6,7,11,12,13])
(.seq (.cond 13 .skip
(.exit 0))
(.seq (.block 1 (.seq (rg [mV 14 12,
mV 8 14] [0,5,6,7,8,11,12])
(.seq (rg [mV 15 6,
mV 16 0,
uO 17 (.bsl false none 5 (.int .i64 0) [(0,(cI 0)),(1,(cI 1)),(2,(cI 1)),(3,(cI 3)),(4,(cI 10))]),
cL 18 wE [16,17],
bN 19 .add 15 18,
mV 6 19] [0,5,6,7,8,11,12])
(.seq (rg [mV 20 0,
uO 21 (.bsl false none 3 (.str []) [(0,(cS [115,97])),(1,(cS [115,97])),(2,(cS [115,98]))]),
cL 22 aC [20,21],
mV 23 6,
mV 24 0,
uO 25 (.bsl false none 12 (.int .i64 0) [(0,(cI 2)),(1,(cI 2)),(2,(cI 2)),(3,(cI 3)),(4,(cI 3)),(5,(cI 4)),(6,(cI 4)),(7,(cI 5)),(8,(cI 5)),(9,(cI 6)),(10,(cI 7)),(11,(cI 1))]),
cL 26 wE [24,25],
uO 27 (.build [.p (.str []),.p (.int .i64 0),.p (.int .i64 0),.p (.int .i64 0),.p (.str []),.p (.str []),.p (.str []),.p (.int .i64 0)] [(0,1,22),(2,1,23),(3,1,26)]),
uO 9 (.alloc [.p (.str []),.p (.int .i64 0),.p (.int .i64 0),.p (.int .i64 0),.p (.str []),.p (.str []),.p (.str []),.p (.int .i64 0)]),
wO (.store (some 8) 9 27)] [0,5,6,7,8,9,11,12])
(.seq (.seq (rg [mV 28 8,
bN 29 .lss 28 (cI 3)] [0,5,6,7,8,9,11,12,29])
(.cond 29 (rg [fA 30 3 none 9,
wO (.store none 30 (cI 1))] [0,5,6,7,8,9,11,12])
.skip))
q4)))))
q5)))
def GM:ACode:=z1B vT wT
def LX (C:Hd)(gl:GL)(q4 q5:ACode)(v0 v5 v6 v7 v11 v12:AV)(h:aA)(x:Esc)(K:KT):Prop:=
 pK (gA .lss v12 v11) fun t1=>
 mA t1 (wK (RA false none 5 (.int .i64 0) [(0,(AI 0)),(1,(AI 1)),(2,(AI 1)),(3,(AI 3)),(4,(AI 10))] h) fun t2 h3 y4=>
 C wE [v0,t2] h3 fun t5 h6 y7=>
 pK (gA .add v6 t5) fun t8=>
 wK (RA false none 3 (.str []) [(0,(.p (.str [115,97]))),(1,(.p (.str [115,97]))),(2,(.p (.str [115,98])))] h6) fun t9 h10 y11=>
 C aC [v0,t9] h10 fun t12 h13 y14=>
 wK (RA false none 12 (.int .i64 0) [(0,(AI 2)),(1,(AI 2)),(2,(AI 2)),(3,(AI 3)),(4,(AI 3)),(5,(AI 4)),(6,(AI 4)),(7,(AI 5)),(8,(AI 5)),(9,(AI 6)),(10,(AI 7)),(11,(AI 1))] h13) fun t15 h16 y17=>
 C wE [v0,t15] h16 fun t18 h19 y20=>
 pK (RB [.p (.str []),.p (.int .i64 0),.p (.int .i64 0),.p (.int .i64 0),.p (.str []),.p (.str []),.p (.str []),.p (.int .i64 0)] [(0,1,t12),(2,1,t8),(3,1,t18)]) fun t21=>
 alK [.p (.str []),.p (.int .i64 0),.p (.int .i64 0),.p (.int .i64 0),.p (.str []),.p (.str []),.p (.str []),.p (.int .i64 0)] h19 fun t22 h23 y24=>
 wK (tA (some 8) t22 t21 h23) fun t25 h26 y27=>
 pK (gA .lss v12 (AI 3)) fun t28=>
 mA t28 (pK (jA 3 none t22) fun t29=>
 wK (tA none t29 (AI 1) h26) fun t30 h31 y32=>
 NW C gl q4 ⟨[(0,v0),(5,v5),(6,t8),(7,v7),(8,v12),(9,t22),(11,v11),(12,v12)],h31,(y32++(y27++(y24++(y20++(y17++(y14++(y11++(y7++(y4++x)))))))))⟩ (yA 1 (NA C gl q5 K)))
 (NW C gl q4 ⟨[(0,v0),(5,v5),(6,t8),(7,v7),(8,v12),(9,t22),(11,v11),(12,v12),(29,t28)],h26,(y27++(y24++(y20++(y17++(y14++(y11++(y7++(y4++x))))))))⟩ (yA 1 (NA C gl q5 K))))
 (K (.exit 0) ⟨[(0,v0),(5,v5),(6,v6),(7,v7),(11,v11),(12,v12),(13,t1)],h,x⟩)
theorem zaE {C gl q4 q5 e h x K}:NW C gl (z1B q4 q5) ⟨e,h,x⟩ K=LX C gl q4 q5 (bA e 0) (bA e 5) (bA e 6) (bA e 7) (bA e 11) (bA e 12) h x K:=by kernel_rfl
theorem zhc {C gl e h x K}:NW C gl GM ⟨e,h,x⟩ K=LX C gl vT wT (bA e 0) (bA e 5) (bA e 6) (bA e 7) (bA e 11) (bA e 12) h x K:=zaE
theorem zlQ {C gl e h x K}:NW C gl (.loop (.scope GM)) ⟨e,h,x⟩ K=PA C gl (.scope GM) K [(0,bA e 0),(5,bA e 5),(6,bA e 6),(7,bA e 7),(11,bA e 11),(12,bA e 12)] h x:=ZC
def rP:ACode:=.pr [5] (.seq (rg [mV 116 5,
cL 117 XL [116,(.f AG)]] [5])
(.seq (rg [mV 118 5,
mV 4 118] [4])
.ret))
def z4z (C:Hd)(gl:GL)(v5:AV)(h:aA)(x:Esc)(K:KT):Prop:=
 C XL [v5,(.fn AG [])] h fun t1 h2 y3=>
 K .ret ⟨[(4,v5)],h2,(y3++x)⟩
theorem zhd {C gl e h x K}:NW C gl rP ⟨e,h,x⟩ K=z4z C gl (bA e 5) h x K:=by kernel_rfl
def z18 (q6 q7:ACode):ACode:=(.seq (rg [mV 4 (.c (.p (.sl (some 8) [])))] [0,1])
(.seq (rg [uO 5 (.new0 (some 8))] [0,1,5])
(.seq (rg [mV 6 (cI 0)] [0,1,5,6])
(.seq (rg [uO 10 (.mkmap),
mV 7 10] [0,1,5,6,7])
(.seq (.seq (rg [mV 11 1,
mV 12 (cI 0)] [0,5,6,7,11,12])
(.block 0 (.loop (.scope q6))))
q7)))))
def GV:AFun:=⟨2,[.t 4],z18 GM rP,false,false⟩
def oR (C:Hd)(gl:GL)(q6 q7:ACode)(v0 v1:AV)(h:aA)(x:Esc)(K:KT):Prop:=
 nwK (some 8) h fun t1 h2 y3=>
 mmK h2 fun t4 h5 y6=>
 NW C gl (.loop (.scope q6)) ⟨[(0,v0),(5,t1),(6,(AI 0)),(7,t4),(11,v1),(12,(AI 0))],h5,(y6++(y3++x))⟩ (yA 0 (NA C gl q7 K))
theorem zaB {C gl q6 q7 v0 v1 h x K}:NW C gl (z18 q6 q7) ⟨enter [v0,v1],h,x⟩ K=oR C gl q6 q7 v0 v1 h x K:=by kernel_rfl
theorem zgZ {C gl v0 v1 h x K}:NW C gl GV.body ⟨enter [v0,v1],h,x⟩ K=oR C gl GM rP v0 v1 h x K:=zaB
def zc3:ACode:=(.seq (rg [mV 6 (cI 0)] [0,1,2])
(.seq (.seq (rg [mV 7 2,
mV 8 1,
bN 9 .lss 7 8] [0,1,2,9])
(.cond 9 (.seq (rg [mV 10 1,
mV 6 10] [6])
.ret)
.skip))
(.seq (rg [mV 11 1,
mV 12 0,
mV 13 2,
mV 14 1,
bN 15 .sub 13 14,
bN 16 .add 15 (cI 1),
cL 17 AD [12,16],
bN 18 .add 11 17,
mV 6 18] [6])
.ret)))
def MV:AFun:=⟨3,[.t 6],zc3,false,false⟩
def PX (C:Hd)(gl:GL)(v0 v1 v2:AV)(h:aA)(x:Esc)(K:KT):Prop:=
 pK (gA .lss v2 v1) fun t1=>
 mA t1 (K .ret ⟨[(6,v1)],h,x⟩)
 (pK (gA .sub v2 v1) fun t2=>
 pK (gA .add t2 (AI 1)) fun t3=>
 C AD [v0,t3] h fun t4 h5 y6=>
 pK (gA .add v1 t4) fun t7=>
 K .ret ⟨[(6,t7)],h5,(y6++x)⟩)
theorem zhj {C gl v0 v1 v2 h x K}:NW C gl MV.body ⟨enter [v0,v1,v2],h,x⟩ K=PX C gl v0 v1 v2 h x K:=by kernel_rfl
def zcy:ACode:=(.seq (rg [mV 2 (cI 0)] [0])
(.seq (rg [mV 3 0,
uO 4 (.bsl false none 9 (.int .i64 0) [(0,(cI 5)),(1,(cI 10)),(2,(cI 20)),(3,(cI 40)),(4,(cI 100)),(5,(cI 500)),(6,(cI 0)),(7,(cI (-1))),(8,(cI 345686400000))]),
cL 5 wE [3,4],
mV 2 5] [2])
.ret))
def HV:AFun:=⟨1,[.t 2],zcy,false,false⟩
def MX (C:Hd)(gl:GL)(v0:AV)(h:aA)(x:Esc)(K:KT):Prop:=
 wK (RA false none 9 (.int .i64 0) [(0,(AI 5)),(1,(AI 10)),(2,(AI 20)),(3,(AI 40)),(4,(AI 100)),(5,(AI 500)),(6,(AI 0)),(7,(AI (-1))),(8,(AI 345686400000))] h) fun t1 h2 y3=>
 C wE [v0,t1] h2 fun t4 h5 y6=>
 K .ret ⟨[(2,t4)],h5,(y6++(y3++x))⟩
theorem zhe {C gl v0 h x K}:NW C gl HV.body ⟨enter [v0],h,x⟩ K=MX C gl v0 h x K:=by kernel_rfl
def zc4:ACode:=(.seq (rg [mV 4 (cS [])] [0,1])
(.seq (rg [mV 5 1,
mV 6 0,
mV 7 1,
lN 8 7,
cL 9 AD [6,8],
iA 10 none 5 9,
lD 11 none 10,
mV 4 11] [4])
.ret))
def NV:AFun:=⟨2,[.t 4],zc4,false,false⟩
def QX (C:Hd)(gl:GL)(v0 v1:AV)(h:aA)(x:Esc)(K:KT):Prop:=
 pK (OA v1) fun t1=>
 C AD [v0,t1] h fun t2 h3 y4=>
 pK (wA none v1 t2 h3) fun t5=>
 pK (eA none t5 h3) fun t6=>
 K .ret ⟨[(4,t6)],h3,(y4++x)⟩
theorem zhk {C gl v0 v1 h x K}:NW C gl NV.body ⟨enter [v0,v1],h,x⟩ K=QX C gl v0 v1 h x K:=by kernel_rfl
def zcS:ACode:=(.seq (rg [uO 3 (.box 0),
mV 6 (.c (.p (.sl none []))),
mV 7 (.c (.p (.sl none []))),
mV 8 (cI 0)] [1,2,3])
(.seq (.seq (rg [lD 11 (some 2) 3,
mV 12 1,
mV 13 2,
cL 14 WD [11,12,13],
mV 9 14] [1,2,3,9])
(.seq (rg [mV 15 9,
bN 16 .neq 15 (cI 0)] [1,2,3,9,16])
(.cond 16 (.seq (rg [mV 17 9,
mV 6 (.c (.p (.sl none []))),
mV 7 (.c (.p (.sl none []))),
mV 8 17] [6,7,8])
.ret)
.skip)))
(.seq (dr [dF (lD 18 (some 2) 3) [3],
dF (mV 19 1) [1],
dF (mV 20 2) [2],
dA (cL 21 XD [19,20]) [19,20] true [] [0],
dT (cL 22 FC [18,21]) [18,21],
dF (mV 10 22) [22]] [10])
(.seq (dr [dF (mV 23 10) [10],
dF (uO 24 (.nilchk 23)) [23],
dF (fA 25 6 none 24) [24],
dF (lD 26 none 25) [25],
dF (mV 27 10) [10],
dF (uO 28 (.nilchk 27)) [27],
dF (fA 29 7 none 28) [28],
dF (lD 30 none 29) [29],
dF (mV 6 26) [26],
dF (mV 7 30) [30],
dF (mV 8 (cI 0)) []] [6,7,8])
.ret))))
def VW:AFun:=⟨3,[.t 6,.t 7,.t 8],zcS,false,false⟩
def YR (C:Hd)(gl:GL)(v0 v1 v2:AV)(h:aA)(x:Esc)(K:KT):Prop:=
 wK (vB v0 h) fun t1 h2 y3=>
 pK (eA (some 2) t1 h2) fun t4=>
 C WD [t4,v1,v2] h2 fun t5 h6 y7=>
 pK (gA .neq t5 (AI 0)) fun t8=>
 mA t8 (K .ret ⟨[(6,(.p (.sl none []))),(7,(.p (.sl none []))),(8,t5)],h6,(y7++(y3++x))⟩)
 (pK (eA (some 2) t1 h6) fun t9=>
 YA C XD [v1,v2] h6 fun t10 h11 y12=>
 (pK (eA (some 2) t1 h11) fun v=>(fun u (g1:aA) (y1:Esc)=>u=t9∧g1=h11∧y1=[]) v h11 [])∧(YA C FC [t9,t10] h11 fun t13 h14 y15=>
 pK (rA t13) fun t16=>
 pK (jA 6 none t16) fun t17=>
 pK (eA none t17 h14) fun t18=>
 pK (rA t13) fun t19=>
 pK (jA 7 none t19) fun t20=>
 pK (eA none t20 h14) fun t21=>
 K .ret ⟨[(6,t18),(7,t21),(8,(AI 0))],h14,(y15++(y12++(y7++(y3++x))))⟩))
theorem zjJ {C gl v0 v1 v2 h x K}:NW C gl VW.body ⟨enter [v0,v1,v2],h,x⟩ K=YR C gl v0 v1 v2 h x K:=by kernel_rfl
def zcR:ACode:=(.seq (rg [uO 4 (.box 0),
uO 8 (.alloc [.p (.int .i64 0),.p (.int .i64 0),.p (.str []),.p (.str []),.p (.int .i64 0)]),
mV 9 (cI 0)] [1,2,3,4,8])
(.seq (.seq (rg [lD 12 (some 2) 4,
mV 13 1,
mV 14 3,
cL 15 WD [12,13,14],
mV 10 15] [1,2,3,4,8,10])
(.seq (rg [mV 16 10,
bN 17 .neq 16 (cI 0)] [1,2,3,4,8,10,17])
(.cond 17 (.seq (rg [uO 18 (.build [.p (.int .i64 0),.p (.int .i64 0),.p (.str []),.p (.str []),.p (.int .i64 0)] []),
mV 19 10,
wO (.store (some 5) 8 18),
mV 9 19] [8,9])
.ret)
.skip)))
(.seq (.seq (rg [mV 20 2,
cL 21 pD [20],
uO 22 (.un .not 21)] [1,2,3,4,8,22])
(.cond 22 (.seq (rg [uO 23 (.build [.p (.int .i64 0),.p (.int .i64 0),.p (.str []),.p (.str []),.p (.int .i64 0)] []),
wO (.store (some 5) 8 23),
mV 9 (cI 5)] [8,9])
.ret)
.skip))
(.seq (dr [dF (lD 24 (some 2) 4) [4],
dF (mV 25 1) [1],
dF (mV 26 3) [3],
dA (cL 27 XD [25,26]) [25,26] true [] [0],
dT (cL 28 FC [24,27]) [24,27],
dF (uO 29 (.nilchk 28)) [28],
dF (fA 30 2 none 29) [29],
dF (lD 31 none 30) [30],
dF (mV 32 2) [2],
dF (uO 33 (.look (none,[2]) false (.nilp) 31 32)) [31,32],
dF (mV 11 33) [33]] [8,11])
(.seq (.seq (rg [mV 34 11,
uO 35 (.isnil 0 false 34)] [8,11,35])
(.cond 35 (.seq (rg [uO 36 (.build [.p (.int .i64 0),.p (.int .i64 0),.p (.str []),.p (.str []),.p (.int .i64 0)] []),
wO (.store (some 5) 8 36),
mV 9 (cI 8)] [8,9])
.ret)
.skip))
(.seq (rg [mV 37 11,
uO 38 (.nilchk 37),
lD 39 (some 5) 38,
wO (.store (some 5) 8 39),
mV 9 (cI 0)] [8,9])
.ret))))))
def yQ:AFun:=⟨4,[.cell 8 (some 5),.t 9],zcR,false,false⟩
def YK (C:Hd)(gl:GL)(v0 v1 v2 v3:AV)(h:aA)(x:Esc)(K:KT):Prop:=
 wK (vB v0 h) fun t1 h2 y3=>
 alK [.p (.int .i64 0),.p (.int .i64 0),.p (.str []),.p (.str []),.p (.int .i64 0)] h2 fun t4 h5 y6=>
 pK (eA (some 2) t1 h5) fun t7=>
 C WD [t7,v1,v3] h5 fun t8 h9 y10=>
 pK (gA .neq t8 (AI 0)) fun t11=>
 mA t11 (pK (RB [.p (.int .i64 0),.p (.int .i64 0),.p (.str []),.p (.str []),.p (.int .i64 0)] []) fun t12=>
 wK (tA (some 5) t4 t12 h9) fun t13 h14 y15=>
 K .ret ⟨[(8,t4),(9,t8)],h14,(y15++(y10++(y6++(y3++x))))⟩)
 (C pD [v2] h9 fun t16 h17 y18=>
 pK (oUn .not t16) fun t19=>
 mA t19 (pK (RB [.p (.int .i64 0),.p (.int .i64 0),.p (.str []),.p (.str []),.p (.int .i64 0)] []) fun t20=>
 wK (tA (some 5) t4 t20 h17) fun t21 h22 y23=>
 K .ret ⟨[(8,t4),(9,(AI 5))],h22,(y23++(y18++(y10++(y6++(y3++x)))))⟩)
 (pK (eA (some 2) t1 h17) fun t24=>
 YA C XD [v1,v3] h17 fun t25 h26 y27=>
 (pK (eA (some 2) t1 h26) fun v=>(fun u (g1:aA) (y1:Esc)=>u=t24∧g1=h26∧y1=[]) v h26 [])∧(YA C FC [t24,t25] h26 fun t28 h29 y30=>
 pK (rA t28) fun t31=>
 pK (jA 2 none t31) fun t32=>
 pK (eA none t32 h29) fun t33=>
 pK (QA (none,[2]) false (.nilp) t33 v2 h29) fun t34=>
 pK (AM 0 false t34) fun t35=>
 mA t35 (pK (RB [.p (.int .i64 0),.p (.int .i64 0),.p (.str []),.p (.str []),.p (.int .i64 0)] []) fun t36=>
 wK (tA (some 5) t4 t36 h29) fun t37 h38 y39=>
 K .ret ⟨[(8,t4),(9,(AI 8))],h38,(y39++(y30++(y27++(y18++(y10++(y6++(y3++x)))))))⟩)
 (pK (rA t34) fun t40=>
 pK (eA (some 5) t40 h29) fun t41=>
 wK (tA (some 5) t4 t41 h29) fun t42 h43 y44=>
 K .ret ⟨[(8,t4),(9,(AI 0))],h43,(y44++(y30++(y27++(y18++(y10++(y6++(y3++x)))))))⟩))))
theorem zjI {C gl v0 v1 v2 v3 h x K}:NW C gl yQ.body ⟨enter [v0,v1,v2,v3],h,x⟩ K=YK C gl v0 v1 v2 v3 h x K:=by kernel_rfl
def zcT:ACode:=(.seq (rg [uO 4 (.box 0),
mV 8 (.c (.p (.sl none []))),
mV 9 (cI 0)] [1,2,3,4])
(.seq (.seq (rg [lD 11 (some 2) 4,
mV 12 1,
mV 13 2,
mV 14 3,
cL 15 lM [11,12,13,14],
mV 10 15] [1,2,3,4,10])
(.seq (rg [mV 16 10,
bN 17 .neq 16 (cI 0)] [1,2,3,4,10,17])
(.cond 17 (.seq (rg [mV 18 10,
mV 8 (.c (.p (.sl none []))),
mV 9 18] [8,9])
.ret)
.skip)))
(.seq (dr [dF (lD 19 (some 2) 4) [4],
dF (mV 20 1) [1],
dF (mV 21 3) [3],
dA (cL 22 XD [20,21]) [20,21] true [] [0],
dT (cL 23 FC [19,22]) [19,22],
dF (mV 24 2) [2],
dT (cL 25 jM [23,24]) [23,24],
dF (mV 8 25) [25],
dF (mV 9 (cI 0)) []] [8,9])
.ret)))
def XW:AFun:=⟨4,[.t 8,.t 9],zcT,false,false⟩
def ZR (C:Hd)(gl:GL)(v0 v1 v2 v3:AV)(h:aA)(x:Esc)(K:KT):Prop:=
 wK (vB v0 h) fun t1 h2 y3=>
 pK (eA (some 2) t1 h2) fun t4=>
 C lM [t4,v1,v2,v3] h2 fun t5 h6 y7=>
 pK (gA .neq t5 (AI 0)) fun t8=>
 mA t8 (K .ret ⟨[(8,(.p (.sl none []))),(9,t5)],h6,(y7++(y3++x))⟩)
 (pK (eA (some 2) t1 h6) fun t9=>
 YA C XD [v1,v3] h6 fun t10 h11 y12=>
 (pK (eA (some 2) t1 h11) fun v=>(fun u (g1:aA) (y1:Esc)=>u=t9∧g1=h11∧y1=[]) v h11 [])∧(YA C FC [t9,t10] h11 fun t13 h14 y15=>
 YA C jM [t13,v2] h14 fun t16 h17 y18=>
 K .ret ⟨[(8,t16),(9,(AI 0))],h17,(y18++(y15++(y12++(y7++(y3++x)))))⟩))
theorem zjN {C gl v0 v1 v2 v3 h x K}:NW C gl XW.body ⟨enter [v0,v1,v2,v3],h,x⟩ K=ZR C gl v0 v1 v2 v3 h x K:=by kernel_rfl
def sN:ACode:=.pr [9,10,30,31,32] (.seq (rg [bN 33 .lss 32 31] [9,10,30,31,32,33])
(.seq (.cond 33 .skip
(.exit 0))
(.seq (.block 1 (.seq (rg [iA 34 none 30 32,
lD 35 none 34,
mV 12 35] [9,10,12,30,31,32])
(rg [mV 36 10,
mV 37 12,
mV 38 9,
uO 39 (.nilchk 38),
fA 40 3 none 39,
lD 41 none 40,
mV 42 12,
uO 43 (.look (none,[2]) false (.p (.str [])) 41 42),
uO 44 (.build [.p (.str []),.p (.str [])] [(0,1,37),(1,1,43)]),
uO 45 (.bsl false (some 2) 1 (.agg [.str [],.str []]) [(0,44)]),
uO 46 (.app (some 2) 36 45),
mV 10 46] [9,10,30,31,32])))
(rg [bN 47 .add 32 (cI 1),
mV 32 47] [9,10,30,31,32]))))
def z5D (C:Hd)(gl:GL)(v9 v10 v30 v31 v32:AV)(h:aA)(x:Esc)(K:KT):Prop:=
 pK (gA .lss v32 v31) fun t1=>
 mA t1 (pK (wA none v30 v32 h) fun t2=>
 pK (eA none t2 h) fun t3=>
 pK (rA v9) fun t4=>
 pK (jA 3 none t4) fun t5=>
 pK (eA none t5 h) fun t6=>
 pK (QA (none,[2]) false (.p (.str [])) t6 t3 h) fun t7=>
 pK (RB [.p (.str []),.p (.str [])] [(0,1,t3),(1,1,t7)]) fun t8=>
 wK (RA false (some 2) 1 (.agg [.str [],.str []]) [(0,t8)] h) fun t9 h10 y11=>
 wK (dD (some 2) v10 t9 h10) fun t12 h13 y14=>
 pK (gA .add v32 (AI 1)) fun t15=>
 K .normal ⟨[(9,v9),(10,t12),(30,v30),(31,v31),(32,t15)],h13,(y14++(y11++x))⟩)
 (K (.exit 0) ⟨[(9,v9),(10,v10),(30,v30),(31,v31),(32,v32),(33,t1)],h,x⟩)
theorem zjL {C gl e h x K}:NW C gl sN ⟨e,h,x⟩ K=z5D C gl (bA e 9) (bA e 10) (bA e 30) (bA e 31) (bA e 32) h x K:=by kernel_rfl
theorem zmA {C gl e h x K}:NW C gl (.loop (.scope sN)) ⟨e,h,x⟩ K=PA C gl (.scope sN) K [(9,bA e 9),(10,bA e 10),(30,bA e 30),(31,bA e 31),(32,bA e 32)] h x:=ZC
def bU:ACode:=.pr [10] (.seq (rg [mV 48 10,
mV 6 48,
mV 7 (cI 0)] [6,7])
.ret)
def z5E (C:Hd)(gl:GL)(v10:AV)(h:aA)(x:Esc)(K:KT):Prop:=
 K .ret ⟨[(6,v10),(7,(AI 0))],h,x⟩
theorem zjM {C gl e h x K}:NW C gl bU ⟨e,h,x⟩ K=z5E C gl (bA e 10) h x K:=by kernel_rfl
def z2N (q1 q2:ACode):ACode:=(.seq (rg [uO 3 (.box 0),
mV 6 (.c (.p (.sl (some 2) []))),
mV 7 (cI 0)] [1,2,3])
(.seq (.seq (rg [lD 13 (some 2) 3,
mV 14 1,
mV 15 2,
cL 16 WD [13,14,15],
mV 8 16] [1,2,3,8])
(.seq (rg [mV 17 8,
bN 18 .neq 17 (cI 0)] [1,2,3,8,18])
(.cond 18 (.seq (rg [mV 19 8,
mV 6 (.c (.p (.sl (some 2) []))),
mV 7 19] [6,7])
.ret)
.skip)))
(.seq (dr [dF (lD 20 (some 2) 3) [3],
dF (mV 21 1) [1],
dF (mV 22 2) [2],
dA (cL 23 XD [21,22]) [21,22] true [] [0],
dT (cL 24 FC [20,23]) [20,23],
dF (mV 9 24) [24]] [9])
(.seq (rg [uO 10 (.new0 (some 2))] [9,10])
(.seq (.seq (rg [mV 25 9,
uO 26 (.nilchk 25),
fA 27 3 none 26,
lD 28 none 27,
cL 29 lL [28],
cL 30 vS [29],
lN 31 30,
mV 32 (cI 0)] [9,10,30,31,32])
(.block 0 (.loop (.scope q1))))
q2)))))
def WW:AFun:=⟨3,[.t 6,.t 7],z2N sN bU,false,false⟩
def tO (C:Hd)(gl:GL)(q1 q2:ACode)(v0 v1 v2:AV)(h:aA)(x:Esc)(K:KT):Prop:=
 wK (vB v0 h) fun t1 h2 y3=>
 pK (eA (some 2) t1 h2) fun t4=>
 C WD [t4,v1,v2] h2 fun t5 h6 y7=>
 pK (gA .neq t5 (AI 0)) fun t8=>
 mA t8 (K .ret ⟨[(6,(.p (.sl (some 2) []))),(7,t5)],h6,(y7++(y3++x))⟩)
 (pK (eA (some 2) t1 h6) fun t9=>
 YA C XD [v1,v2] h6 fun t10 h11 y12=>
 (pK (eA (some 2) t1 h11) fun v=>(fun u (g1:aA) (y1:Esc)=>u=t9∧g1=h11∧y1=[]) v h11 [])∧(YA C FC [t9,t10] h11 fun t13 h14 y15=>
 nwK (some 2) h14 fun t16 h17 y18=>
 pK (rA t13) fun t19=>
 pK (jA 3 none t19) fun t20=>
 pK (eA none t20 h17) fun t21=>
 C lL [t21] h17 fun t22 h23 y24=>
 C vS [t22] h23 fun t25 h26 y27=>
 pK (OA t25) fun t28=>
 NW C gl (.loop (.scope q1)) ⟨[(9,t13),(10,t16),(30,t25),(31,t28),(32,(AI 0))],h26,(y27++(y24++(y18++(y15++(y12++(y7++(y3++x)))))))⟩ (yA 0 (NA C gl q2 K))))
theorem zbI {C gl q1 q2 v0 v1 v2 h x K}:NW C gl (z2N q1 q2) ⟨enter [v0,v1,v2],h,x⟩ K=tO C gl q1 q2 v0 v1 v2 h x K:=by kernel_rfl
theorem zjK {C gl v0 v1 v2 h x K}:NW C gl WW.body ⟨enter [v0,v1,v2],h,x⟩ K=tO C gl sN bU v0 v1 v2 h x K:=zbI
def rN:ACode:=.pr [9,30] (.seq (rg [uO 31 (.mnext none [30]),
eX 32 31 0] [9,30,32])
(.seq (.cond 32 .skip
(.exit 0))
(.block 1 (.seq (rg [uO 33 (.mentry 30),
eX 34 33 1,
mV 11 34] [9,11,30])
(rg [mV 35 9,
mV 36 11,
uO 37 (.nilchk 36),
fA 38 0 none 37,
lD 39 none 38,
uO 40 (.look (none,[0]) false (AI 0) 35 39),
bN 41 .add 40 (cI 1),
wO (.mupd (none,[0]) 35 39 41)] [9,30])))))
def z5A (C:Hd)(gl:GL)(v9 v30:AV)(h:aA)(x:Esc)(K:KT):Prop:=
 nxK v30 h fun t1 h2 y3=>
 pK (jB t1 0) fun t4=>
 mA t4 (wK (IC v30 h2) fun t5 h6 y7=>
 pK (jB t5 1) fun t8=>
 pK (rA t8) fun t9=>
 pK (jA 0 none t9) fun t10=>
 pK (eA none t10 h6) fun t11=>
 pK (QA (none,[0]) false (AI 0) v9 t11 h6) fun t12=>
 pK (gA .add t12 (AI 1)) fun t13=>
 wK (oB (none,[0]) v9 t11 t13 h6) fun t14 h15 y16=>
 K .normal ⟨[(9,v9),(30,v30)],h15,(y16++(y7++(y3++x)))⟩)
 (K (.exit 0) ⟨[(9,v9),(30,v30),(32,t4)],h2,(y3++x)⟩)
theorem zjE {C gl e h x K}:NW C gl rN ⟨e,h,x⟩ K=z5A C gl (bA e 9) (bA e 30) h x K:=by kernel_rfl
theorem zm8 {C gl e h x K}:NW C gl (.loop rN) ⟨e,h,x⟩ K=PA C gl rN K [(9,bA e 9),(30,bA e 30)] h x:=wB
def EP:ACode:=.pr [9,12,13] (.seq (.seq (rg [mV 42 13,
bN 43 .leq 42 (cI 5)] [9,12,13,43])
(.cond 43 .skip
(.exit 2)))
(.seq (.block 3 (dr [dF (mV 46 12) [12],
dF (mV 47 13) [13],
dT (cL 48 kM [47]) [47],
dF (mV 49 9) [9],
dF (mV 50 13) [13],
dA (uO 51 (.look (none,[0]) false (AI 0) 49 50)) [49,50] false [2] [],
dT (cL 52 HI [51]) [51],
dF (uO 53 (.build [.p (.str []),.p (.str [])] [(0,1,48),(1,1,52)])) [48,52],
dF (uO 54 (.bsl false (some 2) 1 (.agg [.str [],.str []]) [(0,53)])) [53],
dT (uO 55 (.app (some 2) 46 54)) [46,54],
dF (mV 12 55) [55]] [9,12,13]))
(rg [mV 44 13,
bN 45 .add 44 (cI 1),
mV 13 45] [9,12,13])))
def z5B (C:Hd)(gl:GL)(v9 v12 v13:AV)(h:aA)(x:Esc)(K:KT):Prop:=
 pK (gA .leq v13 (AI 5)) fun t1=>
 mA t1 (YA C kM [v13] h fun t2 h3 y4=>
 pK (QA (none,[0]) false (AI 0) v9 v13 h3) fun t5=>
 (pK (QA (none,[0]) false (AI 0) v9 v13 h) fun v=>(fun u (g1:aA) (y1:Esc)=>u=t5∧g1=h∧y1=[]) v h [])∧(YA C HI [t5] h3 fun t6 h7 y8=>
 pK (RB [.p (.str []),.p (.str [])] [(0,1,t2),(1,1,t6)]) fun t9=>
 wK (RA false (some 2) 1 (.agg [.str [],.str []]) [(0,t9)] h7) fun t10 h11 y12=>
 (h11=h7∧y12=[])∧(wK (dD (some 2) v12 t10 h11) fun t13 h14 y15=>
 pK (gA .add v13 (AI 1)) fun t16=>
 K .normal ⟨[(9,v9),(12,t13),(13,t16)],h14,(y15++(y12++(y8++(y4++x))))⟩)))
 (K (.exit 2) ⟨[(9,v9),(12,v12),(13,v13),(43,t1)],h,x⟩)
theorem zjF {C gl e h x K}:NW C gl EP ⟨e,h,x⟩ K=z5B C gl (bA e 9) (bA e 12) (bA e 13) h x K:=by kernel_rfl
theorem zm9 {C gl e h x K}:NW C gl (.loop (.scope EP)) ⟨e,h,x⟩ K=PA C gl (.scope EP) K [(9,bA e 9),(12,bA e 12),(13,bA e 13)] h x:=ZC
def z0q:ACode:=.pr [12] (.seq (rg [mV 56 12,
mV 6 56,
mV 7 (cI 0)] [6,7])
.ret)
def z5C (C:Hd)(gl:GL)(v12:AV)(h:aA)(x:Esc)(K:KT):Prop:=
 K .ret ⟨[(6,v12),(7,(AI 0))],h,x⟩
theorem zjG {C gl e h x K}:NW C gl z0q ⟨e,h,x⟩ K=z5C C gl (bA e 12) h x K:=by kernel_rfl
def z2M (q2 q3:ACode):ACode:=.pr [9] (.seq (rg [uO 12 (.new0 (some 2))] [9,12])
(.seq (.seq (rg [mV 13 (cI 1)] [9,12,13])
(.block 2 (.loop (.scope q2))))
q3))
def aU:ACode:=z2M EP z0q
def HY (C:Hd)(gl:GL)(q2 q3:ACode)(v9:AV)(h:aA)(x:Esc)(K:KT):Prop:=
 nwK (some 2) h fun t1 h2 y3=>
 NW C gl (.loop (.scope q2)) ⟨[(9,v9),(12,t1),(13,(AI 1))],h2,(y3++x)⟩ (yA 2 (NA C gl q3 K))
theorem zbH {C gl q2 q3 e h x K}:NW C gl (z2M q2 q3) ⟨e,h,x⟩ K=HY C gl q2 q3 (bA e 9) h x K:=by kernel_rfl
theorem zjH {C gl e h x K}:NW C gl aU ⟨e,h,x⟩ K=HY C gl EP z0q (bA e 9) h x K:=zbH
def z2L (q1 q4:ACode):ACode:=(.det (.seq (rg [uO 3 (.box 0),
mV 6 (.c (.p (.sl (some 2) []))),
mV 7 (cI 0)] [1,2,3])
(.seq (.seq (rg [lD 14 (some 2) 3,
mV 15 1,
mV 16 2,
cL 17 WD [14,15,16],
mV 8 17] [1,2,3,8])
(.seq (rg [mV 18 8,
bN 19 .neq 18 (cI 0)] [1,2,3,8,19])
(.cond 19 (.seq (rg [mV 20 8,
mV 6 (.c (.p (.sl (some 2) []))),
mV 7 20] [6,7])
.ret)
.skip)))
(.seq (rg [uO 21 (.mkmap),
mV 9 21] [1,2,3,9])
(.seq (.seq (dr [dF (lD 22 (some 2) 3) [3],
dF (mV 23 1) [1],
dF (mV 24 2) [2],
dA (cL 25 XD [23,24]) [23,24] true [] [0],
dT (cL 26 FC [22,25]) [22,25],
dF (uO 27 (.nilchk 26)) [26],
dF (fA 28 2 none 27) [27],
dF (lD 29 none 28) [28],
dT (uO 30 (.mrange 29)) [29]] [9,30])
(.block 0 (.loop q1)))
q4)))))
def UW:AFun:=⟨3,[.t 6,.t 7],z2L rN aU,false,false⟩
def XR (C:Hd)(gl:GL)(q1 q4:ACode)(v0 v1 v2:AV)(h:aA)(x:Esc)(K:KT):Prop:=
 wK (vB v0 h) fun t1 h2 y3=>
 pK (eA (some 2) t1 h2) fun t4=>
 C WD [t4,v1,v2] h2 fun t5 h6 y7=>
 pK (gA .neq t5 (AI 0)) fun t8=>
 mA t8 (K .ret ⟨[(6,(.p (.sl (some 2) []))),(7,t5)],h6,(y7++(y3++x))⟩)
 (mmK h6 fun t9 h10 y11=>
 pK (eA (some 2) t1 h10) fun t12=>
 YA C XD [v1,v2] h10 fun t13 h14 y15=>
 (pK (eA (some 2) t1 h14) fun v=>(fun u (g1:aA) (y1:Esc)=>u=t12∧g1=h14∧y1=[]) v h14 [])∧(YA C FC [t12,t13] h14 fun t16 h17 y18=>
 pK (rA t16) fun t19=>
 pK (jA 2 none t19) fun t20=>
 pK (eA none t20 h17) fun t21=>
 wK (JC t21 h17) fun t22 h23 y24=>
 NW C gl (.loop q1) ⟨[(9,t9),(30,t22)],h23,(y24++(y18++(y15++(y11++(y7++(y3++x))))))⟩ (yA 0 (NA C gl q4 K))))
theorem zbG {C gl q1 q4 v0 v1 v2 h x K}:NW C gl (z2L q1 q4) ⟨enter [v0,v1,v2],h,x⟩ K=XR C gl q1 q4 v0 v1 v2 h x K:=by kernel_rfl
theorem zjD {C gl v0 v1 v2 h x K}:NW C gl UW.body ⟨enter [v0,v1,v2],h,x⟩ K=XR C gl rN aU v0 v1 v2 h x K:=zbG
def FM:ACode:=.pr [5,6,7] (.seq (rg [bN 8 .lss 7 6] [5,6,7,8])
(.seq (.cond 8 .skip
(.exit 0))
(.seq (.block 1 (.seq (rg [iA 9 none 5 7,
lD 10 none 9,
mV 4 10] [4,5,6,7])
(.seq (rg [mV 11 4,
bN 12 .neq 11 (cI 0)] [4,5,6,7,12])
(.cond 12 (.seq (rg [mV 13 4,
mV 2 13] [2])
.ret)
.skip))))
(rg [bN 14 .add 7 (cI 1),
mV 7 14] [5,6,7]))))
def z4s (C:Hd)(gl:GL)(v5 v6 v7:AV)(h:aA)(x:Esc)(K:KT):Prop:=
 pK (gA .lss v7 v6) fun t1=>
 mA t1 (pK (wA none v5 v7 h) fun t2=>
 pK (eA none t2 h) fun t3=>
 pK (gA .neq t3 (AI 0)) fun t4=>
 mA t4 (K .ret ⟨[(2,t3)],h,x⟩)
 (pK (gA .add v7 (AI 1)) fun t5=>
 K .normal ⟨[(5,v5),(6,v6),(7,t5)],h,x⟩))
 (K (.exit 0) ⟨[(5,v5),(6,v6),(7,v7),(8,t1)],h,x⟩)
theorem zgO {C gl e h x K}:NW C gl FM ⟨e,h,x⟩ K=z4s C gl (bA e 5) (bA e 6) (bA e 7) h x K:=by kernel_rfl
theorem zlP {C gl e h x K}:NW C gl (.loop FM) ⟨e,h,x⟩ K=PA C gl FM K [(5,bA e 5),(6,bA e 6),(7,bA e 7)] h x:=wB
def sT:ACode:=.pr [] (.seq (rg [mV 2 (cI 0)] [2])
.ret)
def z4t (C:Hd)(gl:GL)(h:aA)(x:Esc)(K:KT):Prop:=
 K .ret ⟨[(2,(AI 0))],h,x⟩
theorem zgP {C gl e h x K}:NW C gl sT ⟨e,h,x⟩ K=z4t C gl h x K:=by kernel_rfl
def z13 (q1 q2:ACode):ACode:=(.seq (rg [mV 2 (cI 0)] [0])
(.seq (.seq (rg [mV 5 0,
lN 6 5,
mV 7 (cI 0)] [5,6,7])
(.block 0 (.loop q1)))
q2))
def yV:AFun:=⟨1,[.t 2],z13 FM sT,false,false⟩
def jR (C:Hd)(gl:GL)(q1 q2:ACode)(v0:AV)(h:aA)(x:Esc)(K:KT):Prop:=
 pK (OA v0) fun t1=>
 NW C gl (.loop q1) ⟨[(5,v0),(6,t1),(7,(AI 0))],h,x⟩ (yA 0 (NA C gl q2 K))
theorem za6 {C gl q1 q2 v0 h x K}:NW C gl (z13 q1 q2) ⟨enter [v0],h,x⟩ K=jR C gl q1 q2 v0 h x K:=by kernel_rfl
theorem zgN {C gl v0 h x K}:NW C gl yV.body ⟨enter [v0],h,x⟩ K=jR C gl FM sT v0 h x K:=za6
def zct:ACode:=(.seq (rg [uO 2 (.box 0),
mV 4 (cI 0)] [1,2])
(.seq (rg [lD 5 (some 2) 2,
cL 6 xL [5],
mV 7 1,
cL 8 vL [7],
uO 9 (.bsl false none 2 (.int .i64 0) [(0,6),(1,8)]),
cL 10 fF [9],
mV 4 10] [4])
.ret))
def zV:AFun:=⟨2,[.t 4],zct,false,false⟩
def IX (C:Hd)(gl:GL)(v0 v1:AV)(h:aA)(x:Esc)(K:KT):Prop:=
 wK (vB v0 h) fun t1 h2 y3=>
 pK (eA (some 2) t1 h2) fun t4=>
 C xL [t4] h2 fun t5 h6 y7=>
 C vL [v1] h6 fun t8 h9 y10=>
 wK (RA false none 2 (.int .i64 0) [(0,t5),(1,t8)] h9) fun t11 h12 y13=>
 C fF [t11] h12 fun t14 h15 y16=>
 K .ret ⟨[(4,t14)],h15,(y16++(y13++(y10++(y7++(y3++x)))))⟩
theorem zgQ {C gl v0 v1 h x K}:NW C gl zV.body ⟨enter [v0,v1],h,x⟩ K=IX C gl v0 v1 h x K:=by kernel_rfl
def zc9:ACode:=(.seq (rg [mV 2 (cI 0)] [0])
(.seq (.seq (rg [mV 3 0,
cL 4 zI [3],
uO 5 (.un .not 4)] [5])
(.cond 5 (.seq (rg [mV 2 (cI 1)] [2])
.ret)
.skip))
(.seq (rg [mV 2 (cI 0)] [2])
.ret)))
def YV:AFun:=⟨1,[.t 2],zc9,false,false⟩
def uR (C:Hd)(gl:GL)(v0:AV)(h:aA)(x:Esc)(K:KT):Prop:=
 C zI [v0] h fun t1 h2 y3=>
 pK (oUn .not t1) fun t4=>
 mA t4 (K .ret ⟨[(2,(AI 1))],h2,(y3++x)⟩)
 (K .ret ⟨[(2,(AI 0))],h2,(y3++x)⟩)
theorem zh7 {C gl v0 h x K}:NW C gl YV.body ⟨enter [v0],h,x⟩ K=uR C gl v0 h x K:=by kernel_rfl
def zcu:ACode:=(.seq (rg [mV 2 (cI 0)] [0])
(.seq (rg [mV 3 0,
cL 4 BD [3],
uO 5 (.un .not 4),
cL 6 yI [5,(cI 5)],
mV 2 6] [2])
.ret))
def BV:AFun:=⟨1,[.t 2],zcu,false,false⟩
def kR (C:Hd)(gl:GL)(v0:AV)(h:aA)(x:Esc)(K:KT):Prop:=
 C BD [v0] h fun t1 h2 y3=>
 pK (oUn .not t1) fun t4=>
 C yI [t4,(AI 5)] h2 fun t5 h6 y7=>
 K .ret ⟨[(2,t5)],h6,(y7++(y3++x))⟩
theorem zgR {C gl v0 h x K}:NW C gl BV.body ⟨enter [v0],h,x⟩ K=kR C gl v0 h x K:=by kernel_rfl
def zcw:ACode:=(.seq (rg [uO 2 (.box 0),
mV 4 (cI 0)] [1,2])
(.seq (rg [fA 5 0 none 2,
lD 6 none 5,
mV 7 1,
cL 8 KE [6,7],
uO 9 (.un .not 8),
cL 10 yI [9,(cI 8)],
mV 4 10] [4])
.ret))
def CV:AFun:=⟨2,[.t 4],zcw,false,false⟩
def lR (C:Hd)(gl:GL)(v0 v1:AV)(h:aA)(x:Esc)(K:KT):Prop:=
 wK (vB v0 h) fun t1 h2 y3=>
 pK (jA 0 none t1) fun t4=>
 pK (eA none t4 h2) fun t5=>
 C KE [t5,v1] h2 fun t6 h7 y8=>
 pK (oUn .not t6) fun t9=>
 C yI [t9,(AI 8)] h7 fun t10 h11 y12=>
 K .ret ⟨[(4,t10)],h11,(y12++(y8++(y3++x)))⟩
theorem zgS {C gl v0 v1 h x K}:NW C gl CV.body ⟨enter [v0,v1],h,x⟩ K=lR C gl v0 v1 h x K:=by kernel_rfl
end Go.Am
end
section
/- The functions asv abstract code,and asv formulas PE their values: printed by program out of the translation. -/
set_option linter.unusedVariables false
set_option maxRecDepth 100000
namespace Go.Am
def zcA:ACode:=(.seq (rg [uO 3 (.box 0),
mV 6 (.c (.p (.sl none []))),
mV 7 (.c (.p (.sl none [])))] [1,2,3])
(.seq (rg [lD 9 (some 2) 3,
mV 10 1,
mV 11 2,
cL 12 UC [9,10,11],
mV 8 12] [8])
(.seq (dr [dF (mV 13 8) [8],
dF (uO 14 (.nilchk 13)) [13],
dF (fA 15 4 none 14) [14],
dF (lD 16 none 15) [15],
dF (mV 17 8) [8],
dF (uO 18 (.nilchk 17)) [17],
dF (fA 19 5 none 18) [18],
dF (lD 20 none 19) [19],
dF (mV 6 16) [16],
dF (mV 7 20) [20]] [6,7])
.ret)))
def ZV:AFun:=⟨3,[.t 6,.t 7],zcA,false,false⟩
def VX (C:Hd)(gl:GL)(v0 v1 v2:AV)(h:aA)(x:Esc)(K:KT):Prop:=
 wK (vB v0 h) fun t1 h2 y3=>
 pK (eA (some 2) t1 h2) fun t4=>
 C UC [t4,v1,v2] h2 fun t5 h6 y7=>
 pK (rA t5) fun t8=>
 pK (jA 4 none t8) fun t9=>
 pK (eA none t9 h6) fun t10=>
 pK (rA t5) fun t11=>
 pK (jA 5 none t11) fun t12=>
 pK (eA none t12 h6) fun t13=>
 K .ret ⟨[(6,t10),(7,t13)],h6,(y7++(y3++x))⟩
theorem zh8 {C gl v0 v1 v2 h x K}:NW C gl ZV.body ⟨enter [v0,v1,v2],h,x⟩ K=VX C gl v0 v1 v2 h x K:=by kernel_rfl
def TZ:ACode:=.pr [7,8,17,18,19] (rg [bN 39 .add 19 (cI 1),
mV 19 39] [7,8,17,18,19])
def z4D (C:Hd)(gl:GL)(v7 v8 v17 v18 v19:AV)(h:aA)(x:Esc)(K:KT):Prop:=
 pK (gA .add v19 (AI 1)) fun t1=>
 K .normal ⟨[(7,v7),(8,v8),(17,v17),(18,v18),(19,t1)],h,x⟩
theorem zhA {C gl e h x K}:NW C gl TZ ⟨e,h,x⟩ K=z4D C gl (bA e 7) (bA e 8) (bA e 17) (bA e 18) (bA e 19) h x K:=by kernel_rfl
def z1L (q1:ACode):ACode:=.pr [7,8,17,18,19] (.seq (rg [bN 20 .lss 19 18] [7,8,17,18,19,20])
(.seq (.cond 20 .skip
(.exit 0))
(.seq (.block 1 (.seq (rg [iA 21 none 17 19,
lD 22 none 21,
mV 10 22] [7,8,10,17,18,19])
(.seq (rg [mV 23 7,
uO 24 (.nilchk 23),
fA 25 2 none 24,
lD 26 none 25,
mV 27 10,
uO 28 (.look (none,[2]) false (.p (.agg [.int .i64 0,.int .i64 0,.str [],.str [],.int .i64 0])) 26 27),
uO 11 (.alloc [.p (.int .i64 0),.p (.int .i64 0),.p (.str []),.p (.str []),.p (.int .i64 0)]),
wO (.store (some 5) 11 28)] [7,8,10,11,17,18,19])
(.seq (rg [fA 29 0 none 11,
lD 30 none 29,
bN 31 .eql 30 (cI 2)] [7,8,10,11,17,18,19,31])
(.cond 31 (rg [mV 32 8,
fA 33 3 none 11,
lD 34 none 33,
mV 35 10,
uO 36 (.build [.p (.str []),.p (.str [])] [(0,1,34),(1,1,35)]),
uO 37 (.bsl false (some 2) 1 (.agg [.str [],.str []]) [(0,36)]),
uO 38 (.app (some 2) 32 37),
mV 8 38] [7,8,17,18,19])
.skip)))))
q1)))
def LM:ACode:=z1L TZ
def WX (C:Hd)(gl:GL)(q1:ACode)(v7 v8 v17 v18 v19:AV)(h:aA)(x:Esc)(K:KT):Prop:=
 pK (gA .lss v19 v18) fun t1=>
 mA t1 (pK (wA none v17 v19 h) fun t2=>
 pK (eA none t2 h) fun t3=>
 pK (rA v7) fun t4=>
 pK (jA 2 none t4) fun t5=>
 pK (eA none t5 h) fun t6=>
 pK (QA (none,[2]) false (.p (.agg [.int .i64 0,.int .i64 0,.str [],.str [],.int .i64 0])) t6 t3 h) fun t7=>
 alK [.p (.int .i64 0),.p (.int .i64 0),.p (.str []),.p (.str []),.p (.int .i64 0)] h fun t8 h9 y10=>
 wK (tA (some 5) t8 t7 h9) fun t11 h12 y13=>
 pK (jA 0 none t8) fun t14=>
 pK (eA none t14 h12) fun t15=>
 pK (gA .eql t15 (AI 2)) fun t16=>
 mA t16 (pK (jA 3 none t8) fun t17=>
 pK (eA none t17 h12) fun t18=>
 pK (RB [.p (.str []),.p (.str [])] [(0,1,t18),(1,1,t3)]) fun t19=>
 wK (RA false (some 2) 1 (.agg [.str [],.str []]) [(0,t19)] h12) fun t20 h21 y22=>
 wK (dD (some 2) v8 t20 h21) fun t23 h24 y25=>
 NW C gl q1 ⟨[(7,v7),(8,t23),(17,v17),(18,v18),(19,v19)],h24,(y25++(y22++(y13++(y10++x))))⟩ K)
 (NW C gl q1 ⟨[(7,v7),(8,v8),(10,t3),(11,t8),(17,v17),(18,v18),(19,v19),(31,t16)],h12,(y13++(y10++x))⟩ K))
 (K (.exit 0) ⟨[(7,v7),(8,v8),(17,v17),(18,v18),(19,v19),(20,t1)],h,x⟩)
theorem zaO {C gl q1 e h x K}:NW C gl (z1L q1) ⟨e,h,x⟩ K=WX C gl q1 (bA e 7) (bA e 8) (bA e 17) (bA e 18) (bA e 19) h x K:=by kernel_rfl
theorem zhB {C gl e h x K}:NW C gl LM ⟨e,h,x⟩ K=WX C gl TZ (bA e 7) (bA e 8) (bA e 17) (bA e 18) (bA e 19) h x K:=zaO
theorem zlX {C gl e h x K}:NW C gl (.loop (.scope LM)) ⟨e,h,x⟩ K=PA C gl (.scope LM) K [(7,bA e 7),(8,bA e 8),(17,bA e 17),(18,bA e 18),(19,bA e 19)] h x:=ZC
def CT:ACode:=.pr [8] (.seq (rg [mV 40 8,
cL 41 VL [40,(.f LJ)]] [8])
(.seq (rg [mV 42 8,
mV 6 42] [6])
.ret))
def z4E (C:Hd)(gl:GL)(v8:AV)(h:aA)(x:Esc)(K:KT):Prop:=
 C VL [v8,(.fn LJ [])] h fun t1 h2 y3=>
 K .ret ⟨[(6,v8)],h2,(y3++x)⟩
theorem zhC {C gl e h x K}:NW C gl CT ⟨e,h,x⟩ K=z4E C gl (bA e 8) h x K:=by kernel_rfl
def z1K (q2 q3:ACode):ACode:=(.seq (rg [uO 3 (.box 0),
mV 6 (.c (.p (.sl (some 2) [])))] [1,2,3])
(.seq (rg [lD 12 (some 2) 3,
mV 13 1,
mV 14 2,
cL 15 UC [12,13,14],
mV 7 15] [7])
(.seq (rg [uO 8 (.new0 (some 2))] [7,8])
(.seq (.seq (rg [mV 16 7,
cL 17 DI [16],
lN 18 17,
mV 19 (cI 0)] [7,8,17,18,19])
(.block 0 (.loop (.scope q2))))
q3))))
def aW:AFun:=⟨3,[.t 6],z1K LM CT,false,false⟩
def vR (C:Hd)(gl:GL)(q2 q3:ACode)(v0 v1 v2:AV)(h:aA)(x:Esc)(K:KT):Prop:=
 wK (vB v0 h) fun t1 h2 y3=>
 pK (eA (some 2) t1 h2) fun t4=>
 C UC [t4,v1,v2] h2 fun t5 h6 y7=>
 nwK (some 2) h6 fun t8 h9 y10=>
 C DI [t5] h9 fun t11 h12 y13=>
 pK (OA t11) fun t14=>
 NW C gl (.loop (.scope q2)) ⟨[(7,t5),(8,t8),(17,t11),(18,t14),(19,(AI 0))],h12,(y13++(y10++(y7++(y3++x))))⟩ (yA 0 (NA C gl q3 K))
theorem zaN {C gl q2 q3 v0 v1 v2 h x K}:NW C gl (z1K q2 q3) ⟨enter [v0,v1,v2],h,x⟩ K=vR C gl q2 q3 v0 v1 v2 h x K:=by kernel_rfl
theorem zh9 {C gl v0 v1 v2 h x K}:NW C gl aW.body ⟨enter [v0,v1,v2],h,x⟩ K=vR C gl LM CT v0 v1 v2 h x K:=zaN
def sP:ACode:=.pr [7,8,9,10,25] (.seq (rg [uO 26 (.mnext none [25]),
eX 27 26 0] [7,8,9,10,25,27])
(.seq (.cond 27 .skip
(.exit 2))
(.block 3 (.seq (rg [uO 28 (.mentry 25),
eX 29 28 1,
uO 12 (.alloc [.p (.int .i64 0),.p (.int .i64 0),.p (.str []),.p (.str []),.p (.int .i64 0)]),
wO (.store (some 5) 12 29)] [7,8,9,10,12,25])
(.seq (rg [fA 30 0 none 12,
lD 31 none 30,
mV 32 9,
bN 33 .eql 31 32] [7,8,9,10,25,33])
(.cond 33 (rg [mV 34 10,
bN 35 .add 34 (cI 1),
mV 10 35] [7,8,9,10,25])
.skip))))))
def z43 (C:Hd)(gl:GL)(v7 v8 v9 v10 v25:AV)(h:aA)(x:Esc)(K:KT):Prop:=
 nxK v25 h fun t1 h2 y3=>
 pK (jB t1 0) fun t4=>
 mA t4 (wK (IC v25 h2) fun t5 h6 y7=>
 pK (jB t5 1) fun t8=>
 alK [.p (.int .i64 0),.p (.int .i64 0),.p (.str []),.p (.str []),.p (.int .i64 0)] h6 fun t9 h10 y11=>
 wK (tA (some 5) t9 t8 h10) fun t12 h13 y14=>
 pK (jA 0 none t9) fun t15=>
 pK (eA none t15 h13) fun t16=>
 pK (gA .eql t16 v9) fun t17=>
 mA t17 (pK (gA .add v10 (AI 1)) fun t18=>
 K .normal ⟨[(7,v7),(8,v8),(9,v9),(10,t18),(25,v25)],h13,(y14++(y11++(y7++(y3++x))))⟩)
 (K .normal ⟨[(7,v7),(8,v8),(9,v9),(10,v10),(25,v25),(33,t17)],h13,(y14++(y11++(y7++(y3++x))))⟩))
 (K (.exit 2) ⟨[(7,v7),(8,v8),(9,v9),(10,v10),(25,v25),(27,t4)],h2,(y3++x)⟩)
theorem zhq {C gl e h x K}:NW C gl sP ⟨e,h,x⟩ K=z43 C gl (bA e 7) (bA e 8) (bA e 9) (bA e 10) (bA e 25) h x K:=by kernel_rfl
theorem zlS {C gl e h x K}:NW C gl (.loop (.scope sP)) ⟨e,h,x⟩ K=PA C gl (.scope sP) K [(7,bA e 7),(8,bA e 8),(9,bA e 9),(10,bA e 10),(25,bA e 25)] h x:=ZC
def QZ:ACode:=.pr [7,8,9,10] (dr [dF (mV 36 8) [8],
dT (cL 37 LL []) [],
dF (mV 38 9) [9],
dF (iA 39 none 37 38) [37,38],
dF (lD 40 none 39) [39],
dF (mV 41 10) [10],
dA (cL 42 HI [41]) [41] true [] [3,4],
dF (uO 43 (.build [.p (.str []),.p (.str [])] [(0,1,40),(1,1,42)])) [40,42],
dF (uO 44 (.bsl false (some 2) 1 (.agg [.str [],.str []]) [(0,43)])) [43],
dT (uO 45 (.app (some 2) 36 44)) [36,44],
dF (mV 8 45) [45]] [7,8,9])
def z45 (C:Hd)(gl:GL)(v7 v8 v9 v10:AV)(h:aA)(x:Esc)(K:KT):Prop:=
 YA C LL [] h fun t1 h2 y3=>
 pK (wA none t1 v9 h2) fun t4=>
 pK (eA none t4 h2) fun t5=>
 YA C HI [v10] h2 fun t6 h7 y8=>
 (pK (wA none t1 v9 h7) fun v=>(fun u (g1:aA) (y1:Esc)=>u=t4∧g1=h7∧y1=[]) v h7 [])∧((pK (eA none t4 h7) fun v=>(fun u (g1:aA) (y1:Esc)=>u=t5∧g1=h7∧y1=[]) v h7 [])∧(pK (RB [.p (.str []),.p (.str [])] [(0,1,t5),(1,1,t6)]) fun t9=>
 wK (RA false (some 2) 1 (.agg [.str [],.str []]) [(0,t9)] h7) fun t10 h11 y12=>
 (h11=h7∧y12=[])∧(wK (dD (some 2) v8 t10 h11) fun t13 h14 y15=>
 K .normal ⟨[(7,v7),(8,t13),(9,v9)],h14,(y15++(y12++(y8++(y3++x))))⟩)))
theorem zhr {C gl e h x K}:NW C gl QZ ⟨e,h,x⟩ K=z45 C gl (bA e 7) (bA e 8) (bA e 9) (bA e 10) h x K:=by kernel_rfl
def RZ:ACode:=.pr [7,8,9] (rg [mV 19 9,
bN 20 .add 19 (cI 1),
mV 9 20] [7,8,9])
def z47 (C:Hd)(gl:GL)(v7 v8 v9:AV)(h:aA)(x:Esc)(K:KT):Prop:=
 pK (gA .add v9 (AI 1)) fun t1=>
 K .normal ⟨[(7,v7),(8,v8),(9,t1)],h,x⟩
theorem zhs {C gl e h x K}:NW C gl RZ ⟨e,h,x⟩ K=z47 C gl (bA e 7) (bA e 8) (bA e 9) h x K:=by kernel_rfl
def z1F (q1 q2 q3:ACode):ACode:=.pr [7,8,9] (.seq (.seq (rg [mV 17 9,
bN 18 .leq 17 (cI 5)] [7,8,9,18])
(.cond 18 .skip
(.exit 0)))
(.seq (.block 1 (.seq (rg [mV 10 (cI 0)] [7,8,9,10])
(.seq (.seq (rg [mV 21 7,
uO 22 (.nilchk 21),
fA 23 2 none 22,
lD 24 none 23,
uO 25 (.mrange 24)] [7,8,9,10,25])
(.block 2 (.loop (.scope q1))))
q2)))
q3))
def IM:ACode:=z1F sP QZ RZ
def SX (C:Hd)(gl:GL)(q1 q2 q3:ACode)(v7 v8 v9:AV)(h:aA)(x:Esc)(K:KT):Prop:=
 pK (gA .leq v9 (AI 5)) fun t1=>
 mA t1 (pK (rA v7) fun t2=>
 pK (jA 2 none t2) fun t3=>
 pK (eA none t3 h) fun t4=>
 wK (JC t4 h) fun t5 h6 y7=>
 NW C gl (.loop (.scope q1)) ⟨[(7,v7),(8,v8),(9,v9),(10,(AI 0)),(25,t5)],h6,(y7++x)⟩ (yA 2 (NA C gl q2 (yA 1 (NA C gl q3 K)))))
 (K (.exit 0) ⟨[(7,v7),(8,v8),(9,v9),(18,t1)],h,x⟩)
theorem zaI {C gl q1 q2 q3 e h x K}:NW C gl (z1F q1 q2 q3) ⟨e,h,x⟩ K=SX C gl q1 q2 q3 (bA e 7) (bA e 8) (bA e 9) h x K:=by kernel_rfl
theorem zht {C gl e h x K}:NW C gl IM ⟨e,h,x⟩ K=SX C gl sP QZ RZ (bA e 7) (bA e 8) (bA e 9) h x K:=zaI
theorem zlT {C gl e h x K}:NW C gl (.loop (.scope IM)) ⟨e,h,x⟩ K=PA C gl (.scope IM) K [(7,bA e 7),(8,bA e 8),(9,bA e 9)] h x:=ZC
def yT:ACode:=.pr [8] (.seq (rg [mV 46 8,
mV 6 46] [6])
.ret)
def z48 (C:Hd)(gl:GL)(v8:AV)(h:aA)(x:Esc)(K:KT):Prop:=
 K .ret ⟨[(6,v8)],h,x⟩
theorem zhu {C gl e h x K}:NW C gl yT ⟨e,h,x⟩ K=z48 C gl (bA e 8) h x K:=by kernel_rfl
def z1E (q4 q5:ACode):ACode:=(.det (.seq (rg [uO 3 (.box 0),
mV 6 (.c (.p (.sl (some 2) [])))] [1,2,3])
(.seq (rg [lD 13 (some 2) 3,
mV 14 1,
mV 15 2,
cL 16 UC [13,14,15],
mV 7 16] [7])
(.seq (rg [uO 8 (.new0 (some 2))] [7,8])
(.seq (.seq (rg [mV 9 (cI 1)] [7,8,9])
(.block 0 (.loop (.scope q4))))
q5)))))
def QV:AFun:=⟨3,[.t 6],z1E IM yT,false,false⟩
def rR (C:Hd)(gl:GL)(q4 q5:ACode)(v0 v1 v2:AV)(h:aA)(x:Esc)(K:KT):Prop:=
 wK (vB v0 h) fun t1 h2 y3=>
 pK (eA (some 2) t1 h2) fun t4=>
 C UC [t4,v1,v2] h2 fun t5 h6 y7=>
 nwK (some 2) h6 fun t8 h9 y10=>
 NW C gl (.loop (.scope q4)) ⟨[(7,t5),(8,t8),(9,(AI 1))],h9,(y10++(y7++(y3++x)))⟩ (yA 0 (NA C gl q5 K))
theorem zaH {C gl q4 q5 v0 v1 v2 h x K}:NW C gl (z1E q4 q5) ⟨enter [v0,v1,v2],h,x⟩ K=rR C gl q4 q5 v0 v1 v2 h x K:=by kernel_rfl
theorem zhp {C gl v0 v1 v2 h x K}:NW C gl QV.body ⟨enter [v0,v1,v2],h,x⟩ K=rR C gl IM yT v0 v1 v2 h x K:=zaH
def zcC:ACode:=(.seq (rg [uO 4 (.box 0),
uO 8 (.alloc [.p (.int .i64 0),.p (.int .i64 0),.p (.str []),.p (.str []),.p (.int .i64 0)]),
mV 9 cF] [1,2,3,4,8])
(.seq (rg [lD 13 (some 2) 4,
mV 14 1,
mV 15 3,
cL 16 UC [13,14,15],
uO 17 (.nilchk 16),
fA 18 2 none 17,
lD 19 none 18,
mV 20 2,
uO 21 (.look (none,[2]) true (.p (.agg [.int .i64 0,.int .i64 0,.str [],.str [],.int .i64 0])) 19 20),
mV 12 21,
eX 22 12 0,
eX 23 12 1,
uO 10 (.alloc [.p (.int .i64 0),.p (.int .i64 0),.p (.str []),.p (.str []),.p (.int .i64 0)]),
wO (.store (some 5) 10 22),
mV 11 23] [8,10,11])
(.seq (rg [lD 24 (some 5) 10,
mV 25 11,
wO (.store (some 5) 8 24),
mV 9 25] [8,9])
.ret)))
def cW:AFun:=⟨4,[.cell 8 (some 5),.t 9],zcC,false,false⟩
def wR (C:Hd)(gl:GL)(v0 v1 v2 v3:AV)(h:aA)(x:Esc)(K:KT):Prop:=
 wK (vB v0 h) fun t1 h2 y3=>
 alK [.p (.int .i64 0),.p (.int .i64 0),.p (.str []),.p (.str []),.p (.int .i64 0)] h2 fun t4 h5 y6=>
 pK (eA (some 2) t1 h5) fun t7=>
 C UC [t7,v1,v3] h5 fun t8 h9 y10=>
 pK (rA t8) fun t11=>
 pK (jA 2 none t11) fun t12=>
 pK (eA none t12 h9) fun t13=>
 pK (QA (none,[2]) true (.p (.agg [.int .i64 0,.int .i64 0,.str [],.str [],.int .i64 0])) t13 v2 h9) fun t14=>
 pK (jB t14 0) fun t15=>
 pK (jB t14 1) fun t16=>
 alK [.p (.int .i64 0),.p (.int .i64 0),.p (.str []),.p (.str []),.p (.int .i64 0)] h9 fun t17 h18 y19=>
 wK (tA (some 5) t17 t15 h18) fun t20 h21 y22=>
 pK (eA (some 5) t17 h21) fun t23=>
 wK (tA (some 5) t4 t23 h21) fun t24 h25 y26=>
 K .ret ⟨[(8,t4),(9,t16)],h25,(y26++(y22++(y19++(y10++(y6++(y3++x))))))⟩
theorem zhE {C gl v0 v1 v2 v3 h x K}:NW C gl cW.body ⟨enter [v0,v1,v2,v3],h,x⟩ K=wR C gl v0 v1 v2 v3 h x K:=by kernel_rfl
def zcD:ACode:=(.seq (rg [uO 4 (.box 0),
uO 6 (.box 2),
mV 8 (.c (.p (.sl none [])))] [1,3,4,6])
(.seq (rg [lD 11 (some 2) 4,
mV 12 1,
mV 13 3,
cL 14 UC [11,12,13],
uO 9 (.alloc [.nilp]),
wO (.store none 9 14)] [6,9])
(.seq (rg [lD 15 none 9,
cL 16 DI [15],
uO 17 (.mkfn MJ [9,6]),
cL 18 OL [16,17],
mV 10 18] [9,10])
(.seq (rg [mV 19 10,
uO 20 (.mkfn NJ [9]),
cL 21 YL [19,20]] [10])
(.seq (rg [mV 22 10,
mV 8 22] [8])
.ret)))))
def dW:AFun:=⟨4,[.t 8],zcD,false,false⟩
def YX (C:Hd)(gl:GL)(v0 v1 v2 v3:AV)(h:aA)(x:Esc)(K:KT):Prop:=
 wK (vB v0 h) fun t1 h2 y3=>
 wK (vB v2 h2) fun t4 h5 y6=>
 pK (eA (some 2) t1 h5) fun t7=>
 C UC [t7,v1,v3] h5 fun t8 h9 y10=>
 alK [.nilp] h9 fun t11 h12 y13=>
 wK (tA none t11 t8 h12) fun t14 h15 y16=>
 pK (eA none t11 h15) fun t17=>
 C DI [t17] h15 fun t18 h19 y20=>
 C OL [t18,(.fn MJ [t11,t4])] h19 fun t21 h22 y23=>
 C YL [t21,(.fn NJ [t11])] h22 fun t24 h25 y26=>
 K .ret ⟨[(8,t21)],h25,(y26++(y23++(y20++(y16++(y13++(y10++(y6++(y3++x))))))))⟩
theorem zhF {C gl v0 v1 v2 v3 h x K}:NW C gl dW.body ⟨enter [v0,v1,v2,v3],h,x⟩ K=YX C gl v0 v1 v2 v3 h x K:=by kernel_rfl
def YM:ACode:=.pr [0,1,12,13] (.seq (rg [bN 14 .lss 13 12] [0,1,12,13,14])
(.seq (.cond 14 .skip
(.exit 0))
(.seq (.block 1 (.seq (rg [mV 15 13,
mV 5 15] [0,1,5,12,13])
(.seq (dr [dF (mV 16 0) [0],
dF (mV 17 5) [5],
dF (iA 18 none 16 17) [16,17],
dF (lD 19 none 18) [18],
dF (mV 20 1) [1],
dF (mV 21 5) [5],
dF (iA 22 none 20 21) [20,21],
dF (lD 23 none 22) [22],
dF (bN 24 .neq 19 23) [19,23]] [0,1,12,13,24])
(.cond 24 (.seq (rg [mV 4 cF] [4])
.ret)
.skip))))
(rg [bN 25 .add 13 (cI 1),
mV 13 25] [0,1,12,13]))))
def z5d (C:Hd)(gl:GL)(v0 v1 v12 v13:AV)(h:aA)(x:Esc)(K:KT):Prop:=
 pK (gA .lss v13 v12) fun t1=>
 mA t1 (pK (wA none v0 v13 h) fun t2=>
 pK (eA none t2 h) fun t3=>
 pK (wA none v1 v13 h) fun t4=>
 pK (eA none t4 h) fun t5=>
 pK (gA .neq t3 t5) fun t6=>
 mA t6 (K .ret ⟨[(4,(AB false))],h,x⟩)
 (pK (gA .add v13 (AI 1)) fun t7=>
 K .normal ⟨[(0,v0),(1,v1),(12,v12),(13,t7)],h,x⟩))
 (K (.exit 0) ⟨[(0,v0),(1,v1),(12,v12),(13,v13),(14,t1)],h,x⟩)
theorem zi6 {C gl e h x K}:NW C gl YM ⟨e,h,x⟩ K=z5d C gl (bA e 0) (bA e 1) (bA e 12) (bA e 13) h x K:=by kernel_rfl
theorem zmk {C gl e h x K}:NW C gl (.loop YM) ⟨e,h,x⟩ K=PA C gl YM K [(0,bA e 0),(1,bA e 1),(12,bA e 12),(13,bA e 13)] h x:=wB
def RT:ACode:=.pr [] (.seq (rg [mV 4 cT] [4])
.ret)
def z5e (C:Hd)(gl:GL)(h:aA)(x:Esc)(K:KT):Prop:=
 K .ret ⟨[(4,(AB true))],h,x⟩
theorem zi7 {C gl e h x K}:NW C gl RT ⟨e,h,x⟩ K=z5e C gl h x K:=by kernel_rfl
def z2e (q1 q2:ACode):ACode:=(.seq (rg [mV 4 cF] [0,1])
(.seq (.seq (rg [mV 6 0,
lN 7 6,
mV 8 1,
lN 9 8,
bN 10 .neq 7 9] [0,1,10])
(.cond 10 (.seq (rg [mV 4 cF] [4])
.ret)
.skip))
(.seq (.seq (rg [mV 11 0,
lN 12 11,
mV 13 (cI 0)] [0,1,12,13])
(.block 0 (.loop q1)))
q2)))
def zW:AFun:=⟨2,[.t 4],z2e YM RT,false,false⟩
def qO (C:Hd)(gl:GL)(q1 q2:ACode)(v0 v1:AV)(h:aA)(x:Esc)(K:KT):Prop:=
 pK (OA v0) fun t1=>
 pK (OA v1) fun t2=>
 pK (gA .neq t1 t2) fun t3=>
 mA t3 (K .ret ⟨[(4,(AB false))],h,x⟩)
 (pK (OA v0) fun t4=>
 NW C gl (.loop q1) ⟨[(0,v0),(1,v1),(12,t4),(13,(AI 0))],h,x⟩ (yA 0 (NA C gl q2 K)))
theorem zbh {C gl q1 q2 v0 v1 h x K}:NW C gl (z2e q1 q2) ⟨enter [v0,v1],h,x⟩ K=qO C gl q1 q2 v0 v1 h x K:=by kernel_rfl
theorem zi5 {C gl v0 v1 h x K}:NW C gl zW.body ⟨enter [v0,v1],h,x⟩ K=qO C gl YM RT v0 v1 h x K:=zbh
def WM:ACode:=.pr [0,1,12,13] (.seq (rg [bN 14 .lss 13 12] [0,1,12,13,14])
(.seq (.cond 14 .skip
(.exit 0))
(.seq (.block 1 (.seq (rg [mV 15 13,
mV 5 15] [0,1,5,12,13])
(.seq (dr [dF (mV 16 0) [0],
dF (mV 17 5) [5],
dF (iA 18 none 16 17) [16,17],
dF (lD 19 none 18) [18],
dF (mV 20 1) [1],
dF (mV 21 5) [5],
dF (iA 22 none 20 21) [20,21],
dF (lD 23 none 22) [22],
dF (bN 24 .neq 19 23) [19,23]] [0,1,12,13,24])
(.cond 24 (.seq (rg [mV 4 cF] [4])
.ret)
.skip))))
(rg [bN 25 .add 13 (cI 1),
mV 13 25] [0,1,12,13]))))
def z4Z (C:Hd)(gl:GL)(v0 v1 v12 v13:AV)(h:aA)(x:Esc)(K:KT):Prop:=
 pK (gA .lss v13 v12) fun t1=>
 mA t1 (pK (wA none v0 v13 h) fun t2=>
 pK (eA none t2 h) fun t3=>
 pK (wA none v1 v13 h) fun t4=>
 pK (eA none t4 h) fun t5=>
 pK (gA .neq t3 t5) fun t6=>
 mA t6 (K .ret ⟨[(4,(AB false))],h,x⟩)
 (pK (gA .add v13 (AI 1)) fun t7=>
 K .normal ⟨[(0,v0),(1,v1),(12,v12),(13,t7)],h,x⟩))
 (K (.exit 0) ⟨[(0,v0),(1,v1),(12,v12),(13,v13),(14,t1)],h,x⟩)
theorem zi0 {C gl e h x K}:NW C gl WM ⟨e,h,x⟩ K=z4Z C gl (bA e 0) (bA e 1) (bA e 12) (bA e 13) h x K:=by kernel_rfl
theorem zmi {C gl e h x K}:NW C gl (.loop WM) ⟨e,h,x⟩ K=PA C gl WM K [(0,bA e 0),(1,bA e 1),(12,bA e 12),(13,bA e 13)] h x:=wB
def PT:ACode:=.pr [] (.seq (rg [mV 4 cT] [4])
.ret)
def z5a (C:Hd)(gl:GL)(h:aA)(x:Esc)(K:KT):Prop:=
 K .ret ⟨[(4,(AB true))],h,x⟩
theorem zi1 {C gl e h x K}:NW C gl PT ⟨e,h,x⟩ K=z5a C gl h x K:=by kernel_rfl
def z2c (q1 q2:ACode):ACode:=(.seq (rg [mV 4 cF] [0,1])
(.seq (.seq (rg [mV 6 0,
lN 7 6,
mV 8 1,
lN 9 8,
bN 10 .neq 7 9] [0,1,10])
(.cond 10 (.seq (rg [mV 4 cF] [4])
.ret)
.skip))
(.seq (.seq (rg [mV 11 0,
lN 12 11,
mV 13 (cI 0)] [0,1,12,13])
(.block 0 (.loop q1)))
q2)))
def xW:AFun:=⟨2,[.t 4],z2c WM PT,false,false⟩
def GR (C:Hd)(gl:GL)(q1 q2:ACode)(v0 v1:AV)(h:aA)(x:Esc)(K:KT):Prop:=
 pK (OA v0) fun t1=>
 pK (OA v1) fun t2=>
 pK (gA .neq t1 t2) fun t3=>
 mA t3 (K .ret ⟨[(4,(AB false))],h,x⟩)
 (pK (OA v0) fun t4=>
 NW C gl (.loop q1) ⟨[(0,v0),(1,v1),(12,t4),(13,(AI 0))],h,x⟩ (yA 0 (NA C gl q2 K)))
theorem zbf {C gl q1 q2 v0 v1 h x K}:NW C gl (z2c q1 q2) ⟨enter [v0,v1],h,x⟩ K=GR C gl q1 q2 v0 v1 h x K:=by kernel_rfl
theorem ziz {C gl v0 v1 h x K}:NW C gl xW.body ⟨enter [v0,v1],h,x⟩ K=GR C gl WM PT v0 v1 h x K:=zbf
def ZM:ACode:=.pr [0,1,12,13] (.seq (rg [bN 14 .lss 13 12] [0,1,12,13,14])
(.seq (.cond 14 .skip
(.exit 0))
(.seq (.block 1 (.seq (rg [mV 15 13,
mV 5 15] [0,1,5,12,13])
(.seq (dr [dF (mV 16 0) [0],
dF (mV 17 5) [5],
dF (iA 18 none 16 17) [16,17],
dF (lD 19 none 18) [18],
dF (mV 20 1) [1],
dF (mV 21 5) [5],
dF (iA 22 none 20 21) [20,21],
dF (lD 23 none 22) [22],
dF (bN 24 .neq 19 23) [19,23]] [0,1,12,13,24])
(.cond 24 (.seq (rg [mV 4 cF] [4])
.ret)
.skip))))
(rg [bN 25 .add 13 (cI 1),
mV 13 25] [0,1,12,13]))))
def z5f (C:Hd)(gl:GL)(v0 v1 v12 v13:AV)(h:aA)(x:Esc)(K:KT):Prop:=
 pK (gA .lss v13 v12) fun t1=>
 mA t1 (pK (wA none v0 v13 h) fun t2=>
 pK (eA none t2 h) fun t3=>
 pK (wA none v1 v13 h) fun t4=>
 pK (eA none t4 h) fun t5=>
 pK (gA .neq t3 t5) fun t6=>
 mA t6 (K .ret ⟨[(4,(AB false))],h,x⟩)
 (pK (gA .add v13 (AI 1)) fun t7=>
 K .normal ⟨[(0,v0),(1,v1),(12,v12),(13,t7)],h,x⟩))
 (K (.exit 0) ⟨[(0,v0),(1,v1),(12,v12),(13,v13),(14,t1)],h,x⟩)
theorem zi9 {C gl e h x K}:NW C gl ZM ⟨e,h,x⟩ K=z5f C gl (bA e 0) (bA e 1) (bA e 12) (bA e 13) h x K:=by kernel_rfl
theorem zml {C gl e h x K}:NW C gl (.loop ZM) ⟨e,h,x⟩ K=PA C gl ZM K [(0,bA e 0),(1,bA e 1),(12,bA e 12),(13,bA e 13)] h x:=wB
def ST:ACode:=.pr [] (.seq (rg [mV 4 cT] [4])
.ret)
def z5g (C:Hd)(gl:GL)(h:aA)(x:Esc)(K:KT):Prop:=
 K .ret ⟨[(4,(AB true))],h,x⟩
theorem ziA {C gl e h x K}:NW C gl ST ⟨e,h,x⟩ K=z5g C gl h x K:=by kernel_rfl
def z2f (q1 q2:ACode):ACode:=(.seq (rg [mV 4 cF] [0,1])
(.seq (.seq (rg [mV 6 0,
lN 7 6,
mV 8 1,
lN 9 8,
bN 10 .neq 7 9] [0,1,10])
(.cond 10 (.seq (rg [mV 4 cF] [4])
.ret)
.skip))
(.seq (.seq (rg [mV 11 0,
lN 12 11,
mV 13 (cI 0)] [0,1,12,13])
(.block 0 (.loop q1)))
q2)))
def BW:AFun:=⟨2,[.t 4],z2f ZM ST,false,false⟩
def IR (C:Hd)(gl:GL)(q1 q2:ACode)(v0 v1:AV)(h:aA)(x:Esc)(K:KT):Prop:=
 pK (OA v0) fun t1=>
 pK (OA v1) fun t2=>
 pK (gA .neq t1 t2) fun t3=>
 mA t3 (K .ret ⟨[(4,(AB false))],h,x⟩)
 (pK (OA v0) fun t4=>
 NW C gl (.loop q1) ⟨[(0,v0),(1,v1),(12,t4),(13,(AI 0))],h,x⟩ (yA 0 (NA C gl q2 K)))
theorem zbi {C gl q1 q2 v0 v1 h x K}:NW C gl (z2f q1 q2) ⟨enter [v0,v1],h,x⟩ K=IR C gl q1 q2 v0 v1 h x K:=by kernel_rfl
theorem zi8 {C gl v0 v1 h x K}:NW C gl BW.body ⟨enter [v0,v1],h,x⟩ K=IR C gl ZM ST v0 v1 h x K:=zbi
def XM:ACode:=.pr [0,1,12,13] (.seq (rg [bN 14 .lss 13 12] [0,1,12,13,14])
(.seq (.cond 14 .skip
(.exit 0))
(.seq (.block 1 (.seq (rg [mV 15 13,
mV 5 15] [0,1,5,12,13])
(.seq (dr [dF (mV 16 0) [0],
dF (mV 17 5) [5],
dF (iA 18 (some 2) 16 17) [16,17],
dF (lD 19 (some 2) 18) [18],
dF (mV 20 1) [1],
dF (mV 21 5) [5],
dF (iA 22 (some 2) 20 21) [20,21],
dF (lD 23 (some 2) 22) [22],
dF (uO 24 (.eqa [2,2] true 19 23)) [19,23]] [0,1,12,13,24])
(.cond 24 (.seq (rg [mV 4 cF] [4])
.ret)
.skip))))
(rg [bN 25 .add 13 (cI 1),
mV 13 25] [0,1,12,13]))))
def z5b (C:Hd)(gl:GL)(v0 v1 v12 v13:AV)(h:aA)(x:Esc)(K:KT):Prop:=
 pK (gA .lss v13 v12) fun t1=>
 mA t1 (pK (wA (some 2) v0 v13 h) fun t2=>
 pK (eA (some 2) t2 h) fun t3=>
 pK (wA (some 2) v1 v13 h) fun t4=>
 pK (eA (some 2) t4 h) fun t5=>
 pK (nB [2,2] true t3 t5) fun t6=>
 mA t6 (K .ret ⟨[(4,(AB false))],h,x⟩)
 (pK (gA .add v13 (AI 1)) fun t7=>
 K .normal ⟨[(0,v0),(1,v1),(12,v12),(13,t7)],h,x⟩))
 (K (.exit 0) ⟨[(0,v0),(1,v1),(12,v12),(13,v13),(14,t1)],h,x⟩)
theorem zi3 {C gl e h x K}:NW C gl XM ⟨e,h,x⟩ K=z5b C gl (bA e 0) (bA e 1) (bA e 12) (bA e 13) h x K:=by kernel_rfl
theorem zmj {C gl e h x K}:NW C gl (.loop XM) ⟨e,h,x⟩ K=PA C gl XM K [(0,bA e 0),(1,bA e 1),(12,bA e 12),(13,bA e 13)] h x:=wB
def QT:ACode:=.pr [] (.seq (rg [mV 4 cT] [4])
.ret)
def z5c (C:Hd)(gl:GL)(h:aA)(x:Esc)(K:KT):Prop:=
 K .ret ⟨[(4,(AB true))],h,x⟩
theorem zi4 {C gl e h x K}:NW C gl QT ⟨e,h,x⟩ K=z5c C gl h x K:=by kernel_rfl
def z2d (q1 q2:ACode):ACode:=(.seq (rg [mV 4 cF] [0,1])
(.seq (.seq (rg [mV 6 0,
lN 7 6,
mV 8 1,
lN 9 8,
bN 10 .neq 7 9] [0,1,10])
(.cond 10 (.seq (rg [mV 4 cF] [4])
.ret)
.skip))
(.seq (.seq (rg [mV 11 0,
lN 12 11,
mV 13 (cI 0)] [0,1,12,13])
(.block 0 (.loop q1)))
q2)))
def yW:AFun:=⟨2,[.t 4],z2d XM QT,false,false⟩
def HR (C:Hd)(gl:GL)(q1 q2:ACode)(v0 v1:AV)(h:aA)(x:Esc)(K:KT):Prop:=
 pK (OA v0) fun t1=>
 pK (OA v1) fun t2=>
 pK (gA .neq t1 t2) fun t3=>
 mA t3 (K .ret ⟨[(4,(AB false))],h,x⟩)
 (pK (OA v0) fun t4=>
 NW C gl (.loop q1) ⟨[(0,v0),(1,v1),(12,t4),(13,(AI 0))],h,x⟩ (yA 0 (NA C gl q2 K)))
theorem zbg {C gl q1 q2 v0 v1 h x K}:NW C gl (z2d q1 q2) ⟨enter [v0,v1],h,x⟩ K=HR C gl q1 q2 v0 v1 h x K:=by kernel_rfl
theorem zi2 {C gl v0 v1 h x K}:NW C gl yW.body ⟨enter [v0,v1],h,x⟩ K=HR C gl XM QT v0 v1 h x K:=zbg
def zcz:ACode:=(.seq (rg [mV 4 cF] [0,1])
(.seq (rg [mV 5 0,
mV 6 1,
cL 7 AD [5,6],
bN 8 .eql 7 (cI 0),
mV 4 8] [4])
.ret))
def IV:AFun:=⟨2,[.t 4],zcz,false,false⟩
def NX (C:Hd)(gl:GL)(v0 v1:AV)(h:aA)(x:Esc)(K:KT):Prop:=
 C AD [v0,v1] h fun t1 h2 y3=>
 pK (gA .eql t1 (AI 0)) fun t4=>
 K .ret ⟨[(4,t4)],h2,(y3++x)⟩
theorem zhf {C gl v0 v1 h x K}:NW C gl IV.body ⟨enter [v0,v1],h,x⟩ K=NX C gl v0 v1 h x K:=by kernel_rfl
def UM:ACode:=.pr [0,3,9,10,11] (.seq (rg [bN 12 .lss 11 10] [0,3,9,10,11,12])
(.seq (.cond 12 .skip
(.exit 0))
(.seq (.block 1 (.seq (rg [iA 13 none 9 11,
lD 14 none 13,
mV 5 14] [0,3,5,9,10,11])
(.seq (rg [mV 15 3,
mV 16 5,
lN 17 16,
bN 18 .add 15 17,
mV 3 18] [0,3,9,10,11])
(.seq (rg [mV 19 3,
bN 20 .lss 19 (cI 0)] [0,3,9,10,11,20])
(.cond 20 .bad
.skip)))))
(rg [bN 22 .add 11 (cI 1),
mV 11 22] [0,3,9,10,11]))))
def z4U (C:Hd)(gl:GL)(v0 v3 v9 v10 v11:AV)(h:aA)(x:Esc)(K:KT):Prop:=
 pK (gA .lss v11 v10) fun t1=>
 mA t1 (pK (wA none v9 v11 h) fun t2=>
 pK (eA none t2 h) fun t3=>
 pK (OA t3) fun t4=>
 pK (gA .add v3 t4) fun t5=>
 pK (gA .lss t5 (AI 0)) fun t6=>
 mA t6 (False)
 (pK (gA .add v11 (AI 1)) fun t7=>
 K .normal ⟨[(0,v0),(3,t5),(9,v9),(10,v10),(11,t7)],h,x⟩))
 (K (.exit 0) ⟨[(0,v0),(3,v3),(9,v9),(10,v10),(11,v11),(12,t1)],h,x⟩)
theorem zio {C gl e h x K}:NW C gl UM ⟨e,h,x⟩ K=z4U C gl (bA e 0) (bA e 3) (bA e 9) (bA e 10) (bA e 11) h x K:=by kernel_rfl
theorem zmf {C gl e h x K}:NW C gl (.loop UM) ⟨e,h,x⟩ K=PA C gl UM K [(0,bA e 0),(3,bA e 3),(9,bA e 9),(10,bA e 10),(11,bA e 11)] h x:=wB
def vP:ACode:=.pr [6,25,26,27] (.seq (rg [bN 28 .lss 27 26] [6,25,26,27,28])
(.seq (.cond 28 .skip
(.exit 2))
(.seq (.block 3 (.seq (rg [iA 29 none 25 27,
lD 30 none 29,
mV 8 30] [6,8,25,26,27])
(rg [mV 31 6,
mV 32 8,
uO 33 (.app none 31 32),
mV 6 33] [6,25,26,27])))
(rg [bN 34 .add 27 (cI 1),
mV 27 34] [6,25,26,27]))))
def z4V (C:Hd)(gl:GL)(v6 v25 v26 v27:AV)(h:aA)(x:Esc)(K:KT):Prop:=
 pK (gA .lss v27 v26) fun t1=>
 mA t1 (pK (wA none v25 v27 h) fun t2=>
 pK (eA none t2 h) fun t3=>
 wK (dD none v6 t3 h) fun t4 h5 y6=>
 pK (gA .add v27 (AI 1)) fun t7=>
 K .normal ⟨[(6,t4),(25,v25),(26,v26),(27,t7)],h5,(y6++x)⟩)
 (K (.exit 2) ⟨[(6,v6),(25,v25),(26,v26),(27,v27),(28,t1)],h,x⟩)
theorem ziq {C gl e h x K}:NW C gl vP ⟨e,h,x⟩ K=z4V C gl (bA e 6) (bA e 25) (bA e 26) (bA e 27) h x K:=by kernel_rfl
theorem zmg {C gl e h x K}:NW C gl (.loop (.scope vP)) ⟨e,h,x⟩ K=PA C gl (.scope vP) K [(6,bA e 6),(25,bA e 25),(26,bA e 26),(27,bA e 27)] h x:=ZC
def XZ:ACode:=.pr [6] (.seq (rg [mV 35 6,
mV 2 35] [2])
.ret)
def z4W (C:Hd)(gl:GL)(v6:AV)(h:aA)(x:Esc)(K:KT):Prop:=
 K .ret ⟨[(2,v6)],h,x⟩
theorem zir {C gl e h x K}:NW C gl XZ ⟨e,h,x⟩ K=z4W C gl (bA e 6) h x K:=by kernel_rfl
def z1Z (q2 q3:ACode):ACode:=.pr [0,3] (.seq (rg [mV 23 3,
cL 24 EO [(.c (.sl0 none)),23],
mV 6 24] [0,6])
(.seq (.seq (rg [mV 25 0,
lN 26 25,
mV 27 (cI 0)] [6,25,26,27])
(.block 2 (.loop (.scope q2))))
q3))
def NT:ACode:=z1Z vP XZ
def fY (C:Hd)(gl:GL)(q2 q3:ACode)(v0 v3:AV)(h:aA)(x:Esc)(K:KT):Prop:=
 C EO [(.sl0 none),v3] h fun t1 h2 y3=>
 pK (OA v0) fun t4=>
 NW C gl (.loop (.scope q2)) ⟨[(6,t1),(25,v0),(26,t4),(27,(AI 0))],h2,(y3++x)⟩ (yA 2 (NA C gl q3 K))
theorem zbc {C gl q2 q3 e h x K}:NW C gl (z1Z q2 q3) ⟨e,h,x⟩ K=fY C gl q2 q3 (bA e 0) (bA e 3) h x K:=by kernel_rfl
theorem zis {C gl e h x K}:NW C gl NT ⟨e,h,x⟩ K=fY C gl vP XZ (bA e 0) (bA e 3) h x K:=zbc
def z1Y (q1 q4:ACode):ACode:=(.seq (rg [mV 2 (.c (.p (.sl none [])))] [0])
(.seq (rg [mV 3 (cI 0)] [0,3])
(.seq (.seq (rg [mV 9 0,
lN 10 9,
mV 11 (cI 0)] [0,3,9,10,11])
(.block 0 (.loop q1)))
q4)))
def uW:AFun:=⟨1,[.t 2],z1Y UM NT,false,true⟩
def ER (C:Hd)(gl:GL)(q1 q4:ACode)(v0:AV)(h:aA)(x:Esc)(K:KT):Prop:=
 pK (OA v0) fun t1=>
 NW C gl (.loop q1) ⟨[(0,v0),(3,(AI 0)),(9,v0),(10,t1),(11,(AI 0))],h,x⟩ (yA 0 (NA C gl q4 K))
theorem zbb {C gl q1 q4 v0 h x K}:NW C gl (z1Y q1 q4) ⟨enter [v0],h,x⟩ K=ER C gl q1 q4 v0 h x K:=by kernel_rfl
theorem zin {C gl v0 h x K}:NW C gl uW.body ⟨enter [v0],h,x⟩ K=ER C gl UM NT v0 h x K:=zbb
def zc1:ACode:=(.seq (rg [mV 6 (cI 0)] [0,1,2])
(.seq (.seq (rg [mV 7 0,
cL 8 vE [7,(cI 12)]] [0,1,2,8])
(.cond 8 (.seq (rg [mV 9 0,
mV 10 1,
bN 11 .sub 10 (cI 1),
mV 12 2,
bN 13 .add 12 (cI 1),
mV 14 1,
mV 15 2,
uO 16 (.bsl false none 6 (.int .i64 0) [(0,11),(1,13),(2,14),(3,15),(4,(cI (-1099511627776))),(5,(cI 1099511627776))]),
cL 17 wE [9,16],
mV 6 17] [6])
.ret)
.skip))
(.seq (rg [mV 18 0,
mV 19 1,
mV 20 2,
cL 21 lC [18,19,20],
mV 6 21] [6])
.ret)))
def KV:AFun:=⟨3,[.t 6],zc1,false,false⟩
def UK (C:Hd)(gl:GL)(v0 v1 v2:AV)(h:aA)(x:Esc)(K:KT):Prop:=
 C vE [v0,(AI 12)] h fun t1 h2 y3=>
 mA t1 (pK (gA .sub v1 (AI 1)) fun t4=>
 pK (gA .add v2 (AI 1)) fun t5=>
 wK (RA false none 6 (.int .i64 0) [(0,t4),(1,t5),(2,v1),(3,v2),(4,(AI (-1099511627776))),(5,(AI 1099511627776))] h2) fun t6 h7 y8=>
 C wE [v0,t6] h7 fun t9 h10 y11=>
 K .ret ⟨[(6,t9)],h10,(y11++(y8++(y3++x)))⟩)
 (C lC [v0,v1,v2] h2 fun t12 h13 y14=>
 K .ret ⟨[(6,t12)],h13,(y14++(y3++x))⟩)
theorem zhh {C gl v0 v1 v2 h x K}:NW C gl KV.body ⟨enter [v0,v1,v2],h,x⟩ K=UK C gl v0 v1 v2 h x K:=by kernel_rfl
def zc2:ACode:=(.seq (rg [mV 4 (cI 0)] [0,1])
(.seq (rg [mV 5 1,
mV 6 0,
mV 7 1,
lN 8 7,
cL 9 AD [6,8],
iA 10 none 5 9,
lD 11 none 10,
mV 4 11] [4])
.ret))
def LV:AFun:=⟨2,[.t 4],zc2,false,false⟩
def OX (C:Hd)(gl:GL)(v0 v1:AV)(h:aA)(x:Esc)(K:KT):Prop:=
 pK (OA v1) fun t1=>
 C AD [v0,t1] h fun t2 h3 y4=>
 pK (wA none v1 t2 h3) fun t5=>
 pK (eA none t5 h3) fun t6=>
 K .ret ⟨[(4,t6)],h3,(y4++x)⟩
theorem zhi {C gl v0 v1 h x K}:NW C gl LV.body ⟨enter [v0,v1],h,x⟩ K=OX C gl v0 v1 h x K:=by kernel_rfl
def zc0:ACode:=(.seq (rg [mV 4 (cI 0)] [0,1])
(.seq (rg [mV 7 0,
uO 8 (.nilchk 7),
fA 9 1 none 8,
lD 10 none 9,
bN 11 .add 10 (cI 1),
uO 12 (.nilchk 7),
fA 13 1 none 12,
wO (.store none 13 11)] [0,1])
(.seq (.seq (rg [mV 14 0,
uO 15 (.nilchk 14),
fA 16 0 none 15,
lD 17 none 16,
lN 18 17,
bN 19 .eql 18 (cI 0)] [0,1,19])
(.cond 19 (.seq (rg [mV 20 0,
uO 21 (.nilchk 20),
fA 22 1 none 21,
lD 23 none 22,
bN 24 .mul 23 (cI 7919),
mV 25 1,
cL 26 zG [24,25],
mV 4 26] [4])
.ret)
.skip))
(.seq (dr [dF (mV 27 0) [0],
dF (uO 28 (.nilchk 27)) [27],
dF (fA 29 1 none 28) [28],
dF (lD 30 none 29) [29],
dF (bN 31 .sub 30 (cI 1)) [30],
dF (mV 32 0) [0],
dF (uO 33 (.nilchk 32)) [32],
dF (fA 34 0 none 33) [33],
dF (lD 35 none 34) [34],
dF (lN 36 35) [35],
dF (bN 37 .rem 31 36) [31,36],
dF (mV 5 37) [37]] [0,1,5])
(.seq (dr [dF (mV 38 0) [0],
dF (uO 39 (.nilchk 38)) [38],
dF (fA 40 1 none 39) [39],
dF (lD 41 none 40) [40],
dF (bN 42 .sub 41 (cI 1)) [41],
dF (mV 43 0) [0],
dF (uO 44 (.nilchk 43)) [43],
dF (fA 45 0 none 44) [44],
dF (lD 46 none 45) [45],
dF (lN 47 46) [46],
dF (bN 48 .quo 42 47) [42,47],
dF (mV 6 48) [48]] [0,1,5,6])
(.seq (rg [mV 49 0,
uO 50 (.nilchk 49),
fA 51 0 none 50,
lD 52 none 51,
mV 53 5,
iA 54 none 52 53,
lD 55 none 54,
cL 56 zG [55,(cI 1073741824)],
mV 57 6,
mV 58 5,
bN 59 .add (cI 7919) 58,
bN 60 .mul 57 59,
bN 61 .add 56 60,
mV 62 1,
cL 63 zG [61,62],
mV 4 63] [4])
.ret))))))
def JV:AFun:=⟨2,[.t 4],zc0,false,false⟩
def pR (C:Hd)(gl:GL)(v0 v1:AV)(h:aA)(x:Esc)(K:KT):Prop:=
 pK (rA v0) fun t1=>
 pK (jA 1 none t1) fun t2=>
 pK (eA none t2 h) fun t3=>
 pK (gA .add t3 (AI 1)) fun t4=>
 pK (rA v0) fun t5=>
 pK (jA 1 none t5) fun t6=>
 wK (tA none t6 t4 h) fun t7 h8 y9=>
 pK (rA v0) fun t10=>
 pK (jA 0 none t10) fun t11=>
 pK (eA none t11 h8) fun t12=>
 pK (OA t12) fun t13=>
 pK (gA .eql t13 (AI 0)) fun t14=>
 mA t14 (pK (rA v0) fun t15=>
 pK (jA 1 none t15) fun t16=>
 pK (eA none t16 h8) fun t17=>
 pK (gA .mul t17 (AI 7919)) fun t18=>
 C zG [t18,v1] h8 fun t19 h20 y21=>
 K .ret ⟨[(4,t19)],h20,(y21++(y9++x))⟩)
 (pK (rA v0) fun t22=>
 pK (jA 1 none t22) fun t23=>
 pK (eA none t23 h8) fun t24=>
 pK (gA .sub t24 (AI 1)) fun t25=>
 pK (rA v0) fun t26=>
 pK (jA 0 none t26) fun t27=>
 pK (eA none t27 h8) fun t28=>
 pK (OA t28) fun t29=>
 pK (gA .rem t25 t29) fun t30=>
 pK (rA v0) fun t31=>
 pK (jA 1 none t31) fun t32=>
 pK (eA none t32 h8) fun t33=>
 pK (gA .sub t33 (AI 1)) fun t34=>
 pK (rA v0) fun t35=>
 pK (jA 0 none t35) fun t36=>
 pK (eA none t36 h8) fun t37=>
 pK (OA t37) fun t38=>
 pK (gA .quo t34 t38) fun t39=>
 pK (rA v0) fun t40=>
 pK (jA 0 none t40) fun t41=>
 pK (eA none t41 h8) fun t42=>
 pK (wA none t42 t30 h8) fun t43=>
 pK (eA none t43 h8) fun t44=>
 C zG [t44,(AI 1073741824)] h8 fun t45 h46 y47=>
 pK (gA .add (AI 7919) t30) fun t48=>
 pK (gA .mul t39 t48) fun t49=>
 pK (gA .add t45 t49) fun t50=>
 C zG [t50,v1] h46 fun t51 h52 y53=>
 K .ret ⟨[(4,t51)],h52,(y53++(y47++(y9++x)))⟩)
theorem zhg {C gl v0 v1 h x K}:NW C gl JV.body ⟨enter [v0,v1],h,x⟩ K=pR C gl v0 v1 h x K:=by kernel_rfl
def zcO:ACode:=(rg [mV 4 0,
mV 5 0,
lN 6 5,
mV 7 1,
cL 8 bM [4,6,7]] [])
def GW:AFun:=⟨2,[],zcO,true,false⟩
def lY (C:Hd)(gl:GL)(v0 v1:AV)(h:aA)(x:Esc)(K:KT):Prop:=
 pK (OA v0) fun t1=>
 C bM [v0,t1,v1] h fun t2 h3 y4=>
 K .normal ⟨[],h3,(y4++x)⟩
theorem ziM {C gl v0 v1 h x K}:NW C gl GW.body ⟨enter [v0,v1],h,x⟩ K=lY C gl v0 v1 h x K:=by kernel_rfl
def zc6:ACode:=(.seq (rg [uO 2 (.box 0),
uO 3 (.box 1),
mV 4 (cI 0)] [2,3])
(.seq (.block 0 (.seq (rg [fA 6 2 none 2,
lD 7 none 6,
fA 8 2 none 3,
lD 9 none 8,
bN 10 .neq 7 9,
mV 5 10] [2,3,5])
(.cond 5 (.seq (rg [fA 11 2 none 2,
lD 12 none 11,
fA 13 2 none 3,
lD 14 none 13,
bN 15 .sub 12 14,
cL 16 BG [15],
mV 4 16] [4])
.ret)
(.seq (rg [fA 18 0 none 2,
lD 19 none 18,
fA 20 0 none 3,
lD 21 none 20,
bN 22 .neq 19 21,
mV 17 22] [2,3,17])
(.cond 17 (.seq (rg [fA 23 0 none 2,
lD 24 none 23,
fA 25 0 none 3,
lD 26 none 25,
cL 27 LE [24,26],
mV 4 27] [4])
.ret)
.skip)))))
(.seq (rg [fA 28 1 none 2,
lD 29 none 28,
fA 30 1 none 3,
lD 31 none 30,
bN 32 .sub 29 31,
cL 33 BG [32],
mV 4 33] [4])
.ret)))
def UV:AFun:=⟨2,[.t 4],zc6,false,false⟩
def vI (C:Hd)(gl:GL)(v0 v1:AV)(h:aA)(x:Esc)(K:KT):Prop:=
 wK (vB v0 h) fun t1 h2 y3=>
 wK (vB v1 h2) fun t4 h5 y6=>
 pK (jA 2 none t1) fun t7=>
 pK (eA none t7 h5) fun t8=>
 pK (jA 2 none t4) fun t9=>
 pK (eA none t9 h5) fun t10=>
 pK (gA .neq t8 t10) fun t11=>
 mA t11 (pK (jA 2 none t1) fun t12=>
 pK (eA none t12 h5) fun t13=>
 pK (jA 2 none t4) fun t14=>
 pK (eA none t14 h5) fun t15=>
 pK (gA .sub t13 t15) fun t16=>
 C BG [t16] h5 fun t17 h18 y19=>
 K .ret ⟨[(4,t17)],h18,(y19++(y6++(y3++x)))⟩)
 (pK (jA 0 none t1) fun t20=>
 pK (eA none t20 h5) fun t21=>
 pK (jA 0 none t4) fun t22=>
 pK (eA none t22 h5) fun t23=>
 pK (gA .neq t21 t23) fun t24=>
 mA t24 (pK (jA 0 none t1) fun t25=>
 pK (eA none t25 h5) fun t26=>
 pK (jA 0 none t4) fun t27=>
 pK (eA none t27 h5) fun t28=>
 C LE [t26,t28] h5 fun t29 h30 y31=>
 K .ret ⟨[(4,t29)],h30,(y31++(y6++(y3++x)))⟩)
 (pK (jA 1 none t1) fun t32=>
 pK (eA none t32 h5) fun t33=>
 pK (jA 1 none t4) fun t34=>
 pK (eA none t34 h5) fun t35=>
 pK (gA .sub t33 t35) fun t36=>
 C BG [t36] h5 fun t37 h38 y39=>
 K .ret ⟨[(4,t37)],h38,(y39++(y6++(y3++x)))⟩))
theorem zh2 {C gl v0 v1 h x K}:NW C gl UV.body ⟨enter [v0,v1],h,x⟩ K=vI C gl v0 v1 h x K:=by kernel_rfl
def zcW:ACode:=(.seq (rg [uO 3 (.box 0),
mV 6 (cI 0)] [1,2,3])
(.seq (rg [lD 7 (some 2) 3,
cL 8 QJ [7],
mV 9 1,
cL 10 PJ [9],
mV 11 2,
cL 12 YJ [11],
uO 13 (.bsl false none 3 (.int .i64 0) [(0,8),(1,10),(2,12)]),
cL 14 HJ [13],
mV 6 14] [6])
.ret))
def CQ:AFun:=⟨3,[.t 6],zcW,false,false⟩
def KY (C:Hd)(gl:GL)(v0 v1 v2:AV)(h:aA)(x:Esc)(K:KT):Prop:=
 wK (vB v0 h) fun t1 h2 y3=>
 pK (eA (some 2) t1 h2) fun t4=>
 C QJ [t4] h2 fun t5 h6 y7=>
 C PJ [v1] h6 fun t8 h9 y10=>
 C YJ [v2] h9 fun t11 h12 y13=>
 wK (RA false none 3 (.int .i64 0) [(0,t5),(1,t8),(2,t11)] h12) fun t14 h15 y16=>
 C HJ [t14] h15 fun t17 h18 y19=>
 K .ret ⟨[(6,t17)],h18,(y19++(y16++(y13++(y10++(y7++(y3++x))))))⟩
theorem zjU {C gl v0 v1 v2 h x K}:NW C gl CQ.body ⟨enter [v0,v1,v2],h,x⟩ K=KY C gl v0 v1 v2 h x K:=by kernel_rfl
def z0v:ACode:=.pr [5,6,17,18,19] (rg [bN 59 .add 19 (cI 1),
mV 19 59] [5,6,17,18,19])
def z5P (C:Hd)(gl:GL)(v5 v6 v17 v18 v19:AV)(h:aA)(x:Esc)(K:KT):Prop:=
 pK (gA .add v19 (AI 1)) fun t1=>
 K .normal ⟨[(5,v5),(6,v6),(17,v17),(18,v18),(19,t1)],h,x⟩
theorem zko {C gl e h x K}:NW C gl z0v ⟨e,h,x⟩ K=z5P C gl (bA e 5) (bA e 6) (bA e 17) (bA e 18) (bA e 19) h x K:=by kernel_rfl
def z2Y (q1:ACode):ACode:=.pr [5,6,17,18,19] (.seq (rg [bN 20 .lss 19 18] [5,6,17,18,19,20])
(.seq (.cond 20 .skip
(.exit 0))
(.seq (.block 1 (.seq (rg [mV 21 19,
iA 22 (some 8) 17 19,
lD 23 (some 8) 22,
uO 8 (.alloc [.p (.str []),.p (.int .i64 0),.p (.int .i64 0),.p (.int .i64 0),.p (.str []),.p (.str []),.p (.str []),.p (.int .i64 0)]),
mV 7 21,
wO (.store (some 8) 8 23)] [5,6,7,8,17,18,19])
(.seq (.seq (rg [mV 24 6,
mV 25 7,
iA 26 none 24 25,
lD 27 none 26,
uO 28 (.un .not 27),
mV 29 28,
gD 30 29 false (.faddr 3 none 8),
gD 31 29 false (.load none 30),
gD 32 29 false (.bin .eql 31 (cI 7)),
uO 33 (.pick 29 cT 32)] [5,6,7,8,17,18,19,33])
(.cond 33 (.exit 1)
.skip))
(.seq (rg [mV 34 5,
lD 35 (some 8) 8,
cL 36 XF [34,35],
mV 9 36] [5,6,7,9,17,18,19])
(.seq (rg [mV 37 9,
bN 38 .neq 37 (cI 0)] [5,6,7,9,17,18,19,38])
(.cond 38 (.seq (rg [mV 39 5,
mV 40 5,
uO 41 (.nilchk 40),
fA 42 6 none 41,
lD 43 none 42,
mV 44 7,
uO 45 (.bsl false none 1 (.int .i64 0) [(0,44)]),
uO 46 (.app none 43 45),
uO 47 (.nilchk 39),
fA 48 6 none 47,
wO (.store none 48 46)] [5,6,9,17,18,19])
(rg [mV 49 5,
mV 50 5,
uO 51 (.nilchk 50),
fA 52 7 none 51,
lD 53 none 52,
mV 54 9,
uO 55 (.bsl false none 1 (.int .i64 0) [(0,54)]),
uO 56 (.app none 53 55),
uO 57 (.nilchk 49),
fA 58 7 none 57,
wO (.store none 58 56)] [5,6,17,18,19]))
.skip))))))
q1)))
def wN:ACode:=z2Y z0v
def QY (C:Hd)(gl:GL)(q1:ACode)(v5 v6 v17 v18 v19:AV)(h:aA)(x:Esc)(K:KT):Prop:=
 pK (gA .lss v19 v18) fun t1=>
 mA t1 (pK (wA (some 8) v17 v19 h) fun t2=>
 pK (eA (some 8) t2 h) fun t3=>
 alK [.p (.str []),.p (.int .i64 0),.p (.int .i64 0),.p (.int .i64 0),.p (.str []),.p (.str []),.p (.str []),.p (.int .i64 0)] h fun t4 h5 y6=>
 wK (tA (some 8) t4 t3 h5) fun t7 h8 y9=>
 pK (wA none v6 v19 h8) fun t10=>
 pK (eA none t10 h8) fun t11=>
 pK (oUn .not t11) fun t12=>
 gP t12 false (jA 3 none t4) h8 fun t13 h14 y15=>
 gP t12 false (eA none t13 h14) h14 fun t16 h17 y18=>
 gP t12 false (gA .eql t16 (AI 7)) h17 fun t19 h20 y21=>
 pK (DA t12 (AB true) t19) fun t22=>
 mA t22 (NW C gl q1 ⟨[(5,v5),(6,v6),(7,v19),(8,t4),(17,v17),(18,v18),(19,v19),(33,t22)],h20,(y21++(y18++(y15++(y9++(y6++x)))))⟩ K)
 (pK (eA (some 8) t4 h20) fun t23=>
 C XF [v5,t23] h20 fun t24 h25 y26=>
 pK (gA .neq t24 (AI 0)) fun t27=>
 mA t27 (pK (rA v5) fun t28=>
 pK (jA 6 none t28) fun t29=>
 pK (eA none t29 h25) fun t30=>
 wK (RA false none 1 (.int .i64 0) [(0,v19)] h25) fun t31 h32 y33=>
 wK (dD none t30 t31 h32) fun t34 h35 y36=>
 pK (rA v5) fun t37=>
 pK (jA 6 none t37) fun t38=>
 wK (tA none t38 t34 h35) fun t39 h40 y41=>
 pK (rA v5) fun t42=>
 pK (jA 7 none t42) fun t43=>
 pK (eA none t43 h40) fun t44=>
 wK (RA false none 1 (.int .i64 0) [(0,t24)] h40) fun t45 h46 y47=>
 wK (dD none t44 t45 h46) fun t48 h49 y50=>
 pK (rA v5) fun t51=>
 pK (jA 7 none t51) fun t52=>
 wK (tA none t52 t48 h49) fun t53 h54 y55=>
 NW C gl q1 ⟨[(5,v5),(6,v6),(17,v17),(18,v18),(19,v19)],h54,(y55++(y50++(y47++(y41++(y36++(y33++(y26++(y21++(y18++(y15++(y9++(y6++x))))))))))))⟩ K)
 (NW C gl q1 ⟨[(5,v5),(6,v6),(7,v19),(9,t24),(17,v17),(18,v18),(19,v19),(38,t27)],h25,(y26++(y21++(y18++(y15++(y9++(y6++x))))))⟩ K)))
 (K (.exit 0) ⟨[(5,v5),(6,v6),(17,v17),(18,v18),(19,v19),(20,t1)],h,x⟩)
theorem zbT {C gl q1 e h x K}:NW C gl (z2Y q1) ⟨e,h,x⟩ K=QY C gl q1 (bA e 5) (bA e 6) (bA e 17) (bA e 18) (bA e 19) h x K:=by kernel_rfl
theorem zkp {C gl e h x K}:NW C gl wN ⟨e,h,x⟩ K=QY C gl z0v (bA e 5) (bA e 6) (bA e 17) (bA e 18) (bA e 19) h x K:=zbT
theorem zmE {C gl e h x K}:NW C gl (.loop (.scope wN)) ⟨e,h,x⟩ K=PA C gl (.scope wN) K [(5,bA e 5),(6,bA e 6),(17,bA e 17),(18,bA e 18),(19,bA e 19)] h x:=ZC
def kU:ACode:=.pr [5] (.seq (rg [mV 60 5,
mV 4 60] [4])
.ret)
def z5Q (C:Hd)(gl:GL)(v5:AV)(h:aA)(x:Esc)(K:KT):Prop:=
 K .ret ⟨[(4,v5)],h,x⟩
theorem zkq {C gl e h x K}:NW C gl kU ⟨e,h,x⟩ K=z5Q C gl (bA e 5) h x K:=by kernel_rfl
def z2X (q2 q3:ACode):ACode:=(.seq (rg [uO 2 (.uns 12 0 [0]),
mV 4 (.c (.nilp))] [1,2])
(.seq (rg [lD 10 (some 2) 2,
uO 11 (.mkmap),
uO 12 (.mkmap),
uO 13 (.build [.sl0 none,.p (.int .i64 0),.nilm,.nilm,.sl0 (some 5),.sl0 (some 3),.sl0 none,.sl0 none] [(0,2,10),(2,1,11),(3,1,12)]),
uO 14 (.uns 12 0 [13]),
mV 5 14] [1,5])
(.seq (rg [mV 15 1,
cL 16 SJ [15],
mV 6 16] [1,5,6])
(.seq (.seq (rg [mV 17 1,
lN 18 17,
mV 19 (cI 0)] [5,6,17,18,19])
(.block 0 (.loop (.scope q2))))
q3))))
def IQ:AFun:=⟨2,[.t 4],z2X wN kU,false,false⟩
def fS (C:Hd)(gl:GL)(q2 q3:ACode)(v0 v1:AV)(h:aA)(x:Esc)(K:KT):Prop:=
 wK (kG 12 0 [v0] h) fun t1 h2 y3=>
 pK (eA (some 2) t1 h2) fun t4=>
 mmK h2 fun t5 h6 y7=>
 mmK h6 fun t8 h9 y10=>
 pK (RB [.sl0 none,.p (.int .i64 0),.nilm,.nilm,.sl0 (some 5),.sl0 (some 3),.sl0 none,.sl0 none] [(0,2,t4),(2,1,t5),(3,1,t8)]) fun t11=>
 wK (kG 12 0 [t11] h9) fun t12 h13 y14=>
 C SJ [v1] h13 fun t15 h16 y17=>
 pK (OA v1) fun t18=>
 NW C gl (.loop (.scope q2)) ⟨[(5,t12),(6,t15),(17,v1),(18,t18),(19,(AI 0))],h16,(y17++(y14++(y10++(y7++(y3++x)))))⟩ (yA 0 (NA C gl q3 K))
theorem zbS {C gl q2 q3 v0 v1 h x K}:NW C gl (z2X q2 q3) ⟨enter [v0,v1],h,x⟩ K=fS C gl q2 q3 v0 v1 h x K:=by kernel_rfl
theorem zkn {C gl v0 v1 h x K}:NW C gl IQ.body ⟨enter [v0,v1],h,x⟩ K=fS C gl wN kU v0 v1 h x K:=zbS
def yN:ACode:=.pr [0,1,5] (.seq (.seq (rg [mV 8 5,
bN 9 .gtr 8 (cI 0),
mV 10 9,
gD 11 10 true (.mv 0),
gD 12 10 true (.mv 5),
gD 13 10 true (.bin .sub 12 (cI 1)),
gD 14 10 true (.iaddr (some 8) 11 13),
gD 15 10 true (.faddr 2 none 14),
gD 16 10 true (.load none 15),
gD 17 10 true (.mv 1),
gD 18 10 true (.bin .gtr 16 17),
uO 19 (.pick 10 18 cF)] [0,1,5,19])
(.cond 19 .skip
(.exit 0)))
(.block 1 (rg [mV 20 5,
bN 21 .sub 20 (cI 1),
mV 5 21] [0,1,5])))
def z5U (C:Hd)(gl:GL)(v0 v1 v5:AV)(h:aA)(x:Esc)(K:KT):Prop:=
 pK (gA .gtr v5 (AI 0)) fun t1=>
 gM t1 true v0 h fun t2 h3 y4=>
 gM t1 true v5 h3 fun t5 h6 y7=>
 gP t1 true (gA .sub t5 (AI 1)) h6 fun t8 h9 y10=>
 gP t1 true (wA (some 8) t2 t8 h9) h9 fun t11 h12 y13=>
 gP t1 true (jA 2 none t11) h12 fun t14 h15 y16=>
 gP t1 true (eA none t14 h15) h15 fun t17 h18 y19=>
 gM t1 true v1 h18 fun t20 h21 y22=>
 gP t1 true (gA .gtr t17 t20) h21 fun t23 h24 y25=>
 pK (DA t1 t23 (AB false)) fun t26=>
 mA t26 (pK (gA .sub v5 (AI 1)) fun t27=>
 K .normal ⟨[(0,v0),(1,v1),(5,t27)],h24,(y25++(y22++(y19++(y16++(y13++(y10++(y7++(y4++x))))))))⟩)
 (K (.exit 0) ⟨[(0,v0),(1,v1),(5,v5),(19,t26)],h24,(y25++(y22++(y19++(y16++(y13++(y10++(y7++(y4++x))))))))⟩)
theorem zkz {C gl e h x K}:NW C gl yN ⟨e,h,x⟩ K=z5U C gl (bA e 0) (bA e 1) (bA e 5) h x K:=by kernel_rfl
theorem zmG {C gl e h x K}:NW C gl (.loop yN) ⟨e,h,x⟩ K=PA C gl yN K [(0,bA e 0),(1,bA e 1),(5,bA e 5)] h x:=wB
def nU:ACode:=.pr [0,5] (.seq (rg [mV 22 0,
mV 23 5,
uO 24 (.slice (some 8) 22 none (some 23) none),
mV 4 24] [4])
.ret)
def z5V (C:Hd)(gl:GL)(v0 v5:AV)(h:aA)(x:Esc)(K:KT):Prop:=
 pK (eD (some 8) v0 none (some v5) none h) fun t1=>
 K .ret ⟨[(4,t1)],h,x⟩
theorem zk0 {C gl e h x K}:NW C gl nU ⟨e,h,x⟩ K=z5V C gl (bA e 0) (bA e 5) h x K:=by kernel_rfl
def z3b (q1 q2:ACode):ACode:=(.seq (rg [mV 4 (.c (.p (.sl (some 8) [])))] [0,1])
(.seq (rg [mV 6 0,
lN 7 6,
mV 5 7] [0,1,5])
(.seq (.block 0 (.loop q1))
q2)))
def LQ:AFun:=⟨2,[.t 4],z3b yN nU,false,false⟩
def jS (C:Hd)(gl:GL)(q1 q2:ACode)(v0 v1:AV)(h:aA)(x:Esc)(K:KT):Prop:=
 pK (OA v0) fun t1=>
 NW C gl (.loop q1) ⟨[(0,v0),(1,v1),(5,t1)],h,x⟩ (yA 0 (NA C gl q2 K))
theorem zbW {C gl q1 q2 v0 v1 h x K}:NW C gl (z3b q1 q2) ⟨enter [v0,v1],h,x⟩ K=jS C gl q1 q2 v0 v1 h x K:=by kernel_rfl
theorem zky {C gl v0 v1 h x K}:NW C gl LQ.body ⟨enter [v0,v1],h,x⟩ K=jS C gl yN nU v0 v1 h x K:=zbW
def DM:ACode:=.pr [0,23,24] (.seq (rg [bN 25 .lss 24 23] [0,23,24,25])
(.seq (.cond 25 .skip
(.exit 0))
(.seq (.block 1 (.seq (rg [mV 26 24,
mV 3 26] [0,3,23,24])
(.seq (rg [mV 27 0,
mV 28 3,
uO 29 (.idxs 27 28),
mV 4 29] [0,4,23,24])
(.seq (rg [mV 30 4,
bN 31 .geq 30 (.c (.p (.int .u8 97))),
mV 32 31,
gD 33 32 true (.mv 4),
gD 34 32 true (.bin .leq 33 (.c (.p (.int .u8 122)))),
uO 35 (.pick 32 34 cF),
mV 36 35,
gD 37 36 false (.mv 4),
gD 38 36 false (.bin .geq 37 (.c (.p (.int .u8 48)))),
gD 39 36 false (.mv 38),
gD 40 39 true (.mv 4),
gD 41 39 true (.bin .leq 40 (.c (.p (.int .u8 57)))),
gD 42 36 false (.pick 39 41 cF),
uO 43 (.pick 36 cT 42),
mV 44 43,
gD 45 44 false (.mv 4),
gD 46 44 false (.bin .eql 45 (.c (.p (.int .u8 45)))),
uO 47 (.pick 44 cT 46),
mV 48 47,
gD 49 48 false (.mv 4),
gD 50 48 false (.bin .eql 49 (.c (.p (.int .u8 95)))),
uO 51 (.pick 48 cT 50),
uO 52 (.un .not 51)] [0,23,24,52])
(.cond 52 (.seq (rg [mV 2 cF] [2])
.ret)
.skip)))))
(rg [bN 53 .add 24 (cI 1),
mV 24 53] [0,23,24]))))
def z4n (C:Hd)(gl:GL)(v0 v23 v24:AV)(h:aA)(x:Esc)(K:KT):Prop:=
 pK (gA .lss v24 v23) fun t1=>
 mA t1 (pK (GH v0 v24) fun t2=>
 pK (gA .geq t2 (.p (.int .u8 97))) fun t3=>
 gM t3 true t2 h fun t4 h5 y6=>
 gP t3 true (gA .leq t4 (.p (.int .u8 122))) h5 fun t7 h8 y9=>
 pK (DA t3 t7 (AB false)) fun t10=>
 gM t10 false t2 h8 fun t11 h12 y13=>
 gP t10 false (gA .geq t11 (.p (.int .u8 48))) h12 fun t14 h15 y16=>
 gM t10 false t14 h15 fun t17 h18 y19=>
 gM t17 true t2 h18 fun t20 h21 y22=>
 gP t17 true (gA .leq t20 (.p (.int .u8 57))) h21 fun t23 h24 y25=>
 gP t10 false (DA t17 t23 (AB false)) h24 fun t26 h27 y28=>
 pK (DA t10 (AB true) t26) fun t29=>
 gM t29 false t2 h27 fun t30 h31 y32=>
 gP t29 false (gA .eql t30 (.p (.int .u8 45))) h31 fun t33 h34 y35=>
 pK (DA t29 (AB true) t33) fun t36=>
 gM t36 false t2 h34 fun t37 h38 y39=>
 gP t36 false (gA .eql t37 (.p (.int .u8 95))) h38 fun t40 h41 y42=>
 pK (DA t36 (AB true) t40) fun t43=>
 pK (oUn .not t43) fun t44=>
 mA t44 (K .ret ⟨[(2,(AB false))],h41,(y42++(y39++(y35++(y32++(y28++(y25++(y22++(y19++(y16++(y13++(y9++(y6++x))))))))))))⟩)
 (pK (gA .add v24 (AI 1)) fun t45=>
 K .normal ⟨[(0,v0),(23,v23),(24,t45)],h41,(y42++(y39++(y35++(y32++(y28++(y25++(y22++(y19++(y16++(y13++(y9++(y6++x))))))))))))⟩))
 (K (.exit 0) ⟨[(0,v0),(23,v23),(24,v24),(25,t1)],h,x⟩)
theorem zg3 {C gl e h x K}:NW C gl DM ⟨e,h,x⟩ K=z4n C gl (bA e 0) (bA e 23) (bA e 24) h x K:=by kernel_rfl
theorem zlN {C gl e h x K}:NW C gl (.loop DM) ⟨e,h,x⟩ K=PA C gl DM K [(0,bA e 0),(23,bA e 23),(24,bA e 24)] h x:=wB
def mT:ACode:=.pr [] (.seq (rg [mV 2 cT] [2])
.ret)
def z4o (C:Hd)(gl:GL)(h:aA)(x:Esc)(K:KT):Prop:=
 K .ret ⟨[(2,(AB true))],h,x⟩
theorem zg4 {C gl e h x K}:NW C gl mT ⟨e,h,x⟩ K=z4o C gl h x K:=by kernel_rfl
def z1v (q1 q2:ACode):ACode:=(.seq (rg [mV 2 cF] [0])
(.seq (.seq (rg [mV 5 0,
bN 6 .eql 5 (cS []),
mV 7 6,
gD 8 7 false (.mv 0),
gD 9 7 false (.lens 8),
gD 10 7 false (.bin .gtr 9 (cI 40)),
uO 11 (.pick 7 cT 10),
mV 12 11,
gD 13 12 false (.mv 0),
gD 14 12 false (.idxs 13 (cI 0)),
gD 15 12 false (.bin .lss 14 (.c (.p (.int .u8 97)))),
uO 16 (.pick 12 cT 15),
mV 17 16,
gD 18 17 false (.mv 0),
gD 19 17 false (.idxs 18 (cI 0)),
gD 20 17 false (.bin .gtr 19 (.c (.p (.int .u8 122)))),
uO 21 (.pick 17 cT 20)] [0,21])
(.cond 21 (.seq (rg [mV 2 cF] [2])
.ret)
.skip))
(.seq (.seq (rg [mV 22 0,
uO 23 (.lens 22),
mV 24 (cI 0)] [0,23,24])
(.block 0 (.loop q1)))
q2)))
def nQ:AFun:=⟨1,[.t 2],z1v DM mT,false,false⟩
def tI (C:Hd)(gl:GL)(q1 q2:ACode)(v0:AV)(h:aA)(x:Esc)(K:KT):Prop:=
 pK (gA .eql v0 (.p (.str []))) fun t1=>
 gM t1 false v0 h fun t2 h3 y4=>
 gP t1 false (nK t2) h3 fun t5 h6 y7=>
 gP t1 false (gA .gtr t5 (AI 40)) h6 fun t8 h9 y10=>
 pK (DA t1 (AB true) t8) fun t11=>
 gM t11 false v0 h9 fun t12 h13 y14=>
 gP t11 false (GH t12 (AI 0)) h13 fun t15 h16 y17=>
 gP t11 false (gA .lss t15 (.p (.int .u8 97))) h16 fun t18 h19 y20=>
 pK (DA t11 (AB true) t18) fun t21=>
 gM t21 false v0 h19 fun t22 h23 y24=>
 gP t21 false (GH t22 (AI 0)) h23 fun t25 h26 y27=>
 gP t21 false (gA .gtr t25 (.p (.int .u8 122))) h26 fun t28 h29 y30=>
 pK (DA t21 (AB true) t28) fun t31=>
 mA t31 (K .ret ⟨[(2,(AB false))],h29,(y30++(y27++(y24++(y20++(y17++(y14++(y10++(y7++(y4++x)))))))))⟩)
 (pK (nK v0) fun t32=>
 NW C gl (.loop q1) ⟨[(0,v0),(23,t32),(24,(AI 0))],h29,(y30++(y27++(y24++(y20++(y17++(y14++(y10++(y7++(y4++x)))))))))⟩ (yA 0 (NA C gl q2 K)))
theorem zay {C gl q1 q2 v0 h x K}:NW C gl (z1v q1 q2) ⟨enter [v0],h,x⟩ K=tI C gl q1 q2 v0 h x K:=by kernel_rfl
theorem zg2 {C gl v0 h x K}:NW C gl nQ.body ⟨enter [v0],h,x⟩ K=tI C gl DM mT v0 h x K:=zay
def lU:ACode:=.pr [9] (.seq (rg [mV 23 9,
mV 8 23] [8])
.ret)
def z5R (C:Hd)(gl:GL)(v9:AV)(h:aA)(x:Esc)(K:KT):Prop:=
 K .ret ⟨[(8,v9)],h,x⟩
theorem zku {C gl e h x K}:NW C gl lU ⟨e,h,x⟩ K=z5R C gl (bA e 9) h x K:=by kernel_rfl
def z2Z (q1:ACode):ACode:=(.seq (rg [uO 4 (.box 0),
mV 8 (cI 0)] [1,2,3,4])
(.seq (rg [lD 10 (some 2) 4,
mV 11 1,
mV 12 3,
cL 13 WD [10,11,12],
mV 9 13] [2,4,9])
(.seq (.seq (rg [mV 14 9,
bN 15 .eql 14 (cI 0),
mV 16 15,
gD 17 16 true (.faddr 0 none 4),
gD 18 16 true (.load none 17),
gD 19 16 true (.mv 2),
gD 20 16 true (.call KE [18,19]),
gD 21 16 true (.un .not 20),
uO 22 (.pick 16 21 cF)] [9,22])
(.cond 22 (rg [mV 9 (cI 8)] [9])
.skip))
q1)))
def bX:AFun:=⟨4,[.t 8],z2Z lU,false,false⟩
def aL (C:Hd)(gl:GL)(q1:ACode)(v0 v1 v2 v3:AV)(h:aA)(x:Esc)(K:KT):Prop:=
 wK (vB v0 h) fun t1 h2 y3=>
 pK (eA (some 2) t1 h2) fun t4=>
 C WD [t4,v1,v3] h2 fun t5 h6 y7=>
 pK (gA .eql t5 (AI 0)) fun t8=>
 gP t8 true (jA 0 none t1) h6 fun t9 h10 y11=>
 gP t8 true (eA none t9 h10) h10 fun t12 h13 y14=>
 gM t8 true v2 h13 fun t15 h16 y17=>
 gV t8 true h16 (C KE [t12,t15] h16) fun t18 h19 y20=>
 gP t8 true (oUn .not t18) h19 fun t21 h22 y23=>
 pK (DA t8 t21 (AB false)) fun t24=>
 mA t24 (NW C gl q1 ⟨[(9,(AI 8))],h22,(y23++(y20++(y17++(y14++(y11++(y7++(y3++x)))))))⟩ K)
 (NW C gl q1 ⟨[(9,t5),(22,t24)],h22,(y23++(y20++(y17++(y14++(y11++(y7++(y3++x)))))))⟩ K)
theorem zbU {C gl q1 v0 v1 v2 v3 h x K}:NW C gl (z2Z q1) ⟨enter [v0,v1,v2,v3],h,x⟩ K=aL C gl q1 v0 v1 v2 v3 h x K:=by kernel_rfl
theorem zkt {C gl v0 v1 v2 v3 h x K}:NW C gl bX.body ⟨enter [v0,v1,v2,v3],h,x⟩ K=aL C gl lU v0 v1 v2 v3 h x K:=zbU
def vN:ACode:=.pr [1,2,5,12] (.seq (rg [uO 13 (.mnext none [12]),
eX 14 13 0] [1,2,5,12,14])
(.seq (.cond 14 .skip
(.exit 0))
(.block 1 (.seq (rg [uO 15 (.mentry 12),
eX 16 15 0,
eX 17 15 1,
mV 6 16,
mV 7 17] [1,2,5,6,7,12])
(.seq (rg [mV 18 7,
uO 19 (.nilchk 18),
fA 20 0 none 19,
lD 21 none 20,
bN 22 .eql 21 (cI 1),
mV 23 22,
gD 24 23 true (.mv 7),
gD 25 23 true (.nilchk 24),
gD 26 23 true (.faddr 2 none 25),
gD 27 23 true (.load none 26),
gD 28 23 true (.mv 1),
gD 29 23 true (.bin .eql 27 28),
uO 30 (.pick 23 29 cF)] [1,2,5,6,12,30])
(.cond 30 (rg [mV 31 5,
mV 32 6,
uO 33 (.bsl false none 1 (.str []) [(0,32)]),
uO 34 (.app none 31 33),
mV 5 34] [1,2,5,12])
.skip))))))
def z5N (C:Hd)(gl:GL)(v1 v2 v5 v12:AV)(h:aA)(x:Esc)(K:KT):Prop:=
 nxK v12 h fun t1 h2 y3=>
 pK (jB t1 0) fun t4=>
 mA t4 (wK (IC v12 h2) fun t5 h6 y7=>
 pK (jB t5 0) fun t8=>
 pK (jB t5 1) fun t9=>
 pK (rA t9) fun t10=>
 pK (jA 0 none t10) fun t11=>
 pK (eA none t11 h6) fun t12=>
 pK (gA .eql t12 (AI 1)) fun t13=>
 gM t13 true t9 h6 fun t14 h15 y16=>
 gP t13 true (rA t14) h15 fun t17 h18 y19=>
 gP t13 true (jA 2 none t17) h18 fun t20 h21 y22=>
 gP t13 true (eA none t20 h21) h21 fun t23 h24 y25=>
 gM t13 true v1 h24 fun t26 h27 y28=>
 gP t13 true (gA .eql t23 t26) h27 fun t29 h30 y31=>
 pK (DA t13 t29 (AB false)) fun t32=>
 mA t32 (wK (RA false none 1 (.str []) [(0,t8)] h30) fun t33 h34 y35=>
 wK (dD none v5 t33 h34) fun t36 h37 y38=>
 K .normal ⟨[(1,v1),(2,v2),(5,t36),(12,v12)],h37,(y38++(y35++(y31++(y28++(y25++(y22++(y19++(y16++(y7++(y3++x))))))))))⟩)
 (K .normal ⟨[(1,v1),(2,v2),(5,v5),(6,t8),(12,v12),(30,t32)],h30,(y31++(y28++(y25++(y22++(y19++(y16++(y7++(y3++x))))))))⟩))
 (K (.exit 0) ⟨[(1,v1),(2,v2),(5,v5),(12,v12),(14,t4)],h2,(y3++x)⟩)
theorem zkk {C gl e h x K}:NW C gl vN ⟨e,h,x⟩ K=z5N C gl (bA e 1) (bA e 2) (bA e 5) (bA e 12) h x K:=by kernel_rfl
theorem zmD {C gl e h x K}:NW C gl (.loop (.scope vN)) ⟨e,h,x⟩ K=PA C gl (.scope vN) K [(1,bA e 1),(2,bA e 2),(5,bA e 5),(12,bA e 12)] h x:=ZC
def jU:ACode:=.pr [2,5] (.seq (rg [mV 35 5,
uO 36 (.mkfn XJ [2]),
cL 37 WL [35,36]] [5])
(.seq (rg [mV 38 5,
mV 4 38] [4])
.ret))
def z5O (C:Hd)(gl:GL)(v2 v5:AV)(h:aA)(x:Esc)(K:KT):Prop:=
 C WL [v5,(.fn XJ [v2])] h fun t1 h2 y3=>
 K .ret ⟨[(4,v5)],h2,(y3++x)⟩
theorem zkl {C gl e h x K}:NW C gl jU ⟨e,h,x⟩ K=z5O C gl (bA e 2) (bA e 5) h x K:=by kernel_rfl
def z2W (q1 q2:ACode):ACode:=(.det (.seq (rg [uO 2 (.box 0),
mV 4 (.c (.p (.sl none [])))] [1,2])
(.seq (rg [uO 5 (.new0 none)] [1,2,5])
(.seq (.seq (rg [lD 8 none 2,
uO 9 (.nilchk 8),
fA 10 2 none 9,
lD 11 none 10,
uO 12 (.mrange 11)] [1,2,5,12])
(.block 0 (.loop (.scope q1))))
q2))))
def YW:AFun:=⟨2,[.t 4],z2W vN jU,false,false⟩
def dS (C:Hd)(gl:GL)(q1 q2:ACode)(v0 v1:AV)(h:aA)(x:Esc)(K:KT):Prop:=
 wK (vB v0 h) fun t1 h2 y3=>
 nwK none h2 fun t4 h5 y6=>
 pK (eA none t1 h5) fun t7=>
 pK (rA t7) fun t8=>
 pK (jA 2 none t8) fun t9=>
 pK (eA none t9 h5) fun t10=>
 wK (JC t10 h5) fun t11 h12 y13=>
 NW C gl (.loop (.scope q1)) ⟨[(1,v1),(2,t1),(5,t4),(12,t11)],h12,(y13++(y6++(y3++x)))⟩ (yA 0 (NA C gl q2 K))
theorem zbR {C gl q1 q2 v0 v1 h x K}:NW C gl (z2W q1 q2) ⟨enter [v0,v1],h,x⟩ K=dS C gl q1 q2 v0 v1 h x K:=by kernel_rfl
theorem zkj {C gl v0 v1 h x K}:NW C gl YW.body ⟨enter [v0,v1],h,x⟩ K=dS C gl vN jU v0 v1 h x K:=zbR
def zcr:ACode:=(.seq (rg [uO 1 (.box 0),
mV 2 (.c (.nilf))] [1])
(.seq (rg [uO 3 (.mkfn BO [1]),
mV 2 3] [2])
.ret))
def uV:AFun:=⟨1,[.t 2],zcr,false,false⟩
def CX (C:Hd)(gl:GL)(v0:AV)(h:aA)(x:Esc)(K:KT):Prop:=
 wK (vB v0 h) fun t1 h2 y3=>
 K .ret ⟨[(2,(.fn BO [t1]))],h2,(y3++x)⟩
theorem zgG {C gl v0 h x K}:NW C gl uV.body ⟨enter [v0],h,x⟩ K=CX C gl v0 h x K:=by kernel_rfl
def zdb:ACode:=(.seq (rg [mV 2 (cS [])] [0])
(.seq (rg [uO 3 (.build [.p (.str []),.p (.str []),.p (.str []),.p (.str []),.p (.str [])] [(0,1,(cS [119,97,105,116,115])),(1,1,(cS [114,117,110,115])),(2,1,(cS [102,97,105,108,101,100])),(3,1,(cS [100,111,110,101])),(4,1,(cS [115,99,114,97,112,112,101,100]))]),
mV 4 0,
bN 5 .sub 4 (cI 1),
uO 6 (.idxa 5 none 3 5),
mV 2 6] [2])
.ret))
def aX:AFun:=⟨1,[.t 2],zdb,false,false⟩
def FJ (C:Hd)(gl:GL)(v0:AV)(h:aA)(x:Esc)(K:KT):Prop:=
 pK (RB [.p (.str []),.p (.str []),.p (.str []),.p (.str []),.p (.str [])] [(0,1,(.p (.str [119,97,105,116,115]))),(1,1,(.p (.str [114,117,110,115]))),(2,1,(.p (.str [102,97,105,108,101,100]))),(3,1,(.p (.str [100,111,110,101]))),(4,1,(.p (.str [115,99,114,97,112,112,101,100])))]) fun t1=>
 pK (gA .sub v0 (AI 1)) fun t2=>
 pK (iT 5 none t1 t2) fun t3=>
 K .ret ⟨[(2,t3)],h,x⟩
theorem zks {C gl v0 h x K}:NW C gl aX.body ⟨enter [v0],h,x⟩ K=FJ C gl v0 h x K:=by kernel_rfl
def KM:ACode:=.pr [1,16,17,18] (.seq (rg [bN 19 .lss 18 17] [1,16,17,18,19])
(.seq (.cond 19 .skip
(.exit 1))
(.seq (.block 2 (.seq (rg [mV 20 18,
iA 21 none 16 18,
lD 22 none 21,
mV 3 20,
mV 4 22] [1,3,4,16,17,18])
(.seq (.seq (rg [mV 23 4,
cL 24 BD [23],
uO 25 (.un .not 24)] [1,3,4,16,17,18,25])
(.cond 25 (.seq (rg [mV 2 (cI 5)] [2])
.ret)
.skip))
(.seq (rg [fA 26 0 none 1,
lD 27 none 26,
mV 28 3,
uO 29 (.slice none 27 none (some 28) none),
mV 30 4,
cL 31 KE [29,30]] [1,16,17,18,31])
(.cond 31 (.seq (rg [mV 2 (cI 6)] [2])
.ret)
.skip)))))
(rg [bN 32 .add 18 (cI 1),
mV 18 32] [1,16,17,18]))))
def z4C (C:Hd)(gl:GL)(v1 v16 v17 v18:AV)(h:aA)(x:Esc)(K:KT):Prop:=
 pK (gA .lss v18 v17) fun t1=>
 mA t1 (pK (wA none v16 v18 h) fun t2=>
 pK (eA none t2 h) fun t3=>
 C BD [t3] h fun t4 h5 y6=>
 pK (oUn .not t4) fun t7=>
 mA t7 (K .ret ⟨[(2,(AI 5))],h5,(y6++x)⟩)
 (pK (jA 0 none v1) fun t8=>
 pK (eA none t8 h5) fun t9=>
 pK (eD none t9 none (some v18) none h5) fun t10=>
 C KE [t10,t3] h5 fun t11 h12 y13=>
 mA t11 (K .ret ⟨[(2,(AI 6))],h12,(y13++(y6++x))⟩)
 (pK (gA .add v18 (AI 1)) fun t14=>
 K .normal ⟨[(1,v1),(16,v16),(17,v17),(18,t14)],h12,(y13++(y6++x))⟩)))
 (K (.exit 1) ⟨[(1,v1),(16,v16),(17,v17),(18,v18),(19,t1)],h,x⟩)
theorem zh4 {C gl e h x K}:NW C gl KM ⟨e,h,x⟩ K=z4C C gl (bA e 1) (bA e 16) (bA e 17) (bA e 18) h x K:=by kernel_rfl
theorem zlW {C gl e h x K}:NW C gl (.loop KM) ⟨e,h,x⟩ K=PA C gl KM K [(1,bA e 1),(16,bA e 16),(17,bA e 17),(18,bA e 18)] h x:=wB
def BT:ACode:=.pr [1] (.seq (.seq (rg [fA 33 1 none 1,
lD 34 none 33,
cL 35 qD [34,(cI 1),(cI 10)],
uO 36 (.un .not 35)] [36])
(.cond 36 (.seq (rg [mV 2 (cI 1)] [2])
.ret)
.skip))
(.seq (rg [mV 2 (cI 0)] [2])
.ret))
def tR (C:Hd)(gl:GL)(v1:AV)(h:aA)(x:Esc)(K:KT):Prop:=
 pK (jA 1 none v1) fun t1=>
 pK (eA none t1 h) fun t2=>
 C qD [t2,(AI 1),(AI 10)] h fun t3 h4 y5=>
 pK (oUn .not t3) fun t6=>
 mA t6 (K .ret ⟨[(2,(AI 1))],h4,(y5++x)⟩)
 (K .ret ⟨[(2,(AI 0))],h4,(y5++x)⟩)
theorem XY {C gl e h x K}:NW C gl BT ⟨e,h,x⟩ K=tR C gl (bA e 1) h x K:=by kernel_rfl
def z1J (q1 q2:ACode):ACode:=(.seq (rg [uO 1 (.box 0),
mV 2 (cI 0)] [1])
(.seq (.block 0 (.seq (rg [fA 6 0 none 1,
lD 7 none 6,
lN 8 7,
bN 9 .eql 8 (cI 0),
mV 5 9] [1,5])
(.cond 5 (.seq (rg [mV 2 (cI 8)] [2])
.ret)
(.seq (rg [fA 11 0 none 1,
lD 12 none 11,
lN 13 12,
bN 14 .gtr 13 (cI 20),
mV 10 14] [1,10])
(.cond 10 (.seq (rg [mV 2 (cI 2)] [2])
.ret)
.skip)))))
(.seq (.seq (rg [fA 15 0 none 1,
lD 16 none 15,
lN 17 16,
mV 18 (cI 0)] [1,16,17,18])
(.block 1 (.loop q1)))
q2)))
def VV:AFun:=⟨1,[.t 2],z1J KM BT,false,false⟩
def VK (C:Hd)(gl:GL)(q1 q2:ACode)(v0:AV)(h:aA)(x:Esc)(K:KT):Prop:=
 wK (vB v0 h) fun t1 h2 y3=>
 pK (jA 0 none t1) fun t4=>
 pK (eA none t4 h2) fun t5=>
 pK (OA t5) fun t6=>
 pK (gA .eql t6 (AI 0)) fun t7=>
 mA t7 (K .ret ⟨[(2,(AI 8))],h2,(y3++x)⟩)
 (pK (jA 0 none t1) fun t8=>
 pK (eA none t8 h2) fun t9=>
 pK (OA t9) fun t10=>
 pK (gA .gtr t10 (AI 20)) fun t11=>
 mA t11 (K .ret ⟨[(2,(AI 2))],h2,(y3++x)⟩)
 (pK (jA 0 none t1) fun t12=>
 pK (eA none t12 h2) fun t13=>
 pK (OA t13) fun t14=>
 NW C gl (.loop q1) ⟨[(1,t1),(16,t13),(17,t14),(18,(AI 0))],h2,(y3++x)⟩ (yA 1 (NA C gl q2 K))))
theorem zaM {C gl q1 q2 v0 h x K}:NW C gl (z1J q1 q2) ⟨enter [v0],h,x⟩ K=VK C gl q1 q2 v0 h x K:=by kernel_rfl
theorem zh3 {C gl v0 h x K}:NW C gl VV.body ⟨enter [v0],h,x⟩ K=VK C gl KM BT v0 h x K:=zaM
end Go.Am
end
