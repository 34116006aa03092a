/- Texts of the proof, laid together: Ctx, SpStream, MathFrac, SpBase, SpList, SpShp, SpStr, PTap2, SpTapT, SpMap, SpTap1, SpBld, SpTap2, SpPath, PBits, SpWalk, SpLen, SpStrs, SpFind, SpLimD, SpLim, SpLotA, SpRecD, SpGenA, SpSome, SpGenL, SpRec, SpSortRec, SpCompact, SpGenR, PMerge, SpMrgA, SpSort, SpMrgB, SpMrgC, SpMrgD, PFin, SpTxt, SpFlt1, SpFlt2, SpVec1, SpVec2, SpFlt3, SpFlt4, SpFlt5, SpArg, SpFlt6, SpSortO, SpGenF, SpVec4, SpTap3, SpEsc, SpTap4, SpTap5, SpTap6, SpTap7. -/
import Derived.Test.YthlhdniejglcnaaGreatDoorlawPS6
set_option linter.all false
section
/- The functions together. -/
set_option linter.all false
set_option maxRecDepth 100000
namespace Go.Am
def fns:List (Nat × AFun):=[(YQ,jU),(UM,mU),(OF,qU),(kH,jV),(WM,tU),(iN,HU),(oI,MO),(qE,oU),(nI,kU),(gH,rU),(NF,nU),(xI,eV),(fH,pU),(eK,lV),(BN,kV),(tG,QO),(UJ,vU),(VJ,EU),(XM,uU),(iH,wU),(cN,AU),(sG,PO),(QF,TO),(CN,nV),(qI,lU),(sI,IU),(cK,fV),(AN,iV),(yI,RO),(zI,aP),(fK,XO),(dH,JO),(jH,QU),(qN,SU),(mN,NU),(rI,GU),(dN,BU),(YM,xU),(WB,LO),(dK,SO),(kK,cP),(zD,KO),(vG,WO),(kF,YO),(uG,UO),(rN,TU),(pN,RU),(ZD,HO),(oN,PU),(eH,iU),(XJ,KU),(ZM,yU),(VM,sU),(ZJ,LU),(WJ,FU),(aN,zU),(jK,bP),(iK,ZO),(aK,NO),(sN,UU),(xN,bV),(tN,VU),(gN,DU),(fN,CU),(nN,OU),(HE,OH),(kN,MU),(jN,JU),(uI,OO),(PF,iJ),(yN,cV),(uN,WU),(vI,ZU),(vN,XU),(bK,YU),(TM,gU),(wN,aV),(zN,dV),(VQ,dU),(WQ,eU),(XQ,fU)]
def GRL:List (Nat × Sh):=[]
def PRL:DF:=[(MA,yL),(tI,trimS),(pI,z0r)]
def GLL:List (Nat × PV):=[]
def FN:List (Nat × AFun)→Nat→Option AFun
 | [],_=>none
 | (k,F)::r,n=>bif Nat.beq k n then some F else FN r n
def X:Ctx:=⟨FN fns,glOf GLL,TJ cH TQ,SF GRL PRL⟩
theorem z3K {p:Nat→AFun→Bool}:∀(l:List (Nat×AFun)),(l.all fun y=>p y.1 y.2)=true→∀n F,FN l n=some F→p n F=true
 | [],_,n,F,h=>by cases h
 | (k,G)::r,ha,n,F,h=>by
  simp only[List.all_cons,Bool.and_eq_true]at ha;simp only[FN]at h;cases hk:Nat.beq k n with
  | true=>
   rw[hk]at h;have:=Nat.eq_of_beq_eq_true hk;simp only[cond_true,Option.some.injEq]at h;subst this;subst h;exact ha.1
  | false=>
   rw[hk]at h;exact z3K r ha.2 n F h
def fns0:List (Nat × AFun):=[(pI,z8s),(oI,MO),(tG,QO),(z36,z8L),(sG,PO),(QF,TO),(z2W,z8f),(z3e,z8n),(z3t,z86),(z2G,z7K),(z3j,z8t),(yI,RO),(zI,aP),(fK,XO),(dH,JO),(WB,LO),(dK,SO),(kK,cP),(z2V,z8e),(z3h,z8q),(z3g,z8p),(nX,z7F),(z3x,z8A),(zD,KO),(z32,z8G),(z35,z8J),(z2E,z7I),(z2P,z7U),(UQ,z7V),(vG,WO),(kF,YO),(uG,UO),(ZD,HO),(z3n,z8y),(jK,bP),(iK,ZO),(z2X,z8g),(z2Z,z8i),(z3c,z8l),(z3b,z8k),(z3a,z8j),(z3m,z8x),(z3i,z8r),(z3f,z8o),(z2D,z7G),(z3s,z85),(z3r,z84),(z33,z8H),(z3v,z88),(z31,z8F),(z2F,z7J),(z2J,z7N),(z3l,z8v),(aK,NO),(HE,OH),(z3q,z82),(z2U,z8d),(z2T,z8c),(z3p,z81),(tX,z8z),(z3w,z89),(z3u,z87),(z34,z8I),(oX,z7H),(z30,z8E),(z3z,z8C),(vX,z8D),(z2K,z7O),(z2O,z7T),(z2Q,z7W),(uI,OO),(PF,iJ),(z2Y,z8h),(uX,z83),(qX,z8a),(pX,z7Z),(YJ,z8K),(z3y,z8B),(z2I,z7M),(RM,z7S),(sX,z8w),(z2L,z7P),(z2R,z7X),(z2H,z7L),(rX,z8b),(z3d,z8m),(z3o,z80),(z2M,z7Q),(z2S,z7Y),(z3k,z8u),(z2N,z7R)]
def PRL0:DF:=[(MA,yL),(tI,trimS)]
def X0:Ctx:=⟨FN fns0,glOf GLL,TJ cH TQ,SF GRL PRL0⟩
theorem zlO:X0.fn PF=some iJ:=by kernel_rfl
theorem zlN:X0.fn HE=some OH:=by kernel_rfl
theorem cU:X.NoNext:=fun f F h=>z3K (p:=fun _ F=>F.isDet||F.body.noNext) fns (by kernel_rfl) f F h
theorem zlY:X.fn YQ=some jU:=by kernel_rfl
theorem z9G {u0 v0:AV}{h h1:aA}{P:jA}(hp:oA h [u0]=some ([v0],h1)):bA X YQ [u0] h P=(jM (bA X) X.gl [(0,v0)] h1 [] (qA [.t 2] false h.length P)).1:=by rw[AA zlY rfl hp rfl];exact zbU
theorem zmc:X.fn UM=some mU:=by kernel_rfl
theorem z9K {u0 v0:AV}{h h1:aA}{P:jA}(hp:oA h [u0]=some ([v0],h1)):bA X UM [u0] h P=(DP (bA X) X.gl [(0,v0)] h1 [] (qA [.t 2] false h.length P)).1:=by rw[AA zmc rfl hp rfl];exact zcb
theorem zmg:X.fn OF=some qU:=by kernel_rfl
theorem z9O {u0 u1 u2 v0 v1 v2:AV}{h h1:aA}{P:jA}(hp:oA h [u0,u1,u2]=some ([v0,v1,v2],h1)):bA X OF [u0,u1,u2] h P=(GP (bA X) X.gl [(0,v0),(1,v1),(2,v2)] h1 [] (qA [.t 6] false h.length P)).1:=by rw[AA zmg rfl hp rfl];exact zcf
theorem z7i:X.fn kH=some jV:=by kernel_rfl
theorem za8 {u0 u1 v0 v1:AV}{h h1:aA}{P:jA}(hp:oA h [u0,u1]=some ([v0,v1],h1)):bA X kH [u0,u1] h P=(AM (bA X) X.gl [(0,v0),(1,v1)] h1 [] (qA [.t 4,.t 5] false h.length P)).1:=by rw[AA z7i rfl hp rfl];exact zdk
theorem zmj:X.fn WM=some tU:=by kernel_rfl
theorem z9R {u0 v0:AV}{h h1:aA}{P:jA}(hp:oA h [u0]=some ([v0],h1)):bA X WM [u0] h P=(yJ (bA X) X.gl [(0,v0)] h1 [] (qA [.t 2] false h.length P)).1:=by rw[AA zmj rfl hp rfl];exact zci
theorem zmx:X.fn iN=some HU:=by kernel_rfl
theorem zaf {u0 u1 v0 v1:AV}{h h1:aA}{P:jA}(hp:oA h [u0,u1]=some ([v0,v1],h1)):bA X iN [u0,u1] h P=(pM (bA X) X.gl [(0,v0),(1,v1)] h1 [] (qA [.t 4] false h.length P)).1:=by rw[AA zmx rfl hp rfl];exact zcw
theorem zma:X.fn oI=some MO:=by kernel_rfl
theorem z9I {u0 v0:AV}{h h1:aA}{P:jA}(hp:oA h [u0]=some ([v0],h1)):bA X oI [u0] h P=(BP (bA X) X.gl [(0,v0)] h1 [] (qA [.t 2] false h.length P)).1:=by rw[AA zma rfl hp rfl];exact zbW
theorem zme:X.fn qE=some oU:=by kernel_rfl
theorem z9M {u0 u1 v0 v1:AV}{h h1:aA}{P:jA}(hp:oA h [u0,u1]=some ([v0,v1],h1)):bA X qE [u0,u1] h P=(lM (bA X) X.gl [(0,v0),(1,v1)] h1 [] (qA [.t 4] false h.length P)).1:=by rw[AA zme rfl hp rfl];exact zcd
theorem zlZ:X.fn nI=some kU:=by kernel_rfl
theorem z9H {u0 u1 v0 v1:AV}{h h1:aA}{P:jA}(hp:oA h [u0,u1]=some ([v0,v1],h1)):bA X nI [u0,u1] h P=(zP (bA X) X.gl [(0,v0),(1,v1)] h1 [] (qA [.t 3] false h.length P)).1:=by rw[AA zlZ rfl hp rfl];exact zbV
theorem zmh:X.fn gH=some rU:=by kernel_rfl
theorem z9P {u0 u1 v0 v1:AV}{h h1:aA}{P:jA}(hp:oA h [u0,u1]=some ([v0,v1],h1)):bA X gH [u0,u1] h P=(HP (bA X) X.gl [(0,v0),(1,v1)] h1 [] (qA [.t 4] false h.length P)).1:=by rw[AA zmh rfl hp rfl];exact zcg
theorem zmd:X.fn NF=some nU:=by kernel_rfl
theorem z9L {u0 u1 v0 v1:AV}{h h1:aA}{P:jA}(hp:oA h [u0,u1]=some ([v0,v1],h1)):bA X NF [u0,u1] h P=(EP (bA X) X.gl [(0,v0),(1,v1)] h1 [] (qA [.t 4] false h.length P)).1:=by rw[AA zmd rfl hp rfl];exact zcc
theorem z7h:X.fn xI=some eV:=by kernel_rfl
theorem za5 {u0 u1 u2 v0 v1 v2:AV}{h h1:aA}{P:jA}(hp:oA h [u0,u1,u2]=some ([v0,v1,v2],h1)):bA X xI [u0,u1,u2] h P = ∃v h' x,P v h' x∧(GJ (bA X) X.gl [(0,v0),(1,v1),(2,v2)] h1 [] (qA [.t 6,.t 7] false h.length fun v1 h1 x1=>v1=v∧h1=h'∧x1=x)).1:=by rw[TH z7h rfl hp rfl];exact SQ fun v h' x=>congrArg (And (P v h' x)) zdh
theorem zmf:X.fn fH=some pU:=by kernel_rfl
theorem z9N {u0 u1 v0 v1:AV}{h h1:aA}{P:jA}(hp:oA h [u0,u1]=some ([v0,v1],h1)):bA X fH [u0,u1] h P=(FP (bA X) X.gl [(0,v0),(1,v1)] h1 [] (qA [.t 4] false h.length P)).1:=by rw[AA zmf rfl hp rfl];exact zce
theorem zmU:X.fn eK=some lV:=by kernel_rfl
theorem zaD {u0 u1 v0 v1:AV}{h h1:aA}{P:jA}(hp:oA h [u0,u1]=some ([v0,v1],h1)):bA X eK [u0,u1] h P=(wQ (bA X) X.gl [(0,v0),(1,v1)] h1 [] (qA [.t 4] false h.length P)).1:=by rw[AA zmU rfl hp rfl];exact zdt
theorem zmT:X.fn BN=some kV:=by kernel_rfl
theorem zaC {u0 u1 v0 v1:AV}{h h1:aA}{P:jA}(hp:oA h [u0,u1]=some ([v0,v1],h1)):bA X BN [u0,u1] h P=(uQ (bA X) X.gl [(0,v0),(1,v1)] h1 [] (qA [.t 4] false h.length P)).1:=by rw[AA zmT rfl hp rfl];exact zds
theorem zmP:X.fn tG=some QO:=by kernel_rfl
theorem za9 {u0 v0:AV}{h h1:aA}{P:jA}(hp:oA h [u0]=some ([v0],h1)):bA X tG [u0] h P=(IJ (bA X) X.gl [(0,v0)] h1 [] (qA [.t 2] false h.length P)).1:=by rw[AA zmP rfl hp rfl];exact zdl
theorem zml:X.fn UJ=some vU:=by kernel_rfl
theorem z9T {u0 v0:AV}{h h1:aA}{P:jA}(hp:oA h [u0]=some ([v0],h1)):bA X UJ [u0] h P=(gI (bA X) X.gl [(0,v0)] h1 [] (qA [.t 2] false h.length P)).1:=by rw[AA zml rfl hp rfl];exact zck
theorem zmu:X.fn VJ=some EU:=by kernel_rfl
theorem zac {u0 u1 h P}:bA X VJ [u0,u1] h P=(QP (bA X) X.gl [(0,u0),(1,u1)] h [] (qA [.t 4] false h.length P)).1:=by rw[pJ zmu rfl rfl];exact zct
theorem zmk:X.fn XM=some uU:=by kernel_rfl
theorem z9S {u0 u1 v0 v1:AV}{h h1:aA}{P:jA}(hp:oA h [u0,u1]=some ([v0,v1],h1)):bA X XM [u0,u1] h P=(JP (bA X) X.gl [(0,v0),(1,v1)] h1 [] (qA [.t 3] false h.length P)).1:=by rw[AA zmk rfl hp rfl];exact zcj
theorem zmm:X.fn iH=some wU:=by kernel_rfl
theorem z9U {u0 u1 u2 v0 v1 v2:AV}{h h1:aA}{P:jA}(hp:oA h [u0,u1,u2]=some ([v0,v1,v2],h1)):bA X iH [u0,u1,u2] h P=(KP (bA X) X.gl [(0,v0),(1,v1),(2,v2)] h1 [] (qA [.t 6] false h.length P)).1:=by rw[AA zmm rfl hp rfl];exact zcl
theorem zmq:X.fn cN=some AU:=by kernel_rfl
theorem z9Y {u0 v0:AV}{h h1:aA}{P:jA}(hp:oA h [u0]=some ([v0],h1)):bA X cN [u0] h P=(zJ (bA X) X.gl [(0,v0)] h1 [] (qA [.t 2] false h.length P)).1:=by rw[AA zmq rfl hp rfl];exact zcp
theorem zmM:X.fn sG=some PO:=by kernel_rfl
theorem za4 {u0 v0:AV}{h h1:aA}{P:jA}(hp:oA h [u0]=some ([v0],h1)):bA X sG [u0] h P=(vM (bA X) X.gl [(0,v0)] h1 [] (qA [.t 2] false h.length P)).1:=by rw[AA zmM rfl hp rfl];exact zde
theorem zmS:X.fn QF=some TO:=by kernel_rfl
theorem z1z {u0 u1 v0 v1:AV}{h h1:aA}{P:jA}(hp:oA h [u0,u1]=some ([v0,v1],h1)):bA X QF [u0,u1] h P=(BM (bA X) X.gl [(0,v0),(1,v1)] h1 [] (qA [.t 4] false h.length P)).1:=by rw[AA zmS rfl hp rfl];exact zdp
theorem znb:X.fn CN=some nV:=by kernel_rfl
theorem zaJ {u0 v0:AV}{h h1:aA}{P:jA}(hp:oA h [u0]=some ([v0],h1)):bA X CN [u0] h P=(yQ (bA X) X.gl [(0,v0)] h1 [] (qA [.t 2] false h.length P)).1:=by rw[AA znb rfl hp rfl];exact zdB
theorem zmb:X.fn qI=some lU:=by kernel_rfl
theorem z9J {u0 u1 v0 v1:AV}{h h1:aA}{P:jA}(hp:oA h [u0,u1]=some ([v0,v1],h1)):bA X qI [u0,u1] h P=(CP (bA X) X.gl [(0,v0),(1,v1)] h1 [] (qA [.t 4] false h.length P)).1:=by rw[AA zmb rfl hp rfl];exact zbZ
theorem zmy:X.fn sI=some IU:=by kernel_rfl
theorem zag {u0 u1 h P}:bA X sI [u0,u1] h P=(TP (bA X) X.gl [(0,u0),(1,u1)] h [] (qA [.t 4] false h.length P)).1:=by rw[pJ zmy rfl rfl];exact zcz
theorem zmN:X.fn cK=some fV:=by kernel_rfl
theorem za6 {u0 u1 v0 v1:AV}{h h1:aA}{P:jA}(hp:oA h [u0,u1]=some ([v0,v1],h1)):bA X cK [u0,u1] h P=(rQ (bA X) X.gl [(0,v0),(1,v1)] h1 [] (qA [.t 3] false h.length P)).1:=by rw[AA zmN rfl hp rfl];exact zdi
theorem zmO:X.fn AN=some iV:=by kernel_rfl
theorem za7 {u0 v0:AV}{h h1:aA}{P:jA}(hp:oA h [u0]=some ([v0],h1)):bA X AN [u0] h P=(sQ (bA X) X.gl [(0,v0)] h1 [] (qA [.t 2] false h.length P)).1:=by rw[AA zmO rfl hp rfl];exact zdj
theorem zmQ:X.fn yI=some RO:=by kernel_rfl
theorem zaA {u0 v0:AV}{h h1:aA}{P:jA}(hp:oA h [u0]=some ([v0],h1)):bA X yI [u0] h P=(JJ (bA X) X.gl [(0,v0)] h1 [] (qA [.t 2] false h.length P)).1:=by rw[AA zmQ rfl hp rfl];exact zdm
theorem zna:X.fn zI=some aP:=by kernel_rfl
theorem zaI {u0 u1 v0 v1:AV}{h h1:aA}{P:jA}(hp:oA h [u0,u1]=some ([v0,v1],h1)):bA X zI [u0,u1] h P=(nG (bA X) X.gl [(0,v0),(1,v1)] h1 [] (qA [.t 4] false h.length P)).1:=by rw[AA zna rfl hp rfl];exact zdA
theorem zmX:X.fn fK=some XO:=by kernel_rfl
theorem zaF {u0 u1 v0 v1:AV}{h h1:aA}{P:jA}(hp:oA h [u0,u1]=some ([v0,v1],h1)):bA X fK [u0,u1] h P=oE (bA X) X.gl OI dO v0 v1 h1 [] (qA [] false h.length P):=by rw[AA zmX rfl hp rfl];exact zd3
theorem zlQ:X.fn dH=some JO:=by kernel_rfl
theorem z9C {u0 v0:AV}{h h1:aA}{P:jA}(hp:oA h [u0]=some ([v0],h1)):bA X dH [u0] h P=(wP (bA X) X.gl [(0,v0)] h1 [] (qA [.t 2] false h.length P)).1:=by rw[AA zlQ rfl hp rfl];exact zb5
theorem zm6:X.fn jH=some QU:=by kernel_rfl
theorem zao {u0 v0:AV}{h h1:aA}{P:jA}(hp:oA h [u0]=some ([v0],h1)):bA X jH [u0] h P=(AJ (bA X) X.gl [(0,v0)] h1 [] (qA [.t 2] false h.length P)).1:=by rw[AA zm6 rfl hp rfl];exact zcE
theorem zm9:X.fn qN=some SU:=by kernel_rfl
theorem zar {u0 u1 u2 v0 v1 v2:AV}{h h1:aA}{P:jA}(hp:oA h [u0,u1,u2]=some ([v0,v1,v2],h1)):bA X qN [u0,u1,u2] h P=(dQ (bA X) X.gl [(0,v0),(1,v1),(2,v2)] h1 [] (qA [.t 6,.t 7] false h.length P)).1:=by rw[AA zm9 rfl hp rfl];exact zcH
theorem zm3:X.fn mN=some NU:=by kernel_rfl
theorem zal {u0 u1 v0 v1:AV}{h h1:aA}{P:jA}(hp:oA h [u0,u1]=some ([v0,v1],h1)):bA X mN [u0,u1] h P=(YP (bA X) X.gl [(0,v0),(1,v1)] h1 [] (qA [.t 4] false h.length P)).1:=by rw[AA zm3 rfl hp rfl];exact zcA
theorem zmw:X.fn rI=some GU:=by kernel_rfl
theorem zae {u0 u1 h P}:bA X rI [u0,u1] h P=(SP (bA X) X.gl [(0,u0),(1,u1)] h [] (qA [.t 4] false h.length P)).1:=by rw[pJ zmw rfl rfl];exact zcv
theorem zmr:X.fn dN=some BU:=by kernel_rfl
theorem z9Z {u0 u1 v0 v1:AV}{h h1:aA}{P:jA}(hp:oA h [u0,u1]=some ([v0,v1],h1)):bA X dN [u0,u1] h P=(NP (bA X) X.gl [(0,v0),(1,v1)] h1 [] (qA [.t 3] false h.length P)).1:=by rw[AA zmr rfl hp rfl];exact zcq
theorem zmn:X.fn YM=some xU:=by kernel_rfl
theorem z9V {u0 u1 v0 v1:AV}{h h1:aA}{P:jA}(hp:oA h [u0,u1]=some ([v0,v1],h1)):bA X YM [u0,u1] h P=(mE (bA X) X.gl [(0,v0),(1,v1)] h1 [] (qA [.t 4] false h.length P)).1:=by rw[AA zmn rfl hp rfl];exact zcm
theorem zlS:X.fn WB=some LO:=by kernel_rfl
theorem z9E {u0 u1 u2 v0 v1 v2:AV}{h h1:aA}{P:jA}(hp:oA h [u0,u1,u2]=some ([v0,v1,v2],h1)):bA X WB [u0,u1,u2] h P=(xP (bA X) X.gl [(0,v0),(1,v1),(2,v2)] h1 [] (qA [.t 6] false h.length P)).1:=by rw[AA zlS rfl hp rfl];exact zbB
theorem zmR:X.fn dK=some SO:=by kernel_rfl
theorem zaB {u0 v0:AV}{h h1:aA}{P:jA}(hp:oA h [u0]=some ([v0],h1)):bA X dK [u0] h P=(WD (bA X) X.gl [(0,v0)] h1 [] (qA [.cell 2 (some 6),.t 3] false h.length P)).1:=by rw[AA zmR rfl hp rfl];exact zdn
theorem znd:X.fn kK=some cP:=by kernel_rfl
theorem zaL {h h1:aA}{P:jA}(hp:oA h []=some ([],h1)):bA X kK [] h P=(zQ (bA X) X.gl [] h1 [] (qA [.cell 0 (some 36)] false h.length P)).1:=by rw[AA znd rfl hp rfl];exact zdD
theorem zlR:X.fn zD=some KO:=by kernel_rfl
theorem z9D {u0 v0:AV}{h h1:aA}{P:jA}(hp:oA h [u0]=some ([v0],h1)):bA X zD [u0] h P=(SG (bA X) X.gl [(0,v0)] h1 [] (qA [.t 2] false h.length P)).1:=by rw[AA zlR rfl hp rfl];exact zb8
theorem zmW:X.fn vG=some WO:=by kernel_rfl
theorem z10 {u0 u1 v0 v1:AV}{h h1:aA}{P:jA}(hp:oA h [u0,u1]=some ([v0,v1],h1)):bA X vG [u0,u1] h P=(FM (bA X) X.gl [(0,v0),(1,v1)] h1 [] (qA [.t 4] false h.length P)).1:=by rw[AA zmW rfl hp rfl];exact zdv
theorem zmY:X.fn kF=some YO:=by kernel_rfl
theorem zaG {u0 u1 v0 v1:AV}{h h1:aA}{P:jA}(hp:oA h [u0,u1]=some ([v0,v1],h1)):bA X kF [u0,u1] h P=(xQ (bA X) X.gl [(0,v0),(1,v1)] h1 [] (qA [] false h.length P)).1:=by rw[AA zmY rfl hp rfl];exact zd6
theorem zmV:X.fn uG=some UO:=by kernel_rfl
theorem zaE {u0 u1 u2 u3 v0 v1 v2 v3:AV}{h h1:aA}{P:jA}(hp:oA h [u0,u1,u2,u3]=some ([v0,v1,v2,v3],h1)):bA X uG [u0,u1,u2,u3] h P=(EM (bA X) X.gl [(0,v0),(1,v1),(2,v2),(3,v3)] h1 [] (qA [] false h.length P)).1:=by rw[AA zmV rfl hp rfl];exact zdu
theorem zmA:X.fn rN=some TU:=by kernel_rfl
theorem zas {u0 u1 v0 v1:AV}{h h1:aA}{P:jA}(hp:oA h [u0,u1]=some ([v0,v1],h1)):bA X rN [u0,u1] h P=(VD (bA X) X.gl [(0,v0),(1,v1)] h1 [] (qA [.t 4] false h.length P)).1:=by rw[AA zmA rfl hp rfl];exact zcK
theorem zm7:X.fn pN=some RU:=by kernel_rfl
theorem zap {u0 v0:AV}{h h1:aA}{P:jA}(hp:oA h [u0]=some ([v0],h1)):bA X pN [u0] h P=(bQ (bA X) X.gl [(0,v0)] h1 [] (qA [.t 2,.t 3] false h.length P)).1:=by rw[AA zm7 rfl hp rfl];exact zcF
theorem zlP:X.fn ZD=some HO:=by kernel_rfl
theorem z9B {u0 v0:AV}{h h1:aA}{P:jA}(hp:oA h [u0]=some ([v0],h1)):bA X ZD [u0] h P=(vP (bA X) X.gl [(0,v0)] h1 [] (qA [.t 2] false h.length P)).1:=by rw[AA zlP rfl hp rfl];exact zb4
theorem zm5:X.fn oN=some PU:=by kernel_rfl
theorem zan {u0 u1 u2 v0 v1 v2:AV}{h h1:aA}{P:jA}(hp:oA h [u0,u1,u2]=some ([v0,v1,v2],h1)):bA X oN [u0,u1,u2] h P=(ZP (bA X) X.gl [(0,v0),(1,v1),(2,v2)] h1 [] (qA [.t 6] false h.length P)).1:=by rw[AA zm5 rfl hp rfl];exact zcC
theorem zlX:X.fn eH=some iU:=by kernel_rfl
theorem z1y {u0 u1 v0 v1:AV}{h h1:aA}{P:jA}(hp:oA h [u0,u1]=some ([v0,v1],h1)):bA X eH [u0,u1] h P=(iM (bA X) X.gl [(0,v0),(1,v1)] h1 [] (qA [.t 4] false h.length P)).1:=by rw[AA zlX rfl hp rfl];exact zbT
theorem zm0:X.fn XJ=some KU:=by kernel_rfl
theorem zai {u0 u1 h P}:bA X XJ [u0,u1] h P=(VP (bA X) X.gl [(0,u0),(1,u1)] h [] (qA [.t 4] false h.length P)).1:=by rw[pJ zm0 rfl rfl];exact zc5
theorem zmo:X.fn ZM=some yU:=by kernel_rfl
theorem z9W {u0 u1 v0 v1:AV}{h h1:aA}{P:jA}(hp:oA h [u0,u1]=some ([v0,v1],h1)):bA X ZM [u0,u1] h P=(LP (bA X) X.gl [(0,v0),(1,v1)] h1 [] (qA [.t 3] false h.length P)).1:=by rw[AA zmo rfl hp rfl];exact zcn
theorem zmi:X.fn VM=some sU:=by kernel_rfl
theorem z9Q {u0 v0:AV}{h h1:aA}{P:jA}(hp:oA h [u0]=some ([v0],h1)):bA X VM [u0] h P=(mM (bA X) X.gl [(0,v0)] h1 [] (qA [.t 2] false h.length P)).1:=by rw[AA zmi rfl hp rfl];exact zch
theorem zm1:X.fn ZJ=some LU:=by kernel_rfl
theorem zaj {u0 u1 v0 v1:AV}{h h1:aA}{P:jA}(hp:oA h [u0,u1]=some ([v0,v1],h1)):bA X ZJ [u0,u1] h P=(WP (bA X) X.gl [(0,v0),(1,v1)] h1 [] (qA [.t 4] false h.length P)).1:=by rw[AA zm1 rfl hp rfl];exact zc8
theorem zmv:X.fn WJ=some FU:=by kernel_rfl
theorem zad {u0 u1 h P}:bA X WJ [u0,u1] h P=(RP (bA X) X.gl [(0,u0),(1,u1)] h [] (qA [.t 4] false h.length P)).1:=by rw[pJ zmv rfl rfl];exact zcu
theorem zmp:X.fn aN=some zU:=by kernel_rfl
theorem z9X {u0 u1 v0 v1:AV}{h h1:aA}{P:jA}(hp:oA h [u0,u1]=some ([v0,v1],h1)):bA X aN [u0,u1] h P=(MP (bA X) X.gl [(0,v0),(1,v1)] h1 [] (qA [.t 3] false h.length P)).1:=by rw[AA zmp rfl hp rfl];exact zco
theorem znc:X.fn jK=some bP:=by kernel_rfl
theorem zaK {u0 v0:AV}{h h1:aA}{P:jA}(hp:oA h [u0]=some ([v0],h1)):bA X jK [u0] h P=(XG (bA X) X.gl [(0,v0)] h1 [] (qA [.t 2] false h.length P)).1:=by rw[AA znc rfl hp rfl];exact zdC
theorem zmZ:X.fn iK=some ZO:=by kernel_rfl
theorem zaH {u0 v0:AV}{h h1:aA}{P:jA}(hp:oA h [u0]=some ([v0],h1)):bA X iK [u0] h P=(XD (bA X) X.gl [(0,v0)] h1 [] (qA [.t 2] false h.length P)).1:=by rw[AA zmZ rfl hp rfl];exact zd9
theorem zm8:X.fn aK=some NO:=by kernel_rfl
theorem zaq {u0 u1 v0 v1:AV}{h h1:aA}{P:jA}(hp:oA h [u0,u1]=some ([v0,v1],h1)):bA X aK [u0,u1] h P=(cQ (bA X) X.gl [(0,v0),(1,v1)] h1 [] (qA [.t 4,.t 5] false h.length P)).1:=by rw[AA zm8 rfl hp rfl];exact zcG
theorem zmB:X.fn sN=some UU:=by kernel_rfl
theorem zat {u0 u1 v0 v1:AV}{h h1:aA}{P:jA}(hp:oA h [u0,u1]=some ([v0,v1],h1)):bA X sN [u0,u1] h P=(eQ (bA X) X.gl [(0,v0),(1,v1)] h1 [] (qA [.t 3] false h.length P)).1:=by rw[AA zmB rfl hp rfl];exact zcL
theorem zmJ:X.fn xN=some bV:=by kernel_rfl
theorem za1 {u0 v0:AV}{h h1:aA}{P:jA}(hp:oA h [u0]=some ([v0],h1)):bA X xN [u0] h P=(mQ (bA X) X.gl [(0,v0)] h1 [] (qA [.t 2] false h.length P)).1:=by rw[AA zmJ rfl hp rfl];exact zcZ
theorem zmC:X.fn tN=some VU:=by kernel_rfl
theorem zau {u0 v0:AV}{h h1:aA}{P:jA}(hp:oA h [u0]=some ([v0],h1)):bA X tN [u0] h P=(fQ (bA X) X.gl [(0,v0)] h1 [] (qA [.t 2] false h.length P)).1:=by rw[AA zmC rfl hp rfl];exact zcM
theorem zmt:X.fn gN=some DU:=by kernel_rfl
theorem zab {u0 v0:AV}{h h1:aA}{P:jA}(hp:oA h [u0]=some ([v0],h1)):bA X gN [u0] h P = ∃v h' x,P v h' x∧(PP (bA X) X.gl [(0,v0)] h1 [] (qA [.t 2] false h.length fun v1 h1 x1=>v1=v∧h1=h'∧x1=x)).1:=by rw[TH zmt rfl hp rfl];exact SQ fun v h' x=>congrArg (And (P v h' x)) zcs
theorem zms:X.fn fN=some CU:=by kernel_rfl
theorem zaa {u0 v0:AV}{h h1:aA}{P:jA}(hp:oA h [u0]=some ([v0],h1)):bA X fN [u0] h P = ∃v h' x,P v h' x∧(OP (bA X) X.gl [(0,v0)] h1 [] (qA [.t 2] false h.length fun v1 h1 x1=>v1=v∧h1=h'∧x1=x)).1:=by rw[TH zms rfl hp rfl];exact SQ fun v h' x=>congrArg (And (P v h' x)) zcr
theorem zm4:X.fn nN=some OU:=by kernel_rfl
theorem zam {u0 u1 u2 v0 v1 v2:AV}{h h1:aA}{P:jA}(hp:oA h [u0,u1,u2]=some ([v0,v1,v2],h1)):bA X nN [u0,u1,u2] h P=(nE (bA X) X.gl [(0,v0),(1,v1),(2,v2)] h1 [] (qA [.t 6] false h.length P)).1:=by rw[AA zm4 rfl hp rfl];exact zcB
theorem z7f:X.fn HE=some OH:=by kernel_rfl
theorem c_q0b8 {u0 u1 v0 v1:AV}{h h1:aA}{P:jA}(hp:oA h [u0,u1]=some ([v0,v1],h1)):bA X HE [u0,u1] h P=kQ (bA X) X.gl v0 v1 h1 [] (qA [.t 4] false h.length P):=by rw[AA z7f rfl hp rfl];exact z2o
theorem zm2:X.fn kN=some MU:=by kernel_rfl
theorem zak {u0 u1 v0 v1:AV}{h h1:aA}{P:jA}(hp:oA h [u0,u1]=some ([v0,v1],h1)):bA X kN [u0,u1] h P=(XP (bA X) X.gl [(0,v0),(1,v1)] h1 [] (qA [.t 4] false h.length P)).1:=by rw[AA zm2 rfl hp rfl];exact zc9
theorem zmz:X.fn jN=some JU:=by kernel_rfl
theorem zah {u0 u1 h P}:bA X jN [u0,u1] h P=(UP (bA X) X.gl [(0,u0),(1,u1)] h [] (qA [.t 4] false h.length P)).1:=by rw[pJ zmz rfl rfl];exact zc2
theorem zmE:X.fn uI=some OO:=by kernel_rfl
theorem zaw {u0 v0:AV}{h h1:aA}{P:jA}(hp:oA h [u0]=some ([v0],h1)):bA X uI [u0] h P=(jQ (bA X) X.gl [(0,v0)] h1 [] (qA [.t 2] false h.length P)).1:=by rw[AA zmE rfl hp rfl];exact zcO
theorem z7g:X.fn PF=some iJ:=by kernel_rfl
theorem c_q0b9 {u0 u1 v0 v1:AV}{h h1:aA}{P:jA}(hp:oA h [u0,u1]=some ([v0,v1],h1)):bA X PF [u0,u1] h P = ∃v h' x,P v h' x∧tM (bA X) X.gl XK sS v0 v1 h1 [] (qA [.t 4] false h.length fun v1 h1 x1=>v1=v∧h1=h'∧x1=x):=by rw[TH z7g rfl hp rfl];exact SQ fun v h' x=>congrArg (And (P v h' x)) z2p
theorem zmK:X.fn yN=some cV:=by kernel_rfl
theorem za2 {u0 u1 v0 v1:AV}{h h1:aA}{P:jA}(hp:oA h [u0,u1]=some ([v0,v1],h1)):bA X yN [u0,u1] h P=(oQ (bA X) X.gl [(0,v0),(1,v1)] h1 [] (qA [.t 3] false h.length P)).1:=by rw[AA zmK rfl hp rfl];exact zda
theorem zmD:X.fn uN=some WU:=by kernel_rfl
theorem zav {u0 u1 v0 v1:AV}{h h1:aA}{P:jA}(hp:oA h [u0,u1]=some ([v0,v1],h1)):bA X uN [u0,u1] h P=(iQ (bA X) X.gl [(0,v0),(1,v1)] h1 [] (qA [.t 3] false h.length P)).1:=by rw[AA zmD rfl hp rfl];exact zcN
theorem zmH:X.fn vI=some ZU:=by kernel_rfl
theorem zaz {u0 u1 v0 v1:AV}{h h1:aA}{P:jA}(hp:oA h [u0,u1]=some ([v0,v1],h1)):bA X vI [u0,u1] h P=(mG (bA X) X.gl [(0,v0),(1,v1)] h1 [] (qA [.cell 4 (some 2),.t 5] false h.length P)).1:=by rw[AA zmH rfl hp rfl];exact zcX
theorem zmF:X.fn vN=some XU:=by kernel_rfl
theorem zax {u0 v0:AV}{h h1:aA}{P:jA}(hp:oA h [u0]=some ([v0],h1)):bA X vN [u0] h P=(EJ (bA X) X.gl [(0,v0)] h1 [] (qA [.t 2] false h.length P)).1:=by rw[AA zmF rfl hp rfl];exact zcT
theorem zmG:X.fn bK=some YU:=by kernel_rfl
theorem zay {u0 v0:AV}{h h1:aA}{P:jA}(hp:oA h [u0]=some ([v0],h1)):bA X bK [u0] h P=(FJ (bA X) X.gl [(0,v0)] h1 [] (qA [.cell 2 (some 2)] false h.length P)).1:=by rw[AA zmG rfl hp rfl];exact zcW
theorem zlW:X.fn TM=some gU:=by kernel_rfl
theorem z9F {u0 u1 v0 v1:AV}{h h1:aA}{P:jA}(hp:oA h [u0,u1]=some ([v0,v1],h1)):bA X TM [u0,u1] h P=(yP (bA X) X.gl [(0,v0),(1,v1)] h1 [] (qA [.t 4] false h.length P)).1:=by rw[AA zlW rfl hp rfl];exact zbP
theorem zmI:X.fn wN=some aV:=by kernel_rfl
theorem za0 {u0 u1 v0 v1:AV}{h h1:aA}{P:jA}(hp:oA h [u0,u1]=some ([v0,v1],h1)):bA X wN [u0,u1] h P=(lQ (bA X) X.gl [(0,v0),(1,v1)] h1 [] (qA [.t 3] false h.length P)).1:=by rw[AA zmI rfl hp rfl];exact zcY
theorem zmL:X.fn zN=some dV:=by kernel_rfl
theorem za3 {u0 u1 v0 v1:AV}{h h1:aA}{P:jA}(hp:oA h [u0,u1]=some ([v0,v1],h1)):bA X zN [u0,u1] h P=(pQ (bA X) X.gl [(0,v0),(1,v1)] h1 [] (qA [.cell 4 (some 2)] false h.length P)).1:=by rw[AA zmL rfl hp rfl];exact zdb
theorem zlT:X.fn VQ=some dU:=by kernel_rfl
theorem c_q06h {u0 v0:AV}{h h1:aA}{P:jA}(hp:oA h [u0]=some ([v0],h1)):bA X VQ [u0] h P=(KV (bA X) X.gl [(0,v0)] h1 [] (qA [.t 2] false h.length P)).1:=by rw[AA zlT rfl hp rfl];exact zbC
theorem zlU:X.fn WQ=some eU:=by kernel_rfl
theorem c_q06i {u0 u1 v0 v1:AV}{h h1:aA}{P:jA}(hp:oA h [u0,u1]=some ([v0,v1],h1)):bA X WQ [u0,u1] h P=(LV (bA X) X.gl [(0,v0),(1,v1)] h1 [] (qA [.t 4] false h.length P)).1:=by rw[AA zlU rfl hp rfl];exact zbD
theorem zlV:X.fn XQ=some fU:=by kernel_rfl
theorem c_q06j {u0 v0:AV}{h h1:aA}{P:jA}(hp:oA h [u0]=some ([v0],h1)):bA X XQ [u0] h P=(SV (bA X) X.gl [(0,v0)] h1 [] (qA [.t 2,.t 3] false h.length P)).1:=by rw[AA zlV rfl hp rfl];exact zbI
attribute [go_sem] DQ FQ HM OW zeK uJ vJ dI kM oG LF gF HQ IQ zeN ZE FE kE xJ fI iF z2l zeO lE IP zcx zcy zeR fW gW zbX zbY zeM cW dW GQ z2k zeL wJ AP
attribute [go_sem] XW MQ LJ MJ NJ aH YW z2r ZW zfh zfi wM HJ UG VG WG KF xM qQ yM bX cX NQ z2t zfl CM DM KJ vQ pG IM PW QW zeP zeQ aF iI nM oM zdf
attribute [go_sem] zdg zfg xW yW zdq zdr zfk BW CW zca eW zc0 zc1 zeS iW jW aX z2s zfj zM tQ zd4 zd5 zfn z1S GM zb6 zb7 zeD GV HV JQ z2m zeW BJ aQ zcI LQ zcJ zeZ
attribute [go_sem] pW DJ qW zdo zW zb9 zbA zeE IV JV zdw zdx zdy zdz zd0 zd1 zd2 zfm DW EW FW GW HW IW JW zd7 zd8 zfo KW LW LM TW UW KQ VW zeX zeY TG qM rM
attribute [go_sem] CJ sM zcD JM KM zeV oW jI kI zc6 zc7 zeU mW nW ZG z2q zfe JF nQ YG z2n zfa IF gQ RW SW GE UD zc3 zc4 zeT kW lW zcP zcQ zcR zcS zfb zfc z1Q
attribute [go_sem] rW sW z1R zcU zcV zfd tW uW zbQ zbR zbS zeJ ZV aW bW zdc zdd WW zff vW wW uM zbE zbF zbG zbH zeF zeG MV NV OV QV zbJ zbK zbL zbM zbN zbO zeH zeI
attribute [go_sem] TV UV VV WV XV YV
end Go.Am
end
section
/- The stream of numbers out of which the laws draw. -/
open Go
namespace Go.Am
abbrev eI (n:Int):PV:=.int .i64 n
abbrev AL (l:List Int):AV:=.p (.sl none (l.map eI))
abbrev JA (L:List Int)(a:Int):Obj:=.box [AL L,AI a]
def MG (x n:Int):Int:=if n<1 then 0 else if x.tmod n<0 then IntKind.i64.wrap (x.tmod n+n) else x.tmod n
theorem z5R (x n:Int)(h:aA)(K:jA):bA X qI [AI x,AI n] h K=K (AI (MG x n)) h []:=by
 refine zA ?_;rw[z9J rfl];simp only[CP,go_sem];unfold MG;by_cases h1:n<1
 ·simp only[h1,if_true]
 ·simp only[h1,if_false,show ¬n=0 by omega]
  split <;> rfl
theorem z9k (x n:Int)(h1:1≤n)(h2:n≤4611686018427387904):0≤MG x n∧MG x n<n:=by
 unfold MG;rw[if_neg (by omega)]
 have:=Int.tmod_lt_of_pos x (show 0<n by omega)
 have h3 : -n<x.tmod n:=by
  have:=Int.lt_tmod_of_pos x (show 0<n by omega)
  exact this
 split
 ·rw[LA _ (by omega) (by omega)];omega
 ·omega
def FB (L:List Int)(a n:Int):Int:=
 if L.length=0 then MG (IntKind.i64.wrap ((a+1)*7919)) n
 else MG (IntKind.i64.wrap (MG (L.getD (a.tmod L.length).toNat 0) 1073741824+IntKind.i64.wrap (IntKind.i64.wrap (a.tdiv L.length)*IntKind.i64.wrap (7919+a.tmod L.length)))) n
theorem HI (L:List Int)(a n:Int)(h1:1≤n)(h2:n≤4611686018427387904):0≤FB L a n∧FB L a n<n:=by
 unfold FB;split <;> exact z9k _ _ h1 h2
theorem xO {h:aA}{id:Nat}{o':Obj}(hid:id<h.length):(h.set id o')[id]?=some o':=by simp [hid]
theorem gR {h:aA}{id:Nat}{o:Obj}(hh:h[id]?=some o):id<h.length:=(List.getElem?_eq_some_iff.1 hh).1
def kB (n:Nat)(a:Int):Prop:=0≤a∧a+n<4611686018427387904
theorem WF {n m:Nat}{a b:Int}(H:kB m a)(h:a≤b)(hn:b+n≤a+m):kB n b:=by unfold kB at *;omega
theorem JZ {a:Int}(H:kB 14 a):kB 0 (a)∧kB 0 (a+1)∧kB 0 (a+1+1)∧kB 0 (a+1+1+1)∧kB 0 (a+1+1+1+1)∧kB 0 (a+1+1+1+1+1)∧kB 0 (a+1+1+1+1+1+1)∧kB 0 (a+1+1+1+1+1+1+1)∧kB 0 (a+1+1+1+1+1+1+1+1)∧kB 0 (a+1+1+1+1+1+1+1+1+1)∧kB 0 (a+1+1+1+1+1+1+1+1+1+1)∧kB 0 (a+1+1+1+1+1+1+1+1+1+1+1)∧kB 0 (a+1+1+1+1+1+1+1+1+1+1+1+1)∧kB 0 (a+1+1+1+1+1+1+1+1+1+1+1+1+1)∧kB 0 (a+1+1+1+1+1+1+1+1+1+1+1+1+1+1):=by
 unfold kB at *;omega
def Gen (f:Nat)(args:List AV)(L:List Int)(a a2:Int)(v:AV):Prop:=∀(h:aA) (id:Nat) (K:jA),h[id]?=some (JA L a)→bA X f (.ref id 0::args) h K=K v (h.set id (JA L a2)) []
section
variable {f:Nat} {args:List AV} {L:List Int} {a a2:Int} {v:AV} {h l:aA} {id:Nat} {K:jA}
theorem Gen.set (g:Gen f args L a a2 v)(hid:id<h.length):bA X f (.ref id 0::args) (h.set id (JA L a)) K=K v (h.set id (JA L a2)) []:=by
 rw[g _ _ _ (xO hid),List.set_set]
theorem Gen.app (g:Gen f args L a a2 v)(hid:id<h.length):bA X f (.ref id 0::args) (h.set id (JA L a)++l) K=K v (h.set id (JA L a2)++l) []:=by
 rw[g _ _ _ (by rw[z4p (by simpa using hid)];exact xO hid),z66 (by simpa using hid),List.set_set]
theorem Gen.hd (g:Gen f args L a a2 v):bA X f (.ref 0 0::args) (JA L a::l) K=K v (JA L a2::l) []:=by
 rw[g _ _ _ rfl];rfl
theorem Gen.of (H:∀ (h:aA) (id:Nat),id<h.length→bA X f (.ref id 0::args) (h.set id (JA L a)) fun v1 h1 x1=>v1=v∧h1=h.set id (JA L a2)∧x1=[]):Gen f args L a a2 v:=by
 intro h id K hh;have hid:=gR hh
 have:h.set id (JA L a)=h:=by
  apply List.ext_getElem?
  intro i;rw[List.getElem?_set];split
  ·rename_i e;subst e;rw[hh]
  ·rfl
 have k:=H h id hid
 rw[this]at k;exact zA k
end
def BF (f:Nat)(args:List AV)(L:List Int)(a:Int)(Q:AV→Int→Prop):Prop:=∀(h:aA) (id:Nat),h[id]?=some (JA L a)→∃v a2,Q v a2∧∀K:jA,bA X f (.ref id 0::args) h K=K v (h.set id (JA L a2)) []
section
variable {f:Nat} {args:List AV} {L:List Int} {a:Int} {Q:AV→Int→Prop}
theorem BF.set (g:BF f args L a Q){h:aA}{id:Nat}(hid:id<h.length):∃v a2,Q v a2∧∀K:jA,bA X f (.ref id 0::args) (h.set id (JA L a)) K=K v (h.set id (JA L a2)) []:=by
 obtain⟨v,a2,q,r⟩:=g _ _ (xO hid);exact⟨v,a2,q,fun K=>by rw[r,List.set_set]⟩
theorem BF.app (g:BF f args L a Q){h l:aA}{id:Nat}(hid:id<h.length):∃v a2,Q v a2∧∀K:jA,bA X f (.ref id 0::args) (h.set id (JA L a)++l) K=K v (h.set id (JA L a2)++l) []:=by
 obtain⟨v,a2,q,r⟩:=g (h.set id (JA L a)++l) id (by rw[z4p (by simpa using hid)];exact xO hid)
 exact⟨v,a2,q,fun K=>by rw[r,z66 (by simpa using hid),List.set_set]⟩
theorem BF.hd (g:BF f args L a Q){l:aA}:∃v a2,Q v a2∧∀K:jA,bA X f (.ref 0 0::args) (JA L a::l) K=K v (JA L a2::l) []:=g (JA L a::l) 0 rfl
theorem BF.of (H:∀ (h:aA) (id:Nat),id<h.length→bA X f (.ref id 0::args) (h.set id (JA L a)) fun v1 h1 x1=>∃ a2,Q v1 a2∧h1=h.set id (JA L a2)∧x1=[]):BF f args L a Q:=by
 intro h id hh;have hid:=gR hh
 have:h.set id (JA L a)=h:=by
  apply List.ext_getElem?
  intro i;rw[List.getElem?_set];split
  ·rename_i e;subst e;rw[hh]
  ·rfl
 have k:=H h id hid
 rw[this]at k;obtain⟨v,h',x,⟨a2,q,e1,e2⟩,r⟩:=bA.one cU k;subst e1;subst e2
 exact⟨v,a2,q,r⟩
end
def rF (l:List Int)(L:List Int)(a:Int):Int:=l.getD (FB L a l.length).toNat 0
theorem zjk {l L:List Int}{a:Int}(hl:0<l.length)(hl2:l.length<4611686018427387904):rF l L a∈l:=by
 obtain⟨b1,b2⟩:=HI L a l.length (by omega) (by omega)
 unfold rF;have:(FB L a l.length).toNat<l.length:=by omega
 simp only[List.getD,List.getElem?_eq_getElem this,Option.getD_some];exact List.getElem_mem _
def isI:PV→Bool
 | .int .i64 _=>true
 | _=>false
def unI:PV→Int
 | .int _ n=>n
 | _=>0
theorem zl8 {xs:List PV}(h:xs.all isI=true):xs=(xs.map unI).map eI:=by
 induction xs with
 | nil=>rfl
 | cons x r ih=>
  simp only[List.all_cons,Bool.and_eq_true]at h;simp only[List.map_cons];rw[←ih h.2];cases x with
  | int k n=>cases k <;> first|rfl|cases h.1
  | _=>cases h.1
set_option maxHeartbeats 400000 in
theorem GX (L:List Int)(a n:Int)(hp:kB 0 a):Gen qE [AI n] L a (a+1) (AI (FB L a n)):=by
 refine Gen.of fun h id hid=>?_
 rw[z9M rfl];obtain⟨h0,h1⟩:=hp;have w1:IntKind.i64.wrap (a+1)=a+1:=LA _ (by omega) (by omega)
 have w2:IntKind.i64.wrap (a+1-1)=a:=by rw[LA _ (by omega) (by omega)];omega
 have hs:∀o',(h.set id o')[id]?=some o':=fun o'=>xO hid
 rcases Nat.eq_zero_or_pos L.length with hl|hl
 ·simp only[lM,go_sem,hs,z5R,hl,w1]
  simp only[FB,hl,if_true]
 ·have e1:((L.length:Int)=0)=False:=by simp only[eq_iff_iff,iff_false];omega
  have e2:0≤a.tmod L.length:=Int.tmod_nonneg _ h0
  have e3:a.tmod L.length<L.length:=Int.tmod_lt_of_pos _ (by omega)
  have e4:=TX (k:=.i64) e2
  have e5:(L.map eI)[(a.tmod L.length).toNat]?=some (eI (L.getD (a.tmod L.length).toNat 0)):=by
   rw[XB eI (show(a.tmod L.length).toNat<L.length by omega)]
   simp [List.getD,show(a.tmod L.length).toNat<L.length by omega]
  simp only[lM,go_sem,hs,z5R,e1,w1,w2,e4,e5];simp only[FB,show ¬L.length=0 by omega,if_false]
section
variable {L:List Int} {a:Int} {h l:aA} {id:Nat} {K:jA}
theorem FL (hid:id<h.length)(hp:kB 0 a)(n:Int):bA X qE [.ref id 0,AI n] (h.set id (JA L a)) K=K (AI (FB L a n)) (h.set id (JA L (a+1))) []:=(GX L a n hp).set hid
theorem z5Z (hid:id<h.length)(hp:kB 0 a)(n:Int):bA X qE [.ref id 0,AI n] (h.set id (JA L a)++l) K=K (AI (FB L a n)) (h.set id (JA L (a+1))++l) []:=(GX L a n hp).app hid
theorem z6a (hp:kB 0 a)(n:Int):bA X qE [.ref 0 0,AI n] (JA L a::l) K=K (AI (FB L a n)) (JA L (a+1)::l) []:=(GX L a n hp).hd
theorem z4f (hp:kB 0 a)(n:Int):Gen NF [AI n] L a (a+1) (AB (decide (FB L a n=0))):=by
 refine Gen.of fun h id hid=>?_
 rw[z9L rfl];simp only[EP,go_sem,FL hid hp]
theorem z5V (hid:id<h.length)(hp:kB 0 a)(n:Int):bA X NF [.ref id 0,AI n] (h.set id (JA L a)++l) K=K (AB (decide (FB L a n=0))) (h.set id (JA L (a+1))++l) []:=(z4f hp n).app hid
theorem z5W (hp:kB 0 a)(n:Int):bA X NF [.ref 0 0,AI n] (JA L a::l) K=K (AB (decide (FB L a n=0))) (JA L (a+1)::l) []:=(z4f hp n).hd
theorem zen (hp:kB 0 a)(xs:List PV)(hx:xs.all isI=true)(hl:0<xs.length)(hl2:xs.length<4611686018427387904) :
 Gen fH [.p (.sl none xs)] L a (a+1) (AI (rF (xs.map unI) L a)):=by
 refine Gen.of fun h id hid=>?_
 rw[z9N rfl];obtain⟨b1,b2⟩:=HI L a xs.length (by omega) (by omega)
 have e4:=TX (k:=.i64) b1
 have e5:xs[(FB L a xs.length).toNat]?=some (eI (rF (xs.map unI) L a)):=by
  have hm:=zl8 hx
  generalize hq:xs.map unI=q at *;subst hm;simp only[List.length_map]at *;rw[XB eI (show(FB L a q.length).toNat<q.length by omega)]
  simp [rF,List.getD,show(FB L a q.length).toNat<q.length by omega]
 simp only[FP,go_sem,FL hid hp,e4,e5]
theorem z6b (hid:id<h.length)(hp:kB 0 a){xs:List PV}(hx:xs.all isI=true)(hl:0<xs.length)(hl2:xs.length<4611686018427387904) :
 bA X fH [.ref id 0,.p (.sl none xs)] (h.set id (JA L a)++l) K=K (AI (rF (xs.map unI) L a)) (h.set id (JA L (a+1))++l) []:=(zen hp xs hx hl hl2).app hid
def qD (u v:Int)(L:List Int)(a:Int):Int:=u+FB L a (v-u+1)
theorem nO {u v:Int}(L:List Int)(a:Int)(h1:u≤v)(h2:v≤u+4611686018427387900):u≤qD u v L a∧qD u v L a≤v:=by
 have:=HI L a (v-u+1) (by omega) (by omega)
 unfold qD;omega
theorem z4g (hp:kB 0 a)(u v:Int)(huv:u≤v)(hu : -1152921504606846976≤u)(hv:v≤1152921504606846976) :
 Gen OF [AI u,AI v] L a (a+1) (AI (qD u v L a)):=by
 refine Gen.of fun h id hid=>?_
 rw[z9O rfl];obtain⟨b1,b2⟩:=nO L a huv (by omega)
 have w1:IntKind.i64.wrap (v-u)=v-u:=LA _ (by omega) (by omega)
 have w2:IntKind.i64.wrap (v-u+1)=v-u+1:=LA _ (by omega) (by omega)
 have w3:IntKind.i64.wrap (u+FB L a (v-u+1))=qD u v L a:=LA (qD u v L a) (by omega) (by omega)
 simp only[GP,go_sem,show ¬v<u by omega,w1,w2,FL hid hp,w3]
theorem z6c (hid:id<h.length)(hp:kB 0 a){u v:Int}(huv:u≤v)(hu : -1152921504606846976≤u)(hv:v≤1152921504606846976) :
 bA X OF [.ref id 0,AI u,AI v] (h.set id (JA L a)++l) K=K (AI (qD u v L a)) (h.set id (JA L (a+1))++l) []:=(z4g hp u v huv hu hv).app hid
theorem z6d (hp:kB 0 a){u v:Int}(huv:u≤v)(hu : -1152921504606846976≤u)(hv:v≤1152921504606846976) :
 bA X OF [.ref 0 0,AI u,AI v] (JA L a::l) K=K (AI (qD u v L a)) (JA L (a+1)::l) []:=(z4g hp u v huv hu hv).hd
end
attribute [go_sem ↓] FL z5Z z6a z5V z5W z6b z6c z6d
attribute [go_sem] FL z5Z z6a z5V z5W z6b z6c z6d isI unI
end Go.Am
end
section
/- Plain laws of fractions in lowest terms. -/
namespace Go.Am
end Go.Am
end
section
/- Small functions of numbers and of lists of numbers. -/
open Go
namespace Go.Am
variable {h:aA} {K:jA}
theorem sC (n a b:Int):bA X WB [AI n,AI a,AI b] h K=K (AB (decide (n<a)||decide (b<n))) h []:=by
 refine zA ?_;rw[z9E rfl];by_cases h1:n<a <;> simp only[xP,go_sem,h1]
end Go.Am
end
section
/- Functions of lists. -/
open Go
namespace Go.Am
variable {h:aA} {K:jA}
theorem zln (l:List Int)(a b:Int)(hv:∀ n∈l,a≤n∧n≤b):(l.length:Int)*a≤l.sum∧l.sum≤(l.length:Int)*b:=by
 induction l with
 | nil=>simp
 | cons x r ih=>
  obtain⟨i1,i2⟩:=ih (fun n hn=>hv n (by simp [hn]))
  obtain⟨x1,x2⟩:=hv x (by simp)
  simp only[List.length_cons,List.sum_cons,Int.natCast_add,Int.add_mul];omega
theorem zlo {l:List Int}{B:Int}(hv:∀ n∈l,-B≤n∧n≤B){N:Nat}(hl:l.length≤N)(hB:0≤B) : -(N*B)≤l.sum∧l.sum≤N*B:=by
 obtain⟨h1,h2⟩:=zln l (-B) B hv;have:(l.length:Int)*B≤N*B:=Int.mul_le_mul_of_nonneg_right (by omega) hB
 rw[Int.mul_neg]at h1;omega
theorem zlp {l:List Int}{B:Int}(hv:∀ n∈l,-B≤n∧n≤B){N:Nat}(hl:l.length≤N)(hB:0≤B)(k:Nat) : -(N*B)≤(l.take k).sum∧(l.take k).sum≤N*B:=
 zlo (fun n hn=>hv n (List.mem_of_mem_take hn)) (by simp;omega) hB
def CD (g:Nat)(caps:List AV)(p:PV→Bool)(xs:List PV)(h:aA):Prop:=∀x∈xs,∀K:jA,bA X g (.p x::caps) h K=K (AB (p x)) h []
def nD (p:PV→Bool)(xs:List PV):Int:=if xs.findIdx p<xs.length then(xs.findIdx p:Int) else -1
theorem KX (p:PV→Bool)(xs:List PV):decide (0≤nD p xs)=xs.any p:=by
 unfold nD;rw[Bool.eq_iff_iff];by_cases h:xs.findIdx p<xs.length
 ·rw[if_pos h];simp only[decide_eq_true_eq,List.any_eq_true]
  exact⟨fun _=>⟨_,List.getElem_mem h,List.findIdx_getElem⟩,fun _=>by omega⟩
 ·rw[if_neg h];simp only[decide_eq_true_eq,List.any_eq_true]
  refine⟨fun h=>by omega,fun⟨x,hx,hp⟩=>absurd (List.findIdx_lt_length_of_exists ⟨x,hx,hp⟩) h⟩
def mK:List Int→Int
 | []=>0
 | e::r=>if e=0 then mK r else e
end Go.Am
end
section
/- Values of a shape: loads and stores in rows. -/
open Go
namespace Go.Am
variable {h:aA} {K:jA}
theorem zkJ {sh:Sh}{x:PV}(hx:x.shp sh=true):lB sh 0 x=some x:=by
 cases sh with
 | none=>exact zbt hx
 | some n=>
  cases x with
  | agg cs=>
   simp only[PV.shp,Bool.and_eq_true,beq_iff_eq]at hx;simp [lB,hx.1];exact List.take_of_length_le (by omega)
  | _=>cases hx
def EH (sh:Sh)(xs:List PV):Prop:=∀x∈xs,x.shp sh=true
theorem zkK {sh:Sh}{xs:List PV}(hx:EH sh xs){i:Nat}(hi:i<xs.length):xs[i].shp sh=true:=hx _ (List.getElem_mem hi)
theorem zkI {h:aA}{id:Nat}{o:Obj}(hh:h[id]?=some o):h.set id o=h:=by
 apply List.ext_getElem?
 intro i;rw[List.getElem?_set];split
 ·rename_i e;subst e;rw[hh];simp [gR hh]
 ·rfl
structure Shows (sh:Sh) (v:AV) (xs:List PV) (h:aA):Prop where
 len:DG v=some (AI xs.length)
 get:∀(k:Nat) (hk:k<xs.length),∃a,tE sh v (AI k) h=some a∧eC sh a h=some (.p xs[k])
theorem yO {sh:Sh}{xs:List PV}(hs:EH sh xs):Shows sh (.p (.sl sh xs)) xs h:=by
 refine⟨rfl,fun k hk=>⟨.vp xs[k],?_,?_⟩⟩
 ·simp [tE,qB,hk]
 ·simp only[z4C,zkJ (zkK hs hk)];rfl
end Go.Am
end
section
/- Strings: keys,the library's functions without text. -/
open Go
set_option linter.unusedSimpArgs false
namespace Go.Am
variable {h:aA} {K:jA}
abbrev AS (s:List UInt8):AV:=.p (.str s)
theorem X_ext:X.ext=TJ cH TQ:=rfl
theorem z6i (s:List UInt8)(c:UInt8):bA X cH [AS s,.p (.int .u8 c.toNat)] h K=K (AI (PC s c)) h []:=by
 have:=zdO (X:=X) (f:=cH) (asv:=[AS s,.p (.int .u8 c.toNat)]) (vs:=[.str s,.int .u8 c.toNat]) (h:=h) (h1:=h) (r:=.int .i64 (PC s c)) (K:=K) (by kernel_rfl) rfl rfl rfl ?_
 ·exact this
 ·rw[X_ext]
  unfold TJ;rw[show Nat.beq cH cH=true from by kernel_rfl]
  simp
theorem zka (s:List UInt8)(c:UInt8):bA X mN [AS s,.p (.int .u8 c.toNat)] h K=K (AI (PC s c)) h []:=by
 have key:∀(h:aA) (K:jA),bA X eH [AS s,.p (.int .u8 c.toNat)] h K=K (AI (PC s c)) h []:=by
  intro h K;refine zA ?_;rw[z1y rfl];simp only[iM,go_sem,z6i]
 refine zA ?_;rw[zal rfl];simp only[YP,go_sem,key]
def bE (c:UInt8):Bool:=decide ((97:Int)≤c.toNat)&&decide ((c.toNat:Int)≤122)||decide ((48:Int)≤c.toNat)&&decide ((c.toNat:Int)≤57)||decide ((c.toNat:Int)=45)||decide ((c.toNat:Int)=95)
def wC (s:List UInt8):Bool:=match s with
 | []=>false
 | c::r=>decide (r.length<40)&&(decide ((97:Int)≤c.toNat)&&decide ((c.toNat:Int)≤122))&&(c::r).all bE
theorem z5X (s:List UInt8)(hl:s.length≤1000000000):bA X zD [AS s] h K=K (AB (wC s)) h []:=by
 refine zA ?_;rw[z9D rfl];cases s with
 | nil=>simp only[SG,go_sem,wC]
 | cons c r=>
  have n0:((c::r)=[])=False:=by simp
  have e1:(((r.length+1:Nat):Int)≤40)=(r.length<40):=by simp only[eq_iff_iff];omega
  by_cases h1:(40:Int)<((r.length+1:Nat):Int)
  ·have:¬r.length<40:=by omega
   simp only[SG,go_sem,n0,h1,wC,this]
  have h1':r.length<40:=by omega
  by_cases h2:(c.toNat:Int)<97
  ·have:¬(97:Int)≤c.toNat:=by omega
   simp only[SG,go_sem,n0,h1,h2,wC,this,h1']
  have h2':(97:Int)≤c.toNat:=by omega
  by_cases h3:(122:Int)<c.toNat
  ·have:¬(c.toNat:Int)≤122:=by omega
   simp only[SG,go_sem,n0,h1,h2,h3,wC,this,h1',h2']
  have h3':(c.toNat:Int)≤122:=by omega
  have ek:wC (c::r)=(c::r).all bE:=by simp [wC,h1',h2',h3']
  rw[ek];generalize hB:(c::r).all bE=B;simp only[SG,go_sem,n0,h1,h2,h3];have hlen:(c::r).length=r.length+1:=rfl
  rw[←hlen];generalize c::r=s at *;refine yB (fun k:Nat=>⟨[(0,AS s),(23,AI s.length),(24,AI k)],h,[]⟩) (fun k=>k≤s.length∧(s.take k).all bE=true) (fun k=>s.length-k) 0 rfl ⟨by omega,rfl⟩ ?_
  rintro k ⟨hk,hp⟩
  rcases Nat.lt_or_ge k s.length with hlt|hge
  ·have hg:s[k]?=some s[k]:=List.getElem?_eq_getElem hlt
   have w2:IntKind.i64.wrap ((k:Int)+1)=((k+1:Nat):Int):=LA _ (by omega) (by omega)
   generalize hc:s[k]=c at *;have key:(decide ((97:Int)≤c.toNat)&&decide ((c.toNat:Int)≤122)||decide ((48:Int)≤c.toNat)&&decide ((c.toNat:Int)≤57)||decide ((c.toNat:Int)=45)||decide ((c.toNat:Int)=95))=bE c:=rfl
   cases hkc:bE c with
   | true=>
    rw[hkc]at key;have hn:(s.take (k+1)).all bE=true:=by rw[List.take_succ_eq_append_getElem hlt,List.all_append,hp,hc];simp [hkc]
    by_cases b1:(97:Int)≤c.toNat <;> by_cases b2:(c.toNat:Int)≤122 <;> by_cases b3:(48:Int)≤c.toNat <;> by_cases b4:(c.toNat:Int)≤57 <;> by_cases b5:(c.toNat:Int)=45 <;> by_cases b6:(c.toNat:Int)=95
    all_goals first
     | (simp only[b1,b2,b3,b4,b5,b6,decide_true,decide_false,Bool.and_self,Bool.and_true,Bool.and_false,Bool.or_self,Bool.or_true,Bool.or_false,Bool.true_or,Bool.false_or,Bool.false_and,reduceCtorEq]at key;done)
     | (exfalso;omega)
     | (simp only[go_sem,hlt,hg,w2,b1,b2,b3,b4,b5,b6];exact⟨k+1,rfl,⟨by omega,hn⟩,by omega⟩)
   | false=>
    rw[hkc]at key;have hn:s.all bE=false:=by rw[List.all_eq_false];exact⟨_,List.getElem_mem hlt,by rw[hc,hkc];simp⟩
    rw[hn]at hB;subst hB;by_cases b1:(97:Int)≤c.toNat <;> by_cases b2:(c.toNat:Int)≤122 <;> by_cases b3:(48:Int)≤c.toNat <;> by_cases b4:(c.toNat:Int)≤57 <;> by_cases b5:(c.toNat:Int)=45 <;> by_cases b6:(c.toNat:Int)=95
    all_goals first
     | (simp only[b1,b2,b3,b4,b5,b6,decide_true,decide_false,Bool.and_self,Bool.and_true,Bool.and_false,Bool.or_self,Bool.or_true,Bool.or_false,Bool.true_or,Bool.false_or,Bool.false_and,reduceCtorEq]at key;done)
     | (exfalso;omega)
     | (simp only[go_sem,hlt,hg,b1,b2,b3,b4,b5,b6])
  ·have ek:k=s.length:=by omega
   subst ek;rw[List.take_length,hB]at hp;subst hp;simp only[go_sem,Nat.lt_irrefl]
theorem z4v (s:List UInt8)(c:UInt8):decide (PC s c<0) = !s.contains c:=by
 unfold PC;rw[Bool.eq_iff_iff];by_cases hf:s.findIdx (· == c)<s.length
 ·rw[if_pos hf]
  have:=List.findIdx_getElem (w:=hf);simp only[beq_iff_eq]at this;have hm:c∈s:=by rw[←this];exact List.getElem_mem hf
  simp [hm]
 ·rw[if_neg hf]
  have hm:¬c∈s:=fun hm=>hf (List.findIdx_lt_length_of_exists ⟨c,hm,by simp⟩)
  simp [hm]
end Go.Am
end
section
/- What is wrong with devices,plainly. -/
set_option linter.all false
namespace Go.Am
def OB (pre:List TReg)(r:TReg):Int:=
 if wC r.name=false then 5 else if r.name=mB∨r.name=nB∨(pre.any fun x=>decide (x.name=r.name))=true then 6 else if r.long<1∨1000<r.long then 1 else 0
def rD:List TReg→List TReg→Int
 | _,[]=>0
 | pre,r::rs=>if OB pre r≠0 then OB pre r else rD (pre++[r]) rs
def BB (d:TDev)(pre:List TIns)(x:TIns):Int:=
 if(x.code.length:Int)≠d.long then 3 else if EA x.code=false then 9 else if x.code.contains 48=false then 16 else if(pre.any fun y=>decide (y.code=x.code))=true then 6 else if(SB d x.reg).isSome=false then 8 else 0
def ZC (d:TDev):List TIns→List TIns→Int
 | _,[]=>0
 | pre,x::xs=>if BB d pre x≠0 then BB d pre x else ZC d (pre++[x]) xs
def xD (pre:List TDev)(d:TDev):Int:=
 if wC d.name=false then 5 else if(pre.any fun x=>decide (x.name=d.name))=true then 6 else if(d.long<2∨32<d.long)∨(d.id<0∨4294967295<d.id) then 1
 else if d.id≠0∧d.id.tmod 2=0 then 3 else if(10:Int)<d.regs.length∨(100:Int)<d.ins.length then 2 else if rD [] d.regs≠0 then rD [] d.regs else ZC d [] d.ins
def yD:List TDev→List TDev→Int
 | _,[]=>0
 | pre,d::ds=>if xD pre d≠0 then xD pre d else yD (pre++[d]) ds
def OC (ds:List TDev):Int:=if ds.length=0 then 8 else if 20<ds.length then 2 else yD [] ds
theorem z43 {s:List UInt8}(h:wC s=true):s.length≤40∧s≠[]:=by
 unfold wC at h;cases s with
 | nil=>cases h
 | cons c r=>
  simp only[Bool.and_eq_true,decide_eq_true_eq]at h;simp;omega
theorem z5y:∀ {rs pre:List TReg},rD pre rs=0→(∀ r∈rs,r.name≠mB∧r.name≠nB∧1≤r.long∧r.long≤1000∧∀ x∈pre,x.name≠r.name)∧(rs.map TReg.name).Nodup
 | [],_,_=>⟨by simp,by simp⟩
 | r::rs,pre,h=>by
  unfold rD at h;by_cases h0:OB pre r≠0
  ·rw[if_pos h0]at h;exact absurd h h0
  rw[if_neg h0]at h;obtain⟨a1,a2⟩:=z5y h;have h0:OB pre r=0:=by omega
  unfold OB at h0;split at h0
  ·cases h0
  split at h0
  ·cases h0
  rename_i n1;split at h0
  ·cases h0
  rename_i n2;rw[not_or,not_or]at n1;obtain⟨b1,b2,b3⟩:=n1;have b3:∀x∈pre,x.name≠r.name:=fun x hx e=>b3 (List.any_eq_true.2 ⟨x,hx,by simpa using e⟩)
  refine⟨fun y hy=>?_,?_⟩
  ·rcases List.mem_cons.1 hy with e|e
   ·subst e;exact⟨b1,b2,by omega,by omega,b3⟩
   ·obtain⟨c1,c2,c3,c4,c5⟩:=a1 y e
    exact⟨c1,c2,c3,c4,fun x hx=>c5 x (List.mem_append_left _ hx)⟩
  ·rw[List.map_cons,List.nodup_cons]
   refine⟨fun hm=>?_,a2⟩
   obtain⟨y,hy,e⟩:=List.mem_map.1 hm;exact(a1 y hy).2.2.2.2 r (by simp) e.symm
theorem LX {d:TDev}:∀{xs pre:List TIns},ZC d pre xs=0→∀x∈xs,(x.code.length:Int)=d.long∧(SB d x.reg).isSome=true
 | [],_,_,x,hx=>by cases hx
 | y::xs,pre,h,x,hx=>by
  unfold ZC at h;by_cases h0:BB d pre y≠0
  ·rw[if_pos h0]at h;exact absurd h h0
  rw[if_neg h0]at h;have h0:BB d pre y=0:=by omega
  rcases List.mem_cons.1 hx with e|e
  ·subst e
   unfold BB at h0;split at h0
   ·cases h0
   rename_i n1;split at h0
   ·cases h0
   split at h0
   ·cases h0
   split at h0
   ·cases h0
   split at h0
   ·cases h0
   rename_i n5;exact⟨by omega,by cases q:(SB d x.reg).isSome with|true=>rfl|false=>exact absurd q n5⟩
  ·exact LX h x e
theorem zby {pre:List TDev}{d:TDev}(h:xD pre d=0):DevOk d∧∀x∈pre,x.name≠d.name:=by
 unfold xD at h;split at h
 ·cases h
 rename_i n1;split at h
 ·cases h
 rename_i n2;split at h
 ·cases h
 rename_i n3;split at h
 ·cases h
 split at h
 ·cases h
 rename_i n5;split at h
 ·rename_i n6;exact absurd h n6
 rename_i n6;have kn:wC d.name=true:=by simpa using n1
 obtain⟨r1,r2⟩:=z5y (show rD [] d.regs=0 by omega)
 have i1:=LX h
 refine⟨⟨by omega,by omega,by omega,by omega,fun x hx e=>?_,fun x hx=>(i1 x hx).2,fun r hr=>(r1 r hr).1,fun r hr=>(r1 r hr).2.1,fun r hr=>⟨(r1 r hr).2.2.1,by have:=(r1 r hr).2.2.2.1;omega⟩,r2,by omega,by omega,by have:=(z43 kn).1;omega⟩,fun x hx e=>n2 (List.any_eq_true.2 ⟨x,hx,by simpa using e⟩)⟩
 have:=(i1 x hx).1;rw[e]at this;simp at this;omega
theorem z1W:∀ {ds pre:List TDev},yD pre ds=0→(∀ d∈ds,DevOk d∧∀ x∈pre,x.name≠d.name)∧(ds.map TDev.name).Nodup
 | [],_,_=>⟨by simp,by simp⟩
 | d::ds,pre,h=>by
  unfold yD at h;by_cases h0:xD pre d≠0
  ·rw[if_pos h0]at h;exact absurd h h0
  rw[if_neg h0]at h;obtain⟨b1,b2⟩:=zby (show xD pre d=0 by omega)
  obtain⟨a1,a2⟩:=z1W h;refine⟨fun y hy=>?_,?_⟩
  ·rcases List.mem_cons.1 hy with e|e
   ·subst e;exact⟨b1,b2⟩
   ·obtain⟨c1,c2⟩:=a1 y e
    exact⟨c1,fun x hx=>c2 x (List.mem_append_left _ hx)⟩
  ·rw[List.map_cons,List.nodup_cons]
   refine⟨fun hm=>?_,a2⟩
   obtain⟨y,hy,e⟩:=List.mem_map.1 hm;exact(a1 y hy).2 d (by simp) e.symm
theorem BQ {ds:List TDev}(h:OC ds=0):(∀d∈ds,DevOk d)∧(ds.map TDev.name).Nodup∧ds≠[]∧ds.length≤20:=by
 unfold OC at h;split at h
 ·cases h
 rename_i n1;split at h
 ·cases h
 obtain⟨a1,a2⟩:=z1W h;exact⟨fun d hd=>(a1 d hd).1,a2,fun e=>n1 (by rw[e];rfl),by omega⟩
structure DevB (d:TDev):Prop where
 n:d.name.length≤1000
 rs:d.regs.length≤1000
 is:d.ins.length≤1000
 rn:∀r∈d.regs,r.name.length≤1000
 ic:∀x∈d.ins,x.code.length≤1000∧x.reg.length≤1000
end Go.Am
end
section
/- Devices looked through: printed by program. -/
open Go
set_option linter.unusedSimpArgs false
namespace Go.Am
attribute [-go_sem] PV.cells splice
variable {h:aA} {K:jA}
theorem z0D {v:AV}{g:Nat}{caps:List AV}{p:PV→Bool}{xs:List PV}(hv:Shows (some 2) v xs h)(hp:CD g caps p xs h)(hl:xs.length≤1000000000) :
 bA X XJ [v,.fn g caps] h K=K (AI (nD p xs)) h []:=by
 refine zA ?_;rw[zai];have vl:=hv.len
 simp only[VP,go_sem,vl];refine yB (fun k:Nat=>⟨[(0,v),(1,.fn g caps),(7,AI xs.length),(8,AI k)],h,[]⟩) (fun k=>k≤xs.length∧∀x∈xs.take k,p x=false) (fun k=>xs.length-k) 0 rfl (by simp) ?_
 rintro k ⟨hk,hn⟩
 rcases Nat.lt_or_ge k xs.length with hlt|hge
 ·obtain⟨a,ha,hb⟩:=hv.get k hlt
  have w2:IntKind.i64.wrap ((k:Int)+1)=((k+1:Nat):Int):=LA _ (by omega) (by omega)
  have ht:=hp _ (List.getElem_mem hlt)
  cases hpk:p xs[k]with
  | true=>
   have hf:xs.findIdx p=k:=by
    rw[List.findIdx_eq hlt];refine⟨hpk,fun j hj=>?_⟩
    have:=hn xs[j] (by rw[List.mem_take_iff_getElem];exact⟨j,by omega,rfl⟩)
    simpa using this
   simp only[go_sem,hlt,ha,hb,ht,hpk,w2];simp only[nD,hf,hlt,if_true]
  | false=>
   simp only[go_sem,hlt,ha,hb,ht,hpk,w2];refine⟨k+1,rfl,⟨by omega,fun x hx=>?_⟩,by omega⟩
   rw[List.take_succ_eq_append_getElem hlt,List.mem_append,List.mem_singleton]at hx;rcases hx with hx|hx
   ·exact hn x hx
   ·rw[hx];exact hpk
 ·have e1:k=xs.length:=by omega
  subst e1;simp only[go_sem,Nat.lt_irrefl];rw[List.take_length]at hn;have:¬xs.findIdx p<xs.length:=by
   rw[Nat.not_lt,Nat.le_iff_lt_or_eq];right
   exact(List.findIdx_eq_length.2 (fun x hx=>by simp [hn x hx])).symm
  simp [nD,this]
theorem aU {g:Nat}{caps:List AV}{p:PV→Bool}{xs:List PV}(hp:CD g caps p xs h)(hs:EH (some 2) xs)(hl:xs.length≤1000000000) :
 bA X rI [.p (.sl (some 2) xs),.fn g caps] h K=K (AB (xs.any p)) h []:=by
 refine zA ?_;rw[zae];have vi:=fun K=>z0D (h:=h) (K:=K) (yO hs) hp hl
 simp only[SP,go_sem,vi,KX]
theorem z77 {v:AV}{g:Nat}{caps:List AV}{p:PV→Bool}{xs:List PV}(hv:Shows (some 2) v xs h)(hp:CD g caps p xs h)(hl:xs.length≤1000000000) :
 bA X jN [v,.fn g caps] h K=K (AI (nD p xs)) h []:=by
 refine zA ?_;rw[zah];have vl:=hv.len
 simp only[UP,go_sem,vl];refine yB (fun k:Nat=>⟨[(0,v),(1,.fn g caps),(7,AI xs.length),(8,AI k)],h,[]⟩) (fun k=>k≤xs.length∧∀x∈xs.take k,p x=false) (fun k=>xs.length-k) 0 rfl (by simp) ?_
 rintro k ⟨hk,hn⟩
 rcases Nat.lt_or_ge k xs.length with hlt|hge
 ·obtain⟨a,ha,hb⟩:=hv.get k hlt
  have w2:IntKind.i64.wrap ((k:Int)+1)=((k+1:Nat):Int):=LA _ (by omega) (by omega)
  have ht:=hp _ (List.getElem_mem hlt)
  cases hpk:p xs[k]with
  | true=>
   have hf:xs.findIdx p=k:=by
    rw[List.findIdx_eq hlt];refine⟨hpk,fun j hj=>?_⟩
    have:=hn xs[j] (by rw[List.mem_take_iff_getElem];exact⟨j,by omega,rfl⟩)
    simpa using this
   simp only[go_sem,hlt,ha,hb,ht,hpk,w2];simp only[nD,hf,hlt,if_true]
  | false=>
   simp only[go_sem,hlt,ha,hb,ht,hpk,w2];refine⟨k+1,rfl,⟨by omega,fun x hx=>?_⟩,by omega⟩
   rw[List.take_succ_eq_append_getElem hlt,List.mem_append,List.mem_singleton]at hx;rcases hx with hx|hx
   ·exact hn x hx
   ·rw[hx];exact hpk
 ·have e1:k=xs.length:=by omega
  subst e1;simp only[go_sem,Nat.lt_irrefl];rw[List.take_length]at hn;have:¬xs.findIdx p<xs.length:=by
   rw[Nat.not_lt,Nat.le_iff_lt_or_eq];right
   exact(List.findIdx_eq_length.2 (fun x hx=>by simp [hn x hx])).symm
  simp [nD,this]
theorem z0A {g:Nat}{caps:List AV}{p:PV→Bool}{xs:List PV}(hp:CD g caps p xs h)(hs:EH (some 2) xs)(hl:xs.length≤1000000000) :
 bA X WJ [.p (.sl (some 2) xs),.fn g caps] h K=K (AB (xs.any p)) h []:=by
 refine zA ?_;rw[zad];have vi:=fun K=>z77 (h:=h) (K:=K) (yO hs) hp hl
 simp only[RP,go_sem,vi,KX]
theorem z0C {v:AV}{g:Nat}{caps:List AV}{p:PV→Bool}{xs:List PV}(hv:Shows (some 5) v xs h)(hp:CD g caps p xs h)(hl:xs.length≤1000000000) :
 bA X sI [v,.fn g caps] h K=K (AI (nD p xs)) h []:=by
 refine zA ?_;rw[zag];have vl:=hv.len
 simp only[TP,go_sem,vl];refine yB (fun k:Nat=>⟨[(0,v),(1,.fn g caps),(7,AI xs.length),(8,AI k)],h,[]⟩) (fun k=>k≤xs.length∧∀x∈xs.take k,p x=false) (fun k=>xs.length-k) 0 rfl (by simp) ?_
 rintro k ⟨hk,hn⟩
 rcases Nat.lt_or_ge k xs.length with hlt|hge
 ·obtain⟨a,ha,hb⟩:=hv.get k hlt
  have w2:IntKind.i64.wrap ((k:Int)+1)=((k+1:Nat):Int):=LA _ (by omega) (by omega)
  have ht:=hp _ (List.getElem_mem hlt)
  cases hpk:p xs[k]with
  | true=>
   have hf:xs.findIdx p=k:=by
    rw[List.findIdx_eq hlt];refine⟨hpk,fun j hj=>?_⟩
    have:=hn xs[j] (by rw[List.mem_take_iff_getElem];exact⟨j,by omega,rfl⟩)
    simpa using this
   simp only[go_sem,hlt,ha,hb,ht,hpk,w2];simp only[nD,hf,hlt,if_true]
  | false=>
   simp only[go_sem,hlt,ha,hb,ht,hpk,w2];refine⟨k+1,rfl,⟨by omega,fun x hx=>?_⟩,by omega⟩
   rw[List.take_succ_eq_append_getElem hlt,List.mem_append,List.mem_singleton]at hx;rcases hx with hx|hx
   ·exact hn x hx
   ·rw[hx];exact hpk
 ·have e1:k=xs.length:=by omega
  subst e1;simp only[go_sem,Nat.lt_irrefl];rw[List.take_length]at hn;have:¬xs.findIdx p<xs.length:=by
   rw[Nat.not_lt,Nat.le_iff_lt_or_eq];right
   exact(List.findIdx_eq_length.2 (fun x hx=>by simp [hn x hx])).symm
  simp [nD,this]
theorem z09 {g:Nat}{caps:List AV}{p:PV→Bool}{xs:List PV}(hp:CD g caps p xs h)(hs:EH (some 5) xs)(hl:xs.length≤1000000000) :
 bA X VJ [.p (.sl (some 5) xs),.fn g caps] h K=K (AB (xs.any p)) h []:=by
 refine zA ?_;rw[zac];have vi:=fun K=>z0C (h:=h) (K:=K) (yO hs) hp hl
 simp only[QP,go_sem,vi,KX]
end Go.Am
end
section
/- Maps,asv lists of keys with values. -/
open Go
set_option linter.all false
namespace Go.Am
section
variable {α β:Type} [DecidableEq α]
def sE (key:α→PV)(val:β→AV):Nat→List (α×β)→List ME
 | _,[]=>[]
 | n,e::r=>⟨key e.1,val e.2,n⟩::sE key val (n+1) r
def FA (key:α→PV)(val:β→AV)(l:List (α × β)):Obj:=.amap (sE key val 0 l) l.length
def UC (k:α):List (α×β)→Option Nat
 | []=>none
 | e::r=>if k=e.1 then some 0 else(UC k r).map (· + 1)
def TA (k:α):List (α×β)→Option β
 | []=>none
 | e::r=>if k=e.1 then some e.2 else TA k r
def vB (k:α)(v:β):List (α×β)→List (α×β)
 | []=>[(k,v)]
 | e::r=>if k=e.1 then(k,v)::r else e::vB k v r
def VL (key:α→PV):Prop:=∀a b,PV.eqv (key a) (key b)=some (decide (a=b))
theorem z45:VL PV.str:=fun a b=>rfl
theorem JN:VL (fun n:Int=>PV.int .i64 n):=fun a b=>by simp [PV.eqv,PV.eq1]
theorem z47 {s:List UInt8}:aD (none,[2]) (.p (.str s))=some (.str s):=by simp [aD,PV.key,PV.shp,PV.sc,PV.cells,PV.kind]
theorem KN {n:Int}{k:IntKind}:aD (none,[0]) (.p (.int k n))=some (.int k n):=by simp [aD,PV.key,PV.shp,PV.sc,PV.cells,PV.kind]
variable {key:α→PV} {val:β→AV}
theorem QX (hk:VL key)(k:α):∀(l:List (α×β)) (n:Nat),rC (key k) (sE key val n l)=some (UC k l)
 | [],n=>rfl
 | e::r,n=>by
  simp only[sE,rC,hk k e.1,UC];by_cases h:k=e.1
  ·simp [h]
  ·simp [h,QX hk k r (n+1)]
theorem rR:∀ (l:List (α × β)) (n i:Nat),(sE key val n l)[i]?=(l[i]?).map fun e=>⟨key e.1,val e.2,n+i⟩
 | [],n,i=>rfl
 | e::r,n,0=>rfl
 | e::r,n,i+1=>by simp only[sE,List.getElem?_cons_succ,rR r (n+1) i];rw[show n+1+i=n+(i+1) by omega]
theorem z7b {k:α}:∀{l:List (α×β)} {i:Nat},UC k l=some i→i<l.length
 | [],i,h=>by cases h
 | e::r,i,h=>by
  unfold UC at h;split at h
  ·cases h;simp
  ·obtain⟨j,hj,e2⟩:=Option.map_eq_some_iff.1 h
   have:=z7b hj;simp;omega
theorem z0u {k:α}:∀{l:List (α×β)} {i:Nat},UC k l=some i→l[i]?=(TA k l).map fun v=>(k,v)
 | [],i,h=>by cases h
 | e::r,i,h=>by
  unfold UC at h;unfold TA;split at h
  ·rename_i hk;cases h;simp [hk]
  ·rename_i hk
   obtain⟨j,hj,e2⟩:=Option.map_eq_some_iff.1 h;subst e2;rw[if_neg hk,List.getElem?_cons_succ];exact z0u hj
theorem z7c {k:α}:∀{l:List (α×β)},UC k l=none→TA k l=none
 | [],h=>rfl
 | e::r,h=>by
  unfold UC at h;unfold TA;split at h
  ·cases h
  ·rename_i hk
   rw[if_neg hk];exact z7c (by simpa using h)
theorem z7d {k:α}:∀{l:List (α×β)} {i:Nat},UC k l=some i→(TA k l).isSome=true
 | [],i,h=>by cases h
 | e::r,i,h=>by
  unfold UC at h;unfold TA;split at h
  ·rename_i hk;simp [hk]
  ·rename_i hk
   obtain⟨j,hj,e2⟩:=Option.map_eq_some_iff.1 h;rw[if_neg hk];exact z7d hj
theorem zf6 {k:α}{l:List (α × β)}{n:Nat}:((UC k l).bind fun i=>(sE key val n l)[i]?).map ME.val=(TA k l).map val:=by
 cases h:UC k l with
 | none=>rw[z7c h];rfl
 | some i=>
  simp only[Option.bind_some,rR,z0u h];cases TA k l <;> rfl
theorem z6R {k:α}{v:β}:∀{l:List (α×β)},UC k l=none→vB k v l=l++[(k,v)]
 | [],h=>rfl
 | e::r,h=>by
  unfold UC at h;unfold vB;split at h
  ·cases h
  ·rename_i hk
   rw[if_neg hk,z6R (by simpa using h)];rfl
theorem z6S {k:α}{v:β}:∀{l:List (α×β)} {i:Nat},UC k l=some i→vB k v l=l.set i (k,v)
 | [],i,h=>by cases h
 | e::r,i,h=>by
  unfold UC at h;unfold vB;split at h
  ·rename_i hk;cases h;simp [hk]
  ·rename_i hk
   obtain⟨j,hj,e2⟩:=Option.map_eq_some_iff.1 h;subst e2;rw[if_neg hk,z6S hj];rfl
theorem z4J (k:α)(v:β):∀(l:List (α×β)) (n:Nat),sE key val n (l++[(k,v)])=sE key val n l++[⟨key k,val v,n+l.length⟩]
 | [],n=>rfl
 | e::r,n=>by simp only[List.cons_append,sE,z4J k v r (n+1),List.length_cons];rw[show n+1+r.length=n+(r.length+1) by omega]
theorem zfB {k:α}{v:β}{l:List (α × β)}{i n:Nat}(h:UC k l=some i):(sE key val n l).modify i (fun e=>{ e with val:=val v })=sE key val n (l.set i (k,v)):=by
 apply List.ext_getElem?
 intro j;rw[List.getElem?_modify,rR,rR,List.getElem?_set];have hi:=z7b h
 have hg:=z0u h
 by_cases hij:i=j
 ·subst hij
  rw[hg];simp only[if_true,hi];obtain⟨w,hw⟩:=Option.isSome_iff_exists.1 (z7d h);rw[hw];rfl
 ·simp [hij]
variable {h:aA} {id:Nat} {l:List (α × β)} {kk:Sh × List Nat} {k:α}
theorem z4K (hh:h[id]?=some (FA key val l)):lC h (.mp id)=some (id,sE key val 0 l,l.length):=by
 simp only[lC,hh,FA]
theorem pR (hk:VL key)(hh:h[id]?=some (FA key val l))(hq:aD kk (.p (key k))=some (key k)){ok:Bool}{z:AV} :
 DB kk ok z (.mp id) (.p (key k)) h=some (bif ok then .tup [((TA k l).map val).getD z,AV.p (.bool (TA k l).isSome)] else((TA k l).map val).getD z):=by
 simp only[DB,hq,z4K hh,Option.map_some,QX hk,zf6,Option.isSome_map];rfl
theorem SX (hk:VL key)(hh:h[id]?=some (FA key val l))(hq:aD kk (.p (key k))=some (key k)){v:β}(hv:rH (val v)=true) :
 LB kk (.mp id) (.p (key k)) (val v) h=some (.und,h.set id (FA key val (vB k v l)),qC id (val v)):=by
 simp only[LB,hq,z4K hh,hv,QX hk];cases hw:UC k l with
 | none=>
  simp only[FA,z6R hw,z4J,List.length_append,List.length_cons,List.length_nil,Nat.zero_add]
 | some i=>
  simp only[FA,z6S hw,zfB hw,List.length_set]
end
end Go.Am
end
section
/- Devices on a chain: which register is selected: the program. -/
open Go
set_option linter.all false
set_option maxRecDepth 100000
namespace Go.Am
variable {h:aA} {K:jA}
attribute [-go_sem] OA
def uA (r:TReg):PV:=.agg [.str r.name,eI r.long]
def QA (i:TIns):PV:=.agg [.str i.code,.str i.reg]
def tA (d:TDev):PV:=.agg [.str d.name,eI d.long,eI d.id,.sl (some 2) (d.regs.map uA),.sl (some 2) (d.ins.map QA)]
abbrev XA (d:TDev):AV:=.p (tA d)
abbrev pC (ds:List TDev):AV:=.p (.sl (some 5) (ds.map tA))
def JB (d:TDev):List AV:=[AS d.name,AI d.long,AI d.id,.p (.sl (some 2) (d.regs.map uA)),.p (.sl (some 2) (d.ins.map QA))]
theorem yT {l:List TReg}:EH (some 2) (l.map uA):=fun x hx=>by obtain⟨n,_,rfl⟩:=List.mem_map.1 hx;rfl
theorem z41 {l:List TIns}:EH (some 2) (l.map QA):=fun x hx=>by obtain⟨n,_,rfl⟩:=List.mem_map.1 hx;rfl
theorem MW {l:List TDev}:EH (some 5) (l.map tA):=fun x hx=>by obtain⟨n,_,rfl⟩:=List.mem_map.1 hx;rfl
def dC (n:List UInt8):PV→Bool
 | .agg (.str s::_)=>decide (s=n)
 | _=>false
theorem z4w {α:Type}(f:α→PV){p:PV→Bool}{q:α→Bool}(hpq:∀ x,p (f x)=q x)(l:List α) :
 (l.find? q=none∧nD p (l.map f) = -1)∨∃k,∃hk:k<l.length,l.find? q=some l[k]∧nD p (l.map f)=(k:Int):=by
 have e:(l.map f).findIdx p=l.findIdx q:=by
  rw[List.findIdx_map];congr 1
  funext x
  exact hpq x
 unfold nD;rw[e,List.length_map];by_cases h:l.findIdx q<l.length
 ·right
  refine⟨l.findIdx q,h,z3H (fun x hx=>?_) (List.getElem?_eq_getElem h) List.findIdx_getElem,if_pos h⟩
  obtain⟨j,hj,rfl⟩:=List.mem_take_iff_getElem.1 hx;have:=List.not_of_lt_findIdx (p:=q) (xs:=l) (i:=j) (by omega)
  simpa using this
 ·left
  refine⟨?_,if_neg h⟩;rw[List.find?_eq_none];intro x hx;have:l.findIdx q=l.length:=by have:=List.findIdx_le_length (p:=q) (xs:=l);omega
  rw[List.findIdx_eq_length]at this;simp [this x hx]
def xL (d:TDev)(n:List UInt8):AV:=match SB d n with
 | some r=>.tup [.p (uA r),AB true]
 | none=>.tup [.p (.agg [.str [],eI 0]),AB false]
set_option maxHeartbeats 2000000 in
theorem z0e (d:TDev)(n:List UInt8)(hl:d.regs.length≤1000000):bA X vI [XA d,AS n] h K=K (xL d n) h []:=by
 refine zA ?_;rw[zaz rfl];unfold xL SB mB nB;by_cases h1:n=[98,121,112,97,115,115]
 ·subst h1
  simp only[mG,go_sem,Nat.add_assoc,XA,tA,uA,if_true,splice]
 have tl:CD wN [.ref (h.length+1) 0] (dC n) (d.regs.map uA) (h++[.box (JB d),.box [AS n],.box [AS [],AI 0]]):=fun x hx K=>by
  obtain⟨r,_,rfl⟩:=List.mem_map.1 hx;refine zA ?_;rw[za0 rfl];simp only[lQ,go_sem,uA,dC]
 have ix:=fun K=>z0D (h:=h++[.box (JB d),.box [AS n],.box [AS [],AI 0]]) (K:=K) (yO yT) tl (by simp;omega)
 rw[if_neg h1];unfold JB at ix;by_cases h2:n=[105,100,99,111,100,101]
 ·subst h2
  have h1:¬([105,100,99,111,100,101]:List UInt8)=[98,121,112,97,115,115]:=by decide
  by_cases h3:d.id=0
  ·rw[if_neg (by simp [h3])]
   rcases z4w uA (p:=dC [105,100,99,111,100,101]) (q:=fun r=>r.name==[105,100,99,111,100,101]) (fun x=>by show decide (x.name=_)=(x.name==_);rw[Bool.eq_iff_iff];simp) d.regs with⟨e1,e2⟩|⟨k,hk,e1,e2⟩
   ·rw[e2]at ix
    rw[e1];simp only[mG,go_sem,Nat.add_assoc,XA,tA,h1,eq_true h3,↓ix,ix,splice]
   ·rw[e2]at ix
    rw[e1];have hg:=XB uA hk
    have k0:¬(k:Int)<0:=by omega
    have cx:lB (some 2) 0 (uA d.regs[k])=some (uA d.regs[k]):=rfl
    generalize d.regs[k]=r at *;have fp:∀y:TReg,uA y = .agg [.str y.name,eI y.long]:=fun _=>rfl
    rw[fp]at hg cx;simp only[mG,go_sem,Nat.add_assoc,XA,tA,h1,eq_true h3,↓ix,ix,hk,hg,k0,cx,fp,splice]
  ·rw[if_pos ⟨rfl,h3⟩]
   simp only[mG,go_sem,Nat.add_assoc,XA,tA,h1,h3,uA,splice]
 ·rw[if_neg (by simp [h2])]
  rcases z4w uA (p:=dC n) (q:=fun r=>r.name==n) (fun x=>by show decide (x.name=n)=(x.name==n);rw[Bool.eq_iff_iff];simp) d.regs with⟨e1,e2⟩|⟨k,hk,e1,e2⟩
  ·rw[e2]at ix
   rw[e1];simp only[mG,go_sem,Nat.add_assoc,XA,tA,h1,h2,↓ix,ix,splice]
  ·rw[e2]at ix
   rw[e1];have hg:=XB uA hk
   have k0:¬(k:Int)<0:=by omega
   have cx:lB (some 2) 0 (uA d.regs[k])=some (uA d.regs[k]):=rfl
   generalize d.regs[k]=r at *;have fp:∀y:TReg,uA y = .agg [.str y.name,eI y.long]:=fun _=>rfl
   rw[fp]at hg cx;simp only[mG,go_sem,Nat.add_assoc,XA,tA,h1,h2,↓ix,ix,hk,hg,k0,cx,fp,splice]
attribute [-go_sem] WW uM
theorem zk0 (d:TDev)(code:List UInt8)(hl:d.regs.length≤1000000)(hi:d.ins.length≤1000000):bA X zN [XA d,AS code] h K=K (.p (uA ((SB d (wF d code)).getD ⟨[],0⟩))) h []:=by
 refine zA ?_;rw[za3 rfl];have e3:=@WW
 simp only[pQ,go_sem,XA,tA,List.length_map];refine yB (fun k:Nat=>⟨[(1,AS code),(2,.ref h.length 0),(4,.ref (h.length+1) 0),(5,AS ((d.ins.take k).foldl (fun n x=>if x.code=code then x.reg else n) mB)),(11,.p (.sl (some 2) (d.ins.map QA))),(12,AI d.ins.length),(13,AI k)],h++[.box (JB d),.box [AS [],AI 0]],[]⟩) (fun k=>k≤d.ins.length) (fun k=>d.ins.length-k) 0 rfl (by omega) ?_
 intro k hk;rcases Nat.lt_or_ge k d.ins.length with hlt|hge
 ·have hg:=XB QA hlt
  have w2:IntKind.i64.wrap ((k:Int)+1)=((k+1:Nat):Int):=LA _ (by omega) (by omega)
  have ef:(d.ins.take (k+1)).foldl (fun n x=>if x.code=code then x.reg else n) mB=if d.ins[k].code=code then d.ins[k].reg else(d.ins.take k).foldl (fun n x=>if x.code=code then x.reg else n) mB:=by
   rw[List.take_succ_eq_append_getElem hlt,List.foldl_append];rfl
  have cx:lB (some 2) 0 (QA d.ins[k])=some (QA d.ins[k]):=rfl
  generalize (d.ins.take k).foldl (fun n x=>if x.code=code then x.reg else n) mB=nm at *
  generalize d.ins[k]=i at *;have fp:∀y:TIns,QA y = .agg [.str y.code,.str y.reg]:=fun _=>rfl
  rw[fp]at hg cx;by_cases hc:i.code=code
  ·rw[if_pos hc]at ef
   simp only[go_sem,Nat.add_assoc,hlt,hg,cx,w2,hc,splice];exact⟨k+1,by rw[ef],by omega,by omega⟩
  ·rw[if_neg hc]at ef
   simp only[go_sem,Nat.add_assoc,hlt,hg,cx,w2,hc,splice];exact⟨k+1,by rw[ef],by omega,by omega⟩
 ·have ek:k=d.ins.length:=by omega
  subst ek;rw[List.take_length];have q:=fun h K=>z0e (h:=h) (K:=K) d (wF d code) hl
  unfold xL at q;simp only[go_sem,Nat.lt_irrefl];rw[e3];simp only[uM];have fd:XA d = .p (.agg [.str d.name,eI d.long,eI d.id,.sl (some 2) (d.regs.map uA),.sl (some 2) (d.ins.map QA)]):=rfl
  have fs:wF d code=d.ins.foldl (fun n x=>if x.code=code then x.reg else n) mB:=rfl
  rw[fd]at q;rw[←fs];cases hr:SB d (wF d code) with
  | none=>
   rw[hr]at q;dsimp only at q;simp only[go_sem,Nat.add_assoc,JB,splice,↓q,q,Option.getD_none,uA]
  | some r=>
   rw[hr]at q;dsimp only at q;simp only[go_sem,Nat.add_assoc,JB,splice,↓q,q,Option.getD_some,uA]
abbrev SM:=List (List UInt8 × List UInt8)
def oB (s:List UInt8):AV:=AS s
def YB (d:TDev)(p:PA)(mi mo:Nat):List AV:=[AS d.name,AI d.long,AI d.id,.p (.sl (some 2) (d.regs.map uA)),.p (.sl (some 2) (d.ins.map QA)),AS p.1,AS p.2,.mp mi,.mp mo]
theorem z6m (d:TDev)(p:PA)(mi mo:Nat){id:Nat}(hh:h[id]?=some (.box (YB d p mi mo)))(hl:d.regs.length≤1000000)(hi:d.ins.length≤1000000):bA X bK [.ref id 0] h K=K (.p (uA (TB d p.1))) h []:=by
 refine zA ?_;rw[zay rfl];have hid:id<h.length:=by
  rcases Nat.lt_or_ge id h.length with h1|h1
  ·exact h1
  ·rw[List.getElem?_eq_none h1]at hh;cases hh
 have g:∀l:aA,(h++l)[id]?=some (.box (YB d p mi mo)):=fun l=>by rw[List.getElem?_append_left hid];exact hh
 obtain⟨i,s⟩:=p;unfold TB;dsimp only;have q1:=fun h K=>z0e (h:=h) (K:=K) d nB hl
 have q2:=fun h K=>zk0 (h:=h) (K:=K) d i hl hi
 unfold xL nB at q1;unfold YB at g hh;have fd:XA d = .p (.agg [.str d.name,eI d.long,eI d.id,.sl (some 2) (d.regs.map uA),.sl (some 2) (d.ins.map QA)]):=rfl
 rw[fd]at q1 q2;unfold nB;by_cases hc:i=[]
 ·subst hc
  rw[if_pos rfl];cases hr:SB d [105,100,99,111,100,101]with
  | none=>
   rw[hr]at q1;dsimp only at q1;simp only[FJ,go_sem,Nat.add_assoc,hid,g,hh,splice,↓q1,q1,uA,mB]
  | some r=>
   rw[hr]at q1;dsimp only at q1;simp only[FJ,go_sem,Nat.add_assoc,hid,g,hh,splice,↓q1,q1,uA]
 ·rw[if_neg hc]
  generalize (SB d (wF d i)).getD ⟨[],0⟩=r at *;have fp:∀y:TReg,uA y = .agg [.str y.name,eI y.long]:=fun _=>rfl
  rw[fp]at q2;simp only[FJ,go_sem,Nat.add_assoc,hid,g,hh,hc,splice,↓q2,q2,fp]
end Go.Am
end
section
/- A builder of strings. -/
open Go
set_option linter.all false
namespace Go.Am
variable {h:aA} {K:jA}
def bldB (u:Bool)(id n:Nat):Obj:=.box [bif u then .ref id 0 else .bt 0 bldT id 0,.bt 1 bldE (id+1) n]
theorem nJ (s:List UInt8):(IA s).length=s.length:=by simp [IA]
theorem NT (s:List UInt8):OE (IA s)=some s:=by
 induction s with
 | nil=>rfl
 | cons a r ih=>
  have h1:(0:Int)≤(a.toNat:Int)∧(a.toNat:Int)<256:=⟨by omega,by have:=a.toNat_lt;omega⟩
  have e:IA (a::r) = .int .u8 a.toNat::IA r:=rfl
  rw[e];unfold OE;rw[if_pos h1,ih];simp
end Go.Am
end
section
/- Devices on a chain: what is captured;clones: the program. -/
open Go
set_option linter.all false
set_option maxRecDepth 100000
namespace Go.Am
variable {h:aA} {K:jA}
attribute [-go_sem] OA
theorem zjX (l:List TReg)(hl:l.length≤1000000):bA X gN [.p (.sl (some 2) (l.map uA))] h K=K (.p (.sl (some 2) (l.map uA))) h []:=by
 refine zA ?_;rw[zab rfl];simp only[PP];cases l with
 | nil=>
  refine⟨_,_,_,⟨rfl,rfl,rfl⟩,?_⟩;simp only[List.map_nil,List.length_nil,go_sem];trivial
 | cons x r=>
  refine⟨_,_,_,⟨rfl,rfl,rfl⟩,?_⟩;have hm:r.length+1≤RA:=by simp only[List.length_cons]at hl;unfold RA;omega
  simp only[List.map_cons,List.length_cons,go_sem,hm];rw[QE (by simp)]
theorem zjW (l:List TIns)(hl:l.length≤1000000):bA X fN [.p (.sl (some 2) (l.map QA))] h K=K (.p (.sl (some 2) (l.map QA))) h []:=by
 refine zA ?_;rw[zaa rfl];simp only[OP];cases l with
 | nil=>
  refine⟨_,_,_,⟨rfl,rfl,rfl⟩,?_⟩;simp only[List.map_nil,List.length_nil,go_sem];trivial
 | cons x r=>
  refine⟨_,_,_,⟨rfl,rfl,rfl⟩,?_⟩;have hm:r.length+1≤RA:=by simp only[List.length_cons]at hl;unfold RA;omega
  simp only[List.map_cons,List.length_cons,go_sem,hm];rw[QE (by simp)]
theorem zez {id:Int}(h0:0≤id)(h1:id≤4294967295){k:Nat}(hk:k<32):lH .i64 (DI .i64 id (k:Int)) 1=(((id.toNat >>> k)%2:Nat):Int):=by
 obtain⟨n,rfl⟩:∃n:Nat,id=n:=⟨id.toNat,by omega⟩
 have e:DI .i64 (n:Int) (k:Int)=((n / 2^k:Nat):Int):=by
  unfold DI;have:min ((k:Int)).toNat IntKind.i64.bits=k:=by simp only[IntKind.bits,Int.toNat_natCast];omega
  rw[this,show((2:Int)^k)=((2^k:Nat):Int) by simp]
  exact(Int.ofNat_fdiv n (2^k)).symm
 have hn:n / 2^k≤n:=Nat.div_le_self _ _
 rw[e,Int.toNat_natCast,Nat.shiftRight_eq_div_pow];generalize n / 2^k=m at *;unfold lH;have b1:BitVec.ofInt IntKind.i64.bits (m:Int)=BitVec.ofNat 64 m:=by
  show BitVec.ofInt 64 (m:Int)=_
  simp
 have b2:BitVec.ofInt IntKind.i64.bits (1:Int)=BitVec.ofNat 64 1:=rfl
 have e2:(BitVec.ofInt IntKind.i64.bits (m:Int) &&& BitVec.ofInt IntKind.i64.bits 1).toNat=m%2:=by
  rw[b1,b2];show(BitVec.ofNat 64 m &&& BitVec.ofNat 64 1).toNat=_
  rw[BitVec.toNat_and,BitVec.toNat_ofNat,BitVec.toNat_ofNat,Nat.mod_eq_of_lt (by omega),Nat.mod_eq_of_lt (by omega),Nat.and_one_is_mod]
 rw[e2];exact LA _ (by omega) (by omega)
theorem zey {id:Int}{k:Nat}(hk:k<32):(XC id)[k]?=some (UInt8.ofNat (48+(id.toNat >>> k)%2)):=by
 unfold XC;simp [hk]
theorem z4t {id:Int}:(XC id).length=32:=by simp [XC]
def InM (d:TDev)(m:SM):Prop:=∀r∈d.regs,TA r.name m=some (zs r.long.toNat)
theorem z4E {hp:aA}{id:Nat}{m:SM}{k:List UInt8}(hh:hp[id]?=some (FA PV.str oB m)):DB (none,[2]) false (.p (.str [])) (.mp id) (AS k) hp=some (AS ((TA k m).getD [])):=by
 have:=pR (key:=PV.str) (val:=oB) z45 hh (kk:=(none,[2])) (k:=k) z47 (ok:=false) (z:=AS []);rw[this];cases TA k m <;> rfl
theorem z0t {hp:aA}{id:Nat}{m:SM}{k v:List UInt8}(hh:hp[id]?=some (FA PV.str oB m)):LB (none,[2]) (.mp id) (AS k) (AS v) hp=some (.und,hp.set id (FA PV.str oB (vB k v m)),[]):=
 SX (key:=PV.str) (val:=oB) z45 hh (kk:=(none,[2])) (k:=k) z47 (v:=v) rfl
attribute [-go_sem] DB
set_option maxHeartbeats 2000000 in
theorem zkf (d:TDev)(D:DevOk d)(p:PA)(mi mo:Nat){id:Nat}(hh:h[id]?=some (.box (YB d p mi mo))){m:SM}(hm:h[mi]?=some (FA PV.str oB m))(hI:InM d m)(hl:d.regs.length≤1000000)(hi:d.ins.length≤1000000) :
 bA X vN [.ref id 0] h K=K (AS (kD d p.1)) h []:=by
 refine zA ?_;rw[zax rfl];have hid:id<h.length:=by
  rcases Nat.lt_or_ge id h.length with h1|h1
  ·exact h1
  ·rw[List.getElem?_eq_none h1]at hh;cases hh
 have him:mi<h.length:=by
  rcases Nat.lt_or_ge mi h.length with h1|h1
  ·exact h1
  ·rw[List.getElem?_eq_none h1]at hm;cases hm
 have g:∀l:aA,(h++l)[id]?=some (.box (YB d p mi mo)):=fun l=>by rw[List.getElem?_append_left hid];exact hh
 have q:=fun h (hh:h[id]?=some (.box (YB d p mi mo))) K=>z6m (h:=h) (K:=K) d p mi mo hh hl hi
 have q0:=q h hh
 have sc:=z62 D p.1
 have lk:∀l:aA,∀k:List UInt8,DB (none,[2]) false (.p (.str [])) (.mp mi) (AS k) (h++l)=some (AS ((TA k m).getD [])):=fun l k=>z4E (by rw[List.getElem?_append_left him];exact hm)
 unfold kD;generalize TB d p.1=r at *;have fp:∀y:TReg,uA y = .agg [.str y.name,eI y.long]:=fun _=>rfl
 unfold mB nB at *;rw[fp]at q0;dsimp only;by_cases h1:r.name=[98,121,112,97,115,115]
 ·rw[if_pos h1]
  simp only[EJ,go_sem,Nat.add_assoc,↓q0,q0,h1,splice]
 rw[if_neg h1];by_cases h2:r.name=[105,100,99,111,100,101]
 ·rw[if_pos h2]
  have n1:¬([105,100,99,111,100,101]:List UInt8)=[98,121,112,97,115,115]:=by decide
  simp only[EJ,go_sem,Nat.add_assoc,↓q0,q0,h2,n1,splice];refine yB (fun k:Nat=>⟨[(0,.ref id 0),(4,.own (h.length+1) k 0 k),(21,AI k)],h++[.box [AS [105,100,99,111,100,101],AI r.long],.row none (IA ((XC d.id).take k)) 0],[]⟩) (fun k=>k≤32) (fun k=>32-k) 0 rfl (by omega) ?_
  intro k hk;have hlk:(IA ((XC d.id).take k)).length=k:=by simp [IA,z4t];omega
  rcases Nat.lt_or_ge k 32 with hlt|hge
  ·have hlt':(k:Int)<32:=by omega
   have k0:¬(k:Int)<0:=by omega
   have w2:IntKind.i64.wrap ((k:Int)+1)=((k+1:Nat):Int):=LA _ (by omega) (by omega)
   have ib:=zez D.i0 D.i1 hlt
   have hg:=zey (id:=d.id) hlt
   have hx:(d.id.toNat >>> k)%2<2:=Nat.mod_lt _ (by omega)
   generalize (d.id.toNat >>> k)%2=b at *;have w3:IntKind.i64.wrap (48+(b:Int))=((48+b:Nat):Int):=by rw[LA _ (by omega) (by omega)];omega
   have w4:IntKind.u8.wrap ((48+b:Nat):Int)=((48+b:Nat):Int):=by simp [IntKind.wrap,IntKind.bits,IntKind.signed];omega
   have gd:∀l:aA,ldB none 2 (h++l)[id]?=some (AI d.id):=fun l=>by rw[g l];rfl
   have e1:IA ((XC d.id).take (k+1))=IA ((XC d.id).take k)++[.int .u8 ((48+b:Nat):Int)]:=by
    rw[List.take_add_one,hg];simp only[Option.toList,IA,List.map_append,List.map_cons,List.map_nil];rw[UInt8.toNat_ofNat'];congr 4
    omega
   have ms:k+1≤RA:=by unfold RA;omega
   have f1:id≤h.length+1:=by omega
   simp only[go_sem,Nat.add_assoc,hlt',k0,gd,ib,w2,w3,w4,hlk,ms,f1];refine⟨k+1,?_,by omega,by omega⟩
   rw[e1]
  ·have ek:k=32:=by omega
   subst ek;have et:(XC d.id).take 32=XC d.id:=List.take_of_length_le (by rw[z4t];omega)
   rw[et]at hlk ⊢;have tb:OE (IA (XC d.id))=some (XC d.id):=NT _
   have wf:win (IA (XC d.id)) 0 32=IA (XC d.id):=QE hlk
   simp only[go_sem,Nat.lt_irrefl,Nat.add_assoc,hlk,wf,tb]
 ·rw[if_neg h2]
  have hr:r∈d.regs:=by
   rcases sc with c|c|c
   ·exact absurd c h1
   ·exact absurd c h2
   ·exact c
  have hg:=hI r hr
  have lk':=fun l=>lk l r.name
  rw[hg,Option.getD_some]at lk';have gd:∀l:aA,ldB none 7 (h++l)[id]?=some (.mp mi):=fun l=>by rw[g l];rfl
  simp only[EJ,go_sem,Nat.add_assoc,↓q0,q0,h1,h2,gd,lk',splice]
end Go.Am
end
section
/- The shortest way between two states of a test access port: a search over a queue. -/
open Go
set_option linter.all false
namespace Go.Am
variable {h:aA} {K:jA}
attribute [-go_sem] DB LB yK zK
def nxtT:List (List Nat):=[[1,0],[1,2],[3,9],[4,5],[4,5],[6,8],[6,7],[4,8],[1,2],[10,0],[11,12],[11,12],[13,15],[13,14],[11,15],[1,2]]
def nxt (s t:Nat):Nat:=(nxtT.getD s []).getD t 0
theorem zga {s t:Nat}(hs:s<16)(ht:t<2):([AI 1,AI 0,AI 1,AI 2,AI 3,AI 9,AI 4,AI 5,AI 4,AI 5,AI 6,AI 8,AI 6,AI 7,AI 4,AI 8,AI 1,AI 2,AI 10,AI 0,AI 11,AI 12,AI 11,AI 12,AI 13,AI 15,AI 13,AI 14,AI 11,AI 15,AI 1,AI 2]:List AV)[s*2+t*1]?=some (AI (nxt s t)):=by
 have hs':s=0∨s=1∨s=2∨s=3∨s=4∨s=5∨s=6∨s=7∨s=8∨s=9∨s=10∨s=11∨s=12∨s=13∨s=14∨s=15:=by omega
 have ht':t=0∨t=1:=by omega
 rcases hs' with rfl|rfl|rfl|rfl|rfl|rfl|rfl|rfl|rfl|rfl|rfl|rfl|rfl|rfl|rfl|rfl <;> rcases ht' with rfl|rfl <;> rfl
theorem z4k {Y:Ctx}(hY:Y.fn HE=some OH)(s t:Nat)(hs:s<16)(ht:t<2):bA Y HE [AI s,AI t] h K=K (AI (nxt s t)) h []:=by
 refine zA ?_;rw[AA hY rfl (show oA h [AI s,AI t]=some ([AI s,AI t],h) from rfl) rfl,z2o]
 show kQ _ _ _ _ _ _ (qA [.t 4] false _ _)
 have g:=zga hs ht
 simp only[kQ,go_sem,hs,ht,g]
abbrev iD:=List (Int × List UInt8)
def oD (n:Int):PV:=.int .i64 n
def uD (s:List UInt8):AV:=.p (.str s)
def SH (t:Nat):List UInt8:=[UInt8.ofNat (48+t)]
def HH (at_ t:Nat)(s:iD × List Nat):iD×List Nat:=
 if(TA (nxt at_ t:Int) s.1).isSome then s else(vB (nxt at_ t:Int) ((TA (at_:Int) s.1).getD []++SH t) s.1,s.2++[nxt at_ t])
def JG (at_:Nat):Nat→iD×List Nat→iD×List Nat
 | 0,s=>s
 | t+1,s=>HH at_ t (JG at_ t s)
def popS (s:iD × List Nat):iD×List Nat:=match s.2 with
 | []=>s
 | a::r=>JG a 2 (s.1,r)
def bfs (a:Nat):Nat→iD×List Nat
 | 0=>([((a:Int),[])],[a])
 | k+1=>popS (bfs a k)
def eA (a b:Nat):List UInt8:=(TA (b:Int) (bfs a 16).1).getD []
def lK (s:iD × List Nat):Bool:=decide (s.1.length≤16)&&decide (s.2.length≤16)&&s.2.all (fun x=>decide (x<16))&&s.1.all (fun e=>decide (e.2.length≤16))
theorem z1n:(List.range 16).all (fun a=>(List.range 16).all (fun k=>lK (bfs a k) && !(bfs a k).2.isEmpty)&&lK (bfs a 16)&&(bfs a 16).2.isEmpty)=true:=by kernel_rfl
theorem z9n {a k:Nat}(ha:a<16)(hk:k<16):lK (bfs a k)=true∧(bfs a k).2≠[]:=by
 have h1:=List.all_eq_true.1 z1n a (List.mem_range.2 ha)
 simp only[Bool.and_eq_true]at h1;have h2:=List.all_eq_true.1 h1.1.1 k (List.mem_range.2 hk)
 simp only[Bool.and_eq_true,Bool.not_eq_true',List.isEmpty_eq_false_iff]at h2;exact h2
theorem z9m {a:Nat}(ha:a<16):lK (bfs a 16)=true∧(bfs a 16).2=[]:=by
 have h1:=List.all_eq_true.1 z1n a (List.mem_range.2 ha)
 simp only[Bool.and_eq_true,List.isEmpty_iff]at h1;exact⟨h1.1.2,h1.2⟩
theorem zec {s:iD × List Nat}(hf:lK s=true):s.1.length≤16∧s.2.length≤16∧(∀x∈s.2,x<16)∧∀e∈s.1,e.2.length≤16:=by
 unfold lK at hf;simp only[Bool.and_eq_true,decide_eq_true_eq,List.all_eq_true]at hf;exact⟨hf.1.1.1,hf.1.1.2,hf.1.2,hf.2⟩
theorem z4D {hp:aA}{id:Nat}{m:iD}{b:Int}(hh:hp[id]?=some (FA oD uD m)):DB (none,[0]) false (.p (.str [])) (.mp id) (AI b) hp=some (.p (.str ((TA b m).getD []))):=by
 have:=pR (key:=oD) (val:=uD) (fun a b=>JN a b) hh (kk:=(none,[0])) (k:=b) KN (ok:=false) (z:=.p (.str []))
 rw[cond_false]at this;refine this.trans ?_;cases TA b m <;> rfl
theorem lookQ {hp:aA}{id:Nat}{m:iD}{b:Int}(hh:hp[id]?=some (FA oD uD m)):DB (none,[0]) true (.p (.str [])) (.mp id) (AI b) hp=some (.tup [.p (.str ((TA b m).getD [])),AB (TA b m).isSome]):=by
 have:=pR (key:=oD) (val:=uD) (fun a b=>JN a b) hh (kk:=(none,[0])) (k:=b) KN (ok:=true) (z:=.p (.str []))
 rw[cond_true]at this;refine this.trans ?_;cases TA b m <;> rfl
theorem updP {hp:aA}{id:Nat}{m:iD}{b:Int}{v:List UInt8}(hh:hp[id]?=some (FA oD uD m)):LB (none,[0]) (.mp id) (AI b) (.p (.str v)) hp=some (.und,hp.set id (FA oD uD (vB b v m)),[]):=
 SX (key:=oD) (val:=uD) (fun a b=>JN a b) hh (kk:=(none,[0])) (k:=b) KN (v:=v) rfl
structure Que (R:aA) (i:Nat) (xs:List Nat) (off:Nat) (q:List Nat):Prop where
 get:R[i]?=some (.row none (xs.map fun n:Nat=>eI n) 0)
 le:off≤xs.length
 eq:xs.drop off=q
theorem zfZ {hp:aA}{id:Nat}{xs:List Nat}{off:Nat}{n:Int}{k:AV→aA→Esc→Prop}(hh:hp[id]?=some (.row none (xs.map fun n:Nat=>eI n) 0))(ho:off≤xs.length)(hm:xs.length≤1000000)
 (k1:k (.own id (xs.length+1) off (xs.length-off+1)) (hp.set id (.row none (xs.map (fun n:Nat=>eI n)++[eI n]) 0)) [])
 (k2:k (.own hp.length (xs.length-off+1) 0 (xs.length-off+1)) (hp++[.row none ((xs.drop off).map (fun n:Nat=>eI n)++[eI n]) 0]) []) :
 nqK (some none) [.own id xs.length off (xs.length-off),.p (.sl none [eI n])] hp k:=by
 have hx:xs.length-off+1≤RA:=by unfold RA;omega
 have hr:rds hp (.p (.sl none [eI n]))=some (none,[eI n]):=rfl
 have hw:win (xs.map fun n:Nat=>eI n) off (xs.length-off)=(xs.drop off).map fun n:Nat=>eI n:=by
  unfold win;rw[←List.map_drop];exact List.take_of_length_le (by simp)
 unfold nqK aI appq;simp only[hr,if_true,hh,List.length_map,List.length_cons,List.length_nil,Nat.zero_add];rw[if_pos ⟨trivial,trivial,by omega,hx,Nat.zero_le _⟩,hw]
 refine⟨by simp,fun y hy=>?_⟩
 simp only[List.mem_cons,List.not_mem_nil,or_false]at hy;rcases hy with rfl|rfl
 ·exact k1
 ·exact k2
theorem z4I {α β:Type}[DecidableEq α]{k:α}{v:β}:∀{l:List (α×β)} {e:α×β},e∈vB k v l→e∈l∨e=(k,v)
 | [],e,h=>by simp [vB]at h;exact .inr h
 | x::r,e,h=>by
  unfold vB at h;split at h
  ·rcases List.mem_cons.1 h with h|h
   ·exact .inr h
   ·exact .inl (List.mem_cons_of_mem _ h)
  ·rcases List.mem_cons.1 h with h|h
   ·exact .inl (h ▸ List.mem_cons_self)
   ·rcases z4I h with h|h
    ·exact .inl (List.mem_cons_of_mem _ h)
    ·exact .inr h
theorem z4o {α β:Type}[DecidableEq α]{k:α}{v:β}:∀{l:List (α×β)},TA k l=some v→(k,v)∈l
 | [],h=>by cases h
 | x::r,h=>by
  unfold TA at h;split at h
  ·rename_i he;cases h;subst he;simp
  ·exact List.mem_cons_of_mem _ (z4o h)
theorem z7a {n:Nat}{w:iD}(hw:∀ e∈w,e.2.length≤n)(k:Int):((TA k w).getD []).length≤n:=by
 cases hg:TA k w with
 | none=>simp
 | some v=>exact hw _ (z4o hg)
theorem zlD {n at_ t:Nat}{s:iD × List Nat}(hw:∀ e∈s.1,e.2.length≤n):∀e∈(HH at_ t s).1,e.2.length≤n+1:=by
 unfold HH;split
 ·intro e he;have:=hw e he;omega
 ·intro e he
  rcases z4I he with h|h
  ·have:=hw e h;omega
  ·subst h
   have:=z7a hw (at_:Int);simp [SH];omega
theorem z6U {n at_:Nat}{s:iD × List Nat}(hw:∀ e∈s.1,e.2.length≤n):∀(t:Nat),∀e∈(JG at_ t s).1,e.2.length≤n+t
 | 0=>hw
 | t+1=>zlD (z6U hw t)
set_option maxHeartbeats 1000000 in
theorem z4j {Y:Ctx}(hY1:Y.fn PF=some iJ)(hY2:Y.fn HE=some OH)(a b:Nat)(ha:a<16)(hb:b<16):bA Y PF [AI a,AI b] h K=K (.p (.str (eA a b))) h []:=by
 refine zA ?_;rw[TH hY1 rfl (show oA h [AI a,AI b]=some ([AI a,AI b],h) from rfl) rfl]
 simp only[z2p];show ∃v h' x,_∧tM _ _ _ _ _ _ _ _ (qA [.t 4] false _ _)
 simp only[tM];refine⟨_,_,_,⟨rfl,rfl,rfl⟩,?_⟩;have em:FA oD uD [((a:Int),([]:List UInt8))] = .amap [⟨.int .i64 a,.p (.str []),0⟩] 1:=rfl
 have u0:=fun(hp:aA) (hh:hp[h.length]?=some (FA oD uD []))=>updP (b:=(a:Int)) (v:=[]) hh
 have e0:vB (a:Int) [] ([]:iD)=[((a:Int),[])]:=rfl
 have em0:FA oD uD ([]:iD) = .amap [] 0:=rfl
 rw[e0]at u0;simp only[em0]at u0;simp only[go_sem,u0];refine yB (fun t:Nat×aA×Nat×List Nat×Nat×Option Nat=>⟨[(1,AI b),(5,.mp h.length),(6,.own (h.length+(t.2.2.1+1)) t.2.2.2.1.length t.2.2.2.2.1 (t.2.2.2.1.length-t.2.2.2.2.1))]++(match t.2.2.2.2.2 with|none=>[]|some q=>[(7,AI q),(25,AI 2),(26,AB false)]),h++FA oD uD (bfs a t.1).1::t.2.1,[]⟩)
  (fun t=>t.1≤16∧Que t.2.1 t.2.2.1 t.2.2.2.1 t.2.2.2.2.1 (bfs a t.1).2∧t.2.2.2.1.length≤1+2*t.1) (fun t=>16-t.1) (0,[.row none [eI a] 0],0,[a],0,none) (by simp [bfs]) ⟨by simp,⟨rfl,by simp,rfl⟩,by simp⟩ ?_
 rintro⟨k,R,i,xs,off,oq⟩ ⟨h1,hq,h2⟩
 dsimp only at h1 hq h2 ⊢;have hqg:=hq.get
 have hle:=hq.le
 have heq:=hq.eq
 have hln:xs.length-off=(bfs a k).2.length:=by rw[←heq];simp
 by_cases hk:k<16
 ·obtain⟨hf,hne⟩:=z9n ha hk
  obtain⟨f1,f2,f3,f4⟩:=zec hf;have hpos:0<xs.length-off:=by rw[hln];exact List.length_pos_iff.2 hne
  have hoff:off<xs.length:=by omega
  obtain⟨q0,qr,hqe⟩:∃q0 qr,(bfs a k).2=q0::qr:=by
   cases hb2:(bfs a k).2 with
   | nil=>exact absurd hb2 hne
   | cons x y=>exact⟨x,y,rfl⟩
  have hx0:xs[off]?=some q0:=by
   have:(xs.drop off)[0]?=some q0:=by rw[heq,hqe];rfl
   rwa [List.getElem?_drop,Nat.add_zero]at this
  have hdr:xs.drop (off+1)=qr:=by
   rw[←List.drop_drop,heq,hqe];rfl
  have hq0:q0<16:=f3 q0 (by rw[hqe];simp)
  have hgq:(xs.map fun n:Nat=>eI n)[off]?=some (eI q0):=by rw[List.getElem?_map,hx0];rfl
  have hpi:(0:Int)<((xs.length-off:Nat):Int):=by omega
  have hl1:1≤xs.length-off:=by omega
  have hbn:bfs a (k+1)=JG q0 2 ((bfs a k).1,qr):=by show popS _=_;unfold popS;rw[hqe]
  have e3:xs.length-off-1=xs.length-(off+1):=by omega
  have hcond:off+(xs.length-off)≤xs.length:=by omega
  have hNL:∀(e:List (Nat×AV)),CA (some [1,5,6,7,25]) e=CA (some [1,5,6,7,25]) e:=fun _=>rfl
  rcases oq with _|oq
  all_goals
  simp only[List.append_nil,List.cons_append,List.nil_append,go_sem,List.getElem?_cons_succ,hqg,hpi,hpos,hgq,hl1,hcond];all_goals
  clear u0 em em0 e0;generalize hw0:((bfs a k).1,qr)=s0 at *;have es1:(bfs a k).1=s0.1:=by rw[←hw0]
  have es2:qr=s0.2:=by rw[←hw0]
  rw[es1,e3];refine yB (fun t:Nat×aA×Nat×List Nat×Nat=>⟨[(1,AI b),(5,.mp h.length),(6,.own (h.length+(t.2.2.1+1)) t.2.2.2.1.length t.2.2.2.2 (t.2.2.2.1.length-t.2.2.2.2)),(7,AI q0),(25,AI t.1)],h++FA oD uD (JG q0 t.1 s0).1::t.2.1,[]⟩)
   (fun t=>t.1≤2∧Que t.2.1 t.2.2.1 t.2.2.2.1 t.2.2.2.2 (JG q0 t.1 s0).2∧t.2.2.2.1.length≤1+2*k+t.1) (fun t=>2-t.1) (0,R,i,xs,off+1) rfl ⟨by simp,⟨hqg,hoff,by rw[hdr,es2];rfl⟩,by simp;omega⟩ ?_
  rintro⟨j,R',i',ys,of'⟩ ⟨j1,jq,j2⟩
  dsimp only at j1 jq j2 ⊢;have jg:=jq.get
  have jle:=jq.le
  have jeq:=jq.eq
  by_cases hj:j<2
  ·have hji:(j:Int)<2:=by omega
   have qn:=fun h K=>z4k (h:=h) (K:=K) hY2 q0 j hq0 hj
   have hvis:JG q0 (j+1) s0=HH q0 j (JG q0 j s0):=rfl
   generalize hsj:JG q0 j s0=s at *;have lq:=fun(hp:aA) (hh:hp[h.length]?=some (FA oD uD s.1))=>lookQ (b:=(nxt q0 j:Int)) hh
   have lp:=fun(hp:aA) (hh:hp[h.length]?=some (FA oD uD s.1))=>z4D (b:=(q0:Int)) hh
   have up:=fun(hp:aA) (v:List UInt8) (hh:hp[h.length]?=some (FA oD uD s.1))=>updP (b:=(nxt q0 j:Int)) (v:=v) hh
   have w1:IntKind.i64.wrap ((j:Int)+1)=((j+1:Nat):Int):=LA _ (by omega) (by omega)
   cases hs:(TA (nxt q0 j:Int) s.1).isSome with
   | true=>
    have hv:HH q0 j s=s:=by unfold HH;rw[if_pos hs]
    rw[hv]at hvis;simp only[go_sem,hji,↓qn,qn,lq,hs,w1];exact⟨(j+1,R',i',ys,of'),by dsimp only;rw[hvis],⟨by dsimp only;omega,by dsimp only;rw[hvis];exact jq,by dsimp only;omega⟩,by dsimp only;omega⟩
   | false=>
    have hv:HH q0 j s=(vB (nxt q0 j:Int) ((TA (q0:Int) s.1).getD []++SH j) s.1,s.2++[nxt q0 j]):=by unfold HH;rw[hs];rfl
    rw[hv]at hvis;have w2:IntKind.i64.wrap (48+(j:Int))=((48+j:Nat):Int):=LA _ (by omega) (by omega)
    have w3:IntKind.i32.wrap ((48+j:Nat):Int)=((48+j:Nat):Int):=by
     have:j=0∨j=1:=by omega
     rcases this with rfl|rfl <;> rfl
    have w4:(0:Int)≤((48+j:Nat):Int)∧((48+j:Nat):Int)<128:=by omega
    have hln2:=z7a (z6U (n:=16) (at_:=q0) (s:=s0) (by rw[←es1];exact f4) j) (q0:Int)
    rw[hsj]at hln2;have w5:((TA (q0:Int) s.1).getD []).length+(SH j).length≤CB:=by have:(SH j).length=1:=rfl;unfold CB;omega
    have w6:[UInt8.ofNat ((48+j:Nat):Int).toNat]=SH j:=rfl
    simp only[go_sem,hji,↓qn,qn,lq,hs,lp,up,w1,w2,w3,w4,w5,w6];have hh1:(h++FA oD uD (vB (nxt q0 j:Int) ((TA (q0:Int) s.1).getD []++SH j) s.1)::R')[h.length+(i'+1)]?=some (.row none (ys.map fun n:Nat=>eI n) 0):=by
     rw[List.getElem?_append_right (by omega)];simpa using jg
    have hi':i'<R'.length:=xA jg
    refine zfZ hh1 jle (by omega) ?_ ?_
    ·refine⟨(j+1,R'.set i' (.row none (ys.map (fun n:Nat=>eI n)++[eI (nxt q0 j)]) 0),i',ys++[nxt q0 j],of'),?_,⟨by dsimp only;omega,⟨?_,?_,?_⟩,?_⟩,by dsimp only;omega⟩
     ·dsimp only
      rw[hvis,List.set_append_right _ _ (by omega)]
      simp only[List.length_append,List.length_cons,List.length_nil,Nat.add_sub_cancel_left,List.set_cons_succ];rw[show ys.length+1-of'=ys.length-of'+1 by omega]
     ·dsimp only
      rw[List.getElem?_set_self hi'];simp
     ·simp;omega
     ·dsimp only
      rw[hvis,List.drop_append_of_le_length jle,jeq]
     ·simp;omega
    ·refine⟨(j+1,R'++[.row none ((ys.drop of').map (fun n:Nat=>eI n)++[eI (nxt q0 j)]) 0],R'.length,ys.drop of'++[nxt q0 j],0),?_,⟨by dsimp only;omega,⟨?_,?_,?_⟩,?_⟩,by dsimp only;omega⟩
     ·dsimp only
      rw[hvis];simp
     ·simp
     ·simp
     ·dsimp only
      rw[hvis,jeq,List.drop_zero]
     ·simp;omega
  ·have hj2:j=2:=by omega
   subst hj2;simp only[go_sem];refine⟨(k+1,R',i',ys,of',some q0),?_,⟨by dsimp only;omega,by dsimp only;rw[hbn];exact jq,by dsimp only;omega⟩,by dsimp only;omega⟩
   dsimp only;rw[hbn]
 ·have hk16:k=16:=by omega
  subst hk16;obtain⟨_,hne⟩:=z9m ha;have hz:xs.length-off=0:=by rw[hln,hne];rfl
  have lk:=fun(hp:aA) (hh:hp[h.length]?=some (FA oD uD (bfs a 16).1))=>z4D (b:=(b:Int)) hh
  have hpv:(TA (b:Int) (bfs a 16).1).getD []=eA a b:=rfl
  rcases oq with _|oq <;> simp only[List.append_nil,List.cons_append,List.nil_append,go_sem,hz,lk,hpv]
end Go.Am
end
section
/- Numbers asv sets of bits;rows of a test asv numbers. -/
set_option linter.all false
namespace Go.Am
end Go.Am
end
section
/- Walks over the states,and the ways that the reference looks for. -/
open Go
set_option linter.all false
namespace Go.Am
variable {h:aA} {K:jA}
attribute [-go_sem] DB LB yK zK
attribute [-go_sem] vK
theorem zlK:(frS.all fun a=>toS.all fun b=>decide (SL a b 9 0=some (eA a b)))=true:=by kernel_rfl
theorem zlJ {a b:Nat}(ha:a∈frS)(hb:b∈toS):SL a b 9 0=some (eA a b):=
 of_decide_eq_true (List.all_eq_true.1 (List.all_eq_true.1 zlK a ha) b hb)
theorem fr_lt {a:Nat}(ha:a∈frS):a<16:=of_decide_eq_true (List.all_eq_true.1 (show(frS.all fun a=>decide (a<16))=true from rfl) a ha)
theorem pD {a b:Nat}(ha:a∈frS)(hb:b∈toS):EA (eA a b)=true∧(eA a b).length≤8∧DC a (eA a b)=b:=by
 obtain⟨kw,h1,h2,_⟩:=zlI (zlJ ha hb);have hm:=z5B (List.mem_of_find?_eq_some h2)
 have he:=List.find?_some h2
 exact⟨hm.1,by omega,by simpa using he⟩
theorem z6j {n:Nat}(hn:n<16):bA X uI [AI n] h K=K (AB true) h []:=by
 refine zA ?_;have h1:(0:Int)≤n:=by omega
 have h2:(n:Int)≤15:=by omega
 have h3:¬((n:Int)<0):=by omega
 have h4:¬((n:Int)>15):=by omega
 rw[zaw rfl];simp only[jQ,go_sem,sC,h3,h4]
theorem zkc {a b:Nat}(ha:a<16)(hb:b<16):bA X aK [AI a,AI b] h K=K (.tup [AS (eA a b),AI 0]) h []:=by
 refine zA ?_;rw[zaq rfl];simp only[cQ,go_sem,z6j ha,z6j hb,z4j z7g z7f a b ha hb]
theorem z6T:(frS.all fun a=>toS.all fun b=>decide ((aC a (eA a b)).count 11=0)&&decide ((aC a (eA a b)).count 4=0))=true:=by kernel_rfl
theorem US:PathOk eA where
 bits a ha b hb:=(pD ha hb).1
 len a ha b hb:=(pD ha hb).2.1
 ends a ha b hb:=(pD ha hb).2.2
 no11 a ha b hb:=by
  have:=List.all_eq_true.1 (List.all_eq_true.1 z6T a ha) b hb;simp only[Bool.and_eq_true,decide_eq_true_eq]at this;exact this.1
 no4 a ha b hb:=by
  have:=List.all_eq_true.1 (List.all_eq_true.1 z6T a ha) b hb;simp only[Bool.and_eq_true,decide_eq_true_eq]at this;exact this.2
end Go.Am
end
section
/- Lengths of numbers in bits,and comparisons of plain values. -/
open Go
namespace Go.Am
variable {h:aA} {K:jA}
set_option maxRecDepth 20000
end Go.Am
end
section
/- Lists of strings sorted,left out: printed by program. -/
open Go
set_option linter.unusedSimpArgs false
namespace Go.Am
attribute [-go_sem] PV.cells splice
variable {h:aA} {K:jA}
end Go.Am
end
section
/- Finding values in lists: printed by program. -/
open Go
set_option linter.unusedSimpArgs false
namespace Go.Am
attribute [-go_sem] PV.cells
variable {h:aA} {K:jA}
end Go.Am
end
section
/- Limits: what they are,what is wrong with them. -/
open Go
namespace Go.Am
variable {h:aA} {K:jA}
end Go.Am
end
section
/- What is wrong with limits,both ways: printed by program. -/
open Go
set_option linter.unusedSimpArgs false
namespace Go.Am
variable {h:aA} {K:jA}
end Go.Am
end
section
/- Package lot on measured values,and what the reference says of them. -/
open Go
namespace Go.Am
variable {h:aA} {K:jA}
structure Meas (l:List Int):Prop where
 len:l.length≤5000
 bd:∀n∈l,-100000≤n∧n≤100000
theorem Meas.sum {l:List Int}(hm:Meas l)(k:Nat) : -500000000≤(l.take k).sum∧(l.take k).sum≤500000000:=by
 have:=zlp hm.bd hm.len (by omega) k
 omega
end Go.Am
end
section
/- Records: what they are,what is wrong with them. -/
open Go
set_option linter.unusedSimpArgs false
namespace Go.Am
variable {h:aA} {K:jA}
structure Rec where
 unit:List UInt8
 time:Int
 site:List UInt8
 res:List Int
end Go.Am
end
section
/- What is drawn: numbers,measured values. -/
open Go
namespace Go.Am
variable {L:List Int} {a:Int}
end Go.Am
end
section
/- Strings that are drawn. -/
open Go
set_option linter.unusedSimpArgs false
namespace Go.Am
variable {L:List Int} {a:Int} {h l:aA} {id:Nat} {K:jA}
def isS:PV→Bool
 | .str _=>true
 | _=>false
def unS:PV→List UInt8
 | .str s=>s
 | _=>[]
def qF (l:List (List UInt8))(L:List Int)(a:Int):List UInt8:=l.getD (FB L a l.length).toNat []
theorem z5j {l:List (List UInt8)}{L:List Int}{a:Int}(hl:0<l.length)(hl2:l.length<4611686018427387904):qF l L a∈l:=by
 obtain⟨b1,b2⟩:=HI L a l.length (by omega) (by omega)
 unfold qF;have:(FB L a l.length).toNat<l.length:=by omega
 simp only[List.getD,List.getElem?_eq_getElem this,Option.getD_some];exact List.getElem_mem _
theorem zl9 {xs:List PV}(h:xs.all isS=true):xs=(xs.map unS).map PV.str:=by
 induction xs with
 | nil=>rfl
 | cons x r ih=>
  simp only[List.all_cons,Bool.and_eq_true]at h;simp only[List.map_cons];rw[←ih h.2];cases x <;> first|rfl|cases h.1
theorem z4h (hp:kB 0 a)(xs:List PV)(hx:xs.all isS=true)(hl:0<xs.length)(hl2:xs.length<4611686018427387904) :
 Gen gH [.p (.sl none xs)] L a (a+1) (AS (qF (xs.map unS) L a)):=by
 refine Gen.of fun h id hid=>?_
 rw[z9P rfl];obtain⟨b1,b2⟩:=HI L a xs.length (by omega) (by omega)
 have e4:=TX (k:=.i64) b1
 have e5:xs[(FB L a xs.length).toNat]?=some (.str (qF (xs.map unS) L a)):=by
  have hm:=zl9 hx
  generalize hq:xs.map unS=q at *;subst hm;simp only[List.length_map]at *;rw[XB PV.str (show(FB L a q.length).toNat<q.length by omega)]
  simp [qF,List.getD,show(FB L a q.length).toNat<q.length by omega]
 simp only[HP,go_sem,FL hid hp,e4,e5]
theorem z6f (hid:id<h.length)(hp:kB 0 a){xs:List PV}(hx:xs.all isS=true)(hl:0<xs.length)(hl2:xs.length<4611686018427387904) :
 bA X gH [.ref id 0,.p (.sl none xs)] (h.set id (JA L a)++l) K=K (AS (qF (xs.map unS) L a)) (h.set id (JA L (a+1))++l) []:=(z4h hp xs hx hl hl2).app hid
theorem z6g (hp:kB 0 a){xs:List PV}(hx:xs.all isS=true)(hl:0<xs.length)(hl2:xs.length<4611686018427387904) :
 bA X gH [.ref 0 0,.p (.sl none xs)] (JA L a::l) K=K (AS (qF (xs.map unS) L a)) (JA L (a+1)::l) []:=(z4h hp xs hx hl hl2).hd
attribute [go_sem ↓] z6f z6g
attribute [go_sem] z6f z6g isS unS
end Go.Am
end
section
/- What is drawn: strings,limits. -/
open Go
set_option linter.unusedSimpArgs false
namespace Go.Am
variable {L:List Int} {a:Int} {h l:aA} {id:Nat} {K:jA}
end Go.Am
end
section
/- Records: what is wrong with them,both ways. -/
open Go
set_option linter.unusedSimpArgs false
namespace Go.Am
variable {h:aA} {K:jA}
def orL:List Int→Int
 | []=>0
 | x::r=>if x≠0 then x else orL r
end Go.Am
end
section
/- Sorting records: printed by program. -/
open Go
set_option linter.unusedSimpArgs false
namespace Go.Am
attribute [-go_sem] PV.cells splice
variable {h:aA} {K:jA}
end Go.Am
end
section
/- Leaving out what is alike: printed by program. -/
open Go
set_option linter.unusedSimpArgs false
namespace Go.Am
attribute [-go_sem] PV.cells splice
variable {h:aA} {K:jA}
end Go.Am
end
section
/- What is drawn: records. -/
open Go
set_option linter.unusedSimpArgs false
namespace Go.Am
variable {L:List Int} {a:Int} {h l:aA} {id:Nat} {K:jA}
theorem z1F {b:Nat}{x:Esc}(hx:∀ y∈x,b≤y.1):∀k,IB k x b=b:=by
 have hb:vD x b=b:=by
  unfold vD;induction x with
  | nil=>rfl
  | cons y r ih=>
   simp only[List.foldl_cons];rw[if_neg (by have:=hx y (by simp);omega)]
   exact ih (fun z hz=>hx z (by simp [hz]))
 intro k;induction k with
 | zero=>rfl
 | succ k ih=>unfold IB;rw[hb,ih]
theorem QL {b:Nat}{x0 x:Esc}{e:List (Nat × AV)}{h:aA}(hx:∀ y∈x,b≤y.1):PD b x0 ⟨e,h,x⟩=⟨XE b e,h.take b,x0⟩:=by
 unfold PD;simp only[z1F hx];have hc:QB x b=true:=by
  unfold QB;rw[List.all_eq_true];intro y hy;simp [hx y hy]
 have hf:x.filter (fun y=>decide (y.1<b))=[]:=by
  rw[List.filter_eq_nil_iff];intro y hy;have:=hx y hy;simp;omega
 rw[if_pos hc,hf,List.nil_append]
theorem zl6 {b i t:Nat}{x0:Esc}{e:List (Nat × AV)}{h:aA}(hi:i<b):PD b x0 ⟨e,h,[(i,t)]⟩=⟨XE (max b t) e,h.take (max b t),(i,t)::x0⟩:=by
 unfold PD;have hb:IB [(i,t)].length [(i,t)] b=max b t:=by simp [IB,vD,hi]
 simp only[hb];have hc:QB [(i,t)] (max b t)=true:=by simp [QB];omega
 have hf:[(i,t)].filter (fun y=>decide (y.1<max b t))=[(i,t)]:=by simp;omega
 rw[if_pos hc,hf];rfl
end Go.Am
end
section
/- Merging two ordered lists: by sorting and leaving out what is alike,and by looking each one up. Plain lists. -/
namespace Go.Am
variable {α:Type}
structure Ordr (c:α→α→Int):Prop where
 neg:∀a b,c b a = - c a b
 trans:∀a b d,c a b≤0→c b d≤0→c a d≤0
theorem Ordr.refl {c:α→α→Int}(o:Ordr c)(a:α):c a a=0:=by have:=o.neg a a;omega
variable {c:α→α→Int} {q:α→α→Bool} {a b:List α}
end Go.Am
end
section
/- Records alike;copies;bins. -/
open Go
set_option linter.unusedSimpArgs false
namespace Go.Am
variable {h:aA} {K:jA}
def z0f (a b:Rec):Bool:=decide (a.unit=b.unit)&&(decide (a.time=b.time)&&(decide (a.site=b.site)&&decide (a.res=b.res)))
theorem zk2 (a b:Rec):z0f a b=true↔a=b:=by
 cases a;cases b
 simp [z0f]
theorem zjK {b:Nat}{P:jA}{vs:List AV}{h:aA}{x:Esc}(hx:∀ y∈x,b≤y.1){v:AV}(h1:aB b h (jB vs)=some v)(h2:v.top≤b):wE false b P (some vs) h x=P v (h.take b) []:=by
 have e:max b v.top=b:=by omega
 have c:QB x b=true:=by
  unfold QB;rw[List.all_eq_true];intro y hy;simp [hx y hy]
 have f:x.filter (fun y=>decide (y.1<b))=[]:=by
  rw[List.filter_eq_nil_iff];intro y hy;have:=hx y hy;simp;omega
 simp only[wE,h1,e,z1F hx,c,if_true,f];exact propext ⟨fun h=>h.2,fun h=>⟨h2,h⟩⟩
theorem z5U (l:List Int)(hl:l.length≤1000):bA X dH [AL l] h K=K (AI (orL l)) h []:=by
 refine zA ?_;rw[z9C rfl];simp only[wP,go_sem];refine yB (fun k:Nat=>⟨[(5,AL l),(6,AI l.length),(7,AI k)],h,[]⟩) (fun k=>k≤l.length∧orL (l.drop k)=orL l) (fun k=>l.length-k) 0 rfl ⟨by omega,rfl⟩ ?_
 rintro k ⟨hk,hp⟩
 rcases Nat.lt_or_ge k l.length with hlt|hge
 ·have g2:=XB eI hlt
  have w2:IntKind.i64.wrap ((k:Int)+1)=((k+1:Nat):Int):=LA _ (by omega) (by omega)
  rw[List.drop_eq_getElem_cons hlt,orL]at hp;by_cases hz:l[k]=0
  ·rw[if_neg (by simp [hz])]at hp
   simp only[go_sem,hlt,g2,hz,w2];exact⟨k+1,rfl,⟨by omega,hp⟩,by omega⟩
  ·rw[if_pos hz]at hp
   simp only[go_sem,hlt,g2,hz];rw[hp]
 ·have ek:k=l.length:=by omega
  subst ek;rw[List.drop_length]at hp;simp only[go_sem,Nat.lt_irrefl];rw[←hp];rfl
end Go.Am
end
section
/- Sorting numbers: printed by program. -/
open Go
set_option linter.unusedSimpArgs false
namespace Go.Am
attribute [-go_sem] PV.cells splice
variable {h:aA} {K:jA}
end Go.Am
end
section
/- Bins,both ways;lists joined;records sorted. -/
open Go
set_option linter.unusedSimpArgs false
namespace Go.Am
variable {h:aA} {K:jA}
end Go.Am
end
section
/- Lists of records joined,compared,merged. -/
open Go
set_option linter.unusedSimpArgs false
namespace Go.Am
variable {h:aA} {K:jA}
instance:DecidableEq Rec:=fun a b=>decidable_of_iff (z0f a b=true) (zk2 a b)
end Go.Am
end
section
/- Records merged asv the reference does it. -/
open Go
set_option linter.unusedSimpArgs false
namespace Go.Am
variable {h:aA} {K:jA}
end Go.Am
end
section
/- Retests: which record of a unit counts. Plain lists;both ways yield the same. -/
set_option linter.all false
namespace Go.Am
end Go.Am
end
section
/- Lists of strings. -/
open Go
set_option linter.all false
namespace Go.Am
variable {h:aA} {K:jA}
abbrev AStr (us:List (List UInt8)):AV:=.p (.sl none (us.map PV.str))
end Go.Am
end
section
/- Tests and faults: what is wrong with them,both ways. -/
open Go
set_option linter.all false
namespace Go.Am
variable {h:aA} {K:jA}
theorem z0c (s cs:List UInt8)(hs:s.length≤1000000)(hc:cs.length≤1000)(ha:cs.all (fun b=>decide (b.toNat<128))=true):bA X tI [AS s,AS cs] h K=K (AS (PE s cs)) h []:=by
 refine PX (X:=X) (by kernel_rfl) ?_
 first|rw[show X.ex2=SF GRL PRL from rfl]|skip
 show SF GRL PRL tI [AS s,AS cs] h=some (AS (PE s cs),h,[])
 exact z4A (vs:=[.str s,.str cs]) (by kernel_rfl) (s:=trimS) (by kernel_rfl) rfl (by simp only[trimS];rw[if_pos ⟨hs,hc,ha⟩])
theorem YI (s:List UInt8)(hs:s.length≤1000000):bA X ZD [AS s] h K=K (AB (EA s)) h []:=by
 refine zA ?_;rw[z9B rfl];have e:=fun h K=>z0c (h:=h) (K:=K) s [48,49] hs (by simp) (by decide)
 have b:decide (PE s [48,49]=[])=EA s:=z6P s
 simp only[vP,go_sem,e,b]
end Go.Am
end
section
/- Faults: what is wrong with them,both ways. -/
open Go
set_option linter.all false
namespace Go.Am
variable {h:aA} {K:jA}
end Go.Am
end
section
/- Commands: what is wrong with them,on both sides. -/
open Go
set_option linter.all false
namespace Go.Am
variable {h:aA} {K:jA}
abbrev NB (c:Cmd):PV:=.agg [.int .i64 c.k,.int .i64 c.s,.int .i64 c.cl,.str c.b,.str c.w,.str c.m]
abbrev ACm (c:Cmd):AV:=.p (NB c)
structure CmdOk (c:Cmd):Prop where
 b:c.b.length≤100000
 w:c.w.length≤100000
 m:c.m.length≤100000
theorem z0d (n:Int):bA X jK [AI n] h K=K (AB (tC n)) h []:=by
 refine zA ?_;rw[zaK rfl];unfold tC;by_cases h0:n=0
 ·subst h0;simp only[XG,go_sem]
 by_cases h1:n=1
 ·subst h1;simp only[XG,go_sem]
 by_cases h2:n=6
 ·subst h2;simp only[XG,go_sem]
 by_cases h3:n=13
 ·subst h3;simp only[XG,go_sem]
 have e:(n==0||n==1||n==6||n==13)=false:=by simp [h0,h1,h2,h3]
 rw[e];simp only[XG,go_sem,h0,h1,h2,h3]
theorem ZF (n:Int):bA X tG [AI n] h K=K (AB (decide (n=7)||decide (n=8))) h []:=by
 refine zA ?_;rw[za9 rfl];by_cases h0:n=7
 ·subst h0;simp only[IJ,go_sem]
 by_cases h1:n=8
 ·subst h1;simp only[IJ,go_sem]
 simp only[IJ,go_sem,h0,h1]
theorem GG (n:Int):bA X yI [AI n] h K=K (AB (decide (1≤n)&&decide (n≤6))) h []:=by
 refine zA ?_;rw[zaA rfl];by_cases h0:n<1
 ·have:¬(1≤n):=by omega
  simp only[JJ,go_sem,sC,h0,this]
 ·have:1≤n:=by omega
  by_cases h1:6<n
  ·have h2:¬(n≤6):=by omega
   simp only[JJ,go_sem,sC,h0,this,h1,h2]
  ·have h2:n≤6:=by omega
   simp only[JJ,go_sem,sC,h0,this,h1,h2]
theorem zks (c:Cmd)(hc:CmdOk c):bA X iK [ACm c] h K=K (AI (OD c:Nat)) h []:=by
 refine zA ?_;rw[zaH rfl];have b1:=hc.b;have b2:=hc.w;have b3:=hc.m
 have k1:=fun(h':aA) (K':jA)=>YI (h:=h') (K:=K') c.b (show c.b.length≤1000000 by omega)
 have k2:=fun(h':aA) (K':jA)=>YI (h:=h') (K:=K') c.w (show c.w.length≤1000000 by omega)
 have k3:=fun(h':aA) (K':jA)=>YI (h:=h') (K:=K') c.m (show c.m.length≤1000000 by omega)
 obtain⟨k,s,cl,b,w,m⟩:=c;simp only at b1 b2 b3 k1 k2 k3;have h0:=k1;have h0':=k2;have h0'':=k3
 unfold OD;by_cases h1:b=[]
 ·simp only[XD,go_sem,h1]
 rcases hb:EA b with _|_
 ·simp only[XD,go_sem,h1,k1,hb]
 by_cases h2:2000<b.length
 ·have h2':(2000:Int)<(b.length:Int):=by omega
  simp only[XD,go_sem,h1,k1,hb,h2,h2']
 have h2':¬(2000:Int)<(b.length:Int):=by omega
 by_cases h3:w=[]
 ·subst h3
  have hbn:EA []=true:=rfl
  rcases hm:EA m with _|_
  ·simp only[XD,go_sem,h1,k1,hb,h2,h2',k2,hbn,k3,hm]
  ·by_cases h4:m=[]
   ·subst h4
    simp only[XD,go_sem,h1,k1,hb,h2,h2',k2,hbn]
   ·simp only[XD,go_sem,h1,k1,hb,h2,h2',k2,hbn,k3,hm,h4]
 by_cases h4:w.length=b.length
 ·have h4':(w.length:Int)=(b.length:Int):=by omega
  by_cases h5:m.length=b.length
  ·have h5':(m.length:Int)=(b.length:Int):=by omega
   rcases hw:EA w with _|_
   ·simp only[XD,go_sem,h1,k1,hb,h2',h3,h4',h5',k2,hw]
    simp [h1,hb,h2,h3,h4,h5,hw]
   ·rcases hm:EA m with _|_
    ·simp only[XD,go_sem,h1,k1,hb,h2',h3,h4',h5',k2,hw,k3,hm]
     simp [h1,hb,h2,h3,h4,h5,hw,hm]
    ·simp only[XD,go_sem,h1,k1,hb,h2',h3,h4',h5',k2,hw,k3,hm]
     simp [h1,hb,h2,h3,h4,h5,hw,hm]
  ·have h5':¬(m.length:Int)=(b.length:Int):=by omega
   simp only[XD,go_sem,h1,k1,hb,h2',h3,h4',h5'];simp [h1,hb,h2,h3,h4,h5]
 ·have h4':¬(w.length:Int)=(b.length:Int):=by omega
  simp only[XD,go_sem,h1,k1,hb,h2',h3,h4'];simp [h1,hb,h2,h3,h4]
end Go.Am
end
section
/- A command's fault on both sides. -/
open Go
set_option linter.all false
namespace Go.Am
variable {h:aA} {K:jA}
theorem eqs6 {k s cl k' s' cl':Int}{b w m b' w' m':List UInt8}:eqs [.int .i64 k,.int .i64 s,.int .i64 cl,.str b,.str w,.str m] [.int .i64 k',.int .i64 s',.int .i64 cl',.str b',.str w',.str m']=some (decide ((⟨k,s,cl,b,w,m⟩:Cmd)=⟨k',s',cl',b',w',m'⟩)):=by
 by_cases e1:k=k' <;> by_cases e2:s=s' <;> by_cases e3:cl=cl' <;> by_cases e4:b=b' <;> by_cases e5:w=w' <;> by_cases e6:m=m' <;> simp [eqs,PV.eq1,e1,e2,e3,e4,e5,e6]
def qK (c:Cmd):Nat:=
 if c.k=1∨c.k=2∨c.k=10 then(if !tC c.s then 1 else 0)
 else if c.k=9 then(if c.cl<0∨20000<c.cl then 1 else 0)
 else if c.k=7∨c.k=8 then OD c
 else(if !EA c.b then 9 else if 2000<c.b.length then 2 else 0)
def ZL (c:Cmd):Cmd:=
 if c.k=1∨c.k=2∨c.k=10 then { c with s:=0 }
 else if c.k=9 then { c with cl:=0 }
 else if c.k=7∨c.k=8 then { c with b:=[],w:=[],m:=[] }
 else { c with b:=[] }
theorem zbg {c:Cmd}(h:1≤c.k∧c.k≤10):NA c=if qK c≠0 then qK c else if ZL c=⟨c.k,0,0,[],[],[]⟩ then 0 else 3:=by
 obtain⟨k,s,cl,b,w,m⟩:=c;unfold NA qK ZL;dsimp only at h ⊢;by_cases h1:k=1∨k=2∨k=10
 ·simp only[if_pos h1]
  rcases tC s with _|_ <;> simp [Cmd.mk.injEq]
 simp only[if_neg h1];by_cases h2:k=9
 ·simp only[if_pos h2]
  by_cases h3:cl<0∨20000<cl <;> simp [h3,Cmd.mk.injEq]
 simp only[if_neg h2];by_cases h3:k=7∨k=8
 ·simp only[if_pos h3]
  by_cases h4:OD ⟨k,s,cl,b,w,m⟩=0 <;> simp [h4,Cmd.mk.injEq]
 simp only[if_neg h3];rw[if_pos (by omega)]
 rcases EA b with _|_
 ·simp
 ·by_cases h4:2000<b.length <;> simp [h4,Cmd.mk.injEq]
theorem zbh {c:Cmd}(h:¬ (1≤c.k∧c.k≤10)):NA c=4:=by
 unfold NA;rw[if_neg (by omega),if_neg (by omega),if_neg (by omega),if_neg (by omega)]
theorem rE (n:Nat):n+1+1=n+2:=rfl
set_option maxHeartbeats 4000000 in
theorem zkl (c:Cmd)(hc:CmdOk c):bA X dK [ACm c] h K=K (.tup [ACm (ZL c),AI (qK c:Nat)]) h []:=by
 refine zA ?_;rw[zaB rfl];have b1:=hc.b;have b2:=hc.w;have b3:=hc.m
 have k1:=fun(h':aA) (K':jA)=>YI (h:=h') (K:=K') c.b (show c.b.length≤1000000 by omega)
 have k2:=fun(h':aA) (K':jA)=>zks (h:=h') (K:=K') c hc
 obtain⟨k,s,cl,b,w,m⟩:=c;simp only at b1 b2 b3 k1 k2;unfold qK ZL;dsimp only;by_cases h1:k=1
 ·rcases hs:tC s with _|_ <;> (simp only[WD,go_sem,rE,h1,z0d,hs];simp [h1,hs])
 by_cases h2:k=2
 ·rcases hs:tC s with _|_ <;> (simp only[WD,go_sem,rE,h1,h2,z0d,hs];simp [h1,h2,hs])
 by_cases h3:k=10
 ·rcases hs:tC s with _|_ <;> (simp only[WD,go_sem,rE,h1,h2,h3,z0d,hs];simp [h1,h2,h3,hs])
 by_cases h4:k=9
 ·by_cases g1:cl<0
  ·(simp only[WD,go_sem,rE,h1,h2,h3,h4,sC,g1];simp [h1,h2,h3,h4,g1])
  ·by_cases g2:20000<cl
   ·(simp only[WD,go_sem,rE,h1,h2,h3,h4,sC,g1,g2];simp [h1,h2,h3,h4,g1,g2])
   ·(simp only[WD,go_sem,rE,h1,h2,h3,h4,sC,g1,g2];simp [h1,h2,h3,h4,g1,g2])
 by_cases h5:k=7
 ·subst h5
  (simp only[WD,go_sem,rE,ZF,k2];simp [rE])
 by_cases h6:k=8
 ·subst h6
  (simp only[WD,go_sem,rE,ZF,k2];simp [rE])
 rcases hb:EA b with _|_
 ·(simp only[WD,go_sem,rE,h1,h2,h3,h4,h5,h6,ZF,k1,hb];simp [h1,h2,h3,h4,h5,h6,hb])
 ·by_cases h7:2000<b.length
  ·have h7':(2000:Int)<(b.length:Int):=by omega
   (simp only[WD,go_sem,rE,h1,h2,h3,h4,h5,h6,ZF,k1,hb,h7,h7'];simp [h1,h2,h3,h4,h5,h6,hb,h7])
  ·have h7':¬(2000:Int)<(b.length:Int):=by omega
   (simp only[WD,go_sem,rE,h1,h2,h3,h4,h5,h6,ZF,k1,hb,h7,h7'];simp [h1,h2,h3,h4,h5,h6,hb,h7])
end Go.Am
end
section
/- Lists of faults: what is wrong with them,both ways. -/
open Go
set_option linter.all false
namespace Go.Am
variable {h:aA} {K:jA}
end Go.Am
end
section
/- Rows of a test asv numbers. -/
open Go
set_option linter.all false
namespace Go.Am
variable {h:aA} {K:jA}
end Go.Am
end
section
/- Faults on rows: what the program makes of them. -/
open Go
set_option linter.all false
namespace Go.Am
variable {h:aA} {K:jA}
end Go.Am
end
section
/- Rows that are handed tov a function: it sees their values. -/
open Go
namespace Go.Am
theorem rV {X:Ctx}{f:Nat}{F:AFun}{a:List AV}{vs:List PV}{h h1:aA}{P:jA}(hf:X.fn f=some F)(hr:F.byref=false)(hp:oA h a=some (vs.map .p,h1))(hq:oA h1 (vs.map .p)=some (vs.map .p,h1))(hl:vs.length=F.nparams)(hlen:h1.length=h.length):bA X f a h P=bA X f (vs.map .p) h1 P:=by
 cases hd:F.isDet with
 | false=>rw[AA hf hr hp (by simpa using hl) hd,AA hf hr hq (by simpa using hl) hd,hlen]
 | true=>rw[TH hf hr hp (by simpa using hl) hd,TH hf hr hq (by simpa using hl) hd,hlen]
theorem EX {h:aA}{id k:Nat}:(frz h id k).length=h.length:=by
 unfold frz;split <;> simp
end Go.Am
end
section
/- Responses,asv the program computes them. -/
open Go
set_option linter.all false
namespace Go.Am
variable {h:aA} {K:jA}
end Go.Am
end
section
/- Sorting the middle of a row: printed by program. -/
open Go
set_option linter.unusedSimpArgs false
namespace Go.Am
attribute [-go_sem] PV.cells splice
variable {h:aA} {K:jA}
end Go.Am
end
section
/- What is drawn: orders,tests. -/
open Go
set_option linter.all false
namespace Go.Am
variable {L:List Int} {a:Int} {h l:aA} {id:Nat} {K:jA}
def GenK (f:Nat)(args:List AV)(L:List Int)(a:Int)(sh:Sh)(Q:List PV→Int→Prop):Prop:=∀(h:aA) (id:Nat),h[id]?=some (JA L a)→∃xs a2,Q xs a2∧∀K:jA,bA X f (.ref id 0::args) h K=K (.own h.length xs.length 0 xs.length) (h.set id (JA L a2)++[.row sh xs 0]) []
theorem GenK.of {f:Nat}{args:List AV}{L:List Int}{a:Int}{sh:Sh}{Q:List PV→Int→Prop}(H:∀ (h:aA) (id:Nat),id<h.length→bA X f (.ref id 0::args) (h.set id (JA L a)) fun v1 h1 x1=>∃ xs a2,Q xs a2∧v1 = .own h.length xs.length 0 xs.length∧h1=h.set id (JA L a2)++[.row sh xs 0]∧x1=[]):GenK f args L a sh Q:=by
 intro h id hh;have hid:=gR hh
 have k:=H h id hid
 rw[zkI hh]at k;obtain⟨v,h',x,⟨xs,a2,q,e0,e1,e2⟩,r⟩:=bA.one cU k;subst e0;subst e1;subst e2
 exact⟨xs,a2,q,r⟩
theorem z6e (s:List UInt8)(c:Int)(h0:0≤c)(hc:s.length*c.toNat≤1000000)(h1:c≤1000000):bA X MA [AS s,AI c] h K=K (AS (yH s c.toNat)) h []:=by
 refine PX (X:=X) (by kernel_rfl) ?_
 first|rw[show X.ex2=SF GRL PRL from rfl]|skip
 show SF GRL PRL MA [AS s,AI c] h=some (AS (yH s c.toNat),h,[])
 exact z4A (vs:=[.str s,.int .i64 c]) (by kernel_rfl) (s:=yL) (by kernel_rfl) rfl (by simp only[yL];rw[if_pos ⟨h0,hc,h1⟩])
end Go.Am
end
section
/- The reference: what is expected,the part of a command. -/
open Go
set_option linter.all false
namespace Go.Am
variable {h:aA} {K:jA}
theorem OZ (c:UInt8):∀n,yH [c] n=List.replicate n c
 | 0=>rfl
 | n+1=>by rw[yH,OZ c n];rfl
theorem ZI (n:Int)(h0:0≤n)(h1:n≤1000000):bA X MA [AS [48],AI n] h K=K (AS (zs n.toNat)) h []:=by
 rw[z6e [48] n h0 (by simp;omega) h1,OZ];rfl
abbrev ACs (l:List Cmd):AV:=.p (.sl (some 6) (l.map NB))
structure SetOk (pre:List Cmd):Prop where
 s1:tC (BA pre 1).s=true
 s2:tC (BA pre 2).s=true
 b1:∀k,3≤k→k≤6→EA (BA pre k).b=true∧(BA pre k).b.length≤2000
attribute [-go_sem] OA
variable {Kx:Ex→St→Prop}
end Go.Am
end
section
/- A new chain: the program. -/
open Go
set_option linter.all false
set_option maxRecDepth 100000
namespace Go.Am
variable {h:aA} {K:jA}
attribute [-go_sem] OA DB LB
structure PortS where
 d:TDev
 p:PA
 mi:SM
 mo:SM
def dvH (b:Nat):List PortS→List Obj
 | []=>[]
 | q::r=>.box (JB q.d)::FA PV.str oB q.mi::FA PV.str oB q.mo :: .box (YB q.d q.p (b+1) (b+2))::dvH (b+4) r
theorem fF:∀ (l:List PortS) (b:Nat),(dvH b l).length=4*l.length
 | [],_=>rfl
 | q::r,b=>by simp only[dvH,List.length_cons,fF r];omega
theorem z2j (q:PortS):∀(l:List PortS) (b:Nat),dvH b (l++[q])=dvH b l++[.box (JB q.d),FA PV.str oB q.mi,FA PV.str oB q.mo,.box (YB q.d q.p (b+4*l.length+1) (b+4*l.length+2))]
 | [],b=>rfl
 | a::r,b=>by
  have e:b+4+4*r.length=b+4*(a::r).length:=by simp only[List.length_cons];omega
  simp only[List.cons_append,dvH,z2j q r (b+4),e]
theorem z2g {q:PortS}:∀{l:List PortS} {b i:Nat},l[i]?=some q→(dvH b l)[4*i+3]?=some (.box (YB q.d q.p (b+4*i+1) (b+4*i+2)))
 | [],b,i,h=>by simp at h
 | a::r,b,0,h=>by simp at h;subst h;rfl
 | a::r,b,i+1,h=>by
  have e1:4*(i+1)+3=(4*i+3)+4:=by omega
  have e2:b+4*(i+1)=b+4+4*i:=by omega
  rw[e1,e2];exact z2g (l:=r) (b:=b+4) (i:=i) (by simpa using h)
theorem z2e {q:PortS}:∀{l:List PortS} {b i:Nat},l[i]?=some q→(dvH b l)[4*i+1]?=some (FA PV.str oB q.mi)
 | [],b,i,h=>by simp at h
 | a::r,b,0,h=>by simp at h;subst h;rfl
 | a::r,b,i+1,h=>by
  have e1:4*(i+1)+1=(4*i+1)+4:=by omega
  rw[e1];exact z2e (l:=r) (b:=b+4) (i:=i) (by simpa using h)
theorem z2f {q:PortS}:∀{l:List PortS} {b i:Nat},l[i]?=some q→(dvH b l)[4*i+2]?=some (FA PV.str oB q.mo)
 | [],b,i,h=>by simp at h
 | a::r,b,0,h=>by simp at h;subst h;rfl
 | a::r,b,i+1,h=>by
  have e1:4*(i+1)+2=(4*i+2)+4:=by omega
  rw[e1];exact z2f (l:=r) (b:=b+4) (i:=i) (by simpa using h)
theorem z2i {q:PortS}{p:PA}:∀{l:List PortS} {b i:Nat},l[i]?=some q→(dvH b l).set (4*i+3) (.box (YB q.d p (b+4*i+1) (b+4*i+2)))=dvH b (l.set i { q with p:=p })
 | [],b,i,h=>by simp at h
 | a::r,b,0,h=>by simp at h;subst h;rfl
 | a::r,b,i+1,h=>by
  have e1:4*(i+1)+3=(4*i+3)+4:=by omega
  have e2:b+4*(i+1)=b+4+4*i:=by omega
  rw[e1,e2];have:=z2i (p:=p) (l:=r) (b:=b+4) (i:=i) (by simpa using h)
  simp only[dvH,List.set_cons_succ,this]
theorem z2h {q:PortS}{m:SM}:∀{l:List PortS} {b i:Nat},l[i]?=some q→(dvH b l).set (4*i+2) (FA PV.str oB m)=dvH b (l.set i { q with mo:=m })
 | [],b,i,h=>by simp at h
 | a::r,b,0,h=>by simp at h;subst h;rfl
 | a::r,b,i+1,h=>by
  have e1:4*(i+1)+2=(4*i+2)+4:=by omega
  rw[e1];have:=z2h (m:=m) (l:=r) (b:=b+4) (i:=i) (by simpa using h)
  simp only[dvH,List.set_cons_succ,this]
def bD (b n:Nat):List AV:=(List.range n).map fun i=>.ref (b+4*i+3) 0
theorem z5x {b n:Nat}:(bD b n).length=n:=by simp [bD]
theorem zj3 {b n:Nat}:bD b (n+1)=bD b n++[.ref (b+4*n+3) 0]:=by simp [bD,List.range_succ]
theorem zj2 {b n i:Nat}(hi:i<n):(bD b n)[i]?=some (.ref (b+4*i+3) 0):=by simp [bD,hi]
def CH (h:aA)(st:Int)(l:List PortS)(t:aA):aA:=h++(.arow none (bD (h.length+2) l.length) :: .box [AI st,.bt 3 0 h.length l.length]::(dvH (h.length+2) l++t))
def YC (d:TDev):List TReg→SM→SM
 | [],m=>m
 | r::rs,m=>YC d rs (vB r.name (zs r.long.toNat) m)
theorem fR {k j:List UInt8}{v:List UInt8}:∀(m:SM),TA j (vB k v m)=if j=k then some v else TA j m
 | []=>by
  unfold vB TA;by_cases h:j=k
  ·simp [h]
  ·simp [h,TA]
 | e::r=>by
  unfold vB;by_cases h1:k=e.1
  ·rw[if_pos h1]
   unfold TA;by_cases h2:j=k
   ·simp [h2]
   ·have:¬j=e.1:=fun q=>h2 (by rw[q,h1])
    simp [h2,this]
  ·rw[if_neg h1]
   unfold TA;by_cases h2:j=e.1
   ·have:¬j=k:=fun q=>h1 (by rw[←q,h2])
    simp [h2,this];intro q;exact absurd q.symm h1
   ·rw[if_neg h2,if_neg h2]
    exact fR r
theorem z4x (d:TDev):∀(rs:List TReg) (m:SM) (k:List UInt8),(∀r∈rs,r.name≠k)→TA k (YC d rs m)=TA k m
 | [],m,k,_=>rfl
 | r::rs,m,k,h=>by
  unfold YC;rw[z4x d rs _ k fun x hx=>h x (List.mem_cons_of_mem _ hx),fR,if_neg fun e=>h r List.mem_cons_self e.symm]
theorem z4y (d:TDev):∀(rs:List TReg) (m:SM),(rs.map TReg.name).Nodup→∀r∈rs,TA r.name (YC d rs m)=some (zs r.long.toNat)
 | [],m,_,r,hr=>by cases hr
 | a::rs,m,h,r,hr=>by
  rw[List.map_cons,List.nodup_cons]at h;unfold YC;rcases List.mem_cons.1 hr with e|e
  ·subst e
   rw[z4x d rs _ r.name fun x hx e=>h.1 (e ▸ List.mem_map_of_mem hx),fR,if_pos rfl]
  ·exact z4y d rs _ h.2 r e
def IE (d:TDev):PortS:=⟨d,([],[48]),YC d d.regs [],YC d d.regs []⟩
def qG (h:aA):Nat→Esc
 | 0=>[]
 | n+1=>(h.length,h.length+(2+4*(n+1)))::qG h n
end Go.Am
end
section
/- What a scope leaves behind when rows made in it are named by one map. -/
open Go
set_option linter.all false
namespace Go.Am
theorem z1v (mid:Nat):∀(X:Esc) (m:Nat),(∀y∈X,y.1=mid)→mid<m→m≤vD X m∧(∀y∈X,y.2≤vD X m)∧∀B,m≤B→(∀y∈X,y.2≤B)→vD X m≤B
 | [],m,_,_=>⟨Nat.le_refl _,fun _ h=>(by cases h),fun B h _=>h⟩
 | y::r,m,hX,hm=>by
  have e:vD (y::r) m=vD r (max m y.2):=by
   unfold vD;rw[List.foldl_cons,if_pos (by rw[hX y (by simp)];exact hm)]
  obtain⟨h1,h2,h3⟩:=z1v mid r (max m y.2) (fun z hz=>hX z (by simp [hz])) (by omega)
  rw[e];refine⟨by omega,fun z hz=>?_,fun B hB hy=>h3 B (by have:=hy y (by simp);omega) fun z hz=>hy z (by simp [hz])⟩
  rcases List.mem_cons.1 hz with e|hz
  ·rw[e];omega
  ·exact h2 z hz
theorem z1E (mid:Nat):∀(k:Nat) (X:Esc) (m:Nat),(∀y∈X,y.1=mid)→mid<m→m≤IB k X m∧(k≠0→∀y∈X,y.2≤IB k X m)∧∀B,m≤B→(∀y∈X,y.2≤B)→IB k X m≤B
 | 0,X,m,_,_=>⟨Nat.le_refl _,fun h=>absurd rfl h,fun B h _=>h⟩
 | k+1,X,m,hX,hm=>by
  obtain⟨b1,b2,b3⟩:=z1v mid X m hX hm;obtain⟨c1,_,c3⟩:=z1E mid k X (vD X m) hX (by omega)
  show m≤IB k X (vD X m)∧(_→∀y∈X,y.2≤IB k X (vD X m))∧∀B,m≤B→(∀y∈X,y.2≤B)→IB k X (vD X m)≤B
  exact⟨by omega,fun _ y hy=>by have:=b2 y hy;omega,fun B hB hy=>c3 B (b3 B hB hy) hy⟩
theorem zbb {X:Esc}{mid b L:Nat}(hX:∀ y∈X,y.1=mid∧y.2≤L)(hm:mid<b)(hb:b≤L):∃n,IB X.length X b=n∧b≤n∧n≤L∧(∀y∈X,y.2≤n)∧QB X n=true∧X.filter (fun y=>decide (y.1<n))=X:=by
 obtain⟨c1,c2,c3⟩:=z1E mid X.length X b (fun y hy=>(hX y hy).1) hm
 have c3':=c3 L hb fun y hy=>(hX y hy).2
 have c2':∀y∈X,y.2≤IB X.length X b:=by
  cases X with
  | nil=>intro y hy;cases hy
  | cons z r=>exact c2 (by simp)
 refine⟨_,rfl,c1,c3',c2',?_,?_⟩
 ·unfold QB
  rw[List.all_eq_true];intro y hy;have:=c2' y hy;simp [this]
 ·rw[List.filter_eq_self]
  intro y hy;have:=(hX y hy).1;simp only[decide_eq_true_eq];omega
end Go.Am
end
section
/- A new chain: the program,walked. -/
open Go
set_option linter.all false
set_option maxRecDepth 100000
namespace Go.Am
variable {h:aA} {K:jA}
attribute [-go_sem] OA DB LB
theorem LH {st:Int}{l:List PortS}{t:aA}:(CH h st l t).length=h.length+(2+4*l.length)+t.length:=by
 unfold CH;simp only[List.length_append,List.length_cons,fF];omega
theorem YT {st:Int}{l:List PortS}{t u:aA}:CH h st l t++u=CH h st l (t++u):=by unfold CH;simp
theorem CH_0 {st:Int}{l:List PortS}{t:aA}:(CH h st l t)[h.length]?=some (.arow none (bD (h.length+2) l.length)):=by unfold CH;rw[z1h];rfl
theorem CH_1 {st:Int}{l:List PortS}{t:aA}:(CH h st l t)[h.length+1]?=some (.box [AI st,.bt 3 0 h.length l.length]):=by unfold CH;rw[DD];rfl
theorem CH_t {st:Int}{l:List PortS}{t:aA}{n:Nat}:(CH h st l t)[h.length+(2+4*l.length)+n]?=t[n]?:=by
 unfold CH;have e:h.length+(2+4*l.length)+n=h.length+(2+(4*l.length+n)):=by omega
 rw[e,DD];have e2:2+(4*l.length+n)=(4*l.length+n)+1+1:=by omega
 rw[e2,List.getElem?_cons_succ,List.getElem?_cons_succ];have:=DD (dvH (h.length+2) l) t n;rw[fF]at this;exact this
theorem ZT {st:Int}{l:List PortS}{t:aA}{n:Nat}{o:Obj}:(CH h st l t).set (h.length+(2+4*l.length)+n) o=CH h st l (t.set n o):=by
 unfold CH;have e:h.length+(2+4*l.length)+n=h.length+(2+(4*l.length+n)):=by omega
 rw[e,FF];have e2:2+(4*l.length+n)=(4*l.length+n)+1+1:=by omega
 rw[e2,List.set_cons_succ,List.set_cons_succ];have:=FF (dvH (h.length+2) l) t n o;rw[fF]at this;rw[this]
theorem z07 {st:Int}{l:List PortS}{t:aA}{n:Nat}:(CH h st l t).take (h.length+(2+4*l.length)+n)=CH h st l (t.take n):=by
 unfold CH;have e:h.length+(2+4*l.length)+n=h.length+(2+(4*l.length+n)):=by omega
 rw[e,PH];have e2:2+(4*l.length+n)=(4*l.length+n)+1+1:=by omega
 rw[e2,List.take_succ_cons,List.take_succ_cons];have:=PH (dvH (h.length+2) l) t n;rw[fF]at this;rw[this]
theorem zlC {k v:List UInt8}:∀(m:SM),(TA k (vB k v m)).getD []=v:=fun m=>by rw[fR,if_pos rfl];rfl
attribute [-go_sem] LM TG
theorem zfS {g:aA}{d:TDev}{pid mi mo:Nat}(D:DevOk d)(k:Nat)(m:SM)(hk:k<d.regs.length)
 (h1:g[pid]?=some (.box (YB d ([],[48]) mi mo))) (h2:g[mi]?=some (FA PV.str oB m)) (h3:g[mo]?=some (FA PV.str oB m)) (hne:mi≠mo) (hn1:pid≠mi) (hn2:pid≠mo) {v5 v18 v19 v20:AV} {x:Esc} {Kx:Ex→St→Prop} :
 (TG (bA X) X.gl [(5,v5),(8,.ref pid 0),(18,v18),(19,v19),(20,v20),(38,.p (.sl (some 2) (d.regs.map uA))),(39,AI d.regs.length),(40,AI k)] g x Kx).1 =
  Kx .normal ⟨[(5,v5),(8,.ref pid 0),(18,v18),(19,v19),(20,v20),(38,.p (.sl (some 2) (d.regs.map uA))),(39,AI d.regs.length),(40,AI ((k+1:Nat):Int))],((g.set mi (FA PV.str oB (vB d.regs[k].name (zs d.regs[k].long.toNat) m))).set mo (FA PV.str oB (vB d.regs[k].name (zs d.regs[k].long.toNat) m)))++[.box [AS d.regs[k].name,AI d.regs[k].long]],x⟩:=by
 have hg:=XB uA hk
 have w2:IntKind.i64.wrap ((k:Int)+1)=((k+1:Nat):Int):=LA _ (by have:=D.rn;omega) (by have:=D.rn;omega)
 have hrl:=D.rl _ (List.getElem_mem hk)
 have cx:lB (some 2) 0 (uA d.regs[k])=some (uA d.regs[k]):=rfl
 have fp:∀y:TReg,uA y = .agg [.str y.name,eI y.long]:=fun _=>rfl
 have hlt:(k:Int)<(d.regs.length:Int):=by omega
 generalize d.regs[k]=r at *;rw[fp]at hg cx;have lp:pid<g.length:=by rcases Nat.lt_or_ge pid g.length with q|q;exact q;rw[List.getElem?_eq_none q]at h1;cases h1
 have li:mi<g.length:=by rcases Nat.lt_or_ge mi g.length with q|q;exact q;rw[List.getElem?_eq_none q]at h2;cases h2
 have lo:mo<g.length:=by rcases Nat.lt_or_ge mo g.length with q|q;exact q;rw[List.getElem?_eq_none q]at h3;cases h3
 have a1:∀l:aA,(g++l)[pid]?=some (.box (YB d ([],[48]) mi mo)):=fun l=>by rw[List.getElem?_append_left lp];exact h1
 have rz:=fun h K=>ZI (h:=h) (K:=K) r.long (by omega) (by omega)
 generalize hz:zs r.long.toNat=z at *;have hm1:∀l:aA,LB (none,[2]) (.mp mi) (AS r.name) (AS z) (g++l)=some (.und,(g.set mi (FA PV.str oB (vB r.name z m)))++l,[]):=fun l=>by
  rw[z0t (by rw[List.getElem?_append_left li];exact h2),List.set_append_left _ _ li]
 have b1:∀l:aA,(g.set mi (FA PV.str oB (vB r.name z m))++l)[pid]?=some (.box (YB d ([],[48]) mi mo)):=fun l=>by
  rw[List.getElem?_append_left (by simpa using lp),List.getElem?_set_ne (Ne.symm hn1)];exact h1
 have lk:∀l:aA,DB (none,[2]) false (.p (.str [])) (.mp mi) (AS r.name) (g.set mi (FA PV.str oB (vB r.name z m))++l)=some (AS z):=fun l=>by
  rw[z4E (m:=vB r.name z m) (by rw[List.getElem?_append_left (by simpa using li),List.getElem?_set_self li]),zlC]
 have hm2:∀l:aA,LB (none,[2]) (.mp mo) (AS r.name) (AS z) (g.set mi (FA PV.str oB (vB r.name z m))++l)=some (.und,((g.set mi (FA PV.str oB (vB r.name z m))).set mo (FA PV.str oB (vB r.name z m)))++l,[]):=fun l=>by
  rw[z0t (m:=m) (by rw[List.getElem?_append_left (by simpa using lo),List.getElem?_set_ne hne];exact h3),List.set_append_left _ _ (by simpa using lo)]
 have p7:∀y:PA,ldB none 7 (some (.box (YB d y mi mo)))=some (.mp mi):=fun _=>rfl
 have p8:∀y:PA,ldB none 8 (some (.box (YB d y mi mo)))=some (.mp mo):=fun _=>rfl
 have i1:mi≠g.length:=by omega
 have i2:mo≠g.length:=by omega
 simp only[TG,go_sem,hlt,hg,cx,fp,w2,a1,p7,p8,↓rz,rz,hm1,b1,lk,hm2,splice]
end Go.Am
end
section
/- A new chain: the program,walked tov its end. -/
open Go
set_option linter.all false
set_option maxRecDepth 100000
namespace Go.Am
variable {h:aA} {K:jA}
attribute [-go_sem] OA DB LB
attribute [-go_sem] LM TG TW qM UW rM KQ CJ VW sM
def xB (ds:List TDev)(k:Nat):List PortS:=(ds.take k).map IE
theorem z4Q {ds:List TDev}{k:Nat}(hk:k≤ds.length):(xB ds k).length=k:=by simp [xB];omega
theorem zfO {ds:List TDev}{k:Nat}(hk:k<ds.length):xB ds (k+1)=xB ds k++[IE ds[k]]:=by
 unfold xB;rw[List.take_succ_eq_append_getElem hk,List.map_append];rfl
theorem z7w {st:Int}{l:List PortS}{q:PortS}:CH h st (l++[q]) []=h++(.arow none (bD (h.length+2) (l.length+1)) :: .box [AI st,.bt 3 0 h.length (l.length+1)]::(dvH (h.length+2) l++[.box (JB q.d),FA PV.str oB q.mi,FA PV.str oB q.mo,.box (YB q.d q.p (h.length+2+4*l.length+1) (h.length+2+4*l.length+2))])):=by
 unfold CH;rw[z2j,List.length_append];simp
theorem z4z (d:TDev)(r:TReg):∀(rs:List TReg) (m:SM),YC d (rs++[r]) m=vB r.name (zs r.long.toNat) (YC d rs m)
 | [],m=>rfl
 | a::rs,m=>z4z d r rs _
theorem zfR {st:Int}{l:List PortS}{d:TDev}(D:DevOk d){a b c:PV}{x:Esc}{Kx:Ex→St→Prop}
 (hK:Kx .normal ⟨[(5,.ref (h.length+1) 0),(8,.ref (h.length+(2+4*l.length)+3) 0),(18,.p a),(19,.p b),(20,.p c),(38,.p (.sl (some 2) (d.regs.map uA))),(39,AI d.regs.length),(40,AI d.regs.length),(41,AB false)],CH h st l [.box (JB d),FA PV.str oB (YC d d.regs []),FA PV.str oB (YC d d.regs []),.box (YB d ([],[48]) (h.length+(2+4*l.length)+1) (h.length+(2+4*l.length)+2))],x⟩) :
 ZA (bA X) X.gl (.scope MI) (ED 2 Kx) [(5,.ref (h.length+1) 0),(8,.ref (h.length+(2+4*l.length)+3) 0),(18,.p a),(19,.p b),(20,.p c),(38,.p (.sl (some 2) (d.regs.map uA))),(39,AI d.regs.length),(40,AI 0)] (CH h st l [.box (JB d),FA PV.str oB [],FA PV.str oB [],.box (YB d ([],[48]) (h.length+(2+4*l.length)+1) (h.length+(2+4*l.length)+2))]) x:=by
 obtain⟨P,hP⟩:∃P,P=h.length+(2+4*l.length):=⟨_,rfl⟩;rw[←hP]at hK ⊢;have gl:∀t:aA,(CH h st l t).length=P+t.length:=fun t=>by rw[LH,hP]
 have gg:∀(t:aA) (n:Nat),(CH h st l t)[P+n]?=t[n]?:=fun t n=>by rw[hP];exact CH_t
 have gs:∀(t:aA) (n:Nat) (o:Obj),(CH h st l t).set (P+n) o=CH h st l (t.set n o):=fun t n o=>by rw[hP];exact ZT
 have gk:∀(t:aA) (n:Nat),(CH h st l t).take (P+n)=CH h st l (t.take n):=fun t n=>by rw[hP];exact z07
 refine yB (fun j:Nat=>⟨[(5,.ref (h.length+1) 0),(8,.ref (P+3) 0),(18,.p a),(19,.p b),(20,.p c),(38,.p (.sl (some 2) (d.regs.map uA))),(39,AI d.regs.length),(40,AI j)],
  CH h st l [.box (JB d),FA PV.str oB (YC d (d.regs.take j) []),FA PV.str oB (YC d (d.regs.take j) []),.box (YB d ([],[48]) (P+1) (P+2))],x⟩) (fun j=>j≤d.regs.length) (fun j=>d.regs.length-j) 0 rfl (by omega) ?_
 intro j hj;have hP1:h.length+1≤P+4:=by omega
 have hP2:h.length≤P+2:=by omega
 rw[CF];rcases Nat.lt_or_ge j d.regs.length with hlt|hge
 ·rw[LM,zfS (pid:=P+3) (mi:=P+1) (mo:=P+2) D j (YC d (d.regs.take j) []) hlt (by rw[gg];rfl) (by rw[gg];rfl) (by rw[gg];rfl) (by omega) (by omega) (by omega)]
  have em:YC d (d.regs.take (j+1)) []=vB d.regs[j].name (zs d.regs[j].long.toNat) (YC d (d.regs.take j) []):=by
   rw[List.take_succ_eq_append_getElem hlt,z4z]
  rw[←em,gs,gs,YT];simp only[go_sem,gl,gk,hP1,hP2,List.length_cons,List.length_nil];exact⟨j+1,rfl,by omega,by omega⟩
 ·have ej:j=d.regs.length:=by omega
  subst ej;rw[List.take_length];rw[LM];simp only[TG,go_sem,Nat.lt_irrefl,gl,gk,hP1,hP2,List.length_cons,List.length_nil];exact hK
def CR (h:aA)(a b:Obj)(l:List PortS)(t:aA):aA:=h++(a::b::(dvH (h.length+2) l++t))
theorem CH_R {st:Int}{l:List PortS}{t:aA}:CH h st l t=CR h (.arow none (bD (h.length+2) l.length)) (.box [AI st,.bt 3 0 h.length l.length]) l t:=rfl
theorem CR_1 {a b:Obj}{l:List PortS}{t:aA}:(CR h a b l t)[h.length+1]?=some b:=by unfold CR;rw[DD];rfl
theorem CR_s0 {a b o:Obj}{l:List PortS}{t:aA}:(CR h a b l t).set h.length o=CR h o b l t:=by unfold CR;rw[z1i];rfl
theorem z08 {a b o:Obj}{l:List PortS}{t:aA}:(CR h a b l t).set (h.length+1) o=CR h a o l t:=by unfold CR;rw[FF];rfl
theorem z7y {a b:Obj}{l:List PortS}{t:aA}{n:Nat}:(CR h a b l t).take (h.length+(2+4*l.length)+n)=CR h a b l (t.take n):=by
 unfold CR;have e:h.length+(2+4*l.length)+n=h.length+(2+(4*l.length+n)):=by omega
 rw[e,PH];have e2:2+(4*l.length+n)=(4*l.length+n)+1+1:=by omega
 rw[e2,List.take_succ_cons,List.take_succ_cons];have:=PH (dvH (h.length+2) l) t n;rw[fF]at this;rw[this]
theorem z7x {l:List PortS}{d:TDev}{P:Nat}(hP:P=h.length+(2+4*l.length)):CR h (.arow none (bD (h.length+2) l.length++[.ref (P+3) 0])) (.box [AI 0,.bt 3 0 h.length (l.length+1)]) l [.box (JB d),FA PV.str oB (YC d d.regs []),FA PV.str oB (YC d d.regs []),.box (YB d ([],[48]) (P+1) (P+2))]=CH h 0 (l++[IE d]) []:=by
 subst hP;have e1:h.length+(2+4*l.length)+3=h.length+2+4*l.length+3:=by omega
 have e2:h.length+(2+4*l.length)+1=h.length+2+4*l.length+1:=by omega
 have e3:h.length+(2+4*l.length)+2=h.length+2+4*l.length+2:=by omega
 rw[z7w,e1,e2,e3,zj3];rfl
theorem zjL {L:Nat}{P:jA}{x:Esc}(hx:∀ y∈x,y.1=h.length∧y.2≤L)(hL:(h.length,L)∈x){H:aA}(hH:H.length=L)(h2:h.length+2≤L)(k:P (.tup [.ref (h.length+1) 0,AI 0]) H x):wE false h.length P (some [.ref (h.length+1) 0,AI 0]) H x:=by
 have ht:(AV.tup [.ref (h.length+1) 0,AI 0]).top=h.length+2:=by simp [AV.top,AV.tops]
 have hmx:max h.length (h.length+2)=h.length+2:=by omega
 subst hH;obtain⟨n,c0,c1,c2,c3,c4,c5⟩:=zbb (b:=h.length+2) (mid:=h.length) (L:=H.length) hx (by omega) h2
 have en:n=H.length:=by have:=c3 _ hL;dsimp only at this;omega
 subst en;have e:∀m,aB m H (jB [.ref (h.length+1) 0,AI 0])=some (.tup [.ref (h.length+1) 0,AI 0]):=fun m=>by
  simp only[go_sem]
 unfold wE;dsimp only;rw[e];dsimp only;rw[ht,hmx,c0,c4,if_pos rfl,e];dsimp only;rw[c5,ht,List.take_length];exact⟨c1,k⟩
theorem iX:∀ {n:Nat} {y:Nat × Nat},y∈qG h n→y.1=h.length∧y.2≤h.length+(2+4*n)
 | 0,y,hy=>by cases hy
 | n+1,y,hy=>by
  rcases List.mem_cons.1 hy with e|e
  ·rw[e];exact⟨rfl,Nat.le_refl _⟩
  ·have:=iX e;omega
set_option maxHeartbeats 2000000 in
theorem s_New (ds:List TDev)(hd:∀ d∈ds,DevOk d)(h0:ds≠[])(h20:ds.length≤20)(hck:∀ h K,bA X jH [pC ds] h K=K (AI 0) h []) :
 bA X pN [pC ds] h K=K (.tup [.ref (h.length+1) 0,AI 0]) (CH h 0 (xB ds ds.length) []) (qG h ds.length):=by
 refine zA ?_;rw[zap rfl];simp only[bQ,go_sem,↓hck,hck,List.length_map];refine yB (fun k:Nat=>⟨[(5,.ref (h.length+1) 0),(18,pC ds),(19,AI ds.length),(20,AI k)],CH h 0 (xB ds k) [],qG h k⟩) (fun k=>k≤ds.length) (fun k=>ds.length-k) 0 ?_ (by omega) ?_
 ·simp [CH,xB,dvH,bD,qG]
 intro k hk;have lk:=z4Q hk
 have gl:∀t:aA,(CH h 0 (xB ds k) t).length=h.length+(2+4*k)+t.length:=fun t=>by rw[LH,lk]
 rw[CF];rcases Nat.lt_or_ge k ds.length with hlt|hge
 ·have D:=hd _ (List.getElem_mem hlt)
  have sn:=zfO hlt
  have hg:=XB tA hlt
  have w2:IntKind.i64.wrap ((k:Int)+1)=((k+1:Nat):Int):=LA _ (by omega) (by omega)
  have cx:lB (some 5) 0 (tA ds[k])=some (tA ds[k]):=rfl
  generalize ds[k]=d at *;have fp:∀y:TDev,tA y = .agg [.str y.name,eI y.long,eI y.id,.sl (some 2) (y.regs.map uA),.sl (some 2) (y.ins.map QA)]:=fun _=>rfl
  rw[fp]at hg cx;have c1:=fun h K=>zjX (h:=h) (K:=K) d.regs (by have:=D.rn;omega)
  have c2:=fun h K=>zjW (h:=h) (K:=K) d.ins (by have:=D.im;omega)
  have nin:=@zfR h 0 (xB ds k) d D
  have put:=@z7x h (xB ds k) d
  have ap:∀t u:aA,CH h 0 (xB ds k) t++u=CH h 0 (xB ds k) (t++u):=fun t u=>YT
  have gg0:∀(t:aA) (n:Nat),(CH h 0 (xB ds k) t)[h.length+(2+4*(xB ds k).length)+n]?=t[n]?:=fun t n=>CH_t
  have gs0:∀(t:aA) (n:Nat) (o:Obj),(CH h 0 (xB ds k) t).set (h.length+(2+4*(xB ds k).length)+n) o=CH h 0 (xB ds k) (t.set n o):=fun t n o=>ZT
  rw[lk]at nin put gg0 gs0;generalize hP:h.length+(2+4*k)=P at *;have gg1:∀(t:aA),(CH h 0 (xB ds k) t)[P]?=t[0]?:=fun t=>gg0 t 0
  have gs1:∀(t:aA) (o:Obj),(CH h 0 (xB ds k) t).set P o=CH h 0 (xB ds k) (t.set 0 o):=fun t o=>gs0 t 0 o
  rw[KQ];simp only[CJ,go_sem,hlt,hg,cx,fp,gl,ap,gg0,gs0,gg1,gs1,↓c1,c1,↓c2,c2,splice,List.length_nil,List.length_cons,List.nil_append,List.cons_append];refine nin ?_;have g0:∀t:aA,(CH h 0 (xB ds k) t)[h.length]?=some (.arow none (bD (h.length+2) k)):=fun t=>by rw[CH_0,lk]
  have g1:∀t:aA,(CH h 0 (xB ds k) t)[h.length+1]?=some (.box [AI 0,.bt 3 0 h.length k]):=fun t=>by rw[CH_1,lk]
  have rl:(bD (h.length+2) k).length=k:=z5x
  have ms:k+1≤RA:=by unfold RA;omega
  have f1:h.length<P+3+1:=by omega
  have s0:∀(t:aA) (o:Obj),(CH h 0 (xB ds k) t).set h.length o=CR h o (.box [AI 0,.bt 3 0 h.length k]) (xB ds k) t:=fun t o=>by rw[CH_R,CR_s0,lk]
  have r1:∀(t:aA) (a:Obj),(CR h a (.box [AI 0,.bt 3 0 h.length k]) (xB ds k) t)[h.length+1]?=some (.box [AI 0,.bt 3 0 h.length k]):=fun t a=>CR_1
  have s1:∀(t:aA) (a b o:Obj),(CR h a b (xB ds k) t).set (h.length+1) o=CR h a o (xB ds k) t:=fun t a b o=>z08
  have tk:∀(a b:Obj) (t:aA) (n:Nat),(CR h a b (xB ds k) t).take (P+n)=CR h a b (xB ds k) (t.take n):=fun a b t n=>by
   have:=@z7y h a b (xB ds k) t n;rw[lk,hP]at this;exact this
  simp only[go_sem,TW];simp only[qM,go_sem,g0,g1,gl,ap,gg0,rl,ms,f1,s0,r1,s1,List.length_nil,List.length_cons,List.nil_append,List.cons_append];rw[if_pos (by omega)]
  have es:MF (h.length+1) [AI 0,.bt 3 0 h.length k] (.bt 3 0 h.length (k+1))=[]:=by
   simp [MF,qC,BG,AV.top,AV.tops]
  rw[es,List.nil_append];have tr:∀(x0:Esc) (e:List (Nat×AV)) (H:aA),PD P x0 ⟨e,H,[(h.length,P+3+1)]⟩=⟨XE (P+4) e,H.take (P+4),(h.length,P+4)::x0⟩:=fun x0 e H=>by
   rw[zl6 (by omega)]
   have e1:max P (P+3+1)=P+4:=by omega
   rw[e1]
  have f2:h.length+2≤P+4:=by omega
  have f3:h.length+1+1≤P+4:=by omega
  rw[UW];simp only[rM,go_sem,w2,tr,tk,f2,f3,put rfl];refine⟨k+1,?_,by omega,by omega⟩
  rw[sn];have e4:qG h (k+1)=(h.length,P+4)::qG h k:=by
   show(h.length,h.length+(2+4*(k+1)))::qG h k=_
   rw[←hP];congr 2
  rw[e4]
 ·have ek:k=ds.length:=by omega
  subst ek;rw[KQ];have hl:h.length+1+1≤(CH h 0 (xB ds ds.length) []).length:=by rw[gl];simp;omega
  simp only[CJ,go_sem,Nat.lt_irrefl,hl,VW,sM];have dl:0<ds.length:=List.length_pos_iff.2 h0
  refine zjL (L:=h.length+(2+4*ds.length)) (fun y hy=>iX hy) ?_ (by rw[gl];simp) (by omega) ⟨rfl,rfl,rfl⟩
  obtain⟨n,hn⟩:∃n,ds.length=n+1:=⟨ds.length-1,by omega⟩
  rw[hn];exact List.mem_cons_self
end Go.Am
end
section
/- What a state does tov a device: the program. -/
open Go
set_option linter.all false
set_option maxRecDepth 100000
namespace Go.Am
variable {h:aA} {K:jA}
attribute [-go_sem] OA DB LB
def actH (H:aA)(st:Nat)(d:TDev)(p:PA)(b:UInt8)(id mi mo:Nat)(m:SM):aA:=
 if st=8 then(if(TB d p.1).name≠mB∧(TB d p.1).name≠nB then H.set mo (FA PV.str oB (vB (TB d p.1).name p.2 m)) else H)
 else if st=0∨st=3∨st=4∨st=11∨st=10∨st=15 then H.set id (.box (YB d (bC st d p b).1 mi mo)) else H
theorem JX {H:aA}{i:Nat}{o:Obj}(h1:H[i]?=some o):i<H.length:=by
 rcases Nat.lt_or_ge i H.length with q|q
 ·exact q
 ·rw[List.getElem?_eq_none q]at h1;cases h1
theorem dJ {H:aA}{i:Nat}{o:Obj}:(H.set i o).take H.length=H.set i o:=List.take_of_length_le (by simp)
attribute [-go_sem] RW GE SW UD
set_option maxHeartbeats 4000000 in
theorem s_act {H:aA}{c id mi mo a n:Nat}{st:Nat}(d:TDev)(D:DevOk d)(p:PA)(P:PortOk p)(hst:st<16)(b:UInt8)(hb:MC b)
 (hc:H[c]?=some (.box [AI st,.bt 3 0 a n])) (hh:H[id]?=some (.box (YB d p mi mo))) {m m2:SM} (hm:H[mi]?=some (FA PV.str oB m)) (hI:InM d m) (ho:H[mo]?=some (FA PV.str oB m2)) :
 bA X nN [.ref c 0,.ref id 0,.p (.int .u8 b.toNat)] H K=K (.p (.int .u8 (bC st d p b).2.toNat)) (actH H st d p b id mi mo m2) []:=by
 refine zA ?_;rw[zam rfl];have lc:=JX hc
 have li:=JX hh
 have lm:=JX ho
 have hl:d.regs.length≤1000000:=by have:=D.rn;omega
 have hi:d.ins.length≤1000000:=by have:=D.im;omega
 have q1:=fun K=>z6m (h:=H) (K:=K) d p mi mo hh hl hi
 have q2:=fun K=>zkf (h:=H) (K:=K) d D p mi mo hh hm hI hl hi
 have e1:=@RW
 have e2:=@SW
 have c0:ldB none 0 H[c]?=some (AI st):=by rw[hc];rfl
 have g5:ldB none 5 H[id]?=some (AS p.1):=by rw[hh];rfl
 have g6:ldB none 6 H[id]?=some (AS p.2):=by rw[hh];rfl
 have g8:ldB none 8 H[id]?=some (.mp mo):=by rw[hh];rfl
 have g1:ldB none 1 H[id]?=some (AI d.long):=by rw[hh];rfl
 have w5:∀s:List UInt8,stB none id 5 (AS s) H H[id]? (some [AS s])=some (.und,H.set id (.box (YB d (s,p.2) mi mo)),[]):=fun s=>by rw[hh];rfl
 have w6:∀s:List UInt8,stB none id 6 (AS s) H H[id]? (some [AS s])=some (.und,H.set id (.box (YB d (p.1,s) mi mo)),[]):=fun s=>by rw[hh];rfl
 have hmu:LB (none,[2]) (.mp mo) (AS (TB d p.1).name) (AS p.2) H=some (.und,H.set mo (FA PV.str oB (vB (TB d p.1).name p.2 m2)),[]):=z0t ho
 have fp:∀y:TReg,uA y = .agg [.str y.name,eI y.long]:=fun _=>rfl
 rw[fp]at q1;unfold actH;have fin:∀{a b:UInt8} {A B:aA},a=b→A=B→(AV.p (.int .u8 (a.toNat:Int))=AV.p (.int .u8 (b.toNat:Int))∧A=B∧([]:Esc)=[]):=fun h1 h2=>⟨by rw[h1],h2,rfl⟩
 by_cases s0:st=0
 ·subst s0
  rw[if_neg (by decide),if_pos (by decide)]
  simp only[nE,go_sem,c0,w5,e2,UD,dJ];simp [bC]
 have s0':¬(st:Int)=0:=by omega
 by_cases s3:st=3
 ·subst s3
  rw[if_neg (by decide),if_pos (by decide)]
  simp only[nE,go_sem,c0,w6,e2,UD,dJ,s0',↓q2,q2];simp [bC]
 have s3':¬(st:Int)=3:=by omega
 have mS:∀n:Nat,n≤2000000→n≤CB:=fun n h=>by unfold CB;omega
 by_cases s4:st=4∨st=11
 ·rw[if_neg (by omega),if_pos (by omega)]
  have hne:=P.ne
  have hn:=P.n
  have ea:bC st d p b=((p.1,p.2.tail++[b]),p.2.headD 0):=by unfold bC;rw[if_neg s0,if_neg s3,if_pos s4]
  rw[ea];obtain⟨p1,p2⟩:=p;cases p2 with
  | nil=>exact absurd rfl hne
  | cons x r=>
   have hr:r.length+1≤CB:=mS _ (by simp at hn;omega)
   dsimp only at w6 g6;simp only[List.tail_cons,List.headD_cons];have wb:IntKind.i32.wrap (b.toNat:Int)=(b.toNat:Int):=by rcases hb with rfl|rfl <;> rfl
   have b1:(b.toNat:Int)<128:=by rcases hb with rfl|rfl <;> decide
   have b2:UInt8.ofNat b.toNat=b:=by simp
   have b0:0≤(b.toNat:Int):=by omega
   have b3:((b.toNat:Int)).toNat=b.toNat:=by omega
   have wn:win (x::r) 1 (r.length+1-1)=r:=by simp [win]
   by_cases h4:st=4
   ·subst h4
    simp only[nE,go_sem,c0,e1,GE,e2,UD,g6,w6,dJ,s0',s3',wb,b1,b2,b0,b3,wn,hr]
   ·have h4':¬(st:Int)=4:=by omega
    have h11:(st:Int)=11:=by omega
    simp only[nE,go_sem,c0,e1,GE,e2,UD,g6,w6,dJ,s0',s3',h4',h11,wb,b1,b2,b0,b3,wn,hr]
 have s4':¬(st:Int)=4:=by omega
 have s11':¬(st:Int)=11:=by omega
 by_cases s8:st=8
 ·subst s8
  rw[if_pos rfl];have ea:bC 8 d p b=(p,b):=rfl
  rw[ea];by_cases n1:(TB d p.1).name=mB
  ·rw[if_neg (by simp [n1])]
   unfold mB at n1;simp only[nE,go_sem,c0,e1,GE,e2,UD,s0',s3',s4',s11',↓q1,q1,n1]
  ·by_cases n2:(TB d p.1).name=nB
   ·rw[if_neg (by simp [n2])]
    unfold nB at n2;unfold mB at n1;simp only[nE,go_sem,c0,e1,GE,e2,UD,s0',s3',s4',s11',↓q1,q1,eq_false n1,eq_true n2]
   ·rw[if_pos ⟨n1,n2⟩]
    unfold nB at n2;unfold mB at n1;simp only[nE,go_sem,c0,e1,GE,e2,UD,s0',s3',s4',s11',↓q1,q1,n1,n2,g8,g6,hmu,dJ]
 have s8':¬(st:Int)=8:=by omega
 rw[if_neg s8];by_cases s10:st=10
 ·subst s10
  rw[if_pos (by decide)]
  have w1:IntKind.i64.wrap (d.long-1)=d.long-1:=LA _ (by have:=D.lo;omega) (by have:=D.hi;omega)
  have rz:=fun h K=>ZI (h:=h) (K:=K) (d.long-1) (by have:=D.lo;omega) (by have:=D.hi;omega)
  have ln:(zs (d.long-1).toNat).length+1≤CB:=mS _ (by have:=D.hi;simp [zs];omega)
  have ln2:1+(zs (d.long-1).toNat).length≤CB:=by omega
  have ea:bC 10 d p b=((p.1,49::zs (d.long-1).toNat),b):=rfl
  rw[ea];simp only[nE,go_sem,c0,e1,GE,e2,UD,g1,w6,dJ,s0',s3',s4',s11',s8',w1,↓rz,rz,ln,ln2]
 have s10':¬(st:Int)=10:=by omega
 by_cases s15:st=15
 ·subst s15
  rw[if_pos (by decide)]
  have ea:bC 15 d p b=((p.2,p.2),b):=rfl
  rw[ea];simp only[nE,go_sem,c0,e1,GE,e2,UD,g6,w5,dJ,s0',s3',s4',s11',s8',s10']
 have s15':¬(st:Int)=15:=by omega
 rw[if_neg (by omega)]
 have ea:bC st d p b=(p,b):=by unfold bC;rw[if_neg s0,if_neg s3,if_neg s4,if_neg s10,if_neg s15]
 rw[ea];simp only[nE,go_sem,c0,e1,GE,e2,UD,s0',s3',s4',s11',s8',s10',s15']
end Go.Am
end
section
/- A chain is clocked: the program. -/
open Go
set_option linter.all false
set_option maxRecDepth 100000
namespace Go.Am
variable {h:aA} {K:jA}
attribute [-go_sem] OA DB LB
def PortS.act (st:Nat)(q:PortS)(b:UInt8):PortS×UInt8:=
 (⟨q.d,(bC st q.d q.p b).1,q.mi,if st=8∧(TB q.d q.p.1).name≠mB∧(TB q.d q.p.1).name≠nB then vB (TB q.d q.p.1).name q.p.2 q.mo else q.mo⟩,(bC st q.d q.p b).2)
structure PSOk (q:PortS):Prop where
 D:DevOk q.d
 P:PortOk q.p
 I:InM q.d q.mi
theorem CH_p {st:Int}{l:List PortS}{t:aA}{i:Nat}{q:PortS}(hi:l[i]?=some q):(CH h st l t)[h.length+2+4*i+3]?=some (.box (YB q.d q.p (h.length+2+4*i+1) (h.length+2+4*i+2))):=by
 unfold CH;have lt:i<l.length:=by rcases Nat.lt_or_ge i l.length with c|c;exact c;rw[List.getElem?_eq_none c]at hi;cases hi
 have e:h.length+2+4*i+3=h.length+((4*i+3)+1+1):=by omega
 rw[e,DD,List.getElem?_cons_succ,List.getElem?_cons_succ,List.getElem?_append_left (by rw[fF];omega),z2g hi]
theorem CH_mi {st:Int}{l:List PortS}{t:aA}{i:Nat}{q:PortS}(hi:l[i]?=some q):(CH h st l t)[h.length+2+4*i+1]?=some (FA PV.str oB q.mi):=by
 unfold CH;have lt:i<l.length:=by rcases Nat.lt_or_ge i l.length with c|c;exact c;rw[List.getElem?_eq_none c]at hi;cases hi
 have e:h.length+2+4*i+1=h.length+((4*i+1)+1+1):=by omega
 rw[e,DD,List.getElem?_cons_succ,List.getElem?_cons_succ,List.getElem?_append_left (by rw[fF];omega),z2e hi]
theorem CH_mo {st:Int}{l:List PortS}{t:aA}{i:Nat}{q:PortS}(hi:l[i]?=some q):(CH h st l t)[h.length+2+4*i+2]?=some (FA PV.str oB q.mo):=by
 unfold CH;have lt:i<l.length:=by rcases Nat.lt_or_ge i l.length with c|c;exact c;rw[List.getElem?_eq_none c]at hi;cases hi
 have e:h.length+2+4*i+2=h.length+((4*i+2)+1+1):=by omega
 rw[e,DD,List.getElem?_cons_succ,List.getElem?_cons_succ,List.getElem?_append_left (by rw[fF];omega),z2f hi]
theorem CH_sp {st:Int}{l:List PortS}{t:aA}{i:Nat}{q:PortS}{p:PA}(hi:l[i]?=some q):(CH h st l t).set (h.length+2+4*i+3) (.box (YB q.d p (h.length+2+4*i+1) (h.length+2+4*i+2)))=CH h st (l.set i { q with p:=p }) t:=by
 unfold CH;have lt:i<l.length:=by rcases Nat.lt_or_ge i l.length with c|c;exact c;rw[List.getElem?_eq_none c]at hi;cases hi
 have e:h.length+2+4*i+3=h.length+((4*i+3)+1+1):=by omega
 have e2:=z2i (p:=p) (b:=h.length+2) hi
 rw[e,FF,List.set_cons_succ,List.set_cons_succ,List.set_append_left _ _ (by rw[fF];omega),e2,List.length_set]
theorem CH_so {st:Int}{l:List PortS}{t:aA}{i:Nat}{q:PortS}{m:SM}(hi:l[i]?=some q):(CH h st l t).set (h.length+2+4*i+2) (FA PV.str oB m)=CH h st (l.set i { q with mo:=m }) t:=by
 unfold CH;have lt:i<l.length:=by rcases Nat.lt_or_ge i l.length with c|c;exact c;rw[List.getElem?_eq_none c]at hi;cases hi
 have e:h.length+2+4*i+2=h.length+((4*i+2)+1+1):=by omega
 have e2:=z2h (m:=m) (b:=h.length+2) hi
 rw[e,FF,List.set_cons_succ,List.set_cons_succ,List.set_append_left _ _ (by rw[fF];omega),e2,List.length_set]
theorem z65 {α:Type}{l:List α}{i:Nat}{a:α}(h:l[i]?=some a):l.set i a=l:=by
 apply List.ext_getElem?
 intro j;rw[List.getElem?_set];by_cases e:i=j
 ·subst e
  rw[if_pos rfl];rcases Nat.lt_or_ge i l.length with c|c
  ·rw[if_pos c,h]
  ·rw[List.getElem?_eq_none c]at h;cases h
 ·rw[if_neg e]
theorem z8Q {st:Nat}{l:List PortS}{t:aA}{i:Nat}{q:PortS}{b:UInt8}(hi:l[i]?=some q) :
 actH (CH h st l t) st q.d q.p b (h.length+2+4*i+3) (h.length+2+4*i+1) (h.length+2+4*i+2) q.mo=CH h st (l.set i (q.act st b).1) t:=by
 unfold actH PortS.act;by_cases h8:st=8
 ·subst h8
  rw[if_pos rfl];have e:(bC 8 q.d q.p b).1=q.p:=rfl
  rw[e];by_cases hn:(TB q.d q.p.1).name≠mB∧(TB q.d q.p.1).name≠nB
  ·rw[if_pos hn,if_pos ⟨rfl,hn⟩,CH_so hi]
  ·rw[if_neg hn,if_neg (show ¬((8:Nat)=8∧(TB q.d q.p.1).name≠mB∧(TB q.d q.p.1).name≠nB) from fun c=>hn c.2)]
   exact congrArg (fun l=>CH h _ l t) (z65 hi).symm
 ·rw[if_neg h8,if_neg (show ¬(st=8∧(TB q.d q.p.1).name≠mB∧(TB q.d q.p.1).name≠nB) from fun c=>h8 c.1)]
  by_cases hs:st=0∨st=3∨st=4∨st=11∨st=10∨st=15
  ·rw[if_pos hs,CH_sp hi]
  ·rw[if_neg hs]
   have e:(bC st q.d q.p b).1=q.p:=by
    unfold bC;rw[if_neg (by omega),if_neg (by omega),if_neg (by omega),if_neg (by omega),if_neg (by omega)]
   rw[e];exact congrArg (fun l=>CH h _ l t) (z65 hi).symm
theorem oV {st:Nat}{q:PortS}{b:UInt8}(Q:PSOk q)(hb:MC b):PSOk (q.act st b).1∧MC (q.act st b).2:=by
 obtain⟨a1,a2⟩:=z8R Q.D Q.P st hb;exact⟨⟨Q.D,a1,Q.I⟩,a2⟩
def uC (st:Nat):List PortS→UInt8→List PortS×UInt8
 | q::r,b=>let y:=q.act st b;let z:=uC st r y.2; (y.1::z.1,z.2)
 | [],b=>([],b)
theorem z0U (st:Nat):∀(l:List PortS) (b:UInt8),(uC st l b).2=(SD st (l.map PortS.d) (l.map PortS.p) b).2∧(uC st l b).1.map PortS.p=(SD st (l.map PortS.d) (l.map PortS.p) b).1∧(uC st l b).1.map PortS.d=l.map PortS.d
 | [],b=>⟨rfl,rfl,rfl⟩
 | q::r,b=>by
  obtain⟨a1,a2,a3⟩:=z0U st r (q.act st b).2;exact⟨a1,by simp only[uC,SD,List.map_cons,a2];rfl,by simp only[uC,List.map_cons,a3];rfl⟩
theorem z0W (st:Nat):∀(l:List PortS) (b:UInt8),(∀q∈l,PSOk q)→MC b→(∀q∈(uC st l b).1,PSOk q)∧MC (uC st l b).2
 | [],b,_,hb=>⟨by simp [uC],hb⟩
 | q::r,b,hl,hb=>by
  obtain⟨a1,a2⟩:=oV (st:=st) (hl q List.mem_cons_self) hb;obtain⟨b1,b2⟩:=z0W st r _ (fun x hx=>hl x (List.mem_cons_of_mem _ hx)) a2
  refine⟨fun x hx=>?_,b2⟩
  rcases List.mem_cons.1 hx with e|e
  ·rw[e];exact a1
  ·exact b1 x e
theorem z0V (st:Nat):∀(l:List PortS) (b:UInt8),(uC st l b).1.length=l.length
 | [],_=>rfl
 | q::r,b=>by simp [uC,z0V st r]
theorem zgb:∀ s<16,∀ t<2,nxt s t=stp s t:=by decide
theorem zkz (s t:Nat)(hs:s<16)(ht:t<2):bA X HE [AI s,AI t] h K=K (AI (stp s t)) h []:=by
 rw[z4k (Y:=X) rfl s t hs ht,zgb s hs t ht]
def clkO (st:Nat)(b:UInt8):Int:=if st=4∨st=11 then(b.toNat:Int)-48 else -1
attribute [-go_sem] JM jI KM kI
set_option maxHeartbeats 2000000 in
theorem zky (tl:aA)(l:List PortS)(hl:∀ q∈l,PSOk q)(h20:l.length≤1000)(st:Nat)(hst:st<16)(tms tdi:UInt8)(h1:MC tms)(h2:MC tdi) :
 bA X oN [.ref (h.length+1) 0,AI ((tms.toNat-48:Nat):Int),AI ((tdi.toNat-48:Nat):Int)] (CH h st l tl) K=K (AI (clkO st (uC st l tdi).2)) (CH h (stW st tms) (uC st l tdi).1 tl) []:=by
 refine zA ?_;rw[zan rfl];have w1:IntKind.i64.wrap (48+((tdi.toNat-48:Nat):Int))=((tdi.toNat:Nat):Int):=by rcases h2 with rfl|rfl <;> rfl
 have w2:IntKind.u8.wrap (tdi.toNat:Int)=(tdi.toNat:Int):=by rcases h2 with rfl|rfl <;> rfl
 have c1:(CH h st l tl)[h.length+1]?=some (.box [AI st,.bt 3 0 h.length l.length]):=CH_1
 have c1':ldB none 1 (CH h st l tl)[h.length+1]?=some (.bt 3 0 h.length l.length):=by rw[c1];rfl
 simp only[ZP,go_sem,w1,w2,c1'];refine yB (fun t:List PortS×List PortS×UInt8=>⟨[(0,.ref (h.length+1) 0),(1,AI ((tms.toNat-48:Nat):Int)),(7,.p (.int .u8 t.2.2.toNat)),(17,.bt 3 0 h.length l.length),(18,AI l.length),(19,AI t.1.length)],CH h st (t.1++t.2.1) tl,[]⟩)
  (fun t=>(uC st l tdi=(t.1++(uC st t.2.1 t.2.2).1,(uC st t.2.1 t.2.2).2)∧t.1.length+t.2.1.length=l.length)∧(∀q∈t.1++t.2.1,PSOk q)∧MC t.2.2) (fun t=>t.2.1.length) ([],l,tdi) rfl ⟨⟨rfl,by simp⟩,by simpa using hl,h2⟩ ?_
 rintro⟨dn,rs,b⟩ ⟨⟨i1,i2⟩,i3,i4⟩
 dsimp only at i1 i2 i3 i4 ⊢;have ll:(dn++rs).length=l.length:=by simpa using i2
 cases rs with
 | cons q rs=>
  have hq:(dn++q::rs)[dn.length]?=some q:=by simp
  have Q:=i3 q (by simp)
  have hlt:dn.length<l.length:=by simp at i2;omega
  have hlt':(dn.length:Int)<(l.length:Int):=by omega
  have hs:(dn++q::rs).set dn.length (q.act st b).1=(dn++[(q.act st b).1])++rs:=by simp
  have w3:IntKind.i64.wrap ((dn.length:Int)+1)=((dn.length+1:Nat):Int):=LA _ (by omega) (by omega)
  have ac:=fun K=>s_act (H:=CH h st (dn++q::rs) tl) (K:=K) (c:=h.length+1) (a:=h.length) (n:=(dn++q::rs).length) q.d Q.D q.p Q.P hst b i4 CH_1 (CH_p hq) (CH_mi hq) Q.I (CH_mo hq)
  rw[z8Q hq,hs]at ac;have c0:(CH h st (dn++q::rs) tl)[h.length]?=some (.arow none (bD (h.length+2) l.length)):=by rw[CH_0,ll]
  have rl:(bD (h.length+2) l.length).length=l.length:=z5x
  have rg:(bD (h.length+2) l.length)[dn.length]?=some (.ref (h.length+2+4*dn.length+3) 0):=zj2 hlt
  have eo:(bC st q.d q.p b).2=(q.act st b).2:=rfl
  rw[eo]at ac;have sh1:gA none=1:=rfl
  simp only[go_sem,Nat.mul_one,hlt',hlt,c0,rl,rg,↓ac,ac,w3];refine⟨(dn++[(q.act st b).1],rs,(q.act st b).2),by simp,⟨⟨?_,?_⟩,fun y hy=>?_,(oV Q i4).2⟩,by simp⟩
  ·rw[i1];simp [uC]
  ·simp at i2 ⊢;omega
  ·simp only[List.append_assoc,List.mem_append,List.mem_cons,List.not_mem_nil,or_false]at hy
   rcases hy with e|e|e
   ·exact i3 y (by simp [e])
   ·rw[e];exact(oV Q i4).1
   ·exact i3 y (by simp [e])
 | nil=>
  have hlen:dn.length=l.length:=by simpa using i2
  rw[List.append_nil]at ll i3 ⊢;have e1:(uC st l tdi).1=dn:=by rw[i1];simp [uC]
  have e2:(uC st l tdi).2=b:=by rw[i1];rfl
  rw[e1,e2];have n1:¬(dn.length:Int)<(l.length:Int):=by omega
  have c1:(CH h st dn tl)[h.length+1]?=some (.box [AI st,.bt 3 0 h.length dn.length]):=CH_1
  have c2:ldB none 0 (CH h st dn tl)[h.length+1]?=some (AI st):=by rw[c1];rfl
  have t2:tms.toNat-48<2:=by rcases h1 with rfl|rfl <;> decide
  have nx:=fun K=>zkz (h:=CH h st dn tl) (K:=K) st (tms.toNat-48) hst t2
  have s1:∀v:Int,stB none (h.length+1) 0 (AI v) (CH h st dn tl) (CH h st dn tl)[h.length+1]? (some [AI v])=some (.und,CH h v dn tl,[]):=fun v=>by
   rw[c1];show some (AV.und,(CH h st dn tl).set (h.length+1) _,_)=_
   rw[CH_R,z08];rfl
  have tk:∀v:Int,(CH h v dn tl).take (CH h st l tl).length=CH h v dn tl:=fun v=>List.take_of_length_le (by rw[LH,LH];omega)
  have f1:h.length+1+1≤(CH h st l tl).length:=by rw[LH];omega
  have es:stW st tms=stp st (tms.toNat-48):=rfl
  have w3:IntKind.u8.wrap ((b.toNat:Int)-48)=(b.toNat:Int)-48:=by rcases i4 with rfl|rfl <;> rfl
  have w4:IntKind.i64.wrap ((b.toNat:Int)-48)=(b.toNat:Int)-48:=by rcases i4 with rfl|rfl <;> rfl
  unfold clkO;by_cases s4:st=4
  ·rw[if_pos (by omega)]
   have s4':(st:Int)=4:=by omega
   simp only[go_sem,n1,KM,kI,JM,jI,c2,w3,w4,↓nx,nx,s1,tk,es,eq_true s4']
  ·have s4':¬(st:Int)=4:=by omega
   by_cases s11:st=11
   ·have s11':(st:Int)=11:=by omega
    rw[if_pos (by omega)]
    simp only[go_sem,n1,KM,kI,JM,jI,c2,w3,w4,↓nx,nx,s1,tk,es,s4',eq_true s11']
   ·have s11':¬(st:Int)=11:=by omega
    rw[if_neg (by omega)]
    simp only[go_sem,n1,KM,kI,JM,jI,c2,w3,w4,↓nx,nx,s1,tk,es,s4',s11']
end Go.Am
end
